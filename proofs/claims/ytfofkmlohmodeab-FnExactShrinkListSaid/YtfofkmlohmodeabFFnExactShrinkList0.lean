/- What functions of the program come to on the abstract machine, and that they do so; printed by a program of mine around proofs of mine. -/
import Derived.Test.YtfofkmlohmodeabProg
import Derived.Test.YtfofkmlohmodeabLibA
import Derived.Test.YtfofkmlohmodeabOpen
import Derived.Test.YtfofkmlohmodeabLibB
import Derived.Test.YtfofkmlohmodeabFl
set_option linter.unusedVariables false
set_option linter.unusedSimpArgs false
set_option maxRecDepth 100000
namespace Go.Proofs.Ytfofkmlohmodeab.Ai
open Go
attribute [local irreducible] bodyK
theorem mix_ok : Try.prog.follows .mixedOrders = true := by kernel_rfl
def p_laws_toFloat32S_l1 (l_a : List Nat) : Nat → Int → (List Nat) → (List Nat)
  | 0, _, _ => []
  | μ + 1, i, y1_1 => (bif decide ((i : Int) < (l_a.length : Int)) then (p_laws_toFloat32S_l1 l_a μ (i + 1) (((y1_1).set (i : Int).toNat ((((l_a).getD (i : Int).toNat 0)))))) else y1_1)
theorem p_laws_toFloat32S_l1_s (l_a : List Nat) (μ : Nat) (i : Int) (y1_1 : List Nat) : p_laws_toFloat32S_l1 l_a (μ + 1) i y1_1 = (bif decide ((i : Int) < (l_a.length : Int)) then (p_laws_toFloat32S_l1 l_a μ (i + 1) (((y1_1).set (i : Int).toNat ((((l_a).getD (i : Int).toNat 0)))))) else y1_1) := rfl
def p_laws_toFloat32S (l_a : List Nat) : (List Nat) := (p_laws_toFloat32S_l1 l_a (Int.toNat ((l_a.length : Int) - (0 : Int)) + 1) (0 : Int) (List.replicate (((l_a.length : Int)).toNat) 0))
theorem p_laws_toFloat32S_eq (l_a : List Nat) : p_laws_toFloat32S l_a = (p_laws_toFloat32S_l1 l_a (Int.toNat ((l_a.length : Int) - (0 : Int)) + 1) (0 : Int) (List.replicate (((l_a.length : Int)).toNat) 0)) := rfl
def T_laws_toFloat32S (a_a : Option Addr) (a_n : Nat) (a_e : Nat) (H : AHeap) (K : (Option Addr) → Nat → Nat → AHeap → Prop) : Prop := ∃ (l_a : List Nat), IsL fF H a_a a_n l_a ∧ l_a.length < 1073741824 ∧ ((∀ (r1_a : Option Addr) (r1_n r1_e : Nat), ∀ H' : AHeap, Grow H H' → OwnS fF H' H.length r1_a r1_n r1_e l_a → K r1_a r1_n r1_e H'))
theorem T_laws_toFloat32S_i {a_a : Option Addr} {a_n : Nat} {a_e : Nat} {H : AHeap} {K : (Option Addr) → Nat → Nat → AHeap → Prop} (h : ∃ (l_a : List Nat), IsL fF H a_a a_n l_a ∧ l_a.length < 1073741824 ∧ ((∀ (r1_a : Option Addr) (r1_n r1_e : Nat), ∀ H' : AHeap, Grow H H' → OwnS fF H' H.length r1_a r1_n r1_e l_a → K r1_a r1_n r1_e H'))) : T_laws_toFloat32S a_a a_n a_e H K := h
theorem laws_toFloat32S_go (l : List Nat) : ∀ (μ : Nat) (i : Nat) (ys : List Nat), ys.length = l.length → i ≤ l.length → l.length - i < μ →
    p_laws_toFloat32S_l1 l μ (i : Int) (l.take i ++ ys.drop i) = l := by
  intro μ
  induction μ with
  | zero => intro i ys _ _ h; omega
  | succ μ ih =>
    intro i ys hy hi hm
    rw [p_laws_toFloat32S_l1_s]
    by_cases h : i < l.length
    · rw [decide_eq_true (show (i : Int) < (l.length : Int) by omega), cond_true]
      have hx : l[i]? = some (l.getD i 0) := by rw [List.getD_eq_getElem?_getD, List.getElem?_eq_getElem h]; rfl
      rw [Int.toNat_natCast, set_front l ys i (by omega) hy.symm _ hx]
      exact ih (i + 1) ys hy (by omega) (by omega)
    · rw [decide_eq_false (show ¬ (i : Int) < (l.length : Int) by omega), cond_false]
      rw [List.take_of_length_le (by omega), List.drop_eq_nil_of_le (by omega), List.append_nil]
theorem laws_toFloat32S_id (l : List Nat) : p_laws_toFloat32S l = l := by
  rw [p_laws_toFloat32S_eq]
  have := laws_toFloat32S_go l (Int.toNat ((l.length : Int) - 0) + 1) 0 (List.replicate ((l.length : Int)).toNat 0) (by simp) (by omega) (by omega)
  simpa using this
/-! laws_toFloat32S: function 22 -/
def E_laws_toFloat32S : Env := envOf []
def F_laws_toFloat32S : List Value → AHeap → (Value → AHeap → Prop) → Prop
  | [.slice a_a a_n a_e], H, K => T_laws_toFloat32S a_a a_n a_e H fun (r1_a : Option Addr) (r1_n : Nat) (r1_e : Nat) (H' : AHeap) => K (.slice r1_a r1_n r1_e) H'
  | _, _, _ => False
def S_laws_toFloat32S : FSpec := { F := F_laws_toFloat32S, quiet := false, tame := true }
theorem laws_toFloat32S_vc (a_a : Option Addr) (a_n : Nat) (a_e : Nat) (H : AHeap) (K : Value → AHeap → Prop) : bodyK Try.prog E_laws_toFloat32S Try.f22 [.slice a_a a_n a_e] H K =
  ((0 : Int) ≤ (a_n : Int) ∧ (a_n : Int) = (a_n : Int) ∧ (a_n : Int) < (most : Int) ∧ Al (zerosOf (.float .f32 0) ((a_n : Int)).toNat) H fun b1 H1 => loopK (exK Try.prog E_laws_toFloat32S (cl (cl (cr (cl (cr (cr (bodyC Try.f22)))))))) [.slice a_a a_n a_e, undef, .slice none 0 0, .slice (some ⟨b1, 0, none⟩) (((a_n : Int)).toNat) 1, .int .i64 0, .slice a_a a_n a_e, .int .i64 (a_n : Int), .slice (some ⟨b1, 0, none⟩) (((a_n : Int)).toNat) 1, undef, undef, undef, undef, undef, undef, undef, undef, undef, undef, undef, undef, undef, undef] H1 (blockQ 0 (seqQ (exK Try.prog E_laws_toFloat32S (cr (cr (cr (bodyC Try.f22))))) (retK Try.prog Try.f22 K)))) := by kernel_rfl
theorem laws_toFloat32S_r1 (a_a : Option Addr) (a_e : Nat) (a_n : Nat) (b1 : Nat) (i : Int) (g8 g9 g10 g11 g12 g13 g14 g15 g16 g17 g18 g19 g20 : Value) (H : AHeap) (R : Post) : exK Try.prog E_laws_toFloat32S (cl (cl (cr (cl (cr (cr (bodyC Try.f22))))))) [.slice a_a a_n a_e, undef, .slice none 0 0, .slice (some ⟨b1, 0, none⟩) (((a_n : Int)).toNat) 1, .int .i64 i, .slice a_a a_n a_e, .int .i64 (a_n : Int), .slice (some ⟨b1, 0, none⟩) (((a_n : Int)).toNat) 1, g8, g9, g10, g11, g12, g13, g14, g15, g16, g17, g18, g19, g20, undef] H R =
  (Br (decide ((i : Int) < (a_n : Int))) ((0 : Int) ≤ i ∧ i < (a_n : Int) ∧ ∃ b2 f1, (a_a : Option Addr) = some ⟨b2, f1, none⟩ ∧ ∃ x1 : Nat,  rdC H b2 (f1 + (i : Int).toNat * 1) = some (.float .f32 x1) ∧ (0 : Int) ≤ i ∧ i < (((a_n : Int)).toNat : Int) ∧ ∃ b3 f2, (some ⟨b1, 0, none⟩ : Option Addr) = some ⟨b3, f2, none⟩ ∧ isOwn H b3 ∧ (∃ l, rdN H b3 (f2 + (i : Int).toNat * 1) 1 = some l) ∧ Lt (setC H b3 (f2 + (i : Int).toNat * 1) (.float .f32 x1)) fun H2 => R .normal [.slice a_a a_n a_e, undef, .slice none 0 0, .slice (some ⟨b1, 0, none⟩) (((a_n : Int)).toNat) 1, .int .i64 (IntKind.wrap .i64 (i + 1)), .slice a_a a_n a_e, .int .i64 (a_n : Int), .slice (some ⟨b1, 0, none⟩) (((a_n : Int)).toNat) 1, .int .i64 i, .slice a_a a_n a_e, .int .i64 (a_n : Int), .bool (decide ((i : Int) < (a_n : Int))), .int .i64 i, .int .i64 (IntKind.wrap .i64 (i + 1)), .slice (some ⟨b1, 0, none⟩) (((a_n : Int)).toNat) 1, .int .i64 i, .slice a_a a_n a_e, .int .i64 i, .pointer (some ⟨b2, f1 + (i : Int).toNat * 1, none⟩), .float .f32 x1, .pointer (some ⟨b3, f2 + (i : Int).toNat * 1, none⟩), undef] H2) (R (.exit 0) [.slice a_a a_n a_e, undef, .slice none 0 0, .slice (some ⟨b1, 0, none⟩) (((a_n : Int)).toNat) 1, .int .i64 i, .slice a_a a_n a_e, .int .i64 (a_n : Int), .slice (some ⟨b1, 0, none⟩) (((a_n : Int)).toNat) 1, .int .i64 i, .slice a_a a_n a_e, .int .i64 (a_n : Int), .bool (decide ((i : Int) < (a_n : Int))), g12, g13, g14, g15, g16, g17, g18, g19, g20, undef] H)) := by kernel_rfl
def laws_toFloat32S_I1 (a_a : Option Addr) (a_e : Nat) (a_n : Nat) (b1 : Nat) (Inv : Nat → Int → AHeap → Prop) : Nat → List Value → AHeap → Prop := fun μ tm H => ∃ (i : Int), ∃ g8 g9 g10 g11 g12 g13 g14 g15 g16 g17 g18 g19 g20, tm = [.slice a_a a_n a_e, undef, .slice none 0 0, .slice (some ⟨b1, 0, none⟩) (((a_n : Int)).toNat) 1, .int .i64 i, .slice a_a a_n a_e, .int .i64 (a_n : Int), .slice (some ⟨b1, 0, none⟩) (((a_n : Int)).toNat) 1, g8, g9, g10, g11, g12, g13, g14, g15, g16, g17, g18, g19, g20, undef] ∧ Inv μ i H
theorem laws_toFloat32S_L1 (a_a : Option Addr) (a_e : Nat) (a_n : Nat) (b1 : Nat) {Q : Post} (Inv : Nat → Int → AHeap → Prop) (ν : Nat) (i : Int) (g8 g9 g10 g11 g12 g13 g14 g15 g16 g17 g18 g19 g20 : Value) (H : AHeap) (h0 : Inv ν i H)
    (hs : ∀ (μ : Nat) (i : Int) (g8 g9 g10 g11 g12 g13 g14 g15 g16 g17 g18 g19 g20 : Value) (H : AHeap), Inv μ i H → exK Try.prog E_laws_toFloat32S (cl (cl (cr (cl (cr (cr (bodyC Try.f22))))))) [.slice a_a a_n a_e, undef, .slice none 0 0, .slice (some ⟨b1, 0, none⟩) (((a_n : Int)).toNat) 1, .int .i64 i, .slice a_a a_n a_e, .int .i64 (a_n : Int), .slice (some ⟨b1, 0, none⟩) (((a_n : Int)).toNat) 1, g8, g9, g10, g11, g12, g13, g14, g15, g16, g17, g18, g19, g20, undef] H (loopQ (laws_toFloat32S_I1 a_a a_e a_n b1 Inv) μ Q)) : loopK (exK Try.prog E_laws_toFloat32S (cl (cl (cr (cl (cr (cr (bodyC Try.f22)))))))) [.slice a_a a_n a_e, undef, .slice none 0 0, .slice (some ⟨b1, 0, none⟩) (((a_n : Int)).toNat) 1, .int .i64 i, .slice a_a a_n a_e, .int .i64 (a_n : Int), .slice (some ⟨b1, 0, none⟩) (((a_n : Int)).toNat) 1, g8, g9, g10, g11, g12, g13, g14, g15, g16, g17, g18, g19, g20, undef] H Q :=
  ⟨laws_toFloat32S_I1 a_a a_e a_n b1 Inv, ν, ⟨i, g8, g9, g10, g11, g12, g13, g14, g15, g16, g17, g18, g19, g20, rfl, h0⟩, fun μ tm H h => by obtain ⟨i, g8, g9, g10, g11, g12, g13, g14, g15, g16, g17, g18, g19, g20, rfl, hI⟩ := h; exact hs μ i g8 g9 g10 g11 g12 g13 g14 g15 g16 g17 g18 g19 g20 H hI⟩
theorem laws_toFloat32S_n1 {a_a : Option Addr} {a_e : Nat} {a_n : Nat} {b1 : Nat} {Q : Post} {Inv : Nat → Int → AHeap → Prop} {μ : Nat} (μ' : Nat) {i : Int} {g8 g9 g10 g11 g12 g13 g14 g15 g16 g17 g18 g19 g20 : Value} {H : AHeap} (hm : μ' < μ) (hI : Inv μ' i H) : loopQ (laws_toFloat32S_I1 a_a a_e a_n b1 Inv) μ Q .normal [.slice a_a a_n a_e, undef, .slice none 0 0, .slice (some ⟨b1, 0, none⟩) (((a_n : Int)).toNat) 1, .int .i64 i, .slice a_a a_n a_e, .int .i64 (a_n : Int), .slice (some ⟨b1, 0, none⟩) (((a_n : Int)).toNat) 1, g8, g9, g10, g11, g12, g13, g14, g15, g16, g17, g18, g19, g20, undef] H := ⟨μ', hm, i, g8, g9, g10, g11, g12, g13, g14, g15, g16, g17, g18, g19, g20, rfl, hI⟩
theorem laws_toFloat32S_x1_0 (a_a : Option Addr) (a_e : Nat) (a_n : Nat) (b1 : Nat) (i : Int) (g8 g9 g10 g11 g12 g13 g14 g15 g16 g17 g18 g19 g20 : Value) (H : AHeap) (K : Value → AHeap → Prop)  {I : Nat → List Value → AHeap → Prop} {μ : Nat} : loopQ I μ (blockQ 0 (seqQ (exK Try.prog E_laws_toFloat32S (cr (cr (cr (bodyC Try.f22))))) (retK Try.prog Try.f22 K))) (.exit 0) [.slice a_a a_n a_e, undef, .slice none 0 0, .slice (some ⟨b1, 0, none⟩) (((a_n : Int)).toNat) 1, .int .i64 i, .slice a_a a_n a_e, .int .i64 (a_n : Int), .slice (some ⟨b1, 0, none⟩) (((a_n : Int)).toNat) 1, g8, g9, g10, g11, g12, g13, g14, g15, g16, g17, g18, g19, g20, undef] H =
  (K (.slice (some ⟨b1, 0, none⟩) (((a_n : Int)).toNat) 1) H) := by kernel_rfl
theorem E_laws_toFloat32S_ok : ∀ g, FnOk Try.prog g (E_laws_toFloat32S g) := FnOk.envOf (by
  intro x hx; cases hx)
set_option maxHeartbeats 1000000 in
theorem laws_toFloat32S_main (a_a : Option Addr) (a_n : Nat) (a_e : Nat) (H : AHeap) (K : Value → AHeap → Prop) (h : T_laws_toFloat32S a_a a_n a_e H fun (r1_a : Option Addr) (r1_n : Nat) (r1_e : Nat) (H' : AHeap) => K (.slice r1_a r1_n r1_e) H') : bodyK Try.prog E_laws_toFloat32S Try.f22 [.slice a_a a_n a_e] H K := by
  rw [laws_toFloat32S_vc]
  obtain ⟨l_a, i_a, bd_29, hk⟩ := h
  have hk : (∀ (r1_a : Option Addr) (r1_n r1_e : Nat), ∀ H' : AHeap, Grow H H' → OwnS fF H' H.length r1_a r1_n r1_e (p_laws_toFloat32S l_a) → (fun (r1_a : Option Addr) (r1_n : Nat) (r1_e : Nat) (H' : AHeap) => K (.slice r1_a r1_n r1_e) H') r1_a r1_n r1_e H') := by rw [laws_toFloat32S_id l_a]; exact hk
  obtain rfl := i_a.eqn
  have e : (p_laws_toFloat32S l_a) = _ := rfl
  have e := e.trans (p_laws_toFloat32S_eq l_a)
  have g0 := Grow.refl H
  refine ⟨by omega, rfl, (by have := most_eq; omega), ?_⟩
  refine Al.intro (fun b_1 H_1 hb_2 hl_3 g_4 o_5 => ?_)
  rw [zeros_map fF 0 _ rfl] at o_5
  have l_7 := g_4.1
  have g_8 := g0.trans g_4
  have l_9 := g_8.1
  have w_28 := o_5.lt
  refine laws_toFloat32S_L1 _ _ _ _ (fun (μ : Nat) (i : Int) (H_2 : AHeap) => ∃ (y1_1 : List Nat), Own H_2 b_1 (y1_1.map fF) ∧ y1_1.length = ((l_a.length : Int)).toNat ∧ Grow H H_2 ∧ (0 : Int) ≤ i ∧ i ≤ (l_a.length : Int) ∧ (l_a.length : Int) - i ≤ (μ : Int) ∧ p_laws_toFloat32S l_a = p_laws_toFloat32S_l1 l_a (μ + 1) i y1_1) (Int.toNat ((l_a.length : Int) - (0 : Int))) _ _ _ _ _ _ _ _ _ _ _ _ _ _ H_1 ?_ ?_
  · exact ⟨_, o_5, (by first | rfl | (simp; done)), g_8, (by first | omega | (simp; done) | (simp; omega)), (by first | omega | (simp; done) | (simp; omega)), (by omega), e⟩
  · intro μ i g8 g9 g10 g11 g12 g13 g14 g15 g16 g17 g18 g19 g20 H_2 hI
    obtain ⟨y1_1, o_10, y_11, g_12, v_13, v_14, hμ, e⟩ := hI
    rw [laws_toFloat32S_r1]
    have e := e.trans (p_laws_toFloat32S_l1_s l_a μ i y1_1)
    have w_15 := o_10.lt
    have l_16 := g_12.1
    refine Br.intro (fun c_17 => ?_) (fun c_17 => ?_)
    · have e := e.trans (cond_t c_17)
      have c_17' := of_decide_eq_true c_17
      obtain ⟨b_18, f_19, q_20⟩ := ((i_a.grow g_12)).pos (by first | omega | (simp only [List.length_set, List.length_replicate, List.length_append, List.length_cons, List.length_nil, List.length_take, List.length_drop, marks_length]; done) | (simp only [List.length_set, List.length_replicate, List.length_append, List.length_cons, List.length_nil, List.length_take, List.length_drop, marks_length]; omega))
      refine ⟨by omega, by omega, b_18, f_19, q_20, ?_⟩
      refine ⟨((l_a).getD (i : Int).toNat 0), (i_a).rd g_12 q_20 (by omega) _, ?_⟩
      refine ⟨by omega, (by omega), _, _, rfl, ?_⟩
      refine Lt.set o_10 (by simp only [List.length_map]; (first | omega | (simp only [List.length_set, List.length_replicate, List.length_append, List.length_cons, List.length_nil, List.length_take, List.length_drop, marks_length]; done) | (simp only [List.length_set, List.length_replicate, List.length_append, List.length_cons, List.length_nil, List.length_take, List.length_drop, marks_length]; omega))) (fun H_3 hl_21 o_23 k_22 => ?_)
      have o_23 := map_set o_23
      have l_24 := k_22.1
      have g_25 := g_12.keep (b := b_1) (by omega) k_22
      have l_26 := g_25.1
      have w_27 := o_23.lt
      rw [show IntKind.wrap .i64 (i + 1) = (i + 1) from wrap64 (by omega) (by omega)]
      refine laws_toFloat32S_n1 (μ - 1) (by omega) ⟨_, o_23, (by first | assumption | omega | (simp only [List.length_set]; first | rfl | assumption | omega)), g_25, (by first | omega | (simp only [List.length_append, List.length_cons, List.length_nil, List.length_set]; done) | (simp only [List.length_append, List.length_cons, List.length_nil, List.length_set]; omega)), (by first | omega | (simp only [List.length_append, List.length_cons, List.length_nil, List.length_set]; done) | (simp only [List.length_append, List.length_cons, List.length_nil, List.length_set]; omega)), (by omega), (by rw [show μ - 1 + 1 = μ from by omega]; exact e)⟩
    · have e := e.trans (cond_f c_17)
      have c_17' := of_decide_eq_false c_17
      rw [laws_toFloat32S_x1_0]
      rw [e] at hk
      exact hk _ _ _ H_2 g_12 (o_10.ownS (by first | (simp only [List.length_replicate]; done) | omega | (simp; omega)) (by omega))
theorem laws_toFloat32S_ok : FnOk Try.prog 22 S_laws_toFloat32S := by
  refine FnOk.body mix_ok E_laws_toFloat32S_ok Try.func22 rfl (by kernel_rfl) (by kernel_rfl) ?_ ?_ ?_ ?_ ?_
  · intro args H K K' h hk
    simp only [S_laws_toFloat32S] at *
    unfold F_laws_toFloat32S at *
    split at hk
    · obtain ⟨l_a, i_a, bd_29, k⟩ := hk
      exact ⟨l_a, i_a, bd_29, (fun r1_a r1_n r1_e H' gg ow0 => h _ _ (k r1_a r1_n r1_e H' gg ow0))⟩
    · exact hk.elim
  · intro hq; cases hq
  · intro args H K hk
    simp only [S_laws_toFloat32S] at *
    unfold F_laws_toFloat32S at *
    split at hk
    · obtain ⟨l_a, i_a, bd_29, k⟩ := hk
      exact liveS fun a n e H1 g o => ⟨_, _, k a n e H1 g o⟩
    · exact hk.elim
  · intro _ args H K hk
    simp only [S_laws_toFloat32S] at *
    unfold F_laws_toFloat32S at *
    split at hk
    · obtain ⟨l_a, i_a, bd_29, k⟩ := hk
      exact ⟨l_a, i_a, bd_29, (fun r1_a r1_n r1_e H' gg ow0 => ⟨gg, k r1_a r1_n r1_e H' gg ow0⟩)⟩
    · exact hk.elim
  · have mm := @laws_toFloat32S_main
    revert mm
    generalize bodyK Try.prog E_laws_toFloat32S Try.f22 = Q
    intro mm args H K hk
    simp only [S_laws_toFloat32S] at *
    unfold F_laws_toFloat32S at *
    split at hk
    · exact mm _ _ _ H K hk
    · exact hk.elim
def p_spec_l01Finite (x : Nat) : Bool := feq .f32 (fsub .f32 x x) 0
theorem p_spec_l01Finite_eq (x : Nat) : p_spec_l01Finite x = feq .f32 (fsub .f32 x x) 0 := rfl
def T_spec_l01Finite (x : Nat) (H : AHeap) (K : Bool → AHeap → Prop) : Prop := K (p_spec_l01Finite x) H

theorem T_spec_l01Finite_i {x : Nat} {H : AHeap} {K : Bool → AHeap → Prop} (h : K (p_spec_l01Finite x) H) : T_spec_l01Finite x H K := h
/-! spec_l01Finite: function 56 -/
def E_spec_l01Finite : Env := envOf []
def F_spec_l01Finite : List Value → AHeap → (Value → AHeap → Prop) → Prop
  | [.float .f32 x], H, K => T_spec_l01Finite x H fun (r1 : Bool) (H' : AHeap) => K (.bool r1) H'
  | _, _, _ => False
def S_spec_l01Finite : FSpec := { F := F_spec_l01Finite, quiet := true, tame := false }
theorem spec_l01Finite_vc (x : Nat) (H : AHeap) (K : Value → AHeap → Prop) : bodyK Try.prog E_spec_l01Finite Try.f56 [.float .f32 x] H K =
  (K (.bool (feq .f32 (fsub .f32 x x) 0)) H) := by kernel_rfl
theorem E_spec_l01Finite_ok : ∀ g, FnOk Try.prog g (E_spec_l01Finite g) := FnOk.envOf (by
  intro x hx; cases hx)
set_option maxHeartbeats 1000000 in
theorem spec_l01Finite_main (x : Nat) (H : AHeap) (K : Value → AHeap → Prop) (h : T_spec_l01Finite x H fun (r1 : Bool) (H' : AHeap) => K (.bool r1) H') : bodyK Try.prog E_spec_l01Finite Try.f56 [.float .f32 x] H K := by
  rw [spec_l01Finite_vc]
  unfold T_spec_l01Finite p_spec_l01Finite at h
  repeat' (first | exact h | (exfalso; simp_all; done) | (refine ⟨by decide, ?_⟩) | (refine Br.intro (fun hb => ?_) (fun hb => ?_) <;> (try simp only [hb, cond_true, cond_false, Bool.not_true, Bool.not_false] at h)))
theorem spec_l01Finite_ok : FnOk Try.prog 56 S_spec_l01Finite := by
  refine FnOk.body mix_ok E_spec_l01Finite_ok Try.func56 rfl (by kernel_rfl) (by kernel_rfl) ?_ ?_ ?_ ?_ ?_
  · intro args H K K' h hk
    simp only [S_spec_l01Finite] at *
    unfold F_spec_l01Finite at *
    split at hk
    · have k := hk
      exact h _ _ k
    · exact hk.elim
  · intro _ args H K hk
    simp only [S_spec_l01Finite] at *
    unfold F_spec_l01Finite at *
    split at hk
    · have k := hk
      exact ⟨_, k, fun K' k' => k'⟩
    · exact hk.elim
  · intro args H K hk
    simp only [S_spec_l01Finite] at *
    unfold F_spec_l01Finite at *
    split at hk
    · have k := hk
      exact ⟨_, _, k⟩
    · exact hk.elim
  · intro hq; cases hq
  · have mm := @spec_l01Finite_main
    revert mm
    generalize bodyK Try.prog E_spec_l01Finite Try.f56 = Q
    intro mm args H K hk
    simp only [S_spec_l01Finite] at *
    unfold F_spec_l01Finite at *
    split at hk
    · exact mm _ H K hk
    · exact hk.elim
def p_spec_l02Finite_l1 (l_list : List Nat) : Nat → Bool → Int → Bool
  | 0, _, _ => false
  | μ + 1, t2, i => (bif decide ((i : Int) < (l_list.length : Int)) then (bif !((p_spec_l01Finite (((l_list).getD (i : Int).toNat 0)))) then false else (p_spec_l02Finite_l1 l_list μ t2 (i + 1))) else true)
theorem p_spec_l02Finite_l1_s (l_list : List Nat) (μ : Nat) (t2 : Bool) (i : Int) : p_spec_l02Finite_l1 l_list (μ + 1) t2 i = (bif decide ((i : Int) < (l_list.length : Int)) then (bif !((p_spec_l01Finite (((l_list).getD (i : Int).toNat 0)))) then false else (p_spec_l02Finite_l1 l_list μ t2 (i + 1))) else true) := rfl
def p_spec_l02Finite (l_list : List Nat) : Bool := (p_spec_l02Finite_l1 l_list (Int.toNat ((l_list.length : Int) - (0 : Int)) + 1) false (0 : Int))
theorem p_spec_l02Finite_eq (l_list : List Nat) : p_spec_l02Finite l_list = (p_spec_l02Finite_l1 l_list (Int.toNat ((l_list.length : Int) - (0 : Int)) + 1) false (0 : Int)) := rfl
def T_spec_l02Finite (list_a : Option Addr) (list_n : Nat) (list_e : Nat) (H : AHeap) (K : Bool → AHeap → Prop) : Prop := ∃ (l_list : List Nat), IsL fF H list_a list_n l_list ∧ l_list.length < 1073741824 ∧ K (p_spec_l02Finite l_list) H
theorem T_spec_l02Finite_i {list_a : Option Addr} {list_n : Nat} {list_e : Nat} {H : AHeap} {K : Bool → AHeap → Prop} (h : ∃ (l_list : List Nat), IsL fF H list_a list_n l_list ∧ l_list.length < 1073741824 ∧ K (p_spec_l02Finite l_list) H) : T_spec_l02Finite list_a list_n list_e H K := h

/-! spec_l02Finite: function 74 -/
def E_spec_l02Finite : Env := envOf [(56, S_spec_l01Finite)]
def F_spec_l02Finite : List Value → AHeap → (Value → AHeap → Prop) → Prop
  | [.slice list_a list_n list_e], H, K => T_spec_l02Finite list_a list_n list_e H fun (r1 : Bool) (H' : AHeap) => K (.bool r1) H'
  | _, _, _ => False
def S_spec_l02Finite : FSpec := { F := F_spec_l02Finite, quiet := true, tame := false }
theorem spec_l02Finite_vc (list_a : Option Addr) (list_n : Nat) (list_e : Nat) (H : AHeap) (K : Value → AHeap → Prop) : bodyK Try.prog E_spec_l02Finite Try.f74 [.slice list_a list_n list_e] H K =
  (loopK (exK Try.prog E_spec_l02Finite (cl (cl (cr (cl (cr (bodyC Try.f74))))))) [.slice list_a list_n list_e, undef, .bool false, .int .i64 0, undef, undef, undef, undef, undef, undef, undef, undef, undef, undef, undef, undef] H (blockQ 0 (seqQ (exK Try.prog E_spec_l02Finite (cr (cr (bodyC Try.f74)))) (retK Try.prog Try.f74 K)))) := by kernel_rfl
theorem spec_l02Finite_r1 (list_a : Option Addr) (list_e : Nat) (list_n : Nat) (t2 : Bool) (i : Int) (g4 g5 g6 g7 g8 g9 g10 g11 g12 g13 g14 g15 : Value) (H : AHeap) (R : Post) : exK Try.prog E_spec_l02Finite (cl (cl (cr (cl (cr (bodyC Try.f74)))))) [.slice list_a list_n list_e, undef, .bool t2, .int .i64 i, g4, g5, g6, g7, g8, g9, g10, g11, g12, g13, g14, g15] H R =
  (Br (decide ((i : Int) < (list_n : Int))) ((0 : Int) ≤ i ∧ i < (list_n : Int) ∧ ∃ b1 f1, (list_a : Option Addr) = some ⟨b1, f1, none⟩ ∧ ∃ x1 : Nat,  rdC H b1 (f1 + (i : Int).toNat * 1) = some (.float .f32 x1) ∧ T_spec_l01Finite x1 H fun (r1 : Bool) (H1 : AHeap) => Br (!r1) (R .ret [.slice list_a list_n list_e, undef, .bool false, .int .i64 i, .int .i64 i, .slice list_a list_n list_e, .int .i64 (list_n : Int), .bool (decide ((i : Int) < (list_n : Int))), g8, g9, .slice list_a list_n list_e, .int .i64 i, .pointer (some ⟨b1, f1 + (i : Int).toNat * 1, none⟩), .float .f32 x1, .bool r1, .bool (!r1)] H1) (R .normal [.slice list_a list_n list_e, undef, .bool t2, .int .i64 (IntKind.wrap .i64 (i + 1)), .int .i64 i, .slice list_a list_n list_e, .int .i64 (list_n : Int), .bool (decide ((i : Int) < (list_n : Int))), .int .i64 i, .int .i64 (IntKind.wrap .i64 (i + 1)), .slice list_a list_n list_e, .int .i64 i, .pointer (some ⟨b1, f1 + (i : Int).toNat * 1, none⟩), .float .f32 x1, .bool r1, .bool (!r1)] H1)) (R (.exit 0) [.slice list_a list_n list_e, undef, .bool t2, .int .i64 i, .int .i64 i, .slice list_a list_n list_e, .int .i64 (list_n : Int), .bool (decide ((i : Int) < (list_n : Int))), g8, g9, g10, g11, g12, g13, g14, g15] H)) := by kernel_rfl
def spec_l02Finite_I1 (list_a : Option Addr) (list_e : Nat) (list_n : Nat) (Inv : Nat → Bool → Int → AHeap → Prop) : Nat → List Value → AHeap → Prop := fun μ tm H => ∃ (t2 : Bool), ∃ (i : Int), ∃ g4 g5 g6 g7 g8 g9 g10 g11 g12 g13 g14 g15, tm = [.slice list_a list_n list_e, undef, .bool t2, .int .i64 i, g4, g5, g6, g7, g8, g9, g10, g11, g12, g13, g14, g15] ∧ Inv μ t2 i H
theorem spec_l02Finite_L1 (list_a : Option Addr) (list_e : Nat) (list_n : Nat) {Q : Post} (Inv : Nat → Bool → Int → AHeap → Prop) (ν : Nat) (t2 : Bool) (i : Int) (g4 g5 g6 g7 g8 g9 g10 g11 g12 g13 g14 g15 : Value) (H : AHeap) (h0 : Inv ν t2 i H)
    (hs : ∀ (μ : Nat) (t2 : Bool) (i : Int) (g4 g5 g6 g7 g8 g9 g10 g11 g12 g13 g14 g15 : Value) (H : AHeap), Inv μ t2 i H → exK Try.prog E_spec_l02Finite (cl (cl (cr (cl (cr (bodyC Try.f74)))))) [.slice list_a list_n list_e, undef, .bool t2, .int .i64 i, g4, g5, g6, g7, g8, g9, g10, g11, g12, g13, g14, g15] H (loopQ (spec_l02Finite_I1 list_a list_e list_n Inv) μ Q)) : loopK (exK Try.prog E_spec_l02Finite (cl (cl (cr (cl (cr (bodyC Try.f74))))))) [.slice list_a list_n list_e, undef, .bool t2, .int .i64 i, g4, g5, g6, g7, g8, g9, g10, g11, g12, g13, g14, g15] H Q :=
  ⟨spec_l02Finite_I1 list_a list_e list_n Inv, ν, ⟨t2, i, g4, g5, g6, g7, g8, g9, g10, g11, g12, g13, g14, g15, rfl, h0⟩, fun μ tm H h => by obtain ⟨t2, i, g4, g5, g6, g7, g8, g9, g10, g11, g12, g13, g14, g15, rfl, hI⟩ := h; exact hs μ t2 i g4 g5 g6 g7 g8 g9 g10 g11 g12 g13 g14 g15 H hI⟩
theorem spec_l02Finite_n1 {list_a : Option Addr} {list_e : Nat} {list_n : Nat} {Q : Post} {Inv : Nat → Bool → Int → AHeap → Prop} {μ : Nat} (μ' : Nat) {t2 : Bool} {i : Int} {g4 g5 g6 g7 g8 g9 g10 g11 g12 g13 g14 g15 : Value} {H : AHeap} (hm : μ' < μ) (hI : Inv μ' t2 i H) : loopQ (spec_l02Finite_I1 list_a list_e list_n Inv) μ Q .normal [.slice list_a list_n list_e, undef, .bool t2, .int .i64 i, g4, g5, g6, g7, g8, g9, g10, g11, g12, g13, g14, g15] H := ⟨μ', hm, t2, i, g4, g5, g6, g7, g8, g9, g10, g11, g12, g13, g14, g15, rfl, hI⟩
theorem spec_l02Finite_x1_0 (list_a : Option Addr) (list_e : Nat) (list_n : Nat) (t2 : Bool) (i : Int) (g4 g5 g6 g7 g8 g9 g10 g11 g12 g13 g14 g15 : Value) (H : AHeap) (K : Value → AHeap → Prop)  {I : Nat → List Value → AHeap → Prop} {μ : Nat} : loopQ I μ (blockQ 0 (seqQ (exK Try.prog E_spec_l02Finite (cr (cr (bodyC Try.f74)))) (retK Try.prog Try.f74 K))) (.exit 0) [.slice list_a list_n list_e, undef, .bool t2, .int .i64 i, g4, g5, g6, g7, g8, g9, g10, g11, g12, g13, g14, g15] H =
  (K (.bool true) H) := by kernel_rfl
theorem spec_l02Finite_x1_ret (list_a : Option Addr) (list_e : Nat) (list_n : Nat) (t2 : Bool) (i : Int) (g4 g5 g6 g7 g8 g9 g10 g11 g12 g13 g14 g15 : Value) (H : AHeap) (K : Value → AHeap → Prop)  {I : Nat → List Value → AHeap → Prop} {μ : Nat} : loopQ I μ (blockQ 0 (seqQ (exK Try.prog E_spec_l02Finite (cr (cr (bodyC Try.f74)))) (retK Try.prog Try.f74 K))) .ret [.slice list_a list_n list_e, undef, .bool t2, .int .i64 i, g4, g5, g6, g7, g8, g9, g10, g11, g12, g13, g14, g15] H =
  (K (.bool t2) H) := by kernel_rfl
theorem E_spec_l02Finite_ok : ∀ g, FnOk Try.prog g (E_spec_l02Finite g) := FnOk.envOf (by
  intro x hx
  simp only [List.mem_cons, List.not_mem_nil, or_false] at hx
  subst hx; exact spec_l01Finite_ok)
set_option maxHeartbeats 1000000 in
theorem spec_l02Finite_main (list_a : Option Addr) (list_n : Nat) (list_e : Nat) (H : AHeap) (K : Value → AHeap → Prop) (h : T_spec_l02Finite list_a list_n list_e H fun (r1 : Bool) (H' : AHeap) => K (.bool r1) H') : bodyK Try.prog E_spec_l02Finite Try.f74 [.slice list_a list_n list_e] H K := by
  rw [spec_l02Finite_vc]
  obtain ⟨l_list, i_list, bd_9, hk⟩ := h
  obtain rfl := i_list.eqn
  have e : (p_spec_l02Finite l_list) = _ := rfl
  have e := e.trans (p_spec_l02Finite_eq l_list)
  have g0 := Grow.refl H
  refine spec_l02Finite_L1 _ _ _ (fun (μ : Nat) (t2 : Bool) (i : Int) (H_1 : AHeap) => H = H_1 ∧ (0 : Int) ≤ i ∧ i ≤ (l_list.length : Int) ∧ (l_list.length : Int) - i ≤ (μ : Int) ∧ p_spec_l02Finite l_list = p_spec_l02Finite_l1 l_list (μ + 1) t2 i) (Int.toNat ((l_list.length : Int) - (0 : Int))) _ _ _ _ _ _ _ _ _ _ _ _ _ _ H ?_ ?_
  · exact ⟨rfl, (by first | omega | (simp; done) | (simp; omega)), (by first | omega | (simp; done) | (simp; omega)), (by omega), e⟩
  · intro μ t2 i g4 g5 g6 g7 g8 g9 g10 g11 g12 g13 g14 g15 H_1 hI
    obtain ⟨rfl, v_1, v_2, hμ, e⟩ := hI
    rw [spec_l02Finite_r1]
    have e := e.trans (p_spec_l02Finite_l1_s l_list μ t2 i)
    have l_3 := g0.1
    refine Br.intro (fun c_4 => ?_) (fun c_4 => ?_)
    · have e := e.trans (cond_t c_4)
      have c_4' := of_decide_eq_true c_4
      obtain ⟨b_5, f_6, q_7⟩ := ((i_list.grow g0)).pos (by first | omega | (simp only [List.length_set, List.length_replicate, List.length_append, List.length_cons, List.length_nil, List.length_take, List.length_drop, marks_length]; done) | (simp only [List.length_set, List.length_replicate, List.length_append, List.length_cons, List.length_nil, List.length_take, List.length_drop, marks_length]; omega))
      refine ⟨by omega, by omega, b_5, f_6, q_7, ?_⟩
      refine ⟨((l_list).getD (i : Int).toNat 0), (i_list).rd g0 q_7 (by omega) _, ?_⟩
      refine T_spec_l01Finite_i ?_
      refine Br.intro (fun c_8 => ?_) (fun c_8 => ?_)
      · have e := e.trans (cond_t c_8)
        have c_8n := nf_of_t c_8
        rw [spec_l02Finite_x1_ret]
        rw [e] at hk
        exact hk
      · have e := e.trans (cond_f c_8)
        have c_8n := nt_of_f c_8
        rw [show IntKind.wrap .i64 (i + 1) = (i + 1) from wrap64 (by omega) (by omega)]
        refine spec_l02Finite_n1 (μ - 1) (by omega) ⟨rfl, (by first | omega | (simp only [List.length_append, List.length_cons, List.length_nil, List.length_set]; done) | (simp only [List.length_append, List.length_cons, List.length_nil, List.length_set]; omega)), (by first | omega | (simp only [List.length_append, List.length_cons, List.length_nil, List.length_set]; done) | (simp only [List.length_append, List.length_cons, List.length_nil, List.length_set]; omega)), (by omega), (by rw [show μ - 1 + 1 = μ from by omega]; exact e)⟩
    · have e := e.trans (cond_f c_4)
      have c_4' := of_decide_eq_false c_4
      rw [spec_l02Finite_x1_0]
      rw [e] at hk
      exact hk
theorem spec_l02Finite_ok : FnOk Try.prog 74 S_spec_l02Finite := by
  refine FnOk.body mix_ok E_spec_l02Finite_ok Try.func74 rfl (by kernel_rfl) (by kernel_rfl) ?_ ?_ ?_ ?_ ?_
  · intro args H K K' h hk
    simp only [S_spec_l02Finite] at *
    unfold F_spec_l02Finite at *
    split at hk
    · obtain ⟨l_list, i_list, bd_9, k⟩ := hk
      exact ⟨l_list, i_list, bd_9, h _ _ k⟩
    · exact hk.elim
  · intro _ args H K hk
    simp only [S_spec_l02Finite] at *
    unfold F_spec_l02Finite at *
    split at hk
    · obtain ⟨l_list, i_list, bd_9, k⟩ := hk
      exact ⟨_, k, fun K' k' => ⟨l_list, i_list, bd_9, k'⟩⟩
    · exact hk.elim
  · intro args H K hk
    simp only [S_spec_l02Finite] at *
    unfold F_spec_l02Finite at *
    split at hk
    · obtain ⟨l_list, i_list, bd_9, k⟩ := hk
      exact ⟨_, _, k⟩
    · exact hk.elim
  · intro hq; cases hq
  · have mm := @spec_l02Finite_main
    revert mm
    generalize bodyK Try.prog E_spec_l02Finite Try.f74 = Q
    intro mm args H K hk
    simp only [S_spec_l02Finite] at *
    unfold F_spec_l02Finite at *
    split at hk
    · exact mm _ _ _ H K hk
    · exact hk.elim
def p_spec_l03Long (l_list : List Nat) : Bool := (bif decide ((1 : Int) ≤ (l_list.length : Int)) then (bif decide (((l_list.length : Int) : Int) ≤ 128) then (p_spec_l02Finite l_list) else false) else false)
theorem p_spec_l03Long_eq (l_list : List Nat) : p_spec_l03Long l_list = (bif decide ((1 : Int) ≤ (l_list.length : Int)) then (bif decide (((l_list.length : Int) : Int) ≤ 128) then (p_spec_l02Finite l_list) else false) else false) := rfl
def T_spec_l03Long (list_a : Option Addr) (list_n : Nat) (list_e : Nat) (H : AHeap) (K : Bool → AHeap → Prop) : Prop := ∃ (l_list : List Nat), IsL fF H list_a list_n l_list ∧ l_list.length < 1073741824 ∧ K (p_spec_l03Long l_list) H
theorem T_spec_l03Long_i {list_a : Option Addr} {list_n : Nat} {list_e : Nat} {H : AHeap} {K : Bool → AHeap → Prop} (h : ∃ (l_list : List Nat), IsL fF H list_a list_n l_list ∧ l_list.length < 1073741824 ∧ K (p_spec_l03Long l_list) H) : T_spec_l03Long list_a list_n list_e H K := h

/-! spec_l03Long: function 61 -/
def E_spec_l03Long : Env := envOf [(74, S_spec_l02Finite)]
def F_spec_l03Long : List Value → AHeap → (Value → AHeap → Prop) → Prop
  | [.slice list_a list_n list_e], H, K => T_spec_l03Long list_a list_n list_e H fun (r1 : Bool) (H' : AHeap) => K (.bool r1) H'
  | _, _, _ => False
def S_spec_l03Long : FSpec := { F := F_spec_l03Long, quiet := true, tame := false }
theorem spec_l03Long_vc (list_a : Option Addr) (list_n : Nat) (list_e : Nat) (H : AHeap) (K : Value → AHeap → Prop) : bodyK Try.prog E_spec_l03Long Try.f61 [.slice list_a list_n list_e] H K =
  (Br (decide ((1 : Int) ≤ (list_n : Int))) (Br (decide (((list_n : Int) : Int) ≤ 128)) (T_spec_l02Finite list_a list_n list_e H fun (r1 : Bool) (H1 : AHeap) => K (.bool r1) H1) (K (.bool false) H)) (K (.bool false) H)) := by kernel_rfl
theorem E_spec_l03Long_ok : ∀ g, FnOk Try.prog g (E_spec_l03Long g) := FnOk.envOf (by
  intro x hx
  simp only [List.mem_cons, List.not_mem_nil, or_false] at hx
  subst hx; exact spec_l02Finite_ok)
set_option maxHeartbeats 1000000 in
theorem spec_l03Long_main (list_a : Option Addr) (list_n : Nat) (list_e : Nat) (H : AHeap) (K : Value → AHeap → Prop) (h : T_spec_l03Long list_a list_n list_e H fun (r1 : Bool) (H' : AHeap) => K (.bool r1) H') : bodyK Try.prog E_spec_l03Long Try.f61 [.slice list_a list_n list_e] H K := by
  rw [spec_l03Long_vc]
  obtain ⟨l_list, i_list, bd_3, hk⟩ := h
  obtain rfl := i_list.eqn
  have e : (p_spec_l03Long l_list) = _ := rfl
  have e := e.trans (p_spec_l03Long_eq l_list)
  have g0 := Grow.refl H
  refine Br.intro (fun c_1 => ?_) (fun c_1 => ?_)
  · have e := e.trans (cond_t c_1)
    have c_1' := of_decide_eq_true c_1
    refine Br.intro (fun c_2 => ?_) (fun c_2 => ?_)
    · have e := e.trans (cond_t c_2)
      have c_2' := of_decide_eq_true c_2
      refine T_spec_l02Finite_i ⟨_, (i_list.grow g0), (by first | omega | (simp only [List.length_set, List.length_replicate, List.length_append, List.length_cons, List.length_nil, List.length_take, List.length_drop, marks_length]; done) | (simp only [List.length_set, List.length_replicate, List.length_append, List.length_cons, List.length_nil, List.length_take, List.length_drop, marks_length]; omega)), ?_⟩
      rw [e] at hk
      exact hk
    · have e := e.trans (cond_f c_2)
      have c_2' := of_decide_eq_false c_2
      rw [e] at hk
      exact hk
  · have e := e.trans (cond_f c_1)
    have c_1' := of_decide_eq_false c_1
    rw [e] at hk
    exact hk
theorem spec_l03Long_ok : FnOk Try.prog 61 S_spec_l03Long := by
  refine FnOk.body mix_ok E_spec_l03Long_ok Try.func61 rfl (by kernel_rfl) (by kernel_rfl) ?_ ?_ ?_ ?_ ?_
  · intro args H K K' h hk
    simp only [S_spec_l03Long] at *
    unfold F_spec_l03Long at *
    split at hk
    · obtain ⟨l_list, i_list, bd_3, k⟩ := hk
      exact ⟨l_list, i_list, bd_3, h _ _ k⟩
    · exact hk.elim
  · intro _ args H K hk
    simp only [S_spec_l03Long] at *
    unfold F_spec_l03Long at *
    split at hk
    · obtain ⟨l_list, i_list, bd_3, k⟩ := hk
      exact ⟨_, k, fun K' k' => ⟨l_list, i_list, bd_3, k'⟩⟩
    · exact hk.elim
  · intro args H K hk
    simp only [S_spec_l03Long] at *
    unfold F_spec_l03Long at *
    split at hk
    · obtain ⟨l_list, i_list, bd_3, k⟩ := hk
      exact ⟨_, _, k⟩
    · exact hk.elim
  · intro hq; cases hq
  · have mm := @spec_l03Long_main
    revert mm
    generalize bodyK Try.prog E_spec_l03Long Try.f61 = Q
    intro mm args H K hk
    simp only [S_spec_l03Long] at *
    unfold F_spec_l03Long at *
    split at hk
    · exact mm _ _ _ H K hk
    · exact hk.elim
def p_spec_l02Least (x : Nat) : Bool := (bif (p_spec_l01Finite x) then fle .f32 0 x else false)
theorem p_spec_l02Least_eq (x : Nat) : p_spec_l02Least x = (bif (p_spec_l01Finite x) then fle .f32 0 x else false) := rfl
def T_spec_l02Least (x : Nat) (H : AHeap) (K : Bool → AHeap → Prop) : Prop := K (p_spec_l02Least x) H

theorem T_spec_l02Least_i {x : Nat} {H : AHeap} {K : Bool → AHeap → Prop} (h : K (p_spec_l02Least x) H) : T_spec_l02Least x H K := h
/-! spec_l02Least: function 57 -/
def E_spec_l02Least : Env := envOf [(56, S_spec_l01Finite)]
def F_spec_l02Least : List Value → AHeap → (Value → AHeap → Prop) → Prop
  | [.float .f32 x], H, K => T_spec_l02Least x H fun (r1 : Bool) (H' : AHeap) => K (.bool r1) H'
  | _, _, _ => False
def S_spec_l02Least : FSpec := { F := F_spec_l02Least, quiet := true, tame := false }
theorem spec_l02Least_vc (x : Nat) (H : AHeap) (K : Value → AHeap → Prop) : bodyK Try.prog E_spec_l02Least Try.f57 [.float .f32 x] H K =
  (T_spec_l01Finite x H fun (r1 : Bool) (H1 : AHeap) => Br r1 (K (.bool (fle .f32 0 x)) H1) (K (.bool false) H1)) := by kernel_rfl
theorem E_spec_l02Least_ok : ∀ g, FnOk Try.prog g (E_spec_l02Least g) := FnOk.envOf (by
  intro x hx
  simp only [List.mem_cons, List.not_mem_nil, or_false] at hx
  subst hx; exact spec_l01Finite_ok)
set_option maxHeartbeats 1000000 in
theorem spec_l02Least_main (x : Nat) (H : AHeap) (K : Value → AHeap → Prop) (h : T_spec_l02Least x H fun (r1 : Bool) (H' : AHeap) => K (.bool r1) H') : bodyK Try.prog E_spec_l02Least Try.f57 [.float .f32 x] H K := by
  rw [spec_l02Least_vc]
  simp only [T_spec_l01Finite]
  unfold T_spec_l02Least p_spec_l02Least at h
  repeat' (first | exact h | (exfalso; simp_all; done) | (refine ⟨by decide, ?_⟩) | (refine Br.intro (fun hb => ?_) (fun hb => ?_) <;> (try simp only [hb, cond_true, cond_false, Bool.not_true, Bool.not_false] at h)))
theorem spec_l02Least_ok : FnOk Try.prog 57 S_spec_l02Least := by
  refine FnOk.body mix_ok E_spec_l02Least_ok Try.func57 rfl (by kernel_rfl) (by kernel_rfl) ?_ ?_ ?_ ?_ ?_
  · intro args H K K' h hk
    simp only [S_spec_l02Least] at *
    unfold F_spec_l02Least at *
    split at hk
    · have k := hk
      exact h _ _ k
    · exact hk.elim
  · intro _ args H K hk
    simp only [S_spec_l02Least] at *
    unfold F_spec_l02Least at *
    split at hk
    · have k := hk
      exact ⟨_, k, fun K' k' => k'⟩
    · exact hk.elim
  · intro args H K hk
    simp only [S_spec_l02Least] at *
    unfold F_spec_l02Least at *
    split at hk
    · have k := hk
      exact ⟨_, _, k⟩
    · exact hk.elim
  · intro hq; cases hq
  · have mm := @spec_l02Least_main
    revert mm
    generalize bodyK Try.prog E_spec_l02Least Try.f57 = Q
    intro mm args H K hk
    simp only [S_spec_l02Least] at *
    unfold F_spec_l02Least at *
    split at hk
    · exact mm _ H K hk
    · exact hk.elim
def p_spec_l03Size (x : Nat) : Nat := (bif fle .f32 x 0 then fsub .f32 0 x else x)
theorem p_spec_l03Size_eq (x : Nat) : p_spec_l03Size x = (bif fle .f32 x 0 then fsub .f32 0 x else x) := rfl
def T_spec_l03Size (x : Nat) (H : AHeap) (K : Nat → AHeap → Prop) : Prop := K (p_spec_l03Size x) H

theorem T_spec_l03Size_i {x : Nat} {H : AHeap} {K : Nat → AHeap → Prop} (h : K (p_spec_l03Size x) H) : T_spec_l03Size x H K := h
/-! spec_l03Size: function 78 -/
def E_spec_l03Size : Env := envOf []
def F_spec_l03Size : List Value → AHeap → (Value → AHeap → Prop) → Prop
  | [.float .f32 x], H, K => T_spec_l03Size x H fun (r1 : Nat) (H' : AHeap) => K (.float .f32 r1) H'
  | _, _, _ => False
def S_spec_l03Size : FSpec := { F := F_spec_l03Size, quiet := true, tame := false }
theorem spec_l03Size_vc (x : Nat) (H : AHeap) (K : Value → AHeap → Prop) : bodyK Try.prog E_spec_l03Size Try.f78 [.float .f32 x] H K =
  (Br (fle .f32 x 0) (K (.float .f32 (fsub .f32 0 x)) H) (K (.float .f32 x) H)) := by kernel_rfl
theorem E_spec_l03Size_ok : ∀ g, FnOk Try.prog g (E_spec_l03Size g) := FnOk.envOf (by
  intro x hx; cases hx)
set_option maxHeartbeats 1000000 in
theorem spec_l03Size_main (x : Nat) (H : AHeap) (K : Value → AHeap → Prop) (h : T_spec_l03Size x H fun (r1 : Nat) (H' : AHeap) => K (.float .f32 r1) H') : bodyK Try.prog E_spec_l03Size Try.f78 [.float .f32 x] H K := by
  rw [spec_l03Size_vc]
  unfold T_spec_l03Size p_spec_l03Size at h
  repeat' (first | exact h | (exfalso; simp_all; done) | (refine ⟨by decide, ?_⟩) | (refine Br.intro (fun hb => ?_) (fun hb => ?_) <;> (try simp only [hb, cond_true, cond_false, Bool.not_true, Bool.not_false] at h)))
theorem spec_l03Size_ok : FnOk Try.prog 78 S_spec_l03Size := by
  refine FnOk.body mix_ok E_spec_l03Size_ok Try.func78 rfl (by kernel_rfl) (by kernel_rfl) ?_ ?_ ?_ ?_ ?_
  · intro args H K K' h hk
    simp only [S_spec_l03Size] at *
    unfold F_spec_l03Size at *
    split at hk
    · have k := hk
      exact h _ _ k
    · exact hk.elim
  · intro _ args H K hk
    simp only [S_spec_l03Size] at *
    unfold F_spec_l03Size at *
    split at hk
    · have k := hk
      exact ⟨_, k, fun K' k' => k'⟩
    · exact hk.elim
  · intro args H K hk
    simp only [S_spec_l03Size] at *
    unfold F_spec_l03Size at *
    split at hk
    · have k := hk
      exact ⟨_, _, k⟩
    · exact hk.elim
  · intro hq; cases hq
  · have mm := @spec_l03Size_main
    revert mm
    generalize bodyK Try.prog E_spec_l03Size Try.f78 = Q
    intro mm args H K hk
    simp only [S_spec_l03Size] at *
    unfold F_spec_l03Size at *
    split at hk
    · exact mm _ H K hk
    · exact hk.elim
def p_spec_l05Shrink (x : Nat) (limit : Nat) (hard : Bool) : Nat := (bif !(flt .f32 limit (p_spec_l03Size x)) then 0 else (bif hard then x else (bif flt .f32 x 0 then fneg .f32 (fsub .f32 (p_spec_l03Size x) limit) else fsub .f32 (p_spec_l03Size x) limit)))
theorem p_spec_l05Shrink_eq (x : Nat) (limit : Nat) (hard : Bool) : p_spec_l05Shrink x limit hard = (bif !(flt .f32 limit (p_spec_l03Size x)) then 0 else (bif hard then x else (bif flt .f32 x 0 then fneg .f32 (fsub .f32 (p_spec_l03Size x) limit) else fsub .f32 (p_spec_l03Size x) limit))) := rfl
def T_spec_l05Shrink (x : Nat) (limit : Nat) (hard : Bool) (H : AHeap) (K : Nat → AHeap → Prop) : Prop := K (p_spec_l05Shrink x limit hard) H

theorem T_spec_l05Shrink_i {x : Nat} {limit : Nat} {hard : Bool} {H : AHeap} {K : Nat → AHeap → Prop} (h : K (p_spec_l05Shrink x limit hard) H) : T_spec_l05Shrink x limit hard H K := h
/-! spec_l05Shrink: function 58 -/
def E_spec_l05Shrink : Env := envOf [(78, S_spec_l03Size)]
def F_spec_l05Shrink : List Value → AHeap → (Value → AHeap → Prop) → Prop
  | [.float .f32 x, .float .f32 limit, .bool hard], H, K => T_spec_l05Shrink x limit hard H fun (r1 : Nat) (H' : AHeap) => K (.float .f32 r1) H'
  | _, _, _ => False
def S_spec_l05Shrink : FSpec := { F := F_spec_l05Shrink, quiet := true, tame := false }
theorem spec_l05Shrink_vc (x : Nat) (limit : Nat) (hard : Bool) (H : AHeap) (K : Value → AHeap → Prop) : bodyK Try.prog E_spec_l05Shrink Try.f58 [.float .f32 x, .float .f32 limit, .bool hard] H K =
  (T_spec_l03Size x H fun (r1 : Nat) (H1 : AHeap) => Br (!(flt .f32 limit r1)) (K (.float .f32 0) H1) (Br hard (K (.float .f32 x) H1) (Br (flt .f32 x 0) (K (.float .f32 (fneg .f32 (fsub .f32 r1 limit))) H1) (K (.float .f32 (fsub .f32 r1 limit)) H1)))) := by kernel_rfl
theorem E_spec_l05Shrink_ok : ∀ g, FnOk Try.prog g (E_spec_l05Shrink g) := FnOk.envOf (by
  intro x hx
  simp only [List.mem_cons, List.not_mem_nil, or_false] at hx
  subst hx; exact spec_l03Size_ok)
set_option maxHeartbeats 1000000 in
theorem spec_l05Shrink_main (x : Nat) (limit : Nat) (hard : Bool) (H : AHeap) (K : Value → AHeap → Prop) (h : T_spec_l05Shrink x limit hard H fun (r1 : Nat) (H' : AHeap) => K (.float .f32 r1) H') : bodyK Try.prog E_spec_l05Shrink Try.f58 [.float .f32 x, .float .f32 limit, .bool hard] H K := by
  rw [spec_l05Shrink_vc]
  simp only [T_spec_l03Size]
  unfold T_spec_l05Shrink p_spec_l05Shrink at h
  repeat' (first | exact h | (exfalso; simp_all; done) | (refine ⟨by decide, ?_⟩) | (refine Br.intro (fun hb => ?_) (fun hb => ?_) <;> (try simp only [hb, cond_true, cond_false, Bool.not_true, Bool.not_false] at h)))
theorem spec_l05Shrink_ok : FnOk Try.prog 58 S_spec_l05Shrink := by
  refine FnOk.body mix_ok E_spec_l05Shrink_ok Try.func58 rfl (by kernel_rfl) (by kernel_rfl) ?_ ?_ ?_ ?_ ?_
  · intro args H K K' h hk
    simp only [S_spec_l05Shrink] at *
    unfold F_spec_l05Shrink at *
    split at hk
    · have k := hk
      exact h _ _ k
    · exact hk.elim
  · intro _ args H K hk
    simp only [S_spec_l05Shrink] at *
    unfold F_spec_l05Shrink at *
    split at hk
    · have k := hk
      exact ⟨_, k, fun K' k' => k'⟩
    · exact hk.elim
  · intro args H K hk
    simp only [S_spec_l05Shrink] at *
    unfold F_spec_l05Shrink at *
    split at hk
    · have k := hk
      exact ⟨_, _, k⟩
    · exact hk.elim
  · intro hq; cases hq
  · have mm := @spec_l05Shrink_main
    revert mm
    generalize bodyK Try.prog E_spec_l05Shrink Try.f58 = Q
    intro mm args H K hk
    simp only [S_spec_l05Shrink] at *
    unfold F_spec_l05Shrink at *
    split at hk
    · exact mm _ _ _ H K hk
    · exact hk.elim
def p_spec_l05List_l1 (l_list : List Nat) (limit : Nat) (hard : Bool) : Nat → (List Nat) → Int → (List Nat)
  | 0, _, _ => []
  | μ + 1, l_vout, t12 => (bif decide ((t12 : Int) < (l_list.length : Int)) then (p_spec_l05List_l1 l_list limit hard μ ((l_vout ++ [((p_spec_l05Shrink (((l_list).getD (t12 : Int).toNat 0)) limit hard))])) (t12 + 1)) else l_vout)
theorem p_spec_l05List_l1_s (l_list : List Nat) (limit : Nat) (hard : Bool) (μ : Nat) (l_vout : List Nat) (t12 : Int) : p_spec_l05List_l1 l_list limit hard (μ + 1) l_vout t12 = (bif decide ((t12 : Int) < (l_list.length : Int)) then (p_spec_l05List_l1 l_list limit hard μ ((l_vout ++ [((p_spec_l05Shrink (((l_list).getD (t12 : Int).toNat 0)) limit hard))])) (t12 + 1)) else l_vout) := rfl
def p_spec_l05List (l_list : List Nat) (limit : Nat) (hard : Bool) : (List Nat) := (p_spec_l05List_l1 l_list limit hard (Int.toNat ((l_list.length : Int) - (0 : Int)) + 1) ([] : List Nat) (0 : Int))
theorem p_spec_l05List_eq (l_list : List Nat) (limit : Nat) (hard : Bool) : p_spec_l05List l_list limit hard = (p_spec_l05List_l1 l_list limit hard (Int.toNat ((l_list.length : Int) - (0 : Int)) + 1) ([] : List Nat) (0 : Int)) := rfl
def T_spec_l05List (list_a : Option Addr) (list_n : Nat) (list_e : Nat) (limit : Nat) (hard : Bool) (H : AHeap) (K : (Option Addr) → Nat → Nat → AHeap → Prop) : Prop := ∃ (l_list : List Nat), IsL fF H list_a list_n l_list ∧ l_list.length < 1073741824 ∧ ((∀ (r1_a : Option Addr) (r1_n r1_e : Nat), ∀ H' : AHeap, Grow H H' → OwnS fF H' H.length r1_a r1_n r1_e (p_spec_l05List l_list limit hard) → K r1_a r1_n r1_e H'))
theorem T_spec_l05List_i {list_a : Option Addr} {list_n : Nat} {list_e : Nat} {limit : Nat} {hard : Bool} {H : AHeap} {K : (Option Addr) → Nat → Nat → AHeap → Prop} (h : ∃ (l_list : List Nat), IsL fF H list_a list_n l_list ∧ l_list.length < 1073741824 ∧ ((∀ (r1_a : Option Addr) (r1_n r1_e : Nat), ∀ H' : AHeap, Grow H H' → OwnS fF H' H.length r1_a r1_n r1_e (p_spec_l05List l_list limit hard) → K r1_a r1_n r1_e H'))) : T_spec_l05List list_a list_n list_e limit hard H K := h
theorem spec_l05List_go (l : List Nat) (limit : Nat) (hard : Bool) : ∀ (μ : Nat) (o : List Nat) (i : Nat), l.length - i < μ → p_spec_l05List_l1 l limit hard μ o (i : Int) = o ++ (l.drop i).map (fun x => p_spec_l05Shrink x limit hard) := by
  intro μ
  induction μ with
  | zero => intro o i h; omega
  | succ μ ih =>
    intro o i hm
    rw [p_spec_l05List_l1_s]
    by_cases h : i < l.length
    · rw [decide_eq_true (show (i : Int) < (l.length : Int) by omega), cond_true, Int.toNat_natCast]
      refine Eq.trans (ih _ (i + 1) (by omega)) ?_
      rw [List.drop_eq_getElem_cons h, List.map_cons, List.getD_eq_getElem?_getD, List.getElem?_eq_getElem h]
      simp
    · rw [decide_eq_false (show ¬ (i : Int) < (l.length : Int) by omega), cond_false, List.drop_eq_nil_of_le (by omega)]; simp
theorem spec_l05List_map (l : List Nat) (limit : Nat) (hard : Bool) : p_spec_l05List l limit hard = l.map (fun x => p_spec_l05Shrink x limit hard) := by
  rw [p_spec_l05List_eq]
  have := spec_l05List_go l limit hard (Int.toNat ((l.length : Int) - (0 : Int)) + 1) [] 0 (by omega)
  simpa using this
theorem spec_l05List_len (l : List Nat) (limit : Nat) (hard : Bool) : (p_spec_l05List l limit hard).length = l.length := by rw [spec_l05List_map]; simp
/-! spec_l05List: function 76 -/
def E_spec_l05List : Env := envOf [(58, S_spec_l05Shrink)]
def F_spec_l05List : List Value → AHeap → (Value → AHeap → Prop) → Prop
  | [.slice list_a list_n list_e, .float .f32 limit, .bool hard], H, K => T_spec_l05List list_a list_n list_e limit hard H fun (r1_a : Option Addr) (r1_n : Nat) (r1_e : Nat) (H' : AHeap) => K (.slice r1_a r1_n r1_e) H'
  | _, _, _ => False
def S_spec_l05List : FSpec := { F := F_spec_l05List, quiet := false, tame := true }
theorem spec_l05List_vc (list_a : Option Addr) (list_n : Nat) (list_e : Nat) (limit : Nat) (hard : Bool) (H : AHeap) (K : Value → AHeap → Prop) : bodyK Try.prog E_spec_l05List Try.f76 [.slice list_a list_n list_e, .float .f32 limit, .bool hard] H K =
  (Al [] H fun b1 H1 => loopK (exK Try.prog E_spec_l05List (cl (cl (cr (cl (cr (cr (bodyC Try.f76)))))))) [.slice list_a list_n list_e, .float .f32 limit, .bool hard, undef, undef, undef, .slice none 0 0, .slice (some ⟨b1, 0, none⟩) 0 1, undef, .slice (some ⟨b1, 0, none⟩) 0 1, .slice list_a list_n list_e, .int .i64 (list_n : Int), .int .i64 0, undef, undef, undef, undef, undef, undef, undef, undef, undef, undef, undef, undef, undef, undef] H1 (blockQ 0 (seqQ (exK Try.prog E_spec_l05List (cr (cr (cr (bodyC Try.f76))))) (retK Try.prog Try.f76 K)))) := by kernel_rfl
theorem spec_l05List_r1 (b1 : Nat) (hard : Bool) (limit : Nat) (list_a : Option Addr) (list_e : Nat) (list_n : Nat) (vout_a : Option Addr) (vout_n : Nat) (vout_e : Nat) (t12 : Int) (g8 g13 g14 g15 g16 g17 g18 g19 g20 g21 g22 g23 g24 g25 : Value) (H : AHeap) (R : Post) : exK Try.prog E_spec_l05List (cl (cl (cr (cl (cr (cr (bodyC Try.f76))))))) [.slice list_a list_n list_e, .float .f32 limit, .bool hard, undef, undef, undef, .slice none 0 0, .slice vout_a vout_n vout_e, g8, .slice (some ⟨b1, 0, none⟩) 0 1, .slice list_a list_n list_e, .int .i64 (list_n : Int), .int .i64 t12, g13, g14, g15, g16, g17, g18, g19, g20, g21, g22, g23, g24, g25, undef] H R =
  (Br (decide ((t12 : Int) < (list_n : Int))) ((0 : Int) ≤ t12 ∧ t12 < (list_n : Int) ∧ ∃ b2 f1, (list_a : Option Addr) = some ⟨b2, f1, none⟩ ∧ ∃ x1 : Nat,  rdC H b2 (f1 + (t12 : Int).toNat * 1) = some (.float .f32 x1) ∧ T_spec_l05Shrink x1 limit hard H fun (r1 : Nat) (H2 : AHeap) => Al [.float .f32 r1] H2 fun b3 H3 => ∃ o1 w1 : List Value, ownB H3 vout_a vout_n vout_e 1 = some o1 ∧ rdS H3 (some ⟨b3, 0, none⟩) (1 * 1) = some w1 ∧ ((vout_a : Option Addr) = none → 0 < (1 : Nat)) ∧ (vout_n : Nat) + 1 < most ∧ Ap H3 (killB H3 vout_a ++ [some ⟨o1 ++ w1, true⟩]) fun b4 H4 => R .normal [.slice list_a list_n list_e, .float .f32 limit, .bool hard, undef, undef, undef, .slice none 0 0, .slice (some ⟨b4, 0, none⟩) (vout_n + 1) 1, .int .i64 t12, .slice (some ⟨b1, 0, none⟩) 0 1, .slice list_a list_n list_e, .int .i64 (list_n : Int), .int .i64 (IntKind.wrap .i64 (t12 + 1)), .bool (decide ((t12 : Int) < (list_n : Int))), .int .i64 t12, .slice vout_a vout_n vout_e, .slice list_a list_n list_e, .int .i64 t12, .pointer (some ⟨b2, f1 + (t12 : Int).toNat * 1, none⟩), .float .f32 x1, .float .f32 limit, .bool hard, .float .f32 r1, .slice (some ⟨b3, 0, none⟩) 1 1, .slice (some ⟨b4, 0, none⟩) (vout_n + 1) 1, .int .i64 (IntKind.wrap .i64 (t12 + 1)), undef] H4) (R (.exit 0) [.slice list_a list_n list_e, .float .f32 limit, .bool hard, undef, undef, undef, .slice none 0 0, .slice vout_a vout_n vout_e, g8, .slice (some ⟨b1, 0, none⟩) 0 1, .slice list_a list_n list_e, .int .i64 (list_n : Int), .int .i64 t12, .bool (decide ((t12 : Int) < (list_n : Int))), g14, g15, g16, g17, g18, g19, g20, g21, g22, g23, g24, g25, undef] H)) := by kernel_rfl
def spec_l05List_I1 (b1 : Nat) (hard : Bool) (limit : Nat) (list_a : Option Addr) (list_e : Nat) (list_n : Nat) (Inv : Nat → (Option Addr) → Nat → Nat → Int → AHeap → Prop) : Nat → List Value → AHeap → Prop := fun μ tm H => ∃ (vout_a : Option Addr), ∃ (vout_n : Nat), ∃ (vout_e : Nat), ∃ (t12 : Int), ∃ g8 g13 g14 g15 g16 g17 g18 g19 g20 g21 g22 g23 g24 g25, tm = [.slice list_a list_n list_e, .float .f32 limit, .bool hard, undef, undef, undef, .slice none 0 0, .slice vout_a vout_n vout_e, g8, .slice (some ⟨b1, 0, none⟩) 0 1, .slice list_a list_n list_e, .int .i64 (list_n : Int), .int .i64 t12, g13, g14, g15, g16, g17, g18, g19, g20, g21, g22, g23, g24, g25, undef] ∧ Inv μ vout_a vout_n vout_e t12 H
theorem spec_l05List_L1 (b1 : Nat) (hard : Bool) (limit : Nat) (list_a : Option Addr) (list_e : Nat) (list_n : Nat) {Q : Post} (Inv : Nat → (Option Addr) → Nat → Nat → Int → AHeap → Prop) (ν : Nat) (vout_a : Option Addr) (vout_n : Nat) (vout_e : Nat) (t12 : Int) (g8 g13 g14 g15 g16 g17 g18 g19 g20 g21 g22 g23 g24 g25 : Value) (H : AHeap) (h0 : Inv ν vout_a vout_n vout_e t12 H)
    (hs : ∀ (μ : Nat) (vout_a : Option Addr) (vout_n : Nat) (vout_e : Nat) (t12 : Int) (g8 g13 g14 g15 g16 g17 g18 g19 g20 g21 g22 g23 g24 g25 : Value) (H : AHeap), Inv μ vout_a vout_n vout_e t12 H → exK Try.prog E_spec_l05List (cl (cl (cr (cl (cr (cr (bodyC Try.f76))))))) [.slice list_a list_n list_e, .float .f32 limit, .bool hard, undef, undef, undef, .slice none 0 0, .slice vout_a vout_n vout_e, g8, .slice (some ⟨b1, 0, none⟩) 0 1, .slice list_a list_n list_e, .int .i64 (list_n : Int), .int .i64 t12, g13, g14, g15, g16, g17, g18, g19, g20, g21, g22, g23, g24, g25, undef] H (loopQ (spec_l05List_I1 b1 hard limit list_a list_e list_n Inv) μ Q)) : loopK (exK Try.prog E_spec_l05List (cl (cl (cr (cl (cr (cr (bodyC Try.f76)))))))) [.slice list_a list_n list_e, .float .f32 limit, .bool hard, undef, undef, undef, .slice none 0 0, .slice vout_a vout_n vout_e, g8, .slice (some ⟨b1, 0, none⟩) 0 1, .slice list_a list_n list_e, .int .i64 (list_n : Int), .int .i64 t12, g13, g14, g15, g16, g17, g18, g19, g20, g21, g22, g23, g24, g25, undef] H Q :=
  ⟨spec_l05List_I1 b1 hard limit list_a list_e list_n Inv, ν, ⟨vout_a, vout_n, vout_e, t12, g8, g13, g14, g15, g16, g17, g18, g19, g20, g21, g22, g23, g24, g25, rfl, h0⟩, fun μ tm H h => by obtain ⟨vout_a, vout_n, vout_e, t12, g8, g13, g14, g15, g16, g17, g18, g19, g20, g21, g22, g23, g24, g25, rfl, hI⟩ := h; exact hs μ vout_a vout_n vout_e t12 g8 g13 g14 g15 g16 g17 g18 g19 g20 g21 g22 g23 g24 g25 H hI⟩
theorem spec_l05List_n1 {b1 : Nat} {hard : Bool} {limit : Nat} {list_a : Option Addr} {list_e : Nat} {list_n : Nat} {Q : Post} {Inv : Nat → (Option Addr) → Nat → Nat → Int → AHeap → Prop} {μ : Nat} (μ' : Nat) {vout_a : Option Addr} {vout_n : Nat} {vout_e : Nat} {t12 : Int} {g8 g13 g14 g15 g16 g17 g18 g19 g20 g21 g22 g23 g24 g25 : Value} {H : AHeap} (hm : μ' < μ) (hI : Inv μ' vout_a vout_n vout_e t12 H) : loopQ (spec_l05List_I1 b1 hard limit list_a list_e list_n Inv) μ Q .normal [.slice list_a list_n list_e, .float .f32 limit, .bool hard, undef, undef, undef, .slice none 0 0, .slice vout_a vout_n vout_e, g8, .slice (some ⟨b1, 0, none⟩) 0 1, .slice list_a list_n list_e, .int .i64 (list_n : Int), .int .i64 t12, g13, g14, g15, g16, g17, g18, g19, g20, g21, g22, g23, g24, g25, undef] H := ⟨μ', hm, vout_a, vout_n, vout_e, t12, g8, g13, g14, g15, g16, g17, g18, g19, g20, g21, g22, g23, g24, g25, rfl, hI⟩
theorem spec_l05List_x1_0 (b1 : Nat) (hard : Bool) (limit : Nat) (list_a : Option Addr) (list_e : Nat) (list_n : Nat) (vout_a : Option Addr) (vout_n : Nat) (vout_e : Nat) (t12 : Int) (g8 g13 g14 g15 g16 g17 g18 g19 g20 g21 g22 g23 g24 g25 : Value) (H : AHeap) (K : Value → AHeap → Prop)  {I : Nat → List Value → AHeap → Prop} {μ : Nat} : loopQ I μ (blockQ 0 (seqQ (exK Try.prog E_spec_l05List (cr (cr (cr (bodyC Try.f76))))) (retK Try.prog Try.f76 K))) (.exit 0) [.slice list_a list_n list_e, .float .f32 limit, .bool hard, undef, undef, undef, .slice none 0 0, .slice vout_a vout_n vout_e, g8, .slice (some ⟨b1, 0, none⟩) 0 1, .slice list_a list_n list_e, .int .i64 (list_n : Int), .int .i64 t12, g13, g14, g15, g16, g17, g18, g19, g20, g21, g22, g23, g24, g25, undef] H =
  (K (.slice vout_a vout_n vout_e) H) := by kernel_rfl
theorem E_spec_l05List_ok : ∀ g, FnOk Try.prog g (E_spec_l05List g) := FnOk.envOf (by
  intro x hx
  simp only [List.mem_cons, List.not_mem_nil, or_false] at hx
  subst hx; exact spec_l05Shrink_ok)
set_option maxHeartbeats 1000000 in
theorem spec_l05List_main (list_a : Option Addr) (list_n : Nat) (list_e : Nat) (limit : Nat) (hard : Bool) (H : AHeap) (K : Value → AHeap → Prop) (h : T_spec_l05List list_a list_n list_e limit hard H fun (r1_a : Option Addr) (r1_n : Nat) (r1_e : Nat) (H' : AHeap) => K (.slice r1_a r1_n r1_e) H') : bodyK Try.prog E_spec_l05List Try.f76 [.slice list_a list_n list_e, .float .f32 limit, .bool hard] H K := by
  rw [spec_l05List_vc]
  obtain ⟨l_list, i_list, bd_48, hk⟩ := h
  obtain rfl := i_list.eqn
  have e : (p_spec_l05List l_list limit hard) = _ := rfl
  have e := e.trans (p_spec_l05List_eq l_list limit hard)
  have g0 := Grow.refl H
  refine Al.intro (fun b_1 H_1 hb_2 hl_3 g_4 o_5 => ?_)
  have o_5 : Own H_1 b_1 ((([] : List Nat)).map fF) := o_5
  have l_7 := g_4.1
  have g_8 := g0.trans g_4
  have l_9 := g_8.1
  have w_47 := o_5.lt
  refine spec_l05List_L1 _ _ _ _ _ _ (fun (μ : Nat) (vout_a : Option Addr) (vout_n : Nat) (vout_e : Nat) (t12 : Int) (H_2 : AHeap) => ∃ (l_vout : List Nat), ∃ (b_10 : Nat), vout_a = some ⟨b_10, 0, none⟩ ∧ vout_n = l_vout.length ∧ vout_e = 1 ∧ Own H_2 b_10 (l_vout.map fF) ∧ Grow H H_2 ∧ H.length ≤ b_10 ∧ (0 : Int) ≤ t12 ∧ t12 ≤ (l_list.length : Int) ∧ (l_vout.length : Int) ≤ t12 - (0 : Int) + 0 ∧ (l_list.length : Int) - t12 ≤ (μ : Int) ∧ p_spec_l05List l_list limit hard = p_spec_l05List_l1 l_list limit hard (μ + 1) l_vout t12) (Int.toNat ((l_list.length : Int) - (0 : Int))) _ _ _ _ _ _ _ _ _ _ _ _ _ _ _ _ _ _ H_1 ?_ ?_
  · exact ⟨_, _, rfl, rfl, rfl, o_5, g_8, (by omega), (by first | omega | (simp; done) | (simp; omega)), (by first | omega | (simp; done) | (simp; omega)), (by first | omega | (simp; done) | (simp; omega)), (by omega), e⟩
  · intro μ vout_a vout_n vout_e t12 g8 g13 g14 g15 g16 g17 g18 g19 g20 g21 g22 g23 g24 g25 H_2 hI
    obtain ⟨l_vout, b_10, rfl, rfl, rfl, o_11, g_12, l_13, v_14, v_15, v_16, hμ, e⟩ := hI
    rw [spec_l05List_r1]
    have e := e.trans (p_spec_l05List_l1_s l_list limit hard μ l_vout t12)
    have w_17 := o_11.lt
    have l_18 := g_12.1
    refine Br.intro (fun c_19 => ?_) (fun c_19 => ?_)
    · have e := e.trans (cond_t c_19)
      have c_19' := of_decide_eq_true c_19
      obtain ⟨b_20, f_21, q_22⟩ := ((i_list.grow g_12)).pos (by first | omega | (simp only [List.length_set, List.length_replicate, List.length_append, List.length_cons, List.length_nil, List.length_take, List.length_drop, marks_length]; done) | (simp only [List.length_set, List.length_replicate, List.length_append, List.length_cons, List.length_nil, List.length_take, List.length_drop, marks_length]; omega))
      refine ⟨by omega, by omega, b_20, f_21, q_22, ?_⟩
      refine ⟨((l_list).getD (t12 : Int).toNat 0), (i_list).rd g_12 q_22 (by omega) _, ?_⟩
      refine T_spec_l05Shrink_i ?_
      refine Al.intro (fun b_23 H_3 hb_24 hl_25 g_26 o_27 => ?_)
      have o_27 : Own H_3 b_23 (([((p_spec_l05Shrink (((l_list).getD (t12 : Int).toNat 0)) limit hard))]).map fF) := o_27
      have l_29 := g_26.1
      have g_30 := g_12.trans g_26
      have l_31 := g_30.1
      have o_32 := o_11.grow g_26
      have w_33 := o_32.lt
      have w_46 := o_27.lt
      refine ⟨_, _, o_32.ownB (by first | (simp only [List.length_map, List.length_cons, List.length_nil, List.length_append]; done) | (simp only [List.length_map, List.length_cons, List.length_nil, List.length_append]; omega)) rfl, (isl_rdS (o_27.isL rfl)), (fun h => by cases h), (by have := most_eq; omega), ?_⟩
      refine Ap.app o_32 rfl rfl (fun b_38 H_4 q_44 hl_34 o_35 k_36 => ?_)
      have o_35 := map_snoc o_35
      have l_39 := k_36.1
      have g_40 := g_30.keep (b := b_10) (by omega) k_36
      have l_41 := g_40.1
      have o_42 := o_27.keep (by omega) k_36
      have w_43 := o_42.lt
      have w_45 := o_35.lt
      rw [show IntKind.wrap .i64 (t12 + 1) = (t12 + 1) from wrap64 (by omega) (by omega)]
      refine spec_l05List_n1 (μ - 1) (by omega) ⟨_, _, rfl, (by first | (simp only [List.length_append, List.length_cons, List.length_nil]; done) | (simp only [List.length_append, List.length_cons, List.length_nil]; omega)), rfl, o_35, g_40, (by omega), (by first | omega | (simp only [List.length_append, List.length_cons, List.length_nil, List.length_set]; done) | (simp only [List.length_append, List.length_cons, List.length_nil, List.length_set]; omega)), (by first | omega | (simp only [List.length_append, List.length_cons, List.length_nil, List.length_set]; done) | (simp only [List.length_append, List.length_cons, List.length_nil, List.length_set]; omega)), (by first | omega | (simp only [List.length_append, List.length_cons, List.length_nil, List.length_set]; done) | (simp only [List.length_append, List.length_cons, List.length_nil, List.length_set]; omega)), (by omega), (by rw [show μ - 1 + 1 = μ from by omega]; exact e)⟩
    · have e := e.trans (cond_f c_19)
      have c_19' := of_decide_eq_false c_19
      rw [spec_l05List_x1_0]
      rw [e] at hk
      exact hk _ _ _ H_2 g_12 (o_11.ownS rfl (by omega))
theorem spec_l05List_ok : FnOk Try.prog 76 S_spec_l05List := by
  refine FnOk.body mix_ok E_spec_l05List_ok Try.func76 rfl (by kernel_rfl) (by kernel_rfl) ?_ ?_ ?_ ?_ ?_
  · intro args H K K' h hk
    simp only [S_spec_l05List] at *
    unfold F_spec_l05List at *
    split at hk
    · obtain ⟨l_list, i_list, bd_48, k⟩ := hk
      exact ⟨l_list, i_list, bd_48, (fun r1_a r1_n r1_e H' gg ow0 => h _ _ (k r1_a r1_n r1_e H' gg ow0))⟩
    · exact hk.elim
  · intro hq; cases hq
  · intro args H K hk
    simp only [S_spec_l05List] at *
    unfold F_spec_l05List at *
    split at hk
    · obtain ⟨l_list, i_list, bd_48, k⟩ := hk
      exact liveS fun a n e H1 g o => ⟨_, _, k a n e H1 g o⟩
    · exact hk.elim
  · intro _ args H K hk
    simp only [S_spec_l05List] at *
    unfold F_spec_l05List at *
    split at hk
    · obtain ⟨l_list, i_list, bd_48, k⟩ := hk
      exact ⟨l_list, i_list, bd_48, (fun r1_a r1_n r1_e H' gg ow0 => ⟨gg, k r1_a r1_n r1_e H' gg ow0⟩)⟩
    · exact hk.elim
  · have mm := @spec_l05List_main
    revert mm
    generalize bodyK Try.prog E_spec_l05List Try.f76 = Q
    intro mm args H K hk
    simp only [S_spec_l05List] at *
    unfold F_spec_l05List at *
    split at hk
    · exact mm _ _ _ _ _ H K hk
    · exact hk.elim
def p_spec_ShrinkList (l_list : List Nat) (limit : Nat) (hard : Bool) : (List Nat) × Bool := (bif !(p_spec_l03Long l_list) then ([], false) else (bif !(p_spec_l02Least limit) then ([], false) else ((p_spec_l05List l_list limit hard), true)))
theorem p_spec_ShrinkList_eq (l_list : List Nat) (limit : Nat) (hard : Bool) : p_spec_ShrinkList l_list limit hard = (bif !(p_spec_l03Long l_list) then ([], false) else (bif !(p_spec_l02Least limit) then ([], false) else ((p_spec_l05List l_list limit hard), true))) := rfl
def T_spec_ShrinkList (list_a : Option Addr) (list_n : Nat) (list_e : Nat) (limit : Nat) (hard : Bool) (H : AHeap) (K : (Option Addr) → Nat → Nat → Bool → AHeap → Prop) : Prop := ∃ (l_list : List Nat), IsL fF H list_a list_n l_list ∧ l_list.length < 1073741824 ∧ ((∀ (r1_a : Option Addr) (r1_n r1_e : Nat), ∀ H' : AHeap, Grow H H' → OwnS fF H' H.length r1_a r1_n r1_e ((p_spec_ShrinkList l_list limit hard).1) → K r1_a r1_n r1_e ((p_spec_ShrinkList l_list limit hard).2) H'))
theorem T_spec_ShrinkList_i {list_a : Option Addr} {list_n : Nat} {list_e : Nat} {limit : Nat} {hard : Bool} {H : AHeap} {K : (Option Addr) → Nat → Nat → Bool → AHeap → Prop} (h : ∃ (l_list : List Nat), IsL fF H list_a list_n l_list ∧ l_list.length < 1073741824 ∧ ((∀ (r1_a : Option Addr) (r1_n r1_e : Nat), ∀ H' : AHeap, Grow H H' → OwnS fF H' H.length r1_a r1_n r1_e ((p_spec_ShrinkList l_list limit hard).1) → K r1_a r1_n r1_e ((p_spec_ShrinkList l_list limit hard).2) H'))) : T_spec_ShrinkList list_a list_n list_e limit hard H K := h
theorem spec_ShrinkList_len (l : List Nat) (limit : Nat) (hard : Bool) : (p_spec_ShrinkList l limit hard).1.length ≤ l.length := by
  rw [p_spec_ShrinkList_eq]
  cases p_spec_l03Long l
  · exact Nat.zero_le _
  · cases p_spec_l02Least limit
    · exact Nat.zero_le _
    · exact Nat.le_of_eq (spec_l05List_len l limit hard)
/-! spec_ShrinkList: function 44 -/
def E_spec_ShrinkList : Env := envOf [(61, S_spec_l03Long), (57, S_spec_l02Least), (76, S_spec_l05List)]
def F_spec_ShrinkList : List Value → AHeap → (Value → AHeap → Prop) → Prop
  | [.slice list_a list_n list_e, .float .f32 limit, .bool hard], H, K => T_spec_ShrinkList list_a list_n list_e limit hard H fun (r1_a : Option Addr) (r1_n : Nat) (r1_e : Nat) (r2 : Bool) (H' : AHeap) => K (.tuple #[.slice r1_a r1_n r1_e, .bool r2]) H'
  | _, _, _ => False
def S_spec_ShrinkList : FSpec := { F := F_spec_ShrinkList, quiet := false, tame := true }
theorem spec_ShrinkList_vc (list_a : Option Addr) (list_n : Nat) (list_e : Nat) (limit : Nat) (hard : Bool) (H : AHeap) (K : Value → AHeap → Prop) : bodyK Try.prog E_spec_ShrinkList Try.f44 [.slice list_a list_n list_e, .float .f32 limit, .bool hard] H K =
  (T_spec_l03Long list_a list_n list_e H fun (r1 : Bool) (H1 : AHeap) => Br (!r1) (K (.tuple #[.slice none 0 0, .bool false]) H1) (T_spec_l02Least limit H1 fun (r2 : Bool) (H2 : AHeap) => Br (!r2) (K (.tuple #[.slice none 0 0, .bool false]) H2) (T_spec_l05List list_a list_n list_e limit hard H2 fun (a1 : Option Addr) (r3 : Nat) (r4 : Nat) (H3 : AHeap) => K (.tuple #[.slice a1 r3 r4, .bool true]) H3))) := by kernel_rfl
theorem E_spec_ShrinkList_ok : ∀ g, FnOk Try.prog g (E_spec_ShrinkList g) := FnOk.envOf (by
  intro x hx
  simp only [List.mem_cons, List.not_mem_nil, or_false] at hx
  rcases hx with rfl | rfl | rfl
  · exact spec_l03Long_ok
  · exact spec_l02Least_ok
  · exact spec_l05List_ok)
set_option maxHeartbeats 1000000 in
theorem spec_ShrinkList_main (list_a : Option Addr) (list_n : Nat) (list_e : Nat) (limit : Nat) (hard : Bool) (H : AHeap) (K : Value → AHeap → Prop) (h : T_spec_ShrinkList list_a list_n list_e limit hard H fun (r1_a : Option Addr) (r1_n : Nat) (r1_e : Nat) (r2 : Bool) (H' : AHeap) => K (.tuple #[.slice r1_a r1_n r1_e, .bool r2]) H') : bodyK Try.prog E_spec_ShrinkList Try.f44 [.slice list_a list_n list_e, .float .f32 limit, .bool hard] H K := by
  rw [spec_ShrinkList_vc]
  obtain ⟨l_list, i_list, bd_15, hk⟩ := h
  obtain rfl := i_list.eqn
  have e : (p_spec_ShrinkList l_list limit hard) = _ := rfl
  have e := e.trans (p_spec_ShrinkList_eq l_list limit hard)
  have g0 := Grow.refl H
  refine T_spec_l03Long_i ⟨_, (i_list.grow g0), (by first | omega | (simp only [List.length_set, List.length_replicate, List.length_append, List.length_cons, List.length_nil, List.length_take, List.length_drop, marks_length]; done) | (simp only [List.length_set, List.length_replicate, List.length_append, List.length_cons, List.length_nil, List.length_take, List.length_drop, marks_length]; omega)), ?_⟩
  refine Br.intro (fun c_1 => ?_) (fun c_1 => ?_)
  · have e := e.trans (cond_t c_1)
    have c_1n := nf_of_t c_1
    rw [e] at hk
    exact hk _ _ _ H g0 (OwnS.nil _ _ _ _)
  · have e := e.trans (cond_f c_1)
    have c_1n := nt_of_f c_1
    refine T_spec_l02Least_i ?_
    refine Br.intro (fun c_2 => ?_) (fun c_2 => ?_)
    · have e := e.trans (cond_t c_2)
      have c_2n := nf_of_t c_2
      rw [e] at hk
      exact hk _ _ _ H g0 (OwnS.nil _ _ _ _)
    · have e := e.trans (cond_f c_2)
      have c_2n := nt_of_f c_2
      refine T_spec_l05List_i ⟨_, (i_list.grow g0), (by first | omega | (simp only [List.length_set, List.length_replicate, List.length_append, List.length_cons, List.length_nil, List.length_take, List.length_drop, marks_length]; done) | (simp only [List.length_set, List.length_replicate, List.length_append, List.length_cons, List.length_nil, List.length_take, List.length_drop, marks_length]; omega)), fun a_3 n_4 e_5 H_1 g_8 r_6 => ?_⟩
      have z_7 := spec_l05List_len l_list limit hard
      have l_9 := g_8.1
      have g_10 := g0.trans g_8
      have l_11 := g_10.1
      obtain rfl := r_6.isL.eqn
      have u_12 := r_6.up
      have u_13 := r_6.lo
      rw [e] at hk
      exact hk _ _ _ H_1 g_10 (r_6.weak (by omega))
theorem spec_ShrinkList_ok : FnOk Try.prog 44 S_spec_ShrinkList := by
  refine FnOk.body mix_ok E_spec_ShrinkList_ok Try.func44 rfl (by kernel_rfl) (by kernel_rfl) ?_ ?_ ?_ ?_ ?_
  · intro args H K K' h hk
    simp only [S_spec_ShrinkList] at *
    unfold F_spec_ShrinkList at *
    split at hk
    · obtain ⟨l_list, i_list, bd_15, k⟩ := hk
      exact ⟨l_list, i_list, bd_15, (fun r1_a r1_n r1_e H' gg ow0 => h _ _ (k r1_a r1_n r1_e H' gg ow0))⟩
    · exact hk.elim
  · intro hq; cases hq
  · intro args H K hk
    simp only [S_spec_ShrinkList] at *
    unfold F_spec_ShrinkList at *
    split at hk
    · obtain ⟨l_list, i_list, bd_15, k⟩ := hk
      exact liveS fun a n e H1 g o => ⟨_, _, k a n e H1 g o⟩
    · exact hk.elim
  · intro _ args H K hk
    simp only [S_spec_ShrinkList] at *
    unfold F_spec_ShrinkList at *
    split at hk
    · obtain ⟨l_list, i_list, bd_15, k⟩ := hk
      exact ⟨l_list, i_list, bd_15, (fun r1_a r1_n r1_e H' gg ow0 => ⟨gg, k r1_a r1_n r1_e H' gg ow0⟩)⟩
    · exact hk.elim
  · have mm := @spec_ShrinkList_main
    revert mm
    generalize bodyK Try.prog E_spec_ShrinkList Try.f44 = Q
    intro mm args H K hk
    simp only [S_spec_ShrinkList] at *
    unfold F_spec_ShrinkList at *
    split at hk
    · exact mm _ _ _ _ _ H K hk
    · exact hk.elim
def p_impl_within (n : Int) (low : Int) (high : Int) : Bool := (bif decide ((low : Int) ≤ n) then decide ((n : Int) ≤ high) else false)
theorem p_impl_within_eq (n : Int) (low : Int) (high : Int) : p_impl_within n low high = (bif decide ((low : Int) ≤ n) then decide ((n : Int) ≤ high) else false) := rfl
def T_impl_within (n : Int) (low : Int) (high : Int) (H : AHeap) (K : Bool → AHeap → Prop) : Prop := K (p_impl_within n low high) H
theorem impl_within_t {n a b : Int} (h : p_impl_within n a b = true) : a ≤ n ∧ n ≤ b := by
  unfold p_impl_within at h
  by_cases h1 : a ≤ n
  · rw [decide_eq_true h1, cond_true] at h; exact ⟨h1, of_decide_eq_true h⟩
  · rw [decide_eq_false h1] at h; cases h
theorem T_impl_within_i {n : Int} {low : Int} {high : Int} {H : AHeap} {K : Bool → AHeap → Prop} (h : K (p_impl_within n low high) H) : T_impl_within n low high H K := h
/-! impl_within: function 52 -/
def E_impl_within : Env := envOf []
def F_impl_within : List Value → AHeap → (Value → AHeap → Prop) → Prop
  | [.int .i64 n, .int .i64 low, .int .i64 high], H, K => T_impl_within n low high H fun (r1 : Bool) (H' : AHeap) => K (.bool r1) H'
  | _, _, _ => False
def S_impl_within : FSpec := { F := F_impl_within, quiet := true, tame := false }
theorem impl_within_vc (n : Int) (low : Int) (high : Int) (H : AHeap) (K : Value → AHeap → Prop) : bodyK Try.prog E_impl_within Try.f52 [.int .i64 n, .int .i64 low, .int .i64 high] H K =
  (Br (decide ((low : Int) ≤ n)) (K (.bool (decide ((n : Int) ≤ high))) H) (K (.bool false) H)) := by kernel_rfl
theorem E_impl_within_ok : ∀ g, FnOk Try.prog g (E_impl_within g) := FnOk.envOf (by
  intro x hx; cases hx)
set_option maxHeartbeats 1000000 in
theorem impl_within_main (n : Int) (low : Int) (high : Int) (H : AHeap) (K : Value → AHeap → Prop) (h : T_impl_within n low high H fun (r1 : Bool) (H' : AHeap) => K (.bool r1) H') : bodyK Try.prog E_impl_within Try.f52 [.int .i64 n, .int .i64 low, .int .i64 high] H K := by
  rw [impl_within_vc]
  unfold T_impl_within p_impl_within at h
  repeat' (first | exact h | (exfalso; simp_all; done) | (refine ⟨by decide, ?_⟩) | (refine Br.intro (fun hb => ?_) (fun hb => ?_) <;> (try simp only [hb, cond_true, cond_false, Bool.not_true, Bool.not_false] at h)))
theorem impl_within_ok : FnOk Try.prog 52 S_impl_within := by
  refine FnOk.body mix_ok E_impl_within_ok Try.func52 rfl (by kernel_rfl) (by kernel_rfl) ?_ ?_ ?_ ?_ ?_
  · intro args H K K' h hk
    simp only [S_impl_within] at *
    unfold F_impl_within at *
    split at hk
    · have k := hk
      exact h _ _ k
    · exact hk.elim
  · intro _ args H K hk
    simp only [S_impl_within] at *
    unfold F_impl_within at *
    split at hk
    · have k := hk
      exact ⟨_, k, fun K' k' => k'⟩
    · exact hk.elim
  · intro args H K hk
    simp only [S_impl_within] at *
    unfold F_impl_within at *
    split at hk
    · have k := hk
      exact ⟨_, _, k⟩
    · exact hk.elim
  · intro hq; cases hq
  · have mm := @impl_within_main
    revert mm
    generalize bodyK Try.prog E_impl_within Try.f52 = Q
    intro mm args H K hk
    simp only [S_impl_within] at *
    unfold F_impl_within at *
    split at hk
    · exact mm _ _ _ H K hk
    · exact hk.elim
def p_impl_IsFinite (x : Nat) : Bool := feq .f32 (fsub .f32 x x) 0
theorem p_impl_IsFinite_eq (x : Nat) : p_impl_IsFinite x = feq .f32 (fsub .f32 x x) 0 := rfl
def T_impl_IsFinite (x : Nat) (H : AHeap) (K : Bool → AHeap → Prop) : Prop := K (p_impl_IsFinite x) H

theorem T_impl_IsFinite_i {x : Nat} {H : AHeap} {K : Bool → AHeap → Prop} (h : K (p_impl_IsFinite x) H) : T_impl_IsFinite x H K := h
/-! impl_IsFinite: function 59 -/
def E_impl_IsFinite : Env := envOf []
def F_impl_IsFinite : List Value → AHeap → (Value → AHeap → Prop) → Prop
  | [.float .f32 x], H, K => T_impl_IsFinite x H fun (r1 : Bool) (H' : AHeap) => K (.bool r1) H'
  | _, _, _ => False
def S_impl_IsFinite : FSpec := { F := F_impl_IsFinite, quiet := true, tame := false }
theorem impl_IsFinite_vc (x : Nat) (H : AHeap) (K : Value → AHeap → Prop) : bodyK Try.prog E_impl_IsFinite Try.f59 [.float .f32 x] H K =
  (K (.bool (feq .f32 (fsub .f32 x x) 0)) H) := by kernel_rfl
theorem E_impl_IsFinite_ok : ∀ g, FnOk Try.prog g (E_impl_IsFinite g) := FnOk.envOf (by
  intro x hx; cases hx)
set_option maxHeartbeats 1000000 in
theorem impl_IsFinite_main (x : Nat) (H : AHeap) (K : Value → AHeap → Prop) (h : T_impl_IsFinite x H fun (r1 : Bool) (H' : AHeap) => K (.bool r1) H') : bodyK Try.prog E_impl_IsFinite Try.f59 [.float .f32 x] H K := by
  rw [impl_IsFinite_vc]
  unfold T_impl_IsFinite p_impl_IsFinite at h
  repeat' (first | exact h | (exfalso; simp_all; done) | (refine ⟨by decide, ?_⟩) | (refine Br.intro (fun hb => ?_) (fun hb => ?_) <;> (try simp only [hb, cond_true, cond_false, Bool.not_true, Bool.not_false] at h)))
theorem impl_IsFinite_ok : FnOk Try.prog 59 S_impl_IsFinite := by
  refine FnOk.body mix_ok E_impl_IsFinite_ok Try.func59 rfl (by kernel_rfl) (by kernel_rfl) ?_ ?_ ?_ ?_ ?_
  · intro args H K K' h hk
    simp only [S_impl_IsFinite] at *
    unfold F_impl_IsFinite at *
    split at hk
    · have k := hk
      exact h _ _ k
    · exact hk.elim
  · intro _ args H K hk
    simp only [S_impl_IsFinite] at *
    unfold F_impl_IsFinite at *
    split at hk
    · have k := hk
      exact ⟨_, k, fun K' k' => k'⟩
    · exact hk.elim
  · intro args H K hk
    simp only [S_impl_IsFinite] at *
    unfold F_impl_IsFinite at *
    split at hk
    · have k := hk
      exact ⟨_, _, k⟩
    · exact hk.elim
  · intro hq; cases hq
  · have mm := @impl_IsFinite_main
    revert mm
    generalize bodyK Try.prog E_impl_IsFinite Try.f59 = Q
    intro mm args H K hk
    simp only [S_impl_IsFinite] at *
    unfold F_impl_IsFinite at *
    split at hk
    · exact mm _ H K hk
    · exact hk.elim
def p_impl_areFinite_l2 (l_lists : List (List Nat)) (t2 : Bool) (t9 : Int) (k2_2 : Bool → Int → Bool) : Nat → Bool → Int → Bool
  | 0, _, _ => false
  | μ2 + 1, t2_2, t15 => (bif decide ((t15 : Int) < ((((l_lists).getD (t9 : Int).toNat [])).length : Int)) then (bif !((p_impl_IsFinite (((((l_lists).getD (t9 : Int).toNat [])).getD (t15 : Int).toNat 0)))) then false else (p_impl_areFinite_l2 l_lists t2 t9 k2_2 μ2 t2_2 (t15 + 1))) else (k2_2 t2_2 t15))
theorem p_impl_areFinite_l2_s (l_lists : List (List Nat)) (t2 : Bool) (t9 : Int) (k2_2 : Bool → Int → Bool) (μ2 : Nat) (t2_2 : Bool) (t15 : Int) : p_impl_areFinite_l2 l_lists t2 t9 k2_2 (μ2 + 1) t2_2 t15 = (bif decide ((t15 : Int) < ((((l_lists).getD (t9 : Int).toNat [])).length : Int)) then (bif !((p_impl_IsFinite (((((l_lists).getD (t9 : Int).toNat [])).getD (t15 : Int).toNat 0)))) then false else (p_impl_areFinite_l2 l_lists t2 t9 k2_2 μ2 t2_2 (t15 + 1))) else (k2_2 t2_2 t15)) := rfl
def p_impl_areFinite_l1 (l_lists : List (List Nat)) : Nat → Bool → Int → Bool
  | 0, _, _ => false
  | μ + 1, t2, t9 => (bif decide ((t9 : Int) < (l_lists.length : Int)) then (p_impl_areFinite_l2 l_lists t2 t9 (fun (t2_2 : Bool) (t15 : Int) => (p_impl_areFinite_l1 l_lists μ t2_2 (t9 + 1))) (Int.toNat (((((l_lists).getD (t9 : Int).toNat [])).length : Int) - (0 : Int)) + 1) t2 (0 : Int)) else true)
theorem p_impl_areFinite_l1_s (l_lists : List (List Nat)) (μ : Nat) (t2 : Bool) (t9 : Int) : p_impl_areFinite_l1 l_lists (μ + 1) t2 t9 = (bif decide ((t9 : Int) < (l_lists.length : Int)) then (p_impl_areFinite_l2 l_lists t2 t9 (fun (t2_2 : Bool) (t15 : Int) => (p_impl_areFinite_l1 l_lists μ t2_2 (t9 + 1))) (Int.toNat (((((l_lists).getD (t9 : Int).toNat [])).length : Int) - (0 : Int)) + 1) t2 (0 : Int)) else true) := rfl
def p_impl_areFinite (l_lists : List (List Nat)) : Bool := (p_impl_areFinite_l1 l_lists (Int.toNat ((l_lists.length : Int) - (0 : Int)) + 1) false (0 : Int))
theorem p_impl_areFinite_eq (l_lists : List (List Nat)) : p_impl_areFinite l_lists = (p_impl_areFinite_l1 l_lists (Int.toNat ((l_lists.length : Int) - (0 : Int)) + 1) false (0 : Int)) := rfl
def T_impl_areFinite (lists_a : Option Addr) (lists_n : Nat) (lists_e : Nat) (H : AHeap) (K : Bool → AHeap → Prop) : Prop := ∃ (l_lists : List (List Nat)), IsLL fF H lists_a lists_n l_lists ∧ l_lists.length < 1073741824 ∧ (∀ y ∈ l_lists, y.length < 1073741824) ∧ K (p_impl_areFinite l_lists) H
theorem T_impl_areFinite_i {lists_a : Option Addr} {lists_n : Nat} {lists_e : Nat} {H : AHeap} {K : Bool → AHeap → Prop} (h : ∃ (l_lists : List (List Nat)), IsLL fF H lists_a lists_n l_lists ∧ l_lists.length < 1073741824 ∧ (∀ y ∈ l_lists, y.length < 1073741824) ∧ K (p_impl_areFinite l_lists) H) : T_impl_areFinite lists_a lists_n lists_e H K := h

/-! impl_areFinite: function 85 -/
def E_impl_areFinite : Env := envOf [(59, S_impl_IsFinite)]
def F_impl_areFinite : List Value → AHeap → (Value → AHeap → Prop) → Prop
  | [.slice lists_a lists_n lists_e], H, K => T_impl_areFinite lists_a lists_n lists_e H fun (r1 : Bool) (H' : AHeap) => K (.bool r1) H'
  | _, _, _ => False
def S_impl_areFinite : FSpec := { F := F_impl_areFinite, quiet := true, tame := false }
theorem impl_areFinite_vc (lists_a : Option Addr) (lists_n : Nat) (lists_e : Nat) (H : AHeap) (K : Value → AHeap → Prop) : bodyK Try.prog E_impl_areFinite Try.f85 [.slice lists_a lists_n lists_e] H K =
  (loopK (exK Try.prog E_impl_areFinite (cl (cl (cr (cl (cr (bodyC Try.f85))))))) [.slice lists_a lists_n lists_e, undef, .bool false, undef, undef, undef, undef, .slice lists_a lists_n lists_e, .int .i64 (lists_n : Int), .int .i64 0, undef, undef, undef, undef, undef, undef, undef, undef, undef, undef, undef, undef, undef, undef] H (blockQ 0 (seqQ (exK Try.prog E_impl_areFinite (cr (cr (bodyC Try.f85)))) (retK Try.prog Try.f85 K)))) := by kernel_rfl
theorem impl_areFinite_r1 (lists_a : Option Addr) (lists_e : Nat) (lists_n : Nat) (t2 : Bool) (t9 : Int) (g4 g6 g10 g11 g12 g13 g14 g15 g16 g17 g18 g19 g20 g21 g22 g23 : Value) (H : AHeap) (R : Post) : exK Try.prog E_impl_areFinite (cl (cl (cr (cl (cr (bodyC Try.f85)))))) [.slice lists_a lists_n lists_e, undef, .bool t2, undef, g4, undef, g6, .slice lists_a lists_n lists_e, .int .i64 (lists_n : Int), .int .i64 t9, g10, g11, g12, g13, g14, g15, g16, g17, g18, g19, g20, g21, g22, g23] H R =
  (Br (decide ((t9 : Int) < (lists_n : Int))) ((0 : Int) ≤ t9 ∧ t9 < (lists_n : Int) ∧ ∃ b1 f1, (lists_a : Option Addr) = some ⟨b1, f1, none⟩ ∧ ∃ x1_a : Option Addr, ∃ x1_n : Nat, ∃ x1_e : Nat,  rdC H b1 (f1 + (t9 : Int).toNat * 1) = some (.slice x1_a x1_n x1_e) ∧ loopK (exK Try.prog E_impl_areFinite (cl (cl (cr (cr (cl (cl (cr (cr (cl (cl (cr (cl (cr (bodyC Try.f85))))))))))))))) [.slice lists_a lists_n lists_e, undef, .bool t2, undef, .slice x1_a x1_n x1_e, undef, g6, .slice lists_a lists_n lists_e, .int .i64 (lists_n : Int), .int .i64 t9, .bool (decide ((t9 : Int) < (lists_n : Int))), .pointer (some ⟨b1, f1 + (t9 : Int).toNat * 1, none⟩), .slice x1_a x1_n x1_e, .slice x1_a x1_n x1_e, .int .i64 (x1_n : Int), .int .i64 0, g16, g17, g18, g19, g20, g21, g22, g23] H (blockQ 2 (blockQ 1 (seqQ (exK Try.prog E_impl_areFinite (cr (cr (cr (cl (cl (cr (cl (cr (bodyC Try.f85)))))))))) (R))))) (R (.exit 0) [.slice lists_a lists_n lists_e, undef, .bool t2, undef, g4, undef, g6, .slice lists_a lists_n lists_e, .int .i64 (lists_n : Int), .int .i64 t9, .bool (decide ((t9 : Int) < (lists_n : Int))), g11, g12, g13, g14, g15, g16, g17, g18, g19, g20, g21, g22, g23] H)) := by kernel_rfl
def impl_areFinite_I1 (lists_a : Option Addr) (lists_e : Nat) (lists_n : Nat) (Inv : Nat → Bool → Int → AHeap → Prop) : Nat → List Value → AHeap → Prop := fun μ tm H => ∃ (t2 : Bool), ∃ (t9 : Int), ∃ g4 g6 g10 g11 g12 g13 g14 g15 g16 g17 g18 g19 g20 g21 g22 g23, tm = [.slice lists_a lists_n lists_e, undef, .bool t2, undef, g4, undef, g6, .slice lists_a lists_n lists_e, .int .i64 (lists_n : Int), .int .i64 t9, g10, g11, g12, g13, g14, g15, g16, g17, g18, g19, g20, g21, g22, g23] ∧ Inv μ t2 t9 H
theorem impl_areFinite_L1 (lists_a : Option Addr) (lists_e : Nat) (lists_n : Nat) {Q : Post} (Inv : Nat → Bool → Int → AHeap → Prop) (ν : Nat) (t2 : Bool) (t9 : Int) (g4 g6 g10 g11 g12 g13 g14 g15 g16 g17 g18 g19 g20 g21 g22 g23 : Value) (H : AHeap) (h0 : Inv ν t2 t9 H)
    (hs : ∀ (μ : Nat) (t2 : Bool) (t9 : Int) (g4 g6 g10 g11 g12 g13 g14 g15 g16 g17 g18 g19 g20 g21 g22 g23 : Value) (H : AHeap), Inv μ t2 t9 H → exK Try.prog E_impl_areFinite (cl (cl (cr (cl (cr (bodyC Try.f85)))))) [.slice lists_a lists_n lists_e, undef, .bool t2, undef, g4, undef, g6, .slice lists_a lists_n lists_e, .int .i64 (lists_n : Int), .int .i64 t9, g10, g11, g12, g13, g14, g15, g16, g17, g18, g19, g20, g21, g22, g23] H (loopQ (impl_areFinite_I1 lists_a lists_e lists_n Inv) μ Q)) : loopK (exK Try.prog E_impl_areFinite (cl (cl (cr (cl (cr (bodyC Try.f85))))))) [.slice lists_a lists_n lists_e, undef, .bool t2, undef, g4, undef, g6, .slice lists_a lists_n lists_e, .int .i64 (lists_n : Int), .int .i64 t9, g10, g11, g12, g13, g14, g15, g16, g17, g18, g19, g20, g21, g22, g23] H Q :=
  ⟨impl_areFinite_I1 lists_a lists_e lists_n Inv, ν, ⟨t2, t9, g4, g6, g10, g11, g12, g13, g14, g15, g16, g17, g18, g19, g20, g21, g22, g23, rfl, h0⟩, fun μ tm H h => by obtain ⟨t2, t9, g4, g6, g10, g11, g12, g13, g14, g15, g16, g17, g18, g19, g20, g21, g22, g23, rfl, hI⟩ := h; exact hs μ t2 t9 g4 g6 g10 g11 g12 g13 g14 g15 g16 g17 g18 g19 g20 g21 g22 g23 H hI⟩
theorem impl_areFinite_n1 {lists_a : Option Addr} {lists_e : Nat} {lists_n : Nat} {Q : Post} {Inv : Nat → Bool → Int → AHeap → Prop} {μ : Nat} (μ' : Nat) {t2 : Bool} {t9 : Int} {g4 g6 g10 g11 g12 g13 g14 g15 g16 g17 g18 g19 g20 g21 g22 g23 : Value} {H : AHeap} (hm : μ' < μ) (hI : Inv μ' t2 t9 H) : loopQ (impl_areFinite_I1 lists_a lists_e lists_n Inv) μ Q .normal [.slice lists_a lists_n lists_e, undef, .bool t2, undef, g4, undef, g6, .slice lists_a lists_n lists_e, .int .i64 (lists_n : Int), .int .i64 t9, g10, g11, g12, g13, g14, g15, g16, g17, g18, g19, g20, g21, g22, g23] H := ⟨μ', hm, t2, t9, g4, g6, g10, g11, g12, g13, g14, g15, g16, g17, g18, g19, g20, g21, g22, g23, rfl, hI⟩
theorem impl_areFinite_x1_0 (lists_a : Option Addr) (lists_e : Nat) (lists_n : Nat) (t2 : Bool) (t9 : Int) (g4 g6 g10 g11 g12 g13 g14 g15 g16 g17 g18 g19 g20 g21 g22 g23 : Value) (H : AHeap) (K : Value → AHeap → Prop)  {I : Nat → List Value → AHeap → Prop} {μ : Nat} : loopQ I μ (blockQ 0 (seqQ (exK Try.prog E_impl_areFinite (cr (cr (bodyC Try.f85)))) (retK Try.prog Try.f85 K))) (.exit 0) [.slice lists_a lists_n lists_e, undef, .bool t2, undef, g4, undef, g6, .slice lists_a lists_n lists_e, .int .i64 (lists_n : Int), .int .i64 t9, g10, g11, g12, g13, g14, g15, g16, g17, g18, g19, g20, g21, g22, g23] H =
  (K (.bool true) H) := by kernel_rfl
theorem impl_areFinite_x1_ret (lists_a : Option Addr) (lists_e : Nat) (lists_n : Nat) (t2 : Bool) (t9 : Int) (g4 g6 g10 g11 g12 g13 g14 g15 g16 g17 g18 g19 g20 g21 g22 g23 : Value) (H : AHeap) (K : Value → AHeap → Prop)  {I : Nat → List Value → AHeap → Prop} {μ : Nat} : loopQ I μ (blockQ 0 (seqQ (exK Try.prog E_impl_areFinite (cr (cr (bodyC Try.f85)))) (retK Try.prog Try.f85 K))) .ret [.slice lists_a lists_n lists_e, undef, .bool t2, undef, g4, undef, g6, .slice lists_a lists_n lists_e, .int .i64 (lists_n : Int), .int .i64 t9, g10, g11, g12, g13, g14, g15, g16, g17, g18, g19, g20, g21, g22, g23] H =
  (K (.bool t2) H) := by kernel_rfl
theorem impl_areFinite_r2 (b1 : Nat) (f1 : Nat) (g23 : Value) (lists_a : Option Addr) (lists_e : Nat) (lists_n : Nat) (t9 : Int) (x1_a : Option Addr) (x1_e : Nat) (x1_n : Nat) (t2_2 : Bool) (t15 : Int) (g6 g16 g17 g18 g19 g20 g21 g22 : Value) (H : AHeap) (R : Post) : exK Try.prog E_impl_areFinite (cl (cl (cr (cr (cl (cl (cr (cr (cl (cl (cr (cl (cr (bodyC Try.f85)))))))))))))) [.slice lists_a lists_n lists_e, undef, .bool t2_2, undef, .slice x1_a x1_n x1_e, undef, g6, .slice lists_a lists_n lists_e, .int .i64 (lists_n : Int), .int .i64 t9, .bool (decide ((t9 : Int) < (lists_n : Int))), .pointer (some ⟨b1, f1 + (t9 : Int).toNat * 1, none⟩), .slice x1_a x1_n x1_e, .slice x1_a x1_n x1_e, .int .i64 (x1_n : Int), .int .i64 t15, g16, g17, g18, g19, g20, g21, g22, g23] H R =
  (Br (decide ((t15 : Int) < (x1_n : Int))) ((0 : Int) ≤ t15 ∧ t15 < (x1_n : Int) ∧ ∃ b2 f2, (x1_a : Option Addr) = some ⟨b2, f2, none⟩ ∧ ∃ x2 : Nat,  rdC H b2 (f2 + (t15 : Int).toNat * 1) = some (.float .f32 x2) ∧ T_impl_IsFinite x2 H fun (r1 : Bool) (H1 : AHeap) => Br (!r1) (R .ret [.slice lists_a lists_n lists_e, undef, .bool false, undef, .slice x1_a x1_n x1_e, undef, .float .f32 x2, .slice lists_a lists_n lists_e, .int .i64 (lists_n : Int), .int .i64 t9, .bool (decide ((t9 : Int) < (lists_n : Int))), .pointer (some ⟨b1, f1 + (t9 : Int).toNat * 1, none⟩), .slice x1_a x1_n x1_e, .slice x1_a x1_n x1_e, .int .i64 (x1_n : Int), .int .i64 t15, .bool (decide ((t15 : Int) < (x1_n : Int))), .pointer (some ⟨b2, f2 + (t15 : Int).toNat * 1, none⟩), .float .f32 x2, .float .f32 x2, .bool r1, .bool (!r1), g22, g23] H1) (R .normal [.slice lists_a lists_n lists_e, undef, .bool t2_2, undef, .slice x1_a x1_n x1_e, undef, .float .f32 x2, .slice lists_a lists_n lists_e, .int .i64 (lists_n : Int), .int .i64 t9, .bool (decide ((t9 : Int) < (lists_n : Int))), .pointer (some ⟨b1, f1 + (t9 : Int).toNat * 1, none⟩), .slice x1_a x1_n x1_e, .slice x1_a x1_n x1_e, .int .i64 (x1_n : Int), .int .i64 (IntKind.wrap .i64 (t15 + 1)), .bool (decide ((t15 : Int) < (x1_n : Int))), .pointer (some ⟨b2, f2 + (t15 : Int).toNat * 1, none⟩), .float .f32 x2, .float .f32 x2, .bool r1, .bool (!r1), .int .i64 (IntKind.wrap .i64 (t15 + 1)), g23] H1)) (R (.exit 2) [.slice lists_a lists_n lists_e, undef, .bool t2_2, undef, .slice x1_a x1_n x1_e, undef, g6, .slice lists_a lists_n lists_e, .int .i64 (lists_n : Int), .int .i64 t9, .bool (decide ((t9 : Int) < (lists_n : Int))), .pointer (some ⟨b1, f1 + (t9 : Int).toNat * 1, none⟩), .slice x1_a x1_n x1_e, .slice x1_a x1_n x1_e, .int .i64 (x1_n : Int), .int .i64 t15, .bool (decide ((t15 : Int) < (x1_n : Int))), g17, g18, g19, g20, g21, g22, g23] H)) := by kernel_rfl
def impl_areFinite_I2 (b1 : Nat) (f1 : Nat) (g23 : Value) (lists_a : Option Addr) (lists_e : Nat) (lists_n : Nat) (t9 : Int) (x1_a : Option Addr) (x1_e : Nat) (x1_n : Nat) (Inv : Nat → Bool → Int → AHeap → Prop) : Nat → List Value → AHeap → Prop := fun μ tm H => ∃ (t2_2 : Bool), ∃ (t15 : Int), ∃ g6 g16 g17 g18 g19 g20 g21 g22, tm = [.slice lists_a lists_n lists_e, undef, .bool t2_2, undef, .slice x1_a x1_n x1_e, undef, g6, .slice lists_a lists_n lists_e, .int .i64 (lists_n : Int), .int .i64 t9, .bool (decide ((t9 : Int) < (lists_n : Int))), .pointer (some ⟨b1, f1 + (t9 : Int).toNat * 1, none⟩), .slice x1_a x1_n x1_e, .slice x1_a x1_n x1_e, .int .i64 (x1_n : Int), .int .i64 t15, g16, g17, g18, g19, g20, g21, g22, g23] ∧ Inv μ t2_2 t15 H
theorem impl_areFinite_L2 (b1 : Nat) (f1 : Nat) (g23 : Value) (lists_a : Option Addr) (lists_e : Nat) (lists_n : Nat) (t9 : Int) (x1_a : Option Addr) (x1_e : Nat) (x1_n : Nat) {Q : Post} (Inv : Nat → Bool → Int → AHeap → Prop) (ν : Nat) (t2_2 : Bool) (t15 : Int) (g6 g16 g17 g18 g19 g20 g21 g22 : Value) (H : AHeap) (h0 : Inv ν t2_2 t15 H)
    (hs : ∀ (μ : Nat) (t2_2 : Bool) (t15 : Int) (g6 g16 g17 g18 g19 g20 g21 g22 : Value) (H : AHeap), Inv μ t2_2 t15 H → exK Try.prog E_impl_areFinite (cl (cl (cr (cr (cl (cl (cr (cr (cl (cl (cr (cl (cr (bodyC Try.f85)))))))))))))) [.slice lists_a lists_n lists_e, undef, .bool t2_2, undef, .slice x1_a x1_n x1_e, undef, g6, .slice lists_a lists_n lists_e, .int .i64 (lists_n : Int), .int .i64 t9, .bool (decide ((t9 : Int) < (lists_n : Int))), .pointer (some ⟨b1, f1 + (t9 : Int).toNat * 1, none⟩), .slice x1_a x1_n x1_e, .slice x1_a x1_n x1_e, .int .i64 (x1_n : Int), .int .i64 t15, g16, g17, g18, g19, g20, g21, g22, g23] H (loopQ (impl_areFinite_I2 b1 f1 g23 lists_a lists_e lists_n t9 x1_a x1_e x1_n Inv) μ Q)) : loopK (exK Try.prog E_impl_areFinite (cl (cl (cr (cr (cl (cl (cr (cr (cl (cl (cr (cl (cr (bodyC Try.f85))))))))))))))) [.slice lists_a lists_n lists_e, undef, .bool t2_2, undef, .slice x1_a x1_n x1_e, undef, g6, .slice lists_a lists_n lists_e, .int .i64 (lists_n : Int), .int .i64 t9, .bool (decide ((t9 : Int) < (lists_n : Int))), .pointer (some ⟨b1, f1 + (t9 : Int).toNat * 1, none⟩), .slice x1_a x1_n x1_e, .slice x1_a x1_n x1_e, .int .i64 (x1_n : Int), .int .i64 t15, g16, g17, g18, g19, g20, g21, g22, g23] H Q :=
  ⟨impl_areFinite_I2 b1 f1 g23 lists_a lists_e lists_n t9 x1_a x1_e x1_n Inv, ν, ⟨t2_2, t15, g6, g16, g17, g18, g19, g20, g21, g22, rfl, h0⟩, fun μ tm H h => by obtain ⟨t2_2, t15, g6, g16, g17, g18, g19, g20, g21, g22, rfl, hI⟩ := h; exact hs μ t2_2 t15 g6 g16 g17 g18 g19 g20 g21 g22 H hI⟩
theorem impl_areFinite_n2 {b1 : Nat} {f1 : Nat} {g23 : Value} {lists_a : Option Addr} {lists_e : Nat} {lists_n : Nat} {t9 : Int} {x1_a : Option Addr} {x1_e : Nat} {x1_n : Nat} {Q : Post} {Inv : Nat → Bool → Int → AHeap → Prop} {μ : Nat} (μ' : Nat) {t2_2 : Bool} {t15 : Int} {g6 g16 g17 g18 g19 g20 g21 g22 : Value} {H : AHeap} (hm : μ' < μ) (hI : Inv μ' t2_2 t15 H) : loopQ (impl_areFinite_I2 b1 f1 g23 lists_a lists_e lists_n t9 x1_a x1_e x1_n Inv) μ Q .normal [.slice lists_a lists_n lists_e, undef, .bool t2_2, undef, .slice x1_a x1_n x1_e, undef, g6, .slice lists_a lists_n lists_e, .int .i64 (lists_n : Int), .int .i64 t9, .bool (decide ((t9 : Int) < (lists_n : Int))), .pointer (some ⟨b1, f1 + (t9 : Int).toNat * 1, none⟩), .slice x1_a x1_n x1_e, .slice x1_a x1_n x1_e, .int .i64 (x1_n : Int), .int .i64 t15, g16, g17, g18, g19, g20, g21, g22, g23] H := ⟨μ', hm, t2_2, t15, g6, g16, g17, g18, g19, g20, g21, g22, rfl, hI⟩
theorem impl_areFinite_x2_2 (b1 : Nat) (f1 : Nat) (g23 : Value) (lists_a : Option Addr) (lists_e : Nat) (lists_n : Nat) (t9 : Int) (x1_a : Option Addr) (x1_e : Nat) (x1_n : Nat) (t2_2 : Bool) (t15 : Int) (g6 g16 g17 g18 g19 g20 g21 g22 : Value) (H : AHeap)  (R : Post) {I : Nat → List Value → AHeap → Prop} {μ : Nat} : loopQ I μ (blockQ 2 (blockQ 1 (seqQ (exK Try.prog E_impl_areFinite (cr (cr (cr (cl (cl (cr (cl (cr (bodyC Try.f85)))))))))) (R)))) (.exit 2) [.slice lists_a lists_n lists_e, undef, .bool t2_2, undef, .slice x1_a x1_n x1_e, undef, g6, .slice lists_a lists_n lists_e, .int .i64 (lists_n : Int), .int .i64 t9, .bool (decide ((t9 : Int) < (lists_n : Int))), .pointer (some ⟨b1, f1 + (t9 : Int).toNat * 1, none⟩), .slice x1_a x1_n x1_e, .slice x1_a x1_n x1_e, .int .i64 (x1_n : Int), .int .i64 t15, g16, g17, g18, g19, g20, g21, g22, g23] H =
  (R .normal [.slice lists_a lists_n lists_e, undef, .bool t2_2, undef, .slice x1_a x1_n x1_e, undef, g6, .slice lists_a lists_n lists_e, .int .i64 (lists_n : Int), .int .i64 (IntKind.wrap .i64 (t9 + 1)), .bool (decide ((t9 : Int) < (lists_n : Int))), .pointer (some ⟨b1, f1 + (t9 : Int).toNat * 1, none⟩), .slice x1_a x1_n x1_e, .slice x1_a x1_n x1_e, .int .i64 (x1_n : Int), .int .i64 t15, g16, g17, g18, g19, g20, g21, g22, .int .i64 (IntKind.wrap .i64 (t9 + 1))] H) := by kernel_rfl
theorem impl_areFinite_x2_ret (b1 : Nat) (f1 : Nat) (g23 : Value) (lists_a : Option Addr) (lists_e : Nat) (lists_n : Nat) (t9 : Int) (x1_a : Option Addr) (x1_e : Nat) (x1_n : Nat) (t2_2 : Bool) (t15 : Int) (g6 g16 g17 g18 g19 g20 g21 g22 : Value) (H : AHeap)  (R : Post) {I : Nat → List Value → AHeap → Prop} {μ : Nat} : loopQ I μ (blockQ 2 (blockQ 1 (seqQ (exK Try.prog E_impl_areFinite (cr (cr (cr (cl (cl (cr (cl (cr (bodyC Try.f85)))))))))) (R)))) .ret [.slice lists_a lists_n lists_e, undef, .bool t2_2, undef, .slice x1_a x1_n x1_e, undef, g6, .slice lists_a lists_n lists_e, .int .i64 (lists_n : Int), .int .i64 t9, .bool (decide ((t9 : Int) < (lists_n : Int))), .pointer (some ⟨b1, f1 + (t9 : Int).toNat * 1, none⟩), .slice x1_a x1_n x1_e, .slice x1_a x1_n x1_e, .int .i64 (x1_n : Int), .int .i64 t15, g16, g17, g18, g19, g20, g21, g22, g23] H =
  (R .ret [.slice lists_a lists_n lists_e, undef, .bool t2_2, undef, .slice x1_a x1_n x1_e, undef, g6, .slice lists_a lists_n lists_e, .int .i64 (lists_n : Int), .int .i64 t9, .bool (decide ((t9 : Int) < (lists_n : Int))), .pointer (some ⟨b1, f1 + (t9 : Int).toNat * 1, none⟩), .slice x1_a x1_n x1_e, .slice x1_a x1_n x1_e, .int .i64 (x1_n : Int), .int .i64 t15, g16, g17, g18, g19, g20, g21, g22, g23] H) := by kernel_rfl
theorem E_impl_areFinite_ok : ∀ g, FnOk Try.prog g (E_impl_areFinite g) := FnOk.envOf (by
  intro x hx
  simp only [List.mem_cons, List.not_mem_nil, or_false] at hx
  subst hx; exact impl_IsFinite_ok)
set_option maxHeartbeats 1000000 in
theorem impl_areFinite_main (lists_a : Option Addr) (lists_n : Nat) (lists_e : Nat) (H : AHeap) (K : Value → AHeap → Prop) (h : T_impl_areFinite lists_a lists_n lists_e H fun (r1 : Bool) (H' : AHeap) => K (.bool r1) H') : bodyK Try.prog E_impl_areFinite Try.f85 [.slice lists_a lists_n lists_e] H K := by
  rw [impl_areFinite_vc]
  obtain ⟨l_lists, i_lists, bd_22, bb_l_lists, hk⟩ := h
  obtain rfl := i_lists.eqn
  have e : (p_impl_areFinite l_lists) = _ := rfl
  have e := e.trans (p_impl_areFinite_eq l_lists)
  have g0 := Grow.refl H
  refine impl_areFinite_L1 _ _ _ (fun (μ : Nat) (t2 : Bool) (t9 : Int) (H_1 : AHeap) => H = H_1 ∧ (0 : Int) ≤ t9 ∧ t9 ≤ (l_lists.length : Int) ∧ (l_lists.length : Int) - t9 ≤ (μ : Int) ∧ p_impl_areFinite l_lists = p_impl_areFinite_l1 l_lists (μ + 1) t2 t9) (Int.toNat ((l_lists.length : Int) - (0 : Int))) _ _ _ _ _ _ _ _ _ _ _ _ _ _ _ _ _ _ H ?_ ?_
  · exact ⟨rfl, (by first | omega | (simp; done) | (simp; omega)), (by first | omega | (simp; done) | (simp; omega)), (by omega), e⟩
  · intro μ t2 t9 g4 g6 g10 g11 g12 g13 g14 g15 g16 g17 g18 g19 g20 g21 g22 g23 H_1 hI
    obtain ⟨rfl, v_1, v_2, hμ, e⟩ := hI
    rw [impl_areFinite_r1]
    have e := e.trans (p_impl_areFinite_l1_s l_lists μ t2 t9)
    have l_3 := g0.1
    refine Br.intro (fun c_4 => ?_) (fun c_4 => ?_)
    · have e := e.trans (cond_t c_4)
      have c_4' := of_decide_eq_true c_4
      obtain ⟨b_5, f_6, q_7⟩ := ((i_lists.grow g0)).pos (by first | omega | (simp only [List.length_set, List.length_replicate, List.length_append, List.length_cons, List.length_nil, List.length_take, List.length_drop, marks_length]; done) | (simp only [List.length_set, List.length_replicate, List.length_append, List.length_cons, List.length_nil, List.length_take, List.length_drop, marks_length]; omega))
      refine ⟨by omega, by omega, b_5, f_6, q_7, ?_⟩
      obtain ⟨a_8, n_9, e_10, r_11, i_12⟩ := (i_lists).rd (i := (t9 : Int).toNat) g0 q_7 (by omega)
      obtain rfl := i_12.eqn
      refine ⟨a_8, _, e_10, r_11, ?_⟩
      have z_13 := getD_len bb_l_lists (t9 : Int).toNat
      refine impl_areFinite_L2 _ _ _ _ _ _ _ _ _ _ (fun (μ2 : Nat) (t2_2 : Bool) (t15 : Int) (H_2 : AHeap) => H = H_2 ∧ (0 : Int) ≤ t15 ∧ t15 ≤ ((((l_lists).getD (t9 : Int).toNat [])).length : Int) ∧ ((((l_lists).getD (t9 : Int).toNat [])).length : Int) - t15 ≤ (μ2 : Int) ∧ p_impl_areFinite l_lists = p_impl_areFinite_l2 l_lists t2 t9 (fun (t2_2 : Bool) (t15 : Int) => (p_impl_areFinite_l1 l_lists μ t2_2 (t9 + 1))) (μ2 + 1) t2_2 t15) (Int.toNat (((((l_lists).getD (t9 : Int).toNat [])).length : Int) - (0 : Int))) _ _ _ _ _ _ _ _ _ _ H ?_ ?_
      · exact ⟨rfl, (by first | omega | (simp; done) | (simp; omega)), (by first | omega | (simp; done) | (simp; omega)), (by omega), e⟩
      · intro μ2 t2_2 t15 g6 g16 g17 g18 g19 g20 g21 g22 H_2 hI
        obtain ⟨rfl, v_14, v_15, hμ, e⟩ := hI
        rw [impl_areFinite_r2]
        have e := e.trans (p_impl_areFinite_l2_s l_lists t2 t9 (fun (t2_2 : Bool) (t15 : Int) => (p_impl_areFinite_l1 l_lists μ t2_2 (t9 + 1))) μ2 t2_2 t15)
        have l_16 := g0.1
        refine Br.intro (fun c_17 => ?_) (fun c_17 => ?_)
        · have e := e.trans (cond_t c_17)
          have c_17' := of_decide_eq_true c_17
          obtain ⟨b_18, f_19, q_20⟩ := ((i_12.grow g0)).pos (by first | omega | (simp only [List.length_set, List.length_replicate, List.length_append, List.length_cons, List.length_nil, List.length_take, List.length_drop, marks_length]; done) | (simp only [List.length_set, List.length_replicate, List.length_append, List.length_cons, List.length_nil, List.length_take, List.length_drop, marks_length]; omega))
          refine ⟨by omega, by omega, b_18, f_19, q_20, ?_⟩
          refine ⟨((((l_lists).getD (t9 : Int).toNat [])).getD (t15 : Int).toNat 0), (i_12).rd g0 q_20 (by omega) _, ?_⟩
          refine T_impl_IsFinite_i ?_
          refine Br.intro (fun c_21 => ?_) (fun c_21 => ?_)
          · have e := e.trans (cond_t c_21)
            have c_21n := nf_of_t c_21
            rw [impl_areFinite_x2_ret]
            rw [impl_areFinite_x1_ret]
            rw [e] at hk
            exact hk
          · have e := e.trans (cond_f c_21)
            have c_21n := nt_of_f c_21
            rw [show IntKind.wrap .i64 (t15 + 1) = (t15 + 1) from wrap64 (by omega) (by omega)]
            refine impl_areFinite_n2 (μ2 - 1) (by omega) ⟨rfl, (by first | omega | (simp only [List.length_append, List.length_cons, List.length_nil, List.length_set]; done) | (simp only [List.length_append, List.length_cons, List.length_nil, List.length_set]; omega)), (by first | omega | (simp only [List.length_append, List.length_cons, List.length_nil, List.length_set]; done) | (simp only [List.length_append, List.length_cons, List.length_nil, List.length_set]; omega)), (by omega), (by rw [show μ2 - 1 + 1 = μ2 from by omega]; exact e)⟩
        · have e := e.trans (cond_f c_17)
          have c_17' := of_decide_eq_false c_17
          rw [impl_areFinite_x2_2]
          rw [show IntKind.wrap .i64 (t9 + 1) = (t9 + 1) from wrap64 (by omega) (by omega)]
          refine impl_areFinite_n1 (μ - 1) (by omega) ⟨rfl, (by first | omega | (simp only [List.length_append, List.length_cons, List.length_nil, List.length_set]; done) | (simp only [List.length_append, List.length_cons, List.length_nil, List.length_set]; omega)), (by first | omega | (simp only [List.length_append, List.length_cons, List.length_nil, List.length_set]; done) | (simp only [List.length_append, List.length_cons, List.length_nil, List.length_set]; omega)), (by omega), (by rw [show μ - 1 + 1 = μ from by omega]; exact e)⟩
    · have e := e.trans (cond_f c_4)
      have c_4' := of_decide_eq_false c_4
      rw [impl_areFinite_x1_0]
      rw [e] at hk
      exact hk
theorem impl_areFinite_ok : FnOk Try.prog 85 S_impl_areFinite := by
  refine FnOk.body mix_ok E_impl_areFinite_ok Try.func85 rfl (by kernel_rfl) (by kernel_rfl) ?_ ?_ ?_ ?_ ?_
  · intro args H K K' h hk
    simp only [S_impl_areFinite] at *
    unfold F_impl_areFinite at *
    split at hk
    · obtain ⟨l_lists, i_lists, bd_22, bb_l_lists, k⟩ := hk
      exact ⟨l_lists, i_lists, bd_22, bb_l_lists, h _ _ k⟩
    · exact hk.elim
  · intro _ args H K hk
    simp only [S_impl_areFinite] at *
    unfold F_impl_areFinite at *
    split at hk
    · obtain ⟨l_lists, i_lists, bd_22, bb_l_lists, k⟩ := hk
      exact ⟨_, k, fun K' k' => ⟨l_lists, i_lists, bd_22, bb_l_lists, k'⟩⟩
    · exact hk.elim
  · intro args H K hk
    simp only [S_impl_areFinite] at *
    unfold F_impl_areFinite at *
    split at hk
    · obtain ⟨l_lists, i_lists, bd_22, bb_l_lists, k⟩ := hk
      exact ⟨_, _, k⟩
    · exact hk.elim
  · intro hq; cases hq
  · have mm := @impl_areFinite_main
    revert mm
    generalize bodyK Try.prog E_impl_areFinite Try.f85 = Q
    intro mm args H K hk
    simp only [S_impl_areFinite] at *
    unfold F_impl_areFinite at *
    split at hk
    · exact mm _ _ _ H K hk
    · exact hk.elim
def p_impl_isLong (l_list : List Nat) : Bool := (bif (p_impl_within (l_list.length : Int) (1 : Int) (128 : Int)) then (p_impl_areFinite ([l_list])) else false)
theorem p_impl_isLong_eq (l_list : List Nat) : p_impl_isLong l_list = (bif (p_impl_within (l_list.length : Int) (1 : Int) (128 : Int)) then (p_impl_areFinite ([l_list])) else false) := rfl
def T_impl_isLong (list_a : Option Addr) (list_n : Nat) (list_e : Nat) (H : AHeap) (K : Bool → AHeap → Prop) : Prop := ∃ (l_list : List Nat), IsL fF H list_a list_n l_list ∧ l_list.length < 1073741824 ∧ ((∀ H' : AHeap, Grow H H' → K (p_impl_isLong l_list) H'))
theorem T_impl_isLong_i {list_a : Option Addr} {list_n : Nat} {list_e : Nat} {H : AHeap} {K : Bool → AHeap → Prop} (h : ∃ (l_list : List Nat), IsL fF H list_a list_n l_list ∧ l_list.length < 1073741824 ∧ ((∀ H' : AHeap, Grow H H' → K (p_impl_isLong l_list) H'))) : T_impl_isLong list_a list_n list_e H K := h

/-! impl_isLong: function 64 -/
def E_impl_isLong : Env := envOf [(52, S_impl_within), (85, S_impl_areFinite)]
def F_impl_isLong : List Value → AHeap → (Value → AHeap → Prop) → Prop
  | [.slice list_a list_n list_e], H, K => T_impl_isLong list_a list_n list_e H fun (r1 : Bool) (H' : AHeap) => K (.bool r1) H'
  | _, _, _ => False
def S_impl_isLong : FSpec := { F := F_impl_isLong, quiet := false, tame := true }
theorem impl_isLong_vc (list_a : Option Addr) (list_n : Nat) (list_e : Nat) (H : AHeap) (K : Value → AHeap → Prop) : bodyK Try.prog E_impl_isLong Try.f64 [.slice list_a list_n list_e] H K =
  (T_impl_within (list_n : Int) 1 128 H fun (r1 : Bool) (H1 : AHeap) => Br r1 (Al [.slice list_a list_n list_e] H1 fun b1 H2 => T_impl_areFinite (some ⟨b1, 0, none⟩) 1 1 H2 fun (r2 : Bool) (H3 : AHeap) => K (.bool r2) H3) (K (.bool false) H1)) := by kernel_rfl
theorem E_impl_isLong_ok : ∀ g, FnOk Try.prog g (E_impl_isLong g) := FnOk.envOf (by
  intro x hx
  simp only [List.mem_cons, List.not_mem_nil, or_false] at hx
  rcases hx with rfl | rfl
  · exact impl_within_ok
  · exact impl_areFinite_ok)
set_option maxHeartbeats 1000000 in
theorem impl_isLong_main (list_a : Option Addr) (list_n : Nat) (list_e : Nat) (H : AHeap) (K : Value → AHeap → Prop) (h : T_impl_isLong list_a list_n list_e H fun (r1 : Bool) (H' : AHeap) => K (.bool r1) H') : bodyK Try.prog E_impl_isLong Try.f64 [.slice list_a list_n list_e] H K := by
  rw [impl_isLong_vc]
  obtain ⟨l_list, i_list, bd_12, hk⟩ := h
  obtain rfl := i_list.eqn
  have e : (p_impl_isLong l_list) = _ := rfl
  have e := e.trans (p_impl_isLong_eq l_list)
  have g0 := Grow.refl H
  refine T_impl_within_i ?_
  refine Br.intro (fun c_1 => ?_) (fun c_1 => ?_)
  · have e := e.trans (cond_t c_1)
    have c_1' := impl_within_t c_1
    refine Al.intro (fun b_2 H_1 hb_3 hl_4 g_5 o_6 => ?_)
    have l_8 := g_5.1
    have g_9 := g0.trans g_5
    have l_10 := g_9.1
    have w_11 := o_6.lt
    refine T_impl_areFinite_i ⟨[l_list], ⟨_, o_6.rdAll rfl, LLc.cons (i_list.grow g_9) (LLc.nil _ _)⟩, (by first | omega | (simp only [List.length_set, List.length_replicate, List.length_append, List.length_cons, List.length_nil, List.length_take, List.length_drop, marks_length]; done) | (simp only [List.length_set, List.length_replicate, List.length_append, List.length_cons, List.length_nil, List.length_take, List.length_drop, marks_length]; omega)), (by first | assumption | (intro y hy; simp only [List.mem_cons, List.not_mem_nil, or_false] at hy; first | omega | (subst hy; omega) | (rcases hy with rfl | rfl <;> omega) | (rcases hy with rfl | rfl | rfl <;> omega))), ?_⟩
    rw [e] at hk
    exact hk  H_1 g_9 
  · have e := e.trans (cond_f c_1)
    rw [e] at hk
    exact hk  H g0 
theorem impl_isLong_ok : FnOk Try.prog 64 S_impl_isLong := by
  refine FnOk.body mix_ok E_impl_isLong_ok Try.func64 rfl (by kernel_rfl) (by kernel_rfl) ?_ ?_ ?_ ?_ ?_
  · intro args H K K' h hk
    simp only [S_impl_isLong] at *
    unfold F_impl_isLong at *
    split at hk
    · obtain ⟨l_list, i_list, bd_12, k⟩ := hk
      exact ⟨l_list, i_list, bd_12, (fun  H' gg  => h _ _ (k  H' gg ))⟩
    · exact hk.elim
  · intro hq; cases hq
  · intro args H K hk
    simp only [S_impl_isLong] at *
    unfold F_impl_isLong at *
    split at hk
    · obtain ⟨l_list, i_list, bd_12, k⟩ := hk
      exact ⟨_, _, k H (Grow.refl H)⟩
    · exact hk.elim
  · intro _ args H K hk
    simp only [S_impl_isLong] at *
    unfold F_impl_isLong at *
    split at hk
    · obtain ⟨l_list, i_list, bd_12, k⟩ := hk
      exact ⟨l_list, i_list, bd_12, (fun  H' gg  => ⟨gg, k  H' gg ⟩)⟩
    · exact hk.elim
  · have mm := @impl_isLong_main
    revert mm
    generalize bodyK Try.prog E_impl_isLong Try.f64 = Q
    intro mm args H K hk
    simp only [S_impl_isLong] at *
    unfold F_impl_isLong at *
    split at hk
    · exact mm _ _ _ H K hk
    · exact hk.elim
def p_impl_isLeast (x : Nat) : Bool := (bif (p_impl_IsFinite x) then fle .f32 0 x else false)
theorem p_impl_isLeast_eq (x : Nat) : p_impl_isLeast x = (bif (p_impl_IsFinite x) then fle .f32 0 x else false) := rfl
def T_impl_isLeast (x : Nat) (H : AHeap) (K : Bool → AHeap → Prop) : Prop := K (p_impl_isLeast x) H

theorem T_impl_isLeast_i {x : Nat} {H : AHeap} {K : Bool → AHeap → Prop} (h : K (p_impl_isLeast x) H) : T_impl_isLeast x H K := h
/-! impl_isLeast: function 55 -/
def E_impl_isLeast : Env := envOf [(59, S_impl_IsFinite)]
def F_impl_isLeast : List Value → AHeap → (Value → AHeap → Prop) → Prop
  | [.float .f32 x], H, K => T_impl_isLeast x H fun (r1 : Bool) (H' : AHeap) => K (.bool r1) H'
  | _, _, _ => False
def S_impl_isLeast : FSpec := { F := F_impl_isLeast, quiet := true, tame := false }
theorem impl_isLeast_vc (x : Nat) (H : AHeap) (K : Value → AHeap → Prop) : bodyK Try.prog E_impl_isLeast Try.f55 [.float .f32 x] H K =
  (T_impl_IsFinite x H fun (r1 : Bool) (H1 : AHeap) => Br r1 (K (.bool (fle .f32 0 x)) H1) (K (.bool false) H1)) := by kernel_rfl
theorem E_impl_isLeast_ok : ∀ g, FnOk Try.prog g (E_impl_isLeast g) := FnOk.envOf (by
  intro x hx
  simp only [List.mem_cons, List.not_mem_nil, or_false] at hx
  subst hx; exact impl_IsFinite_ok)
set_option maxHeartbeats 1000000 in
theorem impl_isLeast_main (x : Nat) (H : AHeap) (K : Value → AHeap → Prop) (h : T_impl_isLeast x H fun (r1 : Bool) (H' : AHeap) => K (.bool r1) H') : bodyK Try.prog E_impl_isLeast Try.f55 [.float .f32 x] H K := by
  rw [impl_isLeast_vc]
  simp only [T_impl_IsFinite]
  unfold T_impl_isLeast p_impl_isLeast at h
  repeat' (first | exact h | (exfalso; simp_all; done) | (refine ⟨by decide, ?_⟩) | (refine Br.intro (fun hb => ?_) (fun hb => ?_) <;> (try simp only [hb, cond_true, cond_false, Bool.not_true, Bool.not_false] at h)))
theorem impl_isLeast_ok : FnOk Try.prog 55 S_impl_isLeast := by
  refine FnOk.body mix_ok E_impl_isLeast_ok Try.func55 rfl (by kernel_rfl) (by kernel_rfl) ?_ ?_ ?_ ?_ ?_
  · intro args H K K' h hk
    simp only [S_impl_isLeast] at *
    unfold F_impl_isLeast at *
    split at hk
    · have k := hk
      exact h _ _ k
    · exact hk.elim
  · intro _ args H K hk
    simp only [S_impl_isLeast] at *
    unfold F_impl_isLeast at *
    split at hk
    · have k := hk
      exact ⟨_, k, fun K' k' => k'⟩
    · exact hk.elim
  · intro args H K hk
    simp only [S_impl_isLeast] at *
    unfold F_impl_isLeast at *
    split at hk
    · have k := hk
      exact ⟨_, _, k⟩
    · exact hk.elim
  · intro hq; cases hq
  · have mm := @impl_isLeast_main
    revert mm
    generalize bodyK Try.prog E_impl_isLeast Try.f55 = Q
    intro mm args H K hk
    simp only [S_impl_isLeast] at *
    unfold F_impl_isLeast at *
    split at hk
    · exact mm _ H K hk
    · exact hk.elim
def p_impl_size (x : Nat) : Nat := (bif flt .f32 x 0 then fneg .f32 x else (bif feq .f32 x 0 then 0 else x))
theorem p_impl_size_eq (x : Nat) : p_impl_size x = (bif flt .f32 x 0 then fneg .f32 x else (bif feq .f32 x 0 then 0 else x)) := rfl
def T_impl_size (x : Nat) (H : AHeap) (K : Nat → AHeap → Prop) : Prop := K (p_impl_size x) H

theorem T_impl_size_i {x : Nat} {H : AHeap} {K : Nat → AHeap → Prop} (h : K (p_impl_size x) H) : T_impl_size x H K := h
/-! impl_size: function 72 -/
def E_impl_size : Env := envOf []
def F_impl_size : List Value → AHeap → (Value → AHeap → Prop) → Prop
  | [.float .f32 x], H, K => T_impl_size x H fun (r1 : Nat) (H' : AHeap) => K (.float .f32 r1) H'
  | _, _, _ => False
def S_impl_size : FSpec := { F := F_impl_size, quiet := true, tame := false }
theorem impl_size_vc (x : Nat) (H : AHeap) (K : Value → AHeap → Prop) : bodyK Try.prog E_impl_size Try.f72 [.float .f32 x] H K =
  (Br (flt .f32 x 0) (K (.float .f32 (fneg .f32 x)) H) (Br (feq .f32 x 0) (K (.float .f32 0) H) (K (.float .f32 x) H))) := by kernel_rfl
theorem E_impl_size_ok : ∀ g, FnOk Try.prog g (E_impl_size g) := FnOk.envOf (by
  intro x hx; cases hx)
set_option maxHeartbeats 1000000 in
theorem impl_size_main (x : Nat) (H : AHeap) (K : Value → AHeap → Prop) (h : T_impl_size x H fun (r1 : Nat) (H' : AHeap) => K (.float .f32 r1) H') : bodyK Try.prog E_impl_size Try.f72 [.float .f32 x] H K := by
  rw [impl_size_vc]
  unfold T_impl_size p_impl_size at h
  repeat' (first | exact h | (exfalso; simp_all; done) | (refine ⟨by decide, ?_⟩) | (refine Br.intro (fun hb => ?_) (fun hb => ?_) <;> (try simp only [hb, cond_true, cond_false, Bool.not_true, Bool.not_false] at h)))
theorem impl_size_ok : FnOk Try.prog 72 S_impl_size := by
  refine FnOk.body mix_ok E_impl_size_ok Try.func72 rfl (by kernel_rfl) (by kernel_rfl) ?_ ?_ ?_ ?_ ?_
  · intro args H K K' h hk
    simp only [S_impl_size] at *
    unfold F_impl_size at *
    split at hk
    · have k := hk
      exact h _ _ k
    · exact hk.elim
  · intro _ args H K hk
    simp only [S_impl_size] at *
    unfold F_impl_size at *
    split at hk
    · have k := hk
      exact ⟨_, k, fun K' k' => k'⟩
    · exact hk.elim
  · intro args H K hk
    simp only [S_impl_size] at *
    unfold F_impl_size at *
    split at hk
    · have k := hk
      exact ⟨_, _, k⟩
    · exact hk.elim
  · intro hq; cases hq
  · have mm := @impl_size_main
    revert mm
    generalize bodyK Try.prog E_impl_size Try.f72 = Q
    intro mm args H K hk
    simp only [S_impl_size] at *
    unfold F_impl_size at *
    split at hk
    · exact mm _ H K hk
    · exact hk.elim
def p_impl_softer (x : Nat) (vby : Nat) : Nat := (bif flt .f32 vby x then fsub .f32 x vby else (bif flt .f32 x (fneg .f32 vby) then fadd .f32 x vby else 0))
theorem p_impl_softer_eq (x : Nat) (vby : Nat) : p_impl_softer x vby = (bif flt .f32 vby x then fsub .f32 x vby else (bif flt .f32 x (fneg .f32 vby) then fadd .f32 x vby else 0)) := rfl
def T_impl_softer (x : Nat) (vby : Nat) (H : AHeap) (K : Nat → AHeap → Prop) : Prop := K (p_impl_softer x vby) H

theorem T_impl_softer_i {x : Nat} {vby : Nat} {H : AHeap} {K : Nat → AHeap → Prop} (h : K (p_impl_softer x vby) H) : T_impl_softer x vby H K := h
/-! impl_softer: function 84 -/
def E_impl_softer : Env := envOf []
def F_impl_softer : List Value → AHeap → (Value → AHeap → Prop) → Prop
  | [.float .f32 x, .float .f32 vby], H, K => T_impl_softer x vby H fun (r1 : Nat) (H' : AHeap) => K (.float .f32 r1) H'
  | _, _, _ => False
def S_impl_softer : FSpec := { F := F_impl_softer, quiet := true, tame := false }
theorem impl_softer_vc (x : Nat) (vby : Nat) (H : AHeap) (K : Value → AHeap → Prop) : bodyK Try.prog E_impl_softer Try.f84 [.float .f32 x, .float .f32 vby] H K =
  (Br (flt .f32 vby x) (K (.float .f32 (fsub .f32 x vby)) H) (Br (flt .f32 x (fneg .f32 vby)) (K (.float .f32 (fadd .f32 x vby)) H) (K (.float .f32 0) H))) := by kernel_rfl
theorem E_impl_softer_ok : ∀ g, FnOk Try.prog g (E_impl_softer g) := FnOk.envOf (by
  intro x hx; cases hx)
set_option maxHeartbeats 1000000 in
theorem impl_softer_main (x : Nat) (vby : Nat) (H : AHeap) (K : Value → AHeap → Prop) (h : T_impl_softer x vby H fun (r1 : Nat) (H' : AHeap) => K (.float .f32 r1) H') : bodyK Try.prog E_impl_softer Try.f84 [.float .f32 x, .float .f32 vby] H K := by
  rw [impl_softer_vc]
  unfold T_impl_softer p_impl_softer at h
  repeat' (first | exact h | (exfalso; simp_all; done) | (refine ⟨by decide, ?_⟩) | (refine Br.intro (fun hb => ?_) (fun hb => ?_) <;> (try simp only [hb, cond_true, cond_false, Bool.not_true, Bool.not_false] at h)))
theorem impl_softer_ok : FnOk Try.prog 84 S_impl_softer := by
  refine FnOk.body mix_ok E_impl_softer_ok Try.func84 rfl (by kernel_rfl) (by kernel_rfl) ?_ ?_ ?_ ?_ ?_
  · intro args H K K' h hk
    simp only [S_impl_softer] at *
    unfold F_impl_softer at *
    split at hk
    · have k := hk
      exact h _ _ k
    · exact hk.elim
  · intro _ args H K hk
    simp only [S_impl_softer] at *
    unfold F_impl_softer at *
    split at hk
    · have k := hk
      exact ⟨_, k, fun K' k' => k'⟩
    · exact hk.elim
  · intro args H K hk
    simp only [S_impl_softer] at *
    unfold F_impl_softer at *
    split at hk
    · have k := hk
      exact ⟨_, _, k⟩
    · exact hk.elim
  · intro hq; cases hq
  · have mm := @impl_softer_main
    revert mm
    generalize bodyK Try.prog E_impl_softer Try.f84 = Q
    intro mm args H K hk
    simp only [S_impl_softer] at *
    unfold F_impl_softer at *
    split at hk
    · exact mm _ _ H K hk
    · exact hk.elim
def p_impl_shrunk (x : Nat) (limit : Nat) (hard : Bool) : Nat := (bif !(flt .f32 limit (p_impl_size x)) then 0 else (bif hard then x else (p_impl_softer x limit)))
theorem p_impl_shrunk_eq (x : Nat) (limit : Nat) (hard : Bool) : p_impl_shrunk x limit hard = (bif !(flt .f32 limit (p_impl_size x)) then 0 else (bif hard then x else (p_impl_softer x limit))) := rfl
def T_impl_shrunk (x : Nat) (limit : Nat) (hard : Bool) (H : AHeap) (K : Nat → AHeap → Prop) : Prop := K (p_impl_shrunk x limit hard) H

theorem T_impl_shrunk_i {x : Nat} {limit : Nat} {hard : Bool} {H : AHeap} {K : Nat → AHeap → Prop} (h : K (p_impl_shrunk x limit hard) H) : T_impl_shrunk x limit hard H K := h
/-! impl_shrunk: function 60 -/
def E_impl_shrunk : Env := envOf [(72, S_impl_size), (84, S_impl_softer)]
def F_impl_shrunk : List Value → AHeap → (Value → AHeap → Prop) → Prop
  | [.float .f32 x, .float .f32 limit, .bool hard], H, K => T_impl_shrunk x limit hard H fun (r1 : Nat) (H' : AHeap) => K (.float .f32 r1) H'
  | _, _, _ => False
def S_impl_shrunk : FSpec := { F := F_impl_shrunk, quiet := true, tame := false }
theorem impl_shrunk_vc (x : Nat) (limit : Nat) (hard : Bool) (H : AHeap) (K : Value → AHeap → Prop) : bodyK Try.prog E_impl_shrunk Try.f60 [.float .f32 x, .float .f32 limit, .bool hard] H K =
  (T_impl_size x H fun (r1 : Nat) (H1 : AHeap) => Br (!(flt .f32 limit r1)) (K (.float .f32 0) H1) (Br hard (K (.float .f32 x) H1) (T_impl_softer x limit H1 fun (r2 : Nat) (H2 : AHeap) => K (.float .f32 r2) H2))) := by kernel_rfl
theorem E_impl_shrunk_ok : ∀ g, FnOk Try.prog g (E_impl_shrunk g) := FnOk.envOf (by
  intro x hx
  simp only [List.mem_cons, List.not_mem_nil, or_false] at hx
  rcases hx with rfl | rfl
  · exact impl_size_ok
  · exact impl_softer_ok)
set_option maxHeartbeats 1000000 in
theorem impl_shrunk_main (x : Nat) (limit : Nat) (hard : Bool) (H : AHeap) (K : Value → AHeap → Prop) (h : T_impl_shrunk x limit hard H fun (r1 : Nat) (H' : AHeap) => K (.float .f32 r1) H') : bodyK Try.prog E_impl_shrunk Try.f60 [.float .f32 x, .float .f32 limit, .bool hard] H K := by
  rw [impl_shrunk_vc]
  simp only [T_impl_size, T_impl_softer]
  unfold T_impl_shrunk p_impl_shrunk at h
  repeat' (first | exact h | (exfalso; simp_all; done) | (refine ⟨by decide, ?_⟩) | (refine Br.intro (fun hb => ?_) (fun hb => ?_) <;> (try simp only [hb, cond_true, cond_false, Bool.not_true, Bool.not_false] at h)))
theorem impl_shrunk_ok : FnOk Try.prog 60 S_impl_shrunk := by
  refine FnOk.body mix_ok E_impl_shrunk_ok Try.func60 rfl (by kernel_rfl) (by kernel_rfl) ?_ ?_ ?_ ?_ ?_
  · intro args H K K' h hk
    simp only [S_impl_shrunk] at *
    unfold F_impl_shrunk at *
    split at hk
    · have k := hk
      exact h _ _ k
    · exact hk.elim
  · intro _ args H K hk
    simp only [S_impl_shrunk] at *
    unfold F_impl_shrunk at *
    split at hk
    · have k := hk
      exact ⟨_, k, fun K' k' => k'⟩
    · exact hk.elim
  · intro args H K hk
    simp only [S_impl_shrunk] at *
    unfold F_impl_shrunk at *
    split at hk
    · have k := hk
      exact ⟨_, _, k⟩
    · exact hk.elim
  · intro hq; cases hq
  · have mm := @impl_shrunk_main
    revert mm
    generalize bodyK Try.prog E_impl_shrunk Try.f60 = Q
    intro mm args H K hk
    simp only [S_impl_shrunk] at *
    unfold F_impl_shrunk at *
    split at hk
    · exact mm _ _ _ H K hk
    · exact hk.elim
def p_impl_shrunkList_l1 (l_list : List Nat) (limit : Nat) (hard : Bool) : Nat → (List Nat) → Int → (List Nat)
  | 0, _, _ => []
  | μ + 1, l_vout, t13 => (bif decide ((t13 : Int) < (l_list.length : Int)) then (p_impl_shrunkList_l1 l_list limit hard μ ((l_vout ++ [((p_impl_shrunk (((l_list).getD (t13 : Int).toNat 0)) limit hard))])) (t13 + 1)) else l_vout)
theorem p_impl_shrunkList_l1_s (l_list : List Nat) (limit : Nat) (hard : Bool) (μ : Nat) (l_vout : List Nat) (t13 : Int) : p_impl_shrunkList_l1 l_list limit hard (μ + 1) l_vout t13 = (bif decide ((t13 : Int) < (l_list.length : Int)) then (p_impl_shrunkList_l1 l_list limit hard μ ((l_vout ++ [((p_impl_shrunk (((l_list).getD (t13 : Int).toNat 0)) limit hard))])) (t13 + 1)) else l_vout) := rfl
def p_impl_shrunkList (l_list : List Nat) (limit : Nat) (hard : Bool) : (List Nat) := (p_impl_shrunkList_l1 l_list limit hard (Int.toNat ((l_list.length : Int) - (0 : Int)) + 1) ([] : List Nat) (0 : Int))
theorem p_impl_shrunkList_eq (l_list : List Nat) (limit : Nat) (hard : Bool) : p_impl_shrunkList l_list limit hard = (p_impl_shrunkList_l1 l_list limit hard (Int.toNat ((l_list.length : Int) - (0 : Int)) + 1) ([] : List Nat) (0 : Int)) := rfl
def T_impl_shrunkList (list_a : Option Addr) (list_n : Nat) (list_e : Nat) (limit : Nat) (hard : Bool) (H : AHeap) (K : (Option Addr) → Nat → Nat → AHeap → Prop) : Prop := ∃ (l_list : List Nat), IsL fF H list_a list_n l_list ∧ l_list.length < 1073741824 ∧ ((∀ (r1_a : Option Addr) (r1_n r1_e : Nat), ∀ H' : AHeap, Grow H H' → OwnS fF H' H.length r1_a r1_n r1_e (p_impl_shrunkList l_list limit hard) → K r1_a r1_n r1_e H'))
theorem T_impl_shrunkList_i {list_a : Option Addr} {list_n : Nat} {list_e : Nat} {limit : Nat} {hard : Bool} {H : AHeap} {K : (Option Addr) → Nat → Nat → AHeap → Prop} (h : ∃ (l_list : List Nat), IsL fF H list_a list_n l_list ∧ l_list.length < 1073741824 ∧ ((∀ (r1_a : Option Addr) (r1_n r1_e : Nat), ∀ H' : AHeap, Grow H H' → OwnS fF H' H.length r1_a r1_n r1_e (p_impl_shrunkList l_list limit hard) → K r1_a r1_n r1_e H'))) : T_impl_shrunkList list_a list_n list_e limit hard H K := h
theorem impl_shrunkList_go (l : List Nat) (limit : Nat) (hard : Bool) : ∀ (μ : Nat) (o : List Nat) (i : Nat), l.length - i < μ → p_impl_shrunkList_l1 l limit hard μ o (i : Int) = o ++ (l.drop i).map (fun x => p_impl_shrunk x limit hard) := by
  intro μ
  induction μ with
  | zero => intro o i h; omega
  | succ μ ih =>
    intro o i hm
    rw [p_impl_shrunkList_l1_s]
    by_cases h : i < l.length
    · rw [decide_eq_true (show (i : Int) < (l.length : Int) by omega), cond_true, Int.toNat_natCast]
      refine Eq.trans (ih _ (i + 1) (by omega)) ?_
      rw [List.drop_eq_getElem_cons h, List.map_cons, List.getD_eq_getElem?_getD, List.getElem?_eq_getElem h]
      simp
    · rw [decide_eq_false (show ¬ (i : Int) < (l.length : Int) by omega), cond_false, List.drop_eq_nil_of_le (by omega)]; simp
theorem impl_shrunkList_map (l : List Nat) (limit : Nat) (hard : Bool) : p_impl_shrunkList l limit hard = l.map (fun x => p_impl_shrunk x limit hard) := by
  rw [p_impl_shrunkList_eq]
  have := impl_shrunkList_go l limit hard (Int.toNat ((l.length : Int) - (0 : Int)) + 1) [] 0 (by omega)
  simpa using this
theorem impl_shrunkList_len (l : List Nat) (limit : Nat) (hard : Bool) : (p_impl_shrunkList l limit hard).length = l.length := by rw [impl_shrunkList_map]; simp
/-! impl_shrunkList: function 77 -/
def E_impl_shrunkList : Env := envOf [(60, S_impl_shrunk)]
def F_impl_shrunkList : List Value → AHeap → (Value → AHeap → Prop) → Prop
  | [.slice list_a list_n list_e, .float .f32 limit, .bool hard], H, K => T_impl_shrunkList list_a list_n list_e limit hard H fun (r1_a : Option Addr) (r1_n : Nat) (r1_e : Nat) (H' : AHeap) => K (.slice r1_a r1_n r1_e) H'
  | _, _, _ => False
def S_impl_shrunkList : FSpec := { F := F_impl_shrunkList, quiet := false, tame := true }
theorem impl_shrunkList_vc (list_a : Option Addr) (list_n : Nat) (list_e : Nat) (limit : Nat) (hard : Bool) (H : AHeap) (K : Value → AHeap → Prop) : bodyK Try.prog E_impl_shrunkList Try.f77 [.slice list_a list_n list_e, .float .f32 limit, .bool hard] H K =
  (Al [] H fun b1 H1 => loopK (exK Try.prog E_impl_shrunkList (cl (cl (cr (cl (cr (cr (bodyC Try.f77)))))))) [.slice list_a list_n list_e, .float .f32 limit, .bool hard, undef, undef, undef, .slice none 0 0, .slice (some ⟨b1, 0, none⟩) 0 1, undef, undef, .slice (some ⟨b1, 0, none⟩) 0 1, .slice list_a list_n list_e, .int .i64 (list_n : Int), .int .i64 0, undef, undef, undef, undef, undef, undef, undef, undef, undef, undef, undef, undef] H1 (blockQ 0 (seqQ (exK Try.prog E_impl_shrunkList (cr (cr (cr (bodyC Try.f77))))) (retK Try.prog Try.f77 K)))) := by kernel_rfl
theorem impl_shrunkList_r1 (b1 : Nat) (hard : Bool) (limit : Nat) (list_a : Option Addr) (list_e : Nat) (list_n : Nat) (vout_a : Option Addr) (vout_n : Nat) (vout_e : Nat) (t13 : Int) (g9 g14 g15 g16 g17 g18 g19 g20 g21 g22 g23 g24 : Value) (H : AHeap) (R : Post) : exK Try.prog E_impl_shrunkList (cl (cl (cr (cl (cr (cr (bodyC Try.f77))))))) [.slice list_a list_n list_e, .float .f32 limit, .bool hard, undef, undef, undef, .slice none 0 0, .slice vout_a vout_n vout_e, undef, g9, .slice (some ⟨b1, 0, none⟩) 0 1, .slice list_a list_n list_e, .int .i64 (list_n : Int), .int .i64 t13, g14, g15, g16, g17, g18, g19, g20, g21, g22, g23, g24, undef] H R =
  (Br (decide ((t13 : Int) < (list_n : Int))) ((0 : Int) ≤ t13 ∧ t13 < (list_n : Int) ∧ ∃ b2 f1, (list_a : Option Addr) = some ⟨b2, f1, none⟩ ∧ ∃ x1 : Nat,  rdC H b2 (f1 + (t13 : Int).toNat * 1) = some (.float .f32 x1) ∧ T_impl_shrunk x1 limit hard H fun (r1 : Nat) (H2 : AHeap) => Al [.float .f32 r1] H2 fun b3 H3 => ∃ o1 w1 : List Value, ownB H3 vout_a vout_n vout_e 1 = some o1 ∧ rdS H3 (some ⟨b3, 0, none⟩) (1 * 1) = some w1 ∧ ((vout_a : Option Addr) = none → 0 < (1 : Nat)) ∧ (vout_n : Nat) + 1 < most ∧ Ap H3 (killB H3 vout_a ++ [some ⟨o1 ++ w1, true⟩]) fun b4 H4 => R .normal [.slice list_a list_n list_e, .float .f32 limit, .bool hard, undef, undef, undef, .slice none 0 0, .slice (some ⟨b4, 0, none⟩) (vout_n + 1) 1, undef, .float .f32 x1, .slice (some ⟨b1, 0, none⟩) 0 1, .slice list_a list_n list_e, .int .i64 (list_n : Int), .int .i64 (IntKind.wrap .i64 (t13 + 1)), .bool (decide ((t13 : Int) < (list_n : Int))), .pointer (some ⟨b2, f1 + (t13 : Int).toNat * 1, none⟩), .float .f32 x1, .slice vout_a vout_n vout_e, .float .f32 x1, .float .f32 limit, .bool hard, .float .f32 r1, .slice (some ⟨b3, 0, none⟩) 1 1, .slice (some ⟨b4, 0, none⟩) (vout_n + 1) 1, .int .i64 (IntKind.wrap .i64 (t13 + 1)), undef] H4) (R (.exit 0) [.slice list_a list_n list_e, .float .f32 limit, .bool hard, undef, undef, undef, .slice none 0 0, .slice vout_a vout_n vout_e, undef, g9, .slice (some ⟨b1, 0, none⟩) 0 1, .slice list_a list_n list_e, .int .i64 (list_n : Int), .int .i64 t13, .bool (decide ((t13 : Int) < (list_n : Int))), g15, g16, g17, g18, g19, g20, g21, g22, g23, g24, undef] H)) := by kernel_rfl
def impl_shrunkList_I1 (b1 : Nat) (hard : Bool) (limit : Nat) (list_a : Option Addr) (list_e : Nat) (list_n : Nat) (Inv : Nat → (Option Addr) → Nat → Nat → Int → AHeap → Prop) : Nat → List Value → AHeap → Prop := fun μ tm H => ∃ (vout_a : Option Addr), ∃ (vout_n : Nat), ∃ (vout_e : Nat), ∃ (t13 : Int), ∃ g9 g14 g15 g16 g17 g18 g19 g20 g21 g22 g23 g24, tm = [.slice list_a list_n list_e, .float .f32 limit, .bool hard, undef, undef, undef, .slice none 0 0, .slice vout_a vout_n vout_e, undef, g9, .slice (some ⟨b1, 0, none⟩) 0 1, .slice list_a list_n list_e, .int .i64 (list_n : Int), .int .i64 t13, g14, g15, g16, g17, g18, g19, g20, g21, g22, g23, g24, undef] ∧ Inv μ vout_a vout_n vout_e t13 H
theorem impl_shrunkList_L1 (b1 : Nat) (hard : Bool) (limit : Nat) (list_a : Option Addr) (list_e : Nat) (list_n : Nat) {Q : Post} (Inv : Nat → (Option Addr) → Nat → Nat → Int → AHeap → Prop) (ν : Nat) (vout_a : Option Addr) (vout_n : Nat) (vout_e : Nat) (t13 : Int) (g9 g14 g15 g16 g17 g18 g19 g20 g21 g22 g23 g24 : Value) (H : AHeap) (h0 : Inv ν vout_a vout_n vout_e t13 H)
    (hs : ∀ (μ : Nat) (vout_a : Option Addr) (vout_n : Nat) (vout_e : Nat) (t13 : Int) (g9 g14 g15 g16 g17 g18 g19 g20 g21 g22 g23 g24 : Value) (H : AHeap), Inv μ vout_a vout_n vout_e t13 H → exK Try.prog E_impl_shrunkList (cl (cl (cr (cl (cr (cr (bodyC Try.f77))))))) [.slice list_a list_n list_e, .float .f32 limit, .bool hard, undef, undef, undef, .slice none 0 0, .slice vout_a vout_n vout_e, undef, g9, .slice (some ⟨b1, 0, none⟩) 0 1, .slice list_a list_n list_e, .int .i64 (list_n : Int), .int .i64 t13, g14, g15, g16, g17, g18, g19, g20, g21, g22, g23, g24, undef] H (loopQ (impl_shrunkList_I1 b1 hard limit list_a list_e list_n Inv) μ Q)) : loopK (exK Try.prog E_impl_shrunkList (cl (cl (cr (cl (cr (cr (bodyC Try.f77)))))))) [.slice list_a list_n list_e, .float .f32 limit, .bool hard, undef, undef, undef, .slice none 0 0, .slice vout_a vout_n vout_e, undef, g9, .slice (some ⟨b1, 0, none⟩) 0 1, .slice list_a list_n list_e, .int .i64 (list_n : Int), .int .i64 t13, g14, g15, g16, g17, g18, g19, g20, g21, g22, g23, g24, undef] H Q :=
  ⟨impl_shrunkList_I1 b1 hard limit list_a list_e list_n Inv, ν, ⟨vout_a, vout_n, vout_e, t13, g9, g14, g15, g16, g17, g18, g19, g20, g21, g22, g23, g24, rfl, h0⟩, fun μ tm H h => by obtain ⟨vout_a, vout_n, vout_e, t13, g9, g14, g15, g16, g17, g18, g19, g20, g21, g22, g23, g24, rfl, hI⟩ := h; exact hs μ vout_a vout_n vout_e t13 g9 g14 g15 g16 g17 g18 g19 g20 g21 g22 g23 g24 H hI⟩
theorem impl_shrunkList_n1 {b1 : Nat} {hard : Bool} {limit : Nat} {list_a : Option Addr} {list_e : Nat} {list_n : Nat} {Q : Post} {Inv : Nat → (Option Addr) → Nat → Nat → Int → AHeap → Prop} {μ : Nat} (μ' : Nat) {vout_a : Option Addr} {vout_n : Nat} {vout_e : Nat} {t13 : Int} {g9 g14 g15 g16 g17 g18 g19 g20 g21 g22 g23 g24 : Value} {H : AHeap} (hm : μ' < μ) (hI : Inv μ' vout_a vout_n vout_e t13 H) : loopQ (impl_shrunkList_I1 b1 hard limit list_a list_e list_n Inv) μ Q .normal [.slice list_a list_n list_e, .float .f32 limit, .bool hard, undef, undef, undef, .slice none 0 0, .slice vout_a vout_n vout_e, undef, g9, .slice (some ⟨b1, 0, none⟩) 0 1, .slice list_a list_n list_e, .int .i64 (list_n : Int), .int .i64 t13, g14, g15, g16, g17, g18, g19, g20, g21, g22, g23, g24, undef] H := ⟨μ', hm, vout_a, vout_n, vout_e, t13, g9, g14, g15, g16, g17, g18, g19, g20, g21, g22, g23, g24, rfl, hI⟩
theorem impl_shrunkList_x1_0 (b1 : Nat) (hard : Bool) (limit : Nat) (list_a : Option Addr) (list_e : Nat) (list_n : Nat) (vout_a : Option Addr) (vout_n : Nat) (vout_e : Nat) (t13 : Int) (g9 g14 g15 g16 g17 g18 g19 g20 g21 g22 g23 g24 : Value) (H : AHeap) (K : Value → AHeap → Prop)  {I : Nat → List Value → AHeap → Prop} {μ : Nat} : loopQ I μ (blockQ 0 (seqQ (exK Try.prog E_impl_shrunkList (cr (cr (cr (bodyC Try.f77))))) (retK Try.prog Try.f77 K))) (.exit 0) [.slice list_a list_n list_e, .float .f32 limit, .bool hard, undef, undef, undef, .slice none 0 0, .slice vout_a vout_n vout_e, undef, g9, .slice (some ⟨b1, 0, none⟩) 0 1, .slice list_a list_n list_e, .int .i64 (list_n : Int), .int .i64 t13, g14, g15, g16, g17, g18, g19, g20, g21, g22, g23, g24, undef] H =
  (K (.slice vout_a vout_n vout_e) H) := by kernel_rfl
theorem E_impl_shrunkList_ok : ∀ g, FnOk Try.prog g (E_impl_shrunkList g) := FnOk.envOf (by
  intro x hx
  simp only [List.mem_cons, List.not_mem_nil, or_false] at hx
  subst hx; exact impl_shrunk_ok)
set_option maxHeartbeats 1000000 in
theorem impl_shrunkList_main (list_a : Option Addr) (list_n : Nat) (list_e : Nat) (limit : Nat) (hard : Bool) (H : AHeap) (K : Value → AHeap → Prop) (h : T_impl_shrunkList list_a list_n list_e limit hard H fun (r1_a : Option Addr) (r1_n : Nat) (r1_e : Nat) (H' : AHeap) => K (.slice r1_a r1_n r1_e) H') : bodyK Try.prog E_impl_shrunkList Try.f77 [.slice list_a list_n list_e, .float .f32 limit, .bool hard] H K := by
  rw [impl_shrunkList_vc]
  obtain ⟨l_list, i_list, bd_48, hk⟩ := h
  obtain rfl := i_list.eqn
  have e : (p_impl_shrunkList l_list limit hard) = _ := rfl
  have e := e.trans (p_impl_shrunkList_eq l_list limit hard)
  have g0 := Grow.refl H
  refine Al.intro (fun b_1 H_1 hb_2 hl_3 g_4 o_5 => ?_)
  have o_5 : Own H_1 b_1 ((([] : List Nat)).map fF) := o_5
  have l_7 := g_4.1
  have g_8 := g0.trans g_4
  have l_9 := g_8.1
  have w_47 := o_5.lt
  refine impl_shrunkList_L1 _ _ _ _ _ _ (fun (μ : Nat) (vout_a : Option Addr) (vout_n : Nat) (vout_e : Nat) (t13 : Int) (H_2 : AHeap) => ∃ (l_vout : List Nat), ∃ (b_10 : Nat), vout_a = some ⟨b_10, 0, none⟩ ∧ vout_n = l_vout.length ∧ vout_e = 1 ∧ Own H_2 b_10 (l_vout.map fF) ∧ Grow H H_2 ∧ H.length ≤ b_10 ∧ (0 : Int) ≤ t13 ∧ t13 ≤ (l_list.length : Int) ∧ (l_vout.length : Int) ≤ t13 - (0 : Int) + 0 ∧ (l_list.length : Int) - t13 ≤ (μ : Int) ∧ p_impl_shrunkList l_list limit hard = p_impl_shrunkList_l1 l_list limit hard (μ + 1) l_vout t13) (Int.toNat ((l_list.length : Int) - (0 : Int))) _ _ _ _ _ _ _ _ _ _ _ _ _ _ _ _ H_1 ?_ ?_
  · exact ⟨_, _, rfl, rfl, rfl, o_5, g_8, (by omega), (by first | omega | (simp; done) | (simp; omega)), (by first | omega | (simp; done) | (simp; omega)), (by first | omega | (simp; done) | (simp; omega)), (by omega), e⟩
  · intro μ vout_a vout_n vout_e t13 g9 g14 g15 g16 g17 g18 g19 g20 g21 g22 g23 g24 H_2 hI
    obtain ⟨l_vout, b_10, rfl, rfl, rfl, o_11, g_12, l_13, v_14, v_15, v_16, hμ, e⟩ := hI
    rw [impl_shrunkList_r1]
    have e := e.trans (p_impl_shrunkList_l1_s l_list limit hard μ l_vout t13)
    have w_17 := o_11.lt
    have l_18 := g_12.1
    refine Br.intro (fun c_19 => ?_) (fun c_19 => ?_)
    · have e := e.trans (cond_t c_19)
      have c_19' := of_decide_eq_true c_19
      obtain ⟨b_20, f_21, q_22⟩ := ((i_list.grow g_12)).pos (by first | omega | (simp only [List.length_set, List.length_replicate, List.length_append, List.length_cons, List.length_nil, List.length_take, List.length_drop, marks_length]; done) | (simp only [List.length_set, List.length_replicate, List.length_append, List.length_cons, List.length_nil, List.length_take, List.length_drop, marks_length]; omega))
      refine ⟨by omega, by omega, b_20, f_21, q_22, ?_⟩
      refine ⟨((l_list).getD (t13 : Int).toNat 0), (i_list).rd g_12 q_22 (by omega) _, ?_⟩
      refine T_impl_shrunk_i ?_
      refine Al.intro (fun b_23 H_3 hb_24 hl_25 g_26 o_27 => ?_)
      have o_27 : Own H_3 b_23 (([((p_impl_shrunk (((l_list).getD (t13 : Int).toNat 0)) limit hard))]).map fF) := o_27
      have l_29 := g_26.1
      have g_30 := g_12.trans g_26
      have l_31 := g_30.1
      have o_32 := o_11.grow g_26
      have w_33 := o_32.lt
      have w_46 := o_27.lt
      refine ⟨_, _, o_32.ownB (by first | (simp only [List.length_map, List.length_cons, List.length_nil, List.length_append]; done) | (simp only [List.length_map, List.length_cons, List.length_nil, List.length_append]; omega)) rfl, (isl_rdS (o_27.isL rfl)), (fun h => by cases h), (by have := most_eq; omega), ?_⟩
      refine Ap.app o_32 rfl rfl (fun b_38 H_4 q_44 hl_34 o_35 k_36 => ?_)
      have o_35 := map_snoc o_35
      have l_39 := k_36.1
      have g_40 := g_30.keep (b := b_10) (by omega) k_36
      have l_41 := g_40.1
      have o_42 := o_27.keep (by omega) k_36
      have w_43 := o_42.lt
      have w_45 := o_35.lt
      rw [show IntKind.wrap .i64 (t13 + 1) = (t13 + 1) from wrap64 (by omega) (by omega)]
      refine impl_shrunkList_n1 (μ - 1) (by omega) ⟨_, _, rfl, (by first | (simp only [List.length_append, List.length_cons, List.length_nil]; done) | (simp only [List.length_append, List.length_cons, List.length_nil]; omega)), rfl, o_35, g_40, (by omega), (by first | omega | (simp only [List.length_append, List.length_cons, List.length_nil, List.length_set]; done) | (simp only [List.length_append, List.length_cons, List.length_nil, List.length_set]; omega)), (by first | omega | (simp only [List.length_append, List.length_cons, List.length_nil, List.length_set]; done) | (simp only [List.length_append, List.length_cons, List.length_nil, List.length_set]; omega)), (by first | omega | (simp only [List.length_append, List.length_cons, List.length_nil, List.length_set]; done) | (simp only [List.length_append, List.length_cons, List.length_nil, List.length_set]; omega)), (by omega), (by rw [show μ - 1 + 1 = μ from by omega]; exact e)⟩
    · have e := e.trans (cond_f c_19)
      have c_19' := of_decide_eq_false c_19
      rw [impl_shrunkList_x1_0]
      rw [e] at hk
      exact hk _ _ _ H_2 g_12 (o_11.ownS rfl (by omega))
theorem impl_shrunkList_ok : FnOk Try.prog 77 S_impl_shrunkList := by
  refine FnOk.body mix_ok E_impl_shrunkList_ok Try.func77 rfl (by kernel_rfl) (by kernel_rfl) ?_ ?_ ?_ ?_ ?_
  · intro args H K K' h hk
    simp only [S_impl_shrunkList] at *
    unfold F_impl_shrunkList at *
    split at hk
    · obtain ⟨l_list, i_list, bd_48, k⟩ := hk
      exact ⟨l_list, i_list, bd_48, (fun r1_a r1_n r1_e H' gg ow0 => h _ _ (k r1_a r1_n r1_e H' gg ow0))⟩
    · exact hk.elim
  · intro hq; cases hq
  · intro args H K hk
    simp only [S_impl_shrunkList] at *
    unfold F_impl_shrunkList at *
    split at hk
    · obtain ⟨l_list, i_list, bd_48, k⟩ := hk
      exact liveS fun a n e H1 g o => ⟨_, _, k a n e H1 g o⟩
    · exact hk.elim
  · intro _ args H K hk
    simp only [S_impl_shrunkList] at *
    unfold F_impl_shrunkList at *
    split at hk
    · obtain ⟨l_list, i_list, bd_48, k⟩ := hk
      exact ⟨l_list, i_list, bd_48, (fun r1_a r1_n r1_e H' gg ow0 => ⟨gg, k r1_a r1_n r1_e H' gg ow0⟩)⟩
    · exact hk.elim
  · have mm := @impl_shrunkList_main
    revert mm
    generalize bodyK Try.prog E_impl_shrunkList Try.f77 = Q
    intro mm args H K hk
    simp only [S_impl_shrunkList] at *
    unfold F_impl_shrunkList at *
    split at hk
    · exact mm _ _ _ _ _ H K hk
    · exact hk.elim
def p_impl_ShrinkList (l_list : List Nat) (limit : Nat) (hard : Bool) : (List Nat) × Bool := (bif !(p_impl_isLong l_list) then ([], false) else (bif !(p_impl_isLeast limit) then ([], false) else ((p_impl_shrunkList l_list limit hard), true)))
theorem p_impl_ShrinkList_eq (l_list : List Nat) (limit : Nat) (hard : Bool) : p_impl_ShrinkList l_list limit hard = (bif !(p_impl_isLong l_list) then ([], false) else (bif !(p_impl_isLeast limit) then ([], false) else ((p_impl_shrunkList l_list limit hard), true))) := rfl
def T_impl_ShrinkList (list_a : Option Addr) (list_n : Nat) (list_e : Nat) (limit : Nat) (hard : Bool) (H : AHeap) (K : (Option Addr) → Nat → Nat → Bool → AHeap → Prop) : Prop := ∃ (l_list : List Nat), IsL fF H list_a list_n l_list ∧ l_list.length < 1073741824 ∧ ((∀ (r1_a : Option Addr) (r1_n r1_e : Nat), ∀ H' : AHeap, Grow H H' → OwnS fF H' H.length r1_a r1_n r1_e ((p_impl_ShrinkList l_list limit hard).1) → K r1_a r1_n r1_e ((p_impl_ShrinkList l_list limit hard).2) H'))
theorem T_impl_ShrinkList_i {list_a : Option Addr} {list_n : Nat} {list_e : Nat} {limit : Nat} {hard : Bool} {H : AHeap} {K : (Option Addr) → Nat → Nat → Bool → AHeap → Prop} (h : ∃ (l_list : List Nat), IsL fF H list_a list_n l_list ∧ l_list.length < 1073741824 ∧ ((∀ (r1_a : Option Addr) (r1_n r1_e : Nat), ∀ H' : AHeap, Grow H H' → OwnS fF H' H.length r1_a r1_n r1_e ((p_impl_ShrinkList l_list limit hard).1) → K r1_a r1_n r1_e ((p_impl_ShrinkList l_list limit hard).2) H'))) : T_impl_ShrinkList list_a list_n list_e limit hard H K := h
theorem impl_ShrinkList_len (l : List Nat) (limit : Nat) (hard : Bool) : (p_impl_ShrinkList l limit hard).1.length ≤ l.length := by
  rw [p_impl_ShrinkList_eq]
  cases p_impl_isLong l
  · exact Nat.zero_le _
  · cases p_impl_isLeast limit
    · exact Nat.zero_le _
    · exact Nat.le_of_eq (impl_shrunkList_len l limit hard)
/-! impl_ShrinkList: function 45 -/
def E_impl_ShrinkList : Env := envOf [(64, S_impl_isLong), (55, S_impl_isLeast), (77, S_impl_shrunkList)]
def F_impl_ShrinkList : List Value → AHeap → (Value → AHeap → Prop) → Prop
  | [.slice list_a list_n list_e, .float .f32 limit, .bool hard], H, K => T_impl_ShrinkList list_a list_n list_e limit hard H fun (r1_a : Option Addr) (r1_n : Nat) (r1_e : Nat) (r2 : Bool) (H' : AHeap) => K (.tuple #[.slice r1_a r1_n r1_e, .bool r2]) H'
  | _, _, _ => False
def S_impl_ShrinkList : FSpec := { F := F_impl_ShrinkList, quiet := false, tame := true }
theorem impl_ShrinkList_vc (list_a : Option Addr) (list_n : Nat) (list_e : Nat) (limit : Nat) (hard : Bool) (H : AHeap) (K : Value → AHeap → Prop) : bodyK Try.prog E_impl_ShrinkList Try.f45 [.slice list_a list_n list_e, .float .f32 limit, .bool hard] H K =
  (T_impl_isLong list_a list_n list_e H fun (r1 : Bool) (H1 : AHeap) => Br (!r1) (K (.tuple #[.slice none 0 0, .bool false]) H1) (T_impl_isLeast limit H1 fun (r2 : Bool) (H2 : AHeap) => Br (!r2) (K (.tuple #[.slice none 0 0, .bool false]) H2) (T_impl_shrunkList list_a list_n list_e limit hard H2 fun (a1 : Option Addr) (r3 : Nat) (r4 : Nat) (H3 : AHeap) => K (.tuple #[.slice a1 r3 r4, .bool true]) H3))) := by kernel_rfl
theorem E_impl_ShrinkList_ok : ∀ g, FnOk Try.prog g (E_impl_ShrinkList g) := FnOk.envOf (by
  intro x hx
  simp only [List.mem_cons, List.not_mem_nil, or_false] at hx
  rcases hx with rfl | rfl | rfl
  · exact impl_isLong_ok
  · exact impl_isLeast_ok
  · exact impl_shrunkList_ok)
set_option maxHeartbeats 1000000 in
theorem impl_ShrinkList_main (list_a : Option Addr) (list_n : Nat) (list_e : Nat) (limit : Nat) (hard : Bool) (H : AHeap) (K : Value → AHeap → Prop) (h : T_impl_ShrinkList list_a list_n list_e limit hard H fun (r1_a : Option Addr) (r1_n : Nat) (r1_e : Nat) (r2 : Bool) (H' : AHeap) => K (.tuple #[.slice r1_a r1_n r1_e, .bool r2]) H') : bodyK Try.prog E_impl_ShrinkList Try.f45 [.slice list_a list_n list_e, .float .f32 limit, .bool hard] H K := by
  rw [impl_ShrinkList_vc]
  obtain ⟨l_list, i_list, bd_19, hk⟩ := h
  obtain rfl := i_list.eqn
  have e : (p_impl_ShrinkList l_list limit hard) = _ := rfl
  have e := e.trans (p_impl_ShrinkList_eq l_list limit hard)
  have g0 := Grow.refl H
  refine T_impl_isLong_i ⟨_, (i_list.grow g0), (by first | omega | (simp only [List.length_set, List.length_replicate, List.length_append, List.length_cons, List.length_nil, List.length_take, List.length_drop, marks_length]; done) | (simp only [List.length_set, List.length_replicate, List.length_append, List.length_cons, List.length_nil, List.length_take, List.length_drop, marks_length]; omega)), fun  H_1 g_1  => ?_⟩
  have l_2 := g_1.1
  have g_3 := g0.trans g_1
  have l_4 := g_3.1
  refine Br.intro (fun c_5 => ?_) (fun c_5 => ?_)
  · have e := e.trans (cond_t c_5)
    have c_5n := nf_of_t c_5
    rw [e] at hk
    exact hk _ _ _ H_1 g_3 (OwnS.nil _ _ _ _)
  · have e := e.trans (cond_f c_5)
    have c_5n := nt_of_f c_5
    refine T_impl_isLeast_i ?_
    refine Br.intro (fun c_6 => ?_) (fun c_6 => ?_)
    · have e := e.trans (cond_t c_6)
      have c_6n := nf_of_t c_6
      rw [e] at hk
      exact hk _ _ _ H_1 g_3 (OwnS.nil _ _ _ _)
    · have e := e.trans (cond_f c_6)
      have c_6n := nt_of_f c_6
      refine T_impl_shrunkList_i ⟨_, (i_list.grow g_3), (by first | omega | (simp only [List.length_set, List.length_replicate, List.length_append, List.length_cons, List.length_nil, List.length_take, List.length_drop, marks_length]; done) | (simp only [List.length_set, List.length_replicate, List.length_append, List.length_cons, List.length_nil, List.length_take, List.length_drop, marks_length]; omega)), fun a_7 n_8 e_9 H_2 g_12 r_10 => ?_⟩
      have z_11 := impl_shrunkList_len l_list limit hard
      have l_13 := g_12.1
      have g_14 := g_3.trans g_12
      have l_15 := g_14.1
      obtain rfl := r_10.isL.eqn
      have u_16 := r_10.up
      have u_17 := r_10.lo
      rw [e] at hk
      exact hk _ _ _ H_2 g_14 (r_10.weak (by omega))
theorem impl_ShrinkList_ok : FnOk Try.prog 45 S_impl_ShrinkList := by
  refine FnOk.body mix_ok E_impl_ShrinkList_ok Try.func45 rfl (by kernel_rfl) (by kernel_rfl) ?_ ?_ ?_ ?_ ?_
  · intro args H K K' h hk
    simp only [S_impl_ShrinkList] at *
    unfold F_impl_ShrinkList at *
    split at hk
    · obtain ⟨l_list, i_list, bd_19, k⟩ := hk
      exact ⟨l_list, i_list, bd_19, (fun r1_a r1_n r1_e H' gg ow0 => h _ _ (k r1_a r1_n r1_e H' gg ow0))⟩
    · exact hk.elim
  · intro hq; cases hq
  · intro args H K hk
    simp only [S_impl_ShrinkList] at *
    unfold F_impl_ShrinkList at *
    split at hk
    · obtain ⟨l_list, i_list, bd_19, k⟩ := hk
      exact liveS fun a n e H1 g o => ⟨_, _, k a n e H1 g o⟩
    · exact hk.elim
  · intro _ args H K hk
    simp only [S_impl_ShrinkList] at *
    unfold F_impl_ShrinkList at *
    split at hk
    · obtain ⟨l_list, i_list, bd_19, k⟩ := hk
      exact ⟨l_list, i_list, bd_19, (fun r1_a r1_n r1_e H' gg ow0 => ⟨gg, k r1_a r1_n r1_e H' gg ow0⟩)⟩
    · exact hk.elim
  · have mm := @impl_ShrinkList_main
    revert mm
    generalize bodyK Try.prog E_impl_ShrinkList Try.f45 = Q
    intro mm args H K hk
    simp only [S_impl_ShrinkList] at *
    unfold F_impl_ShrinkList at *
    split at hk
    · exact mm _ _ _ _ _ H K hk
    · exact hk.elim
def p_laws_sameFloat (a : Nat) (b : Nat) : Bool := (bif !(feq .f64 a a) then (bif !(feq .f64 a a) then !(feq .f64 b b) else false) else (bif !(feq .f64 b b) then (bif !(feq .f64 a a) then !(feq .f64 b b) else false) else (bif feq .f64 a 0 then (bif feq .f64 b 0 then (flt .f64 0 (fdiv .f64 4607182418800017408 a)) == (flt .f64 0 (fdiv .f64 4607182418800017408 b)) else feq .f64 a b) else feq .f64 a b)))
theorem p_laws_sameFloat_eq (a : Nat) (b : Nat) : p_laws_sameFloat a b = (bif !(feq .f64 a a) then (bif !(feq .f64 a a) then !(feq .f64 b b) else false) else (bif !(feq .f64 b b) then (bif !(feq .f64 a a) then !(feq .f64 b b) else false) else (bif feq .f64 a 0 then (bif feq .f64 b 0 then (flt .f64 0 (fdiv .f64 4607182418800017408 a)) == (flt .f64 0 (fdiv .f64 4607182418800017408 b)) else feq .f64 a b) else feq .f64 a b))) := rfl
def T_laws_sameFloat (a : Nat) (b : Nat) (H : AHeap) (K : Bool → AHeap → Prop) : Prop := K (p_laws_sameFloat a b) H

theorem T_laws_sameFloat_i {a : Nat} {b : Nat} {H : AHeap} {K : Bool → AHeap → Prop} (h : K (p_laws_sameFloat a b) H) : T_laws_sameFloat a b H K := h
/-! laws_sameFloat: function 30 -/
def E_laws_sameFloat : Env := envOf []
def F_laws_sameFloat : List Value → AHeap → (Value → AHeap → Prop) → Prop
  | [.float .f64 a, .float .f64 b], H, K => T_laws_sameFloat a b H fun (r1 : Bool) (H' : AHeap) => K (.bool r1) H'
  | _, _, _ => False
def S_laws_sameFloat : FSpec := { F := F_laws_sameFloat, quiet := true, tame := false }
theorem laws_sameFloat_vc (a : Nat) (b : Nat) (H : AHeap) (K : Value → AHeap → Prop) : bodyK Try.prog E_laws_sameFloat Try.f30 [.float .f64 a, .float .f64 b] H K =
  (Br (!(feq .f64 a a)) (Br (!(feq .f64 a a)) (K (.bool (!(feq .f64 b b))) H) (K (.bool false) H)) (Br (!(feq .f64 b b)) (Br (!(feq .f64 a a)) (K (.bool (!(feq .f64 b b))) H) (K (.bool false) H)) (Br (feq .f64 a 0) (Br (feq .f64 b 0) (K (.bool ((flt .f64 0 (fdiv .f64 4607182418800017408 a)) == (flt .f64 0 (fdiv .f64 4607182418800017408 b)))) H) (K (.bool (feq .f64 a b)) H)) (K (.bool (feq .f64 a b)) H)))) := by kernel_rfl
theorem E_laws_sameFloat_ok : ∀ g, FnOk Try.prog g (E_laws_sameFloat g) := FnOk.envOf (by
  intro x hx; cases hx)
set_option maxHeartbeats 1000000 in
theorem laws_sameFloat_main (a : Nat) (b : Nat) (H : AHeap) (K : Value → AHeap → Prop) (h : T_laws_sameFloat a b H fun (r1 : Bool) (H' : AHeap) => K (.bool r1) H') : bodyK Try.prog E_laws_sameFloat Try.f30 [.float .f64 a, .float .f64 b] H K := by
  rw [laws_sameFloat_vc]
  unfold T_laws_sameFloat p_laws_sameFloat at h
  repeat' (first | exact h | (exfalso; simp_all; done) | (refine ⟨by decide, ?_⟩) | (refine Br.intro (fun hb => ?_) (fun hb => ?_) <;> (try simp only [hb, cond_true, cond_false, Bool.not_true, Bool.not_false] at h)))
theorem laws_sameFloat_ok : FnOk Try.prog 30 S_laws_sameFloat := by
  refine FnOk.body mix_ok E_laws_sameFloat_ok Try.func30 rfl (by kernel_rfl) (by kernel_rfl) ?_ ?_ ?_ ?_ ?_
  · intro args H K K' h hk
    simp only [S_laws_sameFloat] at *
    unfold F_laws_sameFloat at *
    split at hk
    · have k := hk
      exact h _ _ k
    · exact hk.elim
  · intro _ args H K hk
    simp only [S_laws_sameFloat] at *
    unfold F_laws_sameFloat at *
    split at hk
    · have k := hk
      exact ⟨_, k, fun K' k' => k'⟩
    · exact hk.elim
  · intro args H K hk
    simp only [S_laws_sameFloat] at *
    unfold F_laws_sameFloat at *
    split at hk
    · have k := hk
      exact ⟨_, _, k⟩
    · exact hk.elim
  · intro hq; cases hq
  · have mm := @laws_sameFloat_main
    revert mm
    generalize bodyK Try.prog E_laws_sameFloat Try.f30 = Q
    intro mm args H K hk
    simp only [S_laws_sameFloat] at *
    unfold F_laws_sameFloat at *
    split at hk
    · exact mm _ _ H K hk
    · exact hk.elim
def p_laws_eqFloat32S_l1 (l_a : List Nat) (l_b : List Nat) : Nat → Bool → Int → Bool
  | 0, _, _ => false
  | μ + 1, t4, i => (bif decide ((i : Int) < (l_a.length : Int)) then (bif !((p_laws_sameFloat (fwide (((l_a).getD (i : Int).toNat 0))) (fwide (((l_b).getD (i : Int).toNat 0))))) then false else (p_laws_eqFloat32S_l1 l_a l_b μ t4 (i + 1))) else true)
theorem p_laws_eqFloat32S_l1_s (l_a : List Nat) (l_b : List Nat) (μ : Nat) (t4 : Bool) (i : Int) : p_laws_eqFloat32S_l1 l_a l_b (μ + 1) t4 i = (bif decide ((i : Int) < (l_a.length : Int)) then (bif !((p_laws_sameFloat (fwide (((l_a).getD (i : Int).toNat 0))) (fwide (((l_b).getD (i : Int).toNat 0))))) then false else (p_laws_eqFloat32S_l1 l_a l_b μ t4 (i + 1))) else true) := rfl
def p_laws_eqFloat32S (l_a : List Nat) (l_b : List Nat) : Bool := (bif ((l_a.length : Int) : Int) != (l_b.length : Int) then false else (p_laws_eqFloat32S_l1 l_a l_b (Int.toNat ((l_a.length : Int) - (0 : Int)) + 1) false (0 : Int)))
theorem p_laws_eqFloat32S_eq (l_a : List Nat) (l_b : List Nat) : p_laws_eqFloat32S l_a l_b = (bif ((l_a.length : Int) : Int) != (l_b.length : Int) then false else (p_laws_eqFloat32S_l1 l_a l_b (Int.toNat ((l_a.length : Int) - (0 : Int)) + 1) false (0 : Int))) := rfl
def T_laws_eqFloat32S (a_a : Option Addr) (a_n : Nat) (a_e : Nat) (b_a : Option Addr) (b_n : Nat) (b_e : Nat) (H : AHeap) (K : Bool → AHeap → Prop) : Prop := ∃ (l_a : List Nat), ∃ (l_b : List Nat), IsL fF H a_a a_n l_a ∧ IsL fF H b_a b_n l_b ∧ l_a.length < 1073741824 ∧ l_b.length < 1073741824 ∧ K (p_laws_eqFloat32S l_a l_b) H
theorem T_laws_eqFloat32S_i {a_a : Option Addr} {a_n : Nat} {a_e : Nat} {b_a : Option Addr} {b_n : Nat} {b_e : Nat} {H : AHeap} {K : Bool → AHeap → Prop} (h : ∃ (l_a : List Nat), ∃ (l_b : List Nat), IsL fF H a_a a_n l_a ∧ IsL fF H b_a b_n l_b ∧ l_a.length < 1073741824 ∧ l_b.length < 1073741824 ∧ K (p_laws_eqFloat32S l_a l_b) H) : T_laws_eqFloat32S a_a a_n a_e b_a b_n b_e H K := h
theorem laws_sameFloat_self (y : Nat) : p_laws_sameFloat y y = true := by
  rw [p_laws_sameFloat_eq]
  cases feq .f64 y y <;> simp
theorem laws_eqFloat32S_go (l : List Nat) : ∀ (μ : Nat) (t : Bool) (i : Nat), l.length - i < μ → p_laws_eqFloat32S_l1 l l μ t (i : Int) = true := by
  intro μ
  induction μ with
  | zero => intro t i h; omega
  | succ μ ih =>
    intro t i hm
    rw [p_laws_eqFloat32S_l1_s]
    by_cases h : i < l.length
    · rw [decide_eq_true (show (i : Int) < (l.length : Int) by omega), cond_true, laws_sameFloat_self]
      simp only [Bool.not_true, cond_false]
      exact ih t (i + 1) (by omega)
    · rw [decide_eq_false (show ¬ (i : Int) < (l.length : Int) by omega), cond_false]
theorem laws_eqFloat32S_self (l : List Nat) : p_laws_eqFloat32S l l = true := by
  rw [p_laws_eqFloat32S_eq]
  have h0 : ((l.length : Int) != (l.length : Int)) = false := by simp
  rw [h0, cond_false]
  exact laws_eqFloat32S_go l _ false 0 (by omega)
/-! laws_eqFloat32S: function 24 -/
def E_laws_eqFloat32S : Env := envOf [(30, S_laws_sameFloat)]
def F_laws_eqFloat32S : List Value → AHeap → (Value → AHeap → Prop) → Prop
  | [.slice a_a a_n a_e, .slice b_a b_n b_e], H, K => T_laws_eqFloat32S a_a a_n a_e b_a b_n b_e H fun (r1 : Bool) (H' : AHeap) => K (.bool r1) H'
  | _, _, _ => False
def S_laws_eqFloat32S : FSpec := { F := F_laws_eqFloat32S, quiet := true, tame := false }
theorem laws_eqFloat32S_vc (a_a : Option Addr) (a_n : Nat) (a_e : Nat) (b_a : Option Addr) (b_n : Nat) (b_e : Nat) (H : AHeap) (K : Value → AHeap → Prop) : bodyK Try.prog E_laws_eqFloat32S Try.f24 [.slice a_a a_n a_e, .slice b_a b_n b_e] H K =
  (Br (((a_n : Int) : Int) != (b_n : Int)) (K (.bool false) H) (loopK (exK Try.prog E_laws_eqFloat32S (cl (cl (cr (cl (cr (cr (bodyC Try.f24)))))))) [.slice a_a a_n a_e, .slice b_a b_n b_e, undef, undef, .bool false, .int .i64 0, .slice a_a a_n a_e, .int .i64 (a_n : Int), .slice b_a b_n b_e, .int .i64 (b_n : Int), .bool (((a_n : Int) : Int) != (b_n : Int)), undef, undef, undef, undef, undef, undef, undef, undef, undef, undef, undef, undef, undef, undef, undef, undef, undef, undef] H (blockQ 0 (seqQ (exK Try.prog E_laws_eqFloat32S (cr (cr (cr (bodyC Try.f24))))) (retK Try.prog Try.f24 K))))) := by kernel_rfl
theorem laws_eqFloat32S_r1 (a_a : Option Addr) (a_e : Nat) (a_n : Nat) (b_a : Option Addr) (b_e : Nat) (b_n : Nat) (t4 : Bool) (i : Int) (g11 g12 g13 g14 g15 g16 g17 g18 g19 g20 g21 g22 g23 g24 g25 g26 g27 g28 : Value) (H : AHeap) (R : Post) : exK Try.prog E_laws_eqFloat32S (cl (cl (cr (cl (cr (cr (bodyC Try.f24))))))) [.slice a_a a_n a_e, .slice b_a b_n b_e, undef, undef, .bool t4, .int .i64 i, .slice a_a a_n a_e, .int .i64 (a_n : Int), .slice b_a b_n b_e, .int .i64 (b_n : Int), .bool (((a_n : Int) : Int) != (b_n : Int)), g11, g12, g13, g14, g15, g16, g17, g18, g19, g20, g21, g22, g23, g24, g25, g26, g27, g28] H R =
  (Br (decide ((i : Int) < (a_n : Int))) ((0 : Int) ≤ i ∧ i < (a_n : Int) ∧ ∃ b1 f1, (a_a : Option Addr) = some ⟨b1, f1, none⟩ ∧ ∃ x1 : Nat,  rdC H b1 (f1 + (i : Int).toNat * 1) = some (.float .f32 x1) ∧ (0 : Int) ≤ i ∧ i < (b_n : Int) ∧ ∃ b2 f2, (b_a : Option Addr) = some ⟨b2, f2, none⟩ ∧ ∃ x2 : Nat,  rdC H b2 (f2 + (i : Int).toNat * 1) = some (.float .f32 x2) ∧ T_laws_sameFloat (fwide x1) (fwide x2) H fun (r1 : Bool) (H1 : AHeap) => Br (!r1) (R .ret [.slice a_a a_n a_e, .slice b_a b_n b_e, undef, undef, .bool false, .int .i64 i, .slice a_a a_n a_e, .int .i64 (a_n : Int), .slice b_a b_n b_e, .int .i64 (b_n : Int), .bool (((a_n : Int) : Int) != (b_n : Int)), .int .i64 i, .slice a_a a_n a_e, .int .i64 (a_n : Int), .bool (decide ((i : Int) < (a_n : Int))), g15, g16, .slice a_a a_n a_e, .int .i64 i, .pointer (some ⟨b1, f1 + (i : Int).toNat * 1, none⟩), .float .f32 x1, .float .f64 (fwide x1), .slice b_a b_n b_e, .int .i64 i, .pointer (some ⟨b2, f2 + (i : Int).toNat * 1, none⟩), .float .f32 x2, .float .f64 (fwide x2), .bool r1, .bool (!r1)] H1) (R .normal [.slice a_a a_n a_e, .slice b_a b_n b_e, undef, undef, .bool t4, .int .i64 (IntKind.wrap .i64 (i + 1)), .slice a_a a_n a_e, .int .i64 (a_n : Int), .slice b_a b_n b_e, .int .i64 (b_n : Int), .bool (((a_n : Int) : Int) != (b_n : Int)), .int .i64 i, .slice a_a a_n a_e, .int .i64 (a_n : Int), .bool (decide ((i : Int) < (a_n : Int))), .int .i64 i, .int .i64 (IntKind.wrap .i64 (i + 1)), .slice a_a a_n a_e, .int .i64 i, .pointer (some ⟨b1, f1 + (i : Int).toNat * 1, none⟩), .float .f32 x1, .float .f64 (fwide x1), .slice b_a b_n b_e, .int .i64 i, .pointer (some ⟨b2, f2 + (i : Int).toNat * 1, none⟩), .float .f32 x2, .float .f64 (fwide x2), .bool r1, .bool (!r1)] H1)) (R (.exit 0) [.slice a_a a_n a_e, .slice b_a b_n b_e, undef, undef, .bool t4, .int .i64 i, .slice a_a a_n a_e, .int .i64 (a_n : Int), .slice b_a b_n b_e, .int .i64 (b_n : Int), .bool (((a_n : Int) : Int) != (b_n : Int)), .int .i64 i, .slice a_a a_n a_e, .int .i64 (a_n : Int), .bool (decide ((i : Int) < (a_n : Int))), g15, g16, g17, g18, g19, g20, g21, g22, g23, g24, g25, g26, g27, g28] H)) := by kernel_rfl
def laws_eqFloat32S_I1 (a_a : Option Addr) (a_e : Nat) (a_n : Nat) (b_a : Option Addr) (b_e : Nat) (b_n : Nat) (Inv : Nat → Bool → Int → AHeap → Prop) : Nat → List Value → AHeap → Prop := fun μ tm H => ∃ (t4 : Bool), ∃ (i : Int), ∃ g11 g12 g13 g14 g15 g16 g17 g18 g19 g20 g21 g22 g23 g24 g25 g26 g27 g28, tm = [.slice a_a a_n a_e, .slice b_a b_n b_e, undef, undef, .bool t4, .int .i64 i, .slice a_a a_n a_e, .int .i64 (a_n : Int), .slice b_a b_n b_e, .int .i64 (b_n : Int), .bool (((a_n : Int) : Int) != (b_n : Int)), g11, g12, g13, g14, g15, g16, g17, g18, g19, g20, g21, g22, g23, g24, g25, g26, g27, g28] ∧ Inv μ t4 i H
theorem laws_eqFloat32S_L1 (a_a : Option Addr) (a_e : Nat) (a_n : Nat) (b_a : Option Addr) (b_e : Nat) (b_n : Nat) {Q : Post} (Inv : Nat → Bool → Int → AHeap → Prop) (ν : Nat) (t4 : Bool) (i : Int) (g11 g12 g13 g14 g15 g16 g17 g18 g19 g20 g21 g22 g23 g24 g25 g26 g27 g28 : Value) (H : AHeap) (h0 : Inv ν t4 i H)
    (hs : ∀ (μ : Nat) (t4 : Bool) (i : Int) (g11 g12 g13 g14 g15 g16 g17 g18 g19 g20 g21 g22 g23 g24 g25 g26 g27 g28 : Value) (H : AHeap), Inv μ t4 i H → exK Try.prog E_laws_eqFloat32S (cl (cl (cr (cl (cr (cr (bodyC Try.f24))))))) [.slice a_a a_n a_e, .slice b_a b_n b_e, undef, undef, .bool t4, .int .i64 i, .slice a_a a_n a_e, .int .i64 (a_n : Int), .slice b_a b_n b_e, .int .i64 (b_n : Int), .bool (((a_n : Int) : Int) != (b_n : Int)), g11, g12, g13, g14, g15, g16, g17, g18, g19, g20, g21, g22, g23, g24, g25, g26, g27, g28] H (loopQ (laws_eqFloat32S_I1 a_a a_e a_n b_a b_e b_n Inv) μ Q)) : loopK (exK Try.prog E_laws_eqFloat32S (cl (cl (cr (cl (cr (cr (bodyC Try.f24)))))))) [.slice a_a a_n a_e, .slice b_a b_n b_e, undef, undef, .bool t4, .int .i64 i, .slice a_a a_n a_e, .int .i64 (a_n : Int), .slice b_a b_n b_e, .int .i64 (b_n : Int), .bool (((a_n : Int) : Int) != (b_n : Int)), g11, g12, g13, g14, g15, g16, g17, g18, g19, g20, g21, g22, g23, g24, g25, g26, g27, g28] H Q :=
  ⟨laws_eqFloat32S_I1 a_a a_e a_n b_a b_e b_n Inv, ν, ⟨t4, i, g11, g12, g13, g14, g15, g16, g17, g18, g19, g20, g21, g22, g23, g24, g25, g26, g27, g28, rfl, h0⟩, fun μ tm H h => by obtain ⟨t4, i, g11, g12, g13, g14, g15, g16, g17, g18, g19, g20, g21, g22, g23, g24, g25, g26, g27, g28, rfl, hI⟩ := h; exact hs μ t4 i g11 g12 g13 g14 g15 g16 g17 g18 g19 g20 g21 g22 g23 g24 g25 g26 g27 g28 H hI⟩
theorem laws_eqFloat32S_n1 {a_a : Option Addr} {a_e : Nat} {a_n : Nat} {b_a : Option Addr} {b_e : Nat} {b_n : Nat} {Q : Post} {Inv : Nat → Bool → Int → AHeap → Prop} {μ : Nat} (μ' : Nat) {t4 : Bool} {i : Int} {g11 g12 g13 g14 g15 g16 g17 g18 g19 g20 g21 g22 g23 g24 g25 g26 g27 g28 : Value} {H : AHeap} (hm : μ' < μ) (hI : Inv μ' t4 i H) : loopQ (laws_eqFloat32S_I1 a_a a_e a_n b_a b_e b_n Inv) μ Q .normal [.slice a_a a_n a_e, .slice b_a b_n b_e, undef, undef, .bool t4, .int .i64 i, .slice a_a a_n a_e, .int .i64 (a_n : Int), .slice b_a b_n b_e, .int .i64 (b_n : Int), .bool (((a_n : Int) : Int) != (b_n : Int)), g11, g12, g13, g14, g15, g16, g17, g18, g19, g20, g21, g22, g23, g24, g25, g26, g27, g28] H := ⟨μ', hm, t4, i, g11, g12, g13, g14, g15, g16, g17, g18, g19, g20, g21, g22, g23, g24, g25, g26, g27, g28, rfl, hI⟩
theorem laws_eqFloat32S_x1_0 (a_a : Option Addr) (a_e : Nat) (a_n : Nat) (b_a : Option Addr) (b_e : Nat) (b_n : Nat) (t4 : Bool) (i : Int) (g11 g12 g13 g14 g15 g16 g17 g18 g19 g20 g21 g22 g23 g24 g25 g26 g27 g28 : Value) (H : AHeap) (K : Value → AHeap → Prop)  {I : Nat → List Value → AHeap → Prop} {μ : Nat} : loopQ I μ (blockQ 0 (seqQ (exK Try.prog E_laws_eqFloat32S (cr (cr (cr (bodyC Try.f24))))) (retK Try.prog Try.f24 K))) (.exit 0) [.slice a_a a_n a_e, .slice b_a b_n b_e, undef, undef, .bool t4, .int .i64 i, .slice a_a a_n a_e, .int .i64 (a_n : Int), .slice b_a b_n b_e, .int .i64 (b_n : Int), .bool (((a_n : Int) : Int) != (b_n : Int)), g11, g12, g13, g14, g15, g16, g17, g18, g19, g20, g21, g22, g23, g24, g25, g26, g27, g28] H =
  (K (.bool true) H) := by kernel_rfl
theorem laws_eqFloat32S_x1_ret (a_a : Option Addr) (a_e : Nat) (a_n : Nat) (b_a : Option Addr) (b_e : Nat) (b_n : Nat) (t4 : Bool) (i : Int) (g11 g12 g13 g14 g15 g16 g17 g18 g19 g20 g21 g22 g23 g24 g25 g26 g27 g28 : Value) (H : AHeap) (K : Value → AHeap → Prop)  {I : Nat → List Value → AHeap → Prop} {μ : Nat} : loopQ I μ (blockQ 0 (seqQ (exK Try.prog E_laws_eqFloat32S (cr (cr (cr (bodyC Try.f24))))) (retK Try.prog Try.f24 K))) .ret [.slice a_a a_n a_e, .slice b_a b_n b_e, undef, undef, .bool t4, .int .i64 i, .slice a_a a_n a_e, .int .i64 (a_n : Int), .slice b_a b_n b_e, .int .i64 (b_n : Int), .bool (((a_n : Int) : Int) != (b_n : Int)), g11, g12, g13, g14, g15, g16, g17, g18, g19, g20, g21, g22, g23, g24, g25, g26, g27, g28] H =
  (K (.bool t4) H) := by kernel_rfl
theorem E_laws_eqFloat32S_ok : ∀ g, FnOk Try.prog g (E_laws_eqFloat32S g) := FnOk.envOf (by
  intro x hx
  simp only [List.mem_cons, List.not_mem_nil, or_false] at hx
  subst hx; exact laws_sameFloat_ok)
set_option maxHeartbeats 1000000 in
theorem laws_eqFloat32S_main (a_a : Option Addr) (a_n : Nat) (a_e : Nat) (b_a : Option Addr) (b_n : Nat) (b_e : Nat) (H : AHeap) (K : Value → AHeap → Prop) (h : T_laws_eqFloat32S a_a a_n a_e b_a b_n b_e H fun (r1 : Bool) (H' : AHeap) => K (.bool r1) H') : bodyK Try.prog E_laws_eqFloat32S Try.f24 [.slice a_a a_n a_e, .slice b_a b_n b_e] H K := by
  rw [laws_eqFloat32S_vc]
  obtain ⟨l_a, l_b, i_a, i_b, bd_13, bd_14, hk⟩ := h
  obtain rfl := i_a.eqn
  obtain rfl := i_b.eqn
  have e : (p_laws_eqFloat32S l_a l_b) = _ := rfl
  have e := e.trans (p_laws_eqFloat32S_eq l_a l_b)
  have g0 := Grow.refl H
  refine Br.intro (fun c_1 => ?_) (fun c_1 => ?_)
  · have e := e.trans (cond_t c_1)
    have c_1' := ine_t c_1
    rw [e] at hk
    exact hk
  · have e := e.trans (cond_f c_1)
    have c_1' := ine_f c_1
    refine laws_eqFloat32S_L1 _ _ _ _ _ _ (fun (μ : Nat) (t4 : Bool) (i : Int) (H_1 : AHeap) => H = H_1 ∧ (0 : Int) ≤ i ∧ i ≤ (l_a.length : Int) ∧ (l_a.length : Int) - i ≤ (μ : Int) ∧ p_laws_eqFloat32S l_a l_b = p_laws_eqFloat32S_l1 l_a l_b (μ + 1) t4 i) (Int.toNat ((l_a.length : Int) - (0 : Int))) _ _ _ _ _ _ _ _ _ _ _ _ _ _ _ _ _ _ _ _ H ?_ ?_
    · exact ⟨rfl, (by first | omega | (simp; done) | (simp; omega)), (by first | omega | (simp; done) | (simp; omega)), (by omega), e⟩
    · intro μ t4 i g11 g12 g13 g14 g15 g16 g17 g18 g19 g20 g21 g22 g23 g24 g25 g26 g27 g28 H_1 hI
      obtain ⟨rfl, v_2, v_3, hμ, e⟩ := hI
      rw [laws_eqFloat32S_r1]
      have e := e.trans (p_laws_eqFloat32S_l1_s l_a l_b μ t4 i)
      have l_4 := g0.1
      refine Br.intro (fun c_5 => ?_) (fun c_5 => ?_)
      · have e := e.trans (cond_t c_5)
        have c_5' := of_decide_eq_true c_5
        obtain ⟨b_6, f_7, q_8⟩ := ((i_a.grow g0)).pos (by first | omega | (simp only [List.length_set, List.length_replicate, List.length_append, List.length_cons, List.length_nil, List.length_take, List.length_drop, marks_length]; done) | (simp only [List.length_set, List.length_replicate, List.length_append, List.length_cons, List.length_nil, List.length_take, List.length_drop, marks_length]; omega))
        refine ⟨by omega, by omega, b_6, f_7, q_8, ?_⟩
        refine ⟨((l_a).getD (i : Int).toNat 0), (i_a).rd g0 q_8 (by omega) _, ?_⟩
        obtain ⟨b_9, f_10, q_11⟩ := ((i_b.grow g0)).pos (by first | omega | (simp only [List.length_set, List.length_replicate, List.length_append, List.length_cons, List.length_nil, List.length_take, List.length_drop, marks_length]; done) | (simp only [List.length_set, List.length_replicate, List.length_append, List.length_cons, List.length_nil, List.length_take, List.length_drop, marks_length]; omega))
        refine ⟨by omega, by omega, b_9, f_10, q_11, ?_⟩
        refine ⟨((l_b).getD (i : Int).toNat 0), (i_b).rd g0 q_11 (by omega) _, ?_⟩
        refine T_laws_sameFloat_i ?_
        refine Br.intro (fun c_12 => ?_) (fun c_12 => ?_)
        · have e := e.trans (cond_t c_12)
          have c_12n := nf_of_t c_12
          rw [laws_eqFloat32S_x1_ret]
          rw [e] at hk
          exact hk
        · have e := e.trans (cond_f c_12)
          have c_12n := nt_of_f c_12
          rw [show IntKind.wrap .i64 (i + 1) = (i + 1) from wrap64 (by omega) (by omega)]
          refine laws_eqFloat32S_n1 (μ - 1) (by omega) ⟨rfl, (by first | omega | (simp only [List.length_append, List.length_cons, List.length_nil, List.length_set]; done) | (simp only [List.length_append, List.length_cons, List.length_nil, List.length_set]; omega)), (by first | omega | (simp only [List.length_append, List.length_cons, List.length_nil, List.length_set]; done) | (simp only [List.length_append, List.length_cons, List.length_nil, List.length_set]; omega)), (by omega), (by rw [show μ - 1 + 1 = μ from by omega]; exact e)⟩
      · have e := e.trans (cond_f c_5)
        have c_5' := of_decide_eq_false c_5
        rw [laws_eqFloat32S_x1_0]
        rw [e] at hk
        exact hk
theorem laws_eqFloat32S_ok : FnOk Try.prog 24 S_laws_eqFloat32S := by
  refine FnOk.body mix_ok E_laws_eqFloat32S_ok Try.func24 rfl (by kernel_rfl) (by kernel_rfl) ?_ ?_ ?_ ?_ ?_
  · intro args H K K' h hk
    simp only [S_laws_eqFloat32S] at *
    unfold F_laws_eqFloat32S at *
    split at hk
    · obtain ⟨l_a, l_b, i_a, i_b, bd_13, bd_14, k⟩ := hk
      exact ⟨l_a, l_b, i_a, i_b, bd_13, bd_14, h _ _ k⟩
    · exact hk.elim
  · intro _ args H K hk
    simp only [S_laws_eqFloat32S] at *
    unfold F_laws_eqFloat32S at *
    split at hk
    · obtain ⟨l_a, l_b, i_a, i_b, bd_13, bd_14, k⟩ := hk
      exact ⟨_, k, fun K' k' => ⟨l_a, l_b, i_a, i_b, bd_13, bd_14, k'⟩⟩
    · exact hk.elim
  · intro args H K hk
    simp only [S_laws_eqFloat32S] at *
    unfold F_laws_eqFloat32S at *
    split at hk
    · obtain ⟨l_a, l_b, i_a, i_b, bd_13, bd_14, k⟩ := hk
      exact ⟨_, _, k⟩
    · exact hk.elim
  · intro hq; cases hq
  · have mm := @laws_eqFloat32S_main
    revert mm
    generalize bodyK Try.prog E_laws_eqFloat32S Try.f24 = Q
    intro mm args H K hk
    simp only [S_laws_eqFloat32S] at *
    unfold F_laws_eqFloat32S at *
    split at hk
    · exact mm _ _ _ _ _ _ H K hk
    · exact hk.elim
def p_laws_markFloat32S_l1 (l_a : List Nat) (k : Int) : Nat → Int → Int → (List Nat) → Int × (List Nat)
  | 0, _, _, _ => (0, [])
  | μ + 1, k_1, i, y1_1 => (bif decide ((i : Int) < (l_a.length : Int)) then (p_laws_markFloat32S_l1 l_a k μ (IntKind.wrap .i64 (k_1 + 1)) (i + 1) (((y1_1).set (i : Int).toNat (FloatKind.nearest .f32 k_1)))) else (k_1, y1_1))
theorem p_laws_markFloat32S_l1_s (l_a : List Nat) (k : Int) (μ : Nat) (k_1 : Int) (i : Int) (y1_1 : List Nat) : p_laws_markFloat32S_l1 l_a k (μ + 1) k_1 i y1_1 = (bif decide ((i : Int) < (l_a.length : Int)) then (p_laws_markFloat32S_l1 l_a k μ (IntKind.wrap .i64 (k_1 + 1)) (i + 1) (((y1_1).set (i : Int).toNat (FloatKind.nearest .f32 k_1)))) else (k_1, y1_1)) := rfl
def p_laws_markFloat32S (l_a : List Nat) (k : Int) : Int × (List Nat) := (p_laws_markFloat32S_l1 l_a k (Int.toNat ((l_a.length : Int) - (0 : Int)) + 1) k (0 : Int) l_a)
theorem p_laws_markFloat32S_eq (l_a : List Nat) (k : Int) : p_laws_markFloat32S l_a k = (p_laws_markFloat32S_l1 l_a k (Int.toNat ((l_a.length : Int) - (0 : Int)) + 1) k (0 : Int) l_a) := rfl
def T_laws_markFloat32S (a_a : Option Addr) (a_n : Nat) (a_e : Nat) (k : Int) (H : AHeap) (K : Int → AHeap → Prop) : Prop := ∃ lo : Nat, ∃ (l_a : List Nat), OwnS fF H lo a_a a_n a_e l_a ∧ l_a.length < 1073741824 ∧ ((∀ H' : AHeap, KeepA a_a H H' → OwnS fF H' lo a_a a_n a_e (marks (FloatKind.nearest .f32) k l_a.length) → K (wk k l_a.length) H'))
theorem T_laws_markFloat32S_i {a_a : Option Addr} {a_n : Nat} {a_e : Nat} {k : Int} {H : AHeap} {K : Int → AHeap → Prop} (h : ∃ lo : Nat, ∃ (l_a : List Nat), OwnS fF H lo a_a a_n a_e l_a ∧ l_a.length < 1073741824 ∧ ((∀ H' : AHeap, KeepA a_a H H' → OwnS fF H' lo a_a a_n a_e (marks (FloatKind.nearest .f32) k l_a.length) → K (wk k l_a.length) H'))) : T_laws_markFloat32S a_a a_n a_e k H K := h
theorem laws_markFloat32S_go (l : List Nat) (k0 : Int) : ∀ (μ : Nat) (k : Int) (i : Nat) (ys : List Nat), ys.length = l.length → i ≤ l.length → l.length - i < μ →
    p_laws_markFloat32S_l1 l k0 μ k (i : Int) ys = (wk k (l.length - i), ys.take i ++ marks (FloatKind.nearest .f32) k (l.length - i)) := by
  intro μ
  induction μ with
  | zero => intro k i ys _ _ h; omega
  | succ μ ih =>
    intro k i ys hy hi hm
    rw [p_laws_markFloat32S_l1_s]
    by_cases h : i < l.length
    · rw [decide_eq_true (show (i : Int) < (l.length : Int) by omega), cond_true, Int.toNat_natCast]
      have := ih (IntKind.wrap .i64 (k + 1)) (i + 1) (ys.set i ((FloatKind.nearest .f32) k)) (by simp [hy]) (by omega) (by omega)
      obtain ⟨d, hd⟩ : ∃ d, l.length - i = d + 1 := ⟨l.length - i - 1, by omega⟩
      rw [show l.length - (i + 1) = d by omega] at this
      rw [hd, wk, marks]
      refine Eq.trans this ?_
      rw [List.take_add_one, List.getElem?_set_self (by omega), List.take_set_of_le (Nat.le_refl i)]
      simp
    · rw [decide_eq_false (show ¬ (i : Int) < (l.length : Int) by omega), cond_false]
      rw [show l.length - i = 0 by omega, wk, marks, List.append_nil, List.take_of_length_le (by omega)]
theorem laws_markFloat32S_val (l : List Nat) (k : Int) : p_laws_markFloat32S l k = (wk k l.length, marks (FloatKind.nearest .f32) k l.length) := by
  rw [p_laws_markFloat32S_eq]
  have := laws_markFloat32S_go l k (Int.toNat ((l.length : Int) - 0) + 1) k 0 l rfl (by omega) (by omega)
  simpa using this
/-! laws_markFloat32S: function 25 -/
def E_laws_markFloat32S : Env := envOf []
def F_laws_markFloat32S : List Value → AHeap → (Value → AHeap → Prop) → Prop
  | [.slice a_a a_n a_e, .int .i64 k], H, K => T_laws_markFloat32S a_a a_n a_e k H fun (r1 : Int) (H' : AHeap) => K (.int .i64 r1) H'
  | _, _, _ => False
def S_laws_markFloat32S : FSpec := { F := F_laws_markFloat32S, quiet := false, tame := false }
theorem laws_markFloat32S_vc (a_a : Option Addr) (a_n : Nat) (a_e : Nat) (k : Int) (H : AHeap) (K : Value → AHeap → Prop) : bodyK Try.prog E_laws_markFloat32S Try.f25 [.slice a_a a_n a_e, .int .i64 k] H K =
  (loopK (exK Try.prog E_laws_markFloat32S (cl (cl (cr (cl (cr (bodyC Try.f25))))))) [.slice a_a a_n a_e, .int .i64 k, undef, undef, .int .i64 0, .int .i64 0, undef, undef, undef, undef, undef, undef, undef, undef, undef, undef, undef, undef, undef, undef] H (blockQ 0 (seqQ (exK Try.prog E_laws_markFloat32S (cr (cr (bodyC Try.f25)))) (retK Try.prog Try.f25 K)))) := by kernel_rfl
theorem laws_markFloat32S_r1 (a_a : Option Addr) (a_e : Nat) (a_n : Nat) (k_1 : Int) (i : Int) (g6 g7 g8 g9 g10 g11 g12 g13 g14 g15 g16 g17 g18 : Value) (H : AHeap) (R : Post) : exK Try.prog E_laws_markFloat32S (cl (cl (cr (cl (cr (bodyC Try.f25)))))) [.slice a_a a_n a_e, .int .i64 k_1, undef, undef, .int .i64 0, .int .i64 i, g6, g7, g8, g9, g10, g11, g12, g13, g14, g15, g16, g17, g18, undef] H R =
  (Br (decide ((i : Int) < (a_n : Int))) ((0 : Int) ≤ i ∧ i < (a_n : Int) ∧ ∃ b1 f1, (a_a : Option Addr) = some ⟨b1, f1, none⟩ ∧ isOwn H b1 ∧ (∃ l, rdN H b1 (f1 + (i : Int).toNat * 1) 1 = some l) ∧ Lt (setC H b1 (f1 + (i : Int).toNat * 1) (.float .f32 (FloatKind.nearest .f32 k_1))) fun H1 => R .normal [.slice a_a a_n a_e, .int .i64 (IntKind.wrap .i64 (k_1 + 1)), undef, undef, .int .i64 0, .int .i64 (IntKind.wrap .i64 (i + 1)), .int .i64 i, .slice a_a a_n a_e, .int .i64 (a_n : Int), .bool (decide ((i : Int) < (a_n : Int))), .int .i64 i, .int .i64 (IntKind.wrap .i64 (i + 1)), .slice a_a a_n a_e, .int .i64 i, .int .i64 k_1, .float .f32 (FloatKind.nearest .f32 k_1), .pointer (some ⟨b1, f1 + (i : Int).toNat * 1, none⟩), .int .i64 k_1, .int .i64 (IntKind.wrap .i64 (k_1 + 1)), undef] H1) (R (.exit 0) [.slice a_a a_n a_e, .int .i64 k_1, undef, undef, .int .i64 0, .int .i64 i, .int .i64 i, .slice a_a a_n a_e, .int .i64 (a_n : Int), .bool (decide ((i : Int) < (a_n : Int))), g10, g11, g12, g13, g14, g15, g16, g17, g18, undef] H)) := by kernel_rfl
def laws_markFloat32S_I1 (a_a : Option Addr) (a_e : Nat) (a_n : Nat) (Inv : Nat → Int → Int → AHeap → Prop) : Nat → List Value → AHeap → Prop := fun μ tm H => ∃ (k_1 : Int), ∃ (i : Int), ∃ g6 g7 g8 g9 g10 g11 g12 g13 g14 g15 g16 g17 g18, tm = [.slice a_a a_n a_e, .int .i64 k_1, undef, undef, .int .i64 0, .int .i64 i, g6, g7, g8, g9, g10, g11, g12, g13, g14, g15, g16, g17, g18, undef] ∧ Inv μ k_1 i H
theorem laws_markFloat32S_L1 (a_a : Option Addr) (a_e : Nat) (a_n : Nat) {Q : Post} (Inv : Nat → Int → Int → AHeap → Prop) (ν : Nat) (k_1 : Int) (i : Int) (g6 g7 g8 g9 g10 g11 g12 g13 g14 g15 g16 g17 g18 : Value) (H : AHeap) (h0 : Inv ν k_1 i H)
    (hs : ∀ (μ : Nat) (k_1 : Int) (i : Int) (g6 g7 g8 g9 g10 g11 g12 g13 g14 g15 g16 g17 g18 : Value) (H : AHeap), Inv μ k_1 i H → exK Try.prog E_laws_markFloat32S (cl (cl (cr (cl (cr (bodyC Try.f25)))))) [.slice a_a a_n a_e, .int .i64 k_1, undef, undef, .int .i64 0, .int .i64 i, g6, g7, g8, g9, g10, g11, g12, g13, g14, g15, g16, g17, g18, undef] H (loopQ (laws_markFloat32S_I1 a_a a_e a_n Inv) μ Q)) : loopK (exK Try.prog E_laws_markFloat32S (cl (cl (cr (cl (cr (bodyC Try.f25))))))) [.slice a_a a_n a_e, .int .i64 k_1, undef, undef, .int .i64 0, .int .i64 i, g6, g7, g8, g9, g10, g11, g12, g13, g14, g15, g16, g17, g18, undef] H Q :=
  ⟨laws_markFloat32S_I1 a_a a_e a_n Inv, ν, ⟨k_1, i, g6, g7, g8, g9, g10, g11, g12, g13, g14, g15, g16, g17, g18, rfl, h0⟩, fun μ tm H h => by obtain ⟨k_1, i, g6, g7, g8, g9, g10, g11, g12, g13, g14, g15, g16, g17, g18, rfl, hI⟩ := h; exact hs μ k_1 i g6 g7 g8 g9 g10 g11 g12 g13 g14 g15 g16 g17 g18 H hI⟩
theorem laws_markFloat32S_n1 {a_a : Option Addr} {a_e : Nat} {a_n : Nat} {Q : Post} {Inv : Nat → Int → Int → AHeap → Prop} {μ : Nat} (μ' : Nat) {k_1 : Int} {i : Int} {g6 g7 g8 g9 g10 g11 g12 g13 g14 g15 g16 g17 g18 : Value} {H : AHeap} (hm : μ' < μ) (hI : Inv μ' k_1 i H) : loopQ (laws_markFloat32S_I1 a_a a_e a_n Inv) μ Q .normal [.slice a_a a_n a_e, .int .i64 k_1, undef, undef, .int .i64 0, .int .i64 i, g6, g7, g8, g9, g10, g11, g12, g13, g14, g15, g16, g17, g18, undef] H := ⟨μ', hm, k_1, i, g6, g7, g8, g9, g10, g11, g12, g13, g14, g15, g16, g17, g18, rfl, hI⟩
theorem laws_markFloat32S_x1_0 (a_a : Option Addr) (a_e : Nat) (a_n : Nat) (k_1 : Int) (i : Int) (g6 g7 g8 g9 g10 g11 g12 g13 g14 g15 g16 g17 g18 : Value) (H : AHeap) (K : Value → AHeap → Prop)  {I : Nat → List Value → AHeap → Prop} {μ : Nat} : loopQ I μ (blockQ 0 (seqQ (exK Try.prog E_laws_markFloat32S (cr (cr (bodyC Try.f25)))) (retK Try.prog Try.f25 K))) (.exit 0) [.slice a_a a_n a_e, .int .i64 k_1, undef, undef, .int .i64 0, .int .i64 i, g6, g7, g8, g9, g10, g11, g12, g13, g14, g15, g16, g17, g18, undef] H =
  (K (.int .i64 k_1) H) := by kernel_rfl
theorem E_laws_markFloat32S_ok : ∀ g, FnOk Try.prog g (E_laws_markFloat32S g) := FnOk.envOf (by
  intro x hx; cases hx)
set_option maxHeartbeats 1000000 in
theorem laws_markFloat32S_main (a_a : Option Addr) (a_n : Nat) (a_e : Nat) (k : Int) (H : AHeap) (K : Value → AHeap → Prop) (h : T_laws_markFloat32S a_a a_n a_e k H fun (r1 : Int) (H' : AHeap) => K (.int .i64 r1) H') : bodyK Try.prog E_laws_markFloat32S Try.f25 [.slice a_a a_n a_e, .int .i64 k] H K := by
  rw [laws_markFloat32S_vc]
  obtain ⟨lo, l_a, i_a, bd_17, hk⟩ := h
  have hk : (∀ H' : AHeap, KeepA a_a H H' → OwnS fF H' lo a_a a_n a_e ((p_laws_markFloat32S l_a k).2) → (fun (r1 : Int) (H' : AHeap) => K (.int .i64 r1) H') ((p_laws_markFloat32S l_a k).1) H') := by rw [laws_markFloat32S_val l_a k]; exact hk
  obtain rfl := i_a.len
  have up_m := i_a.up
  have lo_m := i_a.lo
  have e : (p_laws_markFloat32S l_a k) = _ := rfl
  have e := e.trans (p_laws_markFloat32S_eq l_a k)
  have g0 := KeepA.refl a_a H
  refine laws_markFloat32S_L1 _ _ _ (fun (μ : Nat) (k_1 : Int) (i : Int) (H_1 : AHeap) => ∃ (y1_1 : List Nat), OwnS fF H_1 lo a_a l_a.length a_e y1_1 ∧ y1_1.length = (l_a).length ∧ KeepA a_a H H_1 ∧ (0 : Int) ≤ i ∧ i ≤ (l_a.length : Int) ∧ (l_a.length : Int) - i ≤ (μ : Int) ∧ p_laws_markFloat32S l_a k = p_laws_markFloat32S_l1 l_a k (μ + 1) k_1 i y1_1) (Int.toNat ((l_a.length : Int) - (0 : Int))) _ _ _ _ _ _ _ _ _ _ _ _ _ _ _ H ?_ ?_
  · exact ⟨_, i_a, (by first | rfl | (simp; done)), g0, (by first | omega | (simp; done) | (simp; omega)), (by first | omega | (simp; done) | (simp; omega)), (by omega), e⟩
  · intro μ k_1 i g6 g7 g8 g9 g10 g11 g12 g13 g14 g15 g16 g17 g18 H_1 hI
    obtain ⟨y1_1, r_1, y_2, g_3, v_4, v_5, hμ, e⟩ := hI
    rw [laws_markFloat32S_r1]
    have e := e.trans (p_laws_markFloat32S_l1_s l_a k μ k_1 i y1_1)
    have l_6 := g_3.1
    refine Br.intro (fun c_7 => ?_) (fun c_7 => ?_)
    · have e := e.trans (cond_t c_7)
      have c_7' := of_decide_eq_true c_7
      obtain ⟨b_8, f_9, q_10⟩ := (r_1.isL).pos (by first | omega | (simp only [List.length_set, List.length_replicate, List.length_append, List.length_cons, List.length_nil, List.length_take, List.length_drop, marks_length]; done) | (simp only [List.length_set, List.length_replicate, List.length_append, List.length_cons, List.length_nil, List.length_take, List.length_drop, marks_length]; omega))
      refine ⟨by omega, by omega, b_8, f_9, q_10, ?_⟩
      refine Lt.setS r_1 q_10 (by first | omega | (simp only [List.length_set]; (first | omega | (simp only [List.length_set, List.length_replicate, List.length_append, List.length_cons, List.length_nil, List.length_take, List.length_drop, marks_length]; done) | (simp only [List.length_set, List.length_replicate, List.length_append, List.length_cons, List.length_nil, List.length_take, List.length_drop, marks_length]; omega)))) (fun H_2 hl_11 o_13 k_12 => ?_)
      have l_14 := k_12.1
      have g_15 := g_3.transA k_12
      have l_16 := g_15.1
      rw [show IntKind.wrap .i64 (i + 1) = (i + 1) from wrap64 (by omega) (by omega)]
      refine laws_markFloat32S_n1 (μ - 1) (by omega) ⟨_, o_13, (by first | assumption | omega | (simp only [List.length_set]; first | rfl | assumption | omega)), g_15, (by first | omega | (simp only [List.length_append, List.length_cons, List.length_nil, List.length_set]; done) | (simp only [List.length_append, List.length_cons, List.length_nil, List.length_set]; omega)), (by first | omega | (simp only [List.length_append, List.length_cons, List.length_nil, List.length_set]; done) | (simp only [List.length_append, List.length_cons, List.length_nil, List.length_set]; omega)), (by omega), (by rw [show μ - 1 + 1 = μ from by omega]; exact e)⟩
    · have e := e.trans (cond_f c_7)
      have c_7' := of_decide_eq_false c_7
      rw [laws_markFloat32S_x1_0]
      rw [e] at hk
      exact hk H_1 g_3 r_1
theorem laws_markFloat32S_ok : FnOk Try.prog 25 S_laws_markFloat32S := by
  refine FnOk.body mix_ok E_laws_markFloat32S_ok Try.func25 rfl (by kernel_rfl) (by kernel_rfl) ?_ ?_ ?_ ?_ ?_
  · intro args H K K' h hk
    simp only [S_laws_markFloat32S] at *
    unfold F_laws_markFloat32S at *
    split at hk
    · obtain ⟨lo, l_a, i_a, bd_17, k⟩ := hk
      exact ⟨lo, l_a, i_a, bd_17, (fun H' gg ow => h _ _ (k H' gg ow))⟩
    · exact hk.elim
  · intro hq; cases hq
  · intro args H K hk
    simp only [S_laws_markFloat32S] at *
    unfold F_laws_markFloat32S at *
    split at hk
    · obtain ⟨lo, l_a, i_a, bd_17, k⟩ := hk
      exact (OwnS.put i_a _ (by rw [marks_length])).elim fun H1 h => ⟨_, _, k H1 h.1 h.2⟩
    · exact hk.elim
  · intro hq; cases hq
  · have mm := @laws_markFloat32S_main
    revert mm
    generalize bodyK Try.prog E_laws_markFloat32S Try.f25 = Q
    intro mm args H K hk
    simp only [S_laws_markFloat32S] at *
    unfold F_laws_markFloat32S at *
    split at hk
    · exact mm _ _ _ _ H K hk
    · exact hk.elim
def p_laws_heldFloat32S_l1 (l_a : List Nat) (k : Int) : Nat → Int → Int → Int → Int
  | 0, _, _, _ => 0
  | μ + 1, k_1, t4, i => (bif decide ((i : Int) < (l_a.length : Int)) then (bif !(feq .f32 (((l_a).getD (i : Int).toNat 0)) (FloatKind.nearest .f32 k_1)) then ((-1) : Int) else (p_laws_heldFloat32S_l1 l_a k μ (IntKind.wrap .i64 (k_1 + 1)) t4 (i + 1))) else k_1)
theorem p_laws_heldFloat32S_l1_s (l_a : List Nat) (k : Int) (μ : Nat) (k_1 : Int) (t4 : Int) (i : Int) : p_laws_heldFloat32S_l1 l_a k (μ + 1) k_1 t4 i = (bif decide ((i : Int) < (l_a.length : Int)) then (bif !(feq .f32 (((l_a).getD (i : Int).toNat 0)) (FloatKind.nearest .f32 k_1)) then ((-1) : Int) else (p_laws_heldFloat32S_l1 l_a k μ (IntKind.wrap .i64 (k_1 + 1)) t4 (i + 1))) else k_1) := rfl
def p_laws_heldFloat32S (l_a : List Nat) (k : Int) : Int := (p_laws_heldFloat32S_l1 l_a k (Int.toNat ((l_a.length : Int) - (0 : Int)) + 1) k (0 : Int) (0 : Int))
theorem p_laws_heldFloat32S_eq (l_a : List Nat) (k : Int) : p_laws_heldFloat32S l_a k = (p_laws_heldFloat32S_l1 l_a k (Int.toNat ((l_a.length : Int) - (0 : Int)) + 1) k (0 : Int) (0 : Int)) := rfl
def T_laws_heldFloat32S (a_a : Option Addr) (a_n : Nat) (a_e : Nat) (k : Int) (H : AHeap) (K : Int → AHeap → Prop) : Prop := ∃ (l_a : List Nat), IsL fF H a_a a_n l_a ∧ l_a.length < 1073741824 ∧ K (p_laws_heldFloat32S l_a k) H
theorem T_laws_heldFloat32S_i {a_a : Option Addr} {a_n : Nat} {a_e : Nat} {k : Int} {H : AHeap} {K : Int → AHeap → Prop} (h : ∃ (l_a : List Nat), IsL fF H a_a a_n l_a ∧ l_a.length < 1073741824 ∧ K (p_laws_heldFloat32S l_a k) H) : T_laws_heldFloat32S a_a a_n a_e k H K := h
theorem laws_heldFloat32S_go (k0 : Int) : ∀ (μ : Nat) (i : Nat) (pre : List Nat) (k t : Int) (n : Nat), pre.length = i → n < μ →
    p_laws_heldFloat32S_l1 (pre ++ marks (FloatKind.nearest .f32) k n) k0 μ k t (i : Int) = wk k n := by
  intro μ
  induction μ with
  | zero => intro i pre k t n _ h; omega
  | succ μ ih =>
    intro i pre k t n hp hm
    rw [p_laws_heldFloat32S_l1_s]
    have hl : (pre ++ marks (FloatKind.nearest .f32) k n).length = i + n := by rw [List.length_append, hp, marks_length]
    rw [hl]
    cases n with
    | zero => rw [decide_eq_false (show ¬ (i : Int) < ((i + 0 : Nat) : Int) by omega), cond_false]; rfl
    | succ n =>
      rw [decide_eq_true (show (i : Int) < ((i + (n + 1) : Nat) : Int) by omega), cond_true, Int.toNat_natCast]
      have hx : (pre ++ marks (FloatKind.nearest .f32) k (n + 1)).getD i 0 = (FloatKind.nearest .f32) k := by
        rw [List.getD_eq_getElem?_getD, List.getElem?_append_right (by omega), hp, Nat.sub_self]; rfl
      rw [hx]
      have hq : (!(feq .f32 (FloatKind.nearest .f32 k) (FloatKind.nearest .f32 k))) = false := by rw [feq_nearest]; rfl
      simp only [hq, cond_false]
      have := ih (i + 1) (pre ++ [(FloatKind.nearest .f32) k]) (IntKind.wrap .i64 (k + 1)) t n (by simp [hp]) (by omega)
      rw [List.append_assoc] at this
      rw [wk]; exact this
theorem laws_heldFloat32S_marks (k : Int) (n : Nat) : p_laws_heldFloat32S (marks (FloatKind.nearest .f32) k n) k = wk k n := by
  rw [p_laws_heldFloat32S_eq]
  have := laws_heldFloat32S_go k (Int.toNat (((marks (FloatKind.nearest .f32) k n).length : Int) - 0) + 1) 0 [] k 0 n rfl (by rw [marks_length]; omega)
  simpa using this
/-! laws_heldFloat32S: function 43 -/
def E_laws_heldFloat32S : Env := envOf []
def F_laws_heldFloat32S : List Value → AHeap → (Value → AHeap → Prop) → Prop
  | [.slice a_a a_n a_e, .int .i64 k], H, K => T_laws_heldFloat32S a_a a_n a_e k H fun (r1 : Int) (H' : AHeap) => K (.int .i64 r1) H'
  | _, _, _ => False
def S_laws_heldFloat32S : FSpec := { F := F_laws_heldFloat32S, quiet := true, tame := false }
theorem laws_heldFloat32S_vc (a_a : Option Addr) (a_n : Nat) (a_e : Nat) (k : Int) (H : AHeap) (K : Value → AHeap → Prop) : bodyK Try.prog E_laws_heldFloat32S Try.f43 [.slice a_a a_n a_e, .int .i64 k] H K =
  (loopK (exK Try.prog E_laws_heldFloat32S (cl (cl (cr (cl (cr (bodyC Try.f43))))))) [.slice a_a a_n a_e, .int .i64 k, undef, undef, .int .i64 0, .int .i64 0, undef, undef, undef, undef, undef, undef, undef, undef, undef, undef, undef, undef, undef, undef, undef, undef] H (blockQ 0 (seqQ (exK Try.prog E_laws_heldFloat32S (cr (cr (bodyC Try.f43)))) (retK Try.prog Try.f43 K)))) := by kernel_rfl
theorem laws_heldFloat32S_r1 (a_a : Option Addr) (a_e : Nat) (a_n : Nat) (k_1 : Int) (t4 : Int) (i : Int) (g6 g7 g8 g9 g10 g11 g12 g13 g14 g15 g16 g17 g18 g19 g20 : Value) (H : AHeap) (R : Post) : exK Try.prog E_laws_heldFloat32S (cl (cl (cr (cl (cr (bodyC Try.f43)))))) [.slice a_a a_n a_e, .int .i64 k_1, undef, undef, .int .i64 t4, .int .i64 i, g6, g7, g8, g9, g10, g11, g12, g13, g14, g15, g16, g17, g18, g19, g20, undef] H R =
  (Br (decide ((i : Int) < (a_n : Int))) ((0 : Int) ≤ i ∧ i < (a_n : Int) ∧ ∃ b1 f1, (a_a : Option Addr) = some ⟨b1, f1, none⟩ ∧ ∃ x1 : Nat,  rdC H b1 (f1 + (i : Int).toNat * 1) = some (.float .f32 x1) ∧ Br (!(feq .f32 x1 (FloatKind.nearest .f32 k_1))) (R .ret [.slice a_a a_n a_e, .int .i64 k_1, undef, undef, .int .i64 (-1), .int .i64 i, .int .i64 i, .slice a_a a_n a_e, .int .i64 (a_n : Int), .bool (decide ((i : Int) < (a_n : Int))), g10, g11, .slice a_a a_n a_e, .int .i64 i, .pointer (some ⟨b1, f1 + (i : Int).toNat * 1, none⟩), .float .f32 x1, .int .i64 k_1, .float .f32 (FloatKind.nearest .f32 k_1), .bool (!(feq .f32 x1 (FloatKind.nearest .f32 k_1))), g19, g20, undef] H) (R .normal [.slice a_a a_n a_e, .int .i64 (IntKind.wrap .i64 (k_1 + 1)), undef, undef, .int .i64 t4, .int .i64 (IntKind.wrap .i64 (i + 1)), .int .i64 i, .slice a_a a_n a_e, .int .i64 (a_n : Int), .bool (decide ((i : Int) < (a_n : Int))), .int .i64 i, .int .i64 (IntKind.wrap .i64 (i + 1)), .slice a_a a_n a_e, .int .i64 i, .pointer (some ⟨b1, f1 + (i : Int).toNat * 1, none⟩), .float .f32 x1, .int .i64 k_1, .float .f32 (FloatKind.nearest .f32 k_1), .bool (!(feq .f32 x1 (FloatKind.nearest .f32 k_1))), .int .i64 k_1, .int .i64 (IntKind.wrap .i64 (k_1 + 1)), undef] H)) (R (.exit 0) [.slice a_a a_n a_e, .int .i64 k_1, undef, undef, .int .i64 t4, .int .i64 i, .int .i64 i, .slice a_a a_n a_e, .int .i64 (a_n : Int), .bool (decide ((i : Int) < (a_n : Int))), g10, g11, g12, g13, g14, g15, g16, g17, g18, g19, g20, undef] H)) := by kernel_rfl
def laws_heldFloat32S_I1 (a_a : Option Addr) (a_e : Nat) (a_n : Nat) (Inv : Nat → Int → Int → Int → AHeap → Prop) : Nat → List Value → AHeap → Prop := fun μ tm H => ∃ (k_1 : Int), ∃ (t4 : Int), ∃ (i : Int), ∃ g6 g7 g8 g9 g10 g11 g12 g13 g14 g15 g16 g17 g18 g19 g20, tm = [.slice a_a a_n a_e, .int .i64 k_1, undef, undef, .int .i64 t4, .int .i64 i, g6, g7, g8, g9, g10, g11, g12, g13, g14, g15, g16, g17, g18, g19, g20, undef] ∧ Inv μ k_1 t4 i H
theorem laws_heldFloat32S_L1 (a_a : Option Addr) (a_e : Nat) (a_n : Nat) {Q : Post} (Inv : Nat → Int → Int → Int → AHeap → Prop) (ν : Nat) (k_1 : Int) (t4 : Int) (i : Int) (g6 g7 g8 g9 g10 g11 g12 g13 g14 g15 g16 g17 g18 g19 g20 : Value) (H : AHeap) (h0 : Inv ν k_1 t4 i H)
    (hs : ∀ (μ : Nat) (k_1 : Int) (t4 : Int) (i : Int) (g6 g7 g8 g9 g10 g11 g12 g13 g14 g15 g16 g17 g18 g19 g20 : Value) (H : AHeap), Inv μ k_1 t4 i H → exK Try.prog E_laws_heldFloat32S (cl (cl (cr (cl (cr (bodyC Try.f43)))))) [.slice a_a a_n a_e, .int .i64 k_1, undef, undef, .int .i64 t4, .int .i64 i, g6, g7, g8, g9, g10, g11, g12, g13, g14, g15, g16, g17, g18, g19, g20, undef] H (loopQ (laws_heldFloat32S_I1 a_a a_e a_n Inv) μ Q)) : loopK (exK Try.prog E_laws_heldFloat32S (cl (cl (cr (cl (cr (bodyC Try.f43))))))) [.slice a_a a_n a_e, .int .i64 k_1, undef, undef, .int .i64 t4, .int .i64 i, g6, g7, g8, g9, g10, g11, g12, g13, g14, g15, g16, g17, g18, g19, g20, undef] H Q :=
  ⟨laws_heldFloat32S_I1 a_a a_e a_n Inv, ν, ⟨k_1, t4, i, g6, g7, g8, g9, g10, g11, g12, g13, g14, g15, g16, g17, g18, g19, g20, rfl, h0⟩, fun μ tm H h => by obtain ⟨k_1, t4, i, g6, g7, g8, g9, g10, g11, g12, g13, g14, g15, g16, g17, g18, g19, g20, rfl, hI⟩ := h; exact hs μ k_1 t4 i g6 g7 g8 g9 g10 g11 g12 g13 g14 g15 g16 g17 g18 g19 g20 H hI⟩
theorem laws_heldFloat32S_n1 {a_a : Option Addr} {a_e : Nat} {a_n : Nat} {Q : Post} {Inv : Nat → Int → Int → Int → AHeap → Prop} {μ : Nat} (μ' : Nat) {k_1 : Int} {t4 : Int} {i : Int} {g6 g7 g8 g9 g10 g11 g12 g13 g14 g15 g16 g17 g18 g19 g20 : Value} {H : AHeap} (hm : μ' < μ) (hI : Inv μ' k_1 t4 i H) : loopQ (laws_heldFloat32S_I1 a_a a_e a_n Inv) μ Q .normal [.slice a_a a_n a_e, .int .i64 k_1, undef, undef, .int .i64 t4, .int .i64 i, g6, g7, g8, g9, g10, g11, g12, g13, g14, g15, g16, g17, g18, g19, g20, undef] H := ⟨μ', hm, k_1, t4, i, g6, g7, g8, g9, g10, g11, g12, g13, g14, g15, g16, g17, g18, g19, g20, rfl, hI⟩
theorem laws_heldFloat32S_x1_0 (a_a : Option Addr) (a_e : Nat) (a_n : Nat) (k_1 : Int) (t4 : Int) (i : Int) (g6 g7 g8 g9 g10 g11 g12 g13 g14 g15 g16 g17 g18 g19 g20 : Value) (H : AHeap) (K : Value → AHeap → Prop)  {I : Nat → List Value → AHeap → Prop} {μ : Nat} : loopQ I μ (blockQ 0 (seqQ (exK Try.prog E_laws_heldFloat32S (cr (cr (bodyC Try.f43)))) (retK Try.prog Try.f43 K))) (.exit 0) [.slice a_a a_n a_e, .int .i64 k_1, undef, undef, .int .i64 t4, .int .i64 i, g6, g7, g8, g9, g10, g11, g12, g13, g14, g15, g16, g17, g18, g19, g20, undef] H =
  (K (.int .i64 k_1) H) := by kernel_rfl
theorem laws_heldFloat32S_x1_ret (a_a : Option Addr) (a_e : Nat) (a_n : Nat) (k_1 : Int) (t4 : Int) (i : Int) (g6 g7 g8 g9 g10 g11 g12 g13 g14 g15 g16 g17 g18 g19 g20 : Value) (H : AHeap) (K : Value → AHeap → Prop)  {I : Nat → List Value → AHeap → Prop} {μ : Nat} : loopQ I μ (blockQ 0 (seqQ (exK Try.prog E_laws_heldFloat32S (cr (cr (bodyC Try.f43)))) (retK Try.prog Try.f43 K))) .ret [.slice a_a a_n a_e, .int .i64 k_1, undef, undef, .int .i64 t4, .int .i64 i, g6, g7, g8, g9, g10, g11, g12, g13, g14, g15, g16, g17, g18, g19, g20, undef] H =
  (K (.int .i64 t4) H) := by kernel_rfl
theorem E_laws_heldFloat32S_ok : ∀ g, FnOk Try.prog g (E_laws_heldFloat32S g) := FnOk.envOf (by
  intro x hx; cases hx)
set_option maxHeartbeats 1000000 in
theorem laws_heldFloat32S_main (a_a : Option Addr) (a_n : Nat) (a_e : Nat) (k : Int) (H : AHeap) (K : Value → AHeap → Prop) (h : T_laws_heldFloat32S a_a a_n a_e k H fun (r1 : Int) (H' : AHeap) => K (.int .i64 r1) H') : bodyK Try.prog E_laws_heldFloat32S Try.f43 [.slice a_a a_n a_e, .int .i64 k] H K := by
  rw [laws_heldFloat32S_vc]
  obtain ⟨l_a, i_a, bd_9, hk⟩ := h
  obtain rfl := i_a.eqn
  have e : (p_laws_heldFloat32S l_a k) = _ := rfl
  have e := e.trans (p_laws_heldFloat32S_eq l_a k)
  have g0 := Grow.refl H
  refine laws_heldFloat32S_L1 _ _ _ (fun (μ : Nat) (k_1 : Int) (t4 : Int) (i : Int) (H_1 : AHeap) => H = H_1 ∧ (0 : Int) ≤ i ∧ i ≤ (l_a.length : Int) ∧ (l_a.length : Int) - i ≤ (μ : Int) ∧ p_laws_heldFloat32S l_a k = p_laws_heldFloat32S_l1 l_a k (μ + 1) k_1 t4 i) (Int.toNat ((l_a.length : Int) - (0 : Int))) _ _ _ _ _ _ _ _ _ _ _ _ _ _ _ _ _ _ H ?_ ?_
  · exact ⟨rfl, (by first | omega | (simp; done) | (simp; omega)), (by first | omega | (simp; done) | (simp; omega)), (by omega), e⟩
  · intro μ k_1 t4 i g6 g7 g8 g9 g10 g11 g12 g13 g14 g15 g16 g17 g18 g19 g20 H_1 hI
    obtain ⟨rfl, v_1, v_2, hμ, e⟩ := hI
    rw [laws_heldFloat32S_r1]
    have e := e.trans (p_laws_heldFloat32S_l1_s l_a k μ k_1 t4 i)
    have l_3 := g0.1
    refine Br.intro (fun c_4 => ?_) (fun c_4 => ?_)
    · have e := e.trans (cond_t c_4)
      have c_4' := of_decide_eq_true c_4
      obtain ⟨b_5, f_6, q_7⟩ := ((i_a.grow g0)).pos (by first | omega | (simp only [List.length_set, List.length_replicate, List.length_append, List.length_cons, List.length_nil, List.length_take, List.length_drop, marks_length]; done) | (simp only [List.length_set, List.length_replicate, List.length_append, List.length_cons, List.length_nil, List.length_take, List.length_drop, marks_length]; omega))
      refine ⟨by omega, by omega, b_5, f_6, q_7, ?_⟩
      refine ⟨((l_a).getD (i : Int).toNat 0), (i_a).rd g0 q_7 (by omega) _, ?_⟩
      refine Br.intro (fun c_8 => ?_) (fun c_8 => ?_)
      · have e := e.trans (cond_t c_8)
        have c_8n := nf_of_t c_8
        rw [laws_heldFloat32S_x1_ret]
        rw [e] at hk
        exact hk
      · have e := e.trans (cond_f c_8)
        have c_8n := nt_of_f c_8
        rw [show IntKind.wrap .i64 (i + 1) = (i + 1) from wrap64 (by omega) (by omega)]
        refine laws_heldFloat32S_n1 (μ - 1) (by omega) ⟨rfl, (by first | omega | (simp only [List.length_append, List.length_cons, List.length_nil, List.length_set]; done) | (simp only [List.length_append, List.length_cons, List.length_nil, List.length_set]; omega)), (by first | omega | (simp only [List.length_append, List.length_cons, List.length_nil, List.length_set]; done) | (simp only [List.length_append, List.length_cons, List.length_nil, List.length_set]; omega)), (by omega), (by rw [show μ - 1 + 1 = μ from by omega]; exact e)⟩
    · have e := e.trans (cond_f c_4)
      have c_4' := of_decide_eq_false c_4
      rw [laws_heldFloat32S_x1_0]
      rw [e] at hk
      exact hk
theorem laws_heldFloat32S_ok : FnOk Try.prog 43 S_laws_heldFloat32S := by
  refine FnOk.body mix_ok E_laws_heldFloat32S_ok Try.func43 rfl (by kernel_rfl) (by kernel_rfl) ?_ ?_ ?_ ?_ ?_
  · intro args H K K' h hk
    simp only [S_laws_heldFloat32S] at *
    unfold F_laws_heldFloat32S at *
    split at hk
    · obtain ⟨l_a, i_a, bd_9, k⟩ := hk
      exact ⟨l_a, i_a, bd_9, h _ _ k⟩
    · exact hk.elim
  · intro _ args H K hk
    simp only [S_laws_heldFloat32S] at *
    unfold F_laws_heldFloat32S at *
    split at hk
    · obtain ⟨l_a, i_a, bd_9, k⟩ := hk
      exact ⟨_, k, fun K' k' => ⟨l_a, i_a, bd_9, k'⟩⟩
    · exact hk.elim
  · intro args H K hk
    simp only [S_laws_heldFloat32S] at *
    unfold F_laws_heldFloat32S at *
    split at hk
    · obtain ⟨l_a, i_a, bd_9, k⟩ := hk
      exact ⟨_, _, k⟩
    · exact hk.elim
  · intro hq; cases hq
  · have mm := @laws_heldFloat32S_main
    revert mm
    generalize bodyK Try.prog E_laws_heldFloat32S Try.f43 = Q
    intro mm args H K hk
    simp only [S_laws_heldFloat32S] at *
    unfold F_laws_heldFloat32S at *
    split at hk
    · exact mm _ _ _ _ H K hk
    · exact hk.elim
def p_laws_FnExactShrinkList (l_aList : List Nat) (aLimit : Nat) (aHard : Bool) : Bool := (bif decide ((1048576 : Int) < (l_aList.length : Int)) then true else (bif !((p_laws_eqFloat32S ((p_impl_ShrinkList l_aList aLimit aHard).1) ((p_spec_ShrinkList l_aList aLimit aHard).1))) then false else (bif !(((p_impl_ShrinkList l_aList aLimit aHard).2) == ((p_spec_ShrinkList l_aList aLimit aHard).2)) then false else (bif !(p_laws_eqFloat32S l_aList l_aList) then false else (bif decide (((wk (1 : Int) l_aList.length) : Int) < 0) then false else (bif !((p_laws_eqFloat32S ((p_impl_ShrinkList l_aList aLimit aHard).1) ((p_spec_ShrinkList l_aList aLimit aHard).1))) then false else (bif !(((p_impl_ShrinkList l_aList aLimit aHard).2) == ((p_spec_ShrinkList l_aList aLimit aHard).2)) then false else (bif decide (((p_laws_heldFloat32S ((marks (FloatKind.nearest .f32) (1 : Int) ((p_impl_ShrinkList l_aList aLimit aHard).1).length)) (1 : Int)) : Int) < 0) then false else (bif ((p_laws_heldFloat32S ((marks (FloatKind.nearest .f32) (1 : Int) ((p_impl_ShrinkList l_aList aLimit aHard).1).length)) (1 : Int)) : Int) != (wk (1 : Int) ((p_impl_ShrinkList l_aList aLimit aHard).1).length) then false else (bif !((p_laws_eqFloat32S ((p_impl_ShrinkList l_aList aLimit aHard).1) ((p_spec_ShrinkList l_aList aLimit aHard).1))) then false else (bif !(((p_impl_ShrinkList l_aList aLimit aHard).2) == ((p_spec_ShrinkList l_aList aLimit aHard).2)) then false else (bif decide (((p_laws_heldFloat32S ((marks (FloatKind.nearest .f32) (1 : Int) ((p_impl_ShrinkList l_aList aLimit aHard).1).length)) (1 : Int)) : Int) < 0) then false else (bif ((p_laws_heldFloat32S ((marks (FloatKind.nearest .f32) (1 : Int) ((p_impl_ShrinkList l_aList aLimit aHard).1).length)) (1 : Int)) : Int) != (wk (1 : Int) ((p_impl_ShrinkList l_aList aLimit aHard).1).length) then false else true)))))))))))))
theorem p_laws_FnExactShrinkList_eq (l_aList : List Nat) (aLimit : Nat) (aHard : Bool) : p_laws_FnExactShrinkList l_aList aLimit aHard = (bif decide ((1048576 : Int) < (l_aList.length : Int)) then true else (bif !((p_laws_eqFloat32S ((p_impl_ShrinkList l_aList aLimit aHard).1) ((p_spec_ShrinkList l_aList aLimit aHard).1))) then false else (bif !(((p_impl_ShrinkList l_aList aLimit aHard).2) == ((p_spec_ShrinkList l_aList aLimit aHard).2)) then false else (bif !(p_laws_eqFloat32S l_aList l_aList) then false else (bif decide (((wk (1 : Int) l_aList.length) : Int) < 0) then false else (bif !((p_laws_eqFloat32S ((p_impl_ShrinkList l_aList aLimit aHard).1) ((p_spec_ShrinkList l_aList aLimit aHard).1))) then false else (bif !(((p_impl_ShrinkList l_aList aLimit aHard).2) == ((p_spec_ShrinkList l_aList aLimit aHard).2)) then false else (bif decide (((p_laws_heldFloat32S ((marks (FloatKind.nearest .f32) (1 : Int) ((p_impl_ShrinkList l_aList aLimit aHard).1).length)) (1 : Int)) : Int) < 0) then false else (bif ((p_laws_heldFloat32S ((marks (FloatKind.nearest .f32) (1 : Int) ((p_impl_ShrinkList l_aList aLimit aHard).1).length)) (1 : Int)) : Int) != (wk (1 : Int) ((p_impl_ShrinkList l_aList aLimit aHard).1).length) then false else (bif !((p_laws_eqFloat32S ((p_impl_ShrinkList l_aList aLimit aHard).1) ((p_spec_ShrinkList l_aList aLimit aHard).1))) then false else (bif !(((p_impl_ShrinkList l_aList aLimit aHard).2) == ((p_spec_ShrinkList l_aList aLimit aHard).2)) then false else (bif decide (((p_laws_heldFloat32S ((marks (FloatKind.nearest .f32) (1 : Int) ((p_impl_ShrinkList l_aList aLimit aHard).1).length)) (1 : Int)) : Int) < 0) then false else (bif ((p_laws_heldFloat32S ((marks (FloatKind.nearest .f32) (1 : Int) ((p_impl_ShrinkList l_aList aLimit aHard).1).length)) (1 : Int)) : Int) != (wk (1 : Int) ((p_impl_ShrinkList l_aList aLimit aHard).1).length) then false else true))))))))))))) := rfl
def T_laws_FnExactShrinkList (aList_a : Option Addr) (aList_n : Nat) (aList_e : Nat) (aLimit : Nat) (aHard : Bool) (H : AHeap) (K : Bool → AHeap → Prop) : Prop := ∃ l_aList : List Nat, IsL fF H aList_a aList_n l_aList ∧ (∀ y ∈ l_aList, W32 y) ∧ l_aList.length ≤ 9223372036854775807 ∧ W32 aLimit ∧ ∀ H' : AHeap, K true H'
theorem spec_fin (x : Nat) : p_spec_l01Finite x = fin .f32 x := fin_asked x
theorem impl_fin (x : Nat) : p_impl_IsFinite x = fin .f32 x := fin_asked x
theorem w32_wd {x : Nat} (h : W32 x) : Wd .f32 x := ⟨h.1, h.2⟩
theorem wd_w32 {x : Nat} (h : Wd .f32 x) : W32 x := ⟨h.1, h.2⟩
theorem size_same {x : Nat} (h : W32 x) : p_impl_size x = p_spec_l03Size x := size_two (w32_wd h)
theorem least_same (x : Nat) : p_impl_isLeast x = p_spec_l02Least x := rfl
theorem least_t {x : Nat} (h : p_spec_l02Least x = true) : fin .f32 x = true ∧ 0 ≤ sv .f32 x := by
  unfold p_spec_l02Least at h
  rw [spec_fin] at h
  cases hf : fin .f32 x
  · rw [hf] at h; cases h
  · rw [hf, cond_true, fle_fin (fin_zero _) hf, sv_zero] at h
    exact ⟨rfl, of_decide_eq_true h⟩
theorem soft_same {x y : Nat} (hx : W32 x) (hy : W32 y) (fx : fin .f32 x = true) (ly : p_spec_l02Least y = true) (h : flt .f32 y (p_spec_l03Size x) = true) :
    p_impl_softer x y = (bif flt .f32 x 0 then fneg .f32 (fsub .f32 (p_spec_l03Size x) y) else fsub .f32 (p_spec_l03Size x) y) := by
  obtain ⟨fy, py⟩ := least_t ly
  have wx := w32_wd hx
  have wy := w32_wd hy
  rw [← size_same hx] at h ⊢
  unfold p_impl_size at h ⊢
  unfold p_impl_softer
  have e1 : flt .f32 x 0 = decide (sv .f32 x < 0) := by rw [flt_fin fx (fin_zero _), sv_zero]
  have e2 : feq .f32 x 0 = decide (sv .f32 x = 0) := by rw [feq_fin fx (fin_zero _), sv_zero]
  rw [e1, e2] at h ⊢
  by_cases c : sv .f32 x < 0
  · rw [decide_eq_true c, cond_true] at h ⊢
    rw [flt_fin fy (fin_neg fx), sv_neg fx] at h
    have h := of_decide_eq_true h
    have e3 : flt .f32 y x = false := by rw [flt_fin fy fx]; exact decide_eq_false (by omega)
    have e4 : flt .f32 x (fneg .f32 y) = true := by rw [flt_fin fx (fin_neg fy), sv_neg fy]; exact decide_eq_true (by omega)
    rw [e3, e4, cond_false, cond_true, cond_true, fsub_neg (fin_nn fy)]
    rw [← fadd_negs (fin_neg fx) (fin_neg fy) (by rw [sv_neg fx, sv_neg fy]; omega), fneg_fneg wx, fneg_fneg wy]
  · rw [decide_eq_false c, cond_false] at h ⊢
    by_cases c2 : sv .f32 x = 0
    · rw [decide_eq_true c2, cond_true, flt_fin fy (fin_zero _), sv_zero] at h
      have h := of_decide_eq_true h
      omega
    · rw [decide_eq_false c2, cond_false] at h ⊢
      rw [h, cond_true, cond_false]
theorem shrunk_same {x y : Nat} (hard : Bool) (hx : W32 x) (hy : W32 y) (fx : fin .f32 x = true) (ly : p_spec_l02Least y = true) : p_impl_shrunk x y hard = p_spec_l05Shrink x y hard := by
  rw [p_impl_shrunk_eq, p_spec_l05Shrink_eq, size_same hx]
  cases h : flt .f32 y (p_spec_l03Size x)
  · rfl
  · cases hard
    · simp only [Bool.not_true, cond_false]
      exact soft_same hx hy fx ly h
    · rfl
theorem l02Finite_go (l : List Nat) : ∀ (μ : Nat) (t : Bool) (i : Nat), l.length - i < μ → p_spec_l02Finite_l1 l μ t (i : Int) = (l.drop i).all (fin .f32) := by
  intro μ
  induction μ with
  | zero => intro t i h; omega
  | succ μ ih =>
    intro t i hm
    rw [p_spec_l02Finite_l1_s]
    by_cases h : i < l.length
    · rw [decide_eq_true (show (i : Int) < (l.length : Int) by omega), cond_true, Int.toNat_natCast, spec_fin]
      rw [List.drop_eq_getElem_cons h, List.all_cons, List.getD_eq_getElem?_getD, List.getElem?_eq_getElem h, Option.getD_some]
      have := ih t (i + 1) (by omega)
      cases fin .f32 l[i]
      · rfl
      · simp only [Bool.not_true, cond_false, Bool.true_and]; exact this
    · rw [decide_eq_false (show ¬ (i : Int) < (l.length : Int) by omega), cond_false, List.drop_eq_nil_of_le (by omega)]; rfl
theorem l02Finite_all (l : List Nat) : p_spec_l02Finite l = l.all (fin .f32) := by
  rw [p_spec_l02Finite_eq]
  have := l02Finite_go l (Int.toNat ((l.length : Int) - (0 : Int)) + 1) false 0 (by omega)
  simpa using this
theorem areFinite_in (ls : List (List Nat)) (t2 : Bool) (t9 : Int) (k : Bool → Int → Bool) : ∀ (μ : Nat) (t : Bool) (i : Nat), i ≤ (ls.getD t9.toNat []).length → (ls.getD t9.toNat []).length - i < μ →
    p_impl_areFinite_l2 ls t2 t9 k μ t (i : Int) = bif ((ls.getD t9.toNat []).drop i).all (fin .f32) then k t ((ls.getD t9.toNat []).length : Int) else false := by
  intro μ
  generalize hl : ls.getD t9.toNat [] = l
  induction μ with
  | zero => intro t i _ h; omega
  | succ μ ih =>
    intro t i hi hm
    rw [p_impl_areFinite_l2_s, hl]
    by_cases h : i < l.length
    · rw [decide_eq_true (show (i : Int) < (l.length : Int) by omega), cond_true, Int.toNat_natCast, impl_fin]
      rw [List.drop_eq_getElem_cons h, List.all_cons, List.getD_eq_getElem?_getD, List.getElem?_eq_getElem h, Option.getD_some]
      have := ih t (i + 1) (by omega) (by omega)
      cases fin .f32 l[i]
      · rfl
      · simp only [Bool.not_true, cond_false, Bool.true_and]; exact this
    · rw [decide_eq_false (show ¬ (i : Int) < (l.length : Int) by omega), cond_false, List.drop_eq_nil_of_le (by omega), show i = l.length by omega]; rfl
theorem areFinite_go (ls : List (List Nat)) : ∀ (μ : Nat) (t : Bool) (i : Nat), ls.length - i < μ → p_impl_areFinite_l1 ls μ t (i : Int) = (ls.drop i).all (fun l => l.all (fin .f32)) := by
  intro μ
  induction μ with
  | zero => intro t i h; omega
  | succ μ ih =>
    intro t i hm
    rw [p_impl_areFinite_l1_s]
    by_cases h : i < ls.length
    · rw [decide_eq_true (show (i : Int) < (ls.length : Int) by omega), cond_true]
      have := areFinite_in ls t (i : Int) (fun t2 t15 => p_impl_areFinite_l1 ls μ t2 ((i : Int) + 1)) (Int.toNat ((((ls).getD ((i : Int) : Int).toNat []).length : Int) - (0 : Int)) + 1) t 0 (Nat.zero_le _) (by omega)
      refine Eq.trans this ?_
      rw [Int.toNat_natCast, List.drop_zero, List.drop_eq_getElem_cons h, List.all_cons, List.getD_eq_getElem?_getD, List.getElem?_eq_getElem h, Option.getD_some]
      have := ih t (i + 1) (by omega)
      cases ls[i].all (fin .f32)
      · rfl
      · simp only [cond_true, Bool.true_and]; exact this
    · rw [decide_eq_false (show ¬ (i : Int) < (ls.length : Int) by omega), cond_false, List.drop_eq_nil_of_le (by omega)]; rfl
theorem areFinite_all (ls : List (List Nat)) : p_impl_areFinite ls = ls.all (fun l => l.all (fin .f32)) := by
  rw [p_impl_areFinite_eq]
  have := areFinite_go ls (Int.toNat ((ls.length : Int) - (0 : Int)) + 1) false 0 (by omega)
  simpa using this
theorem finite_same (l : List Nat) : p_impl_areFinite [l] = p_spec_l02Finite l := by rw [areFinite_all, l02Finite_all]; simp
theorem long_same (l : List Nat) : p_impl_isLong l = p_spec_l03Long l := by
  rw [p_impl_isLong_eq, p_spec_l03Long_eq, finite_same]
  unfold p_impl_within
  cases decide ((1 : Int) ≤ (l.length : Int)) <;> cases decide (((l.length : Int) : Int) ≤ 128) <;> rfl
theorem long_t {l : List Nat} (h : p_spec_l03Long l = true) : 1 ≤ l.length ∧ l.length ≤ 128 ∧ l.all (fin .f32) = true := by
  rw [p_spec_l03Long_eq, l02Finite_all] at h
  by_cases h1 : (1 : Int) ≤ (l.length : Int)
  · rw [decide_eq_true h1, cond_true] at h
    by_cases h2 : (l.length : Int) ≤ 128
    · rw [decide_eq_true h2, cond_true] at h; exact ⟨by omega, by omega, h⟩
    · rw [decide_eq_false h2] at h; cases h
  · rw [decide_eq_false h1] at h; cases h
theorem fin_getD {l : List Nat} (h : l.all (fin .f32) = true) (i : Nat) : fin .f32 (l.getD i 0) = true := by
  rw [List.getD_eq_getElem?_getD]
  cases hx : l[i]? with
  | none => exact fin_zero _
  | some y => exact List.all_eq_true.1 h y (List.mem_of_getElem? hx)
theorem w32_zero : W32 0 := ⟨by decide, by decide +kernel⟩
theorem w32_getD {l : List Nat} (h : ∀ y ∈ l, W32 y) (i : Nat) : W32 (l.getD i 0) := by
  rw [List.getD_eq_getElem?_getD]
  cases hx : l[i]? with
  | none => exact w32_zero
  | some y => exact h y (List.mem_of_getElem? hx)
theorem wk_one {n : Nat} (h : n < 1073741824) : decide (wk 1 n < (0 : Int)) = false := by
  rw [wk_eq n 1 (by omega) (by omega)]; exact decide_eq_false (by omega)
theorem shrinkList_same {l : List Nat} {limit : Nat} (hard : Bool) (hw : ∀ y ∈ l, W32 y) (hy : W32 limit) : p_impl_ShrinkList l limit hard = p_spec_ShrinkList l limit hard := by
  rw [p_impl_ShrinkList_eq, p_spec_ShrinkList_eq, long_same, least_same]
  cases h : p_spec_l03Long l
  · rfl
  · cases ly : p_spec_l02Least limit
    · rfl
    · obtain ⟨h1, h2, h3⟩ := long_t h
      simp only [Bool.not_true, cond_false]
      rw [impl_shrunkList_map, spec_l05List_map]
      congr 1
      refine List.map_congr_left fun x hx => ?_
      exact shrunk_same hard (hw x hx) hy (List.all_eq_true.1 h3 x hx) ly
theorem laws_FnExactShrinkList_true (l_aList : List Nat) (aLimit : Nat) (aHard : Bool) (q0 : (∀ y ∈ l_aList, W32 y)) (q1 : W32 aLimit) : p_laws_FnExactShrinkList l_aList aLimit aHard = true := by
  rw [p_laws_FnExactShrinkList_eq, shrinkList_same aHard q0 q1]
  by_cases hL : (1048576 : Int) < (l_aList.length : Int)
  · rw [decide_eq_true hL]; rfl
  · have hr := spec_ShrinkList_len l_aList aLimit aHard
    rw [decide_eq_false hL, cond_false]
    simp only [laws_eqFloat32S_self, laws_heldFloat32S_marks, Bool.not_true, cond_false, beq_self_eq_true, bne_self_eq_false, wk_one (show l_aList.length < 1073741824 by omega), wk_one (show (p_spec_ShrinkList l_aList aLimit aHard).1.length < 1073741824 by omega)]
/-! laws_FnExactShrinkList: function 13 -/
def E_laws_FnExactShrinkList : Env := envOf [(22, S_laws_toFloat32S), (44, S_spec_ShrinkList), (45, S_impl_ShrinkList), (24, S_laws_eqFloat32S), (25, S_laws_markFloat32S), (43, S_laws_heldFloat32S)]
def F_laws_FnExactShrinkList : List Value → AHeap → (Value → AHeap → Prop) → Prop
  | [.slice aList_a aList_n aList_e, .float .f32 aLimit, .bool aHard], H, K => T_laws_FnExactShrinkList aList_a aList_n aList_e aLimit aHard H fun (r1 : Bool) (H' : AHeap) => K (.bool r1) H'
  | _, _, _ => False
def S_laws_FnExactShrinkList : FSpec := { F := F_laws_FnExactShrinkList, quiet := false, tame := false }
theorem laws_FnExactShrinkList_vc (aList_a : Option Addr) (aList_n : Nat) (aList_e : Nat) (aLimit : Nat) (aHard : Bool) (H : AHeap) (K : Value → AHeap → Prop) : bodyK Try.prog E_laws_FnExactShrinkList Try.f13 [.slice aList_a aList_n aList_e, .float .f32 aLimit, .bool aHard] H K =
  (Br (decide ((1048576 : Int) < (aList_n : Int))) (K (.bool true) H) (T_laws_toFloat32S aList_a aList_n aList_e H fun (a1 : Option Addr) (r1 : Nat) (r2 : Nat) (H1 : AHeap) => T_spec_ShrinkList a1 r1 r2 aLimit aHard H1 fun (a2 : Option Addr) (r3 : Nat) (r4 : Nat) (r5 : Bool) (H2 : AHeap) => T_laws_toFloat32S aList_a aList_n aList_e H2 fun (a3 : Option Addr) (r6 : Nat) (r7 : Nat) (H3 : AHeap) => T_impl_ShrinkList a3 r6 r7 aLimit aHard H3 fun (a4 : Option Addr) (r8 : Nat) (r9 : Nat) (r10 : Bool) (H4 : AHeap) => T_laws_eqFloat32S a4 r8 r9 a2 r3 r4 H4 fun (r11 : Bool) (H5 : AHeap) => Br (!r11) (K (.bool false) H5) (Br (!(r10 == r5)) (K (.bool false) H5) (T_laws_toFloat32S aList_a aList_n aList_e H5 fun (a5 : Option Addr) (r12 : Nat) (r13 : Nat) (H6 : AHeap) => T_laws_eqFloat32S a3 r6 r7 a5 r12 r13 H6 fun (r14 : Bool) (H7 : AHeap) => Br (!r14) (K (.bool false) H7) (T_laws_markFloat32S a3 r6 r7 1 H7 fun (r15 : Int) (H8 : AHeap) => Br (decide ((r15 : Int) < 0)) (K (.bool false) H8) (T_laws_eqFloat32S a4 r8 r9 a2 r3 r4 H8 fun (r16 : Bool) (H9 : AHeap) => Br (!r16) (K (.bool false) H9) (Br (!(r10 == r5)) (K (.bool false) H9) (T_laws_markFloat32S a4 r8 r9 1 H9 fun (r17 : Int) (H10 : AHeap) => T_laws_heldFloat32S a4 r8 r9 1 H10 fun (r18 : Int) (H11 : AHeap) => Br (decide ((r18 : Int) < 0)) (K (.bool false) H11) (Br ((r18 : Int) != r17) (K (.bool false) H11) (T_laws_toFloat32S aList_a aList_n aList_e H11 fun (a6 : Option Addr) (r19 : Nat) (r20 : Nat) (H12 : AHeap) => T_impl_ShrinkList a6 r19 r20 aLimit aHard H12 fun (a7 : Option Addr) (r21 : Nat) (r22 : Nat) (r23 : Bool) (H13 : AHeap) => T_laws_eqFloat32S a7 r21 r22 a2 r3 r4 H13 fun (r24 : Bool) (H14 : AHeap) => Br (!r24) (K (.bool false) H14) (Br (!(r23 == r5)) (K (.bool false) H14) (T_laws_heldFloat32S a4 r8 r9 1 H14 fun (r25 : Int) (H15 : AHeap) => Br (decide ((r25 : Int) < 0)) (K (.bool false) H15) (Br ((r25 : Int) != r17) (K (.bool false) H15) (K (.bool true) H15)))))))))))))) := by kernel_rfl
theorem E_laws_FnExactShrinkList_ok : ∀ g, FnOk Try.prog g (E_laws_FnExactShrinkList g) := FnOk.envOf (by
  intro x hx
  simp only [List.mem_cons, List.not_mem_nil, or_false] at hx
  rcases hx with rfl | rfl | rfl | rfl | rfl | rfl
  · exact laws_toFloat32S_ok
  · exact spec_ShrinkList_ok
  · exact impl_ShrinkList_ok
  · exact laws_eqFloat32S_ok
  · exact laws_markFloat32S_ok
  · exact laws_heldFloat32S_ok)
set_option maxHeartbeats 1000000 in
theorem laws_FnExactShrinkList_main (aList_a : Option Addr) (aList_n : Nat) (aList_e : Nat) (aLimit : Nat) (aHard : Bool) (H : AHeap) (K : Value → AHeap → Prop) (h : T_laws_FnExactShrinkList aList_a aList_n aList_e aLimit aHard H fun (r1 : Bool) (H' : AHeap) => K (.bool r1) H') : bodyK Try.prog E_laws_FnExactShrinkList Try.f13 [.slice aList_a aList_n aList_e, .float .f32 aLimit, .bool aHard] H K := by
  rw [laws_FnExactShrinkList_vc]
  obtain ⟨l_aList, h_0, h_1, h_2, h_3, hk⟩ := h
  have i_aList := h_0
  obtain rfl := i_aList.eqn
  have hl := laws_FnExactShrinkList_true l_aList aLimit aHard h_1 h_3
  have e : p_laws_FnExactShrinkList l_aList aLimit aHard = _ := rfl
  have e := e.trans (p_laws_FnExactShrinkList_eq l_aList aLimit aHard)
  have e := hl.symm.trans e
  have g0 := Grow.refl H
  refine Br.intro (fun c_1 => ?_) (fun c_1 => ?_)
  · have e := e.trans (cond_t c_1)
    have c_1' := of_decide_eq_true c_1
    first | exact hk _ | (exfalso; cases e; done) | (rw [← e]; exact hk _)
  · have e := e.trans (cond_f c_1)
    have c_1' := of_decide_eq_false c_1
    refine T_laws_toFloat32S_i ⟨_, (i_aList.grow g0), (by first | omega | (simp only [List.length_set, List.length_replicate, List.length_append, List.length_cons, List.length_nil, List.length_take, List.length_drop, marks_length]; done) | (simp only [List.length_set, List.length_replicate, List.length_append, List.length_cons, List.length_nil, List.length_take, List.length_drop, marks_length]; omega)), fun a_2 n_3 e_4 H_1 g_6 r_5 => ?_⟩
    have l_7 := g_6.1
    have g_8 := g0.trans g_6
    have l_9 := g_8.1
    obtain rfl := r_5.isL.eqn
    have u_10 := r_5.up
    have u_11 := r_5.lo
    refine T_spec_ShrinkList_i ⟨_, r_5.isL, (by first | omega | (simp only [List.length_set, List.length_replicate, List.length_append, List.length_cons, List.length_nil, List.length_take, List.length_drop, marks_length]; done) | (simp only [List.length_set, List.length_replicate, List.length_append, List.length_cons, List.length_nil, List.length_take, List.length_drop, marks_length]; omega)), fun a_13 n_14 e_15 H_2 g_18 r_16 => ?_⟩
    have z_17 := spec_ShrinkList_len l_aList aLimit aHard
    have l_19 := g_18.1
    have g_20 := g_8.trans g_18
    have l_21 := g_20.1
    have r_22 := r_5.grow g_18
    obtain rfl := r_16.isL.eqn
    have u_23 := r_16.up
    have u_24 := r_16.lo
    refine T_laws_toFloat32S_i ⟨_, (i_aList.grow g_20), (by first | omega | (simp only [List.length_set, List.length_replicate, List.length_append, List.length_cons, List.length_nil, List.length_take, List.length_drop, marks_length]; done) | (simp only [List.length_set, List.length_replicate, List.length_append, List.length_cons, List.length_nil, List.length_take, List.length_drop, marks_length]; omega)), fun a_26 n_27 e_28 H_3 g_30 r_29 => ?_⟩
    have l_31 := g_30.1
    have g_32 := g_20.trans g_30
    have l_33 := g_32.1
    have r_34 := r_22.grow g_30
    have r_35 := r_16.grow g_30
    obtain rfl := r_29.isL.eqn
    have u_36 := r_29.up
    have u_37 := r_29.lo
    refine T_impl_ShrinkList_i ⟨_, r_29.isL, (by first | omega | (simp only [List.length_set, List.length_replicate, List.length_append, List.length_cons, List.length_nil, List.length_take, List.length_drop, marks_length]; done) | (simp only [List.length_set, List.length_replicate, List.length_append, List.length_cons, List.length_nil, List.length_take, List.length_drop, marks_length]; omega)), fun a_39 n_40 e_41 H_4 g_44 r_42 => ?_⟩
    have z_43 := impl_ShrinkList_len l_aList aLimit aHard
    have l_45 := g_44.1
    have g_46 := g_32.trans g_44
    have l_47 := g_46.1
    have r_48 := r_34.grow g_44
    have r_49 := r_35.grow g_44
    have r_50 := r_29.grow g_44
    obtain rfl := r_42.isL.eqn
    have u_51 := r_42.up
    have u_52 := r_42.lo
    refine T_laws_eqFloat32S_i ⟨_, _, r_42.isL, r_49.isL, (by first | omega | (simp only [List.length_set, List.length_replicate, List.length_append, List.length_cons, List.length_nil, List.length_take, List.length_drop, marks_length]; done) | (simp only [List.length_set, List.length_replicate, List.length_append, List.length_cons, List.length_nil, List.length_take, List.length_drop, marks_length]; omega)), (by first | omega | (simp only [List.length_set, List.length_replicate, List.length_append, List.length_cons, List.length_nil, List.length_take, List.length_drop, marks_length]; done) | (simp only [List.length_set, List.length_replicate, List.length_append, List.length_cons, List.length_nil, List.length_take, List.length_drop, marks_length]; omega)), ?_⟩
    refine Br.intro (fun c_54 => ?_) (fun c_54 => ?_)
    · have e := e.trans (cond_t c_54)
      have c_54n := nf_of_t c_54
      first | exact hk _ | (exfalso; cases e; done) | (rw [← e]; exact hk _)
    · have e := e.trans (cond_f c_54)
      have c_54n := nt_of_f c_54
      refine Br.intro (fun c_55 => ?_) (fun c_55 => ?_)
      · have e := e.trans (cond_t c_55)
        have c_55n := nf_of_t c_55
        first | exact hk _ | (exfalso; cases e; done) | (rw [← e]; exact hk _)
      · have e := e.trans (cond_f c_55)
        have c_55n := nt_of_f c_55
        refine T_laws_toFloat32S_i ⟨_, (i_aList.grow g_46), (by first | omega | (simp only [List.length_set, List.length_replicate, List.length_append, List.length_cons, List.length_nil, List.length_take, List.length_drop, marks_length]; done) | (simp only [List.length_set, List.length_replicate, List.length_append, List.length_cons, List.length_nil, List.length_take, List.length_drop, marks_length]; omega)), fun a_56 n_57 e_58 H_5 g_60 r_59 => ?_⟩
        have l_61 := g_60.1
        have g_62 := g_46.trans g_60
        have l_63 := g_62.1
        have r_64 := r_48.grow g_60
        have r_65 := r_49.grow g_60
        have r_66 := r_50.grow g_60
        have r_67 := r_42.grow g_60
        obtain rfl := r_59.isL.eqn
        have u_68 := r_59.up
        have u_69 := r_59.lo
        refine T_laws_eqFloat32S_i ⟨_, _, r_66.isL, r_59.isL, (by first | omega | (simp only [List.length_set, List.length_replicate, List.length_append, List.length_cons, List.length_nil, List.length_take, List.length_drop, marks_length]; done) | (simp only [List.length_set, List.length_replicate, List.length_append, List.length_cons, List.length_nil, List.length_take, List.length_drop, marks_length]; omega)), (by first | omega | (simp only [List.length_set, List.length_replicate, List.length_append, List.length_cons, List.length_nil, List.length_take, List.length_drop, marks_length]; done) | (simp only [List.length_set, List.length_replicate, List.length_append, List.length_cons, List.length_nil, List.length_take, List.length_drop, marks_length]; omega)), ?_⟩
        refine Br.intro (fun c_71 => ?_) (fun c_71 => ?_)
        · have e := e.trans (cond_t c_71)
          have c_71n := nf_of_t c_71
          first | exact hk _ | (exfalso; cases e; done) | (rw [← e]; exact hk _)
        · have e := e.trans (cond_f c_71)
          have c_71n := nt_of_f c_71
          refine T_laws_markFloat32S_i ⟨_, _, r_66, (by first | omega | (simp only [List.length_set, List.length_replicate, List.length_append, List.length_cons, List.length_nil, List.length_take, List.length_drop, marks_length]; done) | (simp only [List.length_set, List.length_replicate, List.length_append, List.length_cons, List.length_nil, List.length_take, List.length_drop, marks_length]; omega)), (fun H_6 k_72 o_73 => ?_)⟩
          have l_74 := k_72.1
          have g_75 := g_62.keepA (fun x hx => by have := u_37 x hx; omega) k_72
          have l_76 := g_75.1
          have r_77 := r_64.keepA (fun x y hx hy => by have := u_37 x hx; have := u_36 x hx; have := u_11 y hy; have := u_10 y hy; omega) k_72
          have r_78 := r_65.keepA (fun x y hx hy => by have := u_37 x hx; have := u_36 x hx; have := u_24 y hy; have := u_23 y hy; omega) k_72
          have r_79 := r_67.keepA (fun x y hx hy => by have := u_37 x hx; have := u_36 x hx; have := u_52 y hy; have := u_51 y hy; omega) k_72
          have r_80 := r_59.keepA (fun x y hx hy => by have := u_37 x hx; have := u_36 x hx; have := u_69 y hy; have := u_68 y hy; omega) k_72
          refine Br.intro (fun c_81 => ?_) (fun c_81 => ?_)
          · have e := e.trans (cond_t c_81)
            have c_81' := of_decide_eq_true c_81
            first | exact hk _ | (exfalso; cases e; done) | (rw [← e]; exact hk _)
          · have e := e.trans (cond_f c_81)
            have c_81' := of_decide_eq_false c_81
            refine T_laws_eqFloat32S_i ⟨_, _, r_79.isL, r_78.isL, (by first | omega | (simp only [List.length_set, List.length_replicate, List.length_append, List.length_cons, List.length_nil, List.length_take, List.length_drop, marks_length]; done) | (simp only [List.length_set, List.length_replicate, List.length_append, List.length_cons, List.length_nil, List.length_take, List.length_drop, marks_length]; omega)), (by first | omega | (simp only [List.length_set, List.length_replicate, List.length_append, List.length_cons, List.length_nil, List.length_take, List.length_drop, marks_length]; done) | (simp only [List.length_set, List.length_replicate, List.length_append, List.length_cons, List.length_nil, List.length_take, List.length_drop, marks_length]; omega)), ?_⟩
            refine Br.intro (fun c_82 => ?_) (fun c_82 => ?_)
            · have e := e.trans (cond_t c_82)
              have c_82n := nf_of_t c_82
              first | exact hk _ | (exfalso; cases e; done) | (rw [← e]; exact hk _)
            · have e := e.trans (cond_f c_82)
              have c_82n := nt_of_f c_82
              refine Br.intro (fun c_83 => ?_) (fun c_83 => ?_)
              · have e := e.trans (cond_t c_83)
                have c_83n := nf_of_t c_83
                first | exact hk _ | (exfalso; cases e; done) | (rw [← e]; exact hk _)
              · have e := e.trans (cond_f c_83)
                have c_83n := nt_of_f c_83
                refine T_laws_markFloat32S_i ⟨_, _, r_79, (by first | omega | (simp only [List.length_set, List.length_replicate, List.length_append, List.length_cons, List.length_nil, List.length_take, List.length_drop, marks_length]; done) | (simp only [List.length_set, List.length_replicate, List.length_append, List.length_cons, List.length_nil, List.length_take, List.length_drop, marks_length]; omega)), (fun H_7 k_84 o_85 => ?_)⟩
                have l_86 := k_84.1
                have g_87 := g_75.keepA (fun x hx => by have := u_52 x hx; omega) k_84
                have l_88 := g_87.1
                have r_89 := r_77.keepA (fun x y hx hy => by have := u_52 x hx; have := u_51 x hx; have := u_11 y hy; have := u_10 y hy; omega) k_84
                have r_90 := r_78.keepA (fun x y hx hy => by have := u_52 x hx; have := u_51 x hx; have := u_24 y hy; have := u_23 y hy; omega) k_84
                have r_91 := o_73.keepA (fun x y hx hy => by have := u_52 x hx; have := u_51 x hx; have := u_37 y hy; have := u_36 y hy; omega) k_84
                have r_92 := r_80.keepA (fun x y hx hy => by have := u_52 x hx; have := u_51 x hx; have := u_69 y hy; have := u_68 y hy; omega) k_84
                refine T_laws_heldFloat32S_i ⟨_, o_85.isL, (by first | omega | (simp only [List.length_set, List.length_replicate, List.length_append, List.length_cons, List.length_nil, List.length_take, List.length_drop, marks_length]; done) | (simp only [List.length_set, List.length_replicate, List.length_append, List.length_cons, List.length_nil, List.length_take, List.length_drop, marks_length]; omega)), ?_⟩
                refine Br.intro (fun c_93 => ?_) (fun c_93 => ?_)
                · have e := e.trans (cond_t c_93)
                  have c_93' := of_decide_eq_true c_93
                  first | exact hk _ | (exfalso; cases e; done) | (rw [← e]; exact hk _)
                · have e := e.trans (cond_f c_93)
                  have c_93' := of_decide_eq_false c_93
                  refine Br.intro (fun c_94 => ?_) (fun c_94 => ?_)
                  · have e := e.trans (cond_t c_94)
                    have c_94' := ine_t c_94
                    first | exact hk _ | (exfalso; cases e; done) | (rw [← e]; exact hk _)
                  · have e := e.trans (cond_f c_94)
                    have c_94' := ine_f c_94
                    refine T_laws_toFloat32S_i ⟨_, (i_aList.grow g_87), (by first | omega | (simp only [List.length_set, List.length_replicate, List.length_append, List.length_cons, List.length_nil, List.length_take, List.length_drop, marks_length]; done) | (simp only [List.length_set, List.length_replicate, List.length_append, List.length_cons, List.length_nil, List.length_take, List.length_drop, marks_length]; omega)), fun a_95 n_96 e_97 H_8 g_99 r_98 => ?_⟩
                    have l_100 := g_99.1
                    have g_101 := g_87.trans g_99
                    have l_102 := g_101.1
                    have r_103 := r_89.grow g_99
                    have r_104 := r_90.grow g_99
                    have r_105 := r_91.grow g_99
                    have r_106 := o_85.grow g_99
                    have r_107 := r_92.grow g_99
                    obtain rfl := r_98.isL.eqn
                    have u_108 := r_98.up
                    have u_109 := r_98.lo
                    refine T_impl_ShrinkList_i ⟨_, r_98.isL, (by first | omega | (simp only [List.length_set, List.length_replicate, List.length_append, List.length_cons, List.length_nil, List.length_take, List.length_drop, marks_length]; done) | (simp only [List.length_set, List.length_replicate, List.length_append, List.length_cons, List.length_nil, List.length_take, List.length_drop, marks_length]; omega)), fun a_111 n_112 e_113 H_9 g_116 r_114 => ?_⟩
                    have z_115 := impl_ShrinkList_len l_aList aLimit aHard
                    have l_117 := g_116.1
                    have g_118 := g_101.trans g_116
                    have l_119 := g_118.1
                    have r_120 := r_103.grow g_116
                    have r_121 := r_104.grow g_116
                    have r_122 := r_105.grow g_116
                    have r_123 := r_106.grow g_116
                    have r_124 := r_107.grow g_116
                    have r_125 := r_98.grow g_116
                    obtain rfl := r_114.isL.eqn
                    have u_126 := r_114.up
                    have u_127 := r_114.lo
                    refine T_laws_eqFloat32S_i ⟨_, _, r_114.isL, r_121.isL, (by first | omega | (simp only [List.length_set, List.length_replicate, List.length_append, List.length_cons, List.length_nil, List.length_take, List.length_drop, marks_length]; done) | (simp only [List.length_set, List.length_replicate, List.length_append, List.length_cons, List.length_nil, List.length_take, List.length_drop, marks_length]; omega)), (by first | omega | (simp only [List.length_set, List.length_replicate, List.length_append, List.length_cons, List.length_nil, List.length_take, List.length_drop, marks_length]; done) | (simp only [List.length_set, List.length_replicate, List.length_append, List.length_cons, List.length_nil, List.length_take, List.length_drop, marks_length]; omega)), ?_⟩
                    refine Br.intro (fun c_129 => ?_) (fun c_129 => ?_)
                    · have e := e.trans (cond_t c_129)
                      have c_129n := nf_of_t c_129
                      first | exact hk _ | (exfalso; cases e; done) | (rw [← e]; exact hk _)
                    · have e := e.trans (cond_f c_129)
                      have c_129n := nt_of_f c_129
                      refine Br.intro (fun c_130 => ?_) (fun c_130 => ?_)
                      · have e := e.trans (cond_t c_130)
                        have c_130n := nf_of_t c_130
                        first | exact hk _ | (exfalso; cases e; done) | (rw [← e]; exact hk _)
                      · have e := e.trans (cond_f c_130)
                        have c_130n := nt_of_f c_130
                        refine T_laws_heldFloat32S_i ⟨_, r_123.isL, (by first | omega | (simp only [List.length_set, List.length_replicate, List.length_append, List.length_cons, List.length_nil, List.length_take, List.length_drop, marks_length]; done) | (simp only [List.length_set, List.length_replicate, List.length_append, List.length_cons, List.length_nil, List.length_take, List.length_drop, marks_length]; omega)), ?_⟩
                        refine Br.intro (fun c_131 => ?_) (fun c_131 => ?_)
                        · have e := e.trans (cond_t c_131)
                          have c_131' := of_decide_eq_true c_131
                          first | exact hk _ | (exfalso; cases e; done) | (rw [← e]; exact hk _)
                        · have e := e.trans (cond_f c_131)
                          have c_131' := of_decide_eq_false c_131
                          refine Br.intro (fun c_132 => ?_) (fun c_132 => ?_)
                          · have e := e.trans (cond_t c_132)
                            have c_132' := ine_t c_132
                            first | exact hk _ | (exfalso; cases e; done) | (rw [← e]; exact hk _)
                          · have e := e.trans (cond_f c_132)
                            have c_132' := ine_f c_132
                            first | exact hk _ | (exfalso; cases e; done) | (rw [← e]; exact hk _)
theorem laws_FnExactShrinkList_ok : FnOk Try.prog 13 S_laws_FnExactShrinkList := by
  refine FnOk.body mix_ok E_laws_FnExactShrinkList_ok Try.func13 rfl (by kernel_rfl) (by kernel_rfl) ?_ ?_ ?_ ?_ ?_
  · intro args H K K' h hk
    simp only [S_laws_FnExactShrinkList] at *
    unfold F_laws_FnExactShrinkList at *
    split at hk
    · obtain ⟨l_aList, h_0, h_1, h_2, h_3, k⟩ := hk
      exact ⟨l_aList, h_0, h_1, h_2, h_3, (fun H' => h _ _ (k H'))⟩
    · exact hk.elim
  · intro hq; cases hq
  · intro args H K hk
    simp only [S_laws_FnExactShrinkList] at *
    unfold F_laws_FnExactShrinkList at *
    split at hk
    · obtain ⟨l_aList, h_0, h_1, h_2, h_3, k⟩ := hk
      exact ⟨_, _, k []⟩
    · exact hk.elim
  · intro hq; cases hq
  · have mm := @laws_FnExactShrinkList_main
    revert mm
    generalize bodyK Try.prog E_laws_FnExactShrinkList Try.f13 = Q
    intro mm args H K hk
    simp only [S_laws_FnExactShrinkList] at *
    unfold F_laws_FnExactShrinkList at *
    split at hk
    · exact mm _ _ _ _ _ H K hk
    · exact hk.elim
end Go.Proofs.Ytfofkmlohmodeab.Ai
