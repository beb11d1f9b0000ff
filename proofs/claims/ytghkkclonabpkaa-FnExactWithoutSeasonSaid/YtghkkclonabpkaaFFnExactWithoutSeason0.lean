/- What functions of the program come to on the abstract machine, and that they do so; printed by a program of mine around proofs of mine. -/
import Derived.Test.YtghkkclonabpkaaProg
import Derived.Test.YtghkkclonabpkaaLibA
import Derived.Test.YtghkkclonabpkaaOpen
import Derived.Test.YtghkkclonabpkaaLibB
import Derived.Test.YtghkkclonabpkaaFl
set_option linter.unusedVariables false
set_option linter.unusedSimpArgs false
set_option maxRecDepth 100000
namespace Go.Proofs.Ytghkkclonabpkaa.Ai
open Go
attribute [local irreducible] bodyK
theorem mix_ok : Try.prog.follows .mixedOrders = true := by kernel_rfl
def p_laws_toFloat32S_l1 (l_a : List Nat) : Nat → Int → (List Nat) → (List Nat)
  | 0, _, _ => []
  | μ + 1, i, y1_1 => (bif decide ((i : Int) < (l_a.length : Int)) then (p_laws_toFloat32S_l1 l_a μ (i + 1) (((y1_1).set (i : Int).toNat ((((l_a).getD (i : Int).toNat 0)))))) else y1_1)
theorem p_laws_toFloat32S_l1_s (l_a : List Nat) (μ : Nat) (i : Int) (y1_1 : List Nat) : p_laws_toFloat32S_l1 l_a (μ + 1) i y1_1 = (bif decide ((i : Int) < (l_a.length : Int)) then (p_laws_toFloat32S_l1 l_a μ (i + 1) (((y1_1).set (i : Int).toNat ((((l_a).getD (i : Int).toNat 0)))))) else y1_1) := rfl
def p_laws_toFloat32S (l_a : List Nat) : (List Nat) := (p_laws_toFloat32S_l1 l_a (Int.toNat ((l_a.length : Int) - (0 : Int)) + 1) (0 : Int) (List.replicate (((l_a.length : Int)).toNat) 0))
theorem p_laws_toFloat32S_eq (l_a : List Nat) : p_laws_toFloat32S l_a = (p_laws_toFloat32S_l1 l_a (Int.toNat ((l_a.length : Int) - (0 : Int)) + 1) (0 : Int) (List.replicate (((l_a.length : Int)).toNat) 0)) := rfl
def T_laws_toFloat32S (a_a : Option Addr) (a_n : Nat) (a_e : Nat) (H : AHeap) (K : (Option Addr) → Nat → Nat → AHeap → Prop) : Prop := ∃ (l_a : List Nat), IsL fF H a_a a_n l_a ∧ l_a.length < 1073741824 ∧ ((∀ (r1_a : Option Addr) (r1_n r1_e : Nat), ∀ H' : AHeap, Grow H H' → OwnS fF H' H.length r1_a r1_n r1_e l_a → K r1_a r1_n r1_e H'))
theorem T_laws_toFloat32S_i {a_a : Option Addr} {a_n : Nat} {a_e : Nat} {H : AHeap} {K : (Option Addr) → Nat → Nat → AHeap → Prop} (h : ∃ (l_a : List Nat), IsL fF H a_a a_n l_a ∧ l_a.length < 1073741824 ∧ ((∀ (r1_a : Option Addr) (r1_n r1_e : Nat), ∀ H' : AHeap, Grow H H' → OwnS fF H' H.length r1_a r1_n r1_e l_a → K r1_a r1_n r1_e H'))) : T_laws_toFloat32S a_a a_n a_e H K := h
theorem laws_toFloat32S_go (l : List Nat) : ∀ (μ : Nat) (i : Nat) (ys : List Nat), ys.length = l.length → i ≤ l.length → l.length - i < μ →
    p_laws_toFloat32S_l1 l μ (i : Int) (l.take i ++ ys.drop i) = l := by
  intro μ
  induction μ with
  | zero => intro i ys _ _ h; omega
  | succ μ ih =>
    intro i ys hy hi hm
    rw [p_laws_toFloat32S_l1_s]
    by_cases h : i < l.length
    · rw [decide_eq_true (show (i : Int) < (l.length : Int) by omega), cond_true]
      have hx : l[i]? = some (l.getD i 0) := by rw [List.getD_eq_getElem?_getD, List.getElem?_eq_getElem h]; rfl
      rw [Int.toNat_natCast, set_front l ys i (by omega) hy.symm _ hx]
      exact ih (i + 1) ys hy (by omega) (by omega)
    · rw [decide_eq_false (show ¬ (i : Int) < (l.length : Int) by omega), cond_false]
      rw [List.take_of_length_le (by omega), List.drop_eq_nil_of_le (by omega), List.append_nil]
theorem laws_toFloat32S_id (l : List Nat) : p_laws_toFloat32S l = l := by
  rw [p_laws_toFloat32S_eq]
  have := laws_toFloat32S_go l (Int.toNat ((l.length : Int) - 0) + 1) 0 (List.replicate ((l.length : Int)).toNat 0) (by simp) (by omega) (by omega)
  simpa using this
/-! laws_toFloat32S: function 16 -/
def E_laws_toFloat32S : Env := envOf []
def F_laws_toFloat32S : List Value → AHeap → (Value → AHeap → Prop) → Prop
  | [.slice a_a a_n a_e], H, K => T_laws_toFloat32S a_a a_n a_e H fun (r1_a : Option Addr) (r1_n : Nat) (r1_e : Nat) (H' : AHeap) => K (.slice r1_a r1_n r1_e) H'
  | _, _, _ => False
def S_laws_toFloat32S : FSpec := { F := F_laws_toFloat32S, quiet := false, tame := true }
theorem laws_toFloat32S_vc (a_a : Option Addr) (a_n : Nat) (a_e : Nat) (H : AHeap) (K : Value → AHeap → Prop) : bodyK Try.prog E_laws_toFloat32S Try.f16 [.slice a_a a_n a_e] H K =
  ((0 : Int) ≤ (a_n : Int) ∧ (a_n : Int) = (a_n : Int) ∧ (a_n : Int) < (most : Int) ∧ Al (zerosOf (.float .f32 0) ((a_n : Int)).toNat) H fun b1 H1 => loopK (exK Try.prog E_laws_toFloat32S (cl (cl (cr (cl (cr (cr (bodyC Try.f16)))))))) [.slice a_a a_n a_e, undef, .slice none 0 0, .slice (some ⟨b1, 0, none⟩) (((a_n : Int)).toNat) 1, .int .i64 0, .slice a_a a_n a_e, .int .i64 (a_n : Int), .slice (some ⟨b1, 0, none⟩) (((a_n : Int)).toNat) 1, undef, undef, undef, undef, undef, undef, undef, undef, undef, undef, undef, undef, undef, undef] H1 (blockQ 0 (seqQ (exK Try.prog E_laws_toFloat32S (cr (cr (cr (bodyC Try.f16))))) (retK Try.prog Try.f16 K)))) := by kernel_rfl
theorem laws_toFloat32S_r1 (a_a : Option Addr) (a_e : Nat) (a_n : Nat) (b1 : Nat) (i : Int) (g8 g9 g10 g11 g12 g13 g14 g15 g16 g17 g18 g19 g20 : Value) (H : AHeap) (R : Post) : exK Try.prog E_laws_toFloat32S (cl (cl (cr (cl (cr (cr (bodyC Try.f16))))))) [.slice a_a a_n a_e, undef, .slice none 0 0, .slice (some ⟨b1, 0, none⟩) (((a_n : Int)).toNat) 1, .int .i64 i, .slice a_a a_n a_e, .int .i64 (a_n : Int), .slice (some ⟨b1, 0, none⟩) (((a_n : Int)).toNat) 1, g8, g9, g10, g11, g12, g13, g14, g15, g16, g17, g18, g19, g20, undef] H R =
  (Br (decide ((i : Int) < (a_n : Int))) ((0 : Int) ≤ i ∧ i < (a_n : Int) ∧ ∃ b2 f1, (a_a : Option Addr) = some ⟨b2, f1, none⟩ ∧ ∃ x1 : Nat,  rdC H b2 (f1 + (i : Int).toNat * 1) = some (.float .f32 x1) ∧ (0 : Int) ≤ i ∧ i < (((a_n : Int)).toNat : Int) ∧ ∃ b3 f2, (some ⟨b1, 0, none⟩ : Option Addr) = some ⟨b3, f2, none⟩ ∧ isOwn H b3 ∧ (∃ l, rdN H b3 (f2 + (i : Int).toNat * 1) 1 = some l) ∧ Lt (setC H b3 (f2 + (i : Int).toNat * 1) (.float .f32 x1)) fun H2 => R .normal [.slice a_a a_n a_e, undef, .slice none 0 0, .slice (some ⟨b1, 0, none⟩) (((a_n : Int)).toNat) 1, .int .i64 (IntKind.wrap .i64 (i + 1)), .slice a_a a_n a_e, .int .i64 (a_n : Int), .slice (some ⟨b1, 0, none⟩) (((a_n : Int)).toNat) 1, .int .i64 i, .slice a_a a_n a_e, .int .i64 (a_n : Int), .bool (decide ((i : Int) < (a_n : Int))), .int .i64 i, .int .i64 (IntKind.wrap .i64 (i + 1)), .slice (some ⟨b1, 0, none⟩) (((a_n : Int)).toNat) 1, .int .i64 i, .slice a_a a_n a_e, .int .i64 i, .pointer (some ⟨b2, f1 + (i : Int).toNat * 1, none⟩), .float .f32 x1, .pointer (some ⟨b3, f2 + (i : Int).toNat * 1, none⟩), undef] H2) (R (.exit 0) [.slice a_a a_n a_e, undef, .slice none 0 0, .slice (some ⟨b1, 0, none⟩) (((a_n : Int)).toNat) 1, .int .i64 i, .slice a_a a_n a_e, .int .i64 (a_n : Int), .slice (some ⟨b1, 0, none⟩) (((a_n : Int)).toNat) 1, .int .i64 i, .slice a_a a_n a_e, .int .i64 (a_n : Int), .bool (decide ((i : Int) < (a_n : Int))), g12, g13, g14, g15, g16, g17, g18, g19, g20, undef] H)) := by kernel_rfl
def laws_toFloat32S_I1 (a_a : Option Addr) (a_e : Nat) (a_n : Nat) (b1 : Nat) (Inv : Nat → Int → AHeap → Prop) : Nat → List Value → AHeap → Prop := fun μ tm H => ∃ (i : Int), ∃ g8 g9 g10 g11 g12 g13 g14 g15 g16 g17 g18 g19 g20, tm = [.slice a_a a_n a_e, undef, .slice none 0 0, .slice (some ⟨b1, 0, none⟩) (((a_n : Int)).toNat) 1, .int .i64 i, .slice a_a a_n a_e, .int .i64 (a_n : Int), .slice (some ⟨b1, 0, none⟩) (((a_n : Int)).toNat) 1, g8, g9, g10, g11, g12, g13, g14, g15, g16, g17, g18, g19, g20, undef] ∧ Inv μ i H
theorem laws_toFloat32S_L1 (a_a : Option Addr) (a_e : Nat) (a_n : Nat) (b1 : Nat) {Q : Post} (Inv : Nat → Int → AHeap → Prop) (ν : Nat) (i : Int) (g8 g9 g10 g11 g12 g13 g14 g15 g16 g17 g18 g19 g20 : Value) (H : AHeap) (h0 : Inv ν i H)
    (hs : ∀ (μ : Nat) (i : Int) (g8 g9 g10 g11 g12 g13 g14 g15 g16 g17 g18 g19 g20 : Value) (H : AHeap), Inv μ i H → exK Try.prog E_laws_toFloat32S (cl (cl (cr (cl (cr (cr (bodyC Try.f16))))))) [.slice a_a a_n a_e, undef, .slice none 0 0, .slice (some ⟨b1, 0, none⟩) (((a_n : Int)).toNat) 1, .int .i64 i, .slice a_a a_n a_e, .int .i64 (a_n : Int), .slice (some ⟨b1, 0, none⟩) (((a_n : Int)).toNat) 1, g8, g9, g10, g11, g12, g13, g14, g15, g16, g17, g18, g19, g20, undef] H (loopQ (laws_toFloat32S_I1 a_a a_e a_n b1 Inv) μ Q)) : loopK (exK Try.prog E_laws_toFloat32S (cl (cl (cr (cl (cr (cr (bodyC Try.f16)))))))) [.slice a_a a_n a_e, undef, .slice none 0 0, .slice (some ⟨b1, 0, none⟩) (((a_n : Int)).toNat) 1, .int .i64 i, .slice a_a a_n a_e, .int .i64 (a_n : Int), .slice (some ⟨b1, 0, none⟩) (((a_n : Int)).toNat) 1, g8, g9, g10, g11, g12, g13, g14, g15, g16, g17, g18, g19, g20, undef] H Q :=
  ⟨laws_toFloat32S_I1 a_a a_e a_n b1 Inv, ν, ⟨i, g8, g9, g10, g11, g12, g13, g14, g15, g16, g17, g18, g19, g20, rfl, h0⟩, fun μ tm H h => by obtain ⟨i, g8, g9, g10, g11, g12, g13, g14, g15, g16, g17, g18, g19, g20, rfl, hI⟩ := h; exact hs μ i g8 g9 g10 g11 g12 g13 g14 g15 g16 g17 g18 g19 g20 H hI⟩
theorem laws_toFloat32S_n1 {a_a : Option Addr} {a_e : Nat} {a_n : Nat} {b1 : Nat} {Q : Post} {Inv : Nat → Int → AHeap → Prop} {μ : Nat} (μ' : Nat) {i : Int} {g8 g9 g10 g11 g12 g13 g14 g15 g16 g17 g18 g19 g20 : Value} {H : AHeap} (hm : μ' < μ) (hI : Inv μ' i H) : loopQ (laws_toFloat32S_I1 a_a a_e a_n b1 Inv) μ Q .normal [.slice a_a a_n a_e, undef, .slice none 0 0, .slice (some ⟨b1, 0, none⟩) (((a_n : Int)).toNat) 1, .int .i64 i, .slice a_a a_n a_e, .int .i64 (a_n : Int), .slice (some ⟨b1, 0, none⟩) (((a_n : Int)).toNat) 1, g8, g9, g10, g11, g12, g13, g14, g15, g16, g17, g18, g19, g20, undef] H := ⟨μ', hm, i, g8, g9, g10, g11, g12, g13, g14, g15, g16, g17, g18, g19, g20, rfl, hI⟩
theorem laws_toFloat32S_x1_0 (a_a : Option Addr) (a_e : Nat) (a_n : Nat) (b1 : Nat) (i : Int) (g8 g9 g10 g11 g12 g13 g14 g15 g16 g17 g18 g19 g20 : Value) (H : AHeap) (K : Value → AHeap → Prop)  {I : Nat → List Value → AHeap → Prop} {μ : Nat} : loopQ I μ (blockQ 0 (seqQ (exK Try.prog E_laws_toFloat32S (cr (cr (cr (bodyC Try.f16))))) (retK Try.prog Try.f16 K))) (.exit 0) [.slice a_a a_n a_e, undef, .slice none 0 0, .slice (some ⟨b1, 0, none⟩) (((a_n : Int)).toNat) 1, .int .i64 i, .slice a_a a_n a_e, .int .i64 (a_n : Int), .slice (some ⟨b1, 0, none⟩) (((a_n : Int)).toNat) 1, g8, g9, g10, g11, g12, g13, g14, g15, g16, g17, g18, g19, g20, undef] H =
  (K (.slice (some ⟨b1, 0, none⟩) (((a_n : Int)).toNat) 1) H) := by kernel_rfl
theorem E_laws_toFloat32S_ok : ∀ g, FnOk Try.prog g (E_laws_toFloat32S g) := FnOk.envOf (by
  intro x hx; cases hx)
set_option maxHeartbeats 1000000 in
theorem laws_toFloat32S_main (a_a : Option Addr) (a_n : Nat) (a_e : Nat) (H : AHeap) (K : Value → AHeap → Prop) (h : T_laws_toFloat32S a_a a_n a_e H fun (r1_a : Option Addr) (r1_n : Nat) (r1_e : Nat) (H' : AHeap) => K (.slice r1_a r1_n r1_e) H') : bodyK Try.prog E_laws_toFloat32S Try.f16 [.slice a_a a_n a_e] H K := by
  rw [laws_toFloat32S_vc]
  obtain ⟨l_a, i_a, bd_29, hk⟩ := h
  have hk : (∀ (r1_a : Option Addr) (r1_n r1_e : Nat), ∀ H' : AHeap, Grow H H' → OwnS fF H' H.length r1_a r1_n r1_e (p_laws_toFloat32S l_a) → (fun (r1_a : Option Addr) (r1_n : Nat) (r1_e : Nat) (H' : AHeap) => K (.slice r1_a r1_n r1_e) H') r1_a r1_n r1_e H') := by rw [laws_toFloat32S_id l_a]; exact hk
  obtain rfl := i_a.eqn
  have e : (p_laws_toFloat32S l_a) = _ := rfl
  have e := e.trans (p_laws_toFloat32S_eq l_a)
  have g0 := Grow.refl H
  refine ⟨by omega, rfl, (by have := most_eq; omega), ?_⟩
  refine Al.intro (fun b_1 H_1 hb_2 hl_3 g_4 o_5 => ?_)
  rw [zeros_map fF 0 _ rfl] at o_5
  have l_7 := g_4.1
  have g_8 := g0.trans g_4
  have l_9 := g_8.1
  have w_28 := o_5.lt
  refine laws_toFloat32S_L1 _ _ _ _ (fun (μ : Nat) (i : Int) (H_2 : AHeap) => ∃ (y1_1 : List Nat), Own H_2 b_1 (y1_1.map fF) ∧ y1_1.length = ((l_a.length : Int)).toNat ∧ Grow H H_2 ∧ (0 : Int) ≤ i ∧ i ≤ (l_a.length : Int) ∧ (l_a.length : Int) - i ≤ (μ : Int) ∧ p_laws_toFloat32S l_a = p_laws_toFloat32S_l1 l_a (μ + 1) i y1_1) (Int.toNat ((l_a.length : Int) - (0 : Int))) _ _ _ _ _ _ _ _ _ _ _ _ _ _ H_1 ?_ ?_
  · exact ⟨_, o_5, (by first | rfl | (simp; done)), g_8, (by first | omega | (simp; done) | (simp; omega)), (by first | omega | (simp; done) | (simp; omega)), (by omega), e⟩
  · intro μ i g8 g9 g10 g11 g12 g13 g14 g15 g16 g17 g18 g19 g20 H_2 hI
    obtain ⟨y1_1, o_10, y_11, g_12, v_13, v_14, hμ, e⟩ := hI
    rw [laws_toFloat32S_r1]
    have e := e.trans (p_laws_toFloat32S_l1_s l_a μ i y1_1)
    have w_15 := o_10.lt
    have l_16 := g_12.1
    refine Br.intro (fun c_17 => ?_) (fun c_17 => ?_)
    · have e := e.trans (cond_t c_17)
      have c_17' := of_decide_eq_true c_17
      obtain ⟨b_18, f_19, q_20⟩ := ((i_a.grow g_12)).pos (by first | omega | (simp only [List.length_set, List.length_replicate, List.length_append, List.length_cons, List.length_nil, List.length_take, List.length_drop, marks_length]; done) | (simp only [List.length_set, List.length_replicate, List.length_append, List.length_cons, List.length_nil, List.length_take, List.length_drop, marks_length]; omega))
      refine ⟨by omega, by omega, b_18, f_19, q_20, ?_⟩
      refine ⟨((l_a).getD (i : Int).toNat 0), (i_a).rd g_12 q_20 (by omega) _, ?_⟩
      refine ⟨by omega, (by omega), _, _, rfl, ?_⟩
      refine Lt.set o_10 (by simp only [List.length_map]; (first | omega | (simp only [List.length_set, List.length_replicate, List.length_append, List.length_cons, List.length_nil, List.length_take, List.length_drop, marks_length]; done) | (simp only [List.length_set, List.length_replicate, List.length_append, List.length_cons, List.length_nil, List.length_take, List.length_drop, marks_length]; omega))) (fun H_3 hl_21 o_23 k_22 => ?_)
      have o_23 := map_set o_23
      have l_24 := k_22.1
      have g_25 := g_12.keep (b := b_1) (by omega) k_22
      have l_26 := g_25.1
      have w_27 := o_23.lt
      rw [show IntKind.wrap .i64 (i + 1) = (i + 1) from wrap64 (by omega) (by omega)]
      refine laws_toFloat32S_n1 (μ - 1) (by omega) ⟨_, o_23, (by first | assumption | omega | (simp only [List.length_set]; first | rfl | assumption | omega)), g_25, (by first | omega | (simp only [List.length_append, List.length_cons, List.length_nil, List.length_set]; done) | (simp only [List.length_append, List.length_cons, List.length_nil, List.length_set]; omega)), (by first | omega | (simp only [List.length_append, List.length_cons, List.length_nil, List.length_set]; done) | (simp only [List.length_append, List.length_cons, List.length_nil, List.length_set]; omega)), (by omega), (by rw [show μ - 1 + 1 = μ from by omega]; exact e)⟩
    · have e := e.trans (cond_f c_17)
      have c_17' := of_decide_eq_false c_17
      rw [laws_toFloat32S_x1_0]
      rw [e] at hk
      exact hk _ _ _ H_2 g_12 (o_10.ownS (by first | (simp only [List.length_replicate]; done) | omega | (simp; omega)) (by omega))
theorem laws_toFloat32S_ok : FnOk Try.prog 16 S_laws_toFloat32S := by
  refine FnOk.body mix_ok E_laws_toFloat32S_ok Try.func16 rfl (by kernel_rfl) (by kernel_rfl) ?_ ?_ ?_ ?_ ?_
  · intro args H K K' h hk
    simp only [S_laws_toFloat32S] at *
    unfold F_laws_toFloat32S at *
    split at hk
    · obtain ⟨l_a, i_a, bd_29, k⟩ := hk
      exact ⟨l_a, i_a, bd_29, (fun r1_a r1_n r1_e H' gg ow0 => h _ _ (k r1_a r1_n r1_e H' gg ow0))⟩
    · exact hk.elim
  · intro hq; cases hq
  · intro args H K hk
    simp only [S_laws_toFloat32S] at *
    unfold F_laws_toFloat32S at *
    split at hk
    · obtain ⟨l_a, i_a, bd_29, k⟩ := hk
      exact liveS fun a n e H1 g o => ⟨_, _, k a n e H1 g o⟩
    · exact hk.elim
  · intro _ args H K hk
    simp only [S_laws_toFloat32S] at *
    unfold F_laws_toFloat32S at *
    split at hk
    · obtain ⟨l_a, i_a, bd_29, k⟩ := hk
      exact ⟨l_a, i_a, bd_29, (fun r1_a r1_n r1_e H' gg ow0 => ⟨gg, k r1_a r1_n r1_e H' gg ow0⟩)⟩
    · exact hk.elim
  · have mm := @laws_toFloat32S_main
    revert mm
    generalize bodyK Try.prog E_laws_toFloat32S Try.f16 = Q
    intro mm args H K hk
    simp only [S_laws_toFloat32S] at *
    unfold F_laws_toFloat32S at *
    split at hk
    · exact mm _ _ _ H K hk
    · exact hk.elim
def p_spec_l01Finite (x : Nat) : Bool := feq .f32 (fsub .f32 x x) 0
theorem p_spec_l01Finite_eq (x : Nat) : p_spec_l01Finite x = feq .f32 (fsub .f32 x x) 0 := rfl
def T_spec_l01Finite (x : Nat) (H : AHeap) (K : Bool → AHeap → Prop) : Prop := K (p_spec_l01Finite x) H

theorem T_spec_l01Finite_i {x : Nat} {H : AHeap} {K : Bool → AHeap → Prop} (h : K (p_spec_l01Finite x) H) : T_spec_l01Finite x H K := h
/-! spec_l01Finite: function 57 -/
def E_spec_l01Finite : Env := envOf []
def F_spec_l01Finite : List Value → AHeap → (Value → AHeap → Prop) → Prop
  | [.float .f32 x], H, K => T_spec_l01Finite x H fun (r1 : Bool) (H' : AHeap) => K (.bool r1) H'
  | _, _, _ => False
def S_spec_l01Finite : FSpec := { F := F_spec_l01Finite, quiet := true, tame := false }
theorem spec_l01Finite_vc (x : Nat) (H : AHeap) (K : Value → AHeap → Prop) : bodyK Try.prog E_spec_l01Finite Try.f57 [.float .f32 x] H K =
  (K (.bool (feq .f32 (fsub .f32 x x) 0)) H) := by kernel_rfl
theorem E_spec_l01Finite_ok : ∀ g, FnOk Try.prog g (E_spec_l01Finite g) := FnOk.envOf (by
  intro x hx; cases hx)
set_option maxHeartbeats 1000000 in
theorem spec_l01Finite_main (x : Nat) (H : AHeap) (K : Value → AHeap → Prop) (h : T_spec_l01Finite x H fun (r1 : Bool) (H' : AHeap) => K (.bool r1) H') : bodyK Try.prog E_spec_l01Finite Try.f57 [.float .f32 x] H K := by
  rw [spec_l01Finite_vc]
  unfold T_spec_l01Finite p_spec_l01Finite at h
  repeat' (first | exact h | (exfalso; simp_all; done) | (refine ⟨by decide, ?_⟩) | (refine Br.intro (fun hb => ?_) (fun hb => ?_) <;> (try simp only [hb, cond_true, cond_false, Bool.not_true, Bool.not_false] at h)))
theorem spec_l01Finite_ok : FnOk Try.prog 57 S_spec_l01Finite := by
  refine FnOk.body mix_ok E_spec_l01Finite_ok Try.func57 rfl (by kernel_rfl) (by kernel_rfl) ?_ ?_ ?_ ?_ ?_
  · intro args H K K' h hk
    simp only [S_spec_l01Finite] at *
    unfold F_spec_l01Finite at *
    split at hk
    · have k := hk
      exact h _ _ k
    · exact hk.elim
  · intro _ args H K hk
    simp only [S_spec_l01Finite] at *
    unfold F_spec_l01Finite at *
    split at hk
    · have k := hk
      exact ⟨_, k, fun K' k' => k'⟩
    · exact hk.elim
  · intro args H K hk
    simp only [S_spec_l01Finite] at *
    unfold F_spec_l01Finite at *
    split at hk
    · have k := hk
      exact ⟨_, _, k⟩
    · exact hk.elim
  · intro hq; cases hq
  · have mm := @spec_l01Finite_main
    revert mm
    generalize bodyK Try.prog E_spec_l01Finite Try.f57 = Q
    intro mm args H K hk
    simp only [S_spec_l01Finite] at *
    unfold F_spec_l01Finite at *
    split at hk
    · exact mm _ H K hk
    · exact hk.elim
def p_spec_l02Finite_l1 (l_list : List Nat) : Nat → Bool → Int → Bool
  | 0, _, _ => false
  | μ + 1, t2, i => (bif decide ((i : Int) < (l_list.length : Int)) then (bif !((p_spec_l01Finite (((l_list).getD (i : Int).toNat 0)))) then false else (p_spec_l02Finite_l1 l_list μ t2 (i + 1))) else true)
theorem p_spec_l02Finite_l1_s (l_list : List Nat) (μ : Nat) (t2 : Bool) (i : Int) : p_spec_l02Finite_l1 l_list (μ + 1) t2 i = (bif decide ((i : Int) < (l_list.length : Int)) then (bif !((p_spec_l01Finite (((l_list).getD (i : Int).toNat 0)))) then false else (p_spec_l02Finite_l1 l_list μ t2 (i + 1))) else true) := rfl
def p_spec_l02Finite (l_list : List Nat) : Bool := (p_spec_l02Finite_l1 l_list (Int.toNat ((l_list.length : Int) - (0 : Int)) + 1) false (0 : Int))
theorem p_spec_l02Finite_eq (l_list : List Nat) : p_spec_l02Finite l_list = (p_spec_l02Finite_l1 l_list (Int.toNat ((l_list.length : Int) - (0 : Int)) + 1) false (0 : Int)) := rfl
def T_spec_l02Finite (list_a : Option Addr) (list_n : Nat) (list_e : Nat) (H : AHeap) (K : Bool → AHeap → Prop) : Prop := ∃ (l_list : List Nat), IsL fF H list_a list_n l_list ∧ l_list.length < 1073741824 ∧ K (p_spec_l02Finite l_list) H
theorem T_spec_l02Finite_i {list_a : Option Addr} {list_n : Nat} {list_e : Nat} {H : AHeap} {K : Bool → AHeap → Prop} (h : ∃ (l_list : List Nat), IsL fF H list_a list_n l_list ∧ l_list.length < 1073741824 ∧ K (p_spec_l02Finite l_list) H) : T_spec_l02Finite list_a list_n list_e H K := h

/-! spec_l02Finite: function 67 -/
def E_spec_l02Finite : Env := envOf [(57, S_spec_l01Finite)]
def F_spec_l02Finite : List Value → AHeap → (Value → AHeap → Prop) → Prop
  | [.slice list_a list_n list_e], H, K => T_spec_l02Finite list_a list_n list_e H fun (r1 : Bool) (H' : AHeap) => K (.bool r1) H'
  | _, _, _ => False
def S_spec_l02Finite : FSpec := { F := F_spec_l02Finite, quiet := true, tame := false }
theorem spec_l02Finite_vc (list_a : Option Addr) (list_n : Nat) (list_e : Nat) (H : AHeap) (K : Value → AHeap → Prop) : bodyK Try.prog E_spec_l02Finite Try.f67 [.slice list_a list_n list_e] H K =
  (loopK (exK Try.prog E_spec_l02Finite (cl (cl (cr (cl (cr (bodyC Try.f67))))))) [.slice list_a list_n list_e, undef, .bool false, .int .i64 0, undef, undef, undef, undef, undef, undef, undef, undef, undef, undef, undef, undef] H (blockQ 0 (seqQ (exK Try.prog E_spec_l02Finite (cr (cr (bodyC Try.f67)))) (retK Try.prog Try.f67 K)))) := by kernel_rfl
theorem spec_l02Finite_r1 (list_a : Option Addr) (list_e : Nat) (list_n : Nat) (t2 : Bool) (i : Int) (g4 g5 g6 g7 g8 g9 g10 g11 g12 g13 g14 g15 : Value) (H : AHeap) (R : Post) : exK Try.prog E_spec_l02Finite (cl (cl (cr (cl (cr (bodyC Try.f67)))))) [.slice list_a list_n list_e, undef, .bool t2, .int .i64 i, g4, g5, g6, g7, g8, g9, g10, g11, g12, g13, g14, g15] H R =
  (Br (decide ((i : Int) < (list_n : Int))) ((0 : Int) ≤ i ∧ i < (list_n : Int) ∧ ∃ b1 f1, (list_a : Option Addr) = some ⟨b1, f1, none⟩ ∧ ∃ x1 : Nat,  rdC H b1 (f1 + (i : Int).toNat * 1) = some (.float .f32 x1) ∧ T_spec_l01Finite x1 H fun (r1 : Bool) (H1 : AHeap) => Br (!r1) (R .ret [.slice list_a list_n list_e, undef, .bool false, .int .i64 i, .int .i64 i, .slice list_a list_n list_e, .int .i64 (list_n : Int), .bool (decide ((i : Int) < (list_n : Int))), g8, g9, .slice list_a list_n list_e, .int .i64 i, .pointer (some ⟨b1, f1 + (i : Int).toNat * 1, none⟩), .float .f32 x1, .bool r1, .bool (!r1)] H1) (R .normal [.slice list_a list_n list_e, undef, .bool t2, .int .i64 (IntKind.wrap .i64 (i + 1)), .int .i64 i, .slice list_a list_n list_e, .int .i64 (list_n : Int), .bool (decide ((i : Int) < (list_n : Int))), .int .i64 i, .int .i64 (IntKind.wrap .i64 (i + 1)), .slice list_a list_n list_e, .int .i64 i, .pointer (some ⟨b1, f1 + (i : Int).toNat * 1, none⟩), .float .f32 x1, .bool r1, .bool (!r1)] H1)) (R (.exit 0) [.slice list_a list_n list_e, undef, .bool t2, .int .i64 i, .int .i64 i, .slice list_a list_n list_e, .int .i64 (list_n : Int), .bool (decide ((i : Int) < (list_n : Int))), g8, g9, g10, g11, g12, g13, g14, g15] H)) := by kernel_rfl
def spec_l02Finite_I1 (list_a : Option Addr) (list_e : Nat) (list_n : Nat) (Inv : Nat → Bool → Int → AHeap → Prop) : Nat → List Value → AHeap → Prop := fun μ tm H => ∃ (t2 : Bool), ∃ (i : Int), ∃ g4 g5 g6 g7 g8 g9 g10 g11 g12 g13 g14 g15, tm = [.slice list_a list_n list_e, undef, .bool t2, .int .i64 i, g4, g5, g6, g7, g8, g9, g10, g11, g12, g13, g14, g15] ∧ Inv μ t2 i H
theorem spec_l02Finite_L1 (list_a : Option Addr) (list_e : Nat) (list_n : Nat) {Q : Post} (Inv : Nat → Bool → Int → AHeap → Prop) (ν : Nat) (t2 : Bool) (i : Int) (g4 g5 g6 g7 g8 g9 g10 g11 g12 g13 g14 g15 : Value) (H : AHeap) (h0 : Inv ν t2 i H)
    (hs : ∀ (μ : Nat) (t2 : Bool) (i : Int) (g4 g5 g6 g7 g8 g9 g10 g11 g12 g13 g14 g15 : Value) (H : AHeap), Inv μ t2 i H → exK Try.prog E_spec_l02Finite (cl (cl (cr (cl (cr (bodyC Try.f67)))))) [.slice list_a list_n list_e, undef, .bool t2, .int .i64 i, g4, g5, g6, g7, g8, g9, g10, g11, g12, g13, g14, g15] H (loopQ (spec_l02Finite_I1 list_a list_e list_n Inv) μ Q)) : loopK (exK Try.prog E_spec_l02Finite (cl (cl (cr (cl (cr (bodyC Try.f67))))))) [.slice list_a list_n list_e, undef, .bool t2, .int .i64 i, g4, g5, g6, g7, g8, g9, g10, g11, g12, g13, g14, g15] H Q :=
  ⟨spec_l02Finite_I1 list_a list_e list_n Inv, ν, ⟨t2, i, g4, g5, g6, g7, g8, g9, g10, g11, g12, g13, g14, g15, rfl, h0⟩, fun μ tm H h => by obtain ⟨t2, i, g4, g5, g6, g7, g8, g9, g10, g11, g12, g13, g14, g15, rfl, hI⟩ := h; exact hs μ t2 i g4 g5 g6 g7 g8 g9 g10 g11 g12 g13 g14 g15 H hI⟩
theorem spec_l02Finite_n1 {list_a : Option Addr} {list_e : Nat} {list_n : Nat} {Q : Post} {Inv : Nat → Bool → Int → AHeap → Prop} {μ : Nat} (μ' : Nat) {t2 : Bool} {i : Int} {g4 g5 g6 g7 g8 g9 g10 g11 g12 g13 g14 g15 : Value} {H : AHeap} (hm : μ' < μ) (hI : Inv μ' t2 i H) : loopQ (spec_l02Finite_I1 list_a list_e list_n Inv) μ Q .normal [.slice list_a list_n list_e, undef, .bool t2, .int .i64 i, g4, g5, g6, g7, g8, g9, g10, g11, g12, g13, g14, g15] H := ⟨μ', hm, t2, i, g4, g5, g6, g7, g8, g9, g10, g11, g12, g13, g14, g15, rfl, hI⟩
theorem spec_l02Finite_x1_0 (list_a : Option Addr) (list_e : Nat) (list_n : Nat) (t2 : Bool) (i : Int) (g4 g5 g6 g7 g8 g9 g10 g11 g12 g13 g14 g15 : Value) (H : AHeap) (K : Value → AHeap → Prop)  {I : Nat → List Value → AHeap → Prop} {μ : Nat} : loopQ I μ (blockQ 0 (seqQ (exK Try.prog E_spec_l02Finite (cr (cr (bodyC Try.f67)))) (retK Try.prog Try.f67 K))) (.exit 0) [.slice list_a list_n list_e, undef, .bool t2, .int .i64 i, g4, g5, g6, g7, g8, g9, g10, g11, g12, g13, g14, g15] H =
  (K (.bool true) H) := by kernel_rfl
theorem spec_l02Finite_x1_ret (list_a : Option Addr) (list_e : Nat) (list_n : Nat) (t2 : Bool) (i : Int) (g4 g5 g6 g7 g8 g9 g10 g11 g12 g13 g14 g15 : Value) (H : AHeap) (K : Value → AHeap → Prop)  {I : Nat → List Value → AHeap → Prop} {μ : Nat} : loopQ I μ (blockQ 0 (seqQ (exK Try.prog E_spec_l02Finite (cr (cr (bodyC Try.f67)))) (retK Try.prog Try.f67 K))) .ret [.slice list_a list_n list_e, undef, .bool t2, .int .i64 i, g4, g5, g6, g7, g8, g9, g10, g11, g12, g13, g14, g15] H =
  (K (.bool t2) H) := by kernel_rfl
theorem E_spec_l02Finite_ok : ∀ g, FnOk Try.prog g (E_spec_l02Finite g) := FnOk.envOf (by
  intro x hx
  simp only [List.mem_cons, List.not_mem_nil, or_false] at hx
  subst hx; exact spec_l01Finite_ok)
set_option maxHeartbeats 1000000 in
theorem spec_l02Finite_main (list_a : Option Addr) (list_n : Nat) (list_e : Nat) (H : AHeap) (K : Value → AHeap → Prop) (h : T_spec_l02Finite list_a list_n list_e H fun (r1 : Bool) (H' : AHeap) => K (.bool r1) H') : bodyK Try.prog E_spec_l02Finite Try.f67 [.slice list_a list_n list_e] H K := by
  rw [spec_l02Finite_vc]
  obtain ⟨l_list, i_list, bd_9, hk⟩ := h
  obtain rfl := i_list.eqn
  have e : (p_spec_l02Finite l_list) = _ := rfl
  have e := e.trans (p_spec_l02Finite_eq l_list)
  have g0 := Grow.refl H
  refine spec_l02Finite_L1 _ _ _ (fun (μ : Nat) (t2 : Bool) (i : Int) (H_1 : AHeap) => H = H_1 ∧ (0 : Int) ≤ i ∧ i ≤ (l_list.length : Int) ∧ (l_list.length : Int) - i ≤ (μ : Int) ∧ p_spec_l02Finite l_list = p_spec_l02Finite_l1 l_list (μ + 1) t2 i) (Int.toNat ((l_list.length : Int) - (0 : Int))) _ _ _ _ _ _ _ _ _ _ _ _ _ _ H ?_ ?_
  · exact ⟨rfl, (by first | omega | (simp; done) | (simp; omega)), (by first | omega | (simp; done) | (simp; omega)), (by omega), e⟩
  · intro μ t2 i g4 g5 g6 g7 g8 g9 g10 g11 g12 g13 g14 g15 H_1 hI
    obtain ⟨rfl, v_1, v_2, hμ, e⟩ := hI
    rw [spec_l02Finite_r1]
    have e := e.trans (p_spec_l02Finite_l1_s l_list μ t2 i)
    have l_3 := g0.1
    refine Br.intro (fun c_4 => ?_) (fun c_4 => ?_)
    · have e := e.trans (cond_t c_4)
      have c_4' := of_decide_eq_true c_4
      obtain ⟨b_5, f_6, q_7⟩ := ((i_list.grow g0)).pos (by first | omega | (simp only [List.length_set, List.length_replicate, List.length_append, List.length_cons, List.length_nil, List.length_take, List.length_drop, marks_length]; done) | (simp only [List.length_set, List.length_replicate, List.length_append, List.length_cons, List.length_nil, List.length_take, List.length_drop, marks_length]; omega))
      refine ⟨by omega, by omega, b_5, f_6, q_7, ?_⟩
      refine ⟨((l_list).getD (i : Int).toNat 0), (i_list).rd g0 q_7 (by omega) _, ?_⟩
      refine T_spec_l01Finite_i ?_
      refine Br.intro (fun c_8 => ?_) (fun c_8 => ?_)
      · have e := e.trans (cond_t c_8)
        have c_8n := nf_of_t c_8
        rw [spec_l02Finite_x1_ret]
        rw [e] at hk
        exact hk
      · have e := e.trans (cond_f c_8)
        have c_8n := nt_of_f c_8
        rw [show IntKind.wrap .i64 (i + 1) = (i + 1) from wrap64 (by omega) (by omega)]
        refine spec_l02Finite_n1 (μ - 1) (by omega) ⟨rfl, (by first | omega | (simp only [List.length_append, List.length_cons, List.length_nil, List.length_set]; done) | (simp only [List.length_append, List.length_cons, List.length_nil, List.length_set]; omega)), (by first | omega | (simp only [List.length_append, List.length_cons, List.length_nil, List.length_set]; done) | (simp only [List.length_append, List.length_cons, List.length_nil, List.length_set]; omega)), (by omega), (by rw [show μ - 1 + 1 = μ from by omega]; exact e)⟩
    · have e := e.trans (cond_f c_4)
      have c_4' := of_decide_eq_false c_4
      rw [spec_l02Finite_x1_0]
      rw [e] at hk
      exact hk
theorem spec_l02Finite_ok : FnOk Try.prog 67 S_spec_l02Finite := by
  refine FnOk.body mix_ok E_spec_l02Finite_ok Try.func67 rfl (by kernel_rfl) (by kernel_rfl) ?_ ?_ ?_ ?_ ?_
  · intro args H K K' h hk
    simp only [S_spec_l02Finite] at *
    unfold F_spec_l02Finite at *
    split at hk
    · obtain ⟨l_list, i_list, bd_9, k⟩ := hk
      exact ⟨l_list, i_list, bd_9, h _ _ k⟩
    · exact hk.elim
  · intro _ args H K hk
    simp only [S_spec_l02Finite] at *
    unfold F_spec_l02Finite at *
    split at hk
    · obtain ⟨l_list, i_list, bd_9, k⟩ := hk
      exact ⟨_, k, fun K' k' => ⟨l_list, i_list, bd_9, k'⟩⟩
    · exact hk.elim
  · intro args H K hk
    simp only [S_spec_l02Finite] at *
    unfold F_spec_l02Finite at *
    split at hk
    · obtain ⟨l_list, i_list, bd_9, k⟩ := hk
      exact ⟨_, _, k⟩
    · exact hk.elim
  · intro hq; cases hq
  · have mm := @spec_l02Finite_main
    revert mm
    generalize bodyK Try.prog E_spec_l02Finite Try.f67 = Q
    intro mm args H K hk
    simp only [S_spec_l02Finite] at *
    unfold F_spec_l02Finite at *
    split at hk
    · exact mm _ _ _ H K hk
    · exact hk.elim
def p_spec_l03Long (l_list : List Nat) : Bool := (bif decide ((1 : Int) ≤ (l_list.length : Int)) then (bif decide (((l_list.length : Int) : Int) ≤ 128) then (p_spec_l02Finite l_list) else false) else false)
theorem p_spec_l03Long_eq (l_list : List Nat) : p_spec_l03Long l_list = (bif decide ((1 : Int) ≤ (l_list.length : Int)) then (bif decide (((l_list.length : Int) : Int) ≤ 128) then (p_spec_l02Finite l_list) else false) else false) := rfl
def T_spec_l03Long (list_a : Option Addr) (list_n : Nat) (list_e : Nat) (H : AHeap) (K : Bool → AHeap → Prop) : Prop := ∃ (l_list : List Nat), IsL fF H list_a list_n l_list ∧ l_list.length < 1073741824 ∧ K (p_spec_l03Long l_list) H
theorem T_spec_l03Long_i {list_a : Option Addr} {list_n : Nat} {list_e : Nat} {H : AHeap} {K : Bool → AHeap → Prop} (h : ∃ (l_list : List Nat), IsL fF H list_a list_n l_list ∧ l_list.length < 1073741824 ∧ K (p_spec_l03Long l_list) H) : T_spec_l03Long list_a list_n list_e H K := h
theorem spec_l03Long_t {l : List Nat} (h : p_spec_l03Long l = true) : 1 ≤ (l.length : Int) ∧ (l.length : Int) ≤ 128 := by
  rw [p_spec_l03Long_eq] at h
  by_cases h1 : (1 : Int) ≤ (l.length : Int)
  · rw [decide_eq_true h1, cond_true] at h
    by_cases h2 : (l.length : Int) ≤ 128
    · exact ⟨h1, h2⟩
    · rw [decide_eq_false h2] at h; cases h
  · rw [decide_eq_false h1] at h; cases h
/-! spec_l03Long: function 56 -/
def E_spec_l03Long : Env := envOf [(67, S_spec_l02Finite)]
def F_spec_l03Long : List Value → AHeap → (Value → AHeap → Prop) → Prop
  | [.slice list_a list_n list_e], H, K => T_spec_l03Long list_a list_n list_e H fun (r1 : Bool) (H' : AHeap) => K (.bool r1) H'
  | _, _, _ => False
def S_spec_l03Long : FSpec := { F := F_spec_l03Long, quiet := true, tame := false }
theorem spec_l03Long_vc (list_a : Option Addr) (list_n : Nat) (list_e : Nat) (H : AHeap) (K : Value → AHeap → Prop) : bodyK Try.prog E_spec_l03Long Try.f56 [.slice list_a list_n list_e] H K =
  (Br (decide ((1 : Int) ≤ (list_n : Int))) (Br (decide (((list_n : Int) : Int) ≤ 128)) (T_spec_l02Finite list_a list_n list_e H fun (r1 : Bool) (H1 : AHeap) => K (.bool r1) H1) (K (.bool false) H)) (K (.bool false) H)) := by kernel_rfl
theorem E_spec_l03Long_ok : ∀ g, FnOk Try.prog g (E_spec_l03Long g) := FnOk.envOf (by
  intro x hx
  simp only [List.mem_cons, List.not_mem_nil, or_false] at hx
  subst hx; exact spec_l02Finite_ok)
set_option maxHeartbeats 1000000 in
theorem spec_l03Long_main (list_a : Option Addr) (list_n : Nat) (list_e : Nat) (H : AHeap) (K : Value → AHeap → Prop) (h : T_spec_l03Long list_a list_n list_e H fun (r1 : Bool) (H' : AHeap) => K (.bool r1) H') : bodyK Try.prog E_spec_l03Long Try.f56 [.slice list_a list_n list_e] H K := by
  rw [spec_l03Long_vc]
  obtain ⟨l_list, i_list, bd_3, hk⟩ := h
  obtain rfl := i_list.eqn
  have e : (p_spec_l03Long l_list) = _ := rfl
  have e := e.trans (p_spec_l03Long_eq l_list)
  have g0 := Grow.refl H
  refine Br.intro (fun c_1 => ?_) (fun c_1 => ?_)
  · have e := e.trans (cond_t c_1)
    have c_1' := of_decide_eq_true c_1
    refine Br.intro (fun c_2 => ?_) (fun c_2 => ?_)
    · have e := e.trans (cond_t c_2)
      have c_2' := of_decide_eq_true c_2
      refine T_spec_l02Finite_i ⟨_, (i_list.grow g0), (by first | omega | (simp only [List.length_set, List.length_replicate, List.length_append, List.length_cons, List.length_nil, List.length_take, List.length_drop, marks_length]; done) | (simp only [List.length_set, List.length_replicate, List.length_append, List.length_cons, List.length_nil, List.length_take, List.length_drop, marks_length]; omega)), ?_⟩
      rw [e] at hk
      exact hk
    · have e := e.trans (cond_f c_2)
      have c_2' := of_decide_eq_false c_2
      rw [e] at hk
      exact hk
  · have e := e.trans (cond_f c_1)
    have c_1' := of_decide_eq_false c_1
    rw [e] at hk
    exact hk
theorem spec_l03Long_ok : FnOk Try.prog 56 S_spec_l03Long := by
  refine FnOk.body mix_ok E_spec_l03Long_ok Try.func56 rfl (by kernel_rfl) (by kernel_rfl) ?_ ?_ ?_ ?_ ?_
  · intro args H K K' h hk
    simp only [S_spec_l03Long] at *
    unfold F_spec_l03Long at *
    split at hk
    · obtain ⟨l_list, i_list, bd_3, k⟩ := hk
      exact ⟨l_list, i_list, bd_3, h _ _ k⟩
    · exact hk.elim
  · intro _ args H K hk
    simp only [S_spec_l03Long] at *
    unfold F_spec_l03Long at *
    split at hk
    · obtain ⟨l_list, i_list, bd_3, k⟩ := hk
      exact ⟨_, k, fun K' k' => ⟨l_list, i_list, bd_3, k'⟩⟩
    · exact hk.elim
  · intro args H K hk
    simp only [S_spec_l03Long] at *
    unfold F_spec_l03Long at *
    split at hk
    · obtain ⟨l_list, i_list, bd_3, k⟩ := hk
      exact ⟨_, _, k⟩
    · exact hk.elim
  · intro hq; cases hq
  · have mm := @spec_l03Long_main
    revert mm
    generalize bodyK Try.prog E_spec_l03Long Try.f56 = Q
    intro mm args H K hk
    simp only [S_spec_l03Long] at *
    unfold F_spec_l03Long at *
    split at hk
    · exact mm _ _ _ H K hk
    · exact hk.elim
def p_spec_l00In (n : Int) (low : Int) (high : Int) : Bool := (bif decide ((low : Int) ≤ n) then decide ((n : Int) ≤ high) else false)
theorem p_spec_l00In_eq (n : Int) (low : Int) (high : Int) : p_spec_l00In n low high = (bif decide ((low : Int) ≤ n) then decide ((n : Int) ≤ high) else false) := rfl
def T_spec_l00In (n : Int) (low : Int) (high : Int) (H : AHeap) (K : Bool → AHeap → Prop) : Prop := K (p_spec_l00In n low high) H
theorem spec_l00In_t {n a b : Int} (h : p_spec_l00In n a b = true) : a ≤ n ∧ n ≤ b := by
  unfold p_spec_l00In at h
  by_cases h1 : a ≤ n
  · rw [decide_eq_true h1, cond_true] at h; exact ⟨h1, of_decide_eq_true h⟩
  · rw [decide_eq_false h1] at h; cases h
theorem T_spec_l00In_i {n : Int} {low : Int} {high : Int} {H : AHeap} {K : Bool → AHeap → Prop} (h : K (p_spec_l00In n low high) H) : T_spec_l00In n low high H K := h
/-! spec_l00In: function 70 -/
def E_spec_l00In : Env := envOf []
def F_spec_l00In : List Value → AHeap → (Value → AHeap → Prop) → Prop
  | [.int .i64 n, .int .i64 low, .int .i64 high], H, K => T_spec_l00In n low high H fun (r1 : Bool) (H' : AHeap) => K (.bool r1) H'
  | _, _, _ => False
def S_spec_l00In : FSpec := { F := F_spec_l00In, quiet := true, tame := false }
theorem spec_l00In_vc (n : Int) (low : Int) (high : Int) (H : AHeap) (K : Value → AHeap → Prop) : bodyK Try.prog E_spec_l00In Try.f70 [.int .i64 n, .int .i64 low, .int .i64 high] H K =
  (Br (decide ((low : Int) ≤ n)) (K (.bool (decide ((n : Int) ≤ high))) H) (K (.bool false) H)) := by kernel_rfl
theorem E_spec_l00In_ok : ∀ g, FnOk Try.prog g (E_spec_l00In g) := FnOk.envOf (by
  intro x hx; cases hx)
set_option maxHeartbeats 1000000 in
theorem spec_l00In_main (n : Int) (low : Int) (high : Int) (H : AHeap) (K : Value → AHeap → Prop) (h : T_spec_l00In n low high H fun (r1 : Bool) (H' : AHeap) => K (.bool r1) H') : bodyK Try.prog E_spec_l00In Try.f70 [.int .i64 n, .int .i64 low, .int .i64 high] H K := by
  rw [spec_l00In_vc]
  unfold T_spec_l00In p_spec_l00In at h
  repeat' (first | exact h | (exfalso; simp_all; done) | (refine ⟨by decide, ?_⟩) | (refine Br.intro (fun hb => ?_) (fun hb => ?_) <;> (try simp only [hb, cond_true, cond_false, Bool.not_true, Bool.not_false] at h)))
theorem spec_l00In_ok : FnOk Try.prog 70 S_spec_l00In := by
  refine FnOk.body mix_ok E_spec_l00In_ok Try.func70 rfl (by kernel_rfl) (by kernel_rfl) ?_ ?_ ?_ ?_ ?_
  · intro args H K K' h hk
    simp only [S_spec_l00In] at *
    unfold F_spec_l00In at *
    split at hk
    · have k := hk
      exact h _ _ k
    · exact hk.elim
  · intro _ args H K hk
    simp only [S_spec_l00In] at *
    unfold F_spec_l00In at *
    split at hk
    · have k := hk
      exact ⟨_, k, fun K' k' => k'⟩
    · exact hk.elim
  · intro args H K hk
    simp only [S_spec_l00In] at *
    unfold F_spec_l00In at *
    split at hk
    · have k := hk
      exact ⟨_, _, k⟩
    · exact hk.elim
  · intro hq; cases hq
  · have mm := @spec_l00In_main
    revert mm
    generalize bodyK Try.prog E_spec_l00In Try.f70 = Q
    intro mm args H K hk
    simp only [S_spec_l00In] at *
    unfold F_spec_l00In at *
    split at hk
    · exact mm _ _ _ H K hk
    · exact hk.elim
def p_spec_l05Mean_l1 (l_list : List Nat) : Nat → Nat → Int → Nat
  | 0, _, _ => 0
  | μ + 1, sum, t7 => (bif decide ((t7 : Int) < (l_list.length : Int)) then (p_spec_l05Mean_l1 l_list μ (fadd .f32 sum (((l_list).getD (t7 : Int).toNat 0))) (t7 + 1)) else fdiv .f32 sum (FloatKind.nearest .f32 (l_list.length : Int)))
theorem p_spec_l05Mean_l1_s (l_list : List Nat) (μ : Nat) (sum : Nat) (t7 : Int) : p_spec_l05Mean_l1 l_list (μ + 1) sum t7 = (bif decide ((t7 : Int) < (l_list.length : Int)) then (p_spec_l05Mean_l1 l_list μ (fadd .f32 sum (((l_list).getD (t7 : Int).toNat 0))) (t7 + 1)) else fdiv .f32 sum (FloatKind.nearest .f32 (l_list.length : Int))) := rfl
def p_spec_l05Mean (l_list : List Nat) : Nat := (p_spec_l05Mean_l1 l_list (Int.toNat ((l_list.length : Int) - (0 : Int)) + 1) 0 (0 : Int))
theorem p_spec_l05Mean_eq (l_list : List Nat) : p_spec_l05Mean l_list = (p_spec_l05Mean_l1 l_list (Int.toNat ((l_list.length : Int) - (0 : Int)) + 1) 0 (0 : Int)) := rfl
def T_spec_l05Mean (list_a : Option Addr) (list_n : Nat) (list_e : Nat) (H : AHeap) (K : Nat → AHeap → Prop) : Prop := ∃ (l_list : List Nat), IsL fF H list_a list_n l_list ∧ l_list.length < 1073741824 ∧ K (p_spec_l05Mean l_list) H
theorem T_spec_l05Mean_i {list_a : Option Addr} {list_n : Nat} {list_e : Nat} {H : AHeap} {K : Nat → AHeap → Prop} (h : ∃ (l_list : List Nat), IsL fF H list_a list_n l_list ∧ l_list.length < 1073741824 ∧ K (p_spec_l05Mean l_list) H) : T_spec_l05Mean list_a list_n list_e H K := h

/-! spec_l05Mean: function 71 -/
def E_spec_l05Mean : Env := envOf []
def F_spec_l05Mean : List Value → AHeap → (Value → AHeap → Prop) → Prop
  | [.slice list_a list_n list_e], H, K => T_spec_l05Mean list_a list_n list_e H fun (r1 : Nat) (H' : AHeap) => K (.float .f32 r1) H'
  | _, _, _ => False
def S_spec_l05Mean : FSpec := { F := F_spec_l05Mean, quiet := true, tame := false }
theorem spec_l05Mean_vc (list_a : Option Addr) (list_n : Nat) (list_e : Nat) (H : AHeap) (K : Value → AHeap → Prop) : bodyK Try.prog E_spec_l05Mean Try.f71 [.slice list_a list_n list_e] H K =
  (loopK (exK Try.prog E_spec_l05Mean (cl (cl (cr (cl (cr (cr (bodyC Try.f71)))))))) [.slice list_a list_n list_e, undef, .float .f32 0, .float .f32 0, undef, .slice list_a list_n list_e, .int .i64 (list_n : Int), .int .i64 0, undef, undef, undef, undef, undef, undef, undef, undef, undef, undef, undef, undef, undef, undef] H (blockQ 0 (seqQ (exK Try.prog E_spec_l05Mean (cr (cr (cr (bodyC Try.f71))))) (retK Try.prog Try.f71 K)))) := by kernel_rfl
theorem spec_l05Mean_r1 (list_a : Option Addr) (list_e : Nat) (list_n : Nat) (sum : Nat) (t7 : Int) (g4 g8 g9 g10 g11 g12 g13 g14 g15 g16 : Value) (H : AHeap) (R : Post) : exK Try.prog E_spec_l05Mean (cl (cl (cr (cl (cr (cr (bodyC Try.f71))))))) [.slice list_a list_n list_e, undef, .float .f32 0, .float .f32 sum, g4, .slice list_a list_n list_e, .int .i64 (list_n : Int), .int .i64 t7, g8, g9, g10, g11, g12, g13, g14, g15, g16, undef, undef, undef, undef, undef] H R =
  (Br (decide ((t7 : Int) < (list_n : Int))) ((0 : Int) ≤ t7 ∧ t7 < (list_n : Int) ∧ ∃ b1 f1, (list_a : Option Addr) = some ⟨b1, f1, none⟩ ∧ ∃ x1 : Nat,  rdC H b1 (f1 + (t7 : Int).toNat * 1) = some (.float .f32 x1) ∧ R .normal [.slice list_a list_n list_e, undef, .float .f32 0, .float .f32 (fadd .f32 sum x1), .int .i64 t7, .slice list_a list_n list_e, .int .i64 (list_n : Int), .int .i64 (IntKind.wrap .i64 (t7 + 1)), .bool (decide ((t7 : Int) < (list_n : Int))), .int .i64 t7, .float .f32 sum, .slice list_a list_n list_e, .int .i64 t7, .pointer (some ⟨b1, f1 + (t7 : Int).toNat * 1, none⟩), .float .f32 x1, .float .f32 (fadd .f32 sum x1), .int .i64 (IntKind.wrap .i64 (t7 + 1)), undef, undef, undef, undef, undef] H) (R (.exit 0) [.slice list_a list_n list_e, undef, .float .f32 0, .float .f32 sum, g4, .slice list_a list_n list_e, .int .i64 (list_n : Int), .int .i64 t7, .bool (decide ((t7 : Int) < (list_n : Int))), g9, g10, g11, g12, g13, g14, g15, g16, undef, undef, undef, undef, undef] H)) := by kernel_rfl
def spec_l05Mean_I1 (list_a : Option Addr) (list_e : Nat) (list_n : Nat) (Inv : Nat → Nat → Int → AHeap → Prop) : Nat → List Value → AHeap → Prop := fun μ tm H => ∃ (sum : Nat), ∃ (t7 : Int), ∃ g4 g8 g9 g10 g11 g12 g13 g14 g15 g16, tm = [.slice list_a list_n list_e, undef, .float .f32 0, .float .f32 sum, g4, .slice list_a list_n list_e, .int .i64 (list_n : Int), .int .i64 t7, g8, g9, g10, g11, g12, g13, g14, g15, g16, undef, undef, undef, undef, undef] ∧ Inv μ sum t7 H
theorem spec_l05Mean_L1 (list_a : Option Addr) (list_e : Nat) (list_n : Nat) {Q : Post} (Inv : Nat → Nat → Int → AHeap → Prop) (ν : Nat) (sum : Nat) (t7 : Int) (g4 g8 g9 g10 g11 g12 g13 g14 g15 g16 : Value) (H : AHeap) (h0 : Inv ν sum t7 H)
    (hs : ∀ (μ : Nat) (sum : Nat) (t7 : Int) (g4 g8 g9 g10 g11 g12 g13 g14 g15 g16 : Value) (H : AHeap), Inv μ sum t7 H → exK Try.prog E_spec_l05Mean (cl (cl (cr (cl (cr (cr (bodyC Try.f71))))))) [.slice list_a list_n list_e, undef, .float .f32 0, .float .f32 sum, g4, .slice list_a list_n list_e, .int .i64 (list_n : Int), .int .i64 t7, g8, g9, g10, g11, g12, g13, g14, g15, g16, undef, undef, undef, undef, undef] H (loopQ (spec_l05Mean_I1 list_a list_e list_n Inv) μ Q)) : loopK (exK Try.prog E_spec_l05Mean (cl (cl (cr (cl (cr (cr (bodyC Try.f71)))))))) [.slice list_a list_n list_e, undef, .float .f32 0, .float .f32 sum, g4, .slice list_a list_n list_e, .int .i64 (list_n : Int), .int .i64 t7, g8, g9, g10, g11, g12, g13, g14, g15, g16, undef, undef, undef, undef, undef] H Q :=
  ⟨spec_l05Mean_I1 list_a list_e list_n Inv, ν, ⟨sum, t7, g4, g8, g9, g10, g11, g12, g13, g14, g15, g16, rfl, h0⟩, fun μ tm H h => by obtain ⟨sum, t7, g4, g8, g9, g10, g11, g12, g13, g14, g15, g16, rfl, hI⟩ := h; exact hs μ sum t7 g4 g8 g9 g10 g11 g12 g13 g14 g15 g16 H hI⟩
theorem spec_l05Mean_n1 {list_a : Option Addr} {list_e : Nat} {list_n : Nat} {Q : Post} {Inv : Nat → Nat → Int → AHeap → Prop} {μ : Nat} (μ' : Nat) {sum : Nat} {t7 : Int} {g4 g8 g9 g10 g11 g12 g13 g14 g15 g16 : Value} {H : AHeap} (hm : μ' < μ) (hI : Inv μ' sum t7 H) : loopQ (spec_l05Mean_I1 list_a list_e list_n Inv) μ Q .normal [.slice list_a list_n list_e, undef, .float .f32 0, .float .f32 sum, g4, .slice list_a list_n list_e, .int .i64 (list_n : Int), .int .i64 t7, g8, g9, g10, g11, g12, g13, g14, g15, g16, undef, undef, undef, undef, undef] H := ⟨μ', hm, sum, t7, g4, g8, g9, g10, g11, g12, g13, g14, g15, g16, rfl, hI⟩
theorem spec_l05Mean_x1_0 (list_a : Option Addr) (list_e : Nat) (list_n : Nat) (sum : Nat) (t7 : Int) (g4 g8 g9 g10 g11 g12 g13 g14 g15 g16 : Value) (H : AHeap) (K : Value → AHeap → Prop)  {I : Nat → List Value → AHeap → Prop} {μ : Nat} : loopQ I μ (blockQ 0 (seqQ (exK Try.prog E_spec_l05Mean (cr (cr (cr (bodyC Try.f71))))) (retK Try.prog Try.f71 K))) (.exit 0) [.slice list_a list_n list_e, undef, .float .f32 0, .float .f32 sum, g4, .slice list_a list_n list_e, .int .i64 (list_n : Int), .int .i64 t7, g8, g9, g10, g11, g12, g13, g14, g15, g16, undef, undef, undef, undef, undef] H =
  (K (.float .f32 (fdiv .f32 sum (FloatKind.nearest .f32 (list_n : Int)))) H) := by kernel_rfl
theorem E_spec_l05Mean_ok : ∀ g, FnOk Try.prog g (E_spec_l05Mean g) := FnOk.envOf (by
  intro x hx; cases hx)
set_option maxHeartbeats 1000000 in
theorem spec_l05Mean_main (list_a : Option Addr) (list_n : Nat) (list_e : Nat) (H : AHeap) (K : Value → AHeap → Prop) (h : T_spec_l05Mean list_a list_n list_e H fun (r1 : Nat) (H' : AHeap) => K (.float .f32 r1) H') : bodyK Try.prog E_spec_l05Mean Try.f71 [.slice list_a list_n list_e] H K := by
  rw [spec_l05Mean_vc]
  obtain ⟨l_list, i_list, bd_8, hk⟩ := h
  obtain rfl := i_list.eqn
  have e : (p_spec_l05Mean l_list) = _ := rfl
  have e := e.trans (p_spec_l05Mean_eq l_list)
  have g0 := Grow.refl H
  refine spec_l05Mean_L1 _ _ _ (fun (μ : Nat) (sum : Nat) (t7 : Int) (H_1 : AHeap) => H = H_1 ∧ (0 : Int) ≤ t7 ∧ t7 ≤ (l_list.length : Int) ∧ (l_list.length : Int) - t7 ≤ (μ : Int) ∧ p_spec_l05Mean l_list = p_spec_l05Mean_l1 l_list (μ + 1) sum t7) (Int.toNat ((l_list.length : Int) - (0 : Int))) _ _ _ _ _ _ _ _ _ _ _ _ H ?_ ?_
  · exact ⟨rfl, (by first | omega | (simp; done) | (simp; omega)), (by first | omega | (simp; done) | (simp; omega)), (by omega), e⟩
  · intro μ sum t7 g4 g8 g9 g10 g11 g12 g13 g14 g15 g16 H_1 hI
    obtain ⟨rfl, v_1, v_2, hμ, e⟩ := hI
    rw [spec_l05Mean_r1]
    have e := e.trans (p_spec_l05Mean_l1_s l_list μ sum t7)
    have l_3 := g0.1
    refine Br.intro (fun c_4 => ?_) (fun c_4 => ?_)
    · have e := e.trans (cond_t c_4)
      have c_4' := of_decide_eq_true c_4
      obtain ⟨b_5, f_6, q_7⟩ := ((i_list.grow g0)).pos (by first | omega | (simp only [List.length_set, List.length_replicate, List.length_append, List.length_cons, List.length_nil, List.length_take, List.length_drop, marks_length]; done) | (simp only [List.length_set, List.length_replicate, List.length_append, List.length_cons, List.length_nil, List.length_take, List.length_drop, marks_length]; omega))
      refine ⟨by omega, by omega, b_5, f_6, q_7, ?_⟩
      refine ⟨((l_list).getD (t7 : Int).toNat 0), (i_list).rd g0 q_7 (by omega) _, ?_⟩
      rw [show IntKind.wrap .i64 (t7 + 1) = (t7 + 1) from wrap64 (by omega) (by omega)]
      refine spec_l05Mean_n1 (μ - 1) (by omega) ⟨rfl, (by first | omega | (simp only [List.length_append, List.length_cons, List.length_nil, List.length_set]; done) | (simp only [List.length_append, List.length_cons, List.length_nil, List.length_set]; omega)), (by first | omega | (simp only [List.length_append, List.length_cons, List.length_nil, List.length_set]; done) | (simp only [List.length_append, List.length_cons, List.length_nil, List.length_set]; omega)), (by omega), (by rw [show μ - 1 + 1 = μ from by omega]; exact e)⟩
    · have e := e.trans (cond_f c_4)
      have c_4' := of_decide_eq_false c_4
      rw [spec_l05Mean_x1_0]
      rw [e] at hk
      exact hk
theorem spec_l05Mean_ok : FnOk Try.prog 71 S_spec_l05Mean := by
  refine FnOk.body mix_ok E_spec_l05Mean_ok Try.func71 rfl (by kernel_rfl) (by kernel_rfl) ?_ ?_ ?_ ?_ ?_
  · intro args H K K' h hk
    simp only [S_spec_l05Mean] at *
    unfold F_spec_l05Mean at *
    split at hk
    · obtain ⟨l_list, i_list, bd_8, k⟩ := hk
      exact ⟨l_list, i_list, bd_8, h _ _ k⟩
    · exact hk.elim
  · intro _ args H K hk
    simp only [S_spec_l05Mean] at *
    unfold F_spec_l05Mean at *
    split at hk
    · obtain ⟨l_list, i_list, bd_8, k⟩ := hk
      exact ⟨_, k, fun K' k' => ⟨l_list, i_list, bd_8, k'⟩⟩
    · exact hk.elim
  · intro args H K hk
    simp only [S_spec_l05Mean] at *
    unfold F_spec_l05Mean at *
    split at hk
    · obtain ⟨l_list, i_list, bd_8, k⟩ := hk
      exact ⟨_, _, k⟩
    · exact hk.elim
  · intro hq; cases hq
  · have mm := @spec_l05Mean_main
    revert mm
    generalize bodyK Try.prog E_spec_l05Mean Try.f71 = Q
    intro mm args H K hk
    simp only [S_spec_l05Mean] at *
    unfold F_spec_l05Mean at *
    split at hk
    · exact mm _ _ _ H K hk
    · exact hk.elim
def p_spec_l05Season_l2 (l_list : List Nat) (period : Int) (l_vout : List Nat) (j : Int) (k2_2 : (List Nat) → Int → (List Nat) → (List Nat)) : Nat → (List Nat) → Int → (List Nat) → (List Nat)
  | 0, _, _, _ => []
  | μ2 + 1, l_part, i, y2_1 => (bif decide ((i : Int) < (l_list.length : Int)) then (p_spec_l05Season_l2 l_list period l_vout j k2_2 μ2 ((l_part ++ [(((l_list).getD (i : Int).toNat 0))])) (i + period) y2_1) else (k2_2 l_part i y2_1))
theorem p_spec_l05Season_l2_s (l_list : List Nat) (period : Int) (l_vout : List Nat) (j : Int) (k2_2 : (List Nat) → Int → (List Nat) → (List Nat)) (μ2 : Nat) (l_part : List Nat) (i : Int) (y2_1 : List Nat) : p_spec_l05Season_l2 l_list period l_vout j k2_2 (μ2 + 1) l_part i y2_1 = (bif decide ((i : Int) < (l_list.length : Int)) then (p_spec_l05Season_l2 l_list period l_vout j k2_2 μ2 ((l_part ++ [(((l_list).getD (i : Int).toNat 0))])) (i + period) y2_1) else (k2_2 l_part i y2_1)) := rfl
def p_spec_l05Season_l1 (l_list : List Nat) (period : Int) : Nat → (List Nat) → Int → (List Nat)
  | 0, _, _ => []
  | μ + 1, l_vout, j => (bif decide ((j : Int) < period) then (p_spec_l05Season_l2 l_list period l_vout j (fun (l_part : List Nat) (i : Int) (y2_1 : List Nat) => (p_spec_l05Season_l1 l_list period μ ((y2_1 ++ [(fsub .f32 (p_spec_l05Mean l_part) (p_spec_l05Mean l_list))])) (j + 1))) (Int.toNat ((l_list.length : Int) - j) + 1) ([] : List Nat) j l_vout) else l_vout)
theorem p_spec_l05Season_l1_s (l_list : List Nat) (period : Int) (μ : Nat) (l_vout : List Nat) (j : Int) : p_spec_l05Season_l1 l_list period (μ + 1) l_vout j = (bif decide ((j : Int) < period) then (p_spec_l05Season_l2 l_list period l_vout j (fun (l_part : List Nat) (i : Int) (y2_1 : List Nat) => (p_spec_l05Season_l1 l_list period μ ((y2_1 ++ [(fsub .f32 (p_spec_l05Mean l_part) (p_spec_l05Mean l_list))])) (j + 1))) (Int.toNat ((l_list.length : Int) - j) + 1) ([] : List Nat) j l_vout) else l_vout) := rfl
def p_spec_l05Season (l_list : List Nat) (period : Int) : (List Nat) := (p_spec_l05Season_l1 l_list period (Int.toNat (period - (0 : Int)) + 1) ([] : List Nat) (0 : Int))
theorem p_spec_l05Season_eq (l_list : List Nat) (period : Int) : p_spec_l05Season l_list period = (p_spec_l05Season_l1 l_list period (Int.toNat (period - (0 : Int)) + 1) ([] : List Nat) (0 : Int)) := rfl
def T_spec_l05Season (list_a : Option Addr) (list_n : Nat) (list_e : Nat) (period : Int) (H : AHeap) (K : (Option Addr) → Nat → Nat → AHeap → Prop) : Prop := ∃ (l_list : List Nat), IsL fF H list_a list_n l_list ∧ l_list.length < 1073741824 ∧ 1 ≤ period ∧ period ≤ (l_list.length : Int) ∧ (l_list.length : Int) ≤ 128 ∧ ((∀ (r1_a : Option Addr) (r1_n r1_e : Nat), ∀ H' : AHeap, Grow H H' → OwnS fF H' H.length r1_a r1_n r1_e (p_spec_l05Season l_list period) → K r1_a r1_n r1_e H'))
theorem T_spec_l05Season_i {list_a : Option Addr} {list_n : Nat} {list_e : Nat} {period : Int} {H : AHeap} {K : (Option Addr) → Nat → Nat → AHeap → Prop} (h : ∃ (l_list : List Nat), IsL fF H list_a list_n l_list ∧ l_list.length < 1073741824 ∧ 1 ≤ period ∧ period ≤ (l_list.length : Int) ∧ (l_list.length : Int) ≤ 128 ∧ ((∀ (r1_a : Option Addr) (r1_n r1_e : Nat), ∀ H' : AHeap, Grow H H' → OwnS fF H' H.length r1_a r1_n r1_e (p_spec_l05Season l_list period) → K r1_a r1_n r1_e H'))) : T_spec_l05Season list_a list_n list_e period H K := h
theorem season_P {P : List Nat → Prop} {l : List Nat} {period : Int} (h1 : 1 ≤ period) (h2 : period ≤ 128) (hl : l.length ≤ 128) {vo : List Nat} {j : Int} {k : List Nat → Int → List Nat → List Nat} {y : List Nat} (hk : ∀ part i, P (k part i y)) :
    ∀ (μ : Nat) (part : List Nat) (i : Int), 0 ≤ i → (l.length : Int) - i ≤ μ → i ≤ 300 → P (p_spec_l05Season_l2 l period vo j k (μ + 1) part i y) := by
  intro μ
  induction μ with
  | zero =>
    intro part i h0 h hb
    rw [p_spec_l05Season_l2_s, decide_eq_false (by omega), cond_false]; exact hk _ _
  | succ μ ih =>
    intro part i h0 h hb
    rw [p_spec_l05Season_l2_s]
    by_cases hi : i < (l.length : Int)
    · rw [decide_eq_true hi, cond_true]
      exact ih _ _ (by omega) (by omega) (by omega)
    · rw [decide_eq_false hi, cond_false]; exact hk _ _
theorem season_len_go {l : List Nat} {period : Int} (h1 : 1 ≤ period) (h2 : period ≤ 128) (hl : l.length ≤ 128) : ∀ (μ : Nat) (o : List Nat) (j : Int), 0 ≤ j → j ≤ period → period - j < μ → ((p_spec_l05Season_l1 l period μ o j).length : Int) = o.length + (period - j) := by
  intro μ
  induction μ with
  | zero => intro o j _ _ h; omega
  | succ μ ih =>
    intro o j h0 hj h
    rw [p_spec_l05Season_l1_s]
    by_cases hi : j < period
    · rw [decide_eq_true hi, cond_true]
      refine season_P (P := fun r => ((r.length : Nat) : Int) = o.length + (period - j)) h1 h2 hl (fun part i => ?_) _ _ _ h0 (by omega) (by omega)
      rw [ih _ _ (by omega) (by omega) (by omega)]
      simp; omega
    · rw [decide_eq_false hi, cond_false]; omega
theorem spec_l05Season_len (l : List Nat) (period : Int) : 1 ≤ period → period ≤ (l.length : Int) → (l.length : Int) ≤ 128 → ((p_spec_l05Season l period).length : Int) = period := by
  intro h1 h2 h3
  rw [p_spec_l05Season_eq, season_len_go h1 (by omega) (by omega) _ _ _ (by omega) (by omega) (by omega)]
  simp
/-! spec_l05Season: function 117 -/
def E_spec_l05Season : Env := envOf [(71, S_spec_l05Mean)]
def F_spec_l05Season : List Value → AHeap → (Value → AHeap → Prop) → Prop
  | [.slice list_a list_n list_e, .int .i64 period], H, K => T_spec_l05Season list_a list_n list_e period H fun (r1_a : Option Addr) (r1_n : Nat) (r1_e : Nat) (H' : AHeap) => K (.slice r1_a r1_n r1_e) H'
  | _, _, _ => False
def S_spec_l05Season : FSpec := { F := F_spec_l05Season, quiet := false, tame := true }
theorem spec_l05Season_vc (list_a : Option Addr) (list_n : Nat) (list_e : Nat) (period : Int) (H : AHeap) (K : Value → AHeap → Prop) : bodyK Try.prog E_spec_l05Season Try.f117 [.slice list_a list_n list_e, .int .i64 period] H K =
  (T_spec_l05Mean list_a list_n list_e H fun (r1 : Nat) (H1 : AHeap) => Al [] H1 fun b1 H2 => loopK (exK Try.prog E_spec_l05Season (cl (cl (cr (cl (cr (cr (cr (bodyC Try.f117))))))))) [.slice list_a list_n list_e, .int .i64 period, undef, undef, .slice none 0 0, .float .f32 r1, .slice (some ⟨b1, 0, none⟩) 0 1, .int .i64 0, undef, undef, .slice list_a list_n list_e, .float .f32 r1, .slice (some ⟨b1, 0, none⟩) 0 1, undef, undef, undef, undef, undef, undef, undef, undef, undef, undef, undef, undef, undef, undef, undef, undef, undef, undef, undef, undef, undef, undef, undef, undef, undef, undef, undef, undef, undef] H2 (blockQ 0 (seqQ (exK Try.prog E_spec_l05Season (cr (cr (cr (cr (bodyC Try.f117)))))) (retK Try.prog Try.f117 K)))) := by kernel_rfl
theorem spec_l05Season_r1 (b1 : Nat) (list_a : Option Addr) (list_e : Nat) (list_n : Nat) (period : Int) (r1 : Nat) (vout_a : Option Addr) (vout_n : Nat) (vout_e : Nat) (j : Int) (g8 g9 g13 g14 g15 g16 g17 g18 g19 g20 g21 g22 g23 g24 g25 g26 g27 g28 g29 g30 g31 g32 g33 g34 g35 g36 g37 g38 g39 g40 : Value) (H : AHeap) (R : Post) : exK Try.prog E_spec_l05Season (cl (cl (cr (cl (cr (cr (cr (bodyC Try.f117)))))))) [.slice list_a list_n list_e, .int .i64 period, undef, undef, .slice none 0 0, .float .f32 r1, .slice vout_a vout_n vout_e, .int .i64 j, g8, g9, .slice list_a list_n list_e, .float .f32 r1, .slice (some ⟨b1, 0, none⟩) 0 1, g13, g14, g15, g16, g17, g18, g19, g20, g21, g22, g23, g24, g25, g26, g27, g28, g29, g30, g31, g32, g33, g34, g35, g36, g37, g38, g39, g40, undef] H R =
  (Br (decide ((j : Int) < period)) (Al [] H fun b2 H3 => loopK (exK Try.prog E_spec_l05Season (cl (cl (cr (cl (cr (cl (cl (cr (cl (cl (cr (cl (cr (cr (cr (bodyC Try.f117))))))))))))))))) [.slice list_a list_n list_e, .int .i64 period, undef, undef, .slice none 0 0, .float .f32 r1, .slice vout_a vout_n vout_e, .int .i64 j, .slice (some ⟨b2, 0, none⟩) 0 1, .int .i64 j, .slice list_a list_n list_e, .float .f32 r1, .slice (some ⟨b1, 0, none⟩) 0 1, .int .i64 j, .int .i64 period, .bool (decide ((j : Int) < period)), g16, g17, .slice (some ⟨b2, 0, none⟩) 0 1, .int .i64 j, g20, g21, g22, g23, g24, g25, g26, g27, g28, g29, g30, g31, g32, g33, g34, g35, g36, g37, g38, g39, g40, undef] H3 (blockQ 2 (seqQ (exK Try.prog E_spec_l05Season (cr (cr (cl (cl (cr (cl (cl (cr (cl (cr (cr (cr (bodyC Try.f117)))))))))))))) (blockQ 1 (seqQ (exK Try.prog E_spec_l05Season (cr (cr (cl (cl (cr (cl (cr (cr (cr (bodyC Try.f117))))))))))) (R)))))) (R (.exit 0) [.slice list_a list_n list_e, .int .i64 period, undef, undef, .slice none 0 0, .float .f32 r1, .slice vout_a vout_n vout_e, .int .i64 j, g8, g9, .slice list_a list_n list_e, .float .f32 r1, .slice (some ⟨b1, 0, none⟩) 0 1, .int .i64 j, .int .i64 period, .bool (decide ((j : Int) < period)), g16, g17, g18, g19, g20, g21, g22, g23, g24, g25, g26, g27, g28, g29, g30, g31, g32, g33, g34, g35, g36, g37, g38, g39, g40, undef] H)) := by kernel_rfl
def spec_l05Season_I1 (b1 : Nat) (list_a : Option Addr) (list_e : Nat) (list_n : Nat) (period : Int) (r1 : Nat) (Inv : Nat → (Option Addr) → Nat → Nat → Int → AHeap → Prop) : Nat → List Value → AHeap → Prop := fun μ tm H => ∃ (vout_a : Option Addr), ∃ (vout_n : Nat), ∃ (vout_e : Nat), ∃ (j : Int), ∃ g8 g9 g13 g14 g15 g16 g17 g18 g19 g20 g21 g22 g23 g24 g25 g26 g27 g28 g29 g30 g31 g32 g33 g34 g35 g36 g37 g38 g39 g40, tm = [.slice list_a list_n list_e, .int .i64 period, undef, undef, .slice none 0 0, .float .f32 r1, .slice vout_a vout_n vout_e, .int .i64 j, g8, g9, .slice list_a list_n list_e, .float .f32 r1, .slice (some ⟨b1, 0, none⟩) 0 1, g13, g14, g15, g16, g17, g18, g19, g20, g21, g22, g23, g24, g25, g26, g27, g28, g29, g30, g31, g32, g33, g34, g35, g36, g37, g38, g39, g40, undef] ∧ Inv μ vout_a vout_n vout_e j H
theorem spec_l05Season_L1 (b1 : Nat) (list_a : Option Addr) (list_e : Nat) (list_n : Nat) (period : Int) (r1 : Nat) {Q : Post} (Inv : Nat → (Option Addr) → Nat → Nat → Int → AHeap → Prop) (ν : Nat) (vout_a : Option Addr) (vout_n : Nat) (vout_e : Nat) (j : Int) (g8 g9 g13 g14 g15 g16 g17 g18 g19 g20 g21 g22 g23 g24 g25 g26 g27 g28 g29 g30 g31 g32 g33 g34 g35 g36 g37 g38 g39 g40 : Value) (H : AHeap) (h0 : Inv ν vout_a vout_n vout_e j H)
    (hs : ∀ (μ : Nat) (vout_a : Option Addr) (vout_n : Nat) (vout_e : Nat) (j : Int) (g8 g9 g13 g14 g15 g16 g17 g18 g19 g20 g21 g22 g23 g24 g25 g26 g27 g28 g29 g30 g31 g32 g33 g34 g35 g36 g37 g38 g39 g40 : Value) (H : AHeap), Inv μ vout_a vout_n vout_e j H → exK Try.prog E_spec_l05Season (cl (cl (cr (cl (cr (cr (cr (bodyC Try.f117)))))))) [.slice list_a list_n list_e, .int .i64 period, undef, undef, .slice none 0 0, .float .f32 r1, .slice vout_a vout_n vout_e, .int .i64 j, g8, g9, .slice list_a list_n list_e, .float .f32 r1, .slice (some ⟨b1, 0, none⟩) 0 1, g13, g14, g15, g16, g17, g18, g19, g20, g21, g22, g23, g24, g25, g26, g27, g28, g29, g30, g31, g32, g33, g34, g35, g36, g37, g38, g39, g40, undef] H (loopQ (spec_l05Season_I1 b1 list_a list_e list_n period r1 Inv) μ Q)) : loopK (exK Try.prog E_spec_l05Season (cl (cl (cr (cl (cr (cr (cr (bodyC Try.f117))))))))) [.slice list_a list_n list_e, .int .i64 period, undef, undef, .slice none 0 0, .float .f32 r1, .slice vout_a vout_n vout_e, .int .i64 j, g8, g9, .slice list_a list_n list_e, .float .f32 r1, .slice (some ⟨b1, 0, none⟩) 0 1, g13, g14, g15, g16, g17, g18, g19, g20, g21, g22, g23, g24, g25, g26, g27, g28, g29, g30, g31, g32, g33, g34, g35, g36, g37, g38, g39, g40, undef] H Q :=
  ⟨spec_l05Season_I1 b1 list_a list_e list_n period r1 Inv, ν, ⟨vout_a, vout_n, vout_e, j, g8, g9, g13, g14, g15, g16, g17, g18, g19, g20, g21, g22, g23, g24, g25, g26, g27, g28, g29, g30, g31, g32, g33, g34, g35, g36, g37, g38, g39, g40, rfl, h0⟩, fun μ tm H h => by obtain ⟨vout_a, vout_n, vout_e, j, g8, g9, g13, g14, g15, g16, g17, g18, g19, g20, g21, g22, g23, g24, g25, g26, g27, g28, g29, g30, g31, g32, g33, g34, g35, g36, g37, g38, g39, g40, rfl, hI⟩ := h; exact hs μ vout_a vout_n vout_e j g8 g9 g13 g14 g15 g16 g17 g18 g19 g20 g21 g22 g23 g24 g25 g26 g27 g28 g29 g30 g31 g32 g33 g34 g35 g36 g37 g38 g39 g40 H hI⟩
theorem spec_l05Season_n1 {b1 : Nat} {list_a : Option Addr} {list_e : Nat} {list_n : Nat} {period : Int} {r1 : Nat} {Q : Post} {Inv : Nat → (Option Addr) → Nat → Nat → Int → AHeap → Prop} {μ : Nat} (μ' : Nat) {vout_a : Option Addr} {vout_n : Nat} {vout_e : Nat} {j : Int} {g8 g9 g13 g14 g15 g16 g17 g18 g19 g20 g21 g22 g23 g24 g25 g26 g27 g28 g29 g30 g31 g32 g33 g34 g35 g36 g37 g38 g39 g40 : Value} {H : AHeap} (hm : μ' < μ) (hI : Inv μ' vout_a vout_n vout_e j H) : loopQ (spec_l05Season_I1 b1 list_a list_e list_n period r1 Inv) μ Q .normal [.slice list_a list_n list_e, .int .i64 period, undef, undef, .slice none 0 0, .float .f32 r1, .slice vout_a vout_n vout_e, .int .i64 j, g8, g9, .slice list_a list_n list_e, .float .f32 r1, .slice (some ⟨b1, 0, none⟩) 0 1, g13, g14, g15, g16, g17, g18, g19, g20, g21, g22, g23, g24, g25, g26, g27, g28, g29, g30, g31, g32, g33, g34, g35, g36, g37, g38, g39, g40, undef] H := ⟨μ', hm, vout_a, vout_n, vout_e, j, g8, g9, g13, g14, g15, g16, g17, g18, g19, g20, g21, g22, g23, g24, g25, g26, g27, g28, g29, g30, g31, g32, g33, g34, g35, g36, g37, g38, g39, g40, rfl, hI⟩
theorem spec_l05Season_x1_0 (b1 : Nat) (list_a : Option Addr) (list_e : Nat) (list_n : Nat) (period : Int) (r1 : Nat) (vout_a : Option Addr) (vout_n : Nat) (vout_e : Nat) (j : Int) (g8 g9 g13 g14 g15 g16 g17 g18 g19 g20 g21 g22 g23 g24 g25 g26 g27 g28 g29 g30 g31 g32 g33 g34 g35 g36 g37 g38 g39 g40 : Value) (H : AHeap) (K : Value → AHeap → Prop)  {I : Nat → List Value → AHeap → Prop} {μ : Nat} : loopQ I μ (blockQ 0 (seqQ (exK Try.prog E_spec_l05Season (cr (cr (cr (cr (bodyC Try.f117)))))) (retK Try.prog Try.f117 K))) (.exit 0) [.slice list_a list_n list_e, .int .i64 period, undef, undef, .slice none 0 0, .float .f32 r1, .slice vout_a vout_n vout_e, .int .i64 j, g8, g9, .slice list_a list_n list_e, .float .f32 r1, .slice (some ⟨b1, 0, none⟩) 0 1, g13, g14, g15, g16, g17, g18, g19, g20, g21, g22, g23, g24, g25, g26, g27, g28, g29, g30, g31, g32, g33, g34, g35, g36, g37, g38, g39, g40, undef] H =
  (K (.slice vout_a vout_n vout_e) H) := by kernel_rfl
theorem spec_l05Season_r2 (b1 : Nat) (b2 : Nat) (g16 : Value) (g17 : Value) (g34 : Value) (g35 : Value) (g36 : Value) (g37 : Value) (g38 : Value) (g39 : Value) (g40 : Value) (j : Int) (list_a : Option Addr) (list_e : Nat) (list_n : Nat) (period : Int) (r1 : Nat) (vout_a : Option Addr) (vout_e : Nat) (vout_n : Nat) (part_a : Option Addr) (part_n : Nat) (part_e : Nat) (i : Int) (g20 g21 g22 g23 g24 g25 g26 g27 g28 g29 g30 g31 g32 g33 : Value) (H : AHeap) (R : Post) : exK Try.prog E_spec_l05Season (cl (cl (cr (cl (cr (cl (cl (cr (cl (cl (cr (cl (cr (cr (cr (bodyC Try.f117)))))))))))))))) [.slice list_a list_n list_e, .int .i64 period, undef, undef, .slice none 0 0, .float .f32 r1, .slice vout_a vout_n vout_e, .int .i64 j, .slice part_a part_n part_e, .int .i64 i, .slice list_a list_n list_e, .float .f32 r1, .slice (some ⟨b1, 0, none⟩) 0 1, .int .i64 j, .int .i64 period, .bool (decide ((j : Int) < period)), g16, g17, .slice (some ⟨b2, 0, none⟩) 0 1, .int .i64 j, g20, g21, g22, g23, g24, g25, g26, g27, g28, g29, g30, g31, g32, g33, g34, g35, g36, g37, g38, g39, g40, undef] H R =
  (Br (decide ((i : Int) < (list_n : Int))) ((0 : Int) ≤ i ∧ i < (list_n : Int) ∧ ∃ b3 f1, (list_a : Option Addr) = some ⟨b3, f1, none⟩ ∧ ∃ x1 : Nat,  rdC H b3 (f1 + (i : Int).toNat * 1) = some (.float .f32 x1) ∧ Al [.float .f32 x1] H fun b4 H4 => ∃ o1 w1 : List Value, ownB H4 part_a part_n part_e 1 = some o1 ∧ rdS H4 (some ⟨b4, 0, none⟩) (1 * 1) = some w1 ∧ ((part_a : Option Addr) = none → 0 < (1 : Nat)) ∧ (part_n : Nat) + 1 < most ∧ Ap H4 (killB H4 part_a ++ [some ⟨o1 ++ w1, true⟩]) fun b5 H5 => R .normal [.slice list_a list_n list_e, .int .i64 period, undef, undef, .slice none 0 0, .float .f32 r1, .slice vout_a vout_n vout_e, .int .i64 j, .slice (some ⟨b5, 0, none⟩) (part_n + 1) 1, .int .i64 (IntKind.wrap .i64 (i + period)), .slice list_a list_n list_e, .float .f32 r1, .slice (some ⟨b1, 0, none⟩) 0 1, .int .i64 j, .int .i64 period, .bool (decide ((j : Int) < period)), g16, g17, .slice (some ⟨b2, 0, none⟩) 0 1, .int .i64 j, .int .i64 i, .slice list_a list_n list_e, .int .i64 (list_n : Int), .bool (decide ((i : Int) < (list_n : Int))), .int .i64 i, .int .i64 period, .int .i64 (IntKind.wrap .i64 (i + period)), .slice part_a part_n part_e, .slice list_a list_n list_e, .int .i64 i, .pointer (some ⟨b3, f1 + (i : Int).toNat * 1, none⟩), .float .f32 x1, .slice (some ⟨b4, 0, none⟩) 1 1, .slice (some ⟨b5, 0, none⟩) (part_n + 1) 1, g34, g35, g36, g37, g38, g39, g40, undef] H5) (R (.exit 2) [.slice list_a list_n list_e, .int .i64 period, undef, undef, .slice none 0 0, .float .f32 r1, .slice vout_a vout_n vout_e, .int .i64 j, .slice part_a part_n part_e, .int .i64 i, .slice list_a list_n list_e, .float .f32 r1, .slice (some ⟨b1, 0, none⟩) 0 1, .int .i64 j, .int .i64 period, .bool (decide ((j : Int) < period)), g16, g17, .slice (some ⟨b2, 0, none⟩) 0 1, .int .i64 j, .int .i64 i, .slice list_a list_n list_e, .int .i64 (list_n : Int), .bool (decide ((i : Int) < (list_n : Int))), g24, g25, g26, g27, g28, g29, g30, g31, g32, g33, g34, g35, g36, g37, g38, g39, g40, undef] H)) := by kernel_rfl
def spec_l05Season_I2 (b1 : Nat) (b2 : Nat) (g16 : Value) (g17 : Value) (g34 : Value) (g35 : Value) (g36 : Value) (g37 : Value) (g38 : Value) (g39 : Value) (g40 : Value) (j : Int) (list_a : Option Addr) (list_e : Nat) (list_n : Nat) (period : Int) (r1 : Nat) (vout_a : Option Addr) (vout_e : Nat) (vout_n : Nat) (Inv : Nat → (Option Addr) → Nat → Nat → Int → AHeap → Prop) : Nat → List Value → AHeap → Prop := fun μ tm H => ∃ (part_a : Option Addr), ∃ (part_n : Nat), ∃ (part_e : Nat), ∃ (i : Int), ∃ g20 g21 g22 g23 g24 g25 g26 g27 g28 g29 g30 g31 g32 g33, tm = [.slice list_a list_n list_e, .int .i64 period, undef, undef, .slice none 0 0, .float .f32 r1, .slice vout_a vout_n vout_e, .int .i64 j, .slice part_a part_n part_e, .int .i64 i, .slice list_a list_n list_e, .float .f32 r1, .slice (some ⟨b1, 0, none⟩) 0 1, .int .i64 j, .int .i64 period, .bool (decide ((j : Int) < period)), g16, g17, .slice (some ⟨b2, 0, none⟩) 0 1, .int .i64 j, g20, g21, g22, g23, g24, g25, g26, g27, g28, g29, g30, g31, g32, g33, g34, g35, g36, g37, g38, g39, g40, undef] ∧ Inv μ part_a part_n part_e i H
theorem spec_l05Season_L2 (b1 : Nat) (b2 : Nat) (g16 : Value) (g17 : Value) (g34 : Value) (g35 : Value) (g36 : Value) (g37 : Value) (g38 : Value) (g39 : Value) (g40 : Value) (j : Int) (list_a : Option Addr) (list_e : Nat) (list_n : Nat) (period : Int) (r1 : Nat) (vout_a : Option Addr) (vout_e : Nat) (vout_n : Nat) {Q : Post} (Inv : Nat → (Option Addr) → Nat → Nat → Int → AHeap → Prop) (ν : Nat) (part_a : Option Addr) (part_n : Nat) (part_e : Nat) (i : Int) (g20 g21 g22 g23 g24 g25 g26 g27 g28 g29 g30 g31 g32 g33 : Value) (H : AHeap) (h0 : Inv ν part_a part_n part_e i H)
    (hs : ∀ (μ : Nat) (part_a : Option Addr) (part_n : Nat) (part_e : Nat) (i : Int) (g20 g21 g22 g23 g24 g25 g26 g27 g28 g29 g30 g31 g32 g33 : Value) (H : AHeap), Inv μ part_a part_n part_e i H → exK Try.prog E_spec_l05Season (cl (cl (cr (cl (cr (cl (cl (cr (cl (cl (cr (cl (cr (cr (cr (bodyC Try.f117)))))))))))))))) [.slice list_a list_n list_e, .int .i64 period, undef, undef, .slice none 0 0, .float .f32 r1, .slice vout_a vout_n vout_e, .int .i64 j, .slice part_a part_n part_e, .int .i64 i, .slice list_a list_n list_e, .float .f32 r1, .slice (some ⟨b1, 0, none⟩) 0 1, .int .i64 j, .int .i64 period, .bool (decide ((j : Int) < period)), g16, g17, .slice (some ⟨b2, 0, none⟩) 0 1, .int .i64 j, g20, g21, g22, g23, g24, g25, g26, g27, g28, g29, g30, g31, g32, g33, g34, g35, g36, g37, g38, g39, g40, undef] H (loopQ (spec_l05Season_I2 b1 b2 g16 g17 g34 g35 g36 g37 g38 g39 g40 j list_a list_e list_n period r1 vout_a vout_e vout_n Inv) μ Q)) : loopK (exK Try.prog E_spec_l05Season (cl (cl (cr (cl (cr (cl (cl (cr (cl (cl (cr (cl (cr (cr (cr (bodyC Try.f117))))))))))))))))) [.slice list_a list_n list_e, .int .i64 period, undef, undef, .slice none 0 0, .float .f32 r1, .slice vout_a vout_n vout_e, .int .i64 j, .slice part_a part_n part_e, .int .i64 i, .slice list_a list_n list_e, .float .f32 r1, .slice (some ⟨b1, 0, none⟩) 0 1, .int .i64 j, .int .i64 period, .bool (decide ((j : Int) < period)), g16, g17, .slice (some ⟨b2, 0, none⟩) 0 1, .int .i64 j, g20, g21, g22, g23, g24, g25, g26, g27, g28, g29, g30, g31, g32, g33, g34, g35, g36, g37, g38, g39, g40, undef] H Q :=
  ⟨spec_l05Season_I2 b1 b2 g16 g17 g34 g35 g36 g37 g38 g39 g40 j list_a list_e list_n period r1 vout_a vout_e vout_n Inv, ν, ⟨part_a, part_n, part_e, i, g20, g21, g22, g23, g24, g25, g26, g27, g28, g29, g30, g31, g32, g33, rfl, h0⟩, fun μ tm H h => by obtain ⟨part_a, part_n, part_e, i, g20, g21, g22, g23, g24, g25, g26, g27, g28, g29, g30, g31, g32, g33, rfl, hI⟩ := h; exact hs μ part_a part_n part_e i g20 g21 g22 g23 g24 g25 g26 g27 g28 g29 g30 g31 g32 g33 H hI⟩
theorem spec_l05Season_n2 {b1 : Nat} {b2 : Nat} {g16 : Value} {g17 : Value} {g34 : Value} {g35 : Value} {g36 : Value} {g37 : Value} {g38 : Value} {g39 : Value} {g40 : Value} {j : Int} {list_a : Option Addr} {list_e : Nat} {list_n : Nat} {period : Int} {r1 : Nat} {vout_a : Option Addr} {vout_e : Nat} {vout_n : Nat} {Q : Post} {Inv : Nat → (Option Addr) → Nat → Nat → Int → AHeap → Prop} {μ : Nat} (μ' : Nat) {part_a : Option Addr} {part_n : Nat} {part_e : Nat} {i : Int} {g20 g21 g22 g23 g24 g25 g26 g27 g28 g29 g30 g31 g32 g33 : Value} {H : AHeap} (hm : μ' < μ) (hI : Inv μ' part_a part_n part_e i H) : loopQ (spec_l05Season_I2 b1 b2 g16 g17 g34 g35 g36 g37 g38 g39 g40 j list_a list_e list_n period r1 vout_a vout_e vout_n Inv) μ Q .normal [.slice list_a list_n list_e, .int .i64 period, undef, undef, .slice none 0 0, .float .f32 r1, .slice vout_a vout_n vout_e, .int .i64 j, .slice part_a part_n part_e, .int .i64 i, .slice list_a list_n list_e, .float .f32 r1, .slice (some ⟨b1, 0, none⟩) 0 1, .int .i64 j, .int .i64 period, .bool (decide ((j : Int) < period)), g16, g17, .slice (some ⟨b2, 0, none⟩) 0 1, .int .i64 j, g20, g21, g22, g23, g24, g25, g26, g27, g28, g29, g30, g31, g32, g33, g34, g35, g36, g37, g38, g39, g40, undef] H := ⟨μ', hm, part_a, part_n, part_e, i, g20, g21, g22, g23, g24, g25, g26, g27, g28, g29, g30, g31, g32, g33, rfl, hI⟩
theorem spec_l05Season_x2_2 (b1 : Nat) (b2 : Nat) (g16 : Value) (g17 : Value) (g34 : Value) (g35 : Value) (g36 : Value) (g37 : Value) (g38 : Value) (g39 : Value) (g40 : Value) (j : Int) (list_a : Option Addr) (list_e : Nat) (list_n : Nat) (period : Int) (r1 : Nat) (vout_a : Option Addr) (vout_e : Nat) (vout_n : Nat) (part_a : Option Addr) (part_n : Nat) (part_e : Nat) (i : Int) (g20 g21 g22 g23 g24 g25 g26 g27 g28 g29 g30 g31 g32 g33 : Value) (H : AHeap)  (R : Post) {I : Nat → List Value → AHeap → Prop} {μ : Nat} : loopQ I μ (blockQ 2 (seqQ (exK Try.prog E_spec_l05Season (cr (cr (cl (cl (cr (cl (cl (cr (cl (cr (cr (cr (bodyC Try.f117)))))))))))))) (blockQ 1 (seqQ (exK Try.prog E_spec_l05Season (cr (cr (cl (cl (cr (cl (cr (cr (cr (bodyC Try.f117))))))))))) (R))))) (.exit 2) [.slice list_a list_n list_e, .int .i64 period, undef, undef, .slice none 0 0, .float .f32 r1, .slice vout_a vout_n vout_e, .int .i64 j, .slice part_a part_n part_e, .int .i64 i, .slice list_a list_n list_e, .float .f32 r1, .slice (some ⟨b1, 0, none⟩) 0 1, .int .i64 j, .int .i64 period, .bool (decide ((j : Int) < period)), g16, g17, .slice (some ⟨b2, 0, none⟩) 0 1, .int .i64 j, g20, g21, g22, g23, g24, g25, g26, g27, g28, g29, g30, g31, g32, g33, g34, g35, g36, g37, g38, g39, g40, undef] H =
  (T_spec_l05Mean part_a part_n part_e H fun (r2 : Nat) (H6 : AHeap) => Al [.float .f32 (fsub .f32 r2 r1)] H6 fun b6 H7 => ∃ o2 w2 : List Value, ownB H7 vout_a vout_n vout_e 1 = some o2 ∧ rdS H7 (some ⟨b6, 0, none⟩) (1 * 1) = some w2 ∧ ((vout_a : Option Addr) = none → 0 < (1 : Nat)) ∧ (vout_n : Nat) + 1 < most ∧ Ap H7 (killB H7 vout_a ++ [some ⟨o2 ++ w2, true⟩]) fun b7 H8 => R .normal [.slice list_a list_n list_e, .int .i64 period, undef, undef, .slice none 0 0, .float .f32 r1, .slice (some ⟨b7, 0, none⟩) (vout_n + 1) 1, .int .i64 (IntKind.wrap .i64 (j + 1)), .slice part_a part_n part_e, .int .i64 i, .slice list_a list_n list_e, .float .f32 r1, .slice (some ⟨b1, 0, none⟩) 0 1, .int .i64 j, .int .i64 period, .bool (decide ((j : Int) < period)), .int .i64 j, .int .i64 (IntKind.wrap .i64 (j + 1)), .slice (some ⟨b2, 0, none⟩) 0 1, .int .i64 j, g20, g21, g22, g23, g24, g25, g26, g27, g28, g29, g30, g31, g32, g33, .slice vout_a vout_n vout_e, .slice part_a part_n part_e, .float .f32 r2, .float .f32 r1, .float .f32 (fsub .f32 r2 r1), .slice (some ⟨b6, 0, none⟩) 1 1, .slice (some ⟨b7, 0, none⟩) (vout_n + 1) 1, undef] H8) := by kernel_rfl
theorem E_spec_l05Season_ok : ∀ g, FnOk Try.prog g (E_spec_l05Season g) := FnOk.envOf (by
  intro x hx
  simp only [List.mem_cons, List.not_mem_nil, or_false] at hx
  subst hx; exact spec_l05Mean_ok)
set_option maxHeartbeats 1000000 in
theorem spec_l05Season_main (list_a : Option Addr) (list_n : Nat) (list_e : Nat) (period : Int) (H : AHeap) (K : Value → AHeap → Prop) (h : T_spec_l05Season list_a list_n list_e period H fun (r1_a : Option Addr) (r1_n : Nat) (r1_e : Nat) (H' : AHeap) => K (.slice r1_a r1_n r1_e) H') : bodyK Try.prog E_spec_l05Season Try.f117 [.slice list_a list_n list_e, .int .i64 period] H K := by
  rw [spec_l05Season_vc]
  obtain ⟨l_list, i_list, bd_106, pr0, pr1, pr2, hk⟩ := h
  obtain rfl := i_list.eqn
  have e : (p_spec_l05Season l_list period) = _ := rfl
  have e := e.trans (p_spec_l05Season_eq l_list period)
  have g0 := Grow.refl H
  refine T_spec_l05Mean_i ⟨_, (i_list.grow g0), (by first | omega | (simp only [List.length_set, List.length_replicate, List.length_append, List.length_cons, List.length_nil, List.length_take, List.length_drop, marks_length]; done) | (simp only [List.length_set, List.length_replicate, List.length_append, List.length_cons, List.length_nil, List.length_take, List.length_drop, marks_length]; omega)), ?_⟩
  refine Al.intro (fun b_1 H_1 hb_2 hl_3 g_4 o_5 => ?_)
  have o_5 : Own H_1 b_1 ((([] : List Nat)).map fF) := o_5
  have l_7 := g_4.1
  have g_8 := g0.trans g_4
  have l_9 := g_8.1
  have w_105 := o_5.lt
  refine spec_l05Season_L1 _ _ _ _ _ _ (fun (μ : Nat) (vout_a : Option Addr) (vout_n : Nat) (vout_e : Nat) (j : Int) (H_2 : AHeap) => ∃ (l_vout : List Nat), ∃ (b_10 : Nat), vout_a = some ⟨b_10, 0, none⟩ ∧ vout_n = l_vout.length ∧ vout_e = 1 ∧ Own H_2 b_10 (l_vout.map fF) ∧ Grow H H_2 ∧ H.length ≤ b_10 ∧ (0 : Int) ≤ j ∧ ((j ≤ period ∨ j ≤ (0 : Int))) ∧ (l_vout.length : Int) ≤ j - (0 : Int) + 0 ∧ period - j ≤ (μ : Int) ∧ p_spec_l05Season l_list period = p_spec_l05Season_l1 l_list period (μ + 1) l_vout j) (Int.toNat (period - (0 : Int))) _ _ _ _ _ _ _ _ _ _ _ _ _ _ _ _ _ _ _ _ _ _ _ _ _ _ _ _ _ _ _ _ _ _ H_1 ?_ ?_
  · exact ⟨_, _, rfl, rfl, rfl, o_5, g_8, (by omega), (by first | omega | (simp; done) | (simp; omega)), (by first | omega | (simp; done) | (simp; omega)), (by first | omega | (simp; done) | (simp; omega)), (by omega), e⟩
  · intro μ vout_a vout_n vout_e j g8 g9 g13 g14 g15 g16 g17 g18 g19 g20 g21 g22 g23 g24 g25 g26 g27 g28 g29 g30 g31 g32 g33 g34 g35 g36 g37 g38 g39 g40 H_2 hI
    obtain ⟨l_vout, b_10, rfl, rfl, rfl, o_11, g_12, l_13, v_14, v_15, v_16, hμ, e⟩ := hI
    rw [spec_l05Season_r1]
    have e := e.trans (p_spec_l05Season_l1_s l_list period μ l_vout j)
    have w_17 := o_11.lt
    have l_18 := g_12.1
    refine Br.intro (fun c_19 => ?_) (fun c_19 => ?_)
    · have e := e.trans (cond_t c_19)
      have c_19' := of_decide_eq_true c_19
      refine Al.intro (fun b_20 H_3 hb_21 hl_22 g_23 o_24 => ?_)
      have o_24 : Own H_3 b_20 ((([] : List Nat)).map fF) := o_24
      have l_26 := g_23.1
      have g_27 := g_12.trans g_23
      have l_28 := g_27.1
      have o_29 := o_11.grow g_23
      have w_30 := o_29.lt
      have w_104 := o_24.lt
      refine spec_l05Season_L2 _ _ _ _ _ _ _ _ _ _ _ _ _ _ _ _ _ _ _ _ (fun (μ2 : Nat) (part_a : Option Addr) (part_n : Nat) (part_e : Nat) (i : Int) (H_4 : AHeap) => ∃ (l_part : List Nat), ∃ (b_31 : Nat), ∃ (y2_1 : List Nat), part_a = some ⟨b_31, 0, none⟩ ∧ part_n = l_part.length ∧ part_e = 1 ∧ Own H_4 b_31 (l_part.map fF) ∧ Own H_4 b_10 (y2_1.map fF) ∧ y2_1.length = l_vout.length ∧ (b_31 ≠ b_10) ∧ Grow H H_4 ∧ H.length ≤ b_31 ∧ j ≤ i ∧ (l_part.length : Int) ≤ i - j + 0 ∧ i ≤ (l_list.length : Int) + period ∧ (l_list.length : Int) - i ≤ (μ2 : Int) ∧ p_spec_l05Season l_list period = p_spec_l05Season_l2 l_list period l_vout j (fun (l_part : List Nat) (i : Int) (y2_1 : List Nat) => (p_spec_l05Season_l1 l_list period μ ((y2_1 ++ [(fsub .f32 (p_spec_l05Mean l_part) (p_spec_l05Mean l_list))])) (j + 1))) (μ2 + 1) l_part i y2_1) (Int.toNat ((l_list.length : Int) - j)) _ _ _ _ _ _ _ _ _ _ _ _ _ _ _ _ _ _ H_3 ?_ ?_
      · exact ⟨_, _, _, rfl, rfl, rfl, o_24, o_29, (by first | rfl | (simp; done)), (by omega), g_27, (by omega), (by first | omega | (simp; done) | (simp; omega)), (by first | omega | (simp; done) | (simp; omega)), (by first | omega | (simp; done) | (simp; omega)), (by omega), e⟩
      · intro μ2 part_a part_n part_e i g20 g21 g22 g23 g24 g25 g26 g27 g28 g29 g30 g31 g32 g33 H_4 hI
        obtain ⟨l_part, b_31, y2_1, rfl, rfl, rfl, o_32, o_33, y_34, n_35, g_36, l_37, v_38, v_39, v_40, hμ, e⟩ := hI
        rw [spec_l05Season_r2]
        have e := e.trans (p_spec_l05Season_l2_s l_list period l_vout j (fun (l_part : List Nat) (i : Int) (y2_1 : List Nat) => (p_spec_l05Season_l1 l_list period μ ((y2_1 ++ [(fsub .f32 (p_spec_l05Mean l_part) (p_spec_l05Mean l_list))])) (j + 1))) μ2 l_part i y2_1)
        have w_41 := o_33.lt
        have w_42 := o_32.lt
        have l_43 := g_36.1
        refine Br.intro (fun c_44 => ?_) (fun c_44 => ?_)
        · have e := e.trans (cond_t c_44)
          have c_44' := of_decide_eq_true c_44
          obtain ⟨b_45, f_46, q_47⟩ := ((i_list.grow g_36)).pos (by first | omega | (simp only [List.length_set, List.length_replicate, List.length_append, List.length_cons, List.length_nil, List.length_take, List.length_drop, marks_length]; done) | (simp only [List.length_set, List.length_replicate, List.length_append, List.length_cons, List.length_nil, List.length_take, List.length_drop, marks_length]; omega))
          refine ⟨by omega, by omega, b_45, f_46, q_47, ?_⟩
          refine ⟨((l_list).getD (i : Int).toNat 0), (i_list).rd g_36 q_47 (by omega) _, ?_⟩
          refine Al.intro (fun b_48 H_5 hb_49 hl_50 g_51 o_52 => ?_)
          have o_52 : Own H_5 b_48 (([(((l_list).getD (i : Int).toNat 0))]).map fF) := o_52
          have l_54 := g_51.1
          have g_55 := g_36.trans g_51
          have l_56 := g_55.1
          have o_57 := o_33.grow g_51
          have w_58 := o_57.lt
          have o_59 := o_32.grow g_51
          have w_60 := o_59.lt
          have w_75 := o_52.lt
          refine ⟨_, _, o_59.ownB (by first | (simp only [List.length_map, List.length_cons, List.length_nil, List.length_append]; done) | (simp only [List.length_map, List.length_cons, List.length_nil, List.length_append]; omega)) rfl, (isl_rdS (o_52.isL rfl)), (fun h => by cases h), (by have := most_eq; omega), ?_⟩
          refine Ap.app o_59 rfl rfl (fun b_65 H_6 q_73 hl_61 o_62 k_63 => ?_)
          have o_62 := map_snoc o_62
          have l_66 := k_63.1
          have g_67 := g_55.keep (b := b_31) (by omega) k_63
          have l_68 := g_67.1
          have o_69 := o_57.keep (by omega) k_63
          have w_70 := o_69.lt
          have o_71 := o_52.keep (by omega) k_63
          have w_72 := o_71.lt
          have w_74 := o_62.lt
          rw [show IntKind.wrap .i64 (i + period) = (i + period) from wrap64 (by omega) (by omega)]
          refine spec_l05Season_n2 (μ2 - 1) (by omega) ⟨_, _, _, rfl, (by first | (simp only [List.length_append, List.length_cons, List.length_nil]; done) | (simp only [List.length_append, List.length_cons, List.length_nil]; omega)), rfl, o_62, o_69, (by first | assumption | omega | (simp only [List.length_set]; first | rfl | assumption | omega)), (by omega), g_67, (by omega), (by first | omega | (simp only [List.length_append, List.length_cons, List.length_nil, List.length_set]; done) | (simp only [List.length_append, List.length_cons, List.length_nil, List.length_set]; omega)), (by first | omega | (simp only [List.length_append, List.length_cons, List.length_nil, List.length_set]; done) | (simp only [List.length_append, List.length_cons, List.length_nil, List.length_set]; omega)), (by first | omega | (simp only [List.length_append, List.length_cons, List.length_nil, List.length_set]; done) | (simp only [List.length_append, List.length_cons, List.length_nil, List.length_set]; omega)), (by omega), (by rw [show μ2 - 1 + 1 = μ2 from by omega]; exact e)⟩
        · have e := e.trans (cond_f c_44)
          have c_44' := of_decide_eq_false c_44
          rw [spec_l05Season_x2_2]
          refine T_spec_l05Mean_i ⟨_, (o_32.isL rfl), (by first | omega | (simp only [List.length_set, List.length_replicate, List.length_append, List.length_cons, List.length_nil, List.length_take, List.length_drop, marks_length]; done) | (simp only [List.length_set, List.length_replicate, List.length_append, List.length_cons, List.length_nil, List.length_take, List.length_drop, marks_length]; omega)), ?_⟩
          refine Al.intro (fun b_76 H_7 hb_77 hl_78 g_79 o_80 => ?_)
          have o_80 : Own H_7 b_76 (([(fsub .f32 (p_spec_l05Mean l_part) (p_spec_l05Mean l_list))]).map fF) := o_80
          have l_82 := g_79.1
          have g_83 := g_36.trans g_79
          have l_84 := g_83.1
          have o_85 := o_33.grow g_79
          have w_86 := o_85.lt
          have o_87 := o_32.grow g_79
          have w_88 := o_87.lt
          have w_103 := o_80.lt
          refine ⟨_, _, o_85.ownB (by first | (simp only [List.length_map, List.length_cons, List.length_nil, List.length_append]; done) | (simp only [List.length_map, List.length_cons, List.length_nil, List.length_append]; omega)) rfl, (isl_rdS (o_80.isL rfl)), (fun h => by cases h), (by have := most_eq; omega), ?_⟩
          refine Ap.app o_85 rfl rfl (fun b_93 H_8 q_101 hl_89 o_90 k_91 => ?_)
          have o_90 := map_snoc o_90
          have l_94 := k_91.1
          have g_95 := g_83.keep (b := b_10) (by omega) k_91
          have l_96 := g_95.1
          have o_97 := o_87.keep (by omega) k_91
          have w_98 := o_97.lt
          have o_99 := o_80.keep (by omega) k_91
          have w_100 := o_99.lt
          have w_102 := o_90.lt
          rw [show IntKind.wrap .i64 (j + 1) = (j + 1) from wrap64 (by omega) (by omega)]
          refine spec_l05Season_n1 (μ - 1) (by omega) ⟨_, _, rfl, (by first | (simp only [List.length_append, List.length_cons, List.length_nil]; done) | (simp only [List.length_append, List.length_cons, List.length_nil]; omega)), rfl, o_90, g_95, (by omega), (by first | omega | (simp only [List.length_append, List.length_cons, List.length_nil, List.length_set]; done) | (simp only [List.length_append, List.length_cons, List.length_nil, List.length_set]; omega)), (by first | omega | (simp only [List.length_append, List.length_cons, List.length_nil, List.length_set]; done) | (simp only [List.length_append, List.length_cons, List.length_nil, List.length_set]; omega)), (by first | omega | (simp only [List.length_append, List.length_cons, List.length_nil, List.length_set]; done) | (simp only [List.length_append, List.length_cons, List.length_nil, List.length_set]; omega)), (by omega), (by rw [show μ - 1 + 1 = μ from by omega]; exact e)⟩
    · have e := e.trans (cond_f c_19)
      have c_19' := of_decide_eq_false c_19
      rw [spec_l05Season_x1_0]
      rw [e] at hk
      exact hk _ _ _ H_2 g_12 (o_11.ownS rfl (by omega))
theorem spec_l05Season_ok : FnOk Try.prog 117 S_spec_l05Season := by
  refine FnOk.body mix_ok E_spec_l05Season_ok Try.func117 rfl (by kernel_rfl) (by kernel_rfl) ?_ ?_ ?_ ?_ ?_
  · intro args H K K' h hk
    simp only [S_spec_l05Season] at *
    unfold F_spec_l05Season at *
    split at hk
    · obtain ⟨l_list, i_list, bd_106, pr0, pr1, pr2, k⟩ := hk
      exact ⟨l_list, i_list, bd_106, pr0, pr1, pr2, (fun r1_a r1_n r1_e H' gg ow0 => h _ _ (k r1_a r1_n r1_e H' gg ow0))⟩
    · exact hk.elim
  · intro hq; cases hq
  · intro args H K hk
    simp only [S_spec_l05Season] at *
    unfold F_spec_l05Season at *
    split at hk
    · obtain ⟨l_list, i_list, bd_106, pr0, pr1, pr2, k⟩ := hk
      exact liveS fun a n e H1 g o => ⟨_, _, k a n e H1 g o⟩
    · exact hk.elim
  · intro _ args H K hk
    simp only [S_spec_l05Season] at *
    unfold F_spec_l05Season at *
    split at hk
    · obtain ⟨l_list, i_list, bd_106, pr0, pr1, pr2, k⟩ := hk
      exact ⟨l_list, i_list, bd_106, pr0, pr1, pr2, (fun r1_a r1_n r1_e H' gg ow0 => ⟨gg, k r1_a r1_n r1_e H' gg ow0⟩)⟩
    · exact hk.elim
  · have mm := @spec_l05Season_main
    revert mm
    generalize bodyK Try.prog E_spec_l05Season Try.f117 = Q
    intro mm args H K hk
    simp only [S_spec_l05Season] at *
    unfold F_spec_l05Season at *
    split at hk
    · exact mm _ _ _ _ H K hk
    · exact hk.elim
def p_spec_SeasonOf (l_list : List Nat) (period : Int) : (List Nat) × Bool := (bif !(p_spec_l03Long l_list) then ([], false) else (bif !((p_spec_l00In period (1 : Int) (l_list.length : Int))) then ([], false) else (bif !((p_spec_l02Finite (p_spec_l05Season l_list period))) then ([], false) else ((p_spec_l05Season l_list period), true))))
theorem p_spec_SeasonOf_eq (l_list : List Nat) (period : Int) : p_spec_SeasonOf l_list period = (bif !(p_spec_l03Long l_list) then ([], false) else (bif !((p_spec_l00In period (1 : Int) (l_list.length : Int))) then ([], false) else (bif !((p_spec_l02Finite (p_spec_l05Season l_list period))) then ([], false) else ((p_spec_l05Season l_list period), true)))) := rfl
def T_spec_SeasonOf (list_a : Option Addr) (list_n : Nat) (list_e : Nat) (period : Int) (H : AHeap) (K : (Option Addr) → Nat → Nat → Bool → AHeap → Prop) : Prop := ∃ (l_list : List Nat), IsL fF H list_a list_n l_list ∧ l_list.length < 1073741824 ∧ ((∀ (r1_a : Option Addr) (r1_n r1_e : Nat), ∀ H' : AHeap, Grow H H' → OwnS fF H' H.length r1_a r1_n r1_e ((p_spec_SeasonOf l_list period).1) → K r1_a r1_n r1_e ((p_spec_SeasonOf l_list period).2) H'))
theorem T_spec_SeasonOf_i {list_a : Option Addr} {list_n : Nat} {list_e : Nat} {period : Int} {H : AHeap} {K : (Option Addr) → Nat → Nat → Bool → AHeap → Prop} (h : ∃ (l_list : List Nat), IsL fF H list_a list_n l_list ∧ l_list.length < 1073741824 ∧ ((∀ (r1_a : Option Addr) (r1_n r1_e : Nat), ∀ H' : AHeap, Grow H H' → OwnS fF H' H.length r1_a r1_n r1_e ((p_spec_SeasonOf l_list period).1) → K r1_a r1_n r1_e ((p_spec_SeasonOf l_list period).2) H'))) : T_spec_SeasonOf list_a list_n list_e period H K := h
theorem spec_SeasonOf_cases (l : List Nat) (period : Int) : p_spec_SeasonOf l period = ([], false) ∨ (1 ≤ period ∧ period ≤ (l.length : Int) ∧ (l.length : Int) ≤ 128 ∧ p_spec_SeasonOf l period = (p_spec_l05Season l period, true)) := by
  rw [p_spec_SeasonOf_eq]
  cases h1 : p_spec_l03Long l
  · left; rfl
  · cases h2 : p_spec_l00In period 1 (l.length : Int)
    · left; rfl
    · have a := spec_l03Long_t h1
      have b := spec_l00In_t h2
      cases p_spec_l02Finite (p_spec_l05Season l period)
      · left; rfl
      · right; exact ⟨b.1, b.2, a.2, rfl⟩
theorem spec_SeasonOf_t {l : List Nat} {period : Int} (h : (p_spec_SeasonOf l period).2 = true) : 1 ≤ period ∧ ((p_spec_SeasonOf l period).1.length : Int) = period := by
  rcases spec_SeasonOf_cases l period with e | ⟨a, b, c, e⟩
  · rw [e] at h; cases h
  · rw [e]; exact ⟨a, spec_l05Season_len l period a b c⟩
theorem spec_SeasonOf_len (l : List Nat) (period : Int) : (p_spec_SeasonOf l period).1.length ≤ 128 := by
  rcases spec_SeasonOf_cases l period with e | ⟨a, b, c, e⟩
  · rw [e]; exact Nat.zero_le _
  · rw [e]; have := spec_l05Season_len l period a b c; show (p_spec_l05Season l period).length ≤ 128; omega
/-! spec_SeasonOf: function 66 -/
def E_spec_SeasonOf : Env := envOf [(56, S_spec_l03Long), (70, S_spec_l00In), (117, S_spec_l05Season), (67, S_spec_l02Finite)]
def F_spec_SeasonOf : List Value → AHeap → (Value → AHeap → Prop) → Prop
  | [.slice list_a list_n list_e, .int .i64 period], H, K => T_spec_SeasonOf list_a list_n list_e period H fun (r1_a : Option Addr) (r1_n : Nat) (r1_e : Nat) (r2 : Bool) (H' : AHeap) => K (.tuple #[.slice r1_a r1_n r1_e, .bool r2]) H'
  | _, _, _ => False
def S_spec_SeasonOf : FSpec := { F := F_spec_SeasonOf, quiet := false, tame := true }
theorem spec_SeasonOf_vc (list_a : Option Addr) (list_n : Nat) (list_e : Nat) (period : Int) (H : AHeap) (K : Value → AHeap → Prop) : bodyK Try.prog E_spec_SeasonOf Try.f66 [.slice list_a list_n list_e, .int .i64 period] H K =
  (T_spec_l03Long list_a list_n list_e H fun (r1 : Bool) (H1 : AHeap) => Br (!r1) (K (.tuple #[.slice none 0 0, .bool false]) H1) (T_spec_l00In period 1 (list_n : Int) H1 fun (r2 : Bool) (H2 : AHeap) => Br (!r2) (K (.tuple #[.slice none 0 0, .bool false]) H2) (T_spec_l05Season list_a list_n list_e period H2 fun (a1 : Option Addr) (r3 : Nat) (r4 : Nat) (H3 : AHeap) => T_spec_l02Finite a1 r3 r4 H3 fun (r5 : Bool) (H4 : AHeap) => Br (!r5) (K (.tuple #[.slice none 0 0, .bool false]) H4) (K (.tuple #[.slice a1 r3 r4, .bool true]) H4)))) := by kernel_rfl
theorem E_spec_SeasonOf_ok : ∀ g, FnOk Try.prog g (E_spec_SeasonOf g) := FnOk.envOf (by
  intro x hx
  simp only [List.mem_cons, List.not_mem_nil, or_false] at hx
  rcases hx with rfl | rfl | rfl | rfl
  · exact spec_l03Long_ok
  · exact spec_l00In_ok
  · exact spec_l05Season_ok
  · exact spec_l02Finite_ok)
set_option maxHeartbeats 1000000 in
theorem spec_SeasonOf_main (list_a : Option Addr) (list_n : Nat) (list_e : Nat) (period : Int) (H : AHeap) (K : Value → AHeap → Prop) (h : T_spec_SeasonOf list_a list_n list_e period H fun (r1_a : Option Addr) (r1_n : Nat) (r1_e : Nat) (r2 : Bool) (H' : AHeap) => K (.tuple #[.slice r1_a r1_n r1_e, .bool r2]) H') : bodyK Try.prog E_spec_SeasonOf Try.f66 [.slice list_a list_n list_e, .int .i64 period] H K := by
  rw [spec_SeasonOf_vc]
  obtain ⟨l_list, i_list, bd_16, hk⟩ := h
  obtain rfl := i_list.eqn
  have e : (p_spec_SeasonOf l_list period) = _ := rfl
  have e := e.trans (p_spec_SeasonOf_eq l_list period)
  have g0 := Grow.refl H
  refine T_spec_l03Long_i ⟨_, (i_list.grow g0), (by first | omega | (simp only [List.length_set, List.length_replicate, List.length_append, List.length_cons, List.length_nil, List.length_take, List.length_drop, marks_length]; done) | (simp only [List.length_set, List.length_replicate, List.length_append, List.length_cons, List.length_nil, List.length_take, List.length_drop, marks_length]; omega)), ?_⟩
  refine Br.intro (fun c_1 => ?_) (fun c_1 => ?_)
  · have e := e.trans (cond_t c_1)
    have c_1n := nf_of_t c_1
    rw [e] at hk
    exact hk _ _ _ H g0 (OwnS.nil _ _ _ _)
  · have e := e.trans (cond_f c_1)
    have c_1n := nt_of_f c_1
    have c_1n' := spec_l03Long_t c_1n
    refine T_spec_l00In_i ?_
    refine Br.intro (fun c_2 => ?_) (fun c_2 => ?_)
    · have e := e.trans (cond_t c_2)
      have c_2n := nf_of_t c_2
      rw [e] at hk
      exact hk _ _ _ H g0 (OwnS.nil _ _ _ _)
    · have e := e.trans (cond_f c_2)
      have c_2n := nt_of_f c_2
      have c_2n' := spec_l00In_t c_2n
      refine T_spec_l05Season_i ⟨_, (i_list.grow g0), (by first | omega | (simp only [List.length_set, List.length_replicate, List.length_append, List.length_cons, List.length_nil, List.length_take, List.length_drop, marks_length]; done) | (simp only [List.length_set, List.length_replicate, List.length_append, List.length_cons, List.length_nil, List.length_take, List.length_drop, marks_length]; omega)), (by first | assumption | omega | (simp; omega)), (by first | assumption | omega | (simp; omega)), (by first | assumption | omega | (simp; omega)), fun a_3 n_4 e_5 H_1 g_8 r_6 => ?_⟩
      have z_7 := spec_l05Season_len l_list period
      have l_9 := g_8.1
      have g_10 := g0.trans g_8
      have l_11 := g_10.1
      obtain rfl := r_6.isL.eqn
      have u_12 := r_6.up
      have u_13 := r_6.lo
      refine T_spec_l02Finite_i ⟨_, r_6.isL, (by first | omega | (simp only [List.length_set, List.length_replicate, List.length_append, List.length_cons, List.length_nil, List.length_take, List.length_drop, marks_length]; done) | (simp only [List.length_set, List.length_replicate, List.length_append, List.length_cons, List.length_nil, List.length_take, List.length_drop, marks_length]; omega)), ?_⟩
      refine Br.intro (fun c_15 => ?_) (fun c_15 => ?_)
      · have e := e.trans (cond_t c_15)
        have c_15n := nf_of_t c_15
        rw [e] at hk
        exact hk _ _ _ H_1 g_10 (OwnS.nil _ _ _ _)
      · have e := e.trans (cond_f c_15)
        have c_15n := nt_of_f c_15
        rw [e] at hk
        exact hk _ _ _ H_1 g_10 (r_6.weak (by omega))
theorem spec_SeasonOf_ok : FnOk Try.prog 66 S_spec_SeasonOf := by
  refine FnOk.body mix_ok E_spec_SeasonOf_ok Try.func66 rfl (by kernel_rfl) (by kernel_rfl) ?_ ?_ ?_ ?_ ?_
  · intro args H K K' h hk
    simp only [S_spec_SeasonOf] at *
    unfold F_spec_SeasonOf at *
    split at hk
    · obtain ⟨l_list, i_list, bd_16, k⟩ := hk
      exact ⟨l_list, i_list, bd_16, (fun r1_a r1_n r1_e H' gg ow0 => h _ _ (k r1_a r1_n r1_e H' gg ow0))⟩
    · exact hk.elim
  · intro hq; cases hq
  · intro args H K hk
    simp only [S_spec_SeasonOf] at *
    unfold F_spec_SeasonOf at *
    split at hk
    · obtain ⟨l_list, i_list, bd_16, k⟩ := hk
      exact liveS fun a n e H1 g o => ⟨_, _, k a n e H1 g o⟩
    · exact hk.elim
  · intro _ args H K hk
    simp only [S_spec_SeasonOf] at *
    unfold F_spec_SeasonOf at *
    split at hk
    · obtain ⟨l_list, i_list, bd_16, k⟩ := hk
      exact ⟨l_list, i_list, bd_16, (fun r1_a r1_n r1_e H' gg ow0 => ⟨gg, k r1_a r1_n r1_e H' gg ow0⟩)⟩
    · exact hk.elim
  · have mm := @spec_SeasonOf_main
    revert mm
    generalize bodyK Try.prog E_spec_SeasonOf Try.f66 = Q
    intro mm args H K hk
    simp only [S_spec_SeasonOf] at *
    unfold F_spec_SeasonOf at *
    split at hk
    · exact mm _ _ _ _ H K hk
    · exact hk.elim
def p_spec_WithoutSeason_l1 (l_list : List Nat) (period : Int) : Nat → (List Nat) → Int → (List Nat) × Bool
  | 0, _, _ => ([], false)
  | μ + 1, l_vout, t21 => (bif decide ((t21 : Int) < (l_list.length : Int)) then (p_spec_WithoutSeason_l1 l_list period μ ((l_vout ++ [(fsub .f32 (((l_list).getD (t21 : Int).toNat 0)) ((((p_spec_SeasonOf l_list period).1).getD (Int.tmod t21 period : Int).toNat 0)))])) (t21 + 1)) else (bif !(p_spec_l02Finite l_vout) then ([], false) else (l_vout, true)))
theorem p_spec_WithoutSeason_l1_s (l_list : List Nat) (period : Int) (μ : Nat) (l_vout : List Nat) (t21 : Int) : p_spec_WithoutSeason_l1 l_list period (μ + 1) l_vout t21 = (bif decide ((t21 : Int) < (l_list.length : Int)) then (p_spec_WithoutSeason_l1 l_list period μ ((l_vout ++ [(fsub .f32 (((l_list).getD (t21 : Int).toNat 0)) ((((p_spec_SeasonOf l_list period).1).getD (Int.tmod t21 period : Int).toNat 0)))])) (t21 + 1)) else (bif !(p_spec_l02Finite l_vout) then ([], false) else (l_vout, true))) := rfl
def p_spec_WithoutSeason (l_list : List Nat) (period : Int) : (List Nat) × Bool := (bif !((p_spec_SeasonOf l_list period).2) then ([], false) else (p_spec_WithoutSeason_l1 l_list period (Int.toNat ((l_list.length : Int) - (0 : Int)) + 1) ([] : List Nat) (0 : Int)))
theorem p_spec_WithoutSeason_eq (l_list : List Nat) (period : Int) : p_spec_WithoutSeason l_list period = (bif !((p_spec_SeasonOf l_list period).2) then ([], false) else (p_spec_WithoutSeason_l1 l_list period (Int.toNat ((l_list.length : Int) - (0 : Int)) + 1) ([] : List Nat) (0 : Int))) := rfl
def T_spec_WithoutSeason (list_a : Option Addr) (list_n : Nat) (list_e : Nat) (period : Int) (H : AHeap) (K : (Option Addr) → Nat → Nat → Bool → AHeap → Prop) : Prop := ∃ (l_list : List Nat), IsL fF H list_a list_n l_list ∧ l_list.length < 1073741824 ∧ ((∀ (r1_a : Option Addr) (r1_n r1_e : Nat), ∀ H' : AHeap, Grow H H' → OwnS fF H' H.length r1_a r1_n r1_e ((p_spec_WithoutSeason l_list period).1) → K r1_a r1_n r1_e ((p_spec_WithoutSeason l_list period).2) H'))
theorem T_spec_WithoutSeason_i {list_a : Option Addr} {list_n : Nat} {list_e : Nat} {period : Int} {H : AHeap} {K : (Option Addr) → Nat → Nat → Bool → AHeap → Prop} (h : ∃ (l_list : List Nat), IsL fF H list_a list_n l_list ∧ l_list.length < 1073741824 ∧ ((∀ (r1_a : Option Addr) (r1_n r1_e : Nat), ∀ H' : AHeap, Grow H H' → OwnS fF H' H.length r1_a r1_n r1_e ((p_spec_WithoutSeason l_list period).1) → K r1_a r1_n r1_e ((p_spec_WithoutSeason l_list period).2) H'))) : T_spec_WithoutSeason list_a list_n list_e period H K := h
theorem spec_without_len_go (l : List Nat) (period : Int) : ∀ (μ : Nat) (o : List Nat) (i : Nat), i ≤ l.length → (p_spec_WithoutSeason_l1 l period μ o (i : Int)).1.length ≤ o.length + (l.length - i) := by
  intro μ
  induction μ with
  | zero => intro o i h; exact Nat.zero_le _
  | succ μ ih =>
    intro o i hm
    rw [p_spec_WithoutSeason_l1_s]
    by_cases h : i < l.length
    · rw [decide_eq_true (show (i : Int) < (l.length : Int) by omega), cond_true]
      refine Nat.le_trans (ih _ (i + 1) (by omega)) ?_
      simp; omega
    · rw [decide_eq_false (show ¬ (i : Int) < (l.length : Int) by omega), cond_false]
      cases p_spec_l02Finite o
      all_goals first | exact Nat.zero_le _ | exact Nat.le_add_right _ _
theorem spec_WithoutSeason_len (l : List Nat) (period : Int) : (p_spec_WithoutSeason l period).1.length ≤ l.length := by
  rw [p_spec_WithoutSeason_eq]
  cases (p_spec_SeasonOf l period).2
  · exact Nat.zero_le _
  · have := spec_without_len_go l period (Int.toNat ((l.length : Int) - (0 : Int)) + 1) [] 0 (Nat.zero_le _)
    simpa using this
/-! spec_WithoutSeason: function 20 -/
def E_spec_WithoutSeason : Env := envOf [(66, S_spec_SeasonOf), (67, S_spec_l02Finite)]
def F_spec_WithoutSeason : List Value → AHeap → (Value → AHeap → Prop) → Prop
  | [.slice list_a list_n list_e, .int .i64 period], H, K => T_spec_WithoutSeason list_a list_n list_e period H fun (r1_a : Option Addr) (r1_n : Nat) (r1_e : Nat) (r2 : Bool) (H' : AHeap) => K (.tuple #[.slice r1_a r1_n r1_e, .bool r2]) H'
  | _, _, _ => False
def S_spec_WithoutSeason : FSpec := { F := F_spec_WithoutSeason, quiet := false, tame := true }
theorem spec_WithoutSeason_vc (list_a : Option Addr) (list_n : Nat) (list_e : Nat) (period : Int) (H : AHeap) (K : Value → AHeap → Prop) : bodyK Try.prog E_spec_WithoutSeason Try.f20 [.slice list_a list_n list_e, .int .i64 period] H K =
  (T_spec_SeasonOf list_a list_n list_e period H fun (a1 : Option Addr) (r1 : Nat) (r2 : Nat) (r3 : Bool) (H1 : AHeap) => Br (!r3) (K (.tuple #[.slice none 0 0, .bool false]) H1) (Al [] H1 fun b1 H2 => loopK (exK Try.prog E_spec_WithoutSeason (cl (cl (cr (cl (cr (cr (cr (cr (bodyC Try.f20)))))))))) [.slice list_a list_n list_e, .int .i64 period, undef, undef, .slice none 0 0, .bool false, .slice a1 r1 r2, .bool r3, .slice (some ⟨b1, 0, none⟩) 0 1, undef, .tuple #[.slice a1 r1 r2, .bool r3], .slice list_a list_n list_e, .int .i64 period, .tuple #[.slice a1 r1 r2, .bool r3], .slice a1 r1 r2, .bool r3, .bool r3, .bool (!r3), .slice (some ⟨b1, 0, none⟩) 0 1, .slice list_a list_n list_e, .int .i64 (list_n : Int), .int .i64 0, undef, undef, undef, undef, undef, undef, undef, undef, undef, undef, undef, undef, undef, undef, undef, undef, undef, undef, undef, undef, undef] H2 (blockQ 0 (seqQ (exK Try.prog E_spec_WithoutSeason (cr (cr (cr (cr (cr (bodyC Try.f20))))))) (retK Try.prog Try.f20 K))))) := by kernel_rfl
theorem spec_WithoutSeason_r1 (a1 : Option Addr) (b1 : Nat) (list_a : Option Addr) (list_e : Nat) (list_n : Nat) (period : Int) (r1 : Nat) (r2 : Nat) (r3 : Bool) (vout_a : Option Addr) (vout_n : Nat) (vout_e : Nat) (t21 : Int) (g9 g22 g23 g24 g25 g26 g27 g28 g29 g30 g31 g32 g33 g34 g35 g36 g37 g38 : Value) (H : AHeap) (R : Post) : exK Try.prog E_spec_WithoutSeason (cl (cl (cr (cl (cr (cr (cr (cr (bodyC Try.f20))))))))) [.slice list_a list_n list_e, .int .i64 period, undef, undef, .slice none 0 0, .bool false, .slice a1 r1 r2, .bool r3, .slice vout_a vout_n vout_e, g9, .tuple #[.slice a1 r1 r2, .bool r3], .slice list_a list_n list_e, .int .i64 period, .tuple #[.slice a1 r1 r2, .bool r3], .slice a1 r1 r2, .bool r3, .bool r3, .bool (!r3), .slice (some ⟨b1, 0, none⟩) 0 1, .slice list_a list_n list_e, .int .i64 (list_n : Int), .int .i64 t21, g22, g23, g24, g25, g26, g27, g28, g29, g30, g31, g32, g33, g34, g35, g36, g37, g38, undef, undef, undef, undef] H R =
  (Br (decide ((t21 : Int) < (list_n : Int))) ((0 : Int) ≤ t21 ∧ t21 < (list_n : Int) ∧ ∃ b2 f1, (list_a : Option Addr) = some ⟨b2, f1, none⟩ ∧ ∃ x1 : Nat,  rdC H b2 (f1 + (t21 : Int).toNat * 1) = some (.float .f32 x1) ∧ period ≠ (0 : Int) ∧ (0 : Int) ≤ Int.tmod t21 period ∧ Int.tmod t21 period < (r1 : Int) ∧ ∃ b3 f2, (a1 : Option Addr) = some ⟨b3, f2, none⟩ ∧ ∃ x2 : Nat,  rdC H b3 (f2 + (Int.tmod t21 period : Int).toNat * 1) = some (.float .f32 x2) ∧ Al [.float .f32 (fsub .f32 x1 x2)] H fun b4 H3 => ∃ o1 w1 : List Value, ownB H3 vout_a vout_n vout_e 1 = some o1 ∧ rdS H3 (some ⟨b4, 0, none⟩) (1 * 1) = some w1 ∧ ((vout_a : Option Addr) = none → 0 < (1 : Nat)) ∧ (vout_n : Nat) + 1 < most ∧ Ap H3 (killB H3 vout_a ++ [some ⟨o1 ++ w1, true⟩]) fun b5 H4 => R .normal [.slice list_a list_n list_e, .int .i64 period, undef, undef, .slice none 0 0, .bool false, .slice a1 r1 r2, .bool r3, .slice (some ⟨b5, 0, none⟩) (vout_n + 1) 1, .int .i64 t21, .tuple #[.slice a1 r1 r2, .bool r3], .slice list_a list_n list_e, .int .i64 period, .tuple #[.slice a1 r1 r2, .bool r3], .slice a1 r1 r2, .bool r3, .bool r3, .bool (!r3), .slice (some ⟨b1, 0, none⟩) 0 1, .slice list_a list_n list_e, .int .i64 (list_n : Int), .int .i64 (IntKind.wrap .i64 (t21 + 1)), .bool (decide ((t21 : Int) < (list_n : Int))), .int .i64 t21, .slice vout_a vout_n vout_e, .slice list_a list_n list_e, .int .i64 t21, .pointer (some ⟨b2, f1 + (t21 : Int).toNat * 1, none⟩), .float .f32 x1, .slice a1 r1 r2, .int .i64 t21, .int .i64 period, .int .i64 (Int.tmod t21 period), .pointer (some ⟨b3, f2 + (Int.tmod t21 period : Int).toNat * 1, none⟩), .float .f32 x2, .float .f32 (fsub .f32 x1 x2), .slice (some ⟨b4, 0, none⟩) 1 1, .slice (some ⟨b5, 0, none⟩) (vout_n + 1) 1, .int .i64 (IntKind.wrap .i64 (t21 + 1)), undef, undef, undef, undef] H4) (R (.exit 0) [.slice list_a list_n list_e, .int .i64 period, undef, undef, .slice none 0 0, .bool false, .slice a1 r1 r2, .bool r3, .slice vout_a vout_n vout_e, g9, .tuple #[.slice a1 r1 r2, .bool r3], .slice list_a list_n list_e, .int .i64 period, .tuple #[.slice a1 r1 r2, .bool r3], .slice a1 r1 r2, .bool r3, .bool r3, .bool (!r3), .slice (some ⟨b1, 0, none⟩) 0 1, .slice list_a list_n list_e, .int .i64 (list_n : Int), .int .i64 t21, .bool (decide ((t21 : Int) < (list_n : Int))), g23, g24, g25, g26, g27, g28, g29, g30, g31, g32, g33, g34, g35, g36, g37, g38, undef, undef, undef, undef] H)) := by kernel_rfl
def spec_WithoutSeason_I1 (a1 : Option Addr) (b1 : Nat) (list_a : Option Addr) (list_e : Nat) (list_n : Nat) (period : Int) (r1 : Nat) (r2 : Nat) (r3 : Bool) (Inv : Nat → (Option Addr) → Nat → Nat → Int → AHeap → Prop) : Nat → List Value → AHeap → Prop := fun μ tm H => ∃ (vout_a : Option Addr), ∃ (vout_n : Nat), ∃ (vout_e : Nat), ∃ (t21 : Int), ∃ g9 g22 g23 g24 g25 g26 g27 g28 g29 g30 g31 g32 g33 g34 g35 g36 g37 g38, tm = [.slice list_a list_n list_e, .int .i64 period, undef, undef, .slice none 0 0, .bool false, .slice a1 r1 r2, .bool r3, .slice vout_a vout_n vout_e, g9, .tuple #[.slice a1 r1 r2, .bool r3], .slice list_a list_n list_e, .int .i64 period, .tuple #[.slice a1 r1 r2, .bool r3], .slice a1 r1 r2, .bool r3, .bool r3, .bool (!r3), .slice (some ⟨b1, 0, none⟩) 0 1, .slice list_a list_n list_e, .int .i64 (list_n : Int), .int .i64 t21, g22, g23, g24, g25, g26, g27, g28, g29, g30, g31, g32, g33, g34, g35, g36, g37, g38, undef, undef, undef, undef] ∧ Inv μ vout_a vout_n vout_e t21 H
theorem spec_WithoutSeason_L1 (a1 : Option Addr) (b1 : Nat) (list_a : Option Addr) (list_e : Nat) (list_n : Nat) (period : Int) (r1 : Nat) (r2 : Nat) (r3 : Bool) {Q : Post} (Inv : Nat → (Option Addr) → Nat → Nat → Int → AHeap → Prop) (ν : Nat) (vout_a : Option Addr) (vout_n : Nat) (vout_e : Nat) (t21 : Int) (g9 g22 g23 g24 g25 g26 g27 g28 g29 g30 g31 g32 g33 g34 g35 g36 g37 g38 : Value) (H : AHeap) (h0 : Inv ν vout_a vout_n vout_e t21 H)
    (hs : ∀ (μ : Nat) (vout_a : Option Addr) (vout_n : Nat) (vout_e : Nat) (t21 : Int) (g9 g22 g23 g24 g25 g26 g27 g28 g29 g30 g31 g32 g33 g34 g35 g36 g37 g38 : Value) (H : AHeap), Inv μ vout_a vout_n vout_e t21 H → exK Try.prog E_spec_WithoutSeason (cl (cl (cr (cl (cr (cr (cr (cr (bodyC Try.f20))))))))) [.slice list_a list_n list_e, .int .i64 period, undef, undef, .slice none 0 0, .bool false, .slice a1 r1 r2, .bool r3, .slice vout_a vout_n vout_e, g9, .tuple #[.slice a1 r1 r2, .bool r3], .slice list_a list_n list_e, .int .i64 period, .tuple #[.slice a1 r1 r2, .bool r3], .slice a1 r1 r2, .bool r3, .bool r3, .bool (!r3), .slice (some ⟨b1, 0, none⟩) 0 1, .slice list_a list_n list_e, .int .i64 (list_n : Int), .int .i64 t21, g22, g23, g24, g25, g26, g27, g28, g29, g30, g31, g32, g33, g34, g35, g36, g37, g38, undef, undef, undef, undef] H (loopQ (spec_WithoutSeason_I1 a1 b1 list_a list_e list_n period r1 r2 r3 Inv) μ Q)) : loopK (exK Try.prog E_spec_WithoutSeason (cl (cl (cr (cl (cr (cr (cr (cr (bodyC Try.f20)))))))))) [.slice list_a list_n list_e, .int .i64 period, undef, undef, .slice none 0 0, .bool false, .slice a1 r1 r2, .bool r3, .slice vout_a vout_n vout_e, g9, .tuple #[.slice a1 r1 r2, .bool r3], .slice list_a list_n list_e, .int .i64 period, .tuple #[.slice a1 r1 r2, .bool r3], .slice a1 r1 r2, .bool r3, .bool r3, .bool (!r3), .slice (some ⟨b1, 0, none⟩) 0 1, .slice list_a list_n list_e, .int .i64 (list_n : Int), .int .i64 t21, g22, g23, g24, g25, g26, g27, g28, g29, g30, g31, g32, g33, g34, g35, g36, g37, g38, undef, undef, undef, undef] H Q :=
  ⟨spec_WithoutSeason_I1 a1 b1 list_a list_e list_n period r1 r2 r3 Inv, ν, ⟨vout_a, vout_n, vout_e, t21, g9, g22, g23, g24, g25, g26, g27, g28, g29, g30, g31, g32, g33, g34, g35, g36, g37, g38, rfl, h0⟩, fun μ tm H h => by obtain ⟨vout_a, vout_n, vout_e, t21, g9, g22, g23, g24, g25, g26, g27, g28, g29, g30, g31, g32, g33, g34, g35, g36, g37, g38, rfl, hI⟩ := h; exact hs μ vout_a vout_n vout_e t21 g9 g22 g23 g24 g25 g26 g27 g28 g29 g30 g31 g32 g33 g34 g35 g36 g37 g38 H hI⟩
theorem spec_WithoutSeason_n1 {a1 : Option Addr} {b1 : Nat} {list_a : Option Addr} {list_e : Nat} {list_n : Nat} {period : Int} {r1 : Nat} {r2 : Nat} {r3 : Bool} {Q : Post} {Inv : Nat → (Option Addr) → Nat → Nat → Int → AHeap → Prop} {μ : Nat} (μ' : Nat) {vout_a : Option Addr} {vout_n : Nat} {vout_e : Nat} {t21 : Int} {g9 g22 g23 g24 g25 g26 g27 g28 g29 g30 g31 g32 g33 g34 g35 g36 g37 g38 : Value} {H : AHeap} (hm : μ' < μ) (hI : Inv μ' vout_a vout_n vout_e t21 H) : loopQ (spec_WithoutSeason_I1 a1 b1 list_a list_e list_n period r1 r2 r3 Inv) μ Q .normal [.slice list_a list_n list_e, .int .i64 period, undef, undef, .slice none 0 0, .bool false, .slice a1 r1 r2, .bool r3, .slice vout_a vout_n vout_e, g9, .tuple #[.slice a1 r1 r2, .bool r3], .slice list_a list_n list_e, .int .i64 period, .tuple #[.slice a1 r1 r2, .bool r3], .slice a1 r1 r2, .bool r3, .bool r3, .bool (!r3), .slice (some ⟨b1, 0, none⟩) 0 1, .slice list_a list_n list_e, .int .i64 (list_n : Int), .int .i64 t21, g22, g23, g24, g25, g26, g27, g28, g29, g30, g31, g32, g33, g34, g35, g36, g37, g38, undef, undef, undef, undef] H := ⟨μ', hm, vout_a, vout_n, vout_e, t21, g9, g22, g23, g24, g25, g26, g27, g28, g29, g30, g31, g32, g33, g34, g35, g36, g37, g38, rfl, hI⟩
theorem spec_WithoutSeason_x1_0 (a1 : Option Addr) (b1 : Nat) (list_a : Option Addr) (list_e : Nat) (list_n : Nat) (period : Int) (r1 : Nat) (r2 : Nat) (r3 : Bool) (vout_a : Option Addr) (vout_n : Nat) (vout_e : Nat) (t21 : Int) (g9 g22 g23 g24 g25 g26 g27 g28 g29 g30 g31 g32 g33 g34 g35 g36 g37 g38 : Value) (H : AHeap) (K : Value → AHeap → Prop)  {I : Nat → List Value → AHeap → Prop} {μ : Nat} : loopQ I μ (blockQ 0 (seqQ (exK Try.prog E_spec_WithoutSeason (cr (cr (cr (cr (cr (bodyC Try.f20))))))) (retK Try.prog Try.f20 K))) (.exit 0) [.slice list_a list_n list_e, .int .i64 period, undef, undef, .slice none 0 0, .bool false, .slice a1 r1 r2, .bool r3, .slice vout_a vout_n vout_e, g9, .tuple #[.slice a1 r1 r2, .bool r3], .slice list_a list_n list_e, .int .i64 period, .tuple #[.slice a1 r1 r2, .bool r3], .slice a1 r1 r2, .bool r3, .bool r3, .bool (!r3), .slice (some ⟨b1, 0, none⟩) 0 1, .slice list_a list_n list_e, .int .i64 (list_n : Int), .int .i64 t21, g22, g23, g24, g25, g26, g27, g28, g29, g30, g31, g32, g33, g34, g35, g36, g37, g38, undef, undef, undef, undef] H =
  (T_spec_l02Finite vout_a vout_n vout_e H fun (r4 : Bool) (H5 : AHeap) => Br (!r4) (K (.tuple #[.slice none 0 0, .bool false]) H5) (K (.tuple #[.slice vout_a vout_n vout_e, .bool true]) H5)) := by kernel_rfl
theorem E_spec_WithoutSeason_ok : ∀ g, FnOk Try.prog g (E_spec_WithoutSeason g) := FnOk.envOf (by
  intro x hx
  simp only [List.mem_cons, List.not_mem_nil, or_false] at hx
  rcases hx with rfl | rfl
  · exact spec_SeasonOf_ok
  · exact spec_l02Finite_ok)
set_option maxHeartbeats 1000000 in
theorem spec_WithoutSeason_main (list_a : Option Addr) (list_n : Nat) (list_e : Nat) (period : Int) (H : AHeap) (K : Value → AHeap → Prop) (h : T_spec_WithoutSeason list_a list_n list_e period H fun (r1_a : Option Addr) (r1_n : Nat) (r1_e : Nat) (r2 : Bool) (H' : AHeap) => K (.tuple #[.slice r1_a r1_n r1_e, .bool r2]) H') : bodyK Try.prog E_spec_WithoutSeason Try.f20 [.slice list_a list_n list_e, .int .i64 period] H K := by
  rw [spec_WithoutSeason_vc]
  obtain ⟨l_list, i_list, bd_73, hk⟩ := h
  obtain rfl := i_list.eqn
  have e : (p_spec_WithoutSeason l_list period) = _ := rfl
  have e := e.trans (p_spec_WithoutSeason_eq l_list period)
  have g0 := Grow.refl H
  refine T_spec_SeasonOf_i ⟨_, (i_list.grow g0), (by first | omega | (simp only [List.length_set, List.length_replicate, List.length_append, List.length_cons, List.length_nil, List.length_take, List.length_drop, marks_length]; done) | (simp only [List.length_set, List.length_replicate, List.length_append, List.length_cons, List.length_nil, List.length_take, List.length_drop, marks_length]; omega)), fun a_1 n_2 e_3 H_1 g_6 r_4 => ?_⟩
  have z_5 := spec_SeasonOf_len l_list period
  have l_7 := g_6.1
  have g_8 := g0.trans g_6
  have l_9 := g_8.1
  obtain rfl := r_4.isL.eqn
  have u_10 := r_4.up
  have u_11 := r_4.lo
  refine Br.intro (fun c_13 => ?_) (fun c_13 => ?_)
  · have e := e.trans (cond_t c_13)
    have c_13n := nf_of_t c_13
    rw [e] at hk
    exact hk _ _ _ H_1 g_8 (OwnS.nil _ _ _ _)
  · have e := e.trans (cond_f c_13)
    have c_13n := nt_of_f c_13
    have c_13n' := spec_SeasonOf_t c_13n
    refine Al.intro (fun b_14 H_2 hb_15 hl_16 g_17 o_18 => ?_)
    have o_18 : Own H_2 b_14 ((([] : List Nat)).map fF) := o_18
    have l_20 := g_17.1
    have g_21 := g_8.trans g_17
    have l_22 := g_21.1
    have r_23 := r_4.grow g_17
    have w_72 := o_18.lt
    refine spec_WithoutSeason_L1 _ _ _ _ _ _ _ _ _ (fun (μ : Nat) (vout_a : Option Addr) (vout_n : Nat) (vout_e : Nat) (t21 : Int) (H_3 : AHeap) => ∃ (l_vout : List Nat), ∃ (b_24 : Nat), vout_a = some ⟨b_24, 0, none⟩ ∧ vout_n = l_vout.length ∧ vout_e = 1 ∧ Own H_3 b_24 (l_vout.map fF) ∧ OwnS fF H_3 H.length a_1 (((p_spec_SeasonOf l_list period).1).length) e_3 ((p_spec_SeasonOf l_list period).1) ∧ H_1.length ≤ H_3.length ∧ (b_24 < H.length ∨ H_1.length ≤ b_24) ∧ Grow H H_3 ∧ H.length ≤ b_24 ∧ (0 : Int) ≤ t21 ∧ t21 ≤ (l_list.length : Int) ∧ (l_vout.length : Int) ≤ t21 - (0 : Int) + 0 ∧ (l_list.length : Int) - t21 ≤ (μ : Int) ∧ p_spec_WithoutSeason l_list period = p_spec_WithoutSeason_l1 l_list period (μ + 1) l_vout t21) (Int.toNat ((l_list.length : Int) - (0 : Int))) _ _ _ _ _ _ _ _ _ _ _ _ _ _ _ _ _ _ _ _ _ _ H_2 ?_ ?_
    · exact ⟨_, _, rfl, rfl, rfl, o_18, r_23, (by omega), (by omega), g_21, (by omega), (by first | omega | (simp; done) | (simp; omega)), (by first | omega | (simp; done) | (simp; omega)), (by first | omega | (simp; done) | (simp; omega)), (by omega), e⟩
    · intro μ vout_a vout_n vout_e t21 g9 g22 g23 g24 g25 g26 g27 g28 g29 g30 g31 g32 g33 g34 g35 g36 g37 g38 H_3 hI
      obtain ⟨l_vout, b_24, rfl, rfl, rfl, o_25, r_26, n_27, n_28, g_29, l_30, v_31, v_32, v_33, hμ, e⟩ := hI
      rw [spec_WithoutSeason_r1]
      have e := e.trans (p_spec_WithoutSeason_l1_s l_list period μ l_vout t21)
      have w_34 := o_25.lt
      have l_35 := g_29.1
      refine Br.intro (fun c_36 => ?_) (fun c_36 => ?_)
      · have e := e.trans (cond_t c_36)
        have c_36' := of_decide_eq_true c_36
        obtain ⟨b_37, f_38, q_39⟩ := ((i_list.grow g_29)).pos (by first | omega | (simp only [List.length_set, List.length_replicate, List.length_append, List.length_cons, List.length_nil, List.length_take, List.length_drop, marks_length]; done) | (simp only [List.length_set, List.length_replicate, List.length_append, List.length_cons, List.length_nil, List.length_take, List.length_drop, marks_length]; omega))
        refine ⟨by omega, by omega, b_37, f_38, q_39, ?_⟩
        refine ⟨((l_list).getD (t21 : Int).toNat 0), (i_list).rd g_29 q_39 (by omega) _, ?_⟩
        refine ⟨(by first | omega | decide | (simp; done) | (simp; omega)), ?_⟩
        have z_40 := tmod_rng t21 period
        have z_41 := tmod_nn t21 period
        obtain ⟨b_42, f_43, q_44⟩ := (r_26.isL).pos (by first | omega | (simp only [List.length_set, List.length_replicate, List.length_append, List.length_cons, List.length_nil, List.length_take, List.length_drop, marks_length]; done) | (simp only [List.length_set, List.length_replicate, List.length_append, List.length_cons, List.length_nil, List.length_take, List.length_drop, marks_length]; omega))
        refine ⟨by omega, by omega, b_42, f_43, q_44, ?_⟩
        refine ⟨(((p_spec_SeasonOf l_list period).1).getD (Int.tmod t21 period : Int).toNat 0), (r_26.isL).rd (Grow.refl _) q_44 (by omega) _, ?_⟩
        refine Al.intro (fun b_45 H_4 hb_46 hl_47 g_48 o_49 => ?_)
        have o_49 : Own H_4 b_45 (([(fsub .f32 (((l_list).getD (t21 : Int).toNat 0)) ((((p_spec_SeasonOf l_list period).1).getD (Int.tmod t21 period : Int).toNat 0)))]).map fF) := o_49
        have l_51 := g_48.1
        have g_52 := g_29.trans g_48
        have l_53 := g_52.1
        have o_54 := o_25.grow g_48
        have w_55 := o_54.lt
        have r_56 := r_26.grow g_48
        have w_70 := o_49.lt
        refine ⟨_, _, o_54.ownB (by first | (simp only [List.length_map, List.length_cons, List.length_nil, List.length_append]; done) | (simp only [List.length_map, List.length_cons, List.length_nil, List.length_append]; omega)) rfl, (isl_rdS (o_49.isL rfl)), (fun h => by cases h), (by have := most_eq; omega), ?_⟩
        refine Ap.app o_54 rfl rfl (fun b_61 H_5 q_68 hl_57 o_58 k_59 => ?_)
        have o_58 := map_snoc o_58
        have l_62 := k_59.1
        have g_63 := g_52.keep (b := b_24) (by omega) k_59
        have l_64 := g_63.1
        have o_65 := o_49.keep (by omega) k_59
        have w_66 := o_65.lt
        have r_67 := r_56.keep u_10 (by omega) k_59
        have w_69 := o_58.lt
        rw [show IntKind.wrap .i64 (t21 + 1) = (t21 + 1) from wrap64 (by omega) (by omega)]
        refine spec_WithoutSeason_n1 (μ - 1) (by omega) ⟨_, _, rfl, (by first | (simp only [List.length_append, List.length_cons, List.length_nil]; done) | (simp only [List.length_append, List.length_cons, List.length_nil]; omega)), rfl, o_58, r_67, (by omega), (by omega), g_63, (by omega), (by first | omega | (simp only [List.length_append, List.length_cons, List.length_nil, List.length_set]; done) | (simp only [List.length_append, List.length_cons, List.length_nil, List.length_set]; omega)), (by first | omega | (simp only [List.length_append, List.length_cons, List.length_nil, List.length_set]; done) | (simp only [List.length_append, List.length_cons, List.length_nil, List.length_set]; omega)), (by first | omega | (simp only [List.length_append, List.length_cons, List.length_nil, List.length_set]; done) | (simp only [List.length_append, List.length_cons, List.length_nil, List.length_set]; omega)), (by omega), (by rw [show μ - 1 + 1 = μ from by omega]; exact e)⟩
      · have e := e.trans (cond_f c_36)
        have c_36' := of_decide_eq_false c_36
        rw [spec_WithoutSeason_x1_0]
        refine T_spec_l02Finite_i ⟨_, (o_25.isL rfl), (by first | omega | (simp only [List.length_set, List.length_replicate, List.length_append, List.length_cons, List.length_nil, List.length_take, List.length_drop, marks_length]; done) | (simp only [List.length_set, List.length_replicate, List.length_append, List.length_cons, List.length_nil, List.length_take, List.length_drop, marks_length]; omega)), ?_⟩
        refine Br.intro (fun c_71 => ?_) (fun c_71 => ?_)
        · have e := e.trans (cond_t c_71)
          have c_71n := nf_of_t c_71
          rw [e] at hk
          exact hk _ _ _ H_3 g_29 (OwnS.nil _ _ _ _)
        · have e := e.trans (cond_f c_71)
          have c_71n := nt_of_f c_71
          rw [e] at hk
          exact hk _ _ _ H_3 g_29 (o_25.ownS rfl (by omega))
theorem spec_WithoutSeason_ok : FnOk Try.prog 20 S_spec_WithoutSeason := by
  refine FnOk.body mix_ok E_spec_WithoutSeason_ok Try.func20 rfl (by kernel_rfl) (by kernel_rfl) ?_ ?_ ?_ ?_ ?_
  · intro args H K K' h hk
    simp only [S_spec_WithoutSeason] at *
    unfold F_spec_WithoutSeason at *
    split at hk
    · obtain ⟨l_list, i_list, bd_73, k⟩ := hk
      exact ⟨l_list, i_list, bd_73, (fun r1_a r1_n r1_e H' gg ow0 => h _ _ (k r1_a r1_n r1_e H' gg ow0))⟩
    · exact hk.elim
  · intro hq; cases hq
  · intro args H K hk
    simp only [S_spec_WithoutSeason] at *
    unfold F_spec_WithoutSeason at *
    split at hk
    · obtain ⟨l_list, i_list, bd_73, k⟩ := hk
      exact liveS fun a n e H1 g o => ⟨_, _, k a n e H1 g o⟩
    · exact hk.elim
  · intro _ args H K hk
    simp only [S_spec_WithoutSeason] at *
    unfold F_spec_WithoutSeason at *
    split at hk
    · obtain ⟨l_list, i_list, bd_73, k⟩ := hk
      exact ⟨l_list, i_list, bd_73, (fun r1_a r1_n r1_e H' gg ow0 => ⟨gg, k r1_a r1_n r1_e H' gg ow0⟩)⟩
    · exact hk.elim
  · have mm := @spec_WithoutSeason_main
    revert mm
    generalize bodyK Try.prog E_spec_WithoutSeason Try.f20 = Q
    intro mm args H K hk
    simp only [S_spec_WithoutSeason] at *
    unfold F_spec_WithoutSeason at *
    split at hk
    · exact mm _ _ _ _ H K hk
    · exact hk.elim
def p_impl_within (n : Int) (low : Int) (high : Int) : Bool := (bif decide ((low : Int) ≤ n) then decide ((n : Int) ≤ high) else false)
theorem p_impl_within_eq (n : Int) (low : Int) (high : Int) : p_impl_within n low high = (bif decide ((low : Int) ≤ n) then decide ((n : Int) ≤ high) else false) := rfl
def T_impl_within (n : Int) (low : Int) (high : Int) (H : AHeap) (K : Bool → AHeap → Prop) : Prop := K (p_impl_within n low high) H
theorem impl_within_t {n a b : Int} (h : p_impl_within n a b = true) : a ≤ n ∧ n ≤ b := by
  unfold p_impl_within at h
  by_cases h1 : a ≤ n
  · rw [decide_eq_true h1, cond_true] at h; exact ⟨h1, of_decide_eq_true h⟩
  · rw [decide_eq_false h1] at h; cases h
theorem T_impl_within_i {n : Int} {low : Int} {high : Int} {H : AHeap} {K : Bool → AHeap → Prop} (h : K (p_impl_within n low high) H) : T_impl_within n low high H K := h
/-! impl_within: function 72 -/
def E_impl_within : Env := envOf []
def F_impl_within : List Value → AHeap → (Value → AHeap → Prop) → Prop
  | [.int .i64 n, .int .i64 low, .int .i64 high], H, K => T_impl_within n low high H fun (r1 : Bool) (H' : AHeap) => K (.bool r1) H'
  | _, _, _ => False
def S_impl_within : FSpec := { F := F_impl_within, quiet := true, tame := false }
theorem impl_within_vc (n : Int) (low : Int) (high : Int) (H : AHeap) (K : Value → AHeap → Prop) : bodyK Try.prog E_impl_within Try.f72 [.int .i64 n, .int .i64 low, .int .i64 high] H K =
  (Br (decide ((low : Int) ≤ n)) (K (.bool (decide ((n : Int) ≤ high))) H) (K (.bool false) H)) := by kernel_rfl
theorem E_impl_within_ok : ∀ g, FnOk Try.prog g (E_impl_within g) := FnOk.envOf (by
  intro x hx; cases hx)
set_option maxHeartbeats 1000000 in
theorem impl_within_main (n : Int) (low : Int) (high : Int) (H : AHeap) (K : Value → AHeap → Prop) (h : T_impl_within n low high H fun (r1 : Bool) (H' : AHeap) => K (.bool r1) H') : bodyK Try.prog E_impl_within Try.f72 [.int .i64 n, .int .i64 low, .int .i64 high] H K := by
  rw [impl_within_vc]
  unfold T_impl_within p_impl_within at h
  repeat' (first | exact h | (exfalso; simp_all; done) | (refine ⟨by decide, ?_⟩) | (refine Br.intro (fun hb => ?_) (fun hb => ?_) <;> (try simp only [hb, cond_true, cond_false, Bool.not_true, Bool.not_false] at h)))
theorem impl_within_ok : FnOk Try.prog 72 S_impl_within := by
  refine FnOk.body mix_ok E_impl_within_ok Try.func72 rfl (by kernel_rfl) (by kernel_rfl) ?_ ?_ ?_ ?_ ?_
  · intro args H K K' h hk
    simp only [S_impl_within] at *
    unfold F_impl_within at *
    split at hk
    · have k := hk
      exact h _ _ k
    · exact hk.elim
  · intro _ args H K hk
    simp only [S_impl_within] at *
    unfold F_impl_within at *
    split at hk
    · have k := hk
      exact ⟨_, k, fun K' k' => k'⟩
    · exact hk.elim
  · intro args H K hk
    simp only [S_impl_within] at *
    unfold F_impl_within at *
    split at hk
    · have k := hk
      exact ⟨_, _, k⟩
    · exact hk.elim
  · intro hq; cases hq
  · have mm := @impl_within_main
    revert mm
    generalize bodyK Try.prog E_impl_within Try.f72 = Q
    intro mm args H K hk
    simp only [S_impl_within] at *
    unfold F_impl_within at *
    split at hk
    · exact mm _ _ _ H K hk
    · exact hk.elim
def p_impl_IsFinite (x : Nat) : Bool := feq .f32 (fsub .f32 x x) 0
theorem p_impl_IsFinite_eq (x : Nat) : p_impl_IsFinite x = feq .f32 (fsub .f32 x x) 0 := rfl
def T_impl_IsFinite (x : Nat) (H : AHeap) (K : Bool → AHeap → Prop) : Prop := K (p_impl_IsFinite x) H

theorem T_impl_IsFinite_i {x : Nat} {H : AHeap} {K : Bool → AHeap → Prop} (h : K (p_impl_IsFinite x) H) : T_impl_IsFinite x H K := h
/-! impl_IsFinite: function 62 -/
def E_impl_IsFinite : Env := envOf []
def F_impl_IsFinite : List Value → AHeap → (Value → AHeap → Prop) → Prop
  | [.float .f32 x], H, K => T_impl_IsFinite x H fun (r1 : Bool) (H' : AHeap) => K (.bool r1) H'
  | _, _, _ => False
def S_impl_IsFinite : FSpec := { F := F_impl_IsFinite, quiet := true, tame := false }
theorem impl_IsFinite_vc (x : Nat) (H : AHeap) (K : Value → AHeap → Prop) : bodyK Try.prog E_impl_IsFinite Try.f62 [.float .f32 x] H K =
  (K (.bool (feq .f32 (fsub .f32 x x) 0)) H) := by kernel_rfl
theorem E_impl_IsFinite_ok : ∀ g, FnOk Try.prog g (E_impl_IsFinite g) := FnOk.envOf (by
  intro x hx; cases hx)
set_option maxHeartbeats 1000000 in
theorem impl_IsFinite_main (x : Nat) (H : AHeap) (K : Value → AHeap → Prop) (h : T_impl_IsFinite x H fun (r1 : Bool) (H' : AHeap) => K (.bool r1) H') : bodyK Try.prog E_impl_IsFinite Try.f62 [.float .f32 x] H K := by
  rw [impl_IsFinite_vc]
  unfold T_impl_IsFinite p_impl_IsFinite at h
  repeat' (first | exact h | (exfalso; simp_all; done) | (refine ⟨by decide, ?_⟩) | (refine Br.intro (fun hb => ?_) (fun hb => ?_) <;> (try simp only [hb, cond_true, cond_false, Bool.not_true, Bool.not_false] at h)))
theorem impl_IsFinite_ok : FnOk Try.prog 62 S_impl_IsFinite := by
  refine FnOk.body mix_ok E_impl_IsFinite_ok Try.func62 rfl (by kernel_rfl) (by kernel_rfl) ?_ ?_ ?_ ?_ ?_
  · intro args H K K' h hk
    simp only [S_impl_IsFinite] at *
    unfold F_impl_IsFinite at *
    split at hk
    · have k := hk
      exact h _ _ k
    · exact hk.elim
  · intro _ args H K hk
    simp only [S_impl_IsFinite] at *
    unfold F_impl_IsFinite at *
    split at hk
    · have k := hk
      exact ⟨_, k, fun K' k' => k'⟩
    · exact hk.elim
  · intro args H K hk
    simp only [S_impl_IsFinite] at *
    unfold F_impl_IsFinite at *
    split at hk
    · have k := hk
      exact ⟨_, _, k⟩
    · exact hk.elim
  · intro hq; cases hq
  · have mm := @impl_IsFinite_main
    revert mm
    generalize bodyK Try.prog E_impl_IsFinite Try.f62 = Q
    intro mm args H K hk
    simp only [S_impl_IsFinite] at *
    unfold F_impl_IsFinite at *
    split at hk
    · exact mm _ H K hk
    · exact hk.elim
def p_impl_areFinite_l2 (l_lists : List (List Nat)) (t2 : Bool) (t9 : Int) (k2_2 : Bool → Int → Bool) : Nat → Bool → Int → Bool
  | 0, _, _ => false
  | μ2 + 1, t2_2, t15 => (bif decide ((t15 : Int) < ((((l_lists).getD (t9 : Int).toNat [])).length : Int)) then (bif !((p_impl_IsFinite (((((l_lists).getD (t9 : Int).toNat [])).getD (t15 : Int).toNat 0)))) then false else (p_impl_areFinite_l2 l_lists t2 t9 k2_2 μ2 t2_2 (t15 + 1))) else (k2_2 t2_2 t15))
theorem p_impl_areFinite_l2_s (l_lists : List (List Nat)) (t2 : Bool) (t9 : Int) (k2_2 : Bool → Int → Bool) (μ2 : Nat) (t2_2 : Bool) (t15 : Int) : p_impl_areFinite_l2 l_lists t2 t9 k2_2 (μ2 + 1) t2_2 t15 = (bif decide ((t15 : Int) < ((((l_lists).getD (t9 : Int).toNat [])).length : Int)) then (bif !((p_impl_IsFinite (((((l_lists).getD (t9 : Int).toNat [])).getD (t15 : Int).toNat 0)))) then false else (p_impl_areFinite_l2 l_lists t2 t9 k2_2 μ2 t2_2 (t15 + 1))) else (k2_2 t2_2 t15)) := rfl
def p_impl_areFinite_l1 (l_lists : List (List Nat)) : Nat → Bool → Int → Bool
  | 0, _, _ => false
  | μ + 1, t2, t9 => (bif decide ((t9 : Int) < (l_lists.length : Int)) then (p_impl_areFinite_l2 l_lists t2 t9 (fun (t2_2 : Bool) (t15 : Int) => (p_impl_areFinite_l1 l_lists μ t2_2 (t9 + 1))) (Int.toNat (((((l_lists).getD (t9 : Int).toNat [])).length : Int) - (0 : Int)) + 1) t2 (0 : Int)) else true)
theorem p_impl_areFinite_l1_s (l_lists : List (List Nat)) (μ : Nat) (t2 : Bool) (t9 : Int) : p_impl_areFinite_l1 l_lists (μ + 1) t2 t9 = (bif decide ((t9 : Int) < (l_lists.length : Int)) then (p_impl_areFinite_l2 l_lists t2 t9 (fun (t2_2 : Bool) (t15 : Int) => (p_impl_areFinite_l1 l_lists μ t2_2 (t9 + 1))) (Int.toNat (((((l_lists).getD (t9 : Int).toNat [])).length : Int) - (0 : Int)) + 1) t2 (0 : Int)) else true) := rfl
def p_impl_areFinite (l_lists : List (List Nat)) : Bool := (p_impl_areFinite_l1 l_lists (Int.toNat ((l_lists.length : Int) - (0 : Int)) + 1) false (0 : Int))
theorem p_impl_areFinite_eq (l_lists : List (List Nat)) : p_impl_areFinite l_lists = (p_impl_areFinite_l1 l_lists (Int.toNat ((l_lists.length : Int) - (0 : Int)) + 1) false (0 : Int)) := rfl
def T_impl_areFinite (lists_a : Option Addr) (lists_n : Nat) (lists_e : Nat) (H : AHeap) (K : Bool → AHeap → Prop) : Prop := ∃ (l_lists : List (List Nat)), IsLL fF H lists_a lists_n l_lists ∧ l_lists.length < 1073741824 ∧ (∀ y ∈ l_lists, y.length < 1073741824) ∧ K (p_impl_areFinite l_lists) H
theorem T_impl_areFinite_i {lists_a : Option Addr} {lists_n : Nat} {lists_e : Nat} {H : AHeap} {K : Bool → AHeap → Prop} (h : ∃ (l_lists : List (List Nat)), IsLL fF H lists_a lists_n l_lists ∧ l_lists.length < 1073741824 ∧ (∀ y ∈ l_lists, y.length < 1073741824) ∧ K (p_impl_areFinite l_lists) H) : T_impl_areFinite lists_a lists_n lists_e H K := h

/-! impl_areFinite: function 115 -/
def E_impl_areFinite : Env := envOf [(62, S_impl_IsFinite)]
def F_impl_areFinite : List Value → AHeap → (Value → AHeap → Prop) → Prop
  | [.slice lists_a lists_n lists_e], H, K => T_impl_areFinite lists_a lists_n lists_e H fun (r1 : Bool) (H' : AHeap) => K (.bool r1) H'
  | _, _, _ => False
def S_impl_areFinite : FSpec := { F := F_impl_areFinite, quiet := true, tame := false }
theorem impl_areFinite_vc (lists_a : Option Addr) (lists_n : Nat) (lists_e : Nat) (H : AHeap) (K : Value → AHeap → Prop) : bodyK Try.prog E_impl_areFinite Try.f115 [.slice lists_a lists_n lists_e] H K =
  (loopK (exK Try.prog E_impl_areFinite (cl (cl (cr (cl (cr (bodyC Try.f115))))))) [.slice lists_a lists_n lists_e, undef, .bool false, undef, undef, undef, undef, .slice lists_a lists_n lists_e, .int .i64 (lists_n : Int), .int .i64 0, undef, undef, undef, undef, undef, undef, undef, undef, undef, undef, undef, undef, undef, undef] H (blockQ 0 (seqQ (exK Try.prog E_impl_areFinite (cr (cr (bodyC Try.f115)))) (retK Try.prog Try.f115 K)))) := by kernel_rfl
theorem impl_areFinite_r1 (lists_a : Option Addr) (lists_e : Nat) (lists_n : Nat) (t2 : Bool) (t9 : Int) (g4 g6 g10 g11 g12 g13 g14 g15 g16 g17 g18 g19 g20 g21 g22 g23 : Value) (H : AHeap) (R : Post) : exK Try.prog E_impl_areFinite (cl (cl (cr (cl (cr (bodyC Try.f115)))))) [.slice lists_a lists_n lists_e, undef, .bool t2, undef, g4, undef, g6, .slice lists_a lists_n lists_e, .int .i64 (lists_n : Int), .int .i64 t9, g10, g11, g12, g13, g14, g15, g16, g17, g18, g19, g20, g21, g22, g23] H R =
  (Br (decide ((t9 : Int) < (lists_n : Int))) ((0 : Int) ≤ t9 ∧ t9 < (lists_n : Int) ∧ ∃ b1 f1, (lists_a : Option Addr) = some ⟨b1, f1, none⟩ ∧ ∃ x1_a : Option Addr, ∃ x1_n : Nat, ∃ x1_e : Nat,  rdC H b1 (f1 + (t9 : Int).toNat * 1) = some (.slice x1_a x1_n x1_e) ∧ loopK (exK Try.prog E_impl_areFinite (cl (cl (cr (cr (cl (cl (cr (cr (cl (cl (cr (cl (cr (bodyC Try.f115))))))))))))))) [.slice lists_a lists_n lists_e, undef, .bool t2, undef, .slice x1_a x1_n x1_e, undef, g6, .slice lists_a lists_n lists_e, .int .i64 (lists_n : Int), .int .i64 t9, .bool (decide ((t9 : Int) < (lists_n : Int))), .pointer (some ⟨b1, f1 + (t9 : Int).toNat * 1, none⟩), .slice x1_a x1_n x1_e, .slice x1_a x1_n x1_e, .int .i64 (x1_n : Int), .int .i64 0, g16, g17, g18, g19, g20, g21, g22, g23] H (blockQ 2 (blockQ 1 (seqQ (exK Try.prog E_impl_areFinite (cr (cr (cr (cl (cl (cr (cl (cr (bodyC Try.f115)))))))))) (R))))) (R (.exit 0) [.slice lists_a lists_n lists_e, undef, .bool t2, undef, g4, undef, g6, .slice lists_a lists_n lists_e, .int .i64 (lists_n : Int), .int .i64 t9, .bool (decide ((t9 : Int) < (lists_n : Int))), g11, g12, g13, g14, g15, g16, g17, g18, g19, g20, g21, g22, g23] H)) := by kernel_rfl
def impl_areFinite_I1 (lists_a : Option Addr) (lists_e : Nat) (lists_n : Nat) (Inv : Nat → Bool → Int → AHeap → Prop) : Nat → List Value → AHeap → Prop := fun μ tm H => ∃ (t2 : Bool), ∃ (t9 : Int), ∃ g4 g6 g10 g11 g12 g13 g14 g15 g16 g17 g18 g19 g20 g21 g22 g23, tm = [.slice lists_a lists_n lists_e, undef, .bool t2, undef, g4, undef, g6, .slice lists_a lists_n lists_e, .int .i64 (lists_n : Int), .int .i64 t9, g10, g11, g12, g13, g14, g15, g16, g17, g18, g19, g20, g21, g22, g23] ∧ Inv μ t2 t9 H
theorem impl_areFinite_L1 (lists_a : Option Addr) (lists_e : Nat) (lists_n : Nat) {Q : Post} (Inv : Nat → Bool → Int → AHeap → Prop) (ν : Nat) (t2 : Bool) (t9 : Int) (g4 g6 g10 g11 g12 g13 g14 g15 g16 g17 g18 g19 g20 g21 g22 g23 : Value) (H : AHeap) (h0 : Inv ν t2 t9 H)
    (hs : ∀ (μ : Nat) (t2 : Bool) (t9 : Int) (g4 g6 g10 g11 g12 g13 g14 g15 g16 g17 g18 g19 g20 g21 g22 g23 : Value) (H : AHeap), Inv μ t2 t9 H → exK Try.prog E_impl_areFinite (cl (cl (cr (cl (cr (bodyC Try.f115)))))) [.slice lists_a lists_n lists_e, undef, .bool t2, undef, g4, undef, g6, .slice lists_a lists_n lists_e, .int .i64 (lists_n : Int), .int .i64 t9, g10, g11, g12, g13, g14, g15, g16, g17, g18, g19, g20, g21, g22, g23] H (loopQ (impl_areFinite_I1 lists_a lists_e lists_n Inv) μ Q)) : loopK (exK Try.prog E_impl_areFinite (cl (cl (cr (cl (cr (bodyC Try.f115))))))) [.slice lists_a lists_n lists_e, undef, .bool t2, undef, g4, undef, g6, .slice lists_a lists_n lists_e, .int .i64 (lists_n : Int), .int .i64 t9, g10, g11, g12, g13, g14, g15, g16, g17, g18, g19, g20, g21, g22, g23] H Q :=
  ⟨impl_areFinite_I1 lists_a lists_e lists_n Inv, ν, ⟨t2, t9, g4, g6, g10, g11, g12, g13, g14, g15, g16, g17, g18, g19, g20, g21, g22, g23, rfl, h0⟩, fun μ tm H h => by obtain ⟨t2, t9, g4, g6, g10, g11, g12, g13, g14, g15, g16, g17, g18, g19, g20, g21, g22, g23, rfl, hI⟩ := h; exact hs μ t2 t9 g4 g6 g10 g11 g12 g13 g14 g15 g16 g17 g18 g19 g20 g21 g22 g23 H hI⟩
theorem impl_areFinite_n1 {lists_a : Option Addr} {lists_e : Nat} {lists_n : Nat} {Q : Post} {Inv : Nat → Bool → Int → AHeap → Prop} {μ : Nat} (μ' : Nat) {t2 : Bool} {t9 : Int} {g4 g6 g10 g11 g12 g13 g14 g15 g16 g17 g18 g19 g20 g21 g22 g23 : Value} {H : AHeap} (hm : μ' < μ) (hI : Inv μ' t2 t9 H) : loopQ (impl_areFinite_I1 lists_a lists_e lists_n Inv) μ Q .normal [.slice lists_a lists_n lists_e, undef, .bool t2, undef, g4, undef, g6, .slice lists_a lists_n lists_e, .int .i64 (lists_n : Int), .int .i64 t9, g10, g11, g12, g13, g14, g15, g16, g17, g18, g19, g20, g21, g22, g23] H := ⟨μ', hm, t2, t9, g4, g6, g10, g11, g12, g13, g14, g15, g16, g17, g18, g19, g20, g21, g22, g23, rfl, hI⟩
theorem impl_areFinite_x1_0 (lists_a : Option Addr) (lists_e : Nat) (lists_n : Nat) (t2 : Bool) (t9 : Int) (g4 g6 g10 g11 g12 g13 g14 g15 g16 g17 g18 g19 g20 g21 g22 g23 : Value) (H : AHeap) (K : Value → AHeap → Prop)  {I : Nat → List Value → AHeap → Prop} {μ : Nat} : loopQ I μ (blockQ 0 (seqQ (exK Try.prog E_impl_areFinite (cr (cr (bodyC Try.f115)))) (retK Try.prog Try.f115 K))) (.exit 0) [.slice lists_a lists_n lists_e, undef, .bool t2, undef, g4, undef, g6, .slice lists_a lists_n lists_e, .int .i64 (lists_n : Int), .int .i64 t9, g10, g11, g12, g13, g14, g15, g16, g17, g18, g19, g20, g21, g22, g23] H =
  (K (.bool true) H) := by kernel_rfl
theorem impl_areFinite_x1_ret (lists_a : Option Addr) (lists_e : Nat) (lists_n : Nat) (t2 : Bool) (t9 : Int) (g4 g6 g10 g11 g12 g13 g14 g15 g16 g17 g18 g19 g20 g21 g22 g23 : Value) (H : AHeap) (K : Value → AHeap → Prop)  {I : Nat → List Value → AHeap → Prop} {μ : Nat} : loopQ I μ (blockQ 0 (seqQ (exK Try.prog E_impl_areFinite (cr (cr (bodyC Try.f115)))) (retK Try.prog Try.f115 K))) .ret [.slice lists_a lists_n lists_e, undef, .bool t2, undef, g4, undef, g6, .slice lists_a lists_n lists_e, .int .i64 (lists_n : Int), .int .i64 t9, g10, g11, g12, g13, g14, g15, g16, g17, g18, g19, g20, g21, g22, g23] H =
  (K (.bool t2) H) := by kernel_rfl
theorem impl_areFinite_r2 (b1 : Nat) (f1 : Nat) (g23 : Value) (lists_a : Option Addr) (lists_e : Nat) (lists_n : Nat) (t9 : Int) (x1_a : Option Addr) (x1_e : Nat) (x1_n : Nat) (t2_2 : Bool) (t15 : Int) (g6 g16 g17 g18 g19 g20 g21 g22 : Value) (H : AHeap) (R : Post) : exK Try.prog E_impl_areFinite (cl (cl (cr (cr (cl (cl (cr (cr (cl (cl (cr (cl (cr (bodyC Try.f115)))))))))))))) [.slice lists_a lists_n lists_e, undef, .bool t2_2, undef, .slice x1_a x1_n x1_e, undef, g6, .slice lists_a lists_n lists_e, .int .i64 (lists_n : Int), .int .i64 t9, .bool (decide ((t9 : Int) < (lists_n : Int))), .pointer (some ⟨b1, f1 + (t9 : Int).toNat * 1, none⟩), .slice x1_a x1_n x1_e, .slice x1_a x1_n x1_e, .int .i64 (x1_n : Int), .int .i64 t15, g16, g17, g18, g19, g20, g21, g22, g23] H R =
  (Br (decide ((t15 : Int) < (x1_n : Int))) ((0 : Int) ≤ t15 ∧ t15 < (x1_n : Int) ∧ ∃ b2 f2, (x1_a : Option Addr) = some ⟨b2, f2, none⟩ ∧ ∃ x2 : Nat,  rdC H b2 (f2 + (t15 : Int).toNat * 1) = some (.float .f32 x2) ∧ T_impl_IsFinite x2 H fun (r1 : Bool) (H1 : AHeap) => Br (!r1) (R .ret [.slice lists_a lists_n lists_e, undef, .bool false, undef, .slice x1_a x1_n x1_e, undef, .float .f32 x2, .slice lists_a lists_n lists_e, .int .i64 (lists_n : Int), .int .i64 t9, .bool (decide ((t9 : Int) < (lists_n : Int))), .pointer (some ⟨b1, f1 + (t9 : Int).toNat * 1, none⟩), .slice x1_a x1_n x1_e, .slice x1_a x1_n x1_e, .int .i64 (x1_n : Int), .int .i64 t15, .bool (decide ((t15 : Int) < (x1_n : Int))), .pointer (some ⟨b2, f2 + (t15 : Int).toNat * 1, none⟩), .float .f32 x2, .float .f32 x2, .bool r1, .bool (!r1), g22, g23] H1) (R .normal [.slice lists_a lists_n lists_e, undef, .bool t2_2, undef, .slice x1_a x1_n x1_e, undef, .float .f32 x2, .slice lists_a lists_n lists_e, .int .i64 (lists_n : Int), .int .i64 t9, .bool (decide ((t9 : Int) < (lists_n : Int))), .pointer (some ⟨b1, f1 + (t9 : Int).toNat * 1, none⟩), .slice x1_a x1_n x1_e, .slice x1_a x1_n x1_e, .int .i64 (x1_n : Int), .int .i64 (IntKind.wrap .i64 (t15 + 1)), .bool (decide ((t15 : Int) < (x1_n : Int))), .pointer (some ⟨b2, f2 + (t15 : Int).toNat * 1, none⟩), .float .f32 x2, .float .f32 x2, .bool r1, .bool (!r1), .int .i64 (IntKind.wrap .i64 (t15 + 1)), g23] H1)) (R (.exit 2) [.slice lists_a lists_n lists_e, undef, .bool t2_2, undef, .slice x1_a x1_n x1_e, undef, g6, .slice lists_a lists_n lists_e, .int .i64 (lists_n : Int), .int .i64 t9, .bool (decide ((t9 : Int) < (lists_n : Int))), .pointer (some ⟨b1, f1 + (t9 : Int).toNat * 1, none⟩), .slice x1_a x1_n x1_e, .slice x1_a x1_n x1_e, .int .i64 (x1_n : Int), .int .i64 t15, .bool (decide ((t15 : Int) < (x1_n : Int))), g17, g18, g19, g20, g21, g22, g23] H)) := by kernel_rfl
def impl_areFinite_I2 (b1 : Nat) (f1 : Nat) (g23 : Value) (lists_a : Option Addr) (lists_e : Nat) (lists_n : Nat) (t9 : Int) (x1_a : Option Addr) (x1_e : Nat) (x1_n : Nat) (Inv : Nat → Bool → Int → AHeap → Prop) : Nat → List Value → AHeap → Prop := fun μ tm H => ∃ (t2_2 : Bool), ∃ (t15 : Int), ∃ g6 g16 g17 g18 g19 g20 g21 g22, tm = [.slice lists_a lists_n lists_e, undef, .bool t2_2, undef, .slice x1_a x1_n x1_e, undef, g6, .slice lists_a lists_n lists_e, .int .i64 (lists_n : Int), .int .i64 t9, .bool (decide ((t9 : Int) < (lists_n : Int))), .pointer (some ⟨b1, f1 + (t9 : Int).toNat * 1, none⟩), .slice x1_a x1_n x1_e, .slice x1_a x1_n x1_e, .int .i64 (x1_n : Int), .int .i64 t15, g16, g17, g18, g19, g20, g21, g22, g23] ∧ Inv μ t2_2 t15 H
theorem impl_areFinite_L2 (b1 : Nat) (f1 : Nat) (g23 : Value) (lists_a : Option Addr) (lists_e : Nat) (lists_n : Nat) (t9 : Int) (x1_a : Option Addr) (x1_e : Nat) (x1_n : Nat) {Q : Post} (Inv : Nat → Bool → Int → AHeap → Prop) (ν : Nat) (t2_2 : Bool) (t15 : Int) (g6 g16 g17 g18 g19 g20 g21 g22 : Value) (H : AHeap) (h0 : Inv ν t2_2 t15 H)
    (hs : ∀ (μ : Nat) (t2_2 : Bool) (t15 : Int) (g6 g16 g17 g18 g19 g20 g21 g22 : Value) (H : AHeap), Inv μ t2_2 t15 H → exK Try.prog E_impl_areFinite (cl (cl (cr (cr (cl (cl (cr (cr (cl (cl (cr (cl (cr (bodyC Try.f115)))))))))))))) [.slice lists_a lists_n lists_e, undef, .bool t2_2, undef, .slice x1_a x1_n x1_e, undef, g6, .slice lists_a lists_n lists_e, .int .i64 (lists_n : Int), .int .i64 t9, .bool (decide ((t9 : Int) < (lists_n : Int))), .pointer (some ⟨b1, f1 + (t9 : Int).toNat * 1, none⟩), .slice x1_a x1_n x1_e, .slice x1_a x1_n x1_e, .int .i64 (x1_n : Int), .int .i64 t15, g16, g17, g18, g19, g20, g21, g22, g23] H (loopQ (impl_areFinite_I2 b1 f1 g23 lists_a lists_e lists_n t9 x1_a x1_e x1_n Inv) μ Q)) : loopK (exK Try.prog E_impl_areFinite (cl (cl (cr (cr (cl (cl (cr (cr (cl (cl (cr (cl (cr (bodyC Try.f115))))))))))))))) [.slice lists_a lists_n lists_e, undef, .bool t2_2, undef, .slice x1_a x1_n x1_e, undef, g6, .slice lists_a lists_n lists_e, .int .i64 (lists_n : Int), .int .i64 t9, .bool (decide ((t9 : Int) < (lists_n : Int))), .pointer (some ⟨b1, f1 + (t9 : Int).toNat * 1, none⟩), .slice x1_a x1_n x1_e, .slice x1_a x1_n x1_e, .int .i64 (x1_n : Int), .int .i64 t15, g16, g17, g18, g19, g20, g21, g22, g23] H Q :=
  ⟨impl_areFinite_I2 b1 f1 g23 lists_a lists_e lists_n t9 x1_a x1_e x1_n Inv, ν, ⟨t2_2, t15, g6, g16, g17, g18, g19, g20, g21, g22, rfl, h0⟩, fun μ tm H h => by obtain ⟨t2_2, t15, g6, g16, g17, g18, g19, g20, g21, g22, rfl, hI⟩ := h; exact hs μ t2_2 t15 g6 g16 g17 g18 g19 g20 g21 g22 H hI⟩
theorem impl_areFinite_n2 {b1 : Nat} {f1 : Nat} {g23 : Value} {lists_a : Option Addr} {lists_e : Nat} {lists_n : Nat} {t9 : Int} {x1_a : Option Addr} {x1_e : Nat} {x1_n : Nat} {Q : Post} {Inv : Nat → Bool → Int → AHeap → Prop} {μ : Nat} (μ' : Nat) {t2_2 : Bool} {t15 : Int} {g6 g16 g17 g18 g19 g20 g21 g22 : Value} {H : AHeap} (hm : μ' < μ) (hI : Inv μ' t2_2 t15 H) : loopQ (impl_areFinite_I2 b1 f1 g23 lists_a lists_e lists_n t9 x1_a x1_e x1_n Inv) μ Q .normal [.slice lists_a lists_n lists_e, undef, .bool t2_2, undef, .slice x1_a x1_n x1_e, undef, g6, .slice lists_a lists_n lists_e, .int .i64 (lists_n : Int), .int .i64 t9, .bool (decide ((t9 : Int) < (lists_n : Int))), .pointer (some ⟨b1, f1 + (t9 : Int).toNat * 1, none⟩), .slice x1_a x1_n x1_e, .slice x1_a x1_n x1_e, .int .i64 (x1_n : Int), .int .i64 t15, g16, g17, g18, g19, g20, g21, g22, g23] H := ⟨μ', hm, t2_2, t15, g6, g16, g17, g18, g19, g20, g21, g22, rfl, hI⟩
theorem impl_areFinite_x2_2 (b1 : Nat) (f1 : Nat) (g23 : Value) (lists_a : Option Addr) (lists_e : Nat) (lists_n : Nat) (t9 : Int) (x1_a : Option Addr) (x1_e : Nat) (x1_n : Nat) (t2_2 : Bool) (t15 : Int) (g6 g16 g17 g18 g19 g20 g21 g22 : Value) (H : AHeap)  (R : Post) {I : Nat → List Value → AHeap → Prop} {μ : Nat} : loopQ I μ (blockQ 2 (blockQ 1 (seqQ (exK Try.prog E_impl_areFinite (cr (cr (cr (cl (cl (cr (cl (cr (bodyC Try.f115)))))))))) (R)))) (.exit 2) [.slice lists_a lists_n lists_e, undef, .bool t2_2, undef, .slice x1_a x1_n x1_e, undef, g6, .slice lists_a lists_n lists_e, .int .i64 (lists_n : Int), .int .i64 t9, .bool (decide ((t9 : Int) < (lists_n : Int))), .pointer (some ⟨b1, f1 + (t9 : Int).toNat * 1, none⟩), .slice x1_a x1_n x1_e, .slice x1_a x1_n x1_e, .int .i64 (x1_n : Int), .int .i64 t15, g16, g17, g18, g19, g20, g21, g22, g23] H =
  (R .normal [.slice lists_a lists_n lists_e, undef, .bool t2_2, undef, .slice x1_a x1_n x1_e, undef, g6, .slice lists_a lists_n lists_e, .int .i64 (lists_n : Int), .int .i64 (IntKind.wrap .i64 (t9 + 1)), .bool (decide ((t9 : Int) < (lists_n : Int))), .pointer (some ⟨b1, f1 + (t9 : Int).toNat * 1, none⟩), .slice x1_a x1_n x1_e, .slice x1_a x1_n x1_e, .int .i64 (x1_n : Int), .int .i64 t15, g16, g17, g18, g19, g20, g21, g22, .int .i64 (IntKind.wrap .i64 (t9 + 1))] H) := by kernel_rfl
theorem impl_areFinite_x2_ret (b1 : Nat) (f1 : Nat) (g23 : Value) (lists_a : Option Addr) (lists_e : Nat) (lists_n : Nat) (t9 : Int) (x1_a : Option Addr) (x1_e : Nat) (x1_n : Nat) (t2_2 : Bool) (t15 : Int) (g6 g16 g17 g18 g19 g20 g21 g22 : Value) (H : AHeap)  (R : Post) {I : Nat → List Value → AHeap → Prop} {μ : Nat} : loopQ I μ (blockQ 2 (blockQ 1 (seqQ (exK Try.prog E_impl_areFinite (cr (cr (cr (cl (cl (cr (cl (cr (bodyC Try.f115)))))))))) (R)))) .ret [.slice lists_a lists_n lists_e, undef, .bool t2_2, undef, .slice x1_a x1_n x1_e, undef, g6, .slice lists_a lists_n lists_e, .int .i64 (lists_n : Int), .int .i64 t9, .bool (decide ((t9 : Int) < (lists_n : Int))), .pointer (some ⟨b1, f1 + (t9 : Int).toNat * 1, none⟩), .slice x1_a x1_n x1_e, .slice x1_a x1_n x1_e, .int .i64 (x1_n : Int), .int .i64 t15, g16, g17, g18, g19, g20, g21, g22, g23] H =
  (R .ret [.slice lists_a lists_n lists_e, undef, .bool t2_2, undef, .slice x1_a x1_n x1_e, undef, g6, .slice lists_a lists_n lists_e, .int .i64 (lists_n : Int), .int .i64 t9, .bool (decide ((t9 : Int) < (lists_n : Int))), .pointer (some ⟨b1, f1 + (t9 : Int).toNat * 1, none⟩), .slice x1_a x1_n x1_e, .slice x1_a x1_n x1_e, .int .i64 (x1_n : Int), .int .i64 t15, g16, g17, g18, g19, g20, g21, g22, g23] H) := by kernel_rfl
theorem E_impl_areFinite_ok : ∀ g, FnOk Try.prog g (E_impl_areFinite g) := FnOk.envOf (by
  intro x hx
  simp only [List.mem_cons, List.not_mem_nil, or_false] at hx
  subst hx; exact impl_IsFinite_ok)
set_option maxHeartbeats 1000000 in
theorem impl_areFinite_main (lists_a : Option Addr) (lists_n : Nat) (lists_e : Nat) (H : AHeap) (K : Value → AHeap → Prop) (h : T_impl_areFinite lists_a lists_n lists_e H fun (r1 : Bool) (H' : AHeap) => K (.bool r1) H') : bodyK Try.prog E_impl_areFinite Try.f115 [.slice lists_a lists_n lists_e] H K := by
  rw [impl_areFinite_vc]
  obtain ⟨l_lists, i_lists, bd_22, bb_l_lists, hk⟩ := h
  obtain rfl := i_lists.eqn
  have e : (p_impl_areFinite l_lists) = _ := rfl
  have e := e.trans (p_impl_areFinite_eq l_lists)
  have g0 := Grow.refl H
  refine impl_areFinite_L1 _ _ _ (fun (μ : Nat) (t2 : Bool) (t9 : Int) (H_1 : AHeap) => H = H_1 ∧ (0 : Int) ≤ t9 ∧ t9 ≤ (l_lists.length : Int) ∧ (l_lists.length : Int) - t9 ≤ (μ : Int) ∧ p_impl_areFinite l_lists = p_impl_areFinite_l1 l_lists (μ + 1) t2 t9) (Int.toNat ((l_lists.length : Int) - (0 : Int))) _ _ _ _ _ _ _ _ _ _ _ _ _ _ _ _ _ _ H ?_ ?_
  · exact ⟨rfl, (by first | omega | (simp; done) | (simp; omega)), (by first | omega | (simp; done) | (simp; omega)), (by omega), e⟩
  · intro μ t2 t9 g4 g6 g10 g11 g12 g13 g14 g15 g16 g17 g18 g19 g20 g21 g22 g23 H_1 hI
    obtain ⟨rfl, v_1, v_2, hμ, e⟩ := hI
    rw [impl_areFinite_r1]
    have e := e.trans (p_impl_areFinite_l1_s l_lists μ t2 t9)
    have l_3 := g0.1
    refine Br.intro (fun c_4 => ?_) (fun c_4 => ?_)
    · have e := e.trans (cond_t c_4)
      have c_4' := of_decide_eq_true c_4
      obtain ⟨b_5, f_6, q_7⟩ := ((i_lists.grow g0)).pos (by first | omega | (simp only [List.length_set, List.length_replicate, List.length_append, List.length_cons, List.length_nil, List.length_take, List.length_drop, marks_length]; done) | (simp only [List.length_set, List.length_replicate, List.length_append, List.length_cons, List.length_nil, List.length_take, List.length_drop, marks_length]; omega))
      refine ⟨by omega, by omega, b_5, f_6, q_7, ?_⟩
      obtain ⟨a_8, n_9, e_10, r_11, i_12⟩ := (i_lists).rd (i := (t9 : Int).toNat) g0 q_7 (by omega)
      obtain rfl := i_12.eqn
      refine ⟨a_8, _, e_10, r_11, ?_⟩
      have z_13 := getD_len bb_l_lists (t9 : Int).toNat
      refine impl_areFinite_L2 _ _ _ _ _ _ _ _ _ _ (fun (μ2 : Nat) (t2_2 : Bool) (t15 : Int) (H_2 : AHeap) => H = H_2 ∧ (0 : Int) ≤ t15 ∧ t15 ≤ ((((l_lists).getD (t9 : Int).toNat [])).length : Int) ∧ ((((l_lists).getD (t9 : Int).toNat [])).length : Int) - t15 ≤ (μ2 : Int) ∧ p_impl_areFinite l_lists = p_impl_areFinite_l2 l_lists t2 t9 (fun (t2_2 : Bool) (t15 : Int) => (p_impl_areFinite_l1 l_lists μ t2_2 (t9 + 1))) (μ2 + 1) t2_2 t15) (Int.toNat (((((l_lists).getD (t9 : Int).toNat [])).length : Int) - (0 : Int))) _ _ _ _ _ _ _ _ _ _ H ?_ ?_
      · exact ⟨rfl, (by first | omega | (simp; done) | (simp; omega)), (by first | omega | (simp; done) | (simp; omega)), (by omega), e⟩
      · intro μ2 t2_2 t15 g6 g16 g17 g18 g19 g20 g21 g22 H_2 hI
        obtain ⟨rfl, v_14, v_15, hμ, e⟩ := hI
        rw [impl_areFinite_r2]
        have e := e.trans (p_impl_areFinite_l2_s l_lists t2 t9 (fun (t2_2 : Bool) (t15 : Int) => (p_impl_areFinite_l1 l_lists μ t2_2 (t9 + 1))) μ2 t2_2 t15)
        have l_16 := g0.1
        refine Br.intro (fun c_17 => ?_) (fun c_17 => ?_)
        · have e := e.trans (cond_t c_17)
          have c_17' := of_decide_eq_true c_17
          obtain ⟨b_18, f_19, q_20⟩ := ((i_12.grow g0)).pos (by first | omega | (simp only [List.length_set, List.length_replicate, List.length_append, List.length_cons, List.length_nil, List.length_take, List.length_drop, marks_length]; done) | (simp only [List.length_set, List.length_replicate, List.length_append, List.length_cons, List.length_nil, List.length_take, List.length_drop, marks_length]; omega))
          refine ⟨by omega, by omega, b_18, f_19, q_20, ?_⟩
          refine ⟨((((l_lists).getD (t9 : Int).toNat [])).getD (t15 : Int).toNat 0), (i_12).rd g0 q_20 (by omega) _, ?_⟩
          refine T_impl_IsFinite_i ?_
          refine Br.intro (fun c_21 => ?_) (fun c_21 => ?_)
          · have e := e.trans (cond_t c_21)
            have c_21n := nf_of_t c_21
            rw [impl_areFinite_x2_ret]
            rw [impl_areFinite_x1_ret]
            rw [e] at hk
            exact hk
          · have e := e.trans (cond_f c_21)
            have c_21n := nt_of_f c_21
            rw [show IntKind.wrap .i64 (t15 + 1) = (t15 + 1) from wrap64 (by omega) (by omega)]
            refine impl_areFinite_n2 (μ2 - 1) (by omega) ⟨rfl, (by first | omega | (simp only [List.length_append, List.length_cons, List.length_nil, List.length_set]; done) | (simp only [List.length_append, List.length_cons, List.length_nil, List.length_set]; omega)), (by first | omega | (simp only [List.length_append, List.length_cons, List.length_nil, List.length_set]; done) | (simp only [List.length_append, List.length_cons, List.length_nil, List.length_set]; omega)), (by omega), (by rw [show μ2 - 1 + 1 = μ2 from by omega]; exact e)⟩
        · have e := e.trans (cond_f c_17)
          have c_17' := of_decide_eq_false c_17
          rw [impl_areFinite_x2_2]
          rw [show IntKind.wrap .i64 (t9 + 1) = (t9 + 1) from wrap64 (by omega) (by omega)]
          refine impl_areFinite_n1 (μ - 1) (by omega) ⟨rfl, (by first | omega | (simp only [List.length_append, List.length_cons, List.length_nil, List.length_set]; done) | (simp only [List.length_append, List.length_cons, List.length_nil, List.length_set]; omega)), (by first | omega | (simp only [List.length_append, List.length_cons, List.length_nil, List.length_set]; done) | (simp only [List.length_append, List.length_cons, List.length_nil, List.length_set]; omega)), (by omega), (by rw [show μ - 1 + 1 = μ from by omega]; exact e)⟩
    · have e := e.trans (cond_f c_4)
      have c_4' := of_decide_eq_false c_4
      rw [impl_areFinite_x1_0]
      rw [e] at hk
      exact hk
theorem impl_areFinite_ok : FnOk Try.prog 115 S_impl_areFinite := by
  refine FnOk.body mix_ok E_impl_areFinite_ok Try.func115 rfl (by kernel_rfl) (by kernel_rfl) ?_ ?_ ?_ ?_ ?_
  · intro args H K K' h hk
    simp only [S_impl_areFinite] at *
    unfold F_impl_areFinite at *
    split at hk
    · obtain ⟨l_lists, i_lists, bd_22, bb_l_lists, k⟩ := hk
      exact ⟨l_lists, i_lists, bd_22, bb_l_lists, h _ _ k⟩
    · exact hk.elim
  · intro _ args H K hk
    simp only [S_impl_areFinite] at *
    unfold F_impl_areFinite at *
    split at hk
    · obtain ⟨l_lists, i_lists, bd_22, bb_l_lists, k⟩ := hk
      exact ⟨_, k, fun K' k' => ⟨l_lists, i_lists, bd_22, bb_l_lists, k'⟩⟩
    · exact hk.elim
  · intro args H K hk
    simp only [S_impl_areFinite] at *
    unfold F_impl_areFinite at *
    split at hk
    · obtain ⟨l_lists, i_lists, bd_22, bb_l_lists, k⟩ := hk
      exact ⟨_, _, k⟩
    · exact hk.elim
  · intro hq; cases hq
  · have mm := @impl_areFinite_main
    revert mm
    generalize bodyK Try.prog E_impl_areFinite Try.f115 = Q
    intro mm args H K hk
    simp only [S_impl_areFinite] at *
    unfold F_impl_areFinite at *
    split at hk
    · exact mm _ _ _ H K hk
    · exact hk.elim
def p_impl_isLong (l_list : List Nat) : Bool := (bif (p_impl_within (l_list.length : Int) (1 : Int) (128 : Int)) then (p_impl_areFinite ([l_list])) else false)
theorem p_impl_isLong_eq (l_list : List Nat) : p_impl_isLong l_list = (bif (p_impl_within (l_list.length : Int) (1 : Int) (128 : Int)) then (p_impl_areFinite ([l_list])) else false) := rfl
def T_impl_isLong (list_a : Option Addr) (list_n : Nat) (list_e : Nat) (H : AHeap) (K : Bool → AHeap → Prop) : Prop := ∃ (l_list : List Nat), IsL fF H list_a list_n l_list ∧ l_list.length < 1073741824 ∧ ((∀ H' : AHeap, Grow H H' → K (p_impl_isLong l_list) H'))
theorem T_impl_isLong_i {list_a : Option Addr} {list_n : Nat} {list_e : Nat} {H : AHeap} {K : Bool → AHeap → Prop} (h : ∃ (l_list : List Nat), IsL fF H list_a list_n l_list ∧ l_list.length < 1073741824 ∧ ((∀ H' : AHeap, Grow H H' → K (p_impl_isLong l_list) H'))) : T_impl_isLong list_a list_n list_e H K := h
theorem impl_isLong_t {l : List Nat} (h : p_impl_isLong l = true) : 1 ≤ (l.length : Int) ∧ (l.length : Int) ≤ 128 := by
  rw [p_impl_isLong_eq] at h
  cases h1 : p_impl_within (l.length : Int) 1 128
  · rw [h1] at h; cases h
  · exact impl_within_t h1
/-! impl_isLong: function 61 -/
def E_impl_isLong : Env := envOf [(72, S_impl_within), (115, S_impl_areFinite)]
def F_impl_isLong : List Value → AHeap → (Value → AHeap → Prop) → Prop
  | [.slice list_a list_n list_e], H, K => T_impl_isLong list_a list_n list_e H fun (r1 : Bool) (H' : AHeap) => K (.bool r1) H'
  | _, _, _ => False
def S_impl_isLong : FSpec := { F := F_impl_isLong, quiet := false, tame := true }
theorem impl_isLong_vc (list_a : Option Addr) (list_n : Nat) (list_e : Nat) (H : AHeap) (K : Value → AHeap → Prop) : bodyK Try.prog E_impl_isLong Try.f61 [.slice list_a list_n list_e] H K =
  (T_impl_within (list_n : Int) 1 128 H fun (r1 : Bool) (H1 : AHeap) => Br r1 (Al [.slice list_a list_n list_e] H1 fun b1 H2 => T_impl_areFinite (some ⟨b1, 0, none⟩) 1 1 H2 fun (r2 : Bool) (H3 : AHeap) => K (.bool r2) H3) (K (.bool false) H1)) := by kernel_rfl
theorem E_impl_isLong_ok : ∀ g, FnOk Try.prog g (E_impl_isLong g) := FnOk.envOf (by
  intro x hx
  simp only [List.mem_cons, List.not_mem_nil, or_false] at hx
  rcases hx with rfl | rfl
  · exact impl_within_ok
  · exact impl_areFinite_ok)
set_option maxHeartbeats 1000000 in
theorem impl_isLong_main (list_a : Option Addr) (list_n : Nat) (list_e : Nat) (H : AHeap) (K : Value → AHeap → Prop) (h : T_impl_isLong list_a list_n list_e H fun (r1 : Bool) (H' : AHeap) => K (.bool r1) H') : bodyK Try.prog E_impl_isLong Try.f61 [.slice list_a list_n list_e] H K := by
  rw [impl_isLong_vc]
  obtain ⟨l_list, i_list, bd_12, hk⟩ := h
  obtain rfl := i_list.eqn
  have e : (p_impl_isLong l_list) = _ := rfl
  have e := e.trans (p_impl_isLong_eq l_list)
  have g0 := Grow.refl H
  refine T_impl_within_i ?_
  refine Br.intro (fun c_1 => ?_) (fun c_1 => ?_)
  · have e := e.trans (cond_t c_1)
    have c_1' := impl_within_t c_1
    refine Al.intro (fun b_2 H_1 hb_3 hl_4 g_5 o_6 => ?_)
    have l_8 := g_5.1
    have g_9 := g0.trans g_5
    have l_10 := g_9.1
    have w_11 := o_6.lt
    refine T_impl_areFinite_i ⟨[l_list], ⟨_, o_6.rdAll rfl, LLc.cons (i_list.grow g_9) (LLc.nil _ _)⟩, (by first | omega | (simp only [List.length_set, List.length_replicate, List.length_append, List.length_cons, List.length_nil, List.length_take, List.length_drop, marks_length]; done) | (simp only [List.length_set, List.length_replicate, List.length_append, List.length_cons, List.length_nil, List.length_take, List.length_drop, marks_length]; omega)), (by first | assumption | (intro y hy; simp only [List.mem_cons, List.not_mem_nil, or_false] at hy; first | omega | (subst hy; omega) | (rcases hy with rfl | rfl <;> omega) | (rcases hy with rfl | rfl | rfl <;> omega))), ?_⟩
    rw [e] at hk
    exact hk  H_1 g_9 
  · have e := e.trans (cond_f c_1)
    rw [e] at hk
    exact hk  H g0 
theorem impl_isLong_ok : FnOk Try.prog 61 S_impl_isLong := by
  refine FnOk.body mix_ok E_impl_isLong_ok Try.func61 rfl (by kernel_rfl) (by kernel_rfl) ?_ ?_ ?_ ?_ ?_
  · intro args H K K' h hk
    simp only [S_impl_isLong] at *
    unfold F_impl_isLong at *
    split at hk
    · obtain ⟨l_list, i_list, bd_12, k⟩ := hk
      exact ⟨l_list, i_list, bd_12, (fun  H' gg  => h _ _ (k  H' gg ))⟩
    · exact hk.elim
  · intro hq; cases hq
  · intro args H K hk
    simp only [S_impl_isLong] at *
    unfold F_impl_isLong at *
    split at hk
    · obtain ⟨l_list, i_list, bd_12, k⟩ := hk
      exact ⟨_, _, k H (Grow.refl H)⟩
    · exact hk.elim
  · intro _ args H K hk
    simp only [S_impl_isLong] at *
    unfold F_impl_isLong at *
    split at hk
    · obtain ⟨l_list, i_list, bd_12, k⟩ := hk
      exact ⟨l_list, i_list, bd_12, (fun  H' gg  => ⟨gg, k  H' gg ⟩)⟩
    · exact hk.elim
  · have mm := @impl_isLong_main
    revert mm
    generalize bodyK Try.prog E_impl_isLong Try.f61 = Q
    intro mm args H K hk
    simp only [S_impl_isLong] at *
    unfold F_impl_isLong at *
    split at hk
    · exact mm _ _ _ H K hk
    · exact hk.elim
def p_impl_added_l1 (l_list : List Nat) : Nat → Nat → Int → Nat
  | 0, _, _ => 0
  | μ + 1, sum, t8 => (bif decide ((t8 : Int) < (l_list.length : Int)) then (p_impl_added_l1 l_list μ (fadd .f32 sum (((l_list).getD (t8 : Int).toNat 0))) (t8 + 1)) else sum)
theorem p_impl_added_l1_s (l_list : List Nat) (μ : Nat) (sum : Nat) (t8 : Int) : p_impl_added_l1 l_list (μ + 1) sum t8 = (bif decide ((t8 : Int) < (l_list.length : Int)) then (p_impl_added_l1 l_list μ (fadd .f32 sum (((l_list).getD (t8 : Int).toNat 0))) (t8 + 1)) else sum) := rfl
def p_impl_added (l_list : List Nat) : Nat := (p_impl_added_l1 l_list (Int.toNat ((l_list.length : Int) - (0 : Int)) + 1) 0 (0 : Int))
theorem p_impl_added_eq (l_list : List Nat) : p_impl_added l_list = (p_impl_added_l1 l_list (Int.toNat ((l_list.length : Int) - (0 : Int)) + 1) 0 (0 : Int)) := rfl
def T_impl_added (list_a : Option Addr) (list_n : Nat) (list_e : Nat) (H : AHeap) (K : Nat → AHeap → Prop) : Prop := ∃ (l_list : List Nat), IsL fF H list_a list_n l_list ∧ l_list.length < 1073741824 ∧ K (p_impl_added l_list) H
theorem T_impl_added_i {list_a : Option Addr} {list_n : Nat} {list_e : Nat} {H : AHeap} {K : Nat → AHeap → Prop} (h : ∃ (l_list : List Nat), IsL fF H list_a list_n l_list ∧ l_list.length < 1073741824 ∧ K (p_impl_added l_list) H) : T_impl_added list_a list_n list_e H K := h

/-! impl_added: function 118 -/
def E_impl_added : Env := envOf []
def F_impl_added : List Value → AHeap → (Value → AHeap → Prop) → Prop
  | [.slice list_a list_n list_e], H, K => T_impl_added list_a list_n list_e H fun (r1 : Nat) (H' : AHeap) => K (.float .f32 r1) H'
  | _, _, _ => False
def S_impl_added : FSpec := { F := F_impl_added, quiet := true, tame := false }
theorem impl_added_vc (list_a : Option Addr) (list_n : Nat) (list_e : Nat) (H : AHeap) (K : Value → AHeap → Prop) : bodyK Try.prog E_impl_added Try.f118 [.slice list_a list_n list_e] H K =
  (loopK (exK Try.prog E_impl_added (cl (cl (cr (cl (cr (cr (bodyC Try.f118)))))))) [.slice list_a list_n list_e, undef, .float .f32 0, .float .f32 0, undef, undef, .slice list_a list_n list_e, .int .i64 (list_n : Int), .int .i64 0, undef, undef, undef, undef, undef, undef, undef, undef] H (blockQ 0 (seqQ (exK Try.prog E_impl_added (cr (cr (cr (bodyC Try.f118))))) (retK Try.prog Try.f118 K)))) := by kernel_rfl
theorem impl_added_r1 (list_a : Option Addr) (list_e : Nat) (list_n : Nat) (sum : Nat) (t8 : Int) (g5 g9 g10 g11 g12 g13 g14 g15 : Value) (H : AHeap) (R : Post) : exK Try.prog E_impl_added (cl (cl (cr (cl (cr (cr (bodyC Try.f118))))))) [.slice list_a list_n list_e, undef, .float .f32 0, .float .f32 sum, undef, g5, .slice list_a list_n list_e, .int .i64 (list_n : Int), .int .i64 t8, g9, g10, g11, g12, g13, g14, g15, undef] H R =
  (Br (decide ((t8 : Int) < (list_n : Int))) ((0 : Int) ≤ t8 ∧ t8 < (list_n : Int) ∧ ∃ b1 f1, (list_a : Option Addr) = some ⟨b1, f1, none⟩ ∧ ∃ x1 : Nat,  rdC H b1 (f1 + (t8 : Int).toNat * 1) = some (.float .f32 x1) ∧ R .normal [.slice list_a list_n list_e, undef, .float .f32 0, .float .f32 (fadd .f32 sum x1), undef, .float .f32 x1, .slice list_a list_n list_e, .int .i64 (list_n : Int), .int .i64 (IntKind.wrap .i64 (t8 + 1)), .bool (decide ((t8 : Int) < (list_n : Int))), .pointer (some ⟨b1, f1 + (t8 : Int).toNat * 1, none⟩), .float .f32 x1, .float .f32 sum, .float .f32 x1, .float .f32 (fadd .f32 sum x1), .int .i64 (IntKind.wrap .i64 (t8 + 1)), undef] H) (R (.exit 0) [.slice list_a list_n list_e, undef, .float .f32 0, .float .f32 sum, undef, g5, .slice list_a list_n list_e, .int .i64 (list_n : Int), .int .i64 t8, .bool (decide ((t8 : Int) < (list_n : Int))), g10, g11, g12, g13, g14, g15, undef] H)) := by kernel_rfl
def impl_added_I1 (list_a : Option Addr) (list_e : Nat) (list_n : Nat) (Inv : Nat → Nat → Int → AHeap → Prop) : Nat → List Value → AHeap → Prop := fun μ tm H => ∃ (sum : Nat), ∃ (t8 : Int), ∃ g5 g9 g10 g11 g12 g13 g14 g15, tm = [.slice list_a list_n list_e, undef, .float .f32 0, .float .f32 sum, undef, g5, .slice list_a list_n list_e, .int .i64 (list_n : Int), .int .i64 t8, g9, g10, g11, g12, g13, g14, g15, undef] ∧ Inv μ sum t8 H
theorem impl_added_L1 (list_a : Option Addr) (list_e : Nat) (list_n : Nat) {Q : Post} (Inv : Nat → Nat → Int → AHeap → Prop) (ν : Nat) (sum : Nat) (t8 : Int) (g5 g9 g10 g11 g12 g13 g14 g15 : Value) (H : AHeap) (h0 : Inv ν sum t8 H)
    (hs : ∀ (μ : Nat) (sum : Nat) (t8 : Int) (g5 g9 g10 g11 g12 g13 g14 g15 : Value) (H : AHeap), Inv μ sum t8 H → exK Try.prog E_impl_added (cl (cl (cr (cl (cr (cr (bodyC Try.f118))))))) [.slice list_a list_n list_e, undef, .float .f32 0, .float .f32 sum, undef, g5, .slice list_a list_n list_e, .int .i64 (list_n : Int), .int .i64 t8, g9, g10, g11, g12, g13, g14, g15, undef] H (loopQ (impl_added_I1 list_a list_e list_n Inv) μ Q)) : loopK (exK Try.prog E_impl_added (cl (cl (cr (cl (cr (cr (bodyC Try.f118)))))))) [.slice list_a list_n list_e, undef, .float .f32 0, .float .f32 sum, undef, g5, .slice list_a list_n list_e, .int .i64 (list_n : Int), .int .i64 t8, g9, g10, g11, g12, g13, g14, g15, undef] H Q :=
  ⟨impl_added_I1 list_a list_e list_n Inv, ν, ⟨sum, t8, g5, g9, g10, g11, g12, g13, g14, g15, rfl, h0⟩, fun μ tm H h => by obtain ⟨sum, t8, g5, g9, g10, g11, g12, g13, g14, g15, rfl, hI⟩ := h; exact hs μ sum t8 g5 g9 g10 g11 g12 g13 g14 g15 H hI⟩
theorem impl_added_n1 {list_a : Option Addr} {list_e : Nat} {list_n : Nat} {Q : Post} {Inv : Nat → Nat → Int → AHeap → Prop} {μ : Nat} (μ' : Nat) {sum : Nat} {t8 : Int} {g5 g9 g10 g11 g12 g13 g14 g15 : Value} {H : AHeap} (hm : μ' < μ) (hI : Inv μ' sum t8 H) : loopQ (impl_added_I1 list_a list_e list_n Inv) μ Q .normal [.slice list_a list_n list_e, undef, .float .f32 0, .float .f32 sum, undef, g5, .slice list_a list_n list_e, .int .i64 (list_n : Int), .int .i64 t8, g9, g10, g11, g12, g13, g14, g15, undef] H := ⟨μ', hm, sum, t8, g5, g9, g10, g11, g12, g13, g14, g15, rfl, hI⟩
theorem impl_added_x1_0 (list_a : Option Addr) (list_e : Nat) (list_n : Nat) (sum : Nat) (t8 : Int) (g5 g9 g10 g11 g12 g13 g14 g15 : Value) (H : AHeap) (K : Value → AHeap → Prop)  {I : Nat → List Value → AHeap → Prop} {μ : Nat} : loopQ I μ (blockQ 0 (seqQ (exK Try.prog E_impl_added (cr (cr (cr (bodyC Try.f118))))) (retK Try.prog Try.f118 K))) (.exit 0) [.slice list_a list_n list_e, undef, .float .f32 0, .float .f32 sum, undef, g5, .slice list_a list_n list_e, .int .i64 (list_n : Int), .int .i64 t8, g9, g10, g11, g12, g13, g14, g15, undef] H =
  (K (.float .f32 sum) H) := by kernel_rfl
theorem E_impl_added_ok : ∀ g, FnOk Try.prog g (E_impl_added g) := FnOk.envOf (by
  intro x hx; cases hx)
set_option maxHeartbeats 1000000 in
theorem impl_added_main (list_a : Option Addr) (list_n : Nat) (list_e : Nat) (H : AHeap) (K : Value → AHeap → Prop) (h : T_impl_added list_a list_n list_e H fun (r1 : Nat) (H' : AHeap) => K (.float .f32 r1) H') : bodyK Try.prog E_impl_added Try.f118 [.slice list_a list_n list_e] H K := by
  rw [impl_added_vc]
  obtain ⟨l_list, i_list, bd_8, hk⟩ := h
  obtain rfl := i_list.eqn
  have e : (p_impl_added l_list) = _ := rfl
  have e := e.trans (p_impl_added_eq l_list)
  have g0 := Grow.refl H
  refine impl_added_L1 _ _ _ (fun (μ : Nat) (sum : Nat) (t8 : Int) (H_1 : AHeap) => H = H_1 ∧ (0 : Int) ≤ t8 ∧ t8 ≤ (l_list.length : Int) ∧ (l_list.length : Int) - t8 ≤ (μ : Int) ∧ p_impl_added l_list = p_impl_added_l1 l_list (μ + 1) sum t8) (Int.toNat ((l_list.length : Int) - (0 : Int))) _ _ _ _ _ _ _ _ _ _ H ?_ ?_
  · exact ⟨rfl, (by first | omega | (simp; done) | (simp; omega)), (by first | omega | (simp; done) | (simp; omega)), (by omega), e⟩
  · intro μ sum t8 g5 g9 g10 g11 g12 g13 g14 g15 H_1 hI
    obtain ⟨rfl, v_1, v_2, hμ, e⟩ := hI
    rw [impl_added_r1]
    have e := e.trans (p_impl_added_l1_s l_list μ sum t8)
    have l_3 := g0.1
    refine Br.intro (fun c_4 => ?_) (fun c_4 => ?_)
    · have e := e.trans (cond_t c_4)
      have c_4' := of_decide_eq_true c_4
      obtain ⟨b_5, f_6, q_7⟩ := ((i_list.grow g0)).pos (by first | omega | (simp only [List.length_set, List.length_replicate, List.length_append, List.length_cons, List.length_nil, List.length_take, List.length_drop, marks_length]; done) | (simp only [List.length_set, List.length_replicate, List.length_append, List.length_cons, List.length_nil, List.length_take, List.length_drop, marks_length]; omega))
      refine ⟨by omega, by omega, b_5, f_6, q_7, ?_⟩
      refine ⟨((l_list).getD (t8 : Int).toNat 0), (i_list).rd g0 q_7 (by omega) _, ?_⟩
      rw [show IntKind.wrap .i64 (t8 + 1) = (t8 + 1) from wrap64 (by omega) (by omega)]
      refine impl_added_n1 (μ - 1) (by omega) ⟨rfl, (by first | omega | (simp only [List.length_append, List.length_cons, List.length_nil, List.length_set]; done) | (simp only [List.length_append, List.length_cons, List.length_nil, List.length_set]; omega)), (by first | omega | (simp only [List.length_append, List.length_cons, List.length_nil, List.length_set]; done) | (simp only [List.length_append, List.length_cons, List.length_nil, List.length_set]; omega)), (by omega), (by rw [show μ - 1 + 1 = μ from by omega]; exact e)⟩
    · have e := e.trans (cond_f c_4)
      have c_4' := of_decide_eq_false c_4
      rw [impl_added_x1_0]
      rw [e] at hk
      exact hk
theorem impl_added_ok : FnOk Try.prog 118 S_impl_added := by
  refine FnOk.body mix_ok E_impl_added_ok Try.func118 rfl (by kernel_rfl) (by kernel_rfl) ?_ ?_ ?_ ?_ ?_
  · intro args H K K' h hk
    simp only [S_impl_added] at *
    unfold F_impl_added at *
    split at hk
    · obtain ⟨l_list, i_list, bd_8, k⟩ := hk
      exact ⟨l_list, i_list, bd_8, h _ _ k⟩
    · exact hk.elim
  · intro _ args H K hk
    simp only [S_impl_added] at *
    unfold F_impl_added at *
    split at hk
    · obtain ⟨l_list, i_list, bd_8, k⟩ := hk
      exact ⟨_, k, fun K' k' => ⟨l_list, i_list, bd_8, k'⟩⟩
    · exact hk.elim
  · intro args H K hk
    simp only [S_impl_added] at *
    unfold F_impl_added at *
    split at hk
    · obtain ⟨l_list, i_list, bd_8, k⟩ := hk
      exact ⟨_, _, k⟩
    · exact hk.elim
  · intro hq; cases hq
  · have mm := @impl_added_main
    revert mm
    generalize bodyK Try.prog E_impl_added Try.f118 = Q
    intro mm args H K hk
    simp only [S_impl_added] at *
    unfold F_impl_added at *
    split at hk
    · exact mm _ _ _ H K hk
    · exact hk.elim
def p_impl_mean (l_list : List Nat) : Nat := fdiv .f32 (p_impl_added l_list) (FloatKind.nearest .f32 (l_list.length : Int))
theorem p_impl_mean_eq (l_list : List Nat) : p_impl_mean l_list = fdiv .f32 (p_impl_added l_list) (FloatKind.nearest .f32 (l_list.length : Int)) := rfl
def T_impl_mean (list_a : Option Addr) (list_n : Nat) (list_e : Nat) (H : AHeap) (K : Nat → AHeap → Prop) : Prop := ∃ (l_list : List Nat), IsL fF H list_a list_n l_list ∧ l_list.length < 1073741824 ∧ K (p_impl_mean l_list) H
theorem T_impl_mean_i {list_a : Option Addr} {list_n : Nat} {list_e : Nat} {H : AHeap} {K : Nat → AHeap → Prop} (h : ∃ (l_list : List Nat), IsL fF H list_a list_n l_list ∧ l_list.length < 1073741824 ∧ K (p_impl_mean l_list) H) : T_impl_mean list_a list_n list_e H K := h

/-! impl_mean: function 73 -/
def E_impl_mean : Env := envOf [(118, S_impl_added)]
def F_impl_mean : List Value → AHeap → (Value → AHeap → Prop) → Prop
  | [.slice list_a list_n list_e], H, K => T_impl_mean list_a list_n list_e H fun (r1 : Nat) (H' : AHeap) => K (.float .f32 r1) H'
  | _, _, _ => False
def S_impl_mean : FSpec := { F := F_impl_mean, quiet := true, tame := false }
theorem impl_mean_vc (list_a : Option Addr) (list_n : Nat) (list_e : Nat) (H : AHeap) (K : Value → AHeap → Prop) : bodyK Try.prog E_impl_mean Try.f73 [.slice list_a list_n list_e] H K =
  (T_impl_added list_a list_n list_e H fun (r1 : Nat) (H1 : AHeap) => K (.float .f32 (fdiv .f32 r1 (FloatKind.nearest .f32 (list_n : Int)))) H1) := by kernel_rfl
theorem E_impl_mean_ok : ∀ g, FnOk Try.prog g (E_impl_mean g) := FnOk.envOf (by
  intro x hx
  simp only [List.mem_cons, List.not_mem_nil, or_false] at hx
  subst hx; exact impl_added_ok)
set_option maxHeartbeats 1000000 in
theorem impl_mean_main (list_a : Option Addr) (list_n : Nat) (list_e : Nat) (H : AHeap) (K : Value → AHeap → Prop) (h : T_impl_mean list_a list_n list_e H fun (r1 : Nat) (H' : AHeap) => K (.float .f32 r1) H') : bodyK Try.prog E_impl_mean Try.f73 [.slice list_a list_n list_e] H K := by
  rw [impl_mean_vc]
  obtain ⟨l_list, i_list, bd_1, hk⟩ := h
  obtain rfl := i_list.eqn
  have e : (p_impl_mean l_list) = _ := rfl
  have e := e.trans (p_impl_mean_eq l_list)
  have g0 := Grow.refl H
  refine T_impl_added_i ⟨_, (i_list.grow g0), (by first | omega | (simp only [List.length_set, List.length_replicate, List.length_append, List.length_cons, List.length_nil, List.length_take, List.length_drop, marks_length]; done) | (simp only [List.length_set, List.length_replicate, List.length_append, List.length_cons, List.length_nil, List.length_take, List.length_drop, marks_length]; omega)), ?_⟩
  rw [e] at hk
  exact hk
theorem impl_mean_ok : FnOk Try.prog 73 S_impl_mean := by
  refine FnOk.body mix_ok E_impl_mean_ok Try.func73 rfl (by kernel_rfl) (by kernel_rfl) ?_ ?_ ?_ ?_ ?_
  · intro args H K K' h hk
    simp only [S_impl_mean] at *
    unfold F_impl_mean at *
    split at hk
    · obtain ⟨l_list, i_list, bd_1, k⟩ := hk
      exact ⟨l_list, i_list, bd_1, h _ _ k⟩
    · exact hk.elim
  · intro _ args H K hk
    simp only [S_impl_mean] at *
    unfold F_impl_mean at *
    split at hk
    · obtain ⟨l_list, i_list, bd_1, k⟩ := hk
      exact ⟨_, k, fun K' k' => ⟨l_list, i_list, bd_1, k'⟩⟩
    · exact hk.elim
  · intro args H K hk
    simp only [S_impl_mean] at *
    unfold F_impl_mean at *
    split at hk
    · obtain ⟨l_list, i_list, bd_1, k⟩ := hk
      exact ⟨_, _, k⟩
    · exact hk.elim
  · intro hq; cases hq
  · have mm := @impl_mean_main
    revert mm
    generalize bodyK Try.prog E_impl_mean Try.f73 = Q
    intro mm args H K hk
    simp only [S_impl_mean] at *
    unfold F_impl_mean at *
    split at hk
    · exact mm _ _ _ H K hk
    · exact hk.elim
def p_impl_finiteList (l_list : List Nat) : (List Nat) × Bool := (bif !((p_impl_areFinite ([l_list]))) then ([], false) else (l_list, true))
theorem p_impl_finiteList_eq (l_list : List Nat) : p_impl_finiteList l_list = (bif !((p_impl_areFinite ([l_list]))) then ([], false) else (l_list, true)) := rfl
def T_impl_finiteList (list_a : Option Addr) (list_n : Nat) (list_e : Nat) (H : AHeap) (K : (Option Addr) → Nat → Nat → Bool → AHeap → Prop) : Prop := ∃ (l_list : List Nat), IsL fF H list_a list_n l_list ∧ l_list.length < 1073741824 ∧ ((∀ H' : AHeap, Grow H H' → Br ((p_impl_finiteList l_list).2) (K list_a list_n list_e true H') (K none 0 0 false H')))
theorem T_impl_finiteList_i {list_a : Option Addr} {list_n : Nat} {list_e : Nat} {H : AHeap} {K : (Option Addr) → Nat → Nat → Bool → AHeap → Prop} (h : ∃ (l_list : List Nat), IsL fF H list_a list_n l_list ∧ l_list.length < 1073741824 ∧ ((∀ H' : AHeap, Grow H H' → Br ((p_impl_finiteList l_list).2) (K list_a list_n list_e true H') (K none 0 0 false H')))) : T_impl_finiteList list_a list_n list_e H K := h

/-! impl_finiteList: function 69 -/
def E_impl_finiteList : Env := envOf [(115, S_impl_areFinite)]
def F_impl_finiteList : List Value → AHeap → (Value → AHeap → Prop) → Prop
  | [.slice list_a list_n list_e], H, K => T_impl_finiteList list_a list_n list_e H fun (r1_a : Option Addr) (r1_n : Nat) (r1_e : Nat) (r2 : Bool) (H' : AHeap) => K (.tuple #[.slice r1_a r1_n r1_e, .bool r2]) H'
  | _, _, _ => False
def S_impl_finiteList : FSpec := { F := F_impl_finiteList, quiet := false, tame := true }
theorem impl_finiteList_vc (list_a : Option Addr) (list_n : Nat) (list_e : Nat) (H : AHeap) (K : Value → AHeap → Prop) : bodyK Try.prog E_impl_finiteList Try.f69 [.slice list_a list_n list_e] H K =
  (Al [.slice list_a list_n list_e] H fun b1 H1 => T_impl_areFinite (some ⟨b1, 0, none⟩) 1 1 H1 fun (r1 : Bool) (H2 : AHeap) => Br (!r1) (K (.tuple #[.slice none 0 0, .bool false]) H2) (K (.tuple #[.slice list_a list_n list_e, .bool true]) H2)) := by kernel_rfl
theorem E_impl_finiteList_ok : ∀ g, FnOk Try.prog g (E_impl_finiteList g) := FnOk.envOf (by
  intro x hx
  simp only [List.mem_cons, List.not_mem_nil, or_false] at hx
  subst hx; exact impl_areFinite_ok)
set_option maxHeartbeats 1000000 in
theorem impl_finiteList_main (list_a : Option Addr) (list_n : Nat) (list_e : Nat) (H : AHeap) (K : Value → AHeap → Prop) (h : T_impl_finiteList list_a list_n list_e H fun (r1_a : Option Addr) (r1_n : Nat) (r1_e : Nat) (r2 : Bool) (H' : AHeap) => K (.tuple #[.slice r1_a r1_n r1_e, .bool r2]) H') : bodyK Try.prog E_impl_finiteList Try.f69 [.slice list_a list_n list_e] H K := by
  rw [impl_finiteList_vc]
  obtain ⟨l_list, i_list, bd_12, hk⟩ := h
  obtain rfl := i_list.eqn
  have e : (p_impl_finiteList l_list) = _ := rfl
  have e := e.trans (p_impl_finiteList_eq l_list)
  have g0 := Grow.refl H
  refine Al.intro (fun b_1 H_1 hb_2 hl_3 g_4 o_5 => ?_)
  have l_7 := g_4.1
  have g_8 := g0.trans g_4
  have l_9 := g_8.1
  have w_11 := o_5.lt
  refine T_impl_areFinite_i ⟨[l_list], ⟨_, o_5.rdAll rfl, LLc.cons (i_list.grow g_8) (LLc.nil _ _)⟩, (by first | omega | (simp only [List.length_set, List.length_replicate, List.length_append, List.length_cons, List.length_nil, List.length_take, List.length_drop, marks_length]; done) | (simp only [List.length_set, List.length_replicate, List.length_append, List.length_cons, List.length_nil, List.length_take, List.length_drop, marks_length]; omega)), (by first | assumption | (intro y hy; simp only [List.mem_cons, List.not_mem_nil, or_false] at hy; first | omega | (subst hy; omega) | (rcases hy with rfl | rfl <;> omega) | (rcases hy with rfl | rfl | rfl <;> omega))), ?_⟩
  refine Br.intro (fun c_10 => ?_) (fun c_10 => ?_)
  · have e := e.trans (cond_t c_10)
    have c_10n := nf_of_t c_10
    have q := hk H_1 g_8
    rw [e] at q
    exact q
  · have e := e.trans (cond_f c_10)
    have c_10n := nt_of_f c_10
    have q := hk H_1 g_8
    rw [e] at q
    exact q
theorem impl_finiteList_ok : FnOk Try.prog 69 S_impl_finiteList := by
  refine FnOk.body mix_ok E_impl_finiteList_ok Try.func69 rfl (by kernel_rfl) (by kernel_rfl) ?_ ?_ ?_ ?_ ?_
  · intro args H K K' h hk
    simp only [S_impl_finiteList] at *
    unfold F_impl_finiteList at *
    split at hk
    · obtain ⟨l_list, i_list, bd_12, k⟩ := hk
      exact ⟨l_list, i_list, bd_12, (fun H' gg => Br_mono (h _ _) (h _ _) (k H' gg))⟩
    · exact hk.elim
  · intro hq; cases hq
  · intro args H K hk
    simp only [S_impl_finiteList] at *
    unfold F_impl_finiteList at *
    split at hk
    · obtain ⟨l_list, i_list, bd_12, k⟩ := hk
      exact Br_live (k H (Grow.refl H))
    · exact hk.elim
  · intro _ args H K hk
    simp only [S_impl_finiteList] at *
    unfold F_impl_finiteList at *
    split at hk
    · obtain ⟨l_list, i_list, bd_12, k⟩ := hk
      exact ⟨l_list, i_list, bd_12, (fun H' gg => Br_mono (fun q => ⟨gg, q⟩) (fun q => ⟨gg, q⟩) (k H' gg))⟩
    · exact hk.elim
  · have mm := @impl_finiteList_main
    revert mm
    generalize bodyK Try.prog E_impl_finiteList Try.f69 = Q
    intro mm args H K hk
    simp only [S_impl_finiteList] at *
    unfold F_impl_finiteList at *
    split at hk
    · exact mm _ _ _ H K hk
    · exact hk.elim
def p_impl_SeasonOf_l2 (l_list : List Nat) (period : Int) (l_vout : List Nat) (t25 : Int) (k2_2 : (List Nat) → Int → (List Nat) → ((List Nat) × Bool)) : Nat → (List Nat) → Int → (List Nat) → (List Nat) × Bool
  | 0, _, _, _ => ([], false)
  | μ2 + 1, l_some, i, y2_1 => (bif decide ((i : Int) < (l_list.length : Int)) then (p_impl_SeasonOf_l2 l_list period l_vout t25 k2_2 μ2 ((l_some ++ [(((l_list).getD (i : Int).toNat 0))])) (i + period) y2_1) else (k2_2 l_some i y2_1))
theorem p_impl_SeasonOf_l2_s (l_list : List Nat) (period : Int) (l_vout : List Nat) (t25 : Int) (k2_2 : (List Nat) → Int → (List Nat) → ((List Nat) × Bool)) (μ2 : Nat) (l_some : List Nat) (i : Int) (y2_1 : List Nat) : p_impl_SeasonOf_l2 l_list period l_vout t25 k2_2 (μ2 + 1) l_some i y2_1 = (bif decide ((i : Int) < (l_list.length : Int)) then (p_impl_SeasonOf_l2 l_list period l_vout t25 k2_2 μ2 ((l_some ++ [(((l_list).getD (i : Int).toNat 0))])) (i + period) y2_1) else (k2_2 l_some i y2_1)) := rfl
def p_impl_SeasonOf_l1 (l_list : List Nat) (period : Int) : Nat → (List Nat) → Int → (List Nat) × Bool
  | 0, _, _ => ([], false)
  | μ + 1, l_vout, t25 => (bif decide ((t25 : Int) < period) then (p_impl_SeasonOf_l2 l_list period l_vout t25 (fun (l_some : List Nat) (i : Int) (y2_1 : List Nat) => (p_impl_SeasonOf_l1 l_list period μ ((y2_1 ++ [(fsub .f32 (p_impl_mean l_some) (p_impl_mean l_list))])) (t25 + 1))) (Int.toNat ((l_list.length : Int) - t25) + 1) ([] : List Nat) t25 l_vout) else (bif (p_impl_finiteList l_vout).2 then (l_vout, true) else ([], false)))
theorem p_impl_SeasonOf_l1_s (l_list : List Nat) (period : Int) (μ : Nat) (l_vout : List Nat) (t25 : Int) : p_impl_SeasonOf_l1 l_list period (μ + 1) l_vout t25 = (bif decide ((t25 : Int) < period) then (p_impl_SeasonOf_l2 l_list period l_vout t25 (fun (l_some : List Nat) (i : Int) (y2_1 : List Nat) => (p_impl_SeasonOf_l1 l_list period μ ((y2_1 ++ [(fsub .f32 (p_impl_mean l_some) (p_impl_mean l_list))])) (t25 + 1))) (Int.toNat ((l_list.length : Int) - t25) + 1) ([] : List Nat) t25 l_vout) else (bif (p_impl_finiteList l_vout).2 then (l_vout, true) else ([], false))) := rfl
def p_impl_SeasonOf (l_list : List Nat) (period : Int) : (List Nat) × Bool := (bif !(p_impl_isLong l_list) then ([], false) else (bif !((p_impl_within period (1 : Int) (l_list.length : Int))) then ([], false) else (p_impl_SeasonOf_l1 l_list period (Int.toNat (period - (0 : Int)) + 1) ([] : List Nat) (0 : Int))))
theorem p_impl_SeasonOf_eq (l_list : List Nat) (period : Int) : p_impl_SeasonOf l_list period = (bif !(p_impl_isLong l_list) then ([], false) else (bif !((p_impl_within period (1 : Int) (l_list.length : Int))) then ([], false) else (p_impl_SeasonOf_l1 l_list period (Int.toNat (period - (0 : Int)) + 1) ([] : List Nat) (0 : Int)))) := rfl
def T_impl_SeasonOf (list_a : Option Addr) (list_n : Nat) (list_e : Nat) (period : Int) (H : AHeap) (K : (Option Addr) → Nat → Nat → Bool → AHeap → Prop) : Prop := ∃ (l_list : List Nat), IsL fF H list_a list_n l_list ∧ l_list.length < 1073741824 ∧ ((∀ (r1_a : Option Addr) (r1_n r1_e : Nat), ∀ H' : AHeap, Grow H H' → OwnS fF H' H.length r1_a r1_n r1_e ((p_impl_SeasonOf l_list period).1) → K r1_a r1_n r1_e ((p_impl_SeasonOf l_list period).2) H'))
theorem T_impl_SeasonOf_i {list_a : Option Addr} {list_n : Nat} {list_e : Nat} {period : Int} {H : AHeap} {K : (Option Addr) → Nat → Nat → Bool → AHeap → Prop} (h : ∃ (l_list : List Nat), IsL fF H list_a list_n l_list ∧ l_list.length < 1073741824 ∧ ((∀ (r1_a : Option Addr) (r1_n r1_e : Nat), ∀ H' : AHeap, Grow H H' → OwnS fF H' H.length r1_a r1_n r1_e ((p_impl_SeasonOf l_list period).1) → K r1_a r1_n r1_e ((p_impl_SeasonOf l_list period).2) H'))) : T_impl_SeasonOf list_a list_n list_e period H K := h
theorem impl_season_P {P : List Nat × Bool → Prop} {l : List Nat} {period : Int} (h1 : 1 ≤ period) (h2 : period ≤ 128) (hl : l.length ≤ 128) {vo : List Nat} {j : Int} {k : List Nat → Int → List Nat → List Nat × Bool} {y : List Nat} (hk : ∀ part i, P (k part i y)) :
    ∀ (μ : Nat) (part : List Nat) (i : Int), 0 ≤ i → (l.length : Int) - i ≤ μ → i ≤ 300 → P (p_impl_SeasonOf_l2 l period vo j k (μ + 1) part i y) := by
  intro μ
  induction μ with
  | zero =>
    intro part i h0 h hb
    rw [p_impl_SeasonOf_l2_s, decide_eq_false (by omega), cond_false]; exact hk _ _
  | succ μ ih =>
    intro part i h0 h hb
    rw [p_impl_SeasonOf_l2_s]
    by_cases hi : i < (l.length : Int)
    · rw [decide_eq_true hi, cond_true]
      exact ih _ _ (by omega) (by omega) (by omega)
    · rw [decide_eq_false hi, cond_false]; exact hk _ _
theorem impl_season_go {l : List Nat} {period : Int} (h1 : 1 ≤ period) (h2 : period ≤ 128) (hl : l.length ≤ 128) : ∀ (μ : Nat) (o : List Nat) (j : Int), 0 ≤ j → j ≤ period → (o.length : Int) = j → period - j < μ →
    (p_impl_SeasonOf_l1 l period μ o j).1.length ≤ 128 ∧ ((p_impl_SeasonOf_l1 l period μ o j).2 = true → ((p_impl_SeasonOf_l1 l period μ o j).1.length : Int) = period) := by
  intro μ
  induction μ with
  | zero => intro o j _ _ _ h; omega
  | succ μ ih =>
    intro o j h0 hj ho h
    rw [p_impl_SeasonOf_l1_s]
    by_cases hi : j < period
    · rw [decide_eq_true hi, cond_true]
      refine impl_season_P (P := fun r => r.1.length ≤ 128 ∧ (r.2 = true → ((r.1.length : Nat) : Int) = period)) h1 h2 hl (fun part i => ?_) _ _ _ h0 (by omega) (by omega)
      exact ih _ _ (by omega) (by omega) (by simp; omega) (by omega)
    · rw [decide_eq_false hi, cond_false]
      cases (p_impl_finiteList o).2
      · exact ⟨Nat.zero_le _, fun h => by cases h⟩
      · exact ⟨show o.length ≤ 128 by omega, fun _ => show (o.length : Int) = period by omega⟩
theorem impl_SeasonOf_both (l : List Nat) (period : Int) : (p_impl_SeasonOf l period).1.length ≤ 128 ∧ ((p_impl_SeasonOf l period).2 = true → 1 ≤ period ∧ ((p_impl_SeasonOf l period).1.length : Int) = period) := by
  rw [p_impl_SeasonOf_eq]
  cases h1 : p_impl_isLong l
  · exact ⟨Nat.zero_le _, fun h => by cases h⟩
  · cases h2 : p_impl_within period 1 (l.length : Int)
    · exact ⟨Nat.zero_le _, fun h => by cases h⟩
    · have a := impl_isLong_t h1
      have b := impl_within_t h2
      have := impl_season_go (l := l) b.1 (by omega) (by omega) (Int.toNat (period - (0 : Int)) + 1) [] 0 (by omega) (by omega) rfl (by omega)
      exact ⟨this.1, fun h => ⟨b.1, this.2 h⟩⟩
theorem impl_SeasonOf_len (l : List Nat) (period : Int) : (p_impl_SeasonOf l period).1.length ≤ 128 := (impl_SeasonOf_both l period).1
theorem impl_SeasonOf_t {l : List Nat} {period : Int} (h : (p_impl_SeasonOf l period).2 = true) : 1 ≤ period ∧ ((p_impl_SeasonOf l period).1.length : Int) = period := (impl_SeasonOf_both l period).2 h
/-! impl_SeasonOf: function 68 -/
def E_impl_SeasonOf : Env := envOf [(61, S_impl_isLong), (72, S_impl_within), (73, S_impl_mean), (69, S_impl_finiteList)]
def F_impl_SeasonOf : List Value → AHeap → (Value → AHeap → Prop) → Prop
  | [.slice list_a list_n list_e, .int .i64 period], H, K => T_impl_SeasonOf list_a list_n list_e period H fun (r1_a : Option Addr) (r1_n : Nat) (r1_e : Nat) (r2 : Bool) (H' : AHeap) => K (.tuple #[.slice r1_a r1_n r1_e, .bool r2]) H'
  | _, _, _ => False
def S_impl_SeasonOf : FSpec := { F := F_impl_SeasonOf, quiet := false, tame := true }
theorem impl_SeasonOf_vc (list_a : Option Addr) (list_n : Nat) (list_e : Nat) (period : Int) (H : AHeap) (K : Value → AHeap → Prop) : bodyK Try.prog E_impl_SeasonOf Try.f68 [.slice list_a list_n list_e, .int .i64 period] H K =
  (T_impl_isLong list_a list_n list_e H fun (r1 : Bool) (H1 : AHeap) => Br (!r1) (K (.tuple #[.slice none 0 0, .bool false]) H1) (T_impl_within period 1 (list_n : Int) H1 fun (r2 : Bool) (H2 : AHeap) => Br (!r2) (K (.tuple #[.slice none 0 0, .bool false]) H2) (T_impl_mean list_a list_n list_e H2 fun (r3 : Nat) (H3 : AHeap) => Al [] H3 fun b1 H4 => loopK (exK Try.prog E_impl_SeasonOf (cl (cl (cr (cl (cr (cr (cr (cr (bodyC Try.f68)))))))))) [.slice list_a list_n list_e, .int .i64 period, undef, undef, .slice none 0 0, .bool false, .float .f32 r3, .slice (some ⟨b1, 0, none⟩) 0 1, undef, undef, undef, .slice list_a list_n list_e, .bool r1, .bool (!r1), .bool false, .int .i64 period, .slice list_a list_n list_e, .int .i64 (list_n : Int), .bool r2, .bool (!r2), .bool (!r2), .slice list_a list_n list_e, .float .f32 r3, .slice (some ⟨b1, 0, none⟩) 0 1, .int .i64 period, .int .i64 0, undef, undef, undef, undef, undef, undef, undef, undef, undef, undef, undef, undef, undef, undef, undef, undef, undef, undef, undef, undef, undef, undef, undef, undef, undef, undef, undef, undef, undef, undef] H4 (blockQ 0 (seqQ (exK Try.prog E_impl_SeasonOf (cr (cr (cr (cr (cr (bodyC Try.f68))))))) (retK Try.prog Try.f68 K)))))) := by kernel_rfl
theorem impl_SeasonOf_r1 (b1 : Nat) (list_a : Option Addr) (list_e : Nat) (list_n : Nat) (period : Int) (r1 : Bool) (r2 : Bool) (r3 : Nat) (vout_a : Option Addr) (vout_n : Nat) (vout_e : Nat) (t25 : Int) (g8 g9 g10 g26 g27 g28 g29 g30 g31 g32 g33 g34 g35 g36 g37 g38 g39 g40 g41 g42 g43 g44 g45 g46 g47 g48 g49 g50 g51 : Value) (H : AHeap) (R : Post) : exK Try.prog E_impl_SeasonOf (cl (cl (cr (cl (cr (cr (cr (cr (bodyC Try.f68))))))))) [.slice list_a list_n list_e, .int .i64 period, undef, undef, .slice none 0 0, .bool false, .float .f32 r3, .slice vout_a vout_n vout_e, g8, g9, g10, .slice list_a list_n list_e, .bool r1, .bool (!r1), .bool false, .int .i64 period, .slice list_a list_n list_e, .int .i64 (list_n : Int), .bool r2, .bool (!r2), .bool (!r2), .slice list_a list_n list_e, .float .f32 r3, .slice (some ⟨b1, 0, none⟩) 0 1, .int .i64 period, .int .i64 t25, g26, g27, g28, g29, g30, g31, g32, g33, g34, g35, g36, g37, g38, g39, g40, g41, g42, g43, g44, g45, g46, g47, g48, g49, g50, g51, undef, undef, undef, undef] H R =
  (Br (decide ((t25 : Int) < period)) (Al [] H fun b2 H5 => loopK (exK Try.prog E_impl_SeasonOf (cl (cl (cr (cl (cr (cr (cl (cl (cr (cr (cl (cl (cr (cl (cr (cr (cr (cr (bodyC Try.f68)))))))))))))))))))) [.slice list_a list_n list_e, .int .i64 period, undef, undef, .slice none 0 0, .bool false, .float .f32 r3, .slice vout_a vout_n vout_e, .int .i64 t25, .slice (some ⟨b2, 0, none⟩) 0 1, .int .i64 t25, .slice list_a list_n list_e, .bool r1, .bool (!r1), .bool false, .int .i64 period, .slice list_a list_n list_e, .int .i64 (list_n : Int), .bool r2, .bool (!r2), .bool (!r2), .slice list_a list_n list_e, .float .f32 r3, .slice (some ⟨b1, 0, none⟩) 0 1, .int .i64 period, .int .i64 t25, .bool (decide ((t25 : Int) < period)), .int .i64 t25, .slice (some ⟨b2, 0, none⟩) 0 1, .int .i64 t25, g30, g31, g32, g33, g34, g35, g36, g37, g38, g39, g40, g41, g42, g43, g44, g45, g46, g47, g48, g49, g50, g51, undef, undef, undef, undef] H5 (blockQ 2 (seqQ (exK Try.prog E_impl_SeasonOf (cr (cr (cr (cl (cl (cr (cr (cl (cl (cr (cl (cr (cr (cr (cr (bodyC Try.f68))))))))))))))))) (blockQ 1 (seqQ (exK Try.prog E_impl_SeasonOf (cr (cr (cr (cl (cl (cr (cl (cr (cr (cr (cr (bodyC Try.f68))))))))))))) (R)))))) (R (.exit 0) [.slice list_a list_n list_e, .int .i64 period, undef, undef, .slice none 0 0, .bool false, .float .f32 r3, .slice vout_a vout_n vout_e, g8, g9, g10, .slice list_a list_n list_e, .bool r1, .bool (!r1), .bool false, .int .i64 period, .slice list_a list_n list_e, .int .i64 (list_n : Int), .bool r2, .bool (!r2), .bool (!r2), .slice list_a list_n list_e, .float .f32 r3, .slice (some ⟨b1, 0, none⟩) 0 1, .int .i64 period, .int .i64 t25, .bool (decide ((t25 : Int) < period)), g27, g28, g29, g30, g31, g32, g33, g34, g35, g36, g37, g38, g39, g40, g41, g42, g43, g44, g45, g46, g47, g48, g49, g50, g51, undef, undef, undef, undef] H)) := by kernel_rfl
def impl_SeasonOf_I1 (b1 : Nat) (list_a : Option Addr) (list_e : Nat) (list_n : Nat) (period : Int) (r1 : Bool) (r2 : Bool) (r3 : Nat) (Inv : Nat → (Option Addr) → Nat → Nat → Int → AHeap → Prop) : Nat → List Value → AHeap → Prop := fun μ tm H => ∃ (vout_a : Option Addr), ∃ (vout_n : Nat), ∃ (vout_e : Nat), ∃ (t25 : Int), ∃ g8 g9 g10 g26 g27 g28 g29 g30 g31 g32 g33 g34 g35 g36 g37 g38 g39 g40 g41 g42 g43 g44 g45 g46 g47 g48 g49 g50 g51, tm = [.slice list_a list_n list_e, .int .i64 period, undef, undef, .slice none 0 0, .bool false, .float .f32 r3, .slice vout_a vout_n vout_e, g8, g9, g10, .slice list_a list_n list_e, .bool r1, .bool (!r1), .bool false, .int .i64 period, .slice list_a list_n list_e, .int .i64 (list_n : Int), .bool r2, .bool (!r2), .bool (!r2), .slice list_a list_n list_e, .float .f32 r3, .slice (some ⟨b1, 0, none⟩) 0 1, .int .i64 period, .int .i64 t25, g26, g27, g28, g29, g30, g31, g32, g33, g34, g35, g36, g37, g38, g39, g40, g41, g42, g43, g44, g45, g46, g47, g48, g49, g50, g51, undef, undef, undef, undef] ∧ Inv μ vout_a vout_n vout_e t25 H
theorem impl_SeasonOf_L1 (b1 : Nat) (list_a : Option Addr) (list_e : Nat) (list_n : Nat) (period : Int) (r1 : Bool) (r2 : Bool) (r3 : Nat) {Q : Post} (Inv : Nat → (Option Addr) → Nat → Nat → Int → AHeap → Prop) (ν : Nat) (vout_a : Option Addr) (vout_n : Nat) (vout_e : Nat) (t25 : Int) (g8 g9 g10 g26 g27 g28 g29 g30 g31 g32 g33 g34 g35 g36 g37 g38 g39 g40 g41 g42 g43 g44 g45 g46 g47 g48 g49 g50 g51 : Value) (H : AHeap) (h0 : Inv ν vout_a vout_n vout_e t25 H)
    (hs : ∀ (μ : Nat) (vout_a : Option Addr) (vout_n : Nat) (vout_e : Nat) (t25 : Int) (g8 g9 g10 g26 g27 g28 g29 g30 g31 g32 g33 g34 g35 g36 g37 g38 g39 g40 g41 g42 g43 g44 g45 g46 g47 g48 g49 g50 g51 : Value) (H : AHeap), Inv μ vout_a vout_n vout_e t25 H → exK Try.prog E_impl_SeasonOf (cl (cl (cr (cl (cr (cr (cr (cr (bodyC Try.f68))))))))) [.slice list_a list_n list_e, .int .i64 period, undef, undef, .slice none 0 0, .bool false, .float .f32 r3, .slice vout_a vout_n vout_e, g8, g9, g10, .slice list_a list_n list_e, .bool r1, .bool (!r1), .bool false, .int .i64 period, .slice list_a list_n list_e, .int .i64 (list_n : Int), .bool r2, .bool (!r2), .bool (!r2), .slice list_a list_n list_e, .float .f32 r3, .slice (some ⟨b1, 0, none⟩) 0 1, .int .i64 period, .int .i64 t25, g26, g27, g28, g29, g30, g31, g32, g33, g34, g35, g36, g37, g38, g39, g40, g41, g42, g43, g44, g45, g46, g47, g48, g49, g50, g51, undef, undef, undef, undef] H (loopQ (impl_SeasonOf_I1 b1 list_a list_e list_n period r1 r2 r3 Inv) μ Q)) : loopK (exK Try.prog E_impl_SeasonOf (cl (cl (cr (cl (cr (cr (cr (cr (bodyC Try.f68)))))))))) [.slice list_a list_n list_e, .int .i64 period, undef, undef, .slice none 0 0, .bool false, .float .f32 r3, .slice vout_a vout_n vout_e, g8, g9, g10, .slice list_a list_n list_e, .bool r1, .bool (!r1), .bool false, .int .i64 period, .slice list_a list_n list_e, .int .i64 (list_n : Int), .bool r2, .bool (!r2), .bool (!r2), .slice list_a list_n list_e, .float .f32 r3, .slice (some ⟨b1, 0, none⟩) 0 1, .int .i64 period, .int .i64 t25, g26, g27, g28, g29, g30, g31, g32, g33, g34, g35, g36, g37, g38, g39, g40, g41, g42, g43, g44, g45, g46, g47, g48, g49, g50, g51, undef, undef, undef, undef] H Q :=
  ⟨impl_SeasonOf_I1 b1 list_a list_e list_n period r1 r2 r3 Inv, ν, ⟨vout_a, vout_n, vout_e, t25, g8, g9, g10, g26, g27, g28, g29, g30, g31, g32, g33, g34, g35, g36, g37, g38, g39, g40, g41, g42, g43, g44, g45, g46, g47, g48, g49, g50, g51, rfl, h0⟩, fun μ tm H h => by obtain ⟨vout_a, vout_n, vout_e, t25, g8, g9, g10, g26, g27, g28, g29, g30, g31, g32, g33, g34, g35, g36, g37, g38, g39, g40, g41, g42, g43, g44, g45, g46, g47, g48, g49, g50, g51, rfl, hI⟩ := h; exact hs μ vout_a vout_n vout_e t25 g8 g9 g10 g26 g27 g28 g29 g30 g31 g32 g33 g34 g35 g36 g37 g38 g39 g40 g41 g42 g43 g44 g45 g46 g47 g48 g49 g50 g51 H hI⟩
theorem impl_SeasonOf_n1 {b1 : Nat} {list_a : Option Addr} {list_e : Nat} {list_n : Nat} {period : Int} {r1 : Bool} {r2 : Bool} {r3 : Nat} {Q : Post} {Inv : Nat → (Option Addr) → Nat → Nat → Int → AHeap → Prop} {μ : Nat} (μ' : Nat) {vout_a : Option Addr} {vout_n : Nat} {vout_e : Nat} {t25 : Int} {g8 g9 g10 g26 g27 g28 g29 g30 g31 g32 g33 g34 g35 g36 g37 g38 g39 g40 g41 g42 g43 g44 g45 g46 g47 g48 g49 g50 g51 : Value} {H : AHeap} (hm : μ' < μ) (hI : Inv μ' vout_a vout_n vout_e t25 H) : loopQ (impl_SeasonOf_I1 b1 list_a list_e list_n period r1 r2 r3 Inv) μ Q .normal [.slice list_a list_n list_e, .int .i64 period, undef, undef, .slice none 0 0, .bool false, .float .f32 r3, .slice vout_a vout_n vout_e, g8, g9, g10, .slice list_a list_n list_e, .bool r1, .bool (!r1), .bool false, .int .i64 period, .slice list_a list_n list_e, .int .i64 (list_n : Int), .bool r2, .bool (!r2), .bool (!r2), .slice list_a list_n list_e, .float .f32 r3, .slice (some ⟨b1, 0, none⟩) 0 1, .int .i64 period, .int .i64 t25, g26, g27, g28, g29, g30, g31, g32, g33, g34, g35, g36, g37, g38, g39, g40, g41, g42, g43, g44, g45, g46, g47, g48, g49, g50, g51, undef, undef, undef, undef] H := ⟨μ', hm, vout_a, vout_n, vout_e, t25, g8, g9, g10, g26, g27, g28, g29, g30, g31, g32, g33, g34, g35, g36, g37, g38, g39, g40, g41, g42, g43, g44, g45, g46, g47, g48, g49, g50, g51, rfl, hI⟩
theorem impl_SeasonOf_x1_0 (b1 : Nat) (list_a : Option Addr) (list_e : Nat) (list_n : Nat) (period : Int) (r1 : Bool) (r2 : Bool) (r3 : Nat) (vout_a : Option Addr) (vout_n : Nat) (vout_e : Nat) (t25 : Int) (g8 g9 g10 g26 g27 g28 g29 g30 g31 g32 g33 g34 g35 g36 g37 g38 g39 g40 g41 g42 g43 g44 g45 g46 g47 g48 g49 g50 g51 : Value) (H : AHeap) (K : Value → AHeap → Prop)  {I : Nat → List Value → AHeap → Prop} {μ : Nat} : loopQ I μ (blockQ 0 (seqQ (exK Try.prog E_impl_SeasonOf (cr (cr (cr (cr (cr (bodyC Try.f68))))))) (retK Try.prog Try.f68 K))) (.exit 0) [.slice list_a list_n list_e, .int .i64 period, undef, undef, .slice none 0 0, .bool false, .float .f32 r3, .slice vout_a vout_n vout_e, g8, g9, g10, .slice list_a list_n list_e, .bool r1, .bool (!r1), .bool false, .int .i64 period, .slice list_a list_n list_e, .int .i64 (list_n : Int), .bool r2, .bool (!r2), .bool (!r2), .slice list_a list_n list_e, .float .f32 r3, .slice (some ⟨b1, 0, none⟩) 0 1, .int .i64 period, .int .i64 t25, g26, g27, g28, g29, g30, g31, g32, g33, g34, g35, g36, g37, g38, g39, g40, g41, g42, g43, g44, g45, g46, g47, g48, g49, g50, g51, undef, undef, undef, undef] H =
  (T_impl_finiteList vout_a vout_n vout_e H fun (a1 : Option Addr) (r5 : Nat) (r6 : Nat) (r7 : Bool) (H11 : AHeap) => K (.tuple #[.slice a1 r5 r6, .bool r7]) H11) := by kernel_rfl
theorem impl_SeasonOf_r2 (b1 : Nat) (b2 : Nat) (g44 : Value) (g45 : Value) (g46 : Value) (g47 : Value) (g48 : Value) (g49 : Value) (g50 : Value) (g51 : Value) (list_a : Option Addr) (list_e : Nat) (list_n : Nat) (period : Int) (r1 : Bool) (r2 : Bool) (r3 : Nat) (t25 : Int) (vout_a : Option Addr) (vout_e : Nat) (vout_n : Nat) (some_a : Option Addr) (some_n : Nat) (some_e : Nat) (i : Int) (g30 g31 g32 g33 g34 g35 g36 g37 g38 g39 g40 g41 g42 g43 : Value) (H : AHeap) (R : Post) : exK Try.prog E_impl_SeasonOf (cl (cl (cr (cl (cr (cr (cl (cl (cr (cr (cl (cl (cr (cl (cr (cr (cr (cr (bodyC Try.f68))))))))))))))))))) [.slice list_a list_n list_e, .int .i64 period, undef, undef, .slice none 0 0, .bool false, .float .f32 r3, .slice vout_a vout_n vout_e, .int .i64 t25, .slice some_a some_n some_e, .int .i64 i, .slice list_a list_n list_e, .bool r1, .bool (!r1), .bool false, .int .i64 period, .slice list_a list_n list_e, .int .i64 (list_n : Int), .bool r2, .bool (!r2), .bool (!r2), .slice list_a list_n list_e, .float .f32 r3, .slice (some ⟨b1, 0, none⟩) 0 1, .int .i64 period, .int .i64 t25, .bool (decide ((t25 : Int) < period)), .int .i64 t25, .slice (some ⟨b2, 0, none⟩) 0 1, .int .i64 t25, g30, g31, g32, g33, g34, g35, g36, g37, g38, g39, g40, g41, g42, g43, g44, g45, g46, g47, g48, g49, g50, g51, undef, undef, undef, undef] H R =
  (Br (decide ((i : Int) < (list_n : Int))) ((0 : Int) ≤ i ∧ i < (list_n : Int) ∧ ∃ b3 f1, (list_a : Option Addr) = some ⟨b3, f1, none⟩ ∧ ∃ x1 : Nat,  rdC H b3 (f1 + (i : Int).toNat * 1) = some (.float .f32 x1) ∧ Al [.float .f32 x1] H fun b4 H6 => ∃ o1 w1 : List Value, ownB H6 some_a some_n some_e 1 = some o1 ∧ rdS H6 (some ⟨b4, 0, none⟩) (1 * 1) = some w1 ∧ ((some_a : Option Addr) = none → 0 < (1 : Nat)) ∧ (some_n : Nat) + 1 < most ∧ Ap H6 (killB H6 some_a ++ [some ⟨o1 ++ w1, true⟩]) fun b5 H7 => R .normal [.slice list_a list_n list_e, .int .i64 period, undef, undef, .slice none 0 0, .bool false, .float .f32 r3, .slice vout_a vout_n vout_e, .int .i64 t25, .slice (some ⟨b5, 0, none⟩) (some_n + 1) 1, .int .i64 (IntKind.wrap .i64 (i + period)), .slice list_a list_n list_e, .bool r1, .bool (!r1), .bool false, .int .i64 period, .slice list_a list_n list_e, .int .i64 (list_n : Int), .bool r2, .bool (!r2), .bool (!r2), .slice list_a list_n list_e, .float .f32 r3, .slice (some ⟨b1, 0, none⟩) 0 1, .int .i64 period, .int .i64 t25, .bool (decide ((t25 : Int) < period)), .int .i64 t25, .slice (some ⟨b2, 0, none⟩) 0 1, .int .i64 t25, .int .i64 i, .slice list_a list_n list_e, .int .i64 (list_n : Int), .bool (decide ((i : Int) < (list_n : Int))), .int .i64 i, .int .i64 period, .int .i64 (IntKind.wrap .i64 (i + period)), .slice some_a some_n some_e, .slice list_a list_n list_e, .int .i64 i, .pointer (some ⟨b3, f1 + (i : Int).toNat * 1, none⟩), .float .f32 x1, .slice (some ⟨b4, 0, none⟩) 1 1, .slice (some ⟨b5, 0, none⟩) (some_n + 1) 1, g44, g45, g46, g47, g48, g49, g50, g51, undef, undef, undef, undef] H7) (R (.exit 2) [.slice list_a list_n list_e, .int .i64 period, undef, undef, .slice none 0 0, .bool false, .float .f32 r3, .slice vout_a vout_n vout_e, .int .i64 t25, .slice some_a some_n some_e, .int .i64 i, .slice list_a list_n list_e, .bool r1, .bool (!r1), .bool false, .int .i64 period, .slice list_a list_n list_e, .int .i64 (list_n : Int), .bool r2, .bool (!r2), .bool (!r2), .slice list_a list_n list_e, .float .f32 r3, .slice (some ⟨b1, 0, none⟩) 0 1, .int .i64 period, .int .i64 t25, .bool (decide ((t25 : Int) < period)), .int .i64 t25, .slice (some ⟨b2, 0, none⟩) 0 1, .int .i64 t25, .int .i64 i, .slice list_a list_n list_e, .int .i64 (list_n : Int), .bool (decide ((i : Int) < (list_n : Int))), g34, g35, g36, g37, g38, g39, g40, g41, g42, g43, g44, g45, g46, g47, g48, g49, g50, g51, undef, undef, undef, undef] H)) := by kernel_rfl
def impl_SeasonOf_I2 (b1 : Nat) (b2 : Nat) (g44 : Value) (g45 : Value) (g46 : Value) (g47 : Value) (g48 : Value) (g49 : Value) (g50 : Value) (g51 : Value) (list_a : Option Addr) (list_e : Nat) (list_n : Nat) (period : Int) (r1 : Bool) (r2 : Bool) (r3 : Nat) (t25 : Int) (vout_a : Option Addr) (vout_e : Nat) (vout_n : Nat) (Inv : Nat → (Option Addr) → Nat → Nat → Int → AHeap → Prop) : Nat → List Value → AHeap → Prop := fun μ tm H => ∃ (some_a : Option Addr), ∃ (some_n : Nat), ∃ (some_e : Nat), ∃ (i : Int), ∃ g30 g31 g32 g33 g34 g35 g36 g37 g38 g39 g40 g41 g42 g43, tm = [.slice list_a list_n list_e, .int .i64 period, undef, undef, .slice none 0 0, .bool false, .float .f32 r3, .slice vout_a vout_n vout_e, .int .i64 t25, .slice some_a some_n some_e, .int .i64 i, .slice list_a list_n list_e, .bool r1, .bool (!r1), .bool false, .int .i64 period, .slice list_a list_n list_e, .int .i64 (list_n : Int), .bool r2, .bool (!r2), .bool (!r2), .slice list_a list_n list_e, .float .f32 r3, .slice (some ⟨b1, 0, none⟩) 0 1, .int .i64 period, .int .i64 t25, .bool (decide ((t25 : Int) < period)), .int .i64 t25, .slice (some ⟨b2, 0, none⟩) 0 1, .int .i64 t25, g30, g31, g32, g33, g34, g35, g36, g37, g38, g39, g40, g41, g42, g43, g44, g45, g46, g47, g48, g49, g50, g51, undef, undef, undef, undef] ∧ Inv μ some_a some_n some_e i H
theorem impl_SeasonOf_L2 (b1 : Nat) (b2 : Nat) (g44 : Value) (g45 : Value) (g46 : Value) (g47 : Value) (g48 : Value) (g49 : Value) (g50 : Value) (g51 : Value) (list_a : Option Addr) (list_e : Nat) (list_n : Nat) (period : Int) (r1 : Bool) (r2 : Bool) (r3 : Nat) (t25 : Int) (vout_a : Option Addr) (vout_e : Nat) (vout_n : Nat) {Q : Post} (Inv : Nat → (Option Addr) → Nat → Nat → Int → AHeap → Prop) (ν : Nat) (some_a : Option Addr) (some_n : Nat) (some_e : Nat) (i : Int) (g30 g31 g32 g33 g34 g35 g36 g37 g38 g39 g40 g41 g42 g43 : Value) (H : AHeap) (h0 : Inv ν some_a some_n some_e i H)
    (hs : ∀ (μ : Nat) (some_a : Option Addr) (some_n : Nat) (some_e : Nat) (i : Int) (g30 g31 g32 g33 g34 g35 g36 g37 g38 g39 g40 g41 g42 g43 : Value) (H : AHeap), Inv μ some_a some_n some_e i H → exK Try.prog E_impl_SeasonOf (cl (cl (cr (cl (cr (cr (cl (cl (cr (cr (cl (cl (cr (cl (cr (cr (cr (cr (bodyC Try.f68))))))))))))))))))) [.slice list_a list_n list_e, .int .i64 period, undef, undef, .slice none 0 0, .bool false, .float .f32 r3, .slice vout_a vout_n vout_e, .int .i64 t25, .slice some_a some_n some_e, .int .i64 i, .slice list_a list_n list_e, .bool r1, .bool (!r1), .bool false, .int .i64 period, .slice list_a list_n list_e, .int .i64 (list_n : Int), .bool r2, .bool (!r2), .bool (!r2), .slice list_a list_n list_e, .float .f32 r3, .slice (some ⟨b1, 0, none⟩) 0 1, .int .i64 period, .int .i64 t25, .bool (decide ((t25 : Int) < period)), .int .i64 t25, .slice (some ⟨b2, 0, none⟩) 0 1, .int .i64 t25, g30, g31, g32, g33, g34, g35, g36, g37, g38, g39, g40, g41, g42, g43, g44, g45, g46, g47, g48, g49, g50, g51, undef, undef, undef, undef] H (loopQ (impl_SeasonOf_I2 b1 b2 g44 g45 g46 g47 g48 g49 g50 g51 list_a list_e list_n period r1 r2 r3 t25 vout_a vout_e vout_n Inv) μ Q)) : loopK (exK Try.prog E_impl_SeasonOf (cl (cl (cr (cl (cr (cr (cl (cl (cr (cr (cl (cl (cr (cl (cr (cr (cr (cr (bodyC Try.f68)))))))))))))))))))) [.slice list_a list_n list_e, .int .i64 period, undef, undef, .slice none 0 0, .bool false, .float .f32 r3, .slice vout_a vout_n vout_e, .int .i64 t25, .slice some_a some_n some_e, .int .i64 i, .slice list_a list_n list_e, .bool r1, .bool (!r1), .bool false, .int .i64 period, .slice list_a list_n list_e, .int .i64 (list_n : Int), .bool r2, .bool (!r2), .bool (!r2), .slice list_a list_n list_e, .float .f32 r3, .slice (some ⟨b1, 0, none⟩) 0 1, .int .i64 period, .int .i64 t25, .bool (decide ((t25 : Int) < period)), .int .i64 t25, .slice (some ⟨b2, 0, none⟩) 0 1, .int .i64 t25, g30, g31, g32, g33, g34, g35, g36, g37, g38, g39, g40, g41, g42, g43, g44, g45, g46, g47, g48, g49, g50, g51, undef, undef, undef, undef] H Q :=
  ⟨impl_SeasonOf_I2 b1 b2 g44 g45 g46 g47 g48 g49 g50 g51 list_a list_e list_n period r1 r2 r3 t25 vout_a vout_e vout_n Inv, ν, ⟨some_a, some_n, some_e, i, g30, g31, g32, g33, g34, g35, g36, g37, g38, g39, g40, g41, g42, g43, rfl, h0⟩, fun μ tm H h => by obtain ⟨some_a, some_n, some_e, i, g30, g31, g32, g33, g34, g35, g36, g37, g38, g39, g40, g41, g42, g43, rfl, hI⟩ := h; exact hs μ some_a some_n some_e i g30 g31 g32 g33 g34 g35 g36 g37 g38 g39 g40 g41 g42 g43 H hI⟩
theorem impl_SeasonOf_n2 {b1 : Nat} {b2 : Nat} {g44 : Value} {g45 : Value} {g46 : Value} {g47 : Value} {g48 : Value} {g49 : Value} {g50 : Value} {g51 : Value} {list_a : Option Addr} {list_e : Nat} {list_n : Nat} {period : Int} {r1 : Bool} {r2 : Bool} {r3 : Nat} {t25 : Int} {vout_a : Option Addr} {vout_e : Nat} {vout_n : Nat} {Q : Post} {Inv : Nat → (Option Addr) → Nat → Nat → Int → AHeap → Prop} {μ : Nat} (μ' : Nat) {some_a : Option Addr} {some_n : Nat} {some_e : Nat} {i : Int} {g30 g31 g32 g33 g34 g35 g36 g37 g38 g39 g40 g41 g42 g43 : Value} {H : AHeap} (hm : μ' < μ) (hI : Inv μ' some_a some_n some_e i H) : loopQ (impl_SeasonOf_I2 b1 b2 g44 g45 g46 g47 g48 g49 g50 g51 list_a list_e list_n period r1 r2 r3 t25 vout_a vout_e vout_n Inv) μ Q .normal [.slice list_a list_n list_e, .int .i64 period, undef, undef, .slice none 0 0, .bool false, .float .f32 r3, .slice vout_a vout_n vout_e, .int .i64 t25, .slice some_a some_n some_e, .int .i64 i, .slice list_a list_n list_e, .bool r1, .bool (!r1), .bool false, .int .i64 period, .slice list_a list_n list_e, .int .i64 (list_n : Int), .bool r2, .bool (!r2), .bool (!r2), .slice list_a list_n list_e, .float .f32 r3, .slice (some ⟨b1, 0, none⟩) 0 1, .int .i64 period, .int .i64 t25, .bool (decide ((t25 : Int) < period)), .int .i64 t25, .slice (some ⟨b2, 0, none⟩) 0 1, .int .i64 t25, g30, g31, g32, g33, g34, g35, g36, g37, g38, g39, g40, g41, g42, g43, g44, g45, g46, g47, g48, g49, g50, g51, undef, undef, undef, undef] H := ⟨μ', hm, some_a, some_n, some_e, i, g30, g31, g32, g33, g34, g35, g36, g37, g38, g39, g40, g41, g42, g43, rfl, hI⟩
theorem impl_SeasonOf_x2_2 (b1 : Nat) (b2 : Nat) (g44 : Value) (g45 : Value) (g46 : Value) (g47 : Value) (g48 : Value) (g49 : Value) (g50 : Value) (g51 : Value) (list_a : Option Addr) (list_e : Nat) (list_n : Nat) (period : Int) (r1 : Bool) (r2 : Bool) (r3 : Nat) (t25 : Int) (vout_a : Option Addr) (vout_e : Nat) (vout_n : Nat) (some_a : Option Addr) (some_n : Nat) (some_e : Nat) (i : Int) (g30 g31 g32 g33 g34 g35 g36 g37 g38 g39 g40 g41 g42 g43 : Value) (H : AHeap)  (R : Post) {I : Nat → List Value → AHeap → Prop} {μ : Nat} : loopQ I μ (blockQ 2 (seqQ (exK Try.prog E_impl_SeasonOf (cr (cr (cr (cl (cl (cr (cr (cl (cl (cr (cl (cr (cr (cr (cr (bodyC Try.f68))))))))))))))))) (blockQ 1 (seqQ (exK Try.prog E_impl_SeasonOf (cr (cr (cr (cl (cl (cr (cl (cr (cr (cr (cr (bodyC Try.f68))))))))))))) (R))))) (.exit 2) [.slice list_a list_n list_e, .int .i64 period, undef, undef, .slice none 0 0, .bool false, .float .f32 r3, .slice vout_a vout_n vout_e, .int .i64 t25, .slice some_a some_n some_e, .int .i64 i, .slice list_a list_n list_e, .bool r1, .bool (!r1), .bool false, .int .i64 period, .slice list_a list_n list_e, .int .i64 (list_n : Int), .bool r2, .bool (!r2), .bool (!r2), .slice list_a list_n list_e, .float .f32 r3, .slice (some ⟨b1, 0, none⟩) 0 1, .int .i64 period, .int .i64 t25, .bool (decide ((t25 : Int) < period)), .int .i64 t25, .slice (some ⟨b2, 0, none⟩) 0 1, .int .i64 t25, g30, g31, g32, g33, g34, g35, g36, g37, g38, g39, g40, g41, g42, g43, g44, g45, g46, g47, g48, g49, g50, g51, undef, undef, undef, undef] H =
  (T_impl_mean some_a some_n some_e H fun (r4 : Nat) (H8 : AHeap) => Al [.float .f32 (fsub .f32 r4 r3)] H8 fun b6 H9 => ∃ o2 w2 : List Value, ownB H9 vout_a vout_n vout_e 1 = some o2 ∧ rdS H9 (some ⟨b6, 0, none⟩) (1 * 1) = some w2 ∧ ((vout_a : Option Addr) = none → 0 < (1 : Nat)) ∧ (vout_n : Nat) + 1 < most ∧ Ap H9 (killB H9 vout_a ++ [some ⟨o2 ++ w2, true⟩]) fun b7 H10 => R .normal [.slice list_a list_n list_e, .int .i64 period, undef, undef, .slice none 0 0, .bool false, .float .f32 r3, .slice (some ⟨b7, 0, none⟩) (vout_n + 1) 1, .int .i64 t25, .slice some_a some_n some_e, .int .i64 i, .slice list_a list_n list_e, .bool r1, .bool (!r1), .bool false, .int .i64 period, .slice list_a list_n list_e, .int .i64 (list_n : Int), .bool r2, .bool (!r2), .bool (!r2), .slice list_a list_n list_e, .float .f32 r3, .slice (some ⟨b1, 0, none⟩) 0 1, .int .i64 period, .int .i64 (IntKind.wrap .i64 (t25 + 1)), .bool (decide ((t25 : Int) < period)), .int .i64 t25, .slice (some ⟨b2, 0, none⟩) 0 1, .int .i64 t25, g30, g31, g32, g33, g34, g35, g36, g37, g38, g39, g40, g41, g42, g43, .slice vout_a vout_n vout_e, .slice some_a some_n some_e, .float .f32 r4, .float .f32 r3, .float .f32 (fsub .f32 r4 r3), .slice (some ⟨b6, 0, none⟩) 1 1, .slice (some ⟨b7, 0, none⟩) (vout_n + 1) 1, .int .i64 (IntKind.wrap .i64 (t25 + 1)), undef, undef, undef, undef] H10) := by kernel_rfl
theorem E_impl_SeasonOf_ok : ∀ g, FnOk Try.prog g (E_impl_SeasonOf g) := FnOk.envOf (by
  intro x hx
  simp only [List.mem_cons, List.not_mem_nil, or_false] at hx
  rcases hx with rfl | rfl | rfl | rfl
  · exact impl_isLong_ok
  · exact impl_within_ok
  · exact impl_mean_ok
  · exact impl_finiteList_ok)
set_option maxHeartbeats 1000000 in
theorem impl_SeasonOf_main (list_a : Option Addr) (list_n : Nat) (list_e : Nat) (period : Int) (H : AHeap) (K : Value → AHeap → Prop) (h : T_impl_SeasonOf list_a list_n list_e period H fun (r1_a : Option Addr) (r1_n : Nat) (r1_e : Nat) (r2 : Bool) (H' : AHeap) => K (.tuple #[.slice r1_a r1_n r1_e, .bool r2]) H') : bodyK Try.prog E_impl_SeasonOf Try.f68 [.slice list_a list_n list_e, .int .i64 period] H K := by
  rw [impl_SeasonOf_vc]
  obtain ⟨l_list, i_list, bd_123, hk⟩ := h
  obtain rfl := i_list.eqn
  have e : (p_impl_SeasonOf l_list period) = _ := rfl
  have e := e.trans (p_impl_SeasonOf_eq l_list period)
  have g0 := Grow.refl H
  refine T_impl_isLong_i ⟨_, (i_list.grow g0), (by first | omega | (simp only [List.length_set, List.length_replicate, List.length_append, List.length_cons, List.length_nil, List.length_take, List.length_drop, marks_length]; done) | (simp only [List.length_set, List.length_replicate, List.length_append, List.length_cons, List.length_nil, List.length_take, List.length_drop, marks_length]; omega)), fun  H_1 g_1  => ?_⟩
  have l_2 := g_1.1
  have g_3 := g0.trans g_1
  have l_4 := g_3.1
  refine Br.intro (fun c_5 => ?_) (fun c_5 => ?_)
  · have e := e.trans (cond_t c_5)
    have c_5n := nf_of_t c_5
    rw [e] at hk
    exact hk _ _ _ H_1 g_3 (OwnS.nil _ _ _ _)
  · have e := e.trans (cond_f c_5)
    have c_5n := nt_of_f c_5
    have c_5n' := impl_isLong_t c_5n
    refine T_impl_within_i ?_
    refine Br.intro (fun c_6 => ?_) (fun c_6 => ?_)
    · have e := e.trans (cond_t c_6)
      have c_6n := nf_of_t c_6
      rw [e] at hk
      exact hk _ _ _ H_1 g_3 (OwnS.nil _ _ _ _)
    · have e := e.trans (cond_f c_6)
      have c_6n := nt_of_f c_6
      have c_6n' := impl_within_t c_6n
      refine T_impl_mean_i ⟨_, (i_list.grow g_3), (by first | omega | (simp only [List.length_set, List.length_replicate, List.length_append, List.length_cons, List.length_nil, List.length_take, List.length_drop, marks_length]; done) | (simp only [List.length_set, List.length_replicate, List.length_append, List.length_cons, List.length_nil, List.length_take, List.length_drop, marks_length]; omega)), ?_⟩
      refine Al.intro (fun b_7 H_2 hb_8 hl_9 g_10 o_11 => ?_)
      have o_11 : Own H_2 b_7 ((([] : List Nat)).map fF) := o_11
      have l_13 := g_10.1
      have g_14 := g_3.trans g_10
      have l_15 := g_14.1
      have w_122 := o_11.lt
      refine impl_SeasonOf_L1 _ _ _ _ _ _ _ _ (fun (μ : Nat) (vout_a : Option Addr) (vout_n : Nat) (vout_e : Nat) (t25 : Int) (H_3 : AHeap) => ∃ (l_vout : List Nat), ∃ (b_16 : Nat), vout_a = some ⟨b_16, 0, none⟩ ∧ vout_n = l_vout.length ∧ vout_e = 1 ∧ Own H_3 b_16 (l_vout.map fF) ∧ Grow H H_3 ∧ H.length ≤ b_16 ∧ (0 : Int) ≤ t25 ∧ ((t25 ≤ period ∨ t25 ≤ (0 : Int))) ∧ (l_vout.length : Int) ≤ t25 - (0 : Int) + 0 ∧ period - t25 ≤ (μ : Int) ∧ p_impl_SeasonOf l_list period = p_impl_SeasonOf_l1 l_list period (μ + 1) l_vout t25) (Int.toNat (period - (0 : Int))) _ _ _ _ _ _ _ _ _ _ _ _ _ _ _ _ _ _ _ _ _ _ _ _ _ _ _ _ _ _ _ _ _ H_2 ?_ ?_
      · exact ⟨_, _, rfl, rfl, rfl, o_11, g_14, (by omega), (by first | omega | (simp; done) | (simp; omega)), (by first | omega | (simp; done) | (simp; omega)), (by first | omega | (simp; done) | (simp; omega)), (by omega), e⟩
      · intro μ vout_a vout_n vout_e t25 g8 g9 g10 g26 g27 g28 g29 g30 g31 g32 g33 g34 g35 g36 g37 g38 g39 g40 g41 g42 g43 g44 g45 g46 g47 g48 g49 g50 g51 H_3 hI
        obtain ⟨l_vout, b_16, rfl, rfl, rfl, o_17, g_18, l_19, v_20, v_21, v_22, hμ, e⟩ := hI
        rw [impl_SeasonOf_r1]
        have e := e.trans (p_impl_SeasonOf_l1_s l_list period μ l_vout t25)
        have w_23 := o_17.lt
        have l_24 := g_18.1
        refine Br.intro (fun c_25 => ?_) (fun c_25 => ?_)
        · have e := e.trans (cond_t c_25)
          have c_25' := of_decide_eq_true c_25
          refine Al.intro (fun b_26 H_4 hb_27 hl_28 g_29 o_30 => ?_)
          have o_30 : Own H_4 b_26 ((([] : List Nat)).map fF) := o_30
          have l_32 := g_29.1
          have g_33 := g_18.trans g_29
          have l_34 := g_33.1
          have o_35 := o_17.grow g_29
          have w_36 := o_35.lt
          have w_110 := o_30.lt
          refine impl_SeasonOf_L2 _ _ _ _ _ _ _ _ _ _ _ _ _ _ _ _ _ _ _ _ _ (fun (μ2 : Nat) (some_a : Option Addr) (some_n : Nat) (some_e : Nat) (i : Int) (H_5 : AHeap) => ∃ (l_some : List Nat), ∃ (b_37 : Nat), ∃ (y2_1 : List Nat), some_a = some ⟨b_37, 0, none⟩ ∧ some_n = l_some.length ∧ some_e = 1 ∧ Own H_5 b_37 (l_some.map fF) ∧ Own H_5 b_16 (y2_1.map fF) ∧ y2_1.length = l_vout.length ∧ (b_37 ≠ b_16) ∧ Grow H H_5 ∧ H.length ≤ b_37 ∧ t25 ≤ i ∧ (l_some.length : Int) ≤ i - t25 + 0 ∧ i ≤ (l_list.length : Int) + period ∧ (l_list.length : Int) - i ≤ (μ2 : Int) ∧ p_impl_SeasonOf l_list period = p_impl_SeasonOf_l2 l_list period l_vout t25 (fun (l_some : List Nat) (i : Int) (y2_1 : List Nat) => (p_impl_SeasonOf_l1 l_list period μ ((y2_1 ++ [(fsub .f32 (p_impl_mean l_some) (p_impl_mean l_list))])) (t25 + 1))) (μ2 + 1) l_some i y2_1) (Int.toNat ((l_list.length : Int) - t25)) _ _ _ _ _ _ _ _ _ _ _ _ _ _ _ _ _ _ H_4 ?_ ?_
          · exact ⟨_, _, _, rfl, rfl, rfl, o_30, o_35, (by first | rfl | (simp; done)), (by omega), g_33, (by omega), (by first | omega | (simp; done) | (simp; omega)), (by first | omega | (simp; done) | (simp; omega)), (by first | omega | (simp; done) | (simp; omega)), (by omega), e⟩
          · intro μ2 some_a some_n some_e i g30 g31 g32 g33 g34 g35 g36 g37 g38 g39 g40 g41 g42 g43 H_5 hI
            obtain ⟨l_some, b_37, y2_1, rfl, rfl, rfl, o_38, o_39, y_40, n_41, g_42, l_43, v_44, v_45, v_46, hμ, e⟩ := hI
            rw [impl_SeasonOf_r2]
            have e := e.trans (p_impl_SeasonOf_l2_s l_list period l_vout t25 (fun (l_some : List Nat) (i : Int) (y2_1 : List Nat) => (p_impl_SeasonOf_l1 l_list period μ ((y2_1 ++ [(fsub .f32 (p_impl_mean l_some) (p_impl_mean l_list))])) (t25 + 1))) μ2 l_some i y2_1)
            have w_47 := o_39.lt
            have w_48 := o_38.lt
            have l_49 := g_42.1
            refine Br.intro (fun c_50 => ?_) (fun c_50 => ?_)
            · have e := e.trans (cond_t c_50)
              have c_50' := of_decide_eq_true c_50
              obtain ⟨b_51, f_52, q_53⟩ := ((i_list.grow g_42)).pos (by first | omega | (simp only [List.length_set, List.length_replicate, List.length_append, List.length_cons, List.length_nil, List.length_take, List.length_drop, marks_length]; done) | (simp only [List.length_set, List.length_replicate, List.length_append, List.length_cons, List.length_nil, List.length_take, List.length_drop, marks_length]; omega))
              refine ⟨by omega, by omega, b_51, f_52, q_53, ?_⟩
              refine ⟨((l_list).getD (i : Int).toNat 0), (i_list).rd g_42 q_53 (by omega) _, ?_⟩
              refine Al.intro (fun b_54 H_6 hb_55 hl_56 g_57 o_58 => ?_)
              have o_58 : Own H_6 b_54 (([(((l_list).getD (i : Int).toNat 0))]).map fF) := o_58
              have l_60 := g_57.1
              have g_61 := g_42.trans g_57
              have l_62 := g_61.1
              have o_63 := o_39.grow g_57
              have w_64 := o_63.lt
              have o_65 := o_38.grow g_57
              have w_66 := o_65.lt
              have w_81 := o_58.lt
              refine ⟨_, _, o_65.ownB (by first | (simp only [List.length_map, List.length_cons, List.length_nil, List.length_append]; done) | (simp only [List.length_map, List.length_cons, List.length_nil, List.length_append]; omega)) rfl, (isl_rdS (o_58.isL rfl)), (fun h => by cases h), (by have := most_eq; omega), ?_⟩
              refine Ap.app o_65 rfl rfl (fun b_71 H_7 q_79 hl_67 o_68 k_69 => ?_)
              have o_68 := map_snoc o_68
              have l_72 := k_69.1
              have g_73 := g_61.keep (b := b_37) (by omega) k_69
              have l_74 := g_73.1
              have o_75 := o_63.keep (by omega) k_69
              have w_76 := o_75.lt
              have o_77 := o_58.keep (by omega) k_69
              have w_78 := o_77.lt
              have w_80 := o_68.lt
              rw [show IntKind.wrap .i64 (i + period) = (i + period) from wrap64 (by omega) (by omega)]
              refine impl_SeasonOf_n2 (μ2 - 1) (by omega) ⟨_, _, _, rfl, (by first | (simp only [List.length_append, List.length_cons, List.length_nil]; done) | (simp only [List.length_append, List.length_cons, List.length_nil]; omega)), rfl, o_68, o_75, (by first | assumption | omega | (simp only [List.length_set]; first | rfl | assumption | omega)), (by omega), g_73, (by omega), (by first | omega | (simp only [List.length_append, List.length_cons, List.length_nil, List.length_set]; done) | (simp only [List.length_append, List.length_cons, List.length_nil, List.length_set]; omega)), (by first | omega | (simp only [List.length_append, List.length_cons, List.length_nil, List.length_set]; done) | (simp only [List.length_append, List.length_cons, List.length_nil, List.length_set]; omega)), (by first | omega | (simp only [List.length_append, List.length_cons, List.length_nil, List.length_set]; done) | (simp only [List.length_append, List.length_cons, List.length_nil, List.length_set]; omega)), (by omega), (by rw [show μ2 - 1 + 1 = μ2 from by omega]; exact e)⟩
            · have e := e.trans (cond_f c_50)
              have c_50' := of_decide_eq_false c_50
              rw [impl_SeasonOf_x2_2]
              refine T_impl_mean_i ⟨_, (o_38.isL rfl), (by first | omega | (simp only [List.length_set, List.length_replicate, List.length_append, List.length_cons, List.length_nil, List.length_take, List.length_drop, marks_length]; done) | (simp only [List.length_set, List.length_replicate, List.length_append, List.length_cons, List.length_nil, List.length_take, List.length_drop, marks_length]; omega)), ?_⟩
              refine Al.intro (fun b_82 H_8 hb_83 hl_84 g_85 o_86 => ?_)
              have o_86 : Own H_8 b_82 (([(fsub .f32 (p_impl_mean l_some) (p_impl_mean l_list))]).map fF) := o_86
              have l_88 := g_85.1
              have g_89 := g_42.trans g_85
              have l_90 := g_89.1
              have o_91 := o_39.grow g_85
              have w_92 := o_91.lt
              have o_93 := o_38.grow g_85
              have w_94 := o_93.lt
              have w_109 := o_86.lt
              refine ⟨_, _, o_91.ownB (by first | (simp only [List.length_map, List.length_cons, List.length_nil, List.length_append]; done) | (simp only [List.length_map, List.length_cons, List.length_nil, List.length_append]; omega)) rfl, (isl_rdS (o_86.isL rfl)), (fun h => by cases h), (by have := most_eq; omega), ?_⟩
              refine Ap.app o_91 rfl rfl (fun b_99 H_9 q_107 hl_95 o_96 k_97 => ?_)
              have o_96 := map_snoc o_96
              have l_100 := k_97.1
              have g_101 := g_89.keep (b := b_16) (by omega) k_97
              have l_102 := g_101.1
              have o_103 := o_93.keep (by omega) k_97
              have w_104 := o_103.lt
              have o_105 := o_86.keep (by omega) k_97
              have w_106 := o_105.lt
              have w_108 := o_96.lt
              rw [show IntKind.wrap .i64 (t25 + 1) = (t25 + 1) from wrap64 (by omega) (by omega)]
              refine impl_SeasonOf_n1 (μ - 1) (by omega) ⟨_, _, rfl, (by first | (simp only [List.length_append, List.length_cons, List.length_nil]; done) | (simp only [List.length_append, List.length_cons, List.length_nil]; omega)), rfl, o_96, g_101, (by omega), (by first | omega | (simp only [List.length_append, List.length_cons, List.length_nil, List.length_set]; done) | (simp only [List.length_append, List.length_cons, List.length_nil, List.length_set]; omega)), (by first | omega | (simp only [List.length_append, List.length_cons, List.length_nil, List.length_set]; done) | (simp only [List.length_append, List.length_cons, List.length_nil, List.length_set]; omega)), (by first | omega | (simp only [List.length_append, List.length_cons, List.length_nil, List.length_set]; done) | (simp only [List.length_append, List.length_cons, List.length_nil, List.length_set]; omega)), (by omega), (by rw [show μ - 1 + 1 = μ from by omega]; exact e)⟩
        · have e := e.trans (cond_f c_25)
          have c_25' := of_decide_eq_false c_25
          rw [impl_SeasonOf_x1_0]
          refine T_impl_finiteList_i ⟨_, (o_17.isL rfl), (by first | omega | (simp only [List.length_set, List.length_replicate, List.length_append, List.length_cons, List.length_nil, List.length_take, List.length_drop, marks_length]; done) | (simp only [List.length_set, List.length_replicate, List.length_append, List.length_cons, List.length_nil, List.length_take, List.length_drop, marks_length]; omega)), (fun H_10 g_115 => ?_)⟩
          have l_117 := g_115.1
          have g_118 := g_18.trans g_115
          have l_119 := g_118.1
          have o_120 := o_17.grow g_115
          have w_121 := o_120.lt
          refine Br.intro (fun c_116 => ?_) (fun c_116 => ?_)
          · have e := e.trans (cond_t c_116)
            rw [e] at hk
            exact hk _ _ _ H_10 g_118 (o_120.ownS rfl (by omega))
          · have e := e.trans (cond_f c_116)
            rw [e] at hk
            exact hk _ _ _ H_10 g_118 (OwnS.nil _ _ _ _)
theorem impl_SeasonOf_ok : FnOk Try.prog 68 S_impl_SeasonOf := by
  refine FnOk.body mix_ok E_impl_SeasonOf_ok Try.func68 rfl (by kernel_rfl) (by kernel_rfl) ?_ ?_ ?_ ?_ ?_
  · intro args H K K' h hk
    simp only [S_impl_SeasonOf] at *
    unfold F_impl_SeasonOf at *
    split at hk
    · obtain ⟨l_list, i_list, bd_123, k⟩ := hk
      exact ⟨l_list, i_list, bd_123, (fun r1_a r1_n r1_e H' gg ow0 => h _ _ (k r1_a r1_n r1_e H' gg ow0))⟩
    · exact hk.elim
  · intro hq; cases hq
  · intro args H K hk
    simp only [S_impl_SeasonOf] at *
    unfold F_impl_SeasonOf at *
    split at hk
    · obtain ⟨l_list, i_list, bd_123, k⟩ := hk
      exact liveS fun a n e H1 g o => ⟨_, _, k a n e H1 g o⟩
    · exact hk.elim
  · intro _ args H K hk
    simp only [S_impl_SeasonOf] at *
    unfold F_impl_SeasonOf at *
    split at hk
    · obtain ⟨l_list, i_list, bd_123, k⟩ := hk
      exact ⟨l_list, i_list, bd_123, (fun r1_a r1_n r1_e H' gg ow0 => ⟨gg, k r1_a r1_n r1_e H' gg ow0⟩)⟩
    · exact hk.elim
  · have mm := @impl_SeasonOf_main
    revert mm
    generalize bodyK Try.prog E_impl_SeasonOf Try.f68 = Q
    intro mm args H K hk
    simp only [S_impl_SeasonOf] at *
    unfold F_impl_SeasonOf at *
    split at hk
    · exact mm _ _ _ _ H K hk
    · exact hk.elim
end Go.Proofs.Ytghkkclonabpkaa.Ai
