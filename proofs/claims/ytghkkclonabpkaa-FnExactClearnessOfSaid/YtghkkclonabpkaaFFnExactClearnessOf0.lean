/- What functions of the program come to on the abstract machine, and that they do so; printed by a program of mine around proofs of mine. -/
import Derived.Test.YtghkkclonabpkaaProg
import Derived.Test.YtghkkclonabpkaaLibA
import Derived.Test.YtghkkclonabpkaaOpen
import Derived.Test.YtghkkclonabpkaaLibB
import Derived.Test.YtghkkclonabpkaaFl
import Derived.Test.YtghkkclonabpkaaExt
import Derived.Test.YtghkkclonabpkaaFm
import Derived.Test.YtghkkclonabpkaaFb
set_option linter.unusedVariables false
set_option linter.unusedSimpArgs false
set_option maxRecDepth 100000
namespace Go.Proofs.Ytghkkclonabpkaa.Ai
open Go
attribute [local irreducible] bodyK
theorem mix_ok : Try.prog.follows .mixedOrders = true := by kernel_rfl
def p_laws_toFloat32S_l1 (l_a : List Nat) : Nat → Int → (List Nat) → (List Nat)
  | 0, _, _ => []
  | μ + 1, i, y1_1 => (bif decide ((i : Int) < (l_a.length : Int)) then (p_laws_toFloat32S_l1 l_a μ (i + 1) (((y1_1).set (i : Int).toNat ((((l_a).getD (i : Int).toNat 0)))))) else y1_1)
theorem p_laws_toFloat32S_l1_s (l_a : List Nat) (μ : Nat) (i : Int) (y1_1 : List Nat) : p_laws_toFloat32S_l1 l_a (μ + 1) i y1_1 = (bif decide ((i : Int) < (l_a.length : Int)) then (p_laws_toFloat32S_l1 l_a μ (i + 1) (((y1_1).set (i : Int).toNat ((((l_a).getD (i : Int).toNat 0)))))) else y1_1) := rfl
def p_laws_toFloat32S (l_a : List Nat) : (List Nat) := (p_laws_toFloat32S_l1 l_a (Int.toNat ((l_a.length : Int) - (0 : Int)) + 1) (0 : Int) (List.replicate (((l_a.length : Int)).toNat) 0))
theorem p_laws_toFloat32S_eq (l_a : List Nat) : p_laws_toFloat32S l_a = (p_laws_toFloat32S_l1 l_a (Int.toNat ((l_a.length : Int) - (0 : Int)) + 1) (0 : Int) (List.replicate (((l_a.length : Int)).toNat) 0)) := rfl
def T_laws_toFloat32S (a_a : Option Addr) (a_n : Nat) (a_e : Nat) (H : AHeap) (K : (Option Addr) → Nat → Nat → AHeap → Prop) : Prop := ∃ (l_a : List Nat), IsL fF H a_a a_n l_a ∧ l_a.length < 1073741824 ∧ ((∀ (r1_a : Option Addr) (r1_n r1_e : Nat), ∀ H' : AHeap, Grow H H' → OwnS fF H' H.length r1_a r1_n r1_e l_a → K r1_a r1_n r1_e H'))
theorem T_laws_toFloat32S_i {a_a : Option Addr} {a_n : Nat} {a_e : Nat} {H : AHeap} {K : (Option Addr) → Nat → Nat → AHeap → Prop} (h : ∃ (l_a : List Nat), IsL fF H a_a a_n l_a ∧ l_a.length < 1073741824 ∧ ((∀ (r1_a : Option Addr) (r1_n r1_e : Nat), ∀ H' : AHeap, Grow H H' → OwnS fF H' H.length r1_a r1_n r1_e l_a → K r1_a r1_n r1_e H'))) : T_laws_toFloat32S a_a a_n a_e H K := h
theorem laws_toFloat32S_go (l : List Nat) : ∀ (μ : Nat) (i : Nat) (ys : List Nat), ys.length = l.length → i ≤ l.length → l.length - i < μ →
    p_laws_toFloat32S_l1 l μ (i : Int) (l.take i ++ ys.drop i) = l := by
  intro μ
  induction μ with
  | zero => intro i ys _ _ h; omega
  | succ μ ih =>
    intro i ys hy hi hm
    rw [p_laws_toFloat32S_l1_s]
    by_cases h : i < l.length
    · rw [decide_eq_true (show (i : Int) < (l.length : Int) by omega), cond_true]
      have hx : l[i]? = some (l.getD i 0) := by rw [List.getD_eq_getElem?_getD, List.getElem?_eq_getElem h]; rfl
      rw [Int.toNat_natCast, set_front l ys i (by omega) hy.symm _ hx]
      exact ih (i + 1) ys hy (by omega) (by omega)
    · rw [decide_eq_false (show ¬ (i : Int) < (l.length : Int) by omega), cond_false]
      rw [List.take_of_length_le (by omega), List.drop_eq_nil_of_le (by omega), List.append_nil]
theorem laws_toFloat32S_id (l : List Nat) : p_laws_toFloat32S l = l := by
  rw [p_laws_toFloat32S_eq]
  have := laws_toFloat32S_go l (Int.toNat ((l.length : Int) - 0) + 1) 0 (List.replicate ((l.length : Int)).toNat 0) (by simp) (by omega) (by omega)
  simpa using this
/-! laws_toFloat32S: function 16 -/
def E_laws_toFloat32S : Env := envOf []
def F_laws_toFloat32S : List Value → AHeap → (Value → AHeap → Prop) → Prop
  | [.slice a_a a_n a_e], H, K => T_laws_toFloat32S a_a a_n a_e H fun (r1_a : Option Addr) (r1_n : Nat) (r1_e : Nat) (H' : AHeap) => K (.slice r1_a r1_n r1_e) H'
  | _, _, _ => False
def S_laws_toFloat32S : FSpec := { F := F_laws_toFloat32S, quiet := false, tame := true }
theorem laws_toFloat32S_vc (a_a : Option Addr) (a_n : Nat) (a_e : Nat) (H : AHeap) (K : Value → AHeap → Prop) : bodyK Try.prog E_laws_toFloat32S Try.f16 [.slice a_a a_n a_e] H K =
  ((0 : Int) ≤ (a_n : Int) ∧ (a_n : Int) = (a_n : Int) ∧ (a_n : Int) < (most : Int) ∧ Al (zerosOf (.float .f32 0) ((a_n : Int)).toNat) H fun b1 H1 => loopK (exK Try.prog E_laws_toFloat32S (cl (cl (cr (cl (cr (cr (bodyC Try.f16)))))))) [.slice a_a a_n a_e, undef, .slice none 0 0, .slice (some ⟨b1, 0, none⟩) (((a_n : Int)).toNat) 1, .int .i64 0, .slice a_a a_n a_e, .int .i64 (a_n : Int), .slice (some ⟨b1, 0, none⟩) (((a_n : Int)).toNat) 1, undef, undef, undef, undef, undef, undef, undef, undef, undef, undef, undef, undef, undef, undef] H1 (blockQ 0 (seqQ (exK Try.prog E_laws_toFloat32S (cr (cr (cr (bodyC Try.f16))))) (retK Try.prog Try.f16 K)))) := by kernel_rfl
theorem laws_toFloat32S_r1 (a_a : Option Addr) (a_e : Nat) (a_n : Nat) (b1 : Nat) (i : Int) (g8 g9 g10 g11 g12 g13 g14 g15 g16 g17 g18 g19 g20 : Value) (H : AHeap) (R : Post) : exK Try.prog E_laws_toFloat32S (cl (cl (cr (cl (cr (cr (bodyC Try.f16))))))) [.slice a_a a_n a_e, undef, .slice none 0 0, .slice (some ⟨b1, 0, none⟩) (((a_n : Int)).toNat) 1, .int .i64 i, .slice a_a a_n a_e, .int .i64 (a_n : Int), .slice (some ⟨b1, 0, none⟩) (((a_n : Int)).toNat) 1, g8, g9, g10, g11, g12, g13, g14, g15, g16, g17, g18, g19, g20, undef] H R =
  (Br (decide ((i : Int) < (a_n : Int))) ((0 : Int) ≤ i ∧ i < (a_n : Int) ∧ ∃ b2 f1, (a_a : Option Addr) = some ⟨b2, f1, none⟩ ∧ ∃ x1 : Nat,  rdC H b2 (f1 + (i : Int).toNat * 1) = some (.float .f32 x1) ∧ (0 : Int) ≤ i ∧ i < (((a_n : Int)).toNat : Int) ∧ ∃ b3 f2, (some ⟨b1, 0, none⟩ : Option Addr) = some ⟨b3, f2, none⟩ ∧ isOwn H b3 ∧ (∃ l, rdN H b3 (f2 + (i : Int).toNat * 1) 1 = some l) ∧ Lt (setC H b3 (f2 + (i : Int).toNat * 1) (.float .f32 x1)) fun H2 => R .normal [.slice a_a a_n a_e, undef, .slice none 0 0, .slice (some ⟨b1, 0, none⟩) (((a_n : Int)).toNat) 1, .int .i64 (IntKind.wrap .i64 (i + 1)), .slice a_a a_n a_e, .int .i64 (a_n : Int), .slice (some ⟨b1, 0, none⟩) (((a_n : Int)).toNat) 1, .int .i64 i, .slice a_a a_n a_e, .int .i64 (a_n : Int), .bool (decide ((i : Int) < (a_n : Int))), .int .i64 i, .int .i64 (IntKind.wrap .i64 (i + 1)), .slice (some ⟨b1, 0, none⟩) (((a_n : Int)).toNat) 1, .int .i64 i, .slice a_a a_n a_e, .int .i64 i, .pointer (some ⟨b2, f1 + (i : Int).toNat * 1, none⟩), .float .f32 x1, .pointer (some ⟨b3, f2 + (i : Int).toNat * 1, none⟩), undef] H2) (R (.exit 0) [.slice a_a a_n a_e, undef, .slice none 0 0, .slice (some ⟨b1, 0, none⟩) (((a_n : Int)).toNat) 1, .int .i64 i, .slice a_a a_n a_e, .int .i64 (a_n : Int), .slice (some ⟨b1, 0, none⟩) (((a_n : Int)).toNat) 1, .int .i64 i, .slice a_a a_n a_e, .int .i64 (a_n : Int), .bool (decide ((i : Int) < (a_n : Int))), g12, g13, g14, g15, g16, g17, g18, g19, g20, undef] H)) := by kernel_rfl
def laws_toFloat32S_I1 (a_a : Option Addr) (a_e : Nat) (a_n : Nat) (b1 : Nat) (Inv : Nat → Int → AHeap → Prop) : Nat → List Value → AHeap → Prop := fun μ tm H => ∃ (i : Int), ∃ g8 g9 g10 g11 g12 g13 g14 g15 g16 g17 g18 g19 g20, tm = [.slice a_a a_n a_e, undef, .slice none 0 0, .slice (some ⟨b1, 0, none⟩) (((a_n : Int)).toNat) 1, .int .i64 i, .slice a_a a_n a_e, .int .i64 (a_n : Int), .slice (some ⟨b1, 0, none⟩) (((a_n : Int)).toNat) 1, g8, g9, g10, g11, g12, g13, g14, g15, g16, g17, g18, g19, g20, undef] ∧ Inv μ i H
theorem laws_toFloat32S_L1 (a_a : Option Addr) (a_e : Nat) (a_n : Nat) (b1 : Nat) {Q : Post} (Inv : Nat → Int → AHeap → Prop) (ν : Nat) (i : Int) (g8 g9 g10 g11 g12 g13 g14 g15 g16 g17 g18 g19 g20 : Value) (H : AHeap) (h0 : Inv ν i H)
    (hs : ∀ (μ : Nat) (i : Int) (g8 g9 g10 g11 g12 g13 g14 g15 g16 g17 g18 g19 g20 : Value) (H : AHeap), Inv μ i H → exK Try.prog E_laws_toFloat32S (cl (cl (cr (cl (cr (cr (bodyC Try.f16))))))) [.slice a_a a_n a_e, undef, .slice none 0 0, .slice (some ⟨b1, 0, none⟩) (((a_n : Int)).toNat) 1, .int .i64 i, .slice a_a a_n a_e, .int .i64 (a_n : Int), .slice (some ⟨b1, 0, none⟩) (((a_n : Int)).toNat) 1, g8, g9, g10, g11, g12, g13, g14, g15, g16, g17, g18, g19, g20, undef] H (loopQ (laws_toFloat32S_I1 a_a a_e a_n b1 Inv) μ Q)) : loopK (exK Try.prog E_laws_toFloat32S (cl (cl (cr (cl (cr (cr (bodyC Try.f16)))))))) [.slice a_a a_n a_e, undef, .slice none 0 0, .slice (some ⟨b1, 0, none⟩) (((a_n : Int)).toNat) 1, .int .i64 i, .slice a_a a_n a_e, .int .i64 (a_n : Int), .slice (some ⟨b1, 0, none⟩) (((a_n : Int)).toNat) 1, g8, g9, g10, g11, g12, g13, g14, g15, g16, g17, g18, g19, g20, undef] H Q :=
  ⟨laws_toFloat32S_I1 a_a a_e a_n b1 Inv, ν, ⟨i, g8, g9, g10, g11, g12, g13, g14, g15, g16, g17, g18, g19, g20, rfl, h0⟩, fun μ tm H h => by obtain ⟨i, g8, g9, g10, g11, g12, g13, g14, g15, g16, g17, g18, g19, g20, rfl, hI⟩ := h; exact hs μ i g8 g9 g10 g11 g12 g13 g14 g15 g16 g17 g18 g19 g20 H hI⟩
theorem laws_toFloat32S_n1 {a_a : Option Addr} {a_e : Nat} {a_n : Nat} {b1 : Nat} {Q : Post} {Inv : Nat → Int → AHeap → Prop} {μ : Nat} (μ' : Nat) {i : Int} {g8 g9 g10 g11 g12 g13 g14 g15 g16 g17 g18 g19 g20 : Value} {H : AHeap} (hm : μ' < μ) (hI : Inv μ' i H) : loopQ (laws_toFloat32S_I1 a_a a_e a_n b1 Inv) μ Q .normal [.slice a_a a_n a_e, undef, .slice none 0 0, .slice (some ⟨b1, 0, none⟩) (((a_n : Int)).toNat) 1, .int .i64 i, .slice a_a a_n a_e, .int .i64 (a_n : Int), .slice (some ⟨b1, 0, none⟩) (((a_n : Int)).toNat) 1, g8, g9, g10, g11, g12, g13, g14, g15, g16, g17, g18, g19, g20, undef] H := ⟨μ', hm, i, g8, g9, g10, g11, g12, g13, g14, g15, g16, g17, g18, g19, g20, rfl, hI⟩
theorem laws_toFloat32S_x1_0 (a_a : Option Addr) (a_e : Nat) (a_n : Nat) (b1 : Nat) (i : Int) (g8 g9 g10 g11 g12 g13 g14 g15 g16 g17 g18 g19 g20 : Value) (H : AHeap) (K : Value → AHeap → Prop)  {I : Nat → List Value → AHeap → Prop} {μ : Nat} : loopQ I μ (blockQ 0 (seqQ (exK Try.prog E_laws_toFloat32S (cr (cr (cr (bodyC Try.f16))))) (retK Try.prog Try.f16 K))) (.exit 0) [.slice a_a a_n a_e, undef, .slice none 0 0, .slice (some ⟨b1, 0, none⟩) (((a_n : Int)).toNat) 1, .int .i64 i, .slice a_a a_n a_e, .int .i64 (a_n : Int), .slice (some ⟨b1, 0, none⟩) (((a_n : Int)).toNat) 1, g8, g9, g10, g11, g12, g13, g14, g15, g16, g17, g18, g19, g20, undef] H =
  (K (.slice (some ⟨b1, 0, none⟩) (((a_n : Int)).toNat) 1) H) := by kernel_rfl
theorem E_laws_toFloat32S_ok : ∀ g, FnOk Try.prog g (E_laws_toFloat32S g) := FnOk.envOf (by
  intro x hx; cases hx)
set_option maxHeartbeats 1000000 in
theorem laws_toFloat32S_main (a_a : Option Addr) (a_n : Nat) (a_e : Nat) (H : AHeap) (K : Value → AHeap → Prop) (h : T_laws_toFloat32S a_a a_n a_e H fun (r1_a : Option Addr) (r1_n : Nat) (r1_e : Nat) (H' : AHeap) => K (.slice r1_a r1_n r1_e) H') : bodyK Try.prog E_laws_toFloat32S Try.f16 [.slice a_a a_n a_e] H K := by
  rw [laws_toFloat32S_vc]
  obtain ⟨l_a, i_a, bd_29, hk⟩ := h
  have hk : (∀ (r1_a : Option Addr) (r1_n r1_e : Nat), ∀ H' : AHeap, Grow H H' → OwnS fF H' H.length r1_a r1_n r1_e (p_laws_toFloat32S l_a) → (fun (r1_a : Option Addr) (r1_n : Nat) (r1_e : Nat) (H' : AHeap) => K (.slice r1_a r1_n r1_e) H') r1_a r1_n r1_e H') := by rw [laws_toFloat32S_id l_a]; exact hk
  obtain rfl := i_a.eqn
  have e : (p_laws_toFloat32S l_a) = _ := rfl
  have e := e.trans (p_laws_toFloat32S_eq l_a)
  have g0 := Grow.refl H
  refine ⟨by omega, rfl, (by have := most_eq; omega), ?_⟩
  refine Al.intro (fun b_1 H_1 hb_2 hl_3 g_4 o_5 => ?_)
  rw [zeros_map fF 0 _ rfl] at o_5
  have l_7 := g_4.1
  have g_8 := g0.trans g_4
  have l_9 := g_8.1
  have w_28 := o_5.lt
  refine laws_toFloat32S_L1 _ _ _ _ (fun (μ : Nat) (i : Int) (H_2 : AHeap) => ∃ (y1_1 : List Nat), Own H_2 b_1 (y1_1.map fF) ∧ y1_1.length = ((l_a.length : Int)).toNat ∧ Grow H H_2 ∧ (0 : Int) ≤ i ∧ i ≤ (l_a.length : Int) ∧ (l_a.length : Int) - i ≤ (μ : Int) ∧ p_laws_toFloat32S l_a = p_laws_toFloat32S_l1 l_a (μ + 1) i y1_1) (Int.toNat ((l_a.length : Int) - (0 : Int))) _ _ _ _ _ _ _ _ _ _ _ _ _ _ H_1 ?_ ?_
  · exact ⟨_, o_5, (by first | rfl | (simp; done)), g_8, (by first | omega | (simp; done) | (simp; omega)), (by first | omega | (simp; done) | (simp; omega)), (by omega), e⟩
  · intro μ i g8 g9 g10 g11 g12 g13 g14 g15 g16 g17 g18 g19 g20 H_2 hI
    obtain ⟨y1_1, o_10, y_11, g_12, v_13, v_14, hμ, e⟩ := hI
    rw [laws_toFloat32S_r1]
    have e := e.trans (p_laws_toFloat32S_l1_s l_a μ i y1_1)
    have w_15 := o_10.lt
    have l_16 := g_12.1
    refine Br.intro (fun c_17 => ?_) (fun c_17 => ?_)
    · have e := e.trans (cond_t c_17)
      have c_17' := of_decide_eq_true c_17
      obtain ⟨b_18, f_19, q_20⟩ := ((i_a.grow g_12)).pos (by first | omega | (simp only [List.length_set, List.length_replicate, List.length_append, List.length_cons, List.length_nil, List.length_take, List.length_drop, marks_length]; done) | (simp only [List.length_set, List.length_replicate, List.length_append, List.length_cons, List.length_nil, List.length_take, List.length_drop, marks_length]; omega))
      refine ⟨by omega, by omega, b_18, f_19, q_20, ?_⟩
      refine ⟨((l_a).getD (i : Int).toNat 0), (i_a).rd g_12 q_20 (by omega) _, ?_⟩
      refine ⟨by omega, (by omega), _, _, rfl, ?_⟩
      refine Lt.set o_10 (by simp only [List.length_map]; (first | omega | (simp only [List.length_set, List.length_replicate, List.length_append, List.length_cons, List.length_nil, List.length_take, List.length_drop, marks_length]; done) | (simp only [List.length_set, List.length_replicate, List.length_append, List.length_cons, List.length_nil, List.length_take, List.length_drop, marks_length]; omega))) (fun H_3 hl_21 o_23 k_22 => ?_)
      have o_23 := map_set o_23
      have l_24 := k_22.1
      have g_25 := g_12.keep (b := b_1) (by omega) k_22
      have l_26 := g_25.1
      have w_27 := o_23.lt
      rw [show IntKind.wrap .i64 (i + 1) = (i + 1) from wrap64 (by omega) (by omega)]
      refine laws_toFloat32S_n1 (μ - 1) (by first | omega) ⟨_, o_23, (by first | assumption | omega | (simp only [List.length_set]; first | rfl | assumption | omega)), g_25, (by first | omega | (simp only [List.length_append, List.length_cons, List.length_nil, List.length_set]; done) | (simp only [List.length_append, List.length_cons, List.length_nil, List.length_set]; omega)), (by first | omega | (simp only [List.length_append, List.length_cons, List.length_nil, List.length_set]; done) | (simp only [List.length_append, List.length_cons, List.length_nil, List.length_set]; omega)), (by first | omega), (by rw [show μ - 1 + 1 = μ from by first | omega]; exact e)⟩
    · have e := e.trans (cond_f c_17)
      have c_17' := of_decide_eq_false c_17
      rw [laws_toFloat32S_x1_0]
      rw [e] at hk
      exact hk _ _ _ H_2 g_12 (o_10.ownS (by first | (simp only [List.length_replicate]; done) | omega | (simp; omega)) (by omega))
theorem laws_toFloat32S_ok : FnOk Try.prog 16 S_laws_toFloat32S := by
  refine FnOk.body mix_ok E_laws_toFloat32S_ok Try.func16 rfl (by kernel_rfl) (by kernel_rfl) ?_ ?_ ?_ ?_ ?_
  · intro args H K K' h hk
    simp only [S_laws_toFloat32S] at *
    unfold F_laws_toFloat32S at *
    split at hk
    · obtain ⟨l_a, i_a, bd_29, k⟩ := hk
      exact ⟨l_a, i_a, bd_29, (fun r1_a r1_n r1_e H' gg ow0 => h _ _ (k r1_a r1_n r1_e H' gg ow0))⟩
    · exact hk.elim
  · intro hq; cases hq
  · intro args H K hk
    simp only [S_laws_toFloat32S] at *
    unfold F_laws_toFloat32S at *
    split at hk
    · obtain ⟨l_a, i_a, bd_29, k⟩ := hk
      exact liveS fun a n e H1 g o => ⟨_, _, k a n e H1 g o⟩
    · exact hk.elim
  · intro _ args H K hk
    simp only [S_laws_toFloat32S] at *
    unfold F_laws_toFloat32S at *
    split at hk
    · obtain ⟨l_a, i_a, bd_29, k⟩ := hk
      exact ⟨l_a, i_a, bd_29, (fun r1_a r1_n r1_e H' gg ow0 => ⟨gg, k r1_a r1_n r1_e H' gg ow0⟩)⟩
    · exact hk.elim
  · have mm := @laws_toFloat32S_main
    revert mm
    generalize bodyK Try.prog E_laws_toFloat32S Try.f16 = Q
    intro mm args H K hk
    simp only [S_laws_toFloat32S] at *
    unfold F_laws_toFloat32S at *
    split at hk
    · exact mm _ _ _ H K hk
    · exact hk.elim
def p_spec_l01Finite (x : Nat) : Bool := feq .f32 (fsub .f32 x x) 0
theorem p_spec_l01Finite_eq (x : Nat) : p_spec_l01Finite x = feq .f32 (fsub .f32 x x) 0 := rfl
def T_spec_l01Finite (x : Nat) (H : AHeap) (K : Bool → AHeap → Prop) : Prop := K (p_spec_l01Finite x) H

theorem T_spec_l01Finite_i {x : Nat} {H : AHeap} {K : Bool → AHeap → Prop} (h : K (p_spec_l01Finite x) H) : T_spec_l01Finite x H K := h
/-! spec_l01Finite: function 57 -/
def E_spec_l01Finite : Env := envOf []
def F_spec_l01Finite : List Value → AHeap → (Value → AHeap → Prop) → Prop
  | [.float .f32 x], H, K => T_spec_l01Finite x H fun (r1 : Bool) (H' : AHeap) => K (.bool r1) H'
  | _, _, _ => False
def S_spec_l01Finite : FSpec := { F := F_spec_l01Finite, quiet := true, tame := false }
theorem spec_l01Finite_vc (x : Nat) (H : AHeap) (K : Value → AHeap → Prop) : bodyK Try.prog E_spec_l01Finite Try.f57 [.float .f32 x] H K =
  (K (.bool (feq .f32 (fsub .f32 x x) 0)) H) := by kernel_rfl
theorem E_spec_l01Finite_ok : ∀ g, FnOk Try.prog g (E_spec_l01Finite g) := FnOk.envOf (by
  intro x hx; cases hx)
set_option maxHeartbeats 1000000 in
theorem spec_l01Finite_main (x : Nat) (H : AHeap) (K : Value → AHeap → Prop) (h : T_spec_l01Finite x H fun (r1 : Bool) (H' : AHeap) => K (.bool r1) H') : bodyK Try.prog E_spec_l01Finite Try.f57 [.float .f32 x] H K := by
  rw [spec_l01Finite_vc]
  unfold T_spec_l01Finite p_spec_l01Finite at h
  repeat' (first | exact h | (exfalso; simp_all; done) | (refine ⟨by decide, ?_⟩) | (refine Br.intro (fun hb => ?_) (fun hb => ?_) <;> (try simp only [hb, cond_true, cond_false, Bool.not_true, Bool.not_false] at h)))
theorem spec_l01Finite_ok : FnOk Try.prog 57 S_spec_l01Finite := by
  refine FnOk.body mix_ok E_spec_l01Finite_ok Try.func57 rfl (by kernel_rfl) (by kernel_rfl) ?_ ?_ ?_ ?_ ?_
  · intro args H K K' h hk
    simp only [S_spec_l01Finite] at *
    unfold F_spec_l01Finite at *
    split at hk
    · have k := hk
      exact h _ _ k
    · exact hk.elim
  · intro _ args H K hk
    simp only [S_spec_l01Finite] at *
    unfold F_spec_l01Finite at *
    split at hk
    · have k := hk
      exact ⟨_, k, fun K' k' => k'⟩
    · exact hk.elim
  · intro args H K hk
    simp only [S_spec_l01Finite] at *
    unfold F_spec_l01Finite at *
    split at hk
    · have k := hk
      exact ⟨_, _, k⟩
    · exact hk.elim
  · intro hq; cases hq
  · have mm := @spec_l01Finite_main
    revert mm
    generalize bodyK Try.prog E_spec_l01Finite Try.f57 = Q
    intro mm args H K hk
    simp only [S_spec_l01Finite] at *
    unfold F_spec_l01Finite at *
    split at hk
    · exact mm _ H K hk
    · exact hk.elim
def p_spec_l02Finite_l1 (l_list : List Nat) : Nat → Bool → Int → Bool
  | 0, _, _ => false
  | μ + 1, t2, i => (bif decide ((i : Int) < (l_list.length : Int)) then (bif !((p_spec_l01Finite (((l_list).getD (i : Int).toNat 0)))) then false else (p_spec_l02Finite_l1 l_list μ t2 (i + 1))) else true)
theorem p_spec_l02Finite_l1_s (l_list : List Nat) (μ : Nat) (t2 : Bool) (i : Int) : p_spec_l02Finite_l1 l_list (μ + 1) t2 i = (bif decide ((i : Int) < (l_list.length : Int)) then (bif !((p_spec_l01Finite (((l_list).getD (i : Int).toNat 0)))) then false else (p_spec_l02Finite_l1 l_list μ t2 (i + 1))) else true) := rfl
def p_spec_l02Finite (l_list : List Nat) : Bool := (p_spec_l02Finite_l1 l_list (Int.toNat ((l_list.length : Int) - (0 : Int)) + 1) false (0 : Int))
theorem p_spec_l02Finite_eq (l_list : List Nat) : p_spec_l02Finite l_list = (p_spec_l02Finite_l1 l_list (Int.toNat ((l_list.length : Int) - (0 : Int)) + 1) false (0 : Int)) := rfl
def T_spec_l02Finite (list_a : Option Addr) (list_n : Nat) (list_e : Nat) (H : AHeap) (K : Bool → AHeap → Prop) : Prop := ∃ (l_list : List Nat), IsL fF H list_a list_n l_list ∧ l_list.length < 1073741824 ∧ K (p_spec_l02Finite l_list) H
theorem T_spec_l02Finite_i {list_a : Option Addr} {list_n : Nat} {list_e : Nat} {H : AHeap} {K : Bool → AHeap → Prop} (h : ∃ (l_list : List Nat), IsL fF H list_a list_n l_list ∧ l_list.length < 1073741824 ∧ K (p_spec_l02Finite l_list) H) : T_spec_l02Finite list_a list_n list_e H K := h

/-! spec_l02Finite: function 67 -/
def E_spec_l02Finite : Env := envOf [(57, S_spec_l01Finite)]
def F_spec_l02Finite : List Value → AHeap → (Value → AHeap → Prop) → Prop
  | [.slice list_a list_n list_e], H, K => T_spec_l02Finite list_a list_n list_e H fun (r1 : Bool) (H' : AHeap) => K (.bool r1) H'
  | _, _, _ => False
def S_spec_l02Finite : FSpec := { F := F_spec_l02Finite, quiet := true, tame := false }
theorem spec_l02Finite_vc (list_a : Option Addr) (list_n : Nat) (list_e : Nat) (H : AHeap) (K : Value → AHeap → Prop) : bodyK Try.prog E_spec_l02Finite Try.f67 [.slice list_a list_n list_e] H K =
  (loopK (exK Try.prog E_spec_l02Finite (cl (cl (cr (cl (cr (bodyC Try.f67))))))) [.slice list_a list_n list_e, undef, .bool false, .int .i64 0, undef, undef, undef, undef, undef, undef, undef, undef, undef, undef, undef, undef] H (blockQ 0 (seqQ (exK Try.prog E_spec_l02Finite (cr (cr (bodyC Try.f67)))) (retK Try.prog Try.f67 K)))) := by kernel_rfl
theorem spec_l02Finite_r1 (list_a : Option Addr) (list_e : Nat) (list_n : Nat) (t2 : Bool) (i : Int) (g4 g5 g6 g7 g8 g9 g10 g11 g12 g13 g14 g15 : Value) (H : AHeap) (R : Post) : exK Try.prog E_spec_l02Finite (cl (cl (cr (cl (cr (bodyC Try.f67)))))) [.slice list_a list_n list_e, undef, .bool t2, .int .i64 i, g4, g5, g6, g7, g8, g9, g10, g11, g12, g13, g14, g15] H R =
  (Br (decide ((i : Int) < (list_n : Int))) ((0 : Int) ≤ i ∧ i < (list_n : Int) ∧ ∃ b1 f1, (list_a : Option Addr) = some ⟨b1, f1, none⟩ ∧ ∃ x1 : Nat,  rdC H b1 (f1 + (i : Int).toNat * 1) = some (.float .f32 x1) ∧ T_spec_l01Finite x1 H fun (r1 : Bool) (H1 : AHeap) => Br (!r1) (R .ret [.slice list_a list_n list_e, undef, .bool false, .int .i64 i, .int .i64 i, .slice list_a list_n list_e, .int .i64 (list_n : Int), .bool (decide ((i : Int) < (list_n : Int))), g8, g9, .slice list_a list_n list_e, .int .i64 i, .pointer (some ⟨b1, f1 + (i : Int).toNat * 1, none⟩), .float .f32 x1, .bool r1, .bool (!r1)] H1) (R .normal [.slice list_a list_n list_e, undef, .bool t2, .int .i64 (IntKind.wrap .i64 (i + 1)), .int .i64 i, .slice list_a list_n list_e, .int .i64 (list_n : Int), .bool (decide ((i : Int) < (list_n : Int))), .int .i64 i, .int .i64 (IntKind.wrap .i64 (i + 1)), .slice list_a list_n list_e, .int .i64 i, .pointer (some ⟨b1, f1 + (i : Int).toNat * 1, none⟩), .float .f32 x1, .bool r1, .bool (!r1)] H1)) (R (.exit 0) [.slice list_a list_n list_e, undef, .bool t2, .int .i64 i, .int .i64 i, .slice list_a list_n list_e, .int .i64 (list_n : Int), .bool (decide ((i : Int) < (list_n : Int))), g8, g9, g10, g11, g12, g13, g14, g15] H)) := by kernel_rfl
def spec_l02Finite_I1 (list_a : Option Addr) (list_e : Nat) (list_n : Nat) (Inv : Nat → Bool → Int → AHeap → Prop) : Nat → List Value → AHeap → Prop := fun μ tm H => ∃ (t2 : Bool), ∃ (i : Int), ∃ g4 g5 g6 g7 g8 g9 g10 g11 g12 g13 g14 g15, tm = [.slice list_a list_n list_e, undef, .bool t2, .int .i64 i, g4, g5, g6, g7, g8, g9, g10, g11, g12, g13, g14, g15] ∧ Inv μ t2 i H
theorem spec_l02Finite_L1 (list_a : Option Addr) (list_e : Nat) (list_n : Nat) {Q : Post} (Inv : Nat → Bool → Int → AHeap → Prop) (ν : Nat) (t2 : Bool) (i : Int) (g4 g5 g6 g7 g8 g9 g10 g11 g12 g13 g14 g15 : Value) (H : AHeap) (h0 : Inv ν t2 i H)
    (hs : ∀ (μ : Nat) (t2 : Bool) (i : Int) (g4 g5 g6 g7 g8 g9 g10 g11 g12 g13 g14 g15 : Value) (H : AHeap), Inv μ t2 i H → exK Try.prog E_spec_l02Finite (cl (cl (cr (cl (cr (bodyC Try.f67)))))) [.slice list_a list_n list_e, undef, .bool t2, .int .i64 i, g4, g5, g6, g7, g8, g9, g10, g11, g12, g13, g14, g15] H (loopQ (spec_l02Finite_I1 list_a list_e list_n Inv) μ Q)) : loopK (exK Try.prog E_spec_l02Finite (cl (cl (cr (cl (cr (bodyC Try.f67))))))) [.slice list_a list_n list_e, undef, .bool t2, .int .i64 i, g4, g5, g6, g7, g8, g9, g10, g11, g12, g13, g14, g15] H Q :=
  ⟨spec_l02Finite_I1 list_a list_e list_n Inv, ν, ⟨t2, i, g4, g5, g6, g7, g8, g9, g10, g11, g12, g13, g14, g15, rfl, h0⟩, fun μ tm H h => by obtain ⟨t2, i, g4, g5, g6, g7, g8, g9, g10, g11, g12, g13, g14, g15, rfl, hI⟩ := h; exact hs μ t2 i g4 g5 g6 g7 g8 g9 g10 g11 g12 g13 g14 g15 H hI⟩
theorem spec_l02Finite_n1 {list_a : Option Addr} {list_e : Nat} {list_n : Nat} {Q : Post} {Inv : Nat → Bool → Int → AHeap → Prop} {μ : Nat} (μ' : Nat) {t2 : Bool} {i : Int} {g4 g5 g6 g7 g8 g9 g10 g11 g12 g13 g14 g15 : Value} {H : AHeap} (hm : μ' < μ) (hI : Inv μ' t2 i H) : loopQ (spec_l02Finite_I1 list_a list_e list_n Inv) μ Q .normal [.slice list_a list_n list_e, undef, .bool t2, .int .i64 i, g4, g5, g6, g7, g8, g9, g10, g11, g12, g13, g14, g15] H := ⟨μ', hm, t2, i, g4, g5, g6, g7, g8, g9, g10, g11, g12, g13, g14, g15, rfl, hI⟩
theorem spec_l02Finite_x1_0 (list_a : Option Addr) (list_e : Nat) (list_n : Nat) (t2 : Bool) (i : Int) (g4 g5 g6 g7 g8 g9 g10 g11 g12 g13 g14 g15 : Value) (H : AHeap) (K : Value → AHeap → Prop)  {I : Nat → List Value → AHeap → Prop} {μ : Nat} : loopQ I μ (blockQ 0 (seqQ (exK Try.prog E_spec_l02Finite (cr (cr (bodyC Try.f67)))) (retK Try.prog Try.f67 K))) (.exit 0) [.slice list_a list_n list_e, undef, .bool t2, .int .i64 i, g4, g5, g6, g7, g8, g9, g10, g11, g12, g13, g14, g15] H =
  (K (.bool true) H) := by kernel_rfl
theorem spec_l02Finite_x1_ret (list_a : Option Addr) (list_e : Nat) (list_n : Nat) (t2 : Bool) (i : Int) (g4 g5 g6 g7 g8 g9 g10 g11 g12 g13 g14 g15 : Value) (H : AHeap) (K : Value → AHeap → Prop)  {I : Nat → List Value → AHeap → Prop} {μ : Nat} : loopQ I μ (blockQ 0 (seqQ (exK Try.prog E_spec_l02Finite (cr (cr (bodyC Try.f67)))) (retK Try.prog Try.f67 K))) .ret [.slice list_a list_n list_e, undef, .bool t2, .int .i64 i, g4, g5, g6, g7, g8, g9, g10, g11, g12, g13, g14, g15] H =
  (K (.bool t2) H) := by kernel_rfl
theorem E_spec_l02Finite_ok : ∀ g, FnOk Try.prog g (E_spec_l02Finite g) := FnOk.envOf (by
  intro x hx
  simp only [List.mem_cons, List.not_mem_nil, or_false] at hx
  subst hx; exact spec_l01Finite_ok)
set_option maxHeartbeats 1000000 in
theorem spec_l02Finite_main (list_a : Option Addr) (list_n : Nat) (list_e : Nat) (H : AHeap) (K : Value → AHeap → Prop) (h : T_spec_l02Finite list_a list_n list_e H fun (r1 : Bool) (H' : AHeap) => K (.bool r1) H') : bodyK Try.prog E_spec_l02Finite Try.f67 [.slice list_a list_n list_e] H K := by
  rw [spec_l02Finite_vc]
  obtain ⟨l_list, i_list, bd_9, hk⟩ := h
  obtain rfl := i_list.eqn
  have e : (p_spec_l02Finite l_list) = _ := rfl
  have e := e.trans (p_spec_l02Finite_eq l_list)
  have g0 := Grow.refl H
  refine spec_l02Finite_L1 _ _ _ (fun (μ : Nat) (t2 : Bool) (i : Int) (H_1 : AHeap) => H = H_1 ∧ (0 : Int) ≤ i ∧ i ≤ (l_list.length : Int) ∧ (l_list.length : Int) - i ≤ (μ : Int) ∧ p_spec_l02Finite l_list = p_spec_l02Finite_l1 l_list (μ + 1) t2 i) (Int.toNat ((l_list.length : Int) - (0 : Int))) _ _ _ _ _ _ _ _ _ _ _ _ _ _ H ?_ ?_
  · exact ⟨rfl, (by first | omega | (simp; done) | (simp; omega)), (by first | omega | (simp; done) | (simp; omega)), (by omega), e⟩
  · intro μ t2 i g4 g5 g6 g7 g8 g9 g10 g11 g12 g13 g14 g15 H_1 hI
    obtain ⟨rfl, v_1, v_2, hμ, e⟩ := hI
    rw [spec_l02Finite_r1]
    have e := e.trans (p_spec_l02Finite_l1_s l_list μ t2 i)
    have l_3 := g0.1
    refine Br.intro (fun c_4 => ?_) (fun c_4 => ?_)
    · have e := e.trans (cond_t c_4)
      have c_4' := of_decide_eq_true c_4
      obtain ⟨b_5, f_6, q_7⟩ := ((i_list.grow g0)).pos (by first | omega | (simp only [List.length_set, List.length_replicate, List.length_append, List.length_cons, List.length_nil, List.length_take, List.length_drop, marks_length]; done) | (simp only [List.length_set, List.length_replicate, List.length_append, List.length_cons, List.length_nil, List.length_take, List.length_drop, marks_length]; omega))
      refine ⟨by omega, by omega, b_5, f_6, q_7, ?_⟩
      refine ⟨((l_list).getD (i : Int).toNat 0), (i_list).rd g0 q_7 (by omega) _, ?_⟩
      refine T_spec_l01Finite_i ?_
      refine Br.intro (fun c_8 => ?_) (fun c_8 => ?_)
      · have e := e.trans (cond_t c_8)
        have c_8n := nf_of_t c_8
        rw [spec_l02Finite_x1_ret]
        rw [e] at hk
        exact hk
      · have e := e.trans (cond_f c_8)
        have c_8n := nt_of_f c_8
        rw [show IntKind.wrap .i64 (i + 1) = (i + 1) from wrap64 (by omega) (by omega)]
        refine spec_l02Finite_n1 (μ - 1) (by first | omega) ⟨rfl, (by first | omega | (simp only [List.length_append, List.length_cons, List.length_nil, List.length_set]; done) | (simp only [List.length_append, List.length_cons, List.length_nil, List.length_set]; omega)), (by first | omega | (simp only [List.length_append, List.length_cons, List.length_nil, List.length_set]; done) | (simp only [List.length_append, List.length_cons, List.length_nil, List.length_set]; omega)), (by first | omega), (by rw [show μ - 1 + 1 = μ from by first | omega]; exact e)⟩
    · have e := e.trans (cond_f c_4)
      have c_4' := of_decide_eq_false c_4
      rw [spec_l02Finite_x1_0]
      rw [e] at hk
      exact hk
theorem spec_l02Finite_ok : FnOk Try.prog 67 S_spec_l02Finite := by
  refine FnOk.body mix_ok E_spec_l02Finite_ok Try.func67 rfl (by kernel_rfl) (by kernel_rfl) ?_ ?_ ?_ ?_ ?_
  · intro args H K K' h hk
    simp only [S_spec_l02Finite] at *
    unfold F_spec_l02Finite at *
    split at hk
    · obtain ⟨l_list, i_list, bd_9, k⟩ := hk
      exact ⟨l_list, i_list, bd_9, h _ _ k⟩
    · exact hk.elim
  · intro _ args H K hk
    simp only [S_spec_l02Finite] at *
    unfold F_spec_l02Finite at *
    split at hk
    · obtain ⟨l_list, i_list, bd_9, k⟩ := hk
      exact ⟨_, k, fun K' k' => ⟨l_list, i_list, bd_9, k'⟩⟩
    · exact hk.elim
  · intro args H K hk
    simp only [S_spec_l02Finite] at *
    unfold F_spec_l02Finite at *
    split at hk
    · obtain ⟨l_list, i_list, bd_9, k⟩ := hk
      exact ⟨_, _, k⟩
    · exact hk.elim
  · intro hq; cases hq
  · have mm := @spec_l02Finite_main
    revert mm
    generalize bodyK Try.prog E_spec_l02Finite Try.f67 = Q
    intro mm args H K hk
    simp only [S_spec_l02Finite] at *
    unfold F_spec_l02Finite at *
    split at hk
    · exact mm _ _ _ H K hk
    · exact hk.elim
def p_spec_l03Long (l_list : List Nat) : Bool := (bif decide ((1 : Int) ≤ (l_list.length : Int)) then (bif decide (((l_list.length : Int) : Int) ≤ 128) then (p_spec_l02Finite l_list) else false) else false)
theorem p_spec_l03Long_eq (l_list : List Nat) : p_spec_l03Long l_list = (bif decide ((1 : Int) ≤ (l_list.length : Int)) then (bif decide (((l_list.length : Int) : Int) ≤ 128) then (p_spec_l02Finite l_list) else false) else false) := rfl
def T_spec_l03Long (list_a : Option Addr) (list_n : Nat) (list_e : Nat) (H : AHeap) (K : Bool → AHeap → Prop) : Prop := ∃ (l_list : List Nat), IsL fF H list_a list_n l_list ∧ l_list.length < 1073741824 ∧ K (p_spec_l03Long l_list) H
theorem T_spec_l03Long_i {list_a : Option Addr} {list_n : Nat} {list_e : Nat} {H : AHeap} {K : Bool → AHeap → Prop} (h : ∃ (l_list : List Nat), IsL fF H list_a list_n l_list ∧ l_list.length < 1073741824 ∧ K (p_spec_l03Long l_list) H) : T_spec_l03Long list_a list_n list_e H K := h
theorem spec_l03Long_t {l : List Nat} (h : p_spec_l03Long l = true) : 1 ≤ (l.length : Int) ∧ (l.length : Int) ≤ 128 := by
  rw [p_spec_l03Long_eq] at h
  by_cases h1 : (1 : Int) ≤ (l.length : Int)
  · rw [decide_eq_true h1, cond_true] at h
    by_cases h2 : (l.length : Int) ≤ 128
    · exact ⟨h1, h2⟩
    · rw [decide_eq_false h2] at h; cases h
  · rw [decide_eq_false h1] at h; cases h
/-! spec_l03Long: function 56 -/
def E_spec_l03Long : Env := envOf [(67, S_spec_l02Finite)]
def F_spec_l03Long : List Value → AHeap → (Value → AHeap → Prop) → Prop
  | [.slice list_a list_n list_e], H, K => T_spec_l03Long list_a list_n list_e H fun (r1 : Bool) (H' : AHeap) => K (.bool r1) H'
  | _, _, _ => False
def S_spec_l03Long : FSpec := { F := F_spec_l03Long, quiet := true, tame := false }
theorem spec_l03Long_vc (list_a : Option Addr) (list_n : Nat) (list_e : Nat) (H : AHeap) (K : Value → AHeap → Prop) : bodyK Try.prog E_spec_l03Long Try.f56 [.slice list_a list_n list_e] H K =
  (Br (decide ((1 : Int) ≤ (list_n : Int))) (Br (decide (((list_n : Int) : Int) ≤ 128)) (T_spec_l02Finite list_a list_n list_e H fun (r1 : Bool) (H1 : AHeap) => K (.bool r1) H1) (K (.bool false) H)) (K (.bool false) H)) := by kernel_rfl
theorem E_spec_l03Long_ok : ∀ g, FnOk Try.prog g (E_spec_l03Long g) := FnOk.envOf (by
  intro x hx
  simp only [List.mem_cons, List.not_mem_nil, or_false] at hx
  subst hx; exact spec_l02Finite_ok)
set_option maxHeartbeats 1000000 in
theorem spec_l03Long_main (list_a : Option Addr) (list_n : Nat) (list_e : Nat) (H : AHeap) (K : Value → AHeap → Prop) (h : T_spec_l03Long list_a list_n list_e H fun (r1 : Bool) (H' : AHeap) => K (.bool r1) H') : bodyK Try.prog E_spec_l03Long Try.f56 [.slice list_a list_n list_e] H K := by
  rw [spec_l03Long_vc]
  obtain ⟨l_list, i_list, bd_3, hk⟩ := h
  obtain rfl := i_list.eqn
  have e : (p_spec_l03Long l_list) = _ := rfl
  have e := e.trans (p_spec_l03Long_eq l_list)
  have g0 := Grow.refl H
  refine Br.intro (fun c_1 => ?_) (fun c_1 => ?_)
  · have e := e.trans (cond_t c_1)
    have c_1' := of_decide_eq_true c_1
    refine Br.intro (fun c_2 => ?_) (fun c_2 => ?_)
    · have e := e.trans (cond_t c_2)
      have c_2' := of_decide_eq_true c_2
      refine T_spec_l02Finite_i ⟨_, (i_list.grow g0), (by first | omega | (simp only [List.length_set, List.length_replicate, List.length_append, List.length_cons, List.length_nil, List.length_take, List.length_drop, marks_length]; done) | (simp only [List.length_set, List.length_replicate, List.length_append, List.length_cons, List.length_nil, List.length_take, List.length_drop, marks_length]; omega)), ?_⟩
      rw [e] at hk
      exact hk
    · have e := e.trans (cond_f c_2)
      have c_2' := of_decide_eq_false c_2
      rw [e] at hk
      exact hk
  · have e := e.trans (cond_f c_1)
    have c_1' := of_decide_eq_false c_1
    rw [e] at hk
    exact hk
theorem spec_l03Long_ok : FnOk Try.prog 56 S_spec_l03Long := by
  refine FnOk.body mix_ok E_spec_l03Long_ok Try.func56 rfl (by kernel_rfl) (by kernel_rfl) ?_ ?_ ?_ ?_ ?_
  · intro args H K K' h hk
    simp only [S_spec_l03Long] at *
    unfold F_spec_l03Long at *
    split at hk
    · obtain ⟨l_list, i_list, bd_3, k⟩ := hk
      exact ⟨l_list, i_list, bd_3, h _ _ k⟩
    · exact hk.elim
  · intro _ args H K hk
    simp only [S_spec_l03Long] at *
    unfold F_spec_l03Long at *
    split at hk
    · obtain ⟨l_list, i_list, bd_3, k⟩ := hk
      exact ⟨_, k, fun K' k' => ⟨l_list, i_list, bd_3, k'⟩⟩
    · exact hk.elim
  · intro args H K hk
    simp only [S_spec_l03Long] at *
    unfold F_spec_l03Long at *
    split at hk
    · obtain ⟨l_list, i_list, bd_3, k⟩ := hk
      exact ⟨_, _, k⟩
    · exact hk.elim
  · intro hq; cases hq
  · have mm := @spec_l03Long_main
    revert mm
    generalize bodyK Try.prog E_spec_l03Long Try.f56 = Q
    intro mm args H K hk
    simp only [S_spec_l03Long] at *
    unfold F_spec_l03Long at *
    split at hk
    · exact mm _ _ _ H K hk
    · exact hk.elim
def p_spec_l05Miss_l1 (l_a : List Nat) (l_b : List Nat) : Nat → Nat → Int → Nat
  | 0, _, _ => 0
  | μ + 1, sum, t10 => (bif decide ((t10 : Int) < (l_a.length : Int)) then (p_spec_l05Miss_l1 l_a l_b μ (fadd .f32 sum (fmul .f32 (fsub .f32 (((l_a).getD (t10 : Int).toNat 0)) (((l_b).getD (t10 : Int).toNat 0))) (fsub .f32 (((l_a).getD (t10 : Int).toNat 0)) (((l_b).getD (t10 : Int).toNat 0))))) (t10 + 1)) else fdiv .f32 sum (FloatKind.nearest .f32 (l_a.length : Int)))
theorem p_spec_l05Miss_l1_s (l_a : List Nat) (l_b : List Nat) (μ : Nat) (sum : Nat) (t10 : Int) : p_spec_l05Miss_l1 l_a l_b (μ + 1) sum t10 = (bif decide ((t10 : Int) < (l_a.length : Int)) then (p_spec_l05Miss_l1 l_a l_b μ (fadd .f32 sum (fmul .f32 (fsub .f32 (((l_a).getD (t10 : Int).toNat 0)) (((l_b).getD (t10 : Int).toNat 0))) (fsub .f32 (((l_a).getD (t10 : Int).toNat 0)) (((l_b).getD (t10 : Int).toNat 0))))) (t10 + 1)) else fdiv .f32 sum (FloatKind.nearest .f32 (l_a.length : Int))) := rfl
def p_spec_l05Miss (l_a : List Nat) (l_b : List Nat) : Nat := (p_spec_l05Miss_l1 l_a l_b (Int.toNat ((l_a.length : Int) - (0 : Int)) + 1) 0 (0 : Int))
theorem p_spec_l05Miss_eq (l_a : List Nat) (l_b : List Nat) : p_spec_l05Miss l_a l_b = (p_spec_l05Miss_l1 l_a l_b (Int.toNat ((l_a.length : Int) - (0 : Int)) + 1) 0 (0 : Int)) := rfl
def T_spec_l05Miss (a_a : Option Addr) (a_n : Nat) (a_e : Nat) (b_a : Option Addr) (b_n : Nat) (b_e : Nat) (H : AHeap) (K : Nat → AHeap → Prop) : Prop := ∃ (l_a : List Nat), ∃ (l_b : List Nat), IsL fF H a_a a_n l_a ∧ IsL fF H b_a b_n l_b ∧ l_a.length < 1073741824 ∧ l_b.length < 1073741824 ∧ l_a.length = l_b.length ∧ K (p_spec_l05Miss l_a l_b) H
theorem T_spec_l05Miss_i {a_a : Option Addr} {a_n : Nat} {a_e : Nat} {b_a : Option Addr} {b_n : Nat} {b_e : Nat} {H : AHeap} {K : Nat → AHeap → Prop} (h : ∃ (l_a : List Nat), ∃ (l_b : List Nat), IsL fF H a_a a_n l_a ∧ IsL fF H b_a b_n l_b ∧ l_a.length < 1073741824 ∧ l_b.length < 1073741824 ∧ l_a.length = l_b.length ∧ K (p_spec_l05Miss l_a l_b) H) : T_spec_l05Miss a_a a_n a_e b_a b_n b_e H K := h

/-! spec_l05Miss: function 125 -/
def E_spec_l05Miss : Env := envOf []
def F_spec_l05Miss : List Value → AHeap → (Value → AHeap → Prop) → Prop
  | [.slice a_a a_n a_e, .slice b_a b_n b_e], H, K => T_spec_l05Miss a_a a_n a_e b_a b_n b_e H fun (r1 : Nat) (H' : AHeap) => K (.float .f32 r1) H'
  | _, _, _ => False
def S_spec_l05Miss : FSpec := { F := F_spec_l05Miss, quiet := true, tame := false }
theorem spec_l05Miss_vc (a_a : Option Addr) (a_n : Nat) (a_e : Nat) (b_a : Option Addr) (b_n : Nat) (b_e : Nat) (H : AHeap) (K : Value → AHeap → Prop) : bodyK Try.prog E_spec_l05Miss Try.f125 [.slice a_a a_n a_e, .slice b_a b_n b_e] H K =
  (loopK (exK Try.prog E_spec_l05Miss (cl (cl (cr (cl (cr (cr (bodyC Try.f125)))))))) [.slice a_a a_n a_e, .slice b_a b_n b_e, undef, undef, .float .f32 0, .float .f32 0, undef, undef, .slice a_a a_n a_e, .int .i64 (a_n : Int), .int .i64 0, undef, undef, undef, undef, undef, undef, undef, undef, undef, undef, undef, undef, undef, undef, undef, undef, undef, undef, undef, undef, undef, undef] H (blockQ 0 (seqQ (exK Try.prog E_spec_l05Miss (cr (cr (cr (bodyC Try.f125))))) (retK Try.prog Try.f125 K)))) := by kernel_rfl
theorem spec_l05Miss_r1 (a_a : Option Addr) (a_e : Nat) (a_n : Nat) (b_a : Option Addr) (b_e : Nat) (b_n : Nat) (sum : Nat) (t10 : Int) (g6 g7 g11 g12 g13 g14 g15 g16 g17 g18 g19 g20 g21 g22 g23 g24 g25 g26 g27 : Value) (H : AHeap) (R : Post) : exK Try.prog E_spec_l05Miss (cl (cl (cr (cl (cr (cr (bodyC Try.f125))))))) [.slice a_a a_n a_e, .slice b_a b_n b_e, undef, undef, .float .f32 0, .float .f32 sum, g6, g7, .slice a_a a_n a_e, .int .i64 (a_n : Int), .int .i64 t10, g11, g12, g13, g14, g15, g16, g17, g18, g19, g20, g21, g22, g23, g24, g25, g26, g27, undef, undef, undef, undef, undef] H R =
  (Br (decide ((t10 : Int) < (a_n : Int))) ((0 : Int) ≤ t10 ∧ t10 < (a_n : Int) ∧ ∃ b1 f1, (a_a : Option Addr) = some ⟨b1, f1, none⟩ ∧ ∃ x1 : Nat,  rdC H b1 (f1 + (t10 : Int).toNat * 1) = some (.float .f32 x1) ∧ (0 : Int) ≤ t10 ∧ t10 < (b_n : Int) ∧ ∃ b2 f2, (b_a : Option Addr) = some ⟨b2, f2, none⟩ ∧ ∃ x2 : Nat,  rdC H b2 (f2 + (t10 : Int).toNat * 1) = some (.float .f32 x2) ∧ R .normal [.slice a_a a_n a_e, .slice b_a b_n b_e, undef, undef, .float .f32 0, .float .f32 (fadd .f32 sum (fmul .f32 (fsub .f32 x1 x2) (fsub .f32 x1 x2))), .int .i64 t10, .float .f32 (fsub .f32 x1 x2), .slice a_a a_n a_e, .int .i64 (a_n : Int), .int .i64 (IntKind.wrap .i64 (t10 + 1)), .bool (decide ((t10 : Int) < (a_n : Int))), .int .i64 t10, .slice a_a a_n a_e, .int .i64 t10, .pointer (some ⟨b1, f1 + (t10 : Int).toNat * 1, none⟩), .float .f32 x1, .slice b_a b_n b_e, .int .i64 t10, .pointer (some ⟨b2, f2 + (t10 : Int).toNat * 1, none⟩), .float .f32 x2, .float .f32 (fsub .f32 x1 x2), .float .f32 sum, .float .f32 (fsub .f32 x1 x2), .float .f32 (fsub .f32 x1 x2), .float .f32 (fmul .f32 (fsub .f32 x1 x2) (fsub .f32 x1 x2)), .float .f32 (fadd .f32 sum (fmul .f32 (fsub .f32 x1 x2) (fsub .f32 x1 x2))), .int .i64 (IntKind.wrap .i64 (t10 + 1)), undef, undef, undef, undef, undef] H) (R (.exit 0) [.slice a_a a_n a_e, .slice b_a b_n b_e, undef, undef, .float .f32 0, .float .f32 sum, g6, g7, .slice a_a a_n a_e, .int .i64 (a_n : Int), .int .i64 t10, .bool (decide ((t10 : Int) < (a_n : Int))), g12, g13, g14, g15, g16, g17, g18, g19, g20, g21, g22, g23, g24, g25, g26, g27, undef, undef, undef, undef, undef] H)) := by kernel_rfl
def spec_l05Miss_I1 (a_a : Option Addr) (a_e : Nat) (a_n : Nat) (b_a : Option Addr) (b_e : Nat) (b_n : Nat) (Inv : Nat → Nat → Int → AHeap → Prop) : Nat → List Value → AHeap → Prop := fun μ tm H => ∃ (sum : Nat), ∃ (t10 : Int), ∃ g6 g7 g11 g12 g13 g14 g15 g16 g17 g18 g19 g20 g21 g22 g23 g24 g25 g26 g27, tm = [.slice a_a a_n a_e, .slice b_a b_n b_e, undef, undef, .float .f32 0, .float .f32 sum, g6, g7, .slice a_a a_n a_e, .int .i64 (a_n : Int), .int .i64 t10, g11, g12, g13, g14, g15, g16, g17, g18, g19, g20, g21, g22, g23, g24, g25, g26, g27, undef, undef, undef, undef, undef] ∧ Inv μ sum t10 H
theorem spec_l05Miss_L1 (a_a : Option Addr) (a_e : Nat) (a_n : Nat) (b_a : Option Addr) (b_e : Nat) (b_n : Nat) {Q : Post} (Inv : Nat → Nat → Int → AHeap → Prop) (ν : Nat) (sum : Nat) (t10 : Int) (g6 g7 g11 g12 g13 g14 g15 g16 g17 g18 g19 g20 g21 g22 g23 g24 g25 g26 g27 : Value) (H : AHeap) (h0 : Inv ν sum t10 H)
    (hs : ∀ (μ : Nat) (sum : Nat) (t10 : Int) (g6 g7 g11 g12 g13 g14 g15 g16 g17 g18 g19 g20 g21 g22 g23 g24 g25 g26 g27 : Value) (H : AHeap), Inv μ sum t10 H → exK Try.prog E_spec_l05Miss (cl (cl (cr (cl (cr (cr (bodyC Try.f125))))))) [.slice a_a a_n a_e, .slice b_a b_n b_e, undef, undef, .float .f32 0, .float .f32 sum, g6, g7, .slice a_a a_n a_e, .int .i64 (a_n : Int), .int .i64 t10, g11, g12, g13, g14, g15, g16, g17, g18, g19, g20, g21, g22, g23, g24, g25, g26, g27, undef, undef, undef, undef, undef] H (loopQ (spec_l05Miss_I1 a_a a_e a_n b_a b_e b_n Inv) μ Q)) : loopK (exK Try.prog E_spec_l05Miss (cl (cl (cr (cl (cr (cr (bodyC Try.f125)))))))) [.slice a_a a_n a_e, .slice b_a b_n b_e, undef, undef, .float .f32 0, .float .f32 sum, g6, g7, .slice a_a a_n a_e, .int .i64 (a_n : Int), .int .i64 t10, g11, g12, g13, g14, g15, g16, g17, g18, g19, g20, g21, g22, g23, g24, g25, g26, g27, undef, undef, undef, undef, undef] H Q :=
  ⟨spec_l05Miss_I1 a_a a_e a_n b_a b_e b_n Inv, ν, ⟨sum, t10, g6, g7, g11, g12, g13, g14, g15, g16, g17, g18, g19, g20, g21, g22, g23, g24, g25, g26, g27, rfl, h0⟩, fun μ tm H h => by obtain ⟨sum, t10, g6, g7, g11, g12, g13, g14, g15, g16, g17, g18, g19, g20, g21, g22, g23, g24, g25, g26, g27, rfl, hI⟩ := h; exact hs μ sum t10 g6 g7 g11 g12 g13 g14 g15 g16 g17 g18 g19 g20 g21 g22 g23 g24 g25 g26 g27 H hI⟩
theorem spec_l05Miss_n1 {a_a : Option Addr} {a_e : Nat} {a_n : Nat} {b_a : Option Addr} {b_e : Nat} {b_n : Nat} {Q : Post} {Inv : Nat → Nat → Int → AHeap → Prop} {μ : Nat} (μ' : Nat) {sum : Nat} {t10 : Int} {g6 g7 g11 g12 g13 g14 g15 g16 g17 g18 g19 g20 g21 g22 g23 g24 g25 g26 g27 : Value} {H : AHeap} (hm : μ' < μ) (hI : Inv μ' sum t10 H) : loopQ (spec_l05Miss_I1 a_a a_e a_n b_a b_e b_n Inv) μ Q .normal [.slice a_a a_n a_e, .slice b_a b_n b_e, undef, undef, .float .f32 0, .float .f32 sum, g6, g7, .slice a_a a_n a_e, .int .i64 (a_n : Int), .int .i64 t10, g11, g12, g13, g14, g15, g16, g17, g18, g19, g20, g21, g22, g23, g24, g25, g26, g27, undef, undef, undef, undef, undef] H := ⟨μ', hm, sum, t10, g6, g7, g11, g12, g13, g14, g15, g16, g17, g18, g19, g20, g21, g22, g23, g24, g25, g26, g27, rfl, hI⟩
theorem spec_l05Miss_x1_0 (a_a : Option Addr) (a_e : Nat) (a_n : Nat) (b_a : Option Addr) (b_e : Nat) (b_n : Nat) (sum : Nat) (t10 : Int) (g6 g7 g11 g12 g13 g14 g15 g16 g17 g18 g19 g20 g21 g22 g23 g24 g25 g26 g27 : Value) (H : AHeap) (K : Value → AHeap → Prop)  {I : Nat → List Value → AHeap → Prop} {μ : Nat} : loopQ I μ (blockQ 0 (seqQ (exK Try.prog E_spec_l05Miss (cr (cr (cr (bodyC Try.f125))))) (retK Try.prog Try.f125 K))) (.exit 0) [.slice a_a a_n a_e, .slice b_a b_n b_e, undef, undef, .float .f32 0, .float .f32 sum, g6, g7, .slice a_a a_n a_e, .int .i64 (a_n : Int), .int .i64 t10, g11, g12, g13, g14, g15, g16, g17, g18, g19, g20, g21, g22, g23, g24, g25, g26, g27, undef, undef, undef, undef, undef] H =
  (K (.float .f32 (fdiv .f32 sum (FloatKind.nearest .f32 (a_n : Int)))) H) := by kernel_rfl
theorem E_spec_l05Miss_ok : ∀ g, FnOk Try.prog g (E_spec_l05Miss g) := FnOk.envOf (by
  intro x hx; cases hx)
set_option maxHeartbeats 1000000 in
theorem spec_l05Miss_main (a_a : Option Addr) (a_n : Nat) (a_e : Nat) (b_a : Option Addr) (b_n : Nat) (b_e : Nat) (H : AHeap) (K : Value → AHeap → Prop) (h : T_spec_l05Miss a_a a_n a_e b_a b_n b_e H fun (r1 : Nat) (H' : AHeap) => K (.float .f32 r1) H') : bodyK Try.prog E_spec_l05Miss Try.f125 [.slice a_a a_n a_e, .slice b_a b_n b_e] H K := by
  rw [spec_l05Miss_vc]
  obtain ⟨l_a, l_b, i_a, i_b, bd_11, bd_12, pr0, hk⟩ := h
  obtain rfl := i_a.eqn
  obtain rfl := i_b.eqn
  have e : (p_spec_l05Miss l_a l_b) = _ := rfl
  have e := e.trans (p_spec_l05Miss_eq l_a l_b)
  have g0 := Grow.refl H
  refine spec_l05Miss_L1 _ _ _ _ _ _ (fun (μ : Nat) (sum : Nat) (t10 : Int) (H_1 : AHeap) => H = H_1 ∧ (0 : Int) ≤ t10 ∧ t10 ≤ (l_a.length : Int) ∧ (l_a.length : Int) - t10 ≤ (μ : Int) ∧ p_spec_l05Miss l_a l_b = p_spec_l05Miss_l1 l_a l_b (μ + 1) sum t10) (Int.toNat ((l_a.length : Int) - (0 : Int))) _ _ _ _ _ _ _ _ _ _ _ _ _ _ _ _ _ _ _ _ _ H ?_ ?_
  · exact ⟨rfl, (by first | omega | (simp; done) | (simp; omega)), (by first | omega | (simp; done) | (simp; omega)), (by omega), e⟩
  · intro μ sum t10 g6 g7 g11 g12 g13 g14 g15 g16 g17 g18 g19 g20 g21 g22 g23 g24 g25 g26 g27 H_1 hI
    obtain ⟨rfl, v_1, v_2, hμ, e⟩ := hI
    rw [spec_l05Miss_r1]
    have e := e.trans (p_spec_l05Miss_l1_s l_a l_b μ sum t10)
    have l_3 := g0.1
    refine Br.intro (fun c_4 => ?_) (fun c_4 => ?_)
    · have e := e.trans (cond_t c_4)
      have c_4' := of_decide_eq_true c_4
      obtain ⟨b_5, f_6, q_7⟩ := ((i_a.grow g0)).pos (by first | omega | (simp only [List.length_set, List.length_replicate, List.length_append, List.length_cons, List.length_nil, List.length_take, List.length_drop, marks_length]; done) | (simp only [List.length_set, List.length_replicate, List.length_append, List.length_cons, List.length_nil, List.length_take, List.length_drop, marks_length]; omega))
      refine ⟨by omega, by omega, b_5, f_6, q_7, ?_⟩
      refine ⟨((l_a).getD (t10 : Int).toNat 0), (i_a).rd g0 q_7 (by omega) _, ?_⟩
      obtain ⟨b_8, f_9, q_10⟩ := ((i_b.grow g0)).pos (by first | omega | (simp only [List.length_set, List.length_replicate, List.length_append, List.length_cons, List.length_nil, List.length_take, List.length_drop, marks_length]; done) | (simp only [List.length_set, List.length_replicate, List.length_append, List.length_cons, List.length_nil, List.length_take, List.length_drop, marks_length]; omega))
      refine ⟨by omega, by omega, b_8, f_9, q_10, ?_⟩
      refine ⟨((l_b).getD (t10 : Int).toNat 0), (i_b).rd g0 q_10 (by omega) _, ?_⟩
      rw [show IntKind.wrap .i64 (t10 + 1) = (t10 + 1) from wrap64 (by omega) (by omega)]
      refine spec_l05Miss_n1 (μ - 1) (by first | omega) ⟨rfl, (by first | omega | (simp only [List.length_append, List.length_cons, List.length_nil, List.length_set]; done) | (simp only [List.length_append, List.length_cons, List.length_nil, List.length_set]; omega)), (by first | omega | (simp only [List.length_append, List.length_cons, List.length_nil, List.length_set]; done) | (simp only [List.length_append, List.length_cons, List.length_nil, List.length_set]; omega)), (by first | omega), (by rw [show μ - 1 + 1 = μ from by first | omega]; exact e)⟩
    · have e := e.trans (cond_f c_4)
      have c_4' := of_decide_eq_false c_4
      rw [spec_l05Miss_x1_0]
      rw [e] at hk
      exact hk
theorem spec_l05Miss_ok : FnOk Try.prog 125 S_spec_l05Miss := by
  refine FnOk.body mix_ok E_spec_l05Miss_ok Try.func125 rfl (by kernel_rfl) (by kernel_rfl) ?_ ?_ ?_ ?_ ?_
  · intro args H K K' h hk
    simp only [S_spec_l05Miss] at *
    unfold F_spec_l05Miss at *
    split at hk
    · obtain ⟨l_a, l_b, i_a, i_b, bd_11, bd_12, pr0, k⟩ := hk
      exact ⟨l_a, l_b, i_a, i_b, bd_11, bd_12, pr0, h _ _ k⟩
    · exact hk.elim
  · intro _ args H K hk
    simp only [S_spec_l05Miss] at *
    unfold F_spec_l05Miss at *
    split at hk
    · obtain ⟨l_a, l_b, i_a, i_b, bd_11, bd_12, pr0, k⟩ := hk
      exact ⟨_, k, fun K' k' => ⟨l_a, l_b, i_a, i_b, bd_11, bd_12, pr0, k'⟩⟩
    · exact hk.elim
  · intro args H K hk
    simp only [S_spec_l05Miss] at *
    unfold F_spec_l05Miss at *
    split at hk
    · obtain ⟨l_a, l_b, i_a, i_b, bd_11, bd_12, pr0, k⟩ := hk
      exact ⟨_, _, k⟩
    · exact hk.elim
  · intro hq; cases hq
  · have mm := @spec_l05Miss_main
    revert mm
    generalize bodyK Try.prog E_spec_l05Miss Try.f125 = Q
    intro mm args H K hk
    simp only [S_spec_l05Miss] at *
    unfold F_spec_l05Miss at *
    split at hk
    · exact mm _ _ _ _ _ _ H K hk
    · exact hk.elim
def p_spec_l02Number (x : Nat) : Nat × Bool := (bif !(p_spec_l01Finite x) then (0, false) else (x, true))
theorem p_spec_l02Number_eq (x : Nat) : p_spec_l02Number x = (bif !(p_spec_l01Finite x) then (0, false) else (x, true)) := rfl
def T_spec_l02Number (x : Nat) (H : AHeap) (K : Nat → Bool → AHeap → Prop) : Prop := K (p_spec_l02Number x).1 (p_spec_l02Number x).2 H

theorem T_spec_l02Number_i {x : Nat} {H : AHeap} {K : Nat → Bool → AHeap → Prop} (h : K (p_spec_l02Number x).1 (p_spec_l02Number x).2 H) : T_spec_l02Number x H K := h
/-! spec_l02Number: function 60 -/
def E_spec_l02Number : Env := envOf [(57, S_spec_l01Finite)]
def F_spec_l02Number : List Value → AHeap → (Value → AHeap → Prop) → Prop
  | [.float .f32 x], H, K => T_spec_l02Number x H fun (r1 : Nat) (r2 : Bool) (H' : AHeap) => K (.tuple #[.float .f32 r1, .bool r2]) H'
  | _, _, _ => False
def S_spec_l02Number : FSpec := { F := F_spec_l02Number, quiet := true, tame := false }
theorem spec_l02Number_vc (x : Nat) (H : AHeap) (K : Value → AHeap → Prop) : bodyK Try.prog E_spec_l02Number Try.f60 [.float .f32 x] H K =
  (T_spec_l01Finite x H fun (r1 : Bool) (H1 : AHeap) => Br (!r1) (K (.tuple #[.float .f32 0, .bool false]) H1) (K (.tuple #[.float .f32 x, .bool true]) H1)) := by kernel_rfl
theorem E_spec_l02Number_ok : ∀ g, FnOk Try.prog g (E_spec_l02Number g) := FnOk.envOf (by
  intro x hx
  simp only [List.mem_cons, List.not_mem_nil, or_false] at hx
  subst hx; exact spec_l01Finite_ok)
set_option maxHeartbeats 1000000 in
theorem spec_l02Number_main (x : Nat) (H : AHeap) (K : Value → AHeap → Prop) (h : T_spec_l02Number x H fun (r1 : Nat) (r2 : Bool) (H' : AHeap) => K (.tuple #[.float .f32 r1, .bool r2]) H') : bodyK Try.prog E_spec_l02Number Try.f60 [.float .f32 x] H K := by
  rw [spec_l02Number_vc]
  simp only [T_spec_l01Finite]
  unfold T_spec_l02Number p_spec_l02Number at h
  repeat' (first | exact h | (exfalso; simp_all; done) | (refine ⟨by decide, ?_⟩) | (refine Br.intro (fun hb => ?_) (fun hb => ?_) <;> (try simp only [hb, cond_true, cond_false, Bool.not_true, Bool.not_false] at h)))
theorem spec_l02Number_ok : FnOk Try.prog 60 S_spec_l02Number := by
  refine FnOk.body mix_ok E_spec_l02Number_ok Try.func60 rfl (by kernel_rfl) (by kernel_rfl) ?_ ?_ ?_ ?_ ?_
  · intro args H K K' h hk
    simp only [S_spec_l02Number] at *
    unfold F_spec_l02Number at *
    split at hk
    · have k := hk
      exact h _ _ k
    · exact hk.elim
  · intro _ args H K hk
    simp only [S_spec_l02Number] at *
    unfold F_spec_l02Number at *
    split at hk
    · have k := hk
      exact ⟨_, k, fun K' k' => k'⟩
    · exact hk.elim
  · intro args H K hk
    simp only [S_spec_l02Number] at *
    unfold F_spec_l02Number at *
    split at hk
    · have k := hk
      exact ⟨_, _, k⟩
    · exact hk.elim
  · intro hq; cases hq
  · have mm := @spec_l02Number_main
    revert mm
    generalize bodyK Try.prog E_spec_l02Number Try.f60 = Q
    intro mm args H K hk
    simp only [S_spec_l02Number] at *
    unfold F_spec_l02Number at *
    split at hk
    · exact mm _ H K hk
    · exact hk.elim
def p_spec_MissOfLists (l_a : List Nat) (l_b : List Nat) : Nat × Bool := ((bif !(p_spec_l03Long l_a) then (0, false) else (bif !(p_spec_l03Long l_b) then (0, false) else (bif ((l_a.length : Int) : Int) != (l_b.length : Int) then (0, false) else ((p_spec_l02Number (p_spec_l05Miss l_a l_b)).1, (p_spec_l02Number (p_spec_l05Miss l_a l_b)).2)))))
theorem p_spec_MissOfLists_eq (l_a : List Nat) (l_b : List Nat) : p_spec_MissOfLists l_a l_b = ((bif !(p_spec_l03Long l_a) then (0, false) else (bif !(p_spec_l03Long l_b) then (0, false) else (bif ((l_a.length : Int) : Int) != (l_b.length : Int) then (0, false) else ((p_spec_l02Number (p_spec_l05Miss l_a l_b)).1, (p_spec_l02Number (p_spec_l05Miss l_a l_b)).2))))) := rfl
def T_spec_MissOfLists (a_a : Option Addr) (a_n : Nat) (a_e : Nat) (b_a : Option Addr) (b_n : Nat) (b_e : Nat) (H : AHeap) (K : Nat → Bool → AHeap → Prop) : Prop := ∃ (l_a : List Nat), ∃ (l_b : List Nat), IsL fF H a_a a_n l_a ∧ IsL fF H b_a b_n l_b ∧ l_a.length < 1073741824 ∧ l_b.length < 1073741824 ∧ K ((p_spec_MissOfLists l_a l_b).1) ((p_spec_MissOfLists l_a l_b).2) H
theorem T_spec_MissOfLists_i {a_a : Option Addr} {a_n : Nat} {a_e : Nat} {b_a : Option Addr} {b_n : Nat} {b_e : Nat} {H : AHeap} {K : Nat → Bool → AHeap → Prop} (h : ∃ (l_a : List Nat), ∃ (l_b : List Nat), IsL fF H a_a a_n l_a ∧ IsL fF H b_a b_n l_b ∧ l_a.length < 1073741824 ∧ l_b.length < 1073741824 ∧ K ((p_spec_MissOfLists l_a l_b).1) ((p_spec_MissOfLists l_a l_b).2) H) : T_spec_MissOfLists a_a a_n a_e b_a b_n b_e H K := h

/-! spec_MissOfLists: function 84 -/
def E_spec_MissOfLists : Env := envOf [(56, S_spec_l03Long), (125, S_spec_l05Miss), (60, S_spec_l02Number)]
def F_spec_MissOfLists : List Value → AHeap → (Value → AHeap → Prop) → Prop
  | [.slice a_a a_n a_e, .slice b_a b_n b_e], H, K => T_spec_MissOfLists a_a a_n a_e b_a b_n b_e H fun (r1 : Nat) (r2 : Bool) (H' : AHeap) => K (.tuple #[.float .f32 r1, .bool r2]) H'
  | _, _, _ => False
def S_spec_MissOfLists : FSpec := { F := F_spec_MissOfLists, quiet := true, tame := false }
theorem spec_MissOfLists_vc (a_a : Option Addr) (a_n : Nat) (a_e : Nat) (b_a : Option Addr) (b_n : Nat) (b_e : Nat) (H : AHeap) (K : Value → AHeap → Prop) : bodyK Try.prog E_spec_MissOfLists Try.f84 [.slice a_a a_n a_e, .slice b_a b_n b_e] H K =
  (T_spec_l03Long a_a a_n a_e H fun (r1 : Bool) (H1 : AHeap) => Br (!r1) (K (.tuple #[.float .f32 0, .bool false]) H1) (T_spec_l03Long b_a b_n b_e H1 fun (r2 : Bool) (H2 : AHeap) => Br (!r2) (K (.tuple #[.float .f32 0, .bool false]) H2) (Br (((a_n : Int) : Int) != (b_n : Int)) (K (.tuple #[.float .f32 0, .bool false]) H2) (T_spec_l05Miss a_a a_n a_e b_a b_n b_e H2 fun (r3 : Nat) (H3 : AHeap) => T_spec_l02Number r3 H3 fun (r4 : Nat) (r5 : Bool) (H4 : AHeap) => K (.tuple #[.float .f32 r4, .bool r5]) H4)))) := by kernel_rfl
theorem E_spec_MissOfLists_ok : ∀ g, FnOk Try.prog g (E_spec_MissOfLists g) := FnOk.envOf (by
  intro x hx
  simp only [List.mem_cons, List.not_mem_nil, or_false] at hx
  rcases hx with rfl | rfl | rfl
  · exact spec_l03Long_ok
  · exact spec_l05Miss_ok
  · exact spec_l02Number_ok)
set_option maxHeartbeats 1000000 in
theorem spec_MissOfLists_main (a_a : Option Addr) (a_n : Nat) (a_e : Nat) (b_a : Option Addr) (b_n : Nat) (b_e : Nat) (H : AHeap) (K : Value → AHeap → Prop) (h : T_spec_MissOfLists a_a a_n a_e b_a b_n b_e H fun (r1 : Nat) (r2 : Bool) (H' : AHeap) => K (.tuple #[.float .f32 r1, .bool r2]) H') : bodyK Try.prog E_spec_MissOfLists Try.f84 [.slice a_a a_n a_e, .slice b_a b_n b_e] H K := by
  rw [spec_MissOfLists_vc]
  obtain ⟨l_a, l_b, i_a, i_b, bd_4, bd_5, hk⟩ := h
  obtain rfl := i_a.eqn
  obtain rfl := i_b.eqn
  have e : (p_spec_MissOfLists l_a l_b) = _ := rfl
  have e := e.trans (p_spec_MissOfLists_eq l_a l_b)
  have g0 := Grow.refl H
  refine T_spec_l03Long_i ⟨_, (i_a.grow g0), (by first | omega | (simp only [List.length_set, List.length_replicate, List.length_append, List.length_cons, List.length_nil, List.length_take, List.length_drop, marks_length]; done) | (simp only [List.length_set, List.length_replicate, List.length_append, List.length_cons, List.length_nil, List.length_take, List.length_drop, marks_length]; omega)), ?_⟩
  refine Br.intro (fun c_1 => ?_) (fun c_1 => ?_)
  · have e := e.trans (cond_t c_1)
    have c_1n := nf_of_t c_1
    rw [e] at hk
    exact hk
  · have e := e.trans (cond_f c_1)
    have c_1n := nt_of_f c_1
    have c_1n' := spec_l03Long_t c_1n
    refine T_spec_l03Long_i ⟨_, (i_b.grow g0), (by first | omega | (simp only [List.length_set, List.length_replicate, List.length_append, List.length_cons, List.length_nil, List.length_take, List.length_drop, marks_length]; done) | (simp only [List.length_set, List.length_replicate, List.length_append, List.length_cons, List.length_nil, List.length_take, List.length_drop, marks_length]; omega)), ?_⟩
    refine Br.intro (fun c_2 => ?_) (fun c_2 => ?_)
    · have e := e.trans (cond_t c_2)
      have c_2n := nf_of_t c_2
      rw [e] at hk
      exact hk
    · have e := e.trans (cond_f c_2)
      have c_2n := nt_of_f c_2
      have c_2n' := spec_l03Long_t c_2n
      refine Br.intro (fun c_3 => ?_) (fun c_3 => ?_)
      · have e := e.trans (cond_t c_3)
        have c_3' := ine_t c_3
        rw [e] at hk
        exact hk
      · have e := e.trans (cond_f c_3)
        have c_3' := ine_f c_3
        refine T_spec_l05Miss_i ⟨_, _, (i_a.grow g0), (i_b.grow g0), (by first | omega | (simp only [List.length_set, List.length_replicate, List.length_append, List.length_cons, List.length_nil, List.length_take, List.length_drop, marks_length]; done) | (simp only [List.length_set, List.length_replicate, List.length_append, List.length_cons, List.length_nil, List.length_take, List.length_drop, marks_length]; omega)), (by first | omega | (simp only [List.length_set, List.length_replicate, List.length_append, List.length_cons, List.length_nil, List.length_take, List.length_drop, marks_length]; done) | (simp only [List.length_set, List.length_replicate, List.length_append, List.length_cons, List.length_nil, List.length_take, List.length_drop, marks_length]; omega)), (by first | assumption | omega | (simp; omega)), ?_⟩
        refine T_spec_l02Number_i ?_
        rw [e] at hk
        exact hk
theorem spec_MissOfLists_ok : FnOk Try.prog 84 S_spec_MissOfLists := by
  refine FnOk.body mix_ok E_spec_MissOfLists_ok Try.func84 rfl (by kernel_rfl) (by kernel_rfl) ?_ ?_ ?_ ?_ ?_
  · intro args H K K' h hk
    simp only [S_spec_MissOfLists] at *
    unfold F_spec_MissOfLists at *
    split at hk
    · obtain ⟨l_a, l_b, i_a, i_b, bd_4, bd_5, k⟩ := hk
      exact ⟨l_a, l_b, i_a, i_b, bd_4, bd_5, h _ _ k⟩
    · exact hk.elim
  · intro _ args H K hk
    simp only [S_spec_MissOfLists] at *
    unfold F_spec_MissOfLists at *
    split at hk
    · obtain ⟨l_a, l_b, i_a, i_b, bd_4, bd_5, k⟩ := hk
      exact ⟨_, k, fun K' k' => ⟨l_a, l_b, i_a, i_b, bd_4, bd_5, k'⟩⟩
    · exact hk.elim
  · intro args H K hk
    simp only [S_spec_MissOfLists] at *
    unfold F_spec_MissOfLists at *
    split at hk
    · obtain ⟨l_a, l_b, i_a, i_b, bd_4, bd_5, k⟩ := hk
      exact ⟨_, _, k⟩
    · exact hk.elim
  · intro hq; cases hq
  · have mm := @spec_MissOfLists_main
    revert mm
    generalize bodyK Try.prog E_spec_MissOfLists Try.f84 = Q
    intro mm args H K hk
    simp only [S_spec_MissOfLists] at *
    unfold F_spec_MissOfLists at *
    split at hk
    · exact mm _ _ _ _ _ _ H K hk
    · exact hk.elim
def p_spec_l03Energy_l1 (l_list : List Nat) : Nat → Nat → Int → Nat
  | 0, _, _ => 0
  | μ + 1, sum, t7 => (bif decide ((t7 : Int) < (l_list.length : Int)) then (p_spec_l03Energy_l1 l_list μ (fadd .f32 sum (fmul .f32 (((l_list).getD (t7 : Int).toNat 0)) (((l_list).getD (t7 : Int).toNat 0)))) (t7 + 1)) else sum)
theorem p_spec_l03Energy_l1_s (l_list : List Nat) (μ : Nat) (sum : Nat) (t7 : Int) : p_spec_l03Energy_l1 l_list (μ + 1) sum t7 = (bif decide ((t7 : Int) < (l_list.length : Int)) then (p_spec_l03Energy_l1 l_list μ (fadd .f32 sum (fmul .f32 (((l_list).getD (t7 : Int).toNat 0)) (((l_list).getD (t7 : Int).toNat 0)))) (t7 + 1)) else sum) := rfl
def p_spec_l03Energy (l_list : List Nat) : Nat := (p_spec_l03Energy_l1 l_list (Int.toNat ((l_list.length : Int) - (0 : Int)) + 1) 0 (0 : Int))
theorem p_spec_l03Energy_eq (l_list : List Nat) : p_spec_l03Energy l_list = (p_spec_l03Energy_l1 l_list (Int.toNat ((l_list.length : Int) - (0 : Int)) + 1) 0 (0 : Int)) := rfl
def T_spec_l03Energy (list_a : Option Addr) (list_n : Nat) (list_e : Nat) (H : AHeap) (K : Nat → AHeap → Prop) : Prop := ∃ (l_list : List Nat), IsL fF H list_a list_n l_list ∧ l_list.length < 1073741824 ∧ K (p_spec_l03Energy l_list) H
theorem T_spec_l03Energy_i {list_a : Option Addr} {list_n : Nat} {list_e : Nat} {H : AHeap} {K : Nat → AHeap → Prop} (h : ∃ (l_list : List Nat), IsL fF H list_a list_n l_list ∧ l_list.length < 1073741824 ∧ K (p_spec_l03Energy l_list) H) : T_spec_l03Energy list_a list_n list_e H K := h

/-! spec_l03Energy: function 76 -/
def E_spec_l03Energy : Env := envOf []
def F_spec_l03Energy : List Value → AHeap → (Value → AHeap → Prop) → Prop
  | [.slice list_a list_n list_e], H, K => T_spec_l03Energy list_a list_n list_e H fun (r1 : Nat) (H' : AHeap) => K (.float .f32 r1) H'
  | _, _, _ => False
def S_spec_l03Energy : FSpec := { F := F_spec_l03Energy, quiet := true, tame := false }
theorem spec_l03Energy_vc (list_a : Option Addr) (list_n : Nat) (list_e : Nat) (H : AHeap) (K : Value → AHeap → Prop) : bodyK Try.prog E_spec_l03Energy Try.f76 [.slice list_a list_n list_e] H K =
  (loopK (exK Try.prog E_spec_l03Energy (cl (cl (cr (cl (cr (cr (bodyC Try.f76)))))))) [.slice list_a list_n list_e, undef, .float .f32 0, .float .f32 0, undef, .slice list_a list_n list_e, .int .i64 (list_n : Int), .int .i64 0, undef, undef, undef, undef, undef, undef, undef, undef, undef, undef, undef, undef, undef, undef, undef] H (blockQ 0 (seqQ (exK Try.prog E_spec_l03Energy (cr (cr (cr (bodyC Try.f76))))) (retK Try.prog Try.f76 K)))) := by kernel_rfl
theorem spec_l03Energy_r1 (list_a : Option Addr) (list_e : Nat) (list_n : Nat) (sum : Nat) (t7 : Int) (g4 g8 g9 g10 g11 g12 g13 g14 g15 g16 g17 g18 g19 g20 g21 : Value) (H : AHeap) (R : Post) : exK Try.prog E_spec_l03Energy (cl (cl (cr (cl (cr (cr (bodyC Try.f76))))))) [.slice list_a list_n list_e, undef, .float .f32 0, .float .f32 sum, g4, .slice list_a list_n list_e, .int .i64 (list_n : Int), .int .i64 t7, g8, g9, g10, g11, g12, g13, g14, g15, g16, g17, g18, g19, g20, g21, undef] H R =
  (Br (decide ((t7 : Int) < (list_n : Int))) ((0 : Int) ≤ t7 ∧ t7 < (list_n : Int) ∧ ∃ b1 f1, (list_a : Option Addr) = some ⟨b1, f1, none⟩ ∧ ∃ x1 : Nat,  rdC H b1 (f1 + (t7 : Int).toNat * 1) = some (.float .f32 x1) ∧ (0 : Int) ≤ t7 ∧ t7 < (list_n : Int) ∧ ∃ b2 f2, (list_a : Option Addr) = some ⟨b2, f2, none⟩ ∧ ∃ x2 : Nat,  rdC H b2 (f2 + (t7 : Int).toNat * 1) = some (.float .f32 x2) ∧ R .normal [.slice list_a list_n list_e, undef, .float .f32 0, .float .f32 (fadd .f32 sum (fmul .f32 x1 x2)), .int .i64 t7, .slice list_a list_n list_e, .int .i64 (list_n : Int), .int .i64 (IntKind.wrap .i64 (t7 + 1)), .bool (decide ((t7 : Int) < (list_n : Int))), .int .i64 t7, .float .f32 sum, .slice list_a list_n list_e, .int .i64 t7, .pointer (some ⟨b1, f1 + (t7 : Int).toNat * 1, none⟩), .float .f32 x1, .slice list_a list_n list_e, .int .i64 t7, .pointer (some ⟨b2, f2 + (t7 : Int).toNat * 1, none⟩), .float .f32 x2, .float .f32 (fmul .f32 x1 x2), .float .f32 (fadd .f32 sum (fmul .f32 x1 x2)), .int .i64 (IntKind.wrap .i64 (t7 + 1)), undef] H) (R (.exit 0) [.slice list_a list_n list_e, undef, .float .f32 0, .float .f32 sum, g4, .slice list_a list_n list_e, .int .i64 (list_n : Int), .int .i64 t7, .bool (decide ((t7 : Int) < (list_n : Int))), g9, g10, g11, g12, g13, g14, g15, g16, g17, g18, g19, g20, g21, undef] H)) := by kernel_rfl
def spec_l03Energy_I1 (list_a : Option Addr) (list_e : Nat) (list_n : Nat) (Inv : Nat → Nat → Int → AHeap → Prop) : Nat → List Value → AHeap → Prop := fun μ tm H => ∃ (sum : Nat), ∃ (t7 : Int), ∃ g4 g8 g9 g10 g11 g12 g13 g14 g15 g16 g17 g18 g19 g20 g21, tm = [.slice list_a list_n list_e, undef, .float .f32 0, .float .f32 sum, g4, .slice list_a list_n list_e, .int .i64 (list_n : Int), .int .i64 t7, g8, g9, g10, g11, g12, g13, g14, g15, g16, g17, g18, g19, g20, g21, undef] ∧ Inv μ sum t7 H
theorem spec_l03Energy_L1 (list_a : Option Addr) (list_e : Nat) (list_n : Nat) {Q : Post} (Inv : Nat → Nat → Int → AHeap → Prop) (ν : Nat) (sum : Nat) (t7 : Int) (g4 g8 g9 g10 g11 g12 g13 g14 g15 g16 g17 g18 g19 g20 g21 : Value) (H : AHeap) (h0 : Inv ν sum t7 H)
    (hs : ∀ (μ : Nat) (sum : Nat) (t7 : Int) (g4 g8 g9 g10 g11 g12 g13 g14 g15 g16 g17 g18 g19 g20 g21 : Value) (H : AHeap), Inv μ sum t7 H → exK Try.prog E_spec_l03Energy (cl (cl (cr (cl (cr (cr (bodyC Try.f76))))))) [.slice list_a list_n list_e, undef, .float .f32 0, .float .f32 sum, g4, .slice list_a list_n list_e, .int .i64 (list_n : Int), .int .i64 t7, g8, g9, g10, g11, g12, g13, g14, g15, g16, g17, g18, g19, g20, g21, undef] H (loopQ (spec_l03Energy_I1 list_a list_e list_n Inv) μ Q)) : loopK (exK Try.prog E_spec_l03Energy (cl (cl (cr (cl (cr (cr (bodyC Try.f76)))))))) [.slice list_a list_n list_e, undef, .float .f32 0, .float .f32 sum, g4, .slice list_a list_n list_e, .int .i64 (list_n : Int), .int .i64 t7, g8, g9, g10, g11, g12, g13, g14, g15, g16, g17, g18, g19, g20, g21, undef] H Q :=
  ⟨spec_l03Energy_I1 list_a list_e list_n Inv, ν, ⟨sum, t7, g4, g8, g9, g10, g11, g12, g13, g14, g15, g16, g17, g18, g19, g20, g21, rfl, h0⟩, fun μ tm H h => by obtain ⟨sum, t7, g4, g8, g9, g10, g11, g12, g13, g14, g15, g16, g17, g18, g19, g20, g21, rfl, hI⟩ := h; exact hs μ sum t7 g4 g8 g9 g10 g11 g12 g13 g14 g15 g16 g17 g18 g19 g20 g21 H hI⟩
theorem spec_l03Energy_n1 {list_a : Option Addr} {list_e : Nat} {list_n : Nat} {Q : Post} {Inv : Nat → Nat → Int → AHeap → Prop} {μ : Nat} (μ' : Nat) {sum : Nat} {t7 : Int} {g4 g8 g9 g10 g11 g12 g13 g14 g15 g16 g17 g18 g19 g20 g21 : Value} {H : AHeap} (hm : μ' < μ) (hI : Inv μ' sum t7 H) : loopQ (spec_l03Energy_I1 list_a list_e list_n Inv) μ Q .normal [.slice list_a list_n list_e, undef, .float .f32 0, .float .f32 sum, g4, .slice list_a list_n list_e, .int .i64 (list_n : Int), .int .i64 t7, g8, g9, g10, g11, g12, g13, g14, g15, g16, g17, g18, g19, g20, g21, undef] H := ⟨μ', hm, sum, t7, g4, g8, g9, g10, g11, g12, g13, g14, g15, g16, g17, g18, g19, g20, g21, rfl, hI⟩
theorem spec_l03Energy_x1_0 (list_a : Option Addr) (list_e : Nat) (list_n : Nat) (sum : Nat) (t7 : Int) (g4 g8 g9 g10 g11 g12 g13 g14 g15 g16 g17 g18 g19 g20 g21 : Value) (H : AHeap) (K : Value → AHeap → Prop)  {I : Nat → List Value → AHeap → Prop} {μ : Nat} : loopQ I μ (blockQ 0 (seqQ (exK Try.prog E_spec_l03Energy (cr (cr (cr (bodyC Try.f76))))) (retK Try.prog Try.f76 K))) (.exit 0) [.slice list_a list_n list_e, undef, .float .f32 0, .float .f32 sum, g4, .slice list_a list_n list_e, .int .i64 (list_n : Int), .int .i64 t7, g8, g9, g10, g11, g12, g13, g14, g15, g16, g17, g18, g19, g20, g21, undef] H =
  (K (.float .f32 sum) H) := by kernel_rfl
theorem E_spec_l03Energy_ok : ∀ g, FnOk Try.prog g (E_spec_l03Energy g) := FnOk.envOf (by
  intro x hx; cases hx)
set_option maxHeartbeats 1000000 in
theorem spec_l03Energy_main (list_a : Option Addr) (list_n : Nat) (list_e : Nat) (H : AHeap) (K : Value → AHeap → Prop) (h : T_spec_l03Energy list_a list_n list_e H fun (r1 : Nat) (H' : AHeap) => K (.float .f32 r1) H') : bodyK Try.prog E_spec_l03Energy Try.f76 [.slice list_a list_n list_e] H K := by
  rw [spec_l03Energy_vc]
  obtain ⟨l_list, i_list, bd_11, hk⟩ := h
  obtain rfl := i_list.eqn
  have e : (p_spec_l03Energy l_list) = _ := rfl
  have e := e.trans (p_spec_l03Energy_eq l_list)
  have g0 := Grow.refl H
  refine spec_l03Energy_L1 _ _ _ (fun (μ : Nat) (sum : Nat) (t7 : Int) (H_1 : AHeap) => H = H_1 ∧ (0 : Int) ≤ t7 ∧ t7 ≤ (l_list.length : Int) ∧ (l_list.length : Int) - t7 ≤ (μ : Int) ∧ p_spec_l03Energy l_list = p_spec_l03Energy_l1 l_list (μ + 1) sum t7) (Int.toNat ((l_list.length : Int) - (0 : Int))) _ _ _ _ _ _ _ _ _ _ _ _ _ _ _ _ _ H ?_ ?_
  · exact ⟨rfl, (by first | omega | (simp; done) | (simp; omega)), (by first | omega | (simp; done) | (simp; omega)), (by omega), e⟩
  · intro μ sum t7 g4 g8 g9 g10 g11 g12 g13 g14 g15 g16 g17 g18 g19 g20 g21 H_1 hI
    obtain ⟨rfl, v_1, v_2, hμ, e⟩ := hI
    rw [spec_l03Energy_r1]
    have e := e.trans (p_spec_l03Energy_l1_s l_list μ sum t7)
    have l_3 := g0.1
    refine Br.intro (fun c_4 => ?_) (fun c_4 => ?_)
    · have e := e.trans (cond_t c_4)
      have c_4' := of_decide_eq_true c_4
      obtain ⟨b_5, f_6, q_7⟩ := ((i_list.grow g0)).pos (by first | omega | (simp only [List.length_set, List.length_replicate, List.length_append, List.length_cons, List.length_nil, List.length_take, List.length_drop, marks_length]; done) | (simp only [List.length_set, List.length_replicate, List.length_append, List.length_cons, List.length_nil, List.length_take, List.length_drop, marks_length]; omega))
      refine ⟨by omega, by omega, b_5, f_6, q_7, ?_⟩
      refine ⟨((l_list).getD (t7 : Int).toNat 0), (i_list).rd g0 q_7 (by omega) _, ?_⟩
      obtain ⟨b_8, f_9, q_10⟩ := ((i_list.grow g0)).pos (by first | omega | (simp only [List.length_set, List.length_replicate, List.length_append, List.length_cons, List.length_nil, List.length_take, List.length_drop, marks_length]; done) | (simp only [List.length_set, List.length_replicate, List.length_append, List.length_cons, List.length_nil, List.length_take, List.length_drop, marks_length]; omega))
      refine ⟨by omega, by omega, b_8, f_9, q_10, ?_⟩
      refine ⟨((l_list).getD (t7 : Int).toNat 0), (i_list).rd g0 q_10 (by omega) _, ?_⟩
      rw [show IntKind.wrap .i64 (t7 + 1) = (t7 + 1) from wrap64 (by omega) (by omega)]
      refine spec_l03Energy_n1 (μ - 1) (by first | omega) ⟨rfl, (by first | omega | (simp only [List.length_append, List.length_cons, List.length_nil, List.length_set]; done) | (simp only [List.length_append, List.length_cons, List.length_nil, List.length_set]; omega)), (by first | omega | (simp only [List.length_append, List.length_cons, List.length_nil, List.length_set]; done) | (simp only [List.length_append, List.length_cons, List.length_nil, List.length_set]; omega)), (by first | omega), (by rw [show μ - 1 + 1 = μ from by first | omega]; exact e)⟩
    · have e := e.trans (cond_f c_4)
      have c_4' := of_decide_eq_false c_4
      rw [spec_l03Energy_x1_0]
      rw [e] at hk
      exact hk
theorem spec_l03Energy_ok : FnOk Try.prog 76 S_spec_l03Energy := by
  refine FnOk.body mix_ok E_spec_l03Energy_ok Try.func76 rfl (by kernel_rfl) (by kernel_rfl) ?_ ?_ ?_ ?_ ?_
  · intro args H K K' h hk
    simp only [S_spec_l03Energy] at *
    unfold F_spec_l03Energy at *
    split at hk
    · obtain ⟨l_list, i_list, bd_11, k⟩ := hk
      exact ⟨l_list, i_list, bd_11, h _ _ k⟩
    · exact hk.elim
  · intro _ args H K hk
    simp only [S_spec_l03Energy] at *
    unfold F_spec_l03Energy at *
    split at hk
    · obtain ⟨l_list, i_list, bd_11, k⟩ := hk
      exact ⟨_, k, fun K' k' => ⟨l_list, i_list, bd_11, k'⟩⟩
    · exact hk.elim
  · intro args H K hk
    simp only [S_spec_l03Energy] at *
    unfold F_spec_l03Energy at *
    split at hk
    · obtain ⟨l_list, i_list, bd_11, k⟩ := hk
      exact ⟨_, _, k⟩
    · exact hk.elim
  · intro hq; cases hq
  · have mm := @spec_l03Energy_main
    revert mm
    generalize bodyK Try.prog E_spec_l03Energy Try.f76 = Q
    intro mm args H K hk
    simp only [S_spec_l03Energy] at *
    unfold F_spec_l03Energy at *
    split at hk
    · exact mm _ _ _ H K hk
    · exact hk.elim
def p_spec_l02Above (x : Nat) : Bool := (bif (p_spec_l01Finite x) then flt .f32 0 x else false)
theorem p_spec_l02Above_eq (x : Nat) : p_spec_l02Above x = (bif (p_spec_l01Finite x) then flt .f32 0 x else false) := rfl
def T_spec_l02Above (x : Nat) (H : AHeap) (K : Bool → AHeap → Prop) : Prop := K (p_spec_l02Above x) H

theorem T_spec_l02Above_i {x : Nat} {H : AHeap} {K : Bool → AHeap → Prop} (h : K (p_spec_l02Above x) H) : T_spec_l02Above x H K := h
/-! spec_l02Above: function 58 -/
def E_spec_l02Above : Env := envOf [(57, S_spec_l01Finite)]
def F_spec_l02Above : List Value → AHeap → (Value → AHeap → Prop) → Prop
  | [.float .f32 x], H, K => T_spec_l02Above x H fun (r1 : Bool) (H' : AHeap) => K (.bool r1) H'
  | _, _, _ => False
def S_spec_l02Above : FSpec := { F := F_spec_l02Above, quiet := true, tame := false }
theorem spec_l02Above_vc (x : Nat) (H : AHeap) (K : Value → AHeap → Prop) : bodyK Try.prog E_spec_l02Above Try.f58 [.float .f32 x] H K =
  (T_spec_l01Finite x H fun (r1 : Bool) (H1 : AHeap) => Br r1 (K (.bool (flt .f32 0 x)) H1) (K (.bool false) H1)) := by kernel_rfl
theorem E_spec_l02Above_ok : ∀ g, FnOk Try.prog g (E_spec_l02Above g) := FnOk.envOf (by
  intro x hx
  simp only [List.mem_cons, List.not_mem_nil, or_false] at hx
  subst hx; exact spec_l01Finite_ok)
set_option maxHeartbeats 1000000 in
theorem spec_l02Above_main (x : Nat) (H : AHeap) (K : Value → AHeap → Prop) (h : T_spec_l02Above x H fun (r1 : Bool) (H' : AHeap) => K (.bool r1) H') : bodyK Try.prog E_spec_l02Above Try.f58 [.float .f32 x] H K := by
  rw [spec_l02Above_vc]
  simp only [T_spec_l01Finite]
  unfold T_spec_l02Above p_spec_l02Above at h
  repeat' (first | exact h | (exfalso; simp_all; done) | (refine ⟨by decide, ?_⟩) | (refine Br.intro (fun hb => ?_) (fun hb => ?_) <;> (try simp only [hb, cond_true, cond_false, Bool.not_true, Bool.not_false] at h)))
theorem spec_l02Above_ok : FnOk Try.prog 58 S_spec_l02Above := by
  refine FnOk.body mix_ok E_spec_l02Above_ok Try.func58 rfl (by kernel_rfl) (by kernel_rfl) ?_ ?_ ?_ ?_ ?_
  · intro args H K K' h hk
    simp only [S_spec_l02Above] at *
    unfold F_spec_l02Above at *
    split at hk
    · have k := hk
      exact h _ _ k
    · exact hk.elim
  · intro _ args H K hk
    simp only [S_spec_l02Above] at *
    unfold F_spec_l02Above at *
    split at hk
    · have k := hk
      exact ⟨_, k, fun K' k' => k'⟩
    · exact hk.elim
  · intro args H K hk
    simp only [S_spec_l02Above] at *
    unfold F_spec_l02Above at *
    split at hk
    · have k := hk
      exact ⟨_, _, k⟩
    · exact hk.elim
  · intro hq; cases hq
  · have mm := @spec_l02Above_main
    revert mm
    generalize bodyK Try.prog E_spec_l02Above Try.f58 = Q
    intro mm args H K hk
    simp only [S_spec_l02Above] at *
    unfold F_spec_l02Above at *
    split at hk
    · exact mm _ H K hk
    · exact hk.elim
def p_math_Float64frombits (x : Int) : Nat := cn .f64 x.toNat
def T_math_Float64frombits (x : Int) (H : AHeap) (K : Nat → AHeap → Prop) : Prop := K (p_math_Float64frombits x) H
theorem T_math_Float64frombits_i {x : Int} {H : AHeap} {K : Nat → AHeap → Prop} (h : K (p_math_Float64frombits x) H) : T_math_Float64frombits x H K := h
def F_math_Float64frombits : List Value → AHeap → (Value → AHeap → Prop) → Prop
  | [.int .u64 b], H, K => T_math_Float64frombits b H fun r1 H' => K (.float .f64 r1) H'
  | _, _, _ => False
def S_math_Float64frombits : FSpec := { F := F_math_Float64frombits, quiet := true }
theorem F_math_Float64frombits_o {args : List Value} {H : AHeap} {K : Value → AHeap → Prop} (h : S_math_Float64frombits.F args H K) : ∃ x, args = [.int .u64 x] ∧ K (.float .f64 (p_math_Float64frombits x)) H := by
  simp only [S_math_Float64frombits] at h
  unfold F_math_Float64frombits at h
  split at h
  · exact ⟨_, rfl, h⟩
  · exact h.elim
theorem math_Float64frombits_ok : FnOk Try.prog 142 S_math_Float64frombits := by
  refine FnOk.ext rfl ?_ ?_ ?_ ?_
  · intro args H K K' h hk
    obtain ⟨x, rfl, k⟩ := F_math_Float64frombits_o hk
    exact h _ _ k
  · intro _ args H K hk
    obtain ⟨x, rfl, k⟩ := F_math_Float64frombits_o hk
    exact ⟨_, k, fun K' k' => k'⟩
  · intro args H K hk
    obtain ⟨x, rfl, k⟩ := F_math_Float64frombits_o hk
    exact ⟨_, _, k⟩
  · intro ρ w args args' H K ha hk
    obtain ⟨x, rfl, k⟩ := F_math_Float64frombits_o hk
    obtain ⟨y, ys, rfl, h3, h4⟩ := ha.uncons
    obtain rfl := h4.unnil
    cases h3
    refine ⟨_, .float .f64 x.toNat, w, ?_, .refl w, .float .f64 _ _ rfl, k⟩
    have := run_callFunc_extern (e := Extern.MathFloatBits.float64frombits) Try.func142 (by kernel_rfl) (by kernel_rfl) (by kernel_rfl) (by kernel_rfl) #[.int .u64 x] w
    rw [this]; rfl

def p_math_NaN  : Nat := (p_math_Float64frombits 9221120237041090561)
def T_math_NaN  (H : AHeap) (K : Nat → AHeap → Prop) : Prop := K (p_math_NaN) H

theorem T_math_NaN_i  {H : AHeap} {K : Nat → AHeap → Prop} (h : K (p_math_NaN) H) : T_math_NaN  H K := h
/-! math_NaN: function 123 -/
def E_math_NaN : Env := envOf [(142, S_math_Float64frombits)]
def F_math_NaN : List Value → AHeap → (Value → AHeap → Prop) → Prop
  | [], H, K => T_math_NaN  H fun (r1 : Nat) (H' : AHeap) => K (.float .f64 r1) H'
  | _, _, _ => False
def S_math_NaN : FSpec := { F := F_math_NaN, quiet := true, tame := false }
theorem math_NaN_vc  (H : AHeap) (K : Value → AHeap → Prop) : bodyK Try.prog E_math_NaN Try.f123 [] H K =
  (T_math_Float64frombits 9221120237041090561 H fun (r1 : Nat) (H1 : AHeap) => K (.float .f64 r1) H1) := by kernel_rfl
theorem E_math_NaN_ok : ∀ g, FnOk Try.prog g (E_math_NaN g) := FnOk.envOf (by
  intro x hx
  simp only [List.mem_cons, List.not_mem_nil, or_false] at hx
  subst hx; exact math_Float64frombits_ok)
set_option maxHeartbeats 1000000 in
theorem math_NaN_main  (H : AHeap) (K : Value → AHeap → Prop) (h : T_math_NaN  H fun (r1 : Nat) (H' : AHeap) => K (.float .f64 r1) H') : bodyK Try.prog E_math_NaN Try.f123 [] H K := by
  rw [math_NaN_vc]
  simp only [T_math_Float64frombits]
  unfold T_math_NaN p_math_NaN at h
  repeat' (first | exact h | (exfalso; simp_all; done) | (refine ⟨by decide, ?_⟩) | (refine Br.intro (fun hb => ?_) (fun hb => ?_) <;> (try simp only [hb, cond_true, cond_false, Bool.not_true, Bool.not_false] at h)))
theorem math_NaN_ok : FnOk Try.prog 123 S_math_NaN := by
  refine FnOk.body mix_ok E_math_NaN_ok Try.func123 rfl (by kernel_rfl) (by kernel_rfl) ?_ ?_ ?_ ?_ ?_
  · intro args H K K' h hk
    simp only [S_math_NaN] at *
    unfold F_math_NaN at *
    split at hk
    · have k := hk
      exact h _ _ k
    · exact hk.elim
  · intro _ args H K hk
    simp only [S_math_NaN] at *
    unfold F_math_NaN at *
    split at hk
    · have k := hk
      exact ⟨_, k, fun K' k' => k'⟩
    · exact hk.elim
  · intro args H K hk
    simp only [S_math_NaN] at *
    unfold F_math_NaN at *
    split at hk
    · have k := hk
      exact ⟨_, _, k⟩
    · exact hk.elim
  · intro hq; cases hq
  · have mm := @math_NaN_main
    revert mm
    generalize bodyK Try.prog E_math_NaN Try.f123 = Q
    intro mm args H K hk
    simp only [S_math_NaN] at *
    unfold F_math_NaN at *
    split at hk
    · exact mm  H K hk
    · exact hk.elim
def p_math_Inf (sign : Int) : Nat := (bif decide ((0 : Int) ≤ sign) then (p_math_Float64frombits 9218868437227405312) else (p_math_Float64frombits 18442240474082181120))
theorem p_math_Inf_eq (sign : Int) : p_math_Inf sign = (bif decide ((0 : Int) ≤ sign) then (p_math_Float64frombits 9218868437227405312) else (p_math_Float64frombits 18442240474082181120)) := rfl
def T_math_Inf (sign : Int) (H : AHeap) (K : Nat → AHeap → Prop) : Prop := K (p_math_Inf sign) H

theorem T_math_Inf_i {sign : Int} {H : AHeap} {K : Nat → AHeap → Prop} (h : K (p_math_Inf sign) H) : T_math_Inf sign H K := h
/-! math_Inf: function 122 -/
def E_math_Inf : Env := envOf [(142, S_math_Float64frombits)]
def F_math_Inf : List Value → AHeap → (Value → AHeap → Prop) → Prop
  | [.int .i64 sign], H, K => T_math_Inf sign H fun (r1 : Nat) (H' : AHeap) => K (.float .f64 r1) H'
  | _, _, _ => False
def S_math_Inf : FSpec := { F := F_math_Inf, quiet := true, tame := false }
theorem math_Inf_vc (sign : Int) (H : AHeap) (K : Value → AHeap → Prop) : bodyK Try.prog E_math_Inf Try.f122 [.int .i64 sign] H K =
  (Br (decide ((0 : Int) ≤ sign)) (T_math_Float64frombits 9218868437227405312 H fun (r1 : Nat) (H1 : AHeap) => K (.float .f64 r1) H1) (T_math_Float64frombits 18442240474082181120 H fun (r2 : Nat) (H2 : AHeap) => K (.float .f64 r2) H2)) := by kernel_rfl
theorem E_math_Inf_ok : ∀ g, FnOk Try.prog g (E_math_Inf g) := FnOk.envOf (by
  intro x hx
  simp only [List.mem_cons, List.not_mem_nil, or_false] at hx
  subst hx; exact math_Float64frombits_ok)
set_option maxHeartbeats 1000000 in
theorem math_Inf_main (sign : Int) (H : AHeap) (K : Value → AHeap → Prop) (h : T_math_Inf sign H fun (r1 : Nat) (H' : AHeap) => K (.float .f64 r1) H') : bodyK Try.prog E_math_Inf Try.f122 [.int .i64 sign] H K := by
  rw [math_Inf_vc]
  simp only [T_math_Float64frombits]
  unfold T_math_Inf p_math_Inf at h
  repeat' (first | exact h | (exfalso; simp_all; done) | (refine ⟨by decide, ?_⟩) | (refine Br.intro (fun hb => ?_) (fun hb => ?_) <;> (try simp only [hb, cond_true, cond_false, Bool.not_true, Bool.not_false] at h)))
theorem math_Inf_ok : FnOk Try.prog 122 S_math_Inf := by
  refine FnOk.body mix_ok E_math_Inf_ok Try.func122 rfl (by kernel_rfl) (by kernel_rfl) ?_ ?_ ?_ ?_ ?_
  · intro args H K K' h hk
    simp only [S_math_Inf] at *
    unfold F_math_Inf at *
    split at hk
    · have k := hk
      exact h _ _ k
    · exact hk.elim
  · intro _ args H K hk
    simp only [S_math_Inf] at *
    unfold F_math_Inf at *
    split at hk
    · have k := hk
      exact ⟨_, k, fun K' k' => k'⟩
    · exact hk.elim
  · intro args H K hk
    simp only [S_math_Inf] at *
    unfold F_math_Inf at *
    split at hk
    · have k := hk
      exact ⟨_, _, k⟩
    · exact hk.elim
  · intro hq; cases hq
  · have mm := @math_Inf_main
    revert mm
    generalize bodyK Try.prog E_math_Inf Try.f122 = Q
    intro mm args H K hk
    simp only [S_math_Inf] at *
    unfold F_math_Inf at *
    split at hk
    · exact mm _ H K hk
    · exact hk.elim
def T_math_Float64bits (x : Nat) (H : AHeap) (K : Int → AHeap → Prop) : Prop := ∀ b : Nat, cn .f64 b = cn .f64 x → K (b : Int) H
def F_math_Float64bits : List Value → AHeap → (Value → AHeap → Prop) → Prop
  | [.float .f64 x], H, K => T_math_Float64bits x H fun r1 H' => K (.int .u64 r1) H'
  | _, _, _ => False
def S_math_Float64bits : FSpec := { F := F_math_Float64bits, quiet := false }
theorem F_math_Float64bits_o {args : List Value} {H : AHeap} {K : Value → AHeap → Prop} (h : S_math_Float64bits.F args H K) : ∃ x, args = [.float .f64 x] ∧ ∀ b : Nat, cn .f64 b = cn .f64 x → K (.int .u64 (b : Int)) H := by
  simp only [S_math_Float64bits] at h
  unfold F_math_Float64bits at h
  split at h
  · exact ⟨_, rfl, h⟩
  · exact h.elim
theorem math_Float64bits_ok : FnOk Try.prog 156 S_math_Float64bits := by
  refine FnOk.ext rfl ?_ ?_ ?_ ?_
  · intro args H K K' h hk
    obtain ⟨x, rfl, k⟩ := F_math_Float64bits_o hk
    exact fun b hb => h _ _ (k b hb)
  · intro h; cases h
  · intro args H K hk
    obtain ⟨x, rfl, k⟩ := F_math_Float64bits_o hk
    exact ⟨_, _, k x rfl⟩
  · intro ρ w args args' H K ha hk
    obtain ⟨x, rfl, k⟩ := F_math_Float64bits_o hk
    obtain ⟨y, ys, rfl, h3, h4⟩ := ha.uncons
    obtain rfl := h4.unnil
    cases h3 with
    | float k0 a b hab =>
      refine ⟨_, .int .u64 b, w, ?_, .refl w, .int .u64 _, k b (by rw [hab, cn_cn])⟩
      have := run_callFunc_extern (e := Extern.MathFloatBits.float64bits) Try.func156 (by kernel_rfl) (by kernel_rfl) (by kernel_rfl) (by kernel_rfl) #[.float .f64 b] w
      rw [this]; rfl

def p_math_Abs (x : Nat) : Nat := cn .f64 (cn .f64 x % 9223372036854775808)
def T_math_Abs (x : Nat) (H : AHeap) (K : Nat → AHeap → Prop) : Prop := K (p_math_Abs x) H
theorem T_math_Abs_i {x : Nat} {H : AHeap} {K : Nat → AHeap → Prop} (h : K (p_math_Abs x) H) : T_math_Abs x H K := h
/-! math_Abs: function 149 -/
def E_math_Abs : Env := envOf [(156, S_math_Float64bits), (142, S_math_Float64frombits)]
def F_math_Abs : List Value → AHeap → (Value → AHeap → Prop) → Prop
  | [.float .f64 x], H, K => T_math_Abs x H fun (r1 : Nat) (H' : AHeap) => K (.float .f64 r1) H'
  | _, _, _ => False
def S_math_Abs : FSpec := { F := F_math_Abs, quiet := true, tame := false }
theorem math_Abs_vc (x : Nat) (H : AHeap) (K : Value → AHeap → Prop) : bodyK Try.prog E_math_Abs Try.f149 [.float .f64 x] H K =
  (T_math_Float64bits x H fun (r1 : Int) (H1 : AHeap) => T_math_Float64frombits (IntKind.wrap .u64 (((BitVec.ofInt (IntKind.bits .u64) r1 &&& ~~~(BitVec.ofInt (IntKind.bits .u64) 9223372036854775808)).toNat : Int))) H1 fun (r2 : Nat) (H2 : AHeap) => K (.float .f64 r2) H2) := by kernel_rfl
theorem E_math_Abs_ok : ∀ g, FnOk Try.prog g (E_math_Abs g) := FnOk.envOf (by
  intro x hx
  simp only [List.mem_cons, List.not_mem_nil, or_false] at hx
  rcases hx with rfl | rfl
  · exact math_Float64bits_ok
  · exact math_Float64frombits_ok)
theorem abs_bits (b : Nat) : (IntKind.wrap .u64 (((BitVec.ofInt (IntKind.bits .u64) (b : Int) &&& ~~~(BitVec.ofInt (IntKind.bits .u64) 9223372036854775808)).toNat : Int))).toNat = b % 9223372036854775808 := by
  have e : (BitVec.ofInt (IntKind.bits .u64) (b : Int) &&& ~~~(BitVec.ofInt (IntKind.bits .u64) 9223372036854775808)).toNat = b % 9223372036854775808 := by
    show (BitVec.ofInt 64 (b : Int) &&& ~~~(BitVec.ofInt 64 9223372036854775808)).toNat = _
    have h1 : (~~~(BitVec.ofInt 64 9223372036854775808)).toNat = 2 ^ 63 - 1 := by decide
    have h2 : (BitVec.ofInt 64 (b : Int)).toNat = b % 2 ^ 64 := by simp
    rw [BitVec.toNat_and, h1, h2, Nat.and_two_pow_sub_one_eq_mod]
    omega
  rw [e, wrapu_id (by omega) (by omega)]
  omega
theorem abs_cn {b x : Nat} (h : cn .f64 b = cn .f64 x) : cn .f64 (b % 9223372036854775808) = cn .f64 (cn .f64 x % 9223372036854775808) := by
  rw [← h]
  cases hn : (FloatKind.f64.decode b).isNaN
  · rw [cn_of_not_nan hn]
  · rw [cn_of_nan hn]
    have : (FloatKind.f64.decode (b % 9223372036854775808)).isNaN = true := by
      rw [nan_iff] at hn ⊢
      have e1 : FloatKind.f64.format.signWeight = 9223372036854775808 := by decide
      rw [e1] at hn ⊢
      rw [Nat.mod_mod]; exact hn
    rw [cn_of_nan this]
    decide +kernel
set_option maxHeartbeats 1000000 in
theorem math_Abs_main (x : Nat) (H : AHeap) (K : Value → AHeap → Prop) (h : T_math_Abs x H fun (r1 : Nat) (H' : AHeap) => K (.float .f64 r1) H') : bodyK Try.prog E_math_Abs Try.f149 [.float .f64 x] H K := by
  rw [math_Abs_vc]
  intro b hb
  show K (.float .f64 (cn .f64 (IntKind.wrap .u64 (((BitVec.ofInt (IntKind.bits .u64) (b : Int) &&& ~~~(BitVec.ofInt (IntKind.bits .u64) 9223372036854775808)).toNat : Int))).toNat)) H
  rw [abs_bits, abs_cn hb]
  exact h
theorem math_Abs_ok : FnOk Try.prog 149 S_math_Abs := by
  refine FnOk.body mix_ok E_math_Abs_ok Try.func149 rfl (by kernel_rfl) (by kernel_rfl) ?_ ?_ ?_ ?_ ?_
  · intro args H K K' h hk
    simp only [S_math_Abs] at *
    unfold F_math_Abs at *
    split at hk
    · have k := hk
      exact h _ _ k
    · exact hk.elim
  · intro _ args H K hk
    simp only [S_math_Abs] at *
    unfold F_math_Abs at *
    split at hk
    · have k := hk
      exact ⟨_, k, fun K' k' => k'⟩
    · exact hk.elim
  · intro args H K hk
    simp only [S_math_Abs] at *
    unfold F_math_Abs at *
    split at hk
    · have k := hk
      exact ⟨_, _, k⟩
    · exact hk.elim
  · intro hq; cases hq
  · have mm := @math_Abs_main
    revert mm
    generalize bodyK Try.prog E_math_Abs Try.f149 = Q
    intro mm args H K hk
    simp only [S_math_Abs] at *
    unfold F_math_Abs at *
    split at hk
    · exact mm _ H K hk
    · exact hk.elim
def p_math_IsInf (f : Nat) (sign : Int) : Bool := ((bif (sign : Int) == 0 then flt .f64 9218868437227405311 (p_math_Abs f) else (bif decide ((sign : Int) < 0) then flt .f64 9218868437227405311 (fneg .f64 f) else flt .f64 9218868437227405311 f)))
theorem p_math_IsInf_eq (f : Nat) (sign : Int) : p_math_IsInf f sign = ((bif (sign : Int) == 0 then flt .f64 9218868437227405311 (p_math_Abs f) else (bif decide ((sign : Int) < 0) then flt .f64 9218868437227405311 (fneg .f64 f) else flt .f64 9218868437227405311 f))) := rfl
def T_math_IsInf (f : Nat) (sign : Int) (H : AHeap) (K : Bool → AHeap → Prop) : Prop := K (p_math_IsInf f sign) H
theorem math_IsInf_f {f : Nat} {sign : Int} (h : p_math_IsInf f sign = false) : sign = 1 → flt .f64 9218868437227405311 f = false := by
  intro e; subst e; exact h
theorem T_math_IsInf_i {f : Nat} {sign : Int} {H : AHeap} {K : Bool → AHeap → Prop} (h : K (p_math_IsInf f sign) H) : T_math_IsInf f sign H K := h
/-! math_IsInf: function 141 -/
def E_math_IsInf : Env := envOf [(149, S_math_Abs)]
def F_math_IsInf : List Value → AHeap → (Value → AHeap → Prop) → Prop
  | [.float .f64 f, .int .i64 sign], H, K => T_math_IsInf f sign H fun (r1 : Bool) (H' : AHeap) => K (.bool r1) H'
  | _, _, _ => False
def S_math_IsInf : FSpec := { F := F_math_IsInf, quiet := true, tame := false }
theorem math_IsInf_vc (f : Nat) (sign : Int) (H : AHeap) (K : Value → AHeap → Prop) : bodyK Try.prog E_math_IsInf Try.f141 [.float .f64 f, .int .i64 sign] H K =
  (Br ((sign : Int) == 0) (T_math_Abs f H fun (r1 : Nat) (H1 : AHeap) => K (.bool (flt .f64 9218868437227405311 r1)) H1) (Br (decide ((sign : Int) < 0)) (K (.bool (flt .f64 9218868437227405311 (fneg .f64 f))) H) (K (.bool (flt .f64 9218868437227405311 f)) H))) := by kernel_rfl
theorem E_math_IsInf_ok : ∀ g, FnOk Try.prog g (E_math_IsInf g) := FnOk.envOf (by
  intro x hx
  simp only [List.mem_cons, List.not_mem_nil, or_false] at hx
  subst hx; exact math_Abs_ok)
set_option maxHeartbeats 1000000 in
theorem math_IsInf_main (f : Nat) (sign : Int) (H : AHeap) (K : Value → AHeap → Prop) (h : T_math_IsInf f sign H fun (r1 : Bool) (H' : AHeap) => K (.bool r1) H') : bodyK Try.prog E_math_IsInf Try.f141 [.float .f64 f, .int .i64 sign] H K := by
  rw [math_IsInf_vc]
  simp only [T_math_Abs]
  unfold T_math_IsInf p_math_IsInf at h
  repeat' (first | exact h | (exfalso; simp_all; done) | (refine ⟨by decide, ?_⟩) | (refine Br.intro (fun hb => ?_) (fun hb => ?_) <;> (try simp only [hb, cond_true, cond_false, Bool.not_true, Bool.not_false] at h)))
theorem math_IsInf_ok : FnOk Try.prog 141 S_math_IsInf := by
  refine FnOk.body mix_ok E_math_IsInf_ok Try.func141 rfl (by kernel_rfl) (by kernel_rfl) ?_ ?_ ?_ ?_ ?_
  · intro args H K K' h hk
    simp only [S_math_IsInf] at *
    unfold F_math_IsInf at *
    split at hk
    · have k := hk
      exact h _ _ k
    · exact hk.elim
  · intro _ args H K hk
    simp only [S_math_IsInf] at *
    unfold F_math_IsInf at *
    split at hk
    · have k := hk
      exact ⟨_, k, fun K' k' => k'⟩
    · exact hk.elim
  · intro args H K hk
    simp only [S_math_IsInf] at *
    unfold F_math_IsInf at *
    split at hk
    · have k := hk
      exact ⟨_, _, k⟩
    · exact hk.elim
  · intro hq; cases hq
  · have mm := @math_IsInf_main
    revert mm
    generalize bodyK Try.prog E_math_IsInf Try.f141 = Q
    intro mm args H K hk
    simp only [S_math_IsInf] at *
    unfold F_math_IsInf at *
    split at hk
    · exact mm _ _ H K hk
    · exact hk.elim
def p_spec_l01LogWide_l3 (y : Nat) (y_0 : Nat) (ve : Int) (y_0' : Nat) (ve_3 : Int) (k3_5 : Nat → Int → Nat) : Nat → Nat → Int → Nat
  | 0, _, _ => 0
  | μ3 + 1, q, k => (bif decide ((1 : Int) ≤ k) then (p_spec_l01LogWide_l3 y y_0 ve y_0' ve_3 k3_5 μ3 (fadd .f64 (fdiv .f64 4607182418800017408 (FloatKind.nearest .f64 k)) (fmul .f64 (fmul .f64 (fdiv .f64 (fsub .f64 y_0' 4607182418800017408) (fadd .f64 y_0' 4607182418800017408)) (fdiv .f64 (fsub .f64 y_0' 4607182418800017408) (fadd .f64 y_0' 4607182418800017408))) q)) (k - 2)) else (k3_5 q k))
theorem p_spec_l01LogWide_l3_s (y : Nat) (y_0 : Nat) (ve : Int) (y_0' : Nat) (ve_3 : Int) (k3_5 : Nat → Int → Nat) (μ3 : Nat) (q : Nat) (k : Int) : p_spec_l01LogWide_l3 y y_0 ve y_0' ve_3 k3_5 (μ3 + 1) q k = (bif decide ((1 : Int) ≤ k) then (p_spec_l01LogWide_l3 y y_0 ve y_0' ve_3 k3_5 μ3 (fadd .f64 (fdiv .f64 4607182418800017408 (FloatKind.nearest .f64 k)) (fmul .f64 (fmul .f64 (fdiv .f64 (fsub .f64 y_0' 4607182418800017408) (fadd .f64 y_0' 4607182418800017408)) (fdiv .f64 (fsub .f64 y_0' 4607182418800017408) (fadd .f64 y_0' 4607182418800017408))) q)) (k - 2)) else (k3_5 q k)) := rfl
def p_spec_l01LogWide_l2 (y : Nat) (y_0 : Nat) (ve : Int) (k2_3 : Nat → Int → Nat) : Nat → Nat → Int → Nat
  | 0, _, _ => 0
  | μ2 + 1, y_0', ve_3 => (bif flt .f64 y_0' 4604930618986332160 then (p_spec_l01LogWide_l2 y y_0 ve k2_3 μ2 (fmul .f64 y_0' 4611686018427387904) (IntKind.wrap .i64 (ve_3 - 1))) else (k2_3 y_0' ve_3))
theorem p_spec_l01LogWide_l2_s (y : Nat) (y_0 : Nat) (ve : Int) (k2_3 : Nat → Int → Nat) (μ2 : Nat) (y_0' : Nat) (ve_3 : Int) : p_spec_l01LogWide_l2 y y_0 ve k2_3 (μ2 + 1) y_0' ve_3 = (bif flt .f64 y_0' 4604930618986332160 then (p_spec_l01LogWide_l2 y y_0 ve k2_3 μ2 (fmul .f64 y_0' 4611686018427387904) (IntKind.wrap .i64 (ve_3 - 1))) else (k2_3 y_0' ve_3)) := rfl
def p_spec_l01LogWide_l1 (y : Nat) : Nat → Nat → Int → Nat
  | 0, _, _ => 0
  | μ + 1, y_0, ve => (bif fle .f64 4609434218613702656 y_0 then (p_spec_l01LogWide_l1 y μ (fdiv .f64 y_0 4611686018427387904) (IntKind.wrap .i64 (ve + 1))) else (p_spec_l01LogWide_l2 y y_0 ve (fun (y_0' : Nat) (ve_3 : Int) => (p_spec_l01LogWide_l3 y y_0 ve y_0' ve_3 (fun (q : Nat) (k : Int) => fadd .f64 (fmul .f64 4611686018427387904 (fmul .f64 (fdiv .f64 (fsub .f64 y_0' 4607182418800017408) (fadd .f64 y_0' 4607182418800017408)) q)) (fmul .f64 (FloatKind.nearest .f64 ve_3) 4604418534313441775)) (Int.toNat ((25 : Int) + 1) + 1) 0 (25 : Int))) (Int.toNat ((4604930618986332160 : Int) - y_0) + 1) y_0 ve))
theorem p_spec_l01LogWide_l1_s (y : Nat) (μ : Nat) (y_0 : Nat) (ve : Int) : p_spec_l01LogWide_l1 y (μ + 1) y_0 ve = (bif fle .f64 4609434218613702656 y_0 then (p_spec_l01LogWide_l1 y μ (fdiv .f64 y_0 4611686018427387904) (IntKind.wrap .i64 (ve + 1))) else (p_spec_l01LogWide_l2 y y_0 ve (fun (y_0' : Nat) (ve_3 : Int) => (p_spec_l01LogWide_l3 y y_0 ve y_0' ve_3 (fun (q : Nat) (k : Int) => fadd .f64 (fmul .f64 4611686018427387904 (fmul .f64 (fdiv .f64 (fsub .f64 y_0' 4607182418800017408) (fadd .f64 y_0' 4607182418800017408)) q)) (fmul .f64 (FloatKind.nearest .f64 ve_3) 4604418534313441775)) (Int.toNat ((25 : Int) + 1) + 1) 0 (25 : Int))) (Int.toNat ((4604930618986332160 : Int) - y_0) + 1) y_0 ve)) := rfl
def p_spec_l01LogWide (y : Nat) : Nat := (bif !(feq .f64 y y) then p_math_NaN else (bif flt .f64 y 0 then p_math_NaN else (bif feq .f64 y 0 then (p_math_Inf ((-1) : Int)) else (bif (p_math_IsInf y (1 : Int)) then y else (p_spec_l01LogWide_l1 y (Int.toNat ((y : Int)) + 1) y (0 : Int))))))
theorem p_spec_l01LogWide_eq (y : Nat) : p_spec_l01LogWide y = (bif !(feq .f64 y y) then p_math_NaN else (bif flt .f64 y 0 then p_math_NaN else (bif feq .f64 y 0 then (p_math_Inf ((-1) : Int)) else (bif (p_math_IsInf y (1 : Int)) then y else (p_spec_l01LogWide_l1 y (Int.toNat ((y : Int)) + 1) y (0 : Int)))))) := rfl
def T_spec_l01LogWide (y : Nat) (H : AHeap) (K : Nat → AHeap → Prop) : Prop := Nrm y ∧ K (p_spec_l01LogWide y) H
theorem T_spec_l01LogWide_i {y : Nat} {H : AHeap} {K : Nat → AHeap → Prop} (h : Nrm y ∧ K (p_spec_l01LogWide y) H) : T_spec_l01LogWide y H K := h
theorem spec_l3_nar {x x_0 x' : Nat} {ve ve_3 : Int} {K : Nat → Int → Nat} (h0 : 4604930618986332160 ≤ x') (h1 : x' < 4609434218613702656) (hK : ∀ q k, Bd .f64 1160 q → fnarrow (K q k) ≠ none) :
    ∀ (μ : Nat) (n : Int) (A q : Nat), Bd .f64 A q → 1074 ≤ A → (A : Int) ≤ 1155 - 3 * n → n ≤ 25 → -1 ≤ n → fnarrow (p_spec_l01LogWide_l3 x x_0 ve x' ve_3 K μ q n) ≠ none := by
  intro μ
  induction μ with
  | zero => intro n A q _ _ _ _ _; exact (by decide +kernel : fnarrow 0 ≠ none)
  | succ μ ih =>
    intro n A q hq hA hA2 hn hn1
    rw [p_spec_l01LogWide_l3_s]
    by_cases h : (1 : Int) ≤ n
    · rw [decide_eq_true h, cond_true]
      exact ih (n - 2) (A + 6) _ (log_step' (log_square h0 h1) h (by omega) hq hA (by omega)) (by omega) (by omega) (by omega) (by omega)
    · rw [decide_eq_false h, cond_false]
      exact hK _ _ (hq.mono (by omega))
theorem spec_l2_nar {x x_0 : Nat} {ve : Int} {K : Nat → Int → Nat} (hK : ∀ x' (e : Int), 4604930618986332160 ≤ x' → x' < 4609434218613702656 → e.natAbs ≤ 4000 → fnarrow (K x' e) ≠ none) :
    ∀ (μ : Nat) (x' : Nat) (e : Int), 4503599627370496 ≤ x' → x' < 4609434218613702656 → (4609434218613702656 : Int) - x' ≤ (e + 3000) * 4503599627370496 → e ≤ 2100 →
      fnarrow (p_spec_l01LogWide_l2 x x_0 ve K μ x' e) ≠ none := by
  intro μ
  induction μ with
  | zero => intro x' e _ _ _ _; exact (by decide +kernel : fnarrow 0 ≠ none)
  | succ μ ih =>
    intro x' e h0 h1 h2 h3
    rw [p_spec_l01LogWide_l2_s]
    cases hc : flt .f64 x' 4604930618986332160 with
    | true =>
      have := twice_step h0 (by omega) hc
      rw [cond_true, wrap64 (n := e - 1) (by omega) (by omega), this.1]
      exact ih _ _ (by omega) (by omega) (by omega) (by omega)
    | false =>
      rw [cond_false]
      rw [pos_lt h0 (by omega) (by decide) (by decide)] at hc
      have := of_decide_eq_false hc
      exact hK _ _ (by omega) h1 (by omega)
theorem spec_l1_nar {x : Nat} :
    ∀ (μ : Nat) (x_0 : Nat) (e : Int), 4503599627370496 ≤ x_0 → x_0 < 9218868437227405312 → e * 4503599627370496 + x_0 ≤ 9218868437227405312 → 0 ≤ e →
      fnarrow (p_spec_l01LogWide_l1 x μ x_0 e) ≠ none := by
  intro μ
  induction μ with
  | zero => intro x_0 e _ _ _ _; exact (by decide +kernel : fnarrow 0 ≠ none)
  | succ μ ih =>
    intro x_0 e h0 h1 h2 h3
    rw [p_spec_l01LogWide_l1_s]
    cases hc : fle .f64 4609434218613702656 x_0 with
    | true =>
      have := half_step h0 h1 hc
      rw [cond_true, wrap64 (n := e + 1) (by omega) (by omega), this.1]
      exact ih _ _ (by omega) (by omega) (by omega) (by omega)
    | false =>
      rw [cond_false]
      rw [pos_le (by decide) (by decide) h0 h1] at hc
      have := of_decide_eq_false hc
      refine spec_l2_nar ?_ _ _ _ h0 (by omega) (by omega) (by omega)
      intro x' e' a0 a1 a2
      refine spec_l3_nar a0 a1 ?_ _ 25 1074 0 (bd_zero _) (by decide) (by decide) (by decide) (by decide)
      intro q k hq
      exact log_sum' (log_quot a0 a1) hq (by decide) (by decide) a2
theorem spec_log_nar (x : Nat) : fnarrow (p_spec_l01LogWide (fwide x)) ≠ none := by
  rw [p_spec_l01LogWide_eq]
  cases h1 : feq .f64 (fwide x) (fwide x) with
  | false => exact (by decide +kernel : fnarrow p_math_NaN ≠ none)
  | true =>
    cases h2 : flt .f64 (fwide x) 0 with
    | true => exact (by decide +kernel : fnarrow p_math_NaN ≠ none)
    | false =>
      cases h3 : feq .f64 (fwide x) 0 with
      | true => exact (by decide +kernel : fnarrow (p_math_Inf (-1)) ≠ none)
      | false =>
        cases h4 : p_math_IsInf (fwide x) 1 with
        | true => exact inf_narrow x h4
        | false =>
          have h := nrm_use (wide_nrm x) h1 h2 h3 h4
          rw [Bool.not_true, cond_false, cond_false, cond_false, cond_false]
          exact spec_l1_nar _ _ 0 h.1 h.2 (by omega) (by decide)
/-! spec_l01LogWide: function 121 -/
def E_spec_l01LogWide : Env := envOf [(123, S_math_NaN), (122, S_math_Inf), (141, S_math_IsInf)]
def F_spec_l01LogWide : List Value → AHeap → (Value → AHeap → Prop) → Prop
  | [.float .f64 y], H, K => T_spec_l01LogWide y H fun (r1 : Nat) (H' : AHeap) => K (.float .f64 r1) H'
  | _, _, _ => False
def S_spec_l01LogWide : FSpec := { F := F_spec_l01LogWide, quiet := true, tame := false }
theorem spec_l01LogWide_vc (y : Nat) (H : AHeap) (K : Value → AHeap → Prop) : bodyK Try.prog E_spec_l01LogWide Try.f121 [.float .f64 y] H K =
  (Br (!(feq .f64 y y)) (T_math_NaN  H fun (r1 : Nat) (H1 : AHeap) => K (.float .f64 r1) H1) (Br (flt .f64 y 0) (T_math_NaN  H fun (r2 : Nat) (H2 : AHeap) => K (.float .f64 r2) H2) (Br (feq .f64 y 0) (T_math_Inf (-1) H fun (r3 : Nat) (H3 : AHeap) => K (.float .f64 r3) H3) (T_math_IsInf y 1 H fun (r4 : Bool) (H4 : AHeap) => Br r4 (K (.float .f64 y) H4) (loopK (exK Try.prog E_spec_l01LogWide (cl (cl (cl (cr (cr (cr (bodyC Try.f121)))))))) [.float .f64 y, undef, .float .f64 0, .int .i64 0, undef, undef, undef, undef, .bool (flt .f64 y 0), .float .f64 y, .float .f64 y, .bool (!(feq .f64 y y)), .bool false, .float .f64 y, .bool (flt .f64 y 0), .bool (flt .f64 y 0), undef, .bool (feq .f64 y 0), .float .f64 y, .bool (feq .f64 y 0), undef, .bool r4, .float .f64 y, .bool r4, undef, undef, undef, undef, undef, undef, undef, undef, undef, undef, undef, undef, undef, undef, undef, undef, undef, undef, undef, undef, undef, undef, undef, undef, undef, undef, undef, undef, undef, undef, undef, undef, undef, undef, undef, undef, undef, undef, undef, undef] H4 (blockQ 1 (seqQ (exK Try.prog E_spec_l01LogWide (cr (cr (cr (cr (bodyC Try.f121)))))) (retK Try.prog Try.f121 K)))))))) := by kernel_rfl
theorem spec_l01LogWide_r1 (r4 : Bool) (y : Nat) (y_0 : Nat) (ve : Int) (g25 g26 g27 g28 g29 g30 : Value) (H : AHeap) (R : Post) : exK Try.prog E_spec_l01LogWide (cl (cl (cl (cr (cr (cr (bodyC Try.f121))))))) [.float .f64 y_0, undef, .float .f64 0, .int .i64 ve, undef, undef, undef, undef, .bool (flt .f64 y 0), .float .f64 y, .float .f64 y, .bool (!(feq .f64 y y)), .bool false, .float .f64 y, .bool (flt .f64 y 0), .bool (flt .f64 y 0), undef, .bool (feq .f64 y 0), .float .f64 y, .bool (feq .f64 y 0), undef, .bool r4, .float .f64 y, .bool r4, undef, g25, g26, g27, g28, g29, g30, undef, undef, undef, undef, undef, undef, undef, undef, undef, undef, undef, undef, undef, undef, undef, undef, undef, undef, undef, undef, undef, undef, undef, undef, undef, undef, undef, undef, undef, undef, undef, undef, undef] H R =
  (Br (fle .f64 4609434218613702656 y_0) (R .normal [.float .f64 (fdiv .f64 y_0 4611686018427387904), undef, .float .f64 0, .int .i64 (IntKind.wrap .i64 (ve + 1)), undef, undef, undef, undef, .bool (flt .f64 y 0), .float .f64 y, .float .f64 y, .bool (!(feq .f64 y y)), .bool false, .float .f64 y, .bool (flt .f64 y 0), .bool (flt .f64 y 0), undef, .bool (feq .f64 y 0), .float .f64 y, .bool (feq .f64 y 0), undef, .bool r4, .float .f64 y, .bool r4, undef, .float .f64 y_0, .bool (fle .f64 4609434218613702656 y_0), .float .f64 y_0, .float .f64 (fdiv .f64 y_0 4611686018427387904), .int .i64 ve, .int .i64 (IntKind.wrap .i64 (ve + 1)), undef, undef, undef, undef, undef, undef, undef, undef, undef, undef, undef, undef, undef, undef, undef, undef, undef, undef, undef, undef, undef, undef, undef, undef, undef, undef, undef, undef, undef, undef, undef, undef, undef] H) (R (.exit 1) [.float .f64 y_0, undef, .float .f64 0, .int .i64 ve, undef, undef, undef, undef, .bool (flt .f64 y 0), .float .f64 y, .float .f64 y, .bool (!(feq .f64 y y)), .bool false, .float .f64 y, .bool (flt .f64 y 0), .bool (flt .f64 y 0), undef, .bool (feq .f64 y 0), .float .f64 y, .bool (feq .f64 y 0), undef, .bool r4, .float .f64 y, .bool r4, undef, .float .f64 y_0, .bool (fle .f64 4609434218613702656 y_0), g27, g28, g29, g30, undef, undef, undef, undef, undef, undef, undef, undef, undef, undef, undef, undef, undef, undef, undef, undef, undef, undef, undef, undef, undef, undef, undef, undef, undef, undef, undef, undef, undef, undef, undef, undef, undef] H)) := by kernel_rfl
def spec_l01LogWide_I1 (r4 : Bool) (y : Nat) (Inv : Nat → Nat → Int → AHeap → Prop) : Nat → List Value → AHeap → Prop := fun μ tm H => ∃ (y_0 : Nat), ∃ (ve : Int), ∃ g25 g26 g27 g28 g29 g30, tm = [.float .f64 y_0, undef, .float .f64 0, .int .i64 ve, undef, undef, undef, undef, .bool (flt .f64 y 0), .float .f64 y, .float .f64 y, .bool (!(feq .f64 y y)), .bool false, .float .f64 y, .bool (flt .f64 y 0), .bool (flt .f64 y 0), undef, .bool (feq .f64 y 0), .float .f64 y, .bool (feq .f64 y 0), undef, .bool r4, .float .f64 y, .bool r4, undef, g25, g26, g27, g28, g29, g30, undef, undef, undef, undef, undef, undef, undef, undef, undef, undef, undef, undef, undef, undef, undef, undef, undef, undef, undef, undef, undef, undef, undef, undef, undef, undef, undef, undef, undef, undef, undef, undef, undef] ∧ Inv μ y_0 ve H
theorem spec_l01LogWide_L1 (r4 : Bool) (y : Nat) {Q : Post} (Inv : Nat → Nat → Int → AHeap → Prop) (ν : Nat) (y_0 : Nat) (ve : Int) (g25 g26 g27 g28 g29 g30 : Value) (H : AHeap) (h0 : Inv ν y_0 ve H)
    (hs : ∀ (μ : Nat) (y_0 : Nat) (ve : Int) (g25 g26 g27 g28 g29 g30 : Value) (H : AHeap), Inv μ y_0 ve H → exK Try.prog E_spec_l01LogWide (cl (cl (cl (cr (cr (cr (bodyC Try.f121))))))) [.float .f64 y_0, undef, .float .f64 0, .int .i64 ve, undef, undef, undef, undef, .bool (flt .f64 y 0), .float .f64 y, .float .f64 y, .bool (!(feq .f64 y y)), .bool false, .float .f64 y, .bool (flt .f64 y 0), .bool (flt .f64 y 0), undef, .bool (feq .f64 y 0), .float .f64 y, .bool (feq .f64 y 0), undef, .bool r4, .float .f64 y, .bool r4, undef, g25, g26, g27, g28, g29, g30, undef, undef, undef, undef, undef, undef, undef, undef, undef, undef, undef, undef, undef, undef, undef, undef, undef, undef, undef, undef, undef, undef, undef, undef, undef, undef, undef, undef, undef, undef, undef, undef, undef] H (loopQ (spec_l01LogWide_I1 r4 y Inv) μ Q)) : loopK (exK Try.prog E_spec_l01LogWide (cl (cl (cl (cr (cr (cr (bodyC Try.f121)))))))) [.float .f64 y_0, undef, .float .f64 0, .int .i64 ve, undef, undef, undef, undef, .bool (flt .f64 y 0), .float .f64 y, .float .f64 y, .bool (!(feq .f64 y y)), .bool false, .float .f64 y, .bool (flt .f64 y 0), .bool (flt .f64 y 0), undef, .bool (feq .f64 y 0), .float .f64 y, .bool (feq .f64 y 0), undef, .bool r4, .float .f64 y, .bool r4, undef, g25, g26, g27, g28, g29, g30, undef, undef, undef, undef, undef, undef, undef, undef, undef, undef, undef, undef, undef, undef, undef, undef, undef, undef, undef, undef, undef, undef, undef, undef, undef, undef, undef, undef, undef, undef, undef, undef, undef] H Q :=
  ⟨spec_l01LogWide_I1 r4 y Inv, ν, ⟨y_0, ve, g25, g26, g27, g28, g29, g30, rfl, h0⟩, fun μ tm H h => by obtain ⟨y_0, ve, g25, g26, g27, g28, g29, g30, rfl, hI⟩ := h; exact hs μ y_0 ve g25 g26 g27 g28 g29 g30 H hI⟩
theorem spec_l01LogWide_n1 {r4 : Bool} {y : Nat} {Q : Post} {Inv : Nat → Nat → Int → AHeap → Prop} {μ : Nat} (μ' : Nat) {y_0 : Nat} {ve : Int} {g25 g26 g27 g28 g29 g30 : Value} {H : AHeap} (hm : μ' < μ) (hI : Inv μ' y_0 ve H) : loopQ (spec_l01LogWide_I1 r4 y Inv) μ Q .normal [.float .f64 y_0, undef, .float .f64 0, .int .i64 ve, undef, undef, undef, undef, .bool (flt .f64 y 0), .float .f64 y, .float .f64 y, .bool (!(feq .f64 y y)), .bool false, .float .f64 y, .bool (flt .f64 y 0), .bool (flt .f64 y 0), undef, .bool (feq .f64 y 0), .float .f64 y, .bool (feq .f64 y 0), undef, .bool r4, .float .f64 y, .bool r4, undef, g25, g26, g27, g28, g29, g30, undef, undef, undef, undef, undef, undef, undef, undef, undef, undef, undef, undef, undef, undef, undef, undef, undef, undef, undef, undef, undef, undef, undef, undef, undef, undef, undef, undef, undef, undef, undef, undef, undef] H := ⟨μ', hm, y_0, ve, g25, g26, g27, g28, g29, g30, rfl, hI⟩
theorem spec_l01LogWide_x1_1 (r4 : Bool) (y : Nat) (y_0 : Nat) (ve : Int) (g25 g26 g27 g28 g29 g30 : Value) (H : AHeap) (K : Value → AHeap → Prop)  {I : Nat → List Value → AHeap → Prop} {μ : Nat} : loopQ I μ (blockQ 1 (seqQ (exK Try.prog E_spec_l01LogWide (cr (cr (cr (cr (bodyC Try.f121)))))) (retK Try.prog Try.f121 K))) (.exit 1) [.float .f64 y_0, undef, .float .f64 0, .int .i64 ve, undef, undef, undef, undef, .bool (flt .f64 y 0), .float .f64 y, .float .f64 y, .bool (!(feq .f64 y y)), .bool false, .float .f64 y, .bool (flt .f64 y 0), .bool (flt .f64 y 0), undef, .bool (feq .f64 y 0), .float .f64 y, .bool (feq .f64 y 0), undef, .bool r4, .float .f64 y, .bool r4, undef, g25, g26, g27, g28, g29, g30, undef, undef, undef, undef, undef, undef, undef, undef, undef, undef, undef, undef, undef, undef, undef, undef, undef, undef, undef, undef, undef, undef, undef, undef, undef, undef, undef, undef, undef, undef, undef, undef, undef] H =
  (loopK (exK Try.prog E_spec_l01LogWide (cl (cl (cl (cr (cr (cr (cr (bodyC Try.f121))))))))) [.float .f64 y_0, undef, .float .f64 0, .int .i64 ve, undef, undef, undef, undef, .bool (flt .f64 y 0), .float .f64 y, .float .f64 y, .bool (!(feq .f64 y y)), .bool false, .float .f64 y, .bool (flt .f64 y 0), .bool (flt .f64 y 0), undef, .bool (feq .f64 y 0), .float .f64 y, .bool (feq .f64 y 0), undef, .bool r4, .float .f64 y, .bool r4, undef, g25, g26, g27, g28, g29, g30, undef, undef, undef, undef, undef, undef, undef, undef, undef, undef, undef, undef, undef, undef, undef, undef, undef, undef, undef, undef, undef, undef, undef, undef, undef, undef, undef, undef, undef, undef, undef, undef, undef] H (blockQ 3 (seqQ (exK Try.prog E_spec_l01LogWide (cr (cr (cr (cr (cr (bodyC Try.f121))))))) (retK Try.prog Try.f121 K)))) := by kernel_rfl
theorem spec_l01LogWide_r2 (g25 : Value) (g26 : Value) (g27 : Value) (g28 : Value) (g29 : Value) (g30 : Value) (r4 : Bool) (y : Nat) (y_0' : Nat) (ve_3 : Int) (g31 g32 g33 g34 g35 g36 : Value) (H : AHeap) (R : Post) : exK Try.prog E_spec_l01LogWide (cl (cl (cl (cr (cr (cr (cr (bodyC Try.f121)))))))) [.float .f64 y_0', undef, .float .f64 0, .int .i64 ve_3, undef, undef, undef, undef, .bool (flt .f64 y 0), .float .f64 y, .float .f64 y, .bool (!(feq .f64 y y)), .bool false, .float .f64 y, .bool (flt .f64 y 0), .bool (flt .f64 y 0), undef, .bool (feq .f64 y 0), .float .f64 y, .bool (feq .f64 y 0), undef, .bool r4, .float .f64 y, .bool r4, undef, g25, g26, g27, g28, g29, g30, g31, g32, g33, g34, g35, g36, undef, undef, undef, undef, undef, undef, undef, undef, undef, undef, undef, undef, undef, undef, undef, undef, undef, undef, undef, undef, undef, undef, undef, undef, undef, undef, undef] H R =
  (Br (flt .f64 y_0' 4604930618986332160) (R .normal [.float .f64 (fmul .f64 y_0' 4611686018427387904), undef, .float .f64 0, .int .i64 (IntKind.wrap .i64 (ve_3 - 1)), undef, undef, undef, undef, .bool (flt .f64 y 0), .float .f64 y, .float .f64 y, .bool (!(feq .f64 y y)), .bool false, .float .f64 y, .bool (flt .f64 y 0), .bool (flt .f64 y 0), undef, .bool (feq .f64 y 0), .float .f64 y, .bool (feq .f64 y 0), undef, .bool r4, .float .f64 y, .bool r4, undef, g25, g26, g27, g28, g29, g30, .float .f64 y_0', .bool (flt .f64 y_0' 4604930618986332160), .float .f64 y_0', .float .f64 (fmul .f64 y_0' 4611686018427387904), .int .i64 ve_3, .int .i64 (IntKind.wrap .i64 (ve_3 - 1)), undef, undef, undef, undef, undef, undef, undef, undef, undef, undef, undef, undef, undef, undef, undef, undef, undef, undef, undef, undef, undef, undef, undef, undef, undef, undef, undef] H) (R (.exit 3) [.float .f64 y_0', undef, .float .f64 0, .int .i64 ve_3, undef, undef, undef, undef, .bool (flt .f64 y 0), .float .f64 y, .float .f64 y, .bool (!(feq .f64 y y)), .bool false, .float .f64 y, .bool (flt .f64 y 0), .bool (flt .f64 y 0), undef, .bool (feq .f64 y 0), .float .f64 y, .bool (feq .f64 y 0), undef, .bool r4, .float .f64 y, .bool r4, undef, g25, g26, g27, g28, g29, g30, .float .f64 y_0', .bool (flt .f64 y_0' 4604930618986332160), g33, g34, g35, g36, undef, undef, undef, undef, undef, undef, undef, undef, undef, undef, undef, undef, undef, undef, undef, undef, undef, undef, undef, undef, undef, undef, undef, undef, undef, undef, undef] H)) := by kernel_rfl
def spec_l01LogWide_I2 (g25 : Value) (g26 : Value) (g27 : Value) (g28 : Value) (g29 : Value) (g30 : Value) (r4 : Bool) (y : Nat) (Inv : Nat → Nat → Int → AHeap → Prop) : Nat → List Value → AHeap → Prop := fun μ tm H => ∃ (y_0' : Nat), ∃ (ve_3 : Int), ∃ g31 g32 g33 g34 g35 g36, tm = [.float .f64 y_0', undef, .float .f64 0, .int .i64 ve_3, undef, undef, undef, undef, .bool (flt .f64 y 0), .float .f64 y, .float .f64 y, .bool (!(feq .f64 y y)), .bool false, .float .f64 y, .bool (flt .f64 y 0), .bool (flt .f64 y 0), undef, .bool (feq .f64 y 0), .float .f64 y, .bool (feq .f64 y 0), undef, .bool r4, .float .f64 y, .bool r4, undef, g25, g26, g27, g28, g29, g30, g31, g32, g33, g34, g35, g36, undef, undef, undef, undef, undef, undef, undef, undef, undef, undef, undef, undef, undef, undef, undef, undef, undef, undef, undef, undef, undef, undef, undef, undef, undef, undef, undef] ∧ Inv μ y_0' ve_3 H
theorem spec_l01LogWide_L2 (g25 : Value) (g26 : Value) (g27 : Value) (g28 : Value) (g29 : Value) (g30 : Value) (r4 : Bool) (y : Nat) {Q : Post} (Inv : Nat → Nat → Int → AHeap → Prop) (ν : Nat) (y_0' : Nat) (ve_3 : Int) (g31 g32 g33 g34 g35 g36 : Value) (H : AHeap) (h0 : Inv ν y_0' ve_3 H)
    (hs : ∀ (μ : Nat) (y_0' : Nat) (ve_3 : Int) (g31 g32 g33 g34 g35 g36 : Value) (H : AHeap), Inv μ y_0' ve_3 H → exK Try.prog E_spec_l01LogWide (cl (cl (cl (cr (cr (cr (cr (bodyC Try.f121)))))))) [.float .f64 y_0', undef, .float .f64 0, .int .i64 ve_3, undef, undef, undef, undef, .bool (flt .f64 y 0), .float .f64 y, .float .f64 y, .bool (!(feq .f64 y y)), .bool false, .float .f64 y, .bool (flt .f64 y 0), .bool (flt .f64 y 0), undef, .bool (feq .f64 y 0), .float .f64 y, .bool (feq .f64 y 0), undef, .bool r4, .float .f64 y, .bool r4, undef, g25, g26, g27, g28, g29, g30, g31, g32, g33, g34, g35, g36, undef, undef, undef, undef, undef, undef, undef, undef, undef, undef, undef, undef, undef, undef, undef, undef, undef, undef, undef, undef, undef, undef, undef, undef, undef, undef, undef] H (loopQ (spec_l01LogWide_I2 g25 g26 g27 g28 g29 g30 r4 y Inv) μ Q)) : loopK (exK Try.prog E_spec_l01LogWide (cl (cl (cl (cr (cr (cr (cr (bodyC Try.f121))))))))) [.float .f64 y_0', undef, .float .f64 0, .int .i64 ve_3, undef, undef, undef, undef, .bool (flt .f64 y 0), .float .f64 y, .float .f64 y, .bool (!(feq .f64 y y)), .bool false, .float .f64 y, .bool (flt .f64 y 0), .bool (flt .f64 y 0), undef, .bool (feq .f64 y 0), .float .f64 y, .bool (feq .f64 y 0), undef, .bool r4, .float .f64 y, .bool r4, undef, g25, g26, g27, g28, g29, g30, g31, g32, g33, g34, g35, g36, undef, undef, undef, undef, undef, undef, undef, undef, undef, undef, undef, undef, undef, undef, undef, undef, undef, undef, undef, undef, undef, undef, undef, undef, undef, undef, undef] H Q :=
  ⟨spec_l01LogWide_I2 g25 g26 g27 g28 g29 g30 r4 y Inv, ν, ⟨y_0', ve_3, g31, g32, g33, g34, g35, g36, rfl, h0⟩, fun μ tm H h => by obtain ⟨y_0', ve_3, g31, g32, g33, g34, g35, g36, rfl, hI⟩ := h; exact hs μ y_0' ve_3 g31 g32 g33 g34 g35 g36 H hI⟩
theorem spec_l01LogWide_n2 {g25 : Value} {g26 : Value} {g27 : Value} {g28 : Value} {g29 : Value} {g30 : Value} {r4 : Bool} {y : Nat} {Q : Post} {Inv : Nat → Nat → Int → AHeap → Prop} {μ : Nat} (μ' : Nat) {y_0' : Nat} {ve_3 : Int} {g31 g32 g33 g34 g35 g36 : Value} {H : AHeap} (hm : μ' < μ) (hI : Inv μ' y_0' ve_3 H) : loopQ (spec_l01LogWide_I2 g25 g26 g27 g28 g29 g30 r4 y Inv) μ Q .normal [.float .f64 y_0', undef, .float .f64 0, .int .i64 ve_3, undef, undef, undef, undef, .bool (flt .f64 y 0), .float .f64 y, .float .f64 y, .bool (!(feq .f64 y y)), .bool false, .float .f64 y, .bool (flt .f64 y 0), .bool (flt .f64 y 0), undef, .bool (feq .f64 y 0), .float .f64 y, .bool (feq .f64 y 0), undef, .bool r4, .float .f64 y, .bool r4, undef, g25, g26, g27, g28, g29, g30, g31, g32, g33, g34, g35, g36, undef, undef, undef, undef, undef, undef, undef, undef, undef, undef, undef, undef, undef, undef, undef, undef, undef, undef, undef, undef, undef, undef, undef, undef, undef, undef, undef] H := ⟨μ', hm, y_0', ve_3, g31, g32, g33, g34, g35, g36, rfl, hI⟩
theorem spec_l01LogWide_x2_3 (g25 : Value) (g26 : Value) (g27 : Value) (g28 : Value) (g29 : Value) (g30 : Value) (r4 : Bool) (y : Nat) (y_0' : Nat) (ve_3 : Int) (g31 g32 g33 g34 g35 g36 : Value) (H : AHeap) (K : Value → AHeap → Prop)  {I : Nat → List Value → AHeap → Prop} {μ : Nat} : loopQ I μ (blockQ 3 (seqQ (exK Try.prog E_spec_l01LogWide (cr (cr (cr (cr (cr (bodyC Try.f121))))))) (retK Try.prog Try.f121 K))) (.exit 3) [.float .f64 y_0', undef, .float .f64 0, .int .i64 ve_3, undef, undef, undef, undef, .bool (flt .f64 y 0), .float .f64 y, .float .f64 y, .bool (!(feq .f64 y y)), .bool false, .float .f64 y, .bool (flt .f64 y 0), .bool (flt .f64 y 0), undef, .bool (feq .f64 y 0), .float .f64 y, .bool (feq .f64 y 0), undef, .bool r4, .float .f64 y, .bool r4, undef, g25, g26, g27, g28, g29, g30, g31, g32, g33, g34, g35, g36, undef, undef, undef, undef, undef, undef, undef, undef, undef, undef, undef, undef, undef, undef, undef, undef, undef, undef, undef, undef, undef, undef, undef, undef, undef, undef, undef] H =
  (loopK (exK Try.prog E_spec_l01LogWide (cl (cl (cr (cl (cr (cr (cr (cr (cr (cr (cr (cr (bodyC Try.f121)))))))))))))) [.float .f64 y_0', undef, .float .f64 0, .int .i64 ve_3, .float .f64 (fdiv .f64 (fsub .f64 y_0' 4607182418800017408) (fadd .f64 y_0' 4607182418800017408)), .float .f64 (fmul .f64 (fdiv .f64 (fsub .f64 y_0' 4607182418800017408) (fadd .f64 y_0' 4607182418800017408)) (fdiv .f64 (fsub .f64 y_0' 4607182418800017408) (fadd .f64 y_0' 4607182418800017408))), .float .f64 0, .int .i64 25, .bool (flt .f64 y 0), .float .f64 y, .float .f64 y, .bool (!(feq .f64 y y)), .bool false, .float .f64 y, .bool (flt .f64 y 0), .bool (flt .f64 y 0), undef, .bool (feq .f64 y 0), .float .f64 y, .bool (feq .f64 y 0), undef, .bool r4, .float .f64 y, .bool r4, undef, g25, g26, g27, g28, g29, g30, g31, g32, g33, g34, g35, g36, .float .f64 y_0', .float .f64 (fsub .f64 y_0' 4607182418800017408), .float .f64 y_0', .float .f64 (fadd .f64 y_0' 4607182418800017408), .float .f64 (fdiv .f64 (fsub .f64 y_0' 4607182418800017408) (fadd .f64 y_0' 4607182418800017408)), .float .f64 (fdiv .f64 (fsub .f64 y_0' 4607182418800017408) (fadd .f64 y_0' 4607182418800017408)), .float .f64 (fdiv .f64 (fsub .f64 y_0' 4607182418800017408) (fadd .f64 y_0' 4607182418800017408)), .float .f64 (fmul .f64 (fdiv .f64 (fsub .f64 y_0' 4607182418800017408) (fadd .f64 y_0' 4607182418800017408)) (fdiv .f64 (fsub .f64 y_0' 4607182418800017408) (fadd .f64 y_0' 4607182418800017408))), undef, undef, undef, undef, undef, undef, undef, undef, undef, undef, undef, undef, undef, undef, undef, undef, undef, undef, undef] H (blockQ 5 (seqQ (exK Try.prog E_spec_l01LogWide (cr (cr (cr (cr (cr (cr (cr (cr (cr (bodyC Try.f121))))))))))) (retK Try.prog Try.f121 K)))) := by kernel_rfl
theorem spec_l01LogWide_r3 (g25 : Value) (g26 : Value) (g27 : Value) (g28 : Value) (g29 : Value) (g30 : Value) (g31 : Value) (g32 : Value) (g33 : Value) (g34 : Value) (g35 : Value) (g36 : Value) (r4 : Bool) (ve_3 : Int) (y : Nat) (y_0' : Nat) (q : Nat) (k : Int) (g45 g46 g47 g48 g49 g50 g51 g52 g53 g54 g55 : Value) (H : AHeap) (R : Post) : exK Try.prog E_spec_l01LogWide (cl (cl (cr (cl (cr (cr (cr (cr (cr (cr (cr (cr (bodyC Try.f121))))))))))))) [.float .f64 y_0', undef, .float .f64 0, .int .i64 ve_3, .float .f64 (fdiv .f64 (fsub .f64 y_0' 4607182418800017408) (fadd .f64 y_0' 4607182418800017408)), .float .f64 (fmul .f64 (fdiv .f64 (fsub .f64 y_0' 4607182418800017408) (fadd .f64 y_0' 4607182418800017408)) (fdiv .f64 (fsub .f64 y_0' 4607182418800017408) (fadd .f64 y_0' 4607182418800017408))), .float .f64 q, .int .i64 k, .bool (flt .f64 y 0), .float .f64 y, .float .f64 y, .bool (!(feq .f64 y y)), .bool false, .float .f64 y, .bool (flt .f64 y 0), .bool (flt .f64 y 0), undef, .bool (feq .f64 y 0), .float .f64 y, .bool (feq .f64 y 0), undef, .bool r4, .float .f64 y, .bool r4, undef, g25, g26, g27, g28, g29, g30, g31, g32, g33, g34, g35, g36, .float .f64 y_0', .float .f64 (fsub .f64 y_0' 4607182418800017408), .float .f64 y_0', .float .f64 (fadd .f64 y_0' 4607182418800017408), .float .f64 (fdiv .f64 (fsub .f64 y_0' 4607182418800017408) (fadd .f64 y_0' 4607182418800017408)), .float .f64 (fdiv .f64 (fsub .f64 y_0' 4607182418800017408) (fadd .f64 y_0' 4607182418800017408)), .float .f64 (fdiv .f64 (fsub .f64 y_0' 4607182418800017408) (fadd .f64 y_0' 4607182418800017408)), .float .f64 (fmul .f64 (fdiv .f64 (fsub .f64 y_0' 4607182418800017408) (fadd .f64 y_0' 4607182418800017408)) (fdiv .f64 (fsub .f64 y_0' 4607182418800017408) (fadd .f64 y_0' 4607182418800017408))), g45, g46, g47, g48, g49, g50, g51, g52, g53, g54, g55, undef, undef, undef, undef, undef, undef, undef, undef] H R =
  (Br (decide ((1 : Int) ≤ k)) (R .normal [.float .f64 y_0', undef, .float .f64 0, .int .i64 ve_3, .float .f64 (fdiv .f64 (fsub .f64 y_0' 4607182418800017408) (fadd .f64 y_0' 4607182418800017408)), .float .f64 (fmul .f64 (fdiv .f64 (fsub .f64 y_0' 4607182418800017408) (fadd .f64 y_0' 4607182418800017408)) (fdiv .f64 (fsub .f64 y_0' 4607182418800017408) (fadd .f64 y_0' 4607182418800017408))), .float .f64 (fadd .f64 (fdiv .f64 4607182418800017408 (FloatKind.nearest .f64 k)) (fmul .f64 (fmul .f64 (fdiv .f64 (fsub .f64 y_0' 4607182418800017408) (fadd .f64 y_0' 4607182418800017408)) (fdiv .f64 (fsub .f64 y_0' 4607182418800017408) (fadd .f64 y_0' 4607182418800017408))) q)), .int .i64 (IntKind.wrap .i64 (k - 2)), .bool (flt .f64 y 0), .float .f64 y, .float .f64 y, .bool (!(feq .f64 y y)), .bool false, .float .f64 y, .bool (flt .f64 y 0), .bool (flt .f64 y 0), undef, .bool (feq .f64 y 0), .float .f64 y, .bool (feq .f64 y 0), undef, .bool r4, .float .f64 y, .bool r4, undef, g25, g26, g27, g28, g29, g30, g31, g32, g33, g34, g35, g36, .float .f64 y_0', .float .f64 (fsub .f64 y_0' 4607182418800017408), .float .f64 y_0', .float .f64 (fadd .f64 y_0' 4607182418800017408), .float .f64 (fdiv .f64 (fsub .f64 y_0' 4607182418800017408) (fadd .f64 y_0' 4607182418800017408)), .float .f64 (fdiv .f64 (fsub .f64 y_0' 4607182418800017408) (fadd .f64 y_0' 4607182418800017408)), .float .f64 (fdiv .f64 (fsub .f64 y_0' 4607182418800017408) (fadd .f64 y_0' 4607182418800017408)), .float .f64 (fmul .f64 (fdiv .f64 (fsub .f64 y_0' 4607182418800017408) (fadd .f64 y_0' 4607182418800017408)) (fdiv .f64 (fsub .f64 y_0' 4607182418800017408) (fadd .f64 y_0' 4607182418800017408))), .int .i64 k, .bool (decide ((1 : Int) ≤ k)), .int .i64 k, .int .i64 (IntKind.wrap .i64 (k - 2)), .int .i64 k, .float .f64 (FloatKind.nearest .f64 k), .float .f64 (fdiv .f64 4607182418800017408 (FloatKind.nearest .f64 k)), .float .f64 (fmul .f64 (fdiv .f64 (fsub .f64 y_0' 4607182418800017408) (fadd .f64 y_0' 4607182418800017408)) (fdiv .f64 (fsub .f64 y_0' 4607182418800017408) (fadd .f64 y_0' 4607182418800017408))), .float .f64 q, .float .f64 (fmul .f64 (fmul .f64 (fdiv .f64 (fsub .f64 y_0' 4607182418800017408) (fadd .f64 y_0' 4607182418800017408)) (fdiv .f64 (fsub .f64 y_0' 4607182418800017408) (fadd .f64 y_0' 4607182418800017408))) q), .float .f64 (fadd .f64 (fdiv .f64 4607182418800017408 (FloatKind.nearest .f64 k)) (fmul .f64 (fmul .f64 (fdiv .f64 (fsub .f64 y_0' 4607182418800017408) (fadd .f64 y_0' 4607182418800017408)) (fdiv .f64 (fsub .f64 y_0' 4607182418800017408) (fadd .f64 y_0' 4607182418800017408))) q)), undef, undef, undef, undef, undef, undef, undef, undef] H) (R (.exit 5) [.float .f64 y_0', undef, .float .f64 0, .int .i64 ve_3, .float .f64 (fdiv .f64 (fsub .f64 y_0' 4607182418800017408) (fadd .f64 y_0' 4607182418800017408)), .float .f64 (fmul .f64 (fdiv .f64 (fsub .f64 y_0' 4607182418800017408) (fadd .f64 y_0' 4607182418800017408)) (fdiv .f64 (fsub .f64 y_0' 4607182418800017408) (fadd .f64 y_0' 4607182418800017408))), .float .f64 q, .int .i64 k, .bool (flt .f64 y 0), .float .f64 y, .float .f64 y, .bool (!(feq .f64 y y)), .bool false, .float .f64 y, .bool (flt .f64 y 0), .bool (flt .f64 y 0), undef, .bool (feq .f64 y 0), .float .f64 y, .bool (feq .f64 y 0), undef, .bool r4, .float .f64 y, .bool r4, undef, g25, g26, g27, g28, g29, g30, g31, g32, g33, g34, g35, g36, .float .f64 y_0', .float .f64 (fsub .f64 y_0' 4607182418800017408), .float .f64 y_0', .float .f64 (fadd .f64 y_0' 4607182418800017408), .float .f64 (fdiv .f64 (fsub .f64 y_0' 4607182418800017408) (fadd .f64 y_0' 4607182418800017408)), .float .f64 (fdiv .f64 (fsub .f64 y_0' 4607182418800017408) (fadd .f64 y_0' 4607182418800017408)), .float .f64 (fdiv .f64 (fsub .f64 y_0' 4607182418800017408) (fadd .f64 y_0' 4607182418800017408)), .float .f64 (fmul .f64 (fdiv .f64 (fsub .f64 y_0' 4607182418800017408) (fadd .f64 y_0' 4607182418800017408)) (fdiv .f64 (fsub .f64 y_0' 4607182418800017408) (fadd .f64 y_0' 4607182418800017408))), .int .i64 k, .bool (decide ((1 : Int) ≤ k)), g47, g48, g49, g50, g51, g52, g53, g54, g55, undef, undef, undef, undef, undef, undef, undef, undef] H)) := by kernel_rfl
def spec_l01LogWide_I3 (g25 : Value) (g26 : Value) (g27 : Value) (g28 : Value) (g29 : Value) (g30 : Value) (g31 : Value) (g32 : Value) (g33 : Value) (g34 : Value) (g35 : Value) (g36 : Value) (r4 : Bool) (ve_3 : Int) (y : Nat) (y_0' : Nat) (Inv : Nat → Nat → Int → AHeap → Prop) : Nat → List Value → AHeap → Prop := fun μ tm H => ∃ (q : Nat), ∃ (k : Int), ∃ g45 g46 g47 g48 g49 g50 g51 g52 g53 g54 g55, tm = [.float .f64 y_0', undef, .float .f64 0, .int .i64 ve_3, .float .f64 (fdiv .f64 (fsub .f64 y_0' 4607182418800017408) (fadd .f64 y_0' 4607182418800017408)), .float .f64 (fmul .f64 (fdiv .f64 (fsub .f64 y_0' 4607182418800017408) (fadd .f64 y_0' 4607182418800017408)) (fdiv .f64 (fsub .f64 y_0' 4607182418800017408) (fadd .f64 y_0' 4607182418800017408))), .float .f64 q, .int .i64 k, .bool (flt .f64 y 0), .float .f64 y, .float .f64 y, .bool (!(feq .f64 y y)), .bool false, .float .f64 y, .bool (flt .f64 y 0), .bool (flt .f64 y 0), undef, .bool (feq .f64 y 0), .float .f64 y, .bool (feq .f64 y 0), undef, .bool r4, .float .f64 y, .bool r4, undef, g25, g26, g27, g28, g29, g30, g31, g32, g33, g34, g35, g36, .float .f64 y_0', .float .f64 (fsub .f64 y_0' 4607182418800017408), .float .f64 y_0', .float .f64 (fadd .f64 y_0' 4607182418800017408), .float .f64 (fdiv .f64 (fsub .f64 y_0' 4607182418800017408) (fadd .f64 y_0' 4607182418800017408)), .float .f64 (fdiv .f64 (fsub .f64 y_0' 4607182418800017408) (fadd .f64 y_0' 4607182418800017408)), .float .f64 (fdiv .f64 (fsub .f64 y_0' 4607182418800017408) (fadd .f64 y_0' 4607182418800017408)), .float .f64 (fmul .f64 (fdiv .f64 (fsub .f64 y_0' 4607182418800017408) (fadd .f64 y_0' 4607182418800017408)) (fdiv .f64 (fsub .f64 y_0' 4607182418800017408) (fadd .f64 y_0' 4607182418800017408))), g45, g46, g47, g48, g49, g50, g51, g52, g53, g54, g55, undef, undef, undef, undef, undef, undef, undef, undef] ∧ Inv μ q k H
theorem spec_l01LogWide_L3 (g25 : Value) (g26 : Value) (g27 : Value) (g28 : Value) (g29 : Value) (g30 : Value) (g31 : Value) (g32 : Value) (g33 : Value) (g34 : Value) (g35 : Value) (g36 : Value) (r4 : Bool) (ve_3 : Int) (y : Nat) (y_0' : Nat) {Q : Post} (Inv : Nat → Nat → Int → AHeap → Prop) (ν : Nat) (q : Nat) (k : Int) (g45 g46 g47 g48 g49 g50 g51 g52 g53 g54 g55 : Value) (H : AHeap) (h0 : Inv ν q k H)
    (hs : ∀ (μ : Nat) (q : Nat) (k : Int) (g45 g46 g47 g48 g49 g50 g51 g52 g53 g54 g55 : Value) (H : AHeap), Inv μ q k H → exK Try.prog E_spec_l01LogWide (cl (cl (cr (cl (cr (cr (cr (cr (cr (cr (cr (cr (bodyC Try.f121))))))))))))) [.float .f64 y_0', undef, .float .f64 0, .int .i64 ve_3, .float .f64 (fdiv .f64 (fsub .f64 y_0' 4607182418800017408) (fadd .f64 y_0' 4607182418800017408)), .float .f64 (fmul .f64 (fdiv .f64 (fsub .f64 y_0' 4607182418800017408) (fadd .f64 y_0' 4607182418800017408)) (fdiv .f64 (fsub .f64 y_0' 4607182418800017408) (fadd .f64 y_0' 4607182418800017408))), .float .f64 q, .int .i64 k, .bool (flt .f64 y 0), .float .f64 y, .float .f64 y, .bool (!(feq .f64 y y)), .bool false, .float .f64 y, .bool (flt .f64 y 0), .bool (flt .f64 y 0), undef, .bool (feq .f64 y 0), .float .f64 y, .bool (feq .f64 y 0), undef, .bool r4, .float .f64 y, .bool r4, undef, g25, g26, g27, g28, g29, g30, g31, g32, g33, g34, g35, g36, .float .f64 y_0', .float .f64 (fsub .f64 y_0' 4607182418800017408), .float .f64 y_0', .float .f64 (fadd .f64 y_0' 4607182418800017408), .float .f64 (fdiv .f64 (fsub .f64 y_0' 4607182418800017408) (fadd .f64 y_0' 4607182418800017408)), .float .f64 (fdiv .f64 (fsub .f64 y_0' 4607182418800017408) (fadd .f64 y_0' 4607182418800017408)), .float .f64 (fdiv .f64 (fsub .f64 y_0' 4607182418800017408) (fadd .f64 y_0' 4607182418800017408)), .float .f64 (fmul .f64 (fdiv .f64 (fsub .f64 y_0' 4607182418800017408) (fadd .f64 y_0' 4607182418800017408)) (fdiv .f64 (fsub .f64 y_0' 4607182418800017408) (fadd .f64 y_0' 4607182418800017408))), g45, g46, g47, g48, g49, g50, g51, g52, g53, g54, g55, undef, undef, undef, undef, undef, undef, undef, undef] H (loopQ (spec_l01LogWide_I3 g25 g26 g27 g28 g29 g30 g31 g32 g33 g34 g35 g36 r4 ve_3 y y_0' Inv) μ Q)) : loopK (exK Try.prog E_spec_l01LogWide (cl (cl (cr (cl (cr (cr (cr (cr (cr (cr (cr (cr (bodyC Try.f121)))))))))))))) [.float .f64 y_0', undef, .float .f64 0, .int .i64 ve_3, .float .f64 (fdiv .f64 (fsub .f64 y_0' 4607182418800017408) (fadd .f64 y_0' 4607182418800017408)), .float .f64 (fmul .f64 (fdiv .f64 (fsub .f64 y_0' 4607182418800017408) (fadd .f64 y_0' 4607182418800017408)) (fdiv .f64 (fsub .f64 y_0' 4607182418800017408) (fadd .f64 y_0' 4607182418800017408))), .float .f64 q, .int .i64 k, .bool (flt .f64 y 0), .float .f64 y, .float .f64 y, .bool (!(feq .f64 y y)), .bool false, .float .f64 y, .bool (flt .f64 y 0), .bool (flt .f64 y 0), undef, .bool (feq .f64 y 0), .float .f64 y, .bool (feq .f64 y 0), undef, .bool r4, .float .f64 y, .bool r4, undef, g25, g26, g27, g28, g29, g30, g31, g32, g33, g34, g35, g36, .float .f64 y_0', .float .f64 (fsub .f64 y_0' 4607182418800017408), .float .f64 y_0', .float .f64 (fadd .f64 y_0' 4607182418800017408), .float .f64 (fdiv .f64 (fsub .f64 y_0' 4607182418800017408) (fadd .f64 y_0' 4607182418800017408)), .float .f64 (fdiv .f64 (fsub .f64 y_0' 4607182418800017408) (fadd .f64 y_0' 4607182418800017408)), .float .f64 (fdiv .f64 (fsub .f64 y_0' 4607182418800017408) (fadd .f64 y_0' 4607182418800017408)), .float .f64 (fmul .f64 (fdiv .f64 (fsub .f64 y_0' 4607182418800017408) (fadd .f64 y_0' 4607182418800017408)) (fdiv .f64 (fsub .f64 y_0' 4607182418800017408) (fadd .f64 y_0' 4607182418800017408))), g45, g46, g47, g48, g49, g50, g51, g52, g53, g54, g55, undef, undef, undef, undef, undef, undef, undef, undef] H Q :=
  ⟨spec_l01LogWide_I3 g25 g26 g27 g28 g29 g30 g31 g32 g33 g34 g35 g36 r4 ve_3 y y_0' Inv, ν, ⟨q, k, g45, g46, g47, g48, g49, g50, g51, g52, g53, g54, g55, rfl, h0⟩, fun μ tm H h => by obtain ⟨q, k, g45, g46, g47, g48, g49, g50, g51, g52, g53, g54, g55, rfl, hI⟩ := h; exact hs μ q k g45 g46 g47 g48 g49 g50 g51 g52 g53 g54 g55 H hI⟩
theorem spec_l01LogWide_n3 {g25 : Value} {g26 : Value} {g27 : Value} {g28 : Value} {g29 : Value} {g30 : Value} {g31 : Value} {g32 : Value} {g33 : Value} {g34 : Value} {g35 : Value} {g36 : Value} {r4 : Bool} {ve_3 : Int} {y : Nat} {y_0' : Nat} {Q : Post} {Inv : Nat → Nat → Int → AHeap → Prop} {μ : Nat} (μ' : Nat) {q : Nat} {k : Int} {g45 g46 g47 g48 g49 g50 g51 g52 g53 g54 g55 : Value} {H : AHeap} (hm : μ' < μ) (hI : Inv μ' q k H) : loopQ (spec_l01LogWide_I3 g25 g26 g27 g28 g29 g30 g31 g32 g33 g34 g35 g36 r4 ve_3 y y_0' Inv) μ Q .normal [.float .f64 y_0', undef, .float .f64 0, .int .i64 ve_3, .float .f64 (fdiv .f64 (fsub .f64 y_0' 4607182418800017408) (fadd .f64 y_0' 4607182418800017408)), .float .f64 (fmul .f64 (fdiv .f64 (fsub .f64 y_0' 4607182418800017408) (fadd .f64 y_0' 4607182418800017408)) (fdiv .f64 (fsub .f64 y_0' 4607182418800017408) (fadd .f64 y_0' 4607182418800017408))), .float .f64 q, .int .i64 k, .bool (flt .f64 y 0), .float .f64 y, .float .f64 y, .bool (!(feq .f64 y y)), .bool false, .float .f64 y, .bool (flt .f64 y 0), .bool (flt .f64 y 0), undef, .bool (feq .f64 y 0), .float .f64 y, .bool (feq .f64 y 0), undef, .bool r4, .float .f64 y, .bool r4, undef, g25, g26, g27, g28, g29, g30, g31, g32, g33, g34, g35, g36, .float .f64 y_0', .float .f64 (fsub .f64 y_0' 4607182418800017408), .float .f64 y_0', .float .f64 (fadd .f64 y_0' 4607182418800017408), .float .f64 (fdiv .f64 (fsub .f64 y_0' 4607182418800017408) (fadd .f64 y_0' 4607182418800017408)), .float .f64 (fdiv .f64 (fsub .f64 y_0' 4607182418800017408) (fadd .f64 y_0' 4607182418800017408)), .float .f64 (fdiv .f64 (fsub .f64 y_0' 4607182418800017408) (fadd .f64 y_0' 4607182418800017408)), .float .f64 (fmul .f64 (fdiv .f64 (fsub .f64 y_0' 4607182418800017408) (fadd .f64 y_0' 4607182418800017408)) (fdiv .f64 (fsub .f64 y_0' 4607182418800017408) (fadd .f64 y_0' 4607182418800017408))), g45, g46, g47, g48, g49, g50, g51, g52, g53, g54, g55, undef, undef, undef, undef, undef, undef, undef, undef] H := ⟨μ', hm, q, k, g45, g46, g47, g48, g49, g50, g51, g52, g53, g54, g55, rfl, hI⟩
theorem spec_l01LogWide_x3_5 (g25 : Value) (g26 : Value) (g27 : Value) (g28 : Value) (g29 : Value) (g30 : Value) (g31 : Value) (g32 : Value) (g33 : Value) (g34 : Value) (g35 : Value) (g36 : Value) (r4 : Bool) (ve_3 : Int) (y : Nat) (y_0' : Nat) (q : Nat) (k : Int) (g45 g46 g47 g48 g49 g50 g51 g52 g53 g54 g55 : Value) (H : AHeap) (K : Value → AHeap → Prop)  {I : Nat → List Value → AHeap → Prop} {μ : Nat} : loopQ I μ (blockQ 5 (seqQ (exK Try.prog E_spec_l01LogWide (cr (cr (cr (cr (cr (cr (cr (cr (cr (bodyC Try.f121))))))))))) (retK Try.prog Try.f121 K))) (.exit 5) [.float .f64 y_0', undef, .float .f64 0, .int .i64 ve_3, .float .f64 (fdiv .f64 (fsub .f64 y_0' 4607182418800017408) (fadd .f64 y_0' 4607182418800017408)), .float .f64 (fmul .f64 (fdiv .f64 (fsub .f64 y_0' 4607182418800017408) (fadd .f64 y_0' 4607182418800017408)) (fdiv .f64 (fsub .f64 y_0' 4607182418800017408) (fadd .f64 y_0' 4607182418800017408))), .float .f64 q, .int .i64 k, .bool (flt .f64 y 0), .float .f64 y, .float .f64 y, .bool (!(feq .f64 y y)), .bool false, .float .f64 y, .bool (flt .f64 y 0), .bool (flt .f64 y 0), undef, .bool (feq .f64 y 0), .float .f64 y, .bool (feq .f64 y 0), undef, .bool r4, .float .f64 y, .bool r4, undef, g25, g26, g27, g28, g29, g30, g31, g32, g33, g34, g35, g36, .float .f64 y_0', .float .f64 (fsub .f64 y_0' 4607182418800017408), .float .f64 y_0', .float .f64 (fadd .f64 y_0' 4607182418800017408), .float .f64 (fdiv .f64 (fsub .f64 y_0' 4607182418800017408) (fadd .f64 y_0' 4607182418800017408)), .float .f64 (fdiv .f64 (fsub .f64 y_0' 4607182418800017408) (fadd .f64 y_0' 4607182418800017408)), .float .f64 (fdiv .f64 (fsub .f64 y_0' 4607182418800017408) (fadd .f64 y_0' 4607182418800017408)), .float .f64 (fmul .f64 (fdiv .f64 (fsub .f64 y_0' 4607182418800017408) (fadd .f64 y_0' 4607182418800017408)) (fdiv .f64 (fsub .f64 y_0' 4607182418800017408) (fadd .f64 y_0' 4607182418800017408))), g45, g46, g47, g48, g49, g50, g51, g52, g53, g54, g55, undef, undef, undef, undef, undef, undef, undef, undef] H =
  (K (.float .f64 (fadd .f64 (fmul .f64 4611686018427387904 (fmul .f64 (fdiv .f64 (fsub .f64 y_0' 4607182418800017408) (fadd .f64 y_0' 4607182418800017408)) q)) (fmul .f64 (FloatKind.nearest .f64 ve_3) 4604418534313441775))) H) := by kernel_rfl
theorem E_spec_l01LogWide_ok : ∀ g, FnOk Try.prog g (E_spec_l01LogWide g) := FnOk.envOf (by
  intro x hx
  simp only [List.mem_cons, List.not_mem_nil, or_false] at hx
  rcases hx with rfl | rfl | rfl
  · exact math_NaN_ok
  · exact math_Inf_ok
  · exact math_IsInf_ok)
set_option maxHeartbeats 1000000 in
theorem spec_l01LogWide_main (y : Nat) (H : AHeap) (K : Value → AHeap → Prop) (h : T_spec_l01LogWide y H fun (r1 : Nat) (H' : AHeap) => K (.float .f64 r1) H') : bodyK Try.prog E_spec_l01LogWide Try.f121 [.float .f64 y] H K := by
  rw [spec_l01LogWide_vc]
  obtain ⟨pr0, hk⟩ := h
  have e : (p_spec_l01LogWide y) = _ := rfl
  have e := e.trans (p_spec_l01LogWide_eq y)
  have g0 := Grow.refl H
  refine Br.intro (fun c_1 => ?_) (fun c_1 => ?_)
  · have e := e.trans (cond_t c_1)
    have c_1n := nf_of_t c_1
    refine T_math_NaN_i ?_
    rw [e] at hk
    exact hk
  · have e := e.trans (cond_f c_1)
    have c_1n := nt_of_f c_1
    refine Br.intro (fun c_2 => ?_) (fun c_2 => ?_)
    · have e := e.trans (cond_t c_2)
      refine T_math_NaN_i ?_
      rw [e] at hk
      exact hk
    · have e := e.trans (cond_f c_2)
      refine Br.intro (fun c_3 => ?_) (fun c_3 => ?_)
      · have e := e.trans (cond_t c_3)
        refine T_math_Inf_i ?_
        rw [e] at hk
        exact hk
      · have e := e.trans (cond_f c_3)
        refine T_math_IsInf_i ?_
        refine Br.intro (fun c_4 => ?_) (fun c_4 => ?_)
        · have e := e.trans (cond_t c_4)
          rw [e] at hk
          exact hk
        · have e := e.trans (cond_f c_4)
          have c_4' := math_IsInf_f c_4
          refine spec_l01LogWide_L1 _ _ (fun (μ : Nat) (y_0 : Nat) (ve : Int) (H_1 : AHeap) => H = H_1 ∧ 4503599627370496 ≤ y_0 ∧ y_0 < 9218868437227405312 ∧ (y_0 : Int) ≤ (μ : Int) ∧ p_spec_l01LogWide y = p_spec_l01LogWide_l1 y (μ + 1) y_0 ve) (Int.toNat ((y : Int))) _ _ _ _ _ _ _ _ H ?_ ?_
          · exact ⟨rfl, (by first | omega | (simp; done) | (simp; omega) | (first | (have := nrm_use (by assumption) (by assumption) (by assumption) (by assumption) ((by assumption : (1 : Int) = 1 → _) rfl); omega) | (have := half_step (by assumption) (by assumption) (by assumption); omega))), (by first | omega | (simp; done) | (simp; omega) | (first | (have := nrm_use (by assumption) (by assumption) (by assumption) (by assumption) ((by assumption : (1 : Int) = 1 → _) rfl); omega) | (have := half_step (by assumption) (by assumption) (by assumption); omega))), (by omega), e⟩
          · intro μ y_0 ve g25 g26 g27 g28 g29 g30 H_1 hI
            obtain ⟨rfl, v_5, v_6, hμ, e⟩ := hI
            rw [spec_l01LogWide_r1]
            have e := e.trans (p_spec_l01LogWide_l1_s y μ y_0 ve)
            have l_7 := g0.1
            refine Br.intro (fun c_8 => ?_) (fun c_8 => ?_)
            · have e := e.trans (cond_t c_8)
              refine spec_l01LogWide_n1 (μ - 1) (by first | omega | (have := half_step (by assumption) (by assumption) (by assumption); omega)) ⟨rfl, (by first | omega | (first | (have := nrm_use (by assumption) (by assumption) (by assumption) (by assumption) ((by assumption : (1 : Int) = 1 → _) rfl); omega) | (have := half_step (by assumption) (by assumption) (by assumption); omega)) | (simp only [List.length_append, List.length_cons, List.length_nil, List.length_set]; done) | (simp only [List.length_append, List.length_cons, List.length_nil, List.length_set]; omega)), (by first | omega | (first | (have := nrm_use (by assumption) (by assumption) (by assumption) (by assumption) ((by assumption : (1 : Int) = 1 → _) rfl); omega) | (have := half_step (by assumption) (by assumption) (by assumption); omega)) | (simp only [List.length_append, List.length_cons, List.length_nil, List.length_set]; done) | (simp only [List.length_append, List.length_cons, List.length_nil, List.length_set]; omega)), (by first | omega | (have := half_step (by assumption) (by assumption) (by assumption); omega)), (by rw [show μ - 1 + 1 = μ from by first | omega | (have := half_step (by assumption) (by assumption) (by assumption); omega)]; exact e)⟩
            · have e := e.trans (cond_f c_8)
              rw [spec_l01LogWide_x1_1]
              refine spec_l01LogWide_L2 _ _ _ _ _ _ _ _ (fun (μ2 : Nat) (y_0' : Nat) (ve_3 : Int) (H_2 : AHeap) => H = H_2 ∧ 4503599627370496 ≤ y_0' ∧ y_0' < 9218868437227405312 ∧ (4604930618986332160 : Int) - y_0' ≤ (μ2 : Int) ∧ p_spec_l01LogWide y = p_spec_l01LogWide_l2 y y_0 ve (fun (y_0' : Nat) (ve_3 : Int) => (p_spec_l01LogWide_l3 y y_0 ve y_0' ve_3 (fun (q : Nat) (k : Int) => fadd .f64 (fmul .f64 4611686018427387904 (fmul .f64 (fdiv .f64 (fsub .f64 y_0' 4607182418800017408) (fadd .f64 y_0' 4607182418800017408)) q)) (fmul .f64 (FloatKind.nearest .f64 ve_3) 4604418534313441775)) (Int.toNat ((25 : Int) + 1) + 1) 0 (25 : Int))) (μ2 + 1) y_0' ve_3) (Int.toNat ((4604930618986332160 : Int) - y_0)) _ _ _ _ _ _ _ _ H ?_ ?_
              · exact ⟨rfl, (by first | omega | (simp; done) | (simp; omega) | (have := twice_step (by assumption) (by assumption) (by assumption); omega)), (by first | omega | (simp; done) | (simp; omega) | (have := twice_step (by assumption) (by assumption) (by assumption); omega)), (by omega), e⟩
              · intro μ2 y_0' ve_3 g31 g32 g33 g34 g35 g36 H_2 hI
                obtain ⟨rfl, v_9, v_10, hμ, e⟩ := hI
                rw [spec_l01LogWide_r2]
                have e := e.trans (p_spec_l01LogWide_l2_s y y_0 ve (fun (y_0' : Nat) (ve_3 : Int) => (p_spec_l01LogWide_l3 y y_0 ve y_0' ve_3 (fun (q : Nat) (k : Int) => fadd .f64 (fmul .f64 4611686018427387904 (fmul .f64 (fdiv .f64 (fsub .f64 y_0' 4607182418800017408) (fadd .f64 y_0' 4607182418800017408)) q)) (fmul .f64 (FloatKind.nearest .f64 ve_3) 4604418534313441775)) (Int.toNat ((25 : Int) + 1) + 1) 0 (25 : Int))) μ2 y_0' ve_3)
                have l_11 := g0.1
                refine Br.intro (fun c_12 => ?_) (fun c_12 => ?_)
                · have e := e.trans (cond_t c_12)
                  refine spec_l01LogWide_n2 (μ2 - 1) (by first | omega | (have := twice_step (by assumption) (by assumption) (by assumption); omega)) ⟨rfl, (by first | omega | (have := twice_step (by assumption) (by assumption) (by assumption); omega) | (simp only [List.length_append, List.length_cons, List.length_nil, List.length_set]; done) | (simp only [List.length_append, List.length_cons, List.length_nil, List.length_set]; omega)), (by first | omega | (have := twice_step (by assumption) (by assumption) (by assumption); omega) | (simp only [List.length_append, List.length_cons, List.length_nil, List.length_set]; done) | (simp only [List.length_append, List.length_cons, List.length_nil, List.length_set]; omega)), (by first | omega | (have := twice_step (by assumption) (by assumption) (by assumption); omega)), (by rw [show μ2 - 1 + 1 = μ2 from by first | omega | (have := twice_step (by assumption) (by assumption) (by assumption); omega)]; exact e)⟩
                · have e := e.trans (cond_f c_12)
                  rw [spec_l01LogWide_x2_3]
                  refine spec_l01LogWide_L3 _ _ _ _ _ _ _ _ _ _ _ _ _ _ _ _ (fun (μ3 : Nat) (q : Nat) (k : Int) (H_3 : AHeap) => H = H_3 ∧ k ≤ 25 ∧ -1 ≤ k ∧ k + 1 ≤ (μ3 : Int) ∧ p_spec_l01LogWide y = p_spec_l01LogWide_l3 y y_0 ve y_0' ve_3 (fun (q : Nat) (k : Int) => fadd .f64 (fmul .f64 4611686018427387904 (fmul .f64 (fdiv .f64 (fsub .f64 y_0' 4607182418800017408) (fadd .f64 y_0' 4607182418800017408)) q)) (fmul .f64 (FloatKind.nearest .f64 ve_3) 4604418534313441775)) (μ3 + 1) q k) (Int.toNat ((25 : Int) + 1)) _ _ _ _ _ _ _ _ _ _ _ _ _ H ?_ ?_
                  · exact ⟨rfl, (by first | omega | (simp; done) | (simp; omega)), (by first | omega | (simp; done) | (simp; omega)), (by omega), e⟩
                  · intro μ3 q k g45 g46 g47 g48 g49 g50 g51 g52 g53 g54 g55 H_3 hI
                    obtain ⟨rfl, v_13, v_14, hμ, e⟩ := hI
                    rw [spec_l01LogWide_r3]
                    have e := e.trans (p_spec_l01LogWide_l3_s y y_0 ve y_0' ve_3 (fun (q : Nat) (k : Int) => fadd .f64 (fmul .f64 4611686018427387904 (fmul .f64 (fdiv .f64 (fsub .f64 y_0' 4607182418800017408) (fadd .f64 y_0' 4607182418800017408)) q)) (fmul .f64 (FloatKind.nearest .f64 ve_3) 4604418534313441775)) μ3 q k)
                    have l_15 := g0.1
                    refine Br.intro (fun c_16 => ?_) (fun c_16 => ?_)
                    · have e := e.trans (cond_t c_16)
                      have c_16' := of_decide_eq_true c_16
                      rw [show IntKind.wrap .i64 (k - 2) = (k - 2) from wrap64 (by omega) (by omega)]
                      refine spec_l01LogWide_n3 (μ3 - 1) (by first | omega) ⟨rfl, (by first | omega | (simp only [List.length_append, List.length_cons, List.length_nil, List.length_set]; done) | (simp only [List.length_append, List.length_cons, List.length_nil, List.length_set]; omega)), (by first | omega | (simp only [List.length_append, List.length_cons, List.length_nil, List.length_set]; done) | (simp only [List.length_append, List.length_cons, List.length_nil, List.length_set]; omega)), (by first | omega), (by rw [show μ3 - 1 + 1 = μ3 from by first | omega]; exact e)⟩
                    · have e := e.trans (cond_f c_16)
                      have c_16' := of_decide_eq_false c_16
                      rw [spec_l01LogWide_x3_5]
                      rw [e] at hk
                      exact hk
theorem spec_l01LogWide_ok : FnOk Try.prog 121 S_spec_l01LogWide := by
  refine FnOk.body mix_ok E_spec_l01LogWide_ok Try.func121 rfl (by kernel_rfl) (by kernel_rfl) ?_ ?_ ?_ ?_ ?_
  · intro args H K K' h hk
    simp only [S_spec_l01LogWide] at *
    unfold F_spec_l01LogWide at *
    split at hk
    · obtain ⟨pr0, k⟩ := hk
      exact ⟨pr0, h _ _ k⟩
    · exact hk.elim
  · intro _ args H K hk
    simp only [S_spec_l01LogWide] at *
    unfold F_spec_l01LogWide at *
    split at hk
    · obtain ⟨pr0, k⟩ := hk
      exact ⟨_, k, fun K' k' => ⟨pr0, k'⟩⟩
    · exact hk.elim
  · intro args H K hk
    simp only [S_spec_l01LogWide] at *
    unfold F_spec_l01LogWide at *
    split at hk
    · obtain ⟨pr0, k⟩ := hk
      exact ⟨_, _, k⟩
    · exact hk.elim
  · intro hq; cases hq
  · have mm := @spec_l01LogWide_main
    revert mm
    generalize bodyK Try.prog E_spec_l01LogWide Try.f121 = Q
    intro mm args H K hk
    simp only [S_spec_l01LogWide] at *
    unfold F_spec_l01LogWide at *
    split at hk
    · exact mm _ H K hk
    · exact hk.elim
def p_spec_l01Narrow (x : Nat) : Nat := ((fnarrow x).getD 0)
theorem p_spec_l01Narrow_eq (x : Nat) : p_spec_l01Narrow x = ((fnarrow x).getD 0) := rfl
def T_spec_l01Narrow (x : Nat) (H : AHeap) (K : Nat → AHeap → Prop) : Prop := fnarrow x ≠ none ∧ K (p_spec_l01Narrow x) H
theorem T_spec_l01Narrow_i {x : Nat} {H : AHeap} {K : Nat → AHeap → Prop} (h : fnarrow x ≠ none ∧ K (p_spec_l01Narrow x) H) : T_spec_l01Narrow x H K := h

/-! spec_l01Narrow: function 113 -/
def E_spec_l01Narrow : Env := envOf []
def F_spec_l01Narrow : List Value → AHeap → (Value → AHeap → Prop) → Prop
  | [.float .f64 x], H, K => T_spec_l01Narrow x H fun (r1 : Nat) (H' : AHeap) => K (.float .f32 r1) H'
  | _, _, _ => False
def S_spec_l01Narrow : FSpec := { F := F_spec_l01Narrow, quiet := true, tame := false }
theorem spec_l01Narrow_vc (x : Nat) (H : AHeap) (K : Value → AHeap → Prop) : bodyK Try.prog E_spec_l01Narrow Try.f113 [.float .f64 x] H K =
  (∃ x1 : Nat, fnarrow x = some x1 ∧ K (.float .f32 x1) H) := by kernel_rfl
theorem E_spec_l01Narrow_ok : ∀ g, FnOk Try.prog g (E_spec_l01Narrow g) := FnOk.envOf (by
  intro x hx; cases hx)
set_option maxHeartbeats 1000000 in
theorem spec_l01Narrow_main (x : Nat) (H : AHeap) (K : Value → AHeap → Prop) (h : T_spec_l01Narrow x H fun (r1 : Nat) (H' : AHeap) => K (.float .f32 r1) H') : bodyK Try.prog E_spec_l01Narrow Try.f113 [.float .f64 x] H K := by
  rw [spec_l01Narrow_vc]
  obtain ⟨pr0, hk⟩ := h
  have e : (p_spec_l01Narrow x) = _ := rfl
  have e := e.trans (p_spec_l01Narrow_eq x)
  have g0 := Grow.refl H
  refine ⟨_, opt_get (d := 0) (by assumption), ?_⟩
  rw [e] at hk
  exact hk
theorem spec_l01Narrow_ok : FnOk Try.prog 113 S_spec_l01Narrow := by
  refine FnOk.body mix_ok E_spec_l01Narrow_ok Try.func113 rfl (by kernel_rfl) (by kernel_rfl) ?_ ?_ ?_ ?_ ?_
  · intro args H K K' h hk
    simp only [S_spec_l01Narrow] at *
    unfold F_spec_l01Narrow at *
    split at hk
    · obtain ⟨pr0, k⟩ := hk
      exact ⟨pr0, h _ _ k⟩
    · exact hk.elim
  · intro _ args H K hk
    simp only [S_spec_l01Narrow] at *
    unfold F_spec_l01Narrow at *
    split at hk
    · obtain ⟨pr0, k⟩ := hk
      exact ⟨_, k, fun K' k' => ⟨pr0, k'⟩⟩
    · exact hk.elim
  · intro args H K hk
    simp only [S_spec_l01Narrow] at *
    unfold F_spec_l01Narrow at *
    split at hk
    · obtain ⟨pr0, k⟩ := hk
      exact ⟨_, _, k⟩
    · exact hk.elim
  · intro hq; cases hq
  · have mm := @spec_l01Narrow_main
    revert mm
    generalize bodyK Try.prog E_spec_l01Narrow Try.f113 = Q
    intro mm args H K hk
    simp only [S_spec_l01Narrow] at *
    unfold F_spec_l01Narrow at *
    split at hk
    · exact mm _ H K hk
    · exact hk.elim
def p_spec_l01Log (x : Nat) : Nat := (p_spec_l01Narrow ((p_spec_l01LogWide (fwide x))))
theorem p_spec_l01Log_eq (x : Nat) : p_spec_l01Log x = (p_spec_l01Narrow ((p_spec_l01LogWide (fwide x)))) := rfl
def T_spec_l01Log (x : Nat) (H : AHeap) (K : Nat → AHeap → Prop) : Prop := K (p_spec_l01Log x) H
theorem T_spec_l01Log_i {x : Nat} {H : AHeap} {K : Nat → AHeap → Prop} (h : K (p_spec_l01Log x) H) : T_spec_l01Log x H K := h

/-! spec_l01Log: function 81 -/
def E_spec_l01Log : Env := envOf [(121, S_spec_l01LogWide), (113, S_spec_l01Narrow)]
def F_spec_l01Log : List Value → AHeap → (Value → AHeap → Prop) → Prop
  | [.float .f32 x], H, K => T_spec_l01Log x H fun (r1 : Nat) (H' : AHeap) => K (.float .f32 r1) H'
  | _, _, _ => False
def S_spec_l01Log : FSpec := { F := F_spec_l01Log, quiet := true, tame := false }
theorem spec_l01Log_vc (x : Nat) (H : AHeap) (K : Value → AHeap → Prop) : bodyK Try.prog E_spec_l01Log Try.f81 [.float .f32 x] H K =
  (T_spec_l01LogWide (fwide x) H fun (r1 : Nat) (H1 : AHeap) => T_spec_l01Narrow r1 H1 fun (r2 : Nat) (H2 : AHeap) => K (.float .f32 r2) H2) := by kernel_rfl
theorem E_spec_l01Log_ok : ∀ g, FnOk Try.prog g (E_spec_l01Log g) := FnOk.envOf (by
  intro x hx
  simp only [List.mem_cons, List.not_mem_nil, or_false] at hx
  rcases hx with rfl | rfl
  · exact spec_l01LogWide_ok
  · exact spec_l01Narrow_ok)
set_option maxHeartbeats 1000000 in
theorem spec_l01Log_main (x : Nat) (H : AHeap) (K : Value → AHeap → Prop) (h : T_spec_l01Log x H fun (r1 : Nat) (H' : AHeap) => K (.float .f32 r1) H') : bodyK Try.prog E_spec_l01Log Try.f81 [.float .f32 x] H K := by
  rw [spec_l01Log_vc]
  have hk := h
  unfold T_spec_l01Log at hk
  have e : (p_spec_l01Log x) = _ := rfl
  have e := e.trans (p_spec_l01Log_eq x)
  have g0 := Grow.refl H
  refine T_spec_l01LogWide_i ⟨(by first | assumption | omega | (simp; omega) | (exact wide_nrm _)), ?_⟩
  refine T_spec_l01Narrow_i ⟨(by first | assumption | omega | (simp; omega) | (exact spec_log_nar _)), ?_⟩
  rw [e] at hk
  exact hk
theorem spec_l01Log_ok : FnOk Try.prog 81 S_spec_l01Log := by
  refine FnOk.body mix_ok E_spec_l01Log_ok Try.func81 rfl (by kernel_rfl) (by kernel_rfl) ?_ ?_ ?_ ?_ ?_
  · intro args H K K' h hk
    simp only [S_spec_l01Log] at *
    unfold F_spec_l01Log at *
    split at hk
    · have k := hk
      exact h _ _ k
    · exact hk.elim
  · intro _ args H K hk
    simp only [S_spec_l01Log] at *
    unfold F_spec_l01Log at *
    split at hk
    · have k := hk
      exact ⟨_, k, fun K' k' => k'⟩
    · exact hk.elim
  · intro args H K hk
    simp only [S_spec_l01Log] at *
    unfold F_spec_l01Log at *
    split at hk
    · have k := hk
      exact ⟨_, _, k⟩
    · exact hk.elim
  · intro hq; cases hq
  · have mm := @spec_l01Log_main
    revert mm
    generalize bodyK Try.prog E_spec_l01Log Try.f81 = Q
    intro mm args H K hk
    simp only [S_spec_l01Log] at *
    unfold F_spec_l01Log at *
    split at hk
    · exact mm _ H K hk
    · exact hk.elim
def p_spec_ClearnessOf (l_a : List Nat) (l_b : List Nat) : Nat × Bool := (bif !((p_spec_MissOfLists l_a l_b).2) then (0, false) else (bif !((p_spec_l02Above (fdiv .f32 (p_spec_l03Energy l_a) (FloatKind.nearest .f32 (l_a.length : Int))))) then (0, false) else (bif !(flt .f32 0 ((p_spec_MissOfLists l_a l_b).1)) then (0, false) else ((p_spec_l02Number (fmul .f32 1082849639 ((p_spec_l01Log (fdiv .f32 (fdiv .f32 (p_spec_l03Energy l_a) (FloatKind.nearest .f32 (l_a.length : Int))) ((p_spec_MissOfLists l_a l_b).1)))))).1, (p_spec_l02Number (fmul .f32 1082849639 ((p_spec_l01Log (fdiv .f32 (fdiv .f32 (p_spec_l03Energy l_a) (FloatKind.nearest .f32 (l_a.length : Int))) ((p_spec_MissOfLists l_a l_b).1)))))).2))))
theorem p_spec_ClearnessOf_eq (l_a : List Nat) (l_b : List Nat) : p_spec_ClearnessOf l_a l_b = (bif !((p_spec_MissOfLists l_a l_b).2) then (0, false) else (bif !((p_spec_l02Above (fdiv .f32 (p_spec_l03Energy l_a) (FloatKind.nearest .f32 (l_a.length : Int))))) then (0, false) else (bif !(flt .f32 0 ((p_spec_MissOfLists l_a l_b).1)) then (0, false) else ((p_spec_l02Number (fmul .f32 1082849639 ((p_spec_l01Log (fdiv .f32 (fdiv .f32 (p_spec_l03Energy l_a) (FloatKind.nearest .f32 (l_a.length : Int))) ((p_spec_MissOfLists l_a l_b).1)))))).1, (p_spec_l02Number (fmul .f32 1082849639 ((p_spec_l01Log (fdiv .f32 (fdiv .f32 (p_spec_l03Energy l_a) (FloatKind.nearest .f32 (l_a.length : Int))) ((p_spec_MissOfLists l_a l_b).1)))))).2)))) := rfl
def T_spec_ClearnessOf (a_a : Option Addr) (a_n : Nat) (a_e : Nat) (b_a : Option Addr) (b_n : Nat) (b_e : Nat) (H : AHeap) (K : Nat → Bool → AHeap → Prop) : Prop := ∃ (l_a : List Nat), ∃ (l_b : List Nat), IsL fF H a_a a_n l_a ∧ IsL fF H b_a b_n l_b ∧ l_a.length < 1073741824 ∧ l_b.length < 1073741824 ∧ K ((p_spec_ClearnessOf l_a l_b).1) ((p_spec_ClearnessOf l_a l_b).2) H
theorem T_spec_ClearnessOf_i {a_a : Option Addr} {a_n : Nat} {a_e : Nat} {b_a : Option Addr} {b_n : Nat} {b_e : Nat} {H : AHeap} {K : Nat → Bool → AHeap → Prop} (h : ∃ (l_a : List Nat), ∃ (l_b : List Nat), IsL fF H a_a a_n l_a ∧ IsL fF H b_a b_n l_b ∧ l_a.length < 1073741824 ∧ l_b.length < 1073741824 ∧ K ((p_spec_ClearnessOf l_a l_b).1) ((p_spec_ClearnessOf l_a l_b).2) H) : T_spec_ClearnessOf a_a a_n a_e b_a b_n b_e H K := h

/-! spec_ClearnessOf: function 33 -/
def E_spec_ClearnessOf : Env := envOf [(84, S_spec_MissOfLists), (76, S_spec_l03Energy), (58, S_spec_l02Above), (81, S_spec_l01Log), (60, S_spec_l02Number)]
def F_spec_ClearnessOf : List Value → AHeap → (Value → AHeap → Prop) → Prop
  | [.slice a_a a_n a_e, .slice b_a b_n b_e], H, K => T_spec_ClearnessOf a_a a_n a_e b_a b_n b_e H fun (r1 : Nat) (r2 : Bool) (H' : AHeap) => K (.tuple #[.float .f32 r1, .bool r2]) H'
  | _, _, _ => False
def S_spec_ClearnessOf : FSpec := { F := F_spec_ClearnessOf, quiet := true, tame := false }
theorem spec_ClearnessOf_vc (a_a : Option Addr) (a_n : Nat) (a_e : Nat) (b_a : Option Addr) (b_n : Nat) (b_e : Nat) (H : AHeap) (K : Value → AHeap → Prop) : bodyK Try.prog E_spec_ClearnessOf Try.f33 [.slice a_a a_n a_e, .slice b_a b_n b_e] H K =
  (T_spec_MissOfLists a_a a_n a_e b_a b_n b_e H fun (r1 : Nat) (r2 : Bool) (H1 : AHeap) => Br (!r2) (K (.tuple #[.float .f32 0, .bool false]) H1) (T_spec_l03Energy a_a a_n a_e H1 fun (r3 : Nat) (H2 : AHeap) => T_spec_l02Above (fdiv .f32 r3 (FloatKind.nearest .f32 (a_n : Int))) H2 fun (r4 : Bool) (H3 : AHeap) => Br (!r4) (K (.tuple #[.float .f32 0, .bool false]) H3) (Br (!(flt .f32 0 r1)) (K (.tuple #[.float .f32 0, .bool false]) H3) (T_spec_l01Log (fdiv .f32 (fdiv .f32 r3 (FloatKind.nearest .f32 (a_n : Int))) r1) H3 fun (r5 : Nat) (H4 : AHeap) => T_spec_l02Number (fmul .f32 1082849639 r5) H4 fun (r6 : Nat) (r7 : Bool) (H5 : AHeap) => K (.tuple #[.float .f32 r6, .bool r7]) H5)))) := by kernel_rfl
theorem E_spec_ClearnessOf_ok : ∀ g, FnOk Try.prog g (E_spec_ClearnessOf g) := FnOk.envOf (by
  intro x hx
  simp only [List.mem_cons, List.not_mem_nil, or_false] at hx
  rcases hx with rfl | rfl | rfl | rfl | rfl
  · exact spec_MissOfLists_ok
  · exact spec_l03Energy_ok
  · exact spec_l02Above_ok
  · exact spec_l01Log_ok
  · exact spec_l02Number_ok)
set_option maxHeartbeats 1000000 in
theorem spec_ClearnessOf_main (a_a : Option Addr) (a_n : Nat) (a_e : Nat) (b_a : Option Addr) (b_n : Nat) (b_e : Nat) (H : AHeap) (K : Value → AHeap → Prop) (h : T_spec_ClearnessOf a_a a_n a_e b_a b_n b_e H fun (r1 : Nat) (r2 : Bool) (H' : AHeap) => K (.tuple #[.float .f32 r1, .bool r2]) H') : bodyK Try.prog E_spec_ClearnessOf Try.f33 [.slice a_a a_n a_e, .slice b_a b_n b_e] H K := by
  rw [spec_ClearnessOf_vc]
  obtain ⟨l_a, l_b, i_a, i_b, bd_4, bd_5, hk⟩ := h
  obtain rfl := i_a.eqn
  obtain rfl := i_b.eqn
  have e : (p_spec_ClearnessOf l_a l_b) = _ := rfl
  have e := e.trans (p_spec_ClearnessOf_eq l_a l_b)
  have g0 := Grow.refl H
  refine T_spec_MissOfLists_i ⟨_, _, (i_a.grow g0), (i_b.grow g0), (by first | omega | (simp only [List.length_set, List.length_replicate, List.length_append, List.length_cons, List.length_nil, List.length_take, List.length_drop, marks_length]; done) | (simp only [List.length_set, List.length_replicate, List.length_append, List.length_cons, List.length_nil, List.length_take, List.length_drop, marks_length]; omega)), (by first | omega | (simp only [List.length_set, List.length_replicate, List.length_append, List.length_cons, List.length_nil, List.length_take, List.length_drop, marks_length]; done) | (simp only [List.length_set, List.length_replicate, List.length_append, List.length_cons, List.length_nil, List.length_take, List.length_drop, marks_length]; omega)), ?_⟩
  refine Br.intro (fun c_1 => ?_) (fun c_1 => ?_)
  · have e := e.trans (cond_t c_1)
    have c_1n := nf_of_t c_1
    rw [e] at hk
    exact hk
  · have e := e.trans (cond_f c_1)
    have c_1n := nt_of_f c_1
    refine T_spec_l03Energy_i ⟨_, (i_a.grow g0), (by first | omega | (simp only [List.length_set, List.length_replicate, List.length_append, List.length_cons, List.length_nil, List.length_take, List.length_drop, marks_length]; done) | (simp only [List.length_set, List.length_replicate, List.length_append, List.length_cons, List.length_nil, List.length_take, List.length_drop, marks_length]; omega)), ?_⟩
    refine T_spec_l02Above_i ?_
    refine Br.intro (fun c_2 => ?_) (fun c_2 => ?_)
    · have e := e.trans (cond_t c_2)
      have c_2n := nf_of_t c_2
      rw [e] at hk
      exact hk
    · have e := e.trans (cond_f c_2)
      have c_2n := nt_of_f c_2
      refine Br.intro (fun c_3 => ?_) (fun c_3 => ?_)
      · have e := e.trans (cond_t c_3)
        have c_3n := nf_of_t c_3
        rw [e] at hk
        exact hk
      · have e := e.trans (cond_f c_3)
        have c_3n := nt_of_f c_3
        refine T_spec_l01Log_i ?_
        refine T_spec_l02Number_i ?_
        rw [e] at hk
        exact hk
theorem spec_ClearnessOf_ok : FnOk Try.prog 33 S_spec_ClearnessOf := by
  refine FnOk.body mix_ok E_spec_ClearnessOf_ok Try.func33 rfl (by kernel_rfl) (by kernel_rfl) ?_ ?_ ?_ ?_ ?_
  · intro args H K K' h hk
    simp only [S_spec_ClearnessOf] at *
    unfold F_spec_ClearnessOf at *
    split at hk
    · obtain ⟨l_a, l_b, i_a, i_b, bd_4, bd_5, k⟩ := hk
      exact ⟨l_a, l_b, i_a, i_b, bd_4, bd_5, h _ _ k⟩
    · exact hk.elim
  · intro _ args H K hk
    simp only [S_spec_ClearnessOf] at *
    unfold F_spec_ClearnessOf at *
    split at hk
    · obtain ⟨l_a, l_b, i_a, i_b, bd_4, bd_5, k⟩ := hk
      exact ⟨_, k, fun K' k' => ⟨l_a, l_b, i_a, i_b, bd_4, bd_5, k'⟩⟩
    · exact hk.elim
  · intro args H K hk
    simp only [S_spec_ClearnessOf] at *
    unfold F_spec_ClearnessOf at *
    split at hk
    · obtain ⟨l_a, l_b, i_a, i_b, bd_4, bd_5, k⟩ := hk
      exact ⟨_, _, k⟩
    · exact hk.elim
  · intro hq; cases hq
  · have mm := @spec_ClearnessOf_main
    revert mm
    generalize bodyK Try.prog E_spec_ClearnessOf Try.f33 = Q
    intro mm args H K hk
    simp only [S_spec_ClearnessOf] at *
    unfold F_spec_ClearnessOf at *
    split at hk
    · exact mm _ _ _ _ _ _ H K hk
    · exact hk.elim
def p_impl_within (n : Int) (low : Int) (high : Int) : Bool := (bif decide ((low : Int) ≤ n) then decide ((n : Int) ≤ high) else false)
theorem p_impl_within_eq (n : Int) (low : Int) (high : Int) : p_impl_within n low high = (bif decide ((low : Int) ≤ n) then decide ((n : Int) ≤ high) else false) := rfl
def T_impl_within (n : Int) (low : Int) (high : Int) (H : AHeap) (K : Bool → AHeap → Prop) : Prop := K (p_impl_within n low high) H
theorem impl_within_t {n a b : Int} (h : p_impl_within n a b = true) : a ≤ n ∧ n ≤ b := by
  unfold p_impl_within at h
  by_cases h1 : a ≤ n
  · rw [decide_eq_true h1, cond_true] at h; exact ⟨h1, of_decide_eq_true h⟩
  · rw [decide_eq_false h1] at h; cases h
theorem T_impl_within_i {n : Int} {low : Int} {high : Int} {H : AHeap} {K : Bool → AHeap → Prop} (h : K (p_impl_within n low high) H) : T_impl_within n low high H K := h
/-! impl_within: function 72 -/
def E_impl_within : Env := envOf []
def F_impl_within : List Value → AHeap → (Value → AHeap → Prop) → Prop
  | [.int .i64 n, .int .i64 low, .int .i64 high], H, K => T_impl_within n low high H fun (r1 : Bool) (H' : AHeap) => K (.bool r1) H'
  | _, _, _ => False
def S_impl_within : FSpec := { F := F_impl_within, quiet := true, tame := false }
theorem impl_within_vc (n : Int) (low : Int) (high : Int) (H : AHeap) (K : Value → AHeap → Prop) : bodyK Try.prog E_impl_within Try.f72 [.int .i64 n, .int .i64 low, .int .i64 high] H K =
  (Br (decide ((low : Int) ≤ n)) (K (.bool (decide ((n : Int) ≤ high))) H) (K (.bool false) H)) := by kernel_rfl
theorem E_impl_within_ok : ∀ g, FnOk Try.prog g (E_impl_within g) := FnOk.envOf (by
  intro x hx; cases hx)
set_option maxHeartbeats 1000000 in
theorem impl_within_main (n : Int) (low : Int) (high : Int) (H : AHeap) (K : Value → AHeap → Prop) (h : T_impl_within n low high H fun (r1 : Bool) (H' : AHeap) => K (.bool r1) H') : bodyK Try.prog E_impl_within Try.f72 [.int .i64 n, .int .i64 low, .int .i64 high] H K := by
  rw [impl_within_vc]
  unfold T_impl_within p_impl_within at h
  repeat' (first | exact h | (exfalso; simp_all; done) | (refine ⟨by decide, ?_⟩) | (refine Br.intro (fun hb => ?_) (fun hb => ?_) <;> (try simp only [hb, cond_true, cond_false, Bool.not_true, Bool.not_false] at h)))
theorem impl_within_ok : FnOk Try.prog 72 S_impl_within := by
  refine FnOk.body mix_ok E_impl_within_ok Try.func72 rfl (by kernel_rfl) (by kernel_rfl) ?_ ?_ ?_ ?_ ?_
  · intro args H K K' h hk
    simp only [S_impl_within] at *
    unfold F_impl_within at *
    split at hk
    · have k := hk
      exact h _ _ k
    · exact hk.elim
  · intro _ args H K hk
    simp only [S_impl_within] at *
    unfold F_impl_within at *
    split at hk
    · have k := hk
      exact ⟨_, k, fun K' k' => k'⟩
    · exact hk.elim
  · intro args H K hk
    simp only [S_impl_within] at *
    unfold F_impl_within at *
    split at hk
    · have k := hk
      exact ⟨_, _, k⟩
    · exact hk.elim
  · intro hq; cases hq
  · have mm := @impl_within_main
    revert mm
    generalize bodyK Try.prog E_impl_within Try.f72 = Q
    intro mm args H K hk
    simp only [S_impl_within] at *
    unfold F_impl_within at *
    split at hk
    · exact mm _ _ _ H K hk
    · exact hk.elim
def p_impl_IsFinite (x : Nat) : Bool := feq .f32 (fsub .f32 x x) 0
theorem p_impl_IsFinite_eq (x : Nat) : p_impl_IsFinite x = feq .f32 (fsub .f32 x x) 0 := rfl
def T_impl_IsFinite (x : Nat) (H : AHeap) (K : Bool → AHeap → Prop) : Prop := K (p_impl_IsFinite x) H

theorem T_impl_IsFinite_i {x : Nat} {H : AHeap} {K : Bool → AHeap → Prop} (h : K (p_impl_IsFinite x) H) : T_impl_IsFinite x H K := h
/-! impl_IsFinite: function 62 -/
def E_impl_IsFinite : Env := envOf []
def F_impl_IsFinite : List Value → AHeap → (Value → AHeap → Prop) → Prop
  | [.float .f32 x], H, K => T_impl_IsFinite x H fun (r1 : Bool) (H' : AHeap) => K (.bool r1) H'
  | _, _, _ => False
def S_impl_IsFinite : FSpec := { F := F_impl_IsFinite, quiet := true, tame := false }
theorem impl_IsFinite_vc (x : Nat) (H : AHeap) (K : Value → AHeap → Prop) : bodyK Try.prog E_impl_IsFinite Try.f62 [.float .f32 x] H K =
  (K (.bool (feq .f32 (fsub .f32 x x) 0)) H) := by kernel_rfl
theorem E_impl_IsFinite_ok : ∀ g, FnOk Try.prog g (E_impl_IsFinite g) := FnOk.envOf (by
  intro x hx; cases hx)
set_option maxHeartbeats 1000000 in
theorem impl_IsFinite_main (x : Nat) (H : AHeap) (K : Value → AHeap → Prop) (h : T_impl_IsFinite x H fun (r1 : Bool) (H' : AHeap) => K (.bool r1) H') : bodyK Try.prog E_impl_IsFinite Try.f62 [.float .f32 x] H K := by
  rw [impl_IsFinite_vc]
  unfold T_impl_IsFinite p_impl_IsFinite at h
  repeat' (first | exact h | (exfalso; simp_all; done) | (refine ⟨by decide, ?_⟩) | (refine Br.intro (fun hb => ?_) (fun hb => ?_) <;> (try simp only [hb, cond_true, cond_false, Bool.not_true, Bool.not_false] at h)))
theorem impl_IsFinite_ok : FnOk Try.prog 62 S_impl_IsFinite := by
  refine FnOk.body mix_ok E_impl_IsFinite_ok Try.func62 rfl (by kernel_rfl) (by kernel_rfl) ?_ ?_ ?_ ?_ ?_
  · intro args H K K' h hk
    simp only [S_impl_IsFinite] at *
    unfold F_impl_IsFinite at *
    split at hk
    · have k := hk
      exact h _ _ k
    · exact hk.elim
  · intro _ args H K hk
    simp only [S_impl_IsFinite] at *
    unfold F_impl_IsFinite at *
    split at hk
    · have k := hk
      exact ⟨_, k, fun K' k' => k'⟩
    · exact hk.elim
  · intro args H K hk
    simp only [S_impl_IsFinite] at *
    unfold F_impl_IsFinite at *
    split at hk
    · have k := hk
      exact ⟨_, _, k⟩
    · exact hk.elim
  · intro hq; cases hq
  · have mm := @impl_IsFinite_main
    revert mm
    generalize bodyK Try.prog E_impl_IsFinite Try.f62 = Q
    intro mm args H K hk
    simp only [S_impl_IsFinite] at *
    unfold F_impl_IsFinite at *
    split at hk
    · exact mm _ H K hk
    · exact hk.elim
def p_impl_areFinite_l2 (l_lists : List (List Nat)) (t2 : Bool) (t9 : Int) (k2_2 : Bool → Int → Bool) : Nat → Bool → Int → Bool
  | 0, _, _ => false
  | μ2 + 1, t2_2, t15 => (bif decide ((t15 : Int) < ((((l_lists).getD (t9 : Int).toNat [])).length : Int)) then (bif !((p_impl_IsFinite (((((l_lists).getD (t9 : Int).toNat [])).getD (t15 : Int).toNat 0)))) then false else (p_impl_areFinite_l2 l_lists t2 t9 k2_2 μ2 t2_2 (t15 + 1))) else (k2_2 t2_2 t15))
theorem p_impl_areFinite_l2_s (l_lists : List (List Nat)) (t2 : Bool) (t9 : Int) (k2_2 : Bool → Int → Bool) (μ2 : Nat) (t2_2 : Bool) (t15 : Int) : p_impl_areFinite_l2 l_lists t2 t9 k2_2 (μ2 + 1) t2_2 t15 = (bif decide ((t15 : Int) < ((((l_lists).getD (t9 : Int).toNat [])).length : Int)) then (bif !((p_impl_IsFinite (((((l_lists).getD (t9 : Int).toNat [])).getD (t15 : Int).toNat 0)))) then false else (p_impl_areFinite_l2 l_lists t2 t9 k2_2 μ2 t2_2 (t15 + 1))) else (k2_2 t2_2 t15)) := rfl
def p_impl_areFinite_l1 (l_lists : List (List Nat)) : Nat → Bool → Int → Bool
  | 0, _, _ => false
  | μ + 1, t2, t9 => (bif decide ((t9 : Int) < (l_lists.length : Int)) then (p_impl_areFinite_l2 l_lists t2 t9 (fun (t2_2 : Bool) (t15 : Int) => (p_impl_areFinite_l1 l_lists μ t2_2 (t9 + 1))) (Int.toNat (((((l_lists).getD (t9 : Int).toNat [])).length : Int) - (0 : Int)) + 1) t2 (0 : Int)) else true)
theorem p_impl_areFinite_l1_s (l_lists : List (List Nat)) (μ : Nat) (t2 : Bool) (t9 : Int) : p_impl_areFinite_l1 l_lists (μ + 1) t2 t9 = (bif decide ((t9 : Int) < (l_lists.length : Int)) then (p_impl_areFinite_l2 l_lists t2 t9 (fun (t2_2 : Bool) (t15 : Int) => (p_impl_areFinite_l1 l_lists μ t2_2 (t9 + 1))) (Int.toNat (((((l_lists).getD (t9 : Int).toNat [])).length : Int) - (0 : Int)) + 1) t2 (0 : Int)) else true) := rfl
def p_impl_areFinite (l_lists : List (List Nat)) : Bool := (p_impl_areFinite_l1 l_lists (Int.toNat ((l_lists.length : Int) - (0 : Int)) + 1) false (0 : Int))
theorem p_impl_areFinite_eq (l_lists : List (List Nat)) : p_impl_areFinite l_lists = (p_impl_areFinite_l1 l_lists (Int.toNat ((l_lists.length : Int) - (0 : Int)) + 1) false (0 : Int)) := rfl
def T_impl_areFinite (lists_a : Option Addr) (lists_n : Nat) (lists_e : Nat) (H : AHeap) (K : Bool → AHeap → Prop) : Prop := ∃ (l_lists : List (List Nat)), IsLL fF H lists_a lists_n l_lists ∧ l_lists.length < 1073741824 ∧ (∀ y ∈ l_lists, y.length < 1073741824) ∧ K (p_impl_areFinite l_lists) H
theorem T_impl_areFinite_i {lists_a : Option Addr} {lists_n : Nat} {lists_e : Nat} {H : AHeap} {K : Bool → AHeap → Prop} (h : ∃ (l_lists : List (List Nat)), IsLL fF H lists_a lists_n l_lists ∧ l_lists.length < 1073741824 ∧ (∀ y ∈ l_lists, y.length < 1073741824) ∧ K (p_impl_areFinite l_lists) H) : T_impl_areFinite lists_a lists_n lists_e H K := h

/-! impl_areFinite: function 115 -/
def E_impl_areFinite : Env := envOf [(62, S_impl_IsFinite)]
def F_impl_areFinite : List Value → AHeap → (Value → AHeap → Prop) → Prop
  | [.slice lists_a lists_n lists_e], H, K => T_impl_areFinite lists_a lists_n lists_e H fun (r1 : Bool) (H' : AHeap) => K (.bool r1) H'
  | _, _, _ => False
def S_impl_areFinite : FSpec := { F := F_impl_areFinite, quiet := true, tame := false }
theorem impl_areFinite_vc (lists_a : Option Addr) (lists_n : Nat) (lists_e : Nat) (H : AHeap) (K : Value → AHeap → Prop) : bodyK Try.prog E_impl_areFinite Try.f115 [.slice lists_a lists_n lists_e] H K =
  (loopK (exK Try.prog E_impl_areFinite (cl (cl (cr (cl (cr (bodyC Try.f115))))))) [.slice lists_a lists_n lists_e, undef, .bool false, undef, undef, undef, undef, .slice lists_a lists_n lists_e, .int .i64 (lists_n : Int), .int .i64 0, undef, undef, undef, undef, undef, undef, undef, undef, undef, undef, undef, undef, undef, undef] H (blockQ 0 (seqQ (exK Try.prog E_impl_areFinite (cr (cr (bodyC Try.f115)))) (retK Try.prog Try.f115 K)))) := by kernel_rfl
theorem impl_areFinite_r1 (lists_a : Option Addr) (lists_e : Nat) (lists_n : Nat) (t2 : Bool) (t9 : Int) (g4 g6 g10 g11 g12 g13 g14 g15 g16 g17 g18 g19 g20 g21 g22 g23 : Value) (H : AHeap) (R : Post) : exK Try.prog E_impl_areFinite (cl (cl (cr (cl (cr (bodyC Try.f115)))))) [.slice lists_a lists_n lists_e, undef, .bool t2, undef, g4, undef, g6, .slice lists_a lists_n lists_e, .int .i64 (lists_n : Int), .int .i64 t9, g10, g11, g12, g13, g14, g15, g16, g17, g18, g19, g20, g21, g22, g23] H R =
  (Br (decide ((t9 : Int) < (lists_n : Int))) ((0 : Int) ≤ t9 ∧ t9 < (lists_n : Int) ∧ ∃ b1 f1, (lists_a : Option Addr) = some ⟨b1, f1, none⟩ ∧ ∃ x1_a : Option Addr, ∃ x1_n : Nat, ∃ x1_e : Nat,  rdC H b1 (f1 + (t9 : Int).toNat * 1) = some (.slice x1_a x1_n x1_e) ∧ loopK (exK Try.prog E_impl_areFinite (cl (cl (cr (cr (cl (cl (cr (cr (cl (cl (cr (cl (cr (bodyC Try.f115))))))))))))))) [.slice lists_a lists_n lists_e, undef, .bool t2, undef, .slice x1_a x1_n x1_e, undef, g6, .slice lists_a lists_n lists_e, .int .i64 (lists_n : Int), .int .i64 t9, .bool (decide ((t9 : Int) < (lists_n : Int))), .pointer (some ⟨b1, f1 + (t9 : Int).toNat * 1, none⟩), .slice x1_a x1_n x1_e, .slice x1_a x1_n x1_e, .int .i64 (x1_n : Int), .int .i64 0, g16, g17, g18, g19, g20, g21, g22, g23] H (blockQ 2 (blockQ 1 (seqQ (exK Try.prog E_impl_areFinite (cr (cr (cr (cl (cl (cr (cl (cr (bodyC Try.f115)))))))))) (R))))) (R (.exit 0) [.slice lists_a lists_n lists_e, undef, .bool t2, undef, g4, undef, g6, .slice lists_a lists_n lists_e, .int .i64 (lists_n : Int), .int .i64 t9, .bool (decide ((t9 : Int) < (lists_n : Int))), g11, g12, g13, g14, g15, g16, g17, g18, g19, g20, g21, g22, g23] H)) := by kernel_rfl
def impl_areFinite_I1 (lists_a : Option Addr) (lists_e : Nat) (lists_n : Nat) (Inv : Nat → Bool → Int → AHeap → Prop) : Nat → List Value → AHeap → Prop := fun μ tm H => ∃ (t2 : Bool), ∃ (t9 : Int), ∃ g4 g6 g10 g11 g12 g13 g14 g15 g16 g17 g18 g19 g20 g21 g22 g23, tm = [.slice lists_a lists_n lists_e, undef, .bool t2, undef, g4, undef, g6, .slice lists_a lists_n lists_e, .int .i64 (lists_n : Int), .int .i64 t9, g10, g11, g12, g13, g14, g15, g16, g17, g18, g19, g20, g21, g22, g23] ∧ Inv μ t2 t9 H
theorem impl_areFinite_L1 (lists_a : Option Addr) (lists_e : Nat) (lists_n : Nat) {Q : Post} (Inv : Nat → Bool → Int → AHeap → Prop) (ν : Nat) (t2 : Bool) (t9 : Int) (g4 g6 g10 g11 g12 g13 g14 g15 g16 g17 g18 g19 g20 g21 g22 g23 : Value) (H : AHeap) (h0 : Inv ν t2 t9 H)
    (hs : ∀ (μ : Nat) (t2 : Bool) (t9 : Int) (g4 g6 g10 g11 g12 g13 g14 g15 g16 g17 g18 g19 g20 g21 g22 g23 : Value) (H : AHeap), Inv μ t2 t9 H → exK Try.prog E_impl_areFinite (cl (cl (cr (cl (cr (bodyC Try.f115)))))) [.slice lists_a lists_n lists_e, undef, .bool t2, undef, g4, undef, g6, .slice lists_a lists_n lists_e, .int .i64 (lists_n : Int), .int .i64 t9, g10, g11, g12, g13, g14, g15, g16, g17, g18, g19, g20, g21, g22, g23] H (loopQ (impl_areFinite_I1 lists_a lists_e lists_n Inv) μ Q)) : loopK (exK Try.prog E_impl_areFinite (cl (cl (cr (cl (cr (bodyC Try.f115))))))) [.slice lists_a lists_n lists_e, undef, .bool t2, undef, g4, undef, g6, .slice lists_a lists_n lists_e, .int .i64 (lists_n : Int), .int .i64 t9, g10, g11, g12, g13, g14, g15, g16, g17, g18, g19, g20, g21, g22, g23] H Q :=
  ⟨impl_areFinite_I1 lists_a lists_e lists_n Inv, ν, ⟨t2, t9, g4, g6, g10, g11, g12, g13, g14, g15, g16, g17, g18, g19, g20, g21, g22, g23, rfl, h0⟩, fun μ tm H h => by obtain ⟨t2, t9, g4, g6, g10, g11, g12, g13, g14, g15, g16, g17, g18, g19, g20, g21, g22, g23, rfl, hI⟩ := h; exact hs μ t2 t9 g4 g6 g10 g11 g12 g13 g14 g15 g16 g17 g18 g19 g20 g21 g22 g23 H hI⟩
theorem impl_areFinite_n1 {lists_a : Option Addr} {lists_e : Nat} {lists_n : Nat} {Q : Post} {Inv : Nat → Bool → Int → AHeap → Prop} {μ : Nat} (μ' : Nat) {t2 : Bool} {t9 : Int} {g4 g6 g10 g11 g12 g13 g14 g15 g16 g17 g18 g19 g20 g21 g22 g23 : Value} {H : AHeap} (hm : μ' < μ) (hI : Inv μ' t2 t9 H) : loopQ (impl_areFinite_I1 lists_a lists_e lists_n Inv) μ Q .normal [.slice lists_a lists_n lists_e, undef, .bool t2, undef, g4, undef, g6, .slice lists_a lists_n lists_e, .int .i64 (lists_n : Int), .int .i64 t9, g10, g11, g12, g13, g14, g15, g16, g17, g18, g19, g20, g21, g22, g23] H := ⟨μ', hm, t2, t9, g4, g6, g10, g11, g12, g13, g14, g15, g16, g17, g18, g19, g20, g21, g22, g23, rfl, hI⟩
theorem impl_areFinite_x1_0 (lists_a : Option Addr) (lists_e : Nat) (lists_n : Nat) (t2 : Bool) (t9 : Int) (g4 g6 g10 g11 g12 g13 g14 g15 g16 g17 g18 g19 g20 g21 g22 g23 : Value) (H : AHeap) (K : Value → AHeap → Prop)  {I : Nat → List Value → AHeap → Prop} {μ : Nat} : loopQ I μ (blockQ 0 (seqQ (exK Try.prog E_impl_areFinite (cr (cr (bodyC Try.f115)))) (retK Try.prog Try.f115 K))) (.exit 0) [.slice lists_a lists_n lists_e, undef, .bool t2, undef, g4, undef, g6, .slice lists_a lists_n lists_e, .int .i64 (lists_n : Int), .int .i64 t9, g10, g11, g12, g13, g14, g15, g16, g17, g18, g19, g20, g21, g22, g23] H =
  (K (.bool true) H) := by kernel_rfl
theorem impl_areFinite_x1_ret (lists_a : Option Addr) (lists_e : Nat) (lists_n : Nat) (t2 : Bool) (t9 : Int) (g4 g6 g10 g11 g12 g13 g14 g15 g16 g17 g18 g19 g20 g21 g22 g23 : Value) (H : AHeap) (K : Value → AHeap → Prop)  {I : Nat → List Value → AHeap → Prop} {μ : Nat} : loopQ I μ (blockQ 0 (seqQ (exK Try.prog E_impl_areFinite (cr (cr (bodyC Try.f115)))) (retK Try.prog Try.f115 K))) .ret [.slice lists_a lists_n lists_e, undef, .bool t2, undef, g4, undef, g6, .slice lists_a lists_n lists_e, .int .i64 (lists_n : Int), .int .i64 t9, g10, g11, g12, g13, g14, g15, g16, g17, g18, g19, g20, g21, g22, g23] H =
  (K (.bool t2) H) := by kernel_rfl
theorem impl_areFinite_r2 (b1 : Nat) (f1 : Nat) (g23 : Value) (lists_a : Option Addr) (lists_e : Nat) (lists_n : Nat) (t9 : Int) (x1_a : Option Addr) (x1_e : Nat) (x1_n : Nat) (t2_2 : Bool) (t15 : Int) (g6 g16 g17 g18 g19 g20 g21 g22 : Value) (H : AHeap) (R : Post) : exK Try.prog E_impl_areFinite (cl (cl (cr (cr (cl (cl (cr (cr (cl (cl (cr (cl (cr (bodyC Try.f115)))))))))))))) [.slice lists_a lists_n lists_e, undef, .bool t2_2, undef, .slice x1_a x1_n x1_e, undef, g6, .slice lists_a lists_n lists_e, .int .i64 (lists_n : Int), .int .i64 t9, .bool (decide ((t9 : Int) < (lists_n : Int))), .pointer (some ⟨b1, f1 + (t9 : Int).toNat * 1, none⟩), .slice x1_a x1_n x1_e, .slice x1_a x1_n x1_e, .int .i64 (x1_n : Int), .int .i64 t15, g16, g17, g18, g19, g20, g21, g22, g23] H R =
  (Br (decide ((t15 : Int) < (x1_n : Int))) ((0 : Int) ≤ t15 ∧ t15 < (x1_n : Int) ∧ ∃ b2 f2, (x1_a : Option Addr) = some ⟨b2, f2, none⟩ ∧ ∃ x2 : Nat,  rdC H b2 (f2 + (t15 : Int).toNat * 1) = some (.float .f32 x2) ∧ T_impl_IsFinite x2 H fun (r1 : Bool) (H1 : AHeap) => Br (!r1) (R .ret [.slice lists_a lists_n lists_e, undef, .bool false, undef, .slice x1_a x1_n x1_e, undef, .float .f32 x2, .slice lists_a lists_n lists_e, .int .i64 (lists_n : Int), .int .i64 t9, .bool (decide ((t9 : Int) < (lists_n : Int))), .pointer (some ⟨b1, f1 + (t9 : Int).toNat * 1, none⟩), .slice x1_a x1_n x1_e, .slice x1_a x1_n x1_e, .int .i64 (x1_n : Int), .int .i64 t15, .bool (decide ((t15 : Int) < (x1_n : Int))), .pointer (some ⟨b2, f2 + (t15 : Int).toNat * 1, none⟩), .float .f32 x2, .float .f32 x2, .bool r1, .bool (!r1), g22, g23] H1) (R .normal [.slice lists_a lists_n lists_e, undef, .bool t2_2, undef, .slice x1_a x1_n x1_e, undef, .float .f32 x2, .slice lists_a lists_n lists_e, .int .i64 (lists_n : Int), .int .i64 t9, .bool (decide ((t9 : Int) < (lists_n : Int))), .pointer (some ⟨b1, f1 + (t9 : Int).toNat * 1, none⟩), .slice x1_a x1_n x1_e, .slice x1_a x1_n x1_e, .int .i64 (x1_n : Int), .int .i64 (IntKind.wrap .i64 (t15 + 1)), .bool (decide ((t15 : Int) < (x1_n : Int))), .pointer (some ⟨b2, f2 + (t15 : Int).toNat * 1, none⟩), .float .f32 x2, .float .f32 x2, .bool r1, .bool (!r1), .int .i64 (IntKind.wrap .i64 (t15 + 1)), g23] H1)) (R (.exit 2) [.slice lists_a lists_n lists_e, undef, .bool t2_2, undef, .slice x1_a x1_n x1_e, undef, g6, .slice lists_a lists_n lists_e, .int .i64 (lists_n : Int), .int .i64 t9, .bool (decide ((t9 : Int) < (lists_n : Int))), .pointer (some ⟨b1, f1 + (t9 : Int).toNat * 1, none⟩), .slice x1_a x1_n x1_e, .slice x1_a x1_n x1_e, .int .i64 (x1_n : Int), .int .i64 t15, .bool (decide ((t15 : Int) < (x1_n : Int))), g17, g18, g19, g20, g21, g22, g23] H)) := by kernel_rfl
def impl_areFinite_I2 (b1 : Nat) (f1 : Nat) (g23 : Value) (lists_a : Option Addr) (lists_e : Nat) (lists_n : Nat) (t9 : Int) (x1_a : Option Addr) (x1_e : Nat) (x1_n : Nat) (Inv : Nat → Bool → Int → AHeap → Prop) : Nat → List Value → AHeap → Prop := fun μ tm H => ∃ (t2_2 : Bool), ∃ (t15 : Int), ∃ g6 g16 g17 g18 g19 g20 g21 g22, tm = [.slice lists_a lists_n lists_e, undef, .bool t2_2, undef, .slice x1_a x1_n x1_e, undef, g6, .slice lists_a lists_n lists_e, .int .i64 (lists_n : Int), .int .i64 t9, .bool (decide ((t9 : Int) < (lists_n : Int))), .pointer (some ⟨b1, f1 + (t9 : Int).toNat * 1, none⟩), .slice x1_a x1_n x1_e, .slice x1_a x1_n x1_e, .int .i64 (x1_n : Int), .int .i64 t15, g16, g17, g18, g19, g20, g21, g22, g23] ∧ Inv μ t2_2 t15 H
theorem impl_areFinite_L2 (b1 : Nat) (f1 : Nat) (g23 : Value) (lists_a : Option Addr) (lists_e : Nat) (lists_n : Nat) (t9 : Int) (x1_a : Option Addr) (x1_e : Nat) (x1_n : Nat) {Q : Post} (Inv : Nat → Bool → Int → AHeap → Prop) (ν : Nat) (t2_2 : Bool) (t15 : Int) (g6 g16 g17 g18 g19 g20 g21 g22 : Value) (H : AHeap) (h0 : Inv ν t2_2 t15 H)
    (hs : ∀ (μ : Nat) (t2_2 : Bool) (t15 : Int) (g6 g16 g17 g18 g19 g20 g21 g22 : Value) (H : AHeap), Inv μ t2_2 t15 H → exK Try.prog E_impl_areFinite (cl (cl (cr (cr (cl (cl (cr (cr (cl (cl (cr (cl (cr (bodyC Try.f115)))))))))))))) [.slice lists_a lists_n lists_e, undef, .bool t2_2, undef, .slice x1_a x1_n x1_e, undef, g6, .slice lists_a lists_n lists_e, .int .i64 (lists_n : Int), .int .i64 t9, .bool (decide ((t9 : Int) < (lists_n : Int))), .pointer (some ⟨b1, f1 + (t9 : Int).toNat * 1, none⟩), .slice x1_a x1_n x1_e, .slice x1_a x1_n x1_e, .int .i64 (x1_n : Int), .int .i64 t15, g16, g17, g18, g19, g20, g21, g22, g23] H (loopQ (impl_areFinite_I2 b1 f1 g23 lists_a lists_e lists_n t9 x1_a x1_e x1_n Inv) μ Q)) : loopK (exK Try.prog E_impl_areFinite (cl (cl (cr (cr (cl (cl (cr (cr (cl (cl (cr (cl (cr (bodyC Try.f115))))))))))))))) [.slice lists_a lists_n lists_e, undef, .bool t2_2, undef, .slice x1_a x1_n x1_e, undef, g6, .slice lists_a lists_n lists_e, .int .i64 (lists_n : Int), .int .i64 t9, .bool (decide ((t9 : Int) < (lists_n : Int))), .pointer (some ⟨b1, f1 + (t9 : Int).toNat * 1, none⟩), .slice x1_a x1_n x1_e, .slice x1_a x1_n x1_e, .int .i64 (x1_n : Int), .int .i64 t15, g16, g17, g18, g19, g20, g21, g22, g23] H Q :=
  ⟨impl_areFinite_I2 b1 f1 g23 lists_a lists_e lists_n t9 x1_a x1_e x1_n Inv, ν, ⟨t2_2, t15, g6, g16, g17, g18, g19, g20, g21, g22, rfl, h0⟩, fun μ tm H h => by obtain ⟨t2_2, t15, g6, g16, g17, g18, g19, g20, g21, g22, rfl, hI⟩ := h; exact hs μ t2_2 t15 g6 g16 g17 g18 g19 g20 g21 g22 H hI⟩
theorem impl_areFinite_n2 {b1 : Nat} {f1 : Nat} {g23 : Value} {lists_a : Option Addr} {lists_e : Nat} {lists_n : Nat} {t9 : Int} {x1_a : Option Addr} {x1_e : Nat} {x1_n : Nat} {Q : Post} {Inv : Nat → Bool → Int → AHeap → Prop} {μ : Nat} (μ' : Nat) {t2_2 : Bool} {t15 : Int} {g6 g16 g17 g18 g19 g20 g21 g22 : Value} {H : AHeap} (hm : μ' < μ) (hI : Inv μ' t2_2 t15 H) : loopQ (impl_areFinite_I2 b1 f1 g23 lists_a lists_e lists_n t9 x1_a x1_e x1_n Inv) μ Q .normal [.slice lists_a lists_n lists_e, undef, .bool t2_2, undef, .slice x1_a x1_n x1_e, undef, g6, .slice lists_a lists_n lists_e, .int .i64 (lists_n : Int), .int .i64 t9, .bool (decide ((t9 : Int) < (lists_n : Int))), .pointer (some ⟨b1, f1 + (t9 : Int).toNat * 1, none⟩), .slice x1_a x1_n x1_e, .slice x1_a x1_n x1_e, .int .i64 (x1_n : Int), .int .i64 t15, g16, g17, g18, g19, g20, g21, g22, g23] H := ⟨μ', hm, t2_2, t15, g6, g16, g17, g18, g19, g20, g21, g22, rfl, hI⟩
theorem impl_areFinite_x2_2 (b1 : Nat) (f1 : Nat) (g23 : Value) (lists_a : Option Addr) (lists_e : Nat) (lists_n : Nat) (t9 : Int) (x1_a : Option Addr) (x1_e : Nat) (x1_n : Nat) (t2_2 : Bool) (t15 : Int) (g6 g16 g17 g18 g19 g20 g21 g22 : Value) (H : AHeap)  (R : Post) {I : Nat → List Value → AHeap → Prop} {μ : Nat} : loopQ I μ (blockQ 2 (blockQ 1 (seqQ (exK Try.prog E_impl_areFinite (cr (cr (cr (cl (cl (cr (cl (cr (bodyC Try.f115)))))))))) (R)))) (.exit 2) [.slice lists_a lists_n lists_e, undef, .bool t2_2, undef, .slice x1_a x1_n x1_e, undef, g6, .slice lists_a lists_n lists_e, .int .i64 (lists_n : Int), .int .i64 t9, .bool (decide ((t9 : Int) < (lists_n : Int))), .pointer (some ⟨b1, f1 + (t9 : Int).toNat * 1, none⟩), .slice x1_a x1_n x1_e, .slice x1_a x1_n x1_e, .int .i64 (x1_n : Int), .int .i64 t15, g16, g17, g18, g19, g20, g21, g22, g23] H =
  (R .normal [.slice lists_a lists_n lists_e, undef, .bool t2_2, undef, .slice x1_a x1_n x1_e, undef, g6, .slice lists_a lists_n lists_e, .int .i64 (lists_n : Int), .int .i64 (IntKind.wrap .i64 (t9 + 1)), .bool (decide ((t9 : Int) < (lists_n : Int))), .pointer (some ⟨b1, f1 + (t9 : Int).toNat * 1, none⟩), .slice x1_a x1_n x1_e, .slice x1_a x1_n x1_e, .int .i64 (x1_n : Int), .int .i64 t15, g16, g17, g18, g19, g20, g21, g22, .int .i64 (IntKind.wrap .i64 (t9 + 1))] H) := by kernel_rfl
theorem impl_areFinite_x2_ret (b1 : Nat) (f1 : Nat) (g23 : Value) (lists_a : Option Addr) (lists_e : Nat) (lists_n : Nat) (t9 : Int) (x1_a : Option Addr) (x1_e : Nat) (x1_n : Nat) (t2_2 : Bool) (t15 : Int) (g6 g16 g17 g18 g19 g20 g21 g22 : Value) (H : AHeap)  (R : Post) {I : Nat → List Value → AHeap → Prop} {μ : Nat} : loopQ I μ (blockQ 2 (blockQ 1 (seqQ (exK Try.prog E_impl_areFinite (cr (cr (cr (cl (cl (cr (cl (cr (bodyC Try.f115)))))))))) (R)))) .ret [.slice lists_a lists_n lists_e, undef, .bool t2_2, undef, .slice x1_a x1_n x1_e, undef, g6, .slice lists_a lists_n lists_e, .int .i64 (lists_n : Int), .int .i64 t9, .bool (decide ((t9 : Int) < (lists_n : Int))), .pointer (some ⟨b1, f1 + (t9 : Int).toNat * 1, none⟩), .slice x1_a x1_n x1_e, .slice x1_a x1_n x1_e, .int .i64 (x1_n : Int), .int .i64 t15, g16, g17, g18, g19, g20, g21, g22, g23] H =
  (R .ret [.slice lists_a lists_n lists_e, undef, .bool t2_2, undef, .slice x1_a x1_n x1_e, undef, g6, .slice lists_a lists_n lists_e, .int .i64 (lists_n : Int), .int .i64 t9, .bool (decide ((t9 : Int) < (lists_n : Int))), .pointer (some ⟨b1, f1 + (t9 : Int).toNat * 1, none⟩), .slice x1_a x1_n x1_e, .slice x1_a x1_n x1_e, .int .i64 (x1_n : Int), .int .i64 t15, g16, g17, g18, g19, g20, g21, g22, g23] H) := by kernel_rfl
theorem E_impl_areFinite_ok : ∀ g, FnOk Try.prog g (E_impl_areFinite g) := FnOk.envOf (by
  intro x hx
  simp only [List.mem_cons, List.not_mem_nil, or_false] at hx
  subst hx; exact impl_IsFinite_ok)
set_option maxHeartbeats 1000000 in
theorem impl_areFinite_main (lists_a : Option Addr) (lists_n : Nat) (lists_e : Nat) (H : AHeap) (K : Value → AHeap → Prop) (h : T_impl_areFinite lists_a lists_n lists_e H fun (r1 : Bool) (H' : AHeap) => K (.bool r1) H') : bodyK Try.prog E_impl_areFinite Try.f115 [.slice lists_a lists_n lists_e] H K := by
  rw [impl_areFinite_vc]
  obtain ⟨l_lists, i_lists, bd_22, bb_l_lists, hk⟩ := h
  obtain rfl := i_lists.eqn
  have e : (p_impl_areFinite l_lists) = _ := rfl
  have e := e.trans (p_impl_areFinite_eq l_lists)
  have g0 := Grow.refl H
  refine impl_areFinite_L1 _ _ _ (fun (μ : Nat) (t2 : Bool) (t9 : Int) (H_1 : AHeap) => H = H_1 ∧ (0 : Int) ≤ t9 ∧ t9 ≤ (l_lists.length : Int) ∧ (l_lists.length : Int) - t9 ≤ (μ : Int) ∧ p_impl_areFinite l_lists = p_impl_areFinite_l1 l_lists (μ + 1) t2 t9) (Int.toNat ((l_lists.length : Int) - (0 : Int))) _ _ _ _ _ _ _ _ _ _ _ _ _ _ _ _ _ _ H ?_ ?_
  · exact ⟨rfl, (by first | omega | (simp; done) | (simp; omega)), (by first | omega | (simp; done) | (simp; omega)), (by omega), e⟩
  · intro μ t2 t9 g4 g6 g10 g11 g12 g13 g14 g15 g16 g17 g18 g19 g20 g21 g22 g23 H_1 hI
    obtain ⟨rfl, v_1, v_2, hμ, e⟩ := hI
    rw [impl_areFinite_r1]
    have e := e.trans (p_impl_areFinite_l1_s l_lists μ t2 t9)
    have l_3 := g0.1
    refine Br.intro (fun c_4 => ?_) (fun c_4 => ?_)
    · have e := e.trans (cond_t c_4)
      have c_4' := of_decide_eq_true c_4
      obtain ⟨b_5, f_6, q_7⟩ := ((i_lists.grow g0)).pos (by first | omega | (simp only [List.length_set, List.length_replicate, List.length_append, List.length_cons, List.length_nil, List.length_take, List.length_drop, marks_length]; done) | (simp only [List.length_set, List.length_replicate, List.length_append, List.length_cons, List.length_nil, List.length_take, List.length_drop, marks_length]; omega))
      refine ⟨by omega, by omega, b_5, f_6, q_7, ?_⟩
      obtain ⟨a_8, n_9, e_10, r_11, i_12⟩ := (i_lists).rd (i := (t9 : Int).toNat) g0 q_7 (by omega)
      obtain rfl := i_12.eqn
      refine ⟨a_8, _, e_10, r_11, ?_⟩
      have z_13 := getD_len bb_l_lists (t9 : Int).toNat
      refine impl_areFinite_L2 _ _ _ _ _ _ _ _ _ _ (fun (μ2 : Nat) (t2_2 : Bool) (t15 : Int) (H_2 : AHeap) => H = H_2 ∧ (0 : Int) ≤ t15 ∧ t15 ≤ ((((l_lists).getD (t9 : Int).toNat [])).length : Int) ∧ ((((l_lists).getD (t9 : Int).toNat [])).length : Int) - t15 ≤ (μ2 : Int) ∧ p_impl_areFinite l_lists = p_impl_areFinite_l2 l_lists t2 t9 (fun (t2_2 : Bool) (t15 : Int) => (p_impl_areFinite_l1 l_lists μ t2_2 (t9 + 1))) (μ2 + 1) t2_2 t15) (Int.toNat (((((l_lists).getD (t9 : Int).toNat [])).length : Int) - (0 : Int))) _ _ _ _ _ _ _ _ _ _ H ?_ ?_
      · exact ⟨rfl, (by first | omega | (simp; done) | (simp; omega)), (by first | omega | (simp; done) | (simp; omega)), (by omega), e⟩
      · intro μ2 t2_2 t15 g6 g16 g17 g18 g19 g20 g21 g22 H_2 hI
        obtain ⟨rfl, v_14, v_15, hμ, e⟩ := hI
        rw [impl_areFinite_r2]
        have e := e.trans (p_impl_areFinite_l2_s l_lists t2 t9 (fun (t2_2 : Bool) (t15 : Int) => (p_impl_areFinite_l1 l_lists μ t2_2 (t9 + 1))) μ2 t2_2 t15)
        have l_16 := g0.1
        refine Br.intro (fun c_17 => ?_) (fun c_17 => ?_)
        · have e := e.trans (cond_t c_17)
          have c_17' := of_decide_eq_true c_17
          obtain ⟨b_18, f_19, q_20⟩ := ((i_12.grow g0)).pos (by first | omega | (simp only [List.length_set, List.length_replicate, List.length_append, List.length_cons, List.length_nil, List.length_take, List.length_drop, marks_length]; done) | (simp only [List.length_set, List.length_replicate, List.length_append, List.length_cons, List.length_nil, List.length_take, List.length_drop, marks_length]; omega))
          refine ⟨by omega, by omega, b_18, f_19, q_20, ?_⟩
          refine ⟨((((l_lists).getD (t9 : Int).toNat [])).getD (t15 : Int).toNat 0), (i_12).rd g0 q_20 (by omega) _, ?_⟩
          refine T_impl_IsFinite_i ?_
          refine Br.intro (fun c_21 => ?_) (fun c_21 => ?_)
          · have e := e.trans (cond_t c_21)
            have c_21n := nf_of_t c_21
            rw [impl_areFinite_x2_ret]
            rw [impl_areFinite_x1_ret]
            rw [e] at hk
            exact hk
          · have e := e.trans (cond_f c_21)
            have c_21n := nt_of_f c_21
            rw [show IntKind.wrap .i64 (t15 + 1) = (t15 + 1) from wrap64 (by omega) (by omega)]
            refine impl_areFinite_n2 (μ2 - 1) (by first | omega) ⟨rfl, (by first | omega | (simp only [List.length_append, List.length_cons, List.length_nil, List.length_set]; done) | (simp only [List.length_append, List.length_cons, List.length_nil, List.length_set]; omega)), (by first | omega | (simp only [List.length_append, List.length_cons, List.length_nil, List.length_set]; done) | (simp only [List.length_append, List.length_cons, List.length_nil, List.length_set]; omega)), (by first | omega), (by rw [show μ2 - 1 + 1 = μ2 from by first | omega]; exact e)⟩
        · have e := e.trans (cond_f c_17)
          have c_17' := of_decide_eq_false c_17
          rw [impl_areFinite_x2_2]
          rw [show IntKind.wrap .i64 (t9 + 1) = (t9 + 1) from wrap64 (by omega) (by omega)]
          refine impl_areFinite_n1 (μ - 1) (by first | omega) ⟨rfl, (by first | omega | (simp only [List.length_append, List.length_cons, List.length_nil, List.length_set]; done) | (simp only [List.length_append, List.length_cons, List.length_nil, List.length_set]; omega)), (by first | omega | (simp only [List.length_append, List.length_cons, List.length_nil, List.length_set]; done) | (simp only [List.length_append, List.length_cons, List.length_nil, List.length_set]; omega)), (by first | omega), (by rw [show μ - 1 + 1 = μ from by first | omega]; exact e)⟩
    · have e := e.trans (cond_f c_4)
      have c_4' := of_decide_eq_false c_4
      rw [impl_areFinite_x1_0]
      rw [e] at hk
      exact hk
theorem impl_areFinite_ok : FnOk Try.prog 115 S_impl_areFinite := by
  refine FnOk.body mix_ok E_impl_areFinite_ok Try.func115 rfl (by kernel_rfl) (by kernel_rfl) ?_ ?_ ?_ ?_ ?_
  · intro args H K K' h hk
    simp only [S_impl_areFinite] at *
    unfold F_impl_areFinite at *
    split at hk
    · obtain ⟨l_lists, i_lists, bd_22, bb_l_lists, k⟩ := hk
      exact ⟨l_lists, i_lists, bd_22, bb_l_lists, h _ _ k⟩
    · exact hk.elim
  · intro _ args H K hk
    simp only [S_impl_areFinite] at *
    unfold F_impl_areFinite at *
    split at hk
    · obtain ⟨l_lists, i_lists, bd_22, bb_l_lists, k⟩ := hk
      exact ⟨_, k, fun K' k' => ⟨l_lists, i_lists, bd_22, bb_l_lists, k'⟩⟩
    · exact hk.elim
  · intro args H K hk
    simp only [S_impl_areFinite] at *
    unfold F_impl_areFinite at *
    split at hk
    · obtain ⟨l_lists, i_lists, bd_22, bb_l_lists, k⟩ := hk
      exact ⟨_, _, k⟩
    · exact hk.elim
  · intro hq; cases hq
  · have mm := @impl_areFinite_main
    revert mm
    generalize bodyK Try.prog E_impl_areFinite Try.f115 = Q
    intro mm args H K hk
    simp only [S_impl_areFinite] at *
    unfold F_impl_areFinite at *
    split at hk
    · exact mm _ _ _ H K hk
    · exact hk.elim
def p_impl_isLong (l_list : List Nat) : Bool := (bif (p_impl_within (l_list.length : Int) (1 : Int) (128 : Int)) then (p_impl_areFinite ([l_list])) else false)
theorem p_impl_isLong_eq (l_list : List Nat) : p_impl_isLong l_list = (bif (p_impl_within (l_list.length : Int) (1 : Int) (128 : Int)) then (p_impl_areFinite ([l_list])) else false) := rfl
def T_impl_isLong (list_a : Option Addr) (list_n : Nat) (list_e : Nat) (H : AHeap) (K : Bool → AHeap → Prop) : Prop := ∃ (l_list : List Nat), IsL fF H list_a list_n l_list ∧ l_list.length < 1073741824 ∧ ((∀ H' : AHeap, Grow H H' → K (p_impl_isLong l_list) H'))
theorem T_impl_isLong_i {list_a : Option Addr} {list_n : Nat} {list_e : Nat} {H : AHeap} {K : Bool → AHeap → Prop} (h : ∃ (l_list : List Nat), IsL fF H list_a list_n l_list ∧ l_list.length < 1073741824 ∧ ((∀ H' : AHeap, Grow H H' → K (p_impl_isLong l_list) H'))) : T_impl_isLong list_a list_n list_e H K := h
theorem impl_isLong_t {l : List Nat} (h : p_impl_isLong l = true) : 1 ≤ (l.length : Int) ∧ (l.length : Int) ≤ 128 := by
  rw [p_impl_isLong_eq] at h
  cases h1 : p_impl_within (l.length : Int) 1 128
  · rw [h1] at h; cases h
  · exact impl_within_t h1
/-! impl_isLong: function 61 -/
def E_impl_isLong : Env := envOf [(72, S_impl_within), (115, S_impl_areFinite)]
def F_impl_isLong : List Value → AHeap → (Value → AHeap → Prop) → Prop
  | [.slice list_a list_n list_e], H, K => T_impl_isLong list_a list_n list_e H fun (r1 : Bool) (H' : AHeap) => K (.bool r1) H'
  | _, _, _ => False
def S_impl_isLong : FSpec := { F := F_impl_isLong, quiet := false, tame := true }
theorem impl_isLong_vc (list_a : Option Addr) (list_n : Nat) (list_e : Nat) (H : AHeap) (K : Value → AHeap → Prop) : bodyK Try.prog E_impl_isLong Try.f61 [.slice list_a list_n list_e] H K =
  (T_impl_within (list_n : Int) 1 128 H fun (r1 : Bool) (H1 : AHeap) => Br r1 (Al [.slice list_a list_n list_e] H1 fun b1 H2 => T_impl_areFinite (some ⟨b1, 0, none⟩) 1 1 H2 fun (r2 : Bool) (H3 : AHeap) => K (.bool r2) H3) (K (.bool false) H1)) := by kernel_rfl
theorem E_impl_isLong_ok : ∀ g, FnOk Try.prog g (E_impl_isLong g) := FnOk.envOf (by
  intro x hx
  simp only [List.mem_cons, List.not_mem_nil, or_false] at hx
  rcases hx with rfl | rfl
  · exact impl_within_ok
  · exact impl_areFinite_ok)
set_option maxHeartbeats 1000000 in
theorem impl_isLong_main (list_a : Option Addr) (list_n : Nat) (list_e : Nat) (H : AHeap) (K : Value → AHeap → Prop) (h : T_impl_isLong list_a list_n list_e H fun (r1 : Bool) (H' : AHeap) => K (.bool r1) H') : bodyK Try.prog E_impl_isLong Try.f61 [.slice list_a list_n list_e] H K := by
  rw [impl_isLong_vc]
  obtain ⟨l_list, i_list, bd_12, hk⟩ := h
  obtain rfl := i_list.eqn
  have e : (p_impl_isLong l_list) = _ := rfl
  have e := e.trans (p_impl_isLong_eq l_list)
  have g0 := Grow.refl H
  refine T_impl_within_i ?_
  refine Br.intro (fun c_1 => ?_) (fun c_1 => ?_)
  · have e := e.trans (cond_t c_1)
    have c_1' := impl_within_t c_1
    refine Al.intro (fun b_2 H_1 hb_3 hl_4 g_5 o_6 => ?_)
    have l_8 := g_5.1
    have g_9 := g0.trans g_5
    have l_10 := g_9.1
    have w_11 := o_6.lt
    refine T_impl_areFinite_i ⟨[l_list], ⟨_, o_6.rdAll rfl, LLc.cons (i_list.grow g_9) (LLc.nil _ _)⟩, (by first | omega | (simp only [List.length_set, List.length_replicate, List.length_append, List.length_cons, List.length_nil, List.length_take, List.length_drop, marks_length]; done) | (simp only [List.length_set, List.length_replicate, List.length_append, List.length_cons, List.length_nil, List.length_take, List.length_drop, marks_length]; omega)), (by first | assumption | (intro y hy; simp only [List.mem_cons, List.not_mem_nil, or_false] at hy; first | omega | (subst hy; omega) | (rcases hy with rfl | rfl <;> omega) | (rcases hy with rfl | rfl | rfl <;> omega))), ?_⟩
    rw [e] at hk
    exact hk  H_1 g_9 
  · have e := e.trans (cond_f c_1)
    rw [e] at hk
    exact hk  H g0 
theorem impl_isLong_ok : FnOk Try.prog 61 S_impl_isLong := by
  refine FnOk.body mix_ok E_impl_isLong_ok Try.func61 rfl (by kernel_rfl) (by kernel_rfl) ?_ ?_ ?_ ?_ ?_
  · intro args H K K' h hk
    simp only [S_impl_isLong] at *
    unfold F_impl_isLong at *
    split at hk
    · obtain ⟨l_list, i_list, bd_12, k⟩ := hk
      exact ⟨l_list, i_list, bd_12, (fun  H' gg  => h _ _ (k  H' gg ))⟩
    · exact hk.elim
  · intro hq; cases hq
  · intro args H K hk
    simp only [S_impl_isLong] at *
    unfold F_impl_isLong at *
    split at hk
    · obtain ⟨l_list, i_list, bd_12, k⟩ := hk
      exact ⟨_, _, k H (Grow.refl H)⟩
    · exact hk.elim
  · intro _ args H K hk
    simp only [S_impl_isLong] at *
    unfold F_impl_isLong at *
    split at hk
    · obtain ⟨l_list, i_list, bd_12, k⟩ := hk
      exact ⟨l_list, i_list, bd_12, (fun  H' gg  => ⟨gg, k  H' gg ⟩)⟩
    · exact hk.elim
  · have mm := @impl_isLong_main
    revert mm
    generalize bodyK Try.prog E_impl_isLong Try.f61 = Q
    intro mm args H K hk
    simp only [S_impl_isLong] at *
    unfold F_impl_isLong at *
    split at hk
    · exact mm _ _ _ H K hk
    · exact hk.elim
def p_impl_finite (x : Nat) : Nat × Bool := (bif !(p_impl_IsFinite x) then (0, false) else (x, true))
theorem p_impl_finite_eq (x : Nat) : p_impl_finite x = (bif !(p_impl_IsFinite x) then (0, false) else (x, true)) := rfl
def T_impl_finite (x : Nat) (H : AHeap) (K : Nat → Bool → AHeap → Prop) : Prop := K (p_impl_finite x).1 (p_impl_finite x).2 H

theorem T_impl_finite_i {x : Nat} {H : AHeap} {K : Nat → Bool → AHeap → Prop} (h : K (p_impl_finite x).1 (p_impl_finite x).2 H) : T_impl_finite x H K := h
/-! impl_finite: function 65 -/
def E_impl_finite : Env := envOf [(62, S_impl_IsFinite)]
def F_impl_finite : List Value → AHeap → (Value → AHeap → Prop) → Prop
  | [.float .f32 x], H, K => T_impl_finite x H fun (r1 : Nat) (r2 : Bool) (H' : AHeap) => K (.tuple #[.float .f32 r1, .bool r2]) H'
  | _, _, _ => False
def S_impl_finite : FSpec := { F := F_impl_finite, quiet := true, tame := false }
theorem impl_finite_vc (x : Nat) (H : AHeap) (K : Value → AHeap → Prop) : bodyK Try.prog E_impl_finite Try.f65 [.float .f32 x] H K =
  (T_impl_IsFinite x H fun (r1 : Bool) (H1 : AHeap) => Br (!r1) (K (.tuple #[.float .f32 0, .bool false]) H1) (K (.tuple #[.float .f32 x, .bool true]) H1)) := by kernel_rfl
theorem E_impl_finite_ok : ∀ g, FnOk Try.prog g (E_impl_finite g) := FnOk.envOf (by
  intro x hx
  simp only [List.mem_cons, List.not_mem_nil, or_false] at hx
  subst hx; exact impl_IsFinite_ok)
set_option maxHeartbeats 1000000 in
theorem impl_finite_main (x : Nat) (H : AHeap) (K : Value → AHeap → Prop) (h : T_impl_finite x H fun (r1 : Nat) (r2 : Bool) (H' : AHeap) => K (.tuple #[.float .f32 r1, .bool r2]) H') : bodyK Try.prog E_impl_finite Try.f65 [.float .f32 x] H K := by
  rw [impl_finite_vc]
  simp only [T_impl_IsFinite]
  unfold T_impl_finite p_impl_finite at h
  repeat' (first | exact h | (exfalso; simp_all; done) | (refine ⟨by decide, ?_⟩) | (refine Br.intro (fun hb => ?_) (fun hb => ?_) <;> (try simp only [hb, cond_true, cond_false, Bool.not_true, Bool.not_false] at h)))
theorem impl_finite_ok : FnOk Try.prog 65 S_impl_finite := by
  refine FnOk.body mix_ok E_impl_finite_ok Try.func65 rfl (by kernel_rfl) (by kernel_rfl) ?_ ?_ ?_ ?_ ?_
  · intro args H K K' h hk
    simp only [S_impl_finite] at *
    unfold F_impl_finite at *
    split at hk
    · have k := hk
      exact h _ _ k
    · exact hk.elim
  · intro _ args H K hk
    simp only [S_impl_finite] at *
    unfold F_impl_finite at *
    split at hk
    · have k := hk
      exact ⟨_, k, fun K' k' => k'⟩
    · exact hk.elim
  · intro args H K hk
    simp only [S_impl_finite] at *
    unfold F_impl_finite at *
    split at hk
    · have k := hk
      exact ⟨_, _, k⟩
    · exact hk.elim
  · intro hq; cases hq
  · have mm := @impl_finite_main
    revert mm
    generalize bodyK Try.prog E_impl_finite Try.f65 = Q
    intro mm args H K hk
    simp only [S_impl_finite] at *
    unfold F_impl_finite at *
    split at hk
    · exact mm _ H K hk
    · exact hk.elim
def p_impl_MissOfLists_l1 (l_a : List Nat) (l_b : List Nat) : Nat → Nat → Int → Nat × Bool
  | 0, _, _ => (0, false)
  | μ + 1, sum, t27 => (bif decide ((t27 : Int) < (l_a.length : Int)) then (p_impl_MissOfLists_l1 l_a l_b μ (fadd .f32 sum (fmul .f32 (fsub .f32 (((l_a).getD (t27 : Int).toNat 0)) (((l_b).getD (t27 : Int).toNat 0))) (fsub .f32 (((l_a).getD (t27 : Int).toNat 0)) (((l_b).getD (t27 : Int).toNat 0))))) (t27 + 1)) else ((p_impl_finite (fdiv .f32 sum (FloatKind.nearest .f32 (l_a.length : Int)))).1, (p_impl_finite (fdiv .f32 sum (FloatKind.nearest .f32 (l_a.length : Int)))).2))
theorem p_impl_MissOfLists_l1_s (l_a : List Nat) (l_b : List Nat) (μ : Nat) (sum : Nat) (t27 : Int) : p_impl_MissOfLists_l1 l_a l_b (μ + 1) sum t27 = (bif decide ((t27 : Int) < (l_a.length : Int)) then (p_impl_MissOfLists_l1 l_a l_b μ (fadd .f32 sum (fmul .f32 (fsub .f32 (((l_a).getD (t27 : Int).toNat 0)) (((l_b).getD (t27 : Int).toNat 0))) (fsub .f32 (((l_a).getD (t27 : Int).toNat 0)) (((l_b).getD (t27 : Int).toNat 0))))) (t27 + 1)) else ((p_impl_finite (fdiv .f32 sum (FloatKind.nearest .f32 (l_a.length : Int)))).1, (p_impl_finite (fdiv .f32 sum (FloatKind.nearest .f32 (l_a.length : Int)))).2)) := rfl
def p_impl_MissOfLists (l_a : List Nat) (l_b : List Nat) : Nat × Bool := ((bif !(p_impl_isLong l_a) then (0, false) else (bif !(p_impl_isLong l_b) then (0, false) else (bif ((l_a.length : Int) : Int) != (l_b.length : Int) then (0, false) else (p_impl_MissOfLists_l1 l_a l_b (Int.toNat ((l_a.length : Int) - (0 : Int)) + 1) 0 (0 : Int))))))
theorem p_impl_MissOfLists_eq (l_a : List Nat) (l_b : List Nat) : p_impl_MissOfLists l_a l_b = ((bif !(p_impl_isLong l_a) then (0, false) else (bif !(p_impl_isLong l_b) then (0, false) else (bif ((l_a.length : Int) : Int) != (l_b.length : Int) then (0, false) else (p_impl_MissOfLists_l1 l_a l_b (Int.toNat ((l_a.length : Int) - (0 : Int)) + 1) 0 (0 : Int)))))) := rfl
def T_impl_MissOfLists (a_a : Option Addr) (a_n : Nat) (a_e : Nat) (b_a : Option Addr) (b_n : Nat) (b_e : Nat) (H : AHeap) (K : Nat → Bool → AHeap → Prop) : Prop := ∃ (l_a : List Nat), ∃ (l_b : List Nat), IsL fF H a_a a_n l_a ∧ IsL fF H b_a b_n l_b ∧ l_a.length < 1073741824 ∧ l_b.length < 1073741824 ∧ ((∀ H' : AHeap, Grow H H' → K ((p_impl_MissOfLists l_a l_b).1) ((p_impl_MissOfLists l_a l_b).2) H'))
theorem T_impl_MissOfLists_i {a_a : Option Addr} {a_n : Nat} {a_e : Nat} {b_a : Option Addr} {b_n : Nat} {b_e : Nat} {H : AHeap} {K : Nat → Bool → AHeap → Prop} (h : ∃ (l_a : List Nat), ∃ (l_b : List Nat), IsL fF H a_a a_n l_a ∧ IsL fF H b_a b_n l_b ∧ l_a.length < 1073741824 ∧ l_b.length < 1073741824 ∧ ((∀ H' : AHeap, Grow H H' → K ((p_impl_MissOfLists l_a l_b).1) ((p_impl_MissOfLists l_a l_b).2) H'))) : T_impl_MissOfLists a_a a_n a_e b_a b_n b_e H K := h

/-! impl_MissOfLists: function 85 -/
def E_impl_MissOfLists : Env := envOf [(61, S_impl_isLong), (65, S_impl_finite)]
def F_impl_MissOfLists : List Value → AHeap → (Value → AHeap → Prop) → Prop
  | [.slice a_a a_n a_e, .slice b_a b_n b_e], H, K => T_impl_MissOfLists a_a a_n a_e b_a b_n b_e H fun (r1 : Nat) (r2 : Bool) (H' : AHeap) => K (.tuple #[.float .f32 r1, .bool r2]) H'
  | _, _, _ => False
def S_impl_MissOfLists : FSpec := { F := F_impl_MissOfLists, quiet := false, tame := true }
theorem impl_MissOfLists_vc (a_a : Option Addr) (a_n : Nat) (a_e : Nat) (b_a : Option Addr) (b_n : Nat) (b_e : Nat) (H : AHeap) (K : Value → AHeap → Prop) : bodyK Try.prog E_impl_MissOfLists Try.f85 [.slice a_a a_n a_e, .slice b_a b_n b_e] H K =
  (T_impl_isLong a_a a_n a_e H fun (r1 : Bool) (H1 : AHeap) => Br (!r1) (K (.tuple #[.float .f32 0, .bool false]) H1) (T_impl_isLong b_a b_n b_e H1 fun (r2 : Bool) (H2 : AHeap) => Br (!r2) (K (.tuple #[.float .f32 0, .bool false]) H2) (Br (((a_n : Int) : Int) != (b_n : Int)) (K (.tuple #[.float .f32 0, .bool false]) H2) (loopK (exK Try.prog E_impl_MissOfLists (cl (cl (cr (cl (cr (cr (cr (bodyC Try.f85))))))))) [.slice a_a a_n a_e, .slice b_a b_n b_e, undef, undef, .float .f32 0, .bool false, .float .f32 0, undef, undef, undef, .slice a_a a_n a_e, .bool r1, .bool (!r1), .bool false, .slice b_a b_n b_e, .bool r2, .bool (!r2), .bool (!r2), .bool false, .slice a_a a_n a_e, .int .i64 (a_n : Int), .slice b_a b_n b_e, .int .i64 (b_n : Int), .bool (((a_n : Int) : Int) != (b_n : Int)), .bool (((a_n : Int) : Int) != (b_n : Int)), .slice a_a a_n a_e, .int .i64 (a_n : Int), .int .i64 0, undef, undef, undef, undef, undef, undef, undef, undef, undef, undef, undef, undef, undef, undef, undef, undef, undef, undef, undef, undef, undef, undef, undef, undef] H2 (blockQ 0 (seqQ (exK Try.prog E_impl_MissOfLists (cr (cr (cr (cr (bodyC Try.f85)))))) (retK Try.prog Try.f85 K))))))) := by kernel_rfl
theorem impl_MissOfLists_r1 (a_a : Option Addr) (a_e : Nat) (a_n : Nat) (b_a : Option Addr) (b_e : Nat) (b_n : Nat) (r1 : Bool) (r2 : Bool) (sum : Nat) (t27 : Int) (g7 g8 g9 g28 g29 g30 g31 g32 g33 g34 g35 g36 g37 g38 g39 g40 g41 g42 g43 : Value) (H : AHeap) (R : Post) : exK Try.prog E_impl_MissOfLists (cl (cl (cr (cl (cr (cr (cr (bodyC Try.f85)))))))) [.slice a_a a_n a_e, .slice b_a b_n b_e, undef, undef, .float .f32 0, .bool false, .float .f32 sum, g7, g8, g9, .slice a_a a_n a_e, .bool r1, .bool (!r1), .bool false, .slice b_a b_n b_e, .bool r2, .bool (!r2), .bool (!r2), .bool false, .slice a_a a_n a_e, .int .i64 (a_n : Int), .slice b_a b_n b_e, .int .i64 (b_n : Int), .bool (((a_n : Int) : Int) != (b_n : Int)), .bool (((a_n : Int) : Int) != (b_n : Int)), .slice a_a a_n a_e, .int .i64 (a_n : Int), .int .i64 t27, g28, g29, g30, g31, g32, g33, g34, g35, g36, g37, g38, g39, g40, g41, g42, g43, undef, undef, undef, undef, undef, undef, undef, undef] H R =
  (Br (decide ((t27 : Int) < (a_n : Int))) ((0 : Int) ≤ t27 ∧ t27 < (a_n : Int) ∧ ∃ b1 f1, (a_a : Option Addr) = some ⟨b1, f1, none⟩ ∧ ∃ x1 : Nat,  rdC H b1 (f1 + (t27 : Int).toNat * 1) = some (.float .f32 x1) ∧ (0 : Int) ≤ t27 ∧ t27 < (b_n : Int) ∧ ∃ b2 f2, (b_a : Option Addr) = some ⟨b2, f2, none⟩ ∧ ∃ x2 : Nat,  rdC H b2 (f2 + (t27 : Int).toNat * 1) = some (.float .f32 x2) ∧ R .normal [.slice a_a a_n a_e, .slice b_a b_n b_e, undef, undef, .float .f32 0, .bool false, .float .f32 (fadd .f32 sum (fmul .f32 (fsub .f32 x1 x2) (fsub .f32 x1 x2))), .int .i64 t27, .float .f32 x1, .float .f32 (fsub .f32 x1 x2), .slice a_a a_n a_e, .bool r1, .bool (!r1), .bool false, .slice b_a b_n b_e, .bool r2, .bool (!r2), .bool (!r2), .bool false, .slice a_a a_n a_e, .int .i64 (a_n : Int), .slice b_a b_n b_e, .int .i64 (b_n : Int), .bool (((a_n : Int) : Int) != (b_n : Int)), .bool (((a_n : Int) : Int) != (b_n : Int)), .slice a_a a_n a_e, .int .i64 (a_n : Int), .int .i64 (IntKind.wrap .i64 (t27 + 1)), .bool (decide ((t27 : Int) < (a_n : Int))), .int .i64 t27, .pointer (some ⟨b1, f1 + (t27 : Int).toNat * 1, none⟩), .float .f32 x1, .float .f32 x1, .slice b_a b_n b_e, .int .i64 t27, .pointer (some ⟨b2, f2 + (t27 : Int).toNat * 1, none⟩), .float .f32 x2, .float .f32 (fsub .f32 x1 x2), .float .f32 sum, .float .f32 (fsub .f32 x1 x2), .float .f32 (fsub .f32 x1 x2), .float .f32 (fmul .f32 (fsub .f32 x1 x2) (fsub .f32 x1 x2)), .float .f32 (fadd .f32 sum (fmul .f32 (fsub .f32 x1 x2) (fsub .f32 x1 x2))), .int .i64 (IntKind.wrap .i64 (t27 + 1)), undef, undef, undef, undef, undef, undef, undef, undef] H) (R (.exit 0) [.slice a_a a_n a_e, .slice b_a b_n b_e, undef, undef, .float .f32 0, .bool false, .float .f32 sum, g7, g8, g9, .slice a_a a_n a_e, .bool r1, .bool (!r1), .bool false, .slice b_a b_n b_e, .bool r2, .bool (!r2), .bool (!r2), .bool false, .slice a_a a_n a_e, .int .i64 (a_n : Int), .slice b_a b_n b_e, .int .i64 (b_n : Int), .bool (((a_n : Int) : Int) != (b_n : Int)), .bool (((a_n : Int) : Int) != (b_n : Int)), .slice a_a a_n a_e, .int .i64 (a_n : Int), .int .i64 t27, .bool (decide ((t27 : Int) < (a_n : Int))), g29, g30, g31, g32, g33, g34, g35, g36, g37, g38, g39, g40, g41, g42, g43, undef, undef, undef, undef, undef, undef, undef, undef] H)) := by kernel_rfl
def impl_MissOfLists_I1 (a_a : Option Addr) (a_e : Nat) (a_n : Nat) (b_a : Option Addr) (b_e : Nat) (b_n : Nat) (r1 : Bool) (r2 : Bool) (Inv : Nat → Nat → Int → AHeap → Prop) : Nat → List Value → AHeap → Prop := fun μ tm H => ∃ (sum : Nat), ∃ (t27 : Int), ∃ g7 g8 g9 g28 g29 g30 g31 g32 g33 g34 g35 g36 g37 g38 g39 g40 g41 g42 g43, tm = [.slice a_a a_n a_e, .slice b_a b_n b_e, undef, undef, .float .f32 0, .bool false, .float .f32 sum, g7, g8, g9, .slice a_a a_n a_e, .bool r1, .bool (!r1), .bool false, .slice b_a b_n b_e, .bool r2, .bool (!r2), .bool (!r2), .bool false, .slice a_a a_n a_e, .int .i64 (a_n : Int), .slice b_a b_n b_e, .int .i64 (b_n : Int), .bool (((a_n : Int) : Int) != (b_n : Int)), .bool (((a_n : Int) : Int) != (b_n : Int)), .slice a_a a_n a_e, .int .i64 (a_n : Int), .int .i64 t27, g28, g29, g30, g31, g32, g33, g34, g35, g36, g37, g38, g39, g40, g41, g42, g43, undef, undef, undef, undef, undef, undef, undef, undef] ∧ Inv μ sum t27 H
theorem impl_MissOfLists_L1 (a_a : Option Addr) (a_e : Nat) (a_n : Nat) (b_a : Option Addr) (b_e : Nat) (b_n : Nat) (r1 : Bool) (r2 : Bool) {Q : Post} (Inv : Nat → Nat → Int → AHeap → Prop) (ν : Nat) (sum : Nat) (t27 : Int) (g7 g8 g9 g28 g29 g30 g31 g32 g33 g34 g35 g36 g37 g38 g39 g40 g41 g42 g43 : Value) (H : AHeap) (h0 : Inv ν sum t27 H)
    (hs : ∀ (μ : Nat) (sum : Nat) (t27 : Int) (g7 g8 g9 g28 g29 g30 g31 g32 g33 g34 g35 g36 g37 g38 g39 g40 g41 g42 g43 : Value) (H : AHeap), Inv μ sum t27 H → exK Try.prog E_impl_MissOfLists (cl (cl (cr (cl (cr (cr (cr (bodyC Try.f85)))))))) [.slice a_a a_n a_e, .slice b_a b_n b_e, undef, undef, .float .f32 0, .bool false, .float .f32 sum, g7, g8, g9, .slice a_a a_n a_e, .bool r1, .bool (!r1), .bool false, .slice b_a b_n b_e, .bool r2, .bool (!r2), .bool (!r2), .bool false, .slice a_a a_n a_e, .int .i64 (a_n : Int), .slice b_a b_n b_e, .int .i64 (b_n : Int), .bool (((a_n : Int) : Int) != (b_n : Int)), .bool (((a_n : Int) : Int) != (b_n : Int)), .slice a_a a_n a_e, .int .i64 (a_n : Int), .int .i64 t27, g28, g29, g30, g31, g32, g33, g34, g35, g36, g37, g38, g39, g40, g41, g42, g43, undef, undef, undef, undef, undef, undef, undef, undef] H (loopQ (impl_MissOfLists_I1 a_a a_e a_n b_a b_e b_n r1 r2 Inv) μ Q)) : loopK (exK Try.prog E_impl_MissOfLists (cl (cl (cr (cl (cr (cr (cr (bodyC Try.f85))))))))) [.slice a_a a_n a_e, .slice b_a b_n b_e, undef, undef, .float .f32 0, .bool false, .float .f32 sum, g7, g8, g9, .slice a_a a_n a_e, .bool r1, .bool (!r1), .bool false, .slice b_a b_n b_e, .bool r2, .bool (!r2), .bool (!r2), .bool false, .slice a_a a_n a_e, .int .i64 (a_n : Int), .slice b_a b_n b_e, .int .i64 (b_n : Int), .bool (((a_n : Int) : Int) != (b_n : Int)), .bool (((a_n : Int) : Int) != (b_n : Int)), .slice a_a a_n a_e, .int .i64 (a_n : Int), .int .i64 t27, g28, g29, g30, g31, g32, g33, g34, g35, g36, g37, g38, g39, g40, g41, g42, g43, undef, undef, undef, undef, undef, undef, undef, undef] H Q :=
  ⟨impl_MissOfLists_I1 a_a a_e a_n b_a b_e b_n r1 r2 Inv, ν, ⟨sum, t27, g7, g8, g9, g28, g29, g30, g31, g32, g33, g34, g35, g36, g37, g38, g39, g40, g41, g42, g43, rfl, h0⟩, fun μ tm H h => by obtain ⟨sum, t27, g7, g8, g9, g28, g29, g30, g31, g32, g33, g34, g35, g36, g37, g38, g39, g40, g41, g42, g43, rfl, hI⟩ := h; exact hs μ sum t27 g7 g8 g9 g28 g29 g30 g31 g32 g33 g34 g35 g36 g37 g38 g39 g40 g41 g42 g43 H hI⟩
theorem impl_MissOfLists_n1 {a_a : Option Addr} {a_e : Nat} {a_n : Nat} {b_a : Option Addr} {b_e : Nat} {b_n : Nat} {r1 : Bool} {r2 : Bool} {Q : Post} {Inv : Nat → Nat → Int → AHeap → Prop} {μ : Nat} (μ' : Nat) {sum : Nat} {t27 : Int} {g7 g8 g9 g28 g29 g30 g31 g32 g33 g34 g35 g36 g37 g38 g39 g40 g41 g42 g43 : Value} {H : AHeap} (hm : μ' < μ) (hI : Inv μ' sum t27 H) : loopQ (impl_MissOfLists_I1 a_a a_e a_n b_a b_e b_n r1 r2 Inv) μ Q .normal [.slice a_a a_n a_e, .slice b_a b_n b_e, undef, undef, .float .f32 0, .bool false, .float .f32 sum, g7, g8, g9, .slice a_a a_n a_e, .bool r1, .bool (!r1), .bool false, .slice b_a b_n b_e, .bool r2, .bool (!r2), .bool (!r2), .bool false, .slice a_a a_n a_e, .int .i64 (a_n : Int), .slice b_a b_n b_e, .int .i64 (b_n : Int), .bool (((a_n : Int) : Int) != (b_n : Int)), .bool (((a_n : Int) : Int) != (b_n : Int)), .slice a_a a_n a_e, .int .i64 (a_n : Int), .int .i64 t27, g28, g29, g30, g31, g32, g33, g34, g35, g36, g37, g38, g39, g40, g41, g42, g43, undef, undef, undef, undef, undef, undef, undef, undef] H := ⟨μ', hm, sum, t27, g7, g8, g9, g28, g29, g30, g31, g32, g33, g34, g35, g36, g37, g38, g39, g40, g41, g42, g43, rfl, hI⟩
theorem impl_MissOfLists_x1_0 (a_a : Option Addr) (a_e : Nat) (a_n : Nat) (b_a : Option Addr) (b_e : Nat) (b_n : Nat) (r1 : Bool) (r2 : Bool) (sum : Nat) (t27 : Int) (g7 g8 g9 g28 g29 g30 g31 g32 g33 g34 g35 g36 g37 g38 g39 g40 g41 g42 g43 : Value) (H : AHeap) (K : Value → AHeap → Prop)  {I : Nat → List Value → AHeap → Prop} {μ : Nat} : loopQ I μ (blockQ 0 (seqQ (exK Try.prog E_impl_MissOfLists (cr (cr (cr (cr (bodyC Try.f85)))))) (retK Try.prog Try.f85 K))) (.exit 0) [.slice a_a a_n a_e, .slice b_a b_n b_e, undef, undef, .float .f32 0, .bool false, .float .f32 sum, g7, g8, g9, .slice a_a a_n a_e, .bool r1, .bool (!r1), .bool false, .slice b_a b_n b_e, .bool r2, .bool (!r2), .bool (!r2), .bool false, .slice a_a a_n a_e, .int .i64 (a_n : Int), .slice b_a b_n b_e, .int .i64 (b_n : Int), .bool (((a_n : Int) : Int) != (b_n : Int)), .bool (((a_n : Int) : Int) != (b_n : Int)), .slice a_a a_n a_e, .int .i64 (a_n : Int), .int .i64 t27, g28, g29, g30, g31, g32, g33, g34, g35, g36, g37, g38, g39, g40, g41, g42, g43, undef, undef, undef, undef, undef, undef, undef, undef] H =
  (T_impl_finite (fdiv .f32 sum (FloatKind.nearest .f32 (a_n : Int))) H fun (r3 : Nat) (r4 : Bool) (H3 : AHeap) => K (.tuple #[.float .f32 r3, .bool r4]) H3) := by kernel_rfl
theorem E_impl_MissOfLists_ok : ∀ g, FnOk Try.prog g (E_impl_MissOfLists g) := FnOk.envOf (by
  intro x hx
  simp only [List.mem_cons, List.not_mem_nil, or_false] at hx
  rcases hx with rfl | rfl
  · exact impl_isLong_ok
  · exact impl_finite_ok)
set_option maxHeartbeats 1000000 in
theorem impl_MissOfLists_main (a_a : Option Addr) (a_n : Nat) (a_e : Nat) (b_a : Option Addr) (b_n : Nat) (b_e : Nat) (H : AHeap) (K : Value → AHeap → Prop) (h : T_impl_MissOfLists a_a a_n a_e b_a b_n b_e H fun (r1 : Nat) (r2 : Bool) (H' : AHeap) => K (.tuple #[.float .f32 r1, .bool r2]) H') : bodyK Try.prog E_impl_MissOfLists Try.f85 [.slice a_a a_n a_e, .slice b_a b_n b_e] H K := by
  rw [impl_MissOfLists_vc]
  obtain ⟨l_a, l_b, i_a, i_b, bd_22, bd_23, hk⟩ := h
  obtain rfl := i_a.eqn
  obtain rfl := i_b.eqn
  have e : (p_impl_MissOfLists l_a l_b) = _ := rfl
  have e := e.trans (p_impl_MissOfLists_eq l_a l_b)
  have g0 := Grow.refl H
  refine T_impl_isLong_i ⟨_, (i_a.grow g0), (by first | omega | (simp only [List.length_set, List.length_replicate, List.length_append, List.length_cons, List.length_nil, List.length_take, List.length_drop, marks_length]; done) | (simp only [List.length_set, List.length_replicate, List.length_append, List.length_cons, List.length_nil, List.length_take, List.length_drop, marks_length]; omega)), fun  H_1 g_1  => ?_⟩
  have l_2 := g_1.1
  have g_3 := g0.trans g_1
  have l_4 := g_3.1
  refine Br.intro (fun c_5 => ?_) (fun c_5 => ?_)
  · have e := e.trans (cond_t c_5)
    have c_5n := nf_of_t c_5
    rw [e] at hk
    exact hk  H_1 g_3 
  · have e := e.trans (cond_f c_5)
    have c_5n := nt_of_f c_5
    have c_5n' := impl_isLong_t c_5n
    refine T_impl_isLong_i ⟨_, (i_b.grow g_3), (by first | omega | (simp only [List.length_set, List.length_replicate, List.length_append, List.length_cons, List.length_nil, List.length_take, List.length_drop, marks_length]; done) | (simp only [List.length_set, List.length_replicate, List.length_append, List.length_cons, List.length_nil, List.length_take, List.length_drop, marks_length]; omega)), fun  H_2 g_6  => ?_⟩
    have l_7 := g_6.1
    have g_8 := g_3.trans g_6
    have l_9 := g_8.1
    refine Br.intro (fun c_10 => ?_) (fun c_10 => ?_)
    · have e := e.trans (cond_t c_10)
      have c_10n := nf_of_t c_10
      rw [e] at hk
      exact hk  H_2 g_8 
    · have e := e.trans (cond_f c_10)
      have c_10n := nt_of_f c_10
      have c_10n' := impl_isLong_t c_10n
      refine Br.intro (fun c_11 => ?_) (fun c_11 => ?_)
      · have e := e.trans (cond_t c_11)
        have c_11' := ine_t c_11
        rw [e] at hk
        exact hk  H_2 g_8 
      · have e := e.trans (cond_f c_11)
        have c_11' := ine_f c_11
        refine impl_MissOfLists_L1 _ _ _ _ _ _ _ _ (fun (μ : Nat) (sum : Nat) (t27 : Int) (H_3 : AHeap) => H_2 = H_3 ∧ (0 : Int) ≤ t27 ∧ t27 ≤ (l_a.length : Int) ∧ (l_a.length : Int) - t27 ≤ (μ : Int) ∧ p_impl_MissOfLists l_a l_b = p_impl_MissOfLists_l1 l_a l_b (μ + 1) sum t27) (Int.toNat ((l_a.length : Int) - (0 : Int))) _ _ _ _ _ _ _ _ _ _ _ _ _ _ _ _ _ _ _ _ _ H_2 ?_ ?_
        · exact ⟨rfl, (by first | omega | (simp; done) | (simp; omega)), (by first | omega | (simp; done) | (simp; omega)), (by omega), e⟩
        · intro μ sum t27 g7 g8 g9 g28 g29 g30 g31 g32 g33 g34 g35 g36 g37 g38 g39 g40 g41 g42 g43 H_3 hI
          obtain ⟨rfl, v_12, v_13, hμ, e⟩ := hI
          rw [impl_MissOfLists_r1]
          have e := e.trans (p_impl_MissOfLists_l1_s l_a l_b μ sum t27)
          have l_14 := g_8.1
          refine Br.intro (fun c_15 => ?_) (fun c_15 => ?_)
          · have e := e.trans (cond_t c_15)
            have c_15' := of_decide_eq_true c_15
            obtain ⟨b_16, f_17, q_18⟩ := ((i_a.grow g_8)).pos (by first | omega | (simp only [List.length_set, List.length_replicate, List.length_append, List.length_cons, List.length_nil, List.length_take, List.length_drop, marks_length]; done) | (simp only [List.length_set, List.length_replicate, List.length_append, List.length_cons, List.length_nil, List.length_take, List.length_drop, marks_length]; omega))
            refine ⟨by omega, by omega, b_16, f_17, q_18, ?_⟩
            refine ⟨((l_a).getD (t27 : Int).toNat 0), (i_a).rd g_8 q_18 (by omega) _, ?_⟩
            obtain ⟨b_19, f_20, q_21⟩ := ((i_b.grow g_8)).pos (by first | omega | (simp only [List.length_set, List.length_replicate, List.length_append, List.length_cons, List.length_nil, List.length_take, List.length_drop, marks_length]; done) | (simp only [List.length_set, List.length_replicate, List.length_append, List.length_cons, List.length_nil, List.length_take, List.length_drop, marks_length]; omega))
            refine ⟨by omega, by omega, b_19, f_20, q_21, ?_⟩
            refine ⟨((l_b).getD (t27 : Int).toNat 0), (i_b).rd g_8 q_21 (by omega) _, ?_⟩
            rw [show IntKind.wrap .i64 (t27 + 1) = (t27 + 1) from wrap64 (by omega) (by omega)]
            refine impl_MissOfLists_n1 (μ - 1) (by first | omega) ⟨rfl, (by first | omega | (simp only [List.length_append, List.length_cons, List.length_nil, List.length_set]; done) | (simp only [List.length_append, List.length_cons, List.length_nil, List.length_set]; omega)), (by first | omega | (simp only [List.length_append, List.length_cons, List.length_nil, List.length_set]; done) | (simp only [List.length_append, List.length_cons, List.length_nil, List.length_set]; omega)), (by first | omega), (by rw [show μ - 1 + 1 = μ from by first | omega]; exact e)⟩
          · have e := e.trans (cond_f c_15)
            have c_15' := of_decide_eq_false c_15
            rw [impl_MissOfLists_x1_0]
            refine T_impl_finite_i ?_
            rw [e] at hk
            exact hk  H_2 g_8 
theorem impl_MissOfLists_ok : FnOk Try.prog 85 S_impl_MissOfLists := by
  refine FnOk.body mix_ok E_impl_MissOfLists_ok Try.func85 rfl (by kernel_rfl) (by kernel_rfl) ?_ ?_ ?_ ?_ ?_
  · intro args H K K' h hk
    simp only [S_impl_MissOfLists] at *
    unfold F_impl_MissOfLists at *
    split at hk
    · obtain ⟨l_a, l_b, i_a, i_b, bd_22, bd_23, k⟩ := hk
      exact ⟨l_a, l_b, i_a, i_b, bd_22, bd_23, (fun  H' gg  => h _ _ (k  H' gg ))⟩
    · exact hk.elim
  · intro hq; cases hq
  · intro args H K hk
    simp only [S_impl_MissOfLists] at *
    unfold F_impl_MissOfLists at *
    split at hk
    · obtain ⟨l_a, l_b, i_a, i_b, bd_22, bd_23, k⟩ := hk
      exact ⟨_, _, k H (Grow.refl H)⟩
    · exact hk.elim
  · intro _ args H K hk
    simp only [S_impl_MissOfLists] at *
    unfold F_impl_MissOfLists at *
    split at hk
    · obtain ⟨l_a, l_b, i_a, i_b, bd_22, bd_23, k⟩ := hk
      exact ⟨l_a, l_b, i_a, i_b, bd_22, bd_23, (fun  H' gg  => ⟨gg, k  H' gg ⟩)⟩
    · exact hk.elim
  · have mm := @impl_MissOfLists_main
    revert mm
    generalize bodyK Try.prog E_impl_MissOfLists Try.f85 = Q
    intro mm args H K hk
    simp only [S_impl_MissOfLists] at *
    unfold F_impl_MissOfLists at *
    split at hk
    · exact mm _ _ _ _ _ _ H K hk
    · exact hk.elim
end Go.Proofs.Ytghkkclonabpkaa.Ai
