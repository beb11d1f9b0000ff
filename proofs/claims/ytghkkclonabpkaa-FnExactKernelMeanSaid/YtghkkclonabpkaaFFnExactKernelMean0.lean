/- What functions of the program come to on the abstract machine, and that they do so; printed by a program of mine around proofs of mine. -/
import Derived.Test.YtghkkclonabpkaaProg
import Derived.Test.YtghkkclonabpkaaLibA
import Derived.Test.YtghkkclonabpkaaOpen
import Derived.Test.YtghkkclonabpkaaLibB
import Derived.Test.YtghkkclonabpkaaFl
import Derived.Test.YtghkkclonabpkaaExt
import Derived.Test.YtghkkclonabpkaaFm
import Derived.Test.YtghkkclonabpkaaFb
set_option linter.unusedVariables false
set_option linter.unusedSimpArgs false
set_option maxRecDepth 100000
namespace Go.Proofs.Ytghkkclonabpkaa.Ai
open Go
attribute [local irreducible] bodyK
theorem mix_ok : Try.prog.follows .mixedOrders = true := by kernel_rfl
def p_laws_toFloat32S_l1 (l_a : List Nat) : Nat → Int → (List Nat) → (List Nat)
  | 0, _, _ => []
  | μ + 1, i, y1_1 => (bif decide ((i : Int) < (l_a.length : Int)) then (p_laws_toFloat32S_l1 l_a μ (i + 1) (((y1_1).set (i : Int).toNat ((((l_a).getD (i : Int).toNat 0)))))) else y1_1)
theorem p_laws_toFloat32S_l1_s (l_a : List Nat) (μ : Nat) (i : Int) (y1_1 : List Nat) : p_laws_toFloat32S_l1 l_a (μ + 1) i y1_1 = (bif decide ((i : Int) < (l_a.length : Int)) then (p_laws_toFloat32S_l1 l_a μ (i + 1) (((y1_1).set (i : Int).toNat ((((l_a).getD (i : Int).toNat 0)))))) else y1_1) := rfl
def p_laws_toFloat32S (l_a : List Nat) : (List Nat) := (p_laws_toFloat32S_l1 l_a (Int.toNat ((l_a.length : Int) - (0 : Int)) + 1) (0 : Int) (List.replicate (((l_a.length : Int)).toNat) 0))
theorem p_laws_toFloat32S_eq (l_a : List Nat) : p_laws_toFloat32S l_a = (p_laws_toFloat32S_l1 l_a (Int.toNat ((l_a.length : Int) - (0 : Int)) + 1) (0 : Int) (List.replicate (((l_a.length : Int)).toNat) 0)) := rfl
def T_laws_toFloat32S (a_a : Option Addr) (a_n : Nat) (a_e : Nat) (H : AHeap) (K : (Option Addr) → Nat → Nat → AHeap → Prop) : Prop := ∃ (l_a : List Nat), IsL fF H a_a a_n l_a ∧ l_a.length < 1073741824 ∧ ((∀ (r1_a : Option Addr) (r1_n r1_e : Nat), ∀ H' : AHeap, Grow H H' → OwnS fF H' H.length r1_a r1_n r1_e l_a → K r1_a r1_n r1_e H'))
theorem T_laws_toFloat32S_i {a_a : Option Addr} {a_n : Nat} {a_e : Nat} {H : AHeap} {K : (Option Addr) → Nat → Nat → AHeap → Prop} (h : ∃ (l_a : List Nat), IsL fF H a_a a_n l_a ∧ l_a.length < 1073741824 ∧ ((∀ (r1_a : Option Addr) (r1_n r1_e : Nat), ∀ H' : AHeap, Grow H H' → OwnS fF H' H.length r1_a r1_n r1_e l_a → K r1_a r1_n r1_e H'))) : T_laws_toFloat32S a_a a_n a_e H K := h
theorem laws_toFloat32S_go (l : List Nat) : ∀ (μ : Nat) (i : Nat) (ys : List Nat), ys.length = l.length → i ≤ l.length → l.length - i < μ →
    p_laws_toFloat32S_l1 l μ (i : Int) (l.take i ++ ys.drop i) = l := by
  intro μ
  induction μ with
  | zero => intro i ys _ _ h; omega
  | succ μ ih =>
    intro i ys hy hi hm
    rw [p_laws_toFloat32S_l1_s]
    by_cases h : i < l.length
    · rw [decide_eq_true (show (i : Int) < (l.length : Int) by omega), cond_true]
      have hx : l[i]? = some (l.getD i 0) := by rw [List.getD_eq_getElem?_getD, List.getElem?_eq_getElem h]; rfl
      rw [Int.toNat_natCast, set_front l ys i (by omega) hy.symm _ hx]
      exact ih (i + 1) ys hy (by omega) (by omega)
    · rw [decide_eq_false (show ¬ (i : Int) < (l.length : Int) by omega), cond_false]
      rw [List.take_of_length_le (by omega), List.drop_eq_nil_of_le (by omega), List.append_nil]
theorem laws_toFloat32S_id (l : List Nat) : p_laws_toFloat32S l = l := by
  rw [p_laws_toFloat32S_eq]
  have := laws_toFloat32S_go l (Int.toNat ((l.length : Int) - 0) + 1) 0 (List.replicate ((l.length : Int)).toNat 0) (by simp) (by omega) (by omega)
  simpa using this
/-! laws_toFloat32S: function 16 -/
def E_laws_toFloat32S : Env := envOf []
def F_laws_toFloat32S : List Value → AHeap → (Value → AHeap → Prop) → Prop
  | [.slice a_a a_n a_e], H, K => T_laws_toFloat32S a_a a_n a_e H fun (r1_a : Option Addr) (r1_n : Nat) (r1_e : Nat) (H' : AHeap) => K (.slice r1_a r1_n r1_e) H'
  | _, _, _ => False
def S_laws_toFloat32S : FSpec := { F := F_laws_toFloat32S, quiet := false, tame := true }
theorem laws_toFloat32S_vc (a_a : Option Addr) (a_n : Nat) (a_e : Nat) (H : AHeap) (K : Value → AHeap → Prop) : bodyK Try.prog E_laws_toFloat32S Try.f16 [.slice a_a a_n a_e] H K =
  ((0 : Int) ≤ (a_n : Int) ∧ (a_n : Int) = (a_n : Int) ∧ (a_n : Int) < (most : Int) ∧ Al (zerosOf (.float .f32 0) ((a_n : Int)).toNat) H fun b1 H1 => loopK (exK Try.prog E_laws_toFloat32S (cl (cl (cr (cl (cr (cr (bodyC Try.f16)))))))) [.slice a_a a_n a_e, undef, .slice none 0 0, .slice (some ⟨b1, 0, none⟩) (((a_n : Int)).toNat) 1, .int .i64 0, .slice a_a a_n a_e, .int .i64 (a_n : Int), .slice (some ⟨b1, 0, none⟩) (((a_n : Int)).toNat) 1, undef, undef, undef, undef, undef, undef, undef, undef, undef, undef, undef, undef, undef, undef] H1 (blockQ 0 (seqQ (exK Try.prog E_laws_toFloat32S (cr (cr (cr (bodyC Try.f16))))) (retK Try.prog Try.f16 K)))) := by kernel_rfl
theorem laws_toFloat32S_r1 (a_a : Option Addr) (a_e : Nat) (a_n : Nat) (b1 : Nat) (i : Int) (g8 g9 g10 g11 g12 g13 g14 g15 g16 g17 g18 g19 g20 : Value) (H : AHeap) (R : Post) : exK Try.prog E_laws_toFloat32S (cl (cl (cr (cl (cr (cr (bodyC Try.f16))))))) [.slice a_a a_n a_e, undef, .slice none 0 0, .slice (some ⟨b1, 0, none⟩) (((a_n : Int)).toNat) 1, .int .i64 i, .slice a_a a_n a_e, .int .i64 (a_n : Int), .slice (some ⟨b1, 0, none⟩) (((a_n : Int)).toNat) 1, g8, g9, g10, g11, g12, g13, g14, g15, g16, g17, g18, g19, g20, undef] H R =
  (Br (decide ((i : Int) < (a_n : Int))) ((0 : Int) ≤ i ∧ i < (a_n : Int) ∧ ∃ b2 f1, (a_a : Option Addr) = some ⟨b2, f1, none⟩ ∧ ∃ x1 : Nat,  rdC H b2 (f1 + (i : Int).toNat * 1) = some (.float .f32 x1) ∧ (0 : Int) ≤ i ∧ i < (((a_n : Int)).toNat : Int) ∧ ∃ b3 f2, (some ⟨b1, 0, none⟩ : Option Addr) = some ⟨b3, f2, none⟩ ∧ isOwn H b3 ∧ (∃ l, rdN H b3 (f2 + (i : Int).toNat * 1) 1 = some l) ∧ Lt (setC H b3 (f2 + (i : Int).toNat * 1) (.float .f32 x1)) fun H2 => R .normal [.slice a_a a_n a_e, undef, .slice none 0 0, .slice (some ⟨b1, 0, none⟩) (((a_n : Int)).toNat) 1, .int .i64 (IntKind.wrap .i64 (i + 1)), .slice a_a a_n a_e, .int .i64 (a_n : Int), .slice (some ⟨b1, 0, none⟩) (((a_n : Int)).toNat) 1, .int .i64 i, .slice a_a a_n a_e, .int .i64 (a_n : Int), .bool (decide ((i : Int) < (a_n : Int))), .int .i64 i, .int .i64 (IntKind.wrap .i64 (i + 1)), .slice (some ⟨b1, 0, none⟩) (((a_n : Int)).toNat) 1, .int .i64 i, .slice a_a a_n a_e, .int .i64 i, .pointer (some ⟨b2, f1 + (i : Int).toNat * 1, none⟩), .float .f32 x1, .pointer (some ⟨b3, f2 + (i : Int).toNat * 1, none⟩), undef] H2) (R (.exit 0) [.slice a_a a_n a_e, undef, .slice none 0 0, .slice (some ⟨b1, 0, none⟩) (((a_n : Int)).toNat) 1, .int .i64 i, .slice a_a a_n a_e, .int .i64 (a_n : Int), .slice (some ⟨b1, 0, none⟩) (((a_n : Int)).toNat) 1, .int .i64 i, .slice a_a a_n a_e, .int .i64 (a_n : Int), .bool (decide ((i : Int) < (a_n : Int))), g12, g13, g14, g15, g16, g17, g18, g19, g20, undef] H)) := by kernel_rfl
def laws_toFloat32S_I1 (a_a : Option Addr) (a_e : Nat) (a_n : Nat) (b1 : Nat) (Inv : Nat → Int → AHeap → Prop) : Nat → List Value → AHeap → Prop := fun μ tm H => ∃ (i : Int), ∃ g8 g9 g10 g11 g12 g13 g14 g15 g16 g17 g18 g19 g20, tm = [.slice a_a a_n a_e, undef, .slice none 0 0, .slice (some ⟨b1, 0, none⟩) (((a_n : Int)).toNat) 1, .int .i64 i, .slice a_a a_n a_e, .int .i64 (a_n : Int), .slice (some ⟨b1, 0, none⟩) (((a_n : Int)).toNat) 1, g8, g9, g10, g11, g12, g13, g14, g15, g16, g17, g18, g19, g20, undef] ∧ Inv μ i H
theorem laws_toFloat32S_L1 (a_a : Option Addr) (a_e : Nat) (a_n : Nat) (b1 : Nat) {Q : Post} (Inv : Nat → Int → AHeap → Prop) (ν : Nat) (i : Int) (g8 g9 g10 g11 g12 g13 g14 g15 g16 g17 g18 g19 g20 : Value) (H : AHeap) (h0 : Inv ν i H)
    (hs : ∀ (μ : Nat) (i : Int) (g8 g9 g10 g11 g12 g13 g14 g15 g16 g17 g18 g19 g20 : Value) (H : AHeap), Inv μ i H → exK Try.prog E_laws_toFloat32S (cl (cl (cr (cl (cr (cr (bodyC Try.f16))))))) [.slice a_a a_n a_e, undef, .slice none 0 0, .slice (some ⟨b1, 0, none⟩) (((a_n : Int)).toNat) 1, .int .i64 i, .slice a_a a_n a_e, .int .i64 (a_n : Int), .slice (some ⟨b1, 0, none⟩) (((a_n : Int)).toNat) 1, g8, g9, g10, g11, g12, g13, g14, g15, g16, g17, g18, g19, g20, undef] H (loopQ (laws_toFloat32S_I1 a_a a_e a_n b1 Inv) μ Q)) : loopK (exK Try.prog E_laws_toFloat32S (cl (cl (cr (cl (cr (cr (bodyC Try.f16)))))))) [.slice a_a a_n a_e, undef, .slice none 0 0, .slice (some ⟨b1, 0, none⟩) (((a_n : Int)).toNat) 1, .int .i64 i, .slice a_a a_n a_e, .int .i64 (a_n : Int), .slice (some ⟨b1, 0, none⟩) (((a_n : Int)).toNat) 1, g8, g9, g10, g11, g12, g13, g14, g15, g16, g17, g18, g19, g20, undef] H Q :=
  ⟨laws_toFloat32S_I1 a_a a_e a_n b1 Inv, ν, ⟨i, g8, g9, g10, g11, g12, g13, g14, g15, g16, g17, g18, g19, g20, rfl, h0⟩, fun μ tm H h => by obtain ⟨i, g8, g9, g10, g11, g12, g13, g14, g15, g16, g17, g18, g19, g20, rfl, hI⟩ := h; exact hs μ i g8 g9 g10 g11 g12 g13 g14 g15 g16 g17 g18 g19 g20 H hI⟩
theorem laws_toFloat32S_n1 {a_a : Option Addr} {a_e : Nat} {a_n : Nat} {b1 : Nat} {Q : Post} {Inv : Nat → Int → AHeap → Prop} {μ : Nat} (μ' : Nat) {i : Int} {g8 g9 g10 g11 g12 g13 g14 g15 g16 g17 g18 g19 g20 : Value} {H : AHeap} (hm : μ' < μ) (hI : Inv μ' i H) : loopQ (laws_toFloat32S_I1 a_a a_e a_n b1 Inv) μ Q .normal [.slice a_a a_n a_e, undef, .slice none 0 0, .slice (some ⟨b1, 0, none⟩) (((a_n : Int)).toNat) 1, .int .i64 i, .slice a_a a_n a_e, .int .i64 (a_n : Int), .slice (some ⟨b1, 0, none⟩) (((a_n : Int)).toNat) 1, g8, g9, g10, g11, g12, g13, g14, g15, g16, g17, g18, g19, g20, undef] H := ⟨μ', hm, i, g8, g9, g10, g11, g12, g13, g14, g15, g16, g17, g18, g19, g20, rfl, hI⟩
theorem laws_toFloat32S_x1_0 (a_a : Option Addr) (a_e : Nat) (a_n : Nat) (b1 : Nat) (i : Int) (g8 g9 g10 g11 g12 g13 g14 g15 g16 g17 g18 g19 g20 : Value) (H : AHeap) (K : Value → AHeap → Prop)  {I : Nat → List Value → AHeap → Prop} {μ : Nat} : loopQ I μ (blockQ 0 (seqQ (exK Try.prog E_laws_toFloat32S (cr (cr (cr (bodyC Try.f16))))) (retK Try.prog Try.f16 K))) (.exit 0) [.slice a_a a_n a_e, undef, .slice none 0 0, .slice (some ⟨b1, 0, none⟩) (((a_n : Int)).toNat) 1, .int .i64 i, .slice a_a a_n a_e, .int .i64 (a_n : Int), .slice (some ⟨b1, 0, none⟩) (((a_n : Int)).toNat) 1, g8, g9, g10, g11, g12, g13, g14, g15, g16, g17, g18, g19, g20, undef] H =
  (K (.slice (some ⟨b1, 0, none⟩) (((a_n : Int)).toNat) 1) H) := by kernel_rfl
theorem E_laws_toFloat32S_ok : ∀ g, FnOk Try.prog g (E_laws_toFloat32S g) := FnOk.envOf (by
  intro x hx; cases hx)
set_option maxHeartbeats 1000000 in
theorem laws_toFloat32S_main (a_a : Option Addr) (a_n : Nat) (a_e : Nat) (H : AHeap) (K : Value → AHeap → Prop) (h : T_laws_toFloat32S a_a a_n a_e H fun (r1_a : Option Addr) (r1_n : Nat) (r1_e : Nat) (H' : AHeap) => K (.slice r1_a r1_n r1_e) H') : bodyK Try.prog E_laws_toFloat32S Try.f16 [.slice a_a a_n a_e] H K := by
  rw [laws_toFloat32S_vc]
  obtain ⟨l_a, i_a, bd_29, hk⟩ := h
  have hk : (∀ (r1_a : Option Addr) (r1_n r1_e : Nat), ∀ H' : AHeap, Grow H H' → OwnS fF H' H.length r1_a r1_n r1_e (p_laws_toFloat32S l_a) → (fun (r1_a : Option Addr) (r1_n : Nat) (r1_e : Nat) (H' : AHeap) => K (.slice r1_a r1_n r1_e) H') r1_a r1_n r1_e H') := by rw [laws_toFloat32S_id l_a]; exact hk
  obtain rfl := i_a.eqn
  have e : (p_laws_toFloat32S l_a) = _ := rfl
  have e := e.trans (p_laws_toFloat32S_eq l_a)
  have g0 := Grow.refl H
  refine ⟨by omega, rfl, (by have := most_eq; omega), ?_⟩
  refine Al.intro (fun b_1 H_1 hb_2 hl_3 g_4 o_5 => ?_)
  rw [zeros_map fF 0 _ rfl] at o_5
  have l_7 := g_4.1
  have g_8 := g0.trans g_4
  have l_9 := g_8.1
  have w_28 := o_5.lt
  refine laws_toFloat32S_L1 _ _ _ _ (fun (μ : Nat) (i : Int) (H_2 : AHeap) => ∃ (y1_1 : List Nat), Own H_2 b_1 (y1_1.map fF) ∧ y1_1.length = ((l_a.length : Int)).toNat ∧ Grow H H_2 ∧ (0 : Int) ≤ i ∧ i ≤ (l_a.length : Int) ∧ (l_a.length : Int) - i ≤ (μ : Int) ∧ p_laws_toFloat32S l_a = p_laws_toFloat32S_l1 l_a (μ + 1) i y1_1) (Int.toNat ((l_a.length : Int) - (0 : Int))) _ _ _ _ _ _ _ _ _ _ _ _ _ _ H_1 ?_ ?_
  · exact ⟨_, o_5, (by first | rfl | (simp; done)), g_8, (by first | omega | (simp; done) | (simp; omega)), (by first | omega | (simp; done) | (simp; omega)), (by omega), e⟩
  · intro μ i g8 g9 g10 g11 g12 g13 g14 g15 g16 g17 g18 g19 g20 H_2 hI
    obtain ⟨y1_1, o_10, y_11, g_12, v_13, v_14, hμ, e⟩ := hI
    rw [laws_toFloat32S_r1]
    have e := e.trans (p_laws_toFloat32S_l1_s l_a μ i y1_1)
    have w_15 := o_10.lt
    have l_16 := g_12.1
    refine Br.intro (fun c_17 => ?_) (fun c_17 => ?_)
    · have e := e.trans (cond_t c_17)
      have c_17' := of_decide_eq_true c_17
      obtain ⟨b_18, f_19, q_20⟩ := ((i_a.grow g_12)).pos (by first | omega | (simp only [List.length_set, List.length_replicate, List.length_append, List.length_cons, List.length_nil, List.length_take, List.length_drop, marks_length]; done) | (simp only [List.length_set, List.length_replicate, List.length_append, List.length_cons, List.length_nil, List.length_take, List.length_drop, marks_length]; omega))
      refine ⟨by omega, by omega, b_18, f_19, q_20, ?_⟩
      refine ⟨((l_a).getD (i : Int).toNat 0), (i_a).rd g_12 q_20 (by omega) _, ?_⟩
      refine ⟨by omega, (by omega), _, _, rfl, ?_⟩
      refine Lt.set o_10 (by simp only [List.length_map]; (first | omega | (simp only [List.length_set, List.length_replicate, List.length_append, List.length_cons, List.length_nil, List.length_take, List.length_drop, marks_length]; done) | (simp only [List.length_set, List.length_replicate, List.length_append, List.length_cons, List.length_nil, List.length_take, List.length_drop, marks_length]; omega))) (fun H_3 hl_21 o_23 k_22 => ?_)
      have o_23 := map_set o_23
      have l_24 := k_22.1
      have g_25 := g_12.keep (b := b_1) (by omega) k_22
      have l_26 := g_25.1
      have w_27 := o_23.lt
      rw [show IntKind.wrap .i64 (i + 1) = (i + 1) from wrap64 (by omega) (by omega)]
      refine laws_toFloat32S_n1 (μ - 1) (by first | omega) ⟨_, o_23, (by first | assumption | omega | (simp only [List.length_set]; first | rfl | assumption | omega)), g_25, (by first | omega | (simp only [List.length_append, List.length_cons, List.length_nil, List.length_set]; done) | (simp only [List.length_append, List.length_cons, List.length_nil, List.length_set]; omega)), (by first | omega | (simp only [List.length_append, List.length_cons, List.length_nil, List.length_set]; done) | (simp only [List.length_append, List.length_cons, List.length_nil, List.length_set]; omega)), (by first | omega), (by rw [show μ - 1 + 1 = μ from by first | omega]; exact e)⟩
    · have e := e.trans (cond_f c_17)
      have c_17' := of_decide_eq_false c_17
      rw [laws_toFloat32S_x1_0]
      rw [e] at hk
      exact hk _ _ _ H_2 g_12 (o_10.ownS (by first | (simp only [List.length_replicate]; done) | omega | (simp; omega)) (by omega))
theorem laws_toFloat32S_ok : FnOk Try.prog 16 S_laws_toFloat32S := by
  refine FnOk.body mix_ok E_laws_toFloat32S_ok Try.func16 rfl (by kernel_rfl) (by kernel_rfl) ?_ ?_ ?_ ?_ ?_
  · intro args H K K' h hk
    simp only [S_laws_toFloat32S] at *
    unfold F_laws_toFloat32S at *
    split at hk
    · obtain ⟨l_a, i_a, bd_29, k⟩ := hk
      exact ⟨l_a, i_a, bd_29, (fun r1_a r1_n r1_e H' gg ow0 => h _ _ (k r1_a r1_n r1_e H' gg ow0))⟩
    · exact hk.elim
  · intro hq; cases hq
  · intro args H K hk
    simp only [S_laws_toFloat32S] at *
    unfold F_laws_toFloat32S at *
    split at hk
    · obtain ⟨l_a, i_a, bd_29, k⟩ := hk
      exact liveS fun a n e H1 g o => ⟨_, _, k a n e H1 g o⟩
    · exact hk.elim
  · intro _ args H K hk
    simp only [S_laws_toFloat32S] at *
    unfold F_laws_toFloat32S at *
    split at hk
    · obtain ⟨l_a, i_a, bd_29, k⟩ := hk
      exact ⟨l_a, i_a, bd_29, (fun r1_a r1_n r1_e H' gg ow0 => ⟨gg, k r1_a r1_n r1_e H' gg ow0⟩)⟩
    · exact hk.elim
  · have mm := @laws_toFloat32S_main
    revert mm
    generalize bodyK Try.prog E_laws_toFloat32S Try.f16 = Q
    intro mm args H K hk
    simp only [S_laws_toFloat32S] at *
    unfold F_laws_toFloat32S at *
    split at hk
    · exact mm _ _ _ H K hk
    · exact hk.elim
def p_spec_l01Finite (x : Nat) : Bool := feq .f32 (fsub .f32 x x) 0
theorem p_spec_l01Finite_eq (x : Nat) : p_spec_l01Finite x = feq .f32 (fsub .f32 x x) 0 := rfl
def T_spec_l01Finite (x : Nat) (H : AHeap) (K : Bool → AHeap → Prop) : Prop := K (p_spec_l01Finite x) H

theorem T_spec_l01Finite_i {x : Nat} {H : AHeap} {K : Bool → AHeap → Prop} (h : K (p_spec_l01Finite x) H) : T_spec_l01Finite x H K := h
/-! spec_l01Finite: function 57 -/
def E_spec_l01Finite : Env := envOf []
def F_spec_l01Finite : List Value → AHeap → (Value → AHeap → Prop) → Prop
  | [.float .f32 x], H, K => T_spec_l01Finite x H fun (r1 : Bool) (H' : AHeap) => K (.bool r1) H'
  | _, _, _ => False
def S_spec_l01Finite : FSpec := { F := F_spec_l01Finite, quiet := true, tame := false }
theorem spec_l01Finite_vc (x : Nat) (H : AHeap) (K : Value → AHeap → Prop) : bodyK Try.prog E_spec_l01Finite Try.f57 [.float .f32 x] H K =
  (K (.bool (feq .f32 (fsub .f32 x x) 0)) H) := by kernel_rfl
theorem E_spec_l01Finite_ok : ∀ g, FnOk Try.prog g (E_spec_l01Finite g) := FnOk.envOf (by
  intro x hx; cases hx)
set_option maxHeartbeats 1000000 in
theorem spec_l01Finite_main (x : Nat) (H : AHeap) (K : Value → AHeap → Prop) (h : T_spec_l01Finite x H fun (r1 : Bool) (H' : AHeap) => K (.bool r1) H') : bodyK Try.prog E_spec_l01Finite Try.f57 [.float .f32 x] H K := by
  rw [spec_l01Finite_vc]
  unfold T_spec_l01Finite p_spec_l01Finite at h
  repeat' (first | exact h | (exfalso; simp_all; done) | (refine ⟨by decide, ?_⟩) | (refine Br.intro (fun hb => ?_) (fun hb => ?_) <;> (try simp only [hb, cond_true, cond_false, Bool.not_true, Bool.not_false] at h)))
theorem spec_l01Finite_ok : FnOk Try.prog 57 S_spec_l01Finite := by
  refine FnOk.body mix_ok E_spec_l01Finite_ok Try.func57 rfl (by kernel_rfl) (by kernel_rfl) ?_ ?_ ?_ ?_ ?_
  · intro args H K K' h hk
    simp only [S_spec_l01Finite] at *
    unfold F_spec_l01Finite at *
    split at hk
    · have k := hk
      exact h _ _ k
    · exact hk.elim
  · intro _ args H K hk
    simp only [S_spec_l01Finite] at *
    unfold F_spec_l01Finite at *
    split at hk
    · have k := hk
      exact ⟨_, k, fun K' k' => k'⟩
    · exact hk.elim
  · intro args H K hk
    simp only [S_spec_l01Finite] at *
    unfold F_spec_l01Finite at *
    split at hk
    · have k := hk
      exact ⟨_, _, k⟩
    · exact hk.elim
  · intro hq; cases hq
  · have mm := @spec_l01Finite_main
    revert mm
    generalize bodyK Try.prog E_spec_l01Finite Try.f57 = Q
    intro mm args H K hk
    simp only [S_spec_l01Finite] at *
    unfold F_spec_l01Finite at *
    split at hk
    · exact mm _ H K hk
    · exact hk.elim
def p_spec_l02Finite_l1 (l_list : List Nat) : Nat → Bool → Int → Bool
  | 0, _, _ => false
  | μ + 1, t2, i => (bif decide ((i : Int) < (l_list.length : Int)) then (bif !((p_spec_l01Finite (((l_list).getD (i : Int).toNat 0)))) then false else (p_spec_l02Finite_l1 l_list μ t2 (i + 1))) else true)
theorem p_spec_l02Finite_l1_s (l_list : List Nat) (μ : Nat) (t2 : Bool) (i : Int) : p_spec_l02Finite_l1 l_list (μ + 1) t2 i = (bif decide ((i : Int) < (l_list.length : Int)) then (bif !((p_spec_l01Finite (((l_list).getD (i : Int).toNat 0)))) then false else (p_spec_l02Finite_l1 l_list μ t2 (i + 1))) else true) := rfl
def p_spec_l02Finite (l_list : List Nat) : Bool := (p_spec_l02Finite_l1 l_list (Int.toNat ((l_list.length : Int) - (0 : Int)) + 1) false (0 : Int))
theorem p_spec_l02Finite_eq (l_list : List Nat) : p_spec_l02Finite l_list = (p_spec_l02Finite_l1 l_list (Int.toNat ((l_list.length : Int) - (0 : Int)) + 1) false (0 : Int)) := rfl
def T_spec_l02Finite (list_a : Option Addr) (list_n : Nat) (list_e : Nat) (H : AHeap) (K : Bool → AHeap → Prop) : Prop := ∃ (l_list : List Nat), IsL fF H list_a list_n l_list ∧ l_list.length < 1073741824 ∧ K (p_spec_l02Finite l_list) H
theorem T_spec_l02Finite_i {list_a : Option Addr} {list_n : Nat} {list_e : Nat} {H : AHeap} {K : Bool → AHeap → Prop} (h : ∃ (l_list : List Nat), IsL fF H list_a list_n l_list ∧ l_list.length < 1073741824 ∧ K (p_spec_l02Finite l_list) H) : T_spec_l02Finite list_a list_n list_e H K := h

/-! spec_l02Finite: function 67 -/
def E_spec_l02Finite : Env := envOf [(57, S_spec_l01Finite)]
def F_spec_l02Finite : List Value → AHeap → (Value → AHeap → Prop) → Prop
  | [.slice list_a list_n list_e], H, K => T_spec_l02Finite list_a list_n list_e H fun (r1 : Bool) (H' : AHeap) => K (.bool r1) H'
  | _, _, _ => False
def S_spec_l02Finite : FSpec := { F := F_spec_l02Finite, quiet := true, tame := false }
theorem spec_l02Finite_vc (list_a : Option Addr) (list_n : Nat) (list_e : Nat) (H : AHeap) (K : Value → AHeap → Prop) : bodyK Try.prog E_spec_l02Finite Try.f67 [.slice list_a list_n list_e] H K =
  (loopK (exK Try.prog E_spec_l02Finite (cl (cl (cr (cl (cr (bodyC Try.f67))))))) [.slice list_a list_n list_e, undef, .bool false, .int .i64 0, undef, undef, undef, undef, undef, undef, undef, undef, undef, undef, undef, undef] H (blockQ 0 (seqQ (exK Try.prog E_spec_l02Finite (cr (cr (bodyC Try.f67)))) (retK Try.prog Try.f67 K)))) := by kernel_rfl
theorem spec_l02Finite_r1 (list_a : Option Addr) (list_e : Nat) (list_n : Nat) (t2 : Bool) (i : Int) (g4 g5 g6 g7 g8 g9 g10 g11 g12 g13 g14 g15 : Value) (H : AHeap) (R : Post) : exK Try.prog E_spec_l02Finite (cl (cl (cr (cl (cr (bodyC Try.f67)))))) [.slice list_a list_n list_e, undef, .bool t2, .int .i64 i, g4, g5, g6, g7, g8, g9, g10, g11, g12, g13, g14, g15] H R =
  (Br (decide ((i : Int) < (list_n : Int))) ((0 : Int) ≤ i ∧ i < (list_n : Int) ∧ ∃ b1 f1, (list_a : Option Addr) = some ⟨b1, f1, none⟩ ∧ ∃ x1 : Nat,  rdC H b1 (f1 + (i : Int).toNat * 1) = some (.float .f32 x1) ∧ T_spec_l01Finite x1 H fun (r1 : Bool) (H1 : AHeap) => Br (!r1) (R .ret [.slice list_a list_n list_e, undef, .bool false, .int .i64 i, .int .i64 i, .slice list_a list_n list_e, .int .i64 (list_n : Int), .bool (decide ((i : Int) < (list_n : Int))), g8, g9, .slice list_a list_n list_e, .int .i64 i, .pointer (some ⟨b1, f1 + (i : Int).toNat * 1, none⟩), .float .f32 x1, .bool r1, .bool (!r1)] H1) (R .normal [.slice list_a list_n list_e, undef, .bool t2, .int .i64 (IntKind.wrap .i64 (i + 1)), .int .i64 i, .slice list_a list_n list_e, .int .i64 (list_n : Int), .bool (decide ((i : Int) < (list_n : Int))), .int .i64 i, .int .i64 (IntKind.wrap .i64 (i + 1)), .slice list_a list_n list_e, .int .i64 i, .pointer (some ⟨b1, f1 + (i : Int).toNat * 1, none⟩), .float .f32 x1, .bool r1, .bool (!r1)] H1)) (R (.exit 0) [.slice list_a list_n list_e, undef, .bool t2, .int .i64 i, .int .i64 i, .slice list_a list_n list_e, .int .i64 (list_n : Int), .bool (decide ((i : Int) < (list_n : Int))), g8, g9, g10, g11, g12, g13, g14, g15] H)) := by kernel_rfl
def spec_l02Finite_I1 (list_a : Option Addr) (list_e : Nat) (list_n : Nat) (Inv : Nat → Bool → Int → AHeap → Prop) : Nat → List Value → AHeap → Prop := fun μ tm H => ∃ (t2 : Bool), ∃ (i : Int), ∃ g4 g5 g6 g7 g8 g9 g10 g11 g12 g13 g14 g15, tm = [.slice list_a list_n list_e, undef, .bool t2, .int .i64 i, g4, g5, g6, g7, g8, g9, g10, g11, g12, g13, g14, g15] ∧ Inv μ t2 i H
theorem spec_l02Finite_L1 (list_a : Option Addr) (list_e : Nat) (list_n : Nat) {Q : Post} (Inv : Nat → Bool → Int → AHeap → Prop) (ν : Nat) (t2 : Bool) (i : Int) (g4 g5 g6 g7 g8 g9 g10 g11 g12 g13 g14 g15 : Value) (H : AHeap) (h0 : Inv ν t2 i H)
    (hs : ∀ (μ : Nat) (t2 : Bool) (i : Int) (g4 g5 g6 g7 g8 g9 g10 g11 g12 g13 g14 g15 : Value) (H : AHeap), Inv μ t2 i H → exK Try.prog E_spec_l02Finite (cl (cl (cr (cl (cr (bodyC Try.f67)))))) [.slice list_a list_n list_e, undef, .bool t2, .int .i64 i, g4, g5, g6, g7, g8, g9, g10, g11, g12, g13, g14, g15] H (loopQ (spec_l02Finite_I1 list_a list_e list_n Inv) μ Q)) : loopK (exK Try.prog E_spec_l02Finite (cl (cl (cr (cl (cr (bodyC Try.f67))))))) [.slice list_a list_n list_e, undef, .bool t2, .int .i64 i, g4, g5, g6, g7, g8, g9, g10, g11, g12, g13, g14, g15] H Q :=
  ⟨spec_l02Finite_I1 list_a list_e list_n Inv, ν, ⟨t2, i, g4, g5, g6, g7, g8, g9, g10, g11, g12, g13, g14, g15, rfl, h0⟩, fun μ tm H h => by obtain ⟨t2, i, g4, g5, g6, g7, g8, g9, g10, g11, g12, g13, g14, g15, rfl, hI⟩ := h; exact hs μ t2 i g4 g5 g6 g7 g8 g9 g10 g11 g12 g13 g14 g15 H hI⟩
theorem spec_l02Finite_n1 {list_a : Option Addr} {list_e : Nat} {list_n : Nat} {Q : Post} {Inv : Nat → Bool → Int → AHeap → Prop} {μ : Nat} (μ' : Nat) {t2 : Bool} {i : Int} {g4 g5 g6 g7 g8 g9 g10 g11 g12 g13 g14 g15 : Value} {H : AHeap} (hm : μ' < μ) (hI : Inv μ' t2 i H) : loopQ (spec_l02Finite_I1 list_a list_e list_n Inv) μ Q .normal [.slice list_a list_n list_e, undef, .bool t2, .int .i64 i, g4, g5, g6, g7, g8, g9, g10, g11, g12, g13, g14, g15] H := ⟨μ', hm, t2, i, g4, g5, g6, g7, g8, g9, g10, g11, g12, g13, g14, g15, rfl, hI⟩
theorem spec_l02Finite_x1_0 (list_a : Option Addr) (list_e : Nat) (list_n : Nat) (t2 : Bool) (i : Int) (g4 g5 g6 g7 g8 g9 g10 g11 g12 g13 g14 g15 : Value) (H : AHeap) (K : Value → AHeap → Prop)  {I : Nat → List Value → AHeap → Prop} {μ : Nat} : loopQ I μ (blockQ 0 (seqQ (exK Try.prog E_spec_l02Finite (cr (cr (bodyC Try.f67)))) (retK Try.prog Try.f67 K))) (.exit 0) [.slice list_a list_n list_e, undef, .bool t2, .int .i64 i, g4, g5, g6, g7, g8, g9, g10, g11, g12, g13, g14, g15] H =
  (K (.bool true) H) := by kernel_rfl
theorem spec_l02Finite_x1_ret (list_a : Option Addr) (list_e : Nat) (list_n : Nat) (t2 : Bool) (i : Int) (g4 g5 g6 g7 g8 g9 g10 g11 g12 g13 g14 g15 : Value) (H : AHeap) (K : Value → AHeap → Prop)  {I : Nat → List Value → AHeap → Prop} {μ : Nat} : loopQ I μ (blockQ 0 (seqQ (exK Try.prog E_spec_l02Finite (cr (cr (bodyC Try.f67)))) (retK Try.prog Try.f67 K))) .ret [.slice list_a list_n list_e, undef, .bool t2, .int .i64 i, g4, g5, g6, g7, g8, g9, g10, g11, g12, g13, g14, g15] H =
  (K (.bool t2) H) := by kernel_rfl
theorem E_spec_l02Finite_ok : ∀ g, FnOk Try.prog g (E_spec_l02Finite g) := FnOk.envOf (by
  intro x hx
  simp only [List.mem_cons, List.not_mem_nil, or_false] at hx
  subst hx; exact spec_l01Finite_ok)
set_option maxHeartbeats 1000000 in
theorem spec_l02Finite_main (list_a : Option Addr) (list_n : Nat) (list_e : Nat) (H : AHeap) (K : Value → AHeap → Prop) (h : T_spec_l02Finite list_a list_n list_e H fun (r1 : Bool) (H' : AHeap) => K (.bool r1) H') : bodyK Try.prog E_spec_l02Finite Try.f67 [.slice list_a list_n list_e] H K := by
  rw [spec_l02Finite_vc]
  obtain ⟨l_list, i_list, bd_9, hk⟩ := h
  obtain rfl := i_list.eqn
  have e : (p_spec_l02Finite l_list) = _ := rfl
  have e := e.trans (p_spec_l02Finite_eq l_list)
  have g0 := Grow.refl H
  refine spec_l02Finite_L1 _ _ _ (fun (μ : Nat) (t2 : Bool) (i : Int) (H_1 : AHeap) => H = H_1 ∧ (0 : Int) ≤ i ∧ i ≤ (l_list.length : Int) ∧ (l_list.length : Int) - i ≤ (μ : Int) ∧ p_spec_l02Finite l_list = p_spec_l02Finite_l1 l_list (μ + 1) t2 i) (Int.toNat ((l_list.length : Int) - (0 : Int))) _ _ _ _ _ _ _ _ _ _ _ _ _ _ H ?_ ?_
  · exact ⟨rfl, (by first | omega | (simp; done) | (simp; omega)), (by first | omega | (simp; done) | (simp; omega)), (by omega), e⟩
  · intro μ t2 i g4 g5 g6 g7 g8 g9 g10 g11 g12 g13 g14 g15 H_1 hI
    obtain ⟨rfl, v_1, v_2, hμ, e⟩ := hI
    rw [spec_l02Finite_r1]
    have e := e.trans (p_spec_l02Finite_l1_s l_list μ t2 i)
    have l_3 := g0.1
    refine Br.intro (fun c_4 => ?_) (fun c_4 => ?_)
    · have e := e.trans (cond_t c_4)
      have c_4' := of_decide_eq_true c_4
      obtain ⟨b_5, f_6, q_7⟩ := ((i_list.grow g0)).pos (by first | omega | (simp only [List.length_set, List.length_replicate, List.length_append, List.length_cons, List.length_nil, List.length_take, List.length_drop, marks_length]; done) | (simp only [List.length_set, List.length_replicate, List.length_append, List.length_cons, List.length_nil, List.length_take, List.length_drop, marks_length]; omega))
      refine ⟨by omega, by omega, b_5, f_6, q_7, ?_⟩
      refine ⟨((l_list).getD (i : Int).toNat 0), (i_list).rd g0 q_7 (by omega) _, ?_⟩
      refine T_spec_l01Finite_i ?_
      refine Br.intro (fun c_8 => ?_) (fun c_8 => ?_)
      · have e := e.trans (cond_t c_8)
        have c_8n := nf_of_t c_8
        rw [spec_l02Finite_x1_ret]
        rw [e] at hk
        exact hk
      · have e := e.trans (cond_f c_8)
        have c_8n := nt_of_f c_8
        rw [show IntKind.wrap .i64 (i + 1) = (i + 1) from wrap64 (by omega) (by omega)]
        refine spec_l02Finite_n1 (μ - 1) (by first | omega) ⟨rfl, (by first | omega | (simp only [List.length_append, List.length_cons, List.length_nil, List.length_set]; done) | (simp only [List.length_append, List.length_cons, List.length_nil, List.length_set]; omega)), (by first | omega | (simp only [List.length_append, List.length_cons, List.length_nil, List.length_set]; done) | (simp only [List.length_append, List.length_cons, List.length_nil, List.length_set]; omega)), (by first | omega), (by rw [show μ - 1 + 1 = μ from by first | omega]; exact e)⟩
    · have e := e.trans (cond_f c_4)
      have c_4' := of_decide_eq_false c_4
      rw [spec_l02Finite_x1_0]
      rw [e] at hk
      exact hk
theorem spec_l02Finite_ok : FnOk Try.prog 67 S_spec_l02Finite := by
  refine FnOk.body mix_ok E_spec_l02Finite_ok Try.func67 rfl (by kernel_rfl) (by kernel_rfl) ?_ ?_ ?_ ?_ ?_
  · intro args H K K' h hk
    simp only [S_spec_l02Finite] at *
    unfold F_spec_l02Finite at *
    split at hk
    · obtain ⟨l_list, i_list, bd_9, k⟩ := hk
      exact ⟨l_list, i_list, bd_9, h _ _ k⟩
    · exact hk.elim
  · intro _ args H K hk
    simp only [S_spec_l02Finite] at *
    unfold F_spec_l02Finite at *
    split at hk
    · obtain ⟨l_list, i_list, bd_9, k⟩ := hk
      exact ⟨_, k, fun K' k' => ⟨l_list, i_list, bd_9, k'⟩⟩
    · exact hk.elim
  · intro args H K hk
    simp only [S_spec_l02Finite] at *
    unfold F_spec_l02Finite at *
    split at hk
    · obtain ⟨l_list, i_list, bd_9, k⟩ := hk
      exact ⟨_, _, k⟩
    · exact hk.elim
  · intro hq; cases hq
  · have mm := @spec_l02Finite_main
    revert mm
    generalize bodyK Try.prog E_spec_l02Finite Try.f67 = Q
    intro mm args H K hk
    simp only [S_spec_l02Finite] at *
    unfold F_spec_l02Finite at *
    split at hk
    · exact mm _ _ _ H K hk
    · exact hk.elim
def p_spec_l03Long (l_list : List Nat) : Bool := (bif decide ((1 : Int) ≤ (l_list.length : Int)) then (bif decide (((l_list.length : Int) : Int) ≤ 128) then (p_spec_l02Finite l_list) else false) else false)
theorem p_spec_l03Long_eq (l_list : List Nat) : p_spec_l03Long l_list = (bif decide ((1 : Int) ≤ (l_list.length : Int)) then (bif decide (((l_list.length : Int) : Int) ≤ 128) then (p_spec_l02Finite l_list) else false) else false) := rfl
def T_spec_l03Long (list_a : Option Addr) (list_n : Nat) (list_e : Nat) (H : AHeap) (K : Bool → AHeap → Prop) : Prop := ∃ (l_list : List Nat), IsL fF H list_a list_n l_list ∧ l_list.length < 1073741824 ∧ K (p_spec_l03Long l_list) H
theorem T_spec_l03Long_i {list_a : Option Addr} {list_n : Nat} {list_e : Nat} {H : AHeap} {K : Bool → AHeap → Prop} (h : ∃ (l_list : List Nat), IsL fF H list_a list_n l_list ∧ l_list.length < 1073741824 ∧ K (p_spec_l03Long l_list) H) : T_spec_l03Long list_a list_n list_e H K := h
theorem spec_l03Long_t {l : List Nat} (h : p_spec_l03Long l = true) : 1 ≤ (l.length : Int) ∧ (l.length : Int) ≤ 128 := by
  rw [p_spec_l03Long_eq] at h
  by_cases h1 : (1 : Int) ≤ (l.length : Int)
  · rw [decide_eq_true h1, cond_true] at h
    by_cases h2 : (l.length : Int) ≤ 128
    · exact ⟨h1, h2⟩
    · rw [decide_eq_false h2] at h; cases h
  · rw [decide_eq_false h1] at h; cases h
/-! spec_l03Long: function 56 -/
def E_spec_l03Long : Env := envOf [(67, S_spec_l02Finite)]
def F_spec_l03Long : List Value → AHeap → (Value → AHeap → Prop) → Prop
  | [.slice list_a list_n list_e], H, K => T_spec_l03Long list_a list_n list_e H fun (r1 : Bool) (H' : AHeap) => K (.bool r1) H'
  | _, _, _ => False
def S_spec_l03Long : FSpec := { F := F_spec_l03Long, quiet := true, tame := false }
theorem spec_l03Long_vc (list_a : Option Addr) (list_n : Nat) (list_e : Nat) (H : AHeap) (K : Value → AHeap → Prop) : bodyK Try.prog E_spec_l03Long Try.f56 [.slice list_a list_n list_e] H K =
  (Br (decide ((1 : Int) ≤ (list_n : Int))) (Br (decide (((list_n : Int) : Int) ≤ 128)) (T_spec_l02Finite list_a list_n list_e H fun (r1 : Bool) (H1 : AHeap) => K (.bool r1) H1) (K (.bool false) H)) (K (.bool false) H)) := by kernel_rfl
theorem E_spec_l03Long_ok : ∀ g, FnOk Try.prog g (E_spec_l03Long g) := FnOk.envOf (by
  intro x hx
  simp only [List.mem_cons, List.not_mem_nil, or_false] at hx
  subst hx; exact spec_l02Finite_ok)
set_option maxHeartbeats 1000000 in
theorem spec_l03Long_main (list_a : Option Addr) (list_n : Nat) (list_e : Nat) (H : AHeap) (K : Value → AHeap → Prop) (h : T_spec_l03Long list_a list_n list_e H fun (r1 : Bool) (H' : AHeap) => K (.bool r1) H') : bodyK Try.prog E_spec_l03Long Try.f56 [.slice list_a list_n list_e] H K := by
  rw [spec_l03Long_vc]
  obtain ⟨l_list, i_list, bd_3, hk⟩ := h
  obtain rfl := i_list.eqn
  have e : (p_spec_l03Long l_list) = _ := rfl
  have e := e.trans (p_spec_l03Long_eq l_list)
  have g0 := Grow.refl H
  refine Br.intro (fun c_1 => ?_) (fun c_1 => ?_)
  · have e := e.trans (cond_t c_1)
    have c_1' := of_decide_eq_true c_1
    refine Br.intro (fun c_2 => ?_) (fun c_2 => ?_)
    · have e := e.trans (cond_t c_2)
      have c_2' := of_decide_eq_true c_2
      refine T_spec_l02Finite_i ⟨_, (i_list.grow g0), (by first | omega | (simp only [List.length_set, List.length_replicate, List.length_append, List.length_cons, List.length_nil, List.length_take, List.length_drop, marks_length]; done) | (simp only [List.length_set, List.length_replicate, List.length_append, List.length_cons, List.length_nil, List.length_take, List.length_drop, marks_length]; omega)), ?_⟩
      rw [e] at hk
      exact hk
    · have e := e.trans (cond_f c_2)
      have c_2' := of_decide_eq_false c_2
      rw [e] at hk
      exact hk
  · have e := e.trans (cond_f c_1)
    have c_1' := of_decide_eq_false c_1
    rw [e] at hk
    exact hk
theorem spec_l03Long_ok : FnOk Try.prog 56 S_spec_l03Long := by
  refine FnOk.body mix_ok E_spec_l03Long_ok Try.func56 rfl (by kernel_rfl) (by kernel_rfl) ?_ ?_ ?_ ?_ ?_
  · intro args H K K' h hk
    simp only [S_spec_l03Long] at *
    unfold F_spec_l03Long at *
    split at hk
    · obtain ⟨l_list, i_list, bd_3, k⟩ := hk
      exact ⟨l_list, i_list, bd_3, h _ _ k⟩
    · exact hk.elim
  · intro _ args H K hk
    simp only [S_spec_l03Long] at *
    unfold F_spec_l03Long at *
    split at hk
    · obtain ⟨l_list, i_list, bd_3, k⟩ := hk
      exact ⟨_, k, fun K' k' => ⟨l_list, i_list, bd_3, k'⟩⟩
    · exact hk.elim
  · intro args H K hk
    simp only [S_spec_l03Long] at *
    unfold F_spec_l03Long at *
    split at hk
    · obtain ⟨l_list, i_list, bd_3, k⟩ := hk
      exact ⟨_, _, k⟩
    · exact hk.elim
  · intro hq; cases hq
  · have mm := @spec_l03Long_main
    revert mm
    generalize bodyK Try.prog E_spec_l03Long Try.f56 = Q
    intro mm args H K hk
    simp only [S_spec_l03Long] at *
    unfold F_spec_l03Long at *
    split at hk
    · exact mm _ _ _ H K hk
    · exact hk.elim
def p_spec_l02Above (x : Nat) : Bool := (bif (p_spec_l01Finite x) then flt .f32 0 x else false)
theorem p_spec_l02Above_eq (x : Nat) : p_spec_l02Above x = (bif (p_spec_l01Finite x) then flt .f32 0 x else false) := rfl
def T_spec_l02Above (x : Nat) (H : AHeap) (K : Bool → AHeap → Prop) : Prop := K (p_spec_l02Above x) H

theorem T_spec_l02Above_i {x : Nat} {H : AHeap} {K : Bool → AHeap → Prop} (h : K (p_spec_l02Above x) H) : T_spec_l02Above x H K := h
/-! spec_l02Above: function 58 -/
def E_spec_l02Above : Env := envOf [(57, S_spec_l01Finite)]
def F_spec_l02Above : List Value → AHeap → (Value → AHeap → Prop) → Prop
  | [.float .f32 x], H, K => T_spec_l02Above x H fun (r1 : Bool) (H' : AHeap) => K (.bool r1) H'
  | _, _, _ => False
def S_spec_l02Above : FSpec := { F := F_spec_l02Above, quiet := true, tame := false }
theorem spec_l02Above_vc (x : Nat) (H : AHeap) (K : Value → AHeap → Prop) : bodyK Try.prog E_spec_l02Above Try.f58 [.float .f32 x] H K =
  (T_spec_l01Finite x H fun (r1 : Bool) (H1 : AHeap) => Br r1 (K (.bool (flt .f32 0 x)) H1) (K (.bool false) H1)) := by kernel_rfl
theorem E_spec_l02Above_ok : ∀ g, FnOk Try.prog g (E_spec_l02Above g) := FnOk.envOf (by
  intro x hx
  simp only [List.mem_cons, List.not_mem_nil, or_false] at hx
  subst hx; exact spec_l01Finite_ok)
set_option maxHeartbeats 1000000 in
theorem spec_l02Above_main (x : Nat) (H : AHeap) (K : Value → AHeap → Prop) (h : T_spec_l02Above x H fun (r1 : Bool) (H' : AHeap) => K (.bool r1) H') : bodyK Try.prog E_spec_l02Above Try.f58 [.float .f32 x] H K := by
  rw [spec_l02Above_vc]
  simp only [T_spec_l01Finite]
  unfold T_spec_l02Above p_spec_l02Above at h
  repeat' (first | exact h | (exfalso; simp_all; done) | (refine ⟨by decide, ?_⟩) | (refine Br.intro (fun hb => ?_) (fun hb => ?_) <;> (try simp only [hb, cond_true, cond_false, Bool.not_true, Bool.not_false] at h)))
theorem spec_l02Above_ok : FnOk Try.prog 58 S_spec_l02Above := by
  refine FnOk.body mix_ok E_spec_l02Above_ok Try.func58 rfl (by kernel_rfl) (by kernel_rfl) ?_ ?_ ?_ ?_ ?_
  · intro args H K K' h hk
    simp only [S_spec_l02Above] at *
    unfold F_spec_l02Above at *
    split at hk
    · have k := hk
      exact h _ _ k
    · exact hk.elim
  · intro _ args H K hk
    simp only [S_spec_l02Above] at *
    unfold F_spec_l02Above at *
    split at hk
    · have k := hk
      exact ⟨_, k, fun K' k' => k'⟩
    · exact hk.elim
  · intro args H K hk
    simp only [S_spec_l02Above] at *
    unfold F_spec_l02Above at *
    split at hk
    · have k := hk
      exact ⟨_, _, k⟩
    · exact hk.elim
  · intro hq; cases hq
  · have mm := @spec_l02Above_main
    revert mm
    generalize bodyK Try.prog E_spec_l02Above Try.f58 = Q
    intro mm args H K hk
    simp only [S_spec_l02Above] at *
    unfold F_spec_l02Above at *
    split at hk
    · exact mm _ H K hk
    · exact hk.elim
def p_math_Float64frombits (x : Int) : Nat := cn .f64 x.toNat
def T_math_Float64frombits (x : Int) (H : AHeap) (K : Nat → AHeap → Prop) : Prop := K (p_math_Float64frombits x) H
theorem T_math_Float64frombits_i {x : Int} {H : AHeap} {K : Nat → AHeap → Prop} (h : K (p_math_Float64frombits x) H) : T_math_Float64frombits x H K := h
def F_math_Float64frombits : List Value → AHeap → (Value → AHeap → Prop) → Prop
  | [.int .u64 b], H, K => T_math_Float64frombits b H fun r1 H' => K (.float .f64 r1) H'
  | _, _, _ => False
def S_math_Float64frombits : FSpec := { F := F_math_Float64frombits, quiet := true }
theorem F_math_Float64frombits_o {args : List Value} {H : AHeap} {K : Value → AHeap → Prop} (h : S_math_Float64frombits.F args H K) : ∃ x, args = [.int .u64 x] ∧ K (.float .f64 (p_math_Float64frombits x)) H := by
  simp only [S_math_Float64frombits] at h
  unfold F_math_Float64frombits at h
  split at h
  · exact ⟨_, rfl, h⟩
  · exact h.elim
theorem math_Float64frombits_ok : FnOk Try.prog 142 S_math_Float64frombits := by
  refine FnOk.ext rfl ?_ ?_ ?_ ?_
  · intro args H K K' h hk
    obtain ⟨x, rfl, k⟩ := F_math_Float64frombits_o hk
    exact h _ _ k
  · intro _ args H K hk
    obtain ⟨x, rfl, k⟩ := F_math_Float64frombits_o hk
    exact ⟨_, k, fun K' k' => k'⟩
  · intro args H K hk
    obtain ⟨x, rfl, k⟩ := F_math_Float64frombits_o hk
    exact ⟨_, _, k⟩
  · intro ρ w args args' H K ha hk
    obtain ⟨x, rfl, k⟩ := F_math_Float64frombits_o hk
    obtain ⟨y, ys, rfl, h3, h4⟩ := ha.uncons
    obtain rfl := h4.unnil
    cases h3
    refine ⟨_, .float .f64 x.toNat, w, ?_, .refl w, .float .f64 _ _ rfl, k⟩
    have := run_callFunc_extern (e := Extern.MathFloatBits.float64frombits) Try.func142 (by kernel_rfl) (by kernel_rfl) (by kernel_rfl) (by kernel_rfl) #[.int .u64 x] w
    rw [this]; rfl

def p_math_Inf (sign : Int) : Nat := (bif decide ((0 : Int) ≤ sign) then (p_math_Float64frombits 9218868437227405312) else (p_math_Float64frombits 18442240474082181120))
theorem p_math_Inf_eq (sign : Int) : p_math_Inf sign = (bif decide ((0 : Int) ≤ sign) then (p_math_Float64frombits 9218868437227405312) else (p_math_Float64frombits 18442240474082181120)) := rfl
def T_math_Inf (sign : Int) (H : AHeap) (K : Nat → AHeap → Prop) : Prop := K (p_math_Inf sign) H

theorem T_math_Inf_i {sign : Int} {H : AHeap} {K : Nat → AHeap → Prop} (h : K (p_math_Inf sign) H) : T_math_Inf sign H K := h
/-! math_Inf: function 122 -/
def E_math_Inf : Env := envOf [(142, S_math_Float64frombits)]
def F_math_Inf : List Value → AHeap → (Value → AHeap → Prop) → Prop
  | [.int .i64 sign], H, K => T_math_Inf sign H fun (r1 : Nat) (H' : AHeap) => K (.float .f64 r1) H'
  | _, _, _ => False
def S_math_Inf : FSpec := { F := F_math_Inf, quiet := true, tame := false }
theorem math_Inf_vc (sign : Int) (H : AHeap) (K : Value → AHeap → Prop) : bodyK Try.prog E_math_Inf Try.f122 [.int .i64 sign] H K =
  (Br (decide ((0 : Int) ≤ sign)) (T_math_Float64frombits 9218868437227405312 H fun (r1 : Nat) (H1 : AHeap) => K (.float .f64 r1) H1) (T_math_Float64frombits 18442240474082181120 H fun (r2 : Nat) (H2 : AHeap) => K (.float .f64 r2) H2)) := by kernel_rfl
theorem E_math_Inf_ok : ∀ g, FnOk Try.prog g (E_math_Inf g) := FnOk.envOf (by
  intro x hx
  simp only [List.mem_cons, List.not_mem_nil, or_false] at hx
  subst hx; exact math_Float64frombits_ok)
set_option maxHeartbeats 1000000 in
theorem math_Inf_main (sign : Int) (H : AHeap) (K : Value → AHeap → Prop) (h : T_math_Inf sign H fun (r1 : Nat) (H' : AHeap) => K (.float .f64 r1) H') : bodyK Try.prog E_math_Inf Try.f122 [.int .i64 sign] H K := by
  rw [math_Inf_vc]
  simp only [T_math_Float64frombits]
  unfold T_math_Inf p_math_Inf at h
  repeat' (first | exact h | (exfalso; simp_all; done) | (refine ⟨by decide, ?_⟩) | (refine Br.intro (fun hb => ?_) (fun hb => ?_) <;> (try simp only [hb, cond_true, cond_false, Bool.not_true, Bool.not_false] at h)))
theorem math_Inf_ok : FnOk Try.prog 122 S_math_Inf := by
  refine FnOk.body mix_ok E_math_Inf_ok Try.func122 rfl (by kernel_rfl) (by kernel_rfl) ?_ ?_ ?_ ?_ ?_
  · intro args H K K' h hk
    simp only [S_math_Inf] at *
    unfold F_math_Inf at *
    split at hk
    · have k := hk
      exact h _ _ k
    · exact hk.elim
  · intro _ args H K hk
    simp only [S_math_Inf] at *
    unfold F_math_Inf at *
    split at hk
    · have k := hk
      exact ⟨_, k, fun K' k' => k'⟩
    · exact hk.elim
  · intro args H K hk
    simp only [S_math_Inf] at *
    unfold F_math_Inf at *
    split at hk
    · have k := hk
      exact ⟨_, _, k⟩
    · exact hk.elim
  · intro hq; cases hq
  · have mm := @math_Inf_main
    revert mm
    generalize bodyK Try.prog E_math_Inf Try.f122 = Q
    intro mm args H K hk
    simp only [S_math_Inf] at *
    unfold F_math_Inf at *
    split at hk
    · exact mm _ H K hk
    · exact hk.elim
def p_spec_l01ExpWide_l2 (y : Nat) (p : Nat) (k : Int) (k2_2 : Nat → Int → Nat) : Nat → Nat → Int → Nat
  | 0, _, _ => 0
  | μ2 + 1, p_4, k_6 => (bif decide ((k_6 : Int) < 8) then (p_spec_l01ExpWide_l2 y p k k2_2 μ2 (fmul .f64 p_4 p_4) (k_6 + 1)) else (k2_2 p_4 k_6))
theorem p_spec_l01ExpWide_l2_s (y : Nat) (p : Nat) (k : Int) (k2_2 : Nat → Int → Nat) (μ2 : Nat) (p_4 : Nat) (k_6 : Int) : p_spec_l01ExpWide_l2 y p k k2_2 (μ2 + 1) p_4 k_6 = (bif decide ((k_6 : Int) < 8) then (p_spec_l01ExpWide_l2 y p k k2_2 μ2 (fmul .f64 p_4 p_4) (k_6 + 1)) else (k2_2 p_4 k_6)) := rfl
def p_spec_l01ExpWide_l1 (y : Nat) : Nat → Nat → Int → Nat
  | 0, _, _ => 0
  | μ + 1, p, k => (bif decide ((1 : Int) ≤ k) then (p_spec_l01ExpWide_l1 y μ (fadd .f64 4607182418800017408 (fdiv .f64 (fmul .f64 (fdiv .f64 y 4643211215818981376) p) (FloatKind.nearest .f64 k))) (k - 1)) else (p_spec_l01ExpWide_l2 y p k (fun (p_4 : Nat) (k_6 : Int) => p_4) (Int.toNat (8 - (0 : Int)) + 1) p (0 : Int)))
theorem p_spec_l01ExpWide_l1_s (y : Nat) (μ : Nat) (p : Nat) (k : Int) : p_spec_l01ExpWide_l1 y (μ + 1) p k = (bif decide ((1 : Int) ≤ k) then (p_spec_l01ExpWide_l1 y μ (fadd .f64 4607182418800017408 (fdiv .f64 (fmul .f64 (fdiv .f64 y 4643211215818981376) p) (FloatKind.nearest .f64 k))) (k - 1)) else (p_spec_l01ExpWide_l2 y p k (fun (p_4 : Nat) (k_6 : Int) => p_4) (Int.toNat (8 - (0 : Int)) + 1) p (0 : Int))) := rfl
def p_spec_l01ExpWide (y : Nat) : Nat := (bif !(feq .f64 y y) then y else (bif flt .f64 4641240890982006784 y then (p_math_Inf (1 : Int)) else (bif flt .f64 y 13864612927836782592 then 0 else (p_spec_l01ExpWide_l1 y (Int.toNat ((12 : Int) - 1 + 1) + 1) 4607182418800017408 (12 : Int)))))
theorem p_spec_l01ExpWide_eq (y : Nat) : p_spec_l01ExpWide y = (bif !(feq .f64 y y) then y else (bif flt .f64 4641240890982006784 y then (p_math_Inf (1 : Int)) else (bif flt .f64 y 13864612927836782592 then 0 else (p_spec_l01ExpWide_l1 y (Int.toNat ((12 : Int) - 1 + 1) + 1) 4607182418800017408 (12 : Int))))) := rfl
def T_spec_l01ExpWide (y : Nat) (H : AHeap) (K : Nat → AHeap → Prop) : Prop := K (p_spec_l01ExpWide y) H
theorem T_spec_l01ExpWide_i {y : Nat} {H : AHeap} {K : Nat → AHeap → Prop} (h : K (p_spec_l01ExpWide y) H) : T_spec_l01ExpWide y H K := h
theorem spec_l01ExpWide_sq {y P K : Nat} {k : Int} : ∀ (μ p : Nat) (i : Int), Bd .f64 1074 p → (FloatKind.f64.format.read p).neg = false → Bd .f64 1074 (p_spec_l01ExpWide_l2 y P k (fun (p : Nat) (t : Int) => p) μ p i) ∧ (FloatKind.f64.format.read (p_spec_l01ExpWide_l2 y P k (fun (p : Nat) (t : Int) => p) μ p i)).neg = false := by
  intro μ
  induction μ with
  | zero => intro p i _ _; exact ⟨⟨fin_zero _, by show (sv .f64 0).natAbs ≤ _; rw [sv_zero]; exact Nat.zero_le _⟩, by show (FloatKind.f64.format.read 0).neg = false; rw [read_zero]; rfl⟩
  | succ μ ih =>
    intro p i hp hs
    rw [p_spec_l01ExpWide_l2_s]
    cases decide (i < (8 : Int))
    · exact ⟨hp, hs⟩
    · have := Bd.mul (T := 1022) hp hp (top64 (by decide)) (by rw [fb64, lp64]; decide)
      rw [fb64, hs] at this
      exact ih _ _ this.1 this.2
theorem spec_l01ExpWide_ser {y : Nat} (hy : Bd .f64 (8 + 1074) y) (hn : (FloatKind.f64.format.read y).neg = true) : ∀ (μ p : Nat) (n : Int), n ≤ 12 → -1 ≤ n → Bd .f64 1074 p → (FloatKind.f64.format.read p).neg = false → Bd .f64 1074 (p_spec_l01ExpWide_l1 y μ p n) := by
  intro μ
  induction μ with
  | zero => intro p n _ _ _ _; exact ⟨fin_zero _, by show (sv .f64 0).natAbs ≤ _; rw [sv_zero]; exact Nat.zero_le _⟩
  | succ μ ih =>
    intro p n h1 h0 hp hs
    rw [p_spec_l01ExpWide_l1_s]
    
    by_cases hc : (1 : Int) ≤ n
    · rw [decide_eq_true hc, cond_true]
      have t1 := Bd.div (T := 1022) (B := 1082) hy (y := 4643211215818981376) (by decide +kernel) (by decide +kernel) (top64 (by decide)) (by rw [fb64, lp64]; decide)
      rw [fb64, hn, show (FloatKind.f64.format.read 4643211215818981376).neg = false from by decide +kernel] at t1
      have t2 := Bd.mul (T := 1022) t1.1 hp (top64 (by decide)) (by rw [fb64, lp64]; decide)
      rw [fb64, t1.2, hs] at t2
      have c := cnt_sv hc (by omega)
      have t3 := Bd.div (T := 1022) (B := 1074) t2.1 c.1 c.2.1 (top64 (by decide)) (by rw [fb64, lp64]; decide)
      rw [fb64, t2.2, c.2.2, show 52 + 1022 = 1074 from rfl] at t3
      have hz := sv_le_zero t3.2
      have hone : sv .f64 4607182418800017408 = 2 ^ 1074 := by decide +kernel
      have habs := t3.1.2
      generalize hq : fdiv .f64 (fmul .f64 (fdiv .f64 y 4643211215818981376) p) (FloatKind.nearest .f64 n) = q at *
      have hpow := pow_cast 1074
      have hsum : (sv .f64 4607182418800017408 + sv .f64 q).natAbs ≤ 2 ^ (FloatKind.f64.format.fractionBits + 1022) := by
        rw [hone, fb64, ← hpow, show 52 + 1022 = 1074 from rfl]
        obtain ⟨W, hW⟩ : ∃ W : Nat, W = 2 ^ 1074 := ⟨_, rfl⟩
        rw [← hW] at habs ⊢
        clear hpow hW
        omega
      have t4 := Bd.add (T := 1022) (x := 4607182418800017408) (y := q) (by decide +kernel) t3.1.1 (top64 (by decide)) hsum
      rw [fb64] at t4
      have hneg : (FloatKind.f64.format.read (fadd .f64 4607182418800017408 q)).neg = false := by
        rw [t4.2]
        split
        · rw [show (FloatKind.f64.format.read 4607182418800017408).neg = false from by decide +kernel]; rfl
        · refine decide_eq_false ?_
          rw [hone, ← hpow]
          generalize (2 ^ 1074 : Nat) = W at *
          omega
      exact ih _ (n - 1) (by omega) (by omega) t4.1 hneg
    · rw [decide_eq_false hc, cond_false]
      exact (spec_l01ExpWide_sq (K := 0) _ _ _ hp hs).1
theorem spec_l01ExpWide_nar {x : Nat} (hx : (FloatKind.f32.format.read x).isNaN = true ∨ (FloatKind.f32.format.read x).neg = true) : fnarrow (p_spec_l01ExpWide (fwide x)) ≠ none := by
  cases hr : FloatKind.f32.format.read x with
  | nan s t =>
    have e : fwide x = qnan .f64 := by
      unfold fwide
      rw [show FloatKind.f32.decode x = FloatKind.f32.format.read x from rfl, hr]
    rw [e]; decide +kernel
  | infinity s =>
    have hs : s = true := by
      rw [hr] at hx
      rcases hx with h | h
      · cases h
      · exact h
    have e : fwide x = FloatKind.f64.encode (.infinity true) := by
      unfold fwide
      rw [show FloatKind.f32.decode x = FloatKind.f32.format.read x from rfl, hr, hs]
    rw [e]; decide +kernel
  | number s m i =>
    have hf : fin .f32 x = true := by unfold fin; rw [hr]
    have hs : (FloatKind.f32.format.read x).neg = true := by
      rcases hx with h | h
      · rw [hr] at h; cases h
      · exact h
    have wf := wide_fin hf
    have wn := wide_neg (x := x) (fin_nn hf)
    rw [hs] at wn
    have z := sv_le_zero wn
    rw [p_spec_l01ExpWide_eq]
    rw [feq_self (fin_nn wf), Bool.not_true, cond_false]
    rw [flt_fin (by decide +kernel) wf, flt_fin wf (by decide +kernel)]
    have e1 : sv .f64 4641240890982006784 = 200 * 2 ^ 1074 := by decide +kernel
    have e2 : sv .f64 13864612927836782592 = -200 * 2 ^ 1074 := by decide +kernel
    have hpow := pow_cast 1074
    rw [e1, e2, ← hpow]
    have hp := Nat.two_pow_pos 1074
    rw [decide_eq_false (by generalize (2 ^ 1074 : Nat) = W at *; omega), cond_false]
    by_cases hc : sv .f64 (fwide x) < -200 * ((2 ^ 1074 : Nat) : Int)
    · rw [decide_eq_true hc, cond_true]; decide +kernel
    · rw [decide_eq_false hc, cond_false]
      have hy : Bd .f64 (8 + 1074) (fwide x) := by
        refine ⟨wf, ?_⟩
        have e3 : (2 : Nat) ^ (8 + 1074) = 2 ^ 8 * 2 ^ 1074 := Nat.pow_add 2 8 1074
        rw [e3]
        generalize (2 ^ 1074 : Nat) = W at *
        omega
      have one : Bd .f64 1074 4607182418800017408 := ⟨by decide +kernel, by decide +kernel⟩
      have b := spec_l01ExpWide_ser hy wn (Int.toNat ((12 : Int) - 1 + 1) + 1) 4607182418800017408 12 (by decide) (by decide) one (by decide +kernel)
      exact narrow_ok (b.mono (by decide))
/-! spec_l01ExpWide: function 114 -/
def E_spec_l01ExpWide : Env := envOf [(122, S_math_Inf)]
def F_spec_l01ExpWide : List Value → AHeap → (Value → AHeap → Prop) → Prop
  | [.float .f64 y], H, K => T_spec_l01ExpWide y H fun (r1 : Nat) (H' : AHeap) => K (.float .f64 r1) H'
  | _, _, _ => False
def S_spec_l01ExpWide : FSpec := { F := F_spec_l01ExpWide, quiet := true, tame := false }
theorem spec_l01ExpWide_vc (y : Nat) (H : AHeap) (K : Value → AHeap → Prop) : bodyK Try.prog E_spec_l01ExpWide Try.f114 [.float .f64 y] H K =
  (Br (!(feq .f64 y y)) (K (.float .f64 y) H) (Br (flt .f64 4641240890982006784 y) (T_math_Inf 1 H fun (r1 : Nat) (H1 : AHeap) => K (.float .f64 r1) H1) (Br (flt .f64 y 13864612927836782592) (K (.float .f64 0) H) (loopK (exK Try.prog E_spec_l01ExpWide (cl (cl (cr (cl (cr (cr (cr (cr (cr (cr (bodyC Try.f114)))))))))))) [.float .f64 y, undef, .float .f64 0, .float .f64 (fdiv .f64 y 4643211215818981376), .float .f64 4607182418800017408, .int .i64 12, undef, .float .f64 y, .float .f64 y, .bool (!(feq .f64 y y)), undef, .float .f64 y, .bool (flt .f64 4641240890982006784 y), undef, .float .f64 y, .bool (flt .f64 y 13864612927836782592), .float .f64 y, .float .f64 (fdiv .f64 y 4643211215818981376), undef, undef, undef, undef, undef, undef, undef, undef, undef, undef, undef, undef, undef, undef, undef, undef, undef, undef, undef] H (blockQ 0 (seqQ (exK Try.prog E_spec_l01ExpWide (cr (cr (cr (cr (cr (cr (cr (bodyC Try.f114))))))))) (retK Try.prog Try.f114 K))))))) := by kernel_rfl
theorem spec_l01ExpWide_r1 (y : Nat) (p : Nat) (k : Int) (g18 g19 g20 g21 g22 g23 g24 g25 g26 g27 g28 : Value) (H : AHeap) (R : Post) : exK Try.prog E_spec_l01ExpWide (cl (cl (cr (cl (cr (cr (cr (cr (cr (cr (bodyC Try.f114))))))))))) [.float .f64 y, undef, .float .f64 0, .float .f64 (fdiv .f64 y 4643211215818981376), .float .f64 p, .int .i64 k, undef, .float .f64 y, .float .f64 y, .bool (!(feq .f64 y y)), undef, .float .f64 y, .bool (flt .f64 4641240890982006784 y), undef, .float .f64 y, .bool (flt .f64 y 13864612927836782592), .float .f64 y, .float .f64 (fdiv .f64 y 4643211215818981376), g18, g19, g20, g21, g22, g23, g24, g25, g26, g27, g28, undef, undef, undef, undef, undef, undef, undef, undef] H R =
  (Br (decide ((1 : Int) ≤ k)) (R .normal [.float .f64 y, undef, .float .f64 0, .float .f64 (fdiv .f64 y 4643211215818981376), .float .f64 (fadd .f64 4607182418800017408 (fdiv .f64 (fmul .f64 (fdiv .f64 y 4643211215818981376) p) (FloatKind.nearest .f64 k))), .int .i64 (IntKind.wrap .i64 (k - 1)), undef, .float .f64 y, .float .f64 y, .bool (!(feq .f64 y y)), undef, .float .f64 y, .bool (flt .f64 4641240890982006784 y), undef, .float .f64 y, .bool (flt .f64 y 13864612927836782592), .float .f64 y, .float .f64 (fdiv .f64 y 4643211215818981376), .int .i64 k, .bool (decide ((1 : Int) ≤ k)), .int .i64 k, .int .i64 (IntKind.wrap .i64 (k - 1)), .float .f64 (fdiv .f64 y 4643211215818981376), .float .f64 p, .float .f64 (fmul .f64 (fdiv .f64 y 4643211215818981376) p), .int .i64 k, .float .f64 (FloatKind.nearest .f64 k), .float .f64 (fdiv .f64 (fmul .f64 (fdiv .f64 y 4643211215818981376) p) (FloatKind.nearest .f64 k)), .float .f64 (fadd .f64 4607182418800017408 (fdiv .f64 (fmul .f64 (fdiv .f64 y 4643211215818981376) p) (FloatKind.nearest .f64 k))), undef, undef, undef, undef, undef, undef, undef, undef] H) (R (.exit 0) [.float .f64 y, undef, .float .f64 0, .float .f64 (fdiv .f64 y 4643211215818981376), .float .f64 p, .int .i64 k, undef, .float .f64 y, .float .f64 y, .bool (!(feq .f64 y y)), undef, .float .f64 y, .bool (flt .f64 4641240890982006784 y), undef, .float .f64 y, .bool (flt .f64 y 13864612927836782592), .float .f64 y, .float .f64 (fdiv .f64 y 4643211215818981376), .int .i64 k, .bool (decide ((1 : Int) ≤ k)), g20, g21, g22, g23, g24, g25, g26, g27, g28, undef, undef, undef, undef, undef, undef, undef, undef] H)) := by kernel_rfl
def spec_l01ExpWide_I1 (y : Nat) (Inv : Nat → Nat → Int → AHeap → Prop) : Nat → List Value → AHeap → Prop := fun μ tm H => ∃ (p : Nat), ∃ (k : Int), ∃ g18 g19 g20 g21 g22 g23 g24 g25 g26 g27 g28, tm = [.float .f64 y, undef, .float .f64 0, .float .f64 (fdiv .f64 y 4643211215818981376), .float .f64 p, .int .i64 k, undef, .float .f64 y, .float .f64 y, .bool (!(feq .f64 y y)), undef, .float .f64 y, .bool (flt .f64 4641240890982006784 y), undef, .float .f64 y, .bool (flt .f64 y 13864612927836782592), .float .f64 y, .float .f64 (fdiv .f64 y 4643211215818981376), g18, g19, g20, g21, g22, g23, g24, g25, g26, g27, g28, undef, undef, undef, undef, undef, undef, undef, undef] ∧ Inv μ p k H
theorem spec_l01ExpWide_L1 (y : Nat) {Q : Post} (Inv : Nat → Nat → Int → AHeap → Prop) (ν : Nat) (p : Nat) (k : Int) (g18 g19 g20 g21 g22 g23 g24 g25 g26 g27 g28 : Value) (H : AHeap) (h0 : Inv ν p k H)
    (hs : ∀ (μ : Nat) (p : Nat) (k : Int) (g18 g19 g20 g21 g22 g23 g24 g25 g26 g27 g28 : Value) (H : AHeap), Inv μ p k H → exK Try.prog E_spec_l01ExpWide (cl (cl (cr (cl (cr (cr (cr (cr (cr (cr (bodyC Try.f114))))))))))) [.float .f64 y, undef, .float .f64 0, .float .f64 (fdiv .f64 y 4643211215818981376), .float .f64 p, .int .i64 k, undef, .float .f64 y, .float .f64 y, .bool (!(feq .f64 y y)), undef, .float .f64 y, .bool (flt .f64 4641240890982006784 y), undef, .float .f64 y, .bool (flt .f64 y 13864612927836782592), .float .f64 y, .float .f64 (fdiv .f64 y 4643211215818981376), g18, g19, g20, g21, g22, g23, g24, g25, g26, g27, g28, undef, undef, undef, undef, undef, undef, undef, undef] H (loopQ (spec_l01ExpWide_I1 y Inv) μ Q)) : loopK (exK Try.prog E_spec_l01ExpWide (cl (cl (cr (cl (cr (cr (cr (cr (cr (cr (bodyC Try.f114)))))))))))) [.float .f64 y, undef, .float .f64 0, .float .f64 (fdiv .f64 y 4643211215818981376), .float .f64 p, .int .i64 k, undef, .float .f64 y, .float .f64 y, .bool (!(feq .f64 y y)), undef, .float .f64 y, .bool (flt .f64 4641240890982006784 y), undef, .float .f64 y, .bool (flt .f64 y 13864612927836782592), .float .f64 y, .float .f64 (fdiv .f64 y 4643211215818981376), g18, g19, g20, g21, g22, g23, g24, g25, g26, g27, g28, undef, undef, undef, undef, undef, undef, undef, undef] H Q :=
  ⟨spec_l01ExpWide_I1 y Inv, ν, ⟨p, k, g18, g19, g20, g21, g22, g23, g24, g25, g26, g27, g28, rfl, h0⟩, fun μ tm H h => by obtain ⟨p, k, g18, g19, g20, g21, g22, g23, g24, g25, g26, g27, g28, rfl, hI⟩ := h; exact hs μ p k g18 g19 g20 g21 g22 g23 g24 g25 g26 g27 g28 H hI⟩
theorem spec_l01ExpWide_n1 {y : Nat} {Q : Post} {Inv : Nat → Nat → Int → AHeap → Prop} {μ : Nat} (μ' : Nat) {p : Nat} {k : Int} {g18 g19 g20 g21 g22 g23 g24 g25 g26 g27 g28 : Value} {H : AHeap} (hm : μ' < μ) (hI : Inv μ' p k H) : loopQ (spec_l01ExpWide_I1 y Inv) μ Q .normal [.float .f64 y, undef, .float .f64 0, .float .f64 (fdiv .f64 y 4643211215818981376), .float .f64 p, .int .i64 k, undef, .float .f64 y, .float .f64 y, .bool (!(feq .f64 y y)), undef, .float .f64 y, .bool (flt .f64 4641240890982006784 y), undef, .float .f64 y, .bool (flt .f64 y 13864612927836782592), .float .f64 y, .float .f64 (fdiv .f64 y 4643211215818981376), g18, g19, g20, g21, g22, g23, g24, g25, g26, g27, g28, undef, undef, undef, undef, undef, undef, undef, undef] H := ⟨μ', hm, p, k, g18, g19, g20, g21, g22, g23, g24, g25, g26, g27, g28, rfl, hI⟩
theorem spec_l01ExpWide_x1_0 (y : Nat) (p : Nat) (k : Int) (g18 g19 g20 g21 g22 g23 g24 g25 g26 g27 g28 : Value) (H : AHeap) (K : Value → AHeap → Prop)  {I : Nat → List Value → AHeap → Prop} {μ : Nat} : loopQ I μ (blockQ 0 (seqQ (exK Try.prog E_spec_l01ExpWide (cr (cr (cr (cr (cr (cr (cr (bodyC Try.f114))))))))) (retK Try.prog Try.f114 K))) (.exit 0) [.float .f64 y, undef, .float .f64 0, .float .f64 (fdiv .f64 y 4643211215818981376), .float .f64 p, .int .i64 k, undef, .float .f64 y, .float .f64 y, .bool (!(feq .f64 y y)), undef, .float .f64 y, .bool (flt .f64 4641240890982006784 y), undef, .float .f64 y, .bool (flt .f64 y 13864612927836782592), .float .f64 y, .float .f64 (fdiv .f64 y 4643211215818981376), g18, g19, g20, g21, g22, g23, g24, g25, g26, g27, g28, undef, undef, undef, undef, undef, undef, undef, undef] H =
  (loopK (exK Try.prog E_spec_l01ExpWide (cl (cl (cr (cl (cr (cr (cr (cr (cr (cr (cr (bodyC Try.f114))))))))))))) [.float .f64 y, undef, .float .f64 0, .float .f64 (fdiv .f64 y 4643211215818981376), .float .f64 p, .int .i64 k, .int .i64 0, .float .f64 y, .float .f64 y, .bool (!(feq .f64 y y)), undef, .float .f64 y, .bool (flt .f64 4641240890982006784 y), undef, .float .f64 y, .bool (flt .f64 y 13864612927836782592), .float .f64 y, .float .f64 (fdiv .f64 y 4643211215818981376), g18, g19, g20, g21, g22, g23, g24, g25, g26, g27, g28, undef, undef, undef, undef, undef, undef, undef, undef] H (blockQ 2 (seqQ (exK Try.prog E_spec_l01ExpWide (cr (cr (cr (cr (cr (cr (cr (cr (bodyC Try.f114)))))))))) (retK Try.prog Try.f114 K)))) := by kernel_rfl
theorem spec_l01ExpWide_r2 (g18 : Value) (g19 : Value) (g20 : Value) (g21 : Value) (g22 : Value) (g23 : Value) (g24 : Value) (g25 : Value) (g26 : Value) (g27 : Value) (g28 : Value) (k : Int) (y : Nat) (p_4 : Nat) (k_6 : Int) (g29 g30 g31 g32 g33 g34 g35 : Value) (H : AHeap) (R : Post) : exK Try.prog E_spec_l01ExpWide (cl (cl (cr (cl (cr (cr (cr (cr (cr (cr (cr (bodyC Try.f114)))))))))))) [.float .f64 y, undef, .float .f64 0, .float .f64 (fdiv .f64 y 4643211215818981376), .float .f64 p_4, .int .i64 k, .int .i64 k_6, .float .f64 y, .float .f64 y, .bool (!(feq .f64 y y)), undef, .float .f64 y, .bool (flt .f64 4641240890982006784 y), undef, .float .f64 y, .bool (flt .f64 y 13864612927836782592), .float .f64 y, .float .f64 (fdiv .f64 y 4643211215818981376), g18, g19, g20, g21, g22, g23, g24, g25, g26, g27, g28, g29, g30, g31, g32, g33, g34, g35, undef] H R =
  (Br (decide ((k_6 : Int) < 8)) (R .normal [.float .f64 y, undef, .float .f64 0, .float .f64 (fdiv .f64 y 4643211215818981376), .float .f64 (fmul .f64 p_4 p_4), .int .i64 k, .int .i64 (IntKind.wrap .i64 (k_6 + 1)), .float .f64 y, .float .f64 y, .bool (!(feq .f64 y y)), undef, .float .f64 y, .bool (flt .f64 4641240890982006784 y), undef, .float .f64 y, .bool (flt .f64 y 13864612927836782592), .float .f64 y, .float .f64 (fdiv .f64 y 4643211215818981376), g18, g19, g20, g21, g22, g23, g24, g25, g26, g27, g28, .int .i64 k_6, .bool (decide ((k_6 : Int) < 8)), .int .i64 k_6, .int .i64 (IntKind.wrap .i64 (k_6 + 1)), .float .f64 p_4, .float .f64 p_4, .float .f64 (fmul .f64 p_4 p_4), undef] H) (R (.exit 2) [.float .f64 y, undef, .float .f64 0, .float .f64 (fdiv .f64 y 4643211215818981376), .float .f64 p_4, .int .i64 k, .int .i64 k_6, .float .f64 y, .float .f64 y, .bool (!(feq .f64 y y)), undef, .float .f64 y, .bool (flt .f64 4641240890982006784 y), undef, .float .f64 y, .bool (flt .f64 y 13864612927836782592), .float .f64 y, .float .f64 (fdiv .f64 y 4643211215818981376), g18, g19, g20, g21, g22, g23, g24, g25, g26, g27, g28, .int .i64 k_6, .bool (decide ((k_6 : Int) < 8)), g31, g32, g33, g34, g35, undef] H)) := by kernel_rfl
def spec_l01ExpWide_I2 (g18 : Value) (g19 : Value) (g20 : Value) (g21 : Value) (g22 : Value) (g23 : Value) (g24 : Value) (g25 : Value) (g26 : Value) (g27 : Value) (g28 : Value) (k : Int) (y : Nat) (Inv : Nat → Nat → Int → AHeap → Prop) : Nat → List Value → AHeap → Prop := fun μ tm H => ∃ (p_4 : Nat), ∃ (k_6 : Int), ∃ g29 g30 g31 g32 g33 g34 g35, tm = [.float .f64 y, undef, .float .f64 0, .float .f64 (fdiv .f64 y 4643211215818981376), .float .f64 p_4, .int .i64 k, .int .i64 k_6, .float .f64 y, .float .f64 y, .bool (!(feq .f64 y y)), undef, .float .f64 y, .bool (flt .f64 4641240890982006784 y), undef, .float .f64 y, .bool (flt .f64 y 13864612927836782592), .float .f64 y, .float .f64 (fdiv .f64 y 4643211215818981376), g18, g19, g20, g21, g22, g23, g24, g25, g26, g27, g28, g29, g30, g31, g32, g33, g34, g35, undef] ∧ Inv μ p_4 k_6 H
theorem spec_l01ExpWide_L2 (g18 : Value) (g19 : Value) (g20 : Value) (g21 : Value) (g22 : Value) (g23 : Value) (g24 : Value) (g25 : Value) (g26 : Value) (g27 : Value) (g28 : Value) (k : Int) (y : Nat) {Q : Post} (Inv : Nat → Nat → Int → AHeap → Prop) (ν : Nat) (p_4 : Nat) (k_6 : Int) (g29 g30 g31 g32 g33 g34 g35 : Value) (H : AHeap) (h0 : Inv ν p_4 k_6 H)
    (hs : ∀ (μ : Nat) (p_4 : Nat) (k_6 : Int) (g29 g30 g31 g32 g33 g34 g35 : Value) (H : AHeap), Inv μ p_4 k_6 H → exK Try.prog E_spec_l01ExpWide (cl (cl (cr (cl (cr (cr (cr (cr (cr (cr (cr (bodyC Try.f114)))))))))))) [.float .f64 y, undef, .float .f64 0, .float .f64 (fdiv .f64 y 4643211215818981376), .float .f64 p_4, .int .i64 k, .int .i64 k_6, .float .f64 y, .float .f64 y, .bool (!(feq .f64 y y)), undef, .float .f64 y, .bool (flt .f64 4641240890982006784 y), undef, .float .f64 y, .bool (flt .f64 y 13864612927836782592), .float .f64 y, .float .f64 (fdiv .f64 y 4643211215818981376), g18, g19, g20, g21, g22, g23, g24, g25, g26, g27, g28, g29, g30, g31, g32, g33, g34, g35, undef] H (loopQ (spec_l01ExpWide_I2 g18 g19 g20 g21 g22 g23 g24 g25 g26 g27 g28 k y Inv) μ Q)) : loopK (exK Try.prog E_spec_l01ExpWide (cl (cl (cr (cl (cr (cr (cr (cr (cr (cr (cr (bodyC Try.f114))))))))))))) [.float .f64 y, undef, .float .f64 0, .float .f64 (fdiv .f64 y 4643211215818981376), .float .f64 p_4, .int .i64 k, .int .i64 k_6, .float .f64 y, .float .f64 y, .bool (!(feq .f64 y y)), undef, .float .f64 y, .bool (flt .f64 4641240890982006784 y), undef, .float .f64 y, .bool (flt .f64 y 13864612927836782592), .float .f64 y, .float .f64 (fdiv .f64 y 4643211215818981376), g18, g19, g20, g21, g22, g23, g24, g25, g26, g27, g28, g29, g30, g31, g32, g33, g34, g35, undef] H Q :=
  ⟨spec_l01ExpWide_I2 g18 g19 g20 g21 g22 g23 g24 g25 g26 g27 g28 k y Inv, ν, ⟨p_4, k_6, g29, g30, g31, g32, g33, g34, g35, rfl, h0⟩, fun μ tm H h => by obtain ⟨p_4, k_6, g29, g30, g31, g32, g33, g34, g35, rfl, hI⟩ := h; exact hs μ p_4 k_6 g29 g30 g31 g32 g33 g34 g35 H hI⟩
theorem spec_l01ExpWide_n2 {g18 : Value} {g19 : Value} {g20 : Value} {g21 : Value} {g22 : Value} {g23 : Value} {g24 : Value} {g25 : Value} {g26 : Value} {g27 : Value} {g28 : Value} {k : Int} {y : Nat} {Q : Post} {Inv : Nat → Nat → Int → AHeap → Prop} {μ : Nat} (μ' : Nat) {p_4 : Nat} {k_6 : Int} {g29 g30 g31 g32 g33 g34 g35 : Value} {H : AHeap} (hm : μ' < μ) (hI : Inv μ' p_4 k_6 H) : loopQ (spec_l01ExpWide_I2 g18 g19 g20 g21 g22 g23 g24 g25 g26 g27 g28 k y Inv) μ Q .normal [.float .f64 y, undef, .float .f64 0, .float .f64 (fdiv .f64 y 4643211215818981376), .float .f64 p_4, .int .i64 k, .int .i64 k_6, .float .f64 y, .float .f64 y, .bool (!(feq .f64 y y)), undef, .float .f64 y, .bool (flt .f64 4641240890982006784 y), undef, .float .f64 y, .bool (flt .f64 y 13864612927836782592), .float .f64 y, .float .f64 (fdiv .f64 y 4643211215818981376), g18, g19, g20, g21, g22, g23, g24, g25, g26, g27, g28, g29, g30, g31, g32, g33, g34, g35, undef] H := ⟨μ', hm, p_4, k_6, g29, g30, g31, g32, g33, g34, g35, rfl, hI⟩
theorem spec_l01ExpWide_x2_2 (g18 : Value) (g19 : Value) (g20 : Value) (g21 : Value) (g22 : Value) (g23 : Value) (g24 : Value) (g25 : Value) (g26 : Value) (g27 : Value) (g28 : Value) (k : Int) (y : Nat) (p_4 : Nat) (k_6 : Int) (g29 g30 g31 g32 g33 g34 g35 : Value) (H : AHeap) (K : Value → AHeap → Prop)  {I : Nat → List Value → AHeap → Prop} {μ : Nat} : loopQ I μ (blockQ 2 (seqQ (exK Try.prog E_spec_l01ExpWide (cr (cr (cr (cr (cr (cr (cr (cr (bodyC Try.f114)))))))))) (retK Try.prog Try.f114 K))) (.exit 2) [.float .f64 y, undef, .float .f64 0, .float .f64 (fdiv .f64 y 4643211215818981376), .float .f64 p_4, .int .i64 k, .int .i64 k_6, .float .f64 y, .float .f64 y, .bool (!(feq .f64 y y)), undef, .float .f64 y, .bool (flt .f64 4641240890982006784 y), undef, .float .f64 y, .bool (flt .f64 y 13864612927836782592), .float .f64 y, .float .f64 (fdiv .f64 y 4643211215818981376), g18, g19, g20, g21, g22, g23, g24, g25, g26, g27, g28, g29, g30, g31, g32, g33, g34, g35, undef] H =
  (K (.float .f64 p_4) H) := by kernel_rfl
theorem E_spec_l01ExpWide_ok : ∀ g, FnOk Try.prog g (E_spec_l01ExpWide g) := FnOk.envOf (by
  intro x hx
  simp only [List.mem_cons, List.not_mem_nil, or_false] at hx
  subst hx; exact math_Inf_ok)
set_option maxHeartbeats 1000000 in
theorem spec_l01ExpWide_main (y : Nat) (H : AHeap) (K : Value → AHeap → Prop) (h : T_spec_l01ExpWide y H fun (r1 : Nat) (H' : AHeap) => K (.float .f64 r1) H') : bodyK Try.prog E_spec_l01ExpWide Try.f114 [.float .f64 y] H K := by
  rw [spec_l01ExpWide_vc]
  have hk := h
  unfold T_spec_l01ExpWide at hk
  have e : (p_spec_l01ExpWide y) = _ := rfl
  have e := e.trans (p_spec_l01ExpWide_eq y)
  have g0 := Grow.refl H
  refine Br.intro (fun c_1 => ?_) (fun c_1 => ?_)
  · have e := e.trans (cond_t c_1)
    have c_1n := nf_of_t c_1
    rw [e] at hk
    exact hk
  · have e := e.trans (cond_f c_1)
    have c_1n := nt_of_f c_1
    refine Br.intro (fun c_2 => ?_) (fun c_2 => ?_)
    · have e := e.trans (cond_t c_2)
      refine T_math_Inf_i ?_
      rw [e] at hk
      exact hk
    · have e := e.trans (cond_f c_2)
      refine Br.intro (fun c_3 => ?_) (fun c_3 => ?_)
      · have e := e.trans (cond_t c_3)
        rw [e] at hk
        exact hk
      · have e := e.trans (cond_f c_3)
        refine spec_l01ExpWide_L1 _ (fun (μ : Nat) (p : Nat) (k : Int) (H_1 : AHeap) => H = H_1 ∧ k ≤ (12 : Int) ∧ k - 1 + 1 ≤ (μ : Int) ∧ p_spec_l01ExpWide y = p_spec_l01ExpWide_l1 y (μ + 1) p k) (Int.toNat ((12 : Int) - 1 + 1)) _ _ _ _ _ _ _ _ _ _ _ _ _ H ?_ ?_
        · exact ⟨rfl, (by first | omega | (simp; done) | (simp; omega)), (by omega), e⟩
        · intro μ p k g18 g19 g20 g21 g22 g23 g24 g25 g26 g27 g28 H_1 hI
          obtain ⟨rfl, v_4, hμ, e⟩ := hI
          rw [spec_l01ExpWide_r1]
          have e := e.trans (p_spec_l01ExpWide_l1_s y μ p k)
          have l_5 := g0.1
          refine Br.intro (fun c_6 => ?_) (fun c_6 => ?_)
          · have e := e.trans (cond_t c_6)
            have c_6' := of_decide_eq_true c_6
            rw [show IntKind.wrap .i64 (k - 1) = (k - 1) from wrap64 (by omega) (by omega)]
            refine spec_l01ExpWide_n1 (μ - 1) (by first | omega) ⟨rfl, (by first | omega | (simp only [List.length_append, List.length_cons, List.length_nil, List.length_set]; done) | (simp only [List.length_append, List.length_cons, List.length_nil, List.length_set]; omega)), (by first | omega), (by rw [show μ - 1 + 1 = μ from by first | omega]; exact e)⟩
          · have e := e.trans (cond_f c_6)
            have c_6' := of_decide_eq_false c_6
            rw [spec_l01ExpWide_x1_0]
            refine spec_l01ExpWide_L2 _ _ _ _ _ _ _ _ _ _ _ _ _ (fun (μ2 : Nat) (p_4 : Nat) (k_6 : Int) (H_2 : AHeap) => H = H_2 ∧ (0 : Int) ≤ k_6 ∧ ((k_6 ≤ 8 ∨ k_6 ≤ (0 : Int))) ∧ 8 - k_6 ≤ (μ2 : Int) ∧ p_spec_l01ExpWide y = p_spec_l01ExpWide_l2 y p k (fun (p_4 : Nat) (k_6 : Int) => p_4) (μ2 + 1) p_4 k_6) (Int.toNat (8 - (0 : Int))) _ _ _ _ _ _ _ _ _ H ?_ ?_
            · exact ⟨rfl, (by first | omega | (simp; done) | (simp; omega)), (by first | omega | (simp; done) | (simp; omega)), (by omega), e⟩
            · intro μ2 p_4 k_6 g29 g30 g31 g32 g33 g34 g35 H_2 hI
              obtain ⟨rfl, v_7, v_8, hμ, e⟩ := hI
              rw [spec_l01ExpWide_r2]
              have e := e.trans (p_spec_l01ExpWide_l2_s y p k (fun (p_4 : Nat) (k_6 : Int) => p_4) μ2 p_4 k_6)
              have l_9 := g0.1
              refine Br.intro (fun c_10 => ?_) (fun c_10 => ?_)
              · have e := e.trans (cond_t c_10)
                have c_10' := of_decide_eq_true c_10
                rw [show IntKind.wrap .i64 (k_6 + 1) = (k_6 + 1) from wrap64 (by omega) (by omega)]
                refine spec_l01ExpWide_n2 (μ2 - 1) (by first | omega) ⟨rfl, (by first | omega | (simp only [List.length_append, List.length_cons, List.length_nil, List.length_set]; done) | (simp only [List.length_append, List.length_cons, List.length_nil, List.length_set]; omega)), (by first | omega | (simp only [List.length_append, List.length_cons, List.length_nil, List.length_set]; done) | (simp only [List.length_append, List.length_cons, List.length_nil, List.length_set]; omega)), (by first | omega), (by rw [show μ2 - 1 + 1 = μ2 from by first | omega]; exact e)⟩
              · have e := e.trans (cond_f c_10)
                have c_10' := of_decide_eq_false c_10
                rw [spec_l01ExpWide_x2_2]
                rw [e] at hk
                exact hk
theorem spec_l01ExpWide_ok : FnOk Try.prog 114 S_spec_l01ExpWide := by
  refine FnOk.body mix_ok E_spec_l01ExpWide_ok Try.func114 rfl (by kernel_rfl) (by kernel_rfl) ?_ ?_ ?_ ?_ ?_
  · intro args H K K' h hk
    simp only [S_spec_l01ExpWide] at *
    unfold F_spec_l01ExpWide at *
    split at hk
    · have k := hk
      exact h _ _ k
    · exact hk.elim
  · intro _ args H K hk
    simp only [S_spec_l01ExpWide] at *
    unfold F_spec_l01ExpWide at *
    split at hk
    · have k := hk
      exact ⟨_, k, fun K' k' => k'⟩
    · exact hk.elim
  · intro args H K hk
    simp only [S_spec_l01ExpWide] at *
    unfold F_spec_l01ExpWide at *
    split at hk
    · have k := hk
      exact ⟨_, _, k⟩
    · exact hk.elim
  · intro hq; cases hq
  · have mm := @spec_l01ExpWide_main
    revert mm
    generalize bodyK Try.prog E_spec_l01ExpWide Try.f114 = Q
    intro mm args H K hk
    simp only [S_spec_l01ExpWide] at *
    unfold F_spec_l01ExpWide at *
    split at hk
    · exact mm _ H K hk
    · exact hk.elim
def p_spec_l01Narrow (x : Nat) : Nat := ((fnarrow x).getD 0)
theorem p_spec_l01Narrow_eq (x : Nat) : p_spec_l01Narrow x = ((fnarrow x).getD 0) := rfl
def T_spec_l01Narrow (x : Nat) (H : AHeap) (K : Nat → AHeap → Prop) : Prop := fnarrow x ≠ none ∧ K (p_spec_l01Narrow x) H
theorem T_spec_l01Narrow_i {x : Nat} {H : AHeap} {K : Nat → AHeap → Prop} (h : fnarrow x ≠ none ∧ K (p_spec_l01Narrow x) H) : T_spec_l01Narrow x H K := h

/-! spec_l01Narrow: function 113 -/
def E_spec_l01Narrow : Env := envOf []
def F_spec_l01Narrow : List Value → AHeap → (Value → AHeap → Prop) → Prop
  | [.float .f64 x], H, K => T_spec_l01Narrow x H fun (r1 : Nat) (H' : AHeap) => K (.float .f32 r1) H'
  | _, _, _ => False
def S_spec_l01Narrow : FSpec := { F := F_spec_l01Narrow, quiet := true, tame := false }
theorem spec_l01Narrow_vc (x : Nat) (H : AHeap) (K : Value → AHeap → Prop) : bodyK Try.prog E_spec_l01Narrow Try.f113 [.float .f64 x] H K =
  (∃ x1 : Nat, fnarrow x = some x1 ∧ K (.float .f32 x1) H) := by kernel_rfl
theorem E_spec_l01Narrow_ok : ∀ g, FnOk Try.prog g (E_spec_l01Narrow g) := FnOk.envOf (by
  intro x hx; cases hx)
set_option maxHeartbeats 1000000 in
theorem spec_l01Narrow_main (x : Nat) (H : AHeap) (K : Value → AHeap → Prop) (h : T_spec_l01Narrow x H fun (r1 : Nat) (H' : AHeap) => K (.float .f32 r1) H') : bodyK Try.prog E_spec_l01Narrow Try.f113 [.float .f64 x] H K := by
  rw [spec_l01Narrow_vc]
  obtain ⟨pr0, hk⟩ := h
  have e : (p_spec_l01Narrow x) = _ := rfl
  have e := e.trans (p_spec_l01Narrow_eq x)
  have g0 := Grow.refl H
  refine ⟨_, opt_get (d := 0) (by assumption), ?_⟩
  rw [e] at hk
  exact hk
theorem spec_l01Narrow_ok : FnOk Try.prog 113 S_spec_l01Narrow := by
  refine FnOk.body mix_ok E_spec_l01Narrow_ok Try.func113 rfl (by kernel_rfl) (by kernel_rfl) ?_ ?_ ?_ ?_ ?_
  · intro args H K K' h hk
    simp only [S_spec_l01Narrow] at *
    unfold F_spec_l01Narrow at *
    split at hk
    · obtain ⟨pr0, k⟩ := hk
      exact ⟨pr0, h _ _ k⟩
    · exact hk.elim
  · intro _ args H K hk
    simp only [S_spec_l01Narrow] at *
    unfold F_spec_l01Narrow at *
    split at hk
    · obtain ⟨pr0, k⟩ := hk
      exact ⟨_, k, fun K' k' => ⟨pr0, k'⟩⟩
    · exact hk.elim
  · intro args H K hk
    simp only [S_spec_l01Narrow] at *
    unfold F_spec_l01Narrow at *
    split at hk
    · obtain ⟨pr0, k⟩ := hk
      exact ⟨_, _, k⟩
    · exact hk.elim
  · intro hq; cases hq
  · have mm := @spec_l01Narrow_main
    revert mm
    generalize bodyK Try.prog E_spec_l01Narrow Try.f113 = Q
    intro mm args H K hk
    simp only [S_spec_l01Narrow] at *
    unfold F_spec_l01Narrow at *
    split at hk
    · exact mm _ H K hk
    · exact hk.elim
def p_spec_l01Exp (x : Nat) : Nat := (p_spec_l01Narrow ((p_spec_l01ExpWide (fwide x))))
theorem p_spec_l01Exp_eq (x : Nat) : p_spec_l01Exp x = (p_spec_l01Narrow ((p_spec_l01ExpWide (fwide x)))) := rfl
def T_spec_l01Exp (x : Nat) (H : AHeap) (K : Nat → AHeap → Prop) : Prop := fnarrow (p_spec_l01ExpWide (fwide x)) ≠ none ∧ K (p_spec_l01Exp x) H
theorem T_spec_l01Exp_i {x : Nat} {H : AHeap} {K : Nat → AHeap → Prop} (h : fnarrow (p_spec_l01ExpWide (fwide x)) ≠ none ∧ K (p_spec_l01Exp x) H) : T_spec_l01Exp x H K := h

/-! spec_l01Exp: function 59 -/
def E_spec_l01Exp : Env := envOf [(114, S_spec_l01ExpWide), (113, S_spec_l01Narrow)]
def F_spec_l01Exp : List Value → AHeap → (Value → AHeap → Prop) → Prop
  | [.float .f32 x], H, K => T_spec_l01Exp x H fun (r1 : Nat) (H' : AHeap) => K (.float .f32 r1) H'
  | _, _, _ => False
def S_spec_l01Exp : FSpec := { F := F_spec_l01Exp, quiet := true, tame := false }
theorem spec_l01Exp_vc (x : Nat) (H : AHeap) (K : Value → AHeap → Prop) : bodyK Try.prog E_spec_l01Exp Try.f59 [.float .f32 x] H K =
  (T_spec_l01ExpWide (fwide x) H fun (r1 : Nat) (H1 : AHeap) => T_spec_l01Narrow r1 H1 fun (r2 : Nat) (H2 : AHeap) => K (.float .f32 r2) H2) := by kernel_rfl
theorem E_spec_l01Exp_ok : ∀ g, FnOk Try.prog g (E_spec_l01Exp g) := FnOk.envOf (by
  intro x hx
  simp only [List.mem_cons, List.not_mem_nil, or_false] at hx
  rcases hx with rfl | rfl
  · exact spec_l01ExpWide_ok
  · exact spec_l01Narrow_ok)
set_option maxHeartbeats 1000000 in
theorem spec_l01Exp_main (x : Nat) (H : AHeap) (K : Value → AHeap → Prop) (h : T_spec_l01Exp x H fun (r1 : Nat) (H' : AHeap) => K (.float .f32 r1) H') : bodyK Try.prog E_spec_l01Exp Try.f59 [.float .f32 x] H K := by
  rw [spec_l01Exp_vc]
  obtain ⟨pr0, hk⟩ := h
  have e : (p_spec_l01Exp x) = _ := rfl
  have e := e.trans (p_spec_l01Exp_eq x)
  have g0 := Grow.refl H
  refine T_spec_l01ExpWide_i ?_
  refine T_spec_l01Narrow_i ⟨(by first | assumption | omega | (simp; omega)), ?_⟩
  rw [e] at hk
  exact hk
theorem spec_l01Exp_ok : FnOk Try.prog 59 S_spec_l01Exp := by
  refine FnOk.body mix_ok E_spec_l01Exp_ok Try.func59 rfl (by kernel_rfl) (by kernel_rfl) ?_ ?_ ?_ ?_ ?_
  · intro args H K K' h hk
    simp only [S_spec_l01Exp] at *
    unfold F_spec_l01Exp at *
    split at hk
    · obtain ⟨pr0, k⟩ := hk
      exact ⟨pr0, h _ _ k⟩
    · exact hk.elim
  · intro _ args H K hk
    simp only [S_spec_l01Exp] at *
    unfold F_spec_l01Exp at *
    split at hk
    · obtain ⟨pr0, k⟩ := hk
      exact ⟨_, k, fun K' k' => ⟨pr0, k'⟩⟩
    · exact hk.elim
  · intro args H K hk
    simp only [S_spec_l01Exp] at *
    unfold F_spec_l01Exp at *
    split at hk
    · obtain ⟨pr0, k⟩ := hk
      exact ⟨_, _, k⟩
    · exact hk.elim
  · intro hq; cases hq
  · have mm := @spec_l01Exp_main
    revert mm
    generalize bodyK Try.prog E_spec_l01Exp Try.f59 = Q
    intro mm args H K hk
    simp only [S_spec_l01Exp] at *
    unfold F_spec_l01Exp at *
    split at hk
    · exact mm _ H K hk
    · exact hk.elim
def p_spec_l02Number (x : Nat) : Nat × Bool := (bif !(p_spec_l01Finite x) then (0, false) else (x, true))
theorem p_spec_l02Number_eq (x : Nat) : p_spec_l02Number x = (bif !(p_spec_l01Finite x) then (0, false) else (x, true)) := rfl
def T_spec_l02Number (x : Nat) (H : AHeap) (K : Nat → Bool → AHeap → Prop) : Prop := K (p_spec_l02Number x).1 (p_spec_l02Number x).2 H

theorem T_spec_l02Number_i {x : Nat} {H : AHeap} {K : Nat → Bool → AHeap → Prop} (h : K (p_spec_l02Number x).1 (p_spec_l02Number x).2 H) : T_spec_l02Number x H K := h
/-! spec_l02Number: function 60 -/
def E_spec_l02Number : Env := envOf [(57, S_spec_l01Finite)]
def F_spec_l02Number : List Value → AHeap → (Value → AHeap → Prop) → Prop
  | [.float .f32 x], H, K => T_spec_l02Number x H fun (r1 : Nat) (r2 : Bool) (H' : AHeap) => K (.tuple #[.float .f32 r1, .bool r2]) H'
  | _, _, _ => False
def S_spec_l02Number : FSpec := { F := F_spec_l02Number, quiet := true, tame := false }
theorem spec_l02Number_vc (x : Nat) (H : AHeap) (K : Value → AHeap → Prop) : bodyK Try.prog E_spec_l02Number Try.f60 [.float .f32 x] H K =
  (T_spec_l01Finite x H fun (r1 : Bool) (H1 : AHeap) => Br (!r1) (K (.tuple #[.float .f32 0, .bool false]) H1) (K (.tuple #[.float .f32 x, .bool true]) H1)) := by kernel_rfl
theorem E_spec_l02Number_ok : ∀ g, FnOk Try.prog g (E_spec_l02Number g) := FnOk.envOf (by
  intro x hx
  simp only [List.mem_cons, List.not_mem_nil, or_false] at hx
  subst hx; exact spec_l01Finite_ok)
set_option maxHeartbeats 1000000 in
theorem spec_l02Number_main (x : Nat) (H : AHeap) (K : Value → AHeap → Prop) (h : T_spec_l02Number x H fun (r1 : Nat) (r2 : Bool) (H' : AHeap) => K (.tuple #[.float .f32 r1, .bool r2]) H') : bodyK Try.prog E_spec_l02Number Try.f60 [.float .f32 x] H K := by
  rw [spec_l02Number_vc]
  simp only [T_spec_l01Finite]
  unfold T_spec_l02Number p_spec_l02Number at h
  repeat' (first | exact h | (exfalso; simp_all; done) | (refine ⟨by decide, ?_⟩) | (refine Br.intro (fun hb => ?_) (fun hb => ?_) <;> (try simp only [hb, cond_true, cond_false, Bool.not_true, Bool.not_false] at h)))
theorem spec_l02Number_ok : FnOk Try.prog 60 S_spec_l02Number := by
  refine FnOk.body mix_ok E_spec_l02Number_ok Try.func60 rfl (by kernel_rfl) (by kernel_rfl) ?_ ?_ ?_ ?_ ?_
  · intro args H K K' h hk
    simp only [S_spec_l02Number] at *
    unfold F_spec_l02Number at *
    split at hk
    · have k := hk
      exact h _ _ k
    · exact hk.elim
  · intro _ args H K hk
    simp only [S_spec_l02Number] at *
    unfold F_spec_l02Number at *
    split at hk
    · have k := hk
      exact ⟨_, k, fun K' k' => k'⟩
    · exact hk.elim
  · intro args H K hk
    simp only [S_spec_l02Number] at *
    unfold F_spec_l02Number at *
    split at hk
    · have k := hk
      exact ⟨_, _, k⟩
    · exact hk.elim
  · intro hq; cases hq
  · have mm := @spec_l02Number_main
    revert mm
    generalize bodyK Try.prog E_spec_l02Number Try.f60 = Q
    intro mm args H K hk
    simp only [S_spec_l02Number] at *
    unfold F_spec_l02Number at *
    split at hk
    · exact mm _ H K hk
    · exact hk.elim
def p_spec_KernelMean_l1 (l_times : List Nat) (l_values : List Nat) (vat : Nat) (wide : Nat) : Nat → Nat → Nat → Int → Nat × Bool
  | 0, _, _, _ => (0, false)
  | μ + 1, sum, all, t42 => (bif decide ((t42 : Int) < (l_times.length : Int)) then (p_spec_KernelMean_l1 l_times l_values vat wide μ (fadd .f32 sum (fmul .f32 ((p_spec_l01Exp (fmul .f32 (fmul .f32 3204448256 (fdiv .f32 (fsub .f32 (((l_times).getD (t42 : Int).toNat 0)) vat) wide)) (fdiv .f32 (fsub .f32 (((l_times).getD (t42 : Int).toNat 0)) vat) wide)))) (((l_values).getD (t42 : Int).toNat 0)))) (fadd .f32 all ((p_spec_l01Exp (fmul .f32 (fmul .f32 3204448256 (fdiv .f32 (fsub .f32 (((l_times).getD (t42 : Int).toNat 0)) vat) wide)) (fdiv .f32 (fsub .f32 (((l_times).getD (t42 : Int).toNat 0)) vat) wide))))) (t42 + 1)) else (bif !(flt .f32 0 all) then (0, false) else ((p_spec_l02Number (fdiv .f32 sum all)).1, (p_spec_l02Number (fdiv .f32 sum all)).2)))
theorem p_spec_KernelMean_l1_s (l_times : List Nat) (l_values : List Nat) (vat : Nat) (wide : Nat) (μ : Nat) (sum : Nat) (all : Nat) (t42 : Int) : p_spec_KernelMean_l1 l_times l_values vat wide (μ + 1) sum all t42 = (bif decide ((t42 : Int) < (l_times.length : Int)) then (p_spec_KernelMean_l1 l_times l_values vat wide μ (fadd .f32 sum (fmul .f32 ((p_spec_l01Exp (fmul .f32 (fmul .f32 3204448256 (fdiv .f32 (fsub .f32 (((l_times).getD (t42 : Int).toNat 0)) vat) wide)) (fdiv .f32 (fsub .f32 (((l_times).getD (t42 : Int).toNat 0)) vat) wide)))) (((l_values).getD (t42 : Int).toNat 0)))) (fadd .f32 all ((p_spec_l01Exp (fmul .f32 (fmul .f32 3204448256 (fdiv .f32 (fsub .f32 (((l_times).getD (t42 : Int).toNat 0)) vat) wide)) (fdiv .f32 (fsub .f32 (((l_times).getD (t42 : Int).toNat 0)) vat) wide))))) (t42 + 1)) else (bif !(flt .f32 0 all) then (0, false) else ((p_spec_l02Number (fdiv .f32 sum all)).1, (p_spec_l02Number (fdiv .f32 sum all)).2))) := rfl
def p_spec_KernelMean (l_times : List Nat) (l_values : List Nat) (vat : Nat) (wide : Nat) : Nat × Bool := ((bif !(p_spec_l03Long l_times) then (0, false) else (bif !(p_spec_l03Long l_values) then (0, false) else (bif ((l_times.length : Int) : Int) != (l_values.length : Int) then (0, false) else (bif !(p_spec_l01Finite vat) then (0, false) else (bif !(p_spec_l02Above wide) then (0, false) else (p_spec_KernelMean_l1 l_times l_values vat wide (Int.toNat ((l_times.length : Int) - (0 : Int)) + 1) 0 0 (0 : Int))))))))
theorem p_spec_KernelMean_eq (l_times : List Nat) (l_values : List Nat) (vat : Nat) (wide : Nat) : p_spec_KernelMean l_times l_values vat wide = ((bif !(p_spec_l03Long l_times) then (0, false) else (bif !(p_spec_l03Long l_values) then (0, false) else (bif ((l_times.length : Int) : Int) != (l_values.length : Int) then (0, false) else (bif !(p_spec_l01Finite vat) then (0, false) else (bif !(p_spec_l02Above wide) then (0, false) else (p_spec_KernelMean_l1 l_times l_values vat wide (Int.toNat ((l_times.length : Int) - (0 : Int)) + 1) 0 0 (0 : Int)))))))) := rfl
def T_spec_KernelMean (times_a : Option Addr) (times_n : Nat) (times_e : Nat) (values_a : Option Addr) (values_n : Nat) (values_e : Nat) (vat : Nat) (wide : Nat) (H : AHeap) (K : Nat → Bool → AHeap → Prop) : Prop := ∃ (l_times : List Nat), ∃ (l_values : List Nat), IsL fF H times_a times_n l_times ∧ IsL fF H values_a values_n l_values ∧ l_times.length < 1073741824 ∧ l_values.length < 1073741824 ∧ K ((p_spec_KernelMean l_times l_values vat wide).1) ((p_spec_KernelMean l_times l_values vat wide).2) H
theorem T_spec_KernelMean_i {times_a : Option Addr} {times_n : Nat} {times_e : Nat} {values_a : Option Addr} {values_n : Nat} {values_e : Nat} {vat : Nat} {wide : Nat} {H : AHeap} {K : Nat → Bool → AHeap → Prop} (h : ∃ (l_times : List Nat), ∃ (l_values : List Nat), IsL fF H times_a times_n l_times ∧ IsL fF H values_a values_n l_values ∧ l_times.length < 1073741824 ∧ l_values.length < 1073741824 ∧ K ((p_spec_KernelMean l_times l_values vat wide).1) ((p_spec_KernelMean l_times l_values vat wide).2) H) : T_spec_KernelMean times_a times_n times_e values_a values_n values_e vat wide H K := h

/-! spec_KernelMean: function 15 -/
def E_spec_KernelMean : Env := envOf [(56, S_spec_l03Long), (57, S_spec_l01Finite), (58, S_spec_l02Above), (59, S_spec_l01Exp), (60, S_spec_l02Number)]
def F_spec_KernelMean : List Value → AHeap → (Value → AHeap → Prop) → Prop
  | [.slice times_a times_n times_e, .slice values_a values_n values_e, .float .f32 vat, .float .f32 wide], H, K => T_spec_KernelMean times_a times_n times_e values_a values_n values_e vat wide H fun (r1 : Nat) (r2 : Bool) (H' : AHeap) => K (.tuple #[.float .f32 r1, .bool r2]) H'
  | _, _, _ => False
def S_spec_KernelMean : FSpec := { F := F_spec_KernelMean, quiet := true, tame := false }
theorem spec_KernelMean_vc (times_a : Option Addr) (times_n : Nat) (times_e : Nat) (values_a : Option Addr) (values_n : Nat) (values_e : Nat) (vat : Nat) (wide : Nat) (H : AHeap) (K : Value → AHeap → Prop) : bodyK Try.prog E_spec_KernelMean Try.f15 [.slice times_a times_n times_e, .slice values_a values_n values_e, .float .f32 vat, .float .f32 wide] H K =
  (T_spec_l03Long times_a times_n times_e H fun (r1 : Bool) (H1 : AHeap) => Br (!r1) (K (.tuple #[.float .f32 0, .bool false]) H1) (T_spec_l03Long values_a values_n values_e H1 fun (r2 : Bool) (H2 : AHeap) => Br (!r2) (K (.tuple #[.float .f32 0, .bool false]) H2) (Br (((times_n : Int) : Int) != (values_n : Int)) (K (.tuple #[.float .f32 0, .bool false]) H2) (T_spec_l01Finite vat H2 fun (r3 : Bool) (H3 : AHeap) => Br (!r3) (K (.tuple #[.float .f32 0, .bool false]) H3) (T_spec_l02Above wide H3 fun (r4 : Bool) (H4 : AHeap) => Br (!r4) (K (.tuple #[.float .f32 0, .bool false]) H4) (loopK (exK Try.prog E_spec_KernelMean (cl (cl (cr (cl (cr (cr (cr (cr (bodyC Try.f15)))))))))) [.slice times_a times_n times_e, .slice values_a values_n values_e, .float .f32 vat, .float .f32 wide, undef, undef, undef, undef, .float .f32 0, .bool false, .float .f32 0, .float .f32 0, undef, undef, undef, .slice times_a times_n times_e, .bool r1, .bool (!r1), .bool false, .slice values_a values_n values_e, .bool r2, .bool (!r2), .bool (!r2), .bool false, .slice times_a times_n times_e, .int .i64 (times_n : Int), .slice values_a values_n values_e, .int .i64 (values_n : Int), .bool (((times_n : Int) : Int) != (values_n : Int)), .bool (((times_n : Int) : Int) != (values_n : Int)), .bool false, .float .f32 vat, .bool r3, .bool (!r3), .bool (!r3), .bool false, .float .f32 wide, .bool r4, .bool (!r4), .bool (!r4), .slice times_a times_n times_e, .int .i64 (times_n : Int), .int .i64 0, undef, undef, undef, undef, undef, undef, undef, undef, undef, undef, undef, undef, undef, undef, undef, undef, undef, undef, undef, undef, undef, undef, undef, undef, undef, undef, undef, undef, undef, undef, undef, undef, undef, undef, undef, undef] H4 (blockQ 0 (seqQ (exK Try.prog E_spec_KernelMean (cr (cr (cr (cr (cr (bodyC Try.f15))))))) (retK Try.prog Try.f15 K))))))))) := by kernel_rfl
theorem spec_KernelMean_r1 (r1 : Bool) (r2 : Bool) (r3 : Bool) (r4 : Bool) (times_a : Option Addr) (times_e : Nat) (times_n : Nat) (values_a : Option Addr) (values_e : Nat) (values_n : Nat) (vat : Nat) (wide : Nat) (sum : Nat) (all : Nat) (t42 : Int) (g12 g13 g14 g43 g44 g45 g46 g47 g48 g49 g50 g51 g52 g53 g54 g55 g56 g57 g58 g59 g60 g61 g62 g63 g64 g65 g66 g67 g68 g69 : Value) (H : AHeap) (R : Post) : exK Try.prog E_spec_KernelMean (cl (cl (cr (cl (cr (cr (cr (cr (bodyC Try.f15))))))))) [.slice times_a times_n times_e, .slice values_a values_n values_e, .float .f32 vat, .float .f32 wide, undef, undef, undef, undef, .float .f32 0, .bool false, .float .f32 sum, .float .f32 all, g12, g13, g14, .slice times_a times_n times_e, .bool r1, .bool (!r1), .bool false, .slice values_a values_n values_e, .bool r2, .bool (!r2), .bool (!r2), .bool false, .slice times_a times_n times_e, .int .i64 (times_n : Int), .slice values_a values_n values_e, .int .i64 (values_n : Int), .bool (((times_n : Int) : Int) != (values_n : Int)), .bool (((times_n : Int) : Int) != (values_n : Int)), .bool false, .float .f32 vat, .bool r3, .bool (!r3), .bool (!r3), .bool false, .float .f32 wide, .bool r4, .bool (!r4), .bool (!r4), .slice times_a times_n times_e, .int .i64 (times_n : Int), .int .i64 t42, g43, g44, g45, g46, g47, g48, g49, g50, g51, g52, g53, g54, g55, g56, g57, g58, g59, g60, g61, g62, g63, g64, g65, g66, g67, g68, g69, undef, undef, undef, undef, undef, undef, undef, undef, undef] H R =
  (Br (decide ((t42 : Int) < (times_n : Int))) ((0 : Int) ≤ t42 ∧ t42 < (times_n : Int) ∧ ∃ b1 f1, (times_a : Option Addr) = some ⟨b1, f1, none⟩ ∧ ∃ x1 : Nat,  rdC H b1 (f1 + (t42 : Int).toNat * 1) = some (.float .f32 x1) ∧ T_spec_l01Exp (fmul .f32 (fmul .f32 3204448256 (fdiv .f32 (fsub .f32 x1 vat) wide)) (fdiv .f32 (fsub .f32 x1 vat) wide)) H fun (r5 : Nat) (H5 : AHeap) => (0 : Int) ≤ t42 ∧ t42 < (values_n : Int) ∧ ∃ b2 f2, (values_a : Option Addr) = some ⟨b2, f2, none⟩ ∧ ∃ x2 : Nat,  rdC H5 b2 (f2 + (t42 : Int).toNat * 1) = some (.float .f32 x2) ∧ R .normal [.slice times_a times_n times_e, .slice values_a values_n values_e, .float .f32 vat, .float .f32 wide, undef, undef, undef, undef, .float .f32 0, .bool false, .float .f32 (fadd .f32 sum (fmul .f32 r5 x2)), .float .f32 (fadd .f32 all r5), .int .i64 t42, .float .f32 (fdiv .f32 (fsub .f32 x1 vat) wide), .float .f32 r5, .slice times_a times_n times_e, .bool r1, .bool (!r1), .bool false, .slice values_a values_n values_e, .bool r2, .bool (!r2), .bool (!r2), .bool false, .slice times_a times_n times_e, .int .i64 (times_n : Int), .slice values_a values_n values_e, .int .i64 (values_n : Int), .bool (((times_n : Int) : Int) != (values_n : Int)), .bool (((times_n : Int) : Int) != (values_n : Int)), .bool false, .float .f32 vat, .bool r3, .bool (!r3), .bool (!r3), .bool false, .float .f32 wide, .bool r4, .bool (!r4), .bool (!r4), .slice times_a times_n times_e, .int .i64 (times_n : Int), .int .i64 (IntKind.wrap .i64 (t42 + 1)), .bool (decide ((t42 : Int) < (times_n : Int))), .int .i64 t42, .slice times_a times_n times_e, .int .i64 t42, .pointer (some ⟨b1, f1 + (t42 : Int).toNat * 1, none⟩), .float .f32 x1, .float .f32 vat, .float .f32 (fsub .f32 x1 vat), .float .f32 wide, .float .f32 (fdiv .f32 (fsub .f32 x1 vat) wide), .float .f32 (fdiv .f32 (fsub .f32 x1 vat) wide), .float .f32 (fmul .f32 3204448256 (fdiv .f32 (fsub .f32 x1 vat) wide)), .float .f32 (fdiv .f32 (fsub .f32 x1 vat) wide), .float .f32 (fmul .f32 (fmul .f32 3204448256 (fdiv .f32 (fsub .f32 x1 vat) wide)) (fdiv .f32 (fsub .f32 x1 vat) wide)), .float .f32 r5, .float .f32 sum, .float .f32 r5, .slice values_a values_n values_e, .int .i64 t42, .pointer (some ⟨b2, f2 + (t42 : Int).toNat * 1, none⟩), .float .f32 x2, .float .f32 (fmul .f32 r5 x2), .float .f32 (fadd .f32 sum (fmul .f32 r5 x2)), .float .f32 all, .float .f32 r5, .float .f32 (fadd .f32 all r5), .int .i64 (IntKind.wrap .i64 (t42 + 1)), undef, undef, undef, undef, undef, undef, undef, undef, undef] H5) (R (.exit 0) [.slice times_a times_n times_e, .slice values_a values_n values_e, .float .f32 vat, .float .f32 wide, undef, undef, undef, undef, .float .f32 0, .bool false, .float .f32 sum, .float .f32 all, g12, g13, g14, .slice times_a times_n times_e, .bool r1, .bool (!r1), .bool false, .slice values_a values_n values_e, .bool r2, .bool (!r2), .bool (!r2), .bool false, .slice times_a times_n times_e, .int .i64 (times_n : Int), .slice values_a values_n values_e, .int .i64 (values_n : Int), .bool (((times_n : Int) : Int) != (values_n : Int)), .bool (((times_n : Int) : Int) != (values_n : Int)), .bool false, .float .f32 vat, .bool r3, .bool (!r3), .bool (!r3), .bool false, .float .f32 wide, .bool r4, .bool (!r4), .bool (!r4), .slice times_a times_n times_e, .int .i64 (times_n : Int), .int .i64 t42, .bool (decide ((t42 : Int) < (times_n : Int))), g44, g45, g46, g47, g48, g49, g50, g51, g52, g53, g54, g55, g56, g57, g58, g59, g60, g61, g62, g63, g64, g65, g66, g67, g68, g69, undef, undef, undef, undef, undef, undef, undef, undef, undef] H)) := by kernel_rfl
def spec_KernelMean_I1 (r1 : Bool) (r2 : Bool) (r3 : Bool) (r4 : Bool) (times_a : Option Addr) (times_e : Nat) (times_n : Nat) (values_a : Option Addr) (values_e : Nat) (values_n : Nat) (vat : Nat) (wide : Nat) (Inv : Nat → Nat → Nat → Int → AHeap → Prop) : Nat → List Value → AHeap → Prop := fun μ tm H => ∃ (sum : Nat), ∃ (all : Nat), ∃ (t42 : Int), ∃ g12 g13 g14 g43 g44 g45 g46 g47 g48 g49 g50 g51 g52 g53 g54 g55 g56 g57 g58 g59 g60 g61 g62 g63 g64 g65 g66 g67 g68 g69, tm = [.slice times_a times_n times_e, .slice values_a values_n values_e, .float .f32 vat, .float .f32 wide, undef, undef, undef, undef, .float .f32 0, .bool false, .float .f32 sum, .float .f32 all, g12, g13, g14, .slice times_a times_n times_e, .bool r1, .bool (!r1), .bool false, .slice values_a values_n values_e, .bool r2, .bool (!r2), .bool (!r2), .bool false, .slice times_a times_n times_e, .int .i64 (times_n : Int), .slice values_a values_n values_e, .int .i64 (values_n : Int), .bool (((times_n : Int) : Int) != (values_n : Int)), .bool (((times_n : Int) : Int) != (values_n : Int)), .bool false, .float .f32 vat, .bool r3, .bool (!r3), .bool (!r3), .bool false, .float .f32 wide, .bool r4, .bool (!r4), .bool (!r4), .slice times_a times_n times_e, .int .i64 (times_n : Int), .int .i64 t42, g43, g44, g45, g46, g47, g48, g49, g50, g51, g52, g53, g54, g55, g56, g57, g58, g59, g60, g61, g62, g63, g64, g65, g66, g67, g68, g69, undef, undef, undef, undef, undef, undef, undef, undef, undef] ∧ Inv μ sum all t42 H
theorem spec_KernelMean_L1 (r1 : Bool) (r2 : Bool) (r3 : Bool) (r4 : Bool) (times_a : Option Addr) (times_e : Nat) (times_n : Nat) (values_a : Option Addr) (values_e : Nat) (values_n : Nat) (vat : Nat) (wide : Nat) {Q : Post} (Inv : Nat → Nat → Nat → Int → AHeap → Prop) (ν : Nat) (sum : Nat) (all : Nat) (t42 : Int) (g12 g13 g14 g43 g44 g45 g46 g47 g48 g49 g50 g51 g52 g53 g54 g55 g56 g57 g58 g59 g60 g61 g62 g63 g64 g65 g66 g67 g68 g69 : Value) (H : AHeap) (h0 : Inv ν sum all t42 H)
    (hs : ∀ (μ : Nat) (sum : Nat) (all : Nat) (t42 : Int) (g12 g13 g14 g43 g44 g45 g46 g47 g48 g49 g50 g51 g52 g53 g54 g55 g56 g57 g58 g59 g60 g61 g62 g63 g64 g65 g66 g67 g68 g69 : Value) (H : AHeap), Inv μ sum all t42 H → exK Try.prog E_spec_KernelMean (cl (cl (cr (cl (cr (cr (cr (cr (bodyC Try.f15))))))))) [.slice times_a times_n times_e, .slice values_a values_n values_e, .float .f32 vat, .float .f32 wide, undef, undef, undef, undef, .float .f32 0, .bool false, .float .f32 sum, .float .f32 all, g12, g13, g14, .slice times_a times_n times_e, .bool r1, .bool (!r1), .bool false, .slice values_a values_n values_e, .bool r2, .bool (!r2), .bool (!r2), .bool false, .slice times_a times_n times_e, .int .i64 (times_n : Int), .slice values_a values_n values_e, .int .i64 (values_n : Int), .bool (((times_n : Int) : Int) != (values_n : Int)), .bool (((times_n : Int) : Int) != (values_n : Int)), .bool false, .float .f32 vat, .bool r3, .bool (!r3), .bool (!r3), .bool false, .float .f32 wide, .bool r4, .bool (!r4), .bool (!r4), .slice times_a times_n times_e, .int .i64 (times_n : Int), .int .i64 t42, g43, g44, g45, g46, g47, g48, g49, g50, g51, g52, g53, g54, g55, g56, g57, g58, g59, g60, g61, g62, g63, g64, g65, g66, g67, g68, g69, undef, undef, undef, undef, undef, undef, undef, undef, undef] H (loopQ (spec_KernelMean_I1 r1 r2 r3 r4 times_a times_e times_n values_a values_e values_n vat wide Inv) μ Q)) : loopK (exK Try.prog E_spec_KernelMean (cl (cl (cr (cl (cr (cr (cr (cr (bodyC Try.f15)))))))))) [.slice times_a times_n times_e, .slice values_a values_n values_e, .float .f32 vat, .float .f32 wide, undef, undef, undef, undef, .float .f32 0, .bool false, .float .f32 sum, .float .f32 all, g12, g13, g14, .slice times_a times_n times_e, .bool r1, .bool (!r1), .bool false, .slice values_a values_n values_e, .bool r2, .bool (!r2), .bool (!r2), .bool false, .slice times_a times_n times_e, .int .i64 (times_n : Int), .slice values_a values_n values_e, .int .i64 (values_n : Int), .bool (((times_n : Int) : Int) != (values_n : Int)), .bool (((times_n : Int) : Int) != (values_n : Int)), .bool false, .float .f32 vat, .bool r3, .bool (!r3), .bool (!r3), .bool false, .float .f32 wide, .bool r4, .bool (!r4), .bool (!r4), .slice times_a times_n times_e, .int .i64 (times_n : Int), .int .i64 t42, g43, g44, g45, g46, g47, g48, g49, g50, g51, g52, g53, g54, g55, g56, g57, g58, g59, g60, g61, g62, g63, g64, g65, g66, g67, g68, g69, undef, undef, undef, undef, undef, undef, undef, undef, undef] H Q :=
  ⟨spec_KernelMean_I1 r1 r2 r3 r4 times_a times_e times_n values_a values_e values_n vat wide Inv, ν, ⟨sum, all, t42, g12, g13, g14, g43, g44, g45, g46, g47, g48, g49, g50, g51, g52, g53, g54, g55, g56, g57, g58, g59, g60, g61, g62, g63, g64, g65, g66, g67, g68, g69, rfl, h0⟩, fun μ tm H h => by obtain ⟨sum, all, t42, g12, g13, g14, g43, g44, g45, g46, g47, g48, g49, g50, g51, g52, g53, g54, g55, g56, g57, g58, g59, g60, g61, g62, g63, g64, g65, g66, g67, g68, g69, rfl, hI⟩ := h; exact hs μ sum all t42 g12 g13 g14 g43 g44 g45 g46 g47 g48 g49 g50 g51 g52 g53 g54 g55 g56 g57 g58 g59 g60 g61 g62 g63 g64 g65 g66 g67 g68 g69 H hI⟩
theorem spec_KernelMean_n1 {r1 : Bool} {r2 : Bool} {r3 : Bool} {r4 : Bool} {times_a : Option Addr} {times_e : Nat} {times_n : Nat} {values_a : Option Addr} {values_e : Nat} {values_n : Nat} {vat : Nat} {wide : Nat} {Q : Post} {Inv : Nat → Nat → Nat → Int → AHeap → Prop} {μ : Nat} (μ' : Nat) {sum : Nat} {all : Nat} {t42 : Int} {g12 g13 g14 g43 g44 g45 g46 g47 g48 g49 g50 g51 g52 g53 g54 g55 g56 g57 g58 g59 g60 g61 g62 g63 g64 g65 g66 g67 g68 g69 : Value} {H : AHeap} (hm : μ' < μ) (hI : Inv μ' sum all t42 H) : loopQ (spec_KernelMean_I1 r1 r2 r3 r4 times_a times_e times_n values_a values_e values_n vat wide Inv) μ Q .normal [.slice times_a times_n times_e, .slice values_a values_n values_e, .float .f32 vat, .float .f32 wide, undef, undef, undef, undef, .float .f32 0, .bool false, .float .f32 sum, .float .f32 all, g12, g13, g14, .slice times_a times_n times_e, .bool r1, .bool (!r1), .bool false, .slice values_a values_n values_e, .bool r2, .bool (!r2), .bool (!r2), .bool false, .slice times_a times_n times_e, .int .i64 (times_n : Int), .slice values_a values_n values_e, .int .i64 (values_n : Int), .bool (((times_n : Int) : Int) != (values_n : Int)), .bool (((times_n : Int) : Int) != (values_n : Int)), .bool false, .float .f32 vat, .bool r3, .bool (!r3), .bool (!r3), .bool false, .float .f32 wide, .bool r4, .bool (!r4), .bool (!r4), .slice times_a times_n times_e, .int .i64 (times_n : Int), .int .i64 t42, g43, g44, g45, g46, g47, g48, g49, g50, g51, g52, g53, g54, g55, g56, g57, g58, g59, g60, g61, g62, g63, g64, g65, g66, g67, g68, g69, undef, undef, undef, undef, undef, undef, undef, undef, undef] H := ⟨μ', hm, sum, all, t42, g12, g13, g14, g43, g44, g45, g46, g47, g48, g49, g50, g51, g52, g53, g54, g55, g56, g57, g58, g59, g60, g61, g62, g63, g64, g65, g66, g67, g68, g69, rfl, hI⟩
theorem spec_KernelMean_x1_0 (r1 : Bool) (r2 : Bool) (r3 : Bool) (r4 : Bool) (times_a : Option Addr) (times_e : Nat) (times_n : Nat) (values_a : Option Addr) (values_e : Nat) (values_n : Nat) (vat : Nat) (wide : Nat) (sum : Nat) (all : Nat) (t42 : Int) (g12 g13 g14 g43 g44 g45 g46 g47 g48 g49 g50 g51 g52 g53 g54 g55 g56 g57 g58 g59 g60 g61 g62 g63 g64 g65 g66 g67 g68 g69 : Value) (H : AHeap) (K : Value → AHeap → Prop)  {I : Nat → List Value → AHeap → Prop} {μ : Nat} : loopQ I μ (blockQ 0 (seqQ (exK Try.prog E_spec_KernelMean (cr (cr (cr (cr (cr (bodyC Try.f15))))))) (retK Try.prog Try.f15 K))) (.exit 0) [.slice times_a times_n times_e, .slice values_a values_n values_e, .float .f32 vat, .float .f32 wide, undef, undef, undef, undef, .float .f32 0, .bool false, .float .f32 sum, .float .f32 all, g12, g13, g14, .slice times_a times_n times_e, .bool r1, .bool (!r1), .bool false, .slice values_a values_n values_e, .bool r2, .bool (!r2), .bool (!r2), .bool false, .slice times_a times_n times_e, .int .i64 (times_n : Int), .slice values_a values_n values_e, .int .i64 (values_n : Int), .bool (((times_n : Int) : Int) != (values_n : Int)), .bool (((times_n : Int) : Int) != (values_n : Int)), .bool false, .float .f32 vat, .bool r3, .bool (!r3), .bool (!r3), .bool false, .float .f32 wide, .bool r4, .bool (!r4), .bool (!r4), .slice times_a times_n times_e, .int .i64 (times_n : Int), .int .i64 t42, g43, g44, g45, g46, g47, g48, g49, g50, g51, g52, g53, g54, g55, g56, g57, g58, g59, g60, g61, g62, g63, g64, g65, g66, g67, g68, g69, undef, undef, undef, undef, undef, undef, undef, undef, undef] H =
  (Br (!(flt .f32 0 all)) (K (.tuple #[.float .f32 0, .bool false]) H) (T_spec_l02Number (fdiv .f32 sum all) H fun (r6 : Nat) (r7 : Bool) (H6 : AHeap) => K (.tuple #[.float .f32 r6, .bool r7]) H6)) := by kernel_rfl
theorem E_spec_KernelMean_ok : ∀ g, FnOk Try.prog g (E_spec_KernelMean g) := FnOk.envOf (by
  intro x hx
  simp only [List.mem_cons, List.not_mem_nil, or_false] at hx
  rcases hx with rfl | rfl | rfl | rfl | rfl
  · exact spec_l03Long_ok
  · exact spec_l01Finite_ok
  · exact spec_l02Above_ok
  · exact spec_l01Exp_ok
  · exact spec_l02Number_ok)
set_option maxHeartbeats 1000000 in
theorem spec_KernelMean_main (times_a : Option Addr) (times_n : Nat) (times_e : Nat) (values_a : Option Addr) (values_n : Nat) (values_e : Nat) (vat : Nat) (wide : Nat) (H : AHeap) (K : Value → AHeap → Prop) (h : T_spec_KernelMean times_a times_n times_e values_a values_n values_e vat wide H fun (r1 : Nat) (r2 : Bool) (H' : AHeap) => K (.tuple #[.float .f32 r1, .bool r2]) H') : bodyK Try.prog E_spec_KernelMean Try.f15 [.slice times_a times_n times_e, .slice values_a values_n values_e, .float .f32 vat, .float .f32 wide] H K := by
  rw [spec_KernelMean_vc]
  obtain ⟨l_times, l_values, i_times, i_values, bd_17, bd_18, hk⟩ := h
  obtain rfl := i_times.eqn
  obtain rfl := i_values.eqn
  have e : (p_spec_KernelMean l_times l_values vat wide) = _ := rfl
  have e := e.trans (p_spec_KernelMean_eq l_times l_values vat wide)
  have g0 := Grow.refl H
  refine T_spec_l03Long_i ⟨_, (i_times.grow g0), (by first | omega | (simp only [List.length_set, List.length_replicate, List.length_append, List.length_cons, List.length_nil, List.length_take, List.length_drop, marks_length]; done) | (simp only [List.length_set, List.length_replicate, List.length_append, List.length_cons, List.length_nil, List.length_take, List.length_drop, marks_length]; omega)), ?_⟩
  refine Br.intro (fun c_1 => ?_) (fun c_1 => ?_)
  · have e := e.trans (cond_t c_1)
    have c_1n := nf_of_t c_1
    rw [e] at hk
    exact hk
  · have e := e.trans (cond_f c_1)
    have c_1n := nt_of_f c_1
    have c_1n' := spec_l03Long_t c_1n
    refine T_spec_l03Long_i ⟨_, (i_values.grow g0), (by first | omega | (simp only [List.length_set, List.length_replicate, List.length_append, List.length_cons, List.length_nil, List.length_take, List.length_drop, marks_length]; done) | (simp only [List.length_set, List.length_replicate, List.length_append, List.length_cons, List.length_nil, List.length_take, List.length_drop, marks_length]; omega)), ?_⟩
    refine Br.intro (fun c_2 => ?_) (fun c_2 => ?_)
    · have e := e.trans (cond_t c_2)
      have c_2n := nf_of_t c_2
      rw [e] at hk
      exact hk
    · have e := e.trans (cond_f c_2)
      have c_2n := nt_of_f c_2
      have c_2n' := spec_l03Long_t c_2n
      refine Br.intro (fun c_3 => ?_) (fun c_3 => ?_)
      · have e := e.trans (cond_t c_3)
        have c_3' := ine_t c_3
        rw [e] at hk
        exact hk
      · have e := e.trans (cond_f c_3)
        have c_3' := ine_f c_3
        refine T_spec_l01Finite_i ?_
        refine Br.intro (fun c_4 => ?_) (fun c_4 => ?_)
        · have e := e.trans (cond_t c_4)
          have c_4n := nf_of_t c_4
          rw [e] at hk
          exact hk
        · have e := e.trans (cond_f c_4)
          have c_4n := nt_of_f c_4
          refine T_spec_l02Above_i ?_
          refine Br.intro (fun c_5 => ?_) (fun c_5 => ?_)
          · have e := e.trans (cond_t c_5)
            have c_5n := nf_of_t c_5
            rw [e] at hk
            exact hk
          · have e := e.trans (cond_f c_5)
            have c_5n := nt_of_f c_5
            refine spec_KernelMean_L1 _ _ _ _ _ _ _ _ _ _ _ _ (fun (μ : Nat) (sum : Nat) (all : Nat) (t42 : Int) (H_1 : AHeap) => H = H_1 ∧ (0 : Int) ≤ t42 ∧ t42 ≤ (l_times.length : Int) ∧ (l_times.length : Int) - t42 ≤ (μ : Int) ∧ p_spec_KernelMean l_times l_values vat wide = p_spec_KernelMean_l1 l_times l_values vat wide (μ + 1) sum all t42) (Int.toNat ((l_times.length : Int) - (0 : Int))) _ _ _ _ _ _ _ _ _ _ _ _ _ _ _ _ _ _ _ _ _ _ _ _ _ _ _ _ _ _ _ _ _ H ?_ ?_
            · exact ⟨rfl, (by first | omega | (simp; done) | (simp; omega)), (by first | omega | (simp; done) | (simp; omega)), (by omega), e⟩
            · intro μ sum all t42 g12 g13 g14 g43 g44 g45 g46 g47 g48 g49 g50 g51 g52 g53 g54 g55 g56 g57 g58 g59 g60 g61 g62 g63 g64 g65 g66 g67 g68 g69 H_1 hI
              obtain ⟨rfl, v_6, v_7, hμ, e⟩ := hI
              rw [spec_KernelMean_r1]
              have e := e.trans (p_spec_KernelMean_l1_s l_times l_values vat wide μ sum all t42)
              have l_8 := g0.1
              refine Br.intro (fun c_9 => ?_) (fun c_9 => ?_)
              · have e := e.trans (cond_t c_9)
                have c_9' := of_decide_eq_true c_9
                obtain ⟨b_10, f_11, q_12⟩ := ((i_times.grow g0)).pos (by first | omega | (simp only [List.length_set, List.length_replicate, List.length_append, List.length_cons, List.length_nil, List.length_take, List.length_drop, marks_length]; done) | (simp only [List.length_set, List.length_replicate, List.length_append, List.length_cons, List.length_nil, List.length_take, List.length_drop, marks_length]; omega))
                refine ⟨by omega, by omega, b_10, f_11, q_12, ?_⟩
                refine ⟨((l_times).getD (t42 : Int).toNat 0), (i_times).rd g0 q_12 (by omega) _, ?_⟩
                refine T_spec_l01Exp_i ⟨(by first | assumption | omega | (simp; omega) | (exact spec_l01ExpWide_nar (sq_neg (by decide +kernel)))), ?_⟩
                obtain ⟨b_13, f_14, q_15⟩ := ((i_values.grow g0)).pos (by first | omega | (simp only [List.length_set, List.length_replicate, List.length_append, List.length_cons, List.length_nil, List.length_take, List.length_drop, marks_length]; done) | (simp only [List.length_set, List.length_replicate, List.length_append, List.length_cons, List.length_nil, List.length_take, List.length_drop, marks_length]; omega))
                refine ⟨by omega, by omega, b_13, f_14, q_15, ?_⟩
                refine ⟨((l_values).getD (t42 : Int).toNat 0), (i_values).rd g0 q_15 (by omega) _, ?_⟩
                rw [show IntKind.wrap .i64 (t42 + 1) = (t42 + 1) from wrap64 (by omega) (by omega)]
                refine spec_KernelMean_n1 (μ - 1) (by first | omega) ⟨rfl, (by first | omega | (simp only [List.length_append, List.length_cons, List.length_nil, List.length_set]; done) | (simp only [List.length_append, List.length_cons, List.length_nil, List.length_set]; omega)), (by first | omega | (simp only [List.length_append, List.length_cons, List.length_nil, List.length_set]; done) | (simp only [List.length_append, List.length_cons, List.length_nil, List.length_set]; omega)), (by first | omega), (by rw [show μ - 1 + 1 = μ from by first | omega]; exact e)⟩
              · have e := e.trans (cond_f c_9)
                have c_9' := of_decide_eq_false c_9
                rw [spec_KernelMean_x1_0]
                refine Br.intro (fun c_16 => ?_) (fun c_16 => ?_)
                · have e := e.trans (cond_t c_16)
                  have c_16n := nf_of_t c_16
                  rw [e] at hk
                  exact hk
                · have e := e.trans (cond_f c_16)
                  have c_16n := nt_of_f c_16
                  refine T_spec_l02Number_i ?_
                  rw [e] at hk
                  exact hk
theorem spec_KernelMean_ok : FnOk Try.prog 15 S_spec_KernelMean := by
  refine FnOk.body mix_ok E_spec_KernelMean_ok Try.func15 rfl (by kernel_rfl) (by kernel_rfl) ?_ ?_ ?_ ?_ ?_
  · intro args H K K' h hk
    simp only [S_spec_KernelMean] at *
    unfold F_spec_KernelMean at *
    split at hk
    · obtain ⟨l_times, l_values, i_times, i_values, bd_17, bd_18, k⟩ := hk
      exact ⟨l_times, l_values, i_times, i_values, bd_17, bd_18, h _ _ k⟩
    · exact hk.elim
  · intro _ args H K hk
    simp only [S_spec_KernelMean] at *
    unfold F_spec_KernelMean at *
    split at hk
    · obtain ⟨l_times, l_values, i_times, i_values, bd_17, bd_18, k⟩ := hk
      exact ⟨_, k, fun K' k' => ⟨l_times, l_values, i_times, i_values, bd_17, bd_18, k'⟩⟩
    · exact hk.elim
  · intro args H K hk
    simp only [S_spec_KernelMean] at *
    unfold F_spec_KernelMean at *
    split at hk
    · obtain ⟨l_times, l_values, i_times, i_values, bd_17, bd_18, k⟩ := hk
      exact ⟨_, _, k⟩
    · exact hk.elim
  · intro hq; cases hq
  · have mm := @spec_KernelMean_main
    revert mm
    generalize bodyK Try.prog E_spec_KernelMean Try.f15 = Q
    intro mm args H K hk
    simp only [S_spec_KernelMean] at *
    unfold F_spec_KernelMean at *
    split at hk
    · exact mm _ _ _ _ _ _ _ _ H K hk
    · exact hk.elim
def p_impl_within (n : Int) (low : Int) (high : Int) : Bool := (bif decide ((low : Int) ≤ n) then decide ((n : Int) ≤ high) else false)
theorem p_impl_within_eq (n : Int) (low : Int) (high : Int) : p_impl_within n low high = (bif decide ((low : Int) ≤ n) then decide ((n : Int) ≤ high) else false) := rfl
def T_impl_within (n : Int) (low : Int) (high : Int) (H : AHeap) (K : Bool → AHeap → Prop) : Prop := K (p_impl_within n low high) H
theorem impl_within_t {n a b : Int} (h : p_impl_within n a b = true) : a ≤ n ∧ n ≤ b := by
  unfold p_impl_within at h
  by_cases h1 : a ≤ n
  · rw [decide_eq_true h1, cond_true] at h; exact ⟨h1, of_decide_eq_true h⟩
  · rw [decide_eq_false h1] at h; cases h
theorem T_impl_within_i {n : Int} {low : Int} {high : Int} {H : AHeap} {K : Bool → AHeap → Prop} (h : K (p_impl_within n low high) H) : T_impl_within n low high H K := h
/-! impl_within: function 72 -/
def E_impl_within : Env := envOf []
def F_impl_within : List Value → AHeap → (Value → AHeap → Prop) → Prop
  | [.int .i64 n, .int .i64 low, .int .i64 high], H, K => T_impl_within n low high H fun (r1 : Bool) (H' : AHeap) => K (.bool r1) H'
  | _, _, _ => False
def S_impl_within : FSpec := { F := F_impl_within, quiet := true, tame := false }
theorem impl_within_vc (n : Int) (low : Int) (high : Int) (H : AHeap) (K : Value → AHeap → Prop) : bodyK Try.prog E_impl_within Try.f72 [.int .i64 n, .int .i64 low, .int .i64 high] H K =
  (Br (decide ((low : Int) ≤ n)) (K (.bool (decide ((n : Int) ≤ high))) H) (K (.bool false) H)) := by kernel_rfl
theorem E_impl_within_ok : ∀ g, FnOk Try.prog g (E_impl_within g) := FnOk.envOf (by
  intro x hx; cases hx)
set_option maxHeartbeats 1000000 in
theorem impl_within_main (n : Int) (low : Int) (high : Int) (H : AHeap) (K : Value → AHeap → Prop) (h : T_impl_within n low high H fun (r1 : Bool) (H' : AHeap) => K (.bool r1) H') : bodyK Try.prog E_impl_within Try.f72 [.int .i64 n, .int .i64 low, .int .i64 high] H K := by
  rw [impl_within_vc]
  unfold T_impl_within p_impl_within at h
  repeat' (first | exact h | (exfalso; simp_all; done) | (refine ⟨by decide, ?_⟩) | (refine Br.intro (fun hb => ?_) (fun hb => ?_) <;> (try simp only [hb, cond_true, cond_false, Bool.not_true, Bool.not_false] at h)))
theorem impl_within_ok : FnOk Try.prog 72 S_impl_within := by
  refine FnOk.body mix_ok E_impl_within_ok Try.func72 rfl (by kernel_rfl) (by kernel_rfl) ?_ ?_ ?_ ?_ ?_
  · intro args H K K' h hk
    simp only [S_impl_within] at *
    unfold F_impl_within at *
    split at hk
    · have k := hk
      exact h _ _ k
    · exact hk.elim
  · intro _ args H K hk
    simp only [S_impl_within] at *
    unfold F_impl_within at *
    split at hk
    · have k := hk
      exact ⟨_, k, fun K' k' => k'⟩
    · exact hk.elim
  · intro args H K hk
    simp only [S_impl_within] at *
    unfold F_impl_within at *
    split at hk
    · have k := hk
      exact ⟨_, _, k⟩
    · exact hk.elim
  · intro hq; cases hq
  · have mm := @impl_within_main
    revert mm
    generalize bodyK Try.prog E_impl_within Try.f72 = Q
    intro mm args H K hk
    simp only [S_impl_within] at *
    unfold F_impl_within at *
    split at hk
    · exact mm _ _ _ H K hk
    · exact hk.elim
def p_impl_IsFinite (x : Nat) : Bool := feq .f32 (fsub .f32 x x) 0
theorem p_impl_IsFinite_eq (x : Nat) : p_impl_IsFinite x = feq .f32 (fsub .f32 x x) 0 := rfl
def T_impl_IsFinite (x : Nat) (H : AHeap) (K : Bool → AHeap → Prop) : Prop := K (p_impl_IsFinite x) H

theorem T_impl_IsFinite_i {x : Nat} {H : AHeap} {K : Bool → AHeap → Prop} (h : K (p_impl_IsFinite x) H) : T_impl_IsFinite x H K := h
/-! impl_IsFinite: function 62 -/
def E_impl_IsFinite : Env := envOf []
def F_impl_IsFinite : List Value → AHeap → (Value → AHeap → Prop) → Prop
  | [.float .f32 x], H, K => T_impl_IsFinite x H fun (r1 : Bool) (H' : AHeap) => K (.bool r1) H'
  | _, _, _ => False
def S_impl_IsFinite : FSpec := { F := F_impl_IsFinite, quiet := true, tame := false }
theorem impl_IsFinite_vc (x : Nat) (H : AHeap) (K : Value → AHeap → Prop) : bodyK Try.prog E_impl_IsFinite Try.f62 [.float .f32 x] H K =
  (K (.bool (feq .f32 (fsub .f32 x x) 0)) H) := by kernel_rfl
theorem E_impl_IsFinite_ok : ∀ g, FnOk Try.prog g (E_impl_IsFinite g) := FnOk.envOf (by
  intro x hx; cases hx)
set_option maxHeartbeats 1000000 in
theorem impl_IsFinite_main (x : Nat) (H : AHeap) (K : Value → AHeap → Prop) (h : T_impl_IsFinite x H fun (r1 : Bool) (H' : AHeap) => K (.bool r1) H') : bodyK Try.prog E_impl_IsFinite Try.f62 [.float .f32 x] H K := by
  rw [impl_IsFinite_vc]
  unfold T_impl_IsFinite p_impl_IsFinite at h
  repeat' (first | exact h | (exfalso; simp_all; done) | (refine ⟨by decide, ?_⟩) | (refine Br.intro (fun hb => ?_) (fun hb => ?_) <;> (try simp only [hb, cond_true, cond_false, Bool.not_true, Bool.not_false] at h)))
theorem impl_IsFinite_ok : FnOk Try.prog 62 S_impl_IsFinite := by
  refine FnOk.body mix_ok E_impl_IsFinite_ok Try.func62 rfl (by kernel_rfl) (by kernel_rfl) ?_ ?_ ?_ ?_ ?_
  · intro args H K K' h hk
    simp only [S_impl_IsFinite] at *
    unfold F_impl_IsFinite at *
    split at hk
    · have k := hk
      exact h _ _ k
    · exact hk.elim
  · intro _ args H K hk
    simp only [S_impl_IsFinite] at *
    unfold F_impl_IsFinite at *
    split at hk
    · have k := hk
      exact ⟨_, k, fun K' k' => k'⟩
    · exact hk.elim
  · intro args H K hk
    simp only [S_impl_IsFinite] at *
    unfold F_impl_IsFinite at *
    split at hk
    · have k := hk
      exact ⟨_, _, k⟩
    · exact hk.elim
  · intro hq; cases hq
  · have mm := @impl_IsFinite_main
    revert mm
    generalize bodyK Try.prog E_impl_IsFinite Try.f62 = Q
    intro mm args H K hk
    simp only [S_impl_IsFinite] at *
    unfold F_impl_IsFinite at *
    split at hk
    · exact mm _ H K hk
    · exact hk.elim
def p_impl_areFinite_l2 (l_lists : List (List Nat)) (t2 : Bool) (t9 : Int) (k2_2 : Bool → Int → Bool) : Nat → Bool → Int → Bool
  | 0, _, _ => false
  | μ2 + 1, t2_2, t15 => (bif decide ((t15 : Int) < ((((l_lists).getD (t9 : Int).toNat [])).length : Int)) then (bif !((p_impl_IsFinite (((((l_lists).getD (t9 : Int).toNat [])).getD (t15 : Int).toNat 0)))) then false else (p_impl_areFinite_l2 l_lists t2 t9 k2_2 μ2 t2_2 (t15 + 1))) else (k2_2 t2_2 t15))
theorem p_impl_areFinite_l2_s (l_lists : List (List Nat)) (t2 : Bool) (t9 : Int) (k2_2 : Bool → Int → Bool) (μ2 : Nat) (t2_2 : Bool) (t15 : Int) : p_impl_areFinite_l2 l_lists t2 t9 k2_2 (μ2 + 1) t2_2 t15 = (bif decide ((t15 : Int) < ((((l_lists).getD (t9 : Int).toNat [])).length : Int)) then (bif !((p_impl_IsFinite (((((l_lists).getD (t9 : Int).toNat [])).getD (t15 : Int).toNat 0)))) then false else (p_impl_areFinite_l2 l_lists t2 t9 k2_2 μ2 t2_2 (t15 + 1))) else (k2_2 t2_2 t15)) := rfl
def p_impl_areFinite_l1 (l_lists : List (List Nat)) : Nat → Bool → Int → Bool
  | 0, _, _ => false
  | μ + 1, t2, t9 => (bif decide ((t9 : Int) < (l_lists.length : Int)) then (p_impl_areFinite_l2 l_lists t2 t9 (fun (t2_2 : Bool) (t15 : Int) => (p_impl_areFinite_l1 l_lists μ t2_2 (t9 + 1))) (Int.toNat (((((l_lists).getD (t9 : Int).toNat [])).length : Int) - (0 : Int)) + 1) t2 (0 : Int)) else true)
theorem p_impl_areFinite_l1_s (l_lists : List (List Nat)) (μ : Nat) (t2 : Bool) (t9 : Int) : p_impl_areFinite_l1 l_lists (μ + 1) t2 t9 = (bif decide ((t9 : Int) < (l_lists.length : Int)) then (p_impl_areFinite_l2 l_lists t2 t9 (fun (t2_2 : Bool) (t15 : Int) => (p_impl_areFinite_l1 l_lists μ t2_2 (t9 + 1))) (Int.toNat (((((l_lists).getD (t9 : Int).toNat [])).length : Int) - (0 : Int)) + 1) t2 (0 : Int)) else true) := rfl
def p_impl_areFinite (l_lists : List (List Nat)) : Bool := (p_impl_areFinite_l1 l_lists (Int.toNat ((l_lists.length : Int) - (0 : Int)) + 1) false (0 : Int))
theorem p_impl_areFinite_eq (l_lists : List (List Nat)) : p_impl_areFinite l_lists = (p_impl_areFinite_l1 l_lists (Int.toNat ((l_lists.length : Int) - (0 : Int)) + 1) false (0 : Int)) := rfl
def T_impl_areFinite (lists_a : Option Addr) (lists_n : Nat) (lists_e : Nat) (H : AHeap) (K : Bool → AHeap → Prop) : Prop := ∃ (l_lists : List (List Nat)), IsLL fF H lists_a lists_n l_lists ∧ l_lists.length < 1073741824 ∧ (∀ y ∈ l_lists, y.length < 1073741824) ∧ K (p_impl_areFinite l_lists) H
theorem T_impl_areFinite_i {lists_a : Option Addr} {lists_n : Nat} {lists_e : Nat} {H : AHeap} {K : Bool → AHeap → Prop} (h : ∃ (l_lists : List (List Nat)), IsLL fF H lists_a lists_n l_lists ∧ l_lists.length < 1073741824 ∧ (∀ y ∈ l_lists, y.length < 1073741824) ∧ K (p_impl_areFinite l_lists) H) : T_impl_areFinite lists_a lists_n lists_e H K := h

/-! impl_areFinite: function 115 -/
def E_impl_areFinite : Env := envOf [(62, S_impl_IsFinite)]
def F_impl_areFinite : List Value → AHeap → (Value → AHeap → Prop) → Prop
  | [.slice lists_a lists_n lists_e], H, K => T_impl_areFinite lists_a lists_n lists_e H fun (r1 : Bool) (H' : AHeap) => K (.bool r1) H'
  | _, _, _ => False
def S_impl_areFinite : FSpec := { F := F_impl_areFinite, quiet := true, tame := false }
theorem impl_areFinite_vc (lists_a : Option Addr) (lists_n : Nat) (lists_e : Nat) (H : AHeap) (K : Value → AHeap → Prop) : bodyK Try.prog E_impl_areFinite Try.f115 [.slice lists_a lists_n lists_e] H K =
  (loopK (exK Try.prog E_impl_areFinite (cl (cl (cr (cl (cr (bodyC Try.f115))))))) [.slice lists_a lists_n lists_e, undef, .bool false, undef, undef, undef, undef, .slice lists_a lists_n lists_e, .int .i64 (lists_n : Int), .int .i64 0, undef, undef, undef, undef, undef, undef, undef, undef, undef, undef, undef, undef, undef, undef] H (blockQ 0 (seqQ (exK Try.prog E_impl_areFinite (cr (cr (bodyC Try.f115)))) (retK Try.prog Try.f115 K)))) := by kernel_rfl
theorem impl_areFinite_r1 (lists_a : Option Addr) (lists_e : Nat) (lists_n : Nat) (t2 : Bool) (t9 : Int) (g4 g6 g10 g11 g12 g13 g14 g15 g16 g17 g18 g19 g20 g21 g22 g23 : Value) (H : AHeap) (R : Post) : exK Try.prog E_impl_areFinite (cl (cl (cr (cl (cr (bodyC Try.f115)))))) [.slice lists_a lists_n lists_e, undef, .bool t2, undef, g4, undef, g6, .slice lists_a lists_n lists_e, .int .i64 (lists_n : Int), .int .i64 t9, g10, g11, g12, g13, g14, g15, g16, g17, g18, g19, g20, g21, g22, g23] H R =
  (Br (decide ((t9 : Int) < (lists_n : Int))) ((0 : Int) ≤ t9 ∧ t9 < (lists_n : Int) ∧ ∃ b1 f1, (lists_a : Option Addr) = some ⟨b1, f1, none⟩ ∧ ∃ x1_a : Option Addr, ∃ x1_n : Nat, ∃ x1_e : Nat,  rdC H b1 (f1 + (t9 : Int).toNat * 1) = some (.slice x1_a x1_n x1_e) ∧ loopK (exK Try.prog E_impl_areFinite (cl (cl (cr (cr (cl (cl (cr (cr (cl (cl (cr (cl (cr (bodyC Try.f115))))))))))))))) [.slice lists_a lists_n lists_e, undef, .bool t2, undef, .slice x1_a x1_n x1_e, undef, g6, .slice lists_a lists_n lists_e, .int .i64 (lists_n : Int), .int .i64 t9, .bool (decide ((t9 : Int) < (lists_n : Int))), .pointer (some ⟨b1, f1 + (t9 : Int).toNat * 1, none⟩), .slice x1_a x1_n x1_e, .slice x1_a x1_n x1_e, .int .i64 (x1_n : Int), .int .i64 0, g16, g17, g18, g19, g20, g21, g22, g23] H (blockQ 2 (blockQ 1 (seqQ (exK Try.prog E_impl_areFinite (cr (cr (cr (cl (cl (cr (cl (cr (bodyC Try.f115)))))))))) (R))))) (R (.exit 0) [.slice lists_a lists_n lists_e, undef, .bool t2, undef, g4, undef, g6, .slice lists_a lists_n lists_e, .int .i64 (lists_n : Int), .int .i64 t9, .bool (decide ((t9 : Int) < (lists_n : Int))), g11, g12, g13, g14, g15, g16, g17, g18, g19, g20, g21, g22, g23] H)) := by kernel_rfl
def impl_areFinite_I1 (lists_a : Option Addr) (lists_e : Nat) (lists_n : Nat) (Inv : Nat → Bool → Int → AHeap → Prop) : Nat → List Value → AHeap → Prop := fun μ tm H => ∃ (t2 : Bool), ∃ (t9 : Int), ∃ g4 g6 g10 g11 g12 g13 g14 g15 g16 g17 g18 g19 g20 g21 g22 g23, tm = [.slice lists_a lists_n lists_e, undef, .bool t2, undef, g4, undef, g6, .slice lists_a lists_n lists_e, .int .i64 (lists_n : Int), .int .i64 t9, g10, g11, g12, g13, g14, g15, g16, g17, g18, g19, g20, g21, g22, g23] ∧ Inv μ t2 t9 H
theorem impl_areFinite_L1 (lists_a : Option Addr) (lists_e : Nat) (lists_n : Nat) {Q : Post} (Inv : Nat → Bool → Int → AHeap → Prop) (ν : Nat) (t2 : Bool) (t9 : Int) (g4 g6 g10 g11 g12 g13 g14 g15 g16 g17 g18 g19 g20 g21 g22 g23 : Value) (H : AHeap) (h0 : Inv ν t2 t9 H)
    (hs : ∀ (μ : Nat) (t2 : Bool) (t9 : Int) (g4 g6 g10 g11 g12 g13 g14 g15 g16 g17 g18 g19 g20 g21 g22 g23 : Value) (H : AHeap), Inv μ t2 t9 H → exK Try.prog E_impl_areFinite (cl (cl (cr (cl (cr (bodyC Try.f115)))))) [.slice lists_a lists_n lists_e, undef, .bool t2, undef, g4, undef, g6, .slice lists_a lists_n lists_e, .int .i64 (lists_n : Int), .int .i64 t9, g10, g11, g12, g13, g14, g15, g16, g17, g18, g19, g20, g21, g22, g23] H (loopQ (impl_areFinite_I1 lists_a lists_e lists_n Inv) μ Q)) : loopK (exK Try.prog E_impl_areFinite (cl (cl (cr (cl (cr (bodyC Try.f115))))))) [.slice lists_a lists_n lists_e, undef, .bool t2, undef, g4, undef, g6, .slice lists_a lists_n lists_e, .int .i64 (lists_n : Int), .int .i64 t9, g10, g11, g12, g13, g14, g15, g16, g17, g18, g19, g20, g21, g22, g23] H Q :=
  ⟨impl_areFinite_I1 lists_a lists_e lists_n Inv, ν, ⟨t2, t9, g4, g6, g10, g11, g12, g13, g14, g15, g16, g17, g18, g19, g20, g21, g22, g23, rfl, h0⟩, fun μ tm H h => by obtain ⟨t2, t9, g4, g6, g10, g11, g12, g13, g14, g15, g16, g17, g18, g19, g20, g21, g22, g23, rfl, hI⟩ := h; exact hs μ t2 t9 g4 g6 g10 g11 g12 g13 g14 g15 g16 g17 g18 g19 g20 g21 g22 g23 H hI⟩
theorem impl_areFinite_n1 {lists_a : Option Addr} {lists_e : Nat} {lists_n : Nat} {Q : Post} {Inv : Nat → Bool → Int → AHeap → Prop} {μ : Nat} (μ' : Nat) {t2 : Bool} {t9 : Int} {g4 g6 g10 g11 g12 g13 g14 g15 g16 g17 g18 g19 g20 g21 g22 g23 : Value} {H : AHeap} (hm : μ' < μ) (hI : Inv μ' t2 t9 H) : loopQ (impl_areFinite_I1 lists_a lists_e lists_n Inv) μ Q .normal [.slice lists_a lists_n lists_e, undef, .bool t2, undef, g4, undef, g6, .slice lists_a lists_n lists_e, .int .i64 (lists_n : Int), .int .i64 t9, g10, g11, g12, g13, g14, g15, g16, g17, g18, g19, g20, g21, g22, g23] H := ⟨μ', hm, t2, t9, g4, g6, g10, g11, g12, g13, g14, g15, g16, g17, g18, g19, g20, g21, g22, g23, rfl, hI⟩
theorem impl_areFinite_x1_0 (lists_a : Option Addr) (lists_e : Nat) (lists_n : Nat) (t2 : Bool) (t9 : Int) (g4 g6 g10 g11 g12 g13 g14 g15 g16 g17 g18 g19 g20 g21 g22 g23 : Value) (H : AHeap) (K : Value → AHeap → Prop)  {I : Nat → List Value → AHeap → Prop} {μ : Nat} : loopQ I μ (blockQ 0 (seqQ (exK Try.prog E_impl_areFinite (cr (cr (bodyC Try.f115)))) (retK Try.prog Try.f115 K))) (.exit 0) [.slice lists_a lists_n lists_e, undef, .bool t2, undef, g4, undef, g6, .slice lists_a lists_n lists_e, .int .i64 (lists_n : Int), .int .i64 t9, g10, g11, g12, g13, g14, g15, g16, g17, g18, g19, g20, g21, g22, g23] H =
  (K (.bool true) H) := by kernel_rfl
theorem impl_areFinite_x1_ret (lists_a : Option Addr) (lists_e : Nat) (lists_n : Nat) (t2 : Bool) (t9 : Int) (g4 g6 g10 g11 g12 g13 g14 g15 g16 g17 g18 g19 g20 g21 g22 g23 : Value) (H : AHeap) (K : Value → AHeap → Prop)  {I : Nat → List Value → AHeap → Prop} {μ : Nat} : loopQ I μ (blockQ 0 (seqQ (exK Try.prog E_impl_areFinite (cr (cr (bodyC Try.f115)))) (retK Try.prog Try.f115 K))) .ret [.slice lists_a lists_n lists_e, undef, .bool t2, undef, g4, undef, g6, .slice lists_a lists_n lists_e, .int .i64 (lists_n : Int), .int .i64 t9, g10, g11, g12, g13, g14, g15, g16, g17, g18, g19, g20, g21, g22, g23] H =
  (K (.bool t2) H) := by kernel_rfl
theorem impl_areFinite_r2 (b1 : Nat) (f1 : Nat) (g23 : Value) (lists_a : Option Addr) (lists_e : Nat) (lists_n : Nat) (t9 : Int) (x1_a : Option Addr) (x1_e : Nat) (x1_n : Nat) (t2_2 : Bool) (t15 : Int) (g6 g16 g17 g18 g19 g20 g21 g22 : Value) (H : AHeap) (R : Post) : exK Try.prog E_impl_areFinite (cl (cl (cr (cr (cl (cl (cr (cr (cl (cl (cr (cl (cr (bodyC Try.f115)))))))))))))) [.slice lists_a lists_n lists_e, undef, .bool t2_2, undef, .slice x1_a x1_n x1_e, undef, g6, .slice lists_a lists_n lists_e, .int .i64 (lists_n : Int), .int .i64 t9, .bool (decide ((t9 : Int) < (lists_n : Int))), .pointer (some ⟨b1, f1 + (t9 : Int).toNat * 1, none⟩), .slice x1_a x1_n x1_e, .slice x1_a x1_n x1_e, .int .i64 (x1_n : Int), .int .i64 t15, g16, g17, g18, g19, g20, g21, g22, g23] H R =
  (Br (decide ((t15 : Int) < (x1_n : Int))) ((0 : Int) ≤ t15 ∧ t15 < (x1_n : Int) ∧ ∃ b2 f2, (x1_a : Option Addr) = some ⟨b2, f2, none⟩ ∧ ∃ x2 : Nat,  rdC H b2 (f2 + (t15 : Int).toNat * 1) = some (.float .f32 x2) ∧ T_impl_IsFinite x2 H fun (r1 : Bool) (H1 : AHeap) => Br (!r1) (R .ret [.slice lists_a lists_n lists_e, undef, .bool false, undef, .slice x1_a x1_n x1_e, undef, .float .f32 x2, .slice lists_a lists_n lists_e, .int .i64 (lists_n : Int), .int .i64 t9, .bool (decide ((t9 : Int) < (lists_n : Int))), .pointer (some ⟨b1, f1 + (t9 : Int).toNat * 1, none⟩), .slice x1_a x1_n x1_e, .slice x1_a x1_n x1_e, .int .i64 (x1_n : Int), .int .i64 t15, .bool (decide ((t15 : Int) < (x1_n : Int))), .pointer (some ⟨b2, f2 + (t15 : Int).toNat * 1, none⟩), .float .f32 x2, .float .f32 x2, .bool r1, .bool (!r1), g22, g23] H1) (R .normal [.slice lists_a lists_n lists_e, undef, .bool t2_2, undef, .slice x1_a x1_n x1_e, undef, .float .f32 x2, .slice lists_a lists_n lists_e, .int .i64 (lists_n : Int), .int .i64 t9, .bool (decide ((t9 : Int) < (lists_n : Int))), .pointer (some ⟨b1, f1 + (t9 : Int).toNat * 1, none⟩), .slice x1_a x1_n x1_e, .slice x1_a x1_n x1_e, .int .i64 (x1_n : Int), .int .i64 (IntKind.wrap .i64 (t15 + 1)), .bool (decide ((t15 : Int) < (x1_n : Int))), .pointer (some ⟨b2, f2 + (t15 : Int).toNat * 1, none⟩), .float .f32 x2, .float .f32 x2, .bool r1, .bool (!r1), .int .i64 (IntKind.wrap .i64 (t15 + 1)), g23] H1)) (R (.exit 2) [.slice lists_a lists_n lists_e, undef, .bool t2_2, undef, .slice x1_a x1_n x1_e, undef, g6, .slice lists_a lists_n lists_e, .int .i64 (lists_n : Int), .int .i64 t9, .bool (decide ((t9 : Int) < (lists_n : Int))), .pointer (some ⟨b1, f1 + (t9 : Int).toNat * 1, none⟩), .slice x1_a x1_n x1_e, .slice x1_a x1_n x1_e, .int .i64 (x1_n : Int), .int .i64 t15, .bool (decide ((t15 : Int) < (x1_n : Int))), g17, g18, g19, g20, g21, g22, g23] H)) := by kernel_rfl
def impl_areFinite_I2 (b1 : Nat) (f1 : Nat) (g23 : Value) (lists_a : Option Addr) (lists_e : Nat) (lists_n : Nat) (t9 : Int) (x1_a : Option Addr) (x1_e : Nat) (x1_n : Nat) (Inv : Nat → Bool → Int → AHeap → Prop) : Nat → List Value → AHeap → Prop := fun μ tm H => ∃ (t2_2 : Bool), ∃ (t15 : Int), ∃ g6 g16 g17 g18 g19 g20 g21 g22, tm = [.slice lists_a lists_n lists_e, undef, .bool t2_2, undef, .slice x1_a x1_n x1_e, undef, g6, .slice lists_a lists_n lists_e, .int .i64 (lists_n : Int), .int .i64 t9, .bool (decide ((t9 : Int) < (lists_n : Int))), .pointer (some ⟨b1, f1 + (t9 : Int).toNat * 1, none⟩), .slice x1_a x1_n x1_e, .slice x1_a x1_n x1_e, .int .i64 (x1_n : Int), .int .i64 t15, g16, g17, g18, g19, g20, g21, g22, g23] ∧ Inv μ t2_2 t15 H
theorem impl_areFinite_L2 (b1 : Nat) (f1 : Nat) (g23 : Value) (lists_a : Option Addr) (lists_e : Nat) (lists_n : Nat) (t9 : Int) (x1_a : Option Addr) (x1_e : Nat) (x1_n : Nat) {Q : Post} (Inv : Nat → Bool → Int → AHeap → Prop) (ν : Nat) (t2_2 : Bool) (t15 : Int) (g6 g16 g17 g18 g19 g20 g21 g22 : Value) (H : AHeap) (h0 : Inv ν t2_2 t15 H)
    (hs : ∀ (μ : Nat) (t2_2 : Bool) (t15 : Int) (g6 g16 g17 g18 g19 g20 g21 g22 : Value) (H : AHeap), Inv μ t2_2 t15 H → exK Try.prog E_impl_areFinite (cl (cl (cr (cr (cl (cl (cr (cr (cl (cl (cr (cl (cr (bodyC Try.f115)))))))))))))) [.slice lists_a lists_n lists_e, undef, .bool t2_2, undef, .slice x1_a x1_n x1_e, undef, g6, .slice lists_a lists_n lists_e, .int .i64 (lists_n : Int), .int .i64 t9, .bool (decide ((t9 : Int) < (lists_n : Int))), .pointer (some ⟨b1, f1 + (t9 : Int).toNat * 1, none⟩), .slice x1_a x1_n x1_e, .slice x1_a x1_n x1_e, .int .i64 (x1_n : Int), .int .i64 t15, g16, g17, g18, g19, g20, g21, g22, g23] H (loopQ (impl_areFinite_I2 b1 f1 g23 lists_a lists_e lists_n t9 x1_a x1_e x1_n Inv) μ Q)) : loopK (exK Try.prog E_impl_areFinite (cl (cl (cr (cr (cl (cl (cr (cr (cl (cl (cr (cl (cr (bodyC Try.f115))))))))))))))) [.slice lists_a lists_n lists_e, undef, .bool t2_2, undef, .slice x1_a x1_n x1_e, undef, g6, .slice lists_a lists_n lists_e, .int .i64 (lists_n : Int), .int .i64 t9, .bool (decide ((t9 : Int) < (lists_n : Int))), .pointer (some ⟨b1, f1 + (t9 : Int).toNat * 1, none⟩), .slice x1_a x1_n x1_e, .slice x1_a x1_n x1_e, .int .i64 (x1_n : Int), .int .i64 t15, g16, g17, g18, g19, g20, g21, g22, g23] H Q :=
  ⟨impl_areFinite_I2 b1 f1 g23 lists_a lists_e lists_n t9 x1_a x1_e x1_n Inv, ν, ⟨t2_2, t15, g6, g16, g17, g18, g19, g20, g21, g22, rfl, h0⟩, fun μ tm H h => by obtain ⟨t2_2, t15, g6, g16, g17, g18, g19, g20, g21, g22, rfl, hI⟩ := h; exact hs μ t2_2 t15 g6 g16 g17 g18 g19 g20 g21 g22 H hI⟩
theorem impl_areFinite_n2 {b1 : Nat} {f1 : Nat} {g23 : Value} {lists_a : Option Addr} {lists_e : Nat} {lists_n : Nat} {t9 : Int} {x1_a : Option Addr} {x1_e : Nat} {x1_n : Nat} {Q : Post} {Inv : Nat → Bool → Int → AHeap → Prop} {μ : Nat} (μ' : Nat) {t2_2 : Bool} {t15 : Int} {g6 g16 g17 g18 g19 g20 g21 g22 : Value} {H : AHeap} (hm : μ' < μ) (hI : Inv μ' t2_2 t15 H) : loopQ (impl_areFinite_I2 b1 f1 g23 lists_a lists_e lists_n t9 x1_a x1_e x1_n Inv) μ Q .normal [.slice lists_a lists_n lists_e, undef, .bool t2_2, undef, .slice x1_a x1_n x1_e, undef, g6, .slice lists_a lists_n lists_e, .int .i64 (lists_n : Int), .int .i64 t9, .bool (decide ((t9 : Int) < (lists_n : Int))), .pointer (some ⟨b1, f1 + (t9 : Int).toNat * 1, none⟩), .slice x1_a x1_n x1_e, .slice x1_a x1_n x1_e, .int .i64 (x1_n : Int), .int .i64 t15, g16, g17, g18, g19, g20, g21, g22, g23] H := ⟨μ', hm, t2_2, t15, g6, g16, g17, g18, g19, g20, g21, g22, rfl, hI⟩
theorem impl_areFinite_x2_2 (b1 : Nat) (f1 : Nat) (g23 : Value) (lists_a : Option Addr) (lists_e : Nat) (lists_n : Nat) (t9 : Int) (x1_a : Option Addr) (x1_e : Nat) (x1_n : Nat) (t2_2 : Bool) (t15 : Int) (g6 g16 g17 g18 g19 g20 g21 g22 : Value) (H : AHeap)  (R : Post) {I : Nat → List Value → AHeap → Prop} {μ : Nat} : loopQ I μ (blockQ 2 (blockQ 1 (seqQ (exK Try.prog E_impl_areFinite (cr (cr (cr (cl (cl (cr (cl (cr (bodyC Try.f115)))))))))) (R)))) (.exit 2) [.slice lists_a lists_n lists_e, undef, .bool t2_2, undef, .slice x1_a x1_n x1_e, undef, g6, .slice lists_a lists_n lists_e, .int .i64 (lists_n : Int), .int .i64 t9, .bool (decide ((t9 : Int) < (lists_n : Int))), .pointer (some ⟨b1, f1 + (t9 : Int).toNat * 1, none⟩), .slice x1_a x1_n x1_e, .slice x1_a x1_n x1_e, .int .i64 (x1_n : Int), .int .i64 t15, g16, g17, g18, g19, g20, g21, g22, g23] H =
  (R .normal [.slice lists_a lists_n lists_e, undef, .bool t2_2, undef, .slice x1_a x1_n x1_e, undef, g6, .slice lists_a lists_n lists_e, .int .i64 (lists_n : Int), .int .i64 (IntKind.wrap .i64 (t9 + 1)), .bool (decide ((t9 : Int) < (lists_n : Int))), .pointer (some ⟨b1, f1 + (t9 : Int).toNat * 1, none⟩), .slice x1_a x1_n x1_e, .slice x1_a x1_n x1_e, .int .i64 (x1_n : Int), .int .i64 t15, g16, g17, g18, g19, g20, g21, g22, .int .i64 (IntKind.wrap .i64 (t9 + 1))] H) := by kernel_rfl
theorem impl_areFinite_x2_ret (b1 : Nat) (f1 : Nat) (g23 : Value) (lists_a : Option Addr) (lists_e : Nat) (lists_n : Nat) (t9 : Int) (x1_a : Option Addr) (x1_e : Nat) (x1_n : Nat) (t2_2 : Bool) (t15 : Int) (g6 g16 g17 g18 g19 g20 g21 g22 : Value) (H : AHeap)  (R : Post) {I : Nat → List Value → AHeap → Prop} {μ : Nat} : loopQ I μ (blockQ 2 (blockQ 1 (seqQ (exK Try.prog E_impl_areFinite (cr (cr (cr (cl (cl (cr (cl (cr (bodyC Try.f115)))))))))) (R)))) .ret [.slice lists_a lists_n lists_e, undef, .bool t2_2, undef, .slice x1_a x1_n x1_e, undef, g6, .slice lists_a lists_n lists_e, .int .i64 (lists_n : Int), .int .i64 t9, .bool (decide ((t9 : Int) < (lists_n : Int))), .pointer (some ⟨b1, f1 + (t9 : Int).toNat * 1, none⟩), .slice x1_a x1_n x1_e, .slice x1_a x1_n x1_e, .int .i64 (x1_n : Int), .int .i64 t15, g16, g17, g18, g19, g20, g21, g22, g23] H =
  (R .ret [.slice lists_a lists_n lists_e, undef, .bool t2_2, undef, .slice x1_a x1_n x1_e, undef, g6, .slice lists_a lists_n lists_e, .int .i64 (lists_n : Int), .int .i64 t9, .bool (decide ((t9 : Int) < (lists_n : Int))), .pointer (some ⟨b1, f1 + (t9 : Int).toNat * 1, none⟩), .slice x1_a x1_n x1_e, .slice x1_a x1_n x1_e, .int .i64 (x1_n : Int), .int .i64 t15, g16, g17, g18, g19, g20, g21, g22, g23] H) := by kernel_rfl
theorem E_impl_areFinite_ok : ∀ g, FnOk Try.prog g (E_impl_areFinite g) := FnOk.envOf (by
  intro x hx
  simp only [List.mem_cons, List.not_mem_nil, or_false] at hx
  subst hx; exact impl_IsFinite_ok)
set_option maxHeartbeats 1000000 in
theorem impl_areFinite_main (lists_a : Option Addr) (lists_n : Nat) (lists_e : Nat) (H : AHeap) (K : Value → AHeap → Prop) (h : T_impl_areFinite lists_a lists_n lists_e H fun (r1 : Bool) (H' : AHeap) => K (.bool r1) H') : bodyK Try.prog E_impl_areFinite Try.f115 [.slice lists_a lists_n lists_e] H K := by
  rw [impl_areFinite_vc]
  obtain ⟨l_lists, i_lists, bd_22, bb_l_lists, hk⟩ := h
  obtain rfl := i_lists.eqn
  have e : (p_impl_areFinite l_lists) = _ := rfl
  have e := e.trans (p_impl_areFinite_eq l_lists)
  have g0 := Grow.refl H
  refine impl_areFinite_L1 _ _ _ (fun (μ : Nat) (t2 : Bool) (t9 : Int) (H_1 : AHeap) => H = H_1 ∧ (0 : Int) ≤ t9 ∧ t9 ≤ (l_lists.length : Int) ∧ (l_lists.length : Int) - t9 ≤ (μ : Int) ∧ p_impl_areFinite l_lists = p_impl_areFinite_l1 l_lists (μ + 1) t2 t9) (Int.toNat ((l_lists.length : Int) - (0 : Int))) _ _ _ _ _ _ _ _ _ _ _ _ _ _ _ _ _ _ H ?_ ?_
  · exact ⟨rfl, (by first | omega | (simp; done) | (simp; omega)), (by first | omega | (simp; done) | (simp; omega)), (by omega), e⟩
  · intro μ t2 t9 g4 g6 g10 g11 g12 g13 g14 g15 g16 g17 g18 g19 g20 g21 g22 g23 H_1 hI
    obtain ⟨rfl, v_1, v_2, hμ, e⟩ := hI
    rw [impl_areFinite_r1]
    have e := e.trans (p_impl_areFinite_l1_s l_lists μ t2 t9)
    have l_3 := g0.1
    refine Br.intro (fun c_4 => ?_) (fun c_4 => ?_)
    · have e := e.trans (cond_t c_4)
      have c_4' := of_decide_eq_true c_4
      obtain ⟨b_5, f_6, q_7⟩ := ((i_lists.grow g0)).pos (by first | omega | (simp only [List.length_set, List.length_replicate, List.length_append, List.length_cons, List.length_nil, List.length_take, List.length_drop, marks_length]; done) | (simp only [List.length_set, List.length_replicate, List.length_append, List.length_cons, List.length_nil, List.length_take, List.length_drop, marks_length]; omega))
      refine ⟨by omega, by omega, b_5, f_6, q_7, ?_⟩
      obtain ⟨a_8, n_9, e_10, r_11, i_12⟩ := (i_lists).rd (i := (t9 : Int).toNat) g0 q_7 (by omega)
      obtain rfl := i_12.eqn
      refine ⟨a_8, _, e_10, r_11, ?_⟩
      have z_13 := getD_len bb_l_lists (t9 : Int).toNat
      refine impl_areFinite_L2 _ _ _ _ _ _ _ _ _ _ (fun (μ2 : Nat) (t2_2 : Bool) (t15 : Int) (H_2 : AHeap) => H = H_2 ∧ (0 : Int) ≤ t15 ∧ t15 ≤ ((((l_lists).getD (t9 : Int).toNat [])).length : Int) ∧ ((((l_lists).getD (t9 : Int).toNat [])).length : Int) - t15 ≤ (μ2 : Int) ∧ p_impl_areFinite l_lists = p_impl_areFinite_l2 l_lists t2 t9 (fun (t2_2 : Bool) (t15 : Int) => (p_impl_areFinite_l1 l_lists μ t2_2 (t9 + 1))) (μ2 + 1) t2_2 t15) (Int.toNat (((((l_lists).getD (t9 : Int).toNat [])).length : Int) - (0 : Int))) _ _ _ _ _ _ _ _ _ _ H ?_ ?_
      · exact ⟨rfl, (by first | omega | (simp; done) | (simp; omega)), (by first | omega | (simp; done) | (simp; omega)), (by omega), e⟩
      · intro μ2 t2_2 t15 g6 g16 g17 g18 g19 g20 g21 g22 H_2 hI
        obtain ⟨rfl, v_14, v_15, hμ, e⟩ := hI
        rw [impl_areFinite_r2]
        have e := e.trans (p_impl_areFinite_l2_s l_lists t2 t9 (fun (t2_2 : Bool) (t15 : Int) => (p_impl_areFinite_l1 l_lists μ t2_2 (t9 + 1))) μ2 t2_2 t15)
        have l_16 := g0.1
        refine Br.intro (fun c_17 => ?_) (fun c_17 => ?_)
        · have e := e.trans (cond_t c_17)
          have c_17' := of_decide_eq_true c_17
          obtain ⟨b_18, f_19, q_20⟩ := ((i_12.grow g0)).pos (by first | omega | (simp only [List.length_set, List.length_replicate, List.length_append, List.length_cons, List.length_nil, List.length_take, List.length_drop, marks_length]; done) | (simp only [List.length_set, List.length_replicate, List.length_append, List.length_cons, List.length_nil, List.length_take, List.length_drop, marks_length]; omega))
          refine ⟨by omega, by omega, b_18, f_19, q_20, ?_⟩
          refine ⟨((((l_lists).getD (t9 : Int).toNat [])).getD (t15 : Int).toNat 0), (i_12).rd g0 q_20 (by omega) _, ?_⟩
          refine T_impl_IsFinite_i ?_
          refine Br.intro (fun c_21 => ?_) (fun c_21 => ?_)
          · have e := e.trans (cond_t c_21)
            have c_21n := nf_of_t c_21
            rw [impl_areFinite_x2_ret]
            rw [impl_areFinite_x1_ret]
            rw [e] at hk
            exact hk
          · have e := e.trans (cond_f c_21)
            have c_21n := nt_of_f c_21
            rw [show IntKind.wrap .i64 (t15 + 1) = (t15 + 1) from wrap64 (by omega) (by omega)]
            refine impl_areFinite_n2 (μ2 - 1) (by first | omega) ⟨rfl, (by first | omega | (simp only [List.length_append, List.length_cons, List.length_nil, List.length_set]; done) | (simp only [List.length_append, List.length_cons, List.length_nil, List.length_set]; omega)), (by first | omega | (simp only [List.length_append, List.length_cons, List.length_nil, List.length_set]; done) | (simp only [List.length_append, List.length_cons, List.length_nil, List.length_set]; omega)), (by first | omega), (by rw [show μ2 - 1 + 1 = μ2 from by first | omega]; exact e)⟩
        · have e := e.trans (cond_f c_17)
          have c_17' := of_decide_eq_false c_17
          rw [impl_areFinite_x2_2]
          rw [show IntKind.wrap .i64 (t9 + 1) = (t9 + 1) from wrap64 (by omega) (by omega)]
          refine impl_areFinite_n1 (μ - 1) (by first | omega) ⟨rfl, (by first | omega | (simp only [List.length_append, List.length_cons, List.length_nil, List.length_set]; done) | (simp only [List.length_append, List.length_cons, List.length_nil, List.length_set]; omega)), (by first | omega | (simp only [List.length_append, List.length_cons, List.length_nil, List.length_set]; done) | (simp only [List.length_append, List.length_cons, List.length_nil, List.length_set]; omega)), (by first | omega), (by rw [show μ - 1 + 1 = μ from by first | omega]; exact e)⟩
    · have e := e.trans (cond_f c_4)
      have c_4' := of_decide_eq_false c_4
      rw [impl_areFinite_x1_0]
      rw [e] at hk
      exact hk
theorem impl_areFinite_ok : FnOk Try.prog 115 S_impl_areFinite := by
  refine FnOk.body mix_ok E_impl_areFinite_ok Try.func115 rfl (by kernel_rfl) (by kernel_rfl) ?_ ?_ ?_ ?_ ?_
  · intro args H K K' h hk
    simp only [S_impl_areFinite] at *
    unfold F_impl_areFinite at *
    split at hk
    · obtain ⟨l_lists, i_lists, bd_22, bb_l_lists, k⟩ := hk
      exact ⟨l_lists, i_lists, bd_22, bb_l_lists, h _ _ k⟩
    · exact hk.elim
  · intro _ args H K hk
    simp only [S_impl_areFinite] at *
    unfold F_impl_areFinite at *
    split at hk
    · obtain ⟨l_lists, i_lists, bd_22, bb_l_lists, k⟩ := hk
      exact ⟨_, k, fun K' k' => ⟨l_lists, i_lists, bd_22, bb_l_lists, k'⟩⟩
    · exact hk.elim
  · intro args H K hk
    simp only [S_impl_areFinite] at *
    unfold F_impl_areFinite at *
    split at hk
    · obtain ⟨l_lists, i_lists, bd_22, bb_l_lists, k⟩ := hk
      exact ⟨_, _, k⟩
    · exact hk.elim
  · intro hq; cases hq
  · have mm := @impl_areFinite_main
    revert mm
    generalize bodyK Try.prog E_impl_areFinite Try.f115 = Q
    intro mm args H K hk
    simp only [S_impl_areFinite] at *
    unfold F_impl_areFinite at *
    split at hk
    · exact mm _ _ _ H K hk
    · exact hk.elim
def p_impl_isLong (l_list : List Nat) : Bool := (bif (p_impl_within (l_list.length : Int) (1 : Int) (128 : Int)) then (p_impl_areFinite ([l_list])) else false)
theorem p_impl_isLong_eq (l_list : List Nat) : p_impl_isLong l_list = (bif (p_impl_within (l_list.length : Int) (1 : Int) (128 : Int)) then (p_impl_areFinite ([l_list])) else false) := rfl
def T_impl_isLong (list_a : Option Addr) (list_n : Nat) (list_e : Nat) (H : AHeap) (K : Bool → AHeap → Prop) : Prop := ∃ (l_list : List Nat), IsL fF H list_a list_n l_list ∧ l_list.length < 1073741824 ∧ ((∀ H' : AHeap, Grow H H' → K (p_impl_isLong l_list) H'))
theorem T_impl_isLong_i {list_a : Option Addr} {list_n : Nat} {list_e : Nat} {H : AHeap} {K : Bool → AHeap → Prop} (h : ∃ (l_list : List Nat), IsL fF H list_a list_n l_list ∧ l_list.length < 1073741824 ∧ ((∀ H' : AHeap, Grow H H' → K (p_impl_isLong l_list) H'))) : T_impl_isLong list_a list_n list_e H K := h
theorem impl_isLong_t {l : List Nat} (h : p_impl_isLong l = true) : 1 ≤ (l.length : Int) ∧ (l.length : Int) ≤ 128 := by
  rw [p_impl_isLong_eq] at h
  cases h1 : p_impl_within (l.length : Int) 1 128
  · rw [h1] at h; cases h
  · exact impl_within_t h1
/-! impl_isLong: function 61 -/
def E_impl_isLong : Env := envOf [(72, S_impl_within), (115, S_impl_areFinite)]
def F_impl_isLong : List Value → AHeap → (Value → AHeap → Prop) → Prop
  | [.slice list_a list_n list_e], H, K => T_impl_isLong list_a list_n list_e H fun (r1 : Bool) (H' : AHeap) => K (.bool r1) H'
  | _, _, _ => False
def S_impl_isLong : FSpec := { F := F_impl_isLong, quiet := false, tame := true }
theorem impl_isLong_vc (list_a : Option Addr) (list_n : Nat) (list_e : Nat) (H : AHeap) (K : Value → AHeap → Prop) : bodyK Try.prog E_impl_isLong Try.f61 [.slice list_a list_n list_e] H K =
  (T_impl_within (list_n : Int) 1 128 H fun (r1 : Bool) (H1 : AHeap) => Br r1 (Al [.slice list_a list_n list_e] H1 fun b1 H2 => T_impl_areFinite (some ⟨b1, 0, none⟩) 1 1 H2 fun (r2 : Bool) (H3 : AHeap) => K (.bool r2) H3) (K (.bool false) H1)) := by kernel_rfl
theorem E_impl_isLong_ok : ∀ g, FnOk Try.prog g (E_impl_isLong g) := FnOk.envOf (by
  intro x hx
  simp only [List.mem_cons, List.not_mem_nil, or_false] at hx
  rcases hx with rfl | rfl
  · exact impl_within_ok
  · exact impl_areFinite_ok)
set_option maxHeartbeats 1000000 in
theorem impl_isLong_main (list_a : Option Addr) (list_n : Nat) (list_e : Nat) (H : AHeap) (K : Value → AHeap → Prop) (h : T_impl_isLong list_a list_n list_e H fun (r1 : Bool) (H' : AHeap) => K (.bool r1) H') : bodyK Try.prog E_impl_isLong Try.f61 [.slice list_a list_n list_e] H K := by
  rw [impl_isLong_vc]
  obtain ⟨l_list, i_list, bd_12, hk⟩ := h
  obtain rfl := i_list.eqn
  have e : (p_impl_isLong l_list) = _ := rfl
  have e := e.trans (p_impl_isLong_eq l_list)
  have g0 := Grow.refl H
  refine T_impl_within_i ?_
  refine Br.intro (fun c_1 => ?_) (fun c_1 => ?_)
  · have e := e.trans (cond_t c_1)
    have c_1' := impl_within_t c_1
    refine Al.intro (fun b_2 H_1 hb_3 hl_4 g_5 o_6 => ?_)
    have l_8 := g_5.1
    have g_9 := g0.trans g_5
    have l_10 := g_9.1
    have w_11 := o_6.lt
    refine T_impl_areFinite_i ⟨[l_list], ⟨_, o_6.rdAll rfl, LLc.cons (i_list.grow g_9) (LLc.nil _ _)⟩, (by first | omega | (simp only [List.length_set, List.length_replicate, List.length_append, List.length_cons, List.length_nil, List.length_take, List.length_drop, marks_length]; done) | (simp only [List.length_set, List.length_replicate, List.length_append, List.length_cons, List.length_nil, List.length_take, List.length_drop, marks_length]; omega)), (by first | assumption | (intro y hy; simp only [List.mem_cons, List.not_mem_nil, or_false] at hy; first | omega | (subst hy; omega) | (rcases hy with rfl | rfl <;> omega) | (rcases hy with rfl | rfl | rfl <;> omega))), ?_⟩
    rw [e] at hk
    exact hk  H_1 g_9 
  · have e := e.trans (cond_f c_1)
    rw [e] at hk
    exact hk  H g0 
theorem impl_isLong_ok : FnOk Try.prog 61 S_impl_isLong := by
  refine FnOk.body mix_ok E_impl_isLong_ok Try.func61 rfl (by kernel_rfl) (by kernel_rfl) ?_ ?_ ?_ ?_ ?_
  · intro args H K K' h hk
    simp only [S_impl_isLong] at *
    unfold F_impl_isLong at *
    split at hk
    · obtain ⟨l_list, i_list, bd_12, k⟩ := hk
      exact ⟨l_list, i_list, bd_12, (fun  H' gg  => h _ _ (k  H' gg ))⟩
    · exact hk.elim
  · intro hq; cases hq
  · intro args H K hk
    simp only [S_impl_isLong] at *
    unfold F_impl_isLong at *
    split at hk
    · obtain ⟨l_list, i_list, bd_12, k⟩ := hk
      exact ⟨_, _, k H (Grow.refl H)⟩
    · exact hk.elim
  · intro _ args H K hk
    simp only [S_impl_isLong] at *
    unfold F_impl_isLong at *
    split at hk
    · obtain ⟨l_list, i_list, bd_12, k⟩ := hk
      exact ⟨l_list, i_list, bd_12, (fun  H' gg  => ⟨gg, k  H' gg ⟩)⟩
    · exact hk.elim
  · have mm := @impl_isLong_main
    revert mm
    generalize bodyK Try.prog E_impl_isLong Try.f61 = Q
    intro mm args H K hk
    simp only [S_impl_isLong] at *
    unfold F_impl_isLong at *
    split at hk
    · exact mm _ _ _ H K hk
    · exact hk.elim
def p_impl_isOver (x : Nat) : Bool := (bif (p_impl_IsFinite x) then flt .f32 0 x else false)
theorem p_impl_isOver_eq (x : Nat) : p_impl_isOver x = (bif (p_impl_IsFinite x) then flt .f32 0 x else false) := rfl
def T_impl_isOver (x : Nat) (H : AHeap) (K : Bool → AHeap → Prop) : Prop := K (p_impl_isOver x) H

theorem T_impl_isOver_i {x : Nat} {H : AHeap} {K : Bool → AHeap → Prop} (h : K (p_impl_isOver x) H) : T_impl_isOver x H K := h
/-! impl_isOver: function 63 -/
def E_impl_isOver : Env := envOf [(62, S_impl_IsFinite)]
def F_impl_isOver : List Value → AHeap → (Value → AHeap → Prop) → Prop
  | [.float .f32 x], H, K => T_impl_isOver x H fun (r1 : Bool) (H' : AHeap) => K (.bool r1) H'
  | _, _, _ => False
def S_impl_isOver : FSpec := { F := F_impl_isOver, quiet := true, tame := false }
theorem impl_isOver_vc (x : Nat) (H : AHeap) (K : Value → AHeap → Prop) : bodyK Try.prog E_impl_isOver Try.f63 [.float .f32 x] H K =
  (T_impl_IsFinite x H fun (r1 : Bool) (H1 : AHeap) => Br r1 (K (.bool (flt .f32 0 x)) H1) (K (.bool false) H1)) := by kernel_rfl
theorem E_impl_isOver_ok : ∀ g, FnOk Try.prog g (E_impl_isOver g) := FnOk.envOf (by
  intro x hx
  simp only [List.mem_cons, List.not_mem_nil, or_false] at hx
  subst hx; exact impl_IsFinite_ok)
set_option maxHeartbeats 1000000 in
theorem impl_isOver_main (x : Nat) (H : AHeap) (K : Value → AHeap → Prop) (h : T_impl_isOver x H fun (r1 : Bool) (H' : AHeap) => K (.bool r1) H') : bodyK Try.prog E_impl_isOver Try.f63 [.float .f32 x] H K := by
  rw [impl_isOver_vc]
  simp only [T_impl_IsFinite]
  unfold T_impl_isOver p_impl_isOver at h
  repeat' (first | exact h | (exfalso; simp_all; done) | (refine ⟨by decide, ?_⟩) | (refine Br.intro (fun hb => ?_) (fun hb => ?_) <;> (try simp only [hb, cond_true, cond_false, Bool.not_true, Bool.not_false] at h)))
theorem impl_isOver_ok : FnOk Try.prog 63 S_impl_isOver := by
  refine FnOk.body mix_ok E_impl_isOver_ok Try.func63 rfl (by kernel_rfl) (by kernel_rfl) ?_ ?_ ?_ ?_ ?_
  · intro args H K K' h hk
    simp only [S_impl_isOver] at *
    unfold F_impl_isOver at *
    split at hk
    · have k := hk
      exact h _ _ k
    · exact hk.elim
  · intro _ args H K hk
    simp only [S_impl_isOver] at *
    unfold F_impl_isOver at *
    split at hk
    · have k := hk
      exact ⟨_, k, fun K' k' => k'⟩
    · exact hk.elim
  · intro args H K hk
    simp only [S_impl_isOver] at *
    unfold F_impl_isOver at *
    split at hk
    · have k := hk
      exact ⟨_, _, k⟩
    · exact hk.elim
  · intro hq; cases hq
  · have mm := @impl_isOver_main
    revert mm
    generalize bodyK Try.prog E_impl_isOver Try.f63 = Q
    intro mm args H K hk
    simp only [S_impl_isOver] at *
    unfold F_impl_isOver at *
    split at hk
    · exact mm _ H K hk
    · exact hk.elim
def p_impl_expWide_l2 (x : Nat) (p : Nat) (k : Nat) (k2_3 : Nat → Int → Nat) : Nat → Nat → Int → Nat
  | 0, _, _ => 0
  | μ2 + 1, p_4, t25 => (bif decide ((t25 : Int) < 8) then (p_impl_expWide_l2 x p k k2_3 μ2 (fmul .f64 p_4 p_4) (t25 + 1)) else (k2_3 p_4 t25))
theorem p_impl_expWide_l2_s (x : Nat) (p : Nat) (k : Nat) (k2_3 : Nat → Int → Nat) (μ2 : Nat) (p_4 : Nat) (t25 : Int) : p_impl_expWide_l2 x p k k2_3 (μ2 + 1) p_4 t25 = (bif decide ((t25 : Int) < 8) then (p_impl_expWide_l2 x p k k2_3 μ2 (fmul .f64 p_4 p_4) (t25 + 1)) else (k2_3 p_4 t25)) := rfl
def p_impl_expWide_l1 (x : Nat) : Nat → Nat → Nat → Nat
  | 0, _, _ => 0
  | μ + 1, p, k => (bif fle .f64 4607182418800017408 k then (p_impl_expWide_l1 x μ (fadd .f64 4607182418800017408 (fdiv .f64 (fmul .f64 (fdiv .f64 x 4643211215818981376) p) k)) (fsub .f64 k 4607182418800017408)) else (p_impl_expWide_l2 x p k (fun (p_4 : Nat) (t25 : Int) => p_4) (Int.toNat (8 - (0 : Int)) + 1) p (0 : Int)))
theorem p_impl_expWide_l1_s (x : Nat) (μ : Nat) (p : Nat) (k : Nat) : p_impl_expWide_l1 x (μ + 1) p k = (bif fle .f64 4607182418800017408 k then (p_impl_expWide_l1 x μ (fadd .f64 4607182418800017408 (fdiv .f64 (fmul .f64 (fdiv .f64 x 4643211215818981376) p) k)) (fsub .f64 k 4607182418800017408)) else (p_impl_expWide_l2 x p k (fun (p_4 : Nat) (t25 : Int) => p_4) (Int.toNat (8 - (0 : Int)) + 1) p (0 : Int))) := rfl
def p_impl_expWide (x : Nat) : Nat := (bif flt .f64 4641240890982006784 x then (p_math_Inf (1 : Int)) else (bif flt .f64 x 13864612927836782592 then 0 else (p_impl_expWide_l1 x (Int.toNat (cnt 4622945017495814144) + 1) 4607182418800017408 4622945017495814144)))
theorem p_impl_expWide_eq (x : Nat) : p_impl_expWide x = (bif flt .f64 4641240890982006784 x then (p_math_Inf (1 : Int)) else (bif flt .f64 x 13864612927836782592 then 0 else (p_impl_expWide_l1 x (Int.toNat (cnt 4622945017495814144) + 1) 4607182418800017408 4622945017495814144))) := rfl
def T_impl_expWide (x : Nat) (H : AHeap) (K : Nat → AHeap → Prop) : Prop := K (p_impl_expWide x) H
theorem T_impl_expWide_i {x : Nat} {H : AHeap} {K : Nat → AHeap → Prop} (h : K (p_impl_expWide x) H) : T_impl_expWide x H K := h
theorem impl_expWide_sq {y P K : Nat} {k : Int} : ∀ (μ p : Nat) (i : Int), Bd .f64 1074 p → (FloatKind.f64.format.read p).neg = false → Bd .f64 1074 (p_impl_expWide_l2 y P K (fun (p : Nat) (t : Int) => p) μ p i) ∧ (FloatKind.f64.format.read (p_impl_expWide_l2 y P K (fun (p : Nat) (t : Int) => p) μ p i)).neg = false := by
  intro μ
  induction μ with
  | zero => intro p i _ _; exact ⟨⟨fin_zero _, by show (sv .f64 0).natAbs ≤ _; rw [sv_zero]; exact Nat.zero_le _⟩, by show (FloatKind.f64.format.read 0).neg = false; rw [read_zero]; rfl⟩
  | succ μ ih =>
    intro p i hp hs
    rw [p_impl_expWide_l2_s]
    cases decide (i < (8 : Int))
    · exact ⟨hp, hs⟩
    · have := Bd.mul (T := 1022) hp hp (top64 (by decide)) (by rw [fb64, lp64]; decide)
      rw [fb64, hs] at this
      exact ih _ _ this.1 this.2
theorem impl_expWide_ser {y : Nat} (hy : Bd .f64 (8 + 1074) y) (hn : (FloatKind.f64.format.read y).neg = true) : ∀ (μ p : Nat) (n : Int), n ≤ 12 → -1 ≤ n → Bd .f64 1074 p → (FloatKind.f64.format.read p).neg = false → Bd .f64 1074 (p_impl_expWide_l1 y μ p (FloatKind.nearest .f64 n)) := by
  intro μ
  induction μ with
  | zero => intro p n _ _ _ _; exact ⟨fin_zero _, by show (sv .f64 0).natAbs ≤ _; rw [sv_zero]; exact Nat.zero_le _⟩
  | succ μ ih =>
    intro p n h1 h0 hp hs
    rw [p_impl_expWide_l1_s]
    rw [(cnt_at (n := n) (by omega) (by omega)).2.1]
    by_cases hc : (1 : Int) ≤ n
    · rw [decide_eq_true hc, cond_true]
      have t1 := Bd.div (T := 1022) (B := 1082) hy (y := 4643211215818981376) (by decide +kernel) (by decide +kernel) (top64 (by decide)) (by rw [fb64, lp64]; decide)
      rw [fb64, hn, show (FloatKind.f64.format.read 4643211215818981376).neg = false from by decide +kernel] at t1
      have t2 := Bd.mul (T := 1022) t1.1 hp (top64 (by decide)) (by rw [fb64, lp64]; decide)
      rw [fb64, t1.2, hs] at t2
      have c := cnt_sv hc (by omega)
      have t3 := Bd.div (T := 1022) (B := 1074) t2.1 c.1 c.2.1 (top64 (by decide)) (by rw [fb64, lp64]; decide)
      rw [fb64, t2.2, c.2.2, show 52 + 1022 = 1074 from rfl] at t3
      have hz := sv_le_zero t3.2
      have hone : sv .f64 4607182418800017408 = 2 ^ 1074 := by decide +kernel
      have habs := t3.1.2
      generalize hq : fdiv .f64 (fmul .f64 (fdiv .f64 y 4643211215818981376) p) (FloatKind.nearest .f64 n) = q at *
      have hpow := pow_cast 1074
      have hsum : (sv .f64 4607182418800017408 + sv .f64 q).natAbs ≤ 2 ^ (FloatKind.f64.format.fractionBits + 1022) := by
        rw [hone, fb64, ← hpow, show 52 + 1022 = 1074 from rfl]
        obtain ⟨W, hW⟩ : ∃ W : Nat, W = 2 ^ 1074 := ⟨_, rfl⟩
        rw [← hW] at habs ⊢
        clear hpow hW
        omega
      have t4 := Bd.add (T := 1022) (x := 4607182418800017408) (y := q) (by decide +kernel) t3.1.1 (top64 (by decide)) hsum
      rw [fb64] at t4
      have hneg : (FloatKind.f64.format.read (fadd .f64 4607182418800017408 q)).neg = false := by
        rw [t4.2]
        split
        · rw [show (FloatKind.f64.format.read 4607182418800017408).neg = false from by decide +kernel]; rfl
        · refine decide_eq_false ?_
          rw [hone, ← hpow]
          generalize (2 ^ 1074 : Nat) = W at *
          omega
      rw [(cnt_at (n := n) (by omega) (by omega)).2.2.1]; exact ih _ (n - 1) (by omega) (by omega) t4.1 hneg
    · rw [decide_eq_false hc, cond_false]
      exact (impl_expWide_sq (k := 0) _ _ _ hp hs).1
theorem impl_expWide_nar {x : Nat} (hx : (FloatKind.f32.format.read x).isNaN = true ∨ (FloatKind.f32.format.read x).neg = true) : fnarrow (p_impl_expWide (fwide x)) ≠ none := by
  cases hr : FloatKind.f32.format.read x with
  | nan s t =>
    have e : fwide x = qnan .f64 := by
      unfold fwide
      rw [show FloatKind.f32.decode x = FloatKind.f32.format.read x from rfl, hr]
    rw [e]; decide +kernel
  | infinity s =>
    have hs : s = true := by
      rw [hr] at hx
      rcases hx with h | h
      · cases h
      · exact h
    have e : fwide x = FloatKind.f64.encode (.infinity true) := by
      unfold fwide
      rw [show FloatKind.f32.decode x = FloatKind.f32.format.read x from rfl, hr, hs]
    rw [e]; decide +kernel
  | number s m i =>
    have hf : fin .f32 x = true := by unfold fin; rw [hr]
    have hs : (FloatKind.f32.format.read x).neg = true := by
      rcases hx with h | h
      · rw [hr] at h; cases h
      · exact h
    have wf := wide_fin hf
    have wn := wide_neg (x := x) (fin_nn hf)
    rw [hs] at wn
    have z := sv_le_zero wn
    rw [p_impl_expWide_eq]
    
    rw [flt_fin (by decide +kernel) wf, flt_fin wf (by decide +kernel)]
    have e1 : sv .f64 4641240890982006784 = 200 * 2 ^ 1074 := by decide +kernel
    have e2 : sv .f64 13864612927836782592 = -200 * 2 ^ 1074 := by decide +kernel
    have hpow := pow_cast 1074
    rw [e1, e2, ← hpow]
    have hp := Nat.two_pow_pos 1074
    rw [decide_eq_false (by generalize (2 ^ 1074 : Nat) = W at *; omega), cond_false]
    by_cases hc : sv .f64 (fwide x) < -200 * ((2 ^ 1074 : Nat) : Int)
    · rw [decide_eq_true hc, cond_true]; decide +kernel
    · rw [decide_eq_false hc, cond_false]
      have hy : Bd .f64 (8 + 1074) (fwide x) := by
        refine ⟨wf, ?_⟩
        have e3 : (2 : Nat) ^ (8 + 1074) = 2 ^ 8 * 2 ^ 1074 := Nat.pow_add 2 8 1074
        rw [e3]
        generalize (2 ^ 1074 : Nat) = W at *
        omega
      have one : Bd .f64 1074 4607182418800017408 := ⟨by decide +kernel, by decide +kernel⟩
      have e5 : (4622945017495814144 : Nat) = FloatKind.nearest .f64 12 := by decide +kernel
      have b := impl_expWide_ser hy wn (Int.toNat (cnt 4622945017495814144) + 1) 4607182418800017408 12 (by decide) (by decide) one (by decide +kernel)
      rw [← e5] at b
      exact narrow_ok (b.mono (by decide))
/-! impl_expWide: function 139 -/
def E_impl_expWide : Env := envOf [(122, S_math_Inf)]
def F_impl_expWide : List Value → AHeap → (Value → AHeap → Prop) → Prop
  | [.float .f64 x], H, K => T_impl_expWide x H fun (r1 : Nat) (H' : AHeap) => K (.float .f64 r1) H'
  | _, _, _ => False
def S_impl_expWide : FSpec := { F := F_impl_expWide, quiet := true, tame := false }
theorem impl_expWide_vc (x : Nat) (H : AHeap) (K : Value → AHeap → Prop) : bodyK Try.prog E_impl_expWide Try.f139 [.float .f64 x] H K =
  (Br (flt .f64 4641240890982006784 x) (T_math_Inf 1 H fun (r1 : Nat) (H1 : AHeap) => K (.float .f64 r1) H1) (Br (flt .f64 x 13864612927836782592) (K (.float .f64 0) H) (loopK (exK Try.prog E_impl_expWide (cl (cl (cr (cl (cr (cr (cr (cr (bodyC Try.f139)))))))))) [.float .f64 x, undef, .float .f64 0, .float .f64 (fdiv .f64 x 4643211215818981376), .float .f64 4607182418800017408, .float .f64 4622945017495814144, .bool (flt .f64 4641240890982006784 x), .float .f64 x, .bool (flt .f64 4641240890982006784 x), undef, .bool (flt .f64 x 13864612927836782592), .float .f64 x, .bool (flt .f64 x 13864612927836782592), .float .f64 x, .float .f64 (fdiv .f64 x 4643211215818981376), undef, undef, undef, undef, undef, undef, undef, undef, undef, undef, undef, undef, undef, undef, undef, undef, undef] H (blockQ 1 (seqQ (exK Try.prog E_impl_expWide (cr (cr (cr (cr (cr (bodyC Try.f139))))))) (retK Try.prog Try.f139 K)))))) := by kernel_rfl
theorem impl_expWide_r1 (x : Nat) (p : Nat) (k : Nat) (g15 g16 g17 g18 g19 g20 g21 g22 g23 g24 : Value) (H : AHeap) (R : Post) : exK Try.prog E_impl_expWide (cl (cl (cr (cl (cr (cr (cr (cr (bodyC Try.f139))))))))) [.float .f64 x, undef, .float .f64 0, .float .f64 (fdiv .f64 x 4643211215818981376), .float .f64 p, .float .f64 k, .bool (flt .f64 4641240890982006784 x), .float .f64 x, .bool (flt .f64 4641240890982006784 x), undef, .bool (flt .f64 x 13864612927836782592), .float .f64 x, .bool (flt .f64 x 13864612927836782592), .float .f64 x, .float .f64 (fdiv .f64 x 4643211215818981376), g15, g16, g17, g18, g19, g20, g21, g22, g23, g24, undef, undef, undef, undef, undef, undef, undef] H R =
  (Br (fle .f64 4607182418800017408 k) (R .normal [.float .f64 x, undef, .float .f64 0, .float .f64 (fdiv .f64 x 4643211215818981376), .float .f64 (fadd .f64 4607182418800017408 (fdiv .f64 (fmul .f64 (fdiv .f64 x 4643211215818981376) p) k)), .float .f64 (fsub .f64 k 4607182418800017408), .bool (flt .f64 4641240890982006784 x), .float .f64 x, .bool (flt .f64 4641240890982006784 x), undef, .bool (flt .f64 x 13864612927836782592), .float .f64 x, .bool (flt .f64 x 13864612927836782592), .float .f64 x, .float .f64 (fdiv .f64 x 4643211215818981376), .float .f64 k, .bool (fle .f64 4607182418800017408 k), .float .f64 k, .float .f64 (fsub .f64 k 4607182418800017408), .float .f64 (fdiv .f64 x 4643211215818981376), .float .f64 p, .float .f64 (fmul .f64 (fdiv .f64 x 4643211215818981376) p), .float .f64 k, .float .f64 (fdiv .f64 (fmul .f64 (fdiv .f64 x 4643211215818981376) p) k), .float .f64 (fadd .f64 4607182418800017408 (fdiv .f64 (fmul .f64 (fdiv .f64 x 4643211215818981376) p) k)), undef, undef, undef, undef, undef, undef, undef] H) (R (.exit 1) [.float .f64 x, undef, .float .f64 0, .float .f64 (fdiv .f64 x 4643211215818981376), .float .f64 p, .float .f64 k, .bool (flt .f64 4641240890982006784 x), .float .f64 x, .bool (flt .f64 4641240890982006784 x), undef, .bool (flt .f64 x 13864612927836782592), .float .f64 x, .bool (flt .f64 x 13864612927836782592), .float .f64 x, .float .f64 (fdiv .f64 x 4643211215818981376), .float .f64 k, .bool (fle .f64 4607182418800017408 k), g17, g18, g19, g20, g21, g22, g23, g24, undef, undef, undef, undef, undef, undef, undef] H)) := by kernel_rfl
def impl_expWide_I1 (x : Nat) (Inv : Nat → Nat → Nat → AHeap → Prop) : Nat → List Value → AHeap → Prop := fun μ tm H => ∃ (p : Nat), ∃ (k : Nat), ∃ g15 g16 g17 g18 g19 g20 g21 g22 g23 g24, tm = [.float .f64 x, undef, .float .f64 0, .float .f64 (fdiv .f64 x 4643211215818981376), .float .f64 p, .float .f64 k, .bool (flt .f64 4641240890982006784 x), .float .f64 x, .bool (flt .f64 4641240890982006784 x), undef, .bool (flt .f64 x 13864612927836782592), .float .f64 x, .bool (flt .f64 x 13864612927836782592), .float .f64 x, .float .f64 (fdiv .f64 x 4643211215818981376), g15, g16, g17, g18, g19, g20, g21, g22, g23, g24, undef, undef, undef, undef, undef, undef, undef] ∧ Inv μ p k H
theorem impl_expWide_L1 (x : Nat) {Q : Post} (Inv : Nat → Nat → Nat → AHeap → Prop) (ν : Nat) (p : Nat) (k : Nat) (g15 g16 g17 g18 g19 g20 g21 g22 g23 g24 : Value) (H : AHeap) (h0 : Inv ν p k H)
    (hs : ∀ (μ : Nat) (p : Nat) (k : Nat) (g15 g16 g17 g18 g19 g20 g21 g22 g23 g24 : Value) (H : AHeap), Inv μ p k H → exK Try.prog E_impl_expWide (cl (cl (cr (cl (cr (cr (cr (cr (bodyC Try.f139))))))))) [.float .f64 x, undef, .float .f64 0, .float .f64 (fdiv .f64 x 4643211215818981376), .float .f64 p, .float .f64 k, .bool (flt .f64 4641240890982006784 x), .float .f64 x, .bool (flt .f64 4641240890982006784 x), undef, .bool (flt .f64 x 13864612927836782592), .float .f64 x, .bool (flt .f64 x 13864612927836782592), .float .f64 x, .float .f64 (fdiv .f64 x 4643211215818981376), g15, g16, g17, g18, g19, g20, g21, g22, g23, g24, undef, undef, undef, undef, undef, undef, undef] H (loopQ (impl_expWide_I1 x Inv) μ Q)) : loopK (exK Try.prog E_impl_expWide (cl (cl (cr (cl (cr (cr (cr (cr (bodyC Try.f139)))))))))) [.float .f64 x, undef, .float .f64 0, .float .f64 (fdiv .f64 x 4643211215818981376), .float .f64 p, .float .f64 k, .bool (flt .f64 4641240890982006784 x), .float .f64 x, .bool (flt .f64 4641240890982006784 x), undef, .bool (flt .f64 x 13864612927836782592), .float .f64 x, .bool (flt .f64 x 13864612927836782592), .float .f64 x, .float .f64 (fdiv .f64 x 4643211215818981376), g15, g16, g17, g18, g19, g20, g21, g22, g23, g24, undef, undef, undef, undef, undef, undef, undef] H Q :=
  ⟨impl_expWide_I1 x Inv, ν, ⟨p, k, g15, g16, g17, g18, g19, g20, g21, g22, g23, g24, rfl, h0⟩, fun μ tm H h => by obtain ⟨p, k, g15, g16, g17, g18, g19, g20, g21, g22, g23, g24, rfl, hI⟩ := h; exact hs μ p k g15 g16 g17 g18 g19 g20 g21 g22 g23 g24 H hI⟩
theorem impl_expWide_n1 {x : Nat} {Q : Post} {Inv : Nat → Nat → Nat → AHeap → Prop} {μ : Nat} (μ' : Nat) {p : Nat} {k : Nat} {g15 g16 g17 g18 g19 g20 g21 g22 g23 g24 : Value} {H : AHeap} (hm : μ' < μ) (hI : Inv μ' p k H) : loopQ (impl_expWide_I1 x Inv) μ Q .normal [.float .f64 x, undef, .float .f64 0, .float .f64 (fdiv .f64 x 4643211215818981376), .float .f64 p, .float .f64 k, .bool (flt .f64 4641240890982006784 x), .float .f64 x, .bool (flt .f64 4641240890982006784 x), undef, .bool (flt .f64 x 13864612927836782592), .float .f64 x, .bool (flt .f64 x 13864612927836782592), .float .f64 x, .float .f64 (fdiv .f64 x 4643211215818981376), g15, g16, g17, g18, g19, g20, g21, g22, g23, g24, undef, undef, undef, undef, undef, undef, undef] H := ⟨μ', hm, p, k, g15, g16, g17, g18, g19, g20, g21, g22, g23, g24, rfl, hI⟩
theorem impl_expWide_x1_1 (x : Nat) (p : Nat) (k : Nat) (g15 g16 g17 g18 g19 g20 g21 g22 g23 g24 : Value) (H : AHeap) (K : Value → AHeap → Prop)  {I : Nat → List Value → AHeap → Prop} {μ : Nat} : loopQ I μ (blockQ 1 (seqQ (exK Try.prog E_impl_expWide (cr (cr (cr (cr (cr (bodyC Try.f139))))))) (retK Try.prog Try.f139 K))) (.exit 1) [.float .f64 x, undef, .float .f64 0, .float .f64 (fdiv .f64 x 4643211215818981376), .float .f64 p, .float .f64 k, .bool (flt .f64 4641240890982006784 x), .float .f64 x, .bool (flt .f64 4641240890982006784 x), undef, .bool (flt .f64 x 13864612927836782592), .float .f64 x, .bool (flt .f64 x 13864612927836782592), .float .f64 x, .float .f64 (fdiv .f64 x 4643211215818981376), g15, g16, g17, g18, g19, g20, g21, g22, g23, g24, undef, undef, undef, undef, undef, undef, undef] H =
  (loopK (exK Try.prog E_impl_expWide (cl (cl (cr (cl (cr (cr (cr (cr (cr (bodyC Try.f139))))))))))) [.float .f64 x, undef, .float .f64 0, .float .f64 (fdiv .f64 x 4643211215818981376), .float .f64 p, .float .f64 k, .bool (flt .f64 4641240890982006784 x), .float .f64 x, .bool (flt .f64 4641240890982006784 x), undef, .bool (flt .f64 x 13864612927836782592), .float .f64 x, .bool (flt .f64 x 13864612927836782592), .float .f64 x, .float .f64 (fdiv .f64 x 4643211215818981376), g15, g16, g17, g18, g19, g20, g21, g22, g23, g24, .int .i64 0, undef, undef, undef, undef, undef, undef] H (blockQ 3 (seqQ (exK Try.prog E_impl_expWide (cr (cr (cr (cr (cr (cr (bodyC Try.f139)))))))) (retK Try.prog Try.f139 K)))) := by kernel_rfl
theorem impl_expWide_r2 (g15 : Value) (g16 : Value) (g17 : Value) (g18 : Value) (g19 : Value) (g20 : Value) (g21 : Value) (g22 : Value) (g23 : Value) (g24 : Value) (k : Nat) (x : Nat) (p_4 : Nat) (t25 : Int) (g26 g27 g28 g29 g30 : Value) (H : AHeap) (R : Post) : exK Try.prog E_impl_expWide (cl (cl (cr (cl (cr (cr (cr (cr (cr (bodyC Try.f139)))))))))) [.float .f64 x, undef, .float .f64 0, .float .f64 (fdiv .f64 x 4643211215818981376), .float .f64 p_4, .float .f64 k, .bool (flt .f64 4641240890982006784 x), .float .f64 x, .bool (flt .f64 4641240890982006784 x), undef, .bool (flt .f64 x 13864612927836782592), .float .f64 x, .bool (flt .f64 x 13864612927836782592), .float .f64 x, .float .f64 (fdiv .f64 x 4643211215818981376), g15, g16, g17, g18, g19, g20, g21, g22, g23, g24, .int .i64 t25, g26, g27, g28, g29, g30, undef] H R =
  (Br (decide ((t25 : Int) < 8)) (R .normal [.float .f64 x, undef, .float .f64 0, .float .f64 (fdiv .f64 x 4643211215818981376), .float .f64 (fmul .f64 p_4 p_4), .float .f64 k, .bool (flt .f64 4641240890982006784 x), .float .f64 x, .bool (flt .f64 4641240890982006784 x), undef, .bool (flt .f64 x 13864612927836782592), .float .f64 x, .bool (flt .f64 x 13864612927836782592), .float .f64 x, .float .f64 (fdiv .f64 x 4643211215818981376), g15, g16, g17, g18, g19, g20, g21, g22, g23, g24, .int .i64 (IntKind.wrap .i64 (t25 + 1)), .bool (decide ((t25 : Int) < 8)), .float .f64 p_4, .float .f64 p_4, .float .f64 (fmul .f64 p_4 p_4), .int .i64 (IntKind.wrap .i64 (t25 + 1)), undef] H) (R (.exit 3) [.float .f64 x, undef, .float .f64 0, .float .f64 (fdiv .f64 x 4643211215818981376), .float .f64 p_4, .float .f64 k, .bool (flt .f64 4641240890982006784 x), .float .f64 x, .bool (flt .f64 4641240890982006784 x), undef, .bool (flt .f64 x 13864612927836782592), .float .f64 x, .bool (flt .f64 x 13864612927836782592), .float .f64 x, .float .f64 (fdiv .f64 x 4643211215818981376), g15, g16, g17, g18, g19, g20, g21, g22, g23, g24, .int .i64 t25, .bool (decide ((t25 : Int) < 8)), g27, g28, g29, g30, undef] H)) := by kernel_rfl
def impl_expWide_I2 (g15 : Value) (g16 : Value) (g17 : Value) (g18 : Value) (g19 : Value) (g20 : Value) (g21 : Value) (g22 : Value) (g23 : Value) (g24 : Value) (k : Nat) (x : Nat) (Inv : Nat → Nat → Int → AHeap → Prop) : Nat → List Value → AHeap → Prop := fun μ tm H => ∃ (p_4 : Nat), ∃ (t25 : Int), ∃ g26 g27 g28 g29 g30, tm = [.float .f64 x, undef, .float .f64 0, .float .f64 (fdiv .f64 x 4643211215818981376), .float .f64 p_4, .float .f64 k, .bool (flt .f64 4641240890982006784 x), .float .f64 x, .bool (flt .f64 4641240890982006784 x), undef, .bool (flt .f64 x 13864612927836782592), .float .f64 x, .bool (flt .f64 x 13864612927836782592), .float .f64 x, .float .f64 (fdiv .f64 x 4643211215818981376), g15, g16, g17, g18, g19, g20, g21, g22, g23, g24, .int .i64 t25, g26, g27, g28, g29, g30, undef] ∧ Inv μ p_4 t25 H
theorem impl_expWide_L2 (g15 : Value) (g16 : Value) (g17 : Value) (g18 : Value) (g19 : Value) (g20 : Value) (g21 : Value) (g22 : Value) (g23 : Value) (g24 : Value) (k : Nat) (x : Nat) {Q : Post} (Inv : Nat → Nat → Int → AHeap → Prop) (ν : Nat) (p_4 : Nat) (t25 : Int) (g26 g27 g28 g29 g30 : Value) (H : AHeap) (h0 : Inv ν p_4 t25 H)
    (hs : ∀ (μ : Nat) (p_4 : Nat) (t25 : Int) (g26 g27 g28 g29 g30 : Value) (H : AHeap), Inv μ p_4 t25 H → exK Try.prog E_impl_expWide (cl (cl (cr (cl (cr (cr (cr (cr (cr (bodyC Try.f139)))))))))) [.float .f64 x, undef, .float .f64 0, .float .f64 (fdiv .f64 x 4643211215818981376), .float .f64 p_4, .float .f64 k, .bool (flt .f64 4641240890982006784 x), .float .f64 x, .bool (flt .f64 4641240890982006784 x), undef, .bool (flt .f64 x 13864612927836782592), .float .f64 x, .bool (flt .f64 x 13864612927836782592), .float .f64 x, .float .f64 (fdiv .f64 x 4643211215818981376), g15, g16, g17, g18, g19, g20, g21, g22, g23, g24, .int .i64 t25, g26, g27, g28, g29, g30, undef] H (loopQ (impl_expWide_I2 g15 g16 g17 g18 g19 g20 g21 g22 g23 g24 k x Inv) μ Q)) : loopK (exK Try.prog E_impl_expWide (cl (cl (cr (cl (cr (cr (cr (cr (cr (bodyC Try.f139))))))))))) [.float .f64 x, undef, .float .f64 0, .float .f64 (fdiv .f64 x 4643211215818981376), .float .f64 p_4, .float .f64 k, .bool (flt .f64 4641240890982006784 x), .float .f64 x, .bool (flt .f64 4641240890982006784 x), undef, .bool (flt .f64 x 13864612927836782592), .float .f64 x, .bool (flt .f64 x 13864612927836782592), .float .f64 x, .float .f64 (fdiv .f64 x 4643211215818981376), g15, g16, g17, g18, g19, g20, g21, g22, g23, g24, .int .i64 t25, g26, g27, g28, g29, g30, undef] H Q :=
  ⟨impl_expWide_I2 g15 g16 g17 g18 g19 g20 g21 g22 g23 g24 k x Inv, ν, ⟨p_4, t25, g26, g27, g28, g29, g30, rfl, h0⟩, fun μ tm H h => by obtain ⟨p_4, t25, g26, g27, g28, g29, g30, rfl, hI⟩ := h; exact hs μ p_4 t25 g26 g27 g28 g29 g30 H hI⟩
theorem impl_expWide_n2 {g15 : Value} {g16 : Value} {g17 : Value} {g18 : Value} {g19 : Value} {g20 : Value} {g21 : Value} {g22 : Value} {g23 : Value} {g24 : Value} {k : Nat} {x : Nat} {Q : Post} {Inv : Nat → Nat → Int → AHeap → Prop} {μ : Nat} (μ' : Nat) {p_4 : Nat} {t25 : Int} {g26 g27 g28 g29 g30 : Value} {H : AHeap} (hm : μ' < μ) (hI : Inv μ' p_4 t25 H) : loopQ (impl_expWide_I2 g15 g16 g17 g18 g19 g20 g21 g22 g23 g24 k x Inv) μ Q .normal [.float .f64 x, undef, .float .f64 0, .float .f64 (fdiv .f64 x 4643211215818981376), .float .f64 p_4, .float .f64 k, .bool (flt .f64 4641240890982006784 x), .float .f64 x, .bool (flt .f64 4641240890982006784 x), undef, .bool (flt .f64 x 13864612927836782592), .float .f64 x, .bool (flt .f64 x 13864612927836782592), .float .f64 x, .float .f64 (fdiv .f64 x 4643211215818981376), g15, g16, g17, g18, g19, g20, g21, g22, g23, g24, .int .i64 t25, g26, g27, g28, g29, g30, undef] H := ⟨μ', hm, p_4, t25, g26, g27, g28, g29, g30, rfl, hI⟩
theorem impl_expWide_x2_3 (g15 : Value) (g16 : Value) (g17 : Value) (g18 : Value) (g19 : Value) (g20 : Value) (g21 : Value) (g22 : Value) (g23 : Value) (g24 : Value) (k : Nat) (x : Nat) (p_4 : Nat) (t25 : Int) (g26 g27 g28 g29 g30 : Value) (H : AHeap) (K : Value → AHeap → Prop)  {I : Nat → List Value → AHeap → Prop} {μ : Nat} : loopQ I μ (blockQ 3 (seqQ (exK Try.prog E_impl_expWide (cr (cr (cr (cr (cr (cr (bodyC Try.f139)))))))) (retK Try.prog Try.f139 K))) (.exit 3) [.float .f64 x, undef, .float .f64 0, .float .f64 (fdiv .f64 x 4643211215818981376), .float .f64 p_4, .float .f64 k, .bool (flt .f64 4641240890982006784 x), .float .f64 x, .bool (flt .f64 4641240890982006784 x), undef, .bool (flt .f64 x 13864612927836782592), .float .f64 x, .bool (flt .f64 x 13864612927836782592), .float .f64 x, .float .f64 (fdiv .f64 x 4643211215818981376), g15, g16, g17, g18, g19, g20, g21, g22, g23, g24, .int .i64 t25, g26, g27, g28, g29, g30, undef] H =
  (K (.float .f64 p_4) H) := by kernel_rfl
theorem E_impl_expWide_ok : ∀ g, FnOk Try.prog g (E_impl_expWide g) := FnOk.envOf (by
  intro x hx
  simp only [List.mem_cons, List.not_mem_nil, or_false] at hx
  subst hx; exact math_Inf_ok)
set_option maxHeartbeats 1000000 in
theorem impl_expWide_main (x : Nat) (H : AHeap) (K : Value → AHeap → Prop) (h : T_impl_expWide x H fun (r1 : Nat) (H' : AHeap) => K (.float .f64 r1) H') : bodyK Try.prog E_impl_expWide Try.f139 [.float .f64 x] H K := by
  rw [impl_expWide_vc]
  have hk := h
  unfold T_impl_expWide at hk
  have e : (p_impl_expWide x) = _ := rfl
  have e := e.trans (p_impl_expWide_eq x)
  have g0 := Grow.refl H
  refine Br.intro (fun c_1 => ?_) (fun c_1 => ?_)
  · have e := e.trans (cond_t c_1)
    refine T_math_Inf_i ?_
    rw [e] at hk
    exact hk
  · have e := e.trans (cond_f c_1)
    refine Br.intro (fun c_2 => ?_) (fun c_2 => ?_)
    · have e := e.trans (cond_t c_2)
      rw [e] at hk
      exact hk
    · have e := e.trans (cond_f c_2)
      refine impl_expWide_L1 _ (fun (μ : Nat) (p : Nat) (k : Nat) (H_1 : AHeap) => H = H_1 ∧ isCnt k ∧ cnt k ≤ (μ : Int) ∧ p_impl_expWide x = p_impl_expWide_l1 x (μ + 1) p k) (Int.toNat (cnt 4622945017495814144)) _ _ _ _ _ _ _ _ _ _ _ _ H ?_ ?_
      · exact ⟨rfl, (by first | omega | (simp; done) | (simp; omega) | (first | exact isCnt.of (n := 12) (by decide) (by decide) | exact (down1 (by assumption) (by assumption)).1)), (by omega), e⟩
      · intro μ p k g15 g16 g17 g18 g19 g20 g21 g22 g23 g24 H_1 hI
        obtain ⟨rfl, v_3, hμ, e⟩ := hI
        rw [impl_expWide_r1]
        have e := e.trans (p_impl_expWide_l1_s x μ p k)
        have l_4 := g0.1
        refine Br.intro (fun c_5 => ?_) (fun c_5 => ?_)
        · have e := e.trans (cond_t c_5)
          refine impl_expWide_n1 (μ - 1) (by first | omega | (have := down1 (by assumption) (by assumption); omega)) ⟨rfl, (by first | omega | (first | exact isCnt.of (n := 12) (by decide) (by decide) | exact (down1 (by assumption) (by assumption)).1) | (simp only [List.length_append, List.length_cons, List.length_nil, List.length_set]; done) | (simp only [List.length_append, List.length_cons, List.length_nil, List.length_set]; omega)), (by first | omega | (have := down1 (by assumption) (by assumption); omega)), (by rw [show μ - 1 + 1 = μ from by first | omega | (have := down1 (by assumption) (by assumption); omega)]; exact e)⟩
        · have e := e.trans (cond_f c_5)
          rw [impl_expWide_x1_1]
          refine impl_expWide_L2 _ _ _ _ _ _ _ _ _ _ _ _ (fun (μ2 : Nat) (p_4 : Nat) (t25 : Int) (H_2 : AHeap) => H = H_2 ∧ (0 : Int) ≤ t25 ∧ ((t25 ≤ 8 ∨ t25 ≤ (0 : Int))) ∧ 8 - t25 ≤ (μ2 : Int) ∧ p_impl_expWide x = p_impl_expWide_l2 x p k (fun (p_4 : Nat) (t25 : Int) => p_4) (μ2 + 1) p_4 t25) (Int.toNat (8 - (0 : Int))) _ _ _ _ _ _ _ H ?_ ?_
          · exact ⟨rfl, (by first | omega | (simp; done) | (simp; omega)), (by first | omega | (simp; done) | (simp; omega)), (by omega), e⟩
          · intro μ2 p_4 t25 g26 g27 g28 g29 g30 H_2 hI
            obtain ⟨rfl, v_6, v_7, hμ, e⟩ := hI
            rw [impl_expWide_r2]
            have e := e.trans (p_impl_expWide_l2_s x p k (fun (p_4 : Nat) (t25 : Int) => p_4) μ2 p_4 t25)
            have l_8 := g0.1
            refine Br.intro (fun c_9 => ?_) (fun c_9 => ?_)
            · have e := e.trans (cond_t c_9)
              have c_9' := of_decide_eq_true c_9
              rw [show IntKind.wrap .i64 (t25 + 1) = (t25 + 1) from wrap64 (by omega) (by omega)]
              refine impl_expWide_n2 (μ2 - 1) (by first | omega) ⟨rfl, (by first | omega | (simp only [List.length_append, List.length_cons, List.length_nil, List.length_set]; done) | (simp only [List.length_append, List.length_cons, List.length_nil, List.length_set]; omega)), (by first | omega | (simp only [List.length_append, List.length_cons, List.length_nil, List.length_set]; done) | (simp only [List.length_append, List.length_cons, List.length_nil, List.length_set]; omega)), (by first | omega), (by rw [show μ2 - 1 + 1 = μ2 from by first | omega]; exact e)⟩
            · have e := e.trans (cond_f c_9)
              have c_9' := of_decide_eq_false c_9
              rw [impl_expWide_x2_3]
              rw [e] at hk
              exact hk
theorem impl_expWide_ok : FnOk Try.prog 139 S_impl_expWide := by
  refine FnOk.body mix_ok E_impl_expWide_ok Try.func139 rfl (by kernel_rfl) (by kernel_rfl) ?_ ?_ ?_ ?_ ?_
  · intro args H K K' h hk
    simp only [S_impl_expWide] at *
    unfold F_impl_expWide at *
    split at hk
    · have k := hk
      exact h _ _ k
    · exact hk.elim
  · intro _ args H K hk
    simp only [S_impl_expWide] at *
    unfold F_impl_expWide at *
    split at hk
    · have k := hk
      exact ⟨_, k, fun K' k' => k'⟩
    · exact hk.elim
  · intro args H K hk
    simp only [S_impl_expWide] at *
    unfold F_impl_expWide at *
    split at hk
    · have k := hk
      exact ⟨_, _, k⟩
    · exact hk.elim
  · intro hq; cases hq
  · have mm := @impl_expWide_main
    revert mm
    generalize bodyK Try.prog E_impl_expWide Try.f139 = Q
    intro mm args H K hk
    simp only [S_impl_expWide] at *
    unfold F_impl_expWide at *
    split at hk
    · exact mm _ H K hk
    · exact hk.elim
def p_impl_expOf (x : Nat) : Nat := (p_impl_expWide (fwide x))
theorem p_impl_expOf_eq (x : Nat) : p_impl_expOf x = (p_impl_expWide (fwide x)) := rfl
def T_impl_expOf (x : Nat) (H : AHeap) (K : Nat → AHeap → Prop) : Prop := K (p_impl_expOf x) H
theorem T_impl_expOf_i {x : Nat} {H : AHeap} {K : Nat → AHeap → Prop} (h : K (p_impl_expOf x) H) : T_impl_expOf x H K := h

/-! impl_expOf: function 116 -/
def E_impl_expOf : Env := envOf [(139, S_impl_expWide)]
def F_impl_expOf : List Value → AHeap → (Value → AHeap → Prop) → Prop
  | [.float .f32 x], H, K => T_impl_expOf x H fun (r1 : Nat) (H' : AHeap) => K (.float .f64 r1) H'
  | _, _, _ => False
def S_impl_expOf : FSpec := { F := F_impl_expOf, quiet := true, tame := false }
theorem impl_expOf_vc (x : Nat) (H : AHeap) (K : Value → AHeap → Prop) : bodyK Try.prog E_impl_expOf Try.f116 [.float .f32 x] H K =
  (T_impl_expWide (fwide x) H fun (r1 : Nat) (H1 : AHeap) => K (.float .f64 r1) H1) := by kernel_rfl
theorem E_impl_expOf_ok : ∀ g, FnOk Try.prog g (E_impl_expOf g) := FnOk.envOf (by
  intro x hx
  simp only [List.mem_cons, List.not_mem_nil, or_false] at hx
  subst hx; exact impl_expWide_ok)
set_option maxHeartbeats 1000000 in
theorem impl_expOf_main (x : Nat) (H : AHeap) (K : Value → AHeap → Prop) (h : T_impl_expOf x H fun (r1 : Nat) (H' : AHeap) => K (.float .f64 r1) H') : bodyK Try.prog E_impl_expOf Try.f116 [.float .f32 x] H K := by
  rw [impl_expOf_vc]
  have hk := h
  unfold T_impl_expOf at hk
  have e : (p_impl_expOf x) = _ := rfl
  have e := e.trans (p_impl_expOf_eq x)
  have g0 := Grow.refl H
  refine T_impl_expWide_i ?_
  rw [e] at hk
  exact hk
theorem impl_expOf_ok : FnOk Try.prog 116 S_impl_expOf := by
  refine FnOk.body mix_ok E_impl_expOf_ok Try.func116 rfl (by kernel_rfl) (by kernel_rfl) ?_ ?_ ?_ ?_ ?_
  · intro args H K K' h hk
    simp only [S_impl_expOf] at *
    unfold F_impl_expOf at *
    split at hk
    · have k := hk
      exact h _ _ k
    · exact hk.elim
  · intro _ args H K hk
    simp only [S_impl_expOf] at *
    unfold F_impl_expOf at *
    split at hk
    · have k := hk
      exact ⟨_, k, fun K' k' => k'⟩
    · exact hk.elim
  · intro args H K hk
    simp only [S_impl_expOf] at *
    unfold F_impl_expOf at *
    split at hk
    · have k := hk
      exact ⟨_, _, k⟩
    · exact hk.elim
  · intro hq; cases hq
  · have mm := @impl_expOf_main
    revert mm
    generalize bodyK Try.prog E_impl_expOf Try.f116 = Q
    intro mm args H K hk
    simp only [S_impl_expOf] at *
    unfold F_impl_expOf at *
    split at hk
    · exact mm _ H K hk
    · exact hk.elim
def p_impl_ExpNumber (x : Nat) : Nat := ((fnarrow (p_impl_expOf x)).getD 0)
theorem p_impl_ExpNumber_eq (x : Nat) : p_impl_ExpNumber x = ((fnarrow (p_impl_expOf x)).getD 0) := rfl
def T_impl_ExpNumber (x : Nat) (H : AHeap) (K : Nat → AHeap → Prop) : Prop := fnarrow (p_impl_expOf x) ≠ none ∧ K (p_impl_ExpNumber x) H
theorem T_impl_ExpNumber_i {x : Nat} {H : AHeap} {K : Nat → AHeap → Prop} (h : fnarrow (p_impl_expOf x) ≠ none ∧ K (p_impl_ExpNumber x) H) : T_impl_ExpNumber x H K := h

/-! impl_ExpNumber: function 64 -/
def E_impl_ExpNumber : Env := envOf [(116, S_impl_expOf)]
def F_impl_ExpNumber : List Value → AHeap → (Value → AHeap → Prop) → Prop
  | [.float .f32 x], H, K => T_impl_ExpNumber x H fun (r1 : Nat) (H' : AHeap) => K (.float .f32 r1) H'
  | _, _, _ => False
def S_impl_ExpNumber : FSpec := { F := F_impl_ExpNumber, quiet := true, tame := false }
theorem impl_ExpNumber_vc (x : Nat) (H : AHeap) (K : Value → AHeap → Prop) : bodyK Try.prog E_impl_ExpNumber Try.f64 [.float .f32 x] H K =
  (T_impl_expOf x H fun (r1 : Nat) (H1 : AHeap) => ∃ x1 : Nat, fnarrow r1 = some x1 ∧ K (.float .f32 x1) H1) := by kernel_rfl
theorem E_impl_ExpNumber_ok : ∀ g, FnOk Try.prog g (E_impl_ExpNumber g) := FnOk.envOf (by
  intro x hx
  simp only [List.mem_cons, List.not_mem_nil, or_false] at hx
  subst hx; exact impl_expOf_ok)
set_option maxHeartbeats 1000000 in
theorem impl_ExpNumber_main (x : Nat) (H : AHeap) (K : Value → AHeap → Prop) (h : T_impl_ExpNumber x H fun (r1 : Nat) (H' : AHeap) => K (.float .f32 r1) H') : bodyK Try.prog E_impl_ExpNumber Try.f64 [.float .f32 x] H K := by
  rw [impl_ExpNumber_vc]
  obtain ⟨pr0, hk⟩ := h
  have e : (p_impl_ExpNumber x) = _ := rfl
  have e := e.trans (p_impl_ExpNumber_eq x)
  have g0 := Grow.refl H
  refine T_impl_expOf_i ?_
  refine ⟨_, opt_get (d := 0) (by assumption), ?_⟩
  rw [e] at hk
  exact hk
theorem impl_ExpNumber_ok : FnOk Try.prog 64 S_impl_ExpNumber := by
  refine FnOk.body mix_ok E_impl_ExpNumber_ok Try.func64 rfl (by kernel_rfl) (by kernel_rfl) ?_ ?_ ?_ ?_ ?_
  · intro args H K K' h hk
    simp only [S_impl_ExpNumber] at *
    unfold F_impl_ExpNumber at *
    split at hk
    · obtain ⟨pr0, k⟩ := hk
      exact ⟨pr0, h _ _ k⟩
    · exact hk.elim
  · intro _ args H K hk
    simp only [S_impl_ExpNumber] at *
    unfold F_impl_ExpNumber at *
    split at hk
    · obtain ⟨pr0, k⟩ := hk
      exact ⟨_, k, fun K' k' => ⟨pr0, k'⟩⟩
    · exact hk.elim
  · intro args H K hk
    simp only [S_impl_ExpNumber] at *
    unfold F_impl_ExpNumber at *
    split at hk
    · obtain ⟨pr0, k⟩ := hk
      exact ⟨_, _, k⟩
    · exact hk.elim
  · intro hq; cases hq
  · have mm := @impl_ExpNumber_main
    revert mm
    generalize bodyK Try.prog E_impl_ExpNumber Try.f64 = Q
    intro mm args H K hk
    simp only [S_impl_ExpNumber] at *
    unfold F_impl_ExpNumber at *
    split at hk
    · exact mm _ H K hk
    · exact hk.elim
def p_impl_finite (x : Nat) : Nat × Bool := (bif !(p_impl_IsFinite x) then (0, false) else (x, true))
theorem p_impl_finite_eq (x : Nat) : p_impl_finite x = (bif !(p_impl_IsFinite x) then (0, false) else (x, true)) := rfl
def T_impl_finite (x : Nat) (H : AHeap) (K : Nat → Bool → AHeap → Prop) : Prop := K (p_impl_finite x).1 (p_impl_finite x).2 H

theorem T_impl_finite_i {x : Nat} {H : AHeap} {K : Nat → Bool → AHeap → Prop} (h : K (p_impl_finite x).1 (p_impl_finite x).2 H) : T_impl_finite x H K := h
/-! impl_finite: function 65 -/
def E_impl_finite : Env := envOf [(62, S_impl_IsFinite)]
def F_impl_finite : List Value → AHeap → (Value → AHeap → Prop) → Prop
  | [.float .f32 x], H, K => T_impl_finite x H fun (r1 : Nat) (r2 : Bool) (H' : AHeap) => K (.tuple #[.float .f32 r1, .bool r2]) H'
  | _, _, _ => False
def S_impl_finite : FSpec := { F := F_impl_finite, quiet := true, tame := false }
theorem impl_finite_vc (x : Nat) (H : AHeap) (K : Value → AHeap → Prop) : bodyK Try.prog E_impl_finite Try.f65 [.float .f32 x] H K =
  (T_impl_IsFinite x H fun (r1 : Bool) (H1 : AHeap) => Br (!r1) (K (.tuple #[.float .f32 0, .bool false]) H1) (K (.tuple #[.float .f32 x, .bool true]) H1)) := by kernel_rfl
theorem E_impl_finite_ok : ∀ g, FnOk Try.prog g (E_impl_finite g) := FnOk.envOf (by
  intro x hx
  simp only [List.mem_cons, List.not_mem_nil, or_false] at hx
  subst hx; exact impl_IsFinite_ok)
set_option maxHeartbeats 1000000 in
theorem impl_finite_main (x : Nat) (H : AHeap) (K : Value → AHeap → Prop) (h : T_impl_finite x H fun (r1 : Nat) (r2 : Bool) (H' : AHeap) => K (.tuple #[.float .f32 r1, .bool r2]) H') : bodyK Try.prog E_impl_finite Try.f65 [.float .f32 x] H K := by
  rw [impl_finite_vc]
  simp only [T_impl_IsFinite]
  unfold T_impl_finite p_impl_finite at h
  repeat' (first | exact h | (exfalso; simp_all; done) | (refine ⟨by decide, ?_⟩) | (refine Br.intro (fun hb => ?_) (fun hb => ?_) <;> (try simp only [hb, cond_true, cond_false, Bool.not_true, Bool.not_false] at h)))
theorem impl_finite_ok : FnOk Try.prog 65 S_impl_finite := by
  refine FnOk.body mix_ok E_impl_finite_ok Try.func65 rfl (by kernel_rfl) (by kernel_rfl) ?_ ?_ ?_ ?_ ?_
  · intro args H K K' h hk
    simp only [S_impl_finite] at *
    unfold F_impl_finite at *
    split at hk
    · have k := hk
      exact h _ _ k
    · exact hk.elim
  · intro _ args H K hk
    simp only [S_impl_finite] at *
    unfold F_impl_finite at *
    split at hk
    · have k := hk
      exact ⟨_, k, fun K' k' => k'⟩
    · exact hk.elim
  · intro args H K hk
    simp only [S_impl_finite] at *
    unfold F_impl_finite at *
    split at hk
    · have k := hk
      exact ⟨_, _, k⟩
    · exact hk.elim
  · intro hq; cases hq
  · have mm := @impl_finite_main
    revert mm
    generalize bodyK Try.prog E_impl_finite Try.f65 = Q
    intro mm args H K hk
    simp only [S_impl_finite] at *
    unfold F_impl_finite at *
    split at hk
    · exact mm _ H K hk
    · exact hk.elim
def p_impl_KernelMean_l1 (l_times : List Nat) (l_values : List Nat) (vat : Nat) (wide : Nat) : Nat → Nat → Nat → Int → Nat × Bool
  | 0, _, _, _ => (0, false)
  | μ + 1, sum, all, t43 => (bif decide ((t43 : Int) < (l_times.length : Int)) then (p_impl_KernelMean_l1 l_times l_values vat wide μ (fadd .f32 sum (fmul .f32 ((p_impl_ExpNumber (fmul .f32 (fmul .f32 3204448256 (fdiv .f32 (fsub .f32 (((l_times).getD (t43 : Int).toNat 0)) vat) wide)) (fdiv .f32 (fsub .f32 (((l_times).getD (t43 : Int).toNat 0)) vat) wide)))) (((l_values).getD (t43 : Int).toNat 0)))) (fadd .f32 all ((p_impl_ExpNumber (fmul .f32 (fmul .f32 3204448256 (fdiv .f32 (fsub .f32 (((l_times).getD (t43 : Int).toNat 0)) vat) wide)) (fdiv .f32 (fsub .f32 (((l_times).getD (t43 : Int).toNat 0)) vat) wide))))) (t43 + 1)) else (bif !(flt .f32 0 all) then (0, false) else ((p_impl_finite (fdiv .f32 sum all)).1, (p_impl_finite (fdiv .f32 sum all)).2)))
theorem p_impl_KernelMean_l1_s (l_times : List Nat) (l_values : List Nat) (vat : Nat) (wide : Nat) (μ : Nat) (sum : Nat) (all : Nat) (t43 : Int) : p_impl_KernelMean_l1 l_times l_values vat wide (μ + 1) sum all t43 = (bif decide ((t43 : Int) < (l_times.length : Int)) then (p_impl_KernelMean_l1 l_times l_values vat wide μ (fadd .f32 sum (fmul .f32 ((p_impl_ExpNumber (fmul .f32 (fmul .f32 3204448256 (fdiv .f32 (fsub .f32 (((l_times).getD (t43 : Int).toNat 0)) vat) wide)) (fdiv .f32 (fsub .f32 (((l_times).getD (t43 : Int).toNat 0)) vat) wide)))) (((l_values).getD (t43 : Int).toNat 0)))) (fadd .f32 all ((p_impl_ExpNumber (fmul .f32 (fmul .f32 3204448256 (fdiv .f32 (fsub .f32 (((l_times).getD (t43 : Int).toNat 0)) vat) wide)) (fdiv .f32 (fsub .f32 (((l_times).getD (t43 : Int).toNat 0)) vat) wide))))) (t43 + 1)) else (bif !(flt .f32 0 all) then (0, false) else ((p_impl_finite (fdiv .f32 sum all)).1, (p_impl_finite (fdiv .f32 sum all)).2))) := rfl
def p_impl_KernelMean (l_times : List Nat) (l_values : List Nat) (vat : Nat) (wide : Nat) : Nat × Bool := ((bif !(p_impl_isLong l_times) then (0, false) else (bif !(p_impl_isLong l_values) then (0, false) else (bif ((l_times.length : Int) : Int) != (l_values.length : Int) then (0, false) else (bif !(p_impl_IsFinite vat) then (0, false) else (bif !(p_impl_isOver wide) then (0, false) else (p_impl_KernelMean_l1 l_times l_values vat wide (Int.toNat ((l_times.length : Int) - (0 : Int)) + 1) 0 0 (0 : Int))))))))
theorem p_impl_KernelMean_eq (l_times : List Nat) (l_values : List Nat) (vat : Nat) (wide : Nat) : p_impl_KernelMean l_times l_values vat wide = ((bif !(p_impl_isLong l_times) then (0, false) else (bif !(p_impl_isLong l_values) then (0, false) else (bif ((l_times.length : Int) : Int) != (l_values.length : Int) then (0, false) else (bif !(p_impl_IsFinite vat) then (0, false) else (bif !(p_impl_isOver wide) then (0, false) else (p_impl_KernelMean_l1 l_times l_values vat wide (Int.toNat ((l_times.length : Int) - (0 : Int)) + 1) 0 0 (0 : Int)))))))) := rfl
def T_impl_KernelMean (times_a : Option Addr) (times_n : Nat) (times_e : Nat) (values_a : Option Addr) (values_n : Nat) (values_e : Nat) (vat : Nat) (wide : Nat) (H : AHeap) (K : Nat → Bool → AHeap → Prop) : Prop := ∃ (l_times : List Nat), ∃ (l_values : List Nat), IsL fF H times_a times_n l_times ∧ IsL fF H values_a values_n l_values ∧ l_times.length < 1073741824 ∧ l_values.length < 1073741824 ∧ ((∀ H' : AHeap, Grow H H' → K ((p_impl_KernelMean l_times l_values vat wide).1) ((p_impl_KernelMean l_times l_values vat wide).2) H'))
theorem T_impl_KernelMean_i {times_a : Option Addr} {times_n : Nat} {times_e : Nat} {values_a : Option Addr} {values_n : Nat} {values_e : Nat} {vat : Nat} {wide : Nat} {H : AHeap} {K : Nat → Bool → AHeap → Prop} (h : ∃ (l_times : List Nat), ∃ (l_values : List Nat), IsL fF H times_a times_n l_times ∧ IsL fF H values_a values_n l_values ∧ l_times.length < 1073741824 ∧ l_values.length < 1073741824 ∧ ((∀ H' : AHeap, Grow H H' → K ((p_impl_KernelMean l_times l_values vat wide).1) ((p_impl_KernelMean l_times l_values vat wide).2) H'))) : T_impl_KernelMean times_a times_n times_e values_a values_n values_e vat wide H K := h

/-! impl_KernelMean: function 17 -/
def E_impl_KernelMean : Env := envOf [(61, S_impl_isLong), (62, S_impl_IsFinite), (63, S_impl_isOver), (64, S_impl_ExpNumber), (65, S_impl_finite)]
def F_impl_KernelMean : List Value → AHeap → (Value → AHeap → Prop) → Prop
  | [.slice times_a times_n times_e, .slice values_a values_n values_e, .float .f32 vat, .float .f32 wide], H, K => T_impl_KernelMean times_a times_n times_e values_a values_n values_e vat wide H fun (r1 : Nat) (r2 : Bool) (H' : AHeap) => K (.tuple #[.float .f32 r1, .bool r2]) H'
  | _, _, _ => False
def S_impl_KernelMean : FSpec := { F := F_impl_KernelMean, quiet := false, tame := true }
theorem impl_KernelMean_vc (times_a : Option Addr) (times_n : Nat) (times_e : Nat) (values_a : Option Addr) (values_n : Nat) (values_e : Nat) (vat : Nat) (wide : Nat) (H : AHeap) (K : Value → AHeap → Prop) : bodyK Try.prog E_impl_KernelMean Try.f17 [.slice times_a times_n times_e, .slice values_a values_n values_e, .float .f32 vat, .float .f32 wide] H K =
  (T_impl_isLong times_a times_n times_e H fun (r1 : Bool) (H1 : AHeap) => Br (!r1) (K (.tuple #[.float .f32 0, .bool false]) H1) (T_impl_isLong values_a values_n values_e H1 fun (r2 : Bool) (H2 : AHeap) => Br (!r2) (K (.tuple #[.float .f32 0, .bool false]) H2) (Br (((times_n : Int) : Int) != (values_n : Int)) (K (.tuple #[.float .f32 0, .bool false]) H2) (T_impl_IsFinite vat H2 fun (r3 : Bool) (H3 : AHeap) => Br (!r3) (K (.tuple #[.float .f32 0, .bool false]) H3) (T_impl_isOver wide H3 fun (r4 : Bool) (H4 : AHeap) => Br (!r4) (K (.tuple #[.float .f32 0, .bool false]) H4) (loopK (exK Try.prog E_impl_KernelMean (cl (cl (cr (cl (cr (cr (cr (bodyC Try.f17))))))))) [.slice times_a times_n times_e, .slice values_a values_n values_e, .float .f32 vat, .float .f32 wide, undef, undef, undef, undef, .float .f32 0, .bool false, .float .f32 0, .float .f32 0, undef, undef, undef, undef, .slice times_a times_n times_e, .bool r1, .bool (!r1), .bool false, .slice values_a values_n values_e, .bool r2, .bool (!r2), .bool (!r2), .bool false, .slice times_a times_n times_e, .int .i64 (times_n : Int), .slice values_a values_n values_e, .int .i64 (values_n : Int), .bool (((times_n : Int) : Int) != (values_n : Int)), .bool (((times_n : Int) : Int) != (values_n : Int)), .bool false, .float .f32 vat, .bool r3, .bool (!r3), .bool (!r3), .bool false, .float .f32 wide, .bool r4, .bool (!r4), .bool (!r4), .slice times_a times_n times_e, .int .i64 (times_n : Int), .int .i64 0, undef, undef, undef, undef, undef, undef, undef, undef, undef, undef, undef, undef, undef, undef, undef, undef, undef, undef, undef, undef, undef, undef, undef, undef, undef, undef, undef, undef, undef, undef, undef, undef, undef, undef, undef] H4 (blockQ 0 (seqQ (exK Try.prog E_impl_KernelMean (cr (cr (cr (cr (bodyC Try.f17)))))) (retK Try.prog Try.f17 K))))))))) := by kernel_rfl
theorem impl_KernelMean_r1 (r1 : Bool) (r2 : Bool) (r3 : Bool) (r4 : Bool) (times_a : Option Addr) (times_e : Nat) (times_n : Nat) (values_a : Option Addr) (values_e : Nat) (values_n : Nat) (vat : Nat) (wide : Nat) (sum : Nat) (all : Nat) (t43 : Int) (g12 g13 g14 g15 g44 g45 g46 g47 g48 g49 g50 g51 g52 g53 g54 g55 g56 g57 g58 g59 g60 g61 g62 g63 g64 g65 g66 g67 g68 g69 : Value) (H : AHeap) (R : Post) : exK Try.prog E_impl_KernelMean (cl (cl (cr (cl (cr (cr (cr (bodyC Try.f17)))))))) [.slice times_a times_n times_e, .slice values_a values_n values_e, .float .f32 vat, .float .f32 wide, undef, undef, undef, undef, .float .f32 0, .bool false, .float .f32 sum, .float .f32 all, g12, g13, g14, g15, .slice times_a times_n times_e, .bool r1, .bool (!r1), .bool false, .slice values_a values_n values_e, .bool r2, .bool (!r2), .bool (!r2), .bool false, .slice times_a times_n times_e, .int .i64 (times_n : Int), .slice values_a values_n values_e, .int .i64 (values_n : Int), .bool (((times_n : Int) : Int) != (values_n : Int)), .bool (((times_n : Int) : Int) != (values_n : Int)), .bool false, .float .f32 vat, .bool r3, .bool (!r3), .bool (!r3), .bool false, .float .f32 wide, .bool r4, .bool (!r4), .bool (!r4), .slice times_a times_n times_e, .int .i64 (times_n : Int), .int .i64 t43, g44, g45, g46, g47, g48, g49, g50, g51, g52, g53, g54, g55, g56, g57, g58, g59, g60, g61, g62, g63, g64, g65, g66, g67, g68, g69, undef, undef, undef, undef, undef, undef, undef, undef, undef] H R =
  (Br (decide ((t43 : Int) < (times_n : Int))) ((0 : Int) ≤ t43 ∧ t43 < (times_n : Int) ∧ ∃ b1 f1, (times_a : Option Addr) = some ⟨b1, f1, none⟩ ∧ ∃ x1 : Nat,  rdC H b1 (f1 + (t43 : Int).toNat * 1) = some (.float .f32 x1) ∧ T_impl_ExpNumber (fmul .f32 (fmul .f32 3204448256 (fdiv .f32 (fsub .f32 x1 vat) wide)) (fdiv .f32 (fsub .f32 x1 vat) wide)) H fun (r5 : Nat) (H5 : AHeap) => (0 : Int) ≤ t43 ∧ t43 < (values_n : Int) ∧ ∃ b2 f2, (values_a : Option Addr) = some ⟨b2, f2, none⟩ ∧ ∃ x2 : Nat,  rdC H5 b2 (f2 + (t43 : Int).toNat * 1) = some (.float .f32 x2) ∧ R .normal [.slice times_a times_n times_e, .slice values_a values_n values_e, .float .f32 vat, .float .f32 wide, undef, undef, undef, undef, .float .f32 0, .bool false, .float .f32 (fadd .f32 sum (fmul .f32 r5 x2)), .float .f32 (fadd .f32 all r5), .int .i64 t43, .float .f32 x1, .float .f32 (fdiv .f32 (fsub .f32 x1 vat) wide), .float .f32 r5, .slice times_a times_n times_e, .bool r1, .bool (!r1), .bool false, .slice values_a values_n values_e, .bool r2, .bool (!r2), .bool (!r2), .bool false, .slice times_a times_n times_e, .int .i64 (times_n : Int), .slice values_a values_n values_e, .int .i64 (values_n : Int), .bool (((times_n : Int) : Int) != (values_n : Int)), .bool (((times_n : Int) : Int) != (values_n : Int)), .bool false, .float .f32 vat, .bool r3, .bool (!r3), .bool (!r3), .bool false, .float .f32 wide, .bool r4, .bool (!r4), .bool (!r4), .slice times_a times_n times_e, .int .i64 (times_n : Int), .int .i64 (IntKind.wrap .i64 (t43 + 1)), .bool (decide ((t43 : Int) < (times_n : Int))), .int .i64 t43, .pointer (some ⟨b1, f1 + (t43 : Int).toNat * 1, none⟩), .float .f32 x1, .float .f32 x1, .float .f32 vat, .float .f32 (fsub .f32 x1 vat), .float .f32 wide, .float .f32 (fdiv .f32 (fsub .f32 x1 vat) wide), .float .f32 (fdiv .f32 (fsub .f32 x1 vat) wide), .float .f32 (fmul .f32 3204448256 (fdiv .f32 (fsub .f32 x1 vat) wide)), .float .f32 (fdiv .f32 (fsub .f32 x1 vat) wide), .float .f32 (fmul .f32 (fmul .f32 3204448256 (fdiv .f32 (fsub .f32 x1 vat) wide)) (fdiv .f32 (fsub .f32 x1 vat) wide)), .float .f32 r5, .float .f32 sum, .float .f32 r5, .slice values_a values_n values_e, .int .i64 t43, .pointer (some ⟨b2, f2 + (t43 : Int).toNat * 1, none⟩), .float .f32 x2, .float .f32 (fmul .f32 r5 x2), .float .f32 (fadd .f32 sum (fmul .f32 r5 x2)), .float .f32 all, .float .f32 r5, .float .f32 (fadd .f32 all r5), .int .i64 (IntKind.wrap .i64 (t43 + 1)), undef, undef, undef, undef, undef, undef, undef, undef, undef] H5) (R (.exit 0) [.slice times_a times_n times_e, .slice values_a values_n values_e, .float .f32 vat, .float .f32 wide, undef, undef, undef, undef, .float .f32 0, .bool false, .float .f32 sum, .float .f32 all, g12, g13, g14, g15, .slice times_a times_n times_e, .bool r1, .bool (!r1), .bool false, .slice values_a values_n values_e, .bool r2, .bool (!r2), .bool (!r2), .bool false, .slice times_a times_n times_e, .int .i64 (times_n : Int), .slice values_a values_n values_e, .int .i64 (values_n : Int), .bool (((times_n : Int) : Int) != (values_n : Int)), .bool (((times_n : Int) : Int) != (values_n : Int)), .bool false, .float .f32 vat, .bool r3, .bool (!r3), .bool (!r3), .bool false, .float .f32 wide, .bool r4, .bool (!r4), .bool (!r4), .slice times_a times_n times_e, .int .i64 (times_n : Int), .int .i64 t43, .bool (decide ((t43 : Int) < (times_n : Int))), g45, g46, g47, g48, g49, g50, g51, g52, g53, g54, g55, g56, g57, g58, g59, g60, g61, g62, g63, g64, g65, g66, g67, g68, g69, undef, undef, undef, undef, undef, undef, undef, undef, undef] H)) := by kernel_rfl
def impl_KernelMean_I1 (r1 : Bool) (r2 : Bool) (r3 : Bool) (r4 : Bool) (times_a : Option Addr) (times_e : Nat) (times_n : Nat) (values_a : Option Addr) (values_e : Nat) (values_n : Nat) (vat : Nat) (wide : Nat) (Inv : Nat → Nat → Nat → Int → AHeap → Prop) : Nat → List Value → AHeap → Prop := fun μ tm H => ∃ (sum : Nat), ∃ (all : Nat), ∃ (t43 : Int), ∃ g12 g13 g14 g15 g44 g45 g46 g47 g48 g49 g50 g51 g52 g53 g54 g55 g56 g57 g58 g59 g60 g61 g62 g63 g64 g65 g66 g67 g68 g69, tm = [.slice times_a times_n times_e, .slice values_a values_n values_e, .float .f32 vat, .float .f32 wide, undef, undef, undef, undef, .float .f32 0, .bool false, .float .f32 sum, .float .f32 all, g12, g13, g14, g15, .slice times_a times_n times_e, .bool r1, .bool (!r1), .bool false, .slice values_a values_n values_e, .bool r2, .bool (!r2), .bool (!r2), .bool false, .slice times_a times_n times_e, .int .i64 (times_n : Int), .slice values_a values_n values_e, .int .i64 (values_n : Int), .bool (((times_n : Int) : Int) != (values_n : Int)), .bool (((times_n : Int) : Int) != (values_n : Int)), .bool false, .float .f32 vat, .bool r3, .bool (!r3), .bool (!r3), .bool false, .float .f32 wide, .bool r4, .bool (!r4), .bool (!r4), .slice times_a times_n times_e, .int .i64 (times_n : Int), .int .i64 t43, g44, g45, g46, g47, g48, g49, g50, g51, g52, g53, g54, g55, g56, g57, g58, g59, g60, g61, g62, g63, g64, g65, g66, g67, g68, g69, undef, undef, undef, undef, undef, undef, undef, undef, undef] ∧ Inv μ sum all t43 H
theorem impl_KernelMean_L1 (r1 : Bool) (r2 : Bool) (r3 : Bool) (r4 : Bool) (times_a : Option Addr) (times_e : Nat) (times_n : Nat) (values_a : Option Addr) (values_e : Nat) (values_n : Nat) (vat : Nat) (wide : Nat) {Q : Post} (Inv : Nat → Nat → Nat → Int → AHeap → Prop) (ν : Nat) (sum : Nat) (all : Nat) (t43 : Int) (g12 g13 g14 g15 g44 g45 g46 g47 g48 g49 g50 g51 g52 g53 g54 g55 g56 g57 g58 g59 g60 g61 g62 g63 g64 g65 g66 g67 g68 g69 : Value) (H : AHeap) (h0 : Inv ν sum all t43 H)
    (hs : ∀ (μ : Nat) (sum : Nat) (all : Nat) (t43 : Int) (g12 g13 g14 g15 g44 g45 g46 g47 g48 g49 g50 g51 g52 g53 g54 g55 g56 g57 g58 g59 g60 g61 g62 g63 g64 g65 g66 g67 g68 g69 : Value) (H : AHeap), Inv μ sum all t43 H → exK Try.prog E_impl_KernelMean (cl (cl (cr (cl (cr (cr (cr (bodyC Try.f17)))))))) [.slice times_a times_n times_e, .slice values_a values_n values_e, .float .f32 vat, .float .f32 wide, undef, undef, undef, undef, .float .f32 0, .bool false, .float .f32 sum, .float .f32 all, g12, g13, g14, g15, .slice times_a times_n times_e, .bool r1, .bool (!r1), .bool false, .slice values_a values_n values_e, .bool r2, .bool (!r2), .bool (!r2), .bool false, .slice times_a times_n times_e, .int .i64 (times_n : Int), .slice values_a values_n values_e, .int .i64 (values_n : Int), .bool (((times_n : Int) : Int) != (values_n : Int)), .bool (((times_n : Int) : Int) != (values_n : Int)), .bool false, .float .f32 vat, .bool r3, .bool (!r3), .bool (!r3), .bool false, .float .f32 wide, .bool r4, .bool (!r4), .bool (!r4), .slice times_a times_n times_e, .int .i64 (times_n : Int), .int .i64 t43, g44, g45, g46, g47, g48, g49, g50, g51, g52, g53, g54, g55, g56, g57, g58, g59, g60, g61, g62, g63, g64, g65, g66, g67, g68, g69, undef, undef, undef, undef, undef, undef, undef, undef, undef] H (loopQ (impl_KernelMean_I1 r1 r2 r3 r4 times_a times_e times_n values_a values_e values_n vat wide Inv) μ Q)) : loopK (exK Try.prog E_impl_KernelMean (cl (cl (cr (cl (cr (cr (cr (bodyC Try.f17))))))))) [.slice times_a times_n times_e, .slice values_a values_n values_e, .float .f32 vat, .float .f32 wide, undef, undef, undef, undef, .float .f32 0, .bool false, .float .f32 sum, .float .f32 all, g12, g13, g14, g15, .slice times_a times_n times_e, .bool r1, .bool (!r1), .bool false, .slice values_a values_n values_e, .bool r2, .bool (!r2), .bool (!r2), .bool false, .slice times_a times_n times_e, .int .i64 (times_n : Int), .slice values_a values_n values_e, .int .i64 (values_n : Int), .bool (((times_n : Int) : Int) != (values_n : Int)), .bool (((times_n : Int) : Int) != (values_n : Int)), .bool false, .float .f32 vat, .bool r3, .bool (!r3), .bool (!r3), .bool false, .float .f32 wide, .bool r4, .bool (!r4), .bool (!r4), .slice times_a times_n times_e, .int .i64 (times_n : Int), .int .i64 t43, g44, g45, g46, g47, g48, g49, g50, g51, g52, g53, g54, g55, g56, g57, g58, g59, g60, g61, g62, g63, g64, g65, g66, g67, g68, g69, undef, undef, undef, undef, undef, undef, undef, undef, undef] H Q :=
  ⟨impl_KernelMean_I1 r1 r2 r3 r4 times_a times_e times_n values_a values_e values_n vat wide Inv, ν, ⟨sum, all, t43, g12, g13, g14, g15, g44, g45, g46, g47, g48, g49, g50, g51, g52, g53, g54, g55, g56, g57, g58, g59, g60, g61, g62, g63, g64, g65, g66, g67, g68, g69, rfl, h0⟩, fun μ tm H h => by obtain ⟨sum, all, t43, g12, g13, g14, g15, g44, g45, g46, g47, g48, g49, g50, g51, g52, g53, g54, g55, g56, g57, g58, g59, g60, g61, g62, g63, g64, g65, g66, g67, g68, g69, rfl, hI⟩ := h; exact hs μ sum all t43 g12 g13 g14 g15 g44 g45 g46 g47 g48 g49 g50 g51 g52 g53 g54 g55 g56 g57 g58 g59 g60 g61 g62 g63 g64 g65 g66 g67 g68 g69 H hI⟩
theorem impl_KernelMean_n1 {r1 : Bool} {r2 : Bool} {r3 : Bool} {r4 : Bool} {times_a : Option Addr} {times_e : Nat} {times_n : Nat} {values_a : Option Addr} {values_e : Nat} {values_n : Nat} {vat : Nat} {wide : Nat} {Q : Post} {Inv : Nat → Nat → Nat → Int → AHeap → Prop} {μ : Nat} (μ' : Nat) {sum : Nat} {all : Nat} {t43 : Int} {g12 g13 g14 g15 g44 g45 g46 g47 g48 g49 g50 g51 g52 g53 g54 g55 g56 g57 g58 g59 g60 g61 g62 g63 g64 g65 g66 g67 g68 g69 : Value} {H : AHeap} (hm : μ' < μ) (hI : Inv μ' sum all t43 H) : loopQ (impl_KernelMean_I1 r1 r2 r3 r4 times_a times_e times_n values_a values_e values_n vat wide Inv) μ Q .normal [.slice times_a times_n times_e, .slice values_a values_n values_e, .float .f32 vat, .float .f32 wide, undef, undef, undef, undef, .float .f32 0, .bool false, .float .f32 sum, .float .f32 all, g12, g13, g14, g15, .slice times_a times_n times_e, .bool r1, .bool (!r1), .bool false, .slice values_a values_n values_e, .bool r2, .bool (!r2), .bool (!r2), .bool false, .slice times_a times_n times_e, .int .i64 (times_n : Int), .slice values_a values_n values_e, .int .i64 (values_n : Int), .bool (((times_n : Int) : Int) != (values_n : Int)), .bool (((times_n : Int) : Int) != (values_n : Int)), .bool false, .float .f32 vat, .bool r3, .bool (!r3), .bool (!r3), .bool false, .float .f32 wide, .bool r4, .bool (!r4), .bool (!r4), .slice times_a times_n times_e, .int .i64 (times_n : Int), .int .i64 t43, g44, g45, g46, g47, g48, g49, g50, g51, g52, g53, g54, g55, g56, g57, g58, g59, g60, g61, g62, g63, g64, g65, g66, g67, g68, g69, undef, undef, undef, undef, undef, undef, undef, undef, undef] H := ⟨μ', hm, sum, all, t43, g12, g13, g14, g15, g44, g45, g46, g47, g48, g49, g50, g51, g52, g53, g54, g55, g56, g57, g58, g59, g60, g61, g62, g63, g64, g65, g66, g67, g68, g69, rfl, hI⟩
theorem impl_KernelMean_x1_0 (r1 : Bool) (r2 : Bool) (r3 : Bool) (r4 : Bool) (times_a : Option Addr) (times_e : Nat) (times_n : Nat) (values_a : Option Addr) (values_e : Nat) (values_n : Nat) (vat : Nat) (wide : Nat) (sum : Nat) (all : Nat) (t43 : Int) (g12 g13 g14 g15 g44 g45 g46 g47 g48 g49 g50 g51 g52 g53 g54 g55 g56 g57 g58 g59 g60 g61 g62 g63 g64 g65 g66 g67 g68 g69 : Value) (H : AHeap) (K : Value → AHeap → Prop)  {I : Nat → List Value → AHeap → Prop} {μ : Nat} : loopQ I μ (blockQ 0 (seqQ (exK Try.prog E_impl_KernelMean (cr (cr (cr (cr (bodyC Try.f17)))))) (retK Try.prog Try.f17 K))) (.exit 0) [.slice times_a times_n times_e, .slice values_a values_n values_e, .float .f32 vat, .float .f32 wide, undef, undef, undef, undef, .float .f32 0, .bool false, .float .f32 sum, .float .f32 all, g12, g13, g14, g15, .slice times_a times_n times_e, .bool r1, .bool (!r1), .bool false, .slice values_a values_n values_e, .bool r2, .bool (!r2), .bool (!r2), .bool false, .slice times_a times_n times_e, .int .i64 (times_n : Int), .slice values_a values_n values_e, .int .i64 (values_n : Int), .bool (((times_n : Int) : Int) != (values_n : Int)), .bool (((times_n : Int) : Int) != (values_n : Int)), .bool false, .float .f32 vat, .bool r3, .bool (!r3), .bool (!r3), .bool false, .float .f32 wide, .bool r4, .bool (!r4), .bool (!r4), .slice times_a times_n times_e, .int .i64 (times_n : Int), .int .i64 t43, g44, g45, g46, g47, g48, g49, g50, g51, g52, g53, g54, g55, g56, g57, g58, g59, g60, g61, g62, g63, g64, g65, g66, g67, g68, g69, undef, undef, undef, undef, undef, undef, undef, undef, undef] H =
  (Br (!(flt .f32 0 all)) (K (.tuple #[.float .f32 0, .bool false]) H) (T_impl_finite (fdiv .f32 sum all) H fun (r6 : Nat) (r7 : Bool) (H6 : AHeap) => K (.tuple #[.float .f32 r6, .bool r7]) H6)) := by kernel_rfl
theorem E_impl_KernelMean_ok : ∀ g, FnOk Try.prog g (E_impl_KernelMean g) := FnOk.envOf (by
  intro x hx
  simp only [List.mem_cons, List.not_mem_nil, or_false] at hx
  rcases hx with rfl | rfl | rfl | rfl | rfl
  · exact impl_isLong_ok
  · exact impl_IsFinite_ok
  · exact impl_isOver_ok
  · exact impl_ExpNumber_ok
  · exact impl_finite_ok)
set_option maxHeartbeats 1000000 in
theorem impl_KernelMean_main (times_a : Option Addr) (times_n : Nat) (times_e : Nat) (values_a : Option Addr) (values_n : Nat) (values_e : Nat) (vat : Nat) (wide : Nat) (H : AHeap) (K : Value → AHeap → Prop) (h : T_impl_KernelMean times_a times_n times_e values_a values_n values_e vat wide H fun (r1 : Nat) (r2 : Bool) (H' : AHeap) => K (.tuple #[.float .f32 r1, .bool r2]) H') : bodyK Try.prog E_impl_KernelMean Try.f17 [.slice times_a times_n times_e, .slice values_a values_n values_e, .float .f32 vat, .float .f32 wide] H K := by
  rw [impl_KernelMean_vc]
  obtain ⟨l_times, l_values, i_times, i_values, bd_25, bd_26, hk⟩ := h
  obtain rfl := i_times.eqn
  obtain rfl := i_values.eqn
  have e : (p_impl_KernelMean l_times l_values vat wide) = _ := rfl
  have e := e.trans (p_impl_KernelMean_eq l_times l_values vat wide)
  have g0 := Grow.refl H
  refine T_impl_isLong_i ⟨_, (i_times.grow g0), (by first | omega | (simp only [List.length_set, List.length_replicate, List.length_append, List.length_cons, List.length_nil, List.length_take, List.length_drop, marks_length]; done) | (simp only [List.length_set, List.length_replicate, List.length_append, List.length_cons, List.length_nil, List.length_take, List.length_drop, marks_length]; omega)), fun  H_1 g_1  => ?_⟩
  have l_2 := g_1.1
  have g_3 := g0.trans g_1
  have l_4 := g_3.1
  refine Br.intro (fun c_5 => ?_) (fun c_5 => ?_)
  · have e := e.trans (cond_t c_5)
    have c_5n := nf_of_t c_5
    rw [e] at hk
    exact hk  H_1 g_3 
  · have e := e.trans (cond_f c_5)
    have c_5n := nt_of_f c_5
    have c_5n' := impl_isLong_t c_5n
    refine T_impl_isLong_i ⟨_, (i_values.grow g_3), (by first | omega | (simp only [List.length_set, List.length_replicate, List.length_append, List.length_cons, List.length_nil, List.length_take, List.length_drop, marks_length]; done) | (simp only [List.length_set, List.length_replicate, List.length_append, List.length_cons, List.length_nil, List.length_take, List.length_drop, marks_length]; omega)), fun  H_2 g_6  => ?_⟩
    have l_7 := g_6.1
    have g_8 := g_3.trans g_6
    have l_9 := g_8.1
    refine Br.intro (fun c_10 => ?_) (fun c_10 => ?_)
    · have e := e.trans (cond_t c_10)
      have c_10n := nf_of_t c_10
      rw [e] at hk
      exact hk  H_2 g_8 
    · have e := e.trans (cond_f c_10)
      have c_10n := nt_of_f c_10
      have c_10n' := impl_isLong_t c_10n
      refine Br.intro (fun c_11 => ?_) (fun c_11 => ?_)
      · have e := e.trans (cond_t c_11)
        have c_11' := ine_t c_11
        rw [e] at hk
        exact hk  H_2 g_8 
      · have e := e.trans (cond_f c_11)
        have c_11' := ine_f c_11
        refine T_impl_IsFinite_i ?_
        refine Br.intro (fun c_12 => ?_) (fun c_12 => ?_)
        · have e := e.trans (cond_t c_12)
          have c_12n := nf_of_t c_12
          rw [e] at hk
          exact hk  H_2 g_8 
        · have e := e.trans (cond_f c_12)
          have c_12n := nt_of_f c_12
          refine T_impl_isOver_i ?_
          refine Br.intro (fun c_13 => ?_) (fun c_13 => ?_)
          · have e := e.trans (cond_t c_13)
            have c_13n := nf_of_t c_13
            rw [e] at hk
            exact hk  H_2 g_8 
          · have e := e.trans (cond_f c_13)
            have c_13n := nt_of_f c_13
            refine impl_KernelMean_L1 _ _ _ _ _ _ _ _ _ _ _ _ (fun (μ : Nat) (sum : Nat) (all : Nat) (t43 : Int) (H_3 : AHeap) => H_2 = H_3 ∧ (0 : Int) ≤ t43 ∧ t43 ≤ (l_times.length : Int) ∧ (l_times.length : Int) - t43 ≤ (μ : Int) ∧ p_impl_KernelMean l_times l_values vat wide = p_impl_KernelMean_l1 l_times l_values vat wide (μ + 1) sum all t43) (Int.toNat ((l_times.length : Int) - (0 : Int))) _ _ _ _ _ _ _ _ _ _ _ _ _ _ _ _ _ _ _ _ _ _ _ _ _ _ _ _ _ _ _ _ _ H_2 ?_ ?_
            · exact ⟨rfl, (by first | omega | (simp; done) | (simp; omega)), (by first | omega | (simp; done) | (simp; omega)), (by omega), e⟩
            · intro μ sum all t43 g12 g13 g14 g15 g44 g45 g46 g47 g48 g49 g50 g51 g52 g53 g54 g55 g56 g57 g58 g59 g60 g61 g62 g63 g64 g65 g66 g67 g68 g69 H_3 hI
              obtain ⟨rfl, v_14, v_15, hμ, e⟩ := hI
              rw [impl_KernelMean_r1]
              have e := e.trans (p_impl_KernelMean_l1_s l_times l_values vat wide μ sum all t43)
              have l_16 := g_8.1
              refine Br.intro (fun c_17 => ?_) (fun c_17 => ?_)
              · have e := e.trans (cond_t c_17)
                have c_17' := of_decide_eq_true c_17
                obtain ⟨b_18, f_19, q_20⟩ := ((i_times.grow g_8)).pos (by first | omega | (simp only [List.length_set, List.length_replicate, List.length_append, List.length_cons, List.length_nil, List.length_take, List.length_drop, marks_length]; done) | (simp only [List.length_set, List.length_replicate, List.length_append, List.length_cons, List.length_nil, List.length_take, List.length_drop, marks_length]; omega))
                refine ⟨by omega, by omega, b_18, f_19, q_20, ?_⟩
                refine ⟨((l_times).getD (t43 : Int).toNat 0), (i_times).rd g_8 q_20 (by omega) _, ?_⟩
                refine T_impl_ExpNumber_i ⟨(by first | assumption | omega | (simp; omega) | (exact impl_expWide_nar (sq_neg (by decide +kernel)))), ?_⟩
                obtain ⟨b_21, f_22, q_23⟩ := ((i_values.grow g_8)).pos (by first | omega | (simp only [List.length_set, List.length_replicate, List.length_append, List.length_cons, List.length_nil, List.length_take, List.length_drop, marks_length]; done) | (simp only [List.length_set, List.length_replicate, List.length_append, List.length_cons, List.length_nil, List.length_take, List.length_drop, marks_length]; omega))
                refine ⟨by omega, by omega, b_21, f_22, q_23, ?_⟩
                refine ⟨((l_values).getD (t43 : Int).toNat 0), (i_values).rd g_8 q_23 (by omega) _, ?_⟩
                rw [show IntKind.wrap .i64 (t43 + 1) = (t43 + 1) from wrap64 (by omega) (by omega)]
                refine impl_KernelMean_n1 (μ - 1) (by first | omega) ⟨rfl, (by first | omega | (simp only [List.length_append, List.length_cons, List.length_nil, List.length_set]; done) | (simp only [List.length_append, List.length_cons, List.length_nil, List.length_set]; omega)), (by first | omega | (simp only [List.length_append, List.length_cons, List.length_nil, List.length_set]; done) | (simp only [List.length_append, List.length_cons, List.length_nil, List.length_set]; omega)), (by first | omega), (by rw [show μ - 1 + 1 = μ from by first | omega]; exact e)⟩
              · have e := e.trans (cond_f c_17)
                have c_17' := of_decide_eq_false c_17
                rw [impl_KernelMean_x1_0]
                refine Br.intro (fun c_24 => ?_) (fun c_24 => ?_)
                · have e := e.trans (cond_t c_24)
                  have c_24n := nf_of_t c_24
                  rw [e] at hk
                  exact hk  H_2 g_8 
                · have e := e.trans (cond_f c_24)
                  have c_24n := nt_of_f c_24
                  refine T_impl_finite_i ?_
                  rw [e] at hk
                  exact hk  H_2 g_8 
theorem impl_KernelMean_ok : FnOk Try.prog 17 S_impl_KernelMean := by
  refine FnOk.body mix_ok E_impl_KernelMean_ok Try.func17 rfl (by kernel_rfl) (by kernel_rfl) ?_ ?_ ?_ ?_ ?_
  · intro args H K K' h hk
    simp only [S_impl_KernelMean] at *
    unfold F_impl_KernelMean at *
    split at hk
    · obtain ⟨l_times, l_values, i_times, i_values, bd_25, bd_26, k⟩ := hk
      exact ⟨l_times, l_values, i_times, i_values, bd_25, bd_26, (fun  H' gg  => h _ _ (k  H' gg ))⟩
    · exact hk.elim
  · intro hq; cases hq
  · intro args H K hk
    simp only [S_impl_KernelMean] at *
    unfold F_impl_KernelMean at *
    split at hk
    · obtain ⟨l_times, l_values, i_times, i_values, bd_25, bd_26, k⟩ := hk
      exact ⟨_, _, k H (Grow.refl H)⟩
    · exact hk.elim
  · intro _ args H K hk
    simp only [S_impl_KernelMean] at *
    unfold F_impl_KernelMean at *
    split at hk
    · obtain ⟨l_times, l_values, i_times, i_values, bd_25, bd_26, k⟩ := hk
      exact ⟨l_times, l_values, i_times, i_values, bd_25, bd_26, (fun  H' gg  => ⟨gg, k  H' gg ⟩)⟩
    · exact hk.elim
  · have mm := @impl_KernelMean_main
    revert mm
    generalize bodyK Try.prog E_impl_KernelMean Try.f17 = Q
    intro mm args H K hk
    simp only [S_impl_KernelMean] at *
    unfold F_impl_KernelMean at *
    split at hk
    · exact mm _ _ _ _ _ _ _ _ H K hk
    · exact hk.elim
def p_laws_sameFloat (a : Nat) (b : Nat) : Bool := ((bif !(feq .f64 a a) then (bif !(feq .f64 a a) then !(feq .f64 b b) else false) else (bif !(feq .f64 b b) then (bif !(feq .f64 a a) then !(feq .f64 b b) else false) else (bif feq .f64 a 0 then (bif feq .f64 b 0 then (flt .f64 0 (fdiv .f64 4607182418800017408 a)) == (flt .f64 0 (fdiv .f64 4607182418800017408 b)) else feq .f64 a b) else feq .f64 a b))))
theorem p_laws_sameFloat_eq (a : Nat) (b : Nat) : p_laws_sameFloat a b = ((bif !(feq .f64 a a) then (bif !(feq .f64 a a) then !(feq .f64 b b) else false) else (bif !(feq .f64 b b) then (bif !(feq .f64 a a) then !(feq .f64 b b) else false) else (bif feq .f64 a 0 then (bif feq .f64 b 0 then (flt .f64 0 (fdiv .f64 4607182418800017408 a)) == (flt .f64 0 (fdiv .f64 4607182418800017408 b)) else feq .f64 a b) else feq .f64 a b)))) := rfl
def T_laws_sameFloat (a : Nat) (b : Nat) (H : AHeap) (K : Bool → AHeap → Prop) : Prop := K (p_laws_sameFloat a b) H

theorem T_laws_sameFloat_i {a : Nat} {b : Nat} {H : AHeap} {K : Bool → AHeap → Prop} (h : K (p_laws_sameFloat a b) H) : T_laws_sameFloat a b H K := h
/-! laws_sameFloat: function 18 -/
def E_laws_sameFloat : Env := envOf []
def F_laws_sameFloat : List Value → AHeap → (Value → AHeap → Prop) → Prop
  | [.float .f64 a, .float .f64 b], H, K => T_laws_sameFloat a b H fun (r1 : Bool) (H' : AHeap) => K (.bool r1) H'
  | _, _, _ => False
def S_laws_sameFloat : FSpec := { F := F_laws_sameFloat, quiet := true, tame := false }
theorem laws_sameFloat_vc (a : Nat) (b : Nat) (H : AHeap) (K : Value → AHeap → Prop) : bodyK Try.prog E_laws_sameFloat Try.f18 [.float .f64 a, .float .f64 b] H K =
  (Br (!(feq .f64 a a)) (Br (!(feq .f64 a a)) (K (.bool (!(feq .f64 b b))) H) (K (.bool false) H)) (Br (!(feq .f64 b b)) (Br (!(feq .f64 a a)) (K (.bool (!(feq .f64 b b))) H) (K (.bool false) H)) (Br (feq .f64 a 0) (Br (feq .f64 b 0) (K (.bool ((flt .f64 0 (fdiv .f64 4607182418800017408 a)) == (flt .f64 0 (fdiv .f64 4607182418800017408 b)))) H) (K (.bool (feq .f64 a b)) H)) (K (.bool (feq .f64 a b)) H)))) := by kernel_rfl
theorem E_laws_sameFloat_ok : ∀ g, FnOk Try.prog g (E_laws_sameFloat g) := FnOk.envOf (by
  intro x hx; cases hx)
set_option maxHeartbeats 1000000 in
theorem laws_sameFloat_main (a : Nat) (b : Nat) (H : AHeap) (K : Value → AHeap → Prop) (h : T_laws_sameFloat a b H fun (r1 : Bool) (H' : AHeap) => K (.bool r1) H') : bodyK Try.prog E_laws_sameFloat Try.f18 [.float .f64 a, .float .f64 b] H K := by
  rw [laws_sameFloat_vc]
  unfold T_laws_sameFloat p_laws_sameFloat at h
  repeat' (first | exact h | (exfalso; simp_all; done) | (refine ⟨by decide, ?_⟩) | (refine Br.intro (fun hb => ?_) (fun hb => ?_) <;> (try simp only [hb, cond_true, cond_false, Bool.not_true, Bool.not_false] at h)))
theorem laws_sameFloat_ok : FnOk Try.prog 18 S_laws_sameFloat := by
  refine FnOk.body mix_ok E_laws_sameFloat_ok Try.func18 rfl (by kernel_rfl) (by kernel_rfl) ?_ ?_ ?_ ?_ ?_
  · intro args H K K' h hk
    simp only [S_laws_sameFloat] at *
    unfold F_laws_sameFloat at *
    split at hk
    · have k := hk
      exact h _ _ k
    · exact hk.elim
  · intro _ args H K hk
    simp only [S_laws_sameFloat] at *
    unfold F_laws_sameFloat at *
    split at hk
    · have k := hk
      exact ⟨_, k, fun K' k' => k'⟩
    · exact hk.elim
  · intro args H K hk
    simp only [S_laws_sameFloat] at *
    unfold F_laws_sameFloat at *
    split at hk
    · have k := hk
      exact ⟨_, _, k⟩
    · exact hk.elim
  · intro hq; cases hq
  · have mm := @laws_sameFloat_main
    revert mm
    generalize bodyK Try.prog E_laws_sameFloat Try.f18 = Q
    intro mm args H K hk
    simp only [S_laws_sameFloat] at *
    unfold F_laws_sameFloat at *
    split at hk
    · exact mm _ _ H K hk
    · exact hk.elim
end Go.Proofs.Ytghkkclonabpkaa.Ai
