/- What functions of the program come to on the abstract machine, and that they do so; printed by a program of mine around proofs of mine. -/
import Derived.Test.YtghkkclonabpkaaProg
import Derived.Test.YtghkkclonabpkaaLibA
import Derived.Test.YtghkkclonabpkaaOpen
import Derived.Test.YtghkkclonabpkaaLibB
import Derived.Test.YtghkkclonabpkaaFl
import Derived.Test.YtghkkclonabpkaaExt
import Derived.Test.YtghkkclonabpkaaFm
import Derived.Test.YtghkkclonabpkaaFb
set_option linter.unusedVariables false
set_option linter.unusedSimpArgs false
set_option maxRecDepth 100000
namespace Go.Proofs.Ytghkkclonabpkaa.Ai
open Go
attribute [local irreducible] bodyK
theorem mix_ok : Try.prog.follows .mixedOrders = true := by kernel_rfl
def p_laws_toFloat32S_l1 (l_a : List Nat) : Nat → Int → (List Nat) → (List Nat)
  | 0, _, _ => []
  | μ + 1, i, y1_1 => (bif decide ((i : Int) < (l_a.length : Int)) then (p_laws_toFloat32S_l1 l_a μ (i + 1) (((y1_1).set (i : Int).toNat ((((l_a).getD (i : Int).toNat 0)))))) else y1_1)
theorem p_laws_toFloat32S_l1_s (l_a : List Nat) (μ : Nat) (i : Int) (y1_1 : List Nat) : p_laws_toFloat32S_l1 l_a (μ + 1) i y1_1 = (bif decide ((i : Int) < (l_a.length : Int)) then (p_laws_toFloat32S_l1 l_a μ (i + 1) (((y1_1).set (i : Int).toNat ((((l_a).getD (i : Int).toNat 0)))))) else y1_1) := rfl
def p_laws_toFloat32S (l_a : List Nat) : (List Nat) := (p_laws_toFloat32S_l1 l_a (Int.toNat ((l_a.length : Int) - (0 : Int)) + 1) (0 : Int) (List.replicate (((l_a.length : Int)).toNat) 0))
theorem p_laws_toFloat32S_eq (l_a : List Nat) : p_laws_toFloat32S l_a = (p_laws_toFloat32S_l1 l_a (Int.toNat ((l_a.length : Int) - (0 : Int)) + 1) (0 : Int) (List.replicate (((l_a.length : Int)).toNat) 0)) := rfl
def T_laws_toFloat32S (a_a : Option Addr) (a_n : Nat) (a_e : Nat) (H : AHeap) (K : (Option Addr) → Nat → Nat → AHeap → Prop) : Prop := ∃ (l_a : List Nat), IsL fF H a_a a_n l_a ∧ l_a.length < 1073741824 ∧ ((∀ (r1_a : Option Addr) (r1_n r1_e : Nat), ∀ H' : AHeap, Grow H H' → OwnS fF H' H.length r1_a r1_n r1_e l_a → K r1_a r1_n r1_e H'))
theorem T_laws_toFloat32S_i {a_a : Option Addr} {a_n : Nat} {a_e : Nat} {H : AHeap} {K : (Option Addr) → Nat → Nat → AHeap → Prop} (h : ∃ (l_a : List Nat), IsL fF H a_a a_n l_a ∧ l_a.length < 1073741824 ∧ ((∀ (r1_a : Option Addr) (r1_n r1_e : Nat), ∀ H' : AHeap, Grow H H' → OwnS fF H' H.length r1_a r1_n r1_e l_a → K r1_a r1_n r1_e H'))) : T_laws_toFloat32S a_a a_n a_e H K := h
theorem laws_toFloat32S_go (l : List Nat) : ∀ (μ : Nat) (i : Nat) (ys : List Nat), ys.length = l.length → i ≤ l.length → l.length - i < μ →
    p_laws_toFloat32S_l1 l μ (i : Int) (l.take i ++ ys.drop i) = l := by
  intro μ
  induction μ with
  | zero => intro i ys _ _ h; omega
  | succ μ ih =>
    intro i ys hy hi hm
    rw [p_laws_toFloat32S_l1_s]
    by_cases h : i < l.length
    · rw [decide_eq_true (show (i : Int) < (l.length : Int) by omega), cond_true]
      have hx : l[i]? = some (l.getD i 0) := by rw [List.getD_eq_getElem?_getD, List.getElem?_eq_getElem h]; rfl
      rw [Int.toNat_natCast, set_front l ys i (by omega) hy.symm _ hx]
      exact ih (i + 1) ys hy (by omega) (by omega)
    · rw [decide_eq_false (show ¬ (i : Int) < (l.length : Int) by omega), cond_false]
      rw [List.take_of_length_le (by omega), List.drop_eq_nil_of_le (by omega), List.append_nil]
theorem laws_toFloat32S_id (l : List Nat) : p_laws_toFloat32S l = l := by
  rw [p_laws_toFloat32S_eq]
  have := laws_toFloat32S_go l (Int.toNat ((l.length : Int) - 0) + 1) 0 (List.replicate ((l.length : Int)).toNat 0) (by simp) (by omega) (by omega)
  simpa using this
/-! laws_toFloat32S: function 16 -/
def E_laws_toFloat32S : Env := envOf []
def F_laws_toFloat32S : List Value → AHeap → (Value → AHeap → Prop) → Prop
  | [.slice a_a a_n a_e], H, K => T_laws_toFloat32S a_a a_n a_e H fun (r1_a : Option Addr) (r1_n : Nat) (r1_e : Nat) (H' : AHeap) => K (.slice r1_a r1_n r1_e) H'
  | _, _, _ => False
def S_laws_toFloat32S : FSpec := { F := F_laws_toFloat32S, quiet := false, tame := true }
theorem laws_toFloat32S_vc (a_a : Option Addr) (a_n : Nat) (a_e : Nat) (H : AHeap) (K : Value → AHeap → Prop) : bodyK Try.prog E_laws_toFloat32S Try.f16 [.slice a_a a_n a_e] H K =
  ((0 : Int) ≤ (a_n : Int) ∧ (a_n : Int) = (a_n : Int) ∧ (a_n : Int) < (most : Int) ∧ Al (zerosOf (.float .f32 0) ((a_n : Int)).toNat) H fun b1 H1 => loopK (exK Try.prog E_laws_toFloat32S (cl (cl (cr (cl (cr (cr (bodyC Try.f16)))))))) [.slice a_a a_n a_e, undef, .slice none 0 0, .slice (some ⟨b1, 0, none⟩) (((a_n : Int)).toNat) 1, .int .i64 0, .slice a_a a_n a_e, .int .i64 (a_n : Int), .slice (some ⟨b1, 0, none⟩) (((a_n : Int)).toNat) 1, undef, undef, undef, undef, undef, undef, undef, undef, undef, undef, undef, undef, undef, undef] H1 (blockQ 0 (seqQ (exK Try.prog E_laws_toFloat32S (cr (cr (cr (bodyC Try.f16))))) (retK Try.prog Try.f16 K)))) := by kernel_rfl
theorem laws_toFloat32S_r1 (a_a : Option Addr) (a_e : Nat) (a_n : Nat) (b1 : Nat) (i : Int) (g8 g9 g10 g11 g12 g13 g14 g15 g16 g17 g18 g19 g20 : Value) (H : AHeap) (R : Post) : exK Try.prog E_laws_toFloat32S (cl (cl (cr (cl (cr (cr (bodyC Try.f16))))))) [.slice a_a a_n a_e, undef, .slice none 0 0, .slice (some ⟨b1, 0, none⟩) (((a_n : Int)).toNat) 1, .int .i64 i, .slice a_a a_n a_e, .int .i64 (a_n : Int), .slice (some ⟨b1, 0, none⟩) (((a_n : Int)).toNat) 1, g8, g9, g10, g11, g12, g13, g14, g15, g16, g17, g18, g19, g20, undef] H R =
  (Br (decide ((i : Int) < (a_n : Int))) ((0 : Int) ≤ i ∧ i < (a_n : Int) ∧ ∃ b2 f1, (a_a : Option Addr) = some ⟨b2, f1, none⟩ ∧ ∃ x1 : Nat,  rdC H b2 (f1 + (i : Int).toNat * 1) = some (.float .f32 x1) ∧ (0 : Int) ≤ i ∧ i < (((a_n : Int)).toNat : Int) ∧ ∃ b3 f2, (some ⟨b1, 0, none⟩ : Option Addr) = some ⟨b3, f2, none⟩ ∧ isOwn H b3 ∧ (∃ l, rdN H b3 (f2 + (i : Int).toNat * 1) 1 = some l) ∧ Lt (setC H b3 (f2 + (i : Int).toNat * 1) (.float .f32 x1)) fun H2 => R .normal [.slice a_a a_n a_e, undef, .slice none 0 0, .slice (some ⟨b1, 0, none⟩) (((a_n : Int)).toNat) 1, .int .i64 (IntKind.wrap .i64 (i + 1)), .slice a_a a_n a_e, .int .i64 (a_n : Int), .slice (some ⟨b1, 0, none⟩) (((a_n : Int)).toNat) 1, .int .i64 i, .slice a_a a_n a_e, .int .i64 (a_n : Int), .bool (decide ((i : Int) < (a_n : Int))), .int .i64 i, .int .i64 (IntKind.wrap .i64 (i + 1)), .slice (some ⟨b1, 0, none⟩) (((a_n : Int)).toNat) 1, .int .i64 i, .slice a_a a_n a_e, .int .i64 i, .pointer (some ⟨b2, f1 + (i : Int).toNat * 1, none⟩), .float .f32 x1, .pointer (some ⟨b3, f2 + (i : Int).toNat * 1, none⟩), undef] H2) (R (.exit 0) [.slice a_a a_n a_e, undef, .slice none 0 0, .slice (some ⟨b1, 0, none⟩) (((a_n : Int)).toNat) 1, .int .i64 i, .slice a_a a_n a_e, .int .i64 (a_n : Int), .slice (some ⟨b1, 0, none⟩) (((a_n : Int)).toNat) 1, .int .i64 i, .slice a_a a_n a_e, .int .i64 (a_n : Int), .bool (decide ((i : Int) < (a_n : Int))), g12, g13, g14, g15, g16, g17, g18, g19, g20, undef] H)) := by kernel_rfl
def laws_toFloat32S_I1 (a_a : Option Addr) (a_e : Nat) (a_n : Nat) (b1 : Nat) (Inv : Nat → Int → AHeap → Prop) : Nat → List Value → AHeap → Prop := fun μ tm H => ∃ (i : Int), ∃ g8 g9 g10 g11 g12 g13 g14 g15 g16 g17 g18 g19 g20, tm = [.slice a_a a_n a_e, undef, .slice none 0 0, .slice (some ⟨b1, 0, none⟩) (((a_n : Int)).toNat) 1, .int .i64 i, .slice a_a a_n a_e, .int .i64 (a_n : Int), .slice (some ⟨b1, 0, none⟩) (((a_n : Int)).toNat) 1, g8, g9, g10, g11, g12, g13, g14, g15, g16, g17, g18, g19, g20, undef] ∧ Inv μ i H
theorem laws_toFloat32S_L1 (a_a : Option Addr) (a_e : Nat) (a_n : Nat) (b1 : Nat) {Q : Post} (Inv : Nat → Int → AHeap → Prop) (ν : Nat) (i : Int) (g8 g9 g10 g11 g12 g13 g14 g15 g16 g17 g18 g19 g20 : Value) (H : AHeap) (h0 : Inv ν i H)
    (hs : ∀ (μ : Nat) (i : Int) (g8 g9 g10 g11 g12 g13 g14 g15 g16 g17 g18 g19 g20 : Value) (H : AHeap), Inv μ i H → exK Try.prog E_laws_toFloat32S (cl (cl (cr (cl (cr (cr (bodyC Try.f16))))))) [.slice a_a a_n a_e, undef, .slice none 0 0, .slice (some ⟨b1, 0, none⟩) (((a_n : Int)).toNat) 1, .int .i64 i, .slice a_a a_n a_e, .int .i64 (a_n : Int), .slice (some ⟨b1, 0, none⟩) (((a_n : Int)).toNat) 1, g8, g9, g10, g11, g12, g13, g14, g15, g16, g17, g18, g19, g20, undef] H (loopQ (laws_toFloat32S_I1 a_a a_e a_n b1 Inv) μ Q)) : loopK (exK Try.prog E_laws_toFloat32S (cl (cl (cr (cl (cr (cr (bodyC Try.f16)))))))) [.slice a_a a_n a_e, undef, .slice none 0 0, .slice (some ⟨b1, 0, none⟩) (((a_n : Int)).toNat) 1, .int .i64 i, .slice a_a a_n a_e, .int .i64 (a_n : Int), .slice (some ⟨b1, 0, none⟩) (((a_n : Int)).toNat) 1, g8, g9, g10, g11, g12, g13, g14, g15, g16, g17, g18, g19, g20, undef] H Q :=
  ⟨laws_toFloat32S_I1 a_a a_e a_n b1 Inv, ν, ⟨i, g8, g9, g10, g11, g12, g13, g14, g15, g16, g17, g18, g19, g20, rfl, h0⟩, fun μ tm H h => by obtain ⟨i, g8, g9, g10, g11, g12, g13, g14, g15, g16, g17, g18, g19, g20, rfl, hI⟩ := h; exact hs μ i g8 g9 g10 g11 g12 g13 g14 g15 g16 g17 g18 g19 g20 H hI⟩
theorem laws_toFloat32S_n1 {a_a : Option Addr} {a_e : Nat} {a_n : Nat} {b1 : Nat} {Q : Post} {Inv : Nat → Int → AHeap → Prop} {μ : Nat} (μ' : Nat) {i : Int} {g8 g9 g10 g11 g12 g13 g14 g15 g16 g17 g18 g19 g20 : Value} {H : AHeap} (hm : μ' < μ) (hI : Inv μ' i H) : loopQ (laws_toFloat32S_I1 a_a a_e a_n b1 Inv) μ Q .normal [.slice a_a a_n a_e, undef, .slice none 0 0, .slice (some ⟨b1, 0, none⟩) (((a_n : Int)).toNat) 1, .int .i64 i, .slice a_a a_n a_e, .int .i64 (a_n : Int), .slice (some ⟨b1, 0, none⟩) (((a_n : Int)).toNat) 1, g8, g9, g10, g11, g12, g13, g14, g15, g16, g17, g18, g19, g20, undef] H := ⟨μ', hm, i, g8, g9, g10, g11, g12, g13, g14, g15, g16, g17, g18, g19, g20, rfl, hI⟩
theorem laws_toFloat32S_x1_0 (a_a : Option Addr) (a_e : Nat) (a_n : Nat) (b1 : Nat) (i : Int) (g8 g9 g10 g11 g12 g13 g14 g15 g16 g17 g18 g19 g20 : Value) (H : AHeap) (K : Value → AHeap → Prop)  {I : Nat → List Value → AHeap → Prop} {μ : Nat} : loopQ I μ (blockQ 0 (seqQ (exK Try.prog E_laws_toFloat32S (cr (cr (cr (bodyC Try.f16))))) (retK Try.prog Try.f16 K))) (.exit 0) [.slice a_a a_n a_e, undef, .slice none 0 0, .slice (some ⟨b1, 0, none⟩) (((a_n : Int)).toNat) 1, .int .i64 i, .slice a_a a_n a_e, .int .i64 (a_n : Int), .slice (some ⟨b1, 0, none⟩) (((a_n : Int)).toNat) 1, g8, g9, g10, g11, g12, g13, g14, g15, g16, g17, g18, g19, g20, undef] H =
  (K (.slice (some ⟨b1, 0, none⟩) (((a_n : Int)).toNat) 1) H) := by kernel_rfl
theorem E_laws_toFloat32S_ok : ∀ g, FnOk Try.prog g (E_laws_toFloat32S g) := FnOk.envOf (by
  intro x hx; cases hx)
set_option maxHeartbeats 1000000 in
theorem laws_toFloat32S_main (a_a : Option Addr) (a_n : Nat) (a_e : Nat) (H : AHeap) (K : Value → AHeap → Prop) (h : T_laws_toFloat32S a_a a_n a_e H fun (r1_a : Option Addr) (r1_n : Nat) (r1_e : Nat) (H' : AHeap) => K (.slice r1_a r1_n r1_e) H') : bodyK Try.prog E_laws_toFloat32S Try.f16 [.slice a_a a_n a_e] H K := by
  rw [laws_toFloat32S_vc]
  obtain ⟨l_a, i_a, bd_29, hk⟩ := h
  have hk : (∀ (r1_a : Option Addr) (r1_n r1_e : Nat), ∀ H' : AHeap, Grow H H' → OwnS fF H' H.length r1_a r1_n r1_e (p_laws_toFloat32S l_a) → (fun (r1_a : Option Addr) (r1_n : Nat) (r1_e : Nat) (H' : AHeap) => K (.slice r1_a r1_n r1_e) H') r1_a r1_n r1_e H') := by rw [laws_toFloat32S_id l_a]; exact hk
  obtain rfl := i_a.eqn
  have e : (p_laws_toFloat32S l_a) = _ := rfl
  have e := e.trans (p_laws_toFloat32S_eq l_a)
  have g0 := Grow.refl H
  refine ⟨by omega, rfl, (by have := most_eq; omega), ?_⟩
  refine Al.intro (fun b_1 H_1 hb_2 hl_3 g_4 o_5 => ?_)
  rw [zeros_map fF 0 _ rfl] at o_5
  have l_7 := g_4.1
  have g_8 := g0.trans g_4
  have l_9 := g_8.1
  have w_28 := o_5.lt
  refine laws_toFloat32S_L1 _ _ _ _ (fun (μ : Nat) (i : Int) (H_2 : AHeap) => ∃ (y1_1 : List Nat), Own H_2 b_1 (y1_1.map fF) ∧ y1_1.length = ((l_a.length : Int)).toNat ∧ Grow H H_2 ∧ (0 : Int) ≤ i ∧ i ≤ (l_a.length : Int) ∧ (l_a.length : Int) - i ≤ (μ : Int) ∧ p_laws_toFloat32S l_a = p_laws_toFloat32S_l1 l_a (μ + 1) i y1_1) (Int.toNat ((l_a.length : Int) - (0 : Int))) _ _ _ _ _ _ _ _ _ _ _ _ _ _ H_1 ?_ ?_
  · exact ⟨_, o_5, (by first | rfl | (simp; done)), g_8, (by first | omega | (simp; done) | (simp; omega)), (by first | omega | (simp; done) | (simp; omega)), (by omega), e⟩
  · intro μ i g8 g9 g10 g11 g12 g13 g14 g15 g16 g17 g18 g19 g20 H_2 hI
    obtain ⟨y1_1, o_10, y_11, g_12, v_13, v_14, hμ, e⟩ := hI
    rw [laws_toFloat32S_r1]
    have e := e.trans (p_laws_toFloat32S_l1_s l_a μ i y1_1)
    have w_15 := o_10.lt
    have l_16 := g_12.1
    refine Br.intro (fun c_17 => ?_) (fun c_17 => ?_)
    · have e := e.trans (cond_t c_17)
      have c_17' := of_decide_eq_true c_17
      obtain ⟨b_18, f_19, q_20⟩ := ((i_a.grow g_12)).pos (by first | omega | (simp only [List.length_set, List.length_replicate, List.length_append, List.length_cons, List.length_nil, List.length_take, List.length_drop, marks_length]; done) | (simp only [List.length_set, List.length_replicate, List.length_append, List.length_cons, List.length_nil, List.length_take, List.length_drop, marks_length]; omega))
      refine ⟨by omega, by omega, b_18, f_19, q_20, ?_⟩
      refine ⟨((l_a).getD (i : Int).toNat 0), (i_a).rd g_12 q_20 (by omega) _, ?_⟩
      refine ⟨by omega, (by omega), _, _, rfl, ?_⟩
      refine Lt.set o_10 (by simp only [List.length_map]; (first | omega | (simp only [List.length_set, List.length_replicate, List.length_append, List.length_cons, List.length_nil, List.length_take, List.length_drop, marks_length]; done) | (simp only [List.length_set, List.length_replicate, List.length_append, List.length_cons, List.length_nil, List.length_take, List.length_drop, marks_length]; omega))) (fun H_3 hl_21 o_23 k_22 => ?_)
      have o_23 := map_set o_23
      have l_24 := k_22.1
      have g_25 := g_12.keep (b := b_1) (by omega) k_22
      have l_26 := g_25.1
      have w_27 := o_23.lt
      rw [show IntKind.wrap .i64 (i + 1) = (i + 1) from wrap64 (by omega) (by omega)]
      refine laws_toFloat32S_n1 (μ - 1) (by first | omega) ⟨_, o_23, (by first | assumption | omega | (simp only [List.length_set]; first | rfl | assumption | omega)), g_25, (by first | omega | (simp only [List.length_append, List.length_cons, List.length_nil, List.length_set]; done) | (simp only [List.length_append, List.length_cons, List.length_nil, List.length_set]; omega)), (by first | omega | (simp only [List.length_append, List.length_cons, List.length_nil, List.length_set]; done) | (simp only [List.length_append, List.length_cons, List.length_nil, List.length_set]; omega)), (by first | omega), (by rw [show μ - 1 + 1 = μ from by first | omega]; exact e)⟩
    · have e := e.trans (cond_f c_17)
      have c_17' := of_decide_eq_false c_17
      rw [laws_toFloat32S_x1_0]
      rw [e] at hk
      exact hk _ _ _ H_2 g_12 (o_10.ownS (by first | (simp only [List.length_replicate]; done) | omega | (simp; omega)) (by omega))
theorem laws_toFloat32S_ok : FnOk Try.prog 16 S_laws_toFloat32S := by
  refine FnOk.body mix_ok E_laws_toFloat32S_ok Try.func16 rfl (by kernel_rfl) (by kernel_rfl) ?_ ?_ ?_ ?_ ?_
  · intro args H K K' h hk
    simp only [S_laws_toFloat32S] at *
    unfold F_laws_toFloat32S at *
    split at hk
    · obtain ⟨l_a, i_a, bd_29, k⟩ := hk
      exact ⟨l_a, i_a, bd_29, (fun r1_a r1_n r1_e H' gg ow0 => h _ _ (k r1_a r1_n r1_e H' gg ow0))⟩
    · exact hk.elim
  · intro hq; cases hq
  · intro args H K hk
    simp only [S_laws_toFloat32S] at *
    unfold F_laws_toFloat32S at *
    split at hk
    · obtain ⟨l_a, i_a, bd_29, k⟩ := hk
      exact liveS fun a n e H1 g o => ⟨_, _, k a n e H1 g o⟩
    · exact hk.elim
  · intro _ args H K hk
    simp only [S_laws_toFloat32S] at *
    unfold F_laws_toFloat32S at *
    split at hk
    · obtain ⟨l_a, i_a, bd_29, k⟩ := hk
      exact ⟨l_a, i_a, bd_29, (fun r1_a r1_n r1_e H' gg ow0 => ⟨gg, k r1_a r1_n r1_e H' gg ow0⟩)⟩
    · exact hk.elim
  · have mm := @laws_toFloat32S_main
    revert mm
    generalize bodyK Try.prog E_laws_toFloat32S Try.f16 = Q
    intro mm args H K hk
    simp only [S_laws_toFloat32S] at *
    unfold F_laws_toFloat32S at *
    split at hk
    · exact mm _ _ _ H K hk
    · exact hk.elim
def p_laws_toInt64S_l1 (l_a : List Int) : Nat → Int → (List Int) → (List Int)
  | 0, _, _ => []
  | μ + 1, i, y1_1 => (bif decide ((i : Int) < (l_a.length : Int)) then (p_laws_toInt64S_l1 l_a μ (i + 1) (((y1_1).set (i : Int).toNat ((((l_a).getD (i : Int).toNat 0) : Int))))) else y1_1)
theorem p_laws_toInt64S_l1_s (l_a : List Int) (μ : Nat) (i : Int) (y1_1 : List Int) : p_laws_toInt64S_l1 l_a (μ + 1) i y1_1 = (bif decide ((i : Int) < (l_a.length : Int)) then (p_laws_toInt64S_l1 l_a μ (i + 1) (((y1_1).set (i : Int).toNat ((((l_a).getD (i : Int).toNat 0) : Int))))) else y1_1) := rfl
def p_laws_toInt64S (l_a : List Int) : (List Int) := (p_laws_toInt64S_l1 l_a (Int.toNat ((l_a.length : Int) - (0 : Int)) + 1) (0 : Int) (List.replicate (((l_a.length : Int)).toNat) 0))
theorem p_laws_toInt64S_eq (l_a : List Int) : p_laws_toInt64S l_a = (p_laws_toInt64S_l1 l_a (Int.toNat ((l_a.length : Int) - (0 : Int)) + 1) (0 : Int) (List.replicate (((l_a.length : Int)).toNat) 0)) := rfl
def T_laws_toInt64S (a_a : Option Addr) (a_n : Nat) (a_e : Nat) (H : AHeap) (K : (Option Addr) → Nat → Nat → AHeap → Prop) : Prop := ∃ (l_a : List Int), IsL fI H a_a a_n l_a ∧ l_a.length < 1073741824 ∧ ((∀ (r1_a : Option Addr) (r1_n r1_e : Nat), ∀ H' : AHeap, Grow H H' → OwnS fI H' H.length r1_a r1_n r1_e l_a → K r1_a r1_n r1_e H'))
theorem T_laws_toInt64S_i {a_a : Option Addr} {a_n : Nat} {a_e : Nat} {H : AHeap} {K : (Option Addr) → Nat → Nat → AHeap → Prop} (h : ∃ (l_a : List Int), IsL fI H a_a a_n l_a ∧ l_a.length < 1073741824 ∧ ((∀ (r1_a : Option Addr) (r1_n r1_e : Nat), ∀ H' : AHeap, Grow H H' → OwnS fI H' H.length r1_a r1_n r1_e l_a → K r1_a r1_n r1_e H'))) : T_laws_toInt64S a_a a_n a_e H K := h
theorem laws_toInt64S_go (l : List Int) : ∀ (μ : Nat) (i : Nat) (ys : List Int), ys.length = l.length → i ≤ l.length → l.length - i < μ →
    p_laws_toInt64S_l1 l μ (i : Int) (l.take i ++ ys.drop i) = l := by
  intro μ
  induction μ with
  | zero => intro i ys _ _ h; omega
  | succ μ ih =>
    intro i ys hy hi hm
    rw [p_laws_toInt64S_l1_s]
    by_cases h : i < l.length
    · rw [decide_eq_true (show (i : Int) < (l.length : Int) by omega), cond_true]
      have hx : l[i]? = some (l.getD i 0) := by rw [List.getD_eq_getElem?_getD, List.getElem?_eq_getElem h]; rfl
      rw [Int.toNat_natCast, set_front l ys i (by omega) hy.symm _ hx]
      exact ih (i + 1) ys hy (by omega) (by omega)
    · rw [decide_eq_false (show ¬ (i : Int) < (l.length : Int) by omega), cond_false]
      rw [List.take_of_length_le (by omega), List.drop_eq_nil_of_le (by omega), List.append_nil]
theorem laws_toInt64S_id (l : List Int) : p_laws_toInt64S l = l := by
  rw [p_laws_toInt64S_eq]
  have := laws_toInt64S_go l (Int.toNat ((l.length : Int) - 0) + 1) 0 (List.replicate ((l.length : Int)).toNat 0) (by simp) (by omega) (by omega)
  simpa using this
/-! laws_toInt64S: function 25 -/
def E_laws_toInt64S : Env := envOf []
def F_laws_toInt64S : List Value → AHeap → (Value → AHeap → Prop) → Prop
  | [.slice a_a a_n a_e], H, K => T_laws_toInt64S a_a a_n a_e H fun (r1_a : Option Addr) (r1_n : Nat) (r1_e : Nat) (H' : AHeap) => K (.slice r1_a r1_n r1_e) H'
  | _, _, _ => False
def S_laws_toInt64S : FSpec := { F := F_laws_toInt64S, quiet := false, tame := true }
theorem laws_toInt64S_vc (a_a : Option Addr) (a_n : Nat) (a_e : Nat) (H : AHeap) (K : Value → AHeap → Prop) : bodyK Try.prog E_laws_toInt64S Try.f25 [.slice a_a a_n a_e] H K =
  ((0 : Int) ≤ (a_n : Int) ∧ (a_n : Int) = (a_n : Int) ∧ (a_n : Int) < (most : Int) ∧ Al (zerosOf (.int .i64 0) ((a_n : Int)).toNat) H fun b1 H1 => loopK (exK Try.prog E_laws_toInt64S (cl (cl (cr (cl (cr (cr (bodyC Try.f25)))))))) [.slice a_a a_n a_e, undef, .slice none 0 0, .slice (some ⟨b1, 0, none⟩) (((a_n : Int)).toNat) 1, .int .i64 0, .slice a_a a_n a_e, .int .i64 (a_n : Int), .slice (some ⟨b1, 0, none⟩) (((a_n : Int)).toNat) 1, undef, undef, undef, undef, undef, undef, undef, undef, undef, undef, undef, undef, undef, undef] H1 (blockQ 0 (seqQ (exK Try.prog E_laws_toInt64S (cr (cr (cr (bodyC Try.f25))))) (retK Try.prog Try.f25 K)))) := by kernel_rfl
theorem laws_toInt64S_r1 (a_a : Option Addr) (a_e : Nat) (a_n : Nat) (b1 : Nat) (i : Int) (g8 g9 g10 g11 g12 g13 g14 g15 g16 g17 g18 g19 g20 : Value) (H : AHeap) (R : Post) : exK Try.prog E_laws_toInt64S (cl (cl (cr (cl (cr (cr (bodyC Try.f25))))))) [.slice a_a a_n a_e, undef, .slice none 0 0, .slice (some ⟨b1, 0, none⟩) (((a_n : Int)).toNat) 1, .int .i64 i, .slice a_a a_n a_e, .int .i64 (a_n : Int), .slice (some ⟨b1, 0, none⟩) (((a_n : Int)).toNat) 1, g8, g9, g10, g11, g12, g13, g14, g15, g16, g17, g18, g19, g20, undef] H R =
  (Br (decide ((i : Int) < (a_n : Int))) ((0 : Int) ≤ i ∧ i < (a_n : Int) ∧ ∃ b2 f1, (a_a : Option Addr) = some ⟨b2, f1, none⟩ ∧ ∃ x1 : Int,  rdC H b2 (f1 + (i : Int).toNat * 1) = some (.int .i64 x1) ∧ (0 : Int) ≤ i ∧ i < (((a_n : Int)).toNat : Int) ∧ ∃ b3 f2, (some ⟨b1, 0, none⟩ : Option Addr) = some ⟨b3, f2, none⟩ ∧ isOwn H b3 ∧ (∃ l, rdN H b3 (f2 + (i : Int).toNat * 1) 1 = some l) ∧ Lt (setC H b3 (f2 + (i : Int).toNat * 1) (.int .i64 x1)) fun H2 => R .normal [.slice a_a a_n a_e, undef, .slice none 0 0, .slice (some ⟨b1, 0, none⟩) (((a_n : Int)).toNat) 1, .int .i64 (IntKind.wrap .i64 (i + 1)), .slice a_a a_n a_e, .int .i64 (a_n : Int), .slice (some ⟨b1, 0, none⟩) (((a_n : Int)).toNat) 1, .int .i64 i, .slice a_a a_n a_e, .int .i64 (a_n : Int), .bool (decide ((i : Int) < (a_n : Int))), .int .i64 i, .int .i64 (IntKind.wrap .i64 (i + 1)), .slice (some ⟨b1, 0, none⟩) (((a_n : Int)).toNat) 1, .int .i64 i, .slice a_a a_n a_e, .int .i64 i, .pointer (some ⟨b2, f1 + (i : Int).toNat * 1, none⟩), .int .i64 x1, .pointer (some ⟨b3, f2 + (i : Int).toNat * 1, none⟩), undef] H2) (R (.exit 0) [.slice a_a a_n a_e, undef, .slice none 0 0, .slice (some ⟨b1, 0, none⟩) (((a_n : Int)).toNat) 1, .int .i64 i, .slice a_a a_n a_e, .int .i64 (a_n : Int), .slice (some ⟨b1, 0, none⟩) (((a_n : Int)).toNat) 1, .int .i64 i, .slice a_a a_n a_e, .int .i64 (a_n : Int), .bool (decide ((i : Int) < (a_n : Int))), g12, g13, g14, g15, g16, g17, g18, g19, g20, undef] H)) := by kernel_rfl
def laws_toInt64S_I1 (a_a : Option Addr) (a_e : Nat) (a_n : Nat) (b1 : Nat) (Inv : Nat → Int → AHeap → Prop) : Nat → List Value → AHeap → Prop := fun μ tm H => ∃ (i : Int), ∃ g8 g9 g10 g11 g12 g13 g14 g15 g16 g17 g18 g19 g20, tm = [.slice a_a a_n a_e, undef, .slice none 0 0, .slice (some ⟨b1, 0, none⟩) (((a_n : Int)).toNat) 1, .int .i64 i, .slice a_a a_n a_e, .int .i64 (a_n : Int), .slice (some ⟨b1, 0, none⟩) (((a_n : Int)).toNat) 1, g8, g9, g10, g11, g12, g13, g14, g15, g16, g17, g18, g19, g20, undef] ∧ Inv μ i H
theorem laws_toInt64S_L1 (a_a : Option Addr) (a_e : Nat) (a_n : Nat) (b1 : Nat) {Q : Post} (Inv : Nat → Int → AHeap → Prop) (ν : Nat) (i : Int) (g8 g9 g10 g11 g12 g13 g14 g15 g16 g17 g18 g19 g20 : Value) (H : AHeap) (h0 : Inv ν i H)
    (hs : ∀ (μ : Nat) (i : Int) (g8 g9 g10 g11 g12 g13 g14 g15 g16 g17 g18 g19 g20 : Value) (H : AHeap), Inv μ i H → exK Try.prog E_laws_toInt64S (cl (cl (cr (cl (cr (cr (bodyC Try.f25))))))) [.slice a_a a_n a_e, undef, .slice none 0 0, .slice (some ⟨b1, 0, none⟩) (((a_n : Int)).toNat) 1, .int .i64 i, .slice a_a a_n a_e, .int .i64 (a_n : Int), .slice (some ⟨b1, 0, none⟩) (((a_n : Int)).toNat) 1, g8, g9, g10, g11, g12, g13, g14, g15, g16, g17, g18, g19, g20, undef] H (loopQ (laws_toInt64S_I1 a_a a_e a_n b1 Inv) μ Q)) : loopK (exK Try.prog E_laws_toInt64S (cl (cl (cr (cl (cr (cr (bodyC Try.f25)))))))) [.slice a_a a_n a_e, undef, .slice none 0 0, .slice (some ⟨b1, 0, none⟩) (((a_n : Int)).toNat) 1, .int .i64 i, .slice a_a a_n a_e, .int .i64 (a_n : Int), .slice (some ⟨b1, 0, none⟩) (((a_n : Int)).toNat) 1, g8, g9, g10, g11, g12, g13, g14, g15, g16, g17, g18, g19, g20, undef] H Q :=
  ⟨laws_toInt64S_I1 a_a a_e a_n b1 Inv, ν, ⟨i, g8, g9, g10, g11, g12, g13, g14, g15, g16, g17, g18, g19, g20, rfl, h0⟩, fun μ tm H h => by obtain ⟨i, g8, g9, g10, g11, g12, g13, g14, g15, g16, g17, g18, g19, g20, rfl, hI⟩ := h; exact hs μ i g8 g9 g10 g11 g12 g13 g14 g15 g16 g17 g18 g19 g20 H hI⟩
theorem laws_toInt64S_n1 {a_a : Option Addr} {a_e : Nat} {a_n : Nat} {b1 : Nat} {Q : Post} {Inv : Nat → Int → AHeap → Prop} {μ : Nat} (μ' : Nat) {i : Int} {g8 g9 g10 g11 g12 g13 g14 g15 g16 g17 g18 g19 g20 : Value} {H : AHeap} (hm : μ' < μ) (hI : Inv μ' i H) : loopQ (laws_toInt64S_I1 a_a a_e a_n b1 Inv) μ Q .normal [.slice a_a a_n a_e, undef, .slice none 0 0, .slice (some ⟨b1, 0, none⟩) (((a_n : Int)).toNat) 1, .int .i64 i, .slice a_a a_n a_e, .int .i64 (a_n : Int), .slice (some ⟨b1, 0, none⟩) (((a_n : Int)).toNat) 1, g8, g9, g10, g11, g12, g13, g14, g15, g16, g17, g18, g19, g20, undef] H := ⟨μ', hm, i, g8, g9, g10, g11, g12, g13, g14, g15, g16, g17, g18, g19, g20, rfl, hI⟩
theorem laws_toInt64S_x1_0 (a_a : Option Addr) (a_e : Nat) (a_n : Nat) (b1 : Nat) (i : Int) (g8 g9 g10 g11 g12 g13 g14 g15 g16 g17 g18 g19 g20 : Value) (H : AHeap) (K : Value → AHeap → Prop)  {I : Nat → List Value → AHeap → Prop} {μ : Nat} : loopQ I μ (blockQ 0 (seqQ (exK Try.prog E_laws_toInt64S (cr (cr (cr (bodyC Try.f25))))) (retK Try.prog Try.f25 K))) (.exit 0) [.slice a_a a_n a_e, undef, .slice none 0 0, .slice (some ⟨b1, 0, none⟩) (((a_n : Int)).toNat) 1, .int .i64 i, .slice a_a a_n a_e, .int .i64 (a_n : Int), .slice (some ⟨b1, 0, none⟩) (((a_n : Int)).toNat) 1, g8, g9, g10, g11, g12, g13, g14, g15, g16, g17, g18, g19, g20, undef] H =
  (K (.slice (some ⟨b1, 0, none⟩) (((a_n : Int)).toNat) 1) H) := by kernel_rfl
theorem E_laws_toInt64S_ok : ∀ g, FnOk Try.prog g (E_laws_toInt64S g) := FnOk.envOf (by
  intro x hx; cases hx)
set_option maxHeartbeats 1000000 in
theorem laws_toInt64S_main (a_a : Option Addr) (a_n : Nat) (a_e : Nat) (H : AHeap) (K : Value → AHeap → Prop) (h : T_laws_toInt64S a_a a_n a_e H fun (r1_a : Option Addr) (r1_n : Nat) (r1_e : Nat) (H' : AHeap) => K (.slice r1_a r1_n r1_e) H') : bodyK Try.prog E_laws_toInt64S Try.f25 [.slice a_a a_n a_e] H K := by
  rw [laws_toInt64S_vc]
  obtain ⟨l_a, i_a, bd_29, hk⟩ := h
  have hk : (∀ (r1_a : Option Addr) (r1_n r1_e : Nat), ∀ H' : AHeap, Grow H H' → OwnS fI H' H.length r1_a r1_n r1_e (p_laws_toInt64S l_a) → (fun (r1_a : Option Addr) (r1_n : Nat) (r1_e : Nat) (H' : AHeap) => K (.slice r1_a r1_n r1_e) H') r1_a r1_n r1_e H') := by rw [laws_toInt64S_id l_a]; exact hk
  obtain rfl := i_a.eqn
  have e : (p_laws_toInt64S l_a) = _ := rfl
  have e := e.trans (p_laws_toInt64S_eq l_a)
  have g0 := Grow.refl H
  refine ⟨by omega, rfl, (by have := most_eq; omega), ?_⟩
  refine Al.intro (fun b_1 H_1 hb_2 hl_3 g_4 o_5 => ?_)
  rw [zeros_map fI 0 _ rfl] at o_5
  have l_7 := g_4.1
  have g_8 := g0.trans g_4
  have l_9 := g_8.1
  have w_28 := o_5.lt
  refine laws_toInt64S_L1 _ _ _ _ (fun (μ : Nat) (i : Int) (H_2 : AHeap) => ∃ (y1_1 : List Int), Own H_2 b_1 (y1_1.map fI) ∧ y1_1.length = ((l_a.length : Int)).toNat ∧ Grow H H_2 ∧ (0 : Int) ≤ i ∧ i ≤ (l_a.length : Int) ∧ (l_a.length : Int) - i ≤ (μ : Int) ∧ p_laws_toInt64S l_a = p_laws_toInt64S_l1 l_a (μ + 1) i y1_1) (Int.toNat ((l_a.length : Int) - (0 : Int))) _ _ _ _ _ _ _ _ _ _ _ _ _ _ H_1 ?_ ?_
  · exact ⟨_, o_5, (by first | rfl | (simp; done)), g_8, (by first | omega | (simp; done) | (simp; omega)), (by first | omega | (simp; done) | (simp; omega)), (by omega), e⟩
  · intro μ i g8 g9 g10 g11 g12 g13 g14 g15 g16 g17 g18 g19 g20 H_2 hI
    obtain ⟨y1_1, o_10, y_11, g_12, v_13, v_14, hμ, e⟩ := hI
    rw [laws_toInt64S_r1]
    have e := e.trans (p_laws_toInt64S_l1_s l_a μ i y1_1)
    have w_15 := o_10.lt
    have l_16 := g_12.1
    refine Br.intro (fun c_17 => ?_) (fun c_17 => ?_)
    · have e := e.trans (cond_t c_17)
      have c_17' := of_decide_eq_true c_17
      obtain ⟨b_18, f_19, q_20⟩ := ((i_a.grow g_12)).pos (by first | omega | (simp only [List.length_set, List.length_replicate, List.length_append, List.length_cons, List.length_nil, List.length_take, List.length_drop, marks_length]; done) | (simp only [List.length_set, List.length_replicate, List.length_append, List.length_cons, List.length_nil, List.length_take, List.length_drop, marks_length]; omega))
      refine ⟨by omega, by omega, b_18, f_19, q_20, ?_⟩
      refine ⟨((l_a).getD (i : Int).toNat 0), (i_a).rd g_12 q_20 (by omega) _, ?_⟩
      refine ⟨by omega, (by omega), _, _, rfl, ?_⟩
      refine Lt.set o_10 (by simp only [List.length_map]; (first | omega | (simp only [List.length_set, List.length_replicate, List.length_append, List.length_cons, List.length_nil, List.length_take, List.length_drop, marks_length]; done) | (simp only [List.length_set, List.length_replicate, List.length_append, List.length_cons, List.length_nil, List.length_take, List.length_drop, marks_length]; omega))) (fun H_3 hl_21 o_23 k_22 => ?_)
      have o_23 := map_set o_23
      have l_24 := k_22.1
      have g_25 := g_12.keep (b := b_1) (by omega) k_22
      have l_26 := g_25.1
      have w_27 := o_23.lt
      rw [show IntKind.wrap .i64 (i + 1) = (i + 1) from wrap64 (by omega) (by omega)]
      refine laws_toInt64S_n1 (μ - 1) (by first | omega) ⟨_, o_23, (by first | assumption | omega | (simp only [List.length_set]; first | rfl | assumption | omega)), g_25, (by first | omega | (simp only [List.length_append, List.length_cons, List.length_nil, List.length_set]; done) | (simp only [List.length_append, List.length_cons, List.length_nil, List.length_set]; omega)), (by first | omega | (simp only [List.length_append, List.length_cons, List.length_nil, List.length_set]; done) | (simp only [List.length_append, List.length_cons, List.length_nil, List.length_set]; omega)), (by first | omega), (by rw [show μ - 1 + 1 = μ from by first | omega]; exact e)⟩
    · have e := e.trans (cond_f c_17)
      have c_17' := of_decide_eq_false c_17
      rw [laws_toInt64S_x1_0]
      rw [e] at hk
      exact hk _ _ _ H_2 g_12 (o_10.ownS (by first | (simp only [List.length_replicate]; done) | omega | (simp; omega)) (by omega))
theorem laws_toInt64S_ok : FnOk Try.prog 25 S_laws_toInt64S := by
  refine FnOk.body mix_ok E_laws_toInt64S_ok Try.func25 rfl (by kernel_rfl) (by kernel_rfl) ?_ ?_ ?_ ?_ ?_
  · intro args H K K' h hk
    simp only [S_laws_toInt64S] at *
    unfold F_laws_toInt64S at *
    split at hk
    · obtain ⟨l_a, i_a, bd_29, k⟩ := hk
      exact ⟨l_a, i_a, bd_29, (fun r1_a r1_n r1_e H' gg ow0 => h _ _ (k r1_a r1_n r1_e H' gg ow0))⟩
    · exact hk.elim
  · intro hq; cases hq
  · intro args H K hk
    simp only [S_laws_toInt64S] at *
    unfold F_laws_toInt64S at *
    split at hk
    · obtain ⟨l_a, i_a, bd_29, k⟩ := hk
      exact liveS fun a n e H1 g o => ⟨_, _, k a n e H1 g o⟩
    · exact hk.elim
  · intro _ args H K hk
    simp only [S_laws_toInt64S] at *
    unfold F_laws_toInt64S at *
    split at hk
    · obtain ⟨l_a, i_a, bd_29, k⟩ := hk
      exact ⟨l_a, i_a, bd_29, (fun r1_a r1_n r1_e H' gg ow0 => ⟨gg, k r1_a r1_n r1_e H' gg ow0⟩)⟩
    · exact hk.elim
  · have mm := @laws_toInt64S_main
    revert mm
    generalize bodyK Try.prog E_laws_toInt64S Try.f25 = Q
    intro mm args H K hk
    simp only [S_laws_toInt64S] at *
    unfold F_laws_toInt64S at *
    split at hk
    · exact mm _ _ _ H K hk
    · exact hk.elim
def p_spec_l01Finite (x : Nat) : Bool := feq .f32 (fsub .f32 x x) 0
theorem p_spec_l01Finite_eq (x : Nat) : p_spec_l01Finite x = feq .f32 (fsub .f32 x x) 0 := rfl
def T_spec_l01Finite (x : Nat) (H : AHeap) (K : Bool → AHeap → Prop) : Prop := K (p_spec_l01Finite x) H

theorem T_spec_l01Finite_i {x : Nat} {H : AHeap} {K : Bool → AHeap → Prop} (h : K (p_spec_l01Finite x) H) : T_spec_l01Finite x H K := h
/-! spec_l01Finite: function 57 -/
def E_spec_l01Finite : Env := envOf []
def F_spec_l01Finite : List Value → AHeap → (Value → AHeap → Prop) → Prop
  | [.float .f32 x], H, K => T_spec_l01Finite x H fun (r1 : Bool) (H' : AHeap) => K (.bool r1) H'
  | _, _, _ => False
def S_spec_l01Finite : FSpec := { F := F_spec_l01Finite, quiet := true, tame := false }
theorem spec_l01Finite_vc (x : Nat) (H : AHeap) (K : Value → AHeap → Prop) : bodyK Try.prog E_spec_l01Finite Try.f57 [.float .f32 x] H K =
  (K (.bool (feq .f32 (fsub .f32 x x) 0)) H) := by kernel_rfl
theorem E_spec_l01Finite_ok : ∀ g, FnOk Try.prog g (E_spec_l01Finite g) := FnOk.envOf (by
  intro x hx; cases hx)
set_option maxHeartbeats 1000000 in
theorem spec_l01Finite_main (x : Nat) (H : AHeap) (K : Value → AHeap → Prop) (h : T_spec_l01Finite x H fun (r1 : Bool) (H' : AHeap) => K (.bool r1) H') : bodyK Try.prog E_spec_l01Finite Try.f57 [.float .f32 x] H K := by
  rw [spec_l01Finite_vc]
  unfold T_spec_l01Finite p_spec_l01Finite at h
  repeat' (first | exact h | (exfalso; simp_all; done) | (refine ⟨by decide, ?_⟩) | (refine Br.intro (fun hb => ?_) (fun hb => ?_) <;> (try simp only [hb, cond_true, cond_false, Bool.not_true, Bool.not_false] at h)))
theorem spec_l01Finite_ok : FnOk Try.prog 57 S_spec_l01Finite := by
  refine FnOk.body mix_ok E_spec_l01Finite_ok Try.func57 rfl (by kernel_rfl) (by kernel_rfl) ?_ ?_ ?_ ?_ ?_
  · intro args H K K' h hk
    simp only [S_spec_l01Finite] at *
    unfold F_spec_l01Finite at *
    split at hk
    · have k := hk
      exact h _ _ k
    · exact hk.elim
  · intro _ args H K hk
    simp only [S_spec_l01Finite] at *
    unfold F_spec_l01Finite at *
    split at hk
    · have k := hk
      exact ⟨_, k, fun K' k' => k'⟩
    · exact hk.elim
  · intro args H K hk
    simp only [S_spec_l01Finite] at *
    unfold F_spec_l01Finite at *
    split at hk
    · have k := hk
      exact ⟨_, _, k⟩
    · exact hk.elim
  · intro hq; cases hq
  · have mm := @spec_l01Finite_main
    revert mm
    generalize bodyK Try.prog E_spec_l01Finite Try.f57 = Q
    intro mm args H K hk
    simp only [S_spec_l01Finite] at *
    unfold F_spec_l01Finite at *
    split at hk
    · exact mm _ H K hk
    · exact hk.elim
def p_spec_l02Finite_l1 (l_list : List Nat) : Nat → Bool → Int → Bool
  | 0, _, _ => false
  | μ + 1, t2, i => (bif decide ((i : Int) < (l_list.length : Int)) then (bif !((p_spec_l01Finite (((l_list).getD (i : Int).toNat 0)))) then false else (p_spec_l02Finite_l1 l_list μ t2 (i + 1))) else true)
theorem p_spec_l02Finite_l1_s (l_list : List Nat) (μ : Nat) (t2 : Bool) (i : Int) : p_spec_l02Finite_l1 l_list (μ + 1) t2 i = (bif decide ((i : Int) < (l_list.length : Int)) then (bif !((p_spec_l01Finite (((l_list).getD (i : Int).toNat 0)))) then false else (p_spec_l02Finite_l1 l_list μ t2 (i + 1))) else true) := rfl
def p_spec_l02Finite (l_list : List Nat) : Bool := (p_spec_l02Finite_l1 l_list (Int.toNat ((l_list.length : Int) - (0 : Int)) + 1) false (0 : Int))
theorem p_spec_l02Finite_eq (l_list : List Nat) : p_spec_l02Finite l_list = (p_spec_l02Finite_l1 l_list (Int.toNat ((l_list.length : Int) - (0 : Int)) + 1) false (0 : Int)) := rfl
def T_spec_l02Finite (list_a : Option Addr) (list_n : Nat) (list_e : Nat) (H : AHeap) (K : Bool → AHeap → Prop) : Prop := ∃ (l_list : List Nat), IsL fF H list_a list_n l_list ∧ l_list.length < 1073741824 ∧ K (p_spec_l02Finite l_list) H
theorem T_spec_l02Finite_i {list_a : Option Addr} {list_n : Nat} {list_e : Nat} {H : AHeap} {K : Bool → AHeap → Prop} (h : ∃ (l_list : List Nat), IsL fF H list_a list_n l_list ∧ l_list.length < 1073741824 ∧ K (p_spec_l02Finite l_list) H) : T_spec_l02Finite list_a list_n list_e H K := h

/-! spec_l02Finite: function 67 -/
def E_spec_l02Finite : Env := envOf [(57, S_spec_l01Finite)]
def F_spec_l02Finite : List Value → AHeap → (Value → AHeap → Prop) → Prop
  | [.slice list_a list_n list_e], H, K => T_spec_l02Finite list_a list_n list_e H fun (r1 : Bool) (H' : AHeap) => K (.bool r1) H'
  | _, _, _ => False
def S_spec_l02Finite : FSpec := { F := F_spec_l02Finite, quiet := true, tame := false }
theorem spec_l02Finite_vc (list_a : Option Addr) (list_n : Nat) (list_e : Nat) (H : AHeap) (K : Value → AHeap → Prop) : bodyK Try.prog E_spec_l02Finite Try.f67 [.slice list_a list_n list_e] H K =
  (loopK (exK Try.prog E_spec_l02Finite (cl (cl (cr (cl (cr (bodyC Try.f67))))))) [.slice list_a list_n list_e, undef, .bool false, .int .i64 0, undef, undef, undef, undef, undef, undef, undef, undef, undef, undef, undef, undef] H (blockQ 0 (seqQ (exK Try.prog E_spec_l02Finite (cr (cr (bodyC Try.f67)))) (retK Try.prog Try.f67 K)))) := by kernel_rfl
theorem spec_l02Finite_r1 (list_a : Option Addr) (list_e : Nat) (list_n : Nat) (t2 : Bool) (i : Int) (g4 g5 g6 g7 g8 g9 g10 g11 g12 g13 g14 g15 : Value) (H : AHeap) (R : Post) : exK Try.prog E_spec_l02Finite (cl (cl (cr (cl (cr (bodyC Try.f67)))))) [.slice list_a list_n list_e, undef, .bool t2, .int .i64 i, g4, g5, g6, g7, g8, g9, g10, g11, g12, g13, g14, g15] H R =
  (Br (decide ((i : Int) < (list_n : Int))) ((0 : Int) ≤ i ∧ i < (list_n : Int) ∧ ∃ b1 f1, (list_a : Option Addr) = some ⟨b1, f1, none⟩ ∧ ∃ x1 : Nat,  rdC H b1 (f1 + (i : Int).toNat * 1) = some (.float .f32 x1) ∧ T_spec_l01Finite x1 H fun (r1 : Bool) (H1 : AHeap) => Br (!r1) (R .ret [.slice list_a list_n list_e, undef, .bool false, .int .i64 i, .int .i64 i, .slice list_a list_n list_e, .int .i64 (list_n : Int), .bool (decide ((i : Int) < (list_n : Int))), g8, g9, .slice list_a list_n list_e, .int .i64 i, .pointer (some ⟨b1, f1 + (i : Int).toNat * 1, none⟩), .float .f32 x1, .bool r1, .bool (!r1)] H1) (R .normal [.slice list_a list_n list_e, undef, .bool t2, .int .i64 (IntKind.wrap .i64 (i + 1)), .int .i64 i, .slice list_a list_n list_e, .int .i64 (list_n : Int), .bool (decide ((i : Int) < (list_n : Int))), .int .i64 i, .int .i64 (IntKind.wrap .i64 (i + 1)), .slice list_a list_n list_e, .int .i64 i, .pointer (some ⟨b1, f1 + (i : Int).toNat * 1, none⟩), .float .f32 x1, .bool r1, .bool (!r1)] H1)) (R (.exit 0) [.slice list_a list_n list_e, undef, .bool t2, .int .i64 i, .int .i64 i, .slice list_a list_n list_e, .int .i64 (list_n : Int), .bool (decide ((i : Int) < (list_n : Int))), g8, g9, g10, g11, g12, g13, g14, g15] H)) := by kernel_rfl
def spec_l02Finite_I1 (list_a : Option Addr) (list_e : Nat) (list_n : Nat) (Inv : Nat → Bool → Int → AHeap → Prop) : Nat → List Value → AHeap → Prop := fun μ tm H => ∃ (t2 : Bool), ∃ (i : Int), ∃ g4 g5 g6 g7 g8 g9 g10 g11 g12 g13 g14 g15, tm = [.slice list_a list_n list_e, undef, .bool t2, .int .i64 i, g4, g5, g6, g7, g8, g9, g10, g11, g12, g13, g14, g15] ∧ Inv μ t2 i H
theorem spec_l02Finite_L1 (list_a : Option Addr) (list_e : Nat) (list_n : Nat) {Q : Post} (Inv : Nat → Bool → Int → AHeap → Prop) (ν : Nat) (t2 : Bool) (i : Int) (g4 g5 g6 g7 g8 g9 g10 g11 g12 g13 g14 g15 : Value) (H : AHeap) (h0 : Inv ν t2 i H)
    (hs : ∀ (μ : Nat) (t2 : Bool) (i : Int) (g4 g5 g6 g7 g8 g9 g10 g11 g12 g13 g14 g15 : Value) (H : AHeap), Inv μ t2 i H → exK Try.prog E_spec_l02Finite (cl (cl (cr (cl (cr (bodyC Try.f67)))))) [.slice list_a list_n list_e, undef, .bool t2, .int .i64 i, g4, g5, g6, g7, g8, g9, g10, g11, g12, g13, g14, g15] H (loopQ (spec_l02Finite_I1 list_a list_e list_n Inv) μ Q)) : loopK (exK Try.prog E_spec_l02Finite (cl (cl (cr (cl (cr (bodyC Try.f67))))))) [.slice list_a list_n list_e, undef, .bool t2, .int .i64 i, g4, g5, g6, g7, g8, g9, g10, g11, g12, g13, g14, g15] H Q :=
  ⟨spec_l02Finite_I1 list_a list_e list_n Inv, ν, ⟨t2, i, g4, g5, g6, g7, g8, g9, g10, g11, g12, g13, g14, g15, rfl, h0⟩, fun μ tm H h => by obtain ⟨t2, i, g4, g5, g6, g7, g8, g9, g10, g11, g12, g13, g14, g15, rfl, hI⟩ := h; exact hs μ t2 i g4 g5 g6 g7 g8 g9 g10 g11 g12 g13 g14 g15 H hI⟩
theorem spec_l02Finite_n1 {list_a : Option Addr} {list_e : Nat} {list_n : Nat} {Q : Post} {Inv : Nat → Bool → Int → AHeap → Prop} {μ : Nat} (μ' : Nat) {t2 : Bool} {i : Int} {g4 g5 g6 g7 g8 g9 g10 g11 g12 g13 g14 g15 : Value} {H : AHeap} (hm : μ' < μ) (hI : Inv μ' t2 i H) : loopQ (spec_l02Finite_I1 list_a list_e list_n Inv) μ Q .normal [.slice list_a list_n list_e, undef, .bool t2, .int .i64 i, g4, g5, g6, g7, g8, g9, g10, g11, g12, g13, g14, g15] H := ⟨μ', hm, t2, i, g4, g5, g6, g7, g8, g9, g10, g11, g12, g13, g14, g15, rfl, hI⟩
theorem spec_l02Finite_x1_0 (list_a : Option Addr) (list_e : Nat) (list_n : Nat) (t2 : Bool) (i : Int) (g4 g5 g6 g7 g8 g9 g10 g11 g12 g13 g14 g15 : Value) (H : AHeap) (K : Value → AHeap → Prop)  {I : Nat → List Value → AHeap → Prop} {μ : Nat} : loopQ I μ (blockQ 0 (seqQ (exK Try.prog E_spec_l02Finite (cr (cr (bodyC Try.f67)))) (retK Try.prog Try.f67 K))) (.exit 0) [.slice list_a list_n list_e, undef, .bool t2, .int .i64 i, g4, g5, g6, g7, g8, g9, g10, g11, g12, g13, g14, g15] H =
  (K (.bool true) H) := by kernel_rfl
theorem spec_l02Finite_x1_ret (list_a : Option Addr) (list_e : Nat) (list_n : Nat) (t2 : Bool) (i : Int) (g4 g5 g6 g7 g8 g9 g10 g11 g12 g13 g14 g15 : Value) (H : AHeap) (K : Value → AHeap → Prop)  {I : Nat → List Value → AHeap → Prop} {μ : Nat} : loopQ I μ (blockQ 0 (seqQ (exK Try.prog E_spec_l02Finite (cr (cr (bodyC Try.f67)))) (retK Try.prog Try.f67 K))) .ret [.slice list_a list_n list_e, undef, .bool t2, .int .i64 i, g4, g5, g6, g7, g8, g9, g10, g11, g12, g13, g14, g15] H =
  (K (.bool t2) H) := by kernel_rfl
theorem E_spec_l02Finite_ok : ∀ g, FnOk Try.prog g (E_spec_l02Finite g) := FnOk.envOf (by
  intro x hx
  simp only [List.mem_cons, List.not_mem_nil, or_false] at hx
  subst hx; exact spec_l01Finite_ok)
set_option maxHeartbeats 1000000 in
theorem spec_l02Finite_main (list_a : Option Addr) (list_n : Nat) (list_e : Nat) (H : AHeap) (K : Value → AHeap → Prop) (h : T_spec_l02Finite list_a list_n list_e H fun (r1 : Bool) (H' : AHeap) => K (.bool r1) H') : bodyK Try.prog E_spec_l02Finite Try.f67 [.slice list_a list_n list_e] H K := by
  rw [spec_l02Finite_vc]
  obtain ⟨l_list, i_list, bd_9, hk⟩ := h
  obtain rfl := i_list.eqn
  have e : (p_spec_l02Finite l_list) = _ := rfl
  have e := e.trans (p_spec_l02Finite_eq l_list)
  have g0 := Grow.refl H
  refine spec_l02Finite_L1 _ _ _ (fun (μ : Nat) (t2 : Bool) (i : Int) (H_1 : AHeap) => H = H_1 ∧ (0 : Int) ≤ i ∧ i ≤ (l_list.length : Int) ∧ (l_list.length : Int) - i ≤ (μ : Int) ∧ p_spec_l02Finite l_list = p_spec_l02Finite_l1 l_list (μ + 1) t2 i) (Int.toNat ((l_list.length : Int) - (0 : Int))) _ _ _ _ _ _ _ _ _ _ _ _ _ _ H ?_ ?_
  · exact ⟨rfl, (by first | omega | (simp; done) | (simp; omega)), (by first | omega | (simp; done) | (simp; omega)), (by omega), e⟩
  · intro μ t2 i g4 g5 g6 g7 g8 g9 g10 g11 g12 g13 g14 g15 H_1 hI
    obtain ⟨rfl, v_1, v_2, hμ, e⟩ := hI
    rw [spec_l02Finite_r1]
    have e := e.trans (p_spec_l02Finite_l1_s l_list μ t2 i)
    have l_3 := g0.1
    refine Br.intro (fun c_4 => ?_) (fun c_4 => ?_)
    · have e := e.trans (cond_t c_4)
      have c_4' := of_decide_eq_true c_4
      obtain ⟨b_5, f_6, q_7⟩ := ((i_list.grow g0)).pos (by first | omega | (simp only [List.length_set, List.length_replicate, List.length_append, List.length_cons, List.length_nil, List.length_take, List.length_drop, marks_length]; done) | (simp only [List.length_set, List.length_replicate, List.length_append, List.length_cons, List.length_nil, List.length_take, List.length_drop, marks_length]; omega))
      refine ⟨by omega, by omega, b_5, f_6, q_7, ?_⟩
      refine ⟨((l_list).getD (i : Int).toNat 0), (i_list).rd g0 q_7 (by omega) _, ?_⟩
      refine T_spec_l01Finite_i ?_
      refine Br.intro (fun c_8 => ?_) (fun c_8 => ?_)
      · have e := e.trans (cond_t c_8)
        have c_8n := nf_of_t c_8
        rw [spec_l02Finite_x1_ret]
        rw [e] at hk
        exact hk
      · have e := e.trans (cond_f c_8)
        have c_8n := nt_of_f c_8
        rw [show IntKind.wrap .i64 (i + 1) = (i + 1) from wrap64 (by omega) (by omega)]
        refine spec_l02Finite_n1 (μ - 1) (by first | omega) ⟨rfl, (by first | omega | (simp only [List.length_append, List.length_cons, List.length_nil, List.length_set]; done) | (simp only [List.length_append, List.length_cons, List.length_nil, List.length_set]; omega)), (by first | omega | (simp only [List.length_append, List.length_cons, List.length_nil, List.length_set]; done) | (simp only [List.length_append, List.length_cons, List.length_nil, List.length_set]; omega)), (by first | omega), (by rw [show μ - 1 + 1 = μ from by first | omega]; exact e)⟩
    · have e := e.trans (cond_f c_4)
      have c_4' := of_decide_eq_false c_4
      rw [spec_l02Finite_x1_0]
      rw [e] at hk
      exact hk
theorem spec_l02Finite_ok : FnOk Try.prog 67 S_spec_l02Finite := by
  refine FnOk.body mix_ok E_spec_l02Finite_ok Try.func67 rfl (by kernel_rfl) (by kernel_rfl) ?_ ?_ ?_ ?_ ?_
  · intro args H K K' h hk
    simp only [S_spec_l02Finite] at *
    unfold F_spec_l02Finite at *
    split at hk
    · obtain ⟨l_list, i_list, bd_9, k⟩ := hk
      exact ⟨l_list, i_list, bd_9, h _ _ k⟩
    · exact hk.elim
  · intro _ args H K hk
    simp only [S_spec_l02Finite] at *
    unfold F_spec_l02Finite at *
    split at hk
    · obtain ⟨l_list, i_list, bd_9, k⟩ := hk
      exact ⟨_, k, fun K' k' => ⟨l_list, i_list, bd_9, k'⟩⟩
    · exact hk.elim
  · intro args H K hk
    simp only [S_spec_l02Finite] at *
    unfold F_spec_l02Finite at *
    split at hk
    · obtain ⟨l_list, i_list, bd_9, k⟩ := hk
      exact ⟨_, _, k⟩
    · exact hk.elim
  · intro hq; cases hq
  · have mm := @spec_l02Finite_main
    revert mm
    generalize bodyK Try.prog E_spec_l02Finite Try.f67 = Q
    intro mm args H K hk
    simp only [S_spec_l02Finite] at *
    unfold F_spec_l02Finite at *
    split at hk
    · exact mm _ _ _ H K hk
    · exact hk.elim
def p_spec_l03Long (l_list : List Nat) : Bool := (bif decide ((1 : Int) ≤ (l_list.length : Int)) then (bif decide (((l_list.length : Int) : Int) ≤ 128) then (p_spec_l02Finite l_list) else false) else false)
theorem p_spec_l03Long_eq (l_list : List Nat) : p_spec_l03Long l_list = (bif decide ((1 : Int) ≤ (l_list.length : Int)) then (bif decide (((l_list.length : Int) : Int) ≤ 128) then (p_spec_l02Finite l_list) else false) else false) := rfl
def T_spec_l03Long (list_a : Option Addr) (list_n : Nat) (list_e : Nat) (H : AHeap) (K : Bool → AHeap → Prop) : Prop := ∃ (l_list : List Nat), IsL fF H list_a list_n l_list ∧ l_list.length < 1073741824 ∧ K (p_spec_l03Long l_list) H
theorem T_spec_l03Long_i {list_a : Option Addr} {list_n : Nat} {list_e : Nat} {H : AHeap} {K : Bool → AHeap → Prop} (h : ∃ (l_list : List Nat), IsL fF H list_a list_n l_list ∧ l_list.length < 1073741824 ∧ K (p_spec_l03Long l_list) H) : T_spec_l03Long list_a list_n list_e H K := h
theorem spec_l03Long_t {l : List Nat} (h : p_spec_l03Long l = true) : 1 ≤ (l.length : Int) ∧ (l.length : Int) ≤ 128 := by
  rw [p_spec_l03Long_eq] at h
  by_cases h1 : (1 : Int) ≤ (l.length : Int)
  · rw [decide_eq_true h1, cond_true] at h
    by_cases h2 : (l.length : Int) ≤ 128
    · exact ⟨h1, h2⟩
    · rw [decide_eq_false h2] at h; cases h
  · rw [decide_eq_false h1] at h; cases h
/-! spec_l03Long: function 56 -/
def E_spec_l03Long : Env := envOf [(67, S_spec_l02Finite)]
def F_spec_l03Long : List Value → AHeap → (Value → AHeap → Prop) → Prop
  | [.slice list_a list_n list_e], H, K => T_spec_l03Long list_a list_n list_e H fun (r1 : Bool) (H' : AHeap) => K (.bool r1) H'
  | _, _, _ => False
def S_spec_l03Long : FSpec := { F := F_spec_l03Long, quiet := true, tame := false }
theorem spec_l03Long_vc (list_a : Option Addr) (list_n : Nat) (list_e : Nat) (H : AHeap) (K : Value → AHeap → Prop) : bodyK Try.prog E_spec_l03Long Try.f56 [.slice list_a list_n list_e] H K =
  (Br (decide ((1 : Int) ≤ (list_n : Int))) (Br (decide (((list_n : Int) : Int) ≤ 128)) (T_spec_l02Finite list_a list_n list_e H fun (r1 : Bool) (H1 : AHeap) => K (.bool r1) H1) (K (.bool false) H)) (K (.bool false) H)) := by kernel_rfl
theorem E_spec_l03Long_ok : ∀ g, FnOk Try.prog g (E_spec_l03Long g) := FnOk.envOf (by
  intro x hx
  simp only [List.mem_cons, List.not_mem_nil, or_false] at hx
  subst hx; exact spec_l02Finite_ok)
set_option maxHeartbeats 1000000 in
theorem spec_l03Long_main (list_a : Option Addr) (list_n : Nat) (list_e : Nat) (H : AHeap) (K : Value → AHeap → Prop) (h : T_spec_l03Long list_a list_n list_e H fun (r1 : Bool) (H' : AHeap) => K (.bool r1) H') : bodyK Try.prog E_spec_l03Long Try.f56 [.slice list_a list_n list_e] H K := by
  rw [spec_l03Long_vc]
  obtain ⟨l_list, i_list, bd_3, hk⟩ := h
  obtain rfl := i_list.eqn
  have e : (p_spec_l03Long l_list) = _ := rfl
  have e := e.trans (p_spec_l03Long_eq l_list)
  have g0 := Grow.refl H
  refine Br.intro (fun c_1 => ?_) (fun c_1 => ?_)
  · have e := e.trans (cond_t c_1)
    have c_1' := of_decide_eq_true c_1
    refine Br.intro (fun c_2 => ?_) (fun c_2 => ?_)
    · have e := e.trans (cond_t c_2)
      have c_2' := of_decide_eq_true c_2
      refine T_spec_l02Finite_i ⟨_, (i_list.grow g0), (by first | omega | (simp only [List.length_set, List.length_replicate, List.length_append, List.length_cons, List.length_nil, List.length_take, List.length_drop, marks_length]; done) | (simp only [List.length_set, List.length_replicate, List.length_append, List.length_cons, List.length_nil, List.length_take, List.length_drop, marks_length]; omega)), ?_⟩
      rw [e] at hk
      exact hk
    · have e := e.trans (cond_f c_2)
      have c_2' := of_decide_eq_false c_2
      rw [e] at hk
      exact hk
  · have e := e.trans (cond_f c_1)
    have c_1' := of_decide_eq_false c_1
    rw [e] at hk
    exact hk
theorem spec_l03Long_ok : FnOk Try.prog 56 S_spec_l03Long := by
  refine FnOk.body mix_ok E_spec_l03Long_ok Try.func56 rfl (by kernel_rfl) (by kernel_rfl) ?_ ?_ ?_ ?_ ?_
  · intro args H K K' h hk
    simp only [S_spec_l03Long] at *
    unfold F_spec_l03Long at *
    split at hk
    · obtain ⟨l_list, i_list, bd_3, k⟩ := hk
      exact ⟨l_list, i_list, bd_3, h _ _ k⟩
    · exact hk.elim
  · intro _ args H K hk
    simp only [S_spec_l03Long] at *
    unfold F_spec_l03Long at *
    split at hk
    · obtain ⟨l_list, i_list, bd_3, k⟩ := hk
      exact ⟨_, k, fun K' k' => ⟨l_list, i_list, bd_3, k'⟩⟩
    · exact hk.elim
  · intro args H K hk
    simp only [S_spec_l03Long] at *
    unfold F_spec_l03Long at *
    split at hk
    · obtain ⟨l_list, i_list, bd_3, k⟩ := hk
      exact ⟨_, _, k⟩
    · exact hk.elim
  · intro hq; cases hq
  · have mm := @spec_l03Long_main
    revert mm
    generalize bodyK Try.prog E_spec_l03Long Try.f56 = Q
    intro mm args H K hk
    simp only [S_spec_l03Long] at *
    unfold F_spec_l03Long at *
    split at hk
    · exact mm _ _ _ H K hk
    · exact hk.elim
def p_spec_l00In (n : Int) (low : Int) (high : Int) : Bool := (bif decide ((low : Int) ≤ n) then decide ((n : Int) ≤ high) else false)
theorem p_spec_l00In_eq (n : Int) (low : Int) (high : Int) : p_spec_l00In n low high = (bif decide ((low : Int) ≤ n) then decide ((n : Int) ≤ high) else false) := rfl
def T_spec_l00In (n : Int) (low : Int) (high : Int) (H : AHeap) (K : Bool → AHeap → Prop) : Prop := K (p_spec_l00In n low high) H
theorem spec_l00In_t {n a b : Int} (h : p_spec_l00In n a b = true) : a ≤ n ∧ n ≤ b := by
  unfold p_spec_l00In at h
  by_cases h1 : a ≤ n
  · rw [decide_eq_true h1, cond_true] at h; exact ⟨h1, of_decide_eq_true h⟩
  · rw [decide_eq_false h1] at h; cases h
theorem T_spec_l00In_i {n : Int} {low : Int} {high : Int} {H : AHeap} {K : Bool → AHeap → Prop} (h : K (p_spec_l00In n low high) H) : T_spec_l00In n low high H K := h
/-! spec_l00In: function 70 -/
def E_spec_l00In : Env := envOf []
def F_spec_l00In : List Value → AHeap → (Value → AHeap → Prop) → Prop
  | [.int .i64 n, .int .i64 low, .int .i64 high], H, K => T_spec_l00In n low high H fun (r1 : Bool) (H' : AHeap) => K (.bool r1) H'
  | _, _, _ => False
def S_spec_l00In : FSpec := { F := F_spec_l00In, quiet := true, tame := false }
theorem spec_l00In_vc (n : Int) (low : Int) (high : Int) (H : AHeap) (K : Value → AHeap → Prop) : bodyK Try.prog E_spec_l00In Try.f70 [.int .i64 n, .int .i64 low, .int .i64 high] H K =
  (Br (decide ((low : Int) ≤ n)) (K (.bool (decide ((n : Int) ≤ high))) H) (K (.bool false) H)) := by kernel_rfl
theorem E_spec_l00In_ok : ∀ g, FnOk Try.prog g (E_spec_l00In g) := FnOk.envOf (by
  intro x hx; cases hx)
set_option maxHeartbeats 1000000 in
theorem spec_l00In_main (n : Int) (low : Int) (high : Int) (H : AHeap) (K : Value → AHeap → Prop) (h : T_spec_l00In n low high H fun (r1 : Bool) (H' : AHeap) => K (.bool r1) H') : bodyK Try.prog E_spec_l00In Try.f70 [.int .i64 n, .int .i64 low, .int .i64 high] H K := by
  rw [spec_l00In_vc]
  unfold T_spec_l00In p_spec_l00In at h
  repeat' (first | exact h | (exfalso; simp_all; done) | (refine ⟨by decide, ?_⟩) | (refine Br.intro (fun hb => ?_) (fun hb => ?_) <;> (try simp only [hb, cond_true, cond_false, Bool.not_true, Bool.not_false] at h)))
theorem spec_l00In_ok : FnOk Try.prog 70 S_spec_l00In := by
  refine FnOk.body mix_ok E_spec_l00In_ok Try.func70 rfl (by kernel_rfl) (by kernel_rfl) ?_ ?_ ?_ ?_ ?_
  · intro args H K K' h hk
    simp only [S_spec_l00In] at *
    unfold F_spec_l00In at *
    split at hk
    · have k := hk
      exact h _ _ k
    · exact hk.elim
  · intro _ args H K hk
    simp only [S_spec_l00In] at *
    unfold F_spec_l00In at *
    split at hk
    · have k := hk
      exact ⟨_, k, fun K' k' => k'⟩
    · exact hk.elim
  · intro args H K hk
    simp only [S_spec_l00In] at *
    unfold F_spec_l00In at *
    split at hk
    · have k := hk
      exact ⟨_, _, k⟩
    · exact hk.elim
  · intro hq; cases hq
  · have mm := @spec_l00In_main
    revert mm
    generalize bodyK Try.prog E_spec_l00In Try.f70 = Q
    intro mm args H K hk
    simp only [S_spec_l00In] at *
    unfold F_spec_l00In at *
    split at hk
    · exact mm _ _ _ H K hk
    · exact hk.elim
def p_spec_l05Mean_l1 (l_list : List Nat) : Nat → Nat → Int → Nat
  | 0, _, _ => 0
  | μ + 1, sum, t7 => (bif decide ((t7 : Int) < (l_list.length : Int)) then (p_spec_l05Mean_l1 l_list μ (fadd .f32 sum (((l_list).getD (t7 : Int).toNat 0))) (t7 + 1)) else fdiv .f32 sum (FloatKind.nearest .f32 (l_list.length : Int)))
theorem p_spec_l05Mean_l1_s (l_list : List Nat) (μ : Nat) (sum : Nat) (t7 : Int) : p_spec_l05Mean_l1 l_list (μ + 1) sum t7 = (bif decide ((t7 : Int) < (l_list.length : Int)) then (p_spec_l05Mean_l1 l_list μ (fadd .f32 sum (((l_list).getD (t7 : Int).toNat 0))) (t7 + 1)) else fdiv .f32 sum (FloatKind.nearest .f32 (l_list.length : Int))) := rfl
def p_spec_l05Mean (l_list : List Nat) : Nat := (p_spec_l05Mean_l1 l_list (Int.toNat ((l_list.length : Int) - (0 : Int)) + 1) 0 (0 : Int))
theorem p_spec_l05Mean_eq (l_list : List Nat) : p_spec_l05Mean l_list = (p_spec_l05Mean_l1 l_list (Int.toNat ((l_list.length : Int) - (0 : Int)) + 1) 0 (0 : Int)) := rfl
def T_spec_l05Mean (list_a : Option Addr) (list_n : Nat) (list_e : Nat) (H : AHeap) (K : Nat → AHeap → Prop) : Prop := ∃ (l_list : List Nat), IsL fF H list_a list_n l_list ∧ l_list.length < 1073741824 ∧ K (p_spec_l05Mean l_list) H
theorem T_spec_l05Mean_i {list_a : Option Addr} {list_n : Nat} {list_e : Nat} {H : AHeap} {K : Nat → AHeap → Prop} (h : ∃ (l_list : List Nat), IsL fF H list_a list_n l_list ∧ l_list.length < 1073741824 ∧ K (p_spec_l05Mean l_list) H) : T_spec_l05Mean list_a list_n list_e H K := h

/-! spec_l05Mean: function 71 -/
def E_spec_l05Mean : Env := envOf []
def F_spec_l05Mean : List Value → AHeap → (Value → AHeap → Prop) → Prop
  | [.slice list_a list_n list_e], H, K => T_spec_l05Mean list_a list_n list_e H fun (r1 : Nat) (H' : AHeap) => K (.float .f32 r1) H'
  | _, _, _ => False
def S_spec_l05Mean : FSpec := { F := F_spec_l05Mean, quiet := true, tame := false }
theorem spec_l05Mean_vc (list_a : Option Addr) (list_n : Nat) (list_e : Nat) (H : AHeap) (K : Value → AHeap → Prop) : bodyK Try.prog E_spec_l05Mean Try.f71 [.slice list_a list_n list_e] H K =
  (loopK (exK Try.prog E_spec_l05Mean (cl (cl (cr (cl (cr (cr (bodyC Try.f71)))))))) [.slice list_a list_n list_e, undef, .float .f32 0, .float .f32 0, undef, .slice list_a list_n list_e, .int .i64 (list_n : Int), .int .i64 0, undef, undef, undef, undef, undef, undef, undef, undef, undef, undef, undef, undef, undef, undef] H (blockQ 0 (seqQ (exK Try.prog E_spec_l05Mean (cr (cr (cr (bodyC Try.f71))))) (retK Try.prog Try.f71 K)))) := by kernel_rfl
theorem spec_l05Mean_r1 (list_a : Option Addr) (list_e : Nat) (list_n : Nat) (sum : Nat) (t7 : Int) (g4 g8 g9 g10 g11 g12 g13 g14 g15 g16 : Value) (H : AHeap) (R : Post) : exK Try.prog E_spec_l05Mean (cl (cl (cr (cl (cr (cr (bodyC Try.f71))))))) [.slice list_a list_n list_e, undef, .float .f32 0, .float .f32 sum, g4, .slice list_a list_n list_e, .int .i64 (list_n : Int), .int .i64 t7, g8, g9, g10, g11, g12, g13, g14, g15, g16, undef, undef, undef, undef, undef] H R =
  (Br (decide ((t7 : Int) < (list_n : Int))) ((0 : Int) ≤ t7 ∧ t7 < (list_n : Int) ∧ ∃ b1 f1, (list_a : Option Addr) = some ⟨b1, f1, none⟩ ∧ ∃ x1 : Nat,  rdC H b1 (f1 + (t7 : Int).toNat * 1) = some (.float .f32 x1) ∧ R .normal [.slice list_a list_n list_e, undef, .float .f32 0, .float .f32 (fadd .f32 sum x1), .int .i64 t7, .slice list_a list_n list_e, .int .i64 (list_n : Int), .int .i64 (IntKind.wrap .i64 (t7 + 1)), .bool (decide ((t7 : Int) < (list_n : Int))), .int .i64 t7, .float .f32 sum, .slice list_a list_n list_e, .int .i64 t7, .pointer (some ⟨b1, f1 + (t7 : Int).toNat * 1, none⟩), .float .f32 x1, .float .f32 (fadd .f32 sum x1), .int .i64 (IntKind.wrap .i64 (t7 + 1)), undef, undef, undef, undef, undef] H) (R (.exit 0) [.slice list_a list_n list_e, undef, .float .f32 0, .float .f32 sum, g4, .slice list_a list_n list_e, .int .i64 (list_n : Int), .int .i64 t7, .bool (decide ((t7 : Int) < (list_n : Int))), g9, g10, g11, g12, g13, g14, g15, g16, undef, undef, undef, undef, undef] H)) := by kernel_rfl
def spec_l05Mean_I1 (list_a : Option Addr) (list_e : Nat) (list_n : Nat) (Inv : Nat → Nat → Int → AHeap → Prop) : Nat → List Value → AHeap → Prop := fun μ tm H => ∃ (sum : Nat), ∃ (t7 : Int), ∃ g4 g8 g9 g10 g11 g12 g13 g14 g15 g16, tm = [.slice list_a list_n list_e, undef, .float .f32 0, .float .f32 sum, g4, .slice list_a list_n list_e, .int .i64 (list_n : Int), .int .i64 t7, g8, g9, g10, g11, g12, g13, g14, g15, g16, undef, undef, undef, undef, undef] ∧ Inv μ sum t7 H
theorem spec_l05Mean_L1 (list_a : Option Addr) (list_e : Nat) (list_n : Nat) {Q : Post} (Inv : Nat → Nat → Int → AHeap → Prop) (ν : Nat) (sum : Nat) (t7 : Int) (g4 g8 g9 g10 g11 g12 g13 g14 g15 g16 : Value) (H : AHeap) (h0 : Inv ν sum t7 H)
    (hs : ∀ (μ : Nat) (sum : Nat) (t7 : Int) (g4 g8 g9 g10 g11 g12 g13 g14 g15 g16 : Value) (H : AHeap), Inv μ sum t7 H → exK Try.prog E_spec_l05Mean (cl (cl (cr (cl (cr (cr (bodyC Try.f71))))))) [.slice list_a list_n list_e, undef, .float .f32 0, .float .f32 sum, g4, .slice list_a list_n list_e, .int .i64 (list_n : Int), .int .i64 t7, g8, g9, g10, g11, g12, g13, g14, g15, g16, undef, undef, undef, undef, undef] H (loopQ (spec_l05Mean_I1 list_a list_e list_n Inv) μ Q)) : loopK (exK Try.prog E_spec_l05Mean (cl (cl (cr (cl (cr (cr (bodyC Try.f71)))))))) [.slice list_a list_n list_e, undef, .float .f32 0, .float .f32 sum, g4, .slice list_a list_n list_e, .int .i64 (list_n : Int), .int .i64 t7, g8, g9, g10, g11, g12, g13, g14, g15, g16, undef, undef, undef, undef, undef] H Q :=
  ⟨spec_l05Mean_I1 list_a list_e list_n Inv, ν, ⟨sum, t7, g4, g8, g9, g10, g11, g12, g13, g14, g15, g16, rfl, h0⟩, fun μ tm H h => by obtain ⟨sum, t7, g4, g8, g9, g10, g11, g12, g13, g14, g15, g16, rfl, hI⟩ := h; exact hs μ sum t7 g4 g8 g9 g10 g11 g12 g13 g14 g15 g16 H hI⟩
theorem spec_l05Mean_n1 {list_a : Option Addr} {list_e : Nat} {list_n : Nat} {Q : Post} {Inv : Nat → Nat → Int → AHeap → Prop} {μ : Nat} (μ' : Nat) {sum : Nat} {t7 : Int} {g4 g8 g9 g10 g11 g12 g13 g14 g15 g16 : Value} {H : AHeap} (hm : μ' < μ) (hI : Inv μ' sum t7 H) : loopQ (spec_l05Mean_I1 list_a list_e list_n Inv) μ Q .normal [.slice list_a list_n list_e, undef, .float .f32 0, .float .f32 sum, g4, .slice list_a list_n list_e, .int .i64 (list_n : Int), .int .i64 t7, g8, g9, g10, g11, g12, g13, g14, g15, g16, undef, undef, undef, undef, undef] H := ⟨μ', hm, sum, t7, g4, g8, g9, g10, g11, g12, g13, g14, g15, g16, rfl, hI⟩
theorem spec_l05Mean_x1_0 (list_a : Option Addr) (list_e : Nat) (list_n : Nat) (sum : Nat) (t7 : Int) (g4 g8 g9 g10 g11 g12 g13 g14 g15 g16 : Value) (H : AHeap) (K : Value → AHeap → Prop)  {I : Nat → List Value → AHeap → Prop} {μ : Nat} : loopQ I μ (blockQ 0 (seqQ (exK Try.prog E_spec_l05Mean (cr (cr (cr (bodyC Try.f71))))) (retK Try.prog Try.f71 K))) (.exit 0) [.slice list_a list_n list_e, undef, .float .f32 0, .float .f32 sum, g4, .slice list_a list_n list_e, .int .i64 (list_n : Int), .int .i64 t7, g8, g9, g10, g11, g12, g13, g14, g15, g16, undef, undef, undef, undef, undef] H =
  (K (.float .f32 (fdiv .f32 sum (FloatKind.nearest .f32 (list_n : Int)))) H) := by kernel_rfl
theorem E_spec_l05Mean_ok : ∀ g, FnOk Try.prog g (E_spec_l05Mean g) := FnOk.envOf (by
  intro x hx; cases hx)
set_option maxHeartbeats 1000000 in
theorem spec_l05Mean_main (list_a : Option Addr) (list_n : Nat) (list_e : Nat) (H : AHeap) (K : Value → AHeap → Prop) (h : T_spec_l05Mean list_a list_n list_e H fun (r1 : Nat) (H' : AHeap) => K (.float .f32 r1) H') : bodyK Try.prog E_spec_l05Mean Try.f71 [.slice list_a list_n list_e] H K := by
  rw [spec_l05Mean_vc]
  obtain ⟨l_list, i_list, bd_8, hk⟩ := h
  obtain rfl := i_list.eqn
  have e : (p_spec_l05Mean l_list) = _ := rfl
  have e := e.trans (p_spec_l05Mean_eq l_list)
  have g0 := Grow.refl H
  refine spec_l05Mean_L1 _ _ _ (fun (μ : Nat) (sum : Nat) (t7 : Int) (H_1 : AHeap) => H = H_1 ∧ (0 : Int) ≤ t7 ∧ t7 ≤ (l_list.length : Int) ∧ (l_list.length : Int) - t7 ≤ (μ : Int) ∧ p_spec_l05Mean l_list = p_spec_l05Mean_l1 l_list (μ + 1) sum t7) (Int.toNat ((l_list.length : Int) - (0 : Int))) _ _ _ _ _ _ _ _ _ _ _ _ H ?_ ?_
  · exact ⟨rfl, (by first | omega | (simp; done) | (simp; omega)), (by first | omega | (simp; done) | (simp; omega)), (by omega), e⟩
  · intro μ sum t7 g4 g8 g9 g10 g11 g12 g13 g14 g15 g16 H_1 hI
    obtain ⟨rfl, v_1, v_2, hμ, e⟩ := hI
    rw [spec_l05Mean_r1]
    have e := e.trans (p_spec_l05Mean_l1_s l_list μ sum t7)
    have l_3 := g0.1
    refine Br.intro (fun c_4 => ?_) (fun c_4 => ?_)
    · have e := e.trans (cond_t c_4)
      have c_4' := of_decide_eq_true c_4
      obtain ⟨b_5, f_6, q_7⟩ := ((i_list.grow g0)).pos (by first | omega | (simp only [List.length_set, List.length_replicate, List.length_append, List.length_cons, List.length_nil, List.length_take, List.length_drop, marks_length]; done) | (simp only [List.length_set, List.length_replicate, List.length_append, List.length_cons, List.length_nil, List.length_take, List.length_drop, marks_length]; omega))
      refine ⟨by omega, by omega, b_5, f_6, q_7, ?_⟩
      refine ⟨((l_list).getD (t7 : Int).toNat 0), (i_list).rd g0 q_7 (by omega) _, ?_⟩
      rw [show IntKind.wrap .i64 (t7 + 1) = (t7 + 1) from wrap64 (by omega) (by omega)]
      refine spec_l05Mean_n1 (μ - 1) (by first | omega) ⟨rfl, (by first | omega | (simp only [List.length_append, List.length_cons, List.length_nil, List.length_set]; done) | (simp only [List.length_append, List.length_cons, List.length_nil, List.length_set]; omega)), (by first | omega | (simp only [List.length_append, List.length_cons, List.length_nil, List.length_set]; done) | (simp only [List.length_append, List.length_cons, List.length_nil, List.length_set]; omega)), (by first | omega), (by rw [show μ - 1 + 1 = μ from by first | omega]; exact e)⟩
    · have e := e.trans (cond_f c_4)
      have c_4' := of_decide_eq_false c_4
      rw [spec_l05Mean_x1_0]
      rw [e] at hk
      exact hk
theorem spec_l05Mean_ok : FnOk Try.prog 71 S_spec_l05Mean := by
  refine FnOk.body mix_ok E_spec_l05Mean_ok Try.func71 rfl (by kernel_rfl) (by kernel_rfl) ?_ ?_ ?_ ?_ ?_
  · intro args H K K' h hk
    simp only [S_spec_l05Mean] at *
    unfold F_spec_l05Mean at *
    split at hk
    · obtain ⟨l_list, i_list, bd_8, k⟩ := hk
      exact ⟨l_list, i_list, bd_8, h _ _ k⟩
    · exact hk.elim
  · intro _ args H K hk
    simp only [S_spec_l05Mean] at *
    unfold F_spec_l05Mean at *
    split at hk
    · obtain ⟨l_list, i_list, bd_8, k⟩ := hk
      exact ⟨_, k, fun K' k' => ⟨l_list, i_list, bd_8, k'⟩⟩
    · exact hk.elim
  · intro args H K hk
    simp only [S_spec_l05Mean] at *
    unfold F_spec_l05Mean at *
    split at hk
    · obtain ⟨l_list, i_list, bd_8, k⟩ := hk
      exact ⟨_, _, k⟩
    · exact hk.elim
  · intro hq; cases hq
  · have mm := @spec_l05Mean_main
    revert mm
    generalize bodyK Try.prog E_spec_l05Mean Try.f71 = Q
    intro mm args H K hk
    simp only [S_spec_l05Mean] at *
    unfold F_spec_l05Mean at *
    split at hk
    · exact mm _ _ _ H K hk
    · exact hk.elim
def p_spec_SegmentMeans_l3 (l_list : List Nat) (l_breaks : List Int) (t5 : Bool) (l_edges : List Int) (t26 : Int) (l_vout : List Nat) (i : Int) (k3_4 : (List Nat) → Int → ((List Nat) × Bool)) : Nat → (List Nat) → Int → (List Nat) × Bool
  | 0, _, _ => ([], false)
  | μ3 + 1, l_vout_3, k => (bif decide ((k : Int) < (((l_edges ++ [((l_list.length : Int) : Int)])).getD ((i + 1) : Int).toNat 0)) then (p_spec_SegmentMeans_l3 l_list l_breaks t5 l_edges t26 l_vout i k3_4 μ3 ((l_vout_3 ++ [((p_spec_l05Mean ((((l_list).drop ((((l_edges ++ [((l_list.length : Int) : Int)])).getD (i : Int).toNat 0) : Int).toNat).take (((((l_edges ++ [((l_list.length : Int) : Int)])).getD ((i + 1) : Int).toNat 0) : Int) - (((l_edges ++ [((l_list.length : Int) : Int)])).getD (i : Int).toNat 0)).toNat))))])) (k + 1)) else (k3_4 l_vout_3 k))
theorem p_spec_SegmentMeans_l3_s (l_list : List Nat) (l_breaks : List Int) (t5 : Bool) (l_edges : List Int) (t26 : Int) (l_vout : List Nat) (i : Int) (k3_4 : (List Nat) → Int → ((List Nat) × Bool)) (μ3 : Nat) (l_vout_3 : List Nat) (k : Int) : p_spec_SegmentMeans_l3 l_list l_breaks t5 l_edges t26 l_vout i k3_4 (μ3 + 1) l_vout_3 k = (bif decide ((k : Int) < (((l_edges ++ [((l_list.length : Int) : Int)])).getD ((i + 1) : Int).toNat 0)) then (p_spec_SegmentMeans_l3 l_list l_breaks t5 l_edges t26 l_vout i k3_4 μ3 ((l_vout_3 ++ [((p_spec_l05Mean ((((l_list).drop ((((l_edges ++ [((l_list.length : Int) : Int)])).getD (i : Int).toNat 0) : Int).toNat).take (((((l_edges ++ [((l_list.length : Int) : Int)])).getD ((i + 1) : Int).toNat 0) : Int) - (((l_edges ++ [((l_list.length : Int) : Int)])).getD (i : Int).toNat 0)).toNat))))])) (k + 1)) else (k3_4 l_vout_3 k)) := rfl
def p_spec_SegmentMeans_l2 (l_list : List Nat) (l_breaks : List Int) (t5 : Bool) (l_edges : List Int) (t26 : Int) (k2_2 : (List Nat) → Int → ((List Nat) × Bool)) : Nat → (List Nat) → Int → (List Nat) × Bool
  | 0, _, _ => ([], false)
  | μ2 + 1, l_vout, i => (bif decide (((i + 1) : Int) < (l_edges.length + 1 : Int)) then (p_spec_SegmentMeans_l3 l_list l_breaks t5 l_edges t26 l_vout i (fun (l_vout_3 : List Nat) (k : Int) => (p_spec_SegmentMeans_l2 l_list l_breaks t5 l_edges t26 k2_2 μ2 l_vout_3 (i + 1))) (Int.toNat ((((l_edges ++ [((l_list.length : Int) : Int)])).getD ((i + 1) : Int).toNat 0) - (((((l_edges ++ [((l_list.length : Int) : Int)])).getD (i : Int).toNat 0)))) + 1) l_vout (((((l_edges ++ [((l_list.length : Int) : Int)])).getD (i : Int).toNat 0)))) else (k2_2 l_vout i))
theorem p_spec_SegmentMeans_l2_s (l_list : List Nat) (l_breaks : List Int) (t5 : Bool) (l_edges : List Int) (t26 : Int) (k2_2 : (List Nat) → Int → ((List Nat) × Bool)) (μ2 : Nat) (l_vout : List Nat) (i : Int) : p_spec_SegmentMeans_l2 l_list l_breaks t5 l_edges t26 k2_2 (μ2 + 1) l_vout i = (bif decide (((i + 1) : Int) < (l_edges.length + 1 : Int)) then (p_spec_SegmentMeans_l3 l_list l_breaks t5 l_edges t26 l_vout i (fun (l_vout_3 : List Nat) (k : Int) => (p_spec_SegmentMeans_l2 l_list l_breaks t5 l_edges t26 k2_2 μ2 l_vout_3 (i + 1))) (Int.toNat ((((l_edges ++ [((l_list.length : Int) : Int)])).getD ((i + 1) : Int).toNat 0) - (((((l_edges ++ [((l_list.length : Int) : Int)])).getD (i : Int).toNat 0)))) + 1) l_vout (((((l_edges ++ [((l_list.length : Int) : Int)])).getD (i : Int).toNat 0)))) else (k2_2 l_vout i)) := rfl
def p_spec_SegmentMeans_l1 (l_list : List Nat) (l_breaks : List Int) : Nat → Bool → (List Int) → Int → (List Nat) × Bool
  | 0, _, _, _ => ([], false)
  | μ + 1, t5, l_edges, t26 => (bif decide ((t26 : Int) < (l_breaks.length : Int)) then (bif !((p_spec_l00In (((l_breaks).getD (t26 : Int).toNat 0)) (1 : Int) (((l_list.length : Int) - 1)))) then ([], false) else (bif decide ((0 : Int) < t26) then (bif decide ((((l_breaks).getD (t26 : Int).toNat 0) : Int) ≤ ((l_breaks).getD ((t26 - 1) : Int).toNat 0)) then ([], false) else (p_spec_SegmentMeans_l1 l_list l_breaks μ t5 ((l_edges ++ [(((l_breaks).getD (t26 : Int).toNat 0) : Int)])) (t26 + 1))) else (p_spec_SegmentMeans_l1 l_list l_breaks μ t5 ((l_edges ++ [(((l_breaks).getD (t26 : Int).toNat 0) : Int)])) (t26 + 1)))) else (p_spec_SegmentMeans_l2 l_list l_breaks t5 l_edges t26 (fun (l_vout : List Nat) (i : Int) => (bif !(p_spec_l02Finite l_vout) then ([], false) else (l_vout, true))) (Int.toNat ((l_edges.length : Int) + 1 - (0 : Int)) + 1) ([] : List Nat) (0 : Int)))
theorem p_spec_SegmentMeans_l1_s (l_list : List Nat) (l_breaks : List Int) (μ : Nat) (t5 : Bool) (l_edges : List Int) (t26 : Int) : p_spec_SegmentMeans_l1 l_list l_breaks (μ + 1) t5 l_edges t26 = (bif decide ((t26 : Int) < (l_breaks.length : Int)) then (bif !((p_spec_l00In (((l_breaks).getD (t26 : Int).toNat 0)) (1 : Int) (((l_list.length : Int) - 1)))) then ([], false) else (bif decide ((0 : Int) < t26) then (bif decide ((((l_breaks).getD (t26 : Int).toNat 0) : Int) ≤ ((l_breaks).getD ((t26 - 1) : Int).toNat 0)) then ([], false) else (p_spec_SegmentMeans_l1 l_list l_breaks μ t5 ((l_edges ++ [(((l_breaks).getD (t26 : Int).toNat 0) : Int)])) (t26 + 1))) else (p_spec_SegmentMeans_l1 l_list l_breaks μ t5 ((l_edges ++ [(((l_breaks).getD (t26 : Int).toNat 0) : Int)])) (t26 + 1)))) else (p_spec_SegmentMeans_l2 l_list l_breaks t5 l_edges t26 (fun (l_vout : List Nat) (i : Int) => (bif !(p_spec_l02Finite l_vout) then ([], false) else (l_vout, true))) (Int.toNat ((l_edges.length : Int) + 1 - (0 : Int)) + 1) ([] : List Nat) (0 : Int))) := rfl
def p_spec_SegmentMeans (l_list : List Nat) (l_breaks : List Int) : (List Nat) × Bool := (bif !(p_spec_l03Long l_list) then ([], false) else (bif decide ((16 : Int) < (l_breaks.length : Int)) then ([], false) else (p_spec_SegmentMeans_l1 l_list l_breaks (Int.toNat ((l_breaks.length : Int) - (0 : Int)) + 1) false ([(0 : Int)]) (0 : Int))))
theorem p_spec_SegmentMeans_eq (l_list : List Nat) (l_breaks : List Int) : p_spec_SegmentMeans l_list l_breaks = (bif !(p_spec_l03Long l_list) then ([], false) else (bif decide ((16 : Int) < (l_breaks.length : Int)) then ([], false) else (p_spec_SegmentMeans_l1 l_list l_breaks (Int.toNat ((l_breaks.length : Int) - (0 : Int)) + 1) false ([(0 : Int)]) (0 : Int)))) := rfl
def T_spec_SegmentMeans (list_a : Option Addr) (list_n : Nat) (list_e : Nat) (breaks_a : Option Addr) (breaks_n : Nat) (breaks_e : Nat) (H : AHeap) (K : (Option Addr) → Nat → Nat → Bool → AHeap → Prop) : Prop := ∃ (l_list : List Nat), ∃ (l_breaks : List Int), IsL fF H list_a list_n l_list ∧ IsL fI H breaks_a breaks_n l_breaks ∧ l_list.length < 1073741824 ∧ l_breaks.length < 1073741824 ∧ ((∀ (r1_a : Option Addr) (r1_n r1_e : Nat), ∀ H' : AHeap, Grow H H' → OwnS fF H' H.length r1_a r1_n r1_e ((p_spec_SegmentMeans l_list l_breaks).1) → K r1_a r1_n r1_e ((p_spec_SegmentMeans l_list l_breaks).2) H'))
theorem T_spec_SegmentMeans_i {list_a : Option Addr} {list_n : Nat} {list_e : Nat} {breaks_a : Option Addr} {breaks_n : Nat} {breaks_e : Nat} {H : AHeap} {K : (Option Addr) → Nat → Nat → Bool → AHeap → Prop} (h : ∃ (l_list : List Nat), ∃ (l_breaks : List Int), IsL fF H list_a list_n l_list ∧ IsL fI H breaks_a breaks_n l_breaks ∧ l_list.length < 1073741824 ∧ l_breaks.length < 1073741824 ∧ ((∀ (r1_a : Option Addr) (r1_n r1_e : Nat), ∀ H' : AHeap, Grow H H' → OwnS fF H' H.length r1_a r1_n r1_e ((p_spec_SegmentMeans l_list l_breaks).1) → K r1_a r1_n r1_e ((p_spec_SegmentMeans l_list l_breaks).2) H'))) : T_spec_SegmentMeans list_a list_n list_e breaks_a breaks_n breaks_e H K := h
def Edg (n : Nat) (es : List Int) : Prop := 1 ≤ es.length ∧ (∀ j : Nat, j < es.length → 0 ≤ es.getD j 0 ∧ es.getD j 0 < (n : Int)) ∧ ∀ j : Nat, j + 1 < es.length → es.getD j 0 < es.getD (j + 1) 0
theorem edg_nil {n : Nat} (h : 1 ≤ (n : Int)) : Edg n [0] := by
  refine ⟨by decide, ?_, ?_⟩
  · intro j hj
    obtain rfl : j = 0 := by simp at hj; exact hj
    show 0 ≤ (0 : Int) ∧ (0 : Int) < n
    omega
  · intro j hj; simp at hj
theorem app_lt {es : List Int} {b : Int} {j : Nat} (h : j < es.length) : (es ++ [b]).getD j 0 = es.getD j 0 := by
  rw [List.getD_eq_getElem?_getD, List.getD_eq_getElem?_getD, List.getElem?_append_left h]
theorem app_at {es : List Int} {b : Int} {j : Nat} (h : j = es.length) : (es ++ [b]).getD j 0 = b := by
  subst h; simp [List.getD_eq_getElem?_getD]
theorem edg_grow {n : Nat} {es B : List Int} {t b : Int} (h : Edg n es) (hl : (es.length : Int) = t + 1) (h0 : 0 ≤ t) (he : es.getD (t : Int).toNat 0 = (if 0 < t then B.getD ((t - 1) : Int).toNat 0 else 0)) (hb : 1 ≤ b ∧ b ≤ (n : Int) - 1) (hp : 0 < t → B.getD ((t - 1) : Int).toNat 0 < b) : Edg n (es ++ [b]) := by
  obtain ⟨h1, h2, h3⟩ := h
  refine ⟨by simp, ?_, ?_⟩
  · intro j hj
    rw [List.length_append, List.length_singleton] at hj
    by_cases hc : j < es.length
    · rw [app_lt hc]; exact h2 j hc
    · rw [app_at (by omega)]; omega
  · intro j hj
    rw [List.length_append, List.length_singleton] at hj
    by_cases hc : j + 1 < es.length
    · rw [app_lt hc, app_lt (by omega)]; exact h3 j hc
    · rw [app_at (j := j + 1) (by omega), app_lt (by omega), show j = t.toNat by omega, he]
      by_cases ht : 0 < t
      · rw [if_pos ht]; exact hp ht
      · rw [if_neg ht]; omega
theorem edg_last {es B : List Int} {t : Int} (h0 : 0 ≤ t) (hl : (es.length : Int) = t + 1) : (es ++ [B.getD (t : Int).toNat 0]).getD ((t + 1) : Int).toNat 0 = (if 0 < t + 1 then B.getD ((t + 1 - 1) : Int).toNat 0 else 0) := by
  rw [app_at (by omega), if_pos (by omega), show t + 1 - 1 = t by omega]
theorem edg_at {n : Nat} {es : List Int} (h : Edg n es) (j : Int) : 0 ≤ j → j + 1 < (es.length : Int) + 1 → 0 ≤ (es ++ [((n : Int) : Int)]).getD (j : Int).toNat 0 ∧ (es ++ [((n : Int) : Int)]).getD (j : Int).toNat 0 ≤ (es ++ [((n : Int) : Int)]).getD ((j + 1) : Int).toNat 0 ∧ (es ++ [((n : Int) : Int)]).getD ((j + 1) : Int).toNat 0 ≤ (n : Int) := by
  intro h0 h1
  obtain ⟨a, b, c⟩ := h
  have hb := b j.toNat (by omega)
  rw [app_lt (j := j.toNat) (by omega), show (j + 1).toNat = j.toNat + 1 by omega]
  by_cases hc : j.toNat + 1 < es.length
  · have := c j.toNat hc
    have := b (j.toNat + 1) hc
    rw [app_lt hc]; omega
  · rw [app_at (j := j.toNat + 1) (by omega)]; omega
def okc (n : Int) : Int → List Int → Bool
  | _, [] => true
  | f, e :: es => bif decide (f + 1 ≤ e) then (bif decide (e ≤ n) then okc n e es else false) else false
def seg (m : List Nat → Nat) (l : List Nat) : Int → List Int → List Nat
  | _, [] => []
  | f, e :: es => List.replicate (e - f).toNat (m ((l.drop (f : Int).toNat).take ((e : Int) - f).toNat)) ++ seg m l e es
theorem seg_len (m : List Nat → Nat) (l : List Nat) (n : Int) : ∀ (es : List Int) (f : Int), f ≤ n → okc n f es = true → ((seg m l f es).length : Int) ≤ n - f := by
  intro es
  induction es with
  | nil => intro f h _; unfold seg; simp; omega
  | cons e es ih =>
    intro f h hc
    unfold okc at hc
    by_cases h1 : f + 1 ≤ e
    · rw [decide_eq_true h1, cond_true] at hc
      by_cases h2 : e ≤ n
      · rw [decide_eq_true h2, cond_true] at hc
        have := ih e h2 hc
        unfold seg
        rw [List.length_append, List.length_replicate]
        omega
      · rw [decide_eq_false h2, cond_false] at hc; cases hc
    · rw [decide_eq_false h1, cond_false] at hc; cases hc
def segF (fin1 : List Nat → Bool) (o : List Nat) : List Nat × Bool := bif !(fin1 o) then ([], false) else (o, true)
def bchk (n : Int) : Int → List Int → Bool
  | _, [] => true
  | p, b :: bs => bif decide (1 ≤ b) then (bif decide (b ≤ n - 1) then (bif decide (p < b) then bchk n b bs else false) else false) else false
theorem okc_full (n : Int) (es : List Int) (h : es ≠ []) : okc n n es = false := by
  cases es with
  | nil => exact absurd rfl h
  | cons e es =>
    unfold okc
    by_cases h1 : n + 1 ≤ e
    · rw [decide_eq_true h1, decide_eq_false (by omega)]; rfl
    · rw [decide_eq_false h1]; rfl
theorem chk_okc (n : Int) : ∀ (bs : List Int) (p : Int), 0 ≤ p → p < n → bchk n p bs = okc n p (bs ++ [n]) := by
  intro bs
  induction bs with
  | nil =>
    intro p h0 h1
    show true = okc n p [n]
    unfold okc okc
    rw [decide_eq_true (by omega), decide_eq_true (Int.le_refl n)]; rfl
  | cons b bs ih =>
    intro p h0 h1
    rw [List.cons_append]
    unfold bchk okc
    by_cases c1 : p + 1 ≤ b
    · rw [decide_eq_true c1, decide_eq_true (show (1 : Int) ≤ b by omega), decide_eq_true (show p < b by omega), cond_true, cond_true, cond_true]
      by_cases c2 : b ≤ n - 1
      · rw [decide_eq_true c2, decide_eq_true (show b ≤ n by omega), cond_true, cond_true]
        exact ih b (by omega) (by omega)
      · rw [decide_eq_false c2, cond_false]
        by_cases c3 : b = n
        · subst c3
          rw [okc_full b _ (by simp)]
          cases decide (b ≤ b) <;> rfl
        · rw [decide_eq_false (show ¬ b ≤ n by omega)]; rfl
    · rw [decide_eq_false c1, decide_eq_false (show ¬ p < b by omega)]
      cases decide ((1 : Int) ≤ b) <;> cases decide (b ≤ n - 1) <;> rfl
theorem rep_succ (o : List Nat) (m : Nat) (a b : Int) (h : a < b) : (o ++ [m]) ++ List.replicate (b - (a + 1)).toNat m = o ++ List.replicate (b - a).toNat m := by
  rw [show (b - a).toNat = (b - (a + 1)).toNat + 1 by omega, List.replicate_succ, List.append_assoc]; rfl
theorem rep_zero (o : List Nat) (m : Nat) (a b : Int) (h : ¬ a < b) : o ++ List.replicate (b - a).toNat m = o := by
  rw [show (b - a).toNat = 0 by omega, List.replicate_zero, List.append_nil]
theorem seg_step (m : List Nat → Nat) (l : List Nat) (E : List Int) (i : Nat) (h : i + 1 < E.length) : seg m l (E.getD i 0) (E.drop (i + 1)) = List.replicate (E.getD (i + 1) 0 - E.getD i 0).toNat (m ((l.drop (E.getD i 0 : Int).toNat).take ((E.getD (i + 1) 0 : Int) - E.getD i 0).toNat)) ++ seg m l (E.getD (i + 1) 0) (E.drop (i + 2)) := by
  rw [List.drop_eq_getElem_cons h]
  have : E[i + 1] = E.getD (i + 1) 0 := by rw [List.getD_eq_getElem?_getD, List.getElem?_eq_getElem h]; rfl
  rw [this]
  rfl
theorem spec_seg_l3 (l : List Nat) (b : List Int) (t5 : Bool) (es : List Int) (t26 : Int) (vo : List Nat) (i : Int) (K : List Nat → Int → List Nat × Bool) (F : List Nat → List Nat × Bool) (hK : ∀ o k, K o k = F o)
    (E : List Int) (hE : es ++ [((l.length : Int) : Int)] = E) (m : Nat) (hm : p_spec_l05Mean ((l.drop (E.getD (i : Int).toNat 0 : Int).toNat).take ((E.getD ((i + 1) : Int).toNat 0 : Int) - E.getD (i : Int).toNat 0).toNat) = m) :
    ∀ (μ : Nat) (o : List Nat) (k : Int), (E.getD ((i + 1) : Int).toNat 0 - k).toNat < μ → p_spec_SegmentMeans_l3 l b t5 es t26 vo i K μ o k = F (o ++ List.replicate (E.getD ((i + 1) : Int).toNat 0 - k).toNat m) := by
  intro μ
  induction μ with
  | zero => intro o k h; omega
  | succ μ ih =>
    intro o k h
    rw [p_spec_SegmentMeans_l3_s, hE, hm]
    by_cases c : k < E.getD ((i + 1) : Int).toNat 0
    · rw [decide_eq_true c, cond_true, ih _ _ (by omega), rep_succ _ _ _ _ c]
    · rw [decide_eq_false c, cond_false, rep_zero _ _ _ _ c, hK]
theorem spec_seg_l2 (l : List Nat) (b : List Int) (t5 : Bool) (es : List Int) (t26 : Int) (K : List Nat → Int → List Nat × Bool) (F : List Nat → List Nat × Bool) (hK : ∀ o k, K o k = F o) (E : List Int) (hE : es ++ [((l.length : Int) : Int)] = E) :
    ∀ (μ : Nat) (o : List Nat) (i : Nat), E.length - i < μ → p_spec_SegmentMeans_l2 l b t5 es t26 K μ o (i : Int) = F (o ++ seg p_spec_l05Mean l (E.getD i 0) (E.drop (i + 1))) := by
  have hl : E.length = es.length + 1 := by rw [← hE, List.length_append]; rfl
  intro μ
  induction μ with
  | zero => intro o i h; omega
  | succ μ ih =>
    intro o i h
    rw [p_spec_SegmentMeans_l2_s]
    by_cases c : i + 1 < E.length
    · rw [decide_eq_true (show (i : Int) + 1 < ((es.length : Nat) : Int) + 1 by omega), cond_true, hE]
      have e2 : ((i : Int) + 1).toNat = i + 1 := by omega
      rw [spec_seg_l3 l b t5 es t26 o i _ (fun o => p_spec_SegmentMeans_l2 l b t5 es t26 K μ o ((i : Int) + 1)) (fun o k => rfl) E hE _ rfl _ _ _ (Nat.lt_succ_self _)]
      rw [seg_step _ _ _ _ c, ← List.append_assoc, e2, Int.toNat_natCast]
      exact ih _ (i + 1) (by omega)
    · rw [decide_eq_false (show ¬ (i : Int) + 1 < ((es.length : Nat) : Int) + 1 by omega), cond_false, List.drop_eq_nil_of_le (by omega), hK]
      unfold seg
      rw [List.append_nil]
def prevAt (b : List Int) (t : Nat) : Int := if 0 < (t : Int) then b.getD (((t : Int) - 1) : Int).toNat 0 else 0
theorem spec_seg_l1 (l : List Nat) (b : List Int) (t5 : Bool) : ∀ (μ : Nat) (es : List Int) (t : Nat), b.length - t < μ →
    p_spec_SegmentMeans_l1 l b μ t5 es (t : Int) = bif bchk (l.length : Int) (prevAt b t) (b.drop t) then segF p_spec_l02Finite (seg p_spec_l05Mean l (((es ++ b.drop t) ++ [((l.length : Int) : Int)]).getD 0 0) (((es ++ b.drop t) ++ [((l.length : Int) : Int)]).drop 1)) else ([], false) := by
  intro μ
  induction μ with
  | zero => intro es t h; omega
  | succ μ ih =>
    intro es t h
    rw [p_spec_SegmentMeans_l1_s]
    by_cases c : t < b.length
    · have e0 : b.drop t = b.getD t 0 :: b.drop (t + 1) := by
        rw [List.drop_eq_getElem_cons c, List.getD_eq_getElem?_getD, List.getElem?_eq_getElem c]; rfl
      have i1 := ih (es ++ [b.getD t 0]) (t + 1) (by omega)
      have e1 : prevAt b (t + 1) = b.getD t 0 := by
        unfold prevAt
        rw [if_pos (by omega), show (((t + 1 : Nat) : Int) - 1).toNat = t by omega]
      rw [e1, List.append_assoc es, show [b.getD t 0] ++ b.drop (t + 1) = b.drop t from e0.symm, show ((t + 1 : Nat) : Int) = (t : Int) + 1 by omega] at i1
      rw [decide_eq_true (show (t : Int) < (b.length : Int) by omega), cond_true, Int.toNat_natCast, i1]
      have e2 : bchk (l.length : Int) (prevAt b t) (b.drop t) = bif p_spec_l00In (b.getD t 0) 1 ((l.length : Int) - 1) then (bif decide (prevAt b t < b.getD t 0) then bchk (l.length : Int) (b.getD t 0) (b.drop (t + 1)) else false) else false := by
        rw [e0]
        rw [bchk]
        unfold p_spec_l00In
        cases decide ((1 : Int) ≤ b.getD t 0) <;> cases decide (b.getD t 0 ≤ (l.length : Int) - 1) <;> rfl
      rw [e2]
      cases hin : p_spec_l00In (b.getD t 0) 1 ((l.length : Int) - 1) with
      | false => rfl
      | true =>
        rw [Bool.not_true, cond_false, cond_true]
        unfold prevAt
        by_cases ht : 0 < (t : Int)
        · rw [decide_eq_true ht, cond_true, if_pos ht]
          by_cases hp : b.getD t 0 ≤ b.getD ((t : Int) - 1).toNat 0
          · rw [decide_eq_true hp, decide_eq_false (by omega)]; rfl
          · rw [decide_eq_false hp, decide_eq_true (by omega)]; rfl
        · rw [decide_eq_false ht, cond_false, if_neg ht]
          have := spec_l00In_t hin
          rw [decide_eq_true (by omega)]; rfl
    · rw [decide_eq_false (show ¬ (t : Int) < (b.length : Int) by omega), cond_false, List.drop_eq_nil_of_le (by omega), List.append_nil]
      have := spec_seg_l2 l b t5 es (t : Int) (fun (l_vout : List Nat) (i : Int) => (bif !(p_spec_l02Finite l_vout) then ([], false) else (l_vout, true))) (segF p_spec_l02Finite) (fun o k => rfl) _ rfl (Int.toNat ((es.length : Int) + 1 - (0 : Int)) + 1) [] 0 (by rw [List.length_append, List.length_singleton]; omega)
      rw [List.nil_append] at this
      exact this
def segV (m : List Nat → Nat) (fin1 : List Nat → Bool) (long : Bool) (l : List Nat) (b : List Int) : List Nat × Bool :=
  bif !long then ([], false) else bif decide ((16 : Int) < (b.length : Int)) then ([], false) else bif okc (l.length : Int) 0 (b ++ [((l.length : Int) : Int)]) then segF fin1 (seg m l 0 (b ++ [((l.length : Int) : Int)])) else ([], false)
theorem spec_seg_val (l : List Nat) (b : List Int) : p_spec_SegmentMeans l b = segV p_spec_l05Mean p_spec_l02Finite (p_spec_l03Long l) l b := by
  rw [p_spec_SegmentMeans_eq]
  unfold segV
  cases hl : p_spec_l03Long l with
  | false => rfl
  | true =>
    rw [Bool.not_true, cond_false, cond_false]
    have hn := spec_l03Long_t hl
    have := spec_seg_l1 l b false (Int.toNat ((b.length : Int) - (0 : Int)) + 1) [0] 0 (by omega)
    rw [List.drop_zero, show prevAt b 0 = 0 from rfl, chk_okc _ _ _ (Int.le_refl 0) (by omega)] at this
    rw [show ((0 : Nat) : Int) = 0 from rfl] at this
    rw [this]
    rfl
theorem segV_len (m : List Nat → Nat) (fin1 : List Nat → Bool) (long : Bool) (l : List Nat) (b : List Int) : (segV m fin1 long l b).1.length ≤ l.length := by
  unfold segV
  cases long with
  | false => exact Nat.zero_le _
  | true =>
    rw [Bool.not_true, cond_false]
    cases decide ((16 : Int) < (b.length : Int)) with
    | true => exact Nat.zero_le _
    | false =>
      rw [cond_false]
      cases h : okc (l.length : Int) 0 (b ++ [((l.length : Int) : Int)]) with
      | false => exact Nat.zero_le _
      | true =>
        rw [cond_true]
        have := seg_len m l (l.length : Int) _ 0 (by omega) h
        unfold segF
        cases (!(fin1 (seg m l 0 (b ++ [((l.length : Int) : Int)])))) with
        | true => exact Nat.zero_le _
        | false => exact (by omega : (seg m l 0 (b ++ [((l.length : Int) : Int)])).length ≤ l.length)
theorem spec_SegmentMeans_len (l : List Nat) (b : List Int) : (p_spec_SegmentMeans l b).1.length ≤ l.length := by
  rw [spec_seg_val]; exact segV_len _ _ _ _ _
/-! spec_SegmentMeans: function 24 -/
def E_spec_SegmentMeans : Env := envOf [(56, S_spec_l03Long), (70, S_spec_l00In), (71, S_spec_l05Mean), (67, S_spec_l02Finite)]
def F_spec_SegmentMeans : List Value → AHeap → (Value → AHeap → Prop) → Prop
  | [.slice list_a list_n list_e, .slice breaks_a breaks_n breaks_e], H, K => T_spec_SegmentMeans list_a list_n list_e breaks_a breaks_n breaks_e H fun (r1_a : Option Addr) (r1_n : Nat) (r1_e : Nat) (r2 : Bool) (H' : AHeap) => K (.tuple #[.slice r1_a r1_n r1_e, .bool r2]) H'
  | _, _, _ => False
def S_spec_SegmentMeans : FSpec := { F := F_spec_SegmentMeans, quiet := false, tame := true }
theorem spec_SegmentMeans_vc (list_a : Option Addr) (list_n : Nat) (list_e : Nat) (breaks_a : Option Addr) (breaks_n : Nat) (breaks_e : Nat) (H : AHeap) (K : Value → AHeap → Prop) : bodyK Try.prog E_spec_SegmentMeans Try.f24 [.slice list_a list_n list_e, .slice breaks_a breaks_n breaks_e] H K =
  (T_spec_l03Long list_a list_n list_e H fun (r1 : Bool) (H1 : AHeap) => Br (!r1) (K (.tuple #[.slice none 0 0, .bool false]) H1) (Br (decide ((16 : Int) < (breaks_n : Int))) (K (.tuple #[.slice none 0 0, .bool false]) H1) (Al [.int .i64 0] H1 fun b1 H2 => loopK (exK Try.prog E_spec_SegmentMeans (cl (cl (cr (cl (cr (cr (cr (cr (bodyC Try.f24)))))))))) [.slice list_a list_n list_e, .slice breaks_a breaks_n breaks_e, undef, undef, .slice none 0 0, .bool false, .slice (some ⟨b1, 0, none⟩) 1 1, .int .i64 (list_n : Int), undef, undef, undef, undef, undef, .slice list_a list_n list_e, .bool r1, .bool (!r1), .bool false, .slice breaks_a breaks_n breaks_e, .int .i64 (breaks_n : Int), .bool (decide ((16 : Int) < (breaks_n : Int))), .bool (decide ((16 : Int) < (breaks_n : Int))), .slice (some ⟨b1, 0, none⟩) 1 1, .slice list_a list_n list_e, .int .i64 (list_n : Int), .slice breaks_a breaks_n breaks_e, .int .i64 (breaks_n : Int), .int .i64 0, undef, undef, undef, undef, undef, undef, undef, undef, undef, undef, undef, undef, undef, undef, undef, undef, undef, undef, undef, undef, undef, undef, undef, undef, undef, undef, undef, undef, undef, undef, undef, undef, undef, undef, undef, undef, undef, undef, undef, undef, undef, undef, undef, undef, undef, undef, undef, undef, undef, undef, undef, undef, undef, undef, undef, undef, undef, undef, undef, undef, undef, undef, undef, undef, undef, undef, undef, undef, undef, undef, undef, undef, undef, undef, undef, undef, undef, undef, undef] H2 (blockQ 0 (seqQ (exK Try.prog E_spec_SegmentMeans (cr (cr (cr (cr (cr (bodyC Try.f24))))))) (retK Try.prog Try.f24 K)))))) := by kernel_rfl
theorem spec_SegmentMeans_r1 (b1 : Nat) (breaks_a : Option Addr) (breaks_e : Nat) (breaks_n : Nat) (list_a : Option Addr) (list_e : Nat) (list_n : Nat) (r1 : Bool) (t4_a : Option Addr) (t4_n : Nat) (t4_e : Nat) (t5 : Bool) (edges_a : Option Addr) (edges_n : Nat) (edges_e : Nat) (t26 : Int) (g8 g27 g28 g29 g30 g31 g32 g33 g34 g35 g36 g37 g38 g39 g40 g41 g42 g43 g44 g45 g46 g47 g48 g49 g50 g51 g52 g53 g54 g55 g56 g57 g58 g59 g60 : Value) (H : AHeap) (R : Post) : exK Try.prog E_spec_SegmentMeans (cl (cl (cr (cl (cr (cr (cr (cr (bodyC Try.f24))))))))) [.slice list_a list_n list_e, .slice breaks_a breaks_n breaks_e, undef, undef, .slice t4_a t4_n t4_e, .bool t5, .slice edges_a edges_n edges_e, .int .i64 (list_n : Int), g8, undef, undef, undef, undef, .slice list_a list_n list_e, .bool r1, .bool (!r1), .bool false, .slice breaks_a breaks_n breaks_e, .int .i64 (breaks_n : Int), .bool (decide ((16 : Int) < (breaks_n : Int))), .bool (decide ((16 : Int) < (breaks_n : Int))), .slice (some ⟨b1, 0, none⟩) 1 1, .slice list_a list_n list_e, .int .i64 (list_n : Int), .slice breaks_a breaks_n breaks_e, .int .i64 (breaks_n : Int), .int .i64 t26, g27, g28, g29, g30, g31, g32, g33, g34, g35, g36, g37, g38, g39, g40, g41, g42, g43, g44, g45, g46, g47, g48, g49, g50, g51, g52, g53, g54, g55, g56, g57, g58, g59, g60, undef, undef, undef, undef, undef, undef, undef, undef, undef, undef, undef, undef, undef, undef, undef, undef, undef, undef, undef, undef, undef, undef, undef, undef, undef, undef, undef, undef, undef, undef, undef, undef, undef, undef, undef, undef, undef, undef, undef, undef, undef, undef, undef, undef, undef] H R =
  (Br (decide ((t26 : Int) < (breaks_n : Int))) ((0 : Int) ≤ t26 ∧ t26 < (breaks_n : Int) ∧ ∃ b2 f1, (breaks_a : Option Addr) = some ⟨b2, f1, none⟩ ∧ ∃ x1 : Int,  rdC H b2 (f1 + (t26 : Int).toNat * 1) = some (.int .i64 x1) ∧ T_spec_l00In x1 1 (IntKind.wrap .i64 ((list_n : Int) - 1)) H fun (r2 : Bool) (H3 : AHeap) => Br (!r2) (R .ret [.slice list_a list_n list_e, .slice breaks_a breaks_n breaks_e, undef, undef, .slice none 0 0, .bool false, .slice edges_a edges_n edges_e, .int .i64 (list_n : Int), .int .i64 t26, undef, undef, undef, undef, .slice list_a list_n list_e, .bool r1, .bool (!r1), .bool false, .slice breaks_a breaks_n breaks_e, .int .i64 (breaks_n : Int), .bool (decide ((16 : Int) < (breaks_n : Int))), .bool (decide ((16 : Int) < (breaks_n : Int))), .slice (some ⟨b1, 0, none⟩) 1 1, .slice list_a list_n list_e, .int .i64 (list_n : Int), .slice breaks_a breaks_n breaks_e, .int .i64 (breaks_n : Int), .int .i64 t26, .bool (decide ((t26 : Int) < (breaks_n : Int))), .int .i64 t26, .slice breaks_a breaks_n breaks_e, .int .i64 t26, .pointer (some ⟨b2, f1 + (t26 : Int).toNat * 1, none⟩), .int .i64 x1, .int .i64 (list_n : Int), .int .i64 (IntKind.wrap .i64 ((list_n : Int) - 1)), .bool r2, .bool (!r2), .bool true, undef, undef, undef, undef, undef, undef, undef, undef, undef, undef, undef, undef, undef, undef, .bool true, g53, g54, g55, g56, g57, g58, g59, g60, undef, undef, undef, undef, undef, undef, undef, undef, undef, undef, undef, undef, undef, undef, undef, undef, undef, undef, undef, undef, undef, undef, undef, undef, undef, undef, undef, undef, undef, undef, undef, undef, undef, undef, undef, undef, undef, undef, undef, undef, undef, undef, undef, undef, undef] H3) (Br (decide ((0 : Int) < t26)) ((0 : Int) ≤ t26 ∧ t26 < (breaks_n : Int) ∧ ∃ b3 f2, (breaks_a : Option Addr) = some ⟨b3, f2, none⟩ ∧ ∃ x2 : Int,  rdC H3 b3 (f2 + (t26 : Int).toNat * 1) = some (.int .i64 x2) ∧ (0 : Int) ≤ IntKind.wrap .i64 (t26 - 1) ∧ IntKind.wrap .i64 (t26 - 1) < (breaks_n : Int) ∧ ∃ b4 f3, (breaks_a : Option Addr) = some ⟨b4, f3, none⟩ ∧ ∃ x3 : Int,  rdC H3 b4 (f3 + (IntKind.wrap .i64 (t26 - 1) : Int).toNat * 1) = some (.int .i64 x3) ∧ Br (decide ((x2 : Int) ≤ x3)) (R .ret [.slice list_a list_n list_e, .slice breaks_a breaks_n breaks_e, undef, undef, .slice none 0 0, .bool false, .slice edges_a edges_n edges_e, .int .i64 (list_n : Int), .int .i64 t26, undef, undef, undef, undef, .slice list_a list_n list_e, .bool r1, .bool (!r1), .bool false, .slice breaks_a breaks_n breaks_e, .int .i64 (breaks_n : Int), .bool (decide ((16 : Int) < (breaks_n : Int))), .bool (decide ((16 : Int) < (breaks_n : Int))), .slice (some ⟨b1, 0, none⟩) 1 1, .slice list_a list_n list_e, .int .i64 (list_n : Int), .slice breaks_a breaks_n breaks_e, .int .i64 (breaks_n : Int), .int .i64 t26, .bool (decide ((t26 : Int) < (breaks_n : Int))), .int .i64 t26, .slice breaks_a breaks_n breaks_e, .int .i64 t26, .pointer (some ⟨b2, f1 + (t26 : Int).toNat * 1, none⟩), .int .i64 x1, .int .i64 (list_n : Int), .int .i64 (IntKind.wrap .i64 ((list_n : Int) - 1)), .bool r2, .bool (!r2), .bool false, .int .i64 t26, .bool (decide ((0 : Int) < t26)), .bool true, .slice breaks_a breaks_n breaks_e, .int .i64 t26, .pointer (some ⟨b3, f2 + (t26 : Int).toNat * 1, none⟩), .int .i64 x2, .slice breaks_a breaks_n breaks_e, .int .i64 t26, .int .i64 (IntKind.wrap .i64 (t26 - 1)), .pointer (some ⟨b4, f3 + (IntKind.wrap .i64 (t26 - 1) : Int).toNat * 1, none⟩), .int .i64 x3, .bool (decide ((x2 : Int) ≤ x3)), .bool (decide ((x2 : Int) ≤ x3)), .bool (decide ((x2 : Int) ≤ x3)), g53, g54, g55, g56, g57, g58, g59, g60, undef, undef, undef, undef, undef, undef, undef, undef, undef, undef, undef, undef, undef, undef, undef, undef, undef, undef, undef, undef, undef, undef, undef, undef, undef, undef, undef, undef, undef, undef, undef, undef, undef, undef, undef, undef, undef, undef, undef, undef, undef, undef, undef, undef, undef] H3) ((0 : Int) ≤ t26 ∧ t26 < (breaks_n : Int) ∧ ∃ b5 f4, (breaks_a : Option Addr) = some ⟨b5, f4, none⟩ ∧ ∃ x4 : Int,  rdC H3 b5 (f4 + (t26 : Int).toNat * 1) = some (.int .i64 x4) ∧ Al [.int .i64 x4] H3 fun b6 H4 => ∃ o1 w1 : List Value, ownB H4 edges_a edges_n edges_e 1 = some o1 ∧ rdS H4 (some ⟨b6, 0, none⟩) (1 * 1) = some w1 ∧ ((edges_a : Option Addr) = none → 0 < (1 : Nat)) ∧ (edges_n : Nat) + 1 < most ∧ Ap H4 (killB H4 edges_a ++ [some ⟨o1 ++ w1, true⟩]) fun b7 H5 => R .normal [.slice list_a list_n list_e, .slice breaks_a breaks_n breaks_e, undef, undef, .slice t4_a t4_n t4_e, .bool t5, .slice (some ⟨b7, 0, none⟩) (edges_n + 1) 1, .int .i64 (list_n : Int), .int .i64 t26, undef, undef, undef, undef, .slice list_a list_n list_e, .bool r1, .bool (!r1), .bool false, .slice breaks_a breaks_n breaks_e, .int .i64 (breaks_n : Int), .bool (decide ((16 : Int) < (breaks_n : Int))), .bool (decide ((16 : Int) < (breaks_n : Int))), .slice (some ⟨b1, 0, none⟩) 1 1, .slice list_a list_n list_e, .int .i64 (list_n : Int), .slice breaks_a breaks_n breaks_e, .int .i64 (breaks_n : Int), .int .i64 (IntKind.wrap .i64 (t26 + 1)), .bool (decide ((t26 : Int) < (breaks_n : Int))), .int .i64 t26, .slice breaks_a breaks_n breaks_e, .int .i64 t26, .pointer (some ⟨b2, f1 + (t26 : Int).toNat * 1, none⟩), .int .i64 x1, .int .i64 (list_n : Int), .int .i64 (IntKind.wrap .i64 ((list_n : Int) - 1)), .bool r2, .bool (!r2), .bool false, .int .i64 t26, .bool (decide ((0 : Int) < t26)), .bool true, .slice breaks_a breaks_n breaks_e, .int .i64 t26, .pointer (some ⟨b3, f2 + (t26 : Int).toNat * 1, none⟩), .int .i64 x2, .slice breaks_a breaks_n breaks_e, .int .i64 t26, .int .i64 (IntKind.wrap .i64 (t26 - 1)), .pointer (some ⟨b4, f3 + (IntKind.wrap .i64 (t26 - 1) : Int).toNat * 1, none⟩), .int .i64 x3, .bool (decide ((x2 : Int) ≤ x3)), .bool (decide ((x2 : Int) ≤ x3)), .bool (decide ((x2 : Int) ≤ x3)), .slice edges_a edges_n edges_e, .slice breaks_a breaks_n breaks_e, .int .i64 t26, .pointer (some ⟨b5, f4 + (t26 : Int).toNat * 1, none⟩), .int .i64 x4, .slice (some ⟨b6, 0, none⟩) 1 1, .slice (some ⟨b7, 0, none⟩) (edges_n + 1) 1, .int .i64 (IntKind.wrap .i64 (t26 + 1)), undef, undef, undef, undef, undef, undef, undef, undef, undef, undef, undef, undef, undef, undef, undef, undef, undef, undef, undef, undef, undef, undef, undef, undef, undef, undef, undef, undef, undef, undef, undef, undef, undef, undef, undef, undef, undef, undef, undef, undef, undef, undef, undef, undef, undef] H5)) ((0 : Int) ≤ t26 ∧ t26 < (breaks_n : Int) ∧ ∃ b8 f5, (breaks_a : Option Addr) = some ⟨b8, f5, none⟩ ∧ ∃ x5 : Int,  rdC H3 b8 (f5 + (t26 : Int).toNat * 1) = some (.int .i64 x5) ∧ Al [.int .i64 x5] H3 fun b9 H6 => ∃ o2 w2 : List Value, ownB H6 edges_a edges_n edges_e 1 = some o2 ∧ rdS H6 (some ⟨b9, 0, none⟩) (1 * 1) = some w2 ∧ ((edges_a : Option Addr) = none → 0 < (1 : Nat)) ∧ (edges_n : Nat) + 1 < most ∧ Ap H6 (killB H6 edges_a ++ [some ⟨o2 ++ w2, true⟩]) fun b10 H7 => R .normal [.slice list_a list_n list_e, .slice breaks_a breaks_n breaks_e, undef, undef, .slice t4_a t4_n t4_e, .bool t5, .slice (some ⟨b10, 0, none⟩) (edges_n + 1) 1, .int .i64 (list_n : Int), .int .i64 t26, undef, undef, undef, undef, .slice list_a list_n list_e, .bool r1, .bool (!r1), .bool false, .slice breaks_a breaks_n breaks_e, .int .i64 (breaks_n : Int), .bool (decide ((16 : Int) < (breaks_n : Int))), .bool (decide ((16 : Int) < (breaks_n : Int))), .slice (some ⟨b1, 0, none⟩) 1 1, .slice list_a list_n list_e, .int .i64 (list_n : Int), .slice breaks_a breaks_n breaks_e, .int .i64 (breaks_n : Int), .int .i64 (IntKind.wrap .i64 (t26 + 1)), .bool (decide ((t26 : Int) < (breaks_n : Int))), .int .i64 t26, .slice breaks_a breaks_n breaks_e, .int .i64 t26, .pointer (some ⟨b2, f1 + (t26 : Int).toNat * 1, none⟩), .int .i64 x1, .int .i64 (list_n : Int), .int .i64 (IntKind.wrap .i64 ((list_n : Int) - 1)), .bool r2, .bool (!r2), .bool false, .int .i64 t26, .bool (decide ((0 : Int) < t26)), .bool false, undef, undef, undef, undef, undef, undef, undef, undef, undef, undef, .bool false, .bool false, .slice edges_a edges_n edges_e, .slice breaks_a breaks_n breaks_e, .int .i64 t26, .pointer (some ⟨b8, f5 + (t26 : Int).toNat * 1, none⟩), .int .i64 x5, .slice (some ⟨b9, 0, none⟩) 1 1, .slice (some ⟨b10, 0, none⟩) (edges_n + 1) 1, .int .i64 (IntKind.wrap .i64 (t26 + 1)), undef, undef, undef, undef, undef, undef, undef, undef, undef, undef, undef, undef, undef, undef, undef, undef, undef, undef, undef, undef, undef, undef, undef, undef, undef, undef, undef, undef, undef, undef, undef, undef, undef, undef, undef, undef, undef, undef, undef, undef, undef, undef, undef, undef, undef] H7))) (R (.exit 0) [.slice list_a list_n list_e, .slice breaks_a breaks_n breaks_e, undef, undef, .slice t4_a t4_n t4_e, .bool t5, .slice edges_a edges_n edges_e, .int .i64 (list_n : Int), g8, undef, undef, undef, undef, .slice list_a list_n list_e, .bool r1, .bool (!r1), .bool false, .slice breaks_a breaks_n breaks_e, .int .i64 (breaks_n : Int), .bool (decide ((16 : Int) < (breaks_n : Int))), .bool (decide ((16 : Int) < (breaks_n : Int))), .slice (some ⟨b1, 0, none⟩) 1 1, .slice list_a list_n list_e, .int .i64 (list_n : Int), .slice breaks_a breaks_n breaks_e, .int .i64 (breaks_n : Int), .int .i64 t26, .bool (decide ((t26 : Int) < (breaks_n : Int))), g28, g29, g30, g31, g32, g33, g34, g35, g36, g37, g38, g39, g40, g41, g42, g43, g44, g45, g46, g47, g48, g49, g50, g51, g52, g53, g54, g55, g56, g57, g58, g59, g60, undef, undef, undef, undef, undef, undef, undef, undef, undef, undef, undef, undef, undef, undef, undef, undef, undef, undef, undef, undef, undef, undef, undef, undef, undef, undef, undef, undef, undef, undef, undef, undef, undef, undef, undef, undef, undef, undef, undef, undef, undef, undef, undef, undef, undef] H)) := by kernel_rfl
def spec_SegmentMeans_I1 (b1 : Nat) (breaks_a : Option Addr) (breaks_e : Nat) (breaks_n : Nat) (list_a : Option Addr) (list_e : Nat) (list_n : Nat) (r1 : Bool) (Inv : Nat → (Option Addr) → Nat → Nat → Bool → (Option Addr) → Nat → Nat → Int → AHeap → Prop) : Nat → List Value → AHeap → Prop := fun μ tm H => ∃ (t4_a : Option Addr), ∃ (t4_n : Nat), ∃ (t4_e : Nat), ∃ (t5 : Bool), ∃ (edges_a : Option Addr), ∃ (edges_n : Nat), ∃ (edges_e : Nat), ∃ (t26 : Int), ∃ g8 g27 g28 g29 g30 g31 g32 g33 g34 g35 g36 g37 g38 g39 g40 g41 g42 g43 g44 g45 g46 g47 g48 g49 g50 g51 g52 g53 g54 g55 g56 g57 g58 g59 g60, tm = [.slice list_a list_n list_e, .slice breaks_a breaks_n breaks_e, undef, undef, .slice t4_a t4_n t4_e, .bool t5, .slice edges_a edges_n edges_e, .int .i64 (list_n : Int), g8, undef, undef, undef, undef, .slice list_a list_n list_e, .bool r1, .bool (!r1), .bool false, .slice breaks_a breaks_n breaks_e, .int .i64 (breaks_n : Int), .bool (decide ((16 : Int) < (breaks_n : Int))), .bool (decide ((16 : Int) < (breaks_n : Int))), .slice (some ⟨b1, 0, none⟩) 1 1, .slice list_a list_n list_e, .int .i64 (list_n : Int), .slice breaks_a breaks_n breaks_e, .int .i64 (breaks_n : Int), .int .i64 t26, g27, g28, g29, g30, g31, g32, g33, g34, g35, g36, g37, g38, g39, g40, g41, g42, g43, g44, g45, g46, g47, g48, g49, g50, g51, g52, g53, g54, g55, g56, g57, g58, g59, g60, undef, undef, undef, undef, undef, undef, undef, undef, undef, undef, undef, undef, undef, undef, undef, undef, undef, undef, undef, undef, undef, undef, undef, undef, undef, undef, undef, undef, undef, undef, undef, undef, undef, undef, undef, undef, undef, undef, undef, undef, undef, undef, undef, undef, undef] ∧ Inv μ t4_a t4_n t4_e t5 edges_a edges_n edges_e t26 H
theorem spec_SegmentMeans_L1 (b1 : Nat) (breaks_a : Option Addr) (breaks_e : Nat) (breaks_n : Nat) (list_a : Option Addr) (list_e : Nat) (list_n : Nat) (r1 : Bool) {Q : Post} (Inv : Nat → (Option Addr) → Nat → Nat → Bool → (Option Addr) → Nat → Nat → Int → AHeap → Prop) (ν : Nat) (t4_a : Option Addr) (t4_n : Nat) (t4_e : Nat) (t5 : Bool) (edges_a : Option Addr) (edges_n : Nat) (edges_e : Nat) (t26 : Int) (g8 g27 g28 g29 g30 g31 g32 g33 g34 g35 g36 g37 g38 g39 g40 g41 g42 g43 g44 g45 g46 g47 g48 g49 g50 g51 g52 g53 g54 g55 g56 g57 g58 g59 g60 : Value) (H : AHeap) (h0 : Inv ν t4_a t4_n t4_e t5 edges_a edges_n edges_e t26 H)
    (hs : ∀ (μ : Nat) (t4_a : Option Addr) (t4_n : Nat) (t4_e : Nat) (t5 : Bool) (edges_a : Option Addr) (edges_n : Nat) (edges_e : Nat) (t26 : Int) (g8 g27 g28 g29 g30 g31 g32 g33 g34 g35 g36 g37 g38 g39 g40 g41 g42 g43 g44 g45 g46 g47 g48 g49 g50 g51 g52 g53 g54 g55 g56 g57 g58 g59 g60 : Value) (H : AHeap), Inv μ t4_a t4_n t4_e t5 edges_a edges_n edges_e t26 H → exK Try.prog E_spec_SegmentMeans (cl (cl (cr (cl (cr (cr (cr (cr (bodyC Try.f24))))))))) [.slice list_a list_n list_e, .slice breaks_a breaks_n breaks_e, undef, undef, .slice t4_a t4_n t4_e, .bool t5, .slice edges_a edges_n edges_e, .int .i64 (list_n : Int), g8, undef, undef, undef, undef, .slice list_a list_n list_e, .bool r1, .bool (!r1), .bool false, .slice breaks_a breaks_n breaks_e, .int .i64 (breaks_n : Int), .bool (decide ((16 : Int) < (breaks_n : Int))), .bool (decide ((16 : Int) < (breaks_n : Int))), .slice (some ⟨b1, 0, none⟩) 1 1, .slice list_a list_n list_e, .int .i64 (list_n : Int), .slice breaks_a breaks_n breaks_e, .int .i64 (breaks_n : Int), .int .i64 t26, g27, g28, g29, g30, g31, g32, g33, g34, g35, g36, g37, g38, g39, g40, g41, g42, g43, g44, g45, g46, g47, g48, g49, g50, g51, g52, g53, g54, g55, g56, g57, g58, g59, g60, undef, undef, undef, undef, undef, undef, undef, undef, undef, undef, undef, undef, undef, undef, undef, undef, undef, undef, undef, undef, undef, undef, undef, undef, undef, undef, undef, undef, undef, undef, undef, undef, undef, undef, undef, undef, undef, undef, undef, undef, undef, undef, undef, undef, undef] H (loopQ (spec_SegmentMeans_I1 b1 breaks_a breaks_e breaks_n list_a list_e list_n r1 Inv) μ Q)) : loopK (exK Try.prog E_spec_SegmentMeans (cl (cl (cr (cl (cr (cr (cr (cr (bodyC Try.f24)))))))))) [.slice list_a list_n list_e, .slice breaks_a breaks_n breaks_e, undef, undef, .slice t4_a t4_n t4_e, .bool t5, .slice edges_a edges_n edges_e, .int .i64 (list_n : Int), g8, undef, undef, undef, undef, .slice list_a list_n list_e, .bool r1, .bool (!r1), .bool false, .slice breaks_a breaks_n breaks_e, .int .i64 (breaks_n : Int), .bool (decide ((16 : Int) < (breaks_n : Int))), .bool (decide ((16 : Int) < (breaks_n : Int))), .slice (some ⟨b1, 0, none⟩) 1 1, .slice list_a list_n list_e, .int .i64 (list_n : Int), .slice breaks_a breaks_n breaks_e, .int .i64 (breaks_n : Int), .int .i64 t26, g27, g28, g29, g30, g31, g32, g33, g34, g35, g36, g37, g38, g39, g40, g41, g42, g43, g44, g45, g46, g47, g48, g49, g50, g51, g52, g53, g54, g55, g56, g57, g58, g59, g60, undef, undef, undef, undef, undef, undef, undef, undef, undef, undef, undef, undef, undef, undef, undef, undef, undef, undef, undef, undef, undef, undef, undef, undef, undef, undef, undef, undef, undef, undef, undef, undef, undef, undef, undef, undef, undef, undef, undef, undef, undef, undef, undef, undef, undef] H Q :=
  ⟨spec_SegmentMeans_I1 b1 breaks_a breaks_e breaks_n list_a list_e list_n r1 Inv, ν, ⟨t4_a, t4_n, t4_e, t5, edges_a, edges_n, edges_e, t26, g8, g27, g28, g29, g30, g31, g32, g33, g34, g35, g36, g37, g38, g39, g40, g41, g42, g43, g44, g45, g46, g47, g48, g49, g50, g51, g52, g53, g54, g55, g56, g57, g58, g59, g60, rfl, h0⟩, fun μ tm H h => by obtain ⟨t4_a, t4_n, t4_e, t5, edges_a, edges_n, edges_e, t26, g8, g27, g28, g29, g30, g31, g32, g33, g34, g35, g36, g37, g38, g39, g40, g41, g42, g43, g44, g45, g46, g47, g48, g49, g50, g51, g52, g53, g54, g55, g56, g57, g58, g59, g60, rfl, hI⟩ := h; exact hs μ t4_a t4_n t4_e t5 edges_a edges_n edges_e t26 g8 g27 g28 g29 g30 g31 g32 g33 g34 g35 g36 g37 g38 g39 g40 g41 g42 g43 g44 g45 g46 g47 g48 g49 g50 g51 g52 g53 g54 g55 g56 g57 g58 g59 g60 H hI⟩
theorem spec_SegmentMeans_n1 {b1 : Nat} {breaks_a : Option Addr} {breaks_e : Nat} {breaks_n : Nat} {list_a : Option Addr} {list_e : Nat} {list_n : Nat} {r1 : Bool} {Q : Post} {Inv : Nat → (Option Addr) → Nat → Nat → Bool → (Option Addr) → Nat → Nat → Int → AHeap → Prop} {μ : Nat} (μ' : Nat) {t4_a : Option Addr} {t4_n : Nat} {t4_e : Nat} {t5 : Bool} {edges_a : Option Addr} {edges_n : Nat} {edges_e : Nat} {t26 : Int} {g8 g27 g28 g29 g30 g31 g32 g33 g34 g35 g36 g37 g38 g39 g40 g41 g42 g43 g44 g45 g46 g47 g48 g49 g50 g51 g52 g53 g54 g55 g56 g57 g58 g59 g60 : Value} {H : AHeap} (hm : μ' < μ) (hI : Inv μ' t4_a t4_n t4_e t5 edges_a edges_n edges_e t26 H) : loopQ (spec_SegmentMeans_I1 b1 breaks_a breaks_e breaks_n list_a list_e list_n r1 Inv) μ Q .normal [.slice list_a list_n list_e, .slice breaks_a breaks_n breaks_e, undef, undef, .slice t4_a t4_n t4_e, .bool t5, .slice edges_a edges_n edges_e, .int .i64 (list_n : Int), g8, undef, undef, undef, undef, .slice list_a list_n list_e, .bool r1, .bool (!r1), .bool false, .slice breaks_a breaks_n breaks_e, .int .i64 (breaks_n : Int), .bool (decide ((16 : Int) < (breaks_n : Int))), .bool (decide ((16 : Int) < (breaks_n : Int))), .slice (some ⟨b1, 0, none⟩) 1 1, .slice list_a list_n list_e, .int .i64 (list_n : Int), .slice breaks_a breaks_n breaks_e, .int .i64 (breaks_n : Int), .int .i64 t26, g27, g28, g29, g30, g31, g32, g33, g34, g35, g36, g37, g38, g39, g40, g41, g42, g43, g44, g45, g46, g47, g48, g49, g50, g51, g52, g53, g54, g55, g56, g57, g58, g59, g60, undef, undef, undef, undef, undef, undef, undef, undef, undef, undef, undef, undef, undef, undef, undef, undef, undef, undef, undef, undef, undef, undef, undef, undef, undef, undef, undef, undef, undef, undef, undef, undef, undef, undef, undef, undef, undef, undef, undef, undef, undef, undef, undef, undef, undef] H := ⟨μ', hm, t4_a, t4_n, t4_e, t5, edges_a, edges_n, edges_e, t26, g8, g27, g28, g29, g30, g31, g32, g33, g34, g35, g36, g37, g38, g39, g40, g41, g42, g43, g44, g45, g46, g47, g48, g49, g50, g51, g52, g53, g54, g55, g56, g57, g58, g59, g60, rfl, hI⟩
theorem spec_SegmentMeans_x1_0 (b1 : Nat) (breaks_a : Option Addr) (breaks_e : Nat) (breaks_n : Nat) (list_a : Option Addr) (list_e : Nat) (list_n : Nat) (r1 : Bool) (t4_a : Option Addr) (t4_n : Nat) (t4_e : Nat) (t5 : Bool) (edges_a : Option Addr) (edges_n : Nat) (edges_e : Nat) (t26 : Int) (g8 g27 g28 g29 g30 g31 g32 g33 g34 g35 g36 g37 g38 g39 g40 g41 g42 g43 g44 g45 g46 g47 g48 g49 g50 g51 g52 g53 g54 g55 g56 g57 g58 g59 g60 : Value) (H : AHeap) (K : Value → AHeap → Prop)  {I : Nat → List Value → AHeap → Prop} {μ : Nat} : loopQ I μ (blockQ 0 (seqQ (exK Try.prog E_spec_SegmentMeans (cr (cr (cr (cr (cr (bodyC Try.f24))))))) (retK Try.prog Try.f24 K))) (.exit 0) [.slice list_a list_n list_e, .slice breaks_a breaks_n breaks_e, undef, undef, .slice t4_a t4_n t4_e, .bool t5, .slice edges_a edges_n edges_e, .int .i64 (list_n : Int), g8, undef, undef, undef, undef, .slice list_a list_n list_e, .bool r1, .bool (!r1), .bool false, .slice breaks_a breaks_n breaks_e, .int .i64 (breaks_n : Int), .bool (decide ((16 : Int) < (breaks_n : Int))), .bool (decide ((16 : Int) < (breaks_n : Int))), .slice (some ⟨b1, 0, none⟩) 1 1, .slice list_a list_n list_e, .int .i64 (list_n : Int), .slice breaks_a breaks_n breaks_e, .int .i64 (breaks_n : Int), .int .i64 t26, g27, g28, g29, g30, g31, g32, g33, g34, g35, g36, g37, g38, g39, g40, g41, g42, g43, g44, g45, g46, g47, g48, g49, g50, g51, g52, g53, g54, g55, g56, g57, g58, g59, g60, undef, undef, undef, undef, undef, undef, undef, undef, undef, undef, undef, undef, undef, undef, undef, undef, undef, undef, undef, undef, undef, undef, undef, undef, undef, undef, undef, undef, undef, undef, undef, undef, undef, undef, undef, undef, undef, undef, undef, undef, undef, undef, undef, undef, undef] H =
  (Al [.int .i64 (list_n : Int)] H fun b11 H8 => ∃ o3 w3 : List Value, ownB H8 edges_a edges_n edges_e 1 = some o3 ∧ rdS H8 (some ⟨b11, 0, none⟩) (1 * 1) = some w3 ∧ ((edges_a : Option Addr) = none → 0 < (1 : Nat)) ∧ (edges_n : Nat) + 1 < most ∧ Ap H8 (killB H8 edges_a ++ [some ⟨o3 ++ w3, true⟩]) fun b12 H9 => Al [] H9 fun b13 H10 => loopK (exK Try.prog E_spec_SegmentMeans (cl (cl (cr (cl (cr (cr (cr (cr (cr (cr (cr (bodyC Try.f24))))))))))))) [.slice list_a list_n list_e, .slice breaks_a breaks_n breaks_e, undef, undef, .slice t4_a t4_n t4_e, .bool t5, .slice (some ⟨b12, 0, none⟩) (edges_n + 1) 1, .int .i64 (list_n : Int), g8, .slice (some ⟨b13, 0, none⟩) 0 1, .int .i64 0, undef, undef, .slice list_a list_n list_e, .bool r1, .bool (!r1), .bool false, .slice breaks_a breaks_n breaks_e, .int .i64 (breaks_n : Int), .bool (decide ((16 : Int) < (breaks_n : Int))), .bool (decide ((16 : Int) < (breaks_n : Int))), .slice (some ⟨b1, 0, none⟩) 1 1, .slice list_a list_n list_e, .int .i64 (list_n : Int), .slice breaks_a breaks_n breaks_e, .int .i64 (breaks_n : Int), .int .i64 t26, g27, g28, g29, g30, g31, g32, g33, g34, g35, g36, g37, g38, g39, g40, g41, g42, g43, g44, g45, g46, g47, g48, g49, g50, g51, g52, g53, g54, g55, g56, g57, g58, g59, g60, .slice edges_a edges_n edges_e, .int .i64 (list_n : Int), .slice (some ⟨b11, 0, none⟩) 1 1, .slice (some ⟨b12, 0, none⟩) (edges_n + 1) 1, .slice (some ⟨b13, 0, none⟩) 0 1, undef, undef, undef, undef, undef, undef, undef, undef, undef, undef, undef, undef, undef, undef, undef, undef, undef, undef, undef, undef, undef, undef, undef, undef, undef, undef, undef, undef, undef, undef, undef, undef, undef, undef, undef, undef, undef, undef, undef, undef] H10 (blockQ 2 (seqQ (exK Try.prog E_spec_SegmentMeans (cr (cr (cr (cr (cr (cr (cr (cr (bodyC Try.f24)))))))))) (retK Try.prog Try.f24 K)))) := by kernel_rfl
theorem spec_SegmentMeans_x1_ret (b1 : Nat) (breaks_a : Option Addr) (breaks_e : Nat) (breaks_n : Nat) (list_a : Option Addr) (list_e : Nat) (list_n : Nat) (r1 : Bool) (t4_a : Option Addr) (t4_n : Nat) (t4_e : Nat) (t5 : Bool) (edges_a : Option Addr) (edges_n : Nat) (edges_e : Nat) (t26 : Int) (g8 g27 g28 g29 g30 g31 g32 g33 g34 g35 g36 g37 g38 g39 g40 g41 g42 g43 g44 g45 g46 g47 g48 g49 g50 g51 g52 g53 g54 g55 g56 g57 g58 g59 g60 : Value) (H : AHeap) (K : Value → AHeap → Prop)  {I : Nat → List Value → AHeap → Prop} {μ : Nat} : loopQ I μ (blockQ 0 (seqQ (exK Try.prog E_spec_SegmentMeans (cr (cr (cr (cr (cr (bodyC Try.f24))))))) (retK Try.prog Try.f24 K))) .ret [.slice list_a list_n list_e, .slice breaks_a breaks_n breaks_e, undef, undef, .slice t4_a t4_n t4_e, .bool t5, .slice edges_a edges_n edges_e, .int .i64 (list_n : Int), g8, undef, undef, undef, undef, .slice list_a list_n list_e, .bool r1, .bool (!r1), .bool false, .slice breaks_a breaks_n breaks_e, .int .i64 (breaks_n : Int), .bool (decide ((16 : Int) < (breaks_n : Int))), .bool (decide ((16 : Int) < (breaks_n : Int))), .slice (some ⟨b1, 0, none⟩) 1 1, .slice list_a list_n list_e, .int .i64 (list_n : Int), .slice breaks_a breaks_n breaks_e, .int .i64 (breaks_n : Int), .int .i64 t26, g27, g28, g29, g30, g31, g32, g33, g34, g35, g36, g37, g38, g39, g40, g41, g42, g43, g44, g45, g46, g47, g48, g49, g50, g51, g52, g53, g54, g55, g56, g57, g58, g59, g60, undef, undef, undef, undef, undef, undef, undef, undef, undef, undef, undef, undef, undef, undef, undef, undef, undef, undef, undef, undef, undef, undef, undef, undef, undef, undef, undef, undef, undef, undef, undef, undef, undef, undef, undef, undef, undef, undef, undef, undef, undef, undef, undef, undef, undef] H =
  (K (.tuple #[.slice t4_a t4_n t4_e, .bool t5]) H) := by kernel_rfl
theorem spec_SegmentMeans_r2 (b1 : Nat) (b11 : Nat) (b12 : Nat) (b13 : Nat) (breaks_a : Option Addr) (breaks_e : Nat) (breaks_n : Nat) (edges_a : Option Addr) (edges_e : Nat) (edges_n : Nat) (g27 : Value) (g28 : Value) (g29 : Value) (g30 : Value) (g31 : Value) (g32 : Value) (g33 : Value) (g34 : Value) (g35 : Value) (g36 : Value) (g37 : Value) (g38 : Value) (g39 : Value) (g40 : Value) (g41 : Value) (g42 : Value) (g43 : Value) (g44 : Value) (g45 : Value) (g46 : Value) (g47 : Value) (g48 : Value) (g49 : Value) (g50 : Value) (g51 : Value) (g52 : Value) (g53 : Value) (g54 : Value) (g55 : Value) (g56 : Value) (g57 : Value) (g58 : Value) (g59 : Value) (g60 : Value) (g8 : Value) (list_a : Option Addr) (list_e : Nat) (list_n : Nat) (r1 : Bool) (t26 : Int) (t4_a : Option Addr) (t4_e : Nat) (t4_n : Nat) (t5 : Bool) (vout_a : Option Addr) (vout_n : Nat) (vout_e : Nat) (i : Int) (g11 g12 g66 g67 g68 g69 g70 g71 g72 g73 g74 g75 g76 g77 g78 g79 g80 g81 g82 g83 g84 g85 g86 g87 g88 g89 g90 g91 g92 g93 g94 g95 g96 g97 g98 g99 g100 g101 : Value) (H : AHeap) (R : Post) : exK Try.prog E_spec_SegmentMeans (cl (cl (cr (cl (cr (cr (cr (cr (cr (cr (cr (bodyC Try.f24)))))))))))) [.slice list_a list_n list_e, .slice breaks_a breaks_n breaks_e, undef, undef, .slice t4_a t4_n t4_e, .bool t5, .slice (some ⟨b12, 0, none⟩) (edges_n + 1) 1, .int .i64 (list_n : Int), g8, .slice vout_a vout_n vout_e, .int .i64 i, g11, g12, .slice list_a list_n list_e, .bool r1, .bool (!r1), .bool false, .slice breaks_a breaks_n breaks_e, .int .i64 (breaks_n : Int), .bool (decide ((16 : Int) < (breaks_n : Int))), .bool (decide ((16 : Int) < (breaks_n : Int))), .slice (some ⟨b1, 0, none⟩) 1 1, .slice list_a list_n list_e, .int .i64 (list_n : Int), .slice breaks_a breaks_n breaks_e, .int .i64 (breaks_n : Int), .int .i64 t26, g27, g28, g29, g30, g31, g32, g33, g34, g35, g36, g37, g38, g39, g40, g41, g42, g43, g44, g45, g46, g47, g48, g49, g50, g51, g52, g53, g54, g55, g56, g57, g58, g59, g60, .slice edges_a edges_n edges_e, .int .i64 (list_n : Int), .slice (some ⟨b11, 0, none⟩) 1 1, .slice (some ⟨b12, 0, none⟩) (edges_n + 1) 1, .slice (some ⟨b13, 0, none⟩) 0 1, g66, g67, g68, g69, g70, g71, g72, g73, g74, g75, g76, g77, g78, g79, g80, g81, g82, g83, g84, g85, g86, g87, g88, g89, g90, g91, g92, g93, g94, g95, g96, g97, g98, g99, g100, g101, undef, undef, undef, undef] H R =
  (Br (decide ((IntKind.wrap .i64 (i + 1) : Int) < (edges_n + 1 : Int))) ((0 : Int) ≤ i ∧ i < (edges_n + 1 : Int) ∧ ∃ b14 f6, (some ⟨b12, 0, none⟩ : Option Addr) = some ⟨b14, f6, none⟩ ∧ ∃ x6 : Int,  rdC H b14 (f6 + (i : Int).toNat * 1) = some (.int .i64 x6) ∧ (0 : Int) ≤ IntKind.wrap .i64 (i + 1) ∧ IntKind.wrap .i64 (i + 1) < (edges_n + 1 : Int) ∧ ∃ b15 f7, (some ⟨b12, 0, none⟩ : Option Addr) = some ⟨b15, f7, none⟩ ∧ ∃ x7 : Int,  rdC H b15 (f7 + (IntKind.wrap .i64 (i + 1) : Int).toNat * 1) = some (.int .i64 x7) ∧ (0 : Int) ≤ x6 ∧ x6 ≤ x7 ∧ x7 ≤ (list_n : Int) ∧ T_spec_l05Mean ((list_a : Option Addr).map fun a => ⟨a.block, a.off + (x6 : Int).toNat * 1, none⟩) (((x7 : Int) - x6).toNat) 0 H fun (r3 : Nat) (H11 : AHeap) => (0 : Int) ≤ i ∧ i < (edges_n + 1 : Int) ∧ ∃ b16 f8, (some ⟨b12, 0, none⟩ : Option Addr) = some ⟨b16, f8, none⟩ ∧ ∃ x8 : Int,  rdC H11 b16 (f8 + (i : Int).toNat * 1) = some (.int .i64 x8) ∧ loopK (exK Try.prog E_spec_SegmentMeans (cl (cl (cr (cr (cl (cl (cr (cl (cl (cr (cl (cr (cr (cr (cr (cr (cr (cr (bodyC Try.f24)))))))))))))))))))) [.slice list_a list_n list_e, .slice breaks_a breaks_n breaks_e, undef, undef, .slice t4_a t4_n t4_e, .bool t5, .slice (some ⟨b12, 0, none⟩) (edges_n + 1) 1, .int .i64 (list_n : Int), g8, .slice vout_a vout_n vout_e, .int .i64 i, .float .f32 r3, .int .i64 x8, .slice list_a list_n list_e, .bool r1, .bool (!r1), .bool false, .slice breaks_a breaks_n breaks_e, .int .i64 (breaks_n : Int), .bool (decide ((16 : Int) < (breaks_n : Int))), .bool (decide ((16 : Int) < (breaks_n : Int))), .slice (some ⟨b1, 0, none⟩) 1 1, .slice list_a list_n list_e, .int .i64 (list_n : Int), .slice breaks_a breaks_n breaks_e, .int .i64 (breaks_n : Int), .int .i64 t26, g27, g28, g29, g30, g31, g32, g33, g34, g35, g36, g37, g38, g39, g40, g41, g42, g43, g44, g45, g46, g47, g48, g49, g50, g51, g52, g53, g54, g55, g56, g57, g58, g59, g60, .slice edges_a edges_n edges_e, .int .i64 (list_n : Int), .slice (some ⟨b11, 0, none⟩) 1 1, .slice (some ⟨b12, 0, none⟩) (edges_n + 1) 1, .slice (some ⟨b13, 0, none⟩) 0 1, .int .i64 i, .int .i64 (IntKind.wrap .i64 (i + 1)), .slice (some ⟨b12, 0, none⟩) (edges_n + 1) 1, .int .i64 (edges_n + 1 : Int), .bool (decide ((IntKind.wrap .i64 (i + 1) : Int) < (edges_n + 1 : Int))), g71, g72, .slice list_a list_n list_e, .slice (some ⟨b12, 0, none⟩) (edges_n + 1) 1, .int .i64 i, .pointer (some ⟨b14, f6 + (i : Int).toNat * 1, none⟩), .int .i64 x6, .slice (some ⟨b12, 0, none⟩) (edges_n + 1) 1, .int .i64 i, .int .i64 (IntKind.wrap .i64 (i + 1)), .pointer (some ⟨b15, f7 + (IntKind.wrap .i64 (i + 1) : Int).toNat * 1, none⟩), .int .i64 x7, .slice ((list_a : Option Addr).map fun a => ⟨a.block, a.off + (x6 : Int).toNat * 1, none⟩) (((x7 : Int) - x6).toNat) 0, .float .f32 r3, .slice (some ⟨b12, 0, none⟩) (edges_n + 1) 1, .int .i64 i, .pointer (some ⟨b16, f8 + (i : Int).toNat * 1, none⟩), .int .i64 x8, g89, g90, g91, g92, g93, g94, g95, g96, g97, g98, g99, g100, g101, undef, undef, undef, undef] H11 (blockQ 4 (blockQ 3 (seqQ (exK Try.prog E_spec_SegmentMeans (cr (cr (cl (cl (cr (cl (cr (cr (cr (cr (cr (cr (cr (bodyC Try.f24))))))))))))))) (R))))) (R (.exit 2) [.slice list_a list_n list_e, .slice breaks_a breaks_n breaks_e, undef, undef, .slice t4_a t4_n t4_e, .bool t5, .slice (some ⟨b12, 0, none⟩) (edges_n + 1) 1, .int .i64 (list_n : Int), g8, .slice vout_a vout_n vout_e, .int .i64 i, g11, g12, .slice list_a list_n list_e, .bool r1, .bool (!r1), .bool false, .slice breaks_a breaks_n breaks_e, .int .i64 (breaks_n : Int), .bool (decide ((16 : Int) < (breaks_n : Int))), .bool (decide ((16 : Int) < (breaks_n : Int))), .slice (some ⟨b1, 0, none⟩) 1 1, .slice list_a list_n list_e, .int .i64 (list_n : Int), .slice breaks_a breaks_n breaks_e, .int .i64 (breaks_n : Int), .int .i64 t26, g27, g28, g29, g30, g31, g32, g33, g34, g35, g36, g37, g38, g39, g40, g41, g42, g43, g44, g45, g46, g47, g48, g49, g50, g51, g52, g53, g54, g55, g56, g57, g58, g59, g60, .slice edges_a edges_n edges_e, .int .i64 (list_n : Int), .slice (some ⟨b11, 0, none⟩) 1 1, .slice (some ⟨b12, 0, none⟩) (edges_n + 1) 1, .slice (some ⟨b13, 0, none⟩) 0 1, .int .i64 i, .int .i64 (IntKind.wrap .i64 (i + 1)), .slice (some ⟨b12, 0, none⟩) (edges_n + 1) 1, .int .i64 (edges_n + 1 : Int), .bool (decide ((IntKind.wrap .i64 (i + 1) : Int) < (edges_n + 1 : Int))), g71, g72, g73, g74, g75, g76, g77, g78, g79, g80, g81, g82, g83, g84, g85, g86, g87, g88, g89, g90, g91, g92, g93, g94, g95, g96, g97, g98, g99, g100, g101, undef, undef, undef, undef] H)) := by kernel_rfl
def spec_SegmentMeans_I2 (b1 : Nat) (b11 : Nat) (b12 : Nat) (b13 : Nat) (breaks_a : Option Addr) (breaks_e : Nat) (breaks_n : Nat) (edges_a : Option Addr) (edges_e : Nat) (edges_n : Nat) (g27 : Value) (g28 : Value) (g29 : Value) (g30 : Value) (g31 : Value) (g32 : Value) (g33 : Value) (g34 : Value) (g35 : Value) (g36 : Value) (g37 : Value) (g38 : Value) (g39 : Value) (g40 : Value) (g41 : Value) (g42 : Value) (g43 : Value) (g44 : Value) (g45 : Value) (g46 : Value) (g47 : Value) (g48 : Value) (g49 : Value) (g50 : Value) (g51 : Value) (g52 : Value) (g53 : Value) (g54 : Value) (g55 : Value) (g56 : Value) (g57 : Value) (g58 : Value) (g59 : Value) (g60 : Value) (g8 : Value) (list_a : Option Addr) (list_e : Nat) (list_n : Nat) (r1 : Bool) (t26 : Int) (t4_a : Option Addr) (t4_e : Nat) (t4_n : Nat) (t5 : Bool) (Inv : Nat → (Option Addr) → Nat → Nat → Int → AHeap → Prop) : Nat → List Value → AHeap → Prop := fun μ tm H => ∃ (vout_a : Option Addr), ∃ (vout_n : Nat), ∃ (vout_e : Nat), ∃ (i : Int), ∃ g11 g12 g66 g67 g68 g69 g70 g71 g72 g73 g74 g75 g76 g77 g78 g79 g80 g81 g82 g83 g84 g85 g86 g87 g88 g89 g90 g91 g92 g93 g94 g95 g96 g97 g98 g99 g100 g101, tm = [.slice list_a list_n list_e, .slice breaks_a breaks_n breaks_e, undef, undef, .slice t4_a t4_n t4_e, .bool t5, .slice (some ⟨b12, 0, none⟩) (edges_n + 1) 1, .int .i64 (list_n : Int), g8, .slice vout_a vout_n vout_e, .int .i64 i, g11, g12, .slice list_a list_n list_e, .bool r1, .bool (!r1), .bool false, .slice breaks_a breaks_n breaks_e, .int .i64 (breaks_n : Int), .bool (decide ((16 : Int) < (breaks_n : Int))), .bool (decide ((16 : Int) < (breaks_n : Int))), .slice (some ⟨b1, 0, none⟩) 1 1, .slice list_a list_n list_e, .int .i64 (list_n : Int), .slice breaks_a breaks_n breaks_e, .int .i64 (breaks_n : Int), .int .i64 t26, g27, g28, g29, g30, g31, g32, g33, g34, g35, g36, g37, g38, g39, g40, g41, g42, g43, g44, g45, g46, g47, g48, g49, g50, g51, g52, g53, g54, g55, g56, g57, g58, g59, g60, .slice edges_a edges_n edges_e, .int .i64 (list_n : Int), .slice (some ⟨b11, 0, none⟩) 1 1, .slice (some ⟨b12, 0, none⟩) (edges_n + 1) 1, .slice (some ⟨b13, 0, none⟩) 0 1, g66, g67, g68, g69, g70, g71, g72, g73, g74, g75, g76, g77, g78, g79, g80, g81, g82, g83, g84, g85, g86, g87, g88, g89, g90, g91, g92, g93, g94, g95, g96, g97, g98, g99, g100, g101, undef, undef, undef, undef] ∧ Inv μ vout_a vout_n vout_e i H
theorem spec_SegmentMeans_L2 (b1 : Nat) (b11 : Nat) (b12 : Nat) (b13 : Nat) (breaks_a : Option Addr) (breaks_e : Nat) (breaks_n : Nat) (edges_a : Option Addr) (edges_e : Nat) (edges_n : Nat) (g27 : Value) (g28 : Value) (g29 : Value) (g30 : Value) (g31 : Value) (g32 : Value) (g33 : Value) (g34 : Value) (g35 : Value) (g36 : Value) (g37 : Value) (g38 : Value) (g39 : Value) (g40 : Value) (g41 : Value) (g42 : Value) (g43 : Value) (g44 : Value) (g45 : Value) (g46 : Value) (g47 : Value) (g48 : Value) (g49 : Value) (g50 : Value) (g51 : Value) (g52 : Value) (g53 : Value) (g54 : Value) (g55 : Value) (g56 : Value) (g57 : Value) (g58 : Value) (g59 : Value) (g60 : Value) (g8 : Value) (list_a : Option Addr) (list_e : Nat) (list_n : Nat) (r1 : Bool) (t26 : Int) (t4_a : Option Addr) (t4_e : Nat) (t4_n : Nat) (t5 : Bool) {Q : Post} (Inv : Nat → (Option Addr) → Nat → Nat → Int → AHeap → Prop) (ν : Nat) (vout_a : Option Addr) (vout_n : Nat) (vout_e : Nat) (i : Int) (g11 g12 g66 g67 g68 g69 g70 g71 g72 g73 g74 g75 g76 g77 g78 g79 g80 g81 g82 g83 g84 g85 g86 g87 g88 g89 g90 g91 g92 g93 g94 g95 g96 g97 g98 g99 g100 g101 : Value) (H : AHeap) (h0 : Inv ν vout_a vout_n vout_e i H)
    (hs : ∀ (μ : Nat) (vout_a : Option Addr) (vout_n : Nat) (vout_e : Nat) (i : Int) (g11 g12 g66 g67 g68 g69 g70 g71 g72 g73 g74 g75 g76 g77 g78 g79 g80 g81 g82 g83 g84 g85 g86 g87 g88 g89 g90 g91 g92 g93 g94 g95 g96 g97 g98 g99 g100 g101 : Value) (H : AHeap), Inv μ vout_a vout_n vout_e i H → exK Try.prog E_spec_SegmentMeans (cl (cl (cr (cl (cr (cr (cr (cr (cr (cr (cr (bodyC Try.f24)))))))))))) [.slice list_a list_n list_e, .slice breaks_a breaks_n breaks_e, undef, undef, .slice t4_a t4_n t4_e, .bool t5, .slice (some ⟨b12, 0, none⟩) (edges_n + 1) 1, .int .i64 (list_n : Int), g8, .slice vout_a vout_n vout_e, .int .i64 i, g11, g12, .slice list_a list_n list_e, .bool r1, .bool (!r1), .bool false, .slice breaks_a breaks_n breaks_e, .int .i64 (breaks_n : Int), .bool (decide ((16 : Int) < (breaks_n : Int))), .bool (decide ((16 : Int) < (breaks_n : Int))), .slice (some ⟨b1, 0, none⟩) 1 1, .slice list_a list_n list_e, .int .i64 (list_n : Int), .slice breaks_a breaks_n breaks_e, .int .i64 (breaks_n : Int), .int .i64 t26, g27, g28, g29, g30, g31, g32, g33, g34, g35, g36, g37, g38, g39, g40, g41, g42, g43, g44, g45, g46, g47, g48, g49, g50, g51, g52, g53, g54, g55, g56, g57, g58, g59, g60, .slice edges_a edges_n edges_e, .int .i64 (list_n : Int), .slice (some ⟨b11, 0, none⟩) 1 1, .slice (some ⟨b12, 0, none⟩) (edges_n + 1) 1, .slice (some ⟨b13, 0, none⟩) 0 1, g66, g67, g68, g69, g70, g71, g72, g73, g74, g75, g76, g77, g78, g79, g80, g81, g82, g83, g84, g85, g86, g87, g88, g89, g90, g91, g92, g93, g94, g95, g96, g97, g98, g99, g100, g101, undef, undef, undef, undef] H (loopQ (spec_SegmentMeans_I2 b1 b11 b12 b13 breaks_a breaks_e breaks_n edges_a edges_e edges_n g27 g28 g29 g30 g31 g32 g33 g34 g35 g36 g37 g38 g39 g40 g41 g42 g43 g44 g45 g46 g47 g48 g49 g50 g51 g52 g53 g54 g55 g56 g57 g58 g59 g60 g8 list_a list_e list_n r1 t26 t4_a t4_e t4_n t5 Inv) μ Q)) : loopK (exK Try.prog E_spec_SegmentMeans (cl (cl (cr (cl (cr (cr (cr (cr (cr (cr (cr (bodyC Try.f24))))))))))))) [.slice list_a list_n list_e, .slice breaks_a breaks_n breaks_e, undef, undef, .slice t4_a t4_n t4_e, .bool t5, .slice (some ⟨b12, 0, none⟩) (edges_n + 1) 1, .int .i64 (list_n : Int), g8, .slice vout_a vout_n vout_e, .int .i64 i, g11, g12, .slice list_a list_n list_e, .bool r1, .bool (!r1), .bool false, .slice breaks_a breaks_n breaks_e, .int .i64 (breaks_n : Int), .bool (decide ((16 : Int) < (breaks_n : Int))), .bool (decide ((16 : Int) < (breaks_n : Int))), .slice (some ⟨b1, 0, none⟩) 1 1, .slice list_a list_n list_e, .int .i64 (list_n : Int), .slice breaks_a breaks_n breaks_e, .int .i64 (breaks_n : Int), .int .i64 t26, g27, g28, g29, g30, g31, g32, g33, g34, g35, g36, g37, g38, g39, g40, g41, g42, g43, g44, g45, g46, g47, g48, g49, g50, g51, g52, g53, g54, g55, g56, g57, g58, g59, g60, .slice edges_a edges_n edges_e, .int .i64 (list_n : Int), .slice (some ⟨b11, 0, none⟩) 1 1, .slice (some ⟨b12, 0, none⟩) (edges_n + 1) 1, .slice (some ⟨b13, 0, none⟩) 0 1, g66, g67, g68, g69, g70, g71, g72, g73, g74, g75, g76, g77, g78, g79, g80, g81, g82, g83, g84, g85, g86, g87, g88, g89, g90, g91, g92, g93, g94, g95, g96, g97, g98, g99, g100, g101, undef, undef, undef, undef] H Q :=
  ⟨spec_SegmentMeans_I2 b1 b11 b12 b13 breaks_a breaks_e breaks_n edges_a edges_e edges_n g27 g28 g29 g30 g31 g32 g33 g34 g35 g36 g37 g38 g39 g40 g41 g42 g43 g44 g45 g46 g47 g48 g49 g50 g51 g52 g53 g54 g55 g56 g57 g58 g59 g60 g8 list_a list_e list_n r1 t26 t4_a t4_e t4_n t5 Inv, ν, ⟨vout_a, vout_n, vout_e, i, g11, g12, g66, g67, g68, g69, g70, g71, g72, g73, g74, g75, g76, g77, g78, g79, g80, g81, g82, g83, g84, g85, g86, g87, g88, g89, g90, g91, g92, g93, g94, g95, g96, g97, g98, g99, g100, g101, rfl, h0⟩, fun μ tm H h => by obtain ⟨vout_a, vout_n, vout_e, i, g11, g12, g66, g67, g68, g69, g70, g71, g72, g73, g74, g75, g76, g77, g78, g79, g80, g81, g82, g83, g84, g85, g86, g87, g88, g89, g90, g91, g92, g93, g94, g95, g96, g97, g98, g99, g100, g101, rfl, hI⟩ := h; exact hs μ vout_a vout_n vout_e i g11 g12 g66 g67 g68 g69 g70 g71 g72 g73 g74 g75 g76 g77 g78 g79 g80 g81 g82 g83 g84 g85 g86 g87 g88 g89 g90 g91 g92 g93 g94 g95 g96 g97 g98 g99 g100 g101 H hI⟩
theorem spec_SegmentMeans_n2 {b1 : Nat} {b11 : Nat} {b12 : Nat} {b13 : Nat} {breaks_a : Option Addr} {breaks_e : Nat} {breaks_n : Nat} {edges_a : Option Addr} {edges_e : Nat} {edges_n : Nat} {g27 : Value} {g28 : Value} {g29 : Value} {g30 : Value} {g31 : Value} {g32 : Value} {g33 : Value} {g34 : Value} {g35 : Value} {g36 : Value} {g37 : Value} {g38 : Value} {g39 : Value} {g40 : Value} {g41 : Value} {g42 : Value} {g43 : Value} {g44 : Value} {g45 : Value} {g46 : Value} {g47 : Value} {g48 : Value} {g49 : Value} {g50 : Value} {g51 : Value} {g52 : Value} {g53 : Value} {g54 : Value} {g55 : Value} {g56 : Value} {g57 : Value} {g58 : Value} {g59 : Value} {g60 : Value} {g8 : Value} {list_a : Option Addr} {list_e : Nat} {list_n : Nat} {r1 : Bool} {t26 : Int} {t4_a : Option Addr} {t4_e : Nat} {t4_n : Nat} {t5 : Bool} {Q : Post} {Inv : Nat → (Option Addr) → Nat → Nat → Int → AHeap → Prop} {μ : Nat} (μ' : Nat) {vout_a : Option Addr} {vout_n : Nat} {vout_e : Nat} {i : Int} {g11 g12 g66 g67 g68 g69 g70 g71 g72 g73 g74 g75 g76 g77 g78 g79 g80 g81 g82 g83 g84 g85 g86 g87 g88 g89 g90 g91 g92 g93 g94 g95 g96 g97 g98 g99 g100 g101 : Value} {H : AHeap} (hm : μ' < μ) (hI : Inv μ' vout_a vout_n vout_e i H) : loopQ (spec_SegmentMeans_I2 b1 b11 b12 b13 breaks_a breaks_e breaks_n edges_a edges_e edges_n g27 g28 g29 g30 g31 g32 g33 g34 g35 g36 g37 g38 g39 g40 g41 g42 g43 g44 g45 g46 g47 g48 g49 g50 g51 g52 g53 g54 g55 g56 g57 g58 g59 g60 g8 list_a list_e list_n r1 t26 t4_a t4_e t4_n t5 Inv) μ Q .normal [.slice list_a list_n list_e, .slice breaks_a breaks_n breaks_e, undef, undef, .slice t4_a t4_n t4_e, .bool t5, .slice (some ⟨b12, 0, none⟩) (edges_n + 1) 1, .int .i64 (list_n : Int), g8, .slice vout_a vout_n vout_e, .int .i64 i, g11, g12, .slice list_a list_n list_e, .bool r1, .bool (!r1), .bool false, .slice breaks_a breaks_n breaks_e, .int .i64 (breaks_n : Int), .bool (decide ((16 : Int) < (breaks_n : Int))), .bool (decide ((16 : Int) < (breaks_n : Int))), .slice (some ⟨b1, 0, none⟩) 1 1, .slice list_a list_n list_e, .int .i64 (list_n : Int), .slice breaks_a breaks_n breaks_e, .int .i64 (breaks_n : Int), .int .i64 t26, g27, g28, g29, g30, g31, g32, g33, g34, g35, g36, g37, g38, g39, g40, g41, g42, g43, g44, g45, g46, g47, g48, g49, g50, g51, g52, g53, g54, g55, g56, g57, g58, g59, g60, .slice edges_a edges_n edges_e, .int .i64 (list_n : Int), .slice (some ⟨b11, 0, none⟩) 1 1, .slice (some ⟨b12, 0, none⟩) (edges_n + 1) 1, .slice (some ⟨b13, 0, none⟩) 0 1, g66, g67, g68, g69, g70, g71, g72, g73, g74, g75, g76, g77, g78, g79, g80, g81, g82, g83, g84, g85, g86, g87, g88, g89, g90, g91, g92, g93, g94, g95, g96, g97, g98, g99, g100, g101, undef, undef, undef, undef] H := ⟨μ', hm, vout_a, vout_n, vout_e, i, g11, g12, g66, g67, g68, g69, g70, g71, g72, g73, g74, g75, g76, g77, g78, g79, g80, g81, g82, g83, g84, g85, g86, g87, g88, g89, g90, g91, g92, g93, g94, g95, g96, g97, g98, g99, g100, g101, rfl, hI⟩
theorem spec_SegmentMeans_x2_2 (b1 : Nat) (b11 : Nat) (b12 : Nat) (b13 : Nat) (breaks_a : Option Addr) (breaks_e : Nat) (breaks_n : Nat) (edges_a : Option Addr) (edges_e : Nat) (edges_n : Nat) (g27 : Value) (g28 : Value) (g29 : Value) (g30 : Value) (g31 : Value) (g32 : Value) (g33 : Value) (g34 : Value) (g35 : Value) (g36 : Value) (g37 : Value) (g38 : Value) (g39 : Value) (g40 : Value) (g41 : Value) (g42 : Value) (g43 : Value) (g44 : Value) (g45 : Value) (g46 : Value) (g47 : Value) (g48 : Value) (g49 : Value) (g50 : Value) (g51 : Value) (g52 : Value) (g53 : Value) (g54 : Value) (g55 : Value) (g56 : Value) (g57 : Value) (g58 : Value) (g59 : Value) (g60 : Value) (g8 : Value) (list_a : Option Addr) (list_e : Nat) (list_n : Nat) (r1 : Bool) (t26 : Int) (t4_a : Option Addr) (t4_e : Nat) (t4_n : Nat) (t5 : Bool) (vout_a : Option Addr) (vout_n : Nat) (vout_e : Nat) (i : Int) (g11 g12 g66 g67 g68 g69 g70 g71 g72 g73 g74 g75 g76 g77 g78 g79 g80 g81 g82 g83 g84 g85 g86 g87 g88 g89 g90 g91 g92 g93 g94 g95 g96 g97 g98 g99 g100 g101 : Value) (H : AHeap) (K : Value → AHeap → Prop)  {I : Nat → List Value → AHeap → Prop} {μ : Nat} : loopQ I μ (blockQ 2 (seqQ (exK Try.prog E_spec_SegmentMeans (cr (cr (cr (cr (cr (cr (cr (cr (bodyC Try.f24)))))))))) (retK Try.prog Try.f24 K))) (.exit 2) [.slice list_a list_n list_e, .slice breaks_a breaks_n breaks_e, undef, undef, .slice t4_a t4_n t4_e, .bool t5, .slice (some ⟨b12, 0, none⟩) (edges_n + 1) 1, .int .i64 (list_n : Int), g8, .slice vout_a vout_n vout_e, .int .i64 i, g11, g12, .slice list_a list_n list_e, .bool r1, .bool (!r1), .bool false, .slice breaks_a breaks_n breaks_e, .int .i64 (breaks_n : Int), .bool (decide ((16 : Int) < (breaks_n : Int))), .bool (decide ((16 : Int) < (breaks_n : Int))), .slice (some ⟨b1, 0, none⟩) 1 1, .slice list_a list_n list_e, .int .i64 (list_n : Int), .slice breaks_a breaks_n breaks_e, .int .i64 (breaks_n : Int), .int .i64 t26, g27, g28, g29, g30, g31, g32, g33, g34, g35, g36, g37, g38, g39, g40, g41, g42, g43, g44, g45, g46, g47, g48, g49, g50, g51, g52, g53, g54, g55, g56, g57, g58, g59, g60, .slice edges_a edges_n edges_e, .int .i64 (list_n : Int), .slice (some ⟨b11, 0, none⟩) 1 1, .slice (some ⟨b12, 0, none⟩) (edges_n + 1) 1, .slice (some ⟨b13, 0, none⟩) 0 1, g66, g67, g68, g69, g70, g71, g72, g73, g74, g75, g76, g77, g78, g79, g80, g81, g82, g83, g84, g85, g86, g87, g88, g89, g90, g91, g92, g93, g94, g95, g96, g97, g98, g99, g100, g101, undef, undef, undef, undef] H =
  (T_spec_l02Finite vout_a vout_n vout_e H fun (r4 : Bool) (H14 : AHeap) => Br (!r4) (K (.tuple #[.slice none 0 0, .bool false]) H14) (K (.tuple #[.slice vout_a vout_n vout_e, .bool true]) H14)) := by kernel_rfl
theorem spec_SegmentMeans_r3 (b1 : Nat) (b11 : Nat) (b12 : Nat) (b13 : Nat) (b14 : Nat) (b15 : Nat) (b16 : Nat) (breaks_a : Option Addr) (breaks_e : Nat) (breaks_n : Nat) (edges_a : Option Addr) (edges_e : Nat) (edges_n : Nat) (f6 : Nat) (f8 : Nat) (g27 : Value) (g28 : Value) (g29 : Value) (g30 : Value) (g31 : Value) (g32 : Value) (g33 : Value) (g34 : Value) (g35 : Value) (g36 : Value) (g37 : Value) (g38 : Value) (g39 : Value) (g40 : Value) (g41 : Value) (g42 : Value) (g43 : Value) (g44 : Value) (g45 : Value) (g46 : Value) (g47 : Value) (g48 : Value) (g49 : Value) (g50 : Value) (g51 : Value) (g52 : Value) (g53 : Value) (g54 : Value) (g55 : Value) (g56 : Value) (g57 : Value) (g58 : Value) (g59 : Value) (g60 : Value) (g71 : Value) (g72 : Value) (g8 : Value) (i : Int) (list_a : Option Addr) (list_e : Nat) (list_n : Nat) (r1 : Bool) (r3 : Nat) (t26 : Int) (t4_a : Option Addr) (t4_e : Nat) (t4_n : Nat) (t5 : Bool) (x6 : Int) (x7 : Int) (x8 : Int) (z3_67 : Int) (z3_70 : Bool) (z3_80 : Int) (z3_81 : Nat) (vout_a : Option Addr) (vout_n : Nat) (vout_e : Nat) (k : Int) (g89 g90 g91 g92 g93 g94 g95 g96 g97 g98 g99 g100 g101 : Value) (H : AHeap) (R : Post) : exK Try.prog E_spec_SegmentMeans (cl (cl (cr (cr (cl (cl (cr (cl (cl (cr (cl (cr (cr (cr (cr (cr (cr (cr (bodyC Try.f24))))))))))))))))))) [.slice list_a list_n list_e, .slice breaks_a breaks_n breaks_e, undef, undef, .slice t4_a t4_n t4_e, .bool t5, .slice (some ⟨b12, 0, none⟩) (edges_n + 1) 1, .int .i64 (list_n : Int), g8, .slice vout_a vout_n vout_e, .int .i64 i, .float .f32 r3, .int .i64 k, .slice list_a list_n list_e, .bool r1, .bool (!r1), .bool false, .slice breaks_a breaks_n breaks_e, .int .i64 (breaks_n : Int), .bool (decide ((16 : Int) < (breaks_n : Int))), .bool (decide ((16 : Int) < (breaks_n : Int))), .slice (some ⟨b1, 0, none⟩) 1 1, .slice list_a list_n list_e, .int .i64 (list_n : Int), .slice breaks_a breaks_n breaks_e, .int .i64 (breaks_n : Int), .int .i64 t26, g27, g28, g29, g30, g31, g32, g33, g34, g35, g36, g37, g38, g39, g40, g41, g42, g43, g44, g45, g46, g47, g48, g49, g50, g51, g52, g53, g54, g55, g56, g57, g58, g59, g60, .slice edges_a edges_n edges_e, .int .i64 (list_n : Int), .slice (some ⟨b11, 0, none⟩) 1 1, .slice (some ⟨b12, 0, none⟩) (edges_n + 1) 1, .slice (some ⟨b13, 0, none⟩) 0 1, .int .i64 i, .int .i64 z3_67, .slice (some ⟨b12, 0, none⟩) (edges_n + 1) 1, .int .i64 (edges_n + 1 : Int), .bool z3_70, g71, g72, .slice list_a list_n list_e, .slice (some ⟨b12, 0, none⟩) (edges_n + 1) 1, .int .i64 i, .pointer (some ⟨b14, f6 + (i : Int).toNat * 1, none⟩), .int .i64 x6, .slice (some ⟨b12, 0, none⟩) (edges_n + 1) 1, .int .i64 i, .int .i64 z3_80, .pointer (some ⟨b15, z3_81, none⟩), .int .i64 x7, .slice ((list_a : Option Addr).map fun a => ⟨a.block, a.off + (x6 : Int).toNat * 1, none⟩) (((x7 : Int) - x6).toNat) 0, .float .f32 r3, .slice (some ⟨b12, 0, none⟩) (edges_n + 1) 1, .int .i64 i, .pointer (some ⟨b16, f8 + (i : Int).toNat * 1, none⟩), .int .i64 x8, g89, g90, g91, g92, g93, g94, g95, g96, g97, g98, g99, g100, g101, undef, undef, undef, undef] H R =
  ((0 : Int) ≤ IntKind.wrap .i64 (i + 1) ∧ IntKind.wrap .i64 (i + 1) < (edges_n + 1 : Int) ∧ ∃ b17 f9, (some ⟨b12, 0, none⟩ : Option Addr) = some ⟨b17, f9, none⟩ ∧ ∃ x9 : Int,  rdC H b17 (f9 + (IntKind.wrap .i64 (i + 1) : Int).toNat * 1) = some (.int .i64 x9) ∧ Br (decide ((k : Int) < x9)) (Al [.float .f32 r3] H fun b18 H12 => ∃ o4 w4 : List Value, ownB H12 vout_a vout_n vout_e 1 = some o4 ∧ rdS H12 (some ⟨b18, 0, none⟩) (1 * 1) = some w4 ∧ ((vout_a : Option Addr) = none → 0 < (1 : Nat)) ∧ (vout_n : Nat) + 1 < most ∧ Ap H12 (killB H12 vout_a ++ [some ⟨o4 ++ w4, true⟩]) fun b19 H13 => R .normal [.slice list_a list_n list_e, .slice breaks_a breaks_n breaks_e, undef, undef, .slice t4_a t4_n t4_e, .bool t5, .slice (some ⟨b12, 0, none⟩) (edges_n + 1) 1, .int .i64 (list_n : Int), g8, .slice (some ⟨b19, 0, none⟩) (vout_n + 1) 1, .int .i64 i, .float .f32 r3, .int .i64 (IntKind.wrap .i64 (k + 1)), .slice list_a list_n list_e, .bool r1, .bool (!r1), .bool false, .slice breaks_a breaks_n breaks_e, .int .i64 (breaks_n : Int), .bool (decide ((16 : Int) < (breaks_n : Int))), .bool (decide ((16 : Int) < (breaks_n : Int))), .slice (some ⟨b1, 0, none⟩) 1 1, .slice list_a list_n list_e, .int .i64 (list_n : Int), .slice breaks_a breaks_n breaks_e, .int .i64 (breaks_n : Int), .int .i64 t26, g27, g28, g29, g30, g31, g32, g33, g34, g35, g36, g37, g38, g39, g40, g41, g42, g43, g44, g45, g46, g47, g48, g49, g50, g51, g52, g53, g54, g55, g56, g57, g58, g59, g60, .slice edges_a edges_n edges_e, .int .i64 (list_n : Int), .slice (some ⟨b11, 0, none⟩) 1 1, .slice (some ⟨b12, 0, none⟩) (edges_n + 1) 1, .slice (some ⟨b13, 0, none⟩) 0 1, .int .i64 i, .int .i64 z3_67, .slice (some ⟨b12, 0, none⟩) (edges_n + 1) 1, .int .i64 (edges_n + 1 : Int), .bool z3_70, g71, g72, .slice list_a list_n list_e, .slice (some ⟨b12, 0, none⟩) (edges_n + 1) 1, .int .i64 i, .pointer (some ⟨b14, f6 + (i : Int).toNat * 1, none⟩), .int .i64 x6, .slice (some ⟨b12, 0, none⟩) (edges_n + 1) 1, .int .i64 i, .int .i64 z3_80, .pointer (some ⟨b15, z3_81, none⟩), .int .i64 x7, .slice ((list_a : Option Addr).map fun a => ⟨a.block, a.off + (x6 : Int).toNat * 1, none⟩) (((x7 : Int) - x6).toNat) 0, .float .f32 r3, .slice (some ⟨b12, 0, none⟩) (edges_n + 1) 1, .int .i64 i, .pointer (some ⟨b16, f8 + (i : Int).toNat * 1, none⟩), .int .i64 x8, .int .i64 k, .slice (some ⟨b12, 0, none⟩) (edges_n + 1) 1, .int .i64 i, .int .i64 (IntKind.wrap .i64 (i + 1)), .pointer (some ⟨b17, f9 + (IntKind.wrap .i64 (i + 1) : Int).toNat * 1, none⟩), .int .i64 x9, .bool (decide ((k : Int) < x9)), .int .i64 k, .int .i64 (IntKind.wrap .i64 (k + 1)), .slice vout_a vout_n vout_e, .float .f32 r3, .slice (some ⟨b18, 0, none⟩) 1 1, .slice (some ⟨b19, 0, none⟩) (vout_n + 1) 1, undef, undef, undef, undef] H13) (R (.exit 4) [.slice list_a list_n list_e, .slice breaks_a breaks_n breaks_e, undef, undef, .slice t4_a t4_n t4_e, .bool t5, .slice (some ⟨b12, 0, none⟩) (edges_n + 1) 1, .int .i64 (list_n : Int), g8, .slice vout_a vout_n vout_e, .int .i64 i, .float .f32 r3, .int .i64 k, .slice list_a list_n list_e, .bool r1, .bool (!r1), .bool false, .slice breaks_a breaks_n breaks_e, .int .i64 (breaks_n : Int), .bool (decide ((16 : Int) < (breaks_n : Int))), .bool (decide ((16 : Int) < (breaks_n : Int))), .slice (some ⟨b1, 0, none⟩) 1 1, .slice list_a list_n list_e, .int .i64 (list_n : Int), .slice breaks_a breaks_n breaks_e, .int .i64 (breaks_n : Int), .int .i64 t26, g27, g28, g29, g30, g31, g32, g33, g34, g35, g36, g37, g38, g39, g40, g41, g42, g43, g44, g45, g46, g47, g48, g49, g50, g51, g52, g53, g54, g55, g56, g57, g58, g59, g60, .slice edges_a edges_n edges_e, .int .i64 (list_n : Int), .slice (some ⟨b11, 0, none⟩) 1 1, .slice (some ⟨b12, 0, none⟩) (edges_n + 1) 1, .slice (some ⟨b13, 0, none⟩) 0 1, .int .i64 i, .int .i64 z3_67, .slice (some ⟨b12, 0, none⟩) (edges_n + 1) 1, .int .i64 (edges_n + 1 : Int), .bool z3_70, g71, g72, .slice list_a list_n list_e, .slice (some ⟨b12, 0, none⟩) (edges_n + 1) 1, .int .i64 i, .pointer (some ⟨b14, f6 + (i : Int).toNat * 1, none⟩), .int .i64 x6, .slice (some ⟨b12, 0, none⟩) (edges_n + 1) 1, .int .i64 i, .int .i64 z3_80, .pointer (some ⟨b15, z3_81, none⟩), .int .i64 x7, .slice ((list_a : Option Addr).map fun a => ⟨a.block, a.off + (x6 : Int).toNat * 1, none⟩) (((x7 : Int) - x6).toNat) 0, .float .f32 r3, .slice (some ⟨b12, 0, none⟩) (edges_n + 1) 1, .int .i64 i, .pointer (some ⟨b16, f8 + (i : Int).toNat * 1, none⟩), .int .i64 x8, .int .i64 k, .slice (some ⟨b12, 0, none⟩) (edges_n + 1) 1, .int .i64 i, .int .i64 (IntKind.wrap .i64 (i + 1)), .pointer (some ⟨b17, f9 + (IntKind.wrap .i64 (i + 1) : Int).toNat * 1, none⟩), .int .i64 x9, .bool (decide ((k : Int) < x9)), g96, g97, g98, g99, g100, g101, undef, undef, undef, undef] H)) := by kernel_rfl
def spec_SegmentMeans_I3 (b1 : Nat) (b11 : Nat) (b12 : Nat) (b13 : Nat) (b14 : Nat) (b15 : Nat) (b16 : Nat) (breaks_a : Option Addr) (breaks_e : Nat) (breaks_n : Nat) (edges_a : Option Addr) (edges_e : Nat) (edges_n : Nat) (f6 : Nat) (f8 : Nat) (g27 : Value) (g28 : Value) (g29 : Value) (g30 : Value) (g31 : Value) (g32 : Value) (g33 : Value) (g34 : Value) (g35 : Value) (g36 : Value) (g37 : Value) (g38 : Value) (g39 : Value) (g40 : Value) (g41 : Value) (g42 : Value) (g43 : Value) (g44 : Value) (g45 : Value) (g46 : Value) (g47 : Value) (g48 : Value) (g49 : Value) (g50 : Value) (g51 : Value) (g52 : Value) (g53 : Value) (g54 : Value) (g55 : Value) (g56 : Value) (g57 : Value) (g58 : Value) (g59 : Value) (g60 : Value) (g71 : Value) (g72 : Value) (g8 : Value) (i : Int) (list_a : Option Addr) (list_e : Nat) (list_n : Nat) (r1 : Bool) (r3 : Nat) (t26 : Int) (t4_a : Option Addr) (t4_e : Nat) (t4_n : Nat) (t5 : Bool) (x6 : Int) (x7 : Int) (x8 : Int) (z3_67 : Int) (z3_70 : Bool) (z3_80 : Int) (z3_81 : Nat) (Inv : Nat → (Option Addr) → Nat → Nat → Int → AHeap → Prop) : Nat → List Value → AHeap → Prop := fun μ tm H => ∃ (vout_a : Option Addr), ∃ (vout_n : Nat), ∃ (vout_e : Nat), ∃ (k : Int), ∃ g89 g90 g91 g92 g93 g94 g95 g96 g97 g98 g99 g100 g101, tm = [.slice list_a list_n list_e, .slice breaks_a breaks_n breaks_e, undef, undef, .slice t4_a t4_n t4_e, .bool t5, .slice (some ⟨b12, 0, none⟩) (edges_n + 1) 1, .int .i64 (list_n : Int), g8, .slice vout_a vout_n vout_e, .int .i64 i, .float .f32 r3, .int .i64 k, .slice list_a list_n list_e, .bool r1, .bool (!r1), .bool false, .slice breaks_a breaks_n breaks_e, .int .i64 (breaks_n : Int), .bool (decide ((16 : Int) < (breaks_n : Int))), .bool (decide ((16 : Int) < (breaks_n : Int))), .slice (some ⟨b1, 0, none⟩) 1 1, .slice list_a list_n list_e, .int .i64 (list_n : Int), .slice breaks_a breaks_n breaks_e, .int .i64 (breaks_n : Int), .int .i64 t26, g27, g28, g29, g30, g31, g32, g33, g34, g35, g36, g37, g38, g39, g40, g41, g42, g43, g44, g45, g46, g47, g48, g49, g50, g51, g52, g53, g54, g55, g56, g57, g58, g59, g60, .slice edges_a edges_n edges_e, .int .i64 (list_n : Int), .slice (some ⟨b11, 0, none⟩) 1 1, .slice (some ⟨b12, 0, none⟩) (edges_n + 1) 1, .slice (some ⟨b13, 0, none⟩) 0 1, .int .i64 i, .int .i64 z3_67, .slice (some ⟨b12, 0, none⟩) (edges_n + 1) 1, .int .i64 (edges_n + 1 : Int), .bool z3_70, g71, g72, .slice list_a list_n list_e, .slice (some ⟨b12, 0, none⟩) (edges_n + 1) 1, .int .i64 i, .pointer (some ⟨b14, f6 + (i : Int).toNat * 1, none⟩), .int .i64 x6, .slice (some ⟨b12, 0, none⟩) (edges_n + 1) 1, .int .i64 i, .int .i64 z3_80, .pointer (some ⟨b15, z3_81, none⟩), .int .i64 x7, .slice ((list_a : Option Addr).map fun a => ⟨a.block, a.off + (x6 : Int).toNat * 1, none⟩) (((x7 : Int) - x6).toNat) 0, .float .f32 r3, .slice (some ⟨b12, 0, none⟩) (edges_n + 1) 1, .int .i64 i, .pointer (some ⟨b16, f8 + (i : Int).toNat * 1, none⟩), .int .i64 x8, g89, g90, g91, g92, g93, g94, g95, g96, g97, g98, g99, g100, g101, undef, undef, undef, undef] ∧ Inv μ vout_a vout_n vout_e k H
theorem spec_SegmentMeans_L3 (b1 : Nat) (b11 : Nat) (b12 : Nat) (b13 : Nat) (b14 : Nat) (b15 : Nat) (b16 : Nat) (breaks_a : Option Addr) (breaks_e : Nat) (breaks_n : Nat) (edges_a : Option Addr) (edges_e : Nat) (edges_n : Nat) (f6 : Nat) (f8 : Nat) (g27 : Value) (g28 : Value) (g29 : Value) (g30 : Value) (g31 : Value) (g32 : Value) (g33 : Value) (g34 : Value) (g35 : Value) (g36 : Value) (g37 : Value) (g38 : Value) (g39 : Value) (g40 : Value) (g41 : Value) (g42 : Value) (g43 : Value) (g44 : Value) (g45 : Value) (g46 : Value) (g47 : Value) (g48 : Value) (g49 : Value) (g50 : Value) (g51 : Value) (g52 : Value) (g53 : Value) (g54 : Value) (g55 : Value) (g56 : Value) (g57 : Value) (g58 : Value) (g59 : Value) (g60 : Value) (g71 : Value) (g72 : Value) (g8 : Value) (i : Int) (list_a : Option Addr) (list_e : Nat) (list_n : Nat) (r1 : Bool) (r3 : Nat) (t26 : Int) (t4_a : Option Addr) (t4_e : Nat) (t4_n : Nat) (t5 : Bool) (x6 : Int) (x7 : Int) (x8 : Int) (z3_67 : Int) (z3_70 : Bool) (z3_80 : Int) (z3_81 : Nat) {Q : Post} (Inv : Nat → (Option Addr) → Nat → Nat → Int → AHeap → Prop) (ν : Nat) (vout_a : Option Addr) (vout_n : Nat) (vout_e : Nat) (k : Int) (g89 g90 g91 g92 g93 g94 g95 g96 g97 g98 g99 g100 g101 : Value) (H : AHeap) (h0 : Inv ν vout_a vout_n vout_e k H)
    (hs : ∀ (μ : Nat) (vout_a : Option Addr) (vout_n : Nat) (vout_e : Nat) (k : Int) (g89 g90 g91 g92 g93 g94 g95 g96 g97 g98 g99 g100 g101 : Value) (H : AHeap), Inv μ vout_a vout_n vout_e k H → exK Try.prog E_spec_SegmentMeans (cl (cl (cr (cr (cl (cl (cr (cl (cl (cr (cl (cr (cr (cr (cr (cr (cr (cr (bodyC Try.f24))))))))))))))))))) [.slice list_a list_n list_e, .slice breaks_a breaks_n breaks_e, undef, undef, .slice t4_a t4_n t4_e, .bool t5, .slice (some ⟨b12, 0, none⟩) (edges_n + 1) 1, .int .i64 (list_n : Int), g8, .slice vout_a vout_n vout_e, .int .i64 i, .float .f32 r3, .int .i64 k, .slice list_a list_n list_e, .bool r1, .bool (!r1), .bool false, .slice breaks_a breaks_n breaks_e, .int .i64 (breaks_n : Int), .bool (decide ((16 : Int) < (breaks_n : Int))), .bool (decide ((16 : Int) < (breaks_n : Int))), .slice (some ⟨b1, 0, none⟩) 1 1, .slice list_a list_n list_e, .int .i64 (list_n : Int), .slice breaks_a breaks_n breaks_e, .int .i64 (breaks_n : Int), .int .i64 t26, g27, g28, g29, g30, g31, g32, g33, g34, g35, g36, g37, g38, g39, g40, g41, g42, g43, g44, g45, g46, g47, g48, g49, g50, g51, g52, g53, g54, g55, g56, g57, g58, g59, g60, .slice edges_a edges_n edges_e, .int .i64 (list_n : Int), .slice (some ⟨b11, 0, none⟩) 1 1, .slice (some ⟨b12, 0, none⟩) (edges_n + 1) 1, .slice (some ⟨b13, 0, none⟩) 0 1, .int .i64 i, .int .i64 z3_67, .slice (some ⟨b12, 0, none⟩) (edges_n + 1) 1, .int .i64 (edges_n + 1 : Int), .bool z3_70, g71, g72, .slice list_a list_n list_e, .slice (some ⟨b12, 0, none⟩) (edges_n + 1) 1, .int .i64 i, .pointer (some ⟨b14, f6 + (i : Int).toNat * 1, none⟩), .int .i64 x6, .slice (some ⟨b12, 0, none⟩) (edges_n + 1) 1, .int .i64 i, .int .i64 z3_80, .pointer (some ⟨b15, z3_81, none⟩), .int .i64 x7, .slice ((list_a : Option Addr).map fun a => ⟨a.block, a.off + (x6 : Int).toNat * 1, none⟩) (((x7 : Int) - x6).toNat) 0, .float .f32 r3, .slice (some ⟨b12, 0, none⟩) (edges_n + 1) 1, .int .i64 i, .pointer (some ⟨b16, f8 + (i : Int).toNat * 1, none⟩), .int .i64 x8, g89, g90, g91, g92, g93, g94, g95, g96, g97, g98, g99, g100, g101, undef, undef, undef, undef] H (loopQ (spec_SegmentMeans_I3 b1 b11 b12 b13 b14 b15 b16 breaks_a breaks_e breaks_n edges_a edges_e edges_n f6 f8 g27 g28 g29 g30 g31 g32 g33 g34 g35 g36 g37 g38 g39 g40 g41 g42 g43 g44 g45 g46 g47 g48 g49 g50 g51 g52 g53 g54 g55 g56 g57 g58 g59 g60 g71 g72 g8 i list_a list_e list_n r1 r3 t26 t4_a t4_e t4_n t5 x6 x7 x8 z3_67 z3_70 z3_80 z3_81 Inv) μ Q)) : loopK (exK Try.prog E_spec_SegmentMeans (cl (cl (cr (cr (cl (cl (cr (cl (cl (cr (cl (cr (cr (cr (cr (cr (cr (cr (bodyC Try.f24)))))))))))))))))))) [.slice list_a list_n list_e, .slice breaks_a breaks_n breaks_e, undef, undef, .slice t4_a t4_n t4_e, .bool t5, .slice (some ⟨b12, 0, none⟩) (edges_n + 1) 1, .int .i64 (list_n : Int), g8, .slice vout_a vout_n vout_e, .int .i64 i, .float .f32 r3, .int .i64 k, .slice list_a list_n list_e, .bool r1, .bool (!r1), .bool false, .slice breaks_a breaks_n breaks_e, .int .i64 (breaks_n : Int), .bool (decide ((16 : Int) < (breaks_n : Int))), .bool (decide ((16 : Int) < (breaks_n : Int))), .slice (some ⟨b1, 0, none⟩) 1 1, .slice list_a list_n list_e, .int .i64 (list_n : Int), .slice breaks_a breaks_n breaks_e, .int .i64 (breaks_n : Int), .int .i64 t26, g27, g28, g29, g30, g31, g32, g33, g34, g35, g36, g37, g38, g39, g40, g41, g42, g43, g44, g45, g46, g47, g48, g49, g50, g51, g52, g53, g54, g55, g56, g57, g58, g59, g60, .slice edges_a edges_n edges_e, .int .i64 (list_n : Int), .slice (some ⟨b11, 0, none⟩) 1 1, .slice (some ⟨b12, 0, none⟩) (edges_n + 1) 1, .slice (some ⟨b13, 0, none⟩) 0 1, .int .i64 i, .int .i64 z3_67, .slice (some ⟨b12, 0, none⟩) (edges_n + 1) 1, .int .i64 (edges_n + 1 : Int), .bool z3_70, g71, g72, .slice list_a list_n list_e, .slice (some ⟨b12, 0, none⟩) (edges_n + 1) 1, .int .i64 i, .pointer (some ⟨b14, f6 + (i : Int).toNat * 1, none⟩), .int .i64 x6, .slice (some ⟨b12, 0, none⟩) (edges_n + 1) 1, .int .i64 i, .int .i64 z3_80, .pointer (some ⟨b15, z3_81, none⟩), .int .i64 x7, .slice ((list_a : Option Addr).map fun a => ⟨a.block, a.off + (x6 : Int).toNat * 1, none⟩) (((x7 : Int) - x6).toNat) 0, .float .f32 r3, .slice (some ⟨b12, 0, none⟩) (edges_n + 1) 1, .int .i64 i, .pointer (some ⟨b16, f8 + (i : Int).toNat * 1, none⟩), .int .i64 x8, g89, g90, g91, g92, g93, g94, g95, g96, g97, g98, g99, g100, g101, undef, undef, undef, undef] H Q :=
  ⟨spec_SegmentMeans_I3 b1 b11 b12 b13 b14 b15 b16 breaks_a breaks_e breaks_n edges_a edges_e edges_n f6 f8 g27 g28 g29 g30 g31 g32 g33 g34 g35 g36 g37 g38 g39 g40 g41 g42 g43 g44 g45 g46 g47 g48 g49 g50 g51 g52 g53 g54 g55 g56 g57 g58 g59 g60 g71 g72 g8 i list_a list_e list_n r1 r3 t26 t4_a t4_e t4_n t5 x6 x7 x8 z3_67 z3_70 z3_80 z3_81 Inv, ν, ⟨vout_a, vout_n, vout_e, k, g89, g90, g91, g92, g93, g94, g95, g96, g97, g98, g99, g100, g101, rfl, h0⟩, fun μ tm H h => by obtain ⟨vout_a, vout_n, vout_e, k, g89, g90, g91, g92, g93, g94, g95, g96, g97, g98, g99, g100, g101, rfl, hI⟩ := h; exact hs μ vout_a vout_n vout_e k g89 g90 g91 g92 g93 g94 g95 g96 g97 g98 g99 g100 g101 H hI⟩
theorem spec_SegmentMeans_n3 {b1 : Nat} {b11 : Nat} {b12 : Nat} {b13 : Nat} {b14 : Nat} {b15 : Nat} {b16 : Nat} {breaks_a : Option Addr} {breaks_e : Nat} {breaks_n : Nat} {edges_a : Option Addr} {edges_e : Nat} {edges_n : Nat} {f6 : Nat} {f8 : Nat} {g27 : Value} {g28 : Value} {g29 : Value} {g30 : Value} {g31 : Value} {g32 : Value} {g33 : Value} {g34 : Value} {g35 : Value} {g36 : Value} {g37 : Value} {g38 : Value} {g39 : Value} {g40 : Value} {g41 : Value} {g42 : Value} {g43 : Value} {g44 : Value} {g45 : Value} {g46 : Value} {g47 : Value} {g48 : Value} {g49 : Value} {g50 : Value} {g51 : Value} {g52 : Value} {g53 : Value} {g54 : Value} {g55 : Value} {g56 : Value} {g57 : Value} {g58 : Value} {g59 : Value} {g60 : Value} {g71 : Value} {g72 : Value} {g8 : Value} {i : Int} {list_a : Option Addr} {list_e : Nat} {list_n : Nat} {r1 : Bool} {r3 : Nat} {t26 : Int} {t4_a : Option Addr} {t4_e : Nat} {t4_n : Nat} {t5 : Bool} {x6 : Int} {x7 : Int} {x8 : Int} {z3_67 : Int} {z3_70 : Bool} {z3_80 : Int} {z3_81 : Nat} {Q : Post} {Inv : Nat → (Option Addr) → Nat → Nat → Int → AHeap → Prop} {μ : Nat} (μ' : Nat) {vout_a : Option Addr} {vout_n : Nat} {vout_e : Nat} {k : Int} {g89 g90 g91 g92 g93 g94 g95 g96 g97 g98 g99 g100 g101 : Value} {H : AHeap} (hm : μ' < μ) (hI : Inv μ' vout_a vout_n vout_e k H) : loopQ (spec_SegmentMeans_I3 b1 b11 b12 b13 b14 b15 b16 breaks_a breaks_e breaks_n edges_a edges_e edges_n f6 f8 g27 g28 g29 g30 g31 g32 g33 g34 g35 g36 g37 g38 g39 g40 g41 g42 g43 g44 g45 g46 g47 g48 g49 g50 g51 g52 g53 g54 g55 g56 g57 g58 g59 g60 g71 g72 g8 i list_a list_e list_n r1 r3 t26 t4_a t4_e t4_n t5 x6 x7 x8 z3_67 z3_70 z3_80 z3_81 Inv) μ Q .normal [.slice list_a list_n list_e, .slice breaks_a breaks_n breaks_e, undef, undef, .slice t4_a t4_n t4_e, .bool t5, .slice (some ⟨b12, 0, none⟩) (edges_n + 1) 1, .int .i64 (list_n : Int), g8, .slice vout_a vout_n vout_e, .int .i64 i, .float .f32 r3, .int .i64 k, .slice list_a list_n list_e, .bool r1, .bool (!r1), .bool false, .slice breaks_a breaks_n breaks_e, .int .i64 (breaks_n : Int), .bool (decide ((16 : Int) < (breaks_n : Int))), .bool (decide ((16 : Int) < (breaks_n : Int))), .slice (some ⟨b1, 0, none⟩) 1 1, .slice list_a list_n list_e, .int .i64 (list_n : Int), .slice breaks_a breaks_n breaks_e, .int .i64 (breaks_n : Int), .int .i64 t26, g27, g28, g29, g30, g31, g32, g33, g34, g35, g36, g37, g38, g39, g40, g41, g42, g43, g44, g45, g46, g47, g48, g49, g50, g51, g52, g53, g54, g55, g56, g57, g58, g59, g60, .slice edges_a edges_n edges_e, .int .i64 (list_n : Int), .slice (some ⟨b11, 0, none⟩) 1 1, .slice (some ⟨b12, 0, none⟩) (edges_n + 1) 1, .slice (some ⟨b13, 0, none⟩) 0 1, .int .i64 i, .int .i64 z3_67, .slice (some ⟨b12, 0, none⟩) (edges_n + 1) 1, .int .i64 (edges_n + 1 : Int), .bool z3_70, g71, g72, .slice list_a list_n list_e, .slice (some ⟨b12, 0, none⟩) (edges_n + 1) 1, .int .i64 i, .pointer (some ⟨b14, f6 + (i : Int).toNat * 1, none⟩), .int .i64 x6, .slice (some ⟨b12, 0, none⟩) (edges_n + 1) 1, .int .i64 i, .int .i64 z3_80, .pointer (some ⟨b15, z3_81, none⟩), .int .i64 x7, .slice ((list_a : Option Addr).map fun a => ⟨a.block, a.off + (x6 : Int).toNat * 1, none⟩) (((x7 : Int) - x6).toNat) 0, .float .f32 r3, .slice (some ⟨b12, 0, none⟩) (edges_n + 1) 1, .int .i64 i, .pointer (some ⟨b16, f8 + (i : Int).toNat * 1, none⟩), .int .i64 x8, g89, g90, g91, g92, g93, g94, g95, g96, g97, g98, g99, g100, g101, undef, undef, undef, undef] H := ⟨μ', hm, vout_a, vout_n, vout_e, k, g89, g90, g91, g92, g93, g94, g95, g96, g97, g98, g99, g100, g101, rfl, hI⟩
theorem spec_SegmentMeans_x3_4 (b1 : Nat) (b11 : Nat) (b12 : Nat) (b13 : Nat) (b14 : Nat) (b15 : Nat) (b16 : Nat) (breaks_a : Option Addr) (breaks_e : Nat) (breaks_n : Nat) (edges_a : Option Addr) (edges_e : Nat) (edges_n : Nat) (f6 : Nat) (f8 : Nat) (g27 : Value) (g28 : Value) (g29 : Value) (g30 : Value) (g31 : Value) (g32 : Value) (g33 : Value) (g34 : Value) (g35 : Value) (g36 : Value) (g37 : Value) (g38 : Value) (g39 : Value) (g40 : Value) (g41 : Value) (g42 : Value) (g43 : Value) (g44 : Value) (g45 : Value) (g46 : Value) (g47 : Value) (g48 : Value) (g49 : Value) (g50 : Value) (g51 : Value) (g52 : Value) (g53 : Value) (g54 : Value) (g55 : Value) (g56 : Value) (g57 : Value) (g58 : Value) (g59 : Value) (g60 : Value) (g71 : Value) (g72 : Value) (g8 : Value) (i : Int) (list_a : Option Addr) (list_e : Nat) (list_n : Nat) (r1 : Bool) (r3 : Nat) (t26 : Int) (t4_a : Option Addr) (t4_e : Nat) (t4_n : Nat) (t5 : Bool) (x6 : Int) (x7 : Int) (x8 : Int) (z3_67 : Int) (z3_70 : Bool) (z3_80 : Int) (z3_81 : Nat) (vout_a : Option Addr) (vout_n : Nat) (vout_e : Nat) (k : Int) (g89 g90 g91 g92 g93 g94 g95 g96 g97 g98 g99 g100 g101 : Value) (H : AHeap)  (R : Post) {I : Nat → List Value → AHeap → Prop} {μ : Nat} : loopQ I μ (blockQ 4 (blockQ 3 (seqQ (exK Try.prog E_spec_SegmentMeans (cr (cr (cl (cl (cr (cl (cr (cr (cr (cr (cr (cr (cr (bodyC Try.f24))))))))))))))) (R)))) (.exit 4) [.slice list_a list_n list_e, .slice breaks_a breaks_n breaks_e, undef, undef, .slice t4_a t4_n t4_e, .bool t5, .slice (some ⟨b12, 0, none⟩) (edges_n + 1) 1, .int .i64 (list_n : Int), g8, .slice vout_a vout_n vout_e, .int .i64 i, .float .f32 r3, .int .i64 k, .slice list_a list_n list_e, .bool r1, .bool (!r1), .bool false, .slice breaks_a breaks_n breaks_e, .int .i64 (breaks_n : Int), .bool (decide ((16 : Int) < (breaks_n : Int))), .bool (decide ((16 : Int) < (breaks_n : Int))), .slice (some ⟨b1, 0, none⟩) 1 1, .slice list_a list_n list_e, .int .i64 (list_n : Int), .slice breaks_a breaks_n breaks_e, .int .i64 (breaks_n : Int), .int .i64 t26, g27, g28, g29, g30, g31, g32, g33, g34, g35, g36, g37, g38, g39, g40, g41, g42, g43, g44, g45, g46, g47, g48, g49, g50, g51, g52, g53, g54, g55, g56, g57, g58, g59, g60, .slice edges_a edges_n edges_e, .int .i64 (list_n : Int), .slice (some ⟨b11, 0, none⟩) 1 1, .slice (some ⟨b12, 0, none⟩) (edges_n + 1) 1, .slice (some ⟨b13, 0, none⟩) 0 1, .int .i64 i, .int .i64 z3_67, .slice (some ⟨b12, 0, none⟩) (edges_n + 1) 1, .int .i64 (edges_n + 1 : Int), .bool z3_70, g71, g72, .slice list_a list_n list_e, .slice (some ⟨b12, 0, none⟩) (edges_n + 1) 1, .int .i64 i, .pointer (some ⟨b14, f6 + (i : Int).toNat * 1, none⟩), .int .i64 x6, .slice (some ⟨b12, 0, none⟩) (edges_n + 1) 1, .int .i64 i, .int .i64 z3_80, .pointer (some ⟨b15, z3_81, none⟩), .int .i64 x7, .slice ((list_a : Option Addr).map fun a => ⟨a.block, a.off + (x6 : Int).toNat * 1, none⟩) (((x7 : Int) - x6).toNat) 0, .float .f32 r3, .slice (some ⟨b12, 0, none⟩) (edges_n + 1) 1, .int .i64 i, .pointer (some ⟨b16, f8 + (i : Int).toNat * 1, none⟩), .int .i64 x8, g89, g90, g91, g92, g93, g94, g95, g96, g97, g98, g99, g100, g101, undef, undef, undef, undef] H =
  (R .normal [.slice list_a list_n list_e, .slice breaks_a breaks_n breaks_e, undef, undef, .slice t4_a t4_n t4_e, .bool t5, .slice (some ⟨b12, 0, none⟩) (edges_n + 1) 1, .int .i64 (list_n : Int), g8, .slice vout_a vout_n vout_e, .int .i64 (IntKind.wrap .i64 (i + 1)), .float .f32 r3, .int .i64 k, .slice list_a list_n list_e, .bool r1, .bool (!r1), .bool false, .slice breaks_a breaks_n breaks_e, .int .i64 (breaks_n : Int), .bool (decide ((16 : Int) < (breaks_n : Int))), .bool (decide ((16 : Int) < (breaks_n : Int))), .slice (some ⟨b1, 0, none⟩) 1 1, .slice list_a list_n list_e, .int .i64 (list_n : Int), .slice breaks_a breaks_n breaks_e, .int .i64 (breaks_n : Int), .int .i64 t26, g27, g28, g29, g30, g31, g32, g33, g34, g35, g36, g37, g38, g39, g40, g41, g42, g43, g44, g45, g46, g47, g48, g49, g50, g51, g52, g53, g54, g55, g56, g57, g58, g59, g60, .slice edges_a edges_n edges_e, .int .i64 (list_n : Int), .slice (some ⟨b11, 0, none⟩) 1 1, .slice (some ⟨b12, 0, none⟩) (edges_n + 1) 1, .slice (some ⟨b13, 0, none⟩) 0 1, .int .i64 i, .int .i64 z3_67, .slice (some ⟨b12, 0, none⟩) (edges_n + 1) 1, .int .i64 (edges_n + 1 : Int), .bool z3_70, .int .i64 i, .int .i64 (IntKind.wrap .i64 (i + 1)), .slice list_a list_n list_e, .slice (some ⟨b12, 0, none⟩) (edges_n + 1) 1, .int .i64 i, .pointer (some ⟨b14, f6 + (i : Int).toNat * 1, none⟩), .int .i64 x6, .slice (some ⟨b12, 0, none⟩) (edges_n + 1) 1, .int .i64 i, .int .i64 z3_80, .pointer (some ⟨b15, z3_81, none⟩), .int .i64 x7, .slice ((list_a : Option Addr).map fun a => ⟨a.block, a.off + (x6 : Int).toNat * 1, none⟩) (((x7 : Int) - x6).toNat) 0, .float .f32 r3, .slice (some ⟨b12, 0, none⟩) (edges_n + 1) 1, .int .i64 i, .pointer (some ⟨b16, f8 + (i : Int).toNat * 1, none⟩), .int .i64 x8, g89, g90, g91, g92, g93, g94, g95, g96, g97, g98, g99, g100, g101, undef, undef, undef, undef] H) := by kernel_rfl
theorem E_spec_SegmentMeans_ok : ∀ g, FnOk Try.prog g (E_spec_SegmentMeans g) := FnOk.envOf (by
  intro x hx
  simp only [List.mem_cons, List.not_mem_nil, or_false] at hx
  rcases hx with rfl | rfl | rfl | rfl
  · exact spec_l03Long_ok
  · exact spec_l00In_ok
  · exact spec_l05Mean_ok
  · exact spec_l02Finite_ok)
set_option maxHeartbeats 1000000 in
theorem spec_SegmentMeans_main (list_a : Option Addr) (list_n : Nat) (list_e : Nat) (breaks_a : Option Addr) (breaks_n : Nat) (breaks_e : Nat) (H : AHeap) (K : Value → AHeap → Prop) (h : T_spec_SegmentMeans list_a list_n list_e breaks_a breaks_n breaks_e H fun (r1_a : Option Addr) (r1_n : Nat) (r1_e : Nat) (r2 : Bool) (H' : AHeap) => K (.tuple #[.slice r1_a r1_n r1_e, .bool r2]) H') : bodyK Try.prog E_spec_SegmentMeans Try.f24 [.slice list_a list_n list_e, .slice breaks_a breaks_n breaks_e] H K := by
  rw [spec_SegmentMeans_vc]
  obtain ⟨l_list, l_breaks, i_list, i_breaks, bd_205, bd_206, hk⟩ := h
  obtain rfl := i_list.eqn
  obtain rfl := i_breaks.eqn
  have e : (p_spec_SegmentMeans l_list l_breaks) = _ := rfl
  have e := e.trans (p_spec_SegmentMeans_eq l_list l_breaks)
  have g0 := Grow.refl H
  refine T_spec_l03Long_i ⟨_, (i_list.grow g0), (by first | omega | (simp only [List.length_set, List.length_replicate, List.length_append, List.length_cons, List.length_nil, List.length_take, List.length_drop, marks_length]; done) | (simp only [List.length_set, List.length_replicate, List.length_append, List.length_cons, List.length_nil, List.length_take, List.length_drop, marks_length]; omega)), ?_⟩
  refine Br.intro (fun c_1 => ?_) (fun c_1 => ?_)
  · have e := e.trans (cond_t c_1)
    have c_1n := nf_of_t c_1
    rw [e] at hk
    exact hk _ _ _ H g0 (OwnS.nil _ _ _ _)
  · have e := e.trans (cond_f c_1)
    have c_1n := nt_of_f c_1
    have c_1n' := spec_l03Long_t c_1n
    refine Br.intro (fun c_2 => ?_) (fun c_2 => ?_)
    · have e := e.trans (cond_t c_2)
      have c_2' := of_decide_eq_true c_2
      rw [e] at hk
      exact hk _ _ _ H g0 (OwnS.nil _ _ _ _)
    · have e := e.trans (cond_f c_2)
      have c_2' := of_decide_eq_false c_2
      refine Al.intro (fun b_3 H_1 hb_4 hl_5 g_6 o_7 => ?_)
      have o_7 : Own H_1 b_3 (([(0 : Int)]).map fI) := o_7
      have l_9 := g_6.1
      have g_10 := g0.trans g_6
      have l_11 := g_10.1
      have w_204 := o_7.lt
      refine spec_SegmentMeans_L1 _ _ _ _ _ _ _ _ (fun (μ : Nat) (t4_a : Option Addr) (t4_n : Nat) (t4_e : Nat) (t5 : Bool) (edges_a : Option Addr) (edges_n : Nat) (edges_e : Nat) (t26 : Int) (H_2 : AHeap) => ∃ (l_edges : List Int), ∃ (b_12 : Nat), t4_a = none ∧ t4_n = 0 ∧ t4_e = 0 ∧ edges_a = some ⟨b_12, 0, none⟩ ∧ edges_n = l_edges.length ∧ edges_e = 1 ∧ Own H_2 b_12 (l_edges.map fI) ∧ Grow H H_2 ∧ H.length ≤ b_12 ∧ (0 : Int) ≤ t26 ∧ t26 ≤ (l_breaks.length : Int) ∧ (l_edges.length : Int) ≤ t26 - (0 : Int) + 1 ∧ Edg l_list.length l_edges ∧ (l_edges.length : Int) = t26 + 1 ∧ l_edges.getD (t26 : Int).toNat 0 = (if 0 < t26 then l_breaks.getD ((t26 - 1) : Int).toNat 0 else 0) ∧ (l_breaks.length : Int) - t26 ≤ (μ : Int) ∧ p_spec_SegmentMeans l_list l_breaks = p_spec_SegmentMeans_l1 l_list l_breaks (μ + 1) t5 l_edges t26) (Int.toNat ((l_breaks.length : Int) - (0 : Int))) _ _ _ _ _ _ _ _ _ _ _ _ _ _ _ _ _ _ _ _ _ _ _ _ _ _ _ _ _ _ _ _ _ _ _ _ _ _ _ _ _ _ _ H_1 ?_ ?_
      · exact ⟨_, _, rfl, rfl, rfl, rfl, (by first | rfl | omega | (simp only [List.length_set]; done) | (simp only [List.length_set, List.length_replicate]; omega)), rfl, o_7, g_10, (by omega), (by first | omega | (simp; done) | (simp; omega) | (first | exact edg_nil (by omega) | exact edg_grow (by assumption) (by assumption) (by assumption) (by assumption) (by assumption) (by omega) | exact edg_last (by assumption) (by assumption))), (by first | omega | (simp; done) | (simp; omega) | (first | exact edg_nil (by omega) | exact edg_grow (by assumption) (by assumption) (by assumption) (by assumption) (by assumption) (by omega) | exact edg_last (by assumption) (by assumption))), (by first | omega | (simp; done) | (simp; omega) | (first | exact edg_nil (by omega) | exact edg_grow (by assumption) (by assumption) (by assumption) (by assumption) (by assumption) (by omega) | exact edg_last (by assumption) (by assumption))), (by first | omega | (simp; done) | (simp; omega) | (first | exact edg_nil (by omega) | exact edg_grow (by assumption) (by assumption) (by assumption) (by assumption) (by assumption) (by omega) | exact edg_last (by assumption) (by assumption))), (by first | omega | (simp; done) | (simp; omega) | (first | exact edg_nil (by omega) | exact edg_grow (by assumption) (by assumption) (by assumption) (by assumption) (by assumption) (by omega) | exact edg_last (by assumption) (by assumption))), (by first | omega | (simp; done) | (simp; omega) | (first | exact edg_nil (by omega) | exact edg_grow (by assumption) (by assumption) (by assumption) (by assumption) (by assumption) (by omega) | exact edg_last (by assumption) (by assumption))), (by omega), e⟩
      · intro μ t4_a t4_n t4_e t5 edges_a edges_n edges_e t26 g8 g27 g28 g29 g30 g31 g32 g33 g34 g35 g36 g37 g38 g39 g40 g41 g42 g43 g44 g45 g46 g47 g48 g49 g50 g51 g52 g53 g54 g55 g56 g57 g58 g59 g60 H_2 hI
        obtain ⟨l_edges, b_12, rfl, rfl, rfl, rfl, rfl, rfl, o_13, g_14, l_15, v_16, v_17, v_18, v_19, v_20, v_21, hμ, e⟩ := hI
        rw [spec_SegmentMeans_r1]
        have e := e.trans (p_spec_SegmentMeans_l1_s l_list l_breaks μ t5 l_edges t26)
        have w_22 := o_13.lt
        have l_23 := g_14.1
        refine Br.intro (fun c_24 => ?_) (fun c_24 => ?_)
        · have e := e.trans (cond_t c_24)
          have c_24' := of_decide_eq_true c_24
          obtain ⟨b_25, f_26, q_27⟩ := ((i_breaks.grow g_14)).pos (by first | omega | (simp only [List.length_set, List.length_replicate, List.length_append, List.length_cons, List.length_nil, List.length_take, List.length_drop, marks_length]; done) | (simp only [List.length_set, List.length_replicate, List.length_append, List.length_cons, List.length_nil, List.length_take, List.length_drop, marks_length]; omega))
          refine ⟨by omega, by omega, b_25, f_26, q_27, ?_⟩
          refine ⟨((l_breaks).getD (t26 : Int).toNat 0), (i_breaks).rd g_14 q_27 (by omega) _, ?_⟩
          rw [show IntKind.wrap .i64 ((l_list.length : Int) - 1) = ((l_list.length : Int) - 1) from wrap64 (by omega) (by omega)]
          refine T_spec_l00In_i ?_
          refine Br.intro (fun c_28 => ?_) (fun c_28 => ?_)
          · have e := e.trans (cond_t c_28)
            have c_28n := nf_of_t c_28
            rw [spec_SegmentMeans_x1_ret]
            rw [e] at hk
            exact hk _ _ _ H_2 g_14 (OwnS.nil _ _ _ _)
          · have e := e.trans (cond_f c_28)
            have c_28n := nt_of_f c_28
            have c_28n' := spec_l00In_t c_28n
            refine Br.intro (fun c_29 => ?_) (fun c_29 => ?_)
            · have e := e.trans (cond_t c_29)
              have c_29' := of_decide_eq_true c_29
              obtain ⟨b_30, f_31, q_32⟩ := ((i_breaks.grow g_14)).pos (by first | omega | (simp only [List.length_set, List.length_replicate, List.length_append, List.length_cons, List.length_nil, List.length_take, List.length_drop, marks_length]; done) | (simp only [List.length_set, List.length_replicate, List.length_append, List.length_cons, List.length_nil, List.length_take, List.length_drop, marks_length]; omega))
              refine ⟨by omega, by omega, b_30, f_31, q_32, ?_⟩
              refine ⟨((l_breaks).getD (t26 : Int).toNat 0), (i_breaks).rd g_14 q_32 (by omega) _, ?_⟩
              rw [show IntKind.wrap .i64 (t26 - 1) = (t26 - 1) from wrap64 (by omega) (by omega)]
              obtain ⟨b_33, f_34, q_35⟩ := ((i_breaks.grow g_14)).pos (by first | omega | (simp only [List.length_set, List.length_replicate, List.length_append, List.length_cons, List.length_nil, List.length_take, List.length_drop, marks_length]; done) | (simp only [List.length_set, List.length_replicate, List.length_append, List.length_cons, List.length_nil, List.length_take, List.length_drop, marks_length]; omega))
              refine ⟨by omega, by omega, b_33, f_34, q_35, ?_⟩
              refine ⟨((l_breaks).getD ((t26 - 1) : Int).toNat 0), (i_breaks).rd g_14 q_35 (by omega) _, ?_⟩
              refine Br.intro (fun c_36 => ?_) (fun c_36 => ?_)
              · have e := e.trans (cond_t c_36)
                have c_36' := of_decide_eq_true c_36
                rw [spec_SegmentMeans_x1_ret]
                rw [e] at hk
                exact hk _ _ _ H_2 g_14 (OwnS.nil _ _ _ _)
              · have e := e.trans (cond_f c_36)
                have c_36' := of_decide_eq_false c_36
                obtain ⟨b_37, f_38, q_39⟩ := ((i_breaks.grow g_14)).pos (by first | omega | (simp only [List.length_set, List.length_replicate, List.length_append, List.length_cons, List.length_nil, List.length_take, List.length_drop, marks_length]; done) | (simp only [List.length_set, List.length_replicate, List.length_append, List.length_cons, List.length_nil, List.length_take, List.length_drop, marks_length]; omega))
                refine ⟨by omega, by omega, b_37, f_38, q_39, ?_⟩
                refine ⟨((l_breaks).getD (t26 : Int).toNat 0), (i_breaks).rd g_14 q_39 (by omega) _, ?_⟩
                refine Al.intro (fun b_40 H_3 hb_41 hl_42 g_43 o_44 => ?_)
                have o_44 : Own H_3 b_40 (([(((l_breaks).getD (t26 : Int).toNat 0) : Int)]).map fI) := o_44
                have l_46 := g_43.1
                have g_47 := g_14.trans g_43
                have l_48 := g_47.1
                have o_49 := o_13.grow g_43
                have w_50 := o_49.lt
                have w_63 := o_44.lt
                refine ⟨_, _, o_49.ownB (by first | (simp only [List.length_map, List.length_cons, List.length_nil, List.length_append]; done) | (simp only [List.length_map, List.length_cons, List.length_nil, List.length_append]; omega)) rfl, (isl_rdS (o_44.isL (by first | rfl | omega | (simp only [List.length_set]; done) | (simp only [List.length_set, List.length_replicate]; omega)))), (fun h => by cases h), (by have := most_eq; omega), ?_⟩
                refine Ap.app o_49 rfl rfl (fun b_55 H_4 q_61 hl_51 o_52 k_53 => ?_)
                have o_52 := map_snoc o_52
                have l_56 := k_53.1
                have g_57 := g_47.keep (b := b_12) (by omega) k_53
                have l_58 := g_57.1
                have o_59 := o_44.keep (by omega) k_53
                have w_60 := o_59.lt
                have w_62 := o_52.lt
                rw [show IntKind.wrap .i64 (t26 + 1) = (t26 + 1) from wrap64 (by omega) (by omega)]
                refine spec_SegmentMeans_n1 (μ - 1) (by first | omega) ⟨_, _, rfl, rfl, rfl, rfl, (by first | (simp only [List.length_append, List.length_cons, List.length_nil]; done) | (simp only [List.length_append, List.length_cons, List.length_nil]; omega) | (simp only [List.length_append, List.length_cons, List.length_nil, List.length_take, List.length_drop]; omega)), rfl, o_52, g_57, (by omega), (by first | omega | (first | exact edg_nil (by omega) | exact edg_grow (by assumption) (by assumption) (by assumption) (by assumption) (by assumption) (by omega) | exact edg_last (by assumption) (by assumption)) | (simp only [List.length_append, List.length_cons, List.length_nil, List.length_set]; done) | (simp only [List.length_append, List.length_cons, List.length_nil, List.length_set]; omega)), (by first | omega | (first | exact edg_nil (by omega) | exact edg_grow (by assumption) (by assumption) (by assumption) (by assumption) (by assumption) (by omega) | exact edg_last (by assumption) (by assumption)) | (simp only [List.length_append, List.length_cons, List.length_nil, List.length_set]; done) | (simp only [List.length_append, List.length_cons, List.length_nil, List.length_set]; omega)), (by first | omega | (first | exact edg_nil (by omega) | exact edg_grow (by assumption) (by assumption) (by assumption) (by assumption) (by assumption) (by omega) | exact edg_last (by assumption) (by assumption)) | (simp only [List.length_append, List.length_cons, List.length_nil, List.length_set]; done) | (simp only [List.length_append, List.length_cons, List.length_nil, List.length_set]; omega)), (by first | omega | (first | exact edg_nil (by omega) | exact edg_grow (by assumption) (by assumption) (by assumption) (by assumption) (by assumption) (by omega) | exact edg_last (by assumption) (by assumption)) | (simp only [List.length_append, List.length_cons, List.length_nil, List.length_set]; done) | (simp only [List.length_append, List.length_cons, List.length_nil, List.length_set]; omega)), (by first | omega | (first | exact edg_nil (by omega) | exact edg_grow (by assumption) (by assumption) (by assumption) (by assumption) (by assumption) (by omega) | exact edg_last (by assumption) (by assumption)) | (simp only [List.length_append, List.length_cons, List.length_nil, List.length_set]; done) | (simp only [List.length_append, List.length_cons, List.length_nil, List.length_set]; omega)), (by first | omega | (first | exact edg_nil (by omega) | exact edg_grow (by assumption) (by assumption) (by assumption) (by assumption) (by assumption) (by omega) | exact edg_last (by assumption) (by assumption)) | (simp only [List.length_append, List.length_cons, List.length_nil, List.length_set]; done) | (simp only [List.length_append, List.length_cons, List.length_nil, List.length_set]; omega)), (by first | omega), (by rw [show μ - 1 + 1 = μ from by first | omega]; exact e)⟩
            · have e := e.trans (cond_f c_29)
              have c_29' := of_decide_eq_false c_29
              obtain ⟨b_64, f_65, q_66⟩ := ((i_breaks.grow g_14)).pos (by first | omega | (simp only [List.length_set, List.length_replicate, List.length_append, List.length_cons, List.length_nil, List.length_take, List.length_drop, marks_length]; done) | (simp only [List.length_set, List.length_replicate, List.length_append, List.length_cons, List.length_nil, List.length_take, List.length_drop, marks_length]; omega))
              refine ⟨by omega, by omega, b_64, f_65, q_66, ?_⟩
              refine ⟨((l_breaks).getD (t26 : Int).toNat 0), (i_breaks).rd g_14 q_66 (by omega) _, ?_⟩
              refine Al.intro (fun b_67 H_5 hb_68 hl_69 g_70 o_71 => ?_)
              have o_71 : Own H_5 b_67 (([(((l_breaks).getD (t26 : Int).toNat 0) : Int)]).map fI) := o_71
              have l_73 := g_70.1
              have g_74 := g_14.trans g_70
              have l_75 := g_74.1
              have o_76 := o_13.grow g_70
              have w_77 := o_76.lt
              have w_90 := o_71.lt
              refine ⟨_, _, o_76.ownB (by first | (simp only [List.length_map, List.length_cons, List.length_nil, List.length_append]; done) | (simp only [List.length_map, List.length_cons, List.length_nil, List.length_append]; omega)) rfl, (isl_rdS (o_71.isL (by first | rfl | omega | (simp only [List.length_set]; done) | (simp only [List.length_set, List.length_replicate]; omega)))), (fun h => by cases h), (by have := most_eq; omega), ?_⟩
              refine Ap.app o_76 rfl rfl (fun b_82 H_6 q_88 hl_78 o_79 k_80 => ?_)
              have o_79 := map_snoc o_79
              have l_83 := k_80.1
              have g_84 := g_74.keep (b := b_12) (by omega) k_80
              have l_85 := g_84.1
              have o_86 := o_71.keep (by omega) k_80
              have w_87 := o_86.lt
              have w_89 := o_79.lt
              rw [show IntKind.wrap .i64 (t26 + 1) = (t26 + 1) from wrap64 (by omega) (by omega)]
              refine spec_SegmentMeans_n1 (μ - 1) (by first | omega) ⟨_, _, rfl, rfl, rfl, rfl, (by first | (simp only [List.length_append, List.length_cons, List.length_nil]; done) | (simp only [List.length_append, List.length_cons, List.length_nil]; omega) | (simp only [List.length_append, List.length_cons, List.length_nil, List.length_take, List.length_drop]; omega)), rfl, o_79, g_84, (by omega), (by first | omega | (first | exact edg_nil (by omega) | exact edg_grow (by assumption) (by assumption) (by assumption) (by assumption) (by assumption) (by omega) | exact edg_last (by assumption) (by assumption)) | (simp only [List.length_append, List.length_cons, List.length_nil, List.length_set]; done) | (simp only [List.length_append, List.length_cons, List.length_nil, List.length_set]; omega)), (by first | omega | (first | exact edg_nil (by omega) | exact edg_grow (by assumption) (by assumption) (by assumption) (by assumption) (by assumption) (by omega) | exact edg_last (by assumption) (by assumption)) | (simp only [List.length_append, List.length_cons, List.length_nil, List.length_set]; done) | (simp only [List.length_append, List.length_cons, List.length_nil, List.length_set]; omega)), (by first | omega | (first | exact edg_nil (by omega) | exact edg_grow (by assumption) (by assumption) (by assumption) (by assumption) (by assumption) (by omega) | exact edg_last (by assumption) (by assumption)) | (simp only [List.length_append, List.length_cons, List.length_nil, List.length_set]; done) | (simp only [List.length_append, List.length_cons, List.length_nil, List.length_set]; omega)), (by first | omega | (first | exact edg_nil (by omega) | exact edg_grow (by assumption) (by assumption) (by assumption) (by assumption) (by assumption) (by omega) | exact edg_last (by assumption) (by assumption)) | (simp only [List.length_append, List.length_cons, List.length_nil, List.length_set]; done) | (simp only [List.length_append, List.length_cons, List.length_nil, List.length_set]; omega)), (by first | omega | (first | exact edg_nil (by omega) | exact edg_grow (by assumption) (by assumption) (by assumption) (by assumption) (by assumption) (by omega) | exact edg_last (by assumption) (by assumption)) | (simp only [List.length_append, List.length_cons, List.length_nil, List.length_set]; done) | (simp only [List.length_append, List.length_cons, List.length_nil, List.length_set]; omega)), (by first | omega | (first | exact edg_nil (by omega) | exact edg_grow (by assumption) (by assumption) (by assumption) (by assumption) (by assumption) (by omega) | exact edg_last (by assumption) (by assumption)) | (simp only [List.length_append, List.length_cons, List.length_nil, List.length_set]; done) | (simp only [List.length_append, List.length_cons, List.length_nil, List.length_set]; omega)), (by first | omega), (by rw [show μ - 1 + 1 = μ from by first | omega]; exact e)⟩
        · have e := e.trans (cond_f c_24)
          have c_24' := of_decide_eq_false c_24
          rw [spec_SegmentMeans_x1_0]
          refine Al.intro (fun b_91 H_7 hb_92 hl_93 g_94 o_95 => ?_)
          have o_95 : Own H_7 b_91 (([((l_list.length : Int) : Int)]).map fI) := o_95
          have l_97 := g_94.1
          have g_98 := g_14.trans g_94
          have l_99 := g_98.1
          have o_100 := o_13.grow g_94
          have w_101 := o_100.lt
          have w_203 := o_95.lt
          refine ⟨_, _, o_100.ownB (by first | (simp only [List.length_map, List.length_cons, List.length_nil, List.length_append]; done) | (simp only [List.length_map, List.length_cons, List.length_nil, List.length_append]; omega)) rfl, (isl_rdS (o_95.isL (by first | rfl | omega | (simp only [List.length_set]; done) | (simp only [List.length_set, List.length_replicate]; omega)))), (fun h => by cases h), (by have := most_eq; omega), ?_⟩
          refine Ap.app o_100 rfl rfl (fun b_106 H_8 q_201 hl_102 o_103 k_104 => ?_)
          have o_103 := map_snoc o_103
          have l_107 := k_104.1
          have g_108 := g_98.keep (b := b_12) (by omega) k_104
          have l_109 := g_108.1
          have o_110 := o_95.keep (by omega) k_104
          have w_111 := o_110.lt
          have w_202 := o_103.lt
          refine Al.intro (fun b_112 H_9 hb_113 hl_114 g_115 o_116 => ?_)
          have o_116 : Own H_9 b_112 ((([] : List Nat)).map fF) := o_116
          have l_118 := g_115.1
          have g_119 := g_108.trans g_115
          have l_120 := g_119.1
          have o_121 := o_110.grow g_115
          have w_122 := o_121.lt
          have o_123 := o_103.grow g_115
          have w_124 := o_123.lt
          have w_200 := o_116.lt
          refine spec_SegmentMeans_L2 _ _ _ _ _ _ _ _ _ _ _ _ _ _ _ _ _ _ _ _ _ _ _ _ _ _ _ _ _ _ _ _ _ _ _ _ _ _ _ _ _ _ _ _ _ _ _ _ _ _ _ _ _ _ (fun (μ2 : Nat) (vout_a : Option Addr) (vout_n : Nat) (vout_e : Nat) (i : Int) (H_10 : AHeap) => ∃ (l_vout : List Nat), ∃ (b_125 : Nat), vout_a = some ⟨b_125, 0, none⟩ ∧ vout_n = l_vout.length ∧ vout_e = 1 ∧ Own H_10 b_125 (l_vout.map fF) ∧ Own H_10 b_91 (([((l_list.length : Int) : Int)]).map fI) ∧ Own H_10 b_106 (((l_edges ++ [((l_list.length : Int) : Int)])).map fI) ∧ (b_106 ≠ b_91) ∧ (b_125 ≠ b_91) ∧ (b_125 ≠ b_106) ∧ Grow H H_10 ∧ H.length ≤ b_125 ∧ 0 ≤ i ∧ (l_vout.length : Int) ≤ 128 ∧ i ≤ (l_edges.length : Int) ∧ (l_vout.length : Int) ≤ (l_edges ++ [((l_list.length : Int) : Int)]).getD (i : Int).toNat 0 ∧ (l_edges.length : Int) + 1 - i ≤ (μ2 : Int) ∧ p_spec_SegmentMeans l_list l_breaks = p_spec_SegmentMeans_l2 l_list l_breaks t5 l_edges t26 (fun (l_vout : List Nat) (i : Int) => (bif !(p_spec_l02Finite l_vout) then ([], false) else (l_vout, true))) (μ2 + 1) l_vout i) (Int.toNat ((l_edges.length : Int) + 1 - (0 : Int))) _ _ _ _ _ _ _ _ _ _ _ _ _ _ _ _ _ _ _ _ _ _ _ _ _ _ _ _ _ _ _ _ _ _ _ _ _ _ _ _ _ _ H_9 ?_ ?_
          · exact ⟨_, _, rfl, (by first | rfl | omega | (simp only [List.length_set]; done) | (simp only [List.length_set, List.length_replicate]; omega)), rfl, o_116, o_121, o_123, (by omega), (by omega), (by omega), g_119, (by omega), (by first | omega | (simp; done) | (simp; omega) | (first | omega | (have := edg_at (by assumption) 0; simp only [List.length_nil]; omega))), (by first | omega | (simp; done) | (simp; omega) | (first | omega | (have := edg_at (by assumption) 0; simp only [List.length_nil]; omega))), (by first | omega | (simp; done) | (simp; omega) | (first | omega | (have := edg_at (by assumption) 0; simp only [List.length_nil]; omega))), (by first | omega | (simp; done) | (simp; omega) | (first | omega | (have := edg_at (by assumption) 0; simp only [List.length_nil]; omega))), (by omega), e⟩
          · intro μ2 vout_a vout_n vout_e i g11 g12 g66 g67 g68 g69 g70 g71 g72 g73 g74 g75 g76 g77 g78 g79 g80 g81 g82 g83 g84 g85 g86 g87 g88 g89 g90 g91 g92 g93 g94 g95 g96 g97 g98 g99 g100 g101 H_10 hI
            obtain ⟨l_vout, b_125, rfl, rfl, rfl, o_126, o_127, o_128, n_129, n_130, n_131, g_132, l_133, v_134, v_135, v_136, v_137, hμ, e⟩ := hI
            rw [spec_SegmentMeans_r2]
            have e := e.trans (p_spec_SegmentMeans_l2_s l_list l_breaks t5 l_edges t26 (fun (l_vout : List Nat) (i : Int) => (bif !(p_spec_l02Finite l_vout) then ([], false) else (l_vout, true))) μ2 l_vout i)
            have w_138 := o_127.lt
            have w_139 := o_128.lt
            have w_140 := o_126.lt
            have l_141 := g_132.1
            rw [show IntKind.wrap .i64 (i + 1) = (i + 1) from wrap64 (by omega) (by omega)]
            refine Br.intro (fun c_142 => ?_) (fun c_142 => ?_)
            · have e := e.trans (cond_t c_142)
              have c_142' := of_decide_eq_true c_142
              refine ⟨by omega, (by omega), _, _, rfl, ?_⟩
              refine ⟨(((l_edges ++ [((l_list.length : Int) : Int)])).getD (i : Int).toNat 0), o_128.rd (by first | omega | (simp only [List.length_set, List.length_replicate, List.length_append, List.length_cons, List.length_nil, List.length_take, List.length_drop, marks_length]; done) | (simp only [List.length_set, List.length_replicate, List.length_append, List.length_cons, List.length_nil, List.length_take, List.length_drop, marks_length]; omega)) _, ?_⟩
              have z_143 := edg_at (by assumption) (i : Int)
              refine ⟨by omega, (by omega), _, _, rfl, ?_⟩
              refine ⟨(((l_edges ++ [((l_list.length : Int) : Int)])).getD ((i + 1) : Int).toNat 0), o_128.rd (by first | omega | (simp only [List.length_set, List.length_replicate, List.length_append, List.length_cons, List.length_nil, List.length_take, List.length_drop, marks_length]; done) | (simp only [List.length_set, List.length_replicate, List.length_append, List.length_cons, List.length_nil, List.length_take, List.length_drop, marks_length]; omega)) _, ?_⟩
              have z_144 := edg_at (by assumption) ((i + 1) : Int)
              refine ⟨by omega, by omega, by omega, ?_⟩
              have i_145 := sub_isl i_list (lo := (((l_edges ++ [((l_list.length : Int) : Int)])).getD (i : Int).toNat 0)) (hi := (((l_edges ++ [((l_list.length : Int) : Int)])).getD ((i + 1) : Int).toNat 0)) (by omega) (by omega) (by omega)
              refine T_spec_l05Mean_i ⟨_, (i_145.grow g_132), (by first | omega | (simp only [List.length_set, List.length_replicate, List.length_append, List.length_cons, List.length_nil, List.length_take, List.length_drop, marks_length]; done) | (simp only [List.length_set, List.length_replicate, List.length_append, List.length_cons, List.length_nil, List.length_take, List.length_drop, marks_length]; omega)), ?_⟩
              refine ⟨by omega, (by omega), _, _, rfl, ?_⟩
              refine ⟨(((l_edges ++ [((l_list.length : Int) : Int)])).getD (i : Int).toNat 0), o_128.rd (by first | omega | (simp only [List.length_set, List.length_replicate, List.length_append, List.length_cons, List.length_nil, List.length_take, List.length_drop, marks_length]; done) | (simp only [List.length_set, List.length_replicate, List.length_append, List.length_cons, List.length_nil, List.length_take, List.length_drop, marks_length]; omega)) _, ?_⟩
              have z_146 := edg_at (by assumption) (i : Int)
              refine spec_SegmentMeans_L3 _ _ _ _ _ _ _ _ _ _ _ _ _ _ _ _ _ _ _ _ _ _ _ _ _ _ _ _ _ _ _ _ _ _ _ _ _ _ _ _ _ _ _ _ _ _ _ _ _ _ _ _ _ _ _ _ _ _ _ _ _ _ _ _ _ _ _ _ _ _ (fun (μ3 : Nat) (vout_a : Option Addr) (vout_n : Nat) (vout_e : Nat) (k : Int) (H_11 : AHeap) => ∃ (l_vout_3 : List Nat), ∃ (b_147 : Nat), vout_a = some ⟨b_147, 0, none⟩ ∧ vout_n = l_vout_3.length ∧ vout_e = 1 ∧ Own H_11 b_147 (l_vout_3.map fF) ∧ Own H_11 b_91 (([((l_list.length : Int) : Int)]).map fI) ∧ Own H_11 b_106 (((l_edges ++ [((l_list.length : Int) : Int)])).map fI) ∧ (b_106 ≠ b_91) ∧ (b_147 ≠ b_91) ∧ (b_147 ≠ b_106) ∧ Grow H H_11 ∧ H.length ≤ b_147 ∧ ((((l_edges ++ [((l_list.length : Int) : Int)])).getD (i : Int).toNat 0)) ≤ k ∧ ((k ≤ (((l_edges ++ [((l_list.length : Int) : Int)])).getD ((i + 1) : Int).toNat 0) ∨ k ≤ ((((l_edges ++ [((l_list.length : Int) : Int)])).getD (i : Int).toNat 0)))) ∧ (l_vout_3.length : Int) ≤ k - ((((l_edges ++ [((l_list.length : Int) : Int)])).getD (i : Int).toNat 0)) + l_vout.length ∧ (l_vout_3.length : Int) ≤ k ∧ k ≤ (l_edges ++ [((l_list.length : Int) : Int)]).getD ((i + 1) : Int).toNat 0 ∧ (((l_edges ++ [((l_list.length : Int) : Int)])).getD ((i + 1) : Int).toNat 0) - k ≤ (μ3 : Int) ∧ p_spec_SegmentMeans l_list l_breaks = p_spec_SegmentMeans_l3 l_list l_breaks t5 l_edges t26 l_vout i (fun (l_vout_3 : List Nat) (k : Int) => (p_spec_SegmentMeans_l2 l_list l_breaks t5 l_edges t26 (fun (l_vout : List Nat) (i : Int) => (bif !(p_spec_l02Finite l_vout) then ([], false) else (l_vout, true))) μ2 l_vout_3 (i + 1))) (μ3 + 1) l_vout_3 k) (Int.toNat ((((l_edges ++ [((l_list.length : Int) : Int)])).getD ((i + 1) : Int).toNat 0) - (((((l_edges ++ [((l_list.length : Int) : Int)])).getD (i : Int).toNat 0))))) _ _ _ _ _ _ _ _ _ _ _ _ _ _ _ _ _ H_10 ?_ ?_
              · exact ⟨_, _, rfl, (by first | rfl | omega | (simp only [List.length_set]; done) | (simp only [List.length_set, List.length_replicate]; omega)), rfl, o_126, o_127, o_128, (by omega), (by omega), (by omega), g_132, (by omega), (by first | omega | (simp; done) | (simp; omega)), (by first | omega | (simp; done) | (simp; omega)), (by first | omega | (simp; done) | (simp; omega)), (by first | omega | (simp; done) | (simp; omega)), (by first | omega | (simp; done) | (simp; omega)), (by omega), e⟩
              · intro μ3 vout_a vout_n vout_e k g89 g90 g91 g92 g93 g94 g95 g96 g97 g98 g99 g100 g101 H_11 hI
                obtain ⟨l_vout_3, b_147, rfl, rfl, rfl, o_148, o_149, o_150, n_151, n_152, n_153, g_154, l_155, v_156, v_157, v_158, v_159, v_160, hμ, e⟩ := hI
                rw [spec_SegmentMeans_r3]
                have e := e.trans (p_spec_SegmentMeans_l3_s l_list l_breaks t5 l_edges t26 l_vout i (fun (l_vout_3 : List Nat) (k : Int) => (p_spec_SegmentMeans_l2 l_list l_breaks t5 l_edges t26 (fun (l_vout : List Nat) (i : Int) => (bif !(p_spec_l02Finite l_vout) then ([], false) else (l_vout, true))) μ2 l_vout_3 (i + 1))) μ3 l_vout_3 k)
                have w_161 := o_149.lt
                have w_162 := o_150.lt
                have w_163 := o_148.lt
                have l_164 := g_154.1
                rw [show IntKind.wrap .i64 (i + 1) = (i + 1) from wrap64 (by omega) (by omega)]
                refine ⟨by omega, (by omega), _, _, rfl, ?_⟩
                refine ⟨(((l_edges ++ [((l_list.length : Int) : Int)])).getD ((i + 1) : Int).toNat 0), o_150.rd (by first | omega | (simp only [List.length_set, List.length_replicate, List.length_append, List.length_cons, List.length_nil, List.length_take, List.length_drop, marks_length]; done) | (simp only [List.length_set, List.length_replicate, List.length_append, List.length_cons, List.length_nil, List.length_take, List.length_drop, marks_length]; omega)) _, ?_⟩
                have z_165 := edg_at (by assumption) ((i + 1) : Int)
                refine Br.intro (fun c_166 => ?_) (fun c_166 => ?_)
                · have e := e.trans (cond_t c_166)
                  have c_166' := of_decide_eq_true c_166
                  refine Al.intro (fun b_167 H_12 hb_168 hl_169 g_170 o_171 => ?_)
                  have o_171 : Own H_12 b_167 (([((p_spec_l05Mean ((((l_list).drop ((((l_edges ++ [((l_list.length : Int) : Int)])).getD (i : Int).toNat 0) : Int).toNat).take (((((l_edges ++ [((l_list.length : Int) : Int)])).getD ((i + 1) : Int).toNat 0) : Int) - (((l_edges ++ [((l_list.length : Int) : Int)])).getD (i : Int).toNat 0)).toNat))))]).map fF) := o_171
                  have l_173 := g_170.1
                  have g_174 := g_154.trans g_170
                  have l_175 := g_174.1
                  have o_176 := o_149.grow g_170
                  have w_177 := o_176.lt
                  have o_178 := o_150.grow g_170
                  have w_179 := o_178.lt
                  have o_180 := o_148.grow g_170
                  have w_181 := o_180.lt
                  have w_198 := o_171.lt
                  refine ⟨_, _, o_180.ownB (by first | (simp only [List.length_map, List.length_cons, List.length_nil, List.length_append]; done) | (simp only [List.length_map, List.length_cons, List.length_nil, List.length_append]; omega)) rfl, (isl_rdS (o_171.isL (by first | rfl | omega | (simp only [List.length_set]; done) | (simp only [List.length_set, List.length_replicate]; omega)))), (fun h => by cases h), (by have := most_eq; omega), ?_⟩
                  refine Ap.app o_180 rfl rfl (fun b_186 H_13 q_196 hl_182 o_183 k_184 => ?_)
                  have o_183 := map_snoc o_183
                  have l_187 := k_184.1
                  have g_188 := g_174.keep (b := b_147) (by omega) k_184
                  have l_189 := g_188.1
                  have o_190 := o_176.keep (by omega) k_184
                  have w_191 := o_190.lt
                  have o_192 := o_178.keep (by omega) k_184
                  have w_193 := o_192.lt
                  have o_194 := o_171.keep (by omega) k_184
                  have w_195 := o_194.lt
                  have w_197 := o_183.lt
                  rw [show IntKind.wrap .i64 (k + 1) = (k + 1) from wrap64 (by omega) (by omega)]
                  refine spec_SegmentMeans_n3 (μ3 - 1) (by first | omega) ⟨_, _, rfl, (by first | (simp only [List.length_append, List.length_cons, List.length_nil]; done) | (simp only [List.length_append, List.length_cons, List.length_nil]; omega) | (simp only [List.length_append, List.length_cons, List.length_nil, List.length_take, List.length_drop]; omega)), rfl, o_183, o_190, o_192, (by omega), (by omega), (by omega), g_188, (by omega), (by first | omega | (simp only [List.length_append, List.length_cons, List.length_nil, List.length_set]; done) | (simp only [List.length_append, List.length_cons, List.length_nil, List.length_set]; omega)), (by first | omega | (simp only [List.length_append, List.length_cons, List.length_nil, List.length_set]; done) | (simp only [List.length_append, List.length_cons, List.length_nil, List.length_set]; omega)), (by first | omega | (simp only [List.length_append, List.length_cons, List.length_nil, List.length_set]; done) | (simp only [List.length_append, List.length_cons, List.length_nil, List.length_set]; omega)), (by first | omega | (simp only [List.length_append, List.length_cons, List.length_nil, List.length_set]; done) | (simp only [List.length_append, List.length_cons, List.length_nil, List.length_set]; omega)), (by first | omega | (simp only [List.length_append, List.length_cons, List.length_nil, List.length_set]; done) | (simp only [List.length_append, List.length_cons, List.length_nil, List.length_set]; omega)), (by first | omega), (by rw [show μ3 - 1 + 1 = μ3 from by first | omega]; exact e)⟩
                · have e := e.trans (cond_f c_166)
                  have c_166' := of_decide_eq_false c_166
                  rw [spec_SegmentMeans_x3_4]
                  rw [show IntKind.wrap .i64 (i + 1) = (i + 1) from wrap64 (by omega) (by omega)]
                  refine spec_SegmentMeans_n2 (μ2 - 1) (by first | omega) ⟨_, _, rfl, (by first | rfl | omega | (simp only [List.length_set]; done) | (simp only [List.length_set, List.length_replicate]; omega)), rfl, o_148, o_149, o_150, (by omega), (by omega), (by omega), g_154, (by omega), (by first | omega | (first | omega | (have := edg_at (by assumption) 0; simp only [List.length_nil]; omega)) | (simp only [List.length_append, List.length_cons, List.length_nil, List.length_set]; done) | (simp only [List.length_append, List.length_cons, List.length_nil, List.length_set]; omega)), (by first | omega | (first | omega | (have := edg_at (by assumption) 0; simp only [List.length_nil]; omega)) | (simp only [List.length_append, List.length_cons, List.length_nil, List.length_set]; done) | (simp only [List.length_append, List.length_cons, List.length_nil, List.length_set]; omega)), (by first | omega | (first | omega | (have := edg_at (by assumption) 0; simp only [List.length_nil]; omega)) | (simp only [List.length_append, List.length_cons, List.length_nil, List.length_set]; done) | (simp only [List.length_append, List.length_cons, List.length_nil, List.length_set]; omega)), (by first | omega | (first | omega | (have := edg_at (by assumption) 0; simp only [List.length_nil]; omega)) | (simp only [List.length_append, List.length_cons, List.length_nil, List.length_set]; done) | (simp only [List.length_append, List.length_cons, List.length_nil, List.length_set]; omega)), (by first | omega), (by rw [show μ2 - 1 + 1 = μ2 from by first | omega]; exact e)⟩
            · have e := e.trans (cond_f c_142)
              have c_142' := of_decide_eq_false c_142
              rw [spec_SegmentMeans_x2_2]
              refine T_spec_l02Finite_i ⟨_, (o_126.isL (by first | rfl | omega | (simp only [List.length_set]; done) | (simp only [List.length_set, List.length_replicate]; omega))), (by first | omega | (simp only [List.length_set, List.length_replicate, List.length_append, List.length_cons, List.length_nil, List.length_take, List.length_drop, marks_length]; done) | (simp only [List.length_set, List.length_replicate, List.length_append, List.length_cons, List.length_nil, List.length_take, List.length_drop, marks_length]; omega)), ?_⟩
              refine Br.intro (fun c_199 => ?_) (fun c_199 => ?_)
              · have e := e.trans (cond_t c_199)
                have c_199n := nf_of_t c_199
                rw [e] at hk
                exact hk _ _ _ H_10 g_132 (OwnS.nil _ _ _ _)
              · have e := e.trans (cond_f c_199)
                have c_199n := nt_of_f c_199
                rw [e] at hk
                exact hk _ _ _ H_10 g_132 (o_126.ownS (by first | rfl | omega | (simp only [List.length_set]; done) | (simp only [List.length_set, List.length_replicate]; omega)) (by omega))
theorem spec_SegmentMeans_ok : FnOk Try.prog 24 S_spec_SegmentMeans := by
  refine FnOk.body mix_ok E_spec_SegmentMeans_ok Try.func24 rfl (by kernel_rfl) (by kernel_rfl) ?_ ?_ ?_ ?_ ?_
  · intro args H K K' h hk
    simp only [S_spec_SegmentMeans] at *
    unfold F_spec_SegmentMeans at *
    split at hk
    · obtain ⟨l_list, l_breaks, i_list, i_breaks, bd_205, bd_206, k⟩ := hk
      exact ⟨l_list, l_breaks, i_list, i_breaks, bd_205, bd_206, (fun r1_a r1_n r1_e H' gg ow0 => h _ _ (k r1_a r1_n r1_e H' gg ow0))⟩
    · exact hk.elim
  · intro hq; cases hq
  · intro args H K hk
    simp only [S_spec_SegmentMeans] at *
    unfold F_spec_SegmentMeans at *
    split at hk
    · obtain ⟨l_list, l_breaks, i_list, i_breaks, bd_205, bd_206, k⟩ := hk
      exact liveS fun a n e H1 g o => ⟨_, _, k a n e H1 g o⟩
    · exact hk.elim
  · intro _ args H K hk
    simp only [S_spec_SegmentMeans] at *
    unfold F_spec_SegmentMeans at *
    split at hk
    · obtain ⟨l_list, l_breaks, i_list, i_breaks, bd_205, bd_206, k⟩ := hk
      exact ⟨l_list, l_breaks, i_list, i_breaks, bd_205, bd_206, (fun r1_a r1_n r1_e H' gg ow0 => ⟨gg, k r1_a r1_n r1_e H' gg ow0⟩)⟩
    · exact hk.elim
  · have mm := @spec_SegmentMeans_main
    revert mm
    generalize bodyK Try.prog E_spec_SegmentMeans Try.f24 = Q
    intro mm args H K hk
    simp only [S_spec_SegmentMeans] at *
    unfold F_spec_SegmentMeans at *
    split at hk
    · exact mm _ _ _ _ _ _ H K hk
    · exact hk.elim
def p_impl_within (n : Int) (low : Int) (high : Int) : Bool := (bif decide ((low : Int) ≤ n) then decide ((n : Int) ≤ high) else false)
theorem p_impl_within_eq (n : Int) (low : Int) (high : Int) : p_impl_within n low high = (bif decide ((low : Int) ≤ n) then decide ((n : Int) ≤ high) else false) := rfl
def T_impl_within (n : Int) (low : Int) (high : Int) (H : AHeap) (K : Bool → AHeap → Prop) : Prop := K (p_impl_within n low high) H
theorem impl_within_t {n a b : Int} (h : p_impl_within n a b = true) : a ≤ n ∧ n ≤ b := by
  unfold p_impl_within at h
  by_cases h1 : a ≤ n
  · rw [decide_eq_true h1, cond_true] at h; exact ⟨h1, of_decide_eq_true h⟩
  · rw [decide_eq_false h1] at h; cases h
theorem T_impl_within_i {n : Int} {low : Int} {high : Int} {H : AHeap} {K : Bool → AHeap → Prop} (h : K (p_impl_within n low high) H) : T_impl_within n low high H K := h
/-! impl_within: function 72 -/
def E_impl_within : Env := envOf []
def F_impl_within : List Value → AHeap → (Value → AHeap → Prop) → Prop
  | [.int .i64 n, .int .i64 low, .int .i64 high], H, K => T_impl_within n low high H fun (r1 : Bool) (H' : AHeap) => K (.bool r1) H'
  | _, _, _ => False
def S_impl_within : FSpec := { F := F_impl_within, quiet := true, tame := false }
theorem impl_within_vc (n : Int) (low : Int) (high : Int) (H : AHeap) (K : Value → AHeap → Prop) : bodyK Try.prog E_impl_within Try.f72 [.int .i64 n, .int .i64 low, .int .i64 high] H K =
  (Br (decide ((low : Int) ≤ n)) (K (.bool (decide ((n : Int) ≤ high))) H) (K (.bool false) H)) := by kernel_rfl
theorem E_impl_within_ok : ∀ g, FnOk Try.prog g (E_impl_within g) := FnOk.envOf (by
  intro x hx; cases hx)
set_option maxHeartbeats 1000000 in
theorem impl_within_main (n : Int) (low : Int) (high : Int) (H : AHeap) (K : Value → AHeap → Prop) (h : T_impl_within n low high H fun (r1 : Bool) (H' : AHeap) => K (.bool r1) H') : bodyK Try.prog E_impl_within Try.f72 [.int .i64 n, .int .i64 low, .int .i64 high] H K := by
  rw [impl_within_vc]
  unfold T_impl_within p_impl_within at h
  repeat' (first | exact h | (exfalso; simp_all; done) | (refine ⟨by decide, ?_⟩) | (refine Br.intro (fun hb => ?_) (fun hb => ?_) <;> (try simp only [hb, cond_true, cond_false, Bool.not_true, Bool.not_false] at h)))
theorem impl_within_ok : FnOk Try.prog 72 S_impl_within := by
  refine FnOk.body mix_ok E_impl_within_ok Try.func72 rfl (by kernel_rfl) (by kernel_rfl) ?_ ?_ ?_ ?_ ?_
  · intro args H K K' h hk
    simp only [S_impl_within] at *
    unfold F_impl_within at *
    split at hk
    · have k := hk
      exact h _ _ k
    · exact hk.elim
  · intro _ args H K hk
    simp only [S_impl_within] at *
    unfold F_impl_within at *
    split at hk
    · have k := hk
      exact ⟨_, k, fun K' k' => k'⟩
    · exact hk.elim
  · intro args H K hk
    simp only [S_impl_within] at *
    unfold F_impl_within at *
    split at hk
    · have k := hk
      exact ⟨_, _, k⟩
    · exact hk.elim
  · intro hq; cases hq
  · have mm := @impl_within_main
    revert mm
    generalize bodyK Try.prog E_impl_within Try.f72 = Q
    intro mm args H K hk
    simp only [S_impl_within] at *
    unfold F_impl_within at *
    split at hk
    · exact mm _ _ _ H K hk
    · exact hk.elim
def p_impl_IsFinite (x : Nat) : Bool := feq .f32 (fsub .f32 x x) 0
theorem p_impl_IsFinite_eq (x : Nat) : p_impl_IsFinite x = feq .f32 (fsub .f32 x x) 0 := rfl
def T_impl_IsFinite (x : Nat) (H : AHeap) (K : Bool → AHeap → Prop) : Prop := K (p_impl_IsFinite x) H

theorem T_impl_IsFinite_i {x : Nat} {H : AHeap} {K : Bool → AHeap → Prop} (h : K (p_impl_IsFinite x) H) : T_impl_IsFinite x H K := h
/-! impl_IsFinite: function 62 -/
def E_impl_IsFinite : Env := envOf []
def F_impl_IsFinite : List Value → AHeap → (Value → AHeap → Prop) → Prop
  | [.float .f32 x], H, K => T_impl_IsFinite x H fun (r1 : Bool) (H' : AHeap) => K (.bool r1) H'
  | _, _, _ => False
def S_impl_IsFinite : FSpec := { F := F_impl_IsFinite, quiet := true, tame := false }
theorem impl_IsFinite_vc (x : Nat) (H : AHeap) (K : Value → AHeap → Prop) : bodyK Try.prog E_impl_IsFinite Try.f62 [.float .f32 x] H K =
  (K (.bool (feq .f32 (fsub .f32 x x) 0)) H) := by kernel_rfl
theorem E_impl_IsFinite_ok : ∀ g, FnOk Try.prog g (E_impl_IsFinite g) := FnOk.envOf (by
  intro x hx; cases hx)
set_option maxHeartbeats 1000000 in
theorem impl_IsFinite_main (x : Nat) (H : AHeap) (K : Value → AHeap → Prop) (h : T_impl_IsFinite x H fun (r1 : Bool) (H' : AHeap) => K (.bool r1) H') : bodyK Try.prog E_impl_IsFinite Try.f62 [.float .f32 x] H K := by
  rw [impl_IsFinite_vc]
  unfold T_impl_IsFinite p_impl_IsFinite at h
  repeat' (first | exact h | (exfalso; simp_all; done) | (refine ⟨by decide, ?_⟩) | (refine Br.intro (fun hb => ?_) (fun hb => ?_) <;> (try simp only [hb, cond_true, cond_false, Bool.not_true, Bool.not_false] at h)))
theorem impl_IsFinite_ok : FnOk Try.prog 62 S_impl_IsFinite := by
  refine FnOk.body mix_ok E_impl_IsFinite_ok Try.func62 rfl (by kernel_rfl) (by kernel_rfl) ?_ ?_ ?_ ?_ ?_
  · intro args H K K' h hk
    simp only [S_impl_IsFinite] at *
    unfold F_impl_IsFinite at *
    split at hk
    · have k := hk
      exact h _ _ k
    · exact hk.elim
  · intro _ args H K hk
    simp only [S_impl_IsFinite] at *
    unfold F_impl_IsFinite at *
    split at hk
    · have k := hk
      exact ⟨_, k, fun K' k' => k'⟩
    · exact hk.elim
  · intro args H K hk
    simp only [S_impl_IsFinite] at *
    unfold F_impl_IsFinite at *
    split at hk
    · have k := hk
      exact ⟨_, _, k⟩
    · exact hk.elim
  · intro hq; cases hq
  · have mm := @impl_IsFinite_main
    revert mm
    generalize bodyK Try.prog E_impl_IsFinite Try.f62 = Q
    intro mm args H K hk
    simp only [S_impl_IsFinite] at *
    unfold F_impl_IsFinite at *
    split at hk
    · exact mm _ H K hk
    · exact hk.elim
end Go.Proofs.Ytghkkclonabpkaa.Ai
