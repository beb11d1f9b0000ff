/- What functions of the program come to on the abstract machine, and that they do so; printed by a program of mine around proofs of mine. -/
import Derived.Test.YtghkkclonabpkaaProg
import Derived.Test.YtghkkclonabpkaaLibA
import Derived.Test.YtghkkclonabpkaaOpen
import Derived.Test.YtghkkclonabpkaaLibB
import Derived.Test.YtghkkclonabpkaaFl
import Derived.Test.YtghkkclonabpkaaExt
import Derived.Test.YtghkkclonabpkaaFm
import Derived.Test.YtghkkclonabpkaaFb
import Derived.Test.YtghkkclonabpkaaFs
import Derived.Test.YtghkkclonabpkaaSo
import Derived.Test.YtghkkclonabpkaaKe
import Derived.Test.YtghkkclonabpkaaPi
set_option linter.unusedVariables false
set_option linter.unusedSimpArgs false
set_option maxRecDepth 100000
namespace Go.Proofs.Ytghkkclonabpkaa.Ai
open Go
attribute [local irreducible] bodyK
theorem mix_ok : Try.prog.follows .mixedOrders = true := by kernel_rfl

def p_laws_toFloat32S_l1 (l_a : List Nat) : Nat → Int → (List Nat) → (List Nat)
  | 0, _, _ => []
  | μ + 1, i, y1_1 => (bif decide ((i : Int) < (l_a.length : Int)) then (p_laws_toFloat32S_l1 l_a μ (i + 1) (((y1_1).set (i : Int).toNat ((((l_a).getD (i : Int).toNat 0)))))) else y1_1)
theorem p_laws_toFloat32S_l1_s (l_a : List Nat) (μ : Nat) (i : Int) (y1_1 : List Nat) : p_laws_toFloat32S_l1 l_a (μ + 1) i y1_1 = (bif decide ((i : Int) < (l_a.length : Int)) then (p_laws_toFloat32S_l1 l_a μ (i + 1) (((y1_1).set (i : Int).toNat ((((l_a).getD (i : Int).toNat 0)))))) else y1_1) := rfl
def p_laws_toFloat32S (l_a : List Nat) : (List Nat) := (p_laws_toFloat32S_l1 l_a (Int.toNat ((l_a.length : Int) - (0 : Int)) + 1) (0 : Int) (List.replicate (((l_a.length : Int)).toNat) 0))
theorem p_laws_toFloat32S_eq (l_a : List Nat) : p_laws_toFloat32S l_a = (p_laws_toFloat32S_l1 l_a (Int.toNat ((l_a.length : Int) - (0 : Int)) + 1) (0 : Int) (List.replicate (((l_a.length : Int)).toNat) 0)) := rfl
def T_laws_toFloat32S (a_a : Option Addr) (a_n : Nat) (a_e : Nat) (H : AHeap) (K : (Option Addr) → Nat → Nat → AHeap → Prop) : Prop := ∃ (l_a : List Nat), IsL fF H a_a a_n l_a ∧ l_a.length < 1073741824 ∧ ((∀ (r1_a : Option Addr) (r1_n r1_e : Nat), ∀ H' : AHeap, Grow H H' → OwnS fF H' H.length r1_a r1_n r1_e l_a → K r1_a r1_n r1_e H'))
theorem T_laws_toFloat32S_i {a_a : Option Addr} {a_n : Nat} {a_e : Nat} {H : AHeap} {K : (Option Addr) → Nat → Nat → AHeap → Prop} (h : ∃ (l_a : List Nat), IsL fF H a_a a_n l_a ∧ l_a.length < 1073741824 ∧ ((∀ (r1_a : Option Addr) (r1_n r1_e : Nat), ∀ H' : AHeap, Grow H H' → OwnS fF H' H.length r1_a r1_n r1_e l_a → K r1_a r1_n r1_e H'))) : T_laws_toFloat32S a_a a_n a_e H K := h
theorem laws_toFloat32S_go (l : List Nat) : ∀ (μ : Nat) (i : Nat) (ys : List Nat), ys.length = l.length → i ≤ l.length → l.length - i < μ →
    p_laws_toFloat32S_l1 l μ (i : Int) (l.take i ++ ys.drop i) = l := by
  intro μ
  induction μ with
  | zero => intro i ys _ _ h; omega
  | succ μ ih =>
    intro i ys hy hi hm
    rw [p_laws_toFloat32S_l1_s]
    by_cases h : i < l.length
    · rw [decide_eq_true (show (i : Int) < (l.length : Int) by omega), cond_true]
      have hx : l[i]? = some (l.getD i 0) := by rw [List.getD_eq_getElem?_getD, List.getElem?_eq_getElem h]; rfl
      rw [Int.toNat_natCast, set_front l ys i (by omega) hy.symm _ hx]
      exact ih (i + 1) ys hy (by omega) (by omega)
    · rw [decide_eq_false (show ¬ (i : Int) < (l.length : Int) by omega), cond_false]
      rw [List.take_of_length_le (by omega), List.drop_eq_nil_of_le (by omega), List.append_nil]
theorem laws_toFloat32S_id (l : List Nat) : p_laws_toFloat32S l = l := by
  rw [p_laws_toFloat32S_eq]
  have := laws_toFloat32S_go l (Int.toNat ((l.length : Int) - 0) + 1) 0 (List.replicate ((l.length : Int)).toNat 0) (by simp) (by omega) (by omega)
  simpa using this
/-! laws_toFloat32S: function 16 -/
def E_laws_toFloat32S : Env := envOf []
def F_laws_toFloat32S : List Value → AHeap → (Value → AHeap → Prop) → Prop
  | [.slice a_a a_n a_e], H, K => T_laws_toFloat32S a_a a_n a_e H fun (r1_a : Option Addr) (r1_n : Nat) (r1_e : Nat) (H' : AHeap) => K (.slice r1_a r1_n r1_e) H'
  | _, _, _ => False
def S_laws_toFloat32S : FSpec := { F := F_laws_toFloat32S, quiet := false, tame := true }
theorem laws_toFloat32S_vc (a_a : Option Addr) (a_n : Nat) (a_e : Nat) (H : AHeap) (K : Value → AHeap → Prop) : bodyK Try.prog E_laws_toFloat32S Try.f16 [.slice a_a a_n a_e] H K =
  ((0 : Int) ≤ (a_n : Int) ∧ (a_n : Int) = (a_n : Int) ∧ (a_n : Int) < (most : Int) ∧ Al (zerosOf (.float .f32 0) ((a_n : Int)).toNat) H fun b1 H1 => loopK (exK Try.prog E_laws_toFloat32S (cl (cl (cr (cl (cr (cr (bodyC Try.f16)))))))) [.slice a_a a_n a_e, undef, .slice none 0 0, .slice (some ⟨b1, 0, none⟩) (((a_n : Int)).toNat) 1, .int .i64 0, .slice a_a a_n a_e, .int .i64 (a_n : Int), .slice (some ⟨b1, 0, none⟩) (((a_n : Int)).toNat) 1, undef, undef, undef, undef, undef, undef, undef, undef, undef, undef, undef, undef, undef, undef] H1 (blockQ 0 (seqQ (exK Try.prog E_laws_toFloat32S (cr (cr (cr (bodyC Try.f16))))) (retK Try.prog Try.f16 K)))) := by kernel_rfl
theorem laws_toFloat32S_r1 (a_a : Option Addr) (a_e : Nat) (a_n : Nat) (b1 : Nat) (i : Int) (g8 g9 g10 g11 g12 g13 g14 g15 g16 g17 g18 g19 g20 : Value) (H : AHeap) (R : Post) : exK Try.prog E_laws_toFloat32S (cl (cl (cr (cl (cr (cr (bodyC Try.f16))))))) [.slice a_a a_n a_e, undef, .slice none 0 0, .slice (some ⟨b1, 0, none⟩) (((a_n : Int)).toNat) 1, .int .i64 i, .slice a_a a_n a_e, .int .i64 (a_n : Int), .slice (some ⟨b1, 0, none⟩) (((a_n : Int)).toNat) 1, g8, g9, g10, g11, g12, g13, g14, g15, g16, g17, g18, g19, g20, undef] H R =
  (Br (decide ((i : Int) < (a_n : Int))) ((0 : Int) ≤ i ∧ i < (a_n : Int) ∧ ∃ b2 f1, (a_a : Option Addr) = some ⟨b2, f1, none⟩ ∧ ∃ x1 : Nat,  rdC H b2 (f1 + (i : Int).toNat * 1) = some (.float .f32 x1) ∧ (0 : Int) ≤ i ∧ i < (((a_n : Int)).toNat : Int) ∧ ∃ b3 f2, (some ⟨b1, 0, none⟩ : Option Addr) = some ⟨b3, f2, none⟩ ∧ isOwn H b3 ∧ (∃ l, rdN H b3 (f2 + (i : Int).toNat * 1) 1 = some l) ∧ Lt (setC H b3 (f2 + (i : Int).toNat * 1) (.float .f32 x1)) fun H2 => R .normal [.slice a_a a_n a_e, undef, .slice none 0 0, .slice (some ⟨b1, 0, none⟩) (((a_n : Int)).toNat) 1, .int .i64 (IntKind.wrap .i64 (i + 1)), .slice a_a a_n a_e, .int .i64 (a_n : Int), .slice (some ⟨b1, 0, none⟩) (((a_n : Int)).toNat) 1, .int .i64 i, .slice a_a a_n a_e, .int .i64 (a_n : Int), .bool (decide ((i : Int) < (a_n : Int))), .int .i64 i, .int .i64 (IntKind.wrap .i64 (i + 1)), .slice (some ⟨b1, 0, none⟩) (((a_n : Int)).toNat) 1, .int .i64 i, .slice a_a a_n a_e, .int .i64 i, .pointer (some ⟨b2, f1 + (i : Int).toNat * 1, none⟩), .float .f32 x1, .pointer (some ⟨b3, f2 + (i : Int).toNat * 1, none⟩), undef] H2) (R (.exit 0) [.slice a_a a_n a_e, undef, .slice none 0 0, .slice (some ⟨b1, 0, none⟩) (((a_n : Int)).toNat) 1, .int .i64 i, .slice a_a a_n a_e, .int .i64 (a_n : Int), .slice (some ⟨b1, 0, none⟩) (((a_n : Int)).toNat) 1, .int .i64 i, .slice a_a a_n a_e, .int .i64 (a_n : Int), .bool (decide ((i : Int) < (a_n : Int))), g12, g13, g14, g15, g16, g17, g18, g19, g20, undef] H)) := by kernel_rfl
def laws_toFloat32S_I1 (a_a : Option Addr) (a_e : Nat) (a_n : Nat) (b1 : Nat) (Inv : Nat → Int → AHeap → Prop) : Nat → List Value → AHeap → Prop := fun μ tm H => ∃ (i : Int), ∃ g8 g9 g10 g11 g12 g13 g14 g15 g16 g17 g18 g19 g20, tm = [.slice a_a a_n a_e, undef, .slice none 0 0, .slice (some ⟨b1, 0, none⟩) (((a_n : Int)).toNat) 1, .int .i64 i, .slice a_a a_n a_e, .int .i64 (a_n : Int), .slice (some ⟨b1, 0, none⟩) (((a_n : Int)).toNat) 1, g8, g9, g10, g11, g12, g13, g14, g15, g16, g17, g18, g19, g20, undef] ∧ Inv μ i H
theorem laws_toFloat32S_L1 (a_a : Option Addr) (a_e : Nat) (a_n : Nat) (b1 : Nat) {Q : Post} (Inv : Nat → Int → AHeap → Prop) (ν : Nat) (i : Int) (g8 g9 g10 g11 g12 g13 g14 g15 g16 g17 g18 g19 g20 : Value) (H : AHeap) (h0 : Inv ν i H)
    (hs : ∀ (μ : Nat) (i : Int) (g8 g9 g10 g11 g12 g13 g14 g15 g16 g17 g18 g19 g20 : Value) (H : AHeap), Inv μ i H → exK Try.prog E_laws_toFloat32S (cl (cl (cr (cl (cr (cr (bodyC Try.f16))))))) [.slice a_a a_n a_e, undef, .slice none 0 0, .slice (some ⟨b1, 0, none⟩) (((a_n : Int)).toNat) 1, .int .i64 i, .slice a_a a_n a_e, .int .i64 (a_n : Int), .slice (some ⟨b1, 0, none⟩) (((a_n : Int)).toNat) 1, g8, g9, g10, g11, g12, g13, g14, g15, g16, g17, g18, g19, g20, undef] H (loopQ (laws_toFloat32S_I1 a_a a_e a_n b1 Inv) μ Q)) : loopK (exK Try.prog E_laws_toFloat32S (cl (cl (cr (cl (cr (cr (bodyC Try.f16)))))))) [.slice a_a a_n a_e, undef, .slice none 0 0, .slice (some ⟨b1, 0, none⟩) (((a_n : Int)).toNat) 1, .int .i64 i, .slice a_a a_n a_e, .int .i64 (a_n : Int), .slice (some ⟨b1, 0, none⟩) (((a_n : Int)).toNat) 1, g8, g9, g10, g11, g12, g13, g14, g15, g16, g17, g18, g19, g20, undef] H Q :=
  ⟨laws_toFloat32S_I1 a_a a_e a_n b1 Inv, ν, ⟨i, g8, g9, g10, g11, g12, g13, g14, g15, g16, g17, g18, g19, g20, rfl, h0⟩, fun μ tm H h => by obtain ⟨i, g8, g9, g10, g11, g12, g13, g14, g15, g16, g17, g18, g19, g20, rfl, hI⟩ := h; exact hs μ i g8 g9 g10 g11 g12 g13 g14 g15 g16 g17 g18 g19 g20 H hI⟩
theorem laws_toFloat32S_n1 {a_a : Option Addr} {a_e : Nat} {a_n : Nat} {b1 : Nat} {Q : Post} {Inv : Nat → Int → AHeap → Prop} {μ : Nat} (μ' : Nat) {i : Int} {g8 g9 g10 g11 g12 g13 g14 g15 g16 g17 g18 g19 g20 : Value} {H : AHeap} (hm : μ' < μ) (hI : Inv μ' i H) : loopQ (laws_toFloat32S_I1 a_a a_e a_n b1 Inv) μ Q .normal [.slice a_a a_n a_e, undef, .slice none 0 0, .slice (some ⟨b1, 0, none⟩) (((a_n : Int)).toNat) 1, .int .i64 i, .slice a_a a_n a_e, .int .i64 (a_n : Int), .slice (some ⟨b1, 0, none⟩) (((a_n : Int)).toNat) 1, g8, g9, g10, g11, g12, g13, g14, g15, g16, g17, g18, g19, g20, undef] H := ⟨μ', hm, i, g8, g9, g10, g11, g12, g13, g14, g15, g16, g17, g18, g19, g20, rfl, hI⟩
theorem laws_toFloat32S_x1_0 (a_a : Option Addr) (a_e : Nat) (a_n : Nat) (b1 : Nat) (i : Int) (g8 g9 g10 g11 g12 g13 g14 g15 g16 g17 g18 g19 g20 : Value) (H : AHeap) (K : Value → AHeap → Prop)  {I : Nat → List Value → AHeap → Prop} {μ : Nat} : loopQ I μ (blockQ 0 (seqQ (exK Try.prog E_laws_toFloat32S (cr (cr (cr (bodyC Try.f16))))) (retK Try.prog Try.f16 K))) (.exit 0) [.slice a_a a_n a_e, undef, .slice none 0 0, .slice (some ⟨b1, 0, none⟩) (((a_n : Int)).toNat) 1, .int .i64 i, .slice a_a a_n a_e, .int .i64 (a_n : Int), .slice (some ⟨b1, 0, none⟩) (((a_n : Int)).toNat) 1, g8, g9, g10, g11, g12, g13, g14, g15, g16, g17, g18, g19, g20, undef] H =
  (K (.slice (some ⟨b1, 0, none⟩) (((a_n : Int)).toNat) 1) H) := by kernel_rfl
theorem E_laws_toFloat32S_ok : ∀ g, FnOk Try.prog g (E_laws_toFloat32S g) := FnOk.envOf (by
  intro x hx; cases hx)
set_option maxHeartbeats 1000000 in
theorem laws_toFloat32S_main (a_a : Option Addr) (a_n : Nat) (a_e : Nat) (H : AHeap) (K : Value → AHeap → Prop) (h : T_laws_toFloat32S a_a a_n a_e H fun (r1_a : Option Addr) (r1_n : Nat) (r1_e : Nat) (H' : AHeap) => K (.slice r1_a r1_n r1_e) H') : bodyK Try.prog E_laws_toFloat32S Try.f16 [.slice a_a a_n a_e] H K := by
  rw [laws_toFloat32S_vc]
  obtain ⟨l_a, i_a, bd_29, hk⟩ := h
  have hk : (∀ (r1_a : Option Addr) (r1_n r1_e : Nat), ∀ H' : AHeap, Grow H H' → OwnS fF H' H.length r1_a r1_n r1_e (p_laws_toFloat32S l_a) → (fun (r1_a : Option Addr) (r1_n : Nat) (r1_e : Nat) (H' : AHeap) => K (.slice r1_a r1_n r1_e) H') r1_a r1_n r1_e H') := by rw [laws_toFloat32S_id l_a]; exact hk
  obtain rfl := i_a.eqn
  have e : (p_laws_toFloat32S l_a) = _ := rfl
  have e := e.trans (p_laws_toFloat32S_eq l_a)
  have g0 := Grow.refl H
  refine ⟨by omega, rfl, (by have := most_eq; omega), ?_⟩
  refine Al.intro (fun b_1 H_1 hb_2 hl_3 g_4 o_5 => ?_)
  rw [zeros_map fF 0 _ rfl] at o_5
  have l_7 := g_4.1
  have g_8 := g0.trans g_4
  have l_9 := g_8.1
  have w_28 := o_5.lt
  refine laws_toFloat32S_L1 _ _ _ _ (fun (μ : Nat) (i : Int) (H_2 : AHeap) => ∃ (y1_1 : List Nat), Own H_2 b_1 (y1_1.map fF) ∧ y1_1.length = ((l_a.length : Int)).toNat ∧ Grow H H_2 ∧ (0 : Int) ≤ i ∧ i ≤ (l_a.length : Int) ∧ (l_a.length : Int) - i ≤ (μ : Int) ∧ p_laws_toFloat32S l_a = p_laws_toFloat32S_l1 l_a (μ + 1) i y1_1) (Int.toNat ((l_a.length : Int) - (0 : Int))) _ _ _ _ _ _ _ _ _ _ _ _ _ _ H_1 ?_ ?_
  · exact ⟨_, o_5, (by first | rfl | assumption | omega | (simp; done)), g_8, (by first | omega | (simp; done) | (simp; omega)), (by first | omega | (simp; done) | (simp; omega)), (by omega), e⟩
  · intro μ i g8 g9 g10 g11 g12 g13 g14 g15 g16 g17 g18 g19 g20 H_2 hI
    obtain ⟨y1_1, o_10, y_11, g_12, v_13, v_14, hμ, e⟩ := hI
    rw [laws_toFloat32S_r1]
    have e := e.trans (p_laws_toFloat32S_l1_s l_a μ i y1_1)
    have w_15 := o_10.lt
    have l_16 := g_12.1
    refine Br.intro (fun c_17 => ?_) (fun c_17 => ?_)
    · have e := e.trans (cond_t c_17)
      have c_17' := of_decide_eq_true c_17
      obtain ⟨b_18, f_19, q_20⟩ := ((i_a.grow g_12)).pos (by first | omega | (simp only [List.length_set, List.length_replicate, List.length_append, List.length_cons, List.length_nil, List.length_take, List.length_drop, marks_length]; done) | (simp only [List.length_set, List.length_replicate, List.length_append, List.length_cons, List.length_nil, List.length_take, List.length_drop, marks_length]; omega))
      refine ⟨by omega, by omega, b_18, f_19, q_20, ?_⟩
      refine ⟨((l_a).getD (i : Int).toNat 0), (i_a).rd g_12 q_20 (by omega) _, ?_⟩
      refine ⟨by omega, (by omega), _, _, rfl, ?_⟩
      refine Lt.set o_10 (by simp only [List.length_map]; (first | omega | (simp only [List.length_set, List.length_replicate, List.length_append, List.length_cons, List.length_nil, List.length_take, List.length_drop, marks_length]; done) | (simp only [List.length_set, List.length_replicate, List.length_append, List.length_cons, List.length_nil, List.length_take, List.length_drop, marks_length]; omega))) (fun H_3 hl_21 o_23 k_22 => ?_)
      have o_23 := map_set o_23
      have l_24 := k_22.1
      have g_25 := g_12.keep (b := b_1) (by omega) k_22
      have l_26 := g_25.1
      have w_27 := o_23.lt
      rw [show IntKind.wrap .i64 (i + 1) = (i + 1) from wrap64 (by omega) (by omega)]
      refine laws_toFloat32S_n1 (μ - 1) (by first | omega) ⟨_, o_23, (by first | assumption | omega | (simp only [List.length_set]; first | rfl | assumption | omega)), g_25, (by first | omega | (simp only [List.length_append, List.length_cons, List.length_nil, List.length_set]; done) | (simp only [List.length_append, List.length_cons, List.length_nil, List.length_set]; omega)), (by first | omega | (simp only [List.length_append, List.length_cons, List.length_nil, List.length_set]; done) | (simp only [List.length_append, List.length_cons, List.length_nil, List.length_set]; omega)), (by first | omega), (by rw [show μ - 1 + 1 = μ from by first | omega]; exact e)⟩
    · have e := e.trans (cond_f c_17)
      have c_17' := of_decide_eq_false c_17
      rw [laws_toFloat32S_x1_0]
      rw [e] at hk
      exact hk _ _ _ H_2 g_12 (o_10.ownS (by first | (simp only [List.length_replicate]; done) | omega | (simp; omega)) (by omega))
theorem laws_toFloat32S_ok : FnOk Try.prog 16 S_laws_toFloat32S := by
  refine FnOk.body mix_ok E_laws_toFloat32S_ok Try.func16 rfl (by kernel_rfl) (by kernel_rfl) ?_ ?_ ?_ ?_ ?_
  · intro args H K K' h hk
    simp only [S_laws_toFloat32S] at *
    unfold F_laws_toFloat32S at *
    split at hk
    · obtain ⟨l_a, i_a, bd_29, k⟩ := hk
      exact ⟨l_a, i_a, bd_29, (fun r1_a r1_n r1_e H' gg ow0 => h _ _ (k r1_a r1_n r1_e H' gg ow0))⟩
    · exact hk.elim
  · intro hq; cases hq
  · intro args H K hk
    simp only [S_laws_toFloat32S] at *
    unfold F_laws_toFloat32S at *
    split at hk
    · obtain ⟨l_a, i_a, bd_29, k⟩ := hk
      exact liveS fun a n e H1 g o => ⟨_, _, k a n e H1 g o⟩
    · exact hk.elim
  · intro _ args H K hk
    simp only [S_laws_toFloat32S] at *
    unfold F_laws_toFloat32S at *
    split at hk
    · obtain ⟨l_a, i_a, bd_29, k⟩ := hk
      exact ⟨l_a, i_a, bd_29, (fun r1_a r1_n r1_e H' gg ow0 => ⟨gg, k r1_a r1_n r1_e H' gg ow0⟩)⟩
    · exact hk.elim
  · have mm := @laws_toFloat32S_main
    revert mm
    generalize bodyK Try.prog E_laws_toFloat32S Try.f16 = Q
    intro mm args H K hk
    simp only [S_laws_toFloat32S] at *
    unfold F_laws_toFloat32S at *
    split at hk
    · exact mm _ _ _ H K hk
    · exact hk.elim
def p_spec_l01Finite (x : Nat) : Bool := feq .f32 (fsub .f32 x x) 0
theorem p_spec_l01Finite_eq (x : Nat) : p_spec_l01Finite x = feq .f32 (fsub .f32 x x) 0 := rfl
def T_spec_l01Finite (x : Nat) (H : AHeap) (K : Bool → AHeap → Prop) : Prop := K (p_spec_l01Finite x) H

theorem T_spec_l01Finite_i {x : Nat} {H : AHeap} {K : Bool → AHeap → Prop} (h : K (p_spec_l01Finite x) H) : T_spec_l01Finite x H K := h
/-! spec_l01Finite: function 57 -/
def E_spec_l01Finite : Env := envOf []
def F_spec_l01Finite : List Value → AHeap → (Value → AHeap → Prop) → Prop
  | [.float .f32 x], H, K => T_spec_l01Finite x H fun (r1 : Bool) (H' : AHeap) => K (.bool r1) H'
  | _, _, _ => False
def S_spec_l01Finite : FSpec := { F := F_spec_l01Finite, quiet := true, tame := false }
theorem spec_l01Finite_vc (x : Nat) (H : AHeap) (K : Value → AHeap → Prop) : bodyK Try.prog E_spec_l01Finite Try.f57 [.float .f32 x] H K =
  (K (.bool (feq .f32 (fsub .f32 x x) 0)) H) := by kernel_rfl
theorem E_spec_l01Finite_ok : ∀ g, FnOk Try.prog g (E_spec_l01Finite g) := FnOk.envOf (by
  intro x hx; cases hx)
set_option maxHeartbeats 1000000 in
theorem spec_l01Finite_main (x : Nat) (H : AHeap) (K : Value → AHeap → Prop) (h : T_spec_l01Finite x H fun (r1 : Bool) (H' : AHeap) => K (.bool r1) H') : bodyK Try.prog E_spec_l01Finite Try.f57 [.float .f32 x] H K := by
  rw [spec_l01Finite_vc]
  unfold T_spec_l01Finite p_spec_l01Finite at h
  repeat' (first | exact h | (exfalso; simp_all; done) | (refine ⟨by decide, ?_⟩) | (refine Br.intro (fun hb => ?_) (fun hb => ?_) <;> (try simp only [hb, cond_true, cond_false, Bool.not_true, Bool.not_false] at h)))
theorem spec_l01Finite_ok : FnOk Try.prog 57 S_spec_l01Finite := by
  refine FnOk.body mix_ok E_spec_l01Finite_ok Try.func57 rfl (by kernel_rfl) (by kernel_rfl) ?_ ?_ ?_ ?_ ?_
  · intro args H K K' h hk
    simp only [S_spec_l01Finite] at *
    unfold F_spec_l01Finite at *
    split at hk
    · have k := hk
      exact h _ _ k
    · exact hk.elim
  · intro _ args H K hk
    simp only [S_spec_l01Finite] at *
    unfold F_spec_l01Finite at *
    split at hk
    · have k := hk
      exact ⟨_, k, fun K' k' => k'⟩
    · exact hk.elim
  · intro args H K hk
    simp only [S_spec_l01Finite] at *
    unfold F_spec_l01Finite at *
    split at hk
    · have k := hk
      exact ⟨_, _, k⟩
    · exact hk.elim
  · intro hq; cases hq
  · have mm := @spec_l01Finite_main
    revert mm
    generalize bodyK Try.prog E_spec_l01Finite Try.f57 = Q
    intro mm args H K hk
    simp only [S_spec_l01Finite] at *
    unfold F_spec_l01Finite at *
    split at hk
    · exact mm _ H K hk
    · exact hk.elim

def p_spec_l02Finite_l1 (l_list : List Nat) : Nat → Bool → Int → Bool
  | 0, _, _ => false
  | μ + 1, t2, i => (bif decide ((i : Int) < (l_list.length : Int)) then (bif !((p_spec_l01Finite (((l_list).getD (i : Int).toNat 0)))) then false else (p_spec_l02Finite_l1 l_list μ t2 (i + 1))) else true)
theorem p_spec_l02Finite_l1_s (l_list : List Nat) (μ : Nat) (t2 : Bool) (i : Int) : p_spec_l02Finite_l1 l_list (μ + 1) t2 i = (bif decide ((i : Int) < (l_list.length : Int)) then (bif !((p_spec_l01Finite (((l_list).getD (i : Int).toNat 0)))) then false else (p_spec_l02Finite_l1 l_list μ t2 (i + 1))) else true) := rfl
def p_spec_l02Finite (l_list : List Nat) : Bool := (p_spec_l02Finite_l1 l_list (Int.toNat ((l_list.length : Int) - (0 : Int)) + 1) false (0 : Int))
theorem p_spec_l02Finite_eq (l_list : List Nat) : p_spec_l02Finite l_list = (p_spec_l02Finite_l1 l_list (Int.toNat ((l_list.length : Int) - (0 : Int)) + 1) false (0 : Int)) := rfl
def T_spec_l02Finite (list_a : Option Addr) (list_n : Nat) (list_e : Nat) (H : AHeap) (K : Bool → AHeap → Prop) : Prop := ∃ (l_list : List Nat), IsL fF H list_a list_n l_list ∧ l_list.length < 1073741824 ∧ K (p_spec_l02Finite l_list) H
theorem T_spec_l02Finite_i {list_a : Option Addr} {list_n : Nat} {list_e : Nat} {H : AHeap} {K : Bool → AHeap → Prop} (h : ∃ (l_list : List Nat), IsL fF H list_a list_n l_list ∧ l_list.length < 1073741824 ∧ K (p_spec_l02Finite l_list) H) : T_spec_l02Finite list_a list_n list_e H K := h

/-! spec_l02Finite: function 67 -/
def E_spec_l02Finite : Env := envOf [(57, S_spec_l01Finite)]
def F_spec_l02Finite : List Value → AHeap → (Value → AHeap → Prop) → Prop
  | [.slice list_a list_n list_e], H, K => T_spec_l02Finite list_a list_n list_e H fun (r1 : Bool) (H' : AHeap) => K (.bool r1) H'
  | _, _, _ => False
def S_spec_l02Finite : FSpec := { F := F_spec_l02Finite, quiet := true, tame := false }
theorem spec_l02Finite_vc (list_a : Option Addr) (list_n : Nat) (list_e : Nat) (H : AHeap) (K : Value → AHeap → Prop) : bodyK Try.prog E_spec_l02Finite Try.f67 [.slice list_a list_n list_e] H K =
  (loopK (exK Try.prog E_spec_l02Finite (cl (cl (cr (cl (cr (bodyC Try.f67))))))) [.slice list_a list_n list_e, undef, .bool false, .int .i64 0, undef, undef, undef, undef, undef, undef, undef, undef, undef, undef, undef, undef] H (blockQ 0 (seqQ (exK Try.prog E_spec_l02Finite (cr (cr (bodyC Try.f67)))) (retK Try.prog Try.f67 K)))) := by kernel_rfl
theorem spec_l02Finite_r1 (list_a : Option Addr) (list_e : Nat) (list_n : Nat) (t2 : Bool) (i : Int) (g4 g5 g6 g7 g8 g9 g10 g11 g12 g13 g14 g15 : Value) (H : AHeap) (R : Post) : exK Try.prog E_spec_l02Finite (cl (cl (cr (cl (cr (bodyC Try.f67)))))) [.slice list_a list_n list_e, undef, .bool t2, .int .i64 i, g4, g5, g6, g7, g8, g9, g10, g11, g12, g13, g14, g15] H R =
  (Br (decide ((i : Int) < (list_n : Int))) ((0 : Int) ≤ i ∧ i < (list_n : Int) ∧ ∃ b1 f1, (list_a : Option Addr) = some ⟨b1, f1, none⟩ ∧ ∃ x1 : Nat,  rdC H b1 (f1 + (i : Int).toNat * 1) = some (.float .f32 x1) ∧ T_spec_l01Finite x1 H fun (r1 : Bool) (H1 : AHeap) => Br (!r1) (R .ret [.slice list_a list_n list_e, undef, .bool false, .int .i64 i, .int .i64 i, .slice list_a list_n list_e, .int .i64 (list_n : Int), .bool (decide ((i : Int) < (list_n : Int))), g8, g9, .slice list_a list_n list_e, .int .i64 i, .pointer (some ⟨b1, f1 + (i : Int).toNat * 1, none⟩), .float .f32 x1, .bool r1, .bool (!r1)] H1) (R .normal [.slice list_a list_n list_e, undef, .bool t2, .int .i64 (IntKind.wrap .i64 (i + 1)), .int .i64 i, .slice list_a list_n list_e, .int .i64 (list_n : Int), .bool (decide ((i : Int) < (list_n : Int))), .int .i64 i, .int .i64 (IntKind.wrap .i64 (i + 1)), .slice list_a list_n list_e, .int .i64 i, .pointer (some ⟨b1, f1 + (i : Int).toNat * 1, none⟩), .float .f32 x1, .bool r1, .bool (!r1)] H1)) (R (.exit 0) [.slice list_a list_n list_e, undef, .bool t2, .int .i64 i, .int .i64 i, .slice list_a list_n list_e, .int .i64 (list_n : Int), .bool (decide ((i : Int) < (list_n : Int))), g8, g9, g10, g11, g12, g13, g14, g15] H)) := by kernel_rfl
def spec_l02Finite_I1 (list_a : Option Addr) (list_e : Nat) (list_n : Nat) (Inv : Nat → Bool → Int → AHeap → Prop) : Nat → List Value → AHeap → Prop := fun μ tm H => ∃ (t2 : Bool), ∃ (i : Int), ∃ g4 g5 g6 g7 g8 g9 g10 g11 g12 g13 g14 g15, tm = [.slice list_a list_n list_e, undef, .bool t2, .int .i64 i, g4, g5, g6, g7, g8, g9, g10, g11, g12, g13, g14, g15] ∧ Inv μ t2 i H
theorem spec_l02Finite_L1 (list_a : Option Addr) (list_e : Nat) (list_n : Nat) {Q : Post} (Inv : Nat → Bool → Int → AHeap → Prop) (ν : Nat) (t2 : Bool) (i : Int) (g4 g5 g6 g7 g8 g9 g10 g11 g12 g13 g14 g15 : Value) (H : AHeap) (h0 : Inv ν t2 i H)
    (hs : ∀ (μ : Nat) (t2 : Bool) (i : Int) (g4 g5 g6 g7 g8 g9 g10 g11 g12 g13 g14 g15 : Value) (H : AHeap), Inv μ t2 i H → exK Try.prog E_spec_l02Finite (cl (cl (cr (cl (cr (bodyC Try.f67)))))) [.slice list_a list_n list_e, undef, .bool t2, .int .i64 i, g4, g5, g6, g7, g8, g9, g10, g11, g12, g13, g14, g15] H (loopQ (spec_l02Finite_I1 list_a list_e list_n Inv) μ Q)) : loopK (exK Try.prog E_spec_l02Finite (cl (cl (cr (cl (cr (bodyC Try.f67))))))) [.slice list_a list_n list_e, undef, .bool t2, .int .i64 i, g4, g5, g6, g7, g8, g9, g10, g11, g12, g13, g14, g15] H Q :=
  ⟨spec_l02Finite_I1 list_a list_e list_n Inv, ν, ⟨t2, i, g4, g5, g6, g7, g8, g9, g10, g11, g12, g13, g14, g15, rfl, h0⟩, fun μ tm H h => by obtain ⟨t2, i, g4, g5, g6, g7, g8, g9, g10, g11, g12, g13, g14, g15, rfl, hI⟩ := h; exact hs μ t2 i g4 g5 g6 g7 g8 g9 g10 g11 g12 g13 g14 g15 H hI⟩
theorem spec_l02Finite_n1 {list_a : Option Addr} {list_e : Nat} {list_n : Nat} {Q : Post} {Inv : Nat → Bool → Int → AHeap → Prop} {μ : Nat} (μ' : Nat) {t2 : Bool} {i : Int} {g4 g5 g6 g7 g8 g9 g10 g11 g12 g13 g14 g15 : Value} {H : AHeap} (hm : μ' < μ) (hI : Inv μ' t2 i H) : loopQ (spec_l02Finite_I1 list_a list_e list_n Inv) μ Q .normal [.slice list_a list_n list_e, undef, .bool t2, .int .i64 i, g4, g5, g6, g7, g8, g9, g10, g11, g12, g13, g14, g15] H := ⟨μ', hm, t2, i, g4, g5, g6, g7, g8, g9, g10, g11, g12, g13, g14, g15, rfl, hI⟩
theorem spec_l02Finite_x1_0 (list_a : Option Addr) (list_e : Nat) (list_n : Nat) (t2 : Bool) (i : Int) (g4 g5 g6 g7 g8 g9 g10 g11 g12 g13 g14 g15 : Value) (H : AHeap) (K : Value → AHeap → Prop)  {I : Nat → List Value → AHeap → Prop} {μ : Nat} : loopQ I μ (blockQ 0 (seqQ (exK Try.prog E_spec_l02Finite (cr (cr (bodyC Try.f67)))) (retK Try.prog Try.f67 K))) (.exit 0) [.slice list_a list_n list_e, undef, .bool t2, .int .i64 i, g4, g5, g6, g7, g8, g9, g10, g11, g12, g13, g14, g15] H =
  (K (.bool true) H) := by kernel_rfl
theorem spec_l02Finite_x1_ret (list_a : Option Addr) (list_e : Nat) (list_n : Nat) (t2 : Bool) (i : Int) (g4 g5 g6 g7 g8 g9 g10 g11 g12 g13 g14 g15 : Value) (H : AHeap) (K : Value → AHeap → Prop)  {I : Nat → List Value → AHeap → Prop} {μ : Nat} : loopQ I μ (blockQ 0 (seqQ (exK Try.prog E_spec_l02Finite (cr (cr (bodyC Try.f67)))) (retK Try.prog Try.f67 K))) .ret [.slice list_a list_n list_e, undef, .bool t2, .int .i64 i, g4, g5, g6, g7, g8, g9, g10, g11, g12, g13, g14, g15] H =
  (K (.bool t2) H) := by kernel_rfl
theorem E_spec_l02Finite_ok : ∀ g, FnOk Try.prog g (E_spec_l02Finite g) := FnOk.envOf (by
  intro x hx
  simp only [List.mem_cons, List.not_mem_nil, or_false] at hx
  subst hx; exact spec_l01Finite_ok)
set_option maxHeartbeats 1000000 in
theorem spec_l02Finite_main (list_a : Option Addr) (list_n : Nat) (list_e : Nat) (H : AHeap) (K : Value → AHeap → Prop) (h : T_spec_l02Finite list_a list_n list_e H fun (r1 : Bool) (H' : AHeap) => K (.bool r1) H') : bodyK Try.prog E_spec_l02Finite Try.f67 [.slice list_a list_n list_e] H K := by
  rw [spec_l02Finite_vc]
  obtain ⟨l_list, i_list, bd_9, hk⟩ := h
  obtain rfl := i_list.eqn
  have e : (p_spec_l02Finite l_list) = _ := rfl
  have e := e.trans (p_spec_l02Finite_eq l_list)
  have g0 := Grow.refl H
  refine spec_l02Finite_L1 _ _ _ (fun (μ : Nat) (t2 : Bool) (i : Int) (H_1 : AHeap) => H = H_1 ∧ (0 : Int) ≤ i ∧ i ≤ (l_list.length : Int) ∧ (l_list.length : Int) - i ≤ (μ : Int) ∧ p_spec_l02Finite l_list = p_spec_l02Finite_l1 l_list (μ + 1) t2 i) (Int.toNat ((l_list.length : Int) - (0 : Int))) _ _ _ _ _ _ _ _ _ _ _ _ _ _ H ?_ ?_
  · exact ⟨rfl, (by first | omega | (simp; done) | (simp; omega)), (by first | omega | (simp; done) | (simp; omega)), (by omega), e⟩
  · intro μ t2 i g4 g5 g6 g7 g8 g9 g10 g11 g12 g13 g14 g15 H_1 hI
    obtain ⟨rfl, v_1, v_2, hμ, e⟩ := hI
    rw [spec_l02Finite_r1]
    have e := e.trans (p_spec_l02Finite_l1_s l_list μ t2 i)
    have l_3 := g0.1
    refine Br.intro (fun c_4 => ?_) (fun c_4 => ?_)
    · have e := e.trans (cond_t c_4)
      have c_4' := of_decide_eq_true c_4
      obtain ⟨b_5, f_6, q_7⟩ := ((i_list.grow g0)).pos (by first | omega | (simp only [List.length_set, List.length_replicate, List.length_append, List.length_cons, List.length_nil, List.length_take, List.length_drop, marks_length]; done) | (simp only [List.length_set, List.length_replicate, List.length_append, List.length_cons, List.length_nil, List.length_take, List.length_drop, marks_length]; omega))
      refine ⟨by omega, by omega, b_5, f_6, q_7, ?_⟩
      refine ⟨((l_list).getD (i : Int).toNat 0), (i_list).rd g0 q_7 (by omega) _, ?_⟩
      refine T_spec_l01Finite_i ?_
      refine Br.intro (fun c_8 => ?_) (fun c_8 => ?_)
      · have e := e.trans (cond_t c_8)
        have c_8n := nf_of_t c_8
        rw [spec_l02Finite_x1_ret]
        rw [e] at hk
        exact hk
      · have e := e.trans (cond_f c_8)
        have c_8n := nt_of_f c_8
        rw [show IntKind.wrap .i64 (i + 1) = (i + 1) from wrap64 (by omega) (by omega)]
        refine spec_l02Finite_n1 (μ - 1) (by first | omega) ⟨rfl, (by first | omega | (simp only [List.length_append, List.length_cons, List.length_nil, List.length_set]; done) | (simp only [List.length_append, List.length_cons, List.length_nil, List.length_set]; omega)), (by first | omega | (simp only [List.length_append, List.length_cons, List.length_nil, List.length_set]; done) | (simp only [List.length_append, List.length_cons, List.length_nil, List.length_set]; omega)), (by first | omega), (by rw [show μ - 1 + 1 = μ from by first | omega]; exact e)⟩
    · have e := e.trans (cond_f c_4)
      have c_4' := of_decide_eq_false c_4
      rw [spec_l02Finite_x1_0]
      rw [e] at hk
      exact hk
theorem spec_l02Finite_ok : FnOk Try.prog 67 S_spec_l02Finite := by
  refine FnOk.body mix_ok E_spec_l02Finite_ok Try.func67 rfl (by kernel_rfl) (by kernel_rfl) ?_ ?_ ?_ ?_ ?_
  · intro args H K K' h hk
    simp only [S_spec_l02Finite] at *
    unfold F_spec_l02Finite at *
    split at hk
    · obtain ⟨l_list, i_list, bd_9, k⟩ := hk
      exact ⟨l_list, i_list, bd_9, h _ _ k⟩
    · exact hk.elim
  · intro _ args H K hk
    simp only [S_spec_l02Finite] at *
    unfold F_spec_l02Finite at *
    split at hk
    · obtain ⟨l_list, i_list, bd_9, k⟩ := hk
      exact ⟨_, k, fun K' k' => ⟨l_list, i_list, bd_9, k'⟩⟩
    · exact hk.elim
  · intro args H K hk
    simp only [S_spec_l02Finite] at *
    unfold F_spec_l02Finite at *
    split at hk
    · obtain ⟨l_list, i_list, bd_9, k⟩ := hk
      exact ⟨_, _, k⟩
    · exact hk.elim
  · intro hq; cases hq
  · have mm := @spec_l02Finite_main
    revert mm
    generalize bodyK Try.prog E_spec_l02Finite Try.f67 = Q
    intro mm args H K hk
    simp only [S_spec_l02Finite] at *
    unfold F_spec_l02Finite at *
    split at hk
    · exact mm _ _ _ H K hk
    · exact hk.elim

def p_spec_l03Long (l_list : List Nat) : Bool := (bif decide ((1 : Int) ≤ (l_list.length : Int)) then (bif decide (((l_list.length : Int) : Int) ≤ 128) then (p_spec_l02Finite l_list) else false) else false)
theorem p_spec_l03Long_eq (l_list : List Nat) : p_spec_l03Long l_list = (bif decide ((1 : Int) ≤ (l_list.length : Int)) then (bif decide (((l_list.length : Int) : Int) ≤ 128) then (p_spec_l02Finite l_list) else false) else false) := rfl
def T_spec_l03Long (list_a : Option Addr) (list_n : Nat) (list_e : Nat) (H : AHeap) (K : Bool → AHeap → Prop) : Prop := ∃ (l_list : List Nat), IsL fF H list_a list_n l_list ∧ l_list.length < 1073741824 ∧ K (p_spec_l03Long l_list) H
theorem T_spec_l03Long_i {list_a : Option Addr} {list_n : Nat} {list_e : Nat} {H : AHeap} {K : Bool → AHeap → Prop} (h : ∃ (l_list : List Nat), IsL fF H list_a list_n l_list ∧ l_list.length < 1073741824 ∧ K (p_spec_l03Long l_list) H) : T_spec_l03Long list_a list_n list_e H K := h
theorem spec_l03Long_t {l : List Nat} (h : p_spec_l03Long l = true) : 1 ≤ (l.length : Int) ∧ (l.length : Int) ≤ 128 := by
  rw [p_spec_l03Long_eq] at h
  by_cases h1 : (1 : Int) ≤ (l.length : Int)
  · rw [decide_eq_true h1, cond_true] at h
    by_cases h2 : (l.length : Int) ≤ 128
    · exact ⟨h1, h2⟩
    · rw [decide_eq_false h2] at h; cases h
  · rw [decide_eq_false h1] at h; cases h
/-! spec_l03Long: function 56 -/
def E_spec_l03Long : Env := envOf [(67, S_spec_l02Finite)]
def F_spec_l03Long : List Value → AHeap → (Value → AHeap → Prop) → Prop
  | [.slice list_a list_n list_e], H, K => T_spec_l03Long list_a list_n list_e H fun (r1 : Bool) (H' : AHeap) => K (.bool r1) H'
  | _, _, _ => False
def S_spec_l03Long : FSpec := { F := F_spec_l03Long, quiet := true, tame := false }
theorem spec_l03Long_vc (list_a : Option Addr) (list_n : Nat) (list_e : Nat) (H : AHeap) (K : Value → AHeap → Prop) : bodyK Try.prog E_spec_l03Long Try.f56 [.slice list_a list_n list_e] H K =
  (Br (decide ((1 : Int) ≤ (list_n : Int))) (Br (decide (((list_n : Int) : Int) ≤ 128)) (T_spec_l02Finite list_a list_n list_e H fun (r1 : Bool) (H1 : AHeap) => K (.bool r1) H1) (K (.bool false) H)) (K (.bool false) H)) := by kernel_rfl
theorem E_spec_l03Long_ok : ∀ g, FnOk Try.prog g (E_spec_l03Long g) := FnOk.envOf (by
  intro x hx
  simp only [List.mem_cons, List.not_mem_nil, or_false] at hx
  subst hx; exact spec_l02Finite_ok)
set_option maxHeartbeats 1000000 in
theorem spec_l03Long_main (list_a : Option Addr) (list_n : Nat) (list_e : Nat) (H : AHeap) (K : Value → AHeap → Prop) (h : T_spec_l03Long list_a list_n list_e H fun (r1 : Bool) (H' : AHeap) => K (.bool r1) H') : bodyK Try.prog E_spec_l03Long Try.f56 [.slice list_a list_n list_e] H K := by
  rw [spec_l03Long_vc]
  obtain ⟨l_list, i_list, bd_3, hk⟩ := h
  obtain rfl := i_list.eqn
  have e : (p_spec_l03Long l_list) = _ := rfl
  have e := e.trans (p_spec_l03Long_eq l_list)
  have g0 := Grow.refl H
  refine Br.intro (fun c_1 => ?_) (fun c_1 => ?_)
  · have e := e.trans (cond_t c_1)
    have c_1' := of_decide_eq_true c_1
    refine Br.intro (fun c_2 => ?_) (fun c_2 => ?_)
    · have e := e.trans (cond_t c_2)
      have c_2' := of_decide_eq_true c_2
      refine T_spec_l02Finite_i ⟨_, (i_list.grow g0), (by first | omega | (simp only [List.length_set, List.length_replicate, List.length_append, List.length_cons, List.length_nil, List.length_take, List.length_drop, marks_length]; done) | (simp only [List.length_set, List.length_replicate, List.length_append, List.length_cons, List.length_nil, List.length_take, List.length_drop, marks_length]; omega)), ?_⟩
      rw [e] at hk
      exact hk
    · have e := e.trans (cond_f c_2)
      have c_2' := of_decide_eq_false c_2
      rw [e] at hk
      exact hk
  · have e := e.trans (cond_f c_1)
    have c_1' := of_decide_eq_false c_1
    rw [e] at hk
    exact hk
theorem spec_l03Long_ok : FnOk Try.prog 56 S_spec_l03Long := by
  refine FnOk.body mix_ok E_spec_l03Long_ok Try.func56 rfl (by kernel_rfl) (by kernel_rfl) ?_ ?_ ?_ ?_ ?_
  · intro args H K K' h hk
    simp only [S_spec_l03Long] at *
    unfold F_spec_l03Long at *
    split at hk
    · obtain ⟨l_list, i_list, bd_3, k⟩ := hk
      exact ⟨l_list, i_list, bd_3, h _ _ k⟩
    · exact hk.elim
  · intro _ args H K hk
    simp only [S_spec_l03Long] at *
    unfold F_spec_l03Long at *
    split at hk
    · obtain ⟨l_list, i_list, bd_3, k⟩ := hk
      exact ⟨_, k, fun K' k' => ⟨l_list, i_list, bd_3, k'⟩⟩
    · exact hk.elim
  · intro args H K hk
    simp only [S_spec_l03Long] at *
    unfold F_spec_l03Long at *
    split at hk
    · obtain ⟨l_list, i_list, bd_3, k⟩ := hk
      exact ⟨_, _, k⟩
    · exact hk.elim
  · intro hq; cases hq
  · have mm := @spec_l03Long_main
    revert mm
    generalize bodyK Try.prog E_spec_l03Long Try.f56 = Q
    intro mm args H K hk
    simp only [S_spec_l03Long] at *
    unfold F_spec_l03Long at *
    split at hk
    · exact mm _ _ _ H K hk
    · exact hk.elim

def p_spec_l05Sorted_l2 (l_list : List Nat) (l_vout : List Nat) (t11 : Int) (k2_2 : (List Nat) → Bool → Int → (List Nat)) : Nat → (List Nat) → Bool → Int → (List Nat)
  | 0, _, _, _ => []
  | μ2 + 1, l_next, put, t17 => (bif decide ((t17 : Int) < (l_vout.length : Int)) then (bif !put then (bif flt .f32 (((l_list).getD (t11 : Int).toNat 0)) (((l_vout).getD (t17 : Int).toNat 0)) then (p_spec_l05Sorted_l2 l_list l_vout t11 k2_2 μ2 (((l_next ++ [(((l_list).getD (t11 : Int).toNat 0))]) ++ [(((l_vout).getD (t17 : Int).toNat 0))])) true (t17 + 1)) else (p_spec_l05Sorted_l2 l_list l_vout t11 k2_2 μ2 ((l_next ++ [(((l_vout).getD (t17 : Int).toNat 0))])) put (t17 + 1))) else (p_spec_l05Sorted_l2 l_list l_vout t11 k2_2 μ2 ((l_next ++ [(((l_vout).getD (t17 : Int).toNat 0))])) put (t17 + 1))) else (k2_2 l_next put t17))
theorem p_spec_l05Sorted_l2_s (l_list : List Nat) (l_vout : List Nat) (t11 : Int) (k2_2 : (List Nat) → Bool → Int → (List Nat)) (μ2 : Nat) (l_next : List Nat) (put : Bool) (t17 : Int) : p_spec_l05Sorted_l2 l_list l_vout t11 k2_2 (μ2 + 1) l_next put t17 = (bif decide ((t17 : Int) < (l_vout.length : Int)) then (bif !put then (bif flt .f32 (((l_list).getD (t11 : Int).toNat 0)) (((l_vout).getD (t17 : Int).toNat 0)) then (p_spec_l05Sorted_l2 l_list l_vout t11 k2_2 μ2 (((l_next ++ [(((l_list).getD (t11 : Int).toNat 0))]) ++ [(((l_vout).getD (t17 : Int).toNat 0))])) true (t17 + 1)) else (p_spec_l05Sorted_l2 l_list l_vout t11 k2_2 μ2 ((l_next ++ [(((l_vout).getD (t17 : Int).toNat 0))])) put (t17 + 1))) else (p_spec_l05Sorted_l2 l_list l_vout t11 k2_2 μ2 ((l_next ++ [(((l_vout).getD (t17 : Int).toNat 0))])) put (t17 + 1))) else (k2_2 l_next put t17)) := rfl
def p_spec_l05Sorted_l1 (l_list : List Nat) : Nat → (List Nat) → Int → (List Nat)
  | 0, _, _ => []
  | μ + 1, l_vout, t11 => (bif decide ((t11 : Int) < (l_list.length : Int)) then (p_spec_l05Sorted_l2 l_list l_vout t11 (fun (l_next : List Nat) (put : Bool) (t17 : Int) => (bif !put then (p_spec_l05Sorted_l1 l_list μ ((l_next ++ [(((l_list).getD (t11 : Int).toNat 0))])) (t11 + 1)) else (p_spec_l05Sorted_l1 l_list μ l_next (t11 + 1)))) (Int.toNat ((l_vout.length : Int) - (0 : Int)) + 1) ([] : List Nat) false (0 : Int)) else l_vout)
theorem p_spec_l05Sorted_l1_s (l_list : List Nat) (μ : Nat) (l_vout : List Nat) (t11 : Int) : p_spec_l05Sorted_l1 l_list (μ + 1) l_vout t11 = (bif decide ((t11 : Int) < (l_list.length : Int)) then (p_spec_l05Sorted_l2 l_list l_vout t11 (fun (l_next : List Nat) (put : Bool) (t17 : Int) => (bif !put then (p_spec_l05Sorted_l1 l_list μ ((l_next ++ [(((l_list).getD (t11 : Int).toNat 0))])) (t11 + 1)) else (p_spec_l05Sorted_l1 l_list μ l_next (t11 + 1)))) (Int.toNat ((l_vout.length : Int) - (0 : Int)) + 1) ([] : List Nat) false (0 : Int)) else l_vout) := rfl
def p_spec_l05Sorted (l_list : List Nat) : (List Nat) := (p_spec_l05Sorted_l1 l_list (Int.toNat ((l_list.length : Int) - (0 : Int)) + 1) ([] : List Nat) (0 : Int))
theorem p_spec_l05Sorted_eq (l_list : List Nat) : p_spec_l05Sorted l_list = (p_spec_l05Sorted_l1 l_list (Int.toNat ((l_list.length : Int) - (0 : Int)) + 1) ([] : List Nat) (0 : Int)) := rfl
def T_spec_l05Sorted (list_a : Option Addr) (list_n : Nat) (list_e : Nat) (H : AHeap) (K : (Option Addr) → Nat → Nat → AHeap → Prop) : Prop := ∃ (l_list : List Nat), IsL fF H list_a list_n l_list ∧ l_list.length < 1073741824 ∧ ((∀ (r1_a : Option Addr) (r1_n r1_e : Nat), ∀ H' : AHeap, Grow H H' → OwnS fF H' H.length r1_a r1_n r1_e (p_spec_l05Sorted l_list) → K r1_a r1_n r1_e H'))
theorem T_spec_l05Sorted_i {list_a : Option Addr} {list_n : Nat} {list_e : Nat} {H : AHeap} {K : (Option Addr) → Nat → Nat → AHeap → Prop} (h : ∃ (l_list : List Nat), IsL fF H list_a list_n l_list ∧ l_list.length < 1073741824 ∧ ((∀ (r1_a : Option Addr) (r1_n r1_e : Nat), ∀ H' : AHeap, Grow H H' → OwnS fF H' H.length r1_a r1_n r1_e (p_spec_l05Sorted l_list) → K r1_a r1_n r1_e H'))) : T_spec_l05Sorted list_a list_n list_e H K := h
def sins (x : Nat) : List Nat → List Nat
  | [] => [x]
  | y :: r => bif flt .f32 x y then x :: y :: r else y :: sins x r
theorem sins_length (x : Nat) : ∀ l : List Nat, (sins x l).length = l.length + 1
  | [] => rfl
  | y :: r => by
    unfold sins
    cases flt .f32 x y
    · rw [cond_false, List.length_cons, sins_length x r, List.length_cons]
    · rw [cond_true]; rfl
theorem l05Sorted_in2 (l out : List Nat) (t : Int) (k : List Nat → Bool → Int → List Nat) (g : List Nat → List Nat) (hk : ∀ n j, k n true j = g n) : ∀ (μ : Nat) (i : Nat) (next : List Nat), out.length - i < μ →
    p_spec_l05Sorted_l2 l out t k μ next true (i : Int) = g (next ++ out.drop i) := by
  intro μ
  induction μ with
  | zero => intro i next h; omega
  | succ μ ih =>
    intro i next hm
    rw [p_spec_l05Sorted_l2_s]
    by_cases h : i < out.length
    · rw [decide_eq_true (show (i : Int) < (out.length : Int) by omega), cond_true, Bool.not_true, cond_false, Int.toNat_natCast]
      have := ih (i + 1) (next ++ [out.getD i 0]) (by omega)
      rw [show ((i + 1 : Nat) : Int) = (i : Int) + 1 by omega] at this
      rw [this, List.drop_eq_getElem_cons h, List.getD_eq_getElem?_getD, List.getElem?_eq_getElem h, Option.getD_some, List.append_assoc]; rfl
    · rw [decide_eq_false (show ¬ (i : Int) < (out.length : Int) by omega), cond_false, hk, List.drop_eq_nil_of_le (by omega), List.append_nil]
theorem l05Sorted_in (l out : List Nat) (t : Int) (k : List Nat → Bool → Int → List Nat) (g : List Nat → List Nat) (hk : ∀ n j, k n true j = g n) (hk2 : ∀ n j, k n false j = g (n ++ [l.getD t.toNat 0])) : ∀ (μ : Nat) (i : Nat) (next : List Nat), out.length - i < μ →
    p_spec_l05Sorted_l2 l out t k μ next false (i : Int) = g (next ++ sins (l.getD t.toNat 0) (out.drop i)) := by
  intro μ
  induction μ with
  | zero => intro i next h; omega
  | succ μ ih =>
    intro i next hm
    rw [p_spec_l05Sorted_l2_s]
    by_cases h : i < out.length
    · rw [decide_eq_true (show (i : Int) < (out.length : Int) by omega), cond_true, Bool.not_false, cond_true, Int.toNat_natCast]
      have e1 : out.getD i 0 = out[i] := by rw [List.getD_eq_getElem?_getD, List.getElem?_eq_getElem h, Option.getD_some]
      rw [List.drop_eq_getElem_cons h, e1]
      unfold sins
      cases flt .f32 (l.getD t.toNat 0) out[i]
      · rw [cond_false, cond_false]
        have := ih (i + 1) (next ++ [out[i]]) (by omega)
        rw [show ((i + 1 : Nat) : Int) = (i : Int) + 1 by omega] at this
        rw [this, List.append_assoc]; rfl
      · rw [cond_true, cond_true]
        have := l05Sorted_in2 l out t k g hk μ (i + 1) (next ++ [l.getD t.toNat 0] ++ [out[i]]) (by omega)
        rw [show ((i + 1 : Nat) : Int) = (i : Int) + 1 by omega] at this
        rw [this, List.append_assoc, List.append_assoc]; rfl
    · rw [decide_eq_false (show ¬ (i : Int) < (out.length : Int) by omega), cond_false, hk2, List.drop_eq_nil_of_le (by omega)]; rfl
theorem l05Sorted_out (l : List Nat) : ∀ (μ : Nat) (i : Nat) (out : List Nat), l.length - i < μ → p_spec_l05Sorted_l1 l μ out (i : Int) = (l.drop i).foldl (fun o x => sins x o) out := by
  intro μ
  induction μ with
  | zero => intro i out h; omega
  | succ μ ih =>
    intro i out hm
    rw [p_spec_l05Sorted_l1_s]
    by_cases h : i < l.length
    · rw [decide_eq_true (show (i : Int) < (l.length : Int) by omega), cond_true]
      have := l05Sorted_in l out i (g := fun n => p_spec_l05Sorted_l1 l μ n ((i : Int) + 1)) (k := fun (l_next : List Nat) (put : Bool) (t17 : Int) => (bif !put then (p_spec_l05Sorted_l1 l μ ((l_next ++ [(((l).getD ((i : Int) : Int).toNat 0))])) ((i : Int) + 1)) else (p_spec_l05Sorted_l1 l μ l_next ((i : Int) + 1))))
        (fun n j => by rw [Bool.not_true, cond_false]) (fun n j => by rw [Bool.not_false, cond_true]) (Int.toNat ((out.length : Int) - (0 : Int)) + 1) 0 [] (by omega)
      refine Eq.trans this ?_
      have h2 := ih (i + 1) ([] ++ sins (l.getD (i : Int).toNat 0) (out.drop 0)) (by omega)
      rw [show ((i + 1 : Nat) : Int) = (i : Int) + 1 by omega] at h2
      rw [h2, List.drop_eq_getElem_cons h, List.foldl_cons, List.drop_zero, List.nil_append, Int.toNat_natCast, List.getD_eq_getElem?_getD, List.getElem?_eq_getElem h, Option.getD_some]
    · rw [decide_eq_false (show ¬ (i : Int) < (l.length : Int) by omega), cond_false, List.drop_eq_nil_of_le (by omega)]; rfl
theorem l05Sorted_fold (l : List Nat) : p_spec_l05Sorted l = l.foldl (fun o x => sins x o) [] := by
  rw [p_spec_l05Sorted_eq]
  have := l05Sorted_out l (Int.toNat ((l.length : Int) - (0 : Int)) + 1) 0 [] (by omega)
  simpa using this
theorem fold_sins_length : ∀ (l out : List Nat), (l.foldl (fun o x => sins x o) out).length = out.length + l.length
  | [], out => rfl
  | x :: l, out => by rw [List.foldl_cons, fold_sins_length l, sins_length, List.length_cons]; omega
theorem l05Sorted_len (l : List Nat) : (p_spec_l05Sorted l).length = l.length := by rw [l05Sorted_fold, fold_sins_length]; simp
theorem sins_split {x : Nat} (hx : (FloatKind.f32.format.read x).isNaN = false) : ∀ (out : List Nat), So.Asc kappa out → (∀ y ∈ out, (FloatKind.f32.format.read y).isNaN = false) →
    ∃ A B, out = A ++ B ∧ sins x out = A ++ [x] ++ B ∧ (∀ y ∈ A, kappa y ≤ kappa x) ∧ ∀ y ∈ B, kappa x < kappa y := by
  intro out
  induction out with
  | nil => intro _ _; exact ⟨[], [], rfl, rfl, by simp, by simp⟩
  | cons y r ih =>
    intro ha hn
    unfold sins
    rw [flt_kappa hx (hn y (by simp))]
    by_cases h : kappa x < kappa y
    · rw [decide_eq_true h, cond_true]
      refine ⟨[], y :: r, rfl, rfl, by simp, fun z hz => ?_⟩
      rcases List.mem_cons.1 hz with e | hz
      · rw [e]; exact h
      · have := (List.pairwise_cons.1 ha).1 z hz; omega
    · rw [decide_eq_false h, cond_false]
      obtain ⟨A, B, e1, e2, h1, h2⟩ := ih (List.pairwise_cons.1 ha).2 (fun z hz => hn z (by simp [hz]))
      refine ⟨y :: A, B, by rw [e1]; rfl, by rw [e2]; rfl, fun z hz => ?_, h2⟩
      rcases List.mem_cons.1 hz with e | hz
      · rw [e]; omega
      · exact h1 z hz
theorem fold_sins_ss : ∀ (l pre out : List Nat), (∀ y ∈ pre ++ l, (FloatKind.f32.format.read y).isNaN = false) → So.SS kappa pre out → So.SS kappa (pre ++ l) (l.foldl (fun o x => sins x o) out)
  | [], pre, out, _, h => by simpa using h
  | x :: l, pre, out, hn, h => by
    rw [List.foldl_cons, show pre ++ x :: l = (pre ++ [x]) ++ l by simp]
    refine fold_sins_ss l (pre ++ [x]) (sins x out) (by simpa using hn) ?_
    obtain ⟨A, B, e1, e2, h1, h2⟩ := sins_split (hn x (by simp)) out h.asc (fun y hy => hn y (List.mem_append_left _ ((h.stab.mem y).1 hy)))
    have := So.SS.insert (κ := kappa) (A := A) (B := B) (x := x) (by rw [← e1]; exact h.asc) h1 h2
    rw [e2]
    refine So.SS.behind ?_ this
    rw [← e1]
    exact h.stab.app (So.Stab.refl [x])
/-- The reference's sorting sorts, and keeps equals in order. -/
theorem l05Sorted_ss (l : List Nat) (h : ∀ y ∈ l, (FloatKind.f32.format.read y).isNaN = false) : So.SS kappa l (p_spec_l05Sorted l) := by
  rw [l05Sorted_fold]
  have := fold_sins_ss l [] [] (by simpa using h) (So.SS.refl So.Asc.nil)
  simpa using this
/-! spec_l05Sorted: function 126 -/
def E_spec_l05Sorted : Env := envOf []
def F_spec_l05Sorted : List Value → AHeap → (Value → AHeap → Prop) → Prop
  | [.slice list_a list_n list_e], H, K => T_spec_l05Sorted list_a list_n list_e H fun (r1_a : Option Addr) (r1_n : Nat) (r1_e : Nat) (H' : AHeap) => K (.slice r1_a r1_n r1_e) H'
  | _, _, _ => False
def S_spec_l05Sorted : FSpec := { F := F_spec_l05Sorted, quiet := false, tame := true }
theorem spec_l05Sorted_vc (list_a : Option Addr) (list_n : Nat) (list_e : Nat) (H : AHeap) (K : Value → AHeap → Prop) : bodyK Try.prog E_spec_l05Sorted Try.f126 [.slice list_a list_n list_e] H K =
  (Al [] H fun b1 H1 => loopK (exK Try.prog E_spec_l05Sorted (cl (cl (cr (cl (cr (cr (bodyC Try.f126)))))))) [.slice list_a list_n list_e, undef, .slice none 0 0, .slice (some ⟨b1, 0, none⟩) 0 1, undef, undef, undef, undef, .slice (some ⟨b1, 0, none⟩) 0 1, .slice list_a list_n list_e, .int .i64 (list_n : Int), .int .i64 0, undef, undef, undef, undef, undef, undef, undef, undef, undef, undef, undef, undef, undef, undef, undef, undef, undef, undef, undef, undef, undef, undef, undef, undef, undef, undef, undef, undef, undef, undef, undef, undef, undef, undef, undef, undef, undef, undef, undef, undef, undef, undef, undef, undef, undef, undef, undef, undef] H1 (blockQ 0 (seqQ (exK Try.prog E_spec_l05Sorted (cr (cr (cr (bodyC Try.f126))))) (retK Try.prog Try.f126 K)))) := by kernel_rfl
theorem spec_l05Sorted_r1 (b1 : Nat) (list_a : Option Addr) (list_e : Nat) (list_n : Nat) (vout_a : Option Addr) (vout_n : Nat) (vout_e : Nat) (t11 : Int) (g4 g5 g6 g7 g12 g13 g14 g15 g16 g17 g18 g19 g20 g21 g22 g23 g24 g25 g26 g27 g28 g29 g30 g31 g32 g33 g34 g35 g36 g37 g38 g39 g40 g41 g42 g43 g44 g45 g46 g47 g48 g49 g50 g51 g52 g53 g54 g55 g56 g57 g58 : Value) (H : AHeap) (R : Post) : exK Try.prog E_spec_l05Sorted (cl (cl (cr (cl (cr (cr (bodyC Try.f126))))))) [.slice list_a list_n list_e, undef, .slice none 0 0, .slice vout_a vout_n vout_e, g4, g5, g6, g7, .slice (some ⟨b1, 0, none⟩) 0 1, .slice list_a list_n list_e, .int .i64 (list_n : Int), .int .i64 t11, g12, g13, g14, g15, g16, g17, g18, g19, g20, g21, g22, g23, g24, g25, g26, g27, g28, g29, g30, g31, g32, g33, g34, g35, g36, g37, g38, g39, g40, g41, g42, g43, g44, g45, g46, g47, g48, g49, g50, g51, g52, g53, g54, g55, g56, g57, g58, undef] H R =
  (Br (decide ((t11 : Int) < (list_n : Int))) (Al [] H fun b2 H2 => loopK (exK Try.prog E_spec_l05Sorted (cl (cl (cr (cl (cr (cr (cr (cl (cl (cr (cr (cl (cl (cr (cl (cr (cr (bodyC Try.f126))))))))))))))))))) [.slice list_a list_n list_e, undef, .slice none 0 0, .slice vout_a vout_n vout_e, .int .i64 t11, .slice (some ⟨b2, 0, none⟩) 0 1, .bool false, g7, .slice (some ⟨b1, 0, none⟩) 0 1, .slice list_a list_n list_e, .int .i64 (list_n : Int), .int .i64 t11, .bool (decide ((t11 : Int) < (list_n : Int))), .int .i64 t11, .slice (some ⟨b2, 0, none⟩) 0 1, .slice vout_a vout_n vout_e, .int .i64 (vout_n : Int), .int .i64 0, g18, g19, g20, g21, g22, g23, g24, g25, g26, g27, g28, g29, g30, g31, g32, g33, g34, g35, g36, g37, g38, g39, g40, g41, g42, g43, g44, g45, g46, g47, g48, g49, g50, g51, g52, g53, g54, g55, g56, g57, g58, undef] H2 (blockQ 2 (seqQ (exK Try.prog E_spec_l05Sorted (cr (cr (cr (cr (cl (cl (cr (cr (cl (cl (cr (cl (cr (cr (bodyC Try.f126)))))))))))))))) (blockQ 1 (seqQ (exK Try.prog E_spec_l05Sorted (cr (cr (cr (cl (cl (cr (cl (cr (cr (bodyC Try.f126))))))))))) (R)))))) (R (.exit 0) [.slice list_a list_n list_e, undef, .slice none 0 0, .slice vout_a vout_n vout_e, g4, g5, g6, g7, .slice (some ⟨b1, 0, none⟩) 0 1, .slice list_a list_n list_e, .int .i64 (list_n : Int), .int .i64 t11, .bool (decide ((t11 : Int) < (list_n : Int))), g13, g14, g15, g16, g17, g18, g19, g20, g21, g22, g23, g24, g25, g26, g27, g28, g29, g30, g31, g32, g33, g34, g35, g36, g37, g38, g39, g40, g41, g42, g43, g44, g45, g46, g47, g48, g49, g50, g51, g52, g53, g54, g55, g56, g57, g58, undef] H)) := by kernel_rfl
def spec_l05Sorted_I1 (b1 : Nat) (list_a : Option Addr) (list_e : Nat) (list_n : Nat) (Inv : Nat → (Option Addr) → Nat → Nat → Int → AHeap → Prop) : Nat → List Value → AHeap → Prop := fun μ tm H => ∃ (vout_a : Option Addr), ∃ (vout_n : Nat), ∃ (vout_e : Nat), ∃ (t11 : Int), ∃ g4 g5 g6 g7 g12 g13 g14 g15 g16 g17 g18 g19 g20 g21 g22 g23 g24 g25 g26 g27 g28 g29 g30 g31 g32 g33 g34 g35 g36 g37 g38 g39 g40 g41 g42 g43 g44 g45 g46 g47 g48 g49 g50 g51 g52 g53 g54 g55 g56 g57 g58, tm = [.slice list_a list_n list_e, undef, .slice none 0 0, .slice vout_a vout_n vout_e, g4, g5, g6, g7, .slice (some ⟨b1, 0, none⟩) 0 1, .slice list_a list_n list_e, .int .i64 (list_n : Int), .int .i64 t11, g12, g13, g14, g15, g16, g17, g18, g19, g20, g21, g22, g23, g24, g25, g26, g27, g28, g29, g30, g31, g32, g33, g34, g35, g36, g37, g38, g39, g40, g41, g42, g43, g44, g45, g46, g47, g48, g49, g50, g51, g52, g53, g54, g55, g56, g57, g58, undef] ∧ Inv μ vout_a vout_n vout_e t11 H
theorem spec_l05Sorted_L1 (b1 : Nat) (list_a : Option Addr) (list_e : Nat) (list_n : Nat) {Q : Post} (Inv : Nat → (Option Addr) → Nat → Nat → Int → AHeap → Prop) (ν : Nat) (vout_a : Option Addr) (vout_n : Nat) (vout_e : Nat) (t11 : Int) (g4 g5 g6 g7 g12 g13 g14 g15 g16 g17 g18 g19 g20 g21 g22 g23 g24 g25 g26 g27 g28 g29 g30 g31 g32 g33 g34 g35 g36 g37 g38 g39 g40 g41 g42 g43 g44 g45 g46 g47 g48 g49 g50 g51 g52 g53 g54 g55 g56 g57 g58 : Value) (H : AHeap) (h0 : Inv ν vout_a vout_n vout_e t11 H)
    (hs : ∀ (μ : Nat) (vout_a : Option Addr) (vout_n : Nat) (vout_e : Nat) (t11 : Int) (g4 g5 g6 g7 g12 g13 g14 g15 g16 g17 g18 g19 g20 g21 g22 g23 g24 g25 g26 g27 g28 g29 g30 g31 g32 g33 g34 g35 g36 g37 g38 g39 g40 g41 g42 g43 g44 g45 g46 g47 g48 g49 g50 g51 g52 g53 g54 g55 g56 g57 g58 : Value) (H : AHeap), Inv μ vout_a vout_n vout_e t11 H → exK Try.prog E_spec_l05Sorted (cl (cl (cr (cl (cr (cr (bodyC Try.f126))))))) [.slice list_a list_n list_e, undef, .slice none 0 0, .slice vout_a vout_n vout_e, g4, g5, g6, g7, .slice (some ⟨b1, 0, none⟩) 0 1, .slice list_a list_n list_e, .int .i64 (list_n : Int), .int .i64 t11, g12, g13, g14, g15, g16, g17, g18, g19, g20, g21, g22, g23, g24, g25, g26, g27, g28, g29, g30, g31, g32, g33, g34, g35, g36, g37, g38, g39, g40, g41, g42, g43, g44, g45, g46, g47, g48, g49, g50, g51, g52, g53, g54, g55, g56, g57, g58, undef] H (loopQ (spec_l05Sorted_I1 b1 list_a list_e list_n Inv) μ Q)) : loopK (exK Try.prog E_spec_l05Sorted (cl (cl (cr (cl (cr (cr (bodyC Try.f126)))))))) [.slice list_a list_n list_e, undef, .slice none 0 0, .slice vout_a vout_n vout_e, g4, g5, g6, g7, .slice (some ⟨b1, 0, none⟩) 0 1, .slice list_a list_n list_e, .int .i64 (list_n : Int), .int .i64 t11, g12, g13, g14, g15, g16, g17, g18, g19, g20, g21, g22, g23, g24, g25, g26, g27, g28, g29, g30, g31, g32, g33, g34, g35, g36, g37, g38, g39, g40, g41, g42, g43, g44, g45, g46, g47, g48, g49, g50, g51, g52, g53, g54, g55, g56, g57, g58, undef] H Q :=
  ⟨spec_l05Sorted_I1 b1 list_a list_e list_n Inv, ν, ⟨vout_a, vout_n, vout_e, t11, g4, g5, g6, g7, g12, g13, g14, g15, g16, g17, g18, g19, g20, g21, g22, g23, g24, g25, g26, g27, g28, g29, g30, g31, g32, g33, g34, g35, g36, g37, g38, g39, g40, g41, g42, g43, g44, g45, g46, g47, g48, g49, g50, g51, g52, g53, g54, g55, g56, g57, g58, rfl, h0⟩, fun μ tm H h => by obtain ⟨vout_a, vout_n, vout_e, t11, g4, g5, g6, g7, g12, g13, g14, g15, g16, g17, g18, g19, g20, g21, g22, g23, g24, g25, g26, g27, g28, g29, g30, g31, g32, g33, g34, g35, g36, g37, g38, g39, g40, g41, g42, g43, g44, g45, g46, g47, g48, g49, g50, g51, g52, g53, g54, g55, g56, g57, g58, rfl, hI⟩ := h; exact hs μ vout_a vout_n vout_e t11 g4 g5 g6 g7 g12 g13 g14 g15 g16 g17 g18 g19 g20 g21 g22 g23 g24 g25 g26 g27 g28 g29 g30 g31 g32 g33 g34 g35 g36 g37 g38 g39 g40 g41 g42 g43 g44 g45 g46 g47 g48 g49 g50 g51 g52 g53 g54 g55 g56 g57 g58 H hI⟩
theorem spec_l05Sorted_n1 {b1 : Nat} {list_a : Option Addr} {list_e : Nat} {list_n : Nat} {Q : Post} {Inv : Nat → (Option Addr) → Nat → Nat → Int → AHeap → Prop} {μ : Nat} (μ' : Nat) {vout_a : Option Addr} {vout_n : Nat} {vout_e : Nat} {t11 : Int} {g4 g5 g6 g7 g12 g13 g14 g15 g16 g17 g18 g19 g20 g21 g22 g23 g24 g25 g26 g27 g28 g29 g30 g31 g32 g33 g34 g35 g36 g37 g38 g39 g40 g41 g42 g43 g44 g45 g46 g47 g48 g49 g50 g51 g52 g53 g54 g55 g56 g57 g58 : Value} {H : AHeap} (hm : μ' < μ) (hI : Inv μ' vout_a vout_n vout_e t11 H) : loopQ (spec_l05Sorted_I1 b1 list_a list_e list_n Inv) μ Q .normal [.slice list_a list_n list_e, undef, .slice none 0 0, .slice vout_a vout_n vout_e, g4, g5, g6, g7, .slice (some ⟨b1, 0, none⟩) 0 1, .slice list_a list_n list_e, .int .i64 (list_n : Int), .int .i64 t11, g12, g13, g14, g15, g16, g17, g18, g19, g20, g21, g22, g23, g24, g25, g26, g27, g28, g29, g30, g31, g32, g33, g34, g35, g36, g37, g38, g39, g40, g41, g42, g43, g44, g45, g46, g47, g48, g49, g50, g51, g52, g53, g54, g55, g56, g57, g58, undef] H := ⟨μ', hm, vout_a, vout_n, vout_e, t11, g4, g5, g6, g7, g12, g13, g14, g15, g16, g17, g18, g19, g20, g21, g22, g23, g24, g25, g26, g27, g28, g29, g30, g31, g32, g33, g34, g35, g36, g37, g38, g39, g40, g41, g42, g43, g44, g45, g46, g47, g48, g49, g50, g51, g52, g53, g54, g55, g56, g57, g58, rfl, hI⟩
theorem spec_l05Sorted_x1_0 (b1 : Nat) (list_a : Option Addr) (list_e : Nat) (list_n : Nat) (vout_a : Option Addr) (vout_n : Nat) (vout_e : Nat) (t11 : Int) (g4 g5 g6 g7 g12 g13 g14 g15 g16 g17 g18 g19 g20 g21 g22 g23 g24 g25 g26 g27 g28 g29 g30 g31 g32 g33 g34 g35 g36 g37 g38 g39 g40 g41 g42 g43 g44 g45 g46 g47 g48 g49 g50 g51 g52 g53 g54 g55 g56 g57 g58 : Value) (H : AHeap) (K : Value → AHeap → Prop)  {I : Nat → List Value → AHeap → Prop} {μ : Nat} : loopQ I μ (blockQ 0 (seqQ (exK Try.prog E_spec_l05Sorted (cr (cr (cr (bodyC Try.f126))))) (retK Try.prog Try.f126 K))) (.exit 0) [.slice list_a list_n list_e, undef, .slice none 0 0, .slice vout_a vout_n vout_e, g4, g5, g6, g7, .slice (some ⟨b1, 0, none⟩) 0 1, .slice list_a list_n list_e, .int .i64 (list_n : Int), .int .i64 t11, g12, g13, g14, g15, g16, g17, g18, g19, g20, g21, g22, g23, g24, g25, g26, g27, g28, g29, g30, g31, g32, g33, g34, g35, g36, g37, g38, g39, g40, g41, g42, g43, g44, g45, g46, g47, g48, g49, g50, g51, g52, g53, g54, g55, g56, g57, g58, undef] H =
  (K (.slice vout_a vout_n vout_e) H) := by kernel_rfl
theorem spec_l05Sorted_r2 (b1 : Nat) (b2 : Nat) (g48 : Value) (g49 : Value) (g50 : Value) (g51 : Value) (g52 : Value) (g53 : Value) (g54 : Value) (g55 : Value) (g56 : Value) (g57 : Value) (g58 : Value) (list_a : Option Addr) (list_e : Nat) (list_n : Nat) (t11 : Int) (vout_a : Option Addr) (vout_e : Nat) (vout_n : Nat) (next_a : Option Addr) (next_n : Nat) (next_e : Nat) (put : Bool) (t17 : Int) (g7 g18 g19 g20 g21 g22 g23 g24 g25 g26 g27 g28 g29 g30 g31 g32 g33 g34 g35 g36 g37 g38 g39 g40 g41 g42 g43 g44 g45 g46 g47 : Value) (H : AHeap) (R : Post) : exK Try.prog E_spec_l05Sorted (cl (cl (cr (cl (cr (cr (cr (cl (cl (cr (cr (cl (cl (cr (cl (cr (cr (bodyC Try.f126)))))))))))))))))) [.slice list_a list_n list_e, undef, .slice none 0 0, .slice vout_a vout_n vout_e, .int .i64 t11, .slice next_a next_n next_e, .bool put, g7, .slice (some ⟨b1, 0, none⟩) 0 1, .slice list_a list_n list_e, .int .i64 (list_n : Int), .int .i64 t11, .bool (decide ((t11 : Int) < (list_n : Int))), .int .i64 t11, .slice (some ⟨b2, 0, none⟩) 0 1, .slice vout_a vout_n vout_e, .int .i64 (vout_n : Int), .int .i64 t17, g18, g19, g20, g21, g22, g23, g24, g25, g26, g27, g28, g29, g30, g31, g32, g33, g34, g35, g36, g37, g38, g39, g40, g41, g42, g43, g44, g45, g46, g47, g48, g49, g50, g51, g52, g53, g54, g55, g56, g57, g58, undef] H R =
  (Br (decide ((t17 : Int) < (vout_n : Int))) (Br (!put) ((0 : Int) ≤ t11 ∧ t11 < (list_n : Int) ∧ ∃ b3 f1, (list_a : Option Addr) = some ⟨b3, f1, none⟩ ∧ ∃ x1 : Nat,  rdC H b3 (f1 + (t11 : Int).toNat * 1) = some (.float .f32 x1) ∧ (0 : Int) ≤ t17 ∧ t17 < (vout_n : Int) ∧ ∃ b4 f2, (vout_a : Option Addr) = some ⟨b4, f2, none⟩ ∧ ∃ x2 : Nat,  rdC H b4 (f2 + (t17 : Int).toNat * 1) = some (.float .f32 x2) ∧ Br (flt .f32 x1 x2) ((0 : Int) ≤ t11 ∧ t11 < (list_n : Int) ∧ ∃ b5 f3, (list_a : Option Addr) = some ⟨b5, f3, none⟩ ∧ ∃ x3 : Nat,  rdC H b5 (f3 + (t11 : Int).toNat * 1) = some (.float .f32 x3) ∧ Al [.float .f32 x3] H fun b6 H3 => ∃ o1 w1 : List Value, ownB H3 next_a next_n next_e 1 = some o1 ∧ rdS H3 (some ⟨b6, 0, none⟩) (1 * 1) = some w1 ∧ ((next_a : Option Addr) = none → 0 < (1 : Nat)) ∧ (next_n : Nat) + 1 < most ∧ Ap H3 (killB H3 next_a ++ [some ⟨o1 ++ w1, true⟩]) fun b7 H4 => (0 : Int) ≤ t17 ∧ t17 < (vout_n : Int) ∧ ∃ b8 f4, (vout_a : Option Addr) = some ⟨b8, f4, none⟩ ∧ ∃ x4 : Nat,  rdC H4 b8 (f4 + (t17 : Int).toNat * 1) = some (.float .f32 x4) ∧ Al [.float .f32 x4] H4 fun b9 H5 => ∃ o2 w2 : List Value, ownB H5 (some ⟨b7, 0, none⟩) (next_n + 1) 1 1 = some o2 ∧ rdS H5 (some ⟨b9, 0, none⟩) (1 * 1) = some w2 ∧ ((some ⟨b7, 0, none⟩ : Option Addr) = none → 0 < (1 : Nat)) ∧ (next_n + 1 : Nat) + 1 < most ∧ Ap H5 (killB H5 (some ⟨b7, 0, none⟩) ++ [some ⟨o2 ++ w2, true⟩]) fun b10 H6 => R .normal [.slice list_a list_n list_e, undef, .slice none 0 0, .slice vout_a vout_n vout_e, .int .i64 t11, .slice (some ⟨b10, 0, none⟩) ((next_n + 1) + 1) 1, .bool true, .int .i64 t17, .slice (some ⟨b1, 0, none⟩) 0 1, .slice list_a list_n list_e, .int .i64 (list_n : Int), .int .i64 t11, .bool (decide ((t11 : Int) < (list_n : Int))), .int .i64 t11, .slice (some ⟨b2, 0, none⟩) 0 1, .slice vout_a vout_n vout_e, .int .i64 (vout_n : Int), .int .i64 (IntKind.wrap .i64 (t17 + 1)), .bool (decide ((t17 : Int) < (vout_n : Int))), .int .i64 t17, .bool put, .bool (!put), .bool true, .slice list_a list_n list_e, .int .i64 t11, .pointer (some ⟨b3, f1 + (t11 : Int).toNat * 1, none⟩), .float .f32 x1, .slice vout_a vout_n vout_e, .int .i64 t17, .pointer (some ⟨b4, f2 + (t17 : Int).toNat * 1, none⟩), .float .f32 x2, .bool (flt .f32 x1 x2), .bool (flt .f32 x1 x2), .slice next_a next_n next_e, .slice list_a list_n list_e, .int .i64 t11, .pointer (some ⟨b5, f3 + (t11 : Int).toNat * 1, none⟩), .float .f32 x3, .slice (some ⟨b6, 0, none⟩) 1 1, .slice (some ⟨b7, 0, none⟩) (next_n + 1) 1, .slice (some ⟨b7, 0, none⟩) (next_n + 1) 1, .slice vout_a vout_n vout_e, .int .i64 t17, .pointer (some ⟨b8, f4 + (t17 : Int).toNat * 1, none⟩), .float .f32 x4, .slice (some ⟨b9, 0, none⟩) 1 1, .slice (some ⟨b10, 0, none⟩) ((next_n + 1) + 1) 1, .int .i64 (IntKind.wrap .i64 (t17 + 1)), g48, g49, g50, g51, g52, g53, g54, g55, g56, g57, g58, undef] H6) ((0 : Int) ≤ t17 ∧ t17 < (vout_n : Int) ∧ ∃ b11 f5, (vout_a : Option Addr) = some ⟨b11, f5, none⟩ ∧ ∃ x5 : Nat,  rdC H b11 (f5 + (t17 : Int).toNat * 1) = some (.float .f32 x5) ∧ Al [.float .f32 x5] H fun b12 H7 => ∃ o3 w3 : List Value, ownB H7 next_a next_n next_e 1 = some o3 ∧ rdS H7 (some ⟨b12, 0, none⟩) (1 * 1) = some w3 ∧ ((next_a : Option Addr) = none → 0 < (1 : Nat)) ∧ (next_n : Nat) + 1 < most ∧ Ap H7 (killB H7 next_a ++ [some ⟨o3 ++ w3, true⟩]) fun b13 H8 => R .normal [.slice list_a list_n list_e, undef, .slice none 0 0, .slice vout_a vout_n vout_e, .int .i64 t11, .slice (some ⟨b13, 0, none⟩) (next_n + 1) 1, .bool put, .int .i64 t17, .slice (some ⟨b1, 0, none⟩) 0 1, .slice list_a list_n list_e, .int .i64 (list_n : Int), .int .i64 t11, .bool (decide ((t11 : Int) < (list_n : Int))), .int .i64 t11, .slice (some ⟨b2, 0, none⟩) 0 1, .slice vout_a vout_n vout_e, .int .i64 (vout_n : Int), .int .i64 (IntKind.wrap .i64 (t17 + 1)), .bool (decide ((t17 : Int) < (vout_n : Int))), .int .i64 t17, .bool put, .bool (!put), .bool true, .slice list_a list_n list_e, .int .i64 t11, .pointer (some ⟨b3, f1 + (t11 : Int).toNat * 1, none⟩), .float .f32 x1, .slice vout_a vout_n vout_e, .int .i64 t17, .pointer (some ⟨b4, f2 + (t17 : Int).toNat * 1, none⟩), .float .f32 x2, .bool (flt .f32 x1 x2), .bool (flt .f32 x1 x2), g33, g34, g35, g36, g37, g38, g39, .slice next_a next_n next_e, .slice vout_a vout_n vout_e, .int .i64 t17, .pointer (some ⟨b11, f5 + (t17 : Int).toNat * 1, none⟩), .float .f32 x5, .slice (some ⟨b12, 0, none⟩) 1 1, .slice (some ⟨b13, 0, none⟩) (next_n + 1) 1, .int .i64 (IntKind.wrap .i64 (t17 + 1)), g48, g49, g50, g51, g52, g53, g54, g55, g56, g57, g58, undef] H8)) ((0 : Int) ≤ t17 ∧ t17 < (vout_n : Int) ∧ ∃ b14 f6, (vout_a : Option Addr) = some ⟨b14, f6, none⟩ ∧ ∃ x6 : Nat,  rdC H b14 (f6 + (t17 : Int).toNat * 1) = some (.float .f32 x6) ∧ Al [.float .f32 x6] H fun b15 H9 => ∃ o4 w4 : List Value, ownB H9 next_a next_n next_e 1 = some o4 ∧ rdS H9 (some ⟨b15, 0, none⟩) (1 * 1) = some w4 ∧ ((next_a : Option Addr) = none → 0 < (1 : Nat)) ∧ (next_n : Nat) + 1 < most ∧ Ap H9 (killB H9 next_a ++ [some ⟨o4 ++ w4, true⟩]) fun b16 H10 => R .normal [.slice list_a list_n list_e, undef, .slice none 0 0, .slice vout_a vout_n vout_e, .int .i64 t11, .slice (some ⟨b16, 0, none⟩) (next_n + 1) 1, .bool put, .int .i64 t17, .slice (some ⟨b1, 0, none⟩) 0 1, .slice list_a list_n list_e, .int .i64 (list_n : Int), .int .i64 t11, .bool (decide ((t11 : Int) < (list_n : Int))), .int .i64 t11, .slice (some ⟨b2, 0, none⟩) 0 1, .slice vout_a vout_n vout_e, .int .i64 (vout_n : Int), .int .i64 (IntKind.wrap .i64 (t17 + 1)), .bool (decide ((t17 : Int) < (vout_n : Int))), .int .i64 t17, .bool put, .bool (!put), .bool false, undef, undef, undef, undef, undef, undef, undef, undef, undef, .bool false, g33, g34, g35, g36, g37, g38, g39, .slice next_a next_n next_e, .slice vout_a vout_n vout_e, .int .i64 t17, .pointer (some ⟨b14, f6 + (t17 : Int).toNat * 1, none⟩), .float .f32 x6, .slice (some ⟨b15, 0, none⟩) 1 1, .slice (some ⟨b16, 0, none⟩) (next_n + 1) 1, .int .i64 (IntKind.wrap .i64 (t17 + 1)), g48, g49, g50, g51, g52, g53, g54, g55, g56, g57, g58, undef] H10)) (R (.exit 2) [.slice list_a list_n list_e, undef, .slice none 0 0, .slice vout_a vout_n vout_e, .int .i64 t11, .slice next_a next_n next_e, .bool put, g7, .slice (some ⟨b1, 0, none⟩) 0 1, .slice list_a list_n list_e, .int .i64 (list_n : Int), .int .i64 t11, .bool (decide ((t11 : Int) < (list_n : Int))), .int .i64 t11, .slice (some ⟨b2, 0, none⟩) 0 1, .slice vout_a vout_n vout_e, .int .i64 (vout_n : Int), .int .i64 t17, .bool (decide ((t17 : Int) < (vout_n : Int))), g19, g20, g21, g22, g23, g24, g25, g26, g27, g28, g29, g30, g31, g32, g33, g34, g35, g36, g37, g38, g39, g40, g41, g42, g43, g44, g45, g46, g47, g48, g49, g50, g51, g52, g53, g54, g55, g56, g57, g58, undef] H)) := by kernel_rfl
def spec_l05Sorted_I2 (b1 : Nat) (b2 : Nat) (g48 : Value) (g49 : Value) (g50 : Value) (g51 : Value) (g52 : Value) (g53 : Value) (g54 : Value) (g55 : Value) (g56 : Value) (g57 : Value) (g58 : Value) (list_a : Option Addr) (list_e : Nat) (list_n : Nat) (t11 : Int) (vout_a : Option Addr) (vout_e : Nat) (vout_n : Nat) (Inv : Nat → (Option Addr) → Nat → Nat → Bool → Int → AHeap → Prop) : Nat → List Value → AHeap → Prop := fun μ tm H => ∃ (next_a : Option Addr), ∃ (next_n : Nat), ∃ (next_e : Nat), ∃ (put : Bool), ∃ (t17 : Int), ∃ g7 g18 g19 g20 g21 g22 g23 g24 g25 g26 g27 g28 g29 g30 g31 g32 g33 g34 g35 g36 g37 g38 g39 g40 g41 g42 g43 g44 g45 g46 g47, tm = [.slice list_a list_n list_e, undef, .slice none 0 0, .slice vout_a vout_n vout_e, .int .i64 t11, .slice next_a next_n next_e, .bool put, g7, .slice (some ⟨b1, 0, none⟩) 0 1, .slice list_a list_n list_e, .int .i64 (list_n : Int), .int .i64 t11, .bool (decide ((t11 : Int) < (list_n : Int))), .int .i64 t11, .slice (some ⟨b2, 0, none⟩) 0 1, .slice vout_a vout_n vout_e, .int .i64 (vout_n : Int), .int .i64 t17, g18, g19, g20, g21, g22, g23, g24, g25, g26, g27, g28, g29, g30, g31, g32, g33, g34, g35, g36, g37, g38, g39, g40, g41, g42, g43, g44, g45, g46, g47, g48, g49, g50, g51, g52, g53, g54, g55, g56, g57, g58, undef] ∧ Inv μ next_a next_n next_e put t17 H
theorem spec_l05Sorted_L2 (b1 : Nat) (b2 : Nat) (g48 : Value) (g49 : Value) (g50 : Value) (g51 : Value) (g52 : Value) (g53 : Value) (g54 : Value) (g55 : Value) (g56 : Value) (g57 : Value) (g58 : Value) (list_a : Option Addr) (list_e : Nat) (list_n : Nat) (t11 : Int) (vout_a : Option Addr) (vout_e : Nat) (vout_n : Nat) {Q : Post} (Inv : Nat → (Option Addr) → Nat → Nat → Bool → Int → AHeap → Prop) (ν : Nat) (next_a : Option Addr) (next_n : Nat) (next_e : Nat) (put : Bool) (t17 : Int) (g7 g18 g19 g20 g21 g22 g23 g24 g25 g26 g27 g28 g29 g30 g31 g32 g33 g34 g35 g36 g37 g38 g39 g40 g41 g42 g43 g44 g45 g46 g47 : Value) (H : AHeap) (h0 : Inv ν next_a next_n next_e put t17 H)
    (hs : ∀ (μ : Nat) (next_a : Option Addr) (next_n : Nat) (next_e : Nat) (put : Bool) (t17 : Int) (g7 g18 g19 g20 g21 g22 g23 g24 g25 g26 g27 g28 g29 g30 g31 g32 g33 g34 g35 g36 g37 g38 g39 g40 g41 g42 g43 g44 g45 g46 g47 : Value) (H : AHeap), Inv μ next_a next_n next_e put t17 H → exK Try.prog E_spec_l05Sorted (cl (cl (cr (cl (cr (cr (cr (cl (cl (cr (cr (cl (cl (cr (cl (cr (cr (bodyC Try.f126)))))))))))))))))) [.slice list_a list_n list_e, undef, .slice none 0 0, .slice vout_a vout_n vout_e, .int .i64 t11, .slice next_a next_n next_e, .bool put, g7, .slice (some ⟨b1, 0, none⟩) 0 1, .slice list_a list_n list_e, .int .i64 (list_n : Int), .int .i64 t11, .bool (decide ((t11 : Int) < (list_n : Int))), .int .i64 t11, .slice (some ⟨b2, 0, none⟩) 0 1, .slice vout_a vout_n vout_e, .int .i64 (vout_n : Int), .int .i64 t17, g18, g19, g20, g21, g22, g23, g24, g25, g26, g27, g28, g29, g30, g31, g32, g33, g34, g35, g36, g37, g38, g39, g40, g41, g42, g43, g44, g45, g46, g47, g48, g49, g50, g51, g52, g53, g54, g55, g56, g57, g58, undef] H (loopQ (spec_l05Sorted_I2 b1 b2 g48 g49 g50 g51 g52 g53 g54 g55 g56 g57 g58 list_a list_e list_n t11 vout_a vout_e vout_n Inv) μ Q)) : loopK (exK Try.prog E_spec_l05Sorted (cl (cl (cr (cl (cr (cr (cr (cl (cl (cr (cr (cl (cl (cr (cl (cr (cr (bodyC Try.f126))))))))))))))))))) [.slice list_a list_n list_e, undef, .slice none 0 0, .slice vout_a vout_n vout_e, .int .i64 t11, .slice next_a next_n next_e, .bool put, g7, .slice (some ⟨b1, 0, none⟩) 0 1, .slice list_a list_n list_e, .int .i64 (list_n : Int), .int .i64 t11, .bool (decide ((t11 : Int) < (list_n : Int))), .int .i64 t11, .slice (some ⟨b2, 0, none⟩) 0 1, .slice vout_a vout_n vout_e, .int .i64 (vout_n : Int), .int .i64 t17, g18, g19, g20, g21, g22, g23, g24, g25, g26, g27, g28, g29, g30, g31, g32, g33, g34, g35, g36, g37, g38, g39, g40, g41, g42, g43, g44, g45, g46, g47, g48, g49, g50, g51, g52, g53, g54, g55, g56, g57, g58, undef] H Q :=
  ⟨spec_l05Sorted_I2 b1 b2 g48 g49 g50 g51 g52 g53 g54 g55 g56 g57 g58 list_a list_e list_n t11 vout_a vout_e vout_n Inv, ν, ⟨next_a, next_n, next_e, put, t17, g7, g18, g19, g20, g21, g22, g23, g24, g25, g26, g27, g28, g29, g30, g31, g32, g33, g34, g35, g36, g37, g38, g39, g40, g41, g42, g43, g44, g45, g46, g47, rfl, h0⟩, fun μ tm H h => by obtain ⟨next_a, next_n, next_e, put, t17, g7, g18, g19, g20, g21, g22, g23, g24, g25, g26, g27, g28, g29, g30, g31, g32, g33, g34, g35, g36, g37, g38, g39, g40, g41, g42, g43, g44, g45, g46, g47, rfl, hI⟩ := h; exact hs μ next_a next_n next_e put t17 g7 g18 g19 g20 g21 g22 g23 g24 g25 g26 g27 g28 g29 g30 g31 g32 g33 g34 g35 g36 g37 g38 g39 g40 g41 g42 g43 g44 g45 g46 g47 H hI⟩
theorem spec_l05Sorted_n2 {b1 : Nat} {b2 : Nat} {g48 : Value} {g49 : Value} {g50 : Value} {g51 : Value} {g52 : Value} {g53 : Value} {g54 : Value} {g55 : Value} {g56 : Value} {g57 : Value} {g58 : Value} {list_a : Option Addr} {list_e : Nat} {list_n : Nat} {t11 : Int} {vout_a : Option Addr} {vout_e : Nat} {vout_n : Nat} {Q : Post} {Inv : Nat → (Option Addr) → Nat → Nat → Bool → Int → AHeap → Prop} {μ : Nat} (μ' : Nat) {next_a : Option Addr} {next_n : Nat} {next_e : Nat} {put : Bool} {t17 : Int} {g7 g18 g19 g20 g21 g22 g23 g24 g25 g26 g27 g28 g29 g30 g31 g32 g33 g34 g35 g36 g37 g38 g39 g40 g41 g42 g43 g44 g45 g46 g47 : Value} {H : AHeap} (hm : μ' < μ) (hI : Inv μ' next_a next_n next_e put t17 H) : loopQ (spec_l05Sorted_I2 b1 b2 g48 g49 g50 g51 g52 g53 g54 g55 g56 g57 g58 list_a list_e list_n t11 vout_a vout_e vout_n Inv) μ Q .normal [.slice list_a list_n list_e, undef, .slice none 0 0, .slice vout_a vout_n vout_e, .int .i64 t11, .slice next_a next_n next_e, .bool put, g7, .slice (some ⟨b1, 0, none⟩) 0 1, .slice list_a list_n list_e, .int .i64 (list_n : Int), .int .i64 t11, .bool (decide ((t11 : Int) < (list_n : Int))), .int .i64 t11, .slice (some ⟨b2, 0, none⟩) 0 1, .slice vout_a vout_n vout_e, .int .i64 (vout_n : Int), .int .i64 t17, g18, g19, g20, g21, g22, g23, g24, g25, g26, g27, g28, g29, g30, g31, g32, g33, g34, g35, g36, g37, g38, g39, g40, g41, g42, g43, g44, g45, g46, g47, g48, g49, g50, g51, g52, g53, g54, g55, g56, g57, g58, undef] H := ⟨μ', hm, next_a, next_n, next_e, put, t17, g7, g18, g19, g20, g21, g22, g23, g24, g25, g26, g27, g28, g29, g30, g31, g32, g33, g34, g35, g36, g37, g38, g39, g40, g41, g42, g43, g44, g45, g46, g47, rfl, hI⟩
theorem spec_l05Sorted_x2_2 (b1 : Nat) (b2 : Nat) (g48 : Value) (g49 : Value) (g50 : Value) (g51 : Value) (g52 : Value) (g53 : Value) (g54 : Value) (g55 : Value) (g56 : Value) (g57 : Value) (g58 : Value) (list_a : Option Addr) (list_e : Nat) (list_n : Nat) (t11 : Int) (vout_a : Option Addr) (vout_e : Nat) (vout_n : Nat) (next_a : Option Addr) (next_n : Nat) (next_e : Nat) (put : Bool) (t17 : Int) (g7 g18 g19 g20 g21 g22 g23 g24 g25 g26 g27 g28 g29 g30 g31 g32 g33 g34 g35 g36 g37 g38 g39 g40 g41 g42 g43 g44 g45 g46 g47 : Value) (H : AHeap)  (R : Post) {I : Nat → List Value → AHeap → Prop} {μ : Nat} : loopQ I μ (blockQ 2 (seqQ (exK Try.prog E_spec_l05Sorted (cr (cr (cr (cr (cl (cl (cr (cr (cl (cl (cr (cl (cr (cr (bodyC Try.f126)))))))))))))))) (blockQ 1 (seqQ (exK Try.prog E_spec_l05Sorted (cr (cr (cr (cl (cl (cr (cl (cr (cr (bodyC Try.f126))))))))))) (R))))) (.exit 2) [.slice list_a list_n list_e, undef, .slice none 0 0, .slice vout_a vout_n vout_e, .int .i64 t11, .slice next_a next_n next_e, .bool put, g7, .slice (some ⟨b1, 0, none⟩) 0 1, .slice list_a list_n list_e, .int .i64 (list_n : Int), .int .i64 t11, .bool (decide ((t11 : Int) < (list_n : Int))), .int .i64 t11, .slice (some ⟨b2, 0, none⟩) 0 1, .slice vout_a vout_n vout_e, .int .i64 (vout_n : Int), .int .i64 t17, g18, g19, g20, g21, g22, g23, g24, g25, g26, g27, g28, g29, g30, g31, g32, g33, g34, g35, g36, g37, g38, g39, g40, g41, g42, g43, g44, g45, g46, g47, g48, g49, g50, g51, g52, g53, g54, g55, g56, g57, g58, undef] H =
  (Br (!put) ((0 : Int) ≤ t11 ∧ t11 < (list_n : Int) ∧ ∃ b17 f7, (list_a : Option Addr) = some ⟨b17, f7, none⟩ ∧ ∃ x7 : Nat,  rdC H b17 (f7 + (t11 : Int).toNat * 1) = some (.float .f32 x7) ∧ Al [.float .f32 x7] H fun b18 H11 => ∃ o5 w5 : List Value, ownB H11 next_a next_n next_e 1 = some o5 ∧ rdS H11 (some ⟨b18, 0, none⟩) (1 * 1) = some w5 ∧ ((next_a : Option Addr) = none → 0 < (1 : Nat)) ∧ (next_n : Nat) + 1 < most ∧ Ap H11 (killB H11 next_a ++ [some ⟨o5 ++ w5, true⟩]) fun b19 H12 => R .normal [.slice list_a list_n list_e, undef, .slice none 0 0, .slice (some ⟨b19, 0, none⟩) (next_n + 1) 1, .int .i64 t11, .slice (some ⟨b19, 0, none⟩) (next_n + 1) 1, .bool put, g7, .slice (some ⟨b1, 0, none⟩) 0 1, .slice list_a list_n list_e, .int .i64 (list_n : Int), .int .i64 (IntKind.wrap .i64 (t11 + 1)), .bool (decide ((t11 : Int) < (list_n : Int))), .int .i64 t11, .slice (some ⟨b2, 0, none⟩) 0 1, .slice vout_a vout_n vout_e, .int .i64 (vout_n : Int), .int .i64 t17, g18, g19, g20, g21, g22, g23, g24, g25, g26, g27, g28, g29, g30, g31, g32, g33, g34, g35, g36, g37, g38, g39, g40, g41, g42, g43, g44, g45, g46, g47, .bool put, .bool (!put), .slice next_a next_n next_e, .slice list_a list_n list_e, .int .i64 t11, .pointer (some ⟨b17, f7 + (t11 : Int).toNat * 1, none⟩), .float .f32 x7, .slice (some ⟨b18, 0, none⟩) 1 1, .slice (some ⟨b19, 0, none⟩) (next_n + 1) 1, .slice (some ⟨b19, 0, none⟩) (next_n + 1) 1, .int .i64 (IntKind.wrap .i64 (t11 + 1)), undef] H12) (R .normal [.slice list_a list_n list_e, undef, .slice none 0 0, .slice next_a next_n next_e, .int .i64 t11, .slice next_a next_n next_e, .bool put, g7, .slice (some ⟨b1, 0, none⟩) 0 1, .slice list_a list_n list_e, .int .i64 (list_n : Int), .int .i64 (IntKind.wrap .i64 (t11 + 1)), .bool (decide ((t11 : Int) < (list_n : Int))), .int .i64 t11, .slice (some ⟨b2, 0, none⟩) 0 1, .slice vout_a vout_n vout_e, .int .i64 (vout_n : Int), .int .i64 t17, g18, g19, g20, g21, g22, g23, g24, g25, g26, g27, g28, g29, g30, g31, g32, g33, g34, g35, g36, g37, g38, g39, g40, g41, g42, g43, g44, g45, g46, g47, .bool put, .bool (!put), g50, g51, g52, g53, g54, g55, g56, .slice next_a next_n next_e, .int .i64 (IntKind.wrap .i64 (t11 + 1)), undef] H)) := by kernel_rfl
theorem E_spec_l05Sorted_ok : ∀ g, FnOk Try.prog g (E_spec_l05Sorted g) := FnOk.envOf (by
  intro x hx; cases hx)
set_option maxHeartbeats 1000000 in
theorem spec_l05Sorted_main (list_a : Option Addr) (list_n : Nat) (list_e : Nat) (H : AHeap) (K : Value → AHeap → Prop) (h : T_spec_l05Sorted list_a list_n list_e H fun (r1_a : Option Addr) (r1_n : Nat) (r1_e : Nat) (H' : AHeap) => K (.slice r1_a r1_n r1_e) H') : bodyK Try.prog E_spec_l05Sorted Try.f126 [.slice list_a list_n list_e] H K := by
  rw [spec_l05Sorted_vc]
  obtain ⟨l_list, i_list, bd_203, hk⟩ := h
  obtain rfl := i_list.eqn
  have e : (p_spec_l05Sorted l_list) = _ := rfl
  have e := e.trans (p_spec_l05Sorted_eq l_list)
  have g0 := Grow.refl H
  refine Al.intro (fun b_1 H_1 hb_2 hl_3 g_4 o_5 => ?_)
  have o_5 : Own H_1 b_1 ((([] : List Nat)).map fF) := o_5
  have l_7 := g_4.1
  have g_8 := g0.trans g_4
  have l_9 := g_8.1
  have w_202 := o_5.lt
  refine spec_l05Sorted_L1 _ _ _ _ (fun (μ : Nat) (vout_a : Option Addr) (vout_n : Nat) (vout_e : Nat) (t11 : Int) (H_2 : AHeap) => ∃ (l_vout : List Nat), ∃ (b_10 : Nat), vout_a = some ⟨b_10, 0, none⟩ ∧ vout_n = l_vout.length ∧ vout_e = 1 ∧ Own H_2 b_10 (l_vout.map fF) ∧ Grow H H_2 ∧ H.length ≤ b_10 ∧ (0 : Int) ≤ t11 ∧ t11 ≤ (l_list.length : Int) ∧ (l_vout.length : Int) ≤ t11 ∧ (l_list.length : Int) - t11 ≤ (μ : Int) ∧ p_spec_l05Sorted l_list = p_spec_l05Sorted_l1 l_list (μ + 1) l_vout t11) (Int.toNat ((l_list.length : Int) - (0 : Int))) _ _ _ _ _ _ _ _ _ _ _ _ _ _ _ _ _ _ _ _ _ _ _ _ _ _ _ _ _ _ _ _ _ _ _ _ _ _ _ _ _ _ _ _ _ _ _ _ _ _ _ _ _ _ _ H_1 ?_ ?_
  · exact ⟨_, _, rfl, (by first | rfl | omega | (simp only [List.length_set]; done) | (simp only [List.length_set, List.length_replicate]; omega)), rfl, o_5, g_8, (by omega), (by first | omega | (simp; done) | (simp; omega) | ((rcases ‹put = true ∨ (l_next.length : Int) ≤ t17› with hq | hq <;> first | exact Or.inl rfl | exact Or.inl hq | exact absurd ‹(!put) = true› (by rw [hq]; decide) | omega | (simp only [List.length_append, List.length_cons, List.length_nil]; omega) | (exact Or.inr (by simp only [List.length_append, List.length_cons, List.length_nil]; omega))))), (by first | omega | (simp; done) | (simp; omega) | ((rcases ‹put = true ∨ (l_next.length : Int) ≤ t17› with hq | hq <;> first | exact Or.inl rfl | exact Or.inl hq | exact absurd ‹(!put) = true› (by rw [hq]; decide) | omega | (simp only [List.length_append, List.length_cons, List.length_nil]; omega) | (exact Or.inr (by simp only [List.length_append, List.length_cons, List.length_nil]; omega))))), (by first | omega | (simp; done) | (simp; omega) | ((rcases ‹put = true ∨ (l_next.length : Int) ≤ t17› with hq | hq <;> first | exact Or.inl rfl | exact Or.inl hq | exact absurd ‹(!put) = true› (by rw [hq]; decide) | omega | (simp only [List.length_append, List.length_cons, List.length_nil]; omega) | (exact Or.inr (by simp only [List.length_append, List.length_cons, List.length_nil]; omega))))), (by omega), e⟩
  · intro μ vout_a vout_n vout_e t11 g4 g5 g6 g7 g12 g13 g14 g15 g16 g17 g18 g19 g20 g21 g22 g23 g24 g25 g26 g27 g28 g29 g30 g31 g32 g33 g34 g35 g36 g37 g38 g39 g40 g41 g42 g43 g44 g45 g46 g47 g48 g49 g50 g51 g52 g53 g54 g55 g56 g57 g58 H_2 hI
    obtain ⟨l_vout, b_10, rfl, rfl, rfl, o_11, g_12, l_13, v_14, v_15, v_16, hμ, e⟩ := hI
    rw [spec_l05Sorted_r1]
    have e := e.trans (p_spec_l05Sorted_l1_s l_list μ l_vout t11)
    have w_17 := o_11.lt
    have l_18 := g_12.1
    refine Br.intro (fun c_19 => ?_) (fun c_19 => ?_)
    · have e := e.trans (cond_t c_19)
      have c_19' := of_decide_eq_true c_19
      refine Al.intro (fun b_20 H_3 hb_21 hl_22 g_23 o_24 => ?_)
      have o_24 : Own H_3 b_20 ((([] : List Nat)).map fF) := o_24
      have l_26 := g_23.1
      have g_27 := g_12.trans g_23
      have l_28 := g_27.1
      have o_29 := o_11.grow g_23
      have w_30 := o_29.lt
      have w_201 := o_24.lt
      refine spec_l05Sorted_L2 _ _ _ _ _ _ _ _ _ _ _ _ _ _ _ _ _ _ _ _ (fun (μ2 : Nat) (next_a : Option Addr) (next_n : Nat) (next_e : Nat) (put : Bool) (t17 : Int) (H_4 : AHeap) => ∃ (l_next : List Nat), ∃ (b_31 : Nat), next_a = some ⟨b_31, 0, none⟩ ∧ next_n = l_next.length ∧ next_e = 1 ∧ Own H_4 b_31 (l_next.map fF) ∧ Own H_4 b_10 ((l_vout).map fF) ∧ (b_31 ≠ b_10) ∧ Grow H H_4 ∧ H.length ≤ b_31 ∧ (0 : Int) ≤ t17 ∧ t17 ≤ (l_vout.length : Int) ∧ ((put = true ∨ (l_next.length : Int) ≤ t17)) ∧ (l_next.length : Int) ≤ t17 + 1 ∧ (l_vout.length : Int) - t17 ≤ (μ2 : Int) ∧ p_spec_l05Sorted l_list = p_spec_l05Sorted_l2 l_list l_vout t11 (fun (l_next : List Nat) (put : Bool) (t17 : Int) => (bif !put then (p_spec_l05Sorted_l1 l_list μ ((l_next ++ [(((l_list).getD (t11 : Int).toNat 0))])) (t11 + 1)) else (p_spec_l05Sorted_l1 l_list μ l_next (t11 + 1)))) (μ2 + 1) l_next put t17) (Int.toNat ((l_vout.length : Int) - (0 : Int))) _ _ _ _ _ _ _ _ _ _ _ _ _ _ _ _ _ _ _ _ _ _ _ _ _ _ _ _ _ _ _ _ _ _ _ _ H_3 ?_ ?_
      · exact ⟨_, _, rfl, (by first | rfl | omega | (simp only [List.length_set]; done) | (simp only [List.length_set, List.length_replicate]; omega)), rfl, o_24, o_29, (by omega), g_27, (by omega), (by first | omega | (simp; done) | (simp; omega) | ((rcases ‹put = true ∨ (l_next.length : Int) ≤ t17› with hq | hq <;> first | exact Or.inl rfl | exact Or.inl hq | exact absurd ‹(!put) = true› (by rw [hq]; decide) | omega | (simp only [List.length_append, List.length_cons, List.length_nil]; omega) | (exact Or.inr (by simp only [List.length_append, List.length_cons, List.length_nil]; omega))))), (by first | omega | (simp; done) | (simp; omega) | ((rcases ‹put = true ∨ (l_next.length : Int) ≤ t17› with hq | hq <;> first | exact Or.inl rfl | exact Or.inl hq | exact absurd ‹(!put) = true› (by rw [hq]; decide) | omega | (simp only [List.length_append, List.length_cons, List.length_nil]; omega) | (exact Or.inr (by simp only [List.length_append, List.length_cons, List.length_nil]; omega))))), (by first | omega | (simp; done) | (simp; omega) | ((rcases ‹put = true ∨ (l_next.length : Int) ≤ t17› with hq | hq <;> first | exact Or.inl rfl | exact Or.inl hq | exact absurd ‹(!put) = true› (by rw [hq]; decide) | omega | (simp only [List.length_append, List.length_cons, List.length_nil]; omega) | (exact Or.inr (by simp only [List.length_append, List.length_cons, List.length_nil]; omega))))), (by first | omega | (simp; done) | (simp; omega) | ((rcases ‹put = true ∨ (l_next.length : Int) ≤ t17› with hq | hq <;> first | exact Or.inl rfl | exact Or.inl hq | exact absurd ‹(!put) = true› (by rw [hq]; decide) | omega | (simp only [List.length_append, List.length_cons, List.length_nil]; omega) | (exact Or.inr (by simp only [List.length_append, List.length_cons, List.length_nil]; omega))))), (by omega), e⟩
      · intro μ2 next_a next_n next_e put t17 g7 g18 g19 g20 g21 g22 g23 g24 g25 g26 g27 g28 g29 g30 g31 g32 g33 g34 g35 g36 g37 g38 g39 g40 g41 g42 g43 g44 g45 g46 g47 H_4 hI
        obtain ⟨l_next, b_31, rfl, rfl, rfl, o_32, o_33, n_34, g_35, l_36, v_37, v_38, v_39, v_40, hμ, e⟩ := hI
        rw [spec_l05Sorted_r2]
        have e := e.trans (p_spec_l05Sorted_l2_s l_list l_vout t11 (fun (l_next : List Nat) (put : Bool) (t17 : Int) => (bif !put then (p_spec_l05Sorted_l1 l_list μ ((l_next ++ [(((l_list).getD (t11 : Int).toNat 0))])) (t11 + 1)) else (p_spec_l05Sorted_l1 l_list μ l_next (t11 + 1)))) μ2 l_next put t17)
        have w_41 := o_33.lt
        have w_42 := o_32.lt
        have l_43 := g_35.1
        refine Br.intro (fun c_44 => ?_) (fun c_44 => ?_)
        · have e := e.trans (cond_t c_44)
          have c_44' := of_decide_eq_true c_44
          refine Br.intro (fun c_45 => ?_) (fun c_45 => ?_)
          · have e := e.trans (cond_t c_45)
            have c_45n := nf_of_t c_45
            obtain ⟨b_46, f_47, q_48⟩ := ((i_list.grow g_35)).pos (by first | omega | (simp only [List.length_set, List.length_replicate, List.length_append, List.length_cons, List.length_nil, List.length_take, List.length_drop, marks_length]; done) | (simp only [List.length_set, List.length_replicate, List.length_append, List.length_cons, List.length_nil, List.length_take, List.length_drop, marks_length]; omega))
            refine ⟨by omega, by omega, b_46, f_47, q_48, ?_⟩
            refine ⟨((l_list).getD (t11 : Int).toNat 0), (i_list).rd g_35 q_48 (by omega) _, ?_⟩
            refine ⟨by omega, (by omega), _, _, rfl, ?_⟩
            refine ⟨((l_vout).getD (t17 : Int).toNat 0), o_33.rd (by first | omega | (simp only [List.length_set, List.length_replicate, List.length_append, List.length_cons, List.length_nil, List.length_take, List.length_drop, marks_length]; done) | (simp only [List.length_set, List.length_replicate, List.length_append, List.length_cons, List.length_nil, List.length_take, List.length_drop, marks_length]; omega)) _, ?_⟩
            refine Br.intro (fun c_49 => ?_) (fun c_49 => ?_)
            · have e := e.trans (cond_t c_49)
              obtain ⟨b_50, f_51, q_52⟩ := ((i_list.grow g_35)).pos (by first | omega | (simp only [List.length_set, List.length_replicate, List.length_append, List.length_cons, List.length_nil, List.length_take, List.length_drop, marks_length]; done) | (simp only [List.length_set, List.length_replicate, List.length_append, List.length_cons, List.length_nil, List.length_take, List.length_drop, marks_length]; omega))
              refine ⟨by omega, by omega, b_50, f_51, q_52, ?_⟩
              refine ⟨((l_list).getD (t11 : Int).toNat 0), (i_list).rd g_35 q_52 (by omega) _, ?_⟩
              refine Al.intro (fun b_53 H_5 hb_54 hl_55 g_56 o_57 => ?_)
              have o_57 : Own H_5 b_53 (([(((l_list).getD (t11 : Int).toNat 0))]).map fF) := o_57
              have l_59 := g_56.1
              have g_60 := g_35.trans g_56
              have l_61 := g_60.1
              have o_62 := o_33.grow g_56
              have w_63 := o_62.lt
              have o_64 := o_32.grow g_56
              have w_65 := o_64.lt
              have w_112 := o_57.lt
              refine ⟨_, _, o_64.ownB (by first | (simp only [List.length_map, List.length_cons, List.length_nil, List.length_append]; done) | (simp only [List.length_map, List.length_cons, List.length_nil, List.length_append]; omega)) rfl, (isl_rdS (o_57.isL (by first | rfl | omega | (simp only [List.length_set]; done) | (simp only [List.length_set, List.length_replicate]; omega)))), (fun h => by cases h), (by have := most_eq; omega), ?_⟩
              refine Ap.app o_64 rfl rfl (fun b_70 H_6 q_110 hl_66 o_67 k_68 => ?_)
              have o_67 := map_snoc o_67
              have l_71 := k_68.1
              have g_72 := g_60.keep (b := b_31) (by omega) k_68
              have l_73 := g_72.1
              have o_74 := o_62.keep (by omega) k_68
              have w_75 := o_74.lt
              have o_76 := o_57.keep (by omega) k_68
              have w_77 := o_76.lt
              have w_111 := o_67.lt
              refine ⟨by omega, (by omega), _, _, rfl, ?_⟩
              refine ⟨((l_vout).getD (t17 : Int).toNat 0), o_74.rd (by first | omega | (simp only [List.length_set, List.length_replicate, List.length_append, List.length_cons, List.length_nil, List.length_take, List.length_drop, marks_length]; done) | (simp only [List.length_set, List.length_replicate, List.length_append, List.length_cons, List.length_nil, List.length_take, List.length_drop, marks_length]; omega)) _, ?_⟩
              refine Al.intro (fun b_78 H_7 hb_79 hl_80 g_81 o_82 => ?_)
              have o_82 : Own H_7 b_78 (([(((l_vout).getD (t17 : Int).toNat 0))]).map fF) := o_82
              have l_84 := g_81.1
              have g_85 := g_72.trans g_81
              have l_86 := g_85.1
              have o_87 := o_74.grow g_81
              have w_88 := o_87.lt
              have o_89 := o_76.grow g_81
              have w_90 := o_89.lt
              have o_91 := o_67.grow g_81
              have w_92 := o_91.lt
              have w_109 := o_82.lt
              refine ⟨_, _, o_91.ownB (by first | (simp only [List.length_map, List.length_cons, List.length_nil, List.length_append]; done) | (simp only [List.length_map, List.length_cons, List.length_nil, List.length_append]; omega)) rfl, (isl_rdS (o_82.isL (by first | rfl | omega | (simp only [List.length_set]; done) | (simp only [List.length_set, List.length_replicate]; omega)))), (fun h => by cases h), (by have := most_eq; omega), ?_⟩
              refine Ap.app o_91 rfl rfl (fun b_97 H_8 q_107 hl_93 o_94 k_95 => ?_)
              have o_94 := map_snoc o_94
              have l_98 := k_95.1
              have g_99 := g_85.keep (b := b_70) (by omega) k_95
              have l_100 := g_99.1
              have o_101 := o_87.keep (by omega) k_95
              have w_102 := o_101.lt
              have o_103 := o_89.keep (by omega) k_95
              have w_104 := o_103.lt
              have o_105 := o_82.keep (by omega) k_95
              have w_106 := o_105.lt
              have w_108 := o_94.lt
              rw [show IntKind.wrap .i64 (t17 + 1) = (t17 + 1) from wrap64 (by omega) (by omega)]
              refine spec_l05Sorted_n2 (μ2 - 1) (by first | omega) ⟨_, _, rfl, (by first | (simp only [List.length_append, List.length_cons, List.length_nil]; done) | (simp only [List.length_append, List.length_cons, List.length_nil]; omega) | (simp only [List.length_append, List.length_cons, List.length_nil, List.length_take, List.length_drop]; omega)), rfl, o_94, o_101, (by omega), g_99, (by omega), (by first | omega | ((rcases ‹put = true ∨ (l_next.length : Int) ≤ t17› with hq | hq <;> first | exact Or.inl rfl | exact Or.inl hq | exact absurd ‹(!put) = true› (by rw [hq]; decide) | omega | (simp only [List.length_append, List.length_cons, List.length_nil]; omega) | (exact Or.inr (by simp only [List.length_append, List.length_cons, List.length_nil]; omega)))) | (simp only [List.length_append, List.length_cons, List.length_nil, List.length_set]; done) | (simp only [List.length_append, List.length_cons, List.length_nil, List.length_set]; omega)), (by first | omega | ((rcases ‹put = true ∨ (l_next.length : Int) ≤ t17› with hq | hq <;> first | exact Or.inl rfl | exact Or.inl hq | exact absurd ‹(!put) = true› (by rw [hq]; decide) | omega | (simp only [List.length_append, List.length_cons, List.length_nil]; omega) | (exact Or.inr (by simp only [List.length_append, List.length_cons, List.length_nil]; omega)))) | (simp only [List.length_append, List.length_cons, List.length_nil, List.length_set]; done) | (simp only [List.length_append, List.length_cons, List.length_nil, List.length_set]; omega)), (by first | omega | ((rcases ‹put = true ∨ (l_next.length : Int) ≤ t17› with hq | hq <;> first | exact Or.inl rfl | exact Or.inl hq | exact absurd ‹(!put) = true› (by rw [hq]; decide) | omega | (simp only [List.length_append, List.length_cons, List.length_nil]; omega) | (exact Or.inr (by simp only [List.length_append, List.length_cons, List.length_nil]; omega)))) | (simp only [List.length_append, List.length_cons, List.length_nil, List.length_set]; done) | (simp only [List.length_append, List.length_cons, List.length_nil, List.length_set]; omega)), (by first | omega | ((rcases ‹put = true ∨ (l_next.length : Int) ≤ t17› with hq | hq <;> first | exact Or.inl rfl | exact Or.inl hq | exact absurd ‹(!put) = true› (by rw [hq]; decide) | omega | (simp only [List.length_append, List.length_cons, List.length_nil]; omega) | (exact Or.inr (by simp only [List.length_append, List.length_cons, List.length_nil]; omega)))) | (simp only [List.length_append, List.length_cons, List.length_nil, List.length_set]; done) | (simp only [List.length_append, List.length_cons, List.length_nil, List.length_set]; omega)), (by first | omega), (by rw [show μ2 - 1 + 1 = μ2 from by first | omega]; exact e)⟩
            · have e := e.trans (cond_f c_49)
              refine ⟨by omega, (by omega), _, _, rfl, ?_⟩
              refine ⟨((l_vout).getD (t17 : Int).toNat 0), o_33.rd (by first | omega | (simp only [List.length_set, List.length_replicate, List.length_append, List.length_cons, List.length_nil, List.length_take, List.length_drop, marks_length]; done) | (simp only [List.length_set, List.length_replicate, List.length_append, List.length_cons, List.length_nil, List.length_take, List.length_drop, marks_length]; omega)) _, ?_⟩
              refine Al.intro (fun b_113 H_9 hb_114 hl_115 g_116 o_117 => ?_)
              have o_117 : Own H_9 b_113 (([(((l_vout).getD (t17 : Int).toNat 0))]).map fF) := o_117
              have l_119 := g_116.1
              have g_120 := g_35.trans g_116
              have l_121 := g_120.1
              have o_122 := o_33.grow g_116
              have w_123 := o_122.lt
              have o_124 := o_32.grow g_116
              have w_125 := o_124.lt
              have w_140 := o_117.lt
              refine ⟨_, _, o_124.ownB (by first | (simp only [List.length_map, List.length_cons, List.length_nil, List.length_append]; done) | (simp only [List.length_map, List.length_cons, List.length_nil, List.length_append]; omega)) rfl, (isl_rdS (o_117.isL (by first | rfl | omega | (simp only [List.length_set]; done) | (simp only [List.length_set, List.length_replicate]; omega)))), (fun h => by cases h), (by have := most_eq; omega), ?_⟩
              refine Ap.app o_124 rfl rfl (fun b_130 H_10 q_138 hl_126 o_127 k_128 => ?_)
              have o_127 := map_snoc o_127
              have l_131 := k_128.1
              have g_132 := g_120.keep (b := b_31) (by omega) k_128
              have l_133 := g_132.1
              have o_134 := o_122.keep (by omega) k_128
              have w_135 := o_134.lt
              have o_136 := o_117.keep (by omega) k_128
              have w_137 := o_136.lt
              have w_139 := o_127.lt
              rw [show IntKind.wrap .i64 (t17 + 1) = (t17 + 1) from wrap64 (by omega) (by omega)]
              refine spec_l05Sorted_n2 (μ2 - 1) (by first | omega) ⟨_, _, rfl, (by first | (simp only [List.length_append, List.length_cons, List.length_nil]; done) | (simp only [List.length_append, List.length_cons, List.length_nil]; omega) | (simp only [List.length_append, List.length_cons, List.length_nil, List.length_take, List.length_drop]; omega)), rfl, o_127, o_134, (by omega), g_132, (by omega), (by first | omega | ((rcases ‹put = true ∨ (l_next.length : Int) ≤ t17› with hq | hq <;> first | exact Or.inl rfl | exact Or.inl hq | exact absurd ‹(!put) = true› (by rw [hq]; decide) | omega | (simp only [List.length_append, List.length_cons, List.length_nil]; omega) | (exact Or.inr (by simp only [List.length_append, List.length_cons, List.length_nil]; omega)))) | (simp only [List.length_append, List.length_cons, List.length_nil, List.length_set]; done) | (simp only [List.length_append, List.length_cons, List.length_nil, List.length_set]; omega)), (by first | omega | ((rcases ‹put = true ∨ (l_next.length : Int) ≤ t17› with hq | hq <;> first | exact Or.inl rfl | exact Or.inl hq | exact absurd ‹(!put) = true› (by rw [hq]; decide) | omega | (simp only [List.length_append, List.length_cons, List.length_nil]; omega) | (exact Or.inr (by simp only [List.length_append, List.length_cons, List.length_nil]; omega)))) | (simp only [List.length_append, List.length_cons, List.length_nil, List.length_set]; done) | (simp only [List.length_append, List.length_cons, List.length_nil, List.length_set]; omega)), (by first | omega | ((rcases ‹put = true ∨ (l_next.length : Int) ≤ t17› with hq | hq <;> first | exact Or.inl rfl | exact Or.inl hq | exact absurd ‹(!put) = true› (by rw [hq]; decide) | omega | (simp only [List.length_append, List.length_cons, List.length_nil]; omega) | (exact Or.inr (by simp only [List.length_append, List.length_cons, List.length_nil]; omega)))) | (simp only [List.length_append, List.length_cons, List.length_nil, List.length_set]; done) | (simp only [List.length_append, List.length_cons, List.length_nil, List.length_set]; omega)), (by first | omega | ((rcases ‹put = true ∨ (l_next.length : Int) ≤ t17› with hq | hq <;> first | exact Or.inl rfl | exact Or.inl hq | exact absurd ‹(!put) = true› (by rw [hq]; decide) | omega | (simp only [List.length_append, List.length_cons, List.length_nil]; omega) | (exact Or.inr (by simp only [List.length_append, List.length_cons, List.length_nil]; omega)))) | (simp only [List.length_append, List.length_cons, List.length_nil, List.length_set]; done) | (simp only [List.length_append, List.length_cons, List.length_nil, List.length_set]; omega)), (by first | omega), (by rw [show μ2 - 1 + 1 = μ2 from by first | omega]; exact e)⟩
          · have e := e.trans (cond_f c_45)
            have c_45n := nt_of_f c_45
            refine ⟨by omega, (by omega), _, _, rfl, ?_⟩
            refine ⟨((l_vout).getD (t17 : Int).toNat 0), o_33.rd (by first | omega | (simp only [List.length_set, List.length_replicate, List.length_append, List.length_cons, List.length_nil, List.length_take, List.length_drop, marks_length]; done) | (simp only [List.length_set, List.length_replicate, List.length_append, List.length_cons, List.length_nil, List.length_take, List.length_drop, marks_length]; omega)) _, ?_⟩
            refine Al.intro (fun b_141 H_11 hb_142 hl_143 g_144 o_145 => ?_)
            have o_145 : Own H_11 b_141 (([(((l_vout).getD (t17 : Int).toNat 0))]).map fF) := o_145
            have l_147 := g_144.1
            have g_148 := g_35.trans g_144
            have l_149 := g_148.1
            have o_150 := o_33.grow g_144
            have w_151 := o_150.lt
            have o_152 := o_32.grow g_144
            have w_153 := o_152.lt
            have w_168 := o_145.lt
            refine ⟨_, _, o_152.ownB (by first | (simp only [List.length_map, List.length_cons, List.length_nil, List.length_append]; done) | (simp only [List.length_map, List.length_cons, List.length_nil, List.length_append]; omega)) rfl, (isl_rdS (o_145.isL (by first | rfl | omega | (simp only [List.length_set]; done) | (simp only [List.length_set, List.length_replicate]; omega)))), (fun h => by cases h), (by have := most_eq; omega), ?_⟩
            refine Ap.app o_152 rfl rfl (fun b_158 H_12 q_166 hl_154 o_155 k_156 => ?_)
            have o_155 := map_snoc o_155
            have l_159 := k_156.1
            have g_160 := g_148.keep (b := b_31) (by omega) k_156
            have l_161 := g_160.1
            have o_162 := o_150.keep (by omega) k_156
            have w_163 := o_162.lt
            have o_164 := o_145.keep (by omega) k_156
            have w_165 := o_164.lt
            have w_167 := o_155.lt
            rw [show IntKind.wrap .i64 (t17 + 1) = (t17 + 1) from wrap64 (by omega) (by omega)]
            refine spec_l05Sorted_n2 (μ2 - 1) (by first | omega) ⟨_, _, rfl, (by first | (simp only [List.length_append, List.length_cons, List.length_nil]; done) | (simp only [List.length_append, List.length_cons, List.length_nil]; omega) | (simp only [List.length_append, List.length_cons, List.length_nil, List.length_take, List.length_drop]; omega)), rfl, o_155, o_162, (by omega), g_160, (by omega), (by first | omega | ((rcases ‹put = true ∨ (l_next.length : Int) ≤ t17› with hq | hq <;> first | exact Or.inl rfl | exact Or.inl hq | exact absurd ‹(!put) = true› (by rw [hq]; decide) | omega | (simp only [List.length_append, List.length_cons, List.length_nil]; omega) | (exact Or.inr (by simp only [List.length_append, List.length_cons, List.length_nil]; omega)))) | (simp only [List.length_append, List.length_cons, List.length_nil, List.length_set]; done) | (simp only [List.length_append, List.length_cons, List.length_nil, List.length_set]; omega)), (by first | omega | ((rcases ‹put = true ∨ (l_next.length : Int) ≤ t17› with hq | hq <;> first | exact Or.inl rfl | exact Or.inl hq | exact absurd ‹(!put) = true› (by rw [hq]; decide) | omega | (simp only [List.length_append, List.length_cons, List.length_nil]; omega) | (exact Or.inr (by simp only [List.length_append, List.length_cons, List.length_nil]; omega)))) | (simp only [List.length_append, List.length_cons, List.length_nil, List.length_set]; done) | (simp only [List.length_append, List.length_cons, List.length_nil, List.length_set]; omega)), (by first | omega | ((rcases ‹put = true ∨ (l_next.length : Int) ≤ t17› with hq | hq <;> first | exact Or.inl rfl | exact Or.inl hq | exact absurd ‹(!put) = true› (by rw [hq]; decide) | omega | (simp only [List.length_append, List.length_cons, List.length_nil]; omega) | (exact Or.inr (by simp only [List.length_append, List.length_cons, List.length_nil]; omega)))) | (simp only [List.length_append, List.length_cons, List.length_nil, List.length_set]; done) | (simp only [List.length_append, List.length_cons, List.length_nil, List.length_set]; omega)), (by first | omega | ((rcases ‹put = true ∨ (l_next.length : Int) ≤ t17› with hq | hq <;> first | exact Or.inl rfl | exact Or.inl hq | exact absurd ‹(!put) = true› (by rw [hq]; decide) | omega | (simp only [List.length_append, List.length_cons, List.length_nil]; omega) | (exact Or.inr (by simp only [List.length_append, List.length_cons, List.length_nil]; omega)))) | (simp only [List.length_append, List.length_cons, List.length_nil, List.length_set]; done) | (simp only [List.length_append, List.length_cons, List.length_nil, List.length_set]; omega)), (by first | omega), (by rw [show μ2 - 1 + 1 = μ2 from by first | omega]; exact e)⟩
        · have e := e.trans (cond_f c_44)
          have c_44' := of_decide_eq_false c_44
          rw [spec_l05Sorted_x2_2]
          refine Br.intro (fun c_169 => ?_) (fun c_169 => ?_)
          · have e := e.trans (cond_t c_169)
            have c_169n := nf_of_t c_169
            obtain ⟨b_170, f_171, q_172⟩ := ((i_list.grow g_35)).pos (by first | omega | (simp only [List.length_set, List.length_replicate, List.length_append, List.length_cons, List.length_nil, List.length_take, List.length_drop, marks_length]; done) | (simp only [List.length_set, List.length_replicate, List.length_append, List.length_cons, List.length_nil, List.length_take, List.length_drop, marks_length]; omega))
            refine ⟨by omega, by omega, b_170, f_171, q_172, ?_⟩
            refine ⟨((l_list).getD (t11 : Int).toNat 0), (i_list).rd g_35 q_172 (by omega) _, ?_⟩
            refine Al.intro (fun b_173 H_13 hb_174 hl_175 g_176 o_177 => ?_)
            have o_177 : Own H_13 b_173 (([(((l_list).getD (t11 : Int).toNat 0))]).map fF) := o_177
            have l_179 := g_176.1
            have g_180 := g_35.trans g_176
            have l_181 := g_180.1
            have o_182 := o_33.grow g_176
            have w_183 := o_182.lt
            have o_184 := o_32.grow g_176
            have w_185 := o_184.lt
            have w_200 := o_177.lt
            refine ⟨_, _, o_184.ownB (by first | (simp only [List.length_map, List.length_cons, List.length_nil, List.length_append]; done) | (simp only [List.length_map, List.length_cons, List.length_nil, List.length_append]; omega)) rfl, (isl_rdS (o_177.isL (by first | rfl | omega | (simp only [List.length_set]; done) | (simp only [List.length_set, List.length_replicate]; omega)))), (fun h => by cases h), (by have := most_eq; omega), ?_⟩
            refine Ap.app o_184 rfl rfl (fun b_190 H_14 q_198 hl_186 o_187 k_188 => ?_)
            have o_187 := map_snoc o_187
            have l_191 := k_188.1
            have g_192 := g_180.keep (b := b_31) (by omega) k_188
            have l_193 := g_192.1
            have o_194 := o_182.keep (by omega) k_188
            have w_195 := o_194.lt
            have o_196 := o_177.keep (by omega) k_188
            have w_197 := o_196.lt
            have w_199 := o_187.lt
            rw [show IntKind.wrap .i64 (t11 + 1) = (t11 + 1) from wrap64 (by omega) (by omega)]
            refine spec_l05Sorted_n1 (μ - 1) (by first | omega) ⟨_, _, rfl, (by first | (simp only [List.length_append, List.length_cons, List.length_nil]; done) | (simp only [List.length_append, List.length_cons, List.length_nil]; omega) | (simp only [List.length_append, List.length_cons, List.length_nil, List.length_take, List.length_drop]; omega)), rfl, o_187, g_192, (by omega), (by first | omega | ((rcases ‹put = true ∨ (l_next.length : Int) ≤ t17› with hq | hq <;> first | exact Or.inl rfl | exact Or.inl hq | exact absurd ‹(!put) = true› (by rw [hq]; decide) | omega | (simp only [List.length_append, List.length_cons, List.length_nil]; omega) | (exact Or.inr (by simp only [List.length_append, List.length_cons, List.length_nil]; omega)))) | (simp only [List.length_append, List.length_cons, List.length_nil, List.length_set]; done) | (simp only [List.length_append, List.length_cons, List.length_nil, List.length_set]; omega)), (by first | omega | ((rcases ‹put = true ∨ (l_next.length : Int) ≤ t17› with hq | hq <;> first | exact Or.inl rfl | exact Or.inl hq | exact absurd ‹(!put) = true› (by rw [hq]; decide) | omega | (simp only [List.length_append, List.length_cons, List.length_nil]; omega) | (exact Or.inr (by simp only [List.length_append, List.length_cons, List.length_nil]; omega)))) | (simp only [List.length_append, List.length_cons, List.length_nil, List.length_set]; done) | (simp only [List.length_append, List.length_cons, List.length_nil, List.length_set]; omega)), (by first | omega | ((rcases ‹put = true ∨ (l_next.length : Int) ≤ t17› with hq | hq <;> first | exact Or.inl rfl | exact Or.inl hq | exact absurd ‹(!put) = true› (by rw [hq]; decide) | omega | (simp only [List.length_append, List.length_cons, List.length_nil]; omega) | (exact Or.inr (by simp only [List.length_append, List.length_cons, List.length_nil]; omega)))) | (simp only [List.length_append, List.length_cons, List.length_nil, List.length_set]; done) | (simp only [List.length_append, List.length_cons, List.length_nil, List.length_set]; omega)), (by first | omega), (by rw [show μ - 1 + 1 = μ from by first | omega]; exact e)⟩
          · have e := e.trans (cond_f c_169)
            have c_169n := nt_of_f c_169
            rw [show IntKind.wrap .i64 (t11 + 1) = (t11 + 1) from wrap64 (by omega) (by omega)]
            refine spec_l05Sorted_n1 (μ - 1) (by first | omega) ⟨_, _, rfl, (by first | rfl | omega | (simp only [List.length_set]; done) | (simp only [List.length_set, List.length_replicate]; omega)), rfl, o_32, g_35, (by omega), (by first | omega | ((rcases ‹put = true ∨ (l_next.length : Int) ≤ t17› with hq | hq <;> first | exact Or.inl rfl | exact Or.inl hq | exact absurd ‹(!put) = true› (by rw [hq]; decide) | omega | (simp only [List.length_append, List.length_cons, List.length_nil]; omega) | (exact Or.inr (by simp only [List.length_append, List.length_cons, List.length_nil]; omega)))) | (simp only [List.length_append, List.length_cons, List.length_nil, List.length_set]; done) | (simp only [List.length_append, List.length_cons, List.length_nil, List.length_set]; omega)), (by first | omega | ((rcases ‹put = true ∨ (l_next.length : Int) ≤ t17› with hq | hq <;> first | exact Or.inl rfl | exact Or.inl hq | exact absurd ‹(!put) = true› (by rw [hq]; decide) | omega | (simp only [List.length_append, List.length_cons, List.length_nil]; omega) | (exact Or.inr (by simp only [List.length_append, List.length_cons, List.length_nil]; omega)))) | (simp only [List.length_append, List.length_cons, List.length_nil, List.length_set]; done) | (simp only [List.length_append, List.length_cons, List.length_nil, List.length_set]; omega)), (by first | omega | ((rcases ‹put = true ∨ (l_next.length : Int) ≤ t17› with hq | hq <;> first | exact Or.inl rfl | exact Or.inl hq | exact absurd ‹(!put) = true› (by rw [hq]; decide) | omega | (simp only [List.length_append, List.length_cons, List.length_nil]; omega) | (exact Or.inr (by simp only [List.length_append, List.length_cons, List.length_nil]; omega)))) | (simp only [List.length_append, List.length_cons, List.length_nil, List.length_set]; done) | (simp only [List.length_append, List.length_cons, List.length_nil, List.length_set]; omega)), (by first | omega), (by rw [show μ - 1 + 1 = μ from by first | omega]; exact e)⟩
    · have e := e.trans (cond_f c_19)
      have c_19' := of_decide_eq_false c_19
      rw [spec_l05Sorted_x1_0]
      rw [e] at hk
      exact hk _ _ _ H_2 g_12 (o_11.ownS (by first | rfl | omega | (simp only [List.length_set]; done) | (simp only [List.length_set, List.length_replicate]; omega)) (by omega))
theorem spec_l05Sorted_ok : FnOk Try.prog 126 S_spec_l05Sorted := by
  refine FnOk.body mix_ok E_spec_l05Sorted_ok Try.func126 rfl (by kernel_rfl) (by kernel_rfl) ?_ ?_ ?_ ?_ ?_
  · intro args H K K' h hk
    simp only [S_spec_l05Sorted] at *
    unfold F_spec_l05Sorted at *
    split at hk
    · obtain ⟨l_list, i_list, bd_203, k⟩ := hk
      exact ⟨l_list, i_list, bd_203, (fun r1_a r1_n r1_e H' gg ow0 => h _ _ (k r1_a r1_n r1_e H' gg ow0))⟩
    · exact hk.elim
  · intro hq; cases hq
  · intro args H K hk
    simp only [S_spec_l05Sorted] at *
    unfold F_spec_l05Sorted at *
    split at hk
    · obtain ⟨l_list, i_list, bd_203, k⟩ := hk
      exact liveS fun a n e H1 g o => ⟨_, _, k a n e H1 g o⟩
    · exact hk.elim
  · intro _ args H K hk
    simp only [S_spec_l05Sorted] at *
    unfold F_spec_l05Sorted at *
    split at hk
    · obtain ⟨l_list, i_list, bd_203, k⟩ := hk
      exact ⟨l_list, i_list, bd_203, (fun r1_a r1_n r1_e H' gg ow0 => ⟨gg, k r1_a r1_n r1_e H' gg ow0⟩)⟩
    · exact hk.elim
  · have mm := @spec_l05Sorted_main
    revert mm
    generalize bodyK Try.prog E_spec_l05Sorted Try.f126 = Q
    intro mm args H K hk
    simp only [S_spec_l05Sorted] at *
    unfold F_spec_l05Sorted at *
    split at hk
    · exact mm _ _ _ H K hk
    · exact hk.elim

def p_spec_l05Median (l_list : List Nat) : Nat := (((p_spec_l05Sorted l_list)).getD ((Int.tdiv (((l_list.length : Int) - 1)) 2) : Int).toNat 0)
theorem p_spec_l05Median_eq (l_list : List Nat) : p_spec_l05Median l_list = (((p_spec_l05Sorted l_list)).getD ((Int.tdiv (((l_list.length : Int) - 1)) 2) : Int).toNat 0) := rfl
def T_spec_l05Median (list_a : Option Addr) (list_n : Nat) (list_e : Nat) (H : AHeap) (K : Nat → AHeap → Prop) : Prop := ∃ (l_list : List Nat), IsL fF H list_a list_n l_list ∧ l_list.length < 1073741824 ∧ 0 < l_list.length ∧ ((∀ H' : AHeap, Grow H H' → K (p_spec_l05Median l_list) H'))
theorem T_spec_l05Median_i {list_a : Option Addr} {list_n : Nat} {list_e : Nat} {H : AHeap} {K : Nat → AHeap → Prop} (h : ∃ (l_list : List Nat), IsL fF H list_a list_n l_list ∧ l_list.length < 1073741824 ∧ 0 < l_list.length ∧ ((∀ H' : AHeap, Grow H H' → K (p_spec_l05Median l_list) H'))) : T_spec_l05Median list_a list_n list_e H K := h

/-! spec_l05Median: function 86 -/
def E_spec_l05Median : Env := envOf [(126, S_spec_l05Sorted)]
def F_spec_l05Median : List Value → AHeap → (Value → AHeap → Prop) → Prop
  | [.slice list_a list_n list_e], H, K => T_spec_l05Median list_a list_n list_e H fun (r1 : Nat) (H' : AHeap) => K (.float .f32 r1) H'
  | _, _, _ => False
def S_spec_l05Median : FSpec := { F := F_spec_l05Median, quiet := false, tame := true }
theorem spec_l05Median_vc (list_a : Option Addr) (list_n : Nat) (list_e : Nat) (H : AHeap) (K : Value → AHeap → Prop) : bodyK Try.prog E_spec_l05Median Try.f86 [.slice list_a list_n list_e] H K =
  (T_spec_l05Sorted list_a list_n list_e H fun (a1 : Option Addr) (r1 : Nat) (r2 : Nat) (H1 : AHeap) => 2 ≠ (0 : Int) ∧ (0 : Int) ≤ IntKind.wrap .i64 (Int.tdiv (IntKind.wrap .i64 ((list_n : Int) - 1)) 2) ∧ IntKind.wrap .i64 (Int.tdiv (IntKind.wrap .i64 ((list_n : Int) - 1)) 2) < (r1 : Int) ∧ ∃ b1 f1, (a1 : Option Addr) = some ⟨b1, f1, none⟩ ∧ ∃ x1 : Nat,  rdC H1 b1 (f1 + (IntKind.wrap .i64 (Int.tdiv (IntKind.wrap .i64 ((list_n : Int) - 1)) 2) : Int).toNat * 1) = some (.float .f32 x1) ∧ K (.float .f32 x1) H1) := by kernel_rfl
theorem E_spec_l05Median_ok : ∀ g, FnOk Try.prog g (E_spec_l05Median g) := FnOk.envOf (by
  intro x hx
  simp only [List.mem_cons, List.not_mem_nil, or_false] at hx
  subst hx; exact spec_l05Sorted_ok)
set_option maxHeartbeats 1000000 in
theorem spec_l05Median_main (list_a : Option Addr) (list_n : Nat) (list_e : Nat) (H : AHeap) (K : Value → AHeap → Prop) (h : T_spec_l05Median list_a list_n list_e H fun (r1 : Nat) (H' : AHeap) => K (.float .f32 r1) H') : bodyK Try.prog E_spec_l05Median Try.f86 [.slice list_a list_n list_e] H K := by
  rw [spec_l05Median_vc]
  obtain ⟨l_list, i_list, bd_17, pr0, hk⟩ := h
  obtain rfl := i_list.eqn
  have e : (p_spec_l05Median l_list) = _ := rfl
  have e := e.trans (p_spec_l05Median_eq l_list)
  have g0 := Grow.refl H
  refine T_spec_l05Sorted_i ⟨_, (i_list.grow g0), (by first | omega | (simp only [List.length_set, List.length_replicate, List.length_append, List.length_cons, List.length_nil, List.length_take, List.length_drop, marks_length]; done) | (simp only [List.length_set, List.length_replicate, List.length_append, List.length_cons, List.length_nil, List.length_take, List.length_drop, marks_length]; omega)), fun a_1 n_2 e_3 H_1 g_6 r_4 => ?_⟩
  have z_5 := l05Sorted_len l_list
  have l_7 := g_6.1
  have g_8 := g0.trans g_6
  have l_9 := g_8.1
  obtain rfl := r_4.isL.eqn
  have u_10 := r_4.up
  have u_11 := r_4.lo
  rw [show IntKind.wrap .i64 ((l_list.length : Int) - 1) = ((l_list.length : Int) - 1) from wrap64 (by omega) (by omega)]
  have z_13 := tdiv_nn (((l_list.length : Int) - 1)) 2
  refine ⟨(by first | omega | decide | (simp; done) | (simp; omega)), ?_⟩
  rw [show IntKind.wrap .i64 (Int.tdiv (((l_list.length : Int) - 1)) 2) = (Int.tdiv (((l_list.length : Int) - 1)) 2) from wrap64 (by omega) (by omega)]
  obtain ⟨b_14, f_15, q_16⟩ := (r_4.isL).pos (by first | omega | (simp only [List.length_set, List.length_replicate, List.length_append, List.length_cons, List.length_nil, List.length_take, List.length_drop, marks_length]; done) | (simp only [List.length_set, List.length_replicate, List.length_append, List.length_cons, List.length_nil, List.length_take, List.length_drop, marks_length]; omega))
  refine ⟨by omega, by omega, b_14, f_15, q_16, ?_⟩
  refine ⟨(((p_spec_l05Sorted l_list)).getD ((Int.tdiv (((l_list.length : Int) - 1)) 2) : Int).toNat 0), (r_4.isL).rd (Grow.refl _) q_16 (by omega) _, ?_⟩
  rw [e] at hk
  exact hk  H_1 g_8 
theorem spec_l05Median_ok : FnOk Try.prog 86 S_spec_l05Median := by
  refine FnOk.body mix_ok E_spec_l05Median_ok Try.func86 rfl (by kernel_rfl) (by kernel_rfl) ?_ ?_ ?_ ?_ ?_
  · intro args H K K' h hk
    simp only [S_spec_l05Median] at *
    unfold F_spec_l05Median at *
    split at hk
    · obtain ⟨l_list, i_list, bd_17, pr0, k⟩ := hk
      exact ⟨l_list, i_list, bd_17, pr0, (fun  H' gg  => h _ _ (k  H' gg ))⟩
    · exact hk.elim
  · intro hq; cases hq
  · intro args H K hk
    simp only [S_spec_l05Median] at *
    unfold F_spec_l05Median at *
    split at hk
    · obtain ⟨l_list, i_list, bd_17, pr0, k⟩ := hk
      exact ⟨_, _, k H (Grow.refl H)⟩
    · exact hk.elim
  · intro _ args H K hk
    simp only [S_spec_l05Median] at *
    unfold F_spec_l05Median at *
    split at hk
    · obtain ⟨l_list, i_list, bd_17, pr0, k⟩ := hk
      exact ⟨l_list, i_list, bd_17, pr0, (fun  H' gg  => ⟨gg, k  H' gg ⟩)⟩
    · exact hk.elim
  · have mm := @spec_l05Median_main
    revert mm
    generalize bodyK Try.prog E_spec_l05Median Try.f86 = Q
    intro mm args H K hk
    simp only [S_spec_l05Median] at *
    unfold F_spec_l05Median at *
    split at hk
    · exact mm _ _ _ H K hk
    · exact hk.elim
def p_spec_l03Size (x : Nat) : Nat := (bif fle .f32 x 0 then fsub .f32 0 x else x)
theorem p_spec_l03Size_eq (x : Nat) : p_spec_l03Size x = (bif fle .f32 x 0 then fsub .f32 0 x else x) := rfl
def T_spec_l03Size (x : Nat) (H : AHeap) (K : Nat → AHeap → Prop) : Prop := K (p_spec_l03Size x) H

theorem T_spec_l03Size_i {x : Nat} {H : AHeap} {K : Nat → AHeap → Prop} (h : K (p_spec_l03Size x) H) : T_spec_l03Size x H K := h
/-! spec_l03Size: function 135 -/
def E_spec_l03Size : Env := envOf []
def F_spec_l03Size : List Value → AHeap → (Value → AHeap → Prop) → Prop
  | [.float .f32 x], H, K => T_spec_l03Size x H fun (r1 : Nat) (H' : AHeap) => K (.float .f32 r1) H'
  | _, _, _ => False
def S_spec_l03Size : FSpec := { F := F_spec_l03Size, quiet := true, tame := false }
theorem spec_l03Size_vc (x : Nat) (H : AHeap) (K : Value → AHeap → Prop) : bodyK Try.prog E_spec_l03Size Try.f135 [.float .f32 x] H K =
  (Br (fle .f32 x 0) (K (.float .f32 (fsub .f32 0 x)) H) (K (.float .f32 x) H)) := by kernel_rfl
theorem E_spec_l03Size_ok : ∀ g, FnOk Try.prog g (E_spec_l03Size g) := FnOk.envOf (by
  intro x hx; cases hx)
set_option maxHeartbeats 1000000 in
theorem spec_l03Size_main (x : Nat) (H : AHeap) (K : Value → AHeap → Prop) (h : T_spec_l03Size x H fun (r1 : Nat) (H' : AHeap) => K (.float .f32 r1) H') : bodyK Try.prog E_spec_l03Size Try.f135 [.float .f32 x] H K := by
  rw [spec_l03Size_vc]
  unfold T_spec_l03Size p_spec_l03Size at h
  repeat' (first | exact h | (exfalso; simp_all; done) | (refine ⟨by decide, ?_⟩) | (refine Br.intro (fun hb => ?_) (fun hb => ?_) <;> (try simp only [hb, cond_true, cond_false, Bool.not_true, Bool.not_false] at h)))
theorem spec_l03Size_ok : FnOk Try.prog 135 S_spec_l03Size := by
  refine FnOk.body mix_ok E_spec_l03Size_ok Try.func135 rfl (by kernel_rfl) (by kernel_rfl) ?_ ?_ ?_ ?_ ?_
  · intro args H K K' h hk
    simp only [S_spec_l03Size] at *
    unfold F_spec_l03Size at *
    split at hk
    · have k := hk
      exact h _ _ k
    · exact hk.elim
  · intro _ args H K hk
    simp only [S_spec_l03Size] at *
    unfold F_spec_l03Size at *
    split at hk
    · have k := hk
      exact ⟨_, k, fun K' k' => k'⟩
    · exact hk.elim
  · intro args H K hk
    simp only [S_spec_l03Size] at *
    unfold F_spec_l03Size at *
    split at hk
    · have k := hk
      exact ⟨_, _, k⟩
    · exact hk.elim
  · intro hq; cases hq
  · have mm := @spec_l03Size_main
    revert mm
    generalize bodyK Try.prog E_spec_l03Size Try.f135 = Q
    intro mm args H K hk
    simp only [S_spec_l03Size] at *
    unfold F_spec_l03Size at *
    split at hk
    · exact mm _ H K hk
    · exact hk.elim

def p_spec_l05Sizes_l1 (l_list : List Nat) (m : Nat) : Nat → (List Nat) → Int → (List Nat)
  | 0, _, _ => []
  | μ + 1, l_vout, t10 => (bif decide ((t10 : Int) < (l_list.length : Int)) then (p_spec_l05Sizes_l1 l_list m μ ((l_vout ++ [((p_spec_l03Size (fsub .f32 (((l_list).getD (t10 : Int).toNat 0)) m)))])) (t10 + 1)) else l_vout)
theorem p_spec_l05Sizes_l1_s (l_list : List Nat) (m : Nat) (μ : Nat) (l_vout : List Nat) (t10 : Int) : p_spec_l05Sizes_l1 l_list m (μ + 1) l_vout t10 = (bif decide ((t10 : Int) < (l_list.length : Int)) then (p_spec_l05Sizes_l1 l_list m μ ((l_vout ++ [((p_spec_l03Size (fsub .f32 (((l_list).getD (t10 : Int).toNat 0)) m)))])) (t10 + 1)) else l_vout) := rfl
def p_spec_l05Sizes (l_list : List Nat) (m : Nat) : (List Nat) := (p_spec_l05Sizes_l1 l_list m (Int.toNat ((l_list.length : Int) - (0 : Int)) + 1) ([] : List Nat) (0 : Int))
theorem p_spec_l05Sizes_eq (l_list : List Nat) (m : Nat) : p_spec_l05Sizes l_list m = (p_spec_l05Sizes_l1 l_list m (Int.toNat ((l_list.length : Int) - (0 : Int)) + 1) ([] : List Nat) (0 : Int)) := rfl
def T_spec_l05Sizes (list_a : Option Addr) (list_n : Nat) (list_e : Nat) (m : Nat) (H : AHeap) (K : (Option Addr) → Nat → Nat → AHeap → Prop) : Prop := ∃ (l_list : List Nat), IsL fF H list_a list_n l_list ∧ l_list.length < 1073741824 ∧ ((∀ (r1_a : Option Addr) (r1_n r1_e : Nat), ∀ H' : AHeap, Grow H H' → OwnS fF H' H.length r1_a r1_n r1_e (p_spec_l05Sizes l_list m) → K r1_a r1_n r1_e H'))
theorem T_spec_l05Sizes_i {list_a : Option Addr} {list_n : Nat} {list_e : Nat} {m : Nat} {H : AHeap} {K : (Option Addr) → Nat → Nat → AHeap → Prop} (h : ∃ (l_list : List Nat), IsL fF H list_a list_n l_list ∧ l_list.length < 1073741824 ∧ ((∀ (r1_a : Option Addr) (r1_n r1_e : Nat), ∀ H' : AHeap, Grow H H' → OwnS fF H' H.length r1_a r1_n r1_e (p_spec_l05Sizes l_list m) → K r1_a r1_n r1_e H'))) : T_spec_l05Sizes list_a list_n list_e m H K := h
theorem l05Sizes_go (l : List Nat) (m : Nat) : ∀ (μ : Nat) (i : Nat) (o : List Nat), l.length - i < μ → p_spec_l05Sizes_l1 l m μ o (i : Int) = o ++ (l.drop i).map fun x => p_spec_l03Size (fsub .f32 x m) := by
  intro μ
  induction μ with
  | zero => intro i o h; omega
  | succ μ ih =>
    intro i o hm
    rw [p_spec_l05Sizes_l1_s]
    by_cases h : i < l.length
    · rw [decide_eq_true (show (i : Int) < (l.length : Int) by omega), cond_true, Int.toNat_natCast]
      have := ih (i + 1) (o ++ [p_spec_l03Size (fsub .f32 (l.getD i 0) m)]) (by omega)
      rw [show ((i + 1 : Nat) : Int) = (i : Int) + 1 by omega] at this
      rw [this, List.drop_eq_getElem_cons h, List.map_cons, List.getD_eq_getElem?_getD, List.getElem?_eq_getElem h, Option.getD_some, List.append_assoc]; rfl
    · rw [decide_eq_false (show ¬ (i : Int) < (l.length : Int) by omega), cond_false, List.drop_eq_nil_of_le (by omega)]; simp
theorem l05Sizes_map (l : List Nat) (m : Nat) : p_spec_l05Sizes l m = l.map fun x => p_spec_l03Size (fsub .f32 x m) := by
  rw [p_spec_l05Sizes_eq]
  have := l05Sizes_go l m (Int.toNat ((l.length : Int) - (0 : Int)) + 1) 0 [] (by omega)
  simpa using this
theorem l05Sizes_len (l : List Nat) (m : Nat) : (p_spec_l05Sizes l m).length = l.length := by rw [l05Sizes_map, List.length_map]
/-! spec_l05Sizes: function 107 -/
def E_spec_l05Sizes : Env := envOf [(135, S_spec_l03Size)]
def F_spec_l05Sizes : List Value → AHeap → (Value → AHeap → Prop) → Prop
  | [.slice list_a list_n list_e, .float .f32 m], H, K => T_spec_l05Sizes list_a list_n list_e m H fun (r1_a : Option Addr) (r1_n : Nat) (r1_e : Nat) (H' : AHeap) => K (.slice r1_a r1_n r1_e) H'
  | _, _, _ => False
def S_spec_l05Sizes : FSpec := { F := F_spec_l05Sizes, quiet := false, tame := true }
theorem spec_l05Sizes_vc (list_a : Option Addr) (list_n : Nat) (list_e : Nat) (m : Nat) (H : AHeap) (K : Value → AHeap → Prop) : bodyK Try.prog E_spec_l05Sizes Try.f107 [.slice list_a list_n list_e, .float .f32 m] H K =
  (Al [] H fun b1 H1 => loopK (exK Try.prog E_spec_l05Sizes (cl (cl (cr (cl (cr (cr (bodyC Try.f107)))))))) [.slice list_a list_n list_e, .float .f32 m, undef, undef, .slice none 0 0, .slice (some ⟨b1, 0, none⟩) 0 1, undef, .slice (some ⟨b1, 0, none⟩) 0 1, .slice list_a list_n list_e, .int .i64 (list_n : Int), .int .i64 0, undef, undef, undef, undef, undef, undef, undef, undef, undef, undef, undef, undef, undef, undef] H1 (blockQ 0 (seqQ (exK Try.prog E_spec_l05Sizes (cr (cr (cr (bodyC Try.f107))))) (retK Try.prog Try.f107 K)))) := by kernel_rfl
theorem spec_l05Sizes_r1 (b1 : Nat) (list_a : Option Addr) (list_e : Nat) (list_n : Nat) (m : Nat) (vout_a : Option Addr) (vout_n : Nat) (vout_e : Nat) (t10 : Int) (g6 g11 g12 g13 g14 g15 g16 g17 g18 g19 g20 g21 g22 g23 : Value) (H : AHeap) (R : Post) : exK Try.prog E_spec_l05Sizes (cl (cl (cr (cl (cr (cr (bodyC Try.f107))))))) [.slice list_a list_n list_e, .float .f32 m, undef, undef, .slice none 0 0, .slice vout_a vout_n vout_e, g6, .slice (some ⟨b1, 0, none⟩) 0 1, .slice list_a list_n list_e, .int .i64 (list_n : Int), .int .i64 t10, g11, g12, g13, g14, g15, g16, g17, g18, g19, g20, g21, g22, g23, undef] H R =
  (Br (decide ((t10 : Int) < (list_n : Int))) ((0 : Int) ≤ t10 ∧ t10 < (list_n : Int) ∧ ∃ b2 f1, (list_a : Option Addr) = some ⟨b2, f1, none⟩ ∧ ∃ x1 : Nat,  rdC H b2 (f1 + (t10 : Int).toNat * 1) = some (.float .f32 x1) ∧ T_spec_l03Size (fsub .f32 x1 m) H fun (r1 : Nat) (H2 : AHeap) => Al [.float .f32 r1] H2 fun b3 H3 => ∃ o1 w1 : List Value, ownB H3 vout_a vout_n vout_e 1 = some o1 ∧ rdS H3 (some ⟨b3, 0, none⟩) (1 * 1) = some w1 ∧ ((vout_a : Option Addr) = none → 0 < (1 : Nat)) ∧ (vout_n : Nat) + 1 < most ∧ Ap H3 (killB H3 vout_a ++ [some ⟨o1 ++ w1, true⟩]) fun b4 H4 => R .normal [.slice list_a list_n list_e, .float .f32 m, undef, undef, .slice none 0 0, .slice (some ⟨b4, 0, none⟩) (vout_n + 1) 1, .int .i64 t10, .slice (some ⟨b1, 0, none⟩) 0 1, .slice list_a list_n list_e, .int .i64 (list_n : Int), .int .i64 (IntKind.wrap .i64 (t10 + 1)), .bool (decide ((t10 : Int) < (list_n : Int))), .int .i64 t10, .slice vout_a vout_n vout_e, .slice list_a list_n list_e, .int .i64 t10, .pointer (some ⟨b2, f1 + (t10 : Int).toNat * 1, none⟩), .float .f32 x1, .float .f32 m, .float .f32 (fsub .f32 x1 m), .float .f32 r1, .slice (some ⟨b3, 0, none⟩) 1 1, .slice (some ⟨b4, 0, none⟩) (vout_n + 1) 1, .int .i64 (IntKind.wrap .i64 (t10 + 1)), undef] H4) (R (.exit 0) [.slice list_a list_n list_e, .float .f32 m, undef, undef, .slice none 0 0, .slice vout_a vout_n vout_e, g6, .slice (some ⟨b1, 0, none⟩) 0 1, .slice list_a list_n list_e, .int .i64 (list_n : Int), .int .i64 t10, .bool (decide ((t10 : Int) < (list_n : Int))), g12, g13, g14, g15, g16, g17, g18, g19, g20, g21, g22, g23, undef] H)) := by kernel_rfl
def spec_l05Sizes_I1 (b1 : Nat) (list_a : Option Addr) (list_e : Nat) (list_n : Nat) (m : Nat) (Inv : Nat → (Option Addr) → Nat → Nat → Int → AHeap → Prop) : Nat → List Value → AHeap → Prop := fun μ tm H => ∃ (vout_a : Option Addr), ∃ (vout_n : Nat), ∃ (vout_e : Nat), ∃ (t10 : Int), ∃ g6 g11 g12 g13 g14 g15 g16 g17 g18 g19 g20 g21 g22 g23, tm = [.slice list_a list_n list_e, .float .f32 m, undef, undef, .slice none 0 0, .slice vout_a vout_n vout_e, g6, .slice (some ⟨b1, 0, none⟩) 0 1, .slice list_a list_n list_e, .int .i64 (list_n : Int), .int .i64 t10, g11, g12, g13, g14, g15, g16, g17, g18, g19, g20, g21, g22, g23, undef] ∧ Inv μ vout_a vout_n vout_e t10 H
theorem spec_l05Sizes_L1 (b1 : Nat) (list_a : Option Addr) (list_e : Nat) (list_n : Nat) (m : Nat) {Q : Post} (Inv : Nat → (Option Addr) → Nat → Nat → Int → AHeap → Prop) (ν : Nat) (vout_a : Option Addr) (vout_n : Nat) (vout_e : Nat) (t10 : Int) (g6 g11 g12 g13 g14 g15 g16 g17 g18 g19 g20 g21 g22 g23 : Value) (H : AHeap) (h0 : Inv ν vout_a vout_n vout_e t10 H)
    (hs : ∀ (μ : Nat) (vout_a : Option Addr) (vout_n : Nat) (vout_e : Nat) (t10 : Int) (g6 g11 g12 g13 g14 g15 g16 g17 g18 g19 g20 g21 g22 g23 : Value) (H : AHeap), Inv μ vout_a vout_n vout_e t10 H → exK Try.prog E_spec_l05Sizes (cl (cl (cr (cl (cr (cr (bodyC Try.f107))))))) [.slice list_a list_n list_e, .float .f32 m, undef, undef, .slice none 0 0, .slice vout_a vout_n vout_e, g6, .slice (some ⟨b1, 0, none⟩) 0 1, .slice list_a list_n list_e, .int .i64 (list_n : Int), .int .i64 t10, g11, g12, g13, g14, g15, g16, g17, g18, g19, g20, g21, g22, g23, undef] H (loopQ (spec_l05Sizes_I1 b1 list_a list_e list_n m Inv) μ Q)) : loopK (exK Try.prog E_spec_l05Sizes (cl (cl (cr (cl (cr (cr (bodyC Try.f107)))))))) [.slice list_a list_n list_e, .float .f32 m, undef, undef, .slice none 0 0, .slice vout_a vout_n vout_e, g6, .slice (some ⟨b1, 0, none⟩) 0 1, .slice list_a list_n list_e, .int .i64 (list_n : Int), .int .i64 t10, g11, g12, g13, g14, g15, g16, g17, g18, g19, g20, g21, g22, g23, undef] H Q :=
  ⟨spec_l05Sizes_I1 b1 list_a list_e list_n m Inv, ν, ⟨vout_a, vout_n, vout_e, t10, g6, g11, g12, g13, g14, g15, g16, g17, g18, g19, g20, g21, g22, g23, rfl, h0⟩, fun μ tm H h => by obtain ⟨vout_a, vout_n, vout_e, t10, g6, g11, g12, g13, g14, g15, g16, g17, g18, g19, g20, g21, g22, g23, rfl, hI⟩ := h; exact hs μ vout_a vout_n vout_e t10 g6 g11 g12 g13 g14 g15 g16 g17 g18 g19 g20 g21 g22 g23 H hI⟩
theorem spec_l05Sizes_n1 {b1 : Nat} {list_a : Option Addr} {list_e : Nat} {list_n : Nat} {m : Nat} {Q : Post} {Inv : Nat → (Option Addr) → Nat → Nat → Int → AHeap → Prop} {μ : Nat} (μ' : Nat) {vout_a : Option Addr} {vout_n : Nat} {vout_e : Nat} {t10 : Int} {g6 g11 g12 g13 g14 g15 g16 g17 g18 g19 g20 g21 g22 g23 : Value} {H : AHeap} (hm : μ' < μ) (hI : Inv μ' vout_a vout_n vout_e t10 H) : loopQ (spec_l05Sizes_I1 b1 list_a list_e list_n m Inv) μ Q .normal [.slice list_a list_n list_e, .float .f32 m, undef, undef, .slice none 0 0, .slice vout_a vout_n vout_e, g6, .slice (some ⟨b1, 0, none⟩) 0 1, .slice list_a list_n list_e, .int .i64 (list_n : Int), .int .i64 t10, g11, g12, g13, g14, g15, g16, g17, g18, g19, g20, g21, g22, g23, undef] H := ⟨μ', hm, vout_a, vout_n, vout_e, t10, g6, g11, g12, g13, g14, g15, g16, g17, g18, g19, g20, g21, g22, g23, rfl, hI⟩
theorem spec_l05Sizes_x1_0 (b1 : Nat) (list_a : Option Addr) (list_e : Nat) (list_n : Nat) (m : Nat) (vout_a : Option Addr) (vout_n : Nat) (vout_e : Nat) (t10 : Int) (g6 g11 g12 g13 g14 g15 g16 g17 g18 g19 g20 g21 g22 g23 : Value) (H : AHeap) (K : Value → AHeap → Prop)  {I : Nat → List Value → AHeap → Prop} {μ : Nat} : loopQ I μ (blockQ 0 (seqQ (exK Try.prog E_spec_l05Sizes (cr (cr (cr (bodyC Try.f107))))) (retK Try.prog Try.f107 K))) (.exit 0) [.slice list_a list_n list_e, .float .f32 m, undef, undef, .slice none 0 0, .slice vout_a vout_n vout_e, g6, .slice (some ⟨b1, 0, none⟩) 0 1, .slice list_a list_n list_e, .int .i64 (list_n : Int), .int .i64 t10, g11, g12, g13, g14, g15, g16, g17, g18, g19, g20, g21, g22, g23, undef] H =
  (K (.slice vout_a vout_n vout_e) H) := by kernel_rfl
theorem E_spec_l05Sizes_ok : ∀ g, FnOk Try.prog g (E_spec_l05Sizes g) := FnOk.envOf (by
  intro x hx
  simp only [List.mem_cons, List.not_mem_nil, or_false] at hx
  subst hx; exact spec_l03Size_ok)
set_option maxHeartbeats 1000000 in
theorem spec_l05Sizes_main (list_a : Option Addr) (list_n : Nat) (list_e : Nat) (m : Nat) (H : AHeap) (K : Value → AHeap → Prop) (h : T_spec_l05Sizes list_a list_n list_e m H fun (r1_a : Option Addr) (r1_n : Nat) (r1_e : Nat) (H' : AHeap) => K (.slice r1_a r1_n r1_e) H') : bodyK Try.prog E_spec_l05Sizes Try.f107 [.slice list_a list_n list_e, .float .f32 m] H K := by
  rw [spec_l05Sizes_vc]
  obtain ⟨l_list, i_list, bd_48, hk⟩ := h
  obtain rfl := i_list.eqn
  have e : (p_spec_l05Sizes l_list m) = _ := rfl
  have e := e.trans (p_spec_l05Sizes_eq l_list m)
  have g0 := Grow.refl H
  refine Al.intro (fun b_1 H_1 hb_2 hl_3 g_4 o_5 => ?_)
  have o_5 : Own H_1 b_1 ((([] : List Nat)).map fF) := o_5
  have l_7 := g_4.1
  have g_8 := g0.trans g_4
  have l_9 := g_8.1
  have w_47 := o_5.lt
  refine spec_l05Sizes_L1 _ _ _ _ _ (fun (μ : Nat) (vout_a : Option Addr) (vout_n : Nat) (vout_e : Nat) (t10 : Int) (H_2 : AHeap) => ∃ (l_vout : List Nat), ∃ (b_10 : Nat), vout_a = some ⟨b_10, 0, none⟩ ∧ vout_n = l_vout.length ∧ vout_e = 1 ∧ Own H_2 b_10 (l_vout.map fF) ∧ Grow H H_2 ∧ H.length ≤ b_10 ∧ (0 : Int) ≤ t10 ∧ t10 ≤ (l_list.length : Int) ∧ (l_vout.length : Int) ≤ t10 - (0 : Int) + 0 ∧ (l_list.length : Int) - t10 ≤ (μ : Int) ∧ p_spec_l05Sizes l_list m = p_spec_l05Sizes_l1 l_list m (μ + 1) l_vout t10) (Int.toNat ((l_list.length : Int) - (0 : Int))) _ _ _ _ _ _ _ _ _ _ _ _ _ _ _ _ _ _ H_1 ?_ ?_
  · exact ⟨_, _, rfl, (by first | rfl | omega | (simp only [List.length_set]; done) | (simp only [List.length_set, List.length_replicate]; omega)), rfl, o_5, g_8, (by omega), (by first | omega | (simp; done) | (simp; omega)), (by first | omega | (simp; done) | (simp; omega)), (by first | omega | (simp; done) | (simp; omega)), (by omega), e⟩
  · intro μ vout_a vout_n vout_e t10 g6 g11 g12 g13 g14 g15 g16 g17 g18 g19 g20 g21 g22 g23 H_2 hI
    obtain ⟨l_vout, b_10, rfl, rfl, rfl, o_11, g_12, l_13, v_14, v_15, v_16, hμ, e⟩ := hI
    rw [spec_l05Sizes_r1]
    have e := e.trans (p_spec_l05Sizes_l1_s l_list m μ l_vout t10)
    have w_17 := o_11.lt
    have l_18 := g_12.1
    refine Br.intro (fun c_19 => ?_) (fun c_19 => ?_)
    · have e := e.trans (cond_t c_19)
      have c_19' := of_decide_eq_true c_19
      obtain ⟨b_20, f_21, q_22⟩ := ((i_list.grow g_12)).pos (by first | omega | (simp only [List.length_set, List.length_replicate, List.length_append, List.length_cons, List.length_nil, List.length_take, List.length_drop, marks_length]; done) | (simp only [List.length_set, List.length_replicate, List.length_append, List.length_cons, List.length_nil, List.length_take, List.length_drop, marks_length]; omega))
      refine ⟨by omega, by omega, b_20, f_21, q_22, ?_⟩
      refine ⟨((l_list).getD (t10 : Int).toNat 0), (i_list).rd g_12 q_22 (by omega) _, ?_⟩
      refine T_spec_l03Size_i ?_
      refine Al.intro (fun b_23 H_3 hb_24 hl_25 g_26 o_27 => ?_)
      have o_27 : Own H_3 b_23 (([((p_spec_l03Size (fsub .f32 (((l_list).getD (t10 : Int).toNat 0)) m)))]).map fF) := o_27
      have l_29 := g_26.1
      have g_30 := g_12.trans g_26
      have l_31 := g_30.1
      have o_32 := o_11.grow g_26
      have w_33 := o_32.lt
      have w_46 := o_27.lt
      refine ⟨_, _, o_32.ownB (by first | (simp only [List.length_map, List.length_cons, List.length_nil, List.length_append]; done) | (simp only [List.length_map, List.length_cons, List.length_nil, List.length_append]; omega)) rfl, (isl_rdS (o_27.isL (by first | rfl | omega | (simp only [List.length_set]; done) | (simp only [List.length_set, List.length_replicate]; omega)))), (fun h => by cases h), (by have := most_eq; omega), ?_⟩
      refine Ap.app o_32 rfl rfl (fun b_38 H_4 q_44 hl_34 o_35 k_36 => ?_)
      have o_35 := map_snoc o_35
      have l_39 := k_36.1
      have g_40 := g_30.keep (b := b_10) (by omega) k_36
      have l_41 := g_40.1
      have o_42 := o_27.keep (by omega) k_36
      have w_43 := o_42.lt
      have w_45 := o_35.lt
      rw [show IntKind.wrap .i64 (t10 + 1) = (t10 + 1) from wrap64 (by omega) (by omega)]
      refine spec_l05Sizes_n1 (μ - 1) (by first | omega) ⟨_, _, rfl, (by first | (simp only [List.length_append, List.length_cons, List.length_nil]; done) | (simp only [List.length_append, List.length_cons, List.length_nil]; omega) | (simp only [List.length_append, List.length_cons, List.length_nil, List.length_take, List.length_drop]; omega)), rfl, o_35, g_40, (by omega), (by first | omega | (simp only [List.length_append, List.length_cons, List.length_nil, List.length_set]; done) | (simp only [List.length_append, List.length_cons, List.length_nil, List.length_set]; omega)), (by first | omega | (simp only [List.length_append, List.length_cons, List.length_nil, List.length_set]; done) | (simp only [List.length_append, List.length_cons, List.length_nil, List.length_set]; omega)), (by first | omega | (simp only [List.length_append, List.length_cons, List.length_nil, List.length_set]; done) | (simp only [List.length_append, List.length_cons, List.length_nil, List.length_set]; omega)), (by first | omega), (by rw [show μ - 1 + 1 = μ from by first | omega]; exact e)⟩
    · have e := e.trans (cond_f c_19)
      have c_19' := of_decide_eq_false c_19
      rw [spec_l05Sizes_x1_0]
      rw [e] at hk
      exact hk _ _ _ H_2 g_12 (o_11.ownS (by first | rfl | omega | (simp only [List.length_set]; done) | (simp only [List.length_set, List.length_replicate]; omega)) (by omega))
theorem spec_l05Sizes_ok : FnOk Try.prog 107 S_spec_l05Sizes := by
  refine FnOk.body mix_ok E_spec_l05Sizes_ok Try.func107 rfl (by kernel_rfl) (by kernel_rfl) ?_ ?_ ?_ ?_ ?_
  · intro args H K K' h hk
    simp only [S_spec_l05Sizes] at *
    unfold F_spec_l05Sizes at *
    split at hk
    · obtain ⟨l_list, i_list, bd_48, k⟩ := hk
      exact ⟨l_list, i_list, bd_48, (fun r1_a r1_n r1_e H' gg ow0 => h _ _ (k r1_a r1_n r1_e H' gg ow0))⟩
    · exact hk.elim
  · intro hq; cases hq
  · intro args H K hk
    simp only [S_spec_l05Sizes] at *
    unfold F_spec_l05Sizes at *
    split at hk
    · obtain ⟨l_list, i_list, bd_48, k⟩ := hk
      exact liveS fun a n e H1 g o => ⟨_, _, k a n e H1 g o⟩
    · exact hk.elim
  · intro _ args H K hk
    simp only [S_spec_l05Sizes] at *
    unfold F_spec_l05Sizes at *
    split at hk
    · obtain ⟨l_list, i_list, bd_48, k⟩ := hk
      exact ⟨l_list, i_list, bd_48, (fun r1_a r1_n r1_e H' gg ow0 => ⟨gg, k r1_a r1_n r1_e H' gg ow0⟩)⟩
    · exact hk.elim
  · have mm := @spec_l05Sizes_main
    revert mm
    generalize bodyK Try.prog E_spec_l05Sizes Try.f107 = Q
    intro mm args H K hk
    simp only [S_spec_l05Sizes] at *
    unfold F_spec_l05Sizes at *
    split at hk
    · exact mm _ _ _ _ H K hk
    · exact hk.elim
def p_spec_l02Number (x : Nat) : Nat × Bool := (bif !(p_spec_l01Finite x) then (0, false) else (x, true))
theorem p_spec_l02Number_eq (x : Nat) : p_spec_l02Number x = (bif !(p_spec_l01Finite x) then (0, false) else (x, true)) := rfl
def T_spec_l02Number (x : Nat) (H : AHeap) (K : Nat → Bool → AHeap → Prop) : Prop := K (p_spec_l02Number x).1 (p_spec_l02Number x).2 H

theorem T_spec_l02Number_i {x : Nat} {H : AHeap} {K : Nat → Bool → AHeap → Prop} (h : K (p_spec_l02Number x).1 (p_spec_l02Number x).2 H) : T_spec_l02Number x H K := h
/-! spec_l02Number: function 60 -/
def E_spec_l02Number : Env := envOf [(57, S_spec_l01Finite)]
def F_spec_l02Number : List Value → AHeap → (Value → AHeap → Prop) → Prop
  | [.float .f32 x], H, K => T_spec_l02Number x H fun (r1 : Nat) (r2 : Bool) (H' : AHeap) => K (.tuple #[.float .f32 r1, .bool r2]) H'
  | _, _, _ => False
def S_spec_l02Number : FSpec := { F := F_spec_l02Number, quiet := true, tame := false }
theorem spec_l02Number_vc (x : Nat) (H : AHeap) (K : Value → AHeap → Prop) : bodyK Try.prog E_spec_l02Number Try.f60 [.float .f32 x] H K =
  (T_spec_l01Finite x H fun (r1 : Bool) (H1 : AHeap) => Br (!r1) (K (.tuple #[.float .f32 0, .bool false]) H1) (K (.tuple #[.float .f32 x, .bool true]) H1)) := by kernel_rfl
theorem E_spec_l02Number_ok : ∀ g, FnOk Try.prog g (E_spec_l02Number g) := FnOk.envOf (by
  intro x hx
  simp only [List.mem_cons, List.not_mem_nil, or_false] at hx
  subst hx; exact spec_l01Finite_ok)
set_option maxHeartbeats 1000000 in
theorem spec_l02Number_main (x : Nat) (H : AHeap) (K : Value → AHeap → Prop) (h : T_spec_l02Number x H fun (r1 : Nat) (r2 : Bool) (H' : AHeap) => K (.tuple #[.float .f32 r1, .bool r2]) H') : bodyK Try.prog E_spec_l02Number Try.f60 [.float .f32 x] H K := by
  rw [spec_l02Number_vc]
  simp only [T_spec_l01Finite]
  unfold T_spec_l02Number p_spec_l02Number at h
  repeat' (first | exact h | (exfalso; simp_all; done) | (refine ⟨by decide, ?_⟩) | (refine Br.intro (fun hb => ?_) (fun hb => ?_) <;> (try simp only [hb, cond_true, cond_false, Bool.not_true, Bool.not_false] at h)))
theorem spec_l02Number_ok : FnOk Try.prog 60 S_spec_l02Number := by
  refine FnOk.body mix_ok E_spec_l02Number_ok Try.func60 rfl (by kernel_rfl) (by kernel_rfl) ?_ ?_ ?_ ?_ ?_
  · intro args H K K' h hk
    simp only [S_spec_l02Number] at *
    unfold F_spec_l02Number at *
    split at hk
    · have k := hk
      exact h _ _ k
    · exact hk.elim
  · intro _ args H K hk
    simp only [S_spec_l02Number] at *
    unfold F_spec_l02Number at *
    split at hk
    · have k := hk
      exact ⟨_, k, fun K' k' => k'⟩
    · exact hk.elim
  · intro args H K hk
    simp only [S_spec_l02Number] at *
    unfold F_spec_l02Number at *
    split at hk
    · have k := hk
      exact ⟨_, _, k⟩
    · exact hk.elim
  · intro hq; cases hq
  · have mm := @spec_l02Number_main
    revert mm
    generalize bodyK Try.prog E_spec_l02Number Try.f60 = Q
    intro mm args H K hk
    simp only [S_spec_l02Number] at *
    unfold F_spec_l02Number at *
    split at hk
    · exact mm _ H K hk
    · exact hk.elim

def p_spec_SpreadOf (l_list : List Nat) : Nat × Bool := (bif !(p_spec_l03Long l_list) then (0, false) else ((p_spec_l02Number (fmul .f32 1069401558 ((p_spec_l05Median ((p_spec_l05Sizes l_list (p_spec_l05Median l_list))))))).1, (p_spec_l02Number (fmul .f32 1069401558 ((p_spec_l05Median ((p_spec_l05Sizes l_list (p_spec_l05Median l_list))))))).2))
theorem p_spec_SpreadOf_eq (l_list : List Nat) : p_spec_SpreadOf l_list = (bif !(p_spec_l03Long l_list) then (0, false) else ((p_spec_l02Number (fmul .f32 1069401558 ((p_spec_l05Median ((p_spec_l05Sizes l_list (p_spec_l05Median l_list))))))).1, (p_spec_l02Number (fmul .f32 1069401558 ((p_spec_l05Median ((p_spec_l05Sizes l_list (p_spec_l05Median l_list))))))).2)) := rfl
def T_spec_SpreadOf (list_a : Option Addr) (list_n : Nat) (list_e : Nat) (H : AHeap) (K : Nat → Bool → AHeap → Prop) : Prop := ∃ (l_list : List Nat), IsL fF H list_a list_n l_list ∧ l_list.length < 1073741824 ∧ ((∀ H' : AHeap, Grow H H' → K ((p_spec_SpreadOf l_list).1) ((p_spec_SpreadOf l_list).2) H'))
theorem T_spec_SpreadOf_i {list_a : Option Addr} {list_n : Nat} {list_e : Nat} {H : AHeap} {K : Nat → Bool → AHeap → Prop} (h : ∃ (l_list : List Nat), IsL fF H list_a list_n l_list ∧ l_list.length < 1073741824 ∧ ((∀ H' : AHeap, Grow H H' → K ((p_spec_SpreadOf l_list).1) ((p_spec_SpreadOf l_list).2) H'))) : T_spec_SpreadOf list_a list_n list_e H K := h

/-! spec_SpreadOf: function 50 -/
def E_spec_SpreadOf : Env := envOf [(56, S_spec_l03Long), (86, S_spec_l05Median), (107, S_spec_l05Sizes), (60, S_spec_l02Number)]
def F_spec_SpreadOf : List Value → AHeap → (Value → AHeap → Prop) → Prop
  | [.slice list_a list_n list_e], H, K => T_spec_SpreadOf list_a list_n list_e H fun (r1 : Nat) (r2 : Bool) (H' : AHeap) => K (.tuple #[.float .f32 r1, .bool r2]) H'
  | _, _, _ => False
def S_spec_SpreadOf : FSpec := { F := F_spec_SpreadOf, quiet := false, tame := true }
theorem spec_SpreadOf_vc (list_a : Option Addr) (list_n : Nat) (list_e : Nat) (H : AHeap) (K : Value → AHeap → Prop) : bodyK Try.prog E_spec_SpreadOf Try.f50 [.slice list_a list_n list_e] H K =
  (T_spec_l03Long list_a list_n list_e H fun (r1 : Bool) (H1 : AHeap) => Br (!r1) (K (.tuple #[.float .f32 0, .bool false]) H1) (T_spec_l05Median list_a list_n list_e H1 fun (r2 : Nat) (H2 : AHeap) => T_spec_l05Sizes list_a list_n list_e r2 H2 fun (a1 : Option Addr) (r3 : Nat) (r4 : Nat) (H3 : AHeap) => T_spec_l05Median a1 r3 r4 H3 fun (r5 : Nat) (H4 : AHeap) => T_spec_l02Number (fmul .f32 1069401558 r5) H4 fun (r6 : Nat) (r7 : Bool) (H5 : AHeap) => K (.tuple #[.float .f32 r6, .bool r7]) H5)) := by kernel_rfl
theorem E_spec_SpreadOf_ok : ∀ g, FnOk Try.prog g (E_spec_SpreadOf g) := FnOk.envOf (by
  intro x hx
  simp only [List.mem_cons, List.not_mem_nil, or_false] at hx
  rcases hx with rfl | rfl | rfl | rfl
  · exact spec_l03Long_ok
  · exact spec_l05Median_ok
  · exact spec_l05Sizes_ok
  · exact spec_l02Number_ok)
set_option maxHeartbeats 1000000 in
theorem spec_SpreadOf_main (list_a : Option Addr) (list_n : Nat) (list_e : Nat) (H : AHeap) (K : Value → AHeap → Prop) (h : T_spec_SpreadOf list_a list_n list_e H fun (r1 : Nat) (r2 : Bool) (H' : AHeap) => K (.tuple #[.float .f32 r1, .bool r2]) H') : bodyK Try.prog E_spec_SpreadOf Try.f50 [.slice list_a list_n list_e] H K := by
  rw [spec_SpreadOf_vc]
  obtain ⟨l_list, i_list, bd_23, hk⟩ := h
  obtain rfl := i_list.eqn
  have e : (p_spec_SpreadOf l_list) = _ := rfl
  have e := e.trans (p_spec_SpreadOf_eq l_list)
  have g0 := Grow.refl H
  refine T_spec_l03Long_i ⟨_, (i_list.grow g0), (by first | omega | (simp only [List.length_set, List.length_replicate, List.length_append, List.length_cons, List.length_nil, List.length_take, List.length_drop, marks_length]; done) | (simp only [List.length_set, List.length_replicate, List.length_append, List.length_cons, List.length_nil, List.length_take, List.length_drop, marks_length]; omega)), ?_⟩
  refine Br.intro (fun c_1 => ?_) (fun c_1 => ?_)
  · have e := e.trans (cond_t c_1)
    have c_1n := nf_of_t c_1
    rw [e] at hk
    exact hk  H g0 
  · have e := e.trans (cond_f c_1)
    have c_1n := nt_of_f c_1
    have c_1n' := spec_l03Long_t c_1n
    refine T_spec_l05Median_i ⟨_, (i_list.grow g0), (by first | omega | (simp only [List.length_set, List.length_replicate, List.length_append, List.length_cons, List.length_nil, List.length_take, List.length_drop, marks_length]; done) | (simp only [List.length_set, List.length_replicate, List.length_append, List.length_cons, List.length_nil, List.length_take, List.length_drop, marks_length]; omega)), (by first | assumption | omega | (simp; omega)), fun  H_1 g_2  => ?_⟩
    have l_3 := g_2.1
    have g_4 := g0.trans g_2
    have l_5 := g_4.1
    refine T_spec_l05Sizes_i ⟨_, (i_list.grow g_4), (by first | omega | (simp only [List.length_set, List.length_replicate, List.length_append, List.length_cons, List.length_nil, List.length_take, List.length_drop, marks_length]; done) | (simp only [List.length_set, List.length_replicate, List.length_append, List.length_cons, List.length_nil, List.length_take, List.length_drop, marks_length]; omega)), fun a_6 n_7 e_8 H_2 g_11 r_9 => ?_⟩
    have z_10 := l05Sizes_len l_list (p_spec_l05Median l_list)
    have l_12 := g_11.1
    have g_13 := g_4.trans g_11
    have l_14 := g_13.1
    obtain rfl := r_9.isL.eqn
    have u_15 := r_9.up
    have u_16 := r_9.lo
    refine T_spec_l05Median_i ⟨_, r_9.isL, (by first | omega | (simp only [List.length_set, List.length_replicate, List.length_append, List.length_cons, List.length_nil, List.length_take, List.length_drop, marks_length]; done) | (simp only [List.length_set, List.length_replicate, List.length_append, List.length_cons, List.length_nil, List.length_take, List.length_drop, marks_length]; omega)), (by first | assumption | omega | (simp; omega)), fun  H_3 g_18  => ?_⟩
    have l_19 := g_18.1
    have g_20 := g_13.trans g_18
    have l_21 := g_20.1
    have r_22 := r_9.grow g_18
    refine T_spec_l02Number_i ?_
    rw [e] at hk
    exact hk  H_3 g_20 
theorem spec_SpreadOf_ok : FnOk Try.prog 50 S_spec_SpreadOf := by
  refine FnOk.body mix_ok E_spec_SpreadOf_ok Try.func50 rfl (by kernel_rfl) (by kernel_rfl) ?_ ?_ ?_ ?_ ?_
  · intro args H K K' h hk
    simp only [S_spec_SpreadOf] at *
    unfold F_spec_SpreadOf at *
    split at hk
    · obtain ⟨l_list, i_list, bd_23, k⟩ := hk
      exact ⟨l_list, i_list, bd_23, (fun  H' gg  => h _ _ (k  H' gg ))⟩
    · exact hk.elim
  · intro hq; cases hq
  · intro args H K hk
    simp only [S_spec_SpreadOf] at *
    unfold F_spec_SpreadOf at *
    split at hk
    · obtain ⟨l_list, i_list, bd_23, k⟩ := hk
      exact ⟨_, _, k H (Grow.refl H)⟩
    · exact hk.elim
  · intro _ args H K hk
    simp only [S_spec_SpreadOf] at *
    unfold F_spec_SpreadOf at *
    split at hk
    · obtain ⟨l_list, i_list, bd_23, k⟩ := hk
      exact ⟨l_list, i_list, bd_23, (fun  H' gg  => ⟨gg, k  H' gg ⟩)⟩
    · exact hk.elim
  · have mm := @spec_SpreadOf_main
    revert mm
    generalize bodyK Try.prog E_spec_SpreadOf Try.f50 = Q
    intro mm args H K hk
    simp only [S_spec_SpreadOf] at *
    unfold F_spec_SpreadOf at *
    split at hk
    · exact mm _ _ _ H K hk
    · exact hk.elim
def p_impl_within (n : Int) (low : Int) (high : Int) : Bool := (bif decide ((low : Int) ≤ n) then decide ((n : Int) ≤ high) else false)
theorem p_impl_within_eq (n : Int) (low : Int) (high : Int) : p_impl_within n low high = (bif decide ((low : Int) ≤ n) then decide ((n : Int) ≤ high) else false) := rfl
def T_impl_within (n : Int) (low : Int) (high : Int) (H : AHeap) (K : Bool → AHeap → Prop) : Prop := K (p_impl_within n low high) H
theorem impl_within_t {n a b : Int} (h : p_impl_within n a b = true) : a ≤ n ∧ n ≤ b := by
  unfold p_impl_within at h
  by_cases h1 : a ≤ n
  · rw [decide_eq_true h1, cond_true] at h; exact ⟨h1, of_decide_eq_true h⟩
  · rw [decide_eq_false h1] at h; cases h
theorem T_impl_within_i {n : Int} {low : Int} {high : Int} {H : AHeap} {K : Bool → AHeap → Prop} (h : K (p_impl_within n low high) H) : T_impl_within n low high H K := h
/-! impl_within: function 72 -/
def E_impl_within : Env := envOf []
def F_impl_within : List Value → AHeap → (Value → AHeap → Prop) → Prop
  | [.int .i64 n, .int .i64 low, .int .i64 high], H, K => T_impl_within n low high H fun (r1 : Bool) (H' : AHeap) => K (.bool r1) H'
  | _, _, _ => False
def S_impl_within : FSpec := { F := F_impl_within, quiet := true, tame := false }
theorem impl_within_vc (n : Int) (low : Int) (high : Int) (H : AHeap) (K : Value → AHeap → Prop) : bodyK Try.prog E_impl_within Try.f72 [.int .i64 n, .int .i64 low, .int .i64 high] H K =
  (Br (decide ((low : Int) ≤ n)) (K (.bool (decide ((n : Int) ≤ high))) H) (K (.bool false) H)) := by kernel_rfl
theorem E_impl_within_ok : ∀ g, FnOk Try.prog g (E_impl_within g) := FnOk.envOf (by
  intro x hx; cases hx)
set_option maxHeartbeats 1000000 in
theorem impl_within_main (n : Int) (low : Int) (high : Int) (H : AHeap) (K : Value → AHeap → Prop) (h : T_impl_within n low high H fun (r1 : Bool) (H' : AHeap) => K (.bool r1) H') : bodyK Try.prog E_impl_within Try.f72 [.int .i64 n, .int .i64 low, .int .i64 high] H K := by
  rw [impl_within_vc]
  unfold T_impl_within p_impl_within at h
  repeat' (first | exact h | (exfalso; simp_all; done) | (refine ⟨by decide, ?_⟩) | (refine Br.intro (fun hb => ?_) (fun hb => ?_) <;> (try simp only [hb, cond_true, cond_false, Bool.not_true, Bool.not_false] at h)))
theorem impl_within_ok : FnOk Try.prog 72 S_impl_within := by
  refine FnOk.body mix_ok E_impl_within_ok Try.func72 rfl (by kernel_rfl) (by kernel_rfl) ?_ ?_ ?_ ?_ ?_
  · intro args H K K' h hk
    simp only [S_impl_within] at *
    unfold F_impl_within at *
    split at hk
    · have k := hk
      exact h _ _ k
    · exact hk.elim
  · intro _ args H K hk
    simp only [S_impl_within] at *
    unfold F_impl_within at *
    split at hk
    · have k := hk
      exact ⟨_, k, fun K' k' => k'⟩
    · exact hk.elim
  · intro args H K hk
    simp only [S_impl_within] at *
    unfold F_impl_within at *
    split at hk
    · have k := hk
      exact ⟨_, _, k⟩
    · exact hk.elim
  · intro hq; cases hq
  · have mm := @impl_within_main
    revert mm
    generalize bodyK Try.prog E_impl_within Try.f72 = Q
    intro mm args H K hk
    simp only [S_impl_within] at *
    unfold F_impl_within at *
    split at hk
    · exact mm _ _ _ H K hk
    · exact hk.elim
def p_impl_IsFinite (x : Nat) : Bool := feq .f32 (fsub .f32 x x) 0
theorem p_impl_IsFinite_eq (x : Nat) : p_impl_IsFinite x = feq .f32 (fsub .f32 x x) 0 := rfl
def T_impl_IsFinite (x : Nat) (H : AHeap) (K : Bool → AHeap → Prop) : Prop := K (p_impl_IsFinite x) H

theorem T_impl_IsFinite_i {x : Nat} {H : AHeap} {K : Bool → AHeap → Prop} (h : K (p_impl_IsFinite x) H) : T_impl_IsFinite x H K := h
/-! impl_IsFinite: function 62 -/
def E_impl_IsFinite : Env := envOf []
def F_impl_IsFinite : List Value → AHeap → (Value → AHeap → Prop) → Prop
  | [.float .f32 x], H, K => T_impl_IsFinite x H fun (r1 : Bool) (H' : AHeap) => K (.bool r1) H'
  | _, _, _ => False
def S_impl_IsFinite : FSpec := { F := F_impl_IsFinite, quiet := true, tame := false }
theorem impl_IsFinite_vc (x : Nat) (H : AHeap) (K : Value → AHeap → Prop) : bodyK Try.prog E_impl_IsFinite Try.f62 [.float .f32 x] H K =
  (K (.bool (feq .f32 (fsub .f32 x x) 0)) H) := by kernel_rfl
theorem E_impl_IsFinite_ok : ∀ g, FnOk Try.prog g (E_impl_IsFinite g) := FnOk.envOf (by
  intro x hx; cases hx)
set_option maxHeartbeats 1000000 in
theorem impl_IsFinite_main (x : Nat) (H : AHeap) (K : Value → AHeap → Prop) (h : T_impl_IsFinite x H fun (r1 : Bool) (H' : AHeap) => K (.bool r1) H') : bodyK Try.prog E_impl_IsFinite Try.f62 [.float .f32 x] H K := by
  rw [impl_IsFinite_vc]
  unfold T_impl_IsFinite p_impl_IsFinite at h
  repeat' (first | exact h | (exfalso; simp_all; done) | (refine ⟨by decide, ?_⟩) | (refine Br.intro (fun hb => ?_) (fun hb => ?_) <;> (try simp only [hb, cond_true, cond_false, Bool.not_true, Bool.not_false] at h)))
theorem impl_IsFinite_ok : FnOk Try.prog 62 S_impl_IsFinite := by
  refine FnOk.body mix_ok E_impl_IsFinite_ok Try.func62 rfl (by kernel_rfl) (by kernel_rfl) ?_ ?_ ?_ ?_ ?_
  · intro args H K K' h hk
    simp only [S_impl_IsFinite] at *
    unfold F_impl_IsFinite at *
    split at hk
    · have k := hk
      exact h _ _ k
    · exact hk.elim
  · intro _ args H K hk
    simp only [S_impl_IsFinite] at *
    unfold F_impl_IsFinite at *
    split at hk
    · have k := hk
      exact ⟨_, k, fun K' k' => k'⟩
    · exact hk.elim
  · intro args H K hk
    simp only [S_impl_IsFinite] at *
    unfold F_impl_IsFinite at *
    split at hk
    · have k := hk
      exact ⟨_, _, k⟩
    · exact hk.elim
  · intro hq; cases hq
  · have mm := @impl_IsFinite_main
    revert mm
    generalize bodyK Try.prog E_impl_IsFinite Try.f62 = Q
    intro mm args H K hk
    simp only [S_impl_IsFinite] at *
    unfold F_impl_IsFinite at *
    split at hk
    · exact mm _ H K hk
    · exact hk.elim

def p_impl_areFinite_l2 (l_lists : List (List Nat)) (t2 : Bool) (t9 : Int) (k2_2 : Bool → Int → Bool) : Nat → Bool → Int → Bool
  | 0, _, _ => false
  | μ2 + 1, t2_2, t15 => (bif decide ((t15 : Int) < ((((l_lists).getD (t9 : Int).toNat [])).length : Int)) then (bif !((p_impl_IsFinite (((((l_lists).getD (t9 : Int).toNat [])).getD (t15 : Int).toNat 0)))) then false else (p_impl_areFinite_l2 l_lists t2 t9 k2_2 μ2 t2_2 (t15 + 1))) else (k2_2 t2_2 t15))
theorem p_impl_areFinite_l2_s (l_lists : List (List Nat)) (t2 : Bool) (t9 : Int) (k2_2 : Bool → Int → Bool) (μ2 : Nat) (t2_2 : Bool) (t15 : Int) : p_impl_areFinite_l2 l_lists t2 t9 k2_2 (μ2 + 1) t2_2 t15 = (bif decide ((t15 : Int) < ((((l_lists).getD (t9 : Int).toNat [])).length : Int)) then (bif !((p_impl_IsFinite (((((l_lists).getD (t9 : Int).toNat [])).getD (t15 : Int).toNat 0)))) then false else (p_impl_areFinite_l2 l_lists t2 t9 k2_2 μ2 t2_2 (t15 + 1))) else (k2_2 t2_2 t15)) := rfl
def p_impl_areFinite_l1 (l_lists : List (List Nat)) : Nat → Bool → Int → Bool
  | 0, _, _ => false
  | μ + 1, t2, t9 => (bif decide ((t9 : Int) < (l_lists.length : Int)) then (p_impl_areFinite_l2 l_lists t2 t9 (fun (t2_2 : Bool) (t15 : Int) => (p_impl_areFinite_l1 l_lists μ t2_2 (t9 + 1))) (Int.toNat (((((l_lists).getD (t9 : Int).toNat [])).length : Int) - (0 : Int)) + 1) t2 (0 : Int)) else true)
theorem p_impl_areFinite_l1_s (l_lists : List (List Nat)) (μ : Nat) (t2 : Bool) (t9 : Int) : p_impl_areFinite_l1 l_lists (μ + 1) t2 t9 = (bif decide ((t9 : Int) < (l_lists.length : Int)) then (p_impl_areFinite_l2 l_lists t2 t9 (fun (t2_2 : Bool) (t15 : Int) => (p_impl_areFinite_l1 l_lists μ t2_2 (t9 + 1))) (Int.toNat (((((l_lists).getD (t9 : Int).toNat [])).length : Int) - (0 : Int)) + 1) t2 (0 : Int)) else true) := rfl
def p_impl_areFinite (l_lists : List (List Nat)) : Bool := (p_impl_areFinite_l1 l_lists (Int.toNat ((l_lists.length : Int) - (0 : Int)) + 1) false (0 : Int))
theorem p_impl_areFinite_eq (l_lists : List (List Nat)) : p_impl_areFinite l_lists = (p_impl_areFinite_l1 l_lists (Int.toNat ((l_lists.length : Int) - (0 : Int)) + 1) false (0 : Int)) := rfl
def T_impl_areFinite (lists_a : Option Addr) (lists_n : Nat) (lists_e : Nat) (H : AHeap) (K : Bool → AHeap → Prop) : Prop := ∃ (l_lists : List (List Nat)), IsLL fF H lists_a lists_n l_lists ∧ l_lists.length < 1073741824 ∧ (∀ y ∈ l_lists, y.length < 1073741824) ∧ K (p_impl_areFinite l_lists) H
theorem T_impl_areFinite_i {lists_a : Option Addr} {lists_n : Nat} {lists_e : Nat} {H : AHeap} {K : Bool → AHeap → Prop} (h : ∃ (l_lists : List (List Nat)), IsLL fF H lists_a lists_n l_lists ∧ l_lists.length < 1073741824 ∧ (∀ y ∈ l_lists, y.length < 1073741824) ∧ K (p_impl_areFinite l_lists) H) : T_impl_areFinite lists_a lists_n lists_e H K := h

/-! impl_areFinite: function 115 -/
def E_impl_areFinite : Env := envOf [(62, S_impl_IsFinite)]
def F_impl_areFinite : List Value → AHeap → (Value → AHeap → Prop) → Prop
  | [.slice lists_a lists_n lists_e], H, K => T_impl_areFinite lists_a lists_n lists_e H fun (r1 : Bool) (H' : AHeap) => K (.bool r1) H'
  | _, _, _ => False
def S_impl_areFinite : FSpec := { F := F_impl_areFinite, quiet := true, tame := false }
theorem impl_areFinite_vc (lists_a : Option Addr) (lists_n : Nat) (lists_e : Nat) (H : AHeap) (K : Value → AHeap → Prop) : bodyK Try.prog E_impl_areFinite Try.f115 [.slice lists_a lists_n lists_e] H K =
  (loopK (exK Try.prog E_impl_areFinite (cl (cl (cr (cl (cr (bodyC Try.f115))))))) [.slice lists_a lists_n lists_e, undef, .bool false, undef, undef, undef, undef, .slice lists_a lists_n lists_e, .int .i64 (lists_n : Int), .int .i64 0, undef, undef, undef, undef, undef, undef, undef, undef, undef, undef, undef, undef, undef, undef] H (blockQ 0 (seqQ (exK Try.prog E_impl_areFinite (cr (cr (bodyC Try.f115)))) (retK Try.prog Try.f115 K)))) := by kernel_rfl
theorem impl_areFinite_r1 (lists_a : Option Addr) (lists_e : Nat) (lists_n : Nat) (t2 : Bool) (t9 : Int) (g4 g6 g10 g11 g12 g13 g14 g15 g16 g17 g18 g19 g20 g21 g22 g23 : Value) (H : AHeap) (R : Post) : exK Try.prog E_impl_areFinite (cl (cl (cr (cl (cr (bodyC Try.f115)))))) [.slice lists_a lists_n lists_e, undef, .bool t2, undef, g4, undef, g6, .slice lists_a lists_n lists_e, .int .i64 (lists_n : Int), .int .i64 t9, g10, g11, g12, g13, g14, g15, g16, g17, g18, g19, g20, g21, g22, g23] H R =
  (Br (decide ((t9 : Int) < (lists_n : Int))) ((0 : Int) ≤ t9 ∧ t9 < (lists_n : Int) ∧ ∃ b1 f1, (lists_a : Option Addr) = some ⟨b1, f1, none⟩ ∧ ∃ x1_a : Option Addr, ∃ x1_n : Nat, ∃ x1_e : Nat,  rdC H b1 (f1 + (t9 : Int).toNat * 1) = some (.slice x1_a x1_n x1_e) ∧ loopK (exK Try.prog E_impl_areFinite (cl (cl (cr (cr (cl (cl (cr (cr (cl (cl (cr (cl (cr (bodyC Try.f115))))))))))))))) [.slice lists_a lists_n lists_e, undef, .bool t2, undef, .slice x1_a x1_n x1_e, undef, g6, .slice lists_a lists_n lists_e, .int .i64 (lists_n : Int), .int .i64 t9, .bool (decide ((t9 : Int) < (lists_n : Int))), .pointer (some ⟨b1, f1 + (t9 : Int).toNat * 1, none⟩), .slice x1_a x1_n x1_e, .slice x1_a x1_n x1_e, .int .i64 (x1_n : Int), .int .i64 0, g16, g17, g18, g19, g20, g21, g22, g23] H (blockQ 2 (blockQ 1 (seqQ (exK Try.prog E_impl_areFinite (cr (cr (cr (cl (cl (cr (cl (cr (bodyC Try.f115)))))))))) (R))))) (R (.exit 0) [.slice lists_a lists_n lists_e, undef, .bool t2, undef, g4, undef, g6, .slice lists_a lists_n lists_e, .int .i64 (lists_n : Int), .int .i64 t9, .bool (decide ((t9 : Int) < (lists_n : Int))), g11, g12, g13, g14, g15, g16, g17, g18, g19, g20, g21, g22, g23] H)) := by kernel_rfl
def impl_areFinite_I1 (lists_a : Option Addr) (lists_e : Nat) (lists_n : Nat) (Inv : Nat → Bool → Int → AHeap → Prop) : Nat → List Value → AHeap → Prop := fun μ tm H => ∃ (t2 : Bool), ∃ (t9 : Int), ∃ g4 g6 g10 g11 g12 g13 g14 g15 g16 g17 g18 g19 g20 g21 g22 g23, tm = [.slice lists_a lists_n lists_e, undef, .bool t2, undef, g4, undef, g6, .slice lists_a lists_n lists_e, .int .i64 (lists_n : Int), .int .i64 t9, g10, g11, g12, g13, g14, g15, g16, g17, g18, g19, g20, g21, g22, g23] ∧ Inv μ t2 t9 H
theorem impl_areFinite_L1 (lists_a : Option Addr) (lists_e : Nat) (lists_n : Nat) {Q : Post} (Inv : Nat → Bool → Int → AHeap → Prop) (ν : Nat) (t2 : Bool) (t9 : Int) (g4 g6 g10 g11 g12 g13 g14 g15 g16 g17 g18 g19 g20 g21 g22 g23 : Value) (H : AHeap) (h0 : Inv ν t2 t9 H)
    (hs : ∀ (μ : Nat) (t2 : Bool) (t9 : Int) (g4 g6 g10 g11 g12 g13 g14 g15 g16 g17 g18 g19 g20 g21 g22 g23 : Value) (H : AHeap), Inv μ t2 t9 H → exK Try.prog E_impl_areFinite (cl (cl (cr (cl (cr (bodyC Try.f115)))))) [.slice lists_a lists_n lists_e, undef, .bool t2, undef, g4, undef, g6, .slice lists_a lists_n lists_e, .int .i64 (lists_n : Int), .int .i64 t9, g10, g11, g12, g13, g14, g15, g16, g17, g18, g19, g20, g21, g22, g23] H (loopQ (impl_areFinite_I1 lists_a lists_e lists_n Inv) μ Q)) : loopK (exK Try.prog E_impl_areFinite (cl (cl (cr (cl (cr (bodyC Try.f115))))))) [.slice lists_a lists_n lists_e, undef, .bool t2, undef, g4, undef, g6, .slice lists_a lists_n lists_e, .int .i64 (lists_n : Int), .int .i64 t9, g10, g11, g12, g13, g14, g15, g16, g17, g18, g19, g20, g21, g22, g23] H Q :=
  ⟨impl_areFinite_I1 lists_a lists_e lists_n Inv, ν, ⟨t2, t9, g4, g6, g10, g11, g12, g13, g14, g15, g16, g17, g18, g19, g20, g21, g22, g23, rfl, h0⟩, fun μ tm H h => by obtain ⟨t2, t9, g4, g6, g10, g11, g12, g13, g14, g15, g16, g17, g18, g19, g20, g21, g22, g23, rfl, hI⟩ := h; exact hs μ t2 t9 g4 g6 g10 g11 g12 g13 g14 g15 g16 g17 g18 g19 g20 g21 g22 g23 H hI⟩
theorem impl_areFinite_n1 {lists_a : Option Addr} {lists_e : Nat} {lists_n : Nat} {Q : Post} {Inv : Nat → Bool → Int → AHeap → Prop} {μ : Nat} (μ' : Nat) {t2 : Bool} {t9 : Int} {g4 g6 g10 g11 g12 g13 g14 g15 g16 g17 g18 g19 g20 g21 g22 g23 : Value} {H : AHeap} (hm : μ' < μ) (hI : Inv μ' t2 t9 H) : loopQ (impl_areFinite_I1 lists_a lists_e lists_n Inv) μ Q .normal [.slice lists_a lists_n lists_e, undef, .bool t2, undef, g4, undef, g6, .slice lists_a lists_n lists_e, .int .i64 (lists_n : Int), .int .i64 t9, g10, g11, g12, g13, g14, g15, g16, g17, g18, g19, g20, g21, g22, g23] H := ⟨μ', hm, t2, t9, g4, g6, g10, g11, g12, g13, g14, g15, g16, g17, g18, g19, g20, g21, g22, g23, rfl, hI⟩
theorem impl_areFinite_x1_0 (lists_a : Option Addr) (lists_e : Nat) (lists_n : Nat) (t2 : Bool) (t9 : Int) (g4 g6 g10 g11 g12 g13 g14 g15 g16 g17 g18 g19 g20 g21 g22 g23 : Value) (H : AHeap) (K : Value → AHeap → Prop)  {I : Nat → List Value → AHeap → Prop} {μ : Nat} : loopQ I μ (blockQ 0 (seqQ (exK Try.prog E_impl_areFinite (cr (cr (bodyC Try.f115)))) (retK Try.prog Try.f115 K))) (.exit 0) [.slice lists_a lists_n lists_e, undef, .bool t2, undef, g4, undef, g6, .slice lists_a lists_n lists_e, .int .i64 (lists_n : Int), .int .i64 t9, g10, g11, g12, g13, g14, g15, g16, g17, g18, g19, g20, g21, g22, g23] H =
  (K (.bool true) H) := by kernel_rfl
theorem impl_areFinite_x1_ret (lists_a : Option Addr) (lists_e : Nat) (lists_n : Nat) (t2 : Bool) (t9 : Int) (g4 g6 g10 g11 g12 g13 g14 g15 g16 g17 g18 g19 g20 g21 g22 g23 : Value) (H : AHeap) (K : Value → AHeap → Prop)  {I : Nat → List Value → AHeap → Prop} {μ : Nat} : loopQ I μ (blockQ 0 (seqQ (exK Try.prog E_impl_areFinite (cr (cr (bodyC Try.f115)))) (retK Try.prog Try.f115 K))) .ret [.slice lists_a lists_n lists_e, undef, .bool t2, undef, g4, undef, g6, .slice lists_a lists_n lists_e, .int .i64 (lists_n : Int), .int .i64 t9, g10, g11, g12, g13, g14, g15, g16, g17, g18, g19, g20, g21, g22, g23] H =
  (K (.bool t2) H) := by kernel_rfl
theorem impl_areFinite_r2 (b1 : Nat) (f1 : Nat) (g23 : Value) (lists_a : Option Addr) (lists_e : Nat) (lists_n : Nat) (t9 : Int) (x1_a : Option Addr) (x1_e : Nat) (x1_n : Nat) (t2_2 : Bool) (t15 : Int) (g6 g16 g17 g18 g19 g20 g21 g22 : Value) (H : AHeap) (R : Post) : exK Try.prog E_impl_areFinite (cl (cl (cr (cr (cl (cl (cr (cr (cl (cl (cr (cl (cr (bodyC Try.f115)))))))))))))) [.slice lists_a lists_n lists_e, undef, .bool t2_2, undef, .slice x1_a x1_n x1_e, undef, g6, .slice lists_a lists_n lists_e, .int .i64 (lists_n : Int), .int .i64 t9, .bool (decide ((t9 : Int) < (lists_n : Int))), .pointer (some ⟨b1, f1 + (t9 : Int).toNat * 1, none⟩), .slice x1_a x1_n x1_e, .slice x1_a x1_n x1_e, .int .i64 (x1_n : Int), .int .i64 t15, g16, g17, g18, g19, g20, g21, g22, g23] H R =
  (Br (decide ((t15 : Int) < (x1_n : Int))) ((0 : Int) ≤ t15 ∧ t15 < (x1_n : Int) ∧ ∃ b2 f2, (x1_a : Option Addr) = some ⟨b2, f2, none⟩ ∧ ∃ x2 : Nat,  rdC H b2 (f2 + (t15 : Int).toNat * 1) = some (.float .f32 x2) ∧ T_impl_IsFinite x2 H fun (r1 : Bool) (H1 : AHeap) => Br (!r1) (R .ret [.slice lists_a lists_n lists_e, undef, .bool false, undef, .slice x1_a x1_n x1_e, undef, .float .f32 x2, .slice lists_a lists_n lists_e, .int .i64 (lists_n : Int), .int .i64 t9, .bool (decide ((t9 : Int) < (lists_n : Int))), .pointer (some ⟨b1, f1 + (t9 : Int).toNat * 1, none⟩), .slice x1_a x1_n x1_e, .slice x1_a x1_n x1_e, .int .i64 (x1_n : Int), .int .i64 t15, .bool (decide ((t15 : Int) < (x1_n : Int))), .pointer (some ⟨b2, f2 + (t15 : Int).toNat * 1, none⟩), .float .f32 x2, .float .f32 x2, .bool r1, .bool (!r1), g22, g23] H1) (R .normal [.slice lists_a lists_n lists_e, undef, .bool t2_2, undef, .slice x1_a x1_n x1_e, undef, .float .f32 x2, .slice lists_a lists_n lists_e, .int .i64 (lists_n : Int), .int .i64 t9, .bool (decide ((t9 : Int) < (lists_n : Int))), .pointer (some ⟨b1, f1 + (t9 : Int).toNat * 1, none⟩), .slice x1_a x1_n x1_e, .slice x1_a x1_n x1_e, .int .i64 (x1_n : Int), .int .i64 (IntKind.wrap .i64 (t15 + 1)), .bool (decide ((t15 : Int) < (x1_n : Int))), .pointer (some ⟨b2, f2 + (t15 : Int).toNat * 1, none⟩), .float .f32 x2, .float .f32 x2, .bool r1, .bool (!r1), .int .i64 (IntKind.wrap .i64 (t15 + 1)), g23] H1)) (R (.exit 2) [.slice lists_a lists_n lists_e, undef, .bool t2_2, undef, .slice x1_a x1_n x1_e, undef, g6, .slice lists_a lists_n lists_e, .int .i64 (lists_n : Int), .int .i64 t9, .bool (decide ((t9 : Int) < (lists_n : Int))), .pointer (some ⟨b1, f1 + (t9 : Int).toNat * 1, none⟩), .slice x1_a x1_n x1_e, .slice x1_a x1_n x1_e, .int .i64 (x1_n : Int), .int .i64 t15, .bool (decide ((t15 : Int) < (x1_n : Int))), g17, g18, g19, g20, g21, g22, g23] H)) := by kernel_rfl
def impl_areFinite_I2 (b1 : Nat) (f1 : Nat) (g23 : Value) (lists_a : Option Addr) (lists_e : Nat) (lists_n : Nat) (t9 : Int) (x1_a : Option Addr) (x1_e : Nat) (x1_n : Nat) (Inv : Nat → Bool → Int → AHeap → Prop) : Nat → List Value → AHeap → Prop := fun μ tm H => ∃ (t2_2 : Bool), ∃ (t15 : Int), ∃ g6 g16 g17 g18 g19 g20 g21 g22, tm = [.slice lists_a lists_n lists_e, undef, .bool t2_2, undef, .slice x1_a x1_n x1_e, undef, g6, .slice lists_a lists_n lists_e, .int .i64 (lists_n : Int), .int .i64 t9, .bool (decide ((t9 : Int) < (lists_n : Int))), .pointer (some ⟨b1, f1 + (t9 : Int).toNat * 1, none⟩), .slice x1_a x1_n x1_e, .slice x1_a x1_n x1_e, .int .i64 (x1_n : Int), .int .i64 t15, g16, g17, g18, g19, g20, g21, g22, g23] ∧ Inv μ t2_2 t15 H
theorem impl_areFinite_L2 (b1 : Nat) (f1 : Nat) (g23 : Value) (lists_a : Option Addr) (lists_e : Nat) (lists_n : Nat) (t9 : Int) (x1_a : Option Addr) (x1_e : Nat) (x1_n : Nat) {Q : Post} (Inv : Nat → Bool → Int → AHeap → Prop) (ν : Nat) (t2_2 : Bool) (t15 : Int) (g6 g16 g17 g18 g19 g20 g21 g22 : Value) (H : AHeap) (h0 : Inv ν t2_2 t15 H)
    (hs : ∀ (μ : Nat) (t2_2 : Bool) (t15 : Int) (g6 g16 g17 g18 g19 g20 g21 g22 : Value) (H : AHeap), Inv μ t2_2 t15 H → exK Try.prog E_impl_areFinite (cl (cl (cr (cr (cl (cl (cr (cr (cl (cl (cr (cl (cr (bodyC Try.f115)))))))))))))) [.slice lists_a lists_n lists_e, undef, .bool t2_2, undef, .slice x1_a x1_n x1_e, undef, g6, .slice lists_a lists_n lists_e, .int .i64 (lists_n : Int), .int .i64 t9, .bool (decide ((t9 : Int) < (lists_n : Int))), .pointer (some ⟨b1, f1 + (t9 : Int).toNat * 1, none⟩), .slice x1_a x1_n x1_e, .slice x1_a x1_n x1_e, .int .i64 (x1_n : Int), .int .i64 t15, g16, g17, g18, g19, g20, g21, g22, g23] H (loopQ (impl_areFinite_I2 b1 f1 g23 lists_a lists_e lists_n t9 x1_a x1_e x1_n Inv) μ Q)) : loopK (exK Try.prog E_impl_areFinite (cl (cl (cr (cr (cl (cl (cr (cr (cl (cl (cr (cl (cr (bodyC Try.f115))))))))))))))) [.slice lists_a lists_n lists_e, undef, .bool t2_2, undef, .slice x1_a x1_n x1_e, undef, g6, .slice lists_a lists_n lists_e, .int .i64 (lists_n : Int), .int .i64 t9, .bool (decide ((t9 : Int) < (lists_n : Int))), .pointer (some ⟨b1, f1 + (t9 : Int).toNat * 1, none⟩), .slice x1_a x1_n x1_e, .slice x1_a x1_n x1_e, .int .i64 (x1_n : Int), .int .i64 t15, g16, g17, g18, g19, g20, g21, g22, g23] H Q :=
  ⟨impl_areFinite_I2 b1 f1 g23 lists_a lists_e lists_n t9 x1_a x1_e x1_n Inv, ν, ⟨t2_2, t15, g6, g16, g17, g18, g19, g20, g21, g22, rfl, h0⟩, fun μ tm H h => by obtain ⟨t2_2, t15, g6, g16, g17, g18, g19, g20, g21, g22, rfl, hI⟩ := h; exact hs μ t2_2 t15 g6 g16 g17 g18 g19 g20 g21 g22 H hI⟩
theorem impl_areFinite_n2 {b1 : Nat} {f1 : Nat} {g23 : Value} {lists_a : Option Addr} {lists_e : Nat} {lists_n : Nat} {t9 : Int} {x1_a : Option Addr} {x1_e : Nat} {x1_n : Nat} {Q : Post} {Inv : Nat → Bool → Int → AHeap → Prop} {μ : Nat} (μ' : Nat) {t2_2 : Bool} {t15 : Int} {g6 g16 g17 g18 g19 g20 g21 g22 : Value} {H : AHeap} (hm : μ' < μ) (hI : Inv μ' t2_2 t15 H) : loopQ (impl_areFinite_I2 b1 f1 g23 lists_a lists_e lists_n t9 x1_a x1_e x1_n Inv) μ Q .normal [.slice lists_a lists_n lists_e, undef, .bool t2_2, undef, .slice x1_a x1_n x1_e, undef, g6, .slice lists_a lists_n lists_e, .int .i64 (lists_n : Int), .int .i64 t9, .bool (decide ((t9 : Int) < (lists_n : Int))), .pointer (some ⟨b1, f1 + (t9 : Int).toNat * 1, none⟩), .slice x1_a x1_n x1_e, .slice x1_a x1_n x1_e, .int .i64 (x1_n : Int), .int .i64 t15, g16, g17, g18, g19, g20, g21, g22, g23] H := ⟨μ', hm, t2_2, t15, g6, g16, g17, g18, g19, g20, g21, g22, rfl, hI⟩
theorem impl_areFinite_x2_2 (b1 : Nat) (f1 : Nat) (g23 : Value) (lists_a : Option Addr) (lists_e : Nat) (lists_n : Nat) (t9 : Int) (x1_a : Option Addr) (x1_e : Nat) (x1_n : Nat) (t2_2 : Bool) (t15 : Int) (g6 g16 g17 g18 g19 g20 g21 g22 : Value) (H : AHeap)  (R : Post) {I : Nat → List Value → AHeap → Prop} {μ : Nat} : loopQ I μ (blockQ 2 (blockQ 1 (seqQ (exK Try.prog E_impl_areFinite (cr (cr (cr (cl (cl (cr (cl (cr (bodyC Try.f115)))))))))) (R)))) (.exit 2) [.slice lists_a lists_n lists_e, undef, .bool t2_2, undef, .slice x1_a x1_n x1_e, undef, g6, .slice lists_a lists_n lists_e, .int .i64 (lists_n : Int), .int .i64 t9, .bool (decide ((t9 : Int) < (lists_n : Int))), .pointer (some ⟨b1, f1 + (t9 : Int).toNat * 1, none⟩), .slice x1_a x1_n x1_e, .slice x1_a x1_n x1_e, .int .i64 (x1_n : Int), .int .i64 t15, g16, g17, g18, g19, g20, g21, g22, g23] H =
  (R .normal [.slice lists_a lists_n lists_e, undef, .bool t2_2, undef, .slice x1_a x1_n x1_e, undef, g6, .slice lists_a lists_n lists_e, .int .i64 (lists_n : Int), .int .i64 (IntKind.wrap .i64 (t9 + 1)), .bool (decide ((t9 : Int) < (lists_n : Int))), .pointer (some ⟨b1, f1 + (t9 : Int).toNat * 1, none⟩), .slice x1_a x1_n x1_e, .slice x1_a x1_n x1_e, .int .i64 (x1_n : Int), .int .i64 t15, g16, g17, g18, g19, g20, g21, g22, .int .i64 (IntKind.wrap .i64 (t9 + 1))] H) := by kernel_rfl
theorem impl_areFinite_x2_ret (b1 : Nat) (f1 : Nat) (g23 : Value) (lists_a : Option Addr) (lists_e : Nat) (lists_n : Nat) (t9 : Int) (x1_a : Option Addr) (x1_e : Nat) (x1_n : Nat) (t2_2 : Bool) (t15 : Int) (g6 g16 g17 g18 g19 g20 g21 g22 : Value) (H : AHeap)  (R : Post) {I : Nat → List Value → AHeap → Prop} {μ : Nat} : loopQ I μ (blockQ 2 (blockQ 1 (seqQ (exK Try.prog E_impl_areFinite (cr (cr (cr (cl (cl (cr (cl (cr (bodyC Try.f115)))))))))) (R)))) .ret [.slice lists_a lists_n lists_e, undef, .bool t2_2, undef, .slice x1_a x1_n x1_e, undef, g6, .slice lists_a lists_n lists_e, .int .i64 (lists_n : Int), .int .i64 t9, .bool (decide ((t9 : Int) < (lists_n : Int))), .pointer (some ⟨b1, f1 + (t9 : Int).toNat * 1, none⟩), .slice x1_a x1_n x1_e, .slice x1_a x1_n x1_e, .int .i64 (x1_n : Int), .int .i64 t15, g16, g17, g18, g19, g20, g21, g22, g23] H =
  (R .ret [.slice lists_a lists_n lists_e, undef, .bool t2_2, undef, .slice x1_a x1_n x1_e, undef, g6, .slice lists_a lists_n lists_e, .int .i64 (lists_n : Int), .int .i64 t9, .bool (decide ((t9 : Int) < (lists_n : Int))), .pointer (some ⟨b1, f1 + (t9 : Int).toNat * 1, none⟩), .slice x1_a x1_n x1_e, .slice x1_a x1_n x1_e, .int .i64 (x1_n : Int), .int .i64 t15, g16, g17, g18, g19, g20, g21, g22, g23] H) := by kernel_rfl
theorem E_impl_areFinite_ok : ∀ g, FnOk Try.prog g (E_impl_areFinite g) := FnOk.envOf (by
  intro x hx
  simp only [List.mem_cons, List.not_mem_nil, or_false] at hx
  subst hx; exact impl_IsFinite_ok)
set_option maxHeartbeats 1000000 in
theorem impl_areFinite_main (lists_a : Option Addr) (lists_n : Nat) (lists_e : Nat) (H : AHeap) (K : Value → AHeap → Prop) (h : T_impl_areFinite lists_a lists_n lists_e H fun (r1 : Bool) (H' : AHeap) => K (.bool r1) H') : bodyK Try.prog E_impl_areFinite Try.f115 [.slice lists_a lists_n lists_e] H K := by
  rw [impl_areFinite_vc]
  obtain ⟨l_lists, i_lists, bd_22, bb_l_lists, hk⟩ := h
  obtain rfl := i_lists.eqn
  have e : (p_impl_areFinite l_lists) = _ := rfl
  have e := e.trans (p_impl_areFinite_eq l_lists)
  have g0 := Grow.refl H
  refine impl_areFinite_L1 _ _ _ (fun (μ : Nat) (t2 : Bool) (t9 : Int) (H_1 : AHeap) => H = H_1 ∧ (0 : Int) ≤ t9 ∧ t9 ≤ (l_lists.length : Int) ∧ (l_lists.length : Int) - t9 ≤ (μ : Int) ∧ p_impl_areFinite l_lists = p_impl_areFinite_l1 l_lists (μ + 1) t2 t9) (Int.toNat ((l_lists.length : Int) - (0 : Int))) _ _ _ _ _ _ _ _ _ _ _ _ _ _ _ _ _ _ H ?_ ?_
  · exact ⟨rfl, (by first | omega | (simp; done) | (simp; omega)), (by first | omega | (simp; done) | (simp; omega)), (by omega), e⟩
  · intro μ t2 t9 g4 g6 g10 g11 g12 g13 g14 g15 g16 g17 g18 g19 g20 g21 g22 g23 H_1 hI
    obtain ⟨rfl, v_1, v_2, hμ, e⟩ := hI
    rw [impl_areFinite_r1]
    have e := e.trans (p_impl_areFinite_l1_s l_lists μ t2 t9)
    have l_3 := g0.1
    refine Br.intro (fun c_4 => ?_) (fun c_4 => ?_)
    · have e := e.trans (cond_t c_4)
      have c_4' := of_decide_eq_true c_4
      obtain ⟨b_5, f_6, q_7⟩ := ((i_lists.grow g0)).pos (by first | omega | (simp only [List.length_set, List.length_replicate, List.length_append, List.length_cons, List.length_nil, List.length_take, List.length_drop, marks_length]; done) | (simp only [List.length_set, List.length_replicate, List.length_append, List.length_cons, List.length_nil, List.length_take, List.length_drop, marks_length]; omega))
      refine ⟨by omega, by omega, b_5, f_6, q_7, ?_⟩
      obtain ⟨a_8, n_9, e_10, r_11, i_12⟩ := (i_lists).rd (i := (t9 : Int).toNat) g0 q_7 (by omega)
      obtain rfl := i_12.eqn
      refine ⟨a_8, _, e_10, r_11, ?_⟩
      have z_13 := getD_len bb_l_lists (t9 : Int).toNat
      refine impl_areFinite_L2 _ _ _ _ _ _ _ _ _ _ (fun (μ2 : Nat) (t2_2 : Bool) (t15 : Int) (H_2 : AHeap) => H = H_2 ∧ (0 : Int) ≤ t15 ∧ t15 ≤ ((((l_lists).getD (t9 : Int).toNat [])).length : Int) ∧ ((((l_lists).getD (t9 : Int).toNat [])).length : Int) - t15 ≤ (μ2 : Int) ∧ p_impl_areFinite l_lists = p_impl_areFinite_l2 l_lists t2 t9 (fun (t2_2 : Bool) (t15 : Int) => (p_impl_areFinite_l1 l_lists μ t2_2 (t9 + 1))) (μ2 + 1) t2_2 t15) (Int.toNat (((((l_lists).getD (t9 : Int).toNat [])).length : Int) - (0 : Int))) _ _ _ _ _ _ _ _ _ _ H ?_ ?_
      · exact ⟨rfl, (by first | omega | (simp; done) | (simp; omega)), (by first | omega | (simp; done) | (simp; omega)), (by omega), e⟩
      · intro μ2 t2_2 t15 g6 g16 g17 g18 g19 g20 g21 g22 H_2 hI
        obtain ⟨rfl, v_14, v_15, hμ, e⟩ := hI
        rw [impl_areFinite_r2]
        have e := e.trans (p_impl_areFinite_l2_s l_lists t2 t9 (fun (t2_2 : Bool) (t15 : Int) => (p_impl_areFinite_l1 l_lists μ t2_2 (t9 + 1))) μ2 t2_2 t15)
        have l_16 := g0.1
        refine Br.intro (fun c_17 => ?_) (fun c_17 => ?_)
        · have e := e.trans (cond_t c_17)
          have c_17' := of_decide_eq_true c_17
          obtain ⟨b_18, f_19, q_20⟩ := ((i_12.grow g0)).pos (by first | omega | (simp only [List.length_set, List.length_replicate, List.length_append, List.length_cons, List.length_nil, List.length_take, List.length_drop, marks_length]; done) | (simp only [List.length_set, List.length_replicate, List.length_append, List.length_cons, List.length_nil, List.length_take, List.length_drop, marks_length]; omega))
          refine ⟨by omega, by omega, b_18, f_19, q_20, ?_⟩
          refine ⟨((((l_lists).getD (t9 : Int).toNat [])).getD (t15 : Int).toNat 0), (i_12).rd g0 q_20 (by omega) _, ?_⟩
          refine T_impl_IsFinite_i ?_
          refine Br.intro (fun c_21 => ?_) (fun c_21 => ?_)
          · have e := e.trans (cond_t c_21)
            have c_21n := nf_of_t c_21
            rw [impl_areFinite_x2_ret]
            rw [impl_areFinite_x1_ret]
            rw [e] at hk
            exact hk
          · have e := e.trans (cond_f c_21)
            have c_21n := nt_of_f c_21
            rw [show IntKind.wrap .i64 (t15 + 1) = (t15 + 1) from wrap64 (by omega) (by omega)]
            refine impl_areFinite_n2 (μ2 - 1) (by first | omega) ⟨rfl, (by first | omega | (simp only [List.length_append, List.length_cons, List.length_nil, List.length_set]; done) | (simp only [List.length_append, List.length_cons, List.length_nil, List.length_set]; omega)), (by first | omega | (simp only [List.length_append, List.length_cons, List.length_nil, List.length_set]; done) | (simp only [List.length_append, List.length_cons, List.length_nil, List.length_set]; omega)), (by first | omega), (by rw [show μ2 - 1 + 1 = μ2 from by first | omega]; exact e)⟩
        · have e := e.trans (cond_f c_17)
          have c_17' := of_decide_eq_false c_17
          rw [impl_areFinite_x2_2]
          rw [show IntKind.wrap .i64 (t9 + 1) = (t9 + 1) from wrap64 (by omega) (by omega)]
          refine impl_areFinite_n1 (μ - 1) (by first | omega) ⟨rfl, (by first | omega | (simp only [List.length_append, List.length_cons, List.length_nil, List.length_set]; done) | (simp only [List.length_append, List.length_cons, List.length_nil, List.length_set]; omega)), (by first | omega | (simp only [List.length_append, List.length_cons, List.length_nil, List.length_set]; done) | (simp only [List.length_append, List.length_cons, List.length_nil, List.length_set]; omega)), (by first | omega), (by rw [show μ - 1 + 1 = μ from by first | omega]; exact e)⟩
    · have e := e.trans (cond_f c_4)
      have c_4' := of_decide_eq_false c_4
      rw [impl_areFinite_x1_0]
      rw [e] at hk
      exact hk
theorem impl_areFinite_ok : FnOk Try.prog 115 S_impl_areFinite := by
  refine FnOk.body mix_ok E_impl_areFinite_ok Try.func115 rfl (by kernel_rfl) (by kernel_rfl) ?_ ?_ ?_ ?_ ?_
  · intro args H K K' h hk
    simp only [S_impl_areFinite] at *
    unfold F_impl_areFinite at *
    split at hk
    · obtain ⟨l_lists, i_lists, bd_22, bb_l_lists, k⟩ := hk
      exact ⟨l_lists, i_lists, bd_22, bb_l_lists, h _ _ k⟩
    · exact hk.elim
  · intro _ args H K hk
    simp only [S_impl_areFinite] at *
    unfold F_impl_areFinite at *
    split at hk
    · obtain ⟨l_lists, i_lists, bd_22, bb_l_lists, k⟩ := hk
      exact ⟨_, k, fun K' k' => ⟨l_lists, i_lists, bd_22, bb_l_lists, k'⟩⟩
    · exact hk.elim
  · intro args H K hk
    simp only [S_impl_areFinite] at *
    unfold F_impl_areFinite at *
    split at hk
    · obtain ⟨l_lists, i_lists, bd_22, bb_l_lists, k⟩ := hk
      exact ⟨_, _, k⟩
    · exact hk.elim
  · intro hq; cases hq
  · have mm := @impl_areFinite_main
    revert mm
    generalize bodyK Try.prog E_impl_areFinite Try.f115 = Q
    intro mm args H K hk
    simp only [S_impl_areFinite] at *
    unfold F_impl_areFinite at *
    split at hk
    · exact mm _ _ _ H K hk
    · exact hk.elim

def p_impl_isLong (l_list : List Nat) : Bool := (bif (p_impl_within (l_list.length : Int) (1 : Int) (128 : Int)) then (p_impl_areFinite ([l_list])) else false)
theorem p_impl_isLong_eq (l_list : List Nat) : p_impl_isLong l_list = (bif (p_impl_within (l_list.length : Int) (1 : Int) (128 : Int)) then (p_impl_areFinite ([l_list])) else false) := rfl
def T_impl_isLong (list_a : Option Addr) (list_n : Nat) (list_e : Nat) (H : AHeap) (K : Bool → AHeap → Prop) : Prop := ∃ (l_list : List Nat), IsL fF H list_a list_n l_list ∧ l_list.length < 1073741824 ∧ ((∀ H' : AHeap, Grow H H' → K (p_impl_isLong l_list) H'))
theorem T_impl_isLong_i {list_a : Option Addr} {list_n : Nat} {list_e : Nat} {H : AHeap} {K : Bool → AHeap → Prop} (h : ∃ (l_list : List Nat), IsL fF H list_a list_n l_list ∧ l_list.length < 1073741824 ∧ ((∀ H' : AHeap, Grow H H' → K (p_impl_isLong l_list) H'))) : T_impl_isLong list_a list_n list_e H K := h
theorem impl_isLong_t {l : List Nat} (h : p_impl_isLong l = true) : 1 ≤ (l.length : Int) ∧ (l.length : Int) ≤ 128 := by
  rw [p_impl_isLong_eq] at h
  cases h1 : p_impl_within (l.length : Int) 1 128
  · rw [h1] at h; cases h
  · exact impl_within_t h1
/-! impl_isLong: function 61 -/
def E_impl_isLong : Env := envOf [(72, S_impl_within), (115, S_impl_areFinite)]
def F_impl_isLong : List Value → AHeap → (Value → AHeap → Prop) → Prop
  | [.slice list_a list_n list_e], H, K => T_impl_isLong list_a list_n list_e H fun (r1 : Bool) (H' : AHeap) => K (.bool r1) H'
  | _, _, _ => False
def S_impl_isLong : FSpec := { F := F_impl_isLong, quiet := false, tame := true }
theorem impl_isLong_vc (list_a : Option Addr) (list_n : Nat) (list_e : Nat) (H : AHeap) (K : Value → AHeap → Prop) : bodyK Try.prog E_impl_isLong Try.f61 [.slice list_a list_n list_e] H K =
  (T_impl_within (list_n : Int) 1 128 H fun (r1 : Bool) (H1 : AHeap) => Br r1 (Al [.slice list_a list_n list_e] H1 fun b1 H2 => T_impl_areFinite (some ⟨b1, 0, none⟩) 1 1 H2 fun (r2 : Bool) (H3 : AHeap) => K (.bool r2) H3) (K (.bool false) H1)) := by kernel_rfl
theorem E_impl_isLong_ok : ∀ g, FnOk Try.prog g (E_impl_isLong g) := FnOk.envOf (by
  intro x hx
  simp only [List.mem_cons, List.not_mem_nil, or_false] at hx
  rcases hx with rfl | rfl
  · exact impl_within_ok
  · exact impl_areFinite_ok)
set_option maxHeartbeats 1000000 in
theorem impl_isLong_main (list_a : Option Addr) (list_n : Nat) (list_e : Nat) (H : AHeap) (K : Value → AHeap → Prop) (h : T_impl_isLong list_a list_n list_e H fun (r1 : Bool) (H' : AHeap) => K (.bool r1) H') : bodyK Try.prog E_impl_isLong Try.f61 [.slice list_a list_n list_e] H K := by
  rw [impl_isLong_vc]
  obtain ⟨l_list, i_list, bd_12, hk⟩ := h
  obtain rfl := i_list.eqn
  have e : (p_impl_isLong l_list) = _ := rfl
  have e := e.trans (p_impl_isLong_eq l_list)
  have g0 := Grow.refl H
  refine T_impl_within_i ?_
  refine Br.intro (fun c_1 => ?_) (fun c_1 => ?_)
  · have e := e.trans (cond_t c_1)
    have c_1' := impl_within_t c_1
    refine Al.intro (fun b_2 H_1 hb_3 hl_4 g_5 o_6 => ?_)
    have l_8 := g_5.1
    have g_9 := g0.trans g_5
    have l_10 := g_9.1
    have w_11 := o_6.lt
    refine T_impl_areFinite_i ⟨[l_list], ⟨_, o_6.rdAll rfl, LLc.cons (i_list.grow g_9) (LLc.nil _ _)⟩, (by first | omega | (simp only [List.length_set, List.length_replicate, List.length_append, List.length_cons, List.length_nil, List.length_take, List.length_drop, marks_length]; done) | (simp only [List.length_set, List.length_replicate, List.length_append, List.length_cons, List.length_nil, List.length_take, List.length_drop, marks_length]; omega)), (by first | assumption | (intro y hy; simp only [List.mem_cons, List.not_mem_nil, or_false] at hy; first | omega | (subst hy; omega) | (rcases hy with rfl | rfl <;> omega) | (rcases hy with rfl | rfl | rfl <;> omega))), ?_⟩
    rw [e] at hk
    exact hk  H_1 g_9 
  · have e := e.trans (cond_f c_1)
    rw [e] at hk
    exact hk  H g0 
theorem impl_isLong_ok : FnOk Try.prog 61 S_impl_isLong := by
  refine FnOk.body mix_ok E_impl_isLong_ok Try.func61 rfl (by kernel_rfl) (by kernel_rfl) ?_ ?_ ?_ ?_ ?_
  · intro args H K K' h hk
    simp only [S_impl_isLong] at *
    unfold F_impl_isLong at *
    split at hk
    · obtain ⟨l_list, i_list, bd_12, k⟩ := hk
      exact ⟨l_list, i_list, bd_12, (fun  H' gg  => h _ _ (k  H' gg ))⟩
    · exact hk.elim
  · intro hq; cases hq
  · intro args H K hk
    simp only [S_impl_isLong] at *
    unfold F_impl_isLong at *
    split at hk
    · obtain ⟨l_list, i_list, bd_12, k⟩ := hk
      exact ⟨_, _, k H (Grow.refl H)⟩
    · exact hk.elim
  · intro _ args H K hk
    simp only [S_impl_isLong] at *
    unfold F_impl_isLong at *
    split at hk
    · obtain ⟨l_list, i_list, bd_12, k⟩ := hk
      exact ⟨l_list, i_list, bd_12, (fun  H' gg  => ⟨gg, k  H' gg ⟩)⟩
    · exact hk.elim
  · have mm := @impl_isLong_main
    revert mm
    generalize bodyK Try.prog E_impl_isLong Try.f61 = Q
    intro mm args H K hk
    simp only [S_impl_isLong] at *
    unfold F_impl_isLong at *
    split at hk
    · exact mm _ _ _ H K hk
    · exact hk.elim

def p_impl_copyOf (l_list : List Nat) : (List Nat) := (([] : List Nat) ++ l_list)
theorem p_impl_copyOf_eq (l_list : List Nat) : p_impl_copyOf l_list = (([] : List Nat) ++ l_list) := rfl
def T_impl_copyOf (list_a : Option Addr) (list_n : Nat) (list_e : Nat) (H : AHeap) (K : (Option Addr) → Nat → Nat → AHeap → Prop) : Prop := ∃ (l_list : List Nat), IsL fF H list_a list_n l_list ∧ l_list.length < 1073741824 ∧ ((∀ (r1_a : Option Addr) (r1_n r1_e : Nat), ∀ H' : AHeap, Grow H H' → OwnS fF H' H.length r1_a r1_n r1_e (p_impl_copyOf l_list) → K r1_a r1_n r1_e H'))
theorem T_impl_copyOf_i {list_a : Option Addr} {list_n : Nat} {list_e : Nat} {H : AHeap} {K : (Option Addr) → Nat → Nat → AHeap → Prop} (h : ∃ (l_list : List Nat), IsL fF H list_a list_n l_list ∧ l_list.length < 1073741824 ∧ ((∀ (r1_a : Option Addr) (r1_n r1_e : Nat), ∀ H' : AHeap, Grow H H' → OwnS fF H' H.length r1_a r1_n r1_e (p_impl_copyOf l_list) → K r1_a r1_n r1_e H'))) : T_impl_copyOf list_a list_n list_e H K := h
theorem impl_copyOf_is (l : List Nat) : p_impl_copyOf l = l := by rw [p_impl_copyOf_eq]; rfl
theorem impl_copyOf_len (l : List Nat) : (p_impl_copyOf l).length = l.length := by rw [impl_copyOf_is]
/-! impl_copyOf: function 102 -/
def E_impl_copyOf : Env := envOf []
def F_impl_copyOf : List Value → AHeap → (Value → AHeap → Prop) → Prop
  | [.slice list_a list_n list_e], H, K => T_impl_copyOf list_a list_n list_e H fun (r1_a : Option Addr) (r1_n : Nat) (r1_e : Nat) (H' : AHeap) => K (.slice r1_a r1_n r1_e) H'
  | _, _, _ => False
def S_impl_copyOf : FSpec := { F := F_impl_copyOf, quiet := false, tame := true }
theorem impl_copyOf_vc (list_a : Option Addr) (list_n : Nat) (list_e : Nat) (H : AHeap) (K : Value → AHeap → Prop) : bodyK Try.prog E_impl_copyOf Try.f102 [.slice list_a list_n list_e] H K =
  (Al [] H fun b1 H1 => ∃ o1 w1 : List Value, ownB H1 (some ⟨b1, 0, none⟩) 0 1 1 = some o1 ∧ rdS H1 list_a (list_n * 1) = some w1 ∧ ((some ⟨b1, 0, none⟩ : Option Addr) = none → 0 < (list_n : Nat)) ∧ (0 : Nat) + list_n < most ∧ Ap H1 (killB H1 (some ⟨b1, 0, none⟩) ++ [some ⟨o1 ++ w1, true⟩]) fun b2 H2 => K (.slice (some ⟨b2, 0, none⟩) (0 + list_n) 1) H2) := by kernel_rfl
theorem E_impl_copyOf_ok : ∀ g, FnOk Try.prog g (E_impl_copyOf g) := FnOk.envOf (by
  intro x hx; cases hx)
set_option maxHeartbeats 1000000 in
theorem impl_copyOf_main (list_a : Option Addr) (list_n : Nat) (list_e : Nat) (H : AHeap) (K : Value → AHeap → Prop) (h : T_impl_copyOf list_a list_n list_e H fun (r1_a : Option Addr) (r1_n : Nat) (r1_e : Nat) (H' : AHeap) => K (.slice r1_a r1_n r1_e) H') : bodyK Try.prog E_impl_copyOf Try.f102 [.slice list_a list_n list_e] H K := by
  rw [impl_copyOf_vc]
  obtain ⟨l_list, i_list, bd_21, hk⟩ := h
  obtain rfl := i_list.eqn
  have e : (p_impl_copyOf l_list) = _ := rfl
  have e := e.trans (p_impl_copyOf_eq l_list)
  have g0 := Grow.refl H
  refine Al.intro (fun b_1 H_1 hb_2 hl_3 g_4 o_5 => ?_)
  have o_5 : Own H_1 b_1 ((([] : List Nat)).map fF) := o_5
  have l_7 := g_4.1
  have g_8 := g0.trans g_4
  have l_9 := g_8.1
  have w_20 := o_5.lt
  refine ⟨_, _, o_5.ownB (by first | (simp only [List.length_map, List.length_cons, List.length_nil, List.length_append]; done) | (simp only [List.length_map, List.length_cons, List.length_nil, List.length_append]; omega)) rfl, (isl_rdS (i_list.grow g_8)), (fun h => by cases h), (by have := most_eq; omega), ?_⟩
  refine Ap.app o_5 rfl rfl (fun b_14 H_2 q_18 hl_10 o_11 k_12 => ?_)
  have o_11 := map_snoc o_11
  have l_15 := k_12.1
  have g_16 := g_8.keep (b := b_1) (by omega) k_12
  have l_17 := g_16.1
  have w_19 := o_11.lt
  rw [e] at hk
  exact hk _ _ _ H_2 g_16 (o_11.ownS (by first | (simp only [List.length_append, List.length_cons, List.length_nil]; done) | (simp only [List.length_append, List.length_cons, List.length_nil]; omega) | (simp only [List.length_append, List.length_cons, List.length_nil, List.length_take, List.length_drop]; omega)) (by omega))
theorem impl_copyOf_ok : FnOk Try.prog 102 S_impl_copyOf := by
  refine FnOk.body mix_ok E_impl_copyOf_ok Try.func102 rfl (by kernel_rfl) (by kernel_rfl) ?_ ?_ ?_ ?_ ?_
  · intro args H K K' h hk
    simp only [S_impl_copyOf] at *
    unfold F_impl_copyOf at *
    split at hk
    · obtain ⟨l_list, i_list, bd_21, k⟩ := hk
      exact ⟨l_list, i_list, bd_21, (fun r1_a r1_n r1_e H' gg ow0 => h _ _ (k r1_a r1_n r1_e H' gg ow0))⟩
    · exact hk.elim
  · intro hq; cases hq
  · intro args H K hk
    simp only [S_impl_copyOf] at *
    unfold F_impl_copyOf at *
    split at hk
    · obtain ⟨l_list, i_list, bd_21, k⟩ := hk
      exact liveS fun a n e H1 g o => ⟨_, _, k a n e H1 g o⟩
    · exact hk.elim
  · intro _ args H K hk
    simp only [S_impl_copyOf] at *
    unfold F_impl_copyOf at *
    split at hk
    · obtain ⟨l_list, i_list, bd_21, k⟩ := hk
      exact ⟨l_list, i_list, bd_21, (fun r1_a r1_n r1_e H' gg ow0 => ⟨gg, k r1_a r1_n r1_e H' gg ow0⟩)⟩
    · exact hk.elim
  · have mm := @impl_copyOf_main
    revert mm
    generalize bodyK Try.prog E_impl_copyOf Try.f102 = Q
    intro mm args H K hk
    simp only [S_impl_copyOf] at *
    unfold F_impl_copyOf at *
    split at hk
    · exact mm _ _ _ H K hk
    · exact hk.elim
def p_cmp_isNaN_float32 (x : Nat) : Bool := !(feq .f32 x x)
theorem p_cmp_isNaN_float32_eq (x : Nat) : p_cmp_isNaN_float32 x = !(feq .f32 x x) := rfl
def T_cmp_isNaN_float32 (x : Nat) (H : AHeap) (K : Bool → AHeap → Prop) : Prop := K (p_cmp_isNaN_float32 x) H

theorem T_cmp_isNaN_float32_i {x : Nat} {H : AHeap} {K : Bool → AHeap → Prop} (h : K (p_cmp_isNaN_float32 x) H) : T_cmp_isNaN_float32 x H K := h
/-! cmp_isNaN_float32: function 144 -/
def E_cmp_isNaN_float32 : Env := envOf []
def F_cmp_isNaN_float32 : List Value → AHeap → (Value → AHeap → Prop) → Prop
  | [.float .f32 x], H, K => T_cmp_isNaN_float32 x H fun (r1 : Bool) (H' : AHeap) => K (.bool r1) H'
  | _, _, _ => False
def S_cmp_isNaN_float32 : FSpec := { F := F_cmp_isNaN_float32, quiet := true, tame := false }
theorem cmp_isNaN_float32_vc (x : Nat) (H : AHeap) (K : Value → AHeap → Prop) : bodyK Try.prog E_cmp_isNaN_float32 Try.f144 [.float .f32 x] H K =
  (K (.bool (!(feq .f32 x x))) H) := by kernel_rfl
theorem E_cmp_isNaN_float32_ok : ∀ g, FnOk Try.prog g (E_cmp_isNaN_float32 g) := FnOk.envOf (by
  intro x hx; cases hx)
set_option maxHeartbeats 1000000 in
theorem cmp_isNaN_float32_main (x : Nat) (H : AHeap) (K : Value → AHeap → Prop) (h : T_cmp_isNaN_float32 x H fun (r1 : Bool) (H' : AHeap) => K (.bool r1) H') : bodyK Try.prog E_cmp_isNaN_float32 Try.f144 [.float .f32 x] H K := by
  rw [cmp_isNaN_float32_vc]
  unfold T_cmp_isNaN_float32 p_cmp_isNaN_float32 at h
  repeat' (first | exact h | (exfalso; simp_all; done) | (refine ⟨by decide, ?_⟩) | (refine Br.intro (fun hb => ?_) (fun hb => ?_) <;> (try simp only [hb, cond_true, cond_false, Bool.not_true, Bool.not_false] at h)))
theorem cmp_isNaN_float32_ok : FnOk Try.prog 144 S_cmp_isNaN_float32 := by
  refine FnOk.body mix_ok E_cmp_isNaN_float32_ok Try.func144 rfl (by kernel_rfl) (by kernel_rfl) ?_ ?_ ?_ ?_ ?_
  · intro args H K K' h hk
    simp only [S_cmp_isNaN_float32] at *
    unfold F_cmp_isNaN_float32 at *
    split at hk
    · have k := hk
      exact h _ _ k
    · exact hk.elim
  · intro _ args H K hk
    simp only [S_cmp_isNaN_float32] at *
    unfold F_cmp_isNaN_float32 at *
    split at hk
    · have k := hk
      exact ⟨_, k, fun K' k' => k'⟩
    · exact hk.elim
  · intro args H K hk
    simp only [S_cmp_isNaN_float32] at *
    unfold F_cmp_isNaN_float32 at *
    split at hk
    · have k := hk
      exact ⟨_, _, k⟩
    · exact hk.elim
  · intro hq; cases hq
  · have mm := @cmp_isNaN_float32_main
    revert mm
    generalize bodyK Try.prog E_cmp_isNaN_float32 Try.f144 = Q
    intro mm args H K hk
    simp only [S_cmp_isNaN_float32] at *
    unfold F_cmp_isNaN_float32 at *
    split at hk
    · exact mm _ H K hk
    · exact hk.elim
def p_cmp_Compare_float32 (x : Nat) (y : Nat) : Int := (bif (p_cmp_isNaN_float32 x) then (bif (p_cmp_isNaN_float32 y) then (0 : Int) else ((-1) : Int)) else (bif (p_cmp_isNaN_float32 y) then (1 : Int) else (bif flt .f32 x y then ((-1) : Int) else (bif flt .f32 y x then (1 : Int) else (0 : Int)))))
theorem p_cmp_Compare_float32_eq (x : Nat) (y : Nat) : p_cmp_Compare_float32 x y = (bif (p_cmp_isNaN_float32 x) then (bif (p_cmp_isNaN_float32 y) then (0 : Int) else ((-1) : Int)) else (bif (p_cmp_isNaN_float32 y) then (1 : Int) else (bif flt .f32 x y then ((-1) : Int) else (bif flt .f32 y x then (1 : Int) else (0 : Int))))) := rfl
def T_cmp_Compare_float32 (x : Nat) (y : Nat) (H : AHeap) (K : Int → AHeap → Prop) : Prop := K (p_cmp_Compare_float32 x y) H
theorem cmp_neg (x y : Nat) : decide ((p_cmp_Compare_float32 x y : Int) < 0) = So.lt_ kappa x y := by
  rw [← cmp_kappa, p_cmp_Compare_float32_eq]
  simp only [p_cmp_isNaN_float32_eq]
  have key : ∀ p q r s : Bool, decide ((bif !p then (bif !q then (0 : Int) else (-1)) else (bif !q then (1 : Int) else (bif r then (-1) else (bif s then (1 : Int) else (0 : Int))))) < 0) = (bif !p then (bif !q then false else true) else (bif !q then false else r)) := by decide
  exact key _ _ _ _
theorem T_cmp_Compare_float32_i {x : Nat} {y : Nat} {H : AHeap} {K : Int → AHeap → Prop} (h : K (p_cmp_Compare_float32 x y) H) : T_cmp_Compare_float32 x y H K := h
/-! cmp_Compare_float32: function 128 -/
def E_cmp_Compare_float32 : Env := envOf [(144, S_cmp_isNaN_float32)]
def F_cmp_Compare_float32 : List Value → AHeap → (Value → AHeap → Prop) → Prop
  | [.float .f32 x, .float .f32 y], H, K => T_cmp_Compare_float32 x y H fun (r1 : Int) (H' : AHeap) => K (.int .i64 r1) H'
  | _, _, _ => False
def S_cmp_Compare_float32 : FSpec := { F := F_cmp_Compare_float32, quiet := true, tame := false }
theorem cmp_Compare_float32_vc (x : Nat) (y : Nat) (H : AHeap) (K : Value → AHeap → Prop) : bodyK Try.prog E_cmp_Compare_float32 Try.f128 [.float .f32 x, .float .f32 y] H K =
  (T_cmp_isNaN_float32 x H fun (r1 : Bool) (H1 : AHeap) => T_cmp_isNaN_float32 y H1 fun (r2 : Bool) (H2 : AHeap) => Br r1 (Br r2 (K (.int .i64 0) H2) (K (.int .i64 (-1)) H2)) (Br r2 (K (.int .i64 1) H2) (Br (flt .f32 x y) (K (.int .i64 (-1)) H2) (Br (flt .f32 y x) (K (.int .i64 1) H2) (K (.int .i64 0) H2))))) := by kernel_rfl
theorem E_cmp_Compare_float32_ok : ∀ g, FnOk Try.prog g (E_cmp_Compare_float32 g) := FnOk.envOf (by
  intro x hx
  simp only [List.mem_cons, List.not_mem_nil, or_false] at hx
  subst hx; exact cmp_isNaN_float32_ok)
set_option maxHeartbeats 1000000 in
theorem cmp_Compare_float32_main (x : Nat) (y : Nat) (H : AHeap) (K : Value → AHeap → Prop) (h : T_cmp_Compare_float32 x y H fun (r1 : Int) (H' : AHeap) => K (.int .i64 r1) H') : bodyK Try.prog E_cmp_Compare_float32 Try.f128 [.float .f32 x, .float .f32 y] H K := by
  rw [cmp_Compare_float32_vc]
  simp only [T_cmp_isNaN_float32]
  unfold T_cmp_Compare_float32 p_cmp_Compare_float32 at h
  repeat' (first | exact h | (exfalso; simp_all; done) | (refine ⟨by decide, ?_⟩) | (refine Br.intro (fun hb => ?_) (fun hb => ?_) <;> (try simp only [hb, cond_true, cond_false, Bool.not_true, Bool.not_false] at h)))
theorem cmp_Compare_float32_ok : FnOk Try.prog 128 S_cmp_Compare_float32 := by
  refine FnOk.body mix_ok E_cmp_Compare_float32_ok Try.func128 rfl (by kernel_rfl) (by kernel_rfl) ?_ ?_ ?_ ?_ ?_
  · intro args H K K' h hk
    simp only [S_cmp_Compare_float32] at *
    unfold F_cmp_Compare_float32 at *
    split at hk
    · have k := hk
      exact h _ _ k
    · exact hk.elim
  · intro _ args H K hk
    simp only [S_cmp_Compare_float32] at *
    unfold F_cmp_Compare_float32 at *
    split at hk
    · have k := hk
      exact ⟨_, k, fun K' k' => k'⟩
    · exact hk.elim
  · intro args H K hk
    simp only [S_cmp_Compare_float32] at *
    unfold F_cmp_Compare_float32 at *
    split at hk
    · have k := hk
      exact ⟨_, _, k⟩
    · exact hk.elim
  · intro hq; cases hq
  · have mm := @cmp_Compare_float32_main
    revert mm
    generalize bodyK Try.prog E_cmp_Compare_float32 Try.f128 = Q
    intro mm args H K hk
    simp only [S_cmp_Compare_float32] at *
    unfold F_cmp_Compare_float32 at *
    split at hk
    · exact mm _ _ H K hk
    · exact hk.elim
end Go.Proofs.Ytghkkclonabpkaa.Ai
