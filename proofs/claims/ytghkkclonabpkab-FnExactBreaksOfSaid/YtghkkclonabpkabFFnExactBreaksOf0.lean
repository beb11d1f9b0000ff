/- What functions of the program come to on the abstract machine, and that they do so; printed by a program of mine around proofs of mine. -/
import Derived.Test.YtghkkclonabpkabProg
import Derived.Test.YtghkkclonabpkabLibA
import Derived.Test.YtghkkclonabpkabOpen
import Derived.Test.YtghkkclonabpkabLibB
import Derived.Test.YtghkkclonabpkabFl
import Derived.Test.YtghkkclonabpkabExt
import Derived.Test.YtghkkclonabpkabFm
import Derived.Test.YtghkkclonabpkabFb
import Derived.Test.YtghkkclonabpkabFs
import Derived.Test.YtghkkclonabpkabSo
import Derived.Test.YtghkkclonabpkabKe
import Derived.Test.YtghkkclonabpkabPi
import Derived.Test.YtghkkclonabpkabSr
set_option linter.unusedVariables false
set_option linter.unusedSimpArgs false
set_option maxRecDepth 100000
namespace Go.Proofs.Ytghkkclonabpkab.Ai
open Go
attribute [local irreducible] bodyK
theorem mix_ok : Try.prog.follows .mixedOrders = true := by kernel_rfl

def p_laws_toFloat32S_l1 (l_a : List Nat) : Nat → Int → (List Nat) → (List Nat)
  | 0, _, _ => []
  | μ + 1, i, y1_1 => (bif decide ((i : Int) < (l_a.length : Int)) then (p_laws_toFloat32S_l1 l_a μ (i + 1) (((y1_1).set (i : Int).toNat ((((l_a).getD (i : Int).toNat 0)))))) else y1_1)
theorem p_laws_toFloat32S_l1_s (l_a : List Nat) (μ : Nat) (i : Int) (y1_1 : List Nat) : p_laws_toFloat32S_l1 l_a (μ + 1) i y1_1 = (bif decide ((i : Int) < (l_a.length : Int)) then (p_laws_toFloat32S_l1 l_a μ (i + 1) (((y1_1).set (i : Int).toNat ((((l_a).getD (i : Int).toNat 0)))))) else y1_1) := rfl
def p_laws_toFloat32S (l_a : List Nat) : (List Nat) := (p_laws_toFloat32S_l1 l_a (Int.toNat ((l_a.length : Int) - (0 : Int)) + 1) (0 : Int) (List.replicate (((l_a.length : Int)).toNat) 0))
theorem p_laws_toFloat32S_eq (l_a : List Nat) : p_laws_toFloat32S l_a = (p_laws_toFloat32S_l1 l_a (Int.toNat ((l_a.length : Int) - (0 : Int)) + 1) (0 : Int) (List.replicate (((l_a.length : Int)).toNat) 0)) := rfl
def T_laws_toFloat32S (a_a : Option Addr) (a_n : Nat) (a_e : Nat) (H : AHeap) (K : (Option Addr) → Nat → Nat → AHeap → Prop) : Prop := ∃ (l_a : List Nat), IsL fF H a_a a_n l_a ∧ l_a.length < 1073741824 ∧ ((∀ (r1_a : Option Addr) (r1_n r1_e : Nat), ∀ H' : AHeap, Grow H H' → OwnS fF H' H.length r1_a r1_n r1_e l_a → K r1_a r1_n r1_e H'))
theorem T_laws_toFloat32S_i {a_a : Option Addr} {a_n : Nat} {a_e : Nat} {H : AHeap} {K : (Option Addr) → Nat → Nat → AHeap → Prop} (h : ∃ (l_a : List Nat), IsL fF H a_a a_n l_a ∧ l_a.length < 1073741824 ∧ ((∀ (r1_a : Option Addr) (r1_n r1_e : Nat), ∀ H' : AHeap, Grow H H' → OwnS fF H' H.length r1_a r1_n r1_e l_a → K r1_a r1_n r1_e H'))) : T_laws_toFloat32S a_a a_n a_e H K := h
theorem laws_toFloat32S_go (l : List Nat) : ∀ (μ : Nat) (i : Nat) (ys : List Nat), ys.length = l.length → i ≤ l.length → l.length - i < μ →
    p_laws_toFloat32S_l1 l μ (i : Int) (l.take i ++ ys.drop i) = l := by
  intro μ
  induction μ with
  | zero => intro i ys _ _ h; omega
  | succ μ ih =>
    intro i ys hy hi hm
    rw [p_laws_toFloat32S_l1_s]
    by_cases h : i < l.length
    · rw [decide_eq_true (show (i : Int) < (l.length : Int) by omega), cond_true]
      have hx : l[i]? = some (l.getD i 0) := by rw [List.getD_eq_getElem?_getD, List.getElem?_eq_getElem h]; rfl
      rw [Int.toNat_natCast, set_front l ys i (by omega) hy.symm _ hx]
      exact ih (i + 1) ys hy (by omega) (by omega)
    · rw [decide_eq_false (show ¬ (i : Int) < (l.length : Int) by omega), cond_false]
      rw [List.take_of_length_le (by omega), List.drop_eq_nil_of_le (by omega), List.append_nil]
theorem laws_toFloat32S_id (l : List Nat) : p_laws_toFloat32S l = l := by
  rw [p_laws_toFloat32S_eq]
  have := laws_toFloat32S_go l (Int.toNat ((l.length : Int) - 0) + 1) 0 (List.replicate ((l.length : Int)).toNat 0) (by simp) (by omega) (by omega)
  simpa using this
/-! laws_toFloat32S: function 33 -/
def E_laws_toFloat32S : Env := envOf []
def F_laws_toFloat32S : List Value → AHeap → (Value → AHeap → Prop) → Prop
  | [.slice a_a a_n a_e], H, K => T_laws_toFloat32S a_a a_n a_e H fun (r1_a : Option Addr) (r1_n : Nat) (r1_e : Nat) (H' : AHeap) => K (.slice r1_a r1_n r1_e) H'
  | _, _, _ => False
def S_laws_toFloat32S : FSpec := { F := F_laws_toFloat32S, quiet := false, tame := true }
theorem laws_toFloat32S_vc (a_a : Option Addr) (a_n : Nat) (a_e : Nat) (H : AHeap) (K : Value → AHeap → Prop) : bodyK Try.prog E_laws_toFloat32S Try.f33 [.slice a_a a_n a_e] H K =
  ((0 : Int) ≤ (a_n : Int) ∧ (a_n : Int) = (a_n : Int) ∧ (a_n : Int) < (most : Int) ∧ Al (zerosOf (.float .f32 0) ((a_n : Int)).toNat) H fun b1 H1 => loopK (exK Try.prog E_laws_toFloat32S (cl (cl (cr (cl (cr (cr (bodyC Try.f33)))))))) [.slice a_a a_n a_e, undef, .slice none 0 0, .slice (some ⟨b1, 0, none⟩) (((a_n : Int)).toNat) 1, .int .i64 0, .slice a_a a_n a_e, .int .i64 (a_n : Int), .slice (some ⟨b1, 0, none⟩) (((a_n : Int)).toNat) 1, undef, undef, undef, undef, undef, undef, undef, undef, undef, undef, undef, undef, undef, undef] H1 (blockQ 0 (seqQ (exK Try.prog E_laws_toFloat32S (cr (cr (cr (bodyC Try.f33))))) (retK Try.prog Try.f33 K)))) := by kernel_rfl
theorem laws_toFloat32S_r1 (a_a : Option Addr) (a_e : Nat) (a_n : Nat) (b1 : Nat) (i : Int) (g8 g9 g10 g11 g12 g13 g14 g15 g16 g17 g18 g19 g20 : Value) (H : AHeap) (R : Post) : exK Try.prog E_laws_toFloat32S (cl (cl (cr (cl (cr (cr (bodyC Try.f33))))))) [.slice a_a a_n a_e, undef, .slice none 0 0, .slice (some ⟨b1, 0, none⟩) (((a_n : Int)).toNat) 1, .int .i64 i, .slice a_a a_n a_e, .int .i64 (a_n : Int), .slice (some ⟨b1, 0, none⟩) (((a_n : Int)).toNat) 1, g8, g9, g10, g11, g12, g13, g14, g15, g16, g17, g18, g19, g20, undef] H R =
  (Br (decide ((i : Int) < (a_n : Int))) ((0 : Int) ≤ i ∧ i < (a_n : Int) ∧ ∃ b2 f1, (a_a : Option Addr) = some ⟨b2, f1, none⟩ ∧ ∃ x1 : Nat,  rdC H b2 (f1 + (i : Int).toNat * 1) = some (.float .f32 x1) ∧ (0 : Int) ≤ i ∧ i < (((a_n : Int)).toNat : Int) ∧ ∃ b3 f2, (some ⟨b1, 0, none⟩ : Option Addr) = some ⟨b3, f2, none⟩ ∧ isOwn H b3 ∧ (∃ l, rdN H b3 (f2 + (i : Int).toNat * 1) 1 = some l) ∧ Lt (setC H b3 (f2 + (i : Int).toNat * 1) (.float .f32 x1)) fun H2 => R .normal [.slice a_a a_n a_e, undef, .slice none 0 0, .slice (some ⟨b1, 0, none⟩) (((a_n : Int)).toNat) 1, .int .i64 (IntKind.wrap .i64 (i + 1)), .slice a_a a_n a_e, .int .i64 (a_n : Int), .slice (some ⟨b1, 0, none⟩) (((a_n : Int)).toNat) 1, .int .i64 i, .slice a_a a_n a_e, .int .i64 (a_n : Int), .bool (decide ((i : Int) < (a_n : Int))), .int .i64 i, .int .i64 (IntKind.wrap .i64 (i + 1)), .slice (some ⟨b1, 0, none⟩) (((a_n : Int)).toNat) 1, .int .i64 i, .slice a_a a_n a_e, .int .i64 i, .pointer (some ⟨b2, f1 + (i : Int).toNat * 1, none⟩), .float .f32 x1, .pointer (some ⟨b3, f2 + (i : Int).toNat * 1, none⟩), undef] H2) (R (.exit 0) [.slice a_a a_n a_e, undef, .slice none 0 0, .slice (some ⟨b1, 0, none⟩) (((a_n : Int)).toNat) 1, .int .i64 i, .slice a_a a_n a_e, .int .i64 (a_n : Int), .slice (some ⟨b1, 0, none⟩) (((a_n : Int)).toNat) 1, .int .i64 i, .slice a_a a_n a_e, .int .i64 (a_n : Int), .bool (decide ((i : Int) < (a_n : Int))), g12, g13, g14, g15, g16, g17, g18, g19, g20, undef] H)) := by kernel_rfl
def laws_toFloat32S_I1 (a_a : Option Addr) (a_e : Nat) (a_n : Nat) (b1 : Nat) (Inv : Nat → Int → AHeap → Prop) : Nat → List Value → AHeap → Prop := fun μ tm H => ∃ (i : Int), ∃ g8 g9 g10 g11 g12 g13 g14 g15 g16 g17 g18 g19 g20, tm = [.slice a_a a_n a_e, undef, .slice none 0 0, .slice (some ⟨b1, 0, none⟩) (((a_n : Int)).toNat) 1, .int .i64 i, .slice a_a a_n a_e, .int .i64 (a_n : Int), .slice (some ⟨b1, 0, none⟩) (((a_n : Int)).toNat) 1, g8, g9, g10, g11, g12, g13, g14, g15, g16, g17, g18, g19, g20, undef] ∧ Inv μ i H
theorem laws_toFloat32S_L1 (a_a : Option Addr) (a_e : Nat) (a_n : Nat) (b1 : Nat) {Q : Post} (Inv : Nat → Int → AHeap → Prop) (ν : Nat) (i : Int) (g8 g9 g10 g11 g12 g13 g14 g15 g16 g17 g18 g19 g20 : Value) (H : AHeap) (h0 : Inv ν i H)
    (hs : ∀ (μ : Nat) (i : Int) (g8 g9 g10 g11 g12 g13 g14 g15 g16 g17 g18 g19 g20 : Value) (H : AHeap), Inv μ i H → exK Try.prog E_laws_toFloat32S (cl (cl (cr (cl (cr (cr (bodyC Try.f33))))))) [.slice a_a a_n a_e, undef, .slice none 0 0, .slice (some ⟨b1, 0, none⟩) (((a_n : Int)).toNat) 1, .int .i64 i, .slice a_a a_n a_e, .int .i64 (a_n : Int), .slice (some ⟨b1, 0, none⟩) (((a_n : Int)).toNat) 1, g8, g9, g10, g11, g12, g13, g14, g15, g16, g17, g18, g19, g20, undef] H (loopQ (laws_toFloat32S_I1 a_a a_e a_n b1 Inv) μ Q)) : loopK (exK Try.prog E_laws_toFloat32S (cl (cl (cr (cl (cr (cr (bodyC Try.f33)))))))) [.slice a_a a_n a_e, undef, .slice none 0 0, .slice (some ⟨b1, 0, none⟩) (((a_n : Int)).toNat) 1, .int .i64 i, .slice a_a a_n a_e, .int .i64 (a_n : Int), .slice (some ⟨b1, 0, none⟩) (((a_n : Int)).toNat) 1, g8, g9, g10, g11, g12, g13, g14, g15, g16, g17, g18, g19, g20, undef] H Q :=
  ⟨laws_toFloat32S_I1 a_a a_e a_n b1 Inv, ν, ⟨i, g8, g9, g10, g11, g12, g13, g14, g15, g16, g17, g18, g19, g20, rfl, h0⟩, fun μ tm H h => by obtain ⟨i, g8, g9, g10, g11, g12, g13, g14, g15, g16, g17, g18, g19, g20, rfl, hI⟩ := h; exact hs μ i g8 g9 g10 g11 g12 g13 g14 g15 g16 g17 g18 g19 g20 H hI⟩
theorem laws_toFloat32S_n1 {a_a : Option Addr} {a_e : Nat} {a_n : Nat} {b1 : Nat} {Q : Post} {Inv : Nat → Int → AHeap → Prop} {μ : Nat} (μ' : Nat) {i : Int} {g8 g9 g10 g11 g12 g13 g14 g15 g16 g17 g18 g19 g20 : Value} {H : AHeap} (hm : μ' < μ) (hI : Inv μ' i H) : loopQ (laws_toFloat32S_I1 a_a a_e a_n b1 Inv) μ Q .normal [.slice a_a a_n a_e, undef, .slice none 0 0, .slice (some ⟨b1, 0, none⟩) (((a_n : Int)).toNat) 1, .int .i64 i, .slice a_a a_n a_e, .int .i64 (a_n : Int), .slice (some ⟨b1, 0, none⟩) (((a_n : Int)).toNat) 1, g8, g9, g10, g11, g12, g13, g14, g15, g16, g17, g18, g19, g20, undef] H := ⟨μ', hm, i, g8, g9, g10, g11, g12, g13, g14, g15, g16, g17, g18, g19, g20, rfl, hI⟩
theorem laws_toFloat32S_x1_0 (a_a : Option Addr) (a_e : Nat) (a_n : Nat) (b1 : Nat) (i : Int) (g8 g9 g10 g11 g12 g13 g14 g15 g16 g17 g18 g19 g20 : Value) (H : AHeap) (K : Value → AHeap → Prop)  {I : Nat → List Value → AHeap → Prop} {μ : Nat} : loopQ I μ (blockQ 0 (seqQ (exK Try.prog E_laws_toFloat32S (cr (cr (cr (bodyC Try.f33))))) (retK Try.prog Try.f33 K))) (.exit 0) [.slice a_a a_n a_e, undef, .slice none 0 0, .slice (some ⟨b1, 0, none⟩) (((a_n : Int)).toNat) 1, .int .i64 i, .slice a_a a_n a_e, .int .i64 (a_n : Int), .slice (some ⟨b1, 0, none⟩) (((a_n : Int)).toNat) 1, g8, g9, g10, g11, g12, g13, g14, g15, g16, g17, g18, g19, g20, undef] H =
  (K (.slice (some ⟨b1, 0, none⟩) (((a_n : Int)).toNat) 1) H) := by kernel_rfl
theorem E_laws_toFloat32S_ok : ∀ g, FnOk Try.prog g (E_laws_toFloat32S g) := FnOk.envOf (by
  intro x hx; cases hx)
set_option maxHeartbeats 1000000 in
theorem laws_toFloat32S_main (a_a : Option Addr) (a_n : Nat) (a_e : Nat) (H : AHeap) (K : Value → AHeap → Prop) (h : T_laws_toFloat32S a_a a_n a_e H fun (r1_a : Option Addr) (r1_n : Nat) (r1_e : Nat) (H' : AHeap) => K (.slice r1_a r1_n r1_e) H') : bodyK Try.prog E_laws_toFloat32S Try.f33 [.slice a_a a_n a_e] H K := by
  rw [laws_toFloat32S_vc]
  obtain ⟨l_a, i_a, bd_29, hk⟩ := h
  have hk : (∀ (r1_a : Option Addr) (r1_n r1_e : Nat), ∀ H' : AHeap, Grow H H' → OwnS fF H' H.length r1_a r1_n r1_e (p_laws_toFloat32S l_a) → (fun (r1_a : Option Addr) (r1_n : Nat) (r1_e : Nat) (H' : AHeap) => K (.slice r1_a r1_n r1_e) H') r1_a r1_n r1_e H') := by rw [laws_toFloat32S_id l_a]; exact hk
  obtain rfl := i_a.eqn
  have e : (p_laws_toFloat32S l_a) = _ := rfl
  have e := e.trans (p_laws_toFloat32S_eq l_a)
  have g0 := Grow.refl H
  refine ⟨by omega, rfl, (by have := most_eq; omega), ?_⟩
  refine Al.intro (fun b_1 H_1 hb_2 hl_3 g_4 o_5 => ?_)
  rw [zeros_map fF 0 _ rfl] at o_5
  have l_7 := g_4.1
  have g_8 := g0.trans g_4
  have l_9 := g_8.1
  have w_28 := o_5.lt
  refine laws_toFloat32S_L1 _ _ _ _ (fun (μ : Nat) (i : Int) (H_2 : AHeap) => ∃ (y1_1 : List Nat), Own H_2 b_1 (y1_1.map fF) ∧ y1_1.length = ((l_a.length : Int)).toNat ∧ Grow H H_2 ∧ (0 : Int) ≤ i ∧ i ≤ (l_a.length : Int) ∧ (l_a.length : Int) - i ≤ (μ : Int) ∧ p_laws_toFloat32S l_a = p_laws_toFloat32S_l1 l_a (μ + 1) i y1_1) (Int.toNat ((l_a.length : Int) - (0 : Int))) _ _ _ _ _ _ _ _ _ _ _ _ _ _ H_1 ?_ ?_
  · exact ⟨_, o_5, (by first | rfl | assumption | omega | (simp; done)), g_8, (by first | omega | (simp; done) | (simp; omega)), (by first | omega | (simp; done) | (simp; omega)), (by omega), e⟩
  · intro μ i g8 g9 g10 g11 g12 g13 g14 g15 g16 g17 g18 g19 g20 H_2 hI
    obtain ⟨y1_1, o_10, y_11, g_12, v_13, v_14, hμ, e⟩ := hI
    rw [laws_toFloat32S_r1]
    have e := e.trans (p_laws_toFloat32S_l1_s l_a μ i y1_1)
    have w_15 := o_10.lt
    have l_16 := g_12.1
    refine Br.intro (fun c_17 => ?_) (fun c_17 => ?_)
    · have e := e.trans (cond_t c_17)
      have c_17' := of_decide_eq_true c_17
      obtain ⟨b_18, f_19, q_20⟩ := ((i_a.grow g_12)).pos (by first | omega | (simp only [List.length_set, List.length_replicate, List.length_append, List.length_cons, List.length_nil, List.length_take, List.length_drop, marks_length]; done) | (simp only [List.length_set, List.length_replicate, List.length_append, List.length_cons, List.length_nil, List.length_take, List.length_drop, marks_length]; omega))
      refine ⟨by omega, by omega, b_18, f_19, q_20, ?_⟩
      refine ⟨((l_a).getD (i : Int).toNat 0), (i_a).rd g_12 q_20 (by omega) _, ?_⟩
      refine ⟨by omega, (by omega), _, _, rfl, ?_⟩
      refine Lt.set o_10 (by simp only [List.length_map]; (first | omega | (simp only [List.length_set, List.length_replicate, List.length_append, List.length_cons, List.length_nil, List.length_take, List.length_drop, marks_length]; done) | (simp only [List.length_set, List.length_replicate, List.length_append, List.length_cons, List.length_nil, List.length_take, List.length_drop, marks_length]; omega))) (fun H_3 hl_21 o_23 k_22 => ?_)
      have o_23 := map_set o_23
      have l_24 := k_22.1
      have g_25 := g_12.keep (b := b_1) (by omega) k_22
      have l_26 := g_25.1
      have w_27 := o_23.lt
      rw [show IntKind.wrap .i64 (i + 1) = (i + 1) from wrap64 (by omega) (by omega)]
      refine laws_toFloat32S_n1 (μ - 1) (by first | omega) ⟨_, o_23, (by first | assumption | omega | (simp only [List.length_set]; first | rfl | assumption | omega)), g_25, (by first | omega | (simp only [List.length_append, List.length_cons, List.length_nil, List.length_set]; done) | (simp only [List.length_append, List.length_cons, List.length_nil, List.length_set]; omega)), (by first | omega | (simp only [List.length_append, List.length_cons, List.length_nil, List.length_set]; done) | (simp only [List.length_append, List.length_cons, List.length_nil, List.length_set]; omega)), (by first | omega), (by rw [show μ - 1 + 1 = μ from by first | omega]; exact e)⟩
    · have e := e.trans (cond_f c_17)
      have c_17' := of_decide_eq_false c_17
      rw [laws_toFloat32S_x1_0]
      rw [e] at hk
      exact hk _ _ _ H_2 g_12 (o_10.ownS (by first | (simp only [List.length_replicate]; done) | omega | (simp; omega)) (by omega))
theorem laws_toFloat32S_ok : FnOk Try.prog 33 S_laws_toFloat32S := by
  refine FnOk.body mix_ok E_laws_toFloat32S_ok Try.func33 rfl (by kernel_rfl) (by kernel_rfl) ?_ ?_ ?_ ?_ ?_
  · intro args H K K' h hk
    simp only [S_laws_toFloat32S] at *
    unfold F_laws_toFloat32S at *
    split at hk
    · obtain ⟨l_a, i_a, bd_29, k⟩ := hk
      exact ⟨l_a, i_a, bd_29, (fun r1_a r1_n r1_e H' gg ow0 => h _ _ (k r1_a r1_n r1_e H' gg ow0))⟩
    · exact hk.elim
  · intro hq; cases hq
  · intro args H K hk
    simp only [S_laws_toFloat32S] at *
    unfold F_laws_toFloat32S at *
    split at hk
    · obtain ⟨l_a, i_a, bd_29, k⟩ := hk
      exact liveS fun a n e H1 g o => ⟨_, _, k a n e H1 g o⟩
    · exact hk.elim
  · intro _ args H K hk
    simp only [S_laws_toFloat32S] at *
    unfold F_laws_toFloat32S at *
    split at hk
    · obtain ⟨l_a, i_a, bd_29, k⟩ := hk
      exact ⟨l_a, i_a, bd_29, (fun r1_a r1_n r1_e H' gg ow0 => ⟨gg, k r1_a r1_n r1_e H' gg ow0⟩)⟩
    · exact hk.elim
  · have mm := @laws_toFloat32S_main
    revert mm
    generalize bodyK Try.prog E_laws_toFloat32S Try.f33 = Q
    intro mm args H K hk
    simp only [S_laws_toFloat32S] at *
    unfold F_laws_toFloat32S at *
    split at hk
    · exact mm _ _ _ H K hk
    · exact hk.elim
def p_spec_l01Finite (x : Nat) : Bool := feq .f32 (fsub .f32 x x) 0
theorem p_spec_l01Finite_eq (x : Nat) : p_spec_l01Finite x = feq .f32 (fsub .f32 x x) 0 := rfl
def T_spec_l01Finite (x : Nat) (H : AHeap) (K : Bool → AHeap → Prop) : Prop := K (p_spec_l01Finite x) H

theorem T_spec_l01Finite_i {x : Nat} {H : AHeap} {K : Bool → AHeap → Prop} (h : K (p_spec_l01Finite x) H) : T_spec_l01Finite x H K := h
/-! spec_l01Finite: function 73 -/
def E_spec_l01Finite : Env := envOf []
def F_spec_l01Finite : List Value → AHeap → (Value → AHeap → Prop) → Prop
  | [.float .f32 x], H, K => T_spec_l01Finite x H fun (r1 : Bool) (H' : AHeap) => K (.bool r1) H'
  | _, _, _ => False
def S_spec_l01Finite : FSpec := { F := F_spec_l01Finite, quiet := true, tame := false }
theorem spec_l01Finite_vc (x : Nat) (H : AHeap) (K : Value → AHeap → Prop) : bodyK Try.prog E_spec_l01Finite Try.f73 [.float .f32 x] H K =
  (K (.bool (feq .f32 (fsub .f32 x x) 0)) H) := by kernel_rfl
theorem E_spec_l01Finite_ok : ∀ g, FnOk Try.prog g (E_spec_l01Finite g) := FnOk.envOf (by
  intro x hx; cases hx)
set_option maxHeartbeats 1000000 in
theorem spec_l01Finite_main (x : Nat) (H : AHeap) (K : Value → AHeap → Prop) (h : T_spec_l01Finite x H fun (r1 : Bool) (H' : AHeap) => K (.bool r1) H') : bodyK Try.prog E_spec_l01Finite Try.f73 [.float .f32 x] H K := by
  rw [spec_l01Finite_vc]
  unfold T_spec_l01Finite p_spec_l01Finite at h
  repeat' (first | exact h | (exfalso; simp_all; done) | (refine ⟨by decide, ?_⟩) | (refine Br.intro (fun hb => ?_) (fun hb => ?_) <;> (try simp only [hb, cond_true, cond_false, Bool.not_true, Bool.not_false] at h)))
theorem spec_l01Finite_ok : FnOk Try.prog 73 S_spec_l01Finite := by
  refine FnOk.body mix_ok E_spec_l01Finite_ok Try.func73 rfl (by kernel_rfl) (by kernel_rfl) ?_ ?_ ?_ ?_ ?_
  · intro args H K K' h hk
    simp only [S_spec_l01Finite] at *
    unfold F_spec_l01Finite at *
    split at hk
    · have k := hk
      exact h _ _ k
    · exact hk.elim
  · intro _ args H K hk
    simp only [S_spec_l01Finite] at *
    unfold F_spec_l01Finite at *
    split at hk
    · have k := hk
      exact ⟨_, k, fun K' k' => k'⟩
    · exact hk.elim
  · intro args H K hk
    simp only [S_spec_l01Finite] at *
    unfold F_spec_l01Finite at *
    split at hk
    · have k := hk
      exact ⟨_, _, k⟩
    · exact hk.elim
  · intro hq; cases hq
  · have mm := @spec_l01Finite_main
    revert mm
    generalize bodyK Try.prog E_spec_l01Finite Try.f73 = Q
    intro mm args H K hk
    simp only [S_spec_l01Finite] at *
    unfold F_spec_l01Finite at *
    split at hk
    · exact mm _ H K hk
    · exact hk.elim

def p_spec_l02Finite_l1 (l_list : List Nat) : Nat → Bool → Int → Bool
  | 0, _, _ => false
  | μ + 1, t2, i => (bif decide ((i : Int) < (l_list.length : Int)) then (bif !((p_spec_l01Finite (((l_list).getD (i : Int).toNat 0)))) then false else (p_spec_l02Finite_l1 l_list μ t2 (i + 1))) else true)
theorem p_spec_l02Finite_l1_s (l_list : List Nat) (μ : Nat) (t2 : Bool) (i : Int) : p_spec_l02Finite_l1 l_list (μ + 1) t2 i = (bif decide ((i : Int) < (l_list.length : Int)) then (bif !((p_spec_l01Finite (((l_list).getD (i : Int).toNat 0)))) then false else (p_spec_l02Finite_l1 l_list μ t2 (i + 1))) else true) := rfl
def p_spec_l02Finite (l_list : List Nat) : Bool := (p_spec_l02Finite_l1 l_list (Int.toNat ((l_list.length : Int) - (0 : Int)) + 1) false (0 : Int))
theorem p_spec_l02Finite_eq (l_list : List Nat) : p_spec_l02Finite l_list = (p_spec_l02Finite_l1 l_list (Int.toNat ((l_list.length : Int) - (0 : Int)) + 1) false (0 : Int)) := rfl
def T_spec_l02Finite (list_a : Option Addr) (list_n : Nat) (list_e : Nat) (H : AHeap) (K : Bool → AHeap → Prop) : Prop := ∃ (l_list : List Nat), IsL fF H list_a list_n l_list ∧ l_list.length < 1073741824 ∧ K (p_spec_l02Finite l_list) H
theorem T_spec_l02Finite_i {list_a : Option Addr} {list_n : Nat} {list_e : Nat} {H : AHeap} {K : Bool → AHeap → Prop} (h : ∃ (l_list : List Nat), IsL fF H list_a list_n l_list ∧ l_list.length < 1073741824 ∧ K (p_spec_l02Finite l_list) H) : T_spec_l02Finite list_a list_n list_e H K := h

/-! spec_l02Finite: function 53 -/
def E_spec_l02Finite : Env := envOf [(73, S_spec_l01Finite)]
def F_spec_l02Finite : List Value → AHeap → (Value → AHeap → Prop) → Prop
  | [.slice list_a list_n list_e], H, K => T_spec_l02Finite list_a list_n list_e H fun (r1 : Bool) (H' : AHeap) => K (.bool r1) H'
  | _, _, _ => False
def S_spec_l02Finite : FSpec := { F := F_spec_l02Finite, quiet := true, tame := false }
theorem spec_l02Finite_vc (list_a : Option Addr) (list_n : Nat) (list_e : Nat) (H : AHeap) (K : Value → AHeap → Prop) : bodyK Try.prog E_spec_l02Finite Try.f53 [.slice list_a list_n list_e] H K =
  (loopK (exK Try.prog E_spec_l02Finite (cl (cl (cr (cl (cr (bodyC Try.f53))))))) [.slice list_a list_n list_e, undef, .bool false, .int .i64 0, undef, undef, undef, undef, undef, undef, undef, undef, undef, undef, undef, undef] H (blockQ 0 (seqQ (exK Try.prog E_spec_l02Finite (cr (cr (bodyC Try.f53)))) (retK Try.prog Try.f53 K)))) := by kernel_rfl
theorem spec_l02Finite_r1 (list_a : Option Addr) (list_e : Nat) (list_n : Nat) (t2 : Bool) (i : Int) (g4 g5 g6 g7 g8 g9 g10 g11 g12 g13 g14 g15 : Value) (H : AHeap) (R : Post) : exK Try.prog E_spec_l02Finite (cl (cl (cr (cl (cr (bodyC Try.f53)))))) [.slice list_a list_n list_e, undef, .bool t2, .int .i64 i, g4, g5, g6, g7, g8, g9, g10, g11, g12, g13, g14, g15] H R =
  (Br (decide ((i : Int) < (list_n : Int))) ((0 : Int) ≤ i ∧ i < (list_n : Int) ∧ ∃ b1 f1, (list_a : Option Addr) = some ⟨b1, f1, none⟩ ∧ ∃ x1 : Nat,  rdC H b1 (f1 + (i : Int).toNat * 1) = some (.float .f32 x1) ∧ T_spec_l01Finite x1 H fun (r1 : Bool) (H1 : AHeap) => Br (!r1) (R .ret [.slice list_a list_n list_e, undef, .bool false, .int .i64 i, .int .i64 i, .slice list_a list_n list_e, .int .i64 (list_n : Int), .bool (decide ((i : Int) < (list_n : Int))), g8, g9, .slice list_a list_n list_e, .int .i64 i, .pointer (some ⟨b1, f1 + (i : Int).toNat * 1, none⟩), .float .f32 x1, .bool r1, .bool (!r1)] H1) (R .normal [.slice list_a list_n list_e, undef, .bool t2, .int .i64 (IntKind.wrap .i64 (i + 1)), .int .i64 i, .slice list_a list_n list_e, .int .i64 (list_n : Int), .bool (decide ((i : Int) < (list_n : Int))), .int .i64 i, .int .i64 (IntKind.wrap .i64 (i + 1)), .slice list_a list_n list_e, .int .i64 i, .pointer (some ⟨b1, f1 + (i : Int).toNat * 1, none⟩), .float .f32 x1, .bool r1, .bool (!r1)] H1)) (R (.exit 0) [.slice list_a list_n list_e, undef, .bool t2, .int .i64 i, .int .i64 i, .slice list_a list_n list_e, .int .i64 (list_n : Int), .bool (decide ((i : Int) < (list_n : Int))), g8, g9, g10, g11, g12, g13, g14, g15] H)) := by kernel_rfl
def spec_l02Finite_I1 (list_a : Option Addr) (list_e : Nat) (list_n : Nat) (Inv : Nat → Bool → Int → AHeap → Prop) : Nat → List Value → AHeap → Prop := fun μ tm H => ∃ (t2 : Bool), ∃ (i : Int), ∃ g4 g5 g6 g7 g8 g9 g10 g11 g12 g13 g14 g15, tm = [.slice list_a list_n list_e, undef, .bool t2, .int .i64 i, g4, g5, g6, g7, g8, g9, g10, g11, g12, g13, g14, g15] ∧ Inv μ t2 i H
theorem spec_l02Finite_L1 (list_a : Option Addr) (list_e : Nat) (list_n : Nat) {Q : Post} (Inv : Nat → Bool → Int → AHeap → Prop) (ν : Nat) (t2 : Bool) (i : Int) (g4 g5 g6 g7 g8 g9 g10 g11 g12 g13 g14 g15 : Value) (H : AHeap) (h0 : Inv ν t2 i H)
    (hs : ∀ (μ : Nat) (t2 : Bool) (i : Int) (g4 g5 g6 g7 g8 g9 g10 g11 g12 g13 g14 g15 : Value) (H : AHeap), Inv μ t2 i H → exK Try.prog E_spec_l02Finite (cl (cl (cr (cl (cr (bodyC Try.f53)))))) [.slice list_a list_n list_e, undef, .bool t2, .int .i64 i, g4, g5, g6, g7, g8, g9, g10, g11, g12, g13, g14, g15] H (loopQ (spec_l02Finite_I1 list_a list_e list_n Inv) μ Q)) : loopK (exK Try.prog E_spec_l02Finite (cl (cl (cr (cl (cr (bodyC Try.f53))))))) [.slice list_a list_n list_e, undef, .bool t2, .int .i64 i, g4, g5, g6, g7, g8, g9, g10, g11, g12, g13, g14, g15] H Q :=
  ⟨spec_l02Finite_I1 list_a list_e list_n Inv, ν, ⟨t2, i, g4, g5, g6, g7, g8, g9, g10, g11, g12, g13, g14, g15, rfl, h0⟩, fun μ tm H h => by obtain ⟨t2, i, g4, g5, g6, g7, g8, g9, g10, g11, g12, g13, g14, g15, rfl, hI⟩ := h; exact hs μ t2 i g4 g5 g6 g7 g8 g9 g10 g11 g12 g13 g14 g15 H hI⟩
theorem spec_l02Finite_n1 {list_a : Option Addr} {list_e : Nat} {list_n : Nat} {Q : Post} {Inv : Nat → Bool → Int → AHeap → Prop} {μ : Nat} (μ' : Nat) {t2 : Bool} {i : Int} {g4 g5 g6 g7 g8 g9 g10 g11 g12 g13 g14 g15 : Value} {H : AHeap} (hm : μ' < μ) (hI : Inv μ' t2 i H) : loopQ (spec_l02Finite_I1 list_a list_e list_n Inv) μ Q .normal [.slice list_a list_n list_e, undef, .bool t2, .int .i64 i, g4, g5, g6, g7, g8, g9, g10, g11, g12, g13, g14, g15] H := ⟨μ', hm, t2, i, g4, g5, g6, g7, g8, g9, g10, g11, g12, g13, g14, g15, rfl, hI⟩
theorem spec_l02Finite_x1_0 (list_a : Option Addr) (list_e : Nat) (list_n : Nat) (t2 : Bool) (i : Int) (g4 g5 g6 g7 g8 g9 g10 g11 g12 g13 g14 g15 : Value) (H : AHeap) (K : Value → AHeap → Prop)  {I : Nat → List Value → AHeap → Prop} {μ : Nat} : loopQ I μ (blockQ 0 (seqQ (exK Try.prog E_spec_l02Finite (cr (cr (bodyC Try.f53)))) (retK Try.prog Try.f53 K))) (.exit 0) [.slice list_a list_n list_e, undef, .bool t2, .int .i64 i, g4, g5, g6, g7, g8, g9, g10, g11, g12, g13, g14, g15] H =
  (K (.bool true) H) := by kernel_rfl
theorem spec_l02Finite_x1_ret (list_a : Option Addr) (list_e : Nat) (list_n : Nat) (t2 : Bool) (i : Int) (g4 g5 g6 g7 g8 g9 g10 g11 g12 g13 g14 g15 : Value) (H : AHeap) (K : Value → AHeap → Prop)  {I : Nat → List Value → AHeap → Prop} {μ : Nat} : loopQ I μ (blockQ 0 (seqQ (exK Try.prog E_spec_l02Finite (cr (cr (bodyC Try.f53)))) (retK Try.prog Try.f53 K))) .ret [.slice list_a list_n list_e, undef, .bool t2, .int .i64 i, g4, g5, g6, g7, g8, g9, g10, g11, g12, g13, g14, g15] H =
  (K (.bool t2) H) := by kernel_rfl
theorem E_spec_l02Finite_ok : ∀ g, FnOk Try.prog g (E_spec_l02Finite g) := FnOk.envOf (by
  intro x hx
  simp only [List.mem_cons, List.not_mem_nil, or_false] at hx
  subst hx; exact spec_l01Finite_ok)
set_option maxHeartbeats 1000000 in
theorem spec_l02Finite_main (list_a : Option Addr) (list_n : Nat) (list_e : Nat) (H : AHeap) (K : Value → AHeap → Prop) (h : T_spec_l02Finite list_a list_n list_e H fun (r1 : Bool) (H' : AHeap) => K (.bool r1) H') : bodyK Try.prog E_spec_l02Finite Try.f53 [.slice list_a list_n list_e] H K := by
  rw [spec_l02Finite_vc]
  obtain ⟨l_list, i_list, bd_9, hk⟩ := h
  obtain rfl := i_list.eqn
  have e : (p_spec_l02Finite l_list) = _ := rfl
  have e := e.trans (p_spec_l02Finite_eq l_list)
  have g0 := Grow.refl H
  refine spec_l02Finite_L1 _ _ _ (fun (μ : Nat) (t2 : Bool) (i : Int) (H_1 : AHeap) => H = H_1 ∧ (0 : Int) ≤ i ∧ i ≤ (l_list.length : Int) ∧ (l_list.length : Int) - i ≤ (μ : Int) ∧ p_spec_l02Finite l_list = p_spec_l02Finite_l1 l_list (μ + 1) t2 i) (Int.toNat ((l_list.length : Int) - (0 : Int))) _ _ _ _ _ _ _ _ _ _ _ _ _ _ H ?_ ?_
  · exact ⟨rfl, (by first | omega | (simp; done) | (simp; omega)), (by first | omega | (simp; done) | (simp; omega)), (by omega), e⟩
  · intro μ t2 i g4 g5 g6 g7 g8 g9 g10 g11 g12 g13 g14 g15 H_1 hI
    obtain ⟨rfl, v_1, v_2, hμ, e⟩ := hI
    rw [spec_l02Finite_r1]
    have e := e.trans (p_spec_l02Finite_l1_s l_list μ t2 i)
    have l_3 := g0.1
    refine Br.intro (fun c_4 => ?_) (fun c_4 => ?_)
    · have e := e.trans (cond_t c_4)
      have c_4' := of_decide_eq_true c_4
      obtain ⟨b_5, f_6, q_7⟩ := ((i_list.grow g0)).pos (by first | omega | (simp only [List.length_set, List.length_replicate, List.length_append, List.length_cons, List.length_nil, List.length_take, List.length_drop, marks_length]; done) | (simp only [List.length_set, List.length_replicate, List.length_append, List.length_cons, List.length_nil, List.length_take, List.length_drop, marks_length]; omega))
      refine ⟨by omega, by omega, b_5, f_6, q_7, ?_⟩
      refine ⟨((l_list).getD (i : Int).toNat 0), (i_list).rd g0 q_7 (by omega) _, ?_⟩
      refine T_spec_l01Finite_i ?_
      refine Br.intro (fun c_8 => ?_) (fun c_8 => ?_)
      · have e := e.trans (cond_t c_8)
        have c_8n := nf_of_t c_8
        rw [spec_l02Finite_x1_ret]
        rw [e] at hk
        exact hk
      · have e := e.trans (cond_f c_8)
        have c_8n := nt_of_f c_8
        rw [show IntKind.wrap .i64 (i + 1) = (i + 1) from wrap64 (by omega) (by omega)]
        refine spec_l02Finite_n1 (μ - 1) (by first | omega) ⟨rfl, (by first | omega | (simp only [List.length_append, List.length_cons, List.length_nil, List.length_set]; done) | (simp only [List.length_append, List.length_cons, List.length_nil, List.length_set]; omega)), (by first | omega | (simp only [List.length_append, List.length_cons, List.length_nil, List.length_set]; done) | (simp only [List.length_append, List.length_cons, List.length_nil, List.length_set]; omega)), (by first | omega), (by rw [show μ - 1 + 1 = μ from by first | omega]; exact e)⟩
    · have e := e.trans (cond_f c_4)
      have c_4' := of_decide_eq_false c_4
      rw [spec_l02Finite_x1_0]
      rw [e] at hk
      exact hk
theorem spec_l02Finite_ok : FnOk Try.prog 53 S_spec_l02Finite := by
  refine FnOk.body mix_ok E_spec_l02Finite_ok Try.func53 rfl (by kernel_rfl) (by kernel_rfl) ?_ ?_ ?_ ?_ ?_
  · intro args H K K' h hk
    simp only [S_spec_l02Finite] at *
    unfold F_spec_l02Finite at *
    split at hk
    · obtain ⟨l_list, i_list, bd_9, k⟩ := hk
      exact ⟨l_list, i_list, bd_9, h _ _ k⟩
    · exact hk.elim
  · intro _ args H K hk
    simp only [S_spec_l02Finite] at *
    unfold F_spec_l02Finite at *
    split at hk
    · obtain ⟨l_list, i_list, bd_9, k⟩ := hk
      exact ⟨_, k, fun K' k' => ⟨l_list, i_list, bd_9, k'⟩⟩
    · exact hk.elim
  · intro args H K hk
    simp only [S_spec_l02Finite] at *
    unfold F_spec_l02Finite at *
    split at hk
    · obtain ⟨l_list, i_list, bd_9, k⟩ := hk
      exact ⟨_, _, k⟩
    · exact hk.elim
  · intro hq; cases hq
  · have mm := @spec_l02Finite_main
    revert mm
    generalize bodyK Try.prog E_spec_l02Finite Try.f53 = Q
    intro mm args H K hk
    simp only [S_spec_l02Finite] at *
    unfold F_spec_l02Finite at *
    split at hk
    · exact mm _ _ _ H K hk
    · exact hk.elim

def p_spec_l03Long (l_list : List Nat) : Bool := (bif decide ((1 : Int) ≤ (l_list.length : Int)) then (bif decide (((l_list.length : Int) : Int) ≤ 128) then (p_spec_l02Finite l_list) else false) else false)
theorem p_spec_l03Long_eq (l_list : List Nat) : p_spec_l03Long l_list = (bif decide ((1 : Int) ≤ (l_list.length : Int)) then (bif decide (((l_list.length : Int) : Int) ≤ 128) then (p_spec_l02Finite l_list) else false) else false) := rfl
def T_spec_l03Long (list_a : Option Addr) (list_n : Nat) (list_e : Nat) (H : AHeap) (K : Bool → AHeap → Prop) : Prop := ∃ (l_list : List Nat), IsL fF H list_a list_n l_list ∧ l_list.length < 1073741824 ∧ K (p_spec_l03Long l_list) H
theorem T_spec_l03Long_i {list_a : Option Addr} {list_n : Nat} {list_e : Nat} {H : AHeap} {K : Bool → AHeap → Prop} (h : ∃ (l_list : List Nat), IsL fF H list_a list_n l_list ∧ l_list.length < 1073741824 ∧ K (p_spec_l03Long l_list) H) : T_spec_l03Long list_a list_n list_e H K := h
theorem spec_l03Long_t {l : List Nat} (h : p_spec_l03Long l = true) : 1 ≤ (l.length : Int) ∧ (l.length : Int) ≤ 128 := by
  rw [p_spec_l03Long_eq] at h
  by_cases h1 : (1 : Int) ≤ (l.length : Int)
  · rw [decide_eq_true h1, cond_true] at h
    by_cases h2 : (l.length : Int) ≤ 128
    · exact ⟨h1, h2⟩
    · rw [decide_eq_false h2] at h; cases h
  · rw [decide_eq_false h1] at h; cases h
/-! spec_l03Long: function 72 -/
def E_spec_l03Long : Env := envOf [(53, S_spec_l02Finite)]
def F_spec_l03Long : List Value → AHeap → (Value → AHeap → Prop) → Prop
  | [.slice list_a list_n list_e], H, K => T_spec_l03Long list_a list_n list_e H fun (r1 : Bool) (H' : AHeap) => K (.bool r1) H'
  | _, _, _ => False
def S_spec_l03Long : FSpec := { F := F_spec_l03Long, quiet := true, tame := false }
theorem spec_l03Long_vc (list_a : Option Addr) (list_n : Nat) (list_e : Nat) (H : AHeap) (K : Value → AHeap → Prop) : bodyK Try.prog E_spec_l03Long Try.f72 [.slice list_a list_n list_e] H K =
  (Br (decide ((1 : Int) ≤ (list_n : Int))) (Br (decide (((list_n : Int) : Int) ≤ 128)) (T_spec_l02Finite list_a list_n list_e H fun (r1 : Bool) (H1 : AHeap) => K (.bool r1) H1) (K (.bool false) H)) (K (.bool false) H)) := by kernel_rfl
theorem E_spec_l03Long_ok : ∀ g, FnOk Try.prog g (E_spec_l03Long g) := FnOk.envOf (by
  intro x hx
  simp only [List.mem_cons, List.not_mem_nil, or_false] at hx
  subst hx; exact spec_l02Finite_ok)
set_option maxHeartbeats 1000000 in
theorem spec_l03Long_main (list_a : Option Addr) (list_n : Nat) (list_e : Nat) (H : AHeap) (K : Value → AHeap → Prop) (h : T_spec_l03Long list_a list_n list_e H fun (r1 : Bool) (H' : AHeap) => K (.bool r1) H') : bodyK Try.prog E_spec_l03Long Try.f72 [.slice list_a list_n list_e] H K := by
  rw [spec_l03Long_vc]
  obtain ⟨l_list, i_list, bd_3, hk⟩ := h
  obtain rfl := i_list.eqn
  have e : (p_spec_l03Long l_list) = _ := rfl
  have e := e.trans (p_spec_l03Long_eq l_list)
  have g0 := Grow.refl H
  refine Br.intro (fun c_1 => ?_) (fun c_1 => ?_)
  · have e := e.trans (cond_t c_1)
    have c_1' := of_decide_eq_true c_1
    refine Br.intro (fun c_2 => ?_) (fun c_2 => ?_)
    · have e := e.trans (cond_t c_2)
      have c_2' := of_decide_eq_true c_2
      refine T_spec_l02Finite_i ⟨_, (i_list.grow g0), (by first | omega | (simp only [List.length_set, List.length_replicate, List.length_append, List.length_cons, List.length_nil, List.length_take, List.length_drop, marks_length]; done) | (simp only [List.length_set, List.length_replicate, List.length_append, List.length_cons, List.length_nil, List.length_take, List.length_drop, marks_length]; omega)), ?_⟩
      rw [e] at hk
      exact hk
    · have e := e.trans (cond_f c_2)
      have c_2' := of_decide_eq_false c_2
      rw [e] at hk
      exact hk
  · have e := e.trans (cond_f c_1)
    have c_1' := of_decide_eq_false c_1
    rw [e] at hk
    exact hk
theorem spec_l03Long_ok : FnOk Try.prog 72 S_spec_l03Long := by
  refine FnOk.body mix_ok E_spec_l03Long_ok Try.func72 rfl (by kernel_rfl) (by kernel_rfl) ?_ ?_ ?_ ?_ ?_
  · intro args H K K' h hk
    simp only [S_spec_l03Long] at *
    unfold F_spec_l03Long at *
    split at hk
    · obtain ⟨l_list, i_list, bd_3, k⟩ := hk
      exact ⟨l_list, i_list, bd_3, h _ _ k⟩
    · exact hk.elim
  · intro _ args H K hk
    simp only [S_spec_l03Long] at *
    unfold F_spec_l03Long at *
    split at hk
    · obtain ⟨l_list, i_list, bd_3, k⟩ := hk
      exact ⟨_, k, fun K' k' => ⟨l_list, i_list, bd_3, k'⟩⟩
    · exact hk.elim
  · intro args H K hk
    simp only [S_spec_l03Long] at *
    unfold F_spec_l03Long at *
    split at hk
    · obtain ⟨l_list, i_list, bd_3, k⟩ := hk
      exact ⟨_, _, k⟩
    · exact hk.elim
  · intro hq; cases hq
  · have mm := @spec_l03Long_main
    revert mm
    generalize bodyK Try.prog E_spec_l03Long Try.f72 = Q
    intro mm args H K hk
    simp only [S_spec_l03Long] at *
    unfold F_spec_l03Long at *
    split at hk
    · exact mm _ _ _ H K hk
    · exact hk.elim
def p_spec_l00In (n : Int) (low : Int) (high : Int) : Bool := (bif decide ((low : Int) ≤ n) then decide ((n : Int) ≤ high) else false)
theorem p_spec_l00In_eq (n : Int) (low : Int) (high : Int) : p_spec_l00In n low high = (bif decide ((low : Int) ≤ n) then decide ((n : Int) ≤ high) else false) := rfl
def T_spec_l00In (n : Int) (low : Int) (high : Int) (H : AHeap) (K : Bool → AHeap → Prop) : Prop := K (p_spec_l00In n low high) H
theorem spec_l00In_t {n a b : Int} (h : p_spec_l00In n a b = true) : a ≤ n ∧ n ≤ b := by
  unfold p_spec_l00In at h
  by_cases h1 : a ≤ n
  · rw [decide_eq_true h1, cond_true] at h; exact ⟨h1, of_decide_eq_true h⟩
  · rw [decide_eq_false h1] at h; cases h
theorem T_spec_l00In_i {n : Int} {low : Int} {high : Int} {H : AHeap} {K : Bool → AHeap → Prop} (h : K (p_spec_l00In n low high) H) : T_spec_l00In n low high H K := h
/-! spec_l00In: function 50 -/
def E_spec_l00In : Env := envOf []
def F_spec_l00In : List Value → AHeap → (Value → AHeap → Prop) → Prop
  | [.int .i64 n, .int .i64 low, .int .i64 high], H, K => T_spec_l00In n low high H fun (r1 : Bool) (H' : AHeap) => K (.bool r1) H'
  | _, _, _ => False
def S_spec_l00In : FSpec := { F := F_spec_l00In, quiet := true, tame := false }
theorem spec_l00In_vc (n : Int) (low : Int) (high : Int) (H : AHeap) (K : Value → AHeap → Prop) : bodyK Try.prog E_spec_l00In Try.f50 [.int .i64 n, .int .i64 low, .int .i64 high] H K =
  (Br (decide ((low : Int) ≤ n)) (K (.bool (decide ((n : Int) ≤ high))) H) (K (.bool false) H)) := by kernel_rfl
theorem E_spec_l00In_ok : ∀ g, FnOk Try.prog g (E_spec_l00In g) := FnOk.envOf (by
  intro x hx; cases hx)
set_option maxHeartbeats 1000000 in
theorem spec_l00In_main (n : Int) (low : Int) (high : Int) (H : AHeap) (K : Value → AHeap → Prop) (h : T_spec_l00In n low high H fun (r1 : Bool) (H' : AHeap) => K (.bool r1) H') : bodyK Try.prog E_spec_l00In Try.f50 [.int .i64 n, .int .i64 low, .int .i64 high] H K := by
  rw [spec_l00In_vc]
  unfold T_spec_l00In p_spec_l00In at h
  repeat' (first | exact h | (exfalso; simp_all; done) | (refine ⟨by decide, ?_⟩) | (refine Br.intro (fun hb => ?_) (fun hb => ?_) <;> (try simp only [hb, cond_true, cond_false, Bool.not_true, Bool.not_false] at h)))
theorem spec_l00In_ok : FnOk Try.prog 50 S_spec_l00In := by
  refine FnOk.body mix_ok E_spec_l00In_ok Try.func50 rfl (by kernel_rfl) (by kernel_rfl) ?_ ?_ ?_ ?_ ?_
  · intro args H K K' h hk
    simp only [S_spec_l00In] at *
    unfold F_spec_l00In at *
    split at hk
    · have k := hk
      exact h _ _ k
    · exact hk.elim
  · intro _ args H K hk
    simp only [S_spec_l00In] at *
    unfold F_spec_l00In at *
    split at hk
    · have k := hk
      exact ⟨_, k, fun K' k' => k'⟩
    · exact hk.elim
  · intro args H K hk
    simp only [S_spec_l00In] at *
    unfold F_spec_l00In at *
    split at hk
    · have k := hk
      exact ⟨_, _, k⟩
    · exact hk.elim
  · intro hq; cases hq
  · have mm := @spec_l00In_main
    revert mm
    generalize bodyK Try.prog E_spec_l00In Try.f50 = Q
    intro mm args H K hk
    simp only [S_spec_l00In] at *
    unfold F_spec_l00In at *
    split at hk
    · exact mm _ _ _ H K hk
    · exact hk.elim

def p_spec_l05Mean_l1 (l_list : List Nat) : Nat → Nat → Int → Nat
  | 0, _, _ => 0
  | μ + 1, sum, t7 => (bif decide ((t7 : Int) < (l_list.length : Int)) then (p_spec_l05Mean_l1 l_list μ (fadd .f32 sum (((l_list).getD (t7 : Int).toNat 0))) (t7 + 1)) else fdiv .f32 sum (FloatKind.nearest .f32 (l_list.length : Int)))
theorem p_spec_l05Mean_l1_s (l_list : List Nat) (μ : Nat) (sum : Nat) (t7 : Int) : p_spec_l05Mean_l1 l_list (μ + 1) sum t7 = (bif decide ((t7 : Int) < (l_list.length : Int)) then (p_spec_l05Mean_l1 l_list μ (fadd .f32 sum (((l_list).getD (t7 : Int).toNat 0))) (t7 + 1)) else fdiv .f32 sum (FloatKind.nearest .f32 (l_list.length : Int))) := rfl
def p_spec_l05Mean (l_list : List Nat) : Nat := (p_spec_l05Mean_l1 l_list (Int.toNat ((l_list.length : Int) - (0 : Int)) + 1) 0 (0 : Int))
theorem p_spec_l05Mean_eq (l_list : List Nat) : p_spec_l05Mean l_list = (p_spec_l05Mean_l1 l_list (Int.toNat ((l_list.length : Int) - (0 : Int)) + 1) 0 (0 : Int)) := rfl
def T_spec_l05Mean (list_a : Option Addr) (list_n : Nat) (list_e : Nat) (H : AHeap) (K : Nat → AHeap → Prop) : Prop := ∃ (l_list : List Nat), IsL fF H list_a list_n l_list ∧ l_list.length < 1073741824 ∧ K (p_spec_l05Mean l_list) H
theorem T_spec_l05Mean_i {list_a : Option Addr} {list_n : Nat} {list_e : Nat} {H : AHeap} {K : Nat → AHeap → Prop} (h : ∃ (l_list : List Nat), IsL fF H list_a list_n l_list ∧ l_list.length < 1073741824 ∧ K (p_spec_l05Mean l_list) H) : T_spec_l05Mean list_a list_n list_e H K := h

/-! spec_l05Mean: function 103 -/
def E_spec_l05Mean : Env := envOf []
def F_spec_l05Mean : List Value → AHeap → (Value → AHeap → Prop) → Prop
  | [.slice list_a list_n list_e], H, K => T_spec_l05Mean list_a list_n list_e H fun (r1 : Nat) (H' : AHeap) => K (.float .f32 r1) H'
  | _, _, _ => False
def S_spec_l05Mean : FSpec := { F := F_spec_l05Mean, quiet := true, tame := false }
theorem spec_l05Mean_vc (list_a : Option Addr) (list_n : Nat) (list_e : Nat) (H : AHeap) (K : Value → AHeap → Prop) : bodyK Try.prog E_spec_l05Mean Try.f103 [.slice list_a list_n list_e] H K =
  (loopK (exK Try.prog E_spec_l05Mean (cl (cl (cr (cl (cr (cr (bodyC Try.f103)))))))) [.slice list_a list_n list_e, undef, .float .f32 0, .float .f32 0, undef, .slice list_a list_n list_e, .int .i64 (list_n : Int), .int .i64 0, undef, undef, undef, undef, undef, undef, undef, undef, undef, undef, undef, undef, undef, undef] H (blockQ 0 (seqQ (exK Try.prog E_spec_l05Mean (cr (cr (cr (bodyC Try.f103))))) (retK Try.prog Try.f103 K)))) := by kernel_rfl
theorem spec_l05Mean_r1 (list_a : Option Addr) (list_e : Nat) (list_n : Nat) (sum : Nat) (t7 : Int) (g4 g8 g9 g10 g11 g12 g13 g14 g15 g16 : Value) (H : AHeap) (R : Post) : exK Try.prog E_spec_l05Mean (cl (cl (cr (cl (cr (cr (bodyC Try.f103))))))) [.slice list_a list_n list_e, undef, .float .f32 0, .float .f32 sum, g4, .slice list_a list_n list_e, .int .i64 (list_n : Int), .int .i64 t7, g8, g9, g10, g11, g12, g13, g14, g15, g16, undef, undef, undef, undef, undef] H R =
  (Br (decide ((t7 : Int) < (list_n : Int))) ((0 : Int) ≤ t7 ∧ t7 < (list_n : Int) ∧ ∃ b1 f1, (list_a : Option Addr) = some ⟨b1, f1, none⟩ ∧ ∃ x1 : Nat,  rdC H b1 (f1 + (t7 : Int).toNat * 1) = some (.float .f32 x1) ∧ R .normal [.slice list_a list_n list_e, undef, .float .f32 0, .float .f32 (fadd .f32 sum x1), .int .i64 t7, .slice list_a list_n list_e, .int .i64 (list_n : Int), .int .i64 (IntKind.wrap .i64 (t7 + 1)), .bool (decide ((t7 : Int) < (list_n : Int))), .int .i64 t7, .float .f32 sum, .slice list_a list_n list_e, .int .i64 t7, .pointer (some ⟨b1, f1 + (t7 : Int).toNat * 1, none⟩), .float .f32 x1, .float .f32 (fadd .f32 sum x1), .int .i64 (IntKind.wrap .i64 (t7 + 1)), undef, undef, undef, undef, undef] H) (R (.exit 0) [.slice list_a list_n list_e, undef, .float .f32 0, .float .f32 sum, g4, .slice list_a list_n list_e, .int .i64 (list_n : Int), .int .i64 t7, .bool (decide ((t7 : Int) < (list_n : Int))), g9, g10, g11, g12, g13, g14, g15, g16, undef, undef, undef, undef, undef] H)) := by kernel_rfl
def spec_l05Mean_I1 (list_a : Option Addr) (list_e : Nat) (list_n : Nat) (Inv : Nat → Nat → Int → AHeap → Prop) : Nat → List Value → AHeap → Prop := fun μ tm H => ∃ (sum : Nat), ∃ (t7 : Int), ∃ g4 g8 g9 g10 g11 g12 g13 g14 g15 g16, tm = [.slice list_a list_n list_e, undef, .float .f32 0, .float .f32 sum, g4, .slice list_a list_n list_e, .int .i64 (list_n : Int), .int .i64 t7, g8, g9, g10, g11, g12, g13, g14, g15, g16, undef, undef, undef, undef, undef] ∧ Inv μ sum t7 H
theorem spec_l05Mean_L1 (list_a : Option Addr) (list_e : Nat) (list_n : Nat) {Q : Post} (Inv : Nat → Nat → Int → AHeap → Prop) (ν : Nat) (sum : Nat) (t7 : Int) (g4 g8 g9 g10 g11 g12 g13 g14 g15 g16 : Value) (H : AHeap) (h0 : Inv ν sum t7 H)
    (hs : ∀ (μ : Nat) (sum : Nat) (t7 : Int) (g4 g8 g9 g10 g11 g12 g13 g14 g15 g16 : Value) (H : AHeap), Inv μ sum t7 H → exK Try.prog E_spec_l05Mean (cl (cl (cr (cl (cr (cr (bodyC Try.f103))))))) [.slice list_a list_n list_e, undef, .float .f32 0, .float .f32 sum, g4, .slice list_a list_n list_e, .int .i64 (list_n : Int), .int .i64 t7, g8, g9, g10, g11, g12, g13, g14, g15, g16, undef, undef, undef, undef, undef] H (loopQ (spec_l05Mean_I1 list_a list_e list_n Inv) μ Q)) : loopK (exK Try.prog E_spec_l05Mean (cl (cl (cr (cl (cr (cr (bodyC Try.f103)))))))) [.slice list_a list_n list_e, undef, .float .f32 0, .float .f32 sum, g4, .slice list_a list_n list_e, .int .i64 (list_n : Int), .int .i64 t7, g8, g9, g10, g11, g12, g13, g14, g15, g16, undef, undef, undef, undef, undef] H Q :=
  ⟨spec_l05Mean_I1 list_a list_e list_n Inv, ν, ⟨sum, t7, g4, g8, g9, g10, g11, g12, g13, g14, g15, g16, rfl, h0⟩, fun μ tm H h => by obtain ⟨sum, t7, g4, g8, g9, g10, g11, g12, g13, g14, g15, g16, rfl, hI⟩ := h; exact hs μ sum t7 g4 g8 g9 g10 g11 g12 g13 g14 g15 g16 H hI⟩
theorem spec_l05Mean_n1 {list_a : Option Addr} {list_e : Nat} {list_n : Nat} {Q : Post} {Inv : Nat → Nat → Int → AHeap → Prop} {μ : Nat} (μ' : Nat) {sum : Nat} {t7 : Int} {g4 g8 g9 g10 g11 g12 g13 g14 g15 g16 : Value} {H : AHeap} (hm : μ' < μ) (hI : Inv μ' sum t7 H) : loopQ (spec_l05Mean_I1 list_a list_e list_n Inv) μ Q .normal [.slice list_a list_n list_e, undef, .float .f32 0, .float .f32 sum, g4, .slice list_a list_n list_e, .int .i64 (list_n : Int), .int .i64 t7, g8, g9, g10, g11, g12, g13, g14, g15, g16, undef, undef, undef, undef, undef] H := ⟨μ', hm, sum, t7, g4, g8, g9, g10, g11, g12, g13, g14, g15, g16, rfl, hI⟩
theorem spec_l05Mean_x1_0 (list_a : Option Addr) (list_e : Nat) (list_n : Nat) (sum : Nat) (t7 : Int) (g4 g8 g9 g10 g11 g12 g13 g14 g15 g16 : Value) (H : AHeap) (K : Value → AHeap → Prop)  {I : Nat → List Value → AHeap → Prop} {μ : Nat} : loopQ I μ (blockQ 0 (seqQ (exK Try.prog E_spec_l05Mean (cr (cr (cr (bodyC Try.f103))))) (retK Try.prog Try.f103 K))) (.exit 0) [.slice list_a list_n list_e, undef, .float .f32 0, .float .f32 sum, g4, .slice list_a list_n list_e, .int .i64 (list_n : Int), .int .i64 t7, g8, g9, g10, g11, g12, g13, g14, g15, g16, undef, undef, undef, undef, undef] H =
  (K (.float .f32 (fdiv .f32 sum (FloatKind.nearest .f32 (list_n : Int)))) H) := by kernel_rfl
theorem E_spec_l05Mean_ok : ∀ g, FnOk Try.prog g (E_spec_l05Mean g) := FnOk.envOf (by
  intro x hx; cases hx)
set_option maxHeartbeats 1000000 in
theorem spec_l05Mean_main (list_a : Option Addr) (list_n : Nat) (list_e : Nat) (H : AHeap) (K : Value → AHeap → Prop) (h : T_spec_l05Mean list_a list_n list_e H fun (r1 : Nat) (H' : AHeap) => K (.float .f32 r1) H') : bodyK Try.prog E_spec_l05Mean Try.f103 [.slice list_a list_n list_e] H K := by
  rw [spec_l05Mean_vc]
  obtain ⟨l_list, i_list, bd_8, hk⟩ := h
  obtain rfl := i_list.eqn
  have e : (p_spec_l05Mean l_list) = _ := rfl
  have e := e.trans (p_spec_l05Mean_eq l_list)
  have g0 := Grow.refl H
  refine spec_l05Mean_L1 _ _ _ (fun (μ : Nat) (sum : Nat) (t7 : Int) (H_1 : AHeap) => H = H_1 ∧ (0 : Int) ≤ t7 ∧ t7 ≤ (l_list.length : Int) ∧ (l_list.length : Int) - t7 ≤ (μ : Int) ∧ p_spec_l05Mean l_list = p_spec_l05Mean_l1 l_list (μ + 1) sum t7) (Int.toNat ((l_list.length : Int) - (0 : Int))) _ _ _ _ _ _ _ _ _ _ _ _ H ?_ ?_
  · exact ⟨rfl, (by first | omega | (simp; done) | (simp; omega)), (by first | omega | (simp; done) | (simp; omega)), (by omega), e⟩
  · intro μ sum t7 g4 g8 g9 g10 g11 g12 g13 g14 g15 g16 H_1 hI
    obtain ⟨rfl, v_1, v_2, hμ, e⟩ := hI
    rw [spec_l05Mean_r1]
    have e := e.trans (p_spec_l05Mean_l1_s l_list μ sum t7)
    have l_3 := g0.1
    refine Br.intro (fun c_4 => ?_) (fun c_4 => ?_)
    · have e := e.trans (cond_t c_4)
      have c_4' := of_decide_eq_true c_4
      obtain ⟨b_5, f_6, q_7⟩ := ((i_list.grow g0)).pos (by first | omega | (simp only [List.length_set, List.length_replicate, List.length_append, List.length_cons, List.length_nil, List.length_take, List.length_drop, marks_length]; done) | (simp only [List.length_set, List.length_replicate, List.length_append, List.length_cons, List.length_nil, List.length_take, List.length_drop, marks_length]; omega))
      refine ⟨by omega, by omega, b_5, f_6, q_7, ?_⟩
      refine ⟨((l_list).getD (t7 : Int).toNat 0), (i_list).rd g0 q_7 (by omega) _, ?_⟩
      rw [show IntKind.wrap .i64 (t7 + 1) = (t7 + 1) from wrap64 (by omega) (by omega)]
      refine spec_l05Mean_n1 (μ - 1) (by first | omega) ⟨rfl, (by first | omega | (simp only [List.length_append, List.length_cons, List.length_nil, List.length_set]; done) | (simp only [List.length_append, List.length_cons, List.length_nil, List.length_set]; omega)), (by first | omega | (simp only [List.length_append, List.length_cons, List.length_nil, List.length_set]; done) | (simp only [List.length_append, List.length_cons, List.length_nil, List.length_set]; omega)), (by first | omega), (by rw [show μ - 1 + 1 = μ from by first | omega]; exact e)⟩
    · have e := e.trans (cond_f c_4)
      have c_4' := of_decide_eq_false c_4
      rw [spec_l05Mean_x1_0]
      rw [e] at hk
      exact hk
theorem spec_l05Mean_ok : FnOk Try.prog 103 S_spec_l05Mean := by
  refine FnOk.body mix_ok E_spec_l05Mean_ok Try.func103 rfl (by kernel_rfl) (by kernel_rfl) ?_ ?_ ?_ ?_ ?_
  · intro args H K K' h hk
    simp only [S_spec_l05Mean] at *
    unfold F_spec_l05Mean at *
    split at hk
    · obtain ⟨l_list, i_list, bd_8, k⟩ := hk
      exact ⟨l_list, i_list, bd_8, h _ _ k⟩
    · exact hk.elim
  · intro _ args H K hk
    simp only [S_spec_l05Mean] at *
    unfold F_spec_l05Mean at *
    split at hk
    · obtain ⟨l_list, i_list, bd_8, k⟩ := hk
      exact ⟨_, k, fun K' k' => ⟨l_list, i_list, bd_8, k'⟩⟩
    · exact hk.elim
  · intro args H K hk
    simp only [S_spec_l05Mean] at *
    unfold F_spec_l05Mean at *
    split at hk
    · obtain ⟨l_list, i_list, bd_8, k⟩ := hk
      exact ⟨_, _, k⟩
    · exact hk.elim
  · intro hq; cases hq
  · have mm := @spec_l05Mean_main
    revert mm
    generalize bodyK Try.prog E_spec_l05Mean Try.f103 = Q
    intro mm args H K hk
    simp only [S_spec_l05Mean] at *
    unfold F_spec_l05Mean at *
    split at hk
    · exact mm _ _ _ H K hk
    · exact hk.elim

def p_spec_l05Break_l1 (l_list : List Nat) : Nat → Int → Nat → Bool → Int → Nat → Int → Int × Nat × Bool
  | 0, _, _, _, _, _, _ => (0, 0, false)
  | μ + 1, t2, t3, t4, best, vmost, k => (bif decide ((k : Int) < (l_list.length : Int)) then (bif !((p_spec_l01Finite (fadd .f32 (fmul .f32 (fmul .f32 (FloatKind.nearest .f32 k) (fsub .f32 ((p_spec_l05Mean ((((l_list).drop (0 : Int).toNat).take ((k : Int) - 0).toNat)))) (p_spec_l05Mean l_list))) (fsub .f32 ((p_spec_l05Mean ((((l_list).drop (0 : Int).toNat).take ((k : Int) - 0).toNat)))) (p_spec_l05Mean l_list))) (fmul .f32 (fmul .f32 (FloatKind.nearest .f32 (IntKind.wrap .i64 ((l_list.length : Int) - k))) (fsub .f32 ((p_spec_l05Mean ((((l_list).drop (k : Int).toNat).take (((l_list.length : Int) : Int) - k).toNat)))) (p_spec_l05Mean l_list))) (fsub .f32 ((p_spec_l05Mean ((((l_list).drop (k : Int).toNat).take (((l_list.length : Int) : Int) - k).toNat)))) (p_spec_l05Mean l_list)))))) then ((0 : Int), 0, false) else (bif (best : Int) == 0 then (p_spec_l05Break_l1 l_list μ t2 t3 t4 k (fadd .f32 (fmul .f32 (fmul .f32 (FloatKind.nearest .f32 k) (fsub .f32 ((p_spec_l05Mean ((((l_list).drop (0 : Int).toNat).take ((k : Int) - 0).toNat)))) (p_spec_l05Mean l_list))) (fsub .f32 ((p_spec_l05Mean ((((l_list).drop (0 : Int).toNat).take ((k : Int) - 0).toNat)))) (p_spec_l05Mean l_list))) (fmul .f32 (fmul .f32 (FloatKind.nearest .f32 (IntKind.wrap .i64 ((l_list.length : Int) - k))) (fsub .f32 ((p_spec_l05Mean ((((l_list).drop (k : Int).toNat).take (((l_list.length : Int) : Int) - k).toNat)))) (p_spec_l05Mean l_list))) (fsub .f32 ((p_spec_l05Mean ((((l_list).drop (k : Int).toNat).take (((l_list.length : Int) : Int) - k).toNat)))) (p_spec_l05Mean l_list)))) (k + 1)) else (bif flt .f32 vmost (fadd .f32 (fmul .f32 (fmul .f32 (FloatKind.nearest .f32 k) (fsub .f32 ((p_spec_l05Mean ((((l_list).drop (0 : Int).toNat).take ((k : Int) - 0).toNat)))) (p_spec_l05Mean l_list))) (fsub .f32 ((p_spec_l05Mean ((((l_list).drop (0 : Int).toNat).take ((k : Int) - 0).toNat)))) (p_spec_l05Mean l_list))) (fmul .f32 (fmul .f32 (FloatKind.nearest .f32 (IntKind.wrap .i64 ((l_list.length : Int) - k))) (fsub .f32 ((p_spec_l05Mean ((((l_list).drop (k : Int).toNat).take (((l_list.length : Int) : Int) - k).toNat)))) (p_spec_l05Mean l_list))) (fsub .f32 ((p_spec_l05Mean ((((l_list).drop (k : Int).toNat).take (((l_list.length : Int) : Int) - k).toNat)))) (p_spec_l05Mean l_list)))) then (p_spec_l05Break_l1 l_list μ t2 t3 t4 k (fadd .f32 (fmul .f32 (fmul .f32 (FloatKind.nearest .f32 k) (fsub .f32 ((p_spec_l05Mean ((((l_list).drop (0 : Int).toNat).take ((k : Int) - 0).toNat)))) (p_spec_l05Mean l_list))) (fsub .f32 ((p_spec_l05Mean ((((l_list).drop (0 : Int).toNat).take ((k : Int) - 0).toNat)))) (p_spec_l05Mean l_list))) (fmul .f32 (fmul .f32 (FloatKind.nearest .f32 (IntKind.wrap .i64 ((l_list.length : Int) - k))) (fsub .f32 ((p_spec_l05Mean ((((l_list).drop (k : Int).toNat).take (((l_list.length : Int) : Int) - k).toNat)))) (p_spec_l05Mean l_list))) (fsub .f32 ((p_spec_l05Mean ((((l_list).drop (k : Int).toNat).take (((l_list.length : Int) : Int) - k).toNat)))) (p_spec_l05Mean l_list)))) (k + 1)) else (p_spec_l05Break_l1 l_list μ t2 t3 t4 best vmost (k + 1))))) else (best, vmost, true))
theorem p_spec_l05Break_l1_s (l_list : List Nat) (μ : Nat) (t2 : Int) (t3 : Nat) (t4 : Bool) (best : Int) (vmost : Nat) (k : Int) : p_spec_l05Break_l1 l_list (μ + 1) t2 t3 t4 best vmost k = (bif decide ((k : Int) < (l_list.length : Int)) then (bif !((p_spec_l01Finite (fadd .f32 (fmul .f32 (fmul .f32 (FloatKind.nearest .f32 k) (fsub .f32 ((p_spec_l05Mean ((((l_list).drop (0 : Int).toNat).take ((k : Int) - 0).toNat)))) (p_spec_l05Mean l_list))) (fsub .f32 ((p_spec_l05Mean ((((l_list).drop (0 : Int).toNat).take ((k : Int) - 0).toNat)))) (p_spec_l05Mean l_list))) (fmul .f32 (fmul .f32 (FloatKind.nearest .f32 (IntKind.wrap .i64 ((l_list.length : Int) - k))) (fsub .f32 ((p_spec_l05Mean ((((l_list).drop (k : Int).toNat).take (((l_list.length : Int) : Int) - k).toNat)))) (p_spec_l05Mean l_list))) (fsub .f32 ((p_spec_l05Mean ((((l_list).drop (k : Int).toNat).take (((l_list.length : Int) : Int) - k).toNat)))) (p_spec_l05Mean l_list)))))) then ((0 : Int), 0, false) else (bif (best : Int) == 0 then (p_spec_l05Break_l1 l_list μ t2 t3 t4 k (fadd .f32 (fmul .f32 (fmul .f32 (FloatKind.nearest .f32 k) (fsub .f32 ((p_spec_l05Mean ((((l_list).drop (0 : Int).toNat).take ((k : Int) - 0).toNat)))) (p_spec_l05Mean l_list))) (fsub .f32 ((p_spec_l05Mean ((((l_list).drop (0 : Int).toNat).take ((k : Int) - 0).toNat)))) (p_spec_l05Mean l_list))) (fmul .f32 (fmul .f32 (FloatKind.nearest .f32 (IntKind.wrap .i64 ((l_list.length : Int) - k))) (fsub .f32 ((p_spec_l05Mean ((((l_list).drop (k : Int).toNat).take (((l_list.length : Int) : Int) - k).toNat)))) (p_spec_l05Mean l_list))) (fsub .f32 ((p_spec_l05Mean ((((l_list).drop (k : Int).toNat).take (((l_list.length : Int) : Int) - k).toNat)))) (p_spec_l05Mean l_list)))) (k + 1)) else (bif flt .f32 vmost (fadd .f32 (fmul .f32 (fmul .f32 (FloatKind.nearest .f32 k) (fsub .f32 ((p_spec_l05Mean ((((l_list).drop (0 : Int).toNat).take ((k : Int) - 0).toNat)))) (p_spec_l05Mean l_list))) (fsub .f32 ((p_spec_l05Mean ((((l_list).drop (0 : Int).toNat).take ((k : Int) - 0).toNat)))) (p_spec_l05Mean l_list))) (fmul .f32 (fmul .f32 (FloatKind.nearest .f32 (IntKind.wrap .i64 ((l_list.length : Int) - k))) (fsub .f32 ((p_spec_l05Mean ((((l_list).drop (k : Int).toNat).take (((l_list.length : Int) : Int) - k).toNat)))) (p_spec_l05Mean l_list))) (fsub .f32 ((p_spec_l05Mean ((((l_list).drop (k : Int).toNat).take (((l_list.length : Int) : Int) - k).toNat)))) (p_spec_l05Mean l_list)))) then (p_spec_l05Break_l1 l_list μ t2 t3 t4 k (fadd .f32 (fmul .f32 (fmul .f32 (FloatKind.nearest .f32 k) (fsub .f32 ((p_spec_l05Mean ((((l_list).drop (0 : Int).toNat).take ((k : Int) - 0).toNat)))) (p_spec_l05Mean l_list))) (fsub .f32 ((p_spec_l05Mean ((((l_list).drop (0 : Int).toNat).take ((k : Int) - 0).toNat)))) (p_spec_l05Mean l_list))) (fmul .f32 (fmul .f32 (FloatKind.nearest .f32 (IntKind.wrap .i64 ((l_list.length : Int) - k))) (fsub .f32 ((p_spec_l05Mean ((((l_list).drop (k : Int).toNat).take (((l_list.length : Int) : Int) - k).toNat)))) (p_spec_l05Mean l_list))) (fsub .f32 ((p_spec_l05Mean ((((l_list).drop (k : Int).toNat).take (((l_list.length : Int) : Int) - k).toNat)))) (p_spec_l05Mean l_list)))) (k + 1)) else (p_spec_l05Break_l1 l_list μ t2 t3 t4 best vmost (k + 1))))) else (best, vmost, true)) := rfl
def p_spec_l05Break (l_list : List Nat) : Int × Nat × Bool := (p_spec_l05Break_l1 l_list (Int.toNat ((l_list.length : Int) - (1 : Int)) + 1) (0 : Int) 0 false (0 : Int) 0 (1 : Int))
theorem p_spec_l05Break_eq (l_list : List Nat) : p_spec_l05Break l_list = (p_spec_l05Break_l1 l_list (Int.toNat ((l_list.length : Int) - (1 : Int)) + 1) (0 : Int) 0 false (0 : Int) 0 (1 : Int)) := rfl
def T_spec_l05Break (list_a : Option Addr) (list_n : Nat) (list_e : Nat) (H : AHeap) (K : Int → Nat → Bool → AHeap → Prop) : Prop := ∃ (l_list : List Nat), IsL fF H list_a list_n l_list ∧ l_list.length < 1073741824 ∧ K ((p_spec_l05Break l_list).1) ((p_spec_l05Break l_list).2.1) ((p_spec_l05Break l_list).2.2) H
theorem T_spec_l05Break_i {list_a : Option Addr} {list_n : Nat} {list_e : Nat} {H : AHeap} {K : Int → Nat → Bool → AHeap → Prop} (h : ∃ (l_list : List Nat), IsL fF H list_a list_n l_list ∧ l_list.length < 1073741824 ∧ K ((p_spec_l05Break l_list).1) ((p_spec_l05Break l_list).2.1) ((p_spec_l05Break l_list).2.2) H) : T_spec_l05Break list_a list_n list_e H K := h
theorem cnd' {α : Type} {P : α → Prop} {b : Bool} {x y : α} (h1 : b = true → P x) (h2 : b = false → P y) : P (bif b then x else y) := by
  cases b
  · exact h2 rfl
  · exact h1 rfl
theorem spec_l05Break_l1_at (l : List Nat) (t2 : Int) (t3 : Nat) (t4 : Bool) : ∀ (μ : Nat) (best : Int) (vm : Nat) (k : Int), 0 ≤ best → best ≤ (l.length : Int) → 0 ≤ k →
    0 ≤ (p_spec_l05Break_l1 l μ t2 t3 t4 best vm k).1 ∧ (p_spec_l05Break_l1 l μ t2 t3 t4 best vm k).1 ≤ (l.length : Int) := by
  intro μ
  induction μ with
  | zero => intro best vm k h0 h1 h2; exact ⟨Int.le_refl _, Int.natCast_nonneg _⟩
  | succ μ ih =>
    intro best vm k h0 h1 h2
    rw [p_spec_l05Break_l1_s]
    refine cnd' (P := fun r : Int × Nat × Bool => 0 ≤ r.1 ∧ r.1 ≤ (l.length : Int)) (fun h => ?_) (fun h => ⟨h0, h1⟩)
    have hk := of_decide_eq_true h
    refine cnd' (P := fun r : Int × Nat × Bool => 0 ≤ r.1 ∧ r.1 ≤ (l.length : Int)) (fun h => ⟨Int.le_refl _, Int.natCast_nonneg _⟩) (fun h => ?_)
    refine cnd' (P := fun r : Int × Nat × Bool => 0 ≤ r.1 ∧ r.1 ≤ (l.length : Int)) (fun h => ih _ _ _ (by omega) (by omega) (by omega)) (fun h => ?_)
    exact cnd' (P := fun r : Int × Nat × Bool => 0 ≤ r.1 ∧ r.1 ≤ (l.length : Int)) (fun h => ih _ _ _ (by omega) (by omega) (by omega)) (fun h => ih _ _ _ (by omega) (by omega) (by omega))
theorem spec_l05Break_at (l : List Nat) : 0 ≤ (p_spec_l05Break l).1 ∧ (p_spec_l05Break l).1 ≤ (l.length : Int) := by
  rw [p_spec_l05Break_eq]
  exact spec_l05Break_l1_at _ _ _ _ _ _ _ _ (Int.le_refl _) (Int.natCast_nonneg _) (by decide)
/-! spec_l05Break: function 74 -/
def E_spec_l05Break : Env := envOf [(103, S_spec_l05Mean), (73, S_spec_l01Finite)]
def F_spec_l05Break : List Value → AHeap → (Value → AHeap → Prop) → Prop
  | [.slice list_a list_n list_e], H, K => T_spec_l05Break list_a list_n list_e H fun (r1 : Int) (r2 : Nat) (r3 : Bool) (H' : AHeap) => K (.tuple #[.int .i64 r1, .float .f32 r2, .bool r3]) H'
  | _, _, _ => False
def S_spec_l05Break : FSpec := { F := F_spec_l05Break, quiet := true, tame := false }
theorem spec_l05Break_vc (list_a : Option Addr) (list_n : Nat) (list_e : Nat) (H : AHeap) (K : Value → AHeap → Prop) : bodyK Try.prog E_spec_l05Break Try.f74 [.slice list_a list_n list_e] H K =
  (T_spec_l05Mean list_a list_n list_e H fun (r1 : Nat) (H1 : AHeap) => loopK (exK Try.prog E_spec_l05Break (cl (cl (cr (cl (cr (cr (cr (cr (cr (bodyC Try.f74))))))))))) [.slice list_a list_n list_e, undef, .int .i64 0, .float .f32 0, .bool false, .float .f32 r1, .int .i64 0, .float .f32 0, .int .i64 (list_n : Int), .int .i64 1, undef, undef, undef, .slice list_a list_n list_e, .float .f32 r1, .slice list_a list_n list_e, .int .i64 (list_n : Int), undef, undef, undef, undef, undef, undef, undef, undef, undef, undef, undef, undef, undef, undef, undef, undef, undef, undef, undef, undef, undef, undef, undef, undef, undef, undef, undef, undef, undef, undef, undef, undef, undef, undef, undef, undef, undef, undef, undef, undef, undef, undef, undef, undef, undef, undef] H1 (blockQ 0 (seqQ (exK Try.prog E_spec_l05Break (cr (cr (cr (cr (cr (cr (bodyC Try.f74)))))))) (retK Try.prog Try.f74 K)))) := by kernel_rfl
theorem spec_l05Break_r1 (list_a : Option Addr) (list_e : Nat) (list_n : Nat) (r1 : Nat) (t2 : Int) (t3 : Nat) (t4 : Bool) (best : Int) (vmost : Nat) (k : Int) (g10 g11 g12 g17 g18 g19 g20 g21 g22 g23 g24 g25 g26 g27 g28 g29 g30 g31 g32 g33 g34 g35 g36 g37 g38 g39 g40 g41 g42 g43 g44 g45 g46 g47 g48 g49 g50 g51 g52 g53 g54 g55 g56 g57 g58 g59 g60 : Value) (H : AHeap) (R : Post) : exK Try.prog E_spec_l05Break (cl (cl (cr (cl (cr (cr (cr (cr (cr (bodyC Try.f74)))))))))) [.slice list_a list_n list_e, undef, .int .i64 t2, .float .f32 t3, .bool t4, .float .f32 r1, .int .i64 best, .float .f32 vmost, .int .i64 (list_n : Int), .int .i64 k, g10, g11, g12, .slice list_a list_n list_e, .float .f32 r1, .slice list_a list_n list_e, .int .i64 (list_n : Int), g17, g18, g19, g20, g21, g22, g23, g24, g25, g26, g27, g28, g29, g30, g31, g32, g33, g34, g35, g36, g37, g38, g39, g40, g41, g42, g43, g44, g45, g46, g47, g48, g49, g50, g51, g52, g53, g54, g55, g56, g57, g58, g59, g60, undef, undef] H R =
  (Br (decide ((k : Int) < (list_n : Int))) ((0 : Int) ≤ 0 ∧ 0 ≤ k ∧ k ≤ (list_n : Int) ∧ T_spec_l05Mean ((list_a : Option Addr).map fun a => ⟨a.block, a.off + (0 : Int).toNat * 1, none⟩) (((k : Int) - 0).toNat) 0 H fun (r2 : Nat) (H2 : AHeap) => (0 : Int) ≤ k ∧ k ≤ (list_n : Int) ∧ (list_n : Int) ≤ (list_n : Int) ∧ T_spec_l05Mean ((list_a : Option Addr).map fun a => ⟨a.block, a.off + (k : Int).toNat * 1, none⟩) ((((list_n : Int) : Int) - k).toNat) 0 H2 fun (r3 : Nat) (H3 : AHeap) => T_spec_l01Finite (fadd .f32 (fmul .f32 (fmul .f32 (FloatKind.nearest .f32 k) (fsub .f32 r2 r1)) (fsub .f32 r2 r1)) (fmul .f32 (fmul .f32 (FloatKind.nearest .f32 (IntKind.wrap .i64 ((list_n : Int) - k))) (fsub .f32 r3 r1)) (fsub .f32 r3 r1))) H3 fun (r4 : Bool) (H4 : AHeap) => Br (!r4) (R .ret [.slice list_a list_n list_e, undef, .int .i64 0, .float .f32 0, .bool false, .float .f32 r1, .int .i64 best, .float .f32 vmost, .int .i64 (list_n : Int), .int .i64 k, .float .f32 (fsub .f32 r2 r1), .float .f32 (fsub .f32 r3 r1), .float .f32 (fadd .f32 (fmul .f32 (fmul .f32 (FloatKind.nearest .f32 k) (fsub .f32 r2 r1)) (fsub .f32 r2 r1)) (fmul .f32 (fmul .f32 (FloatKind.nearest .f32 (IntKind.wrap .i64 ((list_n : Int) - k))) (fsub .f32 r3 r1)) (fsub .f32 r3 r1))), .slice list_a list_n list_e, .float .f32 r1, .slice list_a list_n list_e, .int .i64 (list_n : Int), .int .i64 k, .int .i64 (list_n : Int), .bool (decide ((k : Int) < (list_n : Int))), g20, g21, .slice list_a list_n list_e, .int .i64 k, .slice ((list_a : Option Addr).map fun a => ⟨a.block, a.off + (0 : Int).toNat * 1, none⟩) (((k : Int) - 0).toNat) 0, .float .f32 r2, .float .f32 r1, .float .f32 (fsub .f32 r2 r1), .slice list_a list_n list_e, .int .i64 k, .slice ((list_a : Option Addr).map fun a => ⟨a.block, a.off + (k : Int).toNat * 1, none⟩) ((((list_n : Int) : Int) - k).toNat) 0, .float .f32 r3, .float .f32 r1, .float .f32 (fsub .f32 r3 r1), .int .i64 k, .float .f32 (FloatKind.nearest .f32 k), .float .f32 (fsub .f32 r2 r1), .float .f32 (fmul .f32 (FloatKind.nearest .f32 k) (fsub .f32 r2 r1)), .float .f32 (fsub .f32 r2 r1), .float .f32 (fmul .f32 (fmul .f32 (FloatKind.nearest .f32 k) (fsub .f32 r2 r1)) (fsub .f32 r2 r1)), .int .i64 (list_n : Int), .int .i64 k, .int .i64 (IntKind.wrap .i64 ((list_n : Int) - k)), .float .f32 (FloatKind.nearest .f32 (IntKind.wrap .i64 ((list_n : Int) - k))), .float .f32 (fsub .f32 r3 r1), .float .f32 (fmul .f32 (FloatKind.nearest .f32 (IntKind.wrap .i64 ((list_n : Int) - k))) (fsub .f32 r3 r1)), .float .f32 (fsub .f32 r3 r1), .float .f32 (fmul .f32 (fmul .f32 (FloatKind.nearest .f32 (IntKind.wrap .i64 ((list_n : Int) - k))) (fsub .f32 r3 r1)) (fsub .f32 r3 r1)), .float .f32 (fadd .f32 (fmul .f32 (fmul .f32 (FloatKind.nearest .f32 k) (fsub .f32 r2 r1)) (fsub .f32 r2 r1)) (fmul .f32 (fmul .f32 (FloatKind.nearest .f32 (IntKind.wrap .i64 ((list_n : Int) - k))) (fsub .f32 r3 r1)) (fsub .f32 r3 r1))), .float .f32 (fadd .f32 (fmul .f32 (fmul .f32 (FloatKind.nearest .f32 k) (fsub .f32 r2 r1)) (fsub .f32 r2 r1)) (fmul .f32 (fmul .f32 (FloatKind.nearest .f32 (IntKind.wrap .i64 ((list_n : Int) - k))) (fsub .f32 r3 r1)) (fsub .f32 r3 r1))), .bool r4, .bool (!r4), g52, g53, g54, g55, g56, g57, g58, g59, g60, undef, undef] H4) (Br ((best : Int) == 0) (R .normal [.slice list_a list_n list_e, undef, .int .i64 t2, .float .f32 t3, .bool t4, .float .f32 r1, .int .i64 k, .float .f32 (fadd .f32 (fmul .f32 (fmul .f32 (FloatKind.nearest .f32 k) (fsub .f32 r2 r1)) (fsub .f32 r2 r1)) (fmul .f32 (fmul .f32 (FloatKind.nearest .f32 (IntKind.wrap .i64 ((list_n : Int) - k))) (fsub .f32 r3 r1)) (fsub .f32 r3 r1))), .int .i64 (list_n : Int), .int .i64 (IntKind.wrap .i64 (k + 1)), .float .f32 (fsub .f32 r2 r1), .float .f32 (fsub .f32 r3 r1), .float .f32 (fadd .f32 (fmul .f32 (fmul .f32 (FloatKind.nearest .f32 k) (fsub .f32 r2 r1)) (fsub .f32 r2 r1)) (fmul .f32 (fmul .f32 (FloatKind.nearest .f32 (IntKind.wrap .i64 ((list_n : Int) - k))) (fsub .f32 r3 r1)) (fsub .f32 r3 r1))), .slice list_a list_n list_e, .float .f32 r1, .slice list_a list_n list_e, .int .i64 (list_n : Int), .int .i64 k, .int .i64 (list_n : Int), .bool (decide ((k : Int) < (list_n : Int))), .int .i64 k, .int .i64 (IntKind.wrap .i64 (k + 1)), .slice list_a list_n list_e, .int .i64 k, .slice ((list_a : Option Addr).map fun a => ⟨a.block, a.off + (0 : Int).toNat * 1, none⟩) (((k : Int) - 0).toNat) 0, .float .f32 r2, .float .f32 r1, .float .f32 (fsub .f32 r2 r1), .slice list_a list_n list_e, .int .i64 k, .slice ((list_a : Option Addr).map fun a => ⟨a.block, a.off + (k : Int).toNat * 1, none⟩) ((((list_n : Int) : Int) - k).toNat) 0, .float .f32 r3, .float .f32 r1, .float .f32 (fsub .f32 r3 r1), .int .i64 k, .float .f32 (FloatKind.nearest .f32 k), .float .f32 (fsub .f32 r2 r1), .float .f32 (fmul .f32 (FloatKind.nearest .f32 k) (fsub .f32 r2 r1)), .float .f32 (fsub .f32 r2 r1), .float .f32 (fmul .f32 (fmul .f32 (FloatKind.nearest .f32 k) (fsub .f32 r2 r1)) (fsub .f32 r2 r1)), .int .i64 (list_n : Int), .int .i64 k, .int .i64 (IntKind.wrap .i64 ((list_n : Int) - k)), .float .f32 (FloatKind.nearest .f32 (IntKind.wrap .i64 ((list_n : Int) - k))), .float .f32 (fsub .f32 r3 r1), .float .f32 (fmul .f32 (FloatKind.nearest .f32 (IntKind.wrap .i64 ((list_n : Int) - k))) (fsub .f32 r3 r1)), .float .f32 (fsub .f32 r3 r1), .float .f32 (fmul .f32 (fmul .f32 (FloatKind.nearest .f32 (IntKind.wrap .i64 ((list_n : Int) - k))) (fsub .f32 r3 r1)) (fsub .f32 r3 r1)), .float .f32 (fadd .f32 (fmul .f32 (fmul .f32 (FloatKind.nearest .f32 k) (fsub .f32 r2 r1)) (fsub .f32 r2 r1)) (fmul .f32 (fmul .f32 (FloatKind.nearest .f32 (IntKind.wrap .i64 ((list_n : Int) - k))) (fsub .f32 r3 r1)) (fsub .f32 r3 r1))), .float .f32 (fadd .f32 (fmul .f32 (fmul .f32 (FloatKind.nearest .f32 k) (fsub .f32 r2 r1)) (fsub .f32 r2 r1)) (fmul .f32 (fmul .f32 (FloatKind.nearest .f32 (IntKind.wrap .i64 ((list_n : Int) - k))) (fsub .f32 r3 r1)) (fsub .f32 r3 r1))), .bool r4, .bool (!r4), .int .i64 best, .bool ((best : Int) == 0), .bool true, undef, undef, undef, .bool true, .int .i64 k, .float .f32 (fadd .f32 (fmul .f32 (fmul .f32 (FloatKind.nearest .f32 k) (fsub .f32 r2 r1)) (fsub .f32 r2 r1)) (fmul .f32 (fmul .f32 (FloatKind.nearest .f32 (IntKind.wrap .i64 ((list_n : Int) - k))) (fsub .f32 r3 r1)) (fsub .f32 r3 r1))), undef, undef] H4) (Br (flt .f32 vmost (fadd .f32 (fmul .f32 (fmul .f32 (FloatKind.nearest .f32 k) (fsub .f32 r2 r1)) (fsub .f32 r2 r1)) (fmul .f32 (fmul .f32 (FloatKind.nearest .f32 (IntKind.wrap .i64 ((list_n : Int) - k))) (fsub .f32 r3 r1)) (fsub .f32 r3 r1)))) (R .normal [.slice list_a list_n list_e, undef, .int .i64 t2, .float .f32 t3, .bool t4, .float .f32 r1, .int .i64 k, .float .f32 (fadd .f32 (fmul .f32 (fmul .f32 (FloatKind.nearest .f32 k) (fsub .f32 r2 r1)) (fsub .f32 r2 r1)) (fmul .f32 (fmul .f32 (FloatKind.nearest .f32 (IntKind.wrap .i64 ((list_n : Int) - k))) (fsub .f32 r3 r1)) (fsub .f32 r3 r1))), .int .i64 (list_n : Int), .int .i64 (IntKind.wrap .i64 (k + 1)), .float .f32 (fsub .f32 r2 r1), .float .f32 (fsub .f32 r3 r1), .float .f32 (fadd .f32 (fmul .f32 (fmul .f32 (FloatKind.nearest .f32 k) (fsub .f32 r2 r1)) (fsub .f32 r2 r1)) (fmul .f32 (fmul .f32 (FloatKind.nearest .f32 (IntKind.wrap .i64 ((list_n : Int) - k))) (fsub .f32 r3 r1)) (fsub .f32 r3 r1))), .slice list_a list_n list_e, .float .f32 r1, .slice list_a list_n list_e, .int .i64 (list_n : Int), .int .i64 k, .int .i64 (list_n : Int), .bool (decide ((k : Int) < (list_n : Int))), .int .i64 k, .int .i64 (IntKind.wrap .i64 (k + 1)), .slice list_a list_n list_e, .int .i64 k, .slice ((list_a : Option Addr).map fun a => ⟨a.block, a.off + (0 : Int).toNat * 1, none⟩) (((k : Int) - 0).toNat) 0, .float .f32 r2, .float .f32 r1, .float .f32 (fsub .f32 r2 r1), .slice list_a list_n list_e, .int .i64 k, .slice ((list_a : Option Addr).map fun a => ⟨a.block, a.off + (k : Int).toNat * 1, none⟩) ((((list_n : Int) : Int) - k).toNat) 0, .float .f32 r3, .float .f32 r1, .float .f32 (fsub .f32 r3 r1), .int .i64 k, .float .f32 (FloatKind.nearest .f32 k), .float .f32 (fsub .f32 r2 r1), .float .f32 (fmul .f32 (FloatKind.nearest .f32 k) (fsub .f32 r2 r1)), .float .f32 (fsub .f32 r2 r1), .float .f32 (fmul .f32 (fmul .f32 (FloatKind.nearest .f32 k) (fsub .f32 r2 r1)) (fsub .f32 r2 r1)), .int .i64 (list_n : Int), .int .i64 k, .int .i64 (IntKind.wrap .i64 ((list_n : Int) - k)), .float .f32 (FloatKind.nearest .f32 (IntKind.wrap .i64 ((list_n : Int) - k))), .float .f32 (fsub .f32 r3 r1), .float .f32 (fmul .f32 (FloatKind.nearest .f32 (IntKind.wrap .i64 ((list_n : Int) - k))) (fsub .f32 r3 r1)), .float .f32 (fsub .f32 r3 r1), .float .f32 (fmul .f32 (fmul .f32 (FloatKind.nearest .f32 (IntKind.wrap .i64 ((list_n : Int) - k))) (fsub .f32 r3 r1)) (fsub .f32 r3 r1)), .float .f32 (fadd .f32 (fmul .f32 (fmul .f32 (FloatKind.nearest .f32 k) (fsub .f32 r2 r1)) (fsub .f32 r2 r1)) (fmul .f32 (fmul .f32 (FloatKind.nearest .f32 (IntKind.wrap .i64 ((list_n : Int) - k))) (fsub .f32 r3 r1)) (fsub .f32 r3 r1))), .float .f32 (fadd .f32 (fmul .f32 (fmul .f32 (FloatKind.nearest .f32 k) (fsub .f32 r2 r1)) (fsub .f32 r2 r1)) (fmul .f32 (fmul .f32 (FloatKind.nearest .f32 (IntKind.wrap .i64 ((list_n : Int) - k))) (fsub .f32 r3 r1)) (fsub .f32 r3 r1))), .bool r4, .bool (!r4), .int .i64 best, .bool ((best : Int) == 0), .bool false, .float .f32 (fadd .f32 (fmul .f32 (fmul .f32 (FloatKind.nearest .f32 k) (fsub .f32 r2 r1)) (fsub .f32 r2 r1)) (fmul .f32 (fmul .f32 (FloatKind.nearest .f32 (IntKind.wrap .i64 ((list_n : Int) - k))) (fsub .f32 r3 r1)) (fsub .f32 r3 r1))), .float .f32 vmost, .bool (flt .f32 vmost (fadd .f32 (fmul .f32 (fmul .f32 (FloatKind.nearest .f32 k) (fsub .f32 r2 r1)) (fsub .f32 r2 r1)) (fmul .f32 (fmul .f32 (FloatKind.nearest .f32 (IntKind.wrap .i64 ((list_n : Int) - k))) (fsub .f32 r3 r1)) (fsub .f32 r3 r1)))), .bool (flt .f32 vmost (fadd .f32 (fmul .f32 (fmul .f32 (FloatKind.nearest .f32 k) (fsub .f32 r2 r1)) (fsub .f32 r2 r1)) (fmul .f32 (fmul .f32 (FloatKind.nearest .f32 (IntKind.wrap .i64 ((list_n : Int) - k))) (fsub .f32 r3 r1)) (fsub .f32 r3 r1)))), .int .i64 k, .float .f32 (fadd .f32 (fmul .f32 (fmul .f32 (FloatKind.nearest .f32 k) (fsub .f32 r2 r1)) (fsub .f32 r2 r1)) (fmul .f32 (fmul .f32 (FloatKind.nearest .f32 (IntKind.wrap .i64 ((list_n : Int) - k))) (fsub .f32 r3 r1)) (fsub .f32 r3 r1))), undef, undef] H4) (R .normal [.slice list_a list_n list_e, undef, .int .i64 t2, .float .f32 t3, .bool t4, .float .f32 r1, .int .i64 best, .float .f32 vmost, .int .i64 (list_n : Int), .int .i64 (IntKind.wrap .i64 (k + 1)), .float .f32 (fsub .f32 r2 r1), .float .f32 (fsub .f32 r3 r1), .float .f32 (fadd .f32 (fmul .f32 (fmul .f32 (FloatKind.nearest .f32 k) (fsub .f32 r2 r1)) (fsub .f32 r2 r1)) (fmul .f32 (fmul .f32 (FloatKind.nearest .f32 (IntKind.wrap .i64 ((list_n : Int) - k))) (fsub .f32 r3 r1)) (fsub .f32 r3 r1))), .slice list_a list_n list_e, .float .f32 r1, .slice list_a list_n list_e, .int .i64 (list_n : Int), .int .i64 k, .int .i64 (list_n : Int), .bool (decide ((k : Int) < (list_n : Int))), .int .i64 k, .int .i64 (IntKind.wrap .i64 (k + 1)), .slice list_a list_n list_e, .int .i64 k, .slice ((list_a : Option Addr).map fun a => ⟨a.block, a.off + (0 : Int).toNat * 1, none⟩) (((k : Int) - 0).toNat) 0, .float .f32 r2, .float .f32 r1, .float .f32 (fsub .f32 r2 r1), .slice list_a list_n list_e, .int .i64 k, .slice ((list_a : Option Addr).map fun a => ⟨a.block, a.off + (k : Int).toNat * 1, none⟩) ((((list_n : Int) : Int) - k).toNat) 0, .float .f32 r3, .float .f32 r1, .float .f32 (fsub .f32 r3 r1), .int .i64 k, .float .f32 (FloatKind.nearest .f32 k), .float .f32 (fsub .f32 r2 r1), .float .f32 (fmul .f32 (FloatKind.nearest .f32 k) (fsub .f32 r2 r1)), .float .f32 (fsub .f32 r2 r1), .float .f32 (fmul .f32 (fmul .f32 (FloatKind.nearest .f32 k) (fsub .f32 r2 r1)) (fsub .f32 r2 r1)), .int .i64 (list_n : Int), .int .i64 k, .int .i64 (IntKind.wrap .i64 ((list_n : Int) - k)), .float .f32 (FloatKind.nearest .f32 (IntKind.wrap .i64 ((list_n : Int) - k))), .float .f32 (fsub .f32 r3 r1), .float .f32 (fmul .f32 (FloatKind.nearest .f32 (IntKind.wrap .i64 ((list_n : Int) - k))) (fsub .f32 r3 r1)), .float .f32 (fsub .f32 r3 r1), .float .f32 (fmul .f32 (fmul .f32 (FloatKind.nearest .f32 (IntKind.wrap .i64 ((list_n : Int) - k))) (fsub .f32 r3 r1)) (fsub .f32 r3 r1)), .float .f32 (fadd .f32 (fmul .f32 (fmul .f32 (FloatKind.nearest .f32 k) (fsub .f32 r2 r1)) (fsub .f32 r2 r1)) (fmul .f32 (fmul .f32 (FloatKind.nearest .f32 (IntKind.wrap .i64 ((list_n : Int) - k))) (fsub .f32 r3 r1)) (fsub .f32 r3 r1))), .float .f32 (fadd .f32 (fmul .f32 (fmul .f32 (FloatKind.nearest .f32 k) (fsub .f32 r2 r1)) (fsub .f32 r2 r1)) (fmul .f32 (fmul .f32 (FloatKind.nearest .f32 (IntKind.wrap .i64 ((list_n : Int) - k))) (fsub .f32 r3 r1)) (fsub .f32 r3 r1))), .bool r4, .bool (!r4), .int .i64 best, .bool ((best : Int) == 0), .bool false, .float .f32 (fadd .f32 (fmul .f32 (fmul .f32 (FloatKind.nearest .f32 k) (fsub .f32 r2 r1)) (fsub .f32 r2 r1)) (fmul .f32 (fmul .f32 (FloatKind.nearest .f32 (IntKind.wrap .i64 ((list_n : Int) - k))) (fsub .f32 r3 r1)) (fsub .f32 r3 r1))), .float .f32 vmost, .bool (flt .f32 vmost (fadd .f32 (fmul .f32 (fmul .f32 (FloatKind.nearest .f32 k) (fsub .f32 r2 r1)) (fsub .f32 r2 r1)) (fmul .f32 (fmul .f32 (FloatKind.nearest .f32 (IntKind.wrap .i64 ((list_n : Int) - k))) (fsub .f32 r3 r1)) (fsub .f32 r3 r1)))), .bool (flt .f32 vmost (fadd .f32 (fmul .f32 (fmul .f32 (FloatKind.nearest .f32 k) (fsub .f32 r2 r1)) (fsub .f32 r2 r1)) (fmul .f32 (fmul .f32 (FloatKind.nearest .f32 (IntKind.wrap .i64 ((list_n : Int) - k))) (fsub .f32 r3 r1)) (fsub .f32 r3 r1)))), g59, g60, undef, undef] H4)))) (R (.exit 0) [.slice list_a list_n list_e, undef, .int .i64 t2, .float .f32 t3, .bool t4, .float .f32 r1, .int .i64 best, .float .f32 vmost, .int .i64 (list_n : Int), .int .i64 k, g10, g11, g12, .slice list_a list_n list_e, .float .f32 r1, .slice list_a list_n list_e, .int .i64 (list_n : Int), .int .i64 k, .int .i64 (list_n : Int), .bool (decide ((k : Int) < (list_n : Int))), g20, g21, g22, g23, g24, g25, g26, g27, g28, g29, g30, g31, g32, g33, g34, g35, g36, g37, g38, g39, g40, g41, g42, g43, g44, g45, g46, g47, g48, g49, g50, g51, g52, g53, g54, g55, g56, g57, g58, g59, g60, undef, undef] H)) := by kernel_rfl
def spec_l05Break_I1 (list_a : Option Addr) (list_e : Nat) (list_n : Nat) (r1 : Nat) (Inv : Nat → Int → Nat → Bool → Int → Nat → Int → AHeap → Prop) : Nat → List Value → AHeap → Prop := fun μ tm H => ∃ (t2 : Int), ∃ (t3 : Nat), ∃ (t4 : Bool), ∃ (best : Int), ∃ (vmost : Nat), ∃ (k : Int), ∃ g10 g11 g12 g17 g18 g19 g20 g21 g22 g23 g24 g25 g26 g27 g28 g29 g30 g31 g32 g33 g34 g35 g36 g37 g38 g39 g40 g41 g42 g43 g44 g45 g46 g47 g48 g49 g50 g51 g52 g53 g54 g55 g56 g57 g58 g59 g60, tm = [.slice list_a list_n list_e, undef, .int .i64 t2, .float .f32 t3, .bool t4, .float .f32 r1, .int .i64 best, .float .f32 vmost, .int .i64 (list_n : Int), .int .i64 k, g10, g11, g12, .slice list_a list_n list_e, .float .f32 r1, .slice list_a list_n list_e, .int .i64 (list_n : Int), g17, g18, g19, g20, g21, g22, g23, g24, g25, g26, g27, g28, g29, g30, g31, g32, g33, g34, g35, g36, g37, g38, g39, g40, g41, g42, g43, g44, g45, g46, g47, g48, g49, g50, g51, g52, g53, g54, g55, g56, g57, g58, g59, g60, undef, undef] ∧ Inv μ t2 t3 t4 best vmost k H
theorem spec_l05Break_L1 (list_a : Option Addr) (list_e : Nat) (list_n : Nat) (r1 : Nat) {Q : Post} (Inv : Nat → Int → Nat → Bool → Int → Nat → Int → AHeap → Prop) (ν : Nat) (t2 : Int) (t3 : Nat) (t4 : Bool) (best : Int) (vmost : Nat) (k : Int) (g10 g11 g12 g17 g18 g19 g20 g21 g22 g23 g24 g25 g26 g27 g28 g29 g30 g31 g32 g33 g34 g35 g36 g37 g38 g39 g40 g41 g42 g43 g44 g45 g46 g47 g48 g49 g50 g51 g52 g53 g54 g55 g56 g57 g58 g59 g60 : Value) (H : AHeap) (h0 : Inv ν t2 t3 t4 best vmost k H)
    (hs : ∀ (μ : Nat) (t2 : Int) (t3 : Nat) (t4 : Bool) (best : Int) (vmost : Nat) (k : Int) (g10 g11 g12 g17 g18 g19 g20 g21 g22 g23 g24 g25 g26 g27 g28 g29 g30 g31 g32 g33 g34 g35 g36 g37 g38 g39 g40 g41 g42 g43 g44 g45 g46 g47 g48 g49 g50 g51 g52 g53 g54 g55 g56 g57 g58 g59 g60 : Value) (H : AHeap), Inv μ t2 t3 t4 best vmost k H → exK Try.prog E_spec_l05Break (cl (cl (cr (cl (cr (cr (cr (cr (cr (bodyC Try.f74)))))))))) [.slice list_a list_n list_e, undef, .int .i64 t2, .float .f32 t3, .bool t4, .float .f32 r1, .int .i64 best, .float .f32 vmost, .int .i64 (list_n : Int), .int .i64 k, g10, g11, g12, .slice list_a list_n list_e, .float .f32 r1, .slice list_a list_n list_e, .int .i64 (list_n : Int), g17, g18, g19, g20, g21, g22, g23, g24, g25, g26, g27, g28, g29, g30, g31, g32, g33, g34, g35, g36, g37, g38, g39, g40, g41, g42, g43, g44, g45, g46, g47, g48, g49, g50, g51, g52, g53, g54, g55, g56, g57, g58, g59, g60, undef, undef] H (loopQ (spec_l05Break_I1 list_a list_e list_n r1 Inv) μ Q)) : loopK (exK Try.prog E_spec_l05Break (cl (cl (cr (cl (cr (cr (cr (cr (cr (bodyC Try.f74))))))))))) [.slice list_a list_n list_e, undef, .int .i64 t2, .float .f32 t3, .bool t4, .float .f32 r1, .int .i64 best, .float .f32 vmost, .int .i64 (list_n : Int), .int .i64 k, g10, g11, g12, .slice list_a list_n list_e, .float .f32 r1, .slice list_a list_n list_e, .int .i64 (list_n : Int), g17, g18, g19, g20, g21, g22, g23, g24, g25, g26, g27, g28, g29, g30, g31, g32, g33, g34, g35, g36, g37, g38, g39, g40, g41, g42, g43, g44, g45, g46, g47, g48, g49, g50, g51, g52, g53, g54, g55, g56, g57, g58, g59, g60, undef, undef] H Q :=
  ⟨spec_l05Break_I1 list_a list_e list_n r1 Inv, ν, ⟨t2, t3, t4, best, vmost, k, g10, g11, g12, g17, g18, g19, g20, g21, g22, g23, g24, g25, g26, g27, g28, g29, g30, g31, g32, g33, g34, g35, g36, g37, g38, g39, g40, g41, g42, g43, g44, g45, g46, g47, g48, g49, g50, g51, g52, g53, g54, g55, g56, g57, g58, g59, g60, rfl, h0⟩, fun μ tm H h => by obtain ⟨t2, t3, t4, best, vmost, k, g10, g11, g12, g17, g18, g19, g20, g21, g22, g23, g24, g25, g26, g27, g28, g29, g30, g31, g32, g33, g34, g35, g36, g37, g38, g39, g40, g41, g42, g43, g44, g45, g46, g47, g48, g49, g50, g51, g52, g53, g54, g55, g56, g57, g58, g59, g60, rfl, hI⟩ := h; exact hs μ t2 t3 t4 best vmost k g10 g11 g12 g17 g18 g19 g20 g21 g22 g23 g24 g25 g26 g27 g28 g29 g30 g31 g32 g33 g34 g35 g36 g37 g38 g39 g40 g41 g42 g43 g44 g45 g46 g47 g48 g49 g50 g51 g52 g53 g54 g55 g56 g57 g58 g59 g60 H hI⟩
theorem spec_l05Break_n1 {list_a : Option Addr} {list_e : Nat} {list_n : Nat} {r1 : Nat} {Q : Post} {Inv : Nat → Int → Nat → Bool → Int → Nat → Int → AHeap → Prop} {μ : Nat} (μ' : Nat) {t2 : Int} {t3 : Nat} {t4 : Bool} {best : Int} {vmost : Nat} {k : Int} {g10 g11 g12 g17 g18 g19 g20 g21 g22 g23 g24 g25 g26 g27 g28 g29 g30 g31 g32 g33 g34 g35 g36 g37 g38 g39 g40 g41 g42 g43 g44 g45 g46 g47 g48 g49 g50 g51 g52 g53 g54 g55 g56 g57 g58 g59 g60 : Value} {H : AHeap} (hm : μ' < μ) (hI : Inv μ' t2 t3 t4 best vmost k H) : loopQ (spec_l05Break_I1 list_a list_e list_n r1 Inv) μ Q .normal [.slice list_a list_n list_e, undef, .int .i64 t2, .float .f32 t3, .bool t4, .float .f32 r1, .int .i64 best, .float .f32 vmost, .int .i64 (list_n : Int), .int .i64 k, g10, g11, g12, .slice list_a list_n list_e, .float .f32 r1, .slice list_a list_n list_e, .int .i64 (list_n : Int), g17, g18, g19, g20, g21, g22, g23, g24, g25, g26, g27, g28, g29, g30, g31, g32, g33, g34, g35, g36, g37, g38, g39, g40, g41, g42, g43, g44, g45, g46, g47, g48, g49, g50, g51, g52, g53, g54, g55, g56, g57, g58, g59, g60, undef, undef] H := ⟨μ', hm, t2, t3, t4, best, vmost, k, g10, g11, g12, g17, g18, g19, g20, g21, g22, g23, g24, g25, g26, g27, g28, g29, g30, g31, g32, g33, g34, g35, g36, g37, g38, g39, g40, g41, g42, g43, g44, g45, g46, g47, g48, g49, g50, g51, g52, g53, g54, g55, g56, g57, g58, g59, g60, rfl, hI⟩
theorem spec_l05Break_x1_0 (list_a : Option Addr) (list_e : Nat) (list_n : Nat) (r1 : Nat) (t2 : Int) (t3 : Nat) (t4 : Bool) (best : Int) (vmost : Nat) (k : Int) (g10 g11 g12 g17 g18 g19 g20 g21 g22 g23 g24 g25 g26 g27 g28 g29 g30 g31 g32 g33 g34 g35 g36 g37 g38 g39 g40 g41 g42 g43 g44 g45 g46 g47 g48 g49 g50 g51 g52 g53 g54 g55 g56 g57 g58 g59 g60 : Value) (H : AHeap) (K : Value → AHeap → Prop)  {I : Nat → List Value → AHeap → Prop} {μ : Nat} : loopQ I μ (blockQ 0 (seqQ (exK Try.prog E_spec_l05Break (cr (cr (cr (cr (cr (cr (bodyC Try.f74)))))))) (retK Try.prog Try.f74 K))) (.exit 0) [.slice list_a list_n list_e, undef, .int .i64 t2, .float .f32 t3, .bool t4, .float .f32 r1, .int .i64 best, .float .f32 vmost, .int .i64 (list_n : Int), .int .i64 k, g10, g11, g12, .slice list_a list_n list_e, .float .f32 r1, .slice list_a list_n list_e, .int .i64 (list_n : Int), g17, g18, g19, g20, g21, g22, g23, g24, g25, g26, g27, g28, g29, g30, g31, g32, g33, g34, g35, g36, g37, g38, g39, g40, g41, g42, g43, g44, g45, g46, g47, g48, g49, g50, g51, g52, g53, g54, g55, g56, g57, g58, g59, g60, undef, undef] H =
  (K (.tuple #[.int .i64 best, .float .f32 vmost, .bool true]) H) := by kernel_rfl
theorem spec_l05Break_x1_ret (list_a : Option Addr) (list_e : Nat) (list_n : Nat) (r1 : Nat) (t2 : Int) (t3 : Nat) (t4 : Bool) (best : Int) (vmost : Nat) (k : Int) (g10 g11 g12 g17 g18 g19 g20 g21 g22 g23 g24 g25 g26 g27 g28 g29 g30 g31 g32 g33 g34 g35 g36 g37 g38 g39 g40 g41 g42 g43 g44 g45 g46 g47 g48 g49 g50 g51 g52 g53 g54 g55 g56 g57 g58 g59 g60 : Value) (H : AHeap) (K : Value → AHeap → Prop)  {I : Nat → List Value → AHeap → Prop} {μ : Nat} : loopQ I μ (blockQ 0 (seqQ (exK Try.prog E_spec_l05Break (cr (cr (cr (cr (cr (cr (bodyC Try.f74)))))))) (retK Try.prog Try.f74 K))) .ret [.slice list_a list_n list_e, undef, .int .i64 t2, .float .f32 t3, .bool t4, .float .f32 r1, .int .i64 best, .float .f32 vmost, .int .i64 (list_n : Int), .int .i64 k, g10, g11, g12, .slice list_a list_n list_e, .float .f32 r1, .slice list_a list_n list_e, .int .i64 (list_n : Int), g17, g18, g19, g20, g21, g22, g23, g24, g25, g26, g27, g28, g29, g30, g31, g32, g33, g34, g35, g36, g37, g38, g39, g40, g41, g42, g43, g44, g45, g46, g47, g48, g49, g50, g51, g52, g53, g54, g55, g56, g57, g58, g59, g60, undef, undef] H =
  (K (.tuple #[.int .i64 t2, .float .f32 t3, .bool t4]) H) := by kernel_rfl
theorem E_spec_l05Break_ok : ∀ g, FnOk Try.prog g (E_spec_l05Break g) := FnOk.envOf (by
  intro x hx
  simp only [List.mem_cons, List.not_mem_nil, or_false] at hx
  rcases hx with rfl | rfl
  · exact spec_l05Mean_ok
  · exact spec_l01Finite_ok)
set_option maxHeartbeats 1000000 in
theorem spec_l05Break_main (list_a : Option Addr) (list_n : Nat) (list_e : Nat) (H : AHeap) (K : Value → AHeap → Prop) (h : T_spec_l05Break list_a list_n list_e H fun (r1 : Int) (r2 : Nat) (r3 : Bool) (H' : AHeap) => K (.tuple #[.int .i64 r1, .float .f32 r2, .bool r3]) H') : bodyK Try.prog E_spec_l05Break Try.f74 [.slice list_a list_n list_e] H K := by
  rw [spec_l05Break_vc]
  obtain ⟨l_list, i_list, bd_10, hk⟩ := h
  obtain rfl := i_list.eqn
  have e : (p_spec_l05Break l_list) = _ := rfl
  have e := e.trans (p_spec_l05Break_eq l_list)
  have g0 := Grow.refl H
  refine T_spec_l05Mean_i ⟨_, (i_list.grow g0), (by first | omega | (simp only [List.length_set, List.length_replicate, List.length_append, List.length_cons, List.length_nil, List.length_take, List.length_drop, marks_length]; done) | (simp only [List.length_set, List.length_replicate, List.length_append, List.length_cons, List.length_nil, List.length_take, List.length_drop, marks_length]; omega)), ?_⟩
  refine spec_l05Break_L1 _ _ _ _ (fun (μ : Nat) (t2 : Int) (t3 : Nat) (t4 : Bool) (best : Int) (vmost : Nat) (k : Int) (H_1 : AHeap) => H = H_1 ∧ (1 : Int) ≤ k ∧ ((k ≤ (l_list.length : Int) ∨ k ≤ (1 : Int))) ∧ (l_list.length : Int) - k ≤ (μ : Int) ∧ p_spec_l05Break l_list = p_spec_l05Break_l1 l_list (μ + 1) t2 t3 t4 best vmost k) (Int.toNat ((l_list.length : Int) - (1 : Int))) _ _ _ _ _ _ _ _ _ _ _ _ _ _ _ _ _ _ _ _ _ _ _ _ _ _ _ _ _ _ _ _ _ _ _ _ _ _ _ _ _ _ _ _ _ _ _ _ _ _ _ _ _ H ?_ ?_
  · exact ⟨rfl, (by first | omega | (simp; done) | (simp; omega)), (by first | omega | (simp; done) | (simp; omega)), (by omega), e⟩
  · intro μ t2 t3 t4 best vmost k g10 g11 g12 g17 g18 g19 g20 g21 g22 g23 g24 g25 g26 g27 g28 g29 g30 g31 g32 g33 g34 g35 g36 g37 g38 g39 g40 g41 g42 g43 g44 g45 g46 g47 g48 g49 g50 g51 g52 g53 g54 g55 g56 g57 g58 g59 g60 H_1 hI
    obtain ⟨rfl, v_1, v_2, hμ, e⟩ := hI
    rw [spec_l05Break_r1]
    have e := e.trans (p_spec_l05Break_l1_s l_list μ t2 t3 t4 best vmost k)
    have l_3 := g0.1
    refine Br.intro (fun c_4 => ?_) (fun c_4 => ?_)
    · have e := e.trans (cond_t c_4)
      have c_4' := of_decide_eq_true c_4
      refine ⟨by omega, by omega, by omega, ?_⟩
      have i_5 := sub_isl i_list (lo := 0) (hi := k) (by omega) (by omega) (by omega)
      refine T_spec_l05Mean_i ⟨_, (i_5.grow g0), (by first | omega | (simp only [List.length_set, List.length_replicate, List.length_append, List.length_cons, List.length_nil, List.length_take, List.length_drop, marks_length]; done) | (simp only [List.length_set, List.length_replicate, List.length_append, List.length_cons, List.length_nil, List.length_take, List.length_drop, marks_length]; omega)), ?_⟩
      refine ⟨by omega, by omega, by omega, ?_⟩
      have i_6 := sub_isl i_list (lo := k) (hi := (l_list.length : Int)) (by omega) (by omega) (by omega)
      refine T_spec_l05Mean_i ⟨_, (i_6.grow g0), (by first | omega | (simp only [List.length_set, List.length_replicate, List.length_append, List.length_cons, List.length_nil, List.length_take, List.length_drop, marks_length]; done) | (simp only [List.length_set, List.length_replicate, List.length_append, List.length_cons, List.length_nil, List.length_take, List.length_drop, marks_length]; omega)), ?_⟩
      refine T_spec_l01Finite_i ?_
      refine Br.intro (fun c_7 => ?_) (fun c_7 => ?_)
      · have e := e.trans (cond_t c_7)
        have c_7n := nf_of_t c_7
        rw [spec_l05Break_x1_ret]
        rw [e] at hk
        exact hk
      · have e := e.trans (cond_f c_7)
        have c_7n := nt_of_f c_7
        refine Br.intro (fun c_8 => ?_) (fun c_8 => ?_)
        · have e := e.trans (cond_t c_8)
          have c_8' := ieq_t c_8
          rw [show IntKind.wrap .i64 (k + 1) = (k + 1) from wrap64 (by omega) (by omega)]
          refine spec_l05Break_n1 (μ - 1) (by first | omega) ⟨rfl, (by first | omega | (simp only [List.length_append, List.length_cons, List.length_nil, List.length_set]; done) | (simp only [List.length_append, List.length_cons, List.length_nil, List.length_set]; omega)), (by first | omega | (simp only [List.length_append, List.length_cons, List.length_nil, List.length_set]; done) | (simp only [List.length_append, List.length_cons, List.length_nil, List.length_set]; omega)), (by first | omega), (by rw [show μ - 1 + 1 = μ from by first | omega]; exact e)⟩
        · have e := e.trans (cond_f c_8)
          have c_8' := ieq_f c_8
          refine Br.intro (fun c_9 => ?_) (fun c_9 => ?_)
          · have e := e.trans (cond_t c_9)
            rw [show IntKind.wrap .i64 (k + 1) = (k + 1) from wrap64 (by omega) (by omega)]
            refine spec_l05Break_n1 (μ - 1) (by first | omega) ⟨rfl, (by first | omega | (simp only [List.length_append, List.length_cons, List.length_nil, List.length_set]; done) | (simp only [List.length_append, List.length_cons, List.length_nil, List.length_set]; omega)), (by first | omega | (simp only [List.length_append, List.length_cons, List.length_nil, List.length_set]; done) | (simp only [List.length_append, List.length_cons, List.length_nil, List.length_set]; omega)), (by first | omega), (by rw [show μ - 1 + 1 = μ from by first | omega]; exact e)⟩
          · have e := e.trans (cond_f c_9)
            rw [show IntKind.wrap .i64 (k + 1) = (k + 1) from wrap64 (by omega) (by omega)]
            refine spec_l05Break_n1 (μ - 1) (by first | omega) ⟨rfl, (by first | omega | (simp only [List.length_append, List.length_cons, List.length_nil, List.length_set]; done) | (simp only [List.length_append, List.length_cons, List.length_nil, List.length_set]; omega)), (by first | omega | (simp only [List.length_append, List.length_cons, List.length_nil, List.length_set]; done) | (simp only [List.length_append, List.length_cons, List.length_nil, List.length_set]; omega)), (by first | omega), (by rw [show μ - 1 + 1 = μ from by first | omega]; exact e)⟩
    · have e := e.trans (cond_f c_4)
      have c_4' := of_decide_eq_false c_4
      rw [spec_l05Break_x1_0]
      rw [e] at hk
      exact hk
theorem spec_l05Break_ok : FnOk Try.prog 74 S_spec_l05Break := by
  refine FnOk.body mix_ok E_spec_l05Break_ok Try.func74 rfl (by kernel_rfl) (by kernel_rfl) ?_ ?_ ?_ ?_ ?_
  · intro args H K K' h hk
    simp only [S_spec_l05Break] at *
    unfold F_spec_l05Break at *
    split at hk
    · obtain ⟨l_list, i_list, bd_10, k⟩ := hk
      exact ⟨l_list, i_list, bd_10, h _ _ k⟩
    · exact hk.elim
  · intro _ args H K hk
    simp only [S_spec_l05Break] at *
    unfold F_spec_l05Break at *
    split at hk
    · obtain ⟨l_list, i_list, bd_10, k⟩ := hk
      exact ⟨_, k, fun K' k' => ⟨l_list, i_list, bd_10, k'⟩⟩
    · exact hk.elim
  · intro args H K hk
    simp only [S_spec_l05Break] at *
    unfold F_spec_l05Break at *
    split at hk
    · obtain ⟨l_list, i_list, bd_10, k⟩ := hk
      exact ⟨_, _, k⟩
    · exact hk.elim
  · intro hq; cases hq
  · have mm := @spec_l05Break_main
    revert mm
    generalize bodyK Try.prog E_spec_l05Break Try.f74 = Q
    intro mm args H K hk
    simp only [S_spec_l05Break] at *
    unfold F_spec_l05Break at *
    split at hk
    · exact mm _ _ _ H K hk
    · exact hk.elim

def p_spec_BreaksOf_l2 (l_list : List Nat) (least : Nat) (vmost : Int) (vmost_2 : Int) (t7 : Bool) (l_edges : List Int) (k2_2 : Bool → Int → Int → Nat → Int → ((List Int) × Bool)) : Nat → Bool → Int → Int → Nat → Int → (List Int) × Bool
  | 0, _, _, _, _, _ => ([], false)
  | μ2 + 1, t7_7, best, vat, top, i => (bif decide (((i + 1) : Int) < (l_edges.length : Int)) then (bif decide ((((((l_edges).getD ((i + 1) : Int).toNat 0)) - (((l_edges).getD (i : Int).toNat 0))) : Int) < 2) then (p_spec_BreaksOf_l2 l_list least vmost vmost_2 t7 l_edges k2_2 μ2 t7_7 best vat top (i + 1)) else (bif !((p_spec_l05Break ((((l_list).drop (((l_edges).getD (i : Int).toNat 0) : Int).toNat).take ((((l_edges).getD ((i + 1) : Int).toNat 0) : Int) - ((l_edges).getD (i : Int).toNat 0)).toNat))).2.2) then ([], false) else (bif decide ((best : Int) < 0) then (p_spec_BreaksOf_l2 l_list least vmost vmost_2 t7 l_edges k2_2 μ2 t7_7 i (((((l_edges).getD (i : Int).toNat 0)) + ((p_spec_l05Break ((((l_list).drop (((l_edges).getD (i : Int).toNat 0) : Int).toNat).take ((((l_edges).getD ((i + 1) : Int).toNat 0) : Int) - ((l_edges).getD (i : Int).toNat 0)).toNat))).1))) ((p_spec_l05Break ((((l_list).drop (((l_edges).getD (i : Int).toNat 0) : Int).toNat).take ((((l_edges).getD ((i + 1) : Int).toNat 0) : Int) - ((l_edges).getD (i : Int).toNat 0)).toNat))).2.1) (i + 1)) else (bif flt .f32 top ((p_spec_l05Break ((((l_list).drop (((l_edges).getD (i : Int).toNat 0) : Int).toNat).take ((((l_edges).getD ((i + 1) : Int).toNat 0) : Int) - ((l_edges).getD (i : Int).toNat 0)).toNat))).2.1) then (p_spec_BreaksOf_l2 l_list least vmost vmost_2 t7 l_edges k2_2 μ2 t7_7 i (((((l_edges).getD (i : Int).toNat 0)) + ((p_spec_l05Break ((((l_list).drop (((l_edges).getD (i : Int).toNat 0) : Int).toNat).take ((((l_edges).getD ((i + 1) : Int).toNat 0) : Int) - ((l_edges).getD (i : Int).toNat 0)).toNat))).1))) ((p_spec_l05Break ((((l_list).drop (((l_edges).getD (i : Int).toNat 0) : Int).toNat).take ((((l_edges).getD ((i + 1) : Int).toNat 0) : Int) - ((l_edges).getD (i : Int).toNat 0)).toNat))).2.1) (i + 1)) else (p_spec_BreaksOf_l2 l_list least vmost vmost_2 t7 l_edges k2_2 μ2 t7_7 best vat top (i + 1)))))) else (k2_2 t7_7 best vat top i))
theorem p_spec_BreaksOf_l2_s (l_list : List Nat) (least : Nat) (vmost : Int) (vmost_2 : Int) (t7 : Bool) (l_edges : List Int) (k2_2 : Bool → Int → Int → Nat → Int → ((List Int) × Bool)) (μ2 : Nat) (t7_7 : Bool) (best : Int) (vat : Int) (top : Nat) (i : Int) : p_spec_BreaksOf_l2 l_list least vmost vmost_2 t7 l_edges k2_2 (μ2 + 1) t7_7 best vat top i = (bif decide (((i + 1) : Int) < (l_edges.length : Int)) then (bif decide ((((((l_edges).getD ((i + 1) : Int).toNat 0)) - (((l_edges).getD (i : Int).toNat 0))) : Int) < 2) then (p_spec_BreaksOf_l2 l_list least vmost vmost_2 t7 l_edges k2_2 μ2 t7_7 best vat top (i + 1)) else (bif !((p_spec_l05Break ((((l_list).drop (((l_edges).getD (i : Int).toNat 0) : Int).toNat).take ((((l_edges).getD ((i + 1) : Int).toNat 0) : Int) - ((l_edges).getD (i : Int).toNat 0)).toNat))).2.2) then ([], false) else (bif decide ((best : Int) < 0) then (p_spec_BreaksOf_l2 l_list least vmost vmost_2 t7 l_edges k2_2 μ2 t7_7 i (((((l_edges).getD (i : Int).toNat 0)) + ((p_spec_l05Break ((((l_list).drop (((l_edges).getD (i : Int).toNat 0) : Int).toNat).take ((((l_edges).getD ((i + 1) : Int).toNat 0) : Int) - ((l_edges).getD (i : Int).toNat 0)).toNat))).1))) ((p_spec_l05Break ((((l_list).drop (((l_edges).getD (i : Int).toNat 0) : Int).toNat).take ((((l_edges).getD ((i + 1) : Int).toNat 0) : Int) - ((l_edges).getD (i : Int).toNat 0)).toNat))).2.1) (i + 1)) else (bif flt .f32 top ((p_spec_l05Break ((((l_list).drop (((l_edges).getD (i : Int).toNat 0) : Int).toNat).take ((((l_edges).getD ((i + 1) : Int).toNat 0) : Int) - ((l_edges).getD (i : Int).toNat 0)).toNat))).2.1) then (p_spec_BreaksOf_l2 l_list least vmost vmost_2 t7 l_edges k2_2 μ2 t7_7 i (((((l_edges).getD (i : Int).toNat 0)) + ((p_spec_l05Break ((((l_list).drop (((l_edges).getD (i : Int).toNat 0) : Int).toNat).take ((((l_edges).getD ((i + 1) : Int).toNat 0) : Int) - ((l_edges).getD (i : Int).toNat 0)).toNat))).1))) ((p_spec_l05Break ((((l_list).drop (((l_edges).getD (i : Int).toNat 0) : Int).toNat).take ((((l_edges).getD ((i + 1) : Int).toNat 0) : Int) - ((l_edges).getD (i : Int).toNat 0)).toNat))).2.1) (i + 1)) else (p_spec_BreaksOf_l2 l_list least vmost vmost_2 t7 l_edges k2_2 μ2 t7_7 best vat top (i + 1)))))) else (k2_2 t7_7 best vat top i)) := rfl
def p_spec_BreaksOf_l1 (l_list : List Nat) (least : Nat) (vmost : Int) : Nat → Int → Bool → (List Int) → (List Int) × Bool
  | 0, _, _, _ => ([], false)
  | μ + 1, vmost_2, t7, l_edges => (bif decide ((0 : Int) < vmost_2) then (p_spec_BreaksOf_l2 l_list least vmost vmost_2 t7 l_edges (fun (t7_7 : Bool) (best : Int) (vat : Int) (top : Nat) (i : Int) => (bif decide ((best : Int) < 0) then ((([] : List Int) ++ (((l_edges).drop (1 : Int).toNat).take ((((l_edges.length : Int) - 1) : Int) - 1).toNat)), true) else (bif !(fle .f32 least top) then ((([] : List Int) ++ (((l_edges).drop (1 : Int).toNat).take ((((l_edges.length : Int) - 1) : Int) - 1).toNat)), true) else (p_spec_BreaksOf_l1 l_list least vmost μ (vmost_2 - 1) t7_7 ((((([] : List Int) ++ (((l_edges).drop (0 : Int).toNat).take (((best + 1) : Int) - 0).toNat)) ++ [(vat : Int)]) ++ (((l_edges).drop ((best + 1) : Int).toNat).take (((l_edges.length : Int) : Int) - (best + 1)).toNat))))))) (Int.toNat ((l_edges.length : Int) + 1 - (0 : Int)) + 1) t7 (((-1) : Int)) (0 : Int) 0 (0 : Int)) else ((([] : List Int) ++ (((l_edges).drop (1 : Int).toNat).take ((((l_edges.length : Int) - 1) : Int) - 1).toNat)), true))
theorem p_spec_BreaksOf_l1_s (l_list : List Nat) (least : Nat) (vmost : Int) (μ : Nat) (vmost_2 : Int) (t7 : Bool) (l_edges : List Int) : p_spec_BreaksOf_l1 l_list least vmost (μ + 1) vmost_2 t7 l_edges = (bif decide ((0 : Int) < vmost_2) then (p_spec_BreaksOf_l2 l_list least vmost vmost_2 t7 l_edges (fun (t7_7 : Bool) (best : Int) (vat : Int) (top : Nat) (i : Int) => (bif decide ((best : Int) < 0) then ((([] : List Int) ++ (((l_edges).drop (1 : Int).toNat).take ((((l_edges.length : Int) - 1) : Int) - 1).toNat)), true) else (bif !(fle .f32 least top) then ((([] : List Int) ++ (((l_edges).drop (1 : Int).toNat).take ((((l_edges.length : Int) - 1) : Int) - 1).toNat)), true) else (p_spec_BreaksOf_l1 l_list least vmost μ (vmost_2 - 1) t7_7 ((((([] : List Int) ++ (((l_edges).drop (0 : Int).toNat).take (((best + 1) : Int) - 0).toNat)) ++ [(vat : Int)]) ++ (((l_edges).drop ((best + 1) : Int).toNat).take (((l_edges.length : Int) : Int) - (best + 1)).toNat))))))) (Int.toNat ((l_edges.length : Int) + 1 - (0 : Int)) + 1) t7 (((-1) : Int)) (0 : Int) 0 (0 : Int)) else ((([] : List Int) ++ (((l_edges).drop (1 : Int).toNat).take ((((l_edges.length : Int) - 1) : Int) - 1).toNat)), true)) := rfl
def p_spec_BreaksOf (l_list : List Nat) (least : Nat) (vmost : Int) : (List Int) × Bool := (bif !(p_spec_l03Long l_list) then ([], false) else (bif !(p_spec_l01Finite least) then ([], false) else (bif !((p_spec_l00In vmost (0 : Int) (16 : Int))) then ([], false) else (p_spec_BreaksOf_l1 l_list least vmost (Int.toNat (vmost - 0) + 1) vmost false ([(0 : Int), ((l_list.length : Int) : Int)])))))
theorem p_spec_BreaksOf_eq (l_list : List Nat) (least : Nat) (vmost : Int) : p_spec_BreaksOf l_list least vmost = (bif !(p_spec_l03Long l_list) then ([], false) else (bif !(p_spec_l01Finite least) then ([], false) else (bif !((p_spec_l00In vmost (0 : Int) (16 : Int))) then ([], false) else (p_spec_BreaksOf_l1 l_list least vmost (Int.toNat (vmost - 0) + 1) vmost false ([(0 : Int), ((l_list.length : Int) : Int)]))))) := rfl
def T_spec_BreaksOf (list_a : Option Addr) (list_n : Nat) (list_e : Nat) (least : Nat) (vmost : Int) (H : AHeap) (K : (Option Addr) → Nat → Nat → Bool → AHeap → Prop) : Prop := ∃ (l_list : List Nat), IsL fF H list_a list_n l_list ∧ l_list.length < 1073741824 ∧ ((∀ (r1_a : Option Addr) (r1_n r1_e : Nat), ∀ H' : AHeap, Grow H H' → OwnS fI H' H.length r1_a r1_n r1_e ((p_spec_BreaksOf l_list least vmost).1) → K r1_a r1_n r1_e ((p_spec_BreaksOf l_list least vmost).2) H'))
theorem T_spec_BreaksOf_i {list_a : Option Addr} {list_n : Nat} {list_e : Nat} {least : Nat} {vmost : Int} {H : AHeap} {K : (Option Addr) → Nat → Nat → Bool → AHeap → Prop} (h : ∃ (l_list : List Nat), IsL fF H list_a list_n l_list ∧ l_list.length < 1073741824 ∧ ((∀ (r1_a : Option Addr) (r1_n r1_e : Nat), ∀ H' : AHeap, Grow H H' → OwnS fI H' H.length r1_a r1_n r1_e ((p_spec_BreaksOf l_list least vmost).1) → K r1_a r1_n r1_e ((p_spec_BreaksOf l_list least vmost).2) H'))) : T_spec_BreaksOf list_a list_n list_e least vmost H K := h
theorem spec_BreaksOf_l2_pred {P : List Int × Bool → Prop} (h0 : P ([], false)) (l : List Nat) (x : Nat) (v v2 : Int) (t7 : Bool) (es : List Int) (K : Bool → Int → Int → Nat → Int → List Int × Bool) (hK : ∀ a b c d e, P (K a b c d e)) :
    ∀ (μ : Nat) (t : Bool) (b a : Int) (tp : Nat) (i : Int), P (p_spec_BreaksOf_l2 l x v v2 t7 es K μ t b a tp i) := by
  intro μ
  induction μ with
  | zero => intro t b a tp i; exact h0
  | succ μ ih =>
    intro t b a tp i
    rw [p_spec_BreaksOf_l2_s]
    refine cnd' (fun h => ?_) (fun h => hK _ _ _ _ _)
    refine cnd' (fun h => ih _ _ _ _ _) (fun h => ?_)
    refine cnd' (fun h => h0) (fun h => ?_)
    refine cnd' (fun h => ih _ _ _ _ _) (fun h => ?_)
    exact cnd' (fun h => ih _ _ _ _ _) (fun h => ih _ _ _ _ _)
theorem spec_BreaksOf_l1_len (l : List Nat) (x : Nat) (v : Int) : ∀ (μ : Nat) (v2 : Int) (t7 : Bool) (es : List Int), (p_spec_BreaksOf_l1 l x v μ v2 t7 es).1.length ≤ es.length + μ := by
  intro μ
  induction μ with
  | zero => intro v2 t7 es; exact Nat.zero_le _
  | succ μ ih =>
    intro v2 t7 es
    rw [p_spec_BreaksOf_l1_s]
    have hr : ∀ b : Bool, (([] : List Int) ++ (((es).drop (1 : Int).toNat).take ((((es.length : Int) - 1) : Int) - 1).toNat), b).1.length ≤ es.length + (μ + 1) := by
      intro b; simp only [List.nil_append, List.length_take, List.length_drop]; omega
    refine cnd' (P := fun r : List Int × Bool => r.1.length ≤ es.length + (μ + 1)) (fun h => ?_) (fun h => hr _)
    refine spec_BreaksOf_l2_pred (P := fun r : List Int × Bool => r.1.length ≤ es.length + (μ + 1)) (Nat.zero_le _) _ _ _ _ _ _ _ (fun a b c d e => ?_) _ _ _ _ _ _
    refine cnd' (P := fun r : List Int × Bool => r.1.length ≤ es.length + (μ + 1)) (fun h => hr _) (fun h => ?_)
    refine cnd' (P := fun r : List Int × Bool => r.1.length ≤ es.length + (μ + 1)) (fun h => hr _) (fun h => ?_)
    refine Nat.le_trans (ih _ _ _) ?_
    simp only [List.nil_append, List.length_append, List.length_take, List.length_drop, List.length_singleton]; omega
theorem spec_BreaksOf_len (l : List Nat) (x : Nat) (v : Int) : (p_spec_BreaksOf l x v).1.length ≤ 64 := by
  rw [p_spec_BreaksOf_eq]
  refine cnd' (P := fun r : List Int × Bool => r.1.length ≤ 64) (fun h => Nat.zero_le _) (fun h => ?_)
  refine cnd' (P := fun r : List Int × Bool => r.1.length ≤ 64) (fun h => Nat.zero_le _) (fun h => ?_)
  refine cnd' (P := fun r : List Int × Bool => r.1.length ≤ 64) (fun h => Nat.zero_le _) (fun h => ?_)
  refine Nat.le_trans (spec_BreaksOf_l1_len _ _ _ _ _ _ _) ?_
  have h2 : v ≤ 16 := by
    unfold p_spec_l00In at h
    simp at h; omega
  simp only [List.length_cons, List.length_nil]; omega
/-! spec_BreaksOf: function 32 -/
def E_spec_BreaksOf : Env := envOf [(72, S_spec_l03Long), (73, S_spec_l01Finite), (50, S_spec_l00In), (74, S_spec_l05Break)]
def F_spec_BreaksOf : List Value → AHeap → (Value → AHeap → Prop) → Prop
  | [.slice list_a list_n list_e, .float .f32 least, .int .i64 vmost], H, K => T_spec_BreaksOf list_a list_n list_e least vmost H fun (r1_a : Option Addr) (r1_n : Nat) (r1_e : Nat) (r2 : Bool) (H' : AHeap) => K (.tuple #[.slice r1_a r1_n r1_e, .bool r2]) H'
  | _, _, _ => False
def S_spec_BreaksOf : FSpec := { F := F_spec_BreaksOf, quiet := false, tame := true }
theorem spec_BreaksOf_vc (list_a : Option Addr) (list_n : Nat) (list_e : Nat) (least : Nat) (vmost : Int) (H : AHeap) (K : Value → AHeap → Prop) : bodyK Try.prog E_spec_BreaksOf Try.f32 [.slice list_a list_n list_e, .float .f32 least, .int .i64 vmost] H K =
  (T_spec_l03Long list_a list_n list_e H fun (r1 : Bool) (H1 : AHeap) => Br (!r1) (K (.tuple #[.slice none 0 0, .bool false]) H1) (T_spec_l01Finite least H1 fun (r2 : Bool) (H2 : AHeap) => Br (!r2) (K (.tuple #[.slice none 0 0, .bool false]) H2) (T_spec_l00In vmost 0 16 H2 fun (r3 : Bool) (H3 : AHeap) => Br (!r3) (K (.tuple #[.slice none 0 0, .bool false]) H3) (Al [.int .i64 0, .int .i64 (list_n : Int)] H3 fun b1 H4 => loopK (exK Try.prog E_spec_BreaksOf (cl (cl (cl (cr (cr (cr (bodyC Try.f32)))))))) [.slice list_a list_n list_e, .float .f32 least, .int .i64 vmost, undef, undef, undef, .slice none 0 0, .bool false, .slice (some ⟨b1, 0, none⟩) 2 1, undef, undef, undef, undef, undef, undef, undef, undef, .slice list_a list_n list_e, .bool r1, .bool (!r1), .bool false, .float .f32 least, .bool r2, .bool (!r2), .bool (!r2), .bool false, .int .i64 vmost, .bool r3, .bool (!r3), .bool (!r3), .slice list_a list_n list_e, .int .i64 (list_n : Int), .slice (some ⟨b1, 0, none⟩) 2 1, undef, undef, undef, undef, undef, undef, undef, undef, undef, undef, undef, undef, undef, undef, undef, undef, undef, undef, undef, undef, undef, undef, undef, undef, undef, undef, undef, undef, undef, undef, undef, undef, undef, undef, undef, undef, undef, undef, undef, undef, undef, undef, undef, undef, undef, undef, undef, undef, undef, undef, undef, undef, undef, undef, undef, undef, undef, undef, undef, undef, undef, undef, undef, undef, undef, undef, undef, undef, undef, undef, undef, undef, undef, undef, undef, undef, undef, undef, undef, undef, undef, undef, undef, undef, undef, undef] H4 (blockQ 0 (seqQ (exK Try.prog E_spec_BreaksOf (cr (cr (cr (cr (bodyC Try.f32)))))) (retK Try.prog Try.f32 K))))))) := by kernel_rfl
theorem spec_BreaksOf_r1 (b1 : Nat) (least : Nat) (list_a : Option Addr) (list_e : Nat) (list_n : Nat) (r1 : Bool) (r2 : Bool) (r3 : Bool) (vmost : Int) (vmost_2 : Int) (t6_a : Option Addr) (t6_n : Nat) (t6_e : Nat) (t7 : Bool) (edges_a : Option Addr) (edges_n : Nat) (edges_e : Nat) (g9 g10 g11 g12 g13 g14 g15 g16 g33 g34 g35 g36 g37 g38 g39 g40 g41 g42 g43 g44 g45 g46 g47 g48 g49 g50 g51 g52 g53 g54 g55 g56 g57 g58 g59 g60 g61 g62 g63 g64 g65 g66 g67 g68 g69 g70 g71 g72 g73 g74 g75 g76 g77 g78 g79 g80 g81 g82 g83 g84 g85 g86 g87 g88 g89 g90 g91 g92 g93 g94 g95 g96 g97 g98 g99 g100 g101 g102 g103 g104 g105 g106 g107 g108 g109 g110 g111 : Value) (H : AHeap) (R : Post) : exK Try.prog E_spec_BreaksOf (cl (cl (cl (cr (cr (cr (bodyC Try.f32))))))) [.slice list_a list_n list_e, .float .f32 least, .int .i64 vmost_2, undef, undef, undef, .slice t6_a t6_n t6_e, .bool t7, .slice edges_a edges_n edges_e, g9, g10, g11, g12, g13, g14, g15, g16, .slice list_a list_n list_e, .bool r1, .bool (!r1), .bool false, .float .f32 least, .bool r2, .bool (!r2), .bool (!r2), .bool false, .int .i64 vmost, .bool r3, .bool (!r3), .bool (!r3), .slice list_a list_n list_e, .int .i64 (list_n : Int), .slice (some ⟨b1, 0, none⟩) 2 1, g33, g34, g35, g36, g37, g38, g39, g40, g41, g42, g43, g44, g45, g46, g47, g48, g49, g50, g51, g52, g53, g54, g55, g56, g57, g58, g59, g60, g61, g62, g63, g64, g65, g66, g67, g68, g69, g70, g71, g72, g73, g74, g75, g76, g77, g78, g79, g80, g81, g82, g83, g84, g85, g86, g87, g88, g89, g90, g91, g92, g93, g94, g95, g96, g97, g98, g99, g100, g101, g102, g103, g104, g105, g106, g107, g108, g109, g110, g111, undef, undef, undef, undef, undef, undef, undef] H R =
  (Br (decide ((0 : Int) < vmost_2)) (loopK (exK Try.prog E_spec_BreaksOf (cl (cl (cr (cl (cr (cr (cr (cl (cl (cr (cl (cl (cl (cr (cr (cr (bodyC Try.f32)))))))))))))))))) [.slice list_a list_n list_e, .float .f32 least, .int .i64 vmost_2, undef, undef, undef, .slice t6_a t6_n t6_e, .bool t7, .slice edges_a edges_n edges_e, .int .i64 (-1), .int .i64 0, .float .f32 0, .int .i64 0, g13, g14, g15, g16, .slice list_a list_n list_e, .bool r1, .bool (!r1), .bool false, .float .f32 least, .bool r2, .bool (!r2), .bool (!r2), .bool false, .int .i64 vmost, .bool r3, .bool (!r3), .bool (!r3), .slice list_a list_n list_e, .int .i64 (list_n : Int), .slice (some ⟨b1, 0, none⟩) 2 1, .int .i64 vmost_2, .bool (decide ((0 : Int) < vmost_2)), g35, g36, g37, g38, g39, g40, g41, g42, g43, g44, g45, g46, g47, g48, g49, g50, g51, g52, g53, g54, g55, g56, g57, g58, g59, g60, g61, g62, g63, g64, g65, g66, g67, g68, g69, g70, g71, g72, g73, g74, g75, g76, g77, g78, g79, g80, g81, g82, g83, g84, g85, g86, g87, g88, g89, g90, g91, g92, g93, g94, g95, g96, g97, g98, g99, g100, g101, g102, g103, g104, g105, g106, g107, g108, g109, g110, g111, undef, undef, undef, undef, undef, undef, undef] H (blockQ 2 (seqQ (exK Try.prog E_spec_BreaksOf (cr (cr (cr (cr (cl (cl (cr (cl (cl (cl (cr (cr (cr (bodyC Try.f32))))))))))))))) (blockQ 1 (seqQ (exK Try.prog E_spec_BreaksOf (cr (cr (cl (cl (cl (cr (cr (cr (bodyC Try.f32)))))))))) (R)))))) (R (.exit 0) [.slice list_a list_n list_e, .float .f32 least, .int .i64 vmost_2, undef, undef, undef, .slice t6_a t6_n t6_e, .bool t7, .slice edges_a edges_n edges_e, g9, g10, g11, g12, g13, g14, g15, g16, .slice list_a list_n list_e, .bool r1, .bool (!r1), .bool false, .float .f32 least, .bool r2, .bool (!r2), .bool (!r2), .bool false, .int .i64 vmost, .bool r3, .bool (!r3), .bool (!r3), .slice list_a list_n list_e, .int .i64 (list_n : Int), .slice (some ⟨b1, 0, none⟩) 2 1, .int .i64 vmost_2, .bool (decide ((0 : Int) < vmost_2)), g35, g36, g37, g38, g39, g40, g41, g42, g43, g44, g45, g46, g47, g48, g49, g50, g51, g52, g53, g54, g55, g56, g57, g58, g59, g60, g61, g62, g63, g64, g65, g66, g67, g68, g69, g70, g71, g72, g73, g74, g75, g76, g77, g78, g79, g80, g81, g82, g83, g84, g85, g86, g87, g88, g89, g90, g91, g92, g93, g94, g95, g96, g97, g98, g99, g100, g101, g102, g103, g104, g105, g106, g107, g108, g109, g110, g111, undef, undef, undef, undef, undef, undef, undef] H)) := by kernel_rfl
def spec_BreaksOf_I1 (b1 : Nat) (least : Nat) (list_a : Option Addr) (list_e : Nat) (list_n : Nat) (r1 : Bool) (r2 : Bool) (r3 : Bool) (vmost : Int) (Inv : Nat → Int → (Option Addr) → Nat → Nat → Bool → (Option Addr) → Nat → Nat → AHeap → Prop) : Nat → List Value → AHeap → Prop := fun μ tm H => ∃ (vmost_2 : Int), ∃ (t6_a : Option Addr), ∃ (t6_n : Nat), ∃ (t6_e : Nat), ∃ (t7 : Bool), ∃ (edges_a : Option Addr), ∃ (edges_n : Nat), ∃ (edges_e : Nat), ∃ g9 g10 g11 g12 g13 g14 g15 g16 g33 g34 g35 g36 g37 g38 g39 g40 g41 g42 g43 g44 g45 g46 g47 g48 g49 g50 g51 g52 g53 g54 g55 g56 g57 g58 g59 g60 g61 g62 g63 g64 g65 g66 g67 g68 g69 g70 g71 g72 g73 g74 g75 g76 g77 g78 g79 g80 g81 g82 g83 g84 g85 g86 g87 g88 g89 g90 g91 g92 g93 g94 g95 g96 g97 g98 g99 g100 g101 g102 g103 g104 g105 g106 g107 g108 g109 g110 g111, tm = [.slice list_a list_n list_e, .float .f32 least, .int .i64 vmost_2, undef, undef, undef, .slice t6_a t6_n t6_e, .bool t7, .slice edges_a edges_n edges_e, g9, g10, g11, g12, g13, g14, g15, g16, .slice list_a list_n list_e, .bool r1, .bool (!r1), .bool false, .float .f32 least, .bool r2, .bool (!r2), .bool (!r2), .bool false, .int .i64 vmost, .bool r3, .bool (!r3), .bool (!r3), .slice list_a list_n list_e, .int .i64 (list_n : Int), .slice (some ⟨b1, 0, none⟩) 2 1, g33, g34, g35, g36, g37, g38, g39, g40, g41, g42, g43, g44, g45, g46, g47, g48, g49, g50, g51, g52, g53, g54, g55, g56, g57, g58, g59, g60, g61, g62, g63, g64, g65, g66, g67, g68, g69, g70, g71, g72, g73, g74, g75, g76, g77, g78, g79, g80, g81, g82, g83, g84, g85, g86, g87, g88, g89, g90, g91, g92, g93, g94, g95, g96, g97, g98, g99, g100, g101, g102, g103, g104, g105, g106, g107, g108, g109, g110, g111, undef, undef, undef, undef, undef, undef, undef] ∧ Inv μ vmost_2 t6_a t6_n t6_e t7 edges_a edges_n edges_e H
theorem spec_BreaksOf_L1 (b1 : Nat) (least : Nat) (list_a : Option Addr) (list_e : Nat) (list_n : Nat) (r1 : Bool) (r2 : Bool) (r3 : Bool) (vmost : Int) {Q : Post} (Inv : Nat → Int → (Option Addr) → Nat → Nat → Bool → (Option Addr) → Nat → Nat → AHeap → Prop) (ν : Nat) (vmost_2 : Int) (t6_a : Option Addr) (t6_n : Nat) (t6_e : Nat) (t7 : Bool) (edges_a : Option Addr) (edges_n : Nat) (edges_e : Nat) (g9 g10 g11 g12 g13 g14 g15 g16 g33 g34 g35 g36 g37 g38 g39 g40 g41 g42 g43 g44 g45 g46 g47 g48 g49 g50 g51 g52 g53 g54 g55 g56 g57 g58 g59 g60 g61 g62 g63 g64 g65 g66 g67 g68 g69 g70 g71 g72 g73 g74 g75 g76 g77 g78 g79 g80 g81 g82 g83 g84 g85 g86 g87 g88 g89 g90 g91 g92 g93 g94 g95 g96 g97 g98 g99 g100 g101 g102 g103 g104 g105 g106 g107 g108 g109 g110 g111 : Value) (H : AHeap) (h0 : Inv ν vmost_2 t6_a t6_n t6_e t7 edges_a edges_n edges_e H)
    (hs : ∀ (μ : Nat) (vmost_2 : Int) (t6_a : Option Addr) (t6_n : Nat) (t6_e : Nat) (t7 : Bool) (edges_a : Option Addr) (edges_n : Nat) (edges_e : Nat) (g9 g10 g11 g12 g13 g14 g15 g16 g33 g34 g35 g36 g37 g38 g39 g40 g41 g42 g43 g44 g45 g46 g47 g48 g49 g50 g51 g52 g53 g54 g55 g56 g57 g58 g59 g60 g61 g62 g63 g64 g65 g66 g67 g68 g69 g70 g71 g72 g73 g74 g75 g76 g77 g78 g79 g80 g81 g82 g83 g84 g85 g86 g87 g88 g89 g90 g91 g92 g93 g94 g95 g96 g97 g98 g99 g100 g101 g102 g103 g104 g105 g106 g107 g108 g109 g110 g111 : Value) (H : AHeap), Inv μ vmost_2 t6_a t6_n t6_e t7 edges_a edges_n edges_e H → exK Try.prog E_spec_BreaksOf (cl (cl (cl (cr (cr (cr (bodyC Try.f32))))))) [.slice list_a list_n list_e, .float .f32 least, .int .i64 vmost_2, undef, undef, undef, .slice t6_a t6_n t6_e, .bool t7, .slice edges_a edges_n edges_e, g9, g10, g11, g12, g13, g14, g15, g16, .slice list_a list_n list_e, .bool r1, .bool (!r1), .bool false, .float .f32 least, .bool r2, .bool (!r2), .bool (!r2), .bool false, .int .i64 vmost, .bool r3, .bool (!r3), .bool (!r3), .slice list_a list_n list_e, .int .i64 (list_n : Int), .slice (some ⟨b1, 0, none⟩) 2 1, g33, g34, g35, g36, g37, g38, g39, g40, g41, g42, g43, g44, g45, g46, g47, g48, g49, g50, g51, g52, g53, g54, g55, g56, g57, g58, g59, g60, g61, g62, g63, g64, g65, g66, g67, g68, g69, g70, g71, g72, g73, g74, g75, g76, g77, g78, g79, g80, g81, g82, g83, g84, g85, g86, g87, g88, g89, g90, g91, g92, g93, g94, g95, g96, g97, g98, g99, g100, g101, g102, g103, g104, g105, g106, g107, g108, g109, g110, g111, undef, undef, undef, undef, undef, undef, undef] H (loopQ (spec_BreaksOf_I1 b1 least list_a list_e list_n r1 r2 r3 vmost Inv) μ Q)) : loopK (exK Try.prog E_spec_BreaksOf (cl (cl (cl (cr (cr (cr (bodyC Try.f32)))))))) [.slice list_a list_n list_e, .float .f32 least, .int .i64 vmost_2, undef, undef, undef, .slice t6_a t6_n t6_e, .bool t7, .slice edges_a edges_n edges_e, g9, g10, g11, g12, g13, g14, g15, g16, .slice list_a list_n list_e, .bool r1, .bool (!r1), .bool false, .float .f32 least, .bool r2, .bool (!r2), .bool (!r2), .bool false, .int .i64 vmost, .bool r3, .bool (!r3), .bool (!r3), .slice list_a list_n list_e, .int .i64 (list_n : Int), .slice (some ⟨b1, 0, none⟩) 2 1, g33, g34, g35, g36, g37, g38, g39, g40, g41, g42, g43, g44, g45, g46, g47, g48, g49, g50, g51, g52, g53, g54, g55, g56, g57, g58, g59, g60, g61, g62, g63, g64, g65, g66, g67, g68, g69, g70, g71, g72, g73, g74, g75, g76, g77, g78, g79, g80, g81, g82, g83, g84, g85, g86, g87, g88, g89, g90, g91, g92, g93, g94, g95, g96, g97, g98, g99, g100, g101, g102, g103, g104, g105, g106, g107, g108, g109, g110, g111, undef, undef, undef, undef, undef, undef, undef] H Q :=
  ⟨spec_BreaksOf_I1 b1 least list_a list_e list_n r1 r2 r3 vmost Inv, ν, ⟨vmost_2, t6_a, t6_n, t6_e, t7, edges_a, edges_n, edges_e, g9, g10, g11, g12, g13, g14, g15, g16, g33, g34, g35, g36, g37, g38, g39, g40, g41, g42, g43, g44, g45, g46, g47, g48, g49, g50, g51, g52, g53, g54, g55, g56, g57, g58, g59, g60, g61, g62, g63, g64, g65, g66, g67, g68, g69, g70, g71, g72, g73, g74, g75, g76, g77, g78, g79, g80, g81, g82, g83, g84, g85, g86, g87, g88, g89, g90, g91, g92, g93, g94, g95, g96, g97, g98, g99, g100, g101, g102, g103, g104, g105, g106, g107, g108, g109, g110, g111, rfl, h0⟩, fun μ tm H h => by obtain ⟨vmost_2, t6_a, t6_n, t6_e, t7, edges_a, edges_n, edges_e, g9, g10, g11, g12, g13, g14, g15, g16, g33, g34, g35, g36, g37, g38, g39, g40, g41, g42, g43, g44, g45, g46, g47, g48, g49, g50, g51, g52, g53, g54, g55, g56, g57, g58, g59, g60, g61, g62, g63, g64, g65, g66, g67, g68, g69, g70, g71, g72, g73, g74, g75, g76, g77, g78, g79, g80, g81, g82, g83, g84, g85, g86, g87, g88, g89, g90, g91, g92, g93, g94, g95, g96, g97, g98, g99, g100, g101, g102, g103, g104, g105, g106, g107, g108, g109, g110, g111, rfl, hI⟩ := h; exact hs μ vmost_2 t6_a t6_n t6_e t7 edges_a edges_n edges_e g9 g10 g11 g12 g13 g14 g15 g16 g33 g34 g35 g36 g37 g38 g39 g40 g41 g42 g43 g44 g45 g46 g47 g48 g49 g50 g51 g52 g53 g54 g55 g56 g57 g58 g59 g60 g61 g62 g63 g64 g65 g66 g67 g68 g69 g70 g71 g72 g73 g74 g75 g76 g77 g78 g79 g80 g81 g82 g83 g84 g85 g86 g87 g88 g89 g90 g91 g92 g93 g94 g95 g96 g97 g98 g99 g100 g101 g102 g103 g104 g105 g106 g107 g108 g109 g110 g111 H hI⟩
theorem spec_BreaksOf_n1 {b1 : Nat} {least : Nat} {list_a : Option Addr} {list_e : Nat} {list_n : Nat} {r1 : Bool} {r2 : Bool} {r3 : Bool} {vmost : Int} {Q : Post} {Inv : Nat → Int → (Option Addr) → Nat → Nat → Bool → (Option Addr) → Nat → Nat → AHeap → Prop} {μ : Nat} (μ' : Nat) {vmost_2 : Int} {t6_a : Option Addr} {t6_n : Nat} {t6_e : Nat} {t7 : Bool} {edges_a : Option Addr} {edges_n : Nat} {edges_e : Nat} {g9 g10 g11 g12 g13 g14 g15 g16 g33 g34 g35 g36 g37 g38 g39 g40 g41 g42 g43 g44 g45 g46 g47 g48 g49 g50 g51 g52 g53 g54 g55 g56 g57 g58 g59 g60 g61 g62 g63 g64 g65 g66 g67 g68 g69 g70 g71 g72 g73 g74 g75 g76 g77 g78 g79 g80 g81 g82 g83 g84 g85 g86 g87 g88 g89 g90 g91 g92 g93 g94 g95 g96 g97 g98 g99 g100 g101 g102 g103 g104 g105 g106 g107 g108 g109 g110 g111 : Value} {H : AHeap} (hm : μ' < μ) (hI : Inv μ' vmost_2 t6_a t6_n t6_e t7 edges_a edges_n edges_e H) : loopQ (spec_BreaksOf_I1 b1 least list_a list_e list_n r1 r2 r3 vmost Inv) μ Q .normal [.slice list_a list_n list_e, .float .f32 least, .int .i64 vmost_2, undef, undef, undef, .slice t6_a t6_n t6_e, .bool t7, .slice edges_a edges_n edges_e, g9, g10, g11, g12, g13, g14, g15, g16, .slice list_a list_n list_e, .bool r1, .bool (!r1), .bool false, .float .f32 least, .bool r2, .bool (!r2), .bool (!r2), .bool false, .int .i64 vmost, .bool r3, .bool (!r3), .bool (!r3), .slice list_a list_n list_e, .int .i64 (list_n : Int), .slice (some ⟨b1, 0, none⟩) 2 1, g33, g34, g35, g36, g37, g38, g39, g40, g41, g42, g43, g44, g45, g46, g47, g48, g49, g50, g51, g52, g53, g54, g55, g56, g57, g58, g59, g60, g61, g62, g63, g64, g65, g66, g67, g68, g69, g70, g71, g72, g73, g74, g75, g76, g77, g78, g79, g80, g81, g82, g83, g84, g85, g86, g87, g88, g89, g90, g91, g92, g93, g94, g95, g96, g97, g98, g99, g100, g101, g102, g103, g104, g105, g106, g107, g108, g109, g110, g111, undef, undef, undef, undef, undef, undef, undef] H := ⟨μ', hm, vmost_2, t6_a, t6_n, t6_e, t7, edges_a, edges_n, edges_e, g9, g10, g11, g12, g13, g14, g15, g16, g33, g34, g35, g36, g37, g38, g39, g40, g41, g42, g43, g44, g45, g46, g47, g48, g49, g50, g51, g52, g53, g54, g55, g56, g57, g58, g59, g60, g61, g62, g63, g64, g65, g66, g67, g68, g69, g70, g71, g72, g73, g74, g75, g76, g77, g78, g79, g80, g81, g82, g83, g84, g85, g86, g87, g88, g89, g90, g91, g92, g93, g94, g95, g96, g97, g98, g99, g100, g101, g102, g103, g104, g105, g106, g107, g108, g109, g110, g111, rfl, hI⟩
theorem spec_BreaksOf_x1_0 (b1 : Nat) (least : Nat) (list_a : Option Addr) (list_e : Nat) (list_n : Nat) (r1 : Bool) (r2 : Bool) (r3 : Bool) (vmost : Int) (vmost_2 : Int) (t6_a : Option Addr) (t6_n : Nat) (t6_e : Nat) (t7 : Bool) (edges_a : Option Addr) (edges_n : Nat) (edges_e : Nat) (g9 g10 g11 g12 g13 g14 g15 g16 g33 g34 g35 g36 g37 g38 g39 g40 g41 g42 g43 g44 g45 g46 g47 g48 g49 g50 g51 g52 g53 g54 g55 g56 g57 g58 g59 g60 g61 g62 g63 g64 g65 g66 g67 g68 g69 g70 g71 g72 g73 g74 g75 g76 g77 g78 g79 g80 g81 g82 g83 g84 g85 g86 g87 g88 g89 g90 g91 g92 g93 g94 g95 g96 g97 g98 g99 g100 g101 g102 g103 g104 g105 g106 g107 g108 g109 g110 g111 : Value) (H : AHeap) (K : Value → AHeap → Prop)  {I : Nat → List Value → AHeap → Prop} {μ : Nat} : loopQ I μ (blockQ 0 (seqQ (exK Try.prog E_spec_BreaksOf (cr (cr (cr (cr (bodyC Try.f32)))))) (retK Try.prog Try.f32 K))) (.exit 0) [.slice list_a list_n list_e, .float .f32 least, .int .i64 vmost_2, undef, undef, undef, .slice t6_a t6_n t6_e, .bool t7, .slice edges_a edges_n edges_e, g9, g10, g11, g12, g13, g14, g15, g16, .slice list_a list_n list_e, .bool r1, .bool (!r1), .bool false, .float .f32 least, .bool r2, .bool (!r2), .bool (!r2), .bool false, .int .i64 vmost, .bool r3, .bool (!r3), .bool (!r3), .slice list_a list_n list_e, .int .i64 (list_n : Int), .slice (some ⟨b1, 0, none⟩) 2 1, g33, g34, g35, g36, g37, g38, g39, g40, g41, g42, g43, g44, g45, g46, g47, g48, g49, g50, g51, g52, g53, g54, g55, g56, g57, g58, g59, g60, g61, g62, g63, g64, g65, g66, g67, g68, g69, g70, g71, g72, g73, g74, g75, g76, g77, g78, g79, g80, g81, g82, g83, g84, g85, g86, g87, g88, g89, g90, g91, g92, g93, g94, g95, g96, g97, g98, g99, g100, g101, g102, g103, g104, g105, g106, g107, g108, g109, g110, g111, undef, undef, undef, undef, undef, undef, undef] H =
  (Al [] H fun b13 H11 => (0 : Int) ≤ 1 ∧ 1 ≤ IntKind.wrap .i64 ((edges_n : Int) - 1) ∧ IntKind.wrap .i64 ((edges_n : Int) - 1) ≤ (edges_n : Int) ∧ ∃ o4 w4 : List Value, ownB H11 (some ⟨b13, 0, none⟩) 0 1 1 = some o4 ∧ rdS H11 ((edges_a : Option Addr).map fun a => ⟨a.block, a.off + (1 : Int).toNat * 1, none⟩) ((((IntKind.wrap .i64 ((edges_n : Int) - 1) : Int) - 1).toNat) * 1) = some w4 ∧ ((some ⟨b13, 0, none⟩ : Option Addr) = none → 0 < (((IntKind.wrap .i64 ((edges_n : Int) - 1) : Int) - 1).toNat : Nat)) ∧ (0 : Nat) + (((IntKind.wrap .i64 ((edges_n : Int) - 1) : Int) - 1).toNat) < most ∧ Ap H11 (killB H11 (some ⟨b13, 0, none⟩) ++ [some ⟨o4 ++ w4, true⟩]) fun b14 H12 => K (.tuple #[.slice (some ⟨b14, 0, none⟩) (0 + (((IntKind.wrap .i64 ((edges_n : Int) - 1) : Int) - 1).toNat)) 1, .bool true]) H12) := by kernel_rfl
theorem spec_BreaksOf_x1_ret (b1 : Nat) (least : Nat) (list_a : Option Addr) (list_e : Nat) (list_n : Nat) (r1 : Bool) (r2 : Bool) (r3 : Bool) (vmost : Int) (vmost_2 : Int) (t6_a : Option Addr) (t6_n : Nat) (t6_e : Nat) (t7 : Bool) (edges_a : Option Addr) (edges_n : Nat) (edges_e : Nat) (g9 g10 g11 g12 g13 g14 g15 g16 g33 g34 g35 g36 g37 g38 g39 g40 g41 g42 g43 g44 g45 g46 g47 g48 g49 g50 g51 g52 g53 g54 g55 g56 g57 g58 g59 g60 g61 g62 g63 g64 g65 g66 g67 g68 g69 g70 g71 g72 g73 g74 g75 g76 g77 g78 g79 g80 g81 g82 g83 g84 g85 g86 g87 g88 g89 g90 g91 g92 g93 g94 g95 g96 g97 g98 g99 g100 g101 g102 g103 g104 g105 g106 g107 g108 g109 g110 g111 : Value) (H : AHeap) (K : Value → AHeap → Prop)  {I : Nat → List Value → AHeap → Prop} {μ : Nat} : loopQ I μ (blockQ 0 (seqQ (exK Try.prog E_spec_BreaksOf (cr (cr (cr (cr (bodyC Try.f32)))))) (retK Try.prog Try.f32 K))) .ret [.slice list_a list_n list_e, .float .f32 least, .int .i64 vmost_2, undef, undef, undef, .slice t6_a t6_n t6_e, .bool t7, .slice edges_a edges_n edges_e, g9, g10, g11, g12, g13, g14, g15, g16, .slice list_a list_n list_e, .bool r1, .bool (!r1), .bool false, .float .f32 least, .bool r2, .bool (!r2), .bool (!r2), .bool false, .int .i64 vmost, .bool r3, .bool (!r3), .bool (!r3), .slice list_a list_n list_e, .int .i64 (list_n : Int), .slice (some ⟨b1, 0, none⟩) 2 1, g33, g34, g35, g36, g37, g38, g39, g40, g41, g42, g43, g44, g45, g46, g47, g48, g49, g50, g51, g52, g53, g54, g55, g56, g57, g58, g59, g60, g61, g62, g63, g64, g65, g66, g67, g68, g69, g70, g71, g72, g73, g74, g75, g76, g77, g78, g79, g80, g81, g82, g83, g84, g85, g86, g87, g88, g89, g90, g91, g92, g93, g94, g95, g96, g97, g98, g99, g100, g101, g102, g103, g104, g105, g106, g107, g108, g109, g110, g111, undef, undef, undef, undef, undef, undef, undef] H =
  (K (.tuple #[.slice t6_a t6_n t6_e, .bool t7]) H) := by kernel_rfl
theorem spec_BreaksOf_r2 (b1 : Nat) (edges_a : Option Addr) (edges_e : Nat) (edges_n : Nat) (g100 : Value) (g101 : Value) (g102 : Value) (g103 : Value) (g104 : Value) (g105 : Value) (g106 : Value) (g107 : Value) (g108 : Value) (g109 : Value) (g110 : Value) (g111 : Value) (g16 : Value) (g35 : Value) (g36 : Value) (g88 : Value) (g89 : Value) (g90 : Value) (g91 : Value) (g92 : Value) (g93 : Value) (g94 : Value) (g95 : Value) (g96 : Value) (g97 : Value) (g98 : Value) (g99 : Value) (least : Nat) (list_a : Option Addr) (list_e : Nat) (list_n : Nat) (r1 : Bool) (r2 : Bool) (r3 : Bool) (vmost : Int) (vmost_2 : Int) (t6_a : Option Addr) (t6_n : Nat) (t6_e : Nat) (t7_7 : Bool) (best : Int) (vat : Int) (top : Nat) (i : Int) (g13 g14 g15 g37 g38 g39 g40 g41 g42 g43 g44 g45 g46 g47 g48 g49 g50 g51 g52 g53 g54 g55 g56 g57 g58 g59 g60 g61 g62 g63 g64 g65 g66 g67 g68 g69 g70 g71 g72 g73 g74 g75 g76 g77 g78 g79 g80 g81 g82 g83 g84 g85 g86 g87 : Value) (H : AHeap) (R : Post) : exK Try.prog E_spec_BreaksOf (cl (cl (cr (cl (cr (cr (cr (cl (cl (cr (cl (cl (cl (cr (cr (cr (bodyC Try.f32))))))))))))))))) [.slice list_a list_n list_e, .float .f32 least, .int .i64 vmost_2, undef, undef, undef, .slice t6_a t6_n t6_e, .bool t7_7, .slice edges_a edges_n edges_e, .int .i64 best, .int .i64 vat, .float .f32 top, .int .i64 i, g13, g14, g15, g16, .slice list_a list_n list_e, .bool r1, .bool (!r1), .bool false, .float .f32 least, .bool r2, .bool (!r2), .bool (!r2), .bool false, .int .i64 vmost, .bool r3, .bool (!r3), .bool (!r3), .slice list_a list_n list_e, .int .i64 (list_n : Int), .slice (some ⟨b1, 0, none⟩) 2 1, .int .i64 vmost_2, .bool (decide ((0 : Int) < vmost_2)), g35, g36, g37, g38, g39, g40, g41, g42, g43, g44, g45, g46, g47, g48, g49, g50, g51, g52, g53, g54, g55, g56, g57, g58, g59, g60, g61, g62, g63, g64, g65, g66, g67, g68, g69, g70, g71, g72, g73, g74, g75, g76, g77, g78, g79, g80, g81, g82, g83, g84, g85, g86, g87, g88, g89, g90, g91, g92, g93, g94, g95, g96, g97, g98, g99, g100, g101, g102, g103, g104, g105, g106, g107, g108, g109, g110, g111, undef, undef, undef, undef, undef, undef, undef] H R =
  (Br (decide ((IntKind.wrap .i64 (i + 1) : Int) < (edges_n : Int))) ((0 : Int) ≤ IntKind.wrap .i64 (i + 1) ∧ IntKind.wrap .i64 (i + 1) < (edges_n : Int) ∧ ∃ b2 f1, (edges_a : Option Addr) = some ⟨b2, f1, none⟩ ∧ ∃ x1 : Int,  rdC H b2 (f1 + (IntKind.wrap .i64 (i + 1) : Int).toNat * 1) = some (.int .i64 x1) ∧ (0 : Int) ≤ i ∧ i < (edges_n : Int) ∧ ∃ b3 f2, (edges_a : Option Addr) = some ⟨b3, f2, none⟩ ∧ ∃ x2 : Int,  rdC H b3 (f2 + (i : Int).toNat * 1) = some (.int .i64 x2) ∧ Br (decide ((IntKind.wrap .i64 (x1 - x2) : Int) < 2)) (R .normal [.slice list_a list_n list_e, .float .f32 least, .int .i64 vmost_2, undef, undef, undef, .slice t6_a t6_n t6_e, .bool t7_7, .slice edges_a edges_n edges_e, .int .i64 best, .int .i64 vat, .float .f32 top, .int .i64 (IntKind.wrap .i64 (i + 1)), g13, g14, g15, g16, .slice list_a list_n list_e, .bool r1, .bool (!r1), .bool false, .float .f32 least, .bool r2, .bool (!r2), .bool (!r2), .bool false, .int .i64 vmost, .bool r3, .bool (!r3), .bool (!r3), .slice list_a list_n list_e, .int .i64 (list_n : Int), .slice (some ⟨b1, 0, none⟩) 2 1, .int .i64 vmost_2, .bool (decide ((0 : Int) < vmost_2)), g35, g36, .int .i64 i, .int .i64 (IntKind.wrap .i64 (i + 1)), .slice edges_a edges_n edges_e, .int .i64 (edges_n : Int), .bool (decide ((IntKind.wrap .i64 (i + 1) : Int) < (edges_n : Int))), .int .i64 i, .int .i64 (IntKind.wrap .i64 (i + 1)), .slice edges_a edges_n edges_e, .int .i64 i, .int .i64 (IntKind.wrap .i64 (i + 1)), .pointer (some ⟨b2, f1 + (IntKind.wrap .i64 (i + 1) : Int).toNat * 1, none⟩), .int .i64 x1, .slice edges_a edges_n edges_e, .int .i64 i, .pointer (some ⟨b3, f2 + (i : Int).toNat * 1, none⟩), .int .i64 x2, .int .i64 (IntKind.wrap .i64 (x1 - x2)), .bool (decide ((IntKind.wrap .i64 (x1 - x2) : Int) < 2)), g55, g56, g57, g58, g59, g60, g61, g62, g63, g64, g65, g66, g67, g68, g69, g70, g71, g72, g73, g74, g75, g76, g77, g78, g79, g80, g81, g82, g83, g84, g85, g86, g87, g88, g89, g90, g91, g92, g93, g94, g95, g96, g97, g98, g99, g100, g101, g102, g103, g104, g105, g106, g107, g108, g109, g110, g111, undef, undef, undef, undef, undef, undef, undef] H) ((0 : Int) ≤ i ∧ i < (edges_n : Int) ∧ ∃ b4 f3, (edges_a : Option Addr) = some ⟨b4, f3, none⟩ ∧ ∃ x3 : Int,  rdC H b4 (f3 + (i : Int).toNat * 1) = some (.int .i64 x3) ∧ (0 : Int) ≤ IntKind.wrap .i64 (i + 1) ∧ IntKind.wrap .i64 (i + 1) < (edges_n : Int) ∧ ∃ b5 f4, (edges_a : Option Addr) = some ⟨b5, f4, none⟩ ∧ ∃ x4 : Int,  rdC H b5 (f4 + (IntKind.wrap .i64 (i + 1) : Int).toNat * 1) = some (.int .i64 x4) ∧ (0 : Int) ≤ x3 ∧ x3 ≤ x4 ∧ x4 ≤ (list_n : Int) ∧ T_spec_l05Break ((list_a : Option Addr).map fun a => ⟨a.block, a.off + (x3 : Int).toNat * 1, none⟩) (((x4 : Int) - x3).toNat) 0 H fun (r4 : Int) (r5 : Nat) (r6 : Bool) (H5 : AHeap) => Br (!r6) (R .ret [.slice list_a list_n list_e, .float .f32 least, .int .i64 vmost_2, undef, undef, undef, .slice none 0 0, .bool false, .slice edges_a edges_n edges_e, .int .i64 best, .int .i64 vat, .float .f32 top, .int .i64 i, .int .i64 r4, .float .f32 r5, .bool r6, g16, .slice list_a list_n list_e, .bool r1, .bool (!r1), .bool false, .float .f32 least, .bool r2, .bool (!r2), .bool (!r2), .bool false, .int .i64 vmost, .bool r3, .bool (!r3), .bool (!r3), .slice list_a list_n list_e, .int .i64 (list_n : Int), .slice (some ⟨b1, 0, none⟩) 2 1, .int .i64 vmost_2, .bool (decide ((0 : Int) < vmost_2)), g35, g36, .int .i64 i, .int .i64 (IntKind.wrap .i64 (i + 1)), .slice edges_a edges_n edges_e, .int .i64 (edges_n : Int), .bool (decide ((IntKind.wrap .i64 (i + 1) : Int) < (edges_n : Int))), g42, g43, .slice edges_a edges_n edges_e, .int .i64 i, .int .i64 (IntKind.wrap .i64 (i + 1)), .pointer (some ⟨b2, f1 + (IntKind.wrap .i64 (i + 1) : Int).toNat * 1, none⟩), .int .i64 x1, .slice edges_a edges_n edges_e, .int .i64 i, .pointer (some ⟨b3, f2 + (i : Int).toNat * 1, none⟩), .int .i64 x2, .int .i64 (IntKind.wrap .i64 (x1 - x2)), .bool (decide ((IntKind.wrap .i64 (x1 - x2) : Int) < 2)), .tuple #[.int .i64 r4, .float .f32 r5, .bool r6], .slice list_a list_n list_e, .slice edges_a edges_n edges_e, .int .i64 i, .pointer (some ⟨b4, f3 + (i : Int).toNat * 1, none⟩), .int .i64 x3, .slice edges_a edges_n edges_e, .int .i64 i, .int .i64 (IntKind.wrap .i64 (i + 1)), .pointer (some ⟨b5, f4 + (IntKind.wrap .i64 (i + 1) : Int).toNat * 1, none⟩), .int .i64 x4, .slice ((list_a : Option Addr).map fun a => ⟨a.block, a.off + (x3 : Int).toNat * 1, none⟩) (((x4 : Int) - x3).toNat) 0, .tuple #[.int .i64 r4, .float .f32 r5, .bool r6], .int .i64 r4, .float .f32 r5, .bool r6, .bool r6, .bool (!r6), g73, g74, g75, g76, g77, g78, g79, g80, g81, g82, g83, g84, g85, g86, g87, g88, g89, g90, g91, g92, g93, g94, g95, g96, g97, g98, g99, g100, g101, g102, g103, g104, g105, g106, g107, g108, g109, g110, g111, undef, undef, undef, undef, undef, undef, undef] H5) (Br (decide ((best : Int) < 0)) ((0 : Int) ≤ i ∧ i < (edges_n : Int) ∧ ∃ b6 f5, (edges_a : Option Addr) = some ⟨b6, f5, none⟩ ∧ ∃ x5 : Int,  rdC H5 b6 (f5 + (i : Int).toNat * 1) = some (.int .i64 x5) ∧ R .normal [.slice list_a list_n list_e, .float .f32 least, .int .i64 vmost_2, undef, undef, undef, .slice t6_a t6_n t6_e, .bool t7_7, .slice edges_a edges_n edges_e, .int .i64 i, .int .i64 (IntKind.wrap .i64 (x5 + r4)), .float .f32 r5, .int .i64 (IntKind.wrap .i64 (i + 1)), .int .i64 r4, .float .f32 r5, .bool r6, g16, .slice list_a list_n list_e, .bool r1, .bool (!r1), .bool false, .float .f32 least, .bool r2, .bool (!r2), .bool (!r2), .bool false, .int .i64 vmost, .bool r3, .bool (!r3), .bool (!r3), .slice list_a list_n list_e, .int .i64 (list_n : Int), .slice (some ⟨b1, 0, none⟩) 2 1, .int .i64 vmost_2, .bool (decide ((0 : Int) < vmost_2)), g35, g36, .int .i64 i, .int .i64 (IntKind.wrap .i64 (i + 1)), .slice edges_a edges_n edges_e, .int .i64 (edges_n : Int), .bool (decide ((IntKind.wrap .i64 (i + 1) : Int) < (edges_n : Int))), .int .i64 i, .int .i64 (IntKind.wrap .i64 (i + 1)), .slice edges_a edges_n edges_e, .int .i64 i, .int .i64 (IntKind.wrap .i64 (i + 1)), .pointer (some ⟨b2, f1 + (IntKind.wrap .i64 (i + 1) : Int).toNat * 1, none⟩), .int .i64 x1, .slice edges_a edges_n edges_e, .int .i64 i, .pointer (some ⟨b3, f2 + (i : Int).toNat * 1, none⟩), .int .i64 x2, .int .i64 (IntKind.wrap .i64 (x1 - x2)), .bool (decide ((IntKind.wrap .i64 (x1 - x2) : Int) < 2)), .tuple #[.int .i64 r4, .float .f32 r5, .bool r6], .slice list_a list_n list_e, .slice edges_a edges_n edges_e, .int .i64 i, .pointer (some ⟨b4, f3 + (i : Int).toNat * 1, none⟩), .int .i64 x3, .slice edges_a edges_n edges_e, .int .i64 i, .int .i64 (IntKind.wrap .i64 (i + 1)), .pointer (some ⟨b5, f4 + (IntKind.wrap .i64 (i + 1) : Int).toNat * 1, none⟩), .int .i64 x4, .slice ((list_a : Option Addr).map fun a => ⟨a.block, a.off + (x3 : Int).toNat * 1, none⟩) (((x4 : Int) - x3).toNat) 0, .tuple #[.int .i64 r4, .float .f32 r5, .bool r6], .int .i64 r4, .float .f32 r5, .bool r6, .bool r6, .bool (!r6), .int .i64 best, .bool (decide ((best : Int) < 0)), .bool true, undef, undef, undef, .bool true, .int .i64 i, .slice edges_a edges_n edges_e, .int .i64 i, .pointer (some ⟨b6, f5 + (i : Int).toNat * 1, none⟩), .int .i64 x5, .int .i64 r4, .int .i64 (IntKind.wrap .i64 (x5 + r4)), .float .f32 r5, g88, g89, g90, g91, g92, g93, g94, g95, g96, g97, g98, g99, g100, g101, g102, g103, g104, g105, g106, g107, g108, g109, g110, g111, undef, undef, undef, undef, undef, undef, undef] H5) (Br (flt .f32 top r5) ((0 : Int) ≤ i ∧ i < (edges_n : Int) ∧ ∃ b7 f6, (edges_a : Option Addr) = some ⟨b7, f6, none⟩ ∧ ∃ x6 : Int,  rdC H5 b7 (f6 + (i : Int).toNat * 1) = some (.int .i64 x6) ∧ R .normal [.slice list_a list_n list_e, .float .f32 least, .int .i64 vmost_2, undef, undef, undef, .slice t6_a t6_n t6_e, .bool t7_7, .slice edges_a edges_n edges_e, .int .i64 i, .int .i64 (IntKind.wrap .i64 (x6 + r4)), .float .f32 r5, .int .i64 (IntKind.wrap .i64 (i + 1)), .int .i64 r4, .float .f32 r5, .bool r6, g16, .slice list_a list_n list_e, .bool r1, .bool (!r1), .bool false, .float .f32 least, .bool r2, .bool (!r2), .bool (!r2), .bool false, .int .i64 vmost, .bool r3, .bool (!r3), .bool (!r3), .slice list_a list_n list_e, .int .i64 (list_n : Int), .slice (some ⟨b1, 0, none⟩) 2 1, .int .i64 vmost_2, .bool (decide ((0 : Int) < vmost_2)), g35, g36, .int .i64 i, .int .i64 (IntKind.wrap .i64 (i + 1)), .slice edges_a edges_n edges_e, .int .i64 (edges_n : Int), .bool (decide ((IntKind.wrap .i64 (i + 1) : Int) < (edges_n : Int))), .int .i64 i, .int .i64 (IntKind.wrap .i64 (i + 1)), .slice edges_a edges_n edges_e, .int .i64 i, .int .i64 (IntKind.wrap .i64 (i + 1)), .pointer (some ⟨b2, f1 + (IntKind.wrap .i64 (i + 1) : Int).toNat * 1, none⟩), .int .i64 x1, .slice edges_a edges_n edges_e, .int .i64 i, .pointer (some ⟨b3, f2 + (i : Int).toNat * 1, none⟩), .int .i64 x2, .int .i64 (IntKind.wrap .i64 (x1 - x2)), .bool (decide ((IntKind.wrap .i64 (x1 - x2) : Int) < 2)), .tuple #[.int .i64 r4, .float .f32 r5, .bool r6], .slice list_a list_n list_e, .slice edges_a edges_n edges_e, .int .i64 i, .pointer (some ⟨b4, f3 + (i : Int).toNat * 1, none⟩), .int .i64 x3, .slice edges_a edges_n edges_e, .int .i64 i, .int .i64 (IntKind.wrap .i64 (i + 1)), .pointer (some ⟨b5, f4 + (IntKind.wrap .i64 (i + 1) : Int).toNat * 1, none⟩), .int .i64 x4, .slice ((list_a : Option Addr).map fun a => ⟨a.block, a.off + (x3 : Int).toNat * 1, none⟩) (((x4 : Int) - x3).toNat) 0, .tuple #[.int .i64 r4, .float .f32 r5, .bool r6], .int .i64 r4, .float .f32 r5, .bool r6, .bool r6, .bool (!r6), .int .i64 best, .bool (decide ((best : Int) < 0)), .bool false, .float .f32 r5, .float .f32 top, .bool (flt .f32 top r5), .bool (flt .f32 top r5), .int .i64 i, .slice edges_a edges_n edges_e, .int .i64 i, .pointer (some ⟨b7, f6 + (i : Int).toNat * 1, none⟩), .int .i64 x6, .int .i64 r4, .int .i64 (IntKind.wrap .i64 (x6 + r4)), .float .f32 r5, g88, g89, g90, g91, g92, g93, g94, g95, g96, g97, g98, g99, g100, g101, g102, g103, g104, g105, g106, g107, g108, g109, g110, g111, undef, undef, undef, undef, undef, undef, undef] H5) (R .normal [.slice list_a list_n list_e, .float .f32 least, .int .i64 vmost_2, undef, undef, undef, .slice t6_a t6_n t6_e, .bool t7_7, .slice edges_a edges_n edges_e, .int .i64 best, .int .i64 vat, .float .f32 top, .int .i64 (IntKind.wrap .i64 (i + 1)), .int .i64 r4, .float .f32 r5, .bool r6, g16, .slice list_a list_n list_e, .bool r1, .bool (!r1), .bool false, .float .f32 least, .bool r2, .bool (!r2), .bool (!r2), .bool false, .int .i64 vmost, .bool r3, .bool (!r3), .bool (!r3), .slice list_a list_n list_e, .int .i64 (list_n : Int), .slice (some ⟨b1, 0, none⟩) 2 1, .int .i64 vmost_2, .bool (decide ((0 : Int) < vmost_2)), g35, g36, .int .i64 i, .int .i64 (IntKind.wrap .i64 (i + 1)), .slice edges_a edges_n edges_e, .int .i64 (edges_n : Int), .bool (decide ((IntKind.wrap .i64 (i + 1) : Int) < (edges_n : Int))), .int .i64 i, .int .i64 (IntKind.wrap .i64 (i + 1)), .slice edges_a edges_n edges_e, .int .i64 i, .int .i64 (IntKind.wrap .i64 (i + 1)), .pointer (some ⟨b2, f1 + (IntKind.wrap .i64 (i + 1) : Int).toNat * 1, none⟩), .int .i64 x1, .slice edges_a edges_n edges_e, .int .i64 i, .pointer (some ⟨b3, f2 + (i : Int).toNat * 1, none⟩), .int .i64 x2, .int .i64 (IntKind.wrap .i64 (x1 - x2)), .bool (decide ((IntKind.wrap .i64 (x1 - x2) : Int) < 2)), .tuple #[.int .i64 r4, .float .f32 r5, .bool r6], .slice list_a list_n list_e, .slice edges_a edges_n edges_e, .int .i64 i, .pointer (some ⟨b4, f3 + (i : Int).toNat * 1, none⟩), .int .i64 x3, .slice edges_a edges_n edges_e, .int .i64 i, .int .i64 (IntKind.wrap .i64 (i + 1)), .pointer (some ⟨b5, f4 + (IntKind.wrap .i64 (i + 1) : Int).toNat * 1, none⟩), .int .i64 x4, .slice ((list_a : Option Addr).map fun a => ⟨a.block, a.off + (x3 : Int).toNat * 1, none⟩) (((x4 : Int) - x3).toNat) 0, .tuple #[.int .i64 r4, .float .f32 r5, .bool r6], .int .i64 r4, .float .f32 r5, .bool r6, .bool r6, .bool (!r6), .int .i64 best, .bool (decide ((best : Int) < 0)), .bool false, .float .f32 r5, .float .f32 top, .bool (flt .f32 top r5), .bool (flt .f32 top r5), g80, g81, g82, g83, g84, g85, g86, g87, g88, g89, g90, g91, g92, g93, g94, g95, g96, g97, g98, g99, g100, g101, g102, g103, g104, g105, g106, g107, g108, g109, g110, g111, undef, undef, undef, undef, undef, undef, undef] H5))))) (R (.exit 2) [.slice list_a list_n list_e, .float .f32 least, .int .i64 vmost_2, undef, undef, undef, .slice t6_a t6_n t6_e, .bool t7_7, .slice edges_a edges_n edges_e, .int .i64 best, .int .i64 vat, .float .f32 top, .int .i64 i, g13, g14, g15, g16, .slice list_a list_n list_e, .bool r1, .bool (!r1), .bool false, .float .f32 least, .bool r2, .bool (!r2), .bool (!r2), .bool false, .int .i64 vmost, .bool r3, .bool (!r3), .bool (!r3), .slice list_a list_n list_e, .int .i64 (list_n : Int), .slice (some ⟨b1, 0, none⟩) 2 1, .int .i64 vmost_2, .bool (decide ((0 : Int) < vmost_2)), g35, g36, .int .i64 i, .int .i64 (IntKind.wrap .i64 (i + 1)), .slice edges_a edges_n edges_e, .int .i64 (edges_n : Int), .bool (decide ((IntKind.wrap .i64 (i + 1) : Int) < (edges_n : Int))), g42, g43, g44, g45, g46, g47, g48, g49, g50, g51, g52, g53, g54, g55, g56, g57, g58, g59, g60, g61, g62, g63, g64, g65, g66, g67, g68, g69, g70, g71, g72, g73, g74, g75, g76, g77, g78, g79, g80, g81, g82, g83, g84, g85, g86, g87, g88, g89, g90, g91, g92, g93, g94, g95, g96, g97, g98, g99, g100, g101, g102, g103, g104, g105, g106, g107, g108, g109, g110, g111, undef, undef, undef, undef, undef, undef, undef] H)) := by kernel_rfl
def spec_BreaksOf_I2 (b1 : Nat) (edges_a : Option Addr) (edges_e : Nat) (edges_n : Nat) (g100 : Value) (g101 : Value) (g102 : Value) (g103 : Value) (g104 : Value) (g105 : Value) (g106 : Value) (g107 : Value) (g108 : Value) (g109 : Value) (g110 : Value) (g111 : Value) (g16 : Value) (g35 : Value) (g36 : Value) (g88 : Value) (g89 : Value) (g90 : Value) (g91 : Value) (g92 : Value) (g93 : Value) (g94 : Value) (g95 : Value) (g96 : Value) (g97 : Value) (g98 : Value) (g99 : Value) (least : Nat) (list_a : Option Addr) (list_e : Nat) (list_n : Nat) (r1 : Bool) (r2 : Bool) (r3 : Bool) (vmost : Int) (vmost_2 : Int) (Inv : Nat → (Option Addr) → Nat → Nat → Bool → Int → Int → Nat → Int → AHeap → Prop) : Nat → List Value → AHeap → Prop := fun μ tm H => ∃ (t6_a : Option Addr), ∃ (t6_n : Nat), ∃ (t6_e : Nat), ∃ (t7_7 : Bool), ∃ (best : Int), ∃ (vat : Int), ∃ (top : Nat), ∃ (i : Int), ∃ g13 g14 g15 g37 g38 g39 g40 g41 g42 g43 g44 g45 g46 g47 g48 g49 g50 g51 g52 g53 g54 g55 g56 g57 g58 g59 g60 g61 g62 g63 g64 g65 g66 g67 g68 g69 g70 g71 g72 g73 g74 g75 g76 g77 g78 g79 g80 g81 g82 g83 g84 g85 g86 g87, tm = [.slice list_a list_n list_e, .float .f32 least, .int .i64 vmost_2, undef, undef, undef, .slice t6_a t6_n t6_e, .bool t7_7, .slice edges_a edges_n edges_e, .int .i64 best, .int .i64 vat, .float .f32 top, .int .i64 i, g13, g14, g15, g16, .slice list_a list_n list_e, .bool r1, .bool (!r1), .bool false, .float .f32 least, .bool r2, .bool (!r2), .bool (!r2), .bool false, .int .i64 vmost, .bool r3, .bool (!r3), .bool (!r3), .slice list_a list_n list_e, .int .i64 (list_n : Int), .slice (some ⟨b1, 0, none⟩) 2 1, .int .i64 vmost_2, .bool (decide ((0 : Int) < vmost_2)), g35, g36, g37, g38, g39, g40, g41, g42, g43, g44, g45, g46, g47, g48, g49, g50, g51, g52, g53, g54, g55, g56, g57, g58, g59, g60, g61, g62, g63, g64, g65, g66, g67, g68, g69, g70, g71, g72, g73, g74, g75, g76, g77, g78, g79, g80, g81, g82, g83, g84, g85, g86, g87, g88, g89, g90, g91, g92, g93, g94, g95, g96, g97, g98, g99, g100, g101, g102, g103, g104, g105, g106, g107, g108, g109, g110, g111, undef, undef, undef, undef, undef, undef, undef] ∧ Inv μ t6_a t6_n t6_e t7_7 best vat top i H
theorem spec_BreaksOf_L2 (b1 : Nat) (edges_a : Option Addr) (edges_e : Nat) (edges_n : Nat) (g100 : Value) (g101 : Value) (g102 : Value) (g103 : Value) (g104 : Value) (g105 : Value) (g106 : Value) (g107 : Value) (g108 : Value) (g109 : Value) (g110 : Value) (g111 : Value) (g16 : Value) (g35 : Value) (g36 : Value) (g88 : Value) (g89 : Value) (g90 : Value) (g91 : Value) (g92 : Value) (g93 : Value) (g94 : Value) (g95 : Value) (g96 : Value) (g97 : Value) (g98 : Value) (g99 : Value) (least : Nat) (list_a : Option Addr) (list_e : Nat) (list_n : Nat) (r1 : Bool) (r2 : Bool) (r3 : Bool) (vmost : Int) (vmost_2 : Int) {Q : Post} (Inv : Nat → (Option Addr) → Nat → Nat → Bool → Int → Int → Nat → Int → AHeap → Prop) (ν : Nat) (t6_a : Option Addr) (t6_n : Nat) (t6_e : Nat) (t7_7 : Bool) (best : Int) (vat : Int) (top : Nat) (i : Int) (g13 g14 g15 g37 g38 g39 g40 g41 g42 g43 g44 g45 g46 g47 g48 g49 g50 g51 g52 g53 g54 g55 g56 g57 g58 g59 g60 g61 g62 g63 g64 g65 g66 g67 g68 g69 g70 g71 g72 g73 g74 g75 g76 g77 g78 g79 g80 g81 g82 g83 g84 g85 g86 g87 : Value) (H : AHeap) (h0 : Inv ν t6_a t6_n t6_e t7_7 best vat top i H)
    (hs : ∀ (μ : Nat) (t6_a : Option Addr) (t6_n : Nat) (t6_e : Nat) (t7_7 : Bool) (best : Int) (vat : Int) (top : Nat) (i : Int) (g13 g14 g15 g37 g38 g39 g40 g41 g42 g43 g44 g45 g46 g47 g48 g49 g50 g51 g52 g53 g54 g55 g56 g57 g58 g59 g60 g61 g62 g63 g64 g65 g66 g67 g68 g69 g70 g71 g72 g73 g74 g75 g76 g77 g78 g79 g80 g81 g82 g83 g84 g85 g86 g87 : Value) (H : AHeap), Inv μ t6_a t6_n t6_e t7_7 best vat top i H → exK Try.prog E_spec_BreaksOf (cl (cl (cr (cl (cr (cr (cr (cl (cl (cr (cl (cl (cl (cr (cr (cr (bodyC Try.f32))))))))))))))))) [.slice list_a list_n list_e, .float .f32 least, .int .i64 vmost_2, undef, undef, undef, .slice t6_a t6_n t6_e, .bool t7_7, .slice edges_a edges_n edges_e, .int .i64 best, .int .i64 vat, .float .f32 top, .int .i64 i, g13, g14, g15, g16, .slice list_a list_n list_e, .bool r1, .bool (!r1), .bool false, .float .f32 least, .bool r2, .bool (!r2), .bool (!r2), .bool false, .int .i64 vmost, .bool r3, .bool (!r3), .bool (!r3), .slice list_a list_n list_e, .int .i64 (list_n : Int), .slice (some ⟨b1, 0, none⟩) 2 1, .int .i64 vmost_2, .bool (decide ((0 : Int) < vmost_2)), g35, g36, g37, g38, g39, g40, g41, g42, g43, g44, g45, g46, g47, g48, g49, g50, g51, g52, g53, g54, g55, g56, g57, g58, g59, g60, g61, g62, g63, g64, g65, g66, g67, g68, g69, g70, g71, g72, g73, g74, g75, g76, g77, g78, g79, g80, g81, g82, g83, g84, g85, g86, g87, g88, g89, g90, g91, g92, g93, g94, g95, g96, g97, g98, g99, g100, g101, g102, g103, g104, g105, g106, g107, g108, g109, g110, g111, undef, undef, undef, undef, undef, undef, undef] H (loopQ (spec_BreaksOf_I2 b1 edges_a edges_e edges_n g100 g101 g102 g103 g104 g105 g106 g107 g108 g109 g110 g111 g16 g35 g36 g88 g89 g90 g91 g92 g93 g94 g95 g96 g97 g98 g99 least list_a list_e list_n r1 r2 r3 vmost vmost_2 Inv) μ Q)) : loopK (exK Try.prog E_spec_BreaksOf (cl (cl (cr (cl (cr (cr (cr (cl (cl (cr (cl (cl (cl (cr (cr (cr (bodyC Try.f32)))))))))))))))))) [.slice list_a list_n list_e, .float .f32 least, .int .i64 vmost_2, undef, undef, undef, .slice t6_a t6_n t6_e, .bool t7_7, .slice edges_a edges_n edges_e, .int .i64 best, .int .i64 vat, .float .f32 top, .int .i64 i, g13, g14, g15, g16, .slice list_a list_n list_e, .bool r1, .bool (!r1), .bool false, .float .f32 least, .bool r2, .bool (!r2), .bool (!r2), .bool false, .int .i64 vmost, .bool r3, .bool (!r3), .bool (!r3), .slice list_a list_n list_e, .int .i64 (list_n : Int), .slice (some ⟨b1, 0, none⟩) 2 1, .int .i64 vmost_2, .bool (decide ((0 : Int) < vmost_2)), g35, g36, g37, g38, g39, g40, g41, g42, g43, g44, g45, g46, g47, g48, g49, g50, g51, g52, g53, g54, g55, g56, g57, g58, g59, g60, g61, g62, g63, g64, g65, g66, g67, g68, g69, g70, g71, g72, g73, g74, g75, g76, g77, g78, g79, g80, g81, g82, g83, g84, g85, g86, g87, g88, g89, g90, g91, g92, g93, g94, g95, g96, g97, g98, g99, g100, g101, g102, g103, g104, g105, g106, g107, g108, g109, g110, g111, undef, undef, undef, undef, undef, undef, undef] H Q :=
  ⟨spec_BreaksOf_I2 b1 edges_a edges_e edges_n g100 g101 g102 g103 g104 g105 g106 g107 g108 g109 g110 g111 g16 g35 g36 g88 g89 g90 g91 g92 g93 g94 g95 g96 g97 g98 g99 least list_a list_e list_n r1 r2 r3 vmost vmost_2 Inv, ν, ⟨t6_a, t6_n, t6_e, t7_7, best, vat, top, i, g13, g14, g15, g37, g38, g39, g40, g41, g42, g43, g44, g45, g46, g47, g48, g49, g50, g51, g52, g53, g54, g55, g56, g57, g58, g59, g60, g61, g62, g63, g64, g65, g66, g67, g68, g69, g70, g71, g72, g73, g74, g75, g76, g77, g78, g79, g80, g81, g82, g83, g84, g85, g86, g87, rfl, h0⟩, fun μ tm H h => by obtain ⟨t6_a, t6_n, t6_e, t7_7, best, vat, top, i, g13, g14, g15, g37, g38, g39, g40, g41, g42, g43, g44, g45, g46, g47, g48, g49, g50, g51, g52, g53, g54, g55, g56, g57, g58, g59, g60, g61, g62, g63, g64, g65, g66, g67, g68, g69, g70, g71, g72, g73, g74, g75, g76, g77, g78, g79, g80, g81, g82, g83, g84, g85, g86, g87, rfl, hI⟩ := h; exact hs μ t6_a t6_n t6_e t7_7 best vat top i g13 g14 g15 g37 g38 g39 g40 g41 g42 g43 g44 g45 g46 g47 g48 g49 g50 g51 g52 g53 g54 g55 g56 g57 g58 g59 g60 g61 g62 g63 g64 g65 g66 g67 g68 g69 g70 g71 g72 g73 g74 g75 g76 g77 g78 g79 g80 g81 g82 g83 g84 g85 g86 g87 H hI⟩
theorem spec_BreaksOf_n2 {b1 : Nat} {edges_a : Option Addr} {edges_e : Nat} {edges_n : Nat} {g100 : Value} {g101 : Value} {g102 : Value} {g103 : Value} {g104 : Value} {g105 : Value} {g106 : Value} {g107 : Value} {g108 : Value} {g109 : Value} {g110 : Value} {g111 : Value} {g16 : Value} {g35 : Value} {g36 : Value} {g88 : Value} {g89 : Value} {g90 : Value} {g91 : Value} {g92 : Value} {g93 : Value} {g94 : Value} {g95 : Value} {g96 : Value} {g97 : Value} {g98 : Value} {g99 : Value} {least : Nat} {list_a : Option Addr} {list_e : Nat} {list_n : Nat} {r1 : Bool} {r2 : Bool} {r3 : Bool} {vmost : Int} {vmost_2 : Int} {Q : Post} {Inv : Nat → (Option Addr) → Nat → Nat → Bool → Int → Int → Nat → Int → AHeap → Prop} {μ : Nat} (μ' : Nat) {t6_a : Option Addr} {t6_n : Nat} {t6_e : Nat} {t7_7 : Bool} {best : Int} {vat : Int} {top : Nat} {i : Int} {g13 g14 g15 g37 g38 g39 g40 g41 g42 g43 g44 g45 g46 g47 g48 g49 g50 g51 g52 g53 g54 g55 g56 g57 g58 g59 g60 g61 g62 g63 g64 g65 g66 g67 g68 g69 g70 g71 g72 g73 g74 g75 g76 g77 g78 g79 g80 g81 g82 g83 g84 g85 g86 g87 : Value} {H : AHeap} (hm : μ' < μ) (hI : Inv μ' t6_a t6_n t6_e t7_7 best vat top i H) : loopQ (spec_BreaksOf_I2 b1 edges_a edges_e edges_n g100 g101 g102 g103 g104 g105 g106 g107 g108 g109 g110 g111 g16 g35 g36 g88 g89 g90 g91 g92 g93 g94 g95 g96 g97 g98 g99 least list_a list_e list_n r1 r2 r3 vmost vmost_2 Inv) μ Q .normal [.slice list_a list_n list_e, .float .f32 least, .int .i64 vmost_2, undef, undef, undef, .slice t6_a t6_n t6_e, .bool t7_7, .slice edges_a edges_n edges_e, .int .i64 best, .int .i64 vat, .float .f32 top, .int .i64 i, g13, g14, g15, g16, .slice list_a list_n list_e, .bool r1, .bool (!r1), .bool false, .float .f32 least, .bool r2, .bool (!r2), .bool (!r2), .bool false, .int .i64 vmost, .bool r3, .bool (!r3), .bool (!r3), .slice list_a list_n list_e, .int .i64 (list_n : Int), .slice (some ⟨b1, 0, none⟩) 2 1, .int .i64 vmost_2, .bool (decide ((0 : Int) < vmost_2)), g35, g36, g37, g38, g39, g40, g41, g42, g43, g44, g45, g46, g47, g48, g49, g50, g51, g52, g53, g54, g55, g56, g57, g58, g59, g60, g61, g62, g63, g64, g65, g66, g67, g68, g69, g70, g71, g72, g73, g74, g75, g76, g77, g78, g79, g80, g81, g82, g83, g84, g85, g86, g87, g88, g89, g90, g91, g92, g93, g94, g95, g96, g97, g98, g99, g100, g101, g102, g103, g104, g105, g106, g107, g108, g109, g110, g111, undef, undef, undef, undef, undef, undef, undef] H := ⟨μ', hm, t6_a, t6_n, t6_e, t7_7, best, vat, top, i, g13, g14, g15, g37, g38, g39, g40, g41, g42, g43, g44, g45, g46, g47, g48, g49, g50, g51, g52, g53, g54, g55, g56, g57, g58, g59, g60, g61, g62, g63, g64, g65, g66, g67, g68, g69, g70, g71, g72, g73, g74, g75, g76, g77, g78, g79, g80, g81, g82, g83, g84, g85, g86, g87, rfl, hI⟩
theorem spec_BreaksOf_x2_2 (b1 : Nat) (edges_a : Option Addr) (edges_e : Nat) (edges_n : Nat) (g100 : Value) (g101 : Value) (g102 : Value) (g103 : Value) (g104 : Value) (g105 : Value) (g106 : Value) (g107 : Value) (g108 : Value) (g109 : Value) (g110 : Value) (g111 : Value) (g16 : Value) (g35 : Value) (g36 : Value) (g88 : Value) (g89 : Value) (g90 : Value) (g91 : Value) (g92 : Value) (g93 : Value) (g94 : Value) (g95 : Value) (g96 : Value) (g97 : Value) (g98 : Value) (g99 : Value) (least : Nat) (list_a : Option Addr) (list_e : Nat) (list_n : Nat) (r1 : Bool) (r2 : Bool) (r3 : Bool) (vmost : Int) (vmost_2 : Int) (t6_a : Option Addr) (t6_n : Nat) (t6_e : Nat) (t7_7 : Bool) (best : Int) (vat : Int) (top : Nat) (i : Int) (g13 g14 g15 g37 g38 g39 g40 g41 g42 g43 g44 g45 g46 g47 g48 g49 g50 g51 g52 g53 g54 g55 g56 g57 g58 g59 g60 g61 g62 g63 g64 g65 g66 g67 g68 g69 g70 g71 g72 g73 g74 g75 g76 g77 g78 g79 g80 g81 g82 g83 g84 g85 g86 g87 : Value) (H : AHeap)  (R : Post) {I : Nat → List Value → AHeap → Prop} {μ : Nat} : loopQ I μ (blockQ 2 (seqQ (exK Try.prog E_spec_BreaksOf (cr (cr (cr (cr (cl (cl (cr (cl (cl (cl (cr (cr (cr (bodyC Try.f32))))))))))))))) (blockQ 1 (seqQ (exK Try.prog E_spec_BreaksOf (cr (cr (cl (cl (cl (cr (cr (cr (bodyC Try.f32)))))))))) (R))))) (.exit 2) [.slice list_a list_n list_e, .float .f32 least, .int .i64 vmost_2, undef, undef, undef, .slice t6_a t6_n t6_e, .bool t7_7, .slice edges_a edges_n edges_e, .int .i64 best, .int .i64 vat, .float .f32 top, .int .i64 i, g13, g14, g15, g16, .slice list_a list_n list_e, .bool r1, .bool (!r1), .bool false, .float .f32 least, .bool r2, .bool (!r2), .bool (!r2), .bool false, .int .i64 vmost, .bool r3, .bool (!r3), .bool (!r3), .slice list_a list_n list_e, .int .i64 (list_n : Int), .slice (some ⟨b1, 0, none⟩) 2 1, .int .i64 vmost_2, .bool (decide ((0 : Int) < vmost_2)), g35, g36, g37, g38, g39, g40, g41, g42, g43, g44, g45, g46, g47, g48, g49, g50, g51, g52, g53, g54, g55, g56, g57, g58, g59, g60, g61, g62, g63, g64, g65, g66, g67, g68, g69, g70, g71, g72, g73, g74, g75, g76, g77, g78, g79, g80, g81, g82, g83, g84, g85, g86, g87, g88, g89, g90, g91, g92, g93, g94, g95, g96, g97, g98, g99, g100, g101, g102, g103, g104, g105, g106, g107, g108, g109, g110, g111, undef, undef, undef, undef, undef, undef, undef] H =
  (Br (decide ((best : Int) < 0)) (R (.exit 0) [.slice list_a list_n list_e, .float .f32 least, .int .i64 vmost_2, undef, undef, undef, .slice t6_a t6_n t6_e, .bool t7_7, .slice edges_a edges_n edges_e, .int .i64 best, .int .i64 vat, .float .f32 top, .int .i64 i, g13, g14, g15, g16, .slice list_a list_n list_e, .bool r1, .bool (!r1), .bool false, .float .f32 least, .bool r2, .bool (!r2), .bool (!r2), .bool false, .int .i64 vmost, .bool r3, .bool (!r3), .bool (!r3), .slice list_a list_n list_e, .int .i64 (list_n : Int), .slice (some ⟨b1, 0, none⟩) 2 1, .int .i64 vmost_2, .bool (decide ((0 : Int) < vmost_2)), g35, g36, g37, g38, g39, g40, g41, g42, g43, g44, g45, g46, g47, g48, g49, g50, g51, g52, g53, g54, g55, g56, g57, g58, g59, g60, g61, g62, g63, g64, g65, g66, g67, g68, g69, g70, g71, g72, g73, g74, g75, g76, g77, g78, g79, g80, g81, g82, g83, g84, g85, g86, g87, .int .i64 best, .bool (decide ((best : Int) < 0)), .bool true, undef, undef, undef, undef, .bool true, g96, g97, g98, g99, g100, g101, g102, g103, g104, g105, g106, g107, g108, g109, g110, g111, undef, undef, undef, undef, undef, undef, undef] H) (Br (!(fle .f32 least top)) (R (.exit 0) [.slice list_a list_n list_e, .float .f32 least, .int .i64 vmost_2, undef, undef, undef, .slice t6_a t6_n t6_e, .bool t7_7, .slice edges_a edges_n edges_e, .int .i64 best, .int .i64 vat, .float .f32 top, .int .i64 i, g13, g14, g15, g16, .slice list_a list_n list_e, .bool r1, .bool (!r1), .bool false, .float .f32 least, .bool r2, .bool (!r2), .bool (!r2), .bool false, .int .i64 vmost, .bool r3, .bool (!r3), .bool (!r3), .slice list_a list_n list_e, .int .i64 (list_n : Int), .slice (some ⟨b1, 0, none⟩) 2 1, .int .i64 vmost_2, .bool (decide ((0 : Int) < vmost_2)), g35, g36, g37, g38, g39, g40, g41, g42, g43, g44, g45, g46, g47, g48, g49, g50, g51, g52, g53, g54, g55, g56, g57, g58, g59, g60, g61, g62, g63, g64, g65, g66, g67, g68, g69, g70, g71, g72, g73, g74, g75, g76, g77, g78, g79, g80, g81, g82, g83, g84, g85, g86, g87, .int .i64 best, .bool (decide ((best : Int) < 0)), .bool false, .float .f32 top, .float .f32 least, .bool (fle .f32 least top), .bool (!(fle .f32 least top)), .bool (!(fle .f32 least top)), g96, g97, g98, g99, g100, g101, g102, g103, g104, g105, g106, g107, g108, g109, g110, g111, undef, undef, undef, undef, undef, undef, undef] H) (Al [] H fun b8 H6 => (0 : Int) ≤ 0 ∧ 0 ≤ IntKind.wrap .i64 (best + 1) ∧ IntKind.wrap .i64 (best + 1) ≤ (edges_n : Int) ∧ ∃ o1 w1 : List Value, ownB H6 (some ⟨b8, 0, none⟩) 0 1 1 = some o1 ∧ rdS H6 ((edges_a : Option Addr).map fun a => ⟨a.block, a.off + (0 : Int).toNat * 1, none⟩) ((((IntKind.wrap .i64 (best + 1) : Int) - 0).toNat) * 1) = some w1 ∧ ((some ⟨b8, 0, none⟩ : Option Addr) = none → 0 < (((IntKind.wrap .i64 (best + 1) : Int) - 0).toNat : Nat)) ∧ (0 : Nat) + (((IntKind.wrap .i64 (best + 1) : Int) - 0).toNat) < most ∧ Ap H6 (killB H6 (some ⟨b8, 0, none⟩) ++ [some ⟨o1 ++ w1, true⟩]) fun b9 H7 => Al [.int .i64 vat] H7 fun b10 H8 => ∃ o2 w2 : List Value, ownB H8 (some ⟨b9, 0, none⟩) (0 + (((IntKind.wrap .i64 (best + 1) : Int) - 0).toNat)) 1 1 = some o2 ∧ rdS H8 (some ⟨b10, 0, none⟩) (1 * 1) = some w2 ∧ ((some ⟨b9, 0, none⟩ : Option Addr) = none → 0 < (1 : Nat)) ∧ (0 + (((IntKind.wrap .i64 (best + 1) : Int) - 0).toNat) : Nat) + 1 < most ∧ Ap H8 (killB H8 (some ⟨b9, 0, none⟩) ++ [some ⟨o2 ++ w2, true⟩]) fun b11 H9 => (0 : Int) ≤ IntKind.wrap .i64 (best + 1) ∧ IntKind.wrap .i64 (best + 1) ≤ (edges_n : Int) ∧ (edges_n : Int) ≤ (edges_n : Int) ∧ ∃ o3 w3 : List Value, ownB H9 (some ⟨b11, 0, none⟩) ((0 + (((IntKind.wrap .i64 (best + 1) : Int) - 0).toNat)) + 1) 1 1 = some o3 ∧ rdS H9 ((edges_a : Option Addr).map fun a => ⟨a.block, a.off + (IntKind.wrap .i64 (best + 1) : Int).toNat * 1, none⟩) (((((edges_n : Int) : Int) - IntKind.wrap .i64 (best + 1)).toNat) * 1) = some w3 ∧ ((some ⟨b11, 0, none⟩ : Option Addr) = none → 0 < ((((edges_n : Int) : Int) - IntKind.wrap .i64 (best + 1)).toNat : Nat)) ∧ ((0 + (((IntKind.wrap .i64 (best + 1) : Int) - 0).toNat)) + 1 : Nat) + ((((edges_n : Int) : Int) - IntKind.wrap .i64 (best + 1)).toNat) < most ∧ Ap H9 (killB H9 (some ⟨b11, 0, none⟩) ++ [some ⟨o3 ++ w3, true⟩]) fun b12 H10 => R .normal [.slice list_a list_n list_e, .float .f32 least, .int .i64 (IntKind.wrap .i64 (vmost_2 - 1)), undef, undef, undef, .slice t6_a t6_n t6_e, .bool t7_7, .slice (some ⟨b12, 0, none⟩) (((0 + (((IntKind.wrap .i64 (best + 1) : Int) - 0).toNat)) + 1) + ((((edges_n : Int) : Int) - IntKind.wrap .i64 (best + 1)).toNat)) 1, .int .i64 best, .int .i64 vat, .float .f32 top, .int .i64 i, g13, g14, g15, .slice (some ⟨b11, 0, none⟩) ((0 + (((IntKind.wrap .i64 (best + 1) : Int) - 0).toNat)) + 1) 1, .slice list_a list_n list_e, .bool r1, .bool (!r1), .bool false, .float .f32 least, .bool r2, .bool (!r2), .bool (!r2), .bool false, .int .i64 vmost, .bool r3, .bool (!r3), .bool (!r3), .slice list_a list_n list_e, .int .i64 (list_n : Int), .slice (some ⟨b1, 0, none⟩) 2 1, .int .i64 vmost_2, .bool (decide ((0 : Int) < vmost_2)), .int .i64 vmost_2, .int .i64 (IntKind.wrap .i64 (vmost_2 - 1)), g37, g38, g39, g40, g41, g42, g43, g44, g45, g46, g47, g48, g49, g50, g51, g52, g53, g54, g55, g56, g57, g58, g59, g60, g61, g62, g63, g64, g65, g66, g67, g68, g69, g70, g71, g72, g73, g74, g75, g76, g77, g78, g79, g80, g81, g82, g83, g84, g85, g86, g87, .int .i64 best, .bool (decide ((best : Int) < 0)), .bool false, .float .f32 top, .float .f32 least, .bool (fle .f32 least top), .bool (!(fle .f32 least top)), .bool (!(fle .f32 least top)), .slice (some ⟨b8, 0, none⟩) 0 1, .slice edges_a edges_n edges_e, .int .i64 best, .int .i64 (IntKind.wrap .i64 (best + 1)), .slice ((edges_a : Option Addr).map fun a => ⟨a.block, a.off + (0 : Int).toNat * 1, none⟩) (((IntKind.wrap .i64 (best + 1) : Int) - 0).toNat) 0, .slice (some ⟨b9, 0, none⟩) (0 + (((IntKind.wrap .i64 (best + 1) : Int) - 0).toNat)) 1, .slice (some ⟨b9, 0, none⟩) (0 + (((IntKind.wrap .i64 (best + 1) : Int) - 0).toNat)) 1, .int .i64 vat, .slice (some ⟨b10, 0, none⟩) 1 1, .slice (some ⟨b11, 0, none⟩) ((0 + (((IntKind.wrap .i64 (best + 1) : Int) - 0).toNat)) + 1) 1, .slice (some ⟨b11, 0, none⟩) ((0 + (((IntKind.wrap .i64 (best + 1) : Int) - 0).toNat)) + 1) 1, .slice edges_a edges_n edges_e, .int .i64 best, .int .i64 (IntKind.wrap .i64 (best + 1)), .slice ((edges_a : Option Addr).map fun a => ⟨a.block, a.off + (IntKind.wrap .i64 (best + 1) : Int).toNat * 1, none⟩) ((((edges_n : Int) : Int) - IntKind.wrap .i64 (best + 1)).toNat) 0, .slice (some ⟨b12, 0, none⟩) (((0 + (((IntKind.wrap .i64 (best + 1) : Int) - 0).toNat)) + 1) + ((((edges_n : Int) : Int) - IntKind.wrap .i64 (best + 1)).toNat)) 1, undef, undef, undef, undef, undef, undef, undef] H10))) := by kernel_rfl
theorem spec_BreaksOf_x2_ret (b1 : Nat) (edges_a : Option Addr) (edges_e : Nat) (edges_n : Nat) (g100 : Value) (g101 : Value) (g102 : Value) (g103 : Value) (g104 : Value) (g105 : Value) (g106 : Value) (g107 : Value) (g108 : Value) (g109 : Value) (g110 : Value) (g111 : Value) (g16 : Value) (g35 : Value) (g36 : Value) (g88 : Value) (g89 : Value) (g90 : Value) (g91 : Value) (g92 : Value) (g93 : Value) (g94 : Value) (g95 : Value) (g96 : Value) (g97 : Value) (g98 : Value) (g99 : Value) (least : Nat) (list_a : Option Addr) (list_e : Nat) (list_n : Nat) (r1 : Bool) (r2 : Bool) (r3 : Bool) (vmost : Int) (vmost_2 : Int) (t6_a : Option Addr) (t6_n : Nat) (t6_e : Nat) (t7_7 : Bool) (best : Int) (vat : Int) (top : Nat) (i : Int) (g13 g14 g15 g37 g38 g39 g40 g41 g42 g43 g44 g45 g46 g47 g48 g49 g50 g51 g52 g53 g54 g55 g56 g57 g58 g59 g60 g61 g62 g63 g64 g65 g66 g67 g68 g69 g70 g71 g72 g73 g74 g75 g76 g77 g78 g79 g80 g81 g82 g83 g84 g85 g86 g87 : Value) (H : AHeap)  (R : Post) {I : Nat → List Value → AHeap → Prop} {μ : Nat} : loopQ I μ (blockQ 2 (seqQ (exK Try.prog E_spec_BreaksOf (cr (cr (cr (cr (cl (cl (cr (cl (cl (cl (cr (cr (cr (bodyC Try.f32))))))))))))))) (blockQ 1 (seqQ (exK Try.prog E_spec_BreaksOf (cr (cr (cl (cl (cl (cr (cr (cr (bodyC Try.f32)))))))))) (R))))) .ret [.slice list_a list_n list_e, .float .f32 least, .int .i64 vmost_2, undef, undef, undef, .slice t6_a t6_n t6_e, .bool t7_7, .slice edges_a edges_n edges_e, .int .i64 best, .int .i64 vat, .float .f32 top, .int .i64 i, g13, g14, g15, g16, .slice list_a list_n list_e, .bool r1, .bool (!r1), .bool false, .float .f32 least, .bool r2, .bool (!r2), .bool (!r2), .bool false, .int .i64 vmost, .bool r3, .bool (!r3), .bool (!r3), .slice list_a list_n list_e, .int .i64 (list_n : Int), .slice (some ⟨b1, 0, none⟩) 2 1, .int .i64 vmost_2, .bool (decide ((0 : Int) < vmost_2)), g35, g36, g37, g38, g39, g40, g41, g42, g43, g44, g45, g46, g47, g48, g49, g50, g51, g52, g53, g54, g55, g56, g57, g58, g59, g60, g61, g62, g63, g64, g65, g66, g67, g68, g69, g70, g71, g72, g73, g74, g75, g76, g77, g78, g79, g80, g81, g82, g83, g84, g85, g86, g87, g88, g89, g90, g91, g92, g93, g94, g95, g96, g97, g98, g99, g100, g101, g102, g103, g104, g105, g106, g107, g108, g109, g110, g111, undef, undef, undef, undef, undef, undef, undef] H =
  (R .ret [.slice list_a list_n list_e, .float .f32 least, .int .i64 vmost_2, undef, undef, undef, .slice t6_a t6_n t6_e, .bool t7_7, .slice edges_a edges_n edges_e, .int .i64 best, .int .i64 vat, .float .f32 top, .int .i64 i, g13, g14, g15, g16, .slice list_a list_n list_e, .bool r1, .bool (!r1), .bool false, .float .f32 least, .bool r2, .bool (!r2), .bool (!r2), .bool false, .int .i64 vmost, .bool r3, .bool (!r3), .bool (!r3), .slice list_a list_n list_e, .int .i64 (list_n : Int), .slice (some ⟨b1, 0, none⟩) 2 1, .int .i64 vmost_2, .bool (decide ((0 : Int) < vmost_2)), g35, g36, g37, g38, g39, g40, g41, g42, g43, g44, g45, g46, g47, g48, g49, g50, g51, g52, g53, g54, g55, g56, g57, g58, g59, g60, g61, g62, g63, g64, g65, g66, g67, g68, g69, g70, g71, g72, g73, g74, g75, g76, g77, g78, g79, g80, g81, g82, g83, g84, g85, g86, g87, g88, g89, g90, g91, g92, g93, g94, g95, g96, g97, g98, g99, g100, g101, g102, g103, g104, g105, g106, g107, g108, g109, g110, g111, undef, undef, undef, undef, undef, undef, undef] H) := by kernel_rfl
theorem E_spec_BreaksOf_ok : ∀ g, FnOk Try.prog g (E_spec_BreaksOf g) := FnOk.envOf (by
  intro x hx
  simp only [List.mem_cons, List.not_mem_nil, or_false] at hx
  rcases hx with rfl | rfl | rfl | rfl
  · exact spec_l03Long_ok
  · exact spec_l01Finite_ok
  · exact spec_l00In_ok
  · exact spec_l05Break_ok)
set_option maxHeartbeats 1000000 in
theorem spec_BreaksOf_main (list_a : Option Addr) (list_n : Nat) (list_e : Nat) (least : Nat) (vmost : Int) (H : AHeap) (K : Value → AHeap → Prop) (h : T_spec_BreaksOf list_a list_n list_e least vmost H fun (r1_a : Option Addr) (r1_n : Nat) (r1_e : Nat) (r2 : Bool) (H' : AHeap) => K (.tuple #[.slice r1_a r1_n r1_e, .bool r2]) H') : bodyK Try.prog E_spec_BreaksOf Try.f32 [.slice list_a list_n list_e, .float .f32 least, .int .i64 vmost] H K := by
  rw [spec_BreaksOf_vc]
  obtain ⟨l_list, i_list, bd_199, hk⟩ := h
  obtain rfl := i_list.eqn
  have e : (p_spec_BreaksOf l_list least vmost) = _ := rfl
  have e := e.trans (p_spec_BreaksOf_eq l_list least vmost)
  have g0 := Grow.refl H
  refine T_spec_l03Long_i ⟨_, (i_list.grow g0), (by first | omega | (simp only [List.length_set, List.length_replicate, List.length_append, List.length_cons, List.length_nil, List.length_take, List.length_drop, marks_length]; done) | (simp only [List.length_set, List.length_replicate, List.length_append, List.length_cons, List.length_nil, List.length_take, List.length_drop, marks_length]; omega)), ?_⟩
  refine Br.intro (fun c_1 => ?_) (fun c_1 => ?_)
  · have e := e.trans (cond_t c_1)
    have c_1n := nf_of_t c_1
    rw [e] at hk
    exact hk _ _ _ H g0 (OwnS.nil _ _ _ _)
  · have e := e.trans (cond_f c_1)
    have c_1n := nt_of_f c_1
    have c_1n' := spec_l03Long_t c_1n
    refine T_spec_l01Finite_i ?_
    refine Br.intro (fun c_2 => ?_) (fun c_2 => ?_)
    · have e := e.trans (cond_t c_2)
      have c_2n := nf_of_t c_2
      rw [e] at hk
      exact hk _ _ _ H g0 (OwnS.nil _ _ _ _)
    · have e := e.trans (cond_f c_2)
      have c_2n := nt_of_f c_2
      refine T_spec_l00In_i ?_
      refine Br.intro (fun c_3 => ?_) (fun c_3 => ?_)
      · have e := e.trans (cond_t c_3)
        have c_3n := nf_of_t c_3
        rw [e] at hk
        exact hk _ _ _ H g0 (OwnS.nil _ _ _ _)
      · have e := e.trans (cond_f c_3)
        have c_3n := nt_of_f c_3
        have c_3n' := spec_l00In_t c_3n
        refine Al.intro (fun b_4 H_1 hb_5 hl_6 g_7 o_8 => ?_)
        have o_8 : Own H_1 b_4 (([(0 : Int), ((l_list.length : Int) : Int)]).map fI) := o_8
        have l_10 := g_7.1
        have g_11 := g0.trans g_7
        have l_12 := g_11.1
        have w_198 := o_8.lt
        refine spec_BreaksOf_L1 _ _ _ _ _ _ _ _ _ (fun (μ : Nat) (vmost_2 : Int) (t6_a : Option Addr) (t6_n : Nat) (t6_e : Nat) (t7 : Bool) (edges_a : Option Addr) (edges_n : Nat) (edges_e : Nat) (H_2 : AHeap) => ∃ (l_edges : List Int), ∃ (b_13 : Nat), t6_a = none ∧ t6_n = 0 ∧ t6_e = 0 ∧ edges_a = some ⟨b_13, 0, none⟩ ∧ edges_n = l_edges.length ∧ edges_e = 1 ∧ Own H_2 b_13 (l_edges.map fI) ∧ Grow H H_2 ∧ H.length ≤ b_13 ∧ (vmost_2 ≤ vmost ∨ 0 ≤ vmost_2) ∧ Cut l_list.length l_edges ∧ 2 ≤ (l_edges.length : Int) ∧ (l_edges.length : Int) ≤ 18 - vmost_2 ∧ 0 ≤ vmost_2 ∧ vmost_2 - 0 ≤ (μ : Int) ∧ p_spec_BreaksOf l_list least vmost = p_spec_BreaksOf_l1 l_list least vmost (μ + 1) vmost_2 t7 l_edges) (Int.toNat (vmost - 0)) _ _ _ _ _ _ _ _ _ _ _ _ _ _ _ _ _ _ _ _ _ _ _ _ _ _ _ _ _ _ _ _ _ _ _ _ _ _ _ _ _ _ _ _ _ _ _ _ _ _ _ _ _ _ _ _ _ _ _ _ _ _ _ _ _ _ _ _ _ _ _ _ _ _ _ _ _ _ _ _ _ _ _ _ _ _ _ _ _ _ _ _ _ _ _ H_1 ?_ ?_
        · exact ⟨_, _, rfl, rfl, rfl, rfl, (by first | rfl | omega | (simp only [List.length_set]; done) | (simp only [List.length_set, List.length_replicate]; omega)), rfl, o_8, g_11, (by omega), (by first | omega | (simp; done) | (simp; omega) | (first | omega | exact cut_app (cut_app (cut_app (cut_nil _) (cut_take (cut_drop (by assumption) _) _)) (cut_one (by omega) (by omega))) (cut_take (cut_drop (by assumption) _) _) | exact cut_app (cut_one (by omega) (by omega)) (cut_one (by omega) (by omega)) | (simp only [List.length_append, List.length_take, List.length_drop, List.length_cons, List.length_nil]; omega))), (by first | omega | (simp; done) | (simp; omega) | (first | omega | exact cut_app (cut_app (cut_app (cut_nil _) (cut_take (cut_drop (by assumption) _) _)) (cut_one (by omega) (by omega))) (cut_take (cut_drop (by assumption) _) _) | exact cut_app (cut_one (by omega) (by omega)) (cut_one (by omega) (by omega)) | (simp only [List.length_append, List.length_take, List.length_drop, List.length_cons, List.length_nil]; omega))), (by first | omega | (simp; done) | (simp; omega) | (first | omega | exact cut_app (cut_app (cut_app (cut_nil _) (cut_take (cut_drop (by assumption) _) _)) (cut_one (by omega) (by omega))) (cut_take (cut_drop (by assumption) _) _) | exact cut_app (cut_one (by omega) (by omega)) (cut_one (by omega) (by omega)) | (simp only [List.length_append, List.length_take, List.length_drop, List.length_cons, List.length_nil]; omega))), (by first | omega | (simp; done) | (simp; omega) | (first | omega | exact cut_app (cut_app (cut_app (cut_nil _) (cut_take (cut_drop (by assumption) _) _)) (cut_one (by omega) (by omega))) (cut_take (cut_drop (by assumption) _) _) | exact cut_app (cut_one (by omega) (by omega)) (cut_one (by omega) (by omega)) | (simp only [List.length_append, List.length_take, List.length_drop, List.length_cons, List.length_nil]; omega))), (by first | omega | (simp; done) | (simp; omega) | (first | omega | exact cut_app (cut_app (cut_app (cut_nil _) (cut_take (cut_drop (by assumption) _) _)) (cut_one (by omega) (by omega))) (cut_take (cut_drop (by assumption) _) _) | exact cut_app (cut_one (by omega) (by omega)) (cut_one (by omega) (by omega)) | (simp only [List.length_append, List.length_take, List.length_drop, List.length_cons, List.length_nil]; omega))), (by omega), e⟩
        · intro μ vmost_2 t6_a t6_n t6_e t7 edges_a edges_n edges_e g9 g10 g11 g12 g13 g14 g15 g16 g33 g34 g35 g36 g37 g38 g39 g40 g41 g42 g43 g44 g45 g46 g47 g48 g49 g50 g51 g52 g53 g54 g55 g56 g57 g58 g59 g60 g61 g62 g63 g64 g65 g66 g67 g68 g69 g70 g71 g72 g73 g74 g75 g76 g77 g78 g79 g80 g81 g82 g83 g84 g85 g86 g87 g88 g89 g90 g91 g92 g93 g94 g95 g96 g97 g98 g99 g100 g101 g102 g103 g104 g105 g106 g107 g108 g109 g110 g111 H_2 hI
          obtain ⟨l_edges, b_13, rfl, rfl, rfl, rfl, rfl, rfl, o_14, g_15, l_16, v_17, v_18, v_19, v_20, v_21, hμ, e⟩ := hI
          rw [spec_BreaksOf_r1]
          have e := e.trans (p_spec_BreaksOf_l1_s l_list least vmost μ vmost_2 t7 l_edges)
          have w_22 := o_14.lt
          have l_23 := g_15.1
          refine Br.intro (fun c_24 => ?_) (fun c_24 => ?_)
          · have e := e.trans (cond_t c_24)
            have c_24' := of_decide_eq_true c_24
            refine spec_BreaksOf_L2 _ _ _ _ _ _ _ _ _ _ _ _ _ _ _ _ _ _ _ _ _ _ _ _ _ _ _ _ _ _ _ _ _ _ _ _ _ _ _ _ (fun (μ2 : Nat) (t6_a : Option Addr) (t6_n : Nat) (t6_e : Nat) (t7_7 : Bool) (best : Int) (vat : Int) (top : Nat) (i : Int) (H_3 : AHeap) => t6_a = none ∧ t6_n = 0 ∧ t6_e = 0 ∧ Own H_3 b_13 ((l_edges).map fI) ∧ Grow H H_3 ∧ 0 ≤ i ∧ best < i ∧ i < (l_edges.length : Int) ∧ -1 ≤ best ∧ 0 ≤ vat ∧ vat ≤ (l_list.length : Int) ∧ (l_edges.length : Int) + 1 - i ≤ (μ2 : Int) ∧ p_spec_BreaksOf l_list least vmost = p_spec_BreaksOf_l2 l_list least vmost vmost_2 t7 l_edges (fun (t7_7 : Bool) (best : Int) (vat : Int) (top : Nat) (i : Int) => (bif decide ((best : Int) < 0) then ((([] : List Int) ++ (((l_edges).drop (1 : Int).toNat).take ((((l_edges.length : Int) - 1) : Int) - 1).toNat)), true) else (bif !(fle .f32 least top) then ((([] : List Int) ++ (((l_edges).drop (1 : Int).toNat).take ((((l_edges.length : Int) - 1) : Int) - 1).toNat)), true) else (p_spec_BreaksOf_l1 l_list least vmost μ (vmost_2 - 1) t7_7 ((((([] : List Int) ++ (((l_edges).drop (0 : Int).toNat).take (((best + 1) : Int) - 0).toNat)) ++ [(vat : Int)]) ++ (((l_edges).drop ((best + 1) : Int).toNat).take (((l_edges.length : Int) : Int) - (best + 1)).toNat))))))) (μ2 + 1) t7_7 best vat top i) (Int.toNat ((l_edges.length : Int) + 1 - (0 : Int))) _ _ _ _ _ _ _ _ _ _ _ _ _ _ _ _ _ _ _ _ _ _ _ _ _ _ _ _ _ _ _ _ _ _ _ _ _ _ _ _ _ _ _ _ _ _ _ _ _ _ _ _ _ _ _ _ _ _ _ _ _ _ H_2 ?_ ?_
            · exact ⟨rfl, rfl, rfl, o_14, g_15, (by first | omega | (simp; done) | (simp; omega)), (by first | omega | (simp; done) | (simp; omega)), (by first | omega | (simp; done) | (simp; omega)), (by first | omega | (simp; done) | (simp; omega)), (by first | omega | (simp; done) | (simp; omega)), (by first | omega | (simp; done) | (simp; omega)), (by omega), e⟩
            · intro μ2 t6_a t6_n t6_e t7_7 best vat top i g13 g14 g15 g37 g38 g39 g40 g41 g42 g43 g44 g45 g46 g47 g48 g49 g50 g51 g52 g53 g54 g55 g56 g57 g58 g59 g60 g61 g62 g63 g64 g65 g66 g67 g68 g69 g70 g71 g72 g73 g74 g75 g76 g77 g78 g79 g80 g81 g82 g83 g84 g85 g86 g87 H_3 hI
              obtain ⟨rfl, rfl, rfl, o_25, g_26, v_27, v_28, v_29, v_30, v_31, v_32, hμ, e⟩ := hI
              rw [spec_BreaksOf_r2]
              have e := e.trans (p_spec_BreaksOf_l2_s l_list least vmost vmost_2 t7 l_edges (fun (t7_7 : Bool) (best : Int) (vat : Int) (top : Nat) (i : Int) => (bif decide ((best : Int) < 0) then ((([] : List Int) ++ (((l_edges).drop (1 : Int).toNat).take ((((l_edges.length : Int) - 1) : Int) - 1).toNat)), true) else (bif !(fle .f32 least top) then ((([] : List Int) ++ (((l_edges).drop (1 : Int).toNat).take ((((l_edges.length : Int) - 1) : Int) - 1).toNat)), true) else (p_spec_BreaksOf_l1 l_list least vmost μ (vmost_2 - 1) t7_7 ((((([] : List Int) ++ (((l_edges).drop (0 : Int).toNat).take (((best + 1) : Int) - 0).toNat)) ++ [(vat : Int)]) ++ (((l_edges).drop ((best + 1) : Int).toNat).take (((l_edges.length : Int) : Int) - (best + 1)).toNat))))))) μ2 t7_7 best vat top i)
              have hz := List.length_take_le (l_edges.getD (i + 1).toNat 0 - l_edges.getD i.toNat 0).toNat (l_list.drop (l_edges.getD i.toNat 0).toNat)
              have w_33 := o_25.lt
              have l_34 := g_26.1
              rw [show IntKind.wrap .i64 (i + 1) = (i + 1) from wrap64 (by omega) (by omega)]
              refine Br.intro (fun c_35 => ?_) (fun c_35 => ?_)
              · have e := e.trans (cond_t c_35)
                have c_35' := of_decide_eq_true c_35
                refine ⟨by omega, (by omega), _, _, rfl, ?_⟩
                refine ⟨((l_edges).getD ((i + 1) : Int).toNat 0), o_25.rd (by first | omega | (simp only [List.length_set, List.length_replicate, List.length_append, List.length_cons, List.length_nil, List.length_take, List.length_drop, marks_length]; done) | (simp only [List.length_set, List.length_replicate, List.length_append, List.length_cons, List.length_nil, List.length_take, List.length_drop, marks_length]; omega)) _, ?_⟩
                have z_36 := cut_at (by assumption) ((i + 1) : Int)
                refine ⟨by omega, (by omega), _, _, rfl, ?_⟩
                refine ⟨((l_edges).getD (i : Int).toNat 0), o_25.rd (by first | omega | (simp only [List.length_set, List.length_replicate, List.length_append, List.length_cons, List.length_nil, List.length_take, List.length_drop, marks_length]; done) | (simp only [List.length_set, List.length_replicate, List.length_append, List.length_cons, List.length_nil, List.length_take, List.length_drop, marks_length]; omega)) _, ?_⟩
                have z_37 := cut_at (by assumption) (i : Int)
                rw [show IntKind.wrap .i64 ((((l_edges).getD ((i + 1) : Int).toNat 0)) - (((l_edges).getD (i : Int).toNat 0))) = ((((l_edges).getD ((i + 1) : Int).toNat 0)) - (((l_edges).getD (i : Int).toNat 0))) from wrap64 (by omega) (by omega)]
                refine Br.intro (fun c_38 => ?_) (fun c_38 => ?_)
                · have e := e.trans (cond_t c_38)
                  have c_38' := of_decide_eq_true c_38
                  refine spec_BreaksOf_n2 (μ2 - 1) (by first | omega) ⟨rfl, rfl, rfl, o_25, g_26, (by first | omega | (simp only [List.length_append, List.length_cons, List.length_nil, List.length_set]; done) | (simp only [List.length_append, List.length_cons, List.length_nil, List.length_set]; omega)), (by first | omega | (simp only [List.length_append, List.length_cons, List.length_nil, List.length_set]; done) | (simp only [List.length_append, List.length_cons, List.length_nil, List.length_set]; omega)), (by first | omega | (simp only [List.length_append, List.length_cons, List.length_nil, List.length_set]; done) | (simp only [List.length_append, List.length_cons, List.length_nil, List.length_set]; omega)), (by first | omega | (simp only [List.length_append, List.length_cons, List.length_nil, List.length_set]; done) | (simp only [List.length_append, List.length_cons, List.length_nil, List.length_set]; omega)), (by first | omega | (simp only [List.length_append, List.length_cons, List.length_nil, List.length_set]; done) | (simp only [List.length_append, List.length_cons, List.length_nil, List.length_set]; omega)), (by first | omega | (simp only [List.length_append, List.length_cons, List.length_nil, List.length_set]; done) | (simp only [List.length_append, List.length_cons, List.length_nil, List.length_set]; omega)), (by first | omega), (by rw [show μ2 - 1 + 1 = μ2 from by first | omega]; exact e)⟩
                · have e := e.trans (cond_f c_38)
                  have c_38' := of_decide_eq_false c_38
                  refine ⟨by omega, (by omega), _, _, rfl, ?_⟩
                  refine ⟨((l_edges).getD (i : Int).toNat 0), o_25.rd (by first | omega | (simp only [List.length_set, List.length_replicate, List.length_append, List.length_cons, List.length_nil, List.length_take, List.length_drop, marks_length]; done) | (simp only [List.length_set, List.length_replicate, List.length_append, List.length_cons, List.length_nil, List.length_take, List.length_drop, marks_length]; omega)) _, ?_⟩
                  have z_39 := cut_at (by assumption) (i : Int)
                  refine ⟨by omega, (by omega), _, _, rfl, ?_⟩
                  refine ⟨((l_edges).getD ((i + 1) : Int).toNat 0), o_25.rd (by first | omega | (simp only [List.length_set, List.length_replicate, List.length_append, List.length_cons, List.length_nil, List.length_take, List.length_drop, marks_length]; done) | (simp only [List.length_set, List.length_replicate, List.length_append, List.length_cons, List.length_nil, List.length_take, List.length_drop, marks_length]; omega)) _, ?_⟩
                  have z_40 := cut_at (by assumption) ((i + 1) : Int)
                  refine ⟨by omega, by omega, by omega, ?_⟩
                  have i_41 := sub_isl i_list (lo := ((l_edges).getD (i : Int).toNat 0)) (hi := ((l_edges).getD ((i + 1) : Int).toNat 0)) (by omega) (by omega) (by omega)
                  refine T_spec_l05Break_i ⟨_, (i_41.grow g_26), (by first | omega | (simp only [List.length_set, List.length_replicate, List.length_append, List.length_cons, List.length_nil, List.length_take, List.length_drop, marks_length]; done) | (simp only [List.length_set, List.length_replicate, List.length_append, List.length_cons, List.length_nil, List.length_take, List.length_drop, marks_length]; omega)), ?_⟩
                  have z_42 := spec_l05Break_at ((((l_list).drop (((l_edges).getD (i : Int).toNat 0) : Int).toNat).take ((((l_edges).getD ((i + 1) : Int).toNat 0) : Int) - ((l_edges).getD (i : Int).toNat 0)).toNat))
                  refine Br.intro (fun c_43 => ?_) (fun c_43 => ?_)
                  · have e := e.trans (cond_t c_43)
                    have c_43n := nf_of_t c_43
                    rw [spec_BreaksOf_x2_ret]
                    rw [spec_BreaksOf_x1_ret]
                    rw [e] at hk
                    exact hk _ _ _ H_3 g_26 (OwnS.nil _ _ _ _)
                  · have e := e.trans (cond_f c_43)
                    have c_43n := nt_of_f c_43
                    refine Br.intro (fun c_44 => ?_) (fun c_44 => ?_)
                    · have e := e.trans (cond_t c_44)
                      have c_44' := of_decide_eq_true c_44
                      refine ⟨by omega, (by omega), _, _, rfl, ?_⟩
                      refine ⟨((l_edges).getD (i : Int).toNat 0), o_25.rd (by first | omega | (simp only [List.length_set, List.length_replicate, List.length_append, List.length_cons, List.length_nil, List.length_take, List.length_drop, marks_length]; done) | (simp only [List.length_set, List.length_replicate, List.length_append, List.length_cons, List.length_nil, List.length_take, List.length_drop, marks_length]; omega)) _, ?_⟩
                      have z_45 := cut_at (by assumption) (i : Int)
                      rw [show IntKind.wrap .i64 ((((l_edges).getD (i : Int).toNat 0)) + ((p_spec_l05Break ((((l_list).drop (((l_edges).getD (i : Int).toNat 0) : Int).toNat).take ((((l_edges).getD ((i + 1) : Int).toNat 0) : Int) - ((l_edges).getD (i : Int).toNat 0)).toNat))).1)) = ((((l_edges).getD (i : Int).toNat 0)) + ((p_spec_l05Break ((((l_list).drop (((l_edges).getD (i : Int).toNat 0) : Int).toNat).take ((((l_edges).getD ((i + 1) : Int).toNat 0) : Int) - ((l_edges).getD (i : Int).toNat 0)).toNat))).1)) from wrap64 (by omega) (by omega)]
                      refine spec_BreaksOf_n2 (μ2 - 1) (by first | omega) ⟨rfl, rfl, rfl, o_25, g_26, (by first | omega | (simp only [List.length_append, List.length_cons, List.length_nil, List.length_set]; done) | (simp only [List.length_append, List.length_cons, List.length_nil, List.length_set]; omega)), (by first | omega | (simp only [List.length_append, List.length_cons, List.length_nil, List.length_set]; done) | (simp only [List.length_append, List.length_cons, List.length_nil, List.length_set]; omega)), (by first | omega | (simp only [List.length_append, List.length_cons, List.length_nil, List.length_set]; done) | (simp only [List.length_append, List.length_cons, List.length_nil, List.length_set]; omega)), (by first | omega | (simp only [List.length_append, List.length_cons, List.length_nil, List.length_set]; done) | (simp only [List.length_append, List.length_cons, List.length_nil, List.length_set]; omega)), (by first | omega | (simp only [List.length_append, List.length_cons, List.length_nil, List.length_set]; done) | (simp only [List.length_append, List.length_cons, List.length_nil, List.length_set]; omega)), (by first | omega | (simp only [List.length_append, List.length_cons, List.length_nil, List.length_set]; done) | (simp only [List.length_append, List.length_cons, List.length_nil, List.length_set]; omega)), (by first | omega), (by rw [show μ2 - 1 + 1 = μ2 from by first | omega]; exact e)⟩
                    · have e := e.trans (cond_f c_44)
                      have c_44' := of_decide_eq_false c_44
                      refine Br.intro (fun c_46 => ?_) (fun c_46 => ?_)
                      · have e := e.trans (cond_t c_46)
                        refine ⟨by omega, (by omega), _, _, rfl, ?_⟩
                        refine ⟨((l_edges).getD (i : Int).toNat 0), o_25.rd (by first | omega | (simp only [List.length_set, List.length_replicate, List.length_append, List.length_cons, List.length_nil, List.length_take, List.length_drop, marks_length]; done) | (simp only [List.length_set, List.length_replicate, List.length_append, List.length_cons, List.length_nil, List.length_take, List.length_drop, marks_length]; omega)) _, ?_⟩
                        have z_47 := cut_at (by assumption) (i : Int)
                        rw [show IntKind.wrap .i64 ((((l_edges).getD (i : Int).toNat 0)) + ((p_spec_l05Break ((((l_list).drop (((l_edges).getD (i : Int).toNat 0) : Int).toNat).take ((((l_edges).getD ((i + 1) : Int).toNat 0) : Int) - ((l_edges).getD (i : Int).toNat 0)).toNat))).1)) = ((((l_edges).getD (i : Int).toNat 0)) + ((p_spec_l05Break ((((l_list).drop (((l_edges).getD (i : Int).toNat 0) : Int).toNat).take ((((l_edges).getD ((i + 1) : Int).toNat 0) : Int) - ((l_edges).getD (i : Int).toNat 0)).toNat))).1)) from wrap64 (by omega) (by omega)]
                        refine spec_BreaksOf_n2 (μ2 - 1) (by first | omega) ⟨rfl, rfl, rfl, o_25, g_26, (by first | omega | (simp only [List.length_append, List.length_cons, List.length_nil, List.length_set]; done) | (simp only [List.length_append, List.length_cons, List.length_nil, List.length_set]; omega)), (by first | omega | (simp only [List.length_append, List.length_cons, List.length_nil, List.length_set]; done) | (simp only [List.length_append, List.length_cons, List.length_nil, List.length_set]; omega)), (by first | omega | (simp only [List.length_append, List.length_cons, List.length_nil, List.length_set]; done) | (simp only [List.length_append, List.length_cons, List.length_nil, List.length_set]; omega)), (by first | omega | (simp only [List.length_append, List.length_cons, List.length_nil, List.length_set]; done) | (simp only [List.length_append, List.length_cons, List.length_nil, List.length_set]; omega)), (by first | omega | (simp only [List.length_append, List.length_cons, List.length_nil, List.length_set]; done) | (simp only [List.length_append, List.length_cons, List.length_nil, List.length_set]; omega)), (by first | omega | (simp only [List.length_append, List.length_cons, List.length_nil, List.length_set]; done) | (simp only [List.length_append, List.length_cons, List.length_nil, List.length_set]; omega)), (by first | omega), (by rw [show μ2 - 1 + 1 = μ2 from by first | omega]; exact e)⟩
                      · have e := e.trans (cond_f c_46)
                        refine spec_BreaksOf_n2 (μ2 - 1) (by first | omega) ⟨rfl, rfl, rfl, o_25, g_26, (by first | omega | (simp only [List.length_append, List.length_cons, List.length_nil, List.length_set]; done) | (simp only [List.length_append, List.length_cons, List.length_nil, List.length_set]; omega)), (by first | omega | (simp only [List.length_append, List.length_cons, List.length_nil, List.length_set]; done) | (simp only [List.length_append, List.length_cons, List.length_nil, List.length_set]; omega)), (by first | omega | (simp only [List.length_append, List.length_cons, List.length_nil, List.length_set]; done) | (simp only [List.length_append, List.length_cons, List.length_nil, List.length_set]; omega)), (by first | omega | (simp only [List.length_append, List.length_cons, List.length_nil, List.length_set]; done) | (simp only [List.length_append, List.length_cons, List.length_nil, List.length_set]; omega)), (by first | omega | (simp only [List.length_append, List.length_cons, List.length_nil, List.length_set]; done) | (simp only [List.length_append, List.length_cons, List.length_nil, List.length_set]; omega)), (by first | omega | (simp only [List.length_append, List.length_cons, List.length_nil, List.length_set]; done) | (simp only [List.length_append, List.length_cons, List.length_nil, List.length_set]; omega)), (by first | omega), (by rw [show μ2 - 1 + 1 = μ2 from by first | omega]; exact e)⟩
              · have e := e.trans (cond_f c_35)
                have c_35' := of_decide_eq_false c_35
                rw [spec_BreaksOf_x2_2]
                refine Br.intro (fun c_48 => ?_) (fun c_48 => ?_)
                · have e := e.trans (cond_t c_48)
                  have c_48' := of_decide_eq_true c_48
                  rw [spec_BreaksOf_x1_0]
                  refine Al.intro (fun b_49 H_4 hb_50 hl_51 g_52 o_53 => ?_)
                  have o_53 : Own H_4 b_49 ((([] : List Int)).map fI) := o_53
                  have l_55 := g_52.1
                  have g_56 := g_26.trans g_52
                  have l_57 := g_56.1
                  have o_58 := o_25.grow g_52
                  have w_59 := o_58.lt
                  have w_74 := o_53.lt
                  rw [show IntKind.wrap .i64 ((l_edges.length : Int) - 1) = ((l_edges.length : Int) - 1) from wrap64 (by omega) (by omega)]
                  refine ⟨by omega, by omega, by omega, ?_⟩
                  have i_60 := sub_isl (o_58.isL (by first | rfl | omega | (simp only [List.length_set]; done) | (simp only [List.length_set, List.length_replicate]; omega))) (lo := 1) (hi := ((l_edges.length : Int) - 1)) (by omega) (by omega) (by omega)
                  have g_61 := Grow.refl H_4
                  refine ⟨_, _, o_53.ownB (by first | (simp only [List.length_map, List.length_cons, List.length_nil, List.length_append]; done) | (simp only [List.length_map, List.length_cons, List.length_nil, List.length_append]; omega) | (simp only [List.length_map, List.length_cons, List.length_nil, List.length_append, List.length_take, List.length_drop]; omega)) rfl, (isl_rdS (i_60.grow g_61)), (fun h => by cases h), (by have := most_eq; omega), ?_⟩
                  refine Ap.app o_53 rfl rfl (fun b_66 H_5 q_72 hl_62 o_63 k_64 => ?_)
                  have o_63 := map_snoc o_63
                  have l_67 := k_64.1
                  have g_68 := g_56.keep (b := b_49) (by omega) k_64
                  have l_69 := g_68.1
                  have o_70 := o_58.keep (by omega) k_64
                  have w_71 := o_70.lt
                  have w_73 := o_63.lt
                  rw [e] at hk
                  exact hk _ _ _ H_5 g_68 (o_63.ownS (by first | omega | (simp only [List.length_append, List.length_cons, List.length_nil]; done) | (simp only [List.length_append, List.length_cons, List.length_nil]; omega) | (simp only [List.length_append, List.length_cons, List.length_nil, List.length_take, List.length_drop]; omega)) (by omega))
                · have e := e.trans (cond_f c_48)
                  have c_48' := of_decide_eq_false c_48
                  refine Br.intro (fun c_75 => ?_) (fun c_75 => ?_)
                  · have e := e.trans (cond_t c_75)
                    have c_75n := nf_of_t c_75
                    rw [spec_BreaksOf_x1_0]
                    refine Al.intro (fun b_76 H_6 hb_77 hl_78 g_79 o_80 => ?_)
                    have o_80 : Own H_6 b_76 ((([] : List Int)).map fI) := o_80
                    have l_82 := g_79.1
                    have g_83 := g_26.trans g_79
                    have l_84 := g_83.1
                    have o_85 := o_25.grow g_79
                    have w_86 := o_85.lt
                    have w_101 := o_80.lt
                    rw [show IntKind.wrap .i64 ((l_edges.length : Int) - 1) = ((l_edges.length : Int) - 1) from wrap64 (by omega) (by omega)]
                    refine ⟨by omega, by omega, by omega, ?_⟩
                    have i_87 := sub_isl (o_85.isL (by first | rfl | omega | (simp only [List.length_set]; done) | (simp only [List.length_set, List.length_replicate]; omega))) (lo := 1) (hi := ((l_edges.length : Int) - 1)) (by omega) (by omega) (by omega)
                    have g_88 := Grow.refl H_6
                    refine ⟨_, _, o_80.ownB (by first | (simp only [List.length_map, List.length_cons, List.length_nil, List.length_append]; done) | (simp only [List.length_map, List.length_cons, List.length_nil, List.length_append]; omega) | (simp only [List.length_map, List.length_cons, List.length_nil, List.length_append, List.length_take, List.length_drop]; omega)) rfl, (isl_rdS (i_87.grow g_88)), (fun h => by cases h), (by have := most_eq; omega), ?_⟩
                    refine Ap.app o_80 rfl rfl (fun b_93 H_7 q_99 hl_89 o_90 k_91 => ?_)
                    have o_90 := map_snoc o_90
                    have l_94 := k_91.1
                    have g_95 := g_83.keep (b := b_76) (by omega) k_91
                    have l_96 := g_95.1
                    have o_97 := o_85.keep (by omega) k_91
                    have w_98 := o_97.lt
                    have w_100 := o_90.lt
                    rw [e] at hk
                    exact hk _ _ _ H_7 g_95 (o_90.ownS (by first | omega | (simp only [List.length_append, List.length_cons, List.length_nil]; done) | (simp only [List.length_append, List.length_cons, List.length_nil]; omega) | (simp only [List.length_append, List.length_cons, List.length_nil, List.length_take, List.length_drop]; omega)) (by omega))
                  · have e := e.trans (cond_f c_75)
                    have c_75n := nt_of_f c_75
                    refine Al.intro (fun b_102 H_8 hb_103 hl_104 g_105 o_106 => ?_)
                    have o_106 : Own H_8 b_102 ((([] : List Int)).map fI) := o_106
                    have l_108 := g_105.1
                    have g_109 := g_26.trans g_105
                    have l_110 := g_109.1
                    have o_111 := o_25.grow g_105
                    have w_112 := o_111.lt
                    have w_171 := o_106.lt
                    rw [show IntKind.wrap .i64 (best + 1) = (best + 1) from wrap64 (by omega) (by omega)]
                    refine ⟨by omega, by omega, by omega, ?_⟩
                    have i_113 := sub_isl (o_111.isL (by first | rfl | omega | (simp only [List.length_set]; done) | (simp only [List.length_set, List.length_replicate]; omega))) (lo := 0) (hi := (best + 1)) (by omega) (by omega) (by omega)
                    have g_114 := Grow.refl H_8
                    refine ⟨_, _, o_106.ownB (by first | (simp only [List.length_map, List.length_cons, List.length_nil, List.length_append]; done) | (simp only [List.length_map, List.length_cons, List.length_nil, List.length_append]; omega) | (simp only [List.length_map, List.length_cons, List.length_nil, List.length_append, List.length_take, List.length_drop]; omega)) rfl, (isl_rdS (i_113.grow g_114)), (fun h => by cases h), (by have := most_eq; omega), ?_⟩
                    refine Ap.app o_106 rfl rfl (fun b_119 H_9 q_169 hl_115 o_116 k_117 => ?_)
                    have o_116 := map_snoc o_116
                    have l_120 := k_117.1
                    have g_121 := g_109.keep (b := b_102) (by omega) k_117
                    have l_122 := g_121.1
                    have o_123 := o_111.keep (by omega) k_117
                    have w_124 := o_123.lt
                    have w_170 := o_116.lt
                    refine Al.intro (fun b_125 H_10 hb_126 hl_127 g_128 o_129 => ?_)
                    have o_129 : Own H_10 b_125 (([(vat : Int)]).map fI) := o_129
                    have l_131 := g_128.1
                    have g_132 := g_121.trans g_128
                    have l_133 := g_132.1
                    have o_134 := o_123.grow g_128
                    have w_135 := o_134.lt
                    have o_136 := o_116.grow g_128
                    have w_137 := o_136.lt
                    have w_168 := o_129.lt
                    refine ⟨_, _, o_136.ownB (by first | (simp only [List.length_map, List.length_cons, List.length_nil, List.length_append]; done) | (simp only [List.length_map, List.length_cons, List.length_nil, List.length_append]; omega) | (simp only [List.length_map, List.length_cons, List.length_nil, List.length_append, List.length_take, List.length_drop]; omega)) rfl, (isl_rdS (o_129.isL (by first | rfl | omega | (simp only [List.length_set]; done) | (simp only [List.length_set, List.length_replicate]; omega)))), (fun h => by cases h), (by have := most_eq; omega), ?_⟩
                    refine Ap.app o_136 rfl rfl (fun b_142 H_11 q_166 hl_138 o_139 k_140 => ?_)
                    have o_139 := map_snoc o_139
                    have l_143 := k_140.1
                    have g_144 := g_132.keep (b := b_119) (by omega) k_140
                    have l_145 := g_144.1
                    have o_146 := o_134.keep (by omega) k_140
                    have w_147 := o_146.lt
                    have o_148 := o_129.keep (by omega) k_140
                    have w_149 := o_148.lt
                    have w_167 := o_139.lt
                    refine ⟨by omega, by omega, by omega, ?_⟩
                    have i_150 := sub_isl (o_146.isL (by first | rfl | omega | (simp only [List.length_set]; done) | (simp only [List.length_set, List.length_replicate]; omega))) (lo := (best + 1)) (hi := (l_edges.length : Int)) (by omega) (by omega) (by omega)
                    have g_151 := Grow.refl H_11
                    refine ⟨_, _, o_139.ownB (by first | (simp only [List.length_map, List.length_cons, List.length_nil, List.length_append]; done) | (simp only [List.length_map, List.length_cons, List.length_nil, List.length_append]; omega) | (simp only [List.length_map, List.length_cons, List.length_nil, List.length_append, List.length_take, List.length_drop]; omega)) rfl, (isl_rdS (i_150.grow g_151)), (fun h => by cases h), (by have := most_eq; omega), ?_⟩
                    refine Ap.app o_139 rfl rfl (fun b_156 H_12 q_164 hl_152 o_153 k_154 => ?_)
                    have o_153 := map_snoc o_153
                    have l_157 := k_154.1
                    have g_158 := g_144.keep (b := b_142) (by omega) k_154
                    have l_159 := g_158.1
                    have o_160 := o_146.keep (by omega) k_154
                    have w_161 := o_160.lt
                    have o_162 := o_148.keep (by omega) k_154
                    have w_163 := o_162.lt
                    have w_165 := o_153.lt
                    rw [show IntKind.wrap .i64 (vmost_2 - 1) = (vmost_2 - 1) from wrap64 (by omega) (by omega)]
                    refine spec_BreaksOf_n1 (μ - 1) (by first | omega) ⟨_, _, rfl, rfl, rfl, rfl, (by first | omega | (simp only [List.length_append, List.length_cons, List.length_nil]; done) | (simp only [List.length_append, List.length_cons, List.length_nil]; omega) | (simp only [List.length_append, List.length_cons, List.length_nil, List.length_take, List.length_drop]; omega)), rfl, o_153, g_158, (by omega), (by first | omega | (first | omega | exact cut_app (cut_app (cut_app (cut_nil _) (cut_take (cut_drop (by assumption) _) _)) (cut_one (by omega) (by omega))) (cut_take (cut_drop (by assumption) _) _) | exact cut_app (cut_one (by omega) (by omega)) (cut_one (by omega) (by omega)) | (simp only [List.length_append, List.length_take, List.length_drop, List.length_cons, List.length_nil]; omega)) | (simp only [List.length_append, List.length_cons, List.length_nil, List.length_set]; done) | (simp only [List.length_append, List.length_cons, List.length_nil, List.length_set]; omega)), (by first | omega | (first | omega | exact cut_app (cut_app (cut_app (cut_nil _) (cut_take (cut_drop (by assumption) _) _)) (cut_one (by omega) (by omega))) (cut_take (cut_drop (by assumption) _) _) | exact cut_app (cut_one (by omega) (by omega)) (cut_one (by omega) (by omega)) | (simp only [List.length_append, List.length_take, List.length_drop, List.length_cons, List.length_nil]; omega)) | (simp only [List.length_append, List.length_cons, List.length_nil, List.length_set]; done) | (simp only [List.length_append, List.length_cons, List.length_nil, List.length_set]; omega)), (by first | omega | (first | omega | exact cut_app (cut_app (cut_app (cut_nil _) (cut_take (cut_drop (by assumption) _) _)) (cut_one (by omega) (by omega))) (cut_take (cut_drop (by assumption) _) _) | exact cut_app (cut_one (by omega) (by omega)) (cut_one (by omega) (by omega)) | (simp only [List.length_append, List.length_take, List.length_drop, List.length_cons, List.length_nil]; omega)) | (simp only [List.length_append, List.length_cons, List.length_nil, List.length_set]; done) | (simp only [List.length_append, List.length_cons, List.length_nil, List.length_set]; omega)), (by first | omega | (first | omega | exact cut_app (cut_app (cut_app (cut_nil _) (cut_take (cut_drop (by assumption) _) _)) (cut_one (by omega) (by omega))) (cut_take (cut_drop (by assumption) _) _) | exact cut_app (cut_one (by omega) (by omega)) (cut_one (by omega) (by omega)) | (simp only [List.length_append, List.length_take, List.length_drop, List.length_cons, List.length_nil]; omega)) | (simp only [List.length_append, List.length_cons, List.length_nil, List.length_set]; done) | (simp only [List.length_append, List.length_cons, List.length_nil, List.length_set]; omega)), (by first | omega | (first | omega | exact cut_app (cut_app (cut_app (cut_nil _) (cut_take (cut_drop (by assumption) _) _)) (cut_one (by omega) (by omega))) (cut_take (cut_drop (by assumption) _) _) | exact cut_app (cut_one (by omega) (by omega)) (cut_one (by omega) (by omega)) | (simp only [List.length_append, List.length_take, List.length_drop, List.length_cons, List.length_nil]; omega)) | (simp only [List.length_append, List.length_cons, List.length_nil, List.length_set]; done) | (simp only [List.length_append, List.length_cons, List.length_nil, List.length_set]; omega)), (by first | omega), (by rw [show μ - 1 + 1 = μ from by first | omega]; exact e)⟩
          · have e := e.trans (cond_f c_24)
            have c_24' := of_decide_eq_false c_24
            rw [spec_BreaksOf_x1_0]
            refine Al.intro (fun b_172 H_13 hb_173 hl_174 g_175 o_176 => ?_)
            have o_176 : Own H_13 b_172 ((([] : List Int)).map fI) := o_176
            have l_178 := g_175.1
            have g_179 := g_15.trans g_175
            have l_180 := g_179.1
            have o_181 := o_14.grow g_175
            have w_182 := o_181.lt
            have w_197 := o_176.lt
            rw [show IntKind.wrap .i64 ((l_edges.length : Int) - 1) = ((l_edges.length : Int) - 1) from wrap64 (by omega) (by omega)]
            refine ⟨by omega, by omega, by omega, ?_⟩
            have i_183 := sub_isl (o_181.isL (by first | rfl | omega | (simp only [List.length_set]; done) | (simp only [List.length_set, List.length_replicate]; omega))) (lo := 1) (hi := ((l_edges.length : Int) - 1)) (by omega) (by omega) (by omega)
            have g_184 := Grow.refl H_13
            refine ⟨_, _, o_176.ownB (by first | (simp only [List.length_map, List.length_cons, List.length_nil, List.length_append]; done) | (simp only [List.length_map, List.length_cons, List.length_nil, List.length_append]; omega) | (simp only [List.length_map, List.length_cons, List.length_nil, List.length_append, List.length_take, List.length_drop]; omega)) rfl, (isl_rdS (i_183.grow g_184)), (fun h => by cases h), (by have := most_eq; omega), ?_⟩
            refine Ap.app o_176 rfl rfl (fun b_189 H_14 q_195 hl_185 o_186 k_187 => ?_)
            have o_186 := map_snoc o_186
            have l_190 := k_187.1
            have g_191 := g_179.keep (b := b_172) (by omega) k_187
            have l_192 := g_191.1
            have o_193 := o_181.keep (by omega) k_187
            have w_194 := o_193.lt
            have w_196 := o_186.lt
            rw [e] at hk
            exact hk _ _ _ H_14 g_191 (o_186.ownS (by first | omega | (simp only [List.length_append, List.length_cons, List.length_nil]; done) | (simp only [List.length_append, List.length_cons, List.length_nil]; omega) | (simp only [List.length_append, List.length_cons, List.length_nil, List.length_take, List.length_drop]; omega)) (by omega))
theorem spec_BreaksOf_ok : FnOk Try.prog 32 S_spec_BreaksOf := by
  refine FnOk.body mix_ok E_spec_BreaksOf_ok Try.func32 rfl (by kernel_rfl) (by kernel_rfl) ?_ ?_ ?_ ?_ ?_
  · intro args H K K' h hk
    simp only [S_spec_BreaksOf] at *
    unfold F_spec_BreaksOf at *
    split at hk
    · obtain ⟨l_list, i_list, bd_199, k⟩ := hk
      exact ⟨l_list, i_list, bd_199, (fun r1_a r1_n r1_e H' gg ow0 => h _ _ (k r1_a r1_n r1_e H' gg ow0))⟩
    · exact hk.elim
  · intro hq; cases hq
  · intro args H K hk
    simp only [S_spec_BreaksOf] at *
    unfold F_spec_BreaksOf at *
    split at hk
    · obtain ⟨l_list, i_list, bd_199, k⟩ := hk
      exact liveS fun a n e H1 g o => ⟨_, _, k a n e H1 g o⟩
    · exact hk.elim
  · intro _ args H K hk
    simp only [S_spec_BreaksOf] at *
    unfold F_spec_BreaksOf at *
    split at hk
    · obtain ⟨l_list, i_list, bd_199, k⟩ := hk
      exact ⟨l_list, i_list, bd_199, (fun r1_a r1_n r1_e H' gg ow0 => ⟨gg, k r1_a r1_n r1_e H' gg ow0⟩)⟩
    · exact hk.elim
  · have mm := @spec_BreaksOf_main
    revert mm
    generalize bodyK Try.prog E_spec_BreaksOf Try.f32 = Q
    intro mm args H K hk
    simp only [S_spec_BreaksOf] at *
    unfold F_spec_BreaksOf at *
    split at hk
    · exact mm _ _ _ _ _ H K hk
    · exact hk.elim
def p_impl_within (n : Int) (low : Int) (high : Int) : Bool := (bif decide ((low : Int) ≤ n) then decide ((n : Int) ≤ high) else false)
theorem p_impl_within_eq (n : Int) (low : Int) (high : Int) : p_impl_within n low high = (bif decide ((low : Int) ≤ n) then decide ((n : Int) ≤ high) else false) := rfl
def T_impl_within (n : Int) (low : Int) (high : Int) (H : AHeap) (K : Bool → AHeap → Prop) : Prop := K (p_impl_within n low high) H
theorem impl_within_t {n a b : Int} (h : p_impl_within n a b = true) : a ≤ n ∧ n ≤ b := by
  unfold p_impl_within at h
  by_cases h1 : a ≤ n
  · rw [decide_eq_true h1, cond_true] at h; exact ⟨h1, of_decide_eq_true h⟩
  · rw [decide_eq_false h1] at h; cases h
theorem T_impl_within_i {n : Int} {low : Int} {high : Int} {H : AHeap} {K : Bool → AHeap → Prop} (h : K (p_impl_within n low high) H) : T_impl_within n low high H K := h
/-! impl_within: function 54 -/
def E_impl_within : Env := envOf []
def F_impl_within : List Value → AHeap → (Value → AHeap → Prop) → Prop
  | [.int .i64 n, .int .i64 low, .int .i64 high], H, K => T_impl_within n low high H fun (r1 : Bool) (H' : AHeap) => K (.bool r1) H'
  | _, _, _ => False
def S_impl_within : FSpec := { F := F_impl_within, quiet := true, tame := false }
theorem impl_within_vc (n : Int) (low : Int) (high : Int) (H : AHeap) (K : Value → AHeap → Prop) : bodyK Try.prog E_impl_within Try.f54 [.int .i64 n, .int .i64 low, .int .i64 high] H K =
  (Br (decide ((low : Int) ≤ n)) (K (.bool (decide ((n : Int) ≤ high))) H) (K (.bool false) H)) := by kernel_rfl
theorem E_impl_within_ok : ∀ g, FnOk Try.prog g (E_impl_within g) := FnOk.envOf (by
  intro x hx; cases hx)
set_option maxHeartbeats 1000000 in
theorem impl_within_main (n : Int) (low : Int) (high : Int) (H : AHeap) (K : Value → AHeap → Prop) (h : T_impl_within n low high H fun (r1 : Bool) (H' : AHeap) => K (.bool r1) H') : bodyK Try.prog E_impl_within Try.f54 [.int .i64 n, .int .i64 low, .int .i64 high] H K := by
  rw [impl_within_vc]
  unfold T_impl_within p_impl_within at h
  repeat' (first | exact h | (exfalso; simp_all; done) | (refine ⟨by decide, ?_⟩) | (refine Br.intro (fun hb => ?_) (fun hb => ?_) <;> (try simp only [hb, cond_true, cond_false, Bool.not_true, Bool.not_false] at h)))
theorem impl_within_ok : FnOk Try.prog 54 S_impl_within := by
  refine FnOk.body mix_ok E_impl_within_ok Try.func54 rfl (by kernel_rfl) (by kernel_rfl) ?_ ?_ ?_ ?_ ?_
  · intro args H K K' h hk
    simp only [S_impl_within] at *
    unfold F_impl_within at *
    split at hk
    · have k := hk
      exact h _ _ k
    · exact hk.elim
  · intro _ args H K hk
    simp only [S_impl_within] at *
    unfold F_impl_within at *
    split at hk
    · have k := hk
      exact ⟨_, k, fun K' k' => k'⟩
    · exact hk.elim
  · intro args H K hk
    simp only [S_impl_within] at *
    unfold F_impl_within at *
    split at hk
    · have k := hk
      exact ⟨_, _, k⟩
    · exact hk.elim
  · intro hq; cases hq
  · have mm := @impl_within_main
    revert mm
    generalize bodyK Try.prog E_impl_within Try.f54 = Q
    intro mm args H K hk
    simp only [S_impl_within] at *
    unfold F_impl_within at *
    split at hk
    · exact mm _ _ _ H K hk
    · exact hk.elim
def p_impl_IsFinite (x : Nat) : Bool := feq .f32 (fsub .f32 x x) 0
theorem p_impl_IsFinite_eq (x : Nat) : p_impl_IsFinite x = feq .f32 (fsub .f32 x x) 0 := rfl
def T_impl_IsFinite (x : Nat) (H : AHeap) (K : Bool → AHeap → Prop) : Prop := K (p_impl_IsFinite x) H

theorem T_impl_IsFinite_i {x : Nat} {H : AHeap} {K : Bool → AHeap → Prop} (h : K (p_impl_IsFinite x) H) : T_impl_IsFinite x H K := h
/-! impl_IsFinite: function 56 -/
def E_impl_IsFinite : Env := envOf []
def F_impl_IsFinite : List Value → AHeap → (Value → AHeap → Prop) → Prop
  | [.float .f32 x], H, K => T_impl_IsFinite x H fun (r1 : Bool) (H' : AHeap) => K (.bool r1) H'
  | _, _, _ => False
def S_impl_IsFinite : FSpec := { F := F_impl_IsFinite, quiet := true, tame := false }
theorem impl_IsFinite_vc (x : Nat) (H : AHeap) (K : Value → AHeap → Prop) : bodyK Try.prog E_impl_IsFinite Try.f56 [.float .f32 x] H K =
  (K (.bool (feq .f32 (fsub .f32 x x) 0)) H) := by kernel_rfl
theorem E_impl_IsFinite_ok : ∀ g, FnOk Try.prog g (E_impl_IsFinite g) := FnOk.envOf (by
  intro x hx; cases hx)
set_option maxHeartbeats 1000000 in
theorem impl_IsFinite_main (x : Nat) (H : AHeap) (K : Value → AHeap → Prop) (h : T_impl_IsFinite x H fun (r1 : Bool) (H' : AHeap) => K (.bool r1) H') : bodyK Try.prog E_impl_IsFinite Try.f56 [.float .f32 x] H K := by
  rw [impl_IsFinite_vc]
  unfold T_impl_IsFinite p_impl_IsFinite at h
  repeat' (first | exact h | (exfalso; simp_all; done) | (refine ⟨by decide, ?_⟩) | (refine Br.intro (fun hb => ?_) (fun hb => ?_) <;> (try simp only [hb, cond_true, cond_false, Bool.not_true, Bool.not_false] at h)))
theorem impl_IsFinite_ok : FnOk Try.prog 56 S_impl_IsFinite := by
  refine FnOk.body mix_ok E_impl_IsFinite_ok Try.func56 rfl (by kernel_rfl) (by kernel_rfl) ?_ ?_ ?_ ?_ ?_
  · intro args H K K' h hk
    simp only [S_impl_IsFinite] at *
    unfold F_impl_IsFinite at *
    split at hk
    · have k := hk
      exact h _ _ k
    · exact hk.elim
  · intro _ args H K hk
    simp only [S_impl_IsFinite] at *
    unfold F_impl_IsFinite at *
    split at hk
    · have k := hk
      exact ⟨_, k, fun K' k' => k'⟩
    · exact hk.elim
  · intro args H K hk
    simp only [S_impl_IsFinite] at *
    unfold F_impl_IsFinite at *
    split at hk
    · have k := hk
      exact ⟨_, _, k⟩
    · exact hk.elim
  · intro hq; cases hq
  · have mm := @impl_IsFinite_main
    revert mm
    generalize bodyK Try.prog E_impl_IsFinite Try.f56 = Q
    intro mm args H K hk
    simp only [S_impl_IsFinite] at *
    unfold F_impl_IsFinite at *
    split at hk
    · exact mm _ H K hk
    · exact hk.elim
end Go.Proofs.Ytghkkclonabpkab.Ai
