/- What functions of the program come to on the abstract machine, and that they do so; printed by a program of mine around proofs of mine. -/
import Derived.Test.YtbnplefohfamnaaProg
import Derived.Test.YtbnplefohfamnaaFl
import Derived.Test.YtbnplefohfamnaaLv
import Derived.Test.YtbnplefohfamnaaMk
import Derived.Test.YtbnplefohfamnaaOl
set_option linter.unusedVariables false
set_option linter.unusedSimpArgs false
set_option linter.defProp false
set_option maxRecDepth 100000
namespace Go.Proofs.Ytbnplefohfamnaa.Ai
open Go
attribute [local irreducible] bodyK bodyL
theorem mix_ok : Try.prog.follows .mixedOrders = true := by kernel_rfl

def p_laws_szFloat32S (l_a : List Nat) (left : Int) : Int := (bif decide ((IntKind.wrap .i64 (left - (l_a.length : Int)) : Int) < 0) then ((-1) : Int) else IntKind.wrap .i64 (left - (l_a.length : Int)))
def p_laws_szFloat32S_eq := @p_laws_szFloat32S.eq_1
def T_laws_szFloat32S (a_a : Option Addr) (a_n : Nat) (a_e : Nat) (left : Int) (H : AHeap) (K : Int → AHeap → Prop) : Prop := ∃ (l_a : List Nat), IsL fF H a_a a_n l_a ∧ K (p_laws_szFloat32S l_a left) H
theorem T_laws_szFloat32S_i {a_a : Option Addr} {a_n : Nat} {a_e : Nat} {left : Int} {H : AHeap} {K : Int → AHeap → Prop} (h : ∃ (l_a : List Nat), IsL fF H a_a a_n l_a ∧ K (p_laws_szFloat32S l_a left) H) : T_laws_szFloat32S a_a a_n a_e left H K := h
theorem ω2 {P : Prop} (h : P := by omega) : P := h
theorem laws_szFloat32S_f (l : List Nat) (left : Int) : 0 ≤ left → left ≤ 1048576 → l.length ≤ 9223372036854775807 → p_laws_szFloat32S l left < 0 ∨ (l.length : Int) ≤ left ∧ p_laws_szFloat32S l left = left - l.length := by
  intro h0 h1 h2
  rw [p_laws_szFloat32S_eq, wrap64 ω2 ω2]
  by_cases h : left - (l.length : Int) < 0
  · rw [decide_eq_true h, cond_true]; left; decide
  · rw [decide_eq_false h, cond_false]; right; omega
/-! laws_szFloat32S: function 110 -/
def E_laws_szFloat32S : Env := envOf []
def F_laws_szFloat32S : List Value → AHeap → (Value → AHeap → Prop) → Prop
  | [.slice a_a a_n a_e, .int .i64 left], H, K => T_laws_szFloat32S a_a a_n a_e left H fun (r1 : Int) (H' : AHeap) => K (.int .i64 r1) H'
  | _, _, _ => False
def S_laws_szFloat32S : FSpec := { F := F_laws_szFloat32S, quiet := true, tame := false }
theorem laws_szFloat32S_vc (a_a : Option Addr) (a_n : Nat) (a_e : Nat) (left : Int) (H : AHeap) (K : Value → AHeap → Prop) : bodyL Try.prog E_laws_szFloat32S Try.f110 [.slice a_a a_n a_e, .int .i64 left] H K =
  (Br (decide ((IntKind.wrap .i64 (left - (a_n : Int)) : Int) < 0)) (K (.int .i64 (-1)) H) (K (.int .i64 (IntKind.wrap .i64 (left - (a_n : Int)))) H)) := by kernel_rfl
theorem E_laws_szFloat32S_ok : ∀ g, FnOk Try.prog g (E_laws_szFloat32S g) := FnOk.envOf (by
  intro x hx; cases hx)
set_option maxHeartbeats 1000000 in
theorem laws_szFloat32S_main (a_a : Option Addr) (a_n : Nat) (a_e : Nat) (left : Int) (H : AHeap) (K : Value → AHeap → Prop) (h : T_laws_szFloat32S a_a a_n a_e left H fun (r1 : Int) (H' : AHeap) => K (.int .i64 r1) H') : bodyL Try.prog E_laws_szFloat32S Try.f110 [.slice a_a a_n a_e, .int .i64 left] H K := by
  rw [laws_szFloat32S_vc]
  obtain ⟨l_a, i_a, hk⟩ := h
  obtain rfl := i_a.eqn
  have e : (p_laws_szFloat32S l_a left) = _ := rfl
  have e := e.trans (p_laws_szFloat32S_eq l_a left)
  have g0 := Grow.refl H
  refine Br.intro (fun c_1 => ?_) (fun c_1 => ?_)
  · have e := e.trans (cond_t c_1)
    have c_1' := of_decide_eq_true c_1
    rw [e] at hk
    exact hk
  · have e := e.trans (cond_f c_1)
    have c_1' := of_decide_eq_false c_1
    rw [e] at hk
    exact hk
theorem laws_szFloat32S_ok : FnOk Try.prog 110 S_laws_szFloat32S := by
  refine FnOk.body mix_ok E_laws_szFloat32S_ok Try.func110 rfl (by kernel_rfl) (by kernel_rfl) ?_ ?_ ?_ ?_ ?_
  · intro args H K K' h hk
    simp only [S_laws_szFloat32S] at *
    unfold F_laws_szFloat32S at *
    split at hk
    · obtain ⟨l_a, i_a, k⟩ := hk
      exact ⟨l_a, i_a, h _ _ k⟩
    · exact hk.elim
  · intro _ args H K hk
    simp only [S_laws_szFloat32S] at *
    unfold F_laws_szFloat32S at *
    split at hk
    · obtain ⟨l_a, i_a, k⟩ := hk
      exact ⟨_, k, fun K' k' => ⟨l_a, i_a, k'⟩⟩
    · exact hk.elim
  · intro args H K hk
    simp only [S_laws_szFloat32S] at *
    unfold F_laws_szFloat32S at *
    split at hk
    · obtain ⟨l_a, i_a, k⟩ := hk
      exact ⟨_, _, k⟩
    · exact hk.elim
  · intro hq; cases hq
  · have mm := @laws_szFloat32S_main
    have ml := fun (args : List Value) (H : AHeap) (K : Value → AHeap → Prop) => bodyL_body (P := Try.prog) (env := E_laws_szFloat32S ) (fn := Try.f110) (args := args) (H := H) (K := K) E_laws_szFloat32S_ok 
    revert mm ml
    generalize bodyK Try.prog E_laws_szFloat32S Try.f110 = Q
    generalize bodyL Try.prog E_laws_szFloat32S Try.f110 = QL
    intro mm ml args H K hk
    simp only [S_laws_szFloat32S] at *
    unfold F_laws_szFloat32S at *
    split at hk
    · exact ml _ H K (mm _ _ _ _ H K hk)
    · exact hk.elim

def p_laws_szFloat32SS_l1 (l_a : List (List Nat)) (left : Int) : Nat → Int → Int → Int → Int
  | 0, _, _, _ => 0
  | μ + 1, left_1, t4, i => (bif decide ((i : Int) < (l_a.length : Int)) then (bif decide (((p_laws_szFloat32S (((l_a).getD (i : Int).toNat [])) left_1) : Int) < 0) then ((-1) : Int) else (p_laws_szFloat32SS_l1 l_a left μ ((p_laws_szFloat32S (((l_a).getD (i : Int).toNat [])) left_1)) t4 (i + 1))) else left_1)
def p_laws_szFloat32SS_l1_s := fun l_a left μ left_1 t4 i => @p_laws_szFloat32SS_l1.eq_2 l_a left left_1 t4 i μ
def p_laws_szFloat32SS (l_a : List (List Nat)) (left : Int) : Int := (bif decide ((IntKind.wrap .i64 (left - (l_a.length : Int)) : Int) < 0) then ((-1) : Int) else (p_laws_szFloat32SS_l1 l_a left (Int.toNat ((l_a.length : Int) - (0 : Int)) + 1) ((IntKind.wrap .i64 (left - (l_a.length : Int)))) (0 : Int) (0 : Int)))
def p_laws_szFloat32SS_eq := @p_laws_szFloat32SS.eq_1
def T_laws_szFloat32SS (a_a : Option Addr) (a_n : Nat) (a_e : Nat) (left : Int) (H : AHeap) (K : Int → AHeap → Prop) : Prop := ∃ (l_a : List (List Nat)), IsLL fF H a_a a_n l_a ∧ l_a.length ≤ 9223372036854775807 ∧ K (p_laws_szFloat32SS l_a left) H
theorem T_laws_szFloat32SS_i {a_a : Option Addr} {a_n : Nat} {a_e : Nat} {left : Int} {H : AHeap} {K : Int → AHeap → Prop} (h : ∃ (l_a : List (List Nat)), IsLL fF H a_a a_n l_a ∧ l_a.length ≤ 9223372036854775807 ∧ K (p_laws_szFloat32SS l_a left) H) : T_laws_szFloat32SS a_a a_n a_e left H K := h
theorem laws_szFloat32SS_go (l : List (List Nat)) (left : Int) (hl : ∀ y ∈ l, y.length ≤ 9223372036854775807) : ∀ (μ : Nat) (k t : Int) (i : Nat), i ≤ l.length → l.length - i < μ → 0 ≤ k → k ≤ 1048576 →
    p_laws_szFloat32SS_l1 l left μ k t (i : Int) < 0 ∨ (0 ≤ p_laws_szFloat32SS_l1 l left μ k t (i : Int) ∧ p_laws_szFloat32SS_l1 l left μ k t (i : Int) ≤ k ∧ ∀ y ∈ l.drop i, (y.length : Int) ≤ k) := by
  intro μ
  induction μ with
  | zero => intro k t i _ h; omega
  | succ μ ih =>
    intro k t i hi hm h0 h1
    rw [p_laws_szFloat32SS_l1_s]
    by_cases h : i < l.length
    · rw [decide_eq_true (show (i : Int) < (l.length : Int) by omega), cond_true, Int.toNat_natCast]
      have hx : l.getD i [] = l[i] := by rw [List.getD_eq_getElem?_getD, List.getElem?_eq_getElem h]; rfl
      have hle : l[i].length ≤ 9223372036854775807 := hl _ (List.getElem_mem _)
      rw [hx]
      rcases laws_szFloat32S_f l[i] k h0 h1 hle with hz | ⟨hz, hz'⟩
      · rw [decide_eq_true hz, cond_true]; left; decide
      · rw [decide_eq_false (show ¬ p_laws_szFloat32S l[i] k < 0 by omega), cond_false]
        rcases ih (p_laws_szFloat32S l[i] k) t (i + 1) ω2 ω2 ω2 ω2 with g | ⟨g1, g2, g3⟩
        · left; exact g
        · right
          refine ⟨g1, Int.le_trans g2 ω2, fun y hy => ?_⟩
          rw [List.drop_eq_getElem_cons h] at hy
          rcases List.mem_cons.1 hy with rfl | hy
          · exact hz
          · have := g3 y hy; omega
    · rw [decide_eq_false (show ¬ (i : Int) < (l.length : Int) by omega), cond_false]
      right
      refine ⟨h0, Int.le_refl _, fun y hy => ?_⟩
      rw [List.drop_eq_nil_of_le ω2] at hy; cases hy
theorem laws_szFloat32SS_f (l : List (List Nat)) (left : Int) : 0 ≤ left → left ≤ 1048576 → l.length ≤ 9223372036854775807 → (∀ y ∈ l, y.length ≤ 9223372036854775807) →
    p_laws_szFloat32SS l left < 0 ∨ (0 ≤ p_laws_szFloat32SS l left ∧ p_laws_szFloat32SS l left ≤ left ∧ (l.length : Int) ≤ left ∧ ∀ y ∈ l, (y.length : Int) ≤ left) := by
  intro h0 h1 h2 h3
  rw [p_laws_szFloat32SS_eq, wrap64 ω2 ω2]
  by_cases h : left - (l.length : Int) < 0
  · rw [decide_eq_true h, cond_true]; left; decide
  · rw [decide_eq_false h, cond_false]
    rcases laws_szFloat32SS_go l left h3 (Int.toNat ((l.length : Int) - (0 : Int)) + 1) (left - (l.length : Int)) 0 0 ω2 ω2 ω2 ω2 with g | ⟨g1, g2, g3⟩
    · left; exact g
    · right
      refine ⟨g1, Int.le_trans g2 ω2, by omega, fun y hy => ?_⟩
      have := g3 y (by rw [List.drop_zero]; exact hy); omega
/-! laws_szFloat32SS: function 111 -/
def E_laws_szFloat32SS : Env := envOf [(110, S_laws_szFloat32S)]
def F_laws_szFloat32SS : List Value → AHeap → (Value → AHeap → Prop) → Prop
  | [.slice a_a a_n a_e, .int .i64 left], H, K => T_laws_szFloat32SS a_a a_n a_e left H fun (r1 : Int) (H' : AHeap) => K (.int .i64 r1) H'
  | _, _, _ => False
def S_laws_szFloat32SS : FSpec := { F := F_laws_szFloat32SS, quiet := true, tame := false }
theorem laws_szFloat32SS_vc (a_a : Option Addr) (a_n : Nat) (a_e : Nat) (left : Int) (H : AHeap) (K : Value → AHeap → Prop) : bodyL Try.prog E_laws_szFloat32SS Try.f111 [.slice a_a a_n a_e, .int .i64 left] H K =
  (Br (decide ((IntKind.wrap .i64 (left - (a_n : Int)) : Int) < 0)) (K (.int .i64 (-1)) H) (loopK (exL Try.prog E_laws_szFloat32SS (cl (cl (cr (cl (cr (cr (cr (bodyC Try.f111)))))))) 35 16 [(0, 2)]) [.slice a_a a_n a_e, .int .i64 (IntKind.wrap .i64 (left - (a_n : Int))), ud, ud, ud, .int .i64 0, ud, ud, ud, ud, ud, ud, ud, ud, ud, ud, ud, ud, ud, ud, ud, ud, ud, ud, ud, ud, ud] H (blockQ 0 (seqQ (exL Try.prog E_laws_szFloat32SS (cr (cr (cr (cr (bodyC Try.f111))))) 16 16 []) (retK Try.prog Try.f111 K))))) := by kernel_rfl
abbrev laws_szFloat32SS_P1 (a_a : Option Addr) (a_e : Nat) (a_n : Nat) (left_1 : Int) (i : Int)  : List Value := [.slice a_a a_n a_e, .int .i64 left_1, ud, ud, ud, .int .i64 i, ud, ud, ud, ud, ud, ud, ud, ud, ud, ud, ud, ud, ud, ud, ud, ud, ud, ud, ud, ud, ud]
theorem laws_szFloat32SS_r1 (a_a : Option Addr) (a_e : Nat) (a_n : Nat) (left_1 : Int) (i : Int)  (H : AHeap) (R : Post) : exL Try.prog E_laws_szFloat32SS (cl (cl (cr (cl (cr (cr (cr (bodyC Try.f111)))))))) 35 16 [(0, 2)] (laws_szFloat32SS_P1 a_a a_e a_n left_1 i) H R =
  (Br (decide ((i : Int) < (a_n : Int))) ((0 : Int) ≤ i ∧ i < (a_n : Int) ∧ ∃ b1 f1, (a_a : Option Addr) = some ⟨b1, f1, none⟩ ∧ ∃ x1_a : Option Addr, ∃ x1_n : Nat, ∃ x1_e : Nat,  rdC H b1 (f1 + (i : Int).toNat * 1) = some (.slice x1_a x1_n x1_e) ∧ T_laws_szFloat32S x1_a x1_n x1_e left_1 H fun (r1 : Int) (H1 : AHeap) => Br (decide ((r1 : Int) < 0)) (R .ret [ud, ud, ud, ud, .int .i64 (-1), ud, ud, ud, ud, ud, ud, ud, ud, ud, ud, ud, ud, ud, ud, ud, ud, ud, ud, ud, ud, ud, ud] H1) (R .normal [.slice a_a a_n a_e, .int .i64 r1, ud, ud, ud, .int .i64 (IntKind.wrap .i64 (i + 1)), ud, ud, ud, ud, ud, ud, ud, ud, ud, ud, ud, ud, ud, ud, ud, ud, ud, ud, ud, ud, ud] H1)) (R (.exit 0) [ud, .int .i64 left_1, ud, ud, ud, ud, ud, ud, ud, ud, ud, ud, ud, ud, ud, ud, ud, ud, ud, ud, ud, ud, ud, ud, ud, ud, ud] H)) := by kernel_rfl
def laws_szFloat32SS_I1 (a_a : Option Addr) (a_e : Nat) (a_n : Nat) (Inv : Nat → Int → Int → AHeap → Prop) : Nat → List Value → AHeap → Prop := fun μ tm H => ∃ (left_1 : Int), ∃ (i : Int), tm = (laws_szFloat32SS_P1 a_a a_e a_n left_1 i) ∧ Inv μ left_1 i H
theorem laws_szFloat32SS_L1 (a_a : Option Addr) (a_e : Nat) (a_n : Nat) {Q : Post} (Inv : Nat → Int → Int → AHeap → Prop) (ν : Nat) (left_1 : Int) (i : Int)  (H : AHeap) (h0 : Inv ν left_1 i H)
    (hs : ∀ (μ : Nat) (left_1 : Int) (i : Int)  (H : AHeap), Inv μ left_1 i H → exL Try.prog E_laws_szFloat32SS (cl (cl (cr (cl (cr (cr (cr (bodyC Try.f111)))))))) 35 16 [(0, 2)] (laws_szFloat32SS_P1 a_a a_e a_n left_1 i) H (loopQ (laws_szFloat32SS_I1 a_a a_e a_n Inv) μ Q)) : loopK (exL Try.prog E_laws_szFloat32SS (cl (cl (cr (cl (cr (cr (cr (bodyC Try.f111)))))))) 35 16 [(0, 2)]) (laws_szFloat32SS_P1 a_a a_e a_n left_1 i) H Q :=
  ⟨laws_szFloat32SS_I1 a_a a_e a_n Inv, ν, ⟨left_1, i, rfl, h0⟩, fun μ tm H h => by obtain ⟨left_1, i, rfl, hI⟩ := h; exact hs μ left_1 i  H hI⟩
theorem laws_szFloat32SS_n1 {a_a : Option Addr} {a_e : Nat} {a_n : Nat} {Q : Post} {Inv : Nat → Int → Int → AHeap → Prop} {μ : Nat} (μ' : Nat) {left_1 : Int} {i : Int}  {H : AHeap} (hm : μ' < μ) (hI : Inv μ' left_1 i H) : loopQ (laws_szFloat32SS_I1 a_a a_e a_n Inv) μ Q .normal (laws_szFloat32SS_P1 a_a a_e a_n left_1 i) H := ⟨μ', hm, left_1, i, rfl, hI⟩
theorem laws_szFloat32SS_x1_0 (left_1 : Int) (H : AHeap) (K : Value → AHeap → Prop)  {I : Nat → List Value → AHeap → Prop} {μ : Nat} : loopQ I μ (blockQ 0 (seqQ (exL Try.prog E_laws_szFloat32SS (cr (cr (cr (cr (bodyC Try.f111))))) 16 16 []) (retK Try.prog Try.f111 K))) (.exit 0) [ud, .int .i64 left_1, ud, ud, ud, ud, ud, ud, ud, ud, ud, ud, ud, ud, ud, ud, ud, ud, ud, ud, ud, ud, ud, ud, ud, ud, ud] H =
  (K (.int .i64 left_1) H) := by kernel_rfl
theorem laws_szFloat32SS_x1_ret (t4 : Int) (H : AHeap) (K : Value → AHeap → Prop)  {I : Nat → List Value → AHeap → Prop} {μ : Nat} : loopQ I μ (blockQ 0 (seqQ (exL Try.prog E_laws_szFloat32SS (cr (cr (cr (cr (bodyC Try.f111))))) 16 16 []) (retK Try.prog Try.f111 K))) .ret [ud, ud, ud, ud, .int .i64 t4, ud, ud, ud, ud, ud, ud, ud, ud, ud, ud, ud, ud, ud, ud, ud, ud, ud, ud, ud, ud, ud, ud] H =
  (K (.int .i64 t4) H) := by kernel_rfl
theorem E_laws_szFloat32SS_ok : ∀ g, FnOk Try.prog g (E_laws_szFloat32SS g) := FnOk.envOf (by
  intro x hx
  simp only [List.mem_cons, List.not_mem_nil, or_false] at hx
  subst hx; exact laws_szFloat32S_ok)
theorem ω3 {P : Prop} (h : P := by first | omega | (simp; done) | (simp; omega)) : P := h
theorem ω0 {P : Prop} (h : P := by first | omega | (simp only [List.length_set, List.length_replicate, List.length_append, List.length_cons, List.length_nil, List.length_take, List.length_drop, marks_length]; done) | (simp only [List.length_set, List.length_replicate, List.length_append, List.length_cons, List.length_nil, List.length_take, List.length_drop, marks_length]; omega)) : P := h
theorem ω8 {P : Prop} (h : P := by first | omega) : P := h
theorem ω1 {P : Prop} (h : P := by first | omega | (simp only [List.length_append, List.length_cons, List.length_nil, List.length_set]; done) | (simp only [List.length_append, List.length_cons, List.length_nil, List.length_set]; omega)) : P := h
set_option maxHeartbeats 1000000 in
theorem laws_szFloat32SS_main (a_a : Option Addr) (a_n : Nat) (a_e : Nat) (left : Int) (H : AHeap) (K : Value → AHeap → Prop) (h : T_laws_szFloat32SS a_a a_n a_e left H fun (r1 : Int) (H' : AHeap) => K (.int .i64 r1) H') : bodyL Try.prog E_laws_szFloat32SS Try.f111 [.slice a_a a_n a_e, .int .i64 left] H K := by
  rw [laws_szFloat32SS_vc]
  obtain ⟨l_a, i_a, pr0, hk⟩ := h
  obtain rfl := i_a.eqn
  have e : (p_laws_szFloat32SS l_a left) = _ := rfl
  have e := e.trans (p_laws_szFloat32SS_eq l_a left)
  have g0 := Grow.refl H
  refine Br.intro (fun c_1 => ?_) (fun c_1 => ?_)
  · have e := e.trans (cond_t c_1)
    have c_1' := of_decide_eq_true c_1
    rw [e] at hk
    exact hk
  · have e := e.trans (cond_f c_1)
    have c_1' := of_decide_eq_false c_1
    refine laws_szFloat32SS_L1 _ _ _ (fun (μ : Nat) (left_1 : Int) (i : Int) (H_1 : AHeap) => ∃ (t4 : Int), H = H_1 ∧ (0 : Int) ≤ i ∧ i ≤ (l_a.length : Int) ∧ (l_a.length : Int) - i ≤ (μ : Int) ∧ p_laws_szFloat32SS l_a left = p_laws_szFloat32SS_l1 l_a left (μ + 1) left_1 t4 i) (Int.toNat ((l_a.length : Int) - (0 : Int))) _ _ H ?_ ?_
    · exact ⟨_, rfl, ω3, ω3, ω2, e⟩
    · intro μ left_1 i  H_1 hI
      obtain ⟨t4, rfl, v_2, v_3, hμ, e⟩ := hI
      rw [laws_szFloat32SS_r1]
      have e := e.trans (p_laws_szFloat32SS_l1_s l_a left μ left_1 t4 i)
      have l_4 := g0.1
      refine Br.intro (fun c_5 => ?_) (fun c_5 => ?_)
      · have e := e.trans (cond_t c_5)
        have c_5' := of_decide_eq_true c_5
        obtain ⟨b_6, f_7, q_8⟩ := ((i_a.grow g0)).pos ω0
        refine ⟨by omega, by omega, b_6, f_7, q_8, ?_⟩
        obtain ⟨a_9, n_10, e_11, r_12, i_13⟩ := (i_a).rd (i := (i : Int).toNat) g0 q_8 ω2
        obtain rfl := i_13.eqn
        refine ⟨a_9, _, e_11, r_12, ?_⟩
        refine T_laws_szFloat32S_i ⟨_, (i_13.grow g0), ?_⟩
        have z_14 := laws_szFloat32S_f (((l_a).getD (i : Int).toNat [])) left_1
        refine Br.intro (fun c_15 => ?_) (fun c_15 => ?_)
        · have e := e.trans (cond_t c_15)
          have c_15' := of_decide_eq_true c_15
          rw [laws_szFloat32SS_x1_ret]
          rw [e] at hk
          exact hk
        · have e := e.trans (cond_f c_15)
          have c_15' := of_decide_eq_false c_15
          rw [show IntKind.wrap .i64 (i + 1) = (i + 1) from wrap64 ω2 ω2]
          refine laws_szFloat32SS_n1 (μ - 1) ω8 ⟨_, rfl, ω1, ω1, ω8, (by rw [show μ - 1 + 1 = μ from by first | omega]; exact e)⟩
      · have e := e.trans (cond_f c_5)
        have c_5' := of_decide_eq_false c_5
        rw [laws_szFloat32SS_x1_0]
        rw [e] at hk
        exact hk
theorem laws_szFloat32SS_ok : FnOk Try.prog 111 S_laws_szFloat32SS := by
  refine FnOk.body mix_ok E_laws_szFloat32SS_ok Try.func111 rfl (by kernel_rfl) (by kernel_rfl) ?_ ?_ ?_ ?_ ?_
  · intro args H K K' h hk
    simp only [S_laws_szFloat32SS] at *
    unfold F_laws_szFloat32SS at *
    split at hk
    · obtain ⟨l_a, i_a, pr0, k⟩ := hk
      exact ⟨l_a, i_a, pr0, h _ _ k⟩
    · exact hk.elim
  · intro _ args H K hk
    simp only [S_laws_szFloat32SS] at *
    unfold F_laws_szFloat32SS at *
    split at hk
    · obtain ⟨l_a, i_a, pr0, k⟩ := hk
      exact ⟨_, k, fun K' k' => ⟨l_a, i_a, pr0, k'⟩⟩
    · exact hk.elim
  · intro args H K hk
    simp only [S_laws_szFloat32SS] at *
    unfold F_laws_szFloat32SS at *
    split at hk
    · obtain ⟨l_a, i_a, pr0, k⟩ := hk
      exact ⟨_, _, k⟩
    · exact hk.elim
  · intro hq; cases hq
  · have mm := @laws_szFloat32SS_main
    have ml := fun (args : List Value) (H : AHeap) (K : Value → AHeap → Prop) => bodyL_body (P := Try.prog) (env := E_laws_szFloat32SS ) (fn := Try.f111) (args := args) (H := H) (K := K) E_laws_szFloat32SS_ok 
    revert mm ml
    generalize bodyK Try.prog E_laws_szFloat32SS Try.f111 = Q
    generalize bodyL Try.prog E_laws_szFloat32SS Try.f111 = QL
    intro mm ml args H K hk
    simp only [S_laws_szFloat32SS] at *
    unfold F_laws_szFloat32SS at *
    split at hk
    · exact ml _ H K (mm _ _ _ _ H K hk)
    · exact hk.elim

def p_laws_szBands (l_a_Coarse : List Nat) (l_a_Details : List (List Nat)) (left : Int) : Int := (bif decide (((p_laws_szFloat32S l_a_Coarse left) : Int) < 0) then ((-1) : Int) else (bif decide (((p_laws_szFloat32SS l_a_Details (p_laws_szFloat32S l_a_Coarse left)) : Int) < 0) then ((-1) : Int) else (p_laws_szFloat32SS l_a_Details (p_laws_szFloat32S l_a_Coarse left))))
def p_laws_szBands_eq := @p_laws_szBands.eq_1
def T_laws_szBands (a_Coarse_a : Option Addr) (a_Coarse_n : Nat) (a_Coarse_e : Nat) (a_Details_a : Option Addr) (a_Details_n : Nat) (a_Details_e : Nat) (left : Int) (H : AHeap) (K : Int → AHeap → Prop) : Prop := ∃ (l_a_Coarse : List Nat), ∃ (l_a_Details : List (List Nat)), IsL fF H a_Coarse_a a_Coarse_n l_a_Coarse ∧ IsLL fF H a_Details_a a_Details_n l_a_Details ∧ l_a_Details.length ≤ 9223372036854775807 ∧ ((∀ H' : AHeap, Grow H H' → K (p_laws_szBands l_a_Coarse l_a_Details left) H'))
theorem T_laws_szBands_i {a_Coarse_a : Option Addr} {a_Coarse_n : Nat} {a_Coarse_e : Nat} {a_Details_a : Option Addr} {a_Details_n : Nat} {a_Details_e : Nat} {left : Int} {H : AHeap} {K : Int → AHeap → Prop} (h : ∃ (l_a_Coarse : List Nat), ∃ (l_a_Details : List (List Nat)), IsL fF H a_Coarse_a a_Coarse_n l_a_Coarse ∧ IsLL fF H a_Details_a a_Details_n l_a_Details ∧ l_a_Details.length ≤ 9223372036854775807 ∧ ((∀ H' : AHeap, Grow H H' → K (p_laws_szBands l_a_Coarse l_a_Details left) H'))) : T_laws_szBands a_Coarse_a a_Coarse_n a_Coarse_e a_Details_a a_Details_n a_Details_e left H K := h
theorem laws_szBands_f (a : List Nat) (l : List (List Nat)) (left : Int) : 0 ≤ left → left ≤ 1048576 → a.length ≤ 9223372036854775807 → l.length ≤ 9223372036854775807 → (∀ y ∈ l, (∀ z ∈ y, W32 z) ∧ y.length ≤ 9223372036854775807) →
    p_laws_szBands a l left < 0 ∨ (0 ≤ p_laws_szBands a l left ∧ p_laws_szBands a l left ≤ left ∧ (a.length : Int) ≤ left ∧ (l.length : Int) ≤ left ∧ ∀ y ∈ l, (y.length : Int) ≤ left) := by
  intro h0 h1 h2 h3 h4
  rw [p_laws_szBands_eq]
  rcases laws_szFloat32S_f a left h0 h1 h2 with h | ⟨h, h'⟩
  · rw [decide_eq_true h, cond_true]; left; decide
  · rw [decide_eq_false (show ¬ p_laws_szFloat32S a left < 0 by omega), cond_false]
    rcases laws_szFloat32SS_f l (p_laws_szFloat32S a left) ω2 ω2 h3 (fun y hy => (h4 y hy).2) with g | ⟨g1, g2, g3, g4⟩
    · rw [decide_eq_true g, cond_true]; left; decide
    · rw [decide_eq_false (show ¬ p_laws_szFloat32SS l (p_laws_szFloat32S a left) < 0 by omega), cond_false]
      right
      exact ⟨g1, by omega, h, by omega, fun y hy => by have := g4 y hy; omega⟩
theorem laws_szBands_b (a : List Nat) (l : List (List Nat)) (left : Int) (h0 : 0 ≤ left) (h1 : left ≤ 1048576) (h2 : a.length ≤ 9223372036854775807) (h3 : l.length ≤ 9223372036854775807) (h4 : ∀ y ∈ l, (∀ z ∈ y, W32 z) ∧ y.length ≤ 9223372036854775807) :
    (p_laws_szBands a l left < 0 ∨ ((a.length : Int) ≤ left ∧ (l.length : Int) ≤ left)) ∧ (p_laws_szBands a l left < 0 ∨ ∀ y ∈ l, y.length < 1073741824) := by
  rcases laws_szBands_f a l left h0 h1 h2 h3 h4 with h | ⟨g1, g2, g3, g4, g5⟩
  · exact ⟨.inl h, .inl h⟩
  · exact ⟨.inr ⟨g3, g4⟩, .inr fun y hy => by have := g5 y hy; omega⟩
/-! laws_szBands: function 27 -/
def E_laws_szBands : Env := envOf [(110, S_laws_szFloat32S), (111, S_laws_szFloat32SS)]
def F_laws_szBands : List Value → AHeap → (Value → AHeap → Prop) → Prop
  | [.agg ⟨[.slice a_Coarse_a a_Coarse_n a_Coarse_e, .slice a_Details_a a_Details_n a_Details_e]⟩, .int .i64 left], H, K => T_laws_szBands a_Coarse_a a_Coarse_n a_Coarse_e a_Details_a a_Details_n a_Details_e left H fun (r1 : Int) (H' : AHeap) => K (.int .i64 r1) H'
  | _, _, _ => False
def S_laws_szBands : FSpec := { F := F_laws_szBands, quiet := false, tame := true }
theorem laws_szBands_vc (a_Coarse_a : Option Addr) (a_Coarse_n : Nat) (a_Coarse_e : Nat) (a_Details_a : Option Addr) (a_Details_n : Nat) (a_Details_e : Nat) (left : Int) (H : AHeap) (K : Value → AHeap → Prop) : bodyL Try.prog E_laws_szBands Try.f27 [.agg #[.slice a_Coarse_a a_Coarse_n a_Coarse_e, .slice a_Details_a a_Details_n a_Details_e], .int .i64 left] H K =
  (Al [.slice a_Coarse_a a_Coarse_n a_Coarse_e, .slice a_Details_a a_Details_n a_Details_e] H fun b1 H1 => ∃ x1_a : Option Addr, ∃ x1_n : Nat, ∃ x1_e : Nat,  rdC H1 b1 0 = some (.slice x1_a x1_n x1_e) ∧ T_laws_szFloat32S x1_a x1_n x1_e left H1 fun (r1 : Int) (H2 : AHeap) => Br (decide ((r1 : Int) < 0)) (K (.int .i64 (-1)) H2) (∃ x2_a : Option Addr, ∃ x2_n : Nat, ∃ x2_e : Nat,  rdC H2 b1 1 = some (.slice x2_a x2_n x2_e) ∧ T_laws_szFloat32SS x2_a x2_n x2_e r1 H2 fun (r2 : Int) (H3 : AHeap) => Br (decide ((r2 : Int) < 0)) (K (.int .i64 (-1)) H3) (K (.int .i64 r2) H3))) := by kernel_rfl
theorem E_laws_szBands_ok : ∀ g, FnOk Try.prog g (E_laws_szBands g) := FnOk.envOf (by
  intro x hx
  simp only [List.mem_cons, List.not_mem_nil, or_false] at hx
  rcases hx with rfl | rfl
  · exact laws_szFloat32S_ok
  · exact laws_szFloat32SS_ok)
set_option maxHeartbeats 1000000 in
theorem laws_szBands_main (a_Coarse_a : Option Addr) (a_Coarse_n : Nat) (a_Coarse_e : Nat) (a_Details_a : Option Addr) (a_Details_n : Nat) (a_Details_e : Nat) (left : Int) (H : AHeap) (K : Value → AHeap → Prop) (h : T_laws_szBands a_Coarse_a a_Coarse_n a_Coarse_e a_Details_a a_Details_n a_Details_e left H fun (r1 : Int) (H' : AHeap) => K (.int .i64 r1) H') : bodyL Try.prog E_laws_szBands Try.f27 [.agg #[.slice a_Coarse_a a_Coarse_n a_Coarse_e, .slice a_Details_a a_Details_n a_Details_e], .int .i64 left] H K := by
  rw [laws_szBands_vc]
  obtain ⟨l_a_Coarse, l_a_Details, i_a_Coarse, i_a_Details, pr0, hk⟩ := h
  obtain rfl := i_a_Coarse.eqn
  obtain rfl := i_a_Details.eqn
  have e : (p_laws_szBands l_a_Coarse l_a_Details left) = _ := rfl
  have e := e.trans (p_laws_szBands_eq l_a_Coarse l_a_Details left)
  have g0 := Grow.refl H
  refine Al.intro (fun b_1 H_1 hb_2 hl_3 g_4 o_5 => ?_)
  have l_7 := g_4.1
  have g_8 := g0.trans g_4
  have l_9 := g_8.1
  have w_14 := o_5.lt
  refine ⟨a_Coarse_a, l_a_Coarse.length, a_Coarse_e, (o_5.rdC _).trans rfl, ?_⟩
  refine T_laws_szFloat32S_i ⟨_, (i_a_Coarse.grow g_8), ?_⟩
  have z_10 := laws_szFloat32S_f l_a_Coarse left
  refine Br.intro (fun c_11 => ?_) (fun c_11 => ?_)
  · have e := e.trans (cond_t c_11)
    have c_11' := of_decide_eq_true c_11
    rw [e] at hk
    exact hk  H_1 g_8 
  · have e := e.trans (cond_f c_11)
    have c_11' := of_decide_eq_false c_11
    refine ⟨a_Details_a, l_a_Details.length, a_Details_e, (o_5.rdC _).trans rfl, ?_⟩
    refine T_laws_szFloat32SS_i ⟨l_a_Details, (i_a_Details.grow g_8), (by first | assumption | omega | (simp; omega)), ?_⟩
    have z_12 := laws_szFloat32SS_f l_a_Details (p_laws_szFloat32S l_a_Coarse left)
    refine Br.intro (fun c_13 => ?_) (fun c_13 => ?_)
    · have e := e.trans (cond_t c_13)
      have c_13' := of_decide_eq_true c_13
      rw [e] at hk
      exact hk  H_1 g_8 
    · have e := e.trans (cond_f c_13)
      have c_13' := of_decide_eq_false c_13
      rw [e] at hk
      exact hk  H_1 g_8 
theorem laws_szBands_ok : FnOk Try.prog 27 S_laws_szBands := by
  refine FnOk.body mix_ok E_laws_szBands_ok Try.func27 rfl (by kernel_rfl) (by kernel_rfl) ?_ ?_ ?_ ?_ ?_
  · intro args H K K' h hk
    simp only [S_laws_szBands] at *
    unfold F_laws_szBands at *
    split at hk
    · obtain ⟨l_a_Coarse, l_a_Details, i_a_Coarse, i_a_Details, pr0, k⟩ := hk
      exact ⟨l_a_Coarse, l_a_Details, i_a_Coarse, i_a_Details, pr0, (fun  H' gg  => h _ _ (k  H' gg ))⟩
    · exact hk.elim
  · intro hq; cases hq
  · intro args H K hk
    simp only [S_laws_szBands] at *
    unfold F_laws_szBands at *
    split at hk
    · obtain ⟨l_a_Coarse, l_a_Details, i_a_Coarse, i_a_Details, pr0, k⟩ := hk
      exact ⟨_, _, k H (Grow.refl H)⟩
    · exact hk.elim
  · intro _ args H K hk
    simp only [S_laws_szBands] at *
    unfold F_laws_szBands at *
    split at hk
    · obtain ⟨l_a_Coarse, l_a_Details, i_a_Coarse, i_a_Details, pr0, k⟩ := hk
      exact ⟨l_a_Coarse, l_a_Details, i_a_Coarse, i_a_Details, pr0, (fun  H' gg  => ⟨gg, k  H' gg ⟩)⟩
    · exact hk.elim
  · have mm := @laws_szBands_main
    have ml := fun (args : List Value) (H : AHeap) (K : Value → AHeap → Prop) => bodyL_body (P := Try.prog) (env := E_laws_szBands ) (fn := Try.f27) (args := args) (H := H) (K := K) E_laws_szBands_ok 
    revert mm ml
    generalize bodyK Try.prog E_laws_szBands Try.f27 = Q
    generalize bodyL Try.prog E_laws_szBands Try.f27 = QL
    intro mm ml args H K hk
    simp only [S_laws_szBands] at *
    unfold F_laws_szBands at *
    split at hk
    · exact ml _ H K (mm _ _ _ _ _ _ _ H K hk)
    · exact hk.elim

def p_laws_toFloat32S_l1 (l_a : List Nat) : Nat → Int → (List Nat) → (List Nat)
  | 0, _, _ => []
  | μ + 1, i, y1_1 => (bif decide ((i : Int) < (l_a.length : Int)) then (p_laws_toFloat32S_l1 l_a μ (i + 1) (((y1_1).set (i : Int).toNat ((((l_a).getD (i : Int).toNat 0)))))) else y1_1)
def p_laws_toFloat32S_l1_s := fun l_a μ i y1_1 => @p_laws_toFloat32S_l1.eq_2 l_a i y1_1 μ
def p_laws_toFloat32S (l_a : List Nat) : (List Nat) := (p_laws_toFloat32S_l1 l_a (Int.toNat ((l_a.length : Int) - (0 : Int)) + 1) (0 : Int) (List.replicate (((l_a.length : Int)).toNat) 0))
def p_laws_toFloat32S_eq := @p_laws_toFloat32S.eq_1
def T_laws_toFloat32S (a_a : Option Addr) (a_n : Nat) (a_e : Nat) (H : AHeap) (K : (Option Addr) → Nat → Nat → AHeap → Prop) : Prop := ∃ (l_a : List Nat), IsL fF H a_a a_n l_a ∧ l_a.length < 1073741824 ∧ ((∀ (r1_a : Option Addr) (r1_n r1_e : Nat), ∀ H' : AHeap, Grow H H' → OwnS fF H' H.length r1_a r1_n r1_e l_a → K r1_a r1_n r1_e H'))
theorem T_laws_toFloat32S_i {a_a : Option Addr} {a_n : Nat} {a_e : Nat} {H : AHeap} {K : (Option Addr) → Nat → Nat → AHeap → Prop} (h : ∃ (l_a : List Nat), IsL fF H a_a a_n l_a ∧ l_a.length < 1073741824 ∧ ((∀ (r1_a : Option Addr) (r1_n r1_e : Nat), ∀ H' : AHeap, Grow H H' → OwnS fF H' H.length r1_a r1_n r1_e l_a → K r1_a r1_n r1_e H'))) : T_laws_toFloat32S a_a a_n a_e H K := h
theorem laws_toFloat32S_go (l : List Nat) : ∀ (μ : Nat) (i : Nat) (ys : List Nat), ys.length = l.length → i ≤ l.length → l.length - i < μ →
    p_laws_toFloat32S_l1 l μ (i : Int) (l.take i ++ ys.drop i) = l := by
  intro μ
  induction μ with
  | zero => intro i ys _ _ h; omega
  | succ μ ih =>
    intro i ys hy hi hm
    rw [p_laws_toFloat32S_l1_s]
    by_cases h : i < l.length
    · rw [decide_eq_true (show (i : Int) < (l.length : Int) by omega), cond_true]
      have hx : l[i]? = some (l.getD i 0) := by rw [List.getD_eq_getElem?_getD, List.getElem?_eq_getElem h]; rfl
      rw [Int.toNat_natCast, set_front l ys i ω2 hy.symm _ hx]
      exact ih (i + 1) ys hy ω2 ω2
    · rw [decide_eq_false (show ¬ (i : Int) < (l.length : Int) by omega), cond_false]
      rw [List.take_of_length_le ω2, List.drop_eq_nil_of_le ω2, List.append_nil]
theorem laws_toFloat32S_id (l : List Nat) : p_laws_toFloat32S l = l := by
  rw [p_laws_toFloat32S_eq]
  have := laws_toFloat32S_go l (Int.toNat ((l.length : Int) - 0) + 1) 0 (List.replicate ((l.length : Int)).toNat 0) (by simp) ω2 ω2
  simpa using this
/-! laws_toFloat32S: function 22 -/
def E_laws_toFloat32S : Env := envOf []
def F_laws_toFloat32S : List Value → AHeap → (Value → AHeap → Prop) → Prop
  | [.slice a_a a_n a_e], H, K => T_laws_toFloat32S a_a a_n a_e H fun (r1_a : Option Addr) (r1_n : Nat) (r1_e : Nat) (H' : AHeap) => K (.slice r1_a r1_n r1_e) H'
  | _, _, _ => False
def S_laws_toFloat32S : FSpec := { F := F_laws_toFloat32S, quiet := false, tame := true }
theorem laws_toFloat32S_vc (a_a : Option Addr) (a_n : Nat) (a_e : Nat) (H : AHeap) (K : Value → AHeap → Prop) : bodyL Try.prog E_laws_toFloat32S Try.f22 [.slice a_a a_n a_e] H K =
  ((0 : Int) ≤ (a_n : Int) ∧ (a_n : Int) = (a_n : Int) ∧ (a_n : Int) < (most : Int) ∧ Al (zerosOf (.float .f32 0) ((a_n : Int)).toNat) H fun b1 H1 => loopK (exL Try.prog E_laws_toFloat32S (cl (cl (cr (cl (cr (cr (bodyC Try.f22))))))) 25 4 [(0, 8)]) [.slice a_a a_n a_e, ud, ud, .slice (some ⟨b1, 0, none⟩) (((a_n : Int)).toNat) 1, .int .i64 0, ud, ud, ud, ud, ud, ud, ud, ud, ud, ud, ud, ud, ud, ud, ud, ud, ud] H1 (blockQ 0 (seqQ (exL Try.prog E_laws_toFloat32S (cr (cr (cr (bodyC Try.f22)))) 4 4 []) (retK Try.prog Try.f22 K)))) := by kernel_rfl
abbrev laws_toFloat32S_P1 (a_a : Option Addr) (a_e : Nat) (a_n : Nat) (b1 : Nat) (i : Int)  : List Value := [.slice a_a a_n a_e, ud, ud, .slice (some ⟨b1, 0, none⟩) (((a_n : Int)).toNat) 1, .int .i64 i, ud, ud, ud, ud, ud, ud, ud, ud, ud, ud, ud, ud, ud, ud, ud, ud, ud]
theorem laws_toFloat32S_r1 (a_a : Option Addr) (a_e : Nat) (a_n : Nat) (b1 : Nat) (i : Int)  (H : AHeap) (R : Post) : exL Try.prog E_laws_toFloat32S (cl (cl (cr (cl (cr (cr (bodyC Try.f22))))))) 25 4 [(0, 8)] (laws_toFloat32S_P1 a_a a_e a_n b1 i) H R =
  (Br (decide ((i : Int) < (a_n : Int))) ((0 : Int) ≤ i ∧ i < (a_n : Int) ∧ ∃ b2 f1, (a_a : Option Addr) = some ⟨b2, f1, none⟩ ∧ ∃ x1 : Nat,  rdC H b2 (f1 + (i : Int).toNat * 1) = some (.float .f32 x1) ∧ (0 : Int) ≤ i ∧ i < (((a_n : Int)).toNat : Int) ∧ ∃ b3 f2, (some ⟨b1, 0, none⟩ : Option Addr) = some ⟨b3, f2, none⟩ ∧ isOwn H b3 ∧ (∃ l, rdN H b3 (f2 + (i : Int).toNat * 1) 1 = some l) ∧ Lt (setC H b3 (f2 + (i : Int).toNat * 1) (.float .f32 x1)) fun H2 => R .normal [.slice a_a a_n a_e, ud, ud, .slice (some ⟨b1, 0, none⟩) (((a_n : Int)).toNat) 1, .int .i64 (IntKind.wrap .i64 (i + 1)), ud, ud, ud, ud, ud, ud, ud, ud, ud, ud, ud, ud, ud, ud, ud, ud, ud] H2) (R (.exit 0) [ud, ud, ud, .slice (some ⟨b1, 0, none⟩) (((a_n : Int)).toNat) 1, ud, ud, ud, ud, ud, ud, ud, ud, ud, ud, ud, ud, ud, ud, ud, ud, ud, ud] H)) := by kernel_rfl
def laws_toFloat32S_I1 (a_a : Option Addr) (a_e : Nat) (a_n : Nat) (b1 : Nat) (Inv : Nat → Int → AHeap → Prop) : Nat → List Value → AHeap → Prop := fun μ tm H => ∃ (i : Int), tm = (laws_toFloat32S_P1 a_a a_e a_n b1 i) ∧ Inv μ i H
theorem laws_toFloat32S_L1 (a_a : Option Addr) (a_e : Nat) (a_n : Nat) (b1 : Nat) {Q : Post} (Inv : Nat → Int → AHeap → Prop) (ν : Nat) (i : Int)  (H : AHeap) (h0 : Inv ν i H)
    (hs : ∀ (μ : Nat) (i : Int)  (H : AHeap), Inv μ i H → exL Try.prog E_laws_toFloat32S (cl (cl (cr (cl (cr (cr (bodyC Try.f22))))))) 25 4 [(0, 8)] (laws_toFloat32S_P1 a_a a_e a_n b1 i) H (loopQ (laws_toFloat32S_I1 a_a a_e a_n b1 Inv) μ Q)) : loopK (exL Try.prog E_laws_toFloat32S (cl (cl (cr (cl (cr (cr (bodyC Try.f22))))))) 25 4 [(0, 8)]) (laws_toFloat32S_P1 a_a a_e a_n b1 i) H Q :=
  ⟨laws_toFloat32S_I1 a_a a_e a_n b1 Inv, ν, ⟨i, rfl, h0⟩, fun μ tm H h => by obtain ⟨i, rfl, hI⟩ := h; exact hs μ i  H hI⟩
theorem laws_toFloat32S_n1 {a_a : Option Addr} {a_e : Nat} {a_n : Nat} {b1 : Nat} {Q : Post} {Inv : Nat → Int → AHeap → Prop} {μ : Nat} (μ' : Nat) {i : Int}  {H : AHeap} (hm : μ' < μ) (hI : Inv μ' i H) : loopQ (laws_toFloat32S_I1 a_a a_e a_n b1 Inv) μ Q .normal (laws_toFloat32S_P1 a_a a_e a_n b1 i) H := ⟨μ', hm, i, rfl, hI⟩
theorem laws_toFloat32S_x1_0 (a_n : Nat) (b1 : Nat) (H : AHeap) (K : Value → AHeap → Prop)  {I : Nat → List Value → AHeap → Prop} {μ : Nat} : loopQ I μ (blockQ 0 (seqQ (exL Try.prog E_laws_toFloat32S (cr (cr (cr (bodyC Try.f22)))) 4 4 []) (retK Try.prog Try.f22 K))) (.exit 0) [ud, ud, ud, .slice (some ⟨b1, 0, none⟩) (((a_n : Int)).toNat) 1, ud, ud, ud, ud, ud, ud, ud, ud, ud, ud, ud, ud, ud, ud, ud, ud, ud, ud] H =
  (K (.slice (some ⟨b1, 0, none⟩) (((a_n : Int)).toNat) 1) H) := by kernel_rfl
theorem E_laws_toFloat32S_ok : ∀ g, FnOk Try.prog g (E_laws_toFloat32S g) := FnOk.envOf (by
  intro x hx; cases hx)
theorem ω12 {P : Prop} (h : P := by have := most_eq; omega) : P := h
theorem ω13 {P : Prop} (h : P := by first | rfl | assumption | omega | (simp; done)) : P := h
theorem ω10 {P : Prop} (h : P := by first | assumption | omega | (simp only [List.length_set]; first | rfl | assumption | omega)) : P := h
set_option maxHeartbeats 1000000 in
theorem laws_toFloat32S_main (a_a : Option Addr) (a_n : Nat) (a_e : Nat) (H : AHeap) (K : Value → AHeap → Prop) (h : T_laws_toFloat32S a_a a_n a_e H fun (r1_a : Option Addr) (r1_n : Nat) (r1_e : Nat) (H' : AHeap) => K (.slice r1_a r1_n r1_e) H') : bodyL Try.prog E_laws_toFloat32S Try.f22 [.slice a_a a_n a_e] H K := by
  rw [laws_toFloat32S_vc]
  obtain ⟨l_a, i_a, bd_29, hk⟩ := h
  have hk : (∀ (r1_a : Option Addr) (r1_n r1_e : Nat), ∀ H' : AHeap, Grow H H' → OwnS fF H' H.length r1_a r1_n r1_e (p_laws_toFloat32S l_a) → (fun (r1_a : Option Addr) (r1_n : Nat) (r1_e : Nat) (H' : AHeap) => K (.slice r1_a r1_n r1_e) H') r1_a r1_n r1_e H') := by rw [laws_toFloat32S_id l_a]; exact hk
  obtain rfl := i_a.eqn
  have e : (p_laws_toFloat32S l_a) = _ := rfl
  have e := e.trans (p_laws_toFloat32S_eq l_a)
  have g0 := Grow.refl H
  refine ⟨by omega, rfl, ω12, ?_⟩
  refine Al.intro (fun b_1 H_1 hb_2 hl_3 g_4 o_5 => ?_)
  rw [zeros_map fF 0 _ rfl] at o_5
  have l_7 := g_4.1
  have g_8 := g0.trans g_4
  have l_9 := g_8.1
  have w_28 := o_5.lt
  refine laws_toFloat32S_L1 _ _ _ _ (fun (μ : Nat) (i : Int) (H_2 : AHeap) => ∃ (y1_1 : List Nat), Own H_2 b_1 (y1_1.map fF) ∧ y1_1.length = ((l_a.length : Int)).toNat ∧ Grow H H_2 ∧ (0 : Int) ≤ i ∧ i ≤ (l_a.length : Int) ∧ (l_a.length : Int) - i ≤ (μ : Int) ∧ p_laws_toFloat32S l_a = p_laws_toFloat32S_l1 l_a (μ + 1) i y1_1) (Int.toNat ((l_a.length : Int) - (0 : Int))) _ H_1 ?_ ?_
  · exact ⟨_, o_5, ω13, g_8, ω3, ω3, ω2, e⟩
  · intro μ i  H_2 hI
    obtain ⟨y1_1, o_10, y_11, g_12, v_13, v_14, hμ, e⟩ := hI
    rw [laws_toFloat32S_r1]
    have e := e.trans (p_laws_toFloat32S_l1_s l_a μ i y1_1)
    have w_15 := o_10.lt
    have l_16 := g_12.1
    refine Br.intro (fun c_17 => ?_) (fun c_17 => ?_)
    · have e := e.trans (cond_t c_17)
      have c_17' := of_decide_eq_true c_17
      obtain ⟨b_18, f_19, q_20⟩ := ((i_a.grow g_12)).pos ω0
      refine ⟨by omega, by omega, b_18, f_19, q_20, ?_⟩
      refine ⟨((l_a).getD (i : Int).toNat 0), (i_a).rd g_12 q_20 ω2 _, ?_⟩
      refine ⟨by omega, ω2, _, _, rfl, ?_⟩
      refine Lt.set o_10 (by simp only [List.length_map]; (first | omega | (simp only [List.length_set, List.length_replicate, List.length_append, List.length_cons, List.length_nil, List.length_take, List.length_drop, marks_length]; done) | (simp only [List.length_set, List.length_replicate, List.length_append, List.length_cons, List.length_nil, List.length_take, List.length_drop, marks_length]; omega))) (fun H_3 hl_21 o_23 k_22 => ?_)
      have o_23 := map_set o_23
      have l_24 := k_22.1
      have g_25 := g_12.keep (b := b_1) ω2 k_22
      have l_26 := g_25.1
      have w_27 := o_23.lt
      rw [show IntKind.wrap .i64 (i + 1) = (i + 1) from wrap64 ω2 ω2]
      refine laws_toFloat32S_n1 (μ - 1) ω8 ⟨_, o_23, ω10, g_25, ω1, ω1, ω8, (by rw [show μ - 1 + 1 = μ from by first | omega]; exact e)⟩
    · have e := e.trans (cond_f c_17)
      have c_17' := of_decide_eq_false c_17
      rw [laws_toFloat32S_x1_0]
      rw [e] at hk
      exact hk _ _ _ H_2 g_12 (o_10.ownS (by first | (simp only [List.length_replicate]; done) | omega | (simp; omega)) ω2)
theorem laws_toFloat32S_ok : FnOk Try.prog 22 S_laws_toFloat32S := by
  refine FnOk.body mix_ok E_laws_toFloat32S_ok Try.func22 rfl (by kernel_rfl) (by kernel_rfl) ?_ ?_ ?_ ?_ ?_
  · intro args H K K' h hk
    simp only [S_laws_toFloat32S] at *
    unfold F_laws_toFloat32S at *
    split at hk
    · obtain ⟨l_a, i_a, bd_29, k⟩ := hk
      exact ⟨l_a, i_a, bd_29, (fun r1_a r1_n r1_e H' gg ow0 => h _ _ (k r1_a r1_n r1_e H' gg ow0))⟩
    · exact hk.elim
  · intro hq; cases hq
  · intro args H K hk
    simp only [S_laws_toFloat32S] at *
    unfold F_laws_toFloat32S at *
    split at hk
    · obtain ⟨l_a, i_a, bd_29, k⟩ := hk
      exact liveS fun a n e H1 g o => ⟨_, _, k a n e H1 g o⟩
    · exact hk.elim
  · intro _ args H K hk
    simp only [S_laws_toFloat32S] at *
    unfold F_laws_toFloat32S at *
    split at hk
    · obtain ⟨l_a, i_a, bd_29, k⟩ := hk
      exact ⟨l_a, i_a, bd_29, (fun r1_a r1_n r1_e H' gg ow0 => ⟨gg, k r1_a r1_n r1_e H' gg ow0⟩)⟩
    · exact hk.elim
  · have mm := @laws_toFloat32S_main
    have ml := fun (args : List Value) (H : AHeap) (K : Value → AHeap → Prop) => bodyL_body (P := Try.prog) (env := E_laws_toFloat32S ) (fn := Try.f22) (args := args) (H := H) (K := K) E_laws_toFloat32S_ok 
    revert mm ml
    generalize bodyK Try.prog E_laws_toFloat32S Try.f22 = Q
    generalize bodyL Try.prog E_laws_toFloat32S Try.f22 = QL
    intro mm ml args H K hk
    simp only [S_laws_toFloat32S] at *
    unfold F_laws_toFloat32S at *
    split at hk
    · exact ml _ H K (mm _ _ _ H K hk)
    · exact hk.elim

def p_laws_toFloat32SS_l1 (l_a : List (List Nat)) : Nat → Int → (List (List Nat)) → (List (List Nat))
  | 0, _, _ => []
  | μ + 1, i, y1_1 => (bif decide ((i : Int) < (l_a.length : Int)) then (p_laws_toFloat32SS_l1 l_a μ (i + 1) (((y1_1).set (i : Int).toNat (((((l_a).getD (i : Int).toNat []))))))) else y1_1)
def p_laws_toFloat32SS_l1_s := fun l_a μ i y1_1 => @p_laws_toFloat32SS_l1.eq_2 l_a i y1_1 μ
def p_laws_toFloat32SS (l_a : List (List Nat)) : (List (List Nat)) := (p_laws_toFloat32SS_l1 l_a (Int.toNat ((l_a.length : Int) - (0 : Int)) + 1) (0 : Int) (List.replicate (((l_a.length : Int)).toNat) []))
def p_laws_toFloat32SS_eq := @p_laws_toFloat32SS.eq_1
def T_laws_toFloat32SS (a_a : Option Addr) (a_n : Nat) (a_e : Nat) (H : AHeap) (K : (Option Addr) → Nat → Nat → AHeap → Prop) : Prop := ∃ (l_a : List (List Nat)), IsLL fF H a_a a_n l_a ∧ l_a.length < 1073741824 ∧ (∀ y ∈ l_a, y.length < 1073741824) ∧ ((∀ (r1_a : Option Addr) (r1_n r1_e : Nat), ∀ H' : AHeap, Grow H H' → OwnLL fF H' H.length H'.length r1_a r1_n r1_e l_a → K r1_a r1_n r1_e H'))
theorem T_laws_toFloat32SS_i {a_a : Option Addr} {a_n : Nat} {a_e : Nat} {H : AHeap} {K : (Option Addr) → Nat → Nat → AHeap → Prop} (h : ∃ (l_a : List (List Nat)), IsLL fF H a_a a_n l_a ∧ l_a.length < 1073741824 ∧ (∀ y ∈ l_a, y.length < 1073741824) ∧ ((∀ (r1_a : Option Addr) (r1_n r1_e : Nat), ∀ H' : AHeap, Grow H H' → OwnLL fF H' H.length H'.length r1_a r1_n r1_e l_a → K r1_a r1_n r1_e H'))) : T_laws_toFloat32SS a_a a_n a_e H K := h
theorem laws_toFloat32SS_go (l : List (List Nat)) : ∀ (μ : Nat) (i : Nat) (ys : List (List Nat)), ys.length = l.length → i ≤ l.length → l.length - i < μ →
    p_laws_toFloat32SS_l1 l μ (i : Int) (l.take i ++ ys.drop i) = l := by
  intro μ
  induction μ with
  | zero => intro i ys _ _ h; omega
  | succ μ ih =>
    intro i ys hy hi hm
    rw [p_laws_toFloat32SS_l1_s]
    by_cases h : i < l.length
    · rw [decide_eq_true (show (i : Int) < (l.length : Int) by omega), cond_true]
      have hx : l[i]? = some (l.getD i []) := by rw [List.getD_eq_getElem?_getD, List.getElem?_eq_getElem h]; rfl
      rw [Int.toNat_natCast, set_front l ys i ω2 hy.symm _ hx]
      exact ih (i + 1) ys hy ω2 ω2
    · rw [decide_eq_false (show ¬ (i : Int) < (l.length : Int) by omega), cond_false]
      rw [List.take_of_length_le ω2, List.drop_eq_nil_of_le ω2, List.append_nil]
theorem laws_toFloat32SS_id (l : List (List Nat)) : p_laws_toFloat32SS l = l := by
  rw [p_laws_toFloat32SS_eq]
  have := laws_toFloat32SS_go l (Int.toNat ((l.length : Int) - 0) + 1) 0 (List.replicate ((l.length : Int)).toNat []) (by simp) ω2 ω2
  simpa using this
/-! laws_toFloat32SS: function 115 -/
def E_laws_toFloat32SS : Env := envOf [(22, S_laws_toFloat32S)]
def F_laws_toFloat32SS : List Value → AHeap → (Value → AHeap → Prop) → Prop
  | [.slice a_a a_n a_e], H, K => T_laws_toFloat32SS a_a a_n a_e H fun (r1_a : Option Addr) (r1_n : Nat) (r1_e : Nat) (H' : AHeap) => K (.slice r1_a r1_n r1_e) H'
  | _, _, _ => False
def S_laws_toFloat32SS : FSpec := { F := F_laws_toFloat32SS, quiet := false, tame := true }
theorem laws_toFloat32SS_vc (a_a : Option Addr) (a_n : Nat) (a_e : Nat) (H : AHeap) (K : Value → AHeap → Prop) : bodyL Try.prog E_laws_toFloat32SS Try.f115 [.slice a_a a_n a_e] H K =
  ((0 : Int) ≤ (a_n : Int) ∧ (a_n : Int) = (a_n : Int) ∧ (a_n : Int) < (most : Int) ∧ Al (zerosOf (.slice none 0 0) ((a_n : Int)).toNat) H fun b1 H1 => loopK (exL Try.prog E_laws_toFloat32SS (cl (cl (cr (cl (cr (cr (bodyC Try.f115))))))) 25 4 [(0, 8)]) [.slice a_a a_n a_e, ud, ud, .slice (some ⟨b1, 0, none⟩) (((a_n : Int)).toNat) 1, .int .i64 0, ud, ud, ud, ud, ud, ud, ud, ud, ud, ud, ud, ud, ud, ud, ud, ud, ud, ud] H1 (blockQ 0 (seqQ (exL Try.prog E_laws_toFloat32SS (cr (cr (cr (bodyC Try.f115)))) 4 4 []) (retK Try.prog Try.f115 K)))) := by kernel_rfl
abbrev laws_toFloat32SS_P1 (a_a : Option Addr) (a_e : Nat) (a_n : Nat) (b1 : Nat) (i : Int)  : List Value := [.slice a_a a_n a_e, ud, ud, .slice (some ⟨b1, 0, none⟩) (((a_n : Int)).toNat) 1, .int .i64 i, ud, ud, ud, ud, ud, ud, ud, ud, ud, ud, ud, ud, ud, ud, ud, ud, ud, ud]
theorem laws_toFloat32SS_r1 (a_a : Option Addr) (a_e : Nat) (a_n : Nat) (b1 : Nat) (i : Int)  (H : AHeap) (R : Post) : exL Try.prog E_laws_toFloat32SS (cl (cl (cr (cl (cr (cr (bodyC Try.f115))))))) 25 4 [(0, 8)] (laws_toFloat32SS_P1 a_a a_e a_n b1 i) H R =
  (Br (decide ((i : Int) < (a_n : Int))) ((0 : Int) ≤ i ∧ i < (a_n : Int) ∧ ∃ b2 f1, (a_a : Option Addr) = some ⟨b2, f1, none⟩ ∧ ∃ x1_a : Option Addr, ∃ x1_n : Nat, ∃ x1_e : Nat,  rdC H b2 (f1 + (i : Int).toNat * 1) = some (.slice x1_a x1_n x1_e) ∧ T_laws_toFloat32S x1_a x1_n x1_e H fun (a1 : Option Addr) (r1 : Nat) (r2 : Nat) (H2 : AHeap) => (0 : Int) ≤ i ∧ i < (((a_n : Int)).toNat : Int) ∧ ∃ b3 f2, (some ⟨b1, 0, none⟩ : Option Addr) = some ⟨b3, f2, none⟩ ∧ isOwn H2 b3 ∧ (∃ l, rdN H2 b3 (f2 + (i : Int).toNat * 1) 1 = some l) ∧ Lt (setC H2 b3 (f2 + (i : Int).toNat * 1) (.slice a1 r1 r2)) fun H3 => R .normal [.slice a_a a_n a_e, ud, ud, .slice (some ⟨b1, 0, none⟩) (((a_n : Int)).toNat) 1, .int .i64 (IntKind.wrap .i64 (i + 1)), ud, ud, ud, ud, ud, ud, ud, ud, ud, ud, ud, ud, ud, ud, ud, ud, ud, ud] H3) (R (.exit 0) [ud, ud, ud, .slice (some ⟨b1, 0, none⟩) (((a_n : Int)).toNat) 1, ud, ud, ud, ud, ud, ud, ud, ud, ud, ud, ud, ud, ud, ud, ud, ud, ud, ud, ud] H)) := by kernel_rfl
def laws_toFloat32SS_I1 (a_a : Option Addr) (a_e : Nat) (a_n : Nat) (b1 : Nat) (Inv : Nat → Int → AHeap → Prop) : Nat → List Value → AHeap → Prop := fun μ tm H => ∃ (i : Int), tm = (laws_toFloat32SS_P1 a_a a_e a_n b1 i) ∧ Inv μ i H
theorem laws_toFloat32SS_L1 (a_a : Option Addr) (a_e : Nat) (a_n : Nat) (b1 : Nat) {Q : Post} (Inv : Nat → Int → AHeap → Prop) (ν : Nat) (i : Int)  (H : AHeap) (h0 : Inv ν i H)
    (hs : ∀ (μ : Nat) (i : Int)  (H : AHeap), Inv μ i H → exL Try.prog E_laws_toFloat32SS (cl (cl (cr (cl (cr (cr (bodyC Try.f115))))))) 25 4 [(0, 8)] (laws_toFloat32SS_P1 a_a a_e a_n b1 i) H (loopQ (laws_toFloat32SS_I1 a_a a_e a_n b1 Inv) μ Q)) : loopK (exL Try.prog E_laws_toFloat32SS (cl (cl (cr (cl (cr (cr (bodyC Try.f115))))))) 25 4 [(0, 8)]) (laws_toFloat32SS_P1 a_a a_e a_n b1 i) H Q :=
  ⟨laws_toFloat32SS_I1 a_a a_e a_n b1 Inv, ν, ⟨i, rfl, h0⟩, fun μ tm H h => by obtain ⟨i, rfl, hI⟩ := h; exact hs μ i  H hI⟩
theorem laws_toFloat32SS_n1 {a_a : Option Addr} {a_e : Nat} {a_n : Nat} {b1 : Nat} {Q : Post} {Inv : Nat → Int → AHeap → Prop} {μ : Nat} (μ' : Nat) {i : Int}  {H : AHeap} (hm : μ' < μ) (hI : Inv μ' i H) : loopQ (laws_toFloat32SS_I1 a_a a_e a_n b1 Inv) μ Q .normal (laws_toFloat32SS_P1 a_a a_e a_n b1 i) H := ⟨μ', hm, i, rfl, hI⟩
theorem laws_toFloat32SS_x1_0 (a_n : Nat) (b1 : Nat) (H : AHeap) (K : Value → AHeap → Prop)  {I : Nat → List Value → AHeap → Prop} {μ : Nat} : loopQ I μ (blockQ 0 (seqQ (exL Try.prog E_laws_toFloat32SS (cr (cr (cr (bodyC Try.f115)))) 4 4 []) (retK Try.prog Try.f115 K))) (.exit 0) [ud, ud, ud, .slice (some ⟨b1, 0, none⟩) (((a_n : Int)).toNat) 1, ud, ud, ud, ud, ud, ud, ud, ud, ud, ud, ud, ud, ud, ud, ud, ud, ud, ud, ud] H =
  (K (.slice (some ⟨b1, 0, none⟩) (((a_n : Int)).toNat) 1) H) := by kernel_rfl
theorem E_laws_toFloat32SS_ok : ∀ g, FnOk Try.prog g (E_laws_toFloat32SS g) := FnOk.envOf (by
  intro x hx
  simp only [List.mem_cons, List.not_mem_nil, or_false] at hx
  subst hx; exact laws_toFloat32S_ok)
set_option maxHeartbeats 1000000 in
theorem laws_toFloat32SS_main (a_a : Option Addr) (a_n : Nat) (a_e : Nat) (H : AHeap) (K : Value → AHeap → Prop) (h : T_laws_toFloat32SS a_a a_n a_e H fun (r1_a : Option Addr) (r1_n : Nat) (r1_e : Nat) (H' : AHeap) => K (.slice r1_a r1_n r1_e) H') : bodyL Try.prog E_laws_toFloat32SS Try.f115 [.slice a_a a_n a_e] H K := by
  rw [laws_toFloat32SS_vc]
  obtain ⟨l_a, i_a, bd_51, bb_l_a, hk⟩ := h
  have hk : (∀ (r1_a : Option Addr) (r1_n r1_e : Nat), ∀ H' : AHeap, Grow H H' → OwnLL fF H' H.length H'.length r1_a r1_n r1_e (p_laws_toFloat32SS l_a) → (fun (r1_a : Option Addr) (r1_n : Nat) (r1_e : Nat) (H' : AHeap) => K (.slice r1_a r1_n r1_e) H') r1_a r1_n r1_e H') := by rw [laws_toFloat32SS_id l_a]; exact hk
  obtain rfl := i_a.eqn
  have e : (p_laws_toFloat32SS l_a) = _ := rfl
  have e := e.trans (p_laws_toFloat32SS_eq l_a)
  have g0 := Grow.refl H
  refine ⟨by omega, rfl, ω12, ?_⟩
  refine Al.intro (fun b_1 H_1 hb_2 hl_3 g_4 o_5 => ?_)
  have o_5 := zeros_ll (f := fF) o_5 b_1 (Nat.le_refl _)
  have v_49 := o_5.rng
  have l_7 := g_4.1
  have g_8 := g0.trans g_4
  have l_9 := g_8.1
  have w_50 := o_5.lt
  refine laws_toFloat32SS_L1 _ _ _ _ (fun (μ : Nat) (i : Int) (H_2 : AHeap) => ∃ (y1_1 : List (List Nat)), OwnB fF H_2 b_1 H_2.length b_1 y1_1 ∧ y1_1.length = ((l_a.length : Int)).toNat ∧ Grow H H_2 ∧ (0 : Int) ≤ i ∧ i ≤ (l_a.length : Int) ∧ (l_a.length : Int) - i ≤ (μ : Int) ∧ p_laws_toFloat32SS l_a = p_laws_toFloat32SS_l1 l_a (μ + 1) i y1_1) (Int.toNat ((l_a.length : Int) - (0 : Int))) _ H_1 ?_ ?_
  · exact ⟨_, (o_5.weak (Nat.le_refl _) ω2 (Nat.le_refl _)), ω13, g_8, ω3, ω3, ω2, e⟩
  · intro μ i  H_2 hI
    obtain ⟨y1_1, o_10, y_11, g_13, v_14, v_15, hμ, e⟩ := hI
    rw [laws_toFloat32SS_r1]
    have e := e.trans (p_laws_toFloat32SS_l1_s l_a μ i y1_1)
    have v_12 := o_10.rng
    have w_16 := o_10.lt
    have l_17 := g_13.1
    refine Br.intro (fun c_18 => ?_) (fun c_18 => ?_)
    · have e := e.trans (cond_t c_18)
      have c_18' := of_decide_eq_true c_18
      obtain ⟨b_19, f_20, q_21⟩ := ((i_a.grow g_13)).pos ω0
      refine ⟨by omega, by omega, b_19, f_20, q_21, ?_⟩
      obtain ⟨a_22, n_23, e_24, r_25, i_26⟩ := (i_a).rd (i := (i : Int).toNat) g_13 q_21 ω2
      obtain rfl := i_26.eqn
      refine ⟨a_22, _, e_24, r_25, ?_⟩
      have z_27 := getD_len bb_l_a (i : Int).toNat
      refine T_laws_toFloat32S_i ⟨_, (i_26.grow g_13), ω0, fun a_28 n_29 e_30 H_3 g_32 r_31 => ?_⟩
      have l_33 := g_32.1
      have g_34 := g_13.trans g_32
      have l_35 := g_34.1
      have o_36 := o_10.grow g_32
      have w_37 := o_36.lt
      obtain rfl := r_31.isL.eqn
      have u_38 := r_31.up
      have u_39 := r_31.lo
      refine ⟨by omega, ω2, _, _, rfl, ?_⟩
      refine Lt.setB o_36 ω0 r_31 ω2 (fun x hx => by have := u_38 x hx; have := u_39 x hx; omega) (fun H_4 hl_41 o_43 k_42 => ?_)
      have l_44 := k_42.1
      have g_45 := g_34.keep (b := b_1) ω2 k_42
      have l_46 := g_45.1
      have w_47 := o_43.lt
      have v_48 := o_43.rng
      rw [show IntKind.wrap .i64 (i + 1) = (i + 1) from wrap64 ω2 ω2]
      refine laws_toFloat32SS_n1 (μ - 1) ω8 ⟨_, (o_43.weak (Nat.le_refl _) ω2 (Nat.le_refl _)), ω10, g_45, ω1, ω1, ω8, (by rw [show μ - 1 + 1 = μ from by first | omega]; exact e)⟩
    · have e := e.trans (cond_f c_18)
      have c_18' := of_decide_eq_false c_18
      rw [laws_toFloat32SS_x1_0]
      rw [e] at hk
      exact hk _ _ _ H_2 g_13 ((o_10.ownLL (by first | (simp only [List.length_replicate]; done) | omega | (simp; omega))).weak ω2 ω2 (Nat.le_refl _))
theorem laws_toFloat32SS_ok : FnOk Try.prog 115 S_laws_toFloat32SS := by
  refine FnOk.body mix_ok E_laws_toFloat32SS_ok Try.func115 rfl (by kernel_rfl) (by kernel_rfl) ?_ ?_ ?_ ?_ ?_
  · intro args H K K' h hk
    simp only [S_laws_toFloat32SS] at *
    unfold F_laws_toFloat32SS at *
    split at hk
    · obtain ⟨l_a, i_a, bd_51, bb_l_a, k⟩ := hk
      exact ⟨l_a, i_a, bd_51, bb_l_a, (fun r1_a r1_n r1_e H' gg ow0 => h _ _ (k r1_a r1_n r1_e H' gg ow0))⟩
    · exact hk.elim
  · intro hq; cases hq
  · intro args H K hk
    simp only [S_laws_toFloat32SS] at *
    unfold F_laws_toFloat32SS at *
    split at hk
    · obtain ⟨l_a, i_a, bd_51, bb_l_a, k⟩ := hk
      exact liveL fun a n e H1 g o => ⟨_, _, k a n e H1 g o⟩
    · exact hk.elim
  · intro _ args H K hk
    simp only [S_laws_toFloat32SS] at *
    unfold F_laws_toFloat32SS at *
    split at hk
    · obtain ⟨l_a, i_a, bd_51, bb_l_a, k⟩ := hk
      exact ⟨l_a, i_a, bd_51, bb_l_a, (fun r1_a r1_n r1_e H' gg ow0 => ⟨gg, k r1_a r1_n r1_e H' gg ow0⟩)⟩
    · exact hk.elim
  · have mm := @laws_toFloat32SS_main
    have ml := fun (args : List Value) (H : AHeap) (K : Value → AHeap → Prop) => bodyL_body (P := Try.prog) (env := E_laws_toFloat32SS ) (fn := Try.f115) (args := args) (H := H) (K := K) E_laws_toFloat32SS_ok 
    revert mm ml
    generalize bodyK Try.prog E_laws_toFloat32SS Try.f115 = Q
    generalize bodyL Try.prog E_laws_toFloat32SS Try.f115 = QL
    intro mm ml args H K hk
    simp only [S_laws_toFloat32SS] at *
    unfold F_laws_toFloat32SS at *
    split at hk
    · exact ml _ H K (mm _ _ _ H K hk)
    · exact hk.elim

def p_laws_toBands (l_a_Coarse : List Nat) (l_a_Details : List (List Nat)) : (List Nat) × (List (List Nat)) := (l_a_Coarse, l_a_Details)
def p_laws_toBands_eq := @p_laws_toBands.eq_1
def T_laws_toBands (a_Coarse_a : Option Addr) (a_Coarse_n : Nat) (a_Coarse_e : Nat) (a_Details_a : Option Addr) (a_Details_n : Nat) (a_Details_e : Nat) (H : AHeap) (K : (Option Addr) → Nat → Nat → (Option Addr) → Nat → Nat → AHeap → Prop) : Prop := ∃ (l_a_Coarse : List Nat), ∃ (l_a_Details : List (List Nat)), IsL fF H a_Coarse_a a_Coarse_n l_a_Coarse ∧ IsLL fF H a_Details_a a_Details_n l_a_Details ∧ l_a_Coarse.length < 1073741824 ∧ l_a_Details.length < 1073741824 ∧ (∀ y ∈ l_a_Details, y.length < 1073741824) ∧ ((∀ (r1_Coarse_a : Option Addr) (r1_Coarse_n r1_Coarse_e : Nat), ∀ (r1_Details_a : Option Addr) (r1_Details_n r1_Details_e : Nat), ∀ H' : AHeap, Grow H H' → ∀ lo2 : Nat, H.length ≤ lo2 → lo2 ≤ H'.length → SepL r1_Coarse_a lo2 → OwnS fF H' H.length r1_Coarse_a r1_Coarse_n r1_Coarse_e l_a_Coarse → OwnLL fF H' lo2 H'.length r1_Details_a r1_Details_n r1_Details_e l_a_Details → K r1_Coarse_a r1_Coarse_n r1_Coarse_e r1_Details_a r1_Details_n r1_Details_e H'))
theorem T_laws_toBands_i {a_Coarse_a : Option Addr} {a_Coarse_n : Nat} {a_Coarse_e : Nat} {a_Details_a : Option Addr} {a_Details_n : Nat} {a_Details_e : Nat} {H : AHeap} {K : (Option Addr) → Nat → Nat → (Option Addr) → Nat → Nat → AHeap → Prop} (h : ∃ (l_a_Coarse : List Nat), ∃ (l_a_Details : List (List Nat)), IsL fF H a_Coarse_a a_Coarse_n l_a_Coarse ∧ IsLL fF H a_Details_a a_Details_n l_a_Details ∧ l_a_Coarse.length < 1073741824 ∧ l_a_Details.length < 1073741824 ∧ (∀ y ∈ l_a_Details, y.length < 1073741824) ∧ ((∀ (r1_Coarse_a : Option Addr) (r1_Coarse_n r1_Coarse_e : Nat), ∀ (r1_Details_a : Option Addr) (r1_Details_n r1_Details_e : Nat), ∀ H' : AHeap, Grow H H' → ∀ lo2 : Nat, H.length ≤ lo2 → lo2 ≤ H'.length → SepL r1_Coarse_a lo2 → OwnS fF H' H.length r1_Coarse_a r1_Coarse_n r1_Coarse_e l_a_Coarse → OwnLL fF H' lo2 H'.length r1_Details_a r1_Details_n r1_Details_e l_a_Details → K r1_Coarse_a r1_Coarse_n r1_Coarse_e r1_Details_a r1_Details_n r1_Details_e H'))) : T_laws_toBands a_Coarse_a a_Coarse_n a_Coarse_e a_Details_a a_Details_n a_Details_e H K := h
theorem laws_toBands_id (a : List Nat) (l : List (List Nat)) : p_laws_toBands a l = (a, l) := rfl
/-! laws_toBands: function 29 -/
def E_laws_toBands : Env := envOf [(22, S_laws_toFloat32S), (115, S_laws_toFloat32SS)]
def F_laws_toBands : List Value → AHeap → (Value → AHeap → Prop) → Prop
  | [.agg ⟨[.slice a_Coarse_a a_Coarse_n a_Coarse_e, .slice a_Details_a a_Details_n a_Details_e]⟩], H, K => T_laws_toBands a_Coarse_a a_Coarse_n a_Coarse_e a_Details_a a_Details_n a_Details_e H fun (r1_Coarse_a : Option Addr) (r1_Coarse_n : Nat) (r1_Coarse_e : Nat) (r1_Details_a : Option Addr) (r1_Details_n : Nat) (r1_Details_e : Nat) (H' : AHeap) => K (.agg #[.slice r1_Coarse_a r1_Coarse_n r1_Coarse_e, .slice r1_Details_a r1_Details_n r1_Details_e]) H'
  | _, _, _ => False
def S_laws_toBands : FSpec := { F := F_laws_toBands, quiet := false, tame := true }
theorem laws_toBands_vc (a_Coarse_a : Option Addr) (a_Coarse_n : Nat) (a_Coarse_e : Nat) (a_Details_a : Option Addr) (a_Details_n : Nat) (a_Details_e : Nat) (H : AHeap) (K : Value → AHeap → Prop) : bodyL Try.prog E_laws_toBands Try.f29 [.agg #[.slice a_Coarse_a a_Coarse_n a_Coarse_e, .slice a_Details_a a_Details_n a_Details_e]] H K =
  (Al [.slice a_Coarse_a a_Coarse_n a_Coarse_e, .slice a_Details_a a_Details_n a_Details_e] H fun b1 H1 => Al [.slice none 0 0, .slice none 0 0] H1 fun b2 H2 => Al [.slice none 0 0, .slice none 0 0] H2 fun b3 H3 => ∃ x1_a : Option Addr, ∃ x1_n : Nat, ∃ x1_e : Nat,  rdC H3 b1 0 = some (.slice x1_a x1_n x1_e) ∧ T_laws_toFloat32S x1_a x1_n x1_e H3 fun (a1 : Option Addr) (r1 : Nat) (r2 : Nat) (H4 : AHeap) => isOwn H4 b3 ∧ (∃ l, rdN H4 b3 0 1 = some l) ∧ Lt (setC H4 b3 0 (.slice a1 r1 r2)) fun H5 => ∃ x2_a : Option Addr, ∃ x2_n : Nat, ∃ x2_e : Nat,  rdC H5 b1 1 = some (.slice x2_a x2_n x2_e) ∧ T_laws_toFloat32SS x2_a x2_n x2_e H5 fun (a2 : Option Addr) (r3 : Nat) (r4 : Nat) (H6 : AHeap) => isOwn H6 b3 ∧ (∃ l, rdN H6 b3 1 1 = some l) ∧ Lt (setC H6 b3 1 (.slice a2 r3 r4)) fun H7 => ∃ c1_a : Option Addr, ∃ c1_n : Nat, ∃ c1_e : Nat, ∃ c2_a : Option Addr, ∃ c2_n : Nat, ∃ c2_e : Nat,  rdN H7 b3 0 2 = some [.slice c1_a c1_n c1_e, .slice c2_a c2_n c2_e] ∧ isOwn H7 b2 ∧ (∃ l, rdN H7 b2 0 2 = some l) ∧ Lt (setN H7 b2 0 [.slice c1_a c1_n c1_e, .slice c2_a c2_n c2_e]) fun H8 => ∃ c3_a : Option Addr, ∃ c3_n : Nat, ∃ c3_e : Nat, ∃ c4_a : Option Addr, ∃ c4_n : Nat, ∃ c4_e : Nat,  rdN H8 b2 0 2 = some [.slice c3_a c3_n c3_e, .slice c4_a c4_n c4_e] ∧ K (.agg #[.slice c3_a c3_n c3_e, .slice c4_a c4_n c4_e]) H8) := by kernel_rfl
theorem E_laws_toBands_ok : ∀ g, FnOk Try.prog g (E_laws_toBands g) := FnOk.envOf (by
  intro x hx
  simp only [List.mem_cons, List.not_mem_nil, or_false] at hx
  rcases hx with rfl | rfl
  · exact laws_toFloat32S_ok
  · exact laws_toFloat32SS_ok)
set_option maxHeartbeats 1000000 in
theorem laws_toBands_main (a_Coarse_a : Option Addr) (a_Coarse_n : Nat) (a_Coarse_e : Nat) (a_Details_a : Option Addr) (a_Details_n : Nat) (a_Details_e : Nat) (H : AHeap) (K : Value → AHeap → Prop) (h : T_laws_toBands a_Coarse_a a_Coarse_n a_Coarse_e a_Details_a a_Details_n a_Details_e H fun (r1_Coarse_a : Option Addr) (r1_Coarse_n : Nat) (r1_Coarse_e : Nat) (r1_Details_a : Option Addr) (r1_Details_n : Nat) (r1_Details_e : Nat) (H' : AHeap) => K (.agg #[.slice r1_Coarse_a r1_Coarse_n r1_Coarse_e, .slice r1_Details_a r1_Details_n r1_Details_e]) H') : bodyL Try.prog E_laws_toBands Try.f29 [.agg #[.slice a_Coarse_a a_Coarse_n a_Coarse_e, .slice a_Details_a a_Details_n a_Details_e]] H K := by
  rw [laws_toBands_vc]
  obtain ⟨l_a_Coarse, l_a_Details, i_a_Coarse, i_a_Details, bd_110, bd_111, bb_l_a_Details, hk⟩ := h
  have hk : (∀ (r1_Coarse_a : Option Addr) (r1_Coarse_n r1_Coarse_e : Nat), ∀ (r1_Details_a : Option Addr) (r1_Details_n r1_Details_e : Nat), ∀ H' : AHeap, Grow H H' → ∀ lo2 : Nat, H.length ≤ lo2 → lo2 ≤ H'.length → SepL r1_Coarse_a lo2 → OwnS fF H' H.length r1_Coarse_a r1_Coarse_n r1_Coarse_e ((p_laws_toBands l_a_Coarse l_a_Details).1) → OwnLL fF H' lo2 H'.length r1_Details_a r1_Details_n r1_Details_e ((p_laws_toBands l_a_Coarse l_a_Details).2) → (fun (r1_Coarse_a : Option Addr) (r1_Coarse_n : Nat) (r1_Coarse_e : Nat) (r1_Details_a : Option Addr) (r1_Details_n : Nat) (r1_Details_e : Nat) (H' : AHeap) => K (.agg #[.slice r1_Coarse_a r1_Coarse_n r1_Coarse_e, .slice r1_Details_a r1_Details_n r1_Details_e]) H') r1_Coarse_a r1_Coarse_n r1_Coarse_e r1_Details_a r1_Details_n r1_Details_e H') := by rw [laws_toBands_id l_a_Coarse l_a_Details]; exact hk
  obtain rfl := i_a_Coarse.eqn
  obtain rfl := i_a_Details.eqn
  have e : (p_laws_toBands l_a_Coarse l_a_Details) = _ := rfl
  have e := e.trans (p_laws_toBands_eq l_a_Coarse l_a_Details)
  have g0 := Grow.refl H
  refine Al.intro (fun b_1 H_1 hb_2 hl_3 g_4 o_5 => ?_)
  have l_7 := g_4.1
  have g_8 := g0.trans g_4
  have l_9 := g_8.1
  have w_109 := o_5.lt
  refine Al.intro (fun b_10 H_2 hb_11 hl_12 g_13 o_14 => ?_)
  have l_16 := g_13.1
  have g_17 := g_8.trans g_13
  have l_18 := g_17.1
  have o_19 := o_5.grow g_13
  have w_20 := o_19.lt
  have w_108 := o_14.lt
  refine Al.intro (fun b_21 H_3 hb_22 hl_23 g_24 o_25 => ?_)
  have l_27 := g_24.1
  have g_28 := g_17.trans g_24
  have l_29 := g_28.1
  have o_30 := o_19.grow g_24
  have w_31 := o_30.lt
  have o_32 := o_14.grow g_24
  have w_33 := o_32.lt
  have w_107 := o_25.lt
  refine ⟨a_Coarse_a, l_a_Coarse.length, a_Coarse_e, (o_30.rdC _).trans rfl, ?_⟩
  refine T_laws_toFloat32S_i ⟨_, (i_a_Coarse.grow g_28), ω0, fun a_34 n_35 e_36 H_4 g_38 r_37 => ?_⟩
  have l_39 := g_38.1
  have g_40 := g_28.trans g_38
  have l_41 := g_40.1
  have o_42 := o_30.grow g_38
  have w_43 := o_42.lt
  have o_44 := o_32.grow g_38
  have w_45 := o_44.lt
  have o_46 := o_25.grow g_38
  have w_47 := o_46.lt
  obtain rfl := r_37.isL.eqn
  have u_48 := r_37.up
  have u_49 := r_37.lo
  refine Lt.set o_46 (Nat.le_of_ble_eq_true rfl) (fun H_5 hl_51 o_53 k_52 => ?_)
  have o_53 : Own H_5 b_21 [.slice a_34 ((l_a_Coarse).length) e_36, .slice none 0 0] := o_53
  have l_54 := k_52.1
  have g_55 := g_40.keep (b := b_21) ω2 k_52
  have l_56 := g_55.1
  have o_57 := o_42.keep ω2 k_52
  have w_58 := o_57.lt
  have o_59 := o_44.keep ω2 k_52
  have w_60 := o_59.lt
  have r_61 := r_37.keep u_48 ω2 k_52
  have w_106 := o_53.lt
  refine ⟨a_Details_a, l_a_Details.length, a_Details_e, (o_57.rdC _).trans rfl, ?_⟩
  refine T_laws_toFloat32SS_i ⟨l_a_Details, (i_a_Details.grow g_55), ω0, (by first | assumption | exact or_right (by assumption) (by omega) | exact or_right (by assumption : _ ∧ (_ ∨ _)).2 (by omega) | (intro y hy; simp only [List.mem_cons, List.not_mem_nil, or_false] at hy; first | omega | (subst hy; omega) | (rcases hy with rfl | rfl <;> omega) | (rcases hy with rfl | rfl | rfl <;> omega))), fun a_62 n_63 e_64 H_6 g_66 r_65 => ?_⟩
  have l_67 := g_66.1
  have g_68 := g_55.trans g_66
  have l_69 := g_68.1
  have o_70 := o_57.grow g_66
  have w_71 := o_70.lt
  have o_72 := o_59.grow g_66
  have w_73 := o_72.lt
  have o_74 := o_53.grow g_66
  have w_75 := o_74.lt
  have r_76 := r_61.grow g_66
  obtain rfl := r_65.isL.eqn
  have u_77 := r_65.up
  have u_78 := r_65.lo
  refine Lt.set o_74 (Nat.le_of_ble_eq_true rfl) (fun H_7 hl_80 o_82 k_81 => ?_)
  have o_82 : Own H_7 b_21 [.slice a_34 ((l_a_Coarse).length) e_36, .slice a_62 ((l_a_Details).length) e_64] := o_82
  have l_83 := k_81.1
  have g_84 := g_68.keep (b := b_21) ω2 k_81
  have l_85 := g_84.1
  have o_86 := o_70.keep ω2 k_81
  have w_87 := o_86.lt
  have o_88 := o_72.keep ω2 k_81
  have w_89 := o_88.lt
  have r_90 := r_76.keep u_48 ω2 k_81
  have r_91 := r_65.keep ω2 k_81
  have w_105 := o_82.lt
  refine ⟨a_34, (l_a_Coarse).length, e_36, a_62, (l_a_Details).length, e_64, (o_82.rdN (Nat.le_of_ble_eq_true rfl)).trans rfl, ?_⟩
  refine Lt.setN (n := 2) o_88 (Nat.le_of_ble_eq_true rfl) rfl (fun H_8 hl_92 o_94 k_93 => ?_)
  have o_94 : Own H_8 b_10 [.slice a_34 ((l_a_Coarse).length) e_36, .slice a_62 ((l_a_Details).length) e_64] := o_94
  have l_95 := k_93.1
  have g_96 := g_84.keep (b := b_10) ω2 k_93
  have l_97 := g_96.1
  have o_98 := o_86.keep ω2 k_93
  have w_99 := o_98.lt
  have o_100 := o_82.keep ω2 k_93
  have w_101 := o_100.lt
  have r_102 := r_90.keep u_48 ω2 k_93
  have r_103 := r_91.keep ω2 k_93
  have w_104 := o_94.lt
  refine ⟨a_34, (l_a_Coarse).length, e_36, a_62, (l_a_Details).length, e_64, (o_94.rdN (Nat.le_of_ble_eq_true rfl)).trans rfl, ?_⟩
  rw [e] at hk
  exact hk _ _ _ _ _ _ H_8 g_96 H_5.length ω2 ω2 (fun x hx => by have := u_48 x hx; omega) (r_102.weak ω2) (r_103.weak ω2 ω2 (Nat.le_refl _))
theorem laws_toBands_ok : FnOk Try.prog 29 S_laws_toBands := by
  refine FnOk.body mix_ok E_laws_toBands_ok Try.func29 rfl (by kernel_rfl) (by kernel_rfl) ?_ ?_ ?_ ?_ ?_
  · intro args H K K' h hk
    simp only [S_laws_toBands] at *
    unfold F_laws_toBands at *
    split at hk
    · obtain ⟨l_a_Coarse, l_a_Details, i_a_Coarse, i_a_Details, bd_110, bd_111, bb_l_a_Details, k⟩ := hk
      exact ⟨l_a_Coarse, l_a_Details, i_a_Coarse, i_a_Details, bd_110, bd_111, bb_l_a_Details, (fun r1_Coarse_a r1_Coarse_n r1_Coarse_e r1_Details_a r1_Details_n r1_Details_e H' gg lo2 el2 eh2 sp2 ow0 ow1 => h _ _ (k r1_Coarse_a r1_Coarse_n r1_Coarse_e r1_Details_a r1_Details_n r1_Details_e H' gg lo2 el2 eh2 sp2 ow0 ow1))⟩
    · exact hk.elim
  · intro hq; cases hq
  · intro args H K hk
    simp only [S_laws_toBands] at *
    unfold F_laws_toBands at *
    split at hk
    · obtain ⟨l_a_Coarse, l_a_Details, i_a_Coarse, i_a_Details, bd_110, bd_111, bb_l_a_Details, k⟩ := hk
      exact liveSLx fun a n e a2 n2 e2 H1 g lo2 el2 eh2 sp2 o o2 => ⟨_, _, k a n e a2 n2 e2 H1 g lo2 el2 eh2 sp2 o o2⟩
    · exact hk.elim
  · intro _ args H K hk
    simp only [S_laws_toBands] at *
    unfold F_laws_toBands at *
    split at hk
    · obtain ⟨l_a_Coarse, l_a_Details, i_a_Coarse, i_a_Details, bd_110, bd_111, bb_l_a_Details, k⟩ := hk
      exact ⟨l_a_Coarse, l_a_Details, i_a_Coarse, i_a_Details, bd_110, bd_111, bb_l_a_Details, (fun r1_Coarse_a r1_Coarse_n r1_Coarse_e r1_Details_a r1_Details_n r1_Details_e H' gg lo2 el2 eh2 sp2 ow0 ow1 => ⟨gg, k r1_Coarse_a r1_Coarse_n r1_Coarse_e r1_Details_a r1_Details_n r1_Details_e H' gg lo2 el2 eh2 sp2 ow0 ow1⟩)⟩
    · exact hk.elim
  · have mm := @laws_toBands_main
    have ml := fun (args : List Value) (H : AHeap) (K : Value → AHeap → Prop) => bodyL_body (P := Try.prog) (env := E_laws_toBands ) (fn := Try.f29) (args := args) (H := H) (K := K) E_laws_toBands_ok 
    revert mm ml
    generalize bodyK Try.prog E_laws_toBands Try.f29 = Q
    generalize bodyL Try.prog E_laws_toBands Try.f29 = QL
    intro mm ml args H K hk
    simp only [S_laws_toBands] at *
    unfold F_laws_toBands at *
    split at hk
    · exact ml _ H K (mm _ _ _ _ _ _ H K hk)
    · exact hk.elim
def p_spec_l01Finite (x : Nat) : Bool := feq .f32 (fsub .f32 x x) 0
def T_spec_l01Finite (x : Nat) (H : AHeap) (K : Bool → AHeap → Prop) : Prop := K (p_spec_l01Finite x) H

theorem T_spec_l01Finite_i {x : Nat} {H : AHeap} {K : Bool → AHeap → Prop} (h : K (p_spec_l01Finite x) H) : T_spec_l01Finite x H K := h
/-! spec_l01Finite: function 155 -/
def E_spec_l01Finite : Env := envOf []
def F_spec_l01Finite : List Value → AHeap → (Value → AHeap → Prop) → Prop
  | [.float .f32 x], H, K => T_spec_l01Finite x H fun (r1 : Bool) (H' : AHeap) => K (.bool r1) H'
  | _, _, _ => False
def S_spec_l01Finite : FSpec := { F := F_spec_l01Finite, quiet := true, tame := false }
theorem spec_l01Finite_vc (x : Nat) (H : AHeap) (K : Value → AHeap → Prop) : bodyL Try.prog E_spec_l01Finite Try.f155 [.float .f32 x] H K =
  (K (.bool (feq .f32 (fsub .f32 x x) 0)) H) := by kernel_rfl
theorem E_spec_l01Finite_ok : ∀ g, FnOk Try.prog g (E_spec_l01Finite g) := FnOk.envOf (by
  intro x hx; cases hx)
set_option maxHeartbeats 1000000 in
theorem spec_l01Finite_main (x : Nat) (H : AHeap) (K : Value → AHeap → Prop) (h : T_spec_l01Finite x H fun (r1 : Bool) (H' : AHeap) => K (.bool r1) H') : bodyL Try.prog E_spec_l01Finite Try.f155 [.float .f32 x] H K := by
  rw [spec_l01Finite_vc]
  unfold T_spec_l01Finite p_spec_l01Finite at h
  repeat' (first | exact h | (exfalso; simp_all; done) | (refine ⟨by decide, ?_⟩) | (refine Br.intro (fun hb => ?_) (fun hb => ?_) <;> (try simp only [hb, cond_true, cond_false, Bool.not_true, Bool.not_false] at h)))
theorem spec_l01Finite_ok : FnOk Try.prog 155 S_spec_l01Finite := by
  refine FnOk.body mix_ok E_spec_l01Finite_ok Try.func155 rfl (by kernel_rfl) (by kernel_rfl) ?_ ?_ ?_ ?_ ?_
  · intro args H K K' h hk
    simp only [S_spec_l01Finite] at *
    unfold F_spec_l01Finite at *
    split at hk
    · have k := hk
      exact h _ _ k
    · exact hk.elim
  · intro _ args H K hk
    simp only [S_spec_l01Finite] at *
    unfold F_spec_l01Finite at *
    split at hk
    · have k := hk
      exact ⟨_, k, fun K' k' => k'⟩
    · exact hk.elim
  · intro args H K hk
    simp only [S_spec_l01Finite] at *
    unfold F_spec_l01Finite at *
    split at hk
    · have k := hk
      exact ⟨_, _, k⟩
    · exact hk.elim
  · intro hq; cases hq
  · have mm := @spec_l01Finite_main
    have ml := fun (args : List Value) (H : AHeap) (K : Value → AHeap → Prop) => bodyL_body (P := Try.prog) (env := E_spec_l01Finite ) (fn := Try.f155) (args := args) (H := H) (K := K) E_spec_l01Finite_ok 
    revert mm ml
    generalize bodyK Try.prog E_spec_l01Finite Try.f155 = Q
    generalize bodyL Try.prog E_spec_l01Finite Try.f155 = QL
    intro mm ml args H K hk
    simp only [S_spec_l01Finite] at *
    unfold F_spec_l01Finite at *
    split at hk
    · exact ml _ H K (mm _ H K hk)
    · exact hk.elim

def p_spec_l02Finite_l1 (l_list : List Nat) : Nat → Bool → Int → Bool
  | 0, _, _ => false
  | μ + 1, t2, i => (bif decide ((i : Int) < (l_list.length : Int)) then (bif !((p_spec_l01Finite (((l_list).getD (i : Int).toNat 0)))) then false else (p_spec_l02Finite_l1 l_list μ t2 (i + 1))) else true)
def p_spec_l02Finite_l1_s := fun l_list μ t2 i => @p_spec_l02Finite_l1.eq_2 l_list t2 i μ
def p_spec_l02Finite (l_list : List Nat) : Bool := (p_spec_l02Finite_l1 l_list (Int.toNat ((l_list.length : Int) - (0 : Int)) + 1) false (0 : Int))
def p_spec_l02Finite_eq := @p_spec_l02Finite.eq_1
def T_spec_l02Finite (list_a : Option Addr) (list_n : Nat) (list_e : Nat) (H : AHeap) (K : Bool → AHeap → Prop) : Prop := ∃ (l_list : List Nat), IsL fF H list_a list_n l_list ∧ l_list.length < 1073741824 ∧ K (p_spec_l02Finite l_list) H
theorem T_spec_l02Finite_i {list_a : Option Addr} {list_n : Nat} {list_e : Nat} {H : AHeap} {K : Bool → AHeap → Prop} (h : ∃ (l_list : List Nat), IsL fF H list_a list_n l_list ∧ l_list.length < 1073741824 ∧ K (p_spec_l02Finite l_list) H) : T_spec_l02Finite list_a list_n list_e H K := h

/-! spec_l02Finite: function 104 -/
def E_spec_l02Finite : Env := envOf [(155, S_spec_l01Finite)]
def F_spec_l02Finite : List Value → AHeap → (Value → AHeap → Prop) → Prop
  | [.slice list_a list_n list_e], H, K => T_spec_l02Finite list_a list_n list_e H fun (r1 : Bool) (H' : AHeap) => K (.bool r1) H'
  | _, _, _ => False
def S_spec_l02Finite : FSpec := { F := F_spec_l02Finite, quiet := true, tame := false }
theorem spec_l02Finite_vc (list_a : Option Addr) (list_n : Nat) (list_e : Nat) (H : AHeap) (K : Value → AHeap → Prop) : bodyL Try.prog E_spec_l02Finite Try.f104 [.slice list_a list_n list_e] H K =
  (loopK (exL Try.prog E_spec_l02Finite (cl (cl (cr (cl (cr (bodyC Try.f104)))))) 9 4 [(0, 0)]) [.slice list_a list_n list_e, ud, ud, .int .i64 0, ud, ud, ud, ud, ud, ud, ud, ud, ud, ud, ud, ud] H (blockQ 0 (seqQ (exL Try.prog E_spec_l02Finite (cr (cr (bodyC Try.f104))) 4 4 []) (retK Try.prog Try.f104 K)))) := by kernel_rfl
abbrev spec_l02Finite_P1 (list_a : Option Addr) (list_e : Nat) (list_n : Nat) (i : Int)  : List Value := [.slice list_a list_n list_e, ud, ud, .int .i64 i, ud, ud, ud, ud, ud, ud, ud, ud, ud, ud, ud, ud]
theorem spec_l02Finite_r1 (list_a : Option Addr) (list_e : Nat) (list_n : Nat) (i : Int)  (H : AHeap) (R : Post) : exL Try.prog E_spec_l02Finite (cl (cl (cr (cl (cr (bodyC Try.f104)))))) 9 4 [(0, 0)] (spec_l02Finite_P1 list_a list_e list_n i) H R =
  (Br (decide ((i : Int) < (list_n : Int))) ((0 : Int) ≤ i ∧ i < (list_n : Int) ∧ ∃ b1 f1, (list_a : Option Addr) = some ⟨b1, f1, none⟩ ∧ ∃ x1 : Nat,  rdC H b1 (f1 + (i : Int).toNat * 1) = some (.float .f32 x1) ∧ T_spec_l01Finite x1 H fun (r1 : Bool) (H1 : AHeap) => Br (!r1) (R .ret [ud, ud, .bool false, ud, ud, ud, ud, ud, ud, ud, ud, ud, ud, ud, ud, ud] H1) (R .normal [.slice list_a list_n list_e, ud, ud, .int .i64 (IntKind.wrap .i64 (i + 1)), ud, ud, ud, ud, ud, ud, ud, ud, ud, ud, ud, ud] H1)) (R (.exit 0) [ud, ud, ud, ud, ud, ud, ud, ud, ud, ud, ud, ud, ud, ud, ud, ud] H)) := by kernel_rfl
def spec_l02Finite_I1 (list_a : Option Addr) (list_e : Nat) (list_n : Nat) (Inv : Nat → Int → AHeap → Prop) : Nat → List Value → AHeap → Prop := fun μ tm H => ∃ (i : Int), tm = (spec_l02Finite_P1 list_a list_e list_n i) ∧ Inv μ i H
theorem spec_l02Finite_L1 (list_a : Option Addr) (list_e : Nat) (list_n : Nat) {Q : Post} (Inv : Nat → Int → AHeap → Prop) (ν : Nat) (i : Int)  (H : AHeap) (h0 : Inv ν i H)
    (hs : ∀ (μ : Nat) (i : Int)  (H : AHeap), Inv μ i H → exL Try.prog E_spec_l02Finite (cl (cl (cr (cl (cr (bodyC Try.f104)))))) 9 4 [(0, 0)] (spec_l02Finite_P1 list_a list_e list_n i) H (loopQ (spec_l02Finite_I1 list_a list_e list_n Inv) μ Q)) : loopK (exL Try.prog E_spec_l02Finite (cl (cl (cr (cl (cr (bodyC Try.f104)))))) 9 4 [(0, 0)]) (spec_l02Finite_P1 list_a list_e list_n i) H Q :=
  ⟨spec_l02Finite_I1 list_a list_e list_n Inv, ν, ⟨i, rfl, h0⟩, fun μ tm H h => by obtain ⟨i, rfl, hI⟩ := h; exact hs μ i  H hI⟩
theorem spec_l02Finite_n1 {list_a : Option Addr} {list_e : Nat} {list_n : Nat} {Q : Post} {Inv : Nat → Int → AHeap → Prop} {μ : Nat} (μ' : Nat) {i : Int}  {H : AHeap} (hm : μ' < μ) (hI : Inv μ' i H) : loopQ (spec_l02Finite_I1 list_a list_e list_n Inv) μ Q .normal (spec_l02Finite_P1 list_a list_e list_n i) H := ⟨μ', hm, i, rfl, hI⟩
theorem spec_l02Finite_x1_0  (H : AHeap) (K : Value → AHeap → Prop)  {I : Nat → List Value → AHeap → Prop} {μ : Nat} : loopQ I μ (blockQ 0 (seqQ (exL Try.prog E_spec_l02Finite (cr (cr (bodyC Try.f104))) 4 4 []) (retK Try.prog Try.f104 K))) (.exit 0) [ud, ud, ud, ud, ud, ud, ud, ud, ud, ud, ud, ud, ud, ud, ud, ud] H =
  (K (.bool true) H) := by kernel_rfl
theorem spec_l02Finite_x1_ret (t2 : Bool) (H : AHeap) (K : Value → AHeap → Prop)  {I : Nat → List Value → AHeap → Prop} {μ : Nat} : loopQ I μ (blockQ 0 (seqQ (exL Try.prog E_spec_l02Finite (cr (cr (bodyC Try.f104))) 4 4 []) (retK Try.prog Try.f104 K))) .ret [ud, ud, .bool t2, ud, ud, ud, ud, ud, ud, ud, ud, ud, ud, ud, ud, ud] H =
  (K (.bool t2) H) := by kernel_rfl
theorem E_spec_l02Finite_ok : ∀ g, FnOk Try.prog g (E_spec_l02Finite g) := FnOk.envOf (by
  intro x hx
  simp only [List.mem_cons, List.not_mem_nil, or_false] at hx
  subst hx; exact spec_l01Finite_ok)
set_option maxHeartbeats 1000000 in
theorem spec_l02Finite_main (list_a : Option Addr) (list_n : Nat) (list_e : Nat) (H : AHeap) (K : Value → AHeap → Prop) (h : T_spec_l02Finite list_a list_n list_e H fun (r1 : Bool) (H' : AHeap) => K (.bool r1) H') : bodyL Try.prog E_spec_l02Finite Try.f104 [.slice list_a list_n list_e] H K := by
  rw [spec_l02Finite_vc]
  obtain ⟨l_list, i_list, bd_9, hk⟩ := h
  obtain rfl := i_list.eqn
  have e : (p_spec_l02Finite l_list) = _ := rfl
  have e := e.trans (p_spec_l02Finite_eq l_list)
  have g0 := Grow.refl H
  refine spec_l02Finite_L1 _ _ _ (fun (μ : Nat) (i : Int) (H_1 : AHeap) => ∃ (t2 : Bool), H = H_1 ∧ (0 : Int) ≤ i ∧ i ≤ (l_list.length : Int) ∧ (l_list.length : Int) - i ≤ (μ : Int) ∧ p_spec_l02Finite l_list = p_spec_l02Finite_l1 l_list (μ + 1) t2 i) (Int.toNat ((l_list.length : Int) - (0 : Int))) _ H ?_ ?_
  · exact ⟨_, rfl, ω3, ω3, ω2, e⟩
  · intro μ i  H_1 hI
    obtain ⟨t2, rfl, v_1, v_2, hμ, e⟩ := hI
    rw [spec_l02Finite_r1]
    have e := e.trans (p_spec_l02Finite_l1_s l_list μ t2 i)
    have l_3 := g0.1
    refine Br.intro (fun c_4 => ?_) (fun c_4 => ?_)
    · have e := e.trans (cond_t c_4)
      have c_4' := of_decide_eq_true c_4
      obtain ⟨b_5, f_6, q_7⟩ := ((i_list.grow g0)).pos ω0
      refine ⟨by omega, by omega, b_5, f_6, q_7, ?_⟩
      refine ⟨((l_list).getD (i : Int).toNat 0), (i_list).rd g0 q_7 ω2 _, ?_⟩
      refine T_spec_l01Finite_i ?_
      refine Br.intro (fun c_8 => ?_) (fun c_8 => ?_)
      · have e := e.trans (cond_t c_8)
        have c_8n := nf_of_t c_8
        rw [spec_l02Finite_x1_ret]
        rw [e] at hk
        exact hk
      · have e := e.trans (cond_f c_8)
        have c_8n := nt_of_f c_8
        rw [show IntKind.wrap .i64 (i + 1) = (i + 1) from wrap64 ω2 ω2]
        refine spec_l02Finite_n1 (μ - 1) ω8 ⟨_, rfl, ω1, ω1, ω8, (by rw [show μ - 1 + 1 = μ from by first | omega]; exact e)⟩
    · have e := e.trans (cond_f c_4)
      have c_4' := of_decide_eq_false c_4
      rw [spec_l02Finite_x1_0]
      rw [e] at hk
      exact hk
theorem spec_l02Finite_ok : FnOk Try.prog 104 S_spec_l02Finite := by
  refine FnOk.body mix_ok E_spec_l02Finite_ok Try.func104 rfl (by kernel_rfl) (by kernel_rfl) ?_ ?_ ?_ ?_ ?_
  · intro args H K K' h hk
    simp only [S_spec_l02Finite] at *
    unfold F_spec_l02Finite at *
    split at hk
    · obtain ⟨l_list, i_list, bd_9, k⟩ := hk
      exact ⟨l_list, i_list, bd_9, h _ _ k⟩
    · exact hk.elim
  · intro _ args H K hk
    simp only [S_spec_l02Finite] at *
    unfold F_spec_l02Finite at *
    split at hk
    · obtain ⟨l_list, i_list, bd_9, k⟩ := hk
      exact ⟨_, k, fun K' k' => ⟨l_list, i_list, bd_9, k'⟩⟩
    · exact hk.elim
  · intro args H K hk
    simp only [S_spec_l02Finite] at *
    unfold F_spec_l02Finite at *
    split at hk
    · obtain ⟨l_list, i_list, bd_9, k⟩ := hk
      exact ⟨_, _, k⟩
    · exact hk.elim
  · intro hq; cases hq
  · have mm := @spec_l02Finite_main
    have ml := fun (args : List Value) (H : AHeap) (K : Value → AHeap → Prop) => bodyL_body (P := Try.prog) (env := E_spec_l02Finite ) (fn := Try.f104) (args := args) (H := H) (K := K) E_spec_l02Finite_ok 
    revert mm ml
    generalize bodyK Try.prog E_spec_l02Finite Try.f104 = Q
    generalize bodyL Try.prog E_spec_l02Finite Try.f104 = QL
    intro mm ml args H K hk
    simp only [S_spec_l02Finite] at *
    unfold F_spec_l02Finite at *
    split at hk
    · exact ml _ H K (mm _ _ _ H K hk)
    · exact hk.elim

def p_spec_l03Bands_l1 (l_bp_Coarse : List Nat) (l_bp_Details : List (List Nat)) : Nat → Bool → Int → Bool
  | 0, _, _ => false
  | μ + 1, t2, t39 => (bif decide ((t39 : Int) < (l_bp_Details.length : Int)) then (bif decide ((((((l_bp_Details).getD (t39 : Int).toNat [])).length : Int) : Int) < 1) then false else (bif !((p_spec_l02Finite (((l_bp_Details).getD (t39 : Int).toNat [])))) then false else (bif decide ((0 : Int) < t39) then (bif (((((l_bp_Details).getD ((t39 - 1) : Int).toNat [])).length : Int) : Int) != IntKind.wrap .i64 (2 * (((((l_bp_Details).getD (t39 : Int).toNat [])).length : Int))) then false else (p_spec_l03Bands_l1 l_bp_Coarse l_bp_Details μ t2 (t39 + 1))) else (p_spec_l03Bands_l1 l_bp_Coarse l_bp_Details μ t2 (t39 + 1))))) else ((l_bp_Coarse.length : Int) : Int) == ((((l_bp_Details).getD (((l_bp_Details.length : Int) - 1) : Int).toNat [])).length : Int))
def p_spec_l03Bands_l1_s := fun l_bp_Coarse l_bp_Details μ t2 t39 => @p_spec_l03Bands_l1.eq_2 l_bp_Coarse l_bp_Details t2 t39 μ
def p_spec_l03Bands (l_bp_Coarse : List Nat) (l_bp_Details : List (List Nat)) : Bool := (bif decide (((l_bp_Details.length : Int) : Int) < 1) then false else (bif decide ((6 : Int) < (l_bp_Details.length : Int)) then false else (bif decide ((64 : Int) < ((((l_bp_Details).getD (0 : Int).toNat [])).length : Int)) then false else (bif !(p_spec_l02Finite l_bp_Coarse) then false else (p_spec_l03Bands_l1 l_bp_Coarse l_bp_Details (Int.toNat ((l_bp_Details.length : Int) - (0 : Int)) + 1) false (0 : Int))))))
def p_spec_l03Bands_eq := @p_spec_l03Bands.eq_1
def T_spec_l03Bands (b : Nat) (H : AHeap) (K : Bool → AHeap → Prop) : Prop := ∃ (bp_Coarse_a : Option Addr), ∃ (bp_Coarse_n : Nat), ∃ (bp_Coarse_e : Nat), ∃ (bp_Details_a : Option Addr), ∃ (bp_Details_n : Nat), ∃ (bp_Details_e : Nat), ∃ (l_bp_Coarse : List Nat), ∃ (l_bp_Details : List (List Nat)), rdN H b 0 2 = some [.slice bp_Coarse_a bp_Coarse_n bp_Coarse_e, .slice bp_Details_a bp_Details_n bp_Details_e] ∧ IsL fF H bp_Coarse_a bp_Coarse_n l_bp_Coarse ∧ IsLL fF H bp_Details_a bp_Details_n l_bp_Details ∧ l_bp_Coarse.length < 1073741824 ∧ l_bp_Details.length < 1073741824 ∧ (∀ y ∈ l_bp_Details, y.length < 1073741824) ∧ K (p_spec_l03Bands l_bp_Coarse l_bp_Details) H
theorem T_spec_l03Bands_i {b : Nat} {H : AHeap} {K : Bool → AHeap → Prop} (h : ∃ (bp_Coarse_a : Option Addr), ∃ (bp_Coarse_n : Nat), ∃ (bp_Coarse_e : Nat), ∃ (bp_Details_a : Option Addr), ∃ (bp_Details_n : Nat), ∃ (bp_Details_e : Nat), ∃ (l_bp_Coarse : List Nat), ∃ (l_bp_Details : List (List Nat)), rdN H b 0 2 = some [.slice bp_Coarse_a bp_Coarse_n bp_Coarse_e, .slice bp_Details_a bp_Details_n bp_Details_e] ∧ IsL fF H bp_Coarse_a bp_Coarse_n l_bp_Coarse ∧ IsLL fF H bp_Details_a bp_Details_n l_bp_Details ∧ l_bp_Coarse.length < 1073741824 ∧ l_bp_Details.length < 1073741824 ∧ (∀ y ∈ l_bp_Details, y.length < 1073741824) ∧ K (p_spec_l03Bands l_bp_Coarse l_bp_Details) H) : T_spec_l03Bands b H K := h
theorem spec_l03Bands_t {a : List Nat} {ds : List (List Nat)} (h : p_spec_l03Bands a ds = true) : 1 ≤ ds.length ∧ ds.length ≤ 6 ∧ 1 ≤ (ds.getD (0 : Int).toNat []).length ∧ (ds.getD (0 : Int).toNat []).length ≤ 64 := by
  rw [p_spec_l03Bands_eq] at h
  by_cases h1 : (ds.length : Int) < 1
  · rw [decide_eq_true h1] at h; cases h
  · rw [decide_eq_false h1, cond_false] at h
    by_cases h2 : (6 : Int) < (ds.length : Int)
    · rw [decide_eq_true h2] at h; cases h
    · rw [decide_eq_false h2, cond_false] at h
      by_cases h3 : (64 : Int) < ((ds.getD (0 : Int).toNat []).length : Int)
      · rw [decide_eq_true h3] at h; cases h
      · rw [decide_eq_false h3, cond_false] at h
        cases h4 : p_spec_l02Finite a
        · rw [h4] at h; cases h
        · rw [h4, Bool.not_true, cond_false] at h
          rw [p_spec_l03Bands_l1_s, decide_eq_true (show (0 : Int) < (ds.length : Int) by omega), cond_true] at h
          by_cases h6 : ((ds.getD (0 : Int).toNat []).length : Int) < 1
          · rw [decide_eq_true h6] at h; cases h
          · exact ⟨by omega, by omega, by omega, by omega⟩
/-! spec_l03Bands: function 112 -/
def E_spec_l03Bands : Env := envOf [(104, S_spec_l02Finite)]
def F_spec_l03Bands : List Value → AHeap → (Value → AHeap → Prop) → Prop
  | [.pointer (some ⟨b, 0, none⟩)], H, K => T_spec_l03Bands b H fun (r1 : Bool) (H' : AHeap) => K (.bool r1) H'
  | _, _, _ => False
def S_spec_l03Bands : FSpec := { F := F_spec_l03Bands, quiet := true, tame := false }
theorem spec_l03Bands_vc (b : Nat) (H : AHeap) (K : Value → AHeap → Prop) : bodyL Try.prog E_spec_l03Bands Try.f112 [.pointer (some ⟨b, 0, none⟩)] H K =
  (∃ x1_a : Option Addr, ∃ x1_n : Nat, ∃ x1_e : Nat,  rdC H b 1 = some (.slice x1_a x1_n x1_e) ∧ Br (decide (((x1_n : Int) : Int) < 1)) (K (.bool false) H) (Br (decide ((6 : Int) < (x1_n : Int))) (K (.bool false) H) (∃ x2_a : Option Addr, ∃ x2_n : Nat, ∃ x2_e : Nat,  rdC H b 1 = some (.slice x2_a x2_n x2_e) ∧ (0 : Int) ≤ 0 ∧ 0 < (x2_n : Int) ∧ ∃ b1 f1, (x2_a : Option Addr) = some ⟨b1, f1, none⟩ ∧ ∃ x3_a : Option Addr, ∃ x3_n : Nat, ∃ x3_e : Nat,  rdC H b1 (f1 + (0 : Int).toNat * 1) = some (.slice x3_a x3_n x3_e) ∧ Br (decide ((64 : Int) < (x3_n : Int))) (K (.bool false) H) (∃ x4_a : Option Addr, ∃ x4_n : Nat, ∃ x4_e : Nat,  rdC H b 0 = some (.slice x4_a x4_n x4_e) ∧ T_spec_l02Finite x4_a x4_n x4_e H fun (r1 : Bool) (H1 : AHeap) => Br (!r1) (K (.bool false) H1) (∃ x5_a : Option Addr, ∃ x5_n : Nat, ∃ x5_e : Nat,  rdC H1 b 1 = some (.slice x5_a x5_n x5_e) ∧ loopK (exL Try.prog E_spec_l03Bands (cl (cl (cr (cl (cr (cr (cr (bodyC Try.f112)))))))) 824633720841 4 [(0, 9)]) [.pointer (some ⟨b, 0, none⟩), ud, ud, .int .i64 (x1_n : Int), ud, ud, ud, ud, ud, ud, ud, ud, ud, ud, ud, ud, ud, ud, ud, ud, ud, ud, ud, ud, ud, ud, ud, ud, ud, ud, ud, ud, ud, ud, ud, ud, ud, ud, .int .i64 (x5_n : Int), .int .i64 0, ud, ud, ud, ud, ud, ud, ud, ud, ud, ud, ud, ud, ud, ud, ud, ud, ud, ud, ud, ud, ud, ud, ud, ud, ud, ud, ud, ud, ud, ud, ud, ud, ud, ud, ud, ud, ud, ud, ud, ud, ud, ud, ud, ud, ud, ud, ud, ud, ud, ud, ud, ud, ud, ud, ud, ud, ud, ud, ud, ud, ud, ud, ud] H1 (blockQ 0 (seqQ (exL Try.prog E_spec_l03Bands (cr (cr (cr (cr (bodyC Try.f112))))) 4 4 []) (retK Try.prog Try.f112 K)))))))) := by kernel_rfl
abbrev spec_l03Bands_P1 (b : Nat) (x1_n : Nat) (x5_n : Nat) (t39 : Int)  : List Value := [.pointer (some ⟨b, 0, none⟩), ud, ud, .int .i64 (x1_n : Int), ud, ud, ud, ud, ud, ud, ud, ud, ud, ud, ud, ud, ud, ud, ud, ud, ud, ud, ud, ud, ud, ud, ud, ud, ud, ud, ud, ud, ud, ud, ud, ud, ud, ud, .int .i64 (x5_n : Int), .int .i64 t39, ud, ud, ud, ud, ud, ud, ud, ud, ud, ud, ud, ud, ud, ud, ud, ud, ud, ud, ud, ud, ud, ud, ud, ud, ud, ud, ud, ud, ud, ud, ud, ud, ud, ud, ud, ud, ud, ud, ud, ud, ud, ud, ud, ud, ud, ud, ud, ud, ud, ud, ud, ud, ud, ud, ud, ud, ud, ud, ud, ud, ud, ud, ud]
theorem spec_l03Bands_r1 (b : Nat) (x1_n : Nat) (x5_n : Nat) (t39 : Int)  (H : AHeap) (R : Post) : exL Try.prog E_spec_l03Bands (cl (cl (cr (cl (cr (cr (cr (bodyC Try.f112)))))))) 824633720841 4 [(0, 9)] (spec_l03Bands_P1 b x1_n x5_n t39) H R =
  (Br (decide ((t39 : Int) < (x5_n : Int))) (∃ x6_a : Option Addr, ∃ x6_n : Nat, ∃ x6_e : Nat,  rdC H b 1 = some (.slice x6_a x6_n x6_e) ∧ (0 : Int) ≤ t39 ∧ t39 < (x6_n : Int) ∧ ∃ b2 f2, (x6_a : Option Addr) = some ⟨b2, f2, none⟩ ∧ ∃ x7_a : Option Addr, ∃ x7_n : Nat, ∃ x7_e : Nat,  rdC H b2 (f2 + (t39 : Int).toNat * 1) = some (.slice x7_a x7_n x7_e) ∧ Br (decide (((x7_n : Int) : Int) < 1)) (R .ret [ud, ud, .bool false, ud, ud, ud, ud, ud, ud, ud, ud, ud, ud, ud, ud, ud, ud, ud, ud, ud, ud, ud, ud, ud, ud, ud, ud, ud, ud, ud, ud, ud, ud, ud, ud, ud, ud, ud, ud, ud, ud, ud, ud, ud, ud, ud, ud, ud, ud, ud, ud, ud, ud, ud, ud, ud, ud, ud, ud, ud, ud, ud, ud, ud, ud, ud, ud, ud, ud, ud, ud, ud, ud, ud, ud, ud, ud, ud, ud, ud, ud, ud, ud, ud, ud, ud, ud, ud, ud, ud, ud, ud, ud, ud, ud, ud, ud, ud, ud, ud, ud, ud, ud] H) (∃ x8_a : Option Addr, ∃ x8_n : Nat, ∃ x8_e : Nat,  rdC H b 1 = some (.slice x8_a x8_n x8_e) ∧ (0 : Int) ≤ t39 ∧ t39 < (x8_n : Int) ∧ ∃ b3 f3, (x8_a : Option Addr) = some ⟨b3, f3, none⟩ ∧ ∃ x9_a : Option Addr, ∃ x9_n : Nat, ∃ x9_e : Nat,  rdC H b3 (f3 + (t39 : Int).toNat * 1) = some (.slice x9_a x9_n x9_e) ∧ T_spec_l02Finite x9_a x9_n x9_e H fun (r2 : Bool) (H2 : AHeap) => Br (!r2) (R .ret [ud, ud, .bool false, ud, ud, ud, ud, ud, ud, ud, ud, ud, ud, ud, ud, ud, ud, ud, ud, ud, ud, ud, ud, ud, ud, ud, ud, ud, ud, ud, ud, ud, ud, ud, ud, ud, ud, ud, ud, ud, ud, ud, ud, ud, ud, ud, ud, ud, ud, ud, ud, ud, ud, ud, ud, ud, ud, ud, ud, ud, ud, ud, ud, ud, ud, ud, ud, ud, ud, ud, ud, ud, ud, ud, ud, ud, ud, ud, ud, ud, ud, ud, ud, ud, ud, ud, ud, ud, ud, ud, ud, ud, ud, ud, ud, ud, ud, ud, ud, ud, ud, ud, ud] H2) (Br (decide ((0 : Int) < t39)) (∃ x10_a : Option Addr, ∃ x10_n : Nat, ∃ x10_e : Nat,  rdC H2 b 1 = some (.slice x10_a x10_n x10_e) ∧ (0 : Int) ≤ IntKind.wrap .i64 (t39 - 1) ∧ IntKind.wrap .i64 (t39 - 1) < (x10_n : Int) ∧ ∃ b4 f4, (x10_a : Option Addr) = some ⟨b4, f4, none⟩ ∧ ∃ x11_a : Option Addr, ∃ x11_n : Nat, ∃ x11_e : Nat,  rdC H2 b4 (f4 + (IntKind.wrap .i64 (t39 - 1) : Int).toNat * 1) = some (.slice x11_a x11_n x11_e) ∧ ∃ x12_a : Option Addr, ∃ x12_n : Nat, ∃ x12_e : Nat,  rdC H2 b 1 = some (.slice x12_a x12_n x12_e) ∧ (0 : Int) ≤ t39 ∧ t39 < (x12_n : Int) ∧ ∃ b5 f5, (x12_a : Option Addr) = some ⟨b5, f5, none⟩ ∧ ∃ x13_a : Option Addr, ∃ x13_n : Nat, ∃ x13_e : Nat,  rdC H2 b5 (f5 + (t39 : Int).toNat * 1) = some (.slice x13_a x13_n x13_e) ∧ Br (((x11_n : Int) : Int) != IntKind.wrap .i64 (2 * (x13_n : Int))) (R .ret [ud, ud, .bool false, ud, ud, ud, ud, ud, ud, ud, ud, ud, ud, ud, ud, ud, ud, ud, ud, ud, ud, ud, ud, ud, ud, ud, ud, ud, ud, ud, ud, ud, ud, ud, ud, ud, ud, ud, ud, ud, ud, ud, ud, ud, ud, ud, ud, ud, ud, ud, ud, ud, ud, ud, ud, ud, ud, ud, ud, ud, ud, ud, ud, ud, ud, ud, ud, ud, ud, ud, ud, ud, ud, ud, ud, ud, ud, ud, ud, ud, ud, ud, ud, ud, ud, ud, ud, ud, ud, ud, ud, ud, ud, ud, ud, ud, ud, ud, ud, ud, ud, ud, ud] H2) (R .normal [.pointer (some ⟨b, 0, none⟩), ud, ud, .int .i64 (x1_n : Int), ud, ud, ud, ud, ud, ud, ud, ud, ud, ud, ud, ud, ud, ud, ud, ud, ud, ud, ud, ud, ud, ud, ud, ud, ud, ud, ud, ud, ud, ud, ud, ud, ud, ud, .int .i64 (x5_n : Int), .int .i64 (IntKind.wrap .i64 (t39 + 1)), ud, ud, ud, ud, ud, ud, ud, ud, ud, ud, ud, ud, ud, ud, ud, ud, ud, ud, ud, ud, ud, ud, ud, ud, ud, ud, ud, ud, ud, ud, ud, ud, ud, ud, ud, ud, ud, ud, ud, ud, ud, ud, ud, ud, ud, ud, ud, ud, ud, ud, ud, ud, ud, ud, ud, ud, ud, ud, ud, ud, ud, ud, ud] H2)) (R .normal [.pointer (some ⟨b, 0, none⟩), ud, ud, .int .i64 (x1_n : Int), ud, ud, ud, ud, ud, ud, ud, ud, ud, ud, ud, ud, ud, ud, ud, ud, ud, ud, ud, ud, ud, ud, ud, ud, ud, ud, ud, ud, ud, ud, ud, ud, ud, ud, .int .i64 (x5_n : Int), .int .i64 (IntKind.wrap .i64 (t39 + 1)), ud, ud, ud, ud, ud, ud, ud, ud, ud, ud, ud, ud, ud, ud, ud, ud, ud, ud, ud, ud, ud, ud, ud, ud, ud, ud, ud, ud, ud, ud, ud, ud, ud, ud, ud, ud, ud, ud, ud, ud, ud, ud, ud, ud, ud, ud, ud, ud, ud, ud, ud, ud, ud, ud, ud, ud, ud, ud, ud, ud, ud, ud, ud] H2)))) (R (.exit 0) [.pointer (some ⟨b, 0, none⟩), ud, ud, .int .i64 (x1_n : Int), ud, ud, ud, ud, ud, ud, ud, ud, ud, ud, ud, ud, ud, ud, ud, ud, ud, ud, ud, ud, ud, ud, ud, ud, ud, ud, ud, ud, ud, ud, ud, ud, ud, ud, ud, ud, ud, ud, ud, ud, ud, ud, ud, ud, ud, ud, ud, ud, ud, ud, ud, ud, ud, ud, ud, ud, ud, ud, ud, ud, ud, ud, ud, ud, ud, ud, ud, ud, ud, ud, ud, ud, ud, ud, ud, ud, ud, ud, ud, ud, ud, ud, ud, ud, ud, ud, ud, ud, ud, ud, ud, ud, ud, ud, ud, ud, ud, ud, ud] H)) := by kernel_rfl
def spec_l03Bands_I1 (b : Nat) (x1_n : Nat) (x5_n : Nat) (Inv : Nat → Int → AHeap → Prop) : Nat → List Value → AHeap → Prop := fun μ tm H => ∃ (t39 : Int), tm = (spec_l03Bands_P1 b x1_n x5_n t39) ∧ Inv μ t39 H
theorem spec_l03Bands_L1 (b : Nat) (x1_n : Nat) (x5_n : Nat) {Q : Post} (Inv : Nat → Int → AHeap → Prop) (ν : Nat) (t39 : Int)  (H : AHeap) (h0 : Inv ν t39 H)
    (hs : ∀ (μ : Nat) (t39 : Int)  (H : AHeap), Inv μ t39 H → exL Try.prog E_spec_l03Bands (cl (cl (cr (cl (cr (cr (cr (bodyC Try.f112)))))))) 824633720841 4 [(0, 9)] (spec_l03Bands_P1 b x1_n x5_n t39) H (loopQ (spec_l03Bands_I1 b x1_n x5_n Inv) μ Q)) : loopK (exL Try.prog E_spec_l03Bands (cl (cl (cr (cl (cr (cr (cr (bodyC Try.f112)))))))) 824633720841 4 [(0, 9)]) (spec_l03Bands_P1 b x1_n x5_n t39) H Q :=
  ⟨spec_l03Bands_I1 b x1_n x5_n Inv, ν, ⟨t39, rfl, h0⟩, fun μ tm H h => by obtain ⟨t39, rfl, hI⟩ := h; exact hs μ t39  H hI⟩
theorem spec_l03Bands_n1 {b : Nat} {x1_n : Nat} {x5_n : Nat} {Q : Post} {Inv : Nat → Int → AHeap → Prop} {μ : Nat} (μ' : Nat) {t39 : Int}  {H : AHeap} (hm : μ' < μ) (hI : Inv μ' t39 H) : loopQ (spec_l03Bands_I1 b x1_n x5_n Inv) μ Q .normal (spec_l03Bands_P1 b x1_n x5_n t39) H := ⟨μ', hm, t39, rfl, hI⟩
theorem spec_l03Bands_x1_0 (b : Nat) (x1_n : Nat) (H : AHeap) (K : Value → AHeap → Prop)  {I : Nat → List Value → AHeap → Prop} {μ : Nat} : loopQ I μ (blockQ 0 (seqQ (exL Try.prog E_spec_l03Bands (cr (cr (cr (cr (bodyC Try.f112))))) 4 4 []) (retK Try.prog Try.f112 K))) (.exit 0) [.pointer (some ⟨b, 0, none⟩), ud, ud, .int .i64 (x1_n : Int), ud, ud, ud, ud, ud, ud, ud, ud, ud, ud, ud, ud, ud, ud, ud, ud, ud, ud, ud, ud, ud, ud, ud, ud, ud, ud, ud, ud, ud, ud, ud, ud, ud, ud, ud, ud, ud, ud, ud, ud, ud, ud, ud, ud, ud, ud, ud, ud, ud, ud, ud, ud, ud, ud, ud, ud, ud, ud, ud, ud, ud, ud, ud, ud, ud, ud, ud, ud, ud, ud, ud, ud, ud, ud, ud, ud, ud, ud, ud, ud, ud, ud, ud, ud, ud, ud, ud, ud, ud, ud, ud, ud, ud, ud, ud, ud, ud, ud, ud] H =
  (∃ x14_a : Option Addr, ∃ x14_n : Nat, ∃ x14_e : Nat,  rdC H b 0 = some (.slice x14_a x14_n x14_e) ∧ ∃ x15_a : Option Addr, ∃ x15_n : Nat, ∃ x15_e : Nat,  rdC H b 1 = some (.slice x15_a x15_n x15_e) ∧ (0 : Int) ≤ IntKind.wrap .i64 ((x1_n : Int) - 1) ∧ IntKind.wrap .i64 ((x1_n : Int) - 1) < (x15_n : Int) ∧ ∃ b6 f6, (x15_a : Option Addr) = some ⟨b6, f6, none⟩ ∧ ∃ x16_a : Option Addr, ∃ x16_n : Nat, ∃ x16_e : Nat,  rdC H b6 (f6 + (IntKind.wrap .i64 ((x1_n : Int) - 1) : Int).toNat * 1) = some (.slice x16_a x16_n x16_e) ∧ K (.bool (((x14_n : Int) : Int) == (x16_n : Int))) H) := by kernel_rfl
theorem spec_l03Bands_x1_ret (t2 : Bool) (H : AHeap) (K : Value → AHeap → Prop)  {I : Nat → List Value → AHeap → Prop} {μ : Nat} : loopQ I μ (blockQ 0 (seqQ (exL Try.prog E_spec_l03Bands (cr (cr (cr (cr (bodyC Try.f112))))) 4 4 []) (retK Try.prog Try.f112 K))) .ret [ud, ud, .bool t2, ud, ud, ud, ud, ud, ud, ud, ud, ud, ud, ud, ud, ud, ud, ud, ud, ud, ud, ud, ud, ud, ud, ud, ud, ud, ud, ud, ud, ud, ud, ud, ud, ud, ud, ud, ud, ud, ud, ud, ud, ud, ud, ud, ud, ud, ud, ud, ud, ud, ud, ud, ud, ud, ud, ud, ud, ud, ud, ud, ud, ud, ud, ud, ud, ud, ud, ud, ud, ud, ud, ud, ud, ud, ud, ud, ud, ud, ud, ud, ud, ud, ud, ud, ud, ud, ud, ud, ud, ud, ud, ud, ud, ud, ud, ud, ud, ud, ud, ud, ud] H =
  (K (.bool t2) H) := by kernel_rfl
theorem E_spec_l03Bands_ok : ∀ g, FnOk Try.prog g (E_spec_l03Bands g) := FnOk.envOf (by
  intro x hx
  simp only [List.mem_cons, List.not_mem_nil, or_false] at hx
  subst hx; exact spec_l02Finite_ok)
set_option maxHeartbeats 1000000 in
theorem spec_l03Bands_main (b : Nat) (H : AHeap) (K : Value → AHeap → Prop) (h : T_spec_l03Bands b H fun (r1 : Bool) (H' : AHeap) => K (.bool r1) H') : bodyL Try.prog E_spec_l03Bands Try.f112 [.pointer (some ⟨b, 0, none⟩)] H K := by
  rw [spec_l03Bands_vc]
  obtain ⟨bp_Coarse_a, bp_Coarse_n, bp_Coarse_e, bp_Details_a, bp_Details_n, bp_Details_e, l_bp_Coarse, l_bp_Details, i_b, i_bp_Coarse, i_bp_Details, bd_67, bd_68, bb_l_bp_Details, hk⟩ := h
  obtain rfl := i_bp_Coarse.eqn
  obtain rfl := i_bp_Details.eqn
  have e : (p_spec_l03Bands l_bp_Coarse l_bp_Details) = _ := rfl
  have e := e.trans (p_spec_l03Bands_eq l_bp_Coarse l_bp_Details)
  have g0 := Grow.refl H
  refine ⟨bp_Details_a, l_bp_Details.length, bp_Details_e, (rdN_at (rdN_grow g0 i_b) 1 (Nat.le_of_ble_eq_true rfl)).trans rfl, ?_⟩
  refine Br.intro (fun c_1 => ?_) (fun c_1 => ?_)
  · have e := e.trans (cond_t c_1)
    have c_1' := of_decide_eq_true c_1
    rw [e] at hk
    exact hk
  · have e := e.trans (cond_f c_1)
    have c_1' := of_decide_eq_false c_1
    refine Br.intro (fun c_2 => ?_) (fun c_2 => ?_)
    · have e := e.trans (cond_t c_2)
      have c_2' := of_decide_eq_true c_2
      rw [e] at hk
      exact hk
    · have e := e.trans (cond_f c_2)
      have c_2' := of_decide_eq_false c_2
      refine ⟨bp_Details_a, l_bp_Details.length, bp_Details_e, (rdN_at (rdN_grow g0 i_b) 1 (Nat.le_of_ble_eq_true rfl)).trans rfl, ?_⟩
      obtain ⟨b_3, f_4, q_5⟩ := ((i_bp_Details.grow g0)).pos ω0
      refine ⟨by omega, by omega, b_3, f_4, q_5, ?_⟩
      obtain ⟨a_6, n_7, e_8, r_9, i_10⟩ := (i_bp_Details).rd (i := (0 : Int).toNat) g0 q_5 ω2
      obtain rfl := i_10.eqn
      refine ⟨a_6, _, e_8, r_9, ?_⟩
      have z_11 := getD_len bb_l_bp_Details (0 : Int).toNat
      refine Br.intro (fun c_12 => ?_) (fun c_12 => ?_)
      · have e := e.trans (cond_t c_12)
        have c_12' := of_decide_eq_true c_12
        rw [e] at hk
        exact hk
      · have e := e.trans (cond_f c_12)
        have c_12' := of_decide_eq_false c_12
        refine ⟨bp_Coarse_a, l_bp_Coarse.length, bp_Coarse_e, (rdN_at (rdN_grow g0 i_b) 0 (Nat.le_of_ble_eq_true rfl)).trans rfl, ?_⟩
        refine T_spec_l02Finite_i ⟨_, (i_bp_Coarse.grow g0), ω0, ?_⟩
        refine Br.intro (fun c_13 => ?_) (fun c_13 => ?_)
        · have e := e.trans (cond_t c_13)
          have c_13n := nf_of_t c_13
          rw [e] at hk
          exact hk
        · have e := e.trans (cond_f c_13)
          have c_13n := nt_of_f c_13
          refine ⟨bp_Details_a, l_bp_Details.length, bp_Details_e, (rdN_at (rdN_grow g0 i_b) 1 (Nat.le_of_ble_eq_true rfl)).trans rfl, ?_⟩
          refine spec_l03Bands_L1 _ _ _ (fun (μ : Nat) (t39 : Int) (H_1 : AHeap) => ∃ (t2 : Bool), H = H_1 ∧ (0 : Int) ≤ t39 ∧ t39 ≤ (l_bp_Details.length : Int) ∧ (l_bp_Details.length : Int) - t39 ≤ (μ : Int) ∧ p_spec_l03Bands l_bp_Coarse l_bp_Details = p_spec_l03Bands_l1 l_bp_Coarse l_bp_Details (μ + 1) t2 t39) (Int.toNat ((l_bp_Details.length : Int) - (0 : Int))) _ H ?_ ?_
          · exact ⟨_, rfl, ω3, ω3, ω2, e⟩
          · intro μ t39  H_1 hI
            obtain ⟨t2, rfl, v_14, v_15, hμ, e⟩ := hI
            rw [spec_l03Bands_r1]
            have e := e.trans (p_spec_l03Bands_l1_s l_bp_Coarse l_bp_Details μ t2 t39)
            have l_16 := g0.1
            refine Br.intro (fun c_17 => ?_) (fun c_17 => ?_)
            · have e := e.trans (cond_t c_17)
              have c_17' := of_decide_eq_true c_17
              refine ⟨bp_Details_a, l_bp_Details.length, bp_Details_e, (rdN_at (rdN_grow g0 i_b) 1 (Nat.le_of_ble_eq_true rfl)).trans rfl, ?_⟩
              obtain ⟨b_18, f_19, q_20⟩ := ((i_bp_Details.grow g0)).pos ω0
              refine ⟨by omega, by omega, b_18, f_19, q_20, ?_⟩
              obtain ⟨a_21, n_22, e_23, r_24, i_25⟩ := (i_bp_Details).rd (i := (t39 : Int).toNat) g0 q_20 ω2
              obtain rfl := i_25.eqn
              refine ⟨a_21, _, e_23, r_24, ?_⟩
              have z_26 := getD_len bb_l_bp_Details (t39 : Int).toNat
              refine Br.intro (fun c_27 => ?_) (fun c_27 => ?_)
              · have e := e.trans (cond_t c_27)
                have c_27' := of_decide_eq_true c_27
                rw [spec_l03Bands_x1_ret]
                rw [e] at hk
                exact hk
              · have e := e.trans (cond_f c_27)
                have c_27' := of_decide_eq_false c_27
                refine ⟨bp_Details_a, l_bp_Details.length, bp_Details_e, (rdN_at (rdN_grow g0 i_b) 1 (Nat.le_of_ble_eq_true rfl)).trans rfl, ?_⟩
                obtain ⟨b_28, f_29, q_30⟩ := ((i_bp_Details.grow g0)).pos ω0
                refine ⟨by omega, by omega, b_28, f_29, q_30, ?_⟩
                obtain ⟨a_31, n_32, e_33, r_34, i_35⟩ := (i_bp_Details).rd (i := (t39 : Int).toNat) g0 q_30 ω2
                obtain rfl := i_35.eqn
                refine ⟨a_31, _, e_33, r_34, ?_⟩
                have z_36 := getD_len bb_l_bp_Details (t39 : Int).toNat
                refine T_spec_l02Finite_i ⟨_, (i_35.grow g0), ω0, ?_⟩
                refine Br.intro (fun c_37 => ?_) (fun c_37 => ?_)
                · have e := e.trans (cond_t c_37)
                  have c_37n := nf_of_t c_37
                  rw [spec_l03Bands_x1_ret]
                  rw [e] at hk
                  exact hk
                · have e := e.trans (cond_f c_37)
                  have c_37n := nt_of_f c_37
                  refine Br.intro (fun c_38 => ?_) (fun c_38 => ?_)
                  · have e := e.trans (cond_t c_38)
                    have c_38' := of_decide_eq_true c_38
                    refine ⟨bp_Details_a, l_bp_Details.length, bp_Details_e, (rdN_at (rdN_grow g0 i_b) 1 (Nat.le_of_ble_eq_true rfl)).trans rfl, ?_⟩
                    rw [show IntKind.wrap .i64 (t39 - 1) = (t39 - 1) from wrap64 ω2 ω2]
                    obtain ⟨b_39, f_40, q_41⟩ := ((i_bp_Details.grow g0)).pos ω0
                    refine ⟨by omega, by omega, b_39, f_40, q_41, ?_⟩
                    obtain ⟨a_42, n_43, e_44, r_45, i_46⟩ := (i_bp_Details).rd (i := ((t39 - 1) : Int).toNat) g0 q_41 ω2
                    obtain rfl := i_46.eqn
                    refine ⟨a_42, _, e_44, r_45, ?_⟩
                    have z_47 := getD_len bb_l_bp_Details ((t39 - 1) : Int).toNat
                    refine ⟨bp_Details_a, l_bp_Details.length, bp_Details_e, (rdN_at (rdN_grow g0 i_b) 1 (Nat.le_of_ble_eq_true rfl)).trans rfl, ?_⟩
                    obtain ⟨b_48, f_49, q_50⟩ := ((i_bp_Details.grow g0)).pos ω0
                    refine ⟨by omega, by omega, b_48, f_49, q_50, ?_⟩
                    obtain ⟨a_51, n_52, e_53, r_54, i_55⟩ := (i_bp_Details).rd (i := (t39 : Int).toNat) g0 q_50 ω2
                    obtain rfl := i_55.eqn
                    refine ⟨a_51, _, e_53, r_54, ?_⟩
                    have z_56 := getD_len bb_l_bp_Details (t39 : Int).toNat
                    refine Br.intro (fun c_57 => ?_) (fun c_57 => ?_)
                    · have e := e.trans (cond_t c_57)
                      have c_57' := ine_t c_57
                      rw [spec_l03Bands_x1_ret]
                      rw [e] at hk
                      exact hk
                    · have e := e.trans (cond_f c_57)
                      have c_57' := ine_f c_57
                      rw [show IntKind.wrap .i64 (t39 + 1) = (t39 + 1) from wrap64 ω2 ω2]
                      refine spec_l03Bands_n1 (μ - 1) ω8 ⟨_, rfl, ω1, ω1, ω8, (by rw [show μ - 1 + 1 = μ from by first | omega]; exact e)⟩
                  · have e := e.trans (cond_f c_38)
                    have c_38' := of_decide_eq_false c_38
                    rw [show IntKind.wrap .i64 (t39 + 1) = (t39 + 1) from wrap64 ω2 ω2]
                    refine spec_l03Bands_n1 (μ - 1) ω8 ⟨_, rfl, ω1, ω1, ω8, (by rw [show μ - 1 + 1 = μ from by first | omega]; exact e)⟩
            · have e := e.trans (cond_f c_17)
              have c_17' := of_decide_eq_false c_17
              rw [spec_l03Bands_x1_0]
              refine ⟨bp_Coarse_a, l_bp_Coarse.length, bp_Coarse_e, (rdN_at (rdN_grow g0 i_b) 0 (Nat.le_of_ble_eq_true rfl)).trans rfl, ?_⟩
              refine ⟨bp_Details_a, l_bp_Details.length, bp_Details_e, (rdN_at (rdN_grow g0 i_b) 1 (Nat.le_of_ble_eq_true rfl)).trans rfl, ?_⟩
              rw [show IntKind.wrap .i64 ((l_bp_Details.length : Int) - 1) = ((l_bp_Details.length : Int) - 1) from wrap64 ω2 ω2]
              obtain ⟨b_58, f_59, q_60⟩ := ((i_bp_Details.grow g0)).pos ω0
              refine ⟨by omega, by omega, b_58, f_59, q_60, ?_⟩
              obtain ⟨a_61, n_62, e_63, r_64, i_65⟩ := (i_bp_Details).rd (i := (((l_bp_Details.length : Int) - 1) : Int).toNat) g0 q_60 ω2
              obtain rfl := i_65.eqn
              refine ⟨a_61, _, e_63, r_64, ?_⟩
              have z_66 := getD_len bb_l_bp_Details (((l_bp_Details.length : Int) - 1) : Int).toNat
              rw [e] at hk
              exact hk
theorem spec_l03Bands_ok : FnOk Try.prog 112 S_spec_l03Bands := by
  refine FnOk.body mix_ok E_spec_l03Bands_ok Try.func112 rfl (by kernel_rfl) (by kernel_rfl) ?_ ?_ ?_ ?_ ?_
  · intro args H K K' h hk
    simp only [S_spec_l03Bands] at *
    unfold F_spec_l03Bands at *
    split at hk
    · obtain ⟨bp_Coarse_a, bp_Coarse_n, bp_Coarse_e, bp_Details_a, bp_Details_n, bp_Details_e, l_bp_Coarse, l_bp_Details, i_b, i_bp_Coarse, i_bp_Details, bd_67, bd_68, bb_l_bp_Details, k⟩ := hk
      exact ⟨bp_Coarse_a, bp_Coarse_n, bp_Coarse_e, bp_Details_a, bp_Details_n, bp_Details_e, l_bp_Coarse, l_bp_Details, i_b, i_bp_Coarse, i_bp_Details, bd_67, bd_68, bb_l_bp_Details, h _ _ k⟩
    · exact hk.elim
  · intro _ args H K hk
    simp only [S_spec_l03Bands] at *
    unfold F_spec_l03Bands at *
    split at hk
    · obtain ⟨bp_Coarse_a, bp_Coarse_n, bp_Coarse_e, bp_Details_a, bp_Details_n, bp_Details_e, l_bp_Coarse, l_bp_Details, i_b, i_bp_Coarse, i_bp_Details, bd_67, bd_68, bb_l_bp_Details, k⟩ := hk
      exact ⟨_, k, fun K' k' => ⟨bp_Coarse_a, bp_Coarse_n, bp_Coarse_e, bp_Details_a, bp_Details_n, bp_Details_e, l_bp_Coarse, l_bp_Details, i_b, i_bp_Coarse, i_bp_Details, bd_67, bd_68, bb_l_bp_Details, k'⟩⟩
    · exact hk.elim
  · intro args H K hk
    simp only [S_spec_l03Bands] at *
    unfold F_spec_l03Bands at *
    split at hk
    · obtain ⟨bp_Coarse_a, bp_Coarse_n, bp_Coarse_e, bp_Details_a, bp_Details_n, bp_Details_e, l_bp_Coarse, l_bp_Details, i_b, i_bp_Coarse, i_bp_Details, bd_67, bd_68, bb_l_bp_Details, k⟩ := hk
      exact ⟨_, _, k⟩
    · exact hk.elim
  · intro hq; cases hq
  · have mm := @spec_l03Bands_main
    have ml := fun (args : List Value) (H : AHeap) (K : Value → AHeap → Prop) => bodyL_body (P := Try.prog) (env := E_spec_l03Bands ) (fn := Try.f112) (args := args) (H := H) (K := K) E_spec_l03Bands_ok 
    revert mm ml
    generalize bodyK Try.prog E_spec_l03Bands Try.f112 = Q
    generalize bodyL Try.prog E_spec_l03Bands Try.f112 = QL
    intro mm ml args H K hk
    simp only [S_spec_l03Bands] at *
    unfold F_spec_l03Bands at *
    split at hk
    · exact ml _ H K (mm _ H K hk)
    · exact hk.elim
def p_spec_l02Least (x : Nat) : Bool := (bif (p_spec_l01Finite x) then fle .f32 0 x else false)
def T_spec_l02Least (x : Nat) (H : AHeap) (K : Bool → AHeap → Prop) : Prop := K (p_spec_l02Least x) H

theorem T_spec_l02Least_i {x : Nat} {H : AHeap} {K : Bool → AHeap → Prop} (h : K (p_spec_l02Least x) H) : T_spec_l02Least x H K := h
/-! spec_l02Least: function 101 -/
def E_spec_l02Least : Env := envOf [(155, S_spec_l01Finite)]
def F_spec_l02Least : List Value → AHeap → (Value → AHeap → Prop) → Prop
  | [.float .f32 x], H, K => T_spec_l02Least x H fun (r1 : Bool) (H' : AHeap) => K (.bool r1) H'
  | _, _, _ => False
def S_spec_l02Least : FSpec := { F := F_spec_l02Least, quiet := true, tame := false }
theorem spec_l02Least_vc (x : Nat) (H : AHeap) (K : Value → AHeap → Prop) : bodyL Try.prog E_spec_l02Least Try.f101 [.float .f32 x] H K =
  (T_spec_l01Finite x H fun (r1 : Bool) (H1 : AHeap) => Br r1 (K (.bool (fle .f32 0 x)) H1) (K (.bool false) H1)) := by kernel_rfl
theorem E_spec_l02Least_ok : ∀ g, FnOk Try.prog g (E_spec_l02Least g) := FnOk.envOf (by
  intro x hx
  simp only [List.mem_cons, List.not_mem_nil, or_false] at hx
  subst hx; exact spec_l01Finite_ok)
set_option maxHeartbeats 1000000 in
theorem spec_l02Least_main (x : Nat) (H : AHeap) (K : Value → AHeap → Prop) (h : T_spec_l02Least x H fun (r1 : Bool) (H' : AHeap) => K (.bool r1) H') : bodyL Try.prog E_spec_l02Least Try.f101 [.float .f32 x] H K := by
  rw [spec_l02Least_vc]
  simp only [T_spec_l01Finite]
  unfold T_spec_l02Least p_spec_l02Least at h
  repeat' (first | exact h | (exfalso; simp_all; done) | (refine ⟨by decide, ?_⟩) | (refine Br.intro (fun hb => ?_) (fun hb => ?_) <;> (try simp only [hb, cond_true, cond_false, Bool.not_true, Bool.not_false] at h)))
theorem spec_l02Least_ok : FnOk Try.prog 101 S_spec_l02Least := by
  refine FnOk.body mix_ok E_spec_l02Least_ok Try.func101 rfl (by kernel_rfl) (by kernel_rfl) ?_ ?_ ?_ ?_ ?_
  · intro args H K K' h hk
    simp only [S_spec_l02Least] at *
    unfold F_spec_l02Least at *
    split at hk
    · have k := hk
      exact h _ _ k
    · exact hk.elim
  · intro _ args H K hk
    simp only [S_spec_l02Least] at *
    unfold F_spec_l02Least at *
    split at hk
    · have k := hk
      exact ⟨_, k, fun K' k' => k'⟩
    · exact hk.elim
  · intro args H K hk
    simp only [S_spec_l02Least] at *
    unfold F_spec_l02Least at *
    split at hk
    · have k := hk
      exact ⟨_, _, k⟩
    · exact hk.elim
  · intro hq; cases hq
  · have mm := @spec_l02Least_main
    have ml := fun (args : List Value) (H : AHeap) (K : Value → AHeap → Prop) => bodyL_body (P := Try.prog) (env := E_spec_l02Least ) (fn := Try.f101) (args := args) (H := H) (K := K) E_spec_l02Least_ok 
    revert mm ml
    generalize bodyK Try.prog E_spec_l02Least Try.f101 = Q
    generalize bodyL Try.prog E_spec_l02Least Try.f101 = QL
    intro mm ml args H K hk
    simp only [S_spec_l02Least] at *
    unfold F_spec_l02Least at *
    split at hk
    · exact ml _ H K (mm _ H K hk)
    · exact hk.elim
def p_spec_l03Size (x : Nat) : Nat := (bif fle .f32 x 0 then fsub .f32 0 x else x)
def T_spec_l03Size (x : Nat) (H : AHeap) (K : Nat → AHeap → Prop) : Prop := K (p_spec_l03Size x) H

/-! spec_l03Size: function 201 -/
def E_spec_l03Size : Env := envOf []
def F_spec_l03Size : List Value → AHeap → (Value → AHeap → Prop) → Prop
  | [.float .f32 x], H, K => T_spec_l03Size x H fun (r1 : Nat) (H' : AHeap) => K (.float .f32 r1) H'
  | _, _, _ => False
def S_spec_l03Size : FSpec := { F := F_spec_l03Size, quiet := true, tame := false }
theorem spec_l03Size_vc (x : Nat) (H : AHeap) (K : Value → AHeap → Prop) : bodyL Try.prog E_spec_l03Size Try.f201 [.float .f32 x] H K =
  (Br (fle .f32 x 0) (K (.float .f32 (fsub .f32 0 x)) H) (K (.float .f32 x) H)) := by kernel_rfl
theorem E_spec_l03Size_ok : ∀ g, FnOk Try.prog g (E_spec_l03Size g) := FnOk.envOf (by
  intro x hx; cases hx)
set_option maxHeartbeats 1000000 in
theorem spec_l03Size_main (x : Nat) (H : AHeap) (K : Value → AHeap → Prop) (h : T_spec_l03Size x H fun (r1 : Nat) (H' : AHeap) => K (.float .f32 r1) H') : bodyL Try.prog E_spec_l03Size Try.f201 [.float .f32 x] H K := by
  rw [spec_l03Size_vc]
  unfold T_spec_l03Size p_spec_l03Size at h
  repeat' (first | exact h | (exfalso; simp_all; done) | (refine ⟨by decide, ?_⟩) | (refine Br.intro (fun hb => ?_) (fun hb => ?_) <;> (try simp only [hb, cond_true, cond_false, Bool.not_true, Bool.not_false] at h)))
theorem spec_l03Size_ok : FnOk Try.prog 201 S_spec_l03Size := by
  refine FnOk.body mix_ok E_spec_l03Size_ok Try.func201 rfl (by kernel_rfl) (by kernel_rfl) ?_ ?_ ?_ ?_ ?_
  · intro args H K K' h hk
    simp only [S_spec_l03Size] at *
    unfold F_spec_l03Size at *
    split at hk
    · have k := hk
      exact h _ _ k
    · exact hk.elim
  · intro _ args H K hk
    simp only [S_spec_l03Size] at *
    unfold F_spec_l03Size at *
    split at hk
    · have k := hk
      exact ⟨_, k, fun K' k' => k'⟩
    · exact hk.elim
  · intro args H K hk
    simp only [S_spec_l03Size] at *
    unfold F_spec_l03Size at *
    split at hk
    · have k := hk
      exact ⟨_, _, k⟩
    · exact hk.elim
  · intro hq; cases hq
  · have mm := @spec_l03Size_main
    have ml := fun (args : List Value) (H : AHeap) (K : Value → AHeap → Prop) => bodyL_body (P := Try.prog) (env := E_spec_l03Size ) (fn := Try.f201) (args := args) (H := H) (K := K) E_spec_l03Size_ok 
    revert mm ml
    generalize bodyK Try.prog E_spec_l03Size Try.f201 = Q
    generalize bodyL Try.prog E_spec_l03Size Try.f201 = QL
    intro mm ml args H K hk
    simp only [S_spec_l03Size] at *
    unfold F_spec_l03Size at *
    split at hk
    · exact ml _ H K (mm _ H K hk)
    · exact hk.elim
def p_spec_l05Shrink (x : Nat) (limit : Nat) (hard : Bool) : Nat := (bif !(flt .f32 limit (p_spec_l03Size x)) then 0 else (bif hard then x else (bif flt .f32 x 0 then fneg .f32 (fsub .f32 (p_spec_l03Size x) limit) else fsub .f32 (p_spec_l03Size x) limit)))
def p_spec_l05Shrink_eq := @p_spec_l05Shrink.eq_1
def T_spec_l05Shrink (x : Nat) (limit : Nat) (hard : Bool) (H : AHeap) (K : Nat → AHeap → Prop) : Prop := K (p_spec_l05Shrink x limit hard) H

theorem T_spec_l05Shrink_i {x : Nat} {limit : Nat} {hard : Bool} {H : AHeap} {K : Nat → AHeap → Prop} (h : K (p_spec_l05Shrink x limit hard) H) : T_spec_l05Shrink x limit hard H K := h
/-! spec_l05Shrink: function 175 -/
def E_spec_l05Shrink : Env := envOf [(201, S_spec_l03Size)]
def F_spec_l05Shrink : List Value → AHeap → (Value → AHeap → Prop) → Prop
  | [.float .f32 x, .float .f32 limit, .bool hard], H, K => T_spec_l05Shrink x limit hard H fun (r1 : Nat) (H' : AHeap) => K (.float .f32 r1) H'
  | _, _, _ => False
def S_spec_l05Shrink : FSpec := { F := F_spec_l05Shrink, quiet := true, tame := false }
theorem spec_l05Shrink_vc (x : Nat) (limit : Nat) (hard : Bool) (H : AHeap) (K : Value → AHeap → Prop) : bodyL Try.prog E_spec_l05Shrink Try.f175 [.float .f32 x, .float .f32 limit, .bool hard] H K =
  (T_spec_l03Size x H fun (r1 : Nat) (H1 : AHeap) => Br (!(flt .f32 limit r1)) (K (.float .f32 0) H1) (Br hard (K (.float .f32 x) H1) (Br (flt .f32 x 0) (K (.float .f32 (fneg .f32 (fsub .f32 r1 limit))) H1) (K (.float .f32 (fsub .f32 r1 limit)) H1)))) := by kernel_rfl
theorem E_spec_l05Shrink_ok : ∀ g, FnOk Try.prog g (E_spec_l05Shrink g) := FnOk.envOf (by
  intro x hx
  simp only [List.mem_cons, List.not_mem_nil, or_false] at hx
  subst hx; exact spec_l03Size_ok)
set_option maxHeartbeats 1000000 in
theorem spec_l05Shrink_main (x : Nat) (limit : Nat) (hard : Bool) (H : AHeap) (K : Value → AHeap → Prop) (h : T_spec_l05Shrink x limit hard H fun (r1 : Nat) (H' : AHeap) => K (.float .f32 r1) H') : bodyL Try.prog E_spec_l05Shrink Try.f175 [.float .f32 x, .float .f32 limit, .bool hard] H K := by
  rw [spec_l05Shrink_vc]
  simp only [T_spec_l03Size]
  unfold T_spec_l05Shrink p_spec_l05Shrink at h
  repeat' (first | exact h | (exfalso; simp_all; done) | (refine ⟨by decide, ?_⟩) | (refine Br.intro (fun hb => ?_) (fun hb => ?_) <;> (try simp only [hb, cond_true, cond_false, Bool.not_true, Bool.not_false] at h)))
theorem spec_l05Shrink_ok : FnOk Try.prog 175 S_spec_l05Shrink := by
  refine FnOk.body mix_ok E_spec_l05Shrink_ok Try.func175 rfl (by kernel_rfl) (by kernel_rfl) ?_ ?_ ?_ ?_ ?_
  · intro args H K K' h hk
    simp only [S_spec_l05Shrink] at *
    unfold F_spec_l05Shrink at *
    split at hk
    · have k := hk
      exact h _ _ k
    · exact hk.elim
  · intro _ args H K hk
    simp only [S_spec_l05Shrink] at *
    unfold F_spec_l05Shrink at *
    split at hk
    · have k := hk
      exact ⟨_, k, fun K' k' => k'⟩
    · exact hk.elim
  · intro args H K hk
    simp only [S_spec_l05Shrink] at *
    unfold F_spec_l05Shrink at *
    split at hk
    · have k := hk
      exact ⟨_, _, k⟩
    · exact hk.elim
  · intro hq; cases hq
  · have mm := @spec_l05Shrink_main
    have ml := fun (args : List Value) (H : AHeap) (K : Value → AHeap → Prop) => bodyL_body (P := Try.prog) (env := E_spec_l05Shrink ) (fn := Try.f175) (args := args) (H := H) (K := K) E_spec_l05Shrink_ok 
    revert mm ml
    generalize bodyK Try.prog E_spec_l05Shrink Try.f175 = Q
    generalize bodyL Try.prog E_spec_l05Shrink Try.f175 = QL
    intro mm ml args H K hk
    simp only [S_spec_l05Shrink] at *
    unfold F_spec_l05Shrink at *
    split at hk
    · exact ml _ H K (mm _ _ _ H K hk)
    · exact hk.elim

def p_spec_l05List_l1 (l_list : List Nat) (limit : Nat) (hard : Bool) : Nat → (List Nat) → Int → (List Nat)
  | 0, _, _ => []
  | μ + 1, l_vout, t12 => (bif decide ((t12 : Int) < (l_list.length : Int)) then (p_spec_l05List_l1 l_list limit hard μ ((l_vout ++ [((p_spec_l05Shrink (((l_list).getD (t12 : Int).toNat 0)) limit hard))])) (t12 + 1)) else l_vout)
def p_spec_l05List_l1_s := fun l_list limit hard μ l_vout t12 => @p_spec_l05List_l1.eq_2 l_list limit hard l_vout t12 μ
def p_spec_l05List (l_list : List Nat) (limit : Nat) (hard : Bool) : (List Nat) := (p_spec_l05List_l1 l_list limit hard (Int.toNat ((l_list.length : Int) - (0 : Int)) + 1) ([] : List Nat) (0 : Int))
def p_spec_l05List_eq := @p_spec_l05List.eq_1
def T_spec_l05List (list_a : Option Addr) (list_n : Nat) (list_e : Nat) (limit : Nat) (hard : Bool) (H : AHeap) (K : (Option Addr) → Nat → Nat → AHeap → Prop) : Prop := ∃ (l_list : List Nat), IsL fF H list_a list_n l_list ∧ l_list.length < 1073741824 ∧ ((∀ (r1_a : Option Addr) (r1_n r1_e : Nat), ∀ H' : AHeap, Grow H H' → OwnS fF H' H.length r1_a r1_n r1_e (p_spec_l05List l_list limit hard) → K r1_a r1_n r1_e H'))
theorem T_spec_l05List_i {list_a : Option Addr} {list_n : Nat} {list_e : Nat} {limit : Nat} {hard : Bool} {H : AHeap} {K : (Option Addr) → Nat → Nat → AHeap → Prop} (h : ∃ (l_list : List Nat), IsL fF H list_a list_n l_list ∧ l_list.length < 1073741824 ∧ ((∀ (r1_a : Option Addr) (r1_n r1_e : Nat), ∀ H' : AHeap, Grow H H' → OwnS fF H' H.length r1_a r1_n r1_e (p_spec_l05List l_list limit hard) → K r1_a r1_n r1_e H'))) : T_spec_l05List list_a list_n list_e limit hard H K := h
theorem spec_l05List_go (l : List Nat) (limit : Nat) (hard : Bool) : ∀ (μ : Nat) (o : List Nat) (i : Nat), l.length - i < μ → p_spec_l05List_l1 l limit hard μ o (i : Int) = o ++ (l.drop i).map (fun x => p_spec_l05Shrink x limit hard) := by
  intro μ
  induction μ with
  | zero => intro o i h; omega
  | succ μ ih =>
    intro o i hm
    rw [p_spec_l05List_l1_s]
    by_cases h : i < l.length
    · rw [decide_eq_true (show (i : Int) < (l.length : Int) by omega), cond_true, Int.toNat_natCast]
      refine Eq.trans (ih _ (i + 1) ω2) ?_
      rw [List.drop_eq_getElem_cons h, List.map_cons, List.getD_eq_getElem?_getD, List.getElem?_eq_getElem h]
      simp
    · rw [decide_eq_false (show ¬ (i : Int) < (l.length : Int) by omega), cond_false, List.drop_eq_nil_of_le ω2]; simp
theorem spec_l05List_map (l : List Nat) (limit : Nat) (hard : Bool) : p_spec_l05List l limit hard = l.map (fun x => p_spec_l05Shrink x limit hard) := by
  rw [p_spec_l05List_eq]
  have := spec_l05List_go l limit hard (Int.toNat ((l.length : Int) - (0 : Int)) + 1) [] 0 ω2
  simpa using this
theorem spec_l05List_len (l : List Nat) (limit : Nat) (hard : Bool) : (p_spec_l05List l limit hard).length = l.length := by rw [spec_l05List_map]; simp
/-! spec_l05List: function 121 -/
def E_spec_l05List : Env := envOf [(175, S_spec_l05Shrink)]
def F_spec_l05List : List Value → AHeap → (Value → AHeap → Prop) → Prop
  | [.slice list_a list_n list_e, .float .f32 limit, .bool hard], H, K => T_spec_l05List list_a list_n list_e limit hard H fun (r1_a : Option Addr) (r1_n : Nat) (r1_e : Nat) (H' : AHeap) => K (.slice r1_a r1_n r1_e) H'
  | _, _, _ => False
def S_spec_l05List : FSpec := { F := F_spec_l05List, quiet := false, tame := true }
theorem spec_l05List_vc (list_a : Option Addr) (list_n : Nat) (list_e : Nat) (limit : Nat) (hard : Bool) (H : AHeap) (K : Value → AHeap → Prop) : bodyL Try.prog E_spec_l05List Try.f121 [.slice list_a list_n list_e, .float .f32 limit, .bool hard] H K =
  (Al [] H fun b1 H1 => loopK (exL Try.prog E_spec_l05List (cl (cl (cr (cl (cr (cr (bodyC Try.f121))))))) 6279 64 [(0, 128)]) [.slice list_a list_n list_e, .float .f32 limit, .bool hard, ud, ud, ud, ud, .slice (some ⟨b1, 0, none⟩) 0 1, ud, ud, ud, .int .i64 (list_n : Int), .int .i64 0, ud, ud, ud, ud, ud, ud, ud, ud, ud, ud, ud, ud, ud, ud] H1 (blockQ 0 (seqQ (exL Try.prog E_spec_l05List (cr (cr (cr (bodyC Try.f121)))) 64 64 []) (retK Try.prog Try.f121 K)))) := by kernel_rfl
abbrev spec_l05List_P1 (hard : Bool) (limit : Nat) (list_a : Option Addr) (list_e : Nat) (list_n : Nat) (vout_a : Option Addr) (vout_n : Nat) (vout_e : Nat) (t12 : Int)  : List Value := [.slice list_a list_n list_e, .float .f32 limit, .bool hard, ud, ud, ud, ud, .slice vout_a vout_n vout_e, ud, ud, ud, .int .i64 (list_n : Int), .int .i64 t12, ud, ud, ud, ud, ud, ud, ud, ud, ud, ud, ud, ud, ud, ud]
theorem spec_l05List_r1 (hard : Bool) (limit : Nat) (list_a : Option Addr) (list_e : Nat) (list_n : Nat) (vout_a : Option Addr) (vout_n : Nat) (vout_e : Nat) (t12 : Int)  (H : AHeap) (R : Post) : exL Try.prog E_spec_l05List (cl (cl (cr (cl (cr (cr (bodyC Try.f121))))))) 6279 64 [(0, 128)] (spec_l05List_P1 hard limit list_a list_e list_n vout_a vout_n vout_e t12) H R =
  (Br (decide ((t12 : Int) < (list_n : Int))) ((0 : Int) ≤ t12 ∧ t12 < (list_n : Int) ∧ ∃ b2 f1, (list_a : Option Addr) = some ⟨b2, f1, none⟩ ∧ ∃ x1 : Nat,  rdC H b2 (f1 + (t12 : Int).toNat * 1) = some (.float .f32 x1) ∧ T_spec_l05Shrink x1 limit hard H fun (r1 : Nat) (H2 : AHeap) => Al [.float .f32 r1] H2 fun b3 H3 => ∃ o1 w1 : List Value, ownB H3 vout_a vout_n vout_e 1 = some o1 ∧ rdS H3 (some ⟨b3, 0, none⟩) (1 * 1) = some w1 ∧ ((vout_a : Option Addr) = none → 0 < (1 : Nat)) ∧ (vout_n : Nat) + 1 < most ∧ Ap H3 (killB H3 vout_a ++ [some ⟨o1 ++ w1, true⟩]) fun b4 H4 => R .normal [.slice list_a list_n list_e, .float .f32 limit, .bool hard, ud, ud, ud, ud, .slice (some ⟨b4, 0, none⟩) (vout_n + 1) 1, ud, ud, ud, .int .i64 (list_n : Int), .int .i64 (IntKind.wrap .i64 (t12 + 1)), ud, ud, ud, ud, ud, ud, ud, ud, ud, ud, ud, ud, ud, ud] H4) (R (.exit 0) [ud, ud, ud, ud, ud, ud, ud, .slice vout_a vout_n vout_e, ud, ud, ud, ud, ud, ud, ud, ud, ud, ud, ud, ud, ud, ud, ud, ud, ud, ud, ud] H)) := by kernel_rfl
def spec_l05List_I1 (hard : Bool) (limit : Nat) (list_a : Option Addr) (list_e : Nat) (list_n : Nat) (Inv : Nat → (Option Addr) → Nat → Nat → Int → AHeap → Prop) : Nat → List Value → AHeap → Prop := fun μ tm H => ∃ (vout_a : Option Addr), ∃ (vout_n : Nat), ∃ (vout_e : Nat), ∃ (t12 : Int), tm = (spec_l05List_P1 hard limit list_a list_e list_n vout_a vout_n vout_e t12) ∧ Inv μ vout_a vout_n vout_e t12 H
theorem spec_l05List_L1 (hard : Bool) (limit : Nat) (list_a : Option Addr) (list_e : Nat) (list_n : Nat) {Q : Post} (Inv : Nat → (Option Addr) → Nat → Nat → Int → AHeap → Prop) (ν : Nat) (vout_a : Option Addr) (vout_n : Nat) (vout_e : Nat) (t12 : Int)  (H : AHeap) (h0 : Inv ν vout_a vout_n vout_e t12 H)
    (hs : ∀ (μ : Nat) (vout_a : Option Addr) (vout_n : Nat) (vout_e : Nat) (t12 : Int)  (H : AHeap), Inv μ vout_a vout_n vout_e t12 H → exL Try.prog E_spec_l05List (cl (cl (cr (cl (cr (cr (bodyC Try.f121))))))) 6279 64 [(0, 128)] (spec_l05List_P1 hard limit list_a list_e list_n vout_a vout_n vout_e t12) H (loopQ (spec_l05List_I1 hard limit list_a list_e list_n Inv) μ Q)) : loopK (exL Try.prog E_spec_l05List (cl (cl (cr (cl (cr (cr (bodyC Try.f121))))))) 6279 64 [(0, 128)]) (spec_l05List_P1 hard limit list_a list_e list_n vout_a vout_n vout_e t12) H Q :=
  ⟨spec_l05List_I1 hard limit list_a list_e list_n Inv, ν, ⟨vout_a, vout_n, vout_e, t12, rfl, h0⟩, fun μ tm H h => by obtain ⟨vout_a, vout_n, vout_e, t12, rfl, hI⟩ := h; exact hs μ vout_a vout_n vout_e t12  H hI⟩
theorem spec_l05List_n1 {hard : Bool} {limit : Nat} {list_a : Option Addr} {list_e : Nat} {list_n : Nat} {Q : Post} {Inv : Nat → (Option Addr) → Nat → Nat → Int → AHeap → Prop} {μ : Nat} (μ' : Nat) {vout_a : Option Addr} {vout_n : Nat} {vout_e : Nat} {t12 : Int}  {H : AHeap} (hm : μ' < μ) (hI : Inv μ' vout_a vout_n vout_e t12 H) : loopQ (spec_l05List_I1 hard limit list_a list_e list_n Inv) μ Q .normal (spec_l05List_P1 hard limit list_a list_e list_n vout_a vout_n vout_e t12) H := ⟨μ', hm, vout_a, vout_n, vout_e, t12, rfl, hI⟩
theorem spec_l05List_x1_0 (vout_a : Option Addr) (vout_n : Nat) (vout_e : Nat) (H : AHeap) (K : Value → AHeap → Prop)  {I : Nat → List Value → AHeap → Prop} {μ : Nat} : loopQ I μ (blockQ 0 (seqQ (exL Try.prog E_spec_l05List (cr (cr (cr (bodyC Try.f121)))) 64 64 []) (retK Try.prog Try.f121 K))) (.exit 0) [ud, ud, ud, ud, ud, ud, ud, .slice vout_a vout_n vout_e, ud, ud, ud, ud, ud, ud, ud, ud, ud, ud, ud, ud, ud, ud, ud, ud, ud, ud, ud] H =
  (K (.slice vout_a vout_n vout_e) H) := by kernel_rfl
theorem E_spec_l05List_ok : ∀ g, FnOk Try.prog g (E_spec_l05List g) := FnOk.envOf (by
  intro x hx
  simp only [List.mem_cons, List.not_mem_nil, or_false] at hx
  subst hx; exact spec_l05Shrink_ok)
theorem ω7 {P : Prop} (h : P := by first | rfl | omega | (simp only [List.length_set]; done) | (simp only [List.length_set, List.length_replicate]; omega)) : P := h
theorem ω4 {P : Prop} (h : P := by first | (simp only [List.length_map, List.length_cons, List.length_nil, List.length_append]; done) | (simp only [List.length_map, List.length_cons, List.length_nil, List.length_append]; omega) | (simp only [List.length_map, List.length_cons, List.length_nil, List.length_append, List.length_take, List.length_drop]; omega)) : P := h
theorem ω5 {P : Prop} (h : P := by first | omega | (simp only [List.length_append, List.length_cons, List.length_nil]; done) | (simp only [List.length_append, List.length_cons, List.length_nil]; omega) | (simp only [List.length_append, List.length_cons, List.length_nil, List.length_take, List.length_drop]; omega)) : P := h
set_option maxHeartbeats 1000000 in
theorem spec_l05List_main (list_a : Option Addr) (list_n : Nat) (list_e : Nat) (limit : Nat) (hard : Bool) (H : AHeap) (K : Value → AHeap → Prop) (h : T_spec_l05List list_a list_n list_e limit hard H fun (r1_a : Option Addr) (r1_n : Nat) (r1_e : Nat) (H' : AHeap) => K (.slice r1_a r1_n r1_e) H') : bodyL Try.prog E_spec_l05List Try.f121 [.slice list_a list_n list_e, .float .f32 limit, .bool hard] H K := by
  rw [spec_l05List_vc]
  obtain ⟨l_list, i_list, bd_48, hk⟩ := h
  obtain rfl := i_list.eqn
  have e : (p_spec_l05List l_list limit hard) = _ := rfl
  have e := e.trans (p_spec_l05List_eq l_list limit hard)
  have g0 := Grow.refl H
  refine Al.intro (fun b_1 H_1 hb_2 hl_3 g_4 o_5 => ?_)
  have o_5 : Own H_1 b_1 ((([] : List Nat)).map fF) := o_5
  have l_7 := g_4.1
  have g_8 := g0.trans g_4
  have l_9 := g_8.1
  have w_47 := o_5.lt
  refine spec_l05List_L1 _ _ _ _ _ (fun (μ : Nat) (vout_a : Option Addr) (vout_n : Nat) (vout_e : Nat) (t12 : Int) (H_2 : AHeap) => ∃ (l_vout : List Nat), ∃ (b_10 : Nat), vout_a = some ⟨b_10, 0, none⟩ ∧ vout_n = l_vout.length ∧ vout_e = 1 ∧ Own H_2 b_10 (l_vout.map fF) ∧ Grow H H_2 ∧ H.length ≤ b_10 ∧ (0 : Int) ≤ t12 ∧ t12 ≤ (l_list.length : Int) ∧ (l_vout.length : Int) ≤ t12 - (0 : Int) + 0 ∧ (l_list.length : Int) - t12 ≤ (μ : Int) ∧ p_spec_l05List l_list limit hard = p_spec_l05List_l1 l_list limit hard (μ + 1) l_vout t12) (Int.toNat ((l_list.length : Int) - (0 : Int))) _ _ _ _ H_1 ?_ ?_
  · exact ⟨_, _, rfl, ω7, rfl, o_5, g_8, ω2, ω3, ω3, ω3, ω2, e⟩
  · intro μ vout_a vout_n vout_e t12  H_2 hI
    obtain ⟨l_vout, b_10, rfl, rfl, rfl, o_11, g_12, l_13, v_14, v_15, v_16, hμ, e⟩ := hI
    rw [spec_l05List_r1]
    have e := e.trans (p_spec_l05List_l1_s l_list limit hard μ l_vout t12)
    have w_17 := o_11.lt
    have l_18 := g_12.1
    refine Br.intro (fun c_19 => ?_) (fun c_19 => ?_)
    · have e := e.trans (cond_t c_19)
      have c_19' := of_decide_eq_true c_19
      obtain ⟨b_20, f_21, q_22⟩ := ((i_list.grow g_12)).pos ω0
      refine ⟨by omega, by omega, b_20, f_21, q_22, ?_⟩
      refine ⟨((l_list).getD (t12 : Int).toNat 0), (i_list).rd g_12 q_22 ω2 _, ?_⟩
      refine T_spec_l05Shrink_i ?_
      refine Al.intro (fun b_23 H_3 hb_24 hl_25 g_26 o_27 => ?_)
      have o_27 : Own H_3 b_23 (([((p_spec_l05Shrink (((l_list).getD (t12 : Int).toNat 0)) limit hard))]).map fF) := o_27
      have l_29 := g_26.1
      have g_30 := g_12.trans g_26
      have l_31 := g_30.1
      have o_32 := o_11.grow g_26
      have w_33 := o_32.lt
      have w_46 := o_27.lt
      refine ⟨_, _, o_32.ownB ω4 rfl, (isl_rdS (o_27.isL ω7)), (fun h => by cases h), ω12, ?_⟩
      refine Ap.app o_32 rfl rfl (fun b_38 H_4 q_44 hl_34 o_35 k_36 => ?_)
      have o_35 := map_snoc o_35
      have l_39 := k_36.1
      have g_40 := g_30.keep (b := b_10) ω2 k_36
      have l_41 := g_40.1
      have o_42 := o_27.keep ω2 k_36
      have w_43 := o_42.lt
      have w_45 := o_35.lt
      rw [show IntKind.wrap .i64 (t12 + 1) = (t12 + 1) from wrap64 ω2 ω2]
      refine spec_l05List_n1 (μ - 1) ω8 ⟨_, _, rfl, ω5, rfl, o_35, g_40, ω2, ω1, ω1, ω1, ω8, (by rw [show μ - 1 + 1 = μ from by first | omega]; exact e)⟩
    · have e := e.trans (cond_f c_19)
      have c_19' := of_decide_eq_false c_19
      rw [spec_l05List_x1_0]
      rw [e] at hk
      exact hk _ _ _ H_2 g_12 (o_11.ownS ω7 ω2)
theorem spec_l05List_ok : FnOk Try.prog 121 S_spec_l05List := by
  refine FnOk.body mix_ok E_spec_l05List_ok Try.func121 rfl (by kernel_rfl) (by kernel_rfl) ?_ ?_ ?_ ?_ ?_
  · intro args H K K' h hk
    simp only [S_spec_l05List] at *
    unfold F_spec_l05List at *
    split at hk
    · obtain ⟨l_list, i_list, bd_48, k⟩ := hk
      exact ⟨l_list, i_list, bd_48, (fun r1_a r1_n r1_e H' gg ow0 => h _ _ (k r1_a r1_n r1_e H' gg ow0))⟩
    · exact hk.elim
  · intro hq; cases hq
  · intro args H K hk
    simp only [S_spec_l05List] at *
    unfold F_spec_l05List at *
    split at hk
    · obtain ⟨l_list, i_list, bd_48, k⟩ := hk
      exact liveS fun a n e H1 g o => ⟨_, _, k a n e H1 g o⟩
    · exact hk.elim
  · intro _ args H K hk
    simp only [S_spec_l05List] at *
    unfold F_spec_l05List at *
    split at hk
    · obtain ⟨l_list, i_list, bd_48, k⟩ := hk
      exact ⟨l_list, i_list, bd_48, (fun r1_a r1_n r1_e H' gg ow0 => ⟨gg, k r1_a r1_n r1_e H' gg ow0⟩)⟩
    · exact hk.elim
  · have mm := @spec_l05List_main
    have ml := fun (args : List Value) (H : AHeap) (K : Value → AHeap → Prop) => bodyL_body (P := Try.prog) (env := E_spec_l05List ) (fn := Try.f121) (args := args) (H := H) (K := K) E_spec_l05List_ok 
    revert mm ml
    generalize bodyK Try.prog E_spec_l05List Try.f121 = Q
    generalize bodyL Try.prog E_spec_l05List Try.f121 = QL
    intro mm ml args H K hk
    simp only [S_spec_l05List] at *
    unfold F_spec_l05List at *
    split at hk
    · exact ml _ H K (mm _ _ _ _ _ H K hk)
    · exact hk.elim

def p_spec_ShrinkBands_l1 (l_b_Coarse : List Nat) (l_b_Details : List (List Nat)) (l_limits : List Nat) (hard : Bool) : Nat → Bool → Int → (List (List Nat)) → (List Nat) × (List (List Nat)) × Bool
  | 0, _, _, _ => ([], [], false)
  | μ + 1, t7, t29, q1_4 => (bif decide ((t29 : Int) < (l_b_Details.length : Int)) then (bif !((p_spec_l02Least (((l_limits).getD (t29 : Int).toNat 0)))) then ([], [], false) else (p_spec_ShrinkBands_l1 l_b_Coarse l_b_Details l_limits hard μ t7 (t29 + 1) ((q1_4 ++ [(p_spec_l05List (((l_b_Details).getD (t29 : Int).toNat [])) (((l_limits).getD (t29 : Int).toNat 0)) hard)])))) else ((([] : List Nat) ++ l_b_Coarse), q1_4, true))
def p_spec_ShrinkBands_l1_s := fun l_b_Coarse l_b_Details l_limits hard μ t7 t29 q1_4 => @p_spec_ShrinkBands_l1.eq_2 l_b_Coarse l_b_Details l_limits hard t7 t29 q1_4 μ
def p_spec_ShrinkBands (l_b_Coarse : List Nat) (l_b_Details : List (List Nat)) (l_limits : List Nat) (hard : Bool) : (List Nat) × (List (List Nat)) × Bool := ((bif !(p_spec_l03Bands l_b_Coarse l_b_Details) then ([], [], false) else (bif ((l_limits.length : Int) : Int) != (l_b_Details.length : Int) then ([], [], false) else (p_spec_ShrinkBands_l1 l_b_Coarse l_b_Details l_limits hard (Int.toNat ((l_b_Details.length : Int) - (0 : Int)) + 1) false (0 : Int) ([])))))
def p_spec_ShrinkBands_eq := @p_spec_ShrinkBands.eq_1
def T_spec_ShrinkBands (b_Coarse_a : Option Addr) (b_Coarse_n : Nat) (b_Coarse_e : Nat) (b_Details_a : Option Addr) (b_Details_n : Nat) (b_Details_e : Nat) (limits_a : Option Addr) (limits_n : Nat) (limits_e : Nat) (hard : Bool) (H : AHeap) (K : (Option Addr) → Nat → Nat → (Option Addr) → Nat → Nat → Bool → AHeap → Prop) : Prop := ∃ (l_b_Coarse : List Nat), ∃ (l_b_Details : List (List Nat)), ∃ (l_limits : List Nat), IsL fF H b_Coarse_a b_Coarse_n l_b_Coarse ∧ IsLL fF H b_Details_a b_Details_n l_b_Details ∧ IsL fF H limits_a limits_n l_limits ∧ l_b_Coarse.length < 1073741824 ∧ l_b_Details.length < 1073741824 ∧ l_limits.length < 1073741824 ∧ (∀ y ∈ l_b_Details, y.length < 1073741824) ∧ ((∀ (r1_Coarse_a : Option Addr) (r1_Coarse_n r1_Coarse_e : Nat), ∀ (r1_Details_a : Option Addr) (r1_Details_n r1_Details_e : Nat), ∀ H' : AHeap, Grow H H' → OwnS fF H' H.length r1_Coarse_a r1_Coarse_n r1_Coarse_e ((p_spec_ShrinkBands l_b_Coarse l_b_Details l_limits hard).1) → OwnLL fF H' H.length H'.length r1_Details_a r1_Details_n r1_Details_e ((p_spec_ShrinkBands l_b_Coarse l_b_Details l_limits hard).2.1) → K r1_Coarse_a r1_Coarse_n r1_Coarse_e r1_Details_a r1_Details_n r1_Details_e ((p_spec_ShrinkBands l_b_Coarse l_b_Details l_limits hard).2.2) H'))
theorem T_spec_ShrinkBands_i {b_Coarse_a : Option Addr} {b_Coarse_n : Nat} {b_Coarse_e : Nat} {b_Details_a : Option Addr} {b_Details_n : Nat} {b_Details_e : Nat} {limits_a : Option Addr} {limits_n : Nat} {limits_e : Nat} {hard : Bool} {H : AHeap} {K : (Option Addr) → Nat → Nat → (Option Addr) → Nat → Nat → Bool → AHeap → Prop} (h : ∃ (l_b_Coarse : List Nat), ∃ (l_b_Details : List (List Nat)), ∃ (l_limits : List Nat), IsL fF H b_Coarse_a b_Coarse_n l_b_Coarse ∧ IsLL fF H b_Details_a b_Details_n l_b_Details ∧ IsL fF H limits_a limits_n l_limits ∧ l_b_Coarse.length < 1073741824 ∧ l_b_Details.length < 1073741824 ∧ l_limits.length < 1073741824 ∧ (∀ y ∈ l_b_Details, y.length < 1073741824) ∧ ((∀ (r1_Coarse_a : Option Addr) (r1_Coarse_n r1_Coarse_e : Nat), ∀ (r1_Details_a : Option Addr) (r1_Details_n r1_Details_e : Nat), ∀ H' : AHeap, Grow H H' → OwnS fF H' H.length r1_Coarse_a r1_Coarse_n r1_Coarse_e ((p_spec_ShrinkBands l_b_Coarse l_b_Details l_limits hard).1) → OwnLL fF H' H.length H'.length r1_Details_a r1_Details_n r1_Details_e ((p_spec_ShrinkBands l_b_Coarse l_b_Details l_limits hard).2.1) → K r1_Coarse_a r1_Coarse_n r1_Coarse_e r1_Details_a r1_Details_n r1_Details_e ((p_spec_ShrinkBands l_b_Coarse l_b_Details l_limits hard).2.2) H'))) : T_spec_ShrinkBands b_Coarse_a b_Coarse_n b_Coarse_e b_Details_a b_Details_n b_Details_e limits_a limits_n limits_e hard H K := h
theorem spec_ShrinkBands_go (a : List Nat) (ds : List (List Nat)) (m : List Nat) (h : Bool) (hd : ds.length ≤ 6) : ∀ (μ : Nat) (b : Bool) (i : Int) (o : List (List Nat)), (o.length : Int) ≤ i → i ≤ (ds.length : Int) → ((∀ y ∈ ds, y.length < 1073741824) → ∀ y ∈ o, y.length < 1073741824) →
    (p_spec_ShrinkBands_l1 a ds m h μ b i o).1.length ≤ a.length ∧ (p_spec_ShrinkBands_l1 a ds m h μ b i o).2.1.length ≤ 6 ∧ ((∀ y ∈ ds, y.length < 1073741824) → ∀ y ∈ (p_spec_ShrinkBands_l1 a ds m h μ b i o).2.1, y.length < 1073741824) := by
  intro μ
  induction μ with
  | zero => intro b i o h1 h2 h3; exact ⟨Nat.zero_le _, Nat.zero_le _, fun _ y hy => by cases hy⟩
  | succ μ ih =>
    intro b i o h1 h2 h3
    rw [p_spec_ShrinkBands_l1_s]
    refine cnb (P := fun r : List Nat × List (List Nat) × Bool => r.1.length ≤ a.length ∧ r.2.1.length ≤ 6 ∧ ((∀ y ∈ ds, y.length < 1073741824) → ∀ y ∈ r.2.1, y.length < 1073741824)) (fun hc => ?_) (fun _ => ⟨by rw [List.nil_append]; exact Nat.le_refl _, by show o.length ≤ 6; omega, h3⟩)
    have hc := of_decide_eq_true hc
    refine cnb (P := fun r : List Nat × List (List Nat) × Bool => r.1.length ≤ a.length ∧ r.2.1.length ≤ 6 ∧ ((∀ y ∈ ds, y.length < 1073741824) → ∀ y ∈ r.2.1, y.length < 1073741824)) (fun _ => ⟨Nat.zero_le _, Nat.zero_le _, fun _ y hy => by cases hy⟩) (fun _ => ?_)
    refine ih _ _ _ (by rw [List.length_append, List.length_singleton]; omega) ω2 (fun hb y hy => ?_)
    rcases List.mem_append.1 hy with hy | hy
    · exact h3 hb y hy
    · rw [List.mem_singleton.1 hy, spec_l05List_len]; exact getD_len hb _
theorem spec_ShrinkBands_all (a : List Nat) (ds : List (List Nat)) (m : List Nat) (h : Bool) : (p_spec_ShrinkBands a ds m h).1.length ≤ a.length ∧ (p_spec_ShrinkBands a ds m h).2.1.length ≤ 6 ∧ ((∀ y ∈ ds, y.length < 1073741824) → ∀ y ∈ (p_spec_ShrinkBands a ds m h).2.1, y.length < 1073741824) := by
  rw [p_spec_ShrinkBands_eq]
  refine cnb (P := fun r : List Nat × List (List Nat) × Bool => r.1.length ≤ a.length ∧ r.2.1.length ≤ 6 ∧ ((∀ y ∈ ds, y.length < 1073741824) → ∀ y ∈ r.2.1, y.length < 1073741824)) (fun _ => ⟨Nat.zero_le _, Nat.zero_le _, fun _ y hy => by cases hy⟩) (fun hc => ?_)
  have hw := spec_l03Bands_t (nt_of_f hc)
  refine cnb (P := fun r : List Nat × List (List Nat) × Bool => r.1.length ≤ a.length ∧ r.2.1.length ≤ 6 ∧ ((∀ y ∈ ds, y.length < 1073741824) → ∀ y ∈ r.2.1, y.length < 1073741824)) (fun _ => ⟨Nat.zero_le _, Nat.zero_le _, fun _ y hy => by cases hy⟩) (fun _ => ?_)
  exact spec_ShrinkBands_go a ds m h hw.2.1 _ _ _ _ (by simp) ω2 (fun _ y hy => by cases hy)
theorem spec_ShrinkBands_len (a : List Nat) (ds : List (List Nat)) (m : List Nat) (h : Bool) : (p_spec_ShrinkBands a ds m h).1.length ≤ a.length ∧ (p_spec_ShrinkBands a ds m h).2.1.length ≤ 6 := ⟨(spec_ShrinkBands_all a ds m h).1, (spec_ShrinkBands_all a ds m h).2.1⟩
theorem spec_ShrinkBands_big (a : List Nat) (ds : List (List Nat)) (m : List Nat) (h : Bool) : (∀ y ∈ ds, y.length < 1073741824) → ∀ y ∈ (p_spec_ShrinkBands a ds m h).2.1, y.length < 1073741824 := (spec_ShrinkBands_all a ds m h).2.2
/-! spec_ShrinkBands: function 33 -/
def E_spec_ShrinkBands : Env := envOf [(112, S_spec_l03Bands), (101, S_spec_l02Least), (121, S_spec_l05List)]
def F_spec_ShrinkBands : List Value → AHeap → (Value → AHeap → Prop) → Prop
  | [.agg ⟨[.slice b_Coarse_a b_Coarse_n b_Coarse_e, .slice b_Details_a b_Details_n b_Details_e]⟩, .slice limits_a limits_n limits_e, .bool hard], H, K => T_spec_ShrinkBands b_Coarse_a b_Coarse_n b_Coarse_e b_Details_a b_Details_n b_Details_e limits_a limits_n limits_e hard H fun (r1_Coarse_a : Option Addr) (r1_Coarse_n : Nat) (r1_Coarse_e : Nat) (r1_Details_a : Option Addr) (r1_Details_n : Nat) (r1_Details_e : Nat) (r2 : Bool) (H' : AHeap) => K (.tuple #[.agg #[.slice r1_Coarse_a r1_Coarse_n r1_Coarse_e, .slice r1_Details_a r1_Details_n r1_Details_e], .bool r2]) H'
  | _, _, _ => False
def S_spec_ShrinkBands : FSpec := { F := F_spec_ShrinkBands, quiet := false, tame := true }
theorem spec_ShrinkBands_vc (b_Coarse_a : Option Addr) (b_Coarse_n : Nat) (b_Coarse_e : Nat) (b_Details_a : Option Addr) (b_Details_n : Nat) (b_Details_e : Nat) (limits_a : Option Addr) (limits_n : Nat) (limits_e : Nat) (hard : Bool) (H : AHeap) (K : Value → AHeap → Prop) : bodyL Try.prog E_spec_ShrinkBands Try.f33 [.agg #[.slice b_Coarse_a b_Coarse_n b_Coarse_e, .slice b_Details_a b_Details_n b_Details_e], .slice limits_a limits_n limits_e, .bool hard] H K =
  (Al [.slice b_Coarse_a b_Coarse_n b_Coarse_e, .slice b_Details_a b_Details_n b_Details_e] H fun b1 H1 => Al [.slice none 0 0, .slice none 0 0] H1 fun b2 H2 => T_spec_l03Bands b1 H2 fun (r1 : Bool) (H3 : AHeap) => Br (!r1) (isOwn H3 b2 ∧ (∃ l, rdN H3 b2 0 2 = some l) ∧ Lt (setN H3 b2 0 [.slice none 0 0, .slice none 0 0]) fun H4 => ∃ c1_a : Option Addr, ∃ c1_n : Nat, ∃ c1_e : Nat, ∃ c2_a : Option Addr, ∃ c2_n : Nat, ∃ c2_e : Nat,  rdN H4 b2 0 2 = some [.slice c1_a c1_n c1_e, .slice c2_a c2_n c2_e] ∧ K (.tuple #[.agg #[.slice c1_a c1_n c1_e, .slice c2_a c2_n c2_e], .bool false]) H4) (∃ x1_a : Option Addr, ∃ x1_n : Nat, ∃ x1_e : Nat,  rdC H3 b1 1 = some (.slice x1_a x1_n x1_e) ∧ Br (((limits_n : Int) : Int) != (x1_n : Int)) (isOwn H3 b2 ∧ (∃ l, rdN H3 b2 0 2 = some l) ∧ Lt (setN H3 b2 0 [.slice none 0 0, .slice none 0 0]) fun H5 => ∃ c3_a : Option Addr, ∃ c3_n : Nat, ∃ c3_e : Nat, ∃ c4_a : Option Addr, ∃ c4_n : Nat, ∃ c4_e : Nat,  rdN H5 b2 0 2 = some [.slice c3_a c3_n c3_e, .slice c4_a c4_n c4_e] ∧ K (.tuple #[.agg #[.slice c3_a c3_n c3_e, .slice c4_a c4_n c4_e], .bool false]) H5) (Al [] H3 fun b3 H6 => ∃ x2_a : Option Addr, ∃ x2_n : Nat, ∃ x2_e : Nat,  rdC H6 b1 0 = some (.slice x2_a x2_n x2_e) ∧ ∃ o1 w1 : List Value, ownB H6 (some ⟨b3, 0, none⟩) 0 1 1 = some o1 ∧ rdS H6 x2_a (x2_n * 1) = some w1 ∧ ((some ⟨b3, 0, none⟩ : Option Addr) = none → 0 < (x2_n : Nat)) ∧ (0 : Nat) + x2_n < most ∧ Ap H6 (killB H6 (some ⟨b3, 0, none⟩) ++ [some ⟨o1 ++ w1, true⟩]) fun b4 H7 => Al [.slice none 0 0, .slice none 0 0] H7 fun b5 H8 => isOwn H8 b5 ∧ (∃ l, rdN H8 b5 0 2 = some l) ∧ Lt (setN H8 b5 0 [.slice (some ⟨b4, 0, none⟩) (0 + x2_n) 1, .slice none 0 0]) fun H9 => ∃ x3_a : Option Addr, ∃ x3_n : Nat, ∃ x3_e : Nat,  rdC H9 b1 1 = some (.slice x3_a x3_n x3_e) ∧ loopK (exL Try.prog E_spec_ShrinkBands (cl (cl (cr (cl (cr (cr (cr (bodyC Try.f33)))))))) 805306702 192 [(0, 320)]) [ud, .slice limits_a limits_n limits_e, .bool hard, .pointer (some ⟨b1, 0, none⟩), ud, ud, .pointer (some ⟨b2, 0, none⟩), ud, .pointer (some ⟨b5, 0, none⟩), ud, ud, ud, ud, ud, ud, ud, ud, ud, ud, ud, ud, ud, ud, ud, ud, ud, ud, ud, .int .i64 (x3_n : Int), .int .i64 0, ud, ud, ud, ud, ud, ud, ud, ud, ud, ud, ud, ud, ud, ud, ud, ud, ud, ud, ud, ud, ud, ud, ud, ud, ud, ud, ud] H9 (blockQ 0 (seqQ (exL Try.prog E_spec_ShrinkBands (cr (cr (cr (cr (bodyC Try.f33))))) 192 192 []) (retK Try.prog Try.f33 K)))))) := by kernel_rfl
abbrev spec_ShrinkBands_P1 (b1 : Nat) (b2 : Nat) (b5 : Nat) (hard : Bool) (limits_a : Option Addr) (limits_e : Nat) (limits_n : Nat) (x3_n : Nat) (t29 : Int)  : List Value := [ud, .slice limits_a limits_n limits_e, .bool hard, .pointer (some ⟨b1, 0, none⟩), ud, ud, .pointer (some ⟨b2, 0, none⟩), ud, .pointer (some ⟨b5, 0, none⟩), ud, ud, ud, ud, ud, ud, ud, ud, ud, ud, ud, ud, ud, ud, ud, ud, ud, ud, ud, .int .i64 (x3_n : Int), .int .i64 t29, ud, ud, ud, ud, ud, ud, ud, ud, ud, ud, ud, ud, ud, ud, ud, ud, ud, ud, ud, ud, ud, ud, ud, ud, ud, ud, ud]
theorem spec_ShrinkBands_r1 (b1 : Nat) (b2 : Nat) (b5 : Nat) (hard : Bool) (limits_a : Option Addr) (limits_e : Nat) (limits_n : Nat) (x3_n : Nat) (t29 : Int)  (H : AHeap) (R : Post) : exL Try.prog E_spec_ShrinkBands (cl (cl (cr (cl (cr (cr (cr (bodyC Try.f33)))))))) 805306702 192 [(0, 320)] (spec_ShrinkBands_P1 b1 b2 b5 hard limits_a limits_e limits_n x3_n t29) H R =
  (Br (decide ((t29 : Int) < (x3_n : Int))) ((0 : Int) ≤ t29 ∧ t29 < (limits_n : Int) ∧ ∃ b6 f1, (limits_a : Option Addr) = some ⟨b6, f1, none⟩ ∧ ∃ x4 : Nat,  rdC H b6 (f1 + (t29 : Int).toNat * 1) = some (.float .f32 x4) ∧ T_spec_l02Least x4 H fun (r2 : Bool) (H10 : AHeap) => Br (!r2) (isOwn H10 b2 ∧ (∃ l, rdN H10 b2 0 2 = some l) ∧ Lt (setN H10 b2 0 [.slice none 0 0, .slice none 0 0]) fun H11 => R .ret [ud, ud, ud, ud, ud, ud, .pointer (some ⟨b2, 0, none⟩), .bool false, ud, ud, ud, ud, ud, ud, ud, ud, ud, ud, ud, ud, ud, ud, ud, ud, ud, ud, ud, ud, ud, ud, ud, ud, ud, ud, ud, ud, ud, ud, ud, ud, ud, ud, ud, ud, ud, ud, ud, ud, ud, ud, ud, ud, ud, ud, ud, ud, ud] H11) (∃ x5_a : Option Addr, ∃ x5_n : Nat, ∃ x5_e : Nat,  rdC H10 b1 1 = some (.slice x5_a x5_n x5_e) ∧ ∃ x6_a : Option Addr, ∃ x6_n : Nat, ∃ x6_e : Nat,  rdC H10 b5 1 = some (.slice x6_a x6_n x6_e) ∧ (0 : Int) ≤ t29 ∧ t29 < (x5_n : Int) ∧ ∃ b7 f2, (x5_a : Option Addr) = some ⟨b7, f2, none⟩ ∧ ∃ x7_a : Option Addr, ∃ x7_n : Nat, ∃ x7_e : Nat,  rdC H10 b7 (f2 + (t29 : Int).toNat * 1) = some (.slice x7_a x7_n x7_e) ∧ (0 : Int) ≤ t29 ∧ t29 < (limits_n : Int) ∧ ∃ b8 f3, (limits_a : Option Addr) = some ⟨b8, f3, none⟩ ∧ ∃ x8 : Nat,  rdC H10 b8 (f3 + (t29 : Int).toNat * 1) = some (.float .f32 x8) ∧ T_spec_l05List x7_a x7_n x7_e x8 hard H10 fun (a1 : Option Addr) (r3 : Nat) (r4 : Nat) (H12 : AHeap) => Al [.slice a1 r3 r4] H12 fun b9 H13 => ∃ o2 w2 : List Value, ownB H13 x6_a x6_n x6_e 1 = some o2 ∧ rdS H13 (some ⟨b9, 0, none⟩) (1 * 1) = some w2 ∧ ((x6_a : Option Addr) = none → 0 < (1 : Nat)) ∧ (x6_n : Nat) + 1 < most ∧ Ap H13 (killB H13 x6_a ++ [some ⟨o2 ++ w2, true⟩]) fun b10 H14 => isOwn H14 b5 ∧ (∃ l, rdN H14 b5 1 1 = some l) ∧ Lt (setC H14 b5 1 (.slice (some ⟨b10, 0, none⟩) (x6_n + 1) 1)) fun H15 => R .normal [ud, .slice limits_a limits_n limits_e, .bool hard, .pointer (some ⟨b1, 0, none⟩), ud, ud, .pointer (some ⟨b2, 0, none⟩), ud, .pointer (some ⟨b5, 0, none⟩), ud, ud, ud, ud, ud, ud, ud, ud, ud, ud, ud, ud, ud, ud, ud, ud, ud, ud, ud, .int .i64 (x3_n : Int), .int .i64 (IntKind.wrap .i64 (t29 + 1)), ud, ud, ud, ud, ud, ud, ud, ud, ud, ud, ud, ud, ud, ud, ud, ud, ud, ud, ud, ud, ud, ud, ud, ud, ud, ud, ud] H15)) (R (.exit 0) [ud, ud, ud, ud, ud, ud, .pointer (some ⟨b2, 0, none⟩), ud, .pointer (some ⟨b5, 0, none⟩), ud, ud, ud, ud, ud, ud, ud, ud, ud, ud, ud, ud, ud, ud, ud, ud, ud, ud, ud, ud, ud, ud, ud, ud, ud, ud, ud, ud, ud, ud, ud, ud, ud, ud, ud, ud, ud, ud, ud, ud, ud, ud, ud, ud, ud, ud, ud, ud] H)) := by kernel_rfl
def spec_ShrinkBands_I1 (b1 : Nat) (b2 : Nat) (b5 : Nat) (hard : Bool) (limits_a : Option Addr) (limits_e : Nat) (limits_n : Nat) (x3_n : Nat) (Inv : Nat → Int → AHeap → Prop) : Nat → List Value → AHeap → Prop := fun μ tm H => ∃ (t29 : Int), tm = (spec_ShrinkBands_P1 b1 b2 b5 hard limits_a limits_e limits_n x3_n t29) ∧ Inv μ t29 H
theorem spec_ShrinkBands_L1 (b1 : Nat) (b2 : Nat) (b5 : Nat) (hard : Bool) (limits_a : Option Addr) (limits_e : Nat) (limits_n : Nat) (x3_n : Nat) {Q : Post} (Inv : Nat → Int → AHeap → Prop) (ν : Nat) (t29 : Int)  (H : AHeap) (h0 : Inv ν t29 H)
    (hs : ∀ (μ : Nat) (t29 : Int)  (H : AHeap), Inv μ t29 H → exL Try.prog E_spec_ShrinkBands (cl (cl (cr (cl (cr (cr (cr (bodyC Try.f33)))))))) 805306702 192 [(0, 320)] (spec_ShrinkBands_P1 b1 b2 b5 hard limits_a limits_e limits_n x3_n t29) H (loopQ (spec_ShrinkBands_I1 b1 b2 b5 hard limits_a limits_e limits_n x3_n Inv) μ Q)) : loopK (exL Try.prog E_spec_ShrinkBands (cl (cl (cr (cl (cr (cr (cr (bodyC Try.f33)))))))) 805306702 192 [(0, 320)]) (spec_ShrinkBands_P1 b1 b2 b5 hard limits_a limits_e limits_n x3_n t29) H Q :=
  ⟨spec_ShrinkBands_I1 b1 b2 b5 hard limits_a limits_e limits_n x3_n Inv, ν, ⟨t29, rfl, h0⟩, fun μ tm H h => by obtain ⟨t29, rfl, hI⟩ := h; exact hs μ t29  H hI⟩
theorem spec_ShrinkBands_n1 {b1 : Nat} {b2 : Nat} {b5 : Nat} {hard : Bool} {limits_a : Option Addr} {limits_e : Nat} {limits_n : Nat} {x3_n : Nat} {Q : Post} {Inv : Nat → Int → AHeap → Prop} {μ : Nat} (μ' : Nat) {t29 : Int}  {H : AHeap} (hm : μ' < μ) (hI : Inv μ' t29 H) : loopQ (spec_ShrinkBands_I1 b1 b2 b5 hard limits_a limits_e limits_n x3_n Inv) μ Q .normal (spec_ShrinkBands_P1 b1 b2 b5 hard limits_a limits_e limits_n x3_n t29) H := ⟨μ', hm, t29, rfl, hI⟩
theorem spec_ShrinkBands_x1_0 (b2 : Nat) (b5 : Nat) (H : AHeap) (K : Value → AHeap → Prop)  {I : Nat → List Value → AHeap → Prop} {μ : Nat} : loopQ I μ (blockQ 0 (seqQ (exL Try.prog E_spec_ShrinkBands (cr (cr (cr (cr (bodyC Try.f33))))) 192 192 []) (retK Try.prog Try.f33 K))) (.exit 0) [ud, ud, ud, ud, ud, ud, .pointer (some ⟨b2, 0, none⟩), ud, .pointer (some ⟨b5, 0, none⟩), ud, ud, ud, ud, ud, ud, ud, ud, ud, ud, ud, ud, ud, ud, ud, ud, ud, ud, ud, ud, ud, ud, ud, ud, ud, ud, ud, ud, ud, ud, ud, ud, ud, ud, ud, ud, ud, ud, ud, ud, ud, ud, ud, ud, ud, ud, ud, ud] H =
  (∃ c5_a : Option Addr, ∃ c5_n : Nat, ∃ c5_e : Nat, ∃ c6_a : Option Addr, ∃ c6_n : Nat, ∃ c6_e : Nat,  rdN H b5 0 2 = some [.slice c5_a c5_n c5_e, .slice c6_a c6_n c6_e] ∧ isOwn H b2 ∧ (∃ l, rdN H b2 0 2 = some l) ∧ Lt (setN H b2 0 [.slice c5_a c5_n c5_e, .slice c6_a c6_n c6_e]) fun H16 => ∃ c7_a : Option Addr, ∃ c7_n : Nat, ∃ c7_e : Nat, ∃ c8_a : Option Addr, ∃ c8_n : Nat, ∃ c8_e : Nat,  rdN H16 b2 0 2 = some [.slice c7_a c7_n c7_e, .slice c8_a c8_n c8_e] ∧ K (.tuple #[.agg #[.slice c7_a c7_n c7_e, .slice c8_a c8_n c8_e], .bool true]) H16) := by kernel_rfl
theorem spec_ShrinkBands_x1_ret (b2 : Nat) (t7 : Bool) (H : AHeap) (K : Value → AHeap → Prop)  {I : Nat → List Value → AHeap → Prop} {μ : Nat} : loopQ I μ (blockQ 0 (seqQ (exL Try.prog E_spec_ShrinkBands (cr (cr (cr (cr (bodyC Try.f33))))) 192 192 []) (retK Try.prog Try.f33 K))) .ret [ud, ud, ud, ud, ud, ud, .pointer (some ⟨b2, 0, none⟩), .bool t7, ud, ud, ud, ud, ud, ud, ud, ud, ud, ud, ud, ud, ud, ud, ud, ud, ud, ud, ud, ud, ud, ud, ud, ud, ud, ud, ud, ud, ud, ud, ud, ud, ud, ud, ud, ud, ud, ud, ud, ud, ud, ud, ud, ud, ud, ud, ud, ud, ud] H =
  (∃ c9_a : Option Addr, ∃ c9_n : Nat, ∃ c9_e : Nat, ∃ c10_a : Option Addr, ∃ c10_n : Nat, ∃ c10_e : Nat,  rdN H b2 0 2 = some [.slice c9_a c9_n c9_e, .slice c10_a c10_n c10_e] ∧ K (.tuple #[.agg #[.slice c9_a c9_n c9_e, .slice c10_a c10_n c10_e], .bool t7]) H) := by kernel_rfl
theorem E_spec_ShrinkBands_ok : ∀ g, FnOk Try.prog g (E_spec_ShrinkBands g) := FnOk.envOf (by
  intro x hx
  simp only [List.mem_cons, List.not_mem_nil, or_false] at hx
  rcases hx with rfl | rfl | rfl
  · exact spec_l03Bands_ok
  · exact spec_l02Least_ok
  · exact spec_l05List_ok)
theorem ω6 {P : Prop} (h : P := by first | exact OwnS.nil _ _ _ _ | exact OwnT.nil _ _ _ | exact OwnLL.nil _ _ _ _) : P := h
set_option maxHeartbeats 1000000 in
theorem spec_ShrinkBands_main (b_Coarse_a : Option Addr) (b_Coarse_n : Nat) (b_Coarse_e : Nat) (b_Details_a : Option Addr) (b_Details_n : Nat) (b_Details_e : Nat) (limits_a : Option Addr) (limits_n : Nat) (limits_e : Nat) (hard : Bool) (H : AHeap) (K : Value → AHeap → Prop) (h : T_spec_ShrinkBands b_Coarse_a b_Coarse_n b_Coarse_e b_Details_a b_Details_n b_Details_e limits_a limits_n limits_e hard H fun (r1_Coarse_a : Option Addr) (r1_Coarse_n : Nat) (r1_Coarse_e : Nat) (r1_Details_a : Option Addr) (r1_Details_n : Nat) (r1_Details_e : Nat) (r2 : Bool) (H' : AHeap) => K (.tuple #[.agg #[.slice r1_Coarse_a r1_Coarse_n r1_Coarse_e, .slice r1_Details_a r1_Details_n r1_Details_e], .bool r2]) H') : bodyL Try.prog E_spec_ShrinkBands Try.f33 [.agg #[.slice b_Coarse_a b_Coarse_n b_Coarse_e, .slice b_Details_a b_Details_n b_Details_e], .slice limits_a limits_n limits_e, .bool hard] H K := by
  rw [spec_ShrinkBands_vc]
  obtain ⟨l_b_Coarse, l_b_Details, l_limits, i_b_Coarse, i_b_Details, i_limits, bd_251, bd_252, bd_253, bb_l_b_Details, hk⟩ := h
  obtain rfl := i_b_Coarse.eqn
  obtain rfl := i_b_Details.eqn
  obtain rfl := i_limits.eqn
  have e : (p_spec_ShrinkBands l_b_Coarse l_b_Details l_limits hard) = _ := rfl
  have e := e.trans (p_spec_ShrinkBands_eq l_b_Coarse l_b_Details l_limits hard)
  have g0 := Grow.refl H
  refine Al.intro (fun b_1 H_1 hb_2 hl_3 g_4 o_5 => ?_)
  have l_7 := g_4.1
  have g_8 := g0.trans g_4
  have l_9 := g_8.1
  have w_250 := o_5.lt
  refine Al.intro (fun b_10 H_2 hb_11 hl_12 g_13 o_14 => ?_)
  have l_16 := g_13.1
  have g_17 := g_8.trans g_13
  have l_18 := g_17.1
  have o_19 := o_5.grow g_13
  have w_20 := o_19.lt
  have w_249 := o_14.lt
  refine T_spec_l03Bands_i ⟨b_Coarse_a, l_b_Coarse.length, b_Coarse_e, b_Details_a, l_b_Details.length, b_Details_e, _, l_b_Details, ((o_19.rdN (Nat.le_of_ble_eq_true rfl)).trans rfl), (i_b_Coarse.grow g_17), (i_b_Details.grow g_17), ω0, ω0, (by first | assumption | exact or_right (by assumption) (by omega) | exact or_right (by assumption : _ ∧ (_ ∨ _)).2 (by omega) | (intro y hy; simp only [List.mem_cons, List.not_mem_nil, or_false] at hy; first | omega | (subst hy; omega) | (rcases hy with rfl | rfl <;> omega) | (rcases hy with rfl | rfl | rfl <;> omega))), ?_⟩
  refine Br.intro (fun c_21 => ?_) (fun c_21 => ?_)
  · have e := e.trans (cond_t c_21)
    have c_21n := nf_of_t c_21
    refine Lt.setN (n := 2) o_14 (Nat.le_of_ble_eq_true rfl) rfl (fun H_3 hl_22 o_24 k_23 => ?_)
    have o_24 : Own H_3 b_10 [.slice none 0 0, .slice none 0 0] := o_24
    have l_25 := k_23.1
    have g_26 := g_17.keep (b := b_10) ω2 k_23
    have l_27 := g_26.1
    have o_28 := o_19.keep ω2 k_23
    have w_29 := o_28.lt
    have w_30 := o_24.lt
    refine ⟨none, 0, 0, none, 0, 0, (o_24.rdN (Nat.le_of_ble_eq_true rfl)).trans rfl, ?_⟩
    rw [e] at hk
    exact hk _ _ _ _ _ _ H_3 g_26 ω6 ω6
  · have e := e.trans (cond_f c_21)
    have c_21n := nt_of_f c_21
    have c_21n' := spec_l03Bands_t c_21n
    refine ⟨b_Details_a, l_b_Details.length, b_Details_e, (o_19.rdC _).trans rfl, ?_⟩
    refine Br.intro (fun c_31 => ?_) (fun c_31 => ?_)
    · have e := e.trans (cond_t c_31)
      have c_31' := ine_t c_31
      refine Lt.setN (n := 2) o_14 (Nat.le_of_ble_eq_true rfl) rfl (fun H_4 hl_32 o_34 k_33 => ?_)
      have o_34 : Own H_4 b_10 [.slice none 0 0, .slice none 0 0] := o_34
      have l_35 := k_33.1
      have g_36 := g_17.keep (b := b_10) ω2 k_33
      have l_37 := g_36.1
      have o_38 := o_19.keep ω2 k_33
      have w_39 := o_38.lt
      have w_40 := o_34.lt
      refine ⟨none, 0, 0, none, 0, 0, (o_34.rdN (Nat.le_of_ble_eq_true rfl)).trans rfl, ?_⟩
      rw [e] at hk
      exact hk _ _ _ _ _ _ H_4 g_36 ω6 ω6
    · have e := e.trans (cond_f c_31)
      have c_31' := ine_f c_31
      refine Al.intro (fun b_41 H_5 hb_42 hl_43 g_44 o_45 => ?_)
      have o_45 : Own H_5 b_41 ((([] : List Nat)).map fF) := o_45
      have l_47 := g_44.1
      have g_48 := g_17.trans g_44
      have l_49 := g_48.1
      have o_50 := o_19.grow g_44
      have w_51 := o_50.lt
      have o_52 := o_14.grow g_44
      have w_53 := o_52.lt
      have w_248 := o_45.lt
      refine ⟨b_Coarse_a, l_b_Coarse.length, b_Coarse_e, (o_50.rdC _).trans rfl, ?_⟩
      refine ⟨_, _, o_45.ownB ω4 rfl, (isl_rdS (i_b_Coarse.grow g_48)), (fun h => by cases h), ω12, ?_⟩
      refine Ap.app o_45 rfl rfl (fun b_58 H_6 q_246 hl_54 o_55 k_56 => ?_)
      have o_55 := map_snoc o_55
      have l_59 := k_56.1
      have g_60 := g_48.keep (b := b_41) ω2 k_56
      have l_61 := g_60.1
      have o_62 := o_50.keep ω2 k_56
      have w_63 := o_62.lt
      have o_64 := o_52.keep ω2 k_56
      have w_65 := o_64.lt
      have w_247 := o_55.lt
      refine Al.intro (fun b_66 H_7 hb_67 hl_68 g_69 o_70 => ?_)
      have l_72 := g_69.1
      have g_73 := g_60.trans g_69
      have l_74 := g_73.1
      have o_75 := o_62.grow g_69
      have w_76 := o_75.lt
      have o_77 := o_64.grow g_69
      have w_78 := o_77.lt
      have o_79 := o_55.grow g_69
      have w_80 := o_79.lt
      have w_245 := o_70.lt
      refine Lt.setN (n := 2) o_70 (Nat.le_of_ble_eq_true rfl) rfl (fun H_8 hl_81 o_83 k_82 => ?_)
      have o_83 : Own H_8 b_66 [.slice (some ⟨b_58, 0, none⟩) (0 + l_b_Coarse.length) 1, .slice none 0 0] := o_83
      have l_84 := k_82.1
      have g_85 := g_73.keep (b := b_66) ω2 k_82
      have l_86 := g_85.1
      have o_87 := o_75.keep ω2 k_82
      have w_88 := o_87.lt
      have o_89 := o_77.keep ω2 k_82
      have w_90 := o_89.lt
      have o_91 := o_79.keep ω2 k_82
      have w_92 := o_91.lt
      have w_244 := o_83.lt
      refine ⟨b_Details_a, l_b_Details.length, b_Details_e, (o_87.rdC _).trans rfl, ?_⟩
      refine spec_ShrinkBands_L1 _ _ _ _ _ _ _ _ (fun (μ : Nat) (t29 : Int) (H_9 : AHeap) => ∃ (t7 : Bool), ∃ (q1_4 : List (List Nat)), ∃ (q1_4_a : Option Addr), ∃ (q1_4_e : Nat), Own H_9 b_1 ([.slice b_Coarse_a l_b_Coarse.length b_Coarse_e, .slice b_Details_a l_b_Details.length b_Details_e]) ∧ Own H_9 b_10 [.slice none 0 0, .slice none 0 0] ∧ Own H_9 b_58 (((([] : List Nat) ++ l_b_Coarse)).map fF) ∧ OwnLL fF H_9 H_8.length H_9.length q1_4_a q1_4.length q1_4_e q1_4 ∧ Own H_9 b_66 [.slice (some ⟨b_58, 0, none⟩) (0 + l_b_Coarse.length) 1, .slice q1_4_a q1_4.length q1_4_e] ∧ (b_10 ≠ b_1) ∧ (b_58 ≠ b_1) ∧ (b_58 ≠ b_10) ∧ (b_66 ≠ b_1) ∧ (b_66 ≠ b_10) ∧ (b_66 ≠ b_58) ∧ Grow H H_9 ∧ (0 : Int) ≤ t29 ∧ t29 ≤ (l_b_Details.length : Int) ∧ (q1_4.length : Int) ≤ t29 ∧ (l_b_Details.length : Int) - t29 ≤ (μ : Int) ∧ p_spec_ShrinkBands l_b_Coarse l_b_Details l_limits hard = p_spec_ShrinkBands_l1 l_b_Coarse l_b_Details l_limits hard (μ + 1) t7 t29 q1_4) (Int.toNat ((l_b_Details.length : Int) - (0 : Int))) _ H_8 ?_ ?_
      · exact ⟨_, _, _, _, o_87, (by first | exact o_89 | (have hbx := o_89; (try simp only [List.length_append, List.length_cons, List.length_nil, Nat.zero_add] at hbx); (try simp only [List.length_append, List.length_cons, List.length_nil, Nat.zero_add]); exact hbx)), o_91, (OwnLL.nil _ _ _ _), (by first | exact o_83 | (have hbx := o_83; (try simp only [List.length_append, List.length_cons, List.length_nil, Nat.zero_add] at hbx); (try simp only [List.length_append, List.length_cons, List.length_nil, Nat.zero_add]); exact hbx)), ω2, ω2, ω2, ω2, ω2, ω2, g_85, ω3, ω3, ω3, ω2, e⟩
      · intro μ t29  H_9 hI
        obtain ⟨t7, q1_4, q1_4_a, q1_4_e, o_93, o_94, o_95, r_98, o_96, n_101, n_102, n_103, n_104, n_105, n_106, g_107, v_108, v_109, v_110, hμ, e⟩ := hI
        rw [spec_ShrinkBands_r1]
        have e := e.trans (p_spec_ShrinkBands_l1_s l_b_Coarse l_b_Details l_limits hard μ t7 t29 q1_4)
        have u_99 := r_98.up
        have u_100 := r_98.lo
        have w_111 := o_93.lt
        have w_112 := o_94.lt
        have w_113 := o_95.lt
        have w_114 := o_96.lt
        have l_115 := g_107.1
        refine Br.intro (fun c_116 => ?_) (fun c_116 => ?_)
        · have e := e.trans (cond_t c_116)
          have c_116' := of_decide_eq_true c_116
          obtain ⟨b_117, f_118, q_119⟩ := ((i_limits.grow g_107)).pos ω0
          refine ⟨by omega, by omega, b_117, f_118, q_119, ?_⟩
          refine ⟨((l_limits).getD (t29 : Int).toNat 0), (i_limits).rd g_107 q_119 ω2 _, ?_⟩
          refine T_spec_l02Least_i ?_
          refine Br.intro (fun c_120 => ?_) (fun c_120 => ?_)
          · have e := e.trans (cond_t c_120)
            have c_120n := nf_of_t c_120
            refine Lt.setN (n := 2) o_94 (Nat.le_of_ble_eq_true rfl) rfl (fun H_10 hl_121 o_123 k_122 => ?_)
            have o_123 : Own H_10 b_10 [.slice none 0 0, .slice none 0 0] := o_123
            have l_124 := k_122.1
            have g_125 := g_107.keep (b := b_10) ω2 k_122
            have l_126 := g_125.1
            have o_127 := o_93.keep ω2 k_122
            have w_128 := o_127.lt
            have o_129 := o_95.keep ω2 k_122
            have w_130 := o_129.lt
            have o_131 := o_96.keep ω2 k_122
            have w_132 := o_131.lt
            have r_133 := r_98.keep ω2 k_122
            have w_134 := o_123.lt
            rw [spec_ShrinkBands_x1_ret]
            refine ⟨none, 0, 0, none, 0, 0, (o_123.rdN (Nat.le_of_ble_eq_true rfl)).trans rfl, ?_⟩
            rw [e] at hk
            exact hk _ _ _ _ _ _ H_10 g_125 ω6 ω6
          · have e := e.trans (cond_f c_120)
            have c_120n := nt_of_f c_120
            refine ⟨b_Details_a, l_b_Details.length, b_Details_e, (o_93.rdC _).trans rfl, ?_⟩
            refine ⟨q1_4_a, q1_4.length, q1_4_e, (o_96.rdC _).trans rfl, ?_⟩
            obtain ⟨b_135, f_136, q_137⟩ := ((i_b_Details.grow g_107)).pos ω0
            refine ⟨by omega, by omega, b_135, f_136, q_137, ?_⟩
            obtain ⟨a_138, n_139, e_140, r_141, i_142⟩ := (i_b_Details).rd (i := (t29 : Int).toNat) g_107 q_137 ω2
            obtain rfl := i_142.eqn
            refine ⟨a_138, _, e_140, r_141, ?_⟩
            have z_143 := getD_len bb_l_b_Details (t29 : Int).toNat
            obtain ⟨b_144, f_145, q_146⟩ := ((i_limits.grow g_107)).pos ω0
            refine ⟨by omega, by omega, b_144, f_145, q_146, ?_⟩
            refine ⟨((l_limits).getD (t29 : Int).toNat 0), (i_limits).rd g_107 q_146 ω2 _, ?_⟩
            refine T_spec_l05List_i ⟨_, (i_142.grow g_107), ω0, fun a_147 n_148 e_149 H_11 g_152 r_150 => ?_⟩
            have z_151 := spec_l05List_len (((l_b_Details).getD (t29 : Int).toNat [])) (((l_limits).getD (t29 : Int).toNat 0)) hard
            have l_153 := g_152.1
            have g_154 := g_107.trans g_152
            have l_155 := g_154.1
            have o_156 := o_93.grow g_152
            have w_157 := o_156.lt
            have o_158 := o_94.grow g_152
            have w_159 := o_158.lt
            have o_160 := o_95.grow g_152
            have w_161 := o_160.lt
            have o_162 := o_96.grow g_152
            have w_163 := o_162.lt
            have r_164 := r_98.grow g_152
            obtain rfl := r_150.isL.eqn
            have u_165 := r_150.up
            have u_166 := r_150.lo
            refine Al.intro (fun b_168 H_12 hb_169 hl_170 g_171 o_172 => ?_)
            have l_174 := g_171.1
            have g_175 := g_154.trans g_171
            have l_176 := g_175.1
            have o_177 := o_156.grow g_171
            have w_178 := o_177.lt
            have o_179 := o_158.grow g_171
            have w_180 := o_179.lt
            have o_181 := o_160.grow g_171
            have w_182 := o_181.lt
            have o_183 := o_162.grow g_171
            have w_184 := o_183.lt
            have r_185 := r_164.grow g_171
            have r_186 := r_150.grow g_171
            have w_229 := o_172.lt
            obtain ⟨v_190, q_191, q_192, q_193⟩ := r_185.ownB
            refine ⟨v_190, _, q_191, o_172.rdAll rfl, (fun _ => by decide), ω12, ?_⟩
            refine Ap.appLL r_185 ω2 r_186 ω2 ω2 (fun x hx => by have := u_165 x hx; have := u_166 x hx; omega) q_191 rfl (fun b_196 H_13 q_194 hl_187 o_188 k_189 => ?_)
            have l_197 := k_189.1
            have g_198 := g_175.keepA (fun x hx => by have := u_100 x hx; omega) k_189
            have l_199 := g_198.1
            have o_200 := o_177.keepA (fun x hx => by have := u_100 x hx; have := u_99 x hx; omega) k_189
            have w_201 := o_200.lt
            have o_202 := o_179.keepA (fun x hx => by have := u_100 x hx; have := u_99 x hx; omega) k_189
            have w_203 := o_202.lt
            have o_204 := o_181.keepA (fun x hx => by have := u_100 x hx; have := u_99 x hx; omega) k_189
            have w_205 := o_204.lt
            have o_206 := o_183.keepA (fun x hx => by have := u_100 x hx; have := u_99 x hx; omega) k_189
            have w_207 := o_206.lt
            have o_208 := o_172.keepA (fun x hx => by have := u_100 x hx; have := u_99 x hx; omega) k_189
            have w_209 := o_208.lt
            have w_227 := o_188.lt
            have v_228 := o_188.rng
            refine Lt.set o_206 (Nat.le_of_ble_eq_true rfl) (fun H_14 hl_210 o_212 k_211 => ?_)
            have o_212 : Own H_14 b_66 [.slice (some ⟨b_58, 0, none⟩) (0 + l_b_Coarse.length) 1, .slice (some ⟨b_196, 0, none⟩) (q1_4.length + 1) 1] := o_212
            have l_213 := k_211.1
            have g_214 := g_198.keep (b := b_66) ω2 k_211
            have l_215 := g_214.1
            have o_216 := o_200.keep ω2 k_211
            have w_217 := o_216.lt
            have o_218 := o_202.keep ω2 k_211
            have w_219 := o_218.lt
            have o_220 := o_204.keep ω2 k_211
            have w_221 := o_220.lt
            have o_222 := o_208.keep ω2 k_211
            have w_223 := o_222.lt
            have o_224 := o_188.keep ω2 k_211
            have w_225 := o_224.lt
            have w_226 := o_212.lt
            rw [show IntKind.wrap .i64 (t29 + 1) = (t29 + 1) from wrap64 ω2 ω2]
            refine spec_ShrinkBands_n1 (μ - 1) ω8 ⟨_, _, _, _, o_216, (by first | exact o_218 | (have hbx := o_218; (try simp only [List.length_append, List.length_cons, List.length_nil, Nat.zero_add] at hbx); (try simp only [List.length_append, List.length_cons, List.length_nil, Nat.zero_add]); exact hbx)), o_220, ((o_224.ownLL rfl).weak ω2 ω2 (Nat.le_refl _)), (by first | exact o_212 | (have hbx := o_212; (try simp only [List.length_append, List.length_cons, List.length_nil, Nat.zero_add] at hbx); (try simp only [List.length_append, List.length_cons, List.length_nil, Nat.zero_add]); exact hbx)), ω2, ω2, ω2, ω2, ω2, ω2, g_214, ω1, ω1, ω1, ω8, (by rw [show μ - 1 + 1 = μ from by first | omega]; exact e)⟩
        · have e := e.trans (cond_f c_116)
          have c_116' := of_decide_eq_false c_116
          rw [spec_ShrinkBands_x1_0]
          refine ⟨some ⟨b_58, 0, none⟩, 0 + l_b_Coarse.length, 1, q1_4_a, q1_4.length, q1_4_e, (o_96.rdN (Nat.le_of_ble_eq_true rfl)).trans rfl, ?_⟩
          refine Lt.setN (n := 2) o_94 (Nat.le_of_ble_eq_true rfl) rfl (fun H_15 hl_230 o_232 k_231 => ?_)
          have o_232 : Own H_15 b_10 [.slice (some ⟨b_58, 0, none⟩) (0 + l_b_Coarse.length) 1, .slice q1_4_a q1_4.length q1_4_e] := o_232
          have l_233 := k_231.1
          have g_234 := g_107.keep (b := b_10) ω2 k_231
          have l_235 := g_234.1
          have o_236 := o_93.keep ω2 k_231
          have w_237 := o_236.lt
          have o_238 := o_95.keep ω2 k_231
          have w_239 := o_238.lt
          have o_240 := o_96.keep ω2 k_231
          have w_241 := o_240.lt
          have r_242 := r_98.keep ω2 k_231
          have w_243 := o_232.lt
          refine ⟨some ⟨b_58, 0, none⟩, 0 + l_b_Coarse.length, 1, q1_4_a, q1_4.length, q1_4_e, (o_232.rdN (Nat.le_of_ble_eq_true rfl)).trans rfl, ?_⟩
          rw [e] at hk
          exact hk _ _ _ _ _ _ H_15 g_234 (o_238.ownS ω5 ω2) (r_242.weak ω2 ω2 (Nat.le_refl _))
theorem spec_ShrinkBands_ok : FnOk Try.prog 33 S_spec_ShrinkBands := by
  refine FnOk.body mix_ok E_spec_ShrinkBands_ok Try.func33 rfl (by kernel_rfl) (by kernel_rfl) ?_ ?_ ?_ ?_ ?_
  · intro args H K K' h hk
    simp only [S_spec_ShrinkBands] at *
    unfold F_spec_ShrinkBands at *
    split at hk
    · obtain ⟨l_b_Coarse, l_b_Details, l_limits, i_b_Coarse, i_b_Details, i_limits, bd_251, bd_252, bd_253, bb_l_b_Details, k⟩ := hk
      exact ⟨l_b_Coarse, l_b_Details, l_limits, i_b_Coarse, i_b_Details, i_limits, bd_251, bd_252, bd_253, bb_l_b_Details, (fun r1_Coarse_a r1_Coarse_n r1_Coarse_e r1_Details_a r1_Details_n r1_Details_e H' gg ow0 ow1 => h _ _ (k r1_Coarse_a r1_Coarse_n r1_Coarse_e r1_Details_a r1_Details_n r1_Details_e H' gg ow0 ow1))⟩
    · exact hk.elim
  · intro hq; cases hq
  · intro args H K hk
    simp only [S_spec_ShrinkBands] at *
    unfold F_spec_ShrinkBands at *
    split at hk
    · obtain ⟨l_b_Coarse, l_b_Details, l_limits, i_b_Coarse, i_b_Details, i_limits, bd_251, bd_252, bd_253, bb_l_b_Details, k⟩ := hk
      exact liveSL fun a n e a2 n2 e2 H1 g o o2 => ⟨_, _, k a n e a2 n2 e2 H1 g o o2⟩
    · exact hk.elim
  · intro _ args H K hk
    simp only [S_spec_ShrinkBands] at *
    unfold F_spec_ShrinkBands at *
    split at hk
    · obtain ⟨l_b_Coarse, l_b_Details, l_limits, i_b_Coarse, i_b_Details, i_limits, bd_251, bd_252, bd_253, bb_l_b_Details, k⟩ := hk
      exact ⟨l_b_Coarse, l_b_Details, l_limits, i_b_Coarse, i_b_Details, i_limits, bd_251, bd_252, bd_253, bb_l_b_Details, (fun r1_Coarse_a r1_Coarse_n r1_Coarse_e r1_Details_a r1_Details_n r1_Details_e H' gg ow0 ow1 => ⟨gg, k r1_Coarse_a r1_Coarse_n r1_Coarse_e r1_Details_a r1_Details_n r1_Details_e H' gg ow0 ow1⟩)⟩
    · exact hk.elim
  · have mm := @spec_ShrinkBands_main
    have ml := fun (args : List Value) (H : AHeap) (K : Value → AHeap → Prop) => bodyL_body (P := Try.prog) (env := E_spec_ShrinkBands ) (fn := Try.f33) (args := args) (H := H) (K := K) E_spec_ShrinkBands_ok 
    revert mm ml
    generalize bodyK Try.prog E_spec_ShrinkBands Try.f33 = Q
    generalize bodyL Try.prog E_spec_ShrinkBands Try.f33 = QL
    intro mm ml args H K hk
    simp only [S_spec_ShrinkBands] at *
    unfold F_spec_ShrinkBands at *
    split at hk
    · exact ml _ H K (mm _ _ _ _ _ _ _ _ _ _ H K hk)
    · exact hk.elim
def p_impl_within (n : Int) (low : Int) (high : Int) : Bool := (bif decide ((low : Int) ≤ n) then decide ((n : Int) ≤ high) else false)
def T_impl_within (n : Int) (low : Int) (high : Int) (H : AHeap) (K : Bool → AHeap → Prop) : Prop := K (p_impl_within n low high) H
theorem impl_within_t {n a b : Int} (h : p_impl_within n a b = true) : a ≤ n ∧ n ≤ b := by
  unfold p_impl_within at h
  by_cases h1 : a ≤ n
  · rw [decide_eq_true h1, cond_true] at h; exact ⟨h1, of_decide_eq_true h⟩
  · rw [decide_eq_false h1] at h; cases h
theorem T_impl_within_i {n : Int} {low : Int} {high : Int} {H : AHeap} {K : Bool → AHeap → Prop} (h : K (p_impl_within n low high) H) : T_impl_within n low high H K := h
/-! impl_within: function 96 -/
def E_impl_within : Env := envOf []
def F_impl_within : List Value → AHeap → (Value → AHeap → Prop) → Prop
  | [.int .i64 n, .int .i64 low, .int .i64 high], H, K => T_impl_within n low high H fun (r1 : Bool) (H' : AHeap) => K (.bool r1) H'
  | _, _, _ => False
def S_impl_within : FSpec := { F := F_impl_within, quiet := true, tame := false }
theorem impl_within_vc (n : Int) (low : Int) (high : Int) (H : AHeap) (K : Value → AHeap → Prop) : bodyL Try.prog E_impl_within Try.f96 [.int .i64 n, .int .i64 low, .int .i64 high] H K =
  (Br (decide ((low : Int) ≤ n)) (K (.bool (decide ((n : Int) ≤ high))) H) (K (.bool false) H)) := by kernel_rfl
theorem E_impl_within_ok : ∀ g, FnOk Try.prog g (E_impl_within g) := FnOk.envOf (by
  intro x hx; cases hx)
set_option maxHeartbeats 1000000 in
theorem impl_within_main (n : Int) (low : Int) (high : Int) (H : AHeap) (K : Value → AHeap → Prop) (h : T_impl_within n low high H fun (r1 : Bool) (H' : AHeap) => K (.bool r1) H') : bodyL Try.prog E_impl_within Try.f96 [.int .i64 n, .int .i64 low, .int .i64 high] H K := by
  rw [impl_within_vc]
  unfold T_impl_within p_impl_within at h
  repeat' (first | exact h | (exfalso; simp_all; done) | (refine ⟨by decide, ?_⟩) | (refine Br.intro (fun hb => ?_) (fun hb => ?_) <;> (try simp only [hb, cond_true, cond_false, Bool.not_true, Bool.not_false] at h)))
theorem impl_within_ok : FnOk Try.prog 96 S_impl_within := by
  refine FnOk.body mix_ok E_impl_within_ok Try.func96 rfl (by kernel_rfl) (by kernel_rfl) ?_ ?_ ?_ ?_ ?_
  · intro args H K K' h hk
    simp only [S_impl_within] at *
    unfold F_impl_within at *
    split at hk
    · have k := hk
      exact h _ _ k
    · exact hk.elim
  · intro _ args H K hk
    simp only [S_impl_within] at *
    unfold F_impl_within at *
    split at hk
    · have k := hk
      exact ⟨_, k, fun K' k' => k'⟩
    · exact hk.elim
  · intro args H K hk
    simp only [S_impl_within] at *
    unfold F_impl_within at *
    split at hk
    · have k := hk
      exact ⟨_, _, k⟩
    · exact hk.elim
  · intro hq; cases hq
  · have mm := @impl_within_main
    have ml := fun (args : List Value) (H : AHeap) (K : Value → AHeap → Prop) => bodyL_body (P := Try.prog) (env := E_impl_within ) (fn := Try.f96) (args := args) (H := H) (K := K) E_impl_within_ok 
    revert mm ml
    generalize bodyK Try.prog E_impl_within Try.f96 = Q
    generalize bodyL Try.prog E_impl_within Try.f96 = QL
    intro mm ml args H K hk
    simp only [S_impl_within] at *
    unfold F_impl_within at *
    split at hk
    · exact ml _ H K (mm _ _ _ H K hk)
    · exact hk.elim
def p_impl_IsFinite (x : Nat) : Bool := feq .f32 (fsub .f32 x x) 0
def T_impl_IsFinite (x : Nat) (H : AHeap) (K : Bool → AHeap → Prop) : Prop := K (p_impl_IsFinite x) H

theorem T_impl_IsFinite_i {x : Nat} {H : AHeap} {K : Bool → AHeap → Prop} (h : K (p_impl_IsFinite x) H) : T_impl_IsFinite x H K := h
/-! impl_IsFinite: function 133 -/
def E_impl_IsFinite : Env := envOf []
def F_impl_IsFinite : List Value → AHeap → (Value → AHeap → Prop) → Prop
  | [.float .f32 x], H, K => T_impl_IsFinite x H fun (r1 : Bool) (H' : AHeap) => K (.bool r1) H'
  | _, _, _ => False
def S_impl_IsFinite : FSpec := { F := F_impl_IsFinite, quiet := true, tame := false }
theorem impl_IsFinite_vc (x : Nat) (H : AHeap) (K : Value → AHeap → Prop) : bodyL Try.prog E_impl_IsFinite Try.f133 [.float .f32 x] H K =
  (K (.bool (feq .f32 (fsub .f32 x x) 0)) H) := by kernel_rfl
theorem E_impl_IsFinite_ok : ∀ g, FnOk Try.prog g (E_impl_IsFinite g) := FnOk.envOf (by
  intro x hx; cases hx)
set_option maxHeartbeats 1000000 in
theorem impl_IsFinite_main (x : Nat) (H : AHeap) (K : Value → AHeap → Prop) (h : T_impl_IsFinite x H fun (r1 : Bool) (H' : AHeap) => K (.bool r1) H') : bodyL Try.prog E_impl_IsFinite Try.f133 [.float .f32 x] H K := by
  rw [impl_IsFinite_vc]
  unfold T_impl_IsFinite p_impl_IsFinite at h
  repeat' (first | exact h | (exfalso; simp_all; done) | (refine ⟨by decide, ?_⟩) | (refine Br.intro (fun hb => ?_) (fun hb => ?_) <;> (try simp only [hb, cond_true, cond_false, Bool.not_true, Bool.not_false] at h)))
theorem impl_IsFinite_ok : FnOk Try.prog 133 S_impl_IsFinite := by
  refine FnOk.body mix_ok E_impl_IsFinite_ok Try.func133 rfl (by kernel_rfl) (by kernel_rfl) ?_ ?_ ?_ ?_ ?_
  · intro args H K K' h hk
    simp only [S_impl_IsFinite] at *
    unfold F_impl_IsFinite at *
    split at hk
    · have k := hk
      exact h _ _ k
    · exact hk.elim
  · intro _ args H K hk
    simp only [S_impl_IsFinite] at *
    unfold F_impl_IsFinite at *
    split at hk
    · have k := hk
      exact ⟨_, k, fun K' k' => k'⟩
    · exact hk.elim
  · intro args H K hk
    simp only [S_impl_IsFinite] at *
    unfold F_impl_IsFinite at *
    split at hk
    · have k := hk
      exact ⟨_, _, k⟩
    · exact hk.elim
  · intro hq; cases hq
  · have mm := @impl_IsFinite_main
    have ml := fun (args : List Value) (H : AHeap) (K : Value → AHeap → Prop) => bodyL_body (P := Try.prog) (env := E_impl_IsFinite ) (fn := Try.f133) (args := args) (H := H) (K := K) E_impl_IsFinite_ok 
    revert mm ml
    generalize bodyK Try.prog E_impl_IsFinite Try.f133 = Q
    generalize bodyL Try.prog E_impl_IsFinite Try.f133 = QL
    intro mm ml args H K hk
    simp only [S_impl_IsFinite] at *
    unfold F_impl_IsFinite at *
    split at hk
    · exact ml _ H K (mm _ H K hk)
    · exact hk.elim

def p_impl_areFinite_l2 (l_lists : List (List Nat)) (t2 : Bool) (t9 : Int) (k2_2 : Bool → Int → Bool) : Nat → Bool → Int → Bool
  | 0, _, _ => false
  | μ2 + 1, t2_2, t15 => (bif decide ((t15 : Int) < ((((l_lists).getD (t9 : Int).toNat [])).length : Int)) then (bif !((p_impl_IsFinite (((((l_lists).getD (t9 : Int).toNat [])).getD (t15 : Int).toNat 0)))) then false else (p_impl_areFinite_l2 l_lists t2 t9 k2_2 μ2 t2_2 (t15 + 1))) else (k2_2 t2_2 t15))
def p_impl_areFinite_l2_s := fun l_lists t2 t9 k2_2 μ2 t2_2 t15 => @p_impl_areFinite_l2.eq_2 l_lists t2 t9 k2_2 t2_2 t15 μ2
def p_impl_areFinite_l1 (l_lists : List (List Nat)) : Nat → Bool → Int → Bool
  | 0, _, _ => false
  | μ + 1, t2, t9 => (bif decide ((t9 : Int) < (l_lists.length : Int)) then (p_impl_areFinite_l2 l_lists t2 t9 (fun (t2_2 : Bool) (t15 : Int) => (p_impl_areFinite_l1 l_lists μ t2_2 (t9 + 1))) (Int.toNat (((((l_lists).getD (t9 : Int).toNat [])).length : Int) - (0 : Int)) + 1) t2 (0 : Int)) else true)
def p_impl_areFinite_l1_s := fun l_lists μ t2 t9 => @p_impl_areFinite_l1.eq_2 l_lists t2 t9 μ
def p_impl_areFinite (l_lists : List (List Nat)) : Bool := (p_impl_areFinite_l1 l_lists (Int.toNat ((l_lists.length : Int) - (0 : Int)) + 1) false (0 : Int))
def p_impl_areFinite_eq := @p_impl_areFinite.eq_1
def T_impl_areFinite (lists_a : Option Addr) (lists_n : Nat) (lists_e : Nat) (H : AHeap) (K : Bool → AHeap → Prop) : Prop := ∃ (l_lists : List (List Nat)), IsLL fF H lists_a lists_n l_lists ∧ l_lists.length < 1073741824 ∧ (∀ y ∈ l_lists, y.length < 1073741824) ∧ K (p_impl_areFinite l_lists) H
theorem T_impl_areFinite_i {lists_a : Option Addr} {lists_n : Nat} {lists_e : Nat} {H : AHeap} {K : Bool → AHeap → Prop} (h : ∃ (l_lists : List (List Nat)), IsLL fF H lists_a lists_n l_lists ∧ l_lists.length < 1073741824 ∧ (∀ y ∈ l_lists, y.length < 1073741824) ∧ K (p_impl_areFinite l_lists) H) : T_impl_areFinite lists_a lists_n lists_e H K := h

/-! impl_areFinite: function 166 -/
def E_impl_areFinite : Env := envOf [(133, S_impl_IsFinite)]
def F_impl_areFinite : List Value → AHeap → (Value → AHeap → Prop) → Prop
  | [.slice lists_a lists_n lists_e], H, K => T_impl_areFinite lists_a lists_n lists_e H fun (r1 : Bool) (H' : AHeap) => K (.bool r1) H'
  | _, _, _ => False
def S_impl_areFinite : FSpec := { F := F_impl_areFinite, quiet := true, tame := false }
theorem impl_areFinite_vc (lists_a : Option Addr) (lists_n : Nat) (lists_e : Nat) (H : AHeap) (K : Value → AHeap → Prop) : bodyL Try.prog E_impl_areFinite Try.f166 [.slice lists_a lists_n lists_e] H K =
  (loopK (exL Try.prog E_impl_areFinite (cl (cl (cr (cl (cr (bodyC Try.f166)))))) 896 4 [(0, 0)]) [ud, ud, ud, ud, ud, ud, ud, .slice lists_a lists_n lists_e, .int .i64 (lists_n : Int), .int .i64 0, ud, ud, ud, ud, ud, ud, ud, ud, ud, ud, ud, ud, ud, ud] H (blockQ 0 (seqQ (exL Try.prog E_impl_areFinite (cr (cr (bodyC Try.f166))) 4 4 []) (retK Try.prog Try.f166 K)))) := by kernel_rfl
abbrev impl_areFinite_P1 (lists_a : Option Addr) (lists_e : Nat) (lists_n : Nat) (t9 : Int)  : List Value := [ud, ud, ud, ud, ud, ud, ud, .slice lists_a lists_n lists_e, .int .i64 (lists_n : Int), .int .i64 t9, ud, ud, ud, ud, ud, ud, ud, ud, ud, ud, ud, ud, ud, ud]
theorem impl_areFinite_r1 (lists_a : Option Addr) (lists_e : Nat) (lists_n : Nat) (t9 : Int)  (H : AHeap) (R : Post) : exL Try.prog E_impl_areFinite (cl (cl (cr (cl (cr (bodyC Try.f166)))))) 896 4 [(0, 0)] (impl_areFinite_P1 lists_a lists_e lists_n t9) H R =
  (Br (decide ((t9 : Int) < (lists_n : Int))) ((0 : Int) ≤ t9 ∧ t9 < (lists_n : Int) ∧ ∃ b1 f1, (lists_a : Option Addr) = some ⟨b1, f1, none⟩ ∧ ∃ x1_a : Option Addr, ∃ x1_n : Nat, ∃ x1_e : Nat,  rdC H b1 (f1 + (t9 : Int).toNat * 1) = some (.slice x1_a x1_n x1_e) ∧ loopK (exL Try.prog E_impl_areFinite (cl (cl (cr (cr (cl (cl (cr (cr (cl (cl (cr (cl (cr (bodyC Try.f166)))))))))))))) 58240 4 [(2, 896), (1, 896), (0, 0)]) [ud, ud, ud, ud, ud, ud, ud, .slice lists_a lists_n lists_e, .int .i64 (lists_n : Int), .int .i64 t9, ud, ud, ud, .slice x1_a x1_n x1_e, .int .i64 (x1_n : Int), .int .i64 0, ud, ud, ud, ud, ud, ud, ud, ud] H (blockQ 2 (blockQ 1 (seqQ (exL Try.prog E_impl_areFinite (cr (cr (cr (cl (cl (cr (cl (cr (bodyC Try.f166))))))))) 896 4 [(0, 0)]) (R))))) (R (.exit 0) [ud, ud, ud, ud, ud, ud, ud, ud, ud, ud, ud, ud, ud, ud, ud, ud, ud, ud, ud, ud, ud, ud, ud, ud] H)) := by kernel_rfl
def impl_areFinite_I1 (lists_a : Option Addr) (lists_e : Nat) (lists_n : Nat) (Inv : Nat → Int → AHeap → Prop) : Nat → List Value → AHeap → Prop := fun μ tm H => ∃ (t9 : Int), tm = (impl_areFinite_P1 lists_a lists_e lists_n t9) ∧ Inv μ t9 H
theorem impl_areFinite_L1 (lists_a : Option Addr) (lists_e : Nat) (lists_n : Nat) {Q : Post} (Inv : Nat → Int → AHeap → Prop) (ν : Nat) (t9 : Int)  (H : AHeap) (h0 : Inv ν t9 H)
    (hs : ∀ (μ : Nat) (t9 : Int)  (H : AHeap), Inv μ t9 H → exL Try.prog E_impl_areFinite (cl (cl (cr (cl (cr (bodyC Try.f166)))))) 896 4 [(0, 0)] (impl_areFinite_P1 lists_a lists_e lists_n t9) H (loopQ (impl_areFinite_I1 lists_a lists_e lists_n Inv) μ Q)) : loopK (exL Try.prog E_impl_areFinite (cl (cl (cr (cl (cr (bodyC Try.f166)))))) 896 4 [(0, 0)]) (impl_areFinite_P1 lists_a lists_e lists_n t9) H Q :=
  ⟨impl_areFinite_I1 lists_a lists_e lists_n Inv, ν, ⟨t9, rfl, h0⟩, fun μ tm H h => by obtain ⟨t9, rfl, hI⟩ := h; exact hs μ t9  H hI⟩
theorem impl_areFinite_n1 {lists_a : Option Addr} {lists_e : Nat} {lists_n : Nat} {Q : Post} {Inv : Nat → Int → AHeap → Prop} {μ : Nat} (μ' : Nat) {t9 : Int}  {H : AHeap} (hm : μ' < μ) (hI : Inv μ' t9 H) : loopQ (impl_areFinite_I1 lists_a lists_e lists_n Inv) μ Q .normal (impl_areFinite_P1 lists_a lists_e lists_n t9) H := ⟨μ', hm, t9, rfl, hI⟩
theorem impl_areFinite_x1_0  (H : AHeap) (K : Value → AHeap → Prop)  {I : Nat → List Value → AHeap → Prop} {μ : Nat} : loopQ I μ (blockQ 0 (seqQ (exL Try.prog E_impl_areFinite (cr (cr (bodyC Try.f166))) 4 4 []) (retK Try.prog Try.f166 K))) (.exit 0) [ud, ud, ud, ud, ud, ud, ud, ud, ud, ud, ud, ud, ud, ud, ud, ud, ud, ud, ud, ud, ud, ud, ud, ud] H =
  (K (.bool true) H) := by kernel_rfl
theorem impl_areFinite_x1_ret (t2 : Bool) (H : AHeap) (K : Value → AHeap → Prop)  {I : Nat → List Value → AHeap → Prop} {μ : Nat} : loopQ I μ (blockQ 0 (seqQ (exL Try.prog E_impl_areFinite (cr (cr (bodyC Try.f166))) 4 4 []) (retK Try.prog Try.f166 K))) .ret [ud, ud, .bool t2, ud, ud, ud, ud, ud, ud, ud, ud, ud, ud, ud, ud, ud, ud, ud, ud, ud, ud, ud, ud, ud] H =
  (K (.bool t2) H) := by kernel_rfl
abbrev impl_areFinite_P2 (lists_a : Option Addr) (lists_e : Nat) (lists_n : Nat) (t9 : Int) (x1_a : Option Addr) (x1_e : Nat) (x1_n : Nat) (t15 : Int)  : List Value := [ud, ud, ud, ud, ud, ud, ud, .slice lists_a lists_n lists_e, .int .i64 (lists_n : Int), .int .i64 t9, ud, ud, ud, .slice x1_a x1_n x1_e, .int .i64 (x1_n : Int), .int .i64 t15, ud, ud, ud, ud, ud, ud, ud, ud]
theorem impl_areFinite_r2 (lists_a : Option Addr) (lists_e : Nat) (lists_n : Nat) (t9 : Int) (x1_a : Option Addr) (x1_e : Nat) (x1_n : Nat) (t15 : Int)  (H : AHeap) (R : Post) : exL Try.prog E_impl_areFinite (cl (cl (cr (cr (cl (cl (cr (cr (cl (cl (cr (cl (cr (bodyC Try.f166)))))))))))))) 58240 4 [(2, 896), (1, 896), (0, 0)] (impl_areFinite_P2 lists_a lists_e lists_n t9 x1_a x1_e x1_n t15) H R =
  (Br (decide ((t15 : Int) < (x1_n : Int))) ((0 : Int) ≤ t15 ∧ t15 < (x1_n : Int) ∧ ∃ b2 f2, (x1_a : Option Addr) = some ⟨b2, f2, none⟩ ∧ ∃ x2 : Nat,  rdC H b2 (f2 + (t15 : Int).toNat * 1) = some (.float .f32 x2) ∧ T_impl_IsFinite x2 H fun (r1 : Bool) (H1 : AHeap) => Br (!r1) (R .ret [ud, ud, .bool false, ud, ud, ud, ud, ud, ud, ud, ud, ud, ud, ud, ud, ud, ud, ud, ud, ud, ud, ud, ud, ud] H1) (R .normal [ud, ud, ud, ud, ud, ud, ud, .slice lists_a lists_n lists_e, .int .i64 (lists_n : Int), .int .i64 t9, ud, ud, ud, .slice x1_a x1_n x1_e, .int .i64 (x1_n : Int), .int .i64 (IntKind.wrap .i64 (t15 + 1)), ud, ud, ud, ud, ud, ud, ud, ud] H1)) (R (.exit 2) [ud, ud, ud, ud, ud, ud, ud, .slice lists_a lists_n lists_e, .int .i64 (lists_n : Int), .int .i64 t9, ud, ud, ud, ud, ud, ud, ud, ud, ud, ud, ud, ud, ud, ud] H)) := by kernel_rfl
def impl_areFinite_I2 (lists_a : Option Addr) (lists_e : Nat) (lists_n : Nat) (t9 : Int) (x1_a : Option Addr) (x1_e : Nat) (x1_n : Nat) (Inv : Nat → Int → AHeap → Prop) : Nat → List Value → AHeap → Prop := fun μ tm H => ∃ (t15 : Int), tm = (impl_areFinite_P2 lists_a lists_e lists_n t9 x1_a x1_e x1_n t15) ∧ Inv μ t15 H
theorem impl_areFinite_L2 (lists_a : Option Addr) (lists_e : Nat) (lists_n : Nat) (t9 : Int) (x1_a : Option Addr) (x1_e : Nat) (x1_n : Nat) {Q : Post} (Inv : Nat → Int → AHeap → Prop) (ν : Nat) (t15 : Int)  (H : AHeap) (h0 : Inv ν t15 H)
    (hs : ∀ (μ : Nat) (t15 : Int)  (H : AHeap), Inv μ t15 H → exL Try.prog E_impl_areFinite (cl (cl (cr (cr (cl (cl (cr (cr (cl (cl (cr (cl (cr (bodyC Try.f166)))))))))))))) 58240 4 [(2, 896), (1, 896), (0, 0)] (impl_areFinite_P2 lists_a lists_e lists_n t9 x1_a x1_e x1_n t15) H (loopQ (impl_areFinite_I2 lists_a lists_e lists_n t9 x1_a x1_e x1_n Inv) μ Q)) : loopK (exL Try.prog E_impl_areFinite (cl (cl (cr (cr (cl (cl (cr (cr (cl (cl (cr (cl (cr (bodyC Try.f166)))))))))))))) 58240 4 [(2, 896), (1, 896), (0, 0)]) (impl_areFinite_P2 lists_a lists_e lists_n t9 x1_a x1_e x1_n t15) H Q :=
  ⟨impl_areFinite_I2 lists_a lists_e lists_n t9 x1_a x1_e x1_n Inv, ν, ⟨t15, rfl, h0⟩, fun μ tm H h => by obtain ⟨t15, rfl, hI⟩ := h; exact hs μ t15  H hI⟩
theorem impl_areFinite_n2 {lists_a : Option Addr} {lists_e : Nat} {lists_n : Nat} {t9 : Int} {x1_a : Option Addr} {x1_e : Nat} {x1_n : Nat} {Q : Post} {Inv : Nat → Int → AHeap → Prop} {μ : Nat} (μ' : Nat) {t15 : Int}  {H : AHeap} (hm : μ' < μ) (hI : Inv μ' t15 H) : loopQ (impl_areFinite_I2 lists_a lists_e lists_n t9 x1_a x1_e x1_n Inv) μ Q .normal (impl_areFinite_P2 lists_a lists_e lists_n t9 x1_a x1_e x1_n t15) H := ⟨μ', hm, t15, rfl, hI⟩
theorem impl_areFinite_x2_2 (lists_a : Option Addr) (lists_e : Nat) (lists_n : Nat) (t9 : Int) (H : AHeap)  (R : Post) {I : Nat → List Value → AHeap → Prop} {μ : Nat} : loopQ I μ (blockQ 2 (blockQ 1 (seqQ (exL Try.prog E_impl_areFinite (cr (cr (cr (cl (cl (cr (cl (cr (bodyC Try.f166))))))))) 896 4 [(0, 0)]) (R)))) (.exit 2) [ud, ud, ud, ud, ud, ud, ud, .slice lists_a lists_n lists_e, .int .i64 (lists_n : Int), .int .i64 t9, ud, ud, ud, ud, ud, ud, ud, ud, ud, ud, ud, ud, ud, ud] H =
  (R .normal [ud, ud, ud, ud, ud, ud, ud, .slice lists_a lists_n lists_e, .int .i64 (lists_n : Int), .int .i64 (IntKind.wrap .i64 (t9 + 1)), ud, ud, ud, ud, ud, ud, ud, ud, ud, ud, ud, ud, ud, ud] H) := by kernel_rfl
theorem impl_areFinite_x2_ret (t2_2 : Bool) (H : AHeap)  (R : Post) {I : Nat → List Value → AHeap → Prop} {μ : Nat} : loopQ I μ (blockQ 2 (blockQ 1 (seqQ (exL Try.prog E_impl_areFinite (cr (cr (cr (cl (cl (cr (cl (cr (bodyC Try.f166))))))))) 896 4 [(0, 0)]) (R)))) .ret [ud, ud, .bool t2_2, ud, ud, ud, ud, ud, ud, ud, ud, ud, ud, ud, ud, ud, ud, ud, ud, ud, ud, ud, ud, ud] H =
  (R .ret [ud, ud, .bool t2_2, ud, ud, ud, ud, ud, ud, ud, ud, ud, ud, ud, ud, ud, ud, ud, ud, ud, ud, ud, ud, ud] H) := by kernel_rfl
theorem E_impl_areFinite_ok : ∀ g, FnOk Try.prog g (E_impl_areFinite g) := FnOk.envOf (by
  intro x hx
  simp only [List.mem_cons, List.not_mem_nil, or_false] at hx
  subst hx; exact impl_IsFinite_ok)
set_option maxHeartbeats 1000000 in
theorem impl_areFinite_main (lists_a : Option Addr) (lists_n : Nat) (lists_e : Nat) (H : AHeap) (K : Value → AHeap → Prop) (h : T_impl_areFinite lists_a lists_n lists_e H fun (r1 : Bool) (H' : AHeap) => K (.bool r1) H') : bodyL Try.prog E_impl_areFinite Try.f166 [.slice lists_a lists_n lists_e] H K := by
  rw [impl_areFinite_vc]
  obtain ⟨l_lists, i_lists, bd_22, bb_l_lists, hk⟩ := h
  obtain rfl := i_lists.eqn
  have e : (p_impl_areFinite l_lists) = _ := rfl
  have e := e.trans (p_impl_areFinite_eq l_lists)
  have g0 := Grow.refl H
  refine impl_areFinite_L1 _ _ _ (fun (μ : Nat) (t9 : Int) (H_1 : AHeap) => ∃ (t2 : Bool), H = H_1 ∧ (0 : Int) ≤ t9 ∧ t9 ≤ (l_lists.length : Int) ∧ (l_lists.length : Int) - t9 ≤ (μ : Int) ∧ p_impl_areFinite l_lists = p_impl_areFinite_l1 l_lists (μ + 1) t2 t9) (Int.toNat ((l_lists.length : Int) - (0 : Int))) _ H ?_ ?_
  · exact ⟨_, rfl, ω3, ω3, ω2, e⟩
  · intro μ t9  H_1 hI
    obtain ⟨t2, rfl, v_1, v_2, hμ, e⟩ := hI
    rw [impl_areFinite_r1]
    have e := e.trans (p_impl_areFinite_l1_s l_lists μ t2 t9)
    have l_3 := g0.1
    refine Br.intro (fun c_4 => ?_) (fun c_4 => ?_)
    · have e := e.trans (cond_t c_4)
      have c_4' := of_decide_eq_true c_4
      obtain ⟨b_5, f_6, q_7⟩ := ((i_lists.grow g0)).pos ω0
      refine ⟨by omega, by omega, b_5, f_6, q_7, ?_⟩
      obtain ⟨a_8, n_9, e_10, r_11, i_12⟩ := (i_lists).rd (i := (t9 : Int).toNat) g0 q_7 ω2
      obtain rfl := i_12.eqn
      refine ⟨a_8, _, e_10, r_11, ?_⟩
      have z_13 := getD_len bb_l_lists (t9 : Int).toNat
      refine impl_areFinite_L2 _ _ _ _ _ _ _ (fun (μ2 : Nat) (t15 : Int) (H_2 : AHeap) => ∃ (t2_2 : Bool), H = H_2 ∧ (0 : Int) ≤ t15 ∧ t15 ≤ ((((l_lists).getD (t9 : Int).toNat [])).length : Int) ∧ ((((l_lists).getD (t9 : Int).toNat [])).length : Int) - t15 ≤ (μ2 : Int) ∧ p_impl_areFinite l_lists = p_impl_areFinite_l2 l_lists t2 t9 (fun (t2_2 : Bool) (t15 : Int) => (p_impl_areFinite_l1 l_lists μ t2_2 (t9 + 1))) (μ2 + 1) t2_2 t15) (Int.toNat (((((l_lists).getD (t9 : Int).toNat [])).length : Int) - (0 : Int))) _ H ?_ ?_
      · exact ⟨_, rfl, ω3, ω3, ω2, e⟩
      · intro μ2 t15  H_2 hI
        obtain ⟨t2_2, rfl, v_14, v_15, hμ, e⟩ := hI
        rw [impl_areFinite_r2]
        have e := e.trans (p_impl_areFinite_l2_s l_lists t2 t9 (fun (t2_2 : Bool) (t15 : Int) => (p_impl_areFinite_l1 l_lists μ t2_2 (t9 + 1))) μ2 t2_2 t15)
        have l_16 := g0.1
        refine Br.intro (fun c_17 => ?_) (fun c_17 => ?_)
        · have e := e.trans (cond_t c_17)
          have c_17' := of_decide_eq_true c_17
          obtain ⟨b_18, f_19, q_20⟩ := ((i_12.grow g0)).pos ω0
          refine ⟨by omega, by omega, b_18, f_19, q_20, ?_⟩
          refine ⟨((((l_lists).getD (t9 : Int).toNat [])).getD (t15 : Int).toNat 0), (i_12).rd g0 q_20 ω2 _, ?_⟩
          refine T_impl_IsFinite_i ?_
          refine Br.intro (fun c_21 => ?_) (fun c_21 => ?_)
          · have e := e.trans (cond_t c_21)
            have c_21n := nf_of_t c_21
            rw [impl_areFinite_x2_ret]
            rw [impl_areFinite_x1_ret]
            rw [e] at hk
            exact hk
          · have e := e.trans (cond_f c_21)
            have c_21n := nt_of_f c_21
            rw [show IntKind.wrap .i64 (t15 + 1) = (t15 + 1) from wrap64 ω2 ω2]
            refine impl_areFinite_n2 (μ2 - 1) ω8 ⟨_, rfl, ω1, ω1, ω8, (by rw [show μ2 - 1 + 1 = μ2 from by first | omega]; exact e)⟩
        · have e := e.trans (cond_f c_17)
          have c_17' := of_decide_eq_false c_17
          rw [impl_areFinite_x2_2]
          rw [show IntKind.wrap .i64 (t9 + 1) = (t9 + 1) from wrap64 ω2 ω2]
          refine impl_areFinite_n1 (μ - 1) ω8 ⟨_, rfl, ω1, ω1, ω8, (by rw [show μ - 1 + 1 = μ from by first | omega]; exact e)⟩
    · have e := e.trans (cond_f c_4)
      have c_4' := of_decide_eq_false c_4
      rw [impl_areFinite_x1_0]
      rw [e] at hk
      exact hk
theorem impl_areFinite_ok : FnOk Try.prog 166 S_impl_areFinite := by
  refine FnOk.body mix_ok E_impl_areFinite_ok Try.func166 rfl (by kernel_rfl) (by kernel_rfl) ?_ ?_ ?_ ?_ ?_
  · intro args H K K' h hk
    simp only [S_impl_areFinite] at *
    unfold F_impl_areFinite at *
    split at hk
    · obtain ⟨l_lists, i_lists, bd_22, bb_l_lists, k⟩ := hk
      exact ⟨l_lists, i_lists, bd_22, bb_l_lists, h _ _ k⟩
    · exact hk.elim
  · intro _ args H K hk
    simp only [S_impl_areFinite] at *
    unfold F_impl_areFinite at *
    split at hk
    · obtain ⟨l_lists, i_lists, bd_22, bb_l_lists, k⟩ := hk
      exact ⟨_, k, fun K' k' => ⟨l_lists, i_lists, bd_22, bb_l_lists, k'⟩⟩
    · exact hk.elim
  · intro args H K hk
    simp only [S_impl_areFinite] at *
    unfold F_impl_areFinite at *
    split at hk
    · obtain ⟨l_lists, i_lists, bd_22, bb_l_lists, k⟩ := hk
      exact ⟨_, _, k⟩
    · exact hk.elim
  · intro hq; cases hq
  · have mm := @impl_areFinite_main
    have ml := fun (args : List Value) (H : AHeap) (K : Value → AHeap → Prop) => bodyL_body (P := Try.prog) (env := E_impl_areFinite ) (fn := Try.f166) (args := args) (H := H) (K := K) E_impl_areFinite_ok 
    revert mm ml
    generalize bodyK Try.prog E_impl_areFinite Try.f166 = Q
    generalize bodyL Try.prog E_impl_areFinite Try.f166 = QL
    intro mm ml args H K hk
    simp only [S_impl_areFinite] at *
    unfold F_impl_areFinite at *
    split at hk
    · exact ml _ H K (mm _ _ _ H K hk)
    · exact hk.elim

def p_impl_ValidBands_l1 (l_b_Coarse : List Nat) (l_b_Details : List (List Nat)) : Nat → Bool → Int → Bool
  | 0, _, _ => false
  | μ + 1, t2, t36 => (bif decide ((t36 : Int) < (l_b_Details.length : Int)) then (bif (((((l_b_Details).getD (t36 : Int).toNat [])).length : Int) : Int) == 0 then false else (bif decide ((0 : Int) < t36) then (bif (IntKind.wrap .i64 (2 * (((((l_b_Details).getD (t36 : Int).toNat [])).length : Int))) : Int) != ((((l_b_Details).getD ((t36 - 1) : Int).toNat [])).length : Int) then false else (p_impl_ValidBands_l1 l_b_Coarse l_b_Details μ t2 (t36 + 1))) else (p_impl_ValidBands_l1 l_b_Coarse l_b_Details μ t2 (t36 + 1)))) else ((l_b_Coarse.length : Int) : Int) == ((((l_b_Details).getD (((l_b_Details.length : Int) - 1) : Int).toNat [])).length : Int))
def p_impl_ValidBands_l1_s := fun l_b_Coarse l_b_Details μ t2 t36 => @p_impl_ValidBands_l1.eq_2 l_b_Coarse l_b_Details t2 t36 μ
def p_impl_ValidBands (l_b_Coarse : List Nat) (l_b_Details : List (List Nat)) : Bool := (bif !((p_impl_within (l_b_Details.length : Int) (1 : Int) (6 : Int))) then false else (bif decide ((64 : Int) < ((((l_b_Details).getD (0 : Int).toNat [])).length : Int)) then false else (bif !(p_impl_areFinite l_b_Details) then false else (bif !((p_impl_areFinite ([l_b_Coarse]))) then false else (p_impl_ValidBands_l1 l_b_Coarse l_b_Details (Int.toNat ((l_b_Details.length : Int) - (0 : Int)) + 1) false (0 : Int))))))
def p_impl_ValidBands_eq := @p_impl_ValidBands.eq_1
def T_impl_ValidBands (b_Coarse_a : Option Addr) (b_Coarse_n : Nat) (b_Coarse_e : Nat) (b_Details_a : Option Addr) (b_Details_n : Nat) (b_Details_e : Nat) (H : AHeap) (K : Bool → AHeap → Prop) : Prop := ∃ (l_b_Coarse : List Nat), ∃ (l_b_Details : List (List Nat)), IsL fF H b_Coarse_a b_Coarse_n l_b_Coarse ∧ IsLL fF H b_Details_a b_Details_n l_b_Details ∧ l_b_Coarse.length < 1073741824 ∧ l_b_Details.length < 1073741824 ∧ (∀ y ∈ l_b_Details, y.length < 1073741824) ∧ ((∀ H' : AHeap, Grow H H' → K (p_impl_ValidBands l_b_Coarse l_b_Details) H'))
theorem T_impl_ValidBands_i {b_Coarse_a : Option Addr} {b_Coarse_n : Nat} {b_Coarse_e : Nat} {b_Details_a : Option Addr} {b_Details_n : Nat} {b_Details_e : Nat} {H : AHeap} {K : Bool → AHeap → Prop} (h : ∃ (l_b_Coarse : List Nat), ∃ (l_b_Details : List (List Nat)), IsL fF H b_Coarse_a b_Coarse_n l_b_Coarse ∧ IsLL fF H b_Details_a b_Details_n l_b_Details ∧ l_b_Coarse.length < 1073741824 ∧ l_b_Details.length < 1073741824 ∧ (∀ y ∈ l_b_Details, y.length < 1073741824) ∧ ((∀ H' : AHeap, Grow H H' → K (p_impl_ValidBands l_b_Coarse l_b_Details) H'))) : T_impl_ValidBands b_Coarse_a b_Coarse_n b_Coarse_e b_Details_a b_Details_n b_Details_e H K := h
theorem impl_ValidBands_t {a : List Nat} {ds : List (List Nat)} (h : p_impl_ValidBands a ds = true) : 1 ≤ ds.length ∧ ds.length ≤ 6 ∧ 1 ≤ (ds.getD (0 : Int).toNat []).length ∧ (ds.getD (0 : Int).toNat []).length ≤ 64 := by
  rw [p_impl_ValidBands_eq] at h
  cases hw : p_impl_within (ds.length : Int) 1 6
  · rw [hw] at h; cases h
  · have hn := impl_within_t hw
    rw [hw, Bool.not_true, cond_false] at h
    by_cases h3 : (64 : Int) < ((ds.getD (0 : Int).toNat []).length : Int)
    · rw [decide_eq_true h3] at h; cases h
    · rw [decide_eq_false h3, cond_false] at h
      cases h4 : p_impl_areFinite ds
      · rw [h4] at h; cases h
      · cases h5 : p_impl_areFinite [a]
        · rw [h4, h5] at h; cases h
        · rw [h4, h5, Bool.not_true, cond_false, cond_false] at h
          rw [p_impl_ValidBands_l1_s, decide_eq_true (show (0 : Int) < (ds.length : Int) by omega), cond_true] at h
          by_cases h6 : (ds.getD (0 : Int).toNat []).length = 0
          · rw [show (((ds.getD (0 : Int).toNat []).length : Int) == 0) = true by rw [h6]; rfl] at h; cases h
          · exact ⟨by omega, by omega, by omega, by omega⟩
/-! impl_ValidBands: function 116 -/
def E_impl_ValidBands : Env := envOf [(96, S_impl_within), (166, S_impl_areFinite)]
def F_impl_ValidBands : List Value → AHeap → (Value → AHeap → Prop) → Prop
  | [.agg ⟨[.slice b_Coarse_a b_Coarse_n b_Coarse_e, .slice b_Details_a b_Details_n b_Details_e]⟩], H, K => T_impl_ValidBands b_Coarse_a b_Coarse_n b_Coarse_e b_Details_a b_Details_n b_Details_e H fun (r1 : Bool) (H' : AHeap) => K (.bool r1) H'
  | _, _, _ => False
def S_impl_ValidBands : FSpec := { F := F_impl_ValidBands, quiet := false, tame := true }
theorem impl_ValidBands_vc (b_Coarse_a : Option Addr) (b_Coarse_n : Nat) (b_Coarse_e : Nat) (b_Details_a : Option Addr) (b_Details_n : Nat) (b_Details_e : Nat) (H : AHeap) (K : Value → AHeap → Prop) : bodyL Try.prog E_impl_ValidBands Try.f116 [.agg #[.slice b_Coarse_a b_Coarse_n b_Coarse_e, .slice b_Details_a b_Details_n b_Details_e]] H K =
  (Al [.slice b_Coarse_a b_Coarse_n b_Coarse_e, .slice b_Details_a b_Details_n b_Details_e] H fun b1 H1 => ∃ x1_a : Option Addr, ∃ x1_n : Nat, ∃ x1_e : Nat,  rdC H1 b1 1 = some (.slice x1_a x1_n x1_e) ∧ T_impl_within (x1_n : Int) 1 6 H1 fun (r1 : Bool) (H2 : AHeap) => Br (!r1) (K (.bool false) H2) (∃ x2_a : Option Addr, ∃ x2_n : Nat, ∃ x2_e : Nat,  rdC H2 b1 1 = some (.slice x2_a x2_n x2_e) ∧ (0 : Int) ≤ 0 ∧ 0 < (x2_n : Int) ∧ ∃ b2 f1, (x2_a : Option Addr) = some ⟨b2, f1, none⟩ ∧ ∃ x3_a : Option Addr, ∃ x3_n : Nat, ∃ x3_e : Nat,  rdC H2 b2 (f1 + (0 : Int).toNat * 1) = some (.slice x3_a x3_n x3_e) ∧ Br (decide ((64 : Int) < (x3_n : Int))) (K (.bool false) H2) (∃ x4_a : Option Addr, ∃ x4_n : Nat, ∃ x4_e : Nat,  rdC H2 b1 1 = some (.slice x4_a x4_n x4_e) ∧ T_impl_areFinite x4_a x4_n x4_e H2 fun (r2 : Bool) (H3 : AHeap) => Br (!r2) (K (.bool false) H3) (∃ x5_a : Option Addr, ∃ x5_n : Nat, ∃ x5_e : Nat,  rdC H3 b1 0 = some (.slice x5_a x5_n x5_e) ∧ Al [.slice x5_a x5_n x5_e] H3 fun b3 H4 => T_impl_areFinite (some ⟨b3, 0, none⟩) 1 1 H4 fun (r3 : Bool) (H5 : AHeap) => Br (!r3) (K (.bool false) H5) (∃ x6_a : Option Addr, ∃ x6_n : Nat, ∃ x6_e : Nat,  rdC H5 b1 1 = some (.slice x6_a x6_n x6_e) ∧ loopK (exL Try.prog E_impl_ValidBands (cl (cl (cr (cl (cr (cr (cr (bodyC Try.f116)))))))) 120259084298 4 [(0, 10)]) [ud, .pointer (some ⟨b1, 0, none⟩), ud, .int .i64 (x1_n : Int), ud, ud, ud, ud, ud, ud, ud, ud, ud, ud, ud, ud, ud, ud, ud, ud, ud, ud, ud, ud, ud, ud, ud, ud, ud, ud, ud, ud, ud, ud, .slice x6_a x6_n x6_e, .int .i64 (x6_n : Int), .int .i64 0, ud, ud, ud, ud, ud, ud, ud, ud, ud, ud, ud, ud, ud, ud, ud, ud, ud, ud, ud, ud, ud, ud, ud, ud, ud, ud, ud, ud, ud, ud, ud, ud, ud, ud, ud, ud] H5 (blockQ 0 (seqQ (exL Try.prog E_impl_ValidBands (cr (cr (cr (cr (bodyC Try.f116))))) 4 4 []) (retK Try.prog Try.f116 K)))))))) := by kernel_rfl
abbrev impl_ValidBands_P1 (b1 : Nat) (x1_n : Nat) (x6_a : Option Addr) (x6_e : Nat) (x6_n : Nat) (t36 : Int)  : List Value := [ud, .pointer (some ⟨b1, 0, none⟩), ud, .int .i64 (x1_n : Int), ud, ud, ud, ud, ud, ud, ud, ud, ud, ud, ud, ud, ud, ud, ud, ud, ud, ud, ud, ud, ud, ud, ud, ud, ud, ud, ud, ud, ud, ud, .slice x6_a x6_n x6_e, .int .i64 (x6_n : Int), .int .i64 t36, ud, ud, ud, ud, ud, ud, ud, ud, ud, ud, ud, ud, ud, ud, ud, ud, ud, ud, ud, ud, ud, ud, ud, ud, ud, ud, ud, ud, ud, ud, ud, ud, ud, ud, ud, ud]
theorem impl_ValidBands_r1 (b1 : Nat) (x1_n : Nat) (x6_a : Option Addr) (x6_e : Nat) (x6_n : Nat) (t36 : Int)  (H : AHeap) (R : Post) : exL Try.prog E_impl_ValidBands (cl (cl (cr (cl (cr (cr (cr (bodyC Try.f116)))))))) 120259084298 4 [(0, 10)] (impl_ValidBands_P1 b1 x1_n x6_a x6_e x6_n t36) H R =
  (Br (decide ((t36 : Int) < (x6_n : Int))) ((0 : Int) ≤ t36 ∧ t36 < (x6_n : Int) ∧ ∃ b4 f2, (x6_a : Option Addr) = some ⟨b4, f2, none⟩ ∧ ∃ x7_a : Option Addr, ∃ x7_n : Nat, ∃ x7_e : Nat,  rdC H b4 (f2 + (t36 : Int).toNat * 1) = some (.slice x7_a x7_n x7_e) ∧ Br (((x7_n : Int) : Int) == 0) (R .ret [ud, ud, .bool false, ud, ud, ud, ud, ud, ud, ud, ud, ud, ud, ud, ud, ud, ud, ud, ud, ud, ud, ud, ud, ud, ud, ud, ud, ud, ud, ud, ud, ud, ud, ud, ud, ud, ud, ud, ud, ud, ud, ud, ud, ud, ud, ud, ud, ud, ud, ud, ud, ud, ud, ud, ud, ud, ud, ud, ud, ud, ud, ud, ud, ud, ud, ud, ud, ud, ud, ud, ud, ud, ud] H) (Br (decide ((0 : Int) < t36)) (∃ x8_a : Option Addr, ∃ x8_n : Nat, ∃ x8_e : Nat,  rdC H b1 1 = some (.slice x8_a x8_n x8_e) ∧ (0 : Int) ≤ IntKind.wrap .i64 (t36 - 1) ∧ IntKind.wrap .i64 (t36 - 1) < (x8_n : Int) ∧ ∃ b5 f3, (x8_a : Option Addr) = some ⟨b5, f3, none⟩ ∧ ∃ x9_a : Option Addr, ∃ x9_n : Nat, ∃ x9_e : Nat,  rdC H b5 (f3 + (IntKind.wrap .i64 (t36 - 1) : Int).toNat * 1) = some (.slice x9_a x9_n x9_e) ∧ Br ((IntKind.wrap .i64 (2 * (x7_n : Int)) : Int) != (x9_n : Int)) (R .ret [ud, ud, .bool false, ud, ud, ud, ud, ud, ud, ud, ud, ud, ud, ud, ud, ud, ud, ud, ud, ud, ud, ud, ud, ud, ud, ud, ud, ud, ud, ud, ud, ud, ud, ud, ud, ud, ud, ud, ud, ud, ud, ud, ud, ud, ud, ud, ud, ud, ud, ud, ud, ud, ud, ud, ud, ud, ud, ud, ud, ud, ud, ud, ud, ud, ud, ud, ud, ud, ud, ud, ud, ud, ud] H) (R .normal [ud, .pointer (some ⟨b1, 0, none⟩), ud, .int .i64 (x1_n : Int), ud, ud, ud, ud, ud, ud, ud, ud, ud, ud, ud, ud, ud, ud, ud, ud, ud, ud, ud, ud, ud, ud, ud, ud, ud, ud, ud, ud, ud, ud, .slice x6_a x6_n x6_e, .int .i64 (x6_n : Int), .int .i64 (IntKind.wrap .i64 (t36 + 1)), ud, ud, ud, ud, ud, ud, ud, ud, ud, ud, ud, ud, ud, ud, ud, ud, ud, ud, ud, ud, ud, ud, ud, ud, ud, ud, ud, ud, ud, ud, ud, ud, ud, ud, ud, ud] H)) (R .normal [ud, .pointer (some ⟨b1, 0, none⟩), ud, .int .i64 (x1_n : Int), ud, ud, ud, ud, ud, ud, ud, ud, ud, ud, ud, ud, ud, ud, ud, ud, ud, ud, ud, ud, ud, ud, ud, ud, ud, ud, ud, ud, ud, ud, .slice x6_a x6_n x6_e, .int .i64 (x6_n : Int), .int .i64 (IntKind.wrap .i64 (t36 + 1)), ud, ud, ud, ud, ud, ud, ud, ud, ud, ud, ud, ud, ud, ud, ud, ud, ud, ud, ud, ud, ud, ud, ud, ud, ud, ud, ud, ud, ud, ud, ud, ud, ud, ud, ud, ud] H))) (R (.exit 0) [ud, .pointer (some ⟨b1, 0, none⟩), ud, .int .i64 (x1_n : Int), ud, ud, ud, ud, ud, ud, ud, ud, ud, ud, ud, ud, ud, ud, ud, ud, ud, ud, ud, ud, ud, ud, ud, ud, ud, ud, ud, ud, ud, ud, ud, ud, ud, ud, ud, ud, ud, ud, ud, ud, ud, ud, ud, ud, ud, ud, ud, ud, ud, ud, ud, ud, ud, ud, ud, ud, ud, ud, ud, ud, ud, ud, ud, ud, ud, ud, ud, ud, ud] H)) := by kernel_rfl
def impl_ValidBands_I1 (b1 : Nat) (x1_n : Nat) (x6_a : Option Addr) (x6_e : Nat) (x6_n : Nat) (Inv : Nat → Int → AHeap → Prop) : Nat → List Value → AHeap → Prop := fun μ tm H => ∃ (t36 : Int), tm = (impl_ValidBands_P1 b1 x1_n x6_a x6_e x6_n t36) ∧ Inv μ t36 H
theorem impl_ValidBands_L1 (b1 : Nat) (x1_n : Nat) (x6_a : Option Addr) (x6_e : Nat) (x6_n : Nat) {Q : Post} (Inv : Nat → Int → AHeap → Prop) (ν : Nat) (t36 : Int)  (H : AHeap) (h0 : Inv ν t36 H)
    (hs : ∀ (μ : Nat) (t36 : Int)  (H : AHeap), Inv μ t36 H → exL Try.prog E_impl_ValidBands (cl (cl (cr (cl (cr (cr (cr (bodyC Try.f116)))))))) 120259084298 4 [(0, 10)] (impl_ValidBands_P1 b1 x1_n x6_a x6_e x6_n t36) H (loopQ (impl_ValidBands_I1 b1 x1_n x6_a x6_e x6_n Inv) μ Q)) : loopK (exL Try.prog E_impl_ValidBands (cl (cl (cr (cl (cr (cr (cr (bodyC Try.f116)))))))) 120259084298 4 [(0, 10)]) (impl_ValidBands_P1 b1 x1_n x6_a x6_e x6_n t36) H Q :=
  ⟨impl_ValidBands_I1 b1 x1_n x6_a x6_e x6_n Inv, ν, ⟨t36, rfl, h0⟩, fun μ tm H h => by obtain ⟨t36, rfl, hI⟩ := h; exact hs μ t36  H hI⟩
theorem impl_ValidBands_n1 {b1 : Nat} {x1_n : Nat} {x6_a : Option Addr} {x6_e : Nat} {x6_n : Nat} {Q : Post} {Inv : Nat → Int → AHeap → Prop} {μ : Nat} (μ' : Nat) {t36 : Int}  {H : AHeap} (hm : μ' < μ) (hI : Inv μ' t36 H) : loopQ (impl_ValidBands_I1 b1 x1_n x6_a x6_e x6_n Inv) μ Q .normal (impl_ValidBands_P1 b1 x1_n x6_a x6_e x6_n t36) H := ⟨μ', hm, t36, rfl, hI⟩
theorem impl_ValidBands_x1_0 (b1 : Nat) (x1_n : Nat) (H : AHeap) (K : Value → AHeap → Prop)  {I : Nat → List Value → AHeap → Prop} {μ : Nat} : loopQ I μ (blockQ 0 (seqQ (exL Try.prog E_impl_ValidBands (cr (cr (cr (cr (bodyC Try.f116))))) 4 4 []) (retK Try.prog Try.f116 K))) (.exit 0) [ud, .pointer (some ⟨b1, 0, none⟩), ud, .int .i64 (x1_n : Int), ud, ud, ud, ud, ud, ud, ud, ud, ud, ud, ud, ud, ud, ud, ud, ud, ud, ud, ud, ud, ud, ud, ud, ud, ud, ud, ud, ud, ud, ud, ud, ud, ud, ud, ud, ud, ud, ud, ud, ud, ud, ud, ud, ud, ud, ud, ud, ud, ud, ud, ud, ud, ud, ud, ud, ud, ud, ud, ud, ud, ud, ud, ud, ud, ud, ud, ud, ud, ud] H =
  (∃ x10_a : Option Addr, ∃ x10_n : Nat, ∃ x10_e : Nat,  rdC H b1 0 = some (.slice x10_a x10_n x10_e) ∧ ∃ x11_a : Option Addr, ∃ x11_n : Nat, ∃ x11_e : Nat,  rdC H b1 1 = some (.slice x11_a x11_n x11_e) ∧ (0 : Int) ≤ IntKind.wrap .i64 ((x1_n : Int) - 1) ∧ IntKind.wrap .i64 ((x1_n : Int) - 1) < (x11_n : Int) ∧ ∃ b6 f4, (x11_a : Option Addr) = some ⟨b6, f4, none⟩ ∧ ∃ x12_a : Option Addr, ∃ x12_n : Nat, ∃ x12_e : Nat,  rdC H b6 (f4 + (IntKind.wrap .i64 ((x1_n : Int) - 1) : Int).toNat * 1) = some (.slice x12_a x12_n x12_e) ∧ K (.bool (((x10_n : Int) : Int) == (x12_n : Int))) H) := by kernel_rfl
theorem impl_ValidBands_x1_ret (t2 : Bool) (H : AHeap) (K : Value → AHeap → Prop)  {I : Nat → List Value → AHeap → Prop} {μ : Nat} : loopQ I μ (blockQ 0 (seqQ (exL Try.prog E_impl_ValidBands (cr (cr (cr (cr (bodyC Try.f116))))) 4 4 []) (retK Try.prog Try.f116 K))) .ret [ud, ud, .bool t2, ud, ud, ud, ud, ud, ud, ud, ud, ud, ud, ud, ud, ud, ud, ud, ud, ud, ud, ud, ud, ud, ud, ud, ud, ud, ud, ud, ud, ud, ud, ud, ud, ud, ud, ud, ud, ud, ud, ud, ud, ud, ud, ud, ud, ud, ud, ud, ud, ud, ud, ud, ud, ud, ud, ud, ud, ud, ud, ud, ud, ud, ud, ud, ud, ud, ud, ud, ud, ud, ud] H =
  (K (.bool t2) H) := by kernel_rfl
theorem E_impl_ValidBands_ok : ∀ g, FnOk Try.prog g (E_impl_ValidBands g) := FnOk.envOf (by
  intro x hx
  simp only [List.mem_cons, List.not_mem_nil, or_false] at hx
  rcases hx with rfl | rfl
  · exact impl_within_ok
  · exact impl_areFinite_ok)
set_option maxHeartbeats 1000000 in
theorem impl_ValidBands_main (b_Coarse_a : Option Addr) (b_Coarse_n : Nat) (b_Coarse_e : Nat) (b_Details_a : Option Addr) (b_Details_n : Nat) (b_Details_e : Nat) (H : AHeap) (K : Value → AHeap → Prop) (h : T_impl_ValidBands b_Coarse_a b_Coarse_n b_Coarse_e b_Details_a b_Details_n b_Details_e H fun (r1 : Bool) (H' : AHeap) => K (.bool r1) H') : bodyL Try.prog E_impl_ValidBands Try.f116 [.agg #[.slice b_Coarse_a b_Coarse_n b_Coarse_e, .slice b_Details_a b_Details_n b_Details_e]] H K := by
  rw [impl_ValidBands_vc]
  obtain ⟨l_b_Coarse, l_b_Details, i_b_Coarse, i_b_Details, bd_72, bd_73, bb_l_b_Details, hk⟩ := h
  obtain rfl := i_b_Coarse.eqn
  obtain rfl := i_b_Details.eqn
  have e : (p_impl_ValidBands l_b_Coarse l_b_Details) = _ := rfl
  have e := e.trans (p_impl_ValidBands_eq l_b_Coarse l_b_Details)
  have g0 := Grow.refl H
  refine Al.intro (fun b_1 H_1 hb_2 hl_3 g_4 o_5 => ?_)
  have l_7 := g_4.1
  have g_8 := g0.trans g_4
  have l_9 := g_8.1
  have w_71 := o_5.lt
  refine ⟨b_Details_a, l_b_Details.length, b_Details_e, (o_5.rdC _).trans rfl, ?_⟩
  refine T_impl_within_i ?_
  refine Br.intro (fun c_10 => ?_) (fun c_10 => ?_)
  · have e := e.trans (cond_t c_10)
    have c_10n := nf_of_t c_10
    rw [e] at hk
    exact hk  H_1 g_8 
  · have e := e.trans (cond_f c_10)
    have c_10n := nt_of_f c_10
    have c_10n' := impl_within_t c_10n
    refine ⟨b_Details_a, l_b_Details.length, b_Details_e, (o_5.rdC _).trans rfl, ?_⟩
    obtain ⟨b_11, f_12, q_13⟩ := ((i_b_Details.grow g_8)).pos ω0
    refine ⟨by omega, by omega, b_11, f_12, q_13, ?_⟩
    obtain ⟨a_14, n_15, e_16, r_17, i_18⟩ := (i_b_Details).rd (i := (0 : Int).toNat) g_8 q_13 ω2
    obtain rfl := i_18.eqn
    refine ⟨a_14, _, e_16, r_17, ?_⟩
    have z_19 := getD_len bb_l_b_Details (0 : Int).toNat
    refine Br.intro (fun c_20 => ?_) (fun c_20 => ?_)
    · have e := e.trans (cond_t c_20)
      have c_20' := of_decide_eq_true c_20
      rw [e] at hk
      exact hk  H_1 g_8 
    · have e := e.trans (cond_f c_20)
      have c_20' := of_decide_eq_false c_20
      refine ⟨b_Details_a, l_b_Details.length, b_Details_e, (o_5.rdC _).trans rfl, ?_⟩
      refine T_impl_areFinite_i ⟨l_b_Details, (i_b_Details.grow g_8), ω0, (by first | assumption | exact or_right (by assumption) (by omega) | exact or_right (by assumption : _ ∧ (_ ∨ _)).2 (by omega) | (intro y hy; simp only [List.mem_cons, List.not_mem_nil, or_false] at hy; first | omega | (subst hy; omega) | (rcases hy with rfl | rfl <;> omega) | (rcases hy with rfl | rfl | rfl <;> omega))), ?_⟩
      refine Br.intro (fun c_21 => ?_) (fun c_21 => ?_)
      · have e := e.trans (cond_t c_21)
        have c_21n := nf_of_t c_21
        rw [e] at hk
        exact hk  H_1 g_8 
      · have e := e.trans (cond_f c_21)
        have c_21n := nt_of_f c_21
        refine ⟨b_Coarse_a, l_b_Coarse.length, b_Coarse_e, (o_5.rdC _).trans rfl, ?_⟩
        refine Al.intro (fun b_22 H_2 hb_23 hl_24 g_25 o_26 => ?_)
        have l_28 := g_25.1
        have g_29 := g_8.trans g_25
        have l_30 := g_29.1
        have o_31 := o_5.grow g_25
        have w_32 := o_31.lt
        have w_70 := o_26.lt
        refine T_impl_areFinite_i ⟨[l_b_Coarse], ⟨_, o_26.rdAll rfl, LLc.cons (i_b_Coarse.grow g_29) (LLc.nil _ _)⟩, ω0, (by first | assumption | exact or_right (by assumption) (by omega) | exact or_right (by assumption : _ ∧ (_ ∨ _)).2 (by omega) | (intro y hy; simp only [List.mem_cons, List.not_mem_nil, or_false] at hy; first | omega | (subst hy; omega) | (rcases hy with rfl | rfl <;> omega) | (rcases hy with rfl | rfl | rfl <;> omega))), ?_⟩
        refine Br.intro (fun c_33 => ?_) (fun c_33 => ?_)
        · have e := e.trans (cond_t c_33)
          have c_33n := nf_of_t c_33
          rw [e] at hk
          exact hk  H_2 g_29 
        · have e := e.trans (cond_f c_33)
          have c_33n := nt_of_f c_33
          refine ⟨b_Details_a, l_b_Details.length, b_Details_e, (o_31.rdC _).trans rfl, ?_⟩
          refine impl_ValidBands_L1 _ _ _ _ _ (fun (μ : Nat) (t36 : Int) (H_3 : AHeap) => ∃ (t2 : Bool), H_2 = H_3 ∧ (0 : Int) ≤ t36 ∧ t36 ≤ (l_b_Details.length : Int) ∧ (l_b_Details.length : Int) - t36 ≤ (μ : Int) ∧ p_impl_ValidBands l_b_Coarse l_b_Details = p_impl_ValidBands_l1 l_b_Coarse l_b_Details (μ + 1) t2 t36) (Int.toNat ((l_b_Details.length : Int) - (0 : Int))) _ H_2 ?_ ?_
          · exact ⟨_, rfl, ω3, ω3, ω2, e⟩
          · intro μ t36  H_3 hI
            obtain ⟨t2, rfl, v_34, v_35, hμ, e⟩ := hI
            rw [impl_ValidBands_r1]
            have e := e.trans (p_impl_ValidBands_l1_s l_b_Coarse l_b_Details μ t2 t36)
            have w_36 := o_31.lt
            have w_37 := o_26.lt
            have l_38 := g_29.1
            refine Br.intro (fun c_39 => ?_) (fun c_39 => ?_)
            · have e := e.trans (cond_t c_39)
              have c_39' := of_decide_eq_true c_39
              obtain ⟨b_40, f_41, q_42⟩ := ((i_b_Details.grow g_29)).pos ω0
              refine ⟨by omega, by omega, b_40, f_41, q_42, ?_⟩
              obtain ⟨a_43, n_44, e_45, r_46, i_47⟩ := (i_b_Details).rd (i := (t36 : Int).toNat) g_29 q_42 ω2
              obtain rfl := i_47.eqn
              refine ⟨a_43, _, e_45, r_46, ?_⟩
              have z_48 := getD_len bb_l_b_Details (t36 : Int).toNat
              refine Br.intro (fun c_49 => ?_) (fun c_49 => ?_)
              · have e := e.trans (cond_t c_49)
                have c_49' := ieq_t c_49
                rw [impl_ValidBands_x1_ret]
                rw [e] at hk
                exact hk  H_2 g_29 
              · have e := e.trans (cond_f c_49)
                have c_49' := ieq_f c_49
                refine Br.intro (fun c_50 => ?_) (fun c_50 => ?_)
                · have e := e.trans (cond_t c_50)
                  have c_50' := of_decide_eq_true c_50
                  refine ⟨b_Details_a, l_b_Details.length, b_Details_e, (o_31.rdC _).trans rfl, ?_⟩
                  rw [show IntKind.wrap .i64 (t36 - 1) = (t36 - 1) from wrap64 ω2 ω2]
                  obtain ⟨b_51, f_52, q_53⟩ := ((i_b_Details.grow g_29)).pos ω0
                  refine ⟨by omega, by omega, b_51, f_52, q_53, ?_⟩
                  obtain ⟨a_54, n_55, e_56, r_57, i_58⟩ := (i_b_Details).rd (i := ((t36 - 1) : Int).toNat) g_29 q_53 ω2
                  obtain rfl := i_58.eqn
                  refine ⟨a_54, _, e_56, r_57, ?_⟩
                  have z_59 := getD_len bb_l_b_Details ((t36 - 1) : Int).toNat
                  refine Br.intro (fun c_60 => ?_) (fun c_60 => ?_)
                  · have e := e.trans (cond_t c_60)
                    have c_60' := ine_t c_60
                    rw [impl_ValidBands_x1_ret]
                    rw [e] at hk
                    exact hk  H_2 g_29 
                  · have e := e.trans (cond_f c_60)
                    have c_60' := ine_f c_60
                    rw [show IntKind.wrap .i64 (t36 + 1) = (t36 + 1) from wrap64 ω2 ω2]
                    refine impl_ValidBands_n1 (μ - 1) ω8 ⟨_, rfl, ω1, ω1, ω8, (by rw [show μ - 1 + 1 = μ from by first | omega]; exact e)⟩
                · have e := e.trans (cond_f c_50)
                  have c_50' := of_decide_eq_false c_50
                  rw [show IntKind.wrap .i64 (t36 + 1) = (t36 + 1) from wrap64 ω2 ω2]
                  refine impl_ValidBands_n1 (μ - 1) ω8 ⟨_, rfl, ω1, ω1, ω8, (by rw [show μ - 1 + 1 = μ from by first | omega]; exact e)⟩
            · have e := e.trans (cond_f c_39)
              have c_39' := of_decide_eq_false c_39
              rw [impl_ValidBands_x1_0]
              refine ⟨b_Coarse_a, l_b_Coarse.length, b_Coarse_e, (o_31.rdC _).trans rfl, ?_⟩
              refine ⟨b_Details_a, l_b_Details.length, b_Details_e, (o_31.rdC _).trans rfl, ?_⟩
              rw [show IntKind.wrap .i64 ((l_b_Details.length : Int) - 1) = ((l_b_Details.length : Int) - 1) from wrap64 ω2 ω2]
              obtain ⟨b_61, f_62, q_63⟩ := ((i_b_Details.grow g_29)).pos ω0
              refine ⟨by omega, by omega, b_61, f_62, q_63, ?_⟩
              obtain ⟨a_64, n_65, e_66, r_67, i_68⟩ := (i_b_Details).rd (i := (((l_b_Details.length : Int) - 1) : Int).toNat) g_29 q_63 ω2
              obtain rfl := i_68.eqn
              refine ⟨a_64, _, e_66, r_67, ?_⟩
              have z_69 := getD_len bb_l_b_Details (((l_b_Details.length : Int) - 1) : Int).toNat
              rw [e] at hk
              exact hk  H_2 g_29 
theorem impl_ValidBands_ok : FnOk Try.prog 116 S_impl_ValidBands := by
  refine FnOk.body mix_ok E_impl_ValidBands_ok Try.func116 rfl (by kernel_rfl) (by kernel_rfl) ?_ ?_ ?_ ?_ ?_
  · intro args H K K' h hk
    simp only [S_impl_ValidBands] at *
    unfold F_impl_ValidBands at *
    split at hk
    · obtain ⟨l_b_Coarse, l_b_Details, i_b_Coarse, i_b_Details, bd_72, bd_73, bb_l_b_Details, k⟩ := hk
      exact ⟨l_b_Coarse, l_b_Details, i_b_Coarse, i_b_Details, bd_72, bd_73, bb_l_b_Details, (fun  H' gg  => h _ _ (k  H' gg ))⟩
    · exact hk.elim
  · intro hq; cases hq
  · intro args H K hk
    simp only [S_impl_ValidBands] at *
    unfold F_impl_ValidBands at *
    split at hk
    · obtain ⟨l_b_Coarse, l_b_Details, i_b_Coarse, i_b_Details, bd_72, bd_73, bb_l_b_Details, k⟩ := hk
      exact ⟨_, _, k H (Grow.refl H)⟩
    · exact hk.elim
  · intro _ args H K hk
    simp only [S_impl_ValidBands] at *
    unfold F_impl_ValidBands at *
    split at hk
    · obtain ⟨l_b_Coarse, l_b_Details, i_b_Coarse, i_b_Details, bd_72, bd_73, bb_l_b_Details, k⟩ := hk
      exact ⟨l_b_Coarse, l_b_Details, i_b_Coarse, i_b_Details, bd_72, bd_73, bb_l_b_Details, (fun  H' gg  => ⟨gg, k  H' gg ⟩)⟩
    · exact hk.elim
  · have mm := @impl_ValidBands_main
    have ml := fun (args : List Value) (H : AHeap) (K : Value → AHeap → Prop) => bodyL_body (P := Try.prog) (env := E_impl_ValidBands ) (fn := Try.f116) (args := args) (H := H) (K := K) E_impl_ValidBands_ok 
    revert mm ml
    generalize bodyK Try.prog E_impl_ValidBands Try.f116 = Q
    generalize bodyL Try.prog E_impl_ValidBands Try.f116 = QL
    intro mm ml args H K hk
    simp only [S_impl_ValidBands] at *
    unfold F_impl_ValidBands at *
    split at hk
    · exact ml _ H K (mm _ _ _ _ _ _ H K hk)
    · exact hk.elim

def p_impl_copyOf (l_list : List Nat) : (List Nat) := (([] : List Nat) ++ l_list)
def p_impl_copyOf_eq := @p_impl_copyOf.eq_1
def T_impl_copyOf (list_a : Option Addr) (list_n : Nat) (list_e : Nat) (H : AHeap) (K : (Option Addr) → Nat → Nat → AHeap → Prop) : Prop := ∃ (l_list : List Nat), IsL fF H list_a list_n l_list ∧ l_list.length < 1073741824 ∧ ((∀ (r1_a : Option Addr) (r1_n r1_e : Nat), ∀ H' : AHeap, Grow H H' → OwnS fF H' H.length r1_a r1_n r1_e (p_impl_copyOf l_list) → K r1_a r1_n r1_e H'))
theorem T_impl_copyOf_i {list_a : Option Addr} {list_n : Nat} {list_e : Nat} {H : AHeap} {K : (Option Addr) → Nat → Nat → AHeap → Prop} (h : ∃ (l_list : List Nat), IsL fF H list_a list_n l_list ∧ l_list.length < 1073741824 ∧ ((∀ (r1_a : Option Addr) (r1_n r1_e : Nat), ∀ H' : AHeap, Grow H H' → OwnS fF H' H.length r1_a r1_n r1_e (p_impl_copyOf l_list) → K r1_a r1_n r1_e H'))) : T_impl_copyOf list_a list_n list_e H K := h
theorem impl_copyOf_is (l : List Nat) : p_impl_copyOf l = l := by rw [p_impl_copyOf_eq]; rfl
theorem impl_copyOf_len (l : List Nat) : (p_impl_copyOf l).length = l.length := by rw [impl_copyOf_is]
/-! impl_copyOf: function 122 -/
def E_impl_copyOf : Env := envOf []
def F_impl_copyOf : List Value → AHeap → (Value → AHeap → Prop) → Prop
  | [.slice list_a list_n list_e], H, K => T_impl_copyOf list_a list_n list_e H fun (r1_a : Option Addr) (r1_n : Nat) (r1_e : Nat) (H' : AHeap) => K (.slice r1_a r1_n r1_e) H'
  | _, _, _ => False
def S_impl_copyOf : FSpec := { F := F_impl_copyOf, quiet := false, tame := true }
theorem impl_copyOf_vc (list_a : Option Addr) (list_n : Nat) (list_e : Nat) (H : AHeap) (K : Value → AHeap → Prop) : bodyL Try.prog E_impl_copyOf Try.f122 [.slice list_a list_n list_e] H K =
  (Al [] H fun b1 H1 => ∃ o1 w1 : List Value, ownB H1 (some ⟨b1, 0, none⟩) 0 1 1 = some o1 ∧ rdS H1 list_a (list_n * 1) = some w1 ∧ ((some ⟨b1, 0, none⟩ : Option Addr) = none → 0 < (list_n : Nat)) ∧ (0 : Nat) + list_n < most ∧ Ap H1 (killB H1 (some ⟨b1, 0, none⟩) ++ [some ⟨o1 ++ w1, true⟩]) fun b2 H2 => K (.slice (some ⟨b2, 0, none⟩) (0 + list_n) 1) H2) := by kernel_rfl
theorem E_impl_copyOf_ok : ∀ g, FnOk Try.prog g (E_impl_copyOf g) := FnOk.envOf (by
  intro x hx; cases hx)
set_option maxHeartbeats 1000000 in
theorem impl_copyOf_main (list_a : Option Addr) (list_n : Nat) (list_e : Nat) (H : AHeap) (K : Value → AHeap → Prop) (h : T_impl_copyOf list_a list_n list_e H fun (r1_a : Option Addr) (r1_n : Nat) (r1_e : Nat) (H' : AHeap) => K (.slice r1_a r1_n r1_e) H') : bodyL Try.prog E_impl_copyOf Try.f122 [.slice list_a list_n list_e] H K := by
  rw [impl_copyOf_vc]
  obtain ⟨l_list, i_list, bd_21, hk⟩ := h
  obtain rfl := i_list.eqn
  have e : (p_impl_copyOf l_list) = _ := rfl
  have e := e.trans (p_impl_copyOf_eq l_list)
  have g0 := Grow.refl H
  refine Al.intro (fun b_1 H_1 hb_2 hl_3 g_4 o_5 => ?_)
  have o_5 : Own H_1 b_1 ((([] : List Nat)).map fF) := o_5
  have l_7 := g_4.1
  have g_8 := g0.trans g_4
  have l_9 := g_8.1
  have w_20 := o_5.lt
  refine ⟨_, _, o_5.ownB ω4 rfl, (isl_rdS (i_list.grow g_8)), (fun h => by cases h), ω12, ?_⟩
  refine Ap.app o_5 rfl rfl (fun b_14 H_2 q_18 hl_10 o_11 k_12 => ?_)
  have o_11 := map_snoc o_11
  have l_15 := k_12.1
  have g_16 := g_8.keep (b := b_1) ω2 k_12
  have l_17 := g_16.1
  have w_19 := o_11.lt
  rw [e] at hk
  exact hk _ _ _ H_2 g_16 (o_11.ownS ω5 ω2)
theorem impl_copyOf_ok : FnOk Try.prog 122 S_impl_copyOf := by
  refine FnOk.body mix_ok E_impl_copyOf_ok Try.func122 rfl (by kernel_rfl) (by kernel_rfl) ?_ ?_ ?_ ?_ ?_
  · intro args H K K' h hk
    simp only [S_impl_copyOf] at *
    unfold F_impl_copyOf at *
    split at hk
    · obtain ⟨l_list, i_list, bd_21, k⟩ := hk
      exact ⟨l_list, i_list, bd_21, (fun r1_a r1_n r1_e H' gg ow0 => h _ _ (k r1_a r1_n r1_e H' gg ow0))⟩
    · exact hk.elim
  · intro hq; cases hq
  · intro args H K hk
    simp only [S_impl_copyOf] at *
    unfold F_impl_copyOf at *
    split at hk
    · obtain ⟨l_list, i_list, bd_21, k⟩ := hk
      exact liveS fun a n e H1 g o => ⟨_, _, k a n e H1 g o⟩
    · exact hk.elim
  · intro _ args H K hk
    simp only [S_impl_copyOf] at *
    unfold F_impl_copyOf at *
    split at hk
    · obtain ⟨l_list, i_list, bd_21, k⟩ := hk
      exact ⟨l_list, i_list, bd_21, (fun r1_a r1_n r1_e H' gg ow0 => ⟨gg, k r1_a r1_n r1_e H' gg ow0⟩)⟩
    · exact hk.elim
  · have mm := @impl_copyOf_main
    have ml := fun (args : List Value) (H : AHeap) (K : Value → AHeap → Prop) => bodyL_body (P := Try.prog) (env := E_impl_copyOf ) (fn := Try.f122) (args := args) (H := H) (K := K) E_impl_copyOf_ok 
    revert mm ml
    generalize bodyK Try.prog E_impl_copyOf Try.f122 = Q
    generalize bodyL Try.prog E_impl_copyOf Try.f122 = QL
    intro mm ml args H K hk
    simp only [S_impl_copyOf] at *
    unfold F_impl_copyOf at *
    split at hk
    · exact ml _ H K (mm _ _ _ H K hk)
    · exact hk.elim
def p_impl_isLeast (x : Nat) : Bool := (bif (p_impl_IsFinite x) then fle .f32 0 x else false)
def T_impl_isLeast (x : Nat) (H : AHeap) (K : Bool → AHeap → Prop) : Prop := K (p_impl_isLeast x) H

theorem T_impl_isLeast_i {x : Nat} {H : AHeap} {K : Bool → AHeap → Prop} (h : K (p_impl_isLeast x) H) : T_impl_isLeast x H K := h
/-! impl_isLeast: function 106 -/
def E_impl_isLeast : Env := envOf [(133, S_impl_IsFinite)]
def F_impl_isLeast : List Value → AHeap → (Value → AHeap → Prop) → Prop
  | [.float .f32 x], H, K => T_impl_isLeast x H fun (r1 : Bool) (H' : AHeap) => K (.bool r1) H'
  | _, _, _ => False
def S_impl_isLeast : FSpec := { F := F_impl_isLeast, quiet := true, tame := false }
theorem impl_isLeast_vc (x : Nat) (H : AHeap) (K : Value → AHeap → Prop) : bodyL Try.prog E_impl_isLeast Try.f106 [.float .f32 x] H K =
  (T_impl_IsFinite x H fun (r1 : Bool) (H1 : AHeap) => Br r1 (K (.bool (fle .f32 0 x)) H1) (K (.bool false) H1)) := by kernel_rfl
theorem E_impl_isLeast_ok : ∀ g, FnOk Try.prog g (E_impl_isLeast g) := FnOk.envOf (by
  intro x hx
  simp only [List.mem_cons, List.not_mem_nil, or_false] at hx
  subst hx; exact impl_IsFinite_ok)
set_option maxHeartbeats 1000000 in
theorem impl_isLeast_main (x : Nat) (H : AHeap) (K : Value → AHeap → Prop) (h : T_impl_isLeast x H fun (r1 : Bool) (H' : AHeap) => K (.bool r1) H') : bodyL Try.prog E_impl_isLeast Try.f106 [.float .f32 x] H K := by
  rw [impl_isLeast_vc]
  simp only [T_impl_IsFinite]
  unfold T_impl_isLeast p_impl_isLeast at h
  repeat' (first | exact h | (exfalso; simp_all; done) | (refine ⟨by decide, ?_⟩) | (refine Br.intro (fun hb => ?_) (fun hb => ?_) <;> (try simp only [hb, cond_true, cond_false, Bool.not_true, Bool.not_false] at h)))
theorem impl_isLeast_ok : FnOk Try.prog 106 S_impl_isLeast := by
  refine FnOk.body mix_ok E_impl_isLeast_ok Try.func106 rfl (by kernel_rfl) (by kernel_rfl) ?_ ?_ ?_ ?_ ?_
  · intro args H K K' h hk
    simp only [S_impl_isLeast] at *
    unfold F_impl_isLeast at *
    split at hk
    · have k := hk
      exact h _ _ k
    · exact hk.elim
  · intro _ args H K hk
    simp only [S_impl_isLeast] at *
    unfold F_impl_isLeast at *
    split at hk
    · have k := hk
      exact ⟨_, k, fun K' k' => k'⟩
    · exact hk.elim
  · intro args H K hk
    simp only [S_impl_isLeast] at *
    unfold F_impl_isLeast at *
    split at hk
    · have k := hk
      exact ⟨_, _, k⟩
    · exact hk.elim
  · intro hq; cases hq
  · have mm := @impl_isLeast_main
    have ml := fun (args : List Value) (H : AHeap) (K : Value → AHeap → Prop) => bodyL_body (P := Try.prog) (env := E_impl_isLeast ) (fn := Try.f106) (args := args) (H := H) (K := K) E_impl_isLeast_ok 
    revert mm ml
    generalize bodyK Try.prog E_impl_isLeast Try.f106 = Q
    generalize bodyL Try.prog E_impl_isLeast Try.f106 = QL
    intro mm ml args H K hk
    simp only [S_impl_isLeast] at *
    unfold F_impl_isLeast at *
    split at hk
    · exact ml _ H K (mm _ H K hk)
    · exact hk.elim
def p_impl_size (x : Nat) : Nat := (bif flt .f32 x 0 then fneg .f32 x else (bif feq .f32 x 0 then 0 else x))
def T_impl_size (x : Nat) (H : AHeap) (K : Nat → AHeap → Prop) : Prop := K (p_impl_size x) H

/-! impl_size: function 150 -/
def E_impl_size : Env := envOf []
def F_impl_size : List Value → AHeap → (Value → AHeap → Prop) → Prop
  | [.float .f32 x], H, K => T_impl_size x H fun (r1 : Nat) (H' : AHeap) => K (.float .f32 r1) H'
  | _, _, _ => False
def S_impl_size : FSpec := { F := F_impl_size, quiet := true, tame := false }
theorem impl_size_vc (x : Nat) (H : AHeap) (K : Value → AHeap → Prop) : bodyL Try.prog E_impl_size Try.f150 [.float .f32 x] H K =
  (Br (flt .f32 x 0) (K (.float .f32 (fneg .f32 x)) H) (Br (feq .f32 x 0) (K (.float .f32 0) H) (K (.float .f32 x) H))) := by kernel_rfl
theorem E_impl_size_ok : ∀ g, FnOk Try.prog g (E_impl_size g) := FnOk.envOf (by
  intro x hx; cases hx)
set_option maxHeartbeats 1000000 in
theorem impl_size_main (x : Nat) (H : AHeap) (K : Value → AHeap → Prop) (h : T_impl_size x H fun (r1 : Nat) (H' : AHeap) => K (.float .f32 r1) H') : bodyL Try.prog E_impl_size Try.f150 [.float .f32 x] H K := by
  rw [impl_size_vc]
  unfold T_impl_size p_impl_size at h
  repeat' (first | exact h | (exfalso; simp_all; done) | (refine ⟨by decide, ?_⟩) | (refine Br.intro (fun hb => ?_) (fun hb => ?_) <;> (try simp only [hb, cond_true, cond_false, Bool.not_true, Bool.not_false] at h)))
theorem impl_size_ok : FnOk Try.prog 150 S_impl_size := by
  refine FnOk.body mix_ok E_impl_size_ok Try.func150 rfl (by kernel_rfl) (by kernel_rfl) ?_ ?_ ?_ ?_ ?_
  · intro args H K K' h hk
    simp only [S_impl_size] at *
    unfold F_impl_size at *
    split at hk
    · have k := hk
      exact h _ _ k
    · exact hk.elim
  · intro _ args H K hk
    simp only [S_impl_size] at *
    unfold F_impl_size at *
    split at hk
    · have k := hk
      exact ⟨_, k, fun K' k' => k'⟩
    · exact hk.elim
  · intro args H K hk
    simp only [S_impl_size] at *
    unfold F_impl_size at *
    split at hk
    · have k := hk
      exact ⟨_, _, k⟩
    · exact hk.elim
  · intro hq; cases hq
  · have mm := @impl_size_main
    have ml := fun (args : List Value) (H : AHeap) (K : Value → AHeap → Prop) => bodyL_body (P := Try.prog) (env := E_impl_size ) (fn := Try.f150) (args := args) (H := H) (K := K) E_impl_size_ok 
    revert mm ml
    generalize bodyK Try.prog E_impl_size Try.f150 = Q
    generalize bodyL Try.prog E_impl_size Try.f150 = QL
    intro mm ml args H K hk
    simp only [S_impl_size] at *
    unfold F_impl_size at *
    split at hk
    · exact ml _ H K (mm _ H K hk)
    · exact hk.elim
def p_impl_softer (x : Nat) (vby : Nat) : Nat := (bif flt .f32 vby x then fsub .f32 x vby else (bif flt .f32 x (fneg .f32 vby) then fadd .f32 x vby else 0))
def T_impl_softer (x : Nat) (vby : Nat) (H : AHeap) (K : Nat → AHeap → Prop) : Prop := K (p_impl_softer x vby) H

/-! impl_softer: function 193 -/
def E_impl_softer : Env := envOf []
def F_impl_softer : List Value → AHeap → (Value → AHeap → Prop) → Prop
  | [.float .f32 x, .float .f32 vby], H, K => T_impl_softer x vby H fun (r1 : Nat) (H' : AHeap) => K (.float .f32 r1) H'
  | _, _, _ => False
def S_impl_softer : FSpec := { F := F_impl_softer, quiet := true, tame := false }
theorem impl_softer_vc (x : Nat) (vby : Nat) (H : AHeap) (K : Value → AHeap → Prop) : bodyL Try.prog E_impl_softer Try.f193 [.float .f32 x, .float .f32 vby] H K =
  (Br (flt .f32 vby x) (K (.float .f32 (fsub .f32 x vby)) H) (Br (flt .f32 x (fneg .f32 vby)) (K (.float .f32 (fadd .f32 x vby)) H) (K (.float .f32 0) H))) := by kernel_rfl
theorem E_impl_softer_ok : ∀ g, FnOk Try.prog g (E_impl_softer g) := FnOk.envOf (by
  intro x hx; cases hx)
set_option maxHeartbeats 1000000 in
theorem impl_softer_main (x : Nat) (vby : Nat) (H : AHeap) (K : Value → AHeap → Prop) (h : T_impl_softer x vby H fun (r1 : Nat) (H' : AHeap) => K (.float .f32 r1) H') : bodyL Try.prog E_impl_softer Try.f193 [.float .f32 x, .float .f32 vby] H K := by
  rw [impl_softer_vc]
  unfold T_impl_softer p_impl_softer at h
  repeat' (first | exact h | (exfalso; simp_all; done) | (refine ⟨by decide, ?_⟩) | (refine Br.intro (fun hb => ?_) (fun hb => ?_) <;> (try simp only [hb, cond_true, cond_false, Bool.not_true, Bool.not_false] at h)))
theorem impl_softer_ok : FnOk Try.prog 193 S_impl_softer := by
  refine FnOk.body mix_ok E_impl_softer_ok Try.func193 rfl (by kernel_rfl) (by kernel_rfl) ?_ ?_ ?_ ?_ ?_
  · intro args H K K' h hk
    simp only [S_impl_softer] at *
    unfold F_impl_softer at *
    split at hk
    · have k := hk
      exact h _ _ k
    · exact hk.elim
  · intro _ args H K hk
    simp only [S_impl_softer] at *
    unfold F_impl_softer at *
    split at hk
    · have k := hk
      exact ⟨_, k, fun K' k' => k'⟩
    · exact hk.elim
  · intro args H K hk
    simp only [S_impl_softer] at *
    unfold F_impl_softer at *
    split at hk
    · have k := hk
      exact ⟨_, _, k⟩
    · exact hk.elim
  · intro hq; cases hq
  · have mm := @impl_softer_main
    have ml := fun (args : List Value) (H : AHeap) (K : Value → AHeap → Prop) => bodyL_body (P := Try.prog) (env := E_impl_softer ) (fn := Try.f193) (args := args) (H := H) (K := K) E_impl_softer_ok 
    revert mm ml
    generalize bodyK Try.prog E_impl_softer Try.f193 = Q
    generalize bodyL Try.prog E_impl_softer Try.f193 = QL
    intro mm ml args H K hk
    simp only [S_impl_softer] at *
    unfold F_impl_softer at *
    split at hk
    · exact ml _ H K (mm _ _ H K hk)
    · exact hk.elim
end Go.Proofs.Ytbnplefohfamnaa.Ai
