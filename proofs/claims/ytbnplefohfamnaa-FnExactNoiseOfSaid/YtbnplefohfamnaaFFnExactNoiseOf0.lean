/- What functions of the program come to on the abstract machine, and that they do so; printed by a program of mine around proofs of mine. -/
import Derived.Test.YtbnplefohfamnaaProg
import Derived.Test.YtbnplefohfamnaaKe
import Derived.Test.YtbnplefohfamnaaLv
import Derived.Test.YtbnplefohfamnaaOl
import Derived.Test.YtbnplefohfamnaaPu
set_option linter.unusedVariables false
set_option linter.unusedSimpArgs false
set_option linter.defProp false
set_option maxRecDepth 100000
namespace Go.Proofs.Ytbnplefohfamnaa.Ai
open Go
attribute [local irreducible] bodyK bodyL
theorem mix_ok : Try.prog.follows .mixedOrders = true := by kernel_rfl

def p_laws_szFloat32S (l_a : List Nat) (left : Int) : Int := (bif decide ((IntKind.wrap .i64 (left - (l_a.length : Int)) : Int) < 0) then ((-1) : Int) else IntKind.wrap .i64 (left - (l_a.length : Int)))
def p_laws_szFloat32S_eq := @p_laws_szFloat32S.eq_1
def T_laws_szFloat32S (a_a : Option Addr) (a_n : Nat) (a_e : Nat) (left : Int) (H : AHeap) (K : Int → AHeap → Prop) : Prop := ∃ (l_a : List Nat), IsL fF H a_a a_n l_a ∧ K (p_laws_szFloat32S l_a left) H
theorem T_laws_szFloat32S_i {a_a : Option Addr} {a_n : Nat} {a_e : Nat} {left : Int} {H : AHeap} {K : Int → AHeap → Prop} (h : ∃ (l_a : List Nat), IsL fF H a_a a_n l_a ∧ K (p_laws_szFloat32S l_a left) H) : T_laws_szFloat32S a_a a_n a_e left H K := h
theorem o3 {P : Prop} (h : P := by omega) : P := h
theorem laws_szFloat32S_f (l : List Nat) (left : Int) : 0 ≤ left → left ≤ 1048576 → l.length ≤ 9223372036854775807 → p_laws_szFloat32S l left < 0 ∨ (l.length : Int) ≤ left ∧ p_laws_szFloat32S l left = left - l.length := by
  intro h0 h1 h2
  rw [p_laws_szFloat32S_eq, wrap64 o3 o3]
  by_cases h : left - (l.length : Int) < 0
  · rw [decide_eq_true h, cond_true]; left; decide
  · rw [decide_eq_false h, cond_false]; right; omega
/-! laws_szFloat32S: function 110 -/
def E_laws_szFloat32S : Env := envOf []
def F_laws_szFloat32S : List Value → AHeap → (Value → AHeap → Prop) → Prop
  | [.slice a_a a_n a_e, .int .i64 left], H, K => T_laws_szFloat32S a_a a_n a_e left H fun (r1 : Int) (H' : AHeap) => K (.int .i64 r1) H'
  | _, _, _ => False
def S_laws_szFloat32S : FSpec := { F := F_laws_szFloat32S, quiet := true, tame := false }
theorem laws_szFloat32S_vc (a_a : Option Addr) (a_n : Nat) (a_e : Nat) (left : Int) (H : AHeap) (K : Value → AHeap → Prop) : bodyL Try.prog E_laws_szFloat32S Try.f110 [.slice a_a a_n a_e, .int .i64 left] H K =
  (Br (decide ((IntKind.wrap .i64 (left - (a_n : Int)) : Int) < 0)) (K (.int .i64 (-1)) H) (K (.int .i64 (IntKind.wrap .i64 (left - (a_n : Int)))) H)) := by kernel_rfl
theorem E_laws_szFloat32S_ok : ∀ g, FnOk Try.prog g (E_laws_szFloat32S g) := FnOk.envOf (by
  intro x hx; cases hx)
set_option maxHeartbeats 1000000 in
theorem laws_szFloat32S_main (a_a : Option Addr) (a_n : Nat) (a_e : Nat) (left : Int) (H : AHeap) (K : Value → AHeap → Prop) (h : T_laws_szFloat32S a_a a_n a_e left H fun (r1 : Int) (H' : AHeap) => K (.int .i64 r1) H') : bodyL Try.prog E_laws_szFloat32S Try.f110 [.slice a_a a_n a_e, .int .i64 left] H K := by
  rw [laws_szFloat32S_vc]
  obtain ⟨l_a, i_a, hk⟩ := h
  obtain rfl := i_a.eqn
  have e : (p_laws_szFloat32S l_a left) = _ := rfl
  have e := e.trans (p_laws_szFloat32S_eq l_a left)
  have g0 := Grow.refl H
  refine Br.intro (fun c_1 => ?_) (fun c_1 => ?_)
  · have e := e.trans (cond_t c_1)
    have c_1' := of_decide_eq_true c_1
    rw [e] at hk
    exact hk
  · have e := e.trans (cond_f c_1)
    have c_1' := of_decide_eq_false c_1
    rw [e] at hk
    exact hk
theorem laws_szFloat32S_ok : FnOk Try.prog 110 S_laws_szFloat32S := by
  refine FnOk.body mix_ok E_laws_szFloat32S_ok Try.func110 rfl (by kernel_rfl) (by kernel_rfl) ?_ ?_ ?_ ?_ ?_
  · intro args H K K' h hk
    simp only [S_laws_szFloat32S] at *
    unfold F_laws_szFloat32S at *
    split at hk
    · obtain ⟨l_a, i_a, k⟩ := hk
      exact ⟨l_a, i_a, h _ _ k⟩
    · exact hk.elim
  · intro _ args H K hk
    simp only [S_laws_szFloat32S] at *
    unfold F_laws_szFloat32S at *
    split at hk
    · obtain ⟨l_a, i_a, k⟩ := hk
      exact ⟨_, k, fun K' k' => ⟨l_a, i_a, k'⟩⟩
    · exact hk.elim
  · intro args H K hk
    simp only [S_laws_szFloat32S] at *
    unfold F_laws_szFloat32S at *
    split at hk
    · obtain ⟨l_a, i_a, k⟩ := hk
      exact ⟨_, _, k⟩
    · exact hk.elim
  · intro hq; cases hq
  · have mm := @laws_szFloat32S_main
    have ml := fun (args : List Value) (H : AHeap) (K : Value → AHeap → Prop) => bodyL_body (P := Try.prog) (env := E_laws_szFloat32S ) (fn := Try.f110) (args := args) (H := H) (K := K) E_laws_szFloat32S_ok 
    revert mm ml
    generalize bodyK Try.prog E_laws_szFloat32S Try.f110 = Q
    generalize bodyL Try.prog E_laws_szFloat32S Try.f110 = QL
    intro mm ml args H K hk
    simp only [S_laws_szFloat32S] at *
    unfold F_laws_szFloat32S at *
    split at hk
    · exact ml _ H K (mm _ _ _ _ H K hk)
    · exact hk.elim

def p_laws_szFloat32SS_l1 (l_a : List (List Nat)) (left : Int) : Nat → Int → Int → Int → Int
  | 0, _, _, _ => 0
  | μ + 1, left_1, t4, i => (bif decide ((i : Int) < (l_a.length : Int)) then (bif decide (((p_laws_szFloat32S (((l_a).getD (i : Int).toNat [])) left_1) : Int) < 0) then ((-1) : Int) else (p_laws_szFloat32SS_l1 l_a left μ ((p_laws_szFloat32S (((l_a).getD (i : Int).toNat [])) left_1)) t4 (i + 1))) else left_1)
def p_laws_szFloat32SS_l1_s := fun l_a left μ left_1 t4 i => @p_laws_szFloat32SS_l1.eq_2 l_a left left_1 t4 i μ
def p_laws_szFloat32SS (l_a : List (List Nat)) (left : Int) : Int := (bif decide ((IntKind.wrap .i64 (left - (l_a.length : Int)) : Int) < 0) then ((-1) : Int) else (p_laws_szFloat32SS_l1 l_a left (Int.toNat ((l_a.length : Int) - (0 : Int)) + 1) ((IntKind.wrap .i64 (left - (l_a.length : Int)))) (0 : Int) (0 : Int)))
def p_laws_szFloat32SS_eq := @p_laws_szFloat32SS.eq_1
def T_laws_szFloat32SS (a_a : Option Addr) (a_n : Nat) (a_e : Nat) (left : Int) (H : AHeap) (K : Int → AHeap → Prop) : Prop := ∃ (l_a : List (List Nat)), IsLL fF H a_a a_n l_a ∧ l_a.length ≤ 9223372036854775807 ∧ K (p_laws_szFloat32SS l_a left) H
theorem T_laws_szFloat32SS_i {a_a : Option Addr} {a_n : Nat} {a_e : Nat} {left : Int} {H : AHeap} {K : Int → AHeap → Prop} (h : ∃ (l_a : List (List Nat)), IsLL fF H a_a a_n l_a ∧ l_a.length ≤ 9223372036854775807 ∧ K (p_laws_szFloat32SS l_a left) H) : T_laws_szFloat32SS a_a a_n a_e left H K := h
theorem laws_szFloat32SS_go (l : List (List Nat)) (left : Int) (hl : ∀ y ∈ l, y.length ≤ 9223372036854775807) : ∀ (μ : Nat) (k t : Int) (i : Nat), i ≤ l.length → l.length - i < μ → 0 ≤ k → k ≤ 1048576 →
    p_laws_szFloat32SS_l1 l left μ k t (i : Int) < 0 ∨ (0 ≤ p_laws_szFloat32SS_l1 l left μ k t (i : Int) ∧ p_laws_szFloat32SS_l1 l left μ k t (i : Int) ≤ k ∧ ∀ y ∈ l.drop i, (y.length : Int) ≤ k) := by
  intro μ
  induction μ with
  | zero => intro k t i _ h; omega
  | succ μ ih =>
    intro k t i hi hm h0 h1
    rw [p_laws_szFloat32SS_l1_s]
    by_cases h : i < l.length
    · rw [decide_eq_true (show (i : Int) < (l.length : Int) by omega), cond_true, Int.toNat_natCast]
      have hx : l.getD i [] = l[i] := by rw [List.getD_eq_getElem?_getD, List.getElem?_eq_getElem h]; rfl
      have hle : l[i].length ≤ 9223372036854775807 := hl _ (List.getElem_mem _)
      rw [hx]
      rcases laws_szFloat32S_f l[i] k h0 h1 hle with hz | ⟨hz, hz'⟩
      · rw [decide_eq_true hz, cond_true]; left; decide
      · rw [decide_eq_false (show ¬ p_laws_szFloat32S l[i] k < 0 by omega), cond_false]
        rcases ih (p_laws_szFloat32S l[i] k) t (i + 1) o3 o3 o3 o3 with g | ⟨g1, g2, g3⟩
        · left; exact g
        · right
          refine ⟨g1, Int.le_trans g2 o3, fun y hy => ?_⟩
          rw [List.drop_eq_getElem_cons h] at hy
          rcases List.mem_cons.1 hy with rfl | hy
          · exact hz
          · have := g3 y hy; omega
    · rw [decide_eq_false (show ¬ (i : Int) < (l.length : Int) by omega), cond_false]
      right
      refine ⟨h0, Int.le_refl _, fun y hy => ?_⟩
      rw [List.drop_eq_nil_of_le o3] at hy; cases hy
theorem laws_szFloat32SS_f (l : List (List Nat)) (left : Int) : 0 ≤ left → left ≤ 1048576 → l.length ≤ 9223372036854775807 → (∀ y ∈ l, y.length ≤ 9223372036854775807) →
    p_laws_szFloat32SS l left < 0 ∨ (0 ≤ p_laws_szFloat32SS l left ∧ p_laws_szFloat32SS l left ≤ left ∧ (l.length : Int) ≤ left ∧ ∀ y ∈ l, (y.length : Int) ≤ left) := by
  intro h0 h1 h2 h3
  rw [p_laws_szFloat32SS_eq, wrap64 o3 o3]
  by_cases h : left - (l.length : Int) < 0
  · rw [decide_eq_true h, cond_true]; left; decide
  · rw [decide_eq_false h, cond_false]
    rcases laws_szFloat32SS_go l left h3 (Int.toNat ((l.length : Int) - (0 : Int)) + 1) (left - (l.length : Int)) 0 0 o3 o3 o3 o3 with g | ⟨g1, g2, g3⟩
    · left; exact g
    · right
      refine ⟨g1, Int.le_trans g2 o3, by omega, fun y hy => ?_⟩
      have := g3 y (by rw [List.drop_zero]; exact hy); omega
/-! laws_szFloat32SS: function 111 -/
def E_laws_szFloat32SS : Env := envOf [(110, S_laws_szFloat32S)]
def F_laws_szFloat32SS : List Value → AHeap → (Value → AHeap → Prop) → Prop
  | [.slice a_a a_n a_e, .int .i64 left], H, K => T_laws_szFloat32SS a_a a_n a_e left H fun (r1 : Int) (H' : AHeap) => K (.int .i64 r1) H'
  | _, _, _ => False
def S_laws_szFloat32SS : FSpec := { F := F_laws_szFloat32SS, quiet := true, tame := false }
theorem laws_szFloat32SS_vc (a_a : Option Addr) (a_n : Nat) (a_e : Nat) (left : Int) (H : AHeap) (K : Value → AHeap → Prop) : bodyL Try.prog E_laws_szFloat32SS Try.f111 [.slice a_a a_n a_e, .int .i64 left] H K =
  (Br (decide ((IntKind.wrap .i64 (left - (a_n : Int)) : Int) < 0)) (K (.int .i64 (-1)) H) (loopK (exL Try.prog E_laws_szFloat32SS (cl (cl (cr (cl (cr (cr (cr (bodyC Try.f111)))))))) 35 16 [(0, 2)]) [.slice a_a a_n a_e, .int .i64 (IntKind.wrap .i64 (left - (a_n : Int))), ud, ud, ud, .int .i64 0, ud, ud, ud, ud, ud, ud, ud, ud, ud, ud, ud, ud, ud, ud, ud, ud, ud, ud, ud, ud, ud] H (blockQ 0 (seqQ (exL Try.prog E_laws_szFloat32SS (cr (cr (cr (cr (bodyC Try.f111))))) 16 16 []) (retK Try.prog Try.f111 K))))) := by kernel_rfl
abbrev laws_szFloat32SS_P1 (a_a : Option Addr) (a_e : Nat) (a_n : Nat) (left_1 : Int) (i : Int)  : List Value := [.slice a_a a_n a_e, .int .i64 left_1, ud, ud, ud, .int .i64 i, ud, ud, ud, ud, ud, ud, ud, ud, ud, ud, ud, ud, ud, ud, ud, ud, ud, ud, ud, ud, ud]
theorem laws_szFloat32SS_r1 (a_a : Option Addr) (a_e : Nat) (a_n : Nat) (left_1 : Int) (i : Int)  (H : AHeap) (R : Post) : exL Try.prog E_laws_szFloat32SS (cl (cl (cr (cl (cr (cr (cr (bodyC Try.f111)))))))) 35 16 [(0, 2)] (laws_szFloat32SS_P1 a_a a_e a_n left_1 i) H R =
  (Br (decide ((i : Int) < (a_n : Int))) ((0 : Int) ≤ i ∧ i < (a_n : Int) ∧ ∃ b1 f1, (a_a : Option Addr) = some ⟨b1, f1, none⟩ ∧ ∃ x1_a : Option Addr, ∃ x1_n : Nat, ∃ x1_e : Nat,  rdC H b1 (f1 + (i : Int).toNat * 1) = some (.slice x1_a x1_n x1_e) ∧ T_laws_szFloat32S x1_a x1_n x1_e left_1 H fun (r1 : Int) (H1 : AHeap) => Br (decide ((r1 : Int) < 0)) (R .ret [ud, ud, ud, ud, .int .i64 (-1), ud, ud, ud, ud, ud, ud, ud, ud, ud, ud, ud, ud, ud, ud, ud, ud, ud, ud, ud, ud, ud, ud] H1) (R .normal [.slice a_a a_n a_e, .int .i64 r1, ud, ud, ud, .int .i64 (IntKind.wrap .i64 (i + 1)), ud, ud, ud, ud, ud, ud, ud, ud, ud, ud, ud, ud, ud, ud, ud, ud, ud, ud, ud, ud, ud] H1)) (R (.exit 0) [ud, .int .i64 left_1, ud, ud, ud, ud, ud, ud, ud, ud, ud, ud, ud, ud, ud, ud, ud, ud, ud, ud, ud, ud, ud, ud, ud, ud, ud] H)) := by kernel_rfl
def laws_szFloat32SS_I1 (a_a : Option Addr) (a_e : Nat) (a_n : Nat) (Inv : Nat → Int → Int → AHeap → Prop) : Nat → List Value → AHeap → Prop := fun μ tm H => ∃ (left_1 : Int), ∃ (i : Int), tm = (laws_szFloat32SS_P1 a_a a_e a_n left_1 i) ∧ Inv μ left_1 i H
theorem laws_szFloat32SS_L1 (a_a : Option Addr) (a_e : Nat) (a_n : Nat) {Q : Post} (Inv : Nat → Int → Int → AHeap → Prop) (ν : Nat) (left_1 : Int) (i : Int)  (H : AHeap) (h0 : Inv ν left_1 i H)
    (hs : ∀ (μ : Nat) (left_1 : Int) (i : Int)  (H : AHeap), Inv μ left_1 i H → exL Try.prog E_laws_szFloat32SS (cl (cl (cr (cl (cr (cr (cr (bodyC Try.f111)))))))) 35 16 [(0, 2)] (laws_szFloat32SS_P1 a_a a_e a_n left_1 i) H (loopQ (laws_szFloat32SS_I1 a_a a_e a_n Inv) μ Q)) : loopK (exL Try.prog E_laws_szFloat32SS (cl (cl (cr (cl (cr (cr (cr (bodyC Try.f111)))))))) 35 16 [(0, 2)]) (laws_szFloat32SS_P1 a_a a_e a_n left_1 i) H Q :=
  ⟨laws_szFloat32SS_I1 a_a a_e a_n Inv, ν, ⟨left_1, i, rfl, h0⟩, fun μ tm H h => by obtain ⟨left_1, i, rfl, hI⟩ := h; exact hs μ left_1 i  H hI⟩
theorem laws_szFloat32SS_n1 {a_a : Option Addr} {a_e : Nat} {a_n : Nat} {Q : Post} {Inv : Nat → Int → Int → AHeap → Prop} {μ : Nat} (μ' : Nat) {left_1 : Int} {i : Int}  {H : AHeap} (hm : μ' < μ) (hI : Inv μ' left_1 i H) : loopQ (laws_szFloat32SS_I1 a_a a_e a_n Inv) μ Q .normal (laws_szFloat32SS_P1 a_a a_e a_n left_1 i) H := ⟨μ', hm, left_1, i, rfl, hI⟩
theorem laws_szFloat32SS_x1_0 (left_1 : Int) (H : AHeap) (K : Value → AHeap → Prop)  {I : Nat → List Value → AHeap → Prop} {μ : Nat} : loopQ I μ (blockQ 0 (seqQ (exL Try.prog E_laws_szFloat32SS (cr (cr (cr (cr (bodyC Try.f111))))) 16 16 []) (retK Try.prog Try.f111 K))) (.exit 0) [ud, .int .i64 left_1, ud, ud, ud, ud, ud, ud, ud, ud, ud, ud, ud, ud, ud, ud, ud, ud, ud, ud, ud, ud, ud, ud, ud, ud, ud] H =
  (K (.int .i64 left_1) H) := by kernel_rfl
theorem laws_szFloat32SS_x1_ret (t4 : Int) (H : AHeap) (K : Value → AHeap → Prop)  {I : Nat → List Value → AHeap → Prop} {μ : Nat} : loopQ I μ (blockQ 0 (seqQ (exL Try.prog E_laws_szFloat32SS (cr (cr (cr (cr (bodyC Try.f111))))) 16 16 []) (retK Try.prog Try.f111 K))) .ret [ud, ud, ud, ud, .int .i64 t4, ud, ud, ud, ud, ud, ud, ud, ud, ud, ud, ud, ud, ud, ud, ud, ud, ud, ud, ud, ud, ud, ud] H =
  (K (.int .i64 t4) H) := by kernel_rfl
theorem E_laws_szFloat32SS_ok : ∀ g, FnOk Try.prog g (E_laws_szFloat32SS g) := FnOk.envOf (by
  intro x hx
  simp only [List.mem_cons, List.not_mem_nil, or_false] at hx
  subst hx; exact laws_szFloat32S_ok)
theorem o5 {P : Prop} (h : P := by first | omega | (simp; done) | (simp; omega)) : P := h
theorem o0 {P : Prop} (h : P := by first | omega | (simp only [List.length_set, List.length_replicate, List.length_append, List.length_cons, List.length_nil, List.length_take, List.length_drop, marks_length]; done) | (simp only [List.length_set, List.length_replicate, List.length_append, List.length_cons, List.length_nil, List.length_take, List.length_drop, marks_length]; omega)) : P := h
theorem o10 {P : Prop} (h : P := by first | omega) : P := h
theorem o1 {P : Prop} (h : P := by first | omega | (simp only [List.length_append, List.length_cons, List.length_nil, List.length_set]; done) | (simp only [List.length_append, List.length_cons, List.length_nil, List.length_set]; omega)) : P := h
set_option maxHeartbeats 1000000 in
theorem laws_szFloat32SS_main (a_a : Option Addr) (a_n : Nat) (a_e : Nat) (left : Int) (H : AHeap) (K : Value → AHeap → Prop) (h : T_laws_szFloat32SS a_a a_n a_e left H fun (r1 : Int) (H' : AHeap) => K (.int .i64 r1) H') : bodyL Try.prog E_laws_szFloat32SS Try.f111 [.slice a_a a_n a_e, .int .i64 left] H K := by
  rw [laws_szFloat32SS_vc]
  obtain ⟨l_a, i_a, pr0, hk⟩ := h
  obtain rfl := i_a.eqn
  have e : (p_laws_szFloat32SS l_a left) = _ := rfl
  have e := e.trans (p_laws_szFloat32SS_eq l_a left)
  have g0 := Grow.refl H
  refine Br.intro (fun c_1 => ?_) (fun c_1 => ?_)
  · have e := e.trans (cond_t c_1)
    have c_1' := of_decide_eq_true c_1
    rw [e] at hk
    exact hk
  · have e := e.trans (cond_f c_1)
    have c_1' := of_decide_eq_false c_1
    refine laws_szFloat32SS_L1 _ _ _ (fun (μ : Nat) (left_1 : Int) (i : Int) (H_1 : AHeap) => ∃ (t4 : Int), H = H_1 ∧ (0 : Int) ≤ i ∧ i ≤ (l_a.length : Int) ∧ (l_a.length : Int) - i ≤ (μ : Int) ∧ p_laws_szFloat32SS l_a left = p_laws_szFloat32SS_l1 l_a left (μ + 1) left_1 t4 i) (Int.toNat ((l_a.length : Int) - (0 : Int))) _ _ H ?_ ?_
    · exact ⟨_, rfl, o5, o5, o3, e⟩
    · intro μ left_1 i  H_1 hI
      obtain ⟨t4, rfl, v_2, v_3, hμ, e⟩ := hI
      rw [laws_szFloat32SS_r1]
      have e := e.trans (p_laws_szFloat32SS_l1_s l_a left μ left_1 t4 i)
      have l_4 := g0.1
      refine Br.intro (fun c_5 => ?_) (fun c_5 => ?_)
      · have e := e.trans (cond_t c_5)
        have c_5' := of_decide_eq_true c_5
        obtain ⟨b_6, f_7, q_8⟩ := ((i_a.grow g0)).pos o0
        refine ⟨by omega, by omega, b_6, f_7, q_8, ?_⟩
        obtain ⟨a_9, n_10, e_11, r_12, i_13⟩ := (i_a).rd (i := (i : Int).toNat) g0 q_8 o3
        obtain rfl := i_13.eqn
        refine ⟨a_9, _, e_11, r_12, ?_⟩
        refine T_laws_szFloat32S_i ⟨_, (i_13.grow g0), ?_⟩
        have z_14 := laws_szFloat32S_f (((l_a).getD (i : Int).toNat [])) left_1
        refine Br.intro (fun c_15 => ?_) (fun c_15 => ?_)
        · have e := e.trans (cond_t c_15)
          have c_15' := of_decide_eq_true c_15
          rw [laws_szFloat32SS_x1_ret]
          rw [e] at hk
          exact hk
        · have e := e.trans (cond_f c_15)
          have c_15' := of_decide_eq_false c_15
          rw [show IntKind.wrap .i64 (i + 1) = (i + 1) from wrap64 o3 o3]
          refine laws_szFloat32SS_n1 (μ - 1) o10 ⟨_, rfl, o1, o1, o10, (by rw [show μ - 1 + 1 = μ from by first | omega]; exact e)⟩
      · have e := e.trans (cond_f c_5)
        have c_5' := of_decide_eq_false c_5
        rw [laws_szFloat32SS_x1_0]
        rw [e] at hk
        exact hk
theorem laws_szFloat32SS_ok : FnOk Try.prog 111 S_laws_szFloat32SS := by
  refine FnOk.body mix_ok E_laws_szFloat32SS_ok Try.func111 rfl (by kernel_rfl) (by kernel_rfl) ?_ ?_ ?_ ?_ ?_
  · intro args H K K' h hk
    simp only [S_laws_szFloat32SS] at *
    unfold F_laws_szFloat32SS at *
    split at hk
    · obtain ⟨l_a, i_a, pr0, k⟩ := hk
      exact ⟨l_a, i_a, pr0, h _ _ k⟩
    · exact hk.elim
  · intro _ args H K hk
    simp only [S_laws_szFloat32SS] at *
    unfold F_laws_szFloat32SS at *
    split at hk
    · obtain ⟨l_a, i_a, pr0, k⟩ := hk
      exact ⟨_, k, fun K' k' => ⟨l_a, i_a, pr0, k'⟩⟩
    · exact hk.elim
  · intro args H K hk
    simp only [S_laws_szFloat32SS] at *
    unfold F_laws_szFloat32SS at *
    split at hk
    · obtain ⟨l_a, i_a, pr0, k⟩ := hk
      exact ⟨_, _, k⟩
    · exact hk.elim
  · intro hq; cases hq
  · have mm := @laws_szFloat32SS_main
    have ml := fun (args : List Value) (H : AHeap) (K : Value → AHeap → Prop) => bodyL_body (P := Try.prog) (env := E_laws_szFloat32SS ) (fn := Try.f111) (args := args) (H := H) (K := K) E_laws_szFloat32SS_ok 
    revert mm ml
    generalize bodyK Try.prog E_laws_szFloat32SS Try.f111 = Q
    generalize bodyL Try.prog E_laws_szFloat32SS Try.f111 = QL
    intro mm ml args H K hk
    simp only [S_laws_szFloat32SS] at *
    unfold F_laws_szFloat32SS at *
    split at hk
    · exact ml _ H K (mm _ _ _ _ H K hk)
    · exact hk.elim

def p_laws_szBands (l_a_Coarse : List Nat) (l_a_Details : List (List Nat)) (left : Int) : Int := (bif decide (((p_laws_szFloat32S l_a_Coarse left) : Int) < 0) then ((-1) : Int) else (bif decide (((p_laws_szFloat32SS l_a_Details (p_laws_szFloat32S l_a_Coarse left)) : Int) < 0) then ((-1) : Int) else (p_laws_szFloat32SS l_a_Details (p_laws_szFloat32S l_a_Coarse left))))
def p_laws_szBands_eq := @p_laws_szBands.eq_1
def T_laws_szBands (a_Coarse_a : Option Addr) (a_Coarse_n : Nat) (a_Coarse_e : Nat) (a_Details_a : Option Addr) (a_Details_n : Nat) (a_Details_e : Nat) (left : Int) (H : AHeap) (K : Int → AHeap → Prop) : Prop := ∃ (l_a_Coarse : List Nat), ∃ (l_a_Details : List (List Nat)), IsL fF H a_Coarse_a a_Coarse_n l_a_Coarse ∧ IsLL fF H a_Details_a a_Details_n l_a_Details ∧ l_a_Details.length ≤ 9223372036854775807 ∧ ((∀ H' : AHeap, Grow H H' → K (p_laws_szBands l_a_Coarse l_a_Details left) H'))
theorem T_laws_szBands_i {a_Coarse_a : Option Addr} {a_Coarse_n : Nat} {a_Coarse_e : Nat} {a_Details_a : Option Addr} {a_Details_n : Nat} {a_Details_e : Nat} {left : Int} {H : AHeap} {K : Int → AHeap → Prop} (h : ∃ (l_a_Coarse : List Nat), ∃ (l_a_Details : List (List Nat)), IsL fF H a_Coarse_a a_Coarse_n l_a_Coarse ∧ IsLL fF H a_Details_a a_Details_n l_a_Details ∧ l_a_Details.length ≤ 9223372036854775807 ∧ ((∀ H' : AHeap, Grow H H' → K (p_laws_szBands l_a_Coarse l_a_Details left) H'))) : T_laws_szBands a_Coarse_a a_Coarse_n a_Coarse_e a_Details_a a_Details_n a_Details_e left H K := h
theorem laws_szBands_f (a : List Nat) (l : List (List Nat)) (left : Int) : 0 ≤ left → left ≤ 1048576 → a.length ≤ 9223372036854775807 → l.length ≤ 9223372036854775807 → (∀ y ∈ l, (∀ z ∈ y, W32 z) ∧ y.length ≤ 9223372036854775807) →
    p_laws_szBands a l left < 0 ∨ (0 ≤ p_laws_szBands a l left ∧ p_laws_szBands a l left ≤ left ∧ (a.length : Int) ≤ left ∧ (l.length : Int) ≤ left ∧ ∀ y ∈ l, (y.length : Int) ≤ left) := by
  intro h0 h1 h2 h3 h4
  rw [p_laws_szBands_eq]
  rcases laws_szFloat32S_f a left h0 h1 h2 with h | ⟨h, h'⟩
  · rw [decide_eq_true h, cond_true]; left; decide
  · rw [decide_eq_false (show ¬ p_laws_szFloat32S a left < 0 by omega), cond_false]
    rcases laws_szFloat32SS_f l (p_laws_szFloat32S a left) o3 o3 h3 (fun y hy => (h4 y hy).2) with g | ⟨g1, g2, g3, g4⟩
    · rw [decide_eq_true g, cond_true]; left; decide
    · rw [decide_eq_false (show ¬ p_laws_szFloat32SS l (p_laws_szFloat32S a left) < 0 by omega), cond_false]
      right
      exact ⟨g1, by omega, h, by omega, fun y hy => by have := g4 y hy; omega⟩
theorem laws_szBands_b (a : List Nat) (l : List (List Nat)) (left : Int) (h0 : 0 ≤ left) (h1 : left ≤ 1048576) (h2 : a.length ≤ 9223372036854775807) (h3 : l.length ≤ 9223372036854775807) (h4 : ∀ y ∈ l, (∀ z ∈ y, W32 z) ∧ y.length ≤ 9223372036854775807) :
    (p_laws_szBands a l left < 0 ∨ ((a.length : Int) ≤ left ∧ (l.length : Int) ≤ left)) ∧ (p_laws_szBands a l left < 0 ∨ ∀ y ∈ l, y.length < 1073741824) := by
  rcases laws_szBands_f a l left h0 h1 h2 h3 h4 with h | ⟨g1, g2, g3, g4, g5⟩
  · exact ⟨.inl h, .inl h⟩
  · exact ⟨.inr ⟨g3, g4⟩, .inr fun y hy => by have := g5 y hy; omega⟩
/-! laws_szBands: function 27 -/
def E_laws_szBands : Env := envOf [(110, S_laws_szFloat32S), (111, S_laws_szFloat32SS)]
def F_laws_szBands : List Value → AHeap → (Value → AHeap → Prop) → Prop
  | [.agg ⟨[.slice a_Coarse_a a_Coarse_n a_Coarse_e, .slice a_Details_a a_Details_n a_Details_e]⟩, .int .i64 left], H, K => T_laws_szBands a_Coarse_a a_Coarse_n a_Coarse_e a_Details_a a_Details_n a_Details_e left H fun (r1 : Int) (H' : AHeap) => K (.int .i64 r1) H'
  | _, _, _ => False
def S_laws_szBands : FSpec := { F := F_laws_szBands, quiet := false, tame := true }
theorem laws_szBands_vc (a_Coarse_a : Option Addr) (a_Coarse_n : Nat) (a_Coarse_e : Nat) (a_Details_a : Option Addr) (a_Details_n : Nat) (a_Details_e : Nat) (left : Int) (H : AHeap) (K : Value → AHeap → Prop) : bodyL Try.prog E_laws_szBands Try.f27 [.agg #[.slice a_Coarse_a a_Coarse_n a_Coarse_e, .slice a_Details_a a_Details_n a_Details_e], .int .i64 left] H K =
  (Al [.slice a_Coarse_a a_Coarse_n a_Coarse_e, .slice a_Details_a a_Details_n a_Details_e] H fun b1 H1 => ∃ x1_a : Option Addr, ∃ x1_n : Nat, ∃ x1_e : Nat,  rdC H1 b1 0 = some (.slice x1_a x1_n x1_e) ∧ T_laws_szFloat32S x1_a x1_n x1_e left H1 fun (r1 : Int) (H2 : AHeap) => Br (decide ((r1 : Int) < 0)) (K (.int .i64 (-1)) H2) (∃ x2_a : Option Addr, ∃ x2_n : Nat, ∃ x2_e : Nat,  rdC H2 b1 1 = some (.slice x2_a x2_n x2_e) ∧ T_laws_szFloat32SS x2_a x2_n x2_e r1 H2 fun (r2 : Int) (H3 : AHeap) => Br (decide ((r2 : Int) < 0)) (K (.int .i64 (-1)) H3) (K (.int .i64 r2) H3))) := by kernel_rfl
theorem E_laws_szBands_ok : ∀ g, FnOk Try.prog g (E_laws_szBands g) := FnOk.envOf (by
  intro x hx
  simp only [List.mem_cons, List.not_mem_nil, or_false] at hx
  rcases hx with rfl | rfl
  · exact laws_szFloat32S_ok
  · exact laws_szFloat32SS_ok)
theorem o2 {P : Prop} (h : P := by first | assumption | omega | (simp; omega)) : P := h
set_option maxHeartbeats 1000000 in
theorem laws_szBands_main (a_Coarse_a : Option Addr) (a_Coarse_n : Nat) (a_Coarse_e : Nat) (a_Details_a : Option Addr) (a_Details_n : Nat) (a_Details_e : Nat) (left : Int) (H : AHeap) (K : Value → AHeap → Prop) (h : T_laws_szBands a_Coarse_a a_Coarse_n a_Coarse_e a_Details_a a_Details_n a_Details_e left H fun (r1 : Int) (H' : AHeap) => K (.int .i64 r1) H') : bodyL Try.prog E_laws_szBands Try.f27 [.agg #[.slice a_Coarse_a a_Coarse_n a_Coarse_e, .slice a_Details_a a_Details_n a_Details_e], .int .i64 left] H K := by
  rw [laws_szBands_vc]
  obtain ⟨l_a_Coarse, l_a_Details, i_a_Coarse, i_a_Details, pr0, hk⟩ := h
  obtain rfl := i_a_Coarse.eqn
  obtain rfl := i_a_Details.eqn
  have e : (p_laws_szBands l_a_Coarse l_a_Details left) = _ := rfl
  have e := e.trans (p_laws_szBands_eq l_a_Coarse l_a_Details left)
  have g0 := Grow.refl H
  refine Al.intro (fun b_1 H_1 hb_2 hl_3 g_4 o_5 => ?_)
  have l_7 := g_4.1
  have g_8 := g0.trans g_4
  have l_9 := g_8.1
  have w_14 := o_5.lt
  refine ⟨a_Coarse_a, l_a_Coarse.length, a_Coarse_e, (o_5.rdC _).trans rfl, ?_⟩
  refine T_laws_szFloat32S_i ⟨_, (i_a_Coarse.grow g_8), ?_⟩
  have z_10 := laws_szFloat32S_f l_a_Coarse left
  refine Br.intro (fun c_11 => ?_) (fun c_11 => ?_)
  · have e := e.trans (cond_t c_11)
    have c_11' := of_decide_eq_true c_11
    rw [e] at hk
    exact hk  H_1 g_8 
  · have e := e.trans (cond_f c_11)
    have c_11' := of_decide_eq_false c_11
    refine ⟨a_Details_a, l_a_Details.length, a_Details_e, (o_5.rdC _).trans rfl, ?_⟩
    refine T_laws_szFloat32SS_i ⟨l_a_Details, (i_a_Details.grow g_8), o2, ?_⟩
    have z_12 := laws_szFloat32SS_f l_a_Details (p_laws_szFloat32S l_a_Coarse left)
    refine Br.intro (fun c_13 => ?_) (fun c_13 => ?_)
    · have e := e.trans (cond_t c_13)
      have c_13' := of_decide_eq_true c_13
      rw [e] at hk
      exact hk  H_1 g_8 
    · have e := e.trans (cond_f c_13)
      have c_13' := of_decide_eq_false c_13
      rw [e] at hk
      exact hk  H_1 g_8 
theorem laws_szBands_ok : FnOk Try.prog 27 S_laws_szBands := by
  refine FnOk.body mix_ok E_laws_szBands_ok Try.func27 rfl (by kernel_rfl) (by kernel_rfl) ?_ ?_ ?_ ?_ ?_
  · intro args H K K' h hk
    simp only [S_laws_szBands] at *
    unfold F_laws_szBands at *
    split at hk
    · obtain ⟨l_a_Coarse, l_a_Details, i_a_Coarse, i_a_Details, pr0, k⟩ := hk
      exact ⟨l_a_Coarse, l_a_Details, i_a_Coarse, i_a_Details, pr0, (fun  H' gg  => h _ _ (k  H' gg ))⟩
    · exact hk.elim
  · intro hq; cases hq
  · intro args H K hk
    simp only [S_laws_szBands] at *
    unfold F_laws_szBands at *
    split at hk
    · obtain ⟨l_a_Coarse, l_a_Details, i_a_Coarse, i_a_Details, pr0, k⟩ := hk
      exact ⟨_, _, k H (Grow.refl H)⟩
    · exact hk.elim
  · intro _ args H K hk
    simp only [S_laws_szBands] at *
    unfold F_laws_szBands at *
    split at hk
    · obtain ⟨l_a_Coarse, l_a_Details, i_a_Coarse, i_a_Details, pr0, k⟩ := hk
      exact ⟨l_a_Coarse, l_a_Details, i_a_Coarse, i_a_Details, pr0, (fun  H' gg  => ⟨gg, k  H' gg ⟩)⟩
    · exact hk.elim
  · have mm := @laws_szBands_main
    have ml := fun (args : List Value) (H : AHeap) (K : Value → AHeap → Prop) => bodyL_body (P := Try.prog) (env := E_laws_szBands ) (fn := Try.f27) (args := args) (H := H) (K := K) E_laws_szBands_ok 
    revert mm ml
    generalize bodyK Try.prog E_laws_szBands Try.f27 = Q
    generalize bodyL Try.prog E_laws_szBands Try.f27 = QL
    intro mm ml args H K hk
    simp only [S_laws_szBands] at *
    unfold F_laws_szBands at *
    split at hk
    · exact ml _ H K (mm _ _ _ _ _ _ _ H K hk)
    · exact hk.elim

def p_laws_toFloat32S_l1 (l_a : List Nat) : Nat → Int → (List Nat) → (List Nat)
  | 0, _, _ => []
  | μ + 1, i, y1_1 => (bif decide ((i : Int) < (l_a.length : Int)) then (p_laws_toFloat32S_l1 l_a μ (i + 1) (((y1_1).set (i : Int).toNat ((((l_a).getD (i : Int).toNat 0)))))) else y1_1)
def p_laws_toFloat32S_l1_s := fun l_a μ i y1_1 => @p_laws_toFloat32S_l1.eq_2 l_a i y1_1 μ
def p_laws_toFloat32S (l_a : List Nat) : (List Nat) := (p_laws_toFloat32S_l1 l_a (Int.toNat ((l_a.length : Int) - (0 : Int)) + 1) (0 : Int) (List.replicate (((l_a.length : Int)).toNat) 0))
def p_laws_toFloat32S_eq := @p_laws_toFloat32S.eq_1
def T_laws_toFloat32S (a_a : Option Addr) (a_n : Nat) (a_e : Nat) (H : AHeap) (K : (Option Addr) → Nat → Nat → AHeap → Prop) : Prop := ∃ (l_a : List Nat), IsL fF H a_a a_n l_a ∧ l_a.length < 1073741824 ∧ ((∀ (r1_a : Option Addr) (r1_n r1_e : Nat), ∀ H' : AHeap, Grow H H' → OwnS fF H' H.length r1_a r1_n r1_e l_a → K r1_a r1_n r1_e H'))
theorem T_laws_toFloat32S_i {a_a : Option Addr} {a_n : Nat} {a_e : Nat} {H : AHeap} {K : (Option Addr) → Nat → Nat → AHeap → Prop} (h : ∃ (l_a : List Nat), IsL fF H a_a a_n l_a ∧ l_a.length < 1073741824 ∧ ((∀ (r1_a : Option Addr) (r1_n r1_e : Nat), ∀ H' : AHeap, Grow H H' → OwnS fF H' H.length r1_a r1_n r1_e l_a → K r1_a r1_n r1_e H'))) : T_laws_toFloat32S a_a a_n a_e H K := h
theorem laws_toFloat32S_go (l : List Nat) : ∀ (μ : Nat) (i : Nat) (ys : List Nat), ys.length = l.length → i ≤ l.length → l.length - i < μ →
    p_laws_toFloat32S_l1 l μ (i : Int) (l.take i ++ ys.drop i) = l := by
  intro μ
  induction μ with
  | zero => intro i ys _ _ h; omega
  | succ μ ih =>
    intro i ys hy hi hm
    rw [p_laws_toFloat32S_l1_s]
    by_cases h : i < l.length
    · rw [decide_eq_true (show (i : Int) < (l.length : Int) by omega), cond_true]
      have hx : l[i]? = some (l.getD i 0) := by rw [List.getD_eq_getElem?_getD, List.getElem?_eq_getElem h]; rfl
      rw [Int.toNat_natCast, set_front l ys i o3 hy.symm _ hx]
      exact ih (i + 1) ys hy o3 o3
    · rw [decide_eq_false (show ¬ (i : Int) < (l.length : Int) by omega), cond_false]
      rw [List.take_of_length_le o3, List.drop_eq_nil_of_le o3, List.append_nil]
theorem laws_toFloat32S_id (l : List Nat) : p_laws_toFloat32S l = l := by
  rw [p_laws_toFloat32S_eq]
  have := laws_toFloat32S_go l (Int.toNat ((l.length : Int) - 0) + 1) 0 (List.replicate ((l.length : Int)).toNat 0) (by simp) o3 o3
  simpa using this
/-! laws_toFloat32S: function 22 -/
def E_laws_toFloat32S : Env := envOf []
def F_laws_toFloat32S : List Value → AHeap → (Value → AHeap → Prop) → Prop
  | [.slice a_a a_n a_e], H, K => T_laws_toFloat32S a_a a_n a_e H fun (r1_a : Option Addr) (r1_n : Nat) (r1_e : Nat) (H' : AHeap) => K (.slice r1_a r1_n r1_e) H'
  | _, _, _ => False
def S_laws_toFloat32S : FSpec := { F := F_laws_toFloat32S, quiet := false, tame := true }
theorem laws_toFloat32S_vc (a_a : Option Addr) (a_n : Nat) (a_e : Nat) (H : AHeap) (K : Value → AHeap → Prop) : bodyL Try.prog E_laws_toFloat32S Try.f22 [.slice a_a a_n a_e] H K =
  ((0 : Int) ≤ (a_n : Int) ∧ (a_n : Int) = (a_n : Int) ∧ (a_n : Int) < (most : Int) ∧ Al (zerosOf (.float .f32 0) ((a_n : Int)).toNat) H fun b1 H1 => loopK (exL Try.prog E_laws_toFloat32S (cl (cl (cr (cl (cr (cr (bodyC Try.f22))))))) 25 4 [(0, 8)]) [.slice a_a a_n a_e, ud, ud, .slice (some ⟨b1, 0, none⟩) (((a_n : Int)).toNat) 1, .int .i64 0, ud, ud, ud, ud, ud, ud, ud, ud, ud, ud, ud, ud, ud, ud, ud, ud, ud] H1 (blockQ 0 (seqQ (exL Try.prog E_laws_toFloat32S (cr (cr (cr (bodyC Try.f22)))) 4 4 []) (retK Try.prog Try.f22 K)))) := by kernel_rfl
abbrev laws_toFloat32S_P1 (a_a : Option Addr) (a_e : Nat) (a_n : Nat) (b1 : Nat) (i : Int)  : List Value := [.slice a_a a_n a_e, ud, ud, .slice (some ⟨b1, 0, none⟩) (((a_n : Int)).toNat) 1, .int .i64 i, ud, ud, ud, ud, ud, ud, ud, ud, ud, ud, ud, ud, ud, ud, ud, ud, ud]
theorem laws_toFloat32S_r1 (a_a : Option Addr) (a_e : Nat) (a_n : Nat) (b1 : Nat) (i : Int)  (H : AHeap) (R : Post) : exL Try.prog E_laws_toFloat32S (cl (cl (cr (cl (cr (cr (bodyC Try.f22))))))) 25 4 [(0, 8)] (laws_toFloat32S_P1 a_a a_e a_n b1 i) H R =
  (Br (decide ((i : Int) < (a_n : Int))) ((0 : Int) ≤ i ∧ i < (a_n : Int) ∧ ∃ b2 f1, (a_a : Option Addr) = some ⟨b2, f1, none⟩ ∧ ∃ x1 : Nat,  rdC H b2 (f1 + (i : Int).toNat * 1) = some (.float .f32 x1) ∧ (0 : Int) ≤ i ∧ i < (((a_n : Int)).toNat : Int) ∧ ∃ b3 f2, (some ⟨b1, 0, none⟩ : Option Addr) = some ⟨b3, f2, none⟩ ∧ isOwn H b3 ∧ (∃ l, rdN H b3 (f2 + (i : Int).toNat * 1) 1 = some l) ∧ Lt (setC H b3 (f2 + (i : Int).toNat * 1) (.float .f32 x1)) fun H2 => R .normal [.slice a_a a_n a_e, ud, ud, .slice (some ⟨b1, 0, none⟩) (((a_n : Int)).toNat) 1, .int .i64 (IntKind.wrap .i64 (i + 1)), ud, ud, ud, ud, ud, ud, ud, ud, ud, ud, ud, ud, ud, ud, ud, ud, ud] H2) (R (.exit 0) [ud, ud, ud, .slice (some ⟨b1, 0, none⟩) (((a_n : Int)).toNat) 1, ud, ud, ud, ud, ud, ud, ud, ud, ud, ud, ud, ud, ud, ud, ud, ud, ud, ud] H)) := by kernel_rfl
def laws_toFloat32S_I1 (a_a : Option Addr) (a_e : Nat) (a_n : Nat) (b1 : Nat) (Inv : Nat → Int → AHeap → Prop) : Nat → List Value → AHeap → Prop := fun μ tm H => ∃ (i : Int), tm = (laws_toFloat32S_P1 a_a a_e a_n b1 i) ∧ Inv μ i H
theorem laws_toFloat32S_L1 (a_a : Option Addr) (a_e : Nat) (a_n : Nat) (b1 : Nat) {Q : Post} (Inv : Nat → Int → AHeap → Prop) (ν : Nat) (i : Int)  (H : AHeap) (h0 : Inv ν i H)
    (hs : ∀ (μ : Nat) (i : Int)  (H : AHeap), Inv μ i H → exL Try.prog E_laws_toFloat32S (cl (cl (cr (cl (cr (cr (bodyC Try.f22))))))) 25 4 [(0, 8)] (laws_toFloat32S_P1 a_a a_e a_n b1 i) H (loopQ (laws_toFloat32S_I1 a_a a_e a_n b1 Inv) μ Q)) : loopK (exL Try.prog E_laws_toFloat32S (cl (cl (cr (cl (cr (cr (bodyC Try.f22))))))) 25 4 [(0, 8)]) (laws_toFloat32S_P1 a_a a_e a_n b1 i) H Q :=
  ⟨laws_toFloat32S_I1 a_a a_e a_n b1 Inv, ν, ⟨i, rfl, h0⟩, fun μ tm H h => by obtain ⟨i, rfl, hI⟩ := h; exact hs μ i  H hI⟩
theorem laws_toFloat32S_n1 {a_a : Option Addr} {a_e : Nat} {a_n : Nat} {b1 : Nat} {Q : Post} {Inv : Nat → Int → AHeap → Prop} {μ : Nat} (μ' : Nat) {i : Int}  {H : AHeap} (hm : μ' < μ) (hI : Inv μ' i H) : loopQ (laws_toFloat32S_I1 a_a a_e a_n b1 Inv) μ Q .normal (laws_toFloat32S_P1 a_a a_e a_n b1 i) H := ⟨μ', hm, i, rfl, hI⟩
theorem laws_toFloat32S_x1_0 (a_n : Nat) (b1 : Nat) (H : AHeap) (K : Value → AHeap → Prop)  {I : Nat → List Value → AHeap → Prop} {μ : Nat} : loopQ I μ (blockQ 0 (seqQ (exL Try.prog E_laws_toFloat32S (cr (cr (cr (bodyC Try.f22)))) 4 4 []) (retK Try.prog Try.f22 K))) (.exit 0) [ud, ud, ud, .slice (some ⟨b1, 0, none⟩) (((a_n : Int)).toNat) 1, ud, ud, ud, ud, ud, ud, ud, ud, ud, ud, ud, ud, ud, ud, ud, ud, ud, ud] H =
  (K (.slice (some ⟨b1, 0, none⟩) (((a_n : Int)).toNat) 1) H) := by kernel_rfl
theorem E_laws_toFloat32S_ok : ∀ g, FnOk Try.prog g (E_laws_toFloat32S g) := FnOk.envOf (by
  intro x hx; cases hx)
theorem o12 {P : Prop} (h : P := by have := most_eq; omega) : P := h
theorem o11 {P : Prop} (h : P := by first | rfl | assumption | omega | (simp; done)) : P := h
theorem o7 {P : Prop} (h : P := by first | assumption | omega | (simp only [List.length_set]; first | rfl | assumption | omega)) : P := h
set_option maxHeartbeats 1000000 in
theorem laws_toFloat32S_main (a_a : Option Addr) (a_n : Nat) (a_e : Nat) (H : AHeap) (K : Value → AHeap → Prop) (h : T_laws_toFloat32S a_a a_n a_e H fun (r1_a : Option Addr) (r1_n : Nat) (r1_e : Nat) (H' : AHeap) => K (.slice r1_a r1_n r1_e) H') : bodyL Try.prog E_laws_toFloat32S Try.f22 [.slice a_a a_n a_e] H K := by
  rw [laws_toFloat32S_vc]
  obtain ⟨l_a, i_a, bd_29, hk⟩ := h
  have hk : (∀ (r1_a : Option Addr) (r1_n r1_e : Nat), ∀ H' : AHeap, Grow H H' → OwnS fF H' H.length r1_a r1_n r1_e (p_laws_toFloat32S l_a) → (fun (r1_a : Option Addr) (r1_n : Nat) (r1_e : Nat) (H' : AHeap) => K (.slice r1_a r1_n r1_e) H') r1_a r1_n r1_e H') := by rw [laws_toFloat32S_id l_a]; exact hk
  obtain rfl := i_a.eqn
  have e : (p_laws_toFloat32S l_a) = _ := rfl
  have e := e.trans (p_laws_toFloat32S_eq l_a)
  have g0 := Grow.refl H
  refine ⟨by omega, rfl, o12, ?_⟩
  refine Al.intro (fun b_1 H_1 hb_2 hl_3 g_4 o_5 => ?_)
  rw [zeros_map fF 0 _ rfl] at o_5
  have l_7 := g_4.1
  have g_8 := g0.trans g_4
  have l_9 := g_8.1
  have w_28 := o_5.lt
  refine laws_toFloat32S_L1 _ _ _ _ (fun (μ : Nat) (i : Int) (H_2 : AHeap) => ∃ (y1_1 : List Nat), Own H_2 b_1 (y1_1.map fF) ∧ y1_1.length = ((l_a.length : Int)).toNat ∧ Grow H H_2 ∧ (0 : Int) ≤ i ∧ i ≤ (l_a.length : Int) ∧ (l_a.length : Int) - i ≤ (μ : Int) ∧ p_laws_toFloat32S l_a = p_laws_toFloat32S_l1 l_a (μ + 1) i y1_1) (Int.toNat ((l_a.length : Int) - (0 : Int))) _ H_1 ?_ ?_
  · exact ⟨_, o_5, o11, g_8, o5, o5, o3, e⟩
  · intro μ i  H_2 hI
    obtain ⟨y1_1, o_10, y_11, g_12, v_13, v_14, hμ, e⟩ := hI
    rw [laws_toFloat32S_r1]
    have e := e.trans (p_laws_toFloat32S_l1_s l_a μ i y1_1)
    have w_15 := o_10.lt
    have l_16 := g_12.1
    refine Br.intro (fun c_17 => ?_) (fun c_17 => ?_)
    · have e := e.trans (cond_t c_17)
      have c_17' := of_decide_eq_true c_17
      obtain ⟨b_18, f_19, q_20⟩ := ((i_a.grow g_12)).pos o0
      refine ⟨by omega, by omega, b_18, f_19, q_20, ?_⟩
      refine ⟨((l_a).getD (i : Int).toNat 0), (i_a).rd g_12 q_20 o3 _, ?_⟩
      refine ⟨by omega, o3, _, _, rfl, ?_⟩
      refine Lt.set o_10 (by simp only [List.length_map]; (first | omega | (simp only [List.length_set, List.length_replicate, List.length_append, List.length_cons, List.length_nil, List.length_take, List.length_drop, marks_length]; done) | (simp only [List.length_set, List.length_replicate, List.length_append, List.length_cons, List.length_nil, List.length_take, List.length_drop, marks_length]; omega))) (fun H_3 hl_21 o_23 k_22 => ?_)
      have o_23 := map_set o_23
      have l_24 := k_22.1
      have g_25 := g_12.keep (b := b_1) o3 k_22
      have l_26 := g_25.1
      have w_27 := o_23.lt
      rw [show IntKind.wrap .i64 (i + 1) = (i + 1) from wrap64 o3 o3]
      refine laws_toFloat32S_n1 (μ - 1) o10 ⟨_, o_23, o7, g_25, o1, o1, o10, (by rw [show μ - 1 + 1 = μ from by first | omega]; exact e)⟩
    · have e := e.trans (cond_f c_17)
      have c_17' := of_decide_eq_false c_17
      rw [laws_toFloat32S_x1_0]
      rw [e] at hk
      exact hk _ _ _ H_2 g_12 (o_10.ownS (by first | (simp only [List.length_replicate]; done) | omega | (simp; omega)) o3)
theorem laws_toFloat32S_ok : FnOk Try.prog 22 S_laws_toFloat32S := by
  refine FnOk.body mix_ok E_laws_toFloat32S_ok Try.func22 rfl (by kernel_rfl) (by kernel_rfl) ?_ ?_ ?_ ?_ ?_
  · intro args H K K' h hk
    simp only [S_laws_toFloat32S] at *
    unfold F_laws_toFloat32S at *
    split at hk
    · obtain ⟨l_a, i_a, bd_29, k⟩ := hk
      exact ⟨l_a, i_a, bd_29, (fun r1_a r1_n r1_e H' gg ow0 => h _ _ (k r1_a r1_n r1_e H' gg ow0))⟩
    · exact hk.elim
  · intro hq; cases hq
  · intro args H K hk
    simp only [S_laws_toFloat32S] at *
    unfold F_laws_toFloat32S at *
    split at hk
    · obtain ⟨l_a, i_a, bd_29, k⟩ := hk
      exact liveS fun a n e H1 g o => ⟨_, _, k a n e H1 g o⟩
    · exact hk.elim
  · intro _ args H K hk
    simp only [S_laws_toFloat32S] at *
    unfold F_laws_toFloat32S at *
    split at hk
    · obtain ⟨l_a, i_a, bd_29, k⟩ := hk
      exact ⟨l_a, i_a, bd_29, (fun r1_a r1_n r1_e H' gg ow0 => ⟨gg, k r1_a r1_n r1_e H' gg ow0⟩)⟩
    · exact hk.elim
  · have mm := @laws_toFloat32S_main
    have ml := fun (args : List Value) (H : AHeap) (K : Value → AHeap → Prop) => bodyL_body (P := Try.prog) (env := E_laws_toFloat32S ) (fn := Try.f22) (args := args) (H := H) (K := K) E_laws_toFloat32S_ok 
    revert mm ml
    generalize bodyK Try.prog E_laws_toFloat32S Try.f22 = Q
    generalize bodyL Try.prog E_laws_toFloat32S Try.f22 = QL
    intro mm ml args H K hk
    simp only [S_laws_toFloat32S] at *
    unfold F_laws_toFloat32S at *
    split at hk
    · exact ml _ H K (mm _ _ _ H K hk)
    · exact hk.elim

def p_laws_toFloat32SS_l1 (l_a : List (List Nat)) : Nat → Int → (List (List Nat)) → (List (List Nat))
  | 0, _, _ => []
  | μ + 1, i, y1_1 => (bif decide ((i : Int) < (l_a.length : Int)) then (p_laws_toFloat32SS_l1 l_a μ (i + 1) (((y1_1).set (i : Int).toNat (((((l_a).getD (i : Int).toNat []))))))) else y1_1)
def p_laws_toFloat32SS_l1_s := fun l_a μ i y1_1 => @p_laws_toFloat32SS_l1.eq_2 l_a i y1_1 μ
def p_laws_toFloat32SS (l_a : List (List Nat)) : (List (List Nat)) := (p_laws_toFloat32SS_l1 l_a (Int.toNat ((l_a.length : Int) - (0 : Int)) + 1) (0 : Int) (List.replicate (((l_a.length : Int)).toNat) []))
def p_laws_toFloat32SS_eq := @p_laws_toFloat32SS.eq_1
def T_laws_toFloat32SS (a_a : Option Addr) (a_n : Nat) (a_e : Nat) (H : AHeap) (K : (Option Addr) → Nat → Nat → AHeap → Prop) : Prop := ∃ (l_a : List (List Nat)), IsLL fF H a_a a_n l_a ∧ l_a.length < 1073741824 ∧ (∀ y ∈ l_a, y.length < 1073741824) ∧ ((∀ (r1_a : Option Addr) (r1_n r1_e : Nat), ∀ H' : AHeap, Grow H H' → OwnLL fF H' H.length H'.length r1_a r1_n r1_e l_a → K r1_a r1_n r1_e H'))
theorem T_laws_toFloat32SS_i {a_a : Option Addr} {a_n : Nat} {a_e : Nat} {H : AHeap} {K : (Option Addr) → Nat → Nat → AHeap → Prop} (h : ∃ (l_a : List (List Nat)), IsLL fF H a_a a_n l_a ∧ l_a.length < 1073741824 ∧ (∀ y ∈ l_a, y.length < 1073741824) ∧ ((∀ (r1_a : Option Addr) (r1_n r1_e : Nat), ∀ H' : AHeap, Grow H H' → OwnLL fF H' H.length H'.length r1_a r1_n r1_e l_a → K r1_a r1_n r1_e H'))) : T_laws_toFloat32SS a_a a_n a_e H K := h
theorem laws_toFloat32SS_go (l : List (List Nat)) : ∀ (μ : Nat) (i : Nat) (ys : List (List Nat)), ys.length = l.length → i ≤ l.length → l.length - i < μ →
    p_laws_toFloat32SS_l1 l μ (i : Int) (l.take i ++ ys.drop i) = l := by
  intro μ
  induction μ with
  | zero => intro i ys _ _ h; omega
  | succ μ ih =>
    intro i ys hy hi hm
    rw [p_laws_toFloat32SS_l1_s]
    by_cases h : i < l.length
    · rw [decide_eq_true (show (i : Int) < (l.length : Int) by omega), cond_true]
      have hx : l[i]? = some (l.getD i []) := by rw [List.getD_eq_getElem?_getD, List.getElem?_eq_getElem h]; rfl
      rw [Int.toNat_natCast, set_front l ys i o3 hy.symm _ hx]
      exact ih (i + 1) ys hy o3 o3
    · rw [decide_eq_false (show ¬ (i : Int) < (l.length : Int) by omega), cond_false]
      rw [List.take_of_length_le o3, List.drop_eq_nil_of_le o3, List.append_nil]
theorem laws_toFloat32SS_id (l : List (List Nat)) : p_laws_toFloat32SS l = l := by
  rw [p_laws_toFloat32SS_eq]
  have := laws_toFloat32SS_go l (Int.toNat ((l.length : Int) - 0) + 1) 0 (List.replicate ((l.length : Int)).toNat []) (by simp) o3 o3
  simpa using this
/-! laws_toFloat32SS: function 115 -/
def E_laws_toFloat32SS : Env := envOf [(22, S_laws_toFloat32S)]
def F_laws_toFloat32SS : List Value → AHeap → (Value → AHeap → Prop) → Prop
  | [.slice a_a a_n a_e], H, K => T_laws_toFloat32SS a_a a_n a_e H fun (r1_a : Option Addr) (r1_n : Nat) (r1_e : Nat) (H' : AHeap) => K (.slice r1_a r1_n r1_e) H'
  | _, _, _ => False
def S_laws_toFloat32SS : FSpec := { F := F_laws_toFloat32SS, quiet := false, tame := true }
theorem laws_toFloat32SS_vc (a_a : Option Addr) (a_n : Nat) (a_e : Nat) (H : AHeap) (K : Value → AHeap → Prop) : bodyL Try.prog E_laws_toFloat32SS Try.f115 [.slice a_a a_n a_e] H K =
  ((0 : Int) ≤ (a_n : Int) ∧ (a_n : Int) = (a_n : Int) ∧ (a_n : Int) < (most : Int) ∧ Al (zerosOf (.slice none 0 0) ((a_n : Int)).toNat) H fun b1 H1 => loopK (exL Try.prog E_laws_toFloat32SS (cl (cl (cr (cl (cr (cr (bodyC Try.f115))))))) 25 4 [(0, 8)]) [.slice a_a a_n a_e, ud, ud, .slice (some ⟨b1, 0, none⟩) (((a_n : Int)).toNat) 1, .int .i64 0, ud, ud, ud, ud, ud, ud, ud, ud, ud, ud, ud, ud, ud, ud, ud, ud, ud, ud] H1 (blockQ 0 (seqQ (exL Try.prog E_laws_toFloat32SS (cr (cr (cr (bodyC Try.f115)))) 4 4 []) (retK Try.prog Try.f115 K)))) := by kernel_rfl
abbrev laws_toFloat32SS_P1 (a_a : Option Addr) (a_e : Nat) (a_n : Nat) (b1 : Nat) (i : Int)  : List Value := [.slice a_a a_n a_e, ud, ud, .slice (some ⟨b1, 0, none⟩) (((a_n : Int)).toNat) 1, .int .i64 i, ud, ud, ud, ud, ud, ud, ud, ud, ud, ud, ud, ud, ud, ud, ud, ud, ud, ud]
theorem laws_toFloat32SS_r1 (a_a : Option Addr) (a_e : Nat) (a_n : Nat) (b1 : Nat) (i : Int)  (H : AHeap) (R : Post) : exL Try.prog E_laws_toFloat32SS (cl (cl (cr (cl (cr (cr (bodyC Try.f115))))))) 25 4 [(0, 8)] (laws_toFloat32SS_P1 a_a a_e a_n b1 i) H R =
  (Br (decide ((i : Int) < (a_n : Int))) ((0 : Int) ≤ i ∧ i < (a_n : Int) ∧ ∃ b2 f1, (a_a : Option Addr) = some ⟨b2, f1, none⟩ ∧ ∃ x1_a : Option Addr, ∃ x1_n : Nat, ∃ x1_e : Nat,  rdC H b2 (f1 + (i : Int).toNat * 1) = some (.slice x1_a x1_n x1_e) ∧ T_laws_toFloat32S x1_a x1_n x1_e H fun (a1 : Option Addr) (r1 : Nat) (r2 : Nat) (H2 : AHeap) => (0 : Int) ≤ i ∧ i < (((a_n : Int)).toNat : Int) ∧ ∃ b3 f2, (some ⟨b1, 0, none⟩ : Option Addr) = some ⟨b3, f2, none⟩ ∧ isOwn H2 b3 ∧ (∃ l, rdN H2 b3 (f2 + (i : Int).toNat * 1) 1 = some l) ∧ Lt (setC H2 b3 (f2 + (i : Int).toNat * 1) (.slice a1 r1 r2)) fun H3 => R .normal [.slice a_a a_n a_e, ud, ud, .slice (some ⟨b1, 0, none⟩) (((a_n : Int)).toNat) 1, .int .i64 (IntKind.wrap .i64 (i + 1)), ud, ud, ud, ud, ud, ud, ud, ud, ud, ud, ud, ud, ud, ud, ud, ud, ud, ud] H3) (R (.exit 0) [ud, ud, ud, .slice (some ⟨b1, 0, none⟩) (((a_n : Int)).toNat) 1, ud, ud, ud, ud, ud, ud, ud, ud, ud, ud, ud, ud, ud, ud, ud, ud, ud, ud, ud] H)) := by kernel_rfl
def laws_toFloat32SS_I1 (a_a : Option Addr) (a_e : Nat) (a_n : Nat) (b1 : Nat) (Inv : Nat → Int → AHeap → Prop) : Nat → List Value → AHeap → Prop := fun μ tm H => ∃ (i : Int), tm = (laws_toFloat32SS_P1 a_a a_e a_n b1 i) ∧ Inv μ i H
theorem laws_toFloat32SS_L1 (a_a : Option Addr) (a_e : Nat) (a_n : Nat) (b1 : Nat) {Q : Post} (Inv : Nat → Int → AHeap → Prop) (ν : Nat) (i : Int)  (H : AHeap) (h0 : Inv ν i H)
    (hs : ∀ (μ : Nat) (i : Int)  (H : AHeap), Inv μ i H → exL Try.prog E_laws_toFloat32SS (cl (cl (cr (cl (cr (cr (bodyC Try.f115))))))) 25 4 [(0, 8)] (laws_toFloat32SS_P1 a_a a_e a_n b1 i) H (loopQ (laws_toFloat32SS_I1 a_a a_e a_n b1 Inv) μ Q)) : loopK (exL Try.prog E_laws_toFloat32SS (cl (cl (cr (cl (cr (cr (bodyC Try.f115))))))) 25 4 [(0, 8)]) (laws_toFloat32SS_P1 a_a a_e a_n b1 i) H Q :=
  ⟨laws_toFloat32SS_I1 a_a a_e a_n b1 Inv, ν, ⟨i, rfl, h0⟩, fun μ tm H h => by obtain ⟨i, rfl, hI⟩ := h; exact hs μ i  H hI⟩
theorem laws_toFloat32SS_n1 {a_a : Option Addr} {a_e : Nat} {a_n : Nat} {b1 : Nat} {Q : Post} {Inv : Nat → Int → AHeap → Prop} {μ : Nat} (μ' : Nat) {i : Int}  {H : AHeap} (hm : μ' < μ) (hI : Inv μ' i H) : loopQ (laws_toFloat32SS_I1 a_a a_e a_n b1 Inv) μ Q .normal (laws_toFloat32SS_P1 a_a a_e a_n b1 i) H := ⟨μ', hm, i, rfl, hI⟩
theorem laws_toFloat32SS_x1_0 (a_n : Nat) (b1 : Nat) (H : AHeap) (K : Value → AHeap → Prop)  {I : Nat → List Value → AHeap → Prop} {μ : Nat} : loopQ I μ (blockQ 0 (seqQ (exL Try.prog E_laws_toFloat32SS (cr (cr (cr (bodyC Try.f115)))) 4 4 []) (retK Try.prog Try.f115 K))) (.exit 0) [ud, ud, ud, .slice (some ⟨b1, 0, none⟩) (((a_n : Int)).toNat) 1, ud, ud, ud, ud, ud, ud, ud, ud, ud, ud, ud, ud, ud, ud, ud, ud, ud, ud, ud] H =
  (K (.slice (some ⟨b1, 0, none⟩) (((a_n : Int)).toNat) 1) H) := by kernel_rfl
theorem E_laws_toFloat32SS_ok : ∀ g, FnOk Try.prog g (E_laws_toFloat32SS g) := FnOk.envOf (by
  intro x hx
  simp only [List.mem_cons, List.not_mem_nil, or_false] at hx
  subst hx; exact laws_toFloat32S_ok)
set_option maxHeartbeats 1000000 in
theorem laws_toFloat32SS_main (a_a : Option Addr) (a_n : Nat) (a_e : Nat) (H : AHeap) (K : Value → AHeap → Prop) (h : T_laws_toFloat32SS a_a a_n a_e H fun (r1_a : Option Addr) (r1_n : Nat) (r1_e : Nat) (H' : AHeap) => K (.slice r1_a r1_n r1_e) H') : bodyL Try.prog E_laws_toFloat32SS Try.f115 [.slice a_a a_n a_e] H K := by
  rw [laws_toFloat32SS_vc]
  obtain ⟨l_a, i_a, bd_51, bb_l_a, hk⟩ := h
  have hk : (∀ (r1_a : Option Addr) (r1_n r1_e : Nat), ∀ H' : AHeap, Grow H H' → OwnLL fF H' H.length H'.length r1_a r1_n r1_e (p_laws_toFloat32SS l_a) → (fun (r1_a : Option Addr) (r1_n : Nat) (r1_e : Nat) (H' : AHeap) => K (.slice r1_a r1_n r1_e) H') r1_a r1_n r1_e H') := by rw [laws_toFloat32SS_id l_a]; exact hk
  obtain rfl := i_a.eqn
  have e : (p_laws_toFloat32SS l_a) = _ := rfl
  have e := e.trans (p_laws_toFloat32SS_eq l_a)
  have g0 := Grow.refl H
  refine ⟨by omega, rfl, o12, ?_⟩
  refine Al.intro (fun b_1 H_1 hb_2 hl_3 g_4 o_5 => ?_)
  have o_5 := zeros_ll (f := fF) o_5 b_1 (Nat.le_refl _)
  have v_49 := o_5.rng
  have l_7 := g_4.1
  have g_8 := g0.trans g_4
  have l_9 := g_8.1
  have w_50 := o_5.lt
  refine laws_toFloat32SS_L1 _ _ _ _ (fun (μ : Nat) (i : Int) (H_2 : AHeap) => ∃ (y1_1 : List (List Nat)), OwnB fF H_2 b_1 H_2.length b_1 y1_1 ∧ y1_1.length = ((l_a.length : Int)).toNat ∧ Grow H H_2 ∧ (0 : Int) ≤ i ∧ i ≤ (l_a.length : Int) ∧ (l_a.length : Int) - i ≤ (μ : Int) ∧ p_laws_toFloat32SS l_a = p_laws_toFloat32SS_l1 l_a (μ + 1) i y1_1) (Int.toNat ((l_a.length : Int) - (0 : Int))) _ H_1 ?_ ?_
  · exact ⟨_, (o_5.weak (Nat.le_refl _) o3 (Nat.le_refl _)), o11, g_8, o5, o5, o3, e⟩
  · intro μ i  H_2 hI
    obtain ⟨y1_1, o_10, y_11, g_13, v_14, v_15, hμ, e⟩ := hI
    rw [laws_toFloat32SS_r1]
    have e := e.trans (p_laws_toFloat32SS_l1_s l_a μ i y1_1)
    have v_12 := o_10.rng
    have w_16 := o_10.lt
    have l_17 := g_13.1
    refine Br.intro (fun c_18 => ?_) (fun c_18 => ?_)
    · have e := e.trans (cond_t c_18)
      have c_18' := of_decide_eq_true c_18
      obtain ⟨b_19, f_20, q_21⟩ := ((i_a.grow g_13)).pos o0
      refine ⟨by omega, by omega, b_19, f_20, q_21, ?_⟩
      obtain ⟨a_22, n_23, e_24, r_25, i_26⟩ := (i_a).rd (i := (i : Int).toNat) g_13 q_21 o3
      obtain rfl := i_26.eqn
      refine ⟨a_22, _, e_24, r_25, ?_⟩
      have z_27 := getD_len bb_l_a (i : Int).toNat
      refine T_laws_toFloat32S_i ⟨_, (i_26.grow g_13), o0, fun a_28 n_29 e_30 H_3 g_32 r_31 => ?_⟩
      have l_33 := g_32.1
      have g_34 := g_13.trans g_32
      have l_35 := g_34.1
      have o_36 := o_10.grow g_32
      have w_37 := o_36.lt
      obtain rfl := r_31.isL.eqn
      have u_38 := r_31.up
      have u_39 := r_31.lo
      refine ⟨by omega, o3, _, _, rfl, ?_⟩
      refine Lt.setB o_36 o0 r_31 o3 (fun x hx => by have := u_38 x hx; have := u_39 x hx; omega) (fun H_4 hl_41 o_43 k_42 => ?_)
      have l_44 := k_42.1
      have g_45 := g_34.keep (b := b_1) o3 k_42
      have l_46 := g_45.1
      have w_47 := o_43.lt
      have v_48 := o_43.rng
      rw [show IntKind.wrap .i64 (i + 1) = (i + 1) from wrap64 o3 o3]
      refine laws_toFloat32SS_n1 (μ - 1) o10 ⟨_, (o_43.weak (Nat.le_refl _) o3 (Nat.le_refl _)), o7, g_45, o1, o1, o10, (by rw [show μ - 1 + 1 = μ from by first | omega]; exact e)⟩
    · have e := e.trans (cond_f c_18)
      have c_18' := of_decide_eq_false c_18
      rw [laws_toFloat32SS_x1_0]
      rw [e] at hk
      exact hk _ _ _ H_2 g_13 ((o_10.ownLL (by first | (simp only [List.length_replicate]; done) | omega | (simp; omega))).weak o3 o3 (Nat.le_refl _))
theorem laws_toFloat32SS_ok : FnOk Try.prog 115 S_laws_toFloat32SS := by
  refine FnOk.body mix_ok E_laws_toFloat32SS_ok Try.func115 rfl (by kernel_rfl) (by kernel_rfl) ?_ ?_ ?_ ?_ ?_
  · intro args H K K' h hk
    simp only [S_laws_toFloat32SS] at *
    unfold F_laws_toFloat32SS at *
    split at hk
    · obtain ⟨l_a, i_a, bd_51, bb_l_a, k⟩ := hk
      exact ⟨l_a, i_a, bd_51, bb_l_a, (fun r1_a r1_n r1_e H' gg ow0 => h _ _ (k r1_a r1_n r1_e H' gg ow0))⟩
    · exact hk.elim
  · intro hq; cases hq
  · intro args H K hk
    simp only [S_laws_toFloat32SS] at *
    unfold F_laws_toFloat32SS at *
    split at hk
    · obtain ⟨l_a, i_a, bd_51, bb_l_a, k⟩ := hk
      exact liveL fun a n e H1 g o => ⟨_, _, k a n e H1 g o⟩
    · exact hk.elim
  · intro _ args H K hk
    simp only [S_laws_toFloat32SS] at *
    unfold F_laws_toFloat32SS at *
    split at hk
    · obtain ⟨l_a, i_a, bd_51, bb_l_a, k⟩ := hk
      exact ⟨l_a, i_a, bd_51, bb_l_a, (fun r1_a r1_n r1_e H' gg ow0 => ⟨gg, k r1_a r1_n r1_e H' gg ow0⟩)⟩
    · exact hk.elim
  · have mm := @laws_toFloat32SS_main
    have ml := fun (args : List Value) (H : AHeap) (K : Value → AHeap → Prop) => bodyL_body (P := Try.prog) (env := E_laws_toFloat32SS ) (fn := Try.f115) (args := args) (H := H) (K := K) E_laws_toFloat32SS_ok 
    revert mm ml
    generalize bodyK Try.prog E_laws_toFloat32SS Try.f115 = Q
    generalize bodyL Try.prog E_laws_toFloat32SS Try.f115 = QL
    intro mm ml args H K hk
    simp only [S_laws_toFloat32SS] at *
    unfold F_laws_toFloat32SS at *
    split at hk
    · exact ml _ H K (mm _ _ _ H K hk)
    · exact hk.elim

def p_laws_toBands (l_a_Coarse : List Nat) (l_a_Details : List (List Nat)) : (List Nat) × (List (List Nat)) := (l_a_Coarse, l_a_Details)
def p_laws_toBands_eq := @p_laws_toBands.eq_1
def T_laws_toBands (a_Coarse_a : Option Addr) (a_Coarse_n : Nat) (a_Coarse_e : Nat) (a_Details_a : Option Addr) (a_Details_n : Nat) (a_Details_e : Nat) (H : AHeap) (K : (Option Addr) → Nat → Nat → (Option Addr) → Nat → Nat → AHeap → Prop) : Prop := ∃ (l_a_Coarse : List Nat), ∃ (l_a_Details : List (List Nat)), IsL fF H a_Coarse_a a_Coarse_n l_a_Coarse ∧ IsLL fF H a_Details_a a_Details_n l_a_Details ∧ l_a_Coarse.length < 1073741824 ∧ l_a_Details.length < 1073741824 ∧ (∀ y ∈ l_a_Details, y.length < 1073741824) ∧ ((∀ (r1_Coarse_a : Option Addr) (r1_Coarse_n r1_Coarse_e : Nat), ∀ (r1_Details_a : Option Addr) (r1_Details_n r1_Details_e : Nat), ∀ H' : AHeap, Grow H H' → OwnS fF H' H.length r1_Coarse_a r1_Coarse_n r1_Coarse_e l_a_Coarse → OwnLL fF H' H.length H'.length r1_Details_a r1_Details_n r1_Details_e l_a_Details → K r1_Coarse_a r1_Coarse_n r1_Coarse_e r1_Details_a r1_Details_n r1_Details_e H'))
theorem T_laws_toBands_i {a_Coarse_a : Option Addr} {a_Coarse_n : Nat} {a_Coarse_e : Nat} {a_Details_a : Option Addr} {a_Details_n : Nat} {a_Details_e : Nat} {H : AHeap} {K : (Option Addr) → Nat → Nat → (Option Addr) → Nat → Nat → AHeap → Prop} (h : ∃ (l_a_Coarse : List Nat), ∃ (l_a_Details : List (List Nat)), IsL fF H a_Coarse_a a_Coarse_n l_a_Coarse ∧ IsLL fF H a_Details_a a_Details_n l_a_Details ∧ l_a_Coarse.length < 1073741824 ∧ l_a_Details.length < 1073741824 ∧ (∀ y ∈ l_a_Details, y.length < 1073741824) ∧ ((∀ (r1_Coarse_a : Option Addr) (r1_Coarse_n r1_Coarse_e : Nat), ∀ (r1_Details_a : Option Addr) (r1_Details_n r1_Details_e : Nat), ∀ H' : AHeap, Grow H H' → OwnS fF H' H.length r1_Coarse_a r1_Coarse_n r1_Coarse_e l_a_Coarse → OwnLL fF H' H.length H'.length r1_Details_a r1_Details_n r1_Details_e l_a_Details → K r1_Coarse_a r1_Coarse_n r1_Coarse_e r1_Details_a r1_Details_n r1_Details_e H'))) : T_laws_toBands a_Coarse_a a_Coarse_n a_Coarse_e a_Details_a a_Details_n a_Details_e H K := h
theorem laws_toBands_id (a : List Nat) (l : List (List Nat)) : p_laws_toBands a l = (a, l) := rfl
/-! laws_toBands: function 29 -/
def E_laws_toBands : Env := envOf [(22, S_laws_toFloat32S), (115, S_laws_toFloat32SS)]
def F_laws_toBands : List Value → AHeap → (Value → AHeap → Prop) → Prop
  | [.agg ⟨[.slice a_Coarse_a a_Coarse_n a_Coarse_e, .slice a_Details_a a_Details_n a_Details_e]⟩], H, K => T_laws_toBands a_Coarse_a a_Coarse_n a_Coarse_e a_Details_a a_Details_n a_Details_e H fun (r1_Coarse_a : Option Addr) (r1_Coarse_n : Nat) (r1_Coarse_e : Nat) (r1_Details_a : Option Addr) (r1_Details_n : Nat) (r1_Details_e : Nat) (H' : AHeap) => K (.agg #[.slice r1_Coarse_a r1_Coarse_n r1_Coarse_e, .slice r1_Details_a r1_Details_n r1_Details_e]) H'
  | _, _, _ => False
def S_laws_toBands : FSpec := { F := F_laws_toBands, quiet := false, tame := true }
theorem laws_toBands_vc (a_Coarse_a : Option Addr) (a_Coarse_n : Nat) (a_Coarse_e : Nat) (a_Details_a : Option Addr) (a_Details_n : Nat) (a_Details_e : Nat) (H : AHeap) (K : Value → AHeap → Prop) : bodyL Try.prog E_laws_toBands Try.f29 [.agg #[.slice a_Coarse_a a_Coarse_n a_Coarse_e, .slice a_Details_a a_Details_n a_Details_e]] H K =
  (Al [.slice a_Coarse_a a_Coarse_n a_Coarse_e, .slice a_Details_a a_Details_n a_Details_e] H fun b1 H1 => Al [.slice none 0 0, .slice none 0 0] H1 fun b2 H2 => Al [.slice none 0 0, .slice none 0 0] H2 fun b3 H3 => ∃ x1_a : Option Addr, ∃ x1_n : Nat, ∃ x1_e : Nat,  rdC H3 b1 0 = some (.slice x1_a x1_n x1_e) ∧ T_laws_toFloat32S x1_a x1_n x1_e H3 fun (a1 : Option Addr) (r1 : Nat) (r2 : Nat) (H4 : AHeap) => isOwn H4 b3 ∧ (∃ l, rdN H4 b3 0 1 = some l) ∧ Lt (setC H4 b3 0 (.slice a1 r1 r2)) fun H5 => ∃ x2_a : Option Addr, ∃ x2_n : Nat, ∃ x2_e : Nat,  rdC H5 b1 1 = some (.slice x2_a x2_n x2_e) ∧ T_laws_toFloat32SS x2_a x2_n x2_e H5 fun (a2 : Option Addr) (r3 : Nat) (r4 : Nat) (H6 : AHeap) => isOwn H6 b3 ∧ (∃ l, rdN H6 b3 1 1 = some l) ∧ Lt (setC H6 b3 1 (.slice a2 r3 r4)) fun H7 => ∃ c1_a : Option Addr, ∃ c1_n : Nat, ∃ c1_e : Nat, ∃ c2_a : Option Addr, ∃ c2_n : Nat, ∃ c2_e : Nat,  rdN H7 b3 0 2 = some [.slice c1_a c1_n c1_e, .slice c2_a c2_n c2_e] ∧ isOwn H7 b2 ∧ (∃ l, rdN H7 b2 0 2 = some l) ∧ Lt (setN H7 b2 0 [.slice c1_a c1_n c1_e, .slice c2_a c2_n c2_e]) fun H8 => ∃ c3_a : Option Addr, ∃ c3_n : Nat, ∃ c3_e : Nat, ∃ c4_a : Option Addr, ∃ c4_n : Nat, ∃ c4_e : Nat,  rdN H8 b2 0 2 = some [.slice c3_a c3_n c3_e, .slice c4_a c4_n c4_e] ∧ K (.agg #[.slice c3_a c3_n c3_e, .slice c4_a c4_n c4_e]) H8) := by kernel_rfl
theorem E_laws_toBands_ok : ∀ g, FnOk Try.prog g (E_laws_toBands g) := FnOk.envOf (by
  intro x hx
  simp only [List.mem_cons, List.not_mem_nil, or_false] at hx
  rcases hx with rfl | rfl
  · exact laws_toFloat32S_ok
  · exact laws_toFloat32SS_ok)
set_option maxHeartbeats 1000000 in
theorem laws_toBands_main (a_Coarse_a : Option Addr) (a_Coarse_n : Nat) (a_Coarse_e : Nat) (a_Details_a : Option Addr) (a_Details_n : Nat) (a_Details_e : Nat) (H : AHeap) (K : Value → AHeap → Prop) (h : T_laws_toBands a_Coarse_a a_Coarse_n a_Coarse_e a_Details_a a_Details_n a_Details_e H fun (r1_Coarse_a : Option Addr) (r1_Coarse_n : Nat) (r1_Coarse_e : Nat) (r1_Details_a : Option Addr) (r1_Details_n : Nat) (r1_Details_e : Nat) (H' : AHeap) => K (.agg #[.slice r1_Coarse_a r1_Coarse_n r1_Coarse_e, .slice r1_Details_a r1_Details_n r1_Details_e]) H') : bodyL Try.prog E_laws_toBands Try.f29 [.agg #[.slice a_Coarse_a a_Coarse_n a_Coarse_e, .slice a_Details_a a_Details_n a_Details_e]] H K := by
  rw [laws_toBands_vc]
  obtain ⟨l_a_Coarse, l_a_Details, i_a_Coarse, i_a_Details, bd_110, bd_111, bb_l_a_Details, hk⟩ := h
  have hk : (∀ (r1_Coarse_a : Option Addr) (r1_Coarse_n r1_Coarse_e : Nat), ∀ (r1_Details_a : Option Addr) (r1_Details_n r1_Details_e : Nat), ∀ H' : AHeap, Grow H H' → OwnS fF H' H.length r1_Coarse_a r1_Coarse_n r1_Coarse_e ((p_laws_toBands l_a_Coarse l_a_Details).1) → OwnLL fF H' H.length H'.length r1_Details_a r1_Details_n r1_Details_e ((p_laws_toBands l_a_Coarse l_a_Details).2) → (fun (r1_Coarse_a : Option Addr) (r1_Coarse_n : Nat) (r1_Coarse_e : Nat) (r1_Details_a : Option Addr) (r1_Details_n : Nat) (r1_Details_e : Nat) (H' : AHeap) => K (.agg #[.slice r1_Coarse_a r1_Coarse_n r1_Coarse_e, .slice r1_Details_a r1_Details_n r1_Details_e]) H') r1_Coarse_a r1_Coarse_n r1_Coarse_e r1_Details_a r1_Details_n r1_Details_e H') := by rw [laws_toBands_id l_a_Coarse l_a_Details]; exact hk
  obtain rfl := i_a_Coarse.eqn
  obtain rfl := i_a_Details.eqn
  have e : (p_laws_toBands l_a_Coarse l_a_Details) = _ := rfl
  have e := e.trans (p_laws_toBands_eq l_a_Coarse l_a_Details)
  have g0 := Grow.refl H
  refine Al.intro (fun b_1 H_1 hb_2 hl_3 g_4 o_5 => ?_)
  have l_7 := g_4.1
  have g_8 := g0.trans g_4
  have l_9 := g_8.1
  have w_109 := o_5.lt
  refine Al.intro (fun b_10 H_2 hb_11 hl_12 g_13 o_14 => ?_)
  have l_16 := g_13.1
  have g_17 := g_8.trans g_13
  have l_18 := g_17.1
  have o_19 := o_5.grow g_13
  have w_20 := o_19.lt
  have w_108 := o_14.lt
  refine Al.intro (fun b_21 H_3 hb_22 hl_23 g_24 o_25 => ?_)
  have l_27 := g_24.1
  have g_28 := g_17.trans g_24
  have l_29 := g_28.1
  have o_30 := o_19.grow g_24
  have w_31 := o_30.lt
  have o_32 := o_14.grow g_24
  have w_33 := o_32.lt
  have w_107 := o_25.lt
  refine ⟨a_Coarse_a, l_a_Coarse.length, a_Coarse_e, (o_30.rdC _).trans rfl, ?_⟩
  refine T_laws_toFloat32S_i ⟨_, (i_a_Coarse.grow g_28), o0, fun a_34 n_35 e_36 H_4 g_38 r_37 => ?_⟩
  have l_39 := g_38.1
  have g_40 := g_28.trans g_38
  have l_41 := g_40.1
  have o_42 := o_30.grow g_38
  have w_43 := o_42.lt
  have o_44 := o_32.grow g_38
  have w_45 := o_44.lt
  have o_46 := o_25.grow g_38
  have w_47 := o_46.lt
  obtain rfl := r_37.isL.eqn
  have u_48 := r_37.up
  have u_49 := r_37.lo
  refine Lt.set o_46 (Nat.le_of_ble_eq_true rfl) (fun H_5 hl_51 o_53 k_52 => ?_)
  have o_53 : Own H_5 b_21 [.slice a_34 ((l_a_Coarse).length) e_36, .slice none 0 0] := o_53
  have l_54 := k_52.1
  have g_55 := g_40.keep (b := b_21) o3 k_52
  have l_56 := g_55.1
  have o_57 := o_42.keep o3 k_52
  have w_58 := o_57.lt
  have o_59 := o_44.keep o3 k_52
  have w_60 := o_59.lt
  have r_61 := r_37.keep u_48 o3 k_52
  have w_106 := o_53.lt
  refine ⟨a_Details_a, l_a_Details.length, a_Details_e, (o_57.rdC _).trans rfl, ?_⟩
  refine T_laws_toFloat32SS_i ⟨l_a_Details, (i_a_Details.grow g_55), o0, (by first | assumption | exact or_right (by assumption) (by omega) | exact or_right (by assumption : _ ∧ (_ ∨ _)).2 (by omega) | (intro y hy; simp only [List.mem_cons, List.not_mem_nil, or_false] at hy; first | omega | (subst hy; omega) | (rcases hy with rfl | rfl <;> omega) | (rcases hy with rfl | rfl | rfl <;> omega))), fun a_62 n_63 e_64 H_6 g_66 r_65 => ?_⟩
  have l_67 := g_66.1
  have g_68 := g_55.trans g_66
  have l_69 := g_68.1
  have o_70 := o_57.grow g_66
  have w_71 := o_70.lt
  have o_72 := o_59.grow g_66
  have w_73 := o_72.lt
  have o_74 := o_53.grow g_66
  have w_75 := o_74.lt
  have r_76 := r_61.grow g_66
  obtain rfl := r_65.isL.eqn
  have u_77 := r_65.up
  have u_78 := r_65.lo
  refine Lt.set o_74 (Nat.le_of_ble_eq_true rfl) (fun H_7 hl_80 o_82 k_81 => ?_)
  have o_82 : Own H_7 b_21 [.slice a_34 ((l_a_Coarse).length) e_36, .slice a_62 ((l_a_Details).length) e_64] := o_82
  have l_83 := k_81.1
  have g_84 := g_68.keep (b := b_21) o3 k_81
  have l_85 := g_84.1
  have o_86 := o_70.keep o3 k_81
  have w_87 := o_86.lt
  have o_88 := o_72.keep o3 k_81
  have w_89 := o_88.lt
  have r_90 := r_76.keep u_48 o3 k_81
  have r_91 := r_65.keep o3 k_81
  have w_105 := o_82.lt
  refine ⟨a_34, (l_a_Coarse).length, e_36, a_62, (l_a_Details).length, e_64, (o_82.rdN (Nat.le_of_ble_eq_true rfl)).trans rfl, ?_⟩
  refine Lt.setN (n := 2) o_88 (Nat.le_of_ble_eq_true rfl) rfl (fun H_8 hl_92 o_94 k_93 => ?_)
  have o_94 : Own H_8 b_10 [.slice a_34 ((l_a_Coarse).length) e_36, .slice a_62 ((l_a_Details).length) e_64] := o_94
  have l_95 := k_93.1
  have g_96 := g_84.keep (b := b_10) o3 k_93
  have l_97 := g_96.1
  have o_98 := o_86.keep o3 k_93
  have w_99 := o_98.lt
  have o_100 := o_82.keep o3 k_93
  have w_101 := o_100.lt
  have r_102 := r_90.keep u_48 o3 k_93
  have r_103 := r_91.keep o3 k_93
  have w_104 := o_94.lt
  refine ⟨a_34, (l_a_Coarse).length, e_36, a_62, (l_a_Details).length, e_64, (o_94.rdN (Nat.le_of_ble_eq_true rfl)).trans rfl, ?_⟩
  rw [e] at hk
  exact hk _ _ _ _ _ _ H_8 g_96 (r_102.weak o3) (r_103.weak o3 o3 (Nat.le_refl _))
theorem laws_toBands_ok : FnOk Try.prog 29 S_laws_toBands := by
  refine FnOk.body mix_ok E_laws_toBands_ok Try.func29 rfl (by kernel_rfl) (by kernel_rfl) ?_ ?_ ?_ ?_ ?_
  · intro args H K K' h hk
    simp only [S_laws_toBands] at *
    unfold F_laws_toBands at *
    split at hk
    · obtain ⟨l_a_Coarse, l_a_Details, i_a_Coarse, i_a_Details, bd_110, bd_111, bb_l_a_Details, k⟩ := hk
      exact ⟨l_a_Coarse, l_a_Details, i_a_Coarse, i_a_Details, bd_110, bd_111, bb_l_a_Details, (fun r1_Coarse_a r1_Coarse_n r1_Coarse_e r1_Details_a r1_Details_n r1_Details_e H' gg ow0 ow1 => h _ _ (k r1_Coarse_a r1_Coarse_n r1_Coarse_e r1_Details_a r1_Details_n r1_Details_e H' gg ow0 ow1))⟩
    · exact hk.elim
  · intro hq; cases hq
  · intro args H K hk
    simp only [S_laws_toBands] at *
    unfold F_laws_toBands at *
    split at hk
    · obtain ⟨l_a_Coarse, l_a_Details, i_a_Coarse, i_a_Details, bd_110, bd_111, bb_l_a_Details, k⟩ := hk
      exact liveSL fun a n e a2 n2 e2 H1 g o o2 => ⟨_, _, k a n e a2 n2 e2 H1 g o o2⟩
    · exact hk.elim
  · intro _ args H K hk
    simp only [S_laws_toBands] at *
    unfold F_laws_toBands at *
    split at hk
    · obtain ⟨l_a_Coarse, l_a_Details, i_a_Coarse, i_a_Details, bd_110, bd_111, bb_l_a_Details, k⟩ := hk
      exact ⟨l_a_Coarse, l_a_Details, i_a_Coarse, i_a_Details, bd_110, bd_111, bb_l_a_Details, (fun r1_Coarse_a r1_Coarse_n r1_Coarse_e r1_Details_a r1_Details_n r1_Details_e H' gg ow0 ow1 => ⟨gg, k r1_Coarse_a r1_Coarse_n r1_Coarse_e r1_Details_a r1_Details_n r1_Details_e H' gg ow0 ow1⟩)⟩
    · exact hk.elim
  · have mm := @laws_toBands_main
    have ml := fun (args : List Value) (H : AHeap) (K : Value → AHeap → Prop) => bodyL_body (P := Try.prog) (env := E_laws_toBands ) (fn := Try.f29) (args := args) (H := H) (K := K) E_laws_toBands_ok 
    revert mm ml
    generalize bodyK Try.prog E_laws_toBands Try.f29 = Q
    generalize bodyL Try.prog E_laws_toBands Try.f29 = QL
    intro mm ml args H K hk
    simp only [S_laws_toBands] at *
    unfold F_laws_toBands at *
    split at hk
    · exact ml _ H K (mm _ _ _ _ _ _ H K hk)
    · exact hk.elim
def p_spec_l01Finite (x : Nat) : Bool := feq .f32 (fsub .f32 x x) 0
def T_spec_l01Finite (x : Nat) (H : AHeap) (K : Bool → AHeap → Prop) : Prop := K (p_spec_l01Finite x) H

theorem T_spec_l01Finite_i {x : Nat} {H : AHeap} {K : Bool → AHeap → Prop} (h : K (p_spec_l01Finite x) H) : T_spec_l01Finite x H K := h
/-! spec_l01Finite: function 155 -/
def E_spec_l01Finite : Env := envOf []
def F_spec_l01Finite : List Value → AHeap → (Value → AHeap → Prop) → Prop
  | [.float .f32 x], H, K => T_spec_l01Finite x H fun (r1 : Bool) (H' : AHeap) => K (.bool r1) H'
  | _, _, _ => False
def S_spec_l01Finite : FSpec := { F := F_spec_l01Finite, quiet := true, tame := false }
theorem spec_l01Finite_vc (x : Nat) (H : AHeap) (K : Value → AHeap → Prop) : bodyL Try.prog E_spec_l01Finite Try.f155 [.float .f32 x] H K =
  (K (.bool (feq .f32 (fsub .f32 x x) 0)) H) := by kernel_rfl
theorem E_spec_l01Finite_ok : ∀ g, FnOk Try.prog g (E_spec_l01Finite g) := FnOk.envOf (by
  intro x hx; cases hx)
set_option maxHeartbeats 1000000 in
theorem spec_l01Finite_main (x : Nat) (H : AHeap) (K : Value → AHeap → Prop) (h : T_spec_l01Finite x H fun (r1 : Bool) (H' : AHeap) => K (.bool r1) H') : bodyL Try.prog E_spec_l01Finite Try.f155 [.float .f32 x] H K := by
  rw [spec_l01Finite_vc]
  unfold T_spec_l01Finite p_spec_l01Finite at h
  repeat' (first | exact h | (exfalso; simp_all; done) | (refine ⟨by decide, ?_⟩) | (refine Br.intro (fun hb => ?_) (fun hb => ?_) <;> (try simp only [hb, cond_true, cond_false, Bool.not_true, Bool.not_false] at h)))
theorem spec_l01Finite_ok : FnOk Try.prog 155 S_spec_l01Finite := by
  refine FnOk.body mix_ok E_spec_l01Finite_ok Try.func155 rfl (by kernel_rfl) (by kernel_rfl) ?_ ?_ ?_ ?_ ?_
  · intro args H K K' h hk
    simp only [S_spec_l01Finite] at *
    unfold F_spec_l01Finite at *
    split at hk
    · have k := hk
      exact h _ _ k
    · exact hk.elim
  · intro _ args H K hk
    simp only [S_spec_l01Finite] at *
    unfold F_spec_l01Finite at *
    split at hk
    · have k := hk
      exact ⟨_, k, fun K' k' => k'⟩
    · exact hk.elim
  · intro args H K hk
    simp only [S_spec_l01Finite] at *
    unfold F_spec_l01Finite at *
    split at hk
    · have k := hk
      exact ⟨_, _, k⟩
    · exact hk.elim
  · intro hq; cases hq
  · have mm := @spec_l01Finite_main
    have ml := fun (args : List Value) (H : AHeap) (K : Value → AHeap → Prop) => bodyL_body (P := Try.prog) (env := E_spec_l01Finite ) (fn := Try.f155) (args := args) (H := H) (K := K) E_spec_l01Finite_ok 
    revert mm ml
    generalize bodyK Try.prog E_spec_l01Finite Try.f155 = Q
    generalize bodyL Try.prog E_spec_l01Finite Try.f155 = QL
    intro mm ml args H K hk
    simp only [S_spec_l01Finite] at *
    unfold F_spec_l01Finite at *
    split at hk
    · exact ml _ H K (mm _ H K hk)
    · exact hk.elim

def p_spec_l02Finite_l1 (l_list : List Nat) : Nat → Bool → Int → Bool
  | 0, _, _ => false
  | μ + 1, t2, i => (bif decide ((i : Int) < (l_list.length : Int)) then (bif !((p_spec_l01Finite (((l_list).getD (i : Int).toNat 0)))) then false else (p_spec_l02Finite_l1 l_list μ t2 (i + 1))) else true)
def p_spec_l02Finite_l1_s := fun l_list μ t2 i => @p_spec_l02Finite_l1.eq_2 l_list t2 i μ
def p_spec_l02Finite (l_list : List Nat) : Bool := (p_spec_l02Finite_l1 l_list (Int.toNat ((l_list.length : Int) - (0 : Int)) + 1) false (0 : Int))
def p_spec_l02Finite_eq := @p_spec_l02Finite.eq_1
def T_spec_l02Finite (list_a : Option Addr) (list_n : Nat) (list_e : Nat) (H : AHeap) (K : Bool → AHeap → Prop) : Prop := ∃ (l_list : List Nat), IsL fF H list_a list_n l_list ∧ l_list.length < 1073741824 ∧ K (p_spec_l02Finite l_list) H
theorem T_spec_l02Finite_i {list_a : Option Addr} {list_n : Nat} {list_e : Nat} {H : AHeap} {K : Bool → AHeap → Prop} (h : ∃ (l_list : List Nat), IsL fF H list_a list_n l_list ∧ l_list.length < 1073741824 ∧ K (p_spec_l02Finite l_list) H) : T_spec_l02Finite list_a list_n list_e H K := h

/-! spec_l02Finite: function 104 -/
def E_spec_l02Finite : Env := envOf [(155, S_spec_l01Finite)]
def F_spec_l02Finite : List Value → AHeap → (Value → AHeap → Prop) → Prop
  | [.slice list_a list_n list_e], H, K => T_spec_l02Finite list_a list_n list_e H fun (r1 : Bool) (H' : AHeap) => K (.bool r1) H'
  | _, _, _ => False
def S_spec_l02Finite : FSpec := { F := F_spec_l02Finite, quiet := true, tame := false }
theorem spec_l02Finite_vc (list_a : Option Addr) (list_n : Nat) (list_e : Nat) (H : AHeap) (K : Value → AHeap → Prop) : bodyL Try.prog E_spec_l02Finite Try.f104 [.slice list_a list_n list_e] H K =
  (loopK (exL Try.prog E_spec_l02Finite (cl (cl (cr (cl (cr (bodyC Try.f104)))))) 9 4 [(0, 0)]) [.slice list_a list_n list_e, ud, ud, .int .i64 0, ud, ud, ud, ud, ud, ud, ud, ud, ud, ud, ud, ud] H (blockQ 0 (seqQ (exL Try.prog E_spec_l02Finite (cr (cr (bodyC Try.f104))) 4 4 []) (retK Try.prog Try.f104 K)))) := by kernel_rfl
abbrev spec_l02Finite_P1 (list_a : Option Addr) (list_e : Nat) (list_n : Nat) (i : Int)  : List Value := [.slice list_a list_n list_e, ud, ud, .int .i64 i, ud, ud, ud, ud, ud, ud, ud, ud, ud, ud, ud, ud]
theorem spec_l02Finite_r1 (list_a : Option Addr) (list_e : Nat) (list_n : Nat) (i : Int)  (H : AHeap) (R : Post) : exL Try.prog E_spec_l02Finite (cl (cl (cr (cl (cr (bodyC Try.f104)))))) 9 4 [(0, 0)] (spec_l02Finite_P1 list_a list_e list_n i) H R =
  (Br (decide ((i : Int) < (list_n : Int))) ((0 : Int) ≤ i ∧ i < (list_n : Int) ∧ ∃ b1 f1, (list_a : Option Addr) = some ⟨b1, f1, none⟩ ∧ ∃ x1 : Nat,  rdC H b1 (f1 + (i : Int).toNat * 1) = some (.float .f32 x1) ∧ T_spec_l01Finite x1 H fun (r1 : Bool) (H1 : AHeap) => Br (!r1) (R .ret [ud, ud, .bool false, ud, ud, ud, ud, ud, ud, ud, ud, ud, ud, ud, ud, ud] H1) (R .normal [.slice list_a list_n list_e, ud, ud, .int .i64 (IntKind.wrap .i64 (i + 1)), ud, ud, ud, ud, ud, ud, ud, ud, ud, ud, ud, ud] H1)) (R (.exit 0) [ud, ud, ud, ud, ud, ud, ud, ud, ud, ud, ud, ud, ud, ud, ud, ud] H)) := by kernel_rfl
def spec_l02Finite_I1 (list_a : Option Addr) (list_e : Nat) (list_n : Nat) (Inv : Nat → Int → AHeap → Prop) : Nat → List Value → AHeap → Prop := fun μ tm H => ∃ (i : Int), tm = (spec_l02Finite_P1 list_a list_e list_n i) ∧ Inv μ i H
theorem spec_l02Finite_L1 (list_a : Option Addr) (list_e : Nat) (list_n : Nat) {Q : Post} (Inv : Nat → Int → AHeap → Prop) (ν : Nat) (i : Int)  (H : AHeap) (h0 : Inv ν i H)
    (hs : ∀ (μ : Nat) (i : Int)  (H : AHeap), Inv μ i H → exL Try.prog E_spec_l02Finite (cl (cl (cr (cl (cr (bodyC Try.f104)))))) 9 4 [(0, 0)] (spec_l02Finite_P1 list_a list_e list_n i) H (loopQ (spec_l02Finite_I1 list_a list_e list_n Inv) μ Q)) : loopK (exL Try.prog E_spec_l02Finite (cl (cl (cr (cl (cr (bodyC Try.f104)))))) 9 4 [(0, 0)]) (spec_l02Finite_P1 list_a list_e list_n i) H Q :=
  ⟨spec_l02Finite_I1 list_a list_e list_n Inv, ν, ⟨i, rfl, h0⟩, fun μ tm H h => by obtain ⟨i, rfl, hI⟩ := h; exact hs μ i  H hI⟩
theorem spec_l02Finite_n1 {list_a : Option Addr} {list_e : Nat} {list_n : Nat} {Q : Post} {Inv : Nat → Int → AHeap → Prop} {μ : Nat} (μ' : Nat) {i : Int}  {H : AHeap} (hm : μ' < μ) (hI : Inv μ' i H) : loopQ (spec_l02Finite_I1 list_a list_e list_n Inv) μ Q .normal (spec_l02Finite_P1 list_a list_e list_n i) H := ⟨μ', hm, i, rfl, hI⟩
theorem spec_l02Finite_x1_0  (H : AHeap) (K : Value → AHeap → Prop)  {I : Nat → List Value → AHeap → Prop} {μ : Nat} : loopQ I μ (blockQ 0 (seqQ (exL Try.prog E_spec_l02Finite (cr (cr (bodyC Try.f104))) 4 4 []) (retK Try.prog Try.f104 K))) (.exit 0) [ud, ud, ud, ud, ud, ud, ud, ud, ud, ud, ud, ud, ud, ud, ud, ud] H =
  (K (.bool true) H) := by kernel_rfl
theorem spec_l02Finite_x1_ret (t2 : Bool) (H : AHeap) (K : Value → AHeap → Prop)  {I : Nat → List Value → AHeap → Prop} {μ : Nat} : loopQ I μ (blockQ 0 (seqQ (exL Try.prog E_spec_l02Finite (cr (cr (bodyC Try.f104))) 4 4 []) (retK Try.prog Try.f104 K))) .ret [ud, ud, .bool t2, ud, ud, ud, ud, ud, ud, ud, ud, ud, ud, ud, ud, ud] H =
  (K (.bool t2) H) := by kernel_rfl
theorem E_spec_l02Finite_ok : ∀ g, FnOk Try.prog g (E_spec_l02Finite g) := FnOk.envOf (by
  intro x hx
  simp only [List.mem_cons, List.not_mem_nil, or_false] at hx
  subst hx; exact spec_l01Finite_ok)
set_option maxHeartbeats 1000000 in
theorem spec_l02Finite_main (list_a : Option Addr) (list_n : Nat) (list_e : Nat) (H : AHeap) (K : Value → AHeap → Prop) (h : T_spec_l02Finite list_a list_n list_e H fun (r1 : Bool) (H' : AHeap) => K (.bool r1) H') : bodyL Try.prog E_spec_l02Finite Try.f104 [.slice list_a list_n list_e] H K := by
  rw [spec_l02Finite_vc]
  obtain ⟨l_list, i_list, bd_9, hk⟩ := h
  obtain rfl := i_list.eqn
  have e : (p_spec_l02Finite l_list) = _ := rfl
  have e := e.trans (p_spec_l02Finite_eq l_list)
  have g0 := Grow.refl H
  refine spec_l02Finite_L1 _ _ _ (fun (μ : Nat) (i : Int) (H_1 : AHeap) => ∃ (t2 : Bool), H = H_1 ∧ (0 : Int) ≤ i ∧ i ≤ (l_list.length : Int) ∧ (l_list.length : Int) - i ≤ (μ : Int) ∧ p_spec_l02Finite l_list = p_spec_l02Finite_l1 l_list (μ + 1) t2 i) (Int.toNat ((l_list.length : Int) - (0 : Int))) _ H ?_ ?_
  · exact ⟨_, rfl, o5, o5, o3, e⟩
  · intro μ i  H_1 hI
    obtain ⟨t2, rfl, v_1, v_2, hμ, e⟩ := hI
    rw [spec_l02Finite_r1]
    have e := e.trans (p_spec_l02Finite_l1_s l_list μ t2 i)
    have l_3 := g0.1
    refine Br.intro (fun c_4 => ?_) (fun c_4 => ?_)
    · have e := e.trans (cond_t c_4)
      have c_4' := of_decide_eq_true c_4
      obtain ⟨b_5, f_6, q_7⟩ := ((i_list.grow g0)).pos o0
      refine ⟨by omega, by omega, b_5, f_6, q_7, ?_⟩
      refine ⟨((l_list).getD (i : Int).toNat 0), (i_list).rd g0 q_7 o3 _, ?_⟩
      refine T_spec_l01Finite_i ?_
      refine Br.intro (fun c_8 => ?_) (fun c_8 => ?_)
      · have e := e.trans (cond_t c_8)
        have c_8n := nf_of_t c_8
        rw [spec_l02Finite_x1_ret]
        rw [e] at hk
        exact hk
      · have e := e.trans (cond_f c_8)
        have c_8n := nt_of_f c_8
        rw [show IntKind.wrap .i64 (i + 1) = (i + 1) from wrap64 o3 o3]
        refine spec_l02Finite_n1 (μ - 1) o10 ⟨_, rfl, o1, o1, o10, (by rw [show μ - 1 + 1 = μ from by first | omega]; exact e)⟩
    · have e := e.trans (cond_f c_4)
      have c_4' := of_decide_eq_false c_4
      rw [spec_l02Finite_x1_0]
      rw [e] at hk
      exact hk
theorem spec_l02Finite_ok : FnOk Try.prog 104 S_spec_l02Finite := by
  refine FnOk.body mix_ok E_spec_l02Finite_ok Try.func104 rfl (by kernel_rfl) (by kernel_rfl) ?_ ?_ ?_ ?_ ?_
  · intro args H K K' h hk
    simp only [S_spec_l02Finite] at *
    unfold F_spec_l02Finite at *
    split at hk
    · obtain ⟨l_list, i_list, bd_9, k⟩ := hk
      exact ⟨l_list, i_list, bd_9, h _ _ k⟩
    · exact hk.elim
  · intro _ args H K hk
    simp only [S_spec_l02Finite] at *
    unfold F_spec_l02Finite at *
    split at hk
    · obtain ⟨l_list, i_list, bd_9, k⟩ := hk
      exact ⟨_, k, fun K' k' => ⟨l_list, i_list, bd_9, k'⟩⟩
    · exact hk.elim
  · intro args H K hk
    simp only [S_spec_l02Finite] at *
    unfold F_spec_l02Finite at *
    split at hk
    · obtain ⟨l_list, i_list, bd_9, k⟩ := hk
      exact ⟨_, _, k⟩
    · exact hk.elim
  · intro hq; cases hq
  · have mm := @spec_l02Finite_main
    have ml := fun (args : List Value) (H : AHeap) (K : Value → AHeap → Prop) => bodyL_body (P := Try.prog) (env := E_spec_l02Finite ) (fn := Try.f104) (args := args) (H := H) (K := K) E_spec_l02Finite_ok 
    revert mm ml
    generalize bodyK Try.prog E_spec_l02Finite Try.f104 = Q
    generalize bodyL Try.prog E_spec_l02Finite Try.f104 = QL
    intro mm ml args H K hk
    simp only [S_spec_l02Finite] at *
    unfold F_spec_l02Finite at *
    split at hk
    · exact ml _ H K (mm _ _ _ H K hk)
    · exact hk.elim

def p_spec_l03Bands_l1 (l_bp_Coarse : List Nat) (l_bp_Details : List (List Nat)) : Nat → Bool → Int → Bool
  | 0, _, _ => false
  | μ + 1, t2, t39 => (bif decide ((t39 : Int) < (l_bp_Details.length : Int)) then (bif decide ((((((l_bp_Details).getD (t39 : Int).toNat [])).length : Int) : Int) < 1) then false else (bif !((p_spec_l02Finite (((l_bp_Details).getD (t39 : Int).toNat [])))) then false else (bif decide ((0 : Int) < t39) then (bif (((((l_bp_Details).getD ((t39 - 1) : Int).toNat [])).length : Int) : Int) != IntKind.wrap .i64 (2 * (((((l_bp_Details).getD (t39 : Int).toNat [])).length : Int))) then false else (p_spec_l03Bands_l1 l_bp_Coarse l_bp_Details μ t2 (t39 + 1))) else (p_spec_l03Bands_l1 l_bp_Coarse l_bp_Details μ t2 (t39 + 1))))) else ((l_bp_Coarse.length : Int) : Int) == ((((l_bp_Details).getD (((l_bp_Details.length : Int) - 1) : Int).toNat [])).length : Int))
def p_spec_l03Bands_l1_s := fun l_bp_Coarse l_bp_Details μ t2 t39 => @p_spec_l03Bands_l1.eq_2 l_bp_Coarse l_bp_Details t2 t39 μ
def p_spec_l03Bands (l_bp_Coarse : List Nat) (l_bp_Details : List (List Nat)) : Bool := (bif decide (((l_bp_Details.length : Int) : Int) < 1) then false else (bif decide ((6 : Int) < (l_bp_Details.length : Int)) then false else (bif decide ((64 : Int) < ((((l_bp_Details).getD (0 : Int).toNat [])).length : Int)) then false else (bif !(p_spec_l02Finite l_bp_Coarse) then false else (p_spec_l03Bands_l1 l_bp_Coarse l_bp_Details (Int.toNat ((l_bp_Details.length : Int) - (0 : Int)) + 1) false (0 : Int))))))
def p_spec_l03Bands_eq := @p_spec_l03Bands.eq_1
def T_spec_l03Bands (b : Nat) (H : AHeap) (K : Bool → AHeap → Prop) : Prop := ∃ (bp_Coarse_a : Option Addr), ∃ (bp_Coarse_n : Nat), ∃ (bp_Coarse_e : Nat), ∃ (bp_Details_a : Option Addr), ∃ (bp_Details_n : Nat), ∃ (bp_Details_e : Nat), ∃ (l_bp_Coarse : List Nat), ∃ (l_bp_Details : List (List Nat)), rdN H b 0 2 = some [.slice bp_Coarse_a bp_Coarse_n bp_Coarse_e, .slice bp_Details_a bp_Details_n bp_Details_e] ∧ IsL fF H bp_Coarse_a bp_Coarse_n l_bp_Coarse ∧ IsLL fF H bp_Details_a bp_Details_n l_bp_Details ∧ l_bp_Coarse.length < 1073741824 ∧ l_bp_Details.length < 1073741824 ∧ (∀ y ∈ l_bp_Details, y.length < 1073741824) ∧ K (p_spec_l03Bands l_bp_Coarse l_bp_Details) H
theorem T_spec_l03Bands_i {b : Nat} {H : AHeap} {K : Bool → AHeap → Prop} (h : ∃ (bp_Coarse_a : Option Addr), ∃ (bp_Coarse_n : Nat), ∃ (bp_Coarse_e : Nat), ∃ (bp_Details_a : Option Addr), ∃ (bp_Details_n : Nat), ∃ (bp_Details_e : Nat), ∃ (l_bp_Coarse : List Nat), ∃ (l_bp_Details : List (List Nat)), rdN H b 0 2 = some [.slice bp_Coarse_a bp_Coarse_n bp_Coarse_e, .slice bp_Details_a bp_Details_n bp_Details_e] ∧ IsL fF H bp_Coarse_a bp_Coarse_n l_bp_Coarse ∧ IsLL fF H bp_Details_a bp_Details_n l_bp_Details ∧ l_bp_Coarse.length < 1073741824 ∧ l_bp_Details.length < 1073741824 ∧ (∀ y ∈ l_bp_Details, y.length < 1073741824) ∧ K (p_spec_l03Bands l_bp_Coarse l_bp_Details) H) : T_spec_l03Bands b H K := h
theorem spec_l03Bands_t {a : List Nat} {ds : List (List Nat)} (h : p_spec_l03Bands a ds = true) : 1 ≤ ds.length ∧ ds.length ≤ 6 ∧ 1 ≤ (ds.getD (0 : Int).toNat []).length ∧ (ds.getD (0 : Int).toNat []).length ≤ 64 := by
  rw [p_spec_l03Bands_eq] at h
  by_cases h1 : (ds.length : Int) < 1
  · rw [decide_eq_true h1] at h; cases h
  · rw [decide_eq_false h1, cond_false] at h
    by_cases h2 : (6 : Int) < (ds.length : Int)
    · rw [decide_eq_true h2] at h; cases h
    · rw [decide_eq_false h2, cond_false] at h
      by_cases h3 : (64 : Int) < ((ds.getD (0 : Int).toNat []).length : Int)
      · rw [decide_eq_true h3] at h; cases h
      · rw [decide_eq_false h3, cond_false] at h
        cases h4 : p_spec_l02Finite a
        · rw [h4] at h; cases h
        · rw [h4, Bool.not_true, cond_false] at h
          rw [p_spec_l03Bands_l1_s, decide_eq_true (show (0 : Int) < (ds.length : Int) by omega), cond_true] at h
          by_cases h6 : ((ds.getD (0 : Int).toNat []).length : Int) < 1
          · rw [decide_eq_true h6] at h; cases h
          · exact ⟨by omega, by omega, by omega, by omega⟩
/-! spec_l03Bands: function 112 -/
def E_spec_l03Bands : Env := envOf [(104, S_spec_l02Finite)]
def F_spec_l03Bands : List Value → AHeap → (Value → AHeap → Prop) → Prop
  | [.pointer (some ⟨b, 0, none⟩)], H, K => T_spec_l03Bands b H fun (r1 : Bool) (H' : AHeap) => K (.bool r1) H'
  | _, _, _ => False
def S_spec_l03Bands : FSpec := { F := F_spec_l03Bands, quiet := true, tame := false }
theorem spec_l03Bands_vc (b : Nat) (H : AHeap) (K : Value → AHeap → Prop) : bodyL Try.prog E_spec_l03Bands Try.f112 [.pointer (some ⟨b, 0, none⟩)] H K =
  (∃ x1_a : Option Addr, ∃ x1_n : Nat, ∃ x1_e : Nat,  rdC H b 1 = some (.slice x1_a x1_n x1_e) ∧ Br (decide (((x1_n : Int) : Int) < 1)) (K (.bool false) H) (Br (decide ((6 : Int) < (x1_n : Int))) (K (.bool false) H) (∃ x2_a : Option Addr, ∃ x2_n : Nat, ∃ x2_e : Nat,  rdC H b 1 = some (.slice x2_a x2_n x2_e) ∧ (0 : Int) ≤ 0 ∧ 0 < (x2_n : Int) ∧ ∃ b1 f1, (x2_a : Option Addr) = some ⟨b1, f1, none⟩ ∧ ∃ x3_a : Option Addr, ∃ x3_n : Nat, ∃ x3_e : Nat,  rdC H b1 (f1 + (0 : Int).toNat * 1) = some (.slice x3_a x3_n x3_e) ∧ Br (decide ((64 : Int) < (x3_n : Int))) (K (.bool false) H) (∃ x4_a : Option Addr, ∃ x4_n : Nat, ∃ x4_e : Nat,  rdC H b 0 = some (.slice x4_a x4_n x4_e) ∧ T_spec_l02Finite x4_a x4_n x4_e H fun (r1 : Bool) (H1 : AHeap) => Br (!r1) (K (.bool false) H1) (∃ x5_a : Option Addr, ∃ x5_n : Nat, ∃ x5_e : Nat,  rdC H1 b 1 = some (.slice x5_a x5_n x5_e) ∧ loopK (exL Try.prog E_spec_l03Bands (cl (cl (cr (cl (cr (cr (cr (bodyC Try.f112)))))))) 824633720841 4 [(0, 9)]) [.pointer (some ⟨b, 0, none⟩), ud, ud, .int .i64 (x1_n : Int), ud, ud, ud, ud, ud, ud, ud, ud, ud, ud, ud, ud, ud, ud, ud, ud, ud, ud, ud, ud, ud, ud, ud, ud, ud, ud, ud, ud, ud, ud, ud, ud, ud, ud, .int .i64 (x5_n : Int), .int .i64 0, ud, ud, ud, ud, ud, ud, ud, ud, ud, ud, ud, ud, ud, ud, ud, ud, ud, ud, ud, ud, ud, ud, ud, ud, ud, ud, ud, ud, ud, ud, ud, ud, ud, ud, ud, ud, ud, ud, ud, ud, ud, ud, ud, ud, ud, ud, ud, ud, ud, ud, ud, ud, ud, ud, ud, ud, ud, ud, ud, ud, ud, ud, ud] H1 (blockQ 0 (seqQ (exL Try.prog E_spec_l03Bands (cr (cr (cr (cr (bodyC Try.f112))))) 4 4 []) (retK Try.prog Try.f112 K)))))))) := by kernel_rfl
abbrev spec_l03Bands_P1 (b : Nat) (x1_n : Nat) (x5_n : Nat) (t39 : Int)  : List Value := [.pointer (some ⟨b, 0, none⟩), ud, ud, .int .i64 (x1_n : Int), ud, ud, ud, ud, ud, ud, ud, ud, ud, ud, ud, ud, ud, ud, ud, ud, ud, ud, ud, ud, ud, ud, ud, ud, ud, ud, ud, ud, ud, ud, ud, ud, ud, ud, .int .i64 (x5_n : Int), .int .i64 t39, ud, ud, ud, ud, ud, ud, ud, ud, ud, ud, ud, ud, ud, ud, ud, ud, ud, ud, ud, ud, ud, ud, ud, ud, ud, ud, ud, ud, ud, ud, ud, ud, ud, ud, ud, ud, ud, ud, ud, ud, ud, ud, ud, ud, ud, ud, ud, ud, ud, ud, ud, ud, ud, ud, ud, ud, ud, ud, ud, ud, ud, ud, ud]
theorem spec_l03Bands_r1 (b : Nat) (x1_n : Nat) (x5_n : Nat) (t39 : Int)  (H : AHeap) (R : Post) : exL Try.prog E_spec_l03Bands (cl (cl (cr (cl (cr (cr (cr (bodyC Try.f112)))))))) 824633720841 4 [(0, 9)] (spec_l03Bands_P1 b x1_n x5_n t39) H R =
  (Br (decide ((t39 : Int) < (x5_n : Int))) (∃ x6_a : Option Addr, ∃ x6_n : Nat, ∃ x6_e : Nat,  rdC H b 1 = some (.slice x6_a x6_n x6_e) ∧ (0 : Int) ≤ t39 ∧ t39 < (x6_n : Int) ∧ ∃ b2 f2, (x6_a : Option Addr) = some ⟨b2, f2, none⟩ ∧ ∃ x7_a : Option Addr, ∃ x7_n : Nat, ∃ x7_e : Nat,  rdC H b2 (f2 + (t39 : Int).toNat * 1) = some (.slice x7_a x7_n x7_e) ∧ Br (decide (((x7_n : Int) : Int) < 1)) (R .ret [ud, ud, .bool false, ud, ud, ud, ud, ud, ud, ud, ud, ud, ud, ud, ud, ud, ud, ud, ud, ud, ud, ud, ud, ud, ud, ud, ud, ud, ud, ud, ud, ud, ud, ud, ud, ud, ud, ud, ud, ud, ud, ud, ud, ud, ud, ud, ud, ud, ud, ud, ud, ud, ud, ud, ud, ud, ud, ud, ud, ud, ud, ud, ud, ud, ud, ud, ud, ud, ud, ud, ud, ud, ud, ud, ud, ud, ud, ud, ud, ud, ud, ud, ud, ud, ud, ud, ud, ud, ud, ud, ud, ud, ud, ud, ud, ud, ud, ud, ud, ud, ud, ud, ud] H) (∃ x8_a : Option Addr, ∃ x8_n : Nat, ∃ x8_e : Nat,  rdC H b 1 = some (.slice x8_a x8_n x8_e) ∧ (0 : Int) ≤ t39 ∧ t39 < (x8_n : Int) ∧ ∃ b3 f3, (x8_a : Option Addr) = some ⟨b3, f3, none⟩ ∧ ∃ x9_a : Option Addr, ∃ x9_n : Nat, ∃ x9_e : Nat,  rdC H b3 (f3 + (t39 : Int).toNat * 1) = some (.slice x9_a x9_n x9_e) ∧ T_spec_l02Finite x9_a x9_n x9_e H fun (r2 : Bool) (H2 : AHeap) => Br (!r2) (R .ret [ud, ud, .bool false, ud, ud, ud, ud, ud, ud, ud, ud, ud, ud, ud, ud, ud, ud, ud, ud, ud, ud, ud, ud, ud, ud, ud, ud, ud, ud, ud, ud, ud, ud, ud, ud, ud, ud, ud, ud, ud, ud, ud, ud, ud, ud, ud, ud, ud, ud, ud, ud, ud, ud, ud, ud, ud, ud, ud, ud, ud, ud, ud, ud, ud, ud, ud, ud, ud, ud, ud, ud, ud, ud, ud, ud, ud, ud, ud, ud, ud, ud, ud, ud, ud, ud, ud, ud, ud, ud, ud, ud, ud, ud, ud, ud, ud, ud, ud, ud, ud, ud, ud, ud] H2) (Br (decide ((0 : Int) < t39)) (∃ x10_a : Option Addr, ∃ x10_n : Nat, ∃ x10_e : Nat,  rdC H2 b 1 = some (.slice x10_a x10_n x10_e) ∧ (0 : Int) ≤ IntKind.wrap .i64 (t39 - 1) ∧ IntKind.wrap .i64 (t39 - 1) < (x10_n : Int) ∧ ∃ b4 f4, (x10_a : Option Addr) = some ⟨b4, f4, none⟩ ∧ ∃ x11_a : Option Addr, ∃ x11_n : Nat, ∃ x11_e : Nat,  rdC H2 b4 (f4 + (IntKind.wrap .i64 (t39 - 1) : Int).toNat * 1) = some (.slice x11_a x11_n x11_e) ∧ ∃ x12_a : Option Addr, ∃ x12_n : Nat, ∃ x12_e : Nat,  rdC H2 b 1 = some (.slice x12_a x12_n x12_e) ∧ (0 : Int) ≤ t39 ∧ t39 < (x12_n : Int) ∧ ∃ b5 f5, (x12_a : Option Addr) = some ⟨b5, f5, none⟩ ∧ ∃ x13_a : Option Addr, ∃ x13_n : Nat, ∃ x13_e : Nat,  rdC H2 b5 (f5 + (t39 : Int).toNat * 1) = some (.slice x13_a x13_n x13_e) ∧ Br (((x11_n : Int) : Int) != IntKind.wrap .i64 (2 * (x13_n : Int))) (R .ret [ud, ud, .bool false, ud, ud, ud, ud, ud, ud, ud, ud, ud, ud, ud, ud, ud, ud, ud, ud, ud, ud, ud, ud, ud, ud, ud, ud, ud, ud, ud, ud, ud, ud, ud, ud, ud, ud, ud, ud, ud, ud, ud, ud, ud, ud, ud, ud, ud, ud, ud, ud, ud, ud, ud, ud, ud, ud, ud, ud, ud, ud, ud, ud, ud, ud, ud, ud, ud, ud, ud, ud, ud, ud, ud, ud, ud, ud, ud, ud, ud, ud, ud, ud, ud, ud, ud, ud, ud, ud, ud, ud, ud, ud, ud, ud, ud, ud, ud, ud, ud, ud, ud, ud] H2) (R .normal [.pointer (some ⟨b, 0, none⟩), ud, ud, .int .i64 (x1_n : Int), ud, ud, ud, ud, ud, ud, ud, ud, ud, ud, ud, ud, ud, ud, ud, ud, ud, ud, ud, ud, ud, ud, ud, ud, ud, ud, ud, ud, ud, ud, ud, ud, ud, ud, .int .i64 (x5_n : Int), .int .i64 (IntKind.wrap .i64 (t39 + 1)), ud, ud, ud, ud, ud, ud, ud, ud, ud, ud, ud, ud, ud, ud, ud, ud, ud, ud, ud, ud, ud, ud, ud, ud, ud, ud, ud, ud, ud, ud, ud, ud, ud, ud, ud, ud, ud, ud, ud, ud, ud, ud, ud, ud, ud, ud, ud, ud, ud, ud, ud, ud, ud, ud, ud, ud, ud, ud, ud, ud, ud, ud, ud] H2)) (R .normal [.pointer (some ⟨b, 0, none⟩), ud, ud, .int .i64 (x1_n : Int), ud, ud, ud, ud, ud, ud, ud, ud, ud, ud, ud, ud, ud, ud, ud, ud, ud, ud, ud, ud, ud, ud, ud, ud, ud, ud, ud, ud, ud, ud, ud, ud, ud, ud, .int .i64 (x5_n : Int), .int .i64 (IntKind.wrap .i64 (t39 + 1)), ud, ud, ud, ud, ud, ud, ud, ud, ud, ud, ud, ud, ud, ud, ud, ud, ud, ud, ud, ud, ud, ud, ud, ud, ud, ud, ud, ud, ud, ud, ud, ud, ud, ud, ud, ud, ud, ud, ud, ud, ud, ud, ud, ud, ud, ud, ud, ud, ud, ud, ud, ud, ud, ud, ud, ud, ud, ud, ud, ud, ud, ud, ud] H2)))) (R (.exit 0) [.pointer (some ⟨b, 0, none⟩), ud, ud, .int .i64 (x1_n : Int), ud, ud, ud, ud, ud, ud, ud, ud, ud, ud, ud, ud, ud, ud, ud, ud, ud, ud, ud, ud, ud, ud, ud, ud, ud, ud, ud, ud, ud, ud, ud, ud, ud, ud, ud, ud, ud, ud, ud, ud, ud, ud, ud, ud, ud, ud, ud, ud, ud, ud, ud, ud, ud, ud, ud, ud, ud, ud, ud, ud, ud, ud, ud, ud, ud, ud, ud, ud, ud, ud, ud, ud, ud, ud, ud, ud, ud, ud, ud, ud, ud, ud, ud, ud, ud, ud, ud, ud, ud, ud, ud, ud, ud, ud, ud, ud, ud, ud, ud] H)) := by kernel_rfl
def spec_l03Bands_I1 (b : Nat) (x1_n : Nat) (x5_n : Nat) (Inv : Nat → Int → AHeap → Prop) : Nat → List Value → AHeap → Prop := fun μ tm H => ∃ (t39 : Int), tm = (spec_l03Bands_P1 b x1_n x5_n t39) ∧ Inv μ t39 H
theorem spec_l03Bands_L1 (b : Nat) (x1_n : Nat) (x5_n : Nat) {Q : Post} (Inv : Nat → Int → AHeap → Prop) (ν : Nat) (t39 : Int)  (H : AHeap) (h0 : Inv ν t39 H)
    (hs : ∀ (μ : Nat) (t39 : Int)  (H : AHeap), Inv μ t39 H → exL Try.prog E_spec_l03Bands (cl (cl (cr (cl (cr (cr (cr (bodyC Try.f112)))))))) 824633720841 4 [(0, 9)] (spec_l03Bands_P1 b x1_n x5_n t39) H (loopQ (spec_l03Bands_I1 b x1_n x5_n Inv) μ Q)) : loopK (exL Try.prog E_spec_l03Bands (cl (cl (cr (cl (cr (cr (cr (bodyC Try.f112)))))))) 824633720841 4 [(0, 9)]) (spec_l03Bands_P1 b x1_n x5_n t39) H Q :=
  ⟨spec_l03Bands_I1 b x1_n x5_n Inv, ν, ⟨t39, rfl, h0⟩, fun μ tm H h => by obtain ⟨t39, rfl, hI⟩ := h; exact hs μ t39  H hI⟩
theorem spec_l03Bands_n1 {b : Nat} {x1_n : Nat} {x5_n : Nat} {Q : Post} {Inv : Nat → Int → AHeap → Prop} {μ : Nat} (μ' : Nat) {t39 : Int}  {H : AHeap} (hm : μ' < μ) (hI : Inv μ' t39 H) : loopQ (spec_l03Bands_I1 b x1_n x5_n Inv) μ Q .normal (spec_l03Bands_P1 b x1_n x5_n t39) H := ⟨μ', hm, t39, rfl, hI⟩
theorem spec_l03Bands_x1_0 (b : Nat) (x1_n : Nat) (H : AHeap) (K : Value → AHeap → Prop)  {I : Nat → List Value → AHeap → Prop} {μ : Nat} : loopQ I μ (blockQ 0 (seqQ (exL Try.prog E_spec_l03Bands (cr (cr (cr (cr (bodyC Try.f112))))) 4 4 []) (retK Try.prog Try.f112 K))) (.exit 0) [.pointer (some ⟨b, 0, none⟩), ud, ud, .int .i64 (x1_n : Int), ud, ud, ud, ud, ud, ud, ud, ud, ud, ud, ud, ud, ud, ud, ud, ud, ud, ud, ud, ud, ud, ud, ud, ud, ud, ud, ud, ud, ud, ud, ud, ud, ud, ud, ud, ud, ud, ud, ud, ud, ud, ud, ud, ud, ud, ud, ud, ud, ud, ud, ud, ud, ud, ud, ud, ud, ud, ud, ud, ud, ud, ud, ud, ud, ud, ud, ud, ud, ud, ud, ud, ud, ud, ud, ud, ud, ud, ud, ud, ud, ud, ud, ud, ud, ud, ud, ud, ud, ud, ud, ud, ud, ud, ud, ud, ud, ud, ud, ud] H =
  (∃ x14_a : Option Addr, ∃ x14_n : Nat, ∃ x14_e : Nat,  rdC H b 0 = some (.slice x14_a x14_n x14_e) ∧ ∃ x15_a : Option Addr, ∃ x15_n : Nat, ∃ x15_e : Nat,  rdC H b 1 = some (.slice x15_a x15_n x15_e) ∧ (0 : Int) ≤ IntKind.wrap .i64 ((x1_n : Int) - 1) ∧ IntKind.wrap .i64 ((x1_n : Int) - 1) < (x15_n : Int) ∧ ∃ b6 f6, (x15_a : Option Addr) = some ⟨b6, f6, none⟩ ∧ ∃ x16_a : Option Addr, ∃ x16_n : Nat, ∃ x16_e : Nat,  rdC H b6 (f6 + (IntKind.wrap .i64 ((x1_n : Int) - 1) : Int).toNat * 1) = some (.slice x16_a x16_n x16_e) ∧ K (.bool (((x14_n : Int) : Int) == (x16_n : Int))) H) := by kernel_rfl
theorem spec_l03Bands_x1_ret (t2 : Bool) (H : AHeap) (K : Value → AHeap → Prop)  {I : Nat → List Value → AHeap → Prop} {μ : Nat} : loopQ I μ (blockQ 0 (seqQ (exL Try.prog E_spec_l03Bands (cr (cr (cr (cr (bodyC Try.f112))))) 4 4 []) (retK Try.prog Try.f112 K))) .ret [ud, ud, .bool t2, ud, ud, ud, ud, ud, ud, ud, ud, ud, ud, ud, ud, ud, ud, ud, ud, ud, ud, ud, ud, ud, ud, ud, ud, ud, ud, ud, ud, ud, ud, ud, ud, ud, ud, ud, ud, ud, ud, ud, ud, ud, ud, ud, ud, ud, ud, ud, ud, ud, ud, ud, ud, ud, ud, ud, ud, ud, ud, ud, ud, ud, ud, ud, ud, ud, ud, ud, ud, ud, ud, ud, ud, ud, ud, ud, ud, ud, ud, ud, ud, ud, ud, ud, ud, ud, ud, ud, ud, ud, ud, ud, ud, ud, ud, ud, ud, ud, ud, ud, ud] H =
  (K (.bool t2) H) := by kernel_rfl
theorem E_spec_l03Bands_ok : ∀ g, FnOk Try.prog g (E_spec_l03Bands g) := FnOk.envOf (by
  intro x hx
  simp only [List.mem_cons, List.not_mem_nil, or_false] at hx
  subst hx; exact spec_l02Finite_ok)
set_option maxHeartbeats 1000000 in
theorem spec_l03Bands_main (b : Nat) (H : AHeap) (K : Value → AHeap → Prop) (h : T_spec_l03Bands b H fun (r1 : Bool) (H' : AHeap) => K (.bool r1) H') : bodyL Try.prog E_spec_l03Bands Try.f112 [.pointer (some ⟨b, 0, none⟩)] H K := by
  rw [spec_l03Bands_vc]
  obtain ⟨bp_Coarse_a, bp_Coarse_n, bp_Coarse_e, bp_Details_a, bp_Details_n, bp_Details_e, l_bp_Coarse, l_bp_Details, i_b, i_bp_Coarse, i_bp_Details, bd_67, bd_68, bb_l_bp_Details, hk⟩ := h
  obtain rfl := i_bp_Coarse.eqn
  obtain rfl := i_bp_Details.eqn
  have e : (p_spec_l03Bands l_bp_Coarse l_bp_Details) = _ := rfl
  have e := e.trans (p_spec_l03Bands_eq l_bp_Coarse l_bp_Details)
  have g0 := Grow.refl H
  refine ⟨bp_Details_a, l_bp_Details.length, bp_Details_e, (rdN_at (rdN_grow g0 i_b) 1 (Nat.le_of_ble_eq_true rfl)).trans rfl, ?_⟩
  refine Br.intro (fun c_1 => ?_) (fun c_1 => ?_)
  · have e := e.trans (cond_t c_1)
    have c_1' := of_decide_eq_true c_1
    rw [e] at hk
    exact hk
  · have e := e.trans (cond_f c_1)
    have c_1' := of_decide_eq_false c_1
    refine Br.intro (fun c_2 => ?_) (fun c_2 => ?_)
    · have e := e.trans (cond_t c_2)
      have c_2' := of_decide_eq_true c_2
      rw [e] at hk
      exact hk
    · have e := e.trans (cond_f c_2)
      have c_2' := of_decide_eq_false c_2
      refine ⟨bp_Details_a, l_bp_Details.length, bp_Details_e, (rdN_at (rdN_grow g0 i_b) 1 (Nat.le_of_ble_eq_true rfl)).trans rfl, ?_⟩
      obtain ⟨b_3, f_4, q_5⟩ := ((i_bp_Details.grow g0)).pos o0
      refine ⟨by omega, by omega, b_3, f_4, q_5, ?_⟩
      obtain ⟨a_6, n_7, e_8, r_9, i_10⟩ := (i_bp_Details).rd (i := (0 : Int).toNat) g0 q_5 o3
      obtain rfl := i_10.eqn
      refine ⟨a_6, _, e_8, r_9, ?_⟩
      have z_11 := getD_len bb_l_bp_Details (0 : Int).toNat
      refine Br.intro (fun c_12 => ?_) (fun c_12 => ?_)
      · have e := e.trans (cond_t c_12)
        have c_12' := of_decide_eq_true c_12
        rw [e] at hk
        exact hk
      · have e := e.trans (cond_f c_12)
        have c_12' := of_decide_eq_false c_12
        refine ⟨bp_Coarse_a, l_bp_Coarse.length, bp_Coarse_e, (rdN_at (rdN_grow g0 i_b) 0 (Nat.le_of_ble_eq_true rfl)).trans rfl, ?_⟩
        refine T_spec_l02Finite_i ⟨_, (i_bp_Coarse.grow g0), o0, ?_⟩
        refine Br.intro (fun c_13 => ?_) (fun c_13 => ?_)
        · have e := e.trans (cond_t c_13)
          have c_13n := nf_of_t c_13
          rw [e] at hk
          exact hk
        · have e := e.trans (cond_f c_13)
          have c_13n := nt_of_f c_13
          refine ⟨bp_Details_a, l_bp_Details.length, bp_Details_e, (rdN_at (rdN_grow g0 i_b) 1 (Nat.le_of_ble_eq_true rfl)).trans rfl, ?_⟩
          refine spec_l03Bands_L1 _ _ _ (fun (μ : Nat) (t39 : Int) (H_1 : AHeap) => ∃ (t2 : Bool), H = H_1 ∧ (0 : Int) ≤ t39 ∧ t39 ≤ (l_bp_Details.length : Int) ∧ (l_bp_Details.length : Int) - t39 ≤ (μ : Int) ∧ p_spec_l03Bands l_bp_Coarse l_bp_Details = p_spec_l03Bands_l1 l_bp_Coarse l_bp_Details (μ + 1) t2 t39) (Int.toNat ((l_bp_Details.length : Int) - (0 : Int))) _ H ?_ ?_
          · exact ⟨_, rfl, o5, o5, o3, e⟩
          · intro μ t39  H_1 hI
            obtain ⟨t2, rfl, v_14, v_15, hμ, e⟩ := hI
            rw [spec_l03Bands_r1]
            have e := e.trans (p_spec_l03Bands_l1_s l_bp_Coarse l_bp_Details μ t2 t39)
            have l_16 := g0.1
            refine Br.intro (fun c_17 => ?_) (fun c_17 => ?_)
            · have e := e.trans (cond_t c_17)
              have c_17' := of_decide_eq_true c_17
              refine ⟨bp_Details_a, l_bp_Details.length, bp_Details_e, (rdN_at (rdN_grow g0 i_b) 1 (Nat.le_of_ble_eq_true rfl)).trans rfl, ?_⟩
              obtain ⟨b_18, f_19, q_20⟩ := ((i_bp_Details.grow g0)).pos o0
              refine ⟨by omega, by omega, b_18, f_19, q_20, ?_⟩
              obtain ⟨a_21, n_22, e_23, r_24, i_25⟩ := (i_bp_Details).rd (i := (t39 : Int).toNat) g0 q_20 o3
              obtain rfl := i_25.eqn
              refine ⟨a_21, _, e_23, r_24, ?_⟩
              have z_26 := getD_len bb_l_bp_Details (t39 : Int).toNat
              refine Br.intro (fun c_27 => ?_) (fun c_27 => ?_)
              · have e := e.trans (cond_t c_27)
                have c_27' := of_decide_eq_true c_27
                rw [spec_l03Bands_x1_ret]
                rw [e] at hk
                exact hk
              · have e := e.trans (cond_f c_27)
                have c_27' := of_decide_eq_false c_27
                refine ⟨bp_Details_a, l_bp_Details.length, bp_Details_e, (rdN_at (rdN_grow g0 i_b) 1 (Nat.le_of_ble_eq_true rfl)).trans rfl, ?_⟩
                obtain ⟨b_28, f_29, q_30⟩ := ((i_bp_Details.grow g0)).pos o0
                refine ⟨by omega, by omega, b_28, f_29, q_30, ?_⟩
                obtain ⟨a_31, n_32, e_33, r_34, i_35⟩ := (i_bp_Details).rd (i := (t39 : Int).toNat) g0 q_30 o3
                obtain rfl := i_35.eqn
                refine ⟨a_31, _, e_33, r_34, ?_⟩
                have z_36 := getD_len bb_l_bp_Details (t39 : Int).toNat
                refine T_spec_l02Finite_i ⟨_, (i_35.grow g0), o0, ?_⟩
                refine Br.intro (fun c_37 => ?_) (fun c_37 => ?_)
                · have e := e.trans (cond_t c_37)
                  have c_37n := nf_of_t c_37
                  rw [spec_l03Bands_x1_ret]
                  rw [e] at hk
                  exact hk
                · have e := e.trans (cond_f c_37)
                  have c_37n := nt_of_f c_37
                  refine Br.intro (fun c_38 => ?_) (fun c_38 => ?_)
                  · have e := e.trans (cond_t c_38)
                    have c_38' := of_decide_eq_true c_38
                    refine ⟨bp_Details_a, l_bp_Details.length, bp_Details_e, (rdN_at (rdN_grow g0 i_b) 1 (Nat.le_of_ble_eq_true rfl)).trans rfl, ?_⟩
                    rw [show IntKind.wrap .i64 (t39 - 1) = (t39 - 1) from wrap64 o3 o3]
                    obtain ⟨b_39, f_40, q_41⟩ := ((i_bp_Details.grow g0)).pos o0
                    refine ⟨by omega, by omega, b_39, f_40, q_41, ?_⟩
                    obtain ⟨a_42, n_43, e_44, r_45, i_46⟩ := (i_bp_Details).rd (i := ((t39 - 1) : Int).toNat) g0 q_41 o3
                    obtain rfl := i_46.eqn
                    refine ⟨a_42, _, e_44, r_45, ?_⟩
                    have z_47 := getD_len bb_l_bp_Details ((t39 - 1) : Int).toNat
                    refine ⟨bp_Details_a, l_bp_Details.length, bp_Details_e, (rdN_at (rdN_grow g0 i_b) 1 (Nat.le_of_ble_eq_true rfl)).trans rfl, ?_⟩
                    obtain ⟨b_48, f_49, q_50⟩ := ((i_bp_Details.grow g0)).pos o0
                    refine ⟨by omega, by omega, b_48, f_49, q_50, ?_⟩
                    obtain ⟨a_51, n_52, e_53, r_54, i_55⟩ := (i_bp_Details).rd (i := (t39 : Int).toNat) g0 q_50 o3
                    obtain rfl := i_55.eqn
                    refine ⟨a_51, _, e_53, r_54, ?_⟩
                    have z_56 := getD_len bb_l_bp_Details (t39 : Int).toNat
                    refine Br.intro (fun c_57 => ?_) (fun c_57 => ?_)
                    · have e := e.trans (cond_t c_57)
                      have c_57' := ine_t c_57
                      rw [spec_l03Bands_x1_ret]
                      rw [e] at hk
                      exact hk
                    · have e := e.trans (cond_f c_57)
                      have c_57' := ine_f c_57
                      rw [show IntKind.wrap .i64 (t39 + 1) = (t39 + 1) from wrap64 o3 o3]
                      refine spec_l03Bands_n1 (μ - 1) o10 ⟨_, rfl, o1, o1, o10, (by rw [show μ - 1 + 1 = μ from by first | omega]; exact e)⟩
                  · have e := e.trans (cond_f c_38)
                    have c_38' := of_decide_eq_false c_38
                    rw [show IntKind.wrap .i64 (t39 + 1) = (t39 + 1) from wrap64 o3 o3]
                    refine spec_l03Bands_n1 (μ - 1) o10 ⟨_, rfl, o1, o1, o10, (by rw [show μ - 1 + 1 = μ from by first | omega]; exact e)⟩
            · have e := e.trans (cond_f c_17)
              have c_17' := of_decide_eq_false c_17
              rw [spec_l03Bands_x1_0]
              refine ⟨bp_Coarse_a, l_bp_Coarse.length, bp_Coarse_e, (rdN_at (rdN_grow g0 i_b) 0 (Nat.le_of_ble_eq_true rfl)).trans rfl, ?_⟩
              refine ⟨bp_Details_a, l_bp_Details.length, bp_Details_e, (rdN_at (rdN_grow g0 i_b) 1 (Nat.le_of_ble_eq_true rfl)).trans rfl, ?_⟩
              rw [show IntKind.wrap .i64 ((l_bp_Details.length : Int) - 1) = ((l_bp_Details.length : Int) - 1) from wrap64 o3 o3]
              obtain ⟨b_58, f_59, q_60⟩ := ((i_bp_Details.grow g0)).pos o0
              refine ⟨by omega, by omega, b_58, f_59, q_60, ?_⟩
              obtain ⟨a_61, n_62, e_63, r_64, i_65⟩ := (i_bp_Details).rd (i := (((l_bp_Details.length : Int) - 1) : Int).toNat) g0 q_60 o3
              obtain rfl := i_65.eqn
              refine ⟨a_61, _, e_63, r_64, ?_⟩
              have z_66 := getD_len bb_l_bp_Details (((l_bp_Details.length : Int) - 1) : Int).toNat
              rw [e] at hk
              exact hk
theorem spec_l03Bands_ok : FnOk Try.prog 112 S_spec_l03Bands := by
  refine FnOk.body mix_ok E_spec_l03Bands_ok Try.func112 rfl (by kernel_rfl) (by kernel_rfl) ?_ ?_ ?_ ?_ ?_
  · intro args H K K' h hk
    simp only [S_spec_l03Bands] at *
    unfold F_spec_l03Bands at *
    split at hk
    · obtain ⟨bp_Coarse_a, bp_Coarse_n, bp_Coarse_e, bp_Details_a, bp_Details_n, bp_Details_e, l_bp_Coarse, l_bp_Details, i_b, i_bp_Coarse, i_bp_Details, bd_67, bd_68, bb_l_bp_Details, k⟩ := hk
      exact ⟨bp_Coarse_a, bp_Coarse_n, bp_Coarse_e, bp_Details_a, bp_Details_n, bp_Details_e, l_bp_Coarse, l_bp_Details, i_b, i_bp_Coarse, i_bp_Details, bd_67, bd_68, bb_l_bp_Details, h _ _ k⟩
    · exact hk.elim
  · intro _ args H K hk
    simp only [S_spec_l03Bands] at *
    unfold F_spec_l03Bands at *
    split at hk
    · obtain ⟨bp_Coarse_a, bp_Coarse_n, bp_Coarse_e, bp_Details_a, bp_Details_n, bp_Details_e, l_bp_Coarse, l_bp_Details, i_b, i_bp_Coarse, i_bp_Details, bd_67, bd_68, bb_l_bp_Details, k⟩ := hk
      exact ⟨_, k, fun K' k' => ⟨bp_Coarse_a, bp_Coarse_n, bp_Coarse_e, bp_Details_a, bp_Details_n, bp_Details_e, l_bp_Coarse, l_bp_Details, i_b, i_bp_Coarse, i_bp_Details, bd_67, bd_68, bb_l_bp_Details, k'⟩⟩
    · exact hk.elim
  · intro args H K hk
    simp only [S_spec_l03Bands] at *
    unfold F_spec_l03Bands at *
    split at hk
    · obtain ⟨bp_Coarse_a, bp_Coarse_n, bp_Coarse_e, bp_Details_a, bp_Details_n, bp_Details_e, l_bp_Coarse, l_bp_Details, i_b, i_bp_Coarse, i_bp_Details, bd_67, bd_68, bb_l_bp_Details, k⟩ := hk
      exact ⟨_, _, k⟩
    · exact hk.elim
  · intro hq; cases hq
  · have mm := @spec_l03Bands_main
    have ml := fun (args : List Value) (H : AHeap) (K : Value → AHeap → Prop) => bodyL_body (P := Try.prog) (env := E_spec_l03Bands ) (fn := Try.f112) (args := args) (H := H) (K := K) E_spec_l03Bands_ok 
    revert mm ml
    generalize bodyK Try.prog E_spec_l03Bands Try.f112 = Q
    generalize bodyL Try.prog E_spec_l03Bands Try.f112 = QL
    intro mm ml args H K hk
    simp only [S_spec_l03Bands] at *
    unfold F_spec_l03Bands at *
    split at hk
    · exact ml _ H K (mm _ H K hk)
    · exact hk.elim
def p_spec_l03Size (x : Nat) : Nat := (bif fle .f32 x 0 then fsub .f32 0 x else x)
def T_spec_l03Size (x : Nat) (H : AHeap) (K : Nat → AHeap → Prop) : Prop := K (p_spec_l03Size x) H

theorem T_spec_l03Size_i {x : Nat} {H : AHeap} {K : Nat → AHeap → Prop} (h : K (p_spec_l03Size x) H) : T_spec_l03Size x H K := h
/-! spec_l03Size: function 201 -/
def E_spec_l03Size : Env := envOf []
def F_spec_l03Size : List Value → AHeap → (Value → AHeap → Prop) → Prop
  | [.float .f32 x], H, K => T_spec_l03Size x H fun (r1 : Nat) (H' : AHeap) => K (.float .f32 r1) H'
  | _, _, _ => False
def S_spec_l03Size : FSpec := { F := F_spec_l03Size, quiet := true, tame := false }
theorem spec_l03Size_vc (x : Nat) (H : AHeap) (K : Value → AHeap → Prop) : bodyL Try.prog E_spec_l03Size Try.f201 [.float .f32 x] H K =
  (Br (fle .f32 x 0) (K (.float .f32 (fsub .f32 0 x)) H) (K (.float .f32 x) H)) := by kernel_rfl
theorem E_spec_l03Size_ok : ∀ g, FnOk Try.prog g (E_spec_l03Size g) := FnOk.envOf (by
  intro x hx; cases hx)
set_option maxHeartbeats 1000000 in
theorem spec_l03Size_main (x : Nat) (H : AHeap) (K : Value → AHeap → Prop) (h : T_spec_l03Size x H fun (r1 : Nat) (H' : AHeap) => K (.float .f32 r1) H') : bodyL Try.prog E_spec_l03Size Try.f201 [.float .f32 x] H K := by
  rw [spec_l03Size_vc]
  unfold T_spec_l03Size p_spec_l03Size at h
  repeat' (first | exact h | (exfalso; simp_all; done) | (refine ⟨by decide, ?_⟩) | (refine Br.intro (fun hb => ?_) (fun hb => ?_) <;> (try simp only [hb, cond_true, cond_false, Bool.not_true, Bool.not_false] at h)))
theorem spec_l03Size_ok : FnOk Try.prog 201 S_spec_l03Size := by
  refine FnOk.body mix_ok E_spec_l03Size_ok Try.func201 rfl (by kernel_rfl) (by kernel_rfl) ?_ ?_ ?_ ?_ ?_
  · intro args H K K' h hk
    simp only [S_spec_l03Size] at *
    unfold F_spec_l03Size at *
    split at hk
    · have k := hk
      exact h _ _ k
    · exact hk.elim
  · intro _ args H K hk
    simp only [S_spec_l03Size] at *
    unfold F_spec_l03Size at *
    split at hk
    · have k := hk
      exact ⟨_, k, fun K' k' => k'⟩
    · exact hk.elim
  · intro args H K hk
    simp only [S_spec_l03Size] at *
    unfold F_spec_l03Size at *
    split at hk
    · have k := hk
      exact ⟨_, _, k⟩
    · exact hk.elim
  · intro hq; cases hq
  · have mm := @spec_l03Size_main
    have ml := fun (args : List Value) (H : AHeap) (K : Value → AHeap → Prop) => bodyL_body (P := Try.prog) (env := E_spec_l03Size ) (fn := Try.f201) (args := args) (H := H) (K := K) E_spec_l03Size_ok 
    revert mm ml
    generalize bodyK Try.prog E_spec_l03Size Try.f201 = Q
    generalize bodyL Try.prog E_spec_l03Size Try.f201 = QL
    intro mm ml args H K hk
    simp only [S_spec_l03Size] at *
    unfold F_spec_l03Size at *
    split at hk
    · exact ml _ H K (mm _ H K hk)
    · exact hk.elim

def p_spec_l05Sizes_l1 (l_list : List Nat) (m : Nat) : Nat → (List Nat) → Int → (List Nat)
  | 0, _, _ => []
  | μ + 1, l_vout, t10 => (bif decide ((t10 : Int) < (l_list.length : Int)) then (p_spec_l05Sizes_l1 l_list m μ ((l_vout ++ [((p_spec_l03Size (fsub .f32 (((l_list).getD (t10 : Int).toNat 0)) m)))])) (t10 + 1)) else l_vout)
def p_spec_l05Sizes_l1_s := fun l_list m μ l_vout t10 => @p_spec_l05Sizes_l1.eq_2 l_list m l_vout t10 μ
def p_spec_l05Sizes (l_list : List Nat) (m : Nat) : (List Nat) := (p_spec_l05Sizes_l1 l_list m (Int.toNat ((l_list.length : Int) - (0 : Int)) + 1) ([] : List Nat) (0 : Int))
def p_spec_l05Sizes_eq := @p_spec_l05Sizes.eq_1
def T_spec_l05Sizes (list_a : Option Addr) (list_n : Nat) (list_e : Nat) (m : Nat) (H : AHeap) (K : (Option Addr) → Nat → Nat → AHeap → Prop) : Prop := ∃ (l_list : List Nat), IsL fF H list_a list_n l_list ∧ l_list.length < 1073741824 ∧ ((∀ (r1_a : Option Addr) (r1_n r1_e : Nat), ∀ H' : AHeap, Grow H H' → OwnS fF H' H.length r1_a r1_n r1_e (p_spec_l05Sizes l_list m) → K r1_a r1_n r1_e H'))
theorem T_spec_l05Sizes_i {list_a : Option Addr} {list_n : Nat} {list_e : Nat} {m : Nat} {H : AHeap} {K : (Option Addr) → Nat → Nat → AHeap → Prop} (h : ∃ (l_list : List Nat), IsL fF H list_a list_n l_list ∧ l_list.length < 1073741824 ∧ ((∀ (r1_a : Option Addr) (r1_n r1_e : Nat), ∀ H' : AHeap, Grow H H' → OwnS fF H' H.length r1_a r1_n r1_e (p_spec_l05Sizes l_list m) → K r1_a r1_n r1_e H'))) : T_spec_l05Sizes list_a list_n list_e m H K := h
theorem l05Sizes_go (l : List Nat) (m : Nat) : ∀ (μ : Nat) (i : Nat) (o : List Nat), l.length - i < μ → p_spec_l05Sizes_l1 l m μ o (i : Int) = o ++ (l.drop i).map fun x => p_spec_l03Size (fsub .f32 x m) := by
  intro μ
  induction μ with
  | zero => intro i o h; omega
  | succ μ ih =>
    intro i o hm
    rw [p_spec_l05Sizes_l1_s]
    by_cases h : i < l.length
    · rw [decide_eq_true (show (i : Int) < (l.length : Int) by omega), cond_true, Int.toNat_natCast]
      have := ih (i + 1) (o ++ [p_spec_l03Size (fsub .f32 (l.getD i 0) m)]) o3
      rw [show ((i + 1 : Nat) : Int) = (i : Int) + 1 by omega] at this
      rw [this, List.drop_eq_getElem_cons h, List.map_cons, List.getD_eq_getElem?_getD, List.getElem?_eq_getElem h, Option.getD_some, List.append_assoc]; rfl
    · rw [decide_eq_false (show ¬ (i : Int) < (l.length : Int) by omega), cond_false, List.drop_eq_nil_of_le o3]; simp
theorem l05Sizes_map (l : List Nat) (m : Nat) : p_spec_l05Sizes l m = l.map fun x => p_spec_l03Size (fsub .f32 x m) := by
  rw [p_spec_l05Sizes_eq]
  have := l05Sizes_go l m (Int.toNat ((l.length : Int) - (0 : Int)) + 1) 0 [] o3
  simpa using this
theorem l05Sizes_len (l : List Nat) (m : Nat) : (p_spec_l05Sizes l m).length = l.length := by rw [l05Sizes_map, List.length_map]
/-! spec_l05Sizes: function 172 -/
def E_spec_l05Sizes : Env := envOf [(201, S_spec_l03Size)]
def F_spec_l05Sizes : List Value → AHeap → (Value → AHeap → Prop) → Prop
  | [.slice list_a list_n list_e, .float .f32 m], H, K => T_spec_l05Sizes list_a list_n list_e m H fun (r1_a : Option Addr) (r1_n : Nat) (r1_e : Nat) (H' : AHeap) => K (.slice r1_a r1_n r1_e) H'
  | _, _, _ => False
def S_spec_l05Sizes : FSpec := { F := F_spec_l05Sizes, quiet := false, tame := true }
theorem spec_l05Sizes_vc (list_a : Option Addr) (list_n : Nat) (list_e : Nat) (m : Nat) (H : AHeap) (K : Value → AHeap → Prop) : bodyL Try.prog E_spec_l05Sizes Try.f172 [.slice list_a list_n list_e, .float .f32 m] H K =
  (Al [] H fun b1 H1 => loopK (exL Try.prog E_spec_l05Sizes (cl (cl (cr (cl (cr (cr (bodyC Try.f172))))))) 1571 16 [(0, 32)]) [.slice list_a list_n list_e, .float .f32 m, ud, ud, ud, .slice (some ⟨b1, 0, none⟩) 0 1, ud, ud, ud, .int .i64 (list_n : Int), .int .i64 0, ud, ud, ud, ud, ud, ud, ud, ud, ud, ud, ud, ud, ud, ud] H1 (blockQ 0 (seqQ (exL Try.prog E_spec_l05Sizes (cr (cr (cr (bodyC Try.f172)))) 16 16 []) (retK Try.prog Try.f172 K)))) := by kernel_rfl
abbrev spec_l05Sizes_P1 (list_a : Option Addr) (list_e : Nat) (list_n : Nat) (m : Nat) (vout_a : Option Addr) (vout_n : Nat) (vout_e : Nat) (t10 : Int)  : List Value := [.slice list_a list_n list_e, .float .f32 m, ud, ud, ud, .slice vout_a vout_n vout_e, ud, ud, ud, .int .i64 (list_n : Int), .int .i64 t10, ud, ud, ud, ud, ud, ud, ud, ud, ud, ud, ud, ud, ud, ud]
theorem spec_l05Sizes_r1 (list_a : Option Addr) (list_e : Nat) (list_n : Nat) (m : Nat) (vout_a : Option Addr) (vout_n : Nat) (vout_e : Nat) (t10 : Int)  (H : AHeap) (R : Post) : exL Try.prog E_spec_l05Sizes (cl (cl (cr (cl (cr (cr (bodyC Try.f172))))))) 1571 16 [(0, 32)] (spec_l05Sizes_P1 list_a list_e list_n m vout_a vout_n vout_e t10) H R =
  (Br (decide ((t10 : Int) < (list_n : Int))) ((0 : Int) ≤ t10 ∧ t10 < (list_n : Int) ∧ ∃ b2 f1, (list_a : Option Addr) = some ⟨b2, f1, none⟩ ∧ ∃ x1 : Nat,  rdC H b2 (f1 + (t10 : Int).toNat * 1) = some (.float .f32 x1) ∧ T_spec_l03Size (fsub .f32 x1 m) H fun (r1 : Nat) (H2 : AHeap) => Al [.float .f32 r1] H2 fun b3 H3 => ∃ o1 w1 : List Value, ownB H3 vout_a vout_n vout_e 1 = some o1 ∧ rdS H3 (some ⟨b3, 0, none⟩) (1 * 1) = some w1 ∧ ((vout_a : Option Addr) = none → 0 < (1 : Nat)) ∧ (vout_n : Nat) + 1 < most ∧ Ap H3 (killB H3 vout_a ++ [some ⟨o1 ++ w1, true⟩]) fun b4 H4 => R .normal [.slice list_a list_n list_e, .float .f32 m, ud, ud, ud, .slice (some ⟨b4, 0, none⟩) (vout_n + 1) 1, ud, ud, ud, .int .i64 (list_n : Int), .int .i64 (IntKind.wrap .i64 (t10 + 1)), ud, ud, ud, ud, ud, ud, ud, ud, ud, ud, ud, ud, ud, ud] H4) (R (.exit 0) [ud, ud, ud, ud, ud, .slice vout_a vout_n vout_e, ud, ud, ud, ud, ud, ud, ud, ud, ud, ud, ud, ud, ud, ud, ud, ud, ud, ud, ud] H)) := by kernel_rfl
def spec_l05Sizes_I1 (list_a : Option Addr) (list_e : Nat) (list_n : Nat) (m : Nat) (Inv : Nat → (Option Addr) → Nat → Nat → Int → AHeap → Prop) : Nat → List Value → AHeap → Prop := fun μ tm H => ∃ (vout_a : Option Addr), ∃ (vout_n : Nat), ∃ (vout_e : Nat), ∃ (t10 : Int), tm = (spec_l05Sizes_P1 list_a list_e list_n m vout_a vout_n vout_e t10) ∧ Inv μ vout_a vout_n vout_e t10 H
theorem spec_l05Sizes_L1 (list_a : Option Addr) (list_e : Nat) (list_n : Nat) (m : Nat) {Q : Post} (Inv : Nat → (Option Addr) → Nat → Nat → Int → AHeap → Prop) (ν : Nat) (vout_a : Option Addr) (vout_n : Nat) (vout_e : Nat) (t10 : Int)  (H : AHeap) (h0 : Inv ν vout_a vout_n vout_e t10 H)
    (hs : ∀ (μ : Nat) (vout_a : Option Addr) (vout_n : Nat) (vout_e : Nat) (t10 : Int)  (H : AHeap), Inv μ vout_a vout_n vout_e t10 H → exL Try.prog E_spec_l05Sizes (cl (cl (cr (cl (cr (cr (bodyC Try.f172))))))) 1571 16 [(0, 32)] (spec_l05Sizes_P1 list_a list_e list_n m vout_a vout_n vout_e t10) H (loopQ (spec_l05Sizes_I1 list_a list_e list_n m Inv) μ Q)) : loopK (exL Try.prog E_spec_l05Sizes (cl (cl (cr (cl (cr (cr (bodyC Try.f172))))))) 1571 16 [(0, 32)]) (spec_l05Sizes_P1 list_a list_e list_n m vout_a vout_n vout_e t10) H Q :=
  ⟨spec_l05Sizes_I1 list_a list_e list_n m Inv, ν, ⟨vout_a, vout_n, vout_e, t10, rfl, h0⟩, fun μ tm H h => by obtain ⟨vout_a, vout_n, vout_e, t10, rfl, hI⟩ := h; exact hs μ vout_a vout_n vout_e t10  H hI⟩
theorem spec_l05Sizes_n1 {list_a : Option Addr} {list_e : Nat} {list_n : Nat} {m : Nat} {Q : Post} {Inv : Nat → (Option Addr) → Nat → Nat → Int → AHeap → Prop} {μ : Nat} (μ' : Nat) {vout_a : Option Addr} {vout_n : Nat} {vout_e : Nat} {t10 : Int}  {H : AHeap} (hm : μ' < μ) (hI : Inv μ' vout_a vout_n vout_e t10 H) : loopQ (spec_l05Sizes_I1 list_a list_e list_n m Inv) μ Q .normal (spec_l05Sizes_P1 list_a list_e list_n m vout_a vout_n vout_e t10) H := ⟨μ', hm, vout_a, vout_n, vout_e, t10, rfl, hI⟩
theorem spec_l05Sizes_x1_0 (vout_a : Option Addr) (vout_n : Nat) (vout_e : Nat) (H : AHeap) (K : Value → AHeap → Prop)  {I : Nat → List Value → AHeap → Prop} {μ : Nat} : loopQ I μ (blockQ 0 (seqQ (exL Try.prog E_spec_l05Sizes (cr (cr (cr (bodyC Try.f172)))) 16 16 []) (retK Try.prog Try.f172 K))) (.exit 0) [ud, ud, ud, ud, ud, .slice vout_a vout_n vout_e, ud, ud, ud, ud, ud, ud, ud, ud, ud, ud, ud, ud, ud, ud, ud, ud, ud, ud, ud] H =
  (K (.slice vout_a vout_n vout_e) H) := by kernel_rfl
theorem E_spec_l05Sizes_ok : ∀ g, FnOk Try.prog g (E_spec_l05Sizes g) := FnOk.envOf (by
  intro x hx
  simp only [List.mem_cons, List.not_mem_nil, or_false] at hx
  subst hx; exact spec_l03Size_ok)
theorem o9 {P : Prop} (h : P := by first | rfl | omega | (simp only [List.length_set]; done) | (simp only [List.length_set, List.length_replicate]; omega)) : P := h
theorem o6 {P : Prop} (h : P := by first | (simp only [List.length_map, List.length_cons, List.length_nil, List.length_append]; done) | (simp only [List.length_map, List.length_cons, List.length_nil, List.length_append]; omega) | (simp only [List.length_map, List.length_cons, List.length_nil, List.length_append, List.length_take, List.length_drop]; omega)) : P := h
theorem o8 {P : Prop} (h : P := by first | omega | (simp only [List.length_append, List.length_cons, List.length_nil]; done) | (simp only [List.length_append, List.length_cons, List.length_nil]; omega) | (simp only [List.length_append, List.length_cons, List.length_nil, List.length_take, List.length_drop]; omega)) : P := h
set_option maxHeartbeats 1000000 in
theorem spec_l05Sizes_main (list_a : Option Addr) (list_n : Nat) (list_e : Nat) (m : Nat) (H : AHeap) (K : Value → AHeap → Prop) (h : T_spec_l05Sizes list_a list_n list_e m H fun (r1_a : Option Addr) (r1_n : Nat) (r1_e : Nat) (H' : AHeap) => K (.slice r1_a r1_n r1_e) H') : bodyL Try.prog E_spec_l05Sizes Try.f172 [.slice list_a list_n list_e, .float .f32 m] H K := by
  rw [spec_l05Sizes_vc]
  obtain ⟨l_list, i_list, bd_48, hk⟩ := h
  obtain rfl := i_list.eqn
  have e : (p_spec_l05Sizes l_list m) = _ := rfl
  have e := e.trans (p_spec_l05Sizes_eq l_list m)
  have g0 := Grow.refl H
  refine Al.intro (fun b_1 H_1 hb_2 hl_3 g_4 o_5 => ?_)
  have o_5 : Own H_1 b_1 ((([] : List Nat)).map fF) := o_5
  have l_7 := g_4.1
  have g_8 := g0.trans g_4
  have l_9 := g_8.1
  have w_47 := o_5.lt
  refine spec_l05Sizes_L1 _ _ _ _ (fun (μ : Nat) (vout_a : Option Addr) (vout_n : Nat) (vout_e : Nat) (t10 : Int) (H_2 : AHeap) => ∃ (l_vout : List Nat), ∃ (b_10 : Nat), vout_a = some ⟨b_10, 0, none⟩ ∧ vout_n = l_vout.length ∧ vout_e = 1 ∧ Own H_2 b_10 (l_vout.map fF) ∧ Grow H H_2 ∧ H.length ≤ b_10 ∧ (0 : Int) ≤ t10 ∧ t10 ≤ (l_list.length : Int) ∧ (l_vout.length : Int) ≤ t10 - (0 : Int) + 0 ∧ (l_list.length : Int) - t10 ≤ (μ : Int) ∧ p_spec_l05Sizes l_list m = p_spec_l05Sizes_l1 l_list m (μ + 1) l_vout t10) (Int.toNat ((l_list.length : Int) - (0 : Int))) _ _ _ _ H_1 ?_ ?_
  · exact ⟨_, _, rfl, o9, rfl, o_5, g_8, o3, o5, o5, o5, o3, e⟩
  · intro μ vout_a vout_n vout_e t10  H_2 hI
    obtain ⟨l_vout, b_10, rfl, rfl, rfl, o_11, g_12, l_13, v_14, v_15, v_16, hμ, e⟩ := hI
    rw [spec_l05Sizes_r1]
    have e := e.trans (p_spec_l05Sizes_l1_s l_list m μ l_vout t10)
    have w_17 := o_11.lt
    have l_18 := g_12.1
    refine Br.intro (fun c_19 => ?_) (fun c_19 => ?_)
    · have e := e.trans (cond_t c_19)
      have c_19' := of_decide_eq_true c_19
      obtain ⟨b_20, f_21, q_22⟩ := ((i_list.grow g_12)).pos o0
      refine ⟨by omega, by omega, b_20, f_21, q_22, ?_⟩
      refine ⟨((l_list).getD (t10 : Int).toNat 0), (i_list).rd g_12 q_22 o3 _, ?_⟩
      refine T_spec_l03Size_i ?_
      refine Al.intro (fun b_23 H_3 hb_24 hl_25 g_26 o_27 => ?_)
      have o_27 : Own H_3 b_23 (([((p_spec_l03Size (fsub .f32 (((l_list).getD (t10 : Int).toNat 0)) m)))]).map fF) := o_27
      have l_29 := g_26.1
      have g_30 := g_12.trans g_26
      have l_31 := g_30.1
      have o_32 := o_11.grow g_26
      have w_33 := o_32.lt
      have w_46 := o_27.lt
      refine ⟨_, _, o_32.ownB o6 rfl, (isl_rdS (o_27.isL o9)), (fun h => by cases h), o12, ?_⟩
      refine Ap.app o_32 rfl rfl (fun b_38 H_4 q_44 hl_34 o_35 k_36 => ?_)
      have o_35 := map_snoc o_35
      have l_39 := k_36.1
      have g_40 := g_30.keep (b := b_10) o3 k_36
      have l_41 := g_40.1
      have o_42 := o_27.keep o3 k_36
      have w_43 := o_42.lt
      have w_45 := o_35.lt
      rw [show IntKind.wrap .i64 (t10 + 1) = (t10 + 1) from wrap64 o3 o3]
      refine spec_l05Sizes_n1 (μ - 1) o10 ⟨_, _, rfl, o8, rfl, o_35, g_40, o3, o1, o1, o1, o10, (by rw [show μ - 1 + 1 = μ from by first | omega]; exact e)⟩
    · have e := e.trans (cond_f c_19)
      have c_19' := of_decide_eq_false c_19
      rw [spec_l05Sizes_x1_0]
      rw [e] at hk
      exact hk _ _ _ H_2 g_12 (o_11.ownS o9 o3)
theorem spec_l05Sizes_ok : FnOk Try.prog 172 S_spec_l05Sizes := by
  refine FnOk.body mix_ok E_spec_l05Sizes_ok Try.func172 rfl (by kernel_rfl) (by kernel_rfl) ?_ ?_ ?_ ?_ ?_
  · intro args H K K' h hk
    simp only [S_spec_l05Sizes] at *
    unfold F_spec_l05Sizes at *
    split at hk
    · obtain ⟨l_list, i_list, bd_48, k⟩ := hk
      exact ⟨l_list, i_list, bd_48, (fun r1_a r1_n r1_e H' gg ow0 => h _ _ (k r1_a r1_n r1_e H' gg ow0))⟩
    · exact hk.elim
  · intro hq; cases hq
  · intro args H K hk
    simp only [S_spec_l05Sizes] at *
    unfold F_spec_l05Sizes at *
    split at hk
    · obtain ⟨l_list, i_list, bd_48, k⟩ := hk
      exact liveS fun a n e H1 g o => ⟨_, _, k a n e H1 g o⟩
    · exact hk.elim
  · intro _ args H K hk
    simp only [S_spec_l05Sizes] at *
    unfold F_spec_l05Sizes at *
    split at hk
    · obtain ⟨l_list, i_list, bd_48, k⟩ := hk
      exact ⟨l_list, i_list, bd_48, (fun r1_a r1_n r1_e H' gg ow0 => ⟨gg, k r1_a r1_n r1_e H' gg ow0⟩)⟩
    · exact hk.elim
  · have mm := @spec_l05Sizes_main
    have ml := fun (args : List Value) (H : AHeap) (K : Value → AHeap → Prop) => bodyL_body (P := Try.prog) (env := E_spec_l05Sizes ) (fn := Try.f172) (args := args) (H := H) (K := K) E_spec_l05Sizes_ok 
    revert mm ml
    generalize bodyK Try.prog E_spec_l05Sizes Try.f172 = Q
    generalize bodyL Try.prog E_spec_l05Sizes Try.f172 = QL
    intro mm ml args H K hk
    simp only [S_spec_l05Sizes] at *
    unfold F_spec_l05Sizes at *
    split at hk
    · exact ml _ H K (mm _ _ _ _ H K hk)
    · exact hk.elim

def p_spec_l05Sorted_l2 (l_list : List Nat) (l_vout : List Nat) (t11 : Int) (k2_2 : (List Nat) → Bool → Int → (List Nat)) : Nat → (List Nat) → Bool → Int → (List Nat)
  | 0, _, _, _ => []
  | μ2 + 1, l_next, put, t17 => (bif decide ((t17 : Int) < (l_vout.length : Int)) then (bif !put then (bif flt .f32 (((l_list).getD (t11 : Int).toNat 0)) (((l_vout).getD (t17 : Int).toNat 0)) then (p_spec_l05Sorted_l2 l_list l_vout t11 k2_2 μ2 (((l_next ++ [(((l_list).getD (t11 : Int).toNat 0))]) ++ [(((l_vout).getD (t17 : Int).toNat 0))])) true (t17 + 1)) else (p_spec_l05Sorted_l2 l_list l_vout t11 k2_2 μ2 ((l_next ++ [(((l_vout).getD (t17 : Int).toNat 0))])) put (t17 + 1))) else (p_spec_l05Sorted_l2 l_list l_vout t11 k2_2 μ2 ((l_next ++ [(((l_vout).getD (t17 : Int).toNat 0))])) put (t17 + 1))) else (k2_2 l_next put t17))
def p_spec_l05Sorted_l2_s := fun l_list l_vout t11 k2_2 μ2 l_next put t17 => @p_spec_l05Sorted_l2.eq_2 l_list l_vout t11 k2_2 l_next put t17 μ2
def p_spec_l05Sorted_l1 (l_list : List Nat) : Nat → (List Nat) → Int → (List Nat)
  | 0, _, _ => []
  | μ + 1, l_vout, t11 => (bif decide ((t11 : Int) < (l_list.length : Int)) then (p_spec_l05Sorted_l2 l_list l_vout t11 (fun (l_next : List Nat) (put : Bool) (t17 : Int) => (bif !put then (p_spec_l05Sorted_l1 l_list μ ((l_next ++ [(((l_list).getD (t11 : Int).toNat 0))])) (t11 + 1)) else (p_spec_l05Sorted_l1 l_list μ l_next (t11 + 1)))) (Int.toNat ((l_vout.length : Int) - (0 : Int)) + 1) ([] : List Nat) false (0 : Int)) else l_vout)
def p_spec_l05Sorted_l1_s := fun l_list μ l_vout t11 => @p_spec_l05Sorted_l1.eq_2 l_list l_vout t11 μ
def p_spec_l05Sorted (l_list : List Nat) : (List Nat) := (p_spec_l05Sorted_l1 l_list (Int.toNat ((l_list.length : Int) - (0 : Int)) + 1) ([] : List Nat) (0 : Int))
def p_spec_l05Sorted_eq := @p_spec_l05Sorted.eq_1
def T_spec_l05Sorted (list_a : Option Addr) (list_n : Nat) (list_e : Nat) (H : AHeap) (K : (Option Addr) → Nat → Nat → AHeap → Prop) : Prop := ∃ (l_list : List Nat), IsL fF H list_a list_n l_list ∧ l_list.length < 1073741824 ∧ ((∀ (r1_a : Option Addr) (r1_n r1_e : Nat), ∀ H' : AHeap, Grow H H' → OwnS fF H' H.length r1_a r1_n r1_e (p_spec_l05Sorted l_list) → K r1_a r1_n r1_e H'))
theorem T_spec_l05Sorted_i {list_a : Option Addr} {list_n : Nat} {list_e : Nat} {H : AHeap} {K : (Option Addr) → Nat → Nat → AHeap → Prop} (h : ∃ (l_list : List Nat), IsL fF H list_a list_n l_list ∧ l_list.length < 1073741824 ∧ ((∀ (r1_a : Option Addr) (r1_n r1_e : Nat), ∀ H' : AHeap, Grow H H' → OwnS fF H' H.length r1_a r1_n r1_e (p_spec_l05Sorted l_list) → K r1_a r1_n r1_e H'))) : T_spec_l05Sorted list_a list_n list_e H K := h
def sins (x : Nat) : List Nat → List Nat
  | [] => [x]
  | y :: r => bif flt .f32 x y then x :: y :: r else y :: sins x r
theorem sins_length (x : Nat) : ∀ l : List Nat, (sins x l).length = l.length + 1
  | [] => rfl
  | y :: r => by
    unfold sins
    cases flt .f32 x y
    · rw [cond_false, List.length_cons, sins_length x r, List.length_cons]
    · rw [cond_true]; rfl
theorem l05Sorted_in2 (l out : List Nat) (t : Int) (k : List Nat → Bool → Int → List Nat) (g : List Nat → List Nat) (hk : ∀ n j, k n true j = g n) : ∀ (μ : Nat) (i : Nat) (next : List Nat), out.length - i < μ →
    p_spec_l05Sorted_l2 l out t k μ next true (i : Int) = g (next ++ out.drop i) := by
  intro μ
  induction μ with
  | zero => intro i next h; omega
  | succ μ ih =>
    intro i next hm
    rw [p_spec_l05Sorted_l2_s]
    by_cases h : i < out.length
    · rw [decide_eq_true (show (i : Int) < (out.length : Int) by omega), cond_true, Bool.not_true, cond_false, Int.toNat_natCast]
      have := ih (i + 1) (next ++ [out.getD i 0]) o3
      rw [show ((i + 1 : Nat) : Int) = (i : Int) + 1 by omega] at this
      rw [this, List.drop_eq_getElem_cons h, List.getD_eq_getElem?_getD, List.getElem?_eq_getElem h, Option.getD_some, List.append_assoc]; rfl
    · rw [decide_eq_false (show ¬ (i : Int) < (out.length : Int) by omega), cond_false, hk, List.drop_eq_nil_of_le o3, List.append_nil]
theorem l05Sorted_in (l out : List Nat) (t : Int) (k : List Nat → Bool → Int → List Nat) (g : List Nat → List Nat) (hk : ∀ n j, k n true j = g n) (hk2 : ∀ n j, k n false j = g (n ++ [l.getD t.toNat 0])) : ∀ (μ : Nat) (i : Nat) (next : List Nat), out.length - i < μ →
    p_spec_l05Sorted_l2 l out t k μ next false (i : Int) = g (next ++ sins (l.getD t.toNat 0) (out.drop i)) := by
  intro μ
  induction μ with
  | zero => intro i next h; omega
  | succ μ ih =>
    intro i next hm
    rw [p_spec_l05Sorted_l2_s]
    by_cases h : i < out.length
    · rw [decide_eq_true (show (i : Int) < (out.length : Int) by omega), cond_true, Bool.not_false, cond_true, Int.toNat_natCast]
      have e1 : out.getD i 0 = out[i] := by rw [List.getD_eq_getElem?_getD, List.getElem?_eq_getElem h, Option.getD_some]
      rw [List.drop_eq_getElem_cons h, e1]
      unfold sins
      cases flt .f32 (l.getD t.toNat 0) out[i]
      · rw [cond_false, cond_false]
        have := ih (i + 1) (next ++ [out[i]]) o3
        rw [show ((i + 1 : Nat) : Int) = (i : Int) + 1 by omega] at this
        rw [this, List.append_assoc]; rfl
      · rw [cond_true, cond_true]
        have := l05Sorted_in2 l out t k g hk μ (i + 1) (next ++ [l.getD t.toNat 0] ++ [out[i]]) o3
        rw [show ((i + 1 : Nat) : Int) = (i : Int) + 1 by omega] at this
        rw [this, List.append_assoc, List.append_assoc]; rfl
    · rw [decide_eq_false (show ¬ (i : Int) < (out.length : Int) by omega), cond_false, hk2, List.drop_eq_nil_of_le o3]; rfl
theorem l05Sorted_out (l : List Nat) : ∀ (μ : Nat) (i : Nat) (out : List Nat), l.length - i < μ → p_spec_l05Sorted_l1 l μ out (i : Int) = (l.drop i).foldl (fun o x => sins x o) out := by
  intro μ
  induction μ with
  | zero => intro i out h; omega
  | succ μ ih =>
    intro i out hm
    rw [p_spec_l05Sorted_l1_s]
    by_cases h : i < l.length
    · rw [decide_eq_true (show (i : Int) < (l.length : Int) by omega), cond_true]
      have := l05Sorted_in l out i (g := fun n => p_spec_l05Sorted_l1 l μ n ((i : Int) + 1)) (k := fun (l_next : List Nat) (put : Bool) (t17 : Int) => (bif !put then (p_spec_l05Sorted_l1 l μ ((l_next ++ [(((l).getD ((i : Int) : Int).toNat 0))])) ((i : Int) + 1)) else (p_spec_l05Sorted_l1 l μ l_next ((i : Int) + 1))))
        (fun n j => by rw [Bool.not_true, cond_false]) (fun n j => by rw [Bool.not_false, cond_true]) (Int.toNat ((out.length : Int) - (0 : Int)) + 1) 0 [] o3
      refine Eq.trans this ?_
      have h2 := ih (i + 1) ([] ++ sins (l.getD (i : Int).toNat 0) (out.drop 0)) o3
      rw [show ((i + 1 : Nat) : Int) = (i : Int) + 1 by omega] at h2
      rw [h2, List.drop_eq_getElem_cons h, List.foldl_cons, List.drop_zero, List.nil_append, Int.toNat_natCast, List.getD_eq_getElem?_getD, List.getElem?_eq_getElem h, Option.getD_some]
    · rw [decide_eq_false (show ¬ (i : Int) < (l.length : Int) by omega), cond_false, List.drop_eq_nil_of_le o3]; rfl
theorem l05Sorted_fold (l : List Nat) : p_spec_l05Sorted l = l.foldl (fun o x => sins x o) [] := by
  rw [p_spec_l05Sorted_eq]
  have := l05Sorted_out l (Int.toNat ((l.length : Int) - (0 : Int)) + 1) 0 [] o3
  simpa using this
theorem fold_sins_length : ∀ (l out : List Nat), (l.foldl (fun o x => sins x o) out).length = out.length + l.length
  | [], out => rfl
  | x :: l, out => by rw [List.foldl_cons, fold_sins_length l, sins_length, List.length_cons]; omega
theorem l05Sorted_len (l : List Nat) : (p_spec_l05Sorted l).length = l.length := by rw [l05Sorted_fold, fold_sins_length]; simp
theorem sins_split {x : Nat} (hx : (FloatKind.f32.format.read x).isNaN = false) : ∀ (out : List Nat), So.Asc kappa out → (∀ y ∈ out, (FloatKind.f32.format.read y).isNaN = false) →
    ∃ A B, out = A ++ B ∧ sins x out = A ++ [x] ++ B ∧ (∀ y ∈ A, kappa y ≤ kappa x) ∧ ∀ y ∈ B, kappa x < kappa y := by
  intro out
  induction out with
  | nil => intro _ _; exact ⟨[], [], rfl, rfl, by simp, by simp⟩
  | cons y r ih =>
    intro ha hn
    unfold sins
    rw [flt_kappa hx (hn y (by simp))]
    by_cases h : kappa x < kappa y
    · rw [decide_eq_true h, cond_true]
      refine ⟨[], y :: r, rfl, rfl, by simp, fun z hz => ?_⟩
      rcases List.mem_cons.1 hz with e | hz
      · rw [e]; exact h
      · have := (List.pairwise_cons.1 ha).1 z hz; omega
    · rw [decide_eq_false h, cond_false]
      obtain ⟨A, B, e1, e2, h1, h2⟩ := ih (List.pairwise_cons.1 ha).2 (fun z hz => hn z (by simp [hz]))
      refine ⟨y :: A, B, by rw [e1]; rfl, by rw [e2]; rfl, fun z hz => ?_, h2⟩
      rcases List.mem_cons.1 hz with e | hz
      · rw [e]; omega
      · exact h1 z hz
theorem fold_sins_ss : ∀ (l pre out : List Nat), (∀ y ∈ pre ++ l, (FloatKind.f32.format.read y).isNaN = false) → So.SS kappa pre out → So.SS kappa (pre ++ l) (l.foldl (fun o x => sins x o) out)
  | [], pre, out, _, h => by simpa using h
  | x :: l, pre, out, hn, h => by
    rw [List.foldl_cons, show pre ++ x :: l = (pre ++ [x]) ++ l by simp]
    refine fold_sins_ss l (pre ++ [x]) (sins x out) (by simpa using hn) ?_
    obtain ⟨A, B, e1, e2, h1, h2⟩ := sins_split (hn x (by simp)) out h.asc (fun y hy => hn y (List.mem_append_left _ ((h.stab.mem y).1 hy)))
    have := So.SS.insert (κ := kappa) (A := A) (B := B) (x := x) (by rw [← e1]; exact h.asc) h1 h2
    rw [e2]
    refine So.SS.behind ?_ this
    rw [← e1]
    exact h.stab.app (So.Stab.refl [x])
/-- The reference's sorting sorts, and keeps equals in order. -/
theorem l05Sorted_ss (l : List Nat) (h : ∀ y ∈ l, (FloatKind.f32.format.read y).isNaN = false) : So.SS kappa l (p_spec_l05Sorted l) := by
  rw [l05Sorted_fold]
  have := fold_sins_ss l [] [] (by simpa using h) (So.SS.refl So.Asc.nil)
  simpa using this
/-! spec_l05Sorted: function 200 -/
def E_spec_l05Sorted : Env := envOf []
def F_spec_l05Sorted : List Value → AHeap → (Value → AHeap → Prop) → Prop
  | [.slice list_a list_n list_e], H, K => T_spec_l05Sorted list_a list_n list_e H fun (r1_a : Option Addr) (r1_n : Nat) (r1_e : Nat) (H' : AHeap) => K (.slice r1_a r1_n r1_e) H'
  | _, _, _ => False
def S_spec_l05Sorted : FSpec := { F := F_spec_l05Sorted, quiet := false, tame := true }
theorem spec_l05Sorted_vc (list_a : Option Addr) (list_n : Nat) (list_e : Nat) (H : AHeap) (K : Value → AHeap → Prop) : bodyL Try.prog E_spec_l05Sorted Try.f200 [.slice list_a list_n list_e] H K =
  (Al [] H fun b1 H1 => loopK (exL Try.prog E_spec_l05Sorted (cl (cl (cr (cl (cr (cr (bodyC Try.f200))))))) 3081 4 [(0, 8)]) [.slice list_a list_n list_e, ud, ud, .slice (some ⟨b1, 0, none⟩) 0 1, ud, ud, ud, ud, ud, ud, .int .i64 (list_n : Int), .int .i64 0, ud, ud, ud, ud, ud, ud, ud, ud, ud, ud, ud, ud, ud, ud, ud, ud, ud, ud, ud, ud, ud, ud, ud, ud, ud, ud, ud, ud, ud, ud, ud, ud, ud, ud, ud, ud, ud, ud, ud, ud, ud, ud, ud, ud, ud, ud, ud, ud] H1 (blockQ 0 (seqQ (exL Try.prog E_spec_l05Sorted (cr (cr (cr (bodyC Try.f200)))) 4 4 []) (retK Try.prog Try.f200 K)))) := by kernel_rfl
abbrev spec_l05Sorted_P1 (list_a : Option Addr) (list_e : Nat) (list_n : Nat) (vout_a : Option Addr) (vout_n : Nat) (vout_e : Nat) (t11 : Int)  : List Value := [.slice list_a list_n list_e, ud, ud, .slice vout_a vout_n vout_e, ud, ud, ud, ud, ud, ud, .int .i64 (list_n : Int), .int .i64 t11, ud, ud, ud, ud, ud, ud, ud, ud, ud, ud, ud, ud, ud, ud, ud, ud, ud, ud, ud, ud, ud, ud, ud, ud, ud, ud, ud, ud, ud, ud, ud, ud, ud, ud, ud, ud, ud, ud, ud, ud, ud, ud, ud, ud, ud, ud, ud, ud]
theorem spec_l05Sorted_r1 (list_a : Option Addr) (list_e : Nat) (list_n : Nat) (vout_a : Option Addr) (vout_n : Nat) (vout_e : Nat) (t11 : Int)  (H : AHeap) (R : Post) : exL Try.prog E_spec_l05Sorted (cl (cl (cr (cl (cr (cr (bodyC Try.f200))))))) 3081 4 [(0, 8)] (spec_l05Sorted_P1 list_a list_e list_n vout_a vout_n vout_e t11) H R =
  (Br (decide ((t11 : Int) < (list_n : Int))) (Al [] H fun b2 H2 => loopK (exL Try.prog E_spec_l05Sorted (cl (cl (cr (cl (cr (cr (cr (cl (cl (cr (cr (cl (cl (cr (cl (cr (cr (bodyC Try.f200)))))))))))))))))) 199801 4 [(2, 3185), (1, 3081), (0, 8)]) [.slice list_a list_n list_e, ud, ud, .slice vout_a vout_n vout_e, .int .i64 t11, .slice (some ⟨b2, 0, none⟩) 0 1, .bool false, ud, ud, ud, .int .i64 (list_n : Int), .int .i64 t11, ud, ud, ud, ud, .int .i64 (vout_n : Int), .int .i64 0, ud, ud, ud, ud, ud, ud, ud, ud, ud, ud, ud, ud, ud, ud, ud, ud, ud, ud, ud, ud, ud, ud, ud, ud, ud, ud, ud, ud, ud, ud, ud, ud, ud, ud, ud, ud, ud, ud, ud, ud, ud, ud] H2 (blockQ 2 (seqQ (exL Try.prog E_spec_l05Sorted (cr (cr (cr (cr (cl (cl (cr (cr (cl (cl (cr (cl (cr (cr (bodyC Try.f200))))))))))))))) 3081 4 [(1, 3081), (0, 8)]) (blockQ 1 (seqQ (exL Try.prog E_spec_l05Sorted (cr (cr (cr (cl (cl (cr (cl (cr (cr (bodyC Try.f200)))))))))) 3081 4 [(0, 8)]) (R)))))) (R (.exit 0) [ud, ud, ud, .slice vout_a vout_n vout_e, ud, ud, ud, ud, ud, ud, ud, ud, ud, ud, ud, ud, ud, ud, ud, ud, ud, ud, ud, ud, ud, ud, ud, ud, ud, ud, ud, ud, ud, ud, ud, ud, ud, ud, ud, ud, ud, ud, ud, ud, ud, ud, ud, ud, ud, ud, ud, ud, ud, ud, ud, ud, ud, ud, ud, ud] H)) := by kernel_rfl
def spec_l05Sorted_I1 (list_a : Option Addr) (list_e : Nat) (list_n : Nat) (Inv : Nat → (Option Addr) → Nat → Nat → Int → AHeap → Prop) : Nat → List Value → AHeap → Prop := fun μ tm H => ∃ (vout_a : Option Addr), ∃ (vout_n : Nat), ∃ (vout_e : Nat), ∃ (t11 : Int), tm = (spec_l05Sorted_P1 list_a list_e list_n vout_a vout_n vout_e t11) ∧ Inv μ vout_a vout_n vout_e t11 H
theorem spec_l05Sorted_L1 (list_a : Option Addr) (list_e : Nat) (list_n : Nat) {Q : Post} (Inv : Nat → (Option Addr) → Nat → Nat → Int → AHeap → Prop) (ν : Nat) (vout_a : Option Addr) (vout_n : Nat) (vout_e : Nat) (t11 : Int)  (H : AHeap) (h0 : Inv ν vout_a vout_n vout_e t11 H)
    (hs : ∀ (μ : Nat) (vout_a : Option Addr) (vout_n : Nat) (vout_e : Nat) (t11 : Int)  (H : AHeap), Inv μ vout_a vout_n vout_e t11 H → exL Try.prog E_spec_l05Sorted (cl (cl (cr (cl (cr (cr (bodyC Try.f200))))))) 3081 4 [(0, 8)] (spec_l05Sorted_P1 list_a list_e list_n vout_a vout_n vout_e t11) H (loopQ (spec_l05Sorted_I1 list_a list_e list_n Inv) μ Q)) : loopK (exL Try.prog E_spec_l05Sorted (cl (cl (cr (cl (cr (cr (bodyC Try.f200))))))) 3081 4 [(0, 8)]) (spec_l05Sorted_P1 list_a list_e list_n vout_a vout_n vout_e t11) H Q :=
  ⟨spec_l05Sorted_I1 list_a list_e list_n Inv, ν, ⟨vout_a, vout_n, vout_e, t11, rfl, h0⟩, fun μ tm H h => by obtain ⟨vout_a, vout_n, vout_e, t11, rfl, hI⟩ := h; exact hs μ vout_a vout_n vout_e t11  H hI⟩
theorem spec_l05Sorted_n1 {list_a : Option Addr} {list_e : Nat} {list_n : Nat} {Q : Post} {Inv : Nat → (Option Addr) → Nat → Nat → Int → AHeap → Prop} {μ : Nat} (μ' : Nat) {vout_a : Option Addr} {vout_n : Nat} {vout_e : Nat} {t11 : Int}  {H : AHeap} (hm : μ' < μ) (hI : Inv μ' vout_a vout_n vout_e t11 H) : loopQ (spec_l05Sorted_I1 list_a list_e list_n Inv) μ Q .normal (spec_l05Sorted_P1 list_a list_e list_n vout_a vout_n vout_e t11) H := ⟨μ', hm, vout_a, vout_n, vout_e, t11, rfl, hI⟩
theorem spec_l05Sorted_x1_0 (vout_a : Option Addr) (vout_n : Nat) (vout_e : Nat) (H : AHeap) (K : Value → AHeap → Prop)  {I : Nat → List Value → AHeap → Prop} {μ : Nat} : loopQ I μ (blockQ 0 (seqQ (exL Try.prog E_spec_l05Sorted (cr (cr (cr (bodyC Try.f200)))) 4 4 []) (retK Try.prog Try.f200 K))) (.exit 0) [ud, ud, ud, .slice vout_a vout_n vout_e, ud, ud, ud, ud, ud, ud, ud, ud, ud, ud, ud, ud, ud, ud, ud, ud, ud, ud, ud, ud, ud, ud, ud, ud, ud, ud, ud, ud, ud, ud, ud, ud, ud, ud, ud, ud, ud, ud, ud, ud, ud, ud, ud, ud, ud, ud, ud, ud, ud, ud, ud, ud, ud, ud, ud, ud] H =
  (K (.slice vout_a vout_n vout_e) H) := by kernel_rfl
abbrev spec_l05Sorted_P2 (list_a : Option Addr) (list_e : Nat) (list_n : Nat) (t11 : Int) (vout_a : Option Addr) (vout_e : Nat) (vout_n : Nat) (next_a : Option Addr) (next_n : Nat) (next_e : Nat) (put : Bool) (t17 : Int)  : List Value := [.slice list_a list_n list_e, ud, ud, .slice vout_a vout_n vout_e, .int .i64 t11, .slice next_a next_n next_e, .bool put, ud, ud, ud, .int .i64 (list_n : Int), .int .i64 t11, ud, ud, ud, ud, .int .i64 (vout_n : Int), .int .i64 t17, ud, ud, ud, ud, ud, ud, ud, ud, ud, ud, ud, ud, ud, ud, ud, ud, ud, ud, ud, ud, ud, ud, ud, ud, ud, ud, ud, ud, ud, ud, ud, ud, ud, ud, ud, ud, ud, ud, ud, ud, ud, ud]
theorem spec_l05Sorted_r2 (list_a : Option Addr) (list_e : Nat) (list_n : Nat) (t11 : Int) (vout_a : Option Addr) (vout_e : Nat) (vout_n : Nat) (next_a : Option Addr) (next_n : Nat) (next_e : Nat) (put : Bool) (t17 : Int)  (H : AHeap) (R : Post) : exL Try.prog E_spec_l05Sorted (cl (cl (cr (cl (cr (cr (cr (cl (cl (cr (cr (cl (cl (cr (cl (cr (cr (bodyC Try.f200)))))))))))))))))) 199801 4 [(2, 3185), (1, 3081), (0, 8)] (spec_l05Sorted_P2 list_a list_e list_n t11 vout_a vout_e vout_n next_a next_n next_e put t17) H R =
  (Br (decide ((t17 : Int) < (vout_n : Int))) (Br (!put) ((0 : Int) ≤ t11 ∧ t11 < (list_n : Int) ∧ ∃ b3 f1, (list_a : Option Addr) = some ⟨b3, f1, none⟩ ∧ ∃ x1 : Nat,  rdC H b3 (f1 + (t11 : Int).toNat * 1) = some (.float .f32 x1) ∧ (0 : Int) ≤ t17 ∧ t17 < (vout_n : Int) ∧ ∃ b4 f2, (vout_a : Option Addr) = some ⟨b4, f2, none⟩ ∧ ∃ x2 : Nat,  rdC H b4 (f2 + (t17 : Int).toNat * 1) = some (.float .f32 x2) ∧ Br (flt .f32 x1 x2) ((0 : Int) ≤ t11 ∧ t11 < (list_n : Int) ∧ ∃ b5 f3, (list_a : Option Addr) = some ⟨b5, f3, none⟩ ∧ ∃ x3 : Nat,  rdC H b5 (f3 + (t11 : Int).toNat * 1) = some (.float .f32 x3) ∧ Al [.float .f32 x3] H fun b6 H3 => ∃ o1 w1 : List Value, ownB H3 next_a next_n next_e 1 = some o1 ∧ rdS H3 (some ⟨b6, 0, none⟩) (1 * 1) = some w1 ∧ ((next_a : Option Addr) = none → 0 < (1 : Nat)) ∧ (next_n : Nat) + 1 < most ∧ Ap H3 (killB H3 next_a ++ [some ⟨o1 ++ w1, true⟩]) fun b7 H4 => (0 : Int) ≤ t17 ∧ t17 < (vout_n : Int) ∧ ∃ b8 f4, (vout_a : Option Addr) = some ⟨b8, f4, none⟩ ∧ ∃ x4 : Nat,  rdC H4 b8 (f4 + (t17 : Int).toNat * 1) = some (.float .f32 x4) ∧ Al [.float .f32 x4] H4 fun b9 H5 => ∃ o2 w2 : List Value, ownB H5 (some ⟨b7, 0, none⟩) (next_n + 1) 1 1 = some o2 ∧ rdS H5 (some ⟨b9, 0, none⟩) (1 * 1) = some w2 ∧ ((some ⟨b7, 0, none⟩ : Option Addr) = none → 0 < (1 : Nat)) ∧ (next_n + 1 : Nat) + 1 < most ∧ Ap H5 (killB H5 (some ⟨b7, 0, none⟩) ++ [some ⟨o2 ++ w2, true⟩]) fun b10 H6 => R .normal [.slice list_a list_n list_e, ud, ud, .slice vout_a vout_n vout_e, .int .i64 t11, .slice (some ⟨b10, 0, none⟩) ((next_n + 1) + 1) 1, .bool true, ud, ud, ud, .int .i64 (list_n : Int), .int .i64 t11, ud, ud, ud, ud, .int .i64 (vout_n : Int), .int .i64 (IntKind.wrap .i64 (t17 + 1)), ud, ud, ud, ud, ud, ud, ud, ud, ud, ud, ud, ud, ud, ud, ud, ud, ud, ud, ud, ud, ud, ud, ud, ud, ud, ud, ud, ud, ud, ud, ud, ud, ud, ud, ud, ud, ud, ud, ud, ud, ud, ud] H6) ((0 : Int) ≤ t17 ∧ t17 < (vout_n : Int) ∧ ∃ b11 f5, (vout_a : Option Addr) = some ⟨b11, f5, none⟩ ∧ ∃ x5 : Nat,  rdC H b11 (f5 + (t17 : Int).toNat * 1) = some (.float .f32 x5) ∧ Al [.float .f32 x5] H fun b12 H7 => ∃ o3 w3 : List Value, ownB H7 next_a next_n next_e 1 = some o3 ∧ rdS H7 (some ⟨b12, 0, none⟩) (1 * 1) = some w3 ∧ ((next_a : Option Addr) = none → 0 < (1 : Nat)) ∧ (next_n : Nat) + 1 < most ∧ Ap H7 (killB H7 next_a ++ [some ⟨o3 ++ w3, true⟩]) fun b13 H8 => R .normal [.slice list_a list_n list_e, ud, ud, .slice vout_a vout_n vout_e, .int .i64 t11, .slice (some ⟨b13, 0, none⟩) (next_n + 1) 1, .bool put, ud, ud, ud, .int .i64 (list_n : Int), .int .i64 t11, ud, ud, ud, ud, .int .i64 (vout_n : Int), .int .i64 (IntKind.wrap .i64 (t17 + 1)), ud, ud, ud, ud, ud, ud, ud, ud, ud, ud, ud, ud, ud, ud, ud, ud, ud, ud, ud, ud, ud, ud, ud, ud, ud, ud, ud, ud, ud, ud, ud, ud, ud, ud, ud, ud, ud, ud, ud, ud, ud, ud] H8)) ((0 : Int) ≤ t17 ∧ t17 < (vout_n : Int) ∧ ∃ b14 f6, (vout_a : Option Addr) = some ⟨b14, f6, none⟩ ∧ ∃ x6 : Nat,  rdC H b14 (f6 + (t17 : Int).toNat * 1) = some (.float .f32 x6) ∧ Al [.float .f32 x6] H fun b15 H9 => ∃ o4 w4 : List Value, ownB H9 next_a next_n next_e 1 = some o4 ∧ rdS H9 (some ⟨b15, 0, none⟩) (1 * 1) = some w4 ∧ ((next_a : Option Addr) = none → 0 < (1 : Nat)) ∧ (next_n : Nat) + 1 < most ∧ Ap H9 (killB H9 next_a ++ [some ⟨o4 ++ w4, true⟩]) fun b16 H10 => R .normal [.slice list_a list_n list_e, ud, ud, .slice vout_a vout_n vout_e, .int .i64 t11, .slice (some ⟨b16, 0, none⟩) (next_n + 1) 1, .bool put, ud, ud, ud, .int .i64 (list_n : Int), .int .i64 t11, ud, ud, ud, ud, .int .i64 (vout_n : Int), .int .i64 (IntKind.wrap .i64 (t17 + 1)), ud, ud, ud, ud, ud, ud, ud, ud, ud, ud, ud, ud, ud, ud, ud, ud, ud, ud, ud, ud, ud, ud, ud, ud, ud, ud, ud, ud, ud, ud, ud, ud, ud, ud, ud, ud, ud, ud, ud, ud, ud, ud] H10)) (R (.exit 2) [.slice list_a list_n list_e, ud, ud, ud, .int .i64 t11, .slice next_a next_n next_e, .bool put, ud, ud, ud, .int .i64 (list_n : Int), .int .i64 t11, ud, ud, ud, ud, ud, ud, ud, ud, ud, ud, ud, ud, ud, ud, ud, ud, ud, ud, ud, ud, ud, ud, ud, ud, ud, ud, ud, ud, ud, ud, ud, ud, ud, ud, ud, ud, ud, ud, ud, ud, ud, ud, ud, ud, ud, ud, ud, ud] H)) := by kernel_rfl
def spec_l05Sorted_I2 (list_a : Option Addr) (list_e : Nat) (list_n : Nat) (t11 : Int) (vout_a : Option Addr) (vout_e : Nat) (vout_n : Nat) (Inv : Nat → (Option Addr) → Nat → Nat → Bool → Int → AHeap → Prop) : Nat → List Value → AHeap → Prop := fun μ tm H => ∃ (next_a : Option Addr), ∃ (next_n : Nat), ∃ (next_e : Nat), ∃ (put : Bool), ∃ (t17 : Int), tm = (spec_l05Sorted_P2 list_a list_e list_n t11 vout_a vout_e vout_n next_a next_n next_e put t17) ∧ Inv μ next_a next_n next_e put t17 H
theorem spec_l05Sorted_L2 (list_a : Option Addr) (list_e : Nat) (list_n : Nat) (t11 : Int) (vout_a : Option Addr) (vout_e : Nat) (vout_n : Nat) {Q : Post} (Inv : Nat → (Option Addr) → Nat → Nat → Bool → Int → AHeap → Prop) (ν : Nat) (next_a : Option Addr) (next_n : Nat) (next_e : Nat) (put : Bool) (t17 : Int)  (H : AHeap) (h0 : Inv ν next_a next_n next_e put t17 H)
    (hs : ∀ (μ : Nat) (next_a : Option Addr) (next_n : Nat) (next_e : Nat) (put : Bool) (t17 : Int)  (H : AHeap), Inv μ next_a next_n next_e put t17 H → exL Try.prog E_spec_l05Sorted (cl (cl (cr (cl (cr (cr (cr (cl (cl (cr (cr (cl (cl (cr (cl (cr (cr (bodyC Try.f200)))))))))))))))))) 199801 4 [(2, 3185), (1, 3081), (0, 8)] (spec_l05Sorted_P2 list_a list_e list_n t11 vout_a vout_e vout_n next_a next_n next_e put t17) H (loopQ (spec_l05Sorted_I2 list_a list_e list_n t11 vout_a vout_e vout_n Inv) μ Q)) : loopK (exL Try.prog E_spec_l05Sorted (cl (cl (cr (cl (cr (cr (cr (cl (cl (cr (cr (cl (cl (cr (cl (cr (cr (bodyC Try.f200)))))))))))))))))) 199801 4 [(2, 3185), (1, 3081), (0, 8)]) (spec_l05Sorted_P2 list_a list_e list_n t11 vout_a vout_e vout_n next_a next_n next_e put t17) H Q :=
  ⟨spec_l05Sorted_I2 list_a list_e list_n t11 vout_a vout_e vout_n Inv, ν, ⟨next_a, next_n, next_e, put, t17, rfl, h0⟩, fun μ tm H h => by obtain ⟨next_a, next_n, next_e, put, t17, rfl, hI⟩ := h; exact hs μ next_a next_n next_e put t17  H hI⟩
theorem spec_l05Sorted_n2 {list_a : Option Addr} {list_e : Nat} {list_n : Nat} {t11 : Int} {vout_a : Option Addr} {vout_e : Nat} {vout_n : Nat} {Q : Post} {Inv : Nat → (Option Addr) → Nat → Nat → Bool → Int → AHeap → Prop} {μ : Nat} (μ' : Nat) {next_a : Option Addr} {next_n : Nat} {next_e : Nat} {put : Bool} {t17 : Int}  {H : AHeap} (hm : μ' < μ) (hI : Inv μ' next_a next_n next_e put t17 H) : loopQ (spec_l05Sorted_I2 list_a list_e list_n t11 vout_a vout_e vout_n Inv) μ Q .normal (spec_l05Sorted_P2 list_a list_e list_n t11 vout_a vout_e vout_n next_a next_n next_e put t17) H := ⟨μ', hm, next_a, next_n, next_e, put, t17, rfl, hI⟩
theorem spec_l05Sorted_x2_2 (list_a : Option Addr) (list_e : Nat) (list_n : Nat) (t11 : Int) (next_a : Option Addr) (next_n : Nat) (next_e : Nat) (put : Bool) (H : AHeap)  (R : Post) {I : Nat → List Value → AHeap → Prop} {μ : Nat} : loopQ I μ (blockQ 2 (seqQ (exL Try.prog E_spec_l05Sorted (cr (cr (cr (cr (cl (cl (cr (cr (cl (cl (cr (cl (cr (cr (bodyC Try.f200))))))))))))))) 3081 4 [(1, 3081), (0, 8)]) (blockQ 1 (seqQ (exL Try.prog E_spec_l05Sorted (cr (cr (cr (cl (cl (cr (cl (cr (cr (bodyC Try.f200)))))))))) 3081 4 [(0, 8)]) (R))))) (.exit 2) [.slice list_a list_n list_e, ud, ud, ud, .int .i64 t11, .slice next_a next_n next_e, .bool put, ud, ud, ud, .int .i64 (list_n : Int), .int .i64 t11, ud, ud, ud, ud, ud, ud, ud, ud, ud, ud, ud, ud, ud, ud, ud, ud, ud, ud, ud, ud, ud, ud, ud, ud, ud, ud, ud, ud, ud, ud, ud, ud, ud, ud, ud, ud, ud, ud, ud, ud, ud, ud, ud, ud, ud, ud, ud, ud] H =
  (Br (!put) ((0 : Int) ≤ t11 ∧ t11 < (list_n : Int) ∧ ∃ b17 f7, (list_a : Option Addr) = some ⟨b17, f7, none⟩ ∧ ∃ x7 : Nat,  rdC H b17 (f7 + (t11 : Int).toNat * 1) = some (.float .f32 x7) ∧ Al [.float .f32 x7] H fun b18 H11 => ∃ o5 w5 : List Value, ownB H11 next_a next_n next_e 1 = some o5 ∧ rdS H11 (some ⟨b18, 0, none⟩) (1 * 1) = some w5 ∧ ((next_a : Option Addr) = none → 0 < (1 : Nat)) ∧ (next_n : Nat) + 1 < most ∧ Ap H11 (killB H11 next_a ++ [some ⟨o5 ++ w5, true⟩]) fun b19 H12 => R .normal [.slice list_a list_n list_e, ud, ud, .slice (some ⟨b19, 0, none⟩) (next_n + 1) 1, ud, ud, ud, ud, ud, ud, .int .i64 (list_n : Int), .int .i64 (IntKind.wrap .i64 (t11 + 1)), ud, ud, ud, ud, ud, ud, ud, ud, ud, ud, ud, ud, ud, ud, ud, ud, ud, ud, ud, ud, ud, ud, ud, ud, ud, ud, ud, ud, ud, ud, ud, ud, ud, ud, ud, ud, ud, ud, ud, ud, ud, ud, ud, ud, ud, ud, ud, ud] H12) (R .normal [.slice list_a list_n list_e, ud, ud, .slice next_a next_n next_e, ud, ud, ud, ud, ud, ud, .int .i64 (list_n : Int), .int .i64 (IntKind.wrap .i64 (t11 + 1)), ud, ud, ud, ud, ud, ud, ud, ud, ud, ud, ud, ud, ud, ud, ud, ud, ud, ud, ud, ud, ud, ud, ud, ud, ud, ud, ud, ud, ud, ud, ud, ud, ud, ud, ud, ud, ud, ud, ud, ud, ud, ud, ud, ud, ud, ud, ud, ud] H)) := by kernel_rfl
theorem E_spec_l05Sorted_ok : ∀ g, FnOk Try.prog g (E_spec_l05Sorted g) := FnOk.envOf (by
  intro x hx; cases hx)
set_option maxHeartbeats 1000000 in
theorem spec_l05Sorted_main (list_a : Option Addr) (list_n : Nat) (list_e : Nat) (H : AHeap) (K : Value → AHeap → Prop) (h : T_spec_l05Sorted list_a list_n list_e H fun (r1_a : Option Addr) (r1_n : Nat) (r1_e : Nat) (H' : AHeap) => K (.slice r1_a r1_n r1_e) H') : bodyL Try.prog E_spec_l05Sorted Try.f200 [.slice list_a list_n list_e] H K := by
  rw [spec_l05Sorted_vc]
  obtain ⟨l_list, i_list, bd_203, hk⟩ := h
  obtain rfl := i_list.eqn
  have e : (p_spec_l05Sorted l_list) = _ := rfl
  have e := e.trans (p_spec_l05Sorted_eq l_list)
  have g0 := Grow.refl H
  refine Al.intro (fun b_1 H_1 hb_2 hl_3 g_4 o_5 => ?_)
  have o_5 : Own H_1 b_1 ((([] : List Nat)).map fF) := o_5
  have l_7 := g_4.1
  have g_8 := g0.trans g_4
  have l_9 := g_8.1
  have w_202 := o_5.lt
  refine spec_l05Sorted_L1 _ _ _ (fun (μ : Nat) (vout_a : Option Addr) (vout_n : Nat) (vout_e : Nat) (t11 : Int) (H_2 : AHeap) => ∃ (l_vout : List Nat), ∃ (b_10 : Nat), vout_a = some ⟨b_10, 0, none⟩ ∧ vout_n = l_vout.length ∧ vout_e = 1 ∧ Own H_2 b_10 (l_vout.map fF) ∧ Grow H H_2 ∧ H.length ≤ b_10 ∧ (0 : Int) ≤ t11 ∧ t11 ≤ (l_list.length : Int) ∧ (l_vout.length : Int) ≤ t11 ∧ (l_list.length : Int) - t11 ≤ (μ : Int) ∧ p_spec_l05Sorted l_list = p_spec_l05Sorted_l1 l_list (μ + 1) l_vout t11) (Int.toNat ((l_list.length : Int) - (0 : Int))) _ _ _ _ H_1 ?_ ?_
  · exact ⟨_, _, rfl, o9, rfl, o_5, g_8, o3, (by first | omega | (simp; done) | (simp; omega) | ((rcases ‹put = true ∨ (l_next.length : Int) ≤ t17› with hq | hq <;> first | exact Or.inl rfl | exact Or.inl hq | exact absurd ‹(!put) = true› (by rw [hq]; decide) | omega | (simp only [List.length_append, List.length_cons, List.length_nil]; omega) | (exact Or.inr (by simp only [List.length_append, List.length_cons, List.length_nil]; omega))))), (by first | omega | (simp; done) | (simp; omega) | ((rcases ‹put = true ∨ (l_next.length : Int) ≤ t17› with hq | hq <;> first | exact Or.inl rfl | exact Or.inl hq | exact absurd ‹(!put) = true› (by rw [hq]; decide) | omega | (simp only [List.length_append, List.length_cons, List.length_nil]; omega) | (exact Or.inr (by simp only [List.length_append, List.length_cons, List.length_nil]; omega))))), (by first | omega | (simp; done) | (simp; omega) | ((rcases ‹put = true ∨ (l_next.length : Int) ≤ t17› with hq | hq <;> first | exact Or.inl rfl | exact Or.inl hq | exact absurd ‹(!put) = true› (by rw [hq]; decide) | omega | (simp only [List.length_append, List.length_cons, List.length_nil]; omega) | (exact Or.inr (by simp only [List.length_append, List.length_cons, List.length_nil]; omega))))), o3, e⟩
  · intro μ vout_a vout_n vout_e t11  H_2 hI
    obtain ⟨l_vout, b_10, rfl, rfl, rfl, o_11, g_12, l_13, v_14, v_15, v_16, hμ, e⟩ := hI
    rw [spec_l05Sorted_r1]
    have e := e.trans (p_spec_l05Sorted_l1_s l_list μ l_vout t11)
    have w_17 := o_11.lt
    have l_18 := g_12.1
    refine Br.intro (fun c_19 => ?_) (fun c_19 => ?_)
    · have e := e.trans (cond_t c_19)
      have c_19' := of_decide_eq_true c_19
      refine Al.intro (fun b_20 H_3 hb_21 hl_22 g_23 o_24 => ?_)
      have o_24 : Own H_3 b_20 ((([] : List Nat)).map fF) := o_24
      have l_26 := g_23.1
      have g_27 := g_12.trans g_23
      have l_28 := g_27.1
      have o_29 := o_11.grow g_23
      have w_30 := o_29.lt
      have w_201 := o_24.lt
      refine spec_l05Sorted_L2 _ _ _ _ _ _ _ (fun (μ2 : Nat) (next_a : Option Addr) (next_n : Nat) (next_e : Nat) (put : Bool) (t17 : Int) (H_4 : AHeap) => ∃ (l_next : List Nat), ∃ (b_31 : Nat), next_a = some ⟨b_31, 0, none⟩ ∧ next_n = l_next.length ∧ next_e = 1 ∧ Own H_4 b_31 (l_next.map fF) ∧ Own H_4 b_10 ((l_vout).map fF) ∧ (b_31 ≠ b_10) ∧ Grow H H_4 ∧ H.length ≤ b_31 ∧ (0 : Int) ≤ t17 ∧ t17 ≤ (l_vout.length : Int) ∧ ((put = true ∨ (l_next.length : Int) ≤ t17)) ∧ (l_next.length : Int) ≤ t17 + 1 ∧ (l_vout.length : Int) - t17 ≤ (μ2 : Int) ∧ p_spec_l05Sorted l_list = p_spec_l05Sorted_l2 l_list l_vout t11 (fun (l_next : List Nat) (put : Bool) (t17 : Int) => (bif !put then (p_spec_l05Sorted_l1 l_list μ ((l_next ++ [(((l_list).getD (t11 : Int).toNat 0))])) (t11 + 1)) else (p_spec_l05Sorted_l1 l_list μ l_next (t11 + 1)))) (μ2 + 1) l_next put t17) (Int.toNat ((l_vout.length : Int) - (0 : Int))) _ _ _ _ _ H_3 ?_ ?_
      · exact ⟨_, _, rfl, o9, rfl, o_24, o_29, o3, g_27, o3, (by first | omega | (simp; done) | (simp; omega) | ((rcases ‹put = true ∨ (l_next.length : Int) ≤ t17› with hq | hq <;> first | exact Or.inl rfl | exact Or.inl hq | exact absurd ‹(!put) = true› (by rw [hq]; decide) | omega | (simp only [List.length_append, List.length_cons, List.length_nil]; omega) | (exact Or.inr (by simp only [List.length_append, List.length_cons, List.length_nil]; omega))))), (by first | omega | (simp; done) | (simp; omega) | ((rcases ‹put = true ∨ (l_next.length : Int) ≤ t17› with hq | hq <;> first | exact Or.inl rfl | exact Or.inl hq | exact absurd ‹(!put) = true› (by rw [hq]; decide) | omega | (simp only [List.length_append, List.length_cons, List.length_nil]; omega) | (exact Or.inr (by simp only [List.length_append, List.length_cons, List.length_nil]; omega))))), (by first | omega | (simp; done) | (simp; omega) | ((rcases ‹put = true ∨ (l_next.length : Int) ≤ t17› with hq | hq <;> first | exact Or.inl rfl | exact Or.inl hq | exact absurd ‹(!put) = true› (by rw [hq]; decide) | omega | (simp only [List.length_append, List.length_cons, List.length_nil]; omega) | (exact Or.inr (by simp only [List.length_append, List.length_cons, List.length_nil]; omega))))), (by first | omega | (simp; done) | (simp; omega) | ((rcases ‹put = true ∨ (l_next.length : Int) ≤ t17› with hq | hq <;> first | exact Or.inl rfl | exact Or.inl hq | exact absurd ‹(!put) = true› (by rw [hq]; decide) | omega | (simp only [List.length_append, List.length_cons, List.length_nil]; omega) | (exact Or.inr (by simp only [List.length_append, List.length_cons, List.length_nil]; omega))))), o3, e⟩
      · intro μ2 next_a next_n next_e put t17  H_4 hI
        obtain ⟨l_next, b_31, rfl, rfl, rfl, o_32, o_33, n_34, g_35, l_36, v_37, v_38, v_39, v_40, hμ, e⟩ := hI
        rw [spec_l05Sorted_r2]
        have e := e.trans (p_spec_l05Sorted_l2_s l_list l_vout t11 (fun (l_next : List Nat) (put : Bool) (t17 : Int) => (bif !put then (p_spec_l05Sorted_l1 l_list μ ((l_next ++ [(((l_list).getD (t11 : Int).toNat 0))])) (t11 + 1)) else (p_spec_l05Sorted_l1 l_list μ l_next (t11 + 1)))) μ2 l_next put t17)
        have w_41 := o_33.lt
        have w_42 := o_32.lt
        have l_43 := g_35.1
        refine Br.intro (fun c_44 => ?_) (fun c_44 => ?_)
        · have e := e.trans (cond_t c_44)
          have c_44' := of_decide_eq_true c_44
          refine Br.intro (fun c_45 => ?_) (fun c_45 => ?_)
          · have e := e.trans (cond_t c_45)
            have c_45n := nf_of_t c_45
            obtain ⟨b_46, f_47, q_48⟩ := ((i_list.grow g_35)).pos o0
            refine ⟨by omega, by omega, b_46, f_47, q_48, ?_⟩
            refine ⟨((l_list).getD (t11 : Int).toNat 0), (i_list).rd g_35 q_48 o3 _, ?_⟩
            refine ⟨by omega, o3, _, _, rfl, ?_⟩
            refine ⟨((l_vout).getD (t17 : Int).toNat 0), o_33.rd o0 _, ?_⟩
            refine Br.intro (fun c_49 => ?_) (fun c_49 => ?_)
            · have e := e.trans (cond_t c_49)
              obtain ⟨b_50, f_51, q_52⟩ := ((i_list.grow g_35)).pos o0
              refine ⟨by omega, by omega, b_50, f_51, q_52, ?_⟩
              refine ⟨((l_list).getD (t11 : Int).toNat 0), (i_list).rd g_35 q_52 o3 _, ?_⟩
              refine Al.intro (fun b_53 H_5 hb_54 hl_55 g_56 o_57 => ?_)
              have o_57 : Own H_5 b_53 (([(((l_list).getD (t11 : Int).toNat 0))]).map fF) := o_57
              have l_59 := g_56.1
              have g_60 := g_35.trans g_56
              have l_61 := g_60.1
              have o_62 := o_33.grow g_56
              have w_63 := o_62.lt
              have o_64 := o_32.grow g_56
              have w_65 := o_64.lt
              have w_112 := o_57.lt
              refine ⟨_, _, o_64.ownB o6 rfl, (isl_rdS (o_57.isL o9)), (fun h => by cases h), o12, ?_⟩
              refine Ap.app o_64 rfl rfl (fun b_70 H_6 q_110 hl_66 o_67 k_68 => ?_)
              have o_67 := map_snoc o_67
              have l_71 := k_68.1
              have g_72 := g_60.keep (b := b_31) o3 k_68
              have l_73 := g_72.1
              have o_74 := o_62.keep o3 k_68
              have w_75 := o_74.lt
              have o_76 := o_57.keep o3 k_68
              have w_77 := o_76.lt
              have w_111 := o_67.lt
              refine ⟨by omega, o3, _, _, rfl, ?_⟩
              refine ⟨((l_vout).getD (t17 : Int).toNat 0), o_74.rd o0 _, ?_⟩
              refine Al.intro (fun b_78 H_7 hb_79 hl_80 g_81 o_82 => ?_)
              have o_82 : Own H_7 b_78 (([(((l_vout).getD (t17 : Int).toNat 0))]).map fF) := o_82
              have l_84 := g_81.1
              have g_85 := g_72.trans g_81
              have l_86 := g_85.1
              have o_87 := o_74.grow g_81
              have w_88 := o_87.lt
              have o_89 := o_76.grow g_81
              have w_90 := o_89.lt
              have o_91 := o_67.grow g_81
              have w_92 := o_91.lt
              have w_109 := o_82.lt
              refine ⟨_, _, o_91.ownB o6 rfl, (isl_rdS (o_82.isL o9)), (fun h => by cases h), o12, ?_⟩
              refine Ap.app o_91 rfl rfl (fun b_97 H_8 q_107 hl_93 o_94 k_95 => ?_)
              have o_94 := map_snoc o_94
              have l_98 := k_95.1
              have g_99 := g_85.keep (b := b_70) o3 k_95
              have l_100 := g_99.1
              have o_101 := o_87.keep o3 k_95
              have w_102 := o_101.lt
              have o_103 := o_89.keep o3 k_95
              have w_104 := o_103.lt
              have o_105 := o_82.keep o3 k_95
              have w_106 := o_105.lt
              have w_108 := o_94.lt
              rw [show IntKind.wrap .i64 (t17 + 1) = (t17 + 1) from wrap64 o3 o3]
              refine spec_l05Sorted_n2 (μ2 - 1) o10 ⟨_, _, rfl, o8, rfl, o_94, o_101, o3, g_99, o3, (by first | omega | ((rcases ‹put = true ∨ (l_next.length : Int) ≤ t17› with hq | hq <;> first | exact Or.inl rfl | exact Or.inl hq | exact absurd ‹(!put) = true› (by rw [hq]; decide) | omega | (simp only [List.length_append, List.length_cons, List.length_nil]; omega) | (exact Or.inr (by simp only [List.length_append, List.length_cons, List.length_nil]; omega)))) | (simp only [List.length_append, List.length_cons, List.length_nil, List.length_set]; done) | (simp only [List.length_append, List.length_cons, List.length_nil, List.length_set]; omega)), (by first | omega | ((rcases ‹put = true ∨ (l_next.length : Int) ≤ t17› with hq | hq <;> first | exact Or.inl rfl | exact Or.inl hq | exact absurd ‹(!put) = true› (by rw [hq]; decide) | omega | (simp only [List.length_append, List.length_cons, List.length_nil]; omega) | (exact Or.inr (by simp only [List.length_append, List.length_cons, List.length_nil]; omega)))) | (simp only [List.length_append, List.length_cons, List.length_nil, List.length_set]; done) | (simp only [List.length_append, List.length_cons, List.length_nil, List.length_set]; omega)), (by first | omega | ((rcases ‹put = true ∨ (l_next.length : Int) ≤ t17› with hq | hq <;> first | exact Or.inl rfl | exact Or.inl hq | exact absurd ‹(!put) = true› (by rw [hq]; decide) | omega | (simp only [List.length_append, List.length_cons, List.length_nil]; omega) | (exact Or.inr (by simp only [List.length_append, List.length_cons, List.length_nil]; omega)))) | (simp only [List.length_append, List.length_cons, List.length_nil, List.length_set]; done) | (simp only [List.length_append, List.length_cons, List.length_nil, List.length_set]; omega)), (by first | omega | ((rcases ‹put = true ∨ (l_next.length : Int) ≤ t17› with hq | hq <;> first | exact Or.inl rfl | exact Or.inl hq | exact absurd ‹(!put) = true› (by rw [hq]; decide) | omega | (simp only [List.length_append, List.length_cons, List.length_nil]; omega) | (exact Or.inr (by simp only [List.length_append, List.length_cons, List.length_nil]; omega)))) | (simp only [List.length_append, List.length_cons, List.length_nil, List.length_set]; done) | (simp only [List.length_append, List.length_cons, List.length_nil, List.length_set]; omega)), o10, (by rw [show μ2 - 1 + 1 = μ2 from by first | omega]; exact e)⟩
            · have e := e.trans (cond_f c_49)
              refine ⟨by omega, o3, _, _, rfl, ?_⟩
              refine ⟨((l_vout).getD (t17 : Int).toNat 0), o_33.rd o0 _, ?_⟩
              refine Al.intro (fun b_113 H_9 hb_114 hl_115 g_116 o_117 => ?_)
              have o_117 : Own H_9 b_113 (([(((l_vout).getD (t17 : Int).toNat 0))]).map fF) := o_117
              have l_119 := g_116.1
              have g_120 := g_35.trans g_116
              have l_121 := g_120.1
              have o_122 := o_33.grow g_116
              have w_123 := o_122.lt
              have o_124 := o_32.grow g_116
              have w_125 := o_124.lt
              have w_140 := o_117.lt
              refine ⟨_, _, o_124.ownB o6 rfl, (isl_rdS (o_117.isL o9)), (fun h => by cases h), o12, ?_⟩
              refine Ap.app o_124 rfl rfl (fun b_130 H_10 q_138 hl_126 o_127 k_128 => ?_)
              have o_127 := map_snoc o_127
              have l_131 := k_128.1
              have g_132 := g_120.keep (b := b_31) o3 k_128
              have l_133 := g_132.1
              have o_134 := o_122.keep o3 k_128
              have w_135 := o_134.lt
              have o_136 := o_117.keep o3 k_128
              have w_137 := o_136.lt
              have w_139 := o_127.lt
              rw [show IntKind.wrap .i64 (t17 + 1) = (t17 + 1) from wrap64 o3 o3]
              refine spec_l05Sorted_n2 (μ2 - 1) o10 ⟨_, _, rfl, o8, rfl, o_127, o_134, o3, g_132, o3, (by first | omega | ((rcases ‹put = true ∨ (l_next.length : Int) ≤ t17› with hq | hq <;> first | exact Or.inl rfl | exact Or.inl hq | exact absurd ‹(!put) = true› (by rw [hq]; decide) | omega | (simp only [List.length_append, List.length_cons, List.length_nil]; omega) | (exact Or.inr (by simp only [List.length_append, List.length_cons, List.length_nil]; omega)))) | (simp only [List.length_append, List.length_cons, List.length_nil, List.length_set]; done) | (simp only [List.length_append, List.length_cons, List.length_nil, List.length_set]; omega)), (by first | omega | ((rcases ‹put = true ∨ (l_next.length : Int) ≤ t17› with hq | hq <;> first | exact Or.inl rfl | exact Or.inl hq | exact absurd ‹(!put) = true› (by rw [hq]; decide) | omega | (simp only [List.length_append, List.length_cons, List.length_nil]; omega) | (exact Or.inr (by simp only [List.length_append, List.length_cons, List.length_nil]; omega)))) | (simp only [List.length_append, List.length_cons, List.length_nil, List.length_set]; done) | (simp only [List.length_append, List.length_cons, List.length_nil, List.length_set]; omega)), (by first | omega | ((rcases ‹put = true ∨ (l_next.length : Int) ≤ t17› with hq | hq <;> first | exact Or.inl rfl | exact Or.inl hq | exact absurd ‹(!put) = true› (by rw [hq]; decide) | omega | (simp only [List.length_append, List.length_cons, List.length_nil]; omega) | (exact Or.inr (by simp only [List.length_append, List.length_cons, List.length_nil]; omega)))) | (simp only [List.length_append, List.length_cons, List.length_nil, List.length_set]; done) | (simp only [List.length_append, List.length_cons, List.length_nil, List.length_set]; omega)), (by first | omega | ((rcases ‹put = true ∨ (l_next.length : Int) ≤ t17› with hq | hq <;> first | exact Or.inl rfl | exact Or.inl hq | exact absurd ‹(!put) = true› (by rw [hq]; decide) | omega | (simp only [List.length_append, List.length_cons, List.length_nil]; omega) | (exact Or.inr (by simp only [List.length_append, List.length_cons, List.length_nil]; omega)))) | (simp only [List.length_append, List.length_cons, List.length_nil, List.length_set]; done) | (simp only [List.length_append, List.length_cons, List.length_nil, List.length_set]; omega)), o10, (by rw [show μ2 - 1 + 1 = μ2 from by first | omega]; exact e)⟩
          · have e := e.trans (cond_f c_45)
            have c_45n := nt_of_f c_45
            refine ⟨by omega, o3, _, _, rfl, ?_⟩
            refine ⟨((l_vout).getD (t17 : Int).toNat 0), o_33.rd o0 _, ?_⟩
            refine Al.intro (fun b_141 H_11 hb_142 hl_143 g_144 o_145 => ?_)
            have o_145 : Own H_11 b_141 (([(((l_vout).getD (t17 : Int).toNat 0))]).map fF) := o_145
            have l_147 := g_144.1
            have g_148 := g_35.trans g_144
            have l_149 := g_148.1
            have o_150 := o_33.grow g_144
            have w_151 := o_150.lt
            have o_152 := o_32.grow g_144
            have w_153 := o_152.lt
            have w_168 := o_145.lt
            refine ⟨_, _, o_152.ownB o6 rfl, (isl_rdS (o_145.isL o9)), (fun h => by cases h), o12, ?_⟩
            refine Ap.app o_152 rfl rfl (fun b_158 H_12 q_166 hl_154 o_155 k_156 => ?_)
            have o_155 := map_snoc o_155
            have l_159 := k_156.1
            have g_160 := g_148.keep (b := b_31) o3 k_156
            have l_161 := g_160.1
            have o_162 := o_150.keep o3 k_156
            have w_163 := o_162.lt
            have o_164 := o_145.keep o3 k_156
            have w_165 := o_164.lt
            have w_167 := o_155.lt
            rw [show IntKind.wrap .i64 (t17 + 1) = (t17 + 1) from wrap64 o3 o3]
            refine spec_l05Sorted_n2 (μ2 - 1) o10 ⟨_, _, rfl, o8, rfl, o_155, o_162, o3, g_160, o3, (by first | omega | ((rcases ‹put = true ∨ (l_next.length : Int) ≤ t17› with hq | hq <;> first | exact Or.inl rfl | exact Or.inl hq | exact absurd ‹(!put) = true› (by rw [hq]; decide) | omega | (simp only [List.length_append, List.length_cons, List.length_nil]; omega) | (exact Or.inr (by simp only [List.length_append, List.length_cons, List.length_nil]; omega)))) | (simp only [List.length_append, List.length_cons, List.length_nil, List.length_set]; done) | (simp only [List.length_append, List.length_cons, List.length_nil, List.length_set]; omega)), (by first | omega | ((rcases ‹put = true ∨ (l_next.length : Int) ≤ t17› with hq | hq <;> first | exact Or.inl rfl | exact Or.inl hq | exact absurd ‹(!put) = true› (by rw [hq]; decide) | omega | (simp only [List.length_append, List.length_cons, List.length_nil]; omega) | (exact Or.inr (by simp only [List.length_append, List.length_cons, List.length_nil]; omega)))) | (simp only [List.length_append, List.length_cons, List.length_nil, List.length_set]; done) | (simp only [List.length_append, List.length_cons, List.length_nil, List.length_set]; omega)), (by first | omega | ((rcases ‹put = true ∨ (l_next.length : Int) ≤ t17› with hq | hq <;> first | exact Or.inl rfl | exact Or.inl hq | exact absurd ‹(!put) = true› (by rw [hq]; decide) | omega | (simp only [List.length_append, List.length_cons, List.length_nil]; omega) | (exact Or.inr (by simp only [List.length_append, List.length_cons, List.length_nil]; omega)))) | (simp only [List.length_append, List.length_cons, List.length_nil, List.length_set]; done) | (simp only [List.length_append, List.length_cons, List.length_nil, List.length_set]; omega)), (by first | omega | ((rcases ‹put = true ∨ (l_next.length : Int) ≤ t17› with hq | hq <;> first | exact Or.inl rfl | exact Or.inl hq | exact absurd ‹(!put) = true› (by rw [hq]; decide) | omega | (simp only [List.length_append, List.length_cons, List.length_nil]; omega) | (exact Or.inr (by simp only [List.length_append, List.length_cons, List.length_nil]; omega)))) | (simp only [List.length_append, List.length_cons, List.length_nil, List.length_set]; done) | (simp only [List.length_append, List.length_cons, List.length_nil, List.length_set]; omega)), o10, (by rw [show μ2 - 1 + 1 = μ2 from by first | omega]; exact e)⟩
        · have e := e.trans (cond_f c_44)
          have c_44' := of_decide_eq_false c_44
          rw [spec_l05Sorted_x2_2]
          refine Br.intro (fun c_169 => ?_) (fun c_169 => ?_)
          · have e := e.trans (cond_t c_169)
            have c_169n := nf_of_t c_169
            obtain ⟨b_170, f_171, q_172⟩ := ((i_list.grow g_35)).pos o0
            refine ⟨by omega, by omega, b_170, f_171, q_172, ?_⟩
            refine ⟨((l_list).getD (t11 : Int).toNat 0), (i_list).rd g_35 q_172 o3 _, ?_⟩
            refine Al.intro (fun b_173 H_13 hb_174 hl_175 g_176 o_177 => ?_)
            have o_177 : Own H_13 b_173 (([(((l_list).getD (t11 : Int).toNat 0))]).map fF) := o_177
            have l_179 := g_176.1
            have g_180 := g_35.trans g_176
            have l_181 := g_180.1
            have o_182 := o_33.grow g_176
            have w_183 := o_182.lt
            have o_184 := o_32.grow g_176
            have w_185 := o_184.lt
            have w_200 := o_177.lt
            refine ⟨_, _, o_184.ownB o6 rfl, (isl_rdS (o_177.isL o9)), (fun h => by cases h), o12, ?_⟩
            refine Ap.app o_184 rfl rfl (fun b_190 H_14 q_198 hl_186 o_187 k_188 => ?_)
            have o_187 := map_snoc o_187
            have l_191 := k_188.1
            have g_192 := g_180.keep (b := b_31) o3 k_188
            have l_193 := g_192.1
            have o_194 := o_182.keep o3 k_188
            have w_195 := o_194.lt
            have o_196 := o_177.keep o3 k_188
            have w_197 := o_196.lt
            have w_199 := o_187.lt
            rw [show IntKind.wrap .i64 (t11 + 1) = (t11 + 1) from wrap64 o3 o3]
            refine spec_l05Sorted_n1 (μ - 1) o10 ⟨_, _, rfl, o8, rfl, o_187, g_192, o3, (by first | omega | ((rcases ‹put = true ∨ (l_next.length : Int) ≤ t17› with hq | hq <;> first | exact Or.inl rfl | exact Or.inl hq | exact absurd ‹(!put) = true› (by rw [hq]; decide) | omega | (simp only [List.length_append, List.length_cons, List.length_nil]; omega) | (exact Or.inr (by simp only [List.length_append, List.length_cons, List.length_nil]; omega)))) | (simp only [List.length_append, List.length_cons, List.length_nil, List.length_set]; done) | (simp only [List.length_append, List.length_cons, List.length_nil, List.length_set]; omega)), (by first | omega | ((rcases ‹put = true ∨ (l_next.length : Int) ≤ t17› with hq | hq <;> first | exact Or.inl rfl | exact Or.inl hq | exact absurd ‹(!put) = true› (by rw [hq]; decide) | omega | (simp only [List.length_append, List.length_cons, List.length_nil]; omega) | (exact Or.inr (by simp only [List.length_append, List.length_cons, List.length_nil]; omega)))) | (simp only [List.length_append, List.length_cons, List.length_nil, List.length_set]; done) | (simp only [List.length_append, List.length_cons, List.length_nil, List.length_set]; omega)), (by first | omega | ((rcases ‹put = true ∨ (l_next.length : Int) ≤ t17› with hq | hq <;> first | exact Or.inl rfl | exact Or.inl hq | exact absurd ‹(!put) = true› (by rw [hq]; decide) | omega | (simp only [List.length_append, List.length_cons, List.length_nil]; omega) | (exact Or.inr (by simp only [List.length_append, List.length_cons, List.length_nil]; omega)))) | (simp only [List.length_append, List.length_cons, List.length_nil, List.length_set]; done) | (simp only [List.length_append, List.length_cons, List.length_nil, List.length_set]; omega)), o10, (by rw [show μ - 1 + 1 = μ from by first | omega]; exact e)⟩
          · have e := e.trans (cond_f c_169)
            have c_169n := nt_of_f c_169
            rw [show IntKind.wrap .i64 (t11 + 1) = (t11 + 1) from wrap64 o3 o3]
            refine spec_l05Sorted_n1 (μ - 1) o10 ⟨_, _, rfl, o9, rfl, o_32, g_35, o3, (by first | omega | ((rcases ‹put = true ∨ (l_next.length : Int) ≤ t17› with hq | hq <;> first | exact Or.inl rfl | exact Or.inl hq | exact absurd ‹(!put) = true› (by rw [hq]; decide) | omega | (simp only [List.length_append, List.length_cons, List.length_nil]; omega) | (exact Or.inr (by simp only [List.length_append, List.length_cons, List.length_nil]; omega)))) | (simp only [List.length_append, List.length_cons, List.length_nil, List.length_set]; done) | (simp only [List.length_append, List.length_cons, List.length_nil, List.length_set]; omega)), (by first | omega | ((rcases ‹put = true ∨ (l_next.length : Int) ≤ t17› with hq | hq <;> first | exact Or.inl rfl | exact Or.inl hq | exact absurd ‹(!put) = true› (by rw [hq]; decide) | omega | (simp only [List.length_append, List.length_cons, List.length_nil]; omega) | (exact Or.inr (by simp only [List.length_append, List.length_cons, List.length_nil]; omega)))) | (simp only [List.length_append, List.length_cons, List.length_nil, List.length_set]; done) | (simp only [List.length_append, List.length_cons, List.length_nil, List.length_set]; omega)), (by first | omega | ((rcases ‹put = true ∨ (l_next.length : Int) ≤ t17› with hq | hq <;> first | exact Or.inl rfl | exact Or.inl hq | exact absurd ‹(!put) = true› (by rw [hq]; decide) | omega | (simp only [List.length_append, List.length_cons, List.length_nil]; omega) | (exact Or.inr (by simp only [List.length_append, List.length_cons, List.length_nil]; omega)))) | (simp only [List.length_append, List.length_cons, List.length_nil, List.length_set]; done) | (simp only [List.length_append, List.length_cons, List.length_nil, List.length_set]; omega)), o10, (by rw [show μ - 1 + 1 = μ from by first | omega]; exact e)⟩
    · have e := e.trans (cond_f c_19)
      have c_19' := of_decide_eq_false c_19
      rw [spec_l05Sorted_x1_0]
      rw [e] at hk
      exact hk _ _ _ H_2 g_12 (o_11.ownS o9 o3)
theorem spec_l05Sorted_ok : FnOk Try.prog 200 S_spec_l05Sorted := by
  refine FnOk.body mix_ok E_spec_l05Sorted_ok Try.func200 rfl (by kernel_rfl) (by kernel_rfl) ?_ ?_ ?_ ?_ ?_
  · intro args H K K' h hk
    simp only [S_spec_l05Sorted] at *
    unfold F_spec_l05Sorted at *
    split at hk
    · obtain ⟨l_list, i_list, bd_203, k⟩ := hk
      exact ⟨l_list, i_list, bd_203, (fun r1_a r1_n r1_e H' gg ow0 => h _ _ (k r1_a r1_n r1_e H' gg ow0))⟩
    · exact hk.elim
  · intro hq; cases hq
  · intro args H K hk
    simp only [S_spec_l05Sorted] at *
    unfold F_spec_l05Sorted at *
    split at hk
    · obtain ⟨l_list, i_list, bd_203, k⟩ := hk
      exact liveS fun a n e H1 g o => ⟨_, _, k a n e H1 g o⟩
    · exact hk.elim
  · intro _ args H K hk
    simp only [S_spec_l05Sorted] at *
    unfold F_spec_l05Sorted at *
    split at hk
    · obtain ⟨l_list, i_list, bd_203, k⟩ := hk
      exact ⟨l_list, i_list, bd_203, (fun r1_a r1_n r1_e H' gg ow0 => ⟨gg, k r1_a r1_n r1_e H' gg ow0⟩)⟩
    · exact hk.elim
  · have mm := @spec_l05Sorted_main
    have ml := fun (args : List Value) (H : AHeap) (K : Value → AHeap → Prop) => bodyL_body (P := Try.prog) (env := E_spec_l05Sorted ) (fn := Try.f200) (args := args) (H := H) (K := K) E_spec_l05Sorted_ok 
    revert mm ml
    generalize bodyK Try.prog E_spec_l05Sorted Try.f200 = Q
    generalize bodyL Try.prog E_spec_l05Sorted Try.f200 = QL
    intro mm ml args H K hk
    simp only [S_spec_l05Sorted] at *
    unfold F_spec_l05Sorted at *
    split at hk
    · exact ml _ H K (mm _ _ _ H K hk)
    · exact hk.elim

def p_spec_l05Median (l_list : List Nat) : Nat := (((p_spec_l05Sorted l_list)).getD ((Int.tdiv (((l_list.length : Int) - 1)) 2) : Int).toNat 0)
def p_spec_l05Median_eq := @p_spec_l05Median.eq_1
def T_spec_l05Median (list_a : Option Addr) (list_n : Nat) (list_e : Nat) (H : AHeap) (K : Nat → AHeap → Prop) : Prop := ∃ (l_list : List Nat), IsL fF H list_a list_n l_list ∧ l_list.length < 1073741824 ∧ 0 < l_list.length ∧ ((∀ H' : AHeap, Grow H H' → K (p_spec_l05Median l_list) H'))
theorem T_spec_l05Median_i {list_a : Option Addr} {list_n : Nat} {list_e : Nat} {H : AHeap} {K : Nat → AHeap → Prop} (h : ∃ (l_list : List Nat), IsL fF H list_a list_n l_list ∧ l_list.length < 1073741824 ∧ 0 < l_list.length ∧ ((∀ H' : AHeap, Grow H H' → K (p_spec_l05Median l_list) H'))) : T_spec_l05Median list_a list_n list_e H K := h

/-! spec_l05Median: function 171 -/
def E_spec_l05Median : Env := envOf [(200, S_spec_l05Sorted)]
def F_spec_l05Median : List Value → AHeap → (Value → AHeap → Prop) → Prop
  | [.slice list_a list_n list_e], H, K => T_spec_l05Median list_a list_n list_e H fun (r1 : Nat) (H' : AHeap) => K (.float .f32 r1) H'
  | _, _, _ => False
def S_spec_l05Median : FSpec := { F := F_spec_l05Median, quiet := false, tame := true }
theorem spec_l05Median_vc (list_a : Option Addr) (list_n : Nat) (list_e : Nat) (H : AHeap) (K : Value → AHeap → Prop) : bodyL Try.prog E_spec_l05Median Try.f171 [.slice list_a list_n list_e] H K =
  (T_spec_l05Sorted list_a list_n list_e H fun (a1 : Option Addr) (r1 : Nat) (r2 : Nat) (H1 : AHeap) => 2 ≠ (0 : Int) ∧ (0 : Int) ≤ IntKind.wrap .i64 (Int.tdiv (IntKind.wrap .i64 ((list_n : Int) - 1)) 2) ∧ IntKind.wrap .i64 (Int.tdiv (IntKind.wrap .i64 ((list_n : Int) - 1)) 2) < (r1 : Int) ∧ ∃ b1 f1, (a1 : Option Addr) = some ⟨b1, f1, none⟩ ∧ ∃ x1 : Nat,  rdC H1 b1 (f1 + (IntKind.wrap .i64 (Int.tdiv (IntKind.wrap .i64 ((list_n : Int) - 1)) 2) : Int).toNat * 1) = some (.float .f32 x1) ∧ K (.float .f32 x1) H1) := by kernel_rfl
theorem E_spec_l05Median_ok : ∀ g, FnOk Try.prog g (E_spec_l05Median g) := FnOk.envOf (by
  intro x hx
  simp only [List.mem_cons, List.not_mem_nil, or_false] at hx
  subst hx; exact spec_l05Sorted_ok)
set_option maxHeartbeats 1000000 in
theorem spec_l05Median_main (list_a : Option Addr) (list_n : Nat) (list_e : Nat) (H : AHeap) (K : Value → AHeap → Prop) (h : T_spec_l05Median list_a list_n list_e H fun (r1 : Nat) (H' : AHeap) => K (.float .f32 r1) H') : bodyL Try.prog E_spec_l05Median Try.f171 [.slice list_a list_n list_e] H K := by
  rw [spec_l05Median_vc]
  obtain ⟨l_list, i_list, bd_17, pr0, hk⟩ := h
  obtain rfl := i_list.eqn
  have e : (p_spec_l05Median l_list) = _ := rfl
  have e := e.trans (p_spec_l05Median_eq l_list)
  have g0 := Grow.refl H
  refine T_spec_l05Sorted_i ⟨_, (i_list.grow g0), o0, fun a_1 n_2 e_3 H_1 g_6 r_4 => ?_⟩
  have z_5 := l05Sorted_len l_list
  have l_7 := g_6.1
  have g_8 := g0.trans g_6
  have l_9 := g_8.1
  obtain rfl := r_4.isL.eqn
  have u_10 := r_4.up
  have u_11 := r_4.lo
  rw [show IntKind.wrap .i64 ((l_list.length : Int) - 1) = ((l_list.length : Int) - 1) from wrap64 o3 o3]
  have z_13 := tdiv_nn (((l_list.length : Int) - 1)) 2
  refine ⟨(by first | omega | decide | (simp; done) | (simp; omega)), ?_⟩
  rw [show IntKind.wrap .i64 (Int.tdiv (((l_list.length : Int) - 1)) 2) = (Int.tdiv (((l_list.length : Int) - 1)) 2) from wrap64 o3 o3]
  obtain ⟨b_14, f_15, q_16⟩ := (r_4.isL).pos o0
  refine ⟨by omega, by omega, b_14, f_15, q_16, ?_⟩
  refine ⟨(((p_spec_l05Sorted l_list)).getD ((Int.tdiv (((l_list.length : Int) - 1)) 2) : Int).toNat 0), (r_4.isL).rd (Grow.refl _) q_16 o3 _, ?_⟩
  rw [e] at hk
  exact hk  H_1 g_8 
theorem spec_l05Median_ok : FnOk Try.prog 171 S_spec_l05Median := by
  refine FnOk.body mix_ok E_spec_l05Median_ok Try.func171 rfl (by kernel_rfl) (by kernel_rfl) ?_ ?_ ?_ ?_ ?_
  · intro args H K K' h hk
    simp only [S_spec_l05Median] at *
    unfold F_spec_l05Median at *
    split at hk
    · obtain ⟨l_list, i_list, bd_17, pr0, k⟩ := hk
      exact ⟨l_list, i_list, bd_17, pr0, (fun  H' gg  => h _ _ (k  H' gg ))⟩
    · exact hk.elim
  · intro hq; cases hq
  · intro args H K hk
    simp only [S_spec_l05Median] at *
    unfold F_spec_l05Median at *
    split at hk
    · obtain ⟨l_list, i_list, bd_17, pr0, k⟩ := hk
      exact ⟨_, _, k H (Grow.refl H)⟩
    · exact hk.elim
  · intro _ args H K hk
    simp only [S_spec_l05Median] at *
    unfold F_spec_l05Median at *
    split at hk
    · obtain ⟨l_list, i_list, bd_17, pr0, k⟩ := hk
      exact ⟨l_list, i_list, bd_17, pr0, (fun  H' gg  => ⟨gg, k  H' gg ⟩)⟩
    · exact hk.elim
  · have mm := @spec_l05Median_main
    have ml := fun (args : List Value) (H : AHeap) (K : Value → AHeap → Prop) => bodyL_body (P := Try.prog) (env := E_spec_l05Median ) (fn := Try.f171) (args := args) (H := H) (K := K) E_spec_l05Median_ok 
    revert mm ml
    generalize bodyK Try.prog E_spec_l05Median Try.f171 = Q
    generalize bodyL Try.prog E_spec_l05Median Try.f171 = QL
    intro mm ml args H K hk
    simp only [S_spec_l05Median] at *
    unfold F_spec_l05Median at *
    split at hk
    · exact ml _ H K (mm _ _ _ H K hk)
    · exact hk.elim

def p_spec_l05Noise (l_bp_Coarse : List Nat) (l_bp_Details : List (List Nat)) : Nat := fdiv .f32 ((p_spec_l05Median ((p_spec_l05Sizes (((l_bp_Details).getD (0 : Int).toNat [])) 0)))) 1059892232
def p_spec_l05Noise_eq := @p_spec_l05Noise.eq_1
def T_spec_l05Noise (b : Nat) (H : AHeap) (K : Nat → AHeap → Prop) : Prop := ∃ (bp_Coarse_a : Option Addr), ∃ (bp_Coarse_n : Nat), ∃ (bp_Coarse_e : Nat), ∃ (bp_Details_a : Option Addr), ∃ (bp_Details_n : Nat), ∃ (bp_Details_e : Nat), ∃ (l_bp_Coarse : List Nat), ∃ (l_bp_Details : List (List Nat)), rdN H b 0 2 = some [.slice bp_Coarse_a bp_Coarse_n bp_Coarse_e, .slice bp_Details_a bp_Details_n bp_Details_e] ∧ IsL fF H bp_Coarse_a bp_Coarse_n l_bp_Coarse ∧ IsLL fF H bp_Details_a bp_Details_n l_bp_Details ∧ l_bp_Coarse.length < 1073741824 ∧ l_bp_Details.length < 1073741824 ∧ (∀ y ∈ l_bp_Details, y.length < 1073741824) ∧ 1 ≤ l_bp_Details.length ∧ 1 ≤ (l_bp_Details.getD (0 : Int).toNat []).length ∧ ((∀ H' : AHeap, Grow H H' → K (p_spec_l05Noise l_bp_Coarse l_bp_Details) H'))
theorem T_spec_l05Noise_i {b : Nat} {H : AHeap} {K : Nat → AHeap → Prop} (h : ∃ (bp_Coarse_a : Option Addr), ∃ (bp_Coarse_n : Nat), ∃ (bp_Coarse_e : Nat), ∃ (bp_Details_a : Option Addr), ∃ (bp_Details_n : Nat), ∃ (bp_Details_e : Nat), ∃ (l_bp_Coarse : List Nat), ∃ (l_bp_Details : List (List Nat)), rdN H b 0 2 = some [.slice bp_Coarse_a bp_Coarse_n bp_Coarse_e, .slice bp_Details_a bp_Details_n bp_Details_e] ∧ IsL fF H bp_Coarse_a bp_Coarse_n l_bp_Coarse ∧ IsLL fF H bp_Details_a bp_Details_n l_bp_Details ∧ l_bp_Coarse.length < 1073741824 ∧ l_bp_Details.length < 1073741824 ∧ (∀ y ∈ l_bp_Details, y.length < 1073741824) ∧ 1 ≤ l_bp_Details.length ∧ 1 ≤ (l_bp_Details.getD (0 : Int).toNat []).length ∧ ((∀ H' : AHeap, Grow H H' → K (p_spec_l05Noise l_bp_Coarse l_bp_Details) H'))) : T_spec_l05Noise b H K := h

/-! spec_l05Noise: function 114 -/
def E_spec_l05Noise : Env := envOf [(172, S_spec_l05Sizes), (171, S_spec_l05Median)]
def F_spec_l05Noise : List Value → AHeap → (Value → AHeap → Prop) → Prop
  | [.pointer (some ⟨b, 0, none⟩)], H, K => T_spec_l05Noise b H fun (r1 : Nat) (H' : AHeap) => K (.float .f32 r1) H'
  | _, _, _ => False
def S_spec_l05Noise : FSpec := { F := F_spec_l05Noise, quiet := false, tame := true }
theorem spec_l05Noise_vc (b : Nat) (H : AHeap) (K : Value → AHeap → Prop) : bodyL Try.prog E_spec_l05Noise Try.f114 [.pointer (some ⟨b, 0, none⟩)] H K =
  (∃ x1_a : Option Addr, ∃ x1_n : Nat, ∃ x1_e : Nat,  rdC H b 1 = some (.slice x1_a x1_n x1_e) ∧ (0 : Int) ≤ 0 ∧ 0 < (x1_n : Int) ∧ ∃ b1 f1, (x1_a : Option Addr) = some ⟨b1, f1, none⟩ ∧ ∃ x2_a : Option Addr, ∃ x2_n : Nat, ∃ x2_e : Nat,  rdC H b1 (f1 + (0 : Int).toNat * 1) = some (.slice x2_a x2_n x2_e) ∧ T_spec_l05Sizes x2_a x2_n x2_e 0 H fun (a1 : Option Addr) (r1 : Nat) (r2 : Nat) (H1 : AHeap) => T_spec_l05Median a1 r1 r2 H1 fun (r3 : Nat) (H2 : AHeap) => K (.float .f32 (fdiv .f32 r3 1059892232)) H2) := by kernel_rfl
theorem E_spec_l05Noise_ok : ∀ g, FnOk Try.prog g (E_spec_l05Noise g) := FnOk.envOf (by
  intro x hx
  simp only [List.mem_cons, List.not_mem_nil, or_false] at hx
  rcases hx with rfl | rfl
  · exact spec_l05Sizes_ok
  · exact spec_l05Median_ok)
set_option maxHeartbeats 1000000 in
theorem spec_l05Noise_main (b : Nat) (H : AHeap) (K : Value → AHeap → Prop) (h : T_spec_l05Noise b H fun (r1 : Nat) (H' : AHeap) => K (.float .f32 r1) H') : bodyL Try.prog E_spec_l05Noise Try.f114 [.pointer (some ⟨b, 0, none⟩)] H K := by
  rw [spec_l05Noise_vc]
  obtain ⟨bp_Coarse_a, bp_Coarse_n, bp_Coarse_e, bp_Details_a, bp_Details_n, bp_Details_e, l_bp_Coarse, l_bp_Details, i_b, i_bp_Coarse, i_bp_Details, bd_27, bd_28, bb_l_bp_Details, pr0, pr1, hk⟩ := h
  obtain rfl := i_bp_Coarse.eqn
  obtain rfl := i_bp_Details.eqn
  have e : (p_spec_l05Noise l_bp_Coarse l_bp_Details) = _ := rfl
  have e := e.trans (p_spec_l05Noise_eq l_bp_Coarse l_bp_Details)
  have g0 := Grow.refl H
  refine ⟨bp_Details_a, l_bp_Details.length, bp_Details_e, (rdN_at (rdN_grow g0 i_b) 1 (Nat.le_of_ble_eq_true rfl)).trans rfl, ?_⟩
  obtain ⟨b_1, f_2, q_3⟩ := ((i_bp_Details.grow g0)).pos o0
  refine ⟨by omega, by omega, b_1, f_2, q_3, ?_⟩
  obtain ⟨a_4, n_5, e_6, r_7, i_8⟩ := (i_bp_Details).rd (i := (0 : Int).toNat) g0 q_3 o3
  obtain rfl := i_8.eqn
  refine ⟨a_4, _, e_6, r_7, ?_⟩
  have z_9 := getD_len bb_l_bp_Details (0 : Int).toNat
  refine T_spec_l05Sizes_i ⟨_, (i_8.grow g0), o0, fun a_10 n_11 e_12 H_1 g_15 r_13 => ?_⟩
  have z_14 := l05Sizes_len (((l_bp_Details).getD (0 : Int).toNat [])) 0
  have l_16 := g_15.1
  have g_17 := g0.trans g_15
  have l_18 := g_17.1
  obtain rfl := r_13.isL.eqn
  have u_19 := r_13.up
  have u_20 := r_13.lo
  refine T_spec_l05Median_i ⟨_, r_13.isL, o0, o2, fun  H_2 g_22  => ?_⟩
  have l_23 := g_22.1
  have g_24 := g_17.trans g_22
  have l_25 := g_24.1
  have r_26 := r_13.grow g_22
  rw [e] at hk
  exact hk  H_2 g_24 
theorem spec_l05Noise_ok : FnOk Try.prog 114 S_spec_l05Noise := by
  refine FnOk.body mix_ok E_spec_l05Noise_ok Try.func114 rfl (by kernel_rfl) (by kernel_rfl) ?_ ?_ ?_ ?_ ?_
  · intro args H K K' h hk
    simp only [S_spec_l05Noise] at *
    unfold F_spec_l05Noise at *
    split at hk
    · obtain ⟨bp_Coarse_a, bp_Coarse_n, bp_Coarse_e, bp_Details_a, bp_Details_n, bp_Details_e, l_bp_Coarse, l_bp_Details, i_b, i_bp_Coarse, i_bp_Details, bd_27, bd_28, bb_l_bp_Details, pr0, pr1, k⟩ := hk
      exact ⟨bp_Coarse_a, bp_Coarse_n, bp_Coarse_e, bp_Details_a, bp_Details_n, bp_Details_e, l_bp_Coarse, l_bp_Details, i_b, i_bp_Coarse, i_bp_Details, bd_27, bd_28, bb_l_bp_Details, pr0, pr1, (fun  H' gg  => h _ _ (k  H' gg ))⟩
    · exact hk.elim
  · intro hq; cases hq
  · intro args H K hk
    simp only [S_spec_l05Noise] at *
    unfold F_spec_l05Noise at *
    split at hk
    · obtain ⟨bp_Coarse_a, bp_Coarse_n, bp_Coarse_e, bp_Details_a, bp_Details_n, bp_Details_e, l_bp_Coarse, l_bp_Details, i_b, i_bp_Coarse, i_bp_Details, bd_27, bd_28, bb_l_bp_Details, pr0, pr1, k⟩ := hk
      exact ⟨_, _, k H (Grow.refl H)⟩
    · exact hk.elim
  · intro _ args H K hk
    simp only [S_spec_l05Noise] at *
    unfold F_spec_l05Noise at *
    split at hk
    · obtain ⟨bp_Coarse_a, bp_Coarse_n, bp_Coarse_e, bp_Details_a, bp_Details_n, bp_Details_e, l_bp_Coarse, l_bp_Details, i_b, i_bp_Coarse, i_bp_Details, bd_27, bd_28, bb_l_bp_Details, pr0, pr1, k⟩ := hk
      exact ⟨bp_Coarse_a, bp_Coarse_n, bp_Coarse_e, bp_Details_a, bp_Details_n, bp_Details_e, l_bp_Coarse, l_bp_Details, i_b, i_bp_Coarse, i_bp_Details, bd_27, bd_28, bb_l_bp_Details, pr0, pr1, (fun  H' gg  => ⟨gg, k  H' gg ⟩)⟩
    · exact hk.elim
  · have mm := @spec_l05Noise_main
    have ml := fun (args : List Value) (H : AHeap) (K : Value → AHeap → Prop) => bodyL_body (P := Try.prog) (env := E_spec_l05Noise ) (fn := Try.f114) (args := args) (H := H) (K := K) E_spec_l05Noise_ok 
    revert mm ml
    generalize bodyK Try.prog E_spec_l05Noise Try.f114 = Q
    generalize bodyL Try.prog E_spec_l05Noise Try.f114 = QL
    intro mm ml args H K hk
    simp only [S_spec_l05Noise] at *
    unfold F_spec_l05Noise at *
    split at hk
    · exact ml _ H K (mm _ H K hk)
    · exact hk.elim
def p_spec_l02Number (x : Nat) : Nat × Bool := (bif !(p_spec_l01Finite x) then (0, false) else (x, true))
def T_spec_l02Number (x : Nat) (H : AHeap) (K : Nat → Bool → AHeap → Prop) : Prop := K (p_spec_l02Number x).1 (p_spec_l02Number x).2 H

theorem T_spec_l02Number_i {x : Nat} {H : AHeap} {K : Nat → Bool → AHeap → Prop} (h : K (p_spec_l02Number x).1 (p_spec_l02Number x).2 H) : T_spec_l02Number x H K := h
/-! spec_l02Number: function 113 -/
def E_spec_l02Number : Env := envOf [(155, S_spec_l01Finite)]
def F_spec_l02Number : List Value → AHeap → (Value → AHeap → Prop) → Prop
  | [.float .f32 x], H, K => T_spec_l02Number x H fun (r1 : Nat) (r2 : Bool) (H' : AHeap) => K (.tuple #[.float .f32 r1, .bool r2]) H'
  | _, _, _ => False
def S_spec_l02Number : FSpec := { F := F_spec_l02Number, quiet := true, tame := false }
theorem spec_l02Number_vc (x : Nat) (H : AHeap) (K : Value → AHeap → Prop) : bodyL Try.prog E_spec_l02Number Try.f113 [.float .f32 x] H K =
  (T_spec_l01Finite x H fun (r1 : Bool) (H1 : AHeap) => Br (!r1) (K (.tuple #[.float .f32 0, .bool false]) H1) (K (.tuple #[.float .f32 x, .bool true]) H1)) := by kernel_rfl
theorem E_spec_l02Number_ok : ∀ g, FnOk Try.prog g (E_spec_l02Number g) := FnOk.envOf (by
  intro x hx
  simp only [List.mem_cons, List.not_mem_nil, or_false] at hx
  subst hx; exact spec_l01Finite_ok)
set_option maxHeartbeats 1000000 in
theorem spec_l02Number_main (x : Nat) (H : AHeap) (K : Value → AHeap → Prop) (h : T_spec_l02Number x H fun (r1 : Nat) (r2 : Bool) (H' : AHeap) => K (.tuple #[.float .f32 r1, .bool r2]) H') : bodyL Try.prog E_spec_l02Number Try.f113 [.float .f32 x] H K := by
  rw [spec_l02Number_vc]
  simp only [T_spec_l01Finite]
  unfold T_spec_l02Number p_spec_l02Number at h
  repeat' (first | exact h | (exfalso; simp_all; done) | (refine ⟨by decide, ?_⟩) | (refine Br.intro (fun hb => ?_) (fun hb => ?_) <;> (try simp only [hb, cond_true, cond_false, Bool.not_true, Bool.not_false] at h)))
theorem spec_l02Number_ok : FnOk Try.prog 113 S_spec_l02Number := by
  refine FnOk.body mix_ok E_spec_l02Number_ok Try.func113 rfl (by kernel_rfl) (by kernel_rfl) ?_ ?_ ?_ ?_ ?_
  · intro args H K K' h hk
    simp only [S_spec_l02Number] at *
    unfold F_spec_l02Number at *
    split at hk
    · have k := hk
      exact h _ _ k
    · exact hk.elim
  · intro _ args H K hk
    simp only [S_spec_l02Number] at *
    unfold F_spec_l02Number at *
    split at hk
    · have k := hk
      exact ⟨_, k, fun K' k' => k'⟩
    · exact hk.elim
  · intro args H K hk
    simp only [S_spec_l02Number] at *
    unfold F_spec_l02Number at *
    split at hk
    · have k := hk
      exact ⟨_, _, k⟩
    · exact hk.elim
  · intro hq; cases hq
  · have mm := @spec_l02Number_main
    have ml := fun (args : List Value) (H : AHeap) (K : Value → AHeap → Prop) => bodyL_body (P := Try.prog) (env := E_spec_l02Number ) (fn := Try.f113) (args := args) (H := H) (K := K) E_spec_l02Number_ok 
    revert mm ml
    generalize bodyK Try.prog E_spec_l02Number Try.f113 = Q
    generalize bodyL Try.prog E_spec_l02Number Try.f113 = QL
    intro mm ml args H K hk
    simp only [S_spec_l02Number] at *
    unfold F_spec_l02Number at *
    split at hk
    · exact ml _ H K (mm _ H K hk)
    · exact hk.elim

def p_spec_NoiseOf (l_b_Coarse : List Nat) (l_b_Details : List (List Nat)) : Nat × Bool := (bif !(p_spec_l03Bands l_b_Coarse l_b_Details) then (0, false) else ((p_spec_l02Number (p_spec_l05Noise l_b_Coarse l_b_Details)).1, (p_spec_l02Number (p_spec_l05Noise l_b_Coarse l_b_Details)).2))
def p_spec_NoiseOf_eq := @p_spec_NoiseOf.eq_1
def T_spec_NoiseOf (b_Coarse_a : Option Addr) (b_Coarse_n : Nat) (b_Coarse_e : Nat) (b_Details_a : Option Addr) (b_Details_n : Nat) (b_Details_e : Nat) (H : AHeap) (K : Nat → Bool → AHeap → Prop) : Prop := ∃ (l_b_Coarse : List Nat), ∃ (l_b_Details : List (List Nat)), IsL fF H b_Coarse_a b_Coarse_n l_b_Coarse ∧ IsLL fF H b_Details_a b_Details_n l_b_Details ∧ l_b_Coarse.length < 1073741824 ∧ l_b_Details.length < 1073741824 ∧ (∀ y ∈ l_b_Details, y.length < 1073741824) ∧ ((∀ H' : AHeap, Grow H H' → K ((p_spec_NoiseOf l_b_Coarse l_b_Details).1) ((p_spec_NoiseOf l_b_Coarse l_b_Details).2) H'))
theorem T_spec_NoiseOf_i {b_Coarse_a : Option Addr} {b_Coarse_n : Nat} {b_Coarse_e : Nat} {b_Details_a : Option Addr} {b_Details_n : Nat} {b_Details_e : Nat} {H : AHeap} {K : Nat → Bool → AHeap → Prop} (h : ∃ (l_b_Coarse : List Nat), ∃ (l_b_Details : List (List Nat)), IsL fF H b_Coarse_a b_Coarse_n l_b_Coarse ∧ IsLL fF H b_Details_a b_Details_n l_b_Details ∧ l_b_Coarse.length < 1073741824 ∧ l_b_Details.length < 1073741824 ∧ (∀ y ∈ l_b_Details, y.length < 1073741824) ∧ ((∀ H' : AHeap, Grow H H' → K ((p_spec_NoiseOf l_b_Coarse l_b_Details).1) ((p_spec_NoiseOf l_b_Coarse l_b_Details).2) H'))) : T_spec_NoiseOf b_Coarse_a b_Coarse_n b_Coarse_e b_Details_a b_Details_n b_Details_e H K := h

/-! spec_NoiseOf: function 28 -/
def E_spec_NoiseOf : Env := envOf [(112, S_spec_l03Bands), (114, S_spec_l05Noise), (113, S_spec_l02Number)]
def F_spec_NoiseOf : List Value → AHeap → (Value → AHeap → Prop) → Prop
  | [.agg ⟨[.slice b_Coarse_a b_Coarse_n b_Coarse_e, .slice b_Details_a b_Details_n b_Details_e]⟩], H, K => T_spec_NoiseOf b_Coarse_a b_Coarse_n b_Coarse_e b_Details_a b_Details_n b_Details_e H fun (r1 : Nat) (r2 : Bool) (H' : AHeap) => K (.tuple #[.float .f32 r1, .bool r2]) H'
  | _, _, _ => False
def S_spec_NoiseOf : FSpec := { F := F_spec_NoiseOf, quiet := false, tame := true }
theorem spec_NoiseOf_vc (b_Coarse_a : Option Addr) (b_Coarse_n : Nat) (b_Coarse_e : Nat) (b_Details_a : Option Addr) (b_Details_n : Nat) (b_Details_e : Nat) (H : AHeap) (K : Value → AHeap → Prop) : bodyL Try.prog E_spec_NoiseOf Try.f28 [.agg #[.slice b_Coarse_a b_Coarse_n b_Coarse_e, .slice b_Details_a b_Details_n b_Details_e]] H K =
  (Al [.slice b_Coarse_a b_Coarse_n b_Coarse_e, .slice b_Details_a b_Details_n b_Details_e] H fun b1 H1 => T_spec_l03Bands b1 H1 fun (r1 : Bool) (H2 : AHeap) => Br (!r1) (K (.tuple #[.float .f32 0, .bool false]) H2) (T_spec_l05Noise b1 H2 fun (r2 : Nat) (H3 : AHeap) => T_spec_l02Number r2 H3 fun (r3 : Nat) (r4 : Bool) (H4 : AHeap) => K (.tuple #[.float .f32 r3, .bool r4]) H4)) := by kernel_rfl
theorem E_spec_NoiseOf_ok : ∀ g, FnOk Try.prog g (E_spec_NoiseOf g) := FnOk.envOf (by
  intro x hx
  simp only [List.mem_cons, List.not_mem_nil, or_false] at hx
  rcases hx with rfl | rfl | rfl
  · exact spec_l03Bands_ok
  · exact spec_l05Noise_ok
  · exact spec_l02Number_ok)
set_option maxHeartbeats 1000000 in
theorem spec_NoiseOf_main (b_Coarse_a : Option Addr) (b_Coarse_n : Nat) (b_Coarse_e : Nat) (b_Details_a : Option Addr) (b_Details_n : Nat) (b_Details_e : Nat) (H : AHeap) (K : Value → AHeap → Prop) (h : T_spec_NoiseOf b_Coarse_a b_Coarse_n b_Coarse_e b_Details_a b_Details_n b_Details_e H fun (r1 : Nat) (r2 : Bool) (H' : AHeap) => K (.tuple #[.float .f32 r1, .bool r2]) H') : bodyL Try.prog E_spec_NoiseOf Try.f28 [.agg #[.slice b_Coarse_a b_Coarse_n b_Coarse_e, .slice b_Details_a b_Details_n b_Details_e]] H K := by
  rw [spec_NoiseOf_vc]
  obtain ⟨l_b_Coarse, l_b_Details, i_b_Coarse, i_b_Details, bd_18, bd_19, bb_l_b_Details, hk⟩ := h
  obtain rfl := i_b_Coarse.eqn
  obtain rfl := i_b_Details.eqn
  have e : (p_spec_NoiseOf l_b_Coarse l_b_Details) = _ := rfl
  have e := e.trans (p_spec_NoiseOf_eq l_b_Coarse l_b_Details)
  have g0 := Grow.refl H
  refine Al.intro (fun b_1 H_1 hb_2 hl_3 g_4 o_5 => ?_)
  have l_7 := g_4.1
  have g_8 := g0.trans g_4
  have l_9 := g_8.1
  have w_17 := o_5.lt
  refine T_spec_l03Bands_i ⟨b_Coarse_a, l_b_Coarse.length, b_Coarse_e, b_Details_a, l_b_Details.length, b_Details_e, _, l_b_Details, ((o_5.rdN (Nat.le_of_ble_eq_true rfl)).trans rfl), (i_b_Coarse.grow g_8), (i_b_Details.grow g_8), o0, o0, (by first | assumption | exact or_right (by assumption) (by omega) | exact or_right (by assumption : _ ∧ (_ ∨ _)).2 (by omega) | (intro y hy; simp only [List.mem_cons, List.not_mem_nil, or_false] at hy; first | omega | (subst hy; omega) | (rcases hy with rfl | rfl <;> omega) | (rcases hy with rfl | rfl | rfl <;> omega))), ?_⟩
  refine Br.intro (fun c_10 => ?_) (fun c_10 => ?_)
  · have e := e.trans (cond_t c_10)
    have c_10n := nf_of_t c_10
    rw [e] at hk
    exact hk  H_1 g_8 
  · have e := e.trans (cond_f c_10)
    have c_10n := nt_of_f c_10
    have c_10n' := spec_l03Bands_t c_10n
    refine T_spec_l05Noise_i ⟨b_Coarse_a, l_b_Coarse.length, b_Coarse_e, b_Details_a, l_b_Details.length, b_Details_e, _, l_b_Details, ((o_5.rdN (Nat.le_of_ble_eq_true rfl)).trans rfl), (i_b_Coarse.grow g_8), (i_b_Details.grow g_8), o0, o0, (by first | assumption | exact or_right (by assumption) (by omega) | exact or_right (by assumption : _ ∧ (_ ∨ _)).2 (by omega) | (intro y hy; simp only [List.mem_cons, List.not_mem_nil, or_false] at hy; first | omega | (subst hy; omega) | (rcases hy with rfl | rfl <;> omega) | (rcases hy with rfl | rfl | rfl <;> omega))), o2, o2, fun  H_2 g_11  => ?_⟩
    have l_12 := g_11.1
    have g_13 := g_8.trans g_11
    have l_14 := g_13.1
    have o_15 := o_5.grow g_11
    have w_16 := o_15.lt
    refine T_spec_l02Number_i ?_
    rw [e] at hk
    exact hk  H_2 g_13 
theorem spec_NoiseOf_ok : FnOk Try.prog 28 S_spec_NoiseOf := by
  refine FnOk.body mix_ok E_spec_NoiseOf_ok Try.func28 rfl (by kernel_rfl) (by kernel_rfl) ?_ ?_ ?_ ?_ ?_
  · intro args H K K' h hk
    simp only [S_spec_NoiseOf] at *
    unfold F_spec_NoiseOf at *
    split at hk
    · obtain ⟨l_b_Coarse, l_b_Details, i_b_Coarse, i_b_Details, bd_18, bd_19, bb_l_b_Details, k⟩ := hk
      exact ⟨l_b_Coarse, l_b_Details, i_b_Coarse, i_b_Details, bd_18, bd_19, bb_l_b_Details, (fun  H' gg  => h _ _ (k  H' gg ))⟩
    · exact hk.elim
  · intro hq; cases hq
  · intro args H K hk
    simp only [S_spec_NoiseOf] at *
    unfold F_spec_NoiseOf at *
    split at hk
    · obtain ⟨l_b_Coarse, l_b_Details, i_b_Coarse, i_b_Details, bd_18, bd_19, bb_l_b_Details, k⟩ := hk
      exact ⟨_, _, k H (Grow.refl H)⟩
    · exact hk.elim
  · intro _ args H K hk
    simp only [S_spec_NoiseOf] at *
    unfold F_spec_NoiseOf at *
    split at hk
    · obtain ⟨l_b_Coarse, l_b_Details, i_b_Coarse, i_b_Details, bd_18, bd_19, bb_l_b_Details, k⟩ := hk
      exact ⟨l_b_Coarse, l_b_Details, i_b_Coarse, i_b_Details, bd_18, bd_19, bb_l_b_Details, (fun  H' gg  => ⟨gg, k  H' gg ⟩)⟩
    · exact hk.elim
  · have mm := @spec_NoiseOf_main
    have ml := fun (args : List Value) (H : AHeap) (K : Value → AHeap → Prop) => bodyL_body (P := Try.prog) (env := E_spec_NoiseOf ) (fn := Try.f28) (args := args) (H := H) (K := K) E_spec_NoiseOf_ok 
    revert mm ml
    generalize bodyK Try.prog E_spec_NoiseOf Try.f28 = Q
    generalize bodyL Try.prog E_spec_NoiseOf Try.f28 = QL
    intro mm ml args H K hk
    simp only [S_spec_NoiseOf] at *
    unfold F_spec_NoiseOf at *
    split at hk
    · exact ml _ H K (mm _ _ _ _ _ _ H K hk)
    · exact hk.elim
def p_impl_within (n : Int) (low : Int) (high : Int) : Bool := (bif decide ((low : Int) ≤ n) then decide ((n : Int) ≤ high) else false)
def T_impl_within (n : Int) (low : Int) (high : Int) (H : AHeap) (K : Bool → AHeap → Prop) : Prop := K (p_impl_within n low high) H
theorem impl_within_t {n a b : Int} (h : p_impl_within n a b = true) : a ≤ n ∧ n ≤ b := by
  unfold p_impl_within at h
  by_cases h1 : a ≤ n
  · rw [decide_eq_true h1, cond_true] at h; exact ⟨h1, of_decide_eq_true h⟩
  · rw [decide_eq_false h1] at h; cases h
theorem T_impl_within_i {n : Int} {low : Int} {high : Int} {H : AHeap} {K : Bool → AHeap → Prop} (h : K (p_impl_within n low high) H) : T_impl_within n low high H K := h
/-! impl_within: function 96 -/
def E_impl_within : Env := envOf []
def F_impl_within : List Value → AHeap → (Value → AHeap → Prop) → Prop
  | [.int .i64 n, .int .i64 low, .int .i64 high], H, K => T_impl_within n low high H fun (r1 : Bool) (H' : AHeap) => K (.bool r1) H'
  | _, _, _ => False
def S_impl_within : FSpec := { F := F_impl_within, quiet := true, tame := false }
theorem impl_within_vc (n : Int) (low : Int) (high : Int) (H : AHeap) (K : Value → AHeap → Prop) : bodyL Try.prog E_impl_within Try.f96 [.int .i64 n, .int .i64 low, .int .i64 high] H K =
  (Br (decide ((low : Int) ≤ n)) (K (.bool (decide ((n : Int) ≤ high))) H) (K (.bool false) H)) := by kernel_rfl
theorem E_impl_within_ok : ∀ g, FnOk Try.prog g (E_impl_within g) := FnOk.envOf (by
  intro x hx; cases hx)
set_option maxHeartbeats 1000000 in
theorem impl_within_main (n : Int) (low : Int) (high : Int) (H : AHeap) (K : Value → AHeap → Prop) (h : T_impl_within n low high H fun (r1 : Bool) (H' : AHeap) => K (.bool r1) H') : bodyL Try.prog E_impl_within Try.f96 [.int .i64 n, .int .i64 low, .int .i64 high] H K := by
  rw [impl_within_vc]
  unfold T_impl_within p_impl_within at h
  repeat' (first | exact h | (exfalso; simp_all; done) | (refine ⟨by decide, ?_⟩) | (refine Br.intro (fun hb => ?_) (fun hb => ?_) <;> (try simp only [hb, cond_true, cond_false, Bool.not_true, Bool.not_false] at h)))
theorem impl_within_ok : FnOk Try.prog 96 S_impl_within := by
  refine FnOk.body mix_ok E_impl_within_ok Try.func96 rfl (by kernel_rfl) (by kernel_rfl) ?_ ?_ ?_ ?_ ?_
  · intro args H K K' h hk
    simp only [S_impl_within] at *
    unfold F_impl_within at *
    split at hk
    · have k := hk
      exact h _ _ k
    · exact hk.elim
  · intro _ args H K hk
    simp only [S_impl_within] at *
    unfold F_impl_within at *
    split at hk
    · have k := hk
      exact ⟨_, k, fun K' k' => k'⟩
    · exact hk.elim
  · intro args H K hk
    simp only [S_impl_within] at *
    unfold F_impl_within at *
    split at hk
    · have k := hk
      exact ⟨_, _, k⟩
    · exact hk.elim
  · intro hq; cases hq
  · have mm := @impl_within_main
    have ml := fun (args : List Value) (H : AHeap) (K : Value → AHeap → Prop) => bodyL_body (P := Try.prog) (env := E_impl_within ) (fn := Try.f96) (args := args) (H := H) (K := K) E_impl_within_ok 
    revert mm ml
    generalize bodyK Try.prog E_impl_within Try.f96 = Q
    generalize bodyL Try.prog E_impl_within Try.f96 = QL
    intro mm ml args H K hk
    simp only [S_impl_within] at *
    unfold F_impl_within at *
    split at hk
    · exact ml _ H K (mm _ _ _ H K hk)
    · exact hk.elim
def p_impl_IsFinite (x : Nat) : Bool := feq .f32 (fsub .f32 x x) 0
def T_impl_IsFinite (x : Nat) (H : AHeap) (K : Bool → AHeap → Prop) : Prop := K (p_impl_IsFinite x) H

theorem T_impl_IsFinite_i {x : Nat} {H : AHeap} {K : Bool → AHeap → Prop} (h : K (p_impl_IsFinite x) H) : T_impl_IsFinite x H K := h
/-! impl_IsFinite: function 133 -/
def E_impl_IsFinite : Env := envOf []
def F_impl_IsFinite : List Value → AHeap → (Value → AHeap → Prop) → Prop
  | [.float .f32 x], H, K => T_impl_IsFinite x H fun (r1 : Bool) (H' : AHeap) => K (.bool r1) H'
  | _, _, _ => False
def S_impl_IsFinite : FSpec := { F := F_impl_IsFinite, quiet := true, tame := false }
theorem impl_IsFinite_vc (x : Nat) (H : AHeap) (K : Value → AHeap → Prop) : bodyL Try.prog E_impl_IsFinite Try.f133 [.float .f32 x] H K =
  (K (.bool (feq .f32 (fsub .f32 x x) 0)) H) := by kernel_rfl
theorem E_impl_IsFinite_ok : ∀ g, FnOk Try.prog g (E_impl_IsFinite g) := FnOk.envOf (by
  intro x hx; cases hx)
set_option maxHeartbeats 1000000 in
theorem impl_IsFinite_main (x : Nat) (H : AHeap) (K : Value → AHeap → Prop) (h : T_impl_IsFinite x H fun (r1 : Bool) (H' : AHeap) => K (.bool r1) H') : bodyL Try.prog E_impl_IsFinite Try.f133 [.float .f32 x] H K := by
  rw [impl_IsFinite_vc]
  unfold T_impl_IsFinite p_impl_IsFinite at h
  repeat' (first | exact h | (exfalso; simp_all; done) | (refine ⟨by decide, ?_⟩) | (refine Br.intro (fun hb => ?_) (fun hb => ?_) <;> (try simp only [hb, cond_true, cond_false, Bool.not_true, Bool.not_false] at h)))
theorem impl_IsFinite_ok : FnOk Try.prog 133 S_impl_IsFinite := by
  refine FnOk.body mix_ok E_impl_IsFinite_ok Try.func133 rfl (by kernel_rfl) (by kernel_rfl) ?_ ?_ ?_ ?_ ?_
  · intro args H K K' h hk
    simp only [S_impl_IsFinite] at *
    unfold F_impl_IsFinite at *
    split at hk
    · have k := hk
      exact h _ _ k
    · exact hk.elim
  · intro _ args H K hk
    simp only [S_impl_IsFinite] at *
    unfold F_impl_IsFinite at *
    split at hk
    · have k := hk
      exact ⟨_, k, fun K' k' => k'⟩
    · exact hk.elim
  · intro args H K hk
    simp only [S_impl_IsFinite] at *
    unfold F_impl_IsFinite at *
    split at hk
    · have k := hk
      exact ⟨_, _, k⟩
    · exact hk.elim
  · intro hq; cases hq
  · have mm := @impl_IsFinite_main
    have ml := fun (args : List Value) (H : AHeap) (K : Value → AHeap → Prop) => bodyL_body (P := Try.prog) (env := E_impl_IsFinite ) (fn := Try.f133) (args := args) (H := H) (K := K) E_impl_IsFinite_ok 
    revert mm ml
    generalize bodyK Try.prog E_impl_IsFinite Try.f133 = Q
    generalize bodyL Try.prog E_impl_IsFinite Try.f133 = QL
    intro mm ml args H K hk
    simp only [S_impl_IsFinite] at *
    unfold F_impl_IsFinite at *
    split at hk
    · exact ml _ H K (mm _ H K hk)
    · exact hk.elim

def p_impl_areFinite_l2 (l_lists : List (List Nat)) (t2 : Bool) (t9 : Int) (k2_2 : Bool → Int → Bool) : Nat → Bool → Int → Bool
  | 0, _, _ => false
  | μ2 + 1, t2_2, t15 => (bif decide ((t15 : Int) < ((((l_lists).getD (t9 : Int).toNat [])).length : Int)) then (bif !((p_impl_IsFinite (((((l_lists).getD (t9 : Int).toNat [])).getD (t15 : Int).toNat 0)))) then false else (p_impl_areFinite_l2 l_lists t2 t9 k2_2 μ2 t2_2 (t15 + 1))) else (k2_2 t2_2 t15))
def p_impl_areFinite_l2_s := fun l_lists t2 t9 k2_2 μ2 t2_2 t15 => @p_impl_areFinite_l2.eq_2 l_lists t2 t9 k2_2 t2_2 t15 μ2
def p_impl_areFinite_l1 (l_lists : List (List Nat)) : Nat → Bool → Int → Bool
  | 0, _, _ => false
  | μ + 1, t2, t9 => (bif decide ((t9 : Int) < (l_lists.length : Int)) then (p_impl_areFinite_l2 l_lists t2 t9 (fun (t2_2 : Bool) (t15 : Int) => (p_impl_areFinite_l1 l_lists μ t2_2 (t9 + 1))) (Int.toNat (((((l_lists).getD (t9 : Int).toNat [])).length : Int) - (0 : Int)) + 1) t2 (0 : Int)) else true)
def p_impl_areFinite_l1_s := fun l_lists μ t2 t9 => @p_impl_areFinite_l1.eq_2 l_lists t2 t9 μ
def p_impl_areFinite (l_lists : List (List Nat)) : Bool := (p_impl_areFinite_l1 l_lists (Int.toNat ((l_lists.length : Int) - (0 : Int)) + 1) false (0 : Int))
def p_impl_areFinite_eq := @p_impl_areFinite.eq_1
def T_impl_areFinite (lists_a : Option Addr) (lists_n : Nat) (lists_e : Nat) (H : AHeap) (K : Bool → AHeap → Prop) : Prop := ∃ (l_lists : List (List Nat)), IsLL fF H lists_a lists_n l_lists ∧ l_lists.length < 1073741824 ∧ (∀ y ∈ l_lists, y.length < 1073741824) ∧ K (p_impl_areFinite l_lists) H
theorem T_impl_areFinite_i {lists_a : Option Addr} {lists_n : Nat} {lists_e : Nat} {H : AHeap} {K : Bool → AHeap → Prop} (h : ∃ (l_lists : List (List Nat)), IsLL fF H lists_a lists_n l_lists ∧ l_lists.length < 1073741824 ∧ (∀ y ∈ l_lists, y.length < 1073741824) ∧ K (p_impl_areFinite l_lists) H) : T_impl_areFinite lists_a lists_n lists_e H K := h

/-! impl_areFinite: function 166 -/
def E_impl_areFinite : Env := envOf [(133, S_impl_IsFinite)]
def F_impl_areFinite : List Value → AHeap → (Value → AHeap → Prop) → Prop
  | [.slice lists_a lists_n lists_e], H, K => T_impl_areFinite lists_a lists_n lists_e H fun (r1 : Bool) (H' : AHeap) => K (.bool r1) H'
  | _, _, _ => False
def S_impl_areFinite : FSpec := { F := F_impl_areFinite, quiet := true, tame := false }
theorem impl_areFinite_vc (lists_a : Option Addr) (lists_n : Nat) (lists_e : Nat) (H : AHeap) (K : Value → AHeap → Prop) : bodyL Try.prog E_impl_areFinite Try.f166 [.slice lists_a lists_n lists_e] H K =
  (loopK (exL Try.prog E_impl_areFinite (cl (cl (cr (cl (cr (bodyC Try.f166)))))) 896 4 [(0, 0)]) [ud, ud, ud, ud, ud, ud, ud, .slice lists_a lists_n lists_e, .int .i64 (lists_n : Int), .int .i64 0, ud, ud, ud, ud, ud, ud, ud, ud, ud, ud, ud, ud, ud, ud] H (blockQ 0 (seqQ (exL Try.prog E_impl_areFinite (cr (cr (bodyC Try.f166))) 4 4 []) (retK Try.prog Try.f166 K)))) := by kernel_rfl
abbrev impl_areFinite_P1 (lists_a : Option Addr) (lists_e : Nat) (lists_n : Nat) (t9 : Int)  : List Value := [ud, ud, ud, ud, ud, ud, ud, .slice lists_a lists_n lists_e, .int .i64 (lists_n : Int), .int .i64 t9, ud, ud, ud, ud, ud, ud, ud, ud, ud, ud, ud, ud, ud, ud]
theorem impl_areFinite_r1 (lists_a : Option Addr) (lists_e : Nat) (lists_n : Nat) (t9 : Int)  (H : AHeap) (R : Post) : exL Try.prog E_impl_areFinite (cl (cl (cr (cl (cr (bodyC Try.f166)))))) 896 4 [(0, 0)] (impl_areFinite_P1 lists_a lists_e lists_n t9) H R =
  (Br (decide ((t9 : Int) < (lists_n : Int))) ((0 : Int) ≤ t9 ∧ t9 < (lists_n : Int) ∧ ∃ b1 f1, (lists_a : Option Addr) = some ⟨b1, f1, none⟩ ∧ ∃ x1_a : Option Addr, ∃ x1_n : Nat, ∃ x1_e : Nat,  rdC H b1 (f1 + (t9 : Int).toNat * 1) = some (.slice x1_a x1_n x1_e) ∧ loopK (exL Try.prog E_impl_areFinite (cl (cl (cr (cr (cl (cl (cr (cr (cl (cl (cr (cl (cr (bodyC Try.f166)))))))))))))) 58240 4 [(2, 896), (1, 896), (0, 0)]) [ud, ud, ud, ud, ud, ud, ud, .slice lists_a lists_n lists_e, .int .i64 (lists_n : Int), .int .i64 t9, ud, ud, ud, .slice x1_a x1_n x1_e, .int .i64 (x1_n : Int), .int .i64 0, ud, ud, ud, ud, ud, ud, ud, ud] H (blockQ 2 (blockQ 1 (seqQ (exL Try.prog E_impl_areFinite (cr (cr (cr (cl (cl (cr (cl (cr (bodyC Try.f166))))))))) 896 4 [(0, 0)]) (R))))) (R (.exit 0) [ud, ud, ud, ud, ud, ud, ud, ud, ud, ud, ud, ud, ud, ud, ud, ud, ud, ud, ud, ud, ud, ud, ud, ud] H)) := by kernel_rfl
def impl_areFinite_I1 (lists_a : Option Addr) (lists_e : Nat) (lists_n : Nat) (Inv : Nat → Int → AHeap → Prop) : Nat → List Value → AHeap → Prop := fun μ tm H => ∃ (t9 : Int), tm = (impl_areFinite_P1 lists_a lists_e lists_n t9) ∧ Inv μ t9 H
theorem impl_areFinite_L1 (lists_a : Option Addr) (lists_e : Nat) (lists_n : Nat) {Q : Post} (Inv : Nat → Int → AHeap → Prop) (ν : Nat) (t9 : Int)  (H : AHeap) (h0 : Inv ν t9 H)
    (hs : ∀ (μ : Nat) (t9 : Int)  (H : AHeap), Inv μ t9 H → exL Try.prog E_impl_areFinite (cl (cl (cr (cl (cr (bodyC Try.f166)))))) 896 4 [(0, 0)] (impl_areFinite_P1 lists_a lists_e lists_n t9) H (loopQ (impl_areFinite_I1 lists_a lists_e lists_n Inv) μ Q)) : loopK (exL Try.prog E_impl_areFinite (cl (cl (cr (cl (cr (bodyC Try.f166)))))) 896 4 [(0, 0)]) (impl_areFinite_P1 lists_a lists_e lists_n t9) H Q :=
  ⟨impl_areFinite_I1 lists_a lists_e lists_n Inv, ν, ⟨t9, rfl, h0⟩, fun μ tm H h => by obtain ⟨t9, rfl, hI⟩ := h; exact hs μ t9  H hI⟩
theorem impl_areFinite_n1 {lists_a : Option Addr} {lists_e : Nat} {lists_n : Nat} {Q : Post} {Inv : Nat → Int → AHeap → Prop} {μ : Nat} (μ' : Nat) {t9 : Int}  {H : AHeap} (hm : μ' < μ) (hI : Inv μ' t9 H) : loopQ (impl_areFinite_I1 lists_a lists_e lists_n Inv) μ Q .normal (impl_areFinite_P1 lists_a lists_e lists_n t9) H := ⟨μ', hm, t9, rfl, hI⟩
theorem impl_areFinite_x1_0  (H : AHeap) (K : Value → AHeap → Prop)  {I : Nat → List Value → AHeap → Prop} {μ : Nat} : loopQ I μ (blockQ 0 (seqQ (exL Try.prog E_impl_areFinite (cr (cr (bodyC Try.f166))) 4 4 []) (retK Try.prog Try.f166 K))) (.exit 0) [ud, ud, ud, ud, ud, ud, ud, ud, ud, ud, ud, ud, ud, ud, ud, ud, ud, ud, ud, ud, ud, ud, ud, ud] H =
  (K (.bool true) H) := by kernel_rfl
theorem impl_areFinite_x1_ret (t2 : Bool) (H : AHeap) (K : Value → AHeap → Prop)  {I : Nat → List Value → AHeap → Prop} {μ : Nat} : loopQ I μ (blockQ 0 (seqQ (exL Try.prog E_impl_areFinite (cr (cr (bodyC Try.f166))) 4 4 []) (retK Try.prog Try.f166 K))) .ret [ud, ud, .bool t2, ud, ud, ud, ud, ud, ud, ud, ud, ud, ud, ud, ud, ud, ud, ud, ud, ud, ud, ud, ud, ud] H =
  (K (.bool t2) H) := by kernel_rfl
abbrev impl_areFinite_P2 (lists_a : Option Addr) (lists_e : Nat) (lists_n : Nat) (t9 : Int) (x1_a : Option Addr) (x1_e : Nat) (x1_n : Nat) (t15 : Int)  : List Value := [ud, ud, ud, ud, ud, ud, ud, .slice lists_a lists_n lists_e, .int .i64 (lists_n : Int), .int .i64 t9, ud, ud, ud, .slice x1_a x1_n x1_e, .int .i64 (x1_n : Int), .int .i64 t15, ud, ud, ud, ud, ud, ud, ud, ud]
theorem impl_areFinite_r2 (lists_a : Option Addr) (lists_e : Nat) (lists_n : Nat) (t9 : Int) (x1_a : Option Addr) (x1_e : Nat) (x1_n : Nat) (t15 : Int)  (H : AHeap) (R : Post) : exL Try.prog E_impl_areFinite (cl (cl (cr (cr (cl (cl (cr (cr (cl (cl (cr (cl (cr (bodyC Try.f166)))))))))))))) 58240 4 [(2, 896), (1, 896), (0, 0)] (impl_areFinite_P2 lists_a lists_e lists_n t9 x1_a x1_e x1_n t15) H R =
  (Br (decide ((t15 : Int) < (x1_n : Int))) ((0 : Int) ≤ t15 ∧ t15 < (x1_n : Int) ∧ ∃ b2 f2, (x1_a : Option Addr) = some ⟨b2, f2, none⟩ ∧ ∃ x2 : Nat,  rdC H b2 (f2 + (t15 : Int).toNat * 1) = some (.float .f32 x2) ∧ T_impl_IsFinite x2 H fun (r1 : Bool) (H1 : AHeap) => Br (!r1) (R .ret [ud, ud, .bool false, ud, ud, ud, ud, ud, ud, ud, ud, ud, ud, ud, ud, ud, ud, ud, ud, ud, ud, ud, ud, ud] H1) (R .normal [ud, ud, ud, ud, ud, ud, ud, .slice lists_a lists_n lists_e, .int .i64 (lists_n : Int), .int .i64 t9, ud, ud, ud, .slice x1_a x1_n x1_e, .int .i64 (x1_n : Int), .int .i64 (IntKind.wrap .i64 (t15 + 1)), ud, ud, ud, ud, ud, ud, ud, ud] H1)) (R (.exit 2) [ud, ud, ud, ud, ud, ud, ud, .slice lists_a lists_n lists_e, .int .i64 (lists_n : Int), .int .i64 t9, ud, ud, ud, ud, ud, ud, ud, ud, ud, ud, ud, ud, ud, ud] H)) := by kernel_rfl
def impl_areFinite_I2 (lists_a : Option Addr) (lists_e : Nat) (lists_n : Nat) (t9 : Int) (x1_a : Option Addr) (x1_e : Nat) (x1_n : Nat) (Inv : Nat → Int → AHeap → Prop) : Nat → List Value → AHeap → Prop := fun μ tm H => ∃ (t15 : Int), tm = (impl_areFinite_P2 lists_a lists_e lists_n t9 x1_a x1_e x1_n t15) ∧ Inv μ t15 H
theorem impl_areFinite_L2 (lists_a : Option Addr) (lists_e : Nat) (lists_n : Nat) (t9 : Int) (x1_a : Option Addr) (x1_e : Nat) (x1_n : Nat) {Q : Post} (Inv : Nat → Int → AHeap → Prop) (ν : Nat) (t15 : Int)  (H : AHeap) (h0 : Inv ν t15 H)
    (hs : ∀ (μ : Nat) (t15 : Int)  (H : AHeap), Inv μ t15 H → exL Try.prog E_impl_areFinite (cl (cl (cr (cr (cl (cl (cr (cr (cl (cl (cr (cl (cr (bodyC Try.f166)))))))))))))) 58240 4 [(2, 896), (1, 896), (0, 0)] (impl_areFinite_P2 lists_a lists_e lists_n t9 x1_a x1_e x1_n t15) H (loopQ (impl_areFinite_I2 lists_a lists_e lists_n t9 x1_a x1_e x1_n Inv) μ Q)) : loopK (exL Try.prog E_impl_areFinite (cl (cl (cr (cr (cl (cl (cr (cr (cl (cl (cr (cl (cr (bodyC Try.f166)))))))))))))) 58240 4 [(2, 896), (1, 896), (0, 0)]) (impl_areFinite_P2 lists_a lists_e lists_n t9 x1_a x1_e x1_n t15) H Q :=
  ⟨impl_areFinite_I2 lists_a lists_e lists_n t9 x1_a x1_e x1_n Inv, ν, ⟨t15, rfl, h0⟩, fun μ tm H h => by obtain ⟨t15, rfl, hI⟩ := h; exact hs μ t15  H hI⟩
theorem impl_areFinite_n2 {lists_a : Option Addr} {lists_e : Nat} {lists_n : Nat} {t9 : Int} {x1_a : Option Addr} {x1_e : Nat} {x1_n : Nat} {Q : Post} {Inv : Nat → Int → AHeap → Prop} {μ : Nat} (μ' : Nat) {t15 : Int}  {H : AHeap} (hm : μ' < μ) (hI : Inv μ' t15 H) : loopQ (impl_areFinite_I2 lists_a lists_e lists_n t9 x1_a x1_e x1_n Inv) μ Q .normal (impl_areFinite_P2 lists_a lists_e lists_n t9 x1_a x1_e x1_n t15) H := ⟨μ', hm, t15, rfl, hI⟩
theorem impl_areFinite_x2_2 (lists_a : Option Addr) (lists_e : Nat) (lists_n : Nat) (t9 : Int) (H : AHeap)  (R : Post) {I : Nat → List Value → AHeap → Prop} {μ : Nat} : loopQ I μ (blockQ 2 (blockQ 1 (seqQ (exL Try.prog E_impl_areFinite (cr (cr (cr (cl (cl (cr (cl (cr (bodyC Try.f166))))))))) 896 4 [(0, 0)]) (R)))) (.exit 2) [ud, ud, ud, ud, ud, ud, ud, .slice lists_a lists_n lists_e, .int .i64 (lists_n : Int), .int .i64 t9, ud, ud, ud, ud, ud, ud, ud, ud, ud, ud, ud, ud, ud, ud] H =
  (R .normal [ud, ud, ud, ud, ud, ud, ud, .slice lists_a lists_n lists_e, .int .i64 (lists_n : Int), .int .i64 (IntKind.wrap .i64 (t9 + 1)), ud, ud, ud, ud, ud, ud, ud, ud, ud, ud, ud, ud, ud, ud] H) := by kernel_rfl
theorem impl_areFinite_x2_ret (t2_2 : Bool) (H : AHeap)  (R : Post) {I : Nat → List Value → AHeap → Prop} {μ : Nat} : loopQ I μ (blockQ 2 (blockQ 1 (seqQ (exL Try.prog E_impl_areFinite (cr (cr (cr (cl (cl (cr (cl (cr (bodyC Try.f166))))))))) 896 4 [(0, 0)]) (R)))) .ret [ud, ud, .bool t2_2, ud, ud, ud, ud, ud, ud, ud, ud, ud, ud, ud, ud, ud, ud, ud, ud, ud, ud, ud, ud, ud] H =
  (R .ret [ud, ud, .bool t2_2, ud, ud, ud, ud, ud, ud, ud, ud, ud, ud, ud, ud, ud, ud, ud, ud, ud, ud, ud, ud, ud] H) := by kernel_rfl
theorem E_impl_areFinite_ok : ∀ g, FnOk Try.prog g (E_impl_areFinite g) := FnOk.envOf (by
  intro x hx
  simp only [List.mem_cons, List.not_mem_nil, or_false] at hx
  subst hx; exact impl_IsFinite_ok)
set_option maxHeartbeats 1000000 in
theorem impl_areFinite_main (lists_a : Option Addr) (lists_n : Nat) (lists_e : Nat) (H : AHeap) (K : Value → AHeap → Prop) (h : T_impl_areFinite lists_a lists_n lists_e H fun (r1 : Bool) (H' : AHeap) => K (.bool r1) H') : bodyL Try.prog E_impl_areFinite Try.f166 [.slice lists_a lists_n lists_e] H K := by
  rw [impl_areFinite_vc]
  obtain ⟨l_lists, i_lists, bd_22, bb_l_lists, hk⟩ := h
  obtain rfl := i_lists.eqn
  have e : (p_impl_areFinite l_lists) = _ := rfl
  have e := e.trans (p_impl_areFinite_eq l_lists)
  have g0 := Grow.refl H
  refine impl_areFinite_L1 _ _ _ (fun (μ : Nat) (t9 : Int) (H_1 : AHeap) => ∃ (t2 : Bool), H = H_1 ∧ (0 : Int) ≤ t9 ∧ t9 ≤ (l_lists.length : Int) ∧ (l_lists.length : Int) - t9 ≤ (μ : Int) ∧ p_impl_areFinite l_lists = p_impl_areFinite_l1 l_lists (μ + 1) t2 t9) (Int.toNat ((l_lists.length : Int) - (0 : Int))) _ H ?_ ?_
  · exact ⟨_, rfl, o5, o5, o3, e⟩
  · intro μ t9  H_1 hI
    obtain ⟨t2, rfl, v_1, v_2, hμ, e⟩ := hI
    rw [impl_areFinite_r1]
    have e := e.trans (p_impl_areFinite_l1_s l_lists μ t2 t9)
    have l_3 := g0.1
    refine Br.intro (fun c_4 => ?_) (fun c_4 => ?_)
    · have e := e.trans (cond_t c_4)
      have c_4' := of_decide_eq_true c_4
      obtain ⟨b_5, f_6, q_7⟩ := ((i_lists.grow g0)).pos o0
      refine ⟨by omega, by omega, b_5, f_6, q_7, ?_⟩
      obtain ⟨a_8, n_9, e_10, r_11, i_12⟩ := (i_lists).rd (i := (t9 : Int).toNat) g0 q_7 o3
      obtain rfl := i_12.eqn
      refine ⟨a_8, _, e_10, r_11, ?_⟩
      have z_13 := getD_len bb_l_lists (t9 : Int).toNat
      refine impl_areFinite_L2 _ _ _ _ _ _ _ (fun (μ2 : Nat) (t15 : Int) (H_2 : AHeap) => ∃ (t2_2 : Bool), H = H_2 ∧ (0 : Int) ≤ t15 ∧ t15 ≤ ((((l_lists).getD (t9 : Int).toNat [])).length : Int) ∧ ((((l_lists).getD (t9 : Int).toNat [])).length : Int) - t15 ≤ (μ2 : Int) ∧ p_impl_areFinite l_lists = p_impl_areFinite_l2 l_lists t2 t9 (fun (t2_2 : Bool) (t15 : Int) => (p_impl_areFinite_l1 l_lists μ t2_2 (t9 + 1))) (μ2 + 1) t2_2 t15) (Int.toNat (((((l_lists).getD (t9 : Int).toNat [])).length : Int) - (0 : Int))) _ H ?_ ?_
      · exact ⟨_, rfl, o5, o5, o3, e⟩
      · intro μ2 t15  H_2 hI
        obtain ⟨t2_2, rfl, v_14, v_15, hμ, e⟩ := hI
        rw [impl_areFinite_r2]
        have e := e.trans (p_impl_areFinite_l2_s l_lists t2 t9 (fun (t2_2 : Bool) (t15 : Int) => (p_impl_areFinite_l1 l_lists μ t2_2 (t9 + 1))) μ2 t2_2 t15)
        have l_16 := g0.1
        refine Br.intro (fun c_17 => ?_) (fun c_17 => ?_)
        · have e := e.trans (cond_t c_17)
          have c_17' := of_decide_eq_true c_17
          obtain ⟨b_18, f_19, q_20⟩ := ((i_12.grow g0)).pos o0
          refine ⟨by omega, by omega, b_18, f_19, q_20, ?_⟩
          refine ⟨((((l_lists).getD (t9 : Int).toNat [])).getD (t15 : Int).toNat 0), (i_12).rd g0 q_20 o3 _, ?_⟩
          refine T_impl_IsFinite_i ?_
          refine Br.intro (fun c_21 => ?_) (fun c_21 => ?_)
          · have e := e.trans (cond_t c_21)
            have c_21n := nf_of_t c_21
            rw [impl_areFinite_x2_ret]
            rw [impl_areFinite_x1_ret]
            rw [e] at hk
            exact hk
          · have e := e.trans (cond_f c_21)
            have c_21n := nt_of_f c_21
            rw [show IntKind.wrap .i64 (t15 + 1) = (t15 + 1) from wrap64 o3 o3]
            refine impl_areFinite_n2 (μ2 - 1) o10 ⟨_, rfl, o1, o1, o10, (by rw [show μ2 - 1 + 1 = μ2 from by first | omega]; exact e)⟩
        · have e := e.trans (cond_f c_17)
          have c_17' := of_decide_eq_false c_17
          rw [impl_areFinite_x2_2]
          rw [show IntKind.wrap .i64 (t9 + 1) = (t9 + 1) from wrap64 o3 o3]
          refine impl_areFinite_n1 (μ - 1) o10 ⟨_, rfl, o1, o1, o10, (by rw [show μ - 1 + 1 = μ from by first | omega]; exact e)⟩
    · have e := e.trans (cond_f c_4)
      have c_4' := of_decide_eq_false c_4
      rw [impl_areFinite_x1_0]
      rw [e] at hk
      exact hk
theorem impl_areFinite_ok : FnOk Try.prog 166 S_impl_areFinite := by
  refine FnOk.body mix_ok E_impl_areFinite_ok Try.func166 rfl (by kernel_rfl) (by kernel_rfl) ?_ ?_ ?_ ?_ ?_
  · intro args H K K' h hk
    simp only [S_impl_areFinite] at *
    unfold F_impl_areFinite at *
    split at hk
    · obtain ⟨l_lists, i_lists, bd_22, bb_l_lists, k⟩ := hk
      exact ⟨l_lists, i_lists, bd_22, bb_l_lists, h _ _ k⟩
    · exact hk.elim
  · intro _ args H K hk
    simp only [S_impl_areFinite] at *
    unfold F_impl_areFinite at *
    split at hk
    · obtain ⟨l_lists, i_lists, bd_22, bb_l_lists, k⟩ := hk
      exact ⟨_, k, fun K' k' => ⟨l_lists, i_lists, bd_22, bb_l_lists, k'⟩⟩
    · exact hk.elim
  · intro args H K hk
    simp only [S_impl_areFinite] at *
    unfold F_impl_areFinite at *
    split at hk
    · obtain ⟨l_lists, i_lists, bd_22, bb_l_lists, k⟩ := hk
      exact ⟨_, _, k⟩
    · exact hk.elim
  · intro hq; cases hq
  · have mm := @impl_areFinite_main
    have ml := fun (args : List Value) (H : AHeap) (K : Value → AHeap → Prop) => bodyL_body (P := Try.prog) (env := E_impl_areFinite ) (fn := Try.f166) (args := args) (H := H) (K := K) E_impl_areFinite_ok 
    revert mm ml
    generalize bodyK Try.prog E_impl_areFinite Try.f166 = Q
    generalize bodyL Try.prog E_impl_areFinite Try.f166 = QL
    intro mm ml args H K hk
    simp only [S_impl_areFinite] at *
    unfold F_impl_areFinite at *
    split at hk
    · exact ml _ H K (mm _ _ _ H K hk)
    · exact hk.elim
end Go.Proofs.Ytbnplefohfamnaa.Ai
