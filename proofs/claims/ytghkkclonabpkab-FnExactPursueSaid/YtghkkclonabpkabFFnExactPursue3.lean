/- What functions of the program come to on the abstract machine, and that they do so; printed by a program of mine around proofs of mine. -/
import Derived.Test.YtghkkclonabpkabFFnExactPursue2
set_option linter.unusedVariables false
set_option linter.unusedSimpArgs false
set_option linter.defProp false
set_option maxRecDepth 100000
namespace Go.Proofs.Ytghkkclonabpkab.Ai
open Go
attribute [local irreducible] bodyK bodyL

def p_laws_eqAtomS_l1 (l_a : List (Int × Nat × Nat)) (l_b : List (Int × Nat × Nat)) : Nat → Bool → Int → Bool
  | 0, _, _ => false
  | μ + 1, t4, i => (bif decide ((i : Int) < (l_a.length : Int)) then (bif !((p_laws_eqAtom ((((l_a).getD (i : Int).toNat (0, 0, 0))).1) ((((l_a).getD (i : Int).toNat (0, 0, 0))).2.1) ((((l_a).getD (i : Int).toNat (0, 0, 0))).2.2) ((((l_b).getD (i : Int).toNat (0, 0, 0))).1) ((((l_b).getD (i : Int).toNat (0, 0, 0))).2.1) ((((l_b).getD (i : Int).toNat (0, 0, 0))).2.2))) then false else (p_laws_eqAtomS_l1 l_a l_b μ t4 (i + 1))) else true)
def p_laws_eqAtomS_l1_s := fun l_a l_b μ t4 i => @p_laws_eqAtomS_l1.eq_2 l_a l_b t4 i μ
def p_laws_eqAtomS (l_a : List (Int × Nat × Nat)) (l_b : List (Int × Nat × Nat)) : Bool := ((bif ((l_a.length : Int) : Int) != (l_b.length : Int) then false else (p_laws_eqAtomS_l1 l_a l_b (Int.toNat ((l_a.length : Int) - (0 : Int)) + 1) false (0 : Int))))
def p_laws_eqAtomS_eq := @p_laws_eqAtomS.eq_1
def T_laws_eqAtomS (a_a : Option Addr) (a_n : Nat) (a_e : Nat) (b_a : Option Addr) (b_n : Nat) (b_e : Nat) (H : AHeap) (K : Bool → AHeap → Prop) : Prop := ∃ (l_a : List (Int × Nat × Nat)), ∃ (l_b : List (Int × Nat × Nat)), IsT fA H a_a a_n l_a ∧ IsT fA H b_a b_n l_b ∧ l_a.length < 1073741824 ∧ l_b.length < 1073741824 ∧ ((∀ H' : AHeap, Grow H H' → K (p_laws_eqAtomS l_a l_b) H'))
theorem T_laws_eqAtomS_i {a_a : Option Addr} {a_n : Nat} {a_e : Nat} {b_a : Option Addr} {b_n : Nat} {b_e : Nat} {H : AHeap} {K : Bool → AHeap → Prop} (h : ∃ (l_a : List (Int × Nat × Nat)), ∃ (l_b : List (Int × Nat × Nat)), IsT fA H a_a a_n l_a ∧ IsT fA H b_a b_n l_b ∧ l_a.length < 1073741824 ∧ l_b.length < 1073741824 ∧ ((∀ H' : AHeap, Grow H H' → K (p_laws_eqAtomS l_a l_b) H'))) : T_laws_eqAtomS a_a a_n a_e b_a b_n b_e H K := h
theorem laws_sameFloat_self (y : Nat) : p_laws_sameFloat y y = true := by
  rw [p_laws_sameFloat_eq]
  cases feq .f64 y y <;> simp
theorem eqAtom_self (a : Int) (b c : Nat) : p_laws_eqAtom a b c a b c = true := by
  rw [p_laws_eqAtom_eq, laws_sameFloat_self, laws_sameFloat_self]
  simp
theorem laws_eqAtomS_go (l : List (Int × Nat × Nat)) : ∀ (μ : Nat) (t : Bool) (i : Nat), l.length - i < μ → p_laws_eqAtomS_l1 l l μ t (i : Int) = true := by
  intro μ
  induction μ with
  | zero => intro t i h; omega
  | succ μ ih =>
    intro t i hm
    rw [p_laws_eqAtomS_l1_s]
    by_cases h : i < l.length
    · rw [decide_eq_true (show (i : Int) < (l.length : Int) by omega), cond_true, eqAtom_self]
      simp only [Bool.not_true, cond_false]
      exact ih t (i + 1) o3
    · rw [decide_eq_false (show ¬ (i : Int) < (l.length : Int) by omega), cond_false]
theorem laws_eqAtomS_self (l : List (Int × Nat × Nat)) : p_laws_eqAtomS l l = true := by
  rw [p_laws_eqAtomS_eq]
  have h0 : ((l.length : Int) != (l.length : Int)) = false := by simp
  rw [h0, cond_false]
  exact laws_eqAtomS_go l _ false 0 o3
/-! laws_eqAtomS: function 42 -/
def E_laws_eqAtomS : Env := envOf [(46, S_laws_eqAtom)]
def F_laws_eqAtomS : List Value → AHeap → (Value → AHeap → Prop) → Prop
  | [.slice a_a a_n a_e, .slice b_a b_n b_e], H, K => T_laws_eqAtomS a_a a_n a_e b_a b_n b_e H fun (r1 : Bool) (H' : AHeap) => K (.bool r1) H'
  | _, _, _ => False
def S_laws_eqAtomS : FSpec := { F := F_laws_eqAtomS, quiet := false, tame := true }
theorem laws_eqAtomS_vc (a_a : Option Addr) (a_n : Nat) (a_e : Nat) (b_a : Option Addr) (b_n : Nat) (b_e : Nat) (H : AHeap) (K : Value → AHeap → Prop) : bodyL Try.prog E_laws_eqAtomS Try.f42 [.slice a_a a_n a_e, .slice b_a b_n b_e] H K =
  (Br (((a_n : Int) : Int) != (b_n : Int)) (K (.bool false) H) (loopK (exL Try.prog E_laws_eqAtomS (cl (cl (cr (cl (cr (cr (bodyC Try.f42))))))) 35 16 [(0, 0)]) [.slice a_a a_n a_e, .slice b_a b_n b_e, ud, ud, ud, .int .i64 0, ud, ud, ud, ud, ud, ud, ud, ud, ud, ud, ud, ud, ud, ud, ud, ud, ud, ud, ud, ud, ud] H (blockQ 0 (seqQ (exL Try.prog E_laws_eqAtomS (cr (cr (cr (bodyC Try.f42)))) 16 16 []) (retK Try.prog Try.f42 K))))) := by kernel_rfl
abbrev laws_eqAtomS_P1 (a_a : Option Addr) (a_e : Nat) (a_n : Nat) (b_a : Option Addr) (b_e : Nat) (b_n : Nat) (i : Int)  : List Value := [.slice a_a a_n a_e, .slice b_a b_n b_e, ud, ud, ud, .int .i64 i, ud, ud, ud, ud, ud, ud, ud, ud, ud, ud, ud, ud, ud, ud, ud, ud, ud, ud, ud, ud, ud]
theorem laws_eqAtomS_r1 (a_a : Option Addr) (a_e : Nat) (a_n : Nat) (b_a : Option Addr) (b_e : Nat) (b_n : Nat) (i : Int)  (H : AHeap) (R : Post) : exL Try.prog E_laws_eqAtomS (cl (cl (cr (cl (cr (cr (bodyC Try.f42))))))) 35 16 [(0, 0)] (laws_eqAtomS_P1 a_a a_e a_n b_a b_e b_n i) H R =
  (Br (decide ((i : Int) < (a_n : Int))) ((0 : Int) ≤ i ∧ i < (a_n : Int) ∧ ∃ b1 f1, (a_a : Option Addr) = some ⟨b1, f1, none⟩ ∧ ∃ c1 : Int, ∃ c2 : Nat, ∃ c3 : Nat,  rdN H b1 (f1 + (i : Int).toNat * 3) 3 = some [.int .i64 c1, .float .f32 c2, .float .f32 c3] ∧ (0 : Int) ≤ i ∧ i < (b_n : Int) ∧ ∃ b2 f2, (b_a : Option Addr) = some ⟨b2, f2, none⟩ ∧ ∃ c4 : Int, ∃ c5 : Nat, ∃ c6 : Nat,  rdN H b2 (f2 + (i : Int).toNat * 3) 3 = some [.int .i64 c4, .float .f32 c5, .float .f32 c6] ∧ T_laws_eqAtom c1 c2 c3 c4 c5 c6 H fun (r1 : Bool) (H1 : AHeap) => Br (!r1) (R .ret [ud, ud, ud, ud, .bool false, ud, ud, ud, ud, ud, ud, ud, ud, ud, ud, ud, ud, ud, ud, ud, ud, ud, ud, ud, ud, ud, ud] H1) (R .normal [.slice a_a a_n a_e, .slice b_a b_n b_e, ud, ud, ud, .int .i64 (IntKind.wrap .i64 (i + 1)), ud, ud, ud, ud, ud, ud, ud, ud, ud, ud, ud, ud, ud, ud, ud, ud, ud, ud, ud, ud, ud] H1)) (R (.exit 0) [ud, ud, ud, ud, ud, ud, ud, ud, ud, ud, ud, ud, ud, ud, ud, ud, ud, ud, ud, ud, ud, ud, ud, ud, ud, ud, ud] H)) := by kernel_rfl
def laws_eqAtomS_I1 (a_a : Option Addr) (a_e : Nat) (a_n : Nat) (b_a : Option Addr) (b_e : Nat) (b_n : Nat) (Inv : Nat → Int → AHeap → Prop) : Nat → List Value → AHeap → Prop := fun μ tm H => ∃ (i : Int), tm = (laws_eqAtomS_P1 a_a a_e a_n b_a b_e b_n i) ∧ Inv μ i H
theorem laws_eqAtomS_L1 (a_a : Option Addr) (a_e : Nat) (a_n : Nat) (b_a : Option Addr) (b_e : Nat) (b_n : Nat) {Q : Post} (Inv : Nat → Int → AHeap → Prop) (ν : Nat) (i : Int)  (H : AHeap) (h0 : Inv ν i H)
    (hs : ∀ (μ : Nat) (i : Int)  (H : AHeap), Inv μ i H → exL Try.prog E_laws_eqAtomS (cl (cl (cr (cl (cr (cr (bodyC Try.f42))))))) 35 16 [(0, 0)] (laws_eqAtomS_P1 a_a a_e a_n b_a b_e b_n i) H (loopQ (laws_eqAtomS_I1 a_a a_e a_n b_a b_e b_n Inv) μ Q)) : loopK (exL Try.prog E_laws_eqAtomS (cl (cl (cr (cl (cr (cr (bodyC Try.f42))))))) 35 16 [(0, 0)]) (laws_eqAtomS_P1 a_a a_e a_n b_a b_e b_n i) H Q :=
  ⟨laws_eqAtomS_I1 a_a a_e a_n b_a b_e b_n Inv, ν, ⟨i, rfl, h0⟩, fun μ tm H h => by obtain ⟨i, rfl, hI⟩ := h; exact hs μ i  H hI⟩
theorem laws_eqAtomS_n1 {a_a : Option Addr} {a_e : Nat} {a_n : Nat} {b_a : Option Addr} {b_e : Nat} {b_n : Nat} {Q : Post} {Inv : Nat → Int → AHeap → Prop} {μ : Nat} (μ' : Nat) {i : Int}  {H : AHeap} (hm : μ' < μ) (hI : Inv μ' i H) : loopQ (laws_eqAtomS_I1 a_a a_e a_n b_a b_e b_n Inv) μ Q .normal (laws_eqAtomS_P1 a_a a_e a_n b_a b_e b_n i) H := ⟨μ', hm, i, rfl, hI⟩
theorem laws_eqAtomS_x1_0  (H : AHeap) (K : Value → AHeap → Prop)  {I : Nat → List Value → AHeap → Prop} {μ : Nat} : loopQ I μ (blockQ 0 (seqQ (exL Try.prog E_laws_eqAtomS (cr (cr (cr (bodyC Try.f42)))) 16 16 []) (retK Try.prog Try.f42 K))) (.exit 0) [ud, ud, ud, ud, ud, ud, ud, ud, ud, ud, ud, ud, ud, ud, ud, ud, ud, ud, ud, ud, ud, ud, ud, ud, ud, ud, ud] H =
  (K (.bool true) H) := by kernel_rfl
theorem laws_eqAtomS_x1_ret (t4 : Bool) (H : AHeap) (K : Value → AHeap → Prop)  {I : Nat → List Value → AHeap → Prop} {μ : Nat} : loopQ I μ (blockQ 0 (seqQ (exL Try.prog E_laws_eqAtomS (cr (cr (cr (bodyC Try.f42)))) 16 16 []) (retK Try.prog Try.f42 K))) .ret [ud, ud, ud, ud, .bool t4, ud, ud, ud, ud, ud, ud, ud, ud, ud, ud, ud, ud, ud, ud, ud, ud, ud, ud, ud, ud, ud, ud] H =
  (K (.bool t4) H) := by kernel_rfl
theorem E_laws_eqAtomS_ok : ∀ g, FnOk Try.prog g (E_laws_eqAtomS g) := FnOk.envOf (by
  intro x hx
  simp only [List.mem_cons, List.not_mem_nil, or_false] at hx
  subst hx; exact laws_eqAtom_ok)
theorem o4 {P : Prop} (h : P := by first | omega | (simp only [List.length_set, List.length_replicate, List.length_append, List.length_cons, List.length_nil, List.length_take, List.length_drop, marksA_length]; done) | (simp only [List.length_set, List.length_replicate, List.length_append, List.length_cons, List.length_nil, List.length_take, List.length_drop, marksA_length]; omega)) : P := h
set_option maxHeartbeats 1000000 in
theorem laws_eqAtomS_main (a_a : Option Addr) (a_n : Nat) (a_e : Nat) (b_a : Option Addr) (b_n : Nat) (b_e : Nat) (H : AHeap) (K : Value → AHeap → Prop) (h : T_laws_eqAtomS a_a a_n a_e b_a b_n b_e H fun (r1 : Bool) (H' : AHeap) => K (.bool r1) H') : bodyL Try.prog E_laws_eqAtomS Try.f42 [.slice a_a a_n a_e, .slice b_a b_n b_e] H K := by
  rw [laws_eqAtomS_vc]
  obtain ⟨l_a, l_b, i_a, i_b, bd_18, bd_19, hk⟩ := h
  obtain rfl := i_a.eqn
  obtain rfl := i_b.eqn
  have e : (p_laws_eqAtomS l_a l_b) = _ := rfl
  have e := e.trans (p_laws_eqAtomS_eq l_a l_b)
  have g0 := Grow.refl H
  refine Br.intro (fun c_1 => ?_) (fun c_1 => ?_)
  · have e := e.trans (cond_t c_1)
    have c_1' := ine_t c_1
    rw [e] at hk
    exact hk  H g0 
  · have e := e.trans (cond_f c_1)
    have c_1' := ine_f c_1
    refine laws_eqAtomS_L1 _ _ _ _ _ _ (fun (μ : Nat) (i : Int) (H_1 : AHeap) => ∃ (t4 : Bool), Grow H H_1 ∧ (0 : Int) ≤ i ∧ i ≤ (l_a.length : Int) ∧ (l_a.length : Int) - i ≤ (μ : Int) ∧ p_laws_eqAtomS l_a l_b = p_laws_eqAtomS_l1 l_a l_b (μ + 1) t4 i) (Int.toNat ((l_a.length : Int) - (0 : Int))) _ H ?_ ?_
    · exact ⟨_, g0, o6, o6, o3, e⟩
    · intro μ i  H_1 hI
      obtain ⟨t4, g_2, v_3, v_4, hμ, e⟩ := hI
      rw [laws_eqAtomS_r1]
      have e := e.trans (p_laws_eqAtomS_l1_s l_a l_b μ t4 i)
      have l_5 := g_2.1
      refine Br.intro (fun c_6 => ?_) (fun c_6 => ?_)
      · have e := e.trans (cond_t c_6)
        have c_6' := of_decide_eq_true c_6
        obtain ⟨b_7, f_8, q_9⟩ := ((i_a.grow g_2)).pos o4
        refine ⟨by omega, by omega, b_7, f_8, q_9, ?_⟩
        refine ⟨(((l_a).getD (i : Int).toNat (0, 0, 0))).1, (((l_a).getD (i : Int).toNat (0, 0, 0))).2.1, (((l_a).getD (i : Int).toNat (0, 0, 0))).2.2, (i_a).rdN g_2 q_9 o3 _, ?_⟩
        obtain ⟨b_10, f_11, q_12⟩ := ((i_b.grow g_2)).pos o4
        refine ⟨by omega, by omega, b_10, f_11, q_12, ?_⟩
        refine ⟨(((l_b).getD (i : Int).toNat (0, 0, 0))).1, (((l_b).getD (i : Int).toNat (0, 0, 0))).2.1, (((l_b).getD (i : Int).toNat (0, 0, 0))).2.2, (i_b).rdN g_2 q_12 o3 _, ?_⟩
        refine T_laws_eqAtom_i (fun  H_2 g_13  => ?_)
        have l_14 := g_13.1
        have g_15 := g_2.trans g_13
        have l_16 := g_15.1
        refine Br.intro (fun c_17 => ?_) (fun c_17 => ?_)
        · have e := e.trans (cond_t c_17)
          have c_17n := nf_of_t c_17
          rw [laws_eqAtomS_x1_ret]
          rw [e] at hk
          exact hk  H_2 g_15 
        · have e := e.trans (cond_f c_17)
          have c_17n := nt_of_f c_17
          rw [show IntKind.wrap .i64 (i + 1) = (i + 1) from wrap64 o3 o3]
          refine laws_eqAtomS_n1 (μ - 1) o12 ⟨_, g_15, o1, o1, o12, (by rw [show μ - 1 + 1 = μ from by first | omega]; exact e)⟩
      · have e := e.trans (cond_f c_6)
        have c_6' := of_decide_eq_false c_6
        rw [laws_eqAtomS_x1_0]
        rw [e] at hk
        exact hk  H_1 g_2 
theorem laws_eqAtomS_ok : FnOk Try.prog 42 S_laws_eqAtomS := by
  refine FnOk.body mix_ok E_laws_eqAtomS_ok Try.func42 rfl (by kernel_rfl) (by kernel_rfl) ?_ ?_ ?_ ?_ ?_
  · intro args H K K' h hk
    simp only [S_laws_eqAtomS] at *
    unfold F_laws_eqAtomS at *
    split at hk
    · obtain ⟨l_a, l_b, i_a, i_b, bd_18, bd_19, k⟩ := hk
      exact ⟨l_a, l_b, i_a, i_b, bd_18, bd_19, (fun  H' gg  => h _ _ (k  H' gg ))⟩
    · exact hk.elim
  · intro hq; cases hq
  · intro args H K hk
    simp only [S_laws_eqAtomS] at *
    unfold F_laws_eqAtomS at *
    split at hk
    · obtain ⟨l_a, l_b, i_a, i_b, bd_18, bd_19, k⟩ := hk
      exact ⟨_, _, k H (Grow.refl H)⟩
    · exact hk.elim
  · intro _ args H K hk
    simp only [S_laws_eqAtomS] at *
    unfold F_laws_eqAtomS at *
    split at hk
    · obtain ⟨l_a, l_b, i_a, i_b, bd_18, bd_19, k⟩ := hk
      exact ⟨l_a, l_b, i_a, i_b, bd_18, bd_19, (fun  H' gg  => ⟨gg, k  H' gg ⟩)⟩
    · exact hk.elim
  · have mm := @laws_eqAtomS_main
    have ml := fun (args : List Value) (H : AHeap) (K : Value → AHeap → Prop) => bodyL_body (P := Try.prog) (env := E_laws_eqAtomS ) (fn := Try.f42) (args := args) (H := H) (K := K) E_laws_eqAtomS_ok 
    revert mm ml
    generalize bodyK Try.prog E_laws_eqAtomS Try.f42 = Q
    generalize bodyL Try.prog E_laws_eqAtomS Try.f42 = QL
    intro mm ml args H K hk
    simp only [S_laws_eqAtomS] at *
    unfold F_laws_eqAtomS at *
    split at hk
    · exact ml _ H K (mm _ _ _ _ _ _ H K hk)
    · exact hk.elim

def p_laws_eqFloat32S_l1 (l_a : List Nat) (l_b : List Nat) : Nat → Bool → Int → Bool
  | 0, _, _ => false
  | μ + 1, t4, i => (bif decide ((i : Int) < (l_a.length : Int)) then (bif !((p_laws_sameFloat (fwide (((l_a).getD (i : Int).toNat 0))) (fwide (((l_b).getD (i : Int).toNat 0))))) then false else (p_laws_eqFloat32S_l1 l_a l_b μ t4 (i + 1))) else true)
def p_laws_eqFloat32S_l1_s := fun l_a l_b μ t4 i => @p_laws_eqFloat32S_l1.eq_2 l_a l_b t4 i μ
def p_laws_eqFloat32S (l_a : List Nat) (l_b : List Nat) : Bool := ((bif ((l_a.length : Int) : Int) != (l_b.length : Int) then false else (p_laws_eqFloat32S_l1 l_a l_b (Int.toNat ((l_a.length : Int) - (0 : Int)) + 1) false (0 : Int))))
def p_laws_eqFloat32S_eq := @p_laws_eqFloat32S.eq_1
def T_laws_eqFloat32S (a_a : Option Addr) (a_n : Nat) (a_e : Nat) (b_a : Option Addr) (b_n : Nat) (b_e : Nat) (H : AHeap) (K : Bool → AHeap → Prop) : Prop := ∃ (l_a : List Nat), ∃ (l_b : List Nat), IsL fF H a_a a_n l_a ∧ IsL fF H b_a b_n l_b ∧ l_a.length < 1073741824 ∧ l_b.length < 1073741824 ∧ K (p_laws_eqFloat32S l_a l_b) H
theorem T_laws_eqFloat32S_i {a_a : Option Addr} {a_n : Nat} {a_e : Nat} {b_a : Option Addr} {b_n : Nat} {b_e : Nat} {H : AHeap} {K : Bool → AHeap → Prop} (h : ∃ (l_a : List Nat), ∃ (l_b : List Nat), IsL fF H a_a a_n l_a ∧ IsL fF H b_a b_n l_b ∧ l_a.length < 1073741824 ∧ l_b.length < 1073741824 ∧ K (p_laws_eqFloat32S l_a l_b) H) : T_laws_eqFloat32S a_a a_n a_e b_a b_n b_e H K := h
theorem laws_eqFloat32S_go (l : List Nat) : ∀ (μ : Nat) (t : Bool) (i : Nat), l.length - i < μ → p_laws_eqFloat32S_l1 l l μ t (i : Int) = true := by
  intro μ
  induction μ with
  | zero => intro t i h; omega
  | succ μ ih =>
    intro t i hm
    rw [p_laws_eqFloat32S_l1_s]
    by_cases h : i < l.length
    · rw [decide_eq_true (show (i : Int) < (l.length : Int) by omega), cond_true, laws_sameFloat_self]
      simp only [Bool.not_true, cond_false]
      exact ih t (i + 1) o3
    · rw [decide_eq_false (show ¬ (i : Int) < (l.length : Int) by omega), cond_false]
theorem laws_eqFloat32S_self (l : List Nat) : p_laws_eqFloat32S l l = true := by
  rw [p_laws_eqFloat32S_eq]
  have h0 : ((l.length : Int) != (l.length : Int)) = false := by simp
  rw [h0, cond_false]
  exact laws_eqFloat32S_go l _ false 0 o3
/-! laws_eqFloat32S: function 14 -/
def E_laws_eqFloat32S : Env := envOf [(60, S_laws_sameFloat)]
def F_laws_eqFloat32S : List Value → AHeap → (Value → AHeap → Prop) → Prop
  | [.slice a_a a_n a_e, .slice b_a b_n b_e], H, K => T_laws_eqFloat32S a_a a_n a_e b_a b_n b_e H fun (r1 : Bool) (H' : AHeap) => K (.bool r1) H'
  | _, _, _ => False
def S_laws_eqFloat32S : FSpec := { F := F_laws_eqFloat32S, quiet := true, tame := false }
theorem laws_eqFloat32S_vc (a_a : Option Addr) (a_n : Nat) (a_e : Nat) (b_a : Option Addr) (b_n : Nat) (b_e : Nat) (H : AHeap) (K : Value → AHeap → Prop) : bodyL Try.prog E_laws_eqFloat32S Try.f14 [.slice a_a a_n a_e, .slice b_a b_n b_e] H K =
  (Br (((a_n : Int) : Int) != (b_n : Int)) (K (.bool false) H) (loopK (exL Try.prog E_laws_eqFloat32S (cl (cl (cr (cl (cr (cr (bodyC Try.f14))))))) 35 16 [(0, 0)]) [.slice a_a a_n a_e, .slice b_a b_n b_e, ud, ud, ud, .int .i64 0, ud, ud, ud, ud, ud, ud, ud, ud, ud, ud, ud, ud, ud, ud, ud, ud, ud, ud, ud, ud, ud, ud, ud] H (blockQ 0 (seqQ (exL Try.prog E_laws_eqFloat32S (cr (cr (cr (bodyC Try.f14)))) 16 16 []) (retK Try.prog Try.f14 K))))) := by kernel_rfl
abbrev laws_eqFloat32S_P1 (a_a : Option Addr) (a_e : Nat) (a_n : Nat) (b_a : Option Addr) (b_e : Nat) (b_n : Nat) (i : Int)  : List Value := [.slice a_a a_n a_e, .slice b_a b_n b_e, ud, ud, ud, .int .i64 i, ud, ud, ud, ud, ud, ud, ud, ud, ud, ud, ud, ud, ud, ud, ud, ud, ud, ud, ud, ud, ud, ud, ud]
theorem laws_eqFloat32S_r1 (a_a : Option Addr) (a_e : Nat) (a_n : Nat) (b_a : Option Addr) (b_e : Nat) (b_n : Nat) (i : Int)  (H : AHeap) (R : Post) : exL Try.prog E_laws_eqFloat32S (cl (cl (cr (cl (cr (cr (bodyC Try.f14))))))) 35 16 [(0, 0)] (laws_eqFloat32S_P1 a_a a_e a_n b_a b_e b_n i) H R =
  (Br (decide ((i : Int) < (a_n : Int))) ((0 : Int) ≤ i ∧ i < (a_n : Int) ∧ ∃ b1 f1, (a_a : Option Addr) = some ⟨b1, f1, none⟩ ∧ ∃ x1 : Nat,  rdC H b1 (f1 + (i : Int).toNat * 1) = some (.float .f32 x1) ∧ (0 : Int) ≤ i ∧ i < (b_n : Int) ∧ ∃ b2 f2, (b_a : Option Addr) = some ⟨b2, f2, none⟩ ∧ ∃ x2 : Nat,  rdC H b2 (f2 + (i : Int).toNat * 1) = some (.float .f32 x2) ∧ T_laws_sameFloat (fwide x1) (fwide x2) H fun (r1 : Bool) (H1 : AHeap) => Br (!r1) (R .ret [ud, ud, ud, ud, .bool false, ud, ud, ud, ud, ud, ud, ud, ud, ud, ud, ud, ud, ud, ud, ud, ud, ud, ud, ud, ud, ud, ud, ud, ud] H1) (R .normal [.slice a_a a_n a_e, .slice b_a b_n b_e, ud, ud, ud, .int .i64 (IntKind.wrap .i64 (i + 1)), ud, ud, ud, ud, ud, ud, ud, ud, ud, ud, ud, ud, ud, ud, ud, ud, ud, ud, ud, ud, ud, ud, ud] H1)) (R (.exit 0) [ud, ud, ud, ud, ud, ud, ud, ud, ud, ud, ud, ud, ud, ud, ud, ud, ud, ud, ud, ud, ud, ud, ud, ud, ud, ud, ud, ud, ud] H)) := by kernel_rfl
def laws_eqFloat32S_I1 (a_a : Option Addr) (a_e : Nat) (a_n : Nat) (b_a : Option Addr) (b_e : Nat) (b_n : Nat) (Inv : Nat → Int → AHeap → Prop) : Nat → List Value → AHeap → Prop := fun μ tm H => ∃ (i : Int), tm = (laws_eqFloat32S_P1 a_a a_e a_n b_a b_e b_n i) ∧ Inv μ i H
theorem laws_eqFloat32S_L1 (a_a : Option Addr) (a_e : Nat) (a_n : Nat) (b_a : Option Addr) (b_e : Nat) (b_n : Nat) {Q : Post} (Inv : Nat → Int → AHeap → Prop) (ν : Nat) (i : Int)  (H : AHeap) (h0 : Inv ν i H)
    (hs : ∀ (μ : Nat) (i : Int)  (H : AHeap), Inv μ i H → exL Try.prog E_laws_eqFloat32S (cl (cl (cr (cl (cr (cr (bodyC Try.f14))))))) 35 16 [(0, 0)] (laws_eqFloat32S_P1 a_a a_e a_n b_a b_e b_n i) H (loopQ (laws_eqFloat32S_I1 a_a a_e a_n b_a b_e b_n Inv) μ Q)) : loopK (exL Try.prog E_laws_eqFloat32S (cl (cl (cr (cl (cr (cr (bodyC Try.f14))))))) 35 16 [(0, 0)]) (laws_eqFloat32S_P1 a_a a_e a_n b_a b_e b_n i) H Q :=
  ⟨laws_eqFloat32S_I1 a_a a_e a_n b_a b_e b_n Inv, ν, ⟨i, rfl, h0⟩, fun μ tm H h => by obtain ⟨i, rfl, hI⟩ := h; exact hs μ i  H hI⟩
theorem laws_eqFloat32S_n1 {a_a : Option Addr} {a_e : Nat} {a_n : Nat} {b_a : Option Addr} {b_e : Nat} {b_n : Nat} {Q : Post} {Inv : Nat → Int → AHeap → Prop} {μ : Nat} (μ' : Nat) {i : Int}  {H : AHeap} (hm : μ' < μ) (hI : Inv μ' i H) : loopQ (laws_eqFloat32S_I1 a_a a_e a_n b_a b_e b_n Inv) μ Q .normal (laws_eqFloat32S_P1 a_a a_e a_n b_a b_e b_n i) H := ⟨μ', hm, i, rfl, hI⟩
theorem laws_eqFloat32S_x1_0  (H : AHeap) (K : Value → AHeap → Prop)  {I : Nat → List Value → AHeap → Prop} {μ : Nat} : loopQ I μ (blockQ 0 (seqQ (exL Try.prog E_laws_eqFloat32S (cr (cr (cr (bodyC Try.f14)))) 16 16 []) (retK Try.prog Try.f14 K))) (.exit 0) [ud, ud, ud, ud, ud, ud, ud, ud, ud, ud, ud, ud, ud, ud, ud, ud, ud, ud, ud, ud, ud, ud, ud, ud, ud, ud, ud, ud, ud] H =
  (K (.bool true) H) := by kernel_rfl
theorem laws_eqFloat32S_x1_ret (t4 : Bool) (H : AHeap) (K : Value → AHeap → Prop)  {I : Nat → List Value → AHeap → Prop} {μ : Nat} : loopQ I μ (blockQ 0 (seqQ (exL Try.prog E_laws_eqFloat32S (cr (cr (cr (bodyC Try.f14)))) 16 16 []) (retK Try.prog Try.f14 K))) .ret [ud, ud, ud, ud, .bool t4, ud, ud, ud, ud, ud, ud, ud, ud, ud, ud, ud, ud, ud, ud, ud, ud, ud, ud, ud, ud, ud, ud, ud, ud] H =
  (K (.bool t4) H) := by kernel_rfl
theorem E_laws_eqFloat32S_ok : ∀ g, FnOk Try.prog g (E_laws_eqFloat32S g) := FnOk.envOf (by
  intro x hx
  simp only [List.mem_cons, List.not_mem_nil, or_false] at hx
  subst hx; exact laws_sameFloat_ok)
set_option maxHeartbeats 1000000 in
theorem laws_eqFloat32S_main (a_a : Option Addr) (a_n : Nat) (a_e : Nat) (b_a : Option Addr) (b_n : Nat) (b_e : Nat) (H : AHeap) (K : Value → AHeap → Prop) (h : T_laws_eqFloat32S a_a a_n a_e b_a b_n b_e H fun (r1 : Bool) (H' : AHeap) => K (.bool r1) H') : bodyL Try.prog E_laws_eqFloat32S Try.f14 [.slice a_a a_n a_e, .slice b_a b_n b_e] H K := by
  rw [laws_eqFloat32S_vc]
  obtain ⟨l_a, l_b, i_a, i_b, bd_13, bd_14, hk⟩ := h
  obtain rfl := i_a.eqn
  obtain rfl := i_b.eqn
  have e : (p_laws_eqFloat32S l_a l_b) = _ := rfl
  have e := e.trans (p_laws_eqFloat32S_eq l_a l_b)
  have g0 := Grow.refl H
  refine Br.intro (fun c_1 => ?_) (fun c_1 => ?_)
  · have e := e.trans (cond_t c_1)
    have c_1' := ine_t c_1
    rw [e] at hk
    exact hk
  · have e := e.trans (cond_f c_1)
    have c_1' := ine_f c_1
    refine laws_eqFloat32S_L1 _ _ _ _ _ _ (fun (μ : Nat) (i : Int) (H_1 : AHeap) => ∃ (t4 : Bool), H = H_1 ∧ (0 : Int) ≤ i ∧ i ≤ (l_a.length : Int) ∧ (l_a.length : Int) - i ≤ (μ : Int) ∧ p_laws_eqFloat32S l_a l_b = p_laws_eqFloat32S_l1 l_a l_b (μ + 1) t4 i) (Int.toNat ((l_a.length : Int) - (0 : Int))) _ H ?_ ?_
    · exact ⟨_, rfl, o6, o6, o3, e⟩
    · intro μ i  H_1 hI
      obtain ⟨t4, rfl, v_2, v_3, hμ, e⟩ := hI
      rw [laws_eqFloat32S_r1]
      have e := e.trans (p_laws_eqFloat32S_l1_s l_a l_b μ t4 i)
      have l_4 := g0.1
      refine Br.intro (fun c_5 => ?_) (fun c_5 => ?_)
      · have e := e.trans (cond_t c_5)
        have c_5' := of_decide_eq_true c_5
        obtain ⟨b_6, f_7, q_8⟩ := ((i_a.grow g0)).pos o0
        refine ⟨by omega, by omega, b_6, f_7, q_8, ?_⟩
        refine ⟨((l_a).getD (i : Int).toNat 0), (i_a).rd g0 q_8 o3 _, ?_⟩
        obtain ⟨b_9, f_10, q_11⟩ := ((i_b.grow g0)).pos o0
        refine ⟨by omega, by omega, b_9, f_10, q_11, ?_⟩
        refine ⟨((l_b).getD (i : Int).toNat 0), (i_b).rd g0 q_11 o3 _, ?_⟩
        refine T_laws_sameFloat_i ?_
        refine Br.intro (fun c_12 => ?_) (fun c_12 => ?_)
        · have e := e.trans (cond_t c_12)
          have c_12n := nf_of_t c_12
          rw [laws_eqFloat32S_x1_ret]
          rw [e] at hk
          exact hk
        · have e := e.trans (cond_f c_12)
          have c_12n := nt_of_f c_12
          rw [show IntKind.wrap .i64 (i + 1) = (i + 1) from wrap64 o3 o3]
          refine laws_eqFloat32S_n1 (μ - 1) o12 ⟨_, rfl, o1, o1, o12, (by rw [show μ - 1 + 1 = μ from by first | omega]; exact e)⟩
      · have e := e.trans (cond_f c_5)
        have c_5' := of_decide_eq_false c_5
        rw [laws_eqFloat32S_x1_0]
        rw [e] at hk
        exact hk
theorem laws_eqFloat32S_ok : FnOk Try.prog 14 S_laws_eqFloat32S := by
  refine FnOk.body mix_ok E_laws_eqFloat32S_ok Try.func14 rfl (by kernel_rfl) (by kernel_rfl) ?_ ?_ ?_ ?_ ?_
  · intro args H K K' h hk
    simp only [S_laws_eqFloat32S] at *
    unfold F_laws_eqFloat32S at *
    split at hk
    · obtain ⟨l_a, l_b, i_a, i_b, bd_13, bd_14, k⟩ := hk
      exact ⟨l_a, l_b, i_a, i_b, bd_13, bd_14, h _ _ k⟩
    · exact hk.elim
  · intro _ args H K hk
    simp only [S_laws_eqFloat32S] at *
    unfold F_laws_eqFloat32S at *
    split at hk
    · obtain ⟨l_a, l_b, i_a, i_b, bd_13, bd_14, k⟩ := hk
      exact ⟨_, k, fun K' k' => ⟨l_a, l_b, i_a, i_b, bd_13, bd_14, k'⟩⟩
    · exact hk.elim
  · intro args H K hk
    simp only [S_laws_eqFloat32S] at *
    unfold F_laws_eqFloat32S at *
    split at hk
    · obtain ⟨l_a, l_b, i_a, i_b, bd_13, bd_14, k⟩ := hk
      exact ⟨_, _, k⟩
    · exact hk.elim
  · intro hq; cases hq
  · have mm := @laws_eqFloat32S_main
    have ml := fun (args : List Value) (H : AHeap) (K : Value → AHeap → Prop) => bodyL_body (P := Try.prog) (env := E_laws_eqFloat32S ) (fn := Try.f14) (args := args) (H := H) (K := K) E_laws_eqFloat32S_ok 
    revert mm ml
    generalize bodyK Try.prog E_laws_eqFloat32S Try.f14 = Q
    generalize bodyL Try.prog E_laws_eqFloat32S Try.f14 = QL
    intro mm ml args H K hk
    simp only [S_laws_eqFloat32S] at *
    unfold F_laws_eqFloat32S at *
    split at hk
    · exact ml _ H K (mm _ _ _ _ _ _ H K hk)
    · exact hk.elim

def p_laws_markFloat32S_l1 (l_a : List Nat) (k : Int) : Nat → Int → Int → (List Nat) → Int × (List Nat)
  | 0, _, _, _ => (0, [])
  | μ + 1, k_1, i, y1_1 => (bif decide ((i : Int) < (l_a.length : Int)) then (p_laws_markFloat32S_l1 l_a k μ (IntKind.wrap .i64 (k_1 + 1)) (i + 1) (((y1_1).set (i : Int).toNat (FloatKind.nearest .f32 k_1)))) else (k_1, y1_1))
def p_laws_markFloat32S_l1_s := fun l_a k μ k_1 i y1_1 => @p_laws_markFloat32S_l1.eq_2 l_a k k_1 i y1_1 μ
def p_laws_markFloat32S (l_a : List Nat) (k : Int) : Int × (List Nat) := (p_laws_markFloat32S_l1 l_a k (Int.toNat ((l_a.length : Int) - (0 : Int)) + 1) k (0 : Int) l_a)
def p_laws_markFloat32S_eq := @p_laws_markFloat32S.eq_1
def T_laws_markFloat32S (a_a : Option Addr) (a_n : Nat) (a_e : Nat) (k : Int) (H : AHeap) (K : Int → AHeap → Prop) : Prop := ∃ lo : Nat, ∃ (l_a : List Nat), OwnS fF H lo a_a a_n a_e l_a ∧ l_a.length < 1073741824 ∧ ((∀ H' : AHeap, KeepA a_a H H' → OwnS fF H' lo a_a a_n a_e (marks (FloatKind.nearest .f32) k l_a.length) → K (wk k l_a.length) H'))
theorem T_laws_markFloat32S_i {a_a : Option Addr} {a_n : Nat} {a_e : Nat} {k : Int} {H : AHeap} {K : Int → AHeap → Prop} (h : ∃ lo : Nat, ∃ (l_a : List Nat), OwnS fF H lo a_a a_n a_e l_a ∧ l_a.length < 1073741824 ∧ ((∀ H' : AHeap, KeepA a_a H H' → OwnS fF H' lo a_a a_n a_e (marks (FloatKind.nearest .f32) k l_a.length) → K (wk k l_a.length) H'))) : T_laws_markFloat32S a_a a_n a_e k H K := h
theorem laws_markFloat32S_go (l : List Nat) (k0 : Int) : ∀ (μ : Nat) (k : Int) (i : Nat) (ys : List Nat), ys.length = l.length → i ≤ l.length → l.length - i < μ →
    p_laws_markFloat32S_l1 l k0 μ k (i : Int) ys = (wk k (l.length - i), ys.take i ++ marks (FloatKind.nearest .f32) k (l.length - i)) := by
  intro μ
  induction μ with
  | zero => intro k i ys _ _ h; omega
  | succ μ ih =>
    intro k i ys hy hi hm
    rw [p_laws_markFloat32S_l1_s]
    by_cases h : i < l.length
    · rw [decide_eq_true (show (i : Int) < (l.length : Int) by omega), cond_true, Int.toNat_natCast]
      have := ih (IntKind.wrap .i64 (k + 1)) (i + 1) (ys.set i ((FloatKind.nearest .f32) k)) (by simp [hy]) o3 o3
      obtain ⟨d, hd⟩ : ∃ d, l.length - i = d + 1 := ⟨l.length - i - 1, by omega⟩
      rw [show l.length - (i + 1) = d by omega] at this
      rw [hd, wk, marks]
      refine Eq.trans this ?_
      rw [List.take_add_one, List.getElem?_set_self o3, List.take_set_of_le (Nat.le_refl i)]
      simp
    · rw [decide_eq_false (show ¬ (i : Int) < (l.length : Int) by omega), cond_false]
      rw [show l.length - i = 0 by omega, wk, marks, List.append_nil, List.take_of_length_le o3]
theorem laws_markFloat32S_val (l : List Nat) (k : Int) : p_laws_markFloat32S l k = (wk k l.length, marks (FloatKind.nearest .f32) k l.length) := by
  rw [p_laws_markFloat32S_eq]
  have := laws_markFloat32S_go l k (Int.toNat ((l.length : Int) - 0) + 1) k 0 l rfl o3 o3
  simpa using this
/-! laws_markFloat32S: function 15 -/
def E_laws_markFloat32S : Env := envOf []
def F_laws_markFloat32S : List Value → AHeap → (Value → AHeap → Prop) → Prop
  | [.slice a_a a_n a_e, .int .i64 k], H, K => T_laws_markFloat32S a_a a_n a_e k H fun (r1 : Int) (H' : AHeap) => K (.int .i64 r1) H'
  | _, _, _ => False
def S_laws_markFloat32S : FSpec := { F := F_laws_markFloat32S, quiet := false, tame := false }
theorem laws_markFloat32S_vc (a_a : Option Addr) (a_n : Nat) (a_e : Nat) (k : Int) (H : AHeap) (K : Value → AHeap → Prop) : bodyL Try.prog E_laws_markFloat32S Try.f15 [.slice a_a a_n a_e, .int .i64 k] H K =
  (loopK (exL Try.prog E_laws_markFloat32S (cl (cl (cr (cl (cr (bodyC Try.f15)))))) 35 16 [(0, 2)]) [.slice a_a a_n a_e, .int .i64 k, ud, ud, ud, .int .i64 0, ud, ud, ud, ud, ud, ud, ud, ud, ud, ud, ud, ud, ud, ud] H (blockQ 0 (seqQ (exL Try.prog E_laws_markFloat32S (cr (cr (bodyC Try.f15))) 16 16 []) (retK Try.prog Try.f15 K)))) := by kernel_rfl
abbrev laws_markFloat32S_P1 (a_a : Option Addr) (a_e : Nat) (a_n : Nat) (k_1 : Int) (i : Int)  : List Value := [.slice a_a a_n a_e, .int .i64 k_1, ud, ud, ud, .int .i64 i, ud, ud, ud, ud, ud, ud, ud, ud, ud, ud, ud, ud, ud, ud]
theorem laws_markFloat32S_r1 (a_a : Option Addr) (a_e : Nat) (a_n : Nat) (k_1 : Int) (i : Int)  (H : AHeap) (R : Post) : exL Try.prog E_laws_markFloat32S (cl (cl (cr (cl (cr (bodyC Try.f15)))))) 35 16 [(0, 2)] (laws_markFloat32S_P1 a_a a_e a_n k_1 i) H R =
  (Br (decide ((i : Int) < (a_n : Int))) ((0 : Int) ≤ i ∧ i < (a_n : Int) ∧ ∃ b1 f1, (a_a : Option Addr) = some ⟨b1, f1, none⟩ ∧ isOwn H b1 ∧ (∃ l, rdN H b1 (f1 + (i : Int).toNat * 1) 1 = some l) ∧ Lt (setC H b1 (f1 + (i : Int).toNat * 1) (.float .f32 (FloatKind.nearest .f32 k_1))) fun H1 => R .normal [.slice a_a a_n a_e, .int .i64 (IntKind.wrap .i64 (k_1 + 1)), ud, ud, ud, .int .i64 (IntKind.wrap .i64 (i + 1)), ud, ud, ud, ud, ud, ud, ud, ud, ud, ud, ud, ud, ud, ud] H1) (R (.exit 0) [ud, .int .i64 k_1, ud, ud, ud, ud, ud, ud, ud, ud, ud, ud, ud, ud, ud, ud, ud, ud, ud, ud] H)) := by kernel_rfl
def laws_markFloat32S_I1 (a_a : Option Addr) (a_e : Nat) (a_n : Nat) (Inv : Nat → Int → Int → AHeap → Prop) : Nat → List Value → AHeap → Prop := fun μ tm H => ∃ (k_1 : Int), ∃ (i : Int), tm = (laws_markFloat32S_P1 a_a a_e a_n k_1 i) ∧ Inv μ k_1 i H
theorem laws_markFloat32S_L1 (a_a : Option Addr) (a_e : Nat) (a_n : Nat) {Q : Post} (Inv : Nat → Int → Int → AHeap → Prop) (ν : Nat) (k_1 : Int) (i : Int)  (H : AHeap) (h0 : Inv ν k_1 i H)
    (hs : ∀ (μ : Nat) (k_1 : Int) (i : Int)  (H : AHeap), Inv μ k_1 i H → exL Try.prog E_laws_markFloat32S (cl (cl (cr (cl (cr (bodyC Try.f15)))))) 35 16 [(0, 2)] (laws_markFloat32S_P1 a_a a_e a_n k_1 i) H (loopQ (laws_markFloat32S_I1 a_a a_e a_n Inv) μ Q)) : loopK (exL Try.prog E_laws_markFloat32S (cl (cl (cr (cl (cr (bodyC Try.f15)))))) 35 16 [(0, 2)]) (laws_markFloat32S_P1 a_a a_e a_n k_1 i) H Q :=
  ⟨laws_markFloat32S_I1 a_a a_e a_n Inv, ν, ⟨k_1, i, rfl, h0⟩, fun μ tm H h => by obtain ⟨k_1, i, rfl, hI⟩ := h; exact hs μ k_1 i  H hI⟩
theorem laws_markFloat32S_n1 {a_a : Option Addr} {a_e : Nat} {a_n : Nat} {Q : Post} {Inv : Nat → Int → Int → AHeap → Prop} {μ : Nat} (μ' : Nat) {k_1 : Int} {i : Int}  {H : AHeap} (hm : μ' < μ) (hI : Inv μ' k_1 i H) : loopQ (laws_markFloat32S_I1 a_a a_e a_n Inv) μ Q .normal (laws_markFloat32S_P1 a_a a_e a_n k_1 i) H := ⟨μ', hm, k_1, i, rfl, hI⟩
theorem laws_markFloat32S_x1_0 (k_1 : Int) (H : AHeap) (K : Value → AHeap → Prop)  {I : Nat → List Value → AHeap → Prop} {μ : Nat} : loopQ I μ (blockQ 0 (seqQ (exL Try.prog E_laws_markFloat32S (cr (cr (bodyC Try.f15))) 16 16 []) (retK Try.prog Try.f15 K))) (.exit 0) [ud, .int .i64 k_1, ud, ud, ud, ud, ud, ud, ud, ud, ud, ud, ud, ud, ud, ud, ud, ud, ud, ud] H =
  (K (.int .i64 k_1) H) := by kernel_rfl
theorem E_laws_markFloat32S_ok : ∀ g, FnOk Try.prog g (E_laws_markFloat32S g) := FnOk.envOf (by
  intro x hx; cases hx)
set_option maxHeartbeats 1000000 in
theorem laws_markFloat32S_main (a_a : Option Addr) (a_n : Nat) (a_e : Nat) (k : Int) (H : AHeap) (K : Value → AHeap → Prop) (h : T_laws_markFloat32S a_a a_n a_e k H fun (r1 : Int) (H' : AHeap) => K (.int .i64 r1) H') : bodyL Try.prog E_laws_markFloat32S Try.f15 [.slice a_a a_n a_e, .int .i64 k] H K := by
  rw [laws_markFloat32S_vc]
  obtain ⟨lo, l_a, i_a, bd_18, hk⟩ := h
  have hk : (∀ H' : AHeap, KeepA a_a H H' → OwnS fF H' lo a_a a_n a_e ((p_laws_markFloat32S l_a k).2) → (fun (r1 : Int) (H' : AHeap) => K (.int .i64 r1) H') ((p_laws_markFloat32S l_a k).1) H') := by rw [laws_markFloat32S_val l_a k]; exact hk
  obtain rfl := i_a.len
  have up_m := i_a.up
  have lo_m := i_a.lo
  have e : (p_laws_markFloat32S l_a k) = _ := rfl
  have e := e.trans (p_laws_markFloat32S_eq l_a k)
  have g0 := KeepA.refl a_a H
  refine laws_markFloat32S_L1 _ _ _ (fun (μ : Nat) (k_1 : Int) (i : Int) (H_1 : AHeap) => ∃ (y1_1 : List Nat), OwnS fF H_1 lo a_a l_a.length a_e y1_1 ∧ y1_1.length = (l_a).length ∧ H.length ≤ H_1.length ∧ KeepA a_a H H_1 ∧ (0 : Int) ≤ i ∧ i ≤ (l_a.length : Int) ∧ (l_a.length : Int) - i ≤ (μ : Int) ∧ p_laws_markFloat32S l_a k = p_laws_markFloat32S_l1 l_a k (μ + 1) k_1 i y1_1) (Int.toNat ((l_a.length : Int) - (0 : Int))) _ _ H ?_ ?_
  · exact ⟨_, i_a, o29, o3, g0, o6, o6, o3, e⟩
  · intro μ k_1 i  H_1 hI
    obtain ⟨y1_1, r_1, y_2, n_3, g_4, v_5, v_6, hμ, e⟩ := hI
    rw [laws_markFloat32S_r1]
    have e := e.trans (p_laws_markFloat32S_l1_s l_a k μ k_1 i y1_1)
    have l_7 := g_4.1
    refine Br.intro (fun c_8 => ?_) (fun c_8 => ?_)
    · have e := e.trans (cond_t c_8)
      have c_8' := of_decide_eq_true c_8
      obtain ⟨b_9, f_10, q_11⟩ := (r_1.isL).pos o0
      refine ⟨by omega, by omega, b_9, f_10, q_11, ?_⟩
      refine Lt.setS r_1 q_11 (by first | omega | (simp only [List.length_set]; (first | omega | (simp only [List.length_set, List.length_replicate, List.length_append, List.length_cons, List.length_nil, List.length_take, List.length_drop, marks_length]; done) | (simp only [List.length_set, List.length_replicate, List.length_append, List.length_cons, List.length_nil, List.length_take, List.length_drop, marks_length]; omega)))) (fun H_2 hl_12 o_14 k_13 => ?_)
      have l_15 := k_13.1
      have g_16 := g_4.transA k_13
      have l_17 := g_16.1
      rw [show IntKind.wrap .i64 (i + 1) = (i + 1) from wrap64 o3 o3]
      refine laws_markFloat32S_n1 (μ - 1) o12 ⟨_, o_14, o20, o3, g_16, o1, o1, o12, (by rw [show μ - 1 + 1 = μ from by first | omega]; exact e)⟩
    · have e := e.trans (cond_f c_8)
      have c_8' := of_decide_eq_false c_8
      rw [laws_markFloat32S_x1_0]
      rw [e] at hk
      exact hk H_1 g_4 r_1
theorem laws_markFloat32S_ok : FnOk Try.prog 15 S_laws_markFloat32S := by
  refine FnOk.body mix_ok E_laws_markFloat32S_ok Try.func15 rfl (by kernel_rfl) (by kernel_rfl) ?_ ?_ ?_ ?_ ?_
  · intro args H K K' h hk
    simp only [S_laws_markFloat32S] at *
    unfold F_laws_markFloat32S at *
    split at hk
    · obtain ⟨lo, l_a, i_a, bd_18, k⟩ := hk
      exact ⟨lo, l_a, i_a, bd_18, (fun H' gg ow => h _ _ (k H' gg ow))⟩
    · exact hk.elim
  · intro hq; cases hq
  · intro args H K hk
    simp only [S_laws_markFloat32S] at *
    unfold F_laws_markFloat32S at *
    split at hk
    · obtain ⟨lo, l_a, i_a, bd_18, k⟩ := hk
      exact (i_a.put _ (by rw [marks_length])).elim fun H1 h => ⟨_, _, k H1 h.1 h.2⟩
    · exact hk.elim
  · intro hq; cases hq
  · have mm := @laws_markFloat32S_main
    have ml := fun (args : List Value) (H : AHeap) (K : Value → AHeap → Prop) => bodyL_body (P := Try.prog) (env := E_laws_markFloat32S ) (fn := Try.f15) (args := args) (H := H) (K := K) E_laws_markFloat32S_ok 
    revert mm ml
    generalize bodyK Try.prog E_laws_markFloat32S Try.f15 = Q
    generalize bodyL Try.prog E_laws_markFloat32S Try.f15 = QL
    intro mm ml args H K hk
    simp only [S_laws_markFloat32S] at *
    unfold F_laws_markFloat32S at *
    split at hk
    · exact ml _ H K (mm _ _ _ _ H K hk)
    · exact hk.elim

def p_laws_markAtomS_l1 (l_a : List (Int × Nat × Nat)) (k : Int) : Nat → Int → Int → (List (Int × Nat × Nat)) → Int × (List (Int × Nat × Nat))
  | 0, _, _, _ => (0, [])
  | μ + 1, k_1, i, y1_1 => (bif decide ((i : Int) < (l_a.length : Int)) then (p_laws_markAtomS_l1 l_a k μ (IntKind.wrap .i64 ((IntKind.wrap .i64 ((IntKind.wrap .i64 (k_1 + 1)) + 1)) + 1)) (i + 1) (((((((y1_1).set (i : Int).toNat ((k_1 : Int), (((y1_1).getD (i : Int).toNat (0, 0, 0))).2.1, (((y1_1).getD (i : Int).toNat (0, 0, 0))).2.2))).set (i : Int).toNat ((((((y1_1).set (i : Int).toNat ((k_1 : Int), (((y1_1).getD (i : Int).toNat (0, 0, 0))).2.1, (((y1_1).getD (i : Int).toNat (0, 0, 0))).2.2))).getD (i : Int).toNat (0, 0, 0))).1, (FloatKind.nearest .f32 (IntKind.wrap .i64 (k_1 + 1))), (((((y1_1).set (i : Int).toNat ((k_1 : Int), (((y1_1).getD (i : Int).toNat (0, 0, 0))).2.1, (((y1_1).getD (i : Int).toNat (0, 0, 0))).2.2))).getD (i : Int).toNat (0, 0, 0))).2.2))).set (i : Int).toNat ((((((((y1_1).set (i : Int).toNat ((k_1 : Int), (((y1_1).getD (i : Int).toNat (0, 0, 0))).2.1, (((y1_1).getD (i : Int).toNat (0, 0, 0))).2.2))).set (i : Int).toNat ((((((y1_1).set (i : Int).toNat ((k_1 : Int), (((y1_1).getD (i : Int).toNat (0, 0, 0))).2.1, (((y1_1).getD (i : Int).toNat (0, 0, 0))).2.2))).getD (i : Int).toNat (0, 0, 0))).1, (FloatKind.nearest .f32 (IntKind.wrap .i64 (k_1 + 1))), (((((y1_1).set (i : Int).toNat ((k_1 : Int), (((y1_1).getD (i : Int).toNat (0, 0, 0))).2.1, (((y1_1).getD (i : Int).toNat (0, 0, 0))).2.2))).getD (i : Int).toNat (0, 0, 0))).2.2))).getD (i : Int).toNat (0, 0, 0))).1, (((((((y1_1).set (i : Int).toNat ((k_1 : Int), (((y1_1).getD (i : Int).toNat (0, 0, 0))).2.1, (((y1_1).getD (i : Int).toNat (0, 0, 0))).2.2))).set (i : Int).toNat ((((((y1_1).set (i : Int).toNat ((k_1 : Int), (((y1_1).getD (i : Int).toNat (0, 0, 0))).2.1, (((y1_1).getD (i : Int).toNat (0, 0, 0))).2.2))).getD (i : Int).toNat (0, 0, 0))).1, (FloatKind.nearest .f32 (IntKind.wrap .i64 (k_1 + 1))), (((((y1_1).set (i : Int).toNat ((k_1 : Int), (((y1_1).getD (i : Int).toNat (0, 0, 0))).2.1, (((y1_1).getD (i : Int).toNat (0, 0, 0))).2.2))).getD (i : Int).toNat (0, 0, 0))).2.2))).getD (i : Int).toNat (0, 0, 0))).2.1, (FloatKind.nearest .f32 (IntKind.wrap .i64 ((IntKind.wrap .i64 (k_1 + 1)) + 1))))))) else (k_1, y1_1))
def p_laws_markAtomS_l1_s := fun l_a k μ k_1 i y1_1 => @p_laws_markAtomS_l1.eq_2 l_a k k_1 i y1_1 μ
def p_laws_markAtomS (l_a : List (Int × Nat × Nat)) (k : Int) : Int × (List (Int × Nat × Nat)) := (p_laws_markAtomS_l1 l_a k (Int.toNat ((l_a.length : Int) - (0 : Int)) + 1) k (0 : Int) l_a)
def p_laws_markAtomS_eq := @p_laws_markAtomS.eq_1
def T_laws_markAtomS (a_a : Option Addr) (a_n : Nat) (a_e : Nat) (k : Int) (H : AHeap) (K : Int → AHeap → Prop) : Prop := ∃ lo : Nat, ∃ (l_a : List (Int × Nat × Nat)), OwnT fA H lo a_a a_n a_e l_a ∧ l_a.length < 1073741824 ∧ ((∀ H' : AHeap, KeepA a_a H H' → OwnT fA H' lo a_a a_n a_e (marksA k l_a.length) → K (wkA k l_a.length) H'))
theorem T_laws_markAtomS_i {a_a : Option Addr} {a_n : Nat} {a_e : Nat} {k : Int} {H : AHeap} {K : Int → AHeap → Prop} (h : ∃ lo : Nat, ∃ (l_a : List (Int × Nat × Nat)), OwnT fA H lo a_a a_n a_e l_a ∧ l_a.length < 1073741824 ∧ ((∀ H' : AHeap, KeepA a_a H H' → OwnT fA H' lo a_a a_n a_e (marksA k l_a.length) → K (wkA k l_a.length) H'))) : T_laws_markAtomS a_a a_n a_e k H K := h
theorem laws_markAtomS_go (l : List (Int × Nat × Nat)) (k0 : Int) : ∀ (μ : Nat) (k : Int) (i : Nat) (ys : List (Int × Nat × Nat)), ys.length = l.length → i ≤ l.length → l.length - i < μ →
    p_laws_markAtomS_l1 l k0 μ k (i : Int) ys = (wkA k (l.length - i), ys.take i ++ marksA k (l.length - i)) := by
  intro μ
  induction μ with
  | zero => intro k i ys _ _ h; omega
  | succ μ ih =>
    intro k i ys hy hi hm
    rw [p_laws_markAtomS_l1_s]
    by_cases h : i < l.length
    · rw [decide_eq_true (show (i : Int) < (l.length : Int) by omega), cond_true, Int.toNat_natCast]
      have hset : ∀ (zs : List (Int × Nat × Nat)) (x : Int × Nat × Nat), i < zs.length → (zs.set i x).getD i (0, 0, 0) = x := by
        intro zs x hz
        rw [List.getD_eq_getElem?_getD, List.getElem?_set_self hz]; rfl
      simp only [List.set_set]
      rw [hset ys _ o3]
      simp only [hset ys _ (by omega : i < ys.length)]
      have := ih (w3 k) (i + 1) (ys.set i (k, FloatKind.nearest .f32 (IntKind.wrap .i64 (k + 1)), FloatKind.nearest .f32 (IntKind.wrap .i64 ((IntKind.wrap .i64 (k + 1)) + 1)))) (by simp [hy]) o3 o3
      obtain ⟨d, hd⟩ : ∃ d, l.length - i = d + 1 := ⟨l.length - i - 1, by omega⟩
      rw [show l.length - (i + 1) = d by omega] at this
      rw [hd, wkA, marksA]
      refine Eq.trans this ?_
      rw [List.take_add_one, List.getElem?_set_self o3, List.take_set_of_le (Nat.le_refl i)]
      simp
    · rw [decide_eq_false (show ¬ (i : Int) < (l.length : Int) by omega), cond_false]
      rw [show l.length - i = 0 by omega, wkA, marksA, List.append_nil, List.take_of_length_le o3]
theorem laws_markAtomS_val (l : List (Int × Nat × Nat)) (k : Int) : p_laws_markAtomS l k = (wkA k l.length, marksA k l.length) := by
  rw [p_laws_markAtomS_eq]
  have := laws_markAtomS_go l k (Int.toNat ((l.length : Int) - 0) + 1) k 0 l rfl o3 o3
  simpa using this
/-! laws_markAtomS: function 43 -/
def E_laws_markAtomS : Env := envOf []
def F_laws_markAtomS : List Value → AHeap → (Value → AHeap → Prop) → Prop
  | [.slice a_a a_n a_e, .int .i64 k], H, K => T_laws_markAtomS a_a a_n a_e k H fun (r1 : Int) (H' : AHeap) => K (.int .i64 r1) H'
  | _, _, _ => False
def S_laws_markAtomS : FSpec := { F := F_laws_markAtomS, quiet := false, tame := false }
theorem laws_markAtomS_vc (a_a : Option Addr) (a_n : Nat) (a_e : Nat) (k : Int) (H : AHeap) (K : Value → AHeap → Prop) : bodyL Try.prog E_laws_markAtomS Try.f43 [.slice a_a a_n a_e, .int .i64 k] H K =
  (loopK (exL Try.prog E_laws_markAtomS (cl (cl (cr (cl (cr (bodyC Try.f43)))))) 35 16 [(0, 2)]) [.slice a_a a_n a_e, .int .i64 k, ud, ud, ud, .int .i64 0, ud, ud, ud, ud, ud, ud, ud, ud, ud, ud, ud, ud, ud, ud, ud, ud, ud, ud, ud, ud, ud, ud, ud, ud, ud, ud, ud, ud, ud, ud] H (blockQ 0 (seqQ (exL Try.prog E_laws_markAtomS (cr (cr (bodyC Try.f43))) 16 16 []) (retK Try.prog Try.f43 K)))) := by kernel_rfl
abbrev laws_markAtomS_P1 (a_a : Option Addr) (a_e : Nat) (a_n : Nat) (k_1 : Int) (i : Int)  : List Value := [.slice a_a a_n a_e, .int .i64 k_1, ud, ud, ud, .int .i64 i, ud, ud, ud, ud, ud, ud, ud, ud, ud, ud, ud, ud, ud, ud, ud, ud, ud, ud, ud, ud, ud, ud, ud, ud, ud, ud, ud, ud, ud, ud]
theorem laws_markAtomS_r1 (a_a : Option Addr) (a_e : Nat) (a_n : Nat) (k_1 : Int) (i : Int)  (H : AHeap) (R : Post) : exL Try.prog E_laws_markAtomS (cl (cl (cr (cl (cr (bodyC Try.f43)))))) 35 16 [(0, 2)] (laws_markAtomS_P1 a_a a_e a_n k_1 i) H R =
  (Br (decide ((i : Int) < (a_n : Int))) ((0 : Int) ≤ i ∧ i < (a_n : Int) ∧ ∃ b1 f1, (a_a : Option Addr) = some ⟨b1, f1, none⟩ ∧ isOwn H b1 ∧ (∃ l, rdN H b1 ((f1 + (i : Int).toNat * 3 + 0)) 1 = some l) ∧ Lt (setC H b1 ((f1 + (i : Int).toNat * 3 + 0)) (.int .i64 k_1)) fun H1 => (0 : Int) ≤ i ∧ i < (a_n : Int) ∧ ∃ b2 f2, (a_a : Option Addr) = some ⟨b2, f2, none⟩ ∧ isOwn H1 b2 ∧ (∃ l, rdN H1 b2 ((f2 + (i : Int).toNat * 3 + 1)) 1 = some l) ∧ Lt (setC H1 b2 ((f2 + (i : Int).toNat * 3 + 1)) (.float .f32 (FloatKind.nearest .f32 (IntKind.wrap .i64 (k_1 + 1))))) fun H2 => (0 : Int) ≤ i ∧ i < (a_n : Int) ∧ ∃ b3 f3, (a_a : Option Addr) = some ⟨b3, f3, none⟩ ∧ isOwn H2 b3 ∧ (∃ l, rdN H2 b3 ((f3 + (i : Int).toNat * 3 + 2)) 1 = some l) ∧ Lt (setC H2 b3 ((f3 + (i : Int).toNat * 3 + 2)) (.float .f32 (FloatKind.nearest .f32 (IntKind.wrap .i64 ((IntKind.wrap .i64 (k_1 + 1)) + 1))))) fun H3 => R .normal [.slice a_a a_n a_e, .int .i64 (IntKind.wrap .i64 ((IntKind.wrap .i64 ((IntKind.wrap .i64 (k_1 + 1)) + 1)) + 1)), ud, ud, ud, .int .i64 (IntKind.wrap .i64 (i + 1)), ud, ud, ud, ud, ud, ud, ud, ud, ud, ud, ud, ud, ud, ud, ud, ud, ud, ud, ud, ud, ud, ud, ud, ud, ud, ud, ud, ud, ud, ud] H3) (R (.exit 0) [ud, .int .i64 k_1, ud, ud, ud, ud, ud, ud, ud, ud, ud, ud, ud, ud, ud, ud, ud, ud, ud, ud, ud, ud, ud, ud, ud, ud, ud, ud, ud, ud, ud, ud, ud, ud, ud, ud] H)) := by kernel_rfl
def laws_markAtomS_I1 (a_a : Option Addr) (a_e : Nat) (a_n : Nat) (Inv : Nat → Int → Int → AHeap → Prop) : Nat → List Value → AHeap → Prop := fun μ tm H => ∃ (k_1 : Int), ∃ (i : Int), tm = (laws_markAtomS_P1 a_a a_e a_n k_1 i) ∧ Inv μ k_1 i H
theorem laws_markAtomS_L1 (a_a : Option Addr) (a_e : Nat) (a_n : Nat) {Q : Post} (Inv : Nat → Int → Int → AHeap → Prop) (ν : Nat) (k_1 : Int) (i : Int)  (H : AHeap) (h0 : Inv ν k_1 i H)
    (hs : ∀ (μ : Nat) (k_1 : Int) (i : Int)  (H : AHeap), Inv μ k_1 i H → exL Try.prog E_laws_markAtomS (cl (cl (cr (cl (cr (bodyC Try.f43)))))) 35 16 [(0, 2)] (laws_markAtomS_P1 a_a a_e a_n k_1 i) H (loopQ (laws_markAtomS_I1 a_a a_e a_n Inv) μ Q)) : loopK (exL Try.prog E_laws_markAtomS (cl (cl (cr (cl (cr (bodyC Try.f43)))))) 35 16 [(0, 2)]) (laws_markAtomS_P1 a_a a_e a_n k_1 i) H Q :=
  ⟨laws_markAtomS_I1 a_a a_e a_n Inv, ν, ⟨k_1, i, rfl, h0⟩, fun μ tm H h => by obtain ⟨k_1, i, rfl, hI⟩ := h; exact hs μ k_1 i  H hI⟩
theorem laws_markAtomS_n1 {a_a : Option Addr} {a_e : Nat} {a_n : Nat} {Q : Post} {Inv : Nat → Int → Int → AHeap → Prop} {μ : Nat} (μ' : Nat) {k_1 : Int} {i : Int}  {H : AHeap} (hm : μ' < μ) (hI : Inv μ' k_1 i H) : loopQ (laws_markAtomS_I1 a_a a_e a_n Inv) μ Q .normal (laws_markAtomS_P1 a_a a_e a_n k_1 i) H := ⟨μ', hm, k_1, i, rfl, hI⟩
theorem laws_markAtomS_x1_0 (k_1 : Int) (H : AHeap) (K : Value → AHeap → Prop)  {I : Nat → List Value → AHeap → Prop} {μ : Nat} : loopQ I μ (blockQ 0 (seqQ (exL Try.prog E_laws_markAtomS (cr (cr (bodyC Try.f43))) 16 16 []) (retK Try.prog Try.f43 K))) (.exit 0) [ud, .int .i64 k_1, ud, ud, ud, ud, ud, ud, ud, ud, ud, ud, ud, ud, ud, ud, ud, ud, ud, ud, ud, ud, ud, ud, ud, ud, ud, ud, ud, ud, ud, ud, ud, ud, ud, ud] H =
  (K (.int .i64 k_1) H) := by kernel_rfl
theorem E_laws_markAtomS_ok : ∀ g, FnOk Try.prog g (E_laws_markAtomS g) := FnOk.envOf (by
  intro x hx; cases hx)
theorem o15 {P : Prop} (h : P := by first | omega | (simp only [List.length_set]; (first | omega | (simp only [List.length_set, List.length_replicate, List.length_append, List.length_cons, List.length_nil, List.length_take, List.length_drop, marksA_length]; done) | (simp only [List.length_set, List.length_replicate, List.length_append, List.length_cons, List.length_nil, List.length_take, List.length_drop, marksA_length]; omega)))) : P := h
set_option maxHeartbeats 1000000 in
theorem laws_markAtomS_main (a_a : Option Addr) (a_n : Nat) (a_e : Nat) (k : Int) (H : AHeap) (K : Value → AHeap → Prop) (h : T_laws_markAtomS a_a a_n a_e k H fun (r1 : Int) (H' : AHeap) => K (.int .i64 r1) H') : bodyL Try.prog E_laws_markAtomS Try.f43 [.slice a_a a_n a_e, .int .i64 k] H K := by
  rw [laws_markAtomS_vc]
  obtain ⟨lo, l_a, i_a, bd_36, hk⟩ := h
  have hk : (∀ H' : AHeap, KeepA a_a H H' → OwnT fA H' lo a_a a_n a_e ((p_laws_markAtomS l_a k).2) → (fun (r1 : Int) (H' : AHeap) => K (.int .i64 r1) H') ((p_laws_markAtomS l_a k).1) H') := by rw [laws_markAtomS_val l_a k]; exact hk
  obtain rfl := i_a.len
  have up_m := i_a.up
  have lo_m := i_a.lo
  have e : (p_laws_markAtomS l_a k) = _ := rfl
  have e := e.trans (p_laws_markAtomS_eq l_a k)
  have g0 := KeepA.refl a_a H
  refine laws_markAtomS_L1 _ _ _ (fun (μ : Nat) (k_1 : Int) (i : Int) (H_1 : AHeap) => ∃ (y1_1 : List (Int × Nat × Nat)), OwnT fA H_1 lo a_a l_a.length a_e y1_1 ∧ y1_1.length = (l_a).length ∧ H.length ≤ H_1.length ∧ KeepA a_a H H_1 ∧ (0 : Int) ≤ i ∧ i ≤ (l_a.length : Int) ∧ (l_a.length : Int) - i ≤ (μ : Int) ∧ p_laws_markAtomS l_a k = p_laws_markAtomS_l1 l_a k (μ + 1) k_1 i y1_1) (Int.toNat ((l_a.length : Int) - (0 : Int))) _ _ H ?_ ?_
  · exact ⟨_, i_a, o29, o3, g0, o6, o6, o3, e⟩
  · intro μ k_1 i  H_1 hI
    obtain ⟨y1_1, r_1, y_2, n_3, g_4, v_5, v_6, hμ, e⟩ := hI
    rw [laws_markAtomS_r1]
    have e := e.trans (p_laws_markAtomS_l1_s l_a k μ k_1 i y1_1)
    have l_7 := g_4.1
    refine Br.intro (fun c_8 => ?_) (fun c_8 => ?_)
    · have e := e.trans (cond_t c_8)
      have c_8' := of_decide_eq_true c_8
      obtain ⟨b_9, f_10, q_11⟩ := (r_1.isL).pos o4
      refine ⟨by omega, by omega, b_9, f_10, q_11, ?_⟩
      refine Lt.setT (j := 0) (d := (0, 0, 0)) (x := ((k_1 : Int), (((y1_1).getD (i : Int).toNat (0, 0, 0))).2.1, (((y1_1).getD (i : Int).toNat (0, 0, 0))).2.2)) r_1 q_11 o15 o23 rfl (fun H_2 hl_12 o_14 k_13 => ?_)
      have l_15 := k_13.1
      have g_16 := g_4.transA k_13
      have l_17 := g_16.1
      obtain ⟨b_18, f_19, q_20⟩ := (o_14.isL).pos o4
      refine ⟨by omega, by omega, b_18, f_19, q_20, ?_⟩
      refine Lt.setT (j := 1) (d := (0, 0, 0)) (x := ((((((y1_1).set (i : Int).toNat ((k_1 : Int), (((y1_1).getD (i : Int).toNat (0, 0, 0))).2.1, (((y1_1).getD (i : Int).toNat (0, 0, 0))).2.2))).getD (i : Int).toNat (0, 0, 0))).1, (FloatKind.nearest .f32 (IntKind.wrap .i64 (k_1 + 1))), (((((y1_1).set (i : Int).toNat ((k_1 : Int), (((y1_1).getD (i : Int).toNat (0, 0, 0))).2.1, (((y1_1).getD (i : Int).toNat (0, 0, 0))).2.2))).getD (i : Int).toNat (0, 0, 0))).2.2)) o_14 q_20 o15 o23 rfl (fun H_3 hl_21 o_23 k_22 => ?_)
      have l_24 := k_22.1
      have g_25 := g_16.transA k_22
      have l_26 := g_25.1
      obtain ⟨b_27, f_28, q_29⟩ := (o_23.isL).pos o4
      refine ⟨by omega, by omega, b_27, f_28, q_29, ?_⟩
      refine Lt.setT (j := 2) (d := (0, 0, 0)) (x := ((((((((y1_1).set (i : Int).toNat ((k_1 : Int), (((y1_1).getD (i : Int).toNat (0, 0, 0))).2.1, (((y1_1).getD (i : Int).toNat (0, 0, 0))).2.2))).set (i : Int).toNat ((((((y1_1).set (i : Int).toNat ((k_1 : Int), (((y1_1).getD (i : Int).toNat (0, 0, 0))).2.1, (((y1_1).getD (i : Int).toNat (0, 0, 0))).2.2))).getD (i : Int).toNat (0, 0, 0))).1, (FloatKind.nearest .f32 (IntKind.wrap .i64 (k_1 + 1))), (((((y1_1).set (i : Int).toNat ((k_1 : Int), (((y1_1).getD (i : Int).toNat (0, 0, 0))).2.1, (((y1_1).getD (i : Int).toNat (0, 0, 0))).2.2))).getD (i : Int).toNat (0, 0, 0))).2.2))).getD (i : Int).toNat (0, 0, 0))).1, (((((((y1_1).set (i : Int).toNat ((k_1 : Int), (((y1_1).getD (i : Int).toNat (0, 0, 0))).2.1, (((y1_1).getD (i : Int).toNat (0, 0, 0))).2.2))).set (i : Int).toNat ((((((y1_1).set (i : Int).toNat ((k_1 : Int), (((y1_1).getD (i : Int).toNat (0, 0, 0))).2.1, (((y1_1).getD (i : Int).toNat (0, 0, 0))).2.2))).getD (i : Int).toNat (0, 0, 0))).1, (FloatKind.nearest .f32 (IntKind.wrap .i64 (k_1 + 1))), (((((y1_1).set (i : Int).toNat ((k_1 : Int), (((y1_1).getD (i : Int).toNat (0, 0, 0))).2.1, (((y1_1).getD (i : Int).toNat (0, 0, 0))).2.2))).getD (i : Int).toNat (0, 0, 0))).2.2))).getD (i : Int).toNat (0, 0, 0))).2.1, (FloatKind.nearest .f32 (IntKind.wrap .i64 ((IntKind.wrap .i64 (k_1 + 1)) + 1))))) o_23 q_29 o15 o23 rfl (fun H_4 hl_30 o_32 k_31 => ?_)
      have l_33 := k_31.1
      have g_34 := g_25.transA k_31
      have l_35 := g_34.1
      rw [show IntKind.wrap .i64 (i + 1) = (i + 1) from wrap64 o3 o3]
      refine laws_markAtomS_n1 (μ - 1) o12 ⟨_, o_32, o20, o3, g_34, o1, o1, o12, (by rw [show μ - 1 + 1 = μ from by first | omega]; exact e)⟩
    · have e := e.trans (cond_f c_8)
      have c_8' := of_decide_eq_false c_8
      rw [laws_markAtomS_x1_0]
      rw [e] at hk
      exact hk H_1 g_4 r_1
theorem laws_markAtomS_ok : FnOk Try.prog 43 S_laws_markAtomS := by
  refine FnOk.body mix_ok E_laws_markAtomS_ok Try.func43 rfl (by kernel_rfl) (by kernel_rfl) ?_ ?_ ?_ ?_ ?_
  · intro args H K K' h hk
    simp only [S_laws_markAtomS] at *
    unfold F_laws_markAtomS at *
    split at hk
    · obtain ⟨lo, l_a, i_a, bd_36, k⟩ := hk
      exact ⟨lo, l_a, i_a, bd_36, (fun H' gg ow => h _ _ (k H' gg ow))⟩
    · exact hk.elim
  · intro hq; cases hq
  · intro args H K hk
    simp only [S_laws_markAtomS] at *
    unfold F_laws_markAtomS at *
    split at hk
    · obtain ⟨lo, l_a, i_a, bd_36, k⟩ := hk
      exact (i_a.put _ (by rw [marksA_length])).elim fun H1 h => ⟨_, _, k H1 h.1 h.2⟩
    · exact hk.elim
  · intro hq; cases hq
  · have mm := @laws_markAtomS_main
    have ml := fun (args : List Value) (H : AHeap) (K : Value → AHeap → Prop) => bodyL_body (P := Try.prog) (env := E_laws_markAtomS ) (fn := Try.f43) (args := args) (H := H) (K := K) E_laws_markAtomS_ok 
    revert mm ml
    generalize bodyK Try.prog E_laws_markAtomS Try.f43 = Q
    generalize bodyL Try.prog E_laws_markAtomS Try.f43 = QL
    intro mm ml args H K hk
    simp only [S_laws_markAtomS] at *
    unfold F_laws_markAtomS at *
    split at hk
    · exact ml _ H K (mm _ _ _ _ H K hk)
    · exact hk.elim

def p_laws_heldAtomS_l1 (l_a : List (Int × Nat × Nat)) (k : Int) : Nat → Int → Int → Int → Int
  | 0, _, _, _ => 0
  | μ + 1, k_1, t4, i => (bif decide ((i : Int) < (l_a.length : Int)) then (bif ((((l_a).getD (i : Int).toNat (0, 0, 0))).1 : Int) != k_1 then ((-1) : Int) else (bif !(feq .f32 ((((l_a).getD (i : Int).toNat (0, 0, 0))).2.1) (FloatKind.nearest .f32 (IntKind.wrap .i64 (k_1 + 1)))) then ((-1) : Int) else (bif !(feq .f32 ((((l_a).getD (i : Int).toNat (0, 0, 0))).2.2) (FloatKind.nearest .f32 (IntKind.wrap .i64 ((IntKind.wrap .i64 (k_1 + 1)) + 1)))) then ((-1) : Int) else (p_laws_heldAtomS_l1 l_a k μ (IntKind.wrap .i64 ((IntKind.wrap .i64 ((IntKind.wrap .i64 (k_1 + 1)) + 1)) + 1)) t4 (i + 1))))) else k_1)
def p_laws_heldAtomS_l1_s := fun l_a k μ k_1 t4 i => @p_laws_heldAtomS_l1.eq_2 l_a k k_1 t4 i μ
def p_laws_heldAtomS (l_a : List (Int × Nat × Nat)) (k : Int) : Int := (p_laws_heldAtomS_l1 l_a k (Int.toNat ((l_a.length : Int) - (0 : Int)) + 1) k (0 : Int) (0 : Int))
def p_laws_heldAtomS_eq := @p_laws_heldAtomS.eq_1
def T_laws_heldAtomS (a_a : Option Addr) (a_n : Nat) (a_e : Nat) (k : Int) (H : AHeap) (K : Int → AHeap → Prop) : Prop := ∃ (l_a : List (Int × Nat × Nat)), IsT fA H a_a a_n l_a ∧ l_a.length < 1073741824 ∧ K (p_laws_heldAtomS l_a k) H
theorem T_laws_heldAtomS_i {a_a : Option Addr} {a_n : Nat} {a_e : Nat} {k : Int} {H : AHeap} {K : Int → AHeap → Prop} (h : ∃ (l_a : List (Int × Nat × Nat)), IsT fA H a_a a_n l_a ∧ l_a.length < 1073741824 ∧ K (p_laws_heldAtomS l_a k) H) : T_laws_heldAtomS a_a a_n a_e k H K := h
theorem laws_heldAtomS_go (k0 : Int) : ∀ (μ : Nat) (i : Nat) (pre : List (Int × Nat × Nat)) (k t : Int) (n : Nat), pre.length = i → n < μ →
    p_laws_heldAtomS_l1 (pre ++ marksA k n) k0 μ k t (i : Int) = wkA k n := by
  intro μ
  induction μ with
  | zero => intro i pre k t n _ h; omega
  | succ μ ih =>
    intro i pre k t n hp hm
    rw [p_laws_heldAtomS_l1_s]
    have hl : (pre ++ marksA k n).length = i + n := by rw [List.length_append, hp, marksA_length]
    rw [hl]
    cases n with
    | zero => rw [decide_eq_false (show ¬ (i : Int) < ((i + 0 : Nat) : Int) by omega), cond_false]; rfl
    | succ n =>
      rw [decide_eq_true (show (i : Int) < ((i + (n + 1) : Nat) : Int) by omega), cond_true, Int.toNat_natCast]
      have hx : (pre ++ marksA k (n + 1)).getD i (0, 0, 0) = (k, FloatKind.nearest .f32 (IntKind.wrap .i64 (k + 1)), FloatKind.nearest .f32 (IntKind.wrap .i64 ((IntKind.wrap .i64 (k + 1)) + 1))) := by
        rw [List.getD_eq_getElem?_getD, List.getElem?_append_right o3, hp, Nat.sub_self]; rfl
      rw [hx]
      have hq : ∀ z : Int, (!(feq .f32 (FloatKind.nearest .f32 z) (FloatKind.nearest .f32 z))) = false := by intro z; rw [feq_nearest]; rfl
      simp only [hq, cond_false, bne_self_eq_false]
      have := ih (i + 1) (pre ++ [(k, FloatKind.nearest .f32 (IntKind.wrap .i64 (k + 1)), FloatKind.nearest .f32 (IntKind.wrap .i64 ((IntKind.wrap .i64 (k + 1)) + 1)))]) (w3 k) t n (by simp [hp]) o3
      rw [List.append_assoc] at this
      rw [wkA]; exact this
theorem laws_heldAtomS_marks (k : Int) (n : Nat) : p_laws_heldAtomS (marksA k n) k = wkA k n := by
  rw [p_laws_heldAtomS_eq]
  have := laws_heldAtomS_go k (Int.toNat (((marksA k n).length : Int) - 0) + 1) 0 [] k 0 n rfl (by rw [marksA_length]; omega)
  simpa using this
/-! laws_heldAtomS: function 49 -/
def E_laws_heldAtomS : Env := envOf []
def F_laws_heldAtomS : List Value → AHeap → (Value → AHeap → Prop) → Prop
  | [.slice a_a a_n a_e, .int .i64 k], H, K => T_laws_heldAtomS a_a a_n a_e k H fun (r1 : Int) (H' : AHeap) => K (.int .i64 r1) H'
  | _, _, _ => False
def S_laws_heldAtomS : FSpec := { F := F_laws_heldAtomS, quiet := true, tame := false }
theorem laws_heldAtomS_vc (a_a : Option Addr) (a_n : Nat) (a_e : Nat) (k : Int) (H : AHeap) (K : Value → AHeap → Prop) : bodyL Try.prog E_laws_heldAtomS Try.f49 [.slice a_a a_n a_e, .int .i64 k] H K =
  (loopK (exL Try.prog E_laws_heldAtomS (cl (cl (cr (cl (cr (bodyC Try.f49)))))) 35 16 [(0, 2)]) [.slice a_a a_n a_e, .int .i64 k, ud, ud, ud, .int .i64 0, ud, ud, ud, ud, ud, ud, ud, ud, ud, ud, ud, ud, ud, ud, ud, ud, ud, ud, ud, ud, ud, ud, ud, ud, ud, ud, ud, ud, ud, ud, ud, ud, ud, ud, ud, ud] H (blockQ 0 (seqQ (exL Try.prog E_laws_heldAtomS (cr (cr (bodyC Try.f49))) 16 16 []) (retK Try.prog Try.f49 K)))) := by kernel_rfl
abbrev laws_heldAtomS_P1 (a_a : Option Addr) (a_e : Nat) (a_n : Nat) (k_1 : Int) (i : Int)  : List Value := [.slice a_a a_n a_e, .int .i64 k_1, ud, ud, ud, .int .i64 i, ud, ud, ud, ud, ud, ud, ud, ud, ud, ud, ud, ud, ud, ud, ud, ud, ud, ud, ud, ud, ud, ud, ud, ud, ud, ud, ud, ud, ud, ud, ud, ud, ud, ud, ud, ud]
theorem laws_heldAtomS_r1 (a_a : Option Addr) (a_e : Nat) (a_n : Nat) (k_1 : Int) (i : Int)  (H : AHeap) (R : Post) : exL Try.prog E_laws_heldAtomS (cl (cl (cr (cl (cr (bodyC Try.f49)))))) 35 16 [(0, 2)] (laws_heldAtomS_P1 a_a a_e a_n k_1 i) H R =
  (Br (decide ((i : Int) < (a_n : Int))) ((0 : Int) ≤ i ∧ i < (a_n : Int) ∧ ∃ b1 f1, (a_a : Option Addr) = some ⟨b1, f1, none⟩ ∧ ∃ x1 : Int,  rdC H b1 ((f1 + (i : Int).toNat * 3 + 0)) = some (.int .i64 x1) ∧ Br ((x1 : Int) != k_1) (R .ret [ud, ud, ud, ud, .int .i64 (-1), ud, ud, ud, ud, ud, ud, ud, ud, ud, ud, ud, ud, ud, ud, ud, ud, ud, ud, ud, ud, ud, ud, ud, ud, ud, ud, ud, ud, ud, ud, ud, ud, ud, ud, ud, ud, ud] H) ((0 : Int) ≤ i ∧ i < (a_n : Int) ∧ ∃ b2 f2, (a_a : Option Addr) = some ⟨b2, f2, none⟩ ∧ ∃ x2 : Nat,  rdC H b2 ((f2 + (i : Int).toNat * 3 + 1)) = some (.float .f32 x2) ∧ Br (!(feq .f32 x2 (FloatKind.nearest .f32 (IntKind.wrap .i64 (k_1 + 1))))) (R .ret [ud, ud, ud, ud, .int .i64 (-1), ud, ud, ud, ud, ud, ud, ud, ud, ud, ud, ud, ud, ud, ud, ud, ud, ud, ud, ud, ud, ud, ud, ud, ud, ud, ud, ud, ud, ud, ud, ud, ud, ud, ud, ud, ud, ud] H) ((0 : Int) ≤ i ∧ i < (a_n : Int) ∧ ∃ b3 f3, (a_a : Option Addr) = some ⟨b3, f3, none⟩ ∧ ∃ x3 : Nat,  rdC H b3 ((f3 + (i : Int).toNat * 3 + 2)) = some (.float .f32 x3) ∧ Br (!(feq .f32 x3 (FloatKind.nearest .f32 (IntKind.wrap .i64 ((IntKind.wrap .i64 (k_1 + 1)) + 1))))) (R .ret [ud, ud, ud, ud, .int .i64 (-1), ud, ud, ud, ud, ud, ud, ud, ud, ud, ud, ud, ud, ud, ud, ud, ud, ud, ud, ud, ud, ud, ud, ud, ud, ud, ud, ud, ud, ud, ud, ud, ud, ud, ud, ud, ud, ud] H) (R .normal [.slice a_a a_n a_e, .int .i64 (IntKind.wrap .i64 ((IntKind.wrap .i64 ((IntKind.wrap .i64 (k_1 + 1)) + 1)) + 1)), ud, ud, ud, .int .i64 (IntKind.wrap .i64 (i + 1)), ud, ud, ud, ud, ud, ud, ud, ud, ud, ud, ud, ud, ud, ud, ud, ud, ud, ud, ud, ud, ud, ud, ud, ud, ud, ud, ud, ud, ud, ud, ud, ud, ud, ud, ud, ud] H)))) (R (.exit 0) [ud, .int .i64 k_1, ud, ud, ud, ud, ud, ud, ud, ud, ud, ud, ud, ud, ud, ud, ud, ud, ud, ud, ud, ud, ud, ud, ud, ud, ud, ud, ud, ud, ud, ud, ud, ud, ud, ud, ud, ud, ud, ud, ud, ud] H)) := by kernel_rfl
def laws_heldAtomS_I1 (a_a : Option Addr) (a_e : Nat) (a_n : Nat) (Inv : Nat → Int → Int → AHeap → Prop) : Nat → List Value → AHeap → Prop := fun μ tm H => ∃ (k_1 : Int), ∃ (i : Int), tm = (laws_heldAtomS_P1 a_a a_e a_n k_1 i) ∧ Inv μ k_1 i H
theorem laws_heldAtomS_L1 (a_a : Option Addr) (a_e : Nat) (a_n : Nat) {Q : Post} (Inv : Nat → Int → Int → AHeap → Prop) (ν : Nat) (k_1 : Int) (i : Int)  (H : AHeap) (h0 : Inv ν k_1 i H)
    (hs : ∀ (μ : Nat) (k_1 : Int) (i : Int)  (H : AHeap), Inv μ k_1 i H → exL Try.prog E_laws_heldAtomS (cl (cl (cr (cl (cr (bodyC Try.f49)))))) 35 16 [(0, 2)] (laws_heldAtomS_P1 a_a a_e a_n k_1 i) H (loopQ (laws_heldAtomS_I1 a_a a_e a_n Inv) μ Q)) : loopK (exL Try.prog E_laws_heldAtomS (cl (cl (cr (cl (cr (bodyC Try.f49)))))) 35 16 [(0, 2)]) (laws_heldAtomS_P1 a_a a_e a_n k_1 i) H Q :=
  ⟨laws_heldAtomS_I1 a_a a_e a_n Inv, ν, ⟨k_1, i, rfl, h0⟩, fun μ tm H h => by obtain ⟨k_1, i, rfl, hI⟩ := h; exact hs μ k_1 i  H hI⟩
theorem laws_heldAtomS_n1 {a_a : Option Addr} {a_e : Nat} {a_n : Nat} {Q : Post} {Inv : Nat → Int → Int → AHeap → Prop} {μ : Nat} (μ' : Nat) {k_1 : Int} {i : Int}  {H : AHeap} (hm : μ' < μ) (hI : Inv μ' k_1 i H) : loopQ (laws_heldAtomS_I1 a_a a_e a_n Inv) μ Q .normal (laws_heldAtomS_P1 a_a a_e a_n k_1 i) H := ⟨μ', hm, k_1, i, rfl, hI⟩
theorem laws_heldAtomS_x1_0 (k_1 : Int) (H : AHeap) (K : Value → AHeap → Prop)  {I : Nat → List Value → AHeap → Prop} {μ : Nat} : loopQ I μ (blockQ 0 (seqQ (exL Try.prog E_laws_heldAtomS (cr (cr (bodyC Try.f49))) 16 16 []) (retK Try.prog Try.f49 K))) (.exit 0) [ud, .int .i64 k_1, ud, ud, ud, ud, ud, ud, ud, ud, ud, ud, ud, ud, ud, ud, ud, ud, ud, ud, ud, ud, ud, ud, ud, ud, ud, ud, ud, ud, ud, ud, ud, ud, ud, ud, ud, ud, ud, ud, ud, ud] H =
  (K (.int .i64 k_1) H) := by kernel_rfl
theorem laws_heldAtomS_x1_ret (t4 : Int) (H : AHeap) (K : Value → AHeap → Prop)  {I : Nat → List Value → AHeap → Prop} {μ : Nat} : loopQ I μ (blockQ 0 (seqQ (exL Try.prog E_laws_heldAtomS (cr (cr (bodyC Try.f49))) 16 16 []) (retK Try.prog Try.f49 K))) .ret [ud, ud, ud, ud, .int .i64 t4, ud, ud, ud, ud, ud, ud, ud, ud, ud, ud, ud, ud, ud, ud, ud, ud, ud, ud, ud, ud, ud, ud, ud, ud, ud, ud, ud, ud, ud, ud, ud, ud, ud, ud, ud, ud, ud] H =
  (K (.int .i64 t4) H) := by kernel_rfl
theorem E_laws_heldAtomS_ok : ∀ g, FnOk Try.prog g (E_laws_heldAtomS g) := FnOk.envOf (by
  intro x hx; cases hx)
set_option maxHeartbeats 1000000 in
theorem laws_heldAtomS_main (a_a : Option Addr) (a_n : Nat) (a_e : Nat) (k : Int) (H : AHeap) (K : Value → AHeap → Prop) (h : T_laws_heldAtomS a_a a_n a_e k H fun (r1 : Int) (H' : AHeap) => K (.int .i64 r1) H') : bodyL Try.prog E_laws_heldAtomS Try.f49 [.slice a_a a_n a_e, .int .i64 k] H K := by
  rw [laws_heldAtomS_vc]
  obtain ⟨l_a, i_a, bd_17, hk⟩ := h
  obtain rfl := i_a.eqn
  have e : (p_laws_heldAtomS l_a k) = _ := rfl
  have e := e.trans (p_laws_heldAtomS_eq l_a k)
  have g0 := Grow.refl H
  refine laws_heldAtomS_L1 _ _ _ (fun (μ : Nat) (k_1 : Int) (i : Int) (H_1 : AHeap) => ∃ (t4 : Int), H = H_1 ∧ (0 : Int) ≤ i ∧ i ≤ (l_a.length : Int) ∧ (l_a.length : Int) - i ≤ (μ : Int) ∧ p_laws_heldAtomS l_a k = p_laws_heldAtomS_l1 l_a k (μ + 1) k_1 t4 i) (Int.toNat ((l_a.length : Int) - (0 : Int))) _ _ H ?_ ?_
  · exact ⟨_, rfl, o6, o6, o3, e⟩
  · intro μ k_1 i  H_1 hI
    obtain ⟨t4, rfl, v_1, v_2, hμ, e⟩ := hI
    rw [laws_heldAtomS_r1]
    have e := e.trans (p_laws_heldAtomS_l1_s l_a k μ k_1 t4 i)
    have l_3 := g0.1
    refine Br.intro (fun c_4 => ?_) (fun c_4 => ?_)
    · have e := e.trans (cond_t c_4)
      have c_4' := of_decide_eq_true c_4
      obtain ⟨b_5, f_6, q_7⟩ := ((i_a.grow g0)).pos o4
      refine ⟨by omega, by omega, b_5, f_6, q_7, ?_⟩
      refine ⟨(((l_a).getD (i : Int).toNat (0, 0, 0))).1, ((i_a).rd g0 q_7 o3 (0, 0, 0) (j := 0) o23).trans rfl, ?_⟩
      refine Br.intro (fun c_8 => ?_) (fun c_8 => ?_)
      · have e := e.trans (cond_t c_8)
        have c_8' := ine_t c_8
        rw [laws_heldAtomS_x1_ret]
        rw [e] at hk
        exact hk
      · have e := e.trans (cond_f c_8)
        have c_8' := ine_f c_8
        obtain ⟨b_9, f_10, q_11⟩ := ((i_a.grow g0)).pos o4
        refine ⟨by omega, by omega, b_9, f_10, q_11, ?_⟩
        refine ⟨(((l_a).getD (i : Int).toNat (0, 0, 0))).2.1, ((i_a).rd g0 q_11 o3 (0, 0, 0) (j := 1) o23).trans rfl, ?_⟩
        refine Br.intro (fun c_12 => ?_) (fun c_12 => ?_)
        · have e := e.trans (cond_t c_12)
          have c_12n := nf_of_t c_12
          rw [laws_heldAtomS_x1_ret]
          rw [e] at hk
          exact hk
        · have e := e.trans (cond_f c_12)
          have c_12n := nt_of_f c_12
          obtain ⟨b_13, f_14, q_15⟩ := ((i_a.grow g0)).pos o4
          refine ⟨by omega, by omega, b_13, f_14, q_15, ?_⟩
          refine ⟨(((l_a).getD (i : Int).toNat (0, 0, 0))).2.2, ((i_a).rd g0 q_15 o3 (0, 0, 0) (j := 2) o23).trans rfl, ?_⟩
          refine Br.intro (fun c_16 => ?_) (fun c_16 => ?_)
          · have e := e.trans (cond_t c_16)
            have c_16n := nf_of_t c_16
            rw [laws_heldAtomS_x1_ret]
            rw [e] at hk
            exact hk
          · have e := e.trans (cond_f c_16)
            have c_16n := nt_of_f c_16
            rw [show IntKind.wrap .i64 (i + 1) = (i + 1) from wrap64 o3 o3]
            refine laws_heldAtomS_n1 (μ - 1) o12 ⟨_, rfl, o1, o1, o12, (by rw [show μ - 1 + 1 = μ from by first | omega]; exact e)⟩
    · have e := e.trans (cond_f c_4)
      have c_4' := of_decide_eq_false c_4
      rw [laws_heldAtomS_x1_0]
      rw [e] at hk
      exact hk
theorem laws_heldAtomS_ok : FnOk Try.prog 49 S_laws_heldAtomS := by
  refine FnOk.body mix_ok E_laws_heldAtomS_ok Try.func49 rfl (by kernel_rfl) (by kernel_rfl) ?_ ?_ ?_ ?_ ?_
  · intro args H K K' h hk
    simp only [S_laws_heldAtomS] at *
    unfold F_laws_heldAtomS at *
    split at hk
    · obtain ⟨l_a, i_a, bd_17, k⟩ := hk
      exact ⟨l_a, i_a, bd_17, h _ _ k⟩
    · exact hk.elim
  · intro _ args H K hk
    simp only [S_laws_heldAtomS] at *
    unfold F_laws_heldAtomS at *
    split at hk
    · obtain ⟨l_a, i_a, bd_17, k⟩ := hk
      exact ⟨_, k, fun K' k' => ⟨l_a, i_a, bd_17, k'⟩⟩
    · exact hk.elim
  · intro args H K hk
    simp only [S_laws_heldAtomS] at *
    unfold F_laws_heldAtomS at *
    split at hk
    · obtain ⟨l_a, i_a, bd_17, k⟩ := hk
      exact ⟨_, _, k⟩
    · exact hk.elim
  · intro hq; cases hq
  · have mm := @laws_heldAtomS_main
    have ml := fun (args : List Value) (H : AHeap) (K : Value → AHeap → Prop) => bodyL_body (P := Try.prog) (env := E_laws_heldAtomS ) (fn := Try.f49) (args := args) (H := H) (K := K) E_laws_heldAtomS_ok 
    revert mm ml
    generalize bodyK Try.prog E_laws_heldAtomS Try.f49 = Q
    generalize bodyL Try.prog E_laws_heldAtomS Try.f49 = QL
    intro mm ml args H K hk
    simp only [S_laws_heldAtomS] at *
    unfold F_laws_heldAtomS at *
    split at hk
    · exact ml _ H K (mm _ _ _ _ H K hk)
    · exact hk.elim

def p_laws_heldFloat32S_l1 (l_a : List Nat) (k : Int) : Nat → Int → Int → Int → Int
  | 0, _, _, _ => 0
  | μ + 1, k_1, t4, i => (bif decide ((i : Int) < (l_a.length : Int)) then (bif !(feq .f32 (((l_a).getD (i : Int).toNat 0)) (FloatKind.nearest .f32 k_1)) then ((-1) : Int) else (p_laws_heldFloat32S_l1 l_a k μ (IntKind.wrap .i64 (k_1 + 1)) t4 (i + 1))) else k_1)
def p_laws_heldFloat32S_l1_s := fun l_a k μ k_1 t4 i => @p_laws_heldFloat32S_l1.eq_2 l_a k k_1 t4 i μ
def p_laws_heldFloat32S (l_a : List Nat) (k : Int) : Int := (p_laws_heldFloat32S_l1 l_a k (Int.toNat ((l_a.length : Int) - (0 : Int)) + 1) k (0 : Int) (0 : Int))
def p_laws_heldFloat32S_eq := @p_laws_heldFloat32S.eq_1
def T_laws_heldFloat32S (a_a : Option Addr) (a_n : Nat) (a_e : Nat) (k : Int) (H : AHeap) (K : Int → AHeap → Prop) : Prop := ∃ (l_a : List Nat), IsL fF H a_a a_n l_a ∧ l_a.length < 1073741824 ∧ K (p_laws_heldFloat32S l_a k) H
theorem T_laws_heldFloat32S_i {a_a : Option Addr} {a_n : Nat} {a_e : Nat} {k : Int} {H : AHeap} {K : Int → AHeap → Prop} (h : ∃ (l_a : List Nat), IsL fF H a_a a_n l_a ∧ l_a.length < 1073741824 ∧ K (p_laws_heldFloat32S l_a k) H) : T_laws_heldFloat32S a_a a_n a_e k H K := h
theorem laws_heldFloat32S_go (k0 : Int) : ∀ (μ : Nat) (i : Nat) (pre : List Nat) (k t : Int) (n : Nat), pre.length = i → n < μ →
    p_laws_heldFloat32S_l1 (pre ++ marks (FloatKind.nearest .f32) k n) k0 μ k t (i : Int) = wk k n := by
  intro μ
  induction μ with
  | zero => intro i pre k t n _ h; omega
  | succ μ ih =>
    intro i pre k t n hp hm
    rw [p_laws_heldFloat32S_l1_s]
    have hl : (pre ++ marks (FloatKind.nearest .f32) k n).length = i + n := by rw [List.length_append, hp, marks_length]
    rw [hl]
    cases n with
    | zero => rw [decide_eq_false (show ¬ (i : Int) < ((i + 0 : Nat) : Int) by omega), cond_false]; rfl
    | succ n =>
      rw [decide_eq_true (show (i : Int) < ((i + (n + 1) : Nat) : Int) by omega), cond_true, Int.toNat_natCast]
      have hx : (pre ++ marks (FloatKind.nearest .f32) k (n + 1)).getD i 0 = (FloatKind.nearest .f32) k := by
        rw [List.getD_eq_getElem?_getD, List.getElem?_append_right o3, hp, Nat.sub_self]; rfl
      rw [hx]
      have hq : (!(feq .f32 (FloatKind.nearest .f32 k) (FloatKind.nearest .f32 k))) = false := by rw [feq_nearest]; rfl
      simp only [hq, cond_false]
      have := ih (i + 1) (pre ++ [(FloatKind.nearest .f32) k]) (IntKind.wrap .i64 (k + 1)) t n (by simp [hp]) o3
      rw [List.append_assoc] at this
      rw [wk]; exact this
theorem laws_heldFloat32S_marks (k : Int) (n : Nat) : p_laws_heldFloat32S (marks (FloatKind.nearest .f32) k n) k = wk k n := by
  rw [p_laws_heldFloat32S_eq]
  have := laws_heldFloat32S_go k (Int.toNat (((marks (FloatKind.nearest .f32) k n).length : Int) - 0) + 1) 0 [] k 0 n rfl (by rw [marks_length]; omega)
  simpa using this
/-! laws_heldFloat32S: function 16 -/
def E_laws_heldFloat32S : Env := envOf []
def F_laws_heldFloat32S : List Value → AHeap → (Value → AHeap → Prop) → Prop
  | [.slice a_a a_n a_e, .int .i64 k], H, K => T_laws_heldFloat32S a_a a_n a_e k H fun (r1 : Int) (H' : AHeap) => K (.int .i64 r1) H'
  | _, _, _ => False
def S_laws_heldFloat32S : FSpec := { F := F_laws_heldFloat32S, quiet := true, tame := false }
theorem laws_heldFloat32S_vc (a_a : Option Addr) (a_n : Nat) (a_e : Nat) (k : Int) (H : AHeap) (K : Value → AHeap → Prop) : bodyL Try.prog E_laws_heldFloat32S Try.f16 [.slice a_a a_n a_e, .int .i64 k] H K =
  (loopK (exL Try.prog E_laws_heldFloat32S (cl (cl (cr (cl (cr (bodyC Try.f16)))))) 35 16 [(0, 2)]) [.slice a_a a_n a_e, .int .i64 k, ud, ud, ud, .int .i64 0, ud, ud, ud, ud, ud, ud, ud, ud, ud, ud, ud, ud, ud, ud, ud, ud] H (blockQ 0 (seqQ (exL Try.prog E_laws_heldFloat32S (cr (cr (bodyC Try.f16))) 16 16 []) (retK Try.prog Try.f16 K)))) := by kernel_rfl
abbrev laws_heldFloat32S_P1 (a_a : Option Addr) (a_e : Nat) (a_n : Nat) (k_1 : Int) (i : Int)  : List Value := [.slice a_a a_n a_e, .int .i64 k_1, ud, ud, ud, .int .i64 i, ud, ud, ud, ud, ud, ud, ud, ud, ud, ud, ud, ud, ud, ud, ud, ud]
theorem laws_heldFloat32S_r1 (a_a : Option Addr) (a_e : Nat) (a_n : Nat) (k_1 : Int) (i : Int)  (H : AHeap) (R : Post) : exL Try.prog E_laws_heldFloat32S (cl (cl (cr (cl (cr (bodyC Try.f16)))))) 35 16 [(0, 2)] (laws_heldFloat32S_P1 a_a a_e a_n k_1 i) H R =
  (Br (decide ((i : Int) < (a_n : Int))) ((0 : Int) ≤ i ∧ i < (a_n : Int) ∧ ∃ b1 f1, (a_a : Option Addr) = some ⟨b1, f1, none⟩ ∧ ∃ x1 : Nat,  rdC H b1 (f1 + (i : Int).toNat * 1) = some (.float .f32 x1) ∧ Br (!(feq .f32 x1 (FloatKind.nearest .f32 k_1))) (R .ret [ud, ud, ud, ud, .int .i64 (-1), ud, ud, ud, ud, ud, ud, ud, ud, ud, ud, ud, ud, ud, ud, ud, ud, ud] H) (R .normal [.slice a_a a_n a_e, .int .i64 (IntKind.wrap .i64 (k_1 + 1)), ud, ud, ud, .int .i64 (IntKind.wrap .i64 (i + 1)), ud, ud, ud, ud, ud, ud, ud, ud, ud, ud, ud, ud, ud, ud, ud, ud] H)) (R (.exit 0) [ud, .int .i64 k_1, ud, ud, ud, ud, ud, ud, ud, ud, ud, ud, ud, ud, ud, ud, ud, ud, ud, ud, ud, ud] H)) := by kernel_rfl
def laws_heldFloat32S_I1 (a_a : Option Addr) (a_e : Nat) (a_n : Nat) (Inv : Nat → Int → Int → AHeap → Prop) : Nat → List Value → AHeap → Prop := fun μ tm H => ∃ (k_1 : Int), ∃ (i : Int), tm = (laws_heldFloat32S_P1 a_a a_e a_n k_1 i) ∧ Inv μ k_1 i H
theorem laws_heldFloat32S_L1 (a_a : Option Addr) (a_e : Nat) (a_n : Nat) {Q : Post} (Inv : Nat → Int → Int → AHeap → Prop) (ν : Nat) (k_1 : Int) (i : Int)  (H : AHeap) (h0 : Inv ν k_1 i H)
    (hs : ∀ (μ : Nat) (k_1 : Int) (i : Int)  (H : AHeap), Inv μ k_1 i H → exL Try.prog E_laws_heldFloat32S (cl (cl (cr (cl (cr (bodyC Try.f16)))))) 35 16 [(0, 2)] (laws_heldFloat32S_P1 a_a a_e a_n k_1 i) H (loopQ (laws_heldFloat32S_I1 a_a a_e a_n Inv) μ Q)) : loopK (exL Try.prog E_laws_heldFloat32S (cl (cl (cr (cl (cr (bodyC Try.f16)))))) 35 16 [(0, 2)]) (laws_heldFloat32S_P1 a_a a_e a_n k_1 i) H Q :=
  ⟨laws_heldFloat32S_I1 a_a a_e a_n Inv, ν, ⟨k_1, i, rfl, h0⟩, fun μ tm H h => by obtain ⟨k_1, i, rfl, hI⟩ := h; exact hs μ k_1 i  H hI⟩
theorem laws_heldFloat32S_n1 {a_a : Option Addr} {a_e : Nat} {a_n : Nat} {Q : Post} {Inv : Nat → Int → Int → AHeap → Prop} {μ : Nat} (μ' : Nat) {k_1 : Int} {i : Int}  {H : AHeap} (hm : μ' < μ) (hI : Inv μ' k_1 i H) : loopQ (laws_heldFloat32S_I1 a_a a_e a_n Inv) μ Q .normal (laws_heldFloat32S_P1 a_a a_e a_n k_1 i) H := ⟨μ', hm, k_1, i, rfl, hI⟩
theorem laws_heldFloat32S_x1_0 (k_1 : Int) (H : AHeap) (K : Value → AHeap → Prop)  {I : Nat → List Value → AHeap → Prop} {μ : Nat} : loopQ I μ (blockQ 0 (seqQ (exL Try.prog E_laws_heldFloat32S (cr (cr (bodyC Try.f16))) 16 16 []) (retK Try.prog Try.f16 K))) (.exit 0) [ud, .int .i64 k_1, ud, ud, ud, ud, ud, ud, ud, ud, ud, ud, ud, ud, ud, ud, ud, ud, ud, ud, ud, ud] H =
  (K (.int .i64 k_1) H) := by kernel_rfl
theorem laws_heldFloat32S_x1_ret (t4 : Int) (H : AHeap) (K : Value → AHeap → Prop)  {I : Nat → List Value → AHeap → Prop} {μ : Nat} : loopQ I μ (blockQ 0 (seqQ (exL Try.prog E_laws_heldFloat32S (cr (cr (bodyC Try.f16))) 16 16 []) (retK Try.prog Try.f16 K))) .ret [ud, ud, ud, ud, .int .i64 t4, ud, ud, ud, ud, ud, ud, ud, ud, ud, ud, ud, ud, ud, ud, ud, ud, ud] H =
  (K (.int .i64 t4) H) := by kernel_rfl
theorem E_laws_heldFloat32S_ok : ∀ g, FnOk Try.prog g (E_laws_heldFloat32S g) := FnOk.envOf (by
  intro x hx; cases hx)
set_option maxHeartbeats 1000000 in
theorem laws_heldFloat32S_main (a_a : Option Addr) (a_n : Nat) (a_e : Nat) (k : Int) (H : AHeap) (K : Value → AHeap → Prop) (h : T_laws_heldFloat32S a_a a_n a_e k H fun (r1 : Int) (H' : AHeap) => K (.int .i64 r1) H') : bodyL Try.prog E_laws_heldFloat32S Try.f16 [.slice a_a a_n a_e, .int .i64 k] H K := by
  rw [laws_heldFloat32S_vc]
  obtain ⟨l_a, i_a, bd_9, hk⟩ := h
  obtain rfl := i_a.eqn
  have e : (p_laws_heldFloat32S l_a k) = _ := rfl
  have e := e.trans (p_laws_heldFloat32S_eq l_a k)
  have g0 := Grow.refl H
  refine laws_heldFloat32S_L1 _ _ _ (fun (μ : Nat) (k_1 : Int) (i : Int) (H_1 : AHeap) => ∃ (t4 : Int), H = H_1 ∧ (0 : Int) ≤ i ∧ i ≤ (l_a.length : Int) ∧ (l_a.length : Int) - i ≤ (μ : Int) ∧ p_laws_heldFloat32S l_a k = p_laws_heldFloat32S_l1 l_a k (μ + 1) k_1 t4 i) (Int.toNat ((l_a.length : Int) - (0 : Int))) _ _ H ?_ ?_
  · exact ⟨_, rfl, o6, o6, o3, e⟩
  · intro μ k_1 i  H_1 hI
    obtain ⟨t4, rfl, v_1, v_2, hμ, e⟩ := hI
    rw [laws_heldFloat32S_r1]
    have e := e.trans (p_laws_heldFloat32S_l1_s l_a k μ k_1 t4 i)
    have l_3 := g0.1
    refine Br.intro (fun c_4 => ?_) (fun c_4 => ?_)
    · have e := e.trans (cond_t c_4)
      have c_4' := of_decide_eq_true c_4
      obtain ⟨b_5, f_6, q_7⟩ := ((i_a.grow g0)).pos o0
      refine ⟨by omega, by omega, b_5, f_6, q_7, ?_⟩
      refine ⟨((l_a).getD (i : Int).toNat 0), (i_a).rd g0 q_7 o3 _, ?_⟩
      refine Br.intro (fun c_8 => ?_) (fun c_8 => ?_)
      · have e := e.trans (cond_t c_8)
        have c_8n := nf_of_t c_8
        rw [laws_heldFloat32S_x1_ret]
        rw [e] at hk
        exact hk
      · have e := e.trans (cond_f c_8)
        have c_8n := nt_of_f c_8
        rw [show IntKind.wrap .i64 (i + 1) = (i + 1) from wrap64 o3 o3]
        refine laws_heldFloat32S_n1 (μ - 1) o12 ⟨_, rfl, o1, o1, o12, (by rw [show μ - 1 + 1 = μ from by first | omega]; exact e)⟩
    · have e := e.trans (cond_f c_4)
      have c_4' := of_decide_eq_false c_4
      rw [laws_heldFloat32S_x1_0]
      rw [e] at hk
      exact hk
theorem laws_heldFloat32S_ok : FnOk Try.prog 16 S_laws_heldFloat32S := by
  refine FnOk.body mix_ok E_laws_heldFloat32S_ok Try.func16 rfl (by kernel_rfl) (by kernel_rfl) ?_ ?_ ?_ ?_ ?_
  · intro args H K K' h hk
    simp only [S_laws_heldFloat32S] at *
    unfold F_laws_heldFloat32S at *
    split at hk
    · obtain ⟨l_a, i_a, bd_9, k⟩ := hk
      exact ⟨l_a, i_a, bd_9, h _ _ k⟩
    · exact hk.elim
  · intro _ args H K hk
    simp only [S_laws_heldFloat32S] at *
    unfold F_laws_heldFloat32S at *
    split at hk
    · obtain ⟨l_a, i_a, bd_9, k⟩ := hk
      exact ⟨_, k, fun K' k' => ⟨l_a, i_a, bd_9, k'⟩⟩
    · exact hk.elim
  · intro args H K hk
    simp only [S_laws_heldFloat32S] at *
    unfold F_laws_heldFloat32S at *
    split at hk
    · obtain ⟨l_a, i_a, bd_9, k⟩ := hk
      exact ⟨_, _, k⟩
    · exact hk.elim
  · intro hq; cases hq
  · have mm := @laws_heldFloat32S_main
    have ml := fun (args : List Value) (H : AHeap) (K : Value → AHeap → Prop) => bodyL_body (P := Try.prog) (env := E_laws_heldFloat32S ) (fn := Try.f16) (args := args) (H := H) (K := K) E_laws_heldFloat32S_ok 
    revert mm ml
    generalize bodyK Try.prog E_laws_heldFloat32S Try.f16 = Q
    generalize bodyL Try.prog E_laws_heldFloat32S Try.f16 = QL
    intro mm ml args H K hk
    simp only [S_laws_heldFloat32S] at *
    unfold F_laws_heldFloat32S at *
    split at hk
    · exact ml _ H K (mm _ _ _ _ H K hk)
    · exact hk.elim

def p_laws_FnExactPursue (l_aList : List Nat) (l_aScales : List Nat) (aCount : Int) : Bool := ((bif decide ((1048576 : Int) < (l_aList.length : Int)) then true else (bif decide ((1048576 : Int) < (l_aScales.length : Int)) then true else (bif !((p_laws_eqAtomS ((p_impl_Pursue l_aList l_aScales aCount).1) ((p_spec_Pursue l_aList l_aScales aCount).1))) then false else (bif !((p_laws_eqFloat32S ((p_impl_Pursue l_aList l_aScales aCount).2.1) ((p_spec_Pursue l_aList l_aScales aCount).2.1))) then false else (bif !(((p_impl_Pursue l_aList l_aScales aCount).2.2) == ((p_spec_Pursue l_aList l_aScales aCount).2.2)) then false else (bif !(p_laws_eqFloat32S l_aList l_aList) then false else (bif !(p_laws_eqFloat32S l_aScales l_aScales) then false else (bif decide (((wk ((wk (1 : Int) l_aList.length)) l_aScales.length) : Int) < 0) then false else (bif !((p_laws_eqAtomS ((p_impl_Pursue l_aList l_aScales aCount).1) ((p_spec_Pursue l_aList l_aScales aCount).1))) then false else (bif !((p_laws_eqFloat32S ((p_impl_Pursue l_aList l_aScales aCount).2.1) ((p_spec_Pursue l_aList l_aScales aCount).2.1))) then false else (bif !(((p_impl_Pursue l_aList l_aScales aCount).2.2) == ((p_spec_Pursue l_aList l_aScales aCount).2.2)) then false else (bif decide (((p_laws_heldAtomS ((marksA (1 : Int) ((p_impl_Pursue l_aList l_aScales aCount).1).length)) (1 : Int)) : Int) < 0) then false else (bif decide (((p_laws_heldFloat32S ((marks (FloatKind.nearest .f32) ((wkA (1 : Int) ((p_impl_Pursue l_aList l_aScales aCount).1).length)) ((p_impl_Pursue l_aList l_aScales aCount).2.1).length)) ((p_laws_heldAtomS ((marksA (1 : Int) ((p_impl_Pursue l_aList l_aScales aCount).1).length)) (1 : Int)))) : Int) < 0) then false else (bif ((p_laws_heldFloat32S ((marks (FloatKind.nearest .f32) ((wkA (1 : Int) ((p_impl_Pursue l_aList l_aScales aCount).1).length)) ((p_impl_Pursue l_aList l_aScales aCount).2.1).length)) ((p_laws_heldAtomS ((marksA (1 : Int) ((p_impl_Pursue l_aList l_aScales aCount).1).length)) (1 : Int)))) : Int) != (wk ((wkA (1 : Int) ((p_impl_Pursue l_aList l_aScales aCount).1).length)) ((p_impl_Pursue l_aList l_aScales aCount).2.1).length) then false else (bif !((p_laws_eqAtomS ((p_impl_Pursue l_aList l_aScales aCount).1) ((p_spec_Pursue l_aList l_aScales aCount).1))) then false else (bif !((p_laws_eqFloat32S ((p_impl_Pursue l_aList l_aScales aCount).2.1) ((p_spec_Pursue l_aList l_aScales aCount).2.1))) then false else (bif !(((p_impl_Pursue l_aList l_aScales aCount).2.2) == ((p_spec_Pursue l_aList l_aScales aCount).2.2)) then false else (bif decide (((p_laws_heldAtomS ((marksA (1 : Int) ((p_impl_Pursue l_aList l_aScales aCount).1).length)) (1 : Int)) : Int) < 0) then false else (bif decide (((p_laws_heldFloat32S ((marks (FloatKind.nearest .f32) ((wkA (1 : Int) ((p_impl_Pursue l_aList l_aScales aCount).1).length)) ((p_impl_Pursue l_aList l_aScales aCount).2.1).length)) ((p_laws_heldAtomS ((marksA (1 : Int) ((p_impl_Pursue l_aList l_aScales aCount).1).length)) (1 : Int)))) : Int) < 0) then false else (bif ((p_laws_heldFloat32S ((marks (FloatKind.nearest .f32) ((wkA (1 : Int) ((p_impl_Pursue l_aList l_aScales aCount).1).length)) ((p_impl_Pursue l_aList l_aScales aCount).2.1).length)) ((p_laws_heldAtomS ((marksA (1 : Int) ((p_impl_Pursue l_aList l_aScales aCount).1).length)) (1 : Int)))) : Int) != (wk ((wkA (1 : Int) ((p_impl_Pursue l_aList l_aScales aCount).1).length)) ((p_impl_Pursue l_aList l_aScales aCount).2.1).length) then false else true)))))))))))))))))))))
def p_laws_FnExactPursue_eq := @p_laws_FnExactPursue.eq_1
def T_laws_FnExactPursue (aList_a : Option Addr) (aList_n : Nat) (aList_e : Nat) (aScales_a : Option Addr) (aScales_n : Nat) (aScales_e : Nat) (aCount : Int) (H : AHeap) (K : Bool → AHeap → Prop) : Prop := ∃ l_aList : List Nat, ∃ l_aScales : List Nat, IsL fF H aList_a aList_n l_aList ∧ (∀ y ∈ l_aList, W32 y) ∧ l_aList.length ≤ 9223372036854775807 ∧ IsL fF H aScales_a aScales_n l_aScales ∧ (∀ y ∈ l_aScales, W32 y) ∧ l_aScales.length ≤ 9223372036854775807 ∧ I64 aCount ∧ ∀ H' : AHeap, K true H'
theorem exp_sq (y y' P P' K : Nat) (k : Int) : ∀ (μ p : Nat) (i : Int), p_impl_expWide_l2 y P K (fun (p : Nat) (t : Int) => p) μ p i = p_spec_l01ExpWide_l2 y' P' k (fun (p : Nat) (t : Int) => p) μ p i := by
  intro μ
  induction μ with
  | zero => intro p i; rfl
  | succ μ ih => intro p i; rw [p_impl_expWide_l2_s, p_spec_l01ExpWide_l2_s, ih]
theorem exp_ser (y : Nat) : ∀ (μ p : Nat) (n : Int), n ≤ 12 → -1 ≤ n → p_impl_expWide_l1 y μ p (FloatKind.nearest .f64 n) = p_spec_l01ExpWide_l1 y μ p n := by
  intro μ
  induction μ with
  | zero => intro p n _ _; rfl
  | succ μ ih =>
    intro p n h1 h0
    have c := cnt_at (n := n) o3 o3
    rw [p_impl_expWide_l1_s, p_spec_l01ExpWide_l1_s, c.2.1]
    by_cases hc : (1 : Int) ≤ n
    · rw [decide_eq_true hc, cond_true, cond_true, c.2.2.1, ih _ (n - 1) o3 o3]
    · rw [decide_eq_false hc, cond_false, cond_false, exp_sq y y p p _ n]
theorem expWide_same {y : Nat} (hy : Wd .f64 y) : p_impl_expWide y = p_spec_l01ExpWide y := by
  by_cases hn : (FloatKind.f64.format.read y).isNaN = true
  · have e : y = qnan .f64 := by rw [← hy.2]; exact cn_of_nan hn
    rw [e]; decide +kernel
  · have hn : (FloatKind.f64.format.read y).isNaN = false := by simpa using hn
    rw [p_impl_expWide_eq, p_spec_l01ExpWide_eq, feq_self hn, Bool.not_true, cond_false]
    have e1 : Int.toNat (cnt 4622945017495814144) + 1 = Int.toNat ((12 : Int) - 1 + 1) + 1 := by decide +kernel
    have e5 : (4622945017495814144 : Nat) = FloatKind.nearest .f64 12 := by decide +kernel
    have := exp_ser y (Int.toNat ((12 : Int) - 1 + 1) + 1) 4607182418800017408 12 o23 o23
    rw [← e5] at this
    rw [e1, this]
theorem exp_same (x : Nat) : p_impl_ExpNumber x = p_spec_l01Exp x := by
  rw [p_impl_ExpNumber_eq, p_spec_l01Exp_eq, p_spec_l01Narrow_eq, p_impl_expOf_eq, expWide_same (wide_wd x)]
theorem abs_sv {x : Nat} (h : fin .f64 x = true) : fin .f64 (p_math_Abs x) = true ∧ sv .f64 (p_math_Abs x) = ((sv .f64 x).natAbs : Int) := by
  obtain ⟨s, m, e, hr⟩ := fin_num h
  have hm := read_mod hr
  rw [show FloatKind.f64.format.signWeight = 9223372036854775808 by decide] at hm
  have ea : p_math_Abs x = x % 9223372036854775808 := by
    unfold p_math_Abs
    rw [cn_of_not_nan (fin_nn h), cn_of_not_nan (show (FloatKind.f64.decode _).isNaN = false from by show (FloatKind.f64.format.read _).isNaN = false; rw [hm]; rfl)]
  rw [ea]
  unfold fin sv
  rw [hm, hr]
  refine ⟨rfl, ?_⟩
  simp only []
  rw [signed_natAbs, signed_eq, if_neg o23, Nat.shiftLeft_eq]
theorem abs_cond {x : Nat} (h : fin .f64 x = true) : fle .f64 4841369599423283200 (p_math_Abs x) = (fle .f64 4841369599423283200 x || fle .f64 x 14064741636278059008) := by
  obtain ⟨A, -, hs⟩ := two52_sv
  obtain ⟨h1, h2⟩ := abs_sv h
  rw [fle_fin two52_fin h1, fle_fin two52_fin h, mtwo52_eq, fle_fin h (fin_neg two52_fin), sv_neg two52_fin, h2, hs]
  have hp := Nat.two_pow_pos A
  generalize 2 ^ A = a at *
  generalize sv .f64 x = v at *
  by_cases c1 : (a : Int) ≤ v
  · rw [decide_eq_true c1, decide_eq_true o3]; rfl
  · by_cases c2 : v ≤ -(a : Int)
    · rw [decide_eq_true c2, decide_eq_true o3, Bool.or_true]
    · rw [decide_eq_false c1, decide_eq_false c2, decide_eq_false o3]; rfl
theorem sine_same {f : Nat} (h : Bd .f64 (1 + lp .f64) f) : p_spec_l01SineWide f = p_impl_sine f := by
  rw [spec_sine_val f (h.mono o3) (in52 h), impl_sine_val]; rfl
theorem phasor_go (t : Nat) : ∀ (μ f : Nat) (q : Int), Bd .f64 (lp .f64) f → p_impl_PhasorOf_l1 t μ f q = p_spec_l01Phasor_l1 t μ f q := by
  intro μ
  induction μ with
  | zero => intro f q _; rfl
  | succ μ ih =>
    intro f q hb
    rw [p_impl_PhasorOf_l1_s, p_spec_l01Phasor_l1_s, sine_same (lp_up1 hb), sine_same (rest_bd1 hb)]
    simp only [p_spec_l01Narrow_eq]
    cases hc : fle .f64 4598175219545276416 f
    · rfl
    · simp only [cond_true]; exact ih _ _ (qm_step hb hc).1
theorem nan_same : (((fnarrow p_math_NaN).getD 0), ((fnarrow p_math_NaN).getD 0)) = ((p_spec_l01From (2143289344 : Int)), (p_spec_l01From (2143289344 : Int))) := by decide +kernel
theorem phasor_bad {t : Nat} (hf : fin .f64 t = false) : p_impl_PhasorOf t = p_spec_l01Phasor t := by
  rw [p_impl_PhasorOf_eq, p_spec_l01Phasor_eq, fin_asked, show p_impl_isFinite64 t = fin .f64 t from fin_asked t, hf, Bool.not_false]
  exact (cond_t rfl).trans (nan_same.trans (cond_t rfl).symm)
theorem phasor_mix {α : Type} (a b : Bool) (one X Y : α) (h : a = false → b = false → X = Y) : (bif (a || b) then one else X) = (bif a then one else (bif b then one else Y)) := by
  cases a
  · cases b
    · exact h rfl rfl
    · rfl
  · rfl
theorem phasor_mix2 (L : Nat → Nat → Int → Nat × Nat) (Q : Nat → Nat) (c : Bool) (x y : Nat) : L (Q (bif c then x else y)) (bif c then x else y) 0 = (bif c then L (Q x) x 0 else L (Q y) y 0) := by
  cases c <;> rfl
theorem phasor_fin {t : Nat} (hf : fin .f64 t = true) : p_impl_PhasorOf t = p_spec_l01Phasor t := by
  rw [p_impl_PhasorOf_eq, p_spec_l01Phasor_eq, fin_asked, show p_impl_isFinite64 t = fin .f64 t from fin_asked t, hf, Bool.not_true, abs_cond hf]
  refine (cond_f rfl).trans (Eq.trans ?_ (cond_f rfl).symm)
  refine phasor_mix _ _ _ _ _ (fun h1 h2 => ?_)
  have hb := wide_in (by rw [fin_asked]; exact hf) h1 h2
  rw [phasor_go t _ _ _ (impl_fraction_bd t hb), p_impl_fraction_eq]
  exact phasor_mix2 (p_spec_l01Phasor_l1 t) (fun g => Int.toNat (qm g) + 1) _ _ _
theorem phasor_same (t : Nat) : p_impl_PhasorOf t = p_spec_l01Phasor t := by
  cases hf : fin .f64 t
  · exact phasor_bad hf
  · exact phasor_fin hf
/-- How far, as the program says it. -/
def kR (x : Nat) : Int := (ftoi .f64 (p_math_Ceil (fwide (fmul .f32 1077936128 x))) .i64).getD 0
theorem kernel_go (x : Nat) : ∀ (μ ν : Nat) (o : List (Nat × Nat)) (k : Int), (2 * kR x + 1 - k).toNat < μ → (2 * kR x + 1 - k).toNat < ν →
    p_impl_kernel_l1 x μ o k = (p_spec_l03Kernel_l1 x ν o k, kR x) ∧ (p_spec_l03Kernel_l1 x ν o k).length = o.length + (2 * kR x + 1 - k).toNat := by
  intro μ
  induction μ with
  | zero => intro ν o k h; omega
  | succ μ ih =>
    intro ν o k h1 h2
    obtain _ | ν := ν
    · omega
    rw [p_impl_kernel_l1_s, p_spec_l03Kernel_l1_s]
    simp only [phasor_same, exp_same]
    rw [show (ftoi .f64 (p_math_Ceil (fwide (fmul .f32 1077936128 x))) .i64).getD 0 = kR x from rfl]
    by_cases hk : k < 2 * kR x + 1
    · rw [decide_eq_true hk, decide_eq_true (show k ≤ 2 * kR x by omega), cond_true, cond_true]
      obtain ⟨a, b⟩ := ih ν (o ++ [((p_spec_l01Scale ((p_spec_l01Phasor (fwide (fdiv .f32 (FloatKind.nearest .f32 ((k - kR x))) x))).1) ((p_spec_l01Phasor (fwide (fdiv .f32 (FloatKind.nearest .f32 ((k - kR x))) x))).2) (fdiv .f32 ((p_spec_l01Exp (fmul .f32 (fmul .f32 3204448256 (fdiv .f32 (FloatKind.nearest .f32 ((k - kR x))) x)) (fdiv .f32 (FloatKind.nearest .f32 ((k - kR x))) x)))) x)).1, (p_spec_l01Scale ((p_spec_l01Phasor (fwide (fdiv .f32 (FloatKind.nearest .f32 ((k - kR x))) x))).1) ((p_spec_l01Phasor (fwide (fdiv .f32 (FloatKind.nearest .f32 ((k - kR x))) x))).2) (fdiv .f32 ((p_spec_l01Exp (fmul .f32 (fmul .f32 3204448256 (fdiv .f32 (FloatKind.nearest .f32 ((k - kR x))) x)) (fdiv .f32 (FloatKind.nearest .f32 ((k - kR x))) x)))) x)).2)]) (k + 1) o3 o3
      exact ⟨a, b.trans o25⟩
    · rw [decide_eq_false hk, decide_eq_false (show ¬ k ≤ 2 * kR x by omega), cond_false, cond_false]
      exact ⟨rfl, by omega⟩
theorem kernel_same (x : Nat) : p_impl_kernel x = (p_spec_l03Kernel x, kR x) ∧ (p_spec_l03Kernel x).length = (2 * kR x + 1).toNat := by
  rw [p_impl_kernel_eq, p_spec_l03Kernel_eq]
  rw [show (ftoi .f64 (p_math_Ceil (fwide (fmul .f32 1077936128 x))) .i64).getD 0 = kR x from rfl]
  obtain ⟨a, b⟩ := kernel_go x (Int.toNat (2 * kR x + 1 - 0) + 1) (Int.toNat (2 * kR x - 0 + 1) + 1) [] 0 o3 o3
  exact ⟨a, b.trans (by simp)⟩
theorem sqrt_eq (x : Nat) : p_impl_RootNumber x = p_spec_l01Sqrt x := rfl
theorem spec_fin (x : Nat) : p_spec_l01Finite x = fin .f32 x := fin_asked x
theorem impl_fin (x : Nat) : p_impl_IsFinite x = fin .f32 x := fin_asked x
theorem w32_wd {x : Nat} (h : W32 x) : Wd .f32 x := ⟨h.1, h.2⟩
theorem wd_w32 {x : Nat} (h : Wd .f32 x) : W32 x := ⟨h.1, h.2⟩
theorem l02Finite_go (l : List Nat) : ∀ (μ : Nat) (t : Bool) (i : Nat), l.length - i < μ → p_spec_l02Finite_l1 l μ t (i : Int) = (l.drop i).all (fin .f32) := by
  intro μ
  induction μ with
  | zero => intro t i h; omega
  | succ μ ih =>
    intro t i hm
    rw [p_spec_l02Finite_l1_s]
    by_cases h : i < l.length
    · rw [decide_eq_true (show (i : Int) < (l.length : Int) by omega), cond_true, Int.toNat_natCast, spec_fin]
      rw [List.drop_eq_getElem_cons h, List.all_cons, List.getD_eq_getElem?_getD, List.getElem?_eq_getElem h, Option.getD_some]
      have := ih t (i + 1) o3
      cases fin .f32 l[i]
      · rfl
      · simp only [Bool.not_true, cond_false, Bool.true_and]; exact this
    · rw [decide_eq_false (show ¬ (i : Int) < (l.length : Int) by omega), cond_false, List.drop_eq_nil_of_le o3]; rfl
theorem l02Finite_all (l : List Nat) : p_spec_l02Finite l = l.all (fin .f32) := by
  rw [p_spec_l02Finite_eq]
  have := l02Finite_go l (Int.toNat ((l.length : Int) - (0 : Int)) + 1) false 0 o3
  simpa using this
theorem areFinite_in (ls : List (List Nat)) (t2 : Bool) (t9 : Int) (k : Bool → Int → Bool) : ∀ (μ : Nat) (t : Bool) (i : Nat), i ≤ (ls.getD t9.toNat []).length → (ls.getD t9.toNat []).length - i < μ →
    p_impl_areFinite_l2 ls t2 t9 k μ t (i : Int) = bif ((ls.getD t9.toNat []).drop i).all (fin .f32) then k t ((ls.getD t9.toNat []).length : Int) else false := by
  intro μ
  generalize hl : ls.getD t9.toNat [] = l
  induction μ with
  | zero => intro t i _ h; omega
  | succ μ ih =>
    intro t i hi hm
    rw [p_impl_areFinite_l2_s, hl]
    by_cases h : i < l.length
    · rw [decide_eq_true (show (i : Int) < (l.length : Int) by omega), cond_true, Int.toNat_natCast, impl_fin]
      rw [List.drop_eq_getElem_cons h, List.all_cons, List.getD_eq_getElem?_getD, List.getElem?_eq_getElem h, Option.getD_some]
      have := ih t (i + 1) o3 o3
      cases fin .f32 l[i]
      · rfl
      · simp only [Bool.not_true, cond_false, Bool.true_and]; exact this
    · rw [decide_eq_false (show ¬ (i : Int) < (l.length : Int) by omega), cond_false, List.drop_eq_nil_of_le o3, show i = l.length by omega]; rfl
theorem areFinite_go (ls : List (List Nat)) : ∀ (μ : Nat) (t : Bool) (i : Nat), ls.length - i < μ → p_impl_areFinite_l1 ls μ t (i : Int) = (ls.drop i).all (fun l => l.all (fin .f32)) := by
  intro μ
  induction μ with
  | zero => intro t i h; omega
  | succ μ ih =>
    intro t i hm
    rw [p_impl_areFinite_l1_s]
    by_cases h : i < ls.length
    · rw [decide_eq_true (show (i : Int) < (ls.length : Int) by omega), cond_true]
      have := areFinite_in ls t (i : Int) (fun t2 t15 => p_impl_areFinite_l1 ls μ t2 ((i : Int) + 1)) (Int.toNat ((((ls).getD ((i : Int) : Int).toNat []).length : Int) - (0 : Int)) + 1) t 0 (Nat.zero_le _) o3
      refine Eq.trans this ?_
      rw [Int.toNat_natCast, List.drop_zero, List.drop_eq_getElem_cons h, List.all_cons, List.getD_eq_getElem?_getD, List.getElem?_eq_getElem h, Option.getD_some]
      have := ih t (i + 1) o3
      cases ls[i].all (fin .f32)
      · rfl
      · simp only [cond_true, Bool.true_and]; exact this
    · rw [decide_eq_false (show ¬ (i : Int) < (ls.length : Int) by omega), cond_false, List.drop_eq_nil_of_le o3]; rfl
theorem areFinite_all (ls : List (List Nat)) : p_impl_areFinite ls = ls.all (fun l => l.all (fin .f32)) := by
  rw [p_impl_areFinite_eq]
  have := areFinite_go ls (Int.toNat ((ls.length : Int) - (0 : Int)) + 1) false 0 o3
  simpa using this
theorem finite_same (l : List Nat) : p_impl_areFinite [l] = p_spec_l02Finite l := by rw [areFinite_all, l02Finite_all]; simp
theorem energy_go (a : List Nat) : ∀ (μ : Nat) (s : Nat) (t : Int), p_impl_squares_l1 a μ s t = p_spec_l03Energy_l1 a μ s t := by
  intro μ
  induction μ with
  | zero => intro s t; unfold p_impl_squares_l1 p_spec_l03Energy_l1; rfl
  | succ μ ih =>
    intro s t
    rw [p_impl_squares_l1_s, p_spec_l03Energy_l1_s, ih]
theorem energy_same (a : List Nat) : p_impl_squares a = p_spec_l03Energy a := by
  rw [p_impl_squares_eq, p_spec_l03Energy_eq, energy_go]
theorem atom_l2 (l : List Nat) (r c p : Int) (s z : Nat) (t i0 : Int) (A : List Nat) (hA : (c).toNat = A.length) : ∀ (μ : Nat) (i : Int) (y : List Nat),
    p_impl_atomBy_l2 l r c p z t A (fun (t50 : Int) (y2_1 : List Nat) => y2_1) μ i y = p_spec_l05Of_l2 c p s z A i0 (fun (t54 : Int) (y2_1 : List Nat) => y2_1) μ i y := by
  intro μ
  induction μ with
  | zero => intro i y; rfl
  | succ μ ih =>
    intro i y
    rw [p_impl_atomBy_l2_s, p_spec_l05Of_l2_s, hA, energy_same, sqrt_eq, ih]
theorem set_app (A : List Nat) (m v : Nat) : (A ++ List.replicate (m + 1) 0).set A.length v = (A ++ [v]) ++ List.replicate m 0 := by
  rw [List.set_append_right _ _ (Nat.le_refl _), Nat.sub_self, List.replicate_succ, List.set_cons_zero, List.append_assoc]; rfl
theorem keep_app (A : List Nat) (m : Nat) : (A ++ List.replicate (m + 1) 0) = (A ++ [0]) ++ List.replicate m 0 := by
  rw [List.replicate_succ, List.append_assoc]; rfl
theorem atom_l1 (c p : Int) (s z : Nat) : ∀ (μ ν : Nat) (A : List Nat), A.length ≤ c.toNat → c.toNat - A.length < μ → c.toNat - A.length < ν → 0 ≤ c →
    p_impl_atomBy_l1 ((p_spec_l03Kernel s).map Prod.fst) (kR s) c p z μ (A.length : Int) (A ++ List.replicate (c.toNat - A.length) 0) = p_spec_l05Of_l1 c p s z ν A (A.length : Int) := by
  intro μ
  induction μ with
  | zero => intro ν A h1 h2; omega
  | succ μ ih =>
    intro ν A h1 h2 h3 h0
    obtain _ | ν := ν
    · omega
    rw [p_impl_atomBy_l1_s, p_spec_l05Of_l1_s]
    obtain ⟨-, hlen⟩ := kernel_same s
    by_cases hc : (A.length : Int) < c
    · rw [decide_eq_true (show (A.length : Int) < ((c).toNat : Int) by omega), decide_eq_true hc, cond_true, cond_true]
      obtain ⟨m, hm⟩ : ∃ m, c.toNat - A.length = m + 1 := ⟨c.toNat - A.length - 1, by omega⟩
      have step : ∀ v : Nat, p_impl_atomBy_l1 ((p_spec_l03Kernel s).map Prod.fst) (kR s) c p z μ ((A.length : Int) + 1) ((A ++ [v]) ++ List.replicate m 0) = p_spec_l05Of_l1 c p s z ν (A ++ [v]) ((A.length : Int) + 1) := by
        intro v
        have := ih ν (A ++ [v]) o25 o25 o25 h0
        rw [List.length_append, List.length_singleton, show c.toNat - (A.length + 1) = m by omega] at this
        exact this
      rw [List.length_map, Int.toNat_natCast, hm, set_app]
      by_cases hR : 0 ≤ kR s
      · have ht : Int.tdiv (((p_spec_l03Kernel s).length : Int)) 2 = kR s := by
          rw [hlen, Int.tdiv_eq_ediv_of_nonneg o3]; omega
        rw [ht]
        generalize hk : ((A.length : Int) - p) + kR s = k at *
        by_cases k0 : 0 ≤ k
        · by_cases k1 : k < ((p_spec_l03Kernel s).length : Int)
          · have hin : p_spec_l00In k 0 ((((p_spec_l03Kernel s).length : Int)) - 1) = true := by
              rw [p_spec_l00In_eq, decide_eq_true k0, cond_true]; exact decide_eq_true o3
            rw [decide_eq_true k0, decide_eq_true k1, cond_true, cond_true, hin, cond_true]
            have hg : ((p_spec_l03Kernel s).map Prod.fst).getD k.toNat 0 = ((p_spec_l03Kernel s).getD k.toNat (0, 0)).1 := by
              have hk' : k.toNat < (p_spec_l03Kernel s).length := by omega
              rw [List.getD_eq_getElem?_getD, List.getD_eq_getElem?_getD, List.getElem?_map, List.getElem?_eq_getElem hk']; rfl
            rw [hg]
            exact step _
          · have hin : p_spec_l00In k 0 ((((p_spec_l03Kernel s).length : Int)) - 1) = false := by
              rw [p_spec_l00In_eq, decide_eq_true k0, cond_true]; exact decide_eq_false o3
            rw [decide_eq_true k0, decide_eq_false k1, cond_true, cond_false, hin, cond_false, keep_app]
            exact step _
        · have hin : p_spec_l00In k 0 ((((p_spec_l03Kernel s).length : Int)) - 1) = false := by
            rw [p_spec_l00In_eq, decide_eq_false k0, cond_false]
          rw [decide_eq_false k0, cond_false, hin, cond_false, keep_app]
          exact step _
      · have hz : (p_spec_l03Kernel s).length = 0 := by rw [hlen]; omega
        have hin : ∀ k : Int, p_spec_l00In k 0 ((((p_spec_l03Kernel s).length : Int)) - 1) = false := by
          intro k
          rw [p_spec_l00In_eq, hz]
          by_cases k0 : 0 ≤ k
          · rw [decide_eq_true k0, cond_true]; exact decide_eq_false o3
          · rw [decide_eq_false k0, cond_false]
        have hno : ∀ k : Int, ∀ (X Y : List Nat), (bif decide ((0 : Int) ≤ k) then (bif decide (k < ((p_spec_l03Kernel s).length : Int)) then X else Y) else Y) = Y := by
          intro k X Y
          rw [hz]
          by_cases k0 : 0 ≤ k
          · rw [decide_eq_true k0, decide_eq_false o3]; rfl
          · rw [decide_eq_false k0]; rfl
        rw [hin, cond_false, hno, keep_app]
        exact step _
    · rw [decide_eq_false (show ¬ (A.length : Int) < ((c).toNat : Int) by omega), decide_eq_false hc, cond_false, cond_false]
      have e : c.toNat = A.length := by omega
      rw [show c.toNat - A.length = 0 by omega, List.replicate_zero, List.append_nil, atom_l2 _ _ c p s z _ (A.length : Int) A e, e]
theorem atomBy_same (c p : Int) (s z : Nat) (h0 : 0 ≤ c) : p_impl_atomBy (p_impl_realKernel s).1 (p_impl_realKernel s).2 c p z = p_spec_l05Of c p s z := by
  obtain ⟨hk, -⟩ := kernel_same s
  rw [impl_realKernel_val, hk, p_impl_atomBy_eq, p_spec_l05Of_eq]
  have := atom_l1 c p s z (Int.toNat (((c).toNat : Int) - (0 : Int)) + 1) (Int.toNat (c - (0 : Int)) + 1) [] (Nat.zero_le _) (by simp only [List.length_nil]; omega) (by simp only [List.length_nil]; omega) h0
  rw [List.length_nil, Nat.sub_zero, List.nil_append] at this
  exact this
theorem long_same (l : List Nat) : p_impl_isLong l = p_spec_l03Long l := by
  rw [p_impl_isLong_eq, p_spec_l03Long_eq, finite_same]
  unfold p_impl_within
  cases decide ((1 : Int) ≤ (l.length : Int)) <;> cases decide (((l.length : Int) : Int) ≤ 128) <;> rfl
theorem long_t {l : List Nat} (h : p_spec_l03Long l = true) : 1 ≤ l.length ∧ l.length ≤ 128 ∧ l.all (fin .f32) = true := by
  rw [p_spec_l03Long_eq, l02Finite_all] at h
  by_cases h1 : (1 : Int) ≤ (l.length : Int)
  · rw [decide_eq_true h1, cond_true] at h
    by_cases h2 : (l.length : Int) ≤ 128
    · rw [decide_eq_true h2, cond_true] at h; exact ⟨by omega, by omega, h⟩
    · rw [decide_eq_false h2] at h; cases h
  · rw [decide_eq_false h1] at h; cases h
theorem fin_getD {l : List Nat} (h : l.all (fin .f32) = true) (i : Nat) : fin .f32 (l.getD i 0) = true := by
  rw [List.getD_eq_getElem?_getD]
  cases hx : l[i]? with
  | none => exact fin_zero _
  | some y => exact List.all_eq_true.1 h y (List.mem_of_getElem? hx)
theorem w32_zero : W32 0 := ⟨by decide, by decide +kernel⟩
theorem w32_getD {l : List Nat} (h : ∀ y ∈ l, W32 y) (i : Nat) : W32 (l.getD i 0) := by
  rw [List.getD_eq_getElem?_getD]
  cases hx : l[i]? with
  | none => exact w32_zero
  | some y => exact h y (List.mem_of_getElem? hx)
theorem energy_fold (l : List Nat) : p_spec_l03Energy l = l.foldl sqs2 0 := by
  have go : ∀ (μ : Nat) (s : Nat) (i : Int), 0 ≤ i → ((l.length : Int) - i).toNat < μ → p_spec_l03Energy_l1 l μ s i = (l.drop i.toNat).foldl sqs2 s := by
    intro μ
    induction μ with
    | zero => intro s i h0 h; omega
    | succ μ ih =>
      intro s i h0 h
      rw [p_spec_l03Energy_l1_s]
      by_cases hi : i < (l.length : Int)
      · have hi' : i.toNat < l.length := by omega
        rw [decide_eq_true hi, cond_true, ih _ _ o3 o3, List.drop_eq_getElem_cons hi', List.foldl_cons, List.getD_eq_getElem?_getD, List.getElem?_eq_getElem hi', show (i + 1).toNat = i.toNat + 1 by omega]; rfl
      · rw [decide_eq_false hi, cond_false, List.drop_eq_nil_of_le o3]; rfl
  rw [p_spec_l03Energy_eq, go _ _ _ o23 o3]; rfl
/-- A number of a ripple. -/
def kel (x : Nat) (k : Int) : Nat × Nat := p_spec_l01Scale (p_spec_l01Phasor (fwide (fdiv .f32 (FloatKind.nearest .f32 (k - kR x)) x))).1 (p_spec_l01Phasor (fwide (fdiv .f32 (FloatKind.nearest .f32 (k - kR x)) x))).2
  (fdiv .f32 (p_spec_l01Exp (fmul .f32 (fmul .f32 3204448256 (fdiv .f32 (FloatKind.nearest .f32 (k - kR x)) x)) (fdiv .f32 (FloatKind.nearest .f32 (k - kR x)) x))) x)
theorem kernel_at (x : Nat) (j : Nat) (hj : (j : Int) < 2 * kR x + 1) : (p_spec_l03Kernel x)[j]? = some (kel x j) := by
  have go : ∀ (μ : Nat) (o : List (Nat × Nat)), (2 * kR x + 1 - (o.length : Int)).toNat < μ → (∀ i : Nat, i < o.length → o[i]? = some (kel x i)) → ∀ j : Nat, (j : Int) < 2 * kR x + 1 ∨ j < o.length → (p_spec_l03Kernel_l1 x μ o (o.length : Int))[j]? = some (kel x j) := by
    intro μ
    induction μ with
    | zero => intro o h; omega
    | succ μ ih =>
      intro o h ho j hj
      rw [p_spec_l03Kernel_l1_s]
      rw [show (ftoi .f64 (p_math_Ceil (fwide (fmul .f32 1077936128 x))) .i64).getD 0 = kR x from rfl]
      by_cases hk : (o.length : Int) ≤ 2 * kR x
      · rw [decide_eq_true hk, cond_true]
        have := ih (o ++ [kel x o.length]) o25 (by
          intro i hi
          rw [List.length_append, List.length_singleton] at hi
          by_cases e : i < o.length
          · rw [List.getElem?_append_left e]; exact ho i e
          · obtain rfl : i = o.length := by omega
            rw [List.getElem?_append_right (Nat.le_refl _), Nat.sub_self]; rfl) j o25
        rw [List.length_append, List.length_singleton] at this
        exact this
      · rw [decide_eq_false hk, cond_false]
        exact ho j o3
  rw [p_spec_l03Kernel_eq, show (ftoi .f64 (p_math_Ceil (fwide (fmul .f32 1077936128 x))) .i64).getD 0 = kR x from rfl]
  exact go _ [] o38 (fun i hi => by cases hi) j (.inl hj)
theorem ftoi_nn {x : Nat} {n : Int} (hx : (FloatKind.f64.format.read x).neg = false) (h : ftoi .f64 x .i64 = some n) : 0 ≤ n := by
  unfold ftoi at h
  cases hr : FloatKind.f64.format.read x with
  | nan s t => rw [show FloatKind.f64.decode x = _ from hr] at h; cases h
  | infinity s => rw [show FloatKind.f64.decode x = _ from hr] at h; cases h
  | number s m e =>
    rw [hr] at hx
    have hs : s = false := hx
    subst hs
    rw [show FloatKind.f64.decode x = _ from hr] at h
    have h : (if _ then _ else _) = some n := h
    split at h
    · cases h
      rw [signed_eq, if_neg o23]; omega
    · cases h
theorem ceil_neg {x : Nat} (hf : fin .f64 x = true) (hx : (FloatKind.f64.format.read x).neg = false) : (FloatKind.f64.format.read (fint .up x)).neg = false := by
  obtain ⟨s, m, e, hr⟩ := fin_num hf
  rw [hr] at hx
  have hs : s = false := hx
  subst hs
  unfold fint
  rw [hr, if_neg (fun h => by cases h)]
  exact write_neg .f64 rfl
theorem kR_nn {x : Nat} (h1 : fle .f32 1056964608 x = true) (h2 : fle .f32 x 1098907648 = true) : 0 ≤ kR x := by
  obtain ⟨hb, hge⟩ := scale_bd h1 h2
  have hxn : (FloatKind.f32.format.read x).neg = false := by
    cases h : (FloatKind.f32.format.read x).neg
    · rfl
    · have := sv_le_zero h
      have := Nat.two_pow_pos 148
      omega
  have m1 := Bd.mul (T := 132) three_32 hb (top32 o23) o23
  have h3 : (FloatKind.f32.format.read 1077936128).neg = false := by decide +kernel
  have hw := wide_bd (three_bd h1 h2)
  have hn : (FloatKind.f64.format.read (fwide (fmul .f32 1077936128 x))).neg = false := by
    rw [wide_neg (fin_nn m1.1.1), m1.2, h3, hxn]; rfl
  obtain ⟨n, hs, -⟩ := rad_some h1 h2
  have := ftoi_nn (ceil_neg hw.1 hn) hs
  unfold kR
  rw [show p_math_Ceil (fwide (fmul .f32 1077936128 x)) = fint .up (fwide (fmul .f32 1077936128 x)) from rfl, hs]
  exact this
theorem phasor_zero : (p_spec_l01Phasor 0).1 = 1065353216 := by decide +kernel
theorem exp_zero : p_spec_l01Exp (fmul .f32 (fmul .f32 3204448256 0) 0) = 1065353216 := by decide +kernel
theorem near_z : FloatKind.nearest .f32 0 = 0 := by decide +kernel
theorem wide_z : fwide 0 = 0 := by decide +kernel
theorem div_zero {x : Nat} {n : Nat} {j : Int} (hr : FloatKind.f32.format.read x = .number false n j) (hn : n ≠ 0) : fdiv .f32 0 x = 0 := by
  rw [fdiv_num (read_zero .f32) hr hn rfl]
  have e0 : ∀ d : Nat, 2 * (0 <<< d / n) + (0 <<< d % n != 0).toNat = 0 := by intro d; simp
  rw [e0]
  unfold Ieee.Format.nearest
  rw [if_pos rfl]; rfl
theorem kel_center {x n : Nat} {j : Int} (hr : FloatKind.f32.format.read x = .number false n j) (hn : n ≠ 0) : (kel x (kR x)).1 = fmul .f32 1065353216 (fdiv .f32 1065353216 x) := by
  unfold kel
  rw [Int.sub_self, near_z, div_zero hr hn, wide_z, exp_zero]
  show fmul .f32 (p_spec_l01Phasor 0).1 _ = _
  rw [phasor_zero]
theorem half_quot {D n : Nat} (hn : n ≠ 0) (h : n ≤ D) (b : Nat) : D ≤ (2 * (D / n) + b) * n := by
  have h1 := Nat.div_add_mod D n
  have h2 := Nat.mod_lt D (Nat.pos_of_ne_zero hn)
  have h3 : 1 ≤ D / n := (Nat.le_div_iff_mul_le (Nat.pos_of_ne_zero hn)).2 o3
  have h4 : n * 1 ≤ n * (D / n) := Nat.mul_le_mul_left _ h3
  have h5 : (2 * (D / n)) * n ≤ (2 * (D / n) + b) * n := Nat.mul_le_mul_right _ o3
  have h6 : (2 * (D / n)) * n = n * (D / n) + n * (D / n) := by rw [Nat.mul_assoc, Nat.mul_comm (D / n) n]; omega
  omega
theorem inv_ge {x n q : Nat} (hr : FloatKind.f32.format.read x = .number false n (FloatKind.f32.format.leastPlace + q)) (hn : n ≠ 0) (h : n * 2 ^ q ≤ 2 ^ 153) :
    ∃ r, fdiv .f32 1065353216 x = r ∧ 121 * 2 ^ 23 + 2 ^ 23 ≤ r ∧ r ≤ FloatKind.f32.format.infRung := by
  generalize hd : FloatKind.f32.format.fractionBits + 2 + n.log2 - (2 ^ 23).log2 = d
  rw [fdiv_num one_read hr hn hd]
  have hfb : FloatKind.f32.format.fractionBits = 23 := rfl
  have hlg : (2 ^ 23 : Nat).log2 = 23 := by decide +kernel
  have hnd : n ≤ 2 ^ 23 * 2 ^ d := by
    rw [← Nat.pow_add]
    have : n < 2 ^ (n.log2 + 1) := Nat.lt_log2_self
    exact Nat.le_of_lt (Nat.lt_of_lt_of_le this (Nat.pow_le_pow_right o23 (by rw [hfb, hlg] at hd; omega)))
  have hq := half_quot hn (show n ≤ 2 ^ 23 <<< d by rw [Nat.shiftLeft_eq]; exact hnd) ((2 ^ 23 <<< d % n != 0).toNat)
  generalize 2 * (2 ^ 23 <<< d / n) + (2 ^ 23 <<< d % n != 0).toNat = m' at *
  rw [Nat.shiftLeft_eq, ← Nat.pow_add] at hq
  have hq153 : q ≤ 153 := by
    apply Classical.byContradiction
    intro hc
    exact hn (zero_of_mul_pow h o3)
  have hn2 := le_of_mul_pow h hq153
  have hm : 2 ^ (23 + d) ≤ m' * 2 ^ (153 - q) := Nat.le_trans hq (Nat.mul_le_mul_left _ hn2)
  have key : Le2 (2 ^ 23) (FloatKind.f32.format.leastPlace + (121 : Nat)) m' (FloatKind.f32.format.leastPlace + (126 : Nat) - (FloatKind.f32.format.leastPlace + (q : Int)) - (d : Int) - 1) := by
    rw [le2_at (-(q : Int) - d - 28) (by rw [l32]; omega) (by rw [l32]; omega), ← Nat.pow_add]
    rw [l32, show (-149 + ((121 : Nat) : Int) - (-(q : Int) - d - 28)).toNat = q + d by omega, show (-149 + ((126 : Nat) : Int) - (-149 + (q : Int)) - (d : Int) - 1 - (-(q : Int) - d - 28)).toNat = 153 by omega]
    have h5 : 2 ^ (23 + d) * 2 ^ q ≤ m' * 2 ^ (153 - q) * 2 ^ q := Nat.mul_le_mul_right _ hm
    rw [← Nat.pow_add, Nat.mul_assoc, ← Nat.pow_add, show 153 - q + q = 153 by omega, show 23 + d + q = 23 + (q + d) by omega] at h5
    exact h5
  obtain ⟨r, g1, g2, g3⟩ := near_ge .f32 (false ^^ false) (T := 121) (.inl (by have := b32; omega)) o23 (by have := b32; omega) (by rw [b32, i32]; decide) key
  rw [b32] at g2
  rw [g1]
  exact ⟨r, word_pos _ _, g2, g3⟩
theorem one_mul_ge {y : Nat} {r0 : Nat} (h0 : r0 ≠ 0) (h : r0 ≤ y) (hy : y < FloatKind.f32.format.infRung) : ∃ r, fmul .f32 1065353216 y = r ∧ r0 ≤ r ∧ r ≤ FloatKind.f32.format.infRung := by
  obtain ⟨M, T, hr, hv⟩ := read_pos .f32 hy
  rw [fmul_num one_read hr]
  have h1 := (rv_le FloatKind.f32.format).1 h
  rw [hv] at h1
  have key : rv FloatKind.f32.format r0 * 2 ^ (FloatKind.f32.format.leastPlace - (FloatKind.f32.format.leastPlace + (126 : Nat) + (FloatKind.f32.format.leastPlace + (T : Int)))).toNat ≤ 2 ^ 23 * M * 2 ^ (FloatKind.f32.format.leastPlace + (126 : Nat) + (FloatKind.f32.format.leastPlace + (T : Int)) - FloatKind.f32.format.leastPlace).toNat := by
    rw [l32]
    by_cases hT : T ≤ 23
    · rw [show ((-149 : Int) - (-149 + ((126 : Nat) : Int) + (-149 + (T : Int)))).toNat = 23 - T by omega, show ((-149 : Int) + ((126 : Nat) : Int) + (-149 + (T : Int)) - -149).toNat = 0 by omega, Nat.pow_zero, Nat.mul_one]
      refine Nat.le_trans (Nat.mul_le_mul_right _ h1) ?_
      rw [Nat.mul_assoc, ← Nat.pow_add, show T + (23 - T) = 23 by omega, Nat.mul_comm]
      exact Nat.le_refl _
    · rw [show ((-149 : Int) - (-149 + ((126 : Nat) : Int) + (-149 + (T : Int)))).toNat = 0 by omega, show ((-149 : Int) + ((126 : Nat) : Int) + (-149 + (T : Int)) - -149).toNat = T - 23 by omega, Nat.pow_zero, Nat.mul_one]
      refine Nat.le_trans h1 ?_
      rw [Nat.mul_comm (2 ^ 23), Nat.mul_assoc, ← Nat.pow_add, show 23 + (T - 23) = T by omega]
      exact Nat.le_refl _
  obtain ⟨r, g1, g2, g3⟩ := nearest_ge .f32 (false ^^ false) h0 (Nat.le_trans h (Nat.le_of_lt hy)) key
  rw [g1]
  exact ⟨r, word_pos _ _, g2, g3⟩
theorem narrow_bd {v a : Nat} (h : Bd .f64 (1074 + a) v) (ha : a ≤ 90) : Bd .f32 (150 + a) ((fnarrow v).getD 0) := by
  obtain ⟨s, m, q, hr, hm⟩ := h.out
  have hd : FloatKind.f64.decode v = .number s m (FloatKind.f64.format.leastPlace + q) := hr
  have hn := narrow_ok (h.mono (show 1074 + a ≤ 1174 by omega))
  have hval : (fnarrow v).getD 0 = FloatKind.f32.format.nearest s m (FloatKind.f64.format.leastPlace + q) := by
    unfold fnarrow at hn ⊢
    rw [hd] at hn ⊢
    simp only [] at hn ⊢
    split at hn
    · exact absurd rfl hn
    · rename_i h; rw [if_neg h]; rfl
  rw [hval]
  have hfb : FloatKind.f32.format.fractionBits = 23 := rfl
  by_cases h0 : m = 0
  · subst h0
    rw [near_zero]
    exact ((Bd.near (k := .f32) (n := 0) (T := 0) (top32 o23) (Nat.zero_le _) o3).1).mono (by rw [hfb]; omega)
  · have h1 := log_le h0 hm
    have h2 : m ≤ 2 ^ (m.log2 + 1) := Nat.le_of_lt Nat.lt_log2_self
    exact ((Bd.near (k := .f32) (T := 127 + a) (top32 o3) h2 (by rw [l32, l64, hfb]; omega)).1).mono (by rw [hfb]; omega)
theorem exp_bd {x : Nat} (hf : fin .f32 x = true) (hs : (FloatKind.f32.format.read x).neg = true) : Bd .f64 1074 (p_spec_l01ExpWide (fwide x)) := by
  have wf := wide_fin hf
  have wn := wide_neg (x := x) (fin_nn hf)
  rw [hs] at wn
  have z := sv_le_zero wn
  rw [p_spec_l01ExpWide_eq]
  rw [feq_self (fin_nn wf), Bool.not_true, cond_false]
  rw [flt_fin o30 wf, flt_fin wf o30]
  have e1 : sv .f64 4641240890982006784 = 200 * 2 ^ 1074 := by decide +kernel
  have e2 : sv .f64 13864612927836782592 = -200 * 2 ^ 1074 := by decide +kernel
  have hpow := pow_cast 1074
  rw [e1, e2, ← hpow]
  have hp := Nat.two_pow_pos 1074
  rw [decide_eq_false (by generalize (2 ^ 1074 : Nat) = W at *; omega), cond_false]
  by_cases hc : sv .f64 (fwide x) < -200 * ((2 ^ 1074 : Nat) : Int)
  · rw [decide_eq_true hc, cond_true]; exact bd_zero _
  · rw [decide_eq_false hc, cond_false]
    have hy : Bd .f64 (8 + 1074) (fwide x) := by
      refine ⟨wf, ?_⟩
      have e3 : (2 : Nat) ^ (8 + 1074) = 2 ^ 8 * 2 ^ 1074 := Nat.pow_add 2 8 1074
      rw [e3]
      generalize (2 ^ 1074 : Nat) = W at *
      omega
    have one : Bd .f64 1074 4607182418800017408 := ⟨by decide +kernel, by decide +kernel⟩
    have b := spec_l01ExpWide_ser hy wn (Int.toNat ((12 : Int) - 1 + 1) + 1) 4607182418800017408 12 o23 o23 one o30
    exact b
theorem nar1 {x : Nat} (h : Bd .f64 1140 x) : Bd .f32 228 ((fnarrow x).getD 0) := (narrow_bd (a := 66) (h.pow o23) o23).mono o23
theorem nar0 {x : Nat} (h : Bd .f64 1140 x) : Bd .f32 228 ((fnarrow (fsub .f64 0 x)).getD 0) := by
  have s1 := Bd.sub2 (T := 1100) (bd_zero 1140) h (top64 o23) (by rw [fb64]; decide)
  rw [fb64] at s1
  exact narrow_bd (a := 78) (s1.pow o23) o23
theorem bd_zero32 (A : Nat) : Bd .f32 A 0 := ⟨fin_zero _, by rw [sv_zero]; exact Nat.zero_le _⟩
theorem phasor_bd (t : Nat) : ∀ (μ f : Nat) (q : Int), Bd .f64 (lp .f64) f → Bd .f32 228 (p_spec_l01Phasor_l1 t μ f q).1 := by
  intro μ
  induction μ with
  | zero => intro f q _; exact bd_zero32 _
  | succ μ ih =>
    intro f q hb
    have s1 := spec_sine_bd f (lp_up1 hb)
    have s2 := spec_sine_bd (fsub .f64 4598175219545276416 f) (rest_bd1 hb)
    rw [p_spec_l01Phasor_l1_s]
    simp only [p_spec_l01Narrow_eq]
    generalize p_spec_l01SineWide f = a at *
    generalize p_spec_l01SineWide (fsub .f64 4598175219545276416 f) = b at *
    cases hc : fle .f64 4598175219545276416 f
    · simp only [cond_false]
      refine cnb (P := fun r : Nat × Nat => Bd .f32 228 r.1) (fun _ => nar0 s1) (fun _ => ?_)
      refine cnb (P := fun r : Nat × Nat => Bd .f32 228 r.1) (fun _ => nar0 s2) (fun _ => ?_)
      exact cnb (P := fun r : Nat × Nat => Bd .f32 228 r.1) (fun _ => nar1 s1) (fun _ => nar1 s2)
    · simp only [cond_true]; exact ih _ _ (qm_step hb hc).1
theorem phasor_fin_bd {t : Nat} (hf : fin .f64 t = true) : Bd .f32 228 (p_spec_l01Phasor t).1 := by
  rw [p_spec_l01Phasor_eq, fin_asked, hf]
  have one : Bd .f32 228 1065353216 := ⟨by decide +kernel, by decide +kernel⟩
  refine cnb (P := fun r : Nat × Nat => Bd .f32 228 r.1) (fun h => by cases h) (fun _ => ?_)
  refine cnb (P := fun r : Nat × Nat => Bd .f32 228 r.1) (fun _ => one) (fun h1 => ?_)
  refine cnb (P := fun r : Nat × Nat => Bd .f32 228 r.1) (fun _ => one) (fun h2 => ?_)
  have hb := wide_in (by rw [fin_asked]; exact hf) h1 h2
  exact cnb (P := fun r : Nat × Nat => Bd .f32 228 r.1) (fun h3 => phasor_bd _ _ _ _ (fract_bd1 hb h3)) (fun _ => phasor_bd _ _ _ _ (fract_bd hb))
theorem kel_fin {x : Nat} (h1 : fle .f32 1056964608 x = true) (h2 : fle .f32 x 1098907648 = true) {k : Int} (hk : (k - kR x).natAbs ≤ 2000) : fin .f32 (kel x k).1 = true := by
  obtain ⟨hb, hge⟩ := scale_bd h1 h2
  have hB : 2 ^ 148 ≤ (sv .f32 x).natAbs := by omega
  have hfb : FloatKind.f32.format.fractionBits = 23 := rfl
  have hlp : lp .f32 = 149 := rfl
  have hbin : (k - kR x).natAbs < 2 * FloatKind.f32.format.binade := by have := b32; omega
  obtain ⟨n1, n2⟩ := int_exact .f32 hbin
  have hn : Bd .f32 160 (FloatKind.nearest .f32 (k - kR x)) := by
    refine ⟨n1, ?_⟩
    rw [n2, hlp, Int.natAbs_mul, pow_abs 149, show (160 : Nat) = 11 + 149 by decide, Nat.pow_add]
    exact Nat.mul_le_mul_right _ o3
  have hu := (Bd.div (T := 138) hn hb.1 hB (top32 o23) (by rw [hfb, hlp]; decide)).1
  rw [hfb] at hu
  have hc : Bd .f32 148 3204448256 := ⟨by decide +kernel, by decide +kernel⟩
  unfold kel
  generalize fdiv .f32 (FloatKind.nearest .f32 (k - kR x)) x = u at *
  have m1 := (Bd.mul (T := 137) hc hu (top32 o23) (by rw [hfb, hlp]; decide)).1
  rw [hfb] at m1
  have m2 := (Bd.mul (T := 149) m1 hu (top32 o23) (by rw [hfb, hlp]; decide)).1
  have hneg : (FloatKind.f32.format.read (fmul .f32 (fmul .f32 3204448256 u) u)).neg = true := by
    rcases sq_neg (c := 3204448256) (u := u) o30 with h | h
    · rw [fin_nn m2.1] at h; cases h
    · exact h
  have he : Bd .f32 150 (p_spec_l01Exp (fmul .f32 (fmul .f32 3204448256 u) u)) := by
    rw [p_spec_l01Exp_eq, p_spec_l01Narrow_eq]
    exact narrow_bd (a := 0) (exp_bd m2.1 hneg) o23
  have hw := (Bd.div (T := 128) he hb.1 hB (top32 o23) (by rw [hfb, hlp]; decide)).1
  rw [hfb] at hw
  have hp := phasor_fin_bd (wide_fin hu.1)
  exact (Bd.mul (T := 210) hp hw (top32 o23) (by rw [hfb, hlp]; decide)).1.1
/-- The numbers of an atom before they are divided. -/
def winAt (p : Int) (s : Nat) (i : Nat) : Nat := bif p_spec_l00In ((i : Int) - p + Int.tdiv ((p_spec_l03Kernel s).length : Int) 2) 0 (((p_spec_l03Kernel s).length : Int) - 1) then ((p_spec_l03Kernel s).getD ((i : Int) - p + Int.tdiv ((p_spec_l03Kernel s).length : Int) 2).toNat (0, 0)).1 else 0
def win (c p : Int) (s : Nat) : List Nat := (List.range c.toNat).map (winAt p s)
theorem of_win_go (c p : Int) (s z : Nat) : ∀ (μ : Nat) (m : Nat), (m : Int) ≤ c → (c - m).toNat < μ → p_spec_l05Of_l1 c p s z μ ((List.range m).map (winAt p s)) (m : Int) =
    p_spec_l05Of_l2 c p s z (win c p s) c (fun (t54 : Int) (y2_1 : List Nat) => y2_1) (Int.toNat (((win c p s).length : Int) - (0 : Int)) + 1) (0 : Int) (win c p s) := by
  intro μ
  induction μ with
  | zero => intro m h0 h; omega
  | succ μ ih =>
    intro m h0 h
    rw [p_spec_l05Of_l1_s]
    by_cases hm : (m : Int) < c
    · rw [decide_eq_true hm, cond_true]
      have := ih (m + 1) o3 o3
      rw [List.range_succ, List.map_append] at this
      have hw : ∀ b : Bool, ∀ X : Nat, (bif b then p_spec_l05Of_l1 c p s z μ ((List.range m).map (winAt p s) ++ [X]) ((m : Int) + 1) else p_spec_l05Of_l1 c p s z μ ((List.range m).map (winAt p s) ++ [0]) ((m : Int) + 1)) = p_spec_l05Of_l1 c p s z μ ((List.range m).map (winAt p s) ++ [bif b then X else 0]) ((m : Int) + 1) := by
        intro b X; cases b <;> rfl
      rw [hw]
      exact this
    · have : c = (m : Int) := by omega
      subst this
      rw [decide_eq_false hm, cond_false]
      rfl
theorem of_map_go (c p : Int) (s z : Nat) (A : List Nat) (t : Int) : ∀ (μ i : Nat), i ≤ A.length → A.length - i < μ →
    p_spec_l05Of_l2 c p s z A t (fun (t54 : Int) (y2_1 : List Nat) => y2_1) μ (i : Int) ((A.take i).map (fun a => fmul .f32 (fdiv .f32 a (p_spec_l01Sqrt (p_spec_l03Energy A))) z) ++ A.drop i) = A.map (fun a => fmul .f32 (fdiv .f32 a (p_spec_l01Sqrt (p_spec_l03Energy A))) z) := by
  intro μ
  generalize hg : (fun a => fmul .f32 (fdiv .f32 a (p_spec_l01Sqrt (p_spec_l03Energy A))) z) = g
  induction μ with
  | zero => intro i h0 h; omega
  | succ μ ih =>
    intro i h0 h
    rw [p_spec_l05Of_l2_s]
    by_cases hi : (i : Int) < (A.length : Int)
    · have hi' : i < A.length := by omega
      have := ih (i + 1) o3 o3
      rw [decide_eq_true hi, cond_true, Int.toNat_natCast]
      have hl : ((A.take i).map g).length = i := by rw [List.length_map, List.length_take]; omega
      have e1 : ((A.take i).map g ++ A.drop i).getD i 0 = A[i] := by
        rw [List.getD_eq_getElem?_getD, List.getElem?_append_right o3, hl, Nat.sub_self, List.drop_eq_getElem_cons hi']; rfl
      rw [e1, List.set_append_right _ _ o3, hl, Nat.sub_self, List.drop_eq_getElem_cons hi', List.set_cons_zero, show fmul .f32 (fdiv .f32 A[i] (p_spec_l01Sqrt (p_spec_l03Energy A))) z = g A[i] by rw [← hg]]
      rw [← List.take_append_getElem hi', List.map_append, List.append_assoc] at this
      exact this
    · have : i = A.length := by omega
      subst this
      rw [decide_eq_false hi, cond_false, List.take_length, List.drop_length, List.append_nil]
theorem of_val (c p : Int) (s z : Nat) (h : 0 ≤ c) : p_spec_l05Of c p s z = (win c p s).map (fun a => fmul .f32 (fdiv .f32 a (p_spec_l01Sqrt (p_spec_l03Energy (win c p s)))) z) := by
  rw [p_spec_l05Of_eq]
  have a := of_win_go c p s z (Int.toNat (c - (0 : Int)) + 1) 0 o3 o3
  have b := of_map_go c p s z (win c p s) c (Int.toNat (((win c p s).length : Int) - (0 : Int)) + 1) 0 (Nat.zero_le _) o3
  exact a.trans b
theorem kR_hi {x : Nat} (h1 : fle .f32 1056964608 x = true) (h2 : fle .f32 x 1098907648 = true) : kR x ≤ 256 :=
  (rad_le (x := x) (by rw [h1]; exact h2)).2
theorem win_mid {s : Nat} (h1 : fle .f32 1056964608 s = true) (h2 : fle .f32 s 1098907648 = true) : Int.tdiv ((p_spec_l03Kernel s).length : Int) 2 = kR s ∧ ((p_spec_l03Kernel s).length : Int) = 2 * kR s + 1 := by
  have h := kR_nn h1 h2
  have hl := (kernel_same s).2
  have e : ((p_spec_l03Kernel s).length : Int) = 2 * kR s + 1 := by omega
  exact ⟨by rw [e, Int.tdiv_eq_ediv_of_nonneg o3]; omega, e⟩
theorem winAt_in {s : Nat} (h1 : fle .f32 1056964608 s = true) (h2 : fle .f32 s 1098907648 = true) (p : Int) (i : Nat) : winAt p s i = 0 ∨ ∃ k : Int, 0 ≤ k ∧ k ≤ 2 * kR s ∧ winAt p s i = (kel s k).1 := by
  obtain ⟨e1, e2⟩ := win_mid h1 h2
  unfold winAt
  rw [e1, e2]
  cases hc : p_spec_l00In ((i : Int) - p + kR s) 0 (2 * kR s + 1 - 1)
  · exact .inl rfl
  · have : 0 ≤ (i : Int) - p + kR s ∧ (i : Int) - p + kR s ≤ 2 * kR s + 1 - 1 := by
      unfold p_spec_l00In at hc
      simp at hc; omega
    refine .inr ⟨(i : Int) - p + kR s, this.1, by omega, ?_⟩
    have hk := kernel_at s ((i : Int) - p + kR s).toNat o3
    rw [cond_true, List.getD_eq_getElem?_getD, hk, show ((((i : Int) - p + kR s).toNat : Nat) : Int) = (i : Int) - p + kR s by omega]; rfl
theorem win_fin {s : Nat} (h1 : fle .f32 1056964608 s = true) (h2 : fle .f32 s 1098907648 = true) (c p : Int) : (win c p s).all (fin .f32) = true := by
  rw [List.all_eq_true]
  intro a ha
  obtain ⟨i, -, rfl⟩ := List.mem_map.1 ha
  have h0 := kR_nn h1 h2
  have h3 := kR_hi h1 h2
  rcases winAt_in h1 h2 p i with h | ⟨k, k0, k1, h⟩
  · rw [h]; exact fin_zero _
  · rw [h]; exact kel_fin h1 h2 o3
theorem win_center {s : Nat} (h1 : fle .f32 1056964608 s = true) (h2 : fle .f32 s 1098907648 = true) {c p : Int} (h0 : 0 ≤ p) (hp : p < c) : (kel s (kR s)).1 ∈ win c p s := by
  refine List.mem_map.2 ⟨p.toNat, List.mem_range.2 o3, ?_⟩
  obtain ⟨e1, e2⟩ := win_mid h1 h2
  have hR := kR_nn h1 h2
  unfold winAt
  rw [e1, e2]
  have hin : p_spec_l00In ((p.toNat : Int) - p + kR s) 0 (2 * kR s + 1 - 1) = true := by
    unfold p_spec_l00In
    rw [decide_eq_true o3, cond_true]; exact decide_eq_true o3
  have hk := kernel_at s (kR s).toNat o3
  rw [hin, cond_true, show ((p.toNat : Int) - p + kR s).toNat = (kR s).toNat by omega, List.getD_eq_getElem?_getD, hk, show (((kR s).toNat : Nat) : Int) = kR s by omega]; rfl
theorem center_read {s : Nat} (h1 : fle .f32 1056964608 s = true) (h2 : fle .f32 s 1098907648 = true) : ∃ M T : Nat, FloatKind.f32.format.read (kel s (kR s)).1 = .number false M (FloatKind.f32.format.leastPlace + T) ∧ 2 ^ 23 ≤ M ∧ 64 ≤ T := by
  obtain ⟨hb, hge⟩ := scale_bd h1 h2
  obtain ⟨g, n, q, hr, hm⟩ := hb.out
  have hg : g = false := by
    cases g
    · rfl
    · have := sv_le_zero (k := .f32) (x := s) (by rw [hr]; rfl)
      have := Nat.two_pow_pos 148
      omega
  subst hg
  have hn : n ≠ 0 := by
    rintro rfl
    have := (sv_mag hr).2 rfl
    have := Nat.two_pow_pos 148
    omega
  have hf := kel_fin h1 h2 (k := kR s) o3
  rw [kel_center hr hn] at hf ⊢
  obtain ⟨r, e1, e2, e3⟩ := inv_ge hr hn hm
  rw [e1] at hf ⊢
  have hr2 := (fin_of_mul hf).2
  have hlt : r < FloatKind.f32.format.infRung := by
    apply Classical.byContradiction
    intro hc
    have : r = FloatKind.f32.format.infRung := by omega
    rw [this, fin_inf read_inf32] at hr2; cases hr2
  obtain ⟨w, f1, f2, f3⟩ := one_mul_ge o23 e2 hlt
  rw [f1] at hf ⊢
  have wlt : w < FloatKind.f32.format.infRung := by
    apply Classical.byContradiction
    intro hc
    have : w = FloatKind.f32.format.infRung := by omega
    rw [this, fin_inf read_inf32] at hf; cases hf
  obtain ⟨M, T, w1, w2⟩ := read_pos .f32 wlt
  obtain ⟨T', u1, u2, u3, -⟩ := read_rung w1
  obtain rfl : T = T' := by omega
  have hv := (rv_le FloatKind.f32.format).1 f2
  rw [w2, ← b32, rv_shape _ (.inl (Nat.le_refl _)) (by have := b32; omega), b32] at hv
  rw [b32] at u2 u3
  have hT : 64 ≤ T := by
    apply Classical.byContradiction
    intro hc
    have a : 2 ^ T ≤ 2 ^ 63 := Nat.pow_le_pow_right o23 o3
    have b : M * 2 ^ T ≤ (2 * 2 ^ 23) * 2 ^ 63 := Nat.mul_le_mul o3 a
    have c : (2 * 2 ^ 23) * 2 ^ 63 < 2 ^ 23 * 2 ^ 121 := by decide
    omega
  refine ⟨M, T, w1, ?_, hT⟩
  rcases u2 with u2 | u2
  · exact u2
  · omega
theorem of_small {s : Nat} (h : okS s) {c p : Int} (h0 : 0 ≤ p) (hp : p < c) {a : Nat} (ha : a ∈ p_spec_l05Of c p s 1065353216) {y : Nat} (hy : fin .f32 y = true) : fin .f32 (fmul .f32 a y) = true := by
  have h1 : fle .f32 1056964608 s = true := by
    unfold okS at h
    cases hc : fle .f32 1056964608 s
    · rw [hc] at h; cases h
    · rfl
  have h2 : fle .f32 s 1098907648 = true := by unfold okS at h; rw [h1] at h; exact h
  rw [of_val _ _ _ _ o3] at ha
  obtain ⟨b, hb, rfl⟩ := List.mem_map.1 ha
  obtain ⟨M, T, e1, e2, e3⟩ := center_read h1 h2
  have hR : p_spec_l01Sqrt (p_spec_l03Energy (win c p s)) = (fnarrow (fsqrt .f64 (fwide ((win c p s).foldl sqs2 0)))).getD 0 := by
    rw [energy_fold]; rfl
  obtain ⟨s', r, g1, g2⟩ := over_root (win_fin h1 h2 c p) (win_center h1 h2 h0 hp) e1 e2 e3 hR hb
  rw [g1]
  have one : fin .f32 1065353216 = true := by decide +kernel
  obtain ⟨s2, r2, k1, k2⟩ := (small_fin (s := s') g2 one).2 rfl
  rw [k1]
  exact (small_fin k2 hy).1
def dg (x l : List Nat) : Nat → Nat → Int → Nat
  | 0, q, _ => q
  | μ + 1, q, t => bif decide (t < (x.length : Int)) then dg x l μ (fadd .f32 q (fmul .f32 (x.getD t.toNat 0) (l.getD t.toNat 0))) (t + 1) else q
theorem dg_good {x l : List Nat} (hx : ∀ a ∈ x, ∀ i : Nat, fin .f32 (fmul .f32 a (l.getD i 0)) = true) : ∀ (μ q : Nat) (t : Int), 0 ≤ t → Wd .f32 q → nn .f32 q → Wd .f32 (dg x l μ q t) ∧ nn .f32 (dg x l μ q t) := by
  intro μ
  induction μ with
  | zero => intro q t h0 h1 h2; exact ⟨h1, h2⟩
  | succ μ ih =>
    intro q t h0 h1 h2
    unfold dg
    by_cases ht : t < (x.length : Int)
    · rw [decide_eq_true ht, cond_true]
      have ht' : t.toNat < x.length := by omega
      refine ih _ _ o3 (Wd.add _ _ _) (nn_add_fin h2 ?_)
      rw [List.getD_eq_getElem?_getD (l := x), List.getElem?_eq_getElem ht']
      exact hx _ (List.getElem_mem _) _
    · rw [decide_eq_false ht, cond_false]; exact ⟨h1, h2⟩
theorem impl_l3_val (l sc : List Nat) (t6 fo : Bool) (t35 : Int) (a : Int) (b c : Nat) (d : Int) (e f : Nat) (f8 : Bool) (t50 g : Int) (h i : Nat) (K : Nat → Int → Int → Nat → Nat → (Int × Nat × Nat × (List Nat) × Bool)) (x : List Nat)
    (hx : p_impl_atomBy (p_impl_realKernel (sc.getD t35.toNat 0)).1 (p_impl_realKernel (sc.getD t35.toNat 0)).2 (l.length : Int) t50 1065353216 = x) (y1 : Int) (y2 y3 : Nat) : ∀ (μ q : Nat) (t : Int), 0 ≤ t → t ≤ (x.length : Int) → ((x.length : Int) - t).toNat < μ →
    p_impl_PursueOnce_l3 l sc t6 fo t35 a b c d e f f8 t50 g h i K μ q t y1 y2 y3 = K (dg x l μ q t) (x.length : Int) y1 y2 y3 := by
  intro μ
  induction μ with
  | zero => intro q t h0 h1 h2; omega
  | succ μ ih =>
    intro q t h0 h1 h2
    rw [p_impl_PursueOnce_l3_s, hx]
    unfold dg
    by_cases ht : t < (x.length : Int)
    · rw [decide_eq_true ht, cond_true, cond_true]; exact ih _ _ o3 o3 o3
    · rw [decide_eq_false ht, cond_false, cond_false, show t = (x.length : Int) by omega]
theorem spec_l3_val (l sc : List Nat) (t6 fo : Bool) (t35 : Int) (a : Int) (b c : Nat) (d : Int) (e f : Nat) (t7 f8 : Bool) (t50 g : Int) (h i : Nat) (j : Int) (m n : Nat) (K : Nat → Int → Int → Nat → Nat → Int → Nat → Nat → (Int × Nat × Nat × (List Nat) × Bool)) (x : List Nat)
    (hx : p_spec_l05Of (l.length : Int) t50 (sc.getD t35.toNat 0) 1065353216 = x) (y1 : Int) (y2 y3 : Nat) (y4 : Int) (y5 y6 : Nat) : ∀ (μ q : Nat) (t : Int), 0 ≤ t → t ≤ (x.length : Int) → ((x.length : Int) - t).toNat < μ →
    p_spec_l05Pursue_l3 l sc t6 fo t35 a b c d e f t7 f8 t50 g h i j m n K μ q t y1 y2 y3 y4 y5 y6 = K (dg x l μ q t) (x.length : Int) y1 y2 y3 y4 y5 y6 := by
  intro μ
  induction μ with
  | zero => intro q t h0 h1 h2; omega
  | succ μ ih =>
    intro q t h0 h1 h2
    rw [p_spec_l05Pursue_l3_s, hx]
    unfold dg
    by_cases ht : t < (x.length : Int)
    · rw [decide_eq_true ht, cond_true, cond_true]; exact ih _ _ o3 o3 o3
    · rw [decide_eq_false ht, cond_false, cond_false, show t = (x.length : Int) by omega]
/-- Infinite: no size is above it. -/
def InfW (e : Nat) : Prop := fin .f32 e = false ∧ ∀ x, flt .f32 (p_impl_size e) x = false
theorem inf_w {e : Nat} (h1 : Wd .f32 e) (h2 : nn .f32 e) (h3 : fin .f32 e = false) : InfW e ∧ p_impl_size e = FloatKind.f32.format.word false FloatKind.f32.format.infRung := by
  have hs : p_impl_size e = FloatKind.f32.format.word false FloatKind.f32.format.infRung := by
    rcases h1.cases with h | h | h | h
    · rw [h] at h3; cases h3
    · rw [h]; decide +kernel
    · rw [h]; decide +kernel
    · unfold nn at h2; rw [h] at h2
      have : (FloatKind.f32.format.read (qnan .f32)).isNaN = true := by decide +kernel
      rw [this] at h2; cases h2
  exact ⟨⟨h3, fun x => by rw [hs]; exact inf_flt _ _⟩, hs⟩
theorem size_fin {x : Nat} (h : fin .f32 x = true) : fin .f32 (p_impl_size x) = true := by
  rw [p_impl_size_eq]
  cases flt .f32 x 0
  · cases feq .f32 x 0
    · exact h
    · exact fin_zero _
  · exact fin_neg h
theorem impl_l3_F (l sc : List Nat) (t6 fo : Bool) (t35 : Int) (a : Int) (b c : Nat) (d : Int) (e f : Nat) (f8 : Bool) (t50 g : Int) (h i : Nat) (K : Nat → Int → Int → Nat → Nat → (Int × Nat × Nat × (List Nat) × Bool)) (y1 : Int) (y2 y3 : Nat) (hK : ∀ q t, K q t y1 y2 y3 = (0, 0, 0, [], false)) : ∀ (μ q : Nat) (t : Int),
    p_impl_PursueOnce_l3 l sc t6 fo t35 a b c d e f f8 t50 g h i K μ q t y1 y2 y3 = (0, 0, 0, [], false) := by
  intro μ
  induction μ with
  | zero => intro q t; rfl
  | succ μ ih =>
    intro q t
    rw [p_impl_PursueOnce_l3_s, ih, hK]
    cases decide (t < _) <;> rfl
theorem impl_l2_inf (l sc : List Nat) (t6 fo : Bool) (t35 : Int) (a : Int) (b c : Nat) (d : Int) (e f : Nat) (K : Bool → Int → Int → Nat → Nat → (Int × Nat × Nat × (List Nat) × Bool)) (hK : ∀ i x y z, InfW z → K true i x y z = (0, 0, 0, [], false)) : ∀ (μ : Nat) (i x : Int) (y z : Nat), InfW z →
    p_impl_PursueOnce_l2 l sc t6 fo t35 a b c d e f K μ true i x y z = (0, 0, 0, [], false) := by
  intro μ
  induction μ with
  | zero => intro i x y z hz; rfl
  | succ μ ih =>
    intro i x y z hz
    rw [p_impl_PursueOnce_l2_s, hK _ _ _ _ hz, impl_l3_F _ _ _ _ _ _ _ _ _ _ _ _ _ _ _ _ _ _ _ _ ?_]
    · cases decide (i < _) <;> rfl
    · intro q t
      rw [hz.2]
      simp only [Bool.not_true, cond_false]
      exact ih _ _ _ _ hz
theorem impl_l2_F (l sc : List Nat) (t6 fo : Bool) (t35 : Int) (a : Int) (b c : Nat) (d : Int) (e f : Nat) (K : Bool → Int → Int → Nat → Nat → (Int × Nat × Nat × (List Nat) × Bool)) (hK : ∀ g i x y z, K g i x y z = (0, 0, 0, [], false)) : ∀ (μ : Nat) (g : Bool) (i x : Int) (y z : Nat),
    p_impl_PursueOnce_l2 l sc t6 fo t35 a b c d e f K μ g i x y z = (0, 0, 0, [], false) := by
  intro μ
  induction μ with
  | zero => intro g i x y z; rfl
  | succ μ ih =>
    intro g i x y z
    rw [p_impl_PursueOnce_l2_s, hK, impl_l3_F _ _ _ _ _ _ _ _ _ _ _ _ _ _ _ _ _ _ _ _ ?_]
    · cases decide (i < _) <;> rfl
    · intro q t
      simp only [ih]
      cases (!g)
      · cases flt .f32 (p_impl_size z) (p_impl_size q) <;> rfl
      · rfl
theorem atom_fin (c p : Int) (s z : Nat) (h : fin .f32 z = false) : (p_impl_AtomList c p s z).2 = false := by
  rw [p_impl_AtomList_eq, impl_fin, h]
  cases p_impl_within c 1 128
  · rfl
  · cases p_impl_within p 0 (c - 1)
    · rfl
    · cases p_impl_isScale s <;> rfl
theorem impl_l1_inf (l sc : List Nat) : ∀ (μ : Nat) (t6 : Bool) (t a : Int) (b c : Nat) (d : Int) (e f : Nat), InfW f → p_impl_PursueOnce_l1 l sc μ t6 true t a b c d e f = (0, 0, 0, [], false) := by
  intro μ
  induction μ with
  | zero => intro t6 t a b c d e f h; rfl
  | succ μ ih =>
    intro t6 t a b c d e f h
    rw [p_impl_PursueOnce_l1_s, atom_fin _ _ _ _ h.1]
    rw [impl_l2_inf _ _ _ _ _ _ _ _ _ _ _ _ (fun i x y z hz => ih _ _ _ _ _ _ _ _ hz) _ _ _ _ _ h]
    cases decide (t < (sc.length : Int))
    · rfl
    · cases (p_impl_isScale (sc.getD t.toNat 0)) <;> rfl
theorem impl_l1_bad (l sc : List Nat) : ∀ (μ : Nat) (t6 fo : Bool) (t a : Int) (b c : Nat) (d : Int) (e f : Nat), 0 ≤ t → (∃ j : Int, t ≤ j ∧ j < (sc.length : Int) ∧ p_impl_isScale (sc.getD j.toNat 0) = false) → p_impl_PursueOnce_l1 l sc μ t6 fo t a b c d e f = (0, 0, 0, [], false) := by
  intro μ
  induction μ with
  | zero => intro t6 fo t a b c d e f h0 h; rfl
  | succ μ ih =>
    intro t6 fo t a b c d e f h0 h
    obtain ⟨j, j0, j1, j2⟩ := h
    rw [p_impl_PursueOnce_l1_s, decide_eq_true (show t < (sc.length : Int) by omega), cond_true]
    by_cases e1 : t = j
    · subst e1; rw [j2]; rfl
    · rw [impl_l2_F _ _ _ _ _ _ _ _ _ _ _ _ (fun g i x y z => ih _ _ _ _ _ _ _ _ _ o3 ⟨j, by omega, j1, j2⟩) _ _ _ _ _ _]
      cases (p_impl_isScale (sc.getD t.toNat 0)) <;> rfl
theorem scales_bad (l : List Nat) (t2 : Bool) : ∀ (μ : Nat) (i : Int), 0 ≤ i → ((l.length : Int) - i).toNat < μ → p_spec_l05Scales_l1 l μ t2 i = false → ∃ j : Int, i ≤ j ∧ j < (l.length : Int) ∧ p_impl_isScale (l.getD j.toNat 0) = false := by
  intro μ
  induction μ with
  | zero => intro i h0 h; omega
  | succ μ ih =>
    intro i h0 hm h
    rw [p_spec_l05Scales_l1_s] at h
    by_cases hi : i < (l.length : Int)
    · rw [decide_eq_true hi, cond_true] at h
      cases hc : p_spec_l03Scale (l.getD i.toNat 0)
      · exact ⟨i, by omega, hi, hc⟩
      · rw [hc] at h
        simp only [Bool.not_true, cond_false] at h
        obtain ⟨j, j0, j1, j2⟩ := ih _ o3 o3 h
        exact ⟨j, by omega, j1, j2⟩
    · rw [decide_eq_false hi, cond_false] at h; cases h
/-- What holds of the best atom so far. -/
def Bst (z : Prop) (n : Nat) (fo : Bool) (d : Int) (e f : Nat) : Prop := PI z fo d n e ∧ Wd .f32 f ∧ fin .f32 f = true
theorem l2_same (l sc : List Nat) (hl : l.all (fin .f32) = true) (hn : 1 ≤ l.length) (z : Prop) (t6 fo : Bool) (t : Int) (ok : okS (sc.getD t.toNat 0)) (a : Int) (b c : Nat) (d : Int) (e f : Nat) (t6' fo' : Bool) (a' : Int) (b' c' : Nat) (d' : Int) (e' f' : Nat)
    (K : Bool → Int → Int → Nat → Nat → (Int × Nat × Nat × (List Nat) × Bool)) (K' : Bool → Bool → Int → Int → Nat → Nat → Int → Nat → Nat → (Int × Nat × Nat × (List Nat) × Bool))
    (hI : ∀ i x y z, InfW z → K true i x y z = (0, 0, 0, [], false))
    (hK : ∀ (g h : Bool) (n m u : Int) (v w : Nat) (x : Int) (y r : Nat), Bst False l.length g x y r → K g n x y r = K' h g m u v w x y r) :
    ∀ (μ : Nat) (h g : Bool) (i u : Int) (v w : Nat) (x : Int) (y r : Nat), 0 ≤ i → ((l.length : Int) - i).toNat < μ → Bst (z ∧ i = 0) l.length g x y r →
      p_impl_PursueOnce_l2 l sc t6 fo t a b c d e f K μ g i x y r = p_spec_l05Pursue_l2 l sc t6' fo' t a' b' c' d' e' f' K' μ h g i u v w x y r := by
  intro μ
  induction μ with
  | zero => intro h g i u v w x y r h0 hm; omega
  | succ μ ih =>
    intro h g i u v w x y r h0 hm hb
    rw [p_impl_PursueOnce_l2_s, p_spec_l05Pursue_l2_s]
    by_cases hi : i < (l.length : Int)
    · rw [decide_eq_true hi, cond_true, cond_true]
      generalize hs : sc.getD t.toNat 0 = s at *
      have hx := atomBy_same (l.length : Int) i s 1065353216 o3
      generalize hX : p_spec_l05Of (l.length : Int) i s 1065353216 = X at *
      rw [hx]
      rw [← hs] at hx hX
      rw [impl_l3_val _ _ _ _ _ _ _ _ _ _ _ _ _ _ _ _ _ X hx _ _ _ _ _ _ o23 o3 o3, spec_l3_val _ _ _ _ _ _ _ _ _ _ _ _ _ _ _ _ _ _ _ _ _ X hX _ _ _ _ _ _ _ _ _ o23 o3 o3]
      rw [hs] at hX
      obtain ⟨q1, q2⟩ := dg_good (x := X) (l := l) (fun a ha i' => of_small (s := s) ok (c := (l.length : Int)) (p := i) h0 hi (hX ▸ ha) (fin_getD hl i')) (Int.toNat ((X.length : Int) - (0 : Int)) + 1) 0 0 o23 ⟨by decide, by decide +kernel⟩ (nn_fin (fin_zero _))
      generalize dg X l (Int.toNat ((X.length : Int) - (0 : Int)) + 1) 0 0 = q at *
      have hz : p_spec_l03Size q = p_impl_size q := (size_two q1).symm
      have hz2 : p_spec_l03Size r = p_impl_size r := (size_two hb.2.1).symm
      show (bif !g then _ else (bif flt .f32 (p_impl_size r) (p_impl_size q) then _ else _)) = (bif !(p_spec_l01Finite q) then (0, 0, 0, [], false) else (bif !g then _ else (bif flt .f32 (p_spec_l03Size r) (p_spec_l03Size q) then _ else _)))
      rw [hz, hz2, spec_fin]
      cases hf : fin .f32 q
      · obtain ⟨i1, i2⟩ := inf_w q1 q2 hf
        have hlt : flt .f32 (p_impl_size r) (p_impl_size q) = true := by rw [i2]; exact flt_inf (size_fin hb.2.2)
        rw [hlt, impl_l2_inf _ _ _ _ _ _ _ _ _ _ _ _ hI _ _ _ _ _ i1]
        cases g <;> rfl
      · have new : Bst (z ∧ i + 1 = 0) l.length true i s q := ⟨.inr ⟨rfl, h0, hi, ok⟩, q1, hf⟩
        have e1 := ih h true (i + 1) u v w i s q o3 o3 new
        rw [e1]
        cases g
        · rfl
        · have old : Bst (z ∧ i + 1 = 0) l.length true x y r := ⟨hb.1.keep rfl, hb.2⟩
          rw [ih h true (i + 1) u v w x y r o3 o3 old]
          rfl
    · rw [decide_eq_false hi, cond_false, cond_false]
      exact hK _ _ _ _ _ _ _ _ _ _ ⟨hb.1.into (fun h => by omega), hb.2⟩
def dl (l x : List Nat) : Nat → Int → List Nat
  | 0, _ => []
  | μ + 1, t => bif decide (t < (l.length : Int)) then fsub .f32 (l.getD t.toNat 0) (x.getD t.toNat 0) :: dl l x μ (t + 1) else []
theorem dl_fin (l x : List Nat) : ∀ (μ : Nat) (t : Int), 0 ≤ t → ((l.length : Int) - t).toNat < μ → (dl l x μ t).all (fin .f32) = true → ∀ j : Int, t ≤ j → j < (l.length : Int) → fin .f32 (x.getD j.toNat 0) = true := by
  intro μ
  induction μ with
  | zero => intro t h0 h; omega
  | succ μ ih =>
    intro t h0 hm h j j0 j1
    unfold dl at h
    rw [decide_eq_true (show t < (l.length : Int) by omega), cond_true, List.all_cons, Bool.and_eq_true] at h
    by_cases e1 : j = t
    · subst e1; exact (fin_of_sub h.1).2
    · exact ih (t + 1) o3 o3 h.2 j o3 j1
theorem impl_l4_val (l sc : List Nat) (t6 fo : Bool) (t35 : Int) (a : Int) (b c : Nat) (d : Int) (e f : Nat) (K : List Nat → Int → Int → Nat → Nat → (Int × Nat × Nat × (List Nat) × Bool)) (x : List Nat)
    (hx : (p_impl_AtomList (l.length : Int) d e f).1 = x) (y1 : Int) (y2 y3 : Nat) : ∀ (μ : Nat) (o : List Nat) (t : Int), 0 ≤ t → t ≤ (l.length : Int) → ((l.length : Int) - t).toNat < μ →
    p_impl_PursueOnce_l4 l sc t6 fo t35 a b c d e f K μ o t y1 y2 y3 = K (o ++ dl l x μ t) (l.length : Int) y1 y2 y3 := by
  intro μ
  induction μ with
  | zero => intro o t h0 h1 h2; omega
  | succ μ ih =>
    intro o t h0 h1 h2
    rw [p_impl_PursueOnce_l4_s, hx]
    unfold dl
    by_cases ht : t < (l.length : Int)
    · rw [decide_eq_true ht, cond_true, cond_true, ih _ _ o3 o3 o3, List.append_assoc]; rfl
    · rw [decide_eq_false ht, cond_false, cond_false, List.append_nil, show t = (l.length : Int) by omega]
theorem spec_l4_val (l sc : List Nat) (t6 fo : Bool) (t35 : Int) (a : Int) (b c : Nat) (d : Int) (e f : Nat) (K : List Nat → Int → Int → Nat → Nat → (Int × Nat × Nat × (List Nat) × Bool)) (x : List Nat)
    (hx : p_spec_l05Of (l.length : Int) d e f = x) (y1 : Int) (y2 y3 : Nat) : ∀ (μ : Nat) (o : List Nat) (t : Int), 0 ≤ t → t ≤ (l.length : Int) → ((l.length : Int) - t).toNat < μ →
    p_spec_l05Pursue_l4 l sc t6 fo t35 a b c d e f K μ o t y1 y2 y3 = K (o ++ dl l x μ t) (l.length : Int) y1 y2 y3 := by
  intro μ
  induction μ with
  | zero => intro o t h0 h1 h2; omega
  | succ μ ih =>
    intro o t h0 h1 h2
    rw [p_spec_l05Pursue_l4_s, hx]
    unfold dl
    by_cases ht : t < (l.length : Int)
    · rw [decide_eq_true ht, cond_true, cond_true, ih _ _ o3 o3 o3, List.append_assoc]; rfl
    · rw [decide_eq_false ht, cond_false, cond_false, List.append_nil, show t = (l.length : Int) by omega]
theorem atomList_val {n : Int} {d : Int} {e f : Nat} (h0 : 1 ≤ n) (h1 : n ≤ 128) (d0 : 0 ≤ d) (d1 : d < n) (ok : okS e) (hf : fin .f32 f = true) :
    p_impl_AtomList n d e f = bif (p_spec_l05Of n d e f).all (fin .f32) then (p_spec_l05Of n d e f, true) else ([], false) := by
  rw [p_impl_AtomList_eq, impl_fin, hf, atomBy_same _ _ _ _ o3, p_impl_finiteList_eq, finite_same, l02Finite_all]
  have w1 : p_impl_within n 1 128 = true := by
    unfold p_impl_within; rw [decide_eq_true o3, cond_true]; exact decide_eq_true o3
  have w2 : p_impl_within d 0 (n - 1) = true := by
    unfold p_impl_within; rw [decide_eq_true o3, cond_true]; exact decide_eq_true o3
  have w3 : p_impl_isScale e = true := ok
  rw [w1, w2, w3]
  simp only [Bool.not_true, cond_false]
  cases (p_spec_l05Of n d e f).all (fin .f32) <;> rfl
theorem l1_same (l sc : List Nat) (hl : l.all (fin .f32) = true) (hn : 1 ≤ l.length) (hn2 : l.length ≤ 128) (hs : ∀ y ∈ sc, okS y) (hs0 : 1 ≤ sc.length) : ∀ (μ : Nat) (t6 t6' g : Bool) (t a : Int) (b c : Nat) (a' : Int) (b' c' : Nat) (d : Int) (e f : Nat), 0 ≤ t → t ≤ (sc.length : Int) → ((sc.length : Int) - t).toNat < μ → Bst (t = 0) l.length g d e f →
    p_impl_PursueOnce_l1 l sc μ t6 g t a b c d e f = p_spec_l05Pursue_l1 l sc μ t6' g t a' b' c' d e f := by
  intro μ
  induction μ with
  | zero => intro t6 t6' g t a b c a' b' c' d e f h0 h1 hm; omega
  | succ μ ih =>
    intro t6 t6' g t a b c a' b' c' d e f h0 h1 hm hb
    rw [p_impl_PursueOnce_l1_s, p_spec_l05Pursue_l1_s]
    by_cases ht : t < (sc.length : Int)
    · have ok := scale_at hs h0 ht
      rw [decide_eq_true ht, cond_true, cond_true, show p_impl_isScale (sc.getD t.toNat 0) = true from ok, Bool.not_true, cond_false]
      refine l2_same l sc hl hn (t = 0) _ _ _ ok _ _ _ _ _ _ _ _ _ _ _ _ _ _ _ _ ?_ ?_ _ _ _ _ _ _ _ _ _ _ o23 o3 ⟨hb.1.into (fun h => ⟨h, rfl⟩), hb.2⟩
      · intro i x y z hz; exact impl_l1_inf _ _ _ _ _ _ _ _ _ _ _ hz
      · intro g2 h2 n m u v w x y r hbb
        exact ih _ _ _ _ _ _ _ _ _ _ _ _ _ o3 o3 o3 ⟨hbb.1.into (fun h => h.elim), hbb.2⟩
    · obtain ⟨d0, d1, ok⟩ := hb.1.fin o3
      rw [decide_eq_false ht, cond_false, cond_false, atomList_val o3 o3 d0 d1 ok hb.2.2]
      rw [spec_l4_val _ _ _ _ _ _ _ _ _ _ _ _ _ rfl _ _ _ _ _ _ o23 o3 o3]
      cases hx : (p_spec_l05Of (l.length : Int) d e f).all (fin .f32)
      · simp only [cond_false, Bool.not_false, cond_true]
        rw [List.nil_append, l02Finite_all]
        cases hd : (dl l (p_spec_l05Of (l.length : Int) d e f) (Int.toNat ((l.length : Int) - (0 : Int)) + 1) 0).all (fin .f32)
        · rfl
        · exfalso
          have hj := dl_fin l _ _ 0 o23 o3 hd
          have : (p_spec_l05Of (l.length : Int) d e f).all (fin .f32) = true := by
            rw [List.all_eq_true]
            intro y hy
            obtain ⟨i, hi, rfl⟩ := List.mem_iff_getElem.1 hy
            have hlen := spec_l05Of_full (l.length : Int) d e f o3
            have := hj (i : Int) o3 o3
            rw [Int.toNat_natCast, List.getD_eq_getElem?_getD, List.getElem?_eq_getElem hi] at this
            exact this
          rw [this] at hx; cases hx
      · simp only [cond_true, Bool.not_true, cond_false]
        rw [impl_l4_val _ _ _ _ _ _ _ _ _ _ _ _ _ (by rw [atomList_val (by omega) (by omega) d0 d1 ok hb.2.2, hx]) _ _ _ _ _ _ o23 o3 o3, finite_same]
        rfl
theorem pursueOnce_val (l sc : List Nat) : p_impl_PursueOnce l sc = (bif !(p_spec_l03Long l) then ((0 : Int), 0, 0, [], false) else (bif !(p_spec_l05Scales sc) then ((0 : Int), 0, 0, [], false) else p_spec_l05Pursue l sc)) := by
  rw [p_impl_PursueOnce_eq, long_same]
  cases hl : p_spec_l03Long l
  · rfl
  · obtain ⟨n1, n2, hf⟩ := long_t hl
    rw [Bool.not_true, cond_false, cond_false, p_spec_l05Pursue_eq]
    show (bif !(p_impl_within (sc.length : Int) 1 12) then _ else _) = _
    cases hs : p_spec_l05Scales sc
    · rw [Bool.not_false, cond_true]
      rw [p_spec_l05Scales_eq] at hs
      by_cases h1 : (sc.length : Int) < 1
      · have w : p_impl_within (sc.length : Int) 1 12 = false := by
          unfold p_impl_within; rw [decide_eq_false o3]; rfl
        rw [w]; rfl
      · by_cases h2 : (12 : Int) < (sc.length : Int)
        · have w : p_impl_within (sc.length : Int) 1 12 = false := by
            unfold p_impl_within; rw [decide_eq_true o3, cond_true]; exact decide_eq_false o3
          rw [w]; rfl
        · rw [decide_eq_false h1, decide_eq_false h2, cond_false, cond_false] at hs
          obtain ⟨j, j0, j1, j2⟩ := scales_bad _ _ _ _ o23 o3 hs
          rw [impl_l1_bad l sc _ _ _ _ _ _ _ _ _ _ o23 ⟨j, j0, j1, j2⟩]
          cases p_impl_within (sc.length : Int) 1 12 <;> rfl
    · obtain ⟨s1, s2, s3⟩ := scales_all hs
      have w : p_impl_within (sc.length : Int) 1 12 = true := by
        unfold p_impl_within; rw [decide_eq_true o3, cond_true]; exact decide_eq_true o3
      rw [w, Bool.not_true, cond_false, cond_false]
      exact l1_same l sc hf n1 n2 s1 s2 _ _ _ _ _ _ _ _ _ _ _ _ _ _ o23 o3 o3 ⟨.inl ⟨rfl, rfl⟩, ⟨by decide, by decide +kernel⟩, fin_zero _⟩
theorem wk_one {n : Nat} (h : n < 1073741824) : decide (wk 1 n < (0 : Int)) = false := by
  rw [wk_eq n 1 o3 o3]; exact decide_eq_false o3
theorem spec_left_fin {l sc : List Nat} (h : (p_spec_l05Pursue l sc).2.2.2.2 = true) : (p_spec_l05Pursue l sc).2.2.2.1.all (fin .f32) = true := by
  revert h
  refine spec_PP (fun r => r.2.2.2.2 = true → r.2.2.2.1.all (fin .f32) = true) (fun h => by cases h) l sc (fun o d e f ho => ?_)
  refine cnb (P := fun r : Int × Nat × Nat × (List Nat) × Bool => r.2.2.2.2 = true → r.2.2.2.1.all (fin .f32) = true) (fun _ h => by cases h) (fun ho _ => ?_)
  rw [l02Finite_all] at ho
  exact nt_of_f ho
theorem once_is {r sc : List Nat} (h1 : 1 ≤ r.length) (h2 : r.length ≤ 128) (h3 : r.all (fin .f32) = true) (hs : p_spec_l05Scales sc = true) : p_impl_PursueOnce r sc = p_spec_l05Pursue r sc := by
  rw [pursueOnce_val, hs]
  have hl : p_spec_l03Long r = true := by
    rw [p_spec_l03Long_eq, l02Finite_all, h3, decide_eq_true (show (1 : Int) ≤ (r.length : Int) by omega), cond_true]
    rw [decide_eq_true (show (r.length : Int) ≤ 128 by omega)]; rfl
  rw [hl]; rfl
theorem pursue_go (l sc : List Nat) (hs : p_spec_l05Scales sc = true) (c : Int) (t8 : Bool) (t32 : Int) : ∀ (μ ν : Nat) (t t' : Bool) (a : List (Int × Nat × Nat)) (r : List Nat) (k k' : Int), k' = c - k → (c - k).toNat < μ → (c - k).toNat < ν → 1 ≤ r.length → r.length ≤ 128 → r.all (fin .f32) = true →
    p_impl_Pursue_l2 l sc c t8 t32 (fun (t8_8 : Bool) (l_atoms : List (Int × Nat × Nat)) (l_rest : List Nat) (t44 : Int) => (l_atoms, l_rest, true)) μ t a r k = p_spec_Pursue_l1 l sc c ν k' t' r a := by
  intro μ
  induction μ with
  | zero => intro ν t t' a r k k' h1 h2; omega
  | succ μ ih =>
    intro ν t t' a r k k' h1 h2 h3 h4 h5 h6
    obtain _ | ν := ν
    · omega
    rw [p_impl_Pursue_l2_s, p_spec_Pursue_l1_s, once_is h4 h5 h6 hs]
    by_cases hk : k < c
    · rw [decide_eq_true hk, decide_eq_true (show 0 < k' by omega), cond_true, cond_true]
      cases ho : (p_spec_l05Pursue r sc).2.2.2.2
      · rfl
      · have hl := spec_l05Pursue_full ho
        rw [Bool.not_true, cond_false, cond_false]
        exact ih ν _ _ _ _ _ _ o3 o3 o3 o3 o3 (spec_left_fin ho)
    · rw [decide_eq_false hk, decide_eq_false (show ¬ 0 < k' by omega)]; rfl
theorem pursue_scales (l sc : List Nat) (c : Int) : ∀ (μ : Nat) (t : Bool) (i : Int), 0 ≤ i → ((sc.length : Int) - i).toNat < μ → (∀ y ∈ sc, okS y) → i ≤ (sc.length : Int) → p_impl_Pursue_l1 l sc c μ t i = p_impl_Pursue_l2 l sc c t (sc.length : Int) (fun (t8_8 : Bool) (l_atoms : List (Int × Nat × Nat)) (l_rest : List Nat) (t44 : Int) => (l_atoms, l_rest, true)) (Int.toNat (c - (0 : Int)) + 1) t (([] : List (Int × Nat × Nat))) (p_impl_copyOf l) (0 : Int) := by
  intro μ
  induction μ with
  | zero => intro t i h0 h; omega
  | succ μ ih =>
    intro t i h0 hm hs hi
    rw [p_impl_Pursue_l1_s]
    by_cases h : i < (sc.length : Int)
    · rw [decide_eq_true h, cond_true, show p_impl_isScale (sc.getD i.toNat 0) = true from scale_at hs h0 h, Bool.not_true, cond_false]
      exact ih _ _ o3 o3 hs o3
    · rw [decide_eq_false h, cond_false, show i = (sc.length : Int) by omega]
theorem pursue_bad (l sc : List Nat) (c : Int) : ∀ (μ : Nat) (t : Bool) (i : Int), 0 ≤ i → (∃ j : Int, i ≤ j ∧ j < (sc.length : Int) ∧ p_impl_isScale (sc.getD j.toNat 0) = false) → p_impl_Pursue_l1 l sc c μ t i = ([], [], false) := by
  intro μ
  induction μ with
  | zero => intro t i h0 h; rfl
  | succ μ ih =>
    intro t i h0 h
    obtain ⟨j, j0, j1, j2⟩ := h
    rw [p_impl_Pursue_l1_s, decide_eq_true (show i < (sc.length : Int) by omega), cond_true]
    by_cases e : i = j
    · subst e; rw [j2]; rfl
    · rw [ih _ _ o3 ⟨j, by omega, j1, j2⟩]
      cases p_impl_isScale (sc.getD i.toNat 0) <;> rfl
theorem pursue_same (l sc : List Nat) (c : Int) : p_impl_Pursue l sc c = p_spec_Pursue l sc c := by
  rw [p_impl_Pursue_eq, p_spec_Pursue_eq, long_same]
  cases hl : p_spec_l03Long l
  · rfl
  · obtain ⟨n1, n2, hf⟩ := long_t hl
    rw [Bool.not_true, cond_false, cond_false]
    have hc : p_impl_within c 0 16 = p_spec_l00In c 0 16 := rfl
    rw [hc]
    cases hs : p_spec_l05Scales sc
    · rw [Bool.not_false, cond_true]
      rw [p_spec_l05Scales_eq] at hs
      by_cases h1 : (sc.length : Int) < 1
      · have w : p_impl_within (sc.length : Int) 1 12 = false := by
          unfold p_impl_within; rw [decide_eq_false o3]; rfl
        rw [w]; rfl
      · by_cases h2 : (12 : Int) < (sc.length : Int)
        · have w : p_impl_within (sc.length : Int) 1 12 = false := by
            unfold p_impl_within; rw [decide_eq_true o3, cond_true]; exact decide_eq_false o3
          rw [w]; rfl
        · rw [decide_eq_false h1, decide_eq_false h2, cond_false, cond_false] at hs
          obtain ⟨j, j0, j1, j2⟩ := scales_bad _ _ _ _ o23 o3 hs
          rw [pursue_bad l sc c _ _ _ o23 ⟨j, j0, j1, j2⟩]
          cases p_impl_within (sc.length : Int) 1 12
          · rfl
          · cases p_spec_l00In c 0 16 <;> rfl
    · obtain ⟨s1, s2, s3⟩ := scales_all hs
      have w : p_impl_within (sc.length : Int) 1 12 = true := by
        unfold p_impl_within; rw [decide_eq_true o3, cond_true]; exact decide_eq_true o3
      rw [w, Bool.not_true, cond_false, cond_false]
      cases hi : p_spec_l00In c 0 16
      · rfl
      · rw [Bool.not_true, cond_false, cond_false, pursue_scales l sc c _ _ _ o23 o3 s1 o3, impl_copyOf_is, List.nil_append]
        exact pursue_go l sc hs c _ _ _ _ _ _ _ _ _ _ o3 o3 o3 n1 n2 hf
theorem laws_FnExactPursue_true (l_aList : List Nat) (l_aScales : List Nat) (aCount : Int) (q0 : (∀ y ∈ l_aList, W32 y)) (q1 : (∀ y ∈ l_aScales, W32 y)) (q2 : I64 aCount) : p_laws_FnExactPursue l_aList l_aScales aCount = true := by
  rw [p_laws_FnExactPursue_eq, pursue_same]
  by_cases hL : (1048576 : Int) < (l_aList.length : Int)
  · rw [decide_eq_true hL]; rfl
  · by_cases hS : (1048576 : Int) < (l_aScales.length : Int)
    · rw [decide_eq_false hL, decide_eq_true hS]; rfl
    · have hr := spec_Pursue_len l_aList l_aScales aCount
      have hw : decide (wk (wk 1 l_aList.length) l_aScales.length < (0 : Int)) = false := by
        rw [wk_eq l_aList.length 1 o3 o3, wk_eq _ _ o3 o3]; exact decide_eq_false o3
      rw [decide_eq_false hL, decide_eq_false hS, cond_false, cond_false]
      have hA : wkA 1 (p_spec_Pursue l_aList l_aScales aCount).1.length = 1 + 3 * ((p_spec_Pursue l_aList l_aScales aCount).1.length : Int) := wkA_eq _ _ o3 o3
      have hB := wk_eq (p_spec_Pursue l_aList l_aScales aCount).2.1.length (wkA 1 (p_spec_Pursue l_aList l_aScales aCount).1.length) o3 o3
      simp only [laws_eqAtomS_self, laws_eqFloat32S_self, laws_heldFloat32S_marks, laws_heldAtomS_marks, Bool.not_true, cond_false, beq_self_eq_true, bne_self_eq_false, hw, decide_eq_false (show ¬ wkA 1 (p_spec_Pursue l_aList l_aScales aCount).1.length < (0 : Int) by omega), decide_eq_false (show ¬ wk (wkA 1 (p_spec_Pursue l_aList l_aScales aCount).1.length) (p_spec_Pursue l_aList l_aScales aCount).2.1.length < (0 : Int) by omega)]
/-! laws_FnExactPursue: function 10 -/
def E_laws_FnExactPursue : Env := envOf [(33, S_laws_toFloat32S), (47, S_spec_Pursue), (48, S_impl_Pursue), (42, S_laws_eqAtomS), (14, S_laws_eqFloat32S), (15, S_laws_markFloat32S), (43, S_laws_markAtomS), (49, S_laws_heldAtomS), (16, S_laws_heldFloat32S)]
def F_laws_FnExactPursue : List Value → AHeap → (Value → AHeap → Prop) → Prop
  | [.slice aList_a aList_n aList_e, .slice aScales_a aScales_n aScales_e, .int .i64 aCount], H, K => T_laws_FnExactPursue aList_a aList_n aList_e aScales_a aScales_n aScales_e aCount H fun (r1 : Bool) (H' : AHeap) => K (.bool r1) H'
  | _, _, _ => False
def S_laws_FnExactPursue : FSpec := { F := F_laws_FnExactPursue, quiet := false, tame := false }
theorem laws_FnExactPursue_vc (aList_a : Option Addr) (aList_n : Nat) (aList_e : Nat) (aScales_a : Option Addr) (aScales_n : Nat) (aScales_e : Nat) (aCount : Int) (H : AHeap) (K : Value → AHeap → Prop) : bodyL Try.prog E_laws_FnExactPursue Try.f10 [.slice aList_a aList_n aList_e, .slice aScales_a aScales_n aScales_e, .int .i64 aCount] H K =
  (Br (decide ((1048576 : Int) < (aList_n : Int))) (K (.bool true) H) (Br (decide ((1048576 : Int) < (aScales_n : Int))) (K (.bool true) H) (T_laws_toFloat32S aList_a aList_n aList_e H fun (a1 : Option Addr) (r1 : Nat) (r2 : Nat) (H1 : AHeap) => T_laws_toFloat32S aScales_a aScales_n aScales_e H1 fun (a2 : Option Addr) (r3 : Nat) (r4 : Nat) (H2 : AHeap) => T_spec_Pursue a1 r1 r2 a2 r3 r4 aCount H2 fun (a3 : Option Addr) (r5 : Nat) (r6 : Nat) (a4 : Option Addr) (r7 : Nat) (r8 : Nat) (r9 : Bool) (H3 : AHeap) => T_laws_toFloat32S aList_a aList_n aList_e H3 fun (a5 : Option Addr) (r10 : Nat) (r11 : Nat) (H4 : AHeap) => T_laws_toFloat32S aScales_a aScales_n aScales_e H4 fun (a6 : Option Addr) (r12 : Nat) (r13 : Nat) (H5 : AHeap) => T_impl_Pursue a5 r10 r11 a6 r12 r13 aCount H5 fun (a7 : Option Addr) (r14 : Nat) (r15 : Nat) (a8 : Option Addr) (r16 : Nat) (r17 : Nat) (r18 : Bool) (H6 : AHeap) => T_laws_eqAtomS a7 r14 r15 a3 r5 r6 H6 fun (r19 : Bool) (H7 : AHeap) => Br (!r19) (K (.bool false) H7) (T_laws_eqFloat32S a8 r16 r17 a4 r7 r8 H7 fun (r20 : Bool) (H8 : AHeap) => Br (!r20) (K (.bool false) H8) (Br (!(r18 == r9)) (K (.bool false) H8) (T_laws_toFloat32S aList_a aList_n aList_e H8 fun (a9 : Option Addr) (r21 : Nat) (r22 : Nat) (H9 : AHeap) => T_laws_eqFloat32S a5 r10 r11 a9 r21 r22 H9 fun (r23 : Bool) (H10 : AHeap) => Br (!r23) (K (.bool false) H10) (T_laws_toFloat32S aScales_a aScales_n aScales_e H10 fun (a10 : Option Addr) (r24 : Nat) (r25 : Nat) (H11 : AHeap) => T_laws_eqFloat32S a6 r12 r13 a10 r24 r25 H11 fun (r26 : Bool) (H12 : AHeap) => Br (!r26) (K (.bool false) H12) (T_laws_markFloat32S a5 r10 r11 1 H12 fun (r27 : Int) (H13 : AHeap) => T_laws_markFloat32S a6 r12 r13 r27 H13 fun (r28 : Int) (H14 : AHeap) => Br (decide ((r28 : Int) < 0)) (K (.bool false) H14) (T_laws_eqAtomS a7 r14 r15 a3 r5 r6 H14 fun (r29 : Bool) (H15 : AHeap) => Br (!r29) (K (.bool false) H15) (T_laws_eqFloat32S a8 r16 r17 a4 r7 r8 H15 fun (r30 : Bool) (H16 : AHeap) => Br (!r30) (K (.bool false) H16) (Br (!(r18 == r9)) (K (.bool false) H16) (T_laws_markAtomS a7 r14 r15 1 H16 fun (r31 : Int) (H17 : AHeap) => T_laws_markFloat32S a8 r16 r17 r31 H17 fun (r32 : Int) (H18 : AHeap) => T_laws_heldAtomS a7 r14 r15 1 H18 fun (r33 : Int) (H19 : AHeap) => Br (decide ((r33 : Int) < 0)) (K (.bool false) H19) (T_laws_heldFloat32S a8 r16 r17 r33 H19 fun (r34 : Int) (H20 : AHeap) => Br (decide ((r34 : Int) < 0)) (K (.bool false) H20) (Br ((r34 : Int) != r32) (K (.bool false) H20) (T_laws_toFloat32S aList_a aList_n aList_e H20 fun (a11 : Option Addr) (r35 : Nat) (r36 : Nat) (H21 : AHeap) => T_laws_toFloat32S aScales_a aScales_n aScales_e H21 fun (a12 : Option Addr) (r37 : Nat) (r38 : Nat) (H22 : AHeap) => T_impl_Pursue a11 r35 r36 a12 r37 r38 aCount H22 fun (a13 : Option Addr) (r39 : Nat) (r40 : Nat) (a14 : Option Addr) (r41 : Nat) (r42 : Nat) (r43 : Bool) (H23 : AHeap) => T_laws_eqAtomS a13 r39 r40 a3 r5 r6 H23 fun (r44 : Bool) (H24 : AHeap) => Br (!r44) (K (.bool false) H24) (T_laws_eqFloat32S a14 r41 r42 a4 r7 r8 H24 fun (r45 : Bool) (H25 : AHeap) => Br (!r45) (K (.bool false) H25) (Br (!(r43 == r9)) (K (.bool false) H25) (T_laws_heldAtomS a7 r14 r15 1 H25 fun (r46 : Int) (H26 : AHeap) => Br (decide ((r46 : Int) < 0)) (K (.bool false) H26) (T_laws_heldFloat32S a8 r16 r17 r46 H26 fun (r47 : Int) (H27 : AHeap) => Br (decide ((r47 : Int) < 0)) (K (.bool false) H27) (Br ((r47 : Int) != r32) (K (.bool false) H27) (K (.bool true) H27))))))))))))))))))))) := by kernel_rfl
theorem E_laws_FnExactPursue_ok : ∀ g, FnOk Try.prog g (E_laws_FnExactPursue g) := FnOk.envOf (by
  intro x hx
  simp only [List.mem_cons, List.not_mem_nil, or_false] at hx
  rcases hx with rfl | rfl | rfl | rfl | rfl | rfl | rfl | rfl | rfl
  · exact laws_toFloat32S_ok
  · exact spec_Pursue_ok
  · exact impl_Pursue_ok
  · exact laws_eqAtomS_ok
  · exact laws_eqFloat32S_ok
  · exact laws_markFloat32S_ok
  · exact laws_markAtomS_ok
  · exact laws_heldAtomS_ok
  · exact laws_heldFloat32S_ok)
set_option maxHeartbeats 1000000 in
theorem laws_FnExactPursue_main (aList_a : Option Addr) (aList_n : Nat) (aList_e : Nat) (aScales_a : Option Addr) (aScales_n : Nat) (aScales_e : Nat) (aCount : Int) (H : AHeap) (K : Value → AHeap → Prop) (h : T_laws_FnExactPursue aList_a aList_n aList_e aScales_a aScales_n aScales_e aCount H fun (r1 : Bool) (H' : AHeap) => K (.bool r1) H') : bodyL Try.prog E_laws_FnExactPursue Try.f10 [.slice aList_a aList_n aList_e, .slice aScales_a aScales_n aScales_e, .int .i64 aCount] H K := by
  rw [laws_FnExactPursue_vc]
  obtain ⟨l_aList, l_aScales, h_0, h_1, h_2, h_3, h_4, h_5, h_6, hk⟩ := h
  have i_aList := h_0
  obtain rfl := i_aList.eqn
  have i_aScales := h_3
  obtain rfl := i_aScales.eqn
  have hl := laws_FnExactPursue_true l_aList l_aScales aCount h_1 h_4 h_6
  have e : p_laws_FnExactPursue l_aList l_aScales aCount = _ := rfl
  have e := e.trans (p_laws_FnExactPursue_eq l_aList l_aScales aCount)
  have e := hl.symm.trans e
  have g0 := Grow.refl H
  refine Br.intro (fun c_1 => ?_) (fun c_1 => ?_)
  · have e := e.trans (cond_t c_1)
    have c_1' := of_decide_eq_true c_1
    first | exact hk _ | (exfalso; cases e; done) | (rw [← e]; exact hk _)
  · have e := e.trans (cond_f c_1)
    have c_1' := of_decide_eq_false c_1
    refine Br.intro (fun c_2 => ?_) (fun c_2 => ?_)
    · have e := e.trans (cond_t c_2)
      have c_2' := of_decide_eq_true c_2
      first | exact hk _ | (exfalso; cases e; done) | (rw [← e]; exact hk _)
    · have e := e.trans (cond_f c_2)
      have c_2' := of_decide_eq_false c_2
      refine T_laws_toFloat32S_i ⟨_, (i_aList.grow g0), o0, fun a_3 n_4 e_5 H_1 g_7 r_6 => ?_⟩
      have l_8 := g_7.1
      have g_9 := g0.trans g_7
      have l_10 := g_9.1
      obtain rfl := r_6.isL.eqn
      have u_11 := r_6.up
      have u_12 := r_6.lo
      refine T_laws_toFloat32S_i ⟨_, (i_aScales.grow g_9), o0, fun a_14 n_15 e_16 H_2 g_18 r_17 => ?_⟩
      have l_19 := g_18.1
      have g_20 := g_9.trans g_18
      have l_21 := g_20.1
      have r_22 := r_6.grow g_18
      obtain rfl := r_17.isL.eqn
      have u_23 := r_17.up
      have u_24 := r_17.lo
      refine T_spec_Pursue_i ⟨_, _, r_22.isL, r_17.isL, o0, o0, fun a_26 n_27 e_28 a_30 n_31 e_32 H_3 g_35 r_29 r_33 p_47 => ?_⟩
      have z_34 := spec_Pursue_len l_aList l_aScales aCount
      have l_36 := g_35.1
      have g_37 := g_20.trans g_35
      have l_38 := g_37.1
      have r_39 := r_22.grow g_35
      have r_40 := r_17.grow g_35
      obtain rfl := r_29.isL.eqn
      have u_41 := r_29.up
      have u_42 := r_29.lo
      obtain rfl := r_33.isL.eqn
      have u_44 := r_33.up
      have u_45 := r_33.lo
      refine T_laws_toFloat32S_i ⟨_, (i_aList.grow g_37), o0, fun a_48 n_49 e_50 H_4 g_52 r_51 => ?_⟩
      have l_53 := g_52.1
      have g_54 := g_37.trans g_52
      have l_55 := g_54.1
      have r_56 := r_39.grow g_52
      have r_57 := r_40.grow g_52
      have r_58 := r_29.grow g_52
      have r_59 := r_33.grow g_52
      obtain rfl := r_51.isL.eqn
      have u_60 := r_51.up
      have u_61 := r_51.lo
      refine T_laws_toFloat32S_i ⟨_, (i_aScales.grow g_54), o0, fun a_63 n_64 e_65 H_5 g_67 r_66 => ?_⟩
      have l_68 := g_67.1
      have g_69 := g_54.trans g_67
      have l_70 := g_69.1
      have r_71 := r_56.grow g_67
      have r_72 := r_57.grow g_67
      have r_73 := r_58.grow g_67
      have r_74 := r_59.grow g_67
      have r_75 := r_51.grow g_67
      obtain rfl := r_66.isL.eqn
      have u_76 := r_66.up
      have u_77 := r_66.lo
      refine T_impl_Pursue_i ⟨_, _, r_75.isL, r_66.isL, o0, o0, fun a_79 n_80 e_81 a_83 n_84 e_85 H_6 g_88 r_82 r_86 p_104 => ?_⟩
      have z_87 := impl_Pursue_len l_aList l_aScales aCount
      have l_89 := g_88.1
      have g_90 := g_69.trans g_88
      have l_91 := g_90.1
      have r_92 := r_71.grow g_88
      have r_93 := r_72.grow g_88
      have r_94 := r_73.grow g_88
      have r_95 := r_74.grow g_88
      have r_96 := r_75.grow g_88
      have r_97 := r_66.grow g_88
      obtain rfl := r_82.isL.eqn
      have u_98 := r_82.up
      have u_99 := r_82.lo
      obtain rfl := r_86.isL.eqn
      have u_101 := r_86.up
      have u_102 := r_86.lo
      refine T_laws_eqAtomS_i ⟨_, _, r_82.isL, r_94.isL, o4, o4, fun  H_7 g_105  => ?_⟩
      have l_106 := g_105.1
      have g_107 := g_90.trans g_105
      have l_108 := g_107.1
      have r_109 := r_92.grow g_105
      have r_110 := r_93.grow g_105
      have r_111 := r_94.grow g_105
      have r_112 := r_95.grow g_105
      have r_113 := r_96.grow g_105
      have r_114 := r_97.grow g_105
      have r_115 := r_82.grow g_105
      have r_116 := r_86.grow g_105
      refine Br.intro (fun c_117 => ?_) (fun c_117 => ?_)
      · have e := e.trans (cond_t c_117)
        have c_117n := nf_of_t c_117
        first | exact hk _ | (exfalso; cases e; done) | (rw [← e]; exact hk _)
      · have e := e.trans (cond_f c_117)
        have c_117n := nt_of_f c_117
        refine T_laws_eqFloat32S_i ⟨_, _, r_116.isL, r_112.isL, o0, o0, ?_⟩
        refine Br.intro (fun c_118 => ?_) (fun c_118 => ?_)
        · have e := e.trans (cond_t c_118)
          have c_118n := nf_of_t c_118
          first | exact hk _ | (exfalso; cases e; done) | (rw [← e]; exact hk _)
        · have e := e.trans (cond_f c_118)
          have c_118n := nt_of_f c_118
          refine Br.intro (fun c_119 => ?_) (fun c_119 => ?_)
          · have e := e.trans (cond_t c_119)
            have c_119n := nf_of_t c_119
            first | exact hk _ | (exfalso; cases e; done) | (rw [← e]; exact hk _)
          · have e := e.trans (cond_f c_119)
            have c_119n := nt_of_f c_119
            refine T_laws_toFloat32S_i ⟨_, (i_aList.grow g_107), o0, fun a_120 n_121 e_122 H_8 g_124 r_123 => ?_⟩
            have l_125 := g_124.1
            have g_126 := g_107.trans g_124
            have l_127 := g_126.1
            have r_128 := r_109.grow g_124
            have r_129 := r_110.grow g_124
            have r_130 := r_111.grow g_124
            have r_131 := r_112.grow g_124
            have r_132 := r_113.grow g_124
            have r_133 := r_114.grow g_124
            have r_134 := r_115.grow g_124
            have r_135 := r_116.grow g_124
            obtain rfl := r_123.isL.eqn
            have u_136 := r_123.up
            have u_137 := r_123.lo
            refine T_laws_eqFloat32S_i ⟨_, _, r_132.isL, r_123.isL, o0, o0, ?_⟩
            refine Br.intro (fun c_139 => ?_) (fun c_139 => ?_)
            · have e := e.trans (cond_t c_139)
              have c_139n := nf_of_t c_139
              first | exact hk _ | (exfalso; cases e; done) | (rw [← e]; exact hk _)
            · have e := e.trans (cond_f c_139)
              have c_139n := nt_of_f c_139
              refine T_laws_toFloat32S_i ⟨_, (i_aScales.grow g_126), o0, fun a_140 n_141 e_142 H_9 g_144 r_143 => ?_⟩
              have l_145 := g_144.1
              have g_146 := g_126.trans g_144
              have l_147 := g_146.1
              have r_148 := r_128.grow g_144
              have r_149 := r_129.grow g_144
              have r_150 := r_130.grow g_144
              have r_151 := r_131.grow g_144
              have r_152 := r_132.grow g_144
              have r_153 := r_133.grow g_144
              have r_154 := r_134.grow g_144
              have r_155 := r_135.grow g_144
              have r_156 := r_123.grow g_144
              obtain rfl := r_143.isL.eqn
              have u_157 := r_143.up
              have u_158 := r_143.lo
              refine T_laws_eqFloat32S_i ⟨_, _, r_153.isL, r_143.isL, o0, o0, ?_⟩
              refine Br.intro (fun c_160 => ?_) (fun c_160 => ?_)
              · have e := e.trans (cond_t c_160)
                have c_160n := nf_of_t c_160
                first | exact hk _ | (exfalso; cases e; done) | (rw [← e]; exact hk _)
              · have e := e.trans (cond_f c_160)
                have c_160n := nt_of_f c_160
                refine T_laws_markFloat32S_i ⟨_, _, r_152, o0, (fun H_10 k_161 o_162 => ?_)⟩
                have l_163 := k_161.1
                have g_164 := g_146.keepA (fun x hx => by have := u_61 x hx; omega) k_161
                have l_165 := g_164.1
                have r_166 := r_148.keepA (fun x y hx hy => by have := u_61 x hx; have := u_60 x hx; have := u_12 y hy; have := u_11 y hy; omega) k_161
                have r_167 := r_149.keepA (fun x y hx hy => by have := u_61 x hx; have := u_60 x hx; have := u_24 y hy; have := u_23 y hy; omega) k_161
                have r_168 := r_150.keepA (fun x y hx hy => by have := u_61 x hx; have := u_60 x hx; have := u_42 y hy; have := u_41 y hy; omega) k_161
                have r_169 := r_151.keepA (fun x y hx hy => by have := u_61 x hx; have := u_60 x hx; have := u_45 y hy; have := u_44 y hy; omega) k_161
                have r_170 := r_153.keepA (fun x y hx hy => by have := u_61 x hx; have := u_60 x hx; have := u_77 y hy; have := u_76 y hy; omega) k_161
                have r_171 := r_154.keepA (fun x y hx hy => by have := u_61 x hx; have := u_60 x hx; have := u_99 y hy; have := u_98 y hy; omega) k_161
                have r_172 := r_155.keepA (fun x y hx hy => by have := u_61 x hx; have := u_60 x hx; have := u_102 y hy; have := u_101 y hy; omega) k_161
                have r_173 := r_156.keepA (fun x y hx hy => by have := u_61 x hx; have := u_60 x hx; have := u_137 y hy; have := u_136 y hy; omega) k_161
                have r_174 := r_143.keepA (fun x y hx hy => by have := u_61 x hx; have := u_60 x hx; have := u_158 y hy; have := u_157 y hy; omega) k_161
                refine T_laws_markFloat32S_i ⟨_, _, r_170, o0, (fun H_11 k_175 o_176 => ?_)⟩
                have l_177 := k_175.1
                have g_178 := g_164.keepA (fun x hx => by have := u_77 x hx; omega) k_175
                have l_179 := g_178.1
                have r_180 := r_166.keepA (fun x y hx hy => by have := u_77 x hx; have := u_76 x hx; have := u_12 y hy; have := u_11 y hy; omega) k_175
                have r_181 := r_167.keepA (fun x y hx hy => by have := u_77 x hx; have := u_76 x hx; have := u_24 y hy; have := u_23 y hy; omega) k_175
                have r_182 := r_168.keepA (fun x y hx hy => by have := u_77 x hx; have := u_76 x hx; have := u_42 y hy; have := u_41 y hy; omega) k_175
                have r_183 := r_169.keepA (fun x y hx hy => by have := u_77 x hx; have := u_76 x hx; have := u_45 y hy; have := u_44 y hy; omega) k_175
                have r_184 := o_162.keepA (fun x y hx hy => by have := u_77 x hx; have := u_76 x hx; have := u_61 y hy; have := u_60 y hy; omega) k_175
                have r_185 := r_171.keepA (fun x y hx hy => by have := u_77 x hx; have := u_76 x hx; have := u_99 y hy; have := u_98 y hy; omega) k_175
                have r_186 := r_172.keepA (fun x y hx hy => by have := u_77 x hx; have := u_76 x hx; have := u_102 y hy; have := u_101 y hy; omega) k_175
                have r_187 := r_173.keepA (fun x y hx hy => by have := u_77 x hx; have := u_76 x hx; have := u_137 y hy; have := u_136 y hy; omega) k_175
                have r_188 := r_174.keepA (fun x y hx hy => by have := u_77 x hx; have := u_76 x hx; have := u_158 y hy; have := u_157 y hy; omega) k_175
                refine Br.intro (fun c_189 => ?_) (fun c_189 => ?_)
                · have e := e.trans (cond_t c_189)
                  have c_189' := of_decide_eq_true c_189
                  first | exact hk _ | (exfalso; cases e; done) | (rw [← e]; exact hk _)
                · have e := e.trans (cond_f c_189)
                  have c_189' := of_decide_eq_false c_189
                  refine T_laws_eqAtomS_i ⟨_, _, r_185.isL, r_182.isL, o4, o4, fun  H_12 g_190  => ?_⟩
                  have l_191 := g_190.1
                  have g_192 := g_178.trans g_190
                  have l_193 := g_192.1
                  have r_194 := r_180.grow g_190
                  have r_195 := r_181.grow g_190
                  have r_196 := r_182.grow g_190
                  have r_197 := r_183.grow g_190
                  have r_198 := r_184.grow g_190
                  have r_199 := o_176.grow g_190
                  have r_200 := r_185.grow g_190
                  have r_201 := r_186.grow g_190
                  have r_202 := r_187.grow g_190
                  have r_203 := r_188.grow g_190
                  refine Br.intro (fun c_204 => ?_) (fun c_204 => ?_)
                  · have e := e.trans (cond_t c_204)
                    have c_204n := nf_of_t c_204
                    first | exact hk _ | (exfalso; cases e; done) | (rw [← e]; exact hk _)
                  · have e := e.trans (cond_f c_204)
                    have c_204n := nt_of_f c_204
                    refine T_laws_eqFloat32S_i ⟨_, _, r_201.isL, r_197.isL, o0, o0, ?_⟩
                    refine Br.intro (fun c_205 => ?_) (fun c_205 => ?_)
                    · have e := e.trans (cond_t c_205)
                      have c_205n := nf_of_t c_205
                      first | exact hk _ | (exfalso; cases e; done) | (rw [← e]; exact hk _)
                    · have e := e.trans (cond_f c_205)
                      have c_205n := nt_of_f c_205
                      refine Br.intro (fun c_206 => ?_) (fun c_206 => ?_)
                      · have e := e.trans (cond_t c_206)
                        have c_206n := nf_of_t c_206
                        first | exact hk _ | (exfalso; cases e; done) | (rw [← e]; exact hk _)
                      · have e := e.trans (cond_f c_206)
                        have c_206n := nt_of_f c_206
                        refine T_laws_markAtomS_i ⟨_, _, r_200, o4, (fun H_13 k_207 o_208 => ?_)⟩
                        have l_209 := k_207.1
                        have g_210 := g_192.keepA (fun x hx => by have := u_99 x hx; omega) k_207
                        have l_211 := g_210.1
                        have r_212 := r_194.keepA (fun x y hx hy => by have := u_99 x hx; have := u_98 x hx; have := u_12 y hy; have := u_11 y hy; omega) k_207
                        have r_213 := r_195.keepA (fun x y hx hy => by have := u_99 x hx; have := u_98 x hx; have := u_24 y hy; have := u_23 y hy; omega) k_207
                        have r_214 := r_196.keepA (fun x y hx hy => by have := u_99 x hx; have := u_98 x hx; have := u_42 y hy; have := u_41 y hy; omega) k_207
                        have r_215 := r_197.keepA (fun x y hx hy => by have := u_99 x hx; have := u_98 x hx; have := u_45 y hy; have := u_44 y hy; omega) k_207
                        have r_216 := r_198.keepA (fun x y hx hy => by have := u_99 x hx; have := u_98 x hx; have := u_61 y hy; have := u_60 y hy; omega) k_207
                        have r_217 := r_199.keepA (fun x y hx hy => by have := u_99 x hx; have := u_98 x hx; have := u_77 y hy; have := u_76 y hy; omega) k_207
                        have r_218 := r_201.keepA (p_104) k_207
                        have r_219 := r_202.keepA (fun x y hx hy => by have := u_99 x hx; have := u_98 x hx; have := u_137 y hy; have := u_136 y hy; omega) k_207
                        have r_220 := r_203.keepA (fun x y hx hy => by have := u_99 x hx; have := u_98 x hx; have := u_158 y hy; have := u_157 y hy; omega) k_207
                        refine T_laws_markFloat32S_i ⟨_, _, r_218, o0, (fun H_14 k_221 o_222 => ?_)⟩
                        have l_223 := k_221.1
                        have g_224 := g_210.keepA (fun x hx => by have := u_102 x hx; omega) k_221
                        have l_225 := g_224.1
                        have r_226 := r_212.keepA (fun x y hx hy => by have := u_102 x hx; have := u_101 x hx; have := u_12 y hy; have := u_11 y hy; omega) k_221
                        have r_227 := r_213.keepA (fun x y hx hy => by have := u_102 x hx; have := u_101 x hx; have := u_24 y hy; have := u_23 y hy; omega) k_221
                        have r_228 := r_214.keepA (fun x y hx hy => by have := u_102 x hx; have := u_101 x hx; have := u_42 y hy; have := u_41 y hy; omega) k_221
                        have r_229 := r_215.keepA (fun x y hx hy => by have := u_102 x hx; have := u_101 x hx; have := u_45 y hy; have := u_44 y hy; omega) k_221
                        have r_230 := r_216.keepA (fun x y hx hy => by have := u_102 x hx; have := u_101 x hx; have := u_61 y hy; have := u_60 y hy; omega) k_221
                        have r_231 := r_217.keepA (fun x y hx hy => by have := u_102 x hx; have := u_101 x hx; have := u_77 y hy; have := u_76 y hy; omega) k_221
                        have r_232 := o_208.keepA (p_104).symm k_221
                        have r_233 := r_219.keepA (fun x y hx hy => by have := u_102 x hx; have := u_101 x hx; have := u_137 y hy; have := u_136 y hy; omega) k_221
                        have r_234 := r_220.keepA (fun x y hx hy => by have := u_102 x hx; have := u_101 x hx; have := u_158 y hy; have := u_157 y hy; omega) k_221
                        refine T_laws_heldAtomS_i ⟨_, r_232.isL, o4, ?_⟩
                        refine Br.intro (fun c_235 => ?_) (fun c_235 => ?_)
                        · have e := e.trans (cond_t c_235)
                          have c_235' := of_decide_eq_true c_235
                          first | exact hk _ | (exfalso; cases e; done) | (rw [← e]; exact hk _)
                        · have e := e.trans (cond_f c_235)
                          have c_235' := of_decide_eq_false c_235
                          refine T_laws_heldFloat32S_i ⟨_, o_222.isL, o0, ?_⟩
                          refine Br.intro (fun c_236 => ?_) (fun c_236 => ?_)
                          · have e := e.trans (cond_t c_236)
                            have c_236' := of_decide_eq_true c_236
                            first | exact hk _ | (exfalso; cases e; done) | (rw [← e]; exact hk _)
                          · have e := e.trans (cond_f c_236)
                            have c_236' := of_decide_eq_false c_236
                            refine Br.intro (fun c_237 => ?_) (fun c_237 => ?_)
                            · have e := e.trans (cond_t c_237)
                              have c_237' := ine_t c_237
                              first | exact hk _ | (exfalso; cases e; done) | (rw [← e]; exact hk _)
                            · have e := e.trans (cond_f c_237)
                              have c_237' := ine_f c_237
                              refine T_laws_toFloat32S_i ⟨_, (i_aList.grow g_224), o0, fun a_238 n_239 e_240 H_15 g_242 r_241 => ?_⟩
                              have l_243 := g_242.1
                              have g_244 := g_224.trans g_242
                              have l_245 := g_244.1
                              have r_246 := r_226.grow g_242
                              have r_247 := r_227.grow g_242
                              have r_248 := r_228.grow g_242
                              have r_249 := r_229.grow g_242
                              have r_250 := r_230.grow g_242
                              have r_251 := r_231.grow g_242
                              have r_252 := r_232.grow g_242
                              have r_253 := o_222.grow g_242
                              have r_254 := r_233.grow g_242
                              have r_255 := r_234.grow g_242
                              obtain rfl := r_241.isL.eqn
                              have u_256 := r_241.up
                              have u_257 := r_241.lo
                              refine T_laws_toFloat32S_i ⟨_, (i_aScales.grow g_244), o0, fun a_259 n_260 e_261 H_16 g_263 r_262 => ?_⟩
                              have l_264 := g_263.1
                              have g_265 := g_244.trans g_263
                              have l_266 := g_265.1
                              have r_267 := r_246.grow g_263
                              have r_268 := r_247.grow g_263
                              have r_269 := r_248.grow g_263
                              have r_270 := r_249.grow g_263
                              have r_271 := r_250.grow g_263
                              have r_272 := r_251.grow g_263
                              have r_273 := r_252.grow g_263
                              have r_274 := r_253.grow g_263
                              have r_275 := r_254.grow g_263
                              have r_276 := r_255.grow g_263
                              have r_277 := r_241.grow g_263
                              obtain rfl := r_262.isL.eqn
                              have u_278 := r_262.up
                              have u_279 := r_262.lo
                              refine T_impl_Pursue_i ⟨_, _, r_277.isL, r_262.isL, o0, o0, fun a_281 n_282 e_283 a_285 n_286 e_287 H_17 g_290 r_284 r_288 p_312 => ?_⟩
                              have z_289 := impl_Pursue_len l_aList l_aScales aCount
                              have l_291 := g_290.1
                              have g_292 := g_265.trans g_290
                              have l_293 := g_292.1
                              have r_294 := r_267.grow g_290
                              have r_295 := r_268.grow g_290
                              have r_296 := r_269.grow g_290
                              have r_297 := r_270.grow g_290
                              have r_298 := r_271.grow g_290
                              have r_299 := r_272.grow g_290
                              have r_300 := r_273.grow g_290
                              have r_301 := r_274.grow g_290
                              have r_302 := r_275.grow g_290
                              have r_303 := r_276.grow g_290
                              have r_304 := r_277.grow g_290
                              have r_305 := r_262.grow g_290
                              obtain rfl := r_284.isL.eqn
                              have u_306 := r_284.up
                              have u_307 := r_284.lo
                              obtain rfl := r_288.isL.eqn
                              have u_309 := r_288.up
                              have u_310 := r_288.lo
                              refine T_laws_eqAtomS_i ⟨_, _, r_284.isL, r_296.isL, o4, o4, fun  H_18 g_313  => ?_⟩
                              have l_314 := g_313.1
                              have g_315 := g_292.trans g_313
                              have l_316 := g_315.1
                              have r_317 := r_294.grow g_313
                              have r_318 := r_295.grow g_313
                              have r_319 := r_296.grow g_313
                              have r_320 := r_297.grow g_313
                              have r_321 := r_298.grow g_313
                              have r_322 := r_299.grow g_313
                              have r_323 := r_300.grow g_313
                              have r_324 := r_301.grow g_313
                              have r_325 := r_302.grow g_313
                              have r_326 := r_303.grow g_313
                              have r_327 := r_304.grow g_313
                              have r_328 := r_305.grow g_313
                              have r_329 := r_284.grow g_313
                              have r_330 := r_288.grow g_313
                              refine Br.intro (fun c_331 => ?_) (fun c_331 => ?_)
                              · have e := e.trans (cond_t c_331)
                                have c_331n := nf_of_t c_331
                                first | exact hk _ | (exfalso; cases e; done) | (rw [← e]; exact hk _)
                              · have e := e.trans (cond_f c_331)
                                have c_331n := nt_of_f c_331
                                refine T_laws_eqFloat32S_i ⟨_, _, r_330.isL, r_320.isL, o0, o0, ?_⟩
                                refine Br.intro (fun c_332 => ?_) (fun c_332 => ?_)
                                · have e := e.trans (cond_t c_332)
                                  have c_332n := nf_of_t c_332
                                  first | exact hk _ | (exfalso; cases e; done) | (rw [← e]; exact hk _)
                                · have e := e.trans (cond_f c_332)
                                  have c_332n := nt_of_f c_332
                                  refine Br.intro (fun c_333 => ?_) (fun c_333 => ?_)
                                  · have e := e.trans (cond_t c_333)
                                    have c_333n := nf_of_t c_333
                                    first | exact hk _ | (exfalso; cases e; done) | (rw [← e]; exact hk _)
                                  · have e := e.trans (cond_f c_333)
                                    have c_333n := nt_of_f c_333
                                    refine T_laws_heldAtomS_i ⟨_, r_323.isL, o4, ?_⟩
                                    refine Br.intro (fun c_334 => ?_) (fun c_334 => ?_)
                                    · have e := e.trans (cond_t c_334)
                                      have c_334' := of_decide_eq_true c_334
                                      first | exact hk _ | (exfalso; cases e; done) | (rw [← e]; exact hk _)
                                    · have e := e.trans (cond_f c_334)
                                      have c_334' := of_decide_eq_false c_334
                                      refine T_laws_heldFloat32S_i ⟨_, r_324.isL, o0, ?_⟩
                                      refine Br.intro (fun c_335 => ?_) (fun c_335 => ?_)
                                      · have e := e.trans (cond_t c_335)
                                        have c_335' := of_decide_eq_true c_335
                                        first | exact hk _ | (exfalso; cases e; done) | (rw [← e]; exact hk _)
                                      · have e := e.trans (cond_f c_335)
                                        have c_335' := of_decide_eq_false c_335
                                        refine Br.intro (fun c_336 => ?_) (fun c_336 => ?_)
                                        · have e := e.trans (cond_t c_336)
                                          have c_336' := ine_t c_336
                                          first | exact hk _ | (exfalso; cases e; done) | (rw [← e]; exact hk _)
                                        · have e := e.trans (cond_f c_336)
                                          have c_336' := ine_f c_336
                                          first | exact hk _ | (exfalso; cases e; done) | (rw [← e]; exact hk _)
theorem laws_FnExactPursue_ok : FnOk Try.prog 10 S_laws_FnExactPursue := by
  refine FnOk.body mix_ok E_laws_FnExactPursue_ok Try.func10 rfl (by kernel_rfl) (by kernel_rfl) ?_ ?_ ?_ ?_ ?_
  · intro args H K K' h hk
    simp only [S_laws_FnExactPursue] at *
    unfold F_laws_FnExactPursue at *
    split at hk
    · obtain ⟨l_aList, l_aScales, h_0, h_1, h_2, h_3, h_4, h_5, h_6, k⟩ := hk
      exact ⟨l_aList, l_aScales, h_0, h_1, h_2, h_3, h_4, h_5, h_6, (fun H' => h _ _ (k H'))⟩
    · exact hk.elim
  · intro hq; cases hq
  · intro args H K hk
    simp only [S_laws_FnExactPursue] at *
    unfold F_laws_FnExactPursue at *
    split at hk
    · obtain ⟨l_aList, l_aScales, h_0, h_1, h_2, h_3, h_4, h_5, h_6, k⟩ := hk
      exact ⟨_, _, k []⟩
    · exact hk.elim
  · intro hq; cases hq
  · have mm := @laws_FnExactPursue_main
    have ml := fun (args : List Value) (H : AHeap) (K : Value → AHeap → Prop) => bodyL_body (P := Try.prog) (env := E_laws_FnExactPursue ) (fn := Try.f10) (args := args) (H := H) (K := K) E_laws_FnExactPursue_ok 
    revert mm ml
    generalize bodyK Try.prog E_laws_FnExactPursue Try.f10 = Q
    generalize bodyL Try.prog E_laws_FnExactPursue Try.f10 = QL
    intro mm ml args H K hk
    simp only [S_laws_FnExactPursue] at *
    unfold F_laws_FnExactPursue at *
    split at hk
    · exact ml _ H K (mm _ _ _ _ _ _ _ H K hk)
    · exact hk.elim
end Go.Proofs.Ytghkkclonabpkab.Ai
