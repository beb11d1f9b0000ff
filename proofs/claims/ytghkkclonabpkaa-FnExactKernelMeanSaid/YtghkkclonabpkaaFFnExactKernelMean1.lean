/- What functions of the program come to on the abstract machine, and that they do so; printed by a program of mine around proofs of mine. -/
import Derived.Test.YtghkkclonabpkaaFFnExactKernelMean0
set_option linter.unusedVariables false
set_option linter.unusedSimpArgs false
set_option maxRecDepth 100000
namespace Go.Proofs.Ytghkkclonabpkaa.Ai
open Go
attribute [local irreducible] bodyK
def p_laws_eqFloat32S_l1 (l_a : List Nat) (l_b : List Nat) : Nat → Bool → Int → Bool
  | 0, _, _ => false
  | μ + 1, t4, i => (bif decide ((i : Int) < (l_a.length : Int)) then (bif !((p_laws_sameFloat (fwide (((l_a).getD (i : Int).toNat 0))) (fwide (((l_b).getD (i : Int).toNat 0))))) then false else (p_laws_eqFloat32S_l1 l_a l_b μ t4 (i + 1))) else true)
theorem p_laws_eqFloat32S_l1_s (l_a : List Nat) (l_b : List Nat) (μ : Nat) (t4 : Bool) (i : Int) : p_laws_eqFloat32S_l1 l_a l_b (μ + 1) t4 i = (bif decide ((i : Int) < (l_a.length : Int)) then (bif !((p_laws_sameFloat (fwide (((l_a).getD (i : Int).toNat 0))) (fwide (((l_b).getD (i : Int).toNat 0))))) then false else (p_laws_eqFloat32S_l1 l_a l_b μ t4 (i + 1))) else true) := rfl
def p_laws_eqFloat32S (l_a : List Nat) (l_b : List Nat) : Bool := ((bif ((l_a.length : Int) : Int) != (l_b.length : Int) then false else (p_laws_eqFloat32S_l1 l_a l_b (Int.toNat ((l_a.length : Int) - (0 : Int)) + 1) false (0 : Int))))
theorem p_laws_eqFloat32S_eq (l_a : List Nat) (l_b : List Nat) : p_laws_eqFloat32S l_a l_b = ((bif ((l_a.length : Int) : Int) != (l_b.length : Int) then false else (p_laws_eqFloat32S_l1 l_a l_b (Int.toNat ((l_a.length : Int) - (0 : Int)) + 1) false (0 : Int)))) := rfl
def T_laws_eqFloat32S (a_a : Option Addr) (a_n : Nat) (a_e : Nat) (b_a : Option Addr) (b_n : Nat) (b_e : Nat) (H : AHeap) (K : Bool → AHeap → Prop) : Prop := ∃ (l_a : List Nat), ∃ (l_b : List Nat), IsL fF H a_a a_n l_a ∧ IsL fF H b_a b_n l_b ∧ l_a.length < 1073741824 ∧ l_b.length < 1073741824 ∧ K (p_laws_eqFloat32S l_a l_b) H
theorem T_laws_eqFloat32S_i {a_a : Option Addr} {a_n : Nat} {a_e : Nat} {b_a : Option Addr} {b_n : Nat} {b_e : Nat} {H : AHeap} {K : Bool → AHeap → Prop} (h : ∃ (l_a : List Nat), ∃ (l_b : List Nat), IsL fF H a_a a_n l_a ∧ IsL fF H b_a b_n l_b ∧ l_a.length < 1073741824 ∧ l_b.length < 1073741824 ∧ K (p_laws_eqFloat32S l_a l_b) H) : T_laws_eqFloat32S a_a a_n a_e b_a b_n b_e H K := h
theorem laws_sameFloat_self (y : Nat) : p_laws_sameFloat y y = true := by
  rw [p_laws_sameFloat_eq]
  cases feq .f64 y y <;> simp
theorem laws_eqFloat32S_go (l : List Nat) : ∀ (μ : Nat) (t : Bool) (i : Nat), l.length - i < μ → p_laws_eqFloat32S_l1 l l μ t (i : Int) = true := by
  intro μ
  induction μ with
  | zero => intro t i h; omega
  | succ μ ih =>
    intro t i hm
    rw [p_laws_eqFloat32S_l1_s]
    by_cases h : i < l.length
    · rw [decide_eq_true (show (i : Int) < (l.length : Int) by omega), cond_true, laws_sameFloat_self]
      simp only [Bool.not_true, cond_false]
      exact ih t (i + 1) (by omega)
    · rw [decide_eq_false (show ¬ (i : Int) < (l.length : Int) by omega), cond_false]
theorem laws_eqFloat32S_self (l : List Nat) : p_laws_eqFloat32S l l = true := by
  rw [p_laws_eqFloat32S_eq]
  have h0 : ((l.length : Int) != (l.length : Int)) = false := by simp
  rw [h0, cond_false]
  exact laws_eqFloat32S_go l _ false 0 (by omega)
/-! laws_eqFloat32S: function 19 -/
def E_laws_eqFloat32S : Env := envOf [(18, S_laws_sameFloat)]
def F_laws_eqFloat32S : List Value → AHeap → (Value → AHeap → Prop) → Prop
  | [.slice a_a a_n a_e, .slice b_a b_n b_e], H, K => T_laws_eqFloat32S a_a a_n a_e b_a b_n b_e H fun (r1 : Bool) (H' : AHeap) => K (.bool r1) H'
  | _, _, _ => False
def S_laws_eqFloat32S : FSpec := { F := F_laws_eqFloat32S, quiet := true, tame := false }
theorem laws_eqFloat32S_vc (a_a : Option Addr) (a_n : Nat) (a_e : Nat) (b_a : Option Addr) (b_n : Nat) (b_e : Nat) (H : AHeap) (K : Value → AHeap → Prop) : bodyK Try.prog E_laws_eqFloat32S Try.f19 [.slice a_a a_n a_e, .slice b_a b_n b_e] H K =
  (Br (((a_n : Int) : Int) != (b_n : Int)) (K (.bool false) H) (loopK (exK Try.prog E_laws_eqFloat32S (cl (cl (cr (cl (cr (cr (bodyC Try.f19)))))))) [.slice a_a a_n a_e, .slice b_a b_n b_e, undef, undef, .bool false, .int .i64 0, .slice a_a a_n a_e, .int .i64 (a_n : Int), .slice b_a b_n b_e, .int .i64 (b_n : Int), .bool (((a_n : Int) : Int) != (b_n : Int)), undef, undef, undef, undef, undef, undef, undef, undef, undef, undef, undef, undef, undef, undef, undef, undef, undef, undef] H (blockQ 0 (seqQ (exK Try.prog E_laws_eqFloat32S (cr (cr (cr (bodyC Try.f19))))) (retK Try.prog Try.f19 K))))) := by kernel_rfl
theorem laws_eqFloat32S_r1 (a_a : Option Addr) (a_e : Nat) (a_n : Nat) (b_a : Option Addr) (b_e : Nat) (b_n : Nat) (t4 : Bool) (i : Int) (g11 g12 g13 g14 g15 g16 g17 g18 g19 g20 g21 g22 g23 g24 g25 g26 g27 g28 : Value) (H : AHeap) (R : Post) : exK Try.prog E_laws_eqFloat32S (cl (cl (cr (cl (cr (cr (bodyC Try.f19))))))) [.slice a_a a_n a_e, .slice b_a b_n b_e, undef, undef, .bool t4, .int .i64 i, .slice a_a a_n a_e, .int .i64 (a_n : Int), .slice b_a b_n b_e, .int .i64 (b_n : Int), .bool (((a_n : Int) : Int) != (b_n : Int)), g11, g12, g13, g14, g15, g16, g17, g18, g19, g20, g21, g22, g23, g24, g25, g26, g27, g28] H R =
  (Br (decide ((i : Int) < (a_n : Int))) ((0 : Int) ≤ i ∧ i < (a_n : Int) ∧ ∃ b1 f1, (a_a : Option Addr) = some ⟨b1, f1, none⟩ ∧ ∃ x1 : Nat,  rdC H b1 (f1 + (i : Int).toNat * 1) = some (.float .f32 x1) ∧ (0 : Int) ≤ i ∧ i < (b_n : Int) ∧ ∃ b2 f2, (b_a : Option Addr) = some ⟨b2, f2, none⟩ ∧ ∃ x2 : Nat,  rdC H b2 (f2 + (i : Int).toNat * 1) = some (.float .f32 x2) ∧ T_laws_sameFloat (fwide x1) (fwide x2) H fun (r1 : Bool) (H1 : AHeap) => Br (!r1) (R .ret [.slice a_a a_n a_e, .slice b_a b_n b_e, undef, undef, .bool false, .int .i64 i, .slice a_a a_n a_e, .int .i64 (a_n : Int), .slice b_a b_n b_e, .int .i64 (b_n : Int), .bool (((a_n : Int) : Int) != (b_n : Int)), .int .i64 i, .slice a_a a_n a_e, .int .i64 (a_n : Int), .bool (decide ((i : Int) < (a_n : Int))), g15, g16, .slice a_a a_n a_e, .int .i64 i, .pointer (some ⟨b1, f1 + (i : Int).toNat * 1, none⟩), .float .f32 x1, .float .f64 (fwide x1), .slice b_a b_n b_e, .int .i64 i, .pointer (some ⟨b2, f2 + (i : Int).toNat * 1, none⟩), .float .f32 x2, .float .f64 (fwide x2), .bool r1, .bool (!r1)] H1) (R .normal [.slice a_a a_n a_e, .slice b_a b_n b_e, undef, undef, .bool t4, .int .i64 (IntKind.wrap .i64 (i + 1)), .slice a_a a_n a_e, .int .i64 (a_n : Int), .slice b_a b_n b_e, .int .i64 (b_n : Int), .bool (((a_n : Int) : Int) != (b_n : Int)), .int .i64 i, .slice a_a a_n a_e, .int .i64 (a_n : Int), .bool (decide ((i : Int) < (a_n : Int))), .int .i64 i, .int .i64 (IntKind.wrap .i64 (i + 1)), .slice a_a a_n a_e, .int .i64 i, .pointer (some ⟨b1, f1 + (i : Int).toNat * 1, none⟩), .float .f32 x1, .float .f64 (fwide x1), .slice b_a b_n b_e, .int .i64 i, .pointer (some ⟨b2, f2 + (i : Int).toNat * 1, none⟩), .float .f32 x2, .float .f64 (fwide x2), .bool r1, .bool (!r1)] H1)) (R (.exit 0) [.slice a_a a_n a_e, .slice b_a b_n b_e, undef, undef, .bool t4, .int .i64 i, .slice a_a a_n a_e, .int .i64 (a_n : Int), .slice b_a b_n b_e, .int .i64 (b_n : Int), .bool (((a_n : Int) : Int) != (b_n : Int)), .int .i64 i, .slice a_a a_n a_e, .int .i64 (a_n : Int), .bool (decide ((i : Int) < (a_n : Int))), g15, g16, g17, g18, g19, g20, g21, g22, g23, g24, g25, g26, g27, g28] H)) := by kernel_rfl
def laws_eqFloat32S_I1 (a_a : Option Addr) (a_e : Nat) (a_n : Nat) (b_a : Option Addr) (b_e : Nat) (b_n : Nat) (Inv : Nat → Bool → Int → AHeap → Prop) : Nat → List Value → AHeap → Prop := fun μ tm H => ∃ (t4 : Bool), ∃ (i : Int), ∃ g11 g12 g13 g14 g15 g16 g17 g18 g19 g20 g21 g22 g23 g24 g25 g26 g27 g28, tm = [.slice a_a a_n a_e, .slice b_a b_n b_e, undef, undef, .bool t4, .int .i64 i, .slice a_a a_n a_e, .int .i64 (a_n : Int), .slice b_a b_n b_e, .int .i64 (b_n : Int), .bool (((a_n : Int) : Int) != (b_n : Int)), g11, g12, g13, g14, g15, g16, g17, g18, g19, g20, g21, g22, g23, g24, g25, g26, g27, g28] ∧ Inv μ t4 i H
theorem laws_eqFloat32S_L1 (a_a : Option Addr) (a_e : Nat) (a_n : Nat) (b_a : Option Addr) (b_e : Nat) (b_n : Nat) {Q : Post} (Inv : Nat → Bool → Int → AHeap → Prop) (ν : Nat) (t4 : Bool) (i : Int) (g11 g12 g13 g14 g15 g16 g17 g18 g19 g20 g21 g22 g23 g24 g25 g26 g27 g28 : Value) (H : AHeap) (h0 : Inv ν t4 i H)
    (hs : ∀ (μ : Nat) (t4 : Bool) (i : Int) (g11 g12 g13 g14 g15 g16 g17 g18 g19 g20 g21 g22 g23 g24 g25 g26 g27 g28 : Value) (H : AHeap), Inv μ t4 i H → exK Try.prog E_laws_eqFloat32S (cl (cl (cr (cl (cr (cr (bodyC Try.f19))))))) [.slice a_a a_n a_e, .slice b_a b_n b_e, undef, undef, .bool t4, .int .i64 i, .slice a_a a_n a_e, .int .i64 (a_n : Int), .slice b_a b_n b_e, .int .i64 (b_n : Int), .bool (((a_n : Int) : Int) != (b_n : Int)), g11, g12, g13, g14, g15, g16, g17, g18, g19, g20, g21, g22, g23, g24, g25, g26, g27, g28] H (loopQ (laws_eqFloat32S_I1 a_a a_e a_n b_a b_e b_n Inv) μ Q)) : loopK (exK Try.prog E_laws_eqFloat32S (cl (cl (cr (cl (cr (cr (bodyC Try.f19)))))))) [.slice a_a a_n a_e, .slice b_a b_n b_e, undef, undef, .bool t4, .int .i64 i, .slice a_a a_n a_e, .int .i64 (a_n : Int), .slice b_a b_n b_e, .int .i64 (b_n : Int), .bool (((a_n : Int) : Int) != (b_n : Int)), g11, g12, g13, g14, g15, g16, g17, g18, g19, g20, g21, g22, g23, g24, g25, g26, g27, g28] H Q :=
  ⟨laws_eqFloat32S_I1 a_a a_e a_n b_a b_e b_n Inv, ν, ⟨t4, i, g11, g12, g13, g14, g15, g16, g17, g18, g19, g20, g21, g22, g23, g24, g25, g26, g27, g28, rfl, h0⟩, fun μ tm H h => by obtain ⟨t4, i, g11, g12, g13, g14, g15, g16, g17, g18, g19, g20, g21, g22, g23, g24, g25, g26, g27, g28, rfl, hI⟩ := h; exact hs μ t4 i g11 g12 g13 g14 g15 g16 g17 g18 g19 g20 g21 g22 g23 g24 g25 g26 g27 g28 H hI⟩
theorem laws_eqFloat32S_n1 {a_a : Option Addr} {a_e : Nat} {a_n : Nat} {b_a : Option Addr} {b_e : Nat} {b_n : Nat} {Q : Post} {Inv : Nat → Bool → Int → AHeap → Prop} {μ : Nat} (μ' : Nat) {t4 : Bool} {i : Int} {g11 g12 g13 g14 g15 g16 g17 g18 g19 g20 g21 g22 g23 g24 g25 g26 g27 g28 : Value} {H : AHeap} (hm : μ' < μ) (hI : Inv μ' t4 i H) : loopQ (laws_eqFloat32S_I1 a_a a_e a_n b_a b_e b_n Inv) μ Q .normal [.slice a_a a_n a_e, .slice b_a b_n b_e, undef, undef, .bool t4, .int .i64 i, .slice a_a a_n a_e, .int .i64 (a_n : Int), .slice b_a b_n b_e, .int .i64 (b_n : Int), .bool (((a_n : Int) : Int) != (b_n : Int)), g11, g12, g13, g14, g15, g16, g17, g18, g19, g20, g21, g22, g23, g24, g25, g26, g27, g28] H := ⟨μ', hm, t4, i, g11, g12, g13, g14, g15, g16, g17, g18, g19, g20, g21, g22, g23, g24, g25, g26, g27, g28, rfl, hI⟩
theorem laws_eqFloat32S_x1_0 (a_a : Option Addr) (a_e : Nat) (a_n : Nat) (b_a : Option Addr) (b_e : Nat) (b_n : Nat) (t4 : Bool) (i : Int) (g11 g12 g13 g14 g15 g16 g17 g18 g19 g20 g21 g22 g23 g24 g25 g26 g27 g28 : Value) (H : AHeap) (K : Value → AHeap → Prop)  {I : Nat → List Value → AHeap → Prop} {μ : Nat} : loopQ I μ (blockQ 0 (seqQ (exK Try.prog E_laws_eqFloat32S (cr (cr (cr (bodyC Try.f19))))) (retK Try.prog Try.f19 K))) (.exit 0) [.slice a_a a_n a_e, .slice b_a b_n b_e, undef, undef, .bool t4, .int .i64 i, .slice a_a a_n a_e, .int .i64 (a_n : Int), .slice b_a b_n b_e, .int .i64 (b_n : Int), .bool (((a_n : Int) : Int) != (b_n : Int)), g11, g12, g13, g14, g15, g16, g17, g18, g19, g20, g21, g22, g23, g24, g25, g26, g27, g28] H =
  (K (.bool true) H) := by kernel_rfl
theorem laws_eqFloat32S_x1_ret (a_a : Option Addr) (a_e : Nat) (a_n : Nat) (b_a : Option Addr) (b_e : Nat) (b_n : Nat) (t4 : Bool) (i : Int) (g11 g12 g13 g14 g15 g16 g17 g18 g19 g20 g21 g22 g23 g24 g25 g26 g27 g28 : Value) (H : AHeap) (K : Value → AHeap → Prop)  {I : Nat → List Value → AHeap → Prop} {μ : Nat} : loopQ I μ (blockQ 0 (seqQ (exK Try.prog E_laws_eqFloat32S (cr (cr (cr (bodyC Try.f19))))) (retK Try.prog Try.f19 K))) .ret [.slice a_a a_n a_e, .slice b_a b_n b_e, undef, undef, .bool t4, .int .i64 i, .slice a_a a_n a_e, .int .i64 (a_n : Int), .slice b_a b_n b_e, .int .i64 (b_n : Int), .bool (((a_n : Int) : Int) != (b_n : Int)), g11, g12, g13, g14, g15, g16, g17, g18, g19, g20, g21, g22, g23, g24, g25, g26, g27, g28] H =
  (K (.bool t4) H) := by kernel_rfl
theorem E_laws_eqFloat32S_ok : ∀ g, FnOk Try.prog g (E_laws_eqFloat32S g) := FnOk.envOf (by
  intro x hx
  simp only [List.mem_cons, List.not_mem_nil, or_false] at hx
  subst hx; exact laws_sameFloat_ok)
set_option maxHeartbeats 1000000 in
theorem laws_eqFloat32S_main (a_a : Option Addr) (a_n : Nat) (a_e : Nat) (b_a : Option Addr) (b_n : Nat) (b_e : Nat) (H : AHeap) (K : Value → AHeap → Prop) (h : T_laws_eqFloat32S a_a a_n a_e b_a b_n b_e H fun (r1 : Bool) (H' : AHeap) => K (.bool r1) H') : bodyK Try.prog E_laws_eqFloat32S Try.f19 [.slice a_a a_n a_e, .slice b_a b_n b_e] H K := by
  rw [laws_eqFloat32S_vc]
  obtain ⟨l_a, l_b, i_a, i_b, bd_13, bd_14, hk⟩ := h
  obtain rfl := i_a.eqn
  obtain rfl := i_b.eqn
  have e : (p_laws_eqFloat32S l_a l_b) = _ := rfl
  have e := e.trans (p_laws_eqFloat32S_eq l_a l_b)
  have g0 := Grow.refl H
  refine Br.intro (fun c_1 => ?_) (fun c_1 => ?_)
  · have e := e.trans (cond_t c_1)
    have c_1' := ine_t c_1
    rw [e] at hk
    exact hk
  · have e := e.trans (cond_f c_1)
    have c_1' := ine_f c_1
    refine laws_eqFloat32S_L1 _ _ _ _ _ _ (fun (μ : Nat) (t4 : Bool) (i : Int) (H_1 : AHeap) => H = H_1 ∧ (0 : Int) ≤ i ∧ i ≤ (l_a.length : Int) ∧ (l_a.length : Int) - i ≤ (μ : Int) ∧ p_laws_eqFloat32S l_a l_b = p_laws_eqFloat32S_l1 l_a l_b (μ + 1) t4 i) (Int.toNat ((l_a.length : Int) - (0 : Int))) _ _ _ _ _ _ _ _ _ _ _ _ _ _ _ _ _ _ _ _ H ?_ ?_
    · exact ⟨rfl, (by first | omega | (simp; done) | (simp; omega)), (by first | omega | (simp; done) | (simp; omega)), (by omega), e⟩
    · intro μ t4 i g11 g12 g13 g14 g15 g16 g17 g18 g19 g20 g21 g22 g23 g24 g25 g26 g27 g28 H_1 hI
      obtain ⟨rfl, v_2, v_3, hμ, e⟩ := hI
      rw [laws_eqFloat32S_r1]
      have e := e.trans (p_laws_eqFloat32S_l1_s l_a l_b μ t4 i)
      have l_4 := g0.1
      refine Br.intro (fun c_5 => ?_) (fun c_5 => ?_)
      · have e := e.trans (cond_t c_5)
        have c_5' := of_decide_eq_true c_5
        obtain ⟨b_6, f_7, q_8⟩ := ((i_a.grow g0)).pos (by first | omega | (simp only [List.length_set, List.length_replicate, List.length_append, List.length_cons, List.length_nil, List.length_take, List.length_drop, marks_length]; done) | (simp only [List.length_set, List.length_replicate, List.length_append, List.length_cons, List.length_nil, List.length_take, List.length_drop, marks_length]; omega))
        refine ⟨by omega, by omega, b_6, f_7, q_8, ?_⟩
        refine ⟨((l_a).getD (i : Int).toNat 0), (i_a).rd g0 q_8 (by omega) _, ?_⟩
        obtain ⟨b_9, f_10, q_11⟩ := ((i_b.grow g0)).pos (by first | omega | (simp only [List.length_set, List.length_replicate, List.length_append, List.length_cons, List.length_nil, List.length_take, List.length_drop, marks_length]; done) | (simp only [List.length_set, List.length_replicate, List.length_append, List.length_cons, List.length_nil, List.length_take, List.length_drop, marks_length]; omega))
        refine ⟨by omega, by omega, b_9, f_10, q_11, ?_⟩
        refine ⟨((l_b).getD (i : Int).toNat 0), (i_b).rd g0 q_11 (by omega) _, ?_⟩
        refine T_laws_sameFloat_i ?_
        refine Br.intro (fun c_12 => ?_) (fun c_12 => ?_)
        · have e := e.trans (cond_t c_12)
          have c_12n := nf_of_t c_12
          rw [laws_eqFloat32S_x1_ret]
          rw [e] at hk
          exact hk
        · have e := e.trans (cond_f c_12)
          have c_12n := nt_of_f c_12
          rw [show IntKind.wrap .i64 (i + 1) = (i + 1) from wrap64 (by omega) (by omega)]
          refine laws_eqFloat32S_n1 (μ - 1) (by first | omega) ⟨rfl, (by first | omega | (simp only [List.length_append, List.length_cons, List.length_nil, List.length_set]; done) | (simp only [List.length_append, List.length_cons, List.length_nil, List.length_set]; omega)), (by first | omega | (simp only [List.length_append, List.length_cons, List.length_nil, List.length_set]; done) | (simp only [List.length_append, List.length_cons, List.length_nil, List.length_set]; omega)), (by first | omega), (by rw [show μ - 1 + 1 = μ from by first | omega]; exact e)⟩
      · have e := e.trans (cond_f c_5)
        have c_5' := of_decide_eq_false c_5
        rw [laws_eqFloat32S_x1_0]
        rw [e] at hk
        exact hk
theorem laws_eqFloat32S_ok : FnOk Try.prog 19 S_laws_eqFloat32S := by
  refine FnOk.body mix_ok E_laws_eqFloat32S_ok Try.func19 rfl (by kernel_rfl) (by kernel_rfl) ?_ ?_ ?_ ?_ ?_
  · intro args H K K' h hk
    simp only [S_laws_eqFloat32S] at *
    unfold F_laws_eqFloat32S at *
    split at hk
    · obtain ⟨l_a, l_b, i_a, i_b, bd_13, bd_14, k⟩ := hk
      exact ⟨l_a, l_b, i_a, i_b, bd_13, bd_14, h _ _ k⟩
    · exact hk.elim
  · intro _ args H K hk
    simp only [S_laws_eqFloat32S] at *
    unfold F_laws_eqFloat32S at *
    split at hk
    · obtain ⟨l_a, l_b, i_a, i_b, bd_13, bd_14, k⟩ := hk
      exact ⟨_, k, fun K' k' => ⟨l_a, l_b, i_a, i_b, bd_13, bd_14, k'⟩⟩
    · exact hk.elim
  · intro args H K hk
    simp only [S_laws_eqFloat32S] at *
    unfold F_laws_eqFloat32S at *
    split at hk
    · obtain ⟨l_a, l_b, i_a, i_b, bd_13, bd_14, k⟩ := hk
      exact ⟨_, _, k⟩
    · exact hk.elim
  · intro hq; cases hq
  · have mm := @laws_eqFloat32S_main
    revert mm
    generalize bodyK Try.prog E_laws_eqFloat32S Try.f19 = Q
    intro mm args H K hk
    simp only [S_laws_eqFloat32S] at *
    unfold F_laws_eqFloat32S at *
    split at hk
    · exact mm _ _ _ _ _ _ H K hk
    · exact hk.elim
def p_laws_FnExactKernelMean (l_aTimes : List Nat) (l_aValues : List Nat) (aAt : Nat) (aWide : Nat) : Bool := ((bif decide ((1048576 : Int) < (l_aTimes.length : Int)) then true else (bif decide ((1048576 : Int) < (l_aValues.length : Int)) then true else (bif !((p_laws_sameFloat (fwide ((p_impl_KernelMean l_aTimes l_aValues aAt aWide).1)) (fwide ((p_spec_KernelMean l_aTimes l_aValues aAt aWide).1)))) then false else (bif !(((p_impl_KernelMean l_aTimes l_aValues aAt aWide).2) == ((p_spec_KernelMean l_aTimes l_aValues aAt aWide).2)) then false else (bif !(p_laws_eqFloat32S l_aTimes l_aTimes) then false else (bif !(p_laws_eqFloat32S l_aValues l_aValues) then false else true)))))))
theorem p_laws_FnExactKernelMean_eq (l_aTimes : List Nat) (l_aValues : List Nat) (aAt : Nat) (aWide : Nat) : p_laws_FnExactKernelMean l_aTimes l_aValues aAt aWide = ((bif decide ((1048576 : Int) < (l_aTimes.length : Int)) then true else (bif decide ((1048576 : Int) < (l_aValues.length : Int)) then true else (bif !((p_laws_sameFloat (fwide ((p_impl_KernelMean l_aTimes l_aValues aAt aWide).1)) (fwide ((p_spec_KernelMean l_aTimes l_aValues aAt aWide).1)))) then false else (bif !(((p_impl_KernelMean l_aTimes l_aValues aAt aWide).2) == ((p_spec_KernelMean l_aTimes l_aValues aAt aWide).2)) then false else (bif !(p_laws_eqFloat32S l_aTimes l_aTimes) then false else (bif !(p_laws_eqFloat32S l_aValues l_aValues) then false else true))))))) := rfl
def T_laws_FnExactKernelMean (aTimes_a : Option Addr) (aTimes_n : Nat) (aTimes_e : Nat) (aValues_a : Option Addr) (aValues_n : Nat) (aValues_e : Nat) (aAt : Nat) (aWide : Nat) (H : AHeap) (K : Bool → AHeap → Prop) : Prop := ∃ l_aTimes : List Nat, ∃ l_aValues : List Nat, IsL fF H aTimes_a aTimes_n l_aTimes ∧ (∀ y ∈ l_aTimes, W32 y) ∧ l_aTimes.length ≤ 9223372036854775807 ∧ IsL fF H aValues_a aValues_n l_aValues ∧ (∀ y ∈ l_aValues, W32 y) ∧ l_aValues.length ≤ 9223372036854775807 ∧ W32 aAt ∧ W32 aWide ∧ ∀ H' : AHeap, K true H'
theorem spec_fin (x : Nat) : p_spec_l01Finite x = fin .f32 x := fin_asked x
theorem impl_fin (x : Nat) : p_impl_IsFinite x = fin .f32 x := fin_asked x
theorem w32_wd {x : Nat} (h : W32 x) : Wd .f32 x := ⟨h.1, h.2⟩
theorem wd_w32 {x : Nat} (h : Wd .f32 x) : W32 x := ⟨h.1, h.2⟩
theorem l02Finite_go (l : List Nat) : ∀ (μ : Nat) (t : Bool) (i : Nat), l.length - i < μ → p_spec_l02Finite_l1 l μ t (i : Int) = (l.drop i).all (fin .f32) := by
  intro μ
  induction μ with
  | zero => intro t i h; omega
  | succ μ ih =>
    intro t i hm
    rw [p_spec_l02Finite_l1_s]
    by_cases h : i < l.length
    · rw [decide_eq_true (show (i : Int) < (l.length : Int) by omega), cond_true, Int.toNat_natCast, spec_fin]
      rw [List.drop_eq_getElem_cons h, List.all_cons, List.getD_eq_getElem?_getD, List.getElem?_eq_getElem h, Option.getD_some]
      have := ih t (i + 1) (by omega)
      cases fin .f32 l[i]
      · rfl
      · simp only [Bool.not_true, cond_false, Bool.true_and]; exact this
    · rw [decide_eq_false (show ¬ (i : Int) < (l.length : Int) by omega), cond_false, List.drop_eq_nil_of_le (by omega)]; rfl
theorem l02Finite_all (l : List Nat) : p_spec_l02Finite l = l.all (fin .f32) := by
  rw [p_spec_l02Finite_eq]
  have := l02Finite_go l (Int.toNat ((l.length : Int) - (0 : Int)) + 1) false 0 (by omega)
  simpa using this
theorem areFinite_in (ls : List (List Nat)) (t2 : Bool) (t9 : Int) (k : Bool → Int → Bool) : ∀ (μ : Nat) (t : Bool) (i : Nat), i ≤ (ls.getD t9.toNat []).length → (ls.getD t9.toNat []).length - i < μ →
    p_impl_areFinite_l2 ls t2 t9 k μ t (i : Int) = bif ((ls.getD t9.toNat []).drop i).all (fin .f32) then k t ((ls.getD t9.toNat []).length : Int) else false := by
  intro μ
  generalize hl : ls.getD t9.toNat [] = l
  induction μ with
  | zero => intro t i _ h; omega
  | succ μ ih =>
    intro t i hi hm
    rw [p_impl_areFinite_l2_s, hl]
    by_cases h : i < l.length
    · rw [decide_eq_true (show (i : Int) < (l.length : Int) by omega), cond_true, Int.toNat_natCast, impl_fin]
      rw [List.drop_eq_getElem_cons h, List.all_cons, List.getD_eq_getElem?_getD, List.getElem?_eq_getElem h, Option.getD_some]
      have := ih t (i + 1) (by omega) (by omega)
      cases fin .f32 l[i]
      · rfl
      · simp only [Bool.not_true, cond_false, Bool.true_and]; exact this
    · rw [decide_eq_false (show ¬ (i : Int) < (l.length : Int) by omega), cond_false, List.drop_eq_nil_of_le (by omega), show i = l.length by omega]; rfl
theorem areFinite_go (ls : List (List Nat)) : ∀ (μ : Nat) (t : Bool) (i : Nat), ls.length - i < μ → p_impl_areFinite_l1 ls μ t (i : Int) = (ls.drop i).all (fun l => l.all (fin .f32)) := by
  intro μ
  induction μ with
  | zero => intro t i h; omega
  | succ μ ih =>
    intro t i hm
    rw [p_impl_areFinite_l1_s]
    by_cases h : i < ls.length
    · rw [decide_eq_true (show (i : Int) < (ls.length : Int) by omega), cond_true]
      have := areFinite_in ls t (i : Int) (fun t2 t15 => p_impl_areFinite_l1 ls μ t2 ((i : Int) + 1)) (Int.toNat ((((ls).getD ((i : Int) : Int).toNat []).length : Int) - (0 : Int)) + 1) t 0 (Nat.zero_le _) (by omega)
      refine Eq.trans this ?_
      rw [Int.toNat_natCast, List.drop_zero, List.drop_eq_getElem_cons h, List.all_cons, List.getD_eq_getElem?_getD, List.getElem?_eq_getElem h, Option.getD_some]
      have := ih t (i + 1) (by omega)
      cases ls[i].all (fin .f32)
      · rfl
      · simp only [cond_true, Bool.true_and]; exact this
    · rw [decide_eq_false (show ¬ (i : Int) < (ls.length : Int) by omega), cond_false, List.drop_eq_nil_of_le (by omega)]; rfl
theorem areFinite_all (ls : List (List Nat)) : p_impl_areFinite ls = ls.all (fun l => l.all (fin .f32)) := by
  rw [p_impl_areFinite_eq]
  have := areFinite_go ls (Int.toNat ((ls.length : Int) - (0 : Int)) + 1) false 0 (by omega)
  simpa using this
theorem finite_same (l : List Nat) : p_impl_areFinite [l] = p_spec_l02Finite l := by rw [areFinite_all, l02Finite_all]; simp
theorem long_same (l : List Nat) : p_impl_isLong l = p_spec_l03Long l := by
  rw [p_impl_isLong_eq, p_spec_l03Long_eq, finite_same]
  unfold p_impl_within
  cases decide ((1 : Int) ≤ (l.length : Int)) <;> cases decide (((l.length : Int) : Int) ≤ 128) <;> rfl
theorem long_t {l : List Nat} (h : p_spec_l03Long l = true) : 1 ≤ l.length ∧ l.length ≤ 128 ∧ l.all (fin .f32) = true := by
  rw [p_spec_l03Long_eq, l02Finite_all] at h
  by_cases h1 : (1 : Int) ≤ (l.length : Int)
  · rw [decide_eq_true h1, cond_true] at h
    by_cases h2 : (l.length : Int) ≤ 128
    · rw [decide_eq_true h2, cond_true] at h; exact ⟨by omega, by omega, h⟩
    · rw [decide_eq_false h2] at h; cases h
  · rw [decide_eq_false h1] at h; cases h
theorem fin_getD {l : List Nat} (h : l.all (fin .f32) = true) (i : Nat) : fin .f32 (l.getD i 0) = true := by
  rw [List.getD_eq_getElem?_getD]
  cases hx : l[i]? with
  | none => exact fin_zero _
  | some y => exact List.all_eq_true.1 h y (List.mem_of_getElem? hx)
theorem w32_zero : W32 0 := ⟨by decide, by decide +kernel⟩
theorem w32_getD {l : List Nat} (h : ∀ y ∈ l, W32 y) (i : Nat) : W32 (l.getD i 0) := by
  rw [List.getD_eq_getElem?_getD]
  cases hx : l[i]? with
  | none => exact w32_zero
  | some y => exact h y (List.mem_of_getElem? hx)
theorem exp_sq (y y' P P' K : Nat) (k : Int) : ∀ (μ p : Nat) (i : Int), p_impl_expWide_l2 y P K (fun (p : Nat) (t : Int) => p) μ p i = p_spec_l01ExpWide_l2 y' P' k (fun (p : Nat) (t : Int) => p) μ p i := by
  intro μ
  induction μ with
  | zero => intro p i; rfl
  | succ μ ih => intro p i; rw [p_impl_expWide_l2_s, p_spec_l01ExpWide_l2_s, ih]
theorem exp_ser (y : Nat) : ∀ (μ p : Nat) (n : Int), n ≤ 12 → -1 ≤ n → p_impl_expWide_l1 y μ p (FloatKind.nearest .f64 n) = p_spec_l01ExpWide_l1 y μ p n := by
  intro μ
  induction μ with
  | zero => intro p n _ _; rfl
  | succ μ ih =>
    intro p n h1 h0
    have c := cnt_at (n := n) (by omega) (by omega)
    rw [p_impl_expWide_l1_s, p_spec_l01ExpWide_l1_s, c.2.1]
    by_cases hc : (1 : Int) ≤ n
    · rw [decide_eq_true hc, cond_true, cond_true, c.2.2.1, ih _ (n - 1) (by omega) (by omega)]
    · rw [decide_eq_false hc, cond_false, cond_false, exp_sq y y p p _ n]
theorem expWide_same {y : Nat} (hy : Wd .f64 y) : p_impl_expWide y = p_spec_l01ExpWide y := by
  by_cases hn : (FloatKind.f64.format.read y).isNaN = true
  · have e : y = qnan .f64 := by rw [← hy.2]; exact cn_of_nan hn
    rw [e]; decide +kernel
  · have hn : (FloatKind.f64.format.read y).isNaN = false := by simpa using hn
    rw [p_impl_expWide_eq, p_spec_l01ExpWide_eq, feq_self hn, Bool.not_true, cond_false]
    have e1 : Int.toNat (cnt 4622945017495814144) + 1 = Int.toNat ((12 : Int) - 1 + 1) + 1 := by decide +kernel
    have e5 : (4622945017495814144 : Nat) = FloatKind.nearest .f64 12 := by decide +kernel
    have := exp_ser y (Int.toNat ((12 : Int) - 1 + 1) + 1) 4607182418800017408 12 (by decide) (by decide)
    rw [← e5] at this
    rw [e1, this]
theorem exp_same (x : Nat) : p_impl_ExpNumber x = p_spec_l01Exp x := by
  rw [p_impl_ExpNumber_eq, p_spec_l01Exp_eq, p_spec_l01Narrow_eq, p_impl_expOf_eq, expWide_same (wide_wd x)]
theorem kernel_go (a b : List Nat) (t w : Nat) : ∀ (μ s u : Nat) (i : Int), p_impl_KernelMean_l1 a b t w μ s u i = p_spec_KernelMean_l1 a b t w μ s u i := by
  intro μ
  induction μ with
  | zero => intro s u i; rfl
  | succ μ ih =>
    intro s u i
    rw [p_impl_KernelMean_l1_s, p_spec_KernelMean_l1_s, ih, exp_same]
    rfl
theorem kernelMean_same (a b : List Nat) (t w : Nat) : p_impl_KernelMean a b t w = p_spec_KernelMean a b t w := by
  rw [p_impl_KernelMean_eq, p_spec_KernelMean_eq, long_same, long_same, kernel_go]
  rfl
theorem laws_FnExactKernelMean_true (l_aTimes : List Nat) (l_aValues : List Nat) (aAt : Nat) (aWide : Nat) (q0 : (∀ y ∈ l_aTimes, W32 y)) (q1 : (∀ y ∈ l_aValues, W32 y)) (q2 : W32 aAt) (q3 : W32 aWide) : p_laws_FnExactKernelMean l_aTimes l_aValues aAt aWide = true := by
  rw [p_laws_FnExactKernelMean_eq, kernelMean_same, laws_sameFloat_self, laws_eqFloat32S_self, laws_eqFloat32S_self]
  cases decide ((1048576 : Int) < (l_aTimes.length : Int)) <;> cases decide ((1048576 : Int) < (l_aValues.length : Int)) <;> simp
/-! laws_FnExactKernelMean: function 3 -/
def E_laws_FnExactKernelMean : Env := envOf [(16, S_laws_toFloat32S), (15, S_spec_KernelMean), (17, S_impl_KernelMean), (18, S_laws_sameFloat), (19, S_laws_eqFloat32S)]
def F_laws_FnExactKernelMean : List Value → AHeap → (Value → AHeap → Prop) → Prop
  | [.slice aTimes_a aTimes_n aTimes_e, .slice aValues_a aValues_n aValues_e, .float .f32 aAt, .float .f32 aWide], H, K => T_laws_FnExactKernelMean aTimes_a aTimes_n aTimes_e aValues_a aValues_n aValues_e aAt aWide H fun (r1 : Bool) (H' : AHeap) => K (.bool r1) H'
  | _, _, _ => False
def S_laws_FnExactKernelMean : FSpec := { F := F_laws_FnExactKernelMean, quiet := false, tame := false }
theorem laws_FnExactKernelMean_vc (aTimes_a : Option Addr) (aTimes_n : Nat) (aTimes_e : Nat) (aValues_a : Option Addr) (aValues_n : Nat) (aValues_e : Nat) (aAt : Nat) (aWide : Nat) (H : AHeap) (K : Value → AHeap → Prop) : bodyK Try.prog E_laws_FnExactKernelMean Try.f3 [.slice aTimes_a aTimes_n aTimes_e, .slice aValues_a aValues_n aValues_e, .float .f32 aAt, .float .f32 aWide] H K =
  (Br (decide ((1048576 : Int) < (aTimes_n : Int))) (K (.bool true) H) (Br (decide ((1048576 : Int) < (aValues_n : Int))) (K (.bool true) H) (T_laws_toFloat32S aTimes_a aTimes_n aTimes_e H fun (a1 : Option Addr) (r1 : Nat) (r2 : Nat) (H1 : AHeap) => T_laws_toFloat32S aValues_a aValues_n aValues_e H1 fun (a2 : Option Addr) (r3 : Nat) (r4 : Nat) (H2 : AHeap) => T_spec_KernelMean a1 r1 r2 a2 r3 r4 aAt aWide H2 fun (r5 : Nat) (r6 : Bool) (H3 : AHeap) => T_laws_toFloat32S aTimes_a aTimes_n aTimes_e H3 fun (a3 : Option Addr) (r7 : Nat) (r8 : Nat) (H4 : AHeap) => T_laws_toFloat32S aValues_a aValues_n aValues_e H4 fun (a4 : Option Addr) (r9 : Nat) (r10 : Nat) (H5 : AHeap) => T_impl_KernelMean a3 r7 r8 a4 r9 r10 aAt aWide H5 fun (r11 : Nat) (r12 : Bool) (H6 : AHeap) => T_laws_sameFloat (fwide r11) (fwide r5) H6 fun (r13 : Bool) (H7 : AHeap) => Br (!r13) (K (.bool false) H7) (Br (!(r12 == r6)) (K (.bool false) H7) (T_laws_toFloat32S aTimes_a aTimes_n aTimes_e H7 fun (a5 : Option Addr) (r14 : Nat) (r15 : Nat) (H8 : AHeap) => T_laws_eqFloat32S a3 r7 r8 a5 r14 r15 H8 fun (r16 : Bool) (H9 : AHeap) => Br (!r16) (K (.bool false) H9) (T_laws_toFloat32S aValues_a aValues_n aValues_e H9 fun (a6 : Option Addr) (r17 : Nat) (r18 : Nat) (H10 : AHeap) => T_laws_eqFloat32S a4 r9 r10 a6 r17 r18 H10 fun (r19 : Bool) (H11 : AHeap) => Br (!r19) (K (.bool false) H11) (K (.bool true) H11))))))) := by kernel_rfl
theorem E_laws_FnExactKernelMean_ok : ∀ g, FnOk Try.prog g (E_laws_FnExactKernelMean g) := FnOk.envOf (by
  intro x hx
  simp only [List.mem_cons, List.not_mem_nil, or_false] at hx
  rcases hx with rfl | rfl | rfl | rfl | rfl
  · exact laws_toFloat32S_ok
  · exact spec_KernelMean_ok
  · exact impl_KernelMean_ok
  · exact laws_sameFloat_ok
  · exact laws_eqFloat32S_ok)
set_option maxHeartbeats 1000000 in
theorem laws_FnExactKernelMean_main (aTimes_a : Option Addr) (aTimes_n : Nat) (aTimes_e : Nat) (aValues_a : Option Addr) (aValues_n : Nat) (aValues_e : Nat) (aAt : Nat) (aWide : Nat) (H : AHeap) (K : Value → AHeap → Prop) (h : T_laws_FnExactKernelMean aTimes_a aTimes_n aTimes_e aValues_a aValues_n aValues_e aAt aWide H fun (r1 : Bool) (H' : AHeap) => K (.bool r1) H') : bodyK Try.prog E_laws_FnExactKernelMean Try.f3 [.slice aTimes_a aTimes_n aTimes_e, .slice aValues_a aValues_n aValues_e, .float .f32 aAt, .float .f32 aWide] H K := by
  rw [laws_FnExactKernelMean_vc]
  obtain ⟨l_aTimes, l_aValues, h_0, h_1, h_2, h_3, h_4, h_5, h_6, h_7, hk⟩ := h
  have i_aTimes := h_0
  obtain rfl := i_aTimes.eqn
  have i_aValues := h_3
  obtain rfl := i_aValues.eqn
  have hl := laws_FnExactKernelMean_true l_aTimes l_aValues aAt aWide h_1 h_4 h_6 h_7
  have e : p_laws_FnExactKernelMean l_aTimes l_aValues aAt aWide = _ := rfl
  have e := e.trans (p_laws_FnExactKernelMean_eq l_aTimes l_aValues aAt aWide)
  have e := hl.symm.trans e
  have g0 := Grow.refl H
  refine Br.intro (fun c_1 => ?_) (fun c_1 => ?_)
  · have e := e.trans (cond_t c_1)
    have c_1' := of_decide_eq_true c_1
    first | exact hk _ | (exfalso; cases e; done) | (rw [← e]; exact hk _)
  · have e := e.trans (cond_f c_1)
    have c_1' := of_decide_eq_false c_1
    refine Br.intro (fun c_2 => ?_) (fun c_2 => ?_)
    · have e := e.trans (cond_t c_2)
      have c_2' := of_decide_eq_true c_2
      first | exact hk _ | (exfalso; cases e; done) | (rw [← e]; exact hk _)
    · have e := e.trans (cond_f c_2)
      have c_2' := of_decide_eq_false c_2
      refine T_laws_toFloat32S_i ⟨_, (i_aTimes.grow g0), (by first | omega | (simp only [List.length_set, List.length_replicate, List.length_append, List.length_cons, List.length_nil, List.length_take, List.length_drop, marks_length]; done) | (simp only [List.length_set, List.length_replicate, List.length_append, List.length_cons, List.length_nil, List.length_take, List.length_drop, marks_length]; omega)), fun a_3 n_4 e_5 H_1 g_7 r_6 => ?_⟩
      have l_8 := g_7.1
      have g_9 := g0.trans g_7
      have l_10 := g_9.1
      obtain rfl := r_6.isL.eqn
      have u_11 := r_6.up
      have u_12 := r_6.lo
      refine T_laws_toFloat32S_i ⟨_, (i_aValues.grow g_9), (by first | omega | (simp only [List.length_set, List.length_replicate, List.length_append, List.length_cons, List.length_nil, List.length_take, List.length_drop, marks_length]; done) | (simp only [List.length_set, List.length_replicate, List.length_append, List.length_cons, List.length_nil, List.length_take, List.length_drop, marks_length]; omega)), fun a_14 n_15 e_16 H_2 g_18 r_17 => ?_⟩
      have l_19 := g_18.1
      have g_20 := g_9.trans g_18
      have l_21 := g_20.1
      have r_22 := r_6.grow g_18
      obtain rfl := r_17.isL.eqn
      have u_23 := r_17.up
      have u_24 := r_17.lo
      refine T_spec_KernelMean_i ⟨_, _, r_22.isL, r_17.isL, (by first | omega | (simp only [List.length_set, List.length_replicate, List.length_append, List.length_cons, List.length_nil, List.length_take, List.length_drop, marks_length]; done) | (simp only [List.length_set, List.length_replicate, List.length_append, List.length_cons, List.length_nil, List.length_take, List.length_drop, marks_length]; omega)), (by first | omega | (simp only [List.length_set, List.length_replicate, List.length_append, List.length_cons, List.length_nil, List.length_take, List.length_drop, marks_length]; done) | (simp only [List.length_set, List.length_replicate, List.length_append, List.length_cons, List.length_nil, List.length_take, List.length_drop, marks_length]; omega)), ?_⟩
      refine T_laws_toFloat32S_i ⟨_, (i_aTimes.grow g_20), (by first | omega | (simp only [List.length_set, List.length_replicate, List.length_append, List.length_cons, List.length_nil, List.length_take, List.length_drop, marks_length]; done) | (simp only [List.length_set, List.length_replicate, List.length_append, List.length_cons, List.length_nil, List.length_take, List.length_drop, marks_length]; omega)), fun a_26 n_27 e_28 H_3 g_30 r_29 => ?_⟩
      have l_31 := g_30.1
      have g_32 := g_20.trans g_30
      have l_33 := g_32.1
      have r_34 := r_22.grow g_30
      have r_35 := r_17.grow g_30
      obtain rfl := r_29.isL.eqn
      have u_36 := r_29.up
      have u_37 := r_29.lo
      refine T_laws_toFloat32S_i ⟨_, (i_aValues.grow g_32), (by first | omega | (simp only [List.length_set, List.length_replicate, List.length_append, List.length_cons, List.length_nil, List.length_take, List.length_drop, marks_length]; done) | (simp only [List.length_set, List.length_replicate, List.length_append, List.length_cons, List.length_nil, List.length_take, List.length_drop, marks_length]; omega)), fun a_39 n_40 e_41 H_4 g_43 r_42 => ?_⟩
      have l_44 := g_43.1
      have g_45 := g_32.trans g_43
      have l_46 := g_45.1
      have r_47 := r_34.grow g_43
      have r_48 := r_35.grow g_43
      have r_49 := r_29.grow g_43
      obtain rfl := r_42.isL.eqn
      have u_50 := r_42.up
      have u_51 := r_42.lo
      refine T_impl_KernelMean_i ⟨_, _, r_49.isL, r_42.isL, (by first | omega | (simp only [List.length_set, List.length_replicate, List.length_append, List.length_cons, List.length_nil, List.length_take, List.length_drop, marks_length]; done) | (simp only [List.length_set, List.length_replicate, List.length_append, List.length_cons, List.length_nil, List.length_take, List.length_drop, marks_length]; omega)), (by first | omega | (simp only [List.length_set, List.length_replicate, List.length_append, List.length_cons, List.length_nil, List.length_take, List.length_drop, marks_length]; done) | (simp only [List.length_set, List.length_replicate, List.length_append, List.length_cons, List.length_nil, List.length_take, List.length_drop, marks_length]; omega)), fun  H_5 g_53  => ?_⟩
      have l_54 := g_53.1
      have g_55 := g_45.trans g_53
      have l_56 := g_55.1
      have r_57 := r_47.grow g_53
      have r_58 := r_48.grow g_53
      have r_59 := r_49.grow g_53
      have r_60 := r_42.grow g_53
      refine T_laws_sameFloat_i ?_
      refine Br.intro (fun c_61 => ?_) (fun c_61 => ?_)
      · have e := e.trans (cond_t c_61)
        have c_61n := nf_of_t c_61
        first | exact hk _ | (exfalso; cases e; done) | (rw [← e]; exact hk _)
      · have e := e.trans (cond_f c_61)
        have c_61n := nt_of_f c_61
        refine Br.intro (fun c_62 => ?_) (fun c_62 => ?_)
        · have e := e.trans (cond_t c_62)
          have c_62n := nf_of_t c_62
          first | exact hk _ | (exfalso; cases e; done) | (rw [← e]; exact hk _)
        · have e := e.trans (cond_f c_62)
          have c_62n := nt_of_f c_62
          refine T_laws_toFloat32S_i ⟨_, (i_aTimes.grow g_55), (by first | omega | (simp only [List.length_set, List.length_replicate, List.length_append, List.length_cons, List.length_nil, List.length_take, List.length_drop, marks_length]; done) | (simp only [List.length_set, List.length_replicate, List.length_append, List.length_cons, List.length_nil, List.length_take, List.length_drop, marks_length]; omega)), fun a_63 n_64 e_65 H_6 g_67 r_66 => ?_⟩
          have l_68 := g_67.1
          have g_69 := g_55.trans g_67
          have l_70 := g_69.1
          have r_71 := r_57.grow g_67
          have r_72 := r_58.grow g_67
          have r_73 := r_59.grow g_67
          have r_74 := r_60.grow g_67
          obtain rfl := r_66.isL.eqn
          have u_75 := r_66.up
          have u_76 := r_66.lo
          refine T_laws_eqFloat32S_i ⟨_, _, r_73.isL, r_66.isL, (by first | omega | (simp only [List.length_set, List.length_replicate, List.length_append, List.length_cons, List.length_nil, List.length_take, List.length_drop, marks_length]; done) | (simp only [List.length_set, List.length_replicate, List.length_append, List.length_cons, List.length_nil, List.length_take, List.length_drop, marks_length]; omega)), (by first | omega | (simp only [List.length_set, List.length_replicate, List.length_append, List.length_cons, List.length_nil, List.length_take, List.length_drop, marks_length]; done) | (simp only [List.length_set, List.length_replicate, List.length_append, List.length_cons, List.length_nil, List.length_take, List.length_drop, marks_length]; omega)), ?_⟩
          refine Br.intro (fun c_78 => ?_) (fun c_78 => ?_)
          · have e := e.trans (cond_t c_78)
            have c_78n := nf_of_t c_78
            first | exact hk _ | (exfalso; cases e; done) | (rw [← e]; exact hk _)
          · have e := e.trans (cond_f c_78)
            have c_78n := nt_of_f c_78
            refine T_laws_toFloat32S_i ⟨_, (i_aValues.grow g_69), (by first | omega | (simp only [List.length_set, List.length_replicate, List.length_append, List.length_cons, List.length_nil, List.length_take, List.length_drop, marks_length]; done) | (simp only [List.length_set, List.length_replicate, List.length_append, List.length_cons, List.length_nil, List.length_take, List.length_drop, marks_length]; omega)), fun a_79 n_80 e_81 H_7 g_83 r_82 => ?_⟩
            have l_84 := g_83.1
            have g_85 := g_69.trans g_83
            have l_86 := g_85.1
            have r_87 := r_71.grow g_83
            have r_88 := r_72.grow g_83
            have r_89 := r_73.grow g_83
            have r_90 := r_74.grow g_83
            have r_91 := r_66.grow g_83
            obtain rfl := r_82.isL.eqn
            have u_92 := r_82.up
            have u_93 := r_82.lo
            refine T_laws_eqFloat32S_i ⟨_, _, r_90.isL, r_82.isL, (by first | omega | (simp only [List.length_set, List.length_replicate, List.length_append, List.length_cons, List.length_nil, List.length_take, List.length_drop, marks_length]; done) | (simp only [List.length_set, List.length_replicate, List.length_append, List.length_cons, List.length_nil, List.length_take, List.length_drop, marks_length]; omega)), (by first | omega | (simp only [List.length_set, List.length_replicate, List.length_append, List.length_cons, List.length_nil, List.length_take, List.length_drop, marks_length]; done) | (simp only [List.length_set, List.length_replicate, List.length_append, List.length_cons, List.length_nil, List.length_take, List.length_drop, marks_length]; omega)), ?_⟩
            refine Br.intro (fun c_95 => ?_) (fun c_95 => ?_)
            · have e := e.trans (cond_t c_95)
              have c_95n := nf_of_t c_95
              first | exact hk _ | (exfalso; cases e; done) | (rw [← e]; exact hk _)
            · have e := e.trans (cond_f c_95)
              have c_95n := nt_of_f c_95
              first | exact hk _ | (exfalso; cases e; done) | (rw [← e]; exact hk _)
theorem laws_FnExactKernelMean_ok : FnOk Try.prog 3 S_laws_FnExactKernelMean := by
  refine FnOk.body mix_ok E_laws_FnExactKernelMean_ok Try.func3 rfl (by kernel_rfl) (by kernel_rfl) ?_ ?_ ?_ ?_ ?_
  · intro args H K K' h hk
    simp only [S_laws_FnExactKernelMean] at *
    unfold F_laws_FnExactKernelMean at *
    split at hk
    · obtain ⟨l_aTimes, l_aValues, h_0, h_1, h_2, h_3, h_4, h_5, h_6, h_7, k⟩ := hk
      exact ⟨l_aTimes, l_aValues, h_0, h_1, h_2, h_3, h_4, h_5, h_6, h_7, (fun H' => h _ _ (k H'))⟩
    · exact hk.elim
  · intro hq; cases hq
  · intro args H K hk
    simp only [S_laws_FnExactKernelMean] at *
    unfold F_laws_FnExactKernelMean at *
    split at hk
    · obtain ⟨l_aTimes, l_aValues, h_0, h_1, h_2, h_3, h_4, h_5, h_6, h_7, k⟩ := hk
      exact ⟨_, _, k []⟩
    · exact hk.elim
  · intro hq; cases hq
  · have mm := @laws_FnExactKernelMean_main
    revert mm
    generalize bodyK Try.prog E_laws_FnExactKernelMean Try.f3 = Q
    intro mm args H K hk
    simp only [S_laws_FnExactKernelMean] at *
    unfold F_laws_FnExactKernelMean at *
    split at hk
    · exact mm _ _ _ _ _ _ _ _ H K hk
    · exact hk.elim
end Go.Proofs.Ytghkkclonabpkaa.Ai
