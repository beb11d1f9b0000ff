/- What functions of the program come to on the abstract machine, and that they do so; printed by a program of mine around proofs of mine. -/
import Derived.Test.YtghkkclonabpkabFFnExactFromAtoms2
set_option linter.unusedVariables false
set_option linter.unusedSimpArgs false
set_option linter.defProp false
set_option maxRecDepth 100000
namespace Go.Proofs.Ytghkkclonabpkab.Ai
open Go
attribute [local irreducible] bodyK

def p_laws_heldFloat32S_l1 (l_a : List Nat) (k : Int) : Nat → Int → Int → Int → Int
  | 0, _, _, _ => 0
  | μ + 1, k_1, t4, i => (bif decide ((i : Int) < (l_a.length : Int)) then (bif !(feq .f32 (((l_a).getD (i : Int).toNat 0)) (FloatKind.nearest .f32 k_1)) then ((-1) : Int) else (p_laws_heldFloat32S_l1 l_a k μ (IntKind.wrap .i64 (k_1 + 1)) t4 (i + 1))) else k_1)
def p_laws_heldFloat32S_l1_s := fun l_a k μ k_1 t4 i => @p_laws_heldFloat32S_l1.eq_2 l_a k k_1 t4 i μ
def p_laws_heldFloat32S (l_a : List Nat) (k : Int) : Int := (p_laws_heldFloat32S_l1 l_a k (Int.toNat ((l_a.length : Int) - (0 : Int)) + 1) k (0 : Int) (0 : Int))
def p_laws_heldFloat32S_eq := @p_laws_heldFloat32S.eq_1
def T_laws_heldFloat32S (a_a : Option Addr) (a_n : Nat) (a_e : Nat) (k : Int) (H : AHeap) (K : Int → AHeap → Prop) : Prop := ∃ (l_a : List Nat), IsL fF H a_a a_n l_a ∧ l_a.length < 1073741824 ∧ K (p_laws_heldFloat32S l_a k) H
theorem T_laws_heldFloat32S_i {a_a : Option Addr} {a_n : Nat} {a_e : Nat} {k : Int} {H : AHeap} {K : Int → AHeap → Prop} (h : ∃ (l_a : List Nat), IsL fF H a_a a_n l_a ∧ l_a.length < 1073741824 ∧ K (p_laws_heldFloat32S l_a k) H) : T_laws_heldFloat32S a_a a_n a_e k H K := h
theorem laws_heldFloat32S_go (k0 : Int) : ∀ (μ : Nat) (i : Nat) (pre : List Nat) (k t : Int) (n : Nat), pre.length = i → n < μ →
    p_laws_heldFloat32S_l1 (pre ++ marks (FloatKind.nearest .f32) k n) k0 μ k t (i : Int) = wk k n := by
  intro μ
  induction μ with
  | zero => intro i pre k t n _ h; omega
  | succ μ ih =>
    intro i pre k t n hp hm
    rw [p_laws_heldFloat32S_l1_s]
    have hl : (pre ++ marks (FloatKind.nearest .f32) k n).length = i + n := by rw [List.length_append, hp, marks_length]
    rw [hl]
    cases n with
    | zero => rw [decide_eq_false (show ¬ (i : Int) < ((i + 0 : Nat) : Int) by omega), cond_false]; rfl
    | succ n =>
      rw [decide_eq_true (show (i : Int) < ((i + (n + 1) : Nat) : Int) by omega), cond_true, Int.toNat_natCast]
      have hx : (pre ++ marks (FloatKind.nearest .f32) k (n + 1)).getD i 0 = (FloatKind.nearest .f32) k := by
        rw [List.getD_eq_getElem?_getD, List.getElem?_append_right o4, hp, Nat.sub_self]; rfl
      rw [hx]
      have hq : (!(feq .f32 (FloatKind.nearest .f32 k) (FloatKind.nearest .f32 k))) = false := by rw [feq_nearest]; rfl
      simp only [hq, cond_false]
      have := ih (i + 1) (pre ++ [(FloatKind.nearest .f32) k]) (IntKind.wrap .i64 (k + 1)) t n (by simp [hp]) o4
      rw [List.append_assoc] at this
      rw [wk]; exact this
theorem laws_heldFloat32S_marks (k : Int) (n : Nat) : p_laws_heldFloat32S (marks (FloatKind.nearest .f32) k n) k = wk k n := by
  rw [p_laws_heldFloat32S_eq]
  have := laws_heldFloat32S_go k (Int.toNat (((marks (FloatKind.nearest .f32) k n).length : Int) - 0) + 1) 0 [] k 0 n rfl (by rw [marks_length]; omega)
  simpa using this
/-! laws_heldFloat32S: function 16 -/
def E_laws_heldFloat32S : Env := envOf []
def F_laws_heldFloat32S : List Value → AHeap → (Value → AHeap → Prop) → Prop
  | [.slice a_a a_n a_e, .int .i64 k], H, K => T_laws_heldFloat32S a_a a_n a_e k H fun (r1 : Int) (H' : AHeap) => K (.int .i64 r1) H'
  | _, _, _ => False
def S_laws_heldFloat32S : FSpec := { F := F_laws_heldFloat32S, quiet := true, tame := false }
theorem laws_heldFloat32S_vc (a_a : Option Addr) (a_n : Nat) (a_e : Nat) (k : Int) (H : AHeap) (K : Value → AHeap → Prop) : bodyK Try.prog E_laws_heldFloat32S Try.f16 [.slice a_a a_n a_e, .int .i64 k] H K =
  (loopK (exK Try.prog E_laws_heldFloat32S (cl (cl (cr (cl (cr (bodyC Try.f16))))))) [.slice a_a a_n a_e, .int .i64 k, undef, undef, .int .i64 0, .int .i64 0, undef, undef, undef, undef, undef, undef, undef, undef, undef, undef, undef, undef, undef, undef, undef, undef] H (blockQ 0 (seqQ (exK Try.prog E_laws_heldFloat32S (cr (cr (bodyC Try.f16)))) (retK Try.prog Try.f16 K)))) := by kernel_rfl
abbrev laws_heldFloat32S_P1 (a_a : Option Addr) (a_e : Nat) (a_n : Nat) (k_1 : Int) (t4 : Int) (i : Int) (g6 g7 g8 g9 g10 g11 g12 g13 g14 g15 g16 g17 g18 g19 g20 : Value) : List Value := [.slice a_a a_n a_e, .int .i64 k_1, undef, undef, .int .i64 t4, .int .i64 i, g6, g7, g8, g9, g10, g11, g12, g13, g14, g15, g16, g17, g18, g19, g20, undef]
theorem laws_heldFloat32S_r1 (a_a : Option Addr) (a_e : Nat) (a_n : Nat) (k_1 : Int) (t4 : Int) (i : Int) (g6 g7 g8 g9 g10 g11 g12 g13 g14 g15 g16 g17 g18 g19 g20 : Value) (H : AHeap) (R : Post) : exK Try.prog E_laws_heldFloat32S (cl (cl (cr (cl (cr (bodyC Try.f16)))))) (laws_heldFloat32S_P1 a_a a_e a_n k_1 t4 i g6 g7 g8 g9 g10 g11 g12 g13 g14 g15 g16 g17 g18 g19 g20) H R =
  (Br (decide ((i : Int) < (a_n : Int))) ((0 : Int) ≤ i ∧ i < (a_n : Int) ∧ ∃ b1 f1, (a_a : Option Addr) = some ⟨b1, f1, none⟩ ∧ ∃ x1 : Nat,  rdC H b1 (f1 + (i : Int).toNat * 1) = some (.float .f32 x1) ∧ Br (!(feq .f32 x1 (FloatKind.nearest .f32 k_1))) (R .ret [.slice a_a a_n a_e, .int .i64 k_1, undef, undef, .int .i64 (-1), .int .i64 i, .int .i64 i, .slice a_a a_n a_e, .int .i64 (a_n : Int), .bool (decide ((i : Int) < (a_n : Int))), g10, g11, .slice a_a a_n a_e, .int .i64 i, .pointer (some ⟨b1, f1 + (i : Int).toNat * 1, none⟩), .float .f32 x1, .int .i64 k_1, .float .f32 (FloatKind.nearest .f32 k_1), .bool (!(feq .f32 x1 (FloatKind.nearest .f32 k_1))), g19, g20, undef] H) (R .normal [.slice a_a a_n a_e, .int .i64 (IntKind.wrap .i64 (k_1 + 1)), undef, undef, .int .i64 t4, .int .i64 (IntKind.wrap .i64 (i + 1)), .int .i64 i, .slice a_a a_n a_e, .int .i64 (a_n : Int), .bool (decide ((i : Int) < (a_n : Int))), .int .i64 i, .int .i64 (IntKind.wrap .i64 (i + 1)), .slice a_a a_n a_e, .int .i64 i, .pointer (some ⟨b1, f1 + (i : Int).toNat * 1, none⟩), .float .f32 x1, .int .i64 k_1, .float .f32 (FloatKind.nearest .f32 k_1), .bool (!(feq .f32 x1 (FloatKind.nearest .f32 k_1))), .int .i64 k_1, .int .i64 (IntKind.wrap .i64 (k_1 + 1)), undef] H)) (R (.exit 0) [.slice a_a a_n a_e, .int .i64 k_1, undef, undef, .int .i64 t4, .int .i64 i, .int .i64 i, .slice a_a a_n a_e, .int .i64 (a_n : Int), .bool (decide ((i : Int) < (a_n : Int))), g10, g11, g12, g13, g14, g15, g16, g17, g18, g19, g20, undef] H)) := by kernel_rfl
def laws_heldFloat32S_I1 (a_a : Option Addr) (a_e : Nat) (a_n : Nat) (Inv : Nat → Int → Int → Int → AHeap → Prop) : Nat → List Value → AHeap → Prop := fun μ tm H => ∃ (k_1 : Int), ∃ (t4 : Int), ∃ (i : Int), ∃ g6 g7 g8 g9 g10 g11 g12 g13 g14 g15 g16 g17 g18 g19 g20, tm = (laws_heldFloat32S_P1 a_a a_e a_n k_1 t4 i g6 g7 g8 g9 g10 g11 g12 g13 g14 g15 g16 g17 g18 g19 g20) ∧ Inv μ k_1 t4 i H
theorem laws_heldFloat32S_L1 (a_a : Option Addr) (a_e : Nat) (a_n : Nat) {Q : Post} (Inv : Nat → Int → Int → Int → AHeap → Prop) (ν : Nat) (k_1 : Int) (t4 : Int) (i : Int) (g6 g7 g8 g9 g10 g11 g12 g13 g14 g15 g16 g17 g18 g19 g20 : Value) (H : AHeap) (h0 : Inv ν k_1 t4 i H)
    (hs : ∀ (μ : Nat) (k_1 : Int) (t4 : Int) (i : Int) (g6 g7 g8 g9 g10 g11 g12 g13 g14 g15 g16 g17 g18 g19 g20 : Value) (H : AHeap), Inv μ k_1 t4 i H → exK Try.prog E_laws_heldFloat32S (cl (cl (cr (cl (cr (bodyC Try.f16)))))) (laws_heldFloat32S_P1 a_a a_e a_n k_1 t4 i g6 g7 g8 g9 g10 g11 g12 g13 g14 g15 g16 g17 g18 g19 g20) H (loopQ (laws_heldFloat32S_I1 a_a a_e a_n Inv) μ Q)) : loopK (exK Try.prog E_laws_heldFloat32S (cl (cl (cr (cl (cr (bodyC Try.f16))))))) (laws_heldFloat32S_P1 a_a a_e a_n k_1 t4 i g6 g7 g8 g9 g10 g11 g12 g13 g14 g15 g16 g17 g18 g19 g20) H Q :=
  ⟨laws_heldFloat32S_I1 a_a a_e a_n Inv, ν, ⟨k_1, t4, i, g6, g7, g8, g9, g10, g11, g12, g13, g14, g15, g16, g17, g18, g19, g20, rfl, h0⟩, fun μ tm H h => by obtain ⟨k_1, t4, i, g6, g7, g8, g9, g10, g11, g12, g13, g14, g15, g16, g17, g18, g19, g20, rfl, hI⟩ := h; exact hs μ k_1 t4 i g6 g7 g8 g9 g10 g11 g12 g13 g14 g15 g16 g17 g18 g19 g20 H hI⟩
theorem laws_heldFloat32S_n1 {a_a : Option Addr} {a_e : Nat} {a_n : Nat} {Q : Post} {Inv : Nat → Int → Int → Int → AHeap → Prop} {μ : Nat} (μ' : Nat) {k_1 : Int} {t4 : Int} {i : Int} {g6 g7 g8 g9 g10 g11 g12 g13 g14 g15 g16 g17 g18 g19 g20 : Value} {H : AHeap} (hm : μ' < μ) (hI : Inv μ' k_1 t4 i H) : loopQ (laws_heldFloat32S_I1 a_a a_e a_n Inv) μ Q .normal (laws_heldFloat32S_P1 a_a a_e a_n k_1 t4 i g6 g7 g8 g9 g10 g11 g12 g13 g14 g15 g16 g17 g18 g19 g20) H := ⟨μ', hm, k_1, t4, i, g6, g7, g8, g9, g10, g11, g12, g13, g14, g15, g16, g17, g18, g19, g20, rfl, hI⟩
theorem laws_heldFloat32S_x1_0 (a_a : Option Addr) (a_e : Nat) (a_n : Nat) (k_1 : Int) (t4 : Int) (i : Int) (g6 g7 g8 g9 g10 g11 g12 g13 g14 g15 g16 g17 g18 g19 g20 : Value) (H : AHeap) (K : Value → AHeap → Prop)  {I : Nat → List Value → AHeap → Prop} {μ : Nat} : loopQ I μ (blockQ 0 (seqQ (exK Try.prog E_laws_heldFloat32S (cr (cr (bodyC Try.f16)))) (retK Try.prog Try.f16 K))) (.exit 0) (laws_heldFloat32S_P1 a_a a_e a_n k_1 t4 i g6 g7 g8 g9 g10 g11 g12 g13 g14 g15 g16 g17 g18 g19 g20) H =
  (K (.int .i64 k_1) H) := by kernel_rfl
theorem laws_heldFloat32S_x1_ret (a_a : Option Addr) (a_e : Nat) (a_n : Nat) (k_1 : Int) (t4 : Int) (i : Int) (g6 g7 g8 g9 g10 g11 g12 g13 g14 g15 g16 g17 g18 g19 g20 : Value) (H : AHeap) (K : Value → AHeap → Prop)  {I : Nat → List Value → AHeap → Prop} {μ : Nat} : loopQ I μ (blockQ 0 (seqQ (exK Try.prog E_laws_heldFloat32S (cr (cr (bodyC Try.f16)))) (retK Try.prog Try.f16 K))) .ret (laws_heldFloat32S_P1 a_a a_e a_n k_1 t4 i g6 g7 g8 g9 g10 g11 g12 g13 g14 g15 g16 g17 g18 g19 g20) H =
  (K (.int .i64 t4) H) := by kernel_rfl
theorem E_laws_heldFloat32S_ok : ∀ g, FnOk Try.prog g (E_laws_heldFloat32S g) := FnOk.envOf (by
  intro x hx; cases hx)
set_option maxHeartbeats 1000000 in
theorem laws_heldFloat32S_main (a_a : Option Addr) (a_n : Nat) (a_e : Nat) (k : Int) (H : AHeap) (K : Value → AHeap → Prop) (h : T_laws_heldFloat32S a_a a_n a_e k H fun (r1 : Int) (H' : AHeap) => K (.int .i64 r1) H') : bodyK Try.prog E_laws_heldFloat32S Try.f16 [.slice a_a a_n a_e, .int .i64 k] H K := by
  rw [laws_heldFloat32S_vc]
  obtain ⟨l_a, i_a, bd_9, hk⟩ := h
  obtain rfl := i_a.eqn
  have e : (p_laws_heldFloat32S l_a k) = _ := rfl
  have e := e.trans (p_laws_heldFloat32S_eq l_a k)
  have g0 := Grow.refl H
  refine laws_heldFloat32S_L1 _ _ _ (fun (μ : Nat) (k_1 : Int) (t4 : Int) (i : Int) (H_1 : AHeap) => H = H_1 ∧ (0 : Int) ≤ i ∧ i ≤ (l_a.length : Int) ∧ (l_a.length : Int) - i ≤ (μ : Int) ∧ p_laws_heldFloat32S l_a k = p_laws_heldFloat32S_l1 l_a k (μ + 1) k_1 t4 i) (Int.toNat ((l_a.length : Int) - (0 : Int))) _ _ _ _ _ _ _ _ _ _ _ _ _ _ _ _ _ _ H ?_ ?_
  · exact ⟨rfl, o5, o5, o4, e⟩
  · intro μ k_1 t4 i g6 g7 g8 g9 g10 g11 g12 g13 g14 g15 g16 g17 g18 g19 g20 H_1 hI
    obtain ⟨rfl, v_1, v_2, hμ, e⟩ := hI
    rw [laws_heldFloat32S_r1]
    have e := e.trans (p_laws_heldFloat32S_l1_s l_a k μ k_1 t4 i)
    have l_3 := g0.1
    refine Br.intro (fun c_4 => ?_) (fun c_4 => ?_)
    · have e := e.trans (cond_t c_4)
      have c_4' := of_decide_eq_true c_4
      obtain ⟨b_5, f_6, q_7⟩ := ((i_a.grow g0)).pos o0
      refine ⟨by omega, by omega, b_5, f_6, q_7, ?_⟩
      refine ⟨((l_a).getD (i : Int).toNat 0), (i_a).rd g0 q_7 o4 _, ?_⟩
      refine Br.intro (fun c_8 => ?_) (fun c_8 => ?_)
      · have e := e.trans (cond_t c_8)
        have c_8n := nf_of_t c_8
        rw [laws_heldFloat32S_x1_ret]
        rw [e] at hk
        exact hk
      · have e := e.trans (cond_f c_8)
        have c_8n := nt_of_f c_8
        rw [show IntKind.wrap .i64 (i + 1) = (i + 1) from wrap64 o4 o4]
        refine laws_heldFloat32S_n1 (μ - 1) o12 ⟨rfl, o1, o1, o12, (by rw [show μ - 1 + 1 = μ from by first | omega]; exact e)⟩
    · have e := e.trans (cond_f c_4)
      have c_4' := of_decide_eq_false c_4
      rw [laws_heldFloat32S_x1_0]
      rw [e] at hk
      exact hk
theorem laws_heldFloat32S_ok : FnOk Try.prog 16 S_laws_heldFloat32S := by
  refine FnOk.body mix_ok E_laws_heldFloat32S_ok Try.func16 rfl (by kernel_rfl) (by kernel_rfl) ?_ ?_ ?_ ?_ ?_
  · intro args H K K' h hk
    simp only [S_laws_heldFloat32S] at *
    unfold F_laws_heldFloat32S at *
    split at hk
    · obtain ⟨l_a, i_a, bd_9, k⟩ := hk
      exact ⟨l_a, i_a, bd_9, h _ _ k⟩
    · exact hk.elim
  · intro _ args H K hk
    simp only [S_laws_heldFloat32S] at *
    unfold F_laws_heldFloat32S at *
    split at hk
    · obtain ⟨l_a, i_a, bd_9, k⟩ := hk
      exact ⟨_, k, fun K' k' => ⟨l_a, i_a, bd_9, k'⟩⟩
    · exact hk.elim
  · intro args H K hk
    simp only [S_laws_heldFloat32S] at *
    unfold F_laws_heldFloat32S at *
    split at hk
    · obtain ⟨l_a, i_a, bd_9, k⟩ := hk
      exact ⟨_, _, k⟩
    · exact hk.elim
  · intro hq; cases hq
  · have mm := @laws_heldFloat32S_main
    revert mm
    generalize bodyK Try.prog E_laws_heldFloat32S Try.f16 = Q
    intro mm args H K hk
    simp only [S_laws_heldFloat32S] at *
    unfold F_laws_heldFloat32S at *
    split at hk
    · exact mm _ _ _ _ H K hk
    · exact hk.elim

def p_laws_FnExactFromAtoms (aCount : Int) (l_aAtoms : List (Int × Nat × Nat)) : Bool := ((bif decide (((p_laws_szAtomS l_aAtoms (1048576 : Int)) : Int) < 0) then true else (bif !((p_laws_eqFloat32S ((p_impl_FromAtoms aCount l_aAtoms).1) ((p_spec_FromAtoms aCount l_aAtoms).1))) then false else (bif !(((p_impl_FromAtoms aCount l_aAtoms).2) == ((p_spec_FromAtoms aCount l_aAtoms).2)) then false else (bif !(p_laws_eqAtomS l_aAtoms l_aAtoms) then false else (bif decide (((wkA (1 : Int) l_aAtoms.length) : Int) < 0) then false else (bif !((p_laws_eqFloat32S ((p_impl_FromAtoms aCount l_aAtoms).1) ((p_spec_FromAtoms aCount l_aAtoms).1))) then false else (bif !(((p_impl_FromAtoms aCount l_aAtoms).2) == ((p_spec_FromAtoms aCount l_aAtoms).2)) then false else (bif decide (((p_laws_heldFloat32S ((marks (FloatKind.nearest .f32) (1 : Int) ((p_impl_FromAtoms aCount l_aAtoms).1).length)) (1 : Int)) : Int) < 0) then false else (bif ((p_laws_heldFloat32S ((marks (FloatKind.nearest .f32) (1 : Int) ((p_impl_FromAtoms aCount l_aAtoms).1).length)) (1 : Int)) : Int) != (wk (1 : Int) ((p_impl_FromAtoms aCount l_aAtoms).1).length) then false else (bif !((p_laws_eqFloat32S ((p_impl_FromAtoms aCount l_aAtoms).1) ((p_spec_FromAtoms aCount l_aAtoms).1))) then false else (bif !(((p_impl_FromAtoms aCount l_aAtoms).2) == ((p_spec_FromAtoms aCount l_aAtoms).2)) then false else (bif decide (((p_laws_heldFloat32S ((marks (FloatKind.nearest .f32) (1 : Int) ((p_impl_FromAtoms aCount l_aAtoms).1).length)) (1 : Int)) : Int) < 0) then false else (bif ((p_laws_heldFloat32S ((marks (FloatKind.nearest .f32) (1 : Int) ((p_impl_FromAtoms aCount l_aAtoms).1).length)) (1 : Int)) : Int) != (wk (1 : Int) ((p_impl_FromAtoms aCount l_aAtoms).1).length) then false else true))))))))))))))
def p_laws_FnExactFromAtoms_eq := @p_laws_FnExactFromAtoms.eq_1
def T_laws_FnExactFromAtoms (aCount : Int) (aAtoms_a : Option Addr) (aAtoms_n : Nat) (aAtoms_e : Nat) (H : AHeap) (K : Bool → AHeap → Prop) : Prop := ∃ l_aAtoms : List (Int × Nat × Nat), I64 aCount ∧ IsT fA H aAtoms_a aAtoms_n l_aAtoms ∧ (∀ y ∈ l_aAtoms, A3 y) ∧ l_aAtoms.length ≤ 9223372036854775807 ∧ ∀ H' : AHeap, K true H'
theorem exp_sq (y y' P P' K : Nat) (k : Int) : ∀ (μ p : Nat) (i : Int), p_impl_expWide_l2 y P K (fun (p : Nat) (t : Int) => p) μ p i = p_spec_l01ExpWide_l2 y' P' k (fun (p : Nat) (t : Int) => p) μ p i := by
  intro μ
  induction μ with
  | zero => intro p i; rfl
  | succ μ ih => intro p i; rw [p_impl_expWide_l2_s, p_spec_l01ExpWide_l2_s, ih]
theorem exp_ser (y : Nat) : ∀ (μ p : Nat) (n : Int), n ≤ 12 → -1 ≤ n → p_impl_expWide_l1 y μ p (FloatKind.nearest .f64 n) = p_spec_l01ExpWide_l1 y μ p n := by
  intro μ
  induction μ with
  | zero => intro p n _ _; rfl
  | succ μ ih =>
    intro p n h1 h0
    have c := cnt_at (n := n) o4 o4
    rw [p_impl_expWide_l1_s, p_spec_l01ExpWide_l1_s, c.2.1]
    by_cases hc : (1 : Int) ≤ n
    · rw [decide_eq_true hc, cond_true, cond_true, c.2.2.1, ih _ (n - 1) o4 o4]
    · rw [decide_eq_false hc, cond_false, cond_false, exp_sq y y p p _ n]
theorem expWide_same {y : Nat} (hy : Wd .f64 y) : p_impl_expWide y = p_spec_l01ExpWide y := by
  by_cases hn : (FloatKind.f64.format.read y).isNaN = true
  · have e : y = qnan .f64 := by rw [← hy.2]; exact cn_of_nan hn
    rw [e]; decide +kernel
  · have hn : (FloatKind.f64.format.read y).isNaN = false := by simpa using hn
    rw [p_impl_expWide_eq, p_spec_l01ExpWide_eq, feq_self hn, Bool.not_true, cond_false]
    have e1 : Int.toNat (cnt 4622945017495814144) + 1 = Int.toNat ((12 : Int) - 1 + 1) + 1 := by decide +kernel
    have e5 : (4622945017495814144 : Nat) = FloatKind.nearest .f64 12 := by decide +kernel
    have := exp_ser y (Int.toNat ((12 : Int) - 1 + 1) + 1) 4607182418800017408 12 o22 o22
    rw [← e5] at this
    rw [e1, this]
theorem exp_same (x : Nat) : p_impl_ExpNumber x = p_spec_l01Exp x := by
  rw [p_impl_ExpNumber_eq, p_spec_l01Exp_eq, p_spec_l01Narrow_eq, p_impl_expOf_eq, expWide_same (wide_wd x)]
theorem abs_sv {x : Nat} (h : fin .f64 x = true) : fin .f64 (p_math_Abs x) = true ∧ sv .f64 (p_math_Abs x) = ((sv .f64 x).natAbs : Int) := by
  obtain ⟨s, m, e, hr⟩ := fin_num h
  have hm := read_mod hr
  rw [show FloatKind.f64.format.signWeight = 9223372036854775808 by decide] at hm
  have ea : p_math_Abs x = x % 9223372036854775808 := by
    unfold p_math_Abs
    rw [cn_of_not_nan (fin_nn h), cn_of_not_nan (show (FloatKind.f64.decode _).isNaN = false from by show (FloatKind.f64.format.read _).isNaN = false; rw [hm]; rfl)]
  rw [ea]
  unfold fin sv
  rw [hm, hr]
  refine ⟨rfl, ?_⟩
  simp only []
  rw [signed_natAbs, signed_eq, if_neg o22, Nat.shiftLeft_eq]
theorem abs_cond {x : Nat} (h : fin .f64 x = true) : fle .f64 4841369599423283200 (p_math_Abs x) = (fle .f64 4841369599423283200 x || fle .f64 x 14064741636278059008) := by
  obtain ⟨A, -, hs⟩ := two52_sv
  obtain ⟨h1, h2⟩ := abs_sv h
  rw [fle_fin two52_fin h1, fle_fin two52_fin h, mtwo52_eq, fle_fin h (fin_neg two52_fin), sv_neg two52_fin, h2, hs]
  have hp := Nat.two_pow_pos A
  generalize 2 ^ A = a at *
  generalize sv .f64 x = v at *
  by_cases c1 : (a : Int) ≤ v
  · rw [decide_eq_true c1, decide_eq_true o4]; rfl
  · by_cases c2 : v ≤ -(a : Int)
    · rw [decide_eq_true c2, decide_eq_true o4, Bool.or_true]
    · rw [decide_eq_false c1, decide_eq_false c2, decide_eq_false o4]; rfl
theorem sine_same {f : Nat} (h : Bd .f64 (1 + lp .f64) f) : p_spec_l01SineWide f = p_impl_sine f := by
  rw [spec_sine_val f (h.mono o4) (in52 h), impl_sine_val]; rfl
theorem phasor_go (t : Nat) : ∀ (μ f : Nat) (q : Int), Bd .f64 (lp .f64) f → p_impl_PhasorOf_l1 t μ f q = p_spec_l01Phasor_l1 t μ f q := by
  intro μ
  induction μ with
  | zero => intro f q _; rfl
  | succ μ ih =>
    intro f q hb
    rw [p_impl_PhasorOf_l1_s, p_spec_l01Phasor_l1_s, sine_same (lp_up1 hb), sine_same (rest_bd1 hb)]
    simp only [p_spec_l01Narrow_eq]
    cases hc : fle .f64 4598175219545276416 f
    · rfl
    · simp only [cond_true]; exact ih _ _ (qm_step hb hc).1
theorem nan_same : (((fnarrow p_math_NaN).getD 0), ((fnarrow p_math_NaN).getD 0)) = ((p_spec_l01From (2143289344 : Int)), (p_spec_l01From (2143289344 : Int))) := by decide +kernel
theorem phasor_bad {t : Nat} (hf : fin .f64 t = false) : p_impl_PhasorOf t = p_spec_l01Phasor t := by
  rw [p_impl_PhasorOf_eq, p_spec_l01Phasor_eq, fin_asked, show p_impl_isFinite64 t = fin .f64 t from fin_asked t, hf, Bool.not_false]
  exact (cond_t rfl).trans (nan_same.trans (cond_t rfl).symm)
theorem phasor_mix {α : Type} (a b : Bool) (one X Y : α) (h : a = false → b = false → X = Y) : (bif (a || b) then one else X) = (bif a then one else (bif b then one else Y)) := by
  cases a
  · cases b
    · exact h rfl rfl
    · rfl
  · rfl
theorem phasor_mix2 (L : Nat → Nat → Int → Nat × Nat) (Q : Nat → Nat) (c : Bool) (x y : Nat) : L (Q (bif c then x else y)) (bif c then x else y) 0 = (bif c then L (Q x) x 0 else L (Q y) y 0) := by
  cases c <;> rfl
theorem phasor_fin {t : Nat} (hf : fin .f64 t = true) : p_impl_PhasorOf t = p_spec_l01Phasor t := by
  rw [p_impl_PhasorOf_eq, p_spec_l01Phasor_eq, fin_asked, show p_impl_isFinite64 t = fin .f64 t from fin_asked t, hf, Bool.not_true, abs_cond hf]
  refine (cond_f rfl).trans (Eq.trans ?_ (cond_f rfl).symm)
  refine phasor_mix _ _ _ _ _ (fun h1 h2 => ?_)
  have hb := wide_in (by rw [fin_asked]; exact hf) h1 h2
  rw [phasor_go t _ _ _ (impl_fraction_bd t hb), p_impl_fraction_eq]
  exact phasor_mix2 (p_spec_l01Phasor_l1 t) (fun g => Int.toNat (qm g) + 1) _ _ _
theorem phasor_same (t : Nat) : p_impl_PhasorOf t = p_spec_l01Phasor t := by
  cases hf : fin .f64 t
  · exact phasor_bad hf
  · exact phasor_fin hf
/-- How far, as the program says it. -/
def kR (x : Nat) : Int := (ftoi .f64 (p_math_Ceil (fwide (fmul .f32 1077936128 x))) .i64).getD 0
theorem o26 {P : Prop} (h : P := by rw [List.length_append, List.length_singleton]; omega) : P := h
theorem kernel_go (x : Nat) : ∀ (μ ν : Nat) (o : List (Nat × Nat)) (k : Int), (2 * kR x + 1 - k).toNat < μ → (2 * kR x + 1 - k).toNat < ν →
    p_impl_kernel_l1 x μ o k = (p_spec_l03Kernel_l1 x ν o k, kR x) ∧ (p_spec_l03Kernel_l1 x ν o k).length = o.length + (2 * kR x + 1 - k).toNat := by
  intro μ
  induction μ with
  | zero => intro ν o k h; omega
  | succ μ ih =>
    intro ν o k h1 h2
    obtain _ | ν := ν
    · omega
    rw [p_impl_kernel_l1_s, p_spec_l03Kernel_l1_s]
    simp only [phasor_same, exp_same]
    rw [show (ftoi .f64 (p_math_Ceil (fwide (fmul .f32 1077936128 x))) .i64).getD 0 = kR x from rfl]
    by_cases hk : k < 2 * kR x + 1
    · rw [decide_eq_true hk, decide_eq_true (show k ≤ 2 * kR x by omega), cond_true, cond_true]
      obtain ⟨a, b⟩ := ih ν (o ++ [((p_spec_l01Scale ((p_spec_l01Phasor (fwide (fdiv .f32 (FloatKind.nearest .f32 ((k - kR x))) x))).1) ((p_spec_l01Phasor (fwide (fdiv .f32 (FloatKind.nearest .f32 ((k - kR x))) x))).2) (fdiv .f32 ((p_spec_l01Exp (fmul .f32 (fmul .f32 3204448256 (fdiv .f32 (FloatKind.nearest .f32 ((k - kR x))) x)) (fdiv .f32 (FloatKind.nearest .f32 ((k - kR x))) x)))) x)).1, (p_spec_l01Scale ((p_spec_l01Phasor (fwide (fdiv .f32 (FloatKind.nearest .f32 ((k - kR x))) x))).1) ((p_spec_l01Phasor (fwide (fdiv .f32 (FloatKind.nearest .f32 ((k - kR x))) x))).2) (fdiv .f32 ((p_spec_l01Exp (fmul .f32 (fmul .f32 3204448256 (fdiv .f32 (FloatKind.nearest .f32 ((k - kR x))) x)) (fdiv .f32 (FloatKind.nearest .f32 ((k - kR x))) x)))) x)).2)]) (k + 1) o4 o4
      exact ⟨a, b.trans o26⟩
    · rw [decide_eq_false hk, decide_eq_false (show ¬ k ≤ 2 * kR x by omega), cond_false, cond_false]
      exact ⟨rfl, by omega⟩
theorem kernel_same (x : Nat) : p_impl_kernel x = (p_spec_l03Kernel x, kR x) ∧ (p_spec_l03Kernel x).length = (2 * kR x + 1).toNat := by
  rw [p_impl_kernel_eq, p_spec_l03Kernel_eq]
  rw [show (ftoi .f64 (p_math_Ceil (fwide (fmul .f32 1077936128 x))) .i64).getD 0 = kR x from rfl]
  obtain ⟨a, b⟩ := kernel_go x (Int.toNat (2 * kR x + 1 - 0) + 1) (Int.toNat (2 * kR x - 0 + 1) + 1) [] 0 o4 o4
  exact ⟨a, b.trans (by simp)⟩
theorem sqrt_eq (x : Nat) : p_impl_RootNumber x = p_spec_l01Sqrt x := rfl
theorem spec_fin (x : Nat) : p_spec_l01Finite x = fin .f32 x := fin_asked x
theorem impl_fin (x : Nat) : p_impl_IsFinite x = fin .f32 x := fin_asked x
theorem w32_wd {x : Nat} (h : W32 x) : Wd .f32 x := ⟨h.1, h.2⟩
theorem wd_w32 {x : Nat} (h : Wd .f32 x) : W32 x := ⟨h.1, h.2⟩
theorem l02Finite_go (l : List Nat) : ∀ (μ : Nat) (t : Bool) (i : Nat), l.length - i < μ → p_spec_l02Finite_l1 l μ t (i : Int) = (l.drop i).all (fin .f32) := by
  intro μ
  induction μ with
  | zero => intro t i h; omega
  | succ μ ih =>
    intro t i hm
    rw [p_spec_l02Finite_l1_s]
    by_cases h : i < l.length
    · rw [decide_eq_true (show (i : Int) < (l.length : Int) by omega), cond_true, Int.toNat_natCast, spec_fin]
      rw [List.drop_eq_getElem_cons h, List.all_cons, List.getD_eq_getElem?_getD, List.getElem?_eq_getElem h, Option.getD_some]
      have := ih t (i + 1) o4
      cases fin .f32 l[i]
      · rfl
      · simp only [Bool.not_true, cond_false, Bool.true_and]; exact this
    · rw [decide_eq_false (show ¬ (i : Int) < (l.length : Int) by omega), cond_false, List.drop_eq_nil_of_le o4]; rfl
theorem l02Finite_all (l : List Nat) : p_spec_l02Finite l = l.all (fin .f32) := by
  rw [p_spec_l02Finite_eq]
  have := l02Finite_go l (Int.toNat ((l.length : Int) - (0 : Int)) + 1) false 0 o4
  simpa using this
theorem areFinite_in (ls : List (List Nat)) (t2 : Bool) (t9 : Int) (k : Bool → Int → Bool) : ∀ (μ : Nat) (t : Bool) (i : Nat), i ≤ (ls.getD t9.toNat []).length → (ls.getD t9.toNat []).length - i < μ →
    p_impl_areFinite_l2 ls t2 t9 k μ t (i : Int) = bif ((ls.getD t9.toNat []).drop i).all (fin .f32) then k t ((ls.getD t9.toNat []).length : Int) else false := by
  intro μ
  generalize hl : ls.getD t9.toNat [] = l
  induction μ with
  | zero => intro t i _ h; omega
  | succ μ ih =>
    intro t i hi hm
    rw [p_impl_areFinite_l2_s, hl]
    by_cases h : i < l.length
    · rw [decide_eq_true (show (i : Int) < (l.length : Int) by omega), cond_true, Int.toNat_natCast, impl_fin]
      rw [List.drop_eq_getElem_cons h, List.all_cons, List.getD_eq_getElem?_getD, List.getElem?_eq_getElem h, Option.getD_some]
      have := ih t (i + 1) o4 o4
      cases fin .f32 l[i]
      · rfl
      · simp only [Bool.not_true, cond_false, Bool.true_and]; exact this
    · rw [decide_eq_false (show ¬ (i : Int) < (l.length : Int) by omega), cond_false, List.drop_eq_nil_of_le o4, show i = l.length by omega]; rfl
theorem areFinite_go (ls : List (List Nat)) : ∀ (μ : Nat) (t : Bool) (i : Nat), ls.length - i < μ → p_impl_areFinite_l1 ls μ t (i : Int) = (ls.drop i).all (fun l => l.all (fin .f32)) := by
  intro μ
  induction μ with
  | zero => intro t i h; omega
  | succ μ ih =>
    intro t i hm
    rw [p_impl_areFinite_l1_s]
    by_cases h : i < ls.length
    · rw [decide_eq_true (show (i : Int) < (ls.length : Int) by omega), cond_true]
      have := areFinite_in ls t (i : Int) (fun t2 t15 => p_impl_areFinite_l1 ls μ t2 ((i : Int) + 1)) (Int.toNat ((((ls).getD ((i : Int) : Int).toNat []).length : Int) - (0 : Int)) + 1) t 0 (Nat.zero_le _) o4
      refine Eq.trans this ?_
      rw [Int.toNat_natCast, List.drop_zero, List.drop_eq_getElem_cons h, List.all_cons, List.getD_eq_getElem?_getD, List.getElem?_eq_getElem h, Option.getD_some]
      have := ih t (i + 1) o4
      cases ls[i].all (fin .f32)
      · rfl
      · simp only [cond_true, Bool.true_and]; exact this
    · rw [decide_eq_false (show ¬ (i : Int) < (ls.length : Int) by omega), cond_false, List.drop_eq_nil_of_le o4]; rfl
theorem areFinite_all (ls : List (List Nat)) : p_impl_areFinite ls = ls.all (fun l => l.all (fin .f32)) := by
  rw [p_impl_areFinite_eq]
  have := areFinite_go ls (Int.toNat ((ls.length : Int) - (0 : Int)) + 1) false 0 o4
  simpa using this
theorem finite_same (l : List Nat) : p_impl_areFinite [l] = p_spec_l02Finite l := by rw [areFinite_all, l02Finite_all]; simp
theorem energy_go (a : List Nat) : ∀ (μ : Nat) (s : Nat) (t : Int), p_impl_squares_l1 a μ s t = p_spec_l03Energy_l1 a μ s t := by
  intro μ
  induction μ with
  | zero => intro s t; unfold p_impl_squares_l1 p_spec_l03Energy_l1; rfl
  | succ μ ih =>
    intro s t
    rw [p_impl_squares_l1_s, p_spec_l03Energy_l1_s, ih]
theorem energy_same (a : List Nat) : p_impl_squares a = p_spec_l03Energy a := by
  rw [p_impl_squares_eq, p_spec_l03Energy_eq, energy_go]
theorem atom_l2 (l : List Nat) (r c p : Int) (s z : Nat) (t i0 : Int) (A : List Nat) (hA : (c).toNat = A.length) : ∀ (μ : Nat) (i : Int) (y : List Nat),
    p_impl_atomBy_l2 l r c p z t A (fun (t50 : Int) (y2_1 : List Nat) => y2_1) μ i y = p_spec_l05Of_l2 c p s z A i0 (fun (t54 : Int) (y2_1 : List Nat) => y2_1) μ i y := by
  intro μ
  induction μ with
  | zero => intro i y; rfl
  | succ μ ih =>
    intro i y
    rw [p_impl_atomBy_l2_s, p_spec_l05Of_l2_s, hA, energy_same, sqrt_eq, ih]
theorem set_app (A : List Nat) (m v : Nat) : (A ++ List.replicate (m + 1) 0).set A.length v = (A ++ [v]) ++ List.replicate m 0 := by
  rw [List.set_append_right _ _ (Nat.le_refl _), Nat.sub_self, List.replicate_succ, List.set_cons_zero, List.append_assoc]; rfl
theorem keep_app (A : List Nat) (m : Nat) : (A ++ List.replicate (m + 1) 0) = (A ++ [0]) ++ List.replicate m 0 := by
  rw [List.replicate_succ, List.append_assoc]; rfl
theorem atom_l1 (c p : Int) (s z : Nat) : ∀ (μ ν : Nat) (A : List Nat), A.length ≤ c.toNat → c.toNat - A.length < μ → c.toNat - A.length < ν → 0 ≤ c →
    p_impl_atomBy_l1 ((p_spec_l03Kernel s).map Prod.fst) (kR s) c p z μ (A.length : Int) (A ++ List.replicate (c.toNat - A.length) 0) = p_spec_l05Of_l1 c p s z ν A (A.length : Int) := by
  intro μ
  induction μ with
  | zero => intro ν A h1 h2; omega
  | succ μ ih =>
    intro ν A h1 h2 h3 h0
    obtain _ | ν := ν
    · omega
    rw [p_impl_atomBy_l1_s, p_spec_l05Of_l1_s]
    obtain ⟨-, hlen⟩ := kernel_same s
    by_cases hc : (A.length : Int) < c
    · rw [decide_eq_true (show (A.length : Int) < ((c).toNat : Int) by omega), decide_eq_true hc, cond_true, cond_true]
      obtain ⟨m, hm⟩ : ∃ m, c.toNat - A.length = m + 1 := ⟨c.toNat - A.length - 1, by omega⟩
      have step : ∀ v : Nat, p_impl_atomBy_l1 ((p_spec_l03Kernel s).map Prod.fst) (kR s) c p z μ ((A.length : Int) + 1) ((A ++ [v]) ++ List.replicate m 0) = p_spec_l05Of_l1 c p s z ν (A ++ [v]) ((A.length : Int) + 1) := by
        intro v
        have := ih ν (A ++ [v]) o26 o26 o26 h0
        rw [List.length_append, List.length_singleton, show c.toNat - (A.length + 1) = m by omega] at this
        exact this
      rw [List.length_map, Int.toNat_natCast, hm, set_app]
      by_cases hR : 0 ≤ kR s
      · have ht : Int.tdiv (((p_spec_l03Kernel s).length : Int)) 2 = kR s := by
          rw [hlen, Int.tdiv_eq_ediv_of_nonneg o4]; omega
        rw [ht]
        generalize hk : ((A.length : Int) - p) + kR s = k at *
        by_cases k0 : 0 ≤ k
        · by_cases k1 : k < ((p_spec_l03Kernel s).length : Int)
          · have hin : p_spec_l00In k 0 ((((p_spec_l03Kernel s).length : Int)) - 1) = true := by
              rw [p_spec_l00In_eq, decide_eq_true k0, cond_true]; exact decide_eq_true o4
            rw [decide_eq_true k0, decide_eq_true k1, cond_true, cond_true, hin, cond_true]
            have hg : ((p_spec_l03Kernel s).map Prod.fst).getD k.toNat 0 = ((p_spec_l03Kernel s).getD k.toNat (0, 0)).1 := by
              have hk' : k.toNat < (p_spec_l03Kernel s).length := by omega
              rw [List.getD_eq_getElem?_getD, List.getD_eq_getElem?_getD, List.getElem?_map, List.getElem?_eq_getElem hk']; rfl
            rw [hg]
            exact step _
          · have hin : p_spec_l00In k 0 ((((p_spec_l03Kernel s).length : Int)) - 1) = false := by
              rw [p_spec_l00In_eq, decide_eq_true k0, cond_true]; exact decide_eq_false o4
            rw [decide_eq_true k0, decide_eq_false k1, cond_true, cond_false, hin, cond_false, keep_app]
            exact step _
        · have hin : p_spec_l00In k 0 ((((p_spec_l03Kernel s).length : Int)) - 1) = false := by
            rw [p_spec_l00In_eq, decide_eq_false k0, cond_false]
          rw [decide_eq_false k0, cond_false, hin, cond_false, keep_app]
          exact step _
      · have hz : (p_spec_l03Kernel s).length = 0 := by rw [hlen]; omega
        have hin : ∀ k : Int, p_spec_l00In k 0 ((((p_spec_l03Kernel s).length : Int)) - 1) = false := by
          intro k
          rw [p_spec_l00In_eq, hz]
          by_cases k0 : 0 ≤ k
          · rw [decide_eq_true k0, cond_true]; exact decide_eq_false o4
          · rw [decide_eq_false k0, cond_false]
        have hno : ∀ k : Int, ∀ (X Y : List Nat), (bif decide ((0 : Int) ≤ k) then (bif decide (k < ((p_spec_l03Kernel s).length : Int)) then X else Y) else Y) = Y := by
          intro k X Y
          rw [hz]
          by_cases k0 : 0 ≤ k
          · rw [decide_eq_true k0, decide_eq_false o4]; rfl
          · rw [decide_eq_false k0]; rfl
        rw [hin, cond_false, hno, keep_app]
        exact step _
    · rw [decide_eq_false (show ¬ (A.length : Int) < ((c).toNat : Int) by omega), decide_eq_false hc, cond_false, cond_false]
      have e : c.toNat = A.length := by omega
      rw [show c.toNat - A.length = 0 by omega, List.replicate_zero, List.append_nil, atom_l2 _ _ c p s z _ (A.length : Int) A e, e]
theorem atomBy_same (c p : Int) (s z : Nat) (h0 : 0 ≤ c) : p_impl_atomBy (p_impl_realKernel s).1 (p_impl_realKernel s).2 c p z = p_spec_l05Of c p s z := by
  obtain ⟨hk, -⟩ := kernel_same s
  rw [impl_realKernel_val, hk, p_impl_atomBy_eq, p_spec_l05Of_eq]
  have := atom_l1 c p s z (Int.toNat (((c).toNat : Int) - (0 : Int)) + 1) (Int.toNat (c - (0 : Int)) + 1) [] (Nat.zero_le _) (by simp only [List.length_nil]; omega) (by simp only [List.length_nil]; omega) h0
  rw [List.length_nil, Nat.sub_zero, List.nil_append] at this
  exact this
theorem wk_one {n : Nat} (h : n < 1073741824) : decide (wk 1 n < (0 : Int)) = false := by
  rw [wk_eq n 1 o4 o4]; exact decide_eq_false o4
theorem atomList_same (c p : Int) (s z : Nat) : p_impl_AtomList c p s z = p_spec_AtomList c p s z := by
  rw [p_impl_AtomList_eq, p_spec_AtomList_eq, p_spec_l05Atom_eq]
  rw [show p_impl_within c 1 128 = p_spec_l00In c 1 128 from rfl, show p_impl_within p 0 (c - 1) = p_spec_l00In p 0 (c - 1) from rfl, show p_impl_isScale s = p_spec_l03Scale s from rfl, show p_impl_IsFinite z = p_spec_l01Finite z from rfl]
  cases hc : p_spec_l00In c 1 128
  · rfl
  · have h0 := l00In_t hc
    rw [atomBy_same c p s z o4, p_impl_finiteList_eq, finite_same]
    cases p_spec_l00In p 0 (c - 1)
    · rfl
    · cases p_spec_l03Scale s
      · rfl
      · cases p_spec_l01Finite z
        · rfl
        · cases p_spec_l02Finite (p_spec_l05Of c p s z) <;> rfl
theorem fromAtoms_l2 (c : Int) (l : List (Int × Nat × Nat)) (t t' : Bool) (i i' : Int) (y y' : List Nat) (K K' : Int → List Nat → (List Nat × Bool)) (a : Int) (b d : Nat) (hl : ((p_spec_AtomList c a b d).1).length = c.toNat)
    (h1 : l.getD i.toNat (0, 0, 0) = (a, b, d)) (h2 : l.getD i'.toNat (0, 0, 0) = (a, b, d)) (hK : ∀ j z, K j z = K' j z) : ∀ (μ : Nat) (j : Int) (z : List Nat),
    p_impl_FromAtoms_l2 c l t i y K μ j z = p_spec_FromAtoms_l2 c l t' i' y' K' μ j z := by
  intro μ
  induction μ with
  | zero => intro j z; rfl
  | succ μ ih =>
    intro j z
    rw [p_impl_FromAtoms_l2_s, p_spec_FromAtoms_l2_s, h1, h2, atomList_same, hl, ih, hK]
theorem fromAtoms_l1 (c : Int) (l : List (Int × Nat × Nat)) : ∀ (μ : Nat) (t t' : Bool) (i : Int) (y : List Nat), p_impl_FromAtoms_l1 c l μ t i y = p_spec_FromAtoms_l1 c l μ t' i y := by
  intro μ
  induction μ with
  | zero => intro t t' i y; rfl
  | succ μ ih =>
    intro t t' i y
    rw [p_impl_FromAtoms_l1_s, p_spec_FromAtoms_l1_s, atomList_same]
    generalize hy : l.getD i.toNat (0, 0, 0) = q at *
    cases decide (i < (l.length : Int))
    · rw [p_impl_finiteList_eq, finite_same, cond_false, cond_false]
      cases p_spec_l02Finite y <;> rfl
    · rw [cond_true, cond_true]
      cases hA : (p_spec_AtomList c q.1 q.2.1 q.2.2).2
      · rfl
      · have hl := spec_AtomList_full hA
        rw [Bool.not_true, cond_false, cond_false, hl]
        exact fromAtoms_l2 c l _ _ _ _ _ _ _ _ q.1 q.2.1 q.2.2 hl hy hy (fun j z => ih _ _ _ _) _ _ _
theorem fromAtoms_same (c : Int) (l : List (Int × Nat × Nat)) : p_impl_FromAtoms c l = p_spec_FromAtoms c l := by
  rw [p_impl_FromAtoms_eq, p_spec_FromAtoms_eq, fromAtoms_l1 c l _ false false]
  rfl
theorem laws_FnExactFromAtoms_true (aCount : Int) (l_aAtoms : List (Int × Nat × Nat)) (q0 : I64 aCount) (q1 : (∀ y ∈ l_aAtoms, A3 y)) (q2 : l_aAtoms.length ≤ 9223372036854775807) : p_laws_FnExactFromAtoms aCount l_aAtoms = true := by
  rw [p_laws_FnExactFromAtoms_eq, fromAtoms_same]
  rcases laws_szAtomS_f l_aAtoms 1048576 o22 o22 q2 with h | ⟨h, h'⟩
  · rw [decide_eq_true h]; rfl
  · have hr := spec_FromAtoms_len aCount l_aAtoms
    have hw : decide (wkA 1 l_aAtoms.length < (0 : Int)) = false := by
      rw [wkA_eq _ _ o4 o4]; exact decide_eq_false o4
    rw [decide_eq_false (show ¬ p_laws_szAtomS l_aAtoms 1048576 < 0 by omega), cond_false]
    simp only [laws_eqAtomS_self, laws_eqFloat32S_self, laws_heldFloat32S_marks, Bool.not_true, cond_false, beq_self_eq_true, bne_self_eq_false, hw, wk_one (show (p_spec_FromAtoms aCount l_aAtoms).1.length < 1073741824 by omega)]
/-! laws_FnExactFromAtoms: function 8 -/
def E_laws_FnExactFromAtoms : Env := envOf [(38, S_laws_szAtomS), (40, S_laws_toAtomS), (39, S_spec_FromAtoms), (41, S_impl_FromAtoms), (14, S_laws_eqFloat32S), (42, S_laws_eqAtomS), (43, S_laws_markAtomS), (15, S_laws_markFloat32S), (16, S_laws_heldFloat32S)]
def F_laws_FnExactFromAtoms : List Value → AHeap → (Value → AHeap → Prop) → Prop
  | [.int .i64 aCount, .slice aAtoms_a aAtoms_n aAtoms_e], H, K => T_laws_FnExactFromAtoms aCount aAtoms_a aAtoms_n aAtoms_e H fun (r1 : Bool) (H' : AHeap) => K (.bool r1) H'
  | _, _, _ => False
def S_laws_FnExactFromAtoms : FSpec := { F := F_laws_FnExactFromAtoms, quiet := false, tame := false }
theorem laws_FnExactFromAtoms_vc (aCount : Int) (aAtoms_a : Option Addr) (aAtoms_n : Nat) (aAtoms_e : Nat) (H : AHeap) (K : Value → AHeap → Prop) : bodyK Try.prog E_laws_FnExactFromAtoms Try.f8 [.int .i64 aCount, .slice aAtoms_a aAtoms_n aAtoms_e] H K =
  (T_laws_szAtomS aAtoms_a aAtoms_n aAtoms_e 1048576 H fun (r1 : Int) (H1 : AHeap) => Br (decide ((r1 : Int) < 0)) (K (.bool true) H1) (T_laws_toAtomS aAtoms_a aAtoms_n aAtoms_e H1 fun (a1 : Option Addr) (r2 : Nat) (r3 : Nat) (H2 : AHeap) => T_spec_FromAtoms aCount a1 r2 r3 H2 fun (a2 : Option Addr) (r4 : Nat) (r5 : Nat) (r6 : Bool) (H3 : AHeap) => T_laws_toAtomS aAtoms_a aAtoms_n aAtoms_e H3 fun (a3 : Option Addr) (r7 : Nat) (r8 : Nat) (H4 : AHeap) => T_impl_FromAtoms aCount a3 r7 r8 H4 fun (a4 : Option Addr) (r9 : Nat) (r10 : Nat) (r11 : Bool) (H5 : AHeap) => T_laws_eqFloat32S a4 r9 r10 a2 r4 r5 H5 fun (r12 : Bool) (H6 : AHeap) => Br (!r12) (K (.bool false) H6) (Br (!(r11 == r6)) (K (.bool false) H6) (T_laws_toAtomS aAtoms_a aAtoms_n aAtoms_e H6 fun (a5 : Option Addr) (r13 : Nat) (r14 : Nat) (H7 : AHeap) => T_laws_eqAtomS a3 r7 r8 a5 r13 r14 H7 fun (r15 : Bool) (H8 : AHeap) => Br (!r15) (K (.bool false) H8) (T_laws_markAtomS a3 r7 r8 1 H8 fun (r16 : Int) (H9 : AHeap) => Br (decide ((r16 : Int) < 0)) (K (.bool false) H9) (T_laws_eqFloat32S a4 r9 r10 a2 r4 r5 H9 fun (r17 : Bool) (H10 : AHeap) => Br (!r17) (K (.bool false) H10) (Br (!(r11 == r6)) (K (.bool false) H10) (T_laws_markFloat32S a4 r9 r10 1 H10 fun (r18 : Int) (H11 : AHeap) => T_laws_heldFloat32S a4 r9 r10 1 H11 fun (r19 : Int) (H12 : AHeap) => Br (decide ((r19 : Int) < 0)) (K (.bool false) H12) (Br ((r19 : Int) != r18) (K (.bool false) H12) (T_laws_toAtomS aAtoms_a aAtoms_n aAtoms_e H12 fun (a6 : Option Addr) (r20 : Nat) (r21 : Nat) (H13 : AHeap) => T_impl_FromAtoms aCount a6 r20 r21 H13 fun (a7 : Option Addr) (r22 : Nat) (r23 : Nat) (r24 : Bool) (H14 : AHeap) => T_laws_eqFloat32S a7 r22 r23 a2 r4 r5 H14 fun (r25 : Bool) (H15 : AHeap) => Br (!r25) (K (.bool false) H15) (Br (!(r24 == r6)) (K (.bool false) H15) (T_laws_heldFloat32S a4 r9 r10 1 H15 fun (r26 : Int) (H16 : AHeap) => Br (decide ((r26 : Int) < 0)) (K (.bool false) H16) (Br ((r26 : Int) != r18) (K (.bool false) H16) (K (.bool true) H16)))))))))))))) := by kernel_rfl
theorem E_laws_FnExactFromAtoms_ok : ∀ g, FnOk Try.prog g (E_laws_FnExactFromAtoms g) := FnOk.envOf (by
  intro x hx
  simp only [List.mem_cons, List.not_mem_nil, or_false] at hx
  rcases hx with rfl | rfl | rfl | rfl | rfl | rfl | rfl | rfl | rfl
  · exact laws_szAtomS_ok
  · exact laws_toAtomS_ok
  · exact spec_FromAtoms_ok
  · exact impl_FromAtoms_ok
  · exact laws_eqFloat32S_ok
  · exact laws_eqAtomS_ok
  · exact laws_markAtomS_ok
  · exact laws_markFloat32S_ok
  · exact laws_heldFloat32S_ok)
set_option maxHeartbeats 1000000 in
theorem laws_FnExactFromAtoms_main (aCount : Int) (aAtoms_a : Option Addr) (aAtoms_n : Nat) (aAtoms_e : Nat) (H : AHeap) (K : Value → AHeap → Prop) (h : T_laws_FnExactFromAtoms aCount aAtoms_a aAtoms_n aAtoms_e H fun (r1 : Bool) (H' : AHeap) => K (.bool r1) H') : bodyK Try.prog E_laws_FnExactFromAtoms Try.f8 [.int .i64 aCount, .slice aAtoms_a aAtoms_n aAtoms_e] H K := by
  rw [laws_FnExactFromAtoms_vc]
  obtain ⟨l_aAtoms, h_0, h_1, h_2, h_3, hk⟩ := h
  have i_aAtoms := h_1
  obtain rfl := i_aAtoms.eqn
  have hl := laws_FnExactFromAtoms_true aCount l_aAtoms h_0 h_2 h_3
  have e : p_laws_FnExactFromAtoms aCount l_aAtoms = _ := rfl
  have e := e.trans (p_laws_FnExactFromAtoms_eq aCount l_aAtoms)
  have e := hl.symm.trans e
  have g0 := Grow.refl H
  refine T_laws_szAtomS_i ⟨_, (i_aAtoms.grow g0), ?_⟩
  have z_1 := laws_szAtomS_f l_aAtoms (1048576 : Int)
  refine Br.intro (fun c_2 => ?_) (fun c_2 => ?_)
  · have e := e.trans (cond_t c_2)
    have c_2' := of_decide_eq_true c_2
    first | exact hk _ | (exfalso; cases e; done) | (rw [← e]; exact hk _)
  · have e := e.trans (cond_f c_2)
    have c_2' := of_decide_eq_false c_2
    refine T_laws_toAtomS_i ⟨_, (i_aAtoms.grow g0), o0, fun a_3 n_4 e_5 H_1 g_7 r_6 => ?_⟩
    have l_8 := g_7.1
    have g_9 := g0.trans g_7
    have l_10 := g_9.1
    obtain rfl := r_6.isL.eqn
    have u_11 := r_6.up
    have u_12 := r_6.lo
    refine T_spec_FromAtoms_i ⟨_, r_6.isL, o0, fun a_14 n_15 e_16 H_2 g_19 r_17 => ?_⟩
    have z_18 := spec_FromAtoms_len aCount l_aAtoms
    have l_20 := g_19.1
    have g_21 := g_9.trans g_19
    have l_22 := g_21.1
    have r_23 := r_6.grow g_19
    obtain rfl := r_17.isL.eqn
    have u_24 := r_17.up
    have u_25 := r_17.lo
    refine T_laws_toAtomS_i ⟨_, (i_aAtoms.grow g_21), o0, fun a_27 n_28 e_29 H_3 g_31 r_30 => ?_⟩
    have l_32 := g_31.1
    have g_33 := g_21.trans g_31
    have l_34 := g_33.1
    have r_35 := r_23.grow g_31
    have r_36 := r_17.grow g_31
    obtain rfl := r_30.isL.eqn
    have u_37 := r_30.up
    have u_38 := r_30.lo
    refine T_impl_FromAtoms_i ⟨_, r_30.isL, o0, fun a_40 n_41 e_42 H_4 g_45 r_43 => ?_⟩
    have z_44 := impl_FromAtoms_len aCount l_aAtoms
    have l_46 := g_45.1
    have g_47 := g_33.trans g_45
    have l_48 := g_47.1
    have r_49 := r_35.grow g_45
    have r_50 := r_36.grow g_45
    have r_51 := r_30.grow g_45
    obtain rfl := r_43.isL.eqn
    have u_52 := r_43.up
    have u_53 := r_43.lo
    refine T_laws_eqFloat32S_i ⟨_, _, r_43.isL, r_50.isL, o0, o0, ?_⟩
    refine Br.intro (fun c_55 => ?_) (fun c_55 => ?_)
    · have e := e.trans (cond_t c_55)
      have c_55n := nf_of_t c_55
      first | exact hk _ | (exfalso; cases e; done) | (rw [← e]; exact hk _)
    · have e := e.trans (cond_f c_55)
      have c_55n := nt_of_f c_55
      refine Br.intro (fun c_56 => ?_) (fun c_56 => ?_)
      · have e := e.trans (cond_t c_56)
        have c_56n := nf_of_t c_56
        first | exact hk _ | (exfalso; cases e; done) | (rw [← e]; exact hk _)
      · have e := e.trans (cond_f c_56)
        have c_56n := nt_of_f c_56
        refine T_laws_toAtomS_i ⟨_, (i_aAtoms.grow g_47), o0, fun a_57 n_58 e_59 H_5 g_61 r_60 => ?_⟩
        have l_62 := g_61.1
        have g_63 := g_47.trans g_61
        have l_64 := g_63.1
        have r_65 := r_49.grow g_61
        have r_66 := r_50.grow g_61
        have r_67 := r_51.grow g_61
        have r_68 := r_43.grow g_61
        obtain rfl := r_60.isL.eqn
        have u_69 := r_60.up
        have u_70 := r_60.lo
        refine T_laws_eqAtomS_i ⟨_, _, r_67.isL, r_60.isL, o0, o0, fun  H_6 g_72  => ?_⟩
        have l_73 := g_72.1
        have g_74 := g_63.trans g_72
        have l_75 := g_74.1
        have r_76 := r_65.grow g_72
        have r_77 := r_66.grow g_72
        have r_78 := r_67.grow g_72
        have r_79 := r_68.grow g_72
        have r_80 := r_60.grow g_72
        refine Br.intro (fun c_81 => ?_) (fun c_81 => ?_)
        · have e := e.trans (cond_t c_81)
          have c_81n := nf_of_t c_81
          first | exact hk _ | (exfalso; cases e; done) | (rw [← e]; exact hk _)
        · have e := e.trans (cond_f c_81)
          have c_81n := nt_of_f c_81
          refine T_laws_markAtomS_i ⟨_, _, r_78, o0, (fun H_7 k_82 o_83 => ?_)⟩
          have l_84 := k_82.1
          have g_85 := g_74.keepA (fun x hx => by have := u_38 x hx; omega) k_82
          have l_86 := g_85.1
          have r_87 := r_76.keepA (fun x y hx hy => by have := u_38 x hx; have := u_37 x hx; have := u_12 y hy; have := u_11 y hy; omega) k_82
          have r_88 := r_77.keepA (fun x y hx hy => by have := u_38 x hx; have := u_37 x hx; have := u_25 y hy; have := u_24 y hy; omega) k_82
          have r_89 := r_79.keepA (fun x y hx hy => by have := u_38 x hx; have := u_37 x hx; have := u_53 y hy; have := u_52 y hy; omega) k_82
          have r_90 := r_80.keepA (fun x y hx hy => by have := u_38 x hx; have := u_37 x hx; have := u_70 y hy; have := u_69 y hy; omega) k_82
          refine Br.intro (fun c_91 => ?_) (fun c_91 => ?_)
          · have e := e.trans (cond_t c_91)
            have c_91' := of_decide_eq_true c_91
            first | exact hk _ | (exfalso; cases e; done) | (rw [← e]; exact hk _)
          · have e := e.trans (cond_f c_91)
            have c_91' := of_decide_eq_false c_91
            refine T_laws_eqFloat32S_i ⟨_, _, r_89.isL, r_88.isL, o0, o0, ?_⟩
            refine Br.intro (fun c_92 => ?_) (fun c_92 => ?_)
            · have e := e.trans (cond_t c_92)
              have c_92n := nf_of_t c_92
              first | exact hk _ | (exfalso; cases e; done) | (rw [← e]; exact hk _)
            · have e := e.trans (cond_f c_92)
              have c_92n := nt_of_f c_92
              refine Br.intro (fun c_93 => ?_) (fun c_93 => ?_)
              · have e := e.trans (cond_t c_93)
                have c_93n := nf_of_t c_93
                first | exact hk _ | (exfalso; cases e; done) | (rw [← e]; exact hk _)
              · have e := e.trans (cond_f c_93)
                have c_93n := nt_of_f c_93
                refine T_laws_markFloat32S_i ⟨_, _, r_89, o0, (fun H_8 k_94 o_95 => ?_)⟩
                have l_96 := k_94.1
                have g_97 := g_85.keepA (fun x hx => by have := u_53 x hx; omega) k_94
                have l_98 := g_97.1
                have r_99 := r_87.keepA (fun x y hx hy => by have := u_53 x hx; have := u_52 x hx; have := u_12 y hy; have := u_11 y hy; omega) k_94
                have r_100 := r_88.keepA (fun x y hx hy => by have := u_53 x hx; have := u_52 x hx; have := u_25 y hy; have := u_24 y hy; omega) k_94
                have r_101 := o_83.keepA (fun x y hx hy => by have := u_53 x hx; have := u_52 x hx; have := u_38 y hy; have := u_37 y hy; omega) k_94
                have r_102 := r_90.keepA (fun x y hx hy => by have := u_53 x hx; have := u_52 x hx; have := u_70 y hy; have := u_69 y hy; omega) k_94
                refine T_laws_heldFloat32S_i ⟨_, o_95.isL, o0, ?_⟩
                refine Br.intro (fun c_103 => ?_) (fun c_103 => ?_)
                · have e := e.trans (cond_t c_103)
                  have c_103' := of_decide_eq_true c_103
                  first | exact hk _ | (exfalso; cases e; done) | (rw [← e]; exact hk _)
                · have e := e.trans (cond_f c_103)
                  have c_103' := of_decide_eq_false c_103
                  refine Br.intro (fun c_104 => ?_) (fun c_104 => ?_)
                  · have e := e.trans (cond_t c_104)
                    have c_104' := ine_t c_104
                    first | exact hk _ | (exfalso; cases e; done) | (rw [← e]; exact hk _)
                  · have e := e.trans (cond_f c_104)
                    have c_104' := ine_f c_104
                    refine T_laws_toAtomS_i ⟨_, (i_aAtoms.grow g_97), o0, fun a_105 n_106 e_107 H_9 g_109 r_108 => ?_⟩
                    have l_110 := g_109.1
                    have g_111 := g_97.trans g_109
                    have l_112 := g_111.1
                    have r_113 := r_99.grow g_109
                    have r_114 := r_100.grow g_109
                    have r_115 := r_101.grow g_109
                    have r_116 := o_95.grow g_109
                    have r_117 := r_102.grow g_109
                    obtain rfl := r_108.isL.eqn
                    have u_118 := r_108.up
                    have u_119 := r_108.lo
                    refine T_impl_FromAtoms_i ⟨_, r_108.isL, o0, fun a_121 n_122 e_123 H_10 g_126 r_124 => ?_⟩
                    have z_125 := impl_FromAtoms_len aCount l_aAtoms
                    have l_127 := g_126.1
                    have g_128 := g_111.trans g_126
                    have l_129 := g_128.1
                    have r_130 := r_113.grow g_126
                    have r_131 := r_114.grow g_126
                    have r_132 := r_115.grow g_126
                    have r_133 := r_116.grow g_126
                    have r_134 := r_117.grow g_126
                    have r_135 := r_108.grow g_126
                    obtain rfl := r_124.isL.eqn
                    have u_136 := r_124.up
                    have u_137 := r_124.lo
                    refine T_laws_eqFloat32S_i ⟨_, _, r_124.isL, r_131.isL, o0, o0, ?_⟩
                    refine Br.intro (fun c_139 => ?_) (fun c_139 => ?_)
                    · have e := e.trans (cond_t c_139)
                      have c_139n := nf_of_t c_139
                      first | exact hk _ | (exfalso; cases e; done) | (rw [← e]; exact hk _)
                    · have e := e.trans (cond_f c_139)
                      have c_139n := nt_of_f c_139
                      refine Br.intro (fun c_140 => ?_) (fun c_140 => ?_)
                      · have e := e.trans (cond_t c_140)
                        have c_140n := nf_of_t c_140
                        first | exact hk _ | (exfalso; cases e; done) | (rw [← e]; exact hk _)
                      · have e := e.trans (cond_f c_140)
                        have c_140n := nt_of_f c_140
                        refine T_laws_heldFloat32S_i ⟨_, r_133.isL, o0, ?_⟩
                        refine Br.intro (fun c_141 => ?_) (fun c_141 => ?_)
                        · have e := e.trans (cond_t c_141)
                          have c_141' := of_decide_eq_true c_141
                          first | exact hk _ | (exfalso; cases e; done) | (rw [← e]; exact hk _)
                        · have e := e.trans (cond_f c_141)
                          have c_141' := of_decide_eq_false c_141
                          refine Br.intro (fun c_142 => ?_) (fun c_142 => ?_)
                          · have e := e.trans (cond_t c_142)
                            have c_142' := ine_t c_142
                            first | exact hk _ | (exfalso; cases e; done) | (rw [← e]; exact hk _)
                          · have e := e.trans (cond_f c_142)
                            have c_142' := ine_f c_142
                            first | exact hk _ | (exfalso; cases e; done) | (rw [← e]; exact hk _)
theorem laws_FnExactFromAtoms_ok : FnOk Try.prog 8 S_laws_FnExactFromAtoms := by
  refine FnOk.body mix_ok E_laws_FnExactFromAtoms_ok Try.func8 rfl (by kernel_rfl) (by kernel_rfl) ?_ ?_ ?_ ?_ ?_
  · intro args H K K' h hk
    simp only [S_laws_FnExactFromAtoms] at *
    unfold F_laws_FnExactFromAtoms at *
    split at hk
    · obtain ⟨l_aAtoms, h_0, h_1, h_2, h_3, k⟩ := hk
      exact ⟨l_aAtoms, h_0, h_1, h_2, h_3, (fun H' => h _ _ (k H'))⟩
    · exact hk.elim
  · intro hq; cases hq
  · intro args H K hk
    simp only [S_laws_FnExactFromAtoms] at *
    unfold F_laws_FnExactFromAtoms at *
    split at hk
    · obtain ⟨l_aAtoms, h_0, h_1, h_2, h_3, k⟩ := hk
      exact ⟨_, _, k []⟩
    · exact hk.elim
  · intro hq; cases hq
  · have mm := @laws_FnExactFromAtoms_main
    revert mm
    generalize bodyK Try.prog E_laws_FnExactFromAtoms Try.f8 = Q
    intro mm args H K hk
    simp only [S_laws_FnExactFromAtoms] at *
    unfold F_laws_FnExactFromAtoms at *
    split at hk
    · exact mm _ _ _ _ H K hk
    · exact hk.elim
end Go.Proofs.Ytghkkclonabpkab.Ai
