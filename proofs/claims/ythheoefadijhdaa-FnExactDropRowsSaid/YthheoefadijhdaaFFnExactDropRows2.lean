/- What functions of the program come to on the abstract machine, and that they do so; printed by a program of mine around proofs of mine. -/
import Derived.Test.YthheoefadijhdaaFFnExactDropRows1
set_option linter.unusedVariables false
set_option linter.unusedSimpArgs false
set_option linter.defProp false
set_option maxRecDepth 100000
set_option maxHeartbeats 1000000
namespace Go.Proofs.Ythheoefadijhdaa.Ai
open Go
attribute [local irreducible] bodyK bodyL

def p_f9z (a_Wide : Int) (a_High : Int) (fa : LN) (k : Int) : Int × LN := ((wk k fa.length), (marks (FloatKind.nearest .f32) k fa.length))
def p_f9z_eq := @p_f9z.eq_1
def T_f9z (a_Wide : Int) (a_High : Int) (ma : OA) (ta : Nat) (ab : Nat) (k : Int) (H : AHeap) (K : Int → AHeap → Prop) : Prop := ∃ lo : Nat, ∃ (fa : LN), OwnS fF H lo ma ta ab fa ∧ fa.length < 1073741824 ∧ ((∀ H' : AHeap, KeepA ma H H' → OwnS fF H' lo ma ta ab (marks (FloatKind.nearest .f32) k fa.length) → K (wk k fa.length) H'))
theorem T_f9z_i {a_Wide : Int} {a_High : Int} {ma : OA} {ta : Nat} {ab : Nat} {k : Int} {H : AHeap} {K : Int → AHeap → Prop} (h : ∃ lo : Nat, ∃ (fa : LN), OwnS fF H lo ma ta ab fa ∧ fa.length < 1073741824 ∧ ((∀ H' : AHeap, KeepA ma H H' → OwnS fF H' lo ma ta ab (marks (FloatKind.nearest .f32) k fa.length) → K (wk k fa.length) H'))) : T_f9z a_Wide a_High ma ta ab k H K := h
theorem f9z_val (a_Wide : Int) (a_High : Int) (fa : LN) (k : Int) : p_f9z a_Wide a_High fa k = (wk k fa.length, marks (FloatKind.nearest .f32) k fa.length) := rfl
/-! f9z: function 15 -/
def E_f9z : Env := envOf [(34, S_f6z)]
def F_f9z : List Value → AHeap → (Value → AHeap → Prop) → Prop
 | [.agg ⟨[.int .i64 a_Wide, .int .i64 a_High, .slice ma ta ab]⟩, .int .i64 k], H, K => T_f9z a_Wide a_High ma ta ab k H fun (r1 : Int) (H' : AHeap) => K (.int .i64 r1) H'
 | _, _, _ => False
def S_f9z : FSpec := { F := F_f9z, quiet := false, tame := false }
theorem f9z_vc (a_Wide : Int) (a_High : Int) (ma : OA) (ta : Nat) (ab : Nat) (k : Int) (H : AHeap) (K : Value → AHeap → Prop) : bodyL Try.prog E_f9z Try.f15 [.agg #[.int .i64 a_Wide, .int .i64 a_High, .slice ma ta ab], .int .i64 k] H K =
 (Al [.int .i64 a_Wide, .int .i64 a_High, .slice ma ta ab] H fun b1 H1 => ∃ ze : OA, ∃ ue : Nat, ∃ af : Nat,  rdC H1 b1 2 = some (.slice ze ue af) ∧ T_f6z ze ue af k H1 fun (r1 : Int) (H2 : AHeap) => K (.int .i64 r1) H2) := by kernel_rfl
theorem E_f9z_ok : ∀ g, FnOk Try.prog g (E_f9z g) := FnOk.envOf (by
 intro x hx
 simp only [List.mem_cons, List.not_mem_nil, or_false] at hx
 subst hx; exact f6z_ok)
theorem f9z_main (a_Wide : Int) (a_High : Int) (ma : OA) (ta : Nat) (ab : Nat) (k : Int) (H : AHeap) (K : Value → AHeap → Prop) (h : T_f9z a_Wide a_High ma ta ab k H fun (r1 : Int) (H' : AHeap) => K (.int .i64 r1) H') : bodyL Try.prog E_f9z Try.f15 [.agg #[.int .i64 a_Wide, .int .i64 a_High, .slice ma ta ab], .int .i64 k] H K := by
 rw [f9z_vc]
 obtain ⟨lo, fa, i_a_Lights, bd_19, hk⟩ := h
 have hk : (∀ H' : AHeap, KeepA ma H H' → OwnS fF H' lo ma ta ab ((p_f9z a_Wide a_High fa k).2) → (fun (r1 : Int) (H' : AHeap) => K (.int .i64 r1) H') ((p_f9z a_Wide a_High fa k).1) H') := by rw [f9z_val a_Wide a_High fa k]; exact hk
 obtain rfl := i_a_Lights.len
 have up_p := i_a_Lights.up
 have lo_p := i_a_Lights.lo
 have e : (p_f9z a_Wide a_High fa k) = _ := rfl
 have e := e.trans (p_f9z_eq a_Wide a_High fa k)
 have g0 := KeepA.refl ma H
 refine Al.intro (fun b_1 H_1 hb_2 hl_3 g_4 o_5 => ?_)
 have l_7 := g_4.1
 have g_8 := g0.trans g_4
 have l_9 := g_8.1
 have r_10 := i_a_Lights.grow g_4
 have w18 := o_5.lt
 refine ⟨ma, fa.length, ab, (o_5.rdC _).trans rfl, ?_⟩
 refine T_f6z_i ⟨_, _, r_10, ω0, (fun H_2 k_11 o12 => ?_)⟩
 have l_13 := k_11.1
 have g_14 := g_8.transA k_11
 have l_15 := g_14.1
 have o16 := o_5.keepA (fun x hx => by have := lo_p x hx; have := up_p x hx; omega) k_11
 have w17 := o16.lt
 rw [e] at hk
 exact hk H_2 g_14 o12
theorem f9z_ok : FnOk Try.prog 15 S_f9z := by
 refine FnOk.body mix_ok E_f9z_ok Try.func15 rfl ω10 ω10 ?_ ?_ ?_ ?_ ?_
 ·intro args H K K' h hk
  simp only [S_f9z] at *
  unfold F_f9z at *
  split at hk
  ·obtain ⟨lo, fa, i_a_Lights, bd_19, k⟩ := hk
   exact ⟨lo, fa, i_a_Lights, bd_19, (fun H' gg ow => h _ _ (k H' gg ow))⟩
  ·exact hk.elim
 ·intro hq; cases hq
 ·intro args H K hk
  simp only [S_f9z] at *
  unfold F_f9z at *
  split at hk
  ·obtain ⟨lo, fa, i_a_Lights, bd_19, k⟩ := hk
   exact (i_a_Lights.put _ (by rw [marks_length])).elim fun H1 h => ⟨_, _, k H1 h.1 h.2⟩
  ·exact hk.elim
 ·intro hq; cases hq
 ·have mm := @f9z_main
  have ml := fun (args : List Value) (H : AHeap) (K : Value → AHeap → Prop) => bodyL_body (P := Try.prog) (env := E_f9z ) (fn := Try.f15) (args := args) (H := H) (K := K) E_f9z_ok 
  revert mm ml
  generalize bodyK Try.prog E_f9z Try.f15 = Q
  generalize bodyL Try.prog E_f9z Try.f15 = QL
  intro mm ml args H K hk
  simp only [S_f9z] at *
  unfold F_f9z at *
  split at hk
  ·exact ml _ H K (mm _ _ _ _ _ _ H K hk)
  ·exact hk.elim

def p_f5z_l1 (l_a : LN) (k : Int) : Nat → Int → Int → Int → Int
 | 0, _, _, _ => 0
 | μ + 1, k_1, t4, i => (bif decide ((i : Int) < (l_a.length : Int)) then (bif !(feq .f32 (((l_a).getD (i : Int).toNat 0)) (FloatKind.nearest .f32 k_1)) then ((-1) : Int) else (p_f5z_l1 l_a k μ (IntKind.wrap .i64 (k_1 + 1)) t4 (i + 1))) else k_1)
def p_f5z_l1_s := fun l_a k μ k_1 t4 i => @p_f5z_l1.eq_2 l_a k k_1 t4 i μ
def p_f5z (l_a : LN) (k : Int) : Int := (p_f5z_l1 l_a k (Int.toNat ((l_a.length : Int) - (0 : Int)) + 1) k (0 : Int) (0 : Int))
def p_f5z_eq := @p_f5z.eq_1
def T_f5z (a_a : OA) (a_n : Nat) (a_e : Nat) (k : Int) (H : AHeap) (K : Int → AHeap → Prop) : Prop := ∃ (l_a : LN), IsL fF H a_a a_n l_a ∧ l_a.length < 1073741824 ∧ K (p_f5z l_a k) H
theorem T_f5z_i {a_a : OA} {a_n : Nat} {a_e : Nat} {k : Int} {H : AHeap} {K : Int → AHeap → Prop} (h : ∃ (l_a : LN), IsL fF H a_a a_n l_a ∧ l_a.length < 1073741824 ∧ K (p_f5z l_a k) H) : T_f5z a_a a_n a_e k H K := h
theorem f5z_go (k0 : Int) : ∀ (μ : Nat) (i : Nat) (pre : LN) (k t : Int) (n : Nat), pre.length = i → n < μ →
  p_f5z_l1 (pre ++ marks (FloatKind.nearest .f32) k n) k0 μ k t (i : Int) = wk k n := by
 intro μ
 induction μ with
 | zero => intro i pre k t n _ h; omega
 | succ μ ih =>
  intro i pre k t n hp hm
  rw [p_f5z_l1_s]
  have hl : (pre ++ marks (FloatKind.nearest .f32) k n).length = i + n := by rw [List.length_append, hp, marks_length]
  rw [hl]
  cases n with
  | zero => rw [decide_eq_false (show ¬ (i : Int) < ((i + 0 : Nat) : Int) by omega), cond_false]; rfl
  | succ n =>
   rw [decide_eq_true (show (i : Int) < ((i + (n + 1) : Nat) : Int) by omega), cond_true, Int.toNat_natCast]
   have hx : (pre ++ marks (FloatKind.nearest .f32) k (n + 1)).getD i 0 = (FloatKind.nearest .f32) k := by
    rw [List.getD_eq_getElem?_getD, List.getElem?_append_right ω2, hp, Nat.sub_self]; rfl
   rw [hx]
   have hq : (!(feq .f32 (FloatKind.nearest .f32 k) (FloatKind.nearest .f32 k))) = false := by rw [feq_nearest]; rfl
   simp only [hq, cond_false]
   have := ih (i + 1) (pre ++ [(FloatKind.nearest .f32) k]) (IntKind.wrap .i64 (k + 1)) t n (by simp [hp]) ω2
   rw [List.append_assoc] at this
   rw [wk]; exact this
theorem f5z_marks (k : Int) (n : Nat) : p_f5z (marks (FloatKind.nearest .f32) k n) k = wk k n := by
 rw [p_f5z_eq]
 have := f5z_go k (Int.toNat (((marks (FloatKind.nearest .f32) k n).length : Int) - 0) + 1) 0 [] k 0 n rfl (by rw [marks_length]; omega)
 simpa using this
/-! f5z: function 35 -/
def E_f5z : Env := envOf []
def F_f5z : List Value → AHeap → (Value → AHeap → Prop) → Prop
 | [.slice a_a a_n a_e, .int .i64 k], H, K => T_f5z a_a a_n a_e k H fun (r1 : Int) (H' : AHeap) => K (.int .i64 r1) H'
 | _, _, _ => False
def S_f5z : FSpec := { F := F_f5z, quiet := true, tame := false }
theorem f5z_vc (a_a : OA) (a_n : Nat) (a_e : Nat) (k : Int) (H : AHeap) (K : Value → AHeap → Prop) : bodyL Try.prog E_f5z Try.f35 [.slice a_a a_n a_e, .int .i64 k] H K =
 (loopK (exL Try.prog E_f5z (cl (cl (cr (cl (cr (bodyC Try.f35)))))) 35 16 [(0, 2)]) (.slice a_a a_n a_e :: .int .i64 k :: ud3 (.int .i64 0 :: ud16 [])) H (blockQ 0 (seqQ (exL Try.prog E_f5z (cr (cr (bodyC Try.f35))) 16 16 []) (retK Try.prog Try.f35 K)))) := by kernel_rfl
abbrev f5z_P1 (a_a : OA) (a_e : Nat) (a_n : Nat) (k_1 : Int) (i : Int)  : List Value := (.slice a_a a_n a_e :: .int .i64 k_1 :: ud3 (.int .i64 i :: ud16 []))
theorem f5z_r1 (a_a : OA) (a_e : Nat) (a_n : Nat) (k_1 : Int) (i : Int)  (H : AHeap) (R : Post) : exL Try.prog E_f5z (cl (cl (cr (cl (cr (bodyC Try.f35)))))) 35 16 [(0, 2)] (f5z_P1 a_a a_e a_n k_1 i) H R =
 (Br (decide ((i : Int) < (a_n : Int))) ((0 : Int) ≤ i ∧ i < (a_n : Int) ∧ ∃ b1 f1, (a_a : OA) = some ⟨b1, f1, none⟩ ∧ ∃ x1 : Nat,  rdC H b1 (f1 + (i : Int).toNat * 1) = some (.float .f32 x1) ∧ Br (!(feq .f32 x1 (FloatKind.nearest .f32 k_1))) (R .ret (ud4 (.int .i64 (-1) :: ud17 [])) H) (R .normal (.slice a_a a_n a_e :: .int .i64 (IntKind.wrap .i64 (k_1 + 1)) :: ud3 (.int .i64 (IntKind.wrap .i64 (i + 1)) :: ud16 [])) H)) (R (.exit 0) (ud :: .int .i64 k_1 :: ud20 []) H)) := by kernel_rfl
def f5z_I1 (a_a : OA) (a_e : Nat) (a_n : Nat) (Inv : Nat → Int → Int → AHeap → Prop) : Nat → List Value → AHeap → Prop := fun μ tm H => ∃ (k_1 : Int), ∃ (i : Int), tm = (f5z_P1 a_a a_e a_n k_1 i) ∧ Inv μ k_1 i H
theorem f5z_L1 (a_a : OA) (a_e : Nat) (a_n : Nat) {Q : Post} (Inv : Nat → Int → Int → AHeap → Prop) (ν : Nat) (k_1 : Int) (i : Int)  (H : AHeap) (h0 : Inv ν k_1 i H)
  (hs : ∀ (μ : Nat) (k_1 : Int) (i : Int)  (H : AHeap), Inv μ k_1 i H → exL Try.prog E_f5z (cl (cl (cr (cl (cr (bodyC Try.f35)))))) 35 16 [(0, 2)] (f5z_P1 a_a a_e a_n k_1 i) H (loopQ (f5z_I1 a_a a_e a_n Inv) μ Q)) : loopK (exL Try.prog E_f5z (cl (cl (cr (cl (cr (bodyC Try.f35)))))) 35 16 [(0, 2)]) (f5z_P1 a_a a_e a_n k_1 i) H Q :=
 ⟨f5z_I1 a_a a_e a_n Inv, ν, ⟨k_1, i, rfl, h0⟩, fun μ tm H h => by obtain ⟨k_1, i, rfl, hI⟩ := h; exact hs μ k_1 i  H hI⟩
theorem f5z_n1 {a_a : OA} {a_e : Nat} {a_n : Nat} {Q : Post} {Inv : Nat → Int → Int → AHeap → Prop} {μ : Nat} (μ' : Nat) {k_1 : Int} {i : Int}  {H : AHeap} (hm : μ' < μ) (hI : Inv μ' k_1 i H) : loopQ (f5z_I1 a_a a_e a_n Inv) μ Q .normal (f5z_P1 a_a a_e a_n k_1 i) H := ⟨μ', hm, k_1, i, rfl, hI⟩
theorem f5z_x1_0 (k_1 : Int) (H : AHeap) (K : Value → AHeap → Prop)  {I : Nat → List Value → AHeap → Prop} {μ : Nat} : loopQ I μ (blockQ 0 (seqQ (exL Try.prog E_f5z (cr (cr (bodyC Try.f35))) 16 16 []) (retK Try.prog Try.f35 K))) (.exit 0) (ud :: .int .i64 k_1 :: ud20 []) H =
 (K (.int .i64 k_1) H) := by kernel_rfl
theorem f5z_x1_ret (t4 : Int) (H : AHeap) (K : Value → AHeap → Prop)  {I : Nat → List Value → AHeap → Prop} {μ : Nat} : loopQ I μ (blockQ 0 (seqQ (exL Try.prog E_f5z (cr (cr (bodyC Try.f35))) 16 16 []) (retK Try.prog Try.f35 K))) .ret (ud4 (.int .i64 t4 :: ud17 [])) H =
 (K (.int .i64 t4) H) := by kernel_rfl
theorem E_f5z_ok : ∀ g, FnOk Try.prog g (E_f5z g) := FnOk.envOf (by
 intro x hx; cases hx)
theorem f5z_main (a_a : OA) (a_n : Nat) (a_e : Nat) (k : Int) (H : AHeap) (K : Value → AHeap → Prop) (h : T_f5z a_a a_n a_e k H fun (r1 : Int) (H' : AHeap) => K (.int .i64 r1) H') : bodyL Try.prog E_f5z Try.f35 [.slice a_a a_n a_e, .int .i64 k] H K := by
 rw [f5z_vc]
 obtain ⟨l_a, i_a, bd_9, hk⟩ := h
 obtain rfl := i_a.eqn
 have e : (p_f5z l_a k) = _ := rfl
 have e := e.trans (p_f5z_eq l_a k)
 have g0 := Grow.refl H
 refine f5z_L1 _ _ _ (fun (μ : Nat) (k_1 : Int) (i : Int) (H_1 : AHeap) => ∃ (t4 : Int), H = H_1 ∧ (0 : Int) ≤ i ∧ i ≤ (l_a.length : Int) ∧ (l_a.length : Int) - i ≤ (μ : Int) ∧ p_f5z l_a k = p_f5z_l1 l_a k (μ + 1) k_1 t4 i) (Int.toNat ((l_a.length : Int) - (0 : Int))) _ _ H ?_ ?_
 ·exact ⟨_, rfl, ω6, ω6, ω2, e⟩
 ·intro μ k_1 i  H_1 hI
  obtain ⟨t4, rfl, v_1, v_2, hμ, e⟩ := hI
  rw [f5z_r1]
  have e := e.trans (p_f5z_l1_s l_a k μ k_1 t4 i)
  have l_3 := g0.1
  refine Br.intro (fun c_4 => ?_) (fun c_4 => ?_)
  ·have e := e.trans (cond_t c_4)
   have c_4' := of_decide_eq_true c_4
   obtain ⟨b_5, f_6, q_7⟩ := ((i_a.grow g0)).pos ω0
   refine ⟨by omega, by omega, b_5, f_6, q_7, ?_⟩
   refine ⟨((l_a).getD (i : Int).toNat 0), (i_a).rd g0 q_7 ω2 _, ?_⟩
   refine Br.intro (fun c_8 => ?_) (fun c_8 => ?_)
   ·have e := e.trans (cond_t c_8)
    have c_8n := nf_of_t c_8
    rw [f5z_x1_ret]
    rw [e] at hk
    exact hk
   ·have e := e.trans (cond_f c_8)
    have c_8n := nt_of_f c_8
    rw [show IntKind.wrap .i64 (i + 1) = (i + 1) from wrap64 ω2 ω2]
    refine f5z_n1 (μ - 1) ω16 ⟨_, rfl, ω1, ω1, ω16, ω12⟩
  ·have e := e.trans (cond_f c_4)
   have c_4' := of_decide_eq_false c_4
   rw [f5z_x1_0]
   rw [e] at hk
   exact hk
theorem f5z_ok : FnOk Try.prog 35 S_f5z := by
 refine FnOk.body mix_ok E_f5z_ok Try.func35 rfl ω10 ω10 ?_ ?_ ?_ ?_ ?_
 ·intro args H K K' h hk
  simp only [S_f5z] at *
  unfold F_f5z at *
  split at hk
  ·obtain ⟨l_a, i_a, bd_9, k⟩ := hk
   exact ⟨l_a, i_a, bd_9, h _ _ k⟩
  ·exact hk.elim
 ·intro _ args H K hk
  simp only [S_f5z] at *
  unfold F_f5z at *
  split at hk
  ·obtain ⟨l_a, i_a, bd_9, k⟩ := hk
   exact ⟨_, k, fun K' k' => ⟨l_a, i_a, bd_9, k'⟩⟩
  ·exact hk.elim
 ·intro args H K hk
  simp only [S_f5z] at *
  unfold F_f5z at *
  split at hk
  ·obtain ⟨l_a, i_a, bd_9, k⟩ := hk
   exact ⟨_, _, k⟩
  ·exact hk.elim
 ·intro hq; cases hq
 ·have mm := @f5z_main
  have ml := fun (args : List Value) (H : AHeap) (K : Value → AHeap → Prop) => bodyL_body (P := Try.prog) (env := E_f5z ) (fn := Try.f35) (args := args) (H := H) (K := K) E_f5z_ok 
  revert mm ml
  generalize bodyK Try.prog E_f5z Try.f35 = Q
  generalize bodyL Try.prog E_f5z Try.f35 = QL
  intro mm ml args H K hk
  simp only [S_f5z] at *
  unfold F_f5z at *
  split at hk
  ·exact ml _ H K (mm _ _ _ _ H K hk)
  ·exact hk.elim

def p_f8z (a_Wide : Int) (a_High : Int) (fa : LN) (k : Int) : Int := (bif decide (((p_f5z fa k) : Int) < 0) then ((-1) : Int) else (p_f5z fa k))
def p_f8z_eq := @p_f8z.eq_1
def T_f8z (a_Wide : Int) (a_High : Int) (ma : OA) (ta : Nat) (ab : Nat) (k : Int) (H : AHeap) (K : Int → AHeap → Prop) : Prop := ∃ (fa : LN), IsL fF H ma ta fa ∧ fa.length < 1073741824 ∧ ((∀ H' : AHeap, Grow H H' → K (p_f8z a_Wide a_High fa k) H'))
theorem T_f8z_i {a_Wide : Int} {a_High : Int} {ma : OA} {ta : Nat} {ab : Nat} {k : Int} {H : AHeap} {K : Int → AHeap → Prop} (h : ∃ (fa : LN), IsL fF H ma ta fa ∧ fa.length < 1073741824 ∧ ((∀ H' : AHeap, Grow H H' → K (p_f8z a_Wide a_High fa k) H'))) : T_f8z a_Wide a_High ma ta ab k H K := h

/-! f8z: function 16 -/
def E_f8z : Env := envOf [(35, S_f5z)]
def F_f8z : List Value → AHeap → (Value → AHeap → Prop) → Prop
 | [.agg ⟨[.int .i64 a_Wide, .int .i64 a_High, .slice ma ta ab]⟩, .int .i64 k], H, K => T_f8z a_Wide a_High ma ta ab k H fun (r1 : Int) (H' : AHeap) => K (.int .i64 r1) H'
 | _, _, _ => False
def S_f8z : FSpec := { F := F_f8z, quiet := false, tame := true }
theorem f8z_vc (a_Wide : Int) (a_High : Int) (ma : OA) (ta : Nat) (ab : Nat) (k : Int) (H : AHeap) (K : Value → AHeap → Prop) : bodyL Try.prog E_f8z Try.f16 [.agg #[.int .i64 a_Wide, .int .i64 a_High, .slice ma ta ab], .int .i64 k] H K =
 (Al [.int .i64 a_Wide, .int .i64 a_High, .slice ma ta ab] H fun b1 H1 => ∃ ze : OA, ∃ ue : Nat, ∃ af : Nat,  rdC H1 b1 2 = some (.slice ze ue af) ∧ T_f5z ze ue af k H1 fun (r1 : Int) (H2 : AHeap) => Br (decide ((r1 : Int) < 0)) (K (.int .i64 (-1)) H2) (K (.int .i64 r1) H2)) := by kernel_rfl
theorem E_f8z_ok : ∀ g, FnOk Try.prog g (E_f8z g) := FnOk.envOf (by
 intro x hx
 simp only [List.mem_cons, List.not_mem_nil, or_false] at hx
 subst hx; exact f5z_ok)
theorem f8z_main (a_Wide : Int) (a_High : Int) (ma : OA) (ta : Nat) (ab : Nat) (k : Int) (H : AHeap) (K : Value → AHeap → Prop) (h : T_f8z a_Wide a_High ma ta ab k H fun (r1 : Int) (H' : AHeap) => K (.int .i64 r1) H') : bodyL Try.prog E_f8z Try.f16 [.agg #[.int .i64 a_Wide, .int .i64 a_High, .slice ma ta ab], .int .i64 k] H K := by
 rw [f8z_vc]
 obtain ⟨fa, i_a_Lights, bd_12, hk⟩ := h
 obtain rfl := i_a_Lights.eqn
 have e : (p_f8z a_Wide a_High fa k) = _ := rfl
 have e := e.trans (p_f8z_eq a_Wide a_High fa k)
 have g0 := Grow.refl H
 refine Al.intro (fun b_1 H_1 hb_2 hl_3 g_4 o_5 => ?_)
 have l_7 := g_4.1
 have g_8 := g0.trans g_4
 have l_9 := g_8.1
 have w11 := o_5.lt
 refine ⟨ma, fa.length, ab, (o_5.rdC _).trans rfl, ?_⟩
 refine T_f5z_i ⟨_, (i_a_Lights.grow g_8), ω0, ?_⟩
 refine Br.intro (fun c_10 => ?_) (fun c_10 => ?_)
 ·have e := e.trans (cond_t c_10)
  have c_10' := of_decide_eq_true c_10
  rw [e] at hk
  exact hk  H_1 g_8 
 ·have e := e.trans (cond_f c_10)
  have c_10' := of_decide_eq_false c_10
  rw [e] at hk
  exact hk  H_1 g_8 
theorem f8z_ok : FnOk Try.prog 16 S_f8z := by
 refine FnOk.body mix_ok E_f8z_ok Try.func16 rfl ω10 ω10 ?_ ?_ ?_ ?_ ?_
 ·intro args H K K' h hk
  simp only [S_f8z] at *
  unfold F_f8z at *
  split at hk
  ·obtain ⟨fa, i_a_Lights, bd_12, k⟩ := hk
   exact ⟨fa, i_a_Lights, bd_12, (fun  H' gg  => h _ _ (k  H' gg ))⟩
  ·exact hk.elim
 ·intro hq; cases hq
 ·intro args H K hk
  simp only [S_f8z] at *
  unfold F_f8z at *
  split at hk
  ·obtain ⟨fa, i_a_Lights, bd_12, k⟩ := hk
   exact ⟨_, _, k H (Grow.refl H)⟩
  ·exact hk.elim
 ·intro _ args H K hk
  simp only [S_f8z] at *
  unfold F_f8z at *
  split at hk
  ·obtain ⟨fa, i_a_Lights, bd_12, k⟩ := hk
   exact ⟨fa, i_a_Lights, bd_12, (fun  H' gg  => ⟨gg, k  H' gg ⟩)⟩
  ·exact hk.elim
 ·have mm := @f8z_main
  have ml := fun (args : List Value) (H : AHeap) (K : Value → AHeap → Prop) => bodyL_body (P := Try.prog) (env := E_f8z ) (fn := Try.f16) (args := args) (H := H) (K := K) E_f8z_ok 
  revert mm ml
  generalize bodyK Try.prog E_f8z Try.f16 = Q
  generalize bodyL Try.prog E_f8z Try.f16 = QL
  intro mm ml args H K hk
  simp only [S_f8z] at *
  unfold F_f8z at *
  split at hk
  ·exact ml _ H K (mm _ _ _ _ _ _ H K hk)
  ·exact hk.elim

def p_laws_FnExactDropRows (ca : LN) (aS_Scale : Nat) (aP_Wide : Int) (aP_High : Int) (da : LN) : Bool := ((bif decide (((p_fxz ca aS_Scale (1048576 : Int)) : Int) < 0) then true else (bif decide (((p_fkz aP_Wide aP_High da ((p_fxz ca aS_Scale (1048576 : Int)))) : Int) < 0) then true else (bif !((p_fiz ((p_ftz ca aS_Scale aP_Wide aP_High da).1) ((p_ftz ca aS_Scale aP_Wide aP_High da).2.1) ((p_ftz ca aS_Scale aP_Wide aP_High da).2.2.1) ((p_fzz ca aS_Scale aP_Wide aP_High da).1) ((p_fzz ca aS_Scale aP_Wide aP_High da).2.1) ((p_fzz ca aS_Scale aP_Wide aP_High da).2.2.1))) then false else (bif !(((p_ftz ca aS_Scale aP_Wide aP_High da).2.2.2) == ((p_fzz ca aS_Scale aP_Wide aP_High da).2.2.2)) then false else (bif !(p_fwz ca aS_Scale ca aS_Scale) then false else (bif !(p_fiz aP_Wide aP_High da aP_Wide aP_High da) then false else (bif decide (((wk ((wk (1 : Int) ca.length)) da.length) : Int) < 0) then false else (bif !((p_fiz ((p_ftz ca aS_Scale aP_Wide aP_High da).1) ((p_ftz ca aS_Scale aP_Wide aP_High da).2.1) ((p_ftz ca aS_Scale aP_Wide aP_High da).2.2.1) ((p_fzz ca aS_Scale aP_Wide aP_High da).1) ((p_fzz ca aS_Scale aP_Wide aP_High da).2.1) ((p_fzz ca aS_Scale aP_Wide aP_High da).2.2.1))) then false else (bif !(((p_ftz ca aS_Scale aP_Wide aP_High da).2.2.2) == ((p_fzz ca aS_Scale aP_Wide aP_High da).2.2.2)) then false else (bif decide (((p_f8z ((p_ftz ca aS_Scale aP_Wide aP_High da).1) ((p_ftz ca aS_Scale aP_Wide aP_High da).2.1) ((marks (FloatKind.nearest .f32) (1 : Int) ((p_ftz ca aS_Scale aP_Wide aP_High da).2.2.1).length)) (1 : Int)) : Int) < 0) then false else (bif ((p_f8z ((p_ftz ca aS_Scale aP_Wide aP_High da).1) ((p_ftz ca aS_Scale aP_Wide aP_High da).2.1) ((marks (FloatKind.nearest .f32) (1 : Int) ((p_ftz ca aS_Scale aP_Wide aP_High da).2.2.1).length)) (1 : Int)) : Int) != (wk (1 : Int) ((p_ftz ca aS_Scale aP_Wide aP_High da).2.2.1).length) then false else (bif !((p_fiz ((p_ftz ca aS_Scale aP_Wide aP_High da).1) ((p_ftz ca aS_Scale aP_Wide aP_High da).2.1) ((p_ftz ca aS_Scale aP_Wide aP_High da).2.2.1) ((p_fzz ca aS_Scale aP_Wide aP_High da).1) ((p_fzz ca aS_Scale aP_Wide aP_High da).2.1) ((p_fzz ca aS_Scale aP_Wide aP_High da).2.2.1))) then false else (bif !(((p_ftz ca aS_Scale aP_Wide aP_High da).2.2.2) == ((p_fzz ca aS_Scale aP_Wide aP_High da).2.2.2)) then false else (bif decide (((p_f8z ((p_ftz ca aS_Scale aP_Wide aP_High da).1) ((p_ftz ca aS_Scale aP_Wide aP_High da).2.1) ((marks (FloatKind.nearest .f32) (1 : Int) ((p_ftz ca aS_Scale aP_Wide aP_High da).2.2.1).length)) (1 : Int)) : Int) < 0) then false else (bif ((p_f8z ((p_ftz ca aS_Scale aP_Wide aP_High da).1) ((p_ftz ca aS_Scale aP_Wide aP_High da).2.1) ((marks (FloatKind.nearest .f32) (1 : Int) ((p_ftz ca aS_Scale aP_Wide aP_High da).2.2.1).length)) (1 : Int)) : Int) != (wk (1 : Int) ((p_ftz ca aS_Scale aP_Wide aP_High da).2.2.1).length) then false else true))))))))))))))))
def p_laws_FnExactDropRows_eq := @p_laws_FnExactDropRows.eq_1
def T_laws_FnExactDropRows (yd : OA) (te : Nat) (ae : Nat) (aS_Scale : Nat) (aP_Wide : Int) (aP_High : Int) (de : OA) (ye : Nat) (fe : Nat) (H : AHeap) (K : Bool → AHeap → Prop) : Prop := ∃ ca : LN, ∃ da : LN, IsL fF H yd te ca ∧ (∀ y ∈ ca, W32 y) ∧ ca.length ≤ 9223372036854775807 ∧ W32 aS_Scale ∧ I64 aP_Wide ∧ I64 aP_High ∧ IsL fF H de ye da ∧ (∀ y ∈ da, W32 y) ∧ da.length ≤ 9223372036854775807 ∧ ∀ H' : AHeap, K true H'
theorem spec_fin (x : Nat) : p_fmz x = fin .f32 x := fin_asked x
theorem impl_fin (x : Nat) : p_fuz x = fin .f32 x := fin_asked x
theorem l02Finite_go (l : LN) : ∀ (μ : Nat) (t : Bool) (i : Nat), l.length - i < μ → p_foz_l1 l μ t (i : Int) = (l.drop i).all (fin .f32) := by
 intro μ
 induction μ with
 | zero => intro t i h; omega
 | succ μ ih =>
  intro t i hm
  rw [p_foz_l1_s]
  by_cases h : i < l.length
  ·rw [decide_eq_true (show (i : Int) < (l.length : Int) by omega), cond_true, Int.toNat_natCast, spec_fin]
   rw [List.drop_eq_getElem_cons h, List.all_cons, List.getD_eq_getElem?_getD, List.getElem?_eq_getElem h, Option.getD_some]
   have := ih t (i + 1) ω2
   cases fin .f32 l[i]
   ·rfl
   ·simp only [Bool.not_true, cond_false, Bool.true_and]; exact this
  ·rw [decide_eq_false (show ¬ (i : Int) < (l.length : Int) by omega), cond_false, List.drop_eq_nil_of_le ω2]; rfl
theorem l02Finite_all (l : LN) : p_foz l = l.all (fin .f32) := by
 rw [p_foz_eq]
 have := l02Finite_go l (Int.toNat ((l.length : Int) - (0 : Int)) + 1) false 0 ω2
 simpa using this
theorem areFinite_in (ls : List LN) (t2 : Bool) (t9 : Int) (k : Bool → Int → Bool) : ∀ (μ : Nat) (t : Bool) (i : Nat), i ≤ (ls.getD t9.toNat []).length → (ls.getD t9.toNat []).length - i < μ →
  p_fhz_l2 ls t2 t9 k μ t (i : Int) = bif ((ls.getD t9.toNat []).drop i).all (fin .f32) then k t ((ls.getD t9.toNat []).length : Int) else false := by
 intro μ
 generalize hl : ls.getD t9.toNat [] = l
 induction μ with
 | zero => intro t i _ h; omega
 | succ μ ih =>
  intro t i hi hm
  rw [p_fhz_l2_s, hl]
  by_cases h : i < l.length
  ·rw [decide_eq_true (show (i : Int) < (l.length : Int) by omega), cond_true, Int.toNat_natCast, impl_fin]
   rw [List.drop_eq_getElem_cons h, List.all_cons, List.getD_eq_getElem?_getD, List.getElem?_eq_getElem h, Option.getD_some]
   have := ih t (i + 1) ω2 ω2
   cases fin .f32 l[i]
   ·rfl
   ·simp only [Bool.not_true, cond_false, Bool.true_and]; exact this
  ·rw [decide_eq_false (show ¬ (i : Int) < (l.length : Int) by omega), cond_false, List.drop_eq_nil_of_le ω2, show i = l.length by omega]; rfl
theorem areFinite_go (ls : List LN) : ∀ (μ : Nat) (t : Bool) (i : Nat), ls.length - i < μ → p_fhz_l1 ls μ t (i : Int) = (ls.drop i).all (fun l => l.all (fin .f32)) := by
 intro μ
 induction μ with
 | zero => intro t i h; omega
 | succ μ ih =>
  intro t i hm
  rw [p_fhz_l1_s]
  by_cases h : i < ls.length
  ·rw [decide_eq_true (show (i : Int) < (ls.length : Int) by omega), cond_true]
   have := areFinite_in ls t (i : Int) (fun t2 t15 => p_fhz_l1 ls μ t2 ((i : Int) + 1)) (Int.toNat ((((ls).getD ((i : Int) : Int).toNat []).length : Int) - (0 : Int)) + 1) t 0 (Nat.zero_le _) ω2
   refine Eq.trans this ?_
   rw [Int.toNat_natCast, List.drop_zero, List.drop_eq_getElem_cons h, List.all_cons, List.getD_eq_getElem?_getD, List.getElem?_eq_getElem h, Option.getD_some]
   have := ih t (i + 1) ω2
   cases ls[i].all (fin .f32)
   ·rfl
   ·simp only [cond_true, Bool.true_and]; exact this
  ·rw [decide_eq_false (show ¬ (i : Int) < (ls.length : Int) by omega), cond_false, List.drop_eq_nil_of_le ω2]; rfl
theorem areFinite_all (ls : List LN) : p_fhz ls = ls.all (fun l => l.all (fin .f32)) := by
 rw [p_fhz_eq]
 have := areFinite_go ls (Int.toNat ((ls.length : Int) - (0 : Int)) + 1) false 0 ω2
 simpa using this
theorem finite_same (l : LN) : p_fhz [l] = p_foz l := by rw [areFinite_all, l02Finite_all]; simp
theorem validP_same (w h : Int) (l : LN) : p_f3z w h l = p_f1cz w h l := by
 rw [p_f3z_eq, p_f1cz_eq, p_f12z_eq, finite_same]
 show (bif p_f1bz w 1 16 then (bif p_f1bz h 1 16 then _ else false) else false) = _
 cases p_f1bz w 1 16 <;> rfl
theorem within_true {n a b : Int} (h1 : a ≤ n) (h2 : n ≤ b) : p_f18z n a b = true := by
 unfold p_f18z; rw [decide_eq_true h1, decide_eq_true h2]; rfl
theorem valid_mk {w h : Int} {l : LN} (h1 : 1 ≤ w) (h2 : w ≤ 16) (h3 : 1 ≤ h) (h4 : h ≤ 16) (hl : (l.length : Int) = w * h) (hf : l.all (fin .f32) = true) : p_f3z w h l = true := by
 have hm := side_mul (W := w) (H := h) h1 h2 h3 h4
 rw [p_f3z_eq, within_true h1 h2, within_true h3 h4, cond_true, cond_true, areFinite_all, wrap64 (n := w * h) ω2 ω2, hl]
 simp [hf]
theorem valid_fin {w h : Int} {l : LN} (hh : p_f3z w h l = true) : l.all (fin .f32) = true := by
 rw [p_f3z_eq, areFinite_all] at hh
 simp only [Bool.cond_false_right, Bool.and_eq_true] at hh
 simpa using hh.2.2.2
theorem scheme_same (ws : LN) (sc : Nat) : p_f7z ws sc = p_fpz ws sc := by
 rw [p_f7z_eq, p_fpz_eq, finite_same]
 unfold p_f18z
 have e : p_f16z sc = p_f10z sc := rfl
 rw [e]
 cases decide ((1 : Int) ≤ (ws.length : Int)) <;> cases decide (((ws.length : Int) : Int) ≤ 8) <;> rfl
theorem besideOdd_same (low : LN) (j : Nat) (hj : j < low.length) : p_f1z low (j : Int) = (low.getD j 0, p_fnz low ((j : Int) + 1)) := by
 rw [p_f1z_eq, p_fnz_eq, Int.toNat_natCast]
 have e : (if (((low.length : Int) - 1) : Int) < ((j : Int) + 1) then ((low.length : Int) - 1) else ((j : Int) + 1)).toNat = (if (if ((j : Int) + 1) < ((low.length : Int) - 1) then ((j : Int) + 1) else ((low.length : Int) - 1)) > 0 then (if ((j : Int) + 1) < ((low.length : Int) - 1) then ((j : Int) + 1) else ((low.length : Int) - 1)) else 0).toNat := by
  split <;> split <;> (try split at *) <;> omega
 exact congrArg (fun n => (low.getD j 0, low.getD n 0)) e
theorem besideEven_same (high : LN) (j : Nat) (h1 : 1 ≤ high.length) (hj : j ≤ high.length) : p_f0z high (j : Int) = (p_fnz high ((j : Int) - 1), p_fnz high (j : Int)) := by
 rw [p_f0z_eq, p_fnz_eq, p_fnz_eq]
 have e1 : (if (0 : Int) > ((j : Int) - 1) then 0 else ((j : Int) - 1)).toNat = (if (if ((j : Int) - 1) < ((high.length : Int) - 1) then ((j : Int) - 1) else ((high.length : Int) - 1)) > 0 then (if ((j : Int) - 1) < ((high.length : Int) - 1) then ((j : Int) - 1) else ((high.length : Int) - 1)) else 0).toNat := by
  split <;> split <;> (try split at *) <;> omega
 have e2 : (if (((high.length : Int) - 1) : Int) < (j : Int) then ((high.length : Int) - 1) else (j : Int)).toNat = (if (if (j : Int) < ((high.length : Int) - 1) then (j : Int) else ((high.length : Int) - 1)) > 0 then (if (j : Int) < ((high.length : Int) - 1) then (j : Int) else ((high.length : Int) - 1)) else 0).toNat := by
  split <;> split <;> (try split at *) <;> omega
 exact (congrArg (fun n => (high.getD n 0, _)) e1).trans (congrArg (fun n => (_, high.getD n 0)) e2)
theorem flatR_congr {g g' : Nat → LN × Bool} : ∀ k, (∀ i, i < k → (g i).1 = (g' i).1) → flatR g k = flatR g' k := by
 intro k
 induction k with
 | zero => intro _; rfl
 | succ k ih => intro h; rw [flatR_succ, flatR_succ, ih fun i hi => h i ω2, h k ω2]
theorem flatR_lenW {g : Nat → LN × Bool} {W : Int} : ∀ k : Nat, (∀ i, i < k → ((g i).1.length : Int) = W) → ((flatR g k).length : Int) = W * (k : Int) := by
 intro k
 induction k with
 | zero => intro _; simp [flatR]
 | succ k ih =>
  intro h
  rw [flatR_succ, List.length_append, Int.natCast_add, ih fun i hi => h i ω2, h k ω2]
  rw [show ((k + 1 : Nat) : Int) = (k : Int) + 1 by omega, Int.mul_add, Int.mul_one]
theorem flatR_fin {g : Nat → LN × Bool} : ∀ k : Nat, (∀ i, i < k → (g i).1.all (fin .f32) = true) → (flatR g k).all (fin .f32) = true := by
 intro k
 induction k with
 | zero => intro _; rfl
 | succ k ih => intro h; rw [flatR_succ, List.all_append, ih fun i hi => h i ω2, h k ω2]; rfl
theorem picRow_fin {l : LN} (hf : l.all (fin .f32) = true) (W : Int) (y : Nat) : (picRow l W y).all (fin .f32) = true := by
 rw [List.all_eq_true]
 intro x hx
 exact List.all_eq_true.1 hf x (List.mem_of_mem_drop (List.mem_of_mem_take hx))
theorem fneg_qnan (k : FloatKind) : fneg k (qnan k) = qnan k := by cases k <;> decide +kernel
theorem fmul_fneg {k : FloatKind} {w : Nat} (hw : fin k w = true) (y : Nat) : fmul k (fneg k w) y = fneg k (fmul k w y) := by
 obtain ⟨s, m, e, hr⟩ := fin_num hw
 have hn : k.format.read (fneg k w) = .number (!s) m e := by rw [read_fneg (fin_nn hw), hr]; rfl
 unfold fmul Ieee.Format.mul
 rw [hn, hr]
 cases hd : k.format.read y with
 | nan t p => exact (fneg_qnan k).symm
 | number t n j =>
  show k.format.write (.number ((!s) ^^ t) (m * n) (e + j)) = fneg k (k.format.write (.number (s ^^ t) (m * n) (e + j)))
  rw [neg_write (d := .number (s ^^ t) (m * n) (e + j)) rfl]
  show k.format.write (.number ((!s) ^^ t) (m * n) (e + j)) = k.format.write (.number (!(s ^^ t)) (m * n) (e + j))
  rw [Bool.not_xor]
 | infinity t =>
  show ((if m = 0 then none else some (Ieee.Datum.infinity (t ^^ (!s)))).map k.format.write).getD (qnan k) = fneg k (((if m = 0 then none else some (Ieee.Datum.infinity (t ^^ s))).map k.format.write).getD (qnan k))
  by_cases h : m = 0
  ·rw [if_pos h, if_pos h]; exact (fneg_qnan k).symm
  ·rw [if_neg h, if_neg h]
   show k.format.write (.infinity (t ^^ (!s))) = fneg k (k.format.write (.infinity (t ^^ s)))
   rw [neg_write (d := .infinity (t ^^ s)) rfl]
   show k.format.write (.infinity (t ^^ (!s))) = k.format.write (.infinity (!(t ^^ s)))
   rw [Bool.xor_not]
theorem read_qnan (k : FloatKind) : (k.format.read (qnan k)).isNaN = true := by cases k <;> decide +kernel
theorem sum_nan (d d' : Ieee.Datum) (h : d'.isNaN = true) : Ieee.Datum.sum d d' = none := by
 cases d' with
 | nan t p => cases d <;> rfl
 | number _ _ _ => cases h
 | infinity _ => cases h
theorem fsub_prod {k : FloatKind} {w : Nat} (hw : fin k w = true) (x y : Nat) : fsub k x (fmul k w y) = fadd k x (fmul k (fneg k w) y) := by
 rw [fmul_fneg hw]
 generalize fmul k w y = z
 cases hz : (k.format.read z).isNaN with
 | false => exact fsub_neg hz
 | true =>
  have e : fneg k z = qnan k := by
   unfold fneg
   rw [show (k.decode z).isNaN = true from hz]; rfl
  rw [e]
  unfold fsub fadd Ieee.Format.sub Ieee.Format.add
  rw [sum_nan _ _ (read_qnan k), sum_nan]
  cases hd : k.format.read z with
  | nan t p => rfl
  | number _ _ _ => rw [hd] at hz; cases hz
  | infinity _ => rw [hd] at hz; cases hz
theorem wHigh_back (k : Int) {w : Nat} (hw : fin .f32 w = true) (low high : LN) (h : high.length ≤ low.length) : wHighI k w true low high = wHighS k (fneg .f32 w) low high := by
 unfold wHighI wHighS
 cases (Int.tmod k 2 == 0) with
 | false => rfl
 | true =>
  rw [cond_true, cond_true]
  apply List.ext_getElem (by simp)
  intro i h1 h2
  have hi : i < high.length := by simpa using h1
  rw [List.getElem_mapIdx, List.getElem_mapIdx, besideOdd_same low i ω2]
  exact fsub_prod hw _ _
theorem wLow_back (k : Int) {w : Nat} (hw : fin .f32 w = true) (low high : LN) (h1 : 1 ≤ high.length) (h : low.length ≤ high.length + 1) : wLowI k w true low high = wLowS k (fneg .f32 w) low high := by
 unfold wLowI wLowS
 cases (Int.tmod k 2 == 0) with
 | true => rfl
 | false =>
  rw [cond_false, cond_false]
  apply List.ext_getElem (by simp)
  intro i h2 h3
  have hi : i < low.length := by simpa using h2
  rw [List.getElem_mapIdx, List.getElem_mapIdx, besideEven_same high i h1 ω2]
  exact fsub_prod hw _ _
theorem df_same (ws : LN) (hw : ∀ k, k < ws.length → fin .f32 (ws.getD k 0) = true) : ∀ (k : Nat) (lo hi : LN), k ≤ ws.length → 1 ≤ hi.length → hi.length ≤ lo.length → lo.length ≤ hi.length + 1 → dfI ws k lo hi = dfS ws k lo hi := by
 intro k
 induction k with
 | zero => intro lo hi _ _ _ _; rfl
 | succ k ih =>
  intro lo hi hk h1 h2 h3
  unfold dfI dfS
  rw [wLow_back _ (hw k ω2) lo hi h1 h3, wHigh_back _ (hw k ω2) lo hi h2]
  exact ih _ _ ω2 (by rw [wHighS_length]; exact h1) (by rw [wHighS_length, wLowS_length]; exact h2) (by rw [wHighS_length, wLowS_length]; exact h3)
theorem scheme_fin {ws : LN} {sc : Nat} (h : p_f7z ws sc = true) (k : Nat) (hk : k < ws.length) : fin .f32 (ws.getD k 0) = true := by
 rw [p_f7z_eq] at h
 cases h1 : p_f18z (ws.length : Int) (1 : Int) (8 : Int) with
 | false => rw [h1] at h; cases h
 | true =>
  rw [h1, cond_true] at h
  cases h2 : p_fhz [ws] with
  | false => rw [h2] at h; cases h
  | true =>
   rw [areFinite_all] at h2
   simp only [List.all_cons, List.all_nil, Bool.and_true] at h2
   rw [List.getD_eq_getElem?_getD, List.getElem?_eq_getElem hk]
   exact List.all_eq_true.1 h2 _ (List.getElem_mem hk)
theorem wv_nil (e : LN) : ∀ k, k ≤ e.length → wv e [] k = e.take k := by
 intro k
 induction k with
 | zero => intro _; simp [wv]
 | succ k ih =>
  intro hk
  rw [wv_succ, ih ω2, List.take_add_one, List.getElem?_eq_getElem (show k < e.length by omega)]
  simp [wvF, List.getD_eq_getElem?_getD, List.getElem?_eq_getElem (show k < e.length by omega)]
theorem drop_same (ws : LN) (sc : Nat) (e o : LN) (hv : p_f7z ws sc = true) (h1 : 1 ≤ e.length) (h2 : o.length ≤ e.length) (h3 : e.length ≤ o.length + 1) (h4 : e.length + o.length ≤ 128) (he : e.all (fin .f32) = true) (ho : o.all (fin .f32) = true) : p_frz ws sc e o = p_faz ws sc e o := by
 rw [impl_DO_val, spec_DropOnce_val, hv, decide_eq_true h1, decide_eq_true h4]
 have ef : p_fhz [e, o] = true := by rw [areFinite_all]; simp [he, ho]
 have e3 : (decide (o.length = e.length) || decide (o.length + 1 = e.length)) = true := by
  by_cases c : o.length = e.length
  ·rw [decide_eq_true c]; rfl
  ·rw [decide_eq_true (show o.length + 1 = e.length by omega), Bool.or_true]
 rw [ef, e3]
 simp only [Bool.and_true, cond_true]
 unfold dropW
 by_cases h0 : o.length = 0
 ·have eo : o = [] := List.length_eq_zero_iff.1 h0
  rw [decide_eq_true h0, cond_true, decide_eq_false (show ¬ (0 : Int) < (0 + o.length : Int) by omega), cond_false, eo, wv_nil e _ (Nat.le_refl _), List.take_length, p_f14z_eq, l02Finite_all, he]
  rfl
 ·rw [decide_eq_false h0, cond_false, decide_eq_true (show (0 : Int) < (0 + o.length : Int) by omega), cond_true]
  have hd := df_same ws (scheme_fin hv) ws.length (e.map fun x => fdiv .f32 x sc) (o.map fun x => fmul .f32 x sc) (Nat.le_refl _) (by rw [List.length_map]; omega) (by rw [List.length_map, List.length_map]; exact h2) (by rw [List.length_map, List.length_map]; exact h3)
  have ew : dropWI ws sc e o = wv (dropE ws sc e o) (dropO ws sc e o) e.length := by
   unfold dropWI dropEI dropOI dropE dropO
   rw [hd]
  rw [ew, p_f14z_eq, areFinite_all, l02Finite_all]
  simp only [List.all_cons, List.all_nil, Bool.and_true]
  cases List.all (wv (dropE ws sc e o) (dropO ws sc e o) e.length) (fin .f32) <;> rfl
def gDrop (ws : LN) (sc : Nat) (l : LN) (W : Int) (y : Nat) : LN × Bool := p_faz ws sc
 (((((l.drop (((y : Int) * W) : Int).toNat).take (((((y : Int) + 1) * W) : Int) - ((y : Int) * W)).toNat).drop (0 : Int).toNat).take (((Int.tdiv (W + 1) 2) : Int) - 0).toNat))
 ((((l.drop (((y : Int) * W) : Int).toNat).take (((((y : Int) + 1) * W) : Int) - ((y : Int) * W)).toNat).drop ((Int.tdiv (W + 1) 2) : Int).toNat).take ((((((((y : Int) + 1) * W) : Int) - ((y : Int) * W)).toNat : Int) : Int) - (Int.tdiv (W + 1) 2)).toNat)
theorem l04Unrows_go (ws : LN) (sc : Nat) (W : Int) (m : Nat) (l : LN) (t5 : Bool) (q1 q2 q4 q5 : Int) : ∀ (μ k : Nat), k ≤ m → m - k < μ → (∀ i, i < k → (gDrop ws sc l W i).2 = true) →
  p_fqz_l1 ws sc W (m : Int) l μ t5 (k : Int) q1 q2 q4 q5 (flatR (gDrop ws sc l W) k) = bif (List.range m).all (fun i => (gDrop ws sc l W i).2) then (q4, q5, flatR (gDrop ws sc l W) m, true) else (0, 0, [], false) := by
 intro μ
 induction μ with
 | zero => intro k _ h; omega
 | succ μ ih =>
  intro k hk hm hall
  rw [p_fqz_l1_s]
  by_cases h : k < m
  ·rw [decide_eq_true (show (k : Int) < (m : Int) by omega), cond_true]
   show (bif !((gDrop ws sc l W k).2) then ((0 : Int), (0 : Int), [], false) else p_fqz_l1 ws sc W (m : Int) l μ t5 ((k : Int) + 1) q1 q2 q4 q5 (flatR (gDrop ws sc l W) k ++ (gDrop ws sc l W k).1)) = _
   cases hg : (gDrop ws sc l W k).2 with
   | false =>
    rw [Bool.not_false, cond_true]
    have : (List.range m).all (fun i => (gDrop ws sc l W i).2) = false := by
     rw [List.all_eq_false]
     exact ⟨k, List.mem_range.2 h, by rw [hg]; simp⟩
    rw [this, cond_false]
   | true =>
    rw [Bool.not_true, cond_false]
    have := ih (k + 1) ω2 ω2 (fun i hi => by
     rcases Nat.lt_succ_iff_lt_or_eq.1 hi with hi | rfl
     ·exact hall i hi
     ·exact hg)
    rw [flatR_succ] at this
    exact this
  ·obtain rfl : k = m := by omega
   rw [decide_eq_false (show ¬ (k : Int) < (k : Int) by omega), cond_false]
   have : (List.range k).all (fun i => (gDrop ws sc l W i).2) = true := by
    rw [List.all_eq_true]
    exact fun i hi => hall i (List.mem_range.1 hi)
   rw [this, cond_true]
theorem all_take {l : LN} (hf : l.all (fin .f32) = true) (a b : Nat) : ((l.drop a).take b).all (fin .f32) = true := by
 rw [List.all_eq_true]
 intro x hx
 exact List.all_eq_true.1 hf x (List.mem_of_mem_drop (List.mem_of_mem_take hx))
theorem gDrop_same {ws : LN} {sc : Nat} {l : LN} {W Hi : Int} {i : Nat} (hv : p_f7z ws sc = true) (h1 : 1 ≤ W) (h2 : W ≤ 16) (h3 : Hi ≤ 16) (hl : (l.length : Int) = W * Hi) (hf : l.all (fin .f32) = true) (hi : (i : Int) < Hi) :
  p_fbz (picRow l W i) ws sc (Int.tdiv (W + 1) 2) = gDrop ws sc l W i ∧ ((gDrop ws sc l W i).2 = true → ((gDrop ws sc l W i).1.length : Int) = W ∧ (gDrop ws sc l W i).1.all (fin .f32) = true) := by
 obtain ⟨f1, f2, f3, f4⟩ := picRow_facts h1 h2 h3 hl hi
 have hh := DropRows_half h1
 have e1 : ((((((i : Int) + 1) * W) : Int) - ((i : Int) * W)).toNat : Int) = W := by
  have e2 : ((i : Int) + 1) * W = (i : Int) * W + W := by rw [Int.add_mul, Int.one_mul]
  omega
 have eg : gDrop ws sc l W i = p_faz ws sc (((picRow l W i).drop (0 : Int).toNat).take (((Int.tdiv (W + 1) 2) : Int) - 0).toNat) (((picRow l W i).drop ((Int.tdiv (W + 1) 2) : Int).toNat).take ((((((((i : Int) + 1) * W) : Int) - ((i : Int) * W)).toNat : Int) : Int) - (Int.tdiv (W + 1) 2)).toNat) := rfl
 rw [p_fbz_eq, eg, e1, f4]
 have pf := picRow_fin hf W i
 generalize hA : ((picRow l W i).drop (0 : Int).toNat).take (((Int.tdiv (W + 1) 2) : Int) - 0).toNat = A
 generalize hB : ((picRow l W i).drop ((Int.tdiv (W + 1) 2) : Int).toNat).take (W - (Int.tdiv (W + 1) 2)).toNat = B
 have lA : (A.length : Int) = (W + 1) / 2 := by rw [← hA, List.length_take, List.length_drop]; omega
 have lB : (B.length : Int) = W - (W + 1) / 2 := by rw [← hB, List.length_take, List.length_drop]; omega
 have fA : A.all (fin .f32) = true := by rw [← hA]; exact all_take pf _ _
 have fB : B.all (fin .f32) = true := by rw [← hB]; exact all_take pf _ _
 refine ⟨drop_same ws sc A B hv ω2 ω2 ω2 ω2 fA fB, fun h => ?_⟩
 obtain ⟨g1, g2⟩ := spec_DO_ok ws sc A B h
 have g3 := dropW_len ws sc A B
 rw [g1]
 refine ⟨by omega, ?_⟩
 rw [← l02Finite_all]; exact g2
theorem dropRows_same (ws : LN) (sc : Nat) (W Hi : Int) (l : LN) : p_ftz ws sc W Hi l = p_fzz ws sc W Hi l := by
 rw [p_fzz_eq, p_f19z_eq, ← scheme_same, ← validP_same]
 unfold p_ftz
 cases hv : p_f7z ws sc with
 | false => rfl
 | true =>
  rw [cond_true, cond_true]
  cases hp : p_f3z W Hi l with
  | false => rfl
  | true =>
   rw [cond_true, Bool.not_true, cond_false]
   obtain ⟨h1, h2, h3, h4, h5, _⟩ := f3z_t hp
   have hf := valid_fin hp
   obtain ⟨m, rfl⟩ : ∃ m : Nat, Hi = (m : Int) := ⟨Hi.toNat, by omega⟩
   have em : ((m : Int)).toNat = m := Int.toNat_natCast m
   show _ = p_fqz ws sc W (m : Int) l
   rw [em, p_fqz_eq]
   have hs := l04Unrows_go ws sc W m l false 0 0 W (m : Int) (Int.toNat ((m : Int) - (0 : Int)) + 1) 0 ω2 ω2 (fun i hi => absurd hi (Nat.not_lt_zero _))
   refine Eq.trans ?_ hs.symm
   have rows := fun (i : Nat) (hi : i < m) => gDrop_same (i := i) hv h1 h2 h4 h5 hf ω2
   have eall : (List.range m).all (fun i => (p_fbz (picRow l W i) ws sc (Int.tdiv (W + 1) 2)).2) = (List.range m).all (fun i => (gDrop ws sc l W i).2) := by
    rw [Bool.eq_iff_iff, List.all_eq_true, List.all_eq_true]
    exact ⟨fun h i hi => by rw [← (rows i (List.mem_range.1 hi)).1]; exact h i hi, fun h i hi => by rw [(rows i (List.mem_range.1 hi)).1]; exact h i hi⟩
   unfold p_rows
   rw [eall]
   cases hall : (List.range m).all (fun i => (gDrop ws sc l W i).2) with
   | false => rfl
   | true =>
    rw [cond_true, cond_true]
    have ok : ∀ i, i < m → (gDrop ws sc l W i).2 = true := fun i hi => List.all_eq_true.1 hall i (List.mem_range.2 hi)
    rw [flatR_congr m fun i hi => congrArg Prod.fst (rows i hi).1]
    have hvp : p_f3z W (m : Int) (flatR (gDrop ws sc l W) m) = true :=
     valid_mk h1 h2 h3 h4 (flatR_lenW m fun i hi => ((rows i hi).2 (ok i hi)).1) (flatR_fin m fun i hi => ((rows i hi).2 (ok i hi)).2)
    rw [p_f4z_eq, hvp]
    rfl
theorem fwz_self (l : LN) (sc : Nat) : p_fwz l sc l sc = true := by
 rw [p_fwz_eq, fdz_self, fjz_self]; rfl
theorem f8z_marks (a b : Int) (k : Int) (n : Nat) (h : 0 ≤ wk k n) : p_f8z a b (marks (FloatKind.nearest .f32) k n) k = wk k n := by
 rw [p_f8z_eq, f5z_marks, decide_eq_false ω2, cond_false]
theorem laws_FnExactDropRows_true (ca : LN) (aS_Scale : Nat) (aP_Wide : Int) (aP_High : Int) (da : LN) (q0 : (∀ y ∈ ca, W32 y)) (q0' : ca.length ≤ 9223372036854775807) (q1 : W32 aS_Scale) (q2 : I64 aP_Wide) (q3 : I64 aP_High) (q4 : (∀ y ∈ da, W32 y)) (q4' : da.length ≤ 9223372036854775807) : p_laws_FnExactDropRows ca aS_Scale aP_Wide aP_High da = true := by
 rw [p_laws_FnExactDropRows_eq]
 rcases fxz_f ca aS_Scale 1048576 ω22 ω22 q0' with h | ⟨h, h'⟩
 ·rw [decide_eq_true h]; rfl
 ·rw [decide_eq_false (show ¬ p_fxz ca aS_Scale 1048576 < 0 by omega), cond_false]
  rcases fkz_f aP_Wide aP_High da (p_fxz ca aS_Scale 1048576) ω2 ω2 q4' with g | ⟨g, g'⟩
  ·rw [decide_eq_true g]; rfl
  ·rw [decide_eq_false (show ¬ p_fkz aP_Wide aP_High da (p_fxz ca aS_Scale 1048576) < 0 by omega), cond_false]
   rw [dropRows_same]
   have hr := fzz_len ca aS_Scale aP_Wide aP_High da
   have hw := wk_eq ca.length 1 ω2 ω2
   have hv := wk_eq da.length (wk 1 ca.length) ω2 ω2
   have hu := wk_eq (p_fzz ca aS_Scale aP_Wide aP_High da).2.2.1.length 1 ω2 ω2
   simp only [fiz_self, fwz_self, f8z_marks _ _ 1 (p_fzz ca aS_Scale aP_Wide aP_High da).2.2.1.length ω2, Bool.not_true, cond_false, beq_self_eq_true, bne_self_eq_false, decide_eq_false (show ¬ wk (wk 1 ca.length) da.length < (0 : Int) by omega), decide_eq_false (show ¬ wk 1 (p_fzz ca aS_Scale aP_Wide aP_High da).2.2.1.length < (0 : Int) by omega)]
/-! laws_FnExactDropRows: function 5 -/
def E_laws_FnExactDropRows : Env := envOf [(999996, tameMark), (6, S_fxz), (7, S_fkz), (9, S_fyz), (10, S_flz), (19, S_fzz), (20, S_ftz), (12, S_fiz), (13, S_fwz), (14, S_fez), (15, S_f9z), (16, S_f8z)]
def F_laws_FnExactDropRows : List Value → AHeap → (Value → AHeap → Prop) → Prop
 | [.agg ⟨[.slice yd te ae, .float .f32 aS_Scale]⟩, .agg ⟨[.int .i64 aP_Wide, .int .i64 aP_High, .slice de ye fe]⟩], H, K => T_laws_FnExactDropRows yd te ae aS_Scale aP_Wide aP_High de ye fe H fun (r1 : Bool) (H' : AHeap) => K (.bool r1) H'
 | _, _, _ => False
def S_laws_FnExactDropRows : FSpec := { F := F_laws_FnExactDropRows, quiet := false, tame := false }
theorem laws_FnExactDropRows_vc (yd : OA) (te : Nat) (ae : Nat) (aS_Scale : Nat) (aP_Wide : Int) (aP_High : Int) (de : OA) (ye : Nat) (fe : Nat) (H : AHeap) (K : Value → AHeap → Prop) : bodyL Try.prog E_laws_FnExactDropRows Try.f5 [.agg #[.slice yd te ae, .float .f32 aS_Scale], .agg #[.int .i64 aP_Wide, .int .i64 aP_High, .slice de ye fe]] H K =
 (Al [.slice yd te ae, .float .f32 aS_Scale] H fun b1 H1 => Al [.int .i64 aP_Wide, .int .i64 aP_High, .slice de ye fe] H1 fun b2 H2 => ∃ xf : OA, ∃ zf : Nat, ∃ yf : Nat, ∃ c2 : Nat,  rdN H2 b1 0 2 = some [.slice xf zf yf, .float .f32 c2] ∧ T_fxz xf zf yf c2 1048576 H2 fun (r1 : Int) (H3 : AHeap) => Br (decide ((r1 : Int) < 0)) (K (.bool true) H3) (∃ c3 : Int, ∃ c4 : Int, ∃ gh : OA, ∃ kh : Nat, ∃ jh : Nat,  rdN H3 b2 0 3 = some [.int .i64 c3, .int .i64 c4, .slice gh kh jh] ∧ T_fkz c3 c4 gh kh jh r1 H3 fun (r2 : Int) (H4 : AHeap) => Br (decide ((r2 : Int) < 0)) (K (.bool true) H4) (∃ c6 : Int, ∃ c7 : Int, ∃ lh : OA, ∃ nh : Nat, ∃ mh : Nat,  rdN H4 b2 0 3 = some [.int .i64 c6, .int .i64 c7, .slice lh nh mh] ∧ ∃ kg : OA, ∃ mg : Nat, ∃ lg : Nat, ∃ c10 : Nat,  rdN H4 b1 0 2 = some [.slice kg mg lg, .float .f32 c10] ∧ T_fyz kg mg lg c10 H4 fun (a1 : OA) (r3 : Nat) (r4 : Nat) (r5 : Nat) (H5 : AHeap) => T_flz c6 c7 lh nh mh H5 fun (r6 : Int) (r7 : Int) (a2 : OA) (r8 : Nat) (r9 : Nat) (H6 : AHeap) => T_fzz a1 r3 r4 r5 r6 r7 a2 r8 r9 H6 fun (r10 : Int) (r11 : Int) (a3 : OA) (r12 : Nat) (r13 : Nat) (r14 : Bool) (H7 : AHeap) => Al [.int .i64 0, .int .i64 0, .slice none 0 0] H7 fun b3 H8 => isOwn H8 b3 ∧ (∃ l, rdN H8 b3 0 3 = some l) ∧ Lt (setN H8 b3 0 [.int .i64 r10, .int .i64 r11, .slice a3 r12 r13]) fun H9 => ∃ vg : OA, ∃ xg : Nat, ∃ wg : Nat, ∃ c12 : Nat,  rdN H9 b1 0 2 = some [.slice vg xg wg, .float .f32 c12] ∧ T_fyz vg xg wg c12 H9 fun (a4 : OA) (r15 : Nat) (r16 : Nat) (r17 : Nat) (H10 : AHeap) => Al [.slice none 0 0, .float .f32 0] H10 fun b4 H11 => isOwn H11 b4 ∧ (∃ l, rdN H11 b4 0 2 = some l) ∧ Lt (setN H11 b4 0 [.slice a4 r15 r16, .float .f32 r17]) fun H12 => ∃ c13 : Int, ∃ c14 : Int, ∃ vh : OA, ∃ xh : Nat, ∃ wh : Nat,  rdN H12 b2 0 3 = some [.int .i64 c13, .int .i64 c14, .slice vh xh wh] ∧ T_flz c13 c14 vh xh wh H12 fun (r18 : Int) (r19 : Int) (a5 : OA) (r20 : Nat) (r21 : Nat) (H13 : AHeap) => Al [.int .i64 0, .int .i64 0, .slice none 0 0] H13 fun b5 H14 => isOwn H14 b5 ∧ (∃ l, rdN H14 b5 0 3 = some l) ∧ Lt (setN H14 b5 0 [.int .i64 r18, .int .i64 r19, .slice a5 r20 r21]) fun H15 => ∃ yh : OA, ∃ ai : Nat, ∃ zh : Nat, ∃ c17 : Nat,  rdN H15 b4 0 2 = some [.slice yh ai zh, .float .f32 c17] ∧ ∃ c18 : Int, ∃ c19 : Int, ∃ ii : OA, ∃ ki : Nat, ∃ ji : Nat,  rdN H15 b5 0 3 = some [.int .i64 c18, .int .i64 c19, .slice ii ki ji] ∧ T_ftz yh ai zh c17 c18 c19 ii ki ji H15 fun (r22 : Int) (r23 : Int) (a6 : OA) (r24 : Nat) (r25 : Nat) (r26 : Bool) (H16 : AHeap) => Al [.int .i64 0, .int .i64 0, .slice none 0 0] H16 fun b6 H17 => isOwn H17 b6 ∧ (∃ l, rdN H17 b6 0 3 = some l) ∧ Lt (setN H17 b6 0 [.int .i64 r22, .int .i64 r23, .slice a6 r24 r25]) fun H18 => ∃ c21 : Int, ∃ c22 : Int, ∃ li : OA, ∃ ni : Nat, ∃ mi : Nat,  rdN H18 b6 0 3 = some [.int .i64 c21, .int .i64 c22, .slice li ni mi] ∧ ∃ c24 : Int, ∃ c25 : Int, ∃ oi : OA, ∃ ri : Nat, ∃ qi : Nat,  rdN H18 b3 0 3 = some [.int .i64 c24, .int .i64 c25, .slice oi ri qi] ∧ T_fiz c21 c22 li ni mi c24 c25 oi ri qi H18 fun (r27 : Bool) (H19 : AHeap) => Br (!r27) (K (.bool false) H19) (Br (!(r26 == r14)) (K (.bool false) H19) (∃ si : OA, ∃ ui : Nat, ∃ ti : Nat, ∃ c28 : Nat,  rdN H19 b1 0 2 = some [.slice si ui ti, .float .f32 c28] ∧ ∃ vi : OA, ∃ xi : Nat, ∃ wi : Nat, ∃ c30 : Nat,  rdN H19 b4 0 2 = some [.slice vi xi wi, .float .f32 c30] ∧ T_fyz si ui ti c28 H19 fun (a7 : OA) (r28 : Nat) (r29 : Nat) (r30 : Nat) (H20 : AHeap) => T_fwz vi xi wi c30 a7 r28 r29 r30 H20 fun (r31 : Bool) (H21 : AHeap) => Br (!r31) (K (.bool false) H21) (∃ c31 : Int, ∃ c32 : Int, ∃ yi : OA, ∃ aj : Nat, ∃ zi : Nat,  rdN H21 b2 0 3 = some [.int .i64 c31, .int .i64 c32, .slice yi aj zi] ∧ ∃ c34 : Int, ∃ c35 : Int, ∃ bj : OA, ∃ dj : Nat, ∃ cj : Nat,  rdN H21 b5 0 3 = some [.int .i64 c34, .int .i64 c35, .slice bj dj cj] ∧ T_flz c31 c32 yi aj zi H21 fun (r32 : Int) (r33 : Int) (a8 : OA) (r34 : Nat) (r35 : Nat) (H22 : AHeap) => T_fiz c34 c35 bj dj cj r32 r33 a8 r34 r35 H22 fun (r36 : Bool) (H23 : AHeap) => Br (!r36) (K (.bool false) H23) (∃ fj : OA, ∃ ij : Nat, ∃ gj : Nat, ∃ c38 : Nat,  rdN H23 b4 0 2 = some [.slice fj ij gj, .float .f32 c38] ∧ T_fez fj ij gj c38 1 H23 fun (r37 : Int) (H24 : AHeap) => ∃ c39 : Int, ∃ c40 : Int, ∃ jj : OA, ∃ lj : Nat, ∃ kj : Nat,  rdN H24 b5 0 3 = some [.int .i64 c39, .int .i64 c40, .slice jj lj kj] ∧ T_f9z c39 c40 jj lj kj r37 H24 fun (r38 : Int) (H25 : AHeap) => Br (decide ((r38 : Int) < 0)) (K (.bool false) H25) (∃ c42 : Int, ∃ c43 : Int, ∃ mj : OA, ∃ pj : Nat, ∃ nj : Nat,  rdN H25 b6 0 3 = some [.int .i64 c42, .int .i64 c43, .slice mj pj nj] ∧ ∃ c45 : Int, ∃ c46 : Int, ∃ qj : OA, ∃ sj : Nat, ∃ rj : Nat,  rdN H25 b3 0 3 = some [.int .i64 c45, .int .i64 c46, .slice qj sj rj] ∧ T_fiz c42 c43 mj pj nj c45 c46 qj sj rj H25 fun (r39 : Bool) (H26 : AHeap) => Br (!r39) (K (.bool false) H26) (Br (!(r26 == r14)) (K (.bool false) H26) (∃ c48 : Int, ∃ c49 : Int, ∃ tj : OA, ∃ vj : Nat, ∃ uj : Nat,  rdN H26 b6 0 3 = some [.int .i64 c48, .int .i64 c49, .slice tj vj uj] ∧ T_f9z c48 c49 tj vj uj 1 H26 fun (r40 : Int) (H27 : AHeap) => ∃ c51 : Int, ∃ c52 : Int, ∃ wj : OA, ∃ yj : Nat, ∃ xj : Nat,  rdN H27 b6 0 3 = some [.int .i64 c51, .int .i64 c52, .slice wj yj xj] ∧ T_f8z c51 c52 wj yj xj 1 H27 fun (r41 : Int) (H28 : AHeap) => Br (decide ((r41 : Int) < 0)) (K (.bool false) H28) (Br ((r41 : Int) != r40) (K (.bool false) H28) (∃ c54 : Int, ∃ c55 : Int, ∃ zj : OA, ∃ bk : Nat, ∃ ak : Nat,  rdN H28 b2 0 3 = some [.int .i64 c54, .int .i64 c55, .slice zj bk ak] ∧ ∃ ck : OA, ∃ fk : Nat, ∃ dk : Nat, ∃ c58 : Nat,  rdN H28 b1 0 2 = some [.slice ck fk dk, .float .f32 c58] ∧ T_fyz ck fk dk c58 H28 fun (a9 : OA) (r42 : Nat) (r43 : Nat) (r44 : Nat) (H29 : AHeap) => T_flz c54 c55 zj bk ak H29 fun (r45 : Int) (r46 : Int) (a10 : OA) (r47 : Nat) (r48 : Nat) (H30 : AHeap) => T_ftz a9 r42 r43 r44 r45 r46 a10 r47 r48 H30 fun (r49 : Int) (r50 : Int) (a11 : OA) (r51 : Nat) (r52 : Nat) (r53 : Bool) (H31 : AHeap) => Al [.int .i64 0, .int .i64 0, .slice none 0 0] H31 fun b7 H32 => isOwn H32 b7 ∧ (∃ l, rdN H32 b7 0 3 = some l) ∧ Lt (setN H32 b7 0 [.int .i64 r49, .int .i64 r50, .slice a11 r51 r52]) fun H33 => ∃ c59 : Int, ∃ c60 : Int, ∃ gk : OA, ∃ jk : Nat, ∃ ik : Nat,  rdN H33 b7 0 3 = some [.int .i64 c59, .int .i64 c60, .slice gk jk ik] ∧ ∃ c62 : Int, ∃ c63 : Int, ∃ kk : OA, ∃ nk : Nat, ∃ lk : Nat,  rdN H33 b3 0 3 = some [.int .i64 c62, .int .i64 c63, .slice kk nk lk] ∧ T_fiz c59 c60 gk jk ik c62 c63 kk nk lk H33 fun (r54 : Bool) (H34 : AHeap) => Br (!r54) (K (.bool false) H34) (Br (!(r53 == r14)) (K (.bool false) H34) (∃ c65 : Int, ∃ c66 : Int, ∃ pk : OA, ∃ rk : Nat, ∃ qk : Nat,  rdN H34 b6 0 3 = some [.int .i64 c65, .int .i64 c66, .slice pk rk qk] ∧ T_f8z c65 c66 pk rk qk 1 H34 fun (r55 : Int) (H35 : AHeap) => Br (decide ((r55 : Int) < 0)) (K (.bool false) H35) (Br ((r55 : Int) != r40) (K (.bool false) H35) (K (.bool true) H35)))))))))))))))) := by kernel_rfl
theorem E_laws_FnExactDropRows_ok : ∀ g, FnOkX Try.prog (MainCls Try.prog) g (E_laws_FnExactDropRows g) := FnOkX.envOf (by
 intro x hx
 simp only [List.mem_cons, List.not_mem_nil, or_false] at hx
 rcases hx with rfl | rfl | rfl | rfl | rfl | rfl | rfl | rfl | rfl | rfl | rfl | rfl
 ·exact tameMark_okX _ _
 ·exact fxz_ok.le fun _ _ _ => trivial
 ·exact fkz_ok.le fun _ _ _ => trivial
 ·exact fyz_ok.le fun _ _ _ => trivial
 ·exact flz_ok.le fun _ _ _ => trivial
 ·exact fzz_ok.le fun _ _ _ => trivial
 ·exact ftz_ok
 ·exact fiz_ok.le fun _ _ _ => trivial
 ·exact fwz_ok.le fun _ _ _ => trivial
 ·exact fez_ok.le fun _ _ _ => trivial
 ·exact f9z_ok.le fun _ _ _ => trivial
 ·exact f8z_ok.le fun _ _ _ => trivial)
theorem laws_FnExactDropRows_main (yd : OA) (te : Nat) (ae : Nat) (aS_Scale : Nat) (aP_Wide : Int) (aP_High : Int) (de : OA) (ye : Nat) (fe : Nat) (H : AHeap) (K : Value → AHeap → Prop) (h : T_laws_FnExactDropRows yd te ae aS_Scale aP_Wide aP_High de ye fe H fun (r1 : Bool) (H' : AHeap) => K (.bool r1) H') : bodyL Try.prog E_laws_FnExactDropRows Try.f5 [.agg #[.slice yd te ae, .float .f32 aS_Scale], .agg #[.int .i64 aP_Wide, .int .i64 aP_High, .slice de ye fe]] H K := by
 rw [laws_FnExactDropRows_vc]
 obtain ⟨ca, da, h_0, h_1, h_2, h_3, h_4, h_5, h_6, h_7, h_8, hk⟩ := h
 have i_aS_Weights := h_0
 obtain rfl := i_aS_Weights.eqn
 have i_aP_Lights := h_6
 obtain rfl := i_aP_Lights.eqn
 have hl := laws_FnExactDropRows_true ca aS_Scale aP_Wide aP_High da h_1 h_2 h_3 h_4 h_5 h_7 h_8
 have e : p_laws_FnExactDropRows ca aS_Scale aP_Wide aP_High da = _ := rfl
 have e := e.trans (p_laws_FnExactDropRows_eq ca aS_Scale aP_Wide aP_High da)
 have e := hl.symm.trans e
 have g0 := Grow.refl H
 refine Al.intro (fun b_1 H_1 hb_2 hl_3 g_4 o_5 => ?_)
 have l_7 := g_4.1
 have g_8 := g0.trans g_4
 have l_9 := g_8.1
 have w800 := o_5.lt
 refine Al.intro (fun b_10 H_2 hb_11 hl_12 g13 o_14 => ?_)
 have l_16 := g13.1
 have g17 := g_8.trans g13
 have l_18 := g17.1
 have o19 := o_5.grow g13
 have w20 := o19.lt
 have w799 := o_14.lt
 refine ⟨yd, ca.length, ae, aS_Scale, (o19.rdN (Nat.le_of_ble_eq_true rfl)).trans rfl, ?_⟩
 refine T_fxz_i ⟨_, (i_aS_Weights.grow g17), fun  H_3 g_22  => ?_⟩
 have z21 := fxz_f ca aS_Scale (1048576 : Int)
 have l23 := g_22.1
 have g24 := g17.trans g_22
 have l25 := g24.1
 have o26 := o19.grow g_22
 have w27 := o26.lt
 have o28 := o_14.grow g_22
 have w29 := o28.lt
 refine Br.intro (fun c_30 => ?_) (fun c_30 => ?_)
 ·have e := e.trans (cond_t c_30)
  have c_30' := of_decide_eq_true c_30
  first | exact hk _ | (exfalso; cases e; done) | (rw [← e]; exact hk _)
 ·have e := e.trans (cond_f c_30)
  have c_30' := of_decide_eq_false c_30
  refine ⟨aP_Wide, aP_High, de, da.length, fe, (o28.rdN (Nat.le_of_ble_eq_true rfl)).trans rfl, ?_⟩
  refine T_fkz_i ⟨_, (i_aP_Lights.grow g24), fun  H_4 g32  => ?_⟩
  have z31 := fkz_f aP_Wide aP_High da ((p_fxz ca aS_Scale (1048576 : Int)))
  have l33 := g32.1
  have g34 := g24.trans g32
  have l35 := g34.1
  have o36 := o26.grow g32
  have w37 := o36.lt
  have o38 := o28.grow g32
  have w39 := o38.lt
  refine Br.intro (fun c_40 => ?_) (fun c_40 => ?_)
  ·have e := e.trans (cond_t c_40)
   have c_40' := of_decide_eq_true c_40
   first | exact hk _ | (exfalso; cases e; done) | (rw [← e]; exact hk _)
  ·have e := e.trans (cond_f c_40)
   have c_40' := of_decide_eq_false c_40
   refine ⟨aP_Wide, aP_High, de, da.length, fe, (o38.rdN (Nat.le_of_ble_eq_true rfl)).trans rfl, ?_⟩
   refine ⟨yd, ca.length, ae, aS_Scale, (o36.rdN (Nat.le_of_ble_eq_true rfl)).trans rfl, ?_⟩
   refine T_fyz_i ⟨_, (i_aS_Weights.grow g34), ω0, fun a41 n42 e43 H_5 g45 r_44 => ?_⟩
   have l46 := g45.1
   have g47 := g34.trans g45
   have l48 := g47.1
   have o49 := o36.grow g45
   have w50 := o49.lt
   have o51 := o38.grow g45
   have w52 := o51.lt
   obtain rfl := r_44.isL.eqn
   have u53 := r_44.up
   have u54 := r_44.lo
   refine T_flz_i ⟨_, (i_aP_Lights.grow g47), ω0, fun a56 n57 e58 H_6 g60 r59 => ?_⟩
   have l61 := g60.1
   have g62 := g47.trans g60
   have l63 := g62.1
   have o64 := o49.grow g60
   have w65 := o64.lt
   have o66 := o51.grow g60
   have w67 := o66.lt
   have r68 := r_44.grow g60
   obtain rfl := r59.isL.eqn
   have u69 := r59.up
   have u70 := r59.lo
   refine T_fzz_i ⟨_, _, r68.isL, r59.isL, ω0, ω0, fun a72 n73 e74 H_7 g77 r75 => ?_⟩
   have z76 := fzz_len ca aS_Scale aP_Wide aP_High da
   have l78 := g77.1
   have g79 := g62.trans g77
   have l80 := g79.1
   have o81 := o64.grow g77
   have w82 := o81.lt
   have o83 := o66.grow g77
   have w84 := o83.lt
   have r85 := r68.grow g77
   have r86 := r59.grow g77
   obtain rfl := r75.isL.eqn
   have u87 := r75.up
   have u88 := r75.lo
   refine Al.intro (fun b90 H_8 hb_91 hl_92 g93 o94 => ?_)
   have l96 := g93.1
   have g97 := g79.trans g93
   have l98 := g97.1
   have o99 := o81.grow g93
   have w100 := o99.lt
   have o101 := o83.grow g93
   have w102 := o101.lt
   have r103 := r85.grow g93
   have r104 := r86.grow g93
   have r105 := r75.grow g93
   have w798 := o94.lt
   refine Lt.setN (n := 3) o94 (Nat.le_of_ble_eq_true rfl) rfl (fun H_9 hl_106 o108 k107 => ?_)
   have o108 : Own H_9 b90 [.int .i64 ((p_fzz ca aS_Scale aP_Wide aP_High da).1), .int .i64 ((p_fzz ca aS_Scale aP_Wide aP_High da).2.1), .slice a72 (((p_fzz ca aS_Scale aP_Wide aP_High da).2.2.1).length) e74] := o108
   have l109 := k107.1
   have g110 := g97.keep (b := b90) ω2 k107
   have l111 := g110.1
   have o112 := o99.keep ω2 k107
   have w113 := o112.lt
   have o114 := o101.keep ω2 k107
   have w115 := o114.lt
   have r116 := r103.keep u53 ω2 k107
   have r117 := r104.keep u69 ω2 k107
   have r118 := r105.keep u87 ω2 k107
   have w797 := o108.lt
   refine ⟨yd, ca.length, ae, aS_Scale, (o112.rdN (Nat.le_of_ble_eq_true rfl)).trans rfl, ?_⟩
   refine T_fyz_i ⟨_, (i_aS_Weights.grow g110), ω0, fun a119 n120 e121 H_10 g123 r122 => ?_⟩
   have l124 := g123.1
   have g125 := g110.trans g123
   have l126 := g125.1
   have o127 := o112.grow g123
   have w128 := o127.lt
   have o129 := o114.grow g123
   have w130 := o129.lt
   have o131 := o108.grow g123
   have w132 := o131.lt
   have r133 := r116.grow g123
   have r134 := r117.grow g123
   have r135 := r118.grow g123
   obtain rfl := r122.isL.eqn
   have u136 := r122.up
   have u137 := r122.lo
   refine Al.intro (fun b139 H_11 hb_140 hl_141 g142 o143 => ?_)
   have l145 := g142.1
   have g146 := g125.trans g142
   have l147 := g146.1
   have o148 := o127.grow g142
   have w149 := o148.lt
   have o150 := o129.grow g142
   have w151 := o150.lt
   have o152 := o131.grow g142
   have w153 := o152.lt
   have r154 := r133.grow g142
   have r155 := r134.grow g142
   have r156 := r135.grow g142
   have r157 := r122.grow g142
   have w796 := o143.lt
   refine Lt.setN (n := 2) o143 (Nat.le_of_ble_eq_true rfl) rfl (fun H_12 hl_158 o160 k159 => ?_)
   have o160 : Own H_12 b139 [.slice a119 ((ca).length) e121, .float .f32 aS_Scale] := o160
   have l161 := k159.1
   have g162 := g146.keep (b := b139) ω2 k159
   have l163 := g162.1
   have o164 := o148.keep ω2 k159
   have w165 := o164.lt
   have o166 := o150.keep ω2 k159
   have w167 := o166.lt
   have o168 := o152.keep ω2 k159
   have w169 := o168.lt
   have r170 := r154.keep u53 ω2 k159
   have r171 := r155.keep u69 ω2 k159
   have r172 := r156.keep u87 ω2 k159
   have r173 := r157.keep u136 ω2 k159
   have w795 := o160.lt
   refine ⟨aP_Wide, aP_High, de, da.length, fe, (o166.rdN (Nat.le_of_ble_eq_true rfl)).trans rfl, ?_⟩
   refine T_flz_i ⟨_, (i_aP_Lights.grow g162), ω0, fun a174 n175 e176 H_13 g178 r177 => ?_⟩
   have l179 := g178.1
   have g180 := g162.trans g178
   have l181 := g180.1
   have o182 := o164.grow g178
   have w183 := o182.lt
   have o184 := o166.grow g178
   have w185 := o184.lt
   have o186 := o168.grow g178
   have w187 := o186.lt
   have o188 := o160.grow g178
   have w189 := o188.lt
   have r190 := r170.grow g178
   have r191 := r171.grow g178
   have r192 := r172.grow g178
   have r193 := r173.grow g178
   obtain rfl := r177.isL.eqn
   have u194 := r177.up
   have u195 := r177.lo
   refine Al.intro (fun b197 H_14 hb_198 hl_199 g200 o201 => ?_)
   have l203 := g200.1
   have g204 := g180.trans g200
   have l205 := g204.1
   have o206 := o182.grow g200
   have w207 := o206.lt
   have o208 := o184.grow g200
   have w209 := o208.lt
   have o210 := o186.grow g200
   have w211 := o210.lt
   have o212 := o188.grow g200
   have w213 := o212.lt
   have r214 := r190.grow g200
   have r215 := r191.grow g200
   have r216 := r192.grow g200
   have r217 := r193.grow g200
   have r218 := r177.grow g200
   have w794 := o201.lt
   refine Lt.setN (n := 3) o201 (Nat.le_of_ble_eq_true rfl) rfl (fun H_15 hl_219 o221 k220 => ?_)
   have o221 : Own H_15 b197 [.int .i64 aP_Wide, .int .i64 aP_High, .slice a174 ((da).length) e176] := o221
   have l222 := k220.1
   have g223 := g204.keep (b := b197) ω2 k220
   have l224 := g223.1
   have o225 := o206.keep ω2 k220
   have w226 := o225.lt
   have o227 := o208.keep ω2 k220
   have w228 := o227.lt
   have o229 := o210.keep ω2 k220
   have w230 := o229.lt
   have o231 := o212.keep ω2 k220
   have w232 := o231.lt
   have r233 := r214.keep u53 ω2 k220
   have r234 := r215.keep u69 ω2 k220
   have r235 := r216.keep u87 ω2 k220
   have r236 := r217.keep u136 ω2 k220
   have r237 := r218.keep u194 ω2 k220
   have w793 := o221.lt
   refine ⟨a119, (ca).length, e121, aS_Scale, (o231.rdN (Nat.le_of_ble_eq_true rfl)).trans rfl, ?_⟩
   refine ⟨aP_Wide, aP_High, a174, (da).length, e176, (o221.rdN (Nat.le_of_ble_eq_true rfl)).trans rfl, ?_⟩
   refine T_ftz_i ⟨_, _, r236.isL, r237.isL, ω0, ω0, fun a238 n239 e240 H_16 g243 r241 => ?_⟩
   have z242 := ftz_len ca aS_Scale aP_Wide aP_High da
   have l244 := g243.1
   have g245 := g223.trans g243
   have l246 := g245.1
   have o247 := o225.grow g243
   have w248 := o247.lt
   have o249 := o227.grow g243
   have w250 := o249.lt
   have o251 := o229.grow g243
   have w252 := o251.lt
   have o253 := o231.grow g243
   have w254 := o253.lt
   have o255 := o221.grow g243
   have w256 := o255.lt
   have r257 := r233.grow g243
   have r258 := r234.grow g243
   have r259 := r235.grow g243
   have r260 := r236.grow g243
   have r261 := r237.grow g243
   obtain rfl := r241.isL.eqn
   have u262 := r241.up
   have u263 := r241.lo
   refine Al.intro (fun b265 H_17 hb_266 hl_267 g268 o269 => ?_)
   have l271 := g268.1
   have g272 := g245.trans g268
   have l273 := g272.1
   have o274 := o247.grow g268
   have w275 := o274.lt
   have o276 := o249.grow g268
   have w277 := o276.lt
   have o278 := o251.grow g268
   have w279 := o278.lt
   have o280 := o253.grow g268
   have w281 := o280.lt
   have o282 := o255.grow g268
   have w283 := o282.lt
   have r284 := r257.grow g268
   have r285 := r258.grow g268
   have r286 := r259.grow g268
   have r287 := r260.grow g268
   have r288 := r261.grow g268
   have r289 := r241.grow g268
   have w792 := o269.lt
   refine Lt.setN (n := 3) o269 (Nat.le_of_ble_eq_true rfl) rfl (fun H_18 hl_290 o292 k291 => ?_)
   have o292 : Own H_18 b265 [.int .i64 ((p_ftz ca aS_Scale aP_Wide aP_High da).1), .int .i64 ((p_ftz ca aS_Scale aP_Wide aP_High da).2.1), .slice a238 (((p_ftz ca aS_Scale aP_Wide aP_High da).2.2.1).length) e240] := o292
   have l293 := k291.1
   have g294 := g272.keep (b := b265) ω2 k291
   have l295 := g294.1
   have o296 := o274.keep ω2 k291
   have w297 := o296.lt
   have o298 := o276.keep ω2 k291
   have w299 := o298.lt
   have o300 := o278.keep ω2 k291
   have w301 := o300.lt
   have o302 := o280.keep ω2 k291
   have w303 := o302.lt
   have o304 := o282.keep ω2 k291
   have w305 := o304.lt
   have r306 := r284.keep u53 ω2 k291
   have r307 := r285.keep u69 ω2 k291
   have r308 := r286.keep u87 ω2 k291
   have r309 := r287.keep u136 ω2 k291
   have r310 := r288.keep u194 ω2 k291
   have r311 := r289.keep u262 ω2 k291
   have w791 := o292.lt
   refine ⟨(p_ftz ca aS_Scale aP_Wide aP_High da).1, (p_ftz ca aS_Scale aP_Wide aP_High da).2.1, a238, ((p_ftz ca aS_Scale aP_Wide aP_High da).2.2.1).length, e240, (o292.rdN (Nat.le_of_ble_eq_true rfl)).trans rfl, ?_⟩
   refine ⟨(p_fzz ca aS_Scale aP_Wide aP_High da).1, (p_fzz ca aS_Scale aP_Wide aP_High da).2.1, a72, ((p_fzz ca aS_Scale aP_Wide aP_High da).2.2.1).length, e74, (o300.rdN (Nat.le_of_ble_eq_true rfl)).trans rfl, ?_⟩
   refine T_fiz_i ⟨_, _, r311.isL, r308.isL, ω0, ω0, fun  H_19 g312  => ?_⟩
   have l313 := g312.1
   have g314 := g294.trans g312
   have l315 := g314.1
   have o316 := o296.grow g312
   have w317 := o316.lt
   have o318 := o298.grow g312
   have w319 := o318.lt
   have o320 := o300.grow g312
   have w321 := o320.lt
   have o322 := o302.grow g312
   have w323 := o322.lt
   have o324 := o304.grow g312
   have w325 := o324.lt
   have o326 := o292.grow g312
   have w327 := o326.lt
   have r328 := r306.grow g312
   have r329 := r307.grow g312
   have r330 := r308.grow g312
   have r331 := r309.grow g312
   have r332 := r310.grow g312
   have r333 := r311.grow g312
   refine Br.intro (fun c334 => ?_) (fun c334 => ?_)
   ·have e := e.trans (cond_t c334)
    have c_334n := nf_of_t c334
    first | exact hk _ | (exfalso; cases e; done) | (rw [← e]; exact hk _)
   ·have e := e.trans (cond_f c334)
    have c_334n := nt_of_f c334
    refine Br.intro (fun c335 => ?_) (fun c335 => ?_)
    ·have e := e.trans (cond_t c335)
     have c_335n := nf_of_t c335
     first | exact hk _ | (exfalso; cases e; done) | (rw [← e]; exact hk _)
    ·have e := e.trans (cond_f c335)
     have c_335n := nt_of_f c335
     refine ⟨yd, ca.length, ae, aS_Scale, (o316.rdN (Nat.le_of_ble_eq_true rfl)).trans rfl, ?_⟩
     refine ⟨a119, (ca).length, e121, aS_Scale, (o322.rdN (Nat.le_of_ble_eq_true rfl)).trans rfl, ?_⟩
     refine T_fyz_i ⟨_, (i_aS_Weights.grow g314), ω0, fun a336 n337 e338 H_20 g340 r339 => ?_⟩
     have l341 := g340.1
     have g342 := g314.trans g340
     have l343 := g342.1
     have o344 := o316.grow g340
     have w345 := o344.lt
     have o346 := o318.grow g340
     have w347 := o346.lt
     have o348 := o320.grow g340
     have w349 := o348.lt
     have o350 := o322.grow g340
     have w351 := o350.lt
     have o352 := o324.grow g340
     have w353 := o352.lt
     have o354 := o326.grow g340
     have w355 := o354.lt
     have r356 := r328.grow g340
     have r357 := r329.grow g340
     have r358 := r330.grow g340
     have r359 := r331.grow g340
     have r360 := r332.grow g340
     have r361 := r333.grow g340
     obtain rfl := r339.isL.eqn
     have u362 := r339.up
     have u363 := r339.lo
     refine T_fwz_i ⟨_, _, r359.isL, r339.isL, ω0, ω0, fun  H_21 g365  => ?_⟩
     have l366 := g365.1
     have g367 := g342.trans g365
     have l368 := g367.1
     have o369 := o344.grow g365
     have w370 := o369.lt
     have o371 := o346.grow g365
     have w372 := o371.lt
     have o373 := o348.grow g365
     have w374 := o373.lt
     have o375 := o350.grow g365
     have w376 := o375.lt
     have o377 := o352.grow g365
     have w378 := o377.lt
     have o379 := o354.grow g365
     have w380 := o379.lt
     have r381 := r356.grow g365
     have r382 := r357.grow g365
     have r383 := r358.grow g365
     have r384 := r359.grow g365
     have r385 := r360.grow g365
     have r386 := r361.grow g365
     have r387 := r339.grow g365
     refine Br.intro (fun c388 => ?_) (fun c388 => ?_)
     ·have e := e.trans (cond_t c388)
      have c_388n := nf_of_t c388
      first | exact hk _ | (exfalso; cases e; done) | (rw [← e]; exact hk _)
     ·have e := e.trans (cond_f c388)
      have c_388n := nt_of_f c388
      refine ⟨aP_Wide, aP_High, de, da.length, fe, (o371.rdN (Nat.le_of_ble_eq_true rfl)).trans rfl, ?_⟩
      refine ⟨aP_Wide, aP_High, a174, (da).length, e176, (o377.rdN (Nat.le_of_ble_eq_true rfl)).trans rfl, ?_⟩
      refine T_flz_i ⟨_, (i_aP_Lights.grow g367), ω0, fun a389 n390 e391 H_22 g393 r392 => ?_⟩
      have l394 := g393.1
      have g395 := g367.trans g393
      have l396 := g395.1
      have o397 := o369.grow g393
      have w398 := o397.lt
      have o399 := o371.grow g393
      have w400 := o399.lt
      have o401 := o373.grow g393
      have w402 := o401.lt
      have o403 := o375.grow g393
      have w404 := o403.lt
      have o405 := o377.grow g393
      have w406 := o405.lt
      have o407 := o379.grow g393
      have w408 := o407.lt
      have r409 := r381.grow g393
      have r410 := r382.grow g393
      have r411 := r383.grow g393
      have r412 := r384.grow g393
      have r413 := r385.grow g393
      have r414 := r386.grow g393
      have r415 := r387.grow g393
      obtain rfl := r392.isL.eqn
      have u416 := r392.up
      have u417 := r392.lo
      refine T_fiz_i ⟨_, _, r413.isL, r392.isL, ω0, ω0, fun  H_23 g419  => ?_⟩
      have l420 := g419.1
      have g421 := g395.trans g419
      have l422 := g421.1
      have o423 := o397.grow g419
      have w424 := o423.lt
      have o425 := o399.grow g419
      have w426 := o425.lt
      have o427 := o401.grow g419
      have w428 := o427.lt
      have o429 := o403.grow g419
      have w430 := o429.lt
      have o431 := o405.grow g419
      have w432 := o431.lt
      have o433 := o407.grow g419
      have w434 := o433.lt
      have r435 := r409.grow g419
      have r436 := r410.grow g419
      have r437 := r411.grow g419
      have r438 := r412.grow g419
      have r439 := r413.grow g419
      have r440 := r414.grow g419
      have r441 := r415.grow g419
      have r442 := r392.grow g419
      refine Br.intro (fun c443 => ?_) (fun c443 => ?_)
      ·have e := e.trans (cond_t c443)
       have c_443n := nf_of_t c443
       first | exact hk _ | (exfalso; cases e; done) | (rw [← e]; exact hk _)
      ·have e := e.trans (cond_f c443)
       have c_443n := nt_of_f c443
       refine ⟨a119, (ca).length, e121, aS_Scale, (o429.rdN (Nat.le_of_ble_eq_true rfl)).trans rfl, ?_⟩
       refine T_fez_i ⟨_, _, r438, ω0, (fun H_24 k444 o445 => ?_)⟩
       have l446 := k444.1
       have g447 := g421.keepA (fun x hx => by have := u137 x hx; omega) k444
       have l448 := g447.1
       have o449 := o423.keepA (fun x hx => by have := u137 x hx; have := u136 x hx; omega) k444
       have w450 := o449.lt
       have o451 := o425.keepA (fun x hx => by have := u137 x hx; have := u136 x hx; omega) k444
       have w452 := o451.lt
       have o453 := o427.keepA (fun x hx => by have := u137 x hx; have := u136 x hx; omega) k444
       have w454 := o453.lt
       have o455 := o429.keepA (fun x hx => by have := u137 x hx; have := u136 x hx; omega) k444
       have w456 := o455.lt
       have o457 := o431.keepA (fun x hx => by have := u137 x hx; have := u136 x hx; omega) k444
       have w458 := o457.lt
       have o459 := o433.keepA (fun x hx => by have := u137 x hx; have := u136 x hx; omega) k444
       have w460 := o459.lt
       have r461 := r435.keepA (fun x y hx hy => by have := u137 x hx; have := u136 x hx; have := u54 y hy; have := u53 y hy; omega) k444
       have r462 := r436.keepA (fun x y hx hy => by have := u137 x hx; have := u136 x hx; have := u70 y hy; have := u69 y hy; omega) k444
       have r463 := r437.keepA (fun x y hx hy => by have := u137 x hx; have := u136 x hx; have := u88 y hy; have := u87 y hy; omega) k444
       have r464 := r439.keepA (fun x y hx hy => by have := u137 x hx; have := u136 x hx; have := u195 y hy; have := u194 y hy; omega) k444
       have r465 := r440.keepA (fun x y hx hy => by have := u137 x hx; have := u136 x hx; have := u263 y hy; have := u262 y hy; omega) k444
       have r466 := r441.keepA (fun x y hx hy => by have := u137 x hx; have := u136 x hx; have := u363 y hy; have := u362 y hy; omega) k444
       have r467 := r442.keepA (fun x y hx hy => by have := u137 x hx; have := u136 x hx; have := u417 y hy; have := u416 y hy; omega) k444
       refine ⟨aP_Wide, aP_High, a174, (da).length, e176, (o457.rdN (Nat.le_of_ble_eq_true rfl)).trans rfl, ?_⟩
       refine T_f9z_i ⟨_, _, r464, ω0, (fun H_25 k468 o469 => ?_)⟩
       have l470 := k468.1
       have g471 := g447.keepA (fun x hx => by have := u195 x hx; omega) k468
       have l472 := g471.1
       have o473 := o449.keepA (fun x hx => by have := u195 x hx; have := u194 x hx; omega) k468
       have w474 := o473.lt
       have o475 := o451.keepA (fun x hx => by have := u195 x hx; have := u194 x hx; omega) k468
       have w476 := o475.lt
       have o477 := o453.keepA (fun x hx => by have := u195 x hx; have := u194 x hx; omega) k468
       have w478 := o477.lt
       have o479 := o455.keepA (fun x hx => by have := u195 x hx; have := u194 x hx; omega) k468
       have w480 := o479.lt
       have o481 := o457.keepA (fun x hx => by have := u195 x hx; have := u194 x hx; omega) k468
       have w482 := o481.lt
       have o483 := o459.keepA (fun x hx => by have := u195 x hx; have := u194 x hx; omega) k468
       have w484 := o483.lt
       have r485 := r461.keepA (fun x y hx hy => by have := u195 x hx; have := u194 x hx; have := u54 y hy; have := u53 y hy; omega) k468
       have r486 := r462.keepA (fun x y hx hy => by have := u195 x hx; have := u194 x hx; have := u70 y hy; have := u69 y hy; omega) k468
       have r487 := r463.keepA (fun x y hx hy => by have := u195 x hx; have := u194 x hx; have := u88 y hy; have := u87 y hy; omega) k468
       have r488 := o445.keepA (fun x y hx hy => by have := u195 x hx; have := u194 x hx; have := u137 y hy; have := u136 y hy; omega) k468
       have r489 := r465.keepA (fun x y hx hy => by have := u195 x hx; have := u194 x hx; have := u263 y hy; have := u262 y hy; omega) k468
       have r490 := r466.keepA (fun x y hx hy => by have := u195 x hx; have := u194 x hx; have := u363 y hy; have := u362 y hy; omega) k468
       have r491 := r467.keepA (fun x y hx hy => by have := u195 x hx; have := u194 x hx; have := u417 y hy; have := u416 y hy; omega) k468
       refine Br.intro (fun c492 => ?_) (fun c492 => ?_)
       ·have e := e.trans (cond_t c492)
        have c_492' := of_decide_eq_true c492
        first | exact hk _ | (exfalso; cases e; done) | (rw [← e]; exact hk _)
       ·have e := e.trans (cond_f c492)
        have c_492' := of_decide_eq_false c492
        refine ⟨(p_ftz ca aS_Scale aP_Wide aP_High da).1, (p_ftz ca aS_Scale aP_Wide aP_High da).2.1, a238, ((p_ftz ca aS_Scale aP_Wide aP_High da).2.2.1).length, e240, (o483.rdN (Nat.le_of_ble_eq_true rfl)).trans rfl, ?_⟩
        refine ⟨(p_fzz ca aS_Scale aP_Wide aP_High da).1, (p_fzz ca aS_Scale aP_Wide aP_High da).2.1, a72, ((p_fzz ca aS_Scale aP_Wide aP_High da).2.2.1).length, e74, (o477.rdN (Nat.le_of_ble_eq_true rfl)).trans rfl, ?_⟩
        refine T_fiz_i ⟨_, _, r489.isL, r487.isL, ω0, ω0, fun  H_26 g493  => ?_⟩
        have l494 := g493.1
        have g495 := g471.trans g493
        have l496 := g495.1
        have o497 := o473.grow g493
        have w498 := o497.lt
        have o499 := o475.grow g493
        have w500 := o499.lt
        have o501 := o477.grow g493
        have w502 := o501.lt
        have o503 := o479.grow g493
        have w504 := o503.lt
        have o505 := o481.grow g493
        have w506 := o505.lt
        have o507 := o483.grow g493
        have w508 := o507.lt
        have r509 := r485.grow g493
        have r510 := r486.grow g493
        have r511 := r487.grow g493
        have r512 := r488.grow g493
        have r513 := o469.grow g493
        have r514 := r489.grow g493
        have r515 := r490.grow g493
        have r516 := r491.grow g493
        refine Br.intro (fun c517 => ?_) (fun c517 => ?_)
        ·have e := e.trans (cond_t c517)
         have c_517n := nf_of_t c517
         first | exact hk _ | (exfalso; cases e; done) | (rw [← e]; exact hk _)
        ·have e := e.trans (cond_f c517)
         have c_517n := nt_of_f c517
         refine Br.intro (fun c518 => ?_) (fun c518 => ?_)
         ·have e := e.trans (cond_t c518)
          have c_518n := nf_of_t c518
          first | exact hk _ | (exfalso; cases e; done) | (rw [← e]; exact hk _)
         ·have e := e.trans (cond_f c518)
          have c_518n := nt_of_f c518
          refine ⟨(p_ftz ca aS_Scale aP_Wide aP_High da).1, (p_ftz ca aS_Scale aP_Wide aP_High da).2.1, a238, ((p_ftz ca aS_Scale aP_Wide aP_High da).2.2.1).length, e240, (o507.rdN (Nat.le_of_ble_eq_true rfl)).trans rfl, ?_⟩
          refine T_f9z_i ⟨_, _, r514, ω0, (fun H_27 k519 o520 => ?_)⟩
          have l521 := k519.1
          have g522 := g495.keepA (fun x hx => by have := u263 x hx; omega) k519
          have l523 := g522.1
          have o524 := o497.keepA (fun x hx => by have := u263 x hx; have := u262 x hx; omega) k519
          have w525 := o524.lt
          have o526 := o499.keepA (fun x hx => by have := u263 x hx; have := u262 x hx; omega) k519
          have w527 := o526.lt
          have o528 := o501.keepA (fun x hx => by have := u263 x hx; have := u262 x hx; omega) k519
          have w529 := o528.lt
          have o530 := o503.keepA (fun x hx => by have := u263 x hx; have := u262 x hx; omega) k519
          have w531 := o530.lt
          have o532 := o505.keepA (fun x hx => by have := u263 x hx; have := u262 x hx; omega) k519
          have w533 := o532.lt
          have o534 := o507.keepA (fun x hx => by have := u263 x hx; have := u262 x hx; omega) k519
          have w535 := o534.lt
          have r536 := r509.keepA (fun x y hx hy => by have := u263 x hx; have := u262 x hx; have := u54 y hy; have := u53 y hy; omega) k519
          have r537 := r510.keepA (fun x y hx hy => by have := u263 x hx; have := u262 x hx; have := u70 y hy; have := u69 y hy; omega) k519
          have r538 := r511.keepA (fun x y hx hy => by have := u263 x hx; have := u262 x hx; have := u88 y hy; have := u87 y hy; omega) k519
          have r539 := r512.keepA (fun x y hx hy => by have := u263 x hx; have := u262 x hx; have := u137 y hy; have := u136 y hy; omega) k519
          have r540 := r513.keepA (fun x y hx hy => by have := u263 x hx; have := u262 x hx; have := u195 y hy; have := u194 y hy; omega) k519
          have r541 := r515.keepA (fun x y hx hy => by have := u263 x hx; have := u262 x hx; have := u363 y hy; have := u362 y hy; omega) k519
          have r542 := r516.keepA (fun x y hx hy => by have := u263 x hx; have := u262 x hx; have := u417 y hy; have := u416 y hy; omega) k519
          refine ⟨(p_ftz ca aS_Scale aP_Wide aP_High da).1, (p_ftz ca aS_Scale aP_Wide aP_High da).2.1, a238, ((p_ftz ca aS_Scale aP_Wide aP_High da).2.2.1).length, e240, (o534.rdN (Nat.le_of_ble_eq_true rfl)).trans rfl, ?_⟩
          refine T_f8z_i ⟨_, o520.isL, ω0, fun  H_28 g543  => ?_⟩
          have l544 := g543.1
          have g545 := g522.trans g543
          have l546 := g545.1
          have o547 := o524.grow g543
          have w548 := o547.lt
          have o549 := o526.grow g543
          have w550 := o549.lt
          have o551 := o528.grow g543
          have w552 := o551.lt
          have o553 := o530.grow g543
          have w554 := o553.lt
          have o555 := o532.grow g543
          have w556 := o555.lt
          have o557 := o534.grow g543
          have w558 := o557.lt
          have r559 := r536.grow g543
          have r560 := r537.grow g543
          have r561 := r538.grow g543
          have r562 := r539.grow g543
          have r563 := r540.grow g543
          have r564 := o520.grow g543
          have r565 := r541.grow g543
          have r566 := r542.grow g543
          refine Br.intro (fun c567 => ?_) (fun c567 => ?_)
          ·have e := e.trans (cond_t c567)
           have c_567' := of_decide_eq_true c567
           first | exact hk _ | (exfalso; cases e; done) | (rw [← e]; exact hk _)
          ·have e := e.trans (cond_f c567)
           have c_567' := of_decide_eq_false c567
           refine Br.intro (fun c568 => ?_) (fun c568 => ?_)
           ·have e := e.trans (cond_t c568)
            have c_568' := ine_t c568
            first | exact hk _ | (exfalso; cases e; done) | (rw [← e]; exact hk _)
           ·have e := e.trans (cond_f c568)
            have c_568' := ine_f c568
            refine ⟨aP_Wide, aP_High, de, da.length, fe, (o549.rdN (Nat.le_of_ble_eq_true rfl)).trans rfl, ?_⟩
            refine ⟨yd, ca.length, ae, aS_Scale, (o547.rdN (Nat.le_of_ble_eq_true rfl)).trans rfl, ?_⟩
            refine T_fyz_i ⟨_, (i_aS_Weights.grow g545), ω0, fun a569 n570 e571 H_29 g573 r572 => ?_⟩
            have l574 := g573.1
            have g575 := g545.trans g573
            have l576 := g575.1
            have o577 := o547.grow g573
            have w578 := o577.lt
            have o579 := o549.grow g573
            have w580 := o579.lt
            have o581 := o551.grow g573
            have w582 := o581.lt
            have o583 := o553.grow g573
            have w584 := o583.lt
            have o585 := o555.grow g573
            have w586 := o585.lt
            have o587 := o557.grow g573
            have w588 := o587.lt
            have r589 := r559.grow g573
            have r590 := r560.grow g573
            have r591 := r561.grow g573
            have r592 := r562.grow g573
            have r593 := r563.grow g573
            have r594 := r564.grow g573
            have r595 := r565.grow g573
            have r596 := r566.grow g573
            obtain rfl := r572.isL.eqn
            have u597 := r572.up
            have u598 := r572.lo
            refine T_flz_i ⟨_, (i_aP_Lights.grow g575), ω0, fun a600 n601 e602 H_30 g604 r603 => ?_⟩
            have l605 := g604.1
            have g606 := g575.trans g604
            have l607 := g606.1
            have o608 := o577.grow g604
            have w609 := o608.lt
            have o610 := o579.grow g604
            have w611 := o610.lt
            have o612 := o581.grow g604
            have w613 := o612.lt
            have o614 := o583.grow g604
            have w615 := o614.lt
            have o616 := o585.grow g604
            have w617 := o616.lt
            have o618 := o587.grow g604
            have w619 := o618.lt
            have r620 := r589.grow g604
            have r621 := r590.grow g604
            have r622 := r591.grow g604
            have r623 := r592.grow g604
            have r624 := r593.grow g604
            have r625 := r594.grow g604
            have r626 := r595.grow g604
            have r627 := r596.grow g604
            have r628 := r572.grow g604
            obtain rfl := r603.isL.eqn
            have u629 := r603.up
            have u630 := r603.lo
            refine T_ftz_i ⟨_, _, r628.isL, r603.isL, ω0, ω0, fun a632 n633 e634 H_31 g637 r635 => ?_⟩
            have z636 := ftz_len ca aS_Scale aP_Wide aP_High da
            have l638 := g637.1
            have g639 := g606.trans g637
            have l640 := g639.1
            have o641 := o608.grow g637
            have w642 := o641.lt
            have o643 := o610.grow g637
            have w644 := o643.lt
            have o645 := o612.grow g637
            have w646 := o645.lt
            have o647 := o614.grow g637
            have w648 := o647.lt
            have o649 := o616.grow g637
            have w650 := o649.lt
            have o651 := o618.grow g637
            have w652 := o651.lt
            have r653 := r620.grow g637
            have r654 := r621.grow g637
            have r655 := r622.grow g637
            have r656 := r623.grow g637
            have r657 := r624.grow g637
            have r658 := r625.grow g637
            have r659 := r626.grow g637
            have r660 := r627.grow g637
            have r661 := r628.grow g637
            have r662 := r603.grow g637
            obtain rfl := r635.isL.eqn
            have u663 := r635.up
            have u664 := r635.lo
            refine Al.intro (fun b666 H_32 hb_667 hl_668 g669 o670 => ?_)
            have l672 := g669.1
            have g673 := g639.trans g669
            have l674 := g673.1
            have o675 := o641.grow g669
            have w676 := o675.lt
            have o677 := o643.grow g669
            have w678 := o677.lt
            have o679 := o645.grow g669
            have w680 := o679.lt
            have o681 := o647.grow g669
            have w682 := o681.lt
            have o683 := o649.grow g669
            have w684 := o683.lt
            have o685 := o651.grow g669
            have w686 := o685.lt
            have r687 := r653.grow g669
            have r688 := r654.grow g669
            have r689 := r655.grow g669
            have r690 := r656.grow g669
            have r691 := r657.grow g669
            have r692 := r658.grow g669
            have r693 := r659.grow g669
            have r694 := r660.grow g669
            have r695 := r661.grow g669
            have r696 := r662.grow g669
            have r697 := r635.grow g669
            have w790 := o670.lt
            refine Lt.setN (n := 3) o670 (Nat.le_of_ble_eq_true rfl) rfl (fun H_33 hl_698 o700 k699 => ?_)
            have o700 : Own H_33 b666 [.int .i64 ((p_ftz ca aS_Scale aP_Wide aP_High da).1), .int .i64 ((p_ftz ca aS_Scale aP_Wide aP_High da).2.1), .slice a632 (((p_ftz ca aS_Scale aP_Wide aP_High da).2.2.1).length) e634] := o700
            have l701 := k699.1
            have g702 := g673.keep (b := b666) ω2 k699
            have l703 := g702.1
            have o704 := o675.keep ω2 k699
            have w705 := o704.lt
            have o706 := o677.keep ω2 k699
            have w707 := o706.lt
            have o708 := o679.keep ω2 k699
            have w709 := o708.lt
            have o710 := o681.keep ω2 k699
            have w711 := o710.lt
            have o712 := o683.keep ω2 k699
            have w713 := o712.lt
            have o714 := o685.keep ω2 k699
            have w715 := o714.lt
            have r716 := r687.keep u53 ω2 k699
            have r717 := r688.keep u69 ω2 k699
            have r718 := r689.keep u87 ω2 k699
            have r719 := r690.keep u136 ω2 k699
            have r720 := r691.keep u194 ω2 k699
            have r721 := r692.keep u262 ω2 k699
            have r722 := r693.keep u362 ω2 k699
            have r723 := r694.keep u416 ω2 k699
            have r724 := r695.keep u597 ω2 k699
            have r725 := r696.keep u629 ω2 k699
            have r726 := r697.keep u663 ω2 k699
            have w789 := o700.lt
            refine ⟨(p_ftz ca aS_Scale aP_Wide aP_High da).1, (p_ftz ca aS_Scale aP_Wide aP_High da).2.1, a632, ((p_ftz ca aS_Scale aP_Wide aP_High da).2.2.1).length, e634, (o700.rdN (Nat.le_of_ble_eq_true rfl)).trans rfl, ?_⟩
            refine ⟨(p_fzz ca aS_Scale aP_Wide aP_High da).1, (p_fzz ca aS_Scale aP_Wide aP_High da).2.1, a72, ((p_fzz ca aS_Scale aP_Wide aP_High da).2.2.1).length, e74, (o708.rdN (Nat.le_of_ble_eq_true rfl)).trans rfl, ?_⟩
            refine T_fiz_i ⟨_, _, r726.isL, r718.isL, ω0, ω0, fun  H_34 g727  => ?_⟩
            have l728 := g727.1
            have g729 := g702.trans g727
            have l730 := g729.1
            have o731 := o704.grow g727
            have w732 := o731.lt
            have o733 := o706.grow g727
            have w734 := o733.lt
            have o735 := o708.grow g727
            have w736 := o735.lt
            have o737 := o710.grow g727
            have w738 := o737.lt
            have o739 := o712.grow g727
            have w740 := o739.lt
            have o741 := o714.grow g727
            have w742 := o741.lt
            have o743 := o700.grow g727
            have w744 := o743.lt
            have r745 := r716.grow g727
            have r746 := r717.grow g727
            have r747 := r718.grow g727
            have r748 := r719.grow g727
            have r749 := r720.grow g727
            have r750 := r721.grow g727
            have r751 := r722.grow g727
            have r752 := r723.grow g727
            have r753 := r724.grow g727
            have r754 := r725.grow g727
            have r755 := r726.grow g727
            refine Br.intro (fun c756 => ?_) (fun c756 => ?_)
            ·have e := e.trans (cond_t c756)
             have c_756n := nf_of_t c756
             first | exact hk _ | (exfalso; cases e; done) | (rw [← e]; exact hk _)
            ·have e := e.trans (cond_f c756)
             have c_756n := nt_of_f c756
             refine Br.intro (fun c757 => ?_) (fun c757 => ?_)
             ·have e := e.trans (cond_t c757)
              have c_757n := nf_of_t c757
              first | exact hk _ | (exfalso; cases e; done) | (rw [← e]; exact hk _)
             ·have e := e.trans (cond_f c757)
              have c_757n := nt_of_f c757
              refine ⟨(p_ftz ca aS_Scale aP_Wide aP_High da).1, (p_ftz ca aS_Scale aP_Wide aP_High da).2.1, a238, ((p_ftz ca aS_Scale aP_Wide aP_High da).2.2.1).length, e240, (o741.rdN (Nat.le_of_ble_eq_true rfl)).trans rfl, ?_⟩
              refine T_f8z_i ⟨_, r750.isL, ω0, fun  H_35 g758  => ?_⟩
              have l759 := g758.1
              have g760 := g729.trans g758
              have l761 := g760.1
              have o762 := o731.grow g758
              have w763 := o762.lt
              have o764 := o733.grow g758
              have w765 := o764.lt
              have o766 := o735.grow g758
              have w767 := o766.lt
              have o768 := o737.grow g758
              have w769 := o768.lt
              have o770 := o739.grow g758
              have w771 := o770.lt
              have o772 := o741.grow g758
              have w773 := o772.lt
              have o774 := o743.grow g758
              have w775 := o774.lt
              have r776 := r745.grow g758
              have r777 := r746.grow g758
              have r778 := r747.grow g758
              have r779 := r748.grow g758
              have r780 := r749.grow g758
              have r781 := r750.grow g758
              have r782 := r751.grow g758
              have r783 := r752.grow g758
              have r784 := r753.grow g758
              have r785 := r754.grow g758
              have r786 := r755.grow g758
              refine Br.intro (fun c787 => ?_) (fun c787 => ?_)
              ·have e := e.trans (cond_t c787)
               have c_787' := of_decide_eq_true c787
               first | exact hk _ | (exfalso; cases e; done) | (rw [← e]; exact hk _)
              ·have e := e.trans (cond_f c787)
               have c_787' := of_decide_eq_false c787
               refine Br.intro (fun c788 => ?_) (fun c788 => ?_)
               ·have e := e.trans (cond_t c788)
                have c_788' := ine_t c788
                first | exact hk _ | (exfalso; cases e; done) | (rw [← e]; exact hk _)
               ·have e := e.trans (cond_f c788)
                have c_788' := ine_f c788
                first | exact hk _ | (exfalso; cases e; done) | (rw [← e]; exact hk _)
theorem laws_FnExactDropRows_ok : FnOkX Try.prog (MainCls Try.prog) 5 S_laws_FnExactDropRows := by
 refine FnOkX.body (hLt := fun _ => lateMain) mix_ok E_laws_FnExactDropRows_ok Try.func5 rfl ω10 ω10 ?_ ?_ ?_ ?_ ?_
 ·intro args H K K' h hk
  simp only [S_laws_FnExactDropRows] at *
  unfold F_laws_FnExactDropRows at *
  split at hk
  ·obtain ⟨ca, da, h_0, h_1, h_2, h_3, h_4, h_5, h_6, h_7, h_8, k⟩ := hk
   exact ⟨ca, da, h_0, h_1, h_2, h_3, h_4, h_5, h_6, h_7, h_8, (fun H' => h _ _ (k H'))⟩
  ·exact hk.elim
 ·intro hq; cases hq
 ·intro args H K hk
  simp only [S_laws_FnExactDropRows] at *
  unfold F_laws_FnExactDropRows at *
  split at hk
  ·obtain ⟨ca, da, h_0, h_1, h_2, h_3, h_4, h_5, h_6, h_7, h_8, k⟩ := hk
   exact ⟨_, _, k []⟩
  ·exact hk.elim
 ·intro hq; cases hq
 ·have mm := @laws_FnExactDropRows_main
  have ml := fun (args : List Value) (H : AHeap) (K : Value → AHeap → Prop) => bodyL_body (P := Try.prog) (env := E_laws_FnExactDropRows ) (fn := Try.f5) (args := args) (H := H) (K := K) E_laws_FnExactDropRows_ok 
  revert mm ml
  generalize bodyK Try.prog E_laws_FnExactDropRows Try.f5 = Q
  generalize bodyL Try.prog E_laws_FnExactDropRows Try.f5 = QL
  intro mm ml args H K hk
  simp only [S_laws_FnExactDropRows] at *
  unfold F_laws_FnExactDropRows at *
  split at hk
  ·exact ml _ H K (mm _ _ _ _ _ _ _ _ _ H K hk)
  ·exact hk.elim
end Go.Proofs.Ythheoefadijhdaa.Ai
