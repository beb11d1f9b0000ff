/- What functions of the program come to on the abstract machine, and that they do so; printed by a program of mine around proofs of mine. -/
import Derived.Test.YthheoefadijhdaaFFnExactDropRows0
set_option linter.unusedVariables false
set_option linter.unusedSimpArgs false
set_option linter.defProp false
set_option maxRecDepth 100000
set_option maxHeartbeats 1000000
namespace Go.Proofs.Ythheoefadijhdaa.Ai
open Go
attribute [local irreducible] bodyK bodyL

def p_f7z (ba : LN) (s_Scale : Nat) : Bool := (bif (p_f18z (ba.length : Int) (1 : Int) (8 : Int)) then (bif (p_fhz ([ba])) then (p_f16z s_Scale) else false) else false)
def p_f7z_eq := @p_f7z.eq_1
def T_f7z (oa : OA) (lb : Nat) (va : Nat) (s_Scale : Nat) (H : AHeap) (K : Bool → AHeap → Prop) : Prop := ∃ (ba : LN), IsL fF H oa lb ba ∧ ba.length < 1073741824 ∧ ((∀ H' : AHeap, Grow H H' → K (p_f7z ba s_Scale) H'))
theorem T_f7z_i {oa : OA} {lb : Nat} {va : Nat} {s_Scale : Nat} {H : AHeap} {K : Bool → AHeap → Prop} (h : ∃ (ba : LN), IsL fF H oa lb ba ∧ ba.length < 1073741824 ∧ ((∀ H' : AHeap, Grow H H' → K (p_f7z ba s_Scale) H'))) : T_f7z oa lb va s_Scale H K := h

/-! f7z: function 26 -/
def E_f7z : Env := envOf [(28, S_f18z), (42, S_fhz), (43, S_f16z)]
def F_f7z : List Value → AHeap → (Value → AHeap → Prop) → Prop
 | [.agg ⟨[.slice oa lb va, .float .f32 s_Scale]⟩], H, K => T_f7z oa lb va s_Scale H fun (r1 : Bool) (H' : AHeap) => K (.bool r1) H'
 | _, _, _ => False
def S_f7z : FSpec := { F := F_f7z, quiet := false, tame := true }
theorem f7z_vc (oa : OA) (lb : Nat) (va : Nat) (s_Scale : Nat) (H : AHeap) (K : Value → AHeap → Prop) : bodyL Try.prog E_f7z Try.f26 [.agg #[.slice oa lb va, .float .f32 s_Scale]] H K =
 (Al [.slice oa lb va, .float .f32 s_Scale] H fun b1 H1 => ∃ ze : OA, ∃ ue : Nat, ∃ af : Nat,  rdC H1 b1 0 = some (.slice ze ue af) ∧ T_f18z (ue : Int) 1 8 H1 fun (r1 : Bool) (H2 : AHeap) => Br r1 (∃ ah : OA, ∃ yg : Nat, ∃ bh : Nat,  rdC H2 b1 0 = some (.slice ah yg bh) ∧ Al [.slice ah yg bh] H2 fun b2 H3 => T_fhz (some ⟨b2, 0, none⟩) 1 1 H3 fun (r2 : Bool) (H4 : AHeap) => Br r2 (∃ x3 : Nat,  rdC H4 b1 1 = some (.float .f32 x3) ∧ T_f16z x3 H4 fun (r3 : Bool) (H5 : AHeap) => K (.bool r3) H5) (K (.bool false) H4)) (K (.bool false) H2)) := by kernel_rfl
theorem E_f7z_ok : ∀ g, FnOk Try.prog g (E_f7z g) := FnOk.envOf (by
 intro x hx
 simp only [List.mem_cons, List.not_mem_nil, or_false] at hx
 rcases hx with rfl | rfl | rfl
 ·exact f18z_ok
 ·exact fhz_ok
 ·exact f16z_ok)
theorem ω8 {P : Prop} (h : P := by first | assumption | exact or_right (by assumption) (by omega) | exact or_right (by assumption : _ ∧ (_ ∨ _)).2 (by omega) | (intro y hy; simp only [List.mem_cons, List.not_mem_nil, or_false] at hy; first | omega | (subst hy; omega) | (rcases hy with rfl | rfl <;> omega) | (rcases hy with rfl | rfl | rfl <;> omega))) : P := h
theorem f7z_main (oa : OA) (lb : Nat) (va : Nat) (s_Scale : Nat) (H : AHeap) (K : Value → AHeap → Prop) (h : T_f7z oa lb va s_Scale H fun (r1 : Bool) (H' : AHeap) => K (.bool r1) H') : bodyL Try.prog E_f7z Try.f26 [.agg #[.slice oa lb va, .float .f32 s_Scale]] H K := by
 rw [f7z_vc]
 obtain ⟨ba, i_s_Weights, bd_25, hk⟩ := h
 obtain rfl := i_s_Weights.eqn
 have e : (p_f7z ba s_Scale) = _ := rfl
 have e := e.trans (p_f7z_eq ba s_Scale)
 have g0 := Grow.refl H
 refine Al.intro (fun b_1 H_1 hb_2 hl_3 g_4 o_5 => ?_)
 have l_7 := g_4.1
 have g_8 := g0.trans g_4
 have l_9 := g_8.1
 have w24 := o_5.lt
 refine ⟨oa, ba.length, va, (o_5.rdC _).trans rfl, ?_⟩
 refine T_f18z_i ?_
 refine Br.intro (fun c_10 => ?_) (fun c_10 => ?_)
 ·have e := e.trans (cond_t c_10)
  have c_10' := f18z_t c_10
  refine ⟨oa, ba.length, va, (o_5.rdC _).trans rfl, ?_⟩
  refine Al.intro (fun b_11 H_2 hb_12 hl_13 g_14 o15 => ?_)
  have l_17 := g_14.1
  have g18 := g_8.trans g_14
  have l19 := g18.1
  have o20 := o_5.grow g_14
  have w21 := o20.lt
  have w23 := o15.lt
  refine T_fhz_i ⟨[ba], ⟨_, o15.rdAll rfl, LLc.cons (i_s_Weights.grow g18) (LLc.nil _ _)⟩, ω0, ω8, ?_⟩
  refine Br.intro (fun c_22 => ?_) (fun c_22 => ?_)
  ·have e := e.trans (cond_t c_22)
   refine ⟨s_Scale, (o20.rdC _).trans rfl, ?_⟩
   refine T_f16z_i ?_
   rw [e] at hk
   exact hk  H_2 g18 
  ·have e := e.trans (cond_f c_22)
   rw [e] at hk
   exact hk  H_2 g18 
 ·have e := e.trans (cond_f c_10)
  rw [e] at hk
  exact hk  H_1 g_8 
theorem f7z_ok : FnOk Try.prog 26 S_f7z := by
 refine FnOk.body mix_ok E_f7z_ok Try.func26 rfl ω10 ω10 ?_ ?_ ?_ ?_ ?_
 ·intro args H K K' h hk
  simp only [S_f7z] at *
  unfold F_f7z at *
  split at hk
  ·obtain ⟨ba, i_s_Weights, bd_25, k⟩ := hk
   exact ⟨ba, i_s_Weights, bd_25, (fun  H' gg  => h _ _ (k  H' gg ))⟩
  ·exact hk.elim
 ·intro hq; cases hq
 ·intro args H K hk
  simp only [S_f7z] at *
  unfold F_f7z at *
  split at hk
  ·obtain ⟨ba, i_s_Weights, bd_25, k⟩ := hk
   exact ⟨_, _, k H (Grow.refl H)⟩
  ·exact hk.elim
 ·intro _ args H K hk
  simp only [S_f7z] at *
  unfold F_f7z at *
  split at hk
  ·obtain ⟨ba, i_s_Weights, bd_25, k⟩ := hk
   exact ⟨ba, i_s_Weights, bd_25, (fun  H' gg  => ⟨gg, k  H' gg ⟩)⟩
  ·exact hk.elim
 ·have mm := @f7z_main
  have ml := fun (args : List Value) (H : AHeap) (K : Value → AHeap → Prop) => bodyL_body (P := Try.prog) (env := E_f7z ) (fn := Try.f26) (args := args) (H := H) (K := K) E_f7z_ok 
  revert mm ml
  generalize bodyK Try.prog E_f7z Try.f26 = Q
  generalize bodyL Try.prog E_f7z Try.f26 = QL
  intro mm ml args H K hk
  simp only [S_f7z] at *
  unfold F_f7z at *
  split at hk
  ·exact ml _ H K (mm _ _ _ _ H K hk)
  ·exact hk.elim

def p_f3z (p_Wide : Int) (p_High : Int) (ia : LN) : Bool := ((bif (p_f18z p_Wide (1 : Int) (16 : Int)) then (bif (p_f18z p_High (1 : Int) (16 : Int)) then (bif ((ia.length : Int) : Int) == IntKind.wrap .i64 (p_Wide * p_High) then (p_fhz ([ia])) else false) else false) else false))
def p_f3z_eq := @p_f3z.eq_1
def T_f3z (p_Wide : Int) (p_High : Int) (p_Lights_a : OA) (p_Lights_n : Nat) (p_Lights_e : Nat) (H : AHeap) (K : Bool → AHeap → Prop) : Prop := ∃ (ia : LN), IsL fF H p_Lights_a p_Lights_n ia ∧ ia.length < 1073741824 ∧ ((∀ H' : AHeap, Grow H H' → K (p_f3z p_Wide p_High ia) H'))
theorem T_f3z_i {p_Wide : Int} {p_High : Int} {p_Lights_a : OA} {p_Lights_n : Nat} {p_Lights_e : Nat} {H : AHeap} {K : Bool → AHeap → Prop} (h : ∃ (ia : LN), IsL fF H p_Lights_a p_Lights_n ia ∧ ia.length < 1073741824 ∧ ((∀ H' : AHeap, Grow H H' → K (p_f3z p_Wide p_High ia) H'))) : T_f3z p_Wide p_High p_Lights_a p_Lights_n p_Lights_e H K := h
theorem f3z_t {w h : Int} {l : LN} (hh : p_f3z w h l = true) : 1 ≤ w ∧ w ≤ 16 ∧ 1 ≤ h ∧ h ≤ 16 ∧ (l.length : Int) = w * h ∧ (l.length : Int) ≤ 256 ∧ 1 ≤ (l.length : Int) := by
 rw [p_f3z_eq] at hh
 simp only [Bool.cond_false_right, Bool.and_eq_true] at hh
 obtain ⟨a, b, c, -⟩ := hh
 have a := f18z_t a
 have b := f18z_t b
 have h1 : w * h ≤ 16 * 16 := Int.mul_le_mul ω2 ω2 ω2 ω22
 have h2 : 1 * 1 ≤ w * h := Int.mul_le_mul ω2 ω2 ω2 ω2
 have c := eq_of_beq c
 rw [wrap64 ω2 ω2] at c
 exact ⟨a.1, a.2, b.1, b.2, c, by omega, by omega⟩
/-! f3z: function 27 -/
def E_f3z : Env := envOf [(28, S_f18z), (42, S_fhz)]
def F_f3z : List Value → AHeap → (Value → AHeap → Prop) → Prop
 | [.agg ⟨[.int .i64 p_Wide, .int .i64 p_High, .slice p_Lights_a p_Lights_n p_Lights_e]⟩], H, K => T_f3z p_Wide p_High p_Lights_a p_Lights_n p_Lights_e H fun (r1 : Bool) (H' : AHeap) => K (.bool r1) H'
 | _, _, _ => False
def S_f3z : FSpec := { F := F_f3z, quiet := false, tame := true }
theorem f3z_vc (p_Wide : Int) (p_High : Int) (p_Lights_a : OA) (p_Lights_n : Nat) (p_Lights_e : Nat) (H : AHeap) (K : Value → AHeap → Prop) : bodyL Try.prog E_f3z Try.f27 [.agg #[.int .i64 p_Wide, .int .i64 p_High, .slice p_Lights_a p_Lights_n p_Lights_e]] H K =
 (Al [.int .i64 p_Wide, .int .i64 p_High, .slice p_Lights_a p_Lights_n p_Lights_e] H fun b1 H1 => ∃ x1 : Int,  rdC H1 b1 0 = some (.int .i64 x1) ∧ T_f18z x1 1 16 H1 fun (r1 : Bool) (H2 : AHeap) => Br r1 (∃ x2 : Int,  rdC H2 b1 1 = some (.int .i64 x2) ∧ T_f18z x2 1 16 H2 fun (r2 : Bool) (H3 : AHeap) => Br r2 (∃ tg : OA, ∃ og : Nat, ∃ ug : Nat,  rdC H3 b1 2 = some (.slice tg og ug) ∧ ∃ x4 : Int,  rdC H3 b1 0 = some (.int .i64 x4) ∧ ∃ x5 : Int,  rdC H3 b1 1 = some (.int .i64 x5) ∧ Br (((og : Int) : Int) == IntKind.wrap .i64 (x4 * x5)) (∃ gf : OA, ∃ ff : Nat, ∃ jf : Nat,  rdC H3 b1 2 = some (.slice gf ff jf) ∧ Al [.slice gf ff jf] H3 fun b2 H4 => T_fhz (some ⟨b2, 0, none⟩) 1 1 H4 fun (r3 : Bool) (H5 : AHeap) => K (.bool r3) H5) (K (.bool false) H3)) (K (.bool false) H3)) (K (.bool false) H2)) := by kernel_rfl
theorem E_f3z_ok : ∀ g, FnOk Try.prog g (E_f3z g) := FnOk.envOf (by
 intro x hx
 simp only [List.mem_cons, List.not_mem_nil, or_false] at hx
 rcases hx with rfl | rfl
 ·exact f18z_ok
 ·exact fhz_ok)
theorem f3z_main (p_Wide : Int) (p_High : Int) (p_Lights_a : OA) (p_Lights_n : Nat) (p_Lights_e : Nat) (H : AHeap) (K : Value → AHeap → Prop) (h : T_f3z p_Wide p_High p_Lights_a p_Lights_n p_Lights_e H fun (r1 : Bool) (H' : AHeap) => K (.bool r1) H') : bodyL Try.prog E_f3z Try.f27 [.agg #[.int .i64 p_Wide, .int .i64 p_High, .slice p_Lights_a p_Lights_n p_Lights_e]] H K := by
 rw [f3z_vc]
 obtain ⟨ia, i_p_Lights, bd_26, hk⟩ := h
 obtain rfl := i_p_Lights.eqn
 have e : (p_f3z p_Wide p_High ia) = _ := rfl
 have e := e.trans (p_f3z_eq p_Wide p_High ia)
 have g0 := Grow.refl H
 refine Al.intro (fun b_1 H_1 hb_2 hl_3 g_4 o_5 => ?_)
 have l_7 := g_4.1
 have g_8 := g0.trans g_4
 have l_9 := g_8.1
 have w25 := o_5.lt
 refine ⟨p_Wide, (o_5.rdC _).trans rfl, ?_⟩
 refine T_f18z_i ?_
 refine Br.intro (fun c_10 => ?_) (fun c_10 => ?_)
 ·have e := e.trans (cond_t c_10)
  have c_10' := f18z_t c_10
  refine ⟨p_High, (o_5.rdC _).trans rfl, ?_⟩
  refine T_f18z_i ?_
  refine Br.intro (fun c_11 => ?_) (fun c_11 => ?_)
  ·have e := e.trans (cond_t c_11)
   have c_11' := f18z_t c_11
   refine ⟨p_Lights_a, ia.length, p_Lights_e, (o_5.rdC _).trans rfl, ?_⟩
   refine ⟨p_Wide, (o_5.rdC _).trans rfl, ?_⟩
   refine ⟨p_High, (o_5.rdC _).trans rfl, ?_⟩
   refine Br.intro (fun c_12 => ?_) (fun c_12 => ?_)
   ·have e := e.trans (cond_t c_12)
    have c_12' := ieq_t c_12
    refine ⟨p_Lights_a, ia.length, p_Lights_e, (o_5.rdC _).trans rfl, ?_⟩
    refine Al.intro (fun b_13 H_2 hb_14 hl_15 g16 o_17 => ?_)
    have l19 := g16.1
    have g20 := g_8.trans g16
    have l21 := g20.1
    have o22 := o_5.grow g16
    have w23 := o22.lt
    have w24 := o_17.lt
    refine T_fhz_i ⟨[ia], ⟨_, o_17.rdAll rfl, LLc.cons (i_p_Lights.grow g20) (LLc.nil _ _)⟩, ω0, ω8, ?_⟩
    rw [e] at hk
    exact hk  H_2 g20 
   ·have e := e.trans (cond_f c_12)
    have c_12' := ieq_f c_12
    rw [e] at hk
    exact hk  H_1 g_8 
  ·have e := e.trans (cond_f c_11)
   rw [e] at hk
   exact hk  H_1 g_8 
 ·have e := e.trans (cond_f c_10)
  rw [e] at hk
  exact hk  H_1 g_8 
theorem f3z_ok : FnOk Try.prog 27 S_f3z := by
 refine FnOk.body mix_ok E_f3z_ok Try.func27 rfl ω10 ω10 ?_ ?_ ?_ ?_ ?_
 ·intro args H K K' h hk
  simp only [S_f3z] at *
  unfold F_f3z at *
  split at hk
  ·obtain ⟨ia, i_p_Lights, bd_26, k⟩ := hk
   exact ⟨ia, i_p_Lights, bd_26, (fun  H' gg  => h _ _ (k  H' gg ))⟩
  ·exact hk.elim
 ·intro hq; cases hq
 ·intro args H K hk
  simp only [S_f3z] at *
  unfold F_f3z at *
  split at hk
  ·obtain ⟨ia, i_p_Lights, bd_26, k⟩ := hk
   exact ⟨_, _, k H (Grow.refl H)⟩
  ·exact hk.elim
 ·intro _ args H K hk
  simp only [S_f3z] at *
  unfold F_f3z at *
  split at hk
  ·obtain ⟨ia, i_p_Lights, bd_26, k⟩ := hk
   exact ⟨ia, i_p_Lights, bd_26, (fun  H' gg  => ⟨gg, k  H' gg ⟩)⟩
  ·exact hk.elim
 ·have mm := @f3z_main
  have ml := fun (args : List Value) (H : AHeap) (K : Value → AHeap → Prop) => bodyL_body (P := Try.prog) (env := E_f3z ) (fn := Try.f27) (args := args) (H := H) (K := K) E_f3z_ok 
  revert mm ml
  generalize bodyK Try.prog E_f3z Try.f27 = Q
  generalize bodyL Try.prog E_f3z Try.f27 = QL
  intro mm ml args H K hk
  simp only [S_f3z] at *
  unfold F_f3z at *
  split at hk
  ·exact ml _ H K (mm _ _ _ _ _ H K hk)
  ·exact hk.elim

def p_f15z (db : LN) : LN := (([] : LN) ++ db)
def p_f15z_eq := @p_f15z.eq_1
def T_f15z (wb : OA) (qb : Nat) (dc : Nat) (H : AHeap) (K : OA → Nat → Nat → AHeap → Prop) : Prop := ∃ (db : LN), IsL fF H wb qb db ∧ db.length < 1073741824 ∧ ((∀ (cd : OA) (ld jd : Nat), ∀ H' : AHeap, Grow H H' → OwnS fF H' H.length cd ld jd db → K cd ld jd H'))
theorem T_f15z_i {wb : OA} {qb : Nat} {dc : Nat} {H : AHeap} {K : OA → Nat → Nat → AHeap → Prop} (h : ∃ (db : LN), IsL fF H wb qb db ∧ db.length < 1073741824 ∧ ((∀ (cd : OA) (ld jd : Nat), ∀ H' : AHeap, Grow H H' → OwnS fF H' H.length cd ld jd db → K cd ld jd H'))) : T_f15z wb qb dc H K := h
theorem f15z_id (l : LN) : p_f15z l = l := by
 rw [p_f15z_eq]; rfl
/-! f15z: function 52 -/
def E_f15z : Env := envOf []
def F_f15z : List Value → AHeap → (Value → AHeap → Prop) → Prop
 | [.slice wb qb dc], H, K => T_f15z wb qb dc H fun (cd : OA) (ld : Nat) (jd : Nat) (H' : AHeap) => K (.slice cd ld jd) H'
 | _, _, _ => False
def S_f15z : FSpec := { F := F_f15z, quiet := false, tame := true }
theorem f15z_vc (wb : OA) (qb : Nat) (dc : Nat) (H : AHeap) (K : Value → AHeap → Prop) : bodyL Try.prog E_f15z Try.f52 [.slice wb qb dc] H K =
 (Al [] H fun b1 H1 => ∃ o1 w1 : List Value, ownB H1 (some ⟨b1, 0, none⟩) 0 1 1 = some o1 ∧ rdS H1 wb (qb * 1) = some w1 ∧ ((some ⟨b1, 0, none⟩ : OA) = none → 0 < (qb : Nat)) ∧ (0 : Nat) + qb < most ∧ Ap H1 (killB H1 (some ⟨b1, 0, none⟩) ++ [some ⟨o1 ++ w1, true⟩]) fun b2 H2 => K (.slice (some ⟨b2, 0, none⟩) (0 + qb) 1) H2) := by kernel_rfl
theorem E_f15z_ok : ∀ g, FnOk Try.prog g (E_f15z g) := FnOk.envOf (by
 intro x hx; cases hx)
theorem f15z_main (wb : OA) (qb : Nat) (dc : Nat) (H : AHeap) (K : Value → AHeap → Prop) (h : T_f15z wb qb dc H fun (cd : OA) (ld : Nat) (jd : Nat) (H' : AHeap) => K (.slice cd ld jd) H') : bodyL Try.prog E_f15z Try.f52 [.slice wb qb dc] H K := by
 rw [f15z_vc]
 obtain ⟨db, i_list, bd_21, hk⟩ := h
 have hk : (∀ (cd : OA) (ld jd : Nat), ∀ H' : AHeap, Grow H H' → OwnS fF H' H.length cd ld jd (p_f15z db) → (fun (cd : OA) (ld : Nat) (jd : Nat) (H' : AHeap) => K (.slice cd ld jd) H') cd ld jd H') := by rw [f15z_id db]; exact hk
 obtain rfl := i_list.eqn
 have e : (p_f15z db) = _ := rfl
 have e := e.trans (p_f15z_eq db)
 have g0 := Grow.refl H
 refine Al.intro (fun b_1 H_1 hb_2 hl_3 g_4 o_5 => ?_)
 have o_5 : Own H_1 b_1 ((([] : LN)).map fF) := o_5
 have l_7 := g_4.1
 have g_8 := g0.trans g_4
 have l_9 := g_8.1
 have w20 := o_5.lt
 refine ⟨_, _, o_5.ownB ω4 rfl, (isl_rdS (i_list.grow g_8)), (fun h => by cases h), ω19, ?_⟩
 refine Ap.app o_5 rfl rfl (fun b_14 H_2 q_18 hl_10 o11 k_12 => ?_)
 have o11 := map_snoc o11
 have l_15 := k_12.1
 have g16 := g_8.keep (b := b_1) ω2 k_12
 have l_17 := g16.1
 have w19 := o11.lt
 rw [e] at hk
 exact hk _ _ _ H_2 g16 (o11.ownS ω5 ω2)
theorem f15z_ok : FnOk Try.prog 52 S_f15z := by
 refine FnOk.body mix_ok E_f15z_ok Try.func52 rfl ω10 ω10 ?_ ?_ ?_ ?_ ?_
 ·intro args H K K' h hk
  simp only [S_f15z] at *
  unfold F_f15z at *
  split at hk
  ·obtain ⟨db, i_list, bd_21, k⟩ := hk
   exact ⟨db, i_list, bd_21, (fun cd ld jd H' gg ow0 => h _ _ (k cd ld jd H' gg ow0))⟩
  ·exact hk.elim
 ·intro hq; cases hq
 ·intro args H K hk
  simp only [S_f15z] at *
  unfold F_f15z at *
  split at hk
  ·obtain ⟨db, i_list, bd_21, k⟩ := hk
   exact liveS fun a n e H1 g o => ⟨_, _, k a n e H1 g o⟩
  ·exact hk.elim
 ·intro _ args H K hk
  simp only [S_f15z] at *
  unfold F_f15z at *
  split at hk
  ·obtain ⟨db, i_list, bd_21, k⟩ := hk
   exact ⟨db, i_list, bd_21, (fun cd ld jd H' gg ow0 => ⟨gg, k cd ld jd H' gg ow0⟩)⟩
  ·exact hk.elim
 ·have mm := @f15z_main
  have ml := fun (args : List Value) (H : AHeap) (K : Value → AHeap → Prop) => bodyL_body (P := Try.prog) (env := E_f15z ) (fn := Try.f52) (args := args) (H := H) (K := K) E_f15z_ok 
  revert mm ml
  generalize bodyK Try.prog E_f15z Try.f52 = Q
  generalize bodyL Try.prog E_f15z Try.f52 = QL
  intro mm ml args H K hk
  simp only [S_f15z] at *
  unfold F_f15z at *
  split at hk
  ·exact ml _ H K (mm _ _ _ H K hk)
  ·exact hk.elim

def p_f1z (na : LN) (j : Int) : Nat × Nat := (((na).getD (j : Int).toNat 0), ((na).getD ((if (((na.length : Int) - 1) : Int) < (j + 1) then ((na.length : Int) - 1) else (j + 1)) : Int).toNat 0))
def p_f1z_eq := @p_f1z.eq_1
def T_f1z (bb : OA) (ua : Nat) (nb : Nat) (j : Int) (H : AHeap) (K : Nat → Nat → AHeap → Prop) : Prop := ∃ (na : LN), IsL fF H bb ua na ∧ na.length < 1073741824 ∧ 0 ≤ j ∧ j < na.length ∧ K ((p_f1z na j).1) ((p_f1z na j).2) H
theorem T_f1z_i {bb : OA} {ua : Nat} {nb : Nat} {j : Int} {H : AHeap} {K : Nat → Nat → AHeap → Prop} (h : ∃ (na : LN), IsL fF H bb ua na ∧ na.length < 1073741824 ∧ 0 ≤ j ∧ j < na.length ∧ K ((p_f1z na j).1) ((p_f1z na j).2) H) : T_f1z bb ua nb j H K := h

/-! f1z: function 75 -/
def E_f1z : Env := envOf []
def F_f1z : List Value → AHeap → (Value → AHeap → Prop) → Prop
 | [.slice bb ua nb, .int .i64 j], H, K => T_f1z bb ua nb j H fun (r1 : Nat) (r2 : Nat) (H' : AHeap) => K (.tuple #[.float .f32 r1, .float .f32 r2]) H'
 | _, _, _ => False
def S_f1z : FSpec := { F := F_f1z, quiet := true, tame := false }
theorem f1z_vc (bb : OA) (ua : Nat) (nb : Nat) (j : Int) (H : AHeap) (K : Value → AHeap → Prop) : bodyL Try.prog E_f1z Try.f75 [.slice bb ua nb, .int .i64 j] H K =
 ((0 : Int) ≤ j ∧ j < (ua : Int) ∧ ∃ b1 f1, (bb : OA) = some ⟨b1, f1, none⟩ ∧ ∃ x1 : Nat,  rdC H b1 (f1 + (j : Int).toNat * 1) = some (.float .f32 x1) ∧ (0 : Int) ≤ (if (IntKind.wrap .i64 ((ua : Int) - 1) : Int) < IntKind.wrap .i64 (j + 1) then IntKind.wrap .i64 ((ua : Int) - 1) else IntKind.wrap .i64 (j + 1)) ∧ (if (IntKind.wrap .i64 ((ua : Int) - 1) : Int) < IntKind.wrap .i64 (j + 1) then IntKind.wrap .i64 ((ua : Int) - 1) else IntKind.wrap .i64 (j + 1)) < (ua : Int) ∧ ∃ b2 f2, (bb : OA) = some ⟨b2, f2, none⟩ ∧ ∃ x2 : Nat,  rdC H b2 (f2 + ((if (IntKind.wrap .i64 ((ua : Int) - 1) : Int) < IntKind.wrap .i64 (j + 1) then IntKind.wrap .i64 ((ua : Int) - 1) else IntKind.wrap .i64 (j + 1)) : Int).toNat * 1) = some (.float .f32 x2) ∧ K (.tuple #[.float .f32 x1, .float .f32 x2]) H) := by kernel_rfl
theorem E_f1z_ok : ∀ g, FnOk Try.prog g (E_f1z g) := FnOk.envOf (by
 intro x hx; cases hx)
theorem f1z_main (bb : OA) (ua : Nat) (nb : Nat) (j : Int) (H : AHeap) (K : Value → AHeap → Prop) (h : T_f1z bb ua nb j H fun (r1 : Nat) (r2 : Nat) (H' : AHeap) => K (.tuple #[.float .f32 r1, .float .f32 r2]) H') : bodyL Try.prog E_f1z Try.f75 [.slice bb ua nb, .int .i64 j] H K := by
 rw [f1z_vc]
 obtain ⟨na, i_evens, bd_7, pr0, pr1, hk⟩ := h
 obtain rfl := i_evens.eqn
 have e : (p_f1z na j) = _ := rfl
 have e := e.trans (p_f1z_eq na j)
 have g0 := Grow.refl H
 obtain ⟨b_1, f_2, q_3⟩ := ((i_evens.grow g0)).pos ω0
 refine ⟨by omega, by omega, b_1, f_2, q_3, ?_⟩
 refine ⟨((na).getD (j : Int).toNat 0), (i_evens).rd g0 q_3 ω2 _, ?_⟩
 rw [show IntKind.wrap .i64 (j + 1) = (j + 1) from wrap64 ω2 ω2]
 rw [show IntKind.wrap .i64 ((na.length : Int) - 1) = ((na.length : Int) - 1) from wrap64 ω2 ω2]
 obtain ⟨b_4, f_5, q_6⟩ := ((i_evens.grow g0)).pos ω0
 refine ⟨by omega, by omega, b_4, f_5, q_6, ?_⟩
 refine ⟨((na).getD ((if (((na.length : Int) - 1) : Int) < (j + 1) then ((na.length : Int) - 1) else (j + 1)) : Int).toNat 0), (i_evens).rd g0 q_6 ω2 _, ?_⟩
 rw [e] at hk
 exact hk
theorem f1z_ok : FnOk Try.prog 75 S_f1z := by
 refine FnOk.body mix_ok E_f1z_ok Try.func75 rfl ω10 ω10 ?_ ?_ ?_ ?_ ?_
 ·intro args H K K' h hk
  simp only [S_f1z] at *
  unfold F_f1z at *
  split at hk
  ·obtain ⟨na, i_evens, bd_7, pr0, pr1, k⟩ := hk
   exact ⟨na, i_evens, bd_7, pr0, pr1, h _ _ k⟩
  ·exact hk.elim
 ·intro _ args H K hk
  simp only [S_f1z] at *
  unfold F_f1z at *
  split at hk
  ·obtain ⟨na, i_evens, bd_7, pr0, pr1, k⟩ := hk
   exact ⟨_, k, fun K' k' => ⟨na, i_evens, bd_7, pr0, pr1, k'⟩⟩
  ·exact hk.elim
 ·intro args H K hk
  simp only [S_f1z] at *
  unfold F_f1z at *
  split at hk
  ·obtain ⟨na, i_evens, bd_7, pr0, pr1, k⟩ := hk
   exact ⟨_, _, k⟩
  ·exact hk.elim
 ·intro hq; cases hq
 ·have mm := @f1z_main
  have ml := fun (args : List Value) (H : AHeap) (K : Value → AHeap → Prop) => bodyL_body (P := Try.prog) (env := E_f1z ) (fn := Try.f75) (args := args) (H := H) (K := K) E_f1z_ok 
  revert mm ml
  generalize bodyK Try.prog E_f1z Try.f75 = Q
  generalize bodyL Try.prog E_f1z Try.f75 = QL
  intro mm ml args H K hk
  simp only [S_f1z] at *
  unfold F_f1z at *
  split at hk
  ·exact ml _ H K (mm _ _ _ _ H K hk)
  ·exact hk.elim
def T_f13z (x : Nat) (x_o : Nat) (a : Nat) (b : Nat) (cap0 : Nat) (cap1 : Nat) (H : AHeap) (K : AHeap → Prop) : Prop := ∃ x1 : Nat,  rdC H cap0 0 = some (.float .f32 x1) ∧ ∃ x2 : Bool,  rdC H cap1 0 = some (.bool x2) ∧ Br x2 (∃ x3 : Nat,  rdC H x x_o = some (.float .f32 x3) ∧ isOwn H x ∧ (∃ l, rdN H x x_o 1 = some l) ∧ Lt (setC H x x_o (.float .f32 (fsub .f32 x3 (fmul .f32 x1 (fadd .f32 a b))))) fun H1 => K  H1) (∃ x4 : Nat,  rdC H x x_o = some (.float .f32 x4) ∧ isOwn H x ∧ (∃ l, rdN H x x_o 1 = some l) ∧ Lt (setC H x x_o (.float .f32 (fadd .f32 x4 (fmul .f32 x1 (fadd .f32 a b))))) fun H2 => K  H2)
/-! f13z: function 74 -/
def E_f13z : Env := envOf []
def F_f13z : List Value → AHeap → (Value → AHeap → Prop) → Prop
 | [.pointer (some ⟨x, x_o, none⟩), .float .f32 a, .float .f32 b, .pointer (some ⟨cap0, 0, none⟩), .pointer (some ⟨cap1, 0, none⟩)], H, K => T_f13z x x_o a b cap0 cap1 H fun  (H' : AHeap) => K (.tuple #[]) H'
 | _, _, _ => False
def S_f13z : FSpec := { F := F_f13z, quiet := false, tame := false }
theorem E_f13z_ok : ∀ g, FnOk Try.prog g (E_f13z g) := FnOk.envOf (by
 intro x hx; cases hx)
theorem f13z_kc (x : Nat) (x_o : Nat) (a : Nat) (b : Nat) (cap0 : Nat) (cap1 : Nat) (H : AHeap) (K : Value → AHeap → Prop) : bodyK Try.prog E_f13z Try.f74 [.pointer (some ⟨x, x_o, none⟩), .float .f32 a, .float .f32 b, .pointer (some ⟨cap0, 0, none⟩), .pointer (some ⟨cap1, 0, none⟩)] H K = T_f13z x x_o a b cap0 cap1 H (fun  (H' : AHeap) => K (.tuple #[]) H') := by kernel_rfl
theorem f13z_ok : FnOk Try.prog 74 S_f13z := by
 refine FnOk.body mix_ok E_f13z_ok Try.func74 rfl ω10 ω10 ?_ ?_ ?_ ?_ ?_
 ·intro args H K K' h hk
  simp only [S_f13z] at *
  unfold F_f13z at *
  split at hk
  ·rw [← f13z_kc] at hk ⊢; exact bodyK_mono E_f13z_ok h hk
  ·exact hk.elim
 ·intro hq; cases hq
 ·intro args H K hk
  simp only [S_f13z] at *
  unfold F_f13z at *
  split at hk
  ·rw [← f13z_kc] at hk; exact bodyK_live E_f13z_ok hk
  ·exact hk.elim
 ·intro hq; cases hq
 ·intro args H K hk
  simp only [S_f13z] at *
  unfold F_f13z at *
  split at hk
  ·rw [← f13z_kc] at hk; exact hk
  ·exact hk.elim

def p_f0z (eb : LN) (j : Int) : Nat × Nat := (((eb).getD ((if (0 : Int) > (j - 1) then 0 else (j - 1)) : Int).toNat 0), ((eb).getD ((if (((eb.length : Int) - 1) : Int) < j then ((eb.length : Int) - 1) else j) : Int).toNat 0))
def p_f0z_eq := @p_f0z.eq_1
def T_f0z (sb : OA) (pb : Nat) (xb : Nat) (j : Int) (H : AHeap) (K : Nat → Nat → AHeap → Prop) : Prop := ∃ (eb : LN), IsL fF H sb pb eb ∧ eb.length < 1073741824 ∧ 0 ≤ j ∧ j ≤ eb.length ∧ 1 ≤ eb.length ∧ K ((p_f0z eb j).1) ((p_f0z eb j).2) H
theorem T_f0z_i {sb : OA} {pb : Nat} {xb : Nat} {j : Int} {H : AHeap} {K : Nat → Nat → AHeap → Prop} (h : ∃ (eb : LN), IsL fF H sb pb eb ∧ eb.length < 1073741824 ∧ 0 ≤ j ∧ j ≤ eb.length ∧ 1 ≤ eb.length ∧ K ((p_f0z eb j).1) ((p_f0z eb j).2) H) : T_f0z sb pb xb j H K := h

/-! f0z: function 76 -/
def E_f0z : Env := envOf []
def F_f0z : List Value → AHeap → (Value → AHeap → Prop) → Prop
 | [.slice sb pb xb, .int .i64 j], H, K => T_f0z sb pb xb j H fun (r1 : Nat) (r2 : Nat) (H' : AHeap) => K (.tuple #[.float .f32 r1, .float .f32 r2]) H'
 | _, _, _ => False
def S_f0z : FSpec := { F := F_f0z, quiet := true, tame := false }
theorem f0z_vc (sb : OA) (pb : Nat) (xb : Nat) (j : Int) (H : AHeap) (K : Value → AHeap → Prop) : bodyL Try.prog E_f0z Try.f76 [.slice sb pb xb, .int .i64 j] H K =
 ((0 : Int) ≤ (if (0 : Int) > IntKind.wrap .i64 (j - 1) then 0 else IntKind.wrap .i64 (j - 1)) ∧ (if (0 : Int) > IntKind.wrap .i64 (j - 1) then 0 else IntKind.wrap .i64 (j - 1)) < (pb : Int) ∧ ∃ b1 f1, (sb : OA) = some ⟨b1, f1, none⟩ ∧ ∃ x1 : Nat,  rdC H b1 (f1 + ((if (0 : Int) > IntKind.wrap .i64 (j - 1) then 0 else IntKind.wrap .i64 (j - 1)) : Int).toNat * 1) = some (.float .f32 x1) ∧ (0 : Int) ≤ (if (IntKind.wrap .i64 ((pb : Int) - 1) : Int) < j then IntKind.wrap .i64 ((pb : Int) - 1) else j) ∧ (if (IntKind.wrap .i64 ((pb : Int) - 1) : Int) < j then IntKind.wrap .i64 ((pb : Int) - 1) else j) < (pb : Int) ∧ ∃ b2 f2, (sb : OA) = some ⟨b2, f2, none⟩ ∧ ∃ x2 : Nat,  rdC H b2 (f2 + ((if (IntKind.wrap .i64 ((pb : Int) - 1) : Int) < j then IntKind.wrap .i64 ((pb : Int) - 1) else j) : Int).toNat * 1) = some (.float .f32 x2) ∧ K (.tuple #[.float .f32 x1, .float .f32 x2]) H) := by kernel_rfl
theorem E_f0z_ok : ∀ g, FnOk Try.prog g (E_f0z g) := FnOk.envOf (by
 intro x hx; cases hx)
theorem f0z_main (sb : OA) (pb : Nat) (xb : Nat) (j : Int) (H : AHeap) (K : Value → AHeap → Prop) (h : T_f0z sb pb xb j H fun (r1 : Nat) (r2 : Nat) (H' : AHeap) => K (.tuple #[.float .f32 r1, .float .f32 r2]) H') : bodyL Try.prog E_f0z Try.f76 [.slice sb pb xb, .int .i64 j] H K := by
 rw [f0z_vc]
 obtain ⟨eb, i_odds, bd_7, pr0, pr1, pr2, hk⟩ := h
 obtain rfl := i_odds.eqn
 have e : (p_f0z eb j) = _ := rfl
 have e := e.trans (p_f0z_eq eb j)
 have g0 := Grow.refl H
 rw [show IntKind.wrap .i64 (j - 1) = (j - 1) from wrap64 ω2 ω2]
 obtain ⟨b_1, f_2, q_3⟩ := ((i_odds.grow g0)).pos ω0
 refine ⟨by omega, by omega, b_1, f_2, q_3, ?_⟩
 refine ⟨((eb).getD ((if (0 : Int) > (j - 1) then 0 else (j - 1)) : Int).toNat 0), (i_odds).rd g0 q_3 ω2 _, ?_⟩
 rw [show IntKind.wrap .i64 ((eb.length : Int) - 1) = ((eb.length : Int) - 1) from wrap64 ω2 ω2]
 obtain ⟨b_4, f_5, q_6⟩ := ((i_odds.grow g0)).pos ω0
 refine ⟨by omega, by omega, b_4, f_5, q_6, ?_⟩
 refine ⟨((eb).getD ((if (((eb.length : Int) - 1) : Int) < j then ((eb.length : Int) - 1) else j) : Int).toNat 0), (i_odds).rd g0 q_6 ω2 _, ?_⟩
 rw [e] at hk
 exact hk
theorem f0z_ok : FnOk Try.prog 76 S_f0z := by
 refine FnOk.body mix_ok E_f0z_ok Try.func76 rfl ω10 ω10 ?_ ?_ ?_ ?_ ?_
 ·intro args H K K' h hk
  simp only [S_f0z] at *
  unfold F_f0z at *
  split at hk
  ·obtain ⟨eb, i_odds, bd_7, pr0, pr1, pr2, k⟩ := hk
   exact ⟨eb, i_odds, bd_7, pr0, pr1, pr2, h _ _ k⟩
  ·exact hk.elim
 ·intro _ args H K hk
  simp only [S_f0z] at *
  unfold F_f0z at *
  split at hk
  ·obtain ⟨eb, i_odds, bd_7, pr0, pr1, pr2, k⟩ := hk
   exact ⟨_, k, fun K' k' => ⟨eb, i_odds, bd_7, pr0, pr1, pr2, k'⟩⟩
  ·exact hk.elim
 ·intro args H K hk
  simp only [S_f0z] at *
  unfold F_f0z at *
  split at hk
  ·obtain ⟨eb, i_odds, bd_7, pr0, pr1, pr2, k⟩ := hk
   exact ⟨_, _, k⟩
  ·exact hk.elim
 ·intro hq; cases hq
 ·have mm := @f0z_main
  have ml := fun (args : List Value) (H : AHeap) (K : Value → AHeap → Prop) => bodyL_body (P := Try.prog) (env := E_f0z ) (fn := Try.f76) (args := args) (H := H) (K := K) E_f0z_ok 
  revert mm ml
  generalize bodyK Try.prog E_f0z Try.f76 = Q
  generalize bodyL Try.prog E_f0z Try.f76 = QL
  intro mm ml args H K hk
  simp only [S_f0z] at *
  unfold F_f0z at *
  split at hk
  ·exact ml _ H K (mm _ _ _ _ H K hk)
  ·exact hk.elim
def wMore (back : Bool) (x y : Nat) : Nat := bif back then fsub .f32 x y else fadd .f32 x y
def wHighI (k : Int) (w : Nat) (back : Bool) (low high : LN) : LN := bif Int.tmod k 2 == 0 then high.mapIdx (fun i x => wMore back x (fmul .f32 w (fadd .f32 ((p_f1z low (i : Int)).1) ((p_f1z low (i : Int)).2)))) else high
def wLowI (k : Int) (w : Nat) (back : Bool) (low high : LN) : LN := bif Int.tmod k 2 == 0 then low else low.mapIdx (fun i x => wMore back x (fmul .f32 w (fadd .f32 ((p_f0z high (i : Int)).1) ((p_f0z high (i : Int)).2))))
@[simp] theorem wHighI_length (k : Int) (w : Nat) (back : Bool) (low high : LN) : (wHighI k w back low high).length = high.length := by
 unfold wHighI; cases (Int.tmod k 2 == 0) <;> simp
@[simp] theorem wLowI_length (k : Int) (w : Nat) (back : Bool) (low high : LN) : (wLowI k w back low high).length = low.length := by
 unfold wLowI; cases (Int.tmod k 2 == 0) <;> simp
def p_f1az_l1 (na : LN) (eb : LN) (i : Int) (w : Nat) (back : Bool) : Nat → Int → LN → LN × LN
 | 0, _, _ => ([], [])
 | μ + 1, t23, y1_1 => (bif decide ((t23 : Int) < (eb.length : Int)) then (bif back then (p_f1az_l1 na eb i w back μ (t23 + 1) (((y1_1).set (t23 : Int).toNat ((fsub .f32 (((y1_1).getD (t23 : Int).toNat 0)) (fmul .f32 w (fadd .f32 ((p_f1z na t23).1) ((p_f1z na t23).2)))))))) else (p_f1az_l1 na eb i w back μ (t23 + 1) (((y1_1).set (t23 : Int).toNat ((fadd .f32 (((y1_1).getD (t23 : Int).toNat 0)) (fmul .f32 w (fadd .f32 ((p_f1z na t23).1) ((p_f1z na t23).2))))))))) else (na, y1_1))
def p_f1az_l1_s := fun na eb i w back μ t23 y1_1 => @p_f1az_l1.eq_2 na eb i w back t23 y1_1 μ
def p_f1az_l2 (na : LN) (eb : LN) (i : Int) (w : Nat) (back : Bool) : Nat → Int → LN → LN × LN
 | 0, _, _ => ([], [])
 | μ + 1, t42, y2_1 => (bif decide ((t42 : Int) < (na.length : Int)) then (bif back then (p_f1az_l2 na eb i w back μ (t42 + 1) (((y2_1).set (t42 : Int).toNat ((fsub .f32 (((y2_1).getD (t42 : Int).toNat 0)) (fmul .f32 w (fadd .f32 ((p_f0z eb t42).1) ((p_f0z eb t42).2)))))))) else (p_f1az_l2 na eb i w back μ (t42 + 1) (((y2_1).set (t42 : Int).toNat ((fadd .f32 (((y2_1).getD (t42 : Int).toNat 0)) (fmul .f32 w (fadd .f32 ((p_f0z eb t42).1) ((p_f0z eb t42).2))))))))) else (y2_1, eb))
def p_f1az_l2_s := fun na eb i w back μ t42 y2_1 => @p_f1az_l2.eq_2 na eb i w back t42 y2_1 μ
def p_f1az (na : LN) (eb : LN) (i : Int) (w : Nat) (back : Bool) : LN × LN := ((bif (Int.tmod i 2 : Int) == 0 then (p_f1az_l1 na eb i w back (Int.toNat ((eb.length : Int) - (0 : Int)) + 1) (0 : Int) eb) else (p_f1az_l2 na eb i w back (Int.toNat ((na.length : Int) - (0 : Int)) + 1) (0 : Int) na)))
def p_f1az_eq := @p_f1az.eq_1
def T_f1az (bb : OA) (ua : Nat) (nb : Nat) (sb : OA) (pb : Nat) (xb : Nat) (i : Int) (w : Nat) (back : Bool) (H : AHeap) (K : AHeap → Prop) : Prop := ∃ lo : Nat, ∃ lob : Nat, ∃ (na : LN), ∃ (eb : LN), OwnS fF H lo bb ua nb na ∧ OwnS fF H lob sb pb xb eb ∧ SepA bb sb ∧ na.length < 1073741824 ∧ eb.length < 1073741824 ∧ eb.length ≤ na.length ∧ na.length ≤ eb.length + 1 ∧ 1 ≤ eb.length ∧ ((∀ H' : AHeap, Keep2 bb sb H H' → OwnS fF H' lo bb ua nb (wLowI i w back na eb) → OwnS fF H' lob sb pb xb (wHighI i w back na eb) → K  H'))
theorem T_f1az_i {bb : OA} {ua : Nat} {nb : Nat} {sb : OA} {pb : Nat} {xb : Nat} {i : Int} {w : Nat} {back : Bool} {H : AHeap} {K : AHeap → Prop} (h : ∃ lo : Nat, ∃ lob : Nat, ∃ (na : LN), ∃ (eb : LN), OwnS fF H lo bb ua nb na ∧ OwnS fF H lob sb pb xb eb ∧ SepA bb sb ∧ na.length < 1073741824 ∧ eb.length < 1073741824 ∧ eb.length ≤ na.length ∧ na.length ≤ eb.length + 1 ∧ 1 ≤ eb.length ∧ ((∀ H' : AHeap, Keep2 bb sb H H' → OwnS fF H' lo bb ua nb (wLowI i w back na eb) → OwnS fF H' lob sb pb xb (wHighI i w back na eb) → K  H'))) : T_f1az bb ua nb sb pb xb i w back H K := h
theorem frontI_get (W ys : LN) (i : Nat) (hi : i < ys.length) (hl : W.length = ys.length) : (W.take i ++ ys.drop i).getD i 0 = ys.getD i 0 := by
 rw [List.getD_eq_getElem?_getD, List.getD_eq_getElem?_getD, List.getElem?_append_right (by simp; omega)]
 have : (W.take i).length = i := by simp; omega
 rw [this, Nat.sub_self, List.getElem?_drop, Nat.add_zero]
theorem f1az_go1 (low high : LN) (k : Int) (w : Nat) (back : Bool) (W : LN) (hW : W = high.mapIdx (fun i x => wMore back x (fmul .f32 w (fadd .f32 ((p_f1z low (i : Int)).1) ((p_f1z low (i : Int)).2))))) :
  ∀ (μ i : Nat), i ≤ high.length → high.length - i < μ → p_f1az_l1 low high k w back μ (i : Int) (W.take i ++ high.drop i) = (low, W) := by
 have hl : W.length = high.length := by rw [hW]; simp
 intro μ
 induction μ with
 | zero => intro i _ h; omega
 | succ μ ih =>
  intro i hi hm
  rw [p_f1az_l1_s]
  by_cases h : i < high.length
  ·rw [decide_eq_true (show (i : Int) < (high.length : Int) by omega), cond_true, Int.toNat_natCast]
   have := ih (i + 1) ω2 ω2
   have key : ∀ x, W[i]? = some x → (W.take i ++ high.drop i).set i x = W.take (i + 1) ++ high.drop (i + 1) := fun x hx => set_front W high i h hl x hx
   have hx : W[i]? = some (wMore back (high.getD i 0) (fmul .f32 w (fadd .f32 ((p_f1z low (i : Int)).1) ((p_f1z low (i : Int)).2)))) := by
    rw [hW]; simp [List.getD_eq_getElem?_getD, h]
   rw [frontI_get W high i h hl]
   have k2 := key _ hx
   cases back
   ·rw [cond_false]; simp only [wMore, cond_false] at k2; rw [k2]; exact this
   ·rw [cond_true]; simp only [wMore, cond_true] at k2; rw [k2]; exact this
  ·have e : i = high.length := by omega
   rw [decide_eq_false (show ¬ (i : Int) < (high.length : Int) by omega), cond_false, e]
   simp [← hl]
theorem f1az_go2 (low high : LN) (k : Int) (w : Nat) (back : Bool) (W : LN) (hW : W = low.mapIdx (fun i x => wMore back x (fmul .f32 w (fadd .f32 ((p_f0z high (i : Int)).1) ((p_f0z high (i : Int)).2))))) :
  ∀ (μ i : Nat), i ≤ low.length → low.length - i < μ → p_f1az_l2 low high k w back μ (i : Int) (W.take i ++ low.drop i) = (W, high) := by
 have hl : W.length = low.length := by rw [hW]; simp
 intro μ
 induction μ with
 | zero => intro i _ h; omega
 | succ μ ih =>
  intro i hi hm
  rw [p_f1az_l2_s]
  by_cases h : i < low.length
  ·rw [decide_eq_true (show (i : Int) < (low.length : Int) by omega), cond_true, Int.toNat_natCast]
   have := ih (i + 1) ω2 ω2
   have key : ∀ x, W[i]? = some x → (W.take i ++ low.drop i).set i x = W.take (i + 1) ++ low.drop (i + 1) := fun x hx => set_front W low i h hl x hx
   have hx : W[i]? = some (wMore back (low.getD i 0) (fmul .f32 w (fadd .f32 ((p_f0z high (i : Int)).1) ((p_f0z high (i : Int)).2)))) := by
    rw [hW]; simp [List.getD_eq_getElem?_getD, h]
   rw [frontI_get W low i h hl]
   have k2 := key _ hx
   cases back
   ·rw [cond_false]; simp only [wMore, cond_false] at k2; rw [k2]; exact this
   ·rw [cond_true]; simp only [wMore, cond_true] at k2; rw [k2]; exact this
  ·have e : i = low.length := by omega
   rw [decide_eq_false (show ¬ (i : Int) < (low.length : Int) by omega), cond_false, e]
   simp [← hl]
theorem f1az_val (low high : LN) (k : Int) (w : Nat) (back : Bool) : p_f1az low high k w back = (wLowI k w back low high, wHighI k w back low high) := by
 rw [p_f1az_eq]
 unfold wLowI wHighI
 cases h : (Int.tmod k 2 == 0)
 ·rw [cond_false, cond_false, cond_false]
  have := f1az_go2 low high k w back _ rfl (Int.toNat ((low.length : Int) - 0) + 1) 0 ω2 ω2
  simpa using this
 ·rw [cond_true, cond_true, cond_true]
  have := f1az_go1 low high k w back _ rfl (Int.toNat ((high.length : Int) - 0) + 1) 0 ω2 ω2
  simpa using this
/-! f1az: function 50 -/
def E_f1az : Env := envOf [(75, S_f1z), (74, S_f13z), (76, S_f0z)]
def F_f1az : List Value → AHeap → (Value → AHeap → Prop) → Prop
 | [.slice bb ua nb, .slice sb pb xb, .int .i64 i, .float .f32 w, .bool back], H, K => T_f1az bb ua nb sb pb xb i w back H fun  (H' : AHeap) => K (.tuple #[]) H'
 | _, _, _ => False
def S_f1az : FSpec := { F := F_f1az, quiet := false, tame := false }
theorem f1az_vc (bb : OA) (ua : Nat) (nb : Nat) (sb : OA) (pb : Nat) (xb : Nat) (i : Int) (w : Nat) (back : Bool) (H : AHeap) (K : Value → AHeap → Prop) : bodyL Try.prog E_f1az Try.f50 [.slice bb ua nb, .slice sb pb xb, .int .i64 i, .float .f32 w, .bool back] H K =
 (Al [.float .f32 w] H fun b1 H1 => Al [.bool back] H1 fun b2 H2 => 2 ≠ (0 : Int) ∧ Br ((Int.tmod i 2 : Int) == 0) (loopK (exL Try.prog E_f1az (cl (cl (cr (cl (cl (cr (cl (cr (cr (bodyC Try.f50)))))))))) 12583939 0 [(0, 0)]) (.slice bb ua nb :: .slice sb pb xb :: ud8 (.func (.func 74) #[] #[.pointer (some ⟨b1, 0, none⟩), .pointer (some ⟨b2, 0, none⟩)] :: ud11 (.int .i64 (pb : Int) :: .int .i64 0 :: ud35 []))) H2 (blockQ 0 (seqQ (exL Try.prog E_f1az (cr (cl (cr (cl (cr (cr (bodyC Try.f50))))))) 1027 0 []) (seqQ (exL Try.prog E_f1az (cr (cr (cr (bodyC Try.f50)))) 0 0 []) (retK Try.prog Try.f50 K))))) (loopK (exL Try.prog E_f1az (cl (cl (cr (cr (cr (cr (bodyC Try.f50))))))) 6597069767683 0 [(2, 0)]) (.slice bb ua nb :: .slice sb pb xb :: ud8 (.func (.func 74) #[] #[.pointer (some ⟨b1, 0, none⟩), .pointer (some ⟨b2, 0, none⟩)] :: ud30 (.int .i64 (ua : Int) :: .int .i64 0 :: ud16 []))) H2 (blockQ 2 (retK Try.prog Try.f50 K)))) := by kernel_rfl
abbrev f1az_P1 (b1 : Nat) (b2 : Nat) (bb : OA) (nb : Nat) (ua : Nat) (sb : OA) (xb : Nat) (pb : Nat) (t23 : Int)  : List Value := (.slice bb ua nb :: .slice sb pb xb :: ud8 (.func (.func 74) #[] #[.pointer (some ⟨b1, 0, none⟩), .pointer (some ⟨b2, 0, none⟩)] :: ud11 (.int .i64 (pb : Int) :: .int .i64 t23 :: ud35 [])))
theorem f1az_r1 (b1 : Nat) (b2 : Nat) (bb : OA) (nb : Nat) (ua : Nat) (sb : OA) (xb : Nat) (pb : Nat) (t23 : Int)  (H : AHeap) (R : Post) : exL Try.prog E_f1az (cl (cl (cr (cl (cl (cr (cl (cr (cr (bodyC Try.f50)))))))))) 12583939 0 [(0, 0)] (f1az_P1 b1 b2 bb nb ua sb xb pb t23) H R =
 (Br (decide ((t23 : Int) < (pb : Int))) (T_f1z bb ua nb t23 H fun (r1 : Nat) (r2 : Nat) (H3 : AHeap) => (0 : Int) ≤ t23 ∧ t23 < (pb : Int) ∧ ∃ b3 f1, (sb : OA) = some ⟨b3, f1, none⟩ ∧ T_f13z b3 (f1 + (t23 : Int).toNat * 1) r1 r2 b1 b2 H3 fun  (H4 : AHeap) => R .normal (.slice bb ua nb :: .slice sb pb xb :: ud8 (.func (.func 74) #[] #[.pointer (some ⟨b1, 0, none⟩), .pointer (some ⟨b2, 0, none⟩)] :: ud11 (.int .i64 (pb : Int) :: .int .i64 (IntKind.wrap .i64 (t23 + 1)) :: ud35 []))) H4) (R (.exit 0) (ud59 []) H)) := by kernel_rfl
def f1az_I1 (b1 : Nat) (b2 : Nat) (bb : OA) (nb : Nat) (ua : Nat) (sb : OA) (xb : Nat) (pb : Nat) (Inv : Nat → Int → AHeap → Prop) : Nat → List Value → AHeap → Prop := fun μ tm H => ∃ (t23 : Int), tm = (f1az_P1 b1 b2 bb nb ua sb xb pb t23) ∧ Inv μ t23 H
theorem f1az_L1 (b1 : Nat) (b2 : Nat) (bb : OA) (nb : Nat) (ua : Nat) (sb : OA) (xb : Nat) (pb : Nat) {Q : Post} (Inv : Nat → Int → AHeap → Prop) (ν : Nat) (t23 : Int)  (H : AHeap) (h0 : Inv ν t23 H)
  (hs : ∀ (μ : Nat) (t23 : Int)  (H : AHeap), Inv μ t23 H → exL Try.prog E_f1az (cl (cl (cr (cl (cl (cr (cl (cr (cr (bodyC Try.f50)))))))))) 12583939 0 [(0, 0)] (f1az_P1 b1 b2 bb nb ua sb xb pb t23) H (loopQ (f1az_I1 b1 b2 bb nb ua sb xb pb Inv) μ Q)) : loopK (exL Try.prog E_f1az (cl (cl (cr (cl (cl (cr (cl (cr (cr (bodyC Try.f50)))))))))) 12583939 0 [(0, 0)]) (f1az_P1 b1 b2 bb nb ua sb xb pb t23) H Q :=
 ⟨f1az_I1 b1 b2 bb nb ua sb xb pb Inv, ν, ⟨t23, rfl, h0⟩, fun μ tm H h => by obtain ⟨t23, rfl, hI⟩ := h; exact hs μ t23  H hI⟩
theorem f1az_n1 {b1 : Nat} {b2 : Nat} {bb : OA} {nb : Nat} {ua : Nat} {sb : OA} {xb : Nat} {pb : Nat} {Q : Post} {Inv : Nat → Int → AHeap → Prop} {μ : Nat} (μ' : Nat) {t23 : Int}  {H : AHeap} (hm : μ' < μ) (hI : Inv μ' t23 H) : loopQ (f1az_I1 b1 b2 bb nb ua sb xb pb Inv) μ Q .normal (f1az_P1 b1 b2 bb nb ua sb xb pb t23) H := ⟨μ', hm, t23, rfl, hI⟩
theorem f1az_x1_0  (H : AHeap) (K : Value → AHeap → Prop)  {I : Nat → List Value → AHeap → Prop} {μ : Nat} : loopQ I μ (blockQ 0 (seqQ (exL Try.prog E_f1az (cr (cl (cr (cl (cr (cr (bodyC Try.f50))))))) 1027 0 []) (seqQ (exL Try.prog E_f1az (cr (cr (cr (bodyC Try.f50)))) 0 0 []) (retK Try.prog Try.f50 K)))) (.exit 0) (ud59 []) H =
 (K (.tuple #[]) H) := by kernel_rfl
abbrev f1az_P2 (b1 : Nat) (b2 : Nat) (bb : OA) (nb : Nat) (ua : Nat) (sb : OA) (xb : Nat) (pb : Nat) (t42 : Int)  : List Value := (.slice bb ua nb :: .slice sb pb xb :: ud8 (.func (.func 74) #[] #[.pointer (some ⟨b1, 0, none⟩), .pointer (some ⟨b2, 0, none⟩)] :: ud30 (.int .i64 (ua : Int) :: .int .i64 t42 :: ud16 [])))
theorem f1az_r2 (b1 : Nat) (b2 : Nat) (bb : OA) (nb : Nat) (ua : Nat) (sb : OA) (xb : Nat) (pb : Nat) (t42 : Int)  (H : AHeap) (R : Post) : exL Try.prog E_f1az (cl (cl (cr (cr (cr (cr (bodyC Try.f50))))))) 6597069767683 0 [(2, 0)] (f1az_P2 b1 b2 bb nb ua sb xb pb t42) H R =
 (Br (decide ((t42 : Int) < (ua : Int))) (T_f0z sb pb xb t42 H fun (r3 : Nat) (r4 : Nat) (H5 : AHeap) => (0 : Int) ≤ t42 ∧ t42 < (ua : Int) ∧ ∃ b4 f2, (bb : OA) = some ⟨b4, f2, none⟩ ∧ T_f13z b4 (f2 + (t42 : Int).toNat * 1) r3 r4 b1 b2 H5 fun  (H6 : AHeap) => R .normal (.slice bb ua nb :: .slice sb pb xb :: ud8 (.func (.func 74) #[] #[.pointer (some ⟨b1, 0, none⟩), .pointer (some ⟨b2, 0, none⟩)] :: ud30 (.int .i64 (ua : Int) :: .int .i64 (IntKind.wrap .i64 (t42 + 1)) :: ud16 []))) H6) (R (.exit 2) (ud59 []) H)) := by kernel_rfl
def f1az_I2 (b1 : Nat) (b2 : Nat) (bb : OA) (nb : Nat) (ua : Nat) (sb : OA) (xb : Nat) (pb : Nat) (Inv : Nat → Int → AHeap → Prop) : Nat → List Value → AHeap → Prop := fun μ tm H => ∃ (t42 : Int), tm = (f1az_P2 b1 b2 bb nb ua sb xb pb t42) ∧ Inv μ t42 H
theorem f1az_L2 (b1 : Nat) (b2 : Nat) (bb : OA) (nb : Nat) (ua : Nat) (sb : OA) (xb : Nat) (pb : Nat) {Q : Post} (Inv : Nat → Int → AHeap → Prop) (ν : Nat) (t42 : Int)  (H : AHeap) (h0 : Inv ν t42 H)
  (hs : ∀ (μ : Nat) (t42 : Int)  (H : AHeap), Inv μ t42 H → exL Try.prog E_f1az (cl (cl (cr (cr (cr (cr (bodyC Try.f50))))))) 6597069767683 0 [(2, 0)] (f1az_P2 b1 b2 bb nb ua sb xb pb t42) H (loopQ (f1az_I2 b1 b2 bb nb ua sb xb pb Inv) μ Q)) : loopK (exL Try.prog E_f1az (cl (cl (cr (cr (cr (cr (bodyC Try.f50))))))) 6597069767683 0 [(2, 0)]) (f1az_P2 b1 b2 bb nb ua sb xb pb t42) H Q :=
 ⟨f1az_I2 b1 b2 bb nb ua sb xb pb Inv, ν, ⟨t42, rfl, h0⟩, fun μ tm H h => by obtain ⟨t42, rfl, hI⟩ := h; exact hs μ t42  H hI⟩
theorem f1az_n2 {b1 : Nat} {b2 : Nat} {bb : OA} {nb : Nat} {ua : Nat} {sb : OA} {xb : Nat} {pb : Nat} {Q : Post} {Inv : Nat → Int → AHeap → Prop} {μ : Nat} (μ' : Nat) {t42 : Int}  {H : AHeap} (hm : μ' < μ) (hI : Inv μ' t42 H) : loopQ (f1az_I2 b1 b2 bb nb ua sb xb pb Inv) μ Q .normal (f1az_P2 b1 b2 bb nb ua sb xb pb t42) H := ⟨μ', hm, t42, rfl, hI⟩
theorem f1az_x2_2  (H : AHeap) (K : Value → AHeap → Prop)  {I : Nat → List Value → AHeap → Prop} {μ : Nat} : loopQ I μ (blockQ 2 (retK Try.prog Try.f50 K)) (.exit 2) (ud59 []) H =
 (K (.tuple #[]) H) := by kernel_rfl
theorem E_f1az_ok : ∀ g, FnOk Try.prog g (E_f1az g) := FnOk.envOf (by
 intro x hx
 simp only [List.mem_cons, List.not_mem_nil, or_false] at hx
 rcases hx with rfl | rfl | rfl
 ·exact f1z_ok
 ·exact f13z_ok
 ·exact f0z_ok)
theorem f1az_main (bb : OA) (ua : Nat) (nb : Nat) (sb : OA) (pb : Nat) (xb : Nat) (i : Int) (w : Nat) (back : Bool) (H : AHeap) (K : Value → AHeap → Prop) (h : T_f1az bb ua nb sb pb xb i w back H fun  (H' : AHeap) => K (.tuple #[]) H') : bodyL Try.prog E_f1az Try.f50 [.slice bb ua nb, .slice sb pb xb, .int .i64 i, .float .f32 w, .bool back] H K := by
 rw [f1az_vc]
 obtain ⟨lo, lob, na, eb, i_evens, i_odds, sp_m, bd_112, bd_113, pr0, pr1, pr2, hk⟩ := h
 have hk : (∀ H' : AHeap, Keep2 bb sb H H' → OwnS fF H' lo bb ua nb ((p_f1az na eb i w back).1) → OwnS fF H' lob sb pb xb ((p_f1az na eb i w back).2) → (fun  (H' : AHeap) => K (.tuple #[]) H')  H') := by rw [f1az_val na eb i w back]; exact hk
 obtain rfl := i_evens.len
 obtain rfl := i_odds.len
 have up_p := i_evens.up
 have lo_p := i_evens.lo
 have up_q := i_odds.up
 have lo_q := i_odds.lo
 have e : (p_f1az na eb i w back) = _ := rfl
 have e := e.trans (p_f1az_eq na eb i w back)
 have g0 := Keep2.refl bb sb H
 refine Al.intro (fun b_1 H_1 hb_2 hl_3 g_4 o_5 => ?_)
 have l_7 := g_4.1
 have g_8 := g0.trans g_4
 have l_9 := g_8.1
 have r_10 := i_evens.grow g_4
 have r_11 := i_odds.grow g_4
 have w111 := o_5.lt
 refine Al.intro (fun b_12 H_2 hb_13 hl_14 g15 o16 => ?_)
 have l_18 := g15.1
 have g_19 := g_8.trans g15
 have l_20 := g_19.1
 have o21 := o_5.grow g15
 have w22 := o21.lt
 have r_23 := r_10.grow g15
 have r_24 := r_11.grow g15
 have w110 := o16.lt
 refine ⟨ω23, ?_⟩
 have z25 := tmod_rng i 2
 have z26 := tmod_nn i 2
 refine Br.intro (fun c27 => ?_) (fun c27 => ?_)
 ·have e := e.trans (cond_t c27)
  have c_27' := ieq_t c27
  refine f1az_L1 _ _ _ _ _ _ _ _ (fun (μ : Nat) (t23 : Int) (H_3 : AHeap) => ∃ (y1_1 : LN), Own H_3 b_1 ([.float .f32 w]) ∧ Own H_3 b_12 ([.bool back]) ∧ OwnS fF H_3 lo bb na.length nb na ∧ OwnS fF H_3 lob sb eb.length xb y1_1 ∧ y1_1.length = (eb).length ∧ (b_12 ≠ b_1) ∧ H.length ≤ H_3.length ∧ H.length ≤ H_3.length ∧ Keep2 bb sb H H_3 ∧ (0 : Int) ≤ t23 ∧ t23 ≤ (eb.length : Int) ∧ (eb.length : Int) - t23 ≤ (μ : Int) ∧ p_f1az na eb i w back = p_f1az_l1 na eb i w back (μ + 1) t23 y1_1) (Int.toNat ((eb.length : Int) - (0 : Int))) _ H_2 ?_ ?_
  ·exact ⟨_, o21, o16, r_23, r_24, ω11, ω2, ω2, ω2, g_19, ω6, ω6, ω2, e⟩
  ·intro μ t23  H_3 hI
   obtain ⟨y1_1, o28, o29, r_30, r_31, y32, n33, n34, n35, g36, v_37, v_38, hμ, e⟩ := hI
   rw [f1az_r1]
   have e := e.trans (p_f1az_l1_s na eb i w back μ t23 y1_1)
   have w39 := o28.lt
   have w40 := o29.lt
   have l41 := g36.1
   refine Br.intro (fun c_42 => ?_) (fun c_42 => ?_)
   ·have e := e.trans (cond_t c_42)
    have c_42' := of_decide_eq_true c_42
    refine T_f1z_i ⟨_, r_30.isL, ω0, ω14, ω14, ?_⟩
    obtain ⟨b43, f44, q45⟩ := (r_31.isL).pos ω0
    refine ⟨by omega, by omega, b43, f44, q45, ?_⟩
    unfold T_f13z
    refine ⟨w, (o28.rdC _).trans rfl, ?_⟩
    refine ⟨back, (o29.rdC _).trans rfl, ?_⟩
    refine Br.intro (fun c_46 => ?_) (fun c_46 => ?_)
    ·have e := e.trans (cond_t c_46)
     refine ⟨((y1_1).getD (t23 : Int).toNat 0), (r_31.isL).rd (Grow.refl _) q45 ω2 _, ?_⟩
     refine Lt.setS r_31 q45 ω3 (fun H_4 hl_47 o49 k48 => ?_)
     have l50 := k48.1
     have g51 := g36.transB k48
     have l52 := g51.1
     have o53 := o28.keepA (fun x hx => by have := lo_q x hx; have := up_q x hx; omega) k48
     have w54 := o53.lt
     have o55 := o29.keepA (fun x hx => by have := lo_q x hx; have := up_q x hx; omega) k48
     have w56 := o55.lt
     have r57 := r_30.keepA (sp_m).symm k48
     rw [show IntKind.wrap .i64 (t23 + 1) = (t23 + 1) from wrap64 ω2 ω2]
     refine f1az_n1 (μ - 1) ω16 ⟨_, o53, o55, r57, o49, ω17, ω2, ω2, ω2, ω2, ω1, ω1, ω16, ω12⟩
    ·have e := e.trans (cond_f c_46)
     refine ⟨((y1_1).getD (t23 : Int).toNat 0), (r_31.isL).rd (Grow.refl _) q45 ω2 _, ?_⟩
     refine Lt.setS r_31 q45 ω3 (fun H_5 hl_58 o60 k59 => ?_)
     have l61 := k59.1
     have g62 := g36.transB k59
     have l63 := g62.1
     have o64 := o28.keepA (fun x hx => by have := lo_q x hx; have := up_q x hx; omega) k59
     have w65 := o64.lt
     have o66 := o29.keepA (fun x hx => by have := lo_q x hx; have := up_q x hx; omega) k59
     have w67 := o66.lt
     have r68 := r_30.keepA (sp_m).symm k59
     rw [show IntKind.wrap .i64 (t23 + 1) = (t23 + 1) from wrap64 ω2 ω2]
     refine f1az_n1 (μ - 1) ω16 ⟨_, o64, o66, r68, o60, ω17, ω2, ω2, ω2, ω2, ω1, ω1, ω16, ω12⟩
   ·have e := e.trans (cond_f c_42)
    have c_42' := of_decide_eq_false c_42
    rw [f1az_x1_0]
    rw [e] at hk
    exact hk H_3 g36 r_30 r_31
 ·have e := e.trans (cond_f c27)
  have c_27' := ieq_f c27
  refine f1az_L2 _ _ _ _ _ _ _ _ (fun (μ : Nat) (t42 : Int) (H_6 : AHeap) => ∃ (y2_1 : LN), Own H_6 b_1 ([.float .f32 w]) ∧ Own H_6 b_12 ([.bool back]) ∧ OwnS fF H_6 lo bb na.length nb y2_1 ∧ y2_1.length = (na).length ∧ OwnS fF H_6 lob sb eb.length xb eb ∧ (b_12 ≠ b_1) ∧ H.length ≤ H_6.length ∧ H.length ≤ H_6.length ∧ Keep2 bb sb H H_6 ∧ (0 : Int) ≤ t42 ∧ t42 ≤ (na.length : Int) ∧ (na.length : Int) - t42 ≤ (μ : Int) ∧ p_f1az na eb i w back = p_f1az_l2 na eb i w back (μ + 1) t42 y2_1) (Int.toNat ((na.length : Int) - (0 : Int))) _ H_2 ?_ ?_
  ·exact ⟨_, o21, o16, r_23, ω11, r_24, ω2, ω2, ω2, g_19, ω6, ω6, ω2, e⟩
  ·intro μ t42  H_6 hI
   obtain ⟨y2_1, o69, o70, r71, y72, r73, n74, n75, n76, g77, v_78, v_79, hμ, e⟩ := hI
   rw [f1az_r2]
   have e := e.trans (p_f1az_l2_s na eb i w back μ t42 y2_1)
   have w80 := o69.lt
   have w81 := o70.lt
   have l82 := g77.1
   refine Br.intro (fun c83 => ?_) (fun c83 => ?_)
   ·have e := e.trans (cond_t c83)
    have c_83' := of_decide_eq_true c83
    refine T_f0z_i ⟨_, r73.isL, ω0, ω14, ω14, ω14, ?_⟩
    obtain ⟨b84, f85, q86⟩ := (r71.isL).pos ω0
    refine ⟨by omega, by omega, b84, f85, q86, ?_⟩
    unfold T_f13z
    refine ⟨w, (o69.rdC _).trans rfl, ?_⟩
    refine ⟨back, (o70.rdC _).trans rfl, ?_⟩
    refine Br.intro (fun c87 => ?_) (fun c87 => ?_)
    ·have e := e.trans (cond_t c87)
     refine ⟨((y2_1).getD (t42 : Int).toNat 0), (r71.isL).rd (Grow.refl _) q86 ω2 _, ?_⟩
     refine Lt.setS r71 q86 ω3 (fun H_7 hl_88 o90 k89 => ?_)
     have l91 := k89.1
     have g92 := g77.transA k89
     have l93 := g92.1
     have o94 := o69.keepA (fun x hx => by have := lo_p x hx; have := up_p x hx; omega) k89
     have w95 := o94.lt
     have o96 := o70.keepA (fun x hx => by have := lo_p x hx; have := up_p x hx; omega) k89
     have w97 := o96.lt
     have r98 := r73.keepA (sp_m) k89
     rw [show IntKind.wrap .i64 (t42 + 1) = (t42 + 1) from wrap64 ω2 ω2]
     refine f1az_n2 (μ - 1) ω16 ⟨_, o94, o96, o90, ω17, r98, ω2, ω2, ω2, ω2, ω1, ω1, ω16, ω12⟩
    ·have e := e.trans (cond_f c87)
     refine ⟨((y2_1).getD (t42 : Int).toNat 0), (r71.isL).rd (Grow.refl _) q86 ω2 _, ?_⟩
     refine Lt.setS r71 q86 ω3 (fun H_8 hl_99 o101 k100 => ?_)
     have l102 := k100.1
     have g103 := g77.transA k100
     have l104 := g103.1
     have o105 := o69.keepA (fun x hx => by have := lo_p x hx; have := up_p x hx; omega) k100
     have w106 := o105.lt
     have o107 := o70.keepA (fun x hx => by have := lo_p x hx; have := up_p x hx; omega) k100
     have w108 := o107.lt
     have r109 := r73.keepA (sp_m) k100
     rw [show IntKind.wrap .i64 (t42 + 1) = (t42 + 1) from wrap64 ω2 ω2]
     refine f1az_n2 (μ - 1) ω16 ⟨_, o105, o107, o101, ω17, r109, ω2, ω2, ω2, ω2, ω1, ω1, ω16, ω12⟩
   ·have e := e.trans (cond_f c83)
    have c_83' := of_decide_eq_false c83
    rw [f1az_x2_2]
    rw [e] at hk
    exact hk H_6 g77 r71 r73
theorem f1az_ok : FnOk Try.prog 50 S_f1az := by
 refine FnOk.body mix_ok E_f1az_ok Try.func50 rfl ω10 ω10 ?_ ?_ ?_ ?_ ?_
 ·intro args H K K' h hk
  simp only [S_f1az] at *
  unfold F_f1az at *
  split at hk
  ·obtain ⟨lo, lob, na, eb, i_evens, i_odds, sp_m, bd_112, bd_113, pr0, pr1, pr2, k⟩ := hk
   exact ⟨lo, lob, na, eb, i_evens, i_odds, sp_m, bd_112, bd_113, pr0, pr1, pr2, (fun H' gg ow ow2 => h _ _ (k H' gg ow ow2))⟩
  ·exact hk.elim
 ·intro hq; cases hq
 ·intro args H K hk
  simp only [S_f1az] at *
  unfold F_f1az at *
  split at hk
  ·obtain ⟨lo, lob, na, eb, i_evens, i_odds, sp_m, bd_112, bd_113, pr0, pr1, pr2, k⟩ := hk
   exact (i_evens.put2 i_odds sp_m _ _ (by rw [wLowI_length]) (by rw [wHighI_length])).elim fun H1 h => ⟨_, _, k H1 h.1 h.2.1 h.2.2⟩
  ·exact hk.elim
 ·intro hq; cases hq
 ·have mm := @f1az_main
  have ml := fun (args : List Value) (H : AHeap) (K : Value → AHeap → Prop) => bodyL_body (P := Try.prog) (env := E_f1az ) (fn := Try.f50) (args := args) (H := H) (K := K) E_f1az_ok 
  revert mm ml
  generalize bodyK Try.prog E_f1az Try.f50 = Q
  generalize bodyL Try.prog E_f1az Try.f50 = QL
  intro mm ml args H K hk
  simp only [S_f1az] at *
  unfold F_f1az at *
  split at hk
  ·exact ml _ H K (mm _ _ _ _ _ _ _ _ _ H K hk)
  ·exact hk.elim

def p_f2z_l1 (na : LN) (eb : LN) : Nat → LN → Int → LN
 | 0, _, _ => []
 | μ + 1, tc, t11 => (bif decide ((t11 : Int) < (na.length : Int)) then (bif decide ((t11 : Int) < (eb.length : Int)) then (p_f2z_l1 na eb μ (((tc ++ [(((na).getD (t11 : Int).toNat 0))]) ++ [(((eb).getD (t11 : Int).toNat 0))])) (t11 + 1)) else (p_f2z_l1 na eb μ ((tc ++ [(((na).getD (t11 : Int).toNat 0))])) (t11 + 1))) else tc)
def p_f2z_l1_s := fun na eb μ tc t11 => @p_f2z_l1.eq_2 na eb tc t11 μ
def p_f2z (na : LN) (eb : LN) : LN := (p_f2z_l1 na eb (Int.toNat ((na.length : Int) - (0 : Int)) + 1) ([] : LN) (0 : Int))
def p_f2z_eq := @p_f2z.eq_1
def T_f2z (bb : OA) (ua : Nat) (nb : Nat) (sb : OA) (pb : Nat) (xb : Nat) (H : AHeap) (K : OA → Nat → Nat → AHeap → Prop) : Prop := ∃ (na : LN), ∃ (eb : LN), IsL fF H bb ua na ∧ IsL fF H sb pb eb ∧ na.length < 1073741824 ∧ eb.length < 1073741824 ∧ ((∀ (cd : OA) (ld jd : Nat), ∀ H' : AHeap, Grow H H' → OwnS fF H' H.length cd ld jd (p_f2z na eb) → K cd ld jd H'))
theorem T_f2z_i {bb : OA} {ua : Nat} {nb : Nat} {sb : OA} {pb : Nat} {xb : Nat} {H : AHeap} {K : OA → Nat → Nat → AHeap → Prop} (h : ∃ (na : LN), ∃ (eb : LN), IsL fF H bb ua na ∧ IsL fF H sb pb eb ∧ na.length < 1073741824 ∧ eb.length < 1073741824 ∧ ((∀ (cd : OA) (ld jd : Nat), ∀ H' : AHeap, Grow H H' → OwnS fF H' H.length cd ld jd (p_f2z na eb) → K cd ld jd H'))) : T_f2z bb ua nb sb pb xb H K := h

theorem impl_woven_go (e o : LN) : ∀ (μ k : Nat), k ≤ e.length → e.length - k < μ → p_f2z_l1 e o μ (wv e o k) (k : Int) = wv e o e.length := by
 intro μ
 induction μ with
 | zero => intro k _ h; omega
 | succ μ ih =>
  intro k hk hm
  rw [p_f2z_l1_s]
  by_cases h : k < e.length
  ·rw [decide_eq_true (show (k : Int) < (e.length : Int) by omega), cond_true, Int.toNat_natCast]
   have := ih (k + 1) ω2 ω2
   rw [wv_succ] at this
   by_cases h2 : k < o.length
   ·rw [decide_eq_true (show (k : Int) < (o.length : Int) by omega), cond_true]
    rw [show wvF e o k = [e.getD k 0, o.getD k 0] from if_pos h2] at this
    rw [List.append_assoc]
    exact this
   ·rw [decide_eq_false (show ¬ (k : Int) < (o.length : Int) by omega), cond_false]
    rw [show wvF e o k = [e.getD k 0] from if_neg h2] at this
    exact this
  ·obtain rfl : k = e.length := by omega
   rw [decide_eq_false (show ¬ ((e.length : Nat) : Int) < (e.length : Int) by omega), cond_false]
theorem impl_woven_val (e o : LN) : p_f2z e o = wv e o e.length := by
 rw [p_f2z_eq]
 exact impl_woven_go e o (Int.toNat ((e.length : Int) - (0 : Int)) + 1) 0 ω2 ω2
theorem impl_woven_len (e o : LN) : (p_f2z e o).length ≤ 2 * e.length := by
 rw [impl_woven_val, wv_len]; omega
/-! f2z: function 54 -/
def E_f2z : Env := envOf []
def F_f2z : List Value → AHeap → (Value → AHeap → Prop) → Prop
 | [.slice bb ua nb, .slice sb pb xb], H, K => T_f2z bb ua nb sb pb xb H fun (cd : OA) (ld : Nat) (jd : Nat) (H' : AHeap) => K (.slice cd ld jd) H'
 | _, _, _ => False
def S_f2z : FSpec := { F := F_f2z, quiet := false, tame := true }
theorem f2z_vc (bb : OA) (ua : Nat) (nb : Nat) (sb : OA) (pb : Nat) (xb : Nat) (H : AHeap) (K : Value → AHeap → Prop) : bodyL Try.prog E_f2z Try.f54 [.slice bb ua nb, .slice sb pb xb] H K =
 (Al [] H fun b1 H1 => loopK (exL Try.prog E_f2z (cl (cl (cr (cl (cr (cr (bodyC Try.f54))))))) 3618 16 [(0, 32)]) (ud :: .slice sb pb xb :: ud3 (.slice (some ⟨b1, 0, none⟩) 0 1 :: ud3 (.slice bb ua nb :: .int .i64 (ua : Int) :: .int .i64 0 :: ud21 []))) H1 (blockQ 0 (seqQ (exL Try.prog E_f2z (cr (cr (cr (bodyC Try.f54)))) 16 16 []) (retK Try.prog Try.f54 K)))) := by kernel_rfl
abbrev f2z_P1 (bb : OA) (nb : Nat) (ua : Nat) (sb : OA) (xb : Nat) (pb : Nat) (nc : OA) (lc : Nat) (xc : Nat) (t11 : Int)  : List Value := (ud :: .slice sb pb xb :: ud3 (.slice nc lc xc :: ud3 (.slice bb ua nb :: .int .i64 (ua : Int) :: .int .i64 t11 :: ud21 [])))
theorem f2z_r1 (bb : OA) (nb : Nat) (ua : Nat) (sb : OA) (xb : Nat) (pb : Nat) (nc : OA) (lc : Nat) (xc : Nat) (t11 : Int)  (H : AHeap) (R : Post) : exL Try.prog E_f2z (cl (cl (cr (cl (cr (cr (bodyC Try.f54))))))) 3618 16 [(0, 32)] (f2z_P1 bb nb ua sb xb pb nc lc xc t11) H R =
 (Br (decide ((t11 : Int) < (ua : Int))) ((0 : Int) ≤ t11 ∧ t11 < (ua : Int) ∧ ∃ b2 f1, (bb : OA) = some ⟨b2, f1, none⟩ ∧ ∃ x1 : Nat,  rdC H b2 (f1 + (t11 : Int).toNat * 1) = some (.float .f32 x1) ∧ Al [.float .f32 x1] H fun b3 H2 => ∃ o1 w1 : List Value, ownB H2 nc lc xc 1 = some o1 ∧ rdS H2 (some ⟨b3, 0, none⟩) (1 * 1) = some w1 ∧ ((nc : OA) = none → 0 < (1 : Nat)) ∧ (lc : Nat) + 1 < most ∧ Ap H2 (killB H2 nc ++ [some ⟨o1 ++ w1, true⟩]) fun b4 H3 => Br (decide ((t11 : Int) < (pb : Int))) ((0 : Int) ≤ t11 ∧ t11 < (pb : Int) ∧ ∃ b5 f2, (sb : OA) = some ⟨b5, f2, none⟩ ∧ ∃ x2 : Nat,  rdC H3 b5 (f2 + (t11 : Int).toNat * 1) = some (.float .f32 x2) ∧ Al [.float .f32 x2] H3 fun b6 H4 => ∃ o2 w2 : List Value, ownB H4 (some ⟨b4, 0, none⟩) (lc + 1) 1 1 = some o2 ∧ rdS H4 (some ⟨b6, 0, none⟩) (1 * 1) = some w2 ∧ ((some ⟨b4, 0, none⟩ : OA) = none → 0 < (1 : Nat)) ∧ (lc + 1 : Nat) + 1 < most ∧ Ap H4 (killB H4 (some ⟨b4, 0, none⟩) ++ [some ⟨o2 ++ w2, true⟩]) fun b7 H5 => R .normal (ud :: .slice sb pb xb :: ud3 (.slice (some ⟨b7, 0, none⟩) ((lc + 1) + 1) 1 :: ud3 (.slice bb ua nb :: .int .i64 (ua : Int) :: .int .i64 (IntKind.wrap .i64 (t11 + 1)) :: ud21 []))) H5) (R .normal (ud :: .slice sb pb xb :: ud3 (.slice (some ⟨b4, 0, none⟩) (lc + 1) 1 :: ud3 (.slice bb ua nb :: .int .i64 (ua : Int) :: .int .i64 (IntKind.wrap .i64 (t11 + 1)) :: ud21 []))) H3)) (R (.exit 0) (ud5 (.slice nc lc xc :: ud27 [])) H)) := by kernel_rfl
def f2z_I1 (bb : OA) (nb : Nat) (ua : Nat) (sb : OA) (xb : Nat) (pb : Nat) (Inv : Nat → OA → Nat → Nat → Int → AHeap → Prop) : Nat → List Value → AHeap → Prop := fun μ tm H => ∃ (nc : OA), ∃ (lc : Nat), ∃ (xc : Nat), ∃ (t11 : Int), tm = (f2z_P1 bb nb ua sb xb pb nc lc xc t11) ∧ Inv μ nc lc xc t11 H
theorem f2z_L1 (bb : OA) (nb : Nat) (ua : Nat) (sb : OA) (xb : Nat) (pb : Nat) {Q : Post} (Inv : Nat → OA → Nat → Nat → Int → AHeap → Prop) (ν : Nat) (nc : OA) (lc : Nat) (xc : Nat) (t11 : Int)  (H : AHeap) (h0 : Inv ν nc lc xc t11 H)
  (hs : ∀ (μ : Nat) (nc : OA) (lc : Nat) (xc : Nat) (t11 : Int)  (H : AHeap), Inv μ nc lc xc t11 H → exL Try.prog E_f2z (cl (cl (cr (cl (cr (cr (bodyC Try.f54))))))) 3618 16 [(0, 32)] (f2z_P1 bb nb ua sb xb pb nc lc xc t11) H (loopQ (f2z_I1 bb nb ua sb xb pb Inv) μ Q)) : loopK (exL Try.prog E_f2z (cl (cl (cr (cl (cr (cr (bodyC Try.f54))))))) 3618 16 [(0, 32)]) (f2z_P1 bb nb ua sb xb pb nc lc xc t11) H Q :=
 ⟨f2z_I1 bb nb ua sb xb pb Inv, ν, ⟨nc, lc, xc, t11, rfl, h0⟩, fun μ tm H h => by obtain ⟨nc, lc, xc, t11, rfl, hI⟩ := h; exact hs μ nc lc xc t11  H hI⟩
theorem f2z_n1 {bb : OA} {nb : Nat} {ua : Nat} {sb : OA} {xb : Nat} {pb : Nat} {Q : Post} {Inv : Nat → OA → Nat → Nat → Int → AHeap → Prop} {μ : Nat} (μ' : Nat) {nc : OA} {lc : Nat} {xc : Nat} {t11 : Int}  {H : AHeap} (hm : μ' < μ) (hI : Inv μ' nc lc xc t11 H) : loopQ (f2z_I1 bb nb ua sb xb pb Inv) μ Q .normal (f2z_P1 bb nb ua sb xb pb nc lc xc t11) H := ⟨μ', hm, nc, lc, xc, t11, rfl, hI⟩
theorem f2z_x1_0 (nc : OA) (lc : Nat) (xc : Nat) (H : AHeap) (K : Value → AHeap → Prop)  {I : Nat → List Value → AHeap → Prop} {μ : Nat} : loopQ I μ (blockQ 0 (seqQ (exL Try.prog E_f2z (cr (cr (cr (bodyC Try.f54)))) 16 16 []) (retK Try.prog Try.f54 K))) (.exit 0) (ud5 (.slice nc lc xc :: ud27 [])) H =
 (K (.slice nc lc xc) H) := by kernel_rfl
theorem E_f2z_ok : ∀ g, FnOk Try.prog g (E_f2z g) := FnOk.envOf (by
 intro x hx; cases hx)
theorem f2z_main (bb : OA) (ua : Nat) (nb : Nat) (sb : OA) (pb : Nat) (xb : Nat) (H : AHeap) (K : Value → AHeap → Prop) (h : T_f2z bb ua nb sb pb xb H fun (cd : OA) (ld : Nat) (jd : Nat) (H' : AHeap) => K (.slice cd ld jd) H') : bodyL Try.prog E_f2z Try.f54 [.slice bb ua nb, .slice sb pb xb] H K := by
 rw [f2z_vc]
 obtain ⟨na, eb, i_evens, i_odds, bd_80, bd_81, hk⟩ := h
 obtain rfl := i_evens.eqn
 obtain rfl := i_odds.eqn
 have e : (p_f2z na eb) = _ := rfl
 have e := e.trans (p_f2z_eq na eb)
 have g0 := Grow.refl H
 refine Al.intro (fun b_1 H_1 hb_2 hl_3 g_4 o_5 => ?_)
 have o_5 : Own H_1 b_1 ((([] : LN)).map fF) := o_5
 have l_7 := g_4.1
 have g_8 := g0.trans g_4
 have l_9 := g_8.1
 have w79 := o_5.lt
 refine f2z_L1 _ _ _ _ _ _ (fun (μ : Nat) (nc : OA) (lc : Nat) (xc : Nat) (t11 : Int) (H_2 : AHeap) => ∃ (tc : LN), ∃ (b_10 : Nat), nc = some ⟨b_10, 0, none⟩ ∧ lc = tc.length ∧ xc = 1 ∧ Own H_2 b_10 (tc.map fF) ∧ Grow H H_2 ∧ H.length ≤ b_10 ∧ (0 : Int) ≤ t11 ∧ t11 ≤ (na.length : Int) ∧ (tc.length : Int) ≤ 2 * (t11) ∧ (na.length : Int) - t11 ≤ (μ : Int) ∧ p_f2z na eb = p_f2z_l1 na eb (μ + 1) tc t11) (Int.toNat ((na.length : Int) - (0 : Int))) _ _ _ _ H_1 ?_ ?_
 ·exact ⟨_, _, rfl, ω7, rfl, o_5, g_8, ω2, ω6, ω6, ω6, ω2, e⟩
 ·intro μ nc lc xc t11  H_2 hI
  obtain ⟨tc, b_10, rfl, rfl, rfl, o11, g12, l_13, v_14, v_15, v_16, hμ, e⟩ := hI
  rw [f2z_r1]
  have e := e.trans (p_f2z_l1_s na eb μ tc t11)
  have w17 := o11.lt
  have l_18 := g12.1
  refine Br.intro (fun c_19 => ?_) (fun c_19 => ?_)
  ·have e := e.trans (cond_t c_19)
   have c_19' := of_decide_eq_true c_19
   obtain ⟨b20, f_21, q22⟩ := ((i_evens.grow g12)).pos ω0
   refine ⟨by omega, by omega, b20, f_21, q22, ?_⟩
   refine ⟨((na).getD (t11 : Int).toNat 0), (i_evens).rd g12 q22 ω2 _, ?_⟩
   refine Al.intro (fun b_23 H_3 hb_24 hl_25 g26 o27 => ?_)
   have o27 : Own H_3 b_23 (([(((na).getD (t11 : Int).toNat 0))]).map fF) := o27
   have l29 := g26.1
   have g30 := g12.trans g26
   have l31 := g30.1
   have o32 := o11.grow g26
   have w33 := o32.lt
   have w78 := o27.lt
   refine ⟨_, _, o32.ownB ω4 rfl, (isl_rdS (o27.isL ω7)), (fun h => by cases h), ω19, ?_⟩
   refine Ap.app o32 rfl rfl (fun b38 H_4 q76 hl_34 o35 k36 => ?_)
   have o35 := map_snoc o35
   have l39 := k36.1
   have g40 := g30.keep (b := b_10) ω2 k36
   have l41 := g40.1
   have o42 := o27.keep ω2 k36
   have w43 := o42.lt
   have w77 := o35.lt
   refine Br.intro (fun c44 => ?_) (fun c44 => ?_)
   ·have e := e.trans (cond_t c44)
    have c_44' := of_decide_eq_true c44
    obtain ⟨b45, f46, q47⟩ := ((i_odds.grow g40)).pos ω0
    refine ⟨by omega, by omega, b45, f46, q47, ?_⟩
    refine ⟨((eb).getD (t11 : Int).toNat 0), (i_odds).rd g40 q47 ω2 _, ?_⟩
    refine Al.intro (fun b48 H_5 hb_49 hl_50 g51 o52 => ?_)
    have o52 : Own H_5 b48 (([(((eb).getD (t11 : Int).toNat 0))]).map fF) := o52
    have l54 := g51.1
    have g55 := g40.trans g51
    have l56 := g55.1
    have o57 := o42.grow g51
    have w58 := o57.lt
    have o59 := o35.grow g51
    have w60 := o59.lt
    have w75 := o52.lt
    refine ⟨_, _, o59.ownB ω4 rfl, (isl_rdS (o52.isL ω7)), (fun h => by cases h), ω19, ?_⟩
    refine Ap.app o59 rfl rfl (fun b65 H_6 q73 hl_61 o62 k63 => ?_)
    have o62 := map_snoc o62
    have l66 := k63.1
    have g67 := g55.keep (b := b38) ω2 k63
    have l68 := g67.1
    have o69 := o57.keep ω2 k63
    have w70 := o69.lt
    have o71 := o52.keep ω2 k63
    have w72 := o71.lt
    have w74 := o62.lt
    rw [show IntKind.wrap .i64 (t11 + 1) = (t11 + 1) from wrap64 ω2 ω2]
    refine f2z_n1 (μ - 1) ω16 ⟨_, _, rfl, ω5, rfl, o62, g67, ω2, ω1, ω1, ω1, ω16, ω12⟩
   ·have e := e.trans (cond_f c44)
    have c_44' := of_decide_eq_false c44
    rw [show IntKind.wrap .i64 (t11 + 1) = (t11 + 1) from wrap64 ω2 ω2]
    refine f2z_n1 (μ - 1) ω16 ⟨_, _, rfl, ω5, rfl, o35, g40, ω2, ω1, ω1, ω1, ω16, ω12⟩
  ·have e := e.trans (cond_f c_19)
   have c_19' := of_decide_eq_false c_19
   rw [f2z_x1_0]
   rw [e] at hk
   exact hk _ _ _ H_2 g12 (o11.ownS ω7 ω2)
theorem f2z_ok : FnOk Try.prog 54 S_f2z := by
 refine FnOk.body mix_ok E_f2z_ok Try.func54 rfl ω10 ω10 ?_ ?_ ?_ ?_ ?_
 ·intro args H K K' h hk
  simp only [S_f2z] at *
  unfold F_f2z at *
  split at hk
  ·obtain ⟨na, eb, i_evens, i_odds, bd_80, bd_81, k⟩ := hk
   exact ⟨na, eb, i_evens, i_odds, bd_80, bd_81, (fun cd ld jd H' gg ow0 => h _ _ (k cd ld jd H' gg ow0))⟩
  ·exact hk.elim
 ·intro hq; cases hq
 ·intro args H K hk
  simp only [S_f2z] at *
  unfold F_f2z at *
  split at hk
  ·obtain ⟨na, eb, i_evens, i_odds, bd_80, bd_81, k⟩ := hk
   exact liveS fun a n e H1 g o => ⟨_, _, k a n e H1 g o⟩
  ·exact hk.elim
 ·intro _ args H K hk
  simp only [S_f2z] at *
  unfold F_f2z at *
  split at hk
  ·obtain ⟨na, eb, i_evens, i_odds, bd_80, bd_81, k⟩ := hk
   exact ⟨na, eb, i_evens, i_odds, bd_80, bd_81, (fun cd ld jd H' gg ow0 => ⟨gg, k cd ld jd H' gg ow0⟩)⟩
  ·exact hk.elim
 ·have mm := @f2z_main
  have ml := fun (args : List Value) (H : AHeap) (K : Value → AHeap → Prop) => bodyL_body (P := Try.prog) (env := E_f2z ) (fn := Try.f54) (args := args) (H := H) (K := K) E_f2z_ok 
  revert mm ml
  generalize bodyK Try.prog E_f2z Try.f54 = Q
  generalize bodyL Try.prog E_f2z Try.f54 = QL
  intro mm ml args H K hk
  simp only [S_f2z] at *
  unfold F_f2z at *
  split at hk
  ·exact ml _ H K (mm _ _ _ _ _ _ H K hk)
  ·exact hk.elim

def p_fcz (db : LN) : LN × Bool := (bif !((p_fhz ([db]))) then ([], false) else (db, true))
def p_fcz_eq := @p_fcz.eq_1
def T_fcz (wb : OA) (qb : Nat) (dc : Nat) (H : AHeap) (K : OA → Nat → Nat → Bool → AHeap → Prop) : Prop := ∃ (db : LN), IsL fF H wb qb db ∧ db.length < 1073741824 ∧ ((∀ H' : AHeap, Grow H H' → Br ((p_fcz db).2) (K wb qb dc true H') (K none 0 0 false H')))
theorem T_fcz_i {wb : OA} {qb : Nat} {dc : Nat} {H : AHeap} {K : OA → Nat → Nat → Bool → AHeap → Prop} (h : ∃ (db : LN), IsL fF H wb qb db ∧ db.length < 1073741824 ∧ ((∀ H' : AHeap, Grow H H' → Br ((p_fcz db).2) (K wb qb dc true H') (K none 0 0 false H')))) : T_fcz wb qb dc H K := h

/-! fcz: function 53 -/
def E_fcz : Env := envOf [(42, S_fhz)]
def F_fcz : List Value → AHeap → (Value → AHeap → Prop) → Prop
 | [.slice wb qb dc], H, K => T_fcz wb qb dc H fun (cd : OA) (ld : Nat) (jd : Nat) (r2 : Bool) (H' : AHeap) => K (.tuple #[.slice cd ld jd, .bool r2]) H'
 | _, _, _ => False
def S_fcz : FSpec := { F := F_fcz, quiet := false, tame := true }
theorem fcz_vc (wb : OA) (qb : Nat) (dc : Nat) (H : AHeap) (K : Value → AHeap → Prop) : bodyL Try.prog E_fcz Try.f53 [.slice wb qb dc] H K =
 (Al [.slice wb qb dc] H fun b1 H1 => T_fhz (some ⟨b1, 0, none⟩) 1 1 H1 fun (r1 : Bool) (H2 : AHeap) => Br (!r1) (K (.tuple #[.slice none 0 0, .bool false]) H2) (K (.tuple #[.slice wb qb dc, .bool true]) H2)) := by kernel_rfl
theorem E_fcz_ok : ∀ g, FnOk Try.prog g (E_fcz g) := FnOk.envOf (by
 intro x hx
 simp only [List.mem_cons, List.not_mem_nil, or_false] at hx
 subst hx; exact fhz_ok)
theorem fcz_main (wb : OA) (qb : Nat) (dc : Nat) (H : AHeap) (K : Value → AHeap → Prop) (h : T_fcz wb qb dc H fun (cd : OA) (ld : Nat) (jd : Nat) (r2 : Bool) (H' : AHeap) => K (.tuple #[.slice cd ld jd, .bool r2]) H') : bodyL Try.prog E_fcz Try.f53 [.slice wb qb dc] H K := by
 rw [fcz_vc]
 obtain ⟨db, i_list, bd_12, hk⟩ := h
 obtain rfl := i_list.eqn
 have e : (p_fcz db) = _ := rfl
 have e := e.trans (p_fcz_eq db)
 have g0 := Grow.refl H
 refine Al.intro (fun b_1 H_1 hb_2 hl_3 g_4 o_5 => ?_)
 have l_7 := g_4.1
 have g_8 := g0.trans g_4
 have l_9 := g_8.1
 have w11 := o_5.lt
 refine T_fhz_i ⟨[db], ⟨_, o_5.rdAll rfl, LLc.cons (i_list.grow g_8) (LLc.nil _ _)⟩, ω0, ω8, ?_⟩
 refine Br.intro (fun c_10 => ?_) (fun c_10 => ?_)
 ·have e := e.trans (cond_t c_10)
  have c_10n := nf_of_t c_10
  have q := hk H_1 g_8
  rw [e] at q
  exact q
 ·have e := e.trans (cond_f c_10)
  have c_10n := nt_of_f c_10
  have q := hk H_1 g_8
  rw [e] at q
  exact q
theorem fcz_ok : FnOk Try.prog 53 S_fcz := by
 refine FnOk.body mix_ok E_fcz_ok Try.func53 rfl ω10 ω10 ?_ ?_ ?_ ?_ ?_
 ·intro args H K K' h hk
  simp only [S_fcz] at *
  unfold F_fcz at *
  split at hk
  ·obtain ⟨db, i_list, bd_12, k⟩ := hk
   exact ⟨db, i_list, bd_12, (fun H' gg => Br_mono (h _ _) (h _ _) (k H' gg))⟩
  ·exact hk.elim
 ·intro hq; cases hq
 ·intro args H K hk
  simp only [S_fcz] at *
  unfold F_fcz at *
  split at hk
  ·obtain ⟨db, i_list, bd_12, k⟩ := hk
   exact Br_live (k H (Grow.refl H))
  ·exact hk.elim
 ·intro _ args H K hk
  simp only [S_fcz] at *
  unfold F_fcz at *
  split at hk
  ·obtain ⟨db, i_list, bd_12, k⟩ := hk
   exact ⟨db, i_list, bd_12, (fun H' gg => Br_mono (fun q => ⟨gg, q⟩) (fun q => ⟨gg, q⟩) (k H' gg))⟩
  ·exact hk.elim
 ·have mm := @fcz_main
  have ml := fun (args : List Value) (H : AHeap) (K : Value → AHeap → Prop) => bodyL_body (P := Try.prog) (env := E_fcz ) (fn := Try.f53) (args := args) (H := H) (K := K) E_fcz_ok 
  revert mm ml
  generalize bodyK Try.prog E_fcz Try.f53 = Q
  generalize bodyL Try.prog E_fcz Try.f53 = QL
  intro mm ml args H K hk
  simp only [S_fcz] at *
  unfold F_fcz at *
  split at hk
  ·exact ml _ H K (mm _ _ _ H K hk)
  ·exact hk.elim

def p_frz_l3 (ba : LN) (s_Scale : Nat) (mb : LN) (pa : LN) (t60 : Int) (y1_1 : LN) (y1_2 : LN) (t74 : Int) (y2_1 : LN) (y2_2 : LN) (k3_4 : Int → LN → LN → (LN × Bool)) : Nat → Int → LN → LN → LN × Bool
 | 0, _, _, _ => ([], false)
 | μ3 + 1, i, y3_1, y3_2 => (bif decide ((0 : Int) ≤ i) then (p_frz_l3 ba s_Scale mb pa t60 y1_1 y1_2 t74 y2_1 y2_2 k3_4 μ3 (i - 1) ((wLowI i (((ba).getD (i : Int).toNat 0)) true y3_1 y3_2)) ((wHighI i (((ba).getD (i : Int).toNat 0)) true y3_1 y3_2))) else (k3_4 i y3_1 y3_2))
def p_frz_l3_s := fun ba s_Scale mb pa t60 y1_1 y1_2 t74 y2_1 y2_2 k3_4 μ3 i y3_1 y3_2 => @p_frz_l3.eq_2 ba s_Scale mb pa t60 y1_1 y1_2 t74 y2_1 y2_2 k3_4 i y3_1 y3_2 μ3
def p_frz_l2 (ba : LN) (s_Scale : Nat) (mb : LN) (pa : LN) (t60 : Int) (y1_1 : LN) (y1_2 : LN) (k2_2 : Int → LN → LN → (LN × Bool)) : Nat → Int → LN → LN → LN × Bool
 | 0, _, _, _ => ([], false)
 | μ2 + 1, t74, y2_1, y2_2 => (bif decide ((t74 : Int) < ((pa).length : Int)) then (p_frz_l2 ba s_Scale mb pa t60 y1_1 y1_2 k2_2 μ2 (t74 + 1) y2_1 (((y2_2).set (t74 : Int).toNat ((fmul .f32 (((y2_2).getD (t74 : Int).toNat 0)) s_Scale))))) else (k2_2 t74 y2_1 y2_2))
def p_frz_l2_s := fun ba s_Scale mb pa t60 y1_1 y1_2 k2_2 μ2 t74 y2_1 y2_2 => @p_frz_l2.eq_2 ba s_Scale mb pa t60 y1_1 y1_2 k2_2 t74 y2_1 y2_2 μ2
def p_frz_l1 (ba : LN) (s_Scale : Nat) (mb : LN) (pa : LN) : Nat → Int → LN → LN → LN × Bool
 | 0, _, _, _ => ([], false)
 | μ + 1, t60, y1_1, y1_2 => (bif decide ((t60 : Int) < ((mb).length : Int)) then (p_frz_l1 ba s_Scale mb pa μ (t60 + 1) (((y1_1).set (t60 : Int).toNat ((fdiv .f32 (((y1_1).getD (t60 : Int).toNat 0)) s_Scale)))) y1_2) else (p_frz_l2 ba s_Scale mb pa t60 y1_1 y1_2 (fun (t74 : Int) (y2_1 : LN) (y2_2 : LN) => (p_frz_l3 ba s_Scale mb pa t60 y1_1 y1_2 t74 y2_1 y2_2 (fun (i : Int) (y3_1 : LN) (y3_2 : LN) => (bif (p_fcz (p_f2z y3_1 y3_2)).2 then ((p_f2z y3_1 y3_2), true) else ([], false))) (Int.toNat (((((ba.length : Int) - 1))) - 0 + 1) + 1) ((((ba.length : Int) - 1))) y2_1 y2_2)) (Int.toNat (((pa).length : Int) - (0 : Int)) + 1) (0 : Int) y1_1 y1_2))
def p_frz_l1_s := fun ba s_Scale mb pa μ t60 y1_1 y1_2 => @p_frz_l1.eq_2 ba s_Scale mb pa t60 y1_1 y1_2 μ
def p_frz (ba : LN) (s_Scale : Nat) (mb : LN) (pa : LN) : LN × Bool := ((bif !(p_f7z ba s_Scale) then ([], false) else (bif decide (((mb.length : Int) : Int) < 1) then ([], false) else (bif ((pa.length : Int) : Int) != (mb.length : Int) then (bif ((pa.length : Int) : Int) != ((mb.length : Int) - 1) then ([], false) else (bif decide ((128 : Int) < ((mb.length : Int) + (pa.length : Int))) then ([], false) else (bif !((p_fhz ([mb, pa]))) then ([], false) else (bif (((pa).length : Int) : Int) == 0 then (mb, true) else (p_frz_l1 ba s_Scale mb pa (Int.toNat (((mb).length : Int) - (0 : Int)) + 1) (0 : Int) mb pa))))) else (bif decide ((128 : Int) < ((mb.length : Int) + (pa.length : Int))) then ([], false) else (bif !((p_fhz ([mb, pa]))) then ([], false) else (bif (((pa).length : Int) : Int) == 0 then (mb, true) else (p_frz_l1 ba s_Scale mb pa (Int.toNat (((mb).length : Int) - (0 : Int)) + 1) (0 : Int) mb pa))))))))
def p_frz_eq := @p_frz.eq_1
def T_frz (oa : OA) (lb : Nat) (va : Nat) (s_Scale : Nat) (oc : OA) (md : Nat) (nd : Nat) (yb : OA) (gc : Nat) (jc : Nat) (H : AHeap) (K : OA → Nat → Nat → Bool → AHeap → Prop) : Prop := ∃ (ba : LN), ∃ (mb : LN), ∃ (pa : LN), IsL fF H oa lb ba ∧ IsL fF H oc md mb ∧ IsL fF H yb gc pa ∧ ba.length < 1073741824 ∧ mb.length < 1073741824 ∧ pa.length < 1073741824 ∧ ((∀ (cd : OA) (ld jd : Nat), ∀ H' : AHeap, Grow H H' → OwnS fF H' H.length cd ld jd ((p_frz ba s_Scale mb pa).1) → K cd ld jd ((p_frz ba s_Scale mb pa).2) H'))
theorem T_frz_i {oa : OA} {lb : Nat} {va : Nat} {s_Scale : Nat} {oc : OA} {md : Nat} {nd : Nat} {yb : OA} {gc : Nat} {jc : Nat} {H : AHeap} {K : OA → Nat → Nat → Bool → AHeap → Prop} (h : ∃ (ba : LN), ∃ (mb : LN), ∃ (pa : LN), IsL fF H oa lb ba ∧ IsL fF H oc md mb ∧ IsL fF H yb gc pa ∧ ba.length < 1073741824 ∧ mb.length < 1073741824 ∧ pa.length < 1073741824 ∧ ((∀ (cd : OA) (ld jd : Nat), ∀ H' : AHeap, Grow H H' → OwnS fF H' H.length cd ld jd ((p_frz ba s_Scale mb pa).1) → K cd ld jd ((p_frz ba s_Scale mb pa).2) H'))) : T_frz oa lb va s_Scale oc md nd yb gc jc H K := h

def dfI (ws : LN) : Nat → LN → LN → LN × LN
 | 0, lo, hi => (lo, hi)
 | k + 1, lo, hi => dfI ws k (wLowI (k : Int) (ws.getD k 0) true lo hi) (wHighI (k : Int) (ws.getD k 0) true lo hi)
theorem dfI_length (ws : LN) : ∀ (k : Nat) (lo hi : LN), (dfI ws k lo hi).1.length = lo.length ∧ (dfI ws k lo hi).2.length = hi.length := by
 intro k
 induction k with
 | zero => intro lo hi; exact ⟨rfl, rfl⟩
 | succ k ih =>
  intro lo hi
  obtain ⟨h1, h2⟩ := ih (wLowI (k : Int) (ws.getD k 0) true lo hi) (wHighI (k : Int) (ws.getD k 0) true lo hi)
  exact ⟨h1.trans (wLowI_length _ _ _ _ _), h2.trans (wHighI_length _ _ _ _ _)⟩
theorem impl_DO_l3 (ws : LN) (sc : Nat) (l1 l2 : LN) (i : Int) (a b : LN) (i2 : Int) (c d : LN) (K : Int → LN → LN → LN × Bool) : ∀ (μ k : Nat) (y1 y2 : LN), k < μ →
  p_frz_l3 ws sc l1 l2 i a b i2 c d K μ ((k : Int) - 1) y1 y2 = K (-1) (dfI ws k y1 y2).1 (dfI ws k y1 y2).2 := by
 intro μ
 induction μ with
 | zero => intro k y1 y2 h; omega
 | succ μ ih =>
  intro k y1 y2 hm
  rw [p_frz_l3_s]
  cases k with
  | zero => rfl
  | succ k =>
   have e : ((k + 1 : Nat) : Int) - 1 = (k : Int) := by omega
   rw [e, decide_eq_true (show (0 : Int) ≤ (k : Int) by omega), cond_true, Int.toNat_natCast]
   exact ih k _ _ ω2
theorem impl_DO_l1 (ws : LN) (sc : Nat) (l1 l2 : LN) (y2 : LN) (K : Int → LN → LN → LN × Bool)
  (hK : ∀ (k : Int) (y1 y2 : LN), p_frz_l1 ws sc l1 l2 1 k y1 y2 = bif decide (k < (l1.length : Int)) then p_frz_l1 ws sc l1 l2 0 (k + 1) (y1.set k.toNat (fdiv .f32 (y1.getD k.toNat 0) sc)) y2 else K k y1 y2) (A : LN) (hA : A.length = l1.length) : ∀ (μ j : Nat), j ≤ l1.length → l1.length - j < μ →
  p_frz_l1 ws sc l1 l2 μ (j : Int) ((A.map fun x => fdiv .f32 x sc).take j ++ A.drop j) y2 = K (l1.length : Int) (A.map fun x => fdiv .f32 x sc) y2 := by
 intro μ
 induction μ with
 | zero => intro k _ h; omega
 | succ μ ih =>
  intro j hj hm
  by_cases h : j < l1.length
  ·rw [p_frz_l1_s]
   rw [decide_eq_true (show (j : Int) < (l1.length : Int) by omega), cond_true, Int.toNat_natCast, frontI_get _ _ _ ω2 (by simp)]
   have := ih (j + 1) ω2 ω2
   rw [set_front (A.map fun x => fdiv .f32 x sc) A j ω2 (by simp) _ (by simp [List.getD_eq_getElem?_getD, show j < A.length by omega])]
   exact this
  ·have e : j = l1.length := by omega
   have h1 := hK (j : Int) ((A.map fun x => fdiv .f32 x sc).take j ++ A.drop j) y2
   rw [p_frz_l1_s] at h1 ⊢
   rw [decide_eq_false (show ¬ (j : Int) < (l1.length : Int) by omega), cond_false, cond_false] at h1
   rw [decide_eq_false (show ¬ (j : Int) < (l1.length : Int) by omega), cond_false]
   refine h1.trans ?_
   rw [e, List.take_of_length_le (by simp [hA]), List.drop_of_length_le ω2, List.append_nil]
theorem impl_DO_l2 (ws : LN) (sc : Nat) (l1 l2 : LN) (i : Int) (a b : LN) (y1 : LN) (K : Int → LN → LN → LN × Bool) (A : LN) (hA : A.length = l2.length) : ∀ (μ j : Nat), j ≤ l2.length → l2.length - j < μ →
  p_frz_l2 ws sc l1 l2 i a b K μ (j : Int) y1 ((A.map fun x => fmul .f32 x sc).take j ++ A.drop j) = K (l2.length : Int) y1 (A.map fun x => fmul .f32 x sc) := by
 intro μ
 induction μ with
 | zero => intro k _ h; omega
 | succ μ ih =>
  intro j hj hm
  rw [p_frz_l2_s]
  by_cases h : j < l2.length
  ·rw [decide_eq_true (show (j : Int) < (l2.length : Int) by omega), cond_true, Int.toNat_natCast, frontI_get _ _ _ ω2 (by simp)]
   have := ih (j + 1) ω2 ω2
   rw [set_front (A.map fun x => fmul .f32 x sc) A j ω2 (by simp) _ (by simp [List.getD_eq_getElem?_getD, show j < A.length by omega])]
   exact this
  ·have e : j = l2.length := by omega
   rw [decide_eq_false (show ¬ (j : Int) < (l2.length : Int) by omega), cond_false, e, List.take_of_length_le (by simp [hA]), List.drop_of_length_le ω2, List.append_nil]
theorem fcz_bif (v : LN) : (bif (p_fcz v).2 then (v, true) else ([], false)) = (bif p_fhz [v] then (v, true) else ([], false)) := by
 rw [p_fcz_eq]
 cases p_fhz [v] <;> rfl
def dropEI (ws : LN) (sc : Nat) (e o : LN) : LN := (dfI ws ws.length (e.map fun x => fdiv .f32 x sc) (o.map fun x => fmul .f32 x sc)).1
def dropOI (ws : LN) (sc : Nat) (e o : LN) : LN := (dfI ws ws.length (e.map fun x => fdiv .f32 x sc) (o.map fun x => fmul .f32 x sc)).2
def dropWI (ws : LN) (sc : Nat) (e o : LN) : LN := wv (dropEI ws sc e o) (dropOI ws sc e o) e.length
theorem dropWI_len (ws : LN) (sc : Nat) (e o : LN) : (dropWI ws sc e o).length = e.length + min e.length o.length := by
 unfold dropWI dropEI dropOI
 obtain ⟨g1, g2⟩ := dfI_length ws ws.length (e.map fun x => fdiv .f32 x sc) (o.map fun x => fmul .f32 x sc)
 rw [wv_len, g2, List.length_map]
theorem impl_DO_go (ws : LN) (sc : Nat) (e o : LN) : p_frz_l1 ws sc e o (Int.toNat ((e.length : Int) - (0 : Int)) + 1) (0 : Int) e o = (bif p_fhz [dropWI ws sc e o] then (dropWI ws sc e o, true) else ([], false)) := by
 have h1 := impl_DO_l1 ws sc e o o _ (fun k y1 y2 => p_frz_l1_s ws sc e o 0 k y1 y2) e rfl (Int.toNat ((e.length : Int) - (0 : Int)) + 1) 0 ω2 ω2
 simp only [List.take_zero, List.drop_zero, List.nil_append] at h1
 refine Eq.trans h1 ?_
 have h2 := fun i a b y1 K => impl_DO_l2 ws sc e o i a b y1 K o rfl (Int.toNat ((o.length : Int) - (0 : Int)) + 1) 0 ω2 ω2
 simp only [List.take_zero, List.drop_zero, List.nil_append] at h2
 refine Eq.trans (h2 _ _ _ _ _) ?_
 refine Eq.trans (impl_DO_l3 ws sc e o _ _ _ _ _ _ _ (Int.toNat (((((ws.length : Int) - 1))) - 0 + 1) + 1) ws.length _ _ ω2) ?_
 obtain ⟨g1, g2⟩ := dfI_length ws ws.length (e.map fun x => fdiv .f32 x sc) (o.map fun x => fmul .f32 x sc)
 have ew : p_f2z (dropEI ws sc e o) (dropOI ws sc e o) = dropWI ws sc e o := by
  rw [impl_woven_val]
  unfold dropWI
  rw [show (dropEI ws sc e o).length = e.length from g1.trans (List.length_map ..)]
 show (bif (p_fcz (p_f2z (dropEI ws sc e o) (dropOI ws sc e o))).2 then (p_f2z (dropEI ws sc e o) (dropOI ws sc e o), true) else ([], false)) = _
 rw [ew, fcz_bif]
theorem impl_DO_val (ws : LN) (sc : Nat) (e o : LN) : p_frz ws sc e o = (bif p_f7z ws sc && decide (1 ≤ e.length) && (decide (o.length = e.length) || decide (o.length + 1 = e.length)) && decide (e.length + o.length ≤ 128) && p_fhz [e, o] then (bif decide (o.length = 0) then (e, true) else (bif p_fhz [dropWI ws sc e o] then (dropWI ws sc e o, true) else ([], false))) else ([], false)) := by
 rw [p_frz_eq]
 rw [impl_DO_go]
 have ez : (((o.length : Int) : Int) == 0) = decide (o.length = 0) := by
  by_cases h : o.length = 0 <;> simp [h]
 rw [ez]
 cases p_f7z ws sc with
 | false => rfl
 | true =>
  simp only [Bool.not_true, cond_false, Bool.true_and]
  by_cases h1 : 1 ≤ e.length
  ·rw [decide_eq_false (show ¬ (e.length : Int) < 1 by omega), decide_eq_true h1, cond_false, Bool.true_and]
   have h4 : decide ((128 : Int) < (e.length : Int) + (o.length : Int)) = !decide (e.length + o.length ≤ 128) := by
    by_cases c : e.length + o.length ≤ 128
    ·rw [decide_eq_true c, decide_eq_false ω2]; rfl
    ·rw [decide_eq_false c, decide_eq_true ω2]; rfl
   rw [h4]
   by_cases h2 : o.length = e.length
   ·rw [decide_eq_true h2, show (((o.length : Int) : Int) != (e.length : Int)) = false by simp [h2], cond_false, Bool.true_or, Bool.true_and]
    cases decide (e.length + o.length ≤ 128) <;> cases p_fhz [e, o] <;> rfl
   ·rw [decide_eq_false h2, show (((o.length : Int) : Int) != (e.length : Int)) = true by simp; omega, cond_true, Bool.false_or]
    by_cases h3 : o.length + 1 = e.length
    ·rw [decide_eq_true h3, show (((o.length : Int) : Int) != (e.length : Int) - 1) = false by simp; omega, cond_false, Bool.true_and]
     cases decide (e.length + o.length ≤ 128) <;> cases p_fhz [e, o] <;> rfl
    ·rw [decide_eq_false h3, show (((o.length : Int) : Int) != (e.length : Int) - 1) = true by simp; omega, cond_true, Bool.false_and, Bool.false_and]
     rfl
  ·rw [decide_eq_true (show (e.length : Int) < 1 by omega), decide_eq_false h1, cond_true]
   rfl
theorem impl_DO_ok (ws : LN) (sc : Nat) (e o : LN) (h : (p_frz ws sc e o).2 = true) : (p_frz ws sc e o).1.length = e.length + o.length ∧ 1 ≤ e.length := by
 rw [impl_DO_val] at h ⊢
 cases hc : p_f7z ws sc && decide (1 ≤ e.length) && (decide (o.length = e.length) || decide (o.length + 1 = e.length)) && decide (e.length + o.length ≤ 128) && p_fhz [e, o] with
 | false => rw [hc] at h; cases h
 | true =>
  rw [hc] at h
  rw [cond_true] at h ⊢
  simp only [Bool.and_eq_true, Bool.or_eq_true, decide_eq_true_eq] at hc
  have hl := dropWI_len ws sc e o
  by_cases h0 : o.length = 0
  ·rw [decide_eq_true h0, cond_true]
   exact ⟨by show e.length = _; omega, by omega⟩
  ·rw [decide_eq_false h0, cond_false] at h ⊢
   cases hf : p_fhz [dropWI ws sc e o] with
   | false => rw [hf] at h; cases h
   | true => rw [cond_true]; exact ⟨by show (dropWI ws sc e o).length = _; omega, by omega⟩
theorem impl_DO_len (ws : LN) (sc : Nat) (e o : LN) : (p_frz ws sc e o).1.length ≤ e.length + o.length := by
 cases h : (p_frz ws sc e o).2 with
 | true => exact Nat.le_of_eq (impl_DO_ok ws sc e o h).1
 | false =>
  rw [impl_DO_val] at h ⊢
  cases hc : p_f7z ws sc && decide (1 ≤ e.length) && (decide (o.length = e.length) || decide (o.length + 1 = e.length)) && decide (e.length + o.length ≤ 128) && p_fhz [e, o] with
  | false => exact Nat.zero_le _
  | true =>
   rw [hc] at h
   rw [cond_true] at h ⊢
   by_cases h0 : o.length = 0
   ·rw [decide_eq_true h0] at h; cases h
   ·rw [decide_eq_false h0, cond_false] at h ⊢
    cases hf : p_fhz [dropWI ws sc e o] with
    | false => exact Nat.zero_le _
    | true => rw [hf] at h; cases h
/-! frz: function 38 -/
def E_frz : Env := envOf [(26, S_f7z), (42, S_fhz), (52, S_f15z), (50, S_f1az), (54, S_f2z), (53, S_fcz)]
def F_frz : List Value → AHeap → (Value → AHeap → Prop) → Prop
 | [.agg ⟨[.slice oa lb va, .float .f32 s_Scale]⟩, .slice oc md nd, .slice yb gc jc], H, K => T_frz oa lb va s_Scale oc md nd yb gc jc H fun (cd : OA) (ld : Nat) (jd : Nat) (r2 : Bool) (H' : AHeap) => K (.tuple #[.slice cd ld jd, .bool r2]) H'
 | _, _, _ => False
def S_frz : FSpec := { F := F_frz, quiet := false, tame := true }
theorem frz_vc (oa : OA) (lb : Nat) (va : Nat) (s_Scale : Nat) (oc : OA) (md : Nat) (nd : Nat) (yb : OA) (gc : Nat) (jc : Nat) (H : AHeap) (K : Value → AHeap → Prop) : bodyL Try.prog E_frz Try.f38 [.agg #[.slice oa lb va, .float .f32 s_Scale], .slice oc md nd, .slice yb gc jc] H K =
 (Al [.slice oa lb va, .float .f32 s_Scale] H fun b1 H1 => ∃ xf : OA, ∃ zf : Nat, ∃ yf : Nat, ∃ c2 : Nat,  rdN H1 b1 0 2 = some [.slice xf zf yf, .float .f32 c2] ∧ T_f7z xf zf yf c2 H1 fun (r1 : Bool) (H2 : AHeap) => Br (!r1) (K (.tuple #[.slice none 0 0, .bool false]) H2) (Br (decide (((md : Int) : Int) < 1)) (K (.tuple #[.slice none 0 0, .bool false]) H2) (Br (((gc : Int) : Int) != (md : Int)) (Br (((gc : Int) : Int) != IntKind.wrap .i64 ((md : Int) - 1)) (K (.tuple #[.slice none 0 0, .bool false]) H2) (Br (decide ((128 : Int) < IntKind.wrap .i64 ((md : Int) + (gc : Int)))) (K (.tuple #[.slice none 0 0, .bool false]) H2) (Al [.slice oc md nd, .slice yb gc jc] H2 fun b2 H3 => T_fhz (some ⟨b2, 0, none⟩) 2 1 H3 fun (r2 : Bool) (H4 : AHeap) => Br (!r2) (K (.tuple #[.slice none 0 0, .bool false]) H4) (T_f15z oc md nd H4 fun (a1 : OA) (r3 : Nat) (r4 : Nat) (H5 : AHeap) => T_f15z yb gc jc H5 fun (a2 : OA) (r5 : Nat) (r6 : Nat) (H6 : AHeap) => Br (((r5 : Int) : Int) == 0) (K (.tuple #[.slice a1 r3 r4, .bool true]) H6) (loopK (exL Try.prog E_frz (cl (cl (cr (cl (cr (cr (cr (cr (cr (bodyC Try.f38)))))))))) 1729382256910272008 192 [(0, 1544)]) (ud3 (.pointer (some ⟨b1, 0, none⟩) :: ud5 (.slice a1 r3 r4 :: .slice a2 r5 r6 :: ud48 (.int .i64 (r3 : Int) :: .int .i64 0 :: ud48 [])))) H6 (blockQ 0 (seqQ (exL Try.prog E_frz (cr (cr (cr (cr (cr (cr (bodyC Try.f38))))))) 192 192 []) (retK Try.prog Try.f38 K)))))))) (Br (decide ((128 : Int) < IntKind.wrap .i64 ((md : Int) + (gc : Int)))) (K (.tuple #[.slice none 0 0, .bool false]) H2) (Al [.slice oc md nd, .slice yb gc jc] H2 fun b8 H12 => T_fhz (some ⟨b8, 0, none⟩) 2 1 H12 fun (r12 : Bool) (H13 : AHeap) => Br (!r12) (K (.tuple #[.slice none 0 0, .bool false]) H13) (T_f15z oc md nd H13 fun (a5 : OA) (r13 : Nat) (r14 : Nat) (H14 : AHeap) => T_f15z yb gc jc H14 fun (a6 : OA) (r15 : Nat) (r16 : Nat) (H15 : AHeap) => Br (((r15 : Int) : Int) == 0) (K (.tuple #[.slice a5 r13 r14, .bool true]) H15) (loopK (exL Try.prog E_frz (cl (cl (cr (cl (cr (cr (cr (cr (cr (bodyC Try.f38)))))))))) 1729382256910272008 192 [(0, 1544)]) (ud3 (.pointer (some ⟨b1, 0, none⟩) :: ud5 (.slice a5 r13 r14 :: .slice a6 r15 r16 :: ud48 (.int .i64 (r13 : Int) :: .int .i64 0 :: ud48 [])))) H15 (blockQ 0 (seqQ (exL Try.prog E_frz (cr (cr (cr (cr (cr (cr (bodyC Try.f38))))))) 192 192 []) (retK Try.prog Try.f38 K)))))))))) := by kernel_rfl
abbrev frz_P1 (b1 : Nat) (cc : OA) (fc : Nat) (ac : Nat) (z1_59 : Int) (vc : OA) (zc : Nat) (wc : Nat) (t60 : Int)  : List Value := (ud3 (.pointer (some ⟨b1, 0, none⟩) :: ud5 (.slice vc wc zc :: .slice cc ac fc :: ud48 (.int .i64 z1_59 :: .int .i64 t60 :: ud48 []))))
theorem frz_r1 (b1 : Nat) (cc : OA) (fc : Nat) (ac : Nat) (z1_59 : Int) (vc : OA) (zc : Nat) (wc : Nat) (t60 : Int)  (H : AHeap) (R : Post) : exL Try.prog E_frz (cl (cl (cr (cl (cr (cr (cr (cr (cr (bodyC Try.f38)))))))))) 1729382256910272008 192 [(0, 1544)] (frz_P1 b1 cc fc ac z1_59 vc zc wc t60) H R =
 (Br (decide ((t60 : Int) < z1_59)) ((0 : Int) ≤ t60 ∧ t60 < (wc : Int) ∧ ∃ b3 f1, (vc : OA) = some ⟨b3, f1, none⟩ ∧ ∃ x1 : Nat,  rdC H b3 (f1 + (t60 : Int).toNat * 1) = some (.float .f32 x1) ∧ ∃ x2 : Nat,  rdC H b1 1 = some (.float .f32 x2) ∧ (0 : Int) ≤ t60 ∧ t60 < (wc : Int) ∧ ∃ b4 f2, (vc : OA) = some ⟨b4, f2, none⟩ ∧ isOwn H b4 ∧ (∃ l, rdN H b4 (f2 + (t60 : Int).toNat * 1) 1 = some l) ∧ Lt (setC H b4 (f2 + (t60 : Int).toNat * 1) (.float .f32 (fdiv .f32 x1 x2))) fun H7 => R .normal (ud3 (.pointer (some ⟨b1, 0, none⟩) :: ud5 (.slice vc wc zc :: .slice cc ac fc :: ud48 (.int .i64 z1_59 :: .int .i64 (IntKind.wrap .i64 (t60 + 1)) :: ud48 [])))) H7) (R (.exit 0) (ud3 (.pointer (some ⟨b1, 0, none⟩) :: ud5 (.slice vc wc zc :: .slice cc ac fc :: ud98 []))) H)) := by kernel_rfl
def frz_I1 (b1 : Nat) (cc : OA) (fc : Nat) (ac : Nat) (z1_59 : Int) (vc : OA) (zc : Nat) (wc : Nat) (Inv : Nat → Int → AHeap → Prop) : Nat → List Value → AHeap → Prop := fun μ tm H => ∃ (t60 : Int), tm = (frz_P1 b1 cc fc ac z1_59 vc zc wc t60) ∧ Inv μ t60 H
theorem frz_L1 (b1 : Nat) (cc : OA) (fc : Nat) (ac : Nat) (z1_59 : Int) (vc : OA) (zc : Nat) (wc : Nat) {Q : Post} (Inv : Nat → Int → AHeap → Prop) (ν : Nat) (t60 : Int)  (H : AHeap) (h0 : Inv ν t60 H)
  (hs : ∀ (μ : Nat) (t60 : Int)  (H : AHeap), Inv μ t60 H → exL Try.prog E_frz (cl (cl (cr (cl (cr (cr (cr (cr (cr (bodyC Try.f38)))))))))) 1729382256910272008 192 [(0, 1544)] (frz_P1 b1 cc fc ac z1_59 vc zc wc t60) H (loopQ (frz_I1 b1 cc fc ac z1_59 vc zc wc Inv) μ Q)) : loopK (exL Try.prog E_frz (cl (cl (cr (cl (cr (cr (cr (cr (cr (bodyC Try.f38)))))))))) 1729382256910272008 192 [(0, 1544)]) (frz_P1 b1 cc fc ac z1_59 vc zc wc t60) H Q :=
 ⟨frz_I1 b1 cc fc ac z1_59 vc zc wc Inv, ν, ⟨t60, rfl, h0⟩, fun μ tm H h => by obtain ⟨t60, rfl, hI⟩ := h; exact hs μ t60  H hI⟩
theorem frz_n1 {b1 : Nat} {cc : OA} {fc : Nat} {ac : Nat} {z1_59 : Int} {vc : OA} {zc : Nat} {wc : Nat} {Q : Post} {Inv : Nat → Int → AHeap → Prop} {μ : Nat} (μ' : Nat) {t60 : Int}  {H : AHeap} (hm : μ' < μ) (hI : Inv μ' t60 H) : loopQ (frz_I1 b1 cc fc ac z1_59 vc zc wc Inv) μ Q .normal (frz_P1 b1 cc fc ac z1_59 vc zc wc t60) H := ⟨μ', hm, t60, rfl, hI⟩
theorem frz_x1_0 (b1 : Nat) (cc : OA) (fc : Nat) (ac : Nat) (vc : OA) (zc : Nat) (wc : Nat) (H : AHeap) (K : Value → AHeap → Prop)  {I : Nat → List Value → AHeap → Prop} {μ : Nat} : loopQ I μ (blockQ 0 (seqQ (exL Try.prog E_frz (cr (cr (cr (cr (cr (cr (bodyC Try.f38))))))) 192 192 []) (retK Try.prog Try.f38 K))) (.exit 0) (ud3 (.pointer (some ⟨b1, 0, none⟩) :: ud5 (.slice vc wc zc :: .slice cc ac fc :: ud98 []))) H =
 (loopK (exL Try.prog E_frz (cl (cl (cr (cl (cr (cr (cr (cr (cr (cr (bodyC Try.f38))))))))))) 28334198897217871283720 192 [(2, 1544)]) (ud3 (.pointer (some ⟨b1, 0, none⟩) :: ud5 (.slice vc wc zc :: .slice cc ac fc :: ud62 (.int .i64 (ac : Int) :: .int .i64 0 :: ud34 [])))) H (blockQ 2 (seqQ (exL Try.prog E_frz (cr (cr (cr (cr (cr (cr (cr (bodyC Try.f38)))))))) 192 192 []) (retK Try.prog Try.f38 K)))) := by kernel_rfl
abbrev frz_P2 (b1 : Nat) (cc : OA) (fc : Nat) (ac : Nat) (vc : OA) (zc : Nat) (wc : Nat) (t74 : Int)  : List Value := (ud3 (.pointer (some ⟨b1, 0, none⟩) :: ud5 (.slice vc wc zc :: .slice cc ac fc :: ud62 (.int .i64 (ac : Int) :: .int .i64 t74 :: ud34 []))))
theorem frz_r2 (b1 : Nat) (cc : OA) (fc : Nat) (ac : Nat) (vc : OA) (zc : Nat) (wc : Nat) (t74 : Int)  (H : AHeap) (R : Post) : exL Try.prog E_frz (cl (cl (cr (cl (cr (cr (cr (cr (cr (cr (bodyC Try.f38))))))))))) 28334198897217871283720 192 [(2, 1544)] (frz_P2 b1 cc fc ac vc zc wc t74) H R =
 (Br (decide ((t74 : Int) < (ac : Int))) ((0 : Int) ≤ t74 ∧ t74 < (ac : Int) ∧ ∃ b5 f3, (cc : OA) = some ⟨b5, f3, none⟩ ∧ ∃ x3 : Nat,  rdC H b5 (f3 + (t74 : Int).toNat * 1) = some (.float .f32 x3) ∧ ∃ x4 : Nat,  rdC H b1 1 = some (.float .f32 x4) ∧ (0 : Int) ≤ t74 ∧ t74 < (ac : Int) ∧ ∃ b6 f4, (cc : OA) = some ⟨b6, f4, none⟩ ∧ isOwn H b6 ∧ (∃ l, rdN H b6 (f4 + (t74 : Int).toNat * 1) 1 = some l) ∧ Lt (setC H b6 (f4 + (t74 : Int).toNat * 1) (.float .f32 (fmul .f32 x3 x4))) fun H8 => R .normal (ud3 (.pointer (some ⟨b1, 0, none⟩) :: ud5 (.slice vc wc zc :: .slice cc ac fc :: ud62 (.int .i64 (ac : Int) :: .int .i64 (IntKind.wrap .i64 (t74 + 1)) :: ud34 [])))) H8) (R (.exit 2) (ud3 (.pointer (some ⟨b1, 0, none⟩) :: ud5 (.slice vc wc zc :: .slice cc ac fc :: ud98 []))) H)) := by kernel_rfl
def frz_I2 (b1 : Nat) (cc : OA) (fc : Nat) (ac : Nat) (vc : OA) (zc : Nat) (wc : Nat) (Inv : Nat → Int → AHeap → Prop) : Nat → List Value → AHeap → Prop := fun μ tm H => ∃ (t74 : Int), tm = (frz_P2 b1 cc fc ac vc zc wc t74) ∧ Inv μ t74 H
theorem frz_L2 (b1 : Nat) (cc : OA) (fc : Nat) (ac : Nat) (vc : OA) (zc : Nat) (wc : Nat) {Q : Post} (Inv : Nat → Int → AHeap → Prop) (ν : Nat) (t74 : Int)  (H : AHeap) (h0 : Inv ν t74 H)
  (hs : ∀ (μ : Nat) (t74 : Int)  (H : AHeap), Inv μ t74 H → exL Try.prog E_frz (cl (cl (cr (cl (cr (cr (cr (cr (cr (cr (bodyC Try.f38))))))))))) 28334198897217871283720 192 [(2, 1544)] (frz_P2 b1 cc fc ac vc zc wc t74) H (loopQ (frz_I2 b1 cc fc ac vc zc wc Inv) μ Q)) : loopK (exL Try.prog E_frz (cl (cl (cr (cl (cr (cr (cr (cr (cr (cr (bodyC Try.f38))))))))))) 28334198897217871283720 192 [(2, 1544)]) (frz_P2 b1 cc fc ac vc zc wc t74) H Q :=
 ⟨frz_I2 b1 cc fc ac vc zc wc Inv, ν, ⟨t74, rfl, h0⟩, fun μ tm H h => by obtain ⟨t74, rfl, hI⟩ := h; exact hs μ t74  H hI⟩
theorem frz_n2 {b1 : Nat} {cc : OA} {fc : Nat} {ac : Nat} {vc : OA} {zc : Nat} {wc : Nat} {Q : Post} {Inv : Nat → Int → AHeap → Prop} {μ : Nat} (μ' : Nat) {t74 : Int}  {H : AHeap} (hm : μ' < μ) (hI : Inv μ' t74 H) : loopQ (frz_I2 b1 cc fc ac vc zc wc Inv) μ Q .normal (frz_P2 b1 cc fc ac vc zc wc t74) H := ⟨μ', hm, t74, rfl, hI⟩
theorem frz_x2_2 (b1 : Nat) (cc : OA) (fc : Nat) (ac : Nat) (vc : OA) (zc : Nat) (wc : Nat) (H : AHeap) (K : Value → AHeap → Prop)  {I : Nat → List Value → AHeap → Prop} {μ : Nat} : loopQ I μ (blockQ 2 (seqQ (exL Try.prog E_frz (cr (cr (cr (cr (cr (cr (cr (bodyC Try.f38)))))))) 192 192 []) (retK Try.prog Try.f38 K))) (.exit 2) (ud3 (.pointer (some ⟨b1, 0, none⟩) :: ud5 (.slice vc wc zc :: .slice cc ac fc :: ud98 []))) H =
 (∃ jg : OA, ∃ ig : Nat, ∃ pg : Nat,  rdC H b1 0 = some (.slice jg ig pg) ∧ loopK (exL Try.prog E_frz (cl (cl (cr (cl (cr (cr (cr (cr (cr (cr (cr (bodyC Try.f38)))))))))))) 9736 192 [(4, 1536)]) (ud3 (.pointer (some ⟨b1, 0, none⟩) :: ud5 (.slice vc wc zc :: .slice cc ac fc :: ud2 (.int .i64 (IntKind.wrap .i64 ((ig : Int) - 1)) :: ud95 [])))) H (blockQ 4 (seqQ (exL Try.prog E_frz (cr (cr (cr (cr (cr (cr (cr (cr (bodyC Try.f38))))))))) 192 192 []) (retK Try.prog Try.f38 K)))) := by kernel_rfl
abbrev frz_P3 (b1 : Nat) (cc : OA) (fc : Nat) (ac : Nat) (vc : OA) (zc : Nat) (wc : Nat) (i : Int)  : List Value := (ud3 (.pointer (some ⟨b1, 0, none⟩) :: ud5 (.slice vc wc zc :: .slice cc ac fc :: ud2 (.int .i64 i :: ud95 []))))
theorem frz_r3 (b1 : Nat) (cc : OA) (fc : Nat) (ac : Nat) (vc : OA) (zc : Nat) (wc : Nat) (i : Int)  (H : AHeap) (R : Post) : exL Try.prog E_frz (cl (cl (cr (cl (cr (cr (cr (cr (cr (cr (cr (bodyC Try.f38)))))))))))) 9736 192 [(4, 1536)] (frz_P3 b1 cc fc ac vc zc wc i) H R =
 (Br (decide ((0 : Int) ≤ i)) (∃ gf : OA, ∃ ff : Nat, ∃ jf : Nat,  rdC H b1 0 = some (.slice gf ff jf) ∧ (0 : Int) ≤ i ∧ i < (ff : Int) ∧ ∃ b7 f5, (gf : OA) = some ⟨b7, f5, none⟩ ∧ ∃ x7 : Nat,  rdC H b7 (f5 + (i : Int).toNat * 1) = some (.float .f32 x7) ∧ T_f1az vc wc zc cc ac fc i x7 true H fun  (H9 : AHeap) => R .normal (ud3 (.pointer (some ⟨b1, 0, none⟩) :: ud5 (.slice vc wc zc :: .slice cc ac fc :: ud2 (.int .i64 (IntKind.wrap .i64 (i - 1)) :: ud95 [])))) H9) (R (.exit 4) (ud9 (.slice vc wc zc :: .slice cc ac fc :: ud98 [])) H)) := by kernel_rfl
def frz_I3 (b1 : Nat) (cc : OA) (fc : Nat) (ac : Nat) (vc : OA) (zc : Nat) (wc : Nat) (Inv : Nat → Int → AHeap → Prop) : Nat → List Value → AHeap → Prop := fun μ tm H => ∃ (i : Int), tm = (frz_P3 b1 cc fc ac vc zc wc i) ∧ Inv μ i H
theorem frz_L3 (b1 : Nat) (cc : OA) (fc : Nat) (ac : Nat) (vc : OA) (zc : Nat) (wc : Nat) {Q : Post} (Inv : Nat → Int → AHeap → Prop) (ν : Nat) (i : Int)  (H : AHeap) (h0 : Inv ν i H)
  (hs : ∀ (μ : Nat) (i : Int)  (H : AHeap), Inv μ i H → exL Try.prog E_frz (cl (cl (cr (cl (cr (cr (cr (cr (cr (cr (cr (bodyC Try.f38)))))))))))) 9736 192 [(4, 1536)] (frz_P3 b1 cc fc ac vc zc wc i) H (loopQ (frz_I3 b1 cc fc ac vc zc wc Inv) μ Q)) : loopK (exL Try.prog E_frz (cl (cl (cr (cl (cr (cr (cr (cr (cr (cr (cr (bodyC Try.f38)))))))))))) 9736 192 [(4, 1536)]) (frz_P3 b1 cc fc ac vc zc wc i) H Q :=
 ⟨frz_I3 b1 cc fc ac vc zc wc Inv, ν, ⟨i, rfl, h0⟩, fun μ tm H h => by obtain ⟨i, rfl, hI⟩ := h; exact hs μ i  H hI⟩
theorem frz_n3 {b1 : Nat} {cc : OA} {fc : Nat} {ac : Nat} {vc : OA} {zc : Nat} {wc : Nat} {Q : Post} {Inv : Nat → Int → AHeap → Prop} {μ : Nat} (μ' : Nat) {i : Int}  {H : AHeap} (hm : μ' < μ) (hI : Inv μ' i H) : loopQ (frz_I3 b1 cc fc ac vc zc wc Inv) μ Q .normal (frz_P3 b1 cc fc ac vc zc wc i) H := ⟨μ', hm, i, rfl, hI⟩
theorem frz_x3_4 (cc : OA) (fc : Nat) (ac : Nat) (vc : OA) (zc : Nat) (wc : Nat) (H : AHeap) (K : Value → AHeap → Prop)  {I : Nat → List Value → AHeap → Prop} {μ : Nat} : loopQ I μ (blockQ 4 (seqQ (exL Try.prog E_frz (cr (cr (cr (cr (cr (cr (cr (cr (bodyC Try.f38))))))))) 192 192 []) (retK Try.prog Try.f38 K))) (.exit 4) (ud9 (.slice vc wc zc :: .slice cc ac fc :: ud98 [])) H =
 (T_f2z vc wc zc cc ac fc H fun (a3 : OA) (r7 : Nat) (r8 : Nat) (H10 : AHeap) => T_fcz a3 r7 r8 H10 fun (a4 : OA) (r9 : Nat) (r10 : Nat) (r11 : Bool) (H11 : AHeap) => K (.tuple #[.slice a4 r9 r10, .bool r11]) H11) := by kernel_rfl
theorem E_frz_ok : ∀ g, FnOk Try.prog g (E_frz g) := FnOk.envOf (by
 intro x hx
 simp only [List.mem_cons, List.not_mem_nil, or_false] at hx
 rcases hx with rfl | rfl | rfl | rfl | rfl | rfl
 ·exact f7z_ok
 ·exact fhz_ok
 ·exact f15z_ok
 ·exact f1az_ok
 ·exact f2z_ok
 ·exact fcz_ok)
theorem ω9 {P : Prop} (h : P := by first | assumption | omega | (simp only [List.length_set, wLowI_length, wHighI_length]; first | rfl | assumption | omega)) : P := h
theorem frz_main (oa : OA) (lb : Nat) (va : Nat) (s_Scale : Nat) (oc : OA) (md : Nat) (nd : Nat) (yb : OA) (gc : Nat) (jc : Nat) (H : AHeap) (K : Value → AHeap → Prop) (h : T_frz oa lb va s_Scale oc md nd yb gc jc H fun (cd : OA) (ld : Nat) (jd : Nat) (r2 : Bool) (H' : AHeap) => K (.tuple #[.slice cd ld jd, .bool r2]) H') : bodyL Try.prog E_frz Try.f38 [.agg #[.slice oa lb va, .float .f32 s_Scale], .slice oc md nd, .slice yb gc jc] H K := by
 rw [frz_vc]
 obtain ⟨ba, mb, pa, i_s_Weights, i_low, i_high, bd_389, bd_390, bd_391, hk⟩ := h
 obtain rfl := i_s_Weights.eqn
 obtain rfl := i_low.eqn
 obtain rfl := i_high.eqn
 have e : (p_frz ba s_Scale mb pa) = _ := rfl
 have e := e.trans (p_frz_eq ba s_Scale mb pa)
 have g0 := Grow.refl H
 refine Al.intro (fun b_1 H_1 hb_2 hl_3 g_4 o_5 => ?_)
 have l_7 := g_4.1
 have g_8 := g0.trans g_4
 have l_9 := g_8.1
 have w388 := o_5.lt
 refine ⟨oa, ba.length, va, s_Scale, (o_5.rdN (Nat.le_of_ble_eq_true rfl)).trans rfl, ?_⟩
 refine T_f7z_i ⟨_, (i_s_Weights.grow g_8), ω0, fun  H_2 g_10  => ?_⟩
 have l_11 := g_10.1
 have g12 := g_8.trans g_10
 have l_13 := g12.1
 have o_14 := o_5.grow g_10
 have w15 := o_14.lt
 refine Br.intro (fun c_16 => ?_) (fun c_16 => ?_)
 ·have e := e.trans (cond_t c_16)
  have c_16n := nf_of_t c_16
  rw [e] at hk
  exact hk _ _ _ H_2 g12 ω15
 ·have e := e.trans (cond_f c_16)
  have c_16n := nt_of_f c_16
  refine Br.intro (fun c_17 => ?_) (fun c_17 => ?_)
  ·have e := e.trans (cond_t c_17)
   have c_17' := of_decide_eq_true c_17
   rw [e] at hk
   exact hk _ _ _ H_2 g12 ω15
  ·have e := e.trans (cond_f c_17)
   have c_17' := of_decide_eq_false c_17
   refine Br.intro (fun c_18 => ?_) (fun c_18 => ?_)
   ·have e := e.trans (cond_t c_18)
    have c_18' := ine_t c_18
    rw [show IntKind.wrap .i64 ((mb.length : Int) - 1) = ((mb.length : Int) - 1) from wrap64 ω2 ω2]
    refine Br.intro (fun c_19 => ?_) (fun c_19 => ?_)
    ·have e := e.trans (cond_t c_19)
     have c_19' := ine_t c_19
     rw [e] at hk
     exact hk _ _ _ H_2 g12 ω15
    ·have e := e.trans (cond_f c_19)
     have c_19' := ine_f c_19
     rw [show IntKind.wrap .i64 ((mb.length : Int) + (pa.length : Int)) = ((mb.length : Int) + (pa.length : Int)) from wrap64 ω2 ω2]
     refine Br.intro (fun c20 => ?_) (fun c20 => ?_)
     ·have e := e.trans (cond_t c20)
      have c_20' := of_decide_eq_true c20
      rw [e] at hk
      exact hk _ _ _ H_2 g12 ω15
     ·have e := e.trans (cond_f c20)
      have c_20' := of_decide_eq_false c20
      refine Al.intro (fun b_21 H_3 hb_22 hl_23 g24 o25 => ?_)
      have l27 := g24.1
      have g28 := g12.trans g24
      have l29 := g28.1
      have o30 := o_14.grow g24
      have w31 := o30.lt
      have w203 := o25.lt
      refine T_fhz_i ⟨[mb, pa], ⟨_, o25.rdAll rfl, LLc.cons (i_low.grow g28) (LLc.cons (i_high.grow g28) (LLc.nil _ _))⟩, ω0, ω8, ?_⟩
      refine Br.intro (fun c_32 => ?_) (fun c_32 => ?_)
      ·have e := e.trans (cond_t c_32)
       have c_32n := nf_of_t c_32
       rw [e] at hk
       exact hk _ _ _ H_3 g28 ω15
      ·have e := e.trans (cond_f c_32)
       have c_32n := nt_of_f c_32
       refine T_f15z_i ⟨_, (i_low.grow g28), ω0, fun a33 n34 e35 H_4 g37 r_36 => ?_⟩
       have l38 := g37.1
       have g39 := g28.trans g37
       have l40 := g39.1
       have o41 := o30.grow g37
       have w42 := o41.lt
       have o43 := o25.grow g37
       have w44 := o43.lt
       obtain rfl := r_36.isL.eqn
       have u45 := r_36.up
       have u46 := r_36.lo
       refine T_f15z_i ⟨_, (i_high.grow g39), ω0, fun a48 n49 e50 H_5 g52 r_51 => ?_⟩
       have l53 := g52.1
       have g54 := g39.trans g52
       have l55 := g54.1
       have o56 := o41.grow g52
       have w57 := o56.lt
       have o58 := o43.grow g52
       have w59 := o58.lt
       have r60 := r_36.grow g52
       obtain rfl := r_51.isL.eqn
       have u61 := r_51.up
       have u62 := r_51.lo
       refine Br.intro (fun c64 => ?_) (fun c64 => ?_)
       ·have e := e.trans (cond_t c64)
        have c_64' := ieq_t c64
        rw [e] at hk
        exact hk _ _ _ H_5 g54 (r60.weak ω2)
       ·have e := e.trans (cond_f c64)
        have c_64' := ieq_f c64
        refine frz_L1 _ _ _ _ _ _ _ _ (fun (μ : Nat) (t60 : Int) (H_6 : AHeap) => ∃ (y1_1 : LN), ∃ (y1_2 : LN), Own H_6 b_1 ([.slice oa ba.length va, .float .f32 s_Scale]) ∧ Own H_6 b_21 ([.slice oc mb.length nd, .slice yb pa.length jc]) ∧ OwnS fF H_6 H_3.length a33 ((mb).length) e35 y1_1 ∧ y1_1.length = (mb).length ∧ OwnS fF H_6 H_4.length a48 ((pa).length) e50 y1_2 ∧ y1_2.length = (pa).length ∧ (b_21 ≠ b_1) ∧ H_4.length ≤ H_6.length ∧ H_5.length ≤ H_6.length ∧ Grow H H_6 ∧ (0 : Int) ≤ t60 ∧ t60 ≤ ((mb).length : Int) ∧ ((mb).length : Int) - t60 ≤ (μ : Int) ∧ p_frz ba s_Scale mb pa = p_frz_l1 ba s_Scale mb pa (μ + 1) t60 y1_1 y1_2) (Int.toNat (((mb).length : Int) - (0 : Int))) _ H_5 ?_ ?_
        ·exact ⟨_, _, o56, o58, r60, ω11, r_51, ω11, ω2, ω2, ω2, g54, ω6, ω6, ω2, e⟩
        ·intro μ t60  H_6 hI
         obtain ⟨y1_1, y1_2, o65, o66, r67, y68, r69, y70, n71, n72, n73, g74, v_75, v_76, hμ, e⟩ := hI
         rw [frz_r1]
         have e := e.trans (p_frz_l1_s ba s_Scale mb pa μ t60 y1_1 y1_2)
         have w77 := o65.lt
         have w78 := o66.lt
         have l79 := g74.1
         refine Br.intro (fun c80 => ?_) (fun c80 => ?_)
         ·have e := e.trans (cond_t c80)
          have c_80' := of_decide_eq_true c80
          obtain ⟨b81, f82, q83⟩ := (r67.isL).pos ω0
          refine ⟨by omega, by omega, b81, f82, q83, ?_⟩
          refine ⟨((y1_1).getD (t60 : Int).toNat 0), (r67.isL).rd (Grow.refl _) q83 ω2 _, ?_⟩
          refine ⟨s_Scale, (o65.rdC _).trans rfl, ?_⟩
          obtain ⟨b84, f85, q86⟩ := (r67.isL).pos ω0
          refine ⟨by omega, by omega, b84, f85, q86, ?_⟩
          refine Lt.setS r67 q86 ω3 (fun H_7 hl_87 o89 k88 => ?_)
          have l90 := k88.1
          have g91 := g74.keepA (fun x hx => by have := u46 x hx; omega) k88
          have l92 := g91.1
          have o93 := o65.keepA (fun x hx => by have := u46 x hx; have := u45 x hx; omega) k88
          have w94 := o93.lt
          have o95 := o66.keepA (fun x hx => by have := u46 x hx; have := u45 x hx; omega) k88
          have w96 := o95.lt
          have r97 := r69.keepA (fun x y hx hy => by have := u46 x hx; have := u45 x hx; have := u62 y hy; have := u61 y hy; omega) k88
          rw [show IntKind.wrap .i64 (t60 + 1) = (t60 + 1) from wrap64 ω2 ω2]
          refine frz_n1 (μ - 1) ω16 ⟨_, _, o93, o95, o89, ω9, r97, ω9, ω2, ω2, ω2, g91, ω1, ω1, ω16, ω12⟩
         ·have e := e.trans (cond_f c80)
          have c_80' := of_decide_eq_false c80
          rw [frz_x1_0]
          refine frz_L2 _ _ _ _ _ _ _ (fun (μ2 : Nat) (t74 : Int) (H_8 : AHeap) => ∃ (y2_1 : LN), ∃ (y2_2 : LN), Own H_8 b_1 ([.slice oa ba.length va, .float .f32 s_Scale]) ∧ Own H_8 b_21 ([.slice oc mb.length nd, .slice yb pa.length jc]) ∧ OwnS fF H_8 H_3.length a33 ((mb).length) e35 y2_1 ∧ y2_1.length = (mb).length ∧ OwnS fF H_8 H_4.length a48 ((pa).length) e50 y2_2 ∧ y2_2.length = (pa).length ∧ (b_21 ≠ b_1) ∧ H_4.length ≤ H_8.length ∧ H_5.length ≤ H_8.length ∧ Grow H H_8 ∧ (0 : Int) ≤ t74 ∧ t74 ≤ ((pa).length : Int) ∧ ((pa).length : Int) - t74 ≤ (μ2 : Int) ∧ p_frz ba s_Scale mb pa = p_frz_l2 ba s_Scale mb pa t60 y1_1 y1_2 (fun (t74 : Int) (y2_1 : LN) (y2_2 : LN) => (p_frz_l3 ba s_Scale mb pa t60 y1_1 y1_2 t74 y2_1 y2_2 (fun (i : Int) (y3_1 : LN) (y3_2 : LN) => (bif (p_fcz (p_f2z y3_1 y3_2)).2 then ((p_f2z y3_1 y3_2), true) else ([], false))) (Int.toNat (((((ba.length : Int) - 1))) - 0 + 1) + 1) ((((ba.length : Int) - 1))) y2_1 y2_2)) (μ2 + 1) t74 y2_1 y2_2) (Int.toNat (((pa).length : Int) - (0 : Int))) _ H_6 ?_ ?_
          ·exact ⟨_, _, o65, o66, r67, ω11, r69, ω11, ω2, ω2, ω2, g74, ω6, ω6, ω2, e⟩
          ·intro μ2 t74  H_8 hI
           obtain ⟨y2_1, y2_2, o98, o99, r100, y101, r102, y103, n104, n105, n106, g107, v108, v109, hμ, e⟩ := hI
           rw [frz_r2]
           have e := e.trans (p_frz_l2_s ba s_Scale mb pa t60 y1_1 y1_2 (fun (t74 : Int) (y2_1 : LN) (y2_2 : LN) => (p_frz_l3 ba s_Scale mb pa t60 y1_1 y1_2 t74 y2_1 y2_2 (fun (i : Int) (y3_1 : LN) (y3_2 : LN) => (bif (p_fcz (p_f2z y3_1 y3_2)).2 then ((p_f2z y3_1 y3_2), true) else ([], false))) (Int.toNat (((((ba.length : Int) - 1))) - 0 + 1) + 1) ((((ba.length : Int) - 1))) y2_1 y2_2)) μ2 t74 y2_1 y2_2)
           have w110 := o98.lt
           have w111 := o99.lt
           have l112 := g107.1
           refine Br.intro (fun c113 => ?_) (fun c113 => ?_)
           ·have e := e.trans (cond_t c113)
            have c_113' := of_decide_eq_true c113
            obtain ⟨b114, f115, q116⟩ := (r102.isL).pos ω0
            refine ⟨by omega, by omega, b114, f115, q116, ?_⟩
            refine ⟨((y2_2).getD (t74 : Int).toNat 0), (r102.isL).rd (Grow.refl _) q116 ω2 _, ?_⟩
            refine ⟨s_Scale, (o98.rdC _).trans rfl, ?_⟩
            obtain ⟨b117, f118, q119⟩ := (r102.isL).pos ω0
            refine ⟨by omega, by omega, b117, f118, q119, ?_⟩
            refine Lt.setS r102 q119 ω3 (fun H_9 hl_120 o122 k121 => ?_)
            have l123 := k121.1
            have g124 := g107.keepA (fun x hx => by have := u62 x hx; omega) k121
            have l125 := g124.1
            have o126 := o98.keepA (fun x hx => by have := u62 x hx; have := u61 x hx; omega) k121
            have w127 := o126.lt
            have o128 := o99.keepA (fun x hx => by have := u62 x hx; have := u61 x hx; omega) k121
            have w129 := o128.lt
            have r130 := r100.keepA (fun x y hx hy => by have := u62 x hx; have := u61 x hx; have := u46 y hy; have := u45 y hy; omega) k121
            rw [show IntKind.wrap .i64 (t74 + 1) = (t74 + 1) from wrap64 ω2 ω2]
            refine frz_n2 (μ2 - 1) ω16 ⟨_, _, o126, o128, r130, ω9, o122, ω9, ω2, ω2, ω2, g124, ω1, ω1, ω16, ω20⟩
           ·have e := e.trans (cond_f c113)
            have c_113' := of_decide_eq_false c113
            rw [frz_x2_2]
            refine ⟨oa, ba.length, va, (o98.rdC _).trans rfl, ?_⟩
            rw [show IntKind.wrap .i64 ((ba.length : Int) - 1) = ((ba.length : Int) - 1) from wrap64 ω2 ω2]
            refine frz_L3 _ _ _ _ _ _ _ (fun (μ3 : Nat) (i : Int) (H_10 : AHeap) => ∃ (y3_1 : LN), ∃ (y3_2 : LN), Own H_10 b_1 ([.slice oa ba.length va, .float .f32 s_Scale]) ∧ Own H_10 b_21 ([.slice oc mb.length nd, .slice yb pa.length jc]) ∧ OwnS fF H_10 H_3.length a33 ((mb).length) e35 y3_1 ∧ y3_1.length = (mb).length ∧ OwnS fF H_10 H_4.length a48 ((pa).length) e50 y3_2 ∧ y3_2.length = (pa).length ∧ (b_21 ≠ b_1) ∧ H_4.length ≤ H_10.length ∧ H_5.length ≤ H_10.length ∧ Grow H H_10 ∧ i ≤ (((ba.length : Int) - 1)) ∧ i - 0 + 1 ≤ (μ3 : Int) ∧ p_frz ba s_Scale mb pa = p_frz_l3 ba s_Scale mb pa t60 y1_1 y1_2 t74 y2_1 y2_2 (fun (i : Int) (y3_1 : LN) (y3_2 : LN) => (bif (p_fcz (p_f2z y3_1 y3_2)).2 then ((p_f2z y3_1 y3_2), true) else ([], false))) (μ3 + 1) i y3_1 y3_2) (Int.toNat (((((ba.length : Int) - 1))) - 0 + 1)) _ H_8 ?_ ?_
            ·exact ⟨_, _, o98, o99, r100, ω11, r102, ω11, ω2, ω2, ω2, g107, ω6, ω2, e⟩
            ·intro μ3 i  H_10 hI
             obtain ⟨y3_1, y3_2, o131, o132, r133, y134, r135, y136, n137, n138, n139, g140, v141, hμ, e⟩ := hI
             rw [frz_r3]
             have e := e.trans (p_frz_l3_s ba s_Scale mb pa t60 y1_1 y1_2 t74 y2_1 y2_2 (fun (i : Int) (y3_1 : LN) (y3_2 : LN) => (bif (p_fcz (p_f2z y3_1 y3_2)).2 then ((p_f2z y3_1 y3_2), true) else ([], false))) μ3 i y3_1 y3_2)
             have w142 := o131.lt
             have w143 := o132.lt
             have l144 := g140.1
             refine Br.intro (fun c145 => ?_) (fun c145 => ?_)
             ·have e := e.trans (cond_t c145)
              have c_145' := of_decide_eq_true c145
              refine ⟨oa, ba.length, va, (o131.rdC _).trans rfl, ?_⟩
              obtain ⟨b146, f147, q148⟩ := ((i_s_Weights.grow g140)).pos ω0
              refine ⟨by omega, by omega, b146, f147, q148, ?_⟩
              refine ⟨((ba).getD (i : Int).toNat 0), (i_s_Weights).rd g140 q148 ω2 _, ?_⟩
              refine T_f1az_i ⟨_, _, _, _, r133, r135, (fun x y hx hy => by have := u45 x hx; have := u46 x hx; have := u61 y hy; have := u62 y hy; intro hh; omega), ω0, ω0, ω14, ω14, ω14, (fun H_12 k149 o150 o151 => ?_)⟩
              obtain ⟨H_11, k152, k153⟩ := k149.split
              have l154 := k152.1
              have g155 := g140.keepA (fun x hx => by have := u46 x hx; omega) k152
              have l156 := g155.1
              have o157 := o131.keepA (fun x hx => by have := u46 x hx; have := u45 x hx; omega) k152
              have w158 := o157.lt
              have o159 := o132.keepA (fun x hx => by have := u46 x hx; have := u45 x hx; omega) k152
              have w160 := o159.lt
              have r161 := r135.keepA (fun x y hx hy => by have := u46 x hx; have := u45 x hx; have := u62 y hy; have := u61 y hy; omega) k152
              have l162 := k153.1
              have g163 := g155.keepA (fun x hx => by have := u62 x hx; omega) k153
              have l164 := g163.1
              have o165 := o157.keepA (fun x hx => by have := u62 x hx; have := u61 x hx; omega) k153
              have w166 := o165.lt
              have o167 := o159.keepA (fun x hx => by have := u62 x hx; have := u61 x hx; omega) k153
              have w168 := o167.lt
              rw [show IntKind.wrap .i64 (i - 1) = (i - 1) from wrap64 ω2 ω2]
              refine frz_n3 (μ3 - 1) ω16 ⟨_, _, o165, o167, o150, ω9, o151, ω9, ω2, ω2, ω2, g163, ω1, ω16, ω21⟩
             ·have e := e.trans (cond_f c145)
              have c_145' := of_decide_eq_false c145
              rw [frz_x3_4]
              refine T_f2z_i ⟨_, _, r133.isL, r135.isL, ω0, ω0, fun a169 n170 e171 H_13 g174 r172 => ?_⟩
              have z173 := impl_woven_len y3_1 y3_2
              have l175 := g174.1
              have g176 := g140.trans g174
              have l177 := g176.1
              have o178 := o131.grow g174
              have w179 := o178.lt
              have o180 := o132.grow g174
              have w181 := o180.lt
              have r182 := r133.grow g174
              have r183 := r135.grow g174
              obtain rfl := r172.isL.eqn
              have u184 := r172.up
              have u185 := r172.lo
              refine T_fcz_i ⟨_, r172.isL, ω0, (fun H_14 g191 => ?_)⟩
              have l193 := g191.1
              have g194 := g176.trans g191
              have l195 := g194.1
              have o196 := o178.grow g191
              have w197 := o196.lt
              have o198 := o180.grow g191
              have w199 := o198.lt
              have r200 := r182.grow g191
              have r201 := r183.grow g191
              have r202 := r172.grow g191
              refine Br.intro (fun c192 => ?_) (fun c192 => ?_)
              ·have e := e.trans (cond_t c192)
               rw [e] at hk
               exact hk _ _ _ H_14 g194 (r202.weak ω2)
              ·have e := e.trans (cond_f c192)
               rw [e] at hk
               exact hk _ _ _ H_14 g194 ω15
   ·have e := e.trans (cond_f c_18)
    have c_18' := ine_f c_18
    rw [show IntKind.wrap .i64 ((mb.length : Int) + (pa.length : Int)) = ((mb.length : Int) + (pa.length : Int)) from wrap64 ω2 ω2]
    refine Br.intro (fun c204 => ?_) (fun c204 => ?_)
    ·have e := e.trans (cond_t c204)
     have c_204' := of_decide_eq_true c204
     rw [e] at hk
     exact hk _ _ _ H_2 g12 ω15
    ·have e := e.trans (cond_f c204)
     have c_204' := of_decide_eq_false c204
     refine Al.intro (fun b205 H_15 hb_206 hl_207 g208 o209 => ?_)
     have l211 := g208.1
     have g212 := g12.trans g208
     have l213 := g212.1
     have o214 := o_14.grow g208
     have w215 := o214.lt
     have w387 := o209.lt
     refine T_fhz_i ⟨[mb, pa], ⟨_, o209.rdAll rfl, LLc.cons (i_low.grow g212) (LLc.cons (i_high.grow g212) (LLc.nil _ _))⟩, ω0, ω8, ?_⟩
     refine Br.intro (fun c216 => ?_) (fun c216 => ?_)
     ·have e := e.trans (cond_t c216)
      have c_216n := nf_of_t c216
      rw [e] at hk
      exact hk _ _ _ H_15 g212 ω15
     ·have e := e.trans (cond_f c216)
      have c_216n := nt_of_f c216
      refine T_f15z_i ⟨_, (i_low.grow g212), ω0, fun a217 n218 e219 H_16 g221 r220 => ?_⟩
      have l222 := g221.1
      have g223 := g212.trans g221
      have l224 := g223.1
      have o225 := o214.grow g221
      have w226 := o225.lt
      have o227 := o209.grow g221
      have w228 := o227.lt
      obtain rfl := r220.isL.eqn
      have u229 := r220.up
      have u230 := r220.lo
      refine T_f15z_i ⟨_, (i_high.grow g223), ω0, fun a232 n233 e234 H_17 g236 r235 => ?_⟩
      have l237 := g236.1
      have g238 := g223.trans g236
      have l239 := g238.1
      have o240 := o225.grow g236
      have w241 := o240.lt
      have o242 := o227.grow g236
      have w243 := o242.lt
      have r244 := r220.grow g236
      obtain rfl := r235.isL.eqn
      have u245 := r235.up
      have u246 := r235.lo
      refine Br.intro (fun c248 => ?_) (fun c248 => ?_)
      ·have e := e.trans (cond_t c248)
       have c_248' := ieq_t c248
       rw [e] at hk
       exact hk _ _ _ H_17 g238 (r244.weak ω2)
      ·have e := e.trans (cond_f c248)
       have c_248' := ieq_f c248
       refine frz_L1 _ _ _ _ _ _ _ _ (fun (μ : Nat) (t60 : Int) (H_18 : AHeap) => ∃ (y1_1 : LN), ∃ (y1_2 : LN), Own H_18 b_1 ([.slice oa ba.length va, .float .f32 s_Scale]) ∧ Own H_18 b205 ([.slice oc mb.length nd, .slice yb pa.length jc]) ∧ OwnS fF H_18 H_15.length a217 ((mb).length) e219 y1_1 ∧ y1_1.length = (mb).length ∧ OwnS fF H_18 H_16.length a232 ((pa).length) e234 y1_2 ∧ y1_2.length = (pa).length ∧ (b205 ≠ b_1) ∧ H_16.length ≤ H_18.length ∧ H_17.length ≤ H_18.length ∧ Grow H H_18 ∧ (0 : Int) ≤ t60 ∧ t60 ≤ ((mb).length : Int) ∧ ((mb).length : Int) - t60 ≤ (μ : Int) ∧ p_frz ba s_Scale mb pa = p_frz_l1 ba s_Scale mb pa (μ + 1) t60 y1_1 y1_2) (Int.toNat (((mb).length : Int) - (0 : Int))) _ H_17 ?_ ?_
       ·exact ⟨_, _, o240, o242, r244, ω11, r235, ω11, ω2, ω2, ω2, g238, ω6, ω6, ω2, e⟩
       ·intro μ t60  H_18 hI
        obtain ⟨y1_1, y1_2, o249, o250, r251, y252, r253, y254, n255, n256, n257, g258, v259, v260, hμ, e⟩ := hI
        rw [frz_r1]
        have e := e.trans (p_frz_l1_s ba s_Scale mb pa μ t60 y1_1 y1_2)
        have w261 := o249.lt
        have w262 := o250.lt
        have l263 := g258.1
        refine Br.intro (fun c264 => ?_) (fun c264 => ?_)
        ·have e := e.trans (cond_t c264)
         have c_264' := of_decide_eq_true c264
         obtain ⟨b265, f266, q267⟩ := (r251.isL).pos ω0
         refine ⟨by omega, by omega, b265, f266, q267, ?_⟩
         refine ⟨((y1_1).getD (t60 : Int).toNat 0), (r251.isL).rd (Grow.refl _) q267 ω2 _, ?_⟩
         refine ⟨s_Scale, (o249.rdC _).trans rfl, ?_⟩
         obtain ⟨b268, f269, q270⟩ := (r251.isL).pos ω0
         refine ⟨by omega, by omega, b268, f269, q270, ?_⟩
         refine Lt.setS r251 q270 ω3 (fun H_19 hl_271 o273 k272 => ?_)
         have l274 := k272.1
         have g275 := g258.keepA (fun x hx => by have := u230 x hx; omega) k272
         have l276 := g275.1
         have o277 := o249.keepA (fun x hx => by have := u230 x hx; have := u229 x hx; omega) k272
         have w278 := o277.lt
         have o279 := o250.keepA (fun x hx => by have := u230 x hx; have := u229 x hx; omega) k272
         have w280 := o279.lt
         have r281 := r253.keepA (fun x y hx hy => by have := u230 x hx; have := u229 x hx; have := u246 y hy; have := u245 y hy; omega) k272
         rw [show IntKind.wrap .i64 (t60 + 1) = (t60 + 1) from wrap64 ω2 ω2]
         refine frz_n1 (μ - 1) ω16 ⟨_, _, o277, o279, o273, ω9, r281, ω9, ω2, ω2, ω2, g275, ω1, ω1, ω16, ω12⟩
        ·have e := e.trans (cond_f c264)
         have c_264' := of_decide_eq_false c264
         rw [frz_x1_0]
         refine frz_L2 _ _ _ _ _ _ _ (fun (μ2 : Nat) (t74 : Int) (H_20 : AHeap) => ∃ (y2_1 : LN), ∃ (y2_2 : LN), Own H_20 b_1 ([.slice oa ba.length va, .float .f32 s_Scale]) ∧ Own H_20 b205 ([.slice oc mb.length nd, .slice yb pa.length jc]) ∧ OwnS fF H_20 H_15.length a217 ((mb).length) e219 y2_1 ∧ y2_1.length = (mb).length ∧ OwnS fF H_20 H_16.length a232 ((pa).length) e234 y2_2 ∧ y2_2.length = (pa).length ∧ (b205 ≠ b_1) ∧ H_16.length ≤ H_20.length ∧ H_17.length ≤ H_20.length ∧ Grow H H_20 ∧ (0 : Int) ≤ t74 ∧ t74 ≤ ((pa).length : Int) ∧ ((pa).length : Int) - t74 ≤ (μ2 : Int) ∧ p_frz ba s_Scale mb pa = p_frz_l2 ba s_Scale mb pa t60 y1_1 y1_2 (fun (t74 : Int) (y2_1 : LN) (y2_2 : LN) => (p_frz_l3 ba s_Scale mb pa t60 y1_1 y1_2 t74 y2_1 y2_2 (fun (i : Int) (y3_1 : LN) (y3_2 : LN) => (bif (p_fcz (p_f2z y3_1 y3_2)).2 then ((p_f2z y3_1 y3_2), true) else ([], false))) (Int.toNat (((((ba.length : Int) - 1))) - 0 + 1) + 1) ((((ba.length : Int) - 1))) y2_1 y2_2)) (μ2 + 1) t74 y2_1 y2_2) (Int.toNat (((pa).length : Int) - (0 : Int))) _ H_18 ?_ ?_
         ·exact ⟨_, _, o249, o250, r251, ω11, r253, ω11, ω2, ω2, ω2, g258, ω6, ω6, ω2, e⟩
         ·intro μ2 t74  H_20 hI
          obtain ⟨y2_1, y2_2, o282, o283, r284, y285, r286, y287, n288, n289, n290, g291, v292, v293, hμ, e⟩ := hI
          rw [frz_r2]
          have e := e.trans (p_frz_l2_s ba s_Scale mb pa t60 y1_1 y1_2 (fun (t74 : Int) (y2_1 : LN) (y2_2 : LN) => (p_frz_l3 ba s_Scale mb pa t60 y1_1 y1_2 t74 y2_1 y2_2 (fun (i : Int) (y3_1 : LN) (y3_2 : LN) => (bif (p_fcz (p_f2z y3_1 y3_2)).2 then ((p_f2z y3_1 y3_2), true) else ([], false))) (Int.toNat (((((ba.length : Int) - 1))) - 0 + 1) + 1) ((((ba.length : Int) - 1))) y2_1 y2_2)) μ2 t74 y2_1 y2_2)
          have w294 := o282.lt
          have w295 := o283.lt
          have l296 := g291.1
          refine Br.intro (fun c297 => ?_) (fun c297 => ?_)
          ·have e := e.trans (cond_t c297)
           have c_297' := of_decide_eq_true c297
           obtain ⟨b298, f299, q300⟩ := (r286.isL).pos ω0
           refine ⟨by omega, by omega, b298, f299, q300, ?_⟩
           refine ⟨((y2_2).getD (t74 : Int).toNat 0), (r286.isL).rd (Grow.refl _) q300 ω2 _, ?_⟩
           refine ⟨s_Scale, (o282.rdC _).trans rfl, ?_⟩
           obtain ⟨b301, f302, q303⟩ := (r286.isL).pos ω0
           refine ⟨by omega, by omega, b301, f302, q303, ?_⟩
           refine Lt.setS r286 q303 ω3 (fun H_21 hl_304 o306 k305 => ?_)
           have l307 := k305.1
           have g308 := g291.keepA (fun x hx => by have := u246 x hx; omega) k305
           have l309 := g308.1
           have o310 := o282.keepA (fun x hx => by have := u246 x hx; have := u245 x hx; omega) k305
           have w311 := o310.lt
           have o312 := o283.keepA (fun x hx => by have := u246 x hx; have := u245 x hx; omega) k305
           have w313 := o312.lt
           have r314 := r284.keepA (fun x y hx hy => by have := u246 x hx; have := u245 x hx; have := u230 y hy; have := u229 y hy; omega) k305
           rw [show IntKind.wrap .i64 (t74 + 1) = (t74 + 1) from wrap64 ω2 ω2]
           refine frz_n2 (μ2 - 1) ω16 ⟨_, _, o310, o312, r314, ω9, o306, ω9, ω2, ω2, ω2, g308, ω1, ω1, ω16, ω20⟩
          ·have e := e.trans (cond_f c297)
           have c_297' := of_decide_eq_false c297
           rw [frz_x2_2]
           refine ⟨oa, ba.length, va, (o282.rdC _).trans rfl, ?_⟩
           rw [show IntKind.wrap .i64 ((ba.length : Int) - 1) = ((ba.length : Int) - 1) from wrap64 ω2 ω2]
           refine frz_L3 _ _ _ _ _ _ _ (fun (μ3 : Nat) (i : Int) (H_22 : AHeap) => ∃ (y3_1 : LN), ∃ (y3_2 : LN), Own H_22 b_1 ([.slice oa ba.length va, .float .f32 s_Scale]) ∧ Own H_22 b205 ([.slice oc mb.length nd, .slice yb pa.length jc]) ∧ OwnS fF H_22 H_15.length a217 ((mb).length) e219 y3_1 ∧ y3_1.length = (mb).length ∧ OwnS fF H_22 H_16.length a232 ((pa).length) e234 y3_2 ∧ y3_2.length = (pa).length ∧ (b205 ≠ b_1) ∧ H_16.length ≤ H_22.length ∧ H_17.length ≤ H_22.length ∧ Grow H H_22 ∧ i ≤ (((ba.length : Int) - 1)) ∧ i - 0 + 1 ≤ (μ3 : Int) ∧ p_frz ba s_Scale mb pa = p_frz_l3 ba s_Scale mb pa t60 y1_1 y1_2 t74 y2_1 y2_2 (fun (i : Int) (y3_1 : LN) (y3_2 : LN) => (bif (p_fcz (p_f2z y3_1 y3_2)).2 then ((p_f2z y3_1 y3_2), true) else ([], false))) (μ3 + 1) i y3_1 y3_2) (Int.toNat (((((ba.length : Int) - 1))) - 0 + 1)) _ H_20 ?_ ?_
           ·exact ⟨_, _, o282, o283, r284, ω11, r286, ω11, ω2, ω2, ω2, g291, ω6, ω2, e⟩
           ·intro μ3 i  H_22 hI
            obtain ⟨y3_1, y3_2, o315, o316, r317, y318, r319, y320, n321, n322, n323, g324, v325, hμ, e⟩ := hI
            rw [frz_r3]
            have e := e.trans (p_frz_l3_s ba s_Scale mb pa t60 y1_1 y1_2 t74 y2_1 y2_2 (fun (i : Int) (y3_1 : LN) (y3_2 : LN) => (bif (p_fcz (p_f2z y3_1 y3_2)).2 then ((p_f2z y3_1 y3_2), true) else ([], false))) μ3 i y3_1 y3_2)
            have w326 := o315.lt
            have w327 := o316.lt
            have l328 := g324.1
            refine Br.intro (fun c329 => ?_) (fun c329 => ?_)
            ·have e := e.trans (cond_t c329)
             have c_329' := of_decide_eq_true c329
             refine ⟨oa, ba.length, va, (o315.rdC _).trans rfl, ?_⟩
             obtain ⟨b330, f331, q332⟩ := ((i_s_Weights.grow g324)).pos ω0
             refine ⟨by omega, by omega, b330, f331, q332, ?_⟩
             refine ⟨((ba).getD (i : Int).toNat 0), (i_s_Weights).rd g324 q332 ω2 _, ?_⟩
             refine T_f1az_i ⟨_, _, _, _, r317, r319, (fun x y hx hy => by have := u229 x hx; have := u230 x hx; have := u245 y hy; have := u246 y hy; intro hh; omega), ω0, ω0, ω14, ω14, ω14, (fun H_24 k333 o334 o335 => ?_)⟩
             obtain ⟨H_23, k336, k337⟩ := k333.split
             have l338 := k336.1
             have g339 := g324.keepA (fun x hx => by have := u230 x hx; omega) k336
             have l340 := g339.1
             have o341 := o315.keepA (fun x hx => by have := u230 x hx; have := u229 x hx; omega) k336
             have w342 := o341.lt
             have o343 := o316.keepA (fun x hx => by have := u230 x hx; have := u229 x hx; omega) k336
             have w344 := o343.lt
             have r345 := r319.keepA (fun x y hx hy => by have := u230 x hx; have := u229 x hx; have := u246 y hy; have := u245 y hy; omega) k336
             have l346 := k337.1
             have g347 := g339.keepA (fun x hx => by have := u246 x hx; omega) k337
             have l348 := g347.1
             have o349 := o341.keepA (fun x hx => by have := u246 x hx; have := u245 x hx; omega) k337
             have w350 := o349.lt
             have o351 := o343.keepA (fun x hx => by have := u246 x hx; have := u245 x hx; omega) k337
             have w352 := o351.lt
             rw [show IntKind.wrap .i64 (i - 1) = (i - 1) from wrap64 ω2 ω2]
             refine frz_n3 (μ3 - 1) ω16 ⟨_, _, o349, o351, o334, ω9, o335, ω9, ω2, ω2, ω2, g347, ω1, ω16, ω21⟩
            ·have e := e.trans (cond_f c329)
             have c_329' := of_decide_eq_false c329
             rw [frz_x3_4]
             refine T_f2z_i ⟨_, _, r317.isL, r319.isL, ω0, ω0, fun a353 n354 e355 H_25 g358 r356 => ?_⟩
             have z357 := impl_woven_len y3_1 y3_2
             have l359 := g358.1
             have g360 := g324.trans g358
             have l361 := g360.1
             have o362 := o315.grow g358
             have w363 := o362.lt
             have o364 := o316.grow g358
             have w365 := o364.lt
             have r366 := r317.grow g358
             have r367 := r319.grow g358
             obtain rfl := r356.isL.eqn
             have u368 := r356.up
             have u369 := r356.lo
             refine T_fcz_i ⟨_, r356.isL, ω0, (fun H_26 g375 => ?_)⟩
             have l377 := g375.1
             have g378 := g360.trans g375
             have l379 := g378.1
             have o380 := o362.grow g375
             have w381 := o380.lt
             have o382 := o364.grow g375
             have w383 := o382.lt
             have r384 := r366.grow g375
             have r385 := r367.grow g375
             have r386 := r356.grow g375
             refine Br.intro (fun c376 => ?_) (fun c376 => ?_)
             ·have e := e.trans (cond_t c376)
              rw [e] at hk
              exact hk _ _ _ H_26 g378 (r386.weak ω2)
             ·have e := e.trans (cond_f c376)
              rw [e] at hk
              exact hk _ _ _ H_26 g378 ω15
theorem frz_ok : FnOk Try.prog 38 S_frz := by
 refine FnOk.body mix_ok E_frz_ok Try.func38 rfl ω10 ω10 ?_ ?_ ?_ ?_ ?_
 ·intro args H K K' h hk
  simp only [S_frz] at *
  unfold F_frz at *
  split at hk
  ·obtain ⟨ba, mb, pa, i_s_Weights, i_low, i_high, bd_389, bd_390, bd_391, k⟩ := hk
   exact ⟨ba, mb, pa, i_s_Weights, i_low, i_high, bd_389, bd_390, bd_391, (fun cd ld jd H' gg ow0 => h _ _ (k cd ld jd H' gg ow0))⟩
  ·exact hk.elim
 ·intro hq; cases hq
 ·intro args H K hk
  simp only [S_frz] at *
  unfold F_frz at *
  split at hk
  ·obtain ⟨ba, mb, pa, i_s_Weights, i_low, i_high, bd_389, bd_390, bd_391, k⟩ := hk
   exact liveS fun a n e H1 g o => ⟨_, _, k a n e H1 g o⟩
  ·exact hk.elim
 ·intro _ args H K hk
  simp only [S_frz] at *
  unfold F_frz at *
  split at hk
  ·obtain ⟨ba, mb, pa, i_s_Weights, i_low, i_high, bd_389, bd_390, bd_391, k⟩ := hk
   exact ⟨ba, mb, pa, i_s_Weights, i_low, i_high, bd_389, bd_390, bd_391, (fun cd ld jd H' gg ow0 => ⟨gg, k cd ld jd H' gg ow0⟩)⟩
  ·exact hk.elim
 ·have mm := @frz_main
  have ml := fun (args : List Value) (H : AHeap) (K : Value → AHeap → Prop) => bodyL_body (P := Try.prog) (env := E_frz ) (fn := Try.f38) (args := args) (H := H) (K := K) E_frz_ok 
  revert mm ml
  generalize bodyK Try.prog E_frz Try.f38 = Q
  generalize bodyL Try.prog E_frz Try.f38 = QL
  intro mm ml args H K hk
  simp only [S_frz] at *
  unfold F_frz at *
  split at hk
  ·exact ml _ H K (mm _ _ _ _ _ _ _ _ _ _ H K hk)
  ·exact hk.elim

def p_fbz (df : LN) (yc : LN) (cap0p_Scale : Nat) (cap1p : Int) : LN × Bool := ((p_frz yc cap0p_Scale ((((df).drop (0 : Int).toNat).take ((cap1p : Int) - 0).toNat)) ((((df).drop (cap1p : Int).toNat).take (((df.length : Int) : Int) - cap1p).toNat))).1, (p_frz yc cap0p_Scale ((((df).drop (0 : Int).toNat).take ((cap1p : Int) - 0).toNat)) ((((df).drop (cap1p : Int).toNat).take (((df.length : Int) : Int) - cap1p).toNat))).2)
def p_fbz_eq := @p_fbz.eq_1
def T_fbz (vf : OA) (nf : Nat) (ng : Nat) (cap0 : Nat) (cap1 : Nat) (H : AHeap) (K : OA → Nat → Nat → Bool → AHeap → Prop) : Prop := ∃ (ee : OA), ∃ (oe : Nat), ∃ (me : Nat), ∃ (cap0p_Scale : Nat), ∃ (cap1p : Int), ∃ (df : LN), ∃ (yc : LN), rdN H cap0 0 2 = some [.slice ee oe me, .float .f32 cap0p_Scale] ∧ rdN H cap1 0 1 = some [.int .i64 cap1p] ∧ IsL fF H vf nf df ∧ IsL fF H ee oe yc ∧ df.length < 1073741824 ∧ yc.length < 1073741824 ∧ 0 ≤ cap1p ∧ cap1p ≤ df.length ∧ cap1p = (df.length + 1) / 2 ∧ ((∀ (cd : OA) (ld jd : Nat), ∀ H' : AHeap, Grow H H' → OwnS fF H' H.length cd ld jd ((p_fbz df yc cap0p_Scale cap1p).1) → K cd ld jd ((p_fbz df yc cap0p_Scale cap1p).2) H'))
/-! fbz: function 37 -/
def E_fbz : Env := envOf [(38, S_frz)]
def F_fbz : List Value → AHeap → (Value → AHeap → Prop) → Prop
 | [.slice vf nf ng, .pointer (some ⟨cap0, 0, none⟩), .pointer (some ⟨cap1, 0, none⟩)], H, K => T_fbz vf nf ng cap0 cap1 H fun (cd : OA) (ld : Nat) (jd : Nat) (r2 : Bool) (H' : AHeap) => K (.tuple #[.slice cd ld jd, .bool r2]) H'
 | _, _, _ => False
def S_fbz : FSpec := { F := F_fbz, quiet := false, tame := true }
theorem fbz_vc (vf : OA) (nf : Nat) (ng : Nat) (cap0 : Nat) (cap1 : Nat) (H : AHeap) (K : Value → AHeap → Prop) : bodyL Try.prog E_fbz Try.f37 [.slice vf nf ng, .pointer (some ⟨cap0, 0, none⟩), .pointer (some ⟨cap1, 0, none⟩)] H K =
 (∃ x1 : Int,  rdC H cap1 0 = some (.int .i64 x1) ∧ ∃ x2 : Int,  rdC H cap1 0 = some (.int .i64 x2) ∧ ∃ xf : OA, ∃ zf : Nat, ∃ yf : Nat, ∃ c2 : Nat,  rdN H cap0 0 2 = some [.slice xf zf yf, .float .f32 c2] ∧ (0 : Int) ≤ 0 ∧ 0 ≤ x2 ∧ x2 ≤ (nf : Int) ∧ (0 : Int) ≤ x1 ∧ x1 ≤ (nf : Int) ∧ (nf : Int) ≤ (nf : Int) ∧ T_frz xf zf yf c2 ((vf : OA).map fun a => ⟨a.block, a.off + (0 : Int).toNat * 1, none⟩) (((x2 : Int) - 0).toNat) 0 ((vf : OA).map fun a => ⟨a.block, a.off + (x1 : Int).toNat * 1, none⟩) ((((nf : Int) : Int) - x1).toNat) 0 H fun (a1 : OA) (r1 : Nat) (r2 : Nat) (r3 : Bool) (H1 : AHeap) => K (.tuple #[.slice a1 r1 r2, .bool r3]) H1) := by kernel_rfl
theorem E_fbz_ok : ∀ g, FnOk Try.prog g (E_fbz g) := FnOk.envOf (by
 intro x hx
 simp only [List.mem_cons, List.not_mem_nil, or_false] at hx
 subst hx; exact frz_ok)
theorem fbz_main (vf : OA) (nf : Nat) (ng : Nat) (cap0 : Nat) (cap1 : Nat) (H : AHeap) (K : Value → AHeap → Prop) (h : T_fbz vf nf ng cap0 cap1 H fun (cd : OA) (ld : Nat) (jd : Nat) (r2 : Bool) (H' : AHeap) => K (.tuple #[.slice cd ld jd, .bool r2]) H') : bodyL Try.prog E_fbz Try.f37 [.slice vf nf ng, .pointer (some ⟨cap0, 0, none⟩), .pointer (some ⟨cap1, 0, none⟩)] H K := by
 rw [fbz_vc]
 obtain ⟨ee, oe, me, cap0p_Scale, cap1p, df, yc, i_cap0, i_cap1, i_row, i_cap0p_Weights, bd_15, bd_16, pr0, pr1, pr2, hk⟩ := h
 obtain rfl := i_row.eqn
 obtain rfl := i_cap0p_Weights.eqn
 have e : (p_fbz df yc cap0p_Scale cap1p) = _ := rfl
 have e := e.trans (p_fbz_eq df yc cap0p_Scale cap1p)
 have g0 := Grow.refl H
 refine ⟨cap1p, (rdN_at (rdN_grow g0 i_cap1) 0 (Nat.le_of_ble_eq_true rfl)).trans rfl, ?_⟩
 refine ⟨cap1p, (rdN_at (rdN_grow g0 i_cap1) 0 (Nat.le_of_ble_eq_true rfl)).trans rfl, ?_⟩
 refine ⟨ee, yc.length, me, cap0p_Scale, rdN_grow g0 i_cap0, ?_⟩
 refine ⟨by omega, by omega, by omega, ?_⟩
 have i_1 := sub_isl i_row (lo := 0) (hi := cap1p) ω2 ω2 ω2
 refine ⟨by omega, by omega, by omega, ?_⟩
 have i_2 := sub_isl i_row (lo := cap1p) (hi := (df.length : Int)) ω2 ω2 ω2
 refine T_frz_i ⟨_, _, _, (i_cap0p_Weights.grow g0), (i_1.grow g0), (i_2.grow g0), ω0, ω0, ω0, fun a_3 n4 e_5 H_1 g_8 r_6 => ?_⟩
 have z7 := impl_DO_len yc cap0p_Scale ((((df).drop (0 : Int).toNat).take ((cap1p : Int) - 0).toNat)) ((((df).drop (cap1p : Int).toNat).take (((df.length : Int) : Int) - cap1p).toNat))
 have l_9 := g_8.1
 have g_10 := g0.trans g_8
 have l_11 := g_10.1
 obtain rfl := r_6.isL.eqn
 have u12 := r_6.up
 have u13 := r_6.lo
 rw [e] at hk
 exact hk _ _ _ H_1 g_10 (r_6.weak ω2)
theorem fbz_ok : FnOk Try.prog 37 S_fbz := by
 refine FnOk.body mix_ok E_fbz_ok Try.func37 rfl ω10 ω10 ?_ ?_ ?_ ?_ ?_
 ·intro args H K K' h hk
  simp only [S_fbz] at *
  unfold F_fbz at *
  split at hk
  ·obtain ⟨ee, oe, me, cap0p_Scale, cap1p, df, yc, i_cap0, i_cap1, i_row, i_cap0p_Weights, bd_15, bd_16, pr0, pr1, pr2, k⟩ := hk
   exact ⟨ee, oe, me, cap0p_Scale, cap1p, df, yc, i_cap0, i_cap1, i_row, i_cap0p_Weights, bd_15, bd_16, pr0, pr1, pr2, (fun cd ld jd H' gg ow0 => h _ _ (k cd ld jd H' gg ow0))⟩
  ·exact hk.elim
 ·intro hq; cases hq
 ·intro args H K hk
  simp only [S_fbz] at *
  unfold F_fbz at *
  split at hk
  ·obtain ⟨ee, oe, me, cap0p_Scale, cap1p, df, yc, i_cap0, i_cap1, i_row, i_cap0p_Weights, bd_15, bd_16, pr0, pr1, pr2, k⟩ := hk
   exact liveS fun a n e H1 g o => ⟨_, _, k a n e H1 g o⟩
  ·exact hk.elim
 ·intro _ args H K hk
  simp only [S_fbz] at *
  unfold F_fbz at *
  split at hk
  ·obtain ⟨ee, oe, me, cap0p_Scale, cap1p, df, yc, i_cap0, i_cap1, i_row, i_cap0p_Weights, bd_15, bd_16, pr0, pr1, pr2, k⟩ := hk
   exact ⟨ee, oe, me, cap0p_Scale, cap1p, df, yc, i_cap0, i_cap1, i_row, i_cap0p_Weights, bd_15, bd_16, pr0, pr1, pr2, (fun cd ld jd H' gg ow0 => ⟨gg, k cd ld jd H' gg ow0⟩)⟩
  ·exact hk.elim
 ·have mm := @fbz_main
  have ml := fun (args : List Value) (H : AHeap) (K : Value → AHeap → Prop) => bodyL_body (P := Try.prog) (env := E_fbz ) (fn := Try.f37) (args := args) (H := H) (K := K) E_fbz_ok 
  revert mm ml
  generalize bodyK Try.prog E_fbz Try.f37 = Q
  generalize bodyL Try.prog E_fbz Try.f37 = QL
  intro mm ml args H K hk
  simp only [S_fbz] at *
  unfold F_fbz at *
  split at hk
  ·exact ml _ H K (mm _ _ _ _ _ H K hk)
  ·exact hk.elim
def ChOk (env : Env) (x : Value) (H0 : AHeap) (rb fb : Nat) (a : OA) (W : Int) (m : Nat) (g : Nat → LN × Bool) : Prop :=
 ∀ (y : Nat), y < m → ∀ (H : AHeap), Keep2 (some ⟨rb, 0, none⟩) (some ⟨fb, 0, none⟩) H0 H → ∀ K : Value → AHeap → Prop,
  (∀ (a' : OA) (n' e' : Nat) (H' : AHeap), Grow H H' → OwnS fF H' H.length a' n' e' (g y).1 → K (.tuple #[.slice a' n' e', .bool (g y).2]) H') →
  callV env x [.slice ((a : OA).map fun a => ⟨a.block, a.off + ((y : Int) * W).toNat * 1, none⟩) ((((y : Int) + 1) * W - (y : Int) * W).toNat) 0] H K
def RowsDone (H0 H : AHeap) (rb fb k m : Nat) (g : Nat → LN × Bool) : Prop :=
 Keep2 (some ⟨rb, 0, none⟩) (some ⟨fb, 0, none⟩) H0 H ∧ ∃ rs fs : List Value, Own H rb rs ∧ Own H fb fs ∧ rs.length = m ∧ fs.length = m ∧
  ∀ i, i < k → fs[i]? = some (.bool (g i).2) ∧ ∃ (a : OA) (n e : Nat), rs[i]? = some (.slice a n e) ∧ IsL fF H a n (g i).1 ∧ ∀ x, a = some x → H0.length ≤ x.block
theorem Own.keep2 {H H' : AHeap} {b rb fb : Nat} {cs : List Value} (h : Own H b cs) (h1 : rb ≠ b) (h2 : fb ≠ b) (k : Keep2 (some ⟨rb, 0, none⟩) (some ⟨fb, 0, none⟩) H H') : Own H' b cs :=
 (k.2 b h.lt (fun x hx => by cases hx; exact h1) (fun x hx => by cases hx; exact h2)).trans h
theorem IsL.keepB {H H' : AHeap} {a : OA} {n : Nat} {xs : LN} (h : IsL fF H a n xs) (hk : ∀ x, a = some x → H'[x.block]? = H[x.block]?) : IsL fF H' a n xs := by
 unfold IsL rdS at *
 cases n with
 | zero => exact h
 | succ n =>
  cases a with
  | none => exact h
  | some x =>
   have := hk x rfl
   obtain ⟨b, off, sub⟩ := x
   cases sub with
   | none => simp only [rdN, rdB] at h ⊢; rw [this]; exact h
   | some _ => exact h
theorem extV0 {u v : Value} {K : Value → Prop} : extV (.tuple #[u, v]) 0 K = K u := rfl
theorem extV1 {u v : Value} {K : Value → Prop} : extV (.tuple #[u, v]) 1 K = K v := rfl
theorem row_small {k W : Int} (h1 : 0 ≤ k) (h2 : k ≤ 17) (h3 : 1 ≤ W) (h4 : W ≤ 16) : 0 ≤ k * W ∧ k * W ≤ 272 := by
 constructor
 ·exact Int.mul_nonneg h1 ω2
 ·have := Int.mul_le_mul h2 h4 ω2 ω2
  omega
/-! fvz: function 45 -/
def E_fvz : Env := envOf [(999998, tameMark), (37, S_fbz)]
def S_fvz : FSpec := { F := bodyK Try.prog E_fvz Try.f45, quiet := false, tame := false }
theorem E_fvz_ok : ∀ g, FnOk Try.prog g (E_fvz g) := FnOk.envOf (by
 intro x hx
 simp only [List.mem_cons, List.not_mem_nil, or_false] at hx
 rcases hx with rfl | rfl
 ·exact tameMark_ok _
 ·exact fbz_ok)
theorem fvz_ok : FnOk Try.prog 45 S_fvz := FnOkX.clear mix_ok E_fvz_ok Try.func45 rfl ω10 ω10
theorem fvz_vc (cap0 : Nat) (cap1 : Nat) (cap2 : Nat) (cap3 : Nat) (cap4 : Nat) (cap5 : Nat) (H : AHeap) (K : Value → AHeap → Prop) : bodyL Try.prog E_fvz Try.f45 [.pointer (some ⟨cap0, 0, none⟩), .pointer (some ⟨cap1, 0, none⟩), .pointer (some ⟨cap2, 0, none⟩), .pointer (some ⟨cap3, 0, none⟩), .pointer (some ⟨cap4, 0, none⟩), .pointer (some ⟨cap5, 0, none⟩)] H K =
 (∃ x1 : Int,  rdC H cap0 0 = some (.int .i64 x1) ∧ loopK (exL Try.prog E_fvz (cl (cl (cr (bodyC Try.f45)))) 126 0 [(0, 0)]) (ud :: .pointer (some ⟨cap1, 0, none⟩) :: .pointer (some ⟨cap2, 0, none⟩) :: .pointer (some ⟨cap3, 0, none⟩) :: .pointer (some ⟨cap4, 0, none⟩) :: .pointer (some ⟨cap5, 0, none⟩) :: .int .i64 x1 :: ud31 []) H (blockQ 0 (retK Try.prog Try.f45 K))) := by kernel_rfl
abbrev fvz_P1 (cap1 : Nat) (cap2 : Nat) (cap3 : Nat) (cap4 : Nat) (cap5 : Nat) (y : Int)  : List Value := (ud :: .pointer (some ⟨cap1, 0, none⟩) :: .pointer (some ⟨cap2, 0, none⟩) :: .pointer (some ⟨cap3, 0, none⟩) :: .pointer (some ⟨cap4, 0, none⟩) :: .pointer (some ⟨cap5, 0, none⟩) :: .int .i64 y :: ud31 [])
theorem fvz_r1 (cap1 : Nat) (cap2 : Nat) (cap3 : Nat) (cap4 : Nat) (cap5 : Nat) (y : Int)  (H : AHeap) (R : Post) : exL Try.prog E_fvz (cl (cl (cr (bodyC Try.f45)))) 126 0 [(0, 0)] (fvz_P1 cap1 cap2 cap3 cap4 cap5 y) H R =
 (∃ x2 : Int,  rdC H cap1 1 = some (.int .i64 x2) ∧ Br (decide ((y : Int) < x2)) (∃ x3 : Int,  rdC H cap1 0 = some (.int .i64 x3) ∧ ∃ x4 : Int,  rdC H cap1 0 = some (.int .i64 x4) ∧ ∃ jg : OA, ∃ ig : Nat, ∃ pg : Nat,  rdC H cap1 2 = some (.slice jg ig pg) ∧ ∃ x6 : Value,  rdC H cap3 0 = some (x6) ∧ ∃ oh : OA, ∃ zg : Nat, ∃ tk : Nat,  rdC H cap5 0 = some (.slice oh zg tk) ∧ ∃ qg : OA, ∃ rg : Nat, ∃ fh : Nat,  rdC H cap4 0 = some (.slice qg rg fh) ∧ (0 : Int) ≤ IntKind.wrap .i64 (y * x4) ∧ IntKind.wrap .i64 (y * x4) ≤ IntKind.wrap .i64 ((IntKind.wrap .i64 (y + 1)) * x3) ∧ IntKind.wrap .i64 ((IntKind.wrap .i64 (y + 1)) * x3) ≤ (ig : Int) ∧ chk (valT E_fvz x6) (callV E_fvz x6 [.slice ((jg : OA).map fun a => ⟨a.block, a.off + (IntKind.wrap .i64 (y * x4) : Int).toNat * 1, none⟩) (((IntKind.wrap .i64 ((IntKind.wrap .i64 (y + 1)) * x3) : Int) - IntKind.wrap .i64 (y * x4)).toNat) 0] H fun (w1 : Value) (H1 : AHeap) => extV w1 0 fun (w2 : Value) => extV w1 1 fun (w3 : Value) => (0 : Int) ≤ y ∧ y < (rg : Int) ∧ ∃ b1 f1, (qg : OA) = some ⟨b1, f1, none⟩ ∧ stV w2 H1 b1 (f1 + (y : Int).toNat * 1) fun (H2 : AHeap) => (0 : Int) ≤ y ∧ y < (zg : Int) ∧ ∃ b2 f2, (oh : OA) = some ⟨b2, f2, none⟩ ∧ stV w3 H2 b2 (f2 + (y : Int).toNat * 1) fun (H3 : AHeap) => ∃ x9 : Int,  rdC H3 cap2 0 = some (.int .i64 x9) ∧ R .normal (ud :: .pointer (some ⟨cap1, 0, none⟩) :: .pointer (some ⟨cap2, 0, none⟩) :: .pointer (some ⟨cap3, 0, none⟩) :: .pointer (some ⟨cap4, 0, none⟩) :: .pointer (some ⟨cap5, 0, none⟩) :: .int .i64 (IntKind.wrap .i64 (y + x9)) :: ud31 []) H3)) (R (.exit 0) (ud38 []) H)) := by kernel_rfl
def fvz_I1 (cap1 : Nat) (cap2 : Nat) (cap3 : Nat) (cap4 : Nat) (cap5 : Nat) (Inv : Nat → Int → AHeap → Prop) : Nat → List Value → AHeap → Prop := fun μ tm H => ∃ (y : Int), tm = (fvz_P1 cap1 cap2 cap3 cap4 cap5 y) ∧ Inv μ y H
theorem fvz_L1 (cap1 : Nat) (cap2 : Nat) (cap3 : Nat) (cap4 : Nat) (cap5 : Nat) {Q : Post} (Inv : Nat → Int → AHeap → Prop) (ν : Nat) (y : Int)  (H : AHeap) (h0 : Inv ν y H)
  (hs : ∀ (μ : Nat) (y : Int)  (H : AHeap), Inv μ y H → exL Try.prog E_fvz (cl (cl (cr (bodyC Try.f45)))) 126 0 [(0, 0)] (fvz_P1 cap1 cap2 cap3 cap4 cap5 y) H (loopQ (fvz_I1 cap1 cap2 cap3 cap4 cap5 Inv) μ Q)) : loopK (exL Try.prog E_fvz (cl (cl (cr (bodyC Try.f45)))) 126 0 [(0, 0)]) (fvz_P1 cap1 cap2 cap3 cap4 cap5 y) H Q :=
 ⟨fvz_I1 cap1 cap2 cap3 cap4 cap5 Inv, ν, ⟨y, rfl, h0⟩, fun μ tm H h => by obtain ⟨y, rfl, hI⟩ := h; exact hs μ y  H hI⟩
theorem fvz_n1 {cap1 : Nat} {cap2 : Nat} {cap3 : Nat} {cap4 : Nat} {cap5 : Nat} {Q : Post} {Inv : Nat → Int → AHeap → Prop} {μ : Nat} (μ' : Nat) {y : Int}  {H : AHeap} (hm : μ' < μ) (hI : Inv μ' y H) : loopQ (fvz_I1 cap1 cap2 cap3 cap4 cap5 Inv) μ Q .normal (fvz_P1 cap1 cap2 cap3 cap4 cap5 y) H := ⟨μ', hm, y, rfl, hI⟩
theorem fvz_x1_0  (H : AHeap) (K : Value → AHeap → Prop)  {I : Nat → List Value → AHeap → Prop} {μ : Nat} : loopQ I μ (blockQ 0 (retK Try.prog Try.f45 K)) (.exit 0) (ud38 []) H =
 (K (.tuple #[]) H) := by kernel_rfl
theorem RowsDone.step {H0 H H' : AHeap} {rb fb k m : Nat} {g : Nat → LN × Bool} (hne : rb ≠ fb) (h : RowsDone H0 H rb fb k m g) (hk : k < m) {a' : OA} {n' e' : Nat} (hg : Grow H H') (ho : OwnS fF H' H.length a' n' e' (g k).1)
  (hrb : rb < H0.length) (hfb : fb < H0.length) {K : AHeap → Prop} (hK : ∀ H3, RowsDone H0 H3 rb fb (k + 1) m g → K H3) :
  stV (.slice a' n' e') H' rb (0 + k * 1) fun H2 => stV (.bool (g k).2) H2 fb (0 + k * 1) K := by
 rw [stV_slice]
 simp only [stV_bool]
 obtain ⟨kp, rs, fs, o1, o2, l1, l2, h⟩ := h
 have p1 := o1.grow hg
 have p2 := o2.grow hg
 refine Lt.set p1 ω2 fun H2 e2 q1 k2 => Lt.set (p2.keep (Ne.symm hne) k2) ω2 fun H3 e3 q2 k3 => hK H3 ⟨?_, _, _, q1.keep hne k3, q2, by simp [l1], by simp [l2], fun i hi => ?_⟩
 ·refine ⟨by have := kp.1; have := hg.1; omega, fun i hi h1 h2 => ?_⟩
  have n1 : i ≠ rb := fun e => h1 ⟨rb, 0, none⟩ rfl e.symm
  have n2 : i ≠ fb := fun e => h2 ⟨fb, 0, none⟩ rfl e.symm
  have a0 := kp.1; have a1 := hg.1
  rw [k3.2 i ω2 n2, k2.2 i ω2 n1, hg.2 i ω2]
  exact kp.2 i hi h1 h2
 ·rcases Nat.lt_succ_iff_lt_or_eq.1 hi with hi | rfl
  ·obtain ⟨g1, a, n, e, g2, g3, g4⟩ := h i hi
   refine ⟨by rw [List.getElem?_set_ne ω2]; exact g1, a, n, e, by rw [List.getElem?_set_ne ω2]; exact g2, IsL.keepB (g3.grow hg) fun x hx => ?_, g4⟩
   have := g4 x hx
   have hx2 : n = 0 ∨ x.block < H'.length := by
    rcases Nat.eq_zero_or_pos n with h0 | h0
    ·exact .inl h0
    ·right
     obtain ⟨b, o, ea, hc⟩ := (g3.grow hg).cell h0
     rw [hx] at ea; cases ea
     have hl := (g3.grow hg).len
     have := hc 0 _ (List.getElem?_eq_getElem ω2)
     unfold rdC rdB at this
     by_cases hb : b < H'.length
     ·exact hb
     ·rw [List.getElem?_eq_none ω2] at this; cases this
   by_cases hb : x.block < H'.length
   ·rw [k3.2 x.block ω2 ω2, k2.2 x.block hb ω2]
   ·rw [List.getElem?_eq_none ω2, List.getElem?_eq_none ω2]
  ·refine ⟨by rw [show 0 + i * 1 = i by omega, List.getElem?_set_self ω2], a', n', e', by rw [show 0 + i * 1 = i by omega, List.getElem?_set_self ω2], IsL.keepB ho.isL fun x hx => ?_, fun x hx => Nat.le_trans kp.1 (ho.lo x hx)⟩
   have h1 := ho.lo x hx
   have h2 := ho.up x hx
   have h3 := kp.1
   rw [k3.2 x.block ω2 ω2, k2.2 x.block ω2 ω2]
theorem fvz_does {c0 c1 c2 c3 c4 c5 rb fb m : Nat} {H0 : AHeap} {W Hi : Int} {a : OA} {n e : Nat} {x : Value} {g : Nat → LN × Bool} {K : Value → AHeap → Prop} (hm : Hi = (m : Int)) (hm2 : m ≤ 16) (hW : 1 ≤ W) (hW2 : W ≤ 16) (hn : (n : Int) = W * m)
  (o0 : Own H0 c0 [.int .i64 0]) (o1 : Own H0 c1 [.int .i64 W, .int .i64 Hi, .slice a n e]) (o2 : Own H0 c2 [.int .i64 1]) (o3 : Own H0 c3 [x]) (o4 : Own H0 c4 [.slice (some ⟨rb, 0, none⟩) m 1]) (o5 : Own H0 c5 [.slice (some ⟨fb, 0, none⟩) m 1])
  (d1 : rb ≠ c1 ∧ rb ≠ c2 ∧ rb ≠ c3 ∧ rb ≠ c4 ∧ rb ≠ c5) (d2 : fb ≠ c1 ∧ fb ≠ c2 ∧ fb ≠ c3 ∧ fb ≠ c4 ∧ fb ≠ c5) (hne : rb ≠ fb) (hrb : rb < H0.length) (hfb : fb < H0.length) (hr : RowsDone H0 H0 rb fb 0 m g)
  (hch : ChOk E_fvz x H0 rb fb a W m g) (hT : valT E_fvz x = true) (hk : ∀ H, RowsDone H0 H rb fb m m g → K (.tuple #[]) H) :
  bodyK Try.prog E_fvz Try.f45 [.pointer (some ⟨c0, 0, none⟩), .pointer (some ⟨c1, 0, none⟩), .pointer (some ⟨c2, 0, none⟩), .pointer (some ⟨c3, 0, none⟩), .pointer (some ⟨c4, 0, none⟩), .pointer (some ⟨c5, 0, none⟩)] H0 K := by
 refine bodyL_body E_fvz_ok ?_
 rw [fvz_vc]
 refine ⟨0, (o0.rdC 0).trans rfl, ?_⟩
 refine fvz_L1 c1 c2 c3 c4 c5 (fun μ y H => ∃ k : Nat, y = (k : Int) ∧ k ≤ m ∧ μ = m - k ∧ RowsDone H0 H rb fb k m g) m 0 H0 ⟨0, rfl, Nat.zero_le _, rfl, hr⟩ ?_
 intro μ y H hI
 obtain ⟨k, rfl, hkm, rfl, hR⟩ := hI
 have kp := hR.1
 have p1 := o1.keep2 d1.1 d2.1 kp
 have p2 := o2.keep2 d1.2.1 d2.2.1 kp
 have p3 := o3.keep2 d1.2.2.1 d2.2.2.1 kp
 have p4 := o4.keep2 d1.2.2.2.1 d2.2.2.2.1 kp
 have p5 := o5.keep2 d1.2.2.2.2 d2.2.2.2.2 kp
 rw [fvz_r1]
 refine ⟨Hi, (p1.rdC 1).trans rfl, ?_⟩
 refine Br.intro (fun hc => ?_) (fun hc => ?_)
 ·have hc' := of_decide_eq_true hc
  have hkm' : k < m := by omega
  refine ⟨W, (p1.rdC 0).trans rfl, W, (p1.rdC 0).trans rfl, a, n, e, (p1.rdC 2).trans rfl, x, (p3.rdC 0).trans rfl, some ⟨fb, 0, none⟩, m, 1, (p5.rdC 0).trans rfl, some ⟨rb, 0, none⟩, m, 1, (p4.rdC 0).trans rfl, ?_⟩
  have s1 := row_small (k := (k : Int)) (W := W) ω2 ω2 hW hW2
  have s2 := row_small (k := (k : Int) + 1) (W := W) ω2 ω2 hW hW2
  have e2 : ((k : Int) + 1) * W = (k : Int) * W + W := by rw [Int.add_mul, Int.one_mul]
  have s3 : ((k : Int) + 1) * W ≤ (n : Int) := by
   rw [hn, Int.mul_comm]
   exact Int.mul_le_mul_of_nonneg_left ω2 ω2
  rw [wrap64 (n := (k : Int) * W) ω2 ω2, wrap64 (n := (k : Int) + 1) ω2 ω2, wrap64 (n := ((k : Int) + 1) * W) ω2 ω2]
  refine ⟨s1.1, by omega, s3, ?_⟩
  rw [hT]
  show callV _ _ _ _ _
  refine hch k hkm' H kp _ fun a' n' e' H' hg ho => ?_
  rw [extV0, extV1]
  have st := hR.step hne hkm' hg ho hrb hfb (K := fun H3 => ∃ x9 : Int, rdC H3 c2 0 = some (.int .i64 x9) ∧ loopQ (fvz_I1 c1 c2 c3 c4 c5 fun μ y H => ∃ k : Nat, y = (k : Int) ∧ k ≤ m ∧ μ = m - k ∧ RowsDone H0 H rb fb k m g) (m - k) (blockQ 0 (retK Try.prog Try.f45 K)) .normal (fvz_P1 c1 c2 c3 c4 c5 (IntKind.wrap .i64 ((k : Int) + x9))) H3) (fun H3 hD => by
   refine ⟨1, ((o2.keep2 d1.2.1 d2.2.1 hD.1).rdC 0).trans rfl, ?_⟩
   rw [wrap64 (n := (k : Int) + 1) ω2 ω2]
   exact fvz_n1 (m - (k + 1)) ω2 ⟨k + 1, by omega, by omega, rfl, hD⟩)
  rw [stV_slice] at st
  obtain ⟨t1, t2, t3⟩ := st
  refine ⟨by omega, by omega, rb, 0, rfl, ?_⟩
  rw [stV_slice]
  exact ⟨t1, t2, by omega, by omega, fb, 0, rfl, t3⟩
 ·have hc' := of_decide_eq_false hc
  rw [fvz_x1_0]
  have : k = m := by omega
  subst this
  exact hk H hR


def p_f4z (p_Wide : Int) (p_High : Int) (ia : LN) : Int × Int × LN × Bool := (bif !(p_f3z p_Wide p_High ia) then ((0 : Int), (0 : Int), [], false) else (p_Wide, p_High, ia, true))
def p_f4z_eq := @p_f4z.eq_1
def T_f4z (p_Wide : Int) (p_High : Int) (p_Lights_a : OA) (p_Lights_n : Nat) (p_Lights_e : Nat) (H : AHeap) (K : Int → Int → OA → Nat → Nat → Bool → AHeap → Prop) : Prop := ∃ (ia : LN), IsL fF H p_Lights_a p_Lights_n ia ∧ ia.length < 1073741824 ∧ ((∀ H' : AHeap, Grow H H' → Br ((p_f4z p_Wide p_High ia).2.2.2) (K p_Wide p_High p_Lights_a p_Lights_n p_Lights_e true H') (K 0 0 none 0 0 false H')))
theorem T_f4z_i {p_Wide : Int} {p_High : Int} {p_Lights_a : OA} {p_Lights_n : Nat} {p_Lights_e : Nat} {H : AHeap} {K : Int → Int → OA → Nat → Nat → Bool → AHeap → Prop} (h : ∃ (ia : LN), IsL fF H p_Lights_a p_Lights_n ia ∧ ia.length < 1073741824 ∧ ((∀ H' : AHeap, Grow H H' → Br ((p_f4z p_Wide p_High ia).2.2.2) (K p_Wide p_High p_Lights_a p_Lights_n p_Lights_e true H') (K 0 0 none 0 0 false H')))) : T_f4z p_Wide p_High p_Lights_a p_Lights_n p_Lights_e H K := h

/-! f4z: function 47 -/
def E_f4z : Env := envOf [(27, S_f3z)]
def F_f4z : List Value → AHeap → (Value → AHeap → Prop) → Prop
 | [.agg ⟨[.int .i64 p_Wide, .int .i64 p_High, .slice p_Lights_a p_Lights_n p_Lights_e]⟩], H, K => T_f4z p_Wide p_High p_Lights_a p_Lights_n p_Lights_e H fun (r1_Wide : Int) (r1_High : Int) (xa : OA) (za : Nat) (ya : Nat) (r2 : Bool) (H' : AHeap) => K (.tuple #[.agg #[.int .i64 r1_Wide, .int .i64 r1_High, .slice xa za ya], .bool r2]) H'
 | _, _, _ => False
def S_f4z : FSpec := { F := F_f4z, quiet := false, tame := true }
theorem f4z_vc (p_Wide : Int) (p_High : Int) (p_Lights_a : OA) (p_Lights_n : Nat) (p_Lights_e : Nat) (H : AHeap) (K : Value → AHeap → Prop) : bodyL Try.prog E_f4z Try.f47 [.agg #[.int .i64 p_Wide, .int .i64 p_High, .slice p_Lights_a p_Lights_n p_Lights_e]] H K =
 (Al [.int .i64 p_Wide, .int .i64 p_High, .slice p_Lights_a p_Lights_n p_Lights_e] H fun b1 H1 => Al [.int .i64 0, .int .i64 0, .slice none 0 0] H1 fun b2 H2 => ∃ c1 : Int, ∃ c2 : Int, ∃ sf : OA, ∃ uf : Nat, ∃ tf : Nat,  rdN H2 b1 0 3 = some [.int .i64 c1, .int .i64 c2, .slice sf uf tf] ∧ T_f3z c1 c2 sf uf tf H2 fun (r1 : Bool) (H3 : AHeap) => Br (!r1) (isOwn H3 b2 ∧ (∃ l, rdN H3 b2 0 3 = some l) ∧ Lt (setN H3 b2 0 [.int .i64 0, .int .i64 0, .slice none 0 0]) fun H4 => ∃ c4 : Int, ∃ c5 : Int, ∃ ag : OA, ∃ dg : Nat, ∃ bg : Nat,  rdN H4 b2 0 3 = some [.int .i64 c4, .int .i64 c5, .slice ag dg bg] ∧ K (.tuple #[.agg #[.int .i64 c4, .int .i64 c5, .slice ag dg bg], .bool false]) H4) (∃ c7 : Int, ∃ c8 : Int, ∃ kg : OA, ∃ mg : Nat, ∃ lg : Nat,  rdN H3 b1 0 3 = some [.int .i64 c7, .int .i64 c8, .slice kg mg lg] ∧ isOwn H3 b2 ∧ (∃ l, rdN H3 b2 0 3 = some l) ∧ Lt (setN H3 b2 0 [.int .i64 c7, .int .i64 c8, .slice kg mg lg]) fun H5 => ∃ c10 : Int, ∃ c11 : Int, ∃ ph : OA, ∃ rh : Nat, ∃ qh : Nat,  rdN H5 b2 0 3 = some [.int .i64 c10, .int .i64 c11, .slice ph rh qh] ∧ K (.tuple #[.agg #[.int .i64 c10, .int .i64 c11, .slice ph rh qh], .bool true]) H5)) := by kernel_rfl
theorem E_f4z_ok : ∀ g, FnOk Try.prog g (E_f4z g) := FnOk.envOf (by
 intro x hx
 simp only [List.mem_cons, List.not_mem_nil, or_false] at hx
 subst hx; exact f3z_ok)
theorem f4z_main (p_Wide : Int) (p_High : Int) (p_Lights_a : OA) (p_Lights_n : Nat) (p_Lights_e : Nat) (H : AHeap) (K : Value → AHeap → Prop) (h : T_f4z p_Wide p_High p_Lights_a p_Lights_n p_Lights_e H fun (r1_Wide : Int) (r1_High : Int) (xa : OA) (za : Nat) (ya : Nat) (r2 : Bool) (H' : AHeap) => K (.tuple #[.agg #[.int .i64 r1_Wide, .int .i64 r1_High, .slice xa za ya], .bool r2]) H') : bodyL Try.prog E_f4z Try.f47 [.agg #[.int .i64 p_Wide, .int .i64 p_High, .slice p_Lights_a p_Lights_n p_Lights_e]] H K := by
 rw [f4z_vc]
 obtain ⟨ia, i_p_Lights, bd_50, hk⟩ := h
 obtain rfl := i_p_Lights.eqn
 have e : (p_f4z p_Wide p_High ia) = _ := rfl
 have e := e.trans (p_f4z_eq p_Wide p_High ia)
 have g0 := Grow.refl H
 refine Al.intro (fun b_1 H_1 hb_2 hl_3 g_4 o_5 => ?_)
 have l_7 := g_4.1
 have g_8 := g0.trans g_4
 have l_9 := g_8.1
 have w49 := o_5.lt
 refine Al.intro (fun b_10 H_2 hb_11 hl_12 g13 o_14 => ?_)
 have l_16 := g13.1
 have g17 := g_8.trans g13
 have l_18 := g17.1
 have o19 := o_5.grow g13
 have w20 := o19.lt
 have w48 := o_14.lt
 refine ⟨p_Wide, p_High, p_Lights_a, ia.length, p_Lights_e, (o19.rdN (Nat.le_of_ble_eq_true rfl)).trans rfl, ?_⟩
 refine T_f3z_i ⟨_, (i_p_Lights.grow g17), ω0, fun  H_3 g21  => ?_⟩
 have l22 := g21.1
 have g23 := g17.trans g21
 have l24 := g23.1
 have o25 := o19.grow g21
 have w26 := o25.lt
 have o27 := o_14.grow g21
 have w28 := o27.lt
 refine Br.intro (fun c29 => ?_) (fun c29 => ?_)
 ·have e := e.trans (cond_t c29)
  have c_29n := nf_of_t c29
  refine Lt.setN (n := 3) o27 (Nat.le_of_ble_eq_true rfl) rfl (fun H_4 hl_30 o32 k31 => ?_)
  have o32 : Own H_4 b_10 [.int .i64 0, .int .i64 0, .slice none 0 0] := o32
  have l33 := k31.1
  have g34 := g23.keep (b := b_10) ω2 k31
  have l35 := g34.1
  have o36 := o25.keep ω2 k31
  have w37 := o36.lt
  have w38 := o32.lt
  refine ⟨0, 0, none, 0, 0, (o32.rdN (Nat.le_of_ble_eq_true rfl)).trans rfl, ?_⟩
  have q := hk H_4 g34
  rw [e] at q
  exact q
 ·have e := e.trans (cond_f c29)
  have c_29n := nt_of_f c29
  have c_29n' := f3z_t c_29n
  refine ⟨p_Wide, p_High, p_Lights_a, ia.length, p_Lights_e, (o25.rdN (Nat.le_of_ble_eq_true rfl)).trans rfl, ?_⟩
  refine Lt.setN (n := 3) o27 (Nat.le_of_ble_eq_true rfl) rfl (fun H_5 hl_39 o41 k40 => ?_)
  have o41 : Own H_5 b_10 [.int .i64 p_Wide, .int .i64 p_High, .slice p_Lights_a ia.length p_Lights_e] := o41
  have l42 := k40.1
  have g43 := g23.keep (b := b_10) ω2 k40
  have l44 := g43.1
  have o45 := o25.keep ω2 k40
  have w46 := o45.lt
  have w47 := o41.lt
  refine ⟨p_Wide, p_High, p_Lights_a, ia.length, p_Lights_e, (o41.rdN (Nat.le_of_ble_eq_true rfl)).trans rfl, ?_⟩
  have q := hk H_5 g43
  rw [e] at q
  exact q
theorem f4z_ok : FnOk Try.prog 47 S_f4z := by
 refine FnOk.body mix_ok E_f4z_ok Try.func47 rfl ω10 ω10 ?_ ?_ ?_ ?_ ?_
 ·intro args H K K' h hk
  simp only [S_f4z] at *
  unfold F_f4z at *
  split at hk
  ·obtain ⟨ia, i_p_Lights, bd_50, k⟩ := hk
   exact ⟨ia, i_p_Lights, bd_50, (fun H' gg => Br_mono (h _ _) (h _ _) (k H' gg))⟩
  ·exact hk.elim
 ·intro hq; cases hq
 ·intro args H K hk
  simp only [S_f4z] at *
  unfold F_f4z at *
  split at hk
  ·obtain ⟨ia, i_p_Lights, bd_50, k⟩ := hk
   exact Br_live (k H (Grow.refl H))
  ·exact hk.elim
 ·intro _ args H K hk
  simp only [S_f4z] at *
  unfold F_f4z at *
  split at hk
  ·obtain ⟨ia, i_p_Lights, bd_50, k⟩ := hk
   exact ⟨ia, i_p_Lights, bd_50, (fun H' gg => Br_mono (fun q => ⟨gg, q⟩) (fun q => ⟨gg, q⟩) (k H' gg))⟩
  ·exact hk.elim
 ·have mm := @f4z_main
  have ml := fun (args : List Value) (H : AHeap) (K : Value → AHeap → Prop) => bodyL_body (P := Try.prog) (env := E_f4z ) (fn := Try.f47) (args := args) (H := H) (K := K) E_f4z_ok 
  revert mm ml
  generalize bodyK Try.prog E_f4z Try.f47 = Q
  generalize bodyL Try.prog E_f4z Try.f47 = QL
  intro mm ml args H K hk
  simp only [S_f4z] at *
  unfold F_f4z at *
  split at hk
  ·exact ml _ H K (mm _ _ _ _ _ H K hk)
  ·exact hk.elim
def ChRows (env : Env) (x : Value) (H : AHeap) (a : OA) (W : Int) (m : Nat) (g : Nat → LN × Bool) : Prop :=
 ∀ (y : Nat), y < m → ∀ (H1 : AHeap), Grow H H1 → ∀ K : Value → AHeap → Prop,
  (∀ (a' : OA) (n' e' : Nat) (H' : AHeap), Grow H1 H' → OwnS fF H' H1.length a' n' e' (g y).1 → K (.tuple #[.slice a' n' e', .bool (g y).2]) H') →
  callV env x [.slice ((a : OA).map fun a => ⟨a.block, a.off + ((y : Int) * W).toNat * 1, none⟩) ((((y : Int) + 1) * W - (y : Int) * W).toNat) 0] H1 K
theorem Grow.keep2 {H0 H H' : AHeap} {rb fb : Nat} (g : Grow H0 H) (h1 : H0.length ≤ rb) (h2 : H0.length ≤ fb) (k : Keep2 (some ⟨rb, 0, none⟩) (some ⟨fb, 0, none⟩) H H') : Grow H0 H' :=
 ⟨Nat.le_trans g.1 k.1, fun i hi => (k.2 i (Nat.lt_of_lt_of_le hi g.1) (fun x hx => by cases hx; show rb ≠ i; omega) (fun x hx => by cases hx; show fb ≠ i; omega)).trans (g.2 i hi)⟩
def flatR (g : Nat → LN × Bool) (k : Nat) : LN := (List.range k).flatMap fun i => (g i).1
theorem flatR_succ (g : Nat → LN × Bool) (k : Nat) : flatR g (k + 1) = flatR g k ++ (g k).1 := by
 unfold flatR
 rw [List.range_succ, List.flatMap_append]
 simp
theorem flatR_len {g : Nat → LN × Bool} {m : Nat} (h : ∀ i, i < m → (g i).1.length ≤ 64) : ∀ k, k ≤ m → (flatR g k).length ≤ 64 * k := by
 intro k
 induction k with
 | zero => intro _; simp [flatR]
 | succ k ih =>
  intro hk
  have h1 := ih ω2
  have h2 := h k ω2
  rw [flatR_succ, List.length_append]
  omega
def p_rows (W Hi : Int) (m : Nat) (g : Nat → LN × Bool) : Int × Int × LN × Bool := bif (List.range m).all (fun i => (g i).2) then p_f4z W Hi (flatR g m) else (0, 0, [], false)
theorem p_rows_no {W Hi : Int} {m : Nat} {g : Nat → LN × Bool} {k : Nat} (hk : k < m) (h : (g k).2 = false) : p_rows W Hi m g = (0, 0, [], false) := by
 unfold p_rows
 have : (List.range m).all (fun i => (g i).2) = false := by
  rw [List.all_eq_false]
  exact ⟨k, List.mem_range.2 hk, by simp [h]⟩
 rw [this, cond_false]
theorem p_rows_all {W Hi : Int} {m : Nat} {g : Nat → LN × Bool} (h : ∀ i, i < m → (g i).2 = true) : p_rows W Hi m g = p_f4z W Hi (flatR g m) := by
 unfold p_rows
 have : (List.range m).all (fun i => (g i).2) = true := by
  rw [List.all_eq_true]
  exact fun i hi => h i (List.mem_range.1 hi)
 rw [this, cond_true]
def T_f17z (p_Wide : Int) (p_High : Int) (p_Lights_a : OA) (p_Lights_n : Nat) (p_Lights_e : Nat) (workers : Int) (change_f : Fn) (change_x change_y : Array Value) (H : AHeap) (K : Int → Int → OA → Nat → Nat → Bool → AHeap → Prop) : Prop :=
 ∃ (l : LN) (g : Nat → LN × Bool), IsL fF H p_Lights_a p_Lights_n l ∧ workers = 1 ∧ 1 ≤ p_Wide ∧ p_Wide ≤ 16 ∧ 1 ≤ p_High ∧ p_High ≤ 16 ∧ (l.length : Int) = p_Wide * p_High ∧ valT E_fvz (.func change_f change_x change_y) = true ∧
  (∀ i, i < p_High.toNat → (g i).1.length ≤ 64 ∧ ((g i).2 = true → 1 ≤ (g i).1.length)) ∧ ChRows E_fvz (.func change_f change_x change_y) H p_Lights_a p_Wide p_High.toNat g ∧
  (∀ (cd : OA) (ld jd : Nat), ∀ H' : AHeap, Grow H H' → OwnS fF H' H.length cd ld jd ((p_rows p_Wide p_High p_High.toNat g).2.2.1) → K ((p_rows p_Wide p_High p_High.toNat g).1) ((p_rows p_Wide p_High p_High.toNat g).2.1) cd ld jd ((p_rows p_Wide p_High p_High.toNat g).2.2.2) H')
/-! f17z: function 29 -/
def E_f17z : Env := envOf [(45, S_fvz), (47, S_f4z)]
def F_f17z : List Value → AHeap → (Value → AHeap → Prop) → Prop
 | [.agg ⟨[.int .i64 p_Wide, .int .i64 p_High, .slice p_Lights_a p_Lights_n p_Lights_e]⟩, .int .i64 workers, .func change_f change_x change_y], H, K => T_f17z p_Wide p_High p_Lights_a p_Lights_n p_Lights_e workers change_f change_x change_y H fun (r1_Wide : Int) (r1_High : Int) (xa : OA) (za : Nat) (ya : Nat) (r2 : Bool) (H' : AHeap) => K (.tuple #[.agg #[.int .i64 r1_Wide, .int .i64 r1_High, .slice xa za ya], .bool r2]) H'
 | _, _, _ => False
def S_f17z : FSpec := { F := F_f17z, quiet := false, tame := false }
theorem f17z_vc (p_Wide : Int) (p_High : Int) (p_Lights_a : OA) (p_Lights_n : Nat) (p_Lights_e : Nat) (workers : Int) (change_f : Fn) (change_x : Array Value) (change_y : Array Value) (H : AHeap) (K : Value → AHeap → Prop) : rbM Try.prog E_f17z [.agg #[.int .i64 p_Wide, .int .i64 p_High, .slice p_Lights_a p_Lights_n p_Lights_e], .int .i64 workers, .func change_f change_x change_y] H K =
 (Al [.int .i64 p_Wide, .int .i64 p_High, .slice p_Lights_a p_Lights_n p_Lights_e] H fun b1 H1 => Al [.int .i64 workers] H1 fun b2 H2 => Al [.func change_f change_x change_y] H2 fun b3 H3 => Al [.int .i64 0, .int .i64 0, .slice none 0 0] H3 fun b4 H4 => ∃ x1 : Int,  rdC H4 b1 1 = some (.int .i64 x1) ∧ ∃ x2 : Int,  rdC H4 b1 1 = some (.int .i64 x2) ∧ (0 : Int) ≤ x2 ∧ x2 = x2 ∧ x2 < (most : Int) ∧ Al (zerosOf (.slice none 0 0) (x2).toNat) H4 fun b5 H5 => (0 : Int) ≤ x1 ∧ x1 = x1 ∧ x1 < (most : Int) ∧ Al (zerosOf (.bool false) (x1).toNat) H5 fun b6 H6 => Al [.slice none 0 0] H6 fun b7 H7 => Al [.slice none 0 0] H7 fun b8 H8 => isOwn H8 b7 ∧ (∃ l, rdN H8 b7 0 1 = some l) ∧ Lt (setC H8 b7 0 (.slice (some ⟨b5, 0, none⟩) ((x2).toNat) 1)) fun H9 => isOwn H9 b8 ∧ (∃ l, rdN H9 b8 0 1 = some l) ∧ Lt (setC H9 b8 0 (.slice (some ⟨b6, 0, none⟩) ((x1).toNat) 1)) fun H10 => ∃ x3 : Int,  rdC (H10 ++ [none]) b2 0 = some (.int .i64 x3) ∧ ((57 : Nat) = 57 ∧ Value.int .i64 x3 = Value.int .i64 1 ∧ Value.int .i64 0 = Value.int .i64 0) ∧ Al [.int .i64 0] (H10 ++ [none]) fun b9 H11 => isOwn H11 b9 ∧ (∃ l, rdN H11 b9 0 1 = some l) ∧ Lt (setC H11 b9 0 (.int .i64 0)) fun H12 => ((57 : Nat) = 57 ∧ (.pointer (some ⟨H10.length, 0, none⟩) : Value) = .pointer (some ⟨H10.length, 0, none⟩) ∧ Value.int .i64 x3 = Value.int .i64 1 ∧ Value.int .i64 (0 : Int) = Value.int .i64 0) ∧ S_fvz.F [.pointer (some ⟨b9, 0, none⟩), .pointer (some ⟨b1, 0, none⟩), .pointer (some ⟨b2, 0, none⟩), .pointer (some ⟨b3, 0, none⟩), .pointer (some ⟨b7, 0, none⟩), .pointer (some ⟨b8, 0, none⟩)] H12 fun (_ : Value) (H13 : AHeap) => ∃ x4 : Int,  rdC H13 b1 0 = some (.int .i64 x4) ∧ ∃ x5 : Int,  rdC H13 b1 1 = some (.int .i64 x5) ∧ Al [.int .i64 0, .int .i64 0, .slice none 0 0] H13 fun b10 H14 => isOwn H14 b10 ∧ (∃ l, rdN H14 b10 0 3 = some l) ∧ Lt (setN H14 b10 0 [.int .i64 x4, .int .i64 x5, .slice none 0 0]) fun H15 => ∃ gf : OA, ∃ ff : Nat, ∃ jf : Nat,  rdC H15 b7 0 = some (.slice gf ff jf) ∧ loopK (exL Try.prog E_f17z (cl (cl (cr (cl (cr (cr rb4)))))) 120259088960 192 [(2, 4160)]) (ud6 (.pointer (some ⟨b4, 0, none⟩) :: ud2 (.pointer (some ⟨b8, 0, none⟩) :: ud2 (.pointer (some ⟨b10, 0, none⟩) :: ud21 (.slice gf ff jf :: .int .i64 (ff : Int) :: .int .i64 0 :: ud20 []))))) H15 (blockQ 2 (seqQ (exL Try.prog E_f17z (cr (cr (cr rb4))) 192 192 []) (retK Try.prog Try.f29 K)))) := by kernel_rfl
abbrev f17z_P1 (b10 : Nat) (b4 : Nat) (b8 : Nat) (gf : OA) (jf : Nat) (ff : Nat) (t36 : Int)  : List Value := (ud6 (.pointer (some ⟨b4, 0, none⟩) :: ud2 (.pointer (some ⟨b8, 0, none⟩) :: ud2 (.pointer (some ⟨b10, 0, none⟩) :: ud21 (.slice gf ff jf :: .int .i64 (ff : Int) :: .int .i64 t36 :: ud20 [])))))
theorem f17z_r1 (b10 : Nat) (b4 : Nat) (b8 : Nat) (gf : OA) (jf : Nat) (ff : Nat) (t36 : Int)  (H : AHeap) (R : Post) : exL Try.prog E_f17z (cl (cl (cr (cl (cr (cr rb4)))))) 120259088960 192 [(2, 4160)] (f17z_P1 b10 b4 b8 gf jf ff t36) H R =
 (Br (decide ((t36 : Int) < (ff : Int))) ((0 : Int) ≤ t36 ∧ t36 < (ff : Int) ∧ ∃ b11 f1, (gf : OA) = some ⟨b11, f1, none⟩ ∧ ∃ oh : OA, ∃ zg : Nat, ∃ tk : Nat,  rdC H b11 (f1 + (t36 : Int).toNat * 1) = some (.slice oh zg tk) ∧ ∃ qg : OA, ∃ rg : Nat, ∃ fh : Nat,  rdC H b8 0 = some (.slice qg rg fh) ∧ (0 : Int) ≤ t36 ∧ t36 < (rg : Int) ∧ ∃ b12 f2, (qg : OA) = some ⟨b12, f2, none⟩ ∧ ∃ x9 : Bool,  rdC H b12 (f2 + (t36 : Int).toNat * 1) = some (.bool x9) ∧ Br (!x9) (isOwn H b4 ∧ (∃ l, rdN H b4 0 3 = some l) ∧ Lt (setN H b4 0 [.int .i64 0, .int .i64 0, .slice none 0 0]) fun H16 => R .ret (ud6 (.pointer (some ⟨b4, 0, none⟩) :: .bool false :: ud49 [])) H16) (∃ dh : OA, ∃ eh : Nat, ∃ sk : Nat,  rdC H b10 2 = some (.slice dh eh sk) ∧ ∃ o1 w1 : List Value, ownB H dh eh sk 1 = some o1 ∧ rdS H oh (zg * 1) = some w1 ∧ ((dh : OA) = none → 0 < (zg : Nat)) ∧ (eh : Nat) + zg < most ∧ Ap H (killB H dh ++ [some ⟨o1 ++ w1, true⟩]) fun b13 H17 => isOwn H17 b10 ∧ (∃ l, rdN H17 b10 2 1 = some l) ∧ Lt (setC H17 b10 2 (.slice (some ⟨b13, 0, none⟩) (eh + zg) 1)) fun H18 => R .normal (ud6 (.pointer (some ⟨b4, 0, none⟩) :: ud2 (.pointer (some ⟨b8, 0, none⟩) :: ud2 (.pointer (some ⟨b10, 0, none⟩) :: ud21 (.slice gf ff jf :: .int .i64 (ff : Int) :: .int .i64 (IntKind.wrap .i64 (t36 + 1)) :: ud20 []))))) H18)) (R (.exit 2) (ud6 (.pointer (some ⟨b4, 0, none⟩) :: ud5 (.pointer (some ⟨b10, 0, none⟩) :: ud44 []))) H)) := by kernel_rfl
def f17z_I1 (b10 : Nat) (b4 : Nat) (b8 : Nat) (gf : OA) (jf : Nat) (ff : Nat) (Inv : Nat → Int → AHeap → Prop) : Nat → List Value → AHeap → Prop := fun μ tm H => ∃ (t36 : Int), tm = (f17z_P1 b10 b4 b8 gf jf ff t36) ∧ Inv μ t36 H
theorem f17z_L1 (b10 : Nat) (b4 : Nat) (b8 : Nat) (gf : OA) (jf : Nat) (ff : Nat) {Q : Post} (Inv : Nat → Int → AHeap → Prop) (ν : Nat) (t36 : Int)  (H : AHeap) (h0 : Inv ν t36 H)
  (hs : ∀ (μ : Nat) (t36 : Int)  (H : AHeap), Inv μ t36 H → exL Try.prog E_f17z (cl (cl (cr (cl (cr (cr rb4)))))) 120259088960 192 [(2, 4160)] (f17z_P1 b10 b4 b8 gf jf ff t36) H (loopQ (f17z_I1 b10 b4 b8 gf jf ff Inv) μ Q)) : loopK (exL Try.prog E_f17z (cl (cl (cr (cl (cr (cr rb4)))))) 120259088960 192 [(2, 4160)]) (f17z_P1 b10 b4 b8 gf jf ff t36) H Q :=
 ⟨f17z_I1 b10 b4 b8 gf jf ff Inv, ν, ⟨t36, rfl, h0⟩, fun μ tm H h => by obtain ⟨t36, rfl, hI⟩ := h; exact hs μ t36  H hI⟩
theorem f17z_n1 {b10 : Nat} {b4 : Nat} {b8 : Nat} {gf : OA} {jf : Nat} {ff : Nat} {Q : Post} {Inv : Nat → Int → AHeap → Prop} {μ : Nat} (μ' : Nat) {t36 : Int}  {H : AHeap} (hm : μ' < μ) (hI : Inv μ' t36 H) : loopQ (f17z_I1 b10 b4 b8 gf jf ff Inv) μ Q .normal (f17z_P1 b10 b4 b8 gf jf ff t36) H := ⟨μ', hm, t36, rfl, hI⟩
theorem f17z_x1_2 (b10 : Nat) (b4 : Nat) (H : AHeap) (K : Value → AHeap → Prop)  {I : Nat → List Value → AHeap → Prop} {μ : Nat} : loopQ I μ (blockQ 2 (seqQ (exL Try.prog E_f17z (cr (cr (cr rb4))) 192 192 []) (retK Try.prog Try.f29 K))) (.exit 2) (ud6 (.pointer (some ⟨b4, 0, none⟩) :: ud5 (.pointer (some ⟨b10, 0, none⟩) :: ud44 []))) H =
 (∃ c1 : Int, ∃ c2 : Int, ∃ sf : OA, ∃ uf : Nat, ∃ tf : Nat,  rdN H b10 0 3 = some [.int .i64 c1, .int .i64 c2, .slice sf uf tf] ∧ T_f4z c1 c2 sf uf tf H fun (r1 : Int) (r2 : Int) (a1 : OA) (r3 : Nat) (r4 : Nat) (r5 : Bool) (H19 : AHeap) => isOwn H19 b4 ∧ (∃ l, rdN H19 b4 0 3 = some l) ∧ Lt (setN H19 b4 0 [.int .i64 r1, .int .i64 r2, .slice a1 r3 r4]) fun H20 => ∃ c4 : Int, ∃ c5 : Int, ∃ ag : OA, ∃ dg : Nat, ∃ bg : Nat,  rdN H20 b4 0 3 = some [.int .i64 c4, .int .i64 c5, .slice ag dg bg] ∧ K (.tuple #[.agg #[.int .i64 c4, .int .i64 c5, .slice ag dg bg], .bool r5]) H20) := by kernel_rfl
theorem f17z_x1_ret (b4 : Nat) (t7 : Bool) (H : AHeap) (K : Value → AHeap → Prop)  {I : Nat → List Value → AHeap → Prop} {μ : Nat} : loopQ I μ (blockQ 2 (seqQ (exL Try.prog E_f17z (cr (cr (cr rb4))) 192 192 []) (retK Try.prog Try.f29 K))) .ret (ud6 (.pointer (some ⟨b4, 0, none⟩) :: .bool t7 :: ud49 [])) H =
 (∃ c7 : Int, ∃ c8 : Int, ∃ kg : OA, ∃ mg : Nat, ∃ lg : Nat,  rdN H b4 0 3 = some [.int .i64 c7, .int .i64 c8, .slice kg mg lg] ∧ K (.tuple #[.agg #[.int .i64 c7, .int .i64 c8, .slice kg mg lg], .bool t7]) H) := by kernel_rfl
theorem E_f17z_ok : ∀ g, FnOk Try.prog g (E_f17z g) := FnOk.envOf (by
 intro x hx
 simp only [List.mem_cons, List.not_mem_nil, or_false] at hx
 rcases hx with rfl | rfl
 ·exact fvz_ok
 ·exact f4z_ok)
theorem zeros_len {v : Value} (h : v.cells.toList = [v]) (n : Nat) : (zerosOf v n).length = n := by
 rw [zeros_map (fun v : Value => v) v n h]; simp
set_option maxHeartbeats 4000000 in
theorem f17z_main (W : Int) (Hi : Int) (la : OA) (ln : Nat) (le : Nat) (workers : Int) (cf : Fn) (cx cy : Array Value) (H : AHeap) (K : Value → AHeap → Prop) (h : T_f17z W Hi la ln le workers cf cx cy H fun (r1_Wide : Int) (r1_High : Int) (xa : OA) (za : Nat) (ya : Nat) (r2 : Bool) (H' : AHeap) => K (.tuple #[.agg #[.int .i64 r1_Wide, .int .i64 r1_High, .slice xa za ya], .bool r2]) H') : rbM Try.prog E_f17z [.agg #[.int .i64 W, .int .i64 Hi, .slice la ln le], .int .i64 workers, .func cf cx cy] H K := by
 obtain ⟨l, g, il, rfl, hW1, hW2, hH1, hH2, hl, hv, hlen, hch, hk⟩ := h
 obtain ⟨m, rfl⟩ : ∃ m : Nat, Hi = (m : Int) := ⟨Hi.toNat, by omega⟩
 simp only [Int.toNat_natCast] at hlen hch hk
 rw [f17z_vc]
 have hll := il.len
 refine Al.intro fun b1 H1 e1 l1 g1 o1 => Al.intro fun b2 H2 e2 l2 g2 o2 => Al.intro fun b3 H3 e3 l3 g3 o3 => Al.intro fun b4 H4 e4 l4 g4 o4 => ?_
 have p1 := ((o1.grow g2).grow g3).grow g4
 refine ⟨(m : Int), (p1.rdC 1).trans rfl, (m : Int), (p1.rdC 1).trans rfl, by omega, rfl, by have := most_eq; omega, ?_⟩
 refine Al.intro fun b5 H5 e5 l5 g5 o5 => ⟨by omega, rfl, by have := most_eq; omega, ?_⟩
 refine Al.intro fun b6 H6 e6 l6 g6 o6 => Al.intro fun b7 H7 e7 l7 g7 o7 => Al.intro fun b8 H8 e8 l8 g8 o8 => ?_
 refine Lt.set (o7.grow g8) ω22 fun H9 l9 q7 k9 => Lt.set (o8.keep ω2 k9) ω22 fun H10 l10 q8 k10 => ?_
 have g48 : Grow H4 H8 := ((g5.trans g6).trans g7).trans g8
 have G0 : Grow H H8 := (((g1.trans g2).trans g3).trans g4).trans g48
 have up : ∀ {b : Nat} {cs : List Value}, Own H8 b cs → b ≠ b7 → b ≠ b8 → Own H10 b cs := fun o h1 h2 => (o.keep h1 k9).keep h2 k10
 have u1 := up (p1.grow g48) ω2 ω2
 have u2 := up ((((o2.grow g3).grow g4).grow g48)) ω2 ω2
 have u3 := up (((o3.grow g4).grow g48)) ω2 ω2
 have u4 := up (o4.grow g48) ω2 ω2
 have u5 := up (((o5.grow g6).grow g7).grow g8) ω2 ω2
 have u6 := up ((o6.grow g7).grow g8) ω2 ω2
 have u7 := q7.keep ω2 k10
 have G1 : Grow H H10 := (G0.keep ω2 k9).keep ω2 k10
 have gA := Grow.app H10 (none : Option Blk)
 have lA : (H10 ++ [(none : Option Blk)]).length = H10.length + 1 := by simp
 refine ⟨1, ((u2.grow gA).rdC 0).trans rfl, ⟨rfl, rfl, rfl⟩, Al.intro fun b9 H11 e9 l11 g11 o9 => Lt.set o9 ω22 fun H12 l12 q9 k12 => ⟨⟨rfl, rfl, rfl, rfl⟩, ?_⟩⟩
 have up2 : ∀ {b : Nat} {cs : List Value}, Own H10 b cs → Own H12 b cs := fun o => ((o.grow gA).grow g11).keep (by have := o.lt; omega) k12
 have G2 : Grow H H12 := (((G1.trans gA).trans g11)).keep (by have := G1.1; omega) k12
 have z5 : ((zerosOf (.slice none 0 0) ((m : Int)).toNat) : List Value).length = m := (zeros_len rfl _).trans (Int.toNat_natCast m)
 have z6 : ((zerosOf (.bool false) ((m : Int)).toNat) : List Value).length = m := (zeros_len rfl _).trans (Int.toNat_natCast m)
 have q7' := up2 u7
 have q8' := up2 q8
 have em : ((m : Int)).toNat = m := Int.toNat_natCast m
 show bodyK _ _ _ _ _ _
 refine fvz_does (rb := b5) (fb := b6) (m := m) (W := W) (Hi := (m : Int)) (a := la) (n := ln) (e := le) (x := .func cf cx cy) (g := g) rfl ω2 hW1 hW2 (by rw [← hll]; exact hl) q9 (up2 u1) (up2 u2) (up2 u3) (by rw [em] at q7'; exact q7') (by rw [em] at q8'; exact q8')
  ⟨by omega, by omega, by omega, by omega, by omega⟩ ⟨by omega, by omega, by omega, by omega, by omega⟩ ω2 (by have := (up2 u5).lt; omega) (by have := (up2 u6).lt; omega) ⟨Keep2.refl _ _ _, _, _, up2 u5, up2 u6, z5, z6, fun i hi => absurd hi (Nat.not_lt_zero _)⟩
  (fun y hy H' kp K2 h2 => hch y hy H' (G2.keep2 ω2 ω2 kp) K2 h2) hv fun H13 hD => ?_
 have kD := hD.1
 have G3 : Grow H H13 := G2.keep2 ω2 ω2 kD
 have d1 := (up2 u1).keep2 (rb := b5) (fb := b6) ω2 ω2 kD
 have d4 := (up2 u4).keep2 (rb := b5) (fb := b6) ω2 ω2 kD
 have d7 := q7'.keep2 (rb := b5) (fb := b6) ω2 ω2 kD
 have d8 := q8'.keep2 (rb := b5) (fb := b6) ω2 ω2 kD
 rw [em] at d7 d8
 obtain ⟨rs, fs, or, of, lr, lf, hrow⟩ := hD.2
 have l13 := kD.1
 have d4l := d4.lt
 refine ⟨W, (d1.rdC 0).trans rfl, (m : Int), (d1.rdC 1).trans rfl, Al.intro fun b10 H14 e14 l14 g14 o14 => Lt.setN o14 (n := 3) ω22 rfl fun H15 l15 q10 k15 => ?_⟩
 have up3 : ∀ {b : Nat} {cs : List Value}, Own H13 b cs → Own H15 b cs := fun o => (o.grow g14).keep (by have := o.lt; omega) k15
 have G4 : Grow H H15 := (G3.trans g14).keep (by have := G3.1; omega) k15
 refine ⟨some ⟨b5, 0, none⟩, m, 1, ((up3 d7).rdC 0).trans rfl, ?_⟩
 refine f17z_L1 b10 b4 b8 (some ⟨b5, 0, none⟩) 1 m (fun μ t H' => ∃ k : Nat, t = (k : Int) ∧ k ≤ m ∧ μ = m - k ∧ (∀ i, i < k → (g i).2 = true) ∧ Keep1 b10 H15 H' ∧ ∃ (a : OA) (n e : Nat), Own H' b10 [.int .i64 W, .int .i64 (m : Int), .slice a n e] ∧ OwnS fF H' H15.length a n e (flatR g k)) m 0 H15
  ⟨0, rfl, Nat.zero_le _, rfl, fun i hi => absurd hi (Nat.not_lt_zero _), ⟨Nat.le_refl _, fun _ _ _ => rfl⟩, none, 0, 0, q10, OwnS.nil _ _ _ _⟩ ?_
 intro μ t H' hI
 obtain ⟨k, rfl, hkm, rfl, hall, kp, a, n, e, ob, os⟩ := hI
 have hg64 : ∀ i, i < m → (g i).1.length ≤ 64 := fun i hi => (hlen i hi).1
 have hfl := flatR_len hg64 k hkm
 have hn := os.len
 have up4 : ∀ {b : Nat} {cs : List Value}, Own H13 b cs → Own H' b cs := fun o => (up3 o).keep (by have := o.lt; omega) kp
 have G5 : Grow H H' := G4.keep (by have := G3.1; omega) kp
 have c4 := up4 d4
 have lkp := kp.1
 rw [f17z_r1]
 refine Br.intro (fun hc => ?_) (fun hc => ?_)
 ·have hc' := of_decide_eq_true hc
  have hkm' : k < m := by omega
  obtain ⟨hf, ra, rn, re, hr, hrl, hrb⟩ := hrow k hkm'
  have hrr := ((up4 or).rdC (0 + ((k : Int)).toNat * 1))
  have hff := ((up4 of).rdC (0 + ((k : Int)).toNat * 1))
  rw [Int.toNat_natCast, Nat.mul_one, Nat.zero_add] at hrr hff
  refine ⟨by omega, hc', b5, 0, rfl, ra, rn, re, by rw [Int.toNat_natCast, Nat.mul_one, Nat.zero_add]; exact hrr.trans hr, some ⟨b6, 0, none⟩, m, 1, ((up4 d8).rdC 0).trans rfl, by omega, hc', b6, 0, rfl, (g k).2, by rw [Int.toNat_natCast, Nat.mul_one, Nat.zero_add]; exact hff.trans hf, ?_⟩
  refine Br.intro (fun hg => ?_) (fun hg => ?_)
  ·have hgk := nf_of_t hg
   refine Lt.setN c4 (n := 3) ω22 rfl fun H16 l16 q4 k16 => ?_
   rw [f17z_x1_ret]
   refine ⟨0, 0, none, 0, 0, (q4.rdN ω22).trans rfl, ?_⟩
   rw [p_rows_no hkm' hgk] at hk
   exact hk none 0 0 H16 (G5.keep ω2 k16) (OwnS.nil _ _ _ _)
  ·have hgk := nt_of_f hg
   have h1 := (hlen k hkm').2 hgk
   have h2 := hg64 k hkm'
   have hrl' : IsL fF H' ra rn (g k).1 := IsL.keepB hrl fun x hx => by
    have hx2 : x.block < H13.length := by
     obtain ⟨b, o, ea, hcl⟩ := hrl.cell (by have := hrl.len; omega)
     rw [hx] at ea; cases ea
     have := hcl 0 _ (List.getElem?_eq_getElem ω2)
     unfold rdC rdB at this
     by_cases hb : b < H13.length
     ·exact hb
     ·rw [List.getElem?_eq_none ω2] at this; cases this
    have e15 : H15[x.block]? = H13[x.block]? := (k15.2 _ ω2 ω2).trans (g14.2 _ hx2)
    rw [kp.2 _ ω2 ω2, e15]
   have hrn := hrl'.len
   refine ⟨a, n, e, (ob.rdC 2).trans rfl, _, _, os.ownB, isl_rdS hrl', (fun _ => by omega), ω19, ?_⟩
   refine Ap.appS os rfl rfl fun b13 H17 e17 l17 o17 k17 => ?_
   have lo := os.lo
   have hup : ∀ x, a = some x → x.block ≠ b10 := fun x hx => by have := lo x hx; omega
   have ob2 := ob.keepA hup k17
   refine Lt.set ob2 (Nat.le_of_ble_eq_true rfl) fun H18 l18 q18 k18 => ?_
   refine f17z_n1 (m - (k + 1)) ω2 ⟨k + 1, by rw [wrap64 ω2 ω2]; omega, by omega, rfl, fun i hi => ?_, ?_, some ⟨b13, 0, none⟩, n + rn, 1, q18, ?_⟩
   ·rcases Nat.lt_succ_iff_lt_or_eq.1 hi with hi | rfl
    ·exact hall i hi
    ·exact hgk
   ·refine ⟨by omega, fun i hi hne => ?_⟩
    rw [k18.2 i ω2 hne, k17.2 i ω2 (fun x hx => by have := lo x hx; omega), kp.2 i hi hne]
   ·rw [flatR_succ]
    have := (o17.keep (b' := b10) ω2 k18)
    exact this.ownS (by rw [List.length_append]; omega) ω2
 ·have hc' := of_decide_eq_false hc
  obtain rfl : k = m := by omega
  rw [f17z_x1_2]
  have lo := os.lo
  have hup := os.up
  refine ⟨W, (k : Int), a, n, e, (ob.rdN (Nat.le_of_ble_eq_true rfl)).trans rfl, T_f4z_i ⟨flatR g k, os.isL, by omega, fun H19 g19 => ?_⟩⟩
  rw [p_rows_all hall] at hk
  refine Br.intro (fun hb => ?_) (fun hb => ?_)
  ·refine Lt.setN (c4.grow g19) (n := 3) ω22 rfl fun H20 l20 q20 k20 => ⟨W, (k : Int), a, n, e, (q20.rdN (Nat.le_of_ble_eq_true rfl)).trans rfl, ?_⟩
   have ev : p_f4z W (k : Int) (flatR g k) = (W, (k : Int), flatR g k, true) := by
    rw [p_f4z_eq] at hb ⊢
    cases hq : !(p_f3z W (k : Int) (flatR g k)) with
    | true => rw [hq] at hb; cases hb
    | false => rfl
   rw [ev] at hk
   exact hk a n e H20 ((G5.trans g19).keep ω2 k20) (((os.grow g19).keepA (fun x y hx hy => by cases hx; have := lo y hy; show b4 ≠ _; omega) (OwnS.keep1 k20)).weak (by have := G4.1; omega))
  ·refine Lt.setN (c4.grow g19) (n := 3) ω22 rfl fun H20 l20 q20 k20 => ⟨0, 0, none, 0, 0, (q20.rdN (Nat.le_of_ble_eq_true rfl)).trans rfl, ?_⟩
   have ev : p_f4z W (k : Int) (flatR g k) = (0, 0, [], false) := by
    rw [p_f4z_eq] at hb ⊢
    cases hq : !(p_f3z W (k : Int) (flatR g k)) with
    | true => rfl
    | false => rw [hq] at hb; cases hb
   rw [ev] at hk
   exact hk none 0 0 H20 ((G5.trans g19).keep ω2 k20) (OwnS.nil _ _ _ _)
theorem f17z_ok : FnOkX Try.prog (MainCls Try.prog) 29 S_f17z := by
 refine rbOk mix_ok (fun g => (E_f17z_ok g).le fun _ _ _ => trivial) (E_f17z_ok _) ω10 ω10 ω10 ?_ (fun hq => by cases hq) ?_ (fun hq => by cases hq) ?_
 ·intro args H K K' h hk
  simp only [S_f17z] at *
  unfold F_f17z at *
  split at hk
  ·obtain ⟨l, g, il, h1, hW1, hW2, hH1, hH2, hl, hv, hlen, hch, k⟩ := hk
   exact ⟨l, g, il, h1, hW1, hW2, hH1, hH2, hl, hv, hlen, hch, fun a n e H' gg ow => h _ _ (k a n e H' gg ow)⟩
  ·exact hk.elim
 ·intro args H K hk
  simp only [S_f17z] at *
  unfold F_f17z at *
  split at hk
  ·obtain ⟨l, g, il, h1, hW1, hW2, hH1, hH2, hl, hv, hlen, hch, k⟩ := hk
   exact liveS fun a n e H1 g o => ⟨_, _, k a n e H1 g o⟩
  ·exact hk.elim
 ·intro args H K hk
  refine rbM_rbK E_f17z_ok ?_
  simp only [S_f17z] at *
  unfold F_f17z at *
  split at hk
  ·exact f17z_main _ _ _ _ _ _ _ _ _ H K hk
  ·exact hk.elim

def picRow (l : LN) (W : Int) (y : Nat) : LN := (l.drop ((y : Int) * W).toNat).take ((((y : Int) + 1) * W - (y : Int) * W).toNat)
theorem picRow_facts {l : LN} {W Hi : Int} {y : Nat} (h1 : 1 ≤ W) (h2 : W ≤ 16) (h3 : Hi ≤ 16) (hl : (l.length : Int) = W * Hi) (hy : (y : Int) < Hi) : 0 ≤ (y : Int) * W ∧ (y : Int) * W ≤ ((y : Int) + 1) * W ∧ ((y : Int) + 1) * W ≤ (l.length : Int) ∧ ((picRow l W y).length : Int) = W := by
 have e2 : ((y : Int) + 1) * W = (y : Int) * W + W := by rw [Int.add_mul, Int.one_mul]
 have s1 : 0 ≤ (y : Int) * W := Int.mul_nonneg ω2 ω2
 have s3 : ((y : Int) + 1) * W ≤ (l.length : Int) := by
  rw [hl, Int.mul_comm]
  exact Int.mul_le_mul_of_nonneg_left ω2 ω2
 refine ⟨s1, by omega, s3, ?_⟩
 unfold picRow
 rw [List.length_take, List.length_drop]
 omega
def p_ftz (ba : LN) (s_Scale : Nat) (p_Wide p_High : Int) (ia : LN) : Int × Int × LN × Bool :=
 bif p_f7z ba s_Scale then (bif p_f3z p_Wide p_High ia then p_rows p_Wide p_High p_High.toNat (fun y => p_fbz (picRow ia p_Wide y) ba s_Scale (Int.tdiv (p_Wide + 1) 2)) else (0, 0, [], false)) else (0, 0, [], false)
def T_ftz (oa : OA) (lb : Nat) (va : Nat) (s_Scale : Nat) (p_Wide : Int) (p_High : Int) (p_Lights_a : OA) (p_Lights_n : Nat) (p_Lights_e : Nat) (H : AHeap) (K : Int → Int → OA → Nat → Nat → Bool → AHeap → Prop) : Prop :=
 ∃ (ba : LN), ∃ (ia : LN), IsL fF H oa lb ba ∧ IsL fF H p_Lights_a p_Lights_n ia ∧ ba.length < 1073741824 ∧ ia.length < 1073741824 ∧
  (∀ (cd : OA) (ld jd : Nat), ∀ H' : AHeap, Grow H H' → OwnS fF H' H.length cd ld jd ((p_ftz ba s_Scale p_Wide p_High ia).2.2.1) → K ((p_ftz ba s_Scale p_Wide p_High ia).1) ((p_ftz ba s_Scale p_Wide p_High ia).2.1) cd ld jd ((p_ftz ba s_Scale p_Wide p_High ia).2.2.2) H')
theorem T_ftz_i {oa : OA} {lb : Nat} {va : Nat} {s_Scale : Nat} {p_Wide : Int} {p_High : Int} {p_Lights_a : OA} {p_Lights_n : Nat} {p_Lights_e : Nat} {H : AHeap} {K : Int → Int → OA → Nat → Nat → Bool → AHeap → Prop} (h : ∃ (ba : LN), ∃ (ia : LN), IsL fF H oa lb ba ∧ IsL fF H p_Lights_a p_Lights_n ia ∧ ba.length < 1073741824 ∧ ia.length < 1073741824 ∧
  (∀ (cd : OA) (ld jd : Nat), ∀ H' : AHeap, Grow H H' → OwnS fF H' H.length cd ld jd ((p_ftz ba s_Scale p_Wide p_High ia).2.2.1) → K ((p_ftz ba s_Scale p_Wide p_High ia).1) ((p_ftz ba s_Scale p_Wide p_High ia).2.1) cd ld jd ((p_ftz ba s_Scale p_Wide p_High ia).2.2.2) H')) : T_ftz oa lb va s_Scale p_Wide p_High p_Lights_a p_Lights_n p_Lights_e H K := h
/-! ftz: function 20 -/
def E_ftz : Env := envOf [(26, S_f7z), (27, S_f3z), (29, S_f17z)]
def F_ftz : List Value → AHeap → (Value → AHeap → Prop) → Prop
 | [.agg ⟨[.slice oa lb va, .float .f32 s_Scale]⟩, .agg ⟨[.int .i64 p_Wide, .int .i64 p_High, .slice p_Lights_a p_Lights_n p_Lights_e]⟩], H, K => T_ftz oa lb va s_Scale p_Wide p_High p_Lights_a p_Lights_n p_Lights_e H fun (r1_Wide : Int) (r1_High : Int) (xa : OA) (za : Nat) (ya : Nat) (r2 : Bool) (H' : AHeap) => K (.tuple #[.agg #[.int .i64 r1_Wide, .int .i64 r1_High, .slice xa za ya], .bool r2]) H'
 | _, _, _ => False
def S_ftz : FSpec := { F := F_ftz, quiet := false, tame := false }
theorem ftz_vc (oa : OA) (lb : Nat) (va : Nat) (s_Scale : Nat) (p_Wide : Int) (p_High : Int) (p_Lights_a : OA) (p_Lights_n : Nat) (p_Lights_e : Nat) (H : AHeap) (K : Value → AHeap → Prop) : bodyL Try.prog E_ftz Try.f20 [.agg #[.slice oa lb va, .float .f32 s_Scale], .agg #[.int .i64 p_Wide, .int .i64 p_High, .slice p_Lights_a p_Lights_n p_Lights_e]] H K =
 (Al [.slice oa lb va, .float .f32 s_Scale] H fun b1 H1 => Al [.int .i64 p_Wide, .int .i64 p_High, .slice p_Lights_a p_Lights_n p_Lights_e] H1 fun b2 H2 => Al [.int .i64 0, .int .i64 0, .slice none 0 0] H2 fun b3 H3 => ∃ xf : OA, ∃ zf : Nat, ∃ yf : Nat, ∃ c2 : Nat,  rdN H3 b1 0 2 = some [.slice xf zf yf, .float .f32 c2] ∧ T_f7z xf zf yf c2 H3 fun (r1 : Bool) (H4 : AHeap) => Br (!r1) (isOwn H4 b3 ∧ (∃ l, rdN H4 b3 0 3 = some l) ∧ Lt (setN H4 b3 0 [.int .i64 0, .int .i64 0, .slice none 0 0]) fun H5 => ∃ c3 : Int, ∃ c4 : Int, ∃ gh : OA, ∃ kh : Nat, ∃ jh : Nat,  rdN H5 b3 0 3 = some [.int .i64 c3, .int .i64 c4, .slice gh kh jh] ∧ K (.tuple #[.agg #[.int .i64 c3, .int .i64 c4, .slice gh kh jh], .bool false]) H5) (∃ c6 : Int, ∃ c7 : Int, ∃ lh : OA, ∃ nh : Nat, ∃ mh : Nat,  rdN H4 b2 0 3 = some [.int .i64 c6, .int .i64 c7, .slice lh nh mh] ∧ T_f3z c6 c7 lh nh mh H4 fun (r2 : Bool) (H6 : AHeap) => Br (!r2) (isOwn H6 b3 ∧ (∃ l, rdN H6 b3 0 3 = some l) ∧ Lt (setN H6 b3 0 [.int .i64 0, .int .i64 0, .slice none 0 0]) fun H7 => ∃ c9 : Int, ∃ c10 : Int, ∃ vg : OA, ∃ xg : Nat, ∃ wg : Nat,  rdN H7 b3 0 3 = some [.int .i64 c9, .int .i64 c10, .slice vg xg wg] ∧ K (.tuple #[.agg #[.int .i64 c9, .int .i64 c10, .slice vg xg wg], .bool false]) H7) (∃ x1 : Int,  rdC H6 b2 0 = some (.int .i64 x1) ∧ 2 ≠ (0 : Int) ∧ Al [.int .i64 0] H6 fun b4 H8 => isOwn H8 b4 ∧ (∃ l, rdN H8 b4 0 1 = some l) ∧ Lt (setC H8 b4 0 (.int .i64 (IntKind.wrap .i64 (Int.tdiv (IntKind.wrap .i64 (x1 + 1)) 2)))) fun H9 => ∃ c12 : Int, ∃ c13 : Int, ∃ sh : OA, ∃ uh : Nat, ∃ th : Nat,  rdN H9 b2 0 3 = some [.int .i64 c12, .int .i64 c13, .slice sh uh th] ∧ T_f17z c12 c13 sh uh th 1 (.func 37) #[] #[.pointer (some ⟨b1, 0, none⟩), .pointer (some ⟨b4, 0, none⟩)] H9 fun (r3 : Int) (r4 : Int) (a1 : OA) (r5 : Nat) (r6 : Nat) (r7 : Bool) (H10 : AHeap) => isOwn H10 b3 ∧ (∃ l, rdN H10 b3 0 3 = some l) ∧ Lt (setN H10 b3 0 [.int .i64 r3, .int .i64 r4, .slice a1 r5 r6]) fun H11 => ∃ c15 : Int, ∃ c16 : Int, ∃ ei : OA, ∃ gi : Nat, ∃ fi : Nat,  rdN H11 b3 0 3 = some [.int .i64 c15, .int .i64 c16, .slice ei gi fi] ∧ K (.tuple #[.agg #[.int .i64 c15, .int .i64 c16, .slice ei gi fi], .bool r7]) H11))) := by kernel_rfl
theorem E_ftz_ok : ∀ g, FnOkX Try.prog (MainCls Try.prog) g (E_ftz g) := FnOkX.envOf (by
 intro x hx
 simp only [List.mem_cons, List.not_mem_nil, or_false] at hx
 rcases hx with rfl | rfl | rfl
 ·exact f7z_ok.le fun _ _ _ => trivial
 ·exact f3z_ok.le fun _ _ _ => trivial
 ·exact f17z_ok)
theorem DropRows_half {W : Int} (h1 : 1 ≤ W) : Int.tdiv (W + 1) 2 = (W + 1) / 2 := Int.tdiv_eq_ediv_of_nonneg ω2
theorem DropRows_ch {H : AHeap} {c d : Nat} {wa : OA} {wn we : Nat} {sc : Nat} {la : OA} {ln : Nat} {ws l : LN} {W Hi : Int} {m : Nat} (hm : Hi = (m : Int)) (o : Own H c [.slice wa wn we, .float .f32 sc]) (o2 : Own H d [.int .i64 (Int.tdiv (W + 1) 2)]) (iw : IsL fF H wa wn ws) (il : IsL fF H la ln l) (bw : ws.length < 1073741824)
  (h1 : 1 ≤ W) (h2 : W ≤ 16) (h3 : Hi ≤ 16) (hl : (l.length : Int) = W * Hi) : ChRows E_fvz (.func (.func 37) #[] #[.pointer (some ⟨c, 0, none⟩), .pointer (some ⟨d, 0, none⟩)]) H la W m (fun y => p_fbz (picRow l W y) ws sc (Int.tdiv (W + 1) 2)) := by
 intro y hy H1 gg K hK
 obtain ⟨f1, f2, f3, f4⟩ := picRow_facts h1 h2 h3 hl (show (y : Int) < Hi by omega)
 refine (?_ : T_fbz ((la : OA).map fun a => ⟨a.block, a.off + ((y : Int) * W).toNat * 1, none⟩) ((((y : Int) + 1) * W - (y : Int) * W).toNat) 0 c d H1 fun a n e r H' => K (.tuple #[.slice a n e, .bool r]) H')
 have hn := il.len
 have hh := DropRows_half h1
 refine ⟨wa, wn, we, sc, Int.tdiv (W + 1) 2, picRow l W y, ws, ((o.grow gg).rdN (Nat.le_of_ble_eq_true rfl)).trans rfl, ((o2.grow gg).rdN (Nat.le_of_ble_eq_true rfl)).trans rfl, sub_isl (il.grow gg) f1 f2 ω2, iw.grow gg, by omega, bw, by omega, by omega, by omega, fun a n e H' g2 o2 => hK a n e H' g2 o2⟩
theorem DropRows_len {ws l : LN} {sc : Nat} {W Hi : Int} {i : Nat} (h1 : 1 ≤ W) (h2 : W ≤ 16) (h3 : Hi ≤ 16) (hl : (l.length : Int) = W * Hi) (hi : (i : Int) < Hi) : (p_fbz (picRow l W i) ws sc (Int.tdiv (W + 1) 2)).1.length ≤ 64 ∧ ((p_fbz (picRow l W i) ws sc (Int.tdiv (W + 1) 2)).2 = true → 1 ≤ (p_fbz (picRow l W i) ws sc (Int.tdiv (W + 1) 2)).1.length) := by
 obtain ⟨f1, f2, f3, f4⟩ := picRow_facts h1 h2 h3 hl hi
 rw [p_fbz_eq]
 generalize hA : ((picRow l W i).drop (0 : Int).toNat).take ((Int.tdiv (W + 1) 2 : Int) - 0).toNat = A
 generalize hB : ((picRow l W i).drop (Int.tdiv (W + 1) 2 : Int).toNat).take ((((picRow l W i).length : Int) : Int) - Int.tdiv (W + 1) 2).toNat = B
 have lA : A.length ≤ 16 := by rw [← hA, List.length_take, List.length_drop]; omega
 have lB : B.length ≤ 16 := by rw [← hB, List.length_take, List.length_drop]; omega
 have a1 := impl_DO_len ws sc A B
 have a2 := impl_DO_ok ws sc A B
 show (p_frz ws sc A B).1.length ≤ 64 ∧ ((p_frz ws sc A B).2 = true → 1 ≤ (p_frz ws sc A B).1.length)
 refine ⟨by omega, fun h => ?_⟩
 obtain ⟨b1, b2⟩ := a2 h
 omega
theorem p_rows_len {W Hi : Int} {m : Nat} {g : Nat → LN × Bool} (hm : m ≤ 16) (h : ∀ i, i < m → (g i).1.length ≤ 64) : (p_rows W Hi m g).2.2.1.length ≤ 1024 := by
 unfold p_rows
 have := flatR_len h m (Nat.le_refl _)
 cases (List.range m).all (fun i => (g i).2) with
 | false => simp
 | true =>
  rw [cond_true, p_f4z_eq]
  cases !(p_f3z W Hi (flatR g m)) with
  | true => simp
  | false => simp only [cond_false]; omega
theorem ftz_len (ws : LN) (sc : Nat) (W Hi : Int) (l : LN) : (p_ftz ws sc W Hi l).2.2.1.length ≤ 1024 := by
 unfold p_ftz
 cases p_f7z ws sc with
 | false => simp
 | true =>
  rw [cond_true]
  cases h : p_f3z W Hi l with
  | false => simp
  | true =>
   rw [cond_true]
   obtain ⟨h1, h2, h3, h4, h5, _⟩ := f3z_t h
   exact p_rows_len ω2 fun i hi => (DropRows_len h1 h2 h4 h5 ω2).1
theorem ftz_main (oa : OA) (lb : Nat) (va : Nat) (s_Scale : Nat) (p_Wide : Int) (p_High : Int) (p_Lights_a : OA) (p_Lights_n : Nat) (p_Lights_e : Nat) (H : AHeap) (K : Value → AHeap → Prop) (h : T_ftz oa lb va s_Scale p_Wide p_High p_Lights_a p_Lights_n p_Lights_e H fun (r1_Wide : Int) (r1_High : Int) (xa : OA) (za : Nat) (ya : Nat) (r2 : Bool) (H' : AHeap) => K (.tuple #[.agg #[.int .i64 r1_Wide, .int .i64 r1_High, .slice xa za ya], .bool r2]) H') : bodyL Try.prog E_ftz Try.f20 [.agg #[.slice oa lb va, .float .f32 s_Scale], .agg #[.int .i64 p_Wide, .int .i64 p_High, .slice p_Lights_a p_Lights_n p_Lights_e]] H K := by
 rw [ftz_vc]
 obtain ⟨ws, l, iw, il, bw, bl, hk⟩ := h
 obtain rfl := iw.eqn
 obtain rfl := il.eqn
 have e : p_ftz ws s_Scale p_Wide p_High l = (bif p_f7z ws s_Scale then (bif p_f3z p_Wide p_High l then p_rows p_Wide p_High p_High.toNat (fun y => p_fbz (picRow l p_Wide y) ws s_Scale (Int.tdiv (p_Wide + 1) 2)) else (0, 0, [], false)) else (0, 0, [], false)) := rfl
 rw [e] at hk
 refine Al.intro fun b1 H1 e1 l1 g1 o1 => Al.intro fun b2 H2 e2 l2 g2 o2 => Al.intro fun b3 H3 e3 l3 g3 o3 => ?_
 have G3 : Grow H H3 := (g1.trans g2).trans g3
 have p1 := (o1.grow g2).grow g3
 have p2 := o2.grow g3
 refine ⟨oa, ws.length, va, s_Scale, (p1.rdN (Nat.le_of_ble_eq_true rfl)).trans rfl, T_f7z_i ⟨ws, iw.grow G3, bw, fun H4 g4 => ?_⟩⟩
 refine Br.intro (fun hv => ?_) (fun hv => ?_)
 ·refine Lt.setN (o3.grow g4) (n := 3) ω22 rfl fun H5 l5 q5 k5 => ⟨0, 0, none, 0, 0, (q5.rdN (Nat.le_of_ble_eq_true rfl)).trans rfl, ?_⟩
  rw [nf_of_t hv, cond_false] at hk
  exact hk none 0 0 H5 ((G3.trans g4).keep ω2 k5) (OwnS.nil _ _ _ _)
 rw [nt_of_f hv, cond_true] at hk
 refine ⟨p_Wide, p_High, p_Lights_a, l.length, p_Lights_e, ((p2.grow g4).rdN (Nat.le_of_ble_eq_true rfl)).trans rfl, T_f3z_i ⟨l, il.grow (G3.trans g4), bl, fun H6 g6 => ?_⟩⟩
 refine Br.intro (fun hp => ?_) (fun hp => ?_)
 ·refine Lt.setN ((o3.grow g4).grow g6) (n := 3) ω22 rfl fun H7 l7 q7 k7 => ⟨0, 0, none, 0, 0, (q7.rdN (Nat.le_of_ble_eq_true rfl)).trans rfl, ?_⟩
  rw [nf_of_t hp, cond_false] at hk
  exact hk none 0 0 H7 (((G3.trans g4).trans g6).keep ω2 k7) (OwnS.nil _ _ _ _)
 have hpv := nt_of_f hp
 rw [hpv, cond_true] at hk
 obtain ⟨w1, w2, w3, w4, w5, w6, w7⟩ := f3z_t hpv
 have G6 : Grow H H6 := (G3.trans g4).trans g6
 have hh := DropRows_half w1
 obtain ⟨m, rfl⟩ : ∃ m : Nat, p_High = (m : Int) := ⟨p_High.toNat, by omega⟩
 refine ⟨p_Wide, (((p2.grow g4).grow g6).rdC 0).trans rfl, by decide, ?_⟩
 refine Al.intro fun b4 H8 e8 l8 g8 o8 => ?_
 rw [show IntKind.wrap .i64 (p_Wide + 1) = p_Wide + 1 from wrap64 ω2 ω2, show IntKind.wrap .i64 (Int.tdiv (p_Wide + 1) 2) = Int.tdiv (p_Wide + 1) 2 from wrap64 ω2 ω2]
 refine Lt.set o8 ω22 fun H9 l9 o9 k9 => ?_
 have lt8 : H6.length ≤ b4 := by omega
 have G9 : Grow H6 H9 := g8.keep lt8 k9
 have G69 : Grow H H9 := G6.trans G9
 refine ⟨p_Wide, (m : Int), p_Lights_a, l.length, p_Lights_e, ((((p2.grow g4).grow g6).grow G9).rdN (Nat.le_of_ble_eq_true rfl)).trans rfl, ?_⟩
 refine ⟨l, fun y => p_fbz (picRow l p_Wide y) ws s_Scale (Int.tdiv (p_Wide + 1) 2), il.grow G69, rfl, w1, w2, w3, w4, w5, rfl, fun i hi => DropRows_len w1 w2 w4 w5 ω2, DropRows_ch (Hi := (m : Int)) ω2 (((p1.grow g4).grow g6).grow G9) o9 (iw.grow G69) (il.grow G69) bw w1 w2 w4 w5, fun a n e' H10 g10 o10 => ?_⟩
 have q3 := (((o3.grow g4).grow g6).grow G9).grow g10
 refine Lt.setN q3 (n := 3) (Nat.le_of_ble_eq_true rfl) rfl fun H11 l11 q11 k11 => ⟨_, _, a, n, e', (q11.rdN (Nat.le_of_ble_eq_true rfl)).trans rfl, ?_⟩
 have lo := o10.lo
 have hle := G69.1
 have hle2 := G9.1
 refine hk a n e' H11 ((G69.trans g10).keep ω2 k11) ((o10.keepA (fun x y hx hy => by cases hx; have := lo y hy; have := (o3.grow g4).lt; have := g6.1; show b3 ≠ _; omega) (OwnS.keep1 k11)).weak hle)
theorem ftz_ok : FnOkX Try.prog (MainCls Try.prog) 20 S_ftz := by
 refine FnOkX.body (hLt := fun _ => lateMain) mix_ok E_ftz_ok Try.func20 rfl ω10 ω10 ?_ ?_ ?_ ?_ ?_
 ·intro args H K K' h hk
  simp only [S_ftz] at *
  unfold F_ftz at *
  split at hk
  ·obtain ⟨ba, ia, i_s, i_p, b_s, b_p, k⟩ := hk
   exact ⟨ba, ia, i_s, i_p, b_s, b_p, (fun cd ld jd H' gg ow0 => h _ _ (k cd ld jd H' gg ow0))⟩
  ·exact hk.elim
 ·intro hq; cases hq
 ·intro args H K hk
  simp only [S_ftz] at *
  unfold F_ftz at *
  split at hk
  ·obtain ⟨ba, ia, i_s, i_p, b_s, b_p, k⟩ := hk
   exact liveS fun a n e H1 g o => ⟨_, _, k a n e H1 g o⟩
  ·exact hk.elim
 ·intro hq; cases hq
 ·have mm := @ftz_main
  have ml := fun (args : List Value) (H : AHeap) (K : Value → AHeap → Prop) => bodyL_body (P := Try.prog) (env := E_ftz ) (fn := Try.f20) (args := args) (H := H) (K := K) E_ftz_ok 
  revert mm ml
  generalize bodyK Try.prog E_ftz Try.f20 = Q
  generalize bodyL Try.prog E_ftz Try.f20 = QL
  intro mm ml args H K hk
  simp only [S_ftz] at *
  unfold F_ftz at *
  split at hk
  ·exact ml _ H K (mm _ _ _ _ _ _ _ _ _ H K hk)
  ·exact hk.elim
def p_fjz (a : Nat) (b : Nat) : Bool := ((bif !(feq .f64 a a) then (bif !(feq .f64 a a) then !(feq .f64 b b) else false) else (bif !(feq .f64 b b) then (bif !(feq .f64 a a) then !(feq .f64 b b) else false) else (bif feq .f64 a 0 then (bif feq .f64 b 0 then (flt .f64 0 (fdiv .f64 4607182418800017408 a)) == (flt .f64 0 (fdiv .f64 4607182418800017408 b)) else feq .f64 a b) else feq .f64 a b))))
def p_fjz_eq := @p_fjz.eq_1
def T_fjz (a : Nat) (b : Nat) (H : AHeap) (K : Bool → AHeap → Prop) : Prop := K (p_fjz a b) H

theorem T_fjz_i {a : Nat} {b : Nat} {H : AHeap} {K : Bool → AHeap → Prop} (h : K (p_fjz a b) H) : T_fjz a b H K := h
/-! fjz: function 33 -/
def E_fjz : Env := envOf []
def F_fjz : List Value → AHeap → (Value → AHeap → Prop) → Prop
 | [.float .f64 a, .float .f64 b], H, K => T_fjz a b H fun (r1 : Bool) (H' : AHeap) => K (.bool r1) H'
 | _, _, _ => False
def S_fjz : FSpec := { F := F_fjz, quiet := true, tame := false }
theorem fjz_vc (a : Nat) (b : Nat) (H : AHeap) (K : Value → AHeap → Prop) : bodyL Try.prog E_fjz Try.f33 [.float .f64 a, .float .f64 b] H K =
 (Br (!(feq .f64 a a)) (Br (!(feq .f64 a a)) (K (.bool (!(feq .f64 b b))) H) (K (.bool false) H)) (Br (!(feq .f64 b b)) (Br (!(feq .f64 a a)) (K (.bool (!(feq .f64 b b))) H) (K (.bool false) H)) (Br (feq .f64 a 0) (Br (feq .f64 b 0) (K (.bool ((flt .f64 0 (fdiv .f64 4607182418800017408 a)) == (flt .f64 0 (fdiv .f64 4607182418800017408 b)))) H) (K (.bool (feq .f64 a b)) H)) (K (.bool (feq .f64 a b)) H)))) := by kernel_rfl
theorem E_fjz_ok : ∀ g, FnOk Try.prog g (E_fjz g) := FnOk.envOf (by
 intro x hx; cases hx)
theorem fjz_main (a : Nat) (b : Nat) (H : AHeap) (K : Value → AHeap → Prop) (h : T_fjz a b H fun (r1 : Bool) (H' : AHeap) => K (.bool r1) H') : bodyL Try.prog E_fjz Try.f33 [.float .f64 a, .float .f64 b] H K := by
 rw [fjz_vc]
 unfold T_fjz p_fjz at h
 repeat' (first | exact h | (exfalso; simp_all; done) | (refine ⟨by decide, ?_⟩) | (refine Br.intro (fun hb => ?_) (fun hb => ?_) <;> (try simp only [hb, cond_true, cond_false, Bool.not_true, Bool.not_false] at h)))
theorem fjz_ok : FnOk Try.prog 33 S_fjz := by
 refine FnOk.body mix_ok E_fjz_ok Try.func33 rfl ω10 ω10 ?_ ?_ ?_ ?_ ?_
 ·intro args H K K' h hk
  simp only [S_fjz] at *
  unfold F_fjz at *
  split at hk
  ·have k := hk
   exact h _ _ k
  ·exact hk.elim
 ·intro _ args H K hk
  simp only [S_fjz] at *
  unfold F_fjz at *
  split at hk
  ·have k := hk
   exact ⟨_, k, fun K' k' => k'⟩
  ·exact hk.elim
 ·intro args H K hk
  simp only [S_fjz] at *
  unfold F_fjz at *
  split at hk
  ·have k := hk
   exact ⟨_, _, k⟩
  ·exact hk.elim
 ·intro hq; cases hq
 ·have mm := @fjz_main
  have ml := fun (args : List Value) (H : AHeap) (K : Value → AHeap → Prop) => bodyL_body (P := Try.prog) (env := E_fjz ) (fn := Try.f33) (args := args) (H := H) (K := K) E_fjz_ok 
  revert mm ml
  generalize bodyK Try.prog E_fjz Try.f33 = Q
  generalize bodyL Try.prog E_fjz Try.f33 = QL
  intro mm ml args H K hk
  simp only [S_fjz] at *
  unfold F_fjz at *
  split at hk
  ·exact ml _ H K (mm _ _ H K hk)
  ·exact hk.elim

def p_fdz_l1 (l_a : LN) (l_b : LN) : Nat → Bool → Int → Bool
 | 0, _, _ => false
 | μ + 1, t4, i => (bif decide ((i : Int) < (l_a.length : Int)) then (bif !((p_fjz (fwide (((l_a).getD (i : Int).toNat 0))) (fwide (((l_b).getD (i : Int).toNat 0))))) then false else (p_fdz_l1 l_a l_b μ t4 (i + 1))) else true)
def p_fdz_l1_s := fun l_a l_b μ t4 i => @p_fdz_l1.eq_2 l_a l_b t4 i μ
def p_fdz (l_a : LN) (l_b : LN) : Bool := ((bif ((l_a.length : Int) : Int) != (l_b.length : Int) then false else (p_fdz_l1 l_a l_b (Int.toNat ((l_a.length : Int) - (0 : Int)) + 1) false (0 : Int))))
def p_fdz_eq := @p_fdz.eq_1
def T_fdz (a_a : OA) (a_n : Nat) (a_e : Nat) (b_a : OA) (b_n : Nat) (b_e : Nat) (H : AHeap) (K : Bool → AHeap → Prop) : Prop := ∃ (l_a : LN), ∃ (l_b : LN), IsL fF H a_a a_n l_a ∧ IsL fF H b_a b_n l_b ∧ l_a.length < 1073741824 ∧ l_b.length < 1073741824 ∧ K (p_fdz l_a l_b) H
theorem T_fdz_i {a_a : OA} {a_n : Nat} {a_e : Nat} {b_a : OA} {b_n : Nat} {b_e : Nat} {H : AHeap} {K : Bool → AHeap → Prop} (h : ∃ (l_a : LN), ∃ (l_b : LN), IsL fF H a_a a_n l_a ∧ IsL fF H b_a b_n l_b ∧ l_a.length < 1073741824 ∧ l_b.length < 1073741824 ∧ K (p_fdz l_a l_b) H) : T_fdz a_a a_n a_e b_a b_n b_e H K := h
theorem fjz_self (y : Nat) : p_fjz y y = true := by
 rw [p_fjz_eq]
 cases feq .f64 y y <;> simp
theorem fdz_go (l : LN) : ∀ (μ : Nat) (t : Bool) (i : Nat), l.length - i < μ → p_fdz_l1 l l μ t (i : Int) = true := by
 intro μ
 induction μ with
 | zero => intro t i h; omega
 | succ μ ih =>
  intro t i hm
  rw [p_fdz_l1_s]
  by_cases h : i < l.length
  ·rw [decide_eq_true (show (i : Int) < (l.length : Int) by omega), cond_true, fjz_self]
   simp only [Bool.not_true, cond_false]
   exact ih t (i + 1) ω2
  ·rw [decide_eq_false (show ¬ (i : Int) < (l.length : Int) by omega), cond_false]
theorem fdz_self (l : LN) : p_fdz l l = true := by
 rw [p_fdz_eq]
 have h0 : ((l.length : Int) != (l.length : Int)) = false := by simp
 rw [h0, cond_false]
 exact fdz_go l _ false 0 ω2
/-! fdz: function 32 -/
def E_fdz : Env := envOf [(33, S_fjz)]
def F_fdz : List Value → AHeap → (Value → AHeap → Prop) → Prop
 | [.slice a_a a_n a_e, .slice b_a b_n b_e], H, K => T_fdz a_a a_n a_e b_a b_n b_e H fun (r1 : Bool) (H' : AHeap) => K (.bool r1) H'
 | _, _, _ => False
def S_fdz : FSpec := { F := F_fdz, quiet := true, tame := false }
theorem fdz_vc (a_a : OA) (a_n : Nat) (a_e : Nat) (b_a : OA) (b_n : Nat) (b_e : Nat) (H : AHeap) (K : Value → AHeap → Prop) : bodyL Try.prog E_fdz Try.f32 [.slice a_a a_n a_e, .slice b_a b_n b_e] H K =
 (Br (((a_n : Int) : Int) != (b_n : Int)) (K (.bool false) H) (loopK (exL Try.prog E_fdz (cl (cl (cr (cl (cr (cr (bodyC Try.f32))))))) 35 16 [(0, 0)]) (.slice a_a a_n a_e :: .slice b_a b_n b_e :: ud3 (.int .i64 0 :: ud23 [])) H (blockQ 0 (seqQ (exL Try.prog E_fdz (cr (cr (cr (bodyC Try.f32)))) 16 16 []) (retK Try.prog Try.f32 K))))) := by kernel_rfl
abbrev fdz_P1 (a_a : OA) (a_e : Nat) (a_n : Nat) (b_a : OA) (b_e : Nat) (b_n : Nat) (i : Int)  : List Value := (.slice a_a a_n a_e :: .slice b_a b_n b_e :: ud3 (.int .i64 i :: ud23 []))
theorem fdz_r1 (a_a : OA) (a_e : Nat) (a_n : Nat) (b_a : OA) (b_e : Nat) (b_n : Nat) (i : Int)  (H : AHeap) (R : Post) : exL Try.prog E_fdz (cl (cl (cr (cl (cr (cr (bodyC Try.f32))))))) 35 16 [(0, 0)] (fdz_P1 a_a a_e a_n b_a b_e b_n i) H R =
 (Br (decide ((i : Int) < (a_n : Int))) ((0 : Int) ≤ i ∧ i < (a_n : Int) ∧ ∃ b1 f1, (a_a : OA) = some ⟨b1, f1, none⟩ ∧ ∃ x1 : Nat,  rdC H b1 (f1 + (i : Int).toNat * 1) = some (.float .f32 x1) ∧ (0 : Int) ≤ i ∧ i < (b_n : Int) ∧ ∃ b2 f2, (b_a : OA) = some ⟨b2, f2, none⟩ ∧ ∃ x2 : Nat,  rdC H b2 (f2 + (i : Int).toNat * 1) = some (.float .f32 x2) ∧ T_fjz (fwide x1) (fwide x2) H fun (r1 : Bool) (H1 : AHeap) => Br (!r1) (R .ret (ud4 (.bool false :: ud24 [])) H1) (R .normal (.slice a_a a_n a_e :: .slice b_a b_n b_e :: ud3 (.int .i64 (IntKind.wrap .i64 (i + 1)) :: ud23 [])) H1)) (R (.exit 0) (ud29 []) H)) := by kernel_rfl
def fdz_I1 (a_a : OA) (a_e : Nat) (a_n : Nat) (b_a : OA) (b_e : Nat) (b_n : Nat) (Inv : Nat → Int → AHeap → Prop) : Nat → List Value → AHeap → Prop := fun μ tm H => ∃ (i : Int), tm = (fdz_P1 a_a a_e a_n b_a b_e b_n i) ∧ Inv μ i H
theorem fdz_L1 (a_a : OA) (a_e : Nat) (a_n : Nat) (b_a : OA) (b_e : Nat) (b_n : Nat) {Q : Post} (Inv : Nat → Int → AHeap → Prop) (ν : Nat) (i : Int)  (H : AHeap) (h0 : Inv ν i H)
  (hs : ∀ (μ : Nat) (i : Int)  (H : AHeap), Inv μ i H → exL Try.prog E_fdz (cl (cl (cr (cl (cr (cr (bodyC Try.f32))))))) 35 16 [(0, 0)] (fdz_P1 a_a a_e a_n b_a b_e b_n i) H (loopQ (fdz_I1 a_a a_e a_n b_a b_e b_n Inv) μ Q)) : loopK (exL Try.prog E_fdz (cl (cl (cr (cl (cr (cr (bodyC Try.f32))))))) 35 16 [(0, 0)]) (fdz_P1 a_a a_e a_n b_a b_e b_n i) H Q :=
 ⟨fdz_I1 a_a a_e a_n b_a b_e b_n Inv, ν, ⟨i, rfl, h0⟩, fun μ tm H h => by obtain ⟨i, rfl, hI⟩ := h; exact hs μ i  H hI⟩
theorem fdz_n1 {a_a : OA} {a_e : Nat} {a_n : Nat} {b_a : OA} {b_e : Nat} {b_n : Nat} {Q : Post} {Inv : Nat → Int → AHeap → Prop} {μ : Nat} (μ' : Nat) {i : Int}  {H : AHeap} (hm : μ' < μ) (hI : Inv μ' i H) : loopQ (fdz_I1 a_a a_e a_n b_a b_e b_n Inv) μ Q .normal (fdz_P1 a_a a_e a_n b_a b_e b_n i) H := ⟨μ', hm, i, rfl, hI⟩
theorem fdz_x1_0  (H : AHeap) (K : Value → AHeap → Prop)  {I : Nat → List Value → AHeap → Prop} {μ : Nat} : loopQ I μ (blockQ 0 (seqQ (exL Try.prog E_fdz (cr (cr (cr (bodyC Try.f32)))) 16 16 []) (retK Try.prog Try.f32 K))) (.exit 0) (ud29 []) H =
 (K (.bool true) H) := by kernel_rfl
theorem fdz_x1_ret (t4 : Bool) (H : AHeap) (K : Value → AHeap → Prop)  {I : Nat → List Value → AHeap → Prop} {μ : Nat} : loopQ I μ (blockQ 0 (seqQ (exL Try.prog E_fdz (cr (cr (cr (bodyC Try.f32)))) 16 16 []) (retK Try.prog Try.f32 K))) .ret (ud4 (.bool t4 :: ud24 [])) H =
 (K (.bool t4) H) := by kernel_rfl
theorem E_fdz_ok : ∀ g, FnOk Try.prog g (E_fdz g) := FnOk.envOf (by
 intro x hx
 simp only [List.mem_cons, List.not_mem_nil, or_false] at hx
 subst hx; exact fjz_ok)
theorem fdz_main (a_a : OA) (a_n : Nat) (a_e : Nat) (b_a : OA) (b_n : Nat) (b_e : Nat) (H : AHeap) (K : Value → AHeap → Prop) (h : T_fdz a_a a_n a_e b_a b_n b_e H fun (r1 : Bool) (H' : AHeap) => K (.bool r1) H') : bodyL Try.prog E_fdz Try.f32 [.slice a_a a_n a_e, .slice b_a b_n b_e] H K := by
 rw [fdz_vc]
 obtain ⟨l_a, l_b, i_a, i_b, bd_13, bd_14, hk⟩ := h
 obtain rfl := i_a.eqn
 obtain rfl := i_b.eqn
 have e : (p_fdz l_a l_b) = _ := rfl
 have e := e.trans (p_fdz_eq l_a l_b)
 have g0 := Grow.refl H
 refine Br.intro (fun c_1 => ?_) (fun c_1 => ?_)
 ·have e := e.trans (cond_t c_1)
  have c_1' := ine_t c_1
  rw [e] at hk
  exact hk
 ·have e := e.trans (cond_f c_1)
  have c_1' := ine_f c_1
  refine fdz_L1 _ _ _ _ _ _ (fun (μ : Nat) (i : Int) (H_1 : AHeap) => ∃ (t4 : Bool), H = H_1 ∧ (0 : Int) ≤ i ∧ i ≤ (l_a.length : Int) ∧ (l_a.length : Int) - i ≤ (μ : Int) ∧ p_fdz l_a l_b = p_fdz_l1 l_a l_b (μ + 1) t4 i) (Int.toNat ((l_a.length : Int) - (0 : Int))) _ H ?_ ?_
  ·exact ⟨_, rfl, ω6, ω6, ω2, e⟩
  ·intro μ i  H_1 hI
   obtain ⟨t4, rfl, v_2, v_3, hμ, e⟩ := hI
   rw [fdz_r1]
   have e := e.trans (p_fdz_l1_s l_a l_b μ t4 i)
   have l_4 := g0.1
   refine Br.intro (fun c_5 => ?_) (fun c_5 => ?_)
   ·have e := e.trans (cond_t c_5)
    have c_5' := of_decide_eq_true c_5
    obtain ⟨b_6, f_7, q_8⟩ := ((i_a.grow g0)).pos ω0
    refine ⟨by omega, by omega, b_6, f_7, q_8, ?_⟩
    refine ⟨((l_a).getD (i : Int).toNat 0), (i_a).rd g0 q_8 ω2 _, ?_⟩
    obtain ⟨b_9, f_10, q_11⟩ := ((i_b.grow g0)).pos ω0
    refine ⟨by omega, by omega, b_9, f_10, q_11, ?_⟩
    refine ⟨((l_b).getD (i : Int).toNat 0), (i_b).rd g0 q_11 ω2 _, ?_⟩
    refine T_fjz_i ?_
    refine Br.intro (fun c_12 => ?_) (fun c_12 => ?_)
    ·have e := e.trans (cond_t c_12)
     have c_12n := nf_of_t c_12
     rw [fdz_x1_ret]
     rw [e] at hk
     exact hk
    ·have e := e.trans (cond_f c_12)
     have c_12n := nt_of_f c_12
     rw [show IntKind.wrap .i64 (i + 1) = (i + 1) from wrap64 ω2 ω2]
     refine fdz_n1 (μ - 1) ω16 ⟨_, rfl, ω1, ω1, ω16, ω12⟩
   ·have e := e.trans (cond_f c_5)
    have c_5' := of_decide_eq_false c_5
    rw [fdz_x1_0]
    rw [e] at hk
    exact hk
theorem fdz_ok : FnOk Try.prog 32 S_fdz := by
 refine FnOk.body mix_ok E_fdz_ok Try.func32 rfl ω10 ω10 ?_ ?_ ?_ ?_ ?_
 ·intro args H K K' h hk
  simp only [S_fdz] at *
  unfold F_fdz at *
  split at hk
  ·obtain ⟨l_a, l_b, i_a, i_b, bd_13, bd_14, k⟩ := hk
   exact ⟨l_a, l_b, i_a, i_b, bd_13, bd_14, h _ _ k⟩
  ·exact hk.elim
 ·intro _ args H K hk
  simp only [S_fdz] at *
  unfold F_fdz at *
  split at hk
  ·obtain ⟨l_a, l_b, i_a, i_b, bd_13, bd_14, k⟩ := hk
   exact ⟨_, k, fun K' k' => ⟨l_a, l_b, i_a, i_b, bd_13, bd_14, k'⟩⟩
  ·exact hk.elim
 ·intro args H K hk
  simp only [S_fdz] at *
  unfold F_fdz at *
  split at hk
  ·obtain ⟨l_a, l_b, i_a, i_b, bd_13, bd_14, k⟩ := hk
   exact ⟨_, _, k⟩
  ·exact hk.elim
 ·intro hq; cases hq
 ·have mm := @fdz_main
  have ml := fun (args : List Value) (H : AHeap) (K : Value → AHeap → Prop) => bodyL_body (P := Try.prog) (env := E_fdz ) (fn := Try.f32) (args := args) (H := H) (K := K) E_fdz_ok 
  revert mm ml
  generalize bodyK Try.prog E_fdz Try.f32 = Q
  generalize bodyL Try.prog E_fdz Try.f32 = QL
  intro mm ml args H K hk
  simp only [S_fdz] at *
  unfold F_fdz at *
  split at hk
  ·exact ml _ H K (mm _ _ _ _ _ _ H K hk)
  ·exact hk.elim

def p_fiz (a_Wide : Int) (a_High : Int) (fa : LN) (b_Wide : Int) (b_High : Int) (xd : LN) : Bool := ((bif (a_Wide : Int) != b_Wide then false else (bif (a_High : Int) != b_High then false else (bif !(p_fdz fa xd) then false else true))))
def p_fiz_eq := @p_fiz.eq_1
def T_fiz (a_Wide : Int) (a_High : Int) (ma : OA) (ta : Nat) (ab : Nat) (b_Wide : Int) (b_High : Int) (pe : OA) (se : Nat) (ve : Nat) (H : AHeap) (K : Bool → AHeap → Prop) : Prop := ∃ (fa : LN), ∃ (xd : LN), IsL fF H ma ta fa ∧ IsL fF H pe se xd ∧ fa.length < 1073741824 ∧ xd.length < 1073741824 ∧ ((∀ H' : AHeap, Grow H H' → K (p_fiz a_Wide a_High fa b_Wide b_High xd) H'))
theorem T_fiz_i {a_Wide : Int} {a_High : Int} {ma : OA} {ta : Nat} {ab : Nat} {b_Wide : Int} {b_High : Int} {pe : OA} {se : Nat} {ve : Nat} {H : AHeap} {K : Bool → AHeap → Prop} (h : ∃ (fa : LN), ∃ (xd : LN), IsL fF H ma ta fa ∧ IsL fF H pe se xd ∧ fa.length < 1073741824 ∧ xd.length < 1073741824 ∧ ((∀ H' : AHeap, Grow H H' → K (p_fiz a_Wide a_High fa b_Wide b_High xd) H'))) : T_fiz a_Wide a_High ma ta ab b_Wide b_High pe se ve H K := h
theorem fiz_self (a b : Int) (l : LN) : p_fiz a b l a b l = true := by
 rw [p_fiz_eq, fdz_self]
 simp
/-! fiz: function 12 -/
def E_fiz : Env := envOf [(32, S_fdz)]
def F_fiz : List Value → AHeap → (Value → AHeap → Prop) → Prop
 | [.agg ⟨[.int .i64 a_Wide, .int .i64 a_High, .slice ma ta ab]⟩, .agg ⟨[.int .i64 b_Wide, .int .i64 b_High, .slice pe se ve]⟩], H, K => T_fiz a_Wide a_High ma ta ab b_Wide b_High pe se ve H fun (r1 : Bool) (H' : AHeap) => K (.bool r1) H'
 | _, _, _ => False
def S_fiz : FSpec := { F := F_fiz, quiet := false, tame := true }
theorem fiz_vc (a_Wide : Int) (a_High : Int) (ma : OA) (ta : Nat) (ab : Nat) (b_Wide : Int) (b_High : Int) (pe : OA) (se : Nat) (ve : Nat) (H : AHeap) (K : Value → AHeap → Prop) : bodyL Try.prog E_fiz Try.f12 [.agg #[.int .i64 a_Wide, .int .i64 a_High, .slice ma ta ab], .agg #[.int .i64 b_Wide, .int .i64 b_High, .slice pe se ve]] H K =
 (Al [.int .i64 a_Wide, .int .i64 a_High, .slice ma ta ab] H fun b1 H1 => Al [.int .i64 b_Wide, .int .i64 b_High, .slice pe se ve] H1 fun b2 H2 => ∃ x1 : Int,  rdC H2 b1 0 = some (.int .i64 x1) ∧ ∃ x2 : Int,  rdC H2 b2 0 = some (.int .i64 x2) ∧ Br ((x1 : Int) != x2) (K (.bool false) H2) (∃ x3 : Int,  rdC H2 b1 1 = some (.int .i64 x3) ∧ ∃ x4 : Int,  rdC H2 b2 1 = some (.int .i64 x4) ∧ Br ((x3 : Int) != x4) (K (.bool false) H2) (∃ jg : OA, ∃ ig : Nat, ∃ pg : Nat,  rdC H2 b1 2 = some (.slice jg ig pg) ∧ ∃ gf : OA, ∃ ff : Nat, ∃ jf : Nat,  rdC H2 b2 2 = some (.slice gf ff jf) ∧ T_fdz jg ig pg gf ff jf H2 fun (r1 : Bool) (H3 : AHeap) => Br (!r1) (K (.bool false) H3) (K (.bool true) H3)))) := by kernel_rfl
theorem E_fiz_ok : ∀ g, FnOk Try.prog g (E_fiz g) := FnOk.envOf (by
 intro x hx
 simp only [List.mem_cons, List.not_mem_nil, or_false] at hx
 subst hx; exact fdz_ok)
theorem fiz_main (a_Wide : Int) (a_High : Int) (ma : OA) (ta : Nat) (ab : Nat) (b_Wide : Int) (b_High : Int) (pe : OA) (se : Nat) (ve : Nat) (H : AHeap) (K : Value → AHeap → Prop) (h : T_fiz a_Wide a_High ma ta ab b_Wide b_High pe se ve H fun (r1 : Bool) (H' : AHeap) => K (.bool r1) H') : bodyL Try.prog E_fiz Try.f12 [.agg #[.int .i64 a_Wide, .int .i64 a_High, .slice ma ta ab], .agg #[.int .i64 b_Wide, .int .i64 b_High, .slice pe se ve]] H K := by
 rw [fiz_vc]
 obtain ⟨fa, xd, i_a_Lights, i_b_Lights, bd_26, bd_27, hk⟩ := h
 obtain rfl := i_a_Lights.eqn
 obtain rfl := i_b_Lights.eqn
 have e : (p_fiz a_Wide a_High fa b_Wide b_High xd) = _ := rfl
 have e := e.trans (p_fiz_eq a_Wide a_High fa b_Wide b_High xd)
 have g0 := Grow.refl H
 refine Al.intro (fun b_1 H_1 hb_2 hl_3 g_4 o_5 => ?_)
 have l_7 := g_4.1
 have g_8 := g0.trans g_4
 have l_9 := g_8.1
 have w25 := o_5.lt
 refine Al.intro (fun b_10 H_2 hb_11 hl_12 g13 o_14 => ?_)
 have l_16 := g13.1
 have g17 := g_8.trans g13
 have l_18 := g17.1
 have o19 := o_5.grow g13
 have w20 := o19.lt
 have w24 := o_14.lt
 refine ⟨a_Wide, (o19.rdC _).trans rfl, ?_⟩
 refine ⟨b_Wide, (o_14.rdC _).trans rfl, ?_⟩
 refine Br.intro (fun c_21 => ?_) (fun c_21 => ?_)
 ·have e := e.trans (cond_t c_21)
  have c_21' := ine_t c_21
  rw [e] at hk
  exact hk  H_2 g17 
 ·have e := e.trans (cond_f c_21)
  have c_21' := ine_f c_21
  refine ⟨a_High, (o19.rdC _).trans rfl, ?_⟩
  refine ⟨b_High, (o_14.rdC _).trans rfl, ?_⟩
  refine Br.intro (fun c_22 => ?_) (fun c_22 => ?_)
  ·have e := e.trans (cond_t c_22)
   have c_22' := ine_t c_22
   rw [e] at hk
   exact hk  H_2 g17 
  ·have e := e.trans (cond_f c_22)
   have c_22' := ine_f c_22
   refine ⟨ma, fa.length, ab, (o19.rdC _).trans rfl, ?_⟩
   refine ⟨pe, xd.length, ve, (o_14.rdC _).trans rfl, ?_⟩
   refine T_fdz_i ⟨_, _, (i_a_Lights.grow g17), (i_b_Lights.grow g17), ω0, ω0, ?_⟩
   refine Br.intro (fun c23 => ?_) (fun c23 => ?_)
   ·have e := e.trans (cond_t c23)
    have c_23n := nf_of_t c23
    rw [e] at hk
    exact hk  H_2 g17 
   ·have e := e.trans (cond_f c23)
    have c_23n := nt_of_f c23
    rw [e] at hk
    exact hk  H_2 g17 
theorem fiz_ok : FnOk Try.prog 12 S_fiz := by
 refine FnOk.body mix_ok E_fiz_ok Try.func12 rfl ω10 ω10 ?_ ?_ ?_ ?_ ?_
 ·intro args H K K' h hk
  simp only [S_fiz] at *
  unfold F_fiz at *
  split at hk
  ·obtain ⟨fa, xd, i_a_Lights, i_b_Lights, bd_26, bd_27, k⟩ := hk
   exact ⟨fa, xd, i_a_Lights, i_b_Lights, bd_26, bd_27, (fun  H' gg  => h _ _ (k  H' gg ))⟩
  ·exact hk.elim
 ·intro hq; cases hq
 ·intro args H K hk
  simp only [S_fiz] at *
  unfold F_fiz at *
  split at hk
  ·obtain ⟨fa, xd, i_a_Lights, i_b_Lights, bd_26, bd_27, k⟩ := hk
   exact ⟨_, _, k H (Grow.refl H)⟩
  ·exact hk.elim
 ·intro _ args H K hk
  simp only [S_fiz] at *
  unfold F_fiz at *
  split at hk
  ·obtain ⟨fa, xd, i_a_Lights, i_b_Lights, bd_26, bd_27, k⟩ := hk
   exact ⟨fa, xd, i_a_Lights, i_b_Lights, bd_26, bd_27, (fun  H' gg  => ⟨gg, k  H' gg ⟩)⟩
  ·exact hk.elim
 ·have mm := @fiz_main
  have ml := fun (args : List Value) (H : AHeap) (K : Value → AHeap → Prop) => bodyL_body (P := Try.prog) (env := E_fiz ) (fn := Try.f12) (args := args) (H := H) (K := K) E_fiz_ok 
  revert mm ml
  generalize bodyK Try.prog E_fiz Try.f12 = Q
  generalize bodyL Try.prog E_fiz Try.f12 = QL
  intro mm ml args H K hk
  simp only [S_fiz] at *
  unfold F_fiz at *
  split at hk
  ·exact ml _ H K (mm _ _ _ _ _ _ _ _ _ _ H K hk)
  ·exact hk.elim

def p_fwz (ga : LN) (a_Scale : Nat) (vd : LN) (b_Scale : Nat) : Bool := (bif !(p_fdz ga vd) then false else (bif !((p_fjz (fwide a_Scale) (fwide b_Scale))) then false else true))
def p_fwz_eq := @p_fwz.eq_1
def T_fwz (qa : OA) (cb : Nat) (ib : Nat) (a_Scale : Nat) (ie : OA) (je : Nat) (qe : Nat) (b_Scale : Nat) (H : AHeap) (K : Bool → AHeap → Prop) : Prop := ∃ (ga : LN), ∃ (vd : LN), IsL fF H qa cb ga ∧ IsL fF H ie je vd ∧ ga.length < 1073741824 ∧ vd.length < 1073741824 ∧ ((∀ H' : AHeap, Grow H H' → K (p_fwz ga a_Scale vd b_Scale) H'))
theorem T_fwz_i {qa : OA} {cb : Nat} {ib : Nat} {a_Scale : Nat} {ie : OA} {je : Nat} {qe : Nat} {b_Scale : Nat} {H : AHeap} {K : Bool → AHeap → Prop} (h : ∃ (ga : LN), ∃ (vd : LN), IsL fF H qa cb ga ∧ IsL fF H ie je vd ∧ ga.length < 1073741824 ∧ vd.length < 1073741824 ∧ ((∀ H' : AHeap, Grow H H' → K (p_fwz ga a_Scale vd b_Scale) H'))) : T_fwz qa cb ib a_Scale ie je qe b_Scale H K := h

/-! fwz: function 13 -/
def E_fwz : Env := envOf [(32, S_fdz), (33, S_fjz)]
def F_fwz : List Value → AHeap → (Value → AHeap → Prop) → Prop
 | [.agg ⟨[.slice qa cb ib, .float .f32 a_Scale]⟩, .agg ⟨[.slice ie je qe, .float .f32 b_Scale]⟩], H, K => T_fwz qa cb ib a_Scale ie je qe b_Scale H fun (r1 : Bool) (H' : AHeap) => K (.bool r1) H'
 | _, _, _ => False
def S_fwz : FSpec := { F := F_fwz, quiet := false, tame := true }
theorem fwz_vc (qa : OA) (cb : Nat) (ib : Nat) (a_Scale : Nat) (ie : OA) (je : Nat) (qe : Nat) (b_Scale : Nat) (H : AHeap) (K : Value → AHeap → Prop) : bodyL Try.prog E_fwz Try.f13 [.agg #[.slice qa cb ib, .float .f32 a_Scale], .agg #[.slice ie je qe, .float .f32 b_Scale]] H K =
 (Al [.slice qa cb ib, .float .f32 a_Scale] H fun b1 H1 => Al [.slice ie je qe, .float .f32 b_Scale] H1 fun b2 H2 => ∃ ze : OA, ∃ ue : Nat, ∃ af : Nat,  rdC H2 b1 0 = some (.slice ze ue af) ∧ ∃ ah : OA, ∃ yg : Nat, ∃ bh : Nat,  rdC H2 b2 0 = some (.slice ah yg bh) ∧ T_fdz ze ue af ah yg bh H2 fun (r1 : Bool) (H3 : AHeap) => Br (!r1) (K (.bool false) H3) (∃ x3 : Nat,  rdC H3 b1 1 = some (.float .f32 x3) ∧ ∃ x4 : Nat,  rdC H3 b2 1 = some (.float .f32 x4) ∧ T_fjz (fwide x3) (fwide x4) H3 fun (r2 : Bool) (H4 : AHeap) => Br (!r2) (K (.bool false) H4) (K (.bool true) H4))) := by kernel_rfl
theorem E_fwz_ok : ∀ g, FnOk Try.prog g (E_fwz g) := FnOk.envOf (by
 intro x hx
 simp only [List.mem_cons, List.not_mem_nil, or_false] at hx
 rcases hx with rfl | rfl
 ·exact fdz_ok
 ·exact fjz_ok)
theorem fwz_main (qa : OA) (cb : Nat) (ib : Nat) (a_Scale : Nat) (ie : OA) (je : Nat) (qe : Nat) (b_Scale : Nat) (H : AHeap) (K : Value → AHeap → Prop) (h : T_fwz qa cb ib a_Scale ie je qe b_Scale H fun (r1 : Bool) (H' : AHeap) => K (.bool r1) H') : bodyL Try.prog E_fwz Try.f13 [.agg #[.slice qa cb ib, .float .f32 a_Scale], .agg #[.slice ie je qe, .float .f32 b_Scale]] H K := by
 rw [fwz_vc]
 obtain ⟨ga, vd, i_a_Weights, i_b_Weights, bd_25, bd_26, hk⟩ := h
 obtain rfl := i_a_Weights.eqn
 obtain rfl := i_b_Weights.eqn
 have e : (p_fwz ga a_Scale vd b_Scale) = _ := rfl
 have e := e.trans (p_fwz_eq ga a_Scale vd b_Scale)
 have g0 := Grow.refl H
 refine Al.intro (fun b_1 H_1 hb_2 hl_3 g_4 o_5 => ?_)
 have l_7 := g_4.1
 have g_8 := g0.trans g_4
 have l_9 := g_8.1
 have w24 := o_5.lt
 refine Al.intro (fun b_10 H_2 hb_11 hl_12 g13 o_14 => ?_)
 have l_16 := g13.1
 have g17 := g_8.trans g13
 have l_18 := g17.1
 have o19 := o_5.grow g13
 have w20 := o19.lt
 have w23 := o_14.lt
 refine ⟨qa, ga.length, ib, (o19.rdC _).trans rfl, ?_⟩
 refine ⟨ie, vd.length, qe, (o_14.rdC _).trans rfl, ?_⟩
 refine T_fdz_i ⟨_, _, (i_a_Weights.grow g17), (i_b_Weights.grow g17), ω0, ω0, ?_⟩
 refine Br.intro (fun c_21 => ?_) (fun c_21 => ?_)
 ·have e := e.trans (cond_t c_21)
  have c_21n := nf_of_t c_21
  rw [e] at hk
  exact hk  H_2 g17 
 ·have e := e.trans (cond_f c_21)
  have c_21n := nt_of_f c_21
  refine ⟨a_Scale, (o19.rdC _).trans rfl, ?_⟩
  refine ⟨b_Scale, (o_14.rdC _).trans rfl, ?_⟩
  refine T_fjz_i ?_
  refine Br.intro (fun c_22 => ?_) (fun c_22 => ?_)
  ·have e := e.trans (cond_t c_22)
   have c_22n := nf_of_t c_22
   rw [e] at hk
   exact hk  H_2 g17 
  ·have e := e.trans (cond_f c_22)
   have c_22n := nt_of_f c_22
   rw [e] at hk
   exact hk  H_2 g17 
theorem fwz_ok : FnOk Try.prog 13 S_fwz := by
 refine FnOk.body mix_ok E_fwz_ok Try.func13 rfl ω10 ω10 ?_ ?_ ?_ ?_ ?_
 ·intro args H K K' h hk
  simp only [S_fwz] at *
  unfold F_fwz at *
  split at hk
  ·obtain ⟨ga, vd, i_a_Weights, i_b_Weights, bd_25, bd_26, k⟩ := hk
   exact ⟨ga, vd, i_a_Weights, i_b_Weights, bd_25, bd_26, (fun  H' gg  => h _ _ (k  H' gg ))⟩
  ·exact hk.elim
 ·intro hq; cases hq
 ·intro args H K hk
  simp only [S_fwz] at *
  unfold F_fwz at *
  split at hk
  ·obtain ⟨ga, vd, i_a_Weights, i_b_Weights, bd_25, bd_26, k⟩ := hk
   exact ⟨_, _, k H (Grow.refl H)⟩
  ·exact hk.elim
 ·intro _ args H K hk
  simp only [S_fwz] at *
  unfold F_fwz at *
  split at hk
  ·obtain ⟨ga, vd, i_a_Weights, i_b_Weights, bd_25, bd_26, k⟩ := hk
   exact ⟨ga, vd, i_a_Weights, i_b_Weights, bd_25, bd_26, (fun  H' gg  => ⟨gg, k  H' gg ⟩)⟩
  ·exact hk.elim
 ·have mm := @fwz_main
  have ml := fun (args : List Value) (H : AHeap) (K : Value → AHeap → Prop) => bodyL_body (P := Try.prog) (env := E_fwz ) (fn := Try.f13) (args := args) (H := H) (K := K) E_fwz_ok 
  revert mm ml
  generalize bodyK Try.prog E_fwz Try.f13 = Q
  generalize bodyL Try.prog E_fwz Try.f13 = QL
  intro mm ml args H K hk
  simp only [S_fwz] at *
  unfold F_fwz at *
  split at hk
  ·exact ml _ H K (mm _ _ _ _ _ _ _ _ H K hk)
  ·exact hk.elim

def p_f6z_l1 (l_a : LN) (k : Int) : Nat → Int → Int → LN → Int × LN
 | 0, _, _, _ => (0, [])
 | μ + 1, k_1, i, y1_1 => (bif decide ((i : Int) < (l_a.length : Int)) then (p_f6z_l1 l_a k μ (IntKind.wrap .i64 (k_1 + 1)) (i + 1) (((y1_1).set (i : Int).toNat (FloatKind.nearest .f32 k_1)))) else (k_1, y1_1))
def p_f6z_l1_s := fun l_a k μ k_1 i y1_1 => @p_f6z_l1.eq_2 l_a k k_1 i y1_1 μ
def p_f6z (l_a : LN) (k : Int) : Int × LN := (p_f6z_l1 l_a k (Int.toNat ((l_a.length : Int) - (0 : Int)) + 1) k (0 : Int) l_a)
def p_f6z_eq := @p_f6z.eq_1
def T_f6z (a_a : OA) (a_n : Nat) (a_e : Nat) (k : Int) (H : AHeap) (K : Int → AHeap → Prop) : Prop := ∃ lo : Nat, ∃ (l_a : LN), OwnS fF H lo a_a a_n a_e l_a ∧ l_a.length < 1073741824 ∧ ((∀ H' : AHeap, KeepA a_a H H' → OwnS fF H' lo a_a a_n a_e (marks (FloatKind.nearest .f32) k l_a.length) → K (wk k l_a.length) H'))
theorem T_f6z_i {a_a : OA} {a_n : Nat} {a_e : Nat} {k : Int} {H : AHeap} {K : Int → AHeap → Prop} (h : ∃ lo : Nat, ∃ (l_a : LN), OwnS fF H lo a_a a_n a_e l_a ∧ l_a.length < 1073741824 ∧ ((∀ H' : AHeap, KeepA a_a H H' → OwnS fF H' lo a_a a_n a_e (marks (FloatKind.nearest .f32) k l_a.length) → K (wk k l_a.length) H'))) : T_f6z a_a a_n a_e k H K := h
theorem f6z_go (l : LN) (k0 : Int) : ∀ (μ : Nat) (k : Int) (i : Nat) (ys : LN), ys.length = l.length → i ≤ l.length → l.length - i < μ →
  p_f6z_l1 l k0 μ k (i : Int) ys = (wk k (l.length - i), ys.take i ++ marks (FloatKind.nearest .f32) k (l.length - i)) := by
 intro μ
 induction μ with
 | zero => intro k i ys _ _ h; omega
 | succ μ ih =>
  intro k i ys hy hi hm
  rw [p_f6z_l1_s]
  by_cases h : i < l.length
  ·rw [decide_eq_true (show (i : Int) < (l.length : Int) by omega), cond_true, Int.toNat_natCast]
   have := ih (IntKind.wrap .i64 (k + 1)) (i + 1) (ys.set i ((FloatKind.nearest .f32) k)) (by simp [hy]) ω2 ω2
   obtain ⟨d, hd⟩ : ∃ d, l.length - i = d + 1 := ⟨l.length - i - 1, by omega⟩
   rw [show l.length - (i + 1) = d by omega] at this
   rw [hd, wk, marks]
   refine Eq.trans this ?_
   rw [List.take_add_one, List.getElem?_set_self ω2, List.take_set_of_le (Nat.le_refl i)]
   simp
  ·rw [decide_eq_false (show ¬ (i : Int) < (l.length : Int) by omega), cond_false]
   rw [show l.length - i = 0 by omega, wk, marks, List.append_nil, List.take_of_length_le ω2]
theorem f6z_val (l : LN) (k : Int) : p_f6z l k = (wk k l.length, marks (FloatKind.nearest .f32) k l.length) := by
 rw [p_f6z_eq]
 have := f6z_go l k (Int.toNat ((l.length : Int) - 0) + 1) k 0 l rfl ω2 ω2
 simpa using this
/-! f6z: function 34 -/
def E_f6z : Env := envOf []
def F_f6z : List Value → AHeap → (Value → AHeap → Prop) → Prop
 | [.slice a_a a_n a_e, .int .i64 k], H, K => T_f6z a_a a_n a_e k H fun (r1 : Int) (H' : AHeap) => K (.int .i64 r1) H'
 | _, _, _ => False
def S_f6z : FSpec := { F := F_f6z, quiet := false, tame := false }
theorem f6z_vc (a_a : OA) (a_n : Nat) (a_e : Nat) (k : Int) (H : AHeap) (K : Value → AHeap → Prop) : bodyL Try.prog E_f6z Try.f34 [.slice a_a a_n a_e, .int .i64 k] H K =
 (loopK (exL Try.prog E_f6z (cl (cl (cr (cl (cr (bodyC Try.f34)))))) 35 16 [(0, 2)]) (.slice a_a a_n a_e :: .int .i64 k :: ud3 (.int .i64 0 :: ud14 [])) H (blockQ 0 (seqQ (exL Try.prog E_f6z (cr (cr (bodyC Try.f34))) 16 16 []) (retK Try.prog Try.f34 K)))) := by kernel_rfl
abbrev f6z_P1 (a_a : OA) (a_e : Nat) (a_n : Nat) (k_1 : Int) (i : Int)  : List Value := (.slice a_a a_n a_e :: .int .i64 k_1 :: ud3 (.int .i64 i :: ud14 []))
theorem f6z_r1 (a_a : OA) (a_e : Nat) (a_n : Nat) (k_1 : Int) (i : Int)  (H : AHeap) (R : Post) : exL Try.prog E_f6z (cl (cl (cr (cl (cr (bodyC Try.f34)))))) 35 16 [(0, 2)] (f6z_P1 a_a a_e a_n k_1 i) H R =
 (Br (decide ((i : Int) < (a_n : Int))) ((0 : Int) ≤ i ∧ i < (a_n : Int) ∧ ∃ b1 f1, (a_a : OA) = some ⟨b1, f1, none⟩ ∧ isOwn H b1 ∧ (∃ l, rdN H b1 (f1 + (i : Int).toNat * 1) 1 = some l) ∧ Lt (setC H b1 (f1 + (i : Int).toNat * 1) (.float .f32 (FloatKind.nearest .f32 k_1))) fun H1 => R .normal (.slice a_a a_n a_e :: .int .i64 (IntKind.wrap .i64 (k_1 + 1)) :: ud3 (.int .i64 (IntKind.wrap .i64 (i + 1)) :: ud14 [])) H1) (R (.exit 0) (ud :: .int .i64 k_1 :: ud18 []) H)) := by kernel_rfl
def f6z_I1 (a_a : OA) (a_e : Nat) (a_n : Nat) (Inv : Nat → Int → Int → AHeap → Prop) : Nat → List Value → AHeap → Prop := fun μ tm H => ∃ (k_1 : Int), ∃ (i : Int), tm = (f6z_P1 a_a a_e a_n k_1 i) ∧ Inv μ k_1 i H
theorem f6z_L1 (a_a : OA) (a_e : Nat) (a_n : Nat) {Q : Post} (Inv : Nat → Int → Int → AHeap → Prop) (ν : Nat) (k_1 : Int) (i : Int)  (H : AHeap) (h0 : Inv ν k_1 i H)
  (hs : ∀ (μ : Nat) (k_1 : Int) (i : Int)  (H : AHeap), Inv μ k_1 i H → exL Try.prog E_f6z (cl (cl (cr (cl (cr (bodyC Try.f34)))))) 35 16 [(0, 2)] (f6z_P1 a_a a_e a_n k_1 i) H (loopQ (f6z_I1 a_a a_e a_n Inv) μ Q)) : loopK (exL Try.prog E_f6z (cl (cl (cr (cl (cr (bodyC Try.f34)))))) 35 16 [(0, 2)]) (f6z_P1 a_a a_e a_n k_1 i) H Q :=
 ⟨f6z_I1 a_a a_e a_n Inv, ν, ⟨k_1, i, rfl, h0⟩, fun μ tm H h => by obtain ⟨k_1, i, rfl, hI⟩ := h; exact hs μ k_1 i  H hI⟩
theorem f6z_n1 {a_a : OA} {a_e : Nat} {a_n : Nat} {Q : Post} {Inv : Nat → Int → Int → AHeap → Prop} {μ : Nat} (μ' : Nat) {k_1 : Int} {i : Int}  {H : AHeap} (hm : μ' < μ) (hI : Inv μ' k_1 i H) : loopQ (f6z_I1 a_a a_e a_n Inv) μ Q .normal (f6z_P1 a_a a_e a_n k_1 i) H := ⟨μ', hm, k_1, i, rfl, hI⟩
theorem f6z_x1_0 (k_1 : Int) (H : AHeap) (K : Value → AHeap → Prop)  {I : Nat → List Value → AHeap → Prop} {μ : Nat} : loopQ I μ (blockQ 0 (seqQ (exL Try.prog E_f6z (cr (cr (bodyC Try.f34))) 16 16 []) (retK Try.prog Try.f34 K))) (.exit 0) (ud :: .int .i64 k_1 :: ud18 []) H =
 (K (.int .i64 k_1) H) := by kernel_rfl
theorem E_f6z_ok : ∀ g, FnOk Try.prog g (E_f6z g) := FnOk.envOf (by
 intro x hx; cases hx)
theorem f6z_main (a_a : OA) (a_n : Nat) (a_e : Nat) (k : Int) (H : AHeap) (K : Value → AHeap → Prop) (h : T_f6z a_a a_n a_e k H fun (r1 : Int) (H' : AHeap) => K (.int .i64 r1) H') : bodyL Try.prog E_f6z Try.f34 [.slice a_a a_n a_e, .int .i64 k] H K := by
 rw [f6z_vc]
 obtain ⟨lo, l_a, i_a, bd_18, hk⟩ := h
 have hk : (∀ H' : AHeap, KeepA a_a H H' → OwnS fF H' lo a_a a_n a_e ((p_f6z l_a k).2) → (fun (r1 : Int) (H' : AHeap) => K (.int .i64 r1) H') ((p_f6z l_a k).1) H') := by rw [f6z_val l_a k]; exact hk
 obtain rfl := i_a.len
 have up_p := i_a.up
 have lo_p := i_a.lo
 have e : (p_f6z l_a k) = _ := rfl
 have e := e.trans (p_f6z_eq l_a k)
 have g0 := KeepA.refl a_a H
 refine f6z_L1 _ _ _ (fun (μ : Nat) (k_1 : Int) (i : Int) (H_1 : AHeap) => ∃ (y1_1 : LN), OwnS fF H_1 lo a_a l_a.length a_e y1_1 ∧ y1_1.length = (l_a).length ∧ H.length ≤ H_1.length ∧ KeepA a_a H H_1 ∧ (0 : Int) ≤ i ∧ i ≤ (l_a.length : Int) ∧ (l_a.length : Int) - i ≤ (μ : Int) ∧ p_f6z l_a k = p_f6z_l1 l_a k (μ + 1) k_1 i y1_1) (Int.toNat ((l_a.length : Int) - (0 : Int))) _ _ H ?_ ?_
 ·exact ⟨_, i_a, ω11, ω2, g0, ω6, ω6, ω2, e⟩
 ·intro μ k_1 i  H_1 hI
  obtain ⟨y1_1, r_1, y_2, n3, g_4, v_5, v_6, hμ, e⟩ := hI
  rw [f6z_r1]
  have e := e.trans (p_f6z_l1_s l_a k μ k_1 i y1_1)
  have l_7 := g_4.1
  refine Br.intro (fun c_8 => ?_) (fun c_8 => ?_)
  ·have e := e.trans (cond_t c_8)
   have c_8' := of_decide_eq_true c_8
   obtain ⟨b_9, f_10, q_11⟩ := (r_1.isL).pos ω0
   refine ⟨by omega, by omega, b_9, f_10, q_11, ?_⟩
   refine Lt.setS r_1 q_11 ω3 (fun H_2 hl_12 o_14 k13 => ?_)
   have l_15 := k13.1
   have g16 := g_4.transA k13
   have l_17 := g16.1
   rw [show IntKind.wrap .i64 (i + 1) = (i + 1) from wrap64 ω2 ω2]
   refine f6z_n1 (μ - 1) ω16 ⟨_, o_14, ω17, ω2, g16, ω1, ω1, ω16, ω12⟩
  ·have e := e.trans (cond_f c_8)
   have c_8' := of_decide_eq_false c_8
   rw [f6z_x1_0]
   rw [e] at hk
   exact hk H_1 g_4 r_1
theorem f6z_ok : FnOk Try.prog 34 S_f6z := by
 refine FnOk.body mix_ok E_f6z_ok Try.func34 rfl ω10 ω10 ?_ ?_ ?_ ?_ ?_
 ·intro args H K K' h hk
  simp only [S_f6z] at *
  unfold F_f6z at *
  split at hk
  ·obtain ⟨lo, l_a, i_a, bd_18, k⟩ := hk
   exact ⟨lo, l_a, i_a, bd_18, (fun H' gg ow => h _ _ (k H' gg ow))⟩
  ·exact hk.elim
 ·intro hq; cases hq
 ·intro args H K hk
  simp only [S_f6z] at *
  unfold F_f6z at *
  split at hk
  ·obtain ⟨lo, l_a, i_a, bd_18, k⟩ := hk
   exact (i_a.put _ (by rw [marks_length])).elim fun H1 h => ⟨_, _, k H1 h.1 h.2⟩
  ·exact hk.elim
 ·intro hq; cases hq
 ·have mm := @f6z_main
  have ml := fun (args : List Value) (H : AHeap) (K : Value → AHeap → Prop) => bodyL_body (P := Try.prog) (env := E_f6z ) (fn := Try.f34) (args := args) (H := H) (K := K) E_f6z_ok 
  revert mm ml
  generalize bodyK Try.prog E_f6z Try.f34 = Q
  generalize bodyL Try.prog E_f6z Try.f34 = QL
  intro mm ml args H K hk
  simp only [S_f6z] at *
  unfold F_f6z at *
  split at hk
  ·exact ml _ H K (mm _ _ _ _ H K hk)
  ·exact hk.elim

def p_fez (ga : LN) (a_Scale : Nat) (k : Int) : Int × LN := ((wk k ga.length), (marks (FloatKind.nearest .f32) k ga.length))
def p_fez_eq := @p_fez.eq_1
def T_fez (qa : OA) (cb : Nat) (ib : Nat) (a_Scale : Nat) (k : Int) (H : AHeap) (K : Int → AHeap → Prop) : Prop := ∃ lo : Nat, ∃ (ga : LN), OwnS fF H lo qa cb ib ga ∧ ga.length < 1073741824 ∧ ((∀ H' : AHeap, KeepA qa H H' → OwnS fF H' lo qa cb ib (marks (FloatKind.nearest .f32) k ga.length) → K (wk k ga.length) H'))
theorem T_fez_i {qa : OA} {cb : Nat} {ib : Nat} {a_Scale : Nat} {k : Int} {H : AHeap} {K : Int → AHeap → Prop} (h : ∃ lo : Nat, ∃ (ga : LN), OwnS fF H lo qa cb ib ga ∧ ga.length < 1073741824 ∧ ((∀ H' : AHeap, KeepA qa H H' → OwnS fF H' lo qa cb ib (marks (FloatKind.nearest .f32) k ga.length) → K (wk k ga.length) H'))) : T_fez qa cb ib a_Scale k H K := h
theorem fez_val (ga : LN) (a_Scale : Nat) (k : Int) : p_fez ga a_Scale k = (wk k ga.length, marks (FloatKind.nearest .f32) k ga.length) := rfl
/-! fez: function 14 -/
def E_fez : Env := envOf [(34, S_f6z)]
def F_fez : List Value → AHeap → (Value → AHeap → Prop) → Prop
 | [.agg ⟨[.slice qa cb ib, .float .f32 a_Scale]⟩, .int .i64 k], H, K => T_fez qa cb ib a_Scale k H fun (r1 : Int) (H' : AHeap) => K (.int .i64 r1) H'
 | _, _, _ => False
def S_fez : FSpec := { F := F_fez, quiet := false, tame := false }
theorem fez_vc (qa : OA) (cb : Nat) (ib : Nat) (a_Scale : Nat) (k : Int) (H : AHeap) (K : Value → AHeap → Prop) : bodyL Try.prog E_fez Try.f14 [.agg #[.slice qa cb ib, .float .f32 a_Scale], .int .i64 k] H K =
 (Al [.slice qa cb ib, .float .f32 a_Scale] H fun b1 H1 => ∃ ze : OA, ∃ ue : Nat, ∃ af : Nat,  rdC H1 b1 0 = some (.slice ze ue af) ∧ T_f6z ze ue af k H1 fun (r1 : Int) (H2 : AHeap) => K (.int .i64 r1) H2) := by kernel_rfl
theorem E_fez_ok : ∀ g, FnOk Try.prog g (E_fez g) := FnOk.envOf (by
 intro x hx
 simp only [List.mem_cons, List.not_mem_nil, or_false] at hx
 subst hx; exact f6z_ok)
theorem fez_main (qa : OA) (cb : Nat) (ib : Nat) (a_Scale : Nat) (k : Int) (H : AHeap) (K : Value → AHeap → Prop) (h : T_fez qa cb ib a_Scale k H fun (r1 : Int) (H' : AHeap) => K (.int .i64 r1) H') : bodyL Try.prog E_fez Try.f14 [.agg #[.slice qa cb ib, .float .f32 a_Scale], .int .i64 k] H K := by
 rw [fez_vc]
 obtain ⟨lo, ga, i_a_Weights, bd_19, hk⟩ := h
 have hk : (∀ H' : AHeap, KeepA qa H H' → OwnS fF H' lo qa cb ib ((p_fez ga a_Scale k).2) → (fun (r1 : Int) (H' : AHeap) => K (.int .i64 r1) H') ((p_fez ga a_Scale k).1) H') := by rw [fez_val ga a_Scale k]; exact hk
 obtain rfl := i_a_Weights.len
 have up_p := i_a_Weights.up
 have lo_p := i_a_Weights.lo
 have e : (p_fez ga a_Scale k) = _ := rfl
 have e := e.trans (p_fez_eq ga a_Scale k)
 have g0 := KeepA.refl qa H
 refine Al.intro (fun b_1 H_1 hb_2 hl_3 g_4 o_5 => ?_)
 have l_7 := g_4.1
 have g_8 := g0.trans g_4
 have l_9 := g_8.1
 have r_10 := i_a_Weights.grow g_4
 have w18 := o_5.lt
 refine ⟨qa, ga.length, ib, (o_5.rdC _).trans rfl, ?_⟩
 refine T_f6z_i ⟨_, _, r_10, ω0, (fun H_2 k_11 o12 => ?_)⟩
 have l_13 := k_11.1
 have g_14 := g_8.transA k_11
 have l_15 := g_14.1
 have o16 := o_5.keepA (fun x hx => by have := lo_p x hx; have := up_p x hx; omega) k_11
 have w17 := o16.lt
 rw [e] at hk
 exact hk H_2 g_14 o12
theorem fez_ok : FnOk Try.prog 14 S_fez := by
 refine FnOk.body mix_ok E_fez_ok Try.func14 rfl ω10 ω10 ?_ ?_ ?_ ?_ ?_
 ·intro args H K K' h hk
  simp only [S_fez] at *
  unfold F_fez at *
  split at hk
  ·obtain ⟨lo, ga, i_a_Weights, bd_19, k⟩ := hk
   exact ⟨lo, ga, i_a_Weights, bd_19, (fun H' gg ow => h _ _ (k H' gg ow))⟩
  ·exact hk.elim
 ·intro hq; cases hq
 ·intro args H K hk
  simp only [S_fez] at *
  unfold F_fez at *
  split at hk
  ·obtain ⟨lo, ga, i_a_Weights, bd_19, k⟩ := hk
   exact (i_a_Weights.put _ (by rw [marks_length])).elim fun H1 h => ⟨_, _, k H1 h.1 h.2⟩
  ·exact hk.elim
 ·intro hq; cases hq
 ·have mm := @fez_main
  have ml := fun (args : List Value) (H : AHeap) (K : Value → AHeap → Prop) => bodyL_body (P := Try.prog) (env := E_fez ) (fn := Try.f14) (args := args) (H := H) (K := K) E_fez_ok 
  revert mm ml
  generalize bodyK Try.prog E_fez Try.f14 = Q
  generalize bodyL Try.prog E_fez Try.f14 = QL
  intro mm ml args H K hk
  simp only [S_fez] at *
  unfold F_fez at *
  split at hk
  ·exact ml _ H K (mm _ _ _ _ _ H K hk)
  ·exact hk.elim
end Go.Proofs.Ythheoefadijhdaa.Ai
