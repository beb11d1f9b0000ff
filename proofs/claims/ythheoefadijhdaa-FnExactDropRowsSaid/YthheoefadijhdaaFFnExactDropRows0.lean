/- What functions of the program come to on the abstract machine, and that they do so; printed by a program of mine around proofs of mine. -/
import Derived.Test.YthheoefadijhdaaProg
import Derived.Test.YthheoefadijhdaaFFnExactDropRowsFb
import Derived.Test.YthheoefadijhdaaFFnExactDropRowsKt
import Derived.Test.YthheoefadijhdaaFFnExactDropRowsOl
import Derived.Test.YthheoefadijhdaaFFnExactDropRowsRd
import Derived.Test.YthheoefadijhdaaFFnExactDropRowsSt
set_option linter.unusedVariables false
set_option linter.unusedSimpArgs false
set_option linter.defProp false
set_option maxRecDepth 100000
set_option maxHeartbeats 1000000
namespace Go.Proofs.Ythheoefadijhdaa.Ai
open Go
attribute [local irreducible] bodyK bodyL
theorem mix_ok : Try.prog.follows .mixedOrders = true := by kernel_rfl
abbrev OA := Option Addr
abbrev LN := List Nat
abbrev ud2 (l : List Value) : List Value := ud :: ud :: l
abbrev ud3 (l : List Value) : List Value := ud :: ud :: ud :: l
abbrev ud4 (l : List Value) : List Value := ud :: ud :: ud :: ud :: l
abbrev ud5 (l : List Value) : List Value := ud :: ud :: ud :: ud :: ud :: l
abbrev ud6 (l : List Value) : List Value := ud :: ud :: ud :: ud :: ud :: ud :: l
abbrev ud7 (l : List Value) : List Value := ud :: ud :: ud :: ud :: ud :: ud :: ud :: l
abbrev ud8 (l : List Value) : List Value := ud :: ud :: ud :: ud :: ud :: ud :: ud :: ud :: l
abbrev ud9 (l : List Value) : List Value := ud :: ud :: ud :: ud :: ud :: ud :: ud :: ud :: ud :: l
abbrev ud11 (l : List Value) : List Value := ud :: ud :: ud :: ud :: ud :: ud :: ud :: ud :: ud :: ud :: ud :: l
abbrev ud12 (l : List Value) : List Value := ud :: ud :: ud :: ud :: ud :: ud :: ud :: ud :: ud :: ud :: ud :: ud :: l
abbrev ud13 (l : List Value) : List Value := ud :: ud :: ud :: ud :: ud :: ud :: ud :: ud :: ud :: ud :: ud :: ud :: ud :: l
abbrev ud14 (l : List Value) : List Value := ud :: ud :: ud :: ud :: ud :: ud :: ud :: ud :: ud :: ud :: ud :: ud :: ud :: ud :: l
abbrev ud16 (l : List Value) : List Value := ud :: ud :: ud :: ud :: ud :: ud :: ud :: ud :: ud :: ud :: ud :: ud :: ud :: ud :: ud :: ud :: l
abbrev ud17 (l : List Value) : List Value := ud :: ud :: ud :: ud :: ud :: ud :: ud :: ud :: ud :: ud :: ud :: ud :: ud :: ud :: ud :: ud :: ud :: l
abbrev ud18 (l : List Value) : List Value := ud :: ud :: ud :: ud :: ud :: ud :: ud :: ud :: ud :: ud :: ud :: ud :: ud :: ud :: ud :: ud :: ud :: ud :: l
abbrev ud20 (l : List Value) : List Value := ud :: ud :: ud :: ud :: ud :: ud :: ud :: ud :: ud :: ud :: ud :: ud :: ud :: ud :: ud :: ud :: ud :: ud :: ud :: ud :: l
abbrev ud21 (l : List Value) : List Value := ud :: ud :: ud :: ud :: ud :: ud :: ud :: ud :: ud :: ud :: ud :: ud :: ud :: ud :: ud :: ud :: ud :: ud :: ud :: ud :: ud :: l
abbrev ud23 (l : List Value) : List Value := ud :: ud :: ud :: ud :: ud :: ud :: ud :: ud :: ud :: ud :: ud :: ud :: ud :: ud :: ud :: ud :: ud :: ud :: ud :: ud :: ud :: ud :: ud :: l
abbrev ud24 (l : List Value) : List Value := ud :: ud :: ud :: ud :: ud :: ud :: ud :: ud :: ud :: ud :: ud :: ud :: ud :: ud :: ud :: ud :: ud :: ud :: ud :: ud :: ud :: ud :: ud :: ud :: l
abbrev ud27 (l : List Value) : List Value := ud :: ud :: ud :: ud :: ud :: ud :: ud :: ud :: ud :: ud :: ud :: ud :: ud :: ud :: ud :: ud :: ud :: ud :: ud :: ud :: ud :: ud :: ud :: ud :: ud :: ud :: ud :: l
abbrev ud29 (l : List Value) : List Value := ud :: ud :: ud :: ud :: ud :: ud :: ud :: ud :: ud :: ud :: ud :: ud :: ud :: ud :: ud :: ud :: ud :: ud :: ud :: ud :: ud :: ud :: ud :: ud :: ud :: ud :: ud :: ud :: ud :: l
abbrev ud30 (l : List Value) : List Value := ud :: ud :: ud :: ud :: ud :: ud :: ud :: ud :: ud :: ud :: ud :: ud :: ud :: ud :: ud :: ud :: ud :: ud :: ud :: ud :: ud :: ud :: ud :: ud :: ud :: ud :: ud :: ud :: ud :: ud :: l
abbrev ud31 (l : List Value) : List Value := ud :: ud :: ud :: ud :: ud :: ud :: ud :: ud :: ud :: ud :: ud :: ud :: ud :: ud :: ud :: ud :: ud :: ud :: ud :: ud :: ud :: ud :: ud :: ud :: ud :: ud :: ud :: ud :: ud :: ud :: ud :: l
abbrev ud34 (l : List Value) : List Value := ud :: ud :: ud :: ud :: ud :: ud :: ud :: ud :: ud :: ud :: ud :: ud :: ud :: ud :: ud :: ud :: ud :: ud :: ud :: ud :: ud :: ud :: ud :: ud :: ud :: ud :: ud :: ud :: ud :: ud :: ud :: ud :: ud :: ud :: l
abbrev ud35 (l : List Value) : List Value := ud :: ud :: ud :: ud :: ud :: ud :: ud :: ud :: ud :: ud :: ud :: ud :: ud :: ud :: ud :: ud :: ud :: ud :: ud :: ud :: ud :: ud :: ud :: ud :: ud :: ud :: ud :: ud :: ud :: ud :: ud :: ud :: ud :: ud :: ud :: l
abbrev ud38 (l : List Value) : List Value := ud :: ud :: ud :: ud :: ud :: ud :: ud :: ud :: ud :: ud :: ud :: ud :: ud :: ud :: ud :: ud :: ud :: ud :: ud :: ud :: ud :: ud :: ud :: ud :: ud :: ud :: ud :: ud :: ud :: ud :: ud :: ud :: ud :: ud :: ud :: ud :: ud :: ud :: l
abbrev ud44 (l : List Value) : List Value := ud :: ud :: ud :: ud :: ud :: ud :: ud :: ud :: ud :: ud :: ud :: ud :: ud :: ud :: ud :: ud :: ud :: ud :: ud :: ud :: ud :: ud :: ud :: ud :: ud :: ud :: ud :: ud :: ud :: ud :: ud :: ud :: ud :: ud :: ud :: ud :: ud :: ud :: ud :: ud :: ud :: ud :: ud :: ud :: l
abbrev ud48 (l : List Value) : List Value := ud :: ud :: ud :: ud :: ud :: ud :: ud :: ud :: ud :: ud :: ud :: ud :: ud :: ud :: ud :: ud :: ud :: ud :: ud :: ud :: ud :: ud :: ud :: ud :: ud :: ud :: ud :: ud :: ud :: ud :: ud :: ud :: ud :: ud :: ud :: ud :: ud :: ud :: ud :: ud :: ud :: ud :: ud :: ud :: ud :: ud :: ud :: ud :: l
abbrev ud49 (l : List Value) : List Value := ud :: ud :: ud :: ud :: ud :: ud :: ud :: ud :: ud :: ud :: ud :: ud :: ud :: ud :: ud :: ud :: ud :: ud :: ud :: ud :: ud :: ud :: ud :: ud :: ud :: ud :: ud :: ud :: ud :: ud :: ud :: ud :: ud :: ud :: ud :: ud :: ud :: ud :: ud :: ud :: ud :: ud :: ud :: ud :: ud :: ud :: ud :: ud :: ud :: l
abbrev ud52 (l : List Value) : List Value := ud :: ud :: ud :: ud :: ud :: ud :: ud :: ud :: ud :: ud :: ud :: ud :: ud :: ud :: ud :: ud :: ud :: ud :: ud :: ud :: ud :: ud :: ud :: ud :: ud :: ud :: ud :: ud :: ud :: ud :: ud :: ud :: ud :: ud :: ud :: ud :: ud :: ud :: ud :: ud :: ud :: ud :: ud :: ud :: ud :: ud :: ud :: ud :: ud :: ud :: ud :: ud :: l
abbrev ud53 (l : List Value) : List Value := ud :: ud :: ud :: ud :: ud :: ud :: ud :: ud :: ud :: ud :: ud :: ud :: ud :: ud :: ud :: ud :: ud :: ud :: ud :: ud :: ud :: ud :: ud :: ud :: ud :: ud :: ud :: ud :: ud :: ud :: ud :: ud :: ud :: ud :: ud :: ud :: ud :: ud :: ud :: ud :: ud :: ud :: ud :: ud :: ud :: ud :: ud :: ud :: ud :: ud :: ud :: ud :: ud :: l
abbrev ud59 (l : List Value) : List Value := ud :: ud :: ud :: ud :: ud :: ud :: ud :: ud :: ud :: ud :: ud :: ud :: ud :: ud :: ud :: ud :: ud :: ud :: ud :: ud :: ud :: ud :: ud :: ud :: ud :: ud :: ud :: ud :: ud :: ud :: ud :: ud :: ud :: ud :: ud :: ud :: ud :: ud :: ud :: ud :: ud :: ud :: ud :: ud :: ud :: ud :: ud :: ud :: ud :: ud :: ud :: ud :: ud :: ud :: ud :: ud :: ud :: ud :: ud :: l
abbrev ud62 (l : List Value) : List Value := ud :: ud :: ud :: ud :: ud :: ud :: ud :: ud :: ud :: ud :: ud :: ud :: ud :: ud :: ud :: ud :: ud :: ud :: ud :: ud :: ud :: ud :: ud :: ud :: ud :: ud :: ud :: ud :: ud :: ud :: ud :: ud :: ud :: ud :: ud :: ud :: ud :: ud :: ud :: ud :: ud :: ud :: ud :: ud :: ud :: ud :: ud :: ud :: ud :: ud :: ud :: ud :: ud :: ud :: ud :: ud :: ud :: ud :: ud :: ud :: ud :: ud :: l
abbrev ud65 (l : List Value) : List Value := ud :: ud :: ud :: ud :: ud :: ud :: ud :: ud :: ud :: ud :: ud :: ud :: ud :: ud :: ud :: ud :: ud :: ud :: ud :: ud :: ud :: ud :: ud :: ud :: ud :: ud :: ud :: ud :: ud :: ud :: ud :: ud :: ud :: ud :: ud :: ud :: ud :: ud :: ud :: ud :: ud :: ud :: ud :: ud :: ud :: ud :: ud :: ud :: ud :: ud :: ud :: ud :: ud :: ud :: ud :: ud :: ud :: ud :: ud :: ud :: ud :: ud :: ud :: ud :: ud :: l
abbrev ud67 (l : List Value) : List Value := ud :: ud :: ud :: ud :: ud :: ud :: ud :: ud :: ud :: ud :: ud :: ud :: ud :: ud :: ud :: ud :: ud :: ud :: ud :: ud :: ud :: ud :: ud :: ud :: ud :: ud :: ud :: ud :: ud :: ud :: ud :: ud :: ud :: ud :: ud :: ud :: ud :: ud :: ud :: ud :: ud :: ud :: ud :: ud :: ud :: ud :: ud :: ud :: ud :: ud :: ud :: ud :: ud :: ud :: ud :: ud :: ud :: ud :: ud :: ud :: ud :: ud :: ud :: ud :: ud :: ud :: ud :: l
abbrev ud68 (l : List Value) : List Value := ud :: ud :: ud :: ud :: ud :: ud :: ud :: ud :: ud :: ud :: ud :: ud :: ud :: ud :: ud :: ud :: ud :: ud :: ud :: ud :: ud :: ud :: ud :: ud :: ud :: ud :: ud :: ud :: ud :: ud :: ud :: ud :: ud :: ud :: ud :: ud :: ud :: ud :: ud :: ud :: ud :: ud :: ud :: ud :: ud :: ud :: ud :: ud :: ud :: ud :: ud :: ud :: ud :: ud :: ud :: ud :: ud :: ud :: ud :: ud :: ud :: ud :: ud :: ud :: ud :: ud :: ud :: ud :: l
abbrev ud95 (l : List Value) : List Value := ud :: ud :: ud :: ud :: ud :: ud :: ud :: ud :: ud :: ud :: ud :: ud :: ud :: ud :: ud :: ud :: ud :: ud :: ud :: ud :: ud :: ud :: ud :: ud :: ud :: ud :: ud :: ud :: ud :: ud :: ud :: ud :: ud :: ud :: ud :: ud :: ud :: ud :: ud :: ud :: ud :: ud :: ud :: ud :: ud :: ud :: ud :: ud :: ud :: ud :: ud :: ud :: ud :: ud :: ud :: ud :: ud :: ud :: ud :: ud :: ud :: ud :: ud :: ud :: ud :: ud :: ud :: ud :: ud :: ud :: ud :: ud :: ud :: ud :: ud :: ud :: ud :: ud :: ud :: ud :: ud :: ud :: ud :: ud :: ud :: ud :: ud :: ud :: ud :: ud :: ud :: ud :: ud :: ud :: ud :: l
abbrev ud96 (l : List Value) : List Value := ud :: ud :: ud :: ud :: ud :: ud :: ud :: ud :: ud :: ud :: ud :: ud :: ud :: ud :: ud :: ud :: ud :: ud :: ud :: ud :: ud :: ud :: ud :: ud :: ud :: ud :: ud :: ud :: ud :: ud :: ud :: ud :: ud :: ud :: ud :: ud :: ud :: ud :: ud :: ud :: ud :: ud :: ud :: ud :: ud :: ud :: ud :: ud :: ud :: ud :: ud :: ud :: ud :: ud :: ud :: ud :: ud :: ud :: ud :: ud :: ud :: ud :: ud :: ud :: ud :: ud :: ud :: ud :: ud :: ud :: ud :: ud :: ud :: ud :: ud :: ud :: ud :: ud :: ud :: ud :: ud :: ud :: ud :: ud :: ud :: ud :: ud :: ud :: ud :: ud :: ud :: ud :: ud :: ud :: ud :: ud :: l
abbrev ud97 (l : List Value) : List Value := ud :: ud :: ud :: ud :: ud :: ud :: ud :: ud :: ud :: ud :: ud :: ud :: ud :: ud :: ud :: ud :: ud :: ud :: ud :: ud :: ud :: ud :: ud :: ud :: ud :: ud :: ud :: ud :: ud :: ud :: ud :: ud :: ud :: ud :: ud :: ud :: ud :: ud :: ud :: ud :: ud :: ud :: ud :: ud :: ud :: ud :: ud :: ud :: ud :: ud :: ud :: ud :: ud :: ud :: ud :: ud :: ud :: ud :: ud :: ud :: ud :: ud :: ud :: ud :: ud :: ud :: ud :: ud :: ud :: ud :: ud :: ud :: ud :: ud :: ud :: ud :: ud :: ud :: ud :: ud :: ud :: ud :: ud :: ud :: ud :: ud :: ud :: ud :: ud :: ud :: ud :: ud :: ud :: ud :: ud :: ud :: ud :: l
abbrev ud98 (l : List Value) : List Value := ud :: ud :: ud :: ud :: ud :: ud :: ud :: ud :: ud :: ud :: ud :: ud :: ud :: ud :: ud :: ud :: ud :: ud :: ud :: ud :: ud :: ud :: ud :: ud :: ud :: ud :: ud :: ud :: ud :: ud :: ud :: ud :: ud :: ud :: ud :: ud :: ud :: ud :: ud :: ud :: ud :: ud :: ud :: ud :: ud :: ud :: ud :: ud :: ud :: ud :: ud :: ud :: ud :: ud :: ud :: ud :: ud :: ud :: ud :: ud :: ud :: ud :: ud :: ud :: ud :: ud :: ud :: ud :: ud :: ud :: ud :: ud :: ud :: ud :: ud :: ud :: ud :: ud :: ud :: ud :: ud :: ud :: ud :: ud :: ud :: ud :: ud :: ud :: ud :: ud :: ud :: ud :: ud :: ud :: ud :: ud :: ud :: ud :: l
abbrev ud99 (l : List Value) : List Value := ud :: ud :: ud :: ud :: ud :: ud :: ud :: ud :: ud :: ud :: ud :: ud :: ud :: ud :: ud :: ud :: ud :: ud :: ud :: ud :: ud :: ud :: ud :: ud :: ud :: ud :: ud :: ud :: ud :: ud :: ud :: ud :: ud :: ud :: ud :: ud :: ud :: ud :: ud :: ud :: ud :: ud :: ud :: ud :: ud :: ud :: ud :: ud :: ud :: ud :: ud :: ud :: ud :: ud :: ud :: ud :: ud :: ud :: ud :: ud :: ud :: ud :: ud :: ud :: ud :: ud :: ud :: ud :: ud :: ud :: ud :: ud :: ud :: ud :: ud :: ud :: ud :: ud :: ud :: ud :: ud :: ud :: ud :: ud :: ud :: ud :: ud :: ud :: ud :: ud :: ud :: ud :: ud :: ud :: ud :: ud :: ud :: ud :: ud :: l
abbrev ud100 (l : List Value) : List Value := ud :: ud :: ud :: ud :: ud :: ud :: ud :: ud :: ud :: ud :: ud :: ud :: ud :: ud :: ud :: ud :: ud :: ud :: ud :: ud :: ud :: ud :: ud :: ud :: ud :: ud :: ud :: ud :: ud :: ud :: ud :: ud :: ud :: ud :: ud :: ud :: ud :: ud :: ud :: ud :: ud :: ud :: ud :: ud :: ud :: ud :: ud :: ud :: ud :: ud :: ud :: ud :: ud :: ud :: ud :: ud :: ud :: ud :: ud :: ud :: ud :: ud :: ud :: ud :: ud :: ud :: ud :: ud :: ud :: ud :: ud :: ud :: ud :: ud :: ud :: ud :: ud :: ud :: ud :: ud :: ud :: ud :: ud :: ud :: ud :: ud :: ud :: ud :: ud :: ud :: ud :: ud :: ud :: ud :: ud :: ud :: ud :: ud :: ud :: ud :: l
abbrev ud101 (l : List Value) : List Value := ud :: ud :: ud :: ud :: ud :: ud :: ud :: ud :: ud :: ud :: ud :: ud :: ud :: ud :: ud :: ud :: ud :: ud :: ud :: ud :: ud :: ud :: ud :: ud :: ud :: ud :: ud :: ud :: ud :: ud :: ud :: ud :: ud :: ud :: ud :: ud :: ud :: ud :: ud :: ud :: ud :: ud :: ud :: ud :: ud :: ud :: ud :: ud :: ud :: ud :: ud :: ud :: ud :: ud :: ud :: ud :: ud :: ud :: ud :: ud :: ud :: ud :: ud :: ud :: ud :: ud :: ud :: ud :: ud :: ud :: ud :: ud :: ud :: ud :: ud :: ud :: ud :: ud :: ud :: ud :: ud :: ud :: ud :: ud :: ud :: ud :: ud :: ud :: ud :: ud :: ud :: ud :: ud :: ud :: ud :: ud :: ud :: ud :: ud :: ud :: ud :: l
set_option maxHeartbeats 1000000

def p_ffz (l_a : LN) (left : Int) : Int := (bif decide ((IntKind.wrap .i64 (left - (l_a.length : Int)) : Int) < 0) then ((-1) : Int) else IntKind.wrap .i64 (left - (l_a.length : Int)))
def p_ffz_eq := @p_ffz.eq_1
def T_ffz (a_a : OA) (a_n : Nat) (a_e : Nat) (left : Int) (H : AHeap) (K : Int → AHeap → Prop) : Prop := ∃ (l_a : LN), IsL fF H a_a a_n l_a ∧ K (p_ffz l_a left) H
theorem T_ffz_i {a_a : OA} {a_n : Nat} {a_e : Nat} {left : Int} {H : AHeap} {K : Int → AHeap → Prop} (h : ∃ (l_a : LN), IsL fF H a_a a_n l_a ∧ K (p_ffz l_a left) H) : T_ffz a_a a_n a_e left H K := h
theorem ω2 {P : Prop} (h : P := by omega) : P := h
theorem ffz_f (l : LN) (left : Int) : 0 ≤ left → left ≤ 1048576 → l.length ≤ 9223372036854775807 → p_ffz l left < 0 ∨ (l.length : Int) ≤ left ∧ p_ffz l left = left - l.length := by
 intro h0 h1 h2
 rw [p_ffz_eq, wrap64 ω2 ω2]
 by_cases h : left - (l.length : Int) < 0
 ·rw [decide_eq_true h, cond_true]; left; decide
 ·rw [decide_eq_false h, cond_false]; right; omega
/-! ffz: function 21 -/
def E_ffz : Env := envOf []
def F_ffz : List Value → AHeap → (Value → AHeap → Prop) → Prop
 | [.slice a_a a_n a_e, .int .i64 left], H, K => T_ffz a_a a_n a_e left H fun (r1 : Int) (H' : AHeap) => K (.int .i64 r1) H'
 | _, _, _ => False
def S_ffz : FSpec := { F := F_ffz, quiet := true, tame := false }
theorem ffz_vc (a_a : OA) (a_n : Nat) (a_e : Nat) (left : Int) (H : AHeap) (K : Value → AHeap → Prop) : bodyL Try.prog E_ffz Try.f21 [.slice a_a a_n a_e, .int .i64 left] H K =
 (Br (decide ((IntKind.wrap .i64 (left - (a_n : Int)) : Int) < 0)) (K (.int .i64 (-1)) H) (K (.int .i64 (IntKind.wrap .i64 (left - (a_n : Int)))) H)) := by kernel_rfl
theorem E_ffz_ok : ∀ g, FnOk Try.prog g (E_ffz g) := FnOk.envOf (by
 intro x hx; cases hx)
theorem ffz_main (a_a : OA) (a_n : Nat) (a_e : Nat) (left : Int) (H : AHeap) (K : Value → AHeap → Prop) (h : T_ffz a_a a_n a_e left H fun (r1 : Int) (H' : AHeap) => K (.int .i64 r1) H') : bodyL Try.prog E_ffz Try.f21 [.slice a_a a_n a_e, .int .i64 left] H K := by
 rw [ffz_vc]
 obtain ⟨l_a, i_a, hk⟩ := h
 obtain rfl := i_a.eqn
 have e : (p_ffz l_a left) = _ := rfl
 have e := e.trans (p_ffz_eq l_a left)
 have g0 := Grow.refl H
 refine Br.intro (fun c_1 => ?_) (fun c_1 => ?_)
 ·have e := e.trans (cond_t c_1)
  have c_1' := of_decide_eq_true c_1
  rw [e] at hk
  exact hk
 ·have e := e.trans (cond_f c_1)
  have c_1' := of_decide_eq_false c_1
  rw [e] at hk
  exact hk
theorem ω10 {P : Prop} (h : P := by kernel_rfl) : P := h
theorem ffz_ok : FnOk Try.prog 21 S_ffz := by
 refine FnOk.body mix_ok E_ffz_ok Try.func21 rfl ω10 ω10 ?_ ?_ ?_ ?_ ?_
 ·intro args H K K' h hk
  simp only [S_ffz] at *
  unfold F_ffz at *
  split at hk
  ·obtain ⟨l_a, i_a, k⟩ := hk
   exact ⟨l_a, i_a, h _ _ k⟩
  ·exact hk.elim
 ·intro _ args H K hk
  simp only [S_ffz] at *
  unfold F_ffz at *
  split at hk
  ·obtain ⟨l_a, i_a, k⟩ := hk
   exact ⟨_, k, fun K' k' => ⟨l_a, i_a, k'⟩⟩
  ·exact hk.elim
 ·intro args H K hk
  simp only [S_ffz] at *
  unfold F_ffz at *
  split at hk
  ·obtain ⟨l_a, i_a, k⟩ := hk
   exact ⟨_, _, k⟩
  ·exact hk.elim
 ·intro hq; cases hq
 ·have mm := @ffz_main
  have ml := fun (args : List Value) (H : AHeap) (K : Value → AHeap → Prop) => bodyL_body (P := Try.prog) (env := E_ffz ) (fn := Try.f21) (args := args) (H := H) (K := K) E_ffz_ok 
  revert mm ml
  generalize bodyK Try.prog E_ffz Try.f21 = Q
  generalize bodyL Try.prog E_ffz Try.f21 = QL
  intro mm ml args H K hk
  simp only [S_ffz] at *
  unfold F_ffz at *
  split at hk
  ·exact ml _ H K (mm _ _ _ _ H K hk)
  ·exact hk.elim

def p_fxz (ga : LN) (a_Scale : Nat) (left : Int) : Int := (bif decide (((p_ffz ga left) : Int) < 0) then ((-1) : Int) else (p_ffz ga left))
def p_fxz_eq := @p_fxz.eq_1
def T_fxz (qa : OA) (cb : Nat) (ib : Nat) (a_Scale : Nat) (left : Int) (H : AHeap) (K : Int → AHeap → Prop) : Prop := ∃ (ga : LN), IsL fF H qa cb ga ∧ ((∀ H' : AHeap, Grow H H' → K (p_fxz ga a_Scale left) H'))
theorem T_fxz_i {qa : OA} {cb : Nat} {ib : Nat} {a_Scale : Nat} {left : Int} {H : AHeap} {K : Int → AHeap → Prop} (h : ∃ (ga : LN), IsL fF H qa cb ga ∧ ((∀ H' : AHeap, Grow H H' → K (p_fxz ga a_Scale left) H'))) : T_fxz qa cb ib a_Scale left H K := h
theorem fxz_f (l : LN) (sc : Nat) (left : Int) : 0 ≤ left → left ≤ 1048576 → l.length ≤ 9223372036854775807 → p_fxz l sc left < 0 ∨ (l.length : Int) ≤ left ∧ p_fxz l sc left = left - l.length := by
 intro h0 h1 h2
 have := ffz_f l left h0 h1 h2
 rw [p_fxz_eq]
 by_cases h : p_ffz l left < 0
 ·rw [decide_eq_true h, cond_true]; left; decide
 ·rw [decide_eq_false h, cond_false]; right; omega
/-! fxz: function 6 -/
def E_fxz : Env := envOf [(21, S_ffz)]
def F_fxz : List Value → AHeap → (Value → AHeap → Prop) → Prop
 | [.agg ⟨[.slice qa cb ib, .float .f32 a_Scale]⟩, .int .i64 left], H, K => T_fxz qa cb ib a_Scale left H fun (r1 : Int) (H' : AHeap) => K (.int .i64 r1) H'
 | _, _, _ => False
def S_fxz : FSpec := { F := F_fxz, quiet := false, tame := true }
theorem fxz_vc (qa : OA) (cb : Nat) (ib : Nat) (a_Scale : Nat) (left : Int) (H : AHeap) (K : Value → AHeap → Prop) : bodyL Try.prog E_fxz Try.f6 [.agg #[.slice qa cb ib, .float .f32 a_Scale], .int .i64 left] H K =
 (Al [.slice qa cb ib, .float .f32 a_Scale] H fun b1 H1 => ∃ ze : OA, ∃ ue : Nat, ∃ af : Nat,  rdC H1 b1 0 = some (.slice ze ue af) ∧ T_ffz ze ue af left H1 fun (r1 : Int) (H2 : AHeap) => Br (decide ((r1 : Int) < 0)) (K (.int .i64 (-1)) H2) (K (.int .i64 r1) H2)) := by kernel_rfl
theorem E_fxz_ok : ∀ g, FnOk Try.prog g (E_fxz g) := FnOk.envOf (by
 intro x hx
 simp only [List.mem_cons, List.not_mem_nil, or_false] at hx
 subst hx; exact ffz_ok)
theorem fxz_main (qa : OA) (cb : Nat) (ib : Nat) (a_Scale : Nat) (left : Int) (H : AHeap) (K : Value → AHeap → Prop) (h : T_fxz qa cb ib a_Scale left H fun (r1 : Int) (H' : AHeap) => K (.int .i64 r1) H') : bodyL Try.prog E_fxz Try.f6 [.agg #[.slice qa cb ib, .float .f32 a_Scale], .int .i64 left] H K := by
 rw [fxz_vc]
 obtain ⟨ga, i_a_Weights, hk⟩ := h
 obtain rfl := i_a_Weights.eqn
 have e : (p_fxz ga a_Scale left) = _ := rfl
 have e := e.trans (p_fxz_eq ga a_Scale left)
 have g0 := Grow.refl H
 refine Al.intro (fun b_1 H_1 hb_2 hl_3 g_4 o_5 => ?_)
 have l_7 := g_4.1
 have g_8 := g0.trans g_4
 have l_9 := g_8.1
 have w12 := o_5.lt
 refine ⟨qa, ga.length, ib, (o_5.rdC _).trans rfl, ?_⟩
 refine T_ffz_i ⟨_, (i_a_Weights.grow g_8), ?_⟩
 have z10 := ffz_f ga left
 refine Br.intro (fun c_11 => ?_) (fun c_11 => ?_)
 ·have e := e.trans (cond_t c_11)
  have c_11' := of_decide_eq_true c_11
  rw [e] at hk
  exact hk  H_1 g_8 
 ·have e := e.trans (cond_f c_11)
  have c_11' := of_decide_eq_false c_11
  rw [e] at hk
  exact hk  H_1 g_8 
theorem fxz_ok : FnOk Try.prog 6 S_fxz := by
 refine FnOk.body mix_ok E_fxz_ok Try.func6 rfl ω10 ω10 ?_ ?_ ?_ ?_ ?_
 ·intro args H K K' h hk
  simp only [S_fxz] at *
  unfold F_fxz at *
  split at hk
  ·obtain ⟨ga, i_a_Weights, k⟩ := hk
   exact ⟨ga, i_a_Weights, (fun  H' gg  => h _ _ (k  H' gg ))⟩
  ·exact hk.elim
 ·intro hq; cases hq
 ·intro args H K hk
  simp only [S_fxz] at *
  unfold F_fxz at *
  split at hk
  ·obtain ⟨ga, i_a_Weights, k⟩ := hk
   exact ⟨_, _, k H (Grow.refl H)⟩
  ·exact hk.elim
 ·intro _ args H K hk
  simp only [S_fxz] at *
  unfold F_fxz at *
  split at hk
  ·obtain ⟨ga, i_a_Weights, k⟩ := hk
   exact ⟨ga, i_a_Weights, (fun  H' gg  => ⟨gg, k  H' gg ⟩)⟩
  ·exact hk.elim
 ·have mm := @fxz_main
  have ml := fun (args : List Value) (H : AHeap) (K : Value → AHeap → Prop) => bodyL_body (P := Try.prog) (env := E_fxz ) (fn := Try.f6) (args := args) (H := H) (K := K) E_fxz_ok 
  revert mm ml
  generalize bodyK Try.prog E_fxz Try.f6 = Q
  generalize bodyL Try.prog E_fxz Try.f6 = QL
  intro mm ml args H K hk
  simp only [S_fxz] at *
  unfold F_fxz at *
  split at hk
  ·exact ml _ H K (mm _ _ _ _ _ H K hk)
  ·exact hk.elim

def p_fkz (a_Wide : Int) (a_High : Int) (fa : LN) (left : Int) : Int := (bif decide (((p_ffz fa left) : Int) < 0) then ((-1) : Int) else (p_ffz fa left))
def p_fkz_eq := @p_fkz.eq_1
def T_fkz (a_Wide : Int) (a_High : Int) (ma : OA) (ta : Nat) (ab : Nat) (left : Int) (H : AHeap) (K : Int → AHeap → Prop) : Prop := ∃ (fa : LN), IsL fF H ma ta fa ∧ ((∀ H' : AHeap, Grow H H' → K (p_fkz a_Wide a_High fa left) H'))
theorem T_fkz_i {a_Wide : Int} {a_High : Int} {ma : OA} {ta : Nat} {ab : Nat} {left : Int} {H : AHeap} {K : Int → AHeap → Prop} (h : ∃ (fa : LN), IsL fF H ma ta fa ∧ ((∀ H' : AHeap, Grow H H' → K (p_fkz a_Wide a_High fa left) H'))) : T_fkz a_Wide a_High ma ta ab left H K := h
theorem fkz_f (a b : Int) (l : LN) (left : Int) : 0 ≤ left → left ≤ 1048576 → l.length ≤ 9223372036854775807 → p_fkz a b l left < 0 ∨ (l.length : Int) ≤ left ∧ p_fkz a b l left = left - l.length := by
 intro h0 h1 h2
 have := ffz_f l left h0 h1 h2
 rw [p_fkz_eq]
 by_cases h : p_ffz l left < 0
 ·rw [decide_eq_true h, cond_true]; left; decide
 ·rw [decide_eq_false h, cond_false]; right; omega
/-! fkz: function 7 -/
def E_fkz : Env := envOf [(21, S_ffz)]
def F_fkz : List Value → AHeap → (Value → AHeap → Prop) → Prop
 | [.agg ⟨[.int .i64 a_Wide, .int .i64 a_High, .slice ma ta ab]⟩, .int .i64 left], H, K => T_fkz a_Wide a_High ma ta ab left H fun (r1 : Int) (H' : AHeap) => K (.int .i64 r1) H'
 | _, _, _ => False
def S_fkz : FSpec := { F := F_fkz, quiet := false, tame := true }
theorem fkz_vc (a_Wide : Int) (a_High : Int) (ma : OA) (ta : Nat) (ab : Nat) (left : Int) (H : AHeap) (K : Value → AHeap → Prop) : bodyL Try.prog E_fkz Try.f7 [.agg #[.int .i64 a_Wide, .int .i64 a_High, .slice ma ta ab], .int .i64 left] H K =
 (Al [.int .i64 a_Wide, .int .i64 a_High, .slice ma ta ab] H fun b1 H1 => ∃ ze : OA, ∃ ue : Nat, ∃ af : Nat,  rdC H1 b1 2 = some (.slice ze ue af) ∧ T_ffz ze ue af left H1 fun (r1 : Int) (H2 : AHeap) => Br (decide ((r1 : Int) < 0)) (K (.int .i64 (-1)) H2) (K (.int .i64 r1) H2)) := by kernel_rfl
theorem E_fkz_ok : ∀ g, FnOk Try.prog g (E_fkz g) := FnOk.envOf (by
 intro x hx
 simp only [List.mem_cons, List.not_mem_nil, or_false] at hx
 subst hx; exact ffz_ok)
theorem fkz_main (a_Wide : Int) (a_High : Int) (ma : OA) (ta : Nat) (ab : Nat) (left : Int) (H : AHeap) (K : Value → AHeap → Prop) (h : T_fkz a_Wide a_High ma ta ab left H fun (r1 : Int) (H' : AHeap) => K (.int .i64 r1) H') : bodyL Try.prog E_fkz Try.f7 [.agg #[.int .i64 a_Wide, .int .i64 a_High, .slice ma ta ab], .int .i64 left] H K := by
 rw [fkz_vc]
 obtain ⟨fa, i_a_Lights, hk⟩ := h
 obtain rfl := i_a_Lights.eqn
 have e : (p_fkz a_Wide a_High fa left) = _ := rfl
 have e := e.trans (p_fkz_eq a_Wide a_High fa left)
 have g0 := Grow.refl H
 refine Al.intro (fun b_1 H_1 hb_2 hl_3 g_4 o_5 => ?_)
 have l_7 := g_4.1
 have g_8 := g0.trans g_4
 have l_9 := g_8.1
 have w12 := o_5.lt
 refine ⟨ma, fa.length, ab, (o_5.rdC _).trans rfl, ?_⟩
 refine T_ffz_i ⟨_, (i_a_Lights.grow g_8), ?_⟩
 have z10 := ffz_f fa left
 refine Br.intro (fun c_11 => ?_) (fun c_11 => ?_)
 ·have e := e.trans (cond_t c_11)
  have c_11' := of_decide_eq_true c_11
  rw [e] at hk
  exact hk  H_1 g_8 
 ·have e := e.trans (cond_f c_11)
  have c_11' := of_decide_eq_false c_11
  rw [e] at hk
  exact hk  H_1 g_8 
theorem fkz_ok : FnOk Try.prog 7 S_fkz := by
 refine FnOk.body mix_ok E_fkz_ok Try.func7 rfl ω10 ω10 ?_ ?_ ?_ ?_ ?_
 ·intro args H K K' h hk
  simp only [S_fkz] at *
  unfold F_fkz at *
  split at hk
  ·obtain ⟨fa, i_a_Lights, k⟩ := hk
   exact ⟨fa, i_a_Lights, (fun  H' gg  => h _ _ (k  H' gg ))⟩
  ·exact hk.elim
 ·intro hq; cases hq
 ·intro args H K hk
  simp only [S_fkz] at *
  unfold F_fkz at *
  split at hk
  ·obtain ⟨fa, i_a_Lights, k⟩ := hk
   exact ⟨_, _, k H (Grow.refl H)⟩
  ·exact hk.elim
 ·intro _ args H K hk
  simp only [S_fkz] at *
  unfold F_fkz at *
  split at hk
  ·obtain ⟨fa, i_a_Lights, k⟩ := hk
   exact ⟨fa, i_a_Lights, (fun  H' gg  => ⟨gg, k  H' gg ⟩)⟩
  ·exact hk.elim
 ·have mm := @fkz_main
  have ml := fun (args : List Value) (H : AHeap) (K : Value → AHeap → Prop) => bodyL_body (P := Try.prog) (env := E_fkz ) (fn := Try.f7) (args := args) (H := H) (K := K) E_fkz_ok 
  revert mm ml
  generalize bodyK Try.prog E_fkz Try.f7 = Q
  generalize bodyL Try.prog E_fkz Try.f7 = QL
  intro mm ml args H K hk
  simp only [S_fkz] at *
  unfold F_fkz at *
  split at hk
  ·exact ml _ H K (mm _ _ _ _ _ _ H K hk)
  ·exact hk.elim

def p_fgz_l1 (l_a : LN) : Nat → Int → LN → LN
 | 0, _, _ => []
 | μ + 1, i, y1_1 => (bif decide ((i : Int) < (l_a.length : Int)) then (p_fgz_l1 l_a μ (i + 1) (((y1_1).set (i : Int).toNat ((((l_a).getD (i : Int).toNat 0)))))) else y1_1)
def p_fgz_l1_s := fun l_a μ i y1_1 => @p_fgz_l1.eq_2 l_a i y1_1 μ
def p_fgz (l_a : LN) : LN := (p_fgz_l1 l_a (Int.toNat ((l_a.length : Int) - (0 : Int)) + 1) (0 : Int) (List.replicate (((l_a.length : Int)).toNat) 0))
def p_fgz_eq := @p_fgz.eq_1
def T_fgz (a_a : OA) (a_n : Nat) (a_e : Nat) (H : AHeap) (K : OA → Nat → Nat → AHeap → Prop) : Prop := ∃ (l_a : LN), IsL fF H a_a a_n l_a ∧ l_a.length < 1073741824 ∧ ((∀ (cd : OA) (ld jd : Nat), ∀ H' : AHeap, Grow H H' → OwnS fF H' H.length cd ld jd l_a → K cd ld jd H'))
theorem T_fgz_i {a_a : OA} {a_n : Nat} {a_e : Nat} {H : AHeap} {K : OA → Nat → Nat → AHeap → Prop} (h : ∃ (l_a : LN), IsL fF H a_a a_n l_a ∧ l_a.length < 1073741824 ∧ ((∀ (cd : OA) (ld jd : Nat), ∀ H' : AHeap, Grow H H' → OwnS fF H' H.length cd ld jd l_a → K cd ld jd H'))) : T_fgz a_a a_n a_e H K := h
theorem fgz_go (l : LN) : ∀ (μ : Nat) (i : Nat) (ys : LN), ys.length = l.length → i ≤ l.length → l.length - i < μ →
  p_fgz_l1 l μ (i : Int) (l.take i ++ ys.drop i) = l := by
 intro μ
 induction μ with
 | zero => intro i ys _ _ h; omega
 | succ μ ih =>
  intro i ys hy hi hm
  rw [p_fgz_l1_s]
  by_cases h : i < l.length
  ·rw [decide_eq_true (show (i : Int) < (l.length : Int) by omega), cond_true]
   have hx : l[i]? = some (l.getD i 0) := by rw [List.getD_eq_getElem?_getD, List.getElem?_eq_getElem h]; rfl
   rw [Int.toNat_natCast, set_front l ys i ω2 hy.symm _ hx]
   exact ih (i + 1) ys hy ω2 ω2
  ·rw [decide_eq_false (show ¬ (i : Int) < (l.length : Int) by omega), cond_false]
   rw [List.take_of_length_le ω2, List.drop_eq_nil_of_le ω2, List.append_nil]
theorem fgz_id (l : LN) : p_fgz l = l := by
 rw [p_fgz_eq]
 have := fgz_go l (Int.toNat ((l.length : Int) - 0) + 1) 0 (List.replicate ((l.length : Int)).toNat 0) (by simp) ω2 ω2
 simpa using this
/-! fgz: function 25 -/
def E_fgz : Env := envOf []
def F_fgz : List Value → AHeap → (Value → AHeap → Prop) → Prop
 | [.slice a_a a_n a_e], H, K => T_fgz a_a a_n a_e H fun (cd : OA) (ld : Nat) (jd : Nat) (H' : AHeap) => K (.slice cd ld jd) H'
 | _, _, _ => False
def S_fgz : FSpec := { F := F_fgz, quiet := false, tame := true }
theorem fgz_vc (a_a : OA) (a_n : Nat) (a_e : Nat) (H : AHeap) (K : Value → AHeap → Prop) : bodyL Try.prog E_fgz Try.f25 [.slice a_a a_n a_e] H K =
 ((0 : Int) ≤ (a_n : Int) ∧ (a_n : Int) = (a_n : Int) ∧ (a_n : Int) < (most : Int) ∧ Al (zerosOf (.float .f32 0) ((a_n : Int)).toNat) H fun b1 H1 => loopK (exL Try.prog E_fgz (cl (cl (cr (cl (cr (cr (bodyC Try.f25))))))) 25 4 [(0, 8)]) (.slice a_a a_n a_e :: ud2 (.slice (some ⟨b1, 0, none⟩) (((a_n : Int)).toNat) 1 :: .int .i64 0 :: ud17 [])) H1 (blockQ 0 (seqQ (exL Try.prog E_fgz (cr (cr (cr (bodyC Try.f25)))) 4 4 []) (retK Try.prog Try.f25 K)))) := by kernel_rfl
abbrev fgz_P1 (a_a : OA) (a_e : Nat) (a_n : Nat) (b1 : Nat) (i : Int)  : List Value := (.slice a_a a_n a_e :: ud2 (.slice (some ⟨b1, 0, none⟩) (((a_n : Int)).toNat) 1 :: .int .i64 i :: ud17 []))
theorem fgz_r1 (a_a : OA) (a_e : Nat) (a_n : Nat) (b1 : Nat) (i : Int)  (H : AHeap) (R : Post) : exL Try.prog E_fgz (cl (cl (cr (cl (cr (cr (bodyC Try.f25))))))) 25 4 [(0, 8)] (fgz_P1 a_a a_e a_n b1 i) H R =
 (Br (decide ((i : Int) < (a_n : Int))) ((0 : Int) ≤ i ∧ i < (a_n : Int) ∧ ∃ b2 f1, (a_a : OA) = some ⟨b2, f1, none⟩ ∧ ∃ x1 : Nat,  rdC H b2 (f1 + (i : Int).toNat * 1) = some (.float .f32 x1) ∧ (0 : Int) ≤ i ∧ i < (((a_n : Int)).toNat : Int) ∧ ∃ b3 f2, (some ⟨b1, 0, none⟩ : OA) = some ⟨b3, f2, none⟩ ∧ isOwn H b3 ∧ (∃ l, rdN H b3 (f2 + (i : Int).toNat * 1) 1 = some l) ∧ Lt (setC H b3 (f2 + (i : Int).toNat * 1) (.float .f32 x1)) fun H2 => R .normal (.slice a_a a_n a_e :: ud2 (.slice (some ⟨b1, 0, none⟩) (((a_n : Int)).toNat) 1 :: .int .i64 (IntKind.wrap .i64 (i + 1)) :: ud17 [])) H2) (R (.exit 0) (ud3 (.slice (some ⟨b1, 0, none⟩) (((a_n : Int)).toNat) 1 :: ud18 [])) H)) := by kernel_rfl
def fgz_I1 (a_a : OA) (a_e : Nat) (a_n : Nat) (b1 : Nat) (Inv : Nat → Int → AHeap → Prop) : Nat → List Value → AHeap → Prop := fun μ tm H => ∃ (i : Int), tm = (fgz_P1 a_a a_e a_n b1 i) ∧ Inv μ i H
theorem fgz_L1 (a_a : OA) (a_e : Nat) (a_n : Nat) (b1 : Nat) {Q : Post} (Inv : Nat → Int → AHeap → Prop) (ν : Nat) (i : Int)  (H : AHeap) (h0 : Inv ν i H)
  (hs : ∀ (μ : Nat) (i : Int)  (H : AHeap), Inv μ i H → exL Try.prog E_fgz (cl (cl (cr (cl (cr (cr (bodyC Try.f25))))))) 25 4 [(0, 8)] (fgz_P1 a_a a_e a_n b1 i) H (loopQ (fgz_I1 a_a a_e a_n b1 Inv) μ Q)) : loopK (exL Try.prog E_fgz (cl (cl (cr (cl (cr (cr (bodyC Try.f25))))))) 25 4 [(0, 8)]) (fgz_P1 a_a a_e a_n b1 i) H Q :=
 ⟨fgz_I1 a_a a_e a_n b1 Inv, ν, ⟨i, rfl, h0⟩, fun μ tm H h => by obtain ⟨i, rfl, hI⟩ := h; exact hs μ i  H hI⟩
theorem fgz_n1 {a_a : OA} {a_e : Nat} {a_n : Nat} {b1 : Nat} {Q : Post} {Inv : Nat → Int → AHeap → Prop} {μ : Nat} (μ' : Nat) {i : Int}  {H : AHeap} (hm : μ' < μ) (hI : Inv μ' i H) : loopQ (fgz_I1 a_a a_e a_n b1 Inv) μ Q .normal (fgz_P1 a_a a_e a_n b1 i) H := ⟨μ', hm, i, rfl, hI⟩
theorem fgz_x1_0 (a_n : Nat) (b1 : Nat) (H : AHeap) (K : Value → AHeap → Prop)  {I : Nat → List Value → AHeap → Prop} {μ : Nat} : loopQ I μ (blockQ 0 (seqQ (exL Try.prog E_fgz (cr (cr (cr (bodyC Try.f25)))) 4 4 []) (retK Try.prog Try.f25 K))) (.exit 0) (ud3 (.slice (some ⟨b1, 0, none⟩) (((a_n : Int)).toNat) 1 :: ud18 [])) H =
 (K (.slice (some ⟨b1, 0, none⟩) (((a_n : Int)).toNat) 1) H) := by kernel_rfl
theorem E_fgz_ok : ∀ g, FnOk Try.prog g (E_fgz g) := FnOk.envOf (by
 intro x hx; cases hx)
theorem ω19 {P : Prop} (h : P := by have := most_eq; omega) : P := h
theorem ω11 {P : Prop} (h : P := by first | rfl | assumption | omega | (simp; done)) : P := h
theorem ω6 {P : Prop} (h : P := by first | omega | (simp; done) | (simp; omega)) : P := h
theorem ω0 {P : Prop} (h : P := by first | omega | (simp only [List.length_set, List.length_replicate, List.length_append, List.length_cons, List.length_nil, List.length_take, List.length_drop, marks_length]; done) | (simp only [List.length_set, List.length_replicate, List.length_append, List.length_cons, List.length_nil, List.length_take, List.length_drop, marks_length]; omega)) : P := h
theorem ω13 {P : Prop} (h : P := by simp only [List.length_map]; (first | omega | (simp only [List.length_set, List.length_replicate, List.length_append, List.length_cons, List.length_nil, List.length_take, List.length_drop, marks_length]; done) | (simp only [List.length_set, List.length_replicate, List.length_append, List.length_cons, List.length_nil, List.length_take, List.length_drop, marks_length]; omega))) : P := h
theorem ω16 {P : Prop} (h : P := by first | omega) : P := h
theorem ω17 {P : Prop} (h : P := by first | assumption | omega | (simp only [List.length_set]; first | rfl | assumption | omega)) : P := h
theorem ω1 {P : Prop} (h : P := by first | omega | (simp only [List.length_append, List.length_cons, List.length_nil, List.length_set]; done) | (simp only [List.length_append, List.length_cons, List.length_nil, List.length_set]; omega)) : P := h
theorem ω12 {P : Prop} (h : P := by rw [show μ - 1 + 1 = μ from by first | omega]; exact e) : P := h
theorem fgz_main (a_a : OA) (a_n : Nat) (a_e : Nat) (H : AHeap) (K : Value → AHeap → Prop) (h : T_fgz a_a a_n a_e H fun (cd : OA) (ld : Nat) (jd : Nat) (H' : AHeap) => K (.slice cd ld jd) H') : bodyL Try.prog E_fgz Try.f25 [.slice a_a a_n a_e] H K := by
 rw [fgz_vc]
 obtain ⟨l_a, i_a, bd_29, hk⟩ := h
 have hk : (∀ (cd : OA) (ld jd : Nat), ∀ H' : AHeap, Grow H H' → OwnS fF H' H.length cd ld jd (p_fgz l_a) → (fun (cd : OA) (ld : Nat) (jd : Nat) (H' : AHeap) => K (.slice cd ld jd) H') cd ld jd H') := by rw [fgz_id l_a]; exact hk
 obtain rfl := i_a.eqn
 have e : (p_fgz l_a) = _ := rfl
 have e := e.trans (p_fgz_eq l_a)
 have g0 := Grow.refl H
 refine ⟨by omega, rfl, ω19, ?_⟩
 refine Al.intro (fun b_1 H_1 hb_2 hl_3 g_4 o_5 => ?_)
 rw [zeros_map fF 0 _ rfl] at o_5
 have l_7 := g_4.1
 have g_8 := g0.trans g_4
 have l_9 := g_8.1
 have w28 := o_5.lt
 refine fgz_L1 _ _ _ _ (fun (μ : Nat) (i : Int) (H_2 : AHeap) => ∃ (y1_1 : LN), Own H_2 b_1 (y1_1.map fF) ∧ y1_1.length = ((l_a.length : Int)).toNat ∧ Grow H H_2 ∧ (0 : Int) ≤ i ∧ i ≤ (l_a.length : Int) ∧ (l_a.length : Int) - i ≤ (μ : Int) ∧ p_fgz l_a = p_fgz_l1 l_a (μ + 1) i y1_1) (Int.toNat ((l_a.length : Int) - (0 : Int))) _ H_1 ?_ ?_
 ·exact ⟨_, o_5, ω11, g_8, ω6, ω6, ω2, e⟩
 ·intro μ i  H_2 hI
  obtain ⟨y1_1, o_10, y11, g12, v_13, v_14, hμ, e⟩ := hI
  rw [fgz_r1]
  have e := e.trans (p_fgz_l1_s l_a μ i y1_1)
  have w15 := o_10.lt
  have l_16 := g12.1
  refine Br.intro (fun c_17 => ?_) (fun c_17 => ?_)
  ·have e := e.trans (cond_t c_17)
   have c_17' := of_decide_eq_true c_17
   obtain ⟨b18, f_19, q_20⟩ := ((i_a.grow g12)).pos ω0
   refine ⟨by omega, by omega, b18, f_19, q_20, ?_⟩
   refine ⟨((l_a).getD (i : Int).toNat 0), (i_a).rd g12 q_20 ω2 _, ?_⟩
   refine ⟨by omega, ω2, _, _, rfl, ?_⟩
   refine Lt.set o_10 ω13 (fun H_3 hl_21 o23 k22 => ?_)
   have o23 := map_set o23
   have l24 := k22.1
   have g_25 := g12.keep (b := b_1) ω2 k22
   have l26 := g_25.1
   have w27 := o23.lt
   rw [show IntKind.wrap .i64 (i + 1) = (i + 1) from wrap64 ω2 ω2]
   refine fgz_n1 (μ - 1) ω16 ⟨_, o23, ω17, g_25, ω1, ω1, ω16, ω12⟩
  ·have e := e.trans (cond_f c_17)
   have c_17' := of_decide_eq_false c_17
   rw [fgz_x1_0]
   rw [e] at hk
   exact hk _ _ _ H_2 g12 (o_10.ownS (by first | (simp only [List.length_replicate]; done) | omega | (simp; omega)) ω2)
theorem fgz_ok : FnOk Try.prog 25 S_fgz := by
 refine FnOk.body mix_ok E_fgz_ok Try.func25 rfl ω10 ω10 ?_ ?_ ?_ ?_ ?_
 ·intro args H K K' h hk
  simp only [S_fgz] at *
  unfold F_fgz at *
  split at hk
  ·obtain ⟨l_a, i_a, bd_29, k⟩ := hk
   exact ⟨l_a, i_a, bd_29, (fun cd ld jd H' gg ow0 => h _ _ (k cd ld jd H' gg ow0))⟩
  ·exact hk.elim
 ·intro hq; cases hq
 ·intro args H K hk
  simp only [S_fgz] at *
  unfold F_fgz at *
  split at hk
  ·obtain ⟨l_a, i_a, bd_29, k⟩ := hk
   exact liveS fun a n e H1 g o => ⟨_, _, k a n e H1 g o⟩
  ·exact hk.elim
 ·intro _ args H K hk
  simp only [S_fgz] at *
  unfold F_fgz at *
  split at hk
  ·obtain ⟨l_a, i_a, bd_29, k⟩ := hk
   exact ⟨l_a, i_a, bd_29, (fun cd ld jd H' gg ow0 => ⟨gg, k cd ld jd H' gg ow0⟩)⟩
  ·exact hk.elim
 ·have mm := @fgz_main
  have ml := fun (args : List Value) (H : AHeap) (K : Value → AHeap → Prop) => bodyL_body (P := Try.prog) (env := E_fgz ) (fn := Try.f25) (args := args) (H := H) (K := K) E_fgz_ok 
  revert mm ml
  generalize bodyK Try.prog E_fgz Try.f25 = Q
  generalize bodyL Try.prog E_fgz Try.f25 = QL
  intro mm ml args H K hk
  simp only [S_fgz] at *
  unfold F_fgz at *
  split at hk
  ·exact ml _ H K (mm _ _ _ H K hk)
  ·exact hk.elim

def p_fyz (ga : LN) (a_Scale : Nat) : LN × Nat := (ga, a_Scale)
def p_fyz_eq := @p_fyz.eq_1
def T_fyz (qa : OA) (cb : Nat) (ib : Nat) (a_Scale : Nat) (H : AHeap) (K : OA → Nat → Nat → Nat → AHeap → Prop) : Prop := ∃ (ga : LN), IsL fF H qa cb ga ∧ ga.length < 1073741824 ∧ ((∀ (od : OA) (sd pd : Nat), ∀ H' : AHeap, Grow H H' → OwnS fF H' H.length od sd pd ga → K od sd pd a_Scale H'))
theorem T_fyz_i {qa : OA} {cb : Nat} {ib : Nat} {a_Scale : Nat} {H : AHeap} {K : OA → Nat → Nat → Nat → AHeap → Prop} (h : ∃ (ga : LN), IsL fF H qa cb ga ∧ ga.length < 1073741824 ∧ ((∀ (od : OA) (sd pd : Nat), ∀ H' : AHeap, Grow H H' → OwnS fF H' H.length od sd pd ga → K od sd pd a_Scale H'))) : T_fyz qa cb ib a_Scale H K := h
theorem fyz_id (l : LN) (sc : Nat) : p_fyz l sc = (l, sc) := rfl
/-! fyz: function 9 -/
def E_fyz : Env := envOf [(25, S_fgz)]
def F_fyz : List Value → AHeap → (Value → AHeap → Prop) → Prop
 | [.agg ⟨[.slice qa cb ib, .float .f32 a_Scale]⟩], H, K => T_fyz qa cb ib a_Scale H fun (od : OA) (sd : Nat) (pd : Nat) (r1_Scale : Nat) (H' : AHeap) => K (.agg #[.slice od sd pd, .float .f32 r1_Scale]) H'
 | _, _, _ => False
def S_fyz : FSpec := { F := F_fyz, quiet := false, tame := true }
theorem fyz_vc (qa : OA) (cb : Nat) (ib : Nat) (a_Scale : Nat) (H : AHeap) (K : Value → AHeap → Prop) : bodyL Try.prog E_fyz Try.f9 [.agg #[.slice qa cb ib, .float .f32 a_Scale]] H K =
 (Al [.slice qa cb ib, .float .f32 a_Scale] H fun b1 H1 => Al [.slice none 0 0, .float .f32 0] H1 fun b2 H2 => Al [.slice none 0 0, .float .f32 0] H2 fun b3 H3 => ∃ ze : OA, ∃ ue : Nat, ∃ af : Nat,  rdC H3 b1 0 = some (.slice ze ue af) ∧ T_fgz ze ue af H3 fun (a1 : OA) (r1 : Nat) (r2 : Nat) (H4 : AHeap) => isOwn H4 b3 ∧ (∃ l, rdN H4 b3 0 1 = some l) ∧ Lt (setC H4 b3 0 (.slice a1 r1 r2)) fun H5 => ∃ x2 : Nat,  rdC H5 b1 1 = some (.float .f32 x2) ∧ isOwn H5 b3 ∧ (∃ l, rdN H5 b3 1 1 = some l) ∧ Lt (setC H5 b3 1 (.float .f32 x2)) fun H6 => ∃ xf : OA, ∃ zf : Nat, ∃ yf : Nat, ∃ c2 : Nat,  rdN H6 b3 0 2 = some [.slice xf zf yf, .float .f32 c2] ∧ isOwn H6 b2 ∧ (∃ l, rdN H6 b2 0 2 = some l) ∧ Lt (setN H6 b2 0 [.slice xf zf yf, .float .f32 c2]) fun H7 => ∃ sf : OA, ∃ uf : Nat, ∃ tf : Nat, ∃ c4 : Nat,  rdN H7 b2 0 2 = some [.slice sf uf tf, .float .f32 c4] ∧ K (.agg #[.slice sf uf tf, .float .f32 c4]) H7) := by kernel_rfl
theorem E_fyz_ok : ∀ g, FnOk Try.prog g (E_fyz g) := FnOk.envOf (by
 intro x hx
 simp only [List.mem_cons, List.not_mem_nil, or_false] at hx
 subst hx; exact fgz_ok)
theorem fyz_main (qa : OA) (cb : Nat) (ib : Nat) (a_Scale : Nat) (H : AHeap) (K : Value → AHeap → Prop) (h : T_fyz qa cb ib a_Scale H fun (od : OA) (sd : Nat) (pd : Nat) (r1_Scale : Nat) (H' : AHeap) => K (.agg #[.slice od sd pd, .float .f32 r1_Scale]) H') : bodyL Try.prog E_fyz Try.f9 [.agg #[.slice qa cb ib, .float .f32 a_Scale]] H K := by
 rw [fyz_vc]
 obtain ⟨ga, i_a_Weights, bd_90, hk⟩ := h
 have hk : (∀ (od : OA) (sd pd : Nat), ∀ H' : AHeap, Grow H H' → OwnS fF H' H.length od sd pd ((p_fyz ga a_Scale).1) → (fun (od : OA) (sd : Nat) (pd : Nat) (r1_Scale : Nat) (H' : AHeap) => K (.agg #[.slice od sd pd, .float .f32 r1_Scale]) H') od sd pd ((p_fyz ga a_Scale).2) H') := by rw [fyz_id ga a_Scale]; exact hk
 obtain rfl := i_a_Weights.eqn
 have e : (p_fyz ga a_Scale) = _ := rfl
 have e := e.trans (p_fyz_eq ga a_Scale)
 have g0 := Grow.refl H
 refine Al.intro (fun b_1 H_1 hb_2 hl_3 g_4 o_5 => ?_)
 have l_7 := g_4.1
 have g_8 := g0.trans g_4
 have l_9 := g_8.1
 have w89 := o_5.lt
 refine Al.intro (fun b_10 H_2 hb_11 hl_12 g13 o_14 => ?_)
 have l_16 := g13.1
 have g17 := g_8.trans g13
 have l_18 := g17.1
 have o19 := o_5.grow g13
 have w20 := o19.lt
 have w88 := o_14.lt
 refine Al.intro (fun b_21 H_3 hb_22 hl_23 g24 o25 => ?_)
 have l27 := g24.1
 have g28 := g17.trans g24
 have l29 := g28.1
 have o30 := o19.grow g24
 have w31 := o30.lt
 have o32 := o_14.grow g24
 have w33 := o32.lt
 have w87 := o25.lt
 refine ⟨qa, ga.length, ib, (o30.rdC _).trans rfl, ?_⟩
 refine T_fgz_i ⟨_, (i_a_Weights.grow g28), ω0, fun a34 n35 e36 H_4 g38 r_37 => ?_⟩
 have l39 := g38.1
 have g40 := g28.trans g38
 have l41 := g40.1
 have o42 := o30.grow g38
 have w43 := o42.lt
 have o44 := o32.grow g38
 have w45 := o44.lt
 have o46 := o25.grow g38
 have w47 := o46.lt
 obtain rfl := r_37.isL.eqn
 have u48 := r_37.up
 have u49 := r_37.lo
 refine Lt.set o46 (Nat.le_of_ble_eq_true rfl) (fun H_5 hl_51 o53 k52 => ?_)
 have o53 : Own H_5 b_21 [.slice a34 ((ga).length) e36, .float .f32 0] := o53
 have l54 := k52.1
 have g55 := g40.keep (b := b_21) ω2 k52
 have l56 := g55.1
 have o57 := o42.keep ω2 k52
 have w58 := o57.lt
 have o59 := o44.keep ω2 k52
 have w60 := o59.lt
 have r61 := r_37.keep u48 ω2 k52
 have w86 := o53.lt
 refine ⟨a_Scale, (o57.rdC _).trans rfl, ?_⟩
 refine Lt.set o53 (Nat.le_of_ble_eq_true rfl) (fun H_6 hl_62 o64 k63 => ?_)
 have o64 : Own H_6 b_21 [.slice a34 ((ga).length) e36, .float .f32 a_Scale] := o64
 have l65 := k63.1
 have g66 := g55.keep (b := b_21) ω2 k63
 have l67 := g66.1
 have o68 := o57.keep ω2 k63
 have w69 := o68.lt
 have o70 := o59.keep ω2 k63
 have w71 := o70.lt
 have r72 := r61.keep u48 ω2 k63
 have w85 := o64.lt
 refine ⟨a34, (ga).length, e36, a_Scale, (o64.rdN (Nat.le_of_ble_eq_true rfl)).trans rfl, ?_⟩
 refine Lt.setN (n := 2) o70 (Nat.le_of_ble_eq_true rfl) rfl (fun H_7 hl_73 o75 k74 => ?_)
 have o75 : Own H_7 b_10 [.slice a34 ((ga).length) e36, .float .f32 a_Scale] := o75
 have l76 := k74.1
 have g77 := g66.keep (b := b_10) ω2 k74
 have l78 := g77.1
 have o79 := o68.keep ω2 k74
 have w80 := o79.lt
 have o81 := o64.keep ω2 k74
 have w82 := o81.lt
 have r83 := r72.keep u48 ω2 k74
 have w84 := o75.lt
 refine ⟨a34, (ga).length, e36, a_Scale, (o75.rdN (Nat.le_of_ble_eq_true rfl)).trans rfl, ?_⟩
 rw [e] at hk
 exact hk _ _ _ H_7 g77 (r83.weak ω2)
theorem fyz_ok : FnOk Try.prog 9 S_fyz := by
 refine FnOk.body mix_ok E_fyz_ok Try.func9 rfl ω10 ω10 ?_ ?_ ?_ ?_ ?_
 ·intro args H K K' h hk
  simp only [S_fyz] at *
  unfold F_fyz at *
  split at hk
  ·obtain ⟨ga, i_a_Weights, bd_90, k⟩ := hk
   exact ⟨ga, i_a_Weights, bd_90, (fun od sd pd H' gg ow0 => h _ _ (k od sd pd H' gg ow0))⟩
  ·exact hk.elim
 ·intro hq; cases hq
 ·intro args H K hk
  simp only [S_fyz] at *
  unfold F_fyz at *
  split at hk
  ·obtain ⟨ga, i_a_Weights, bd_90, k⟩ := hk
   exact liveS fun a n e H1 g o => ⟨_, _, k a n e H1 g o⟩
  ·exact hk.elim
 ·intro _ args H K hk
  simp only [S_fyz] at *
  unfold F_fyz at *
  split at hk
  ·obtain ⟨ga, i_a_Weights, bd_90, k⟩ := hk
   exact ⟨ga, i_a_Weights, bd_90, (fun od sd pd H' gg ow0 => ⟨gg, k od sd pd H' gg ow0⟩)⟩
  ·exact hk.elim
 ·have mm := @fyz_main
  have ml := fun (args : List Value) (H : AHeap) (K : Value → AHeap → Prop) => bodyL_body (P := Try.prog) (env := E_fyz ) (fn := Try.f9) (args := args) (H := H) (K := K) E_fyz_ok 
  revert mm ml
  generalize bodyK Try.prog E_fyz Try.f9 = Q
  generalize bodyL Try.prog E_fyz Try.f9 = QL
  intro mm ml args H K hk
  simp only [S_fyz] at *
  unfold F_fyz at *
  split at hk
  ·exact ml _ H K (mm _ _ _ _ H K hk)
  ·exact hk.elim

def p_flz (a_Wide : Int) (a_High : Int) (fa : LN) : Int × Int × LN := (a_Wide, a_High, fa)
def p_flz_eq := @p_flz.eq_1
def T_flz (a_Wide : Int) (a_High : Int) (ma : OA) (ta : Nat) (ab : Nat) (H : AHeap) (K : Int → Int → OA → Nat → Nat → AHeap → Prop) : Prop := ∃ (fa : LN), IsL fF H ma ta fa ∧ fa.length < 1073741824 ∧ ((∀ (xa : OA) (za ya : Nat), ∀ H' : AHeap, Grow H H' → OwnS fF H' H.length xa za ya fa → K a_Wide a_High xa za ya H'))
theorem T_flz_i {a_Wide : Int} {a_High : Int} {ma : OA} {ta : Nat} {ab : Nat} {H : AHeap} {K : Int → Int → OA → Nat → Nat → AHeap → Prop} (h : ∃ (fa : LN), IsL fF H ma ta fa ∧ fa.length < 1073741824 ∧ ((∀ (xa : OA) (za ya : Nat), ∀ H' : AHeap, Grow H H' → OwnS fF H' H.length xa za ya fa → K a_Wide a_High xa za ya H'))) : T_flz a_Wide a_High ma ta ab H K := h
theorem flz_id (a b : Int) (l : LN) : p_flz a b l = (a, b, l) := rfl
/-! flz: function 10 -/
def E_flz : Env := envOf [(25, S_fgz)]
def F_flz : List Value → AHeap → (Value → AHeap → Prop) → Prop
 | [.agg ⟨[.int .i64 a_Wide, .int .i64 a_High, .slice ma ta ab]⟩], H, K => T_flz a_Wide a_High ma ta ab H fun (r1_Wide : Int) (r1_High : Int) (xa : OA) (za : Nat) (ya : Nat) (H' : AHeap) => K (.agg #[.int .i64 r1_Wide, .int .i64 r1_High, .slice xa za ya]) H'
 | _, _, _ => False
def S_flz : FSpec := { F := F_flz, quiet := false, tame := true }
theorem flz_vc (a_Wide : Int) (a_High : Int) (ma : OA) (ta : Nat) (ab : Nat) (H : AHeap) (K : Value → AHeap → Prop) : bodyL Try.prog E_flz Try.f10 [.agg #[.int .i64 a_Wide, .int .i64 a_High, .slice ma ta ab]] H K =
 (Al [.int .i64 a_Wide, .int .i64 a_High, .slice ma ta ab] H fun b1 H1 => Al [.int .i64 0, .int .i64 0, .slice none 0 0] H1 fun b2 H2 => Al [.int .i64 0, .int .i64 0, .slice none 0 0] H2 fun b3 H3 => ∃ x1 : Int,  rdC H3 b1 0 = some (.int .i64 x1) ∧ isOwn H3 b3 ∧ (∃ l, rdN H3 b3 0 1 = some l) ∧ Lt (setC H3 b3 0 (.int .i64 x1)) fun H4 => ∃ x2 : Int,  rdC H4 b1 1 = some (.int .i64 x2) ∧ isOwn H4 b3 ∧ (∃ l, rdN H4 b3 1 1 = some l) ∧ Lt (setC H4 b3 1 (.int .i64 x2)) fun H5 => ∃ tg : OA, ∃ og : Nat, ∃ ug : Nat,  rdC H5 b1 2 = some (.slice tg og ug) ∧ T_fgz tg og ug H5 fun (a1 : OA) (r1 : Nat) (r2 : Nat) (H6 : AHeap) => isOwn H6 b3 ∧ (∃ l, rdN H6 b3 2 1 = some l) ∧ Lt (setC H6 b3 2 (.slice a1 r1 r2)) fun H7 => ∃ c1 : Int, ∃ c2 : Int, ∃ sf : OA, ∃ uf : Nat, ∃ tf : Nat,  rdN H7 b3 0 3 = some [.int .i64 c1, .int .i64 c2, .slice sf uf tf] ∧ isOwn H7 b2 ∧ (∃ l, rdN H7 b2 0 3 = some l) ∧ Lt (setN H7 b2 0 [.int .i64 c1, .int .i64 c2, .slice sf uf tf]) fun H8 => ∃ c4 : Int, ∃ c5 : Int, ∃ ag : OA, ∃ dg : Nat, ∃ bg : Nat,  rdN H8 b2 0 3 = some [.int .i64 c4, .int .i64 c5, .slice ag dg bg] ∧ K (.agg #[.int .i64 c4, .int .i64 c5, .slice ag dg bg]) H8) := by kernel_rfl
theorem E_flz_ok : ∀ g, FnOk Try.prog g (E_flz g) := FnOk.envOf (by
 intro x hx
 simp only [List.mem_cons, List.not_mem_nil, or_false] at hx
 subst hx; exact fgz_ok)
theorem flz_main (a_Wide : Int) (a_High : Int) (ma : OA) (ta : Nat) (ab : Nat) (H : AHeap) (K : Value → AHeap → Prop) (h : T_flz a_Wide a_High ma ta ab H fun (r1_Wide : Int) (r1_High : Int) (xa : OA) (za : Nat) (ya : Nat) (H' : AHeap) => K (.agg #[.int .i64 r1_Wide, .int .i64 r1_High, .slice xa za ya]) H') : bodyL Try.prog E_flz Try.f10 [.agg #[.int .i64 a_Wide, .int .i64 a_High, .slice ma ta ab]] H K := by
 rw [flz_vc]
 obtain ⟨fa, i_a_Lights, bd_100, hk⟩ := h
 have hk : (∀ (xa : OA) (za ya : Nat), ∀ H' : AHeap, Grow H H' → OwnS fF H' H.length xa za ya ((p_flz a_Wide a_High fa).2.2) → (fun (r1_Wide : Int) (r1_High : Int) (xa : OA) (za : Nat) (ya : Nat) (H' : AHeap) => K (.agg #[.int .i64 r1_Wide, .int .i64 r1_High, .slice xa za ya]) H') ((p_flz a_Wide a_High fa).1) ((p_flz a_Wide a_High fa).2.1) xa za ya H') := by rw [flz_id a_Wide a_High fa]; exact hk
 obtain rfl := i_a_Lights.eqn
 have e : (p_flz a_Wide a_High fa) = _ := rfl
 have e := e.trans (p_flz_eq a_Wide a_High fa)
 have g0 := Grow.refl H
 refine Al.intro (fun b_1 H_1 hb_2 hl_3 g_4 o_5 => ?_)
 have l_7 := g_4.1
 have g_8 := g0.trans g_4
 have l_9 := g_8.1
 have w99 := o_5.lt
 refine Al.intro (fun b_10 H_2 hb_11 hl_12 g13 o_14 => ?_)
 have l_16 := g13.1
 have g17 := g_8.trans g13
 have l_18 := g17.1
 have o19 := o_5.grow g13
 have w20 := o19.lt
 have w98 := o_14.lt
 refine Al.intro (fun b_21 H_3 hb_22 hl_23 g24 o25 => ?_)
 have l27 := g24.1
 have g28 := g17.trans g24
 have l29 := g28.1
 have o30 := o19.grow g24
 have w31 := o30.lt
 have o32 := o_14.grow g24
 have w33 := o32.lt
 have w97 := o25.lt
 refine ⟨a_Wide, (o30.rdC _).trans rfl, ?_⟩
 refine Lt.set o25 (Nat.le_of_ble_eq_true rfl) (fun H_4 hl_34 o36 k35 => ?_)
 have o36 : Own H_4 b_21 [.int .i64 a_Wide, .int .i64 0, .slice none 0 0] := o36
 have l37 := k35.1
 have g38 := g28.keep (b := b_21) ω2 k35
 have l39 := g38.1
 have o40 := o30.keep ω2 k35
 have w41 := o40.lt
 have o42 := o32.keep ω2 k35
 have w43 := o42.lt
 have w96 := o36.lt
 refine ⟨a_High, (o40.rdC _).trans rfl, ?_⟩
 refine Lt.set o36 (Nat.le_of_ble_eq_true rfl) (fun H_5 hl_44 o46 k45 => ?_)
 have o46 : Own H_5 b_21 [.int .i64 a_Wide, .int .i64 a_High, .slice none 0 0] := o46
 have l47 := k45.1
 have g_48 := g38.keep (b := b_21) ω2 k45
 have l49 := g_48.1
 have o50 := o40.keep ω2 k45
 have w51 := o50.lt
 have o52 := o42.keep ω2 k45
 have w53 := o52.lt
 have w95 := o46.lt
 refine ⟨ma, fa.length, ab, (o50.rdC _).trans rfl, ?_⟩
 refine T_fgz_i ⟨_, (i_a_Lights.grow g_48), ω0, fun a54 n55 e56 H_6 g58 r57 => ?_⟩
 have l59 := g58.1
 have g60 := g_48.trans g58
 have l61 := g60.1
 have o62 := o50.grow g58
 have w63 := o62.lt
 have o64 := o52.grow g58
 have w65 := o64.lt
 have o66 := o46.grow g58
 have w67 := o66.lt
 obtain rfl := r57.isL.eqn
 have u68 := r57.up
 have u69 := r57.lo
 refine Lt.set o66 (Nat.le_of_ble_eq_true rfl) (fun H_7 hl_71 o73 k72 => ?_)
 have o73 : Own H_7 b_21 [.int .i64 a_Wide, .int .i64 a_High, .slice a54 ((fa).length) e56] := o73
 have l74 := k72.1
 have g75 := g60.keep (b := b_21) ω2 k72
 have l76 := g75.1
 have o77 := o62.keep ω2 k72
 have w78 := o77.lt
 have o79 := o64.keep ω2 k72
 have w80 := o79.lt
 have r81 := r57.keep u68 ω2 k72
 have w94 := o73.lt
 refine ⟨a_Wide, a_High, a54, (fa).length, e56, (o73.rdN (Nat.le_of_ble_eq_true rfl)).trans rfl, ?_⟩
 refine Lt.setN (n := 3) o79 (Nat.le_of_ble_eq_true rfl) rfl (fun H_8 hl_82 o84 k83 => ?_)
 have o84 : Own H_8 b_10 [.int .i64 a_Wide, .int .i64 a_High, .slice a54 ((fa).length) e56] := o84
 have l85 := k83.1
 have g86 := g75.keep (b := b_10) ω2 k83
 have l87 := g86.1
 have o88 := o77.keep ω2 k83
 have w89 := o88.lt
 have o90 := o73.keep ω2 k83
 have w91 := o90.lt
 have r92 := r81.keep u68 ω2 k83
 have w93 := o84.lt
 refine ⟨a_Wide, a_High, a54, (fa).length, e56, (o84.rdN (Nat.le_of_ble_eq_true rfl)).trans rfl, ?_⟩
 rw [e] at hk
 exact hk _ _ _ H_8 g86 (r92.weak ω2)
theorem flz_ok : FnOk Try.prog 10 S_flz := by
 refine FnOk.body mix_ok E_flz_ok Try.func10 rfl ω10 ω10 ?_ ?_ ?_ ?_ ?_
 ·intro args H K K' h hk
  simp only [S_flz] at *
  unfold F_flz at *
  split at hk
  ·obtain ⟨fa, i_a_Lights, bd_100, k⟩ := hk
   exact ⟨fa, i_a_Lights, bd_100, (fun xa za ya H' gg ow0 => h _ _ (k xa za ya H' gg ow0))⟩
  ·exact hk.elim
 ·intro hq; cases hq
 ·intro args H K hk
  simp only [S_flz] at *
  unfold F_flz at *
  split at hk
  ·obtain ⟨fa, i_a_Lights, bd_100, k⟩ := hk
   exact liveS fun a n e H1 g o => ⟨_, _, k a n e H1 g o⟩
  ·exact hk.elim
 ·intro _ args H K hk
  simp only [S_flz] at *
  unfold F_flz at *
  split at hk
  ·obtain ⟨fa, i_a_Lights, bd_100, k⟩ := hk
   exact ⟨fa, i_a_Lights, bd_100, (fun xa za ya H' gg ow0 => ⟨gg, k xa za ya H' gg ow0⟩)⟩
  ·exact hk.elim
 ·have mm := @flz_main
  have ml := fun (args : List Value) (H : AHeap) (K : Value → AHeap → Prop) => bodyL_body (P := Try.prog) (env := E_flz ) (fn := Try.f10) (args := args) (H := H) (K := K) E_flz_ok 
  revert mm ml
  generalize bodyK Try.prog E_flz Try.f10 = Q
  generalize bodyL Try.prog E_flz Try.f10 = QL
  intro mm ml args H K hk
  simp only [S_flz] at *
  unfold F_flz at *
  split at hk
  ·exact ml _ H K (mm _ _ _ _ _ H K hk)
  ·exact hk.elim
def p_fmz (x : Nat) : Bool := feq .f32 (fsub .f32 x x) 0
def T_fmz (x : Nat) (H : AHeap) (K : Bool → AHeap → Prop) : Prop := K (p_fmz x) H

theorem T_fmz_i {x : Nat} {H : AHeap} {K : Bool → AHeap → Prop} (h : K (p_fmz x) H) : T_fmz x H K := h
/-! fmz: function 78 -/
def E_fmz : Env := envOf []
def F_fmz : List Value → AHeap → (Value → AHeap → Prop) → Prop
 | [.float .f32 x], H, K => T_fmz x H fun (r1 : Bool) (H' : AHeap) => K (.bool r1) H'
 | _, _, _ => False
def S_fmz : FSpec := { F := F_fmz, quiet := true, tame := false }
theorem fmz_vc (x : Nat) (H : AHeap) (K : Value → AHeap → Prop) : bodyL Try.prog E_fmz Try.f78 [.float .f32 x] H K =
 (K (.bool (feq .f32 (fsub .f32 x x) 0)) H) := by kernel_rfl
theorem E_fmz_ok : ∀ g, FnOk Try.prog g (E_fmz g) := FnOk.envOf (by
 intro x hx; cases hx)
theorem fmz_main (x : Nat) (H : AHeap) (K : Value → AHeap → Prop) (h : T_fmz x H fun (r1 : Bool) (H' : AHeap) => K (.bool r1) H') : bodyL Try.prog E_fmz Try.f78 [.float .f32 x] H K := by
 rw [fmz_vc]
 unfold T_fmz p_fmz at h
 repeat' (first | exact h | (exfalso; simp_all; done) | (refine ⟨by decide, ?_⟩) | (refine Br.intro (fun hb => ?_) (fun hb => ?_) <;> (try simp only [hb, cond_true, cond_false, Bool.not_true, Bool.not_false] at h)))
theorem fmz_ok : FnOk Try.prog 78 S_fmz := by
 refine FnOk.body mix_ok E_fmz_ok Try.func78 rfl ω10 ω10 ?_ ?_ ?_ ?_ ?_
 ·intro args H K K' h hk
  simp only [S_fmz] at *
  unfold F_fmz at *
  split at hk
  ·have k := hk
   exact h _ _ k
  ·exact hk.elim
 ·intro _ args H K hk
  simp only [S_fmz] at *
  unfold F_fmz at *
  split at hk
  ·have k := hk
   exact ⟨_, k, fun K' k' => k'⟩
  ·exact hk.elim
 ·intro args H K hk
  simp only [S_fmz] at *
  unfold F_fmz at *
  split at hk
  ·have k := hk
   exact ⟨_, _, k⟩
  ·exact hk.elim
 ·intro hq; cases hq
 ·have mm := @fmz_main
  have ml := fun (args : List Value) (H : AHeap) (K : Value → AHeap → Prop) => bodyL_body (P := Try.prog) (env := E_fmz ) (fn := Try.f78) (args := args) (H := H) (K := K) E_fmz_ok 
  revert mm ml
  generalize bodyK Try.prog E_fmz Try.f78 = Q
  generalize bodyL Try.prog E_fmz Try.f78 = QL
  intro mm ml args H K hk
  simp only [S_fmz] at *
  unfold F_fmz at *
  split at hk
  ·exact ml _ H K (mm _ H K hk)
  ·exact hk.elim

def p_foz_l1 (db : LN) : Nat → Bool → Int → Bool
 | 0, _, _ => false
 | μ + 1, t2, i => (bif decide ((i : Int) < (db.length : Int)) then (bif !((p_fmz (((db).getD (i : Int).toNat 0)))) then false else (p_foz_l1 db μ t2 (i + 1))) else true)
def p_foz_l1_s := fun db μ t2 i => @p_foz_l1.eq_2 db t2 i μ
def p_foz (db : LN) : Bool := (p_foz_l1 db (Int.toNat ((db.length : Int) - (0 : Int)) + 1) false (0 : Int))
def p_foz_eq := @p_foz.eq_1
def T_foz (wb : OA) (qb : Nat) (dc : Nat) (H : AHeap) (K : Bool → AHeap → Prop) : Prop := ∃ (db : LN), IsL fF H wb qb db ∧ db.length < 1073741824 ∧ K (p_foz db) H
theorem T_foz_i {wb : OA} {qb : Nat} {dc : Nat} {H : AHeap} {K : Bool → AHeap → Prop} (h : ∃ (db : LN), IsL fF H wb qb db ∧ db.length < 1073741824 ∧ K (p_foz db) H) : T_foz wb qb dc H K := h

/-! foz: function 55 -/
def E_foz : Env := envOf [(78, S_fmz)]
def F_foz : List Value → AHeap → (Value → AHeap → Prop) → Prop
 | [.slice wb qb dc], H, K => T_foz wb qb dc H fun (r1 : Bool) (H' : AHeap) => K (.bool r1) H'
 | _, _, _ => False
def S_foz : FSpec := { F := F_foz, quiet := true, tame := false }
theorem foz_vc (wb : OA) (qb : Nat) (dc : Nat) (H : AHeap) (K : Value → AHeap → Prop) : bodyL Try.prog E_foz Try.f55 [.slice wb qb dc] H K =
 (loopK (exL Try.prog E_foz (cl (cl (cr (cl (cr (bodyC Try.f55)))))) 9 4 [(0, 0)]) (.slice wb qb dc :: ud2 (.int .i64 0 :: ud12 [])) H (blockQ 0 (seqQ (exL Try.prog E_foz (cr (cr (bodyC Try.f55))) 4 4 []) (retK Try.prog Try.f55 K)))) := by kernel_rfl
abbrev foz_P1 (wb : OA) (dc : Nat) (qb : Nat) (i : Int)  : List Value := (.slice wb qb dc :: ud2 (.int .i64 i :: ud12 []))
theorem foz_r1 (wb : OA) (dc : Nat) (qb : Nat) (i : Int)  (H : AHeap) (R : Post) : exL Try.prog E_foz (cl (cl (cr (cl (cr (bodyC Try.f55)))))) 9 4 [(0, 0)] (foz_P1 wb dc qb i) H R =
 (Br (decide ((i : Int) < (qb : Int))) ((0 : Int) ≤ i ∧ i < (qb : Int) ∧ ∃ b1 f1, (wb : OA) = some ⟨b1, f1, none⟩ ∧ ∃ x1 : Nat,  rdC H b1 (f1 + (i : Int).toNat * 1) = some (.float .f32 x1) ∧ T_fmz x1 H fun (r1 : Bool) (H1 : AHeap) => Br (!r1) (R .ret (ud2 (.bool false :: ud13 [])) H1) (R .normal (.slice wb qb dc :: ud2 (.int .i64 (IntKind.wrap .i64 (i + 1)) :: ud12 [])) H1)) (R (.exit 0) (ud16 []) H)) := by kernel_rfl
def foz_I1 (wb : OA) (dc : Nat) (qb : Nat) (Inv : Nat → Int → AHeap → Prop) : Nat → List Value → AHeap → Prop := fun μ tm H => ∃ (i : Int), tm = (foz_P1 wb dc qb i) ∧ Inv μ i H
theorem foz_L1 (wb : OA) (dc : Nat) (qb : Nat) {Q : Post} (Inv : Nat → Int → AHeap → Prop) (ν : Nat) (i : Int)  (H : AHeap) (h0 : Inv ν i H)
  (hs : ∀ (μ : Nat) (i : Int)  (H : AHeap), Inv μ i H → exL Try.prog E_foz (cl (cl (cr (cl (cr (bodyC Try.f55)))))) 9 4 [(0, 0)] (foz_P1 wb dc qb i) H (loopQ (foz_I1 wb dc qb Inv) μ Q)) : loopK (exL Try.prog E_foz (cl (cl (cr (cl (cr (bodyC Try.f55)))))) 9 4 [(0, 0)]) (foz_P1 wb dc qb i) H Q :=
 ⟨foz_I1 wb dc qb Inv, ν, ⟨i, rfl, h0⟩, fun μ tm H h => by obtain ⟨i, rfl, hI⟩ := h; exact hs μ i  H hI⟩
theorem foz_n1 {wb : OA} {dc : Nat} {qb : Nat} {Q : Post} {Inv : Nat → Int → AHeap → Prop} {μ : Nat} (μ' : Nat) {i : Int}  {H : AHeap} (hm : μ' < μ) (hI : Inv μ' i H) : loopQ (foz_I1 wb dc qb Inv) μ Q .normal (foz_P1 wb dc qb i) H := ⟨μ', hm, i, rfl, hI⟩
theorem foz_x1_0  (H : AHeap) (K : Value → AHeap → Prop)  {I : Nat → List Value → AHeap → Prop} {μ : Nat} : loopQ I μ (blockQ 0 (seqQ (exL Try.prog E_foz (cr (cr (bodyC Try.f55))) 4 4 []) (retK Try.prog Try.f55 K))) (.exit 0) (ud16 []) H =
 (K (.bool true) H) := by kernel_rfl
theorem foz_x1_ret (t2 : Bool) (H : AHeap) (K : Value → AHeap → Prop)  {I : Nat → List Value → AHeap → Prop} {μ : Nat} : loopQ I μ (blockQ 0 (seqQ (exL Try.prog E_foz (cr (cr (bodyC Try.f55))) 4 4 []) (retK Try.prog Try.f55 K))) .ret (ud2 (.bool t2 :: ud13 [])) H =
 (K (.bool t2) H) := by kernel_rfl
theorem E_foz_ok : ∀ g, FnOk Try.prog g (E_foz g) := FnOk.envOf (by
 intro x hx
 simp only [List.mem_cons, List.not_mem_nil, or_false] at hx
 subst hx; exact fmz_ok)
theorem foz_main (wb : OA) (qb : Nat) (dc : Nat) (H : AHeap) (K : Value → AHeap → Prop) (h : T_foz wb qb dc H fun (r1 : Bool) (H' : AHeap) => K (.bool r1) H') : bodyL Try.prog E_foz Try.f55 [.slice wb qb dc] H K := by
 rw [foz_vc]
 obtain ⟨db, i_list, bd_9, hk⟩ := h
 obtain rfl := i_list.eqn
 have e : (p_foz db) = _ := rfl
 have e := e.trans (p_foz_eq db)
 have g0 := Grow.refl H
 refine foz_L1 _ _ _ (fun (μ : Nat) (i : Int) (H_1 : AHeap) => ∃ (t2 : Bool), H = H_1 ∧ (0 : Int) ≤ i ∧ i ≤ (db.length : Int) ∧ (db.length : Int) - i ≤ (μ : Int) ∧ p_foz db = p_foz_l1 db (μ + 1) t2 i) (Int.toNat ((db.length : Int) - (0 : Int))) _ H ?_ ?_
 ·exact ⟨_, rfl, ω6, ω6, ω2, e⟩
 ·intro μ i  H_1 hI
  obtain ⟨t2, rfl, v_1, v_2, hμ, e⟩ := hI
  rw [foz_r1]
  have e := e.trans (p_foz_l1_s db μ t2 i)
  have l_3 := g0.1
  refine Br.intro (fun c_4 => ?_) (fun c_4 => ?_)
  ·have e := e.trans (cond_t c_4)
   have c_4' := of_decide_eq_true c_4
   obtain ⟨b_5, f_6, q_7⟩ := ((i_list.grow g0)).pos ω0
   refine ⟨by omega, by omega, b_5, f_6, q_7, ?_⟩
   refine ⟨((db).getD (i : Int).toNat 0), (i_list).rd g0 q_7 ω2 _, ?_⟩
   refine T_fmz_i ?_
   refine Br.intro (fun c_8 => ?_) (fun c_8 => ?_)
   ·have e := e.trans (cond_t c_8)
    have c_8n := nf_of_t c_8
    rw [foz_x1_ret]
    rw [e] at hk
    exact hk
   ·have e := e.trans (cond_f c_8)
    have c_8n := nt_of_f c_8
    rw [show IntKind.wrap .i64 (i + 1) = (i + 1) from wrap64 ω2 ω2]
    refine foz_n1 (μ - 1) ω16 ⟨_, rfl, ω1, ω1, ω16, ω12⟩
  ·have e := e.trans (cond_f c_4)
   have c_4' := of_decide_eq_false c_4
   rw [foz_x1_0]
   rw [e] at hk
   exact hk
theorem foz_ok : FnOk Try.prog 55 S_foz := by
 refine FnOk.body mix_ok E_foz_ok Try.func55 rfl ω10 ω10 ?_ ?_ ?_ ?_ ?_
 ·intro args H K K' h hk
  simp only [S_foz] at *
  unfold F_foz at *
  split at hk
  ·obtain ⟨db, i_list, bd_9, k⟩ := hk
   exact ⟨db, i_list, bd_9, h _ _ k⟩
  ·exact hk.elim
 ·intro _ args H K hk
  simp only [S_foz] at *
  unfold F_foz at *
  split at hk
  ·obtain ⟨db, i_list, bd_9, k⟩ := hk
   exact ⟨_, k, fun K' k' => ⟨db, i_list, bd_9, k'⟩⟩
  ·exact hk.elim
 ·intro args H K hk
  simp only [S_foz] at *
  unfold F_foz at *
  split at hk
  ·obtain ⟨db, i_list, bd_9, k⟩ := hk
   exact ⟨_, _, k⟩
  ·exact hk.elim
 ·intro hq; cases hq
 ·have mm := @foz_main
  have ml := fun (args : List Value) (H : AHeap) (K : Value → AHeap → Prop) => bodyL_body (P := Try.prog) (env := E_foz ) (fn := Try.f55) (args := args) (H := H) (K := K) E_foz_ok 
  revert mm ml
  generalize bodyK Try.prog E_foz Try.f55 = Q
  generalize bodyL Try.prog E_foz Try.f55 = QL
  intro mm ml args H K hk
  simp only [S_foz] at *
  unfold F_foz at *
  split at hk
  ·exact ml _ H K (mm _ _ _ H K hk)
  ·exact hk.elim
def p_f10z (x : Nat) : Bool := (bif (p_fmz x) then flt .f32 0 x else false)
def T_f10z (x : Nat) (H : AHeap) (K : Bool → AHeap → Prop) : Prop := K (p_f10z x) H

theorem T_f10z_i {x : Nat} {H : AHeap} {K : Bool → AHeap → Prop} (h : K (p_f10z x) H) : T_f10z x H K := h
/-! f10z: function 56 -/
def E_f10z : Env := envOf [(78, S_fmz)]
def F_f10z : List Value → AHeap → (Value → AHeap → Prop) → Prop
 | [.float .f32 x], H, K => T_f10z x H fun (r1 : Bool) (H' : AHeap) => K (.bool r1) H'
 | _, _, _ => False
def S_f10z : FSpec := { F := F_f10z, quiet := true, tame := false }
theorem f10z_vc (x : Nat) (H : AHeap) (K : Value → AHeap → Prop) : bodyL Try.prog E_f10z Try.f56 [.float .f32 x] H K =
 (T_fmz x H fun (r1 : Bool) (H1 : AHeap) => Br r1 (K (.bool (flt .f32 0 x)) H1) (K (.bool false) H1)) := by kernel_rfl
theorem E_f10z_ok : ∀ g, FnOk Try.prog g (E_f10z g) := FnOk.envOf (by
 intro x hx
 simp only [List.mem_cons, List.not_mem_nil, or_false] at hx
 subst hx; exact fmz_ok)
theorem f10z_main (x : Nat) (H : AHeap) (K : Value → AHeap → Prop) (h : T_f10z x H fun (r1 : Bool) (H' : AHeap) => K (.bool r1) H') : bodyL Try.prog E_f10z Try.f56 [.float .f32 x] H K := by
 rw [f10z_vc]
 simp only [T_fmz]
 unfold T_f10z p_f10z at h
 repeat' (first | exact h | (exfalso; simp_all; done) | (refine ⟨by decide, ?_⟩) | (refine Br.intro (fun hb => ?_) (fun hb => ?_) <;> (try simp only [hb, cond_true, cond_false, Bool.not_true, Bool.not_false] at h)))
theorem f10z_ok : FnOk Try.prog 56 S_f10z := by
 refine FnOk.body mix_ok E_f10z_ok Try.func56 rfl ω10 ω10 ?_ ?_ ?_ ?_ ?_
 ·intro args H K K' h hk
  simp only [S_f10z] at *
  unfold F_f10z at *
  split at hk
  ·have k := hk
   exact h _ _ k
  ·exact hk.elim
 ·intro _ args H K hk
  simp only [S_f10z] at *
  unfold F_f10z at *
  split at hk
  ·have k := hk
   exact ⟨_, k, fun K' k' => k'⟩
  ·exact hk.elim
 ·intro args H K hk
  simp only [S_f10z] at *
  unfold F_f10z at *
  split at hk
  ·have k := hk
   exact ⟨_, _, k⟩
  ·exact hk.elim
 ·intro hq; cases hq
 ·have mm := @f10z_main
  have ml := fun (args : List Value) (H : AHeap) (K : Value → AHeap → Prop) => bodyL_body (P := Try.prog) (env := E_f10z ) (fn := Try.f56) (args := args) (H := H) (K := K) E_f10z_ok 
  revert mm ml
  generalize bodyK Try.prog E_f10z Try.f56 = Q
  generalize bodyL Try.prog E_f10z Try.f56 = QL
  intro mm ml args H K hk
  simp only [S_f10z] at *
  unfold F_f10z at *
  split at hk
  ·exact ml _ H K (mm _ H K hk)
  ·exact hk.elim

def p_fpz (aa : LN) (sp_Scale : Nat) : Bool := (bif decide ((1 : Int) ≤ (aa.length : Int)) then (bif decide (((aa.length : Int) : Int) ≤ 8) then (bif (p_foz aa) then (p_f10z sp_Scale) else false) else false) else false)
def p_fpz_eq := @p_fpz.eq_1
def T_fpz (s : Nat) (H : AHeap) (K : Bool → AHeap → Prop) : Prop := ∃ (sa : OA), ∃ (gb : Nat), ∃ (jb : Nat), ∃ (sp_Scale : Nat), ∃ (aa : LN), rdN H s 0 2 = some [.slice sa gb jb, .float .f32 sp_Scale] ∧ IsL fF H sa gb aa ∧ aa.length < 1073741824 ∧ K (p_fpz aa sp_Scale) H
theorem T_fpz_i {s : Nat} {H : AHeap} {K : Bool → AHeap → Prop} (h : ∃ (sa : OA), ∃ (gb : Nat), ∃ (jb : Nat), ∃ (sp_Scale : Nat), ∃ (aa : LN), rdN H s 0 2 = some [.slice sa gb jb, .float .f32 sp_Scale] ∧ IsL fF H sa gb aa ∧ aa.length < 1073741824 ∧ K (p_fpz aa sp_Scale) H) : T_fpz s H K := h

/-! fpz: function 39 -/
def E_fpz : Env := envOf [(55, S_foz), (56, S_f10z)]
def F_fpz : List Value → AHeap → (Value → AHeap → Prop) → Prop
 | [.pointer (some ⟨s, 0, none⟩)], H, K => T_fpz s H fun (r1 : Bool) (H' : AHeap) => K (.bool r1) H'
 | _, _, _ => False
def S_fpz : FSpec := { F := F_fpz, quiet := true, tame := false }
theorem fpz_vc (s : Nat) (H : AHeap) (K : Value → AHeap → Prop) : bodyL Try.prog E_fpz Try.f39 [.pointer (some ⟨s, 0, none⟩)] H K =
 (∃ ze : OA, ∃ ue : Nat, ∃ af : Nat,  rdC H s 0 = some (.slice ze ue af) ∧ Br (decide ((1 : Int) ≤ (ue : Int))) (∃ ah : OA, ∃ yg : Nat, ∃ bh : Nat,  rdC H s 0 = some (.slice ah yg bh) ∧ Br (decide (((yg : Int) : Int) ≤ 8)) (∃ tg : OA, ∃ og : Nat, ∃ ug : Nat,  rdC H s 0 = some (.slice tg og ug) ∧ T_foz tg og ug H fun (r1 : Bool) (H1 : AHeap) => Br r1 (∃ x4 : Nat,  rdC H1 s 1 = some (.float .f32 x4) ∧ T_f10z x4 H1 fun (r2 : Bool) (H2 : AHeap) => K (.bool r2) H2) (K (.bool false) H1)) (K (.bool false) H)) (K (.bool false) H)) := by kernel_rfl
theorem E_fpz_ok : ∀ g, FnOk Try.prog g (E_fpz g) := FnOk.envOf (by
 intro x hx
 simp only [List.mem_cons, List.not_mem_nil, or_false] at hx
 rcases hx with rfl | rfl
 ·exact foz_ok
 ·exact f10z_ok)
theorem fpz_main (s : Nat) (H : AHeap) (K : Value → AHeap → Prop) (h : T_fpz s H fun (r1 : Bool) (H' : AHeap) => K (.bool r1) H') : bodyL Try.prog E_fpz Try.f39 [.pointer (some ⟨s, 0, none⟩)] H K := by
 rw [fpz_vc]
 obtain ⟨sa, gb, jb, sp_Scale, aa, i_s, i_sp_Weights, bd_4, hk⟩ := h
 obtain rfl := i_sp_Weights.eqn
 have e : (p_fpz aa sp_Scale) = _ := rfl
 have e := e.trans (p_fpz_eq aa sp_Scale)
 have g0 := Grow.refl H
 refine ⟨sa, aa.length, jb, (rdN_at (rdN_grow g0 i_s) 0 (Nat.le_of_ble_eq_true rfl)).trans rfl, ?_⟩
 refine Br.intro (fun c_1 => ?_) (fun c_1 => ?_)
 ·have e := e.trans (cond_t c_1)
  have c_1' := of_decide_eq_true c_1
  refine ⟨sa, aa.length, jb, (rdN_at (rdN_grow g0 i_s) 0 (Nat.le_of_ble_eq_true rfl)).trans rfl, ?_⟩
  refine Br.intro (fun c_2 => ?_) (fun c_2 => ?_)
  ·have e := e.trans (cond_t c_2)
   have c_2' := of_decide_eq_true c_2
   refine ⟨sa, aa.length, jb, (rdN_at (rdN_grow g0 i_s) 0 (Nat.le_of_ble_eq_true rfl)).trans rfl, ?_⟩
   refine T_foz_i ⟨_, (i_sp_Weights.grow g0), ω0, ?_⟩
   refine Br.intro (fun c_3 => ?_) (fun c_3 => ?_)
   ·have e := e.trans (cond_t c_3)
    refine ⟨sp_Scale, (rdN_at (rdN_grow g0 i_s) 1 (Nat.le_of_ble_eq_true rfl)).trans rfl, ?_⟩
    refine T_f10z_i ?_
    rw [e] at hk
    exact hk
   ·have e := e.trans (cond_f c_3)
    rw [e] at hk
    exact hk
  ·have e := e.trans (cond_f c_2)
   have c_2' := of_decide_eq_false c_2
   rw [e] at hk
   exact hk
 ·have e := e.trans (cond_f c_1)
  have c_1' := of_decide_eq_false c_1
  rw [e] at hk
  exact hk
theorem fpz_ok : FnOk Try.prog 39 S_fpz := by
 refine FnOk.body mix_ok E_fpz_ok Try.func39 rfl ω10 ω10 ?_ ?_ ?_ ?_ ?_
 ·intro args H K K' h hk
  simp only [S_fpz] at *
  unfold F_fpz at *
  split at hk
  ·obtain ⟨sa, gb, jb, sp_Scale, aa, i_s, i_sp_Weights, bd_4, k⟩ := hk
   exact ⟨sa, gb, jb, sp_Scale, aa, i_s, i_sp_Weights, bd_4, h _ _ k⟩
  ·exact hk.elim
 ·intro _ args H K hk
  simp only [S_fpz] at *
  unfold F_fpz at *
  split at hk
  ·obtain ⟨sa, gb, jb, sp_Scale, aa, i_s, i_sp_Weights, bd_4, k⟩ := hk
   exact ⟨_, k, fun K' k' => ⟨sa, gb, jb, sp_Scale, aa, i_s, i_sp_Weights, bd_4, k'⟩⟩
  ·exact hk.elim
 ·intro args H K hk
  simp only [S_fpz] at *
  unfold F_fpz at *
  split at hk
  ·obtain ⟨sa, gb, jb, sp_Scale, aa, i_s, i_sp_Weights, bd_4, k⟩ := hk
   exact ⟨_, _, k⟩
  ·exact hk.elim
 ·intro hq; cases hq
 ·have mm := @fpz_main
  have ml := fun (args : List Value) (H : AHeap) (K : Value → AHeap → Prop) => bodyL_body (P := Try.prog) (env := E_fpz ) (fn := Try.f39) (args := args) (H := H) (K := K) E_fpz_ok 
  revert mm ml
  generalize bodyK Try.prog E_fpz Try.f39 = Q
  generalize bodyL Try.prog E_fpz Try.f39 = QL
  intro mm ml args H K hk
  simp only [S_fpz] at *
  unfold F_fpz at *
  split at hk
  ·exact ml _ H K (mm _ H K hk)
  ·exact hk.elim
def p_f1bz (n : Int) (low : Int) (high : Int) : Bool := (bif decide ((low : Int) ≤ n) then decide ((n : Int) ≤ high) else false)
def T_f1bz (n : Int) (low : Int) (high : Int) (H : AHeap) (K : Bool → AHeap → Prop) : Prop := K (p_f1bz n low high) H
theorem f1bz_t {n a b : Int} (h : p_f1bz n a b = true) : a ≤ n ∧ n ≤ b := by
 unfold p_f1bz at h
 by_cases h1 : a ≤ n
 ·rw [decide_eq_true h1, cond_true] at h; exact ⟨h1, of_decide_eq_true h⟩
 ·rw [decide_eq_false h1] at h; cases h
/-! f1bz: function 23 -/
def E_f1bz : Env := envOf []
def F_f1bz : List Value → AHeap → (Value → AHeap → Prop) → Prop
 | [.int .i64 n, .int .i64 low, .int .i64 high], H, K => T_f1bz n low high H fun (r1 : Bool) (H' : AHeap) => K (.bool r1) H'
 | _, _, _ => False
def S_f1bz : FSpec := { F := F_f1bz, quiet := true, tame := false }
theorem f1bz_vc (n : Int) (low : Int) (high : Int) (H : AHeap) (K : Value → AHeap → Prop) : bodyL Try.prog E_f1bz Try.f23 [.int .i64 n, .int .i64 low, .int .i64 high] H K =
 (Br (decide ((low : Int) ≤ n)) (K (.bool (decide ((n : Int) ≤ high))) H) (K (.bool false) H)) := by kernel_rfl
theorem E_f1bz_ok : ∀ g, FnOk Try.prog g (E_f1bz g) := FnOk.envOf (by
 intro x hx; cases hx)
theorem f1bz_main (n : Int) (low : Int) (high : Int) (H : AHeap) (K : Value → AHeap → Prop) (h : T_f1bz n low high H fun (r1 : Bool) (H' : AHeap) => K (.bool r1) H') : bodyL Try.prog E_f1bz Try.f23 [.int .i64 n, .int .i64 low, .int .i64 high] H K := by
 rw [f1bz_vc]
 unfold T_f1bz p_f1bz at h
 repeat' (first | exact h | (exfalso; simp_all; done) | (refine ⟨by decide, ?_⟩) | (refine Br.intro (fun hb => ?_) (fun hb => ?_) <;> (try simp only [hb, cond_true, cond_false, Bool.not_true, Bool.not_false] at h)))
theorem f1bz_ok : FnOk Try.prog 23 S_f1bz := by
 refine FnOk.body mix_ok E_f1bz_ok Try.func23 rfl ω10 ω10 ?_ ?_ ?_ ?_ ?_
 ·intro args H K K' h hk
  simp only [S_f1bz] at *
  unfold F_f1bz at *
  split at hk
  ·have k := hk
   exact h _ _ k
  ·exact hk.elim
 ·intro _ args H K hk
  simp only [S_f1bz] at *
  unfold F_f1bz at *
  split at hk
  ·have k := hk
   exact ⟨_, k, fun K' k' => k'⟩
  ·exact hk.elim
 ·intro args H K hk
  simp only [S_f1bz] at *
  unfold F_f1bz at *
  split at hk
  ·have k := hk
   exact ⟨_, _, k⟩
  ·exact hk.elim
 ·intro hq; cases hq
 ·have mm := @f1bz_main
  have ml := fun (args : List Value) (H : AHeap) (K : Value → AHeap → Prop) => bodyL_body (P := Try.prog) (env := E_f1bz ) (fn := Try.f23) (args := args) (H := H) (K := K) E_f1bz_ok 
  revert mm ml
  generalize bodyK Try.prog E_f1bz Try.f23 = Q
  generalize bodyL Try.prog E_f1bz Try.f23 = QL
  intro mm ml args H K hk
  simp only [S_f1bz] at *
  unfold F_f1bz at *
  split at hk
  ·exact ml _ H K (mm _ _ _ H K hk)
  ·exact hk.elim
def p_f12z (wide : Int) (high : Int) : Bool := (bif (p_f1bz wide 1 16) then (p_f1bz high 1 16) else false)
def p_f12z_eq := @p_f12z.eq_1
def T_f12z (wide : Int) (high : Int) (H : AHeap) (K : Bool → AHeap → Prop) : Prop := K (p_f12z wide high) H

theorem T_f12z_i {wide : Int} {high : Int} {H : AHeap} {K : Bool → AHeap → Prop} (h : K (p_f12z wide high) H) : T_f12z wide high H K := h
/-! f12z: function 57 -/
def E_f12z : Env := envOf [(23, S_f1bz)]
def F_f12z : List Value → AHeap → (Value → AHeap → Prop) → Prop
 | [.int .i64 wide, .int .i64 high], H, K => T_f12z wide high H fun (r1 : Bool) (H' : AHeap) => K (.bool r1) H'
 | _, _, _ => False
def S_f12z : FSpec := { F := F_f12z, quiet := true, tame := false }
theorem f12z_vc (wide : Int) (high : Int) (H : AHeap) (K : Value → AHeap → Prop) : bodyL Try.prog E_f12z Try.f57 [.int .i64 wide, .int .i64 high] H K =
 (T_f1bz wide 1 16 H fun (r1 : Bool) (H1 : AHeap) => Br r1 (T_f1bz high 1 16 H1 fun (r2 : Bool) (H2 : AHeap) => K (.bool r2) H2) (K (.bool false) H1)) := by kernel_rfl
theorem E_f12z_ok : ∀ g, FnOk Try.prog g (E_f12z g) := FnOk.envOf (by
 intro x hx
 simp only [List.mem_cons, List.not_mem_nil, or_false] at hx
 subst hx; exact f1bz_ok)
theorem f12z_main (wide : Int) (high : Int) (H : AHeap) (K : Value → AHeap → Prop) (h : T_f12z wide high H fun (r1 : Bool) (H' : AHeap) => K (.bool r1) H') : bodyL Try.prog E_f12z Try.f57 [.int .i64 wide, .int .i64 high] H K := by
 rw [f12z_vc]
 simp only [T_f1bz]
 unfold T_f12z p_f12z at h
 repeat' (first | exact h | (exfalso; simp_all; done) | (refine ⟨by decide, ?_⟩) | (refine Br.intro (fun hb => ?_) (fun hb => ?_) <;> (try simp only [hb, cond_true, cond_false, Bool.not_true, Bool.not_false] at h)))
theorem f12z_ok : FnOk Try.prog 57 S_f12z := by
 refine FnOk.body mix_ok E_f12z_ok Try.func57 rfl ω10 ω10 ?_ ?_ ?_ ?_ ?_
 ·intro args H K K' h hk
  simp only [S_f12z] at *
  unfold F_f12z at *
  split at hk
  ·have k := hk
   exact h _ _ k
  ·exact hk.elim
 ·intro _ args H K hk
  simp only [S_f12z] at *
  unfold F_f12z at *
  split at hk
  ·have k := hk
   exact ⟨_, k, fun K' k' => k'⟩
  ·exact hk.elim
 ·intro args H K hk
  simp only [S_f12z] at *
  unfold F_f12z at *
  split at hk
  ·have k := hk
   exact ⟨_, _, k⟩
  ·exact hk.elim
 ·intro hq; cases hq
 ·have mm := @f12z_main
  have ml := fun (args : List Value) (H : AHeap) (K : Value → AHeap → Prop) => bodyL_body (P := Try.prog) (env := E_f12z ) (fn := Try.f57) (args := args) (H := H) (K := K) E_f12z_ok 
  revert mm ml
  generalize bodyK Try.prog E_f12z Try.f57 = Q
  generalize bodyL Try.prog E_f12z Try.f57 = QL
  intro mm ml args H K hk
  simp only [S_f12z] at *
  unfold F_f12z at *
  split at hk
  ·exact ml _ H K (mm _ _ H K hk)
  ·exact hk.elim

def p_f1cz (pp_Wide : Int) (pp_High : Int) (ja : LN) : Bool := ((bif (p_f12z pp_Wide pp_High) then (bif ((ja.length : Int) : Int) == IntKind.wrap .i64 (pp_Wide * pp_High) then (p_foz ja) else false) else false))
def p_f1cz_eq := @p_f1cz.eq_1
def T_f1cz (p : Nat) (H : AHeap) (K : Bool → AHeap → Prop) : Prop := ∃ (pp_Wide : Int), ∃ (pp_High : Int), ∃ (vb : OA), ∃ (zb : Nat), ∃ (bc : Nat), ∃ (ja : LN), rdN H p 0 3 = some [.int .i64 pp_Wide, .int .i64 pp_High, .slice vb zb bc] ∧ IsL fF H vb zb ja ∧ ja.length < 1073741824 ∧ K (p_f1cz pp_Wide pp_High ja) H
theorem T_f1cz_i {p : Nat} {H : AHeap} {K : Bool → AHeap → Prop} (h : ∃ (pp_Wide : Int), ∃ (pp_High : Int), ∃ (vb : OA), ∃ (zb : Nat), ∃ (bc : Nat), ∃ (ja : LN), rdN H p 0 3 = some [.int .i64 pp_Wide, .int .i64 pp_High, .slice vb zb bc] ∧ IsL fF H vb zb ja ∧ ja.length < 1073741824 ∧ K (p_f1cz pp_Wide pp_High ja) H) : T_f1cz p H K := h
theorem ω22 {P : Prop} (h : P := by decide) : P := h
theorem f1cz_t {w h : Int} {l : LN} (hh : p_f1cz w h l = true) : 1 ≤ w ∧ w ≤ 16 ∧ 1 ≤ h ∧ h ≤ 16 ∧ (l.length : Int) = w * h ∧ (l.length : Int) ≤ 256 ∧ 1 ≤ (l.length : Int) := by
 rw [p_f1cz_eq, p_f12z_eq] at hh
 simp only [Bool.cond_false_right, Bool.and_eq_true] at hh
 obtain ⟨⟨a, b⟩, c, -⟩ := hh
 have a := f1bz_t a
 have b := f1bz_t b
 have h1 : w * h ≤ 16 * 16 := Int.mul_le_mul ω2 ω2 ω2 ω22
 have h2 : 1 * 1 ≤ w * h := Int.mul_le_mul ω2 ω2 ω2 ω2
 have c := eq_of_beq c
 rw [wrap64 ω2 ω2] at c
 exact ⟨a.1, a.2, b.1, b.2, c, by omega, by omega⟩
/-! f1cz: function 40 -/
def E_f1cz : Env := envOf [(57, S_f12z), (55, S_foz)]
def F_f1cz : List Value → AHeap → (Value → AHeap → Prop) → Prop
 | [.pointer (some ⟨p, 0, none⟩)], H, K => T_f1cz p H fun (r1 : Bool) (H' : AHeap) => K (.bool r1) H'
 | _, _, _ => False
def S_f1cz : FSpec := { F := F_f1cz, quiet := true, tame := false }
theorem f1cz_vc (p : Nat) (H : AHeap) (K : Value → AHeap → Prop) : bodyL Try.prog E_f1cz Try.f40 [.pointer (some ⟨p, 0, none⟩)] H K =
 (∃ x1 : Int,  rdC H p 0 = some (.int .i64 x1) ∧ ∃ x2 : Int,  rdC H p 1 = some (.int .i64 x2) ∧ T_f12z x1 x2 H fun (r1 : Bool) (H1 : AHeap) => Br r1 (∃ tg : OA, ∃ og : Nat, ∃ ug : Nat,  rdC H1 p 2 = some (.slice tg og ug) ∧ ∃ x4 : Int,  rdC H1 p 0 = some (.int .i64 x4) ∧ ∃ x5 : Int,  rdC H1 p 1 = some (.int .i64 x5) ∧ Br (((og : Int) : Int) == IntKind.wrap .i64 (x4 * x5)) (∃ gf : OA, ∃ ff : Nat, ∃ jf : Nat,  rdC H1 p 2 = some (.slice gf ff jf) ∧ T_foz gf ff jf H1 fun (r2 : Bool) (H2 : AHeap) => K (.bool r2) H2) (K (.bool false) H1)) (K (.bool false) H1)) := by kernel_rfl
theorem E_f1cz_ok : ∀ g, FnOk Try.prog g (E_f1cz g) := FnOk.envOf (by
 intro x hx
 simp only [List.mem_cons, List.not_mem_nil, or_false] at hx
 rcases hx with rfl | rfl
 ·exact f12z_ok
 ·exact foz_ok)
theorem f1cz_main (p : Nat) (H : AHeap) (K : Value → AHeap → Prop) (h : T_f1cz p H fun (r1 : Bool) (H' : AHeap) => K (.bool r1) H') : bodyL Try.prog E_f1cz Try.f40 [.pointer (some ⟨p, 0, none⟩)] H K := by
 rw [f1cz_vc]
 obtain ⟨pp_Wide, pp_High, vb, zb, bc, ja, i_p, i_pp_Lights, bd_3, hk⟩ := h
 obtain rfl := i_pp_Lights.eqn
 have e : (p_f1cz pp_Wide pp_High ja) = _ := rfl
 have e := e.trans (p_f1cz_eq pp_Wide pp_High ja)
 have g0 := Grow.refl H
 refine ⟨pp_Wide, (rdN_at (rdN_grow g0 i_p) 0 (Nat.le_of_ble_eq_true rfl)).trans rfl, ?_⟩
 refine ⟨pp_High, (rdN_at (rdN_grow g0 i_p) 1 (Nat.le_of_ble_eq_true rfl)).trans rfl, ?_⟩
 refine T_f12z_i ?_
 refine Br.intro (fun c_1 => ?_) (fun c_1 => ?_)
 ·have e := e.trans (cond_t c_1)
  refine ⟨vb, ja.length, bc, (rdN_at (rdN_grow g0 i_p) 2 (Nat.le_of_ble_eq_true rfl)).trans rfl, ?_⟩
  refine ⟨pp_Wide, (rdN_at (rdN_grow g0 i_p) 0 (Nat.le_of_ble_eq_true rfl)).trans rfl, ?_⟩
  refine ⟨pp_High, (rdN_at (rdN_grow g0 i_p) 1 (Nat.le_of_ble_eq_true rfl)).trans rfl, ?_⟩
  refine Br.intro (fun c_2 => ?_) (fun c_2 => ?_)
  ·have e := e.trans (cond_t c_2)
   have c_2' := ieq_t c_2
   refine ⟨vb, ja.length, bc, (rdN_at (rdN_grow g0 i_p) 2 (Nat.le_of_ble_eq_true rfl)).trans rfl, ?_⟩
   refine T_foz_i ⟨_, (i_pp_Lights.grow g0), ω0, ?_⟩
   rw [e] at hk
   exact hk
  ·have e := e.trans (cond_f c_2)
   have c_2' := ieq_f c_2
   rw [e] at hk
   exact hk
 ·have e := e.trans (cond_f c_1)
  rw [e] at hk
  exact hk
theorem f1cz_ok : FnOk Try.prog 40 S_f1cz := by
 refine FnOk.body mix_ok E_f1cz_ok Try.func40 rfl ω10 ω10 ?_ ?_ ?_ ?_ ?_
 ·intro args H K K' h hk
  simp only [S_f1cz] at *
  unfold F_f1cz at *
  split at hk
  ·obtain ⟨pp_Wide, pp_High, vb, zb, bc, ja, i_p, i_pp_Lights, bd_3, k⟩ := hk
   exact ⟨pp_Wide, pp_High, vb, zb, bc, ja, i_p, i_pp_Lights, bd_3, h _ _ k⟩
  ·exact hk.elim
 ·intro _ args H K hk
  simp only [S_f1cz] at *
  unfold F_f1cz at *
  split at hk
  ·obtain ⟨pp_Wide, pp_High, vb, zb, bc, ja, i_p, i_pp_Lights, bd_3, k⟩ := hk
   exact ⟨_, k, fun K' k' => ⟨pp_Wide, pp_High, vb, zb, bc, ja, i_p, i_pp_Lights, bd_3, k'⟩⟩
  ·exact hk.elim
 ·intro args H K hk
  simp only [S_f1cz] at *
  unfold F_f1cz at *
  split at hk
  ·obtain ⟨pp_Wide, pp_High, vb, zb, bc, ja, i_p, i_pp_Lights, bd_3, k⟩ := hk
   exact ⟨_, _, k⟩
  ·exact hk.elim
 ·intro hq; cases hq
 ·have mm := @f1cz_main
  have ml := fun (args : List Value) (H : AHeap) (K : Value → AHeap → Prop) => bodyL_body (P := Try.prog) (env := E_f1cz ) (fn := Try.f40) (args := args) (H := H) (K := K) E_f1cz_ok 
  revert mm ml
  generalize bodyK Try.prog E_f1cz Try.f40 = Q
  generalize bodyL Try.prog E_f1cz Try.f40 = QL
  intro mm ml args H K hk
  simp only [S_f1cz] at *
  unfold F_f1cz at *
  split at hk
  ·exact ml _ H K (mm _ H K hk)
  ·exact hk.elim

def p_f19z (aa : LN) (sp_Scale : Nat) (pp_Wide : Int) (pp_High : Int) (ja : LN) : Bool := (bif (p_fpz aa sp_Scale) then (p_f1cz pp_Wide pp_High ja) else false)
def p_f19z_eq := @p_f19z.eq_1
def T_f19z (s : Nat) (p : Nat) (H : AHeap) (K : Bool → AHeap → Prop) : Prop := ∃ (sa : OA), ∃ (gb : Nat), ∃ (jb : Nat), ∃ (sp_Scale : Nat), ∃ (pp_Wide : Int), ∃ (pp_High : Int), ∃ (vb : OA), ∃ (zb : Nat), ∃ (bc : Nat), ∃ (aa : LN), ∃ (ja : LN), rdN H s 0 2 = some [.slice sa gb jb, .float .f32 sp_Scale] ∧ rdN H p 0 3 = some [.int .i64 pp_Wide, .int .i64 pp_High, .slice vb zb bc] ∧ IsL fF H sa gb aa ∧ IsL fF H vb zb ja ∧ aa.length < 1073741824 ∧ ja.length < 1073741824 ∧ K (p_f19z aa sp_Scale pp_Wide pp_High ja) H
theorem T_f19z_i {s : Nat} {p : Nat} {H : AHeap} {K : Bool → AHeap → Prop} (h : ∃ (sa : OA), ∃ (gb : Nat), ∃ (jb : Nat), ∃ (sp_Scale : Nat), ∃ (pp_Wide : Int), ∃ (pp_High : Int), ∃ (vb : OA), ∃ (zb : Nat), ∃ (bc : Nat), ∃ (aa : LN), ∃ (ja : LN), rdN H s 0 2 = some [.slice sa gb jb, .float .f32 sp_Scale] ∧ rdN H p 0 3 = some [.int .i64 pp_Wide, .int .i64 pp_High, .slice vb zb bc] ∧ IsL fF H sa gb aa ∧ IsL fF H vb zb ja ∧ aa.length < 1073741824 ∧ ja.length < 1073741824 ∧ K (p_f19z aa sp_Scale pp_Wide pp_High ja) H) : T_f19z s p H K := h
theorem f19z_t {ws : LN} {sc : Nat} {w h : Int} {l : LN} (hh : p_f19z ws sc w h l = true) : 1 ≤ w ∧ w ≤ 16 ∧ 1 ≤ h ∧ h ≤ 16 ∧ (l.length : Int) = w * h ∧ (l.length : Int) ≤ 256 ∧ 1 ≤ (l.length : Int) := by
 rw [p_f19z_eq] at hh
 cases h1 : p_fpz ws sc with
 | false => rw [h1] at hh; cases hh
 | true => rw [h1] at hh; exact f1cz_t hh
/-! f19z: function 22 -/
def E_f19z : Env := envOf [(39, S_fpz), (40, S_f1cz)]
def F_f19z : List Value → AHeap → (Value → AHeap → Prop) → Prop
 | [.pointer (some ⟨s, 0, none⟩), .pointer (some ⟨p, 0, none⟩)], H, K => T_f19z s p H fun (r1 : Bool) (H' : AHeap) => K (.bool r1) H'
 | _, _, _ => False
def S_f19z : FSpec := { F := F_f19z, quiet := true, tame := false }
theorem f19z_vc (s : Nat) (p : Nat) (H : AHeap) (K : Value → AHeap → Prop) : bodyL Try.prog E_f19z Try.f22 [.pointer (some ⟨s, 0, none⟩), .pointer (some ⟨p, 0, none⟩)] H K =
 (T_fpz s H fun (r1 : Bool) (H1 : AHeap) => Br r1 (T_f1cz p H1 fun (r2 : Bool) (H2 : AHeap) => K (.bool r2) H2) (K (.bool false) H1)) := by kernel_rfl
theorem E_f19z_ok : ∀ g, FnOk Try.prog g (E_f19z g) := FnOk.envOf (by
 intro x hx
 simp only [List.mem_cons, List.not_mem_nil, or_false] at hx
 rcases hx with rfl | rfl
 ·exact fpz_ok
 ·exact f1cz_ok)
theorem f19z_main (s : Nat) (p : Nat) (H : AHeap) (K : Value → AHeap → Prop) (h : T_f19z s p H fun (r1 : Bool) (H' : AHeap) => K (.bool r1) H') : bodyL Try.prog E_f19z Try.f22 [.pointer (some ⟨s, 0, none⟩), .pointer (some ⟨p, 0, none⟩)] H K := by
 rw [f19z_vc]
 obtain ⟨sa, gb, jb, sp_Scale, pp_Wide, pp_High, vb, zb, bc, aa, ja, i_s, i_p, i_sp_Weights, i_pp_Lights, bd_2, bd_3, hk⟩ := h
 obtain rfl := i_sp_Weights.eqn
 obtain rfl := i_pp_Lights.eqn
 have e : (p_f19z aa sp_Scale pp_Wide pp_High ja) = _ := rfl
 have e := e.trans (p_f19z_eq aa sp_Scale pp_Wide pp_High ja)
 have g0 := Grow.refl H
 refine T_fpz_i ⟨sa, aa.length, jb, sp_Scale, _, (rdN_grow g0 i_s), (i_sp_Weights.grow g0), ω0, ?_⟩
 refine Br.intro (fun c_1 => ?_) (fun c_1 => ?_)
 ·have e := e.trans (cond_t c_1)
  refine T_f1cz_i ⟨pp_Wide, pp_High, vb, ja.length, bc, _, (rdN_grow g0 i_p), (i_pp_Lights.grow g0), ω0, ?_⟩
  rw [e] at hk
  exact hk
 ·have e := e.trans (cond_f c_1)
  rw [e] at hk
  exact hk
theorem f19z_ok : FnOk Try.prog 22 S_f19z := by
 refine FnOk.body mix_ok E_f19z_ok Try.func22 rfl ω10 ω10 ?_ ?_ ?_ ?_ ?_
 ·intro args H K K' h hk
  simp only [S_f19z] at *
  unfold F_f19z at *
  split at hk
  ·obtain ⟨sa, gb, jb, sp_Scale, pp_Wide, pp_High, vb, zb, bc, aa, ja, i_s, i_p, i_sp_Weights, i_pp_Lights, bd_2, bd_3, k⟩ := hk
   exact ⟨sa, gb, jb, sp_Scale, pp_Wide, pp_High, vb, zb, bc, aa, ja, i_s, i_p, i_sp_Weights, i_pp_Lights, bd_2, bd_3, h _ _ k⟩
  ·exact hk.elim
 ·intro _ args H K hk
  simp only [S_f19z] at *
  unfold F_f19z at *
  split at hk
  ·obtain ⟨sa, gb, jb, sp_Scale, pp_Wide, pp_High, vb, zb, bc, aa, ja, i_s, i_p, i_sp_Weights, i_pp_Lights, bd_2, bd_3, k⟩ := hk
   exact ⟨_, k, fun K' k' => ⟨sa, gb, jb, sp_Scale, pp_Wide, pp_High, vb, zb, bc, aa, ja, i_s, i_p, i_sp_Weights, i_pp_Lights, bd_2, bd_3, k'⟩⟩
  ·exact hk.elim
 ·intro args H K hk
  simp only [S_f19z] at *
  unfold F_f19z at *
  split at hk
  ·obtain ⟨sa, gb, jb, sp_Scale, pp_Wide, pp_High, vb, zb, bc, aa, ja, i_s, i_p, i_sp_Weights, i_pp_Lights, bd_2, bd_3, k⟩ := hk
   exact ⟨_, _, k⟩
  ·exact hk.elim
 ·intro hq; cases hq
 ·have mm := @f19z_main
  have ml := fun (args : List Value) (H : AHeap) (K : Value → AHeap → Prop) => bodyL_body (P := Try.prog) (env := E_f19z ) (fn := Try.f22) (args := args) (H := H) (K := K) E_f19z_ok 
  revert mm ml
  generalize bodyK Try.prog E_f19z Try.f22 = Q
  generalize bodyL Try.prog E_f19z Try.f22 = QL
  intro mm ml args H K hk
  simp only [S_f19z] at *
  unfold F_f19z at *
  split at hk
  ·exact ml _ H K (mm _ _ H K hk)
  ·exact hk.elim

def p_fnz (db : LN) (i : Int) : Nat := ((db).getD ((if ((if (i : Int) < ((db.length : Int) - 1) then i else ((db.length : Int) - 1)) : Int) > 0 then (if (i : Int) < ((db.length : Int) - 1) then i else ((db.length : Int) - 1)) else 0) : Int).toNat 0)
def p_fnz_eq := @p_fnz.eq_1
def T_fnz (wb : OA) (qb : Nat) (dc : Nat) (i : Int) (H : AHeap) (K : Nat → AHeap → Prop) : Prop := ∃ (db : LN), IsL fF H wb qb db ∧ db.length < 1073741824 ∧ 1 ≤ db.length ∧ K (p_fnz db i) H
theorem T_fnz_i {wb : OA} {qb : Nat} {dc : Nat} {i : Int} {H : AHeap} {K : Nat → AHeap → Prop} (h : ∃ (db : LN), IsL fF H wb qb db ∧ db.length < 1073741824 ∧ 1 ≤ db.length ∧ K (p_fnz db i) H) : T_fnz wb qb dc i H K := h

/-! fnz: function 79 -/
def E_fnz : Env := envOf []
def F_fnz : List Value → AHeap → (Value → AHeap → Prop) → Prop
 | [.slice wb qb dc, .int .i64 i], H, K => T_fnz wb qb dc i H fun (r1 : Nat) (H' : AHeap) => K (.float .f32 r1) H'
 | _, _, _ => False
def S_fnz : FSpec := { F := F_fnz, quiet := true, tame := false }
theorem fnz_vc (wb : OA) (qb : Nat) (dc : Nat) (i : Int) (H : AHeap) (K : Value → AHeap → Prop) : bodyL Try.prog E_fnz Try.f79 [.slice wb qb dc, .int .i64 i] H K =
 ((0 : Int) ≤ (if ((if (i : Int) < IntKind.wrap .i64 ((qb : Int) - 1) then i else IntKind.wrap .i64 ((qb : Int) - 1)) : Int) > 0 then (if (i : Int) < IntKind.wrap .i64 ((qb : Int) - 1) then i else IntKind.wrap .i64 ((qb : Int) - 1)) else 0) ∧ (if ((if (i : Int) < IntKind.wrap .i64 ((qb : Int) - 1) then i else IntKind.wrap .i64 ((qb : Int) - 1)) : Int) > 0 then (if (i : Int) < IntKind.wrap .i64 ((qb : Int) - 1) then i else IntKind.wrap .i64 ((qb : Int) - 1)) else 0) < (qb : Int) ∧ ∃ b1 f1, (wb : OA) = some ⟨b1, f1, none⟩ ∧ ∃ x1 : Nat,  rdC H b1 (f1 + ((if ((if (i : Int) < IntKind.wrap .i64 ((qb : Int) - 1) then i else IntKind.wrap .i64 ((qb : Int) - 1)) : Int) > 0 then (if (i : Int) < IntKind.wrap .i64 ((qb : Int) - 1) then i else IntKind.wrap .i64 ((qb : Int) - 1)) else 0) : Int).toNat * 1) = some (.float .f32 x1) ∧ K (.float .f32 x1) H) := by kernel_rfl
theorem E_fnz_ok : ∀ g, FnOk Try.prog g (E_fnz g) := FnOk.envOf (by
 intro x hx; cases hx)
theorem fnz_main (wb : OA) (qb : Nat) (dc : Nat) (i : Int) (H : AHeap) (K : Value → AHeap → Prop) (h : T_fnz wb qb dc i H fun (r1 : Nat) (H' : AHeap) => K (.float .f32 r1) H') : bodyL Try.prog E_fnz Try.f79 [.slice wb qb dc, .int .i64 i] H K := by
 rw [fnz_vc]
 obtain ⟨db, i_list, bd_4, pr0, hk⟩ := h
 obtain rfl := i_list.eqn
 have e : (p_fnz db i) = _ := rfl
 have e := e.trans (p_fnz_eq db i)
 have g0 := Grow.refl H
 rw [show IntKind.wrap .i64 ((db.length : Int) - 1) = ((db.length : Int) - 1) from wrap64 ω2 ω2]
 obtain ⟨b_1, f_2, q_3⟩ := ((i_list.grow g0)).pos ω0
 refine ⟨by omega, by omega, b_1, f_2, q_3, ?_⟩
 refine ⟨((db).getD ((if ((if (i : Int) < ((db.length : Int) - 1) then i else ((db.length : Int) - 1)) : Int) > 0 then (if (i : Int) < ((db.length : Int) - 1) then i else ((db.length : Int) - 1)) else 0) : Int).toNat 0), (i_list).rd g0 q_3 ω2 _, ?_⟩
 rw [e] at hk
 exact hk
theorem fnz_ok : FnOk Try.prog 79 S_fnz := by
 refine FnOk.body mix_ok E_fnz_ok Try.func79 rfl ω10 ω10 ?_ ?_ ?_ ?_ ?_
 ·intro args H K K' h hk
  simp only [S_fnz] at *
  unfold F_fnz at *
  split at hk
  ·obtain ⟨db, i_list, bd_4, pr0, k⟩ := hk
   exact ⟨db, i_list, bd_4, pr0, h _ _ k⟩
  ·exact hk.elim
 ·intro _ args H K hk
  simp only [S_fnz] at *
  unfold F_fnz at *
  split at hk
  ·obtain ⟨db, i_list, bd_4, pr0, k⟩ := hk
   exact ⟨_, k, fun K' k' => ⟨db, i_list, bd_4, pr0, k'⟩⟩
  ·exact hk.elim
 ·intro args H K hk
  simp only [S_fnz] at *
  unfold F_fnz at *
  split at hk
  ·obtain ⟨db, i_list, bd_4, pr0, k⟩ := hk
   exact ⟨_, _, k⟩
  ·exact hk.elim
 ·intro hq; cases hq
 ·have mm := @fnz_main
  have ml := fun (args : List Value) (H : AHeap) (K : Value → AHeap → Prop) => bodyL_body (P := Try.prog) (env := E_fnz ) (fn := Try.f79) (args := args) (H := H) (K := K) E_fnz_ok 
  revert mm ml
  generalize bodyK Try.prog E_fnz Try.f79 = Q
  generalize bodyL Try.prog E_fnz Try.f79 = QL
  intro mm ml args H K hk
  simp only [S_fnz] at *
  unfold F_fnz at *
  split at hk
  ·exact ml _ H K (mm _ _ _ _ H K hk)
  ·exact hk.elim
def wHighS (k : Int) (w : Nat) (low high : LN) : LN := bif Int.tmod k 2 == 0 then high.mapIdx (fun i x => fadd .f32 x (fmul .f32 w (fadd .f32 (low.getD i 0) (p_fnz low ((i : Int) + 1))))) else high
def wLowS (k : Int) (w : Nat) (low high : LN) : LN := bif Int.tmod k 2 == 0 then low else low.mapIdx (fun i x => fadd .f32 x (fmul .f32 w (fadd .f32 (p_fnz high ((i : Int) - 1)) (p_fnz high (i : Int)))))
@[simp] theorem wHighS_length (k : Int) (w : Nat) (low high : LN) : (wHighS k w low high).length = high.length := by
 unfold wHighS; cases (Int.tmod k 2 == 0) <;> simp
@[simp] theorem wLowS_length (k : Int) (w : Nat) (low high : LN) : (wLowS k w low high).length = low.length := by
 unfold wLowS; cases (Int.tmod k 2 == 0) <;> simp
def p_f11z_l1 (mb : LN) (pa : LN) (k : Int) (w : Nat) : Nat → Int → LN → LN × LN
 | 0, _, _ => ([], [])
 | μ + 1, i, y1_1 => (bif decide ((i : Int) < (pa.length : Int)) then (p_f11z_l1 mb pa k w μ (i + 1) (((y1_1).set (i : Int).toNat ((fadd .f32 (((y1_1).getD (i : Int).toNat 0)) (fmul .f32 w (fadd .f32 (((mb).getD (i : Int).toNat 0)) ((p_fnz mb (i + 1)))))))))) else (mb, y1_1))
def p_f11z_l1_s := fun mb pa k w μ i y1_1 => @p_f11z_l1.eq_2 mb pa k w i y1_1 μ
def p_f11z_l2 (mb : LN) (pa : LN) (k : Int) (w : Nat) : Nat → Int → LN → LN × LN
 | 0, _, _ => ([], [])
 | μ + 1, i9, y2_1 => (bif decide ((i9 : Int) < (mb.length : Int)) then (p_f11z_l2 mb pa k w μ (i9 + 1) (((y2_1).set (i9 : Int).toNat ((fadd .f32 (((y2_1).getD (i9 : Int).toNat 0)) (fmul .f32 w (fadd .f32 ((p_fnz pa (i9 - 1))) (p_fnz pa i9)))))))) else (y2_1, pa))
def p_f11z_l2_s := fun mb pa k w μ i9 y2_1 => @p_f11z_l2.eq_2 mb pa k w i9 y2_1 μ
def p_f11z (mb : LN) (pa : LN) (k : Int) (w : Nat) : LN × LN := ((bif (Int.tmod k 2 : Int) == 0 then (p_f11z_l1 mb pa k w (Int.toNat ((pa.length : Int) - (0 : Int)) + 1) (0 : Int) pa) else (p_f11z_l2 mb pa k w (Int.toNat ((mb.length : Int) - (0 : Int)) + 1) (0 : Int) mb)))
def p_f11z_eq := @p_f11z.eq_1
def T_f11z (oc : OA) (md : Nat) (nd : Nat) (yb : OA) (gc : Nat) (jc : Nat) (k : Int) (w : Nat) (H : AHeap) (K : AHeap → Prop) : Prop := ∃ lo : Nat, ∃ lob : Nat, ∃ (mb : LN), ∃ (pa : LN), OwnS fF H lo oc md nd mb ∧ OwnS fF H lob yb gc jc pa ∧ SepA oc yb ∧ mb.length < 1073741824 ∧ pa.length < 1073741824 ∧ pa.length ≤ mb.length ∧ 1 ≤ pa.length ∧ ((∀ H' : AHeap, Keep2 oc yb H H' → OwnS fF H' lo oc md nd (wLowS k w mb pa) → OwnS fF H' lob yb gc jc (wHighS k w mb pa) → K  H'))
theorem T_f11z_i {oc : OA} {md : Nat} {nd : Nat} {yb : OA} {gc : Nat} {jc : Nat} {k : Int} {w : Nat} {H : AHeap} {K : AHeap → Prop} (h : ∃ lo : Nat, ∃ lob : Nat, ∃ (mb : LN), ∃ (pa : LN), OwnS fF H lo oc md nd mb ∧ OwnS fF H lob yb gc jc pa ∧ SepA oc yb ∧ mb.length < 1073741824 ∧ pa.length < 1073741824 ∧ pa.length ≤ mb.length ∧ 1 ≤ pa.length ∧ ((∀ H' : AHeap, Keep2 oc yb H H' → OwnS fF H' lo oc md nd (wLowS k w mb pa) → OwnS fF H' lob yb gc jc (wHighS k w mb pa) → K  H'))) : T_f11z oc md nd yb gc jc k w H K := h
theorem front_get (W ys : LN) (i : Nat) (hi : i < ys.length) (hl : W.length = ys.length) : (W.take i ++ ys.drop i).getD i 0 = ys.getD i 0 := by
 rw [List.getD_eq_getElem?_getD, List.getD_eq_getElem?_getD, List.getElem?_append_right (by simp; omega)]
 have : (W.take i).length = i := by simp; omega
 rw [this, Nat.sub_self, List.getElem?_drop, Nat.add_zero]
theorem f11z_go1 (low high : LN) (k : Int) (w : Nat) (W : LN) (hW : W = high.mapIdx (fun i x => fadd .f32 x (fmul .f32 w (fadd .f32 (low.getD i 0) (p_fnz low ((i : Int) + 1)))))) :
  ∀ (μ i : Nat), i ≤ high.length → high.length - i < μ → p_f11z_l1 low high k w μ (i : Int) (W.take i ++ high.drop i) = (low, W) := by
 have hl : W.length = high.length := by rw [hW]; simp
 intro μ
 induction μ with
 | zero => intro i _ h; omega
 | succ μ ih =>
  intro i hi hm
  rw [p_f11z_l1_s]
  by_cases h : i < high.length
  ·rw [decide_eq_true (show (i : Int) < (high.length : Int) by omega), cond_true, Int.toNat_natCast]
   have := ih (i + 1) ω2 ω2
   rw [← this, set_front W high i h hl]
   ·rfl
   ·rw [front_get W high i h hl, hW]
    simp [List.getD_eq_getElem?_getD, h]
  ·have e : i = high.length := by omega
   rw [decide_eq_false (show ¬ (i : Int) < (high.length : Int) by omega), cond_false, e]
   simp [← hl]
theorem f11z_go2 (low high : LN) (k : Int) (w : Nat) (W : LN) (hW : W = low.mapIdx (fun i x => fadd .f32 x (fmul .f32 w (fadd .f32 (p_fnz high ((i : Int) - 1)) (p_fnz high (i : Int)))))) :
  ∀ (μ i : Nat), i ≤ low.length → low.length - i < μ → p_f11z_l2 low high k w μ (i : Int) (W.take i ++ low.drop i) = (W, high) := by
 have hl : W.length = low.length := by rw [hW]; simp
 intro μ
 induction μ with
 | zero => intro i _ h; omega
 | succ μ ih =>
  intro i hi hm
  rw [p_f11z_l2_s]
  by_cases h : i < low.length
  ·rw [decide_eq_true (show (i : Int) < (low.length : Int) by omega), cond_true, Int.toNat_natCast]
   have := ih (i + 1) ω2 ω2
   rw [← this, set_front W low i h hl]
   ·rfl
   ·rw [front_get W low i h hl, hW]
    simp [List.getD_eq_getElem?_getD, h]
  ·have e : i = low.length := by omega
   rw [decide_eq_false (show ¬ (i : Int) < (low.length : Int) by omega), cond_false, e]
   simp [← hl]
theorem f11z_val (low high : LN) (k : Int) (w : Nat) : p_f11z low high k w = (wLowS k w low high, wHighS k w low high) := by
 rw [p_f11z_eq]
 unfold wLowS wHighS
 cases h : (Int.tmod k 2 == 0)
 ·rw [cond_false, cond_false, cond_false]
  have := f11z_go2 low high k w _ rfl (Int.toNat ((low.length : Int) - 0) + 1) 0 ω2 ω2
  simpa using this
 ·rw [cond_true, cond_true, cond_true]
  have := f11z_go1 low high k w _ rfl (Int.toNat ((high.length : Int) - 0) + 1) 0 ω2 ω2
  simpa using this
/-! f11z: function 58 -/
def E_f11z : Env := envOf [(79, S_fnz)]
def F_f11z : List Value → AHeap → (Value → AHeap → Prop) → Prop
 | [.slice oc md nd, .slice yb gc jc, .int .i64 k, .float .f32 w], H, K => T_f11z oc md nd yb gc jc k w H fun  (H' : AHeap) => K (.tuple #[]) H'
 | _, _, _ => False
def S_f11z : FSpec := { F := F_f11z, quiet := false, tame := false }
theorem f11z_vc (oc : OA) (md : Nat) (nd : Nat) (yb : OA) (gc : Nat) (jc : Nat) (k : Int) (w : Nat) (H : AHeap) (K : Value → AHeap → Prop) : bodyL Try.prog E_f11z Try.f58 [.slice oc md nd, .slice yb gc jc, .int .i64 k, .float .f32 w] H K =
 (2 ≠ (0 : Int) ∧ Br ((Int.tmod k 2 : Int) == 0) (loopK (exL Try.prog E_f11z (cl (cl (cr (cl (cl (cr (cl (bodyC Try.f58)))))))) 267 0 [(0, 0)]) (.slice oc md nd :: .slice yb gc jc :: ud :: .float .f32 w :: ud4 (.int .i64 0 :: ud53 [])) H (blockQ 0 (seqQ (exL Try.prog E_f11z (cr (cl (cr (cl (bodyC Try.f58))))) 11 0 []) (seqQ (exL Try.prog E_f11z (cr (bodyC Try.f58)) 0 0 []) (retK Try.prog Try.f58 K))))) (loopK (exL Try.prog E_f11z (cl (cl (cr (cr (bodyC Try.f58))))) 523 0 [(2, 0)]) (.slice oc md nd :: .slice yb gc jc :: ud :: .float .f32 w :: ud5 (.int .i64 0 :: ud52 [])) H (blockQ 2 (retK Try.prog Try.f58 K)))) := by kernel_rfl
abbrev f11z_P1 (yb : OA) (jc : Nat) (gc : Nat) (oc : OA) (nd : Nat) (md : Nat) (w : Nat) (i : Int)  : List Value := (.slice oc md nd :: .slice yb gc jc :: ud :: .float .f32 w :: ud4 (.int .i64 i :: ud53 []))
theorem f11z_r1 (yb : OA) (jc : Nat) (gc : Nat) (oc : OA) (nd : Nat) (md : Nat) (w : Nat) (i : Int)  (H : AHeap) (R : Post) : exL Try.prog E_f11z (cl (cl (cr (cl (cl (cr (cl (bodyC Try.f58)))))))) 267 0 [(0, 0)] (f11z_P1 yb jc gc oc nd md w i) H R =
 (Br (decide ((i : Int) < (gc : Int))) ((0 : Int) ≤ i ∧ i < (gc : Int) ∧ ∃ b1 f1, (yb : OA) = some ⟨b1, f1, none⟩ ∧ ∃ x1 : Nat,  rdC H b1 (f1 + (i : Int).toNat * 1) = some (.float .f32 x1) ∧ (0 : Int) ≤ i ∧ i < (md : Int) ∧ ∃ b2 f2, (oc : OA) = some ⟨b2, f2, none⟩ ∧ ∃ x2 : Nat,  rdC H b2 (f2 + (i : Int).toNat * 1) = some (.float .f32 x2) ∧ T_fnz oc md nd (IntKind.wrap .i64 (i + 1)) H fun (r1 : Nat) (H1 : AHeap) => (0 : Int) ≤ i ∧ i < (gc : Int) ∧ ∃ b3 f3, (yb : OA) = some ⟨b3, f3, none⟩ ∧ isOwn H1 b3 ∧ (∃ l, rdN H1 b3 (f3 + (i : Int).toNat * 1) 1 = some l) ∧ Lt (setC H1 b3 (f3 + (i : Int).toNat * 1) (.float .f32 (fadd .f32 x1 (fmul .f32 w (fadd .f32 x2 r1))))) fun H2 => R .normal (.slice oc md nd :: .slice yb gc jc :: ud :: .float .f32 w :: ud4 (.int .i64 (IntKind.wrap .i64 (i + 1)) :: ud53 [])) H2) (R (.exit 0) (ud62 []) H)) := by kernel_rfl
def f11z_I1 (yb : OA) (jc : Nat) (gc : Nat) (oc : OA) (nd : Nat) (md : Nat) (w : Nat) (Inv : Nat → Int → AHeap → Prop) : Nat → List Value → AHeap → Prop := fun μ tm H => ∃ (i : Int), tm = (f11z_P1 yb jc gc oc nd md w i) ∧ Inv μ i H
theorem f11z_L1 (yb : OA) (jc : Nat) (gc : Nat) (oc : OA) (nd : Nat) (md : Nat) (w : Nat) {Q : Post} (Inv : Nat → Int → AHeap → Prop) (ν : Nat) (i : Int)  (H : AHeap) (h0 : Inv ν i H)
  (hs : ∀ (μ : Nat) (i : Int)  (H : AHeap), Inv μ i H → exL Try.prog E_f11z (cl (cl (cr (cl (cl (cr (cl (bodyC Try.f58)))))))) 267 0 [(0, 0)] (f11z_P1 yb jc gc oc nd md w i) H (loopQ (f11z_I1 yb jc gc oc nd md w Inv) μ Q)) : loopK (exL Try.prog E_f11z (cl (cl (cr (cl (cl (cr (cl (bodyC Try.f58)))))))) 267 0 [(0, 0)]) (f11z_P1 yb jc gc oc nd md w i) H Q :=
 ⟨f11z_I1 yb jc gc oc nd md w Inv, ν, ⟨i, rfl, h0⟩, fun μ tm H h => by obtain ⟨i, rfl, hI⟩ := h; exact hs μ i  H hI⟩
theorem f11z_n1 {yb : OA} {jc : Nat} {gc : Nat} {oc : OA} {nd : Nat} {md : Nat} {w : Nat} {Q : Post} {Inv : Nat → Int → AHeap → Prop} {μ : Nat} (μ' : Nat) {i : Int}  {H : AHeap} (hm : μ' < μ) (hI : Inv μ' i H) : loopQ (f11z_I1 yb jc gc oc nd md w Inv) μ Q .normal (f11z_P1 yb jc gc oc nd md w i) H := ⟨μ', hm, i, rfl, hI⟩
theorem f11z_x1_0  (H : AHeap) (K : Value → AHeap → Prop)  {I : Nat → List Value → AHeap → Prop} {μ : Nat} : loopQ I μ (blockQ 0 (seqQ (exL Try.prog E_f11z (cr (cl (cr (cl (bodyC Try.f58))))) 11 0 []) (seqQ (exL Try.prog E_f11z (cr (bodyC Try.f58)) 0 0 []) (retK Try.prog Try.f58 K)))) (.exit 0) (ud62 []) H =
 (K (.tuple #[]) H) := by kernel_rfl
abbrev f11z_P2 (yb : OA) (jc : Nat) (gc : Nat) (oc : OA) (nd : Nat) (md : Nat) (w : Nat) (i9 : Int)  : List Value := (.slice oc md nd :: .slice yb gc jc :: ud :: .float .f32 w :: ud5 (.int .i64 i9 :: ud52 []))
theorem f11z_r2 (yb : OA) (jc : Nat) (gc : Nat) (oc : OA) (nd : Nat) (md : Nat) (w : Nat) (i9 : Int)  (H : AHeap) (R : Post) : exL Try.prog E_f11z (cl (cl (cr (cr (bodyC Try.f58))))) 523 0 [(2, 0)] (f11z_P2 yb jc gc oc nd md w i9) H R =
 (Br (decide ((i9 : Int) < (md : Int))) ((0 : Int) ≤ i9 ∧ i9 < (md : Int) ∧ ∃ b4 f4, (oc : OA) = some ⟨b4, f4, none⟩ ∧ ∃ x3 : Nat,  rdC H b4 (f4 + (i9 : Int).toNat * 1) = some (.float .f32 x3) ∧ T_fnz yb gc jc (IntKind.wrap .i64 (i9 - 1)) H fun (r2 : Nat) (H3 : AHeap) => T_fnz yb gc jc i9 H3 fun (r3 : Nat) (H4 : AHeap) => (0 : Int) ≤ i9 ∧ i9 < (md : Int) ∧ ∃ b5 f5, (oc : OA) = some ⟨b5, f5, none⟩ ∧ isOwn H4 b5 ∧ (∃ l, rdN H4 b5 (f5 + (i9 : Int).toNat * 1) 1 = some l) ∧ Lt (setC H4 b5 (f5 + (i9 : Int).toNat * 1) (.float .f32 (fadd .f32 x3 (fmul .f32 w (fadd .f32 r2 r3))))) fun H5 => R .normal (.slice oc md nd :: .slice yb gc jc :: ud :: .float .f32 w :: ud5 (.int .i64 (IntKind.wrap .i64 (i9 + 1)) :: ud52 [])) H5) (R (.exit 2) (ud62 []) H)) := by kernel_rfl
def f11z_I2 (yb : OA) (jc : Nat) (gc : Nat) (oc : OA) (nd : Nat) (md : Nat) (w : Nat) (Inv : Nat → Int → AHeap → Prop) : Nat → List Value → AHeap → Prop := fun μ tm H => ∃ (i9 : Int), tm = (f11z_P2 yb jc gc oc nd md w i9) ∧ Inv μ i9 H
theorem f11z_L2 (yb : OA) (jc : Nat) (gc : Nat) (oc : OA) (nd : Nat) (md : Nat) (w : Nat) {Q : Post} (Inv : Nat → Int → AHeap → Prop) (ν : Nat) (i9 : Int)  (H : AHeap) (h0 : Inv ν i9 H)
  (hs : ∀ (μ : Nat) (i9 : Int)  (H : AHeap), Inv μ i9 H → exL Try.prog E_f11z (cl (cl (cr (cr (bodyC Try.f58))))) 523 0 [(2, 0)] (f11z_P2 yb jc gc oc nd md w i9) H (loopQ (f11z_I2 yb jc gc oc nd md w Inv) μ Q)) : loopK (exL Try.prog E_f11z (cl (cl (cr (cr (bodyC Try.f58))))) 523 0 [(2, 0)]) (f11z_P2 yb jc gc oc nd md w i9) H Q :=
 ⟨f11z_I2 yb jc gc oc nd md w Inv, ν, ⟨i9, rfl, h0⟩, fun μ tm H h => by obtain ⟨i9, rfl, hI⟩ := h; exact hs μ i9  H hI⟩
theorem f11z_n2 {yb : OA} {jc : Nat} {gc : Nat} {oc : OA} {nd : Nat} {md : Nat} {w : Nat} {Q : Post} {Inv : Nat → Int → AHeap → Prop} {μ : Nat} (μ' : Nat) {i9 : Int}  {H : AHeap} (hm : μ' < μ) (hI : Inv μ' i9 H) : loopQ (f11z_I2 yb jc gc oc nd md w Inv) μ Q .normal (f11z_P2 yb jc gc oc nd md w i9) H := ⟨μ', hm, i9, rfl, hI⟩
theorem f11z_x2_2  (H : AHeap) (K : Value → AHeap → Prop)  {I : Nat → List Value → AHeap → Prop} {μ : Nat} : loopQ I μ (blockQ 2 (retK Try.prog Try.f58 K)) (.exit 2) (ud62 []) H =
 (K (.tuple #[]) H) := by kernel_rfl
theorem E_f11z_ok : ∀ g, FnOk Try.prog g (E_f11z g) := FnOk.envOf (by
 intro x hx
 simp only [List.mem_cons, List.not_mem_nil, or_false] at hx
 subst hx; exact fnz_ok)
theorem ω23 {P : Prop} (h : P := by first | omega | decide | (simp; done) | (simp; omega)) : P := h
theorem ω14 {P : Prop} (h : P := by first | assumption | omega | (simp; omega)) : P := h
theorem ω3 {P : Prop} (h : P := by first | omega | (simp only [List.length_set]; (first | omega | (simp only [List.length_set, List.length_replicate, List.length_append, List.length_cons, List.length_nil, List.length_take, List.length_drop, marks_length]; done) | (simp only [List.length_set, List.length_replicate, List.length_append, List.length_cons, List.length_nil, List.length_take, List.length_drop, marks_length]; omega)))) : P := h
theorem f11z_main (oc : OA) (md : Nat) (nd : Nat) (yb : OA) (gc : Nat) (jc : Nat) (k : Int) (w : Nat) (H : AHeap) (K : Value → AHeap → Prop) (h : T_f11z oc md nd yb gc jc k w H fun  (H' : AHeap) => K (.tuple #[]) H') : bodyL Try.prog E_f11z Try.f58 [.slice oc md nd, .slice yb gc jc, .int .i64 k, .float .f32 w] H K := by
 rw [f11z_vc]
 obtain ⟨lo, lob, mb, pa, i_low, i_high, sp_m, bd_53, bd_54, pr0, pr1, hk⟩ := h
 have hk : (∀ H' : AHeap, Keep2 oc yb H H' → OwnS fF H' lo oc md nd ((p_f11z mb pa k w).1) → OwnS fF H' lob yb gc jc ((p_f11z mb pa k w).2) → (fun  (H' : AHeap) => K (.tuple #[]) H')  H') := by rw [f11z_val mb pa k w]; exact hk
 obtain rfl := i_low.len
 obtain rfl := i_high.len
 have up_p := i_low.up
 have lo_p := i_low.lo
 have up_q := i_high.up
 have lo_q := i_high.lo
 have e : (p_f11z mb pa k w) = _ := rfl
 have e := e.trans (p_f11z_eq mb pa k w)
 have g0 := Keep2.refl oc yb H
 refine ⟨ω23, ?_⟩
 have z_1 := tmod_rng k 2
 have z_2 := tmod_nn k 2
 refine Br.intro (fun c_3 => ?_) (fun c_3 => ?_)
 ·have e := e.trans (cond_t c_3)
  have c_3' := ieq_t c_3
  refine f11z_L1 _ _ _ _ _ _ _ (fun (μ : Nat) (i : Int) (H_1 : AHeap) => ∃ (y1_1 : LN), OwnS fF H_1 lo oc mb.length nd mb ∧ OwnS fF H_1 lob yb pa.length jc y1_1 ∧ y1_1.length = (pa).length ∧ H.length ≤ H_1.length ∧ H.length ≤ H_1.length ∧ Keep2 oc yb H H_1 ∧ (0 : Int) ≤ i ∧ i ≤ (pa.length : Int) ∧ (pa.length : Int) - i ≤ (μ : Int) ∧ p_f11z mb pa k w = p_f11z_l1 mb pa k w (μ + 1) i y1_1) (Int.toNat ((pa.length : Int) - (0 : Int))) _ H ?_ ?_
  ·exact ⟨_, i_low, i_high, ω11, ω2, ω2, g0, ω6, ω6, ω2, e⟩
  ·intro μ i  H_1 hI
   obtain ⟨y1_1, r_4, r_5, y6, n7, n8, g_9, v_10, v_11, hμ, e⟩ := hI
   rw [f11z_r1]
   have e := e.trans (p_f11z_l1_s mb pa k w μ i y1_1)
   have l_12 := g_9.1
   refine Br.intro (fun c_13 => ?_) (fun c_13 => ?_)
   ·have e := e.trans (cond_t c_13)
    have c_13' := of_decide_eq_true c_13
    obtain ⟨b_14, f_15, q16⟩ := (r_5.isL).pos ω0
    refine ⟨by omega, by omega, b_14, f_15, q16, ?_⟩
    refine ⟨((y1_1).getD (i : Int).toNat 0), (r_5.isL).rd (Grow.refl _) q16 ω2 _, ?_⟩
    obtain ⟨b_17, f18, q19⟩ := (r_4.isL).pos ω0
    refine ⟨by omega, by omega, b_17, f18, q19, ?_⟩
    refine ⟨((mb).getD (i : Int).toNat 0), (r_4.isL).rd (Grow.refl _) q19 ω2 _, ?_⟩
    rw [show IntKind.wrap .i64 (i + 1) = (i + 1) from wrap64 ω2 ω2]
    refine T_fnz_i ⟨_, r_4.isL, ω0, ω14, ?_⟩
    obtain ⟨b20, f_21, q22⟩ := (r_5.isL).pos ω0
    refine ⟨by omega, by omega, b20, f_21, q22, ?_⟩
    refine Lt.setS r_5 q22 ω3 (fun H_2 hl_23 o25 k24 => ?_)
    have l26 := k24.1
    have g27 := g_9.transB k24
    have l28 := g27.1
    have r_29 := r_4.keepA (sp_m).symm k24
    refine f11z_n1 (μ - 1) ω16 ⟨_, r_29, o25, ω17, ω2, ω2, ω2, ω1, ω1, ω16, ω12⟩
   ·have e := e.trans (cond_f c_13)
    have c_13' := of_decide_eq_false c_13
    rw [f11z_x1_0]
    rw [e] at hk
    exact hk H_1 g_9 r_4 r_5
 ·have e := e.trans (cond_f c_3)
  have c_3' := ieq_f c_3
  refine f11z_L2 _ _ _ _ _ _ _ (fun (μ : Nat) (i9 : Int) (H_3 : AHeap) => ∃ (y2_1 : LN), OwnS fF H_3 lo oc mb.length nd y2_1 ∧ y2_1.length = (mb).length ∧ OwnS fF H_3 lob yb pa.length jc pa ∧ H.length ≤ H_3.length ∧ H.length ≤ H_3.length ∧ Keep2 oc yb H H_3 ∧ (0 : Int) ≤ i9 ∧ i9 ≤ (mb.length : Int) ∧ (mb.length : Int) - i9 ≤ (μ : Int) ∧ p_f11z mb pa k w = p_f11z_l2 mb pa k w (μ + 1) i9 y2_1) (Int.toNat ((mb.length : Int) - (0 : Int))) _ H ?_ ?_
  ·exact ⟨_, i_low, ω11, i_high, ω2, ω2, g0, ω6, ω6, ω2, e⟩
  ·intro μ i9  H_3 hI
   obtain ⟨y2_1, r_30, y31, r_32, n33, n34, g35, v_36, v_37, hμ, e⟩ := hI
   rw [f11z_r2]
   have e := e.trans (p_f11z_l2_s mb pa k w μ i9 y2_1)
   have l38 := g35.1
   refine Br.intro (fun c_39 => ?_) (fun c_39 => ?_)
   ·have e := e.trans (cond_t c_39)
    have c_39' := of_decide_eq_true c_39
    obtain ⟨b40, f41, q42⟩ := (r_30.isL).pos ω0
    refine ⟨by omega, by omega, b40, f41, q42, ?_⟩
    refine ⟨((y2_1).getD (i9 : Int).toNat 0), (r_30.isL).rd (Grow.refl _) q42 ω2 _, ?_⟩
    rw [show IntKind.wrap .i64 (i9 - 1) = (i9 - 1) from wrap64 ω2 ω2]
    refine T_fnz_i ⟨_, r_32.isL, ω0, ω14, ?_⟩
    refine T_fnz_i ⟨_, r_32.isL, ω0, ω14, ?_⟩
    obtain ⟨b43, f44, q45⟩ := (r_30.isL).pos ω0
    refine ⟨by omega, by omega, b43, f44, q45, ?_⟩
    refine Lt.setS r_30 q45 ω3 (fun H_4 hl_46 o48 k47 => ?_)
    have l49 := k47.1
    have g50 := g35.transA k47
    have l51 := g50.1
    have r_52 := r_32.keepA (sp_m) k47
    rw [show IntKind.wrap .i64 (i9 + 1) = (i9 + 1) from wrap64 ω2 ω2]
    refine f11z_n2 (μ - 1) ω16 ⟨_, o48, ω17, r_52, ω2, ω2, ω2, ω1, ω1, ω16, ω12⟩
   ·have e := e.trans (cond_f c_39)
    have c_39' := of_decide_eq_false c_39
    rw [f11z_x2_2]
    rw [e] at hk
    exact hk H_3 g35 r_30 r_32
theorem f11z_ok : FnOk Try.prog 58 S_f11z := by
 refine FnOk.body mix_ok E_f11z_ok Try.func58 rfl ω10 ω10 ?_ ?_ ?_ ?_ ?_
 ·intro args H K K' h hk
  simp only [S_f11z] at *
  unfold F_f11z at *
  split at hk
  ·obtain ⟨lo, lob, mb, pa, i_low, i_high, sp_m, bd_53, bd_54, pr0, pr1, k⟩ := hk
   exact ⟨lo, lob, mb, pa, i_low, i_high, sp_m, bd_53, bd_54, pr0, pr1, (fun H' gg ow ow2 => h _ _ (k H' gg ow ow2))⟩
  ·exact hk.elim
 ·intro hq; cases hq
 ·intro args H K hk
  simp only [S_f11z] at *
  unfold F_f11z at *
  split at hk
  ·obtain ⟨lo, lob, mb, pa, i_low, i_high, sp_m, bd_53, bd_54, pr0, pr1, k⟩ := hk
   exact (i_low.put2 i_high sp_m _ _ (by rw [wLowS_length]) (by rw [wHighS_length])).elim fun H1 h => ⟨_, _, k H1 h.1 h.2.1 h.2.2⟩
  ·exact hk.elim
 ·intro hq; cases hq
 ·have mm := @f11z_main
  have ml := fun (args : List Value) (H : AHeap) (K : Value → AHeap → Prop) => bodyL_body (P := Try.prog) (env := E_f11z ) (fn := Try.f58) (args := args) (H := H) (K := K) E_f11z_ok 
  revert mm ml
  generalize bodyK Try.prog E_f11z Try.f58 = Q
  generalize bodyL Try.prog E_f11z Try.f58 = QL
  intro mm ml args H K hk
  simp only [S_f11z] at *
  unfold F_f11z at *
  split at hk
  ·exact ml _ H K (mm _ _ _ _ _ _ _ _ H K hk)
  ·exact hk.elim

def p_f14z (db : LN) : LN × Bool := (bif !(p_foz db) then ([], false) else (db, true))
def p_f14z_eq := @p_f14z.eq_1
def T_f14z (wb : OA) (qb : Nat) (dc : Nat) (H : AHeap) (K : OA → Nat → Nat → Bool → AHeap → Prop) : Prop := ∃ (db : LN), IsL fF H wb qb db ∧ db.length < 1073741824 ∧ ((∀ H' : AHeap, Grow H H' → Br ((p_f14z db).2) (K wb qb dc true H') (K none 0 0 false H')))
theorem T_f14z_i {wb : OA} {qb : Nat} {dc : Nat} {H : AHeap} {K : OA → Nat → Nat → Bool → AHeap → Prop} (h : ∃ (db : LN), IsL fF H wb qb db ∧ db.length < 1073741824 ∧ ((∀ H' : AHeap, Grow H H' → Br ((p_f14z db).2) (K wb qb dc true H') (K none 0 0 false H')))) : T_f14z wb qb dc H K := h

/-! f14z: function 77 -/
def E_f14z : Env := envOf [(55, S_foz)]
def F_f14z : List Value → AHeap → (Value → AHeap → Prop) → Prop
 | [.slice wb qb dc], H, K => T_f14z wb qb dc H fun (cd : OA) (ld : Nat) (jd : Nat) (r2 : Bool) (H' : AHeap) => K (.tuple #[.slice cd ld jd, .bool r2]) H'
 | _, _, _ => False
def S_f14z : FSpec := { F := F_f14z, quiet := false, tame := true }
theorem f14z_vc (wb : OA) (qb : Nat) (dc : Nat) (H : AHeap) (K : Value → AHeap → Prop) : bodyL Try.prog E_f14z Try.f77 [.slice wb qb dc] H K =
 (T_foz wb qb dc H fun (r1 : Bool) (H1 : AHeap) => Br (!r1) (K (.tuple #[.slice none 0 0, .bool false]) H1) (K (.tuple #[.slice wb qb dc, .bool true]) H1)) := by kernel_rfl
theorem E_f14z_ok : ∀ g, FnOk Try.prog g (E_f14z g) := FnOk.envOf (by
 intro x hx
 simp only [List.mem_cons, List.not_mem_nil, or_false] at hx
 subst hx; exact foz_ok)
theorem f14z_main (wb : OA) (qb : Nat) (dc : Nat) (H : AHeap) (K : Value → AHeap → Prop) (h : T_f14z wb qb dc H fun (cd : OA) (ld : Nat) (jd : Nat) (r2 : Bool) (H' : AHeap) => K (.tuple #[.slice cd ld jd, .bool r2]) H') : bodyL Try.prog E_f14z Try.f77 [.slice wb qb dc] H K := by
 rw [f14z_vc]
 obtain ⟨db, i_list, bd_2, hk⟩ := h
 obtain rfl := i_list.eqn
 have e : (p_f14z db) = _ := rfl
 have e := e.trans (p_f14z_eq db)
 have g0 := Grow.refl H
 refine T_foz_i ⟨_, (i_list.grow g0), ω0, ?_⟩
 refine Br.intro (fun c_1 => ?_) (fun c_1 => ?_)
 ·have e := e.trans (cond_t c_1)
  have c_1n := nf_of_t c_1
  have q := hk H g0
  rw [e] at q
  exact q
 ·have e := e.trans (cond_f c_1)
  have c_1n := nt_of_f c_1
  have q := hk H g0
  rw [e] at q
  exact q
theorem f14z_ok : FnOk Try.prog 77 S_f14z := by
 refine FnOk.body mix_ok E_f14z_ok Try.func77 rfl ω10 ω10 ?_ ?_ ?_ ?_ ?_
 ·intro args H K K' h hk
  simp only [S_f14z] at *
  unfold F_f14z at *
  split at hk
  ·obtain ⟨db, i_list, bd_2, k⟩ := hk
   exact ⟨db, i_list, bd_2, (fun H' gg => Br_mono (h _ _) (h _ _) (k H' gg))⟩
  ·exact hk.elim
 ·intro hq; cases hq
 ·intro args H K hk
  simp only [S_f14z] at *
  unfold F_f14z at *
  split at hk
  ·obtain ⟨db, i_list, bd_2, k⟩ := hk
   exact Br_live (k H (Grow.refl H))
  ·exact hk.elim
 ·intro _ args H K hk
  simp only [S_f14z] at *
  unfold F_f14z at *
  split at hk
  ·obtain ⟨db, i_list, bd_2, k⟩ := hk
   exact ⟨db, i_list, bd_2, (fun H' gg => Br_mono (fun q => ⟨gg, q⟩) (fun q => ⟨gg, q⟩) (k H' gg))⟩
  ·exact hk.elim
 ·have mm := @f14z_main
  have ml := fun (args : List Value) (H : AHeap) (K : Value → AHeap → Prop) => bodyL_body (P := Try.prog) (env := E_f14z ) (fn := Try.f77) (args := args) (H := H) (K := K) E_f14z_ok 
  revert mm ml
  generalize bodyK Try.prog E_f14z Try.f77 = Q
  generalize bodyL Try.prog E_f14z Try.f77 = QL
  intro mm ml args H K hk
  simp only [S_f14z] at *
  unfold F_f14z at *
  split at hk
  ·exact ml _ H K (mm _ _ _ H K hk)
  ·exact hk.elim

def p_faz_l4 (aa : LN) (sp_Scale : Nat) (tb : LN) (mc : LN) (i : Int) (y1_1 : LN) (y1_2 : LN) (zd : Int) (y2_1 : LN) (y2_2 : LN) (k : Int) (y3_1 : LN) (y3_2 : LN) (k4_6 : LN → Int → (LN × Bool)) : Nat → LN → Int → LN × Bool
 | 0, _, _ => ([], false)
 | μ4 + 1, tc, td => (bif decide ((td : Int) < (0 + tb.length : Int)) then (bif decide ((td : Int) < (0 + mc.length : Int)) then (p_faz_l4 aa sp_Scale tb mc i y1_1 y1_2 zd y2_1 y2_2 k y3_1 y3_2 k4_6 μ4 (((tc ++ [(((y3_1).getD (td : Int).toNat 0))]) ++ [(((y3_2).getD (td : Int).toNat 0))])) (td + 1)) else (p_faz_l4 aa sp_Scale tb mc i y1_1 y1_2 zd y2_1 y2_2 k y3_1 y3_2 k4_6 μ4 ((tc ++ [(((y3_1).getD (td : Int).toNat 0))])) (td + 1))) else (k4_6 tc td))
def p_faz_l4_s := fun aa sp_Scale tb mc i y1_1 y1_2 zd y2_1 y2_2 k y3_1 y3_2 k4_6 μ4 tc td => @p_faz_l4.eq_2 aa sp_Scale tb mc i y1_1 y1_2 zd y2_1 y2_2 k y3_1 y3_2 k4_6 tc td μ4
def p_faz_l3 (aa : LN) (sp_Scale : Nat) (tb : LN) (mc : LN) (i : Int) (y1_1 : LN) (y1_2 : LN) (zd : Int) (y2_1 : LN) (y2_2 : LN) (k3_4 : Int → LN → LN → (LN × Bool)) : Nat → Int → LN → LN → LN × Bool
 | 0, _, _, _ => ([], false)
 | μ3 + 1, k, y3_1, y3_2 => (bif decide ((0 : Int) ≤ k) then (p_faz_l3 aa sp_Scale tb mc i y1_1 y1_2 zd y2_1 y2_2 k3_4 μ3 (k - 1) ((wLowS k (fneg .f32 (((aa).getD (k : Int).toNat 0))) y3_1 y3_2)) ((wHighS k (fneg .f32 (((aa).getD (k : Int).toNat 0))) y3_1 y3_2))) else (k3_4 k y3_1 y3_2))
def p_faz_l3_s := fun aa sp_Scale tb mc i y1_1 y1_2 zd y2_1 y2_2 k3_4 μ3 k y3_1 y3_2 => @p_faz_l3.eq_2 aa sp_Scale tb mc i y1_1 y1_2 zd y2_1 y2_2 k3_4 k y3_1 y3_2 μ3
def p_faz_l2 (aa : LN) (sp_Scale : Nat) (tb : LN) (mc : LN) (i : Int) (y1_1 : LN) (y1_2 : LN) (k2_2 : Int → LN → LN → (LN × Bool)) : Nat → Int → LN → LN → LN × Bool
 | 0, _, _, _ => ([], false)
 | μ2 + 1, zd, y2_1, y2_2 => (bif decide ((zd : Int) < (0 + mc.length : Int)) then (p_faz_l2 aa sp_Scale tb mc i y1_1 y1_2 k2_2 μ2 (zd + 1) y2_1 (((y2_2).set (zd : Int).toNat ((fmul .f32 (((y2_2).getD (zd : Int).toNat 0)) sp_Scale))))) else (k2_2 zd y2_1 y2_2))
def p_faz_l2_s := fun aa sp_Scale tb mc i y1_1 y1_2 k2_2 μ2 zd y2_1 y2_2 => @p_faz_l2.eq_2 aa sp_Scale tb mc i y1_1 y1_2 k2_2 zd y2_1 y2_2 μ2
def p_faz_l1 (aa : LN) (sp_Scale : Nat) (tb : LN) (mc : LN) : Nat → Int → LN → LN → LN × Bool
 | 0, _, _, _ => ([], false)
 | μ + 1, i, y1_1, y1_2 => (bif decide ((i : Int) < (0 + tb.length : Int)) then (p_faz_l1 aa sp_Scale tb mc μ (i + 1) (((y1_1).set (i : Int).toNat ((fdiv .f32 (((y1_1).getD (i : Int).toNat 0)) sp_Scale)))) y1_2) else (p_faz_l2 aa sp_Scale tb mc i y1_1 y1_2 (fun (zd : Int) (y2_1 : LN) (y2_2 : LN) => (p_faz_l3 aa sp_Scale tb mc i y1_1 y1_2 zd y2_1 y2_2 (fun (k : Int) (y3_1 : LN) (y3_2 : LN) => (p_faz_l4 aa sp_Scale tb mc i y1_1 y1_2 zd y2_1 y2_2 k y3_1 y3_2 (fun (tc : LN) (td : Int) => (bif (p_f14z tc).2 then (tc, true) else ([], false))) (Int.toNat ((0 + tb.length : Int) - (0 : Int)) + 1) ([] : LN) (0 : Int))) (Int.toNat (((((aa.length : Int) - 1))) - 0 + 1) + 1) ((((aa.length : Int) - 1))) y2_1 y2_2)) (Int.toNat ((0 + mc.length : Int) - (0 : Int)) + 1) (0 : Int) y1_1 y1_2))
def p_faz_l1_s := fun aa sp_Scale tb mc μ i y1_1 y1_2 => @p_faz_l1.eq_2 aa sp_Scale tb mc i y1_1 y1_2 μ
def p_faz_l4b (aa : LN) (sp_Scale : Nat) (tb : LN) (mc : LN) : Nat → LN → Int → LN × Bool
 | 0, _, _ => ([], false)
 | μ + 1, tc, td => (bif decide ((td : Int) < (0 + tb.length : Int)) then (bif decide ((td : Int) < (0 + mc.length : Int)) then (p_faz_l4b aa sp_Scale tb mc μ (((tc ++ [((((([] : LN) ++ tb)).getD (td : Int).toNat 0))]) ++ [((((([] : LN) ++ mc)).getD (td : Int).toNat 0))])) (td + 1)) else (p_faz_l4b aa sp_Scale tb mc μ ((tc ++ [((((([] : LN) ++ tb)).getD (td : Int).toNat 0))])) (td + 1))) else (bif (p_f14z tc).2 then (tc, true) else ([], false)))
def p_faz_l4b_s := fun aa sp_Scale tb mc μ tc td => @p_faz_l4b.eq_2 aa sp_Scale tb mc tc td μ
def p_faz (aa : LN) (sp_Scale : Nat) (tb : LN) (mc : LN) : LN × Bool := (bif decide ((0 : Int) < (0 + mc.length : Int)) then (p_faz_l1 aa sp_Scale tb mc (Int.toNat ((0 + tb.length : Int) - (0 : Int)) + 1) (0 : Int) ((([] : LN) ++ tb)) ((([] : LN) ++ mc))) else (p_faz_l4b aa sp_Scale tb mc (Int.toNat ((0 + tb.length : Int) - (0 : Int)) + 1) ([] : LN) (0 : Int)))
def p_faz_eq := @p_faz.eq_1
def T_faz (s : Nat) (mf : OA) (ub : Nat) (qf : Nat) (rf : OA) (ec : Nat) (fg : Nat) (H : AHeap) (K : OA → Nat → Nat → Bool → AHeap → Prop) : Prop := ∃ (sa : OA), ∃ (gb : Nat), ∃ (jb : Nat), ∃ (sp_Scale : Nat), ∃ (aa : LN), ∃ (tb : LN), ∃ (mc : LN), rdN H s 0 2 = some [.slice sa gb jb, .float .f32 sp_Scale] ∧ IsL fF H sa gb aa ∧ IsL fF H mf ub tb ∧ IsL fF H rf ec mc ∧ aa.length < 1073741824 ∧ tb.length < 1073741824 ∧ mc.length < 1073741824 ∧ mc.length ≤ tb.length ∧ tb.length ≤ mc.length + 1 ∧ tb.length ≤ 128 ∧ ((∀ (cd : OA) (ld jd : Nat), ∀ H' : AHeap, Grow H H' → OwnS fF H' H.length cd ld jd ((p_faz aa sp_Scale tb mc).1) → K cd ld jd ((p_faz aa sp_Scale tb mc).2) H'))
theorem T_faz_i {s : Nat} {mf : OA} {ub : Nat} {qf : Nat} {rf : OA} {ec : Nat} {fg : Nat} {H : AHeap} {K : OA → Nat → Nat → Bool → AHeap → Prop} (h : ∃ (sa : OA), ∃ (gb : Nat), ∃ (jb : Nat), ∃ (sp_Scale : Nat), ∃ (aa : LN), ∃ (tb : LN), ∃ (mc : LN), rdN H s 0 2 = some [.slice sa gb jb, .float .f32 sp_Scale] ∧ IsL fF H sa gb aa ∧ IsL fF H mf ub tb ∧ IsL fF H rf ec mc ∧ aa.length < 1073741824 ∧ tb.length < 1073741824 ∧ mc.length < 1073741824 ∧ mc.length ≤ tb.length ∧ tb.length ≤ mc.length + 1 ∧ tb.length ≤ 128 ∧ ((∀ (cd : OA) (ld jd : Nat), ∀ H' : AHeap, Grow H H' → OwnS fF H' H.length cd ld jd ((p_faz aa sp_Scale tb mc).1) → K cd ld jd ((p_faz aa sp_Scale tb mc).2) H'))) : T_faz s mf ub qf rf ec fg H K := h
def wvF (e o : LN) (i : Nat) : LN := if i < o.length then [e.getD i 0, o.getD i 0] else [e.getD i 0]
def wv (e o : LN) (k : Nat) : LN := (List.range k).flatMap (wvF e o)
theorem wv_succ (e o : LN) (k : Nat) : wv e o (k + 1) = wv e o k ++ wvF e o k := by
 unfold wv
 rw [List.range_succ, List.flatMap_append]
 simp
theorem wv_len (e o : LN) : ∀ k, (wv e o k).length = k + min k o.length := by
 intro k
 induction k with
 | zero => simp [wv]
 | succ k ih =>
  rw [wv_succ, List.length_append, ih]
  unfold wvF
  split <;> simp <;> omega
def dfS (ws : LN) : Nat → LN → LN → LN × LN
 | 0, lo, hi => (lo, hi)
 | k + 1, lo, hi => dfS ws k (wLowS (k : Int) (fneg .f32 (ws.getD k 0)) lo hi) (wHighS (k : Int) (fneg .f32 (ws.getD k 0)) lo hi)
theorem dfS_length (ws : LN) : ∀ (k : Nat) (lo hi : LN), (dfS ws k lo hi).1.length = lo.length ∧ (dfS ws k lo hi).2.length = hi.length := by
 intro k
 induction k with
 | zero => intro lo hi; exact ⟨rfl, rfl⟩
 | succ k ih =>
  intro lo hi
  obtain ⟨h1, h2⟩ := ih (wLowS (k : Int) (fneg .f32 (ws.getD k 0)) lo hi) (wHighS (k : Int) (fneg .f32 (ws.getD k 0)) lo hi)
  exact ⟨h1.trans (wLowS_length _ _ _ _), h2.trans (wHighS_length _ _ _ _)⟩
theorem spec_DO_l3 (ws : LN) (sc : Nat) (l1 l2 : LN) (i : Int) (a b : LN) (i2 : Int) (c d : LN) (K : Int → LN → LN → LN × Bool) : ∀ (μ k : Nat) (y1 y2 : LN), k < μ →
  p_faz_l3 ws sc l1 l2 i a b i2 c d K μ ((k : Int) - 1) y1 y2 = K (-1) (dfS ws k y1 y2).1 (dfS ws k y1 y2).2 := by
 intro μ
 induction μ with
 | zero => intro k y1 y2 h; omega
 | succ μ ih =>
  intro k y1 y2 hm
  rw [p_faz_l3_s]
  cases k with
  | zero => rfl
  | succ k =>
   have e : ((k + 1 : Nat) : Int) - 1 = (k : Int) := by omega
   rw [e, decide_eq_true (show (0 : Int) ≤ (k : Int) by omega), cond_true, Int.toNat_natCast]
   exact ih k _ _ ω2
theorem spec_DO_l1 (ws : LN) (sc : Nat) (l1 l2 : LN) (y2 : LN) (K : Int → LN → LN → LN × Bool)
  (hK : ∀ (k : Int) (y1 y2 : LN), p_faz_l1 ws sc l1 l2 1 k y1 y2 = bif decide (k < (0 + l1.length : Int)) then p_faz_l1 ws sc l1 l2 0 (k + 1) (y1.set k.toNat (fdiv .f32 (y1.getD k.toNat 0) sc)) y2 else K k y1 y2) (A : LN) (hA : A.length = l1.length) : ∀ (μ j : Nat), j ≤ l1.length → l1.length - j < μ →
  p_faz_l1 ws sc l1 l2 μ (j : Int) ((A.map fun x => fdiv .f32 x sc).take j ++ A.drop j) y2 = K (l1.length : Int) (A.map fun x => fdiv .f32 x sc) y2 := by
 intro μ
 induction μ with
 | zero => intro k _ h; omega
 | succ μ ih =>
  intro j hj hm
  by_cases h : j < l1.length
  ·rw [p_faz_l1_s]
   rw [decide_eq_true (show (j : Int) < (0 + l1.length : Int) by omega), cond_true, Int.toNat_natCast, front_get _ _ _ ω2 (by simp)]
   have := ih (j + 1) ω2 ω2
   rw [set_front (A.map fun x => fdiv .f32 x sc) A j ω2 (by simp) _ (by simp [List.getD_eq_getElem?_getD, show j < A.length by omega])]
   exact this
  ·have e : j = l1.length := by omega
   have h1 := hK (j : Int) ((A.map fun x => fdiv .f32 x sc).take j ++ A.drop j) y2
   rw [p_faz_l1_s] at h1 ⊢
   rw [decide_eq_false (show ¬ (j : Int) < (0 + l1.length : Int) by omega), cond_false, cond_false] at h1
   rw [decide_eq_false (show ¬ (j : Int) < (0 + l1.length : Int) by omega), cond_false]
   refine h1.trans ?_
   rw [e, List.take_of_length_le (by simp [hA]), List.drop_of_length_le ω2, List.append_nil]
theorem spec_DO_l2 (ws : LN) (sc : Nat) (l1 l2 : LN) (i : Int) (a b : LN) (y1 : LN) (K : Int → LN → LN → LN × Bool) (A : LN) (hA : A.length = l2.length) : ∀ (μ j : Nat), j ≤ l2.length → l2.length - j < μ →
  p_faz_l2 ws sc l1 l2 i a b K μ (j : Int) y1 ((A.map fun x => fmul .f32 x sc).take j ++ A.drop j) = K (l2.length : Int) y1 (A.map fun x => fmul .f32 x sc) := by
 intro μ
 induction μ with
 | zero => intro k _ h; omega
 | succ μ ih =>
  intro j hj hm
  rw [p_faz_l2_s]
  by_cases h : j < l2.length
  ·rw [decide_eq_true (show (j : Int) < (0 + l2.length : Int) by omega), cond_true, Int.toNat_natCast, front_get _ _ _ ω2 (by simp)]
   have := ih (j + 1) ω2 ω2
   rw [set_front (A.map fun x => fmul .f32 x sc) A j ω2 (by simp) _ (by simp [List.getD_eq_getElem?_getD, show j < A.length by omega])]
   exact this
  ·have e : j = l2.length := by omega
   rw [decide_eq_false (show ¬ (j : Int) < (0 + l2.length : Int) by omega), cond_false, e, List.take_of_length_le (by simp [hA]), List.drop_of_length_le ω2, List.append_nil]
theorem spec_DO_l4 (ws : LN) (sc : Nat) (l1 l2 : LN) (i : Int) (a b : LN) (i2 : Int) (c d : LN) (k0 : Int) (E O : LN) (hE : E.length = l1.length) (hO : O.length = l2.length) (K : LN → Int → LN × Bool) : ∀ (μ k : Nat), k ≤ l1.length → l1.length - k < μ →
  p_faz_l4 ws sc l1 l2 i a b i2 c d k0 E O K μ (wv E O k) (k : Int) = K (wv E O l1.length) (l1.length : Int) := by
 intro μ
 induction μ with
 | zero => intro k _ h; omega
 | succ μ ih =>
  intro k hk hm
  rw [p_faz_l4_s]
  by_cases h : k < l1.length
  ·rw [decide_eq_true (show (k : Int) < (0 + l1.length : Int) by omega), cond_true, Int.toNat_natCast]
   have := ih (k + 1) ω2 ω2
   rw [wv_succ] at this
   by_cases h2 : k < l2.length
   ·rw [decide_eq_true (show (k : Int) < (0 + l2.length : Int) by omega), cond_true]
    rw [show wvF E O k = [E.getD k 0, O.getD k 0] from if_pos ω2] at this
    rw [List.append_assoc]
    exact this
   ·rw [decide_eq_false (show ¬ (k : Int) < (0 + l2.length : Int) by omega), cond_false]
    rw [show wvF E O k = [E.getD k 0] from if_neg ω2] at this
    exact this
  ·obtain rfl : k = l1.length := by omega
   rw [decide_eq_false (show ¬ ((l1.length : Nat) : Int) < (0 + l1.length : Int) by omega), cond_false]
theorem spec_DO_l4b (ws : LN) (sc : Nat) (l1 l2 : LN) : ∀ (μ k : Nat), k ≤ l1.length → l1.length - k < μ →
  p_faz_l4b ws sc l1 l2 μ (wv l1 l2 k) (k : Int) = bif (p_f14z (wv l1 l2 l1.length)).2 then (wv l1 l2 l1.length, true) else ([], false) := by
 intro μ
 induction μ with
 | zero => intro k _ h; omega
 | succ μ ih =>
  intro k hk hm
  rw [p_faz_l4b_s, List.nil_append, List.nil_append]
  by_cases h : k < l1.length
  ·rw [decide_eq_true (show (k : Int) < (0 + l1.length : Int) by omega), cond_true, Int.toNat_natCast]
   have := ih (k + 1) ω2 ω2
   rw [wv_succ] at this
   by_cases h2 : k < l2.length
   ·rw [decide_eq_true (show (k : Int) < (0 + l2.length : Int) by omega), cond_true]
    rw [show wvF l1 l2 k = [l1.getD k 0, l2.getD k 0] from if_pos ω2] at this
    rw [List.append_assoc]
    exact this
   ·rw [decide_eq_false (show ¬ (k : Int) < (0 + l2.length : Int) by omega), cond_false]
    rw [show wvF l1 l2 k = [l1.getD k 0] from if_neg ω2] at this
    exact this
  ·obtain rfl : k = l1.length := by omega
   rw [decide_eq_false (show ¬ ((l1.length : Nat) : Int) < (0 + l1.length : Int) by omega), cond_false]
theorem spec_List_val (v : LN) : (bif (p_f14z v).2 then (v, true) else ([], false)) = p_f14z v := by
 rw [p_f14z_eq]
 cases p_foz v <;> rfl
def dropE (ws : LN) (sc : Nat) (e o : LN) : LN := (dfS ws ws.length (e.map fun x => fdiv .f32 x sc) (o.map fun x => fmul .f32 x sc)).1
def dropO (ws : LN) (sc : Nat) (e o : LN) : LN := (dfS ws ws.length (e.map fun x => fdiv .f32 x sc) (o.map fun x => fmul .f32 x sc)).2
def dropW (ws : LN) (sc : Nat) (e o : LN) : LN := bif decide ((0 : Int) < (0 + o.length : Int)) then wv (dropE ws sc e o) (dropO ws sc e o) e.length else wv e o e.length
theorem spec_DropOnce_val (ws : LN) (sc : Nat) (e o : LN) : p_faz ws sc e o = p_f14z (dropW ws sc e o) := by
 rw [p_faz_eq]
 unfold dropW
 cases decide ((0 : Int) < (0 + o.length : Int)) with
 | false =>
  rw [cond_false, cond_false, ← spec_List_val]
  exact spec_DO_l4b ws sc e o (Int.toNat ((0 + e.length : Int) - (0 : Int)) + 1) 0 ω2 ω2
 | true =>
  rw [cond_true, cond_true, List.nil_append, List.nil_append]
  have h1 := spec_DO_l1 ws sc e o o _ (fun k y1 y2 => p_faz_l1_s ws sc e o 0 k y1 y2) e rfl (Int.toNat ((0 + e.length : Int) - (0 : Int)) + 1) 0 ω2 ω2
  simp only [List.take_zero, List.drop_zero, List.nil_append] at h1
  refine Eq.trans h1 ?_
  have h2 := fun i a b y1 K => spec_DO_l2 ws sc e o i a b y1 K o rfl (Int.toNat ((0 + o.length : Int) - (0 : Int)) + 1) 0 ω2 ω2
  simp only [List.take_zero, List.drop_zero, List.nil_append] at h2
  refine Eq.trans (h2 _ _ _ _ _) ?_
  refine Eq.trans (spec_DO_l3 ws sc e o _ _ _ _ _ _ _ (Int.toNat (((((ws.length : Int) - 1))) - 0 + 1) + 1) ws.length _ _ ω2) ?_
  obtain ⟨g1, g2⟩ := dfS_length ws ws.length (e.map fun x => fdiv .f32 x sc) (o.map fun x => fmul .f32 x sc)
  refine Eq.trans (spec_DO_l4 ws sc e o _ _ _ _ _ _ _ _ _ (g1.trans (List.length_map ..)) (g2.trans (List.length_map ..)) _ (Int.toNat ((0 + e.length : Int) - (0 : Int)) + 1) 0 ω2 ω2) ?_
  exact spec_List_val _
theorem dropW_len (ws : LN) (sc : Nat) (e o : LN) : (dropW ws sc e o).length = e.length + min e.length o.length := by
 unfold dropW dropE dropO
 obtain ⟨g1, g2⟩ := dfS_length ws ws.length (e.map fun x => fdiv .f32 x sc) (o.map fun x => fmul .f32 x sc)
 cases decide ((0 : Int) < (0 + o.length : Int)) with
 | false => rw [cond_false, wv_len]
 | true => rw [cond_true, wv_len, g2, List.length_map]
theorem spec_DO_ok (ws : LN) (sc : Nat) (e o : LN) (h : (p_faz ws sc e o).2 = true) : (p_faz ws sc e o).1 = dropW ws sc e o ∧ p_foz (dropW ws sc e o) = true := by
 rw [spec_DropOnce_val, p_f14z_eq] at h ⊢
 cases hf : p_foz (dropW ws sc e o) with
 | true => exact ⟨rfl, rfl⟩
 | false => rw [hf] at h; cases h
theorem spec_DO_len (ws : LN) (sc : Nat) (e o : LN) : (p_faz ws sc e o).1.length ≤ 2 * e.length := by
 rw [spec_DropOnce_val, p_f14z_eq]
 have := dropW_len ws sc e o
 cases p_foz (dropW ws sc e o) with
 | true => show (dropW ws sc e o).length ≤ _; omega
 | false => exact Nat.zero_le _
/-! faz: function 51 -/
def E_faz : Env := envOf [(58, S_f11z), (77, S_f14z)]
def F_faz : List Value → AHeap → (Value → AHeap → Prop) → Prop
 | [.pointer (some ⟨s, 0, none⟩), .slice mf ub qf, .slice rf ec fg], H, K => T_faz s mf ub qf rf ec fg H fun (cd : OA) (ld : Nat) (jd : Nat) (r2 : Bool) (H' : AHeap) => K (.tuple #[.slice cd ld jd, .bool r2]) H'
 | _, _, _ => False
def S_faz : FSpec := { F := F_faz, quiet := false, tame := true }
theorem faz_vc (s : Nat) (mf : OA) (ub : Nat) (qf : Nat) (rf : OA) (ec : Nat) (fg : Nat) (H : AHeap) (K : Value → AHeap → Prop) : bodyL Try.prog E_faz Try.f51 [.pointer (some ⟨s, 0, none⟩), .slice mf ub qf, .slice rf ec fg] H K =
 (Al [] H fun b1 H1 => ∃ o1 w1 : List Value, ownB H1 (some ⟨b1, 0, none⟩) 0 1 1 = some o1 ∧ rdS H1 mf (ub * 1) = some w1 ∧ ((some ⟨b1, 0, none⟩ : OA) = none → 0 < (ub : Nat)) ∧ (0 : Nat) + ub < most ∧ Ap H1 (killB H1 (some ⟨b1, 0, none⟩) ++ [some ⟨o1 ++ w1, true⟩]) fun b2 H2 => Al [] H2 fun b3 H3 => ∃ o2 w2 : List Value, ownB H3 (some ⟨b3, 0, none⟩) 0 1 1 = some o2 ∧ rdS H3 rf (ec * 1) = some w2 ∧ ((some ⟨b3, 0, none⟩ : OA) = none → 0 < (ec : Nat)) ∧ (0 : Nat) + ec < most ∧ Ap H3 (killB H3 (some ⟨b3, 0, none⟩) ++ [some ⟨o2 ++ w2, true⟩]) fun b4 H4 => Br (decide ((0 : Int) < (0 + ec : Int))) (loopK (exL Try.prog E_faz (cl (cl (cr (cl (cl (cr (cl (cr (cr (cr (bodyC Try.f51))))))))))) 1793 192 [(0, 769)]) (.pointer (some ⟨s, 0, none⟩) :: ud7 (.slice (some ⟨b2, 0, none⟩) (0 + ub) 1 :: .slice (some ⟨b4, 0, none⟩) (0 + ec) 1 :: .int .i64 0 :: ud100 [])) H4 (blockQ 0 (seqQ (exL Try.prog E_faz (cr (cl (cr (cl (cr (cr (cr (bodyC Try.f51)))))))) 768 192 []) (seqQ (exL Try.prog E_faz (cr (cr (cr (cr (bodyC Try.f51))))) 192 192 []) (retK Try.prog Try.f51 K))))) (Al [] H4 fun b17 H14 => loopK (exL Try.prog E_faz (cl (cl (cr (cl (cr (cr (cr (cr (cr (bodyC Try.f51)))))))))) 25344 192 [(6, 8192)]) (ud8 (.slice (some ⟨b2, 0, none⟩) (0 + ub) 1 :: .slice (some ⟨b4, 0, none⟩) (0 + ec) 1 :: ud3 (.slice (some ⟨b17, 0, none⟩) 0 1 :: .int .i64 0 :: ud96 []))) H14 (blockQ 6 (seqQ (exL Try.prog E_faz (cr (cr (cr (cr (cr (cr (bodyC Try.f51))))))) 192 192 []) (retK Try.prog Try.f51 K))))) := by kernel_rfl
abbrev faz_P1 (b2 : Nat) (b4 : Nat) (ub : Nat) (ec : Nat) (s : Nat) (i : Int)  : List Value := (.pointer (some ⟨s, 0, none⟩) :: ud7 (.slice (some ⟨b2, 0, none⟩) (0 + ub) 1 :: .slice (some ⟨b4, 0, none⟩) (0 + ec) 1 :: .int .i64 i :: ud100 []))
theorem faz_r1 (b2 : Nat) (b4 : Nat) (ub : Nat) (ec : Nat) (s : Nat) (i : Int)  (H : AHeap) (R : Post) : exL Try.prog E_faz (cl (cl (cr (cl (cl (cr (cl (cr (cr (cr (bodyC Try.f51))))))))))) 1793 192 [(0, 769)] (faz_P1 b2 b4 ub ec s i) H R =
 (Br (decide ((i : Int) < (0 + ub : Int))) ((0 : Int) ≤ i ∧ i < (0 + ub : Int) ∧ ∃ b5 f1, (some ⟨b2, 0, none⟩ : OA) = some ⟨b5, f1, none⟩ ∧ ∃ x1 : Nat,  rdC H b5 (f1 + (i : Int).toNat * 1) = some (.float .f32 x1) ∧ ∃ x2 : Nat,  rdC H s 1 = some (.float .f32 x2) ∧ (0 : Int) ≤ i ∧ i < (0 + ub : Int) ∧ ∃ b6 f2, (some ⟨b2, 0, none⟩ : OA) = some ⟨b6, f2, none⟩ ∧ isOwn H b6 ∧ (∃ l, rdN H b6 (f2 + (i : Int).toNat * 1) 1 = some l) ∧ Lt (setC H b6 (f2 + (i : Int).toNat * 1) (.float .f32 (fdiv .f32 x1 x2))) fun H5 => R .normal (.pointer (some ⟨s, 0, none⟩) :: ud7 (.slice (some ⟨b2, 0, none⟩) (0 + ub) 1 :: .slice (some ⟨b4, 0, none⟩) (0 + ec) 1 :: .int .i64 (IntKind.wrap .i64 (i + 1)) :: ud100 [])) H5) (R (.exit 0) (.pointer (some ⟨s, 0, none⟩) :: ud7 (.slice (some ⟨b2, 0, none⟩) (0 + ub) 1 :: .slice (some ⟨b4, 0, none⟩) (0 + ec) 1 :: ud101 [])) H)) := by kernel_rfl
def faz_I1 (b2 : Nat) (b4 : Nat) (ub : Nat) (ec : Nat) (s : Nat) (Inv : Nat → Int → AHeap → Prop) : Nat → List Value → AHeap → Prop := fun μ tm H => ∃ (i : Int), tm = (faz_P1 b2 b4 ub ec s i) ∧ Inv μ i H
theorem faz_L1 (b2 : Nat) (b4 : Nat) (ub : Nat) (ec : Nat) (s : Nat) {Q : Post} (Inv : Nat → Int → AHeap → Prop) (ν : Nat) (i : Int)  (H : AHeap) (h0 : Inv ν i H)
  (hs : ∀ (μ : Nat) (i : Int)  (H : AHeap), Inv μ i H → exL Try.prog E_faz (cl (cl (cr (cl (cl (cr (cl (cr (cr (cr (bodyC Try.f51))))))))))) 1793 192 [(0, 769)] (faz_P1 b2 b4 ub ec s i) H (loopQ (faz_I1 b2 b4 ub ec s Inv) μ Q)) : loopK (exL Try.prog E_faz (cl (cl (cr (cl (cl (cr (cl (cr (cr (cr (bodyC Try.f51))))))))))) 1793 192 [(0, 769)]) (faz_P1 b2 b4 ub ec s i) H Q :=
 ⟨faz_I1 b2 b4 ub ec s Inv, ν, ⟨i, rfl, h0⟩, fun μ tm H h => by obtain ⟨i, rfl, hI⟩ := h; exact hs μ i  H hI⟩
theorem faz_n1 {b2 : Nat} {b4 : Nat} {ub : Nat} {ec : Nat} {s : Nat} {Q : Post} {Inv : Nat → Int → AHeap → Prop} {μ : Nat} (μ' : Nat) {i : Int}  {H : AHeap} (hm : μ' < μ) (hI : Inv μ' i H) : loopQ (faz_I1 b2 b4 ub ec s Inv) μ Q .normal (faz_P1 b2 b4 ub ec s i) H := ⟨μ', hm, i, rfl, hI⟩
theorem faz_x1_0 (b2 : Nat) (b4 : Nat) (ub : Nat) (ec : Nat) (s : Nat) (H : AHeap) (K : Value → AHeap → Prop)  {I : Nat → List Value → AHeap → Prop} {μ : Nat} : loopQ I μ (blockQ 0 (seqQ (exL Try.prog E_faz (cr (cl (cr (cl (cr (cr (cr (bodyC Try.f51)))))))) 768 192 []) (seqQ (exL Try.prog E_faz (cr (cr (cr (cr (bodyC Try.f51))))) 192 192 []) (retK Try.prog Try.f51 K)))) (.exit 0) (.pointer (some ⟨s, 0, none⟩) :: ud7 (.slice (some ⟨b2, 0, none⟩) (0 + ub) 1 :: .slice (some ⟨b4, 0, none⟩) (0 + ec) 1 :: ud101 [])) H =
 (loopK (exL Try.prog E_faz (cl (cl (cr (cl (cr (cl (cr (cl (cr (cr (cr (bodyC Try.f51)))))))))))) 2817 192 [(2, 769)]) (.pointer (some ⟨s, 0, none⟩) :: ud7 (.slice (some ⟨b2, 0, none⟩) (0 + ub) 1 :: .slice (some ⟨b4, 0, none⟩) (0 + ec) 1 :: ud :: .int .i64 0 :: ud99 [])) H (blockQ 2 (seqQ (exL Try.prog E_faz (cr (cr (cl (cr (cl (cr (cr (cr (bodyC Try.f51))))))))) 768 192 []) (seqQ (exL Try.prog E_faz (cr (cr (cr (cr (bodyC Try.f51))))) 192 192 []) (retK Try.prog Try.f51 K))))) := by kernel_rfl
abbrev faz_P2 (b2 : Nat) (b4 : Nat) (ub : Nat) (ec : Nat) (s : Nat) (zd : Int)  : List Value := (.pointer (some ⟨s, 0, none⟩) :: ud7 (.slice (some ⟨b2, 0, none⟩) (0 + ub) 1 :: .slice (some ⟨b4, 0, none⟩) (0 + ec) 1 :: ud :: .int .i64 zd :: ud99 []))
theorem faz_r2 (b2 : Nat) (b4 : Nat) (ub : Nat) (ec : Nat) (s : Nat) (zd : Int)  (H : AHeap) (R : Post) : exL Try.prog E_faz (cl (cl (cr (cl (cr (cl (cr (cl (cr (cr (cr (bodyC Try.f51)))))))))))) 2817 192 [(2, 769)] (faz_P2 b2 b4 ub ec s zd) H R =
 (Br (decide ((zd : Int) < (0 + ec : Int))) ((0 : Int) ≤ zd ∧ zd < (0 + ec : Int) ∧ ∃ b7 f3, (some ⟨b4, 0, none⟩ : OA) = some ⟨b7, f3, none⟩ ∧ ∃ x3 : Nat,  rdC H b7 (f3 + (zd : Int).toNat * 1) = some (.float .f32 x3) ∧ ∃ x4 : Nat,  rdC H s 1 = some (.float .f32 x4) ∧ (0 : Int) ≤ zd ∧ zd < (0 + ec : Int) ∧ ∃ b8 f4, (some ⟨b4, 0, none⟩ : OA) = some ⟨b8, f4, none⟩ ∧ isOwn H b8 ∧ (∃ l, rdN H b8 (f4 + (zd : Int).toNat * 1) 1 = some l) ∧ Lt (setC H b8 (f4 + (zd : Int).toNat * 1) (.float .f32 (fmul .f32 x3 x4))) fun H6 => R .normal (.pointer (some ⟨s, 0, none⟩) :: ud7 (.slice (some ⟨b2, 0, none⟩) (0 + ub) 1 :: .slice (some ⟨b4, 0, none⟩) (0 + ec) 1 :: ud :: .int .i64 (IntKind.wrap .i64 (zd + 1)) :: ud99 [])) H6) (R (.exit 2) (.pointer (some ⟨s, 0, none⟩) :: ud7 (.slice (some ⟨b2, 0, none⟩) (0 + ub) 1 :: .slice (some ⟨b4, 0, none⟩) (0 + ec) 1 :: ud101 [])) H)) := by kernel_rfl
def faz_I2 (b2 : Nat) (b4 : Nat) (ub : Nat) (ec : Nat) (s : Nat) (Inv : Nat → Int → AHeap → Prop) : Nat → List Value → AHeap → Prop := fun μ tm H => ∃ (zd : Int), tm = (faz_P2 b2 b4 ub ec s zd) ∧ Inv μ zd H
theorem faz_L2 (b2 : Nat) (b4 : Nat) (ub : Nat) (ec : Nat) (s : Nat) {Q : Post} (Inv : Nat → Int → AHeap → Prop) (ν : Nat) (zd : Int)  (H : AHeap) (h0 : Inv ν zd H)
  (hs : ∀ (μ : Nat) (zd : Int)  (H : AHeap), Inv μ zd H → exL Try.prog E_faz (cl (cl (cr (cl (cr (cl (cr (cl (cr (cr (cr (bodyC Try.f51)))))))))))) 2817 192 [(2, 769)] (faz_P2 b2 b4 ub ec s zd) H (loopQ (faz_I2 b2 b4 ub ec s Inv) μ Q)) : loopK (exL Try.prog E_faz (cl (cl (cr (cl (cr (cl (cr (cl (cr (cr (cr (bodyC Try.f51)))))))))))) 2817 192 [(2, 769)]) (faz_P2 b2 b4 ub ec s zd) H Q :=
 ⟨faz_I2 b2 b4 ub ec s Inv, ν, ⟨zd, rfl, h0⟩, fun μ tm H h => by obtain ⟨zd, rfl, hI⟩ := h; exact hs μ zd  H hI⟩
theorem faz_n2 {b2 : Nat} {b4 : Nat} {ub : Nat} {ec : Nat} {s : Nat} {Q : Post} {Inv : Nat → Int → AHeap → Prop} {μ : Nat} (μ' : Nat) {zd : Int}  {H : AHeap} (hm : μ' < μ) (hI : Inv μ' zd H) : loopQ (faz_I2 b2 b4 ub ec s Inv) μ Q .normal (faz_P2 b2 b4 ub ec s zd) H := ⟨μ', hm, zd, rfl, hI⟩
theorem faz_x2_2 (b2 : Nat) (b4 : Nat) (ub : Nat) (ec : Nat) (s : Nat) (H : AHeap) (K : Value → AHeap → Prop)  {I : Nat → List Value → AHeap → Prop} {μ : Nat} : loopQ I μ (blockQ 2 (seqQ (exL Try.prog E_faz (cr (cr (cl (cr (cl (cr (cr (cr (bodyC Try.f51))))))))) 768 192 []) (seqQ (exL Try.prog E_faz (cr (cr (cr (cr (bodyC Try.f51))))) 192 192 []) (retK Try.prog Try.f51 K)))) (.exit 2) (.pointer (some ⟨s, 0, none⟩) :: ud7 (.slice (some ⟨b2, 0, none⟩) (0 + ub) 1 :: .slice (some ⟨b4, 0, none⟩) (0 + ec) 1 :: ud101 [])) H =
 (∃ jg : OA, ∃ ig : Nat, ∃ pg : Nat,  rdC H s 0 = some (.slice jg ig pg) ∧ loopK (exL Try.prog E_faz (cl (cl (cr (cr (cr (cl (cr (cl (cr (cr (cr (bodyC Try.f51)))))))))))) 4865 192 [(4, 768)]) (.pointer (some ⟨s, 0, none⟩) :: ud7 (.slice (some ⟨b2, 0, none⟩) (0 + ub) 1 :: .slice (some ⟨b4, 0, none⟩) (0 + ec) 1 :: ud2 (.int .i64 (IntKind.wrap .i64 ((ig : Int) - 1)) :: ud98 []))) H (blockQ 4 (seqQ (exL Try.prog E_faz (cr (cr (cr (cr (bodyC Try.f51))))) 192 192 []) (retK Try.prog Try.f51 K)))) := by kernel_rfl
abbrev faz_P3 (b2 : Nat) (b4 : Nat) (ub : Nat) (ec : Nat) (s : Nat) (k : Int)  : List Value := (.pointer (some ⟨s, 0, none⟩) :: ud7 (.slice (some ⟨b2, 0, none⟩) (0 + ub) 1 :: .slice (some ⟨b4, 0, none⟩) (0 + ec) 1 :: ud2 (.int .i64 k :: ud98 [])))
theorem faz_r3 (b2 : Nat) (b4 : Nat) (ub : Nat) (ec : Nat) (s : Nat) (k : Int)  (H : AHeap) (R : Post) : exL Try.prog E_faz (cl (cl (cr (cr (cr (cl (cr (cl (cr (cr (cr (bodyC Try.f51)))))))))))) 4865 192 [(4, 768)] (faz_P3 b2 b4 ub ec s k) H R =
 (Br (decide ((0 : Int) ≤ k)) (∃ gf : OA, ∃ ff : Nat, ∃ jf : Nat,  rdC H s 0 = some (.slice gf ff jf) ∧ (0 : Int) ≤ k ∧ k < (ff : Int) ∧ ∃ b9 f5, (gf : OA) = some ⟨b9, f5, none⟩ ∧ ∃ x7 : Nat,  rdC H b9 (f5 + (k : Int).toNat * 1) = some (.float .f32 x7) ∧ T_f11z (some ⟨b2, 0, none⟩) (0 + ub) 1 (some ⟨b4, 0, none⟩) (0 + ec) 1 k (fneg .f32 x7) H fun  (H7 : AHeap) => R .normal (.pointer (some ⟨s, 0, none⟩) :: ud7 (.slice (some ⟨b2, 0, none⟩) (0 + ub) 1 :: .slice (some ⟨b4, 0, none⟩) (0 + ec) 1 :: ud2 (.int .i64 (IntKind.wrap .i64 (k - 1)) :: ud98 []))) H7) (R (.exit 4) (ud8 (.slice (some ⟨b2, 0, none⟩) (0 + ub) 1 :: .slice (some ⟨b4, 0, none⟩) (0 + ec) 1 :: ud101 [])) H)) := by kernel_rfl
def faz_I3 (b2 : Nat) (b4 : Nat) (ub : Nat) (ec : Nat) (s : Nat) (Inv : Nat → Int → AHeap → Prop) : Nat → List Value → AHeap → Prop := fun μ tm H => ∃ (k : Int), tm = (faz_P3 b2 b4 ub ec s k) ∧ Inv μ k H
theorem faz_L3 (b2 : Nat) (b4 : Nat) (ub : Nat) (ec : Nat) (s : Nat) {Q : Post} (Inv : Nat → Int → AHeap → Prop) (ν : Nat) (k : Int)  (H : AHeap) (h0 : Inv ν k H)
  (hs : ∀ (μ : Nat) (k : Int)  (H : AHeap), Inv μ k H → exL Try.prog E_faz (cl (cl (cr (cr (cr (cl (cr (cl (cr (cr (cr (bodyC Try.f51)))))))))))) 4865 192 [(4, 768)] (faz_P3 b2 b4 ub ec s k) H (loopQ (faz_I3 b2 b4 ub ec s Inv) μ Q)) : loopK (exL Try.prog E_faz (cl (cl (cr (cr (cr (cl (cr (cl (cr (cr (cr (bodyC Try.f51)))))))))))) 4865 192 [(4, 768)]) (faz_P3 b2 b4 ub ec s k) H Q :=
 ⟨faz_I3 b2 b4 ub ec s Inv, ν, ⟨k, rfl, h0⟩, fun μ tm H h => by obtain ⟨k, rfl, hI⟩ := h; exact hs μ k  H hI⟩
theorem faz_n3 {b2 : Nat} {b4 : Nat} {ub : Nat} {ec : Nat} {s : Nat} {Q : Post} {Inv : Nat → Int → AHeap → Prop} {μ : Nat} (μ' : Nat) {k : Int}  {H : AHeap} (hm : μ' < μ) (hI : Inv μ' k H) : loopQ (faz_I3 b2 b4 ub ec s Inv) μ Q .normal (faz_P3 b2 b4 ub ec s k) H := ⟨μ', hm, k, rfl, hI⟩
theorem faz_x3_4 (b2 : Nat) (b4 : Nat) (ub : Nat) (ec : Nat) (H : AHeap) (K : Value → AHeap → Prop)  {I : Nat → List Value → AHeap → Prop} {μ : Nat} : loopQ I μ (blockQ 4 (seqQ (exL Try.prog E_faz (cr (cr (cr (cr (bodyC Try.f51))))) 192 192 []) (retK Try.prog Try.f51 K))) (.exit 4) (ud8 (.slice (some ⟨b2, 0, none⟩) (0 + ub) 1 :: .slice (some ⟨b4, 0, none⟩) (0 + ec) 1 :: ud101 [])) H =
 (Al [] H fun b10 H8 => loopK (exL Try.prog E_faz (cl (cl (cr (cl (cr (cr (cr (cr (cr (bodyC Try.f51)))))))))) 25344 192 [(6, 8192)]) (ud8 (.slice (some ⟨b2, 0, none⟩) (0 + ub) 1 :: .slice (some ⟨b4, 0, none⟩) (0 + ec) 1 :: ud3 (.slice (some ⟨b10, 0, none⟩) 0 1 :: .int .i64 0 :: ud96 []))) H8 (blockQ 6 (seqQ (exL Try.prog E_faz (cr (cr (cr (cr (cr (cr (bodyC Try.f51))))))) 192 192 []) (retK Try.prog Try.f51 K)))) := by kernel_rfl
abbrev faz_P4 (b2 : Nat) (b4 : Nat) (ub : Nat) (ec : Nat) (nc : OA) (lc : Nat) (xc : Nat) (td : Int)  : List Value := (ud8 (.slice (some ⟨b2, 0, none⟩) (0 + ub) 1 :: .slice (some ⟨b4, 0, none⟩) (0 + ec) 1 :: ud3 (.slice nc lc xc :: .int .i64 td :: ud96 [])))
theorem faz_r4 (b2 : Nat) (b4 : Nat) (ub : Nat) (ec : Nat) (nc : OA) (lc : Nat) (xc : Nat) (td : Int)  (H : AHeap) (R : Post) : exL Try.prog E_faz (cl (cl (cr (cl (cr (cr (cr (cr (cr (bodyC Try.f51)))))))))) 25344 192 [(6, 8192)] (faz_P4 b2 b4 ub ec nc lc xc td) H R =
 (Br (decide ((td : Int) < (0 + ub : Int))) ((0 : Int) ≤ td ∧ td < (0 + ub : Int) ∧ ∃ b11 f6, (some ⟨b2, 0, none⟩ : OA) = some ⟨b11, f6, none⟩ ∧ ∃ x8 : Nat,  rdC H b11 (f6 + (td : Int).toNat * 1) = some (.float .f32 x8) ∧ Al [.float .f32 x8] H fun b12 H9 => ∃ o3 w3 : List Value, ownB H9 nc lc xc 1 = some o3 ∧ rdS H9 (some ⟨b12, 0, none⟩) (1 * 1) = some w3 ∧ ((nc : OA) = none → 0 < (1 : Nat)) ∧ (lc : Nat) + 1 < most ∧ Ap H9 (killB H9 nc ++ [some ⟨o3 ++ w3, true⟩]) fun b13 H10 => Br (decide ((td : Int) < (0 + ec : Int))) ((0 : Int) ≤ td ∧ td < (0 + ec : Int) ∧ ∃ b14 f7, (some ⟨b4, 0, none⟩ : OA) = some ⟨b14, f7, none⟩ ∧ ∃ x9 : Nat,  rdC H10 b14 (f7 + (td : Int).toNat * 1) = some (.float .f32 x9) ∧ Al [.float .f32 x9] H10 fun b15 H11 => ∃ o4 w4 : List Value, ownB H11 (some ⟨b13, 0, none⟩) (lc + 1) 1 1 = some o4 ∧ rdS H11 (some ⟨b15, 0, none⟩) (1 * 1) = some w4 ∧ ((some ⟨b13, 0, none⟩ : OA) = none → 0 < (1 : Nat)) ∧ (lc + 1 : Nat) + 1 < most ∧ Ap H11 (killB H11 (some ⟨b13, 0, none⟩) ++ [some ⟨o4 ++ w4, true⟩]) fun b16 H12 => R .normal (ud8 (.slice (some ⟨b2, 0, none⟩) (0 + ub) 1 :: .slice (some ⟨b4, 0, none⟩) (0 + ec) 1 :: ud3 (.slice (some ⟨b16, 0, none⟩) ((lc + 1) + 1) 1 :: .int .i64 (IntKind.wrap .i64 (td + 1)) :: ud96 []))) H12) (R .normal (ud8 (.slice (some ⟨b2, 0, none⟩) (0 + ub) 1 :: .slice (some ⟨b4, 0, none⟩) (0 + ec) 1 :: ud3 (.slice (some ⟨b13, 0, none⟩) (lc + 1) 1 :: .int .i64 (IntKind.wrap .i64 (td + 1)) :: ud96 []))) H10)) (R (.exit 6) (ud13 (.slice nc lc xc :: ud97 [])) H)) := by kernel_rfl
def faz_I4 (b2 : Nat) (b4 : Nat) (ub : Nat) (ec : Nat) (Inv : Nat → OA → Nat → Nat → Int → AHeap → Prop) : Nat → List Value → AHeap → Prop := fun μ tm H => ∃ (nc : OA), ∃ (lc : Nat), ∃ (xc : Nat), ∃ (td : Int), tm = (faz_P4 b2 b4 ub ec nc lc xc td) ∧ Inv μ nc lc xc td H
theorem faz_L4 (b2 : Nat) (b4 : Nat) (ub : Nat) (ec : Nat) {Q : Post} (Inv : Nat → OA → Nat → Nat → Int → AHeap → Prop) (ν : Nat) (nc : OA) (lc : Nat) (xc : Nat) (td : Int)  (H : AHeap) (h0 : Inv ν nc lc xc td H)
  (hs : ∀ (μ : Nat) (nc : OA) (lc : Nat) (xc : Nat) (td : Int)  (H : AHeap), Inv μ nc lc xc td H → exL Try.prog E_faz (cl (cl (cr (cl (cr (cr (cr (cr (cr (bodyC Try.f51)))))))))) 25344 192 [(6, 8192)] (faz_P4 b2 b4 ub ec nc lc xc td) H (loopQ (faz_I4 b2 b4 ub ec Inv) μ Q)) : loopK (exL Try.prog E_faz (cl (cl (cr (cl (cr (cr (cr (cr (cr (bodyC Try.f51)))))))))) 25344 192 [(6, 8192)]) (faz_P4 b2 b4 ub ec nc lc xc td) H Q :=
 ⟨faz_I4 b2 b4 ub ec Inv, ν, ⟨nc, lc, xc, td, rfl, h0⟩, fun μ tm H h => by obtain ⟨nc, lc, xc, td, rfl, hI⟩ := h; exact hs μ nc lc xc td  H hI⟩
theorem faz_n4 {b2 : Nat} {b4 : Nat} {ub : Nat} {ec : Nat} {Q : Post} {Inv : Nat → OA → Nat → Nat → Int → AHeap → Prop} {μ : Nat} (μ' : Nat) {nc : OA} {lc : Nat} {xc : Nat} {td : Int}  {H : AHeap} (hm : μ' < μ) (hI : Inv μ' nc lc xc td H) : loopQ (faz_I4 b2 b4 ub ec Inv) μ Q .normal (faz_P4 b2 b4 ub ec nc lc xc td) H := ⟨μ', hm, nc, lc, xc, td, rfl, hI⟩
theorem faz_x4_6 (nc : OA) (lc : Nat) (xc : Nat) (H : AHeap) (K : Value → AHeap → Prop)  {I : Nat → List Value → AHeap → Prop} {μ : Nat} : loopQ I μ (blockQ 6 (seqQ (exL Try.prog E_faz (cr (cr (cr (cr (cr (cr (bodyC Try.f51))))))) 192 192 []) (retK Try.prog Try.f51 K))) (.exit 6) (ud13 (.slice nc lc xc :: ud97 [])) H =
 (T_f14z nc lc xc H fun (a1 : OA) (r1 : Nat) (r2 : Nat) (r3 : Bool) (H13 : AHeap) => K (.tuple #[.slice a1 r1 r2, .bool r3]) H13) := by kernel_rfl
theorem E_faz_ok : ∀ g, FnOk Try.prog g (E_faz g) := FnOk.envOf (by
 intro x hx
 simp only [List.mem_cons, List.not_mem_nil, or_false] at hx
 rcases hx with rfl | rfl
 ·exact f11z_ok
 ·exact f14z_ok)
theorem ω4 {P : Prop} (h : P := by first | (simp only [List.length_map, List.length_cons, List.length_nil, List.length_append]; done) | (simp only [List.length_map, List.length_cons, List.length_nil, List.length_append]; omega) | (simp only [List.length_map, List.length_cons, List.length_nil, List.length_append, List.length_take, List.length_drop]; omega)) : P := h
theorem ω18 {P : Prop} (h : P := by first | assumption | omega | (simp only [List.length_set, wLowS_length, wHighS_length]; first | rfl | assumption | omega)) : P := h
theorem ω20 {P : Prop} (h : P := by rw [show μ2 - 1 + 1 = μ2 from by first | omega]; exact e) : P := h
theorem ω5 {P : Prop} (h : P := by first | omega | (simp only [List.length_append, List.length_cons, List.length_nil]; done) | (simp only [List.length_append, List.length_cons, List.length_nil]; omega) | (simp only [List.length_append, List.length_cons, List.length_nil, List.length_take, List.length_drop]; omega)) : P := h
theorem ω21 {P : Prop} (h : P := by rw [show μ3 - 1 + 1 = μ3 from by first | omega]; exact e) : P := h
theorem ω7 {P : Prop} (h : P := by first | rfl | omega | (simp only [List.length_set]; done) | (simp only [List.length_set, List.length_replicate]; omega)) : P := h
theorem ω15 {P : Prop} (h : P := by first | exact OwnS.nil _ _ _ _ | exact OwnT.nil _ _ _ | exact OwnLL.nil _ _ _ _) : P := h
theorem faz_main (s : Nat) (mf : OA) (ub : Nat) (qf : Nat) (rf : OA) (ec : Nat) (fg : Nat) (H : AHeap) (K : Value → AHeap → Prop) (h : T_faz s mf ub qf rf ec fg H fun (cd : OA) (ld : Nat) (jd : Nat) (r2 : Bool) (H' : AHeap) => K (.tuple #[.slice cd ld jd, .bool r2]) H') : bodyL Try.prog E_faz Try.f51 [.pointer (some ⟨s, 0, none⟩), .slice mf ub qf, .slice rf ec fg] H K := by
 rw [faz_vc]
 obtain ⟨sa, gb, jb, sp_Scale, aa, tb, mc, i_s, i_sp_Weights, i_even, i_odd, bd_351, bd_352, bd_353, pr0, pr1, pr2, hk⟩ := h
 obtain rfl := i_sp_Weights.eqn
 obtain rfl := i_even.eqn
 obtain rfl := i_odd.eqn
 have e : (p_faz aa sp_Scale tb mc) = _ := rfl
 have e := e.trans (p_faz_eq aa sp_Scale tb mc)
 have g0 := Grow.refl H
 refine Al.intro (fun b_1 H_1 hb_2 hl_3 g_4 o_5 => ?_)
 have o_5 : Own H_1 b_1 ((([] : LN)).map fF) := o_5
 have l_7 := g_4.1
 have g_8 := g0.trans g_4
 have l_9 := g_8.1
 have w350 := o_5.lt
 refine ⟨_, _, o_5.ownB ω4 rfl, (isl_rdS (i_even.grow g_8)), (fun h => by cases h), ω19, ?_⟩
 refine Ap.app o_5 rfl rfl (fun b_14 H_2 q348 hl_10 o11 k_12 => ?_)
 have o11 := map_snoc o11
 have l_15 := k_12.1
 have g16 := g_8.keep (b := b_1) ω2 k_12
 have l_17 := g16.1
 have w349 := o11.lt
 refine Al.intro (fun b18 H_3 hb_19 hl_20 g21 o22 => ?_)
 have o22 : Own H_3 b18 ((([] : LN)).map fF) := o22
 have l24 := g21.1
 have g_25 := g16.trans g21
 have l26 := g_25.1
 have o27 := o11.grow g21
 have w28 := o27.lt
 have w347 := o22.lt
 refine ⟨_, _, o22.ownB ω4 rfl, (isl_rdS (i_odd.grow g_25)), (fun h => by cases h), ω19, ?_⟩
 refine Ap.app o22 rfl rfl (fun b33 H_4 q345 hl_29 o30 k31 => ?_)
 have o30 := map_snoc o30
 have l34 := k31.1
 have g35 := g_25.keep (b := b18) ω2 k31
 have l36 := g35.1
 have o37 := o27.keep ω2 k31
 have w38 := o37.lt
 have w346 := o30.lt
 refine Br.intro (fun c_39 => ?_) (fun c_39 => ?_)
 ·have e := e.trans (cond_t c_39)
  have c_39' := of_decide_eq_true c_39
  refine faz_L1 _ _ _ _ _ (fun (μ : Nat) (i : Int) (H_5 : AHeap) => ∃ (y1_1 : LN), ∃ (y1_2 : LN), Own H_5 b_14 (y1_1.map fF) ∧ y1_1.length = (0 + (tb).length) ∧ Own H_5 b33 (y1_2.map fF) ∧ y1_2.length = (0 + (mc).length) ∧ (b33 ≠ b_14) ∧ Grow H H_5 ∧ (0 : Int) ≤ i ∧ i ≤ (0 + tb.length : Int) ∧ (0 + tb.length : Int) - i ≤ (μ : Int) ∧ p_faz aa sp_Scale tb mc = p_faz_l1 aa sp_Scale tb mc (μ + 1) i y1_1 y1_2) (Int.toNat ((0 + tb.length : Int) - (0 : Int))) _ H_4 ?_ ?_
  ·exact ⟨_, _, o37, ω11, o30, ω11, ω2, g35, ω6, ω6, ω2, e⟩
  ·intro μ i  H_5 hI
   obtain ⟨y1_1, y1_2, o40, y41, o42, y43, n44, g45, v_46, v_47, hμ, e⟩ := hI
   rw [faz_r1]
   have e := e.trans (p_faz_l1_s aa sp_Scale tb mc μ i y1_1 y1_2)
   have w48 := o40.lt
   have w49 := o42.lt
   have l50 := g45.1
   refine Br.intro (fun c_51 => ?_) (fun c_51 => ?_)
   ·have e := e.trans (cond_t c_51)
    have c_51' := of_decide_eq_true c_51
    refine ⟨by omega, ω2, _, _, rfl, ?_⟩
    refine ⟨((y1_1).getD (i : Int).toNat 0), o40.rd ω0 _, ?_⟩
    refine ⟨sp_Scale, (rdN_at (rdN_grow g45 i_s) 1 (Nat.le_of_ble_eq_true rfl)).trans rfl, ?_⟩
    refine ⟨by omega, ω2, _, _, rfl, ?_⟩
    refine Lt.set o40 ω13 (fun H_6 hl_52 o54 k53 => ?_)
    have o54 := map_set o54
    have l55 := k53.1
    have g56 := g45.keep (b := b_14) ω2 k53
    have l57 := g56.1
    have o58 := o42.keep ω2 k53
    have w59 := o58.lt
    have w60 := o54.lt
    rw [show IntKind.wrap .i64 (i + 1) = (i + 1) from wrap64 ω2 ω2]
    refine faz_n1 (μ - 1) ω16 ⟨_, _, o54, ω18, o58, ω18, ω2, g56, ω1, ω1, ω16, ω12⟩
   ·have e := e.trans (cond_f c_51)
    have c_51' := of_decide_eq_false c_51
    rw [faz_x1_0]
    refine faz_L2 _ _ _ _ _ (fun (μ2 : Nat) (zd : Int) (H_7 : AHeap) => ∃ (y2_1 : LN), ∃ (y2_2 : LN), Own H_7 b_14 (y2_1.map fF) ∧ y2_1.length = (0 + (tb).length) ∧ Own H_7 b33 (y2_2.map fF) ∧ y2_2.length = (0 + (mc).length) ∧ (b33 ≠ b_14) ∧ Grow H H_7 ∧ (0 : Int) ≤ zd ∧ zd ≤ (0 + mc.length : Int) ∧ (0 + mc.length : Int) - zd ≤ (μ2 : Int) ∧ p_faz aa sp_Scale tb mc = p_faz_l2 aa sp_Scale tb mc i y1_1 y1_2 (fun (zd : Int) (y2_1 : LN) (y2_2 : LN) => (p_faz_l3 aa sp_Scale tb mc i y1_1 y1_2 zd y2_1 y2_2 (fun (k : Int) (y3_1 : LN) (y3_2 : LN) => (p_faz_l4 aa sp_Scale tb mc i y1_1 y1_2 zd y2_1 y2_2 k y3_1 y3_2 (fun (tc : LN) (td : Int) => (bif (p_f14z tc).2 then (tc, true) else ([], false))) (Int.toNat ((0 + tb.length : Int) - (0 : Int)) + 1) ([] : LN) (0 : Int))) (Int.toNat (((((aa.length : Int) - 1))) - 0 + 1) + 1) ((((aa.length : Int) - 1))) y2_1 y2_2)) (μ2 + 1) zd y2_1 y2_2) (Int.toNat ((0 + mc.length : Int) - (0 : Int))) _ H_5 ?_ ?_
    ·exact ⟨_, _, o40, ω11, o42, ω11, ω2, g45, ω6, ω6, ω2, e⟩
    ·intro μ2 zd  H_7 hI
     obtain ⟨y2_1, y2_2, o61, y62, o63, y64, n65, g66, v_67, v_68, hμ, e⟩ := hI
     rw [faz_r2]
     have e := e.trans (p_faz_l2_s aa sp_Scale tb mc i y1_1 y1_2 (fun (zd : Int) (y2_1 : LN) (y2_2 : LN) => (p_faz_l3 aa sp_Scale tb mc i y1_1 y1_2 zd y2_1 y2_2 (fun (k : Int) (y3_1 : LN) (y3_2 : LN) => (p_faz_l4 aa sp_Scale tb mc i y1_1 y1_2 zd y2_1 y2_2 k y3_1 y3_2 (fun (tc : LN) (td : Int) => (bif (p_f14z tc).2 then (tc, true) else ([], false))) (Int.toNat ((0 + tb.length : Int) - (0 : Int)) + 1) ([] : LN) (0 : Int))) (Int.toNat (((((aa.length : Int) - 1))) - 0 + 1) + 1) ((((aa.length : Int) - 1))) y2_1 y2_2)) μ2 zd y2_1 y2_2)
     have w69 := o61.lt
     have w70 := o63.lt
     have l71 := g66.1
     refine Br.intro (fun c72 => ?_) (fun c72 => ?_)
     ·have e := e.trans (cond_t c72)
      have c_72' := of_decide_eq_true c72
      refine ⟨by omega, ω2, _, _, rfl, ?_⟩
      refine ⟨((y2_2).getD (zd : Int).toNat 0), o63.rd ω0 _, ?_⟩
      refine ⟨sp_Scale, (rdN_at (rdN_grow g66 i_s) 1 (Nat.le_of_ble_eq_true rfl)).trans rfl, ?_⟩
      refine ⟨by omega, ω2, _, _, rfl, ?_⟩
      refine Lt.set o63 ω13 (fun H_8 hl_73 o75 k74 => ?_)
      have o75 := map_set o75
      have l76 := k74.1
      have g77 := g66.keep (b := b33) ω2 k74
      have l78 := g77.1
      have o79 := o61.keep ω2 k74
      have w80 := o79.lt
      have w81 := o75.lt
      rw [show IntKind.wrap .i64 (zd + 1) = (zd + 1) from wrap64 ω2 ω2]
      refine faz_n2 (μ2 - 1) ω16 ⟨_, _, o79, ω18, o75, ω18, ω2, g77, ω1, ω1, ω16, ω20⟩
     ·have e := e.trans (cond_f c72)
      have c_72' := of_decide_eq_false c72
      rw [faz_x2_2]
      refine ⟨sa, aa.length, jb, (rdN_at (rdN_grow g66 i_s) 0 (Nat.le_of_ble_eq_true rfl)).trans rfl, ?_⟩
      rw [show IntKind.wrap .i64 ((aa.length : Int) - 1) = ((aa.length : Int) - 1) from wrap64 ω2 ω2]
      refine faz_L3 _ _ _ _ _ (fun (μ3 : Nat) (k : Int) (H_9 : AHeap) => ∃ (y3_1 : LN), ∃ (y3_2 : LN), Own H_9 b_14 (y3_1.map fF) ∧ y3_1.length = (0 + (tb).length) ∧ Own H_9 b33 (y3_2.map fF) ∧ y3_2.length = (0 + (mc).length) ∧ (b33 ≠ b_14) ∧ Grow H H_9 ∧ k ≤ (((aa.length : Int) - 1)) ∧ k - 0 + 1 ≤ (μ3 : Int) ∧ p_faz aa sp_Scale tb mc = p_faz_l3 aa sp_Scale tb mc i y1_1 y1_2 zd y2_1 y2_2 (fun (k : Int) (y3_1 : LN) (y3_2 : LN) => (p_faz_l4 aa sp_Scale tb mc i y1_1 y1_2 zd y2_1 y2_2 k y3_1 y3_2 (fun (tc : LN) (td : Int) => (bif (p_f14z tc).2 then (tc, true) else ([], false))) (Int.toNat ((0 + tb.length : Int) - (0 : Int)) + 1) ([] : LN) (0 : Int))) (μ3 + 1) k y3_1 y3_2) (Int.toNat (((((aa.length : Int) - 1))) - 0 + 1)) _ H_7 ?_ ?_
      ·exact ⟨_, _, o61, ω11, o63, ω11, ω2, g66, ω6, ω2, e⟩
      ·intro μ3 k  H_9 hI
       obtain ⟨y3_1, y3_2, o82, y83, o84, y85, n86, g87, v88, hμ, e⟩ := hI
       rw [faz_r3]
       have e := e.trans (p_faz_l3_s aa sp_Scale tb mc i y1_1 y1_2 zd y2_1 y2_2 (fun (k : Int) (y3_1 : LN) (y3_2 : LN) => (p_faz_l4 aa sp_Scale tb mc i y1_1 y1_2 zd y2_1 y2_2 k y3_1 y3_2 (fun (tc : LN) (td : Int) => (bif (p_f14z tc).2 then (tc, true) else ([], false))) (Int.toNat ((0 + tb.length : Int) - (0 : Int)) + 1) ([] : LN) (0 : Int))) μ3 k y3_1 y3_2)
       have w89 := o82.lt
       have w90 := o84.lt
       have l91 := g87.1
       refine Br.intro (fun c92 => ?_) (fun c92 => ?_)
       ·have e := e.trans (cond_t c92)
        have c_92' := of_decide_eq_true c92
        refine ⟨sa, aa.length, jb, (rdN_at (rdN_grow g87 i_s) 0 (Nat.le_of_ble_eq_true rfl)).trans rfl, ?_⟩
        obtain ⟨b93, f94, q95⟩ := ((i_sp_Weights.grow g87)).pos ω0
        refine ⟨by omega, by omega, b93, f94, q95, ?_⟩
        refine ⟨((aa).getD (k : Int).toNat 0), (i_sp_Weights).rd g87 q95 ω2 _, ?_⟩
        refine T_f11z_i ⟨_, _, _, _, (o82.ownS ω5 (Nat.le_refl _)), (o84.ownS ω5 (Nat.le_refl _)), (fun x y hx hy => by cases hx; cases hy; intro hh; dsimp only at hh; omega), ω0, ω0, ω14, ω14, (fun H_11 k96 o97 o98 => ?_)⟩
        obtain ⟨H_10, k99, k100⟩ := k96.split
        have k101 := k99.keep1
        have l102 := k101.1
        have g103 := g87.keep (b := b_14) ω2 k101
        have l104 := g103.1
        have o105 := o84.keep ω2 k101
        have w106 := o105.lt
        have k107 := k100.keep1
        have l108 := k107.1
        have g109 := g103.keep (b := b33) ω2 k107
        have l110 := g109.1
        have o111 := o97.own1
        have w112 := o111.lt
        have o113 := o98.own1
        have w114 := o113.lt
        rw [show IntKind.wrap .i64 (k - 1) = (k - 1) from wrap64 ω2 ω2]
        refine faz_n3 (μ3 - 1) ω16 ⟨_, _, o111, ω18, o113, ω18, ω2, g109, ω1, ω16, ω21⟩
       ·have e := e.trans (cond_f c92)
        have c_92' := of_decide_eq_false c92
        rw [faz_x3_4]
        refine Al.intro (fun b115 H_12 hb_116 hl_117 g118 o119 => ?_)
        have o119 : Own H_12 b115 ((([] : LN)).map fF) := o119
        have l121 := g118.1
        have g122 := g87.trans g118
        have l123 := g122.1
        have o124 := o82.grow g118
        have w125 := o124.lt
        have o126 := o84.grow g118
        have w127 := o126.lt
        have w229 := o119.lt
        refine faz_L4 _ _ _ _ (fun (μ4 : Nat) (nc : OA) (lc : Nat) (xc : Nat) (td : Int) (H_13 : AHeap) => ∃ (tc : LN), ∃ (b128 : Nat), nc = some ⟨b128, 0, none⟩ ∧ lc = tc.length ∧ xc = 1 ∧ Own H_13 b128 (tc.map fF) ∧ Own H_13 b_14 ((y3_1).map fF) ∧ Own H_13 b33 ((y3_2).map fF) ∧ (b33 ≠ b_14) ∧ (b128 ≠ b_14) ∧ (b128 ≠ b33) ∧ Grow H H_13 ∧ H.length ≤ b128 ∧ (0 : Int) ≤ td ∧ td ≤ (0 + tb.length : Int) ∧ (tc.length : Int) ≤ 2 * (td) ∧ (0 + tb.length : Int) - td ≤ (μ4 : Int) ∧ p_faz aa sp_Scale tb mc = p_faz_l4 aa sp_Scale tb mc i y1_1 y1_2 zd y2_1 y2_2 k y3_1 y3_2 (fun (tc : LN) (td : Int) => (bif (p_f14z tc).2 then (tc, true) else ([], false))) (μ4 + 1) tc td) (Int.toNat ((0 + tb.length : Int) - (0 : Int))) _ _ _ _ H_12 ?_ ?_
        ·exact ⟨_, _, rfl, ω7, rfl, o119, o124, o126, ω2, ω2, ω2, g122, ω2, ω6, ω6, ω6, ω2, e⟩
        ·intro μ4 nc lc xc td  H_13 hI
         obtain ⟨tc, b128, rfl, rfl, rfl, o129, o130, o131, n132, n133, n134, g135, l136, v137, v138, v139, hμ, e⟩ := hI
         rw [faz_r4]
         have e := e.trans (p_faz_l4_s aa sp_Scale tb mc i y1_1 y1_2 zd y2_1 y2_2 k y3_1 y3_2 (fun (tc : LN) (td : Int) => (bif (p_f14z tc).2 then (tc, true) else ([], false))) μ4 tc td)
         have w140 := o130.lt
         have w141 := o131.lt
         have w142 := o129.lt
         have l143 := g135.1
         refine Br.intro (fun c144 => ?_) (fun c144 => ?_)
         ·have e := e.trans (cond_t c144)
          have c_144' := of_decide_eq_true c144
          refine ⟨by omega, ω2, _, _, rfl, ?_⟩
          refine ⟨((y3_1).getD (td : Int).toNat 0), o130.rd ω0 _, ?_⟩
          refine Al.intro (fun b145 H_14 hb_146 hl_147 g148 o149 => ?_)
          have o149 : Own H_14 b145 (([(((y3_1).getD (td : Int).toNat 0))]).map fF) := o149
          have l151 := g148.1
          have g152 := g135.trans g148
          have l153 := g152.1
          have o154 := o130.grow g148
          have w155 := o154.lt
          have o156 := o131.grow g148
          have w157 := o156.lt
          have o158 := o129.grow g148
          have w159 := o158.lt
          have w213 := o149.lt
          refine ⟨_, _, o158.ownB ω4 rfl, (isl_rdS (o149.isL ω7)), (fun h => by cases h), ω19, ?_⟩
          refine Ap.app o158 rfl rfl (fun b164 H_15 q211 hl_160 o161 k162 => ?_)
          have o161 := map_snoc o161
          have l165 := k162.1
          have g166 := g152.keep (b := b128) ω2 k162
          have l167 := g166.1
          have o168 := o154.keep ω2 k162
          have w169 := o168.lt
          have o170 := o156.keep ω2 k162
          have w171 := o170.lt
          have o172 := o149.keep ω2 k162
          have w173 := o172.lt
          have w212 := o161.lt
          refine Br.intro (fun c174 => ?_) (fun c174 => ?_)
          ·have e := e.trans (cond_t c174)
           have c_174' := of_decide_eq_true c174
           refine ⟨by omega, ω2, _, _, rfl, ?_⟩
           refine ⟨((y3_2).getD (td : Int).toNat 0), o170.rd ω0 _, ?_⟩
           refine Al.intro (fun b175 H_16 hb_176 hl_177 g178 o179 => ?_)
           have o179 : Own H_16 b175 (([(((y3_2).getD (td : Int).toNat 0))]).map fF) := o179
           have l181 := g178.1
           have g182 := g166.trans g178
           have l183 := g182.1
           have o184 := o168.grow g178
           have w185 := o184.lt
           have o186 := o170.grow g178
           have w187 := o186.lt
           have o188 := o172.grow g178
           have w189 := o188.lt
           have o190 := o161.grow g178
           have w191 := o190.lt
           have w210 := o179.lt
           refine ⟨_, _, o190.ownB ω4 rfl, (isl_rdS (o179.isL ω7)), (fun h => by cases h), ω19, ?_⟩
           refine Ap.app o190 rfl rfl (fun b196 H_17 q208 hl_192 o193 k194 => ?_)
           have o193 := map_snoc o193
           have l197 := k194.1
           have g198 := g182.keep (b := b164) ω2 k194
           have l199 := g198.1
           have o200 := o184.keep ω2 k194
           have w201 := o200.lt
           have o202 := o186.keep ω2 k194
           have w203 := o202.lt
           have o204 := o188.keep ω2 k194
           have w205 := o204.lt
           have o206 := o179.keep ω2 k194
           have w207 := o206.lt
           have w209 := o193.lt
           rw [show IntKind.wrap .i64 (td + 1) = (td + 1) from wrap64 ω2 ω2]
           refine faz_n4 (μ4 - 1) ω16 ⟨_, _, rfl, ω5, rfl, o193, o200, o202, ω2, ω2, ω2, g198, ω2, ω1, ω1, ω1, ω16, (by rw [show μ4 - 1 + 1 = μ4 from by first | omega]; exact e)⟩
          ·have e := e.trans (cond_f c174)
           have c_174' := of_decide_eq_false c174
           rw [show IntKind.wrap .i64 (td + 1) = (td + 1) from wrap64 ω2 ω2]
           refine faz_n4 (μ4 - 1) ω16 ⟨_, _, rfl, ω5, rfl, o161, o168, o170, ω2, ω2, ω2, g166, ω2, ω1, ω1, ω1, ω16, (by rw [show μ4 - 1 + 1 = μ4 from by first | omega]; exact e)⟩
         ·have e := e.trans (cond_f c144)
          have c_144' := of_decide_eq_false c144
          rw [faz_x4_6]
          refine T_f14z_i ⟨_, (o129.isL ω7), ω0, (fun H_18 g218 => ?_)⟩
          have l220 := g218.1
          have g221 := g135.trans g218
          have l222 := g221.1
          have o223 := o130.grow g218
          have w224 := o223.lt
          have o225 := o131.grow g218
          have w226 := o225.lt
          have o227 := o129.grow g218
          have w228 := o227.lt
          refine Br.intro (fun c219 => ?_) (fun c219 => ?_)
          ·have e := e.trans (cond_t c219)
           rw [e] at hk
           exact hk _ _ _ H_18 g221 (o227.ownS ω7 ω2)
          ·have e := e.trans (cond_f c219)
           rw [e] at hk
           exact hk _ _ _ H_18 g221 ω15
 ·have e := e.trans (cond_f c_39)
  have c_39' := of_decide_eq_false c_39
  refine Al.intro (fun b230 H_19 hb_231 hl_232 g233 o234 => ?_)
  have o234 : Own H_19 b230 ((([] : LN)).map fF) := o234
  have l236 := g233.1
  have g237 := g35.trans g233
  have l238 := g237.1
  have o239 := o37.grow g233
  have w240 := o239.lt
  have o241 := o30.grow g233
  have w242 := o241.lt
  have w344 := o234.lt
  refine faz_L4 _ _ _ _ (fun (μ : Nat) (nc : OA) (lc : Nat) (xc : Nat) (td : Int) (H_20 : AHeap) => ∃ (tc : LN), ∃ (b243 : Nat), nc = some ⟨b243, 0, none⟩ ∧ lc = tc.length ∧ xc = 1 ∧ Own H_20 b243 (tc.map fF) ∧ Own H_20 b_14 (((([] : LN) ++ tb)).map fF) ∧ Own H_20 b33 (((([] : LN) ++ mc)).map fF) ∧ (b33 ≠ b_14) ∧ (b243 ≠ b_14) ∧ (b243 ≠ b33) ∧ Grow H H_20 ∧ H.length ≤ b243 ∧ (0 : Int) ≤ td ∧ td ≤ (0 + tb.length : Int) ∧ (tc.length : Int) ≤ 2 * (td) ∧ (0 + tb.length : Int) - td ≤ (μ : Int) ∧ p_faz aa sp_Scale tb mc = p_faz_l4b aa sp_Scale tb mc (μ + 1) tc td) (Int.toNat ((0 + tb.length : Int) - (0 : Int))) _ _ _ _ H_19 ?_ ?_
  ·exact ⟨_, _, rfl, ω7, rfl, o234, o239, o241, ω2, ω2, ω2, g237, ω2, ω6, ω6, ω6, ω2, e⟩
  ·intro μ nc lc xc td  H_20 hI
   obtain ⟨tc, b243, rfl, rfl, rfl, o244, o245, o246, n247, n248, n249, g250, l251, v252, v253, v254, hμ, e⟩ := hI
   rw [faz_r4]
   have e := e.trans (p_faz_l4b_s aa sp_Scale tb mc μ tc td)
   have w255 := o245.lt
   have w256 := o246.lt
   have w257 := o244.lt
   have l258 := g250.1
   refine Br.intro (fun c259 => ?_) (fun c259 => ?_)
   ·have e := e.trans (cond_t c259)
    have c_259' := of_decide_eq_true c259
    refine ⟨by omega, ω2, _, _, rfl, ?_⟩
    refine ⟨(((([] : LN) ++ tb)).getD (td : Int).toNat 0), o245.rd ω0 _, ?_⟩
    refine Al.intro (fun b260 H_21 hb_261 hl_262 g263 o264 => ?_)
    have o264 : Own H_21 b260 (([((((([] : LN) ++ tb)).getD (td : Int).toNat 0))]).map fF) := o264
    have l266 := g263.1
    have g267 := g250.trans g263
    have l268 := g267.1
    have o269 := o245.grow g263
    have w270 := o269.lt
    have o271 := o246.grow g263
    have w272 := o271.lt
    have o273 := o244.grow g263
    have w274 := o273.lt
    have w328 := o264.lt
    refine ⟨_, _, o273.ownB ω4 rfl, (isl_rdS (o264.isL ω7)), (fun h => by cases h), ω19, ?_⟩
    refine Ap.app o273 rfl rfl (fun b279 H_22 q326 hl_275 o276 k277 => ?_)
    have o276 := map_snoc o276
    have l280 := k277.1
    have g281 := g267.keep (b := b243) ω2 k277
    have l282 := g281.1
    have o283 := o269.keep ω2 k277
    have w284 := o283.lt
    have o285 := o271.keep ω2 k277
    have w286 := o285.lt
    have o287 := o264.keep ω2 k277
    have w288 := o287.lt
    have w327 := o276.lt
    refine Br.intro (fun c289 => ?_) (fun c289 => ?_)
    ·have e := e.trans (cond_t c289)
     have c_289' := of_decide_eq_true c289
     refine ⟨by omega, ω2, _, _, rfl, ?_⟩
     refine ⟨(((([] : LN) ++ mc)).getD (td : Int).toNat 0), o285.rd ω0 _, ?_⟩
     refine Al.intro (fun b290 H_23 hb_291 hl_292 g293 o294 => ?_)
     have o294 : Own H_23 b290 (([((((([] : LN) ++ mc)).getD (td : Int).toNat 0))]).map fF) := o294
     have l296 := g293.1
     have g297 := g281.trans g293
     have l298 := g297.1
     have o299 := o283.grow g293
     have w300 := o299.lt
     have o301 := o285.grow g293
     have w302 := o301.lt
     have o303 := o287.grow g293
     have w304 := o303.lt
     have o305 := o276.grow g293
     have w306 := o305.lt
     have w325 := o294.lt
     refine ⟨_, _, o305.ownB ω4 rfl, (isl_rdS (o294.isL ω7)), (fun h => by cases h), ω19, ?_⟩
     refine Ap.app o305 rfl rfl (fun b311 H_24 q323 hl_307 o308 k309 => ?_)
     have o308 := map_snoc o308
     have l312 := k309.1
     have g313 := g297.keep (b := b279) ω2 k309
     have l314 := g313.1
     have o315 := o299.keep ω2 k309
     have w316 := o315.lt
     have o317 := o301.keep ω2 k309
     have w318 := o317.lt
     have o319 := o303.keep ω2 k309
     have w320 := o319.lt
     have o321 := o294.keep ω2 k309
     have w322 := o321.lt
     have w324 := o308.lt
     rw [show IntKind.wrap .i64 (td + 1) = (td + 1) from wrap64 ω2 ω2]
     refine faz_n4 (μ - 1) ω16 ⟨_, _, rfl, ω5, rfl, o308, o315, o317, ω2, ω2, ω2, g313, ω2, ω1, ω1, ω1, ω16, ω12⟩
    ·have e := e.trans (cond_f c289)
     have c_289' := of_decide_eq_false c289
     rw [show IntKind.wrap .i64 (td + 1) = (td + 1) from wrap64 ω2 ω2]
     refine faz_n4 (μ - 1) ω16 ⟨_, _, rfl, ω5, rfl, o276, o283, o285, ω2, ω2, ω2, g281, ω2, ω1, ω1, ω1, ω16, ω12⟩
   ·have e := e.trans (cond_f c259)
    have c_259' := of_decide_eq_false c259
    rw [faz_x4_6]
    refine T_f14z_i ⟨_, (o244.isL ω7), ω0, (fun H_25 g333 => ?_)⟩
    have l335 := g333.1
    have g336 := g250.trans g333
    have l337 := g336.1
    have o338 := o245.grow g333
    have w339 := o338.lt
    have o340 := o246.grow g333
    have w341 := o340.lt
    have o342 := o244.grow g333
    have w343 := o342.lt
    refine Br.intro (fun c334 => ?_) (fun c334 => ?_)
    ·have e := e.trans (cond_t c334)
     rw [e] at hk
     exact hk _ _ _ H_25 g336 (o342.ownS ω7 ω2)
    ·have e := e.trans (cond_f c334)
     rw [e] at hk
     exact hk _ _ _ H_25 g336 ω15
theorem faz_ok : FnOk Try.prog 51 S_faz := by
 refine FnOk.body mix_ok E_faz_ok Try.func51 rfl ω10 ω10 ?_ ?_ ?_ ?_ ?_
 ·intro args H K K' h hk
  simp only [S_faz] at *
  unfold F_faz at *
  split at hk
  ·obtain ⟨sa, gb, jb, sp_Scale, aa, tb, mc, i_s, i_sp_Weights, i_even, i_odd, bd_351, bd_352, bd_353, pr0, pr1, pr2, k⟩ := hk
   exact ⟨sa, gb, jb, sp_Scale, aa, tb, mc, i_s, i_sp_Weights, i_even, i_odd, bd_351, bd_352, bd_353, pr0, pr1, pr2, (fun cd ld jd H' gg ow0 => h _ _ (k cd ld jd H' gg ow0))⟩
  ·exact hk.elim
 ·intro hq; cases hq
 ·intro args H K hk
  simp only [S_faz] at *
  unfold F_faz at *
  split at hk
  ·obtain ⟨sa, gb, jb, sp_Scale, aa, tb, mc, i_s, i_sp_Weights, i_even, i_odd, bd_351, bd_352, bd_353, pr0, pr1, pr2, k⟩ := hk
   exact liveS fun a n e H1 g o => ⟨_, _, k a n e H1 g o⟩
  ·exact hk.elim
 ·intro _ args H K hk
  simp only [S_faz] at *
  unfold F_faz at *
  split at hk
  ·obtain ⟨sa, gb, jb, sp_Scale, aa, tb, mc, i_s, i_sp_Weights, i_even, i_odd, bd_351, bd_352, bd_353, pr0, pr1, pr2, k⟩ := hk
   exact ⟨sa, gb, jb, sp_Scale, aa, tb, mc, i_s, i_sp_Weights, i_even, i_odd, bd_351, bd_352, bd_353, pr0, pr1, pr2, (fun cd ld jd H' gg ow0 => ⟨gg, k cd ld jd H' gg ow0⟩)⟩
  ·exact hk.elim
 ·have mm := @faz_main
  have ml := fun (args : List Value) (H : AHeap) (K : Value → AHeap → Prop) => bodyL_body (P := Try.prog) (env := E_faz ) (fn := Try.f51) (args := args) (H := H) (K := K) E_faz_ok 
  revert mm ml
  generalize bodyK Try.prog E_faz Try.f51 = Q
  generalize bodyL Try.prog E_faz Try.f51 = QL
  intro mm ml args H K hk
  simp only [S_faz] at *
  unfold F_faz at *
  split at hk
  ·exact ml _ H K (mm _ _ _ _ _ _ _ H K hk)
  ·exact hk.elim
theorem row_at {W H y : Int} (L : LN) (h0 : 0 ≤ y) (h2 : 1 ≤ W) (h3 : W ≤ 16) (h4 : H ≤ 16) : (y < H → 0 ≤ y * W ∧ y * W ≤ (y + 1) * W ∧ (y + 1) * W = y * W + W ∧ (y + 1) * W ≤ W * H ∧ W * H ≤ 256) ∧ (List.take ((y + 1) * W - y * W).toNat (List.drop (y * W).toNat L)).length ≤ ((y + 1) * W - y * W).toNat := by
 refine ⟨fun h1 => ?_, List.length_take_le _ _⟩
 have a : 0 ≤ y * W := Int.mul_nonneg h0 ω2
 have b : (y + 1) * W = y * W + W := by rw [Int.add_mul, Int.one_mul]
 have c : (y + 1) * W ≤ H * W := Int.mul_le_mul_of_nonneg_right ω2 ω2
 have d : W * H ≤ 16 * 16 := Int.mul_le_mul ω2 ω2 ω2 ω22
 have e : H * W = W * H := Int.mul_comm _ _
 refine ⟨a, by omega, b, by omega, by omega⟩
def p_fqz_l1 (aa : LN) (sp_Scale : Nat) (pp_Wide : Int) (pp_High : Int) (ja : LN) : Nat → Bool → Int → Int → Int → Int → Int → LN → Int × Int × LN × Bool
 | 0, _, _, _, _, _, _, _ => (0, 0, [], false)
 | μ + 1, t5, y, q1_1, q1_2, q1_4, q1_5, q1_6 => (bif decide ((y : Int) < pp_High) then (bif !((p_faz aa sp_Scale (((((((ja).drop ((y * pp_Wide) : Int).toNat).take ((((y + 1) * pp_Wide) : Int) - (y * pp_Wide)).toNat)).drop (0 : Int).toNat).take (((Int.tdiv (pp_Wide + 1) 2) : Int) - 0).toNat)) (((((((ja).drop ((y * pp_Wide) : Int).toNat).take ((((y + 1) * pp_Wide) : Int) - (y * pp_Wide)).toNat)).drop ((Int.tdiv (pp_Wide + 1) 2) : Int).toNat).take (((((((y + 1) * pp_Wide) : Int) - (y * pp_Wide)).toNat : Int) : Int) - (Int.tdiv (pp_Wide + 1) 2)).toNat))).2) then ((0 : Int), (0 : Int), [], false) else (p_fqz_l1 aa sp_Scale pp_Wide pp_High ja μ t5 (y + 1) q1_1 q1_2 q1_4 q1_5 ((q1_6 ++ (p_faz aa sp_Scale (((((((ja).drop ((y * pp_Wide) : Int).toNat).take ((((y + 1) * pp_Wide) : Int) - (y * pp_Wide)).toNat)).drop (0 : Int).toNat).take (((Int.tdiv (pp_Wide + 1) 2) : Int) - 0).toNat)) (((((((ja).drop ((y * pp_Wide) : Int).toNat).take ((((y + 1) * pp_Wide) : Int) - (y * pp_Wide)).toNat)).drop ((Int.tdiv (pp_Wide + 1) 2) : Int).toNat).take (((((((y + 1) * pp_Wide) : Int) - (y * pp_Wide)).toNat : Int) : Int) - (Int.tdiv (pp_Wide + 1) 2)).toNat))).1)))) else (q1_4, q1_5, q1_6, true))
def p_fqz_l1_s := fun aa sp_Scale pp_Wide pp_High ja μ t5 y q1_1 q1_2 q1_4 q1_5 q1_6 => @p_fqz_l1.eq_2 aa sp_Scale pp_Wide pp_High ja t5 y q1_1 q1_2 q1_4 q1_5 q1_6 μ
def p_fqz (aa : LN) (sp_Scale : Nat) (pp_Wide : Int) (pp_High : Int) (ja : LN) : Int × Int × LN × Bool := (p_fqz_l1 aa sp_Scale pp_Wide pp_High ja (Int.toNat (pp_High - (0 : Int)) + 1) false (0 : Int) 0 0 pp_Wide pp_High ([] : LN))
def p_fqz_eq := @p_fqz.eq_1
def T_fqz (s : Nat) (p : Nat) (H : AHeap) (K : Int → Int → OA → Nat → Nat → Bool → AHeap → Prop) : Prop := ∃ (sa : OA), ∃ (gb : Nat), ∃ (jb : Nat), ∃ (sp_Scale : Nat), ∃ (pp_Wide : Int), ∃ (pp_High : Int), ∃ (vb : OA), ∃ (zb : Nat), ∃ (bc : Nat), ∃ (aa : LN), ∃ (ja : LN), rdN H s 0 2 = some [.slice sa gb jb, .float .f32 sp_Scale] ∧ rdN H p 0 3 = some [.int .i64 pp_Wide, .int .i64 pp_High, .slice vb zb bc] ∧ IsL fF H sa gb aa ∧ IsL fF H vb zb ja ∧ aa.length < 1073741824 ∧ ja.length < 1073741824 ∧ 1 ≤ pp_Wide ∧ pp_Wide ≤ 16 ∧ 1 ≤ pp_High ∧ pp_High ≤ 16 ∧ (ja.length : Int) = pp_Wide * pp_High ∧ ((∀ (xa : OA) (za ya : Nat), ∀ H' : AHeap, Grow H H' → OwnS fF H' H.length xa za ya ((p_fqz aa sp_Scale pp_Wide pp_High ja).2.2.1) → K ((p_fqz aa sp_Scale pp_Wide pp_High ja).1) ((p_fqz aa sp_Scale pp_Wide pp_High ja).2.1) xa za ya ((p_fqz aa sp_Scale pp_Wide pp_High ja).2.2.2) H'))
theorem T_fqz_i {s : Nat} {p : Nat} {H : AHeap} {K : Int → Int → OA → Nat → Nat → Bool → AHeap → Prop} (h : ∃ (sa : OA), ∃ (gb : Nat), ∃ (jb : Nat), ∃ (sp_Scale : Nat), ∃ (pp_Wide : Int), ∃ (pp_High : Int), ∃ (vb : OA), ∃ (zb : Nat), ∃ (bc : Nat), ∃ (aa : LN), ∃ (ja : LN), rdN H s 0 2 = some [.slice sa gb jb, .float .f32 sp_Scale] ∧ rdN H p 0 3 = some [.int .i64 pp_Wide, .int .i64 pp_High, .slice vb zb bc] ∧ IsL fF H sa gb aa ∧ IsL fF H vb zb ja ∧ aa.length < 1073741824 ∧ ja.length < 1073741824 ∧ 1 ≤ pp_Wide ∧ pp_Wide ≤ 16 ∧ 1 ≤ pp_High ∧ pp_High ≤ 16 ∧ (ja.length : Int) = pp_Wide * pp_High ∧ ((∀ (xa : OA) (za ya : Nat), ∀ H' : AHeap, Grow H H' → OwnS fF H' H.length xa za ya ((p_fqz aa sp_Scale pp_Wide pp_High ja).2.2.1) → K ((p_fqz aa sp_Scale pp_Wide pp_High ja).1) ((p_fqz aa sp_Scale pp_Wide pp_High ja).2.1) xa za ya ((p_fqz aa sp_Scale pp_Wide pp_High ja).2.2.2) H'))) : T_fqz s p H K := h
theorem l04Unrows_go_len (ws : LN) (sc : Nat) (W Hi : Int) (l : LN) (hW : W ≤ 16) : ∀ (μ : Nat) (t5 : Bool) (y q1 q2 q4 q5 : Int) (q6 : LN), (p_fqz_l1 ws sc W Hi l μ t5 y q1 q2 q4 q5 q6).2.2.1.length ≤ q6.length + 32 * μ := by
 intro μ
 induction μ with
 | zero => intro t5 y q1 q2 q4 q5 q6; simp [p_fqz_l1]
 | succ μ ih =>
  intro t5 y q1 q2 q4 q5 q6
  rw [p_fqz_l1_s]
  cases decide ((y : Int) < Hi) with
  | false => simp only [cond_false]; omega
  | true =>
   simp only [cond_true]
   generalize hr : (((l).drop ((y * W) : Int).toNat).take ((((y + 1) * W) : Int) - (y * W)).toNat) = r
   have e2 : (y + 1) * W = y * W + W := by rw [Int.add_mul, Int.one_mul]
   have hl : r.length ≤ 16 := by
    rw [← hr, List.length_take]
    omega
   generalize hA : List.take (((Int.tdiv (W + 1) 2) : Int) - 0).toNat (List.drop (0 : Int).toNat r) = A
   have hA2 : A.length ≤ 16 := by
    rw [← hA, List.length_take, List.length_drop]
    omega
   generalize List.take (((((((y + 1) * W) : Int) - (y * W)).toNat : Int) : Int) - (Int.tdiv (W + 1) 2)).toNat (List.drop ((Int.tdiv (W + 1) 2) : Int).toNat r) = B
   have a1 := spec_DO_len ws sc A B
   cases !((p_faz ws sc A B).2) with
   | true => simp
   | false =>
    simp only [cond_false]
    have := ih t5 (y + 1) q1 q2 q4 q5 (q6 ++ (p_faz ws sc A B).1)
    simp only [List.length_append] at this
    omega
/-! fqz: function 36 -/
def E_fqz : Env := envOf [(51, S_faz)]
def F_fqz : List Value → AHeap → (Value → AHeap → Prop) → Prop
 | [.pointer (some ⟨s, 0, none⟩), .pointer (some ⟨p, 0, none⟩)], H, K => T_fqz s p H fun (r1_Wide : Int) (r1_High : Int) (xa : OA) (za : Nat) (ya : Nat) (r2 : Bool) (H' : AHeap) => K (.tuple #[.agg #[.int .i64 r1_Wide, .int .i64 r1_High, .slice xa za ya], .bool r2]) H'
 | _, _, _ => False
def S_fqz : FSpec := { F := F_fqz, quiet := false, tame := true }
theorem fqz_vc (s : Nat) (p : Nat) (H : AHeap) (K : Value → AHeap → Prop) : bodyL Try.prog E_fqz Try.f36 [.pointer (some ⟨s, 0, none⟩), .pointer (some ⟨p, 0, none⟩)] H K =
 (Al [.int .i64 0, .int .i64 0, .slice none 0 0] H fun b1 H1 => ∃ x1 : Int,  rdC H1 p 0 = some (.int .i64 x1) ∧ ∃ x2 : Int,  rdC H1 p 1 = some (.int .i64 x2) ∧ Al [] H1 fun b2 H2 => Al [.int .i64 0, .int .i64 0, .slice none 0 0] H2 fun b3 H3 => isOwn H3 b3 ∧ (∃ l, rdN H3 b3 0 3 = some l) ∧ Lt (setN H3 b3 0 [.int .i64 x1, .int .i64 x2, .slice (some ⟨b2, 0, none⟩) 0 1]) fun H4 => ∃ x3 : Int,  rdC H4 p 0 = some (.int .i64 x3) ∧ 2 ≠ (0 : Int) ∧ loopK (exL Try.prog E_fqz (cl (cl (cr (cl (cr (cr (cr (bodyC Try.f36)))))))) 467 48 [(0, 80)]) (.pointer (some ⟨s, 0, none⟩) :: .pointer (some ⟨p, 0, none⟩) :: ud2 (.pointer (some ⟨b1, 0, none⟩) :: ud :: .pointer (some ⟨b3, 0, none⟩) :: .int .i64 (IntKind.wrap .i64 (Int.tdiv (IntKind.wrap .i64 (x3 + 1)) 2)) :: .int .i64 0 :: ud65 [])) H4 (blockQ 0 (seqQ (exL Try.prog E_fqz (cr (cr (cr (cr (bodyC Try.f36))))) 48 48 []) (retK Try.prog Try.f36 K)))) := by kernel_rfl
abbrev fqz_P1 (b1 : Nat) (b3 : Nat) (p : Nat) (s : Nat) (z1_7 : Int) (y : Int)  : List Value := (.pointer (some ⟨s, 0, none⟩) :: .pointer (some ⟨p, 0, none⟩) :: ud2 (.pointer (some ⟨b1, 0, none⟩) :: ud :: .pointer (some ⟨b3, 0, none⟩) :: .int .i64 z1_7 :: .int .i64 y :: ud65 []))
theorem fqz_r1 (b1 : Nat) (b3 : Nat) (p : Nat) (s : Nat) (z1_7 : Int) (y : Int)  (H : AHeap) (R : Post) : exL Try.prog E_fqz (cl (cl (cr (cl (cr (cr (cr (bodyC Try.f36)))))))) 467 48 [(0, 80)] (fqz_P1 b1 b3 p s z1_7 y) H R =
 (∃ x4 : Int,  rdC H p 1 = some (.int .i64 x4) ∧ Br (decide ((y : Int) < x4)) (∃ jg : OA, ∃ ig : Nat, ∃ pg : Nat,  rdC H p 2 = some (.slice jg ig pg) ∧ ∃ x6 : Int,  rdC H p 0 = some (.int .i64 x6) ∧ ∃ x7 : Int,  rdC H p 0 = some (.int .i64 x7) ∧ (0 : Int) ≤ IntKind.wrap .i64 (y * x6) ∧ IntKind.wrap .i64 (y * x6) ≤ IntKind.wrap .i64 ((IntKind.wrap .i64 (y + 1)) * x7) ∧ IntKind.wrap .i64 ((IntKind.wrap .i64 (y + 1)) * x7) ≤ (ig : Int) ∧ (0 : Int) ≤ 0 ∧ 0 ≤ z1_7 ∧ z1_7 ≤ (((IntKind.wrap .i64 ((IntKind.wrap .i64 (y + 1)) * x7) : Int) - IntKind.wrap .i64 (y * x6)).toNat : Int) ∧ (0 : Int) ≤ z1_7 ∧ z1_7 ≤ (((IntKind.wrap .i64 ((IntKind.wrap .i64 (y + 1)) * x7) : Int) - IntKind.wrap .i64 (y * x6)).toNat : Int) ∧ (((IntKind.wrap .i64 ((IntKind.wrap .i64 (y + 1)) * x7) : Int) - IntKind.wrap .i64 (y * x6)).toNat : Int) ≤ (((IntKind.wrap .i64 ((IntKind.wrap .i64 (y + 1)) * x7) : Int) - IntKind.wrap .i64 (y * x6)).toNat : Int) ∧ T_faz s ((((jg : OA).map fun a => ⟨a.block, a.off + (IntKind.wrap .i64 (y * x6) : Int).toNat * 1, none⟩ : OA)).map fun a => ⟨a.block, a.off + (0 : Int).toNat * 1, none⟩) (((z1_7 : Int) - 0).toNat) 0 ((((jg : OA).map fun a => ⟨a.block, a.off + (IntKind.wrap .i64 (y * x6) : Int).toNat * 1, none⟩ : OA)).map fun a => ⟨a.block, a.off + (z1_7 : Int).toNat * 1, none⟩) ((((((IntKind.wrap .i64 ((IntKind.wrap .i64 (y + 1)) * x7) : Int) - IntKind.wrap .i64 (y * x6)).toNat : Int) : Int) - z1_7).toNat) 0 H fun (a1 : OA) (r1 : Nat) (r2 : Nat) (r3 : Bool) (H5 : AHeap) => Br (!r3) (isOwn H5 b1 ∧ (∃ l, rdN H5 b1 0 3 = some l) ∧ Lt (setN H5 b1 0 [.int .i64 0, .int .i64 0, .slice none 0 0]) fun H6 => R .ret (ud4 (.pointer (some ⟨b1, 0, none⟩) :: .bool false :: ud68 [])) H6) (∃ qg : OA, ∃ rg : Nat, ∃ fh : Nat,  rdC H5 b3 2 = some (.slice qg rg fh) ∧ ∃ o1 w1 : List Value, ownB H5 qg rg fh 1 = some o1 ∧ rdS H5 a1 (r1 * 1) = some w1 ∧ ((qg : OA) = none → 0 < (r1 : Nat)) ∧ (rg : Nat) + r1 < most ∧ Ap H5 (killB H5 qg ++ [some ⟨o1 ++ w1, true⟩]) fun b4 H7 => isOwn H7 b3 ∧ (∃ l, rdN H7 b3 2 1 = some l) ∧ Lt (setC H7 b3 2 (.slice (some ⟨b4, 0, none⟩) (rg + r1) 1)) fun H8 => R .normal (.pointer (some ⟨s, 0, none⟩) :: .pointer (some ⟨p, 0, none⟩) :: ud2 (.pointer (some ⟨b1, 0, none⟩) :: ud :: .pointer (some ⟨b3, 0, none⟩) :: .int .i64 z1_7 :: .int .i64 (IntKind.wrap .i64 (y + 1)) :: ud65 [])) H8)) (R (.exit 0) (ud4 (.pointer (some ⟨b1, 0, none⟩) :: ud :: .pointer (some ⟨b3, 0, none⟩) :: ud67 [])) H)) := by kernel_rfl
def fqz_I1 (b1 : Nat) (b3 : Nat) (p : Nat) (s : Nat) (z1_7 : Int) (Inv : Nat → Int → AHeap → Prop) : Nat → List Value → AHeap → Prop := fun μ tm H => ∃ (y : Int), tm = (fqz_P1 b1 b3 p s z1_7 y) ∧ Inv μ y H
theorem fqz_L1 (b1 : Nat) (b3 : Nat) (p : Nat) (s : Nat) (z1_7 : Int) {Q : Post} (Inv : Nat → Int → AHeap → Prop) (ν : Nat) (y : Int)  (H : AHeap) (h0 : Inv ν y H)
  (hs : ∀ (μ : Nat) (y : Int)  (H : AHeap), Inv μ y H → exL Try.prog E_fqz (cl (cl (cr (cl (cr (cr (cr (bodyC Try.f36)))))))) 467 48 [(0, 80)] (fqz_P1 b1 b3 p s z1_7 y) H (loopQ (fqz_I1 b1 b3 p s z1_7 Inv) μ Q)) : loopK (exL Try.prog E_fqz (cl (cl (cr (cl (cr (cr (cr (bodyC Try.f36)))))))) 467 48 [(0, 80)]) (fqz_P1 b1 b3 p s z1_7 y) H Q :=
 ⟨fqz_I1 b1 b3 p s z1_7 Inv, ν, ⟨y, rfl, h0⟩, fun μ tm H h => by obtain ⟨y, rfl, hI⟩ := h; exact hs μ y  H hI⟩
theorem fqz_n1 {b1 : Nat} {b3 : Nat} {p : Nat} {s : Nat} {z1_7 : Int} {Q : Post} {Inv : Nat → Int → AHeap → Prop} {μ : Nat} (μ' : Nat) {y : Int}  {H : AHeap} (hm : μ' < μ) (hI : Inv μ' y H) : loopQ (fqz_I1 b1 b3 p s z1_7 Inv) μ Q .normal (fqz_P1 b1 b3 p s z1_7 y) H := ⟨μ', hm, y, rfl, hI⟩
theorem fqz_x1_0 (b1 : Nat) (b3 : Nat) (H : AHeap) (K : Value → AHeap → Prop)  {I : Nat → List Value → AHeap → Prop} {μ : Nat} : loopQ I μ (blockQ 0 (seqQ (exL Try.prog E_fqz (cr (cr (cr (cr (bodyC Try.f36))))) 48 48 []) (retK Try.prog Try.f36 K))) (.exit 0) (ud4 (.pointer (some ⟨b1, 0, none⟩) :: ud :: .pointer (some ⟨b3, 0, none⟩) :: ud67 [])) H =
 (∃ c1 : Int, ∃ c2 : Int, ∃ sf : OA, ∃ uf : Nat, ∃ tf : Nat,  rdN H b3 0 3 = some [.int .i64 c1, .int .i64 c2, .slice sf uf tf] ∧ isOwn H b1 ∧ (∃ l, rdN H b1 0 3 = some l) ∧ Lt (setN H b1 0 [.int .i64 c1, .int .i64 c2, .slice sf uf tf]) fun H9 => ∃ c4 : Int, ∃ c5 : Int, ∃ ag : OA, ∃ dg : Nat, ∃ bg : Nat,  rdN H9 b1 0 3 = some [.int .i64 c4, .int .i64 c5, .slice ag dg bg] ∧ K (.tuple #[.agg #[.int .i64 c4, .int .i64 c5, .slice ag dg bg], .bool true]) H9) := by kernel_rfl
theorem fqz_x1_ret (b1 : Nat) (t5 : Bool) (H : AHeap) (K : Value → AHeap → Prop)  {I : Nat → List Value → AHeap → Prop} {μ : Nat} : loopQ I μ (blockQ 0 (seqQ (exL Try.prog E_fqz (cr (cr (cr (cr (bodyC Try.f36))))) 48 48 []) (retK Try.prog Try.f36 K))) .ret (ud4 (.pointer (some ⟨b1, 0, none⟩) :: .bool t5 :: ud68 [])) H =
 (∃ c7 : Int, ∃ c8 : Int, ∃ kg : OA, ∃ mg : Nat, ∃ lg : Nat,  rdN H b1 0 3 = some [.int .i64 c7, .int .i64 c8, .slice kg mg lg] ∧ K (.tuple #[.agg #[.int .i64 c7, .int .i64 c8, .slice kg mg lg], .bool t5]) H) := by kernel_rfl
theorem E_fqz_ok : ∀ g, FnOk Try.prog g (E_fqz g) := FnOk.envOf (by
 intro x hx
 simp only [List.mem_cons, List.not_mem_nil, or_false] at hx
 subst hx; exact faz_ok)
theorem fqz_main (s : Nat) (p : Nat) (H : AHeap) (K : Value → AHeap → Prop) (h : T_fqz s p H fun (r1_Wide : Int) (r1_High : Int) (xa : OA) (za : Nat) (ya : Nat) (r2 : Bool) (H' : AHeap) => K (.tuple #[.agg #[.int .i64 r1_Wide, .int .i64 r1_High, .slice xa za ya], .bool r2]) H') : bodyL Try.prog E_fqz Try.f36 [.pointer (some ⟨s, 0, none⟩), .pointer (some ⟨p, 0, none⟩)] H K := by
 rw [fqz_vc]
 obtain ⟨sa, gb, jb, sp_Scale, pp_Wide, pp_High, vb, zb, bc, aa, ja, i_s, i_p, i_sp_Weights, i_pp_Lights, bd_138, bd_139, pr0, pr1, pr2, pr3, pr4, hk⟩ := h
 obtain rfl := i_sp_Weights.eqn
 obtain rfl := i_pp_Lights.eqn
 have e : (p_fqz aa sp_Scale pp_Wide pp_High ja) = _ := rfl
 have e := e.trans (p_fqz_eq aa sp_Scale pp_Wide pp_High ja)
 have g0 := Grow.refl H
 refine Al.intro (fun b_1 H_1 hb_2 hl_3 g_4 o_5 => ?_)
 have l_7 := g_4.1
 have g_8 := g0.trans g_4
 have l_9 := g_8.1
 have w137 := o_5.lt
 refine ⟨pp_Wide, (rdN_at (rdN_grow g_8 i_p) 0 (Nat.le_of_ble_eq_true rfl)).trans rfl, ?_⟩
 refine ⟨pp_High, (rdN_at (rdN_grow g_8 i_p) 1 (Nat.le_of_ble_eq_true rfl)).trans rfl, ?_⟩
 refine Al.intro (fun b_10 H_2 hb_11 hl_12 g13 o_14 => ?_)
 have o_14 : Own H_2 b_10 ((([] : LN)).map fF) := o_14
 have l_16 := g13.1
 have g17 := g_8.trans g13
 have l_18 := g17.1
 have o19 := o_5.grow g13
 have w20 := o19.lt
 have w136 := o_14.lt
 refine Al.intro (fun b_21 H_3 hb_22 hl_23 g24 o25 => ?_)
 have l27 := g24.1
 have g28 := g17.trans g24
 have l29 := g28.1
 have o30 := o19.grow g24
 have w31 := o30.lt
 have o32 := o_14.grow g24
 have w33 := o32.lt
 have w135 := o25.lt
 refine Lt.setN (n := 3) o25 (Nat.le_of_ble_eq_true rfl) rfl (fun H_4 hl_34 o36 k35 => ?_)
 have o36 : Own H_4 b_21 [.int .i64 pp_Wide, .int .i64 pp_High, .slice (some ⟨b_10, 0, none⟩) 0 1] := o36
 have l37 := k35.1
 have g38 := g28.keep (b := b_21) ω2 k35
 have l39 := g38.1
 have o40 := o30.keep ω2 k35
 have w41 := o40.lt
 have o42 := o32.keep ω2 k35
 have w43 := o42.lt
 have w134 := o36.lt
 refine ⟨pp_Wide, (rdN_at (rdN_grow g38 i_p) 0 (Nat.le_of_ble_eq_true rfl)).trans rfl, ?_⟩
 rw [show IntKind.wrap .i64 (pp_Wide + 1) = (pp_Wide + 1) from wrap64 ω2 ω2]
 have z44 := tdiv_nn (pp_Wide + 1) 2
 refine ⟨ω23, ?_⟩
 rw [show IntKind.wrap .i64 (Int.tdiv (pp_Wide + 1) 2) = (Int.tdiv (pp_Wide + 1) 2) from wrap64 ω2 ω2]
 refine fqz_L1 _ _ _ _ _ (fun (μ : Nat) (y : Int) (H_5 : AHeap) => ∃ (t5 : Bool), ∃ (q1_1 : Int), ∃ (q1_2 : Int), ∃ (q1_4 : Int), ∃ (q1_5 : Int), ∃ (q1_6 : LN), ∃ (b47 : Nat), Own H_5 b_1 [.int .i64 q1_1, .int .i64 q1_2, .slice none 0 0] ∧ Own H_5 b47 (q1_6.map fF) ∧ Own H_5 b_21 [.int .i64 q1_4, .int .i64 q1_5, .slice (some ⟨b47, 0, none⟩) q1_6.length 1] ∧ (b_21 ≠ b_1) ∧ (b47 ≠ b_1) ∧ (b47 ≠ b_21) ∧ Grow H H_5 ∧ H.length ≤ b47 ∧ (0 : Int) ≤ y ∧ ((y ≤ pp_High ∨ y ≤ (0 : Int))) ∧ (q1_6.length : Int) ≤ 32 * (y) ∧ pp_High - y ≤ (μ : Int) ∧ p_fqz aa sp_Scale pp_Wide pp_High ja = p_fqz_l1 aa sp_Scale pp_Wide pp_High ja (μ + 1) t5 y q1_1 q1_2 q1_4 q1_5 q1_6) (Int.toNat (pp_High - (0 : Int))) _ H_4 ?_ ?_
 ·exact ⟨_, _, _, _, _, _, _, (by first | exact o40 | (have hbx := o40; (try simp only [List.length_append, List.length_cons, List.length_nil, Nat.zero_add] at hbx); (try simp only [List.length_append, List.length_cons, List.length_nil, Nat.zero_add]); exact hbx)), o42, (by first | exact o36 | (have hbx := o36; (try simp only [List.length_append, List.length_cons, List.length_nil, Nat.zero_add] at hbx); (try simp only [List.length_append, List.length_cons, List.length_nil, Nat.zero_add]); exact hbx)), ω2, ω2, ω2, g38, ω2, ω6, ω6, ω6, ω2, e⟩
 ·intro μ y  H_5 hI
  obtain ⟨t5, q1_1, q1_2, q1_4, q1_5, q1_6, b47, o45, o48, o46, n49, n50, n51, g52, l53, v_54, v_55, v_56, hμ, e⟩ := hI
  rw [fqz_r1]
  have e := e.trans (p_fqz_l1_s aa sp_Scale pp_Wide pp_High ja μ t5 y q1_1 q1_2 q1_4 q1_5 q1_6)
  have zy := row_at (W := pp_Wide) (H := pp_High) (y := y) ja ω2 ω2 ω2 ω2; have zk := List.length_take_le (Int.tdiv (pp_Wide + 1) 2 - 0 : Int).toNat ((((ja).drop ((y * pp_Wide) : Int).toNat).take ((((y + 1) * pp_Wide) : Int) - (y * pp_Wide)).toNat).drop (0 : Int).toNat)
  have w57 := o45.lt
  have w58 := o46.lt
  have w59 := o48.lt
  have l60 := g52.1
  refine ⟨pp_High, (rdN_at (rdN_grow g52 i_p) 1 (Nat.le_of_ble_eq_true rfl)).trans rfl, ?_⟩
  refine Br.intro (fun c61 => ?_) (fun c61 => ?_)
  ·have e := e.trans (cond_t c61)
   have c_61' := of_decide_eq_true c61
   refine ⟨vb, ja.length, bc, (rdN_at (rdN_grow g52 i_p) 2 (Nat.le_of_ble_eq_true rfl)).trans rfl, ?_⟩
   refine ⟨pp_Wide, (rdN_at (rdN_grow g52 i_p) 0 (Nat.le_of_ble_eq_true rfl)).trans rfl, ?_⟩
   rw [show IntKind.wrap .i64 (y * pp_Wide) = (y * pp_Wide) from wrap64 ω2 ω2]
   rw [show IntKind.wrap .i64 (y + 1) = (y + 1) from wrap64 ω2 ω2]
   refine ⟨pp_Wide, (rdN_at (rdN_grow g52 i_p) 0 (Nat.le_of_ble_eq_true rfl)).trans rfl, ?_⟩
   rw [show IntKind.wrap .i64 ((y + 1) * pp_Wide) = ((y + 1) * pp_Wide) from wrap64 ω2 ω2]
   refine ⟨by omega, by omega, by omega, ?_⟩
   have i62 := sub_isl i_pp_Lights (lo := (y * pp_Wide)) (hi := ((y + 1) * pp_Wide)) ω2 ω2 ω2
   refine ⟨by omega, by omega, by omega, ?_⟩
   have i63 := sub_isl i62 (lo := 0) (hi := (Int.tdiv (pp_Wide + 1) 2)) ω2 ω2 ω2
   refine ⟨by omega, by omega, by omega, ?_⟩
   have i_64 := sub_isl i62 (lo := (Int.tdiv (pp_Wide + 1) 2)) (hi := (((((y + 1) * pp_Wide) : Int) - (y * pp_Wide)).toNat : Int)) ω2 ω2 ω2
   refine T_faz_i ⟨sa, aa.length, jb, sp_Scale, _, _, _, (rdN_grow g52 i_s), (i_sp_Weights.grow g52), (i63.grow g52), (i_64.grow g52), ω0, ω0, ω0, ω14, ω14, ω14, fun a65 n66 e67 H_6 g70 r68 => ?_⟩
   have z69 := spec_DO_len aa sp_Scale (((((((ja).drop ((y * pp_Wide) : Int).toNat).take ((((y + 1) * pp_Wide) : Int) - (y * pp_Wide)).toNat)).drop (0 : Int).toNat).take (((Int.tdiv (pp_Wide + 1) 2) : Int) - 0).toNat)) (((((((ja).drop ((y * pp_Wide) : Int).toNat).take ((((y + 1) * pp_Wide) : Int) - (y * pp_Wide)).toNat)).drop ((Int.tdiv (pp_Wide + 1) 2) : Int).toNat).take (((((((y + 1) * pp_Wide) : Int) - (y * pp_Wide)).toNat : Int) : Int) - (Int.tdiv (pp_Wide + 1) 2)).toNat))
   have l71 := g70.1
   have g72 := g52.trans g70
   have l73 := g72.1
   have o74 := o45.grow g70
   have w75 := o74.lt
   have o76 := o46.grow g70
   have w77 := o76.lt
   have o78 := o48.grow g70
   have w79 := o78.lt
   obtain rfl := r68.isL.eqn
   have u80 := r68.up
   have u81 := r68.lo
   refine Br.intro (fun c83 => ?_) (fun c83 => ?_)
   ·have e := e.trans (cond_t c83)
    have c_83n := nf_of_t c83
    refine Lt.setN (n := 3) o74 (Nat.le_of_ble_eq_true rfl) rfl (fun H_7 hl_84 o86 k85 => ?_)
    have o86 : Own H_7 b_1 [.int .i64 0, .int .i64 0, .slice none 0 0] := o86
    have l87 := k85.1
    have g88 := g72.keep (b := b_1) ω2 k85
    have l89 := g88.1
    have o90 := o76.keep ω2 k85
    have w91 := o90.lt
    have o92 := o78.keep ω2 k85
    have w93 := o92.lt
    have r94 := r68.keep u80 ω2 k85
    have w95 := o86.lt
    rw [fqz_x1_ret]
    refine ⟨0, 0, none, 0, 0, (o86.rdN (Nat.le_of_ble_eq_true rfl)).trans rfl, ?_⟩
    rw [e] at hk
    exact hk _ _ _ H_7 g88 ω15
   ·have e := e.trans (cond_f c83)
    have c_83n := nt_of_f c83
    refine ⟨some ⟨b47, 0, none⟩, q1_6.length, 1, (o76.rdC _).trans rfl, ?_⟩
    refine ⟨_, _, o78.ownB ω4 rfl, (isl_rdS r68.isL), (fun h => by cases h), ω19, ?_⟩
    refine Ap.app o78 rfl rfl (fun b100 H_8 q121 hl_96 o97 k98 => ?_)
    have o97 := map_snoc o97
    have l101 := k98.1
    have g102 := g72.keep (b := b47) ω2 k98
    have l103 := g102.1
    have o104 := o74.keep ω2 k98
    have w105 := o104.lt
    have o106 := o76.keep ω2 k98
    have w107 := o106.lt
    have r108 := r68.keep u80 ω2 k98
    have w122 := o97.lt
    refine Lt.set o106 (Nat.le_of_ble_eq_true rfl) (fun H_9 hl_109 o111 k110 => ?_)
    have o111 : Own H_9 b_21 [.int .i64 q1_4, .int .i64 q1_5, .slice (some ⟨b100, 0, none⟩) (q1_6.length + (((p_faz aa sp_Scale (((((((ja).drop ((y * pp_Wide) : Int).toNat).take ((((y + 1) * pp_Wide) : Int) - (y * pp_Wide)).toNat)).drop (0 : Int).toNat).take (((Int.tdiv (pp_Wide + 1) 2) : Int) - 0).toNat)) (((((((ja).drop ((y * pp_Wide) : Int).toNat).take ((((y + 1) * pp_Wide) : Int) - (y * pp_Wide)).toNat)).drop ((Int.tdiv (pp_Wide + 1) 2) : Int).toNat).take (((((((y + 1) * pp_Wide) : Int) - (y * pp_Wide)).toNat : Int) : Int) - (Int.tdiv (pp_Wide + 1) 2)).toNat))).1).length)) 1] := o111
    have l112 := k110.1
    have g113 := g102.keep (b := b_21) ω2 k110
    have l114 := g113.1
    have o115 := o104.keep ω2 k110
    have w116 := o115.lt
    have o117 := o97.keep ω2 k110
    have w118 := o117.lt
    have r119 := r108.keep u80 ω2 k110
    have w120 := o111.lt
    refine fqz_n1 (μ - 1) ω16 ⟨_, _, _, _, _, _, _, (by first | exact o115 | (have hbx := o115; (try simp only [List.length_append, List.length_cons, List.length_nil, Nat.zero_add] at hbx); (try simp only [List.length_append, List.length_cons, List.length_nil, Nat.zero_add]); exact hbx)), o117, (by first | exact o111 | (have hbx := o111; (try simp only [List.length_append, List.length_cons, List.length_nil, Nat.zero_add] at hbx); (try simp only [List.length_append, List.length_cons, List.length_nil, Nat.zero_add]); exact hbx)), ω2, ω2, ω2, g113, ω2, ω1, ω1, ω1, ω16, ω12⟩
  ·have e := e.trans (cond_f c61)
   have c_61' := of_decide_eq_false c61
   rw [fqz_x1_0]
   refine ⟨q1_4, q1_5, some ⟨b47, 0, none⟩, q1_6.length, 1, (o46.rdN (Nat.le_of_ble_eq_true rfl)).trans rfl, ?_⟩
   refine Lt.setN (n := 3) o45 (Nat.le_of_ble_eq_true rfl) rfl (fun H_10 hl_123 o125 k124 => ?_)
   have o125 : Own H_10 b_1 [.int .i64 q1_4, .int .i64 q1_5, .slice (some ⟨b47, 0, none⟩) q1_6.length 1] := o125
   have l126 := k124.1
   have g127 := g52.keep (b := b_1) ω2 k124
   have l128 := g127.1
   have o129 := o46.keep ω2 k124
   have w130 := o129.lt
   have o131 := o48.keep ω2 k124
   have w132 := o131.lt
   have w133 := o125.lt
   refine ⟨q1_4, q1_5, some ⟨b47, 0, none⟩, q1_6.length, 1, (o125.rdN (Nat.le_of_ble_eq_true rfl)).trans rfl, ?_⟩
   rw [e] at hk
   exact hk _ _ _ H_10 g127 (o131.ownS ω7 ω2)
theorem fqz_ok : FnOk Try.prog 36 S_fqz := by
 refine FnOk.body mix_ok E_fqz_ok Try.func36 rfl ω10 ω10 ?_ ?_ ?_ ?_ ?_
 ·intro args H K K' h hk
  simp only [S_fqz] at *
  unfold F_fqz at *
  split at hk
  ·obtain ⟨sa, gb, jb, sp_Scale, pp_Wide, pp_High, vb, zb, bc, aa, ja, i_s, i_p, i_sp_Weights, i_pp_Lights, bd_138, bd_139, pr0, pr1, pr2, pr3, pr4, k⟩ := hk
   exact ⟨sa, gb, jb, sp_Scale, pp_Wide, pp_High, vb, zb, bc, aa, ja, i_s, i_p, i_sp_Weights, i_pp_Lights, bd_138, bd_139, pr0, pr1, pr2, pr3, pr4, (fun xa za ya H' gg ow0 => h _ _ (k xa za ya H' gg ow0))⟩
  ·exact hk.elim
 ·intro hq; cases hq
 ·intro args H K hk
  simp only [S_fqz] at *
  unfold F_fqz at *
  split at hk
  ·obtain ⟨sa, gb, jb, sp_Scale, pp_Wide, pp_High, vb, zb, bc, aa, ja, i_s, i_p, i_sp_Weights, i_pp_Lights, bd_138, bd_139, pr0, pr1, pr2, pr3, pr4, k⟩ := hk
   exact liveS fun a n e H1 g o => ⟨_, _, k a n e H1 g o⟩
  ·exact hk.elim
 ·intro _ args H K hk
  simp only [S_fqz] at *
  unfold F_fqz at *
  split at hk
  ·obtain ⟨sa, gb, jb, sp_Scale, pp_Wide, pp_High, vb, zb, bc, aa, ja, i_s, i_p, i_sp_Weights, i_pp_Lights, bd_138, bd_139, pr0, pr1, pr2, pr3, pr4, k⟩ := hk
   exact ⟨sa, gb, jb, sp_Scale, pp_Wide, pp_High, vb, zb, bc, aa, ja, i_s, i_p, i_sp_Weights, i_pp_Lights, bd_138, bd_139, pr0, pr1, pr2, pr3, pr4, (fun xa za ya H' gg ow0 => ⟨gg, k xa za ya H' gg ow0⟩)⟩
  ·exact hk.elim
 ·have mm := @fqz_main
  have ml := fun (args : List Value) (H : AHeap) (K : Value → AHeap → Prop) => bodyL_body (P := Try.prog) (env := E_fqz ) (fn := Try.f36) (args := args) (H := H) (K := K) E_fqz_ok 
  revert mm ml
  generalize bodyK Try.prog E_fqz Try.f36 = Q
  generalize bodyL Try.prog E_fqz Try.f36 = QL
  intro mm ml args H K hk
  simp only [S_fqz] at *
  unfold F_fqz at *
  split at hk
  ·exact ml _ H K (mm _ _ H K hk)
  ·exact hk.elim

def p_fzz (ba : LN) (s_Scale : Nat) (p_Wide : Int) (p_High : Int) (ia : LN) : Int × Int × LN × Bool := (bif !(p_f19z ba s_Scale p_Wide p_High ia) then ((0 : Int), (0 : Int), [], false) else ((p_fqz ba s_Scale p_Wide p_High ia).1, (p_fqz ba s_Scale p_Wide p_High ia).2.1, (p_fqz ba s_Scale p_Wide p_High ia).2.2.1, (p_fqz ba s_Scale p_Wide p_High ia).2.2.2))
def p_fzz_eq := @p_fzz.eq_1
def T_fzz (oa : OA) (lb : Nat) (va : Nat) (s_Scale : Nat) (p_Wide : Int) (p_High : Int) (p_Lights_a : OA) (p_Lights_n : Nat) (p_Lights_e : Nat) (H : AHeap) (K : Int → Int → OA → Nat → Nat → Bool → AHeap → Prop) : Prop := ∃ (ba : LN), ∃ (ia : LN), IsL fF H oa lb ba ∧ IsL fF H p_Lights_a p_Lights_n ia ∧ ba.length < 1073741824 ∧ ia.length < 1073741824 ∧ ((∀ (xa : OA) (za ya : Nat), ∀ H' : AHeap, Grow H H' → OwnS fF H' H.length xa za ya ((p_fzz ba s_Scale p_Wide p_High ia).2.2.1) → K ((p_fzz ba s_Scale p_Wide p_High ia).1) ((p_fzz ba s_Scale p_Wide p_High ia).2.1) xa za ya ((p_fzz ba s_Scale p_Wide p_High ia).2.2.2) H'))
theorem T_fzz_i {oa : OA} {lb : Nat} {va : Nat} {s_Scale : Nat} {p_Wide : Int} {p_High : Int} {p_Lights_a : OA} {p_Lights_n : Nat} {p_Lights_e : Nat} {H : AHeap} {K : Int → Int → OA → Nat → Nat → Bool → AHeap → Prop} (h : ∃ (ba : LN), ∃ (ia : LN), IsL fF H oa lb ba ∧ IsL fF H p_Lights_a p_Lights_n ia ∧ ba.length < 1073741824 ∧ ia.length < 1073741824 ∧ ((∀ (xa : OA) (za ya : Nat), ∀ H' : AHeap, Grow H H' → OwnS fF H' H.length xa za ya ((p_fzz ba s_Scale p_Wide p_High ia).2.2.1) → K ((p_fzz ba s_Scale p_Wide p_High ia).1) ((p_fzz ba s_Scale p_Wide p_High ia).2.1) xa za ya ((p_fzz ba s_Scale p_Wide p_High ia).2.2.2) H'))) : T_fzz oa lb va s_Scale p_Wide p_High p_Lights_a p_Lights_n p_Lights_e H K := h
theorem fzz_len (ws : LN) (sc : Nat) (W Hi : Int) (l : LN) : (p_fzz ws sc W Hi l).2.2.1.length ≤ 1024 := by
 rw [p_fzz_eq]
 cases h : p_f19z ws sc W Hi l with
 | false => simp
 | true =>
  obtain ⟨h1, h2, h3, h4, _⟩ := f19z_t h
  have := l04Unrows_go_len ws sc W Hi l h2 (Int.toNat (Hi - (0 : Int)) + 1) false 0 0 0 W Hi []
  rw [p_fqz_eq]
  simp only [List.length_nil] at this
  simp only [Bool.not_true, cond_false]
  omega
/-! fzz: function 19 -/
def E_fzz : Env := envOf [(22, S_f19z), (36, S_fqz)]
def F_fzz : List Value → AHeap → (Value → AHeap → Prop) → Prop
 | [.agg ⟨[.slice oa lb va, .float .f32 s_Scale]⟩, .agg ⟨[.int .i64 p_Wide, .int .i64 p_High, .slice p_Lights_a p_Lights_n p_Lights_e]⟩], H, K => T_fzz oa lb va s_Scale p_Wide p_High p_Lights_a p_Lights_n p_Lights_e H fun (r1_Wide : Int) (r1_High : Int) (xa : OA) (za : Nat) (ya : Nat) (r2 : Bool) (H' : AHeap) => K (.tuple #[.agg #[.int .i64 r1_Wide, .int .i64 r1_High, .slice xa za ya], .bool r2]) H'
 | _, _, _ => False
def S_fzz : FSpec := { F := F_fzz, quiet := false, tame := true }
theorem fzz_vc (oa : OA) (lb : Nat) (va : Nat) (s_Scale : Nat) (p_Wide : Int) (p_High : Int) (p_Lights_a : OA) (p_Lights_n : Nat) (p_Lights_e : Nat) (H : AHeap) (K : Value → AHeap → Prop) : bodyL Try.prog E_fzz Try.f19 [.agg #[.slice oa lb va, .float .f32 s_Scale], .agg #[.int .i64 p_Wide, .int .i64 p_High, .slice p_Lights_a p_Lights_n p_Lights_e]] H K =
 (Al [.slice oa lb va, .float .f32 s_Scale] H fun b1 H1 => Al [.int .i64 p_Wide, .int .i64 p_High, .slice p_Lights_a p_Lights_n p_Lights_e] H1 fun b2 H2 => Al [.int .i64 0, .int .i64 0, .slice none 0 0] H2 fun b3 H3 => T_f19z b1 b2 H3 fun (r1 : Bool) (H4 : AHeap) => Br (!r1) (isOwn H4 b3 ∧ (∃ l, rdN H4 b3 0 3 = some l) ∧ Lt (setN H4 b3 0 [.int .i64 0, .int .i64 0, .slice none 0 0]) fun H5 => ∃ c1 : Int, ∃ c2 : Int, ∃ sf : OA, ∃ uf : Nat, ∃ tf : Nat,  rdN H5 b3 0 3 = some [.int .i64 c1, .int .i64 c2, .slice sf uf tf] ∧ K (.tuple #[.agg #[.int .i64 c1, .int .i64 c2, .slice sf uf tf], .bool false]) H5) (T_fqz b1 b2 H4 fun (r2 : Int) (r3 : Int) (a1 : OA) (r4 : Nat) (r5 : Nat) (r6 : Bool) (H6 : AHeap) => isOwn H6 b3 ∧ (∃ l, rdN H6 b3 0 3 = some l) ∧ Lt (setN H6 b3 0 [.int .i64 r2, .int .i64 r3, .slice a1 r4 r5]) fun H7 => ∃ c4 : Int, ∃ c5 : Int, ∃ ag : OA, ∃ dg : Nat, ∃ bg : Nat,  rdN H7 b3 0 3 = some [.int .i64 c4, .int .i64 c5, .slice ag dg bg] ∧ K (.tuple #[.agg #[.int .i64 c4, .int .i64 c5, .slice ag dg bg], .bool r6]) H7)) := by kernel_rfl
theorem E_fzz_ok : ∀ g, FnOk Try.prog g (E_fzz g) := FnOk.envOf (by
 intro x hx
 simp only [List.mem_cons, List.not_mem_nil, or_false] at hx
 rcases hx with rfl | rfl
 ·exact f19z_ok
 ·exact fqz_ok)
theorem fzz_main (oa : OA) (lb : Nat) (va : Nat) (s_Scale : Nat) (p_Wide : Int) (p_High : Int) (p_Lights_a : OA) (p_Lights_n : Nat) (p_Lights_e : Nat) (H : AHeap) (K : Value → AHeap → Prop) (h : T_fzz oa lb va s_Scale p_Wide p_High p_Lights_a p_Lights_n p_Lights_e H fun (r1_Wide : Int) (r1_High : Int) (xa : OA) (za : Nat) (ya : Nat) (r2 : Bool) (H' : AHeap) => K (.tuple #[.agg #[.int .i64 r1_Wide, .int .i64 r1_High, .slice xa za ya], .bool r2]) H') : bodyL Try.prog E_fzz Try.f19 [.agg #[.slice oa lb va, .float .f32 s_Scale], .agg #[.int .i64 p_Wide, .int .i64 p_High, .slice p_Lights_a p_Lights_n p_Lights_e]] H K := by
 rw [fzz_vc]
 obtain ⟨ba, ia, i_s_Weights, i_p_Lights, bd_78, bd_79, hk⟩ := h
 obtain rfl := i_s_Weights.eqn
 obtain rfl := i_p_Lights.eqn
 have e : (p_fzz ba s_Scale p_Wide p_High ia) = _ := rfl
 have e := e.trans (p_fzz_eq ba s_Scale p_Wide p_High ia)
 have g0 := Grow.refl H
 refine Al.intro (fun b_1 H_1 hb_2 hl_3 g_4 o_5 => ?_)
 have l_7 := g_4.1
 have g_8 := g0.trans g_4
 have l_9 := g_8.1
 have w77 := o_5.lt
 refine Al.intro (fun b_10 H_2 hb_11 hl_12 g13 o_14 => ?_)
 have l_16 := g13.1
 have g17 := g_8.trans g13
 have l_18 := g17.1
 have o19 := o_5.grow g13
 have w20 := o19.lt
 have w76 := o_14.lt
 refine Al.intro (fun b_21 H_3 hb_22 hl_23 g24 o25 => ?_)
 have l27 := g24.1
 have g28 := g17.trans g24
 have l29 := g28.1
 have o30 := o19.grow g24
 have w31 := o30.lt
 have o32 := o_14.grow g24
 have w33 := o32.lt
 have w75 := o25.lt
 refine T_f19z_i ⟨oa, ba.length, va, s_Scale, p_Wide, p_High, p_Lights_a, ia.length, p_Lights_e, _, _, ((o30.rdN (Nat.le_of_ble_eq_true rfl)).trans rfl), ((o32.rdN (Nat.le_of_ble_eq_true rfl)).trans rfl), (i_s_Weights.grow g28), (i_p_Lights.grow g28), ω0, ω0, ?_⟩
 refine Br.intro (fun c_34 => ?_) (fun c_34 => ?_)
 ·have e := e.trans (cond_t c_34)
  have c_34n := nf_of_t c_34
  refine Lt.setN (n := 3) o25 (Nat.le_of_ble_eq_true rfl) rfl (fun H_4 hl_35 o37 k36 => ?_)
  have o37 : Own H_4 b_21 [.int .i64 0, .int .i64 0, .slice none 0 0] := o37
  have l38 := k36.1
  have g39 := g28.keep (b := b_21) ω2 k36
  have l40 := g39.1
  have o41 := o30.keep ω2 k36
  have w42 := o41.lt
  have o43 := o32.keep ω2 k36
  have w44 := o43.lt
  have w45 := o37.lt
  refine ⟨0, 0, none, 0, 0, (o37.rdN (Nat.le_of_ble_eq_true rfl)).trans rfl, ?_⟩
  rw [e] at hk
  exact hk _ _ _ H_4 g39 ω15
 ·have e := e.trans (cond_f c_34)
  have c_34n := nt_of_f c_34
  have c_34n' := f19z_t c_34n
  refine T_fqz_i ⟨oa, ba.length, va, s_Scale, p_Wide, p_High, p_Lights_a, ia.length, p_Lights_e, _, _, ((o30.rdN (Nat.le_of_ble_eq_true rfl)).trans rfl), ((o32.rdN (Nat.le_of_ble_eq_true rfl)).trans rfl), (i_s_Weights.grow g28), (i_p_Lights.grow g28), ω0, ω0, ω14, ω14, ω14, ω14, ω14, fun a46 n47 e48 H_5 g50 r_49 => ?_⟩
  have l51 := g50.1
  have g52 := g28.trans g50
  have l53 := g52.1
  have o54 := o30.grow g50
  have w55 := o54.lt
  have o56 := o32.grow g50
  have w57 := o56.lt
  have o58 := o25.grow g50
  have w59 := o58.lt
  obtain rfl := r_49.isL.eqn
  have u60 := r_49.up
  have u61 := r_49.lo
  refine Lt.setN (n := 3) o58 (Nat.le_of_ble_eq_true rfl) rfl (fun H_6 hl_63 o65 k64 => ?_)
  have o65 : Own H_6 b_21 [.int .i64 ((p_fqz ba s_Scale p_Wide p_High ia).1), .int .i64 ((p_fqz ba s_Scale p_Wide p_High ia).2.1), .slice a46 (((p_fqz ba s_Scale p_Wide p_High ia).2.2.1).length) e48] := o65
  have l66 := k64.1
  have g67 := g52.keep (b := b_21) ω2 k64
  have l68 := g67.1
  have o69 := o54.keep ω2 k64
  have w70 := o69.lt
  have o71 := o56.keep ω2 k64
  have w72 := o71.lt
  have r73 := r_49.keep u60 ω2 k64
  have w74 := o65.lt
  refine ⟨(p_fqz ba s_Scale p_Wide p_High ia).1, (p_fqz ba s_Scale p_Wide p_High ia).2.1, a46, ((p_fqz ba s_Scale p_Wide p_High ia).2.2.1).length, e48, (o65.rdN (Nat.le_of_ble_eq_true rfl)).trans rfl, ?_⟩
  rw [e] at hk
  exact hk _ _ _ H_6 g67 (r73.weak ω2)
theorem fzz_ok : FnOk Try.prog 19 S_fzz := by
 refine FnOk.body mix_ok E_fzz_ok Try.func19 rfl ω10 ω10 ?_ ?_ ?_ ?_ ?_
 ·intro args H K K' h hk
  simp only [S_fzz] at *
  unfold F_fzz at *
  split at hk
  ·obtain ⟨ba, ia, i_s_Weights, i_p_Lights, bd_78, bd_79, k⟩ := hk
   exact ⟨ba, ia, i_s_Weights, i_p_Lights, bd_78, bd_79, (fun xa za ya H' gg ow0 => h _ _ (k xa za ya H' gg ow0))⟩
  ·exact hk.elim
 ·intro hq; cases hq
 ·intro args H K hk
  simp only [S_fzz] at *
  unfold F_fzz at *
  split at hk
  ·obtain ⟨ba, ia, i_s_Weights, i_p_Lights, bd_78, bd_79, k⟩ := hk
   exact liveS fun a n e H1 g o => ⟨_, _, k a n e H1 g o⟩
  ·exact hk.elim
 ·intro _ args H K hk
  simp only [S_fzz] at *
  unfold F_fzz at *
  split at hk
  ·obtain ⟨ba, ia, i_s_Weights, i_p_Lights, bd_78, bd_79, k⟩ := hk
   exact ⟨ba, ia, i_s_Weights, i_p_Lights, bd_78, bd_79, (fun xa za ya H' gg ow0 => ⟨gg, k xa za ya H' gg ow0⟩)⟩
  ·exact hk.elim
 ·have mm := @fzz_main
  have ml := fun (args : List Value) (H : AHeap) (K : Value → AHeap → Prop) => bodyL_body (P := Try.prog) (env := E_fzz ) (fn := Try.f19) (args := args) (H := H) (K := K) E_fzz_ok 
  revert mm ml
  generalize bodyK Try.prog E_fzz Try.f19 = Q
  generalize bodyL Try.prog E_fzz Try.f19 = QL
  intro mm ml args H K hk
  simp only [S_fzz] at *
  unfold F_fzz at *
  split at hk
  ·exact ml _ H K (mm _ _ _ _ _ _ _ _ _ H K hk)
  ·exact hk.elim
def p_f18z (n : Int) (low : Int) (high : Int) : Bool := (bif decide ((low : Int) ≤ n) then decide ((n : Int) ≤ high) else false)
def T_f18z (n : Int) (low : Int) (high : Int) (H : AHeap) (K : Bool → AHeap → Prop) : Prop := K (p_f18z n low high) H
theorem f18z_t {n a b : Int} (h : p_f18z n a b = true) : a ≤ n ∧ n ≤ b := by
 unfold p_f18z at h
 by_cases h1 : a ≤ n
 ·rw [decide_eq_true h1, cond_true] at h; exact ⟨h1, of_decide_eq_true h⟩
 ·rw [decide_eq_false h1] at h; cases h
theorem T_f18z_i {n : Int} {low : Int} {high : Int} {H : AHeap} {K : Bool → AHeap → Prop} (h : K (p_f18z n low high) H) : T_f18z n low high H K := h
/-! f18z: function 28 -/
def E_f18z : Env := envOf []
def F_f18z : List Value → AHeap → (Value → AHeap → Prop) → Prop
 | [.int .i64 n, .int .i64 low, .int .i64 high], H, K => T_f18z n low high H fun (r1 : Bool) (H' : AHeap) => K (.bool r1) H'
 | _, _, _ => False
def S_f18z : FSpec := { F := F_f18z, quiet := true, tame := false }
theorem f18z_vc (n : Int) (low : Int) (high : Int) (H : AHeap) (K : Value → AHeap → Prop) : bodyL Try.prog E_f18z Try.f28 [.int .i64 n, .int .i64 low, .int .i64 high] H K =
 (Br (decide ((low : Int) ≤ n)) (K (.bool (decide ((n : Int) ≤ high))) H) (K (.bool false) H)) := by kernel_rfl
theorem E_f18z_ok : ∀ g, FnOk Try.prog g (E_f18z g) := FnOk.envOf (by
 intro x hx; cases hx)
theorem f18z_main (n : Int) (low : Int) (high : Int) (H : AHeap) (K : Value → AHeap → Prop) (h : T_f18z n low high H fun (r1 : Bool) (H' : AHeap) => K (.bool r1) H') : bodyL Try.prog E_f18z Try.f28 [.int .i64 n, .int .i64 low, .int .i64 high] H K := by
 rw [f18z_vc]
 unfold T_f18z p_f18z at h
 repeat' (first | exact h | (exfalso; simp_all; done) | (refine ⟨by decide, ?_⟩) | (refine Br.intro (fun hb => ?_) (fun hb => ?_) <;> (try simp only [hb, cond_true, cond_false, Bool.not_true, Bool.not_false] at h)))
theorem f18z_ok : FnOk Try.prog 28 S_f18z := by
 refine FnOk.body mix_ok E_f18z_ok Try.func28 rfl ω10 ω10 ?_ ?_ ?_ ?_ ?_
 ·intro args H K K' h hk
  simp only [S_f18z] at *
  unfold F_f18z at *
  split at hk
  ·have k := hk
   exact h _ _ k
  ·exact hk.elim
 ·intro _ args H K hk
  simp only [S_f18z] at *
  unfold F_f18z at *
  split at hk
  ·have k := hk
   exact ⟨_, k, fun K' k' => k'⟩
  ·exact hk.elim
 ·intro args H K hk
  simp only [S_f18z] at *
  unfold F_f18z at *
  split at hk
  ·have k := hk
   exact ⟨_, _, k⟩
  ·exact hk.elim
 ·intro hq; cases hq
 ·have mm := @f18z_main
  have ml := fun (args : List Value) (H : AHeap) (K : Value → AHeap → Prop) => bodyL_body (P := Try.prog) (env := E_f18z ) (fn := Try.f28) (args := args) (H := H) (K := K) E_f18z_ok 
  revert mm ml
  generalize bodyK Try.prog E_f18z Try.f28 = Q
  generalize bodyL Try.prog E_f18z Try.f28 = QL
  intro mm ml args H K hk
  simp only [S_f18z] at *
  unfold F_f18z at *
  split at hk
  ·exact ml _ H K (mm _ _ _ H K hk)
  ·exact hk.elim
def p_fuz (x : Nat) : Bool := feq .f32 (fsub .f32 x x) 0
def T_fuz (x : Nat) (H : AHeap) (K : Bool → AHeap → Prop) : Prop := K (p_fuz x) H

theorem T_fuz_i {x : Nat} {H : AHeap} {K : Bool → AHeap → Prop} (h : K (p_fuz x) H) : T_fuz x H K := h
/-! fuz: function 59 -/
def E_fuz : Env := envOf []
def F_fuz : List Value → AHeap → (Value → AHeap → Prop) → Prop
 | [.float .f32 x], H, K => T_fuz x H fun (r1 : Bool) (H' : AHeap) => K (.bool r1) H'
 | _, _, _ => False
def S_fuz : FSpec := { F := F_fuz, quiet := true, tame := false }
theorem fuz_vc (x : Nat) (H : AHeap) (K : Value → AHeap → Prop) : bodyL Try.prog E_fuz Try.f59 [.float .f32 x] H K =
 (K (.bool (feq .f32 (fsub .f32 x x) 0)) H) := by kernel_rfl
theorem E_fuz_ok : ∀ g, FnOk Try.prog g (E_fuz g) := FnOk.envOf (by
 intro x hx; cases hx)
theorem fuz_main (x : Nat) (H : AHeap) (K : Value → AHeap → Prop) (h : T_fuz x H fun (r1 : Bool) (H' : AHeap) => K (.bool r1) H') : bodyL Try.prog E_fuz Try.f59 [.float .f32 x] H K := by
 rw [fuz_vc]
 unfold T_fuz p_fuz at h
 repeat' (first | exact h | (exfalso; simp_all; done) | (refine ⟨by decide, ?_⟩) | (refine Br.intro (fun hb => ?_) (fun hb => ?_) <;> (try simp only [hb, cond_true, cond_false, Bool.not_true, Bool.not_false] at h)))
theorem fuz_ok : FnOk Try.prog 59 S_fuz := by
 refine FnOk.body mix_ok E_fuz_ok Try.func59 rfl ω10 ω10 ?_ ?_ ?_ ?_ ?_
 ·intro args H K K' h hk
  simp only [S_fuz] at *
  unfold F_fuz at *
  split at hk
  ·have k := hk
   exact h _ _ k
  ·exact hk.elim
 ·intro _ args H K hk
  simp only [S_fuz] at *
  unfold F_fuz at *
  split at hk
  ·have k := hk
   exact ⟨_, k, fun K' k' => k'⟩
  ·exact hk.elim
 ·intro args H K hk
  simp only [S_fuz] at *
  unfold F_fuz at *
  split at hk
  ·have k := hk
   exact ⟨_, _, k⟩
  ·exact hk.elim
 ·intro hq; cases hq
 ·have mm := @fuz_main
  have ml := fun (args : List Value) (H : AHeap) (K : Value → AHeap → Prop) => bodyL_body (P := Try.prog) (env := E_fuz ) (fn := Try.f59) (args := args) (H := H) (K := K) E_fuz_ok 
  revert mm ml
  generalize bodyK Try.prog E_fuz Try.f59 = Q
  generalize bodyL Try.prog E_fuz Try.f59 = QL
  intro mm ml args H K hk
  simp only [S_fuz] at *
  unfold F_fuz at *
  split at hk
  ·exact ml _ H K (mm _ H K hk)
  ·exact hk.elim

def p_fhz_l2 (qc : List LN) (t2 : Bool) (t9 : Int) (k2_2 : Bool → Int → Bool) : Nat → Bool → Int → Bool
 | 0, _, _ => false
 | μ2 + 1, t2_2, t15 => (bif decide ((t15 : Int) < ((((qc).getD (t9 : Int).toNat [])).length : Int)) then (bif !((p_fuz (((((qc).getD (t9 : Int).toNat [])).getD (t15 : Int).toNat 0)))) then false else (p_fhz_l2 qc t2 t9 k2_2 μ2 t2_2 (t15 + 1))) else (k2_2 t2_2 t15))
def p_fhz_l2_s := fun qc t2 t9 k2_2 μ2 t2_2 t15 => @p_fhz_l2.eq_2 qc t2 t9 k2_2 t2_2 t15 μ2
def p_fhz_l1 (qc : List LN) : Nat → Bool → Int → Bool
 | 0, _, _ => false
 | μ + 1, t2, t9 => (bif decide ((t9 : Int) < (qc.length : Int)) then (p_fhz_l2 qc t2 t9 (fun (t2_2 : Bool) (t15 : Int) => (p_fhz_l1 qc μ t2_2 (t9 + 1))) (Int.toNat (((((qc).getD (t9 : Int).toNat [])).length : Int) - (0 : Int)) + 1) t2 (0 : Int)) else true)
def p_fhz_l1_s := fun qc μ t2 t9 => @p_fhz_l1.eq_2 qc t2 t9 μ
def p_fhz (qc : List LN) : Bool := (p_fhz_l1 qc (Int.toNat ((qc.length : Int) - (0 : Int)) + 1) false (0 : Int))
def p_fhz_eq := @p_fhz.eq_1
def T_fhz (uc : OA) (ic : Nat) (bd : Nat) (H : AHeap) (K : Bool → AHeap → Prop) : Prop := ∃ (qc : List LN), IsLL fF H uc ic qc ∧ qc.length < 1073741824 ∧ (∀ y ∈ qc, y.length < 1073741824) ∧ K (p_fhz qc) H
theorem T_fhz_i {uc : OA} {ic : Nat} {bd : Nat} {H : AHeap} {K : Bool → AHeap → Prop} (h : ∃ (qc : List LN), IsLL fF H uc ic qc ∧ qc.length < 1073741824 ∧ (∀ y ∈ qc, y.length < 1073741824) ∧ K (p_fhz qc) H) : T_fhz uc ic bd H K := h

/-! fhz: function 42 -/
def E_fhz : Env := envOf [(59, S_fuz)]
def F_fhz : List Value → AHeap → (Value → AHeap → Prop) → Prop
 | [.slice uc ic bd], H, K => T_fhz uc ic bd H fun (r1 : Bool) (H' : AHeap) => K (.bool r1) H'
 | _, _, _ => False
def S_fhz : FSpec := { F := F_fhz, quiet := true, tame := false }
theorem fhz_vc (uc : OA) (ic : Nat) (bd : Nat) (H : AHeap) (K : Value → AHeap → Prop) : bodyL Try.prog E_fhz Try.f42 [.slice uc ic bd] H K =
 (loopK (exL Try.prog E_fhz (cl (cl (cr (cl (cr (bodyC Try.f42)))))) 896 4 [(0, 0)]) (ud7 (.slice uc ic bd :: .int .i64 (ic : Int) :: .int .i64 0 :: ud14 [])) H (blockQ 0 (seqQ (exL Try.prog E_fhz (cr (cr (bodyC Try.f42))) 4 4 []) (retK Try.prog Try.f42 K)))) := by kernel_rfl
abbrev fhz_P1 (uc : OA) (bd : Nat) (ic : Nat) (t9 : Int)  : List Value := (ud7 (.slice uc ic bd :: .int .i64 (ic : Int) :: .int .i64 t9 :: ud14 []))
theorem fhz_r1 (uc : OA) (bd : Nat) (ic : Nat) (t9 : Int)  (H : AHeap) (R : Post) : exL Try.prog E_fhz (cl (cl (cr (cl (cr (bodyC Try.f42)))))) 896 4 [(0, 0)] (fhz_P1 uc bd ic t9) H R =
 (Br (decide ((t9 : Int) < (ic : Int))) ((0 : Int) ≤ t9 ∧ t9 < (ic : Int) ∧ ∃ b1 f1, (uc : OA) = some ⟨b1, f1, none⟩ ∧ ∃ ze : OA, ∃ ue : Nat, ∃ af : Nat,  rdC H b1 (f1 + (t9 : Int).toNat * 1) = some (.slice ze ue af) ∧ loopK (exL Try.prog E_fhz (cl (cl (cr (cr (cl (cl (cr (cr (cl (cl (cr (cl (cr (bodyC Try.f42)))))))))))))) 58240 4 [(2, 896), (1, 896), (0, 0)]) (ud7 (.slice uc ic bd :: .int .i64 (ic : Int) :: .int .i64 t9 :: ud3 (.slice ze ue af :: .int .i64 (ue : Int) :: .int .i64 0 :: ud8 []))) H (blockQ 2 (blockQ 1 (seqQ (exL Try.prog E_fhz (cr (cr (cr (cl (cl (cr (cl (cr (bodyC Try.f42))))))))) 896 4 [(0, 0)]) (R))))) (R (.exit 0) (ud24 []) H)) := by kernel_rfl
def fhz_I1 (uc : OA) (bd : Nat) (ic : Nat) (Inv : Nat → Int → AHeap → Prop) : Nat → List Value → AHeap → Prop := fun μ tm H => ∃ (t9 : Int), tm = (fhz_P1 uc bd ic t9) ∧ Inv μ t9 H
theorem fhz_L1 (uc : OA) (bd : Nat) (ic : Nat) {Q : Post} (Inv : Nat → Int → AHeap → Prop) (ν : Nat) (t9 : Int)  (H : AHeap) (h0 : Inv ν t9 H)
  (hs : ∀ (μ : Nat) (t9 : Int)  (H : AHeap), Inv μ t9 H → exL Try.prog E_fhz (cl (cl (cr (cl (cr (bodyC Try.f42)))))) 896 4 [(0, 0)] (fhz_P1 uc bd ic t9) H (loopQ (fhz_I1 uc bd ic Inv) μ Q)) : loopK (exL Try.prog E_fhz (cl (cl (cr (cl (cr (bodyC Try.f42)))))) 896 4 [(0, 0)]) (fhz_P1 uc bd ic t9) H Q :=
 ⟨fhz_I1 uc bd ic Inv, ν, ⟨t9, rfl, h0⟩, fun μ tm H h => by obtain ⟨t9, rfl, hI⟩ := h; exact hs μ t9  H hI⟩
theorem fhz_n1 {uc : OA} {bd : Nat} {ic : Nat} {Q : Post} {Inv : Nat → Int → AHeap → Prop} {μ : Nat} (μ' : Nat) {t9 : Int}  {H : AHeap} (hm : μ' < μ) (hI : Inv μ' t9 H) : loopQ (fhz_I1 uc bd ic Inv) μ Q .normal (fhz_P1 uc bd ic t9) H := ⟨μ', hm, t9, rfl, hI⟩
theorem fhz_x1_0  (H : AHeap) (K : Value → AHeap → Prop)  {I : Nat → List Value → AHeap → Prop} {μ : Nat} : loopQ I μ (blockQ 0 (seqQ (exL Try.prog E_fhz (cr (cr (bodyC Try.f42))) 4 4 []) (retK Try.prog Try.f42 K))) (.exit 0) (ud24 []) H =
 (K (.bool true) H) := by kernel_rfl
theorem fhz_x1_ret (t2 : Bool) (H : AHeap) (K : Value → AHeap → Prop)  {I : Nat → List Value → AHeap → Prop} {μ : Nat} : loopQ I μ (blockQ 0 (seqQ (exL Try.prog E_fhz (cr (cr (bodyC Try.f42))) 4 4 []) (retK Try.prog Try.f42 K))) .ret (ud2 (.bool t2 :: ud21 [])) H =
 (K (.bool t2) H) := by kernel_rfl
abbrev fhz_P2 (uc : OA) (bd : Nat) (ic : Nat) (t9 : Int) (ze : OA) (af : Nat) (ue : Nat) (t15 : Int)  : List Value := (ud7 (.slice uc ic bd :: .int .i64 (ic : Int) :: .int .i64 t9 :: ud3 (.slice ze ue af :: .int .i64 (ue : Int) :: .int .i64 t15 :: ud8 [])))
theorem fhz_r2 (uc : OA) (bd : Nat) (ic : Nat) (t9 : Int) (ze : OA) (af : Nat) (ue : Nat) (t15 : Int)  (H : AHeap) (R : Post) : exL Try.prog E_fhz (cl (cl (cr (cr (cl (cl (cr (cr (cl (cl (cr (cl (cr (bodyC Try.f42)))))))))))))) 58240 4 [(2, 896), (1, 896), (0, 0)] (fhz_P2 uc bd ic t9 ze af ue t15) H R =
 (Br (decide ((t15 : Int) < (ue : Int))) ((0 : Int) ≤ t15 ∧ t15 < (ue : Int) ∧ ∃ b2 f2, (ze : OA) = some ⟨b2, f2, none⟩ ∧ ∃ x2 : Nat,  rdC H b2 (f2 + (t15 : Int).toNat * 1) = some (.float .f32 x2) ∧ T_fuz x2 H fun (r1 : Bool) (H1 : AHeap) => Br (!r1) (R .ret (ud2 (.bool false :: ud21 [])) H1) (R .normal (ud7 (.slice uc ic bd :: .int .i64 (ic : Int) :: .int .i64 t9 :: ud3 (.slice ze ue af :: .int .i64 (ue : Int) :: .int .i64 (IntKind.wrap .i64 (t15 + 1)) :: ud8 []))) H1)) (R (.exit 2) (ud7 (.slice uc ic bd :: .int .i64 (ic : Int) :: .int .i64 t9 :: ud14 [])) H)) := by kernel_rfl
def fhz_I2 (uc : OA) (bd : Nat) (ic : Nat) (t9 : Int) (ze : OA) (af : Nat) (ue : Nat) (Inv : Nat → Int → AHeap → Prop) : Nat → List Value → AHeap → Prop := fun μ tm H => ∃ (t15 : Int), tm = (fhz_P2 uc bd ic t9 ze af ue t15) ∧ Inv μ t15 H
theorem fhz_L2 (uc : OA) (bd : Nat) (ic : Nat) (t9 : Int) (ze : OA) (af : Nat) (ue : Nat) {Q : Post} (Inv : Nat → Int → AHeap → Prop) (ν : Nat) (t15 : Int)  (H : AHeap) (h0 : Inv ν t15 H)
  (hs : ∀ (μ : Nat) (t15 : Int)  (H : AHeap), Inv μ t15 H → exL Try.prog E_fhz (cl (cl (cr (cr (cl (cl (cr (cr (cl (cl (cr (cl (cr (bodyC Try.f42)))))))))))))) 58240 4 [(2, 896), (1, 896), (0, 0)] (fhz_P2 uc bd ic t9 ze af ue t15) H (loopQ (fhz_I2 uc bd ic t9 ze af ue Inv) μ Q)) : loopK (exL Try.prog E_fhz (cl (cl (cr (cr (cl (cl (cr (cr (cl (cl (cr (cl (cr (bodyC Try.f42)))))))))))))) 58240 4 [(2, 896), (1, 896), (0, 0)]) (fhz_P2 uc bd ic t9 ze af ue t15) H Q :=
 ⟨fhz_I2 uc bd ic t9 ze af ue Inv, ν, ⟨t15, rfl, h0⟩, fun μ tm H h => by obtain ⟨t15, rfl, hI⟩ := h; exact hs μ t15  H hI⟩
theorem fhz_n2 {uc : OA} {bd : Nat} {ic : Nat} {t9 : Int} {ze : OA} {af : Nat} {ue : Nat} {Q : Post} {Inv : Nat → Int → AHeap → Prop} {μ : Nat} (μ' : Nat) {t15 : Int}  {H : AHeap} (hm : μ' < μ) (hI : Inv μ' t15 H) : loopQ (fhz_I2 uc bd ic t9 ze af ue Inv) μ Q .normal (fhz_P2 uc bd ic t9 ze af ue t15) H := ⟨μ', hm, t15, rfl, hI⟩
theorem fhz_x2_2 (uc : OA) (bd : Nat) (ic : Nat) (t9 : Int) (H : AHeap)  (R : Post) {I : Nat → List Value → AHeap → Prop} {μ : Nat} : loopQ I μ (blockQ 2 (blockQ 1 (seqQ (exL Try.prog E_fhz (cr (cr (cr (cl (cl (cr (cl (cr (bodyC Try.f42))))))))) 896 4 [(0, 0)]) (R)))) (.exit 2) (ud7 (.slice uc ic bd :: .int .i64 (ic : Int) :: .int .i64 t9 :: ud14 [])) H =
 (R .normal (ud7 (.slice uc ic bd :: .int .i64 (ic : Int) :: .int .i64 (IntKind.wrap .i64 (t9 + 1)) :: ud14 [])) H) := by kernel_rfl
theorem fhz_x2_ret (t2_2 : Bool) (H : AHeap)  (R : Post) {I : Nat → List Value → AHeap → Prop} {μ : Nat} : loopQ I μ (blockQ 2 (blockQ 1 (seqQ (exL Try.prog E_fhz (cr (cr (cr (cl (cl (cr (cl (cr (bodyC Try.f42))))))))) 896 4 [(0, 0)]) (R)))) .ret (ud2 (.bool t2_2 :: ud21 [])) H =
 (R .ret (ud2 (.bool t2_2 :: ud21 [])) H) := by kernel_rfl
theorem E_fhz_ok : ∀ g, FnOk Try.prog g (E_fhz g) := FnOk.envOf (by
 intro x hx
 simp only [List.mem_cons, List.not_mem_nil, or_false] at hx
 subst hx; exact fuz_ok)
theorem fhz_main (uc : OA) (ic : Nat) (bd : Nat) (H : AHeap) (K : Value → AHeap → Prop) (h : T_fhz uc ic bd H fun (r1 : Bool) (H' : AHeap) => K (.bool r1) H') : bodyL Try.prog E_fhz Try.f42 [.slice uc ic bd] H K := by
 rw [fhz_vc]
 obtain ⟨qc, i_lists, bd_22, bb_l_lists, hk⟩ := h
 obtain rfl := i_lists.eqn
 have e : (p_fhz qc) = _ := rfl
 have e := e.trans (p_fhz_eq qc)
 have g0 := Grow.refl H
 refine fhz_L1 _ _ _ (fun (μ : Nat) (t9 : Int) (H_1 : AHeap) => ∃ (t2 : Bool), H = H_1 ∧ (0 : Int) ≤ t9 ∧ t9 ≤ (qc.length : Int) ∧ (qc.length : Int) - t9 ≤ (μ : Int) ∧ p_fhz qc = p_fhz_l1 qc (μ + 1) t2 t9) (Int.toNat ((qc.length : Int) - (0 : Int))) _ H ?_ ?_
 ·exact ⟨_, rfl, ω6, ω6, ω2, e⟩
 ·intro μ t9  H_1 hI
  obtain ⟨t2, rfl, v_1, v_2, hμ, e⟩ := hI
  rw [fhz_r1]
  have e := e.trans (p_fhz_l1_s qc μ t2 t9)
  have l_3 := g0.1
  refine Br.intro (fun c_4 => ?_) (fun c_4 => ?_)
  ·have e := e.trans (cond_t c_4)
   have c_4' := of_decide_eq_true c_4
   obtain ⟨b_5, f_6, q_7⟩ := ((i_lists.grow g0)).pos ω0
   refine ⟨by omega, by omega, b_5, f_6, q_7, ?_⟩
   obtain ⟨a_8, n9, e10, r_11, i12⟩ := (i_lists).rd (i := (t9 : Int).toNat) g0 q_7 ω2
   obtain rfl := i12.eqn
   refine ⟨a_8, _, e10, r_11, ?_⟩
   have z13 := getD_len bb_l_lists (t9 : Int).toNat
   refine fhz_L2 _ _ _ _ _ _ _ (fun (μ2 : Nat) (t15 : Int) (H_2 : AHeap) => ∃ (t2_2 : Bool), H = H_2 ∧ (0 : Int) ≤ t15 ∧ t15 ≤ ((((qc).getD (t9 : Int).toNat [])).length : Int) ∧ ((((qc).getD (t9 : Int).toNat [])).length : Int) - t15 ≤ (μ2 : Int) ∧ p_fhz qc = p_fhz_l2 qc t2 t9 (fun (t2_2 : Bool) (t15 : Int) => (p_fhz_l1 qc μ t2_2 (t9 + 1))) (μ2 + 1) t2_2 t15) (Int.toNat (((((qc).getD (t9 : Int).toNat [])).length : Int) - (0 : Int))) _ H ?_ ?_
   ·exact ⟨_, rfl, ω6, ω6, ω2, e⟩
   ·intro μ2 t15  H_2 hI
    obtain ⟨t2_2, rfl, v_14, v_15, hμ, e⟩ := hI
    rw [fhz_r2]
    have e := e.trans (p_fhz_l2_s qc t2 t9 (fun (t2_2 : Bool) (t15 : Int) => (p_fhz_l1 qc μ t2_2 (t9 + 1))) μ2 t2_2 t15)
    have l_16 := g0.1
    refine Br.intro (fun c_17 => ?_) (fun c_17 => ?_)
    ·have e := e.trans (cond_t c_17)
     have c_17' := of_decide_eq_true c_17
     obtain ⟨b18, f_19, q_20⟩ := ((i12.grow g0)).pos ω0
     refine ⟨by omega, by omega, b18, f_19, q_20, ?_⟩
     refine ⟨((((qc).getD (t9 : Int).toNat [])).getD (t15 : Int).toNat 0), (i12).rd g0 q_20 ω2 _, ?_⟩
     refine T_fuz_i ?_
     refine Br.intro (fun c_21 => ?_) (fun c_21 => ?_)
     ·have e := e.trans (cond_t c_21)
      have c_21n := nf_of_t c_21
      rw [fhz_x2_ret]
      rw [fhz_x1_ret]
      rw [e] at hk
      exact hk
     ·have e := e.trans (cond_f c_21)
      have c_21n := nt_of_f c_21
      rw [show IntKind.wrap .i64 (t15 + 1) = (t15 + 1) from wrap64 ω2 ω2]
      refine fhz_n2 (μ2 - 1) ω16 ⟨_, rfl, ω1, ω1, ω16, ω20⟩
    ·have e := e.trans (cond_f c_17)
     have c_17' := of_decide_eq_false c_17
     rw [fhz_x2_2]
     rw [show IntKind.wrap .i64 (t9 + 1) = (t9 + 1) from wrap64 ω2 ω2]
     refine fhz_n1 (μ - 1) ω16 ⟨_, rfl, ω1, ω1, ω16, ω12⟩
  ·have e := e.trans (cond_f c_4)
   have c_4' := of_decide_eq_false c_4
   rw [fhz_x1_0]
   rw [e] at hk
   exact hk
theorem fhz_ok : FnOk Try.prog 42 S_fhz := by
 refine FnOk.body mix_ok E_fhz_ok Try.func42 rfl ω10 ω10 ?_ ?_ ?_ ?_ ?_
 ·intro args H K K' h hk
  simp only [S_fhz] at *
  unfold F_fhz at *
  split at hk
  ·obtain ⟨qc, i_lists, bd_22, bb_l_lists, k⟩ := hk
   exact ⟨qc, i_lists, bd_22, bb_l_lists, h _ _ k⟩
  ·exact hk.elim
 ·intro _ args H K hk
  simp only [S_fhz] at *
  unfold F_fhz at *
  split at hk
  ·obtain ⟨qc, i_lists, bd_22, bb_l_lists, k⟩ := hk
   exact ⟨_, k, fun K' k' => ⟨qc, i_lists, bd_22, bb_l_lists, k'⟩⟩
  ·exact hk.elim
 ·intro args H K hk
  simp only [S_fhz] at *
  unfold F_fhz at *
  split at hk
  ·obtain ⟨qc, i_lists, bd_22, bb_l_lists, k⟩ := hk
   exact ⟨_, _, k⟩
  ·exact hk.elim
 ·intro hq; cases hq
 ·have mm := @fhz_main
  have ml := fun (args : List Value) (H : AHeap) (K : Value → AHeap → Prop) => bodyL_body (P := Try.prog) (env := E_fhz ) (fn := Try.f42) (args := args) (H := H) (K := K) E_fhz_ok 
  revert mm ml
  generalize bodyK Try.prog E_fhz Try.f42 = Q
  generalize bodyL Try.prog E_fhz Try.f42 = QL
  intro mm ml args H K hk
  simp only [S_fhz] at *
  unfold F_fhz at *
  split at hk
  ·exact ml _ H K (mm _ _ _ H K hk)
  ·exact hk.elim
def p_f16z (x : Nat) : Bool := (bif (p_fuz x) then flt .f32 0 x else false)
def T_f16z (x : Nat) (H : AHeap) (K : Bool → AHeap → Prop) : Prop := K (p_f16z x) H

theorem T_f16z_i {x : Nat} {H : AHeap} {K : Bool → AHeap → Prop} (h : K (p_f16z x) H) : T_f16z x H K := h
/-! f16z: function 43 -/
def E_f16z : Env := envOf [(59, S_fuz)]
def F_f16z : List Value → AHeap → (Value → AHeap → Prop) → Prop
 | [.float .f32 x], H, K => T_f16z x H fun (r1 : Bool) (H' : AHeap) => K (.bool r1) H'
 | _, _, _ => False
def S_f16z : FSpec := { F := F_f16z, quiet := true, tame := false }
theorem f16z_vc (x : Nat) (H : AHeap) (K : Value → AHeap → Prop) : bodyL Try.prog E_f16z Try.f43 [.float .f32 x] H K =
 (T_fuz x H fun (r1 : Bool) (H1 : AHeap) => Br r1 (K (.bool (flt .f32 0 x)) H1) (K (.bool false) H1)) := by kernel_rfl
theorem E_f16z_ok : ∀ g, FnOk Try.prog g (E_f16z g) := FnOk.envOf (by
 intro x hx
 simp only [List.mem_cons, List.not_mem_nil, or_false] at hx
 subst hx; exact fuz_ok)
theorem f16z_main (x : Nat) (H : AHeap) (K : Value → AHeap → Prop) (h : T_f16z x H fun (r1 : Bool) (H' : AHeap) => K (.bool r1) H') : bodyL Try.prog E_f16z Try.f43 [.float .f32 x] H K := by
 rw [f16z_vc]
 simp only [T_fuz]
 unfold T_f16z p_f16z at h
 repeat' (first | exact h | (exfalso; simp_all; done) | (refine ⟨by decide, ?_⟩) | (refine Br.intro (fun hb => ?_) (fun hb => ?_) <;> (try simp only [hb, cond_true, cond_false, Bool.not_true, Bool.not_false] at h)))
theorem f16z_ok : FnOk Try.prog 43 S_f16z := by
 refine FnOk.body mix_ok E_f16z_ok Try.func43 rfl ω10 ω10 ?_ ?_ ?_ ?_ ?_
 ·intro args H K K' h hk
  simp only [S_f16z] at *
  unfold F_f16z at *
  split at hk
  ·have k := hk
   exact h _ _ k
  ·exact hk.elim
 ·intro _ args H K hk
  simp only [S_f16z] at *
  unfold F_f16z at *
  split at hk
  ·have k := hk
   exact ⟨_, k, fun K' k' => k'⟩
  ·exact hk.elim
 ·intro args H K hk
  simp only [S_f16z] at *
  unfold F_f16z at *
  split at hk
  ·have k := hk
   exact ⟨_, _, k⟩
  ·exact hk.elim
 ·intro hq; cases hq
 ·have mm := @f16z_main
  have ml := fun (args : List Value) (H : AHeap) (K : Value → AHeap → Prop) => bodyL_body (P := Try.prog) (env := E_f16z ) (fn := Try.f43) (args := args) (H := H) (K := K) E_f16z_ok 
  revert mm ml
  generalize bodyK Try.prog E_f16z Try.f43 = Q
  generalize bodyL Try.prog E_f16z Try.f43 = QL
  intro mm ml args H K hk
  simp only [S_f16z] at *
  unfold F_f16z at *
  split at hk
  ·exact ml _ H K (mm _ H K hk)
  ·exact hk.elim
end Go.Proofs.Ythheoefadijhdaa.Ai
