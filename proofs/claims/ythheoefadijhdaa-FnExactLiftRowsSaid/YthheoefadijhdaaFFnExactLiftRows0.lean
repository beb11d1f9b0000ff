/- What functions of the program come to on the abstract machine, and that they do so; printed by a program of mine around proofs of mine. -/
import Derived.Test.YthheoefadijhdaaProg
import Derived.Test.YthheoefadijhdaaFFnExactLiftRowsFl
import Derived.Test.YthheoefadijhdaaFFnExactLiftRowsKt
import Derived.Test.YthheoefadijhdaaFFnExactLiftRowsOl
import Derived.Test.YthheoefadijhdaaFFnExactLiftRowsRd
set_option linter.unusedVariables false
set_option linter.unusedSimpArgs false
set_option linter.defProp false
set_option maxRecDepth 100000
set_option maxHeartbeats 1000000
namespace Go.Proofs.Ythheoefadijhdaa.Ai
open Go
attribute [local irreducible] bodyK bodyL
theorem mix_ok : Try.prog.follows .mixedOrders = true := by kernel_rfl
abbrev OA := Option Addr
abbrev LN := List Nat
abbrev ud2 (l : List Value) : List Value := ud :: ud :: l
abbrev ud3 (l : List Value) : List Value := ud :: ud :: ud :: l
abbrev ud4 (l : List Value) : List Value := ud :: ud :: ud :: ud :: l
abbrev ud5 (l : List Value) : List Value := ud :: ud :: ud :: ud :: ud :: l
abbrev ud6 (l : List Value) : List Value := ud :: ud :: ud :: ud :: ud :: ud :: l
abbrev ud7 (l : List Value) : List Value := ud :: ud :: ud :: ud :: ud :: ud :: ud :: l
abbrev ud8 (l : List Value) : List Value := ud :: ud :: ud :: ud :: ud :: ud :: ud :: ud :: l
abbrev ud11 (l : List Value) : List Value := ud :: ud :: ud :: ud :: ud :: ud :: ud :: ud :: ud :: ud :: ud :: l
abbrev ud12 (l : List Value) : List Value := ud :: ud :: ud :: ud :: ud :: ud :: ud :: ud :: ud :: ud :: ud :: ud :: l
abbrev ud13 (l : List Value) : List Value := ud :: ud :: ud :: ud :: ud :: ud :: ud :: ud :: ud :: ud :: ud :: ud :: ud :: l
abbrev ud14 (l : List Value) : List Value := ud :: ud :: ud :: ud :: ud :: ud :: ud :: ud :: ud :: ud :: ud :: ud :: ud :: ud :: l
abbrev ud16 (l : List Value) : List Value := ud :: ud :: ud :: ud :: ud :: ud :: ud :: ud :: ud :: ud :: ud :: ud :: ud :: ud :: ud :: ud :: l
abbrev ud17 (l : List Value) : List Value := ud :: ud :: ud :: ud :: ud :: ud :: ud :: ud :: ud :: ud :: ud :: ud :: ud :: ud :: ud :: ud :: ud :: l
abbrev ud18 (l : List Value) : List Value := ud :: ud :: ud :: ud :: ud :: ud :: ud :: ud :: ud :: ud :: ud :: ud :: ud :: ud :: ud :: ud :: ud :: ud :: l
abbrev ud20 (l : List Value) : List Value := ud :: ud :: ud :: ud :: ud :: ud :: ud :: ud :: ud :: ud :: ud :: ud :: ud :: ud :: ud :: ud :: ud :: ud :: ud :: ud :: l
abbrev ud21 (l : List Value) : List Value := ud :: ud :: ud :: ud :: ud :: ud :: ud :: ud :: ud :: ud :: ud :: ud :: ud :: ud :: ud :: ud :: ud :: ud :: ud :: ud :: ud :: l
abbrev ud23 (l : List Value) : List Value := ud :: ud :: ud :: ud :: ud :: ud :: ud :: ud :: ud :: ud :: ud :: ud :: ud :: ud :: ud :: ud :: ud :: ud :: ud :: ud :: ud :: ud :: ud :: l
abbrev ud24 (l : List Value) : List Value := ud :: ud :: ud :: ud :: ud :: ud :: ud :: ud :: ud :: ud :: ud :: ud :: ud :: ud :: ud :: ud :: ud :: ud :: ud :: ud :: ud :: ud :: ud :: ud :: l
abbrev ud25 (l : List Value) : List Value := ud :: ud :: ud :: ud :: ud :: ud :: ud :: ud :: ud :: ud :: ud :: ud :: ud :: ud :: ud :: ud :: ud :: ud :: ud :: ud :: ud :: ud :: ud :: ud :: ud :: l
abbrev ud29 (l : List Value) : List Value := ud :: ud :: ud :: ud :: ud :: ud :: ud :: ud :: ud :: ud :: ud :: ud :: ud :: ud :: ud :: ud :: ud :: ud :: ud :: ud :: ud :: ud :: ud :: ud :: ud :: ud :: ud :: ud :: ud :: l
abbrev ud30 (l : List Value) : List Value := ud :: ud :: ud :: ud :: ud :: ud :: ud :: ud :: ud :: ud :: ud :: ud :: ud :: ud :: ud :: ud :: ud :: ud :: ud :: ud :: ud :: ud :: ud :: ud :: ud :: ud :: ud :: ud :: ud :: ud :: l
abbrev ud31 (l : List Value) : List Value := ud :: ud :: ud :: ud :: ud :: ud :: ud :: ud :: ud :: ud :: ud :: ud :: ud :: ud :: ud :: ud :: ud :: ud :: ud :: ud :: ud :: ud :: ud :: ud :: ud :: ud :: ud :: ud :: ud :: ud :: ud :: l
abbrev ud32 (l : List Value) : List Value := ud :: ud :: ud :: ud :: ud :: ud :: ud :: ud :: ud :: ud :: ud :: ud :: ud :: ud :: ud :: ud :: ud :: ud :: ud :: ud :: ud :: ud :: ud :: ud :: ud :: ud :: ud :: ud :: ud :: ud :: ud :: ud :: l
abbrev ud35 (l : List Value) : List Value := ud :: ud :: ud :: ud :: ud :: ud :: ud :: ud :: ud :: ud :: ud :: ud :: ud :: ud :: ud :: ud :: ud :: ud :: ud :: ud :: ud :: ud :: ud :: ud :: ud :: ud :: ud :: ud :: ud :: ud :: ud :: ud :: ud :: ud :: ud :: l
abbrev ud37 (l : List Value) : List Value := ud :: ud :: ud :: ud :: ud :: ud :: ud :: ud :: ud :: ud :: ud :: ud :: ud :: ud :: ud :: ud :: ud :: ud :: ud :: ud :: ud :: ud :: ud :: ud :: ud :: ud :: ud :: ud :: ud :: ud :: ud :: ud :: ud :: ud :: ud :: ud :: ud :: l
abbrev ud38 (l : List Value) : List Value := ud :: ud :: ud :: ud :: ud :: ud :: ud :: ud :: ud :: ud :: ud :: ud :: ud :: ud :: ud :: ud :: ud :: ud :: ud :: ud :: ud :: ud :: ud :: ud :: ud :: ud :: ud :: ud :: ud :: ud :: ud :: ud :: ud :: ud :: ud :: ud :: ud :: ud :: l
abbrev ud44 (l : List Value) : List Value := ud :: ud :: ud :: ud :: ud :: ud :: ud :: ud :: ud :: ud :: ud :: ud :: ud :: ud :: ud :: ud :: ud :: ud :: ud :: ud :: ud :: ud :: ud :: ud :: ud :: ud :: ud :: ud :: ud :: ud :: ud :: ud :: ud :: ud :: ud :: ud :: ud :: ud :: ud :: ud :: ud :: ud :: ud :: ud :: l
abbrev ud45 (l : List Value) : List Value := ud :: ud :: ud :: ud :: ud :: ud :: ud :: ud :: ud :: ud :: ud :: ud :: ud :: ud :: ud :: ud :: ud :: ud :: ud :: ud :: ud :: ud :: ud :: ud :: ud :: ud :: ud :: ud :: ud :: ud :: ud :: ud :: ud :: ud :: ud :: ud :: ud :: ud :: ud :: ud :: ud :: ud :: ud :: ud :: ud :: l
abbrev ud49 (l : List Value) : List Value := ud :: ud :: ud :: ud :: ud :: ud :: ud :: ud :: ud :: ud :: ud :: ud :: ud :: ud :: ud :: ud :: ud :: ud :: ud :: ud :: ud :: ud :: ud :: ud :: ud :: ud :: ud :: ud :: ud :: ud :: ud :: ud :: ud :: ud :: ud :: ud :: ud :: ud :: ud :: ud :: ud :: ud :: ud :: ud :: ud :: ud :: ud :: ud :: ud :: l
abbrev ud51 (l : List Value) : List Value := ud :: ud :: ud :: ud :: ud :: ud :: ud :: ud :: ud :: ud :: ud :: ud :: ud :: ud :: ud :: ud :: ud :: ud :: ud :: ud :: ud :: ud :: ud :: ud :: ud :: ud :: ud :: ud :: ud :: ud :: ud :: ud :: ud :: ud :: ud :: ud :: ud :: ud :: ud :: ud :: ud :: ud :: ud :: ud :: ud :: ud :: ud :: ud :: ud :: ud :: ud :: l
abbrev ud52 (l : List Value) : List Value := ud :: ud :: ud :: ud :: ud :: ud :: ud :: ud :: ud :: ud :: ud :: ud :: ud :: ud :: ud :: ud :: ud :: ud :: ud :: ud :: ud :: ud :: ud :: ud :: ud :: ud :: ud :: ud :: ud :: ud :: ud :: ud :: ud :: ud :: ud :: ud :: ud :: ud :: ud :: ud :: ud :: ud :: ud :: ud :: ud :: ud :: ud :: ud :: ud :: ud :: ud :: ud :: l
abbrev ud53 (l : List Value) : List Value := ud :: ud :: ud :: ud :: ud :: ud :: ud :: ud :: ud :: ud :: ud :: ud :: ud :: ud :: ud :: ud :: ud :: ud :: ud :: ud :: ud :: ud :: ud :: ud :: ud :: ud :: ud :: ud :: ud :: ud :: ud :: ud :: ud :: ud :: ud :: ud :: ud :: ud :: ud :: ud :: ud :: ud :: ud :: ud :: ud :: ud :: ud :: ud :: ud :: ud :: ud :: ud :: ud :: l
abbrev ud59 (l : List Value) : List Value := ud :: ud :: ud :: ud :: ud :: ud :: ud :: ud :: ud :: ud :: ud :: ud :: ud :: ud :: ud :: ud :: ud :: ud :: ud :: ud :: ud :: ud :: ud :: ud :: ud :: ud :: ud :: ud :: ud :: ud :: ud :: ud :: ud :: ud :: ud :: ud :: ud :: ud :: ud :: ud :: ud :: ud :: ud :: ud :: ud :: ud :: ud :: ud :: ud :: ud :: ud :: ud :: ud :: ud :: ud :: ud :: ud :: ud :: ud :: l
abbrev ud60 (l : List Value) : List Value := ud :: ud :: ud :: ud :: ud :: ud :: ud :: ud :: ud :: ud :: ud :: ud :: ud :: ud :: ud :: ud :: ud :: ud :: ud :: ud :: ud :: ud :: ud :: ud :: ud :: ud :: ud :: ud :: ud :: ud :: ud :: ud :: ud :: ud :: ud :: ud :: ud :: ud :: ud :: ud :: ud :: ud :: ud :: ud :: ud :: ud :: ud :: ud :: ud :: ud :: ud :: ud :: ud :: ud :: ud :: ud :: ud :: ud :: ud :: ud :: l
abbrev ud61 (l : List Value) : List Value := ud :: ud :: ud :: ud :: ud :: ud :: ud :: ud :: ud :: ud :: ud :: ud :: ud :: ud :: ud :: ud :: ud :: ud :: ud :: ud :: ud :: ud :: ud :: ud :: ud :: ud :: ud :: ud :: ud :: ud :: ud :: ud :: ud :: ud :: ud :: ud :: ud :: ud :: ud :: ud :: ud :: ud :: ud :: ud :: ud :: ud :: ud :: ud :: ud :: ud :: ud :: ud :: ud :: ud :: ud :: ud :: ud :: ud :: ud :: ud :: ud :: l
abbrev ud62 (l : List Value) : List Value := ud :: ud :: ud :: ud :: ud :: ud :: ud :: ud :: ud :: ud :: ud :: ud :: ud :: ud :: ud :: ud :: ud :: ud :: ud :: ud :: ud :: ud :: ud :: ud :: ud :: ud :: ud :: ud :: ud :: ud :: ud :: ud :: ud :: ud :: ud :: ud :: ud :: ud :: ud :: ud :: ud :: ud :: ud :: ud :: ud :: ud :: ud :: ud :: ud :: ud :: ud :: ud :: ud :: ud :: ud :: ud :: ud :: ud :: ud :: ud :: ud :: ud :: l
abbrev ud71 (l : List Value) : List Value := ud :: ud :: ud :: ud :: ud :: ud :: ud :: ud :: ud :: ud :: ud :: ud :: ud :: ud :: ud :: ud :: ud :: ud :: ud :: ud :: ud :: ud :: ud :: ud :: ud :: ud :: ud :: ud :: ud :: ud :: ud :: ud :: ud :: ud :: ud :: ud :: ud :: ud :: ud :: ud :: ud :: ud :: ud :: ud :: ud :: ud :: ud :: ud :: ud :: ud :: ud :: ud :: ud :: ud :: ud :: ud :: ud :: ud :: ud :: ud :: ud :: ud :: ud :: ud :: ud :: ud :: ud :: ud :: ud :: ud :: ud :: l
abbrev ud94 (l : List Value) : List Value := ud :: ud :: ud :: ud :: ud :: ud :: ud :: ud :: ud :: ud :: ud :: ud :: ud :: ud :: ud :: ud :: ud :: ud :: ud :: ud :: ud :: ud :: ud :: ud :: ud :: ud :: ud :: ud :: ud :: ud :: ud :: ud :: ud :: ud :: ud :: ud :: ud :: ud :: ud :: ud :: ud :: ud :: ud :: ud :: ud :: ud :: ud :: ud :: ud :: ud :: ud :: ud :: ud :: ud :: ud :: ud :: ud :: ud :: ud :: ud :: ud :: ud :: ud :: ud :: ud :: ud :: ud :: ud :: ud :: ud :: ud :: ud :: ud :: ud :: ud :: ud :: ud :: ud :: ud :: ud :: ud :: ud :: ud :: ud :: ud :: ud :: ud :: ud :: ud :: ud :: ud :: ud :: ud :: ud :: l
abbrev ud95 (l : List Value) : List Value := ud :: ud :: ud :: ud :: ud :: ud :: ud :: ud :: ud :: ud :: ud :: ud :: ud :: ud :: ud :: ud :: ud :: ud :: ud :: ud :: ud :: ud :: ud :: ud :: ud :: ud :: ud :: ud :: ud :: ud :: ud :: ud :: ud :: ud :: ud :: ud :: ud :: ud :: ud :: ud :: ud :: ud :: ud :: ud :: ud :: ud :: ud :: ud :: ud :: ud :: ud :: ud :: ud :: ud :: ud :: ud :: ud :: ud :: ud :: ud :: ud :: ud :: ud :: ud :: ud :: ud :: ud :: ud :: ud :: ud :: ud :: ud :: ud :: ud :: ud :: ud :: ud :: ud :: ud :: ud :: ud :: ud :: ud :: ud :: ud :: ud :: ud :: ud :: ud :: ud :: ud :: ud :: ud :: ud :: ud :: l
abbrev ud96 (l : List Value) : List Value := ud :: ud :: ud :: ud :: ud :: ud :: ud :: ud :: ud :: ud :: ud :: ud :: ud :: ud :: ud :: ud :: ud :: ud :: ud :: ud :: ud :: ud :: ud :: ud :: ud :: ud :: ud :: ud :: ud :: ud :: ud :: ud :: ud :: ud :: ud :: ud :: ud :: ud :: ud :: ud :: ud :: ud :: ud :: ud :: ud :: ud :: ud :: ud :: ud :: ud :: ud :: ud :: ud :: ud :: ud :: ud :: ud :: ud :: ud :: ud :: ud :: ud :: ud :: ud :: ud :: ud :: ud :: ud :: ud :: ud :: ud :: ud :: ud :: ud :: ud :: ud :: ud :: ud :: ud :: ud :: ud :: ud :: ud :: ud :: ud :: ud :: ud :: ud :: ud :: ud :: ud :: ud :: ud :: ud :: ud :: ud :: l
abbrev ud97 (l : List Value) : List Value := ud :: ud :: ud :: ud :: ud :: ud :: ud :: ud :: ud :: ud :: ud :: ud :: ud :: ud :: ud :: ud :: ud :: ud :: ud :: ud :: ud :: ud :: ud :: ud :: ud :: ud :: ud :: ud :: ud :: ud :: ud :: ud :: ud :: ud :: ud :: ud :: ud :: ud :: ud :: ud :: ud :: ud :: ud :: ud :: ud :: ud :: ud :: ud :: ud :: ud :: ud :: ud :: ud :: ud :: ud :: ud :: ud :: ud :: ud :: ud :: ud :: ud :: ud :: ud :: ud :: ud :: ud :: ud :: ud :: ud :: ud :: ud :: ud :: ud :: ud :: ud :: ud :: ud :: ud :: ud :: ud :: ud :: ud :: ud :: ud :: ud :: ud :: ud :: ud :: ud :: ud :: ud :: ud :: ud :: ud :: ud :: ud :: l
abbrev ud98 (l : List Value) : List Value := ud :: ud :: ud :: ud :: ud :: ud :: ud :: ud :: ud :: ud :: ud :: ud :: ud :: ud :: ud :: ud :: ud :: ud :: ud :: ud :: ud :: ud :: ud :: ud :: ud :: ud :: ud :: ud :: ud :: ud :: ud :: ud :: ud :: ud :: ud :: ud :: ud :: ud :: ud :: ud :: ud :: ud :: ud :: ud :: ud :: ud :: ud :: ud :: ud :: ud :: ud :: ud :: ud :: ud :: ud :: ud :: ud :: ud :: ud :: ud :: ud :: ud :: ud :: ud :: ud :: ud :: ud :: ud :: ud :: ud :: ud :: ud :: ud :: ud :: ud :: ud :: ud :: ud :: ud :: ud :: ud :: ud :: ud :: ud :: ud :: ud :: ud :: ud :: ud :: ud :: ud :: ud :: ud :: ud :: ud :: ud :: ud :: ud :: l
set_option maxHeartbeats 1000000

def p_ffz (l_a : LN) (left : Int) : Int := (bif decide ((IntKind.wrap .i64 (left - (l_a.length : Int)) : Int) < 0) then ((-1) : Int) else IntKind.wrap .i64 (left - (l_a.length : Int)))
def p_ffz_eq := @p_ffz.eq_1
def T_ffz (a_a : OA) (a_n : Nat) (a_e : Nat) (left : Int) (H : AHeap) (K : Int → AHeap → Prop) : Prop := ∃ (l_a : LN), IsL fF H a_a a_n l_a ∧ K (p_ffz l_a left) H
theorem T_ffz_i {a_a : OA} {a_n : Nat} {a_e : Nat} {left : Int} {H : AHeap} {K : Int → AHeap → Prop} (h : ∃ (l_a : LN), IsL fF H a_a a_n l_a ∧ K (p_ffz l_a left) H) : T_ffz a_a a_n a_e left H K := h
theorem ω2 {P : Prop} (h : P := by omega) : P := h
theorem ffz_f (l : LN) (left : Int) : 0 ≤ left → left ≤ 1048576 → l.length ≤ 9223372036854775807 → p_ffz l left < 0 ∨ (l.length : Int) ≤ left ∧ p_ffz l left = left - l.length := by
 intro h0 h1 h2
 rw [p_ffz_eq, wrap64 ω2 ω2]
 by_cases h : left - (l.length : Int) < 0
 ·rw [decide_eq_true h, cond_true]; left; decide
 ·rw [decide_eq_false h, cond_false]; right; omega
/-! ffz: function 21 -/
def E_ffz : Env := envOf []
def F_ffz : List Value → AHeap → (Value → AHeap → Prop) → Prop
 | [.slice a_a a_n a_e, .int .i64 left], H, K => T_ffz a_a a_n a_e left H fun (r1 : Int) (H' : AHeap) => K (.int .i64 r1) H'
 | _, _, _ => False
def S_ffz : FSpec := { F := F_ffz, quiet := true, tame := false }
theorem ffz_vc (a_a : OA) (a_n : Nat) (a_e : Nat) (left : Int) (H : AHeap) (K : Value → AHeap → Prop) : bodyL Try.prog E_ffz Try.f21 [.slice a_a a_n a_e, .int .i64 left] H K =
 (Br (decide ((IntKind.wrap .i64 (left - (a_n : Int)) : Int) < 0)) (K (.int .i64 (-1)) H) (K (.int .i64 (IntKind.wrap .i64 (left - (a_n : Int)))) H)) := by kernel_rfl
theorem E_ffz_ok : ∀ g, FnOk Try.prog g (E_ffz g) := FnOk.envOf (by
 intro x hx; cases hx)
theorem ffz_main (a_a : OA) (a_n : Nat) (a_e : Nat) (left : Int) (H : AHeap) (K : Value → AHeap → Prop) (h : T_ffz a_a a_n a_e left H fun (r1 : Int) (H' : AHeap) => K (.int .i64 r1) H') : bodyL Try.prog E_ffz Try.f21 [.slice a_a a_n a_e, .int .i64 left] H K := by
 rw [ffz_vc]
 obtain ⟨l_a, i_a, hk⟩ := h
 obtain rfl := i_a.eqn
 have e : (p_ffz l_a left) = _ := rfl
 have e := e.trans (p_ffz_eq l_a left)
 have g0 := Grow.refl H
 refine Br.intro (fun c_1 => ?_) (fun c_1 => ?_)
 ·have e := e.trans (cond_t c_1)
  have c_1' := of_decide_eq_true c_1
  rw [e] at hk
  exact hk
 ·have e := e.trans (cond_f c_1)
  have c_1' := of_decide_eq_false c_1
  rw [e] at hk
  exact hk
theorem ω9 {P : Prop} (h : P := by kernel_rfl) : P := h
theorem ffz_ok : FnOk Try.prog 21 S_ffz := by
 refine FnOk.body mix_ok E_ffz_ok Try.func21 rfl ω9 ω9 ?_ ?_ ?_ ?_ ?_
 ·intro args H K K' h hk
  simp only [S_ffz] at *
  unfold F_ffz at *
  split at hk
  ·obtain ⟨l_a, i_a, k⟩ := hk
   exact ⟨l_a, i_a, h _ _ k⟩
  ·exact hk.elim
 ·intro _ args H K hk
  simp only [S_ffz] at *
  unfold F_ffz at *
  split at hk
  ·obtain ⟨l_a, i_a, k⟩ := hk
   exact ⟨_, k, fun K' k' => ⟨l_a, i_a, k'⟩⟩
  ·exact hk.elim
 ·intro args H K hk
  simp only [S_ffz] at *
  unfold F_ffz at *
  split at hk
  ·obtain ⟨l_a, i_a, k⟩ := hk
   exact ⟨_, _, k⟩
  ·exact hk.elim
 ·intro hq; cases hq
 ·have mm := @ffz_main
  have ml := fun (args : List Value) (H : AHeap) (K : Value → AHeap → Prop) => bodyL_body (P := Try.prog) (env := E_ffz ) (fn := Try.f21) (args := args) (H := H) (K := K) E_ffz_ok 
  revert mm ml
  generalize bodyK Try.prog E_ffz Try.f21 = Q
  generalize bodyL Try.prog E_ffz Try.f21 = QL
  intro mm ml args H K hk
  simp only [S_ffz] at *
  unfold F_ffz at *
  split at hk
  ·exact ml _ H K (mm _ _ _ _ H K hk)
  ·exact hk.elim

def p_fwz (ja : LN) (a_Scale : Nat) (left : Int) : Int := (bif decide (((p_ffz ja left) : Int) < 0) then ((-1) : Int) else (p_ffz ja left))
def p_fwz_eq := @p_fwz.eq_1
def T_fwz (za : OA) (lb : Nat) (nb : Nat) (a_Scale : Nat) (left : Int) (H : AHeap) (K : Int → AHeap → Prop) : Prop := ∃ (ja : LN), IsL fF H za lb ja ∧ ((∀ H' : AHeap, Grow H H' → K (p_fwz ja a_Scale left) H'))
theorem T_fwz_i {za : OA} {lb : Nat} {nb : Nat} {a_Scale : Nat} {left : Int} {H : AHeap} {K : Int → AHeap → Prop} (h : ∃ (ja : LN), IsL fF H za lb ja ∧ ((∀ H' : AHeap, Grow H H' → K (p_fwz ja a_Scale left) H'))) : T_fwz za lb nb a_Scale left H K := h
theorem fwz_f (l : LN) (sc : Nat) (left : Int) : 0 ≤ left → left ≤ 1048576 → l.length ≤ 9223372036854775807 → p_fwz l sc left < 0 ∨ (l.length : Int) ≤ left ∧ p_fwz l sc left = left - l.length := by
 intro h0 h1 h2
 have := ffz_f l left h0 h1 h2
 rw [p_fwz_eq]
 by_cases h : p_ffz l left < 0
 ·rw [decide_eq_true h, cond_true]; left; decide
 ·rw [decide_eq_false h, cond_false]; right; omega
/-! fwz: function 6 -/
def E_fwz : Env := envOf [(21, S_ffz)]
def F_fwz : List Value → AHeap → (Value → AHeap → Prop) → Prop
 | [.agg ⟨[.slice za lb nb, .float .f32 a_Scale]⟩, .int .i64 left], H, K => T_fwz za lb nb a_Scale left H fun (r1 : Int) (H' : AHeap) => K (.int .i64 r1) H'
 | _, _, _ => False
def S_fwz : FSpec := { F := F_fwz, quiet := false, tame := true }
theorem fwz_vc (za : OA) (lb : Nat) (nb : Nat) (a_Scale : Nat) (left : Int) (H : AHeap) (K : Value → AHeap → Prop) : bodyL Try.prog E_fwz Try.f6 [.agg #[.slice za lb nb, .float .f32 a_Scale], .int .i64 left] H K =
 (Al [.slice za lb nb, .float .f32 a_Scale] H fun b1 H1 => ∃ nd : OA, ∃ yc : Nat, ∃ od : Nat,  rdC H1 b1 0 = some (.slice nd yc od) ∧ T_ffz nd yc od left H1 fun (r1 : Int) (H2 : AHeap) => Br (decide ((r1 : Int) < 0)) (K (.int .i64 (-1)) H2) (K (.int .i64 r1) H2)) := by kernel_rfl
theorem E_fwz_ok : ∀ g, FnOk Try.prog g (E_fwz g) := FnOk.envOf (by
 intro x hx
 simp only [List.mem_cons, List.not_mem_nil, or_false] at hx
 subst hx; exact ffz_ok)
theorem fwz_main (za : OA) (lb : Nat) (nb : Nat) (a_Scale : Nat) (left : Int) (H : AHeap) (K : Value → AHeap → Prop) (h : T_fwz za lb nb a_Scale left H fun (r1 : Int) (H' : AHeap) => K (.int .i64 r1) H') : bodyL Try.prog E_fwz Try.f6 [.agg #[.slice za lb nb, .float .f32 a_Scale], .int .i64 left] H K := by
 rw [fwz_vc]
 obtain ⟨ja, i_a_Weights, hk⟩ := h
 obtain rfl := i_a_Weights.eqn
 have e : (p_fwz ja a_Scale left) = _ := rfl
 have e := e.trans (p_fwz_eq ja a_Scale left)
 have g0 := Grow.refl H
 refine Al.intro (fun b_1 H_1 hb_2 hl_3 g_4 o_5 => ?_)
 have l_7 := g_4.1
 have g_8 := g0.trans g_4
 have l_9 := g_8.1
 have w12 := o_5.lt
 refine ⟨za, ja.length, nb, (o_5.rdC _).trans rfl, ?_⟩
 refine T_ffz_i ⟨_, (i_a_Weights.grow g_8), ?_⟩
 have z10 := ffz_f ja left
 refine Br.intro (fun c_11 => ?_) (fun c_11 => ?_)
 ·have e := e.trans (cond_t c_11)
  have c_11' := of_decide_eq_true c_11
  rw [e] at hk
  exact hk  H_1 g_8 
 ·have e := e.trans (cond_f c_11)
  have c_11' := of_decide_eq_false c_11
  rw [e] at hk
  exact hk  H_1 g_8 
theorem fwz_ok : FnOk Try.prog 6 S_fwz := by
 refine FnOk.body mix_ok E_fwz_ok Try.func6 rfl ω9 ω9 ?_ ?_ ?_ ?_ ?_
 ·intro args H K K' h hk
  simp only [S_fwz] at *
  unfold F_fwz at *
  split at hk
  ·obtain ⟨ja, i_a_Weights, k⟩ := hk
   exact ⟨ja, i_a_Weights, (fun  H' gg  => h _ _ (k  H' gg ))⟩
  ·exact hk.elim
 ·intro hq; cases hq
 ·intro args H K hk
  simp only [S_fwz] at *
  unfold F_fwz at *
  split at hk
  ·obtain ⟨ja, i_a_Weights, k⟩ := hk
   exact ⟨_, _, k H (Grow.refl H)⟩
  ·exact hk.elim
 ·intro _ args H K hk
  simp only [S_fwz] at *
  unfold F_fwz at *
  split at hk
  ·obtain ⟨ja, i_a_Weights, k⟩ := hk
   exact ⟨ja, i_a_Weights, (fun  H' gg  => ⟨gg, k  H' gg ⟩)⟩
  ·exact hk.elim
 ·have mm := @fwz_main
  have ml := fun (args : List Value) (H : AHeap) (K : Value → AHeap → Prop) => bodyL_body (P := Try.prog) (env := E_fwz ) (fn := Try.f6) (args := args) (H := H) (K := K) E_fwz_ok 
  revert mm ml
  generalize bodyK Try.prog E_fwz Try.f6 = Q
  generalize bodyL Try.prog E_fwz Try.f6 = QL
  intro mm ml args H K hk
  simp only [S_fwz] at *
  unfold F_fwz at *
  split at hk
  ·exact ml _ H K (mm _ _ _ _ _ H K hk)
  ·exact hk.elim

def p_fkz (a_Wide : Int) (a_High : Int) (ia : LN) (left : Int) : Int := (bif decide (((p_ffz ia left) : Int) < 0) then ((-1) : Int) else (p_ffz ia left))
def p_fkz_eq := @p_fkz.eq_1
def T_fkz (a_Wide : Int) (a_High : Int) (ta : OA) (cb : Nat) (db : Nat) (left : Int) (H : AHeap) (K : Int → AHeap → Prop) : Prop := ∃ (ia : LN), IsL fF H ta cb ia ∧ ((∀ H' : AHeap, Grow H H' → K (p_fkz a_Wide a_High ia left) H'))
theorem T_fkz_i {a_Wide : Int} {a_High : Int} {ta : OA} {cb : Nat} {db : Nat} {left : Int} {H : AHeap} {K : Int → AHeap → Prop} (h : ∃ (ia : LN), IsL fF H ta cb ia ∧ ((∀ H' : AHeap, Grow H H' → K (p_fkz a_Wide a_High ia left) H'))) : T_fkz a_Wide a_High ta cb db left H K := h
theorem fkz_f (a b : Int) (l : LN) (left : Int) : 0 ≤ left → left ≤ 1048576 → l.length ≤ 9223372036854775807 → p_fkz a b l left < 0 ∨ (l.length : Int) ≤ left ∧ p_fkz a b l left = left - l.length := by
 intro h0 h1 h2
 have := ffz_f l left h0 h1 h2
 rw [p_fkz_eq]
 by_cases h : p_ffz l left < 0
 ·rw [decide_eq_true h, cond_true]; left; decide
 ·rw [decide_eq_false h, cond_false]; right; omega
/-! fkz: function 7 -/
def E_fkz : Env := envOf [(21, S_ffz)]
def F_fkz : List Value → AHeap → (Value → AHeap → Prop) → Prop
 | [.agg ⟨[.int .i64 a_Wide, .int .i64 a_High, .slice ta cb db]⟩, .int .i64 left], H, K => T_fkz a_Wide a_High ta cb db left H fun (r1 : Int) (H' : AHeap) => K (.int .i64 r1) H'
 | _, _, _ => False
def S_fkz : FSpec := { F := F_fkz, quiet := false, tame := true }
theorem fkz_vc (a_Wide : Int) (a_High : Int) (ta : OA) (cb : Nat) (db : Nat) (left : Int) (H : AHeap) (K : Value → AHeap → Prop) : bodyL Try.prog E_fkz Try.f7 [.agg #[.int .i64 a_Wide, .int .i64 a_High, .slice ta cb db], .int .i64 left] H K =
 (Al [.int .i64 a_Wide, .int .i64 a_High, .slice ta cb db] H fun b1 H1 => ∃ nd : OA, ∃ yc : Nat, ∃ od : Nat,  rdC H1 b1 2 = some (.slice nd yc od) ∧ T_ffz nd yc od left H1 fun (r1 : Int) (H2 : AHeap) => Br (decide ((r1 : Int) < 0)) (K (.int .i64 (-1)) H2) (K (.int .i64 r1) H2)) := by kernel_rfl
theorem E_fkz_ok : ∀ g, FnOk Try.prog g (E_fkz g) := FnOk.envOf (by
 intro x hx
 simp only [List.mem_cons, List.not_mem_nil, or_false] at hx
 subst hx; exact ffz_ok)
theorem fkz_main (a_Wide : Int) (a_High : Int) (ta : OA) (cb : Nat) (db : Nat) (left : Int) (H : AHeap) (K : Value → AHeap → Prop) (h : T_fkz a_Wide a_High ta cb db left H fun (r1 : Int) (H' : AHeap) => K (.int .i64 r1) H') : bodyL Try.prog E_fkz Try.f7 [.agg #[.int .i64 a_Wide, .int .i64 a_High, .slice ta cb db], .int .i64 left] H K := by
 rw [fkz_vc]
 obtain ⟨ia, i_a_Lights, hk⟩ := h
 obtain rfl := i_a_Lights.eqn
 have e : (p_fkz a_Wide a_High ia left) = _ := rfl
 have e := e.trans (p_fkz_eq a_Wide a_High ia left)
 have g0 := Grow.refl H
 refine Al.intro (fun b_1 H_1 hb_2 hl_3 g_4 o_5 => ?_)
 have l_7 := g_4.1
 have g_8 := g0.trans g_4
 have l_9 := g_8.1
 have w12 := o_5.lt
 refine ⟨ta, ia.length, db, (o_5.rdC _).trans rfl, ?_⟩
 refine T_ffz_i ⟨_, (i_a_Lights.grow g_8), ?_⟩
 have z10 := ffz_f ia left
 refine Br.intro (fun c_11 => ?_) (fun c_11 => ?_)
 ·have e := e.trans (cond_t c_11)
  have c_11' := of_decide_eq_true c_11
  rw [e] at hk
  exact hk  H_1 g_8 
 ·have e := e.trans (cond_f c_11)
  have c_11' := of_decide_eq_false c_11
  rw [e] at hk
  exact hk  H_1 g_8 
theorem fkz_ok : FnOk Try.prog 7 S_fkz := by
 refine FnOk.body mix_ok E_fkz_ok Try.func7 rfl ω9 ω9 ?_ ?_ ?_ ?_ ?_
 ·intro args H K K' h hk
  simp only [S_fkz] at *
  unfold F_fkz at *
  split at hk
  ·obtain ⟨ia, i_a_Lights, k⟩ := hk
   exact ⟨ia, i_a_Lights, (fun  H' gg  => h _ _ (k  H' gg ))⟩
  ·exact hk.elim
 ·intro hq; cases hq
 ·intro args H K hk
  simp only [S_fkz] at *
  unfold F_fkz at *
  split at hk
  ·obtain ⟨ia, i_a_Lights, k⟩ := hk
   exact ⟨_, _, k H (Grow.refl H)⟩
  ·exact hk.elim
 ·intro _ args H K hk
  simp only [S_fkz] at *
  unfold F_fkz at *
  split at hk
  ·obtain ⟨ia, i_a_Lights, k⟩ := hk
   exact ⟨ia, i_a_Lights, (fun  H' gg  => ⟨gg, k  H' gg ⟩)⟩
  ·exact hk.elim
 ·have mm := @fkz_main
  have ml := fun (args : List Value) (H : AHeap) (K : Value → AHeap → Prop) => bodyL_body (P := Try.prog) (env := E_fkz ) (fn := Try.f7) (args := args) (H := H) (K := K) E_fkz_ok 
  revert mm ml
  generalize bodyK Try.prog E_fkz Try.f7 = Q
  generalize bodyL Try.prog E_fkz Try.f7 = QL
  intro mm ml args H K hk
  simp only [S_fkz] at *
  unfold F_fkz at *
  split at hk
  ·exact ml _ H K (mm _ _ _ _ _ _ H K hk)
  ·exact hk.elim

def p_fgz_l1 (l_a : LN) : Nat → Int → LN → LN
 | 0, _, _ => []
 | μ + 1, i, y1_1 => (bif decide ((i : Int) < (l_a.length : Int)) then (p_fgz_l1 l_a μ (i + 1) (((y1_1).set (i : Int).toNat ((((l_a).getD (i : Int).toNat 0)))))) else y1_1)
def p_fgz_l1_s := fun l_a μ i y1_1 => @p_fgz_l1.eq_2 l_a i y1_1 μ
def p_fgz (l_a : LN) : LN := (p_fgz_l1 l_a (Int.toNat ((l_a.length : Int) - (0 : Int)) + 1) (0 : Int) (List.replicate (((l_a.length : Int)).toNat) 0))
def p_fgz_eq := @p_fgz.eq_1
def T_fgz (a_a : OA) (a_n : Nat) (a_e : Nat) (H : AHeap) (K : OA → Nat → Nat → AHeap → Prop) : Prop := ∃ (l_a : LN), IsL fF H a_a a_n l_a ∧ l_a.length < 1073741824 ∧ ((∀ (qc : OA) (uc tc : Nat), ∀ H' : AHeap, Grow H H' → OwnS fF H' H.length qc uc tc l_a → K qc uc tc H'))
theorem T_fgz_i {a_a : OA} {a_n : Nat} {a_e : Nat} {H : AHeap} {K : OA → Nat → Nat → AHeap → Prop} (h : ∃ (l_a : LN), IsL fF H a_a a_n l_a ∧ l_a.length < 1073741824 ∧ ((∀ (qc : OA) (uc tc : Nat), ∀ H' : AHeap, Grow H H' → OwnS fF H' H.length qc uc tc l_a → K qc uc tc H'))) : T_fgz a_a a_n a_e H K := h
theorem fgz_go (l : LN) : ∀ (μ : Nat) (i : Nat) (ys : LN), ys.length = l.length → i ≤ l.length → l.length - i < μ →
  p_fgz_l1 l μ (i : Int) (l.take i ++ ys.drop i) = l := by
 intro μ
 induction μ with
 | zero => intro i ys _ _ h; omega
 | succ μ ih =>
  intro i ys hy hi hm
  rw [p_fgz_l1_s]
  by_cases h : i < l.length
  ·rw [decide_eq_true (show (i : Int) < (l.length : Int) by omega), cond_true]
   have hx : l[i]? = some (l.getD i 0) := by rw [List.getD_eq_getElem?_getD, List.getElem?_eq_getElem h]; rfl
   rw [Int.toNat_natCast, set_front l ys i ω2 hy.symm _ hx]
   exact ih (i + 1) ys hy ω2 ω2
  ·rw [decide_eq_false (show ¬ (i : Int) < (l.length : Int) by omega), cond_false]
   rw [List.take_of_length_le ω2, List.drop_eq_nil_of_le ω2, List.append_nil]
theorem fgz_id (l : LN) : p_fgz l = l := by
 rw [p_fgz_eq]
 have := fgz_go l (Int.toNat ((l.length : Int) - 0) + 1) 0 (List.replicate ((l.length : Int)).toNat 0) (by simp) ω2 ω2
 simpa using this
/-! fgz: function 25 -/
def E_fgz : Env := envOf []
def F_fgz : List Value → AHeap → (Value → AHeap → Prop) → Prop
 | [.slice a_a a_n a_e], H, K => T_fgz a_a a_n a_e H fun (qc : OA) (uc : Nat) (tc : Nat) (H' : AHeap) => K (.slice qc uc tc) H'
 | _, _, _ => False
def S_fgz : FSpec := { F := F_fgz, quiet := false, tame := true }
theorem fgz_vc (a_a : OA) (a_n : Nat) (a_e : Nat) (H : AHeap) (K : Value → AHeap → Prop) : bodyL Try.prog E_fgz Try.f25 [.slice a_a a_n a_e] H K =
 ((0 : Int) ≤ (a_n : Int) ∧ (a_n : Int) = (a_n : Int) ∧ (a_n : Int) < (most : Int) ∧ Al (zerosOf (.float .f32 0) ((a_n : Int)).toNat) H fun b1 H1 => loopK (exL Try.prog E_fgz (cl (cl (cr (cl (cr (cr (bodyC Try.f25))))))) 25 4 [(0, 8)]) (.slice a_a a_n a_e :: ud2 (.slice (some ⟨b1, 0, none⟩) (((a_n : Int)).toNat) 1 :: .int .i64 0 :: ud17 [])) H1 (blockQ 0 (seqQ (exL Try.prog E_fgz (cr (cr (cr (bodyC Try.f25)))) 4 4 []) (retK Try.prog Try.f25 K)))) := by kernel_rfl
abbrev fgz_P1 (a_a : OA) (a_e : Nat) (a_n : Nat) (b1 : Nat) (i : Int)  : List Value := (.slice a_a a_n a_e :: ud2 (.slice (some ⟨b1, 0, none⟩) (((a_n : Int)).toNat) 1 :: .int .i64 i :: ud17 []))
theorem fgz_r1 (a_a : OA) (a_e : Nat) (a_n : Nat) (b1 : Nat) (i : Int)  (H : AHeap) (R : Post) : exL Try.prog E_fgz (cl (cl (cr (cl (cr (cr (bodyC Try.f25))))))) 25 4 [(0, 8)] (fgz_P1 a_a a_e a_n b1 i) H R =
 (Br (decide ((i : Int) < (a_n : Int))) ((0 : Int) ≤ i ∧ i < (a_n : Int) ∧ ∃ b2 f1, (a_a : OA) = some ⟨b2, f1, none⟩ ∧ ∃ x1 : Nat,  rdC H b2 (f1 + (i : Int).toNat * 1) = some (.float .f32 x1) ∧ (0 : Int) ≤ i ∧ i < (((a_n : Int)).toNat : Int) ∧ ∃ b3 f2, (some ⟨b1, 0, none⟩ : OA) = some ⟨b3, f2, none⟩ ∧ isOwn H b3 ∧ (∃ l, rdN H b3 (f2 + (i : Int).toNat * 1) 1 = some l) ∧ Lt (setC H b3 (f2 + (i : Int).toNat * 1) (.float .f32 x1)) fun H2 => R .normal (.slice a_a a_n a_e :: ud2 (.slice (some ⟨b1, 0, none⟩) (((a_n : Int)).toNat) 1 :: .int .i64 (IntKind.wrap .i64 (i + 1)) :: ud17 [])) H2) (R (.exit 0) (ud3 (.slice (some ⟨b1, 0, none⟩) (((a_n : Int)).toNat) 1 :: ud18 [])) H)) := by kernel_rfl
def fgz_I1 (a_a : OA) (a_e : Nat) (a_n : Nat) (b1 : Nat) (Inv : Nat → Int → AHeap → Prop) : Nat → List Value → AHeap → Prop := fun μ tm H => ∃ (i : Int), tm = (fgz_P1 a_a a_e a_n b1 i) ∧ Inv μ i H
theorem fgz_L1 (a_a : OA) (a_e : Nat) (a_n : Nat) (b1 : Nat) {Q : Post} (Inv : Nat → Int → AHeap → Prop) (ν : Nat) (i : Int)  (H : AHeap) (h0 : Inv ν i H)
  (hs : ∀ (μ : Nat) (i : Int)  (H : AHeap), Inv μ i H → exL Try.prog E_fgz (cl (cl (cr (cl (cr (cr (bodyC Try.f25))))))) 25 4 [(0, 8)] (fgz_P1 a_a a_e a_n b1 i) H (loopQ (fgz_I1 a_a a_e a_n b1 Inv) μ Q)) : loopK (exL Try.prog E_fgz (cl (cl (cr (cl (cr (cr (bodyC Try.f25))))))) 25 4 [(0, 8)]) (fgz_P1 a_a a_e a_n b1 i) H Q :=
 ⟨fgz_I1 a_a a_e a_n b1 Inv, ν, ⟨i, rfl, h0⟩, fun μ tm H h => by obtain ⟨i, rfl, hI⟩ := h; exact hs μ i  H hI⟩
theorem fgz_n1 {a_a : OA} {a_e : Nat} {a_n : Nat} {b1 : Nat} {Q : Post} {Inv : Nat → Int → AHeap → Prop} {μ : Nat} (μ' : Nat) {i : Int}  {H : AHeap} (hm : μ' < μ) (hI : Inv μ' i H) : loopQ (fgz_I1 a_a a_e a_n b1 Inv) μ Q .normal (fgz_P1 a_a a_e a_n b1 i) H := ⟨μ', hm, i, rfl, hI⟩
theorem fgz_x1_0 (a_n : Nat) (b1 : Nat) (H : AHeap) (K : Value → AHeap → Prop)  {I : Nat → List Value → AHeap → Prop} {μ : Nat} : loopQ I μ (blockQ 0 (seqQ (exL Try.prog E_fgz (cr (cr (cr (bodyC Try.f25)))) 4 4 []) (retK Try.prog Try.f25 K))) (.exit 0) (ud3 (.slice (some ⟨b1, 0, none⟩) (((a_n : Int)).toNat) 1 :: ud18 [])) H =
 (K (.slice (some ⟨b1, 0, none⟩) (((a_n : Int)).toNat) 1) H) := by kernel_rfl
theorem E_fgz_ok : ∀ g, FnOk Try.prog g (E_fgz g) := FnOk.envOf (by
 intro x hx; cases hx)
theorem ω21 {P : Prop} (h : P := by have := most_eq; omega) : P := h
theorem ω16 {P : Prop} (h : P := by first | rfl | assumption | omega | (simp; done)) : P := h
theorem ω6 {P : Prop} (h : P := by first | omega | (simp; done) | (simp; omega)) : P := h
theorem ω0 {P : Prop} (h : P := by first | omega | (simp only [List.length_set, List.length_replicate, List.length_append, List.length_cons, List.length_nil, List.length_take, List.length_drop, marks_length]; done) | (simp only [List.length_set, List.length_replicate, List.length_append, List.length_cons, List.length_nil, List.length_take, List.length_drop, marks_length]; omega)) : P := h
theorem ω11 {P : Prop} (h : P := by simp only [List.length_map]; (first | omega | (simp only [List.length_set, List.length_replicate, List.length_append, List.length_cons, List.length_nil, List.length_take, List.length_drop, marks_length]; done) | (simp only [List.length_set, List.length_replicate, List.length_append, List.length_cons, List.length_nil, List.length_take, List.length_drop, marks_length]; omega))) : P := h
theorem ω15 {P : Prop} (h : P := by first | omega) : P := h
theorem ω17 {P : Prop} (h : P := by first | assumption | omega | (simp only [List.length_set]; first | rfl | assumption | omega)) : P := h
theorem ω1 {P : Prop} (h : P := by first | omega | (simp only [List.length_append, List.length_cons, List.length_nil, List.length_set]; done) | (simp only [List.length_append, List.length_cons, List.length_nil, List.length_set]; omega)) : P := h
theorem ω13 {P : Prop} (h : P := by rw [show μ - 1 + 1 = μ from by first | omega]; exact e) : P := h
theorem fgz_main (a_a : OA) (a_n : Nat) (a_e : Nat) (H : AHeap) (K : Value → AHeap → Prop) (h : T_fgz a_a a_n a_e H fun (qc : OA) (uc : Nat) (tc : Nat) (H' : AHeap) => K (.slice qc uc tc) H') : bodyL Try.prog E_fgz Try.f25 [.slice a_a a_n a_e] H K := by
 rw [fgz_vc]
 obtain ⟨l_a, i_a, bd_29, hk⟩ := h
 have hk : (∀ (qc : OA) (uc tc : Nat), ∀ H' : AHeap, Grow H H' → OwnS fF H' H.length qc uc tc (p_fgz l_a) → (fun (qc : OA) (uc : Nat) (tc : Nat) (H' : AHeap) => K (.slice qc uc tc) H') qc uc tc H') := by rw [fgz_id l_a]; exact hk
 obtain rfl := i_a.eqn
 have e : (p_fgz l_a) = _ := rfl
 have e := e.trans (p_fgz_eq l_a)
 have g0 := Grow.refl H
 refine ⟨by omega, rfl, ω21, ?_⟩
 refine Al.intro (fun b_1 H_1 hb_2 hl_3 g_4 o_5 => ?_)
 rw [zeros_map fF 0 _ rfl] at o_5
 have l_7 := g_4.1
 have g_8 := g0.trans g_4
 have l_9 := g_8.1
 have w28 := o_5.lt
 refine fgz_L1 _ _ _ _ (fun (μ : Nat) (i : Int) (H_2 : AHeap) => ∃ (y1_1 : LN), Own H_2 b_1 (y1_1.map fF) ∧ y1_1.length = ((l_a.length : Int)).toNat ∧ Grow H H_2 ∧ (0 : Int) ≤ i ∧ i ≤ (l_a.length : Int) ∧ (l_a.length : Int) - i ≤ (μ : Int) ∧ p_fgz l_a = p_fgz_l1 l_a (μ + 1) i y1_1) (Int.toNat ((l_a.length : Int) - (0 : Int))) _ H_1 ?_ ?_
 ·exact ⟨_, o_5, ω16, g_8, ω6, ω6, ω2, e⟩
 ·intro μ i  H_2 hI
  obtain ⟨y1_1, o_10, y11, g12, v_13, v_14, hμ, e⟩ := hI
  rw [fgz_r1]
  have e := e.trans (p_fgz_l1_s l_a μ i y1_1)
  have w15 := o_10.lt
  have l_16 := g12.1
  refine Br.intro (fun c_17 => ?_) (fun c_17 => ?_)
  ·have e := e.trans (cond_t c_17)
   have c_17' := of_decide_eq_true c_17
   obtain ⟨b18, f19, q_20⟩ := ((i_a.grow g12)).pos ω0
   refine ⟨by omega, by omega, b18, f19, q_20, ?_⟩
   refine ⟨((l_a).getD (i : Int).toNat 0), (i_a).rd g12 q_20 ω2 _, ?_⟩
   refine ⟨by omega, ω2, _, _, rfl, ?_⟩
   refine Lt.set o_10 ω11 (fun H_3 hl_21 o23 k22 => ?_)
   have o23 := map_set o23
   have l24 := k22.1
   have g_25 := g12.keep (b := b_1) ω2 k22
   have l26 := g_25.1
   have w27 := o23.lt
   rw [show IntKind.wrap .i64 (i + 1) = (i + 1) from wrap64 ω2 ω2]
   refine fgz_n1 (μ - 1) ω15 ⟨_, o23, ω17, g_25, ω1, ω1, ω15, ω13⟩
  ·have e := e.trans (cond_f c_17)
   have c_17' := of_decide_eq_false c_17
   rw [fgz_x1_0]
   rw [e] at hk
   exact hk _ _ _ H_2 g12 (o_10.ownS (by first | (simp only [List.length_replicate]; done) | omega | (simp; omega)) ω2)
theorem fgz_ok : FnOk Try.prog 25 S_fgz := by
 refine FnOk.body mix_ok E_fgz_ok Try.func25 rfl ω9 ω9 ?_ ?_ ?_ ?_ ?_
 ·intro args H K K' h hk
  simp only [S_fgz] at *
  unfold F_fgz at *
  split at hk
  ·obtain ⟨l_a, i_a, bd_29, k⟩ := hk
   exact ⟨l_a, i_a, bd_29, (fun qc uc tc H' gg ow0 => h _ _ (k qc uc tc H' gg ow0))⟩
  ·exact hk.elim
 ·intro hq; cases hq
 ·intro args H K hk
  simp only [S_fgz] at *
  unfold F_fgz at *
  split at hk
  ·obtain ⟨l_a, i_a, bd_29, k⟩ := hk
   exact liveS fun a n e H1 g o => ⟨_, _, k a n e H1 g o⟩
  ·exact hk.elim
 ·intro _ args H K hk
  simp only [S_fgz] at *
  unfold F_fgz at *
  split at hk
  ·obtain ⟨l_a, i_a, bd_29, k⟩ := hk
   exact ⟨l_a, i_a, bd_29, (fun qc uc tc H' gg ow0 => ⟨gg, k qc uc tc H' gg ow0⟩)⟩
  ·exact hk.elim
 ·have mm := @fgz_main
  have ml := fun (args : List Value) (H : AHeap) (K : Value → AHeap → Prop) => bodyL_body (P := Try.prog) (env := E_fgz ) (fn := Try.f25) (args := args) (H := H) (K := K) E_fgz_ok 
  revert mm ml
  generalize bodyK Try.prog E_fgz Try.f25 = Q
  generalize bodyL Try.prog E_fgz Try.f25 = QL
  intro mm ml args H K hk
  simp only [S_fgz] at *
  unfold F_fgz at *
  split at hk
  ·exact ml _ H K (mm _ _ _ H K hk)
  ·exact hk.elim

def p_fxz (ja : LN) (a_Scale : Nat) : LN × Nat := (ja, a_Scale)
def p_fxz_eq := @p_fxz.eq_1
def T_fxz (za : OA) (lb : Nat) (nb : Nat) (a_Scale : Nat) (H : AHeap) (K : OA → Nat → Nat → Nat → AHeap → Prop) : Prop := ∃ (ja : LN), IsL fF H za lb ja ∧ ja.length < 1073741824 ∧ ((∀ (mc : OA) (oc nc : Nat), ∀ H' : AHeap, Grow H H' → OwnS fF H' H.length mc oc nc ja → K mc oc nc a_Scale H'))
theorem T_fxz_i {za : OA} {lb : Nat} {nb : Nat} {a_Scale : Nat} {H : AHeap} {K : OA → Nat → Nat → Nat → AHeap → Prop} (h : ∃ (ja : LN), IsL fF H za lb ja ∧ ja.length < 1073741824 ∧ ((∀ (mc : OA) (oc nc : Nat), ∀ H' : AHeap, Grow H H' → OwnS fF H' H.length mc oc nc ja → K mc oc nc a_Scale H'))) : T_fxz za lb nb a_Scale H K := h
theorem fxz_id (l : LN) (sc : Nat) : p_fxz l sc = (l, sc) := rfl
/-! fxz: function 9 -/
def E_fxz : Env := envOf [(25, S_fgz)]
def F_fxz : List Value → AHeap → (Value → AHeap → Prop) → Prop
 | [.agg ⟨[.slice za lb nb, .float .f32 a_Scale]⟩], H, K => T_fxz za lb nb a_Scale H fun (mc : OA) (oc : Nat) (nc : Nat) (r1_Scale : Nat) (H' : AHeap) => K (.agg #[.slice mc oc nc, .float .f32 r1_Scale]) H'
 | _, _, _ => False
def S_fxz : FSpec := { F := F_fxz, quiet := false, tame := true }
theorem fxz_vc (za : OA) (lb : Nat) (nb : Nat) (a_Scale : Nat) (H : AHeap) (K : Value → AHeap → Prop) : bodyL Try.prog E_fxz Try.f9 [.agg #[.slice za lb nb, .float .f32 a_Scale]] H K =
 (Al [.slice za lb nb, .float .f32 a_Scale] H fun b1 H1 => Al [.slice none 0 0, .float .f32 0] H1 fun b2 H2 => Al [.slice none 0 0, .float .f32 0] H2 fun b3 H3 => ∃ nd : OA, ∃ yc : Nat, ∃ od : Nat,  rdC H3 b1 0 = some (.slice nd yc od) ∧ T_fgz nd yc od H3 fun (a1 : OA) (r1 : Nat) (r2 : Nat) (H4 : AHeap) => isOwn H4 b3 ∧ (∃ l, rdN H4 b3 0 1 = some l) ∧ Lt (setC H4 b3 0 (.slice a1 r1 r2)) fun H5 => ∃ x2 : Nat,  rdC H5 b1 1 = some (.float .f32 x2) ∧ isOwn H5 b3 ∧ (∃ l, rdN H5 b3 1 1 = some l) ∧ Lt (setC H5 b3 1 (.float .f32 x2)) fun H6 => ∃ se : OA, ∃ ue : Nat, ∃ te : Nat, ∃ c2 : Nat,  rdN H6 b3 0 2 = some [.slice se ue te, .float .f32 c2] ∧ isOwn H6 b2 ∧ (∃ l, rdN H6 b2 0 2 = some l) ∧ Lt (setN H6 b2 0 [.slice se ue te, .float .f32 c2]) fun H7 => ∃ ve : OA, ∃ ze : Nat, ∃ ye : Nat, ∃ c4 : Nat,  rdN H7 b2 0 2 = some [.slice ve ze ye, .float .f32 c4] ∧ K (.agg #[.slice ve ze ye, .float .f32 c4]) H7) := by kernel_rfl
theorem E_fxz_ok : ∀ g, FnOk Try.prog g (E_fxz g) := FnOk.envOf (by
 intro x hx
 simp only [List.mem_cons, List.not_mem_nil, or_false] at hx
 subst hx; exact fgz_ok)
theorem fxz_main (za : OA) (lb : Nat) (nb : Nat) (a_Scale : Nat) (H : AHeap) (K : Value → AHeap → Prop) (h : T_fxz za lb nb a_Scale H fun (mc : OA) (oc : Nat) (nc : Nat) (r1_Scale : Nat) (H' : AHeap) => K (.agg #[.slice mc oc nc, .float .f32 r1_Scale]) H') : bodyL Try.prog E_fxz Try.f9 [.agg #[.slice za lb nb, .float .f32 a_Scale]] H K := by
 rw [fxz_vc]
 obtain ⟨ja, i_a_Weights, bd_90, hk⟩ := h
 have hk : (∀ (mc : OA) (oc nc : Nat), ∀ H' : AHeap, Grow H H' → OwnS fF H' H.length mc oc nc ((p_fxz ja a_Scale).1) → (fun (mc : OA) (oc : Nat) (nc : Nat) (r1_Scale : Nat) (H' : AHeap) => K (.agg #[.slice mc oc nc, .float .f32 r1_Scale]) H') mc oc nc ((p_fxz ja a_Scale).2) H') := by rw [fxz_id ja a_Scale]; exact hk
 obtain rfl := i_a_Weights.eqn
 have e : (p_fxz ja a_Scale) = _ := rfl
 have e := e.trans (p_fxz_eq ja a_Scale)
 have g0 := Grow.refl H
 refine Al.intro (fun b_1 H_1 hb_2 hl_3 g_4 o_5 => ?_)
 have l_7 := g_4.1
 have g_8 := g0.trans g_4
 have l_9 := g_8.1
 have w89 := o_5.lt
 refine Al.intro (fun b_10 H_2 hb_11 hl_12 g13 o_14 => ?_)
 have l_16 := g13.1
 have g17 := g_8.trans g13
 have l_18 := g17.1
 have o19 := o_5.grow g13
 have w20 := o19.lt
 have w88 := o_14.lt
 refine Al.intro (fun b_21 H_3 hb_22 hl_23 g24 o25 => ?_)
 have l27 := g24.1
 have g28 := g17.trans g24
 have l29 := g28.1
 have o30 := o19.grow g24
 have w31 := o30.lt
 have o32 := o_14.grow g24
 have w33 := o32.lt
 have w87 := o25.lt
 refine ⟨za, ja.length, nb, (o30.rdC _).trans rfl, ?_⟩
 refine T_fgz_i ⟨_, (i_a_Weights.grow g28), ω0, fun a34 n35 e36 H_4 g38 r_37 => ?_⟩
 have l39 := g38.1
 have g40 := g28.trans g38
 have l41 := g40.1
 have o42 := o30.grow g38
 have w43 := o42.lt
 have o44 := o32.grow g38
 have w45 := o44.lt
 have o46 := o25.grow g38
 have w47 := o46.lt
 obtain rfl := r_37.isL.eqn
 have u48 := r_37.up
 have u49 := r_37.lo
 refine Lt.set o46 (Nat.le_of_ble_eq_true rfl) (fun H_5 hl_51 o53 k52 => ?_)
 have o53 : Own H_5 b_21 [.slice a34 ((ja).length) e36, .float .f32 0] := o53
 have l54 := k52.1
 have g55 := g40.keep (b := b_21) ω2 k52
 have l56 := g55.1
 have o57 := o42.keep ω2 k52
 have w58 := o57.lt
 have o59 := o44.keep ω2 k52
 have w60 := o59.lt
 have r61 := r_37.keep u48 ω2 k52
 have w86 := o53.lt
 refine ⟨a_Scale, (o57.rdC _).trans rfl, ?_⟩
 refine Lt.set o53 (Nat.le_of_ble_eq_true rfl) (fun H_6 hl_62 o64 k63 => ?_)
 have o64 : Own H_6 b_21 [.slice a34 ((ja).length) e36, .float .f32 a_Scale] := o64
 have l65 := k63.1
 have g66 := g55.keep (b := b_21) ω2 k63
 have l67 := g66.1
 have o68 := o57.keep ω2 k63
 have w69 := o68.lt
 have o70 := o59.keep ω2 k63
 have w71 := o70.lt
 have r72 := r61.keep u48 ω2 k63
 have w85 := o64.lt
 refine ⟨a34, (ja).length, e36, a_Scale, (o64.rdN (Nat.le_of_ble_eq_true rfl)).trans rfl, ?_⟩
 refine Lt.setN (n := 2) o70 (Nat.le_of_ble_eq_true rfl) rfl (fun H_7 hl_73 o75 k74 => ?_)
 have o75 : Own H_7 b_10 [.slice a34 ((ja).length) e36, .float .f32 a_Scale] := o75
 have l76 := k74.1
 have g77 := g66.keep (b := b_10) ω2 k74
 have l78 := g77.1
 have o79 := o68.keep ω2 k74
 have w80 := o79.lt
 have o81 := o64.keep ω2 k74
 have w82 := o81.lt
 have r83 := r72.keep u48 ω2 k74
 have w84 := o75.lt
 refine ⟨a34, (ja).length, e36, a_Scale, (o75.rdN (Nat.le_of_ble_eq_true rfl)).trans rfl, ?_⟩
 rw [e] at hk
 exact hk _ _ _ H_7 g77 (r83.weak ω2)
theorem fxz_ok : FnOk Try.prog 9 S_fxz := by
 refine FnOk.body mix_ok E_fxz_ok Try.func9 rfl ω9 ω9 ?_ ?_ ?_ ?_ ?_
 ·intro args H K K' h hk
  simp only [S_fxz] at *
  unfold F_fxz at *
  split at hk
  ·obtain ⟨ja, i_a_Weights, bd_90, k⟩ := hk
   exact ⟨ja, i_a_Weights, bd_90, (fun mc oc nc H' gg ow0 => h _ _ (k mc oc nc H' gg ow0))⟩
  ·exact hk.elim
 ·intro hq; cases hq
 ·intro args H K hk
  simp only [S_fxz] at *
  unfold F_fxz at *
  split at hk
  ·obtain ⟨ja, i_a_Weights, bd_90, k⟩ := hk
   exact liveS fun a n e H1 g o => ⟨_, _, k a n e H1 g o⟩
  ·exact hk.elim
 ·intro _ args H K hk
  simp only [S_fxz] at *
  unfold F_fxz at *
  split at hk
  ·obtain ⟨ja, i_a_Weights, bd_90, k⟩ := hk
   exact ⟨ja, i_a_Weights, bd_90, (fun mc oc nc H' gg ow0 => ⟨gg, k mc oc nc H' gg ow0⟩)⟩
  ·exact hk.elim
 ·have mm := @fxz_main
  have ml := fun (args : List Value) (H : AHeap) (K : Value → AHeap → Prop) => bodyL_body (P := Try.prog) (env := E_fxz ) (fn := Try.f9) (args := args) (H := H) (K := K) E_fxz_ok 
  revert mm ml
  generalize bodyK Try.prog E_fxz Try.f9 = Q
  generalize bodyL Try.prog E_fxz Try.f9 = QL
  intro mm ml args H K hk
  simp only [S_fxz] at *
  unfold F_fxz at *
  split at hk
  ·exact ml _ H K (mm _ _ _ _ H K hk)
  ·exact hk.elim

def p_flz (a_Wide : Int) (a_High : Int) (ia : LN) : Int × Int × LN := (a_Wide, a_High, ia)
def p_flz_eq := @p_flz.eq_1
def T_flz (a_Wide : Int) (a_High : Int) (ta : OA) (cb : Nat) (db : Nat) (H : AHeap) (K : Int → Int → OA → Nat → Nat → AHeap → Prop) : Prop := ∃ (ia : LN), IsL fF H ta cb ia ∧ ia.length < 1073741824 ∧ ((∀ (oa : OA) (qa pa : Nat), ∀ H' : AHeap, Grow H H' → OwnS fF H' H.length oa qa pa ia → K a_Wide a_High oa qa pa H'))
theorem T_flz_i {a_Wide : Int} {a_High : Int} {ta : OA} {cb : Nat} {db : Nat} {H : AHeap} {K : Int → Int → OA → Nat → Nat → AHeap → Prop} (h : ∃ (ia : LN), IsL fF H ta cb ia ∧ ia.length < 1073741824 ∧ ((∀ (oa : OA) (qa pa : Nat), ∀ H' : AHeap, Grow H H' → OwnS fF H' H.length oa qa pa ia → K a_Wide a_High oa qa pa H'))) : T_flz a_Wide a_High ta cb db H K := h
theorem flz_id (a b : Int) (l : LN) : p_flz a b l = (a, b, l) := rfl
/-! flz: function 10 -/
def E_flz : Env := envOf [(25, S_fgz)]
def F_flz : List Value → AHeap → (Value → AHeap → Prop) → Prop
 | [.agg ⟨[.int .i64 a_Wide, .int .i64 a_High, .slice ta cb db]⟩], H, K => T_flz a_Wide a_High ta cb db H fun (r1_Wide : Int) (r1_High : Int) (oa : OA) (qa : Nat) (pa : Nat) (H' : AHeap) => K (.agg #[.int .i64 r1_Wide, .int .i64 r1_High, .slice oa qa pa]) H'
 | _, _, _ => False
def S_flz : FSpec := { F := F_flz, quiet := false, tame := true }
theorem flz_vc (a_Wide : Int) (a_High : Int) (ta : OA) (cb : Nat) (db : Nat) (H : AHeap) (K : Value → AHeap → Prop) : bodyL Try.prog E_flz Try.f10 [.agg #[.int .i64 a_Wide, .int .i64 a_High, .slice ta cb db]] H K =
 (Al [.int .i64 a_Wide, .int .i64 a_High, .slice ta cb db] H fun b1 H1 => Al [.int .i64 0, .int .i64 0, .slice none 0 0] H1 fun b2 H2 => Al [.int .i64 0, .int .i64 0, .slice none 0 0] H2 fun b3 H3 => ∃ x1 : Int,  rdC H3 b1 0 = some (.int .i64 x1) ∧ isOwn H3 b3 ∧ (∃ l, rdN H3 b3 0 1 = some l) ∧ Lt (setC H3 b3 0 (.int .i64 x1)) fun H4 => ∃ x2 : Int,  rdC H4 b1 1 = some (.int .i64 x2) ∧ isOwn H4 b3 ∧ (∃ l, rdN H4 b3 1 1 = some l) ∧ Lt (setC H4 b3 1 (.int .i64 x2)) fun H5 => ∃ tf : OA, ∃ mf : Nat, ∃ uf : Nat,  rdC H5 b1 2 = some (.slice tf mf uf) ∧ T_fgz tf mf uf H5 fun (a1 : OA) (r1 : Nat) (r2 : Nat) (H6 : AHeap) => isOwn H6 b3 ∧ (∃ l, rdN H6 b3 2 1 = some l) ∧ Lt (setC H6 b3 2 (.slice a1 r1 r2)) fun H7 => ∃ c1 : Int, ∃ c2 : Int, ∃ ve : OA, ∃ ze : Nat, ∃ ye : Nat,  rdN H7 b3 0 3 = some [.int .i64 c1, .int .i64 c2, .slice ve ze ye] ∧ isOwn H7 b2 ∧ (∃ l, rdN H7 b2 0 3 = some l) ∧ Lt (setN H7 b2 0 [.int .i64 c1, .int .i64 c2, .slice ve ze ye]) fun H8 => ∃ c4 : Int, ∃ c5 : Int, ∃ af : OA, ∃ ff : Nat, ∃ df : Nat,  rdN H8 b2 0 3 = some [.int .i64 c4, .int .i64 c5, .slice af ff df] ∧ K (.agg #[.int .i64 c4, .int .i64 c5, .slice af ff df]) H8) := by kernel_rfl
theorem E_flz_ok : ∀ g, FnOk Try.prog g (E_flz g) := FnOk.envOf (by
 intro x hx
 simp only [List.mem_cons, List.not_mem_nil, or_false] at hx
 subst hx; exact fgz_ok)
theorem flz_main (a_Wide : Int) (a_High : Int) (ta : OA) (cb : Nat) (db : Nat) (H : AHeap) (K : Value → AHeap → Prop) (h : T_flz a_Wide a_High ta cb db H fun (r1_Wide : Int) (r1_High : Int) (oa : OA) (qa : Nat) (pa : Nat) (H' : AHeap) => K (.agg #[.int .i64 r1_Wide, .int .i64 r1_High, .slice oa qa pa]) H') : bodyL Try.prog E_flz Try.f10 [.agg #[.int .i64 a_Wide, .int .i64 a_High, .slice ta cb db]] H K := by
 rw [flz_vc]
 obtain ⟨ia, i_a_Lights, bd_100, hk⟩ := h
 have hk : (∀ (oa : OA) (qa pa : Nat), ∀ H' : AHeap, Grow H H' → OwnS fF H' H.length oa qa pa ((p_flz a_Wide a_High ia).2.2) → (fun (r1_Wide : Int) (r1_High : Int) (oa : OA) (qa : Nat) (pa : Nat) (H' : AHeap) => K (.agg #[.int .i64 r1_Wide, .int .i64 r1_High, .slice oa qa pa]) H') ((p_flz a_Wide a_High ia).1) ((p_flz a_Wide a_High ia).2.1) oa qa pa H') := by rw [flz_id a_Wide a_High ia]; exact hk
 obtain rfl := i_a_Lights.eqn
 have e : (p_flz a_Wide a_High ia) = _ := rfl
 have e := e.trans (p_flz_eq a_Wide a_High ia)
 have g0 := Grow.refl H
 refine Al.intro (fun b_1 H_1 hb_2 hl_3 g_4 o_5 => ?_)
 have l_7 := g_4.1
 have g_8 := g0.trans g_4
 have l_9 := g_8.1
 have w99 := o_5.lt
 refine Al.intro (fun b_10 H_2 hb_11 hl_12 g13 o_14 => ?_)
 have l_16 := g13.1
 have g17 := g_8.trans g13
 have l_18 := g17.1
 have o19 := o_5.grow g13
 have w20 := o19.lt
 have w98 := o_14.lt
 refine Al.intro (fun b_21 H_3 hb_22 hl_23 g24 o25 => ?_)
 have l27 := g24.1
 have g28 := g17.trans g24
 have l29 := g28.1
 have o30 := o19.grow g24
 have w31 := o30.lt
 have o32 := o_14.grow g24
 have w33 := o32.lt
 have w97 := o25.lt
 refine ⟨a_Wide, (o30.rdC _).trans rfl, ?_⟩
 refine Lt.set o25 (Nat.le_of_ble_eq_true rfl) (fun H_4 hl_34 o36 k35 => ?_)
 have o36 : Own H_4 b_21 [.int .i64 a_Wide, .int .i64 0, .slice none 0 0] := o36
 have l37 := k35.1
 have g38 := g28.keep (b := b_21) ω2 k35
 have l39 := g38.1
 have o40 := o30.keep ω2 k35
 have w41 := o40.lt
 have o42 := o32.keep ω2 k35
 have w43 := o42.lt
 have w96 := o36.lt
 refine ⟨a_High, (o40.rdC _).trans rfl, ?_⟩
 refine Lt.set o36 (Nat.le_of_ble_eq_true rfl) (fun H_5 hl_44 o46 k45 => ?_)
 have o46 : Own H_5 b_21 [.int .i64 a_Wide, .int .i64 a_High, .slice none 0 0] := o46
 have l47 := k45.1
 have g_48 := g38.keep (b := b_21) ω2 k45
 have l49 := g_48.1
 have o50 := o40.keep ω2 k45
 have w51 := o50.lt
 have o52 := o42.keep ω2 k45
 have w53 := o52.lt
 have w95 := o46.lt
 refine ⟨ta, ia.length, db, (o50.rdC _).trans rfl, ?_⟩
 refine T_fgz_i ⟨_, (i_a_Lights.grow g_48), ω0, fun a54 n55 e56 H_6 g58 r57 => ?_⟩
 have l59 := g58.1
 have g60 := g_48.trans g58
 have l61 := g60.1
 have o62 := o50.grow g58
 have w63 := o62.lt
 have o64 := o52.grow g58
 have w65 := o64.lt
 have o66 := o46.grow g58
 have w67 := o66.lt
 obtain rfl := r57.isL.eqn
 have u68 := r57.up
 have u69 := r57.lo
 refine Lt.set o66 (Nat.le_of_ble_eq_true rfl) (fun H_7 hl_71 o73 k72 => ?_)
 have o73 : Own H_7 b_21 [.int .i64 a_Wide, .int .i64 a_High, .slice a54 ((ia).length) e56] := o73
 have l74 := k72.1
 have g75 := g60.keep (b := b_21) ω2 k72
 have l76 := g75.1
 have o77 := o62.keep ω2 k72
 have w78 := o77.lt
 have o79 := o64.keep ω2 k72
 have w80 := o79.lt
 have r81 := r57.keep u68 ω2 k72
 have w94 := o73.lt
 refine ⟨a_Wide, a_High, a54, (ia).length, e56, (o73.rdN (Nat.le_of_ble_eq_true rfl)).trans rfl, ?_⟩
 refine Lt.setN (n := 3) o79 (Nat.le_of_ble_eq_true rfl) rfl (fun H_8 hl_82 o84 k83 => ?_)
 have o84 : Own H_8 b_10 [.int .i64 a_Wide, .int .i64 a_High, .slice a54 ((ia).length) e56] := o84
 have l85 := k83.1
 have g86 := g75.keep (b := b_10) ω2 k83
 have l87 := g86.1
 have o88 := o77.keep ω2 k83
 have w89 := o88.lt
 have o90 := o73.keep ω2 k83
 have w91 := o90.lt
 have r92 := r81.keep u68 ω2 k83
 have w93 := o84.lt
 refine ⟨a_Wide, a_High, a54, (ia).length, e56, (o84.rdN (Nat.le_of_ble_eq_true rfl)).trans rfl, ?_⟩
 rw [e] at hk
 exact hk _ _ _ H_8 g86 (r92.weak ω2)
theorem flz_ok : FnOk Try.prog 10 S_flz := by
 refine FnOk.body mix_ok E_flz_ok Try.func10 rfl ω9 ω9 ?_ ?_ ?_ ?_ ?_
 ·intro args H K K' h hk
  simp only [S_flz] at *
  unfold F_flz at *
  split at hk
  ·obtain ⟨ia, i_a_Lights, bd_100, k⟩ := hk
   exact ⟨ia, i_a_Lights, bd_100, (fun oa qa pa H' gg ow0 => h _ _ (k oa qa pa H' gg ow0))⟩
  ·exact hk.elim
 ·intro hq; cases hq
 ·intro args H K hk
  simp only [S_flz] at *
  unfold F_flz at *
  split at hk
  ·obtain ⟨ia, i_a_Lights, bd_100, k⟩ := hk
   exact liveS fun a n e H1 g o => ⟨_, _, k a n e H1 g o⟩
  ·exact hk.elim
 ·intro _ args H K hk
  simp only [S_flz] at *
  unfold F_flz at *
  split at hk
  ·obtain ⟨ia, i_a_Lights, bd_100, k⟩ := hk
   exact ⟨ia, i_a_Lights, bd_100, (fun oa qa pa H' gg ow0 => ⟨gg, k oa qa pa H' gg ow0⟩)⟩
  ·exact hk.elim
 ·have mm := @flz_main
  have ml := fun (args : List Value) (H : AHeap) (K : Value → AHeap → Prop) => bodyL_body (P := Try.prog) (env := E_flz ) (fn := Try.f10) (args := args) (H := H) (K := K) E_flz_ok 
  revert mm ml
  generalize bodyK Try.prog E_flz Try.f10 = Q
  generalize bodyL Try.prog E_flz Try.f10 = QL
  intro mm ml args H K hk
  simp only [S_flz] at *
  unfold F_flz at *
  split at hk
  ·exact ml _ H K (mm _ _ _ _ _ H K hk)
  ·exact hk.elim
def p_fmz (x : Nat) : Bool := feq .f32 (fsub .f32 x x) 0
def T_fmz (x : Nat) (H : AHeap) (K : Bool → AHeap → Prop) : Prop := K (p_fmz x) H

theorem T_fmz_i {x : Nat} {H : AHeap} {K : Bool → AHeap → Prop} (h : K (p_fmz x) H) : T_fmz x H K := h
/-! fmz: function 78 -/
def E_fmz : Env := envOf []
def F_fmz : List Value → AHeap → (Value → AHeap → Prop) → Prop
 | [.float .f32 x], H, K => T_fmz x H fun (r1 : Bool) (H' : AHeap) => K (.bool r1) H'
 | _, _, _ => False
def S_fmz : FSpec := { F := F_fmz, quiet := true, tame := false }
theorem fmz_vc (x : Nat) (H : AHeap) (K : Value → AHeap → Prop) : bodyL Try.prog E_fmz Try.f78 [.float .f32 x] H K =
 (K (.bool (feq .f32 (fsub .f32 x x) 0)) H) := by kernel_rfl
theorem E_fmz_ok : ∀ g, FnOk Try.prog g (E_fmz g) := FnOk.envOf (by
 intro x hx; cases hx)
theorem fmz_main (x : Nat) (H : AHeap) (K : Value → AHeap → Prop) (h : T_fmz x H fun (r1 : Bool) (H' : AHeap) => K (.bool r1) H') : bodyL Try.prog E_fmz Try.f78 [.float .f32 x] H K := by
 rw [fmz_vc]
 unfold T_fmz p_fmz at h
 repeat' (first | exact h | (exfalso; simp_all; done) | (refine ⟨by decide, ?_⟩) | (refine Br.intro (fun hb => ?_) (fun hb => ?_) <;> (try simp only [hb, cond_true, cond_false, Bool.not_true, Bool.not_false] at h)))
theorem fmz_ok : FnOk Try.prog 78 S_fmz := by
 refine FnOk.body mix_ok E_fmz_ok Try.func78 rfl ω9 ω9 ?_ ?_ ?_ ?_ ?_
 ·intro args H K K' h hk
  simp only [S_fmz] at *
  unfold F_fmz at *
  split at hk
  ·have k := hk
   exact h _ _ k
  ·exact hk.elim
 ·intro _ args H K hk
  simp only [S_fmz] at *
  unfold F_fmz at *
  split at hk
  ·have k := hk
   exact ⟨_, k, fun K' k' => k'⟩
  ·exact hk.elim
 ·intro args H K hk
  simp only [S_fmz] at *
  unfold F_fmz at *
  split at hk
  ·have k := hk
   exact ⟨_, _, k⟩
  ·exact hk.elim
 ·intro hq; cases hq
 ·have mm := @fmz_main
  have ml := fun (args : List Value) (H : AHeap) (K : Value → AHeap → Prop) => bodyL_body (P := Try.prog) (env := E_fmz ) (fn := Try.f78) (args := args) (H := H) (K := K) E_fmz_ok 
  revert mm ml
  generalize bodyK Try.prog E_fmz Try.f78 = Q
  generalize bodyL Try.prog E_fmz Try.f78 = QL
  intro mm ml args H K hk
  simp only [S_fmz] at *
  unfold F_fmz at *
  split at hk
  ·exact ml _ H K (mm _ H K hk)
  ·exact hk.elim

def p_foz_l1 (da : LN) : Nat → Bool → Int → Bool
 | 0, _, _ => false
 | μ + 1, t2, i => (bif decide ((i : Int) < (da.length : Int)) then (bif !((p_fmz (((da).getD (i : Int).toNat 0)))) then false else (p_foz_l1 da μ t2 (i + 1))) else true)
def p_foz_l1_s := fun da μ t2 i => @p_foz_l1.eq_2 da t2 i μ
def p_foz (da : LN) : Bool := (p_foz_l1 da (Int.toNat ((da.length : Int) - (0 : Int)) + 1) false (0 : Int))
def p_foz_eq := @p_foz.eq_1
def T_foz (ib : OA) (ua : Nat) (sb : Nat) (H : AHeap) (K : Bool → AHeap → Prop) : Prop := ∃ (da : LN), IsL fF H ib ua da ∧ da.length < 1073741824 ∧ K (p_foz da) H
theorem T_foz_i {ib : OA} {ua : Nat} {sb : Nat} {H : AHeap} {K : Bool → AHeap → Prop} (h : ∃ (da : LN), IsL fF H ib ua da ∧ da.length < 1073741824 ∧ K (p_foz da) H) : T_foz ib ua sb H K := h

/-! foz: function 55 -/
def E_foz : Env := envOf [(78, S_fmz)]
def F_foz : List Value → AHeap → (Value → AHeap → Prop) → Prop
 | [.slice ib ua sb], H, K => T_foz ib ua sb H fun (r1 : Bool) (H' : AHeap) => K (.bool r1) H'
 | _, _, _ => False
def S_foz : FSpec := { F := F_foz, quiet := true, tame := false }
theorem foz_vc (ib : OA) (ua : Nat) (sb : Nat) (H : AHeap) (K : Value → AHeap → Prop) : bodyL Try.prog E_foz Try.f55 [.slice ib ua sb] H K =
 (loopK (exL Try.prog E_foz (cl (cl (cr (cl (cr (bodyC Try.f55)))))) 9 4 [(0, 0)]) (.slice ib ua sb :: ud2 (.int .i64 0 :: ud12 [])) H (blockQ 0 (seqQ (exL Try.prog E_foz (cr (cr (bodyC Try.f55))) 4 4 []) (retK Try.prog Try.f55 K)))) := by kernel_rfl
abbrev foz_P1 (ib : OA) (sb : Nat) (ua : Nat) (i : Int)  : List Value := (.slice ib ua sb :: ud2 (.int .i64 i :: ud12 []))
theorem foz_r1 (ib : OA) (sb : Nat) (ua : Nat) (i : Int)  (H : AHeap) (R : Post) : exL Try.prog E_foz (cl (cl (cr (cl (cr (bodyC Try.f55)))))) 9 4 [(0, 0)] (foz_P1 ib sb ua i) H R =
 (Br (decide ((i : Int) < (ua : Int))) ((0 : Int) ≤ i ∧ i < (ua : Int) ∧ ∃ b1 f1, (ib : OA) = some ⟨b1, f1, none⟩ ∧ ∃ x1 : Nat,  rdC H b1 (f1 + (i : Int).toNat * 1) = some (.float .f32 x1) ∧ T_fmz x1 H fun (r1 : Bool) (H1 : AHeap) => Br (!r1) (R .ret (ud2 (.bool false :: ud13 [])) H1) (R .normal (.slice ib ua sb :: ud2 (.int .i64 (IntKind.wrap .i64 (i + 1)) :: ud12 [])) H1)) (R (.exit 0) (ud16 []) H)) := by kernel_rfl
def foz_I1 (ib : OA) (sb : Nat) (ua : Nat) (Inv : Nat → Int → AHeap → Prop) : Nat → List Value → AHeap → Prop := fun μ tm H => ∃ (i : Int), tm = (foz_P1 ib sb ua i) ∧ Inv μ i H
theorem foz_L1 (ib : OA) (sb : Nat) (ua : Nat) {Q : Post} (Inv : Nat → Int → AHeap → Prop) (ν : Nat) (i : Int)  (H : AHeap) (h0 : Inv ν i H)
  (hs : ∀ (μ : Nat) (i : Int)  (H : AHeap), Inv μ i H → exL Try.prog E_foz (cl (cl (cr (cl (cr (bodyC Try.f55)))))) 9 4 [(0, 0)] (foz_P1 ib sb ua i) H (loopQ (foz_I1 ib sb ua Inv) μ Q)) : loopK (exL Try.prog E_foz (cl (cl (cr (cl (cr (bodyC Try.f55)))))) 9 4 [(0, 0)]) (foz_P1 ib sb ua i) H Q :=
 ⟨foz_I1 ib sb ua Inv, ν, ⟨i, rfl, h0⟩, fun μ tm H h => by obtain ⟨i, rfl, hI⟩ := h; exact hs μ i  H hI⟩
theorem foz_n1 {ib : OA} {sb : Nat} {ua : Nat} {Q : Post} {Inv : Nat → Int → AHeap → Prop} {μ : Nat} (μ' : Nat) {i : Int}  {H : AHeap} (hm : μ' < μ) (hI : Inv μ' i H) : loopQ (foz_I1 ib sb ua Inv) μ Q .normal (foz_P1 ib sb ua i) H := ⟨μ', hm, i, rfl, hI⟩
theorem foz_x1_0  (H : AHeap) (K : Value → AHeap → Prop)  {I : Nat → List Value → AHeap → Prop} {μ : Nat} : loopQ I μ (blockQ 0 (seqQ (exL Try.prog E_foz (cr (cr (bodyC Try.f55))) 4 4 []) (retK Try.prog Try.f55 K))) (.exit 0) (ud16 []) H =
 (K (.bool true) H) := by kernel_rfl
theorem foz_x1_ret (t2 : Bool) (H : AHeap) (K : Value → AHeap → Prop)  {I : Nat → List Value → AHeap → Prop} {μ : Nat} : loopQ I μ (blockQ 0 (seqQ (exL Try.prog E_foz (cr (cr (bodyC Try.f55))) 4 4 []) (retK Try.prog Try.f55 K))) .ret (ud2 (.bool t2 :: ud13 [])) H =
 (K (.bool t2) H) := by kernel_rfl
theorem E_foz_ok : ∀ g, FnOk Try.prog g (E_foz g) := FnOk.envOf (by
 intro x hx
 simp only [List.mem_cons, List.not_mem_nil, or_false] at hx
 subst hx; exact fmz_ok)
theorem foz_main (ib : OA) (ua : Nat) (sb : Nat) (H : AHeap) (K : Value → AHeap → Prop) (h : T_foz ib ua sb H fun (r1 : Bool) (H' : AHeap) => K (.bool r1) H') : bodyL Try.prog E_foz Try.f55 [.slice ib ua sb] H K := by
 rw [foz_vc]
 obtain ⟨da, i_list, bd_9, hk⟩ := h
 obtain rfl := i_list.eqn
 have e : (p_foz da) = _ := rfl
 have e := e.trans (p_foz_eq da)
 have g0 := Grow.refl H
 refine foz_L1 _ _ _ (fun (μ : Nat) (i : Int) (H_1 : AHeap) => ∃ (t2 : Bool), H = H_1 ∧ (0 : Int) ≤ i ∧ i ≤ (da.length : Int) ∧ (da.length : Int) - i ≤ (μ : Int) ∧ p_foz da = p_foz_l1 da (μ + 1) t2 i) (Int.toNat ((da.length : Int) - (0 : Int))) _ H ?_ ?_
 ·exact ⟨_, rfl, ω6, ω6, ω2, e⟩
 ·intro μ i  H_1 hI
  obtain ⟨t2, rfl, v_1, v_2, hμ, e⟩ := hI
  rw [foz_r1]
  have e := e.trans (p_foz_l1_s da μ t2 i)
  have l_3 := g0.1
  refine Br.intro (fun c_4 => ?_) (fun c_4 => ?_)
  ·have e := e.trans (cond_t c_4)
   have c_4' := of_decide_eq_true c_4
   obtain ⟨b_5, f_6, q_7⟩ := ((i_list.grow g0)).pos ω0
   refine ⟨by omega, by omega, b_5, f_6, q_7, ?_⟩
   refine ⟨((da).getD (i : Int).toNat 0), (i_list).rd g0 q_7 ω2 _, ?_⟩
   refine T_fmz_i ?_
   refine Br.intro (fun c_8 => ?_) (fun c_8 => ?_)
   ·have e := e.trans (cond_t c_8)
    have c_8n := nf_of_t c_8
    rw [foz_x1_ret]
    rw [e] at hk
    exact hk
   ·have e := e.trans (cond_f c_8)
    have c_8n := nt_of_f c_8
    rw [show IntKind.wrap .i64 (i + 1) = (i + 1) from wrap64 ω2 ω2]
    refine foz_n1 (μ - 1) ω15 ⟨_, rfl, ω1, ω1, ω15, ω13⟩
  ·have e := e.trans (cond_f c_4)
   have c_4' := of_decide_eq_false c_4
   rw [foz_x1_0]
   rw [e] at hk
   exact hk
theorem foz_ok : FnOk Try.prog 55 S_foz := by
 refine FnOk.body mix_ok E_foz_ok Try.func55 rfl ω9 ω9 ?_ ?_ ?_ ?_ ?_
 ·intro args H K K' h hk
  simp only [S_foz] at *
  unfold F_foz at *
  split at hk
  ·obtain ⟨da, i_list, bd_9, k⟩ := hk
   exact ⟨da, i_list, bd_9, h _ _ k⟩
  ·exact hk.elim
 ·intro _ args H K hk
  simp only [S_foz] at *
  unfold F_foz at *
  split at hk
  ·obtain ⟨da, i_list, bd_9, k⟩ := hk
   exact ⟨_, k, fun K' k' => ⟨da, i_list, bd_9, k'⟩⟩
  ·exact hk.elim
 ·intro args H K hk
  simp only [S_foz] at *
  unfold F_foz at *
  split at hk
  ·obtain ⟨da, i_list, bd_9, k⟩ := hk
   exact ⟨_, _, k⟩
  ·exact hk.elim
 ·intro hq; cases hq
 ·have mm := @foz_main
  have ml := fun (args : List Value) (H : AHeap) (K : Value → AHeap → Prop) => bodyL_body (P := Try.prog) (env := E_foz ) (fn := Try.f55) (args := args) (H := H) (K := K) E_foz_ok 
  revert mm ml
  generalize bodyK Try.prog E_foz Try.f55 = Q
  generalize bodyL Try.prog E_foz Try.f55 = QL
  intro mm ml args H K hk
  simp only [S_foz] at *
  unfold F_foz at *
  split at hk
  ·exact ml _ H K (mm _ _ _ H K hk)
  ·exact hk.elim
def p_fzz (x : Nat) : Bool := (bif (p_fmz x) then flt .f32 0 x else false)
def T_fzz (x : Nat) (H : AHeap) (K : Bool → AHeap → Prop) : Prop := K (p_fzz x) H

theorem T_fzz_i {x : Nat} {H : AHeap} {K : Bool → AHeap → Prop} (h : K (p_fzz x) H) : T_fzz x H K := h
/-! fzz: function 56 -/
def E_fzz : Env := envOf [(78, S_fmz)]
def F_fzz : List Value → AHeap → (Value → AHeap → Prop) → Prop
 | [.float .f32 x], H, K => T_fzz x H fun (r1 : Bool) (H' : AHeap) => K (.bool r1) H'
 | _, _, _ => False
def S_fzz : FSpec := { F := F_fzz, quiet := true, tame := false }
theorem fzz_vc (x : Nat) (H : AHeap) (K : Value → AHeap → Prop) : bodyL Try.prog E_fzz Try.f56 [.float .f32 x] H K =
 (T_fmz x H fun (r1 : Bool) (H1 : AHeap) => Br r1 (K (.bool (flt .f32 0 x)) H1) (K (.bool false) H1)) := by kernel_rfl
theorem E_fzz_ok : ∀ g, FnOk Try.prog g (E_fzz g) := FnOk.envOf (by
 intro x hx
 simp only [List.mem_cons, List.not_mem_nil, or_false] at hx
 subst hx; exact fmz_ok)
theorem fzz_main (x : Nat) (H : AHeap) (K : Value → AHeap → Prop) (h : T_fzz x H fun (r1 : Bool) (H' : AHeap) => K (.bool r1) H') : bodyL Try.prog E_fzz Try.f56 [.float .f32 x] H K := by
 rw [fzz_vc]
 simp only [T_fmz]
 unfold T_fzz p_fzz at h
 repeat' (first | exact h | (exfalso; simp_all; done) | (refine ⟨by decide, ?_⟩) | (refine Br.intro (fun hb => ?_) (fun hb => ?_) <;> (try simp only [hb, cond_true, cond_false, Bool.not_true, Bool.not_false] at h)))
theorem fzz_ok : FnOk Try.prog 56 S_fzz := by
 refine FnOk.body mix_ok E_fzz_ok Try.func56 rfl ω9 ω9 ?_ ?_ ?_ ?_ ?_
 ·intro args H K K' h hk
  simp only [S_fzz] at *
  unfold F_fzz at *
  split at hk
  ·have k := hk
   exact h _ _ k
  ·exact hk.elim
 ·intro _ args H K hk
  simp only [S_fzz] at *
  unfold F_fzz at *
  split at hk
  ·have k := hk
   exact ⟨_, k, fun K' k' => k'⟩
  ·exact hk.elim
 ·intro args H K hk
  simp only [S_fzz] at *
  unfold F_fzz at *
  split at hk
  ·have k := hk
   exact ⟨_, _, k⟩
  ·exact hk.elim
 ·intro hq; cases hq
 ·have mm := @fzz_main
  have ml := fun (args : List Value) (H : AHeap) (K : Value → AHeap → Prop) => bodyL_body (P := Try.prog) (env := E_fzz ) (fn := Try.f56) (args := args) (H := H) (K := K) E_fzz_ok 
  revert mm ml
  generalize bodyK Try.prog E_fzz Try.f56 = Q
  generalize bodyL Try.prog E_fzz Try.f56 = QL
  intro mm ml args H K hk
  simp only [S_fzz] at *
  unfold F_fzz at *
  split at hk
  ·exact ml _ H K (mm _ H K hk)
  ·exact hk.elim

def p_fpz (ba : LN) (sp_Scale : Nat) : Bool := (bif decide ((1 : Int) ≤ (ba.length : Int)) then (bif decide (((ba.length : Int) : Int) ≤ 8) then (bif (p_foz ba) then (p_fzz sp_Scale) else false) else false) else false)
def p_fpz_eq := @p_fpz.eq_1
def T_fpz (s : Nat) (H : AHeap) (K : Bool → AHeap → Prop) : Prop := ∃ (bb : OA), ∃ (mb : Nat), ∃ (pb : Nat), ∃ (sp_Scale : Nat), ∃ (ba : LN), rdN H s 0 2 = some [.slice bb mb pb, .float .f32 sp_Scale] ∧ IsL fF H bb mb ba ∧ ba.length < 1073741824 ∧ K (p_fpz ba sp_Scale) H
theorem T_fpz_i {s : Nat} {H : AHeap} {K : Bool → AHeap → Prop} (h : ∃ (bb : OA), ∃ (mb : Nat), ∃ (pb : Nat), ∃ (sp_Scale : Nat), ∃ (ba : LN), rdN H s 0 2 = some [.slice bb mb pb, .float .f32 sp_Scale] ∧ IsL fF H bb mb ba ∧ ba.length < 1073741824 ∧ K (p_fpz ba sp_Scale) H) : T_fpz s H K := h

/-! fpz: function 39 -/
def E_fpz : Env := envOf [(55, S_foz), (56, S_fzz)]
def F_fpz : List Value → AHeap → (Value → AHeap → Prop) → Prop
 | [.pointer (some ⟨s, 0, none⟩)], H, K => T_fpz s H fun (r1 : Bool) (H' : AHeap) => K (.bool r1) H'
 | _, _, _ => False
def S_fpz : FSpec := { F := F_fpz, quiet := true, tame := false }
theorem fpz_vc (s : Nat) (H : AHeap) (K : Value → AHeap → Prop) : bodyL Try.prog E_fpz Try.f39 [.pointer (some ⟨s, 0, none⟩)] H K =
 (∃ nd : OA, ∃ yc : Nat, ∃ od : Nat,  rdC H s 0 = some (.slice nd yc od) ∧ Br (decide ((1 : Int) ≤ (yc : Int))) (∃ pg : OA, ∃ og : Nat, ∃ qg : Nat,  rdC H s 0 = some (.slice pg og qg) ∧ Br (decide (((og : Int) : Int) ≤ 8)) (∃ tf : OA, ∃ mf : Nat, ∃ uf : Nat,  rdC H s 0 = some (.slice tf mf uf) ∧ T_foz tf mf uf H fun (r1 : Bool) (H1 : AHeap) => Br r1 (∃ x4 : Nat,  rdC H1 s 1 = some (.float .f32 x4) ∧ T_fzz x4 H1 fun (r2 : Bool) (H2 : AHeap) => K (.bool r2) H2) (K (.bool false) H1)) (K (.bool false) H)) (K (.bool false) H)) := by kernel_rfl
theorem E_fpz_ok : ∀ g, FnOk Try.prog g (E_fpz g) := FnOk.envOf (by
 intro x hx
 simp only [List.mem_cons, List.not_mem_nil, or_false] at hx
 rcases hx with rfl | rfl
 ·exact foz_ok
 ·exact fzz_ok)
theorem fpz_main (s : Nat) (H : AHeap) (K : Value → AHeap → Prop) (h : T_fpz s H fun (r1 : Bool) (H' : AHeap) => K (.bool r1) H') : bodyL Try.prog E_fpz Try.f39 [.pointer (some ⟨s, 0, none⟩)] H K := by
 rw [fpz_vc]
 obtain ⟨bb, mb, pb, sp_Scale, ba, i_s, i_sp_Weights, bd_4, hk⟩ := h
 obtain rfl := i_sp_Weights.eqn
 have e : (p_fpz ba sp_Scale) = _ := rfl
 have e := e.trans (p_fpz_eq ba sp_Scale)
 have g0 := Grow.refl H
 refine ⟨bb, ba.length, pb, (rdN_at (rdN_grow g0 i_s) 0 (Nat.le_of_ble_eq_true rfl)).trans rfl, ?_⟩
 refine Br.intro (fun c_1 => ?_) (fun c_1 => ?_)
 ·have e := e.trans (cond_t c_1)
  have c_1' := of_decide_eq_true c_1
  refine ⟨bb, ba.length, pb, (rdN_at (rdN_grow g0 i_s) 0 (Nat.le_of_ble_eq_true rfl)).trans rfl, ?_⟩
  refine Br.intro (fun c_2 => ?_) (fun c_2 => ?_)
  ·have e := e.trans (cond_t c_2)
   have c_2' := of_decide_eq_true c_2
   refine ⟨bb, ba.length, pb, (rdN_at (rdN_grow g0 i_s) 0 (Nat.le_of_ble_eq_true rfl)).trans rfl, ?_⟩
   refine T_foz_i ⟨_, (i_sp_Weights.grow g0), ω0, ?_⟩
   refine Br.intro (fun c_3 => ?_) (fun c_3 => ?_)
   ·have e := e.trans (cond_t c_3)
    refine ⟨sp_Scale, (rdN_at (rdN_grow g0 i_s) 1 (Nat.le_of_ble_eq_true rfl)).trans rfl, ?_⟩
    refine T_fzz_i ?_
    rw [e] at hk
    exact hk
   ·have e := e.trans (cond_f c_3)
    rw [e] at hk
    exact hk
  ·have e := e.trans (cond_f c_2)
   have c_2' := of_decide_eq_false c_2
   rw [e] at hk
   exact hk
 ·have e := e.trans (cond_f c_1)
  have c_1' := of_decide_eq_false c_1
  rw [e] at hk
  exact hk
theorem fpz_ok : FnOk Try.prog 39 S_fpz := by
 refine FnOk.body mix_ok E_fpz_ok Try.func39 rfl ω9 ω9 ?_ ?_ ?_ ?_ ?_
 ·intro args H K K' h hk
  simp only [S_fpz] at *
  unfold F_fpz at *
  split at hk
  ·obtain ⟨bb, mb, pb, sp_Scale, ba, i_s, i_sp_Weights, bd_4, k⟩ := hk
   exact ⟨bb, mb, pb, sp_Scale, ba, i_s, i_sp_Weights, bd_4, h _ _ k⟩
  ·exact hk.elim
 ·intro _ args H K hk
  simp only [S_fpz] at *
  unfold F_fpz at *
  split at hk
  ·obtain ⟨bb, mb, pb, sp_Scale, ba, i_s, i_sp_Weights, bd_4, k⟩ := hk
   exact ⟨_, k, fun K' k' => ⟨bb, mb, pb, sp_Scale, ba, i_s, i_sp_Weights, bd_4, k'⟩⟩
  ·exact hk.elim
 ·intro args H K hk
  simp only [S_fpz] at *
  unfold F_fpz at *
  split at hk
  ·obtain ⟨bb, mb, pb, sp_Scale, ba, i_s, i_sp_Weights, bd_4, k⟩ := hk
   exact ⟨_, _, k⟩
  ·exact hk.elim
 ·intro hq; cases hq
 ·have mm := @fpz_main
  have ml := fun (args : List Value) (H : AHeap) (K : Value → AHeap → Prop) => bodyL_body (P := Try.prog) (env := E_fpz ) (fn := Try.f39) (args := args) (H := H) (K := K) E_fpz_ok 
  revert mm ml
  generalize bodyK Try.prog E_fpz Try.f39 = Q
  generalize bodyL Try.prog E_fpz Try.f39 = QL
  intro mm ml args H K hk
  simp only [S_fpz] at *
  unfold F_fpz at *
  split at hk
  ·exact ml _ H K (mm _ H K hk)
  ·exact hk.elim
def p_f1az (n : Int) (low : Int) (high : Int) : Bool := (bif decide ((low : Int) ≤ n) then decide ((n : Int) ≤ high) else false)
def T_f1az (n : Int) (low : Int) (high : Int) (H : AHeap) (K : Bool → AHeap → Prop) : Prop := K (p_f1az n low high) H
theorem f1az_t {n a b : Int} (h : p_f1az n a b = true) : a ≤ n ∧ n ≤ b := by
 unfold p_f1az at h
 by_cases h1 : a ≤ n
 ·rw [decide_eq_true h1, cond_true] at h; exact ⟨h1, of_decide_eq_true h⟩
 ·rw [decide_eq_false h1] at h; cases h
/-! f1az: function 23 -/
def E_f1az : Env := envOf []
def F_f1az : List Value → AHeap → (Value → AHeap → Prop) → Prop
 | [.int .i64 n, .int .i64 low, .int .i64 high], H, K => T_f1az n low high H fun (r1 : Bool) (H' : AHeap) => K (.bool r1) H'
 | _, _, _ => False
def S_f1az : FSpec := { F := F_f1az, quiet := true, tame := false }
theorem f1az_vc (n : Int) (low : Int) (high : Int) (H : AHeap) (K : Value → AHeap → Prop) : bodyL Try.prog E_f1az Try.f23 [.int .i64 n, .int .i64 low, .int .i64 high] H K =
 (Br (decide ((low : Int) ≤ n)) (K (.bool (decide ((n : Int) ≤ high))) H) (K (.bool false) H)) := by kernel_rfl
theorem E_f1az_ok : ∀ g, FnOk Try.prog g (E_f1az g) := FnOk.envOf (by
 intro x hx; cases hx)
theorem f1az_main (n : Int) (low : Int) (high : Int) (H : AHeap) (K : Value → AHeap → Prop) (h : T_f1az n low high H fun (r1 : Bool) (H' : AHeap) => K (.bool r1) H') : bodyL Try.prog E_f1az Try.f23 [.int .i64 n, .int .i64 low, .int .i64 high] H K := by
 rw [f1az_vc]
 unfold T_f1az p_f1az at h
 repeat' (first | exact h | (exfalso; simp_all; done) | (refine ⟨by decide, ?_⟩) | (refine Br.intro (fun hb => ?_) (fun hb => ?_) <;> (try simp only [hb, cond_true, cond_false, Bool.not_true, Bool.not_false] at h)))
theorem f1az_ok : FnOk Try.prog 23 S_f1az := by
 refine FnOk.body mix_ok E_f1az_ok Try.func23 rfl ω9 ω9 ?_ ?_ ?_ ?_ ?_
 ·intro args H K K' h hk
  simp only [S_f1az] at *
  unfold F_f1az at *
  split at hk
  ·have k := hk
   exact h _ _ k
  ·exact hk.elim
 ·intro _ args H K hk
  simp only [S_f1az] at *
  unfold F_f1az at *
  split at hk
  ·have k := hk
   exact ⟨_, k, fun K' k' => k'⟩
  ·exact hk.elim
 ·intro args H K hk
  simp only [S_f1az] at *
  unfold F_f1az at *
  split at hk
  ·have k := hk
   exact ⟨_, _, k⟩
  ·exact hk.elim
 ·intro hq; cases hq
 ·have mm := @f1az_main
  have ml := fun (args : List Value) (H : AHeap) (K : Value → AHeap → Prop) => bodyL_body (P := Try.prog) (env := E_f1az ) (fn := Try.f23) (args := args) (H := H) (K := K) E_f1az_ok 
  revert mm ml
  generalize bodyK Try.prog E_f1az Try.f23 = Q
  generalize bodyL Try.prog E_f1az Try.f23 = QL
  intro mm ml args H K hk
  simp only [S_f1az] at *
  unfold F_f1az at *
  split at hk
  ·exact ml _ H K (mm _ _ _ H K hk)
  ·exact hk.elim
def p_f11z (wide : Int) (high : Int) : Bool := (bif (p_f1az wide 1 16) then (p_f1az high 1 16) else false)
def p_f11z_eq := @p_f11z.eq_1
def T_f11z (wide : Int) (high : Int) (H : AHeap) (K : Bool → AHeap → Prop) : Prop := K (p_f11z wide high) H

theorem T_f11z_i {wide : Int} {high : Int} {H : AHeap} {K : Bool → AHeap → Prop} (h : K (p_f11z wide high) H) : T_f11z wide high H K := h
/-! f11z: function 57 -/
def E_f11z : Env := envOf [(23, S_f1az)]
def F_f11z : List Value → AHeap → (Value → AHeap → Prop) → Prop
 | [.int .i64 wide, .int .i64 high], H, K => T_f11z wide high H fun (r1 : Bool) (H' : AHeap) => K (.bool r1) H'
 | _, _, _ => False
def S_f11z : FSpec := { F := F_f11z, quiet := true, tame := false }
theorem f11z_vc (wide : Int) (high : Int) (H : AHeap) (K : Value → AHeap → Prop) : bodyL Try.prog E_f11z Try.f57 [.int .i64 wide, .int .i64 high] H K =
 (T_f1az wide 1 16 H fun (r1 : Bool) (H1 : AHeap) => Br r1 (T_f1az high 1 16 H1 fun (r2 : Bool) (H2 : AHeap) => K (.bool r2) H2) (K (.bool false) H1)) := by kernel_rfl
theorem E_f11z_ok : ∀ g, FnOk Try.prog g (E_f11z g) := FnOk.envOf (by
 intro x hx
 simp only [List.mem_cons, List.not_mem_nil, or_false] at hx
 subst hx; exact f1az_ok)
theorem f11z_main (wide : Int) (high : Int) (H : AHeap) (K : Value → AHeap → Prop) (h : T_f11z wide high H fun (r1 : Bool) (H' : AHeap) => K (.bool r1) H') : bodyL Try.prog E_f11z Try.f57 [.int .i64 wide, .int .i64 high] H K := by
 rw [f11z_vc]
 simp only [T_f1az]
 unfold T_f11z p_f11z at h
 repeat' (first | exact h | (exfalso; simp_all; done) | (refine ⟨by decide, ?_⟩) | (refine Br.intro (fun hb => ?_) (fun hb => ?_) <;> (try simp only [hb, cond_true, cond_false, Bool.not_true, Bool.not_false] at h)))
theorem f11z_ok : FnOk Try.prog 57 S_f11z := by
 refine FnOk.body mix_ok E_f11z_ok Try.func57 rfl ω9 ω9 ?_ ?_ ?_ ?_ ?_
 ·intro args H K K' h hk
  simp only [S_f11z] at *
  unfold F_f11z at *
  split at hk
  ·have k := hk
   exact h _ _ k
  ·exact hk.elim
 ·intro _ args H K hk
  simp only [S_f11z] at *
  unfold F_f11z at *
  split at hk
  ·have k := hk
   exact ⟨_, k, fun K' k' => k'⟩
  ·exact hk.elim
 ·intro args H K hk
  simp only [S_f11z] at *
  unfold F_f11z at *
  split at hk
  ·have k := hk
   exact ⟨_, _, k⟩
  ·exact hk.elim
 ·intro hq; cases hq
 ·have mm := @f11z_main
  have ml := fun (args : List Value) (H : AHeap) (K : Value → AHeap → Prop) => bodyL_body (P := Try.prog) (env := E_f11z ) (fn := Try.f57) (args := args) (H := H) (K := K) E_f11z_ok 
  revert mm ml
  generalize bodyK Try.prog E_f11z Try.f57 = Q
  generalize bodyL Try.prog E_f11z Try.f57 = QL
  intro mm ml args H K hk
  simp only [S_f11z] at *
  unfold F_f11z at *
  split at hk
  ·exact ml _ H K (mm _ _ H K hk)
  ·exact hk.elim

def p_f1bz (pp_Wide : Int) (pp_High : Int) (ma : LN) : Bool := ((bif (p_f11z pp_Wide pp_High) then (bif ((ma.length : Int) : Int) == IntKind.wrap .i64 (pp_Wide * pp_High) then (p_foz ma) else false) else false))
def p_f1bz_eq := @p_f1bz.eq_1
def T_f1bz (p : Nat) (H : AHeap) (K : Bool → AHeap → Prop) : Prop := ∃ (pp_Wide : Int), ∃ (pp_High : Int), ∃ (ac : OA), ∃ (dc : Nat), ∃ (fc : Nat), ∃ (ma : LN), rdN H p 0 3 = some [.int .i64 pp_Wide, .int .i64 pp_High, .slice ac dc fc] ∧ IsL fF H ac dc ma ∧ ma.length < 1073741824 ∧ K (p_f1bz pp_Wide pp_High ma) H
theorem T_f1bz_i {p : Nat} {H : AHeap} {K : Bool → AHeap → Prop} (h : ∃ (pp_Wide : Int), ∃ (pp_High : Int), ∃ (ac : OA), ∃ (dc : Nat), ∃ (fc : Nat), ∃ (ma : LN), rdN H p 0 3 = some [.int .i64 pp_Wide, .int .i64 pp_High, .slice ac dc fc] ∧ IsL fF H ac dc ma ∧ ma.length < 1073741824 ∧ K (p_f1bz pp_Wide pp_High ma) H) : T_f1bz p H K := h
theorem ω24 {P : Prop} (h : P := by decide) : P := h
theorem f1bz_t {w h : Int} {l : LN} (hh : p_f1bz w h l = true) : 1 ≤ w ∧ w ≤ 16 ∧ 1 ≤ h ∧ h ≤ 16 ∧ (l.length : Int) = w * h ∧ (l.length : Int) ≤ 256 ∧ 1 ≤ (l.length : Int) := by
 rw [p_f1bz_eq, p_f11z_eq] at hh
 simp only [Bool.cond_false_right, Bool.and_eq_true] at hh
 obtain ⟨⟨a, b⟩, c, -⟩ := hh
 have a := f1az_t a
 have b := f1az_t b
 have h1 : w * h ≤ 16 * 16 := Int.mul_le_mul ω2 ω2 ω2 ω24
 have h2 : 1 * 1 ≤ w * h := Int.mul_le_mul ω2 ω2 ω2 ω2
 have c := eq_of_beq c
 rw [wrap64 ω2 ω2] at c
 exact ⟨a.1, a.2, b.1, b.2, c, by omega, by omega⟩
/-! f1bz: function 40 -/
def E_f1bz : Env := envOf [(57, S_f11z), (55, S_foz)]
def F_f1bz : List Value → AHeap → (Value → AHeap → Prop) → Prop
 | [.pointer (some ⟨p, 0, none⟩)], H, K => T_f1bz p H fun (r1 : Bool) (H' : AHeap) => K (.bool r1) H'
 | _, _, _ => False
def S_f1bz : FSpec := { F := F_f1bz, quiet := true, tame := false }
theorem f1bz_vc (p : Nat) (H : AHeap) (K : Value → AHeap → Prop) : bodyL Try.prog E_f1bz Try.f40 [.pointer (some ⟨p, 0, none⟩)] H K =
 (∃ x1 : Int,  rdC H p 0 = some (.int .i64 x1) ∧ ∃ x2 : Int,  rdC H p 1 = some (.int .i64 x2) ∧ T_f11z x1 x2 H fun (r1 : Bool) (H1 : AHeap) => Br r1 (∃ tf : OA, ∃ mf : Nat, ∃ uf : Nat,  rdC H1 p 2 = some (.slice tf mf uf) ∧ ∃ x4 : Int,  rdC H1 p 0 = some (.int .i64 x4) ∧ ∃ x5 : Int,  rdC H1 p 1 = some (.int .i64 x5) ∧ Br (((mf : Int) : Int) == IntKind.wrap .i64 (x4 * x5)) (∃ pe : OA, ∃ oe : Nat, ∃ qe : Nat,  rdC H1 p 2 = some (.slice pe oe qe) ∧ T_foz pe oe qe H1 fun (r2 : Bool) (H2 : AHeap) => K (.bool r2) H2) (K (.bool false) H1)) (K (.bool false) H1)) := by kernel_rfl
theorem E_f1bz_ok : ∀ g, FnOk Try.prog g (E_f1bz g) := FnOk.envOf (by
 intro x hx
 simp only [List.mem_cons, List.not_mem_nil, or_false] at hx
 rcases hx with rfl | rfl
 ·exact f11z_ok
 ·exact foz_ok)
theorem f1bz_main (p : Nat) (H : AHeap) (K : Value → AHeap → Prop) (h : T_f1bz p H fun (r1 : Bool) (H' : AHeap) => K (.bool r1) H') : bodyL Try.prog E_f1bz Try.f40 [.pointer (some ⟨p, 0, none⟩)] H K := by
 rw [f1bz_vc]
 obtain ⟨pp_Wide, pp_High, ac, dc, fc, ma, i_p, i_pp_Lights, bd_3, hk⟩ := h
 obtain rfl := i_pp_Lights.eqn
 have e : (p_f1bz pp_Wide pp_High ma) = _ := rfl
 have e := e.trans (p_f1bz_eq pp_Wide pp_High ma)
 have g0 := Grow.refl H
 refine ⟨pp_Wide, (rdN_at (rdN_grow g0 i_p) 0 (Nat.le_of_ble_eq_true rfl)).trans rfl, ?_⟩
 refine ⟨pp_High, (rdN_at (rdN_grow g0 i_p) 1 (Nat.le_of_ble_eq_true rfl)).trans rfl, ?_⟩
 refine T_f11z_i ?_
 refine Br.intro (fun c_1 => ?_) (fun c_1 => ?_)
 ·have e := e.trans (cond_t c_1)
  refine ⟨ac, ma.length, fc, (rdN_at (rdN_grow g0 i_p) 2 (Nat.le_of_ble_eq_true rfl)).trans rfl, ?_⟩
  refine ⟨pp_Wide, (rdN_at (rdN_grow g0 i_p) 0 (Nat.le_of_ble_eq_true rfl)).trans rfl, ?_⟩
  refine ⟨pp_High, (rdN_at (rdN_grow g0 i_p) 1 (Nat.le_of_ble_eq_true rfl)).trans rfl, ?_⟩
  refine Br.intro (fun c_2 => ?_) (fun c_2 => ?_)
  ·have e := e.trans (cond_t c_2)
   have c_2' := ieq_t c_2
   refine ⟨ac, ma.length, fc, (rdN_at (rdN_grow g0 i_p) 2 (Nat.le_of_ble_eq_true rfl)).trans rfl, ?_⟩
   refine T_foz_i ⟨_, (i_pp_Lights.grow g0), ω0, ?_⟩
   rw [e] at hk
   exact hk
  ·have e := e.trans (cond_f c_2)
   have c_2' := ieq_f c_2
   rw [e] at hk
   exact hk
 ·have e := e.trans (cond_f c_1)
  rw [e] at hk
  exact hk
theorem f1bz_ok : FnOk Try.prog 40 S_f1bz := by
 refine FnOk.body mix_ok E_f1bz_ok Try.func40 rfl ω9 ω9 ?_ ?_ ?_ ?_ ?_
 ·intro args H K K' h hk
  simp only [S_f1bz] at *
  unfold F_f1bz at *
  split at hk
  ·obtain ⟨pp_Wide, pp_High, ac, dc, fc, ma, i_p, i_pp_Lights, bd_3, k⟩ := hk
   exact ⟨pp_Wide, pp_High, ac, dc, fc, ma, i_p, i_pp_Lights, bd_3, h _ _ k⟩
  ·exact hk.elim
 ·intro _ args H K hk
  simp only [S_f1bz] at *
  unfold F_f1bz at *
  split at hk
  ·obtain ⟨pp_Wide, pp_High, ac, dc, fc, ma, i_p, i_pp_Lights, bd_3, k⟩ := hk
   exact ⟨_, k, fun K' k' => ⟨pp_Wide, pp_High, ac, dc, fc, ma, i_p, i_pp_Lights, bd_3, k'⟩⟩
  ·exact hk.elim
 ·intro args H K hk
  simp only [S_f1bz] at *
  unfold F_f1bz at *
  split at hk
  ·obtain ⟨pp_Wide, pp_High, ac, dc, fc, ma, i_p, i_pp_Lights, bd_3, k⟩ := hk
   exact ⟨_, _, k⟩
  ·exact hk.elim
 ·intro hq; cases hq
 ·have mm := @f1bz_main
  have ml := fun (args : List Value) (H : AHeap) (K : Value → AHeap → Prop) => bodyL_body (P := Try.prog) (env := E_f1bz ) (fn := Try.f40) (args := args) (H := H) (K := K) E_f1bz_ok 
  revert mm ml
  generalize bodyK Try.prog E_f1bz Try.f40 = Q
  generalize bodyL Try.prog E_f1bz Try.f40 = QL
  intro mm ml args H K hk
  simp only [S_f1bz] at *
  unfold F_f1bz at *
  split at hk
  ·exact ml _ H K (mm _ H K hk)
  ·exact hk.elim

def p_f18z (ba : LN) (sp_Scale : Nat) (pp_Wide : Int) (pp_High : Int) (ma : LN) : Bool := (bif (p_fpz ba sp_Scale) then (p_f1bz pp_Wide pp_High ma) else false)
def p_f18z_eq := @p_f18z.eq_1
def T_f18z (s : Nat) (p : Nat) (H : AHeap) (K : Bool → AHeap → Prop) : Prop := ∃ (bb : OA), ∃ (mb : Nat), ∃ (pb : Nat), ∃ (sp_Scale : Nat), ∃ (pp_Wide : Int), ∃ (pp_High : Int), ∃ (ac : OA), ∃ (dc : Nat), ∃ (fc : Nat), ∃ (ba : LN), ∃ (ma : LN), rdN H s 0 2 = some [.slice bb mb pb, .float .f32 sp_Scale] ∧ rdN H p 0 3 = some [.int .i64 pp_Wide, .int .i64 pp_High, .slice ac dc fc] ∧ IsL fF H bb mb ba ∧ IsL fF H ac dc ma ∧ ba.length < 1073741824 ∧ ma.length < 1073741824 ∧ K (p_f18z ba sp_Scale pp_Wide pp_High ma) H
theorem T_f18z_i {s : Nat} {p : Nat} {H : AHeap} {K : Bool → AHeap → Prop} (h : ∃ (bb : OA), ∃ (mb : Nat), ∃ (pb : Nat), ∃ (sp_Scale : Nat), ∃ (pp_Wide : Int), ∃ (pp_High : Int), ∃ (ac : OA), ∃ (dc : Nat), ∃ (fc : Nat), ∃ (ba : LN), ∃ (ma : LN), rdN H s 0 2 = some [.slice bb mb pb, .float .f32 sp_Scale] ∧ rdN H p 0 3 = some [.int .i64 pp_Wide, .int .i64 pp_High, .slice ac dc fc] ∧ IsL fF H bb mb ba ∧ IsL fF H ac dc ma ∧ ba.length < 1073741824 ∧ ma.length < 1073741824 ∧ K (p_f18z ba sp_Scale pp_Wide pp_High ma) H) : T_f18z s p H K := h
theorem f18z_t {ws : LN} {sc : Nat} {w h : Int} {l : LN} (hh : p_f18z ws sc w h l = true) : 1 ≤ w ∧ w ≤ 16 ∧ 1 ≤ h ∧ h ≤ 16 ∧ (l.length : Int) = w * h ∧ (l.length : Int) ≤ 256 ∧ 1 ≤ (l.length : Int) := by
 rw [p_f18z_eq] at hh
 cases h1 : p_fpz ws sc with
 | false => rw [h1] at hh; cases hh
 | true => rw [h1] at hh; exact f1bz_t hh
/-! f18z: function 22 -/
def E_f18z : Env := envOf [(39, S_fpz), (40, S_f1bz)]
def F_f18z : List Value → AHeap → (Value → AHeap → Prop) → Prop
 | [.pointer (some ⟨s, 0, none⟩), .pointer (some ⟨p, 0, none⟩)], H, K => T_f18z s p H fun (r1 : Bool) (H' : AHeap) => K (.bool r1) H'
 | _, _, _ => False
def S_f18z : FSpec := { F := F_f18z, quiet := true, tame := false }
theorem f18z_vc (s : Nat) (p : Nat) (H : AHeap) (K : Value → AHeap → Prop) : bodyL Try.prog E_f18z Try.f22 [.pointer (some ⟨s, 0, none⟩), .pointer (some ⟨p, 0, none⟩)] H K =
 (T_fpz s H fun (r1 : Bool) (H1 : AHeap) => Br r1 (T_f1bz p H1 fun (r2 : Bool) (H2 : AHeap) => K (.bool r2) H2) (K (.bool false) H1)) := by kernel_rfl
theorem E_f18z_ok : ∀ g, FnOk Try.prog g (E_f18z g) := FnOk.envOf (by
 intro x hx
 simp only [List.mem_cons, List.not_mem_nil, or_false] at hx
 rcases hx with rfl | rfl
 ·exact fpz_ok
 ·exact f1bz_ok)
theorem f18z_main (s : Nat) (p : Nat) (H : AHeap) (K : Value → AHeap → Prop) (h : T_f18z s p H fun (r1 : Bool) (H' : AHeap) => K (.bool r1) H') : bodyL Try.prog E_f18z Try.f22 [.pointer (some ⟨s, 0, none⟩), .pointer (some ⟨p, 0, none⟩)] H K := by
 rw [f18z_vc]
 obtain ⟨bb, mb, pb, sp_Scale, pp_Wide, pp_High, ac, dc, fc, ba, ma, i_s, i_p, i_sp_Weights, i_pp_Lights, bd_2, bd_3, hk⟩ := h
 obtain rfl := i_sp_Weights.eqn
 obtain rfl := i_pp_Lights.eqn
 have e : (p_f18z ba sp_Scale pp_Wide pp_High ma) = _ := rfl
 have e := e.trans (p_f18z_eq ba sp_Scale pp_Wide pp_High ma)
 have g0 := Grow.refl H
 refine T_fpz_i ⟨bb, ba.length, pb, sp_Scale, _, (rdN_grow g0 i_s), (i_sp_Weights.grow g0), ω0, ?_⟩
 refine Br.intro (fun c_1 => ?_) (fun c_1 => ?_)
 ·have e := e.trans (cond_t c_1)
  refine T_f1bz_i ⟨pp_Wide, pp_High, ac, ma.length, fc, _, (rdN_grow g0 i_p), (i_pp_Lights.grow g0), ω0, ?_⟩
  rw [e] at hk
  exact hk
 ·have e := e.trans (cond_f c_1)
  rw [e] at hk
  exact hk
theorem f18z_ok : FnOk Try.prog 22 S_f18z := by
 refine FnOk.body mix_ok E_f18z_ok Try.func22 rfl ω9 ω9 ?_ ?_ ?_ ?_ ?_
 ·intro args H K K' h hk
  simp only [S_f18z] at *
  unfold F_f18z at *
  split at hk
  ·obtain ⟨bb, mb, pb, sp_Scale, pp_Wide, pp_High, ac, dc, fc, ba, ma, i_s, i_p, i_sp_Weights, i_pp_Lights, bd_2, bd_3, k⟩ := hk
   exact ⟨bb, mb, pb, sp_Scale, pp_Wide, pp_High, ac, dc, fc, ba, ma, i_s, i_p, i_sp_Weights, i_pp_Lights, bd_2, bd_3, h _ _ k⟩
  ·exact hk.elim
 ·intro _ args H K hk
  simp only [S_f18z] at *
  unfold F_f18z at *
  split at hk
  ·obtain ⟨bb, mb, pb, sp_Scale, pp_Wide, pp_High, ac, dc, fc, ba, ma, i_s, i_p, i_sp_Weights, i_pp_Lights, bd_2, bd_3, k⟩ := hk
   exact ⟨_, k, fun K' k' => ⟨bb, mb, pb, sp_Scale, pp_Wide, pp_High, ac, dc, fc, ba, ma, i_s, i_p, i_sp_Weights, i_pp_Lights, bd_2, bd_3, k'⟩⟩
  ·exact hk.elim
 ·intro args H K hk
  simp only [S_f18z] at *
  unfold F_f18z at *
  split at hk
  ·obtain ⟨bb, mb, pb, sp_Scale, pp_Wide, pp_High, ac, dc, fc, ba, ma, i_s, i_p, i_sp_Weights, i_pp_Lights, bd_2, bd_3, k⟩ := hk
   exact ⟨_, _, k⟩
  ·exact hk.elim
 ·intro hq; cases hq
 ·have mm := @f18z_main
  have ml := fun (args : List Value) (H : AHeap) (K : Value → AHeap → Prop) => bodyL_body (P := Try.prog) (env := E_f18z ) (fn := Try.f22) (args := args) (H := H) (K := K) E_f18z_ok 
  revert mm ml
  generalize bodyK Try.prog E_f18z Try.f22 = Q
  generalize bodyL Try.prog E_f18z Try.f22 = QL
  intro mm ml args H K hk
  simp only [S_f18z] at *
  unfold F_f18z at *
  split at hk
  ·exact ml _ H K (mm _ _ H K hk)
  ·exact hk.elim

def p_fnz (da : LN) (i : Int) : Nat := ((da).getD ((if ((if (i : Int) < ((da.length : Int) - 1) then i else ((da.length : Int) - 1)) : Int) > 0 then (if (i : Int) < ((da.length : Int) - 1) then i else ((da.length : Int) - 1)) else 0) : Int).toNat 0)
def p_fnz_eq := @p_fnz.eq_1
def T_fnz (ib : OA) (ua : Nat) (sb : Nat) (i : Int) (H : AHeap) (K : Nat → AHeap → Prop) : Prop := ∃ (da : LN), IsL fF H ib ua da ∧ da.length < 1073741824 ∧ 1 ≤ da.length ∧ K (p_fnz da i) H
theorem T_fnz_i {ib : OA} {ua : Nat} {sb : Nat} {i : Int} {H : AHeap} {K : Nat → AHeap → Prop} (h : ∃ (da : LN), IsL fF H ib ua da ∧ da.length < 1073741824 ∧ 1 ≤ da.length ∧ K (p_fnz da i) H) : T_fnz ib ua sb i H K := h

/-! fnz: function 79 -/
def E_fnz : Env := envOf []
def F_fnz : List Value → AHeap → (Value → AHeap → Prop) → Prop
 | [.slice ib ua sb, .int .i64 i], H, K => T_fnz ib ua sb i H fun (r1 : Nat) (H' : AHeap) => K (.float .f32 r1) H'
 | _, _, _ => False
def S_fnz : FSpec := { F := F_fnz, quiet := true, tame := false }
theorem fnz_vc (ib : OA) (ua : Nat) (sb : Nat) (i : Int) (H : AHeap) (K : Value → AHeap → Prop) : bodyL Try.prog E_fnz Try.f79 [.slice ib ua sb, .int .i64 i] H K =
 ((0 : Int) ≤ (if ((if (i : Int) < IntKind.wrap .i64 ((ua : Int) - 1) then i else IntKind.wrap .i64 ((ua : Int) - 1)) : Int) > 0 then (if (i : Int) < IntKind.wrap .i64 ((ua : Int) - 1) then i else IntKind.wrap .i64 ((ua : Int) - 1)) else 0) ∧ (if ((if (i : Int) < IntKind.wrap .i64 ((ua : Int) - 1) then i else IntKind.wrap .i64 ((ua : Int) - 1)) : Int) > 0 then (if (i : Int) < IntKind.wrap .i64 ((ua : Int) - 1) then i else IntKind.wrap .i64 ((ua : Int) - 1)) else 0) < (ua : Int) ∧ ∃ b1 f1, (ib : OA) = some ⟨b1, f1, none⟩ ∧ ∃ x1 : Nat,  rdC H b1 (f1 + ((if ((if (i : Int) < IntKind.wrap .i64 ((ua : Int) - 1) then i else IntKind.wrap .i64 ((ua : Int) - 1)) : Int) > 0 then (if (i : Int) < IntKind.wrap .i64 ((ua : Int) - 1) then i else IntKind.wrap .i64 ((ua : Int) - 1)) else 0) : Int).toNat * 1) = some (.float .f32 x1) ∧ K (.float .f32 x1) H) := by kernel_rfl
theorem E_fnz_ok : ∀ g, FnOk Try.prog g (E_fnz g) := FnOk.envOf (by
 intro x hx; cases hx)
theorem fnz_main (ib : OA) (ua : Nat) (sb : Nat) (i : Int) (H : AHeap) (K : Value → AHeap → Prop) (h : T_fnz ib ua sb i H fun (r1 : Nat) (H' : AHeap) => K (.float .f32 r1) H') : bodyL Try.prog E_fnz Try.f79 [.slice ib ua sb, .int .i64 i] H K := by
 rw [fnz_vc]
 obtain ⟨da, i_list, bd_4, pr0, hk⟩ := h
 obtain rfl := i_list.eqn
 have e : (p_fnz da i) = _ := rfl
 have e := e.trans (p_fnz_eq da i)
 have g0 := Grow.refl H
 rw [show IntKind.wrap .i64 ((da.length : Int) - 1) = ((da.length : Int) - 1) from wrap64 ω2 ω2]
 obtain ⟨b_1, f_2, q_3⟩ := ((i_list.grow g0)).pos ω0
 refine ⟨by omega, by omega, b_1, f_2, q_3, ?_⟩
 refine ⟨((da).getD ((if ((if (i : Int) < ((da.length : Int) - 1) then i else ((da.length : Int) - 1)) : Int) > 0 then (if (i : Int) < ((da.length : Int) - 1) then i else ((da.length : Int) - 1)) else 0) : Int).toNat 0), (i_list).rd g0 q_3 ω2 _, ?_⟩
 rw [e] at hk
 exact hk
theorem fnz_ok : FnOk Try.prog 79 S_fnz := by
 refine FnOk.body mix_ok E_fnz_ok Try.func79 rfl ω9 ω9 ?_ ?_ ?_ ?_ ?_
 ·intro args H K K' h hk
  simp only [S_fnz] at *
  unfold F_fnz at *
  split at hk
  ·obtain ⟨da, i_list, bd_4, pr0, k⟩ := hk
   exact ⟨da, i_list, bd_4, pr0, h _ _ k⟩
  ·exact hk.elim
 ·intro _ args H K hk
  simp only [S_fnz] at *
  unfold F_fnz at *
  split at hk
  ·obtain ⟨da, i_list, bd_4, pr0, k⟩ := hk
   exact ⟨_, k, fun K' k' => ⟨da, i_list, bd_4, pr0, k'⟩⟩
  ·exact hk.elim
 ·intro args H K hk
  simp only [S_fnz] at *
  unfold F_fnz at *
  split at hk
  ·obtain ⟨da, i_list, bd_4, pr0, k⟩ := hk
   exact ⟨_, _, k⟩
  ·exact hk.elim
 ·intro hq; cases hq
 ·have mm := @fnz_main
  have ml := fun (args : List Value) (H : AHeap) (K : Value → AHeap → Prop) => bodyL_body (P := Try.prog) (env := E_fnz ) (fn := Try.f79) (args := args) (H := H) (K := K) E_fnz_ok 
  revert mm ml
  generalize bodyK Try.prog E_fnz Try.f79 = Q
  generalize bodyL Try.prog E_fnz Try.f79 = QL
  intro mm ml args H K hk
  simp only [S_fnz] at *
  unfold F_fnz at *
  split at hk
  ·exact ml _ H K (mm _ _ _ _ H K hk)
  ·exact hk.elim
def wHighS (k : Int) (w : Nat) (low high : LN) : LN := bif Int.tmod k 2 == 0 then high.mapIdx (fun i x => fadd .f32 x (fmul .f32 w (fadd .f32 (low.getD i 0) (p_fnz low ((i : Int) + 1))))) else high
def wLowS (k : Int) (w : Nat) (low high : LN) : LN := bif Int.tmod k 2 == 0 then low else low.mapIdx (fun i x => fadd .f32 x (fmul .f32 w (fadd .f32 (p_fnz high ((i : Int) - 1)) (p_fnz high (i : Int)))))
@[simp] theorem wHighS_length (k : Int) (w : Nat) (low high : LN) : (wHighS k w low high).length = high.length := by
 unfold wHighS; cases (Int.tmod k 2 == 0) <;> simp
@[simp] theorem wLowS_length (k : Int) (w : Nat) (low high : LN) : (wLowS k w low high).length = low.length := by
 unfold wLowS; cases (Int.tmod k 2 == 0) <;> simp
def p_f10z_l1 (ec : LN) (vb : LN) (k : Int) (w : Nat) : Nat → Int → LN → LN × LN
 | 0, _, _ => ([], [])
 | μ + 1, i, y1_1 => (bif decide ((i : Int) < (vb.length : Int)) then (p_f10z_l1 ec vb k w μ (i + 1) (((y1_1).set (i : Int).toNat ((fadd .f32 (((y1_1).getD (i : Int).toNat 0)) (fmul .f32 w (fadd .f32 (((ec).getD (i : Int).toNat 0)) ((p_fnz ec (i + 1)))))))))) else (ec, y1_1))
def p_f10z_l1_s := fun ec vb k w μ i y1_1 => @p_f10z_l1.eq_2 ec vb k w i y1_1 μ
def p_f10z_l2 (ec : LN) (vb : LN) (k : Int) (w : Nat) : Nat → Int → LN → LN × LN
 | 0, _, _ => ([], [])
 | μ + 1, i9, y2_1 => (bif decide ((i9 : Int) < (ec.length : Int)) then (p_f10z_l2 ec vb k w μ (i9 + 1) (((y2_1).set (i9 : Int).toNat ((fadd .f32 (((y2_1).getD (i9 : Int).toNat 0)) (fmul .f32 w (fadd .f32 ((p_fnz vb (i9 - 1))) (p_fnz vb i9)))))))) else (y2_1, vb))
def p_f10z_l2_s := fun ec vb k w μ i9 y2_1 => @p_f10z_l2.eq_2 ec vb k w i9 y2_1 μ
def p_f10z (ec : LN) (vb : LN) (k : Int) (w : Nat) : LN × LN := ((bif (Int.tmod k 2 : Int) == 0 then (p_f10z_l1 ec vb k w (Int.toNat ((vb.length : Int) - (0 : Int)) + 1) (0 : Int) vb) else (p_f10z_l2 ec vb k w (Int.toNat ((ec.length : Int) - (0 : Int)) + 1) (0 : Int) ec)))
def p_f10z_eq := @p_f10z.eq_1
def T_f10z (qb : OA) (ub : Nat) (xb : Nat) (sa : OA) (xa : Nat) (ab : Nat) (k : Int) (w : Nat) (H : AHeap) (K : AHeap → Prop) : Prop := ∃ lo : Nat, ∃ lob : Nat, ∃ (ec : LN), ∃ (vb : LN), OwnS fF H lo qb ub xb ec ∧ OwnS fF H lob sa xa ab vb ∧ SepA qb sa ∧ ec.length < 1073741824 ∧ vb.length < 1073741824 ∧ vb.length ≤ ec.length ∧ 1 ≤ vb.length ∧ ((∀ H' : AHeap, Keep2 qb sa H H' → OwnS fF H' lo qb ub xb (wLowS k w ec vb) → OwnS fF H' lob sa xa ab (wHighS k w ec vb) → K  H'))
theorem T_f10z_i {qb : OA} {ub : Nat} {xb : Nat} {sa : OA} {xa : Nat} {ab : Nat} {k : Int} {w : Nat} {H : AHeap} {K : AHeap → Prop} (h : ∃ lo : Nat, ∃ lob : Nat, ∃ (ec : LN), ∃ (vb : LN), OwnS fF H lo qb ub xb ec ∧ OwnS fF H lob sa xa ab vb ∧ SepA qb sa ∧ ec.length < 1073741824 ∧ vb.length < 1073741824 ∧ vb.length ≤ ec.length ∧ 1 ≤ vb.length ∧ ((∀ H' : AHeap, Keep2 qb sa H H' → OwnS fF H' lo qb ub xb (wLowS k w ec vb) → OwnS fF H' lob sa xa ab (wHighS k w ec vb) → K  H'))) : T_f10z qb ub xb sa xa ab k w H K := h
theorem front_get (W ys : LN) (i : Nat) (hi : i < ys.length) (hl : W.length = ys.length) : (W.take i ++ ys.drop i).getD i 0 = ys.getD i 0 := by
 rw [List.getD_eq_getElem?_getD, List.getD_eq_getElem?_getD, List.getElem?_append_right (by simp; omega)]
 have : (W.take i).length = i := by simp; omega
 rw [this, Nat.sub_self, List.getElem?_drop, Nat.add_zero]
theorem f10z_go1 (low high : LN) (k : Int) (w : Nat) (W : LN) (hW : W = high.mapIdx (fun i x => fadd .f32 x (fmul .f32 w (fadd .f32 (low.getD i 0) (p_fnz low ((i : Int) + 1)))))) :
  ∀ (μ i : Nat), i ≤ high.length → high.length - i < μ → p_f10z_l1 low high k w μ (i : Int) (W.take i ++ high.drop i) = (low, W) := by
 have hl : W.length = high.length := by rw [hW]; simp
 intro μ
 induction μ with
 | zero => intro i _ h; omega
 | succ μ ih =>
  intro i hi hm
  rw [p_f10z_l1_s]
  by_cases h : i < high.length
  ·rw [decide_eq_true (show (i : Int) < (high.length : Int) by omega), cond_true, Int.toNat_natCast]
   have := ih (i + 1) ω2 ω2
   rw [← this, set_front W high i h hl]
   ·rfl
   ·rw [front_get W high i h hl, hW]
    simp [List.getD_eq_getElem?_getD, h]
  ·have e : i = high.length := by omega
   rw [decide_eq_false (show ¬ (i : Int) < (high.length : Int) by omega), cond_false, e]
   simp [← hl]
theorem f10z_go2 (low high : LN) (k : Int) (w : Nat) (W : LN) (hW : W = low.mapIdx (fun i x => fadd .f32 x (fmul .f32 w (fadd .f32 (p_fnz high ((i : Int) - 1)) (p_fnz high (i : Int)))))) :
  ∀ (μ i : Nat), i ≤ low.length → low.length - i < μ → p_f10z_l2 low high k w μ (i : Int) (W.take i ++ low.drop i) = (W, high) := by
 have hl : W.length = low.length := by rw [hW]; simp
 intro μ
 induction μ with
 | zero => intro i _ h; omega
 | succ μ ih =>
  intro i hi hm
  rw [p_f10z_l2_s]
  by_cases h : i < low.length
  ·rw [decide_eq_true (show (i : Int) < (low.length : Int) by omega), cond_true, Int.toNat_natCast]
   have := ih (i + 1) ω2 ω2
   rw [← this, set_front W low i h hl]
   ·rfl
   ·rw [front_get W low i h hl, hW]
    simp [List.getD_eq_getElem?_getD, h]
  ·have e : i = low.length := by omega
   rw [decide_eq_false (show ¬ (i : Int) < (low.length : Int) by omega), cond_false, e]
   simp [← hl]
theorem f10z_val (low high : LN) (k : Int) (w : Nat) : p_f10z low high k w = (wLowS k w low high, wHighS k w low high) := by
 rw [p_f10z_eq]
 unfold wLowS wHighS
 cases h : (Int.tmod k 2 == 0)
 ·rw [cond_false, cond_false, cond_false]
  have := f10z_go2 low high k w _ rfl (Int.toNat ((low.length : Int) - 0) + 1) 0 ω2 ω2
  simpa using this
 ·rw [cond_true, cond_true, cond_true]
  have := f10z_go1 low high k w _ rfl (Int.toNat ((high.length : Int) - 0) + 1) 0 ω2 ω2
  simpa using this
/-! f10z: function 58 -/
def E_f10z : Env := envOf [(79, S_fnz)]
def F_f10z : List Value → AHeap → (Value → AHeap → Prop) → Prop
 | [.slice qb ub xb, .slice sa xa ab, .int .i64 k, .float .f32 w], H, K => T_f10z qb ub xb sa xa ab k w H fun  (H' : AHeap) => K (.tuple #[]) H'
 | _, _, _ => False
def S_f10z : FSpec := { F := F_f10z, quiet := false, tame := false }
theorem f10z_vc (qb : OA) (ub : Nat) (xb : Nat) (sa : OA) (xa : Nat) (ab : Nat) (k : Int) (w : Nat) (H : AHeap) (K : Value → AHeap → Prop) : bodyL Try.prog E_f10z Try.f58 [.slice qb ub xb, .slice sa xa ab, .int .i64 k, .float .f32 w] H K =
 (2 ≠ (0 : Int) ∧ Br ((Int.tmod k 2 : Int) == 0) (loopK (exL Try.prog E_f10z (cl (cl (cr (cl (cl (cr (cl (bodyC Try.f58)))))))) 267 0 [(0, 0)]) (.slice qb ub xb :: .slice sa xa ab :: ud :: .float .f32 w :: ud4 (.int .i64 0 :: ud53 [])) H (blockQ 0 (seqQ (exL Try.prog E_f10z (cr (cl (cr (cl (bodyC Try.f58))))) 11 0 []) (seqQ (exL Try.prog E_f10z (cr (bodyC Try.f58)) 0 0 []) (retK Try.prog Try.f58 K))))) (loopK (exL Try.prog E_f10z (cl (cl (cr (cr (bodyC Try.f58))))) 523 0 [(2, 0)]) (.slice qb ub xb :: .slice sa xa ab :: ud :: .float .f32 w :: ud5 (.int .i64 0 :: ud52 [])) H (blockQ 2 (retK Try.prog Try.f58 K)))) := by kernel_rfl
abbrev f10z_P1 (sa : OA) (ab : Nat) (xa : Nat) (qb : OA) (xb : Nat) (ub : Nat) (w : Nat) (i : Int)  : List Value := (.slice qb ub xb :: .slice sa xa ab :: ud :: .float .f32 w :: ud4 (.int .i64 i :: ud53 []))
theorem f10z_r1 (sa : OA) (ab : Nat) (xa : Nat) (qb : OA) (xb : Nat) (ub : Nat) (w : Nat) (i : Int)  (H : AHeap) (R : Post) : exL Try.prog E_f10z (cl (cl (cr (cl (cl (cr (cl (bodyC Try.f58)))))))) 267 0 [(0, 0)] (f10z_P1 sa ab xa qb xb ub w i) H R =
 (Br (decide ((i : Int) < (xa : Int))) ((0 : Int) ≤ i ∧ i < (xa : Int) ∧ ∃ b1 f1, (sa : OA) = some ⟨b1, f1, none⟩ ∧ ∃ x1 : Nat,  rdC H b1 (f1 + (i : Int).toNat * 1) = some (.float .f32 x1) ∧ (0 : Int) ≤ i ∧ i < (ub : Int) ∧ ∃ b2 f2, (qb : OA) = some ⟨b2, f2, none⟩ ∧ ∃ x2 : Nat,  rdC H b2 (f2 + (i : Int).toNat * 1) = some (.float .f32 x2) ∧ T_fnz qb ub xb (IntKind.wrap .i64 (i + 1)) H fun (r1 : Nat) (H1 : AHeap) => (0 : Int) ≤ i ∧ i < (xa : Int) ∧ ∃ b3 f3, (sa : OA) = some ⟨b3, f3, none⟩ ∧ isOwn H1 b3 ∧ (∃ l, rdN H1 b3 (f3 + (i : Int).toNat * 1) 1 = some l) ∧ Lt (setC H1 b3 (f3 + (i : Int).toNat * 1) (.float .f32 (fadd .f32 x1 (fmul .f32 w (fadd .f32 x2 r1))))) fun H2 => R .normal (.slice qb ub xb :: .slice sa xa ab :: ud :: .float .f32 w :: ud4 (.int .i64 (IntKind.wrap .i64 (i + 1)) :: ud53 [])) H2) (R (.exit 0) (ud62 []) H)) := by kernel_rfl
def f10z_I1 (sa : OA) (ab : Nat) (xa : Nat) (qb : OA) (xb : Nat) (ub : Nat) (w : Nat) (Inv : Nat → Int → AHeap → Prop) : Nat → List Value → AHeap → Prop := fun μ tm H => ∃ (i : Int), tm = (f10z_P1 sa ab xa qb xb ub w i) ∧ Inv μ i H
theorem f10z_L1 (sa : OA) (ab : Nat) (xa : Nat) (qb : OA) (xb : Nat) (ub : Nat) (w : Nat) {Q : Post} (Inv : Nat → Int → AHeap → Prop) (ν : Nat) (i : Int)  (H : AHeap) (h0 : Inv ν i H)
  (hs : ∀ (μ : Nat) (i : Int)  (H : AHeap), Inv μ i H → exL Try.prog E_f10z (cl (cl (cr (cl (cl (cr (cl (bodyC Try.f58)))))))) 267 0 [(0, 0)] (f10z_P1 sa ab xa qb xb ub w i) H (loopQ (f10z_I1 sa ab xa qb xb ub w Inv) μ Q)) : loopK (exL Try.prog E_f10z (cl (cl (cr (cl (cl (cr (cl (bodyC Try.f58)))))))) 267 0 [(0, 0)]) (f10z_P1 sa ab xa qb xb ub w i) H Q :=
 ⟨f10z_I1 sa ab xa qb xb ub w Inv, ν, ⟨i, rfl, h0⟩, fun μ tm H h => by obtain ⟨i, rfl, hI⟩ := h; exact hs μ i  H hI⟩
theorem f10z_n1 {sa : OA} {ab : Nat} {xa : Nat} {qb : OA} {xb : Nat} {ub : Nat} {w : Nat} {Q : Post} {Inv : Nat → Int → AHeap → Prop} {μ : Nat} (μ' : Nat) {i : Int}  {H : AHeap} (hm : μ' < μ) (hI : Inv μ' i H) : loopQ (f10z_I1 sa ab xa qb xb ub w Inv) μ Q .normal (f10z_P1 sa ab xa qb xb ub w i) H := ⟨μ', hm, i, rfl, hI⟩
theorem f10z_x1_0  (H : AHeap) (K : Value → AHeap → Prop)  {I : Nat → List Value → AHeap → Prop} {μ : Nat} : loopQ I μ (blockQ 0 (seqQ (exL Try.prog E_f10z (cr (cl (cr (cl (bodyC Try.f58))))) 11 0 []) (seqQ (exL Try.prog E_f10z (cr (bodyC Try.f58)) 0 0 []) (retK Try.prog Try.f58 K)))) (.exit 0) (ud62 []) H =
 (K (.tuple #[]) H) := by kernel_rfl
abbrev f10z_P2 (sa : OA) (ab : Nat) (xa : Nat) (qb : OA) (xb : Nat) (ub : Nat) (w : Nat) (i9 : Int)  : List Value := (.slice qb ub xb :: .slice sa xa ab :: ud :: .float .f32 w :: ud5 (.int .i64 i9 :: ud52 []))
theorem f10z_r2 (sa : OA) (ab : Nat) (xa : Nat) (qb : OA) (xb : Nat) (ub : Nat) (w : Nat) (i9 : Int)  (H : AHeap) (R : Post) : exL Try.prog E_f10z (cl (cl (cr (cr (bodyC Try.f58))))) 523 0 [(2, 0)] (f10z_P2 sa ab xa qb xb ub w i9) H R =
 (Br (decide ((i9 : Int) < (ub : Int))) ((0 : Int) ≤ i9 ∧ i9 < (ub : Int) ∧ ∃ b4 f4, (qb : OA) = some ⟨b4, f4, none⟩ ∧ ∃ x3 : Nat,  rdC H b4 (f4 + (i9 : Int).toNat * 1) = some (.float .f32 x3) ∧ T_fnz sa xa ab (IntKind.wrap .i64 (i9 - 1)) H fun (r2 : Nat) (H3 : AHeap) => T_fnz sa xa ab i9 H3 fun (r3 : Nat) (H4 : AHeap) => (0 : Int) ≤ i9 ∧ i9 < (ub : Int) ∧ ∃ b5 f5, (qb : OA) = some ⟨b5, f5, none⟩ ∧ isOwn H4 b5 ∧ (∃ l, rdN H4 b5 (f5 + (i9 : Int).toNat * 1) 1 = some l) ∧ Lt (setC H4 b5 (f5 + (i9 : Int).toNat * 1) (.float .f32 (fadd .f32 x3 (fmul .f32 w (fadd .f32 r2 r3))))) fun H5 => R .normal (.slice qb ub xb :: .slice sa xa ab :: ud :: .float .f32 w :: ud5 (.int .i64 (IntKind.wrap .i64 (i9 + 1)) :: ud52 [])) H5) (R (.exit 2) (ud62 []) H)) := by kernel_rfl
def f10z_I2 (sa : OA) (ab : Nat) (xa : Nat) (qb : OA) (xb : Nat) (ub : Nat) (w : Nat) (Inv : Nat → Int → AHeap → Prop) : Nat → List Value → AHeap → Prop := fun μ tm H => ∃ (i9 : Int), tm = (f10z_P2 sa ab xa qb xb ub w i9) ∧ Inv μ i9 H
theorem f10z_L2 (sa : OA) (ab : Nat) (xa : Nat) (qb : OA) (xb : Nat) (ub : Nat) (w : Nat) {Q : Post} (Inv : Nat → Int → AHeap → Prop) (ν : Nat) (i9 : Int)  (H : AHeap) (h0 : Inv ν i9 H)
  (hs : ∀ (μ : Nat) (i9 : Int)  (H : AHeap), Inv μ i9 H → exL Try.prog E_f10z (cl (cl (cr (cr (bodyC Try.f58))))) 523 0 [(2, 0)] (f10z_P2 sa ab xa qb xb ub w i9) H (loopQ (f10z_I2 sa ab xa qb xb ub w Inv) μ Q)) : loopK (exL Try.prog E_f10z (cl (cl (cr (cr (bodyC Try.f58))))) 523 0 [(2, 0)]) (f10z_P2 sa ab xa qb xb ub w i9) H Q :=
 ⟨f10z_I2 sa ab xa qb xb ub w Inv, ν, ⟨i9, rfl, h0⟩, fun μ tm H h => by obtain ⟨i9, rfl, hI⟩ := h; exact hs μ i9  H hI⟩
theorem f10z_n2 {sa : OA} {ab : Nat} {xa : Nat} {qb : OA} {xb : Nat} {ub : Nat} {w : Nat} {Q : Post} {Inv : Nat → Int → AHeap → Prop} {μ : Nat} (μ' : Nat) {i9 : Int}  {H : AHeap} (hm : μ' < μ) (hI : Inv μ' i9 H) : loopQ (f10z_I2 sa ab xa qb xb ub w Inv) μ Q .normal (f10z_P2 sa ab xa qb xb ub w i9) H := ⟨μ', hm, i9, rfl, hI⟩
theorem f10z_x2_2  (H : AHeap) (K : Value → AHeap → Prop)  {I : Nat → List Value → AHeap → Prop} {μ : Nat} : loopQ I μ (blockQ 2 (retK Try.prog Try.f58 K)) (.exit 2) (ud62 []) H =
 (K (.tuple #[]) H) := by kernel_rfl
theorem E_f10z_ok : ∀ g, FnOk Try.prog g (E_f10z g) := FnOk.envOf (by
 intro x hx
 simp only [List.mem_cons, List.not_mem_nil, or_false] at hx
 subst hx; exact fnz_ok)
theorem ω22 {P : Prop} (h : P := by first | omega | decide | (simp; done) | (simp; omega)) : P := h
theorem ω14 {P : Prop} (h : P := by first | assumption | omega | (simp; omega)) : P := h
theorem ω4 {P : Prop} (h : P := by first | omega | (simp only [List.length_set]; (first | omega | (simp only [List.length_set, List.length_replicate, List.length_append, List.length_cons, List.length_nil, List.length_take, List.length_drop, marks_length]; done) | (simp only [List.length_set, List.length_replicate, List.length_append, List.length_cons, List.length_nil, List.length_take, List.length_drop, marks_length]; omega)))) : P := h
theorem f10z_main (qb : OA) (ub : Nat) (xb : Nat) (sa : OA) (xa : Nat) (ab : Nat) (k : Int) (w : Nat) (H : AHeap) (K : Value → AHeap → Prop) (h : T_f10z qb ub xb sa xa ab k w H fun  (H' : AHeap) => K (.tuple #[]) H') : bodyL Try.prog E_f10z Try.f58 [.slice qb ub xb, .slice sa xa ab, .int .i64 k, .float .f32 w] H K := by
 rw [f10z_vc]
 obtain ⟨lo, lob, ec, vb, i_low, i_high, sp_m, bd_53, bd_54, pr0, pr1, hk⟩ := h
 have hk : (∀ H' : AHeap, Keep2 qb sa H H' → OwnS fF H' lo qb ub xb ((p_f10z ec vb k w).1) → OwnS fF H' lob sa xa ab ((p_f10z ec vb k w).2) → (fun  (H' : AHeap) => K (.tuple #[]) H')  H') := by rw [f10z_val ec vb k w]; exact hk
 obtain rfl := i_low.len
 obtain rfl := i_high.len
 have up_p := i_low.up
 have lo_p := i_low.lo
 have up_q := i_high.up
 have lo_q := i_high.lo
 have e : (p_f10z ec vb k w) = _ := rfl
 have e := e.trans (p_f10z_eq ec vb k w)
 have g0 := Keep2.refl qb sa H
 refine ⟨ω22, ?_⟩
 have z_1 := tmod_rng k 2
 have z_2 := tmod_nn k 2
 refine Br.intro (fun c_3 => ?_) (fun c_3 => ?_)
 ·have e := e.trans (cond_t c_3)
  have c_3' := ieq_t c_3
  refine f10z_L1 _ _ _ _ _ _ _ (fun (μ : Nat) (i : Int) (H_1 : AHeap) => ∃ (y1_1 : LN), OwnS fF H_1 lo qb ec.length xb ec ∧ OwnS fF H_1 lob sa vb.length ab y1_1 ∧ y1_1.length = (vb).length ∧ H.length ≤ H_1.length ∧ H.length ≤ H_1.length ∧ Keep2 qb sa H H_1 ∧ (0 : Int) ≤ i ∧ i ≤ (vb.length : Int) ∧ (vb.length : Int) - i ≤ (μ : Int) ∧ p_f10z ec vb k w = p_f10z_l1 ec vb k w (μ + 1) i y1_1) (Int.toNat ((vb.length : Int) - (0 : Int))) _ H ?_ ?_
  ·exact ⟨_, i_low, i_high, ω16, ω2, ω2, g0, ω6, ω6, ω2, e⟩
  ·intro μ i  H_1 hI
   obtain ⟨y1_1, r_4, r_5, y6, n7, n8, g_9, v_10, v_11, hμ, e⟩ := hI
   rw [f10z_r1]
   have e := e.trans (p_f10z_l1_s ec vb k w μ i y1_1)
   have l_12 := g_9.1
   refine Br.intro (fun c_13 => ?_) (fun c_13 => ?_)
   ·have e := e.trans (cond_t c_13)
    have c_13' := of_decide_eq_true c_13
    obtain ⟨b14, f_15, q16⟩ := (r_5.isL).pos ω0
    refine ⟨by omega, by omega, b14, f_15, q16, ?_⟩
    refine ⟨((y1_1).getD (i : Int).toNat 0), (r_5.isL).rd (Grow.refl _) q16 ω2 _, ?_⟩
    obtain ⟨b17, f_18, q19⟩ := (r_4.isL).pos ω0
    refine ⟨by omega, by omega, b17, f_18, q19, ?_⟩
    refine ⟨((ec).getD (i : Int).toNat 0), (r_4.isL).rd (Grow.refl _) q19 ω2 _, ?_⟩
    rw [show IntKind.wrap .i64 (i + 1) = (i + 1) from wrap64 ω2 ω2]
    refine T_fnz_i ⟨_, r_4.isL, ω0, ω14, ?_⟩
    obtain ⟨b20, f_21, q22⟩ := (r_5.isL).pos ω0
    refine ⟨by omega, by omega, b20, f_21, q22, ?_⟩
    refine Lt.setS r_5 q22 ω4 (fun H_2 hl_23 o25 k24 => ?_)
    have l26 := k24.1
    have g27 := g_9.transB k24
    have l28 := g27.1
    have r_29 := r_4.keepA (sp_m).symm k24
    refine f10z_n1 (μ - 1) ω15 ⟨_, r_29, o25, ω17, ω2, ω2, ω2, ω1, ω1, ω15, ω13⟩
   ·have e := e.trans (cond_f c_13)
    have c_13' := of_decide_eq_false c_13
    rw [f10z_x1_0]
    rw [e] at hk
    exact hk H_1 g_9 r_4 r_5
 ·have e := e.trans (cond_f c_3)
  have c_3' := ieq_f c_3
  refine f10z_L2 _ _ _ _ _ _ _ (fun (μ : Nat) (i9 : Int) (H_3 : AHeap) => ∃ (y2_1 : LN), OwnS fF H_3 lo qb ec.length xb y2_1 ∧ y2_1.length = (ec).length ∧ OwnS fF H_3 lob sa vb.length ab vb ∧ H.length ≤ H_3.length ∧ H.length ≤ H_3.length ∧ Keep2 qb sa H H_3 ∧ (0 : Int) ≤ i9 ∧ i9 ≤ (ec.length : Int) ∧ (ec.length : Int) - i9 ≤ (μ : Int) ∧ p_f10z ec vb k w = p_f10z_l2 ec vb k w (μ + 1) i9 y2_1) (Int.toNat ((ec.length : Int) - (0 : Int))) _ H ?_ ?_
  ·exact ⟨_, i_low, ω16, i_high, ω2, ω2, g0, ω6, ω6, ω2, e⟩
  ·intro μ i9  H_3 hI
   obtain ⟨y2_1, r_30, y31, r_32, n33, n34, g35, v_36, v_37, hμ, e⟩ := hI
   rw [f10z_r2]
   have e := e.trans (p_f10z_l2_s ec vb k w μ i9 y2_1)
   have l38 := g35.1
   refine Br.intro (fun c_39 => ?_) (fun c_39 => ?_)
   ·have e := e.trans (cond_t c_39)
    have c_39' := of_decide_eq_true c_39
    obtain ⟨b40, f_41, q42⟩ := (r_30.isL).pos ω0
    refine ⟨by omega, by omega, b40, f_41, q42, ?_⟩
    refine ⟨((y2_1).getD (i9 : Int).toNat 0), (r_30.isL).rd (Grow.refl _) q42 ω2 _, ?_⟩
    rw [show IntKind.wrap .i64 (i9 - 1) = (i9 - 1) from wrap64 ω2 ω2]
    refine T_fnz_i ⟨_, r_32.isL, ω0, ω14, ?_⟩
    refine T_fnz_i ⟨_, r_32.isL, ω0, ω14, ?_⟩
    obtain ⟨b43, f44, q45⟩ := (r_30.isL).pos ω0
    refine ⟨by omega, by omega, b43, f44, q45, ?_⟩
    refine Lt.setS r_30 q45 ω4 (fun H_4 hl_46 o48 k47 => ?_)
    have l49 := k47.1
    have g50 := g35.transA k47
    have l51 := g50.1
    have r_52 := r_32.keepA (sp_m) k47
    rw [show IntKind.wrap .i64 (i9 + 1) = (i9 + 1) from wrap64 ω2 ω2]
    refine f10z_n2 (μ - 1) ω15 ⟨_, o48, ω17, r_52, ω2, ω2, ω2, ω1, ω1, ω15, ω13⟩
   ·have e := e.trans (cond_f c_39)
    have c_39' := of_decide_eq_false c_39
    rw [f10z_x2_2]
    rw [e] at hk
    exact hk H_3 g35 r_30 r_32
theorem f10z_ok : FnOk Try.prog 58 S_f10z := by
 refine FnOk.body mix_ok E_f10z_ok Try.func58 rfl ω9 ω9 ?_ ?_ ?_ ?_ ?_
 ·intro args H K K' h hk
  simp only [S_f10z] at *
  unfold F_f10z at *
  split at hk
  ·obtain ⟨lo, lob, ec, vb, i_low, i_high, sp_m, bd_53, bd_54, pr0, pr1, k⟩ := hk
   exact ⟨lo, lob, ec, vb, i_low, i_high, sp_m, bd_53, bd_54, pr0, pr1, (fun H' gg ow ow2 => h _ _ (k H' gg ow ow2))⟩
  ·exact hk.elim
 ·intro hq; cases hq
 ·intro args H K hk
  simp only [S_f10z] at *
  unfold F_f10z at *
  split at hk
  ·obtain ⟨lo, lob, ec, vb, i_low, i_high, sp_m, bd_53, bd_54, pr0, pr1, k⟩ := hk
   exact (i_low.put2 i_high sp_m _ _ (by rw [wLowS_length]) (by rw [wHighS_length])).elim fun H1 h => ⟨_, _, k H1 h.1 h.2.1 h.2.2⟩
  ·exact hk.elim
 ·intro hq; cases hq
 ·have mm := @f10z_main
  have ml := fun (args : List Value) (H : AHeap) (K : Value → AHeap → Prop) => bodyL_body (P := Try.prog) (env := E_f10z ) (fn := Try.f58) (args := args) (H := H) (K := K) E_f10z_ok 
  revert mm ml
  generalize bodyK Try.prog E_f10z Try.f58 = Q
  generalize bodyL Try.prog E_f10z Try.f58 = QL
  intro mm ml args H K hk
  simp only [S_f10z] at *
  unfold F_f10z at *
  split at hk
  ·exact ml _ H K (mm _ _ _ _ _ _ _ _ H K hk)
  ·exact hk.elim
def evs (l : LN) : LN := l.zipIdx.filterMap fun p => if p.2 % 2 = 0 then some p.1 else none
def ods (l : LN) : LN := l.zipIdx.filterMap fun p => if p.2 % 2 = 0 then none else some p.1
theorem evs_snoc (l : LN) (x : Nat) : evs (l ++ [x]) = if l.length % 2 = 0 then evs l ++ [x] else evs l := by
 unfold evs
 rw [List.zipIdx_append, List.filterMap_append]
 by_cases h : l.length % 2 = 0 <;> simp [h]
theorem ods_snoc (l : LN) (x : Nat) : ods (l ++ [x]) = if l.length % 2 = 0 then ods l else ods l ++ [x] := by
 unfold ods
 rw [List.zipIdx_append, List.filterMap_append]
 by_cases h : l.length % 2 = 0 <;> simp [h]
theorem take_snoc (l : LN) (i : Nat) (h : i < l.length) : l.take (i + 1) = l.take i ++ [l.getD i 0] := by
 rw [List.take_add_one]; simp [List.getD_eq_getElem?_getD, h]
theorem split_lens (l : LN) : ∀ k, k ≤ l.length → (evs (l.take k)).length = (k + 1) / 2 ∧ (ods (l.take k)).length = k / 2 := by
 intro k
 induction k with
 | zero => intro _; simp [evs, ods]
 | succ k ih =>
  intro h
  obtain ⟨h1, h2⟩ := ih ω2
  have hl : (l.take k).length = k := by simp; omega
  rw [take_snoc l k ω2, evs_snoc, ods_snoc, hl]
  by_cases hk : k % 2 = 0
  ·rw [if_pos hk, if_pos hk, List.length_append, h1, h2]; simp; omega
  ·rw [if_neg hk, if_neg hk, List.length_append, h1, h2]; simp; omega
theorem evs_length (l : LN) : (evs l).length = (l.length + 1) / 2 := by have := (split_lens l l.length (Nat.le_refl _)).1; rwa [List.take_of_length_le (Nat.le_refl _)] at this
theorem ods_length (l : LN) : (ods l).length = l.length / 2 := by have := (split_lens l l.length (Nat.le_refl _)).2; rwa [List.take_of_length_le (Nat.le_refl _)] at this
theorem split_len (l : LN) : (evs l).length = (l.length + 1) / 2 ∧ (ods l).length = l.length / 2 := ⟨evs_length l, ods_length l⟩
theorem tm2t {i : Int} (h : (Int.tmod i 2 == 0) = true) (h0 : 0 ≤ i) : i % 2 = 0 := by
 have h1 : Int.tmod i 2 = 0 := by simpa using h
 rw [Int.tmod_eq_emod_of_nonneg h0] at h1
 exact h1
theorem tm2f {i : Int} (h : (Int.tmod i 2 == 0) = false) (h0 : 0 ≤ i) : i % 2 = 1 := by
 have h1 : ¬ Int.tmod i 2 = 0 := by simpa using h
 rw [Int.tmod_eq_emod_of_nonneg h0] at h1
 omega
def p_fcz_l4 (ba : LN) (sp_Scale : Nat) (da : LN) (ec : LN) (vb : LN) (i : Int) (k : Int) (y2_1 : LN) (y2_2 : LN) (jd : Int) (y3_1 : LN) (y3_2 : LN) (k4_6 : Int → LN → (LN × LN × Bool)) : Nat → Int → LN → LN × LN × Bool
 | 0, _, _ => ([], [], false)
 | μ4 + 1, pd, y4_1 => (bif decide ((pd : Int) < (vb.length : Int)) then (p_fcz_l4 ba sp_Scale da ec vb i k y2_1 y2_2 jd y3_1 y3_2 k4_6 μ4 (pd + 1) (((y4_1).set (pd : Int).toNat ((fdiv .f32 (((y4_1).getD (pd : Int).toNat 0)) sp_Scale))))) else (k4_6 pd y4_1))
def p_fcz_l4_s := fun ba sp_Scale da ec vb i k y2_1 y2_2 jd y3_1 y3_2 k4_6 μ4 pd y4_1 => @p_fcz_l4.eq_2 ba sp_Scale da ec vb i k y2_1 y2_2 jd y3_1 y3_2 k4_6 pd y4_1 μ4
def p_fcz_l3 (ba : LN) (sp_Scale : Nat) (da : LN) (ec : LN) (vb : LN) (i : Int) (k : Int) (y2_1 : LN) (y2_2 : LN) (k3_4 : Int → LN → LN → (LN × LN × Bool)) : Nat → Int → LN → LN → LN × LN × Bool
 | 0, _, _, _ => ([], [], false)
 | μ3 + 1, jd, y3_1, y3_2 => (bif decide ((jd : Int) < (ec.length : Int)) then (p_fcz_l3 ba sp_Scale da ec vb i k y2_1 y2_2 k3_4 μ3 (jd + 1) (((y3_1).set (jd : Int).toNat ((fmul .f32 (((y3_1).getD (jd : Int).toNat 0)) sp_Scale)))) y3_2) else (k3_4 jd y3_1 y3_2))
def p_fcz_l3_s := fun ba sp_Scale da ec vb i k y2_1 y2_2 k3_4 μ3 jd y3_1 y3_2 => @p_fcz_l3.eq_2 ba sp_Scale da ec vb i k y2_1 y2_2 k3_4 jd y3_1 y3_2 μ3
def p_fcz_l2 (ba : LN) (sp_Scale : Nat) (da : LN) (ec : LN) (vb : LN) (i : Int) (k2_2 : Int → LN → LN → (LN × LN × Bool)) : Nat → Int → LN → LN → LN × LN × Bool
 | 0, _, _, _ => ([], [], false)
 | μ2 + 1, k, y2_1, y2_2 => (bif decide ((k : Int) < (ba.length : Int)) then (p_fcz_l2 ba sp_Scale da ec vb i k2_2 μ2 (k + 1) ((wLowS k (((ba).getD (k : Int).toNat 0)) y2_1 y2_2)) ((wHighS k (((ba).getD (k : Int).toNat 0)) y2_1 y2_2))) else (k2_2 k y2_1 y2_2))
def p_fcz_l2_s := fun ba sp_Scale da ec vb i k2_2 μ2 k y2_1 y2_2 => @p_fcz_l2.eq_2 ba sp_Scale da ec vb i k2_2 k y2_1 y2_2 μ2
def p_fcz_l1 (ba : LN) (sp_Scale : Nat) (da : LN) : Nat → LN → LN → Int → LN × LN × Bool
 | 0, _, _, _ => ([], [], false)
 | μ + 1, ec, vb, i => (bif decide ((i : Int) < (da.length : Int)) then (bif (Int.tmod i 2 : Int) == 0 then (p_fcz_l1 ba sp_Scale da μ ((ec ++ [(((da).getD (i : Int).toNat 0))])) vb (i + 1)) else (p_fcz_l1 ba sp_Scale da μ ec ((vb ++ [(((da).getD (i : Int).toNat 0))])) (i + 1))) else (bif ((vb.length : Int) : Int) == 0 then (ec, vb, true) else (p_fcz_l2 ba sp_Scale da ec vb i (fun (k : Int) (y2_1 : LN) (y2_2 : LN) => (p_fcz_l3 ba sp_Scale da ec vb i k y2_1 y2_2 (fun (jd : Int) (y3_1 : LN) (y3_2 : LN) => (p_fcz_l4 ba sp_Scale da ec vb i k y2_1 y2_2 jd y3_1 y3_2 (fun (pd : Int) (y4_1 : LN) => (bif (p_foz y3_1) then (y3_1, y4_1, (p_foz y4_1)) else (y3_1, y4_1, false))) (Int.toNat ((vb.length : Int) - (0 : Int)) + 1) (0 : Int) y3_2)) (Int.toNat ((ec.length : Int) - (0 : Int)) + 1) (0 : Int) y2_1 y2_2)) (Int.toNat ((ba.length : Int) - (0 : Int)) + 1) (0 : Int) ec vb)))
def p_fcz_l1_s := fun ba sp_Scale da μ ec vb i => @p_fcz_l1.eq_2 ba sp_Scale da ec vb i μ
def p_fcz (ba : LN) (sp_Scale : Nat) (da : LN) : LN × LN × Bool := (p_fcz_l1 ba sp_Scale da (Int.toNat ((da.length : Int) - (0 : Int)) + 1) ([] : LN) ([] : LN) (0 : Int))
def p_fcz_eq := @p_fcz.eq_1
def T_fcz (s : Nat) (ib : OA) (ua : Nat) (sb : Nat) (H : AHeap) (K : OA → Nat → Nat → OA → Nat → Nat → Bool → AHeap → Prop) : Prop := ∃ (bb : OA), ∃ (mb : Nat), ∃ (pb : Nat), ∃ (sp_Scale : Nat), ∃ (ba : LN), ∃ (da : LN), rdN H s 0 2 = some [.slice bb mb pb, .float .f32 sp_Scale] ∧ IsL fF H bb mb ba ∧ IsL fF H ib ua da ∧ ba.length < 1073741824 ∧ da.length < 1073741824 ∧ ((∀ (qc : OA) (uc tc : Nat), ∀ (zd : OA) (ie fe : Nat), ∀ H' : AHeap, Grow H H' → OwnS fF H' H.length qc uc tc ((p_fcz ba sp_Scale da).1) → OwnS fF H' H.length zd ie fe ((p_fcz ba sp_Scale da).2.1) → SepA qc zd → K qc uc tc zd ie fe ((p_fcz ba sp_Scale da).2.2) H'))
theorem T_fcz_i {s : Nat} {ib : OA} {ua : Nat} {sb : Nat} {H : AHeap} {K : OA → Nat → Nat → OA → Nat → Nat → Bool → AHeap → Prop} (h : ∃ (bb : OA), ∃ (mb : Nat), ∃ (pb : Nat), ∃ (sp_Scale : Nat), ∃ (ba : LN), ∃ (da : LN), rdN H s 0 2 = some [.slice bb mb pb, .float .f32 sp_Scale] ∧ IsL fF H bb mb ba ∧ IsL fF H ib ua da ∧ ba.length < 1073741824 ∧ da.length < 1073741824 ∧ ((∀ (qc : OA) (uc tc : Nat), ∀ (zd : OA) (ie fe : Nat), ∀ H' : AHeap, Grow H H' → OwnS fF H' H.length qc uc tc ((p_fcz ba sp_Scale da).1) → OwnS fF H' H.length zd ie fe ((p_fcz ba sp_Scale da).2.1) → SepA qc zd → K qc uc tc zd ie fe ((p_fcz ba sp_Scale da).2.2) H'))) : T_fcz s ib ua sb H K := h
def wfS : LN → Int → LN → LN → LN × LN
 | [], _, lo, hi => (lo, hi)
 | w :: ws, k, lo, hi => wfS ws (k + 1) (wLowS k w lo hi) (wHighS k w lo hi)
theorem wfS_length : ∀ (ws : LN) (k : Int) (lo hi : LN), (wfS ws k lo hi).1.length = lo.length ∧ (wfS ws k lo hi).2.length = hi.length := by
 intro ws
 induction ws with
 | nil => intro k lo hi; exact ⟨rfl, rfl⟩
 | cons w ws ih =>
  intro k lo hi
  obtain ⟨h1, h2⟩ := ih (k + 1) (wLowS k w lo hi) (wHighS k w lo hi)
  exact ⟨h1.trans (wLowS_length _ _ _ _), h2.trans (wHighS_length _ _ _ _)⟩
theorem spec_LO_l2 (ws : LN) (sc : Nat) (l low high : LN) (i : Int) (K2 : Int → LN → LN → LN × LN × Bool) : ∀ (μ k : Nat) (y1 y2 : LN), k ≤ ws.length → ws.length - k < μ →
  p_fcz_l2 ws sc l low high i K2 μ (k : Int) y1 y2 = K2 (ws.length : Int) (wfS (ws.drop k) (k : Int) y1 y2).1 (wfS (ws.drop k) (k : Int) y1 y2).2 := by
 intro μ
 induction μ with
 | zero => intro k y1 y2 _ h; omega
 | succ μ ih =>
  intro k y1 y2 hk hm
  rw [p_fcz_l2_s]
  by_cases h : k < ws.length
  ·rw [decide_eq_true (show (k : Int) < (ws.length : Int) by omega), cond_true, Int.toNat_natCast]
   have := ih (k + 1) (wLowS k (ws.getD k 0) y1 y2) (wHighS k (ws.getD k 0) y1 y2) ω2 ω2
   have e : ws.getD k 0 = ws[k] := by simp [List.getD_eq_getElem?_getD, h]
   rw [List.drop_eq_getElem_cons h, wfS]
   rw [e] at this ⊢
   exact this
  ·have e : k = ws.length := by omega
   rw [decide_eq_false (show ¬ (k : Int) < (ws.length : Int) by omega), cond_false, e, List.drop_length, wfS]
theorem spec_LO_l3 (ws : LN) (sc : Nat) (l low high : LN) (i k : Int) (a b : LN) (K3 : Int → LN → LN → LN × LN × Bool) (A : LN) (hA : A.length = low.length) (y2 : LN) : ∀ (μ j : Nat), j ≤ low.length → low.length - j < μ →
  p_fcz_l3 ws sc l low high i k a b K3 μ (j : Int) ((A.map fun x => fmul .f32 x sc).take j ++ A.drop j) y2 = K3 (low.length : Int) (A.map fun x => fmul .f32 x sc) y2 := by
 intro μ
 induction μ with
 | zero => intro k _ h; omega
 | succ μ ih =>
  intro j hj hm
  rw [p_fcz_l3_s]
  by_cases h : j < low.length
  ·rw [decide_eq_true (show (j : Int) < (low.length : Int) by omega), cond_true, Int.toNat_natCast, front_get _ _ _ ω2 (by simp)]
   have := ih (j + 1) ω2 ω2
   rw [set_front (A.map fun x => fmul .f32 x sc) A j ω2 (by simp) _ (by simp [List.getD_eq_getElem?_getD, show j < A.length by omega])]
   exact this
  ·have e : j = low.length := by omega
   rw [decide_eq_false (show ¬ (j : Int) < (low.length : Int) by omega), cond_false, e, List.take_of_length_le (by simp [hA]), List.drop_of_length_le ω2, List.append_nil]
theorem spec_LO_l4 (ws : LN) (sc : Nat) (l low high : LN) (i k : Int) (a b : LN) (i2 : Int) (c d : LN) (K4 : Int → LN → LN × LN × Bool) (A : LN) (hA : A.length = high.length) : ∀ (μ j : Nat), j ≤ high.length → high.length - j < μ →
  p_fcz_l4 ws sc l low high i k a b i2 c d K4 μ (j : Int) ((A.map fun x => fdiv .f32 x sc).take j ++ A.drop j) = K4 (high.length : Int) (A.map fun x => fdiv .f32 x sc) := by
 intro μ
 induction μ with
 | zero => intro k _ h; omega
 | succ μ ih =>
  intro j hj hm
  rw [p_fcz_l4_s]
  by_cases h : j < high.length
  ·rw [decide_eq_true (show (j : Int) < (high.length : Int) by omega), cond_true, Int.toNat_natCast, front_get _ _ _ ω2 (by simp)]
   have := ih (j + 1) ω2 ω2
   rw [set_front (A.map fun x => fdiv .f32 x sc) A j ω2 (by simp) _ (by simp [List.getD_eq_getElem?_getD, show j < A.length by omega])]
   exact this
  ·have e : j = high.length := by omega
   rw [decide_eq_false (show ¬ (j : Int) < (high.length : Int) by omega), cond_false, e, List.take_of_length_le (by simp [hA]), List.drop_of_length_le ω2, List.append_nil]
def liftE (ws : LN) (sc : Nat) (l : LN) : LN := (wfS ws 0 (evs l) (ods l)).1.map fun x => fmul .f32 x sc
def liftO (ws : LN) (sc : Nat) (l : LN) : LN := (wfS ws 0 (evs l) (ods l)).2.map fun x => fdiv .f32 x sc
def liftV (ws : LN) (sc : Nat) (l : LN) : LN × LN × Bool :=
 bif (((ods l).length : Int) == 0) then (evs l, ods l, true) else (liftE ws sc l, liftO ws sc l, p_foz (liftE ws sc l) && p_foz (liftO ws sc l))
theorem spec_LO_go (ws : LN) (sc : Nat) (l : LN) : ∀ (μ i : Nat), i ≤ l.length → l.length - i < μ → p_fcz_l1 ws sc l μ (evs (l.take i)) (ods (l.take i)) (i : Int) = liftV ws sc l := by
 intro μ
 induction μ with
 | zero => intro i _ h; omega
 | succ μ ih =>
  intro i hi hm
  rw [p_fcz_l1_s]
  by_cases h : i < l.length
  ·rw [decide_eq_true (show (i : Int) < (l.length : Int) by omega), cond_true, Int.toNat_natCast]
   have := ih (i + 1) ω2 ω2
   have hl : (l.take i).length = i := by simp; omega
   rw [take_snoc l i h, evs_snoc, ods_snoc, hl] at this
   have ht : (Int.tmod (i : Int) 2 == 0) = decide (i % 2 = 0) := by
    have : Int.tmod (i : Int) 2 = ((i % 2 : Nat) : Int) := by rw [Int.tmod_eq_emod_of_nonneg ω2]; omega
    rw [this]
    by_cases hk : i % 2 = 0
    ·simp [hk]
    ·have : i % 2 = 1 := by omega
     simp [this]
   rw [ht]
   by_cases hk : i % 2 = 0
   ·rw [if_pos hk, if_pos hk] at this
    rw [decide_eq_true hk, cond_true]; exact this
   ·rw [if_neg hk, if_neg hk] at this
    rw [decide_eq_false hk, cond_false]; exact this
  ·have e : i = l.length := by omega
   rw [decide_eq_false (show ¬ (i : Int) < (l.length : Int) by omega), cond_false, e, List.take_of_length_le (Nat.le_refl _)]
   unfold liftV
   cases hz : (((ods l).length : Int) == 0)
   ·rw [cond_false, cond_false]
    have h2 := spec_LO_l2 ws sc l (evs l) (ods l) (l.length : Int) (fun (k : Int) (y2_1 : LN) (y2_2 : LN) => (p_fcz_l3 ws sc l (evs l) (ods l) (l.length : Int) k y2_1 y2_2 (fun (jd : Int) (y3_1 : LN) (y3_2 : LN) => (p_fcz_l4 ws sc l (evs l) (ods l) (l.length : Int) k y2_1 y2_2 jd y3_1 y3_2 (fun (pd : Int) (y4_1 : LN) => (bif (p_foz y3_1) then (y3_1, y4_1, (p_foz y4_1)) else (y3_1, y4_1, false))) (Int.toNat (((ods l).length : Int) - (0 : Int)) + 1) (0 : Int) y3_2)) (Int.toNat (((evs l).length : Int) - (0 : Int)) + 1) (0 : Int) y2_1 y2_2))
     (Int.toNat ((ws.length : Int) - (0 : Int)) + 1) 0 (evs l) (ods l) ω2 ω2
    refine Eq.trans h2 ?_
    obtain ⟨l1, l2⟩ := wfS_length ws 0 (evs l) (ods l)
    rw [List.drop_zero]
    have h3 := fun K3 => spec_LO_l3 ws sc l (evs l) (ods l) (l.length : Int) (ws.length : Int) (wfS ws ((0 : Nat) : Int) (evs l) (ods l)).1 (wfS ws ((0 : Nat) : Int) (evs l) (ods l)).2 K3 (wfS ws ((0 : Nat) : Int) (evs l) (ods l)).1 l1 (wfS ws ((0 : Nat) : Int) (evs l) (ods l)).2 (Int.toNat (((evs l).length : Int) - (0 : Int)) + 1) 0 ω2 ω2
    simp only [List.take_zero, List.drop_zero, List.nil_append] at h3
    refine Eq.trans (h3 _) ?_
    have h4 := fun K4 => spec_LO_l4 ws sc l (evs l) (ods l) (l.length : Int) (ws.length : Int) (wfS ws ((0 : Nat) : Int) (evs l) (ods l)).1 (wfS ws ((0 : Nat) : Int) (evs l) (ods l)).2 ((evs l).length : Int) ((wfS ws ((0 : Nat) : Int) (evs l) (ods l)).1.map fun x => fmul .f32 x sc) (wfS ws ((0 : Nat) : Int) (evs l) (ods l)).2 K4 (wfS ws ((0 : Nat) : Int) (evs l) (ods l)).2 l2 (Int.toNat (((ods l).length : Int) - (0 : Int)) + 1) 0 ω2 ω2
    simp only [List.take_zero, List.drop_zero, List.nil_append] at h4
    refine Eq.trans (h4 _) ?_
    unfold liftE liftO
    cases p_foz ((wfS ws ((0 : Nat) : Int) (evs l) (ods l)).1.map fun x => fmul .f32 x sc) <;> rfl
   ·rw [cond_true, cond_true]
theorem spec_LiftOnce_val (ws : LN) (sc : Nat) (l : LN) : p_fcz ws sc l = liftV ws sc l := by
 rw [p_fcz_eq]
 have := spec_LO_go ws sc l (Int.toNat ((l.length : Int) - 0) + 1) 0 ω2 ω2
 simpa [evs, ods] using this
theorem spec_LO_len (ws : LN) (sc : Nat) (l : LN) : (p_fcz ws sc l).1.length = (l.length + 1) / 2 ∧ (p_fcz ws sc l).2.1.length = l.length / 2 := by
 rw [spec_LiftOnce_val]
 unfold liftV liftE liftO
 obtain ⟨h1, h2⟩ := wfS_length ws 0 (evs l) (ods l)
 cases (((ods l).length : Int) == 0) <;> simp [h1, h2, evs_length, ods_length]
/-! fcz: function 41 -/
def E_fcz : Env := envOf [(58, S_f10z), (55, S_foz)]
def F_fcz : List Value → AHeap → (Value → AHeap → Prop) → Prop
 | [.pointer (some ⟨s, 0, none⟩), .slice ib ua sb], H, K => T_fcz s ib ua sb H fun (qc : OA) (uc : Nat) (tc : Nat) (zd : OA) (ie : Nat) (fe : Nat) (r3 : Bool) (H' : AHeap) => K (.tuple #[.slice qc uc tc, .slice zd ie fe, .bool r3]) H'
 | _, _, _ => False
def S_fcz : FSpec := { F := F_fcz, quiet := false, tame := true }
theorem fcz_vc (s : Nat) (ib : OA) (ua : Nat) (sb : Nat) (H : AHeap) (K : Value → AHeap → Prop) : bodyL Try.prog E_fcz Try.f41 [.pointer (some ⟨s, 0, none⟩), .slice ib ua sb] H K =
 (Al [] H fun b1 H1 => Al [] H1 fun b2 H2 => loopK (exL Try.prog E_fcz (cl (cl (cr (cl (cr (cr (cr (bodyC Try.f41)))))))) 899 112 [(0, 385)]) (.pointer (some ⟨s, 0, none⟩) :: .slice ib ua sb :: ud5 (.slice (some ⟨b1, 0, none⟩) 0 1 :: .slice (some ⟨b2, 0, none⟩) 0 1 :: .int .i64 0 :: ud97 [])) H2 (blockQ 0 (seqQ (exL Try.prog E_fcz (cr (cr (cr (cr (bodyC Try.f41))))) 112 112 []) (retK Try.prog Try.f41 K)))) := by kernel_rfl
abbrev fcz_P1 (ib : OA) (sb : Nat) (ua : Nat) (s : Nat) (qb : OA) (ub : Nat) (xb : Nat) (sa : OA) (xa : Nat) (ab : Nat) (i : Int)  : List Value := (.pointer (some ⟨s, 0, none⟩) :: .slice ib ua sb :: ud5 (.slice qb ub xb :: .slice sa xa ab :: .int .i64 i :: ud97 []))
theorem fcz_r1 (ib : OA) (sb : Nat) (ua : Nat) (s : Nat) (qb : OA) (ub : Nat) (xb : Nat) (sa : OA) (xa : Nat) (ab : Nat) (i : Int)  (H : AHeap) (R : Post) : exL Try.prog E_fcz (cl (cl (cr (cl (cr (cr (cr (bodyC Try.f41)))))))) 899 112 [(0, 385)] (fcz_P1 ib sb ua s qb ub xb sa xa ab i) H R =
 (Br (decide ((i : Int) < (ua : Int))) (2 ≠ (0 : Int) ∧ Br ((Int.tmod i 2 : Int) == 0) ((0 : Int) ≤ i ∧ i < (ua : Int) ∧ ∃ b3 f1, (ib : OA) = some ⟨b3, f1, none⟩ ∧ ∃ x1 : Nat,  rdC H b3 (f1 + (i : Int).toNat * 1) = some (.float .f32 x1) ∧ Al [.float .f32 x1] H fun b4 H3 => ∃ o1 w1 : List Value, ownB H3 qb ub xb 1 = some o1 ∧ rdS H3 (some ⟨b4, 0, none⟩) (1 * 1) = some w1 ∧ ((qb : OA) = none → 0 < (1 : Nat)) ∧ (ub : Nat) + 1 < most ∧ Ap H3 (killB H3 qb ++ [some ⟨o1 ++ w1, true⟩]) fun b5 H4 => R .normal (.pointer (some ⟨s, 0, none⟩) :: .slice ib ua sb :: ud5 (.slice (some ⟨b5, 0, none⟩) (ub + 1) 1 :: .slice sa xa ab :: .int .i64 (IntKind.wrap .i64 (i + 1)) :: ud97 [])) H4) ((0 : Int) ≤ i ∧ i < (ua : Int) ∧ ∃ b6 f2, (ib : OA) = some ⟨b6, f2, none⟩ ∧ ∃ x2 : Nat,  rdC H b6 (f2 + (i : Int).toNat * 1) = some (.float .f32 x2) ∧ Al [.float .f32 x2] H fun b7 H5 => ∃ o2 w2 : List Value, ownB H5 sa xa ab 1 = some o2 ∧ rdS H5 (some ⟨b7, 0, none⟩) (1 * 1) = some w2 ∧ ((sa : OA) = none → 0 < (1 : Nat)) ∧ (xa : Nat) + 1 < most ∧ Ap H5 (killB H5 sa ++ [some ⟨o2 ++ w2, true⟩]) fun b8 H6 => R .normal (.pointer (some ⟨s, 0, none⟩) :: .slice ib ua sb :: ud5 (.slice qb ub xb :: .slice (some ⟨b8, 0, none⟩) (xa + 1) 1 :: .int .i64 (IntKind.wrap .i64 (i + 1)) :: ud97 [])) H6)) (R (.exit 0) (.pointer (some ⟨s, 0, none⟩) :: ud6 (.slice qb ub xb :: .slice sa xa ab :: ud98 [])) H)) := by kernel_rfl
def fcz_I1 (ib : OA) (sb : Nat) (ua : Nat) (s : Nat) (Inv : Nat → OA → Nat → Nat → OA → Nat → Nat → Int → AHeap → Prop) : Nat → List Value → AHeap → Prop := fun μ tm H => ∃ (qb : OA), ∃ (ub : Nat), ∃ (xb : Nat), ∃ (sa : OA), ∃ (xa : Nat), ∃ (ab : Nat), ∃ (i : Int), tm = (fcz_P1 ib sb ua s qb ub xb sa xa ab i) ∧ Inv μ qb ub xb sa xa ab i H
theorem fcz_L1 (ib : OA) (sb : Nat) (ua : Nat) (s : Nat) {Q : Post} (Inv : Nat → OA → Nat → Nat → OA → Nat → Nat → Int → AHeap → Prop) (ν : Nat) (qb : OA) (ub : Nat) (xb : Nat) (sa : OA) (xa : Nat) (ab : Nat) (i : Int)  (H : AHeap) (h0 : Inv ν qb ub xb sa xa ab i H)
  (hs : ∀ (μ : Nat) (qb : OA) (ub : Nat) (xb : Nat) (sa : OA) (xa : Nat) (ab : Nat) (i : Int)  (H : AHeap), Inv μ qb ub xb sa xa ab i H → exL Try.prog E_fcz (cl (cl (cr (cl (cr (cr (cr (bodyC Try.f41)))))))) 899 112 [(0, 385)] (fcz_P1 ib sb ua s qb ub xb sa xa ab i) H (loopQ (fcz_I1 ib sb ua s Inv) μ Q)) : loopK (exL Try.prog E_fcz (cl (cl (cr (cl (cr (cr (cr (bodyC Try.f41)))))))) 899 112 [(0, 385)]) (fcz_P1 ib sb ua s qb ub xb sa xa ab i) H Q :=
 ⟨fcz_I1 ib sb ua s Inv, ν, ⟨qb, ub, xb, sa, xa, ab, i, rfl, h0⟩, fun μ tm H h => by obtain ⟨qb, ub, xb, sa, xa, ab, i, rfl, hI⟩ := h; exact hs μ qb ub xb sa xa ab i  H hI⟩
theorem fcz_n1 {ib : OA} {sb : Nat} {ua : Nat} {s : Nat} {Q : Post} {Inv : Nat → OA → Nat → Nat → OA → Nat → Nat → Int → AHeap → Prop} {μ : Nat} (μ' : Nat) {qb : OA} {ub : Nat} {xb : Nat} {sa : OA} {xa : Nat} {ab : Nat} {i : Int}  {H : AHeap} (hm : μ' < μ) (hI : Inv μ' qb ub xb sa xa ab i H) : loopQ (fcz_I1 ib sb ua s Inv) μ Q .normal (fcz_P1 ib sb ua s qb ub xb sa xa ab i) H := ⟨μ', hm, qb, ub, xb, sa, xa, ab, i, rfl, hI⟩
theorem fcz_x1_0 (s : Nat) (qb : OA) (ub : Nat) (xb : Nat) (sa : OA) (xa : Nat) (ab : Nat) (H : AHeap) (K : Value → AHeap → Prop)  {I : Nat → List Value → AHeap → Prop} {μ : Nat} : loopQ I μ (blockQ 0 (seqQ (exL Try.prog E_fcz (cr (cr (cr (cr (bodyC Try.f41))))) 112 112 []) (retK Try.prog Try.f41 K))) (.exit 0) (.pointer (some ⟨s, 0, none⟩) :: ud6 (.slice qb ub xb :: .slice sa xa ab :: ud98 [])) H =
 (Br (((xa : Int) : Int) == 0) (K (.tuple #[.slice qb ub xb, .slice sa xa ab, .bool true]) H) (loopK (exL Try.prog E_fcz (cl (cl (cr (cl (cr (cr (cr (cr (cr (bodyC Try.f41)))))))))) 1409 112 [(2, 385)]) (.pointer (some ⟨s, 0, none⟩) :: ud6 (.slice qb ub xb :: .slice sa xa ab :: ud :: .int .i64 0 :: ud96 [])) H (blockQ 2 (seqQ (exL Try.prog E_fcz (cr (cr (cr (cr (cr (cr (bodyC Try.f41))))))) 112 112 []) (retK Try.prog Try.f41 K))))) := by kernel_rfl
abbrev fcz_P2 (sa : OA) (ab : Nat) (xa : Nat) (qb : OA) (xb : Nat) (ub : Nat) (s : Nat) (k : Int)  : List Value := (.pointer (some ⟨s, 0, none⟩) :: ud6 (.slice qb ub xb :: .slice sa xa ab :: ud :: .int .i64 k :: ud96 []))
theorem fcz_r2 (sa : OA) (ab : Nat) (xa : Nat) (qb : OA) (xb : Nat) (ub : Nat) (s : Nat) (k : Int)  (H : AHeap) (R : Post) : exL Try.prog E_fcz (cl (cl (cr (cl (cr (cr (cr (cr (cr (bodyC Try.f41)))))))))) 1409 112 [(2, 385)] (fcz_P2 sa ab xa qb xb ub s k) H R =
 (∃ tf : OA, ∃ mf : Nat, ∃ uf : Nat,  rdC H s 0 = some (.slice tf mf uf) ∧ Br (decide ((k : Int) < (mf : Int))) (∃ wg : OA, ∃ xg : Nat, ∃ bk : Nat,  rdC H s 0 = some (.slice wg xg bk) ∧ (0 : Int) ≤ k ∧ k < (xg : Int) ∧ ∃ b9 f3, (wg : OA) = some ⟨b9, f3, none⟩ ∧ ∃ x5 : Nat,  rdC H b9 (f3 + (k : Int).toNat * 1) = some (.float .f32 x5) ∧ T_f10z qb ub xb sa xa ab k x5 H fun  (H7 : AHeap) => R .normal (.pointer (some ⟨s, 0, none⟩) :: ud6 (.slice qb ub xb :: .slice sa xa ab :: ud :: .int .i64 (IntKind.wrap .i64 (k + 1)) :: ud96 [])) H7) (R (.exit 2) (.pointer (some ⟨s, 0, none⟩) :: ud6 (.slice qb ub xb :: .slice sa xa ab :: ud98 [])) H)) := by kernel_rfl
def fcz_I2 (sa : OA) (ab : Nat) (xa : Nat) (qb : OA) (xb : Nat) (ub : Nat) (s : Nat) (Inv : Nat → Int → AHeap → Prop) : Nat → List Value → AHeap → Prop := fun μ tm H => ∃ (k : Int), tm = (fcz_P2 sa ab xa qb xb ub s k) ∧ Inv μ k H
theorem fcz_L2 (sa : OA) (ab : Nat) (xa : Nat) (qb : OA) (xb : Nat) (ub : Nat) (s : Nat) {Q : Post} (Inv : Nat → Int → AHeap → Prop) (ν : Nat) (k : Int)  (H : AHeap) (h0 : Inv ν k H)
  (hs : ∀ (μ : Nat) (k : Int)  (H : AHeap), Inv μ k H → exL Try.prog E_fcz (cl (cl (cr (cl (cr (cr (cr (cr (cr (bodyC Try.f41)))))))))) 1409 112 [(2, 385)] (fcz_P2 sa ab xa qb xb ub s k) H (loopQ (fcz_I2 sa ab xa qb xb ub s Inv) μ Q)) : loopK (exL Try.prog E_fcz (cl (cl (cr (cl (cr (cr (cr (cr (cr (bodyC Try.f41)))))))))) 1409 112 [(2, 385)]) (fcz_P2 sa ab xa qb xb ub s k) H Q :=
 ⟨fcz_I2 sa ab xa qb xb ub s Inv, ν, ⟨k, rfl, h0⟩, fun μ tm H h => by obtain ⟨k, rfl, hI⟩ := h; exact hs μ k  H hI⟩
theorem fcz_n2 {sa : OA} {ab : Nat} {xa : Nat} {qb : OA} {xb : Nat} {ub : Nat} {s : Nat} {Q : Post} {Inv : Nat → Int → AHeap → Prop} {μ : Nat} (μ' : Nat) {k : Int}  {H : AHeap} (hm : μ' < μ) (hI : Inv μ' k H) : loopQ (fcz_I2 sa ab xa qb xb ub s Inv) μ Q .normal (fcz_P2 sa ab xa qb xb ub s k) H := ⟨μ', hm, k, rfl, hI⟩
theorem fcz_x2_2 (sa : OA) (ab : Nat) (xa : Nat) (qb : OA) (xb : Nat) (ub : Nat) (s : Nat) (H : AHeap) (K : Value → AHeap → Prop)  {I : Nat → List Value → AHeap → Prop} {μ : Nat} : loopQ I μ (blockQ 2 (seqQ (exL Try.prog E_fcz (cr (cr (cr (cr (cr (cr (bodyC Try.f41))))))) 112 112 []) (retK Try.prog Try.f41 K))) (.exit 2) (.pointer (some ⟨s, 0, none⟩) :: ud6 (.slice qb ub xb :: .slice sa xa ab :: ud98 [])) H =
 (loopK (exL Try.prog E_fcz (cl (cl (cr (cl (cr (cr (cr (cr (cr (cr (bodyC Try.f41))))))))))) 2433 112 [(4, 385)]) (.pointer (some ⟨s, 0, none⟩) :: ud6 (.slice qb ub xb :: .slice sa xa ab :: ud2 (.int .i64 0 :: ud95 []))) H (blockQ 4 (seqQ (exL Try.prog E_fcz (cr (cr (cr (cr (cr (cr (cr (bodyC Try.f41)))))))) 112 112 []) (retK Try.prog Try.f41 K)))) := by kernel_rfl
abbrev fcz_P3 (sa : OA) (ab : Nat) (xa : Nat) (qb : OA) (xb : Nat) (ub : Nat) (s : Nat) (jd : Int)  : List Value := (.pointer (some ⟨s, 0, none⟩) :: ud6 (.slice qb ub xb :: .slice sa xa ab :: ud2 (.int .i64 jd :: ud95 [])))
theorem fcz_r3 (sa : OA) (ab : Nat) (xa : Nat) (qb : OA) (xb : Nat) (ub : Nat) (s : Nat) (jd : Int)  (H : AHeap) (R : Post) : exL Try.prog E_fcz (cl (cl (cr (cl (cr (cr (cr (cr (cr (cr (bodyC Try.f41))))))))))) 2433 112 [(4, 385)] (fcz_P3 sa ab xa qb xb ub s jd) H R =
 (Br (decide ((jd : Int) < (ub : Int))) ((0 : Int) ≤ jd ∧ jd < (ub : Int) ∧ ∃ b10 f4, (qb : OA) = some ⟨b10, f4, none⟩ ∧ ∃ x6 : Nat,  rdC H b10 (f4 + (jd : Int).toNat * 1) = some (.float .f32 x6) ∧ ∃ x7 : Nat,  rdC H s 1 = some (.float .f32 x7) ∧ (0 : Int) ≤ jd ∧ jd < (ub : Int) ∧ ∃ b11 f5, (qb : OA) = some ⟨b11, f5, none⟩ ∧ isOwn H b11 ∧ (∃ l, rdN H b11 (f5 + (jd : Int).toNat * 1) 1 = some l) ∧ Lt (setC H b11 (f5 + (jd : Int).toNat * 1) (.float .f32 (fmul .f32 x6 x7))) fun H8 => R .normal (.pointer (some ⟨s, 0, none⟩) :: ud6 (.slice qb ub xb :: .slice sa xa ab :: ud2 (.int .i64 (IntKind.wrap .i64 (jd + 1)) :: ud95 []))) H8) (R (.exit 4) (.pointer (some ⟨s, 0, none⟩) :: ud6 (.slice qb ub xb :: .slice sa xa ab :: ud98 [])) H)) := by kernel_rfl
def fcz_I3 (sa : OA) (ab : Nat) (xa : Nat) (qb : OA) (xb : Nat) (ub : Nat) (s : Nat) (Inv : Nat → Int → AHeap → Prop) : Nat → List Value → AHeap → Prop := fun μ tm H => ∃ (jd : Int), tm = (fcz_P3 sa ab xa qb xb ub s jd) ∧ Inv μ jd H
theorem fcz_L3 (sa : OA) (ab : Nat) (xa : Nat) (qb : OA) (xb : Nat) (ub : Nat) (s : Nat) {Q : Post} (Inv : Nat → Int → AHeap → Prop) (ν : Nat) (jd : Int)  (H : AHeap) (h0 : Inv ν jd H)
  (hs : ∀ (μ : Nat) (jd : Int)  (H : AHeap), Inv μ jd H → exL Try.prog E_fcz (cl (cl (cr (cl (cr (cr (cr (cr (cr (cr (bodyC Try.f41))))))))))) 2433 112 [(4, 385)] (fcz_P3 sa ab xa qb xb ub s jd) H (loopQ (fcz_I3 sa ab xa qb xb ub s Inv) μ Q)) : loopK (exL Try.prog E_fcz (cl (cl (cr (cl (cr (cr (cr (cr (cr (cr (bodyC Try.f41))))))))))) 2433 112 [(4, 385)]) (fcz_P3 sa ab xa qb xb ub s jd) H Q :=
 ⟨fcz_I3 sa ab xa qb xb ub s Inv, ν, ⟨jd, rfl, h0⟩, fun μ tm H h => by obtain ⟨jd, rfl, hI⟩ := h; exact hs μ jd  H hI⟩
theorem fcz_n3 {sa : OA} {ab : Nat} {xa : Nat} {qb : OA} {xb : Nat} {ub : Nat} {s : Nat} {Q : Post} {Inv : Nat → Int → AHeap → Prop} {μ : Nat} (μ' : Nat) {jd : Int}  {H : AHeap} (hm : μ' < μ) (hI : Inv μ' jd H) : loopQ (fcz_I3 sa ab xa qb xb ub s Inv) μ Q .normal (fcz_P3 sa ab xa qb xb ub s jd) H := ⟨μ', hm, jd, rfl, hI⟩
theorem fcz_x3_4 (sa : OA) (ab : Nat) (xa : Nat) (qb : OA) (xb : Nat) (ub : Nat) (s : Nat) (H : AHeap) (K : Value → AHeap → Prop)  {I : Nat → List Value → AHeap → Prop} {μ : Nat} : loopQ I μ (blockQ 4 (seqQ (exL Try.prog E_fcz (cr (cr (cr (cr (cr (cr (cr (bodyC Try.f41)))))))) 112 112 []) (retK Try.prog Try.f41 K))) (.exit 4) (.pointer (some ⟨s, 0, none⟩) :: ud6 (.slice qb ub xb :: .slice sa xa ab :: ud98 [])) H =
 (loopK (exL Try.prog E_fcz (cl (cl (cr (cl (cr (cr (cr (cr (cr (cr (cr (bodyC Try.f41)))))))))))) 4481 112 [(6, 384)]) (.pointer (some ⟨s, 0, none⟩) :: ud6 (.slice qb ub xb :: .slice sa xa ab :: ud3 (.int .i64 0 :: ud94 []))) H (blockQ 6 (seqQ (exL Try.prog E_fcz (cr (cr (cr (cr (cr (cr (cr (cr (bodyC Try.f41))))))))) 112 112 []) (retK Try.prog Try.f41 K)))) := by kernel_rfl
abbrev fcz_P4 (sa : OA) (ab : Nat) (xa : Nat) (qb : OA) (xb : Nat) (ub : Nat) (s : Nat) (pd : Int)  : List Value := (.pointer (some ⟨s, 0, none⟩) :: ud6 (.slice qb ub xb :: .slice sa xa ab :: ud3 (.int .i64 pd :: ud94 [])))
theorem fcz_r4 (sa : OA) (ab : Nat) (xa : Nat) (qb : OA) (xb : Nat) (ub : Nat) (s : Nat) (pd : Int)  (H : AHeap) (R : Post) : exL Try.prog E_fcz (cl (cl (cr (cl (cr (cr (cr (cr (cr (cr (cr (bodyC Try.f41)))))))))))) 4481 112 [(6, 384)] (fcz_P4 sa ab xa qb xb ub s pd) H R =
 (Br (decide ((pd : Int) < (xa : Int))) ((0 : Int) ≤ pd ∧ pd < (xa : Int) ∧ ∃ b12 f6, (sa : OA) = some ⟨b12, f6, none⟩ ∧ ∃ x8 : Nat,  rdC H b12 (f6 + (pd : Int).toNat * 1) = some (.float .f32 x8) ∧ ∃ x9 : Nat,  rdC H s 1 = some (.float .f32 x9) ∧ (0 : Int) ≤ pd ∧ pd < (xa : Int) ∧ ∃ b13 f7, (sa : OA) = some ⟨b13, f7, none⟩ ∧ isOwn H b13 ∧ (∃ l, rdN H b13 (f7 + (pd : Int).toNat * 1) 1 = some l) ∧ Lt (setC H b13 (f7 + (pd : Int).toNat * 1) (.float .f32 (fdiv .f32 x8 x9))) fun H9 => R .normal (.pointer (some ⟨s, 0, none⟩) :: ud6 (.slice qb ub xb :: .slice sa xa ab :: ud3 (.int .i64 (IntKind.wrap .i64 (pd + 1)) :: ud94 []))) H9) (R (.exit 6) (ud7 (.slice qb ub xb :: .slice sa xa ab :: ud98 [])) H)) := by kernel_rfl
def fcz_I4 (sa : OA) (ab : Nat) (xa : Nat) (qb : OA) (xb : Nat) (ub : Nat) (s : Nat) (Inv : Nat → Int → AHeap → Prop) : Nat → List Value → AHeap → Prop := fun μ tm H => ∃ (pd : Int), tm = (fcz_P4 sa ab xa qb xb ub s pd) ∧ Inv μ pd H
theorem fcz_L4 (sa : OA) (ab : Nat) (xa : Nat) (qb : OA) (xb : Nat) (ub : Nat) (s : Nat) {Q : Post} (Inv : Nat → Int → AHeap → Prop) (ν : Nat) (pd : Int)  (H : AHeap) (h0 : Inv ν pd H)
  (hs : ∀ (μ : Nat) (pd : Int)  (H : AHeap), Inv μ pd H → exL Try.prog E_fcz (cl (cl (cr (cl (cr (cr (cr (cr (cr (cr (cr (bodyC Try.f41)))))))))))) 4481 112 [(6, 384)] (fcz_P4 sa ab xa qb xb ub s pd) H (loopQ (fcz_I4 sa ab xa qb xb ub s Inv) μ Q)) : loopK (exL Try.prog E_fcz (cl (cl (cr (cl (cr (cr (cr (cr (cr (cr (cr (bodyC Try.f41)))))))))))) 4481 112 [(6, 384)]) (fcz_P4 sa ab xa qb xb ub s pd) H Q :=
 ⟨fcz_I4 sa ab xa qb xb ub s Inv, ν, ⟨pd, rfl, h0⟩, fun μ tm H h => by obtain ⟨pd, rfl, hI⟩ := h; exact hs μ pd  H hI⟩
theorem fcz_n4 {sa : OA} {ab : Nat} {xa : Nat} {qb : OA} {xb : Nat} {ub : Nat} {s : Nat} {Q : Post} {Inv : Nat → Int → AHeap → Prop} {μ : Nat} (μ' : Nat) {pd : Int}  {H : AHeap} (hm : μ' < μ) (hI : Inv μ' pd H) : loopQ (fcz_I4 sa ab xa qb xb ub s Inv) μ Q .normal (fcz_P4 sa ab xa qb xb ub s pd) H := ⟨μ', hm, pd, rfl, hI⟩
theorem fcz_x4_6 (sa : OA) (ab : Nat) (xa : Nat) (qb : OA) (xb : Nat) (ub : Nat) (H : AHeap) (K : Value → AHeap → Prop)  {I : Nat → List Value → AHeap → Prop} {μ : Nat} : loopQ I μ (blockQ 6 (seqQ (exL Try.prog E_fcz (cr (cr (cr (cr (cr (cr (cr (cr (bodyC Try.f41))))))))) 112 112 []) (retK Try.prog Try.f41 K))) (.exit 6) (ud7 (.slice qb ub xb :: .slice sa xa ab :: ud98 [])) H =
 (T_foz qb ub xb H fun (r1 : Bool) (H10 : AHeap) => Br r1 (T_foz sa xa ab H10 fun (r2 : Bool) (H11 : AHeap) => K (.tuple #[.slice qb ub xb, .slice sa xa ab, .bool r2]) H11) (K (.tuple #[.slice qb ub xb, .slice sa xa ab, .bool false]) H10)) := by kernel_rfl
theorem E_fcz_ok : ∀ g, FnOk Try.prog g (E_fcz g) := FnOk.envOf (by
 intro x hx
 simp only [List.mem_cons, List.not_mem_nil, or_false] at hx
 rcases hx with rfl | rfl
 ·exact f10z_ok
 ·exact foz_ok)
theorem ω5 {P : Prop} (h : P := by first | rfl | omega | (simp only [List.length_set]; done) | (simp only [List.length_set, List.length_replicate]; omega)) : P := h
theorem ω8 {P : Prop} (h : P := by first | omega | (simp; done) | (simp; omega) | (first | (have := tm2t (by assumption) (by omega); simp only [List.length_append, List.length_cons, List.length_nil]; omega) | (have := tm2f (by assumption) (by omega); simp only [List.length_append, List.length_cons, List.length_nil]; omega))) : P := h
theorem ω7 {P : Prop} (h : P := by first | (simp only [List.length_map, List.length_cons, List.length_nil, List.length_append]; done) | (simp only [List.length_map, List.length_cons, List.length_nil, List.length_append]; omega) | (simp only [List.length_map, List.length_cons, List.length_nil, List.length_append, List.length_take, List.length_drop]; omega)) : P := h
theorem ω12 {P : Prop} (h : P := by first | omega | (simp only [List.length_append, List.length_cons, List.length_nil]; done) | (simp only [List.length_append, List.length_cons, List.length_nil]; omega) | (simp only [List.length_append, List.length_cons, List.length_nil, List.length_take, List.length_drop]; omega)) : P := h
theorem ω3 {P : Prop} (h : P := by first | omega | (first | (have := tm2t (by assumption) (by omega); simp only [List.length_append, List.length_cons, List.length_nil]; omega) | (have := tm2f (by assumption) (by omega); simp only [List.length_append, List.length_cons, List.length_nil]; omega)) | (simp only [List.length_append, List.length_cons, List.length_nil, List.length_set]; done) | (simp only [List.length_append, List.length_cons, List.length_nil, List.length_set]; omega)) : P := h
theorem ω19 {P : Prop} (h : P := by first | assumption | omega | (simp only [List.length_set, wLowS_length, wHighS_length]; first | rfl | assumption | omega)) : P := h
theorem ω23 {P : Prop} (h : P := by rw [show μ2 - 1 + 1 = μ2 from by first | omega]; exact e) : P := h
theorem fcz_main (s : Nat) (ib : OA) (ua : Nat) (sb : Nat) (H : AHeap) (K : Value → AHeap → Prop) (h : T_fcz s ib ua sb H fun (qc : OA) (uc : Nat) (tc : Nat) (zd : OA) (ie : Nat) (fe : Nat) (r3 : Bool) (H' : AHeap) => K (.tuple #[.slice qc uc tc, .slice zd ie fe, .bool r3]) H') : bodyL Try.prog E_fcz Try.f41 [.pointer (some ⟨s, 0, none⟩), .slice ib ua sb] H K := by
 rw [fcz_vc]
 obtain ⟨bb, mb, pb, sp_Scale, ba, da, i_s, i_sp_Weights, i_list, bd_183, bd_184, hk⟩ := h
 obtain rfl := i_sp_Weights.eqn
 obtain rfl := i_list.eqn
 have e : (p_fcz ba sp_Scale da) = _ := rfl
 have e := e.trans (p_fcz_eq ba sp_Scale da)
 have g0 := Grow.refl H
 refine Al.intro (fun b_1 H_1 hb_2 hl_3 g_4 o_5 => ?_)
 have o_5 : Own H_1 b_1 ((([] : LN)).map fF) := o_5
 have l_7 := g_4.1
 have g_8 := g0.trans g_4
 have l_9 := g_8.1
 have w182 := o_5.lt
 refine Al.intro (fun b_10 H_2 hb_11 hl_12 g13 o_14 => ?_)
 have o_14 : Own H_2 b_10 ((([] : LN)).map fF) := o_14
 have l_16 := g13.1
 have g17 := g_8.trans g13
 have l_18 := g17.1
 have o19 := o_5.grow g13
 have w20 := o19.lt
 have w181 := o_14.lt
 refine fcz_L1 _ _ _ _ (fun (μ : Nat) (qb : OA) (ub : Nat) (xb : Nat) (sa : OA) (xa : Nat) (ab : Nat) (i : Int) (H_3 : AHeap) => ∃ (ec : LN), ∃ (b_21 : Nat), ∃ (vb : LN), ∃ (b_23 : Nat), qb = some ⟨b_21, 0, none⟩ ∧ ub = ec.length ∧ xb = 1 ∧ Own H_3 b_21 (ec.map fF) ∧ sa = some ⟨b_23, 0, none⟩ ∧ xa = vb.length ∧ ab = 1 ∧ Own H_3 b_23 (vb.map fF) ∧ (b_23 ≠ b_21) ∧ Grow H H_3 ∧ H.length ≤ b_21 ∧ H.length ≤ b_23 ∧ (0 : Int) ≤ i ∧ i ≤ (da.length : Int) ∧ (ec.length : Int) ≤ i - (0 : Int) + 0 ∧ (vb.length : Int) ≤ i - (0 : Int) + 0 ∧ (ec.length : Int) = (i + 1) / 2 ∧ (vb.length : Int) = i / 2 ∧ (da.length : Int) - i ≤ (μ : Int) ∧ p_fcz ba sp_Scale da = p_fcz_l1 ba sp_Scale da (μ + 1) ec vb i) (Int.toNat ((da.length : Int) - (0 : Int))) _ _ _ _ _ _ _ H_2 ?_ ?_
 ·exact ⟨_, _, _, _, rfl, ω5, rfl, o19, rfl, ω5, rfl, o_14, ω2, g17, ω2, ω2, ω8, ω8, ω8, ω8, ω8, ω8, ω2, e⟩
 ·intro μ qb ub xb sa xa ab i  H_3 hI
  obtain ⟨ec, b_21, vb, b_23, rfl, rfl, rfl, o22, rfl, rfl, rfl, o24, n25, g26, l27, l28, v_29, v_30, v_31, v_32, v_33, v_34, hμ, e⟩ := hI
  rw [fcz_r1]
  have e := e.trans (p_fcz_l1_s ba sp_Scale da μ ec vb i)
  have w35 := o22.lt
  have w36 := o24.lt
  have l37 := g26.1
  refine Br.intro (fun c_38 => ?_) (fun c_38 => ?_)
  ·have e := e.trans (cond_t c_38)
   have c_38' := of_decide_eq_true c_38
   refine ⟨ω22, ?_⟩
   have z39 := tmod_rng i 2
   have z40 := tmod_nn i 2
   refine Br.intro (fun c41 => ?_) (fun c41 => ?_)
   ·have e := e.trans (cond_t c41)
    have c_41' := ieq_t c41
    obtain ⟨b42, f_43, q44⟩ := ((i_list.grow g26)).pos ω0
    refine ⟨by omega, by omega, b42, f_43, q44, ?_⟩
    refine ⟨((da).getD (i : Int).toNat 0), (i_list).rd g26 q44 ω2 _, ?_⟩
    refine Al.intro (fun b45 H_4 hb_46 hl_47 g_48 o49 => ?_)
    have o49 : Own H_4 b45 (([(((da).getD (i : Int).toNat 0))]).map fF) := o49
    have l51 := g_48.1
    have g52 := g26.trans g_48
    have l53 := g52.1
    have o54 := o22.grow g_48
    have w55 := o54.lt
    have o56 := o24.grow g_48
    have w57 := o56.lt
    have w72 := o49.lt
    refine ⟨_, _, o54.ownB ω7 rfl, (isl_rdS (o49.isL ω5)), (fun h => by cases h), ω21, ?_⟩
    refine Ap.app o54 rfl rfl (fun b62 H_5 q70 hl_58 o59 k60 => ?_)
    have o59 := map_snoc o59
    have l63 := k60.1
    have g64 := g52.keep (b := b_21) ω2 k60
    have l65 := g64.1
    have o66 := o56.keep ω2 k60
    have w67 := o66.lt
    have o68 := o49.keep ω2 k60
    have w69 := o68.lt
    have w71 := o59.lt
    rw [show IntKind.wrap .i64 (i + 1) = (i + 1) from wrap64 ω2 ω2]
    refine fcz_n1 (μ - 1) ω15 ⟨_, _, _, _, rfl, ω12, rfl, o59, rfl, ω5, rfl, o66, ω2, g64, ω2, ω2, ω3, ω3, ω3, ω3, ω3, ω3, ω15, ω13⟩
   ·have e := e.trans (cond_f c41)
    have c_41' := ieq_f c41
    obtain ⟨b73, f_74, q75⟩ := ((i_list.grow g26)).pos ω0
    refine ⟨by omega, by omega, b73, f_74, q75, ?_⟩
    refine ⟨((da).getD (i : Int).toNat 0), (i_list).rd g26 q75 ω2 _, ?_⟩
    refine Al.intro (fun b76 H_6 hb_77 hl_78 g79 o80 => ?_)
    have o80 : Own H_6 b76 (([(((da).getD (i : Int).toNat 0))]).map fF) := o80
    have l82 := g79.1
    have g83 := g26.trans g79
    have l84 := g83.1
    have o85 := o22.grow g79
    have w86 := o85.lt
    have o87 := o24.grow g79
    have w88 := o87.lt
    have w103 := o80.lt
    refine ⟨_, _, o87.ownB ω7 rfl, (isl_rdS (o80.isL ω5)), (fun h => by cases h), ω21, ?_⟩
    refine Ap.app o87 rfl rfl (fun b93 H_7 q101 hl_89 o90 k91 => ?_)
    have o90 := map_snoc o90
    have l94 := k91.1
    have g95 := g83.keep (b := b_23) ω2 k91
    have l96 := g95.1
    have o97 := o85.keep ω2 k91
    have w98 := o97.lt
    have o99 := o80.keep ω2 k91
    have w100 := o99.lt
    have w102 := o90.lt
    rw [show IntKind.wrap .i64 (i + 1) = (i + 1) from wrap64 ω2 ω2]
    refine fcz_n1 (μ - 1) ω15 ⟨_, _, _, _, rfl, ω5, rfl, o97, rfl, ω12, rfl, o90, ω2, g95, ω2, ω2, ω3, ω3, ω3, ω3, ω3, ω3, ω15, ω13⟩
  ·have e := e.trans (cond_f c_38)
   have c_38' := of_decide_eq_false c_38
   rw [fcz_x1_0]
   refine Br.intro (fun c104 => ?_) (fun c104 => ?_)
   ·have e := e.trans (cond_t c104)
    have c_104' := ieq_t c104
    rw [e] at hk
    exact hk _ _ _ _ _ _ H_3 g26 (o22.ownS ω5 ω2) (o24.ownS ω5 ω2) (fun x y hx hy => by cases hx; cases hy; intro hh; dsimp only at hh; omega)
   ·have e := e.trans (cond_f c104)
    have c_104' := ieq_f c104
    refine fcz_L2 _ _ _ _ _ _ _ (fun (μ2 : Nat) (k : Int) (H_8 : AHeap) => ∃ (y2_1 : LN), ∃ (y2_2 : LN), Own H_8 b_21 (y2_1.map fF) ∧ y2_1.length = ec.length ∧ Own H_8 b_23 (y2_2.map fF) ∧ y2_2.length = vb.length ∧ (b_23 ≠ b_21) ∧ Grow H H_8 ∧ (0 : Int) ≤ k ∧ k ≤ (ba.length : Int) ∧ (ba.length : Int) - k ≤ (μ2 : Int) ∧ p_fcz ba sp_Scale da = p_fcz_l2 ba sp_Scale da ec vb i (fun (k : Int) (y2_1 : LN) (y2_2 : LN) => (p_fcz_l3 ba sp_Scale da ec vb i k y2_1 y2_2 (fun (jd : Int) (y3_1 : LN) (y3_2 : LN) => (p_fcz_l4 ba sp_Scale da ec vb i k y2_1 y2_2 jd y3_1 y3_2 (fun (pd : Int) (y4_1 : LN) => (bif (p_foz y3_1) then (y3_1, y4_1, (p_foz y4_1)) else (y3_1, y4_1, false))) (Int.toNat ((vb.length : Int) - (0 : Int)) + 1) (0 : Int) y3_2)) (Int.toNat ((ec.length : Int) - (0 : Int)) + 1) (0 : Int) y2_1 y2_2)) (μ2 + 1) k y2_1 y2_2) (Int.toNat ((ba.length : Int) - (0 : Int))) _ H_3 ?_ ?_
    ·exact ⟨_, _, o22, ω16, o24, ω16, ω2, g26, ω6, ω6, ω2, e⟩
    ·intro μ2 k  H_8 hI
     obtain ⟨y2_1, y2_2, o105, y106, o107, y108, n109, g110, v111, v112, hμ, e⟩ := hI
     rw [fcz_r2]
     have e := e.trans (p_fcz_l2_s ba sp_Scale da ec vb i (fun (k : Int) (y2_1 : LN) (y2_2 : LN) => (p_fcz_l3 ba sp_Scale da ec vb i k y2_1 y2_2 (fun (jd : Int) (y3_1 : LN) (y3_2 : LN) => (p_fcz_l4 ba sp_Scale da ec vb i k y2_1 y2_2 jd y3_1 y3_2 (fun (pd : Int) (y4_1 : LN) => (bif (p_foz y3_1) then (y3_1, y4_1, (p_foz y4_1)) else (y3_1, y4_1, false))) (Int.toNat ((vb.length : Int) - (0 : Int)) + 1) (0 : Int) y3_2)) (Int.toNat ((ec.length : Int) - (0 : Int)) + 1) (0 : Int) y2_1 y2_2)) μ2 k y2_1 y2_2)
     have w113 := o105.lt
     have w114 := o107.lt
     have l115 := g110.1
     refine ⟨bb, ba.length, pb, (rdN_at (rdN_grow g110 i_s) 0 (Nat.le_of_ble_eq_true rfl)).trans rfl, ?_⟩
     refine Br.intro (fun c116 => ?_) (fun c116 => ?_)
     ·have e := e.trans (cond_t c116)
      have c_116' := of_decide_eq_true c116
      refine ⟨bb, ba.length, pb, (rdN_at (rdN_grow g110 i_s) 0 (Nat.le_of_ble_eq_true rfl)).trans rfl, ?_⟩
      obtain ⟨b117, f118, q119⟩ := ((i_sp_Weights.grow g110)).pos ω0
      refine ⟨by omega, by omega, b117, f118, q119, ?_⟩
      refine ⟨((ba).getD (k : Int).toNat 0), (i_sp_Weights).rd g110 q119 ω2 _, ?_⟩
      refine T_f10z_i ⟨_, _, _, _, (o105.ownS ω5 (Nat.le_refl _)), (o107.ownS ω5 (Nat.le_refl _)), (fun x y hx hy => by cases hx; cases hy; intro hh; dsimp only at hh; omega), ω0, ω0, ω14, ω14, (fun H_10 k120 o121 o122 => ?_)⟩
      obtain ⟨H_9, k123, k124⟩ := k120.split
      have k125 := k123.keep1
      have l126 := k125.1
      have g127 := g110.keep (b := b_21) ω2 k125
      have l128 := g127.1
      have o129 := o107.keep ω2 k125
      have w130 := o129.lt
      have k131 := k124.keep1
      have l132 := k131.1
      have g133 := g127.keep (b := b_23) ω2 k131
      have l134 := g133.1
      have o135 := o121.own1
      have w136 := o135.lt
      have o137 := o122.own1
      have w138 := o137.lt
      rw [show IntKind.wrap .i64 (k + 1) = (k + 1) from wrap64 ω2 ω2]
      refine fcz_n2 (μ2 - 1) ω15 ⟨_, _, o135, ω19, o137, ω19, ω2, g133, ω1, ω1, ω15, ω23⟩
     ·have e := e.trans (cond_f c116)
      have c_116' := of_decide_eq_false c116
      rw [fcz_x2_2]
      refine fcz_L3 _ _ _ _ _ _ _ (fun (μ3 : Nat) (jd : Int) (H_11 : AHeap) => ∃ (y3_1 : LN), ∃ (y3_2 : LN), Own H_11 b_21 (y3_1.map fF) ∧ y3_1.length = ec.length ∧ Own H_11 b_23 (y3_2.map fF) ∧ y3_2.length = vb.length ∧ (b_23 ≠ b_21) ∧ Grow H H_11 ∧ (0 : Int) ≤ jd ∧ jd ≤ (ec.length : Int) ∧ (ec.length : Int) - jd ≤ (μ3 : Int) ∧ p_fcz ba sp_Scale da = p_fcz_l3 ba sp_Scale da ec vb i k y2_1 y2_2 (fun (jd : Int) (y3_1 : LN) (y3_2 : LN) => (p_fcz_l4 ba sp_Scale da ec vb i k y2_1 y2_2 jd y3_1 y3_2 (fun (pd : Int) (y4_1 : LN) => (bif (p_foz y3_1) then (y3_1, y4_1, (p_foz y4_1)) else (y3_1, y4_1, false))) (Int.toNat ((vb.length : Int) - (0 : Int)) + 1) (0 : Int) y3_2)) (μ3 + 1) jd y3_1 y3_2) (Int.toNat ((ec.length : Int) - (0 : Int))) _ H_8 ?_ ?_
      ·exact ⟨_, _, o105, ω16, o107, ω16, ω2, g110, ω6, ω6, ω2, e⟩
      ·intro μ3 jd  H_11 hI
       obtain ⟨y3_1, y3_2, o139, y140, o141, y142, n143, g144, v145, v146, hμ, e⟩ := hI
       rw [fcz_r3]
       have e := e.trans (p_fcz_l3_s ba sp_Scale da ec vb i k y2_1 y2_2 (fun (jd : Int) (y3_1 : LN) (y3_2 : LN) => (p_fcz_l4 ba sp_Scale da ec vb i k y2_1 y2_2 jd y3_1 y3_2 (fun (pd : Int) (y4_1 : LN) => (bif (p_foz y3_1) then (y3_1, y4_1, (p_foz y4_1)) else (y3_1, y4_1, false))) (Int.toNat ((vb.length : Int) - (0 : Int)) + 1) (0 : Int) y3_2)) μ3 jd y3_1 y3_2)
       have w147 := o139.lt
       have w148 := o141.lt
       have l149 := g144.1
       refine Br.intro (fun c150 => ?_) (fun c150 => ?_)
       ·have e := e.trans (cond_t c150)
        have c_150' := of_decide_eq_true c150
        refine ⟨by omega, ω2, _, _, rfl, ?_⟩
        refine ⟨((y3_1).getD (jd : Int).toNat 0), o139.rd ω0 _, ?_⟩
        refine ⟨sp_Scale, (rdN_at (rdN_grow g144 i_s) 1 (Nat.le_of_ble_eq_true rfl)).trans rfl, ?_⟩
        refine ⟨by omega, ω2, _, _, rfl, ?_⟩
        refine Lt.set o139 ω11 (fun H_12 hl_151 o153 k152 => ?_)
        have o153 := map_set o153
        have l154 := k152.1
        have g155 := g144.keep (b := b_21) ω2 k152
        have l156 := g155.1
        have o157 := o141.keep ω2 k152
        have w158 := o157.lt
        have w159 := o153.lt
        rw [show IntKind.wrap .i64 (jd + 1) = (jd + 1) from wrap64 ω2 ω2]
        refine fcz_n3 (μ3 - 1) ω15 ⟨_, _, o153, ω19, o157, ω19, ω2, g155, ω1, ω1, ω15, (by rw [show μ3 - 1 + 1 = μ3 from by first | omega]; exact e)⟩
       ·have e := e.trans (cond_f c150)
        have c_150' := of_decide_eq_false c150
        rw [fcz_x3_4]
        refine fcz_L4 _ _ _ _ _ _ _ (fun (μ4 : Nat) (pd : Int) (H_13 : AHeap) => ∃ (y4_1 : LN), Own H_13 b_21 ((y3_1).map fF) ∧ Own H_13 b_23 (y4_1.map fF) ∧ y4_1.length = vb.length ∧ (b_23 ≠ b_21) ∧ Grow H H_13 ∧ (0 : Int) ≤ pd ∧ pd ≤ (vb.length : Int) ∧ (vb.length : Int) - pd ≤ (μ4 : Int) ∧ p_fcz ba sp_Scale da = p_fcz_l4 ba sp_Scale da ec vb i k y2_1 y2_2 jd y3_1 y3_2 (fun (pd : Int) (y4_1 : LN) => (bif (p_foz y3_1) then (y3_1, y4_1, (p_foz y4_1)) else (y3_1, y4_1, false))) (μ4 + 1) pd y4_1) (Int.toNat ((vb.length : Int) - (0 : Int))) _ H_11 ?_ ?_
        ·exact ⟨_, o139, o141, ω16, ω2, g144, ω6, ω6, ω2, e⟩
        ·intro μ4 pd  H_13 hI
         obtain ⟨y4_1, o160, o161, y162, n163, g164, v165, v166, hμ, e⟩ := hI
         rw [fcz_r4]
         have e := e.trans (p_fcz_l4_s ba sp_Scale da ec vb i k y2_1 y2_2 jd y3_1 y3_2 (fun (pd : Int) (y4_1 : LN) => (bif (p_foz y3_1) then (y3_1, y4_1, (p_foz y4_1)) else (y3_1, y4_1, false))) μ4 pd y4_1)
         have w167 := o160.lt
         have w168 := o161.lt
         have l169 := g164.1
         refine Br.intro (fun c170 => ?_) (fun c170 => ?_)
         ·have e := e.trans (cond_t c170)
          have c_170' := of_decide_eq_true c170
          refine ⟨by omega, ω2, _, _, rfl, ?_⟩
          refine ⟨((y4_1).getD (pd : Int).toNat 0), o161.rd ω0 _, ?_⟩
          refine ⟨sp_Scale, (rdN_at (rdN_grow g164 i_s) 1 (Nat.le_of_ble_eq_true rfl)).trans rfl, ?_⟩
          refine ⟨by omega, ω2, _, _, rfl, ?_⟩
          refine Lt.set o161 ω11 (fun H_14 hl_171 o173 k172 => ?_)
          have o173 := map_set o173
          have l174 := k172.1
          have g175 := g164.keep (b := b_23) ω2 k172
          have l176 := g175.1
          have o177 := o160.keep ω2 k172
          have w178 := o177.lt
          have w179 := o173.lt
          rw [show IntKind.wrap .i64 (pd + 1) = (pd + 1) from wrap64 ω2 ω2]
          refine fcz_n4 (μ4 - 1) ω15 ⟨_, o177, o173, ω19, ω2, g175, ω1, ω1, ω15, (by rw [show μ4 - 1 + 1 = μ4 from by first | omega]; exact e)⟩
         ·have e := e.trans (cond_f c170)
          have c_170' := of_decide_eq_false c170
          rw [fcz_x4_6]
          refine T_foz_i ⟨_, (o160.isL ω5), ω0, ?_⟩
          refine Br.intro (fun c180 => ?_) (fun c180 => ?_)
          ·have e := e.trans (cond_t c180)
           refine T_foz_i ⟨_, (o161.isL ω5), ω0, ?_⟩
           rw [e] at hk
           exact hk _ _ _ _ _ _ H_13 g164 (o160.ownS ω5 ω2) (o161.ownS ω5 ω2) (fun x y hx hy => by cases hx; cases hy; intro hh; dsimp only at hh; omega)
          ·have e := e.trans (cond_f c180)
           rw [e] at hk
           exact hk _ _ _ _ _ _ H_13 g164 (o160.ownS ω5 ω2) (o161.ownS ω5 ω2) (fun x y hx hy => by cases hx; cases hy; intro hh; dsimp only at hh; omega)
theorem fcz_ok : FnOk Try.prog 41 S_fcz := by
 refine FnOk.body mix_ok E_fcz_ok Try.func41 rfl ω9 ω9 ?_ ?_ ?_ ?_ ?_
 ·intro args H K K' h hk
  simp only [S_fcz] at *
  unfold F_fcz at *
  split at hk
  ·obtain ⟨bb, mb, pb, sp_Scale, ba, da, i_s, i_sp_Weights, i_list, bd_183, bd_184, k⟩ := hk
   exact ⟨bb, mb, pb, sp_Scale, ba, da, i_s, i_sp_Weights, i_list, bd_183, bd_184, (fun qc uc tc zd ie fe H' gg ow0 ow1 sp0_1 => h _ _ (k qc uc tc zd ie fe H' gg ow0 ow1 sp0_1))⟩
  ·exact hk.elim
 ·intro hq; cases hq
 ·intro args H K hk
  simp only [S_fcz] at *
  unfold F_fcz at *
  split at hk
  ·obtain ⟨bb, mb, pb, sp_Scale, ba, da, i_s, i_sp_Weights, i_list, bd_183, bd_184, k⟩ := hk
   exact liveS2 fun a n e a2 n2 e2 H1 g o o2 sp => ⟨_, _, k a n e a2 n2 e2 H1 g o o2 sp⟩
  ·exact hk.elim
 ·intro _ args H K hk
  simp only [S_fcz] at *
  unfold F_fcz at *
  split at hk
  ·obtain ⟨bb, mb, pb, sp_Scale, ba, da, i_s, i_sp_Weights, i_list, bd_183, bd_184, k⟩ := hk
   exact ⟨bb, mb, pb, sp_Scale, ba, da, i_s, i_sp_Weights, i_list, bd_183, bd_184, (fun qc uc tc zd ie fe H' gg ow0 ow1 sp0_1 => ⟨gg, k qc uc tc zd ie fe H' gg ow0 ow1 sp0_1⟩)⟩
  ·exact hk.elim
 ·have mm := @fcz_main
  have ml := fun (args : List Value) (H : AHeap) (K : Value → AHeap → Prop) => bodyL_body (P := Try.prog) (env := E_fcz ) (fn := Try.f41) (args := args) (H := H) (K := K) E_fcz_ok 
  revert mm ml
  generalize bodyK Try.prog E_fcz Try.f41 = Q
  generalize bodyL Try.prog E_fcz Try.f41 = QL
  intro mm ml args H K hk
  simp only [S_fcz] at *
  unfold F_fcz at *
  split at hk
  ·exact ml _ H K (mm _ _ _ _ H K hk)
  ·exact hk.elim
theorem row_at {W H y : Int} (L : LN) (h0 : 0 ≤ y) (h2 : 1 ≤ W) (h3 : W ≤ 16) (h4 : H ≤ 16) : (y < H → 0 ≤ y * W ∧ y * W ≤ (y + 1) * W ∧ (y + 1) * W = y * W + W ∧ (y + 1) * W ≤ W * H ∧ W * H ≤ 256) ∧ (List.take ((y + 1) * W - y * W).toNat (List.drop (y * W).toNat L)).length ≤ ((y + 1) * W - y * W).toNat := by
 refine ⟨fun h1 => ?_, List.length_take_le _ _⟩
 have a : 0 ≤ y * W := Int.mul_nonneg h0 ω2
 have b : (y + 1) * W = y * W + W := by rw [Int.add_mul, Int.one_mul]
 have c : (y + 1) * W ≤ H * W := Int.mul_le_mul_of_nonneg_right ω2 ω2
 have d : W * H ≤ 16 * 16 := Int.mul_le_mul ω2 ω2 ω2 ω24
 have e : H * W = W * H := Int.mul_comm _ _
 refine ⟨a, by omega, b, by omega, by omega⟩
def p_f13z_l1 (ba : LN) (sp_Scale : Nat) (pp_Wide : Int) (pp_High : Int) (ma : LN) : Nat → Bool → Int → Int → Int → Int → Int → LN → Int × Int × LN × Bool
 | 0, _, _, _, _, _, _, _ => (0, 0, [], false)
 | μ + 1, t5, y, q1_1, q1_2, q1_4, q1_5, q1_6 => (bif decide ((y : Int) < pp_High) then (bif !((p_fcz ba sp_Scale ((((ma).drop ((y * pp_Wide) : Int).toNat).take ((((y + 1) * pp_Wide) : Int) - (y * pp_Wide)).toNat))).2.2) then ((0 : Int), (0 : Int), [], false) else (p_f13z_l1 ba sp_Scale pp_Wide pp_High ma μ t5 (y + 1) q1_1 q1_2 q1_4 q1_5 (((q1_6 ++ (p_fcz ba sp_Scale ((((ma).drop ((y * pp_Wide) : Int).toNat).take ((((y + 1) * pp_Wide) : Int) - (y * pp_Wide)).toNat))).1) ++ (p_fcz ba sp_Scale ((((ma).drop ((y * pp_Wide) : Int).toNat).take ((((y + 1) * pp_Wide) : Int) - (y * pp_Wide)).toNat))).2.1)))) else (q1_4, q1_5, q1_6, true))
def p_f13z_l1_s := fun ba sp_Scale pp_Wide pp_High ma μ t5 y q1_1 q1_2 q1_4 q1_5 q1_6 => @p_f13z_l1.eq_2 ba sp_Scale pp_Wide pp_High ma t5 y q1_1 q1_2 q1_4 q1_5 q1_6 μ
def p_f13z (ba : LN) (sp_Scale : Nat) (pp_Wide : Int) (pp_High : Int) (ma : LN) : Int × Int × LN × Bool := (p_f13z_l1 ba sp_Scale pp_Wide pp_High ma (Int.toNat (pp_High - (0 : Int)) + 1) false (0 : Int) 0 0 pp_Wide pp_High ([] : LN))
def p_f13z_eq := @p_f13z.eq_1
def T_f13z (s : Nat) (p : Nat) (H : AHeap) (K : Int → Int → OA → Nat → Nat → Bool → AHeap → Prop) : Prop := ∃ (bb : OA), ∃ (mb : Nat), ∃ (pb : Nat), ∃ (sp_Scale : Nat), ∃ (pp_Wide : Int), ∃ (pp_High : Int), ∃ (ac : OA), ∃ (dc : Nat), ∃ (fc : Nat), ∃ (ba : LN), ∃ (ma : LN), rdN H s 0 2 = some [.slice bb mb pb, .float .f32 sp_Scale] ∧ rdN H p 0 3 = some [.int .i64 pp_Wide, .int .i64 pp_High, .slice ac dc fc] ∧ IsL fF H bb mb ba ∧ IsL fF H ac dc ma ∧ ba.length < 1073741824 ∧ ma.length < 1073741824 ∧ 1 ≤ pp_Wide ∧ pp_Wide ≤ 16 ∧ 1 ≤ pp_High ∧ pp_High ≤ 16 ∧ (ma.length : Int) = pp_Wide * pp_High ∧ ((∀ (oa : OA) (qa pa : Nat), ∀ H' : AHeap, Grow H H' → OwnS fF H' H.length oa qa pa ((p_f13z ba sp_Scale pp_Wide pp_High ma).2.2.1) → K ((p_f13z ba sp_Scale pp_Wide pp_High ma).1) ((p_f13z ba sp_Scale pp_Wide pp_High ma).2.1) oa qa pa ((p_f13z ba sp_Scale pp_Wide pp_High ma).2.2.2) H'))
theorem T_f13z_i {s : Nat} {p : Nat} {H : AHeap} {K : Int → Int → OA → Nat → Nat → Bool → AHeap → Prop} (h : ∃ (bb : OA), ∃ (mb : Nat), ∃ (pb : Nat), ∃ (sp_Scale : Nat), ∃ (pp_Wide : Int), ∃ (pp_High : Int), ∃ (ac : OA), ∃ (dc : Nat), ∃ (fc : Nat), ∃ (ba : LN), ∃ (ma : LN), rdN H s 0 2 = some [.slice bb mb pb, .float .f32 sp_Scale] ∧ rdN H p 0 3 = some [.int .i64 pp_Wide, .int .i64 pp_High, .slice ac dc fc] ∧ IsL fF H bb mb ba ∧ IsL fF H ac dc ma ∧ ba.length < 1073741824 ∧ ma.length < 1073741824 ∧ 1 ≤ pp_Wide ∧ pp_Wide ≤ 16 ∧ 1 ≤ pp_High ∧ pp_High ≤ 16 ∧ (ma.length : Int) = pp_Wide * pp_High ∧ ((∀ (oa : OA) (qa pa : Nat), ∀ H' : AHeap, Grow H H' → OwnS fF H' H.length oa qa pa ((p_f13z ba sp_Scale pp_Wide pp_High ma).2.2.1) → K ((p_f13z ba sp_Scale pp_Wide pp_High ma).1) ((p_f13z ba sp_Scale pp_Wide pp_High ma).2.1) oa qa pa ((p_f13z ba sp_Scale pp_Wide pp_High ma).2.2.2) H'))) : T_f13z s p H K := h
theorem l04Rows_go_len (ws : LN) (sc : Nat) (W Hi : Int) (l : LN) (hW : W ≤ 16) : ∀ (μ : Nat) (t5 : Bool) (y q1 q2 q4 q5 : Int) (q6 : LN), (p_f13z_l1 ws sc W Hi l μ t5 y q1 q2 q4 q5 q6).2.2.1.length ≤ q6.length + 16 * μ := by
 intro μ
 induction μ with
 | zero => intro t5 y q1 q2 q4 q5 q6; simp [p_f13z_l1]
 | succ μ ih =>
  intro t5 y q1 q2 q4 q5 q6
  rw [p_f13z_l1_s]
  cases decide ((y : Int) < Hi) with
  | false => simp only [cond_false]; omega
  | true =>
   simp only [cond_true]
   generalize hr : ((((l).drop ((y * W) : Int).toNat).take ((((y + 1) * W) : Int) - (y * W)).toNat)) = r
   have e2 : (y + 1) * W = y * W + W := by rw [Int.add_mul, Int.one_mul]
   have hl : r.length ≤ 16 := by
    rw [← hr, List.length_take]
    omega
   obtain ⟨a1, a2⟩ := spec_LO_len ws sc r
   cases !((p_fcz ws sc r).2.2) with
   | true => simp
   | false =>
    simp only [cond_false]
    have := ih t5 (y + 1) q1 q2 q4 q5 ((q6 ++ (p_fcz ws sc r).1) ++ (p_fcz ws sc r).2.1)
    simp only [List.length_append] at this
    omega
/-! f13z: function 24 -/
def E_f13z : Env := envOf [(41, S_fcz)]
def F_f13z : List Value → AHeap → (Value → AHeap → Prop) → Prop
 | [.pointer (some ⟨s, 0, none⟩), .pointer (some ⟨p, 0, none⟩)], H, K => T_f13z s p H fun (r1_Wide : Int) (r1_High : Int) (oa : OA) (qa : Nat) (pa : Nat) (r2 : Bool) (H' : AHeap) => K (.tuple #[.agg #[.int .i64 r1_Wide, .int .i64 r1_High, .slice oa qa pa], .bool r2]) H'
 | _, _, _ => False
def S_f13z : FSpec := { F := F_f13z, quiet := false, tame := true }
theorem f13z_vc (s : Nat) (p : Nat) (H : AHeap) (K : Value → AHeap → Prop) : bodyL Try.prog E_f13z Try.f24 [.pointer (some ⟨s, 0, none⟩), .pointer (some ⟨p, 0, none⟩)] H K =
 (Al [.int .i64 0, .int .i64 0, .slice none 0 0] H fun b1 H1 => ∃ x1 : Int,  rdC H1 p 0 = some (.int .i64 x1) ∧ ∃ x2 : Int,  rdC H1 p 1 = some (.int .i64 x2) ∧ Al [] H1 fun b2 H2 => Al [.int .i64 0, .int .i64 0, .slice none 0 0] H2 fun b3 H3 => isOwn H3 b3 ∧ (∃ l, rdN H3 b3 0 3 = some l) ∧ Lt (setN H3 b3 0 [.int .i64 x1, .int .i64 x2, .slice (some ⟨b2, 0, none⟩) 0 1]) fun H4 => loopK (exL Try.prog E_f13z (cl (cl (cr (cl (cr (cr (bodyC Try.f24))))))) 211 48 [(0, 80)]) (.pointer (some ⟨s, 0, none⟩) :: .pointer (some ⟨p, 0, none⟩) :: ud2 (.pointer (some ⟨b1, 0, none⟩) :: ud :: .pointer (some ⟨b3, 0, none⟩) :: .int .i64 0 :: ud59 [])) H4 (blockQ 0 (seqQ (exL Try.prog E_f13z (cr (cr (cr (bodyC Try.f24)))) 48 48 []) (retK Try.prog Try.f24 K)))) := by kernel_rfl
abbrev f13z_P1 (b1 : Nat) (b3 : Nat) (p : Nat) (s : Nat) (y : Int)  : List Value := (.pointer (some ⟨s, 0, none⟩) :: .pointer (some ⟨p, 0, none⟩) :: ud2 (.pointer (some ⟨b1, 0, none⟩) :: ud :: .pointer (some ⟨b3, 0, none⟩) :: .int .i64 y :: ud59 []))
theorem f13z_r1 (b1 : Nat) (b3 : Nat) (p : Nat) (s : Nat) (y : Int)  (H : AHeap) (R : Post) : exL Try.prog E_f13z (cl (cl (cr (cl (cr (cr (bodyC Try.f24))))))) 211 48 [(0, 80)] (f13z_P1 b1 b3 p s y) H R =
 (∃ x3 : Int,  rdC H p 1 = some (.int .i64 x3) ∧ Br (decide ((y : Int) < x3)) (∃ wg : OA, ∃ xg : Nat, ∃ bk : Nat,  rdC H p 2 = some (.slice wg xg bk) ∧ ∃ x5 : Int,  rdC H p 0 = some (.int .i64 x5) ∧ ∃ x6 : Int,  rdC H p 0 = some (.int .i64 x6) ∧ (0 : Int) ≤ IntKind.wrap .i64 (y * x5) ∧ IntKind.wrap .i64 (y * x5) ≤ IntKind.wrap .i64 ((IntKind.wrap .i64 (y + 1)) * x6) ∧ IntKind.wrap .i64 ((IntKind.wrap .i64 (y + 1)) * x6) ≤ (xg : Int) ∧ T_fcz s ((wg : OA).map fun a => ⟨a.block, a.off + (IntKind.wrap .i64 (y * x5) : Int).toNat * 1, none⟩) (((IntKind.wrap .i64 ((IntKind.wrap .i64 (y + 1)) * x6) : Int) - IntKind.wrap .i64 (y * x5)).toNat) 0 H fun (a1 : OA) (r1 : Nat) (r2 : Nat) (a2 : OA) (r3 : Nat) (r4 : Nat) (r5 : Bool) (H5 : AHeap) => Br (!r5) (isOwn H5 b1 ∧ (∃ l, rdN H5 b1 0 3 = some l) ∧ Lt (setN H5 b1 0 [.int .i64 0, .int .i64 0, .slice none 0 0]) fun H6 => R .ret (ud4 (.pointer (some ⟨b1, 0, none⟩) :: .bool false :: ud61 [])) H6) (∃ vf : OA, ∃ nf : Nat, ∃ ug : Nat,  rdC H5 b3 2 = some (.slice vf nf ug) ∧ ∃ o1 w1 : List Value, ownB H5 vf nf ug 1 = some o1 ∧ rdS H5 a1 (r1 * 1) = some w1 ∧ ((vf : OA) = none → 0 < (r1 : Nat)) ∧ (nf : Nat) + r1 < most ∧ Ap H5 (killB H5 vf ++ [some ⟨o1 ++ w1, true⟩]) fun b4 H7 => isOwn H7 b3 ∧ (∃ l, rdN H7 b3 2 1 = some l) ∧ Lt (setC H7 b3 2 (.slice (some ⟨b4, 0, none⟩) (nf + r1) 1)) fun H8 => ∃ xf : OA, ∃ yf : Nat, ∃ vg : Nat,  rdC H8 b3 2 = some (.slice xf yf vg) ∧ ∃ o2 w2 : List Value, ownB H8 xf yf vg 1 = some o2 ∧ rdS H8 a2 (r3 * 1) = some w2 ∧ ((xf : OA) = none → 0 < (r3 : Nat)) ∧ (yf : Nat) + r3 < most ∧ Ap H8 (killB H8 xf ++ [some ⟨o2 ++ w2, true⟩]) fun b5 H9 => isOwn H9 b3 ∧ (∃ l, rdN H9 b3 2 1 = some l) ∧ Lt (setC H9 b3 2 (.slice (some ⟨b5, 0, none⟩) (yf + r3) 1)) fun H10 => R .normal (.pointer (some ⟨s, 0, none⟩) :: .pointer (some ⟨p, 0, none⟩) :: ud2 (.pointer (some ⟨b1, 0, none⟩) :: ud :: .pointer (some ⟨b3, 0, none⟩) :: .int .i64 (IntKind.wrap .i64 (y + 1)) :: ud59 [])) H10)) (R (.exit 0) (ud4 (.pointer (some ⟨b1, 0, none⟩) :: ud :: .pointer (some ⟨b3, 0, none⟩) :: ud60 [])) H)) := by kernel_rfl
def f13z_I1 (b1 : Nat) (b3 : Nat) (p : Nat) (s : Nat) (Inv : Nat → Int → AHeap → Prop) : Nat → List Value → AHeap → Prop := fun μ tm H => ∃ (y : Int), tm = (f13z_P1 b1 b3 p s y) ∧ Inv μ y H
theorem f13z_L1 (b1 : Nat) (b3 : Nat) (p : Nat) (s : Nat) {Q : Post} (Inv : Nat → Int → AHeap → Prop) (ν : Nat) (y : Int)  (H : AHeap) (h0 : Inv ν y H)
  (hs : ∀ (μ : Nat) (y : Int)  (H : AHeap), Inv μ y H → exL Try.prog E_f13z (cl (cl (cr (cl (cr (cr (bodyC Try.f24))))))) 211 48 [(0, 80)] (f13z_P1 b1 b3 p s y) H (loopQ (f13z_I1 b1 b3 p s Inv) μ Q)) : loopK (exL Try.prog E_f13z (cl (cl (cr (cl (cr (cr (bodyC Try.f24))))))) 211 48 [(0, 80)]) (f13z_P1 b1 b3 p s y) H Q :=
 ⟨f13z_I1 b1 b3 p s Inv, ν, ⟨y, rfl, h0⟩, fun μ tm H h => by obtain ⟨y, rfl, hI⟩ := h; exact hs μ y  H hI⟩
theorem f13z_n1 {b1 : Nat} {b3 : Nat} {p : Nat} {s : Nat} {Q : Post} {Inv : Nat → Int → AHeap → Prop} {μ : Nat} (μ' : Nat) {y : Int}  {H : AHeap} (hm : μ' < μ) (hI : Inv μ' y H) : loopQ (f13z_I1 b1 b3 p s Inv) μ Q .normal (f13z_P1 b1 b3 p s y) H := ⟨μ', hm, y, rfl, hI⟩
theorem f13z_x1_0 (b1 : Nat) (b3 : Nat) (H : AHeap) (K : Value → AHeap → Prop)  {I : Nat → List Value → AHeap → Prop} {μ : Nat} : loopQ I μ (blockQ 0 (seqQ (exL Try.prog E_f13z (cr (cr (cr (bodyC Try.f24)))) 48 48 []) (retK Try.prog Try.f24 K))) (.exit 0) (ud4 (.pointer (some ⟨b1, 0, none⟩) :: ud :: .pointer (some ⟨b3, 0, none⟩) :: ud60 [])) H =
 (∃ c1 : Int, ∃ c2 : Int, ∃ ve : OA, ∃ ze : Nat, ∃ ye : Nat,  rdN H b3 0 3 = some [.int .i64 c1, .int .i64 c2, .slice ve ze ye] ∧ isOwn H b1 ∧ (∃ l, rdN H b1 0 3 = some l) ∧ Lt (setN H b1 0 [.int .i64 c1, .int .i64 c2, .slice ve ze ye]) fun H11 => ∃ c4 : Int, ∃ c5 : Int, ∃ af : OA, ∃ ff : Nat, ∃ df : Nat,  rdN H11 b1 0 3 = some [.int .i64 c4, .int .i64 c5, .slice af ff df] ∧ K (.tuple #[.agg #[.int .i64 c4, .int .i64 c5, .slice af ff df], .bool true]) H11) := by kernel_rfl
theorem f13z_x1_ret (b1 : Nat) (t5 : Bool) (H : AHeap) (K : Value → AHeap → Prop)  {I : Nat → List Value → AHeap → Prop} {μ : Nat} : loopQ I μ (blockQ 0 (seqQ (exL Try.prog E_f13z (cr (cr (cr (bodyC Try.f24)))) 48 48 []) (retK Try.prog Try.f24 K))) .ret (ud4 (.pointer (some ⟨b1, 0, none⟩) :: .bool t5 :: ud61 [])) H =
 (∃ c7 : Int, ∃ c8 : Int, ∃ qf : OA, ∃ sf : Nat, ∃ rf : Nat,  rdN H b1 0 3 = some [.int .i64 c7, .int .i64 c8, .slice qf sf rf] ∧ K (.tuple #[.agg #[.int .i64 c7, .int .i64 c8, .slice qf sf rf], .bool t5]) H) := by kernel_rfl
theorem E_f13z_ok : ∀ g, FnOk Try.prog g (E_f13z g) := FnOk.envOf (by
 intro x hx
 simp only [List.mem_cons, List.not_mem_nil, or_false] at hx
 subst hx; exact fcz_ok)
theorem ω18 {P : Prop} (h : P := by first | exact OwnS.nil _ _ _ _ | exact OwnT.nil _ _ _ | exact OwnLL.nil _ _ _ _) : P := h
theorem f13z_main (s : Nat) (p : Nat) (H : AHeap) (K : Value → AHeap → Prop) (h : T_f13z s p H fun (r1_Wide : Int) (r1_High : Int) (oa : OA) (qa : Nat) (pa : Nat) (r2 : Bool) (H' : AHeap) => K (.tuple #[.agg #[.int .i64 r1_Wide, .int .i64 r1_High, .slice oa qa pa], .bool r2]) H') : bodyL Try.prog E_f13z Try.f24 [.pointer (some ⟨s, 0, none⟩), .pointer (some ⟨p, 0, none⟩)] H K := by
 rw [f13z_vc]
 obtain ⟨bb, mb, pb, sp_Scale, pp_Wide, pp_High, ac, dc, fc, ba, ma, i_s, i_p, i_sp_Weights, i_pp_Lights, bd_175, bd_176, pr0, pr1, pr2, pr3, pr4, hk⟩ := h
 obtain rfl := i_sp_Weights.eqn
 obtain rfl := i_pp_Lights.eqn
 have e : (p_f13z ba sp_Scale pp_Wide pp_High ma) = _ := rfl
 have e := e.trans (p_f13z_eq ba sp_Scale pp_Wide pp_High ma)
 have g0 := Grow.refl H
 refine Al.intro (fun b_1 H_1 hb_2 hl_3 g_4 o_5 => ?_)
 have l_7 := g_4.1
 have g_8 := g0.trans g_4
 have l_9 := g_8.1
 have w174 := o_5.lt
 refine ⟨pp_Wide, (rdN_at (rdN_grow g_8 i_p) 0 (Nat.le_of_ble_eq_true rfl)).trans rfl, ?_⟩
 refine ⟨pp_High, (rdN_at (rdN_grow g_8 i_p) 1 (Nat.le_of_ble_eq_true rfl)).trans rfl, ?_⟩
 refine Al.intro (fun b_10 H_2 hb_11 hl_12 g13 o_14 => ?_)
 have o_14 : Own H_2 b_10 ((([] : LN)).map fF) := o_14
 have l_16 := g13.1
 have g17 := g_8.trans g13
 have l_18 := g17.1
 have o19 := o_5.grow g13
 have w20 := o19.lt
 have w173 := o_14.lt
 refine Al.intro (fun b_21 H_3 hb_22 hl_23 g24 o25 => ?_)
 have l27 := g24.1
 have g28 := g17.trans g24
 have l29 := g28.1
 have o30 := o19.grow g24
 have w31 := o30.lt
 have o32 := o_14.grow g24
 have w33 := o32.lt
 have w172 := o25.lt
 refine Lt.setN (n := 3) o25 (Nat.le_of_ble_eq_true rfl) rfl (fun H_4 hl_34 o36 k35 => ?_)
 have o36 : Own H_4 b_21 [.int .i64 pp_Wide, .int .i64 pp_High, .slice (some ⟨b_10, 0, none⟩) 0 1] := o36
 have l37 := k35.1
 have g38 := g28.keep (b := b_21) ω2 k35
 have l39 := g38.1
 have o40 := o30.keep ω2 k35
 have w41 := o40.lt
 have o42 := o32.keep ω2 k35
 have w43 := o42.lt
 have w171 := o36.lt
 refine f13z_L1 _ _ _ _ (fun (μ : Nat) (y : Int) (H_5 : AHeap) => ∃ (t5 : Bool), ∃ (q1_1 : Int), ∃ (q1_2 : Int), ∃ (q1_4 : Int), ∃ (q1_5 : Int), ∃ (q1_6 : LN), ∃ (b46 : Nat), Own H_5 b_1 [.int .i64 q1_1, .int .i64 q1_2, .slice none 0 0] ∧ Own H_5 b46 (q1_6.map fF) ∧ Own H_5 b_21 [.int .i64 q1_4, .int .i64 q1_5, .slice (some ⟨b46, 0, none⟩) q1_6.length 1] ∧ (b_21 ≠ b_1) ∧ (b46 ≠ b_1) ∧ (b46 ≠ b_21) ∧ Grow H H_5 ∧ H.length ≤ b46 ∧ (0 : Int) ≤ y ∧ ((y ≤ pp_High ∨ y ≤ (0 : Int))) ∧ (q1_6.length : Int) ≤ 16 * y ∧ pp_High - y ≤ (μ : Int) ∧ p_f13z ba sp_Scale pp_Wide pp_High ma = p_f13z_l1 ba sp_Scale pp_Wide pp_High ma (μ + 1) t5 y q1_1 q1_2 q1_4 q1_5 q1_6) (Int.toNat (pp_High - (0 : Int))) _ H_4 ?_ ?_
 ·exact ⟨_, _, _, _, _, _, _, (by first | exact o40 | (have hbx := o40; (try simp only [List.length_append, List.length_cons, List.length_nil, Nat.zero_add] at hbx); (try simp only [List.length_append, List.length_cons, List.length_nil, Nat.zero_add]); exact hbx)), o42, (by first | exact o36 | (have hbx := o36; (try simp only [List.length_append, List.length_cons, List.length_nil, Nat.zero_add] at hbx); (try simp only [List.length_append, List.length_cons, List.length_nil, Nat.zero_add]); exact hbx)), ω2, ω2, ω2, g38, ω2, ω6, ω6, ω6, ω2, e⟩
 ·intro μ y  H_5 hI
  obtain ⟨t5, q1_1, q1_2, q1_4, q1_5, q1_6, b46, o44, o47, o45, n48, n49, n50, g51, l52, v_53, v_54, v_55, hμ, e⟩ := hI
  rw [f13z_r1]
  have e := e.trans (p_f13z_l1_s ba sp_Scale pp_Wide pp_High ma μ t5 y q1_1 q1_2 q1_4 q1_5 q1_6)
  have zy := row_at (W := pp_Wide) (H := pp_High) (y := y) ma ω2 ω2 ω2 ω2
  have w56 := o44.lt
  have w57 := o45.lt
  have w58 := o47.lt
  have l59 := g51.1
  refine ⟨pp_High, (rdN_at (rdN_grow g51 i_p) 1 (Nat.le_of_ble_eq_true rfl)).trans rfl, ?_⟩
  refine Br.intro (fun c_60 => ?_) (fun c_60 => ?_)
  ·have e := e.trans (cond_t c_60)
   have c_60' := of_decide_eq_true c_60
   refine ⟨ac, ma.length, fc, (rdN_at (rdN_grow g51 i_p) 2 (Nat.le_of_ble_eq_true rfl)).trans rfl, ?_⟩
   refine ⟨pp_Wide, (rdN_at (rdN_grow g51 i_p) 0 (Nat.le_of_ble_eq_true rfl)).trans rfl, ?_⟩
   rw [show IntKind.wrap .i64 (y * pp_Wide) = (y * pp_Wide) from wrap64 ω2 ω2]
   rw [show IntKind.wrap .i64 (y + 1) = (y + 1) from wrap64 ω2 ω2]
   refine ⟨pp_Wide, (rdN_at (rdN_grow g51 i_p) 0 (Nat.le_of_ble_eq_true rfl)).trans rfl, ?_⟩
   rw [show IntKind.wrap .i64 ((y + 1) * pp_Wide) = ((y + 1) * pp_Wide) from wrap64 ω2 ω2]
   refine ⟨by omega, by omega, by omega, ?_⟩
   have i61 := sub_isl i_pp_Lights (lo := (y * pp_Wide)) (hi := ((y + 1) * pp_Wide)) ω2 ω2 ω2
   refine T_fcz_i ⟨bb, ba.length, pb, sp_Scale, _, _, (rdN_grow g51 i_s), (i_sp_Weights.grow g51), (i61.grow g51), ω0, ω0, fun a62 n63 e_64 a66 n67 e68 H_6 g71 r65 r69 p87 => ?_⟩
   have z70 := spec_LO_len ba sp_Scale ((((ma).drop ((y * pp_Wide) : Int).toNat).take ((((y + 1) * pp_Wide) : Int) - (y * pp_Wide)).toNat))
   have l72 := g71.1
   have g73 := g51.trans g71
   have l74 := g73.1
   have o75 := o44.grow g71
   have w76 := o75.lt
   have o77 := o45.grow g71
   have w78 := o77.lt
   have o79 := o47.grow g71
   have w80 := o79.lt
   obtain rfl := r65.isL.eqn
   have u81 := r65.up
   have u82 := r65.lo
   obtain rfl := r69.isL.eqn
   have u84 := r69.up
   have u85 := r69.lo
   refine Br.intro (fun c88 => ?_) (fun c88 => ?_)
   ·have e := e.trans (cond_t c88)
    have c_88n := nf_of_t c88
    refine Lt.setN (n := 3) o75 (Nat.le_of_ble_eq_true rfl) rfl (fun H_7 hl_89 o91 k90 => ?_)
    have o91 : Own H_7 b_1 [.int .i64 0, .int .i64 0, .slice none 0 0] := o91
    have l92 := k90.1
    have g93 := g73.keep (b := b_1) ω2 k90
    have l94 := g93.1
    have o95 := o77.keep ω2 k90
    have w96 := o95.lt
    have o97 := o79.keep ω2 k90
    have w98 := o97.lt
    have r99 := r65.keep u81 ω2 k90
    have r100 := r69.keep u84 ω2 k90
    have w101 := o91.lt
    rw [f13z_x1_ret]
    refine ⟨0, 0, none, 0, 0, (o91.rdN (Nat.le_of_ble_eq_true rfl)).trans rfl, ?_⟩
    rw [e] at hk
    exact hk _ _ _ H_7 g93 ω18
   ·have e := e.trans (cond_f c88)
    have c_88n := nt_of_f c88
    refine ⟨some ⟨b46, 0, none⟩, q1_6.length, 1, (o77.rdC _).trans rfl, ?_⟩
    refine ⟨_, _, o79.ownB ω7 rfl, (isl_rdS r65.isL), (fun h => by cases h), ω21, ?_⟩
    refine Ap.app o79 rfl rfl (fun b106 H_8 q158 hl_102 o103 k104 => ?_)
    have o103 := map_snoc o103
    have l107 := k104.1
    have g108 := g73.keep (b := b46) ω2 k104
    have l109 := g108.1
    have o110 := o75.keep ω2 k104
    have w111 := o110.lt
    have o112 := o77.keep ω2 k104
    have w113 := o112.lt
    have r114 := r65.keep u81 ω2 k104
    have r115 := r69.keep u84 ω2 k104
    have w159 := o103.lt
    refine Lt.set o112 (Nat.le_of_ble_eq_true rfl) (fun H_9 hl_116 o118 k117 => ?_)
    have o118 : Own H_9 b_21 [.int .i64 q1_4, .int .i64 q1_5, .slice (some ⟨b106, 0, none⟩) (q1_6.length + (((p_fcz ba sp_Scale ((((ma).drop ((y * pp_Wide) : Int).toNat).take ((((y + 1) * pp_Wide) : Int) - (y * pp_Wide)).toNat))).1).length)) 1] := o118
    have l119 := k117.1
    have g120 := g108.keep (b := b_21) ω2 k117
    have l121 := g120.1
    have o122 := o110.keep ω2 k117
    have w123 := o122.lt
    have o124 := o103.keep ω2 k117
    have w125 := o124.lt
    have r126 := r114.keep u81 ω2 k117
    have r127 := r115.keep u84 ω2 k117
    have w157 := o118.lt
    refine ⟨some ⟨b106, 0, none⟩, q1_6.length + (((p_fcz ba sp_Scale ((((ma).drop ((y * pp_Wide) : Int).toNat).take ((((y + 1) * pp_Wide) : Int) - (y * pp_Wide)).toNat))).1).length), 1, (o118.rdC _).trans rfl, ?_⟩
    refine ⟨_, _, o124.ownB ω7 rfl, (isl_rdS r127.isL), (fun h => by cases h), ω21, ?_⟩
    refine Ap.app o124 rfl rfl (fun b132 H_10 q155 hl_128 o129 k130 => ?_)
    have o129 := map_snoc o129
    have l133 := k130.1
    have g134 := g120.keep (b := b106) ω2 k130
    have l135 := g134.1
    have o136 := o122.keep ω2 k130
    have w137 := o136.lt
    have o138 := o118.keep ω2 k130
    have w139 := o138.lt
    have r140 := r126.keep u81 ω2 k130
    have r141 := r127.keep u84 ω2 k130
    have w156 := o129.lt
    refine Lt.set o138 (Nat.le_of_ble_eq_true rfl) (fun H_11 hl_142 o144 k143 => ?_)
    have o144 : Own H_11 b_21 [.int .i64 q1_4, .int .i64 q1_5, .slice (some ⟨b132, 0, none⟩) ((q1_6.length + (((p_fcz ba sp_Scale ((((ma).drop ((y * pp_Wide) : Int).toNat).take ((((y + 1) * pp_Wide) : Int) - (y * pp_Wide)).toNat))).1).length)) + (((p_fcz ba sp_Scale ((((ma).drop ((y * pp_Wide) : Int).toNat).take ((((y + 1) * pp_Wide) : Int) - (y * pp_Wide)).toNat))).2.1).length)) 1] := o144
    have l145 := k143.1
    have g146 := g134.keep (b := b_21) ω2 k143
    have l147 := g146.1
    have o148 := o136.keep ω2 k143
    have w149 := o148.lt
    have o150 := o129.keep ω2 k143
    have w151 := o150.lt
    have r152 := r140.keep u81 ω2 k143
    have r153 := r141.keep u84 ω2 k143
    have w154 := o144.lt
    refine f13z_n1 (μ - 1) ω15 ⟨_, _, _, _, _, _, _, (by first | exact o148 | (have hbx := o148; (try simp only [List.length_append, List.length_cons, List.length_nil, Nat.zero_add] at hbx); (try simp only [List.length_append, List.length_cons, List.length_nil, Nat.zero_add]); exact hbx)), o150, (by first | exact o144 | (have hbx := o144; (try simp only [List.length_append, List.length_cons, List.length_nil, Nat.zero_add] at hbx); (try simp only [List.length_append, List.length_cons, List.length_nil, Nat.zero_add]); exact hbx)), ω2, ω2, ω2, g146, ω2, ω1, ω1, ω1, ω15, ω13⟩
  ·have e := e.trans (cond_f c_60)
   have c_60' := of_decide_eq_false c_60
   rw [f13z_x1_0]
   refine ⟨q1_4, q1_5, some ⟨b46, 0, none⟩, q1_6.length, 1, (o45.rdN (Nat.le_of_ble_eq_true rfl)).trans rfl, ?_⟩
   refine Lt.setN (n := 3) o44 (Nat.le_of_ble_eq_true rfl) rfl (fun H_12 hl_160 o162 k161 => ?_)
   have o162 : Own H_12 b_1 [.int .i64 q1_4, .int .i64 q1_5, .slice (some ⟨b46, 0, none⟩) q1_6.length 1] := o162
   have l163 := k161.1
   have g164 := g51.keep (b := b_1) ω2 k161
   have l165 := g164.1
   have o166 := o45.keep ω2 k161
   have w167 := o166.lt
   have o168 := o47.keep ω2 k161
   have w169 := o168.lt
   have w170 := o162.lt
   refine ⟨q1_4, q1_5, some ⟨b46, 0, none⟩, q1_6.length, 1, (o162.rdN (Nat.le_of_ble_eq_true rfl)).trans rfl, ?_⟩
   rw [e] at hk
   exact hk _ _ _ H_12 g164 (o168.ownS ω5 ω2)
theorem f13z_ok : FnOk Try.prog 24 S_f13z := by
 refine FnOk.body mix_ok E_f13z_ok Try.func24 rfl ω9 ω9 ?_ ?_ ?_ ?_ ?_
 ·intro args H K K' h hk
  simp only [S_f13z] at *
  unfold F_f13z at *
  split at hk
  ·obtain ⟨bb, mb, pb, sp_Scale, pp_Wide, pp_High, ac, dc, fc, ba, ma, i_s, i_p, i_sp_Weights, i_pp_Lights, bd_175, bd_176, pr0, pr1, pr2, pr3, pr4, k⟩ := hk
   exact ⟨bb, mb, pb, sp_Scale, pp_Wide, pp_High, ac, dc, fc, ba, ma, i_s, i_p, i_sp_Weights, i_pp_Lights, bd_175, bd_176, pr0, pr1, pr2, pr3, pr4, (fun oa qa pa H' gg ow0 => h _ _ (k oa qa pa H' gg ow0))⟩
  ·exact hk.elim
 ·intro hq; cases hq
 ·intro args H K hk
  simp only [S_f13z] at *
  unfold F_f13z at *
  split at hk
  ·obtain ⟨bb, mb, pb, sp_Scale, pp_Wide, pp_High, ac, dc, fc, ba, ma, i_s, i_p, i_sp_Weights, i_pp_Lights, bd_175, bd_176, pr0, pr1, pr2, pr3, pr4, k⟩ := hk
   exact liveS fun a n e H1 g o => ⟨_, _, k a n e H1 g o⟩
  ·exact hk.elim
 ·intro _ args H K hk
  simp only [S_f13z] at *
  unfold F_f13z at *
  split at hk
  ·obtain ⟨bb, mb, pb, sp_Scale, pp_Wide, pp_High, ac, dc, fc, ba, ma, i_s, i_p, i_sp_Weights, i_pp_Lights, bd_175, bd_176, pr0, pr1, pr2, pr3, pr4, k⟩ := hk
   exact ⟨bb, mb, pb, sp_Scale, pp_Wide, pp_High, ac, dc, fc, ba, ma, i_s, i_p, i_sp_Weights, i_pp_Lights, bd_175, bd_176, pr0, pr1, pr2, pr3, pr4, (fun oa qa pa H' gg ow0 => ⟨gg, k oa qa pa H' gg ow0⟩)⟩
  ·exact hk.elim
 ·have mm := @f13z_main
  have ml := fun (args : List Value) (H : AHeap) (K : Value → AHeap → Prop) => bodyL_body (P := Try.prog) (env := E_f13z ) (fn := Try.f24) (args := args) (H := H) (K := K) E_f13z_ok 
  revert mm ml
  generalize bodyK Try.prog E_f13z Try.f24 = Q
  generalize bodyL Try.prog E_f13z Try.f24 = QL
  intro mm ml args H K hk
  simp only [S_f13z] at *
  unfold F_f13z at *
  split at hk
  ·exact ml _ H K (mm _ _ H K hk)
  ·exact hk.elim

def p_fyz (aa : LN) (s_Scale : Nat) (p_Wide : Int) (p_High : Int) (fa : LN) : Int × Int × LN × Bool := (bif !(p_f18z aa s_Scale p_Wide p_High fa) then ((0 : Int), (0 : Int), [], false) else ((p_f13z aa s_Scale p_Wide p_High fa).1, (p_f13z aa s_Scale p_Wide p_High fa).2.1, (p_f13z aa s_Scale p_Wide p_High fa).2.2.1, (p_f13z aa s_Scale p_Wide p_High fa).2.2.2))
def p_fyz_eq := @p_fyz.eq_1
def T_fyz (na : OA) (ya : Nat) (va : Nat) (s_Scale : Nat) (p_Wide : Int) (p_High : Int) (p_Lights_a : OA) (p_Lights_n : Nat) (p_Lights_e : Nat) (H : AHeap) (K : Int → Int → OA → Nat → Nat → Bool → AHeap → Prop) : Prop := ∃ (aa : LN), ∃ (fa : LN), IsL fF H na ya aa ∧ IsL fF H p_Lights_a p_Lights_n fa ∧ aa.length < 1073741824 ∧ fa.length < 1073741824 ∧ ((∀ (oa : OA) (qa pa : Nat), ∀ H' : AHeap, Grow H H' → OwnS fF H' H.length oa qa pa ((p_fyz aa s_Scale p_Wide p_High fa).2.2.1) → K ((p_fyz aa s_Scale p_Wide p_High fa).1) ((p_fyz aa s_Scale p_Wide p_High fa).2.1) oa qa pa ((p_fyz aa s_Scale p_Wide p_High fa).2.2.2) H'))
theorem T_fyz_i {na : OA} {ya : Nat} {va : Nat} {s_Scale : Nat} {p_Wide : Int} {p_High : Int} {p_Lights_a : OA} {p_Lights_n : Nat} {p_Lights_e : Nat} {H : AHeap} {K : Int → Int → OA → Nat → Nat → Bool → AHeap → Prop} (h : ∃ (aa : LN), ∃ (fa : LN), IsL fF H na ya aa ∧ IsL fF H p_Lights_a p_Lights_n fa ∧ aa.length < 1073741824 ∧ fa.length < 1073741824 ∧ ((∀ (oa : OA) (qa pa : Nat), ∀ H' : AHeap, Grow H H' → OwnS fF H' H.length oa qa pa ((p_fyz aa s_Scale p_Wide p_High fa).2.2.1) → K ((p_fyz aa s_Scale p_Wide p_High fa).1) ((p_fyz aa s_Scale p_Wide p_High fa).2.1) oa qa pa ((p_fyz aa s_Scale p_Wide p_High fa).2.2.2) H'))) : T_fyz na ya va s_Scale p_Wide p_High p_Lights_a p_Lights_n p_Lights_e H K := h
theorem fyz_len (ws : LN) (sc : Nat) (W Hi : Int) (l : LN) : (p_fyz ws sc W Hi l).2.2.1.length ≤ 1024 := by
 rw [p_fyz_eq]
 cases h : p_f18z ws sc W Hi l with
 | false => simp
 | true =>
  obtain ⟨h1, h2, h3, h4, _⟩ := f18z_t h
  have := l04Rows_go_len ws sc W Hi l h2 (Int.toNat (Hi - (0 : Int)) + 1) false 0 0 0 W Hi []
  rw [p_f13z_eq]
  simp only [List.length_nil] at this
  simp only [Bool.not_true, cond_false]
  omega
/-! fyz: function 17 -/
def E_fyz : Env := envOf [(22, S_f18z), (24, S_f13z)]
def F_fyz : List Value → AHeap → (Value → AHeap → Prop) → Prop
 | [.agg ⟨[.slice na ya va, .float .f32 s_Scale]⟩, .agg ⟨[.int .i64 p_Wide, .int .i64 p_High, .slice p_Lights_a p_Lights_n p_Lights_e]⟩], H, K => T_fyz na ya va s_Scale p_Wide p_High p_Lights_a p_Lights_n p_Lights_e H fun (r1_Wide : Int) (r1_High : Int) (oa : OA) (qa : Nat) (pa : Nat) (r2 : Bool) (H' : AHeap) => K (.tuple #[.agg #[.int .i64 r1_Wide, .int .i64 r1_High, .slice oa qa pa], .bool r2]) H'
 | _, _, _ => False
def S_fyz : FSpec := { F := F_fyz, quiet := false, tame := true }
theorem fyz_vc (na : OA) (ya : Nat) (va : Nat) (s_Scale : Nat) (p_Wide : Int) (p_High : Int) (p_Lights_a : OA) (p_Lights_n : Nat) (p_Lights_e : Nat) (H : AHeap) (K : Value → AHeap → Prop) : bodyL Try.prog E_fyz Try.f17 [.agg #[.slice na ya va, .float .f32 s_Scale], .agg #[.int .i64 p_Wide, .int .i64 p_High, .slice p_Lights_a p_Lights_n p_Lights_e]] H K =
 (Al [.slice na ya va, .float .f32 s_Scale] H fun b1 H1 => Al [.int .i64 p_Wide, .int .i64 p_High, .slice p_Lights_a p_Lights_n p_Lights_e] H1 fun b2 H2 => Al [.int .i64 0, .int .i64 0, .slice none 0 0] H2 fun b3 H3 => T_f18z b1 b2 H3 fun (r1 : Bool) (H4 : AHeap) => Br (!r1) (isOwn H4 b3 ∧ (∃ l, rdN H4 b3 0 3 = some l) ∧ Lt (setN H4 b3 0 [.int .i64 0, .int .i64 0, .slice none 0 0]) fun H5 => ∃ c1 : Int, ∃ c2 : Int, ∃ ve : OA, ∃ ze : Nat, ∃ ye : Nat,  rdN H5 b3 0 3 = some [.int .i64 c1, .int .i64 c2, .slice ve ze ye] ∧ K (.tuple #[.agg #[.int .i64 c1, .int .i64 c2, .slice ve ze ye], .bool false]) H5) (T_f13z b1 b2 H4 fun (r2 : Int) (r3 : Int) (a1 : OA) (r4 : Nat) (r5 : Nat) (r6 : Bool) (H6 : AHeap) => isOwn H6 b3 ∧ (∃ l, rdN H6 b3 0 3 = some l) ∧ Lt (setN H6 b3 0 [.int .i64 r2, .int .i64 r3, .slice a1 r4 r5]) fun H7 => ∃ c4 : Int, ∃ c5 : Int, ∃ af : OA, ∃ ff : Nat, ∃ df : Nat,  rdN H7 b3 0 3 = some [.int .i64 c4, .int .i64 c5, .slice af ff df] ∧ K (.tuple #[.agg #[.int .i64 c4, .int .i64 c5, .slice af ff df], .bool r6]) H7)) := by kernel_rfl
theorem E_fyz_ok : ∀ g, FnOk Try.prog g (E_fyz g) := FnOk.envOf (by
 intro x hx
 simp only [List.mem_cons, List.not_mem_nil, or_false] at hx
 rcases hx with rfl | rfl
 ·exact f18z_ok
 ·exact f13z_ok)
theorem fyz_main (na : OA) (ya : Nat) (va : Nat) (s_Scale : Nat) (p_Wide : Int) (p_High : Int) (p_Lights_a : OA) (p_Lights_n : Nat) (p_Lights_e : Nat) (H : AHeap) (K : Value → AHeap → Prop) (h : T_fyz na ya va s_Scale p_Wide p_High p_Lights_a p_Lights_n p_Lights_e H fun (r1_Wide : Int) (r1_High : Int) (oa : OA) (qa : Nat) (pa : Nat) (r2 : Bool) (H' : AHeap) => K (.tuple #[.agg #[.int .i64 r1_Wide, .int .i64 r1_High, .slice oa qa pa], .bool r2]) H') : bodyL Try.prog E_fyz Try.f17 [.agg #[.slice na ya va, .float .f32 s_Scale], .agg #[.int .i64 p_Wide, .int .i64 p_High, .slice p_Lights_a p_Lights_n p_Lights_e]] H K := by
 rw [fyz_vc]
 obtain ⟨aa, fa, i_s_Weights, i_p_Lights, bd_78, bd_79, hk⟩ := h
 obtain rfl := i_s_Weights.eqn
 obtain rfl := i_p_Lights.eqn
 have e : (p_fyz aa s_Scale p_Wide p_High fa) = _ := rfl
 have e := e.trans (p_fyz_eq aa s_Scale p_Wide p_High fa)
 have g0 := Grow.refl H
 refine Al.intro (fun b_1 H_1 hb_2 hl_3 g_4 o_5 => ?_)
 have l_7 := g_4.1
 have g_8 := g0.trans g_4
 have l_9 := g_8.1
 have w77 := o_5.lt
 refine Al.intro (fun b_10 H_2 hb_11 hl_12 g13 o_14 => ?_)
 have l_16 := g13.1
 have g17 := g_8.trans g13
 have l_18 := g17.1
 have o19 := o_5.grow g13
 have w20 := o19.lt
 have w76 := o_14.lt
 refine Al.intro (fun b_21 H_3 hb_22 hl_23 g24 o25 => ?_)
 have l27 := g24.1
 have g28 := g17.trans g24
 have l29 := g28.1
 have o30 := o19.grow g24
 have w31 := o30.lt
 have o32 := o_14.grow g24
 have w33 := o32.lt
 have w75 := o25.lt
 refine T_f18z_i ⟨na, aa.length, va, s_Scale, p_Wide, p_High, p_Lights_a, fa.length, p_Lights_e, _, _, ((o30.rdN (Nat.le_of_ble_eq_true rfl)).trans rfl), ((o32.rdN (Nat.le_of_ble_eq_true rfl)).trans rfl), (i_s_Weights.grow g28), (i_p_Lights.grow g28), ω0, ω0, ?_⟩
 refine Br.intro (fun c_34 => ?_) (fun c_34 => ?_)
 ·have e := e.trans (cond_t c_34)
  have c_34n := nf_of_t c_34
  refine Lt.setN (n := 3) o25 (Nat.le_of_ble_eq_true rfl) rfl (fun H_4 hl_35 o37 k36 => ?_)
  have o37 : Own H_4 b_21 [.int .i64 0, .int .i64 0, .slice none 0 0] := o37
  have l38 := k36.1
  have g39 := g28.keep (b := b_21) ω2 k36
  have l40 := g39.1
  have o41 := o30.keep ω2 k36
  have w42 := o41.lt
  have o43 := o32.keep ω2 k36
  have w44 := o43.lt
  have w45 := o37.lt
  refine ⟨0, 0, none, 0, 0, (o37.rdN (Nat.le_of_ble_eq_true rfl)).trans rfl, ?_⟩
  rw [e] at hk
  exact hk _ _ _ H_4 g39 ω18
 ·have e := e.trans (cond_f c_34)
  have c_34n := nt_of_f c_34
  have c_34n' := f18z_t c_34n
  refine T_f13z_i ⟨na, aa.length, va, s_Scale, p_Wide, p_High, p_Lights_a, fa.length, p_Lights_e, _, _, ((o30.rdN (Nat.le_of_ble_eq_true rfl)).trans rfl), ((o32.rdN (Nat.le_of_ble_eq_true rfl)).trans rfl), (i_s_Weights.grow g28), (i_p_Lights.grow g28), ω0, ω0, ω14, ω14, ω14, ω14, ω14, fun a46 n47 e48 H_5 g50 r_49 => ?_⟩
  have l51 := g50.1
  have g52 := g28.trans g50
  have l53 := g52.1
  have o54 := o30.grow g50
  have w55 := o54.lt
  have o56 := o32.grow g50
  have w57 := o56.lt
  have o58 := o25.grow g50
  have w59 := o58.lt
  obtain rfl := r_49.isL.eqn
  have u60 := r_49.up
  have u61 := r_49.lo
  refine Lt.setN (n := 3) o58 (Nat.le_of_ble_eq_true rfl) rfl (fun H_6 hl_63 o65 k64 => ?_)
  have o65 : Own H_6 b_21 [.int .i64 ((p_f13z aa s_Scale p_Wide p_High fa).1), .int .i64 ((p_f13z aa s_Scale p_Wide p_High fa).2.1), .slice a46 (((p_f13z aa s_Scale p_Wide p_High fa).2.2.1).length) e48] := o65
  have l66 := k64.1
  have g67 := g52.keep (b := b_21) ω2 k64
  have l68 := g67.1
  have o69 := o54.keep ω2 k64
  have w70 := o69.lt
  have o71 := o56.keep ω2 k64
  have w72 := o71.lt
  have r73 := r_49.keep u60 ω2 k64
  have w74 := o65.lt
  refine ⟨(p_f13z aa s_Scale p_Wide p_High fa).1, (p_f13z aa s_Scale p_Wide p_High fa).2.1, a46, ((p_f13z aa s_Scale p_Wide p_High fa).2.2.1).length, e48, (o65.rdN (Nat.le_of_ble_eq_true rfl)).trans rfl, ?_⟩
  rw [e] at hk
  exact hk _ _ _ H_6 g67 (r73.weak ω2)
theorem fyz_ok : FnOk Try.prog 17 S_fyz := by
 refine FnOk.body mix_ok E_fyz_ok Try.func17 rfl ω9 ω9 ?_ ?_ ?_ ?_ ?_
 ·intro args H K K' h hk
  simp only [S_fyz] at *
  unfold F_fyz at *
  split at hk
  ·obtain ⟨aa, fa, i_s_Weights, i_p_Lights, bd_78, bd_79, k⟩ := hk
   exact ⟨aa, fa, i_s_Weights, i_p_Lights, bd_78, bd_79, (fun oa qa pa H' gg ow0 => h _ _ (k oa qa pa H' gg ow0))⟩
  ·exact hk.elim
 ·intro hq; cases hq
 ·intro args H K hk
  simp only [S_fyz] at *
  unfold F_fyz at *
  split at hk
  ·obtain ⟨aa, fa, i_s_Weights, i_p_Lights, bd_78, bd_79, k⟩ := hk
   exact liveS fun a n e H1 g o => ⟨_, _, k a n e H1 g o⟩
  ·exact hk.elim
 ·intro _ args H K hk
  simp only [S_fyz] at *
  unfold F_fyz at *
  split at hk
  ·obtain ⟨aa, fa, i_s_Weights, i_p_Lights, bd_78, bd_79, k⟩ := hk
   exact ⟨aa, fa, i_s_Weights, i_p_Lights, bd_78, bd_79, (fun oa qa pa H' gg ow0 => ⟨gg, k oa qa pa H' gg ow0⟩)⟩
  ·exact hk.elim
 ·have mm := @fyz_main
  have ml := fun (args : List Value) (H : AHeap) (K : Value → AHeap → Prop) => bodyL_body (P := Try.prog) (env := E_fyz ) (fn := Try.f17) (args := args) (H := H) (K := K) E_fyz_ok 
  revert mm ml
  generalize bodyK Try.prog E_fyz Try.f17 = Q
  generalize bodyL Try.prog E_fyz Try.f17 = QL
  intro mm ml args H K hk
  simp only [S_fyz] at *
  unfold F_fyz at *
  split at hk
  ·exact ml _ H K (mm _ _ _ _ _ _ _ _ _ H K hk)
  ·exact hk.elim
def p_f17z (n : Int) (low : Int) (high : Int) : Bool := (bif decide ((low : Int) ≤ n) then decide ((n : Int) ≤ high) else false)
def T_f17z (n : Int) (low : Int) (high : Int) (H : AHeap) (K : Bool → AHeap → Prop) : Prop := K (p_f17z n low high) H
theorem f17z_t {n a b : Int} (h : p_f17z n a b = true) : a ≤ n ∧ n ≤ b := by
 unfold p_f17z at h
 by_cases h1 : a ≤ n
 ·rw [decide_eq_true h1, cond_true] at h; exact ⟨h1, of_decide_eq_true h⟩
 ·rw [decide_eq_false h1] at h; cases h
theorem T_f17z_i {n : Int} {low : Int} {high : Int} {H : AHeap} {K : Bool → AHeap → Prop} (h : K (p_f17z n low high) H) : T_f17z n low high H K := h
/-! f17z: function 28 -/
def E_f17z : Env := envOf []
def F_f17z : List Value → AHeap → (Value → AHeap → Prop) → Prop
 | [.int .i64 n, .int .i64 low, .int .i64 high], H, K => T_f17z n low high H fun (r1 : Bool) (H' : AHeap) => K (.bool r1) H'
 | _, _, _ => False
def S_f17z : FSpec := { F := F_f17z, quiet := true, tame := false }
theorem f17z_vc (n : Int) (low : Int) (high : Int) (H : AHeap) (K : Value → AHeap → Prop) : bodyL Try.prog E_f17z Try.f28 [.int .i64 n, .int .i64 low, .int .i64 high] H K =
 (Br (decide ((low : Int) ≤ n)) (K (.bool (decide ((n : Int) ≤ high))) H) (K (.bool false) H)) := by kernel_rfl
theorem E_f17z_ok : ∀ g, FnOk Try.prog g (E_f17z g) := FnOk.envOf (by
 intro x hx; cases hx)
theorem f17z_main (n : Int) (low : Int) (high : Int) (H : AHeap) (K : Value → AHeap → Prop) (h : T_f17z n low high H fun (r1 : Bool) (H' : AHeap) => K (.bool r1) H') : bodyL Try.prog E_f17z Try.f28 [.int .i64 n, .int .i64 low, .int .i64 high] H K := by
 rw [f17z_vc]
 unfold T_f17z p_f17z at h
 repeat' (first | exact h | (exfalso; simp_all; done) | (refine ⟨by decide, ?_⟩) | (refine Br.intro (fun hb => ?_) (fun hb => ?_) <;> (try simp only [hb, cond_true, cond_false, Bool.not_true, Bool.not_false] at h)))
theorem f17z_ok : FnOk Try.prog 28 S_f17z := by
 refine FnOk.body mix_ok E_f17z_ok Try.func28 rfl ω9 ω9 ?_ ?_ ?_ ?_ ?_
 ·intro args H K K' h hk
  simp only [S_f17z] at *
  unfold F_f17z at *
  split at hk
  ·have k := hk
   exact h _ _ k
  ·exact hk.elim
 ·intro _ args H K hk
  simp only [S_f17z] at *
  unfold F_f17z at *
  split at hk
  ·have k := hk
   exact ⟨_, k, fun K' k' => k'⟩
  ·exact hk.elim
 ·intro args H K hk
  simp only [S_f17z] at *
  unfold F_f17z at *
  split at hk
  ·have k := hk
   exact ⟨_, _, k⟩
  ·exact hk.elim
 ·intro hq; cases hq
 ·have mm := @f17z_main
  have ml := fun (args : List Value) (H : AHeap) (K : Value → AHeap → Prop) => bodyL_body (P := Try.prog) (env := E_f17z ) (fn := Try.f28) (args := args) (H := H) (K := K) E_f17z_ok 
  revert mm ml
  generalize bodyK Try.prog E_f17z Try.f28 = Q
  generalize bodyL Try.prog E_f17z Try.f28 = QL
  intro mm ml args H K hk
  simp only [S_f17z] at *
  unfold F_f17z at *
  split at hk
  ·exact ml _ H K (mm _ _ _ H K hk)
  ·exact hk.elim
def p_fqz (x : Nat) : Bool := feq .f32 (fsub .f32 x x) 0
def T_fqz (x : Nat) (H : AHeap) (K : Bool → AHeap → Prop) : Prop := K (p_fqz x) H

theorem T_fqz_i {x : Nat} {H : AHeap} {K : Bool → AHeap → Prop} (h : K (p_fqz x) H) : T_fqz x H K := h
/-! fqz: function 59 -/
def E_fqz : Env := envOf []
def F_fqz : List Value → AHeap → (Value → AHeap → Prop) → Prop
 | [.float .f32 x], H, K => T_fqz x H fun (r1 : Bool) (H' : AHeap) => K (.bool r1) H'
 | _, _, _ => False
def S_fqz : FSpec := { F := F_fqz, quiet := true, tame := false }
theorem fqz_vc (x : Nat) (H : AHeap) (K : Value → AHeap → Prop) : bodyL Try.prog E_fqz Try.f59 [.float .f32 x] H K =
 (K (.bool (feq .f32 (fsub .f32 x x) 0)) H) := by kernel_rfl
theorem E_fqz_ok : ∀ g, FnOk Try.prog g (E_fqz g) := FnOk.envOf (by
 intro x hx; cases hx)
theorem fqz_main (x : Nat) (H : AHeap) (K : Value → AHeap → Prop) (h : T_fqz x H fun (r1 : Bool) (H' : AHeap) => K (.bool r1) H') : bodyL Try.prog E_fqz Try.f59 [.float .f32 x] H K := by
 rw [fqz_vc]
 unfold T_fqz p_fqz at h
 repeat' (first | exact h | (exfalso; simp_all; done) | (refine ⟨by decide, ?_⟩) | (refine Br.intro (fun hb => ?_) (fun hb => ?_) <;> (try simp only [hb, cond_true, cond_false, Bool.not_true, Bool.not_false] at h)))
theorem fqz_ok : FnOk Try.prog 59 S_fqz := by
 refine FnOk.body mix_ok E_fqz_ok Try.func59 rfl ω9 ω9 ?_ ?_ ?_ ?_ ?_
 ·intro args H K K' h hk
  simp only [S_fqz] at *
  unfold F_fqz at *
  split at hk
  ·have k := hk
   exact h _ _ k
  ·exact hk.elim
 ·intro _ args H K hk
  simp only [S_fqz] at *
  unfold F_fqz at *
  split at hk
  ·have k := hk
   exact ⟨_, k, fun K' k' => k'⟩
  ·exact hk.elim
 ·intro args H K hk
  simp only [S_fqz] at *
  unfold F_fqz at *
  split at hk
  ·have k := hk
   exact ⟨_, _, k⟩
  ·exact hk.elim
 ·intro hq; cases hq
 ·have mm := @fqz_main
  have ml := fun (args : List Value) (H : AHeap) (K : Value → AHeap → Prop) => bodyL_body (P := Try.prog) (env := E_fqz ) (fn := Try.f59) (args := args) (H := H) (K := K) E_fqz_ok 
  revert mm ml
  generalize bodyK Try.prog E_fqz Try.f59 = Q
  generalize bodyL Try.prog E_fqz Try.f59 = QL
  intro mm ml args H K hk
  simp only [S_fqz] at *
  unfold F_fqz at *
  split at hk
  ·exact ml _ H K (mm _ H K hk)
  ·exact hk.elim

def p_fhz_l2 (ic : List LN) (t2 : Bool) (t9 : Int) (k2_2 : Bool → Int → Bool) : Nat → Bool → Int → Bool
 | 0, _, _ => false
 | μ2 + 1, t2_2, t15 => (bif decide ((t15 : Int) < ((((ic).getD (t9 : Int).toNat [])).length : Int)) then (bif !((p_fqz (((((ic).getD (t9 : Int).toNat [])).getD (t15 : Int).toNat 0)))) then false else (p_fhz_l2 ic t2 t9 k2_2 μ2 t2_2 (t15 + 1))) else (k2_2 t2_2 t15))
def p_fhz_l2_s := fun ic t2 t9 k2_2 μ2 t2_2 t15 => @p_fhz_l2.eq_2 ic t2 t9 k2_2 t2_2 t15 μ2
def p_fhz_l1 (ic : List LN) : Nat → Bool → Int → Bool
 | 0, _, _ => false
 | μ + 1, t2, t9 => (bif decide ((t9 : Int) < (ic.length : Int)) then (p_fhz_l2 ic t2 t9 (fun (t2_2 : Bool) (t15 : Int) => (p_fhz_l1 ic μ t2_2 (t9 + 1))) (Int.toNat (((((ic).getD (t9 : Int).toNat [])).length : Int) - (0 : Int)) + 1) t2 (0 : Int)) else true)
def p_fhz_l1_s := fun ic μ t2 t9 => @p_fhz_l1.eq_2 ic t2 t9 μ
def p_fhz (ic : List LN) : Bool := (p_fhz_l1 ic (Int.toNat ((ic.length : Int) - (0 : Int)) + 1) false (0 : Int))
def p_fhz_eq := @p_fhz.eq_1
def T_fhz (jc : OA) (gc : Nat) (lc : Nat) (H : AHeap) (K : Bool → AHeap → Prop) : Prop := ∃ (ic : List LN), IsLL fF H jc gc ic ∧ ic.length < 1073741824 ∧ (∀ y ∈ ic, y.length < 1073741824) ∧ K (p_fhz ic) H
theorem T_fhz_i {jc : OA} {gc : Nat} {lc : Nat} {H : AHeap} {K : Bool → AHeap → Prop} (h : ∃ (ic : List LN), IsLL fF H jc gc ic ∧ ic.length < 1073741824 ∧ (∀ y ∈ ic, y.length < 1073741824) ∧ K (p_fhz ic) H) : T_fhz jc gc lc H K := h

/-! fhz: function 42 -/
def E_fhz : Env := envOf [(59, S_fqz)]
def F_fhz : List Value → AHeap → (Value → AHeap → Prop) → Prop
 | [.slice jc gc lc], H, K => T_fhz jc gc lc H fun (r1 : Bool) (H' : AHeap) => K (.bool r1) H'
 | _, _, _ => False
def S_fhz : FSpec := { F := F_fhz, quiet := true, tame := false }
theorem fhz_vc (jc : OA) (gc : Nat) (lc : Nat) (H : AHeap) (K : Value → AHeap → Prop) : bodyL Try.prog E_fhz Try.f42 [.slice jc gc lc] H K =
 (loopK (exL Try.prog E_fhz (cl (cl (cr (cl (cr (bodyC Try.f42)))))) 896 4 [(0, 0)]) (ud7 (.slice jc gc lc :: .int .i64 (gc : Int) :: .int .i64 0 :: ud14 [])) H (blockQ 0 (seqQ (exL Try.prog E_fhz (cr (cr (bodyC Try.f42))) 4 4 []) (retK Try.prog Try.f42 K)))) := by kernel_rfl
abbrev fhz_P1 (jc : OA) (lc : Nat) (gc : Nat) (t9 : Int)  : List Value := (ud7 (.slice jc gc lc :: .int .i64 (gc : Int) :: .int .i64 t9 :: ud14 []))
theorem fhz_r1 (jc : OA) (lc : Nat) (gc : Nat) (t9 : Int)  (H : AHeap) (R : Post) : exL Try.prog E_fhz (cl (cl (cr (cl (cr (bodyC Try.f42)))))) 896 4 [(0, 0)] (fhz_P1 jc lc gc t9) H R =
 (Br (decide ((t9 : Int) < (gc : Int))) ((0 : Int) ≤ t9 ∧ t9 < (gc : Int) ∧ ∃ b1 f1, (jc : OA) = some ⟨b1, f1, none⟩ ∧ ∃ nd : OA, ∃ yc : Nat, ∃ od : Nat,  rdC H b1 (f1 + (t9 : Int).toNat * 1) = some (.slice nd yc od) ∧ loopK (exL Try.prog E_fhz (cl (cl (cr (cr (cl (cl (cr (cr (cl (cl (cr (cl (cr (bodyC Try.f42)))))))))))))) 58240 4 [(2, 896), (1, 896), (0, 0)]) (ud7 (.slice jc gc lc :: .int .i64 (gc : Int) :: .int .i64 t9 :: ud3 (.slice nd yc od :: .int .i64 (yc : Int) :: .int .i64 0 :: ud8 []))) H (blockQ 2 (blockQ 1 (seqQ (exL Try.prog E_fhz (cr (cr (cr (cl (cl (cr (cl (cr (bodyC Try.f42))))))))) 896 4 [(0, 0)]) (R))))) (R (.exit 0) (ud24 []) H)) := by kernel_rfl
def fhz_I1 (jc : OA) (lc : Nat) (gc : Nat) (Inv : Nat → Int → AHeap → Prop) : Nat → List Value → AHeap → Prop := fun μ tm H => ∃ (t9 : Int), tm = (fhz_P1 jc lc gc t9) ∧ Inv μ t9 H
theorem fhz_L1 (jc : OA) (lc : Nat) (gc : Nat) {Q : Post} (Inv : Nat → Int → AHeap → Prop) (ν : Nat) (t9 : Int)  (H : AHeap) (h0 : Inv ν t9 H)
  (hs : ∀ (μ : Nat) (t9 : Int)  (H : AHeap), Inv μ t9 H → exL Try.prog E_fhz (cl (cl (cr (cl (cr (bodyC Try.f42)))))) 896 4 [(0, 0)] (fhz_P1 jc lc gc t9) H (loopQ (fhz_I1 jc lc gc Inv) μ Q)) : loopK (exL Try.prog E_fhz (cl (cl (cr (cl (cr (bodyC Try.f42)))))) 896 4 [(0, 0)]) (fhz_P1 jc lc gc t9) H Q :=
 ⟨fhz_I1 jc lc gc Inv, ν, ⟨t9, rfl, h0⟩, fun μ tm H h => by obtain ⟨t9, rfl, hI⟩ := h; exact hs μ t9  H hI⟩
theorem fhz_n1 {jc : OA} {lc : Nat} {gc : Nat} {Q : Post} {Inv : Nat → Int → AHeap → Prop} {μ : Nat} (μ' : Nat) {t9 : Int}  {H : AHeap} (hm : μ' < μ) (hI : Inv μ' t9 H) : loopQ (fhz_I1 jc lc gc Inv) μ Q .normal (fhz_P1 jc lc gc t9) H := ⟨μ', hm, t9, rfl, hI⟩
theorem fhz_x1_0  (H : AHeap) (K : Value → AHeap → Prop)  {I : Nat → List Value → AHeap → Prop} {μ : Nat} : loopQ I μ (blockQ 0 (seqQ (exL Try.prog E_fhz (cr (cr (bodyC Try.f42))) 4 4 []) (retK Try.prog Try.f42 K))) (.exit 0) (ud24 []) H =
 (K (.bool true) H) := by kernel_rfl
theorem fhz_x1_ret (t2 : Bool) (H : AHeap) (K : Value → AHeap → Prop)  {I : Nat → List Value → AHeap → Prop} {μ : Nat} : loopQ I μ (blockQ 0 (seqQ (exL Try.prog E_fhz (cr (cr (bodyC Try.f42))) 4 4 []) (retK Try.prog Try.f42 K))) .ret (ud2 (.bool t2 :: ud21 [])) H =
 (K (.bool t2) H) := by kernel_rfl
abbrev fhz_P2 (jc : OA) (lc : Nat) (gc : Nat) (t9 : Int) (nd : OA) (od : Nat) (yc : Nat) (t15 : Int)  : List Value := (ud7 (.slice jc gc lc :: .int .i64 (gc : Int) :: .int .i64 t9 :: ud3 (.slice nd yc od :: .int .i64 (yc : Int) :: .int .i64 t15 :: ud8 [])))
theorem fhz_r2 (jc : OA) (lc : Nat) (gc : Nat) (t9 : Int) (nd : OA) (od : Nat) (yc : Nat) (t15 : Int)  (H : AHeap) (R : Post) : exL Try.prog E_fhz (cl (cl (cr (cr (cl (cl (cr (cr (cl (cl (cr (cl (cr (bodyC Try.f42)))))))))))))) 58240 4 [(2, 896), (1, 896), (0, 0)] (fhz_P2 jc lc gc t9 nd od yc t15) H R =
 (Br (decide ((t15 : Int) < (yc : Int))) ((0 : Int) ≤ t15 ∧ t15 < (yc : Int) ∧ ∃ b2 f2, (nd : OA) = some ⟨b2, f2, none⟩ ∧ ∃ x2 : Nat,  rdC H b2 (f2 + (t15 : Int).toNat * 1) = some (.float .f32 x2) ∧ T_fqz x2 H fun (r1 : Bool) (H1 : AHeap) => Br (!r1) (R .ret (ud2 (.bool false :: ud21 [])) H1) (R .normal (ud7 (.slice jc gc lc :: .int .i64 (gc : Int) :: .int .i64 t9 :: ud3 (.slice nd yc od :: .int .i64 (yc : Int) :: .int .i64 (IntKind.wrap .i64 (t15 + 1)) :: ud8 []))) H1)) (R (.exit 2) (ud7 (.slice jc gc lc :: .int .i64 (gc : Int) :: .int .i64 t9 :: ud14 [])) H)) := by kernel_rfl
def fhz_I2 (jc : OA) (lc : Nat) (gc : Nat) (t9 : Int) (nd : OA) (od : Nat) (yc : Nat) (Inv : Nat → Int → AHeap → Prop) : Nat → List Value → AHeap → Prop := fun μ tm H => ∃ (t15 : Int), tm = (fhz_P2 jc lc gc t9 nd od yc t15) ∧ Inv μ t15 H
theorem fhz_L2 (jc : OA) (lc : Nat) (gc : Nat) (t9 : Int) (nd : OA) (od : Nat) (yc : Nat) {Q : Post} (Inv : Nat → Int → AHeap → Prop) (ν : Nat) (t15 : Int)  (H : AHeap) (h0 : Inv ν t15 H)
  (hs : ∀ (μ : Nat) (t15 : Int)  (H : AHeap), Inv μ t15 H → exL Try.prog E_fhz (cl (cl (cr (cr (cl (cl (cr (cr (cl (cl (cr (cl (cr (bodyC Try.f42)))))))))))))) 58240 4 [(2, 896), (1, 896), (0, 0)] (fhz_P2 jc lc gc t9 nd od yc t15) H (loopQ (fhz_I2 jc lc gc t9 nd od yc Inv) μ Q)) : loopK (exL Try.prog E_fhz (cl (cl (cr (cr (cl (cl (cr (cr (cl (cl (cr (cl (cr (bodyC Try.f42)))))))))))))) 58240 4 [(2, 896), (1, 896), (0, 0)]) (fhz_P2 jc lc gc t9 nd od yc t15) H Q :=
 ⟨fhz_I2 jc lc gc t9 nd od yc Inv, ν, ⟨t15, rfl, h0⟩, fun μ tm H h => by obtain ⟨t15, rfl, hI⟩ := h; exact hs μ t15  H hI⟩
theorem fhz_n2 {jc : OA} {lc : Nat} {gc : Nat} {t9 : Int} {nd : OA} {od : Nat} {yc : Nat} {Q : Post} {Inv : Nat → Int → AHeap → Prop} {μ : Nat} (μ' : Nat) {t15 : Int}  {H : AHeap} (hm : μ' < μ) (hI : Inv μ' t15 H) : loopQ (fhz_I2 jc lc gc t9 nd od yc Inv) μ Q .normal (fhz_P2 jc lc gc t9 nd od yc t15) H := ⟨μ', hm, t15, rfl, hI⟩
theorem fhz_x2_2 (jc : OA) (lc : Nat) (gc : Nat) (t9 : Int) (H : AHeap)  (R : Post) {I : Nat → List Value → AHeap → Prop} {μ : Nat} : loopQ I μ (blockQ 2 (blockQ 1 (seqQ (exL Try.prog E_fhz (cr (cr (cr (cl (cl (cr (cl (cr (bodyC Try.f42))))))))) 896 4 [(0, 0)]) (R)))) (.exit 2) (ud7 (.slice jc gc lc :: .int .i64 (gc : Int) :: .int .i64 t9 :: ud14 [])) H =
 (R .normal (ud7 (.slice jc gc lc :: .int .i64 (gc : Int) :: .int .i64 (IntKind.wrap .i64 (t9 + 1)) :: ud14 [])) H) := by kernel_rfl
theorem fhz_x2_ret (t2_2 : Bool) (H : AHeap)  (R : Post) {I : Nat → List Value → AHeap → Prop} {μ : Nat} : loopQ I μ (blockQ 2 (blockQ 1 (seqQ (exL Try.prog E_fhz (cr (cr (cr (cl (cl (cr (cl (cr (bodyC Try.f42))))))))) 896 4 [(0, 0)]) (R)))) .ret (ud2 (.bool t2_2 :: ud21 [])) H =
 (R .ret (ud2 (.bool t2_2 :: ud21 [])) H) := by kernel_rfl
theorem E_fhz_ok : ∀ g, FnOk Try.prog g (E_fhz g) := FnOk.envOf (by
 intro x hx
 simp only [List.mem_cons, List.not_mem_nil, or_false] at hx
 subst hx; exact fqz_ok)
theorem fhz_main (jc : OA) (gc : Nat) (lc : Nat) (H : AHeap) (K : Value → AHeap → Prop) (h : T_fhz jc gc lc H fun (r1 : Bool) (H' : AHeap) => K (.bool r1) H') : bodyL Try.prog E_fhz Try.f42 [.slice jc gc lc] H K := by
 rw [fhz_vc]
 obtain ⟨ic, i_lists, bd_22, bb_l_lists, hk⟩ := h
 obtain rfl := i_lists.eqn
 have e : (p_fhz ic) = _ := rfl
 have e := e.trans (p_fhz_eq ic)
 have g0 := Grow.refl H
 refine fhz_L1 _ _ _ (fun (μ : Nat) (t9 : Int) (H_1 : AHeap) => ∃ (t2 : Bool), H = H_1 ∧ (0 : Int) ≤ t9 ∧ t9 ≤ (ic.length : Int) ∧ (ic.length : Int) - t9 ≤ (μ : Int) ∧ p_fhz ic = p_fhz_l1 ic (μ + 1) t2 t9) (Int.toNat ((ic.length : Int) - (0 : Int))) _ H ?_ ?_
 ·exact ⟨_, rfl, ω6, ω6, ω2, e⟩
 ·intro μ t9  H_1 hI
  obtain ⟨t2, rfl, v_1, v_2, hμ, e⟩ := hI
  rw [fhz_r1]
  have e := e.trans (p_fhz_l1_s ic μ t2 t9)
  have l_3 := g0.1
  refine Br.intro (fun c_4 => ?_) (fun c_4 => ?_)
  ·have e := e.trans (cond_t c_4)
   have c_4' := of_decide_eq_true c_4
   obtain ⟨b_5, f_6, q_7⟩ := ((i_lists.grow g0)).pos ω0
   refine ⟨by omega, by omega, b_5, f_6, q_7, ?_⟩
   obtain ⟨a_8, n9, e10, r_11, pd⟩ := (i_lists).rd (i := (t9 : Int).toNat) g0 q_7 ω2
   obtain rfl := pd.eqn
   refine ⟨a_8, _, e10, r_11, ?_⟩
   have z13 := getD_len bb_l_lists (t9 : Int).toNat
   refine fhz_L2 _ _ _ _ _ _ _ (fun (μ2 : Nat) (t15 : Int) (H_2 : AHeap) => ∃ (t2_2 : Bool), H = H_2 ∧ (0 : Int) ≤ t15 ∧ t15 ≤ ((((ic).getD (t9 : Int).toNat [])).length : Int) ∧ ((((ic).getD (t9 : Int).toNat [])).length : Int) - t15 ≤ (μ2 : Int) ∧ p_fhz ic = p_fhz_l2 ic t2 t9 (fun (t2_2 : Bool) (t15 : Int) => (p_fhz_l1 ic μ t2_2 (t9 + 1))) (μ2 + 1) t2_2 t15) (Int.toNat (((((ic).getD (t9 : Int).toNat [])).length : Int) - (0 : Int))) _ H ?_ ?_
   ·exact ⟨_, rfl, ω6, ω6, ω2, e⟩
   ·intro μ2 t15  H_2 hI
    obtain ⟨t2_2, rfl, v_14, v_15, hμ, e⟩ := hI
    rw [fhz_r2]
    have e := e.trans (p_fhz_l2_s ic t2 t9 (fun (t2_2 : Bool) (t15 : Int) => (p_fhz_l1 ic μ t2_2 (t9 + 1))) μ2 t2_2 t15)
    have l_16 := g0.1
    refine Br.intro (fun c_17 => ?_) (fun c_17 => ?_)
    ·have e := e.trans (cond_t c_17)
     have c_17' := of_decide_eq_true c_17
     obtain ⟨b18, f19, q_20⟩ := ((pd.grow g0)).pos ω0
     refine ⟨by omega, by omega, b18, f19, q_20, ?_⟩
     refine ⟨((((ic).getD (t9 : Int).toNat [])).getD (t15 : Int).toNat 0), (pd).rd g0 q_20 ω2 _, ?_⟩
     refine T_fqz_i ?_
     refine Br.intro (fun c_21 => ?_) (fun c_21 => ?_)
     ·have e := e.trans (cond_t c_21)
      have c_21n := nf_of_t c_21
      rw [fhz_x2_ret]
      rw [fhz_x1_ret]
      rw [e] at hk
      exact hk
     ·have e := e.trans (cond_f c_21)
      have c_21n := nt_of_f c_21
      rw [show IntKind.wrap .i64 (t15 + 1) = (t15 + 1) from wrap64 ω2 ω2]
      refine fhz_n2 (μ2 - 1) ω15 ⟨_, rfl, ω1, ω1, ω15, ω23⟩
    ·have e := e.trans (cond_f c_17)
     have c_17' := of_decide_eq_false c_17
     rw [fhz_x2_2]
     rw [show IntKind.wrap .i64 (t9 + 1) = (t9 + 1) from wrap64 ω2 ω2]
     refine fhz_n1 (μ - 1) ω15 ⟨_, rfl, ω1, ω1, ω15, ω13⟩
  ·have e := e.trans (cond_f c_4)
   have c_4' := of_decide_eq_false c_4
   rw [fhz_x1_0]
   rw [e] at hk
   exact hk
theorem fhz_ok : FnOk Try.prog 42 S_fhz := by
 refine FnOk.body mix_ok E_fhz_ok Try.func42 rfl ω9 ω9 ?_ ?_ ?_ ?_ ?_
 ·intro args H K K' h hk
  simp only [S_fhz] at *
  unfold F_fhz at *
  split at hk
  ·obtain ⟨ic, i_lists, bd_22, bb_l_lists, k⟩ := hk
   exact ⟨ic, i_lists, bd_22, bb_l_lists, h _ _ k⟩
  ·exact hk.elim
 ·intro _ args H K hk
  simp only [S_fhz] at *
  unfold F_fhz at *
  split at hk
  ·obtain ⟨ic, i_lists, bd_22, bb_l_lists, k⟩ := hk
   exact ⟨_, k, fun K' k' => ⟨ic, i_lists, bd_22, bb_l_lists, k'⟩⟩
  ·exact hk.elim
 ·intro args H K hk
  simp only [S_fhz] at *
  unfold F_fhz at *
  split at hk
  ·obtain ⟨ic, i_lists, bd_22, bb_l_lists, k⟩ := hk
   exact ⟨_, _, k⟩
  ·exact hk.elim
 ·intro hq; cases hq
 ·have mm := @fhz_main
  have ml := fun (args : List Value) (H : AHeap) (K : Value → AHeap → Prop) => bodyL_body (P := Try.prog) (env := E_fhz ) (fn := Try.f42) (args := args) (H := H) (K := K) E_fhz_ok 
  revert mm ml
  generalize bodyK Try.prog E_fhz Try.f42 = Q
  generalize bodyL Try.prog E_fhz Try.f42 = QL
  intro mm ml args H K hk
  simp only [S_fhz] at *
  unfold F_fhz at *
  split at hk
  ·exact ml _ H K (mm _ _ _ H K hk)
  ·exact hk.elim
def p_f15z (x : Nat) : Bool := (bif (p_fqz x) then flt .f32 0 x else false)
def T_f15z (x : Nat) (H : AHeap) (K : Bool → AHeap → Prop) : Prop := K (p_f15z x) H

theorem T_f15z_i {x : Nat} {H : AHeap} {K : Bool → AHeap → Prop} (h : K (p_f15z x) H) : T_f15z x H K := h
/-! f15z: function 43 -/
def E_f15z : Env := envOf [(59, S_fqz)]
def F_f15z : List Value → AHeap → (Value → AHeap → Prop) → Prop
 | [.float .f32 x], H, K => T_f15z x H fun (r1 : Bool) (H' : AHeap) => K (.bool r1) H'
 | _, _, _ => False
def S_f15z : FSpec := { F := F_f15z, quiet := true, tame := false }
theorem f15z_vc (x : Nat) (H : AHeap) (K : Value → AHeap → Prop) : bodyL Try.prog E_f15z Try.f43 [.float .f32 x] H K =
 (T_fqz x H fun (r1 : Bool) (H1 : AHeap) => Br r1 (K (.bool (flt .f32 0 x)) H1) (K (.bool false) H1)) := by kernel_rfl
theorem E_f15z_ok : ∀ g, FnOk Try.prog g (E_f15z g) := FnOk.envOf (by
 intro x hx
 simp only [List.mem_cons, List.not_mem_nil, or_false] at hx
 subst hx; exact fqz_ok)
theorem f15z_main (x : Nat) (H : AHeap) (K : Value → AHeap → Prop) (h : T_f15z x H fun (r1 : Bool) (H' : AHeap) => K (.bool r1) H') : bodyL Try.prog E_f15z Try.f43 [.float .f32 x] H K := by
 rw [f15z_vc]
 simp only [T_fqz]
 unfold T_f15z p_f15z at h
 repeat' (first | exact h | (exfalso; simp_all; done) | (refine ⟨by decide, ?_⟩) | (refine Br.intro (fun hb => ?_) (fun hb => ?_) <;> (try simp only [hb, cond_true, cond_false, Bool.not_true, Bool.not_false] at h)))
theorem f15z_ok : FnOk Try.prog 43 S_f15z := by
 refine FnOk.body mix_ok E_f15z_ok Try.func43 rfl ω9 ω9 ?_ ?_ ?_ ?_ ?_
 ·intro args H K K' h hk
  simp only [S_f15z] at *
  unfold F_f15z at *
  split at hk
  ·have k := hk
   exact h _ _ k
  ·exact hk.elim
 ·intro _ args H K hk
  simp only [S_f15z] at *
  unfold F_f15z at *
  split at hk
  ·have k := hk
   exact ⟨_, k, fun K' k' => k'⟩
  ·exact hk.elim
 ·intro args H K hk
  simp only [S_f15z] at *
  unfold F_f15z at *
  split at hk
  ·have k := hk
   exact ⟨_, _, k⟩
  ·exact hk.elim
 ·intro hq; cases hq
 ·have mm := @f15z_main
  have ml := fun (args : List Value) (H : AHeap) (K : Value → AHeap → Prop) => bodyL_body (P := Try.prog) (env := E_f15z ) (fn := Try.f43) (args := args) (H := H) (K := K) E_f15z_ok 
  revert mm ml
  generalize bodyK Try.prog E_f15z Try.f43 = Q
  generalize bodyL Try.prog E_f15z Try.f43 = QL
  intro mm ml args H K hk
  simp only [S_f15z] at *
  unfold F_f15z at *
  split at hk
  ·exact ml _ H K (mm _ H K hk)
  ·exact hk.elim

def p_f9z (aa : LN) (s_Scale : Nat) : Bool := (bif (p_f17z (aa.length : Int) (1 : Int) (8 : Int)) then (bif (p_fhz ([aa])) then (p_f15z s_Scale) else false) else false)
def p_f9z_eq := @p_f9z.eq_1
def T_f9z (na : OA) (ya : Nat) (va : Nat) (s_Scale : Nat) (H : AHeap) (K : Bool → AHeap → Prop) : Prop := ∃ (aa : LN), IsL fF H na ya aa ∧ aa.length < 1073741824 ∧ ((∀ H' : AHeap, Grow H H' → K (p_f9z aa s_Scale) H'))
theorem T_f9z_i {na : OA} {ya : Nat} {va : Nat} {s_Scale : Nat} {H : AHeap} {K : Bool → AHeap → Prop} (h : ∃ (aa : LN), IsL fF H na ya aa ∧ aa.length < 1073741824 ∧ ((∀ H' : AHeap, Grow H H' → K (p_f9z aa s_Scale) H'))) : T_f9z na ya va s_Scale H K := h

/-! f9z: function 26 -/
def E_f9z : Env := envOf [(28, S_f17z), (42, S_fhz), (43, S_f15z)]
def F_f9z : List Value → AHeap → (Value → AHeap → Prop) → Prop
 | [.agg ⟨[.slice na ya va, .float .f32 s_Scale]⟩], H, K => T_f9z na ya va s_Scale H fun (r1 : Bool) (H' : AHeap) => K (.bool r1) H'
 | _, _, _ => False
def S_f9z : FSpec := { F := F_f9z, quiet := false, tame := true }
theorem f9z_vc (na : OA) (ya : Nat) (va : Nat) (s_Scale : Nat) (H : AHeap) (K : Value → AHeap → Prop) : bodyL Try.prog E_f9z Try.f26 [.agg #[.slice na ya va, .float .f32 s_Scale]] H K =
 (Al [.slice na ya va, .float .f32 s_Scale] H fun b1 H1 => ∃ nd : OA, ∃ yc : Nat, ∃ od : Nat,  rdC H1 b1 0 = some (.slice nd yc od) ∧ T_f17z (yc : Int) 1 8 H1 fun (r1 : Bool) (H2 : AHeap) => Br r1 (∃ pg : OA, ∃ og : Nat, ∃ qg : Nat,  rdC H2 b1 0 = some (.slice pg og qg) ∧ Al [.slice pg og qg] H2 fun b2 H3 => T_fhz (some ⟨b2, 0, none⟩) 1 1 H3 fun (r2 : Bool) (H4 : AHeap) => Br r2 (∃ x3 : Nat,  rdC H4 b1 1 = some (.float .f32 x3) ∧ T_f15z x3 H4 fun (r3 : Bool) (H5 : AHeap) => K (.bool r3) H5) (K (.bool false) H4)) (K (.bool false) H2)) := by kernel_rfl
theorem E_f9z_ok : ∀ g, FnOk Try.prog g (E_f9z g) := FnOk.envOf (by
 intro x hx
 simp only [List.mem_cons, List.not_mem_nil, or_false] at hx
 rcases hx with rfl | rfl | rfl
 ·exact f17z_ok
 ·exact fhz_ok
 ·exact f15z_ok)
theorem ω10 {P : Prop} (h : P := by first | assumption | exact or_right (by assumption) (by omega) | exact or_right (by assumption : _ ∧ (_ ∨ _)).2 (by omega) | (intro y hy; simp only [List.mem_cons, List.not_mem_nil, or_false] at hy; first | omega | (subst hy; omega) | (rcases hy with rfl | rfl <;> omega) | (rcases hy with rfl | rfl | rfl <;> omega))) : P := h
theorem f9z_main (na : OA) (ya : Nat) (va : Nat) (s_Scale : Nat) (H : AHeap) (K : Value → AHeap → Prop) (h : T_f9z na ya va s_Scale H fun (r1 : Bool) (H' : AHeap) => K (.bool r1) H') : bodyL Try.prog E_f9z Try.f26 [.agg #[.slice na ya va, .float .f32 s_Scale]] H K := by
 rw [f9z_vc]
 obtain ⟨aa, i_s_Weights, bd_25, hk⟩ := h
 obtain rfl := i_s_Weights.eqn
 have e : (p_f9z aa s_Scale) = _ := rfl
 have e := e.trans (p_f9z_eq aa s_Scale)
 have g0 := Grow.refl H
 refine Al.intro (fun b_1 H_1 hb_2 hl_3 g_4 o_5 => ?_)
 have l_7 := g_4.1
 have g_8 := g0.trans g_4
 have l_9 := g_8.1
 have w24 := o_5.lt
 refine ⟨na, aa.length, va, (o_5.rdC _).trans rfl, ?_⟩
 refine T_f17z_i ?_
 refine Br.intro (fun c_10 => ?_) (fun c_10 => ?_)
 ·have e := e.trans (cond_t c_10)
  have c_10' := f17z_t c_10
  refine ⟨na, aa.length, va, (o_5.rdC _).trans rfl, ?_⟩
  refine Al.intro (fun b_11 H_2 hb_12 hl_13 g_14 o15 => ?_)
  have l_17 := g_14.1
  have g18 := g_8.trans g_14
  have l19 := g18.1
  have o20 := o_5.grow g_14
  have w21 := o20.lt
  have w23 := o15.lt
  refine T_fhz_i ⟨[aa], ⟨_, o15.rdAll rfl, LLc.cons (i_s_Weights.grow g18) (LLc.nil _ _)⟩, ω0, ω10, ?_⟩
  refine Br.intro (fun c_22 => ?_) (fun c_22 => ?_)
  ·have e := e.trans (cond_t c_22)
   refine ⟨s_Scale, (o20.rdC _).trans rfl, ?_⟩
   refine T_f15z_i ?_
   rw [e] at hk
   exact hk  H_2 g18 
  ·have e := e.trans (cond_f c_22)
   rw [e] at hk
   exact hk  H_2 g18 
 ·have e := e.trans (cond_f c_10)
  rw [e] at hk
  exact hk  H_1 g_8 
theorem f9z_ok : FnOk Try.prog 26 S_f9z := by
 refine FnOk.body mix_ok E_f9z_ok Try.func26 rfl ω9 ω9 ?_ ?_ ?_ ?_ ?_
 ·intro args H K K' h hk
  simp only [S_f9z] at *
  unfold F_f9z at *
  split at hk
  ·obtain ⟨aa, i_s_Weights, bd_25, k⟩ := hk
   exact ⟨aa, i_s_Weights, bd_25, (fun  H' gg  => h _ _ (k  H' gg ))⟩
  ·exact hk.elim
 ·intro hq; cases hq
 ·intro args H K hk
  simp only [S_f9z] at *
  unfold F_f9z at *
  split at hk
  ·obtain ⟨aa, i_s_Weights, bd_25, k⟩ := hk
   exact ⟨_, _, k H (Grow.refl H)⟩
  ·exact hk.elim
 ·intro _ args H K hk
  simp only [S_f9z] at *
  unfold F_f9z at *
  split at hk
  ·obtain ⟨aa, i_s_Weights, bd_25, k⟩ := hk
   exact ⟨aa, i_s_Weights, bd_25, (fun  H' gg  => ⟨gg, k  H' gg ⟩)⟩
  ·exact hk.elim
 ·have mm := @f9z_main
  have ml := fun (args : List Value) (H : AHeap) (K : Value → AHeap → Prop) => bodyL_body (P := Try.prog) (env := E_f9z ) (fn := Try.f26) (args := args) (H := H) (K := K) E_f9z_ok 
  revert mm ml
  generalize bodyK Try.prog E_f9z Try.f26 = Q
  generalize bodyL Try.prog E_f9z Try.f26 = QL
  intro mm ml args H K hk
  simp only [S_f9z] at *
  unfold F_f9z at *
  split at hk
  ·exact ml _ H K (mm _ _ _ _ H K hk)
  ·exact hk.elim

def p_f5z (p_Wide : Int) (p_High : Int) (fa : LN) : Bool := ((bif (p_f17z p_Wide (1 : Int) (16 : Int)) then (bif (p_f17z p_High (1 : Int) (16 : Int)) then (bif ((fa.length : Int) : Int) == IntKind.wrap .i64 (p_Wide * p_High) then (p_fhz ([fa])) else false) else false) else false))
def p_f5z_eq := @p_f5z.eq_1
def T_f5z (p_Wide : Int) (p_High : Int) (p_Lights_a : OA) (p_Lights_n : Nat) (p_Lights_e : Nat) (H : AHeap) (K : Bool → AHeap → Prop) : Prop := ∃ (fa : LN), IsL fF H p_Lights_a p_Lights_n fa ∧ fa.length < 1073741824 ∧ ((∀ H' : AHeap, Grow H H' → K (p_f5z p_Wide p_High fa) H'))
theorem T_f5z_i {p_Wide : Int} {p_High : Int} {p_Lights_a : OA} {p_Lights_n : Nat} {p_Lights_e : Nat} {H : AHeap} {K : Bool → AHeap → Prop} (h : ∃ (fa : LN), IsL fF H p_Lights_a p_Lights_n fa ∧ fa.length < 1073741824 ∧ ((∀ H' : AHeap, Grow H H' → K (p_f5z p_Wide p_High fa) H'))) : T_f5z p_Wide p_High p_Lights_a p_Lights_n p_Lights_e H K := h
theorem f5z_t {w h : Int} {l : LN} (hh : p_f5z w h l = true) : 1 ≤ w ∧ w ≤ 16 ∧ 1 ≤ h ∧ h ≤ 16 ∧ (l.length : Int) = w * h ∧ (l.length : Int) ≤ 256 ∧ 1 ≤ (l.length : Int) := by
 rw [p_f5z_eq] at hh
 simp only [Bool.cond_false_right, Bool.and_eq_true] at hh
 obtain ⟨a, b, c, -⟩ := hh
 have a := f17z_t a
 have b := f17z_t b
 have h1 : w * h ≤ 16 * 16 := Int.mul_le_mul ω2 ω2 ω2 ω24
 have h2 : 1 * 1 ≤ w * h := Int.mul_le_mul ω2 ω2 ω2 ω2
 have c := eq_of_beq c
 rw [wrap64 ω2 ω2] at c
 exact ⟨a.1, a.2, b.1, b.2, c, by omega, by omega⟩
/-! f5z: function 27 -/
def E_f5z : Env := envOf [(28, S_f17z), (42, S_fhz)]
def F_f5z : List Value → AHeap → (Value → AHeap → Prop) → Prop
 | [.agg ⟨[.int .i64 p_Wide, .int .i64 p_High, .slice p_Lights_a p_Lights_n p_Lights_e]⟩], H, K => T_f5z p_Wide p_High p_Lights_a p_Lights_n p_Lights_e H fun (r1 : Bool) (H' : AHeap) => K (.bool r1) H'
 | _, _, _ => False
def S_f5z : FSpec := { F := F_f5z, quiet := false, tame := true }
theorem f5z_vc (p_Wide : Int) (p_High : Int) (p_Lights_a : OA) (p_Lights_n : Nat) (p_Lights_e : Nat) (H : AHeap) (K : Value → AHeap → Prop) : bodyL Try.prog E_f5z Try.f27 [.agg #[.int .i64 p_Wide, .int .i64 p_High, .slice p_Lights_a p_Lights_n p_Lights_e]] H K =
 (Al [.int .i64 p_Wide, .int .i64 p_High, .slice p_Lights_a p_Lights_n p_Lights_e] H fun b1 H1 => ∃ x1 : Int,  rdC H1 b1 0 = some (.int .i64 x1) ∧ T_f17z x1 1 16 H1 fun (r1 : Bool) (H2 : AHeap) => Br r1 (∃ x2 : Int,  rdC H2 b1 1 = some (.int .i64 x2) ∧ T_f17z x2 1 16 H2 fun (r2 : Bool) (H3 : AHeap) => Br r2 (∃ tf : OA, ∃ mf : Nat, ∃ uf : Nat,  rdC H3 b1 2 = some (.slice tf mf uf) ∧ ∃ x4 : Int,  rdC H3 b1 0 = some (.int .i64 x4) ∧ ∃ x5 : Int,  rdC H3 b1 1 = some (.int .i64 x5) ∧ Br (((mf : Int) : Int) == IntKind.wrap .i64 (x4 * x5)) (∃ pe : OA, ∃ oe : Nat, ∃ qe : Nat,  rdC H3 b1 2 = some (.slice pe oe qe) ∧ Al [.slice pe oe qe] H3 fun b2 H4 => T_fhz (some ⟨b2, 0, none⟩) 1 1 H4 fun (r3 : Bool) (H5 : AHeap) => K (.bool r3) H5) (K (.bool false) H3)) (K (.bool false) H3)) (K (.bool false) H2)) := by kernel_rfl
theorem E_f5z_ok : ∀ g, FnOk Try.prog g (E_f5z g) := FnOk.envOf (by
 intro x hx
 simp only [List.mem_cons, List.not_mem_nil, or_false] at hx
 rcases hx with rfl | rfl
 ·exact f17z_ok
 ·exact fhz_ok)
theorem f5z_main (p_Wide : Int) (p_High : Int) (p_Lights_a : OA) (p_Lights_n : Nat) (p_Lights_e : Nat) (H : AHeap) (K : Value → AHeap → Prop) (h : T_f5z p_Wide p_High p_Lights_a p_Lights_n p_Lights_e H fun (r1 : Bool) (H' : AHeap) => K (.bool r1) H') : bodyL Try.prog E_f5z Try.f27 [.agg #[.int .i64 p_Wide, .int .i64 p_High, .slice p_Lights_a p_Lights_n p_Lights_e]] H K := by
 rw [f5z_vc]
 obtain ⟨fa, i_p_Lights, bd_26, hk⟩ := h
 obtain rfl := i_p_Lights.eqn
 have e : (p_f5z p_Wide p_High fa) = _ := rfl
 have e := e.trans (p_f5z_eq p_Wide p_High fa)
 have g0 := Grow.refl H
 refine Al.intro (fun b_1 H_1 hb_2 hl_3 g_4 o_5 => ?_)
 have l_7 := g_4.1
 have g_8 := g0.trans g_4
 have l_9 := g_8.1
 have w25 := o_5.lt
 refine ⟨p_Wide, (o_5.rdC _).trans rfl, ?_⟩
 refine T_f17z_i ?_
 refine Br.intro (fun c_10 => ?_) (fun c_10 => ?_)
 ·have e := e.trans (cond_t c_10)
  have c_10' := f17z_t c_10
  refine ⟨p_High, (o_5.rdC _).trans rfl, ?_⟩
  refine T_f17z_i ?_
  refine Br.intro (fun c_11 => ?_) (fun c_11 => ?_)
  ·have e := e.trans (cond_t c_11)
   have c_11' := f17z_t c_11
   refine ⟨p_Lights_a, fa.length, p_Lights_e, (o_5.rdC _).trans rfl, ?_⟩
   refine ⟨p_Wide, (o_5.rdC _).trans rfl, ?_⟩
   refine ⟨p_High, (o_5.rdC _).trans rfl, ?_⟩
   refine Br.intro (fun c_12 => ?_) (fun c_12 => ?_)
   ·have e := e.trans (cond_t c_12)
    have c_12' := ieq_t c_12
    refine ⟨p_Lights_a, fa.length, p_Lights_e, (o_5.rdC _).trans rfl, ?_⟩
    refine Al.intro (fun b_13 H_2 hb_14 hl_15 g16 o_17 => ?_)
    have l19 := g16.1
    have g20 := g_8.trans g16
    have l21 := g20.1
    have o22 := o_5.grow g16
    have w23 := o22.lt
    have w24 := o_17.lt
    refine T_fhz_i ⟨[fa], ⟨_, o_17.rdAll rfl, LLc.cons (i_p_Lights.grow g20) (LLc.nil _ _)⟩, ω0, ω10, ?_⟩
    rw [e] at hk
    exact hk  H_2 g20 
   ·have e := e.trans (cond_f c_12)
    have c_12' := ieq_f c_12
    rw [e] at hk
    exact hk  H_1 g_8 
  ·have e := e.trans (cond_f c_11)
   rw [e] at hk
   exact hk  H_1 g_8 
 ·have e := e.trans (cond_f c_10)
  rw [e] at hk
  exact hk  H_1 g_8 
theorem f5z_ok : FnOk Try.prog 27 S_f5z := by
 refine FnOk.body mix_ok E_f5z_ok Try.func27 rfl ω9 ω9 ?_ ?_ ?_ ?_ ?_
 ·intro args H K K' h hk
  simp only [S_f5z] at *
  unfold F_f5z at *
  split at hk
  ·obtain ⟨fa, i_p_Lights, bd_26, k⟩ := hk
   exact ⟨fa, i_p_Lights, bd_26, (fun  H' gg  => h _ _ (k  H' gg ))⟩
  ·exact hk.elim
 ·intro hq; cases hq
 ·intro args H K hk
  simp only [S_f5z] at *
  unfold F_f5z at *
  split at hk
  ·obtain ⟨fa, i_p_Lights, bd_26, k⟩ := hk
   exact ⟨_, _, k H (Grow.refl H)⟩
  ·exact hk.elim
 ·intro _ args H K hk
  simp only [S_f5z] at *
  unfold F_f5z at *
  split at hk
  ·obtain ⟨fa, i_p_Lights, bd_26, k⟩ := hk
   exact ⟨fa, i_p_Lights, bd_26, (fun  H' gg  => ⟨gg, k  H' gg ⟩)⟩
  ·exact hk.elim
 ·have mm := @f5z_main
  have ml := fun (args : List Value) (H : AHeap) (K : Value → AHeap → Prop) => bodyL_body (P := Try.prog) (env := E_f5z ) (fn := Try.f27) (args := args) (H := H) (K := K) E_f5z_ok 
  revert mm ml
  generalize bodyK Try.prog E_f5z Try.f27 = Q
  generalize bodyL Try.prog E_f5z Try.f27 = QL
  intro mm ml args H K hk
  simp only [S_f5z] at *
  unfold F_f5z at *
  split at hk
  ·exact ml _ H K (mm _ _ _ _ _ H K hk)
  ·exact hk.elim

def p_f14z (da : LN) : Bool := (bif (p_f17z (da.length : Int) (1 : Int) (128 : Int)) then (p_fhz ([da])) else false)
def p_f14z_eq := @p_f14z.eq_1
def T_f14z (ib : OA) (ua : Nat) (sb : Nat) (H : AHeap) (K : Bool → AHeap → Prop) : Prop := ∃ (da : LN), IsL fF H ib ua da ∧ da.length < 1073741824 ∧ ((∀ H' : AHeap, Grow H H' → K (p_f14z da) H'))
theorem T_f14z_i {ib : OA} {ua : Nat} {sb : Nat} {H : AHeap} {K : Bool → AHeap → Prop} (h : ∃ (da : LN), IsL fF H ib ua da ∧ da.length < 1073741824 ∧ ((∀ H' : AHeap, Grow H H' → K (p_f14z da) H'))) : T_f14z ib ua sb H K := h

/-! f14z: function 48 -/
def E_f14z : Env := envOf [(28, S_f17z), (42, S_fhz)]
def F_f14z : List Value → AHeap → (Value → AHeap → Prop) → Prop
 | [.slice ib ua sb], H, K => T_f14z ib ua sb H fun (r1 : Bool) (H' : AHeap) => K (.bool r1) H'
 | _, _, _ => False
def S_f14z : FSpec := { F := F_f14z, quiet := false, tame := true }
theorem f14z_vc (ib : OA) (ua : Nat) (sb : Nat) (H : AHeap) (K : Value → AHeap → Prop) : bodyL Try.prog E_f14z Try.f48 [.slice ib ua sb] H K =
 (T_f17z (ua : Int) 1 128 H fun (r1 : Bool) (H1 : AHeap) => Br r1 (Al [.slice ib ua sb] H1 fun b1 H2 => T_fhz (some ⟨b1, 0, none⟩) 1 1 H2 fun (r2 : Bool) (H3 : AHeap) => K (.bool r2) H3) (K (.bool false) H1)) := by kernel_rfl
theorem E_f14z_ok : ∀ g, FnOk Try.prog g (E_f14z g) := FnOk.envOf (by
 intro x hx
 simp only [List.mem_cons, List.not_mem_nil, or_false] at hx
 rcases hx with rfl | rfl
 ·exact f17z_ok
 ·exact fhz_ok)
theorem f14z_main (ib : OA) (ua : Nat) (sb : Nat) (H : AHeap) (K : Value → AHeap → Prop) (h : T_f14z ib ua sb H fun (r1 : Bool) (H' : AHeap) => K (.bool r1) H') : bodyL Try.prog E_f14z Try.f48 [.slice ib ua sb] H K := by
 rw [f14z_vc]
 obtain ⟨da, i_list, bd_12, hk⟩ := h
 obtain rfl := i_list.eqn
 have e : (p_f14z da) = _ := rfl
 have e := e.trans (p_f14z_eq da)
 have g0 := Grow.refl H
 refine T_f17z_i ?_
 refine Br.intro (fun c_1 => ?_) (fun c_1 => ?_)
 ·have e := e.trans (cond_t c_1)
  have c_1' := f17z_t c_1
  refine Al.intro (fun b_2 H_1 hb_3 hl_4 g_5 o_6 => ?_)
  have l_8 := g_5.1
  have g_9 := g0.trans g_5
  have l_10 := g_9.1
  have w11 := o_6.lt
  refine T_fhz_i ⟨[da], ⟨_, o_6.rdAll rfl, LLc.cons (i_list.grow g_9) (LLc.nil _ _)⟩, ω0, ω10, ?_⟩
  rw [e] at hk
  exact hk  H_1 g_9 
 ·have e := e.trans (cond_f c_1)
  rw [e] at hk
  exact hk  H g0 
theorem f14z_ok : FnOk Try.prog 48 S_f14z := by
 refine FnOk.body mix_ok E_f14z_ok Try.func48 rfl ω9 ω9 ?_ ?_ ?_ ?_ ?_
 ·intro args H K K' h hk
  simp only [S_f14z] at *
  unfold F_f14z at *
  split at hk
  ·obtain ⟨da, i_list, bd_12, k⟩ := hk
   exact ⟨da, i_list, bd_12, (fun  H' gg  => h _ _ (k  H' gg ))⟩
  ·exact hk.elim
 ·intro hq; cases hq
 ·intro args H K hk
  simp only [S_f14z] at *
  unfold F_f14z at *
  split at hk
  ·obtain ⟨da, i_list, bd_12, k⟩ := hk
   exact ⟨_, _, k H (Grow.refl H)⟩
  ·exact hk.elim
 ·intro _ args H K hk
  simp only [S_f14z] at *
  unfold F_f14z at *
  split at hk
  ·obtain ⟨da, i_list, bd_12, k⟩ := hk
   exact ⟨da, i_list, bd_12, (fun  H' gg  => ⟨gg, k  H' gg ⟩)⟩
  ·exact hk.elim
 ·have mm := @f14z_main
  have ml := fun (args : List Value) (H : AHeap) (K : Value → AHeap → Prop) => bodyL_body (P := Try.prog) (env := E_f14z ) (fn := Try.f48) (args := args) (H := H) (K := K) E_f14z_ok 
  revert mm ml
  generalize bodyK Try.prog E_f14z Try.f48 = Q
  generalize bodyL Try.prog E_f14z Try.f48 = QL
  intro mm ml args H K hk
  simp only [S_f14z] at *
  unfold F_f14z at *
  split at hk
  ·exact ml _ H K (mm _ _ _ H K hk)
  ·exact hk.elim
end Go.Proofs.Ythheoefadijhdaa.Ai
