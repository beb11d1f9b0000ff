/- What functions of the program come to on the abstract machine, and that they do so; printed by a program of mine around proofs of mine. -/
import Derived.Test.YtghkkclonabpkaaProg
import Derived.Test.YtghkkclonabpkaaLibA
import Derived.Test.YtghkkclonabpkaaOpen
import Derived.Test.YtghkkclonabpkaaLibB
import Derived.Test.YtghkkclonabpkaaFl
import Derived.Test.YtghkkclonabpkaaExt
import Derived.Test.YtghkkclonabpkaaFm
import Derived.Test.YtghkkclonabpkaaFb
set_option linter.unusedVariables false
set_option linter.unusedSimpArgs false
set_option maxRecDepth 100000
namespace Go.Proofs.Ytghkkclonabpkaa.Ai
open Go
attribute [local irreducible] bodyK
theorem mix_ok : Try.prog.follows .mixedOrders = true := by kernel_rfl
def p_spec_l01Finite (x : Nat) : Bool := feq .f32 (fsub .f32 x x) 0
theorem p_spec_l01Finite_eq (x : Nat) : p_spec_l01Finite x = feq .f32 (fsub .f32 x x) 0 := rfl
def T_spec_l01Finite (x : Nat) (H : AHeap) (K : Bool → AHeap → Prop) : Prop := K (p_spec_l01Finite x) H

theorem T_spec_l01Finite_i {x : Nat} {H : AHeap} {K : Bool → AHeap → Prop} (h : K (p_spec_l01Finite x) H) : T_spec_l01Finite x H K := h
/-! spec_l01Finite: function 57 -/
def E_spec_l01Finite : Env := envOf []
def F_spec_l01Finite : List Value → AHeap → (Value → AHeap → Prop) → Prop
  | [.float .f32 x], H, K => T_spec_l01Finite x H fun (r1 : Bool) (H' : AHeap) => K (.bool r1) H'
  | _, _, _ => False
def S_spec_l01Finite : FSpec := { F := F_spec_l01Finite, quiet := true, tame := false }
theorem spec_l01Finite_vc (x : Nat) (H : AHeap) (K : Value → AHeap → Prop) : bodyK Try.prog E_spec_l01Finite Try.f57 [.float .f32 x] H K =
  (K (.bool (feq .f32 (fsub .f32 x x) 0)) H) := by kernel_rfl
theorem E_spec_l01Finite_ok : ∀ g, FnOk Try.prog g (E_spec_l01Finite g) := FnOk.envOf (by
  intro x hx; cases hx)
set_option maxHeartbeats 1000000 in
theorem spec_l01Finite_main (x : Nat) (H : AHeap) (K : Value → AHeap → Prop) (h : T_spec_l01Finite x H fun (r1 : Bool) (H' : AHeap) => K (.bool r1) H') : bodyK Try.prog E_spec_l01Finite Try.f57 [.float .f32 x] H K := by
  rw [spec_l01Finite_vc]
  unfold T_spec_l01Finite p_spec_l01Finite at h
  repeat' (first | exact h | (exfalso; simp_all; done) | (refine ⟨by decide, ?_⟩) | (refine Br.intro (fun hb => ?_) (fun hb => ?_) <;> (try simp only [hb, cond_true, cond_false, Bool.not_true, Bool.not_false] at h)))
theorem spec_l01Finite_ok : FnOk Try.prog 57 S_spec_l01Finite := by
  refine FnOk.body mix_ok E_spec_l01Finite_ok Try.func57 rfl (by kernel_rfl) (by kernel_rfl) ?_ ?_ ?_ ?_ ?_
  · intro args H K K' h hk
    simp only [S_spec_l01Finite] at *
    unfold F_spec_l01Finite at *
    split at hk
    · have k := hk
      exact h _ _ k
    · exact hk.elim
  · intro _ args H K hk
    simp only [S_spec_l01Finite] at *
    unfold F_spec_l01Finite at *
    split at hk
    · have k := hk
      exact ⟨_, k, fun K' k' => k'⟩
    · exact hk.elim
  · intro args H K hk
    simp only [S_spec_l01Finite] at *
    unfold F_spec_l01Finite at *
    split at hk
    · have k := hk
      exact ⟨_, _, k⟩
    · exact hk.elim
  · intro hq; cases hq
  · have mm := @spec_l01Finite_main
    revert mm
    generalize bodyK Try.prog E_spec_l01Finite Try.f57 = Q
    intro mm args H K hk
    simp only [S_spec_l01Finite] at *
    unfold F_spec_l01Finite at *
    split at hk
    · exact mm _ H K hk
    · exact hk.elim
def p_spec_l02Least (x : Nat) : Bool := (bif (p_spec_l01Finite x) then fle .f32 0 x else false)
theorem p_spec_l02Least_eq (x : Nat) : p_spec_l02Least x = (bif (p_spec_l01Finite x) then fle .f32 0 x else false) := rfl
def T_spec_l02Least (x : Nat) (H : AHeap) (K : Bool → AHeap → Prop) : Prop := K (p_spec_l02Least x) H

theorem T_spec_l02Least_i {x : Nat} {H : AHeap} {K : Bool → AHeap → Prop} (h : K (p_spec_l02Least x) H) : T_spec_l02Least x H K := h
/-! spec_l02Least: function 74 -/
def E_spec_l02Least : Env := envOf [(57, S_spec_l01Finite)]
def F_spec_l02Least : List Value → AHeap → (Value → AHeap → Prop) → Prop
  | [.float .f32 x], H, K => T_spec_l02Least x H fun (r1 : Bool) (H' : AHeap) => K (.bool r1) H'
  | _, _, _ => False
def S_spec_l02Least : FSpec := { F := F_spec_l02Least, quiet := true, tame := false }
theorem spec_l02Least_vc (x : Nat) (H : AHeap) (K : Value → AHeap → Prop) : bodyK Try.prog E_spec_l02Least Try.f74 [.float .f32 x] H K =
  (T_spec_l01Finite x H fun (r1 : Bool) (H1 : AHeap) => Br r1 (K (.bool (fle .f32 0 x)) H1) (K (.bool false) H1)) := by kernel_rfl
theorem E_spec_l02Least_ok : ∀ g, FnOk Try.prog g (E_spec_l02Least g) := FnOk.envOf (by
  intro x hx
  simp only [List.mem_cons, List.not_mem_nil, or_false] at hx
  subst hx; exact spec_l01Finite_ok)
set_option maxHeartbeats 1000000 in
theorem spec_l02Least_main (x : Nat) (H : AHeap) (K : Value → AHeap → Prop) (h : T_spec_l02Least x H fun (r1 : Bool) (H' : AHeap) => K (.bool r1) H') : bodyK Try.prog E_spec_l02Least Try.f74 [.float .f32 x] H K := by
  rw [spec_l02Least_vc]
  simp only [T_spec_l01Finite]
  unfold T_spec_l02Least p_spec_l02Least at h
  repeat' (first | exact h | (exfalso; simp_all; done) | (refine ⟨by decide, ?_⟩) | (refine Br.intro (fun hb => ?_) (fun hb => ?_) <;> (try simp only [hb, cond_true, cond_false, Bool.not_true, Bool.not_false] at h)))
theorem spec_l02Least_ok : FnOk Try.prog 74 S_spec_l02Least := by
  refine FnOk.body mix_ok E_spec_l02Least_ok Try.func74 rfl (by kernel_rfl) (by kernel_rfl) ?_ ?_ ?_ ?_ ?_
  · intro args H K K' h hk
    simp only [S_spec_l02Least] at *
    unfold F_spec_l02Least at *
    split at hk
    · have k := hk
      exact h _ _ k
    · exact hk.elim
  · intro _ args H K hk
    simp only [S_spec_l02Least] at *
    unfold F_spec_l02Least at *
    split at hk
    · have k := hk
      exact ⟨_, k, fun K' k' => k'⟩
    · exact hk.elim
  · intro args H K hk
    simp only [S_spec_l02Least] at *
    unfold F_spec_l02Least at *
    split at hk
    · have k := hk
      exact ⟨_, _, k⟩
    · exact hk.elim
  · intro hq; cases hq
  · have mm := @spec_l02Least_main
    revert mm
    generalize bodyK Try.prog E_spec_l02Least Try.f74 = Q
    intro mm args H K hk
    simp only [S_spec_l02Least] at *
    unfold F_spec_l02Least at *
    split at hk
    · exact mm _ H K hk
    · exact hk.elim
def p_spec_l00In (n : Int) (low : Int) (high : Int) : Bool := (bif decide ((low : Int) ≤ n) then decide ((n : Int) ≤ high) else false)
theorem p_spec_l00In_eq (n : Int) (low : Int) (high : Int) : p_spec_l00In n low high = (bif decide ((low : Int) ≤ n) then decide ((n : Int) ≤ high) else false) := rfl
def T_spec_l00In (n : Int) (low : Int) (high : Int) (H : AHeap) (K : Bool → AHeap → Prop) : Prop := K (p_spec_l00In n low high) H
theorem spec_l00In_t {n a b : Int} (h : p_spec_l00In n a b = true) : a ≤ n ∧ n ≤ b := by
  unfold p_spec_l00In at h
  by_cases h1 : a ≤ n
  · rw [decide_eq_true h1, cond_true] at h; exact ⟨h1, of_decide_eq_true h⟩
  · rw [decide_eq_false h1] at h; cases h
theorem T_spec_l00In_i {n : Int} {low : Int} {high : Int} {H : AHeap} {K : Bool → AHeap → Prop} (h : K (p_spec_l00In n low high) H) : T_spec_l00In n low high H K := h
/-! spec_l00In: function 70 -/
def E_spec_l00In : Env := envOf []
def F_spec_l00In : List Value → AHeap → (Value → AHeap → Prop) → Prop
  | [.int .i64 n, .int .i64 low, .int .i64 high], H, K => T_spec_l00In n low high H fun (r1 : Bool) (H' : AHeap) => K (.bool r1) H'
  | _, _, _ => False
def S_spec_l00In : FSpec := { F := F_spec_l00In, quiet := true, tame := false }
theorem spec_l00In_vc (n : Int) (low : Int) (high : Int) (H : AHeap) (K : Value → AHeap → Prop) : bodyK Try.prog E_spec_l00In Try.f70 [.int .i64 n, .int .i64 low, .int .i64 high] H K =
  (Br (decide ((low : Int) ≤ n)) (K (.bool (decide ((n : Int) ≤ high))) H) (K (.bool false) H)) := by kernel_rfl
theorem E_spec_l00In_ok : ∀ g, FnOk Try.prog g (E_spec_l00In g) := FnOk.envOf (by
  intro x hx; cases hx)
set_option maxHeartbeats 1000000 in
theorem spec_l00In_main (n : Int) (low : Int) (high : Int) (H : AHeap) (K : Value → AHeap → Prop) (h : T_spec_l00In n low high H fun (r1 : Bool) (H' : AHeap) => K (.bool r1) H') : bodyK Try.prog E_spec_l00In Try.f70 [.int .i64 n, .int .i64 low, .int .i64 high] H K := by
  rw [spec_l00In_vc]
  unfold T_spec_l00In p_spec_l00In at h
  repeat' (first | exact h | (exfalso; simp_all; done) | (refine ⟨by decide, ?_⟩) | (refine Br.intro (fun hb => ?_) (fun hb => ?_) <;> (try simp only [hb, cond_true, cond_false, Bool.not_true, Bool.not_false] at h)))
theorem spec_l00In_ok : FnOk Try.prog 70 S_spec_l00In := by
  refine FnOk.body mix_ok E_spec_l00In_ok Try.func70 rfl (by kernel_rfl) (by kernel_rfl) ?_ ?_ ?_ ?_ ?_
  · intro args H K K' h hk
    simp only [S_spec_l00In] at *
    unfold F_spec_l00In at *
    split at hk
    · have k := hk
      exact h _ _ k
    · exact hk.elim
  · intro _ args H K hk
    simp only [S_spec_l00In] at *
    unfold F_spec_l00In at *
    split at hk
    · have k := hk
      exact ⟨_, k, fun K' k' => k'⟩
    · exact hk.elim
  · intro args H K hk
    simp only [S_spec_l00In] at *
    unfold F_spec_l00In at *
    split at hk
    · have k := hk
      exact ⟨_, _, k⟩
    · exact hk.elim
  · intro hq; cases hq
  · have mm := @spec_l00In_main
    revert mm
    generalize bodyK Try.prog E_spec_l00In Try.f70 = Q
    intro mm args H K hk
    simp only [S_spec_l00In] at *
    unfold F_spec_l00In at *
    split at hk
    · exact mm _ _ _ H K hk
    · exact hk.elim
def p_math_Float64frombits (x : Int) : Nat := cn .f64 x.toNat
def T_math_Float64frombits (x : Int) (H : AHeap) (K : Nat → AHeap → Prop) : Prop := K (p_math_Float64frombits x) H
theorem T_math_Float64frombits_i {x : Int} {H : AHeap} {K : Nat → AHeap → Prop} (h : K (p_math_Float64frombits x) H) : T_math_Float64frombits x H K := h
def F_math_Float64frombits : List Value → AHeap → (Value → AHeap → Prop) → Prop
  | [.int .u64 b], H, K => T_math_Float64frombits b H fun r1 H' => K (.float .f64 r1) H'
  | _, _, _ => False
def S_math_Float64frombits : FSpec := { F := F_math_Float64frombits, quiet := true }
theorem F_math_Float64frombits_o {args : List Value} {H : AHeap} {K : Value → AHeap → Prop} (h : S_math_Float64frombits.F args H K) : ∃ x, args = [.int .u64 x] ∧ K (.float .f64 (p_math_Float64frombits x)) H := by
  simp only [S_math_Float64frombits] at h
  unfold F_math_Float64frombits at h
  split at h
  · exact ⟨_, rfl, h⟩
  · exact h.elim
theorem math_Float64frombits_ok : FnOk Try.prog 142 S_math_Float64frombits := by
  refine FnOk.ext rfl ?_ ?_ ?_ ?_
  · intro args H K K' h hk
    obtain ⟨x, rfl, k⟩ := F_math_Float64frombits_o hk
    exact h _ _ k
  · intro _ args H K hk
    obtain ⟨x, rfl, k⟩ := F_math_Float64frombits_o hk
    exact ⟨_, k, fun K' k' => k'⟩
  · intro args H K hk
    obtain ⟨x, rfl, k⟩ := F_math_Float64frombits_o hk
    exact ⟨_, _, k⟩
  · intro ρ w args args' H K ha hk
    obtain ⟨x, rfl, k⟩ := F_math_Float64frombits_o hk
    obtain ⟨y, ys, rfl, h3, h4⟩ := ha.uncons
    obtain rfl := h4.unnil
    cases h3
    refine ⟨_, .float .f64 x.toNat, w, ?_, .refl w, .float .f64 _ _ rfl, k⟩
    have := run_callFunc_extern (e := Extern.MathFloatBits.float64frombits) Try.func142 (by kernel_rfl) (by kernel_rfl) (by kernel_rfl) (by kernel_rfl) #[.int .u64 x] w
    rw [this]; rfl

def p_math_NaN  : Nat := (p_math_Float64frombits 9221120237041090561)
def T_math_NaN  (H : AHeap) (K : Nat → AHeap → Prop) : Prop := K (p_math_NaN) H

theorem T_math_NaN_i  {H : AHeap} {K : Nat → AHeap → Prop} (h : K (p_math_NaN) H) : T_math_NaN  H K := h
/-! math_NaN: function 123 -/
def E_math_NaN : Env := envOf [(142, S_math_Float64frombits)]
def F_math_NaN : List Value → AHeap → (Value → AHeap → Prop) → Prop
  | [], H, K => T_math_NaN  H fun (r1 : Nat) (H' : AHeap) => K (.float .f64 r1) H'
  | _, _, _ => False
def S_math_NaN : FSpec := { F := F_math_NaN, quiet := true, tame := false }
theorem math_NaN_vc  (H : AHeap) (K : Value → AHeap → Prop) : bodyK Try.prog E_math_NaN Try.f123 [] H K =
  (T_math_Float64frombits 9221120237041090561 H fun (r1 : Nat) (H1 : AHeap) => K (.float .f64 r1) H1) := by kernel_rfl
theorem E_math_NaN_ok : ∀ g, FnOk Try.prog g (E_math_NaN g) := FnOk.envOf (by
  intro x hx
  simp only [List.mem_cons, List.not_mem_nil, or_false] at hx
  subst hx; exact math_Float64frombits_ok)
set_option maxHeartbeats 1000000 in
theorem math_NaN_main  (H : AHeap) (K : Value → AHeap → Prop) (h : T_math_NaN  H fun (r1 : Nat) (H' : AHeap) => K (.float .f64 r1) H') : bodyK Try.prog E_math_NaN Try.f123 [] H K := by
  rw [math_NaN_vc]
  simp only [T_math_Float64frombits]
  unfold T_math_NaN p_math_NaN at h
  repeat' (first | exact h | (exfalso; simp_all; done) | (refine ⟨by decide, ?_⟩) | (refine Br.intro (fun hb => ?_) (fun hb => ?_) <;> (try simp only [hb, cond_true, cond_false, Bool.not_true, Bool.not_false] at h)))
theorem math_NaN_ok : FnOk Try.prog 123 S_math_NaN := by
  refine FnOk.body mix_ok E_math_NaN_ok Try.func123 rfl (by kernel_rfl) (by kernel_rfl) ?_ ?_ ?_ ?_ ?_
  · intro args H K K' h hk
    simp only [S_math_NaN] at *
    unfold F_math_NaN at *
    split at hk
    · have k := hk
      exact h _ _ k
    · exact hk.elim
  · intro _ args H K hk
    simp only [S_math_NaN] at *
    unfold F_math_NaN at *
    split at hk
    · have k := hk
      exact ⟨_, k, fun K' k' => k'⟩
    · exact hk.elim
  · intro args H K hk
    simp only [S_math_NaN] at *
    unfold F_math_NaN at *
    split at hk
    · have k := hk
      exact ⟨_, _, k⟩
    · exact hk.elim
  · intro hq; cases hq
  · have mm := @math_NaN_main
    revert mm
    generalize bodyK Try.prog E_math_NaN Try.f123 = Q
    intro mm args H K hk
    simp only [S_math_NaN] at *
    unfold F_math_NaN at *
    split at hk
    · exact mm  H K hk
    · exact hk.elim
def p_math_Inf (sign : Int) : Nat := (bif decide ((0 : Int) ≤ sign) then (p_math_Float64frombits 9218868437227405312) else (p_math_Float64frombits 18442240474082181120))
theorem p_math_Inf_eq (sign : Int) : p_math_Inf sign = (bif decide ((0 : Int) ≤ sign) then (p_math_Float64frombits 9218868437227405312) else (p_math_Float64frombits 18442240474082181120)) := rfl
def T_math_Inf (sign : Int) (H : AHeap) (K : Nat → AHeap → Prop) : Prop := K (p_math_Inf sign) H

theorem T_math_Inf_i {sign : Int} {H : AHeap} {K : Nat → AHeap → Prop} (h : K (p_math_Inf sign) H) : T_math_Inf sign H K := h
/-! math_Inf: function 122 -/
def E_math_Inf : Env := envOf [(142, S_math_Float64frombits)]
def F_math_Inf : List Value → AHeap → (Value → AHeap → Prop) → Prop
  | [.int .i64 sign], H, K => T_math_Inf sign H fun (r1 : Nat) (H' : AHeap) => K (.float .f64 r1) H'
  | _, _, _ => False
def S_math_Inf : FSpec := { F := F_math_Inf, quiet := true, tame := false }
theorem math_Inf_vc (sign : Int) (H : AHeap) (K : Value → AHeap → Prop) : bodyK Try.prog E_math_Inf Try.f122 [.int .i64 sign] H K =
  (Br (decide ((0 : Int) ≤ sign)) (T_math_Float64frombits 9218868437227405312 H fun (r1 : Nat) (H1 : AHeap) => K (.float .f64 r1) H1) (T_math_Float64frombits 18442240474082181120 H fun (r2 : Nat) (H2 : AHeap) => K (.float .f64 r2) H2)) := by kernel_rfl
theorem E_math_Inf_ok : ∀ g, FnOk Try.prog g (E_math_Inf g) := FnOk.envOf (by
  intro x hx
  simp only [List.mem_cons, List.not_mem_nil, or_false] at hx
  subst hx; exact math_Float64frombits_ok)
set_option maxHeartbeats 1000000 in
theorem math_Inf_main (sign : Int) (H : AHeap) (K : Value → AHeap → Prop) (h : T_math_Inf sign H fun (r1 : Nat) (H' : AHeap) => K (.float .f64 r1) H') : bodyK Try.prog E_math_Inf Try.f122 [.int .i64 sign] H K := by
  rw [math_Inf_vc]
  simp only [T_math_Float64frombits]
  unfold T_math_Inf p_math_Inf at h
  repeat' (first | exact h | (exfalso; simp_all; done) | (refine ⟨by decide, ?_⟩) | (refine Br.intro (fun hb => ?_) (fun hb => ?_) <;> (try simp only [hb, cond_true, cond_false, Bool.not_true, Bool.not_false] at h)))
theorem math_Inf_ok : FnOk Try.prog 122 S_math_Inf := by
  refine FnOk.body mix_ok E_math_Inf_ok Try.func122 rfl (by kernel_rfl) (by kernel_rfl) ?_ ?_ ?_ ?_ ?_
  · intro args H K K' h hk
    simp only [S_math_Inf] at *
    unfold F_math_Inf at *
    split at hk
    · have k := hk
      exact h _ _ k
    · exact hk.elim
  · intro _ args H K hk
    simp only [S_math_Inf] at *
    unfold F_math_Inf at *
    split at hk
    · have k := hk
      exact ⟨_, k, fun K' k' => k'⟩
    · exact hk.elim
  · intro args H K hk
    simp only [S_math_Inf] at *
    unfold F_math_Inf at *
    split at hk
    · have k := hk
      exact ⟨_, _, k⟩
    · exact hk.elim
  · intro hq; cases hq
  · have mm := @math_Inf_main
    revert mm
    generalize bodyK Try.prog E_math_Inf Try.f122 = Q
    intro mm args H K hk
    simp only [S_math_Inf] at *
    unfold F_math_Inf at *
    split at hk
    · exact mm _ H K hk
    · exact hk.elim
def T_math_Float64bits (x : Nat) (H : AHeap) (K : Int → AHeap → Prop) : Prop := ∀ b : Nat, cn .f64 b = cn .f64 x → K (b : Int) H
def F_math_Float64bits : List Value → AHeap → (Value → AHeap → Prop) → Prop
  | [.float .f64 x], H, K => T_math_Float64bits x H fun r1 H' => K (.int .u64 r1) H'
  | _, _, _ => False
def S_math_Float64bits : FSpec := { F := F_math_Float64bits, quiet := false }
theorem F_math_Float64bits_o {args : List Value} {H : AHeap} {K : Value → AHeap → Prop} (h : S_math_Float64bits.F args H K) : ∃ x, args = [.float .f64 x] ∧ ∀ b : Nat, cn .f64 b = cn .f64 x → K (.int .u64 (b : Int)) H := by
  simp only [S_math_Float64bits] at h
  unfold F_math_Float64bits at h
  split at h
  · exact ⟨_, rfl, h⟩
  · exact h.elim
theorem math_Float64bits_ok : FnOk Try.prog 156 S_math_Float64bits := by
  refine FnOk.ext rfl ?_ ?_ ?_ ?_
  · intro args H K K' h hk
    obtain ⟨x, rfl, k⟩ := F_math_Float64bits_o hk
    exact fun b hb => h _ _ (k b hb)
  · intro h; cases h
  · intro args H K hk
    obtain ⟨x, rfl, k⟩ := F_math_Float64bits_o hk
    exact ⟨_, _, k x rfl⟩
  · intro ρ w args args' H K ha hk
    obtain ⟨x, rfl, k⟩ := F_math_Float64bits_o hk
    obtain ⟨y, ys, rfl, h3, h4⟩ := ha.uncons
    obtain rfl := h4.unnil
    cases h3 with
    | float k0 a b hab =>
      refine ⟨_, .int .u64 b, w, ?_, .refl w, .int .u64 _, k b (by rw [hab, cn_cn])⟩
      have := run_callFunc_extern (e := Extern.MathFloatBits.float64bits) Try.func156 (by kernel_rfl) (by kernel_rfl) (by kernel_rfl) (by kernel_rfl) #[.float .f64 b] w
      rw [this]; rfl

def p_math_Abs (x : Nat) : Nat := cn .f64 (cn .f64 x % 9223372036854775808)
def T_math_Abs (x : Nat) (H : AHeap) (K : Nat → AHeap → Prop) : Prop := K (p_math_Abs x) H
theorem T_math_Abs_i {x : Nat} {H : AHeap} {K : Nat → AHeap → Prop} (h : K (p_math_Abs x) H) : T_math_Abs x H K := h
/-! math_Abs: function 149 -/
def E_math_Abs : Env := envOf [(156, S_math_Float64bits), (142, S_math_Float64frombits)]
def F_math_Abs : List Value → AHeap → (Value → AHeap → Prop) → Prop
  | [.float .f64 x], H, K => T_math_Abs x H fun (r1 : Nat) (H' : AHeap) => K (.float .f64 r1) H'
  | _, _, _ => False
def S_math_Abs : FSpec := { F := F_math_Abs, quiet := true, tame := false }
theorem math_Abs_vc (x : Nat) (H : AHeap) (K : Value → AHeap → Prop) : bodyK Try.prog E_math_Abs Try.f149 [.float .f64 x] H K =
  (T_math_Float64bits x H fun (r1 : Int) (H1 : AHeap) => T_math_Float64frombits (IntKind.wrap .u64 (((BitVec.ofInt (IntKind.bits .u64) r1 &&& ~~~(BitVec.ofInt (IntKind.bits .u64) 9223372036854775808)).toNat : Int))) H1 fun (r2 : Nat) (H2 : AHeap) => K (.float .f64 r2) H2) := by kernel_rfl
theorem E_math_Abs_ok : ∀ g, FnOk Try.prog g (E_math_Abs g) := FnOk.envOf (by
  intro x hx
  simp only [List.mem_cons, List.not_mem_nil, or_false] at hx
  rcases hx with rfl | rfl
  · exact math_Float64bits_ok
  · exact math_Float64frombits_ok)
theorem abs_bits (b : Nat) : (IntKind.wrap .u64 (((BitVec.ofInt (IntKind.bits .u64) (b : Int) &&& ~~~(BitVec.ofInt (IntKind.bits .u64) 9223372036854775808)).toNat : Int))).toNat = b % 9223372036854775808 := by
  have e : (BitVec.ofInt (IntKind.bits .u64) (b : Int) &&& ~~~(BitVec.ofInt (IntKind.bits .u64) 9223372036854775808)).toNat = b % 9223372036854775808 := by
    show (BitVec.ofInt 64 (b : Int) &&& ~~~(BitVec.ofInt 64 9223372036854775808)).toNat = _
    have h1 : (~~~(BitVec.ofInt 64 9223372036854775808)).toNat = 2 ^ 63 - 1 := by decide
    have h2 : (BitVec.ofInt 64 (b : Int)).toNat = b % 2 ^ 64 := by simp
    rw [BitVec.toNat_and, h1, h2, Nat.and_two_pow_sub_one_eq_mod]
    omega
  rw [e, wrapu_id (by omega) (by omega)]
  omega
theorem abs_cn {b x : Nat} (h : cn .f64 b = cn .f64 x) : cn .f64 (b % 9223372036854775808) = cn .f64 (cn .f64 x % 9223372036854775808) := by
  rw [← h]
  cases hn : (FloatKind.f64.decode b).isNaN
  · rw [cn_of_not_nan hn]
  · rw [cn_of_nan hn]
    have : (FloatKind.f64.decode (b % 9223372036854775808)).isNaN = true := by
      rw [nan_iff] at hn ⊢
      have e1 : FloatKind.f64.format.signWeight = 9223372036854775808 := by decide
      rw [e1] at hn ⊢
      rw [Nat.mod_mod]; exact hn
    rw [cn_of_nan this]
    decide +kernel
set_option maxHeartbeats 1000000 in
theorem math_Abs_main (x : Nat) (H : AHeap) (K : Value → AHeap → Prop) (h : T_math_Abs x H fun (r1 : Nat) (H' : AHeap) => K (.float .f64 r1) H') : bodyK Try.prog E_math_Abs Try.f149 [.float .f64 x] H K := by
  rw [math_Abs_vc]
  intro b hb
  show K (.float .f64 (cn .f64 (IntKind.wrap .u64 (((BitVec.ofInt (IntKind.bits .u64) (b : Int) &&& ~~~(BitVec.ofInt (IntKind.bits .u64) 9223372036854775808)).toNat : Int))).toNat)) H
  rw [abs_bits, abs_cn hb]
  exact h
theorem math_Abs_ok : FnOk Try.prog 149 S_math_Abs := by
  refine FnOk.body mix_ok E_math_Abs_ok Try.func149 rfl (by kernel_rfl) (by kernel_rfl) ?_ ?_ ?_ ?_ ?_
  · intro args H K K' h hk
    simp only [S_math_Abs] at *
    unfold F_math_Abs at *
    split at hk
    · have k := hk
      exact h _ _ k
    · exact hk.elim
  · intro _ args H K hk
    simp only [S_math_Abs] at *
    unfold F_math_Abs at *
    split at hk
    · have k := hk
      exact ⟨_, k, fun K' k' => k'⟩
    · exact hk.elim
  · intro args H K hk
    simp only [S_math_Abs] at *
    unfold F_math_Abs at *
    split at hk
    · have k := hk
      exact ⟨_, _, k⟩
    · exact hk.elim
  · intro hq; cases hq
  · have mm := @math_Abs_main
    revert mm
    generalize bodyK Try.prog E_math_Abs Try.f149 = Q
    intro mm args H K hk
    simp only [S_math_Abs] at *
    unfold F_math_Abs at *
    split at hk
    · exact mm _ H K hk
    · exact hk.elim
def p_math_IsInf (f : Nat) (sign : Int) : Bool := ((bif (sign : Int) == 0 then flt .f64 9218868437227405311 (p_math_Abs f) else (bif decide ((sign : Int) < 0) then flt .f64 9218868437227405311 (fneg .f64 f) else flt .f64 9218868437227405311 f)))
theorem p_math_IsInf_eq (f : Nat) (sign : Int) : p_math_IsInf f sign = ((bif (sign : Int) == 0 then flt .f64 9218868437227405311 (p_math_Abs f) else (bif decide ((sign : Int) < 0) then flt .f64 9218868437227405311 (fneg .f64 f) else flt .f64 9218868437227405311 f))) := rfl
def T_math_IsInf (f : Nat) (sign : Int) (H : AHeap) (K : Bool → AHeap → Prop) : Prop := K (p_math_IsInf f sign) H
theorem math_IsInf_f {f : Nat} {sign : Int} (h : p_math_IsInf f sign = false) : sign = 1 → flt .f64 9218868437227405311 f = false := by
  intro e; subst e; exact h
theorem T_math_IsInf_i {f : Nat} {sign : Int} {H : AHeap} {K : Bool → AHeap → Prop} (h : K (p_math_IsInf f sign) H) : T_math_IsInf f sign H K := h
/-! math_IsInf: function 141 -/
def E_math_IsInf : Env := envOf [(149, S_math_Abs)]
def F_math_IsInf : List Value → AHeap → (Value → AHeap → Prop) → Prop
  | [.float .f64 f, .int .i64 sign], H, K => T_math_IsInf f sign H fun (r1 : Bool) (H' : AHeap) => K (.bool r1) H'
  | _, _, _ => False
def S_math_IsInf : FSpec := { F := F_math_IsInf, quiet := true, tame := false }
theorem math_IsInf_vc (f : Nat) (sign : Int) (H : AHeap) (K : Value → AHeap → Prop) : bodyK Try.prog E_math_IsInf Try.f141 [.float .f64 f, .int .i64 sign] H K =
  (Br ((sign : Int) == 0) (T_math_Abs f H fun (r1 : Nat) (H1 : AHeap) => K (.bool (flt .f64 9218868437227405311 r1)) H1) (Br (decide ((sign : Int) < 0)) (K (.bool (flt .f64 9218868437227405311 (fneg .f64 f))) H) (K (.bool (flt .f64 9218868437227405311 f)) H))) := by kernel_rfl
theorem E_math_IsInf_ok : ∀ g, FnOk Try.prog g (E_math_IsInf g) := FnOk.envOf (by
  intro x hx
  simp only [List.mem_cons, List.not_mem_nil, or_false] at hx
  subst hx; exact math_Abs_ok)
set_option maxHeartbeats 1000000 in
theorem math_IsInf_main (f : Nat) (sign : Int) (H : AHeap) (K : Value → AHeap → Prop) (h : T_math_IsInf f sign H fun (r1 : Bool) (H' : AHeap) => K (.bool r1) H') : bodyK Try.prog E_math_IsInf Try.f141 [.float .f64 f, .int .i64 sign] H K := by
  rw [math_IsInf_vc]
  simp only [T_math_Abs]
  unfold T_math_IsInf p_math_IsInf at h
  repeat' (first | exact h | (exfalso; simp_all; done) | (refine ⟨by decide, ?_⟩) | (refine Br.intro (fun hb => ?_) (fun hb => ?_) <;> (try simp only [hb, cond_true, cond_false, Bool.not_true, Bool.not_false] at h)))
theorem math_IsInf_ok : FnOk Try.prog 141 S_math_IsInf := by
  refine FnOk.body mix_ok E_math_IsInf_ok Try.func141 rfl (by kernel_rfl) (by kernel_rfl) ?_ ?_ ?_ ?_ ?_
  · intro args H K K' h hk
    simp only [S_math_IsInf] at *
    unfold F_math_IsInf at *
    split at hk
    · have k := hk
      exact h _ _ k
    · exact hk.elim
  · intro _ args H K hk
    simp only [S_math_IsInf] at *
    unfold F_math_IsInf at *
    split at hk
    · have k := hk
      exact ⟨_, k, fun K' k' => k'⟩
    · exact hk.elim
  · intro args H K hk
    simp only [S_math_IsInf] at *
    unfold F_math_IsInf at *
    split at hk
    · have k := hk
      exact ⟨_, _, k⟩
    · exact hk.elim
  · intro hq; cases hq
  · have mm := @math_IsInf_main
    revert mm
    generalize bodyK Try.prog E_math_IsInf Try.f141 = Q
    intro mm args H K hk
    simp only [S_math_IsInf] at *
    unfold F_math_IsInf at *
    split at hk
    · exact mm _ _ H K hk
    · exact hk.elim
def p_spec_l01LogWide_l3 (y : Nat) (y_0 : Nat) (ve : Int) (y_0' : Nat) (ve_3 : Int) (k3_5 : Nat → Int → Nat) : Nat → Nat → Int → Nat
  | 0, _, _ => 0
  | μ3 + 1, q, k => (bif decide ((1 : Int) ≤ k) then (p_spec_l01LogWide_l3 y y_0 ve y_0' ve_3 k3_5 μ3 (fadd .f64 (fdiv .f64 4607182418800017408 (FloatKind.nearest .f64 k)) (fmul .f64 (fmul .f64 (fdiv .f64 (fsub .f64 y_0' 4607182418800017408) (fadd .f64 y_0' 4607182418800017408)) (fdiv .f64 (fsub .f64 y_0' 4607182418800017408) (fadd .f64 y_0' 4607182418800017408))) q)) (k - 2)) else (k3_5 q k))
theorem p_spec_l01LogWide_l3_s (y : Nat) (y_0 : Nat) (ve : Int) (y_0' : Nat) (ve_3 : Int) (k3_5 : Nat → Int → Nat) (μ3 : Nat) (q : Nat) (k : Int) : p_spec_l01LogWide_l3 y y_0 ve y_0' ve_3 k3_5 (μ3 + 1) q k = (bif decide ((1 : Int) ≤ k) then (p_spec_l01LogWide_l3 y y_0 ve y_0' ve_3 k3_5 μ3 (fadd .f64 (fdiv .f64 4607182418800017408 (FloatKind.nearest .f64 k)) (fmul .f64 (fmul .f64 (fdiv .f64 (fsub .f64 y_0' 4607182418800017408) (fadd .f64 y_0' 4607182418800017408)) (fdiv .f64 (fsub .f64 y_0' 4607182418800017408) (fadd .f64 y_0' 4607182418800017408))) q)) (k - 2)) else (k3_5 q k)) := rfl
def p_spec_l01LogWide_l2 (y : Nat) (y_0 : Nat) (ve : Int) (k2_3 : Nat → Int → Nat) : Nat → Nat → Int → Nat
  | 0, _, _ => 0
  | μ2 + 1, y_0', ve_3 => (bif flt .f64 y_0' 4604930618986332160 then (p_spec_l01LogWide_l2 y y_0 ve k2_3 μ2 (fmul .f64 y_0' 4611686018427387904) (IntKind.wrap .i64 (ve_3 - 1))) else (k2_3 y_0' ve_3))
theorem p_spec_l01LogWide_l2_s (y : Nat) (y_0 : Nat) (ve : Int) (k2_3 : Nat → Int → Nat) (μ2 : Nat) (y_0' : Nat) (ve_3 : Int) : p_spec_l01LogWide_l2 y y_0 ve k2_3 (μ2 + 1) y_0' ve_3 = (bif flt .f64 y_0' 4604930618986332160 then (p_spec_l01LogWide_l2 y y_0 ve k2_3 μ2 (fmul .f64 y_0' 4611686018427387904) (IntKind.wrap .i64 (ve_3 - 1))) else (k2_3 y_0' ve_3)) := rfl
def p_spec_l01LogWide_l1 (y : Nat) : Nat → Nat → Int → Nat
  | 0, _, _ => 0
  | μ + 1, y_0, ve => (bif fle .f64 4609434218613702656 y_0 then (p_spec_l01LogWide_l1 y μ (fdiv .f64 y_0 4611686018427387904) (IntKind.wrap .i64 (ve + 1))) else (p_spec_l01LogWide_l2 y y_0 ve (fun (y_0' : Nat) (ve_3 : Int) => (p_spec_l01LogWide_l3 y y_0 ve y_0' ve_3 (fun (q : Nat) (k : Int) => fadd .f64 (fmul .f64 4611686018427387904 (fmul .f64 (fdiv .f64 (fsub .f64 y_0' 4607182418800017408) (fadd .f64 y_0' 4607182418800017408)) q)) (fmul .f64 (FloatKind.nearest .f64 ve_3) 4604418534313441775)) (Int.toNat ((25 : Int) + 1) + 1) 0 (25 : Int))) (Int.toNat ((4604930618986332160 : Int) - y_0) + 1) y_0 ve))
theorem p_spec_l01LogWide_l1_s (y : Nat) (μ : Nat) (y_0 : Nat) (ve : Int) : p_spec_l01LogWide_l1 y (μ + 1) y_0 ve = (bif fle .f64 4609434218613702656 y_0 then (p_spec_l01LogWide_l1 y μ (fdiv .f64 y_0 4611686018427387904) (IntKind.wrap .i64 (ve + 1))) else (p_spec_l01LogWide_l2 y y_0 ve (fun (y_0' : Nat) (ve_3 : Int) => (p_spec_l01LogWide_l3 y y_0 ve y_0' ve_3 (fun (q : Nat) (k : Int) => fadd .f64 (fmul .f64 4611686018427387904 (fmul .f64 (fdiv .f64 (fsub .f64 y_0' 4607182418800017408) (fadd .f64 y_0' 4607182418800017408)) q)) (fmul .f64 (FloatKind.nearest .f64 ve_3) 4604418534313441775)) (Int.toNat ((25 : Int) + 1) + 1) 0 (25 : Int))) (Int.toNat ((4604930618986332160 : Int) - y_0) + 1) y_0 ve)) := rfl
def p_spec_l01LogWide (y : Nat) : Nat := (bif !(feq .f64 y y) then p_math_NaN else (bif flt .f64 y 0 then p_math_NaN else (bif feq .f64 y 0 then (p_math_Inf ((-1) : Int)) else (bif (p_math_IsInf y (1 : Int)) then y else (p_spec_l01LogWide_l1 y (Int.toNat ((y : Int)) + 1) y (0 : Int))))))
theorem p_spec_l01LogWide_eq (y : Nat) : p_spec_l01LogWide y = (bif !(feq .f64 y y) then p_math_NaN else (bif flt .f64 y 0 then p_math_NaN else (bif feq .f64 y 0 then (p_math_Inf ((-1) : Int)) else (bif (p_math_IsInf y (1 : Int)) then y else (p_spec_l01LogWide_l1 y (Int.toNat ((y : Int)) + 1) y (0 : Int)))))) := rfl
def T_spec_l01LogWide (y : Nat) (H : AHeap) (K : Nat → AHeap → Prop) : Prop := Nrm y ∧ K (p_spec_l01LogWide y) H
theorem T_spec_l01LogWide_i {y : Nat} {H : AHeap} {K : Nat → AHeap → Prop} (h : Nrm y ∧ K (p_spec_l01LogWide y) H) : T_spec_l01LogWide y H K := h
theorem spec_l3_nar {x x_0 x' : Nat} {ve ve_3 : Int} {K : Nat → Int → Nat} (h0 : 4604930618986332160 ≤ x') (h1 : x' < 4609434218613702656) (hK : ∀ q k, Bd .f64 1160 q → fnarrow (K q k) ≠ none) :
    ∀ (μ : Nat) (n : Int) (A q : Nat), Bd .f64 A q → 1074 ≤ A → (A : Int) ≤ 1155 - 3 * n → n ≤ 25 → -1 ≤ n → fnarrow (p_spec_l01LogWide_l3 x x_0 ve x' ve_3 K μ q n) ≠ none := by
  intro μ
  induction μ with
  | zero => intro n A q _ _ _ _ _; exact (by decide +kernel : fnarrow 0 ≠ none)
  | succ μ ih =>
    intro n A q hq hA hA2 hn hn1
    rw [p_spec_l01LogWide_l3_s]
    by_cases h : (1 : Int) ≤ n
    · rw [decide_eq_true h, cond_true]
      exact ih (n - 2) (A + 6) _ (log_step' (log_square h0 h1) h (by omega) hq hA (by omega)) (by omega) (by omega) (by omega) (by omega)
    · rw [decide_eq_false h, cond_false]
      exact hK _ _ (hq.mono (by omega))
theorem spec_l2_nar {x x_0 : Nat} {ve : Int} {K : Nat → Int → Nat} (hK : ∀ x' (e : Int), 4604930618986332160 ≤ x' → x' < 4609434218613702656 → e.natAbs ≤ 4000 → fnarrow (K x' e) ≠ none) :
    ∀ (μ : Nat) (x' : Nat) (e : Int), 4503599627370496 ≤ x' → x' < 4609434218613702656 → (4609434218613702656 : Int) - x' ≤ (e + 3000) * 4503599627370496 → e ≤ 2100 →
      fnarrow (p_spec_l01LogWide_l2 x x_0 ve K μ x' e) ≠ none := by
  intro μ
  induction μ with
  | zero => intro x' e _ _ _ _; exact (by decide +kernel : fnarrow 0 ≠ none)
  | succ μ ih =>
    intro x' e h0 h1 h2 h3
    rw [p_spec_l01LogWide_l2_s]
    cases hc : flt .f64 x' 4604930618986332160 with
    | true =>
      have := twice_step h0 (by omega) hc
      rw [cond_true, wrap64 (n := e - 1) (by omega) (by omega), this.1]
      exact ih _ _ (by omega) (by omega) (by omega) (by omega)
    | false =>
      rw [cond_false]
      rw [pos_lt h0 (by omega) (by decide) (by decide)] at hc
      have := of_decide_eq_false hc
      exact hK _ _ (by omega) h1 (by omega)
theorem spec_l1_nar {x : Nat} :
    ∀ (μ : Nat) (x_0 : Nat) (e : Int), 4503599627370496 ≤ x_0 → x_0 < 9218868437227405312 → e * 4503599627370496 + x_0 ≤ 9218868437227405312 → 0 ≤ e →
      fnarrow (p_spec_l01LogWide_l1 x μ x_0 e) ≠ none := by
  intro μ
  induction μ with
  | zero => intro x_0 e _ _ _ _; exact (by decide +kernel : fnarrow 0 ≠ none)
  | succ μ ih =>
    intro x_0 e h0 h1 h2 h3
    rw [p_spec_l01LogWide_l1_s]
    cases hc : fle .f64 4609434218613702656 x_0 with
    | true =>
      have := half_step h0 h1 hc
      rw [cond_true, wrap64 (n := e + 1) (by omega) (by omega), this.1]
      exact ih _ _ (by omega) (by omega) (by omega) (by omega)
    | false =>
      rw [cond_false]
      rw [pos_le (by decide) (by decide) h0 h1] at hc
      have := of_decide_eq_false hc
      refine spec_l2_nar ?_ _ _ _ h0 (by omega) (by omega) (by omega)
      intro x' e' a0 a1 a2
      refine spec_l3_nar a0 a1 ?_ _ 25 1074 0 (bd_zero _) (by decide) (by decide) (by decide) (by decide)
      intro q k hq
      exact log_sum' (log_quot a0 a1) hq (by decide) (by decide) a2
theorem spec_log_nar (x : Nat) : fnarrow (p_spec_l01LogWide (fwide x)) ≠ none := by
  rw [p_spec_l01LogWide_eq]
  cases h1 : feq .f64 (fwide x) (fwide x) with
  | false => exact (by decide +kernel : fnarrow p_math_NaN ≠ none)
  | true =>
    cases h2 : flt .f64 (fwide x) 0 with
    | true => exact (by decide +kernel : fnarrow p_math_NaN ≠ none)
    | false =>
      cases h3 : feq .f64 (fwide x) 0 with
      | true => exact (by decide +kernel : fnarrow (p_math_Inf (-1)) ≠ none)
      | false =>
        cases h4 : p_math_IsInf (fwide x) 1 with
        | true => exact inf_narrow x h4
        | false =>
          have h := nrm_use (wide_nrm x) h1 h2 h3 h4
          rw [Bool.not_true, cond_false, cond_false, cond_false, cond_false]
          exact spec_l1_nar _ _ 0 h.1 h.2 (by omega) (by decide)
/-! spec_l01LogWide: function 121 -/
def E_spec_l01LogWide : Env := envOf [(123, S_math_NaN), (122, S_math_Inf), (141, S_math_IsInf)]
def F_spec_l01LogWide : List Value → AHeap → (Value → AHeap → Prop) → Prop
  | [.float .f64 y], H, K => T_spec_l01LogWide y H fun (r1 : Nat) (H' : AHeap) => K (.float .f64 r1) H'
  | _, _, _ => False
def S_spec_l01LogWide : FSpec := { F := F_spec_l01LogWide, quiet := true, tame := false }
theorem spec_l01LogWide_vc (y : Nat) (H : AHeap) (K : Value → AHeap → Prop) : bodyK Try.prog E_spec_l01LogWide Try.f121 [.float .f64 y] H K =
  (Br (!(feq .f64 y y)) (T_math_NaN  H fun (r1 : Nat) (H1 : AHeap) => K (.float .f64 r1) H1) (Br (flt .f64 y 0) (T_math_NaN  H fun (r2 : Nat) (H2 : AHeap) => K (.float .f64 r2) H2) (Br (feq .f64 y 0) (T_math_Inf (-1) H fun (r3 : Nat) (H3 : AHeap) => K (.float .f64 r3) H3) (T_math_IsInf y 1 H fun (r4 : Bool) (H4 : AHeap) => Br r4 (K (.float .f64 y) H4) (loopK (exK Try.prog E_spec_l01LogWide (cl (cl (cl (cr (cr (cr (bodyC Try.f121)))))))) [.float .f64 y, undef, .float .f64 0, .int .i64 0, undef, undef, undef, undef, .bool (flt .f64 y 0), .float .f64 y, .float .f64 y, .bool (!(feq .f64 y y)), .bool false, .float .f64 y, .bool (flt .f64 y 0), .bool (flt .f64 y 0), undef, .bool (feq .f64 y 0), .float .f64 y, .bool (feq .f64 y 0), undef, .bool r4, .float .f64 y, .bool r4, undef, undef, undef, undef, undef, undef, undef, undef, undef, undef, undef, undef, undef, undef, undef, undef, undef, undef, undef, undef, undef, undef, undef, undef, undef, undef, undef, undef, undef, undef, undef, undef, undef, undef, undef, undef, undef, undef, undef, undef] H4 (blockQ 1 (seqQ (exK Try.prog E_spec_l01LogWide (cr (cr (cr (cr (bodyC Try.f121)))))) (retK Try.prog Try.f121 K)))))))) := by kernel_rfl
theorem spec_l01LogWide_r1 (r4 : Bool) (y : Nat) (y_0 : Nat) (ve : Int) (g25 g26 g27 g28 g29 g30 : Value) (H : AHeap) (R : Post) : exK Try.prog E_spec_l01LogWide (cl (cl (cl (cr (cr (cr (bodyC Try.f121))))))) [.float .f64 y_0, undef, .float .f64 0, .int .i64 ve, undef, undef, undef, undef, .bool (flt .f64 y 0), .float .f64 y, .float .f64 y, .bool (!(feq .f64 y y)), .bool false, .float .f64 y, .bool (flt .f64 y 0), .bool (flt .f64 y 0), undef, .bool (feq .f64 y 0), .float .f64 y, .bool (feq .f64 y 0), undef, .bool r4, .float .f64 y, .bool r4, undef, g25, g26, g27, g28, g29, g30, undef, undef, undef, undef, undef, undef, undef, undef, undef, undef, undef, undef, undef, undef, undef, undef, undef, undef, undef, undef, undef, undef, undef, undef, undef, undef, undef, undef, undef, undef, undef, undef, undef] H R =
  (Br (fle .f64 4609434218613702656 y_0) (R .normal [.float .f64 (fdiv .f64 y_0 4611686018427387904), undef, .float .f64 0, .int .i64 (IntKind.wrap .i64 (ve + 1)), undef, undef, undef, undef, .bool (flt .f64 y 0), .float .f64 y, .float .f64 y, .bool (!(feq .f64 y y)), .bool false, .float .f64 y, .bool (flt .f64 y 0), .bool (flt .f64 y 0), undef, .bool (feq .f64 y 0), .float .f64 y, .bool (feq .f64 y 0), undef, .bool r4, .float .f64 y, .bool r4, undef, .float .f64 y_0, .bool (fle .f64 4609434218613702656 y_0), .float .f64 y_0, .float .f64 (fdiv .f64 y_0 4611686018427387904), .int .i64 ve, .int .i64 (IntKind.wrap .i64 (ve + 1)), undef, undef, undef, undef, undef, undef, undef, undef, undef, undef, undef, undef, undef, undef, undef, undef, undef, undef, undef, undef, undef, undef, undef, undef, undef, undef, undef, undef, undef, undef, undef, undef, undef] H) (R (.exit 1) [.float .f64 y_0, undef, .float .f64 0, .int .i64 ve, undef, undef, undef, undef, .bool (flt .f64 y 0), .float .f64 y, .float .f64 y, .bool (!(feq .f64 y y)), .bool false, .float .f64 y, .bool (flt .f64 y 0), .bool (flt .f64 y 0), undef, .bool (feq .f64 y 0), .float .f64 y, .bool (feq .f64 y 0), undef, .bool r4, .float .f64 y, .bool r4, undef, .float .f64 y_0, .bool (fle .f64 4609434218613702656 y_0), g27, g28, g29, g30, undef, undef, undef, undef, undef, undef, undef, undef, undef, undef, undef, undef, undef, undef, undef, undef, undef, undef, undef, undef, undef, undef, undef, undef, undef, undef, undef, undef, undef, undef, undef, undef, undef] H)) := by kernel_rfl
def spec_l01LogWide_I1 (r4 : Bool) (y : Nat) (Inv : Nat → Nat → Int → AHeap → Prop) : Nat → List Value → AHeap → Prop := fun μ tm H => ∃ (y_0 : Nat), ∃ (ve : Int), ∃ g25 g26 g27 g28 g29 g30, tm = [.float .f64 y_0, undef, .float .f64 0, .int .i64 ve, undef, undef, undef, undef, .bool (flt .f64 y 0), .float .f64 y, .float .f64 y, .bool (!(feq .f64 y y)), .bool false, .float .f64 y, .bool (flt .f64 y 0), .bool (flt .f64 y 0), undef, .bool (feq .f64 y 0), .float .f64 y, .bool (feq .f64 y 0), undef, .bool r4, .float .f64 y, .bool r4, undef, g25, g26, g27, g28, g29, g30, undef, undef, undef, undef, undef, undef, undef, undef, undef, undef, undef, undef, undef, undef, undef, undef, undef, undef, undef, undef, undef, undef, undef, undef, undef, undef, undef, undef, undef, undef, undef, undef, undef] ∧ Inv μ y_0 ve H
theorem spec_l01LogWide_L1 (r4 : Bool) (y : Nat) {Q : Post} (Inv : Nat → Nat → Int → AHeap → Prop) (ν : Nat) (y_0 : Nat) (ve : Int) (g25 g26 g27 g28 g29 g30 : Value) (H : AHeap) (h0 : Inv ν y_0 ve H)
    (hs : ∀ (μ : Nat) (y_0 : Nat) (ve : Int) (g25 g26 g27 g28 g29 g30 : Value) (H : AHeap), Inv μ y_0 ve H → exK Try.prog E_spec_l01LogWide (cl (cl (cl (cr (cr (cr (bodyC Try.f121))))))) [.float .f64 y_0, undef, .float .f64 0, .int .i64 ve, undef, undef, undef, undef, .bool (flt .f64 y 0), .float .f64 y, .float .f64 y, .bool (!(feq .f64 y y)), .bool false, .float .f64 y, .bool (flt .f64 y 0), .bool (flt .f64 y 0), undef, .bool (feq .f64 y 0), .float .f64 y, .bool (feq .f64 y 0), undef, .bool r4, .float .f64 y, .bool r4, undef, g25, g26, g27, g28, g29, g30, undef, undef, undef, undef, undef, undef, undef, undef, undef, undef, undef, undef, undef, undef, undef, undef, undef, undef, undef, undef, undef, undef, undef, undef, undef, undef, undef, undef, undef, undef, undef, undef, undef] H (loopQ (spec_l01LogWide_I1 r4 y Inv) μ Q)) : loopK (exK Try.prog E_spec_l01LogWide (cl (cl (cl (cr (cr (cr (bodyC Try.f121)))))))) [.float .f64 y_0, undef, .float .f64 0, .int .i64 ve, undef, undef, undef, undef, .bool (flt .f64 y 0), .float .f64 y, .float .f64 y, .bool (!(feq .f64 y y)), .bool false, .float .f64 y, .bool (flt .f64 y 0), .bool (flt .f64 y 0), undef, .bool (feq .f64 y 0), .float .f64 y, .bool (feq .f64 y 0), undef, .bool r4, .float .f64 y, .bool r4, undef, g25, g26, g27, g28, g29, g30, undef, undef, undef, undef, undef, undef, undef, undef, undef, undef, undef, undef, undef, undef, undef, undef, undef, undef, undef, undef, undef, undef, undef, undef, undef, undef, undef, undef, undef, undef, undef, undef, undef] H Q :=
  ⟨spec_l01LogWide_I1 r4 y Inv, ν, ⟨y_0, ve, g25, g26, g27, g28, g29, g30, rfl, h0⟩, fun μ tm H h => by obtain ⟨y_0, ve, g25, g26, g27, g28, g29, g30, rfl, hI⟩ := h; exact hs μ y_0 ve g25 g26 g27 g28 g29 g30 H hI⟩
theorem spec_l01LogWide_n1 {r4 : Bool} {y : Nat} {Q : Post} {Inv : Nat → Nat → Int → AHeap → Prop} {μ : Nat} (μ' : Nat) {y_0 : Nat} {ve : Int} {g25 g26 g27 g28 g29 g30 : Value} {H : AHeap} (hm : μ' < μ) (hI : Inv μ' y_0 ve H) : loopQ (spec_l01LogWide_I1 r4 y Inv) μ Q .normal [.float .f64 y_0, undef, .float .f64 0, .int .i64 ve, undef, undef, undef, undef, .bool (flt .f64 y 0), .float .f64 y, .float .f64 y, .bool (!(feq .f64 y y)), .bool false, .float .f64 y, .bool (flt .f64 y 0), .bool (flt .f64 y 0), undef, .bool (feq .f64 y 0), .float .f64 y, .bool (feq .f64 y 0), undef, .bool r4, .float .f64 y, .bool r4, undef, g25, g26, g27, g28, g29, g30, undef, undef, undef, undef, undef, undef, undef, undef, undef, undef, undef, undef, undef, undef, undef, undef, undef, undef, undef, undef, undef, undef, undef, undef, undef, undef, undef, undef, undef, undef, undef, undef, undef] H := ⟨μ', hm, y_0, ve, g25, g26, g27, g28, g29, g30, rfl, hI⟩
theorem spec_l01LogWide_x1_1 (r4 : Bool) (y : Nat) (y_0 : Nat) (ve : Int) (g25 g26 g27 g28 g29 g30 : Value) (H : AHeap) (K : Value → AHeap → Prop)  {I : Nat → List Value → AHeap → Prop} {μ : Nat} : loopQ I μ (blockQ 1 (seqQ (exK Try.prog E_spec_l01LogWide (cr (cr (cr (cr (bodyC Try.f121)))))) (retK Try.prog Try.f121 K))) (.exit 1) [.float .f64 y_0, undef, .float .f64 0, .int .i64 ve, undef, undef, undef, undef, .bool (flt .f64 y 0), .float .f64 y, .float .f64 y, .bool (!(feq .f64 y y)), .bool false, .float .f64 y, .bool (flt .f64 y 0), .bool (flt .f64 y 0), undef, .bool (feq .f64 y 0), .float .f64 y, .bool (feq .f64 y 0), undef, .bool r4, .float .f64 y, .bool r4, undef, g25, g26, g27, g28, g29, g30, undef, undef, undef, undef, undef, undef, undef, undef, undef, undef, undef, undef, undef, undef, undef, undef, undef, undef, undef, undef, undef, undef, undef, undef, undef, undef, undef, undef, undef, undef, undef, undef, undef] H =
  (loopK (exK Try.prog E_spec_l01LogWide (cl (cl (cl (cr (cr (cr (cr (bodyC Try.f121))))))))) [.float .f64 y_0, undef, .float .f64 0, .int .i64 ve, undef, undef, undef, undef, .bool (flt .f64 y 0), .float .f64 y, .float .f64 y, .bool (!(feq .f64 y y)), .bool false, .float .f64 y, .bool (flt .f64 y 0), .bool (flt .f64 y 0), undef, .bool (feq .f64 y 0), .float .f64 y, .bool (feq .f64 y 0), undef, .bool r4, .float .f64 y, .bool r4, undef, g25, g26, g27, g28, g29, g30, undef, undef, undef, undef, undef, undef, undef, undef, undef, undef, undef, undef, undef, undef, undef, undef, undef, undef, undef, undef, undef, undef, undef, undef, undef, undef, undef, undef, undef, undef, undef, undef, undef] H (blockQ 3 (seqQ (exK Try.prog E_spec_l01LogWide (cr (cr (cr (cr (cr (bodyC Try.f121))))))) (retK Try.prog Try.f121 K)))) := by kernel_rfl
theorem spec_l01LogWide_r2 (g25 : Value) (g26 : Value) (g27 : Value) (g28 : Value) (g29 : Value) (g30 : Value) (r4 : Bool) (y : Nat) (y_0' : Nat) (ve_3 : Int) (g31 g32 g33 g34 g35 g36 : Value) (H : AHeap) (R : Post) : exK Try.prog E_spec_l01LogWide (cl (cl (cl (cr (cr (cr (cr (bodyC Try.f121)))))))) [.float .f64 y_0', undef, .float .f64 0, .int .i64 ve_3, undef, undef, undef, undef, .bool (flt .f64 y 0), .float .f64 y, .float .f64 y, .bool (!(feq .f64 y y)), .bool false, .float .f64 y, .bool (flt .f64 y 0), .bool (flt .f64 y 0), undef, .bool (feq .f64 y 0), .float .f64 y, .bool (feq .f64 y 0), undef, .bool r4, .float .f64 y, .bool r4, undef, g25, g26, g27, g28, g29, g30, g31, g32, g33, g34, g35, g36, undef, undef, undef, undef, undef, undef, undef, undef, undef, undef, undef, undef, undef, undef, undef, undef, undef, undef, undef, undef, undef, undef, undef, undef, undef, undef, undef] H R =
  (Br (flt .f64 y_0' 4604930618986332160) (R .normal [.float .f64 (fmul .f64 y_0' 4611686018427387904), undef, .float .f64 0, .int .i64 (IntKind.wrap .i64 (ve_3 - 1)), undef, undef, undef, undef, .bool (flt .f64 y 0), .float .f64 y, .float .f64 y, .bool (!(feq .f64 y y)), .bool false, .float .f64 y, .bool (flt .f64 y 0), .bool (flt .f64 y 0), undef, .bool (feq .f64 y 0), .float .f64 y, .bool (feq .f64 y 0), undef, .bool r4, .float .f64 y, .bool r4, undef, g25, g26, g27, g28, g29, g30, .float .f64 y_0', .bool (flt .f64 y_0' 4604930618986332160), .float .f64 y_0', .float .f64 (fmul .f64 y_0' 4611686018427387904), .int .i64 ve_3, .int .i64 (IntKind.wrap .i64 (ve_3 - 1)), undef, undef, undef, undef, undef, undef, undef, undef, undef, undef, undef, undef, undef, undef, undef, undef, undef, undef, undef, undef, undef, undef, undef, undef, undef, undef, undef] H) (R (.exit 3) [.float .f64 y_0', undef, .float .f64 0, .int .i64 ve_3, undef, undef, undef, undef, .bool (flt .f64 y 0), .float .f64 y, .float .f64 y, .bool (!(feq .f64 y y)), .bool false, .float .f64 y, .bool (flt .f64 y 0), .bool (flt .f64 y 0), undef, .bool (feq .f64 y 0), .float .f64 y, .bool (feq .f64 y 0), undef, .bool r4, .float .f64 y, .bool r4, undef, g25, g26, g27, g28, g29, g30, .float .f64 y_0', .bool (flt .f64 y_0' 4604930618986332160), g33, g34, g35, g36, undef, undef, undef, undef, undef, undef, undef, undef, undef, undef, undef, undef, undef, undef, undef, undef, undef, undef, undef, undef, undef, undef, undef, undef, undef, undef, undef] H)) := by kernel_rfl
def spec_l01LogWide_I2 (g25 : Value) (g26 : Value) (g27 : Value) (g28 : Value) (g29 : Value) (g30 : Value) (r4 : Bool) (y : Nat) (Inv : Nat → Nat → Int → AHeap → Prop) : Nat → List Value → AHeap → Prop := fun μ tm H => ∃ (y_0' : Nat), ∃ (ve_3 : Int), ∃ g31 g32 g33 g34 g35 g36, tm = [.float .f64 y_0', undef, .float .f64 0, .int .i64 ve_3, undef, undef, undef, undef, .bool (flt .f64 y 0), .float .f64 y, .float .f64 y, .bool (!(feq .f64 y y)), .bool false, .float .f64 y, .bool (flt .f64 y 0), .bool (flt .f64 y 0), undef, .bool (feq .f64 y 0), .float .f64 y, .bool (feq .f64 y 0), undef, .bool r4, .float .f64 y, .bool r4, undef, g25, g26, g27, g28, g29, g30, g31, g32, g33, g34, g35, g36, undef, undef, undef, undef, undef, undef, undef, undef, undef, undef, undef, undef, undef, undef, undef, undef, undef, undef, undef, undef, undef, undef, undef, undef, undef, undef, undef] ∧ Inv μ y_0' ve_3 H
theorem spec_l01LogWide_L2 (g25 : Value) (g26 : Value) (g27 : Value) (g28 : Value) (g29 : Value) (g30 : Value) (r4 : Bool) (y : Nat) {Q : Post} (Inv : Nat → Nat → Int → AHeap → Prop) (ν : Nat) (y_0' : Nat) (ve_3 : Int) (g31 g32 g33 g34 g35 g36 : Value) (H : AHeap) (h0 : Inv ν y_0' ve_3 H)
    (hs : ∀ (μ : Nat) (y_0' : Nat) (ve_3 : Int) (g31 g32 g33 g34 g35 g36 : Value) (H : AHeap), Inv μ y_0' ve_3 H → exK Try.prog E_spec_l01LogWide (cl (cl (cl (cr (cr (cr (cr (bodyC Try.f121)))))))) [.float .f64 y_0', undef, .float .f64 0, .int .i64 ve_3, undef, undef, undef, undef, .bool (flt .f64 y 0), .float .f64 y, .float .f64 y, .bool (!(feq .f64 y y)), .bool false, .float .f64 y, .bool (flt .f64 y 0), .bool (flt .f64 y 0), undef, .bool (feq .f64 y 0), .float .f64 y, .bool (feq .f64 y 0), undef, .bool r4, .float .f64 y, .bool r4, undef, g25, g26, g27, g28, g29, g30, g31, g32, g33, g34, g35, g36, undef, undef, undef, undef, undef, undef, undef, undef, undef, undef, undef, undef, undef, undef, undef, undef, undef, undef, undef, undef, undef, undef, undef, undef, undef, undef, undef] H (loopQ (spec_l01LogWide_I2 g25 g26 g27 g28 g29 g30 r4 y Inv) μ Q)) : loopK (exK Try.prog E_spec_l01LogWide (cl (cl (cl (cr (cr (cr (cr (bodyC Try.f121))))))))) [.float .f64 y_0', undef, .float .f64 0, .int .i64 ve_3, undef, undef, undef, undef, .bool (flt .f64 y 0), .float .f64 y, .float .f64 y, .bool (!(feq .f64 y y)), .bool false, .float .f64 y, .bool (flt .f64 y 0), .bool (flt .f64 y 0), undef, .bool (feq .f64 y 0), .float .f64 y, .bool (feq .f64 y 0), undef, .bool r4, .float .f64 y, .bool r4, undef, g25, g26, g27, g28, g29, g30, g31, g32, g33, g34, g35, g36, undef, undef, undef, undef, undef, undef, undef, undef, undef, undef, undef, undef, undef, undef, undef, undef, undef, undef, undef, undef, undef, undef, undef, undef, undef, undef, undef] H Q :=
  ⟨spec_l01LogWide_I2 g25 g26 g27 g28 g29 g30 r4 y Inv, ν, ⟨y_0', ve_3, g31, g32, g33, g34, g35, g36, rfl, h0⟩, fun μ tm H h => by obtain ⟨y_0', ve_3, g31, g32, g33, g34, g35, g36, rfl, hI⟩ := h; exact hs μ y_0' ve_3 g31 g32 g33 g34 g35 g36 H hI⟩
theorem spec_l01LogWide_n2 {g25 : Value} {g26 : Value} {g27 : Value} {g28 : Value} {g29 : Value} {g30 : Value} {r4 : Bool} {y : Nat} {Q : Post} {Inv : Nat → Nat → Int → AHeap → Prop} {μ : Nat} (μ' : Nat) {y_0' : Nat} {ve_3 : Int} {g31 g32 g33 g34 g35 g36 : Value} {H : AHeap} (hm : μ' < μ) (hI : Inv μ' y_0' ve_3 H) : loopQ (spec_l01LogWide_I2 g25 g26 g27 g28 g29 g30 r4 y Inv) μ Q .normal [.float .f64 y_0', undef, .float .f64 0, .int .i64 ve_3, undef, undef, undef, undef, .bool (flt .f64 y 0), .float .f64 y, .float .f64 y, .bool (!(feq .f64 y y)), .bool false, .float .f64 y, .bool (flt .f64 y 0), .bool (flt .f64 y 0), undef, .bool (feq .f64 y 0), .float .f64 y, .bool (feq .f64 y 0), undef, .bool r4, .float .f64 y, .bool r4, undef, g25, g26, g27, g28, g29, g30, g31, g32, g33, g34, g35, g36, undef, undef, undef, undef, undef, undef, undef, undef, undef, undef, undef, undef, undef, undef, undef, undef, undef, undef, undef, undef, undef, undef, undef, undef, undef, undef, undef] H := ⟨μ', hm, y_0', ve_3, g31, g32, g33, g34, g35, g36, rfl, hI⟩
theorem spec_l01LogWide_x2_3 (g25 : Value) (g26 : Value) (g27 : Value) (g28 : Value) (g29 : Value) (g30 : Value) (r4 : Bool) (y : Nat) (y_0' : Nat) (ve_3 : Int) (g31 g32 g33 g34 g35 g36 : Value) (H : AHeap) (K : Value → AHeap → Prop)  {I : Nat → List Value → AHeap → Prop} {μ : Nat} : loopQ I μ (blockQ 3 (seqQ (exK Try.prog E_spec_l01LogWide (cr (cr (cr (cr (cr (bodyC Try.f121))))))) (retK Try.prog Try.f121 K))) (.exit 3) [.float .f64 y_0', undef, .float .f64 0, .int .i64 ve_3, undef, undef, undef, undef, .bool (flt .f64 y 0), .float .f64 y, .float .f64 y, .bool (!(feq .f64 y y)), .bool false, .float .f64 y, .bool (flt .f64 y 0), .bool (flt .f64 y 0), undef, .bool (feq .f64 y 0), .float .f64 y, .bool (feq .f64 y 0), undef, .bool r4, .float .f64 y, .bool r4, undef, g25, g26, g27, g28, g29, g30, g31, g32, g33, g34, g35, g36, undef, undef, undef, undef, undef, undef, undef, undef, undef, undef, undef, undef, undef, undef, undef, undef, undef, undef, undef, undef, undef, undef, undef, undef, undef, undef, undef] H =
  (loopK (exK Try.prog E_spec_l01LogWide (cl (cl (cr (cl (cr (cr (cr (cr (cr (cr (cr (cr (bodyC Try.f121)))))))))))))) [.float .f64 y_0', undef, .float .f64 0, .int .i64 ve_3, .float .f64 (fdiv .f64 (fsub .f64 y_0' 4607182418800017408) (fadd .f64 y_0' 4607182418800017408)), .float .f64 (fmul .f64 (fdiv .f64 (fsub .f64 y_0' 4607182418800017408) (fadd .f64 y_0' 4607182418800017408)) (fdiv .f64 (fsub .f64 y_0' 4607182418800017408) (fadd .f64 y_0' 4607182418800017408))), .float .f64 0, .int .i64 25, .bool (flt .f64 y 0), .float .f64 y, .float .f64 y, .bool (!(feq .f64 y y)), .bool false, .float .f64 y, .bool (flt .f64 y 0), .bool (flt .f64 y 0), undef, .bool (feq .f64 y 0), .float .f64 y, .bool (feq .f64 y 0), undef, .bool r4, .float .f64 y, .bool r4, undef, g25, g26, g27, g28, g29, g30, g31, g32, g33, g34, g35, g36, .float .f64 y_0', .float .f64 (fsub .f64 y_0' 4607182418800017408), .float .f64 y_0', .float .f64 (fadd .f64 y_0' 4607182418800017408), .float .f64 (fdiv .f64 (fsub .f64 y_0' 4607182418800017408) (fadd .f64 y_0' 4607182418800017408)), .float .f64 (fdiv .f64 (fsub .f64 y_0' 4607182418800017408) (fadd .f64 y_0' 4607182418800017408)), .float .f64 (fdiv .f64 (fsub .f64 y_0' 4607182418800017408) (fadd .f64 y_0' 4607182418800017408)), .float .f64 (fmul .f64 (fdiv .f64 (fsub .f64 y_0' 4607182418800017408) (fadd .f64 y_0' 4607182418800017408)) (fdiv .f64 (fsub .f64 y_0' 4607182418800017408) (fadd .f64 y_0' 4607182418800017408))), undef, undef, undef, undef, undef, undef, undef, undef, undef, undef, undef, undef, undef, undef, undef, undef, undef, undef, undef] H (blockQ 5 (seqQ (exK Try.prog E_spec_l01LogWide (cr (cr (cr (cr (cr (cr (cr (cr (cr (bodyC Try.f121))))))))))) (retK Try.prog Try.f121 K)))) := by kernel_rfl
theorem spec_l01LogWide_r3 (g25 : Value) (g26 : Value) (g27 : Value) (g28 : Value) (g29 : Value) (g30 : Value) (g31 : Value) (g32 : Value) (g33 : Value) (g34 : Value) (g35 : Value) (g36 : Value) (r4 : Bool) (ve_3 : Int) (y : Nat) (y_0' : Nat) (q : Nat) (k : Int) (g45 g46 g47 g48 g49 g50 g51 g52 g53 g54 g55 : Value) (H : AHeap) (R : Post) : exK Try.prog E_spec_l01LogWide (cl (cl (cr (cl (cr (cr (cr (cr (cr (cr (cr (cr (bodyC Try.f121))))))))))))) [.float .f64 y_0', undef, .float .f64 0, .int .i64 ve_3, .float .f64 (fdiv .f64 (fsub .f64 y_0' 4607182418800017408) (fadd .f64 y_0' 4607182418800017408)), .float .f64 (fmul .f64 (fdiv .f64 (fsub .f64 y_0' 4607182418800017408) (fadd .f64 y_0' 4607182418800017408)) (fdiv .f64 (fsub .f64 y_0' 4607182418800017408) (fadd .f64 y_0' 4607182418800017408))), .float .f64 q, .int .i64 k, .bool (flt .f64 y 0), .float .f64 y, .float .f64 y, .bool (!(feq .f64 y y)), .bool false, .float .f64 y, .bool (flt .f64 y 0), .bool (flt .f64 y 0), undef, .bool (feq .f64 y 0), .float .f64 y, .bool (feq .f64 y 0), undef, .bool r4, .float .f64 y, .bool r4, undef, g25, g26, g27, g28, g29, g30, g31, g32, g33, g34, g35, g36, .float .f64 y_0', .float .f64 (fsub .f64 y_0' 4607182418800017408), .float .f64 y_0', .float .f64 (fadd .f64 y_0' 4607182418800017408), .float .f64 (fdiv .f64 (fsub .f64 y_0' 4607182418800017408) (fadd .f64 y_0' 4607182418800017408)), .float .f64 (fdiv .f64 (fsub .f64 y_0' 4607182418800017408) (fadd .f64 y_0' 4607182418800017408)), .float .f64 (fdiv .f64 (fsub .f64 y_0' 4607182418800017408) (fadd .f64 y_0' 4607182418800017408)), .float .f64 (fmul .f64 (fdiv .f64 (fsub .f64 y_0' 4607182418800017408) (fadd .f64 y_0' 4607182418800017408)) (fdiv .f64 (fsub .f64 y_0' 4607182418800017408) (fadd .f64 y_0' 4607182418800017408))), g45, g46, g47, g48, g49, g50, g51, g52, g53, g54, g55, undef, undef, undef, undef, undef, undef, undef, undef] H R =
  (Br (decide ((1 : Int) ≤ k)) (R .normal [.float .f64 y_0', undef, .float .f64 0, .int .i64 ve_3, .float .f64 (fdiv .f64 (fsub .f64 y_0' 4607182418800017408) (fadd .f64 y_0' 4607182418800017408)), .float .f64 (fmul .f64 (fdiv .f64 (fsub .f64 y_0' 4607182418800017408) (fadd .f64 y_0' 4607182418800017408)) (fdiv .f64 (fsub .f64 y_0' 4607182418800017408) (fadd .f64 y_0' 4607182418800017408))), .float .f64 (fadd .f64 (fdiv .f64 4607182418800017408 (FloatKind.nearest .f64 k)) (fmul .f64 (fmul .f64 (fdiv .f64 (fsub .f64 y_0' 4607182418800017408) (fadd .f64 y_0' 4607182418800017408)) (fdiv .f64 (fsub .f64 y_0' 4607182418800017408) (fadd .f64 y_0' 4607182418800017408))) q)), .int .i64 (IntKind.wrap .i64 (k - 2)), .bool (flt .f64 y 0), .float .f64 y, .float .f64 y, .bool (!(feq .f64 y y)), .bool false, .float .f64 y, .bool (flt .f64 y 0), .bool (flt .f64 y 0), undef, .bool (feq .f64 y 0), .float .f64 y, .bool (feq .f64 y 0), undef, .bool r4, .float .f64 y, .bool r4, undef, g25, g26, g27, g28, g29, g30, g31, g32, g33, g34, g35, g36, .float .f64 y_0', .float .f64 (fsub .f64 y_0' 4607182418800017408), .float .f64 y_0', .float .f64 (fadd .f64 y_0' 4607182418800017408), .float .f64 (fdiv .f64 (fsub .f64 y_0' 4607182418800017408) (fadd .f64 y_0' 4607182418800017408)), .float .f64 (fdiv .f64 (fsub .f64 y_0' 4607182418800017408) (fadd .f64 y_0' 4607182418800017408)), .float .f64 (fdiv .f64 (fsub .f64 y_0' 4607182418800017408) (fadd .f64 y_0' 4607182418800017408)), .float .f64 (fmul .f64 (fdiv .f64 (fsub .f64 y_0' 4607182418800017408) (fadd .f64 y_0' 4607182418800017408)) (fdiv .f64 (fsub .f64 y_0' 4607182418800017408) (fadd .f64 y_0' 4607182418800017408))), .int .i64 k, .bool (decide ((1 : Int) ≤ k)), .int .i64 k, .int .i64 (IntKind.wrap .i64 (k - 2)), .int .i64 k, .float .f64 (FloatKind.nearest .f64 k), .float .f64 (fdiv .f64 4607182418800017408 (FloatKind.nearest .f64 k)), .float .f64 (fmul .f64 (fdiv .f64 (fsub .f64 y_0' 4607182418800017408) (fadd .f64 y_0' 4607182418800017408)) (fdiv .f64 (fsub .f64 y_0' 4607182418800017408) (fadd .f64 y_0' 4607182418800017408))), .float .f64 q, .float .f64 (fmul .f64 (fmul .f64 (fdiv .f64 (fsub .f64 y_0' 4607182418800017408) (fadd .f64 y_0' 4607182418800017408)) (fdiv .f64 (fsub .f64 y_0' 4607182418800017408) (fadd .f64 y_0' 4607182418800017408))) q), .float .f64 (fadd .f64 (fdiv .f64 4607182418800017408 (FloatKind.nearest .f64 k)) (fmul .f64 (fmul .f64 (fdiv .f64 (fsub .f64 y_0' 4607182418800017408) (fadd .f64 y_0' 4607182418800017408)) (fdiv .f64 (fsub .f64 y_0' 4607182418800017408) (fadd .f64 y_0' 4607182418800017408))) q)), undef, undef, undef, undef, undef, undef, undef, undef] H) (R (.exit 5) [.float .f64 y_0', undef, .float .f64 0, .int .i64 ve_3, .float .f64 (fdiv .f64 (fsub .f64 y_0' 4607182418800017408) (fadd .f64 y_0' 4607182418800017408)), .float .f64 (fmul .f64 (fdiv .f64 (fsub .f64 y_0' 4607182418800017408) (fadd .f64 y_0' 4607182418800017408)) (fdiv .f64 (fsub .f64 y_0' 4607182418800017408) (fadd .f64 y_0' 4607182418800017408))), .float .f64 q, .int .i64 k, .bool (flt .f64 y 0), .float .f64 y, .float .f64 y, .bool (!(feq .f64 y y)), .bool false, .float .f64 y, .bool (flt .f64 y 0), .bool (flt .f64 y 0), undef, .bool (feq .f64 y 0), .float .f64 y, .bool (feq .f64 y 0), undef, .bool r4, .float .f64 y, .bool r4, undef, g25, g26, g27, g28, g29, g30, g31, g32, g33, g34, g35, g36, .float .f64 y_0', .float .f64 (fsub .f64 y_0' 4607182418800017408), .float .f64 y_0', .float .f64 (fadd .f64 y_0' 4607182418800017408), .float .f64 (fdiv .f64 (fsub .f64 y_0' 4607182418800017408) (fadd .f64 y_0' 4607182418800017408)), .float .f64 (fdiv .f64 (fsub .f64 y_0' 4607182418800017408) (fadd .f64 y_0' 4607182418800017408)), .float .f64 (fdiv .f64 (fsub .f64 y_0' 4607182418800017408) (fadd .f64 y_0' 4607182418800017408)), .float .f64 (fmul .f64 (fdiv .f64 (fsub .f64 y_0' 4607182418800017408) (fadd .f64 y_0' 4607182418800017408)) (fdiv .f64 (fsub .f64 y_0' 4607182418800017408) (fadd .f64 y_0' 4607182418800017408))), .int .i64 k, .bool (decide ((1 : Int) ≤ k)), g47, g48, g49, g50, g51, g52, g53, g54, g55, undef, undef, undef, undef, undef, undef, undef, undef] H)) := by kernel_rfl
def spec_l01LogWide_I3 (g25 : Value) (g26 : Value) (g27 : Value) (g28 : Value) (g29 : Value) (g30 : Value) (g31 : Value) (g32 : Value) (g33 : Value) (g34 : Value) (g35 : Value) (g36 : Value) (r4 : Bool) (ve_3 : Int) (y : Nat) (y_0' : Nat) (Inv : Nat → Nat → Int → AHeap → Prop) : Nat → List Value → AHeap → Prop := fun μ tm H => ∃ (q : Nat), ∃ (k : Int), ∃ g45 g46 g47 g48 g49 g50 g51 g52 g53 g54 g55, tm = [.float .f64 y_0', undef, .float .f64 0, .int .i64 ve_3, .float .f64 (fdiv .f64 (fsub .f64 y_0' 4607182418800017408) (fadd .f64 y_0' 4607182418800017408)), .float .f64 (fmul .f64 (fdiv .f64 (fsub .f64 y_0' 4607182418800017408) (fadd .f64 y_0' 4607182418800017408)) (fdiv .f64 (fsub .f64 y_0' 4607182418800017408) (fadd .f64 y_0' 4607182418800017408))), .float .f64 q, .int .i64 k, .bool (flt .f64 y 0), .float .f64 y, .float .f64 y, .bool (!(feq .f64 y y)), .bool false, .float .f64 y, .bool (flt .f64 y 0), .bool (flt .f64 y 0), undef, .bool (feq .f64 y 0), .float .f64 y, .bool (feq .f64 y 0), undef, .bool r4, .float .f64 y, .bool r4, undef, g25, g26, g27, g28, g29, g30, g31, g32, g33, g34, g35, g36, .float .f64 y_0', .float .f64 (fsub .f64 y_0' 4607182418800017408), .float .f64 y_0', .float .f64 (fadd .f64 y_0' 4607182418800017408), .float .f64 (fdiv .f64 (fsub .f64 y_0' 4607182418800017408) (fadd .f64 y_0' 4607182418800017408)), .float .f64 (fdiv .f64 (fsub .f64 y_0' 4607182418800017408) (fadd .f64 y_0' 4607182418800017408)), .float .f64 (fdiv .f64 (fsub .f64 y_0' 4607182418800017408) (fadd .f64 y_0' 4607182418800017408)), .float .f64 (fmul .f64 (fdiv .f64 (fsub .f64 y_0' 4607182418800017408) (fadd .f64 y_0' 4607182418800017408)) (fdiv .f64 (fsub .f64 y_0' 4607182418800017408) (fadd .f64 y_0' 4607182418800017408))), g45, g46, g47, g48, g49, g50, g51, g52, g53, g54, g55, undef, undef, undef, undef, undef, undef, undef, undef] ∧ Inv μ q k H
theorem spec_l01LogWide_L3 (g25 : Value) (g26 : Value) (g27 : Value) (g28 : Value) (g29 : Value) (g30 : Value) (g31 : Value) (g32 : Value) (g33 : Value) (g34 : Value) (g35 : Value) (g36 : Value) (r4 : Bool) (ve_3 : Int) (y : Nat) (y_0' : Nat) {Q : Post} (Inv : Nat → Nat → Int → AHeap → Prop) (ν : Nat) (q : Nat) (k : Int) (g45 g46 g47 g48 g49 g50 g51 g52 g53 g54 g55 : Value) (H : AHeap) (h0 : Inv ν q k H)
    (hs : ∀ (μ : Nat) (q : Nat) (k : Int) (g45 g46 g47 g48 g49 g50 g51 g52 g53 g54 g55 : Value) (H : AHeap), Inv μ q k H → exK Try.prog E_spec_l01LogWide (cl (cl (cr (cl (cr (cr (cr (cr (cr (cr (cr (cr (bodyC Try.f121))))))))))))) [.float .f64 y_0', undef, .float .f64 0, .int .i64 ve_3, .float .f64 (fdiv .f64 (fsub .f64 y_0' 4607182418800017408) (fadd .f64 y_0' 4607182418800017408)), .float .f64 (fmul .f64 (fdiv .f64 (fsub .f64 y_0' 4607182418800017408) (fadd .f64 y_0' 4607182418800017408)) (fdiv .f64 (fsub .f64 y_0' 4607182418800017408) (fadd .f64 y_0' 4607182418800017408))), .float .f64 q, .int .i64 k, .bool (flt .f64 y 0), .float .f64 y, .float .f64 y, .bool (!(feq .f64 y y)), .bool false, .float .f64 y, .bool (flt .f64 y 0), .bool (flt .f64 y 0), undef, .bool (feq .f64 y 0), .float .f64 y, .bool (feq .f64 y 0), undef, .bool r4, .float .f64 y, .bool r4, undef, g25, g26, g27, g28, g29, g30, g31, g32, g33, g34, g35, g36, .float .f64 y_0', .float .f64 (fsub .f64 y_0' 4607182418800017408), .float .f64 y_0', .float .f64 (fadd .f64 y_0' 4607182418800017408), .float .f64 (fdiv .f64 (fsub .f64 y_0' 4607182418800017408) (fadd .f64 y_0' 4607182418800017408)), .float .f64 (fdiv .f64 (fsub .f64 y_0' 4607182418800017408) (fadd .f64 y_0' 4607182418800017408)), .float .f64 (fdiv .f64 (fsub .f64 y_0' 4607182418800017408) (fadd .f64 y_0' 4607182418800017408)), .float .f64 (fmul .f64 (fdiv .f64 (fsub .f64 y_0' 4607182418800017408) (fadd .f64 y_0' 4607182418800017408)) (fdiv .f64 (fsub .f64 y_0' 4607182418800017408) (fadd .f64 y_0' 4607182418800017408))), g45, g46, g47, g48, g49, g50, g51, g52, g53, g54, g55, undef, undef, undef, undef, undef, undef, undef, undef] H (loopQ (spec_l01LogWide_I3 g25 g26 g27 g28 g29 g30 g31 g32 g33 g34 g35 g36 r4 ve_3 y y_0' Inv) μ Q)) : loopK (exK Try.prog E_spec_l01LogWide (cl (cl (cr (cl (cr (cr (cr (cr (cr (cr (cr (cr (bodyC Try.f121)))))))))))))) [.float .f64 y_0', undef, .float .f64 0, .int .i64 ve_3, .float .f64 (fdiv .f64 (fsub .f64 y_0' 4607182418800017408) (fadd .f64 y_0' 4607182418800017408)), .float .f64 (fmul .f64 (fdiv .f64 (fsub .f64 y_0' 4607182418800017408) (fadd .f64 y_0' 4607182418800017408)) (fdiv .f64 (fsub .f64 y_0' 4607182418800017408) (fadd .f64 y_0' 4607182418800017408))), .float .f64 q, .int .i64 k, .bool (flt .f64 y 0), .float .f64 y, .float .f64 y, .bool (!(feq .f64 y y)), .bool false, .float .f64 y, .bool (flt .f64 y 0), .bool (flt .f64 y 0), undef, .bool (feq .f64 y 0), .float .f64 y, .bool (feq .f64 y 0), undef, .bool r4, .float .f64 y, .bool r4, undef, g25, g26, g27, g28, g29, g30, g31, g32, g33, g34, g35, g36, .float .f64 y_0', .float .f64 (fsub .f64 y_0' 4607182418800017408), .float .f64 y_0', .float .f64 (fadd .f64 y_0' 4607182418800017408), .float .f64 (fdiv .f64 (fsub .f64 y_0' 4607182418800017408) (fadd .f64 y_0' 4607182418800017408)), .float .f64 (fdiv .f64 (fsub .f64 y_0' 4607182418800017408) (fadd .f64 y_0' 4607182418800017408)), .float .f64 (fdiv .f64 (fsub .f64 y_0' 4607182418800017408) (fadd .f64 y_0' 4607182418800017408)), .float .f64 (fmul .f64 (fdiv .f64 (fsub .f64 y_0' 4607182418800017408) (fadd .f64 y_0' 4607182418800017408)) (fdiv .f64 (fsub .f64 y_0' 4607182418800017408) (fadd .f64 y_0' 4607182418800017408))), g45, g46, g47, g48, g49, g50, g51, g52, g53, g54, g55, undef, undef, undef, undef, undef, undef, undef, undef] H Q :=
  ⟨spec_l01LogWide_I3 g25 g26 g27 g28 g29 g30 g31 g32 g33 g34 g35 g36 r4 ve_3 y y_0' Inv, ν, ⟨q, k, g45, g46, g47, g48, g49, g50, g51, g52, g53, g54, g55, rfl, h0⟩, fun μ tm H h => by obtain ⟨q, k, g45, g46, g47, g48, g49, g50, g51, g52, g53, g54, g55, rfl, hI⟩ := h; exact hs μ q k g45 g46 g47 g48 g49 g50 g51 g52 g53 g54 g55 H hI⟩
theorem spec_l01LogWide_n3 {g25 : Value} {g26 : Value} {g27 : Value} {g28 : Value} {g29 : Value} {g30 : Value} {g31 : Value} {g32 : Value} {g33 : Value} {g34 : Value} {g35 : Value} {g36 : Value} {r4 : Bool} {ve_3 : Int} {y : Nat} {y_0' : Nat} {Q : Post} {Inv : Nat → Nat → Int → AHeap → Prop} {μ : Nat} (μ' : Nat) {q : Nat} {k : Int} {g45 g46 g47 g48 g49 g50 g51 g52 g53 g54 g55 : Value} {H : AHeap} (hm : μ' < μ) (hI : Inv μ' q k H) : loopQ (spec_l01LogWide_I3 g25 g26 g27 g28 g29 g30 g31 g32 g33 g34 g35 g36 r4 ve_3 y y_0' Inv) μ Q .normal [.float .f64 y_0', undef, .float .f64 0, .int .i64 ve_3, .float .f64 (fdiv .f64 (fsub .f64 y_0' 4607182418800017408) (fadd .f64 y_0' 4607182418800017408)), .float .f64 (fmul .f64 (fdiv .f64 (fsub .f64 y_0' 4607182418800017408) (fadd .f64 y_0' 4607182418800017408)) (fdiv .f64 (fsub .f64 y_0' 4607182418800017408) (fadd .f64 y_0' 4607182418800017408))), .float .f64 q, .int .i64 k, .bool (flt .f64 y 0), .float .f64 y, .float .f64 y, .bool (!(feq .f64 y y)), .bool false, .float .f64 y, .bool (flt .f64 y 0), .bool (flt .f64 y 0), undef, .bool (feq .f64 y 0), .float .f64 y, .bool (feq .f64 y 0), undef, .bool r4, .float .f64 y, .bool r4, undef, g25, g26, g27, g28, g29, g30, g31, g32, g33, g34, g35, g36, .float .f64 y_0', .float .f64 (fsub .f64 y_0' 4607182418800017408), .float .f64 y_0', .float .f64 (fadd .f64 y_0' 4607182418800017408), .float .f64 (fdiv .f64 (fsub .f64 y_0' 4607182418800017408) (fadd .f64 y_0' 4607182418800017408)), .float .f64 (fdiv .f64 (fsub .f64 y_0' 4607182418800017408) (fadd .f64 y_0' 4607182418800017408)), .float .f64 (fdiv .f64 (fsub .f64 y_0' 4607182418800017408) (fadd .f64 y_0' 4607182418800017408)), .float .f64 (fmul .f64 (fdiv .f64 (fsub .f64 y_0' 4607182418800017408) (fadd .f64 y_0' 4607182418800017408)) (fdiv .f64 (fsub .f64 y_0' 4607182418800017408) (fadd .f64 y_0' 4607182418800017408))), g45, g46, g47, g48, g49, g50, g51, g52, g53, g54, g55, undef, undef, undef, undef, undef, undef, undef, undef] H := ⟨μ', hm, q, k, g45, g46, g47, g48, g49, g50, g51, g52, g53, g54, g55, rfl, hI⟩
theorem spec_l01LogWide_x3_5 (g25 : Value) (g26 : Value) (g27 : Value) (g28 : Value) (g29 : Value) (g30 : Value) (g31 : Value) (g32 : Value) (g33 : Value) (g34 : Value) (g35 : Value) (g36 : Value) (r4 : Bool) (ve_3 : Int) (y : Nat) (y_0' : Nat) (q : Nat) (k : Int) (g45 g46 g47 g48 g49 g50 g51 g52 g53 g54 g55 : Value) (H : AHeap) (K : Value → AHeap → Prop)  {I : Nat → List Value → AHeap → Prop} {μ : Nat} : loopQ I μ (blockQ 5 (seqQ (exK Try.prog E_spec_l01LogWide (cr (cr (cr (cr (cr (cr (cr (cr (cr (bodyC Try.f121))))))))))) (retK Try.prog Try.f121 K))) (.exit 5) [.float .f64 y_0', undef, .float .f64 0, .int .i64 ve_3, .float .f64 (fdiv .f64 (fsub .f64 y_0' 4607182418800017408) (fadd .f64 y_0' 4607182418800017408)), .float .f64 (fmul .f64 (fdiv .f64 (fsub .f64 y_0' 4607182418800017408) (fadd .f64 y_0' 4607182418800017408)) (fdiv .f64 (fsub .f64 y_0' 4607182418800017408) (fadd .f64 y_0' 4607182418800017408))), .float .f64 q, .int .i64 k, .bool (flt .f64 y 0), .float .f64 y, .float .f64 y, .bool (!(feq .f64 y y)), .bool false, .float .f64 y, .bool (flt .f64 y 0), .bool (flt .f64 y 0), undef, .bool (feq .f64 y 0), .float .f64 y, .bool (feq .f64 y 0), undef, .bool r4, .float .f64 y, .bool r4, undef, g25, g26, g27, g28, g29, g30, g31, g32, g33, g34, g35, g36, .float .f64 y_0', .float .f64 (fsub .f64 y_0' 4607182418800017408), .float .f64 y_0', .float .f64 (fadd .f64 y_0' 4607182418800017408), .float .f64 (fdiv .f64 (fsub .f64 y_0' 4607182418800017408) (fadd .f64 y_0' 4607182418800017408)), .float .f64 (fdiv .f64 (fsub .f64 y_0' 4607182418800017408) (fadd .f64 y_0' 4607182418800017408)), .float .f64 (fdiv .f64 (fsub .f64 y_0' 4607182418800017408) (fadd .f64 y_0' 4607182418800017408)), .float .f64 (fmul .f64 (fdiv .f64 (fsub .f64 y_0' 4607182418800017408) (fadd .f64 y_0' 4607182418800017408)) (fdiv .f64 (fsub .f64 y_0' 4607182418800017408) (fadd .f64 y_0' 4607182418800017408))), g45, g46, g47, g48, g49, g50, g51, g52, g53, g54, g55, undef, undef, undef, undef, undef, undef, undef, undef] H =
  (K (.float .f64 (fadd .f64 (fmul .f64 4611686018427387904 (fmul .f64 (fdiv .f64 (fsub .f64 y_0' 4607182418800017408) (fadd .f64 y_0' 4607182418800017408)) q)) (fmul .f64 (FloatKind.nearest .f64 ve_3) 4604418534313441775))) H) := by kernel_rfl
theorem E_spec_l01LogWide_ok : ∀ g, FnOk Try.prog g (E_spec_l01LogWide g) := FnOk.envOf (by
  intro x hx
  simp only [List.mem_cons, List.not_mem_nil, or_false] at hx
  rcases hx with rfl | rfl | rfl
  · exact math_NaN_ok
  · exact math_Inf_ok
  · exact math_IsInf_ok)
set_option maxHeartbeats 1000000 in
theorem spec_l01LogWide_main (y : Nat) (H : AHeap) (K : Value → AHeap → Prop) (h : T_spec_l01LogWide y H fun (r1 : Nat) (H' : AHeap) => K (.float .f64 r1) H') : bodyK Try.prog E_spec_l01LogWide Try.f121 [.float .f64 y] H K := by
  rw [spec_l01LogWide_vc]
  obtain ⟨pr0, hk⟩ := h
  have e : (p_spec_l01LogWide y) = _ := rfl
  have e := e.trans (p_spec_l01LogWide_eq y)
  have g0 := Grow.refl H
  refine Br.intro (fun c_1 => ?_) (fun c_1 => ?_)
  · have e := e.trans (cond_t c_1)
    have c_1n := nf_of_t c_1
    refine T_math_NaN_i ?_
    rw [e] at hk
    exact hk
  · have e := e.trans (cond_f c_1)
    have c_1n := nt_of_f c_1
    refine Br.intro (fun c_2 => ?_) (fun c_2 => ?_)
    · have e := e.trans (cond_t c_2)
      refine T_math_NaN_i ?_
      rw [e] at hk
      exact hk
    · have e := e.trans (cond_f c_2)
      refine Br.intro (fun c_3 => ?_) (fun c_3 => ?_)
      · have e := e.trans (cond_t c_3)
        refine T_math_Inf_i ?_
        rw [e] at hk
        exact hk
      · have e := e.trans (cond_f c_3)
        refine T_math_IsInf_i ?_
        refine Br.intro (fun c_4 => ?_) (fun c_4 => ?_)
        · have e := e.trans (cond_t c_4)
          rw [e] at hk
          exact hk
        · have e := e.trans (cond_f c_4)
          have c_4' := math_IsInf_f c_4
          refine spec_l01LogWide_L1 _ _ (fun (μ : Nat) (y_0 : Nat) (ve : Int) (H_1 : AHeap) => H = H_1 ∧ 4503599627370496 ≤ y_0 ∧ y_0 < 9218868437227405312 ∧ (y_0 : Int) ≤ (μ : Int) ∧ p_spec_l01LogWide y = p_spec_l01LogWide_l1 y (μ + 1) y_0 ve) (Int.toNat ((y : Int))) _ _ _ _ _ _ _ _ H ?_ ?_
          · exact ⟨rfl, (by first | omega | (simp; done) | (simp; omega) | (first | (have := nrm_use (by assumption) (by assumption) (by assumption) (by assumption) ((by assumption : (1 : Int) = 1 → _) rfl); omega) | (have := half_step (by assumption) (by assumption) (by assumption); omega))), (by first | omega | (simp; done) | (simp; omega) | (first | (have := nrm_use (by assumption) (by assumption) (by assumption) (by assumption) ((by assumption : (1 : Int) = 1 → _) rfl); omega) | (have := half_step (by assumption) (by assumption) (by assumption); omega))), (by omega), e⟩
          · intro μ y_0 ve g25 g26 g27 g28 g29 g30 H_1 hI
            obtain ⟨rfl, v_5, v_6, hμ, e⟩ := hI
            rw [spec_l01LogWide_r1]
            have e := e.trans (p_spec_l01LogWide_l1_s y μ y_0 ve)
            have l_7 := g0.1
            refine Br.intro (fun c_8 => ?_) (fun c_8 => ?_)
            · have e := e.trans (cond_t c_8)
              refine spec_l01LogWide_n1 (μ - 1) (by first | omega | (have := half_step (by assumption) (by assumption) (by assumption); omega)) ⟨rfl, (by first | omega | (first | (have := nrm_use (by assumption) (by assumption) (by assumption) (by assumption) ((by assumption : (1 : Int) = 1 → _) rfl); omega) | (have := half_step (by assumption) (by assumption) (by assumption); omega)) | (simp only [List.length_append, List.length_cons, List.length_nil, List.length_set]; done) | (simp only [List.length_append, List.length_cons, List.length_nil, List.length_set]; omega)), (by first | omega | (first | (have := nrm_use (by assumption) (by assumption) (by assumption) (by assumption) ((by assumption : (1 : Int) = 1 → _) rfl); omega) | (have := half_step (by assumption) (by assumption) (by assumption); omega)) | (simp only [List.length_append, List.length_cons, List.length_nil, List.length_set]; done) | (simp only [List.length_append, List.length_cons, List.length_nil, List.length_set]; omega)), (by first | omega | (have := half_step (by assumption) (by assumption) (by assumption); omega)), (by rw [show μ - 1 + 1 = μ from by first | omega | (have := half_step (by assumption) (by assumption) (by assumption); omega)]; exact e)⟩
            · have e := e.trans (cond_f c_8)
              rw [spec_l01LogWide_x1_1]
              refine spec_l01LogWide_L2 _ _ _ _ _ _ _ _ (fun (μ2 : Nat) (y_0' : Nat) (ve_3 : Int) (H_2 : AHeap) => H = H_2 ∧ 4503599627370496 ≤ y_0' ∧ y_0' < 9218868437227405312 ∧ (4604930618986332160 : Int) - y_0' ≤ (μ2 : Int) ∧ p_spec_l01LogWide y = p_spec_l01LogWide_l2 y y_0 ve (fun (y_0' : Nat) (ve_3 : Int) => (p_spec_l01LogWide_l3 y y_0 ve y_0' ve_3 (fun (q : Nat) (k : Int) => fadd .f64 (fmul .f64 4611686018427387904 (fmul .f64 (fdiv .f64 (fsub .f64 y_0' 4607182418800017408) (fadd .f64 y_0' 4607182418800017408)) q)) (fmul .f64 (FloatKind.nearest .f64 ve_3) 4604418534313441775)) (Int.toNat ((25 : Int) + 1) + 1) 0 (25 : Int))) (μ2 + 1) y_0' ve_3) (Int.toNat ((4604930618986332160 : Int) - y_0)) _ _ _ _ _ _ _ _ H ?_ ?_
              · exact ⟨rfl, (by first | omega | (simp; done) | (simp; omega) | (have := twice_step (by assumption) (by assumption) (by assumption); omega)), (by first | omega | (simp; done) | (simp; omega) | (have := twice_step (by assumption) (by assumption) (by assumption); omega)), (by omega), e⟩
              · intro μ2 y_0' ve_3 g31 g32 g33 g34 g35 g36 H_2 hI
                obtain ⟨rfl, v_9, v_10, hμ, e⟩ := hI
                rw [spec_l01LogWide_r2]
                have e := e.trans (p_spec_l01LogWide_l2_s y y_0 ve (fun (y_0' : Nat) (ve_3 : Int) => (p_spec_l01LogWide_l3 y y_0 ve y_0' ve_3 (fun (q : Nat) (k : Int) => fadd .f64 (fmul .f64 4611686018427387904 (fmul .f64 (fdiv .f64 (fsub .f64 y_0' 4607182418800017408) (fadd .f64 y_0' 4607182418800017408)) q)) (fmul .f64 (FloatKind.nearest .f64 ve_3) 4604418534313441775)) (Int.toNat ((25 : Int) + 1) + 1) 0 (25 : Int))) μ2 y_0' ve_3)
                have l_11 := g0.1
                refine Br.intro (fun c_12 => ?_) (fun c_12 => ?_)
                · have e := e.trans (cond_t c_12)
                  refine spec_l01LogWide_n2 (μ2 - 1) (by first | omega | (have := twice_step (by assumption) (by assumption) (by assumption); omega)) ⟨rfl, (by first | omega | (have := twice_step (by assumption) (by assumption) (by assumption); omega) | (simp only [List.length_append, List.length_cons, List.length_nil, List.length_set]; done) | (simp only [List.length_append, List.length_cons, List.length_nil, List.length_set]; omega)), (by first | omega | (have := twice_step (by assumption) (by assumption) (by assumption); omega) | (simp only [List.length_append, List.length_cons, List.length_nil, List.length_set]; done) | (simp only [List.length_append, List.length_cons, List.length_nil, List.length_set]; omega)), (by first | omega | (have := twice_step (by assumption) (by assumption) (by assumption); omega)), (by rw [show μ2 - 1 + 1 = μ2 from by first | omega | (have := twice_step (by assumption) (by assumption) (by assumption); omega)]; exact e)⟩
                · have e := e.trans (cond_f c_12)
                  rw [spec_l01LogWide_x2_3]
                  refine spec_l01LogWide_L3 _ _ _ _ _ _ _ _ _ _ _ _ _ _ _ _ (fun (μ3 : Nat) (q : Nat) (k : Int) (H_3 : AHeap) => H = H_3 ∧ k ≤ 25 ∧ -1 ≤ k ∧ k + 1 ≤ (μ3 : Int) ∧ p_spec_l01LogWide y = p_spec_l01LogWide_l3 y y_0 ve y_0' ve_3 (fun (q : Nat) (k : Int) => fadd .f64 (fmul .f64 4611686018427387904 (fmul .f64 (fdiv .f64 (fsub .f64 y_0' 4607182418800017408) (fadd .f64 y_0' 4607182418800017408)) q)) (fmul .f64 (FloatKind.nearest .f64 ve_3) 4604418534313441775)) (μ3 + 1) q k) (Int.toNat ((25 : Int) + 1)) _ _ _ _ _ _ _ _ _ _ _ _ _ H ?_ ?_
                  · exact ⟨rfl, (by first | omega | (simp; done) | (simp; omega)), (by first | omega | (simp; done) | (simp; omega)), (by omega), e⟩
                  · intro μ3 q k g45 g46 g47 g48 g49 g50 g51 g52 g53 g54 g55 H_3 hI
                    obtain ⟨rfl, v_13, v_14, hμ, e⟩ := hI
                    rw [spec_l01LogWide_r3]
                    have e := e.trans (p_spec_l01LogWide_l3_s y y_0 ve y_0' ve_3 (fun (q : Nat) (k : Int) => fadd .f64 (fmul .f64 4611686018427387904 (fmul .f64 (fdiv .f64 (fsub .f64 y_0' 4607182418800017408) (fadd .f64 y_0' 4607182418800017408)) q)) (fmul .f64 (FloatKind.nearest .f64 ve_3) 4604418534313441775)) μ3 q k)
                    have l_15 := g0.1
                    refine Br.intro (fun c_16 => ?_) (fun c_16 => ?_)
                    · have e := e.trans (cond_t c_16)
                      have c_16' := of_decide_eq_true c_16
                      rw [show IntKind.wrap .i64 (k - 2) = (k - 2) from wrap64 (by omega) (by omega)]
                      refine spec_l01LogWide_n3 (μ3 - 1) (by first | omega) ⟨rfl, (by first | omega | (simp only [List.length_append, List.length_cons, List.length_nil, List.length_set]; done) | (simp only [List.length_append, List.length_cons, List.length_nil, List.length_set]; omega)), (by first | omega | (simp only [List.length_append, List.length_cons, List.length_nil, List.length_set]; done) | (simp only [List.length_append, List.length_cons, List.length_nil, List.length_set]; omega)), (by first | omega), (by rw [show μ3 - 1 + 1 = μ3 from by first | omega]; exact e)⟩
                    · have e := e.trans (cond_f c_16)
                      have c_16' := of_decide_eq_false c_16
                      rw [spec_l01LogWide_x3_5]
                      rw [e] at hk
                      exact hk
theorem spec_l01LogWide_ok : FnOk Try.prog 121 S_spec_l01LogWide := by
  refine FnOk.body mix_ok E_spec_l01LogWide_ok Try.func121 rfl (by kernel_rfl) (by kernel_rfl) ?_ ?_ ?_ ?_ ?_
  · intro args H K K' h hk
    simp only [S_spec_l01LogWide] at *
    unfold F_spec_l01LogWide at *
    split at hk
    · obtain ⟨pr0, k⟩ := hk
      exact ⟨pr0, h _ _ k⟩
    · exact hk.elim
  · intro _ args H K hk
    simp only [S_spec_l01LogWide] at *
    unfold F_spec_l01LogWide at *
    split at hk
    · obtain ⟨pr0, k⟩ := hk
      exact ⟨_, k, fun K' k' => ⟨pr0, k'⟩⟩
    · exact hk.elim
  · intro args H K hk
    simp only [S_spec_l01LogWide] at *
    unfold F_spec_l01LogWide at *
    split at hk
    · obtain ⟨pr0, k⟩ := hk
      exact ⟨_, _, k⟩
    · exact hk.elim
  · intro hq; cases hq
  · have mm := @spec_l01LogWide_main
    revert mm
    generalize bodyK Try.prog E_spec_l01LogWide Try.f121 = Q
    intro mm args H K hk
    simp only [S_spec_l01LogWide] at *
    unfold F_spec_l01LogWide at *
    split at hk
    · exact mm _ H K hk
    · exact hk.elim
def p_spec_l01Narrow (x : Nat) : Nat := ((fnarrow x).getD 0)
theorem p_spec_l01Narrow_eq (x : Nat) : p_spec_l01Narrow x = ((fnarrow x).getD 0) := rfl
def T_spec_l01Narrow (x : Nat) (H : AHeap) (K : Nat → AHeap → Prop) : Prop := fnarrow x ≠ none ∧ K (p_spec_l01Narrow x) H
theorem T_spec_l01Narrow_i {x : Nat} {H : AHeap} {K : Nat → AHeap → Prop} (h : fnarrow x ≠ none ∧ K (p_spec_l01Narrow x) H) : T_spec_l01Narrow x H K := h

/-! spec_l01Narrow: function 113 -/
def E_spec_l01Narrow : Env := envOf []
def F_spec_l01Narrow : List Value → AHeap → (Value → AHeap → Prop) → Prop
  | [.float .f64 x], H, K => T_spec_l01Narrow x H fun (r1 : Nat) (H' : AHeap) => K (.float .f32 r1) H'
  | _, _, _ => False
def S_spec_l01Narrow : FSpec := { F := F_spec_l01Narrow, quiet := true, tame := false }
theorem spec_l01Narrow_vc (x : Nat) (H : AHeap) (K : Value → AHeap → Prop) : bodyK Try.prog E_spec_l01Narrow Try.f113 [.float .f64 x] H K =
  (∃ x1 : Nat, fnarrow x = some x1 ∧ K (.float .f32 x1) H) := by kernel_rfl
theorem E_spec_l01Narrow_ok : ∀ g, FnOk Try.prog g (E_spec_l01Narrow g) := FnOk.envOf (by
  intro x hx; cases hx)
set_option maxHeartbeats 1000000 in
theorem spec_l01Narrow_main (x : Nat) (H : AHeap) (K : Value → AHeap → Prop) (h : T_spec_l01Narrow x H fun (r1 : Nat) (H' : AHeap) => K (.float .f32 r1) H') : bodyK Try.prog E_spec_l01Narrow Try.f113 [.float .f64 x] H K := by
  rw [spec_l01Narrow_vc]
  obtain ⟨pr0, hk⟩ := h
  have e : (p_spec_l01Narrow x) = _ := rfl
  have e := e.trans (p_spec_l01Narrow_eq x)
  have g0 := Grow.refl H
  refine ⟨_, opt_get (d := 0) (by assumption), ?_⟩
  rw [e] at hk
  exact hk
theorem spec_l01Narrow_ok : FnOk Try.prog 113 S_spec_l01Narrow := by
  refine FnOk.body mix_ok E_spec_l01Narrow_ok Try.func113 rfl (by kernel_rfl) (by kernel_rfl) ?_ ?_ ?_ ?_ ?_
  · intro args H K K' h hk
    simp only [S_spec_l01Narrow] at *
    unfold F_spec_l01Narrow at *
    split at hk
    · obtain ⟨pr0, k⟩ := hk
      exact ⟨pr0, h _ _ k⟩
    · exact hk.elim
  · intro _ args H K hk
    simp only [S_spec_l01Narrow] at *
    unfold F_spec_l01Narrow at *
    split at hk
    · obtain ⟨pr0, k⟩ := hk
      exact ⟨_, k, fun K' k' => ⟨pr0, k'⟩⟩
    · exact hk.elim
  · intro args H K hk
    simp only [S_spec_l01Narrow] at *
    unfold F_spec_l01Narrow at *
    split at hk
    · obtain ⟨pr0, k⟩ := hk
      exact ⟨_, _, k⟩
    · exact hk.elim
  · intro hq; cases hq
  · have mm := @spec_l01Narrow_main
    revert mm
    generalize bodyK Try.prog E_spec_l01Narrow Try.f113 = Q
    intro mm args H K hk
    simp only [S_spec_l01Narrow] at *
    unfold F_spec_l01Narrow at *
    split at hk
    · exact mm _ H K hk
    · exact hk.elim
def p_spec_l01Log (x : Nat) : Nat := (p_spec_l01Narrow ((p_spec_l01LogWide (fwide x))))
theorem p_spec_l01Log_eq (x : Nat) : p_spec_l01Log x = (p_spec_l01Narrow ((p_spec_l01LogWide (fwide x)))) := rfl
def T_spec_l01Log (x : Nat) (H : AHeap) (K : Nat → AHeap → Prop) : Prop := K (p_spec_l01Log x) H
theorem T_spec_l01Log_i {x : Nat} {H : AHeap} {K : Nat → AHeap → Prop} (h : K (p_spec_l01Log x) H) : T_spec_l01Log x H K := h

/-! spec_l01Log: function 81 -/
def E_spec_l01Log : Env := envOf [(121, S_spec_l01LogWide), (113, S_spec_l01Narrow)]
def F_spec_l01Log : List Value → AHeap → (Value → AHeap → Prop) → Prop
  | [.float .f32 x], H, K => T_spec_l01Log x H fun (r1 : Nat) (H' : AHeap) => K (.float .f32 r1) H'
  | _, _, _ => False
def S_spec_l01Log : FSpec := { F := F_spec_l01Log, quiet := true, tame := false }
theorem spec_l01Log_vc (x : Nat) (H : AHeap) (K : Value → AHeap → Prop) : bodyK Try.prog E_spec_l01Log Try.f81 [.float .f32 x] H K =
  (T_spec_l01LogWide (fwide x) H fun (r1 : Nat) (H1 : AHeap) => T_spec_l01Narrow r1 H1 fun (r2 : Nat) (H2 : AHeap) => K (.float .f32 r2) H2) := by kernel_rfl
theorem E_spec_l01Log_ok : ∀ g, FnOk Try.prog g (E_spec_l01Log g) := FnOk.envOf (by
  intro x hx
  simp only [List.mem_cons, List.not_mem_nil, or_false] at hx
  rcases hx with rfl | rfl
  · exact spec_l01LogWide_ok
  · exact spec_l01Narrow_ok)
set_option maxHeartbeats 1000000 in
theorem spec_l01Log_main (x : Nat) (H : AHeap) (K : Value → AHeap → Prop) (h : T_spec_l01Log x H fun (r1 : Nat) (H' : AHeap) => K (.float .f32 r1) H') : bodyK Try.prog E_spec_l01Log Try.f81 [.float .f32 x] H K := by
  rw [spec_l01Log_vc]
  have hk := h
  unfold T_spec_l01Log at hk
  have e : (p_spec_l01Log x) = _ := rfl
  have e := e.trans (p_spec_l01Log_eq x)
  have g0 := Grow.refl H
  refine T_spec_l01LogWide_i ⟨(by first | assumption | omega | (simp; omega) | (exact wide_nrm _)), ?_⟩
  refine T_spec_l01Narrow_i ⟨(by first | assumption | omega | (simp; omega) | (exact spec_log_nar _)), ?_⟩
  rw [e] at hk
  exact hk
theorem spec_l01Log_ok : FnOk Try.prog 81 S_spec_l01Log := by
  refine FnOk.body mix_ok E_spec_l01Log_ok Try.func81 rfl (by kernel_rfl) (by kernel_rfl) ?_ ?_ ?_ ?_ ?_
  · intro args H K K' h hk
    simp only [S_spec_l01Log] at *
    unfold F_spec_l01Log at *
    split at hk
    · have k := hk
      exact h _ _ k
    · exact hk.elim
  · intro _ args H K hk
    simp only [S_spec_l01Log] at *
    unfold F_spec_l01Log at *
    split at hk
    · have k := hk
      exact ⟨_, k, fun K' k' => k'⟩
    · exact hk.elim
  · intro args H K hk
    simp only [S_spec_l01Log] at *
    unfold F_spec_l01Log at *
    split at hk
    · have k := hk
      exact ⟨_, _, k⟩
    · exact hk.elim
  · intro hq; cases hq
  · have mm := @spec_l01Log_main
    revert mm
    generalize bodyK Try.prog E_spec_l01Log Try.f81 = Q
    intro mm args H K hk
    simp only [S_spec_l01Log] at *
    unfold F_spec_l01Log at *
    split at hk
    · exact mm _ H K hk
    · exact hk.elim
def p_math_sqrt (x : Nat) : Nat := fsqrt .f64 x
def T_math_sqrt (x : Nat) (H : AHeap) (K : Nat → AHeap → Prop) : Prop := K (p_math_sqrt x) H
theorem T_math_sqrt_i {x : Nat} {H : AHeap} {K : Nat → AHeap → Prop} (h : K (p_math_sqrt x) H) : T_math_sqrt x H K := h
def F_math_sqrt : List Value → AHeap → (Value → AHeap → Prop) → Prop
  | [.float .f64 x], H, K => T_math_sqrt x H fun r1 H' => K (.float .f64 r1) H'
  | _, _, _ => False
def S_math_sqrt : FSpec := { F := F_math_sqrt, quiet := true }
theorem math_sqrt_ok : FnOk Try.prog 140 S_math_sqrt := by
  refine FnOk.ext1 (f := p_math_sqrt) (e := Extern.MathSqrt.sqrt) rfl ?_ (fun x H K h => h) Try.func140 (by kernel_rfl) (by kernel_rfl) (by kernel_rfl) (by kernel_rfl) (fun b w => ext_sqrt b w)
  intro args H K h
  simp only [S_math_sqrt] at h
  unfold F_math_sqrt at h
  split at h
  · exact ⟨_, rfl, h⟩
  · exact h.elim

def p_math_Sqrt (x : Nat) : Nat := (p_math_sqrt x)
theorem p_math_Sqrt_eq (x : Nat) : p_math_Sqrt x = (p_math_sqrt x) := rfl
def T_math_Sqrt (x : Nat) (H : AHeap) (K : Nat → AHeap → Prop) : Prop := K (p_math_Sqrt x) H

theorem T_math_Sqrt_i {x : Nat} {H : AHeap} {K : Nat → AHeap → Prop} (h : K (p_math_Sqrt x) H) : T_math_Sqrt x H K := h
/-! math_Sqrt: function 120 -/
def E_math_Sqrt : Env := envOf [(140, S_math_sqrt)]
def F_math_Sqrt : List Value → AHeap → (Value → AHeap → Prop) → Prop
  | [.float .f64 x], H, K => T_math_Sqrt x H fun (r1 : Nat) (H' : AHeap) => K (.float .f64 r1) H'
  | _, _, _ => False
def S_math_Sqrt : FSpec := { F := F_math_Sqrt, quiet := true, tame := false }
theorem math_Sqrt_vc (x : Nat) (H : AHeap) (K : Value → AHeap → Prop) : bodyK Try.prog E_math_Sqrt Try.f120 [.float .f64 x] H K =
  (T_math_sqrt x H fun (r1 : Nat) (H1 : AHeap) => K (.float .f64 r1) H1) := by kernel_rfl
theorem E_math_Sqrt_ok : ∀ g, FnOk Try.prog g (E_math_Sqrt g) := FnOk.envOf (by
  intro x hx
  simp only [List.mem_cons, List.not_mem_nil, or_false] at hx
  subst hx; exact math_sqrt_ok)
set_option maxHeartbeats 1000000 in
theorem math_Sqrt_main (x : Nat) (H : AHeap) (K : Value → AHeap → Prop) (h : T_math_Sqrt x H fun (r1 : Nat) (H' : AHeap) => K (.float .f64 r1) H') : bodyK Try.prog E_math_Sqrt Try.f120 [.float .f64 x] H K := by
  rw [math_Sqrt_vc]
  simp only [T_math_sqrt]
  unfold T_math_Sqrt p_math_Sqrt at h
  repeat' (first | exact h | (exfalso; simp_all; done) | (refine ⟨by decide, ?_⟩) | (refine Br.intro (fun hb => ?_) (fun hb => ?_) <;> (try simp only [hb, cond_true, cond_false, Bool.not_true, Bool.not_false] at h)))
theorem math_Sqrt_ok : FnOk Try.prog 120 S_math_Sqrt := by
  refine FnOk.body mix_ok E_math_Sqrt_ok Try.func120 rfl (by kernel_rfl) (by kernel_rfl) ?_ ?_ ?_ ?_ ?_
  · intro args H K K' h hk
    simp only [S_math_Sqrt] at *
    unfold F_math_Sqrt at *
    split at hk
    · have k := hk
      exact h _ _ k
    · exact hk.elim
  · intro _ args H K hk
    simp only [S_math_Sqrt] at *
    unfold F_math_Sqrt at *
    split at hk
    · have k := hk
      exact ⟨_, k, fun K' k' => k'⟩
    · exact hk.elim
  · intro args H K hk
    simp only [S_math_Sqrt] at *
    unfold F_math_Sqrt at *
    split at hk
    · have k := hk
      exact ⟨_, _, k⟩
    · exact hk.elim
  · intro hq; cases hq
  · have mm := @math_Sqrt_main
    revert mm
    generalize bodyK Try.prog E_math_Sqrt Try.f120 = Q
    intro mm args H K hk
    simp only [S_math_Sqrt] at *
    unfold F_math_Sqrt at *
    split at hk
    · exact mm _ H K hk
    · exact hk.elim
def p_spec_l01Sqrt (x : Nat) : Nat := (p_spec_l01Narrow ((p_math_Sqrt (fwide x))))
theorem p_spec_l01Sqrt_eq (x : Nat) : p_spec_l01Sqrt x = (p_spec_l01Narrow ((p_math_Sqrt (fwide x)))) := rfl
def T_spec_l01Sqrt (x : Nat) (H : AHeap) (K : Nat → AHeap → Prop) : Prop := K (p_spec_l01Sqrt x) H
theorem T_spec_l01Sqrt_i {x : Nat} {H : AHeap} {K : Nat → AHeap → Prop} (h : K (p_spec_l01Sqrt x) H) : T_spec_l01Sqrt x H K := h

/-! spec_l01Sqrt: function 80 -/
def E_spec_l01Sqrt : Env := envOf [(120, S_math_Sqrt), (113, S_spec_l01Narrow)]
def F_spec_l01Sqrt : List Value → AHeap → (Value → AHeap → Prop) → Prop
  | [.float .f32 x], H, K => T_spec_l01Sqrt x H fun (r1 : Nat) (H' : AHeap) => K (.float .f32 r1) H'
  | _, _, _ => False
def S_spec_l01Sqrt : FSpec := { F := F_spec_l01Sqrt, quiet := true, tame := false }
theorem spec_l01Sqrt_vc (x : Nat) (H : AHeap) (K : Value → AHeap → Prop) : bodyK Try.prog E_spec_l01Sqrt Try.f80 [.float .f32 x] H K =
  (T_math_Sqrt (fwide x) H fun (r1 : Nat) (H1 : AHeap) => T_spec_l01Narrow r1 H1 fun (r2 : Nat) (H2 : AHeap) => K (.float .f32 r2) H2) := by kernel_rfl
theorem E_spec_l01Sqrt_ok : ∀ g, FnOk Try.prog g (E_spec_l01Sqrt g) := FnOk.envOf (by
  intro x hx
  simp only [List.mem_cons, List.not_mem_nil, or_false] at hx
  rcases hx with rfl | rfl
  · exact math_Sqrt_ok
  · exact spec_l01Narrow_ok)
set_option maxHeartbeats 1000000 in
theorem spec_l01Sqrt_main (x : Nat) (H : AHeap) (K : Value → AHeap → Prop) (h : T_spec_l01Sqrt x H fun (r1 : Nat) (H' : AHeap) => K (.float .f32 r1) H') : bodyK Try.prog E_spec_l01Sqrt Try.f80 [.float .f32 x] H K := by
  rw [spec_l01Sqrt_vc]
  have hk := h
  unfold T_spec_l01Sqrt at hk
  have e : (p_spec_l01Sqrt x) = _ := rfl
  have e := e.trans (p_spec_l01Sqrt_eq x)
  have g0 := Grow.refl H
  refine T_math_Sqrt_i ?_
  refine T_spec_l01Narrow_i ⟨(by first | assumption | omega | (simp; omega) | (exact sqrt_nar _)), ?_⟩
  rw [e] at hk
  exact hk
theorem spec_l01Sqrt_ok : FnOk Try.prog 80 S_spec_l01Sqrt := by
  refine FnOk.body mix_ok E_spec_l01Sqrt_ok Try.func80 rfl (by kernel_rfl) (by kernel_rfl) ?_ ?_ ?_ ?_ ?_
  · intro args H K K' h hk
    simp only [S_spec_l01Sqrt] at *
    unfold F_spec_l01Sqrt at *
    split at hk
    · have k := hk
      exact h _ _ k
    · exact hk.elim
  · intro _ args H K hk
    simp only [S_spec_l01Sqrt] at *
    unfold F_spec_l01Sqrt at *
    split at hk
    · have k := hk
      exact ⟨_, k, fun K' k' => k'⟩
    · exact hk.elim
  · intro args H K hk
    simp only [S_spec_l01Sqrt] at *
    unfold F_spec_l01Sqrt at *
    split at hk
    · have k := hk
      exact ⟨_, _, k⟩
    · exact hk.elim
  · intro hq; cases hq
  · have mm := @spec_l01Sqrt_main
    revert mm
    generalize bodyK Try.prog E_spec_l01Sqrt Try.f80 = Q
    intro mm args H K hk
    simp only [S_spec_l01Sqrt] at *
    unfold F_spec_l01Sqrt at *
    split at hk
    · exact mm _ H K hk
    · exact hk.elim
def p_spec_l02Number (x : Nat) : Nat × Bool := (bif !(p_spec_l01Finite x) then (0, false) else (x, true))
theorem p_spec_l02Number_eq (x : Nat) : p_spec_l02Number x = (bif !(p_spec_l01Finite x) then (0, false) else (x, true)) := rfl
def T_spec_l02Number (x : Nat) (H : AHeap) (K : Nat → Bool → AHeap → Prop) : Prop := K (p_spec_l02Number x).1 (p_spec_l02Number x).2 H

theorem T_spec_l02Number_i {x : Nat} {H : AHeap} {K : Nat → Bool → AHeap → Prop} (h : K (p_spec_l02Number x).1 (p_spec_l02Number x).2 H) : T_spec_l02Number x H K := h
/-! spec_l02Number: function 60 -/
def E_spec_l02Number : Env := envOf [(57, S_spec_l01Finite)]
def F_spec_l02Number : List Value → AHeap → (Value → AHeap → Prop) → Prop
  | [.float .f32 x], H, K => T_spec_l02Number x H fun (r1 : Nat) (r2 : Bool) (H' : AHeap) => K (.tuple #[.float .f32 r1, .bool r2]) H'
  | _, _, _ => False
def S_spec_l02Number : FSpec := { F := F_spec_l02Number, quiet := true, tame := false }
theorem spec_l02Number_vc (x : Nat) (H : AHeap) (K : Value → AHeap → Prop) : bodyK Try.prog E_spec_l02Number Try.f60 [.float .f32 x] H K =
  (T_spec_l01Finite x H fun (r1 : Bool) (H1 : AHeap) => Br (!r1) (K (.tuple #[.float .f32 0, .bool false]) H1) (K (.tuple #[.float .f32 x, .bool true]) H1)) := by kernel_rfl
theorem E_spec_l02Number_ok : ∀ g, FnOk Try.prog g (E_spec_l02Number g) := FnOk.envOf (by
  intro x hx
  simp only [List.mem_cons, List.not_mem_nil, or_false] at hx
  subst hx; exact spec_l01Finite_ok)
set_option maxHeartbeats 1000000 in
theorem spec_l02Number_main (x : Nat) (H : AHeap) (K : Value → AHeap → Prop) (h : T_spec_l02Number x H fun (r1 : Nat) (r2 : Bool) (H' : AHeap) => K (.tuple #[.float .f32 r1, .bool r2]) H') : bodyK Try.prog E_spec_l02Number Try.f60 [.float .f32 x] H K := by
  rw [spec_l02Number_vc]
  simp only [T_spec_l01Finite]
  unfold T_spec_l02Number p_spec_l02Number at h
  repeat' (first | exact h | (exfalso; simp_all; done) | (refine ⟨by decide, ?_⟩) | (refine Br.intro (fun hb => ?_) (fun hb => ?_) <;> (try simp only [hb, cond_true, cond_false, Bool.not_true, Bool.not_false] at h)))
theorem spec_l02Number_ok : FnOk Try.prog 60 S_spec_l02Number := by
  refine FnOk.body mix_ok E_spec_l02Number_ok Try.func60 rfl (by kernel_rfl) (by kernel_rfl) ?_ ?_ ?_ ?_ ?_
  · intro args H K K' h hk
    simp only [S_spec_l02Number] at *
    unfold F_spec_l02Number at *
    split at hk
    · have k := hk
      exact h _ _ k
    · exact hk.elim
  · intro _ args H K hk
    simp only [S_spec_l02Number] at *
    unfold F_spec_l02Number at *
    split at hk
    · have k := hk
      exact ⟨_, k, fun K' k' => k'⟩
    · exact hk.elim
  · intro args H K hk
    simp only [S_spec_l02Number] at *
    unfold F_spec_l02Number at *
    split at hk
    · have k := hk
      exact ⟨_, _, k⟩
    · exact hk.elim
  · intro hq; cases hq
  · have mm := @spec_l02Number_main
    revert mm
    generalize bodyK Try.prog E_spec_l02Number Try.f60 = Q
    intro mm args H K hk
    simp only [S_spec_l02Number] at *
    unfold F_spec_l02Number at *
    split at hk
    · exact mm _ H K hk
    · exact hk.elim
def p_spec_PlainLimit (noise : Nat) (count : Int) : Nat × Bool := (bif !(p_spec_l02Least noise) then (0, false) else (bif !((p_spec_l00In count (1 : Int) (128 : Int))) then (0, false) else ((p_spec_l02Number (fmul .f32 noise ((p_spec_l01Sqrt (fmul .f32 1073741824 ((p_spec_l01Log (FloatKind.nearest .f32 count)))))))).1, (p_spec_l02Number (fmul .f32 noise ((p_spec_l01Sqrt (fmul .f32 1073741824 ((p_spec_l01Log (FloatKind.nearest .f32 count)))))))).2)))
theorem p_spec_PlainLimit_eq (noise : Nat) (count : Int) : p_spec_PlainLimit noise count = (bif !(p_spec_l02Least noise) then (0, false) else (bif !((p_spec_l00In count (1 : Int) (128 : Int))) then (0, false) else ((p_spec_l02Number (fmul .f32 noise ((p_spec_l01Sqrt (fmul .f32 1073741824 ((p_spec_l01Log (FloatKind.nearest .f32 count)))))))).1, (p_spec_l02Number (fmul .f32 noise ((p_spec_l01Sqrt (fmul .f32 1073741824 ((p_spec_l01Log (FloatKind.nearest .f32 count)))))))).2))) := rfl
def T_spec_PlainLimit (noise : Nat) (count : Int) (H : AHeap) (K : Nat → Bool → AHeap → Prop) : Prop := K ((p_spec_PlainLimit noise count).1) ((p_spec_PlainLimit noise count).2) H
theorem T_spec_PlainLimit_i {noise : Nat} {count : Int} {H : AHeap} {K : Nat → Bool → AHeap → Prop} (h : K ((p_spec_PlainLimit noise count).1) ((p_spec_PlainLimit noise count).2) H) : T_spec_PlainLimit noise count H K := h

/-! spec_PlainLimit: function 31 -/
def E_spec_PlainLimit : Env := envOf [(74, S_spec_l02Least), (70, S_spec_l00In), (81, S_spec_l01Log), (80, S_spec_l01Sqrt), (60, S_spec_l02Number)]
def F_spec_PlainLimit : List Value → AHeap → (Value → AHeap → Prop) → Prop
  | [.float .f32 noise, .int .i64 count], H, K => T_spec_PlainLimit noise count H fun (r1 : Nat) (r2 : Bool) (H' : AHeap) => K (.tuple #[.float .f32 r1, .bool r2]) H'
  | _, _, _ => False
def S_spec_PlainLimit : FSpec := { F := F_spec_PlainLimit, quiet := true, tame := false }
theorem spec_PlainLimit_vc (noise : Nat) (count : Int) (H : AHeap) (K : Value → AHeap → Prop) : bodyK Try.prog E_spec_PlainLimit Try.f31 [.float .f32 noise, .int .i64 count] H K =
  (T_spec_l02Least noise H fun (r1 : Bool) (H1 : AHeap) => Br (!r1) (K (.tuple #[.float .f32 0, .bool false]) H1) (T_spec_l00In count 1 128 H1 fun (r2 : Bool) (H2 : AHeap) => Br (!r2) (K (.tuple #[.float .f32 0, .bool false]) H2) (T_spec_l01Log (FloatKind.nearest .f32 count) H2 fun (r3 : Nat) (H3 : AHeap) => T_spec_l01Sqrt (fmul .f32 1073741824 r3) H3 fun (r4 : Nat) (H4 : AHeap) => T_spec_l02Number (fmul .f32 noise r4) H4 fun (r5 : Nat) (r6 : Bool) (H5 : AHeap) => K (.tuple #[.float .f32 r5, .bool r6]) H5))) := by kernel_rfl
theorem E_spec_PlainLimit_ok : ∀ g, FnOk Try.prog g (E_spec_PlainLimit g) := FnOk.envOf (by
  intro x hx
  simp only [List.mem_cons, List.not_mem_nil, or_false] at hx
  rcases hx with rfl | rfl | rfl | rfl | rfl
  · exact spec_l02Least_ok
  · exact spec_l00In_ok
  · exact spec_l01Log_ok
  · exact spec_l01Sqrt_ok
  · exact spec_l02Number_ok)
set_option maxHeartbeats 1000000 in
theorem spec_PlainLimit_main (noise : Nat) (count : Int) (H : AHeap) (K : Value → AHeap → Prop) (h : T_spec_PlainLimit noise count H fun (r1 : Nat) (r2 : Bool) (H' : AHeap) => K (.tuple #[.float .f32 r1, .bool r2]) H') : bodyK Try.prog E_spec_PlainLimit Try.f31 [.float .f32 noise, .int .i64 count] H K := by
  rw [spec_PlainLimit_vc]
  have hk := h
  unfold T_spec_PlainLimit at hk
  have e : (p_spec_PlainLimit noise count) = _ := rfl
  have e := e.trans (p_spec_PlainLimit_eq noise count)
  have g0 := Grow.refl H
  refine T_spec_l02Least_i ?_
  refine Br.intro (fun c_1 => ?_) (fun c_1 => ?_)
  · have e := e.trans (cond_t c_1)
    have c_1n := nf_of_t c_1
    rw [e] at hk
    exact hk
  · have e := e.trans (cond_f c_1)
    have c_1n := nt_of_f c_1
    refine T_spec_l00In_i ?_
    refine Br.intro (fun c_2 => ?_) (fun c_2 => ?_)
    · have e := e.trans (cond_t c_2)
      have c_2n := nf_of_t c_2
      rw [e] at hk
      exact hk
    · have e := e.trans (cond_f c_2)
      have c_2n := nt_of_f c_2
      have c_2n' := spec_l00In_t c_2n
      refine T_spec_l01Log_i ?_
      refine T_spec_l01Sqrt_i ?_
      refine T_spec_l02Number_i ?_
      rw [e] at hk
      exact hk
theorem spec_PlainLimit_ok : FnOk Try.prog 31 S_spec_PlainLimit := by
  refine FnOk.body mix_ok E_spec_PlainLimit_ok Try.func31 rfl (by kernel_rfl) (by kernel_rfl) ?_ ?_ ?_ ?_ ?_
  · intro args H K K' h hk
    simp only [S_spec_PlainLimit] at *
    unfold F_spec_PlainLimit at *
    split at hk
    · have k := hk
      exact h _ _ k
    · exact hk.elim
  · intro _ args H K hk
    simp only [S_spec_PlainLimit] at *
    unfold F_spec_PlainLimit at *
    split at hk
    · have k := hk
      exact ⟨_, k, fun K' k' => k'⟩
    · exact hk.elim
  · intro args H K hk
    simp only [S_spec_PlainLimit] at *
    unfold F_spec_PlainLimit at *
    split at hk
    · have k := hk
      exact ⟨_, _, k⟩
    · exact hk.elim
  · intro hq; cases hq
  · have mm := @spec_PlainLimit_main
    revert mm
    generalize bodyK Try.prog E_spec_PlainLimit Try.f31 = Q
    intro mm args H K hk
    simp only [S_spec_PlainLimit] at *
    unfold F_spec_PlainLimit at *
    split at hk
    · exact mm _ _ H K hk
    · exact hk.elim
def p_impl_IsFinite (x : Nat) : Bool := feq .f32 (fsub .f32 x x) 0
theorem p_impl_IsFinite_eq (x : Nat) : p_impl_IsFinite x = feq .f32 (fsub .f32 x x) 0 := rfl
def T_impl_IsFinite (x : Nat) (H : AHeap) (K : Bool → AHeap → Prop) : Prop := K (p_impl_IsFinite x) H

theorem T_impl_IsFinite_i {x : Nat} {H : AHeap} {K : Bool → AHeap → Prop} (h : K (p_impl_IsFinite x) H) : T_impl_IsFinite x H K := h
/-! impl_IsFinite: function 62 -/
def E_impl_IsFinite : Env := envOf []
def F_impl_IsFinite : List Value → AHeap → (Value → AHeap → Prop) → Prop
  | [.float .f32 x], H, K => T_impl_IsFinite x H fun (r1 : Bool) (H' : AHeap) => K (.bool r1) H'
  | _, _, _ => False
def S_impl_IsFinite : FSpec := { F := F_impl_IsFinite, quiet := true, tame := false }
theorem impl_IsFinite_vc (x : Nat) (H : AHeap) (K : Value → AHeap → Prop) : bodyK Try.prog E_impl_IsFinite Try.f62 [.float .f32 x] H K =
  (K (.bool (feq .f32 (fsub .f32 x x) 0)) H) := by kernel_rfl
theorem E_impl_IsFinite_ok : ∀ g, FnOk Try.prog g (E_impl_IsFinite g) := FnOk.envOf (by
  intro x hx; cases hx)
set_option maxHeartbeats 1000000 in
theorem impl_IsFinite_main (x : Nat) (H : AHeap) (K : Value → AHeap → Prop) (h : T_impl_IsFinite x H fun (r1 : Bool) (H' : AHeap) => K (.bool r1) H') : bodyK Try.prog E_impl_IsFinite Try.f62 [.float .f32 x] H K := by
  rw [impl_IsFinite_vc]
  unfold T_impl_IsFinite p_impl_IsFinite at h
  repeat' (first | exact h | (exfalso; simp_all; done) | (refine ⟨by decide, ?_⟩) | (refine Br.intro (fun hb => ?_) (fun hb => ?_) <;> (try simp only [hb, cond_true, cond_false, Bool.not_true, Bool.not_false] at h)))
theorem impl_IsFinite_ok : FnOk Try.prog 62 S_impl_IsFinite := by
  refine FnOk.body mix_ok E_impl_IsFinite_ok Try.func62 rfl (by kernel_rfl) (by kernel_rfl) ?_ ?_ ?_ ?_ ?_
  · intro args H K K' h hk
    simp only [S_impl_IsFinite] at *
    unfold F_impl_IsFinite at *
    split at hk
    · have k := hk
      exact h _ _ k
    · exact hk.elim
  · intro _ args H K hk
    simp only [S_impl_IsFinite] at *
    unfold F_impl_IsFinite at *
    split at hk
    · have k := hk
      exact ⟨_, k, fun K' k' => k'⟩
    · exact hk.elim
  · intro args H K hk
    simp only [S_impl_IsFinite] at *
    unfold F_impl_IsFinite at *
    split at hk
    · have k := hk
      exact ⟨_, _, k⟩
    · exact hk.elim
  · intro hq; cases hq
  · have mm := @impl_IsFinite_main
    revert mm
    generalize bodyK Try.prog E_impl_IsFinite Try.f62 = Q
    intro mm args H K hk
    simp only [S_impl_IsFinite] at *
    unfold F_impl_IsFinite at *
    split at hk
    · exact mm _ H K hk
    · exact hk.elim
def p_impl_isLeast (x : Nat) : Bool := (bif (p_impl_IsFinite x) then fle .f32 0 x else false)
theorem p_impl_isLeast_eq (x : Nat) : p_impl_isLeast x = (bif (p_impl_IsFinite x) then fle .f32 0 x else false) := rfl
def T_impl_isLeast (x : Nat) (H : AHeap) (K : Bool → AHeap → Prop) : Prop := K (p_impl_isLeast x) H

theorem T_impl_isLeast_i {x : Nat} {H : AHeap} {K : Bool → AHeap → Prop} (h : K (p_impl_isLeast x) H) : T_impl_isLeast x H K := h
/-! impl_isLeast: function 77 -/
def E_impl_isLeast : Env := envOf [(62, S_impl_IsFinite)]
def F_impl_isLeast : List Value → AHeap → (Value → AHeap → Prop) → Prop
  | [.float .f32 x], H, K => T_impl_isLeast x H fun (r1 : Bool) (H' : AHeap) => K (.bool r1) H'
  | _, _, _ => False
def S_impl_isLeast : FSpec := { F := F_impl_isLeast, quiet := true, tame := false }
theorem impl_isLeast_vc (x : Nat) (H : AHeap) (K : Value → AHeap → Prop) : bodyK Try.prog E_impl_isLeast Try.f77 [.float .f32 x] H K =
  (T_impl_IsFinite x H fun (r1 : Bool) (H1 : AHeap) => Br r1 (K (.bool (fle .f32 0 x)) H1) (K (.bool false) H1)) := by kernel_rfl
theorem E_impl_isLeast_ok : ∀ g, FnOk Try.prog g (E_impl_isLeast g) := FnOk.envOf (by
  intro x hx
  simp only [List.mem_cons, List.not_mem_nil, or_false] at hx
  subst hx; exact impl_IsFinite_ok)
set_option maxHeartbeats 1000000 in
theorem impl_isLeast_main (x : Nat) (H : AHeap) (K : Value → AHeap → Prop) (h : T_impl_isLeast x H fun (r1 : Bool) (H' : AHeap) => K (.bool r1) H') : bodyK Try.prog E_impl_isLeast Try.f77 [.float .f32 x] H K := by
  rw [impl_isLeast_vc]
  simp only [T_impl_IsFinite]
  unfold T_impl_isLeast p_impl_isLeast at h
  repeat' (first | exact h | (exfalso; simp_all; done) | (refine ⟨by decide, ?_⟩) | (refine Br.intro (fun hb => ?_) (fun hb => ?_) <;> (try simp only [hb, cond_true, cond_false, Bool.not_true, Bool.not_false] at h)))
theorem impl_isLeast_ok : FnOk Try.prog 77 S_impl_isLeast := by
  refine FnOk.body mix_ok E_impl_isLeast_ok Try.func77 rfl (by kernel_rfl) (by kernel_rfl) ?_ ?_ ?_ ?_ ?_
  · intro args H K K' h hk
    simp only [S_impl_isLeast] at *
    unfold F_impl_isLeast at *
    split at hk
    · have k := hk
      exact h _ _ k
    · exact hk.elim
  · intro _ args H K hk
    simp only [S_impl_isLeast] at *
    unfold F_impl_isLeast at *
    split at hk
    · have k := hk
      exact ⟨_, k, fun K' k' => k'⟩
    · exact hk.elim
  · intro args H K hk
    simp only [S_impl_isLeast] at *
    unfold F_impl_isLeast at *
    split at hk
    · have k := hk
      exact ⟨_, _, k⟩
    · exact hk.elim
  · intro hq; cases hq
  · have mm := @impl_isLeast_main
    revert mm
    generalize bodyK Try.prog E_impl_isLeast Try.f77 = Q
    intro mm args H K hk
    simp only [S_impl_isLeast] at *
    unfold F_impl_isLeast at *
    split at hk
    · exact mm _ H K hk
    · exact hk.elim
def p_impl_within (n : Int) (low : Int) (high : Int) : Bool := (bif decide ((low : Int) ≤ n) then decide ((n : Int) ≤ high) else false)
theorem p_impl_within_eq (n : Int) (low : Int) (high : Int) : p_impl_within n low high = (bif decide ((low : Int) ≤ n) then decide ((n : Int) ≤ high) else false) := rfl
def T_impl_within (n : Int) (low : Int) (high : Int) (H : AHeap) (K : Bool → AHeap → Prop) : Prop := K (p_impl_within n low high) H
theorem impl_within_t {n a b : Int} (h : p_impl_within n a b = true) : a ≤ n ∧ n ≤ b := by
  unfold p_impl_within at h
  by_cases h1 : a ≤ n
  · rw [decide_eq_true h1, cond_true] at h; exact ⟨h1, of_decide_eq_true h⟩
  · rw [decide_eq_false h1] at h; cases h
theorem T_impl_within_i {n : Int} {low : Int} {high : Int} {H : AHeap} {K : Bool → AHeap → Prop} (h : K (p_impl_within n low high) H) : T_impl_within n low high H K := h
/-! impl_within: function 72 -/
def E_impl_within : Env := envOf []
def F_impl_within : List Value → AHeap → (Value → AHeap → Prop) → Prop
  | [.int .i64 n, .int .i64 low, .int .i64 high], H, K => T_impl_within n low high H fun (r1 : Bool) (H' : AHeap) => K (.bool r1) H'
  | _, _, _ => False
def S_impl_within : FSpec := { F := F_impl_within, quiet := true, tame := false }
theorem impl_within_vc (n : Int) (low : Int) (high : Int) (H : AHeap) (K : Value → AHeap → Prop) : bodyK Try.prog E_impl_within Try.f72 [.int .i64 n, .int .i64 low, .int .i64 high] H K =
  (Br (decide ((low : Int) ≤ n)) (K (.bool (decide ((n : Int) ≤ high))) H) (K (.bool false) H)) := by kernel_rfl
theorem E_impl_within_ok : ∀ g, FnOk Try.prog g (E_impl_within g) := FnOk.envOf (by
  intro x hx; cases hx)
set_option maxHeartbeats 1000000 in
theorem impl_within_main (n : Int) (low : Int) (high : Int) (H : AHeap) (K : Value → AHeap → Prop) (h : T_impl_within n low high H fun (r1 : Bool) (H' : AHeap) => K (.bool r1) H') : bodyK Try.prog E_impl_within Try.f72 [.int .i64 n, .int .i64 low, .int .i64 high] H K := by
  rw [impl_within_vc]
  unfold T_impl_within p_impl_within at h
  repeat' (first | exact h | (exfalso; simp_all; done) | (refine ⟨by decide, ?_⟩) | (refine Br.intro (fun hb => ?_) (fun hb => ?_) <;> (try simp only [hb, cond_true, cond_false, Bool.not_true, Bool.not_false] at h)))
theorem impl_within_ok : FnOk Try.prog 72 S_impl_within := by
  refine FnOk.body mix_ok E_impl_within_ok Try.func72 rfl (by kernel_rfl) (by kernel_rfl) ?_ ?_ ?_ ?_ ?_
  · intro args H K K' h hk
    simp only [S_impl_within] at *
    unfold F_impl_within at *
    split at hk
    · have k := hk
      exact h _ _ k
    · exact hk.elim
  · intro _ args H K hk
    simp only [S_impl_within] at *
    unfold F_impl_within at *
    split at hk
    · have k := hk
      exact ⟨_, k, fun K' k' => k'⟩
    · exact hk.elim
  · intro args H K hk
    simp only [S_impl_within] at *
    unfold F_impl_within at *
    split at hk
    · have k := hk
      exact ⟨_, _, k⟩
    · exact hk.elim
  · intro hq; cases hq
  · have mm := @impl_within_main
    revert mm
    generalize bodyK Try.prog E_impl_within Try.f72 = Q
    intro mm args H K hk
    simp only [S_impl_within] at *
    unfold F_impl_within at *
    split at hk
    · exact mm _ _ _ H K hk
    · exact hk.elim
def p_impl_naturalLog_l3 (x : Nat) (x_0 : Nat) (ve : Nat) (x_0' : Nat) (ve_3 : Nat) (k3_4 : Nat → Nat → Nat) : Nat → Nat → Nat → Nat
  | 0, _, _ => 0
  | μ3 + 1, q, k => (bif fle .f64 4607182418800017408 k then (p_impl_naturalLog_l3 x x_0 ve x_0' ve_3 k3_4 μ3 (fadd .f64 (fdiv .f64 4607182418800017408 k) (fmul .f64 (fmul .f64 (fdiv .f64 (fsub .f64 x_0' 4607182418800017408) (fadd .f64 x_0' 4607182418800017408)) (fdiv .f64 (fsub .f64 x_0' 4607182418800017408) (fadd .f64 x_0' 4607182418800017408))) q)) (fsub .f64 k 4611686018427387904)) else (k3_4 q k))
theorem p_impl_naturalLog_l3_s (x : Nat) (x_0 : Nat) (ve : Nat) (x_0' : Nat) (ve_3 : Nat) (k3_4 : Nat → Nat → Nat) (μ3 : Nat) (q : Nat) (k : Nat) : p_impl_naturalLog_l3 x x_0 ve x_0' ve_3 k3_4 (μ3 + 1) q k = (bif fle .f64 4607182418800017408 k then (p_impl_naturalLog_l3 x x_0 ve x_0' ve_3 k3_4 μ3 (fadd .f64 (fdiv .f64 4607182418800017408 k) (fmul .f64 (fmul .f64 (fdiv .f64 (fsub .f64 x_0' 4607182418800017408) (fadd .f64 x_0' 4607182418800017408)) (fdiv .f64 (fsub .f64 x_0' 4607182418800017408) (fadd .f64 x_0' 4607182418800017408))) q)) (fsub .f64 k 4611686018427387904)) else (k3_4 q k)) := rfl
def p_impl_naturalLog_l2 (x : Nat) (x_0 : Nat) (ve : Nat) (k2_2 : Nat → Nat → Nat) : Nat → Nat → Nat → Nat
  | 0, _, _ => 0
  | μ2 + 1, x_0', ve_3 => (bif flt .f64 x_0' 4604930618986332160 then (p_impl_naturalLog_l2 x x_0 ve k2_2 μ2 (fmul .f64 x_0' 4611686018427387904) (fsub .f64 ve_3 4607182418800017408)) else (k2_2 x_0' ve_3))
theorem p_impl_naturalLog_l2_s (x : Nat) (x_0 : Nat) (ve : Nat) (k2_2 : Nat → Nat → Nat) (μ2 : Nat) (x_0' : Nat) (ve_3 : Nat) : p_impl_naturalLog_l2 x x_0 ve k2_2 (μ2 + 1) x_0' ve_3 = (bif flt .f64 x_0' 4604930618986332160 then (p_impl_naturalLog_l2 x x_0 ve k2_2 μ2 (fmul .f64 x_0' 4611686018427387904) (fsub .f64 ve_3 4607182418800017408)) else (k2_2 x_0' ve_3)) := rfl
def p_impl_naturalLog_l1 (x : Nat) : Nat → Nat → Nat → Nat
  | 0, _, _ => 0
  | μ + 1, x_0, ve => (bif fle .f64 4609434218613702656 x_0 then (p_impl_naturalLog_l1 x μ (fdiv .f64 x_0 4611686018427387904) (fadd .f64 ve 4607182418800017408)) else (p_impl_naturalLog_l2 x x_0 ve (fun (x_0' : Nat) (ve_3 : Nat) => (p_impl_naturalLog_l3 x x_0 ve x_0' ve_3 (fun (q : Nat) (k : Nat) => fadd .f64 (fmul .f64 4611686018427387904 (fmul .f64 (fdiv .f64 (fsub .f64 x_0' 4607182418800017408) (fadd .f64 x_0' 4607182418800017408)) q)) (fmul .f64 ve_3 4604418534313441775)) (Int.toNat (cnt 4627730092099895296) + 1) 0 4627730092099895296)) (Int.toNat ((4604930618986332160 : Int) - x_0) + 1) x_0 ve))
theorem p_impl_naturalLog_l1_s (x : Nat) (μ : Nat) (x_0 : Nat) (ve : Nat) : p_impl_naturalLog_l1 x (μ + 1) x_0 ve = (bif fle .f64 4609434218613702656 x_0 then (p_impl_naturalLog_l1 x μ (fdiv .f64 x_0 4611686018427387904) (fadd .f64 ve 4607182418800017408)) else (p_impl_naturalLog_l2 x x_0 ve (fun (x_0' : Nat) (ve_3 : Nat) => (p_impl_naturalLog_l3 x x_0 ve x_0' ve_3 (fun (q : Nat) (k : Nat) => fadd .f64 (fmul .f64 4611686018427387904 (fmul .f64 (fdiv .f64 (fsub .f64 x_0' 4607182418800017408) (fadd .f64 x_0' 4607182418800017408)) q)) (fmul .f64 ve_3 4604418534313441775)) (Int.toNat (cnt 4627730092099895296) + 1) 0 4627730092099895296)) (Int.toNat ((4604930618986332160 : Int) - x_0) + 1) x_0 ve)) := rfl
def p_impl_naturalLog (x : Nat) : Nat := (p_impl_naturalLog_l1 x (Int.toNat ((x : Int)) + 1) x 0)
theorem p_impl_naturalLog_eq (x : Nat) : p_impl_naturalLog x = (p_impl_naturalLog_l1 x (Int.toNat ((x : Int)) + 1) x 0) := rfl
def T_impl_naturalLog (x : Nat) (H : AHeap) (K : Nat → AHeap → Prop) : Prop := 4503599627370496 ≤ x ∧ x < 9218868437227405312 ∧ K (p_impl_naturalLog x) H
theorem T_impl_naturalLog_i {x : Nat} {H : AHeap} {K : Nat → AHeap → Prop} (h : 4503599627370496 ≤ x ∧ x < 9218868437227405312 ∧ K (p_impl_naturalLog x) H) : T_impl_naturalLog x H K := h
theorem impl_l3_nar {x x_0 ve x' ve_3 : Nat} {K : Nat → Nat → Nat} (h0 : 4604930618986332160 ≤ x') (h1 : x' < 4609434218613702656) (hK : ∀ q k, Bd .f64 1160 q → fnarrow (K q k) ≠ none) :
    ∀ (μ : Nat) (n : Int) (A q : Nat), Bd .f64 A q → 1074 ≤ A → (A : Int) ≤ 1155 - 3 * n → n ≤ 25 → -1 ≤ n → fnarrow (p_impl_naturalLog_l3 x x_0 ve x' ve_3 K μ q (FloatKind.nearest .f64 n)) ≠ none := by
  intro μ
  induction μ with
  | zero => intro n A q _ _ _ _ _; exact (by decide +kernel : fnarrow 0 ≠ none)
  | succ μ ih =>
    intro n A q hq hA hA2 hn hn1
    rw [p_impl_naturalLog_l3_s]
    have hc := cnt_at (n := n) (by omega) (by omega)
    rw [hc.2.1]
    by_cases h : (1 : Int) ≤ n
    · rw [decide_eq_true h, cond_true, hc.2.2.2]
      exact ih (n - 2) (A + 6) _ (log_step' (log_square h0 h1) h (by omega) hq hA (by omega)) (by omega) (by omega) (by omega) (by omega)
    · rw [decide_eq_false h, cond_false]
      exact hK _ _ (hq.mono (by omega))
theorem impl_l2_nar {x x_0 ve : Nat} {K : Nat → Nat → Nat} (hK : ∀ x' (e : Int), 4604930618986332160 ≤ x' → x' < 4609434218613702656 → e.natAbs ≤ 4000 → fnarrow (K x' (FloatKind.nearest .f64 e)) ≠ none) :
    ∀ (μ : Nat) (x' : Nat) (e : Int), 4503599627370496 ≤ x' → x' < 4609434218613702656 → (4609434218613702656 : Int) - x' ≤ (e + 3000) * 4503599627370496 → e ≤ 2100 →
      fnarrow (p_impl_naturalLog_l2 x x_0 ve K μ x' (FloatKind.nearest .f64 e)) ≠ none := by
  intro μ
  induction μ with
  | zero => intro x' e _ _ _ _; exact (by decide +kernel : fnarrow 0 ≠ none)
  | succ μ ih =>
    intro x' e h0 h1 h2 h3
    rw [p_impl_naturalLog_l2_s]
    cases hc : flt .f64 x' 4604930618986332160 with
    | true =>
      have := twice_step h0 (by omega) hc
      rw [cond_true, near_down (by omega), this.1]
      exact ih _ _ (by omega) (by omega) (by omega) (by omega)
    | false =>
      rw [cond_false]
      rw [pos_lt h0 (by omega) (by decide) (by decide)] at hc
      have := of_decide_eq_false hc
      exact hK _ _ (by omega) h1 (by omega)
theorem impl_l1_nar {x : Nat} :
    ∀ (μ : Nat) (x_0 : Nat) (e : Int), 4503599627370496 ≤ x_0 → x_0 < 9218868437227405312 → e * 4503599627370496 + x_0 ≤ 9218868437227405312 → 0 ≤ e →
      fnarrow (p_impl_naturalLog_l1 x μ x_0 (FloatKind.nearest .f64 e)) ≠ none := by
  intro μ
  induction μ with
  | zero => intro x_0 e _ _ _ _; exact (by decide +kernel : fnarrow 0 ≠ none)
  | succ μ ih =>
    intro x_0 e h0 h1 h2 h3
    rw [p_impl_naturalLog_l1_s]
    cases hc : fle .f64 4609434218613702656 x_0 with
    | true =>
      have := half_step h0 h1 hc
      rw [cond_true, near_up (by omega), this.1]
      exact ih _ _ (by omega) (by omega) (by omega) (by omega)
    | false =>
      rw [cond_false]
      rw [pos_le (by decide) (by decide) h0 h1] at hc
      have := of_decide_eq_false hc
      refine impl_l2_nar ?_ _ _ _ h0 (by omega) (by omega) (by omega)
      intro x' e' a0 a1 a2
      have e25 : (4627730092099895296 : Nat) = FloatKind.nearest .f64 25 := by decide +kernel
      rw [e25]
      refine impl_l3_nar a0 a1 ?_ _ 25 1074 0 (bd_zero _) (by decide) (by decide) (by decide) (by decide)
      intro q k hq
      exact log_sum' (log_quot a0 a1) hq (by decide) (by decide) a2
theorem impl_naturalLog_nar {x : Nat} (h : 4503599627370496 ≤ x ∧ x < 9218868437227405312) : fnarrow (p_impl_naturalLog x) ≠ none := by
  rw [p_impl_naturalLog_eq]
  have g := impl_l1_nar (x := x) (Int.toNat ((x : Int)) + 1) x 0 h.1 h.2 (by omega) (by decide)
  rw [show FloatKind.nearest .f64 0 = 0 by decide +kernel] at g
  exact g
/-! impl_naturalLog: function 124 -/
def E_impl_naturalLog : Env := envOf []
def F_impl_naturalLog : List Value → AHeap → (Value → AHeap → Prop) → Prop
  | [.float .f64 x], H, K => T_impl_naturalLog x H fun (r1 : Nat) (H' : AHeap) => K (.float .f64 r1) H'
  | _, _, _ => False
def S_impl_naturalLog : FSpec := { F := F_impl_naturalLog, quiet := true, tame := false }
theorem impl_naturalLog_vc (x : Nat) (H : AHeap) (K : Value → AHeap → Prop) : bodyK Try.prog E_impl_naturalLog Try.f124 [.float .f64 x] H K =
  (loopK (exK Try.prog E_impl_naturalLog (cl (cl (cl (cr (cr (bodyC Try.f124))))))) [.float .f64 x, undef, .float .f64 0, .float .f64 0, undef, undef, undef, undef, undef, undef, undef, undef, undef, undef, undef, undef, undef, undef, undef, undef, undef, undef, undef, undef, undef, undef, undef, undef, undef, undef, undef, undef, undef, undef, undef, undef, undef, undef, undef, undef, undef, undef, undef, undef, undef] H (blockQ 0 (seqQ (exK Try.prog E_impl_naturalLog (cr (cr (cr (bodyC Try.f124))))) (retK Try.prog Try.f124 K)))) := by kernel_rfl
theorem impl_naturalLog_r1  (x_0 : Nat) (ve : Nat) (g8 g9 g10 g11 g12 g13 : Value) (H : AHeap) (R : Post) : exK Try.prog E_impl_naturalLog (cl (cl (cl (cr (cr (bodyC Try.f124)))))) [.float .f64 x_0, undef, .float .f64 0, .float .f64 ve, undef, undef, undef, undef, g8, g9, g10, g11, g12, g13, undef, undef, undef, undef, undef, undef, undef, undef, undef, undef, undef, undef, undef, undef, undef, undef, undef, undef, undef, undef, undef, undef, undef, undef, undef, undef, undef, undef, undef, undef, undef] H R =
  (Br (fle .f64 4609434218613702656 x_0) (R .normal [.float .f64 (fdiv .f64 x_0 4611686018427387904), undef, .float .f64 0, .float .f64 (fadd .f64 ve 4607182418800017408), undef, undef, undef, undef, .float .f64 x_0, .bool (fle .f64 4609434218613702656 x_0), .float .f64 x_0, .float .f64 (fdiv .f64 x_0 4611686018427387904), .float .f64 ve, .float .f64 (fadd .f64 ve 4607182418800017408), undef, undef, undef, undef, undef, undef, undef, undef, undef, undef, undef, undef, undef, undef, undef, undef, undef, undef, undef, undef, undef, undef, undef, undef, undef, undef, undef, undef, undef, undef, undef] H) (R (.exit 0) [.float .f64 x_0, undef, .float .f64 0, .float .f64 ve, undef, undef, undef, undef, .float .f64 x_0, .bool (fle .f64 4609434218613702656 x_0), g10, g11, g12, g13, undef, undef, undef, undef, undef, undef, undef, undef, undef, undef, undef, undef, undef, undef, undef, undef, undef, undef, undef, undef, undef, undef, undef, undef, undef, undef, undef, undef, undef, undef, undef] H)) := by kernel_rfl
def impl_naturalLog_I1  (Inv : Nat → Nat → Nat → AHeap → Prop) : Nat → List Value → AHeap → Prop := fun μ tm H => ∃ (x_0 : Nat), ∃ (ve : Nat), ∃ g8 g9 g10 g11 g12 g13, tm = [.float .f64 x_0, undef, .float .f64 0, .float .f64 ve, undef, undef, undef, undef, g8, g9, g10, g11, g12, g13, undef, undef, undef, undef, undef, undef, undef, undef, undef, undef, undef, undef, undef, undef, undef, undef, undef, undef, undef, undef, undef, undef, undef, undef, undef, undef, undef, undef, undef, undef, undef] ∧ Inv μ x_0 ve H
theorem impl_naturalLog_L1  {Q : Post} (Inv : Nat → Nat → Nat → AHeap → Prop) (ν : Nat) (x_0 : Nat) (ve : Nat) (g8 g9 g10 g11 g12 g13 : Value) (H : AHeap) (h0 : Inv ν x_0 ve H)
    (hs : ∀ (μ : Nat) (x_0 : Nat) (ve : Nat) (g8 g9 g10 g11 g12 g13 : Value) (H : AHeap), Inv μ x_0 ve H → exK Try.prog E_impl_naturalLog (cl (cl (cl (cr (cr (bodyC Try.f124)))))) [.float .f64 x_0, undef, .float .f64 0, .float .f64 ve, undef, undef, undef, undef, g8, g9, g10, g11, g12, g13, undef, undef, undef, undef, undef, undef, undef, undef, undef, undef, undef, undef, undef, undef, undef, undef, undef, undef, undef, undef, undef, undef, undef, undef, undef, undef, undef, undef, undef, undef, undef] H (loopQ (impl_naturalLog_I1  Inv) μ Q)) : loopK (exK Try.prog E_impl_naturalLog (cl (cl (cl (cr (cr (bodyC Try.f124))))))) [.float .f64 x_0, undef, .float .f64 0, .float .f64 ve, undef, undef, undef, undef, g8, g9, g10, g11, g12, g13, undef, undef, undef, undef, undef, undef, undef, undef, undef, undef, undef, undef, undef, undef, undef, undef, undef, undef, undef, undef, undef, undef, undef, undef, undef, undef, undef, undef, undef, undef, undef] H Q :=
  ⟨impl_naturalLog_I1  Inv, ν, ⟨x_0, ve, g8, g9, g10, g11, g12, g13, rfl, h0⟩, fun μ tm H h => by obtain ⟨x_0, ve, g8, g9, g10, g11, g12, g13, rfl, hI⟩ := h; exact hs μ x_0 ve g8 g9 g10 g11 g12 g13 H hI⟩
theorem impl_naturalLog_n1  {Q : Post} {Inv : Nat → Nat → Nat → AHeap → Prop} {μ : Nat} (μ' : Nat) {x_0 : Nat} {ve : Nat} {g8 g9 g10 g11 g12 g13 : Value} {H : AHeap} (hm : μ' < μ) (hI : Inv μ' x_0 ve H) : loopQ (impl_naturalLog_I1  Inv) μ Q .normal [.float .f64 x_0, undef, .float .f64 0, .float .f64 ve, undef, undef, undef, undef, g8, g9, g10, g11, g12, g13, undef, undef, undef, undef, undef, undef, undef, undef, undef, undef, undef, undef, undef, undef, undef, undef, undef, undef, undef, undef, undef, undef, undef, undef, undef, undef, undef, undef, undef, undef, undef] H := ⟨μ', hm, x_0, ve, g8, g9, g10, g11, g12, g13, rfl, hI⟩
theorem impl_naturalLog_x1_0  (x_0 : Nat) (ve : Nat) (g8 g9 g10 g11 g12 g13 : Value) (H : AHeap) (K : Value → AHeap → Prop)  {I : Nat → List Value → AHeap → Prop} {μ : Nat} : loopQ I μ (blockQ 0 (seqQ (exK Try.prog E_impl_naturalLog (cr (cr (cr (bodyC Try.f124))))) (retK Try.prog Try.f124 K))) (.exit 0) [.float .f64 x_0, undef, .float .f64 0, .float .f64 ve, undef, undef, undef, undef, g8, g9, g10, g11, g12, g13, undef, undef, undef, undef, undef, undef, undef, undef, undef, undef, undef, undef, undef, undef, undef, undef, undef, undef, undef, undef, undef, undef, undef, undef, undef, undef, undef, undef, undef, undef, undef] H =
  (loopK (exK Try.prog E_impl_naturalLog (cl (cl (cl (cr (cr (cr (bodyC Try.f124)))))))) [.float .f64 x_0, undef, .float .f64 0, .float .f64 ve, undef, undef, undef, undef, g8, g9, g10, g11, g12, g13, undef, undef, undef, undef, undef, undef, undef, undef, undef, undef, undef, undef, undef, undef, undef, undef, undef, undef, undef, undef, undef, undef, undef, undef, undef, undef, undef, undef, undef, undef, undef] H (blockQ 2 (seqQ (exK Try.prog E_impl_naturalLog (cr (cr (cr (cr (bodyC Try.f124)))))) (retK Try.prog Try.f124 K)))) := by kernel_rfl
theorem impl_naturalLog_r2 (g10 : Value) (g11 : Value) (g12 : Value) (g13 : Value) (g8 : Value) (g9 : Value) (x_0' : Nat) (ve_3 : Nat) (g14 g15 g16 g17 g18 g19 : Value) (H : AHeap) (R : Post) : exK Try.prog E_impl_naturalLog (cl (cl (cl (cr (cr (cr (bodyC Try.f124))))))) [.float .f64 x_0', undef, .float .f64 0, .float .f64 ve_3, undef, undef, undef, undef, g8, g9, g10, g11, g12, g13, g14, g15, g16, g17, g18, g19, undef, undef, undef, undef, undef, undef, undef, undef, undef, undef, undef, undef, undef, undef, undef, undef, undef, undef, undef, undef, undef, undef, undef, undef, undef] H R =
  (Br (flt .f64 x_0' 4604930618986332160) (R .normal [.float .f64 (fmul .f64 x_0' 4611686018427387904), undef, .float .f64 0, .float .f64 (fsub .f64 ve_3 4607182418800017408), undef, undef, undef, undef, g8, g9, g10, g11, g12, g13, .float .f64 x_0', .bool (flt .f64 x_0' 4604930618986332160), .float .f64 x_0', .float .f64 (fmul .f64 x_0' 4611686018427387904), .float .f64 ve_3, .float .f64 (fsub .f64 ve_3 4607182418800017408), undef, undef, undef, undef, undef, undef, undef, undef, undef, undef, undef, undef, undef, undef, undef, undef, undef, undef, undef, undef, undef, undef, undef, undef, undef] H) (R (.exit 2) [.float .f64 x_0', undef, .float .f64 0, .float .f64 ve_3, undef, undef, undef, undef, g8, g9, g10, g11, g12, g13, .float .f64 x_0', .bool (flt .f64 x_0' 4604930618986332160), g16, g17, g18, g19, undef, undef, undef, undef, undef, undef, undef, undef, undef, undef, undef, undef, undef, undef, undef, undef, undef, undef, undef, undef, undef, undef, undef, undef, undef] H)) := by kernel_rfl
def impl_naturalLog_I2 (g10 : Value) (g11 : Value) (g12 : Value) (g13 : Value) (g8 : Value) (g9 : Value) (Inv : Nat → Nat → Nat → AHeap → Prop) : Nat → List Value → AHeap → Prop := fun μ tm H => ∃ (x_0' : Nat), ∃ (ve_3 : Nat), ∃ g14 g15 g16 g17 g18 g19, tm = [.float .f64 x_0', undef, .float .f64 0, .float .f64 ve_3, undef, undef, undef, undef, g8, g9, g10, g11, g12, g13, g14, g15, g16, g17, g18, g19, undef, undef, undef, undef, undef, undef, undef, undef, undef, undef, undef, undef, undef, undef, undef, undef, undef, undef, undef, undef, undef, undef, undef, undef, undef] ∧ Inv μ x_0' ve_3 H
theorem impl_naturalLog_L2 (g10 : Value) (g11 : Value) (g12 : Value) (g13 : Value) (g8 : Value) (g9 : Value) {Q : Post} (Inv : Nat → Nat → Nat → AHeap → Prop) (ν : Nat) (x_0' : Nat) (ve_3 : Nat) (g14 g15 g16 g17 g18 g19 : Value) (H : AHeap) (h0 : Inv ν x_0' ve_3 H)
    (hs : ∀ (μ : Nat) (x_0' : Nat) (ve_3 : Nat) (g14 g15 g16 g17 g18 g19 : Value) (H : AHeap), Inv μ x_0' ve_3 H → exK Try.prog E_impl_naturalLog (cl (cl (cl (cr (cr (cr (bodyC Try.f124))))))) [.float .f64 x_0', undef, .float .f64 0, .float .f64 ve_3, undef, undef, undef, undef, g8, g9, g10, g11, g12, g13, g14, g15, g16, g17, g18, g19, undef, undef, undef, undef, undef, undef, undef, undef, undef, undef, undef, undef, undef, undef, undef, undef, undef, undef, undef, undef, undef, undef, undef, undef, undef] H (loopQ (impl_naturalLog_I2 g10 g11 g12 g13 g8 g9 Inv) μ Q)) : loopK (exK Try.prog E_impl_naturalLog (cl (cl (cl (cr (cr (cr (bodyC Try.f124)))))))) [.float .f64 x_0', undef, .float .f64 0, .float .f64 ve_3, undef, undef, undef, undef, g8, g9, g10, g11, g12, g13, g14, g15, g16, g17, g18, g19, undef, undef, undef, undef, undef, undef, undef, undef, undef, undef, undef, undef, undef, undef, undef, undef, undef, undef, undef, undef, undef, undef, undef, undef, undef] H Q :=
  ⟨impl_naturalLog_I2 g10 g11 g12 g13 g8 g9 Inv, ν, ⟨x_0', ve_3, g14, g15, g16, g17, g18, g19, rfl, h0⟩, fun μ tm H h => by obtain ⟨x_0', ve_3, g14, g15, g16, g17, g18, g19, rfl, hI⟩ := h; exact hs μ x_0' ve_3 g14 g15 g16 g17 g18 g19 H hI⟩
theorem impl_naturalLog_n2 {g10 : Value} {g11 : Value} {g12 : Value} {g13 : Value} {g8 : Value} {g9 : Value} {Q : Post} {Inv : Nat → Nat → Nat → AHeap → Prop} {μ : Nat} (μ' : Nat) {x_0' : Nat} {ve_3 : Nat} {g14 g15 g16 g17 g18 g19 : Value} {H : AHeap} (hm : μ' < μ) (hI : Inv μ' x_0' ve_3 H) : loopQ (impl_naturalLog_I2 g10 g11 g12 g13 g8 g9 Inv) μ Q .normal [.float .f64 x_0', undef, .float .f64 0, .float .f64 ve_3, undef, undef, undef, undef, g8, g9, g10, g11, g12, g13, g14, g15, g16, g17, g18, g19, undef, undef, undef, undef, undef, undef, undef, undef, undef, undef, undef, undef, undef, undef, undef, undef, undef, undef, undef, undef, undef, undef, undef, undef, undef] H := ⟨μ', hm, x_0', ve_3, g14, g15, g16, g17, g18, g19, rfl, hI⟩
theorem impl_naturalLog_x2_2 (g10 : Value) (g11 : Value) (g12 : Value) (g13 : Value) (g8 : Value) (g9 : Value) (x_0' : Nat) (ve_3 : Nat) (g14 g15 g16 g17 g18 g19 : Value) (H : AHeap) (K : Value → AHeap → Prop)  {I : Nat → List Value → AHeap → Prop} {μ : Nat} : loopQ I μ (blockQ 2 (seqQ (exK Try.prog E_impl_naturalLog (cr (cr (cr (cr (bodyC Try.f124)))))) (retK Try.prog Try.f124 K))) (.exit 2) [.float .f64 x_0', undef, .float .f64 0, .float .f64 ve_3, undef, undef, undef, undef, g8, g9, g10, g11, g12, g13, g14, g15, g16, g17, g18, g19, undef, undef, undef, undef, undef, undef, undef, undef, undef, undef, undef, undef, undef, undef, undef, undef, undef, undef, undef, undef, undef, undef, undef, undef, undef] H =
  (loopK (exK Try.prog E_impl_naturalLog (cl (cl (cr (cl (cr (cr (cr (cr (cr (cr (cr (bodyC Try.f124))))))))))))) [.float .f64 x_0', undef, .float .f64 0, .float .f64 ve_3, .float .f64 (fdiv .f64 (fsub .f64 x_0' 4607182418800017408) (fadd .f64 x_0' 4607182418800017408)), .float .f64 (fmul .f64 (fdiv .f64 (fsub .f64 x_0' 4607182418800017408) (fadd .f64 x_0' 4607182418800017408)) (fdiv .f64 (fsub .f64 x_0' 4607182418800017408) (fadd .f64 x_0' 4607182418800017408))), .float .f64 0, .float .f64 4627730092099895296, g8, g9, g10, g11, g12, g13, g14, g15, g16, g17, g18, g19, .float .f64 x_0', .float .f64 (fsub .f64 x_0' 4607182418800017408), .float .f64 x_0', .float .f64 (fadd .f64 x_0' 4607182418800017408), .float .f64 (fdiv .f64 (fsub .f64 x_0' 4607182418800017408) (fadd .f64 x_0' 4607182418800017408)), .float .f64 (fdiv .f64 (fsub .f64 x_0' 4607182418800017408) (fadd .f64 x_0' 4607182418800017408)), .float .f64 (fdiv .f64 (fsub .f64 x_0' 4607182418800017408) (fadd .f64 x_0' 4607182418800017408)), .float .f64 (fmul .f64 (fdiv .f64 (fsub .f64 x_0' 4607182418800017408) (fadd .f64 x_0' 4607182418800017408)) (fdiv .f64 (fsub .f64 x_0' 4607182418800017408) (fadd .f64 x_0' 4607182418800017408))), undef, undef, undef, undef, undef, undef, undef, undef, undef, undef, undef, undef, undef, undef, undef, undef, undef] H (blockQ 4 (seqQ (exK Try.prog E_impl_naturalLog (cr (cr (cr (cr (cr (cr (cr (cr (bodyC Try.f124)))))))))) (retK Try.prog Try.f124 K)))) := by kernel_rfl
theorem impl_naturalLog_r3 (g10 : Value) (g11 : Value) (g12 : Value) (g13 : Value) (g14 : Value) (g15 : Value) (g16 : Value) (g17 : Value) (g18 : Value) (g19 : Value) (g8 : Value) (g9 : Value) (ve_3 : Nat) (x_0' : Nat) (q : Nat) (k : Nat) (g28 g29 g30 g31 g32 g33 g34 g35 g36 g37 : Value) (H : AHeap) (R : Post) : exK Try.prog E_impl_naturalLog (cl (cl (cr (cl (cr (cr (cr (cr (cr (cr (cr (bodyC Try.f124)))))))))))) [.float .f64 x_0', undef, .float .f64 0, .float .f64 ve_3, .float .f64 (fdiv .f64 (fsub .f64 x_0' 4607182418800017408) (fadd .f64 x_0' 4607182418800017408)), .float .f64 (fmul .f64 (fdiv .f64 (fsub .f64 x_0' 4607182418800017408) (fadd .f64 x_0' 4607182418800017408)) (fdiv .f64 (fsub .f64 x_0' 4607182418800017408) (fadd .f64 x_0' 4607182418800017408))), .float .f64 q, .float .f64 k, g8, g9, g10, g11, g12, g13, g14, g15, g16, g17, g18, g19, .float .f64 x_0', .float .f64 (fsub .f64 x_0' 4607182418800017408), .float .f64 x_0', .float .f64 (fadd .f64 x_0' 4607182418800017408), .float .f64 (fdiv .f64 (fsub .f64 x_0' 4607182418800017408) (fadd .f64 x_0' 4607182418800017408)), .float .f64 (fdiv .f64 (fsub .f64 x_0' 4607182418800017408) (fadd .f64 x_0' 4607182418800017408)), .float .f64 (fdiv .f64 (fsub .f64 x_0' 4607182418800017408) (fadd .f64 x_0' 4607182418800017408)), .float .f64 (fmul .f64 (fdiv .f64 (fsub .f64 x_0' 4607182418800017408) (fadd .f64 x_0' 4607182418800017408)) (fdiv .f64 (fsub .f64 x_0' 4607182418800017408) (fadd .f64 x_0' 4607182418800017408))), g28, g29, g30, g31, g32, g33, g34, g35, g36, g37, undef, undef, undef, undef, undef, undef, undef] H R =
  (Br (fle .f64 4607182418800017408 k) (R .normal [.float .f64 x_0', undef, .float .f64 0, .float .f64 ve_3, .float .f64 (fdiv .f64 (fsub .f64 x_0' 4607182418800017408) (fadd .f64 x_0' 4607182418800017408)), .float .f64 (fmul .f64 (fdiv .f64 (fsub .f64 x_0' 4607182418800017408) (fadd .f64 x_0' 4607182418800017408)) (fdiv .f64 (fsub .f64 x_0' 4607182418800017408) (fadd .f64 x_0' 4607182418800017408))), .float .f64 (fadd .f64 (fdiv .f64 4607182418800017408 k) (fmul .f64 (fmul .f64 (fdiv .f64 (fsub .f64 x_0' 4607182418800017408) (fadd .f64 x_0' 4607182418800017408)) (fdiv .f64 (fsub .f64 x_0' 4607182418800017408) (fadd .f64 x_0' 4607182418800017408))) q)), .float .f64 (fsub .f64 k 4611686018427387904), g8, g9, g10, g11, g12, g13, g14, g15, g16, g17, g18, g19, .float .f64 x_0', .float .f64 (fsub .f64 x_0' 4607182418800017408), .float .f64 x_0', .float .f64 (fadd .f64 x_0' 4607182418800017408), .float .f64 (fdiv .f64 (fsub .f64 x_0' 4607182418800017408) (fadd .f64 x_0' 4607182418800017408)), .float .f64 (fdiv .f64 (fsub .f64 x_0' 4607182418800017408) (fadd .f64 x_0' 4607182418800017408)), .float .f64 (fdiv .f64 (fsub .f64 x_0' 4607182418800017408) (fadd .f64 x_0' 4607182418800017408)), .float .f64 (fmul .f64 (fdiv .f64 (fsub .f64 x_0' 4607182418800017408) (fadd .f64 x_0' 4607182418800017408)) (fdiv .f64 (fsub .f64 x_0' 4607182418800017408) (fadd .f64 x_0' 4607182418800017408))), .float .f64 k, .bool (fle .f64 4607182418800017408 k), .float .f64 k, .float .f64 (fsub .f64 k 4611686018427387904), .float .f64 k, .float .f64 (fdiv .f64 4607182418800017408 k), .float .f64 (fmul .f64 (fdiv .f64 (fsub .f64 x_0' 4607182418800017408) (fadd .f64 x_0' 4607182418800017408)) (fdiv .f64 (fsub .f64 x_0' 4607182418800017408) (fadd .f64 x_0' 4607182418800017408))), .float .f64 q, .float .f64 (fmul .f64 (fmul .f64 (fdiv .f64 (fsub .f64 x_0' 4607182418800017408) (fadd .f64 x_0' 4607182418800017408)) (fdiv .f64 (fsub .f64 x_0' 4607182418800017408) (fadd .f64 x_0' 4607182418800017408))) q), .float .f64 (fadd .f64 (fdiv .f64 4607182418800017408 k) (fmul .f64 (fmul .f64 (fdiv .f64 (fsub .f64 x_0' 4607182418800017408) (fadd .f64 x_0' 4607182418800017408)) (fdiv .f64 (fsub .f64 x_0' 4607182418800017408) (fadd .f64 x_0' 4607182418800017408))) q)), undef, undef, undef, undef, undef, undef, undef] H) (R (.exit 4) [.float .f64 x_0', undef, .float .f64 0, .float .f64 ve_3, .float .f64 (fdiv .f64 (fsub .f64 x_0' 4607182418800017408) (fadd .f64 x_0' 4607182418800017408)), .float .f64 (fmul .f64 (fdiv .f64 (fsub .f64 x_0' 4607182418800017408) (fadd .f64 x_0' 4607182418800017408)) (fdiv .f64 (fsub .f64 x_0' 4607182418800017408) (fadd .f64 x_0' 4607182418800017408))), .float .f64 q, .float .f64 k, g8, g9, g10, g11, g12, g13, g14, g15, g16, g17, g18, g19, .float .f64 x_0', .float .f64 (fsub .f64 x_0' 4607182418800017408), .float .f64 x_0', .float .f64 (fadd .f64 x_0' 4607182418800017408), .float .f64 (fdiv .f64 (fsub .f64 x_0' 4607182418800017408) (fadd .f64 x_0' 4607182418800017408)), .float .f64 (fdiv .f64 (fsub .f64 x_0' 4607182418800017408) (fadd .f64 x_0' 4607182418800017408)), .float .f64 (fdiv .f64 (fsub .f64 x_0' 4607182418800017408) (fadd .f64 x_0' 4607182418800017408)), .float .f64 (fmul .f64 (fdiv .f64 (fsub .f64 x_0' 4607182418800017408) (fadd .f64 x_0' 4607182418800017408)) (fdiv .f64 (fsub .f64 x_0' 4607182418800017408) (fadd .f64 x_0' 4607182418800017408))), .float .f64 k, .bool (fle .f64 4607182418800017408 k), g30, g31, g32, g33, g34, g35, g36, g37, undef, undef, undef, undef, undef, undef, undef] H)) := by kernel_rfl
def impl_naturalLog_I3 (g10 : Value) (g11 : Value) (g12 : Value) (g13 : Value) (g14 : Value) (g15 : Value) (g16 : Value) (g17 : Value) (g18 : Value) (g19 : Value) (g8 : Value) (g9 : Value) (ve_3 : Nat) (x_0' : Nat) (Inv : Nat → Nat → Nat → AHeap → Prop) : Nat → List Value → AHeap → Prop := fun μ tm H => ∃ (q : Nat), ∃ (k : Nat), ∃ g28 g29 g30 g31 g32 g33 g34 g35 g36 g37, tm = [.float .f64 x_0', undef, .float .f64 0, .float .f64 ve_3, .float .f64 (fdiv .f64 (fsub .f64 x_0' 4607182418800017408) (fadd .f64 x_0' 4607182418800017408)), .float .f64 (fmul .f64 (fdiv .f64 (fsub .f64 x_0' 4607182418800017408) (fadd .f64 x_0' 4607182418800017408)) (fdiv .f64 (fsub .f64 x_0' 4607182418800017408) (fadd .f64 x_0' 4607182418800017408))), .float .f64 q, .float .f64 k, g8, g9, g10, g11, g12, g13, g14, g15, g16, g17, g18, g19, .float .f64 x_0', .float .f64 (fsub .f64 x_0' 4607182418800017408), .float .f64 x_0', .float .f64 (fadd .f64 x_0' 4607182418800017408), .float .f64 (fdiv .f64 (fsub .f64 x_0' 4607182418800017408) (fadd .f64 x_0' 4607182418800017408)), .float .f64 (fdiv .f64 (fsub .f64 x_0' 4607182418800017408) (fadd .f64 x_0' 4607182418800017408)), .float .f64 (fdiv .f64 (fsub .f64 x_0' 4607182418800017408) (fadd .f64 x_0' 4607182418800017408)), .float .f64 (fmul .f64 (fdiv .f64 (fsub .f64 x_0' 4607182418800017408) (fadd .f64 x_0' 4607182418800017408)) (fdiv .f64 (fsub .f64 x_0' 4607182418800017408) (fadd .f64 x_0' 4607182418800017408))), g28, g29, g30, g31, g32, g33, g34, g35, g36, g37, undef, undef, undef, undef, undef, undef, undef] ∧ Inv μ q k H
theorem impl_naturalLog_L3 (g10 : Value) (g11 : Value) (g12 : Value) (g13 : Value) (g14 : Value) (g15 : Value) (g16 : Value) (g17 : Value) (g18 : Value) (g19 : Value) (g8 : Value) (g9 : Value) (ve_3 : Nat) (x_0' : Nat) {Q : Post} (Inv : Nat → Nat → Nat → AHeap → Prop) (ν : Nat) (q : Nat) (k : Nat) (g28 g29 g30 g31 g32 g33 g34 g35 g36 g37 : Value) (H : AHeap) (h0 : Inv ν q k H)
    (hs : ∀ (μ : Nat) (q : Nat) (k : Nat) (g28 g29 g30 g31 g32 g33 g34 g35 g36 g37 : Value) (H : AHeap), Inv μ q k H → exK Try.prog E_impl_naturalLog (cl (cl (cr (cl (cr (cr (cr (cr (cr (cr (cr (bodyC Try.f124)))))))))))) [.float .f64 x_0', undef, .float .f64 0, .float .f64 ve_3, .float .f64 (fdiv .f64 (fsub .f64 x_0' 4607182418800017408) (fadd .f64 x_0' 4607182418800017408)), .float .f64 (fmul .f64 (fdiv .f64 (fsub .f64 x_0' 4607182418800017408) (fadd .f64 x_0' 4607182418800017408)) (fdiv .f64 (fsub .f64 x_0' 4607182418800017408) (fadd .f64 x_0' 4607182418800017408))), .float .f64 q, .float .f64 k, g8, g9, g10, g11, g12, g13, g14, g15, g16, g17, g18, g19, .float .f64 x_0', .float .f64 (fsub .f64 x_0' 4607182418800017408), .float .f64 x_0', .float .f64 (fadd .f64 x_0' 4607182418800017408), .float .f64 (fdiv .f64 (fsub .f64 x_0' 4607182418800017408) (fadd .f64 x_0' 4607182418800017408)), .float .f64 (fdiv .f64 (fsub .f64 x_0' 4607182418800017408) (fadd .f64 x_0' 4607182418800017408)), .float .f64 (fdiv .f64 (fsub .f64 x_0' 4607182418800017408) (fadd .f64 x_0' 4607182418800017408)), .float .f64 (fmul .f64 (fdiv .f64 (fsub .f64 x_0' 4607182418800017408) (fadd .f64 x_0' 4607182418800017408)) (fdiv .f64 (fsub .f64 x_0' 4607182418800017408) (fadd .f64 x_0' 4607182418800017408))), g28, g29, g30, g31, g32, g33, g34, g35, g36, g37, undef, undef, undef, undef, undef, undef, undef] H (loopQ (impl_naturalLog_I3 g10 g11 g12 g13 g14 g15 g16 g17 g18 g19 g8 g9 ve_3 x_0' Inv) μ Q)) : loopK (exK Try.prog E_impl_naturalLog (cl (cl (cr (cl (cr (cr (cr (cr (cr (cr (cr (bodyC Try.f124))))))))))))) [.float .f64 x_0', undef, .float .f64 0, .float .f64 ve_3, .float .f64 (fdiv .f64 (fsub .f64 x_0' 4607182418800017408) (fadd .f64 x_0' 4607182418800017408)), .float .f64 (fmul .f64 (fdiv .f64 (fsub .f64 x_0' 4607182418800017408) (fadd .f64 x_0' 4607182418800017408)) (fdiv .f64 (fsub .f64 x_0' 4607182418800017408) (fadd .f64 x_0' 4607182418800017408))), .float .f64 q, .float .f64 k, g8, g9, g10, g11, g12, g13, g14, g15, g16, g17, g18, g19, .float .f64 x_0', .float .f64 (fsub .f64 x_0' 4607182418800017408), .float .f64 x_0', .float .f64 (fadd .f64 x_0' 4607182418800017408), .float .f64 (fdiv .f64 (fsub .f64 x_0' 4607182418800017408) (fadd .f64 x_0' 4607182418800017408)), .float .f64 (fdiv .f64 (fsub .f64 x_0' 4607182418800017408) (fadd .f64 x_0' 4607182418800017408)), .float .f64 (fdiv .f64 (fsub .f64 x_0' 4607182418800017408) (fadd .f64 x_0' 4607182418800017408)), .float .f64 (fmul .f64 (fdiv .f64 (fsub .f64 x_0' 4607182418800017408) (fadd .f64 x_0' 4607182418800017408)) (fdiv .f64 (fsub .f64 x_0' 4607182418800017408) (fadd .f64 x_0' 4607182418800017408))), g28, g29, g30, g31, g32, g33, g34, g35, g36, g37, undef, undef, undef, undef, undef, undef, undef] H Q :=
  ⟨impl_naturalLog_I3 g10 g11 g12 g13 g14 g15 g16 g17 g18 g19 g8 g9 ve_3 x_0' Inv, ν, ⟨q, k, g28, g29, g30, g31, g32, g33, g34, g35, g36, g37, rfl, h0⟩, fun μ tm H h => by obtain ⟨q, k, g28, g29, g30, g31, g32, g33, g34, g35, g36, g37, rfl, hI⟩ := h; exact hs μ q k g28 g29 g30 g31 g32 g33 g34 g35 g36 g37 H hI⟩
theorem impl_naturalLog_n3 {g10 : Value} {g11 : Value} {g12 : Value} {g13 : Value} {g14 : Value} {g15 : Value} {g16 : Value} {g17 : Value} {g18 : Value} {g19 : Value} {g8 : Value} {g9 : Value} {ve_3 : Nat} {x_0' : Nat} {Q : Post} {Inv : Nat → Nat → Nat → AHeap → Prop} {μ : Nat} (μ' : Nat) {q : Nat} {k : Nat} {g28 g29 g30 g31 g32 g33 g34 g35 g36 g37 : Value} {H : AHeap} (hm : μ' < μ) (hI : Inv μ' q k H) : loopQ (impl_naturalLog_I3 g10 g11 g12 g13 g14 g15 g16 g17 g18 g19 g8 g9 ve_3 x_0' Inv) μ Q .normal [.float .f64 x_0', undef, .float .f64 0, .float .f64 ve_3, .float .f64 (fdiv .f64 (fsub .f64 x_0' 4607182418800017408) (fadd .f64 x_0' 4607182418800017408)), .float .f64 (fmul .f64 (fdiv .f64 (fsub .f64 x_0' 4607182418800017408) (fadd .f64 x_0' 4607182418800017408)) (fdiv .f64 (fsub .f64 x_0' 4607182418800017408) (fadd .f64 x_0' 4607182418800017408))), .float .f64 q, .float .f64 k, g8, g9, g10, g11, g12, g13, g14, g15, g16, g17, g18, g19, .float .f64 x_0', .float .f64 (fsub .f64 x_0' 4607182418800017408), .float .f64 x_0', .float .f64 (fadd .f64 x_0' 4607182418800017408), .float .f64 (fdiv .f64 (fsub .f64 x_0' 4607182418800017408) (fadd .f64 x_0' 4607182418800017408)), .float .f64 (fdiv .f64 (fsub .f64 x_0' 4607182418800017408) (fadd .f64 x_0' 4607182418800017408)), .float .f64 (fdiv .f64 (fsub .f64 x_0' 4607182418800017408) (fadd .f64 x_0' 4607182418800017408)), .float .f64 (fmul .f64 (fdiv .f64 (fsub .f64 x_0' 4607182418800017408) (fadd .f64 x_0' 4607182418800017408)) (fdiv .f64 (fsub .f64 x_0' 4607182418800017408) (fadd .f64 x_0' 4607182418800017408))), g28, g29, g30, g31, g32, g33, g34, g35, g36, g37, undef, undef, undef, undef, undef, undef, undef] H := ⟨μ', hm, q, k, g28, g29, g30, g31, g32, g33, g34, g35, g36, g37, rfl, hI⟩
theorem impl_naturalLog_x3_4 (g10 : Value) (g11 : Value) (g12 : Value) (g13 : Value) (g14 : Value) (g15 : Value) (g16 : Value) (g17 : Value) (g18 : Value) (g19 : Value) (g8 : Value) (g9 : Value) (ve_3 : Nat) (x_0' : Nat) (q : Nat) (k : Nat) (g28 g29 g30 g31 g32 g33 g34 g35 g36 g37 : Value) (H : AHeap) (K : Value → AHeap → Prop)  {I : Nat → List Value → AHeap → Prop} {μ : Nat} : loopQ I μ (blockQ 4 (seqQ (exK Try.prog E_impl_naturalLog (cr (cr (cr (cr (cr (cr (cr (cr (bodyC Try.f124)))))))))) (retK Try.prog Try.f124 K))) (.exit 4) [.float .f64 x_0', undef, .float .f64 0, .float .f64 ve_3, .float .f64 (fdiv .f64 (fsub .f64 x_0' 4607182418800017408) (fadd .f64 x_0' 4607182418800017408)), .float .f64 (fmul .f64 (fdiv .f64 (fsub .f64 x_0' 4607182418800017408) (fadd .f64 x_0' 4607182418800017408)) (fdiv .f64 (fsub .f64 x_0' 4607182418800017408) (fadd .f64 x_0' 4607182418800017408))), .float .f64 q, .float .f64 k, g8, g9, g10, g11, g12, g13, g14, g15, g16, g17, g18, g19, .float .f64 x_0', .float .f64 (fsub .f64 x_0' 4607182418800017408), .float .f64 x_0', .float .f64 (fadd .f64 x_0' 4607182418800017408), .float .f64 (fdiv .f64 (fsub .f64 x_0' 4607182418800017408) (fadd .f64 x_0' 4607182418800017408)), .float .f64 (fdiv .f64 (fsub .f64 x_0' 4607182418800017408) (fadd .f64 x_0' 4607182418800017408)), .float .f64 (fdiv .f64 (fsub .f64 x_0' 4607182418800017408) (fadd .f64 x_0' 4607182418800017408)), .float .f64 (fmul .f64 (fdiv .f64 (fsub .f64 x_0' 4607182418800017408) (fadd .f64 x_0' 4607182418800017408)) (fdiv .f64 (fsub .f64 x_0' 4607182418800017408) (fadd .f64 x_0' 4607182418800017408))), g28, g29, g30, g31, g32, g33, g34, g35, g36, g37, undef, undef, undef, undef, undef, undef, undef] H =
  (K (.float .f64 (fadd .f64 (fmul .f64 4611686018427387904 (fmul .f64 (fdiv .f64 (fsub .f64 x_0' 4607182418800017408) (fadd .f64 x_0' 4607182418800017408)) q)) (fmul .f64 ve_3 4604418534313441775))) H) := by kernel_rfl
theorem E_impl_naturalLog_ok : ∀ g, FnOk Try.prog g (E_impl_naturalLog g) := FnOk.envOf (by
  intro x hx; cases hx)
set_option maxHeartbeats 1000000 in
theorem impl_naturalLog_main (x : Nat) (H : AHeap) (K : Value → AHeap → Prop) (h : T_impl_naturalLog x H fun (r1 : Nat) (H' : AHeap) => K (.float .f64 r1) H') : bodyK Try.prog E_impl_naturalLog Try.f124 [.float .f64 x] H K := by
  rw [impl_naturalLog_vc]
  obtain ⟨pr0, pr1, hk⟩ := h
  have e : (p_impl_naturalLog x) = _ := rfl
  have e := e.trans (p_impl_naturalLog_eq x)
  have g0 := Grow.refl H
  refine impl_naturalLog_L1  (fun (μ : Nat) (x_0 : Nat) (ve : Nat) (H_1 : AHeap) => H = H_1 ∧ 4503599627370496 ≤ x_0 ∧ x_0 < 9218868437227405312 ∧ (x_0 : Int) ≤ (μ : Int) ∧ p_impl_naturalLog x = p_impl_naturalLog_l1 x (μ + 1) x_0 ve) (Int.toNat ((x : Int))) _ _ _ _ _ _ _ _ H ?_ ?_
  · exact ⟨rfl, (by first | omega | (simp; done) | (simp; omega) | (have := half_step (by assumption) (by assumption) (by assumption); omega)), (by first | omega | (simp; done) | (simp; omega) | (have := half_step (by assumption) (by assumption) (by assumption); omega)), (by omega), e⟩
  · intro μ x_0 ve g8 g9 g10 g11 g12 g13 H_1 hI
    obtain ⟨rfl, v_1, v_2, hμ, e⟩ := hI
    rw [impl_naturalLog_r1]
    have e := e.trans (p_impl_naturalLog_l1_s x μ x_0 ve)
    have l_3 := g0.1
    refine Br.intro (fun c_4 => ?_) (fun c_4 => ?_)
    · have e := e.trans (cond_t c_4)
      refine impl_naturalLog_n1 (μ - 1) (by first | omega | (have := half_step (by assumption) (by assumption) (by assumption); omega)) ⟨rfl, (by first | omega | (have := half_step (by assumption) (by assumption) (by assumption); omega) | (simp only [List.length_append, List.length_cons, List.length_nil, List.length_set]; done) | (simp only [List.length_append, List.length_cons, List.length_nil, List.length_set]; omega)), (by first | omega | (have := half_step (by assumption) (by assumption) (by assumption); omega) | (simp only [List.length_append, List.length_cons, List.length_nil, List.length_set]; done) | (simp only [List.length_append, List.length_cons, List.length_nil, List.length_set]; omega)), (by first | omega | (have := half_step (by assumption) (by assumption) (by assumption); omega)), (by rw [show μ - 1 + 1 = μ from by first | omega | (have := half_step (by assumption) (by assumption) (by assumption); omega)]; exact e)⟩
    · have e := e.trans (cond_f c_4)
      rw [impl_naturalLog_x1_0]
      refine impl_naturalLog_L2 _ _ _ _ _ _ (fun (μ2 : Nat) (x_0' : Nat) (ve_3 : Nat) (H_2 : AHeap) => H = H_2 ∧ 4503599627370496 ≤ x_0' ∧ x_0' < 9218868437227405312 ∧ (4604930618986332160 : Int) - x_0' ≤ (μ2 : Int) ∧ p_impl_naturalLog x = p_impl_naturalLog_l2 x x_0 ve (fun (x_0' : Nat) (ve_3 : Nat) => (p_impl_naturalLog_l3 x x_0 ve x_0' ve_3 (fun (q : Nat) (k : Nat) => fadd .f64 (fmul .f64 4611686018427387904 (fmul .f64 (fdiv .f64 (fsub .f64 x_0' 4607182418800017408) (fadd .f64 x_0' 4607182418800017408)) q)) (fmul .f64 ve_3 4604418534313441775)) (Int.toNat (cnt 4627730092099895296) + 1) 0 4627730092099895296)) (μ2 + 1) x_0' ve_3) (Int.toNat ((4604930618986332160 : Int) - x_0)) _ _ _ _ _ _ _ _ H ?_ ?_
      · exact ⟨rfl, (by first | omega | (simp; done) | (simp; omega) | (have := twice_step (by assumption) (by assumption) (by assumption); omega)), (by first | omega | (simp; done) | (simp; omega) | (have := twice_step (by assumption) (by assumption) (by assumption); omega)), (by omega), e⟩
      · intro μ2 x_0' ve_3 g14 g15 g16 g17 g18 g19 H_2 hI
        obtain ⟨rfl, v_5, v_6, hμ, e⟩ := hI
        rw [impl_naturalLog_r2]
        have e := e.trans (p_impl_naturalLog_l2_s x x_0 ve (fun (x_0' : Nat) (ve_3 : Nat) => (p_impl_naturalLog_l3 x x_0 ve x_0' ve_3 (fun (q : Nat) (k : Nat) => fadd .f64 (fmul .f64 4611686018427387904 (fmul .f64 (fdiv .f64 (fsub .f64 x_0' 4607182418800017408) (fadd .f64 x_0' 4607182418800017408)) q)) (fmul .f64 ve_3 4604418534313441775)) (Int.toNat (cnt 4627730092099895296) + 1) 0 4627730092099895296)) μ2 x_0' ve_3)
        have l_7 := g0.1
        refine Br.intro (fun c_8 => ?_) (fun c_8 => ?_)
        · have e := e.trans (cond_t c_8)
          refine impl_naturalLog_n2 (μ2 - 1) (by first | omega | (have := twice_step (by assumption) (by assumption) (by assumption); omega)) ⟨rfl, (by first | omega | (have := twice_step (by assumption) (by assumption) (by assumption); omega) | (simp only [List.length_append, List.length_cons, List.length_nil, List.length_set]; done) | (simp only [List.length_append, List.length_cons, List.length_nil, List.length_set]; omega)), (by first | omega | (have := twice_step (by assumption) (by assumption) (by assumption); omega) | (simp only [List.length_append, List.length_cons, List.length_nil, List.length_set]; done) | (simp only [List.length_append, List.length_cons, List.length_nil, List.length_set]; omega)), (by first | omega | (have := twice_step (by assumption) (by assumption) (by assumption); omega)), (by rw [show μ2 - 1 + 1 = μ2 from by first | omega | (have := twice_step (by assumption) (by assumption) (by assumption); omega)]; exact e)⟩
        · have e := e.trans (cond_f c_8)
          rw [impl_naturalLog_x2_2]
          refine impl_naturalLog_L3 _ _ _ _ _ _ _ _ _ _ _ _ _ _ (fun (μ3 : Nat) (q : Nat) (k : Nat) (H_3 : AHeap) => H = H_3 ∧ isCnt k ∧ cnt k ≤ (μ3 : Int) ∧ p_impl_naturalLog x = p_impl_naturalLog_l3 x x_0 ve x_0' ve_3 (fun (q : Nat) (k : Nat) => fadd .f64 (fmul .f64 4611686018427387904 (fmul .f64 (fdiv .f64 (fsub .f64 x_0' 4607182418800017408) (fadd .f64 x_0' 4607182418800017408)) q)) (fmul .f64 ve_3 4604418534313441775)) (μ3 + 1) q k) (Int.toNat (cnt 4627730092099895296)) _ _ _ _ _ _ _ _ _ _ _ _ H ?_ ?_
          · exact ⟨rfl, (by first | omega | (simp; done) | (simp; omega) | (first | exact isCnt.of (n := 25) (by decide) (by decide) | exact (down2 (by assumption) (by assumption)).1)), (by omega), e⟩
          · intro μ3 q k g28 g29 g30 g31 g32 g33 g34 g35 g36 g37 H_3 hI
            obtain ⟨rfl, v_9, hμ, e⟩ := hI
            rw [impl_naturalLog_r3]
            have e := e.trans (p_impl_naturalLog_l3_s x x_0 ve x_0' ve_3 (fun (q : Nat) (k : Nat) => fadd .f64 (fmul .f64 4611686018427387904 (fmul .f64 (fdiv .f64 (fsub .f64 x_0' 4607182418800017408) (fadd .f64 x_0' 4607182418800017408)) q)) (fmul .f64 ve_3 4604418534313441775)) μ3 q k)
            have l_10 := g0.1
            refine Br.intro (fun c_11 => ?_) (fun c_11 => ?_)
            · have e := e.trans (cond_t c_11)
              refine impl_naturalLog_n3 (μ3 - 1) (by first | omega | (have := down2 (by assumption) (by assumption); omega)) ⟨rfl, (by first | omega | (first | exact isCnt.of (n := 25) (by decide) (by decide) | exact (down2 (by assumption) (by assumption)).1) | (simp only [List.length_append, List.length_cons, List.length_nil, List.length_set]; done) | (simp only [List.length_append, List.length_cons, List.length_nil, List.length_set]; omega)), (by first | omega | (have := down2 (by assumption) (by assumption); omega)), (by rw [show μ3 - 1 + 1 = μ3 from by first | omega | (have := down2 (by assumption) (by assumption); omega)]; exact e)⟩
            · have e := e.trans (cond_f c_11)
              rw [impl_naturalLog_x3_4]
              rw [e] at hk
              exact hk
theorem impl_naturalLog_ok : FnOk Try.prog 124 S_impl_naturalLog := by
  refine FnOk.body mix_ok E_impl_naturalLog_ok Try.func124 rfl (by kernel_rfl) (by kernel_rfl) ?_ ?_ ?_ ?_ ?_
  · intro args H K K' h hk
    simp only [S_impl_naturalLog] at *
    unfold F_impl_naturalLog at *
    split at hk
    · obtain ⟨pr0, pr1, k⟩ := hk
      exact ⟨pr0, pr1, h _ _ k⟩
    · exact hk.elim
  · intro _ args H K hk
    simp only [S_impl_naturalLog] at *
    unfold F_impl_naturalLog at *
    split at hk
    · obtain ⟨pr0, pr1, k⟩ := hk
      exact ⟨_, k, fun K' k' => ⟨pr0, pr1, k'⟩⟩
    · exact hk.elim
  · intro args H K hk
    simp only [S_impl_naturalLog] at *
    unfold F_impl_naturalLog at *
    split at hk
    · obtain ⟨pr0, pr1, k⟩ := hk
      exact ⟨_, _, k⟩
    · exact hk.elim
  · intro hq; cases hq
  · have mm := @impl_naturalLog_main
    revert mm
    generalize bodyK Try.prog E_impl_naturalLog Try.f124 = Q
    intro mm args H K hk
    simp only [S_impl_naturalLog] at *
    unfold F_impl_naturalLog at *
    split at hk
    · exact mm _ H K hk
    · exact hk.elim
def p_impl_LogNumber (x : Nat) : Nat := (bif feq .f32 x 0 then ((fnarrow ((p_math_Inf ((-1) : Int)))).getD 0) else (bif flt .f32 x 0 then ((fnarrow p_math_NaN).getD 0) else (bif !(feq .f32 x x) then ((fnarrow p_math_NaN).getD 0) else (bif !(p_impl_IsFinite x) then x else ((fnarrow ((p_impl_naturalLog (fwide x)))).getD 0)))))
theorem p_impl_LogNumber_eq (x : Nat) : p_impl_LogNumber x = (bif feq .f32 x 0 then ((fnarrow ((p_math_Inf ((-1) : Int)))).getD 0) else (bif flt .f32 x 0 then ((fnarrow p_math_NaN).getD 0) else (bif !(feq .f32 x x) then ((fnarrow p_math_NaN).getD 0) else (bif !(p_impl_IsFinite x) then x else ((fnarrow ((p_impl_naturalLog (fwide x)))).getD 0))))) := rfl
def T_impl_LogNumber (x : Nat) (H : AHeap) (K : Nat → AHeap → Prop) : Prop := K (p_impl_LogNumber x) H
theorem T_impl_LogNumber_i {x : Nat} {H : AHeap} {K : Nat → AHeap → Prop} (h : K (p_impl_LogNumber x) H) : T_impl_LogNumber x H K := h
theorem log_pre {x : Nat} (h0 : feq .f32 x 0 = false) (h1 : flt .f32 x 0 = false) (h2 : p_impl_IsFinite x = true) : 4503599627370496 ≤ fwide x ∧ fwide x < 9218868437227405312 :=
  log_pre' h0 h1 (by rw [← fin_asked x]; exact h2)
/-! impl_LogNumber: function 83 -/
def E_impl_LogNumber : Env := envOf [(122, S_math_Inf), (123, S_math_NaN), (62, S_impl_IsFinite), (124, S_impl_naturalLog)]
def F_impl_LogNumber : List Value → AHeap → (Value → AHeap → Prop) → Prop
  | [.float .f32 x], H, K => T_impl_LogNumber x H fun (r1 : Nat) (H' : AHeap) => K (.float .f32 r1) H'
  | _, _, _ => False
def S_impl_LogNumber : FSpec := { F := F_impl_LogNumber, quiet := true, tame := false }
theorem impl_LogNumber_vc (x : Nat) (H : AHeap) (K : Value → AHeap → Prop) : bodyK Try.prog E_impl_LogNumber Try.f83 [.float .f32 x] H K =
  (Br (feq .f32 x 0) (T_math_Inf (-1) H fun (r1 : Nat) (H1 : AHeap) => ∃ x1 : Nat, fnarrow r1 = some x1 ∧ K (.float .f32 x1) H1) (Br (flt .f32 x 0) (T_math_NaN  H fun (r2 : Nat) (H2 : AHeap) => ∃ x2 : Nat, fnarrow r2 = some x2 ∧ K (.float .f32 x2) H2) (Br (!(feq .f32 x x)) (T_math_NaN  H fun (r3 : Nat) (H3 : AHeap) => ∃ x3 : Nat, fnarrow r3 = some x3 ∧ K (.float .f32 x3) H3) (T_impl_IsFinite x H fun (r4 : Bool) (H4 : AHeap) => Br (!r4) (K (.float .f32 x) H4) (T_impl_naturalLog (fwide x) H4 fun (r5 : Nat) (H5 : AHeap) => ∃ x4 : Nat, fnarrow r5 = some x4 ∧ K (.float .f32 x4) H5))))) := by kernel_rfl
theorem E_impl_LogNumber_ok : ∀ g, FnOk Try.prog g (E_impl_LogNumber g) := FnOk.envOf (by
  intro x hx
  simp only [List.mem_cons, List.not_mem_nil, or_false] at hx
  rcases hx with rfl | rfl | rfl | rfl
  · exact math_Inf_ok
  · exact math_NaN_ok
  · exact impl_IsFinite_ok
  · exact impl_naturalLog_ok)
set_option maxHeartbeats 1000000 in
theorem impl_LogNumber_main (x : Nat) (H : AHeap) (K : Value → AHeap → Prop) (h : T_impl_LogNumber x H fun (r1 : Nat) (H' : AHeap) => K (.float .f32 r1) H') : bodyK Try.prog E_impl_LogNumber Try.f83 [.float .f32 x] H K := by
  rw [impl_LogNumber_vc]
  have hk := h
  unfold T_impl_LogNumber at hk
  have e : (p_impl_LogNumber x) = _ := rfl
  have e := e.trans (p_impl_LogNumber_eq x)
  have g0 := Grow.refl H
  refine Br.intro (fun c_1 => ?_) (fun c_1 => ?_)
  · have e := e.trans (cond_t c_1)
    refine T_math_Inf_i ?_
    refine ⟨_, opt_get (d := 0) (by decide +kernel), ?_⟩
    rw [e] at hk
    exact hk
  · have e := e.trans (cond_f c_1)
    refine Br.intro (fun c_2 => ?_) (fun c_2 => ?_)
    · have e := e.trans (cond_t c_2)
      refine T_math_NaN_i ?_
      refine ⟨_, opt_get (d := 0) (by decide +kernel), ?_⟩
      rw [e] at hk
      exact hk
    · have e := e.trans (cond_f c_2)
      refine Br.intro (fun c_3 => ?_) (fun c_3 => ?_)
      · have e := e.trans (cond_t c_3)
        have c_3n := nf_of_t c_3
        refine T_math_NaN_i ?_
        refine ⟨_, opt_get (d := 0) (by decide +kernel), ?_⟩
        rw [e] at hk
        exact hk
      · have e := e.trans (cond_f c_3)
        have c_3n := nt_of_f c_3
        refine T_impl_IsFinite_i ?_
        refine Br.intro (fun c_4 => ?_) (fun c_4 => ?_)
        · have e := e.trans (cond_t c_4)
          have c_4n := nf_of_t c_4
          rw [e] at hk
          exact hk
        · have e := e.trans (cond_f c_4)
          have c_4n := nt_of_f c_4
          refine T_impl_naturalLog_i ⟨(by first | assumption | omega | (simp; omega) | (first | exact (log_pre (by assumption) (by assumption) (by assumption)).1 | exact (log_pre (by assumption) (by assumption) (by assumption)).2)), (by first | assumption | omega | (simp; omega) | (first | exact (log_pre (by assumption) (by assumption) (by assumption)).1 | exact (log_pre (by assumption) (by assumption) (by assumption)).2)), ?_⟩
          refine ⟨_, opt_get (d := 0) (by exact impl_naturalLog_nar (log_pre (by assumption) (by assumption) (by assumption))), ?_⟩
          rw [e] at hk
          exact hk
theorem impl_LogNumber_ok : FnOk Try.prog 83 S_impl_LogNumber := by
  refine FnOk.body mix_ok E_impl_LogNumber_ok Try.func83 rfl (by kernel_rfl) (by kernel_rfl) ?_ ?_ ?_ ?_ ?_
  · intro args H K K' h hk
    simp only [S_impl_LogNumber] at *
    unfold F_impl_LogNumber at *
    split at hk
    · have k := hk
      exact h _ _ k
    · exact hk.elim
  · intro _ args H K hk
    simp only [S_impl_LogNumber] at *
    unfold F_impl_LogNumber at *
    split at hk
    · have k := hk
      exact ⟨_, k, fun K' k' => k'⟩
    · exact hk.elim
  · intro args H K hk
    simp only [S_impl_LogNumber] at *
    unfold F_impl_LogNumber at *
    split at hk
    · have k := hk
      exact ⟨_, _, k⟩
    · exact hk.elim
  · intro hq; cases hq
  · have mm := @impl_LogNumber_main
    revert mm
    generalize bodyK Try.prog E_impl_LogNumber Try.f83 = Q
    intro mm args H K hk
    simp only [S_impl_LogNumber] at *
    unfold F_impl_LogNumber at *
    split at hk
    · exact mm _ H K hk
    · exact hk.elim
def p_impl_RootNumber (x : Nat) : Nat := ((fnarrow ((p_math_Sqrt (fwide x)))).getD 0)
theorem p_impl_RootNumber_eq (x : Nat) : p_impl_RootNumber x = ((fnarrow ((p_math_Sqrt (fwide x)))).getD 0) := rfl
def T_impl_RootNumber (x : Nat) (H : AHeap) (K : Nat → AHeap → Prop) : Prop := K (p_impl_RootNumber x) H
theorem T_impl_RootNumber_i {x : Nat} {H : AHeap} {K : Nat → AHeap → Prop} (h : K (p_impl_RootNumber x) H) : T_impl_RootNumber x H K := h

/-! impl_RootNumber: function 82 -/
def E_impl_RootNumber : Env := envOf [(120, S_math_Sqrt)]
def F_impl_RootNumber : List Value → AHeap → (Value → AHeap → Prop) → Prop
  | [.float .f32 x], H, K => T_impl_RootNumber x H fun (r1 : Nat) (H' : AHeap) => K (.float .f32 r1) H'
  | _, _, _ => False
def S_impl_RootNumber : FSpec := { F := F_impl_RootNumber, quiet := true, tame := false }
theorem impl_RootNumber_vc (x : Nat) (H : AHeap) (K : Value → AHeap → Prop) : bodyK Try.prog E_impl_RootNumber Try.f82 [.float .f32 x] H K =
  (T_math_Sqrt (fwide x) H fun (r1 : Nat) (H1 : AHeap) => ∃ x1 : Nat, fnarrow r1 = some x1 ∧ K (.float .f32 x1) H1) := by kernel_rfl
theorem E_impl_RootNumber_ok : ∀ g, FnOk Try.prog g (E_impl_RootNumber g) := FnOk.envOf (by
  intro x hx
  simp only [List.mem_cons, List.not_mem_nil, or_false] at hx
  subst hx; exact math_Sqrt_ok)
set_option maxHeartbeats 1000000 in
theorem impl_RootNumber_main (x : Nat) (H : AHeap) (K : Value → AHeap → Prop) (h : T_impl_RootNumber x H fun (r1 : Nat) (H' : AHeap) => K (.float .f32 r1) H') : bodyK Try.prog E_impl_RootNumber Try.f82 [.float .f32 x] H K := by
  rw [impl_RootNumber_vc]
  have hk := h
  unfold T_impl_RootNumber at hk
  have e : (p_impl_RootNumber x) = _ := rfl
  have e := e.trans (p_impl_RootNumber_eq x)
  have g0 := Grow.refl H
  refine T_math_Sqrt_i ?_
  refine ⟨_, opt_get (d := 0) (by exact sqrt_nar _), ?_⟩
  rw [e] at hk
  exact hk
theorem impl_RootNumber_ok : FnOk Try.prog 82 S_impl_RootNumber := by
  refine FnOk.body mix_ok E_impl_RootNumber_ok Try.func82 rfl (by kernel_rfl) (by kernel_rfl) ?_ ?_ ?_ ?_ ?_
  · intro args H K K' h hk
    simp only [S_impl_RootNumber] at *
    unfold F_impl_RootNumber at *
    split at hk
    · have k := hk
      exact h _ _ k
    · exact hk.elim
  · intro _ args H K hk
    simp only [S_impl_RootNumber] at *
    unfold F_impl_RootNumber at *
    split at hk
    · have k := hk
      exact ⟨_, k, fun K' k' => k'⟩
    · exact hk.elim
  · intro args H K hk
    simp only [S_impl_RootNumber] at *
    unfold F_impl_RootNumber at *
    split at hk
    · have k := hk
      exact ⟨_, _, k⟩
    · exact hk.elim
  · intro hq; cases hq
  · have mm := @impl_RootNumber_main
    revert mm
    generalize bodyK Try.prog E_impl_RootNumber Try.f82 = Q
    intro mm args H K hk
    simp only [S_impl_RootNumber] at *
    unfold F_impl_RootNumber at *
    split at hk
    · exact mm _ H K hk
    · exact hk.elim
def p_impl_finite (x : Nat) : Nat × Bool := (bif !(p_impl_IsFinite x) then (0, false) else (x, true))
theorem p_impl_finite_eq (x : Nat) : p_impl_finite x = (bif !(p_impl_IsFinite x) then (0, false) else (x, true)) := rfl
def T_impl_finite (x : Nat) (H : AHeap) (K : Nat → Bool → AHeap → Prop) : Prop := K (p_impl_finite x).1 (p_impl_finite x).2 H

theorem T_impl_finite_i {x : Nat} {H : AHeap} {K : Nat → Bool → AHeap → Prop} (h : K (p_impl_finite x).1 (p_impl_finite x).2 H) : T_impl_finite x H K := h
/-! impl_finite: function 65 -/
def E_impl_finite : Env := envOf [(62, S_impl_IsFinite)]
def F_impl_finite : List Value → AHeap → (Value → AHeap → Prop) → Prop
  | [.float .f32 x], H, K => T_impl_finite x H fun (r1 : Nat) (r2 : Bool) (H' : AHeap) => K (.tuple #[.float .f32 r1, .bool r2]) H'
  | _, _, _ => False
def S_impl_finite : FSpec := { F := F_impl_finite, quiet := true, tame := false }
theorem impl_finite_vc (x : Nat) (H : AHeap) (K : Value → AHeap → Prop) : bodyK Try.prog E_impl_finite Try.f65 [.float .f32 x] H K =
  (T_impl_IsFinite x H fun (r1 : Bool) (H1 : AHeap) => Br (!r1) (K (.tuple #[.float .f32 0, .bool false]) H1) (K (.tuple #[.float .f32 x, .bool true]) H1)) := by kernel_rfl
theorem E_impl_finite_ok : ∀ g, FnOk Try.prog g (E_impl_finite g) := FnOk.envOf (by
  intro x hx
  simp only [List.mem_cons, List.not_mem_nil, or_false] at hx
  subst hx; exact impl_IsFinite_ok)
set_option maxHeartbeats 1000000 in
theorem impl_finite_main (x : Nat) (H : AHeap) (K : Value → AHeap → Prop) (h : T_impl_finite x H fun (r1 : Nat) (r2 : Bool) (H' : AHeap) => K (.tuple #[.float .f32 r1, .bool r2]) H') : bodyK Try.prog E_impl_finite Try.f65 [.float .f32 x] H K := by
  rw [impl_finite_vc]
  simp only [T_impl_IsFinite]
  unfold T_impl_finite p_impl_finite at h
  repeat' (first | exact h | (exfalso; simp_all; done) | (refine ⟨by decide, ?_⟩) | (refine Br.intro (fun hb => ?_) (fun hb => ?_) <;> (try simp only [hb, cond_true, cond_false, Bool.not_true, Bool.not_false] at h)))
theorem impl_finite_ok : FnOk Try.prog 65 S_impl_finite := by
  refine FnOk.body mix_ok E_impl_finite_ok Try.func65 rfl (by kernel_rfl) (by kernel_rfl) ?_ ?_ ?_ ?_ ?_
  · intro args H K K' h hk
    simp only [S_impl_finite] at *
    unfold F_impl_finite at *
    split at hk
    · have k := hk
      exact h _ _ k
    · exact hk.elim
  · intro _ args H K hk
    simp only [S_impl_finite] at *
    unfold F_impl_finite at *
    split at hk
    · have k := hk
      exact ⟨_, k, fun K' k' => k'⟩
    · exact hk.elim
  · intro args H K hk
    simp only [S_impl_finite] at *
    unfold F_impl_finite at *
    split at hk
    · have k := hk
      exact ⟨_, _, k⟩
    · exact hk.elim
  · intro hq; cases hq
  · have mm := @impl_finite_main
    revert mm
    generalize bodyK Try.prog E_impl_finite Try.f65 = Q
    intro mm args H K hk
    simp only [S_impl_finite] at *
    unfold F_impl_finite at *
    split at hk
    · exact mm _ H K hk
    · exact hk.elim
def p_impl_PlainLimit (noise : Nat) (count : Int) : Nat × Bool := (bif !(p_impl_isLeast noise) then (0, false) else (bif !((p_impl_within count (1 : Int) (128 : Int))) then (0, false) else ((p_impl_finite (fmul .f32 noise ((p_impl_RootNumber (fmul .f32 1073741824 ((p_impl_LogNumber (FloatKind.nearest .f32 count)))))))).1, (p_impl_finite (fmul .f32 noise ((p_impl_RootNumber (fmul .f32 1073741824 ((p_impl_LogNumber (FloatKind.nearest .f32 count)))))))).2)))
theorem p_impl_PlainLimit_eq (noise : Nat) (count : Int) : p_impl_PlainLimit noise count = (bif !(p_impl_isLeast noise) then (0, false) else (bif !((p_impl_within count (1 : Int) (128 : Int))) then (0, false) else ((p_impl_finite (fmul .f32 noise ((p_impl_RootNumber (fmul .f32 1073741824 ((p_impl_LogNumber (FloatKind.nearest .f32 count)))))))).1, (p_impl_finite (fmul .f32 noise ((p_impl_RootNumber (fmul .f32 1073741824 ((p_impl_LogNumber (FloatKind.nearest .f32 count)))))))).2))) := rfl
def T_impl_PlainLimit (noise : Nat) (count : Int) (H : AHeap) (K : Nat → Bool → AHeap → Prop) : Prop := K ((p_impl_PlainLimit noise count).1) ((p_impl_PlainLimit noise count).2) H
theorem T_impl_PlainLimit_i {noise : Nat} {count : Int} {H : AHeap} {K : Nat → Bool → AHeap → Prop} (h : K ((p_impl_PlainLimit noise count).1) ((p_impl_PlainLimit noise count).2) H) : T_impl_PlainLimit noise count H K := h

/-! impl_PlainLimit: function 32 -/
def E_impl_PlainLimit : Env := envOf [(77, S_impl_isLeast), (72, S_impl_within), (83, S_impl_LogNumber), (82, S_impl_RootNumber), (65, S_impl_finite)]
def F_impl_PlainLimit : List Value → AHeap → (Value → AHeap → Prop) → Prop
  | [.float .f32 noise, .int .i64 count], H, K => T_impl_PlainLimit noise count H fun (r1 : Nat) (r2 : Bool) (H' : AHeap) => K (.tuple #[.float .f32 r1, .bool r2]) H'
  | _, _, _ => False
def S_impl_PlainLimit : FSpec := { F := F_impl_PlainLimit, quiet := true, tame := false }
theorem impl_PlainLimit_vc (noise : Nat) (count : Int) (H : AHeap) (K : Value → AHeap → Prop) : bodyK Try.prog E_impl_PlainLimit Try.f32 [.float .f32 noise, .int .i64 count] H K =
  (T_impl_isLeast noise H fun (r1 : Bool) (H1 : AHeap) => Br (!r1) (K (.tuple #[.float .f32 0, .bool false]) H1) (T_impl_within count 1 128 H1 fun (r2 : Bool) (H2 : AHeap) => Br (!r2) (K (.tuple #[.float .f32 0, .bool false]) H2) (T_impl_LogNumber (FloatKind.nearest .f32 count) H2 fun (r3 : Nat) (H3 : AHeap) => T_impl_RootNumber (fmul .f32 1073741824 r3) H3 fun (r4 : Nat) (H4 : AHeap) => T_impl_finite (fmul .f32 noise r4) H4 fun (r5 : Nat) (r6 : Bool) (H5 : AHeap) => K (.tuple #[.float .f32 r5, .bool r6]) H5))) := by kernel_rfl
theorem E_impl_PlainLimit_ok : ∀ g, FnOk Try.prog g (E_impl_PlainLimit g) := FnOk.envOf (by
  intro x hx
  simp only [List.mem_cons, List.not_mem_nil, or_false] at hx
  rcases hx with rfl | rfl | rfl | rfl | rfl
  · exact impl_isLeast_ok
  · exact impl_within_ok
  · exact impl_LogNumber_ok
  · exact impl_RootNumber_ok
  · exact impl_finite_ok)
set_option maxHeartbeats 1000000 in
theorem impl_PlainLimit_main (noise : Nat) (count : Int) (H : AHeap) (K : Value → AHeap → Prop) (h : T_impl_PlainLimit noise count H fun (r1 : Nat) (r2 : Bool) (H' : AHeap) => K (.tuple #[.float .f32 r1, .bool r2]) H') : bodyK Try.prog E_impl_PlainLimit Try.f32 [.float .f32 noise, .int .i64 count] H K := by
  rw [impl_PlainLimit_vc]
  have hk := h
  unfold T_impl_PlainLimit at hk
  have e : (p_impl_PlainLimit noise count) = _ := rfl
  have e := e.trans (p_impl_PlainLimit_eq noise count)
  have g0 := Grow.refl H
  refine T_impl_isLeast_i ?_
  refine Br.intro (fun c_1 => ?_) (fun c_1 => ?_)
  · have e := e.trans (cond_t c_1)
    have c_1n := nf_of_t c_1
    rw [e] at hk
    exact hk
  · have e := e.trans (cond_f c_1)
    have c_1n := nt_of_f c_1
    refine T_impl_within_i ?_
    refine Br.intro (fun c_2 => ?_) (fun c_2 => ?_)
    · have e := e.trans (cond_t c_2)
      have c_2n := nf_of_t c_2
      rw [e] at hk
      exact hk
    · have e := e.trans (cond_f c_2)
      have c_2n := nt_of_f c_2
      have c_2n' := impl_within_t c_2n
      refine T_impl_LogNumber_i ?_
      refine T_impl_RootNumber_i ?_
      refine T_impl_finite_i ?_
      rw [e] at hk
      exact hk
theorem impl_PlainLimit_ok : FnOk Try.prog 32 S_impl_PlainLimit := by
  refine FnOk.body mix_ok E_impl_PlainLimit_ok Try.func32 rfl (by kernel_rfl) (by kernel_rfl) ?_ ?_ ?_ ?_ ?_
  · intro args H K K' h hk
    simp only [S_impl_PlainLimit] at *
    unfold F_impl_PlainLimit at *
    split at hk
    · have k := hk
      exact h _ _ k
    · exact hk.elim
  · intro _ args H K hk
    simp only [S_impl_PlainLimit] at *
    unfold F_impl_PlainLimit at *
    split at hk
    · have k := hk
      exact ⟨_, k, fun K' k' => k'⟩
    · exact hk.elim
  · intro args H K hk
    simp only [S_impl_PlainLimit] at *
    unfold F_impl_PlainLimit at *
    split at hk
    · have k := hk
      exact ⟨_, _, k⟩
    · exact hk.elim
  · intro hq; cases hq
  · have mm := @impl_PlainLimit_main
    revert mm
    generalize bodyK Try.prog E_impl_PlainLimit Try.f32 = Q
    intro mm args H K hk
    simp only [S_impl_PlainLimit] at *
    unfold F_impl_PlainLimit at *
    split at hk
    · exact mm _ _ H K hk
    · exact hk.elim
def p_laws_sameFloat (a : Nat) (b : Nat) : Bool := ((bif !(feq .f64 a a) then (bif !(feq .f64 a a) then !(feq .f64 b b) else false) else (bif !(feq .f64 b b) then (bif !(feq .f64 a a) then !(feq .f64 b b) else false) else (bif feq .f64 a 0 then (bif feq .f64 b 0 then (flt .f64 0 (fdiv .f64 4607182418800017408 a)) == (flt .f64 0 (fdiv .f64 4607182418800017408 b)) else feq .f64 a b) else feq .f64 a b))))
theorem p_laws_sameFloat_eq (a : Nat) (b : Nat) : p_laws_sameFloat a b = ((bif !(feq .f64 a a) then (bif !(feq .f64 a a) then !(feq .f64 b b) else false) else (bif !(feq .f64 b b) then (bif !(feq .f64 a a) then !(feq .f64 b b) else false) else (bif feq .f64 a 0 then (bif feq .f64 b 0 then (flt .f64 0 (fdiv .f64 4607182418800017408 a)) == (flt .f64 0 (fdiv .f64 4607182418800017408 b)) else feq .f64 a b) else feq .f64 a b)))) := rfl
def T_laws_sameFloat (a : Nat) (b : Nat) (H : AHeap) (K : Bool → AHeap → Prop) : Prop := K (p_laws_sameFloat a b) H

theorem T_laws_sameFloat_i {a : Nat} {b : Nat} {H : AHeap} {K : Bool → AHeap → Prop} (h : K (p_laws_sameFloat a b) H) : T_laws_sameFloat a b H K := h
/-! laws_sameFloat: function 18 -/
def E_laws_sameFloat : Env := envOf []
def F_laws_sameFloat : List Value → AHeap → (Value → AHeap → Prop) → Prop
  | [.float .f64 a, .float .f64 b], H, K => T_laws_sameFloat a b H fun (r1 : Bool) (H' : AHeap) => K (.bool r1) H'
  | _, _, _ => False
def S_laws_sameFloat : FSpec := { F := F_laws_sameFloat, quiet := true, tame := false }
theorem laws_sameFloat_vc (a : Nat) (b : Nat) (H : AHeap) (K : Value → AHeap → Prop) : bodyK Try.prog E_laws_sameFloat Try.f18 [.float .f64 a, .float .f64 b] H K =
  (Br (!(feq .f64 a a)) (Br (!(feq .f64 a a)) (K (.bool (!(feq .f64 b b))) H) (K (.bool false) H)) (Br (!(feq .f64 b b)) (Br (!(feq .f64 a a)) (K (.bool (!(feq .f64 b b))) H) (K (.bool false) H)) (Br (feq .f64 a 0) (Br (feq .f64 b 0) (K (.bool ((flt .f64 0 (fdiv .f64 4607182418800017408 a)) == (flt .f64 0 (fdiv .f64 4607182418800017408 b)))) H) (K (.bool (feq .f64 a b)) H)) (K (.bool (feq .f64 a b)) H)))) := by kernel_rfl
theorem E_laws_sameFloat_ok : ∀ g, FnOk Try.prog g (E_laws_sameFloat g) := FnOk.envOf (by
  intro x hx; cases hx)
set_option maxHeartbeats 1000000 in
theorem laws_sameFloat_main (a : Nat) (b : Nat) (H : AHeap) (K : Value → AHeap → Prop) (h : T_laws_sameFloat a b H fun (r1 : Bool) (H' : AHeap) => K (.bool r1) H') : bodyK Try.prog E_laws_sameFloat Try.f18 [.float .f64 a, .float .f64 b] H K := by
  rw [laws_sameFloat_vc]
  unfold T_laws_sameFloat p_laws_sameFloat at h
  repeat' (first | exact h | (exfalso; simp_all; done) | (refine ⟨by decide, ?_⟩) | (refine Br.intro (fun hb => ?_) (fun hb => ?_) <;> (try simp only [hb, cond_true, cond_false, Bool.not_true, Bool.not_false] at h)))
theorem laws_sameFloat_ok : FnOk Try.prog 18 S_laws_sameFloat := by
  refine FnOk.body mix_ok E_laws_sameFloat_ok Try.func18 rfl (by kernel_rfl) (by kernel_rfl) ?_ ?_ ?_ ?_ ?_
  · intro args H K K' h hk
    simp only [S_laws_sameFloat] at *
    unfold F_laws_sameFloat at *
    split at hk
    · have k := hk
      exact h _ _ k
    · exact hk.elim
  · intro _ args H K hk
    simp only [S_laws_sameFloat] at *
    unfold F_laws_sameFloat at *
    split at hk
    · have k := hk
      exact ⟨_, k, fun K' k' => k'⟩
    · exact hk.elim
  · intro args H K hk
    simp only [S_laws_sameFloat] at *
    unfold F_laws_sameFloat at *
    split at hk
    · have k := hk
      exact ⟨_, _, k⟩
    · exact hk.elim
  · intro hq; cases hq
  · have mm := @laws_sameFloat_main
    revert mm
    generalize bodyK Try.prog E_laws_sameFloat Try.f18 = Q
    intro mm args H K hk
    simp only [S_laws_sameFloat] at *
    unfold F_laws_sameFloat at *
    split at hk
    · exact mm _ _ H K hk
    · exact hk.elim
def p_laws_FnExactPlainLimit (aNoise : Nat) (aCount : Int) : Bool := ((bif !((p_laws_sameFloat (fwide ((p_impl_PlainLimit aNoise aCount).1)) (fwide ((p_spec_PlainLimit aNoise aCount).1)))) then false else (bif !(((p_impl_PlainLimit aNoise aCount).2) == ((p_spec_PlainLimit aNoise aCount).2)) then false else true)))
theorem p_laws_FnExactPlainLimit_eq (aNoise : Nat) (aCount : Int) : p_laws_FnExactPlainLimit aNoise aCount = ((bif !((p_laws_sameFloat (fwide ((p_impl_PlainLimit aNoise aCount).1)) (fwide ((p_spec_PlainLimit aNoise aCount).1)))) then false else (bif !(((p_impl_PlainLimit aNoise aCount).2) == ((p_spec_PlainLimit aNoise aCount).2)) then false else true))) := rfl
def T_laws_FnExactPlainLimit (aNoise : Nat) (aCount : Int) (H : AHeap) (K : Bool → AHeap → Prop) : Prop := W32 aNoise ∧ I64 aCount ∧ ∀ H' : AHeap, K true H'
theorem spec_fin (x : Nat) : p_spec_l01Finite x = fin .f32 x := fin_asked x
theorem impl_fin (x : Nat) : p_impl_IsFinite x = fin .f32 x := fin_asked x
theorem w32_wd {x : Nat} (h : W32 x) : Wd .f32 x := ⟨h.1, h.2⟩
theorem wd_w32 {x : Nat} (h : Wd .f32 x) : W32 x := ⟨h.1, h.2⟩
theorem laws_sameFloat_self (y : Nat) : p_laws_sameFloat y y = true := by
  rw [p_laws_sameFloat_eq]
  cases feq .f64 y y <;> simp
theorem log_l3_eq {x x_0 ve x' ve_3 : Nat} {y y_0 : Nat} {we we_3 : Int} {Ki : Nat → Nat → Nat} {Ks : Nat → Int → Nat} (hK : ∀ q k n, Ki q k = Ks q n) :
    ∀ (μ ν : Nat) (n : Int) (q : Nat), n < μ → n < ν → 0 < μ → 0 < ν → n ≤ 25 → -1 ≤ n → p_impl_naturalLog_l3 x x_0 ve x' ve_3 Ki μ q (FloatKind.nearest .f64 n) = p_spec_l01LogWide_l3 y y_0 we x' we_3 Ks ν q n := by
  intro μ
  induction μ with
  | zero => intro ν n q _ _ h _ _ _; exact absurd h (Nat.lt_irrefl 0)
  | succ μ ih =>
    intro ν n q hm hv _ hv0 hn hn1
    obtain ⟨ν, rfl⟩ : ∃ j, ν = j + 1 := ⟨ν - 1, by omega⟩
    rw [p_impl_naturalLog_l3_s, p_spec_l01LogWide_l3_s]
    have hc := cnt_at (n := n) (by omega) (by omega)
    rw [hc.2.1]
    by_cases h : (1 : Int) ≤ n
    · rw [decide_eq_true h, cond_true, cond_true, hc.2.2.2]
      exact ih ν (n - 2) _ (by omega) (by omega) (by omega) (by omega) (by omega) (by omega)
    · rw [decide_eq_false h, cond_false, cond_false]
      exact hK _ _ _
theorem log_l2_eq {x x_0 ve : Nat} {y y_0 : Nat} {we : Int} {Ki : Nat → Nat → Nat} {Ks : Nat → Int → Nat} (hK : ∀ x' (e : Int), Ki x' (FloatKind.nearest .f64 e) = Ks x' e) :
    ∀ (μ : Nat) (x' : Nat) (e : Int), 4503599627370496 ≤ x' → x' < 4609434218613702656 → (4609434218613702656 : Int) - x' ≤ (e + 3000) * 4503599627370496 → e ≤ 2100 →
      p_impl_naturalLog_l2 x x_0 ve Ki μ x' (FloatKind.nearest .f64 e) = p_spec_l01LogWide_l2 y y_0 we Ks μ x' e := by
  intro μ
  induction μ with
  | zero => intro x' e _ _ _ _; unfold p_impl_naturalLog_l2 p_spec_l01LogWide_l2; rfl
  | succ μ ih =>
    intro x' e h0 h1 h2 h3
    rw [p_impl_naturalLog_l2_s, p_spec_l01LogWide_l2_s]
    cases hc : flt .f64 x' 4604930618986332160 with
    | true =>
      have := twice_step h0 (by omega) hc
      rw [cond_true, cond_true, near_down (by omega), wrap64 (n := e - 1) (by omega) (by omega), this.1]
      exact ih _ _ (by omega) (by omega) (by omega) (by omega)
    | false =>
      rw [cond_false, cond_false]
      exact hK _ _
theorem log_l1_eq {x : Nat} :
    ∀ (μ : Nat) (x_0 : Nat) (e : Int), 4503599627370496 ≤ x_0 → x_0 < 9218868437227405312 → e * 4503599627370496 + x_0 ≤ 9218868437227405312 → 0 ≤ e →
      p_impl_naturalLog_l1 x μ x_0 (FloatKind.nearest .f64 e) = p_spec_l01LogWide_l1 x μ x_0 e := by
  intro μ
  induction μ with
  | zero => intro x_0 e _ _ _ _; unfold p_impl_naturalLog_l1 p_spec_l01LogWide_l1; rfl
  | succ μ ih =>
    intro x_0 e h0 h1 h2 h3
    rw [p_impl_naturalLog_l1_s, p_spec_l01LogWide_l1_s]
    cases hc : fle .f64 4609434218613702656 x_0 with
    | true =>
      have := half_step h0 h1 hc
      rw [cond_true, cond_true, near_up (by omega), wrap64 (n := e + 1) (by omega) (by omega), this.1]
      exact ih _ _ (by omega) (by omega) (by omega) (by omega)
    | false =>
      rw [cond_false, cond_false]
      rw [pos_le (by decide) (by decide) h0 h1] at hc
      have := of_decide_eq_false hc
      refine log_l2_eq ?_ _ _ _ h0 (by omega) (by omega) (by omega)
      intro x' e'
      have e25 : (4627730092099895296 : Nat) = FloatKind.nearest .f64 25 := by decide +kernel
      have c25 : cnt 4627730092099895296 = 25 := by rw [e25]; exact (cnt_at (n := 25) (by decide) (by decide)).1
      rw [c25, e25]
      refine log_l3_eq ?_ _ _ 25 0 ?_ ?_ ?_ ?_ (by decide) (by decide)
      · intro q k n; rfl
      · decide
      · decide
      · decide
      · decide
theorem log_wide_eq {x : Nat} (h0 : 4503599627370496 ≤ x) (h1 : x < 9218868437227405312) : p_impl_naturalLog x = p_spec_l01LogWide_l1 x (Int.toNat ((x : Int)) + 1) x (0 : Int) := by
  have g := log_l1_eq (x := x) (Int.toNat ((x : Int)) + 1) x 0 h0 h1 (by omega) (by decide)
  rw [show FloatKind.nearest .f64 0 = 0 by decide +kernel] at g
  rw [p_impl_naturalLog_eq]
  exact g
theorem log_at_zero : p_impl_LogNumber 0 = p_spec_l01Log 0 := by decide +kernel
theorem log_at_nzero : p_impl_LogNumber 2147483648 = p_spec_l01Log 2147483648 := by decide +kernel
theorem log_at_inf : p_impl_LogNumber 2139095040 = p_spec_l01Log 2139095040 := by decide +kernel
theorem log_at_ninf : p_impl_LogNumber 4286578688 = p_spec_l01Log 4286578688 := by decide +kernel
theorem log_at_nan : p_impl_LogNumber (qnan .f32) = p_spec_l01Log (qnan .f32) := by decide +kernel
theorem log_eq {x : Nat} (h : Wd .f32 x) : p_impl_LogNumber x = p_spec_l01Log x := by
  rcases h.cases with hf | rfl | rfl | rfl
  · cases h0 : feq .f32 x 0 with
    | true =>
      rw [feq_fin hf (fin_zero _), sv_zero] at h0
      rcases zero_of_sv h.1 hf (of_decide_eq_true h0) with rfl | rfl
      · exact log_at_zero
      · exact log_at_nzero
    | false =>
      have w0 := wide_feq hf
      have w1 := wide_flt hf
      rw [p_impl_LogNumber_eq, p_spec_l01Log_eq, p_spec_l01LogWide_eq, wide_self hf, w0, w1, h0, Bool.not_true, cond_false, cond_false, cond_false]
      cases h1 : flt .f32 x 0 with
      | true => rw [cond_true, cond_true]; rfl
      | false =>
        have hp := log_pre' h0 h1 hf
        have hi : p_math_IsInf (fwide x) 1 = false := by
          show flt .f64 9218868437227405311 (fwide x) = false
          rw [pos_lt (by decide) (by decide) hp.1 hp.2]
          exact decide_eq_false (by omega)
        have hi2 : p_impl_IsFinite x = true := (fin_asked x).trans hf
        rw [cond_false, cond_false, hi, cond_false, feq_self (fin_nn hf), hi2, Bool.not_true, cond_false, cond_false, ← log_wide_eq hp.1 hp.2]
        rfl
  · exact log_at_inf
  · exact log_at_ninf
  · exact log_at_nan
theorem sqrt_eq (x : Nat) : p_impl_RootNumber x = p_spec_l01Sqrt x := rfl
theorem plainLimit_eq (aNoise : Nat) (aCount : Int) (q0 : W32 aNoise) : p_impl_PlainLimit aNoise aCount = p_spec_PlainLimit aNoise aCount := by
  rw [p_impl_PlainLimit_eq, p_spec_PlainLimit_eq, log_eq (Wd.nearest .f32 aCount), sqrt_eq]
  rfl
theorem laws_FnExactPlainLimit_true (aNoise : Nat) (aCount : Int) (q0 : W32 aNoise) (q1 : I64 aCount) : p_laws_FnExactPlainLimit aNoise aCount = true := by
  rw [p_laws_FnExactPlainLimit_eq, plainLimit_eq aNoise aCount q0]
  rw [laws_sameFloat_self, beq_self_eq_true]
  rfl
/-! laws_FnExactPlainLimit: function 7 -/
def E_laws_FnExactPlainLimit : Env := envOf [(31, S_spec_PlainLimit), (32, S_impl_PlainLimit), (18, S_laws_sameFloat)]
def F_laws_FnExactPlainLimit : List Value → AHeap → (Value → AHeap → Prop) → Prop
  | [.float .f32 aNoise, .int .i64 aCount], H, K => T_laws_FnExactPlainLimit aNoise aCount H fun (r1 : Bool) (H' : AHeap) => K (.bool r1) H'
  | _, _, _ => False
def S_laws_FnExactPlainLimit : FSpec := { F := F_laws_FnExactPlainLimit, quiet := false, tame := false }
theorem laws_FnExactPlainLimit_vc (aNoise : Nat) (aCount : Int) (H : AHeap) (K : Value → AHeap → Prop) : bodyK Try.prog E_laws_FnExactPlainLimit Try.f7 [.float .f32 aNoise, .int .i64 aCount] H K =
  (T_spec_PlainLimit aNoise aCount H fun (r1 : Nat) (r2 : Bool) (H1 : AHeap) => T_impl_PlainLimit aNoise aCount H1 fun (r3 : Nat) (r4 : Bool) (H2 : AHeap) => T_laws_sameFloat (fwide r3) (fwide r1) H2 fun (r5 : Bool) (H3 : AHeap) => Br (!r5) (K (.bool false) H3) (Br (!(r4 == r2)) (K (.bool false) H3) (K (.bool true) H3))) := by kernel_rfl
theorem E_laws_FnExactPlainLimit_ok : ∀ g, FnOk Try.prog g (E_laws_FnExactPlainLimit g) := FnOk.envOf (by
  intro x hx
  simp only [List.mem_cons, List.not_mem_nil, or_false] at hx
  rcases hx with rfl | rfl | rfl
  · exact spec_PlainLimit_ok
  · exact impl_PlainLimit_ok
  · exact laws_sameFloat_ok)
set_option maxHeartbeats 1000000 in
theorem laws_FnExactPlainLimit_main (aNoise : Nat) (aCount : Int) (H : AHeap) (K : Value → AHeap → Prop) (h : T_laws_FnExactPlainLimit aNoise aCount H fun (r1 : Bool) (H' : AHeap) => K (.bool r1) H') : bodyK Try.prog E_laws_FnExactPlainLimit Try.f7 [.float .f32 aNoise, .int .i64 aCount] H K := by
  rw [laws_FnExactPlainLimit_vc]
  obtain ⟨h_0, h_1, hk⟩ := h
  have hl := laws_FnExactPlainLimit_true aNoise aCount h_0 h_1
  have e : p_laws_FnExactPlainLimit aNoise aCount = _ := rfl
  have e := e.trans (p_laws_FnExactPlainLimit_eq aNoise aCount)
  have e := hl.symm.trans e
  have g0 := Grow.refl H
  refine T_spec_PlainLimit_i ?_
  refine T_impl_PlainLimit_i ?_
  refine T_laws_sameFloat_i ?_
  refine Br.intro (fun c_1 => ?_) (fun c_1 => ?_)
  · have e := e.trans (cond_t c_1)
    have c_1n := nf_of_t c_1
    first | exact hk _ | (exfalso; cases e; done) | (rw [← e]; exact hk _)
  · have e := e.trans (cond_f c_1)
    have c_1n := nt_of_f c_1
    refine Br.intro (fun c_2 => ?_) (fun c_2 => ?_)
    · have e := e.trans (cond_t c_2)
      have c_2n := nf_of_t c_2
      first | exact hk _ | (exfalso; cases e; done) | (rw [← e]; exact hk _)
    · have e := e.trans (cond_f c_2)
      have c_2n := nt_of_f c_2
      first | exact hk _ | (exfalso; cases e; done) | (rw [← e]; exact hk _)
theorem laws_FnExactPlainLimit_ok : FnOk Try.prog 7 S_laws_FnExactPlainLimit := by
  refine FnOk.body mix_ok E_laws_FnExactPlainLimit_ok Try.func7 rfl (by kernel_rfl) (by kernel_rfl) ?_ ?_ ?_ ?_ ?_
  · intro args H K K' h hk
    simp only [S_laws_FnExactPlainLimit] at *
    unfold F_laws_FnExactPlainLimit at *
    split at hk
    · obtain ⟨h_0, h_1, k⟩ := hk
      exact ⟨h_0, h_1, (fun H' => h _ _ (k H'))⟩
    · exact hk.elim
  · intro hq; cases hq
  · intro args H K hk
    simp only [S_laws_FnExactPlainLimit] at *
    unfold F_laws_FnExactPlainLimit at *
    split at hk
    · obtain ⟨h_0, h_1, k⟩ := hk
      exact ⟨_, _, k []⟩
    · exact hk.elim
  · intro hq; cases hq
  · have mm := @laws_FnExactPlainLimit_main
    revert mm
    generalize bodyK Try.prog E_laws_FnExactPlainLimit Try.f7 = Q
    intro mm args H K hk
    simp only [S_laws_FnExactPlainLimit] at *
    unfold F_laws_FnExactPlainLimit at *
    split at hk
    · exact mm _ _ H K hk
    · exact hk.elim
end Go.Proofs.Ytghkkclonabpkaa.Ai
