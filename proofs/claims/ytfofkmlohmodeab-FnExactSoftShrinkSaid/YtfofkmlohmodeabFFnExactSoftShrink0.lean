/- What functions of the program come to on the abstract machine, and that they do so; printed by a program of mine around proofs of mine. -/
import Derived.Test.YtfofkmlohmodeabProg
import Derived.Test.YtfofkmlohmodeabLibA
import Derived.Test.YtfofkmlohmodeabOpen
import Derived.Test.YtfofkmlohmodeabLibB
import Derived.Test.YtfofkmlohmodeabFl
set_option linter.unusedVariables false
set_option linter.unusedSimpArgs false
set_option maxRecDepth 100000
namespace Go.Proofs.Ytfofkmlohmodeab.Ai
open Go
attribute [local irreducible] bodyK
theorem mix_ok : Try.prog.follows .mixedOrders = true := by kernel_rfl
def p_spec_l01Finite (x : Nat) : Bool := feq .f32 (fsub .f32 x x) 0
theorem p_spec_l01Finite_eq (x : Nat) : p_spec_l01Finite x = feq .f32 (fsub .f32 x x) 0 := rfl
def T_spec_l01Finite (x : Nat) (H : AHeap) (K : Bool → AHeap → Prop) : Prop := K (p_spec_l01Finite x) H

theorem T_spec_l01Finite_i {x : Nat} {H : AHeap} {K : Bool → AHeap → Prop} (h : K (p_spec_l01Finite x) H) : T_spec_l01Finite x H K := h
/-! spec_l01Finite: function 56 -/
def E_spec_l01Finite : Env := envOf []
def F_spec_l01Finite : List Value → AHeap → (Value → AHeap → Prop) → Prop
  | [.float .f32 x], H, K => T_spec_l01Finite x H fun (r1 : Bool) (H' : AHeap) => K (.bool r1) H'
  | _, _, _ => False
def S_spec_l01Finite : FSpec := { F := F_spec_l01Finite, quiet := true, tame := false }
theorem spec_l01Finite_vc (x : Nat) (H : AHeap) (K : Value → AHeap → Prop) : bodyK Try.prog E_spec_l01Finite Try.f56 [.float .f32 x] H K =
  (K (.bool (feq .f32 (fsub .f32 x x) 0)) H) := by kernel_rfl
theorem E_spec_l01Finite_ok : ∀ g, FnOk Try.prog g (E_spec_l01Finite g) := FnOk.envOf (by
  intro x hx; cases hx)
set_option maxHeartbeats 1000000 in
theorem spec_l01Finite_main (x : Nat) (H : AHeap) (K : Value → AHeap → Prop) (h : T_spec_l01Finite x H fun (r1 : Bool) (H' : AHeap) => K (.bool r1) H') : bodyK Try.prog E_spec_l01Finite Try.f56 [.float .f32 x] H K := by
  rw [spec_l01Finite_vc]
  unfold T_spec_l01Finite p_spec_l01Finite at h
  repeat' (first | exact h | (exfalso; simp_all; done) | (refine ⟨by decide, ?_⟩) | (refine Br.intro (fun hb => ?_) (fun hb => ?_) <;> (try simp only [hb, cond_true, cond_false, Bool.not_true, Bool.not_false] at h)))
theorem spec_l01Finite_ok : FnOk Try.prog 56 S_spec_l01Finite := by
  refine FnOk.body mix_ok E_spec_l01Finite_ok Try.func56 rfl (by kernel_rfl) (by kernel_rfl) ?_ ?_ ?_ ?_ ?_
  · intro args H K K' h hk
    simp only [S_spec_l01Finite] at *
    unfold F_spec_l01Finite at *
    split at hk
    · have k := hk
      exact h _ _ k
    · exact hk.elim
  · intro _ args H K hk
    simp only [S_spec_l01Finite] at *
    unfold F_spec_l01Finite at *
    split at hk
    · have k := hk
      exact ⟨_, k, fun K' k' => k'⟩
    · exact hk.elim
  · intro args H K hk
    simp only [S_spec_l01Finite] at *
    unfold F_spec_l01Finite at *
    split at hk
    · have k := hk
      exact ⟨_, _, k⟩
    · exact hk.elim
  · intro hq; cases hq
  · have mm := @spec_l01Finite_main
    revert mm
    generalize bodyK Try.prog E_spec_l01Finite Try.f56 = Q
    intro mm args H K hk
    simp only [S_spec_l01Finite] at *
    unfold F_spec_l01Finite at *
    split at hk
    · exact mm _ H K hk
    · exact hk.elim
def p_spec_l02Least (x : Nat) : Bool := (bif (p_spec_l01Finite x) then fle .f32 0 x else false)
theorem p_spec_l02Least_eq (x : Nat) : p_spec_l02Least x = (bif (p_spec_l01Finite x) then fle .f32 0 x else false) := rfl
def T_spec_l02Least (x : Nat) (H : AHeap) (K : Bool → AHeap → Prop) : Prop := K (p_spec_l02Least x) H

theorem T_spec_l02Least_i {x : Nat} {H : AHeap} {K : Bool → AHeap → Prop} (h : K (p_spec_l02Least x) H) : T_spec_l02Least x H K := h
/-! spec_l02Least: function 57 -/
def E_spec_l02Least : Env := envOf [(56, S_spec_l01Finite)]
def F_spec_l02Least : List Value → AHeap → (Value → AHeap → Prop) → Prop
  | [.float .f32 x], H, K => T_spec_l02Least x H fun (r1 : Bool) (H' : AHeap) => K (.bool r1) H'
  | _, _, _ => False
def S_spec_l02Least : FSpec := { F := F_spec_l02Least, quiet := true, tame := false }
theorem spec_l02Least_vc (x : Nat) (H : AHeap) (K : Value → AHeap → Prop) : bodyK Try.prog E_spec_l02Least Try.f57 [.float .f32 x] H K =
  (T_spec_l01Finite x H fun (r1 : Bool) (H1 : AHeap) => Br r1 (K (.bool (fle .f32 0 x)) H1) (K (.bool false) H1)) := by kernel_rfl
theorem E_spec_l02Least_ok : ∀ g, FnOk Try.prog g (E_spec_l02Least g) := FnOk.envOf (by
  intro x hx
  simp only [List.mem_cons, List.not_mem_nil, or_false] at hx
  subst hx; exact spec_l01Finite_ok)
set_option maxHeartbeats 1000000 in
theorem spec_l02Least_main (x : Nat) (H : AHeap) (K : Value → AHeap → Prop) (h : T_spec_l02Least x H fun (r1 : Bool) (H' : AHeap) => K (.bool r1) H') : bodyK Try.prog E_spec_l02Least Try.f57 [.float .f32 x] H K := by
  rw [spec_l02Least_vc]
  simp only [T_spec_l01Finite]
  unfold T_spec_l02Least p_spec_l02Least at h
  repeat' (first | exact h | (exfalso; simp_all; done) | (refine ⟨by decide, ?_⟩) | (refine Br.intro (fun hb => ?_) (fun hb => ?_) <;> (try simp only [hb, cond_true, cond_false, Bool.not_true, Bool.not_false] at h)))
theorem spec_l02Least_ok : FnOk Try.prog 57 S_spec_l02Least := by
  refine FnOk.body mix_ok E_spec_l02Least_ok Try.func57 rfl (by kernel_rfl) (by kernel_rfl) ?_ ?_ ?_ ?_ ?_
  · intro args H K K' h hk
    simp only [S_spec_l02Least] at *
    unfold F_spec_l02Least at *
    split at hk
    · have k := hk
      exact h _ _ k
    · exact hk.elim
  · intro _ args H K hk
    simp only [S_spec_l02Least] at *
    unfold F_spec_l02Least at *
    split at hk
    · have k := hk
      exact ⟨_, k, fun K' k' => k'⟩
    · exact hk.elim
  · intro args H K hk
    simp only [S_spec_l02Least] at *
    unfold F_spec_l02Least at *
    split at hk
    · have k := hk
      exact ⟨_, _, k⟩
    · exact hk.elim
  · intro hq; cases hq
  · have mm := @spec_l02Least_main
    revert mm
    generalize bodyK Try.prog E_spec_l02Least Try.f57 = Q
    intro mm args H K hk
    simp only [S_spec_l02Least] at *
    unfold F_spec_l02Least at *
    split at hk
    · exact mm _ H K hk
    · exact hk.elim
def p_spec_l03Size (x : Nat) : Nat := (bif fle .f32 x 0 then fsub .f32 0 x else x)
theorem p_spec_l03Size_eq (x : Nat) : p_spec_l03Size x = (bif fle .f32 x 0 then fsub .f32 0 x else x) := rfl
def T_spec_l03Size (x : Nat) (H : AHeap) (K : Nat → AHeap → Prop) : Prop := K (p_spec_l03Size x) H

theorem T_spec_l03Size_i {x : Nat} {H : AHeap} {K : Nat → AHeap → Prop} (h : K (p_spec_l03Size x) H) : T_spec_l03Size x H K := h
/-! spec_l03Size: function 78 -/
def E_spec_l03Size : Env := envOf []
def F_spec_l03Size : List Value → AHeap → (Value → AHeap → Prop) → Prop
  | [.float .f32 x], H, K => T_spec_l03Size x H fun (r1 : Nat) (H' : AHeap) => K (.float .f32 r1) H'
  | _, _, _ => False
def S_spec_l03Size : FSpec := { F := F_spec_l03Size, quiet := true, tame := false }
theorem spec_l03Size_vc (x : Nat) (H : AHeap) (K : Value → AHeap → Prop) : bodyK Try.prog E_spec_l03Size Try.f78 [.float .f32 x] H K =
  (Br (fle .f32 x 0) (K (.float .f32 (fsub .f32 0 x)) H) (K (.float .f32 x) H)) := by kernel_rfl
theorem E_spec_l03Size_ok : ∀ g, FnOk Try.prog g (E_spec_l03Size g) := FnOk.envOf (by
  intro x hx; cases hx)
set_option maxHeartbeats 1000000 in
theorem spec_l03Size_main (x : Nat) (H : AHeap) (K : Value → AHeap → Prop) (h : T_spec_l03Size x H fun (r1 : Nat) (H' : AHeap) => K (.float .f32 r1) H') : bodyK Try.prog E_spec_l03Size Try.f78 [.float .f32 x] H K := by
  rw [spec_l03Size_vc]
  unfold T_spec_l03Size p_spec_l03Size at h
  repeat' (first | exact h | (exfalso; simp_all; done) | (refine ⟨by decide, ?_⟩) | (refine Br.intro (fun hb => ?_) (fun hb => ?_) <;> (try simp only [hb, cond_true, cond_false, Bool.not_true, Bool.not_false] at h)))
theorem spec_l03Size_ok : FnOk Try.prog 78 S_spec_l03Size := by
  refine FnOk.body mix_ok E_spec_l03Size_ok Try.func78 rfl (by kernel_rfl) (by kernel_rfl) ?_ ?_ ?_ ?_ ?_
  · intro args H K K' h hk
    simp only [S_spec_l03Size] at *
    unfold F_spec_l03Size at *
    split at hk
    · have k := hk
      exact h _ _ k
    · exact hk.elim
  · intro _ args H K hk
    simp only [S_spec_l03Size] at *
    unfold F_spec_l03Size at *
    split at hk
    · have k := hk
      exact ⟨_, k, fun K' k' => k'⟩
    · exact hk.elim
  · intro args H K hk
    simp only [S_spec_l03Size] at *
    unfold F_spec_l03Size at *
    split at hk
    · have k := hk
      exact ⟨_, _, k⟩
    · exact hk.elim
  · intro hq; cases hq
  · have mm := @spec_l03Size_main
    revert mm
    generalize bodyK Try.prog E_spec_l03Size Try.f78 = Q
    intro mm args H K hk
    simp only [S_spec_l03Size] at *
    unfold F_spec_l03Size at *
    split at hk
    · exact mm _ H K hk
    · exact hk.elim
def p_spec_l05Shrink (x : Nat) (limit : Nat) (hard : Bool) : Nat := (bif !(flt .f32 limit (p_spec_l03Size x)) then 0 else (bif hard then x else (bif flt .f32 x 0 then fneg .f32 (fsub .f32 (p_spec_l03Size x) limit) else fsub .f32 (p_spec_l03Size x) limit)))
theorem p_spec_l05Shrink_eq (x : Nat) (limit : Nat) (hard : Bool) : p_spec_l05Shrink x limit hard = (bif !(flt .f32 limit (p_spec_l03Size x)) then 0 else (bif hard then x else (bif flt .f32 x 0 then fneg .f32 (fsub .f32 (p_spec_l03Size x) limit) else fsub .f32 (p_spec_l03Size x) limit))) := rfl
def T_spec_l05Shrink (x : Nat) (limit : Nat) (hard : Bool) (H : AHeap) (K : Nat → AHeap → Prop) : Prop := K (p_spec_l05Shrink x limit hard) H

theorem T_spec_l05Shrink_i {x : Nat} {limit : Nat} {hard : Bool} {H : AHeap} {K : Nat → AHeap → Prop} (h : K (p_spec_l05Shrink x limit hard) H) : T_spec_l05Shrink x limit hard H K := h
/-! spec_l05Shrink: function 58 -/
def E_spec_l05Shrink : Env := envOf [(78, S_spec_l03Size)]
def F_spec_l05Shrink : List Value → AHeap → (Value → AHeap → Prop) → Prop
  | [.float .f32 x, .float .f32 limit, .bool hard], H, K => T_spec_l05Shrink x limit hard H fun (r1 : Nat) (H' : AHeap) => K (.float .f32 r1) H'
  | _, _, _ => False
def S_spec_l05Shrink : FSpec := { F := F_spec_l05Shrink, quiet := true, tame := false }
theorem spec_l05Shrink_vc (x : Nat) (limit : Nat) (hard : Bool) (H : AHeap) (K : Value → AHeap → Prop) : bodyK Try.prog E_spec_l05Shrink Try.f58 [.float .f32 x, .float .f32 limit, .bool hard] H K =
  (T_spec_l03Size x H fun (r1 : Nat) (H1 : AHeap) => Br (!(flt .f32 limit r1)) (K (.float .f32 0) H1) (Br hard (K (.float .f32 x) H1) (Br (flt .f32 x 0) (K (.float .f32 (fneg .f32 (fsub .f32 r1 limit))) H1) (K (.float .f32 (fsub .f32 r1 limit)) H1)))) := by kernel_rfl
theorem E_spec_l05Shrink_ok : ∀ g, FnOk Try.prog g (E_spec_l05Shrink g) := FnOk.envOf (by
  intro x hx
  simp only [List.mem_cons, List.not_mem_nil, or_false] at hx
  subst hx; exact spec_l03Size_ok)
set_option maxHeartbeats 1000000 in
theorem spec_l05Shrink_main (x : Nat) (limit : Nat) (hard : Bool) (H : AHeap) (K : Value → AHeap → Prop) (h : T_spec_l05Shrink x limit hard H fun (r1 : Nat) (H' : AHeap) => K (.float .f32 r1) H') : bodyK Try.prog E_spec_l05Shrink Try.f58 [.float .f32 x, .float .f32 limit, .bool hard] H K := by
  rw [spec_l05Shrink_vc]
  simp only [T_spec_l03Size]
  unfold T_spec_l05Shrink p_spec_l05Shrink at h
  repeat' (first | exact h | (exfalso; simp_all; done) | (refine ⟨by decide, ?_⟩) | (refine Br.intro (fun hb => ?_) (fun hb => ?_) <;> (try simp only [hb, cond_true, cond_false, Bool.not_true, Bool.not_false] at h)))
theorem spec_l05Shrink_ok : FnOk Try.prog 58 S_spec_l05Shrink := by
  refine FnOk.body mix_ok E_spec_l05Shrink_ok Try.func58 rfl (by kernel_rfl) (by kernel_rfl) ?_ ?_ ?_ ?_ ?_
  · intro args H K K' h hk
    simp only [S_spec_l05Shrink] at *
    unfold F_spec_l05Shrink at *
    split at hk
    · have k := hk
      exact h _ _ k
    · exact hk.elim
  · intro _ args H K hk
    simp only [S_spec_l05Shrink] at *
    unfold F_spec_l05Shrink at *
    split at hk
    · have k := hk
      exact ⟨_, k, fun K' k' => k'⟩
    · exact hk.elim
  · intro args H K hk
    simp only [S_spec_l05Shrink] at *
    unfold F_spec_l05Shrink at *
    split at hk
    · have k := hk
      exact ⟨_, _, k⟩
    · exact hk.elim
  · intro hq; cases hq
  · have mm := @spec_l05Shrink_main
    revert mm
    generalize bodyK Try.prog E_spec_l05Shrink Try.f58 = Q
    intro mm args H K hk
    simp only [S_spec_l05Shrink] at *
    unfold F_spec_l05Shrink at *
    split at hk
    · exact mm _ _ _ H K hk
    · exact hk.elim
def p_spec_SoftShrink (x : Nat) (limit : Nat) : Nat × Bool := (bif !(p_spec_l01Finite x) then (0, false) else (bif !(p_spec_l02Least limit) then (0, false) else ((p_spec_l05Shrink x limit false), true)))
theorem p_spec_SoftShrink_eq (x : Nat) (limit : Nat) : p_spec_SoftShrink x limit = (bif !(p_spec_l01Finite x) then (0, false) else (bif !(p_spec_l02Least limit) then (0, false) else ((p_spec_l05Shrink x limit false), true))) := rfl
def T_spec_SoftShrink (x : Nat) (limit : Nat) (H : AHeap) (K : Nat → Bool → AHeap → Prop) : Prop := K (p_spec_SoftShrink x limit).1 (p_spec_SoftShrink x limit).2 H

theorem T_spec_SoftShrink_i {x : Nat} {limit : Nat} {H : AHeap} {K : Nat → Bool → AHeap → Prop} (h : K (p_spec_SoftShrink x limit).1 (p_spec_SoftShrink x limit).2 H) : T_spec_SoftShrink x limit H K := h
/-! spec_SoftShrink: function 31 -/
def E_spec_SoftShrink : Env := envOf [(56, S_spec_l01Finite), (57, S_spec_l02Least), (58, S_spec_l05Shrink)]
def F_spec_SoftShrink : List Value → AHeap → (Value → AHeap → Prop) → Prop
  | [.float .f32 x, .float .f32 limit], H, K => T_spec_SoftShrink x limit H fun (r1 : Nat) (r2 : Bool) (H' : AHeap) => K (.tuple #[.float .f32 r1, .bool r2]) H'
  | _, _, _ => False
def S_spec_SoftShrink : FSpec := { F := F_spec_SoftShrink, quiet := true, tame := false }
theorem spec_SoftShrink_vc (x : Nat) (limit : Nat) (H : AHeap) (K : Value → AHeap → Prop) : bodyK Try.prog E_spec_SoftShrink Try.f31 [.float .f32 x, .float .f32 limit] H K =
  (T_spec_l01Finite x H fun (r1 : Bool) (H1 : AHeap) => Br (!r1) (K (.tuple #[.float .f32 0, .bool false]) H1) (T_spec_l02Least limit H1 fun (r2 : Bool) (H2 : AHeap) => Br (!r2) (K (.tuple #[.float .f32 0, .bool false]) H2) (T_spec_l05Shrink x limit false H2 fun (r3 : Nat) (H3 : AHeap) => K (.tuple #[.float .f32 r3, .bool true]) H3))) := by kernel_rfl
theorem E_spec_SoftShrink_ok : ∀ g, FnOk Try.prog g (E_spec_SoftShrink g) := FnOk.envOf (by
  intro x hx
  simp only [List.mem_cons, List.not_mem_nil, or_false] at hx
  rcases hx with rfl | rfl | rfl
  · exact spec_l01Finite_ok
  · exact spec_l02Least_ok
  · exact spec_l05Shrink_ok)
set_option maxHeartbeats 1000000 in
theorem spec_SoftShrink_main (x : Nat) (limit : Nat) (H : AHeap) (K : Value → AHeap → Prop) (h : T_spec_SoftShrink x limit H fun (r1 : Nat) (r2 : Bool) (H' : AHeap) => K (.tuple #[.float .f32 r1, .bool r2]) H') : bodyK Try.prog E_spec_SoftShrink Try.f31 [.float .f32 x, .float .f32 limit] H K := by
  rw [spec_SoftShrink_vc]
  simp only [T_spec_l01Finite, T_spec_l02Least, T_spec_l05Shrink]
  unfold T_spec_SoftShrink p_spec_SoftShrink at h
  repeat' (first | exact h | (exfalso; simp_all; done) | (refine ⟨by decide, ?_⟩) | (refine Br.intro (fun hb => ?_) (fun hb => ?_) <;> (try simp only [hb, cond_true, cond_false, Bool.not_true, Bool.not_false] at h)))
theorem spec_SoftShrink_ok : FnOk Try.prog 31 S_spec_SoftShrink := by
  refine FnOk.body mix_ok E_spec_SoftShrink_ok Try.func31 rfl (by kernel_rfl) (by kernel_rfl) ?_ ?_ ?_ ?_ ?_
  · intro args H K K' h hk
    simp only [S_spec_SoftShrink] at *
    unfold F_spec_SoftShrink at *
    split at hk
    · have k := hk
      exact h _ _ k
    · exact hk.elim
  · intro _ args H K hk
    simp only [S_spec_SoftShrink] at *
    unfold F_spec_SoftShrink at *
    split at hk
    · have k := hk
      exact ⟨_, k, fun K' k' => k'⟩
    · exact hk.elim
  · intro args H K hk
    simp only [S_spec_SoftShrink] at *
    unfold F_spec_SoftShrink at *
    split at hk
    · have k := hk
      exact ⟨_, _, k⟩
    · exact hk.elim
  · intro hq; cases hq
  · have mm := @spec_SoftShrink_main
    revert mm
    generalize bodyK Try.prog E_spec_SoftShrink Try.f31 = Q
    intro mm args H K hk
    simp only [S_spec_SoftShrink] at *
    unfold F_spec_SoftShrink at *
    split at hk
    · exact mm _ _ H K hk
    · exact hk.elim
def p_impl_IsFinite (x : Nat) : Bool := feq .f32 (fsub .f32 x x) 0
theorem p_impl_IsFinite_eq (x : Nat) : p_impl_IsFinite x = feq .f32 (fsub .f32 x x) 0 := rfl
def T_impl_IsFinite (x : Nat) (H : AHeap) (K : Bool → AHeap → Prop) : Prop := K (p_impl_IsFinite x) H

theorem T_impl_IsFinite_i {x : Nat} {H : AHeap} {K : Bool → AHeap → Prop} (h : K (p_impl_IsFinite x) H) : T_impl_IsFinite x H K := h
/-! impl_IsFinite: function 59 -/
def E_impl_IsFinite : Env := envOf []
def F_impl_IsFinite : List Value → AHeap → (Value → AHeap → Prop) → Prop
  | [.float .f32 x], H, K => T_impl_IsFinite x H fun (r1 : Bool) (H' : AHeap) => K (.bool r1) H'
  | _, _, _ => False
def S_impl_IsFinite : FSpec := { F := F_impl_IsFinite, quiet := true, tame := false }
theorem impl_IsFinite_vc (x : Nat) (H : AHeap) (K : Value → AHeap → Prop) : bodyK Try.prog E_impl_IsFinite Try.f59 [.float .f32 x] H K =
  (K (.bool (feq .f32 (fsub .f32 x x) 0)) H) := by kernel_rfl
theorem E_impl_IsFinite_ok : ∀ g, FnOk Try.prog g (E_impl_IsFinite g) := FnOk.envOf (by
  intro x hx; cases hx)
set_option maxHeartbeats 1000000 in
theorem impl_IsFinite_main (x : Nat) (H : AHeap) (K : Value → AHeap → Prop) (h : T_impl_IsFinite x H fun (r1 : Bool) (H' : AHeap) => K (.bool r1) H') : bodyK Try.prog E_impl_IsFinite Try.f59 [.float .f32 x] H K := by
  rw [impl_IsFinite_vc]
  unfold T_impl_IsFinite p_impl_IsFinite at h
  repeat' (first | exact h | (exfalso; simp_all; done) | (refine ⟨by decide, ?_⟩) | (refine Br.intro (fun hb => ?_) (fun hb => ?_) <;> (try simp only [hb, cond_true, cond_false, Bool.not_true, Bool.not_false] at h)))
theorem impl_IsFinite_ok : FnOk Try.prog 59 S_impl_IsFinite := by
  refine FnOk.body mix_ok E_impl_IsFinite_ok Try.func59 rfl (by kernel_rfl) (by kernel_rfl) ?_ ?_ ?_ ?_ ?_
  · intro args H K K' h hk
    simp only [S_impl_IsFinite] at *
    unfold F_impl_IsFinite at *
    split at hk
    · have k := hk
      exact h _ _ k
    · exact hk.elim
  · intro _ args H K hk
    simp only [S_impl_IsFinite] at *
    unfold F_impl_IsFinite at *
    split at hk
    · have k := hk
      exact ⟨_, k, fun K' k' => k'⟩
    · exact hk.elim
  · intro args H K hk
    simp only [S_impl_IsFinite] at *
    unfold F_impl_IsFinite at *
    split at hk
    · have k := hk
      exact ⟨_, _, k⟩
    · exact hk.elim
  · intro hq; cases hq
  · have mm := @impl_IsFinite_main
    revert mm
    generalize bodyK Try.prog E_impl_IsFinite Try.f59 = Q
    intro mm args H K hk
    simp only [S_impl_IsFinite] at *
    unfold F_impl_IsFinite at *
    split at hk
    · exact mm _ H K hk
    · exact hk.elim
def p_impl_isLeast (x : Nat) : Bool := (bif (p_impl_IsFinite x) then fle .f32 0 x else false)
theorem p_impl_isLeast_eq (x : Nat) : p_impl_isLeast x = (bif (p_impl_IsFinite x) then fle .f32 0 x else false) := rfl
def T_impl_isLeast (x : Nat) (H : AHeap) (K : Bool → AHeap → Prop) : Prop := K (p_impl_isLeast x) H

theorem T_impl_isLeast_i {x : Nat} {H : AHeap} {K : Bool → AHeap → Prop} (h : K (p_impl_isLeast x) H) : T_impl_isLeast x H K := h
/-! impl_isLeast: function 55 -/
def E_impl_isLeast : Env := envOf [(59, S_impl_IsFinite)]
def F_impl_isLeast : List Value → AHeap → (Value → AHeap → Prop) → Prop
  | [.float .f32 x], H, K => T_impl_isLeast x H fun (r1 : Bool) (H' : AHeap) => K (.bool r1) H'
  | _, _, _ => False
def S_impl_isLeast : FSpec := { F := F_impl_isLeast, quiet := true, tame := false }
theorem impl_isLeast_vc (x : Nat) (H : AHeap) (K : Value → AHeap → Prop) : bodyK Try.prog E_impl_isLeast Try.f55 [.float .f32 x] H K =
  (T_impl_IsFinite x H fun (r1 : Bool) (H1 : AHeap) => Br r1 (K (.bool (fle .f32 0 x)) H1) (K (.bool false) H1)) := by kernel_rfl
theorem E_impl_isLeast_ok : ∀ g, FnOk Try.prog g (E_impl_isLeast g) := FnOk.envOf (by
  intro x hx
  simp only [List.mem_cons, List.not_mem_nil, or_false] at hx
  subst hx; exact impl_IsFinite_ok)
set_option maxHeartbeats 1000000 in
theorem impl_isLeast_main (x : Nat) (H : AHeap) (K : Value → AHeap → Prop) (h : T_impl_isLeast x H fun (r1 : Bool) (H' : AHeap) => K (.bool r1) H') : bodyK Try.prog E_impl_isLeast Try.f55 [.float .f32 x] H K := by
  rw [impl_isLeast_vc]
  simp only [T_impl_IsFinite]
  unfold T_impl_isLeast p_impl_isLeast at h
  repeat' (first | exact h | (exfalso; simp_all; done) | (refine ⟨by decide, ?_⟩) | (refine Br.intro (fun hb => ?_) (fun hb => ?_) <;> (try simp only [hb, cond_true, cond_false, Bool.not_true, Bool.not_false] at h)))
theorem impl_isLeast_ok : FnOk Try.prog 55 S_impl_isLeast := by
  refine FnOk.body mix_ok E_impl_isLeast_ok Try.func55 rfl (by kernel_rfl) (by kernel_rfl) ?_ ?_ ?_ ?_ ?_
  · intro args H K K' h hk
    simp only [S_impl_isLeast] at *
    unfold F_impl_isLeast at *
    split at hk
    · have k := hk
      exact h _ _ k
    · exact hk.elim
  · intro _ args H K hk
    simp only [S_impl_isLeast] at *
    unfold F_impl_isLeast at *
    split at hk
    · have k := hk
      exact ⟨_, k, fun K' k' => k'⟩
    · exact hk.elim
  · intro args H K hk
    simp only [S_impl_isLeast] at *
    unfold F_impl_isLeast at *
    split at hk
    · have k := hk
      exact ⟨_, _, k⟩
    · exact hk.elim
  · intro hq; cases hq
  · have mm := @impl_isLeast_main
    revert mm
    generalize bodyK Try.prog E_impl_isLeast Try.f55 = Q
    intro mm args H K hk
    simp only [S_impl_isLeast] at *
    unfold F_impl_isLeast at *
    split at hk
    · exact mm _ H K hk
    · exact hk.elim
def p_impl_size (x : Nat) : Nat := (bif flt .f32 x 0 then fneg .f32 x else (bif feq .f32 x 0 then 0 else x))
theorem p_impl_size_eq (x : Nat) : p_impl_size x = (bif flt .f32 x 0 then fneg .f32 x else (bif feq .f32 x 0 then 0 else x)) := rfl
def T_impl_size (x : Nat) (H : AHeap) (K : Nat → AHeap → Prop) : Prop := K (p_impl_size x) H

theorem T_impl_size_i {x : Nat} {H : AHeap} {K : Nat → AHeap → Prop} (h : K (p_impl_size x) H) : T_impl_size x H K := h
/-! impl_size: function 72 -/
def E_impl_size : Env := envOf []
def F_impl_size : List Value → AHeap → (Value → AHeap → Prop) → Prop
  | [.float .f32 x], H, K => T_impl_size x H fun (r1 : Nat) (H' : AHeap) => K (.float .f32 r1) H'
  | _, _, _ => False
def S_impl_size : FSpec := { F := F_impl_size, quiet := true, tame := false }
theorem impl_size_vc (x : Nat) (H : AHeap) (K : Value → AHeap → Prop) : bodyK Try.prog E_impl_size Try.f72 [.float .f32 x] H K =
  (Br (flt .f32 x 0) (K (.float .f32 (fneg .f32 x)) H) (Br (feq .f32 x 0) (K (.float .f32 0) H) (K (.float .f32 x) H))) := by kernel_rfl
theorem E_impl_size_ok : ∀ g, FnOk Try.prog g (E_impl_size g) := FnOk.envOf (by
  intro x hx; cases hx)
set_option maxHeartbeats 1000000 in
theorem impl_size_main (x : Nat) (H : AHeap) (K : Value → AHeap → Prop) (h : T_impl_size x H fun (r1 : Nat) (H' : AHeap) => K (.float .f32 r1) H') : bodyK Try.prog E_impl_size Try.f72 [.float .f32 x] H K := by
  rw [impl_size_vc]
  unfold T_impl_size p_impl_size at h
  repeat' (first | exact h | (exfalso; simp_all; done) | (refine ⟨by decide, ?_⟩) | (refine Br.intro (fun hb => ?_) (fun hb => ?_) <;> (try simp only [hb, cond_true, cond_false, Bool.not_true, Bool.not_false] at h)))
theorem impl_size_ok : FnOk Try.prog 72 S_impl_size := by
  refine FnOk.body mix_ok E_impl_size_ok Try.func72 rfl (by kernel_rfl) (by kernel_rfl) ?_ ?_ ?_ ?_ ?_
  · intro args H K K' h hk
    simp only [S_impl_size] at *
    unfold F_impl_size at *
    split at hk
    · have k := hk
      exact h _ _ k
    · exact hk.elim
  · intro _ args H K hk
    simp only [S_impl_size] at *
    unfold F_impl_size at *
    split at hk
    · have k := hk
      exact ⟨_, k, fun K' k' => k'⟩
    · exact hk.elim
  · intro args H K hk
    simp only [S_impl_size] at *
    unfold F_impl_size at *
    split at hk
    · have k := hk
      exact ⟨_, _, k⟩
    · exact hk.elim
  · intro hq; cases hq
  · have mm := @impl_size_main
    revert mm
    generalize bodyK Try.prog E_impl_size Try.f72 = Q
    intro mm args H K hk
    simp only [S_impl_size] at *
    unfold F_impl_size at *
    split at hk
    · exact mm _ H K hk
    · exact hk.elim
def p_impl_softer (x : Nat) (vby : Nat) : Nat := (bif flt .f32 vby x then fsub .f32 x vby else (bif flt .f32 x (fneg .f32 vby) then fadd .f32 x vby else 0))
theorem p_impl_softer_eq (x : Nat) (vby : Nat) : p_impl_softer x vby = (bif flt .f32 vby x then fsub .f32 x vby else (bif flt .f32 x (fneg .f32 vby) then fadd .f32 x vby else 0)) := rfl
def T_impl_softer (x : Nat) (vby : Nat) (H : AHeap) (K : Nat → AHeap → Prop) : Prop := K (p_impl_softer x vby) H

theorem T_impl_softer_i {x : Nat} {vby : Nat} {H : AHeap} {K : Nat → AHeap → Prop} (h : K (p_impl_softer x vby) H) : T_impl_softer x vby H K := h
/-! impl_softer: function 84 -/
def E_impl_softer : Env := envOf []
def F_impl_softer : List Value → AHeap → (Value → AHeap → Prop) → Prop
  | [.float .f32 x, .float .f32 vby], H, K => T_impl_softer x vby H fun (r1 : Nat) (H' : AHeap) => K (.float .f32 r1) H'
  | _, _, _ => False
def S_impl_softer : FSpec := { F := F_impl_softer, quiet := true, tame := false }
theorem impl_softer_vc (x : Nat) (vby : Nat) (H : AHeap) (K : Value → AHeap → Prop) : bodyK Try.prog E_impl_softer Try.f84 [.float .f32 x, .float .f32 vby] H K =
  (Br (flt .f32 vby x) (K (.float .f32 (fsub .f32 x vby)) H) (Br (flt .f32 x (fneg .f32 vby)) (K (.float .f32 (fadd .f32 x vby)) H) (K (.float .f32 0) H))) := by kernel_rfl
theorem E_impl_softer_ok : ∀ g, FnOk Try.prog g (E_impl_softer g) := FnOk.envOf (by
  intro x hx; cases hx)
set_option maxHeartbeats 1000000 in
theorem impl_softer_main (x : Nat) (vby : Nat) (H : AHeap) (K : Value → AHeap → Prop) (h : T_impl_softer x vby H fun (r1 : Nat) (H' : AHeap) => K (.float .f32 r1) H') : bodyK Try.prog E_impl_softer Try.f84 [.float .f32 x, .float .f32 vby] H K := by
  rw [impl_softer_vc]
  unfold T_impl_softer p_impl_softer at h
  repeat' (first | exact h | (exfalso; simp_all; done) | (refine ⟨by decide, ?_⟩) | (refine Br.intro (fun hb => ?_) (fun hb => ?_) <;> (try simp only [hb, cond_true, cond_false, Bool.not_true, Bool.not_false] at h)))
theorem impl_softer_ok : FnOk Try.prog 84 S_impl_softer := by
  refine FnOk.body mix_ok E_impl_softer_ok Try.func84 rfl (by kernel_rfl) (by kernel_rfl) ?_ ?_ ?_ ?_ ?_
  · intro args H K K' h hk
    simp only [S_impl_softer] at *
    unfold F_impl_softer at *
    split at hk
    · have k := hk
      exact h _ _ k
    · exact hk.elim
  · intro _ args H K hk
    simp only [S_impl_softer] at *
    unfold F_impl_softer at *
    split at hk
    · have k := hk
      exact ⟨_, k, fun K' k' => k'⟩
    · exact hk.elim
  · intro args H K hk
    simp only [S_impl_softer] at *
    unfold F_impl_softer at *
    split at hk
    · have k := hk
      exact ⟨_, _, k⟩
    · exact hk.elim
  · intro hq; cases hq
  · have mm := @impl_softer_main
    revert mm
    generalize bodyK Try.prog E_impl_softer Try.f84 = Q
    intro mm args H K hk
    simp only [S_impl_softer] at *
    unfold F_impl_softer at *
    split at hk
    · exact mm _ _ H K hk
    · exact hk.elim
def p_impl_shrunk (x : Nat) (limit : Nat) (hard : Bool) : Nat := (bif !(flt .f32 limit (p_impl_size x)) then 0 else (bif hard then x else (p_impl_softer x limit)))
theorem p_impl_shrunk_eq (x : Nat) (limit : Nat) (hard : Bool) : p_impl_shrunk x limit hard = (bif !(flt .f32 limit (p_impl_size x)) then 0 else (bif hard then x else (p_impl_softer x limit))) := rfl
def T_impl_shrunk (x : Nat) (limit : Nat) (hard : Bool) (H : AHeap) (K : Nat → AHeap → Prop) : Prop := K (p_impl_shrunk x limit hard) H

theorem T_impl_shrunk_i {x : Nat} {limit : Nat} {hard : Bool} {H : AHeap} {K : Nat → AHeap → Prop} (h : K (p_impl_shrunk x limit hard) H) : T_impl_shrunk x limit hard H K := h
/-! impl_shrunk: function 60 -/
def E_impl_shrunk : Env := envOf [(72, S_impl_size), (84, S_impl_softer)]
def F_impl_shrunk : List Value → AHeap → (Value → AHeap → Prop) → Prop
  | [.float .f32 x, .float .f32 limit, .bool hard], H, K => T_impl_shrunk x limit hard H fun (r1 : Nat) (H' : AHeap) => K (.float .f32 r1) H'
  | _, _, _ => False
def S_impl_shrunk : FSpec := { F := F_impl_shrunk, quiet := true, tame := false }
theorem impl_shrunk_vc (x : Nat) (limit : Nat) (hard : Bool) (H : AHeap) (K : Value → AHeap → Prop) : bodyK Try.prog E_impl_shrunk Try.f60 [.float .f32 x, .float .f32 limit, .bool hard] H K =
  (T_impl_size x H fun (r1 : Nat) (H1 : AHeap) => Br (!(flt .f32 limit r1)) (K (.float .f32 0) H1) (Br hard (K (.float .f32 x) H1) (T_impl_softer x limit H1 fun (r2 : Nat) (H2 : AHeap) => K (.float .f32 r2) H2))) := by kernel_rfl
theorem E_impl_shrunk_ok : ∀ g, FnOk Try.prog g (E_impl_shrunk g) := FnOk.envOf (by
  intro x hx
  simp only [List.mem_cons, List.not_mem_nil, or_false] at hx
  rcases hx with rfl | rfl
  · exact impl_size_ok
  · exact impl_softer_ok)
set_option maxHeartbeats 1000000 in
theorem impl_shrunk_main (x : Nat) (limit : Nat) (hard : Bool) (H : AHeap) (K : Value → AHeap → Prop) (h : T_impl_shrunk x limit hard H fun (r1 : Nat) (H' : AHeap) => K (.float .f32 r1) H') : bodyK Try.prog E_impl_shrunk Try.f60 [.float .f32 x, .float .f32 limit, .bool hard] H K := by
  rw [impl_shrunk_vc]
  simp only [T_impl_size, T_impl_softer]
  unfold T_impl_shrunk p_impl_shrunk at h
  repeat' (first | exact h | (exfalso; simp_all; done) | (refine ⟨by decide, ?_⟩) | (refine Br.intro (fun hb => ?_) (fun hb => ?_) <;> (try simp only [hb, cond_true, cond_false, Bool.not_true, Bool.not_false] at h)))
theorem impl_shrunk_ok : FnOk Try.prog 60 S_impl_shrunk := by
  refine FnOk.body mix_ok E_impl_shrunk_ok Try.func60 rfl (by kernel_rfl) (by kernel_rfl) ?_ ?_ ?_ ?_ ?_
  · intro args H K K' h hk
    simp only [S_impl_shrunk] at *
    unfold F_impl_shrunk at *
    split at hk
    · have k := hk
      exact h _ _ k
    · exact hk.elim
  · intro _ args H K hk
    simp only [S_impl_shrunk] at *
    unfold F_impl_shrunk at *
    split at hk
    · have k := hk
      exact ⟨_, k, fun K' k' => k'⟩
    · exact hk.elim
  · intro args H K hk
    simp only [S_impl_shrunk] at *
    unfold F_impl_shrunk at *
    split at hk
    · have k := hk
      exact ⟨_, _, k⟩
    · exact hk.elim
  · intro hq; cases hq
  · have mm := @impl_shrunk_main
    revert mm
    generalize bodyK Try.prog E_impl_shrunk Try.f60 = Q
    intro mm args H K hk
    simp only [S_impl_shrunk] at *
    unfold F_impl_shrunk at *
    split at hk
    · exact mm _ _ _ H K hk
    · exact hk.elim
def p_impl_SoftShrink (x : Nat) (limit : Nat) : Nat × Bool := (bif !(p_impl_IsFinite x) then (0, false) else (bif !(p_impl_isLeast limit) then (0, false) else ((p_impl_shrunk x limit false), true)))
theorem p_impl_SoftShrink_eq (x : Nat) (limit : Nat) : p_impl_SoftShrink x limit = (bif !(p_impl_IsFinite x) then (0, false) else (bif !(p_impl_isLeast limit) then (0, false) else ((p_impl_shrunk x limit false), true))) := rfl
def T_impl_SoftShrink (x : Nat) (limit : Nat) (H : AHeap) (K : Nat → Bool → AHeap → Prop) : Prop := K (p_impl_SoftShrink x limit).1 (p_impl_SoftShrink x limit).2 H

theorem T_impl_SoftShrink_i {x : Nat} {limit : Nat} {H : AHeap} {K : Nat → Bool → AHeap → Prop} (h : K (p_impl_SoftShrink x limit).1 (p_impl_SoftShrink x limit).2 H) : T_impl_SoftShrink x limit H K := h
/-! impl_SoftShrink: function 32 -/
def E_impl_SoftShrink : Env := envOf [(59, S_impl_IsFinite), (55, S_impl_isLeast), (60, S_impl_shrunk)]
def F_impl_SoftShrink : List Value → AHeap → (Value → AHeap → Prop) → Prop
  | [.float .f32 x, .float .f32 limit], H, K => T_impl_SoftShrink x limit H fun (r1 : Nat) (r2 : Bool) (H' : AHeap) => K (.tuple #[.float .f32 r1, .bool r2]) H'
  | _, _, _ => False
def S_impl_SoftShrink : FSpec := { F := F_impl_SoftShrink, quiet := true, tame := false }
theorem impl_SoftShrink_vc (x : Nat) (limit : Nat) (H : AHeap) (K : Value → AHeap → Prop) : bodyK Try.prog E_impl_SoftShrink Try.f32 [.float .f32 x, .float .f32 limit] H K =
  (T_impl_IsFinite x H fun (r1 : Bool) (H1 : AHeap) => Br (!r1) (K (.tuple #[.float .f32 0, .bool false]) H1) (T_impl_isLeast limit H1 fun (r2 : Bool) (H2 : AHeap) => Br (!r2) (K (.tuple #[.float .f32 0, .bool false]) H2) (T_impl_shrunk x limit false H2 fun (r3 : Nat) (H3 : AHeap) => K (.tuple #[.float .f32 r3, .bool true]) H3))) := by kernel_rfl
theorem E_impl_SoftShrink_ok : ∀ g, FnOk Try.prog g (E_impl_SoftShrink g) := FnOk.envOf (by
  intro x hx
  simp only [List.mem_cons, List.not_mem_nil, or_false] at hx
  rcases hx with rfl | rfl | rfl
  · exact impl_IsFinite_ok
  · exact impl_isLeast_ok
  · exact impl_shrunk_ok)
set_option maxHeartbeats 1000000 in
theorem impl_SoftShrink_main (x : Nat) (limit : Nat) (H : AHeap) (K : Value → AHeap → Prop) (h : T_impl_SoftShrink x limit H fun (r1 : Nat) (r2 : Bool) (H' : AHeap) => K (.tuple #[.float .f32 r1, .bool r2]) H') : bodyK Try.prog E_impl_SoftShrink Try.f32 [.float .f32 x, .float .f32 limit] H K := by
  rw [impl_SoftShrink_vc]
  simp only [T_impl_IsFinite, T_impl_isLeast, T_impl_shrunk]
  unfold T_impl_SoftShrink p_impl_SoftShrink at h
  repeat' (first | exact h | (exfalso; simp_all; done) | (refine ⟨by decide, ?_⟩) | (refine Br.intro (fun hb => ?_) (fun hb => ?_) <;> (try simp only [hb, cond_true, cond_false, Bool.not_true, Bool.not_false] at h)))
theorem impl_SoftShrink_ok : FnOk Try.prog 32 S_impl_SoftShrink := by
  refine FnOk.body mix_ok E_impl_SoftShrink_ok Try.func32 rfl (by kernel_rfl) (by kernel_rfl) ?_ ?_ ?_ ?_ ?_
  · intro args H K K' h hk
    simp only [S_impl_SoftShrink] at *
    unfold F_impl_SoftShrink at *
    split at hk
    · have k := hk
      exact h _ _ k
    · exact hk.elim
  · intro _ args H K hk
    simp only [S_impl_SoftShrink] at *
    unfold F_impl_SoftShrink at *
    split at hk
    · have k := hk
      exact ⟨_, k, fun K' k' => k'⟩
    · exact hk.elim
  · intro args H K hk
    simp only [S_impl_SoftShrink] at *
    unfold F_impl_SoftShrink at *
    split at hk
    · have k := hk
      exact ⟨_, _, k⟩
    · exact hk.elim
  · intro hq; cases hq
  · have mm := @impl_SoftShrink_main
    revert mm
    generalize bodyK Try.prog E_impl_SoftShrink Try.f32 = Q
    intro mm args H K hk
    simp only [S_impl_SoftShrink] at *
    unfold F_impl_SoftShrink at *
    split at hk
    · exact mm _ _ H K hk
    · exact hk.elim
def p_laws_sameFloat (a : Nat) (b : Nat) : Bool := (bif !(feq .f64 a a) then (bif !(feq .f64 a a) then !(feq .f64 b b) else false) else (bif !(feq .f64 b b) then (bif !(feq .f64 a a) then !(feq .f64 b b) else false) else (bif feq .f64 a 0 then (bif feq .f64 b 0 then (flt .f64 0 (fdiv .f64 4607182418800017408 a)) == (flt .f64 0 (fdiv .f64 4607182418800017408 b)) else feq .f64 a b) else feq .f64 a b)))
theorem p_laws_sameFloat_eq (a : Nat) (b : Nat) : p_laws_sameFloat a b = (bif !(feq .f64 a a) then (bif !(feq .f64 a a) then !(feq .f64 b b) else false) else (bif !(feq .f64 b b) then (bif !(feq .f64 a a) then !(feq .f64 b b) else false) else (bif feq .f64 a 0 then (bif feq .f64 b 0 then (flt .f64 0 (fdiv .f64 4607182418800017408 a)) == (flt .f64 0 (fdiv .f64 4607182418800017408 b)) else feq .f64 a b) else feq .f64 a b))) := rfl
def T_laws_sameFloat (a : Nat) (b : Nat) (H : AHeap) (K : Bool → AHeap → Prop) : Prop := K (p_laws_sameFloat a b) H

theorem T_laws_sameFloat_i {a : Nat} {b : Nat} {H : AHeap} {K : Bool → AHeap → Prop} (h : K (p_laws_sameFloat a b) H) : T_laws_sameFloat a b H K := h
/-! laws_sameFloat: function 30 -/
def E_laws_sameFloat : Env := envOf []
def F_laws_sameFloat : List Value → AHeap → (Value → AHeap → Prop) → Prop
  | [.float .f64 a, .float .f64 b], H, K => T_laws_sameFloat a b H fun (r1 : Bool) (H' : AHeap) => K (.bool r1) H'
  | _, _, _ => False
def S_laws_sameFloat : FSpec := { F := F_laws_sameFloat, quiet := true, tame := false }
theorem laws_sameFloat_vc (a : Nat) (b : Nat) (H : AHeap) (K : Value → AHeap → Prop) : bodyK Try.prog E_laws_sameFloat Try.f30 [.float .f64 a, .float .f64 b] H K =
  (Br (!(feq .f64 a a)) (Br (!(feq .f64 a a)) (K (.bool (!(feq .f64 b b))) H) (K (.bool false) H)) (Br (!(feq .f64 b b)) (Br (!(feq .f64 a a)) (K (.bool (!(feq .f64 b b))) H) (K (.bool false) H)) (Br (feq .f64 a 0) (Br (feq .f64 b 0) (K (.bool ((flt .f64 0 (fdiv .f64 4607182418800017408 a)) == (flt .f64 0 (fdiv .f64 4607182418800017408 b)))) H) (K (.bool (feq .f64 a b)) H)) (K (.bool (feq .f64 a b)) H)))) := by kernel_rfl
theorem E_laws_sameFloat_ok : ∀ g, FnOk Try.prog g (E_laws_sameFloat g) := FnOk.envOf (by
  intro x hx; cases hx)
set_option maxHeartbeats 1000000 in
theorem laws_sameFloat_main (a : Nat) (b : Nat) (H : AHeap) (K : Value → AHeap → Prop) (h : T_laws_sameFloat a b H fun (r1 : Bool) (H' : AHeap) => K (.bool r1) H') : bodyK Try.prog E_laws_sameFloat Try.f30 [.float .f64 a, .float .f64 b] H K := by
  rw [laws_sameFloat_vc]
  unfold T_laws_sameFloat p_laws_sameFloat at h
  repeat' (first | exact h | (exfalso; simp_all; done) | (refine ⟨by decide, ?_⟩) | (refine Br.intro (fun hb => ?_) (fun hb => ?_) <;> (try simp only [hb, cond_true, cond_false, Bool.not_true, Bool.not_false] at h)))
theorem laws_sameFloat_ok : FnOk Try.prog 30 S_laws_sameFloat := by
  refine FnOk.body mix_ok E_laws_sameFloat_ok Try.func30 rfl (by kernel_rfl) (by kernel_rfl) ?_ ?_ ?_ ?_ ?_
  · intro args H K K' h hk
    simp only [S_laws_sameFloat] at *
    unfold F_laws_sameFloat at *
    split at hk
    · have k := hk
      exact h _ _ k
    · exact hk.elim
  · intro _ args H K hk
    simp only [S_laws_sameFloat] at *
    unfold F_laws_sameFloat at *
    split at hk
    · have k := hk
      exact ⟨_, k, fun K' k' => k'⟩
    · exact hk.elim
  · intro args H K hk
    simp only [S_laws_sameFloat] at *
    unfold F_laws_sameFloat at *
    split at hk
    · have k := hk
      exact ⟨_, _, k⟩
    · exact hk.elim
  · intro hq; cases hq
  · have mm := @laws_sameFloat_main
    revert mm
    generalize bodyK Try.prog E_laws_sameFloat Try.f30 = Q
    intro mm args H K hk
    simp only [S_laws_sameFloat] at *
    unfold F_laws_sameFloat at *
    split at hk
    · exact mm _ _ H K hk
    · exact hk.elim
def p_laws_FnExactSoftShrink (aX : Nat) (aLimit : Nat) : Bool := (bif !((p_laws_sameFloat (fwide ((p_impl_SoftShrink aX aLimit).1)) (fwide ((p_spec_SoftShrink aX aLimit).1)))) then false else (bif !(((p_impl_SoftShrink aX aLimit).2) == ((p_spec_SoftShrink aX aLimit).2)) then false else true))
theorem p_laws_FnExactSoftShrink_eq (aX : Nat) (aLimit : Nat) : p_laws_FnExactSoftShrink aX aLimit = (bif !((p_laws_sameFloat (fwide ((p_impl_SoftShrink aX aLimit).1)) (fwide ((p_spec_SoftShrink aX aLimit).1)))) then false else (bif !(((p_impl_SoftShrink aX aLimit).2) == ((p_spec_SoftShrink aX aLimit).2)) then false else true)) := rfl
def T_laws_FnExactSoftShrink (aX : Nat) (aLimit : Nat) (H : AHeap) (K : Bool → AHeap → Prop) : Prop := W32 aX ∧ W32 aLimit ∧ ∀ H' : AHeap, K true H'
theorem spec_fin (x : Nat) : p_spec_l01Finite x = fin .f32 x := fin_asked x
theorem impl_fin (x : Nat) : p_impl_IsFinite x = fin .f32 x := fin_asked x
theorem w32_wd {x : Nat} (h : W32 x) : Wd .f32 x := ⟨h.1, h.2⟩
theorem wd_w32 {x : Nat} (h : Wd .f32 x) : W32 x := ⟨h.1, h.2⟩
theorem size_same {x : Nat} (h : W32 x) : p_impl_size x = p_spec_l03Size x := size_two (w32_wd h)
theorem least_same (x : Nat) : p_impl_isLeast x = p_spec_l02Least x := rfl
theorem least_t {x : Nat} (h : p_spec_l02Least x = true) : fin .f32 x = true ∧ 0 ≤ sv .f32 x := by
  unfold p_spec_l02Least at h
  rw [spec_fin] at h
  cases hf : fin .f32 x
  · rw [hf] at h; cases h
  · rw [hf, cond_true, fle_fin (fin_zero _) hf, sv_zero] at h
    exact ⟨rfl, of_decide_eq_true h⟩
theorem soft_same {x y : Nat} (hx : W32 x) (hy : W32 y) (fx : fin .f32 x = true) (ly : p_spec_l02Least y = true) (h : flt .f32 y (p_spec_l03Size x) = true) :
    p_impl_softer x y = (bif flt .f32 x 0 then fneg .f32 (fsub .f32 (p_spec_l03Size x) y) else fsub .f32 (p_spec_l03Size x) y) := by
  obtain ⟨fy, py⟩ := least_t ly
  have wx := w32_wd hx
  have wy := w32_wd hy
  rw [← size_same hx] at h ⊢
  unfold p_impl_size at h ⊢
  unfold p_impl_softer
  have e1 : flt .f32 x 0 = decide (sv .f32 x < 0) := by rw [flt_fin fx (fin_zero _), sv_zero]
  have e2 : feq .f32 x 0 = decide (sv .f32 x = 0) := by rw [feq_fin fx (fin_zero _), sv_zero]
  rw [e1, e2] at h ⊢
  by_cases c : sv .f32 x < 0
  · rw [decide_eq_true c, cond_true] at h ⊢
    rw [flt_fin fy (fin_neg fx), sv_neg fx] at h
    have h := of_decide_eq_true h
    have e3 : flt .f32 y x = false := by rw [flt_fin fy fx]; exact decide_eq_false (by omega)
    have e4 : flt .f32 x (fneg .f32 y) = true := by rw [flt_fin fx (fin_neg fy), sv_neg fy]; exact decide_eq_true (by omega)
    rw [e3, e4, cond_false, cond_true, cond_true, fsub_neg (fin_nn fy)]
    rw [← fadd_negs (fin_neg fx) (fin_neg fy) (by rw [sv_neg fx, sv_neg fy]; omega), fneg_fneg wx, fneg_fneg wy]
  · rw [decide_eq_false c, cond_false] at h ⊢
    by_cases c2 : sv .f32 x = 0
    · rw [decide_eq_true c2, cond_true, flt_fin fy (fin_zero _), sv_zero] at h
      have h := of_decide_eq_true h
      omega
    · rw [decide_eq_false c2, cond_false] at h ⊢
      rw [h, cond_true, cond_false]
theorem shrunk_same {x y : Nat} (hard : Bool) (hx : W32 x) (hy : W32 y) (fx : fin .f32 x = true) (ly : p_spec_l02Least y = true) : p_impl_shrunk x y hard = p_spec_l05Shrink x y hard := by
  rw [p_impl_shrunk_eq, p_spec_l05Shrink_eq, size_same hx]
  cases h : flt .f32 y (p_spec_l03Size x)
  · rfl
  · cases hard
    · simp only [Bool.not_true, cond_false]
      exact soft_same hx hy fx ly h
    · rfl
theorem laws_sameFloat_self (y : Nat) : p_laws_sameFloat y y = true := by
  rw [p_laws_sameFloat_eq]
  cases feq .f64 y y <;> simp
theorem Soft_same {x y : Nat} (hx : W32 x) (hy : W32 y) : p_impl_SoftShrink x y = p_spec_SoftShrink x y := by
  rw [p_impl_SoftShrink_eq, p_spec_SoftShrink_eq, impl_fin, spec_fin, least_same]
  cases fx : fin .f32 x
  · rfl
  · cases ly : p_spec_l02Least y
    · rfl
    · simp only [Bool.not_true, cond_false]
      rw [shrunk_same false hx hy fx ly]
theorem laws_FnExactSoftShrink_true (aX : Nat) (aLimit : Nat) (q0 : W32 aX) (q1 : W32 aLimit) : p_laws_FnExactSoftShrink aX aLimit = true := by
  rw [p_laws_FnExactSoftShrink_eq, Soft_same q0 q1, laws_sameFloat_self]
  simp
/-! laws_FnExactSoftShrink: function 7 -/
def E_laws_FnExactSoftShrink : Env := envOf [(31, S_spec_SoftShrink), (32, S_impl_SoftShrink), (30, S_laws_sameFloat)]
def F_laws_FnExactSoftShrink : List Value → AHeap → (Value → AHeap → Prop) → Prop
  | [.float .f32 aX, .float .f32 aLimit], H, K => T_laws_FnExactSoftShrink aX aLimit H fun (r1 : Bool) (H' : AHeap) => K (.bool r1) H'
  | _, _, _ => False
def S_laws_FnExactSoftShrink : FSpec := { F := F_laws_FnExactSoftShrink, quiet := false, tame := false }
theorem laws_FnExactSoftShrink_vc (aX : Nat) (aLimit : Nat) (H : AHeap) (K : Value → AHeap → Prop) : bodyK Try.prog E_laws_FnExactSoftShrink Try.f7 [.float .f32 aX, .float .f32 aLimit] H K =
  (T_spec_SoftShrink aX aLimit H fun (r1 : Nat) (r2 : Bool) (H1 : AHeap) => T_impl_SoftShrink aX aLimit H1 fun (r3 : Nat) (r4 : Bool) (H2 : AHeap) => T_laws_sameFloat (fwide r3) (fwide r1) H2 fun (r5 : Bool) (H3 : AHeap) => Br (!r5) (K (.bool false) H3) (Br (!(r4 == r2)) (K (.bool false) H3) (K (.bool true) H3))) := by kernel_rfl
theorem E_laws_FnExactSoftShrink_ok : ∀ g, FnOk Try.prog g (E_laws_FnExactSoftShrink g) := FnOk.envOf (by
  intro x hx
  simp only [List.mem_cons, List.not_mem_nil, or_false] at hx
  rcases hx with rfl | rfl | rfl
  · exact spec_SoftShrink_ok
  · exact impl_SoftShrink_ok
  · exact laws_sameFloat_ok)
set_option maxHeartbeats 1000000 in
theorem laws_FnExactSoftShrink_main (aX : Nat) (aLimit : Nat) (H : AHeap) (K : Value → AHeap → Prop) (h : T_laws_FnExactSoftShrink aX aLimit H fun (r1 : Bool) (H' : AHeap) => K (.bool r1) H') : bodyK Try.prog E_laws_FnExactSoftShrink Try.f7 [.float .f32 aX, .float .f32 aLimit] H K := by
  rw [laws_FnExactSoftShrink_vc]
  obtain ⟨h_0, h_1, hk⟩ := h
  have hl := laws_FnExactSoftShrink_true aX aLimit h_0 h_1
  have e : p_laws_FnExactSoftShrink aX aLimit = _ := rfl
  have e := e.trans (p_laws_FnExactSoftShrink_eq aX aLimit)
  have e := hl.symm.trans e
  have g0 := Grow.refl H
  refine T_spec_SoftShrink_i ?_
  refine T_impl_SoftShrink_i ?_
  refine T_laws_sameFloat_i ?_
  refine Br.intro (fun c_1 => ?_) (fun c_1 => ?_)
  · have e := e.trans (cond_t c_1)
    have c_1n := nf_of_t c_1
    first | exact hk _ | (exfalso; cases e; done) | (rw [← e]; exact hk _)
  · have e := e.trans (cond_f c_1)
    have c_1n := nt_of_f c_1
    refine Br.intro (fun c_2 => ?_) (fun c_2 => ?_)
    · have e := e.trans (cond_t c_2)
      have c_2n := nf_of_t c_2
      first | exact hk _ | (exfalso; cases e; done) | (rw [← e]; exact hk _)
    · have e := e.trans (cond_f c_2)
      have c_2n := nt_of_f c_2
      first | exact hk _ | (exfalso; cases e; done) | (rw [← e]; exact hk _)
theorem laws_FnExactSoftShrink_ok : FnOk Try.prog 7 S_laws_FnExactSoftShrink := by
  refine FnOk.body mix_ok E_laws_FnExactSoftShrink_ok Try.func7 rfl (by kernel_rfl) (by kernel_rfl) ?_ ?_ ?_ ?_ ?_
  · intro args H K K' h hk
    simp only [S_laws_FnExactSoftShrink] at *
    unfold F_laws_FnExactSoftShrink at *
    split at hk
    · obtain ⟨h_0, h_1, k⟩ := hk
      exact ⟨h_0, h_1, (fun H' => h _ _ (k H'))⟩
    · exact hk.elim
  · intro hq; cases hq
  · intro args H K hk
    simp only [S_laws_FnExactSoftShrink] at *
    unfold F_laws_FnExactSoftShrink at *
    split at hk
    · obtain ⟨h_0, h_1, k⟩ := hk
      exact ⟨_, _, k []⟩
    · exact hk.elim
  · intro hq; cases hq
  · have mm := @laws_FnExactSoftShrink_main
    revert mm
    generalize bodyK Try.prog E_laws_FnExactSoftShrink Try.f7 = Q
    intro mm args H K hk
    simp only [S_laws_FnExactSoftShrink] at *
    unfold F_laws_FnExactSoftShrink at *
    split at hk
    · exact mm _ _ H K hk
    · exact hk.elim
end Go.Proofs.Ytfofkmlohmodeab.Ai
