/- What functions of the program come to on the abstract machine, and that they do so; printed by a program of mine around proofs of mine. -/
import Derived.Test.YtfofkmlohmodeaaProg
import Derived.Test.YtfofkmlohmodeaaLibA
import Derived.Test.YtfofkmlohmodeaaOpen
set_option linter.unusedVariables false
set_option linter.unusedSimpArgs false
set_option maxRecDepth 100000
namespace Go.Proofs.Ytfofkmlohmodeaa.Ai
open Go
attribute [local irreducible] bodyK
theorem mix_ok : Try.prog.follows .mixedOrders = true := by kernel_rfl
def p_spec_l00In (n : Int) (low : Int) (high : Int) : Bool := (bif decide ((low : Int) ≤ n) then decide ((n : Int) ≤ high) else false)
def T_spec_l00In (n : Int) (low : Int) (high : Int) (H : AHeap) (K : Bool → AHeap → Prop) : Prop := K (p_spec_l00In n low high) H
/-! spec_l00In: function 51 -/
def E_spec_l00In : Env := envOf []
def F_spec_l00In : List Value → AHeap → (Value → AHeap → Prop) → Prop
  | [.int .i64 n, .int .i64 low, .int .i64 high], H, K => T_spec_l00In n low high H fun (r1 : Bool) (H' : AHeap) => K (.bool r1) H'
  | _, _, _ => False
def S_spec_l00In : FSpec := ⟨F_spec_l00In, true⟩
theorem spec_l00In_vc (n : Int) (low : Int) (high : Int) (H : AHeap) (K : Value → AHeap → Prop) : bodyK Try.prog E_spec_l00In Try.f51 [.int .i64 n, .int .i64 low, .int .i64 high] H K =
  (Br (decide ((low : Int) ≤ n)) (K (.bool (decide ((n : Int) ≤ high))) H) (K (.bool false) H)) := by kernel_rfl
theorem E_spec_l00In_ok : ∀ g, FnOk Try.prog g (E_spec_l00In g) := FnOk.envOf (by
  intro x hx; cases hx)
set_option maxHeartbeats 1000000 in
theorem spec_l00In_main (n : Int) (low : Int) (high : Int) (H : AHeap) (K : Value → AHeap → Prop) (h : T_spec_l00In n low high H fun (r1 : Bool) (H' : AHeap) => K (.bool r1) H') : bodyK Try.prog E_spec_l00In Try.f51 [.int .i64 n, .int .i64 low, .int .i64 high] H K := by
  rw [spec_l00In_vc]
  unfold T_spec_l00In p_spec_l00In at h
  repeat' (first | exact h | (exfalso; simp_all; done) | (refine ⟨by decide, ?_⟩) | (refine Br.intro (fun hb => ?_) (fun hb => ?_) <;> (try simp only [hb, cond_true, cond_false, Bool.not_true, Bool.not_false] at h)))
theorem spec_l00In_ok : FnOk Try.prog 51 S_spec_l00In := by
  refine FnOk.body mix_ok E_spec_l00In_ok Try.func51 rfl (by kernel_rfl) (by kernel_rfl) ?_ ?_ ?_ ?_
  · intro args H K K' h hk
    simp only [S_spec_l00In] at *
    unfold F_spec_l00In at *
    split at hk
    · have k := hk
      exact h _ _ k
    · exact hk.elim
  · intro _ args H K hk
    simp only [S_spec_l00In] at *
    unfold F_spec_l00In at *
    split at hk
    · have k := hk
      exact ⟨_, k, fun K' k' => k'⟩
    · exact hk.elim
  · intro args H K hk
    simp only [S_spec_l00In] at *
    unfold F_spec_l00In at *
    split at hk
    · have k := hk
      exact ⟨_, _, k⟩
    · exact hk.elim
  · have mm := @spec_l00In_main
    revert mm
    generalize bodyK Try.prog E_spec_l00In Try.f51 = Q
    intro mm args H K hk
    simp only [S_spec_l00In] at *
    unfold F_spec_l00In at *
    split at hk
    · exact mm _ _ _ H K hk
    · exact hk.elim
def p_spec_l06Zig (n : Int) : Int := (bif decide ((n : Int) < 0) then IntKind.wrap .i64 ((IntKind.wrap .i64 ((-2) * n)) - 1) else IntKind.wrap .i64 (2 * n))
def T_spec_l06Zig (n : Int) (H : AHeap) (K : Int → AHeap → Prop) : Prop := K (p_spec_l06Zig n) H
/-! spec_l06Zig: function 55 -/
def E_spec_l06Zig : Env := envOf []
def F_spec_l06Zig : List Value → AHeap → (Value → AHeap → Prop) → Prop
  | [.int .i64 n], H, K => T_spec_l06Zig n H fun (r1 : Int) (H' : AHeap) => K (.int .i64 r1) H'
  | _, _, _ => False
def S_spec_l06Zig : FSpec := ⟨F_spec_l06Zig, true⟩
theorem spec_l06Zig_vc (n : Int) (H : AHeap) (K : Value → AHeap → Prop) : bodyK Try.prog E_spec_l06Zig Try.f55 [.int .i64 n] H K =
  (Br (decide ((n : Int) < 0)) (K (.int .i64 (IntKind.wrap .i64 ((IntKind.wrap .i64 ((-2) * n)) - 1))) H) (K (.int .i64 (IntKind.wrap .i64 (2 * n))) H)) := by kernel_rfl
theorem E_spec_l06Zig_ok : ∀ g, FnOk Try.prog g (E_spec_l06Zig g) := FnOk.envOf (by
  intro x hx; cases hx)
set_option maxHeartbeats 1000000 in
theorem spec_l06Zig_main (n : Int) (H : AHeap) (K : Value → AHeap → Prop) (h : T_spec_l06Zig n H fun (r1 : Int) (H' : AHeap) => K (.int .i64 r1) H') : bodyK Try.prog E_spec_l06Zig Try.f55 [.int .i64 n] H K := by
  rw [spec_l06Zig_vc]
  unfold T_spec_l06Zig p_spec_l06Zig at h
  repeat' (first | exact h | (exfalso; simp_all; done) | (refine ⟨by decide, ?_⟩) | (refine Br.intro (fun hb => ?_) (fun hb => ?_) <;> (try simp only [hb, cond_true, cond_false, Bool.not_true, Bool.not_false] at h)))
theorem spec_l06Zig_ok : FnOk Try.prog 55 S_spec_l06Zig := by
  refine FnOk.body mix_ok E_spec_l06Zig_ok Try.func55 rfl (by kernel_rfl) (by kernel_rfl) ?_ ?_ ?_ ?_
  · intro args H K K' h hk
    simp only [S_spec_l06Zig] at *
    unfold F_spec_l06Zig at *
    split at hk
    · have k := hk
      exact h _ _ k
    · exact hk.elim
  · intro _ args H K hk
    simp only [S_spec_l06Zig] at *
    unfold F_spec_l06Zig at *
    split at hk
    · have k := hk
      exact ⟨_, k, fun K' k' => k'⟩
    · exact hk.elim
  · intro args H K hk
    simp only [S_spec_l06Zig] at *
    unfold F_spec_l06Zig at *
    split at hk
    · have k := hk
      exact ⟨_, _, k⟩
    · exact hk.elim
  · have mm := @spec_l06Zig_main
    revert mm
    generalize bodyK Try.prog E_spec_l06Zig Try.f55 = Q
    intro mm args H K hk
    simp only [S_spec_l06Zig] at *
    unfold F_spec_l06Zig at *
    split at hk
    · exact mm _ H K hk
    · exact hk.elim
def p_spec_ZigZag (n : Int) : Int × Bool := (bif !((p_spec_l00In n (-1000000) 1000000)) then ((0 : Int), false) else ((p_spec_l06Zig n), true))
def T_spec_ZigZag (n : Int) (H : AHeap) (K : Int → Bool → AHeap → Prop) : Prop := K (p_spec_ZigZag n).1 (p_spec_ZigZag n).2 H
/-! spec_ZigZag: function 17 -/
def E_spec_ZigZag : Env := envOf [(51, S_spec_l00In), (55, S_spec_l06Zig)]
def F_spec_ZigZag : List Value → AHeap → (Value → AHeap → Prop) → Prop
  | [.int .i64 n], H, K => T_spec_ZigZag n H fun (r1 : Int) (r2 : Bool) (H' : AHeap) => K (.tuple #[.int .i64 r1, .bool r2]) H'
  | _, _, _ => False
def S_spec_ZigZag : FSpec := ⟨F_spec_ZigZag, true⟩
theorem spec_ZigZag_vc (n : Int) (H : AHeap) (K : Value → AHeap → Prop) : bodyK Try.prog E_spec_ZigZag Try.f17 [.int .i64 n] H K =
  (T_spec_l00In n (-1000000) 1000000 H fun (r1 : Bool) (H1 : AHeap) => Br (!r1) (K (.tuple #[.int .i64 0, .bool false]) H1) (T_spec_l06Zig n H1 fun (r2 : Int) (H2 : AHeap) => K (.tuple #[.int .i64 r2, .bool true]) H2)) := by kernel_rfl
theorem E_spec_ZigZag_ok : ∀ g, FnOk Try.prog g (E_spec_ZigZag g) := FnOk.envOf (by
  intro x hx
  simp only [List.mem_cons, List.not_mem_nil, or_false] at hx
  rcases hx with rfl | rfl
  · exact spec_l00In_ok
  · exact spec_l06Zig_ok)
set_option maxHeartbeats 1000000 in
theorem spec_ZigZag_main (n : Int) (H : AHeap) (K : Value → AHeap → Prop) (h : T_spec_ZigZag n H fun (r1 : Int) (r2 : Bool) (H' : AHeap) => K (.tuple #[.int .i64 r1, .bool r2]) H') : bodyK Try.prog E_spec_ZigZag Try.f17 [.int .i64 n] H K := by
  rw [spec_ZigZag_vc]
  simp only [T_spec_l00In, T_spec_l06Zig]
  unfold T_spec_ZigZag p_spec_ZigZag at h
  repeat' (first | exact h | (exfalso; simp_all; done) | (refine ⟨by decide, ?_⟩) | (refine Br.intro (fun hb => ?_) (fun hb => ?_) <;> (try simp only [hb, cond_true, cond_false, Bool.not_true, Bool.not_false] at h)))
theorem spec_ZigZag_ok : FnOk Try.prog 17 S_spec_ZigZag := by
  refine FnOk.body mix_ok E_spec_ZigZag_ok Try.func17 rfl (by kernel_rfl) (by kernel_rfl) ?_ ?_ ?_ ?_
  · intro args H K K' h hk
    simp only [S_spec_ZigZag] at *
    unfold F_spec_ZigZag at *
    split at hk
    · have k := hk
      exact h _ _ k
    · exact hk.elim
  · intro _ args H K hk
    simp only [S_spec_ZigZag] at *
    unfold F_spec_ZigZag at *
    split at hk
    · have k := hk
      exact ⟨_, k, fun K' k' => k'⟩
    · exact hk.elim
  · intro args H K hk
    simp only [S_spec_ZigZag] at *
    unfold F_spec_ZigZag at *
    split at hk
    · have k := hk
      exact ⟨_, _, k⟩
    · exact hk.elim
  · have mm := @spec_ZigZag_main
    revert mm
    generalize bodyK Try.prog E_spec_ZigZag Try.f17 = Q
    intro mm args H K hk
    simp only [S_spec_ZigZag] at *
    unfold F_spec_ZigZag at *
    split at hk
    · exact mm _ H K hk
    · exact hk.elim
def p_impl_within (n : Int) (low : Int) (high : Int) : Bool := (bif decide ((low : Int) ≤ n) then decide ((n : Int) ≤ high) else false)
def T_impl_within (n : Int) (low : Int) (high : Int) (H : AHeap) (K : Bool → AHeap → Prop) : Prop := K (p_impl_within n low high) H
/-! impl_within: function 53 -/
def E_impl_within : Env := envOf []
def F_impl_within : List Value → AHeap → (Value → AHeap → Prop) → Prop
  | [.int .i64 n, .int .i64 low, .int .i64 high], H, K => T_impl_within n low high H fun (r1 : Bool) (H' : AHeap) => K (.bool r1) H'
  | _, _, _ => False
def S_impl_within : FSpec := ⟨F_impl_within, true⟩
theorem impl_within_vc (n : Int) (low : Int) (high : Int) (H : AHeap) (K : Value → AHeap → Prop) : bodyK Try.prog E_impl_within Try.f53 [.int .i64 n, .int .i64 low, .int .i64 high] H K =
  (Br (decide ((low : Int) ≤ n)) (K (.bool (decide ((n : Int) ≤ high))) H) (K (.bool false) H)) := by kernel_rfl
theorem E_impl_within_ok : ∀ g, FnOk Try.prog g (E_impl_within g) := FnOk.envOf (by
  intro x hx; cases hx)
set_option maxHeartbeats 1000000 in
theorem impl_within_main (n : Int) (low : Int) (high : Int) (H : AHeap) (K : Value → AHeap → Prop) (h : T_impl_within n low high H fun (r1 : Bool) (H' : AHeap) => K (.bool r1) H') : bodyK Try.prog E_impl_within Try.f53 [.int .i64 n, .int .i64 low, .int .i64 high] H K := by
  rw [impl_within_vc]
  unfold T_impl_within p_impl_within at h
  repeat' (first | exact h | (exfalso; simp_all; done) | (refine ⟨by decide, ?_⟩) | (refine Br.intro (fun hb => ?_) (fun hb => ?_) <;> (try simp only [hb, cond_true, cond_false, Bool.not_true, Bool.not_false] at h)))
theorem impl_within_ok : FnOk Try.prog 53 S_impl_within := by
  refine FnOk.body mix_ok E_impl_within_ok Try.func53 rfl (by kernel_rfl) (by kernel_rfl) ?_ ?_ ?_ ?_
  · intro args H K K' h hk
    simp only [S_impl_within] at *
    unfold F_impl_within at *
    split at hk
    · have k := hk
      exact h _ _ k
    · exact hk.elim
  · intro _ args H K hk
    simp only [S_impl_within] at *
    unfold F_impl_within at *
    split at hk
    · have k := hk
      exact ⟨_, k, fun K' k' => k'⟩
    · exact hk.elim
  · intro args H K hk
    simp only [S_impl_within] at *
    unfold F_impl_within at *
    split at hk
    · have k := hk
      exact ⟨_, _, k⟩
    · exact hk.elim
  · have mm := @impl_within_main
    revert mm
    generalize bodyK Try.prog E_impl_within Try.f53 = Q
    intro mm args H K hk
    simp only [S_impl_within] at *
    unfold F_impl_within at *
    split at hk
    · exact mm _ _ _ H K hk
    · exact hk.elim
def p_impl_zigZag (n : Int) : Int := (bif decide ((0 : Int) ≤ n) then IntKind.wrap .i64 (2 * n) else IntKind.wrap .i64 ((IntKind.wrap .i64 ((-2) * n)) - 1))
def T_impl_zigZag (n : Int) (H : AHeap) (K : Int → AHeap → Prop) : Prop := K (p_impl_zigZag n) H
/-! impl_zigZag: function 56 -/
def E_impl_zigZag : Env := envOf []
def F_impl_zigZag : List Value → AHeap → (Value → AHeap → Prop) → Prop
  | [.int .i64 n], H, K => T_impl_zigZag n H fun (r1 : Int) (H' : AHeap) => K (.int .i64 r1) H'
  | _, _, _ => False
def S_impl_zigZag : FSpec := ⟨F_impl_zigZag, true⟩
theorem impl_zigZag_vc (n : Int) (H : AHeap) (K : Value → AHeap → Prop) : bodyK Try.prog E_impl_zigZag Try.f56 [.int .i64 n] H K =
  (Br (decide ((0 : Int) ≤ n)) (K (.int .i64 (IntKind.wrap .i64 (2 * n))) H) (K (.int .i64 (IntKind.wrap .i64 ((IntKind.wrap .i64 ((-2) * n)) - 1))) H)) := by kernel_rfl
theorem E_impl_zigZag_ok : ∀ g, FnOk Try.prog g (E_impl_zigZag g) := FnOk.envOf (by
  intro x hx; cases hx)
set_option maxHeartbeats 1000000 in
theorem impl_zigZag_main (n : Int) (H : AHeap) (K : Value → AHeap → Prop) (h : T_impl_zigZag n H fun (r1 : Int) (H' : AHeap) => K (.int .i64 r1) H') : bodyK Try.prog E_impl_zigZag Try.f56 [.int .i64 n] H K := by
  rw [impl_zigZag_vc]
  unfold T_impl_zigZag p_impl_zigZag at h
  repeat' (first | exact h | (exfalso; simp_all; done) | (refine ⟨by decide, ?_⟩) | (refine Br.intro (fun hb => ?_) (fun hb => ?_) <;> (try simp only [hb, cond_true, cond_false, Bool.not_true, Bool.not_false] at h)))
theorem impl_zigZag_ok : FnOk Try.prog 56 S_impl_zigZag := by
  refine FnOk.body mix_ok E_impl_zigZag_ok Try.func56 rfl (by kernel_rfl) (by kernel_rfl) ?_ ?_ ?_ ?_
  · intro args H K K' h hk
    simp only [S_impl_zigZag] at *
    unfold F_impl_zigZag at *
    split at hk
    · have k := hk
      exact h _ _ k
    · exact hk.elim
  · intro _ args H K hk
    simp only [S_impl_zigZag] at *
    unfold F_impl_zigZag at *
    split at hk
    · have k := hk
      exact ⟨_, k, fun K' k' => k'⟩
    · exact hk.elim
  · intro args H K hk
    simp only [S_impl_zigZag] at *
    unfold F_impl_zigZag at *
    split at hk
    · have k := hk
      exact ⟨_, _, k⟩
    · exact hk.elim
  · have mm := @impl_zigZag_main
    revert mm
    generalize bodyK Try.prog E_impl_zigZag Try.f56 = Q
    intro mm args H K hk
    simp only [S_impl_zigZag] at *
    unfold F_impl_zigZag at *
    split at hk
    · exact mm _ H K hk
    · exact hk.elim
def p_impl_ZigZag (n : Int) : Int × Bool := (bif !((p_impl_within n (-1000000) 1000000)) then ((0 : Int), false) else ((p_impl_zigZag n), true))
def T_impl_ZigZag (n : Int) (H : AHeap) (K : Int → Bool → AHeap → Prop) : Prop := K (p_impl_ZigZag n).1 (p_impl_ZigZag n).2 H
/-! impl_ZigZag: function 18 -/
def E_impl_ZigZag : Env := envOf [(53, S_impl_within), (56, S_impl_zigZag)]
def F_impl_ZigZag : List Value → AHeap → (Value → AHeap → Prop) → Prop
  | [.int .i64 n], H, K => T_impl_ZigZag n H fun (r1 : Int) (r2 : Bool) (H' : AHeap) => K (.tuple #[.int .i64 r1, .bool r2]) H'
  | _, _, _ => False
def S_impl_ZigZag : FSpec := ⟨F_impl_ZigZag, true⟩
theorem impl_ZigZag_vc (n : Int) (H : AHeap) (K : Value → AHeap → Prop) : bodyK Try.prog E_impl_ZigZag Try.f18 [.int .i64 n] H K =
  (T_impl_within n (-1000000) 1000000 H fun (r1 : Bool) (H1 : AHeap) => Br (!r1) (K (.tuple #[.int .i64 0, .bool false]) H1) (T_impl_zigZag n H1 fun (r2 : Int) (H2 : AHeap) => K (.tuple #[.int .i64 r2, .bool true]) H2)) := by kernel_rfl
theorem E_impl_ZigZag_ok : ∀ g, FnOk Try.prog g (E_impl_ZigZag g) := FnOk.envOf (by
  intro x hx
  simp only [List.mem_cons, List.not_mem_nil, or_false] at hx
  rcases hx with rfl | rfl
  · exact impl_within_ok
  · exact impl_zigZag_ok)
set_option maxHeartbeats 1000000 in
theorem impl_ZigZag_main (n : Int) (H : AHeap) (K : Value → AHeap → Prop) (h : T_impl_ZigZag n H fun (r1 : Int) (r2 : Bool) (H' : AHeap) => K (.tuple #[.int .i64 r1, .bool r2]) H') : bodyK Try.prog E_impl_ZigZag Try.f18 [.int .i64 n] H K := by
  rw [impl_ZigZag_vc]
  simp only [T_impl_within, T_impl_zigZag]
  unfold T_impl_ZigZag p_impl_ZigZag at h
  repeat' (first | exact h | (exfalso; simp_all; done) | (refine ⟨by decide, ?_⟩) | (refine Br.intro (fun hb => ?_) (fun hb => ?_) <;> (try simp only [hb, cond_true, cond_false, Bool.not_true, Bool.not_false] at h)))
theorem impl_ZigZag_ok : FnOk Try.prog 18 S_impl_ZigZag := by
  refine FnOk.body mix_ok E_impl_ZigZag_ok Try.func18 rfl (by kernel_rfl) (by kernel_rfl) ?_ ?_ ?_ ?_
  · intro args H K K' h hk
    simp only [S_impl_ZigZag] at *
    unfold F_impl_ZigZag at *
    split at hk
    · have k := hk
      exact h _ _ k
    · exact hk.elim
  · intro _ args H K hk
    simp only [S_impl_ZigZag] at *
    unfold F_impl_ZigZag at *
    split at hk
    · have k := hk
      exact ⟨_, k, fun K' k' => k'⟩
    · exact hk.elim
  · intro args H K hk
    simp only [S_impl_ZigZag] at *
    unfold F_impl_ZigZag at *
    split at hk
    · have k := hk
      exact ⟨_, _, k⟩
    · exact hk.elim
  · have mm := @impl_ZigZag_main
    revert mm
    generalize bodyK Try.prog E_impl_ZigZag Try.f18 = Q
    intro mm args H K hk
    simp only [S_impl_ZigZag] at *
    unfold F_impl_ZigZag at *
    split at hk
    · exact mm _ H K hk
    · exact hk.elim
def T_laws_FnExactZigZag (aN : Int) (H : AHeap) (K : Bool → AHeap → Prop) : Prop := I64 aN ∧ ∀ H' : AHeap, K true H'
/-! laws_FnExactZigZag: function 4 -/
def E_laws_FnExactZigZag : Env := envOf [(17, S_spec_ZigZag), (18, S_impl_ZigZag)]
def F_laws_FnExactZigZag : List Value → AHeap → (Value → AHeap → Prop) → Prop
  | [.int .i64 aN], H, K => T_laws_FnExactZigZag aN H fun (r1 : Bool) (H' : AHeap) => K (.bool r1) H'
  | _, _, _ => False
def S_laws_FnExactZigZag : FSpec := ⟨F_laws_FnExactZigZag, false⟩
theorem laws_FnExactZigZag_vc (aN : Int) (H : AHeap) (K : Value → AHeap → Prop) : bodyK Try.prog E_laws_FnExactZigZag Try.f4 [.int .i64 aN] H K =
  (T_spec_ZigZag aN H fun (r1 : Int) (r2 : Bool) (H1 : AHeap) => T_impl_ZigZag aN H1 fun (r3 : Int) (r4 : Bool) (H2 : AHeap) => Br ((r3 : Int) != r1) (K (.bool false) H2) (Br (!(r4 == r2)) (K (.bool false) H2) (K (.bool true) H2))) := by kernel_rfl
theorem E_laws_FnExactZigZag_ok : ∀ g, FnOk Try.prog g (E_laws_FnExactZigZag g) := FnOk.envOf (by
  intro x hx
  simp only [List.mem_cons, List.not_mem_nil, or_false] at hx
  rcases hx with rfl | rfl
  · exact spec_ZigZag_ok
  · exact impl_ZigZag_ok)
theorem zig_same (n : Int) : p_spec_ZigZag n = p_impl_ZigZag n := by
  have e : p_spec_l06Zig n = p_impl_zigZag n := by
    unfold p_spec_l06Zig p_impl_zigZag
    by_cases h : n < 0
    · rw [decide_eq_true h, decide_eq_false (show ¬ 0 ≤ n by omega)]; rfl
    · rw [decide_eq_false h, decide_eq_true (show 0 ≤ n by omega)]; rfl
  unfold p_spec_ZigZag p_impl_ZigZag
  rw [e]; rfl
set_option maxHeartbeats 1000000 in
theorem laws_FnExactZigZag_main (aN : Int) (H : AHeap) (K : Value → AHeap → Prop) (h : T_laws_FnExactZigZag aN H fun (r1 : Bool) (H' : AHeap) => K (.bool r1) H') : bodyK Try.prog E_laws_FnExactZigZag Try.f4 [.int .i64 aN] H K := by
  rw [laws_FnExactZigZag_vc]
  simp only [T_spec_ZigZag, T_impl_ZigZag, zig_same]
  obtain ⟨_, k⟩ := h
  simpa [Br_true, Br_false, Br] using k H
theorem laws_FnExactZigZag_ok : FnOk Try.prog 4 S_laws_FnExactZigZag := by
  refine FnOk.body mix_ok E_laws_FnExactZigZag_ok Try.func4 rfl (by kernel_rfl) (by kernel_rfl) ?_ ?_ ?_ ?_
  · intro args H K K' h hk
    simp only [S_laws_FnExactZigZag] at *
    unfold F_laws_FnExactZigZag at *
    split at hk
    · obtain ⟨h_0, k⟩ := hk
      exact ⟨h_0, (fun H' => h _ _ (k H'))⟩
    · exact hk.elim
  · intro hq; cases hq
  · intro args H K hk
    simp only [S_laws_FnExactZigZag] at *
    unfold F_laws_FnExactZigZag at *
    split at hk
    · obtain ⟨h_0, k⟩ := hk
      exact ⟨_, _, k []⟩
    · exact hk.elim
  · have mm := @laws_FnExactZigZag_main
    revert mm
    generalize bodyK Try.prog E_laws_FnExactZigZag Try.f4 = Q
    intro mm args H K hk
    simp only [S_laws_FnExactZigZag] at *
    unfold F_laws_FnExactZigZag at *
    split at hk
    · exact mm _ H K hk
    · exact hk.elim
def p_spec_l06Zag (n : Int) : Int := (bif (Int.tmod n 2 : Int) == 1 then IntKind.wrap .i64 (Int.tdiv (IntKind.wrap .i64 (0 - (IntKind.wrap .i64 (n + 1)))) 2) else IntKind.wrap .i64 (Int.tdiv n 2))
def T_spec_l06Zag (n : Int) (H : AHeap) (K : Int → AHeap → Prop) : Prop := K (p_spec_l06Zag n) H
/-! spec_l06Zag: function 52 -/
def E_spec_l06Zag : Env := envOf []
def F_spec_l06Zag : List Value → AHeap → (Value → AHeap → Prop) → Prop
  | [.int .i64 n], H, K => T_spec_l06Zag n H fun (r1 : Int) (H' : AHeap) => K (.int .i64 r1) H'
  | _, _, _ => False
def S_spec_l06Zag : FSpec := ⟨F_spec_l06Zag, true⟩
theorem spec_l06Zag_vc (n : Int) (H : AHeap) (K : Value → AHeap → Prop) : bodyK Try.prog E_spec_l06Zag Try.f52 [.int .i64 n] H K =
  (2 ≠ (0 : Int) ∧ Br ((Int.tmod n 2 : Int) == 1) (2 ≠ (0 : Int) ∧ K (.int .i64 (IntKind.wrap .i64 (Int.tdiv (IntKind.wrap .i64 (0 - (IntKind.wrap .i64 (n + 1)))) 2))) H) (2 ≠ (0 : Int) ∧ K (.int .i64 (IntKind.wrap .i64 (Int.tdiv n 2))) H)) := by kernel_rfl
theorem E_spec_l06Zag_ok : ∀ g, FnOk Try.prog g (E_spec_l06Zag g) := FnOk.envOf (by
  intro x hx; cases hx)
set_option maxHeartbeats 1000000 in
theorem spec_l06Zag_main (n : Int) (H : AHeap) (K : Value → AHeap → Prop) (h : T_spec_l06Zag n H fun (r1 : Int) (H' : AHeap) => K (.int .i64 r1) H') : bodyK Try.prog E_spec_l06Zag Try.f52 [.int .i64 n] H K := by
  rw [spec_l06Zag_vc]
  unfold T_spec_l06Zag p_spec_l06Zag at h
  repeat' (first | exact h | (exfalso; simp_all; done) | (refine ⟨by decide, ?_⟩) | (refine Br.intro (fun hb => ?_) (fun hb => ?_) <;> (try simp only [hb, cond_true, cond_false, Bool.not_true, Bool.not_false] at h)))
theorem spec_l06Zag_ok : FnOk Try.prog 52 S_spec_l06Zag := by
  refine FnOk.body mix_ok E_spec_l06Zag_ok Try.func52 rfl (by kernel_rfl) (by kernel_rfl) ?_ ?_ ?_ ?_
  · intro args H K K' h hk
    simp only [S_spec_l06Zag] at *
    unfold F_spec_l06Zag at *
    split at hk
    · have k := hk
      exact h _ _ k
    · exact hk.elim
  · intro _ args H K hk
    simp only [S_spec_l06Zag] at *
    unfold F_spec_l06Zag at *
    split at hk
    · have k := hk
      exact ⟨_, k, fun K' k' => k'⟩
    · exact hk.elim
  · intro args H K hk
    simp only [S_spec_l06Zag] at *
    unfold F_spec_l06Zag at *
    split at hk
    · have k := hk
      exact ⟨_, _, k⟩
    · exact hk.elim
  · have mm := @spec_l06Zag_main
    revert mm
    generalize bodyK Try.prog E_spec_l06Zag Try.f52 = Q
    intro mm args H K hk
    simp only [S_spec_l06Zag] at *
    unfold F_spec_l06Zag at *
    split at hk
    · exact mm _ H K hk
    · exact hk.elim
def p_spec_FromZigZag (n : Int) : Int × Bool := (bif !(p_spec_l00In n 0 2000000) then ((0 : Int), false) else ((p_spec_l06Zag n), true))
def T_spec_FromZigZag (n : Int) (H : AHeap) (K : Int → Bool → AHeap → Prop) : Prop := K (p_spec_FromZigZag n).1 (p_spec_FromZigZag n).2 H
/-! spec_FromZigZag: function 15 -/
def E_spec_FromZigZag : Env := envOf [(51, S_spec_l00In), (52, S_spec_l06Zag)]
def F_spec_FromZigZag : List Value → AHeap → (Value → AHeap → Prop) → Prop
  | [.int .i64 n], H, K => T_spec_FromZigZag n H fun (r1 : Int) (r2 : Bool) (H' : AHeap) => K (.tuple #[.int .i64 r1, .bool r2]) H'
  | _, _, _ => False
def S_spec_FromZigZag : FSpec := ⟨F_spec_FromZigZag, true⟩
theorem spec_FromZigZag_vc (n : Int) (H : AHeap) (K : Value → AHeap → Prop) : bodyK Try.prog E_spec_FromZigZag Try.f15 [.int .i64 n] H K =
  (T_spec_l00In n 0 2000000 H fun (r1 : Bool) (H1 : AHeap) => Br (!r1) (K (.tuple #[.int .i64 0, .bool false]) H1) (T_spec_l06Zag n H1 fun (r2 : Int) (H2 : AHeap) => K (.tuple #[.int .i64 r2, .bool true]) H2)) := by kernel_rfl
theorem E_spec_FromZigZag_ok : ∀ g, FnOk Try.prog g (E_spec_FromZigZag g) := FnOk.envOf (by
  intro x hx
  simp only [List.mem_cons, List.not_mem_nil, or_false] at hx
  rcases hx with rfl | rfl
  · exact spec_l00In_ok
  · exact spec_l06Zag_ok)
set_option maxHeartbeats 1000000 in
theorem spec_FromZigZag_main (n : Int) (H : AHeap) (K : Value → AHeap → Prop) (h : T_spec_FromZigZag n H fun (r1 : Int) (r2 : Bool) (H' : AHeap) => K (.tuple #[.int .i64 r1, .bool r2]) H') : bodyK Try.prog E_spec_FromZigZag Try.f15 [.int .i64 n] H K := by
  rw [spec_FromZigZag_vc]
  simp only [T_spec_l00In, T_spec_l06Zag]
  unfold T_spec_FromZigZag p_spec_FromZigZag at h
  repeat' (first | exact h | (exfalso; simp_all; done) | (refine ⟨by decide, ?_⟩) | (refine Br.intro (fun hb => ?_) (fun hb => ?_) <;> (try simp only [hb, cond_true, cond_false, Bool.not_true, Bool.not_false] at h)))
theorem spec_FromZigZag_ok : FnOk Try.prog 15 S_spec_FromZigZag := by
  refine FnOk.body mix_ok E_spec_FromZigZag_ok Try.func15 rfl (by kernel_rfl) (by kernel_rfl) ?_ ?_ ?_ ?_
  · intro args H K K' h hk
    simp only [S_spec_FromZigZag] at *
    unfold F_spec_FromZigZag at *
    split at hk
    · have k := hk
      exact h _ _ k
    · exact hk.elim
  · intro _ args H K hk
    simp only [S_spec_FromZigZag] at *
    unfold F_spec_FromZigZag at *
    split at hk
    · have k := hk
      exact ⟨_, k, fun K' k' => k'⟩
    · exact hk.elim
  · intro args H K hk
    simp only [S_spec_FromZigZag] at *
    unfold F_spec_FromZigZag at *
    split at hk
    · have k := hk
      exact ⟨_, _, k⟩
    · exact hk.elim
  · have mm := @spec_FromZigZag_main
    revert mm
    generalize bodyK Try.prog E_spec_FromZigZag Try.f15 = Q
    intro mm args H K hk
    simp only [S_spec_FromZigZag] at *
    unfold F_spec_FromZigZag at *
    split at hk
    · exact mm _ H K hk
    · exact hk.elim
def p_impl_fromZigZag (n : Int) : Int := (bif (Int.tmod n 2 : Int) == 0 then IntKind.wrap .i64 (Int.tdiv n 2) else IntKind.wrap .i64 (Int.tdiv (IntKind.wrap .i64 (0 - (IntKind.wrap .i64 (n + 1)))) 2))
def T_impl_fromZigZag (n : Int) (H : AHeap) (K : Int → AHeap → Prop) : Prop := K (p_impl_fromZigZag n) H
/-! impl_fromZigZag: function 54 -/
def E_impl_fromZigZag : Env := envOf []
def F_impl_fromZigZag : List Value → AHeap → (Value → AHeap → Prop) → Prop
  | [.int .i64 n], H, K => T_impl_fromZigZag n H fun (r1 : Int) (H' : AHeap) => K (.int .i64 r1) H'
  | _, _, _ => False
def S_impl_fromZigZag : FSpec := ⟨F_impl_fromZigZag, true⟩
theorem impl_fromZigZag_vc (n : Int) (H : AHeap) (K : Value → AHeap → Prop) : bodyK Try.prog E_impl_fromZigZag Try.f54 [.int .i64 n] H K =
  (2 ≠ (0 : Int) ∧ Br ((Int.tmod n 2 : Int) == 0) (2 ≠ (0 : Int) ∧ K (.int .i64 (IntKind.wrap .i64 (Int.tdiv n 2))) H) (2 ≠ (0 : Int) ∧ K (.int .i64 (IntKind.wrap .i64 (Int.tdiv (IntKind.wrap .i64 (0 - (IntKind.wrap .i64 (n + 1)))) 2))) H)) := by kernel_rfl
theorem E_impl_fromZigZag_ok : ∀ g, FnOk Try.prog g (E_impl_fromZigZag g) := FnOk.envOf (by
  intro x hx; cases hx)
set_option maxHeartbeats 1000000 in
theorem impl_fromZigZag_main (n : Int) (H : AHeap) (K : Value → AHeap → Prop) (h : T_impl_fromZigZag n H fun (r1 : Int) (H' : AHeap) => K (.int .i64 r1) H') : bodyK Try.prog E_impl_fromZigZag Try.f54 [.int .i64 n] H K := by
  rw [impl_fromZigZag_vc]
  unfold T_impl_fromZigZag p_impl_fromZigZag at h
  repeat' (first | exact h | (exfalso; simp_all; done) | (refine ⟨by decide, ?_⟩) | (refine Br.intro (fun hb => ?_) (fun hb => ?_) <;> (try simp only [hb, cond_true, cond_false, Bool.not_true, Bool.not_false] at h)))
theorem impl_fromZigZag_ok : FnOk Try.prog 54 S_impl_fromZigZag := by
  refine FnOk.body mix_ok E_impl_fromZigZag_ok Try.func54 rfl (by kernel_rfl) (by kernel_rfl) ?_ ?_ ?_ ?_
  · intro args H K K' h hk
    simp only [S_impl_fromZigZag] at *
    unfold F_impl_fromZigZag at *
    split at hk
    · have k := hk
      exact h _ _ k
    · exact hk.elim
  · intro _ args H K hk
    simp only [S_impl_fromZigZag] at *
    unfold F_impl_fromZigZag at *
    split at hk
    · have k := hk
      exact ⟨_, k, fun K' k' => k'⟩
    · exact hk.elim
  · intro args H K hk
    simp only [S_impl_fromZigZag] at *
    unfold F_impl_fromZigZag at *
    split at hk
    · have k := hk
      exact ⟨_, _, k⟩
    · exact hk.elim
  · have mm := @impl_fromZigZag_main
    revert mm
    generalize bodyK Try.prog E_impl_fromZigZag Try.f54 = Q
    intro mm args H K hk
    simp only [S_impl_fromZigZag] at *
    unfold F_impl_fromZigZag at *
    split at hk
    · exact mm _ H K hk
    · exact hk.elim
def p_impl_FromZigZag (n : Int) : Int × Bool := (bif !(p_impl_within n 0 2000000) then ((0 : Int), false) else ((p_impl_fromZigZag n), true))
def T_impl_FromZigZag (n : Int) (H : AHeap) (K : Int → Bool → AHeap → Prop) : Prop := K (p_impl_FromZigZag n).1 (p_impl_FromZigZag n).2 H
/-! impl_FromZigZag: function 16 -/
def E_impl_FromZigZag : Env := envOf [(53, S_impl_within), (54, S_impl_fromZigZag)]
def F_impl_FromZigZag : List Value → AHeap → (Value → AHeap → Prop) → Prop
  | [.int .i64 n], H, K => T_impl_FromZigZag n H fun (r1 : Int) (r2 : Bool) (H' : AHeap) => K (.tuple #[.int .i64 r1, .bool r2]) H'
  | _, _, _ => False
def S_impl_FromZigZag : FSpec := ⟨F_impl_FromZigZag, true⟩
theorem impl_FromZigZag_vc (n : Int) (H : AHeap) (K : Value → AHeap → Prop) : bodyK Try.prog E_impl_FromZigZag Try.f16 [.int .i64 n] H K =
  (T_impl_within n 0 2000000 H fun (r1 : Bool) (H1 : AHeap) => Br (!r1) (K (.tuple #[.int .i64 0, .bool false]) H1) (T_impl_fromZigZag n H1 fun (r2 : Int) (H2 : AHeap) => K (.tuple #[.int .i64 r2, .bool true]) H2)) := by kernel_rfl
theorem E_impl_FromZigZag_ok : ∀ g, FnOk Try.prog g (E_impl_FromZigZag g) := FnOk.envOf (by
  intro x hx
  simp only [List.mem_cons, List.not_mem_nil, or_false] at hx
  rcases hx with rfl | rfl
  · exact impl_within_ok
  · exact impl_fromZigZag_ok)
set_option maxHeartbeats 1000000 in
theorem impl_FromZigZag_main (n : Int) (H : AHeap) (K : Value → AHeap → Prop) (h : T_impl_FromZigZag n H fun (r1 : Int) (r2 : Bool) (H' : AHeap) => K (.tuple #[.int .i64 r1, .bool r2]) H') : bodyK Try.prog E_impl_FromZigZag Try.f16 [.int .i64 n] H K := by
  rw [impl_FromZigZag_vc]
  simp only [T_impl_within, T_impl_fromZigZag]
  unfold T_impl_FromZigZag p_impl_FromZigZag at h
  repeat' (first | exact h | (exfalso; simp_all; done) | (refine ⟨by decide, ?_⟩) | (refine Br.intro (fun hb => ?_) (fun hb => ?_) <;> (try simp only [hb, cond_true, cond_false, Bool.not_true, Bool.not_false] at h)))
theorem impl_FromZigZag_ok : FnOk Try.prog 16 S_impl_FromZigZag := by
  refine FnOk.body mix_ok E_impl_FromZigZag_ok Try.func16 rfl (by kernel_rfl) (by kernel_rfl) ?_ ?_ ?_ ?_
  · intro args H K K' h hk
    simp only [S_impl_FromZigZag] at *
    unfold F_impl_FromZigZag at *
    split at hk
    · have k := hk
      exact h _ _ k
    · exact hk.elim
  · intro _ args H K hk
    simp only [S_impl_FromZigZag] at *
    unfold F_impl_FromZigZag at *
    split at hk
    · have k := hk
      exact ⟨_, k, fun K' k' => k'⟩
    · exact hk.elim
  · intro args H K hk
    simp only [S_impl_FromZigZag] at *
    unfold F_impl_FromZigZag at *
    split at hk
    · have k := hk
      exact ⟨_, _, k⟩
    · exact hk.elim
  · have mm := @impl_FromZigZag_main
    revert mm
    generalize bodyK Try.prog E_impl_FromZigZag Try.f16 = Q
    intro mm args H K hk
    simp only [S_impl_FromZigZag] at *
    unfold F_impl_FromZigZag at *
    split at hk
    · exact mm _ H K hk
    · exact hk.elim
def T_laws_FnExactFromZigZag (aN : Int) (H : AHeap) (K : Bool → AHeap → Prop) : Prop := I64 aN ∧ ∀ H' : AHeap, K true H'
/-! laws_FnExactFromZigZag: function 3 -/
def E_laws_FnExactFromZigZag : Env := envOf [(15, S_spec_FromZigZag), (16, S_impl_FromZigZag)]
def F_laws_FnExactFromZigZag : List Value → AHeap → (Value → AHeap → Prop) → Prop
  | [.int .i64 aN], H, K => T_laws_FnExactFromZigZag aN H fun (r1 : Bool) (H' : AHeap) => K (.bool r1) H'
  | _, _, _ => False
def S_laws_FnExactFromZigZag : FSpec := ⟨F_laws_FnExactFromZigZag, false⟩
theorem laws_FnExactFromZigZag_vc (aN : Int) (H : AHeap) (K : Value → AHeap → Prop) : bodyK Try.prog E_laws_FnExactFromZigZag Try.f3 [.int .i64 aN] H K =
  (T_spec_FromZigZag aN H fun (r1 : Int) (r2 : Bool) (H1 : AHeap) => T_impl_FromZigZag aN H1 fun (r3 : Int) (r4 : Bool) (H2 : AHeap) => Br ((r3 : Int) != r1) (K (.bool false) H2) (Br (!(r4 == r2)) (K (.bool false) H2) (K (.bool true) H2))) := by kernel_rfl
theorem E_laws_FnExactFromZigZag_ok : ∀ g, FnOk Try.prog g (E_laws_FnExactFromZigZag g) := FnOk.envOf (by
  intro x hx
  simp only [List.mem_cons, List.not_mem_nil, or_false] at hx
  rcases hx with rfl | rfl
  · exact spec_FromZigZag_ok
  · exact impl_FromZigZag_ok)
theorem zag_same (n : Int) : p_spec_FromZigZag n = p_impl_FromZigZag n := by
  have e : p_spec_l00In n 0 2000000 = true → p_spec_l06Zag n = p_impl_fromZigZag n := by
    intro h
    have h0 : 0 ≤ n := by
      unfold p_spec_l00In at h
      by_cases h0 : 0 ≤ n
      · exact h0
      · rw [decide_eq_false h0] at h; cases h
    unfold p_spec_l06Zag p_impl_fromZigZag
    have h2 : Int.tmod n 2 = 0 ∨ Int.tmod n 2 = 1 := by rw [Int.tmod_eq_emod_of_nonneg h0]; omega
    rcases h2 with h2 | h2 <;> rw [h2] <;> rfl
  unfold p_spec_FromZigZag p_impl_FromZigZag
  show (bif !(p_spec_l00In n 0 2000000) then _ else _) = (bif !(p_spec_l00In n 0 2000000) then _ else _)
  cases h : p_spec_l00In n 0 2000000 with
  | true => rw [e h]
  | false => rfl
set_option maxHeartbeats 1000000 in
theorem laws_FnExactFromZigZag_main (aN : Int) (H : AHeap) (K : Value → AHeap → Prop) (h : T_laws_FnExactFromZigZag aN H fun (r1 : Bool) (H' : AHeap) => K (.bool r1) H') : bodyK Try.prog E_laws_FnExactFromZigZag Try.f3 [.int .i64 aN] H K := by
  rw [laws_FnExactFromZigZag_vc]
  simp only [T_spec_FromZigZag, T_impl_FromZigZag, zag_same]
  obtain ⟨_, k⟩ := h
  simpa [Br_true, Br_false, Br] using k H
theorem laws_FnExactFromZigZag_ok : FnOk Try.prog 3 S_laws_FnExactFromZigZag := by
  refine FnOk.body mix_ok E_laws_FnExactFromZigZag_ok Try.func3 rfl (by kernel_rfl) (by kernel_rfl) ?_ ?_ ?_ ?_
  · intro args H K K' h hk
    simp only [S_laws_FnExactFromZigZag] at *
    unfold F_laws_FnExactFromZigZag at *
    split at hk
    · obtain ⟨h_0, k⟩ := hk
      exact ⟨h_0, (fun H' => h _ _ (k H'))⟩
    · exact hk.elim
  · intro hq; cases hq
  · intro args H K hk
    simp only [S_laws_FnExactFromZigZag] at *
    unfold F_laws_FnExactFromZigZag at *
    split at hk
    · obtain ⟨h_0, k⟩ := hk
      exact ⟨_, _, k []⟩
    · exact hk.elim
  · have mm := @laws_FnExactFromZigZag_main
    revert mm
    generalize bodyK Try.prog E_laws_FnExactFromZigZag Try.f3 = Q
    intro mm args H K hk
    simp only [S_laws_FnExactFromZigZag] at *
    unfold F_laws_FnExactFromZigZag at *
    split at hk
    · exact mm _ H K hk
    · exact hk.elim
end Go.Proofs.Ytfofkmlohmodeaa.Ai
