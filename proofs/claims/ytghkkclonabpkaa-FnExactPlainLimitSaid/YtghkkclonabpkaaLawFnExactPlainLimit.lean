/- The row of the law FnExactPlainLimit: for every input the law returns true, and each argument reads behind the call as it read before it; out of what the functions come to on the abstract machine. -/
import Derived.Test.YtghkkclonabpkaaRows
import Derived.Test.YtghkkclonabpkaaFFnExactPlainLimit0
import Derived.Test.YtghkkclonabpkaaOpen
import Derived.WalkKit
import Derived.ProofKit
import Derived.OpenShut
import Derived.ShutString
import Derived.ChangeOld
import Derived.Below
import Derived.SizedLaws
import Derived.Laws.Cover2
import Derived.Carry
namespace Go.Proofs.Ytghkkclonabpkaa.fnExactPlainLimit
open Go.ChangeShapes Go.WideShapes Go.ChangeAt Go.RowKit Go.Proofs.Ytghkkclonabpkaa.Ai
open Go.ChangeMaps (open_string shut_string)
set_option linter.unusedVariables false
set_option linter.unusedSimpArgs false
theorem own : ownKnob Try.prog.godebug = none := by kernel_rfl
theorem laidOut : laidOutB Try.prog = true := by kernel_rfl
attribute [local irreducible] bodyK
set_option maxRecDepth 100000 in
set_option maxHeartbeats 4000000 in
theorem lifted (os : Os) (started : os.Started) (H : Type) (enc : TypeId × Value → H) :
    ReturnsInHanded {} Try.checked os 7 .any (Rows.fnExactPlainLimitSpec.pre6 enc Try.prog Try.f7 Rows.fnExactPlainLimitRow.domain false) (Rows.fnExactPlainLimitSpec.post enc Try.prog Try.f7 false true false false) := by
  refine returnsInHanded_of_change_sized (C := Try.checked) own started (by kernel_rfl) Try.func7
    (ChangeSpec.witness6 (enc := enc) (C := Try.checked) false ⟨#[], #[.float .f32 0, .int .i64 0], []⟩ 8 (by kernel_rfl) (by kernel_rfl) (by kernel_rfl) (by kernel_rfl)) ?_
  intro W base args ds gs before hval0 hW hcnd hsz0 _
  have hval : ∀ (j : Nat) t v, Try.f7.params[j]? = some t → args[j]? = some v → Value.okWide Try.prog W .any base t v := hval0
  have hW' := hW
  obtain ⟨p, q, hA0, hV, rfl, hfz, hnd⟩ := hW
  have hA : DataW.TrodAll enc Try.prog W 0 (fun _ => true) true Try.f7.params.toList args.toList ds p := hA0
  rw [Try.params7] at hA hval
  obtain ⟨v0, vs0, d0, ds0, p0, q0, hargs, rfl, rfl, h0, r0⟩ := trodAll_cons hA
  obtain ⟨v1, vs1, d1, ds1, p1, q1, rfl, rfl, rfl, h1, r1⟩ := trodAll_cons r0
  obtain ⟨rfl, rfl, rfl⟩ := trodAll_nil r1
  obtain rfl : args = #[v0, v1] := by cases args; simp_all
  obtain ⟨rfl, rfl⟩ := trodVars_none hV
  clear hA0 hval0 hsz0
  have k0 := h0
  have lt0 : ∀ x ∈ p0, x.block < W.heap.size := by obtain ⟨m, hm⟩ := k0; exact DataW.trod_lt m _ _ _ hm
  have k1 := h1
  have lt1 : ∀ x ∈ p1, x.block < W.heap.size := by obtain ⟨m, hm⟩ := k1; exact DataW.trod_lt m _ _ _ hm
  have hr0 := HR.nil W
  have ro0 := RO.nil
  obtain ⟨fu0, hf0⟩ := h0
  obtain ⟨n_0, e_0, w_0⟩ := dec_float1 Try.underlying23 hf0
  obtain ⟨z0, rfl⟩ := okWide_float Try.underlying23 (hval 0 23 v0 rfl rfl)
  obtain rfl : n_0 = z0 := by simpa [Value.cells] using e_0.symm
  obtain ⟨fu1, hf1⟩ := h1
  obtain ⟨n_1, e_1, _, w_1⟩ := DataW.trod_int Try.underlying2 hf1
  obtain ⟨z1, rfl⟩ := okWide_int Try.underlying2 (hval 1 2 v1 rfl rfl)
  obtain rfl : n_1 = z1 := by simpa [Value.cells] using e_1.symm
  have hcall := body_calls (B0 := W.heap.size) (K := fun v _ => v = .bool true) mix_ok E_laws_FnExactPlainLimit_ok Try.func7 rfl (by kernel_rfl) hr0 (VRs.cons (VR.float .f32 _ n_0 rfl) (VRs.cons (VR.int .i64 n_1) (VRs.nil _))) (laws_FnExactPlainLimit_main _ _ _ _ ⟨w_0, I64.of w_1, fun _ => rfl⟩)
  refine hcall.mono fun e W' he => ?_
  obtain ⟨v, H', rfl, v', ρ', rfl, _, _, hv, bel⟩ := he
  cases hv
  exact ⟨_, rfl, _, _, _, [], _, [], hW', trodAll_mk1 (shut_bool Try.underlying4 _), (trodAll_cons_mk (Below.trod laidOut (by kernel_rfl) (of_decide_eq_true (by kernel_rfl)) k0 bel lt0) (trodAll_cons_mk (Below.trod laidOut (by kernel_rfl) (of_decide_eq_true (by kernel_rfl)) k1 bel lt1) trodAll_mk0)), rfl, bel.frame _, fun h => by cases h⟩
theorem over : Rows.fnExactPlainLimitRow.holds Try.pinned (OpenSpec.ofChange Rows.fnExactPlainLimitSpec) :=
  OpenClaim.holds_of_wide 7 Try.f7 rfl rfl rfl rfl rfl rfl rfl ⟨rfl, rfl, rfl, rfl, rfl⟩ rfl rfl rfl rfl rfl (by kernel_rfl) Try.func7 (by kernel_rfl)
    (of_decide_eq_true (by kernel_rfl)) (by unfold Func.isWrapper; first | (rw [if_pos (by decide +kernel)]; kernel_rfl) | (rw [if_neg (by decide +kernel)]; exact ⟨rfl, rfl⟩))
    (fun os started H enc _ => lifted os started H enc)
end Go.Proofs.Ytghkkclonabpkaa.fnExactPlainLimit
namespace Go.Proofs.Ytghkkclonabpkaa
theorem fnExactPlainLimit_holds : Rows.FnExactPlainLimitSaid := fnExactPlainLimit.over
#print axioms fnExactPlainLimit_holds
end Go.Proofs.Ytghkkclonabpkaa
