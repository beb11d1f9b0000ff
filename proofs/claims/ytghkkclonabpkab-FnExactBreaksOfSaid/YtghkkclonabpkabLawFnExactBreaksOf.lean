/- The row of the law FnExactBreaksOf: for every input the law returns true, and each argument reads behind the call as it read before it; out of what the functions come to on the abstract machine. -/
import Derived.Test.YtghkkclonabpkabRows
import Derived.Test.YtghkkclonabpkabFFnExactBreaksOf2
import Derived.Test.YtghkkclonabpkabOpen
import Derived.WalkKit
import Derived.ProofKit
import Derived.OpenShut
import Derived.ShutString
import Derived.ChangeOld
import Derived.Below
import Derived.SizedLaws
import Derived.Laws.Cover2
import Derived.Carry
namespace Go.Proofs.Ytghkkclonabpkab.fnExactBreaksOf
open Go.ChangeShapes Go.WideShapes Go.ChangeAt Go.RowKit Go.Proofs.Ytghkkclonabpkab.Ai
open Go.ChangeMaps (open_string shut_string)
set_option linter.unusedVariables false
set_option linter.unusedSimpArgs false
theorem own : ownKnob Try.prog.godebug = none := by kernel_rfl
theorem laidOut : laidOutB Try.prog = true := by kernel_rfl
attribute [local irreducible] bodyK
set_option maxRecDepth 100000 in
set_option maxHeartbeats 4000000 in
theorem lifted (os : Os) (started : os.Started) (H : Type) (enc : TypeId × Value → H) :
    ReturnsInHanded {} Try.checked os 7 .any (Rows.fnExactBreaksOfSpec.pre6 enc Try.prog Try.f7 Rows.fnExactBreaksOfRow.domain false) (Rows.fnExactBreaksOfSpec.post enc Try.prog Try.f7 false true false false) := by
  refine returnsInHanded_of_change_sized (C := Try.checked) own started (by kernel_rfl) Try.func7
    (ChangeSpec.witness6 (enc := enc) (C := Try.checked) false ⟨#[], #[.slice none 0 0, .float .f32 0, .int .i64 0], []⟩ 8 (by kernel_rfl) (by kernel_rfl) (by kernel_rfl) (by kernel_rfl)) ?_
  intro W base args ds gs before hval0 hW hcnd hsz0 _
  have hval : ∀ (j : Nat) t v, Try.f7.params[j]? = some t → args[j]? = some v → Value.okWide Try.prog W .any base t v := hval0
  have hW' := hW
  obtain ⟨p, q, hA0, hV, rfl, hfz, hnd⟩ := hW
  have hA : DataW.TrodAll enc Try.prog W 0 (fun _ => true) true Try.f7.params.toList args.toList ds p := hA0
  rw [Try.params7] at hA hval
  obtain ⟨v0, vs0, d0, ds0, p0, q0, hargs, rfl, rfl, h0, r0⟩ := trodAll_cons hA
  obtain ⟨v1, vs1, d1, ds1, p1, q1, rfl, rfl, rfl, h1, r1⟩ := trodAll_cons r0
  obtain ⟨v2, vs2, d2, ds2, p2, q2, rfl, rfl, rfl, h2, r2⟩ := trodAll_cons r1
  obtain ⟨rfl, rfl, rfl⟩ := trodAll_nil r2
  obtain rfl : args = #[v0, v1, v2] := by cases args; simp_all
  obtain ⟨rfl, rfl⟩ := trodVars_none hV
  clear hA0 hval0 hsz0
  have k0 := h0
  have lt0 : ∀ x ∈ p0, x.block < W.heap.size := by obtain ⟨m, hm⟩ := k0; exact DataW.trod_lt m _ _ _ hm
  have k1 := h1
  have lt1 : ∀ x ∈ p1, x.block < W.heap.size := by obtain ⟨m, hm⟩ := k1; exact DataW.trod_lt m _ _ _ hm
  have k2 := h2
  have lt2 : ∀ x ∈ p2, x.block < W.heap.size := by obtain ⟨m, hm⟩ := k2; exact DataW.trod_lt m _ _ _ hm
  have hr0 := HR.nil W
  have ro0 := RO.nil
  obtain ⟨fu0, hf0⟩ := h0
  obtain ⟨ρ1, H1, a_0, n_0, c_0, l_0, e_0, pr0, g0, hr1, ro1, vr_0, il_0, q_0, ln_0⟩ := opens_list Try.underlying25 (by kernel_rfl) (dec_float (e := 22) Try.underlying22) hf0 hr0 ro0
  obtain ⟨sa0, sl0, sc0, rfl⟩ := okWide_slice Try.underlying25 (hval 0 25 v0 rfl rfl)
  obtain rfl : c_0 = .slice sa0 sl0 sc0 := by simpa [Value.cells] using e_0.symm
  obtain ⟨fu1, hf1⟩ := h1
  obtain ⟨n_1, e_1, w_1⟩ := dec_float1 Try.underlying22 hf1
  obtain ⟨z1, rfl⟩ := okWide_float Try.underlying22 (hval 1 22 v1 rfl rfl)
  obtain rfl : n_1 = z1 := by simpa [Value.cells] using e_1.symm
  obtain ⟨fu2, hf2⟩ := h2
  obtain ⟨n_2, e_2, _, w_2⟩ := DataW.trod_int Try.underlying2 hf2
  obtain ⟨z2, rfl⟩ := okWide_int Try.underlying2 (hval 2 2 v2 rfl rfl)
  obtain rfl : n_2 = z2 := by simpa [Value.cells] using e_2.symm
  have hcall := body_calls (B0 := W.heap.size) (K := fun v _ => v = .bool true) mix_ok E_laws_FnExactBreaksOf_ok Try.func7 rfl (by kernel_rfl) hr1 (VRs.cons (vr_0) (VRs.cons (VR.float .f32 _ n_1 rfl) (VRs.cons (VR.int .i64 n_2) (VRs.nil _)))) (laws_FnExactBreaksOf_main _ _ _ _ _ _ _ ⟨l_0, il_0, q_0, ln_0, w_1, I64.of w_2, fun _ => rfl⟩)
  refine hcall.mono fun e W' he => ?_
  obtain ⟨v, H', rfl, v', ρ', rfl, _, _, hv, bel⟩ := he
  cases hv
  exact ⟨_, rfl, _, _, _, [], _, [], hW', trodAll_mk1 (shut_bool Try.underlying4 _), (trodAll_cons_mk (Below.trod laidOut (by kernel_rfl) (of_decide_eq_true (by kernel_rfl)) k0 bel lt0) (trodAll_cons_mk (Below.trod laidOut (by kernel_rfl) (of_decide_eq_true (by kernel_rfl)) k1 bel lt1) (trodAll_cons_mk (Below.trod laidOut (by kernel_rfl) (of_decide_eq_true (by kernel_rfl)) k2 bel lt2) trodAll_mk0))), rfl, bel.frame _, fun h => by cases h⟩
theorem over : Rows.fnExactBreaksOfRow.holds Try.pinned (OpenSpec.ofChange Rows.fnExactBreaksOfSpec) :=
  OpenClaim.holds_of_wide 7 Try.f7 rfl rfl rfl rfl rfl rfl rfl ⟨rfl, rfl, rfl, rfl, rfl⟩ rfl rfl rfl rfl rfl (by kernel_rfl) Try.func7 (by kernel_rfl)
    (of_decide_eq_true (by kernel_rfl)) (by unfold Func.isWrapper; first | (rw [if_pos (by decide +kernel)]; kernel_rfl) | (rw [if_neg (by decide +kernel)]; exact ⟨rfl, rfl⟩))
    (fun os started H enc _ => lifted os started H enc)
end Go.Proofs.Ytghkkclonabpkab.fnExactBreaksOf
namespace Go.Proofs.Ytghkkclonabpkab
theorem fnExactBreaksOf_holds : Rows.FnExactBreaksOfSaid := fnExactBreaksOf.over
#print axioms fnExactBreaksOf_holds
end Go.Proofs.Ytghkkclonabpkab
