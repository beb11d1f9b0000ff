/- The row of the law FnExactDenoise: for every input the law returns true, and each argument reads behind the call as it read before it; out of what the functions come to on the abstract machine. -/
import Derived.Test.YtbnplefohfamnaaRows
import Derived.Test.YtbnplefohfamnaaFFnExactDenoise4
import Derived.Test.YtbnplefohfamnaaFFnExactDenoiseOpen
import Derived.WalkKit
import Derived.ProofKit
import Derived.OpenShut
import Derived.ShutString
import Derived.ChangeOld
import Derived.Below
import Derived.SizedLaws
import Derived.Laws.Cover2
import Derived.Carry
namespace Go.Proofs.Ytbnplefohfamnaa.fnExactDenoise
open Go.ChangeShapes Go.WideShapes Go.ChangeAt Go.RowKit Go.Proofs.Ytbnplefohfamnaa.Ai
open Go.ChangeMaps (open_string shut_string)
set_option linter.unusedVariables false
set_option linter.unusedSimpArgs false
theorem own : ownKnob Try.prog.godebug = none := by kernel_rfl
theorem laidOut : laidOutB Try.prog = true := by kernel_rfl
attribute [local irreducible] bodyK
set_option maxRecDepth 100000 in
set_option maxHeartbeats 4000000 in
theorem lifted (os : Os) (started : os.Started) (H : Type) (enc : TypeId × Value → H) :
    ReturnsInHanded {} Try.checked os 7 .any (Rows.fnExactDenoiseSpec.pre6 enc Try.prog Try.f7 Rows.fnExactDenoiseRow.domain false) (Rows.fnExactDenoiseSpec.post enc Try.prog Try.f7 false true false false) := by
  refine returnsInHanded_of_change_sized (C := Try.checked) own started (by kernel_rfl) Try.func7
    (ChangeSpec.witness6 (enc := enc) (C := Try.checked) false ⟨#[], #[.slice none 0 0, .agg #[.slice none 0 0], .int .i64 0, .bool false], []⟩ 8 (by kernel_rfl) (by kernel_rfl) (by kernel_rfl) (by kernel_rfl)) ?_
  intro W base args ds gs before hval0 hW hcnd hsz0 _
  have hval : ∀ (j : Nat) t v, Try.f7.params[j]? = some t → args[j]? = some v → Value.okWide Try.prog W .any base t v := hval0
  have hW' := hW
  obtain ⟨p, q, hA0, hV, rfl, hfz, hnd⟩ := hW
  have hA : DataW.TrodAll enc Try.prog W 0 (fun _ => true) true Try.f7.params.toList args.toList ds p := hA0
  rw [Try.params7] at hA hval
  obtain ⟨v0, vs0, d0, ds0, p0, q0, hargs, rfl, rfl, h0, r0⟩ := trodAll_cons hA
  obtain ⟨v1, vs1, d1, ds1, p1, q1, rfl, rfl, rfl, h1, r1⟩ := trodAll_cons r0
  obtain ⟨v2, vs2, d2, ds2, p2, q2, rfl, rfl, rfl, h2, r2⟩ := trodAll_cons r1
  obtain ⟨v3, vs3, d3, ds3, p3, q3, rfl, rfl, rfl, h3, r3⟩ := trodAll_cons r2
  obtain ⟨rfl, rfl, rfl⟩ := trodAll_nil r3
  obtain rfl : args = #[v0, v1, v2, v3] := by cases args; simp_all
  obtain ⟨rfl, rfl⟩ := trodVars_none hV
  clear hA0 hval0 hsz0
  have k0 := h0
  have lt0 : ∀ x ∈ p0, x.block < W.heap.size := by obtain ⟨m, hm⟩ := k0; exact DataW.trod_lt m _ _ _ hm
  have k1 := h1
  have lt1 : ∀ x ∈ p1, x.block < W.heap.size := by obtain ⟨m, hm⟩ := k1; exact DataW.trod_lt m _ _ _ hm
  have k2 := h2
  have lt2 : ∀ x ∈ p2, x.block < W.heap.size := by obtain ⟨m, hm⟩ := k2; exact DataW.trod_lt m _ _ _ hm
  have k3 := h3
  have lt3 : ∀ x ∈ p3, x.block < W.heap.size := by obtain ⟨m, hm⟩ := k3; exact DataW.trod_lt m _ _ _ hm
  have hr0 := HR.nil W
  have ro0 := RO.nil
  obtain ⟨fu0, hf0⟩ := h0
  obtain ⟨ρ1, H1, a_0, n_0, c_0, l_0, e_0, pr0, g0, hr1, ro1, vr_0, il_0, q_0, ln_0⟩ := opens_list Try.underlying33 (by kernel_rfl) (dec_float (e := 34) Try.underlying34) hf0 hr0 ro0
  obtain ⟨sa0, sl0, sc0, rfl⟩ := okWide_slice Try.underlying33 (hval 0 33 v0 rfl rfl)
  obtain rfl : c_0 = .slice sa0 sl0 sc0 := by simpa [Value.cells] using e_0.symm
  obtain ⟨fu1, hf1⟩ := h1
  obtain ⟨cs1, rfl, hcs1⟩ := okWide_struct Try.underlying58 (hval 1 58 v1 rfl rfl)
  obtain ⟨xs1, m1, _, _, hlen1, hxl1, hfd1⟩ := DataW.trod_struct Try.underlying58 hf1
  have hx1_0 : ∃ x, xs1[0]? = some x := ⟨_, List.getElem?_eq_getElem (show 0 < xs1.length by rw [hxl1]; decide)⟩
  obtain ⟨x1_0, hx1_0⟩ := hx1_0
  have hg1_0 := (hfd1 0 _ rfl).trans hx1_0
  obtain ⟨ρ2, H2, a_1_0, n_1_0, c_1_0, l_1_0, e_1_0, pr1, g1, hr2, ro2, vr_1_0, il_1_0, q_1_0, ln_1_0⟩ := opens_list Try.underlying33 (by kernel_rfl) (dec_float (e := 34) Try.underlying34) hg1_0 hr1 ro1
  have e_1_0 : List.take (Try.prog.cellsOf 33) (List.drop 0 cs1.toList) = [c_1_0] := e_1_0
  rw [show Try.prog.cellsOf 33 = 1 from by kernel_rfl] at e_1_0
  have hall1 : cs1 = #[c_1_0] := by
    apply Array.ext'
    have hl : cs1.toList.length = 1 := hlen1
    revert e_1_0 hl
    generalize cs1.toList = zs
    intro e_1_0 hl
    obtain ⟨y0, rfl⟩ : ∃ y0, zs = [y0] := by
      clear e_1_0
      match zs, hl with
      | [y0], _ => exact ⟨y0, rfl⟩
    simp at e_1_0
    simp [e_1_0]
  subst hall1
  obtain ⟨fu2, hf2⟩ := h2
  obtain ⟨n_2, e_2, _, w_2⟩ := DataW.trod_int Try.underlying2 hf2
  obtain ⟨z2, rfl⟩ := okWide_int Try.underlying2 (hval 2 2 v2 rfl rfl)
  obtain rfl : n_2 = z2 := by simpa [Value.cells] using e_2.symm
  obtain ⟨fu3, hf3⟩ := h3
  obtain ⟨n_3, e_3, _⟩ := DataW.trod_bool Try.underlying4 hf3
  obtain ⟨z3, rfl⟩ := okWide_bool Try.underlying4 (hval 3 4 v3 rfl rfl)
  obtain rfl : n_3 = z3 := by simpa [Value.cells] using e_3.symm
  have hcall := body_calls (B0 := W.heap.size) (K := fun v _ => v = .bool true) mix_ok E_laws_FnExactDenoise_ok Try.func7 rfl (by kernel_rfl) hr2 (VRs.cons ((vr_0).mono pr1) (VRs.cons (VRs.agg (VRs.cons (vr_1_0) (VRs.nil _))) (VRs.cons (VR.int .i64 n_2) (VRs.cons (VR.bool n_3) (VRs.nil _))))) (bodyL_body E_laws_FnExactDenoise_ok (laws_FnExactDenoise_main _ _ _ _ _ _ _ _ _ _ ⟨l_0, l_1_0, (il_0).grow g1, q_0, ln_0, il_1_0, q_1_0, ln_1_0, I64.of w_2, fun _ => rfl⟩))
  refine hcall.mono fun e W' he => ?_
  obtain ⟨v, H', rfl, v', ρ', rfl, _, _, hv, bel⟩ := he
  cases hv
  exact ⟨_, rfl, _, _, _, [], _, [], hW', trodAll_mk1 (shut_bool Try.underlying4 _), (trodAll_cons_mk (Below.trod laidOut (by kernel_rfl) (of_decide_eq_true (by kernel_rfl)) k0 bel lt0) (trodAll_cons_mk (Below.trod laidOut (by kernel_rfl) (of_decide_eq_true (by kernel_rfl)) k1 bel lt1) (trodAll_cons_mk (Below.trod laidOut (by kernel_rfl) (of_decide_eq_true (by kernel_rfl)) k2 bel lt2) (trodAll_cons_mk (Below.trod laidOut (by kernel_rfl) (of_decide_eq_true (by kernel_rfl)) k3 bel lt3) trodAll_mk0)))), rfl, bel.frame _, fun h => by cases h⟩
theorem over : Rows.fnExactDenoiseRow.holds Try.pinned (OpenSpec.ofChange Rows.fnExactDenoiseSpec) :=
  OpenClaim.holds_of_wide 7 Try.f7 rfl rfl rfl rfl rfl rfl rfl ⟨rfl, rfl, rfl, rfl, rfl⟩ rfl rfl rfl rfl rfl (by kernel_rfl) Try.func7 (by kernel_rfl)
    (of_decide_eq_true (by kernel_rfl)) (by unfold Func.isWrapper; first | (rw [if_pos (by decide +kernel)]; kernel_rfl) | (rw [if_neg (by decide +kernel)]; exact ⟨rfl, rfl⟩))
    (fun os started H enc _ => lifted os started H enc)
end Go.Proofs.Ytbnplefohfamnaa.fnExactDenoise
namespace Go.Proofs.Ytbnplefohfamnaa
theorem fnExactDenoise_holds : Rows.FnExactDenoiseSaid := fnExactDenoise.over
#print axioms fnExactDenoise_holds
end Go.Proofs.Ytbnplefohfamnaa
