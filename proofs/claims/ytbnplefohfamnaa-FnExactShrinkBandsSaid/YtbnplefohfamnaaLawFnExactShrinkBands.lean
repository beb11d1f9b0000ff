/- The row of the law FnExactShrinkBands: for every input the law returns true, and each argument reads behind the call as it read before it; out of what the functions come to on the abstract machine. -/
import Derived.Test.YtbnplefohfamnaaRows
import Derived.Test.YtbnplefohfamnaaFFnExactShrinkBands2
import Derived.Test.YtbnplefohfamnaaOpen
import Derived.WalkKit
import Derived.ProofKit
import Derived.OpenShut
import Derived.ShutString
import Derived.ChangeOld
import Derived.Below
import Derived.SizedLaws
import Derived.Laws.Cover2
import Derived.Carry
namespace Go.Proofs.Ytbnplefohfamnaa.fnExactShrinkBands
open Go.ChangeShapes Go.WideShapes Go.ChangeAt Go.RowKit Go.Proofs.Ytbnplefohfamnaa.Ai
open Go.ChangeMaps (open_string shut_string)
set_option linter.unusedVariables false
set_option linter.unusedSimpArgs false
theorem own : ownKnob Try.prog.godebug = none := by kernel_rfl
theorem laidOut : laidOutB Try.prog = true := by kernel_rfl
attribute [local irreducible] bodyK
set_option maxRecDepth 100000 in
set_option maxHeartbeats 4000000 in
theorem lifted (os : Os) (started : os.Started) (H : Type) (enc : TypeId × Value → H) :
    ReturnsInHanded {} Try.checked os 6 .any (Rows.fnExactShrinkBandsSpec.pre6 enc Try.prog Try.f6 Rows.fnExactShrinkBandsRow.domain false) (Rows.fnExactShrinkBandsSpec.post enc Try.prog Try.f6 false true false false) := by
  refine returnsInHanded_of_change_sized (C := Try.checked) own started (by kernel_rfl) Try.func6
    (ChangeSpec.witness6 (enc := enc) (C := Try.checked) false ⟨#[], #[.agg #[.slice none 0 0, .slice none 0 0], .slice none 0 0, .bool false], []⟩ 8 (by kernel_rfl) (by kernel_rfl) (by kernel_rfl) (by kernel_rfl)) ?_
  intro W base args ds gs before hval0 hW hcnd hsz0 _
  have hval : ∀ (j : Nat) t v, Try.f6.params[j]? = some t → args[j]? = some v → Value.okWide Try.prog W .any base t v := hval0
  have hW' := hW
  obtain ⟨p, q, hA0, hV, rfl, hfz, hnd⟩ := hW
  have hA : DataW.TrodAll enc Try.prog W 0 (fun _ => true) true Try.f6.params.toList args.toList ds p := hA0
  rw [Try.params6] at hA hval
  obtain ⟨v0, vs0, d0, ds0, p0, q0, hargs, rfl, rfl, h0, r0⟩ := trodAll_cons hA
  obtain ⟨v1, vs1, d1, ds1, p1, q1, rfl, rfl, rfl, h1, r1⟩ := trodAll_cons r0
  obtain ⟨v2, vs2, d2, ds2, p2, q2, rfl, rfl, rfl, h2, r2⟩ := trodAll_cons r1
  obtain ⟨rfl, rfl, rfl⟩ := trodAll_nil r2
  obtain rfl : args = #[v0, v1, v2] := by cases args; simp_all
  obtain ⟨rfl, rfl⟩ := trodVars_none hV
  clear hA0 hval0 hsz0
  have k0 := h0
  have lt0 : ∀ x ∈ p0, x.block < W.heap.size := by obtain ⟨m, hm⟩ := k0; exact DataW.trod_lt m _ _ _ hm
  have k1 := h1
  have lt1 : ∀ x ∈ p1, x.block < W.heap.size := by obtain ⟨m, hm⟩ := k1; exact DataW.trod_lt m _ _ _ hm
  have k2 := h2
  have lt2 : ∀ x ∈ p2, x.block < W.heap.size := by obtain ⟨m, hm⟩ := k2; exact DataW.trod_lt m _ _ _ hm
  have hr0 := HR.nil W
  have ro0 := RO.nil
  obtain ⟨fu0, hf0⟩ := h0
  obtain ⟨cs0, rfl, hcs0⟩ := okWide_struct Try.underlying43 (hval 0 43 v0 rfl rfl)
  obtain ⟨xs0, m0, _, _, hlen0, hxl0, hfd0⟩ := DataW.trod_struct Try.underlying43 hf0
  have hx0_0 : ∃ x, xs0[0]? = some x := ⟨_, List.getElem?_eq_getElem (show 0 < xs0.length by rw [hxl0]; decide)⟩
  obtain ⟨x0_0, hx0_0⟩ := hx0_0
  have hg0_0 := (hfd0 0 _ rfl).trans hx0_0
  obtain ⟨ρ1, H1, a_0_0, n_0_0, c_0_0, l_0_0, e_0_0, pr0, g0, hr1, ro1, vr_0_0, il_0_0, q_0_0, ln_0_0⟩ := opens_list Try.underlying33 (by kernel_rfl) (dec_float (e := 34) Try.underlying34) hg0_0 hr0 ro0
  have hx0_1 : ∃ x, xs0[1]? = some x := ⟨_, List.getElem?_eq_getElem (show 1 < xs0.length by rw [hxl0]; decide)⟩
  obtain ⟨x0_1, hx0_1⟩ := hx0_1
  have hg0_1 := (hfd0 1 _ rfl).trans hx0_1
  obtain ⟨ρ2, H2, a_0_1, n_0_1, c_0_1, l_0_1, e_0_1, pr1, g1, hr2, ro2, vr_0_1, il_0_1, q_0_1, ln_0_1⟩ := opens_ll Try.underlying41 (by kernel_rfl) Try.underlying33 (by kernel_rfl) Try.underlying34 hg0_1 hr1 ro1
  have e_0_0 : List.take (Try.prog.cellsOf 33) (List.drop 0 cs0.toList) = [c_0_0] := e_0_0
  rw [show Try.prog.cellsOf 33 = 1 from by kernel_rfl] at e_0_0
  have e_0_1 : List.take (Try.prog.cellsOf 41) (List.drop 1 cs0.toList) = [c_0_1] := e_0_1
  rw [show Try.prog.cellsOf 41 = 1 from by kernel_rfl] at e_0_1
  have hall0 : cs0 = #[c_0_0, c_0_1] := by
    apply Array.ext'
    have hl : cs0.toList.length = 2 := hlen0
    revert e_0_0 e_0_1 hl
    generalize cs0.toList = zs
    intro e_0_0 e_0_1 hl
    obtain ⟨y0, y1, rfl⟩ : ∃ y0 y1, zs = [y0, y1] := by
      clear e_0_0 e_0_1
      match zs, hl with
      | [y0, y1], _ => exact ⟨y0, y1, rfl⟩
    simp at e_0_0 e_0_1
    simp [e_0_0, e_0_1]
  subst hall0
  obtain ⟨fu1, hf1⟩ := h1
  obtain ⟨ρ3, H3, a_1, n_1, c_1, l_1, e_1, pr2, g2, hr3, ro3, vr_1, il_1, q_1, ln_1⟩ := opens_list Try.underlying33 (by kernel_rfl) (dec_float (e := 34) Try.underlying34) hf1 hr2 ro2
  obtain ⟨sa1, sl1, sc1, rfl⟩ := okWide_slice Try.underlying33 (hval 1 33 v1 rfl rfl)
  obtain rfl : c_1 = .slice sa1 sl1 sc1 := by simpa [Value.cells] using e_1.symm
  obtain ⟨fu2, hf2⟩ := h2
  obtain ⟨n_2, e_2, _⟩ := DataW.trod_bool Try.underlying4 hf2
  obtain ⟨z2, rfl⟩ := okWide_bool Try.underlying4 (hval 2 4 v2 rfl rfl)
  obtain rfl : n_2 = z2 := by simpa [Value.cells] using e_2.symm
  have hcall := body_calls (B0 := W.heap.size) (K := fun v _ => v = .bool true) mix_ok E_laws_FnExactShrinkBands_ok Try.func6 rfl (by kernel_rfl) hr3 (VRs.cons (VRs.agg (VRs.cons (((vr_0_0).mono pr1).mono pr2) (VRs.cons ((vr_0_1).mono pr2) (VRs.nil _)))) (VRs.cons (vr_1) (VRs.cons (VR.bool n_2) (VRs.nil _)))) (bodyL_body E_laws_FnExactShrinkBands_ok (laws_FnExactShrinkBands_main _ _ _ _ _ _ _ _ _ _ _ _ ⟨l_0_0, l_0_1, l_1, ((il_0_0).grow g1).grow g2, q_0_0, ln_0_0, (il_0_1).grow g2, q_0_1, ln_0_1, il_1, q_1, ln_1, fun _ => rfl⟩))
  refine hcall.mono fun e W' he => ?_
  obtain ⟨v, H', rfl, v', ρ', rfl, _, _, hv, bel⟩ := he
  cases hv
  exact ⟨_, rfl, _, _, _, [], _, [], hW', trodAll_mk1 (shut_bool Try.underlying4 _), (trodAll_cons_mk (Below.trod laidOut (by kernel_rfl) (of_decide_eq_true (by kernel_rfl)) k0 bel lt0) (trodAll_cons_mk (Below.trod laidOut (by kernel_rfl) (of_decide_eq_true (by kernel_rfl)) k1 bel lt1) (trodAll_cons_mk (Below.trod laidOut (by kernel_rfl) (of_decide_eq_true (by kernel_rfl)) k2 bel lt2) trodAll_mk0))), rfl, bel.frame _, fun h => by cases h⟩
theorem over : Rows.fnExactShrinkBandsRow.holds Try.pinned (OpenSpec.ofChange Rows.fnExactShrinkBandsSpec) :=
  OpenClaim.holds_of_wide 6 Try.f6 rfl rfl rfl rfl rfl rfl rfl ⟨rfl, rfl, rfl, rfl, rfl⟩ rfl rfl rfl rfl rfl (by kernel_rfl) Try.func6 (by kernel_rfl)
    (of_decide_eq_true (by kernel_rfl)) (by unfold Func.isWrapper; first | (rw [if_pos (by decide +kernel)]; kernel_rfl) | (rw [if_neg (by decide +kernel)]; exact ⟨rfl, rfl⟩))
    (fun os started H enc _ => lifted os started H enc)
end Go.Proofs.Ytbnplefohfamnaa.fnExactShrinkBands
namespace Go.Proofs.Ytbnplefohfamnaa
theorem fnExactShrinkBands_holds : Rows.FnExactShrinkBandsSaid := fnExactShrinkBands.over
#print axioms fnExactShrinkBands_holds
end Go.Proofs.Ytbnplefohfamnaa
