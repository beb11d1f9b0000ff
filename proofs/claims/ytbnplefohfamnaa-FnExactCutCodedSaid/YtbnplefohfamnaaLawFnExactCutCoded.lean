/- The row of the law FnExactCutCoded: for every input the law returns true, and each argument reads behind the call as it read before it; out of what the functions come to on the abstract machine. -/
import Derived.Test.YtbnplefohfamnaaRows
import Derived.Test.YtbnplefohfamnaaFFnExactCutCoded0
import Derived.Test.YtbnplefohfamnaaOpen
import Derived.WalkKit
import Derived.ProofKit
import Derived.OpenShut
import Derived.ShutString
import Derived.ChangeOld
import Derived.Below
import Derived.SizedLaws
import Derived.Laws.Cover2
import Derived.Carry
namespace Go.Proofs.Ytbnplefohfamnaa.fnExactCutCoded
open Go.ChangeShapes Go.WideShapes Go.ChangeAt Go.RowKit Go.Proofs.Ytbnplefohfamnaa.Ai
open Go.ChangeMaps (open_string shut_string)
set_option linter.unusedVariables false
set_option linter.unusedSimpArgs false
theorem own : ownKnob Try.prog.godebug = none := by kernel_rfl
theorem laidOut : laidOutB Try.prog = true := by kernel_rfl
attribute [local irreducible] bodyK
set_option maxRecDepth 100000 in
set_option maxHeartbeats 4000000 in
theorem lifted (os : Os) (started : os.Started) (H : Type) (enc : TypeId × Value → H) :
    ReturnsInHanded {} Try.checked os 3 .any (Rows.fnExactCutCodedSpec.pre6 enc Try.prog Try.f3 Rows.fnExactCutCodedRow.domain false) (Rows.fnExactCutCodedSpec.post enc Try.prog Try.f3 false true false false) := by
  refine returnsInHanded_of_change_sized (C := Try.checked) own started (by kernel_rfl) Try.func3
    (ChangeSpec.witness6 (enc := enc) (C := Try.checked) false ⟨#[], #[.agg #[.int .i64 0, .int .i64 0, .slice none 0 0], .int .i64 0], []⟩ 8 (by kernel_rfl) (by kernel_rfl) (by kernel_rfl) (by kernel_rfl)) ?_
  intro W base args ds gs before hval0 hW hcnd hsz0 _
  have hval : ∀ (j : Nat) t v, Try.f3.params[j]? = some t → args[j]? = some v → Value.okWide Try.prog W .any base t v := hval0
  have hW' := hW
  obtain ⟨p, q, hA0, hV, rfl, hfz, hnd⟩ := hW
  have hA : DataW.TrodAll enc Try.prog W 0 (fun _ => true) true Try.f3.params.toList args.toList ds p := hA0
  rw [Try.params3] at hA hval
  obtain ⟨v0, vs0, d0, ds0, p0, q0, hargs, rfl, rfl, h0, r0⟩ := trodAll_cons hA
  obtain ⟨v1, vs1, d1, ds1, p1, q1, rfl, rfl, rfl, h1, r1⟩ := trodAll_cons r0
  obtain ⟨rfl, rfl, rfl⟩ := trodAll_nil r1
  obtain rfl : args = #[v0, v1] := by cases args; simp_all
  obtain ⟨rfl, rfl⟩ := trodVars_none hV
  clear hA0 hval0 hsz0
  have k0 := h0
  have lt0 : ∀ x ∈ p0, x.block < W.heap.size := by obtain ⟨m, hm⟩ := k0; exact DataW.trod_lt m _ _ _ hm
  have k1 := h1
  have lt1 : ∀ x ∈ p1, x.block < W.heap.size := by obtain ⟨m, hm⟩ := k1; exact DataW.trod_lt m _ _ _ hm
  have hr0 := HR.nil W
  have ro0 := RO.nil
  obtain ⟨fu0, hf0⟩ := h0
  obtain ⟨cs0, rfl, hcs0⟩ := okWide_struct Try.underlying24 (hval 0 24 v0 rfl rfl)
  obtain ⟨xs0, m0, _, _, hlen0, hxl0, hfd0⟩ := DataW.trod_struct Try.underlying24 hf0
  have hx0_0 : ∃ x, xs0[0]? = some x := ⟨_, List.getElem?_eq_getElem (show 0 < xs0.length by rw [hxl0]; decide)⟩
  obtain ⟨x0_0, hx0_0⟩ := hx0_0
  have hg0_0 := (hfd0 0 _ rfl).trans hx0_0
  obtain ⟨n_0_0, e_0_0, _, w_0_0⟩ := DataW.trod_int Try.underlying2 hg0_0
  have hx0_1 : ∃ x, xs0[1]? = some x := ⟨_, List.getElem?_eq_getElem (show 1 < xs0.length by rw [hxl0]; decide)⟩
  obtain ⟨x0_1, hx0_1⟩ := hx0_1
  have hg0_1 := (hfd0 1 _ rfl).trans hx0_1
  obtain ⟨n_0_1, e_0_1, _, w_0_1⟩ := DataW.trod_int Try.underlying2 hg0_1
  have hx0_2 : ∃ x, xs0[2]? = some x := ⟨_, List.getElem?_eq_getElem (show 2 < xs0.length by rw [hxl0]; decide)⟩
  obtain ⟨x0_2, hx0_2⟩ := hx0_2
  have hg0_2 := (hfd0 2 _ rfl).trans hx0_2
  obtain ⟨ρ1, H1, a_0_2, n_0_2, c_0_2, l_0_2, e_0_2, pr0, g0, hr1, ro1, vr_0_2, il_0_2, q_0_2, ln_0_2⟩ := opens_list Try.underlying22 (by kernel_rfl) (dec_bool (e := 4) Try.underlying4) hg0_2 hr0 ro0
  have e_0_0 : List.take (Try.prog.cellsOf 2) (List.drop 0 cs0.toList) = [.int .i64 n_0_0] := e_0_0
  rw [show Try.prog.cellsOf 2 = 1 from by kernel_rfl] at e_0_0
  have e_0_1 : List.take (Try.prog.cellsOf 2) (List.drop 1 cs0.toList) = [.int .i64 n_0_1] := e_0_1
  rw [show Try.prog.cellsOf 2 = 1 from by kernel_rfl] at e_0_1
  have e_0_2 : List.take (Try.prog.cellsOf 22) (List.drop 2 cs0.toList) = [c_0_2] := e_0_2
  rw [show Try.prog.cellsOf 22 = 1 from by kernel_rfl] at e_0_2
  have hall0 : cs0 = #[.int .i64 n_0_0, .int .i64 n_0_1, c_0_2] := by
    apply Array.ext'
    have hl : cs0.toList.length = 3 := hlen0
    revert e_0_0 e_0_1 e_0_2 hl
    generalize cs0.toList = zs
    intro e_0_0 e_0_1 e_0_2 hl
    obtain ⟨y0, y1, y2, rfl⟩ : ∃ y0 y1 y2, zs = [y0, y1, y2] := by
      clear e_0_0 e_0_1 e_0_2
      match zs, hl with
      | [y0, y1, y2], _ => exact ⟨y0, y1, y2, rfl⟩
    simp at e_0_0 e_0_1 e_0_2
    simp [e_0_0, e_0_1, e_0_2]
  subst hall0
  obtain ⟨fu1, hf1⟩ := h1
  obtain ⟨n_1, e_1, _, w_1⟩ := DataW.trod_int Try.underlying2 hf1
  obtain ⟨z1, rfl⟩ := okWide_int Try.underlying2 (hval 1 2 v1 rfl rfl)
  obtain rfl : n_1 = z1 := by simpa [Value.cells] using e_1.symm
  have hcall := body_calls (B0 := W.heap.size) (K := fun v _ => v = .bool true) mix_ok E_laws_FnExactCutCoded_ok Try.func3 rfl (by kernel_rfl) hr1 (VRs.cons (VRs.agg (VRs.cons (VR.int .i64 n_0_0) (VRs.cons (VR.int .i64 n_0_1) (VRs.cons (vr_0_2) (VRs.nil _))))) (VRs.cons (VR.int .i64 n_1) (VRs.nil _))) (bodyL_body E_laws_FnExactCutCoded_ok (laws_FnExactCutCoded_main _ _ _ _ _ _ _ _ ⟨l_0_2, I64.of w_0_0, I64.of w_0_1, il_0_2, ln_0_2, I64.of w_1, fun _ => rfl⟩))
  refine hcall.mono fun e W' he => ?_
  obtain ⟨v, H', rfl, v', ρ', rfl, _, _, hv, bel⟩ := he
  cases hv
  exact ⟨_, rfl, _, _, _, [], _, [], hW', trodAll_mk1 (shut_bool Try.underlying4 _), (trodAll_cons_mk (Below.trod laidOut (by kernel_rfl) (of_decide_eq_true (by kernel_rfl)) k0 bel lt0) (trodAll_cons_mk (Below.trod laidOut (by kernel_rfl) (of_decide_eq_true (by kernel_rfl)) k1 bel lt1) trodAll_mk0)), rfl, bel.frame _, fun h => by cases h⟩
theorem over : Rows.fnExactCutCodedRow.holds Try.pinned (OpenSpec.ofChange Rows.fnExactCutCodedSpec) :=
  OpenClaim.holds_of_wide 3 Try.f3 rfl rfl rfl rfl rfl rfl rfl ⟨rfl, rfl, rfl, rfl, rfl⟩ rfl rfl rfl rfl rfl (by kernel_rfl) Try.func3 (by kernel_rfl)
    (of_decide_eq_true (by kernel_rfl)) (by unfold Func.isWrapper; first | (rw [if_pos (by decide +kernel)]; kernel_rfl) | (rw [if_neg (by decide +kernel)]; exact ⟨rfl, rfl⟩))
    (fun os started H enc _ => lifted os started H enc)
end Go.Proofs.Ytbnplefohfamnaa.fnExactCutCoded
namespace Go.Proofs.Ytbnplefohfamnaa
theorem fnExactCutCoded_holds : Rows.FnExactCutCodedSaid := fnExactCutCoded.over
#print axioms fnExactCutCoded_holds
end Go.Proofs.Ytbnplefohfamnaa
