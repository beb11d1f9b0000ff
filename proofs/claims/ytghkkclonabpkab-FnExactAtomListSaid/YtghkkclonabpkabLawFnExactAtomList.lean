/- The row of the law FnExactAtomList: for every input the law returns true, and each argument reads behind the call as it read before it; out of what the functions come to on the abstract machine. -/
import Derived.Test.YtghkkclonabpkabRows
import Derived.Test.YtghkkclonabpkabFFnExactAtomList3
import Derived.Test.YtghkkclonabpkabOpen
import Derived.WalkKit
import Derived.ProofKit
import Derived.OpenShut
import Derived.ShutString
import Derived.ChangeOld
import Derived.Below
import Derived.SizedLaws
import Derived.Laws.Cover2
import Derived.Carry
namespace Go.Proofs.Ytghkkclonabpkab.fnExactAtomList
open Go.ChangeShapes Go.WideShapes Go.ChangeAt Go.RowKit Go.Proofs.Ytghkkclonabpkab.Ai
open Go.ChangeMaps (open_string shut_string)
set_option linter.unusedVariables false
set_option linter.unusedSimpArgs false
theorem own : ownKnob Try.prog.godebug = none := by kernel_rfl
theorem laidOut : laidOutB Try.prog = true := by kernel_rfl
attribute [local irreducible] bodyK
set_option maxRecDepth 100000 in
set_option maxHeartbeats 4000000 in
theorem lifted (os : Os) (started : os.Started) (H : Type) (enc : TypeId × Value → H) :
    ReturnsInHanded {} Try.checked os 3 .any (Rows.fnExactAtomListSpec.pre6 enc Try.prog Try.f3 Rows.fnExactAtomListRow.domain false) (Rows.fnExactAtomListSpec.post enc Try.prog Try.f3 false true false false) := by
  refine returnsInHanded_of_change_sized (C := Try.checked) own started (by kernel_rfl) Try.func3
    (ChangeSpec.witness6 (enc := enc) (C := Try.checked) false ⟨#[], #[.int .i64 0, .agg #[.int .i64 0, .float .f32 0, .float .f32 0]], []⟩ 8 (by kernel_rfl) (by kernel_rfl) (by kernel_rfl) (by kernel_rfl)) ?_
  intro W base args ds gs before hval0 hW hcnd hsz0 _
  have hval : ∀ (j : Nat) t v, Try.f3.params[j]? = some t → args[j]? = some v → Value.okWide Try.prog W .any base t v := hval0
  have hW' := hW
  obtain ⟨p, q, hA0, hV, rfl, hfz, hnd⟩ := hW
  have hA : DataW.TrodAll enc Try.prog W 0 (fun _ => true) true Try.f3.params.toList args.toList ds p := hA0
  rw [Try.params3] at hA hval
  obtain ⟨v0, vs0, d0, ds0, p0, q0, hargs, rfl, rfl, h0, r0⟩ := trodAll_cons hA
  obtain ⟨v1, vs1, d1, ds1, p1, q1, rfl, rfl, rfl, h1, r1⟩ := trodAll_cons r0
  obtain ⟨rfl, rfl, rfl⟩ := trodAll_nil r1
  obtain rfl : args = #[v0, v1] := by cases args; simp_all
  obtain ⟨rfl, rfl⟩ := trodVars_none hV
  clear hA0 hval0 hsz0
  have k0 := h0
  have lt0 : ∀ x ∈ p0, x.block < W.heap.size := by obtain ⟨m, hm⟩ := k0; exact DataW.trod_lt m _ _ _ hm
  have k1 := h1
  have lt1 : ∀ x ∈ p1, x.block < W.heap.size := by obtain ⟨m, hm⟩ := k1; exact DataW.trod_lt m _ _ _ hm
  have hr0 := HR.nil W
  have ro0 := RO.nil
  obtain ⟨fu0, hf0⟩ := h0
  obtain ⟨n_0, e_0, _, w_0⟩ := DataW.trod_int Try.underlying2 hf0
  obtain ⟨z0, rfl⟩ := okWide_int Try.underlying2 (hval 0 2 v0 rfl rfl)
  obtain rfl : n_0 = z0 := by simpa [Value.cells] using e_0.symm
  obtain ⟨fu1, hf1⟩ := h1
  obtain ⟨cs1, rfl, hcs1⟩ := okWide_struct Try.underlying24 (hval 1 24 v1 rfl rfl)
  obtain ⟨xs1, m1, _, _, hlen1, hxl1, hfd1⟩ := DataW.trod_struct Try.underlying24 hf1
  have hx1_0 : ∃ x, xs1[0]? = some x := ⟨_, List.getElem?_eq_getElem (show 0 < xs1.length by rw [hxl1]; decide)⟩
  obtain ⟨x1_0, hx1_0⟩ := hx1_0
  have hg1_0 := (hfd1 0 _ rfl).trans hx1_0
  obtain ⟨n_1_0, e_1_0, _, w_1_0⟩ := DataW.trod_int Try.underlying2 hg1_0
  have hx1_1 : ∃ x, xs1[1]? = some x := ⟨_, List.getElem?_eq_getElem (show 1 < xs1.length by rw [hxl1]; decide)⟩
  obtain ⟨x1_1, hx1_1⟩ := hx1_1
  have hg1_1 := (hfd1 1 _ rfl).trans hx1_1
  obtain ⟨n_1_1, e_1_1, w_1_1⟩ := dec_float1 Try.underlying22 hg1_1
  have hx1_2 : ∃ x, xs1[2]? = some x := ⟨_, List.getElem?_eq_getElem (show 2 < xs1.length by rw [hxl1]; decide)⟩
  obtain ⟨x1_2, hx1_2⟩ := hx1_2
  have hg1_2 := (hfd1 2 _ rfl).trans hx1_2
  obtain ⟨n_1_2, e_1_2, w_1_2⟩ := dec_float1 Try.underlying22 hg1_2
  have e_1_0 : List.take (Try.prog.cellsOf 2) (List.drop 0 cs1.toList) = [.int .i64 n_1_0] := e_1_0
  rw [show Try.prog.cellsOf 2 = 1 from by kernel_rfl] at e_1_0
  have e_1_1 : List.take (Try.prog.cellsOf 22) (List.drop 1 cs1.toList) = [.float .f32 n_1_1] := e_1_1
  rw [show Try.prog.cellsOf 22 = 1 from by kernel_rfl] at e_1_1
  have e_1_2 : List.take (Try.prog.cellsOf 22) (List.drop 2 cs1.toList) = [.float .f32 n_1_2] := e_1_2
  rw [show Try.prog.cellsOf 22 = 1 from by kernel_rfl] at e_1_2
  have hall1 : cs1 = #[.int .i64 n_1_0, .float .f32 n_1_1, .float .f32 n_1_2] := by
    apply Array.ext'
    have hl : cs1.toList.length = 3 := hlen1
    revert e_1_0 e_1_1 e_1_2 hl
    generalize cs1.toList = zs
    intro e_1_0 e_1_1 e_1_2 hl
    obtain ⟨y0, y1, y2, rfl⟩ : ∃ y0 y1 y2, zs = [y0, y1, y2] := by
      clear e_1_0 e_1_1 e_1_2
      match zs, hl with
      | [y0, y1, y2], _ => exact ⟨y0, y1, y2, rfl⟩
    simp at e_1_0 e_1_1 e_1_2
    simp [e_1_0, e_1_1, e_1_2]
  subst hall1
  have hcall := body_calls (B0 := W.heap.size) (K := fun v _ => v = .bool true) mix_ok E_laws_FnExactAtomList_ok Try.func3 rfl (by kernel_rfl) hr0 (VRs.cons (VR.int .i64 n_0) (VRs.cons (VRs.agg (VRs.cons (VR.int .i64 n_1_0) (VRs.cons (VR.float .f32 _ n_1_1 rfl) (VRs.cons (VR.float .f32 _ n_1_2 rfl) (VRs.nil _))))) (VRs.nil _))) (laws_FnExactAtomList_main _ _ _ _ _ _ ⟨I64.of w_0, I64.of w_1_0, w_1_1, w_1_2, fun _ => rfl⟩)
  refine hcall.mono fun e W' he => ?_
  obtain ⟨v, H', rfl, v', ρ', rfl, _, _, hv, bel⟩ := he
  cases hv
  exact ⟨_, rfl, _, _, _, [], _, [], hW', trodAll_mk1 (shut_bool Try.underlying4 _), (trodAll_cons_mk (Below.trod laidOut (by kernel_rfl) (of_decide_eq_true (by kernel_rfl)) k0 bel lt0) (trodAll_cons_mk (Below.trod laidOut (by kernel_rfl) (of_decide_eq_true (by kernel_rfl)) k1 bel lt1) trodAll_mk0)), rfl, bel.frame _, fun h => by cases h⟩
theorem over : Rows.fnExactAtomListRow.holds Try.pinned (OpenSpec.ofChange Rows.fnExactAtomListSpec) :=
  OpenClaim.holds_of_wide 3 Try.f3 rfl rfl rfl rfl rfl rfl rfl ⟨rfl, rfl, rfl, rfl, rfl⟩ rfl rfl rfl rfl rfl (by kernel_rfl) Try.func3 (by kernel_rfl)
    (of_decide_eq_true (by kernel_rfl)) (by unfold Func.isWrapper; first | (rw [if_pos (by decide +kernel)]; kernel_rfl) | (rw [if_neg (by decide +kernel)]; exact ⟨rfl, rfl⟩))
    (fun os started H enc _ => lifted os started H enc)
end Go.Proofs.Ytghkkclonabpkab.fnExactAtomList
namespace Go.Proofs.Ytghkkclonabpkab
theorem fnExactAtomList_holds : Rows.FnExactAtomListSaid := fnExactAtomList.over
#print axioms fnExactAtomList_holds
end Go.Proofs.Ytghkkclonabpkab
