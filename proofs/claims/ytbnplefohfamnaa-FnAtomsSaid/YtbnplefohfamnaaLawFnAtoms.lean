/- The row of the law FnAtoms: for every input the law returns true, and each argument reads behind the call as it read before it; out of what the functions come to on the abstract machine. -/
import Derived.Test.YtbnplefohfamnaaRows
import Derived.Test.YtbnplefohfamnaaFFnAtoms2
import Derived.Test.YtbnplefohfamnaaFFnAtomsOpen
import Derived.WalkKit
import Derived.ProofKit
import Derived.OpenShut
import Derived.ShutString
import Derived.ChangeOld
import Derived.Below
import Derived.SizedLaws
import Derived.Laws.Cover2
import Derived.Carry
namespace Go.Proofs.Ytbnplefohfamnaa.fnAtoms
open Go.ChangeShapes Go.WideShapes Go.ChangeAt Go.RowKit Go.Proofs.Ytbnplefohfamnaa.Ai
open Go.ChangeMaps (open_string shut_string)
set_option linter.unusedVariables false
set_option linter.unusedSimpArgs false
theorem own:ownKnob Try.prog.godebug=none:=by kernel_rfl
theorem laidOut:laidOutB Try.prog=true:=by kernel_rfl
attribute [local irreducible] z1a
set_option maxRecDepth 100000 in
set_option maxHeartbeats 4000000 in
theorem lifted (os:Os) (started:os.Started) (H:Type) (enc:TypeId×Value→H):
    ReturnsInHanded {} Try.checked os 13 .any (Rows.fnAtomsSpec.pre6 enc Try.prog Try.f13 Rows.fnAtomsRow.domain false) (Rows.fnAtomsSpec.post enc Try.prog Try.f13 false true false false):=by
  refine returnsInHanded_of_change_sized (C:=Try.checked) own started (by kernel_rfl) Try.func13
    (ChangeSpec.witness6 (enc:=enc) (C:=Try.checked) false ⟨#[],#[.slice none 0 0,.slice none 0 0],[]⟩ 8 (by kernel_rfl) (by kernel_rfl) (by kernel_rfl) (by kernel_rfl)) ?_
  intro W base args ds gs before hval0 hW hcnd hsz0 _
  have hval:∀(j:Nat) t v,Try.f13.params[j]? =some t→args[j]? =some v→Value.okWide Try.prog W .any base t v:=hval0
  have hW':=hW
  obtain ⟨p,q,hA0,hV,rfl,hfz,hnd⟩:=hW
  have hA:DataW.TrodAll enc Try.prog W 0 (fun _=>true) true Try.f13.params.toList args.toList ds p:=hA0
  rw [Try.params13] at hA hval
  obtain ⟨v0,vs0,d0,ds0,p0,q0,hargs,rfl,rfl,h0,r0⟩:=trodAll_cons hA
  obtain ⟨v1,vs1,d1,ds1,p1,q1,rfl,rfl,rfl,h1,r1⟩:=trodAll_cons r0
  obtain ⟨rfl,rfl,rfl⟩:=trodAll_nil r1
  obtain rfl:args=#[v0,v1]:=by cases args;simp_all
  obtain ⟨rfl,rfl⟩:=trodVars_none hV
  clear hA0 hval0 hsz0
  have k0:=h0
  have lt0:∀x ∈ p0,x.block<W.heap.size:=by obtain ⟨m,hm⟩:=k0;exact DataW.trod_lt m _ _ _ hm
  have k1:=h1
  have lt1:∀x ∈ p1,x.block<W.heap.size:=by obtain ⟨m,hm⟩:=k1;exact DataW.trod_lt m _ _ _ hm
  have hr0:=HR.nil W
  have ro0:=RO.nil
  obtain ⟨fu0,hf0⟩:=h0
  obtain ⟨ρ1,H1,a_0,n_0,c_0,l_0,e_0,pr0,g0,hr1,ro1,vr_0,il_0,q_0,ln_0⟩:=zf4 Try.underlying66 (by kernel_rfl) (z12s (e:=5) Try.underlying5) hf0 hr0 ro0
  obtain ⟨sa0,sl0,sc0,rfl⟩:=okWide_slice Try.underlying66 (hval 0 66 v0 rfl rfl)
  obtain rfl:c_0=.slice sa0 sl0 sc0:=by simpa [Value.cells] using e_0.symm
  obtain ⟨fu1,hf1⟩:=h1
  obtain ⟨ρ2,H2,a_1,n_1,c_1,l_1,e_1,pr1,g1,hr2,ro2,vr_1,il_1,q_1,ln_1⟩:=zf4 Try.underlying66 (by kernel_rfl) (z12s (e:=5) Try.underlying5) hf1 hr1 ro1
  obtain ⟨sa1,sl1,sc1,rfl⟩:=okWide_slice Try.underlying66 (hval 1 66 v1 rfl rfl)
  obtain rfl:c_1=.slice sa1 sl1 sc1:=by simpa [Value.cells] using e_1.symm
  have hcall:=zev (B0:=W.heap.size) (K:=fun v _=>v=.bool true) mix_ok E_laws_FnAtoms_ok Try.func13 rfl (by kernel_rfl) hr2 (VRs.cons ((vr_0).mono pr1) (VRs.cons (vr_1) (VRs.nil _))) (zf E_laws_FnAtoms_ok (laws_FnAtoms_main _ _ _ _ _ _ _ _ ⟨l_0,l_1,(il_0).grow g1,il_1,fun _=>rfl⟩))
  refine hcall.mono fun e W' he=>?_
  obtain ⟨v,H',rfl,v',ρ',rfl,_,_,hv,bel⟩:=he
  cases hv
  exact ⟨_,rfl,_,_,_,[],_,[],hW',trodAll_mk1 (shut_bool Try.underlying4 _),(trodAll_cons_mk (Below.trod laidOut (by kernel_rfl) (of_decide_eq_true (by kernel_rfl)) k0 bel lt0) (trodAll_cons_mk (Below.trod laidOut (by kernel_rfl) (of_decide_eq_true (by kernel_rfl)) k1 bel lt1) trodAll_mk0)),rfl,bel.frame _,fun h=>by cases h⟩
theorem over:Rows.fnAtomsRow.holds Try.pinned (OpenSpec.ofChange Rows.fnAtomsSpec):=
  OpenClaim.holds_of_wide 13 Try.f13 rfl rfl rfl rfl rfl rfl rfl ⟨rfl,rfl,rfl,rfl,rfl⟩ rfl rfl rfl rfl rfl (by kernel_rfl) Try.func13 (by kernel_rfl)
    (of_decide_eq_true (by kernel_rfl)) (by unfold Func.isWrapper;first | (rw [if_pos (by decide+kernel)];kernel_rfl) | (rw [if_neg (by decide+kernel)];exact ⟨rfl,rfl⟩))
    (fun os started H enc _=>lifted os started H enc)
end Go.Proofs.Ytbnplefohfamnaa.fnAtoms
namespace Go.Proofs.Ytbnplefohfamnaa
theorem fnAtoms_holds:Rows.FnAtomsSaid:=fnAtoms.over
#print axioms fnAtoms_holds
end Go.Proofs.Ytbnplefohfamnaa
