/- The row of the law FnExactReadMarks: for every input the law returns true, and each argument reads behind the call as it read before it; out of what the functions come to on the abstract machine. -/
import Derived.Test.YthheoefadijhdaaGreatRows
import Derived.Test.YthheoefadijhdaaGreatFFnExactReadMarks3
import Derived.Test.YthheoefadijhdaaGreatFFnExactReadMarksAiM
import Derived.WalkKit
import Derived.ProofKit
import Derived.OpenShut
import Derived.ShutString
import Derived.ChangeOld
import Derived.Below
import Derived.SizedLaws
import Derived.Laws.Cover2
import Derived.Carry
import Derived.Conc.LeavingOf
namespace Go.Proofs.YthheoefadijhdaaGreat.fnExactReadMarks
open Go.ChangeShapes Go.WideShapes Go.ChangeAt Go.RowKit Go.Proofs.YthheoefadijhdaaGreat.Ai
open Go.ChangeMaps (open_string shut_string)
set_option linter.unusedVariables false
set_option linter.unusedSimpArgs false
theorem own:ownKnob Tryz.prog.godebug=none:=by kernel_rfl
theorem laidOut:laidOutB Tryz.prog=true:=by kernel_rfl
attribute [local irreducible] z6j
set_option maxRecDepth 100000 in
set_option maxHeartbeats 4000000 in
theorem lifted (os:Os) (started:os.Started) (H:Type) (enc:TypeId×Value→H):
    ReturnsInLeavingWide {} Tryz.checked os 7 .any (Rows.fnExactReadMarksSpec.pre6 enc Tryz.prog Tryz.f7 Rows.fnExactReadMarksRow.domain false) (Rows.fnExactReadMarksSpec.post enc Tryz.prog Tryz.f7 false true false false):=by
  refine returnsInLeavingWide_of_change_sized (C:=Tryz.checked) own started Tryz.func7
    (ChangeSpec.witness6 (enc:=enc) (C:=Tryz.checked) false ⟨#[],#[.agg #[.slice none 0 0,.float .f32 0],.agg #[.int .i64 0,.int .i64 0,.slice none 0 0],.int .i64 0,.float .f32 0],[]⟩ 8 (by kernel_rfl) (by kernel_rfl) (by kernel_rfl) (by kernel_rfl)) ?_
  intro W base args ds gs before hval0 hW hcnd hsz0 _
  have hval:∀(j:Nat) t v,Tryz.f7.params[j]? =some t→args[j]? =some v→Value.okWide Tryz.prog W .any base t v:=hval0
  have hW':=hW
  obtain ⟨p,q,hA0,hV,rfl,hfz,hnd⟩:=hW
  have hA:DataW.TrodAll enc Tryz.prog W 0 (fun _=>true) true Tryz.f7.params.toList args.toList ds p:=hA0
  rw [Tryz.params7] at hA hval
  obtain ⟨v0,vs0,d0,ds0,p0,q0,hargs,rfl,rfl,h0,r0⟩:=trodAll_cons hA
  obtain ⟨v1,vs1,d1,ds1,p1,q1,rfl,rfl,rfl,h1,r1⟩:=trodAll_cons r0
  obtain ⟨v2,vs2,d2,ds2,p2,q2,rfl,rfl,rfl,h2,r2⟩:=trodAll_cons r1
  obtain ⟨v3,vs3,d3,ds3,p3,q3,rfl,rfl,rfl,h3,r3⟩:=trodAll_cons r2
  obtain ⟨rfl,rfl,rfl⟩:=trodAll_nil r3
  obtain rfl:args=#[v0,v1,v2,v3]:=by cases args;simp_all
  obtain ⟨rfl,rfl⟩:=trodVars_none hV
  clear hA0 hval0 hsz0
  have k0:=h0
  have lt0:∀x ∈ p0,x.block<W.heap.size:=by obtain ⟨m,hm⟩:=k0;exact DataW.trod_lt m _ _ _ hm
  have k1:=h1
  have lt1:∀x ∈ p1,x.block<W.heap.size:=by obtain ⟨m,hm⟩:=k1;exact DataW.trod_lt m _ _ _ hm
  have k2:=h2
  have lt2:∀x ∈ p2,x.block<W.heap.size:=by obtain ⟨m,hm⟩:=k2;exact DataW.trod_lt m _ _ _ hm
  have k3:=h3
  have lt3:∀x ∈ p3,x.block<W.heap.size:=by obtain ⟨m,hm⟩:=k3;exact DataW.trod_lt m _ _ _ hm
  have hr0:=HR.nil W
  have ro0:=RO.nil
  obtain ⟨fu0,hf0⟩:=h0
  obtain ⟨cs0,rfl,hcs0⟩:=okWide_struct Tryz.underlying25 (hval 0 25 v0 rfl rfl)
  obtain ⟨xs0,m0,_,_,hlen0,hxl0,hfd0⟩:=DataW.trod_struct Tryz.underlying25 hf0
  have hx0_0:∃x,xs0[0]? =some x:=⟨_,List.getElem?_eq_getElem (show 0<xs0.length by rw [hxl0];decide)⟩
  obtain ⟨x0_0,hx0_0⟩:=hx0_0
  have hg0_0:=(hfd0 0 _ rfl).trans hx0_0
  obtain ⟨ρ1,H1,a_0_0,n_0_0,c_0_0,l_0_0,e_0_0,pr0,g0,hr1,ro1,vr_0_0,il_0_0,q_0_0,ln_0_0⟩:=zgk Tryz.underlying22 (by kernel_rfl) (zjt (e:=23) Tryz.underlying23) hg0_0 hr0 ro0
  have hx0_1:∃x,xs0[1]? =some x:=⟨_,List.getElem?_eq_getElem (show 1<xs0.length by rw [hxl0];decide)⟩
  obtain ⟨x0_1,hx0_1⟩:=hx0_1
  have hg0_1:=(hfd0 1 _ rfl).trans hx0_1
  obtain ⟨n_0_1,e_0_1,w_0_1⟩:=zgc Tryz.underlying23 hg0_1
  have e_0_0:List.take (Tryz.prog.cellsOf 22) (List.drop 0 cs0.toList)=[c_0_0]:=e_0_0
  rw [show Tryz.prog.cellsOf 22=1 from by kernel_rfl] at e_0_0
  have e_0_1:List.take (Tryz.prog.cellsOf 23) (List.drop 1 cs0.toList)=[.float .f32 n_0_1]:=e_0_1
  rw [show Tryz.prog.cellsOf 23=1 from by kernel_rfl] at e_0_1
  have hall0:cs0=#[c_0_0,.float .f32 n_0_1]:=by
    apply Array.ext'
    have hl:cs0.toList.length=2:=hlen0
    revert e_0_0 e_0_1 hl
    generalize cs0.toList=zs
    intro e_0_0 e_0_1 hl
    obtain ⟨y0,y1,rfl⟩:∃y0 y1,zs=[y0,y1]:=by
      clear e_0_0 e_0_1
      match zs,hl with
      | [y0,y1],_=>exact ⟨y0,y1,rfl⟩
    simp at e_0_0 e_0_1
    simp [e_0_0,e_0_1]
  subst hall0
  obtain ⟨fu1,hf1⟩:=h1
  obtain ⟨cs1,rfl,hcs1⟩:=okWide_struct Tryz.underlying27 (hval 1 27 v1 rfl rfl)
  obtain ⟨xs1,m1,_,_,hlen1,hxl1,hfd1⟩:=DataW.trod_struct Tryz.underlying27 hf1
  have hx1_0:∃x,xs1[0]? =some x:=⟨_,List.getElem?_eq_getElem (show 0<xs1.length by rw [hxl1];decide)⟩
  obtain ⟨x1_0,hx1_0⟩:=hx1_0
  have hg1_0:=(hfd1 0 _ rfl).trans hx1_0
  obtain ⟨n_1_0,e_1_0,_,w_1_0⟩:=DataW.trod_int Tryz.underlying2 hg1_0
  have hx1_1:∃x,xs1[1]? =some x:=⟨_,List.getElem?_eq_getElem (show 1<xs1.length by rw [hxl1];decide)⟩
  obtain ⟨x1_1,hx1_1⟩:=hx1_1
  have hg1_1:=(hfd1 1 _ rfl).trans hx1_1
  obtain ⟨n_1_1,e_1_1,_,w_1_1⟩:=DataW.trod_int Tryz.underlying2 hg1_1
  have hx1_2:∃x,xs1[2]? =some x:=⟨_,List.getElem?_eq_getElem (show 2<xs1.length by rw [hxl1];decide)⟩
  obtain ⟨x1_2,hx1_2⟩:=hx1_2
  have hg1_2:=(hfd1 2 _ rfl).trans hx1_2
  obtain ⟨ρ2,H2,a_1_2,n_1_2,c_1_2,l_1_2,e_1_2,pr1,g1,hr2,ro2,vr_1_2,il_1_2,q_1_2,ln_1_2⟩:=zgk Tryz.underlying22 (by kernel_rfl) (zjt (e:=23) Tryz.underlying23) hg1_2 hr1 ro1
  have e_1_0:List.take (Tryz.prog.cellsOf 2) (List.drop 0 cs1.toList)=[.int .i64 n_1_0]:=e_1_0
  rw [show Tryz.prog.cellsOf 2=1 from by kernel_rfl] at e_1_0
  have e_1_1:List.take (Tryz.prog.cellsOf 2) (List.drop 1 cs1.toList)=[.int .i64 n_1_1]:=e_1_1
  rw [show Tryz.prog.cellsOf 2=1 from by kernel_rfl] at e_1_1
  have e_1_2:List.take (Tryz.prog.cellsOf 22) (List.drop 2 cs1.toList)=[c_1_2]:=e_1_2
  rw [show Tryz.prog.cellsOf 22=1 from by kernel_rfl] at e_1_2
  have hall1:cs1=#[.int .i64 n_1_0,.int .i64 n_1_1,c_1_2]:=by
    apply Array.ext'
    have hl:cs1.toList.length=3:=hlen1
    revert e_1_0 e_1_1 e_1_2 hl
    generalize cs1.toList=zs
    intro e_1_0 e_1_1 e_1_2 hl
    obtain ⟨y0,y1,y2,rfl⟩:∃y0 y1 y2,zs=[y0,y1,y2]:=by
      clear e_1_0 e_1_1 e_1_2
      match zs,hl with
      | [y0,y1,y2],_=>exact ⟨y0,y1,y2,rfl⟩
    simp at e_1_0 e_1_1 e_1_2
    simp [e_1_0,e_1_1,e_1_2]
  subst hall1
  obtain ⟨fu2,hf2⟩:=h2
  obtain ⟨n_2,e_2,_,w_2⟩:=DataW.trod_int Tryz.underlying2 hf2
  obtain ⟨z2,rfl⟩:=okWide_int Tryz.underlying2 (hval 2 2 v2 rfl rfl)
  obtain rfl:n_2=z2:=by simpa [Value.cells] using e_2.symm
  obtain ⟨fu3,hf3⟩:=h3
  obtain ⟨n_3,e_3,w_3⟩:=zgc Tryz.underlying23 hf3
  obtain ⟨z3,rfl⟩:=okWide_float Tryz.underlying23 (hval 3 23 v3 rfl rfl)
  obtain rfl:n_3=z3:=by simpa [Value.cells] using e_3.symm
  refine zvi (B0:=W.heap.size) (K:=fun v _=>v=.bool true) mix_ok E_laws_FnExactReadMarks_ok Tryz.func7 (by kernel_rfl) rfl (by kernel_rfl) hr2 (VRs.cons (VRs.agg (VRs.cons ((vr_0_0).mono pr1) (VRs.cons (VR.float .f32 _ n_0_1 rfl) (VRs.nil _)))) (VRs.cons (VRs.agg (VRs.cons (VR.int .i64 n_1_0) (VRs.cons (VR.int .i64 n_1_1) (VRs.cons (vr_1_2) (VRs.nil _))))) (VRs.cons (VR.int .i64 n_2) (VRs.cons (VR.float .f32 _ n_3 rfl) (VRs.nil _))))) (zby E_laws_FnExactReadMarks_ok (laws_FnExactReadMarks_main _ _ _ _ _ _ _ _ _ _ _ _ _ ⟨l_0_0,l_1_2,(il_0_0).grow g1,q_0_0,ln_0_0,w_0_1,I64.of w_1_0,I64.of w_1_1,il_1_2,q_1_2,ln_1_2,I64.of w_2,w_3,fun _=>rfl⟩)) ?_
  intro v H' v' ρ' Z' w' hv0 _ _ hv bel
  subst hv0
  cases hv
  exact ⟨_,_,_,[],_,[],hW',trodAll_mk1 (shut_bool Tryz.underlying4 _),(trodAll_cons_mk (Below.trod laidOut (by kernel_rfl) (of_decide_eq_true (by kernel_rfl)) k0 bel lt0) (trodAll_cons_mk (Below.trod laidOut (by kernel_rfl) (of_decide_eq_true (by kernel_rfl)) k1 bel lt1) (trodAll_cons_mk (Below.trod laidOut (by kernel_rfl) (of_decide_eq_true (by kernel_rfl)) k2 bel lt2) (trodAll_cons_mk (Below.trod laidOut (by kernel_rfl) (of_decide_eq_true (by kernel_rfl)) k3 bel lt3) trodAll_mk0)))),rfl,bel.frame _,fun h=>by cases h⟩
theorem over:Rows.fnExactReadMarksRow.holds Tryz.pinned (OpenSpec.ofChange Rows.fnExactReadMarksSpec):=
  OpenClaim.holds_of_wide_leaving 7 Tryz.f7 rfl rfl rfl rfl rfl rfl rfl ⟨rfl,rfl,rfl,rfl,rfl⟩ rfl rfl rfl rfl rfl (by kernel_rfl) Tryz.func7 (by kernel_rfl)
    (of_decide_eq_true (by kernel_rfl)) (by unfold Func.isWrapper;first | (rw [if_pos (by decide+kernel)];kernel_rfl) | (rw [if_neg (by decide+kernel)];exact ⟨rfl,rfl⟩))
    (fun os started H enc _=>lifted os started H enc)
end Go.Proofs.YthheoefadijhdaaGreat.fnExactReadMarks
namespace Go.Proofs.YthheoefadijhdaaGreat
theorem fnExactReadMarks_holds:Rows.FnExactReadMarksSaid:=fnExactReadMarks.over
#print axioms fnExactReadMarks_holds
end Go.Proofs.YthheoefadijhdaaGreat
