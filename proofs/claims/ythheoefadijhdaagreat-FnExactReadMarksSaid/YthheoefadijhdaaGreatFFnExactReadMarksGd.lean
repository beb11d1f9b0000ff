/- The library's WaitGroup.Go: the child, whatever function it was given. -/
import Derived.Test.YthheoefadijhdaaGreatFFnExactReadMarksGc
set_option linter.unusedVariables false
set_option linter.unusedSectionVars false
set_option linter.unusedSimpArgs false
namespace Go.Proofs.YthheoefadijhdaaGreat.Ai
open Go Go.RowKit Go.Conc Go.Conc.Lib Go.ConcX.Gen
open Go.ConcX (stA smA OfWg KK WgAt DC0 rd wr mk AtR0 RCa KCa DCs Full Shy Payload)

theorem z1c3 {a:Act} {o:Oper} {f:Operand} {ts:Array TypeId} {g:Nat} {fs cs:Array Value} (hop:o.op=.call ⟨.value f,#[],ts⟩) (hq:a.eval f=.func (.func g) fs cs):execOp a.eval o=callFunc g (fs++cs).toList.toArray:=by
 have e:(fs++cs).toList.toArray=fs++(#[].map a.eval)++cs:=by apply Array.ext';simp
 rw [e]
 unfold execOp
 simp only [hop,resolve,hq,Deferred.ofValue]
 rfl
structure Rest (x y:Nat) (w w₁:World):Prop where
 tape:w₁.tape=w.tape
 os:w₁.os=w.os
 output:w₁.output=w.output
 size:w₁.heap.size=w.heap.size
 block:∀k,k≠x→k≠y→w₁.heap[k]? =w.heap[k]?
theorem Rest.refl (x y:Nat) (w:World):Rest x y w w:=⟨rfl,rfl,rfl,rfl,fun _ _ _=>rfl⟩
theorem Rest.trans {x y:Nat} {a b c:World} (h:Rest x y a b) (k:Rest x y b c):Rest x y a c:=⟨k.tape.trans h.tape,k.os.trans h.os,k.output.trans h.output,k.size.trans h.size,fun z h1 h2=>(k.block z h1 h2).trans (h.block z h1 h2)⟩
theorem RC.rest {ty:TypeId} {x y:Nat} {w w₁:World} (h:RC ty x w w₁):Rest x y w w₁:=⟨h.tape,h.os,h.output,h.size,fun k h1 _=>h.block k h1⟩
theorem Rest.hr {x y:Nat} {Z:Zone} {ρ:Ren} {H:zn} {w w₁:World} (h:Rest x y w w₁) (hx:¬Z.rd x) (hy:¬Z.rd y) (k:HR Z ρ H w):HR Z ρ H w₁:=by
 refine ⟨k.len,fun c hc=>k.fresh c (by rw [←h.size];exact hc),fun b blk hb c base sz hr=>?_,k.sep⟩
 obtain ⟨arr,e,fz,h1,h2,h3,h4,h5⟩:=k.live b blk hb c base sz hr
 exact ⟨arr,e,fz,by rw [h.block c (fun e=>hx (e ▸ h5.1)) (fun e=>hy (e ▸ h5.1))];exact h1,h2,h3,h4,h5⟩

def Done (Z:Zone) (ρ:Ren) (x y:Nat) (K:Value→zn→Prop) (w w₁:World):Prop:=
 ∃v H' Z' ρ' w',K v H'∧Zle Z' Z∧ρ <+:ρ'∧HR Z' ρ' H' w₁∧KeptW x Z w w'∧Rest x y w' w₁
theorem Done.rest {Z:Zone} {ρ:Ren} {x y:Nat} {K:Value→zn→Prop} {w w₁ w₂:World} (hx:¬Z.rd x) (hy:¬Z.rd y) (h:Done Z ρ x y K w w₁) (k:Rest x y w₁ w₂):Done Z ρ x y K w w₂:=by
 obtain ⟨v,H',Z',ρ',w',h1,h2,h3,h4,h5,h6⟩:=h
 exact ⟨v,H',Z',ρ',w',h1,h2,h3,k.hr (fun e=>hx ((h2 _).2 e)) (fun e=>hy ((h2 _).2 e)) h4,h5,h6.trans k⟩

instance:Payload:=⟨142⟩

section
variable {Post:Value→World→Prop} {Wg c cw cf:Nat} {Shun:Loc→Prop} {Next Anch:Goroutine→World→Prop} {Z:Zone} {ρ:Ren} {w:World} {K:Value→zn→Prop}
 (J:Jn Tryz.prog Post link.tWg Wg c (Done Z ρ Wg cw K w) Shun Next Anch)
include J

theorem Jn.child {H:zn} {X:Cls Tryz.prog} (hX:X false (zox J)) {g:Nat} {S:FSpec} (hS:FnOkX Tryz.prog X g S) (hZ:ZOff Z Shun Wg) (hr:HR Z ρ H w) (hcr:¬Z.rd cw) (hcw:¬Z.wr cw) (h1:cw≠Wg) (h2:cf≠Wg)
  (hsh:∀a:Addr,a.block=Wg∨a.block=cw→¬Shun (.cell a)) (hWl:Wg<w.heap.size)
  {fs cs:Array Value} {args:List Value} (hv:VRs ρ args (fs++cs).toList) (hF:S.F args H K)
  (hbw:w.heap[cw]? =some (.cells #[.pointer (some ⟨Wg,0,none⟩)] 142)) (hbf:w.cell? ⟨cf,0,none⟩=some (.func (.func g) fs cs)):
  Both Tryz.prog Post link.tWg Wg c (Done Z ρ Wg cw K w) Shun Next Anch (born cw cf) (RC link.tWg Wg w) 0 false:=by
 have hcl:cw<w.heap.size:=(Array.getElem?_eq_some_iff.1 hbw).1
 refine J.silent hZ 12 _ w (z1h5 h1 h2 w ⟨by simp [World.cell?,hbw],hbf⟩ fun w₁ hw₁=>?_)
 have hr₁:=hw₁.hr hZ.rd hr
 refine hS.sound false (zox J) hX Z ρ H w₁ args (fs++cs).toList K hr₁ hv hF (baseD 131) ⟨#[.pointer (some ⟨cw,0,none⟩),.pointer (some ⟨cf,0,none⟩),.func (.func 132) #[] #[.pointer (some ⟨cw,0,none⟩)],.func (.func g) fs cs,undef],[zvk cw]⟩ [] [bot]
  (z1z (cr body1)) 1 [] _ rfl rfl (by k_ne) (fun c hc=>by cases hc) ?_ ?_ hZ
 ·exact z1c3 (f:=.tmp 3) (ts:=#[]) rfl (by simp [Act.eval])
 ·intro v H' hK Z' ρ' w' v' q0 q1 q2 q3 q4 hZ'
  have hT:KeptW Wg Z w w':=(KeptW.of_rc hw₁).trans q4
  have hsz:w.heap.size≤w'.heap.size:=hT.size
  let SS:Shy Wg cw:=z1ad Shun w'.heap.size Wg cw (fun a h=>hsh a (.inl h)) (fun a h=>hsh a (.inr h)) (by omega) (by omega)
  have hfull:∀w'',RC link.tWg Wg w' w''→Full cw [.pointer (some ⟨Wg,0,none⟩)] w'':=fun w'' hr'' _=>by
   rw [hr''.block cw h1,hT.block cw hcl h1 hcw,hbw]
   rfl
  have main:=J.sGoes (Mine:=fun _=>False) (C:=cw) (Low:=w'.heap.size) (B:=w'.heap.size) (S:=SS) (fun act h=>h) h1 (vals:=[.pointer (some ⟨Wg,0,none⟩)]) (K:=Rest Wg cw w')
   (fun w d h=>h.trans (RC.at link.tWg Wg w d).rest) (fun w v h=>h.trans (RC.cell link.tWg Wg w _ rfl v).rest) (fun a b hab h=>h.trans ⟨hab.tape,hab.os,hab.output,hab.size,fun k _ hk=>hab.block k hk⟩)
   (fun w'' h=>⟨v,H',Z',ρ',w',hK,q0,q1,h.hr (fun e=>hZ.rd ((q0 _).2 e)) (fun e=>hcr ((q0 _).2 e)) q2,hT,h⟩) (fun w h=>Nat.le_of_eq h.size.symm) 60 (behind cw cf (.func (.func g) fs cs) v')
  have goes:∀w'',KCa link.tWg Wg w''→RC link.tWg Wg w' w''→Goes Tryz.prog false (RCa link.tWg Wg w'.heap.size) (@DCs (fun _=>False) Wg cw SS) (AtR0 Tryz.prog link.tWg Wg cw w'.heap.size [.pointer (some ⟨Wg,0,none⟩)]) 60 (behind cw cf (.func (.func g) fs cs) v') w'':=
   fun w'' hk hr''=>@z1h6 Wg cw cf (.func (.func g) fs cs) _ (fun _=>False) w'.heap.size SS [.pointer (some ⟨Wg,0,none⟩)] (by omega) (by omega) h1 rfl v' w'' ⟨hk,hfull w'' hr''⟩
  exact ⟨fun M d0 a w'' t g1 g2 g3=>main.A M d0 a w'' t g1 ⟨g2.1,g2.2.rest,goes w'' (.inl g2.1) g2.2⟩ g3,fun M a w'' t g1 g2 g3=>main.B M a w'' t g1 ⟨g2.1,g2.2.rest,goes w'' (.inr g2.1) g2.2⟩ g3⟩
end
end Go.Proofs.YthheoefadijhdaaGreat.Ai
