/- The abstract machine and the world: an operation, a region in the order of the text, code, a function. -/
import Derived.Test.YtbnplefohfamnaaFFnAtomsAiG
set_option linter.unusedSimpArgs false
set_option linter.unusedVariables false
namespace Go.Proofs.Ytbnplefohfamnaa.Ai
open Go Go.RowKit

structure FnOk (P:Program) (g:Nat) (S:FSpec):Prop where
 mono:∀(args:List Value) (H:zd) (K K':Value→zd→Prop),(∀v H',K v H'→K' v H')→S.F args H K→S.F args H K'
 quiet:S.quiet=true→∀(args:List Value) (H:zd) (K:Value→zd→Prop),S.F args H K→∃v,K v H∧∀K':Value→zd→Prop,K' v H→S.F args H K'
 live:∀(args:List Value) (H:zd) (K:Value→zd→Prop),S.F args H K→∃v H',K v H'
 tame:S.tame=true→∀(args:List Value) (H:zd) (K:Value→zd→Prop),S.F args H K→S.F args H fun v H'=>Grow H H'∧K v H'
 sound:∀(B0:Nat) (ρ:Ren) (H:zd) (w:World) (args args':List Value) (K:Value→zd→Prop),HR B0 ρ H w→VRs ρ args args'→S.F args H K→
  ∀(o:Oper) (a:Act) (next:Act→World→Prop) (Q:Exit→Act→World→Prop),
   (∀v H',K v H'→∀ρ' w' v',ρ <+:ρ'→HR B0 ρ' H' w'→VR ρ' v v'→Below B0 w w'→next (a.put o.dst v') w')→o.upon P a next Q ((callFunc g args'.toArray).run P w)

theorem FnOk.none (P:Program) (g:Nat):FnOk P g z13d:=⟨fun _ _ _ _ _ h=>h.elim,fun _ _ _ _ h=>h.elim,fun _ _ _ h=>h.elim,fun _ _ _ _ h=>h.elim,fun _ _ _ _ _ _ _ _ _ h=>h.elim⟩
theorem FnOk.envOf {P:Program} {l:List (Nat×FSpec)} (h:∀x ∈ l,FnOk P x.1 x.2) (g:Nat):FnOk P g (envOf l g):=by
 induction l with
 | nil=>exact .none P g
 | cons x l ih=>
  obtain ⟨k,S⟩:=x
  unfold Ai.envOf
  cases e:Nat.beq k g
  ·exact ih fun y hy=>h y (List.mem_cons_of_mem _ hy)
  ·have:=h (k,S) List.mem_cons_self
   rw [Nat.eq_of_beq_eq_true e] at this
   exact this

section
variable {P:Program} {ρ:Ren} {w:World} {B0:Nat} {H:zd} {env:Env}

def zth (B0:Nat) (ρ:Ren) (w:World) (K:Value→zd→Prop) (o:Oper) (a:Act) (next:Act→World→Prop):Prop:=
 ∀v H',K v H'→∀ρ' w' v',ρ <+:ρ'→HR B0 ρ' H' w'→VR ρ' v v'→Below B0 w w'→next (a.put o.dst v') w'

theorem HOut.upon {s:Sem Value} {K:Value→zd→Prop} (h:HOut P B0 ρ s w K) {o:Oper} {a:Act} {next:Act→World→Prop} {Q:Exit→Act→World→Prop} (hn:zth B0 ρ w K o a next):
  o.upon P a next Q ((do pure (Next.value (←s)):Sem Next).run P w):=by
 obtain ⟨v,H',hk,v',w',ρ',h1,h2,h3,h4,h5⟩:=h
 rw [Sem.run_bind,h1]
 exact hn v H' hk ρ' w' v' h2 h3 h4 h5

theorem zth.here {K:Value→zd→Prop} {o:Oper} {a:Act} {next:Act→World→Prop} (hn:zth B0 ρ w K o a next) (hr:HR B0 ρ H w) {v v':Value} (hk:K v H) (hv:VR ρ v v'):next (a.put o.dst v') w:=
 hn v H hk ρ w v' (List.prefix_refl _) hr hv (.refl _ _)

theorem z8j:VR ρ undef undef:=VRs.tuple (xs:=#[]) (ys:=#[]) (.nil ρ)

theorem zcv {ev ev':Operand→Value} (x:Option Operand) (h:∀y ∈ x.toArray,VR ρ (ev y) (ev' y)):zwt ρ (x.map ev) (x.map ev'):=by
 cases x with
 | none=>trivial
 | some y=>exact h y (by simp)

theorem zg1 {b:Builtin} {ts:Array TypeId} {ty:TypeId} {consts:Array Bool} {args args':List Value} {K:Value→zd→Prop} (hr:HR B0 ρ H w) (h:z4y P b ts args H K) (hv:VRs ρ args args')
  {o:Oper} {a:Act} {next:Act→World→Prop} {Q:Exit→Act→World→Prop} (hn:zth B0 ρ w K o a next):
  o.upon P a next Q ((builtin b ts ty consts args'.toArray).run P w):=by
 unfold z4y at h
 split at h
 ·rename_i t t' s x hts
  obtain ⟨he,h9⟩:=z1d h
  obtain rfl:=Nat.eq_of_beq_eq_true he
  obtain ⟨s',l,rfl,hs,hl⟩:=hv.uncons
  obtain ⟨x',l,rfl,hx,hl⟩:=hl.uncons
  rw [hl.unnil]
  obtain rfl:ts=#[t,t]:=by rw [←Array.toArray_toList (xs:=ts),hts]
  exact (zlp hr h9 hs hx).upon hn
 ·rename_i t r d s hts
  obtain ⟨s',l,rfl,hs,hl⟩:=hv.uncons
  obtain ⟨x',l,rfl,hx,hl⟩:=hl.uncons
  rw [hl.unnil]
  have ht:ts[0]? =some t:=by rw [←Array.getElem?_toList,hts];rfl
  exact (zui hr h hs hx ht).upon hn
 ·rename_i t r x hts
  obtain ⟨x',l,rfl,hx,hl⟩:=hv.uncons
  rw [hl.unnil]
  have ht:ts[0]? =some t:=by rw [←Array.getElem?_toList,hts];rfl
  exact (HOut.of hr (z10y h hx ht)).upon hn
 ·rename_i x y
  obtain ⟨x',l,rfl,hx,hl⟩:=hv.uncons
  obtain ⟨y',l,rfl,hy,hl⟩:=hl.uncons
  rw [hl.unnil]
  have:=(HOut.of hr (z3m (P:=P) (mx:=false) (w:=w) h hx hy)).upon (o:=o) (a:=a) (Q:=Q) hn
  simpa [builtin,Builtin.min_] using this
 ·rename_i x y
  obtain ⟨x',l,rfl,hx,hl⟩:=hv.uncons
  obtain ⟨y',l,rfl,hy,hl⟩:=hl.uncons
  rw [hl.unnil]
  have:=(HOut.of hr (z3m (P:=P) (mx:=true) (w:=w) h hx hy)).upon (o:=o) (a:=a) (Q:=Q) hn
  simpa [builtin,Builtin.max_] using this
 ·rename_i x y z
  obtain ⟨x',l,rfl,hx,hl⟩:=hv.uncons
  obtain ⟨y',l,rfl,hy,hl⟩:=hl.uncons
  obtain ⟨z',l,rfl,hz,hl⟩:=hl.uncons
  rw [hl.unnil]
  obtain ⟨v,hk,v',w',h1,h2,h3⟩:=z3m (P:=P) (mx:=false) (w:=w) h hx hy
  obtain ⟨u,hk',u',w'',g1,g2,g3⟩:=z3m (P:=P) (mx:=false) (w:=w') hk h2 hz
  simp only [cond_false] at h1 g1
  have d:=h3.trans g3
  have e:(builtin .min ts ty consts #[x',y',z']).run P w=.ok (.value u') w'':=by simp [builtin,Builtin.min_,h1,g1]
  rw [e]
  exact hn u H hk' ρ w'' u' (List.prefix_refl _) (hr.drew d) g2 (d.below _)
 ·rename_i x y z
  obtain ⟨x',l,rfl,hx,hl⟩:=hv.uncons
  obtain ⟨y',l,rfl,hy,hl⟩:=hl.uncons
  obtain ⟨z',l,rfl,hz,hl⟩:=hl.uncons
  rw [hl.unnil]
  obtain ⟨v,hk,v',w',h1,h2,h3⟩:=z3m (P:=P) (mx:=true) (w:=w) h hx hy
  obtain ⟨u,hk',u',w'',g1,g2,g3⟩:=z3m (P:=P) (mx:=true) (w:=w') hk h2 hz
  simp only [cond_true] at h1 g1
  have d:=h3.trans g3
  have e:(builtin .max ts ty consts #[x',y',z']).run P w=.ok (.value u') w'':=by simp [builtin,Builtin.max_,h1,g1]
  rw [e]
  exact hn u H hk' ρ w'' u' (List.prefix_refl _) (hr.drew d) g2 (d.below _)
 ·rename_i k x y
  obtain ⟨x',l,rfl,hx,hl⟩:=hv.uncons
  rw [hl.unnil]
  cases hx with
  | complex _ _ x'' _ y'' e1 e2=>exact hn.here hr h (.float k _ x'' e1)
 ·rename_i k x y
  obtain ⟨x',l,rfl,hx,hl⟩:=hv.uncons
  rw [hl.unnil]
  cases hx with
  | complex _ _ x'' _ y'' e1 e2=>exact hn.here hr h (.float k _ y'' e2)
 ·rename_i k x k' y
  obtain ⟨he,h9⟩:=z1d h
  obtain rfl:=zg8 he
  obtain ⟨x',l,rfl,hx,hl⟩:=hv.uncons
  obtain ⟨y',l,rfl,hy,hl⟩:=hl.uncons
  rw [hl.unnil]
  cases hx with
  | float _ _ x'' e1=>
   cases hy with
   | float _ _ y'' e2=>
    have e:(builtin .complex ts ty consts #[.float k x'',.float k y'']).run P w=.ok (.value (.complex k x'' y'')) w:=by cases k<;>rfl
    rw [e]
    exact hn.here hr h9 (.complex k _ x'' _ y'' e1 e2)
 ·exact h.elim

theorem VRs.evs {ev ev':Operand→Value} (xs:Array Operand) (h:∀x ∈ xs,VR ρ (ev x) (ev' x)):VRs ρ (xs.toList.map ev) (xs.map ev').toList:=by
 rw [Array.toList_map]
 exact .map_mem _ _ _ fun x hx=>h x (by simpa using hx)

theorem z1d7 {o:Oper} {a:Act} {ev:Operand→Value} {K:Value→zd→Prop} (hr:HR B0 ρ H w) (hev:∀x ∈ o.op.operands,VR ρ (ev x) (a.eval x)) (henv:∀g,FnOk P g (env g))
  (h:opK P env o ev H K) {next:Act→World→Prop} {Q:Exit→Act→World→Prop} (hn:zth B0 ρ w K o a next):o.wp P a w next Q:=by
 unfold Oper.wp
 obtain ⟨dst,op,type,pos,after,guard⟩:=o
 cases op<;>simp only [opK] at h<;>simp only [Op.operands] at hev
 case move x=>exact hn.here hr h (hev x (by simp))
 case assign x=>exact hn.here hr h (hev x (by simp))
 case pick c x y=>
  have hc:=hev c (by simp)
  unfold zg0 at h
  split at h
  ·rename_i t ht
   rw [ht] at hc
   have hc':a.eval c=.bool t:=by generalize a.eval c=q at hc;cases hc;rfl
   simp only [execOp,hc',asBool,Sem.run_bind,Sem.run_pure,Result.andThen_ok,Oper.upon_value]
   cases t
   ·exact hn.here hr h (hev y (by simp))
   ·exact hn.here hr h (hev x (by simp))
  ·exact h.elim
 case alloc e=>
  split at h
  ·rename_i z hz
   obtain ⟨hc,h⟩:=z1d h
   have:=(zoy (P:=P) (e:=e) (arr:=z.cells) hr h (.const hc)).upon (o:=⟨dst,.alloc e,type,pos,after,guard⟩) (a:=a) (Q:=Q) hn
   simpa [execOp,Instr.alloc,zh2 hz,newVar] using this
  ·exact h.elim
 case box e x=>
  have:=(zoy (P:=P) (e:=e) (arr:=(a.eval x).cells) hr h (hev x (by simp)).cells).upon (o:=⟨dst,.box e x,type,pos,after,guard⟩) (a:=a) (Q:=Q) hn
  simpa [execOp,Instr.box,newVar] using this
 case build t ps=>
  have hp:=zpi (ρ:=ρ) (ev:=ev) (ev':=a.eval) ps (fun x hx=>hev x (by simpa using hx))
  have:=(HOut.of hr (zr8 (w:=w) h hp.1 hp.2)).upon (o:=⟨dst,.build t ps,type,pos,after,guard⟩) (a:=a) (Q:=Q) hn
  rw [Array.toArray_toList] at this
  exact this
 case buildSlice t n ps=>
  have hp:=zpi (ρ:=ρ) (ev:=ev) (ev':=a.eval) ps (fun x hx=>hev x (by simpa using hx))
  have:=(zc9 hr h hp.1 hp.2).upon (o:=⟨dst,.buildSlice t n ps,type,pos,after,guard⟩) (a:=a) (Q:=Q) hn
  rw [Array.toArray_toList] at this
  exact this
 case load t x=>
  exact (HOut.of hr (zwh hr h (hev x (by simp)))).upon hn
 case store t x y=>
  obtain ⟨H',w',h1,h2,h3,h4⟩:=zsh hr h (hev x (by simp)) (hev y (by simp))
  simp only [execOp,Sem.run_bind,h2,Result.andThen_ok,Sem.run_pure,Oper.upon_skip]
  exact hn undef H' h1 ρ w' undef (List.prefix_refl _) h3 z8j h4
 case nilCheck x=>
  have hx:=hev x (by simp)
  split at h
  ·rename_i p hp
   rw [hp] at hx
   generalize hq:a.eval x=q at hx
   cases hx
   simp only [execOp,hq,Sem.run_pure,Oper.upon_value]
   exact hn.here hr h (.ptr _ _ _ _ _ ‹_›)
  ·rename_i f xs ys hp
   rw [hp] at hx
   generalize hq:a.eval x=q at hx
   cases hx
   simp only [execOp,hq,Sem.run_pure,Oper.upon_value]
   exact hn.here hr h (.func _ _ _ _ _ ‹_› ‹_› ‹_› ‹_›)
  ·exact h.elim
 case binOp op t x y ty=>
  exact (HOut.of hr (zys x y h (hev x (by simp)) (hev y (by simp)))).upon hn
 case unOp op t x=>exact (HOut.of hr (z18t h (hev x (by simp)))).upon hn
 case convert s d x=>exact (HOut.of hr (zuh hr h (hev x (by simp)))).upon hn
 case makeFunc fn first cap=>
  have h1:=VRs.evs (ρ:=ρ) (ev:=ev) (ev':=a.eval) first (fun x hx=>hev x (by simp [hx]))
  have h2:=VRs.evs (ρ:=ρ) (ev:=ev) (ev':=a.eval) cap (fun x hx=>hev x (by simp [hx]))
  have hv:VR ρ (.func fn (first.toList.map ev).toArray (cap.toList.map ev).toArray) (.func fn (first.map a.eval) (cap.map a.eval)):=
   .func fn _ _ _ _ (by simp) (fun i x y hx hy=>h1.2 i x y (by simpa using hx) (by simpa using hy)) (by simp) (fun i x y hx hy=>h2.2 i x y (by simpa using hx) (by simpa using hy))
  exact hn.here hr h hv
 case makeSlice t n c=>exact (zdn hr h (hev n (by simp)) (hev c (by simp))).upon hn
 case slice t x lo hi mx=>
  exact (HOut.of hr (zsf h (hev x (by simp)) (zcv lo fun y hy=>hev y (by simp_all)) (zcv hi fun y hy=>hev y (by simp_all)) (zcv mx fun y hy=>hev y (by simp_all)))).upon hn
 case fieldAddr s x f=>exact (HOut.of hr (zdf h (hev x (by simp)))).upon hn
 case field s x f=>exact (HOut.of hr (zrj h (hev x (by simp)))).upon hn
 case indexAddr t x i=>exact (HOut.of hr (zdl h (hev x (by simp)) (hev i (by simp)))).upon hn
 case index t x i=>exact (HOut.of hr (zrw h (hev x (by simp)) (hev i (by simp)))).upon hn
 case extract t i=>
  have hx:=hev t (by simp)
  split at h
  ·rename_i vs hvs
   rw [hvs] at hx
   split at h
   ·rename_i v hv
    generalize hq:a.eval t=q at hx
    cases hx with
    | tuple _ ys h1 h2=>
     obtain ⟨v',a1,a2⟩:=(VRs.arr h1 h2).get (i:=i) (x:=v) (by simpa using hv)
     have a1':ys[i]? =some v':=by simpa using a1
     simp only [execOp,hq,Instr.extract,a1',Sem.run_bind,Sem.run_pure,Result.andThen_ok,Oper.upon_value]
     exact hn.here hr h a2
   ·exact h.elim
  ·exact h.elim
 case call c=>
  obtain ⟨callee,args,argTypes⟩:=c
  cases callee<;>simp only [] at h
  case value f=>
   have hf:=hev f (by simp [Call.operands])
   split at h
   ·rename_i g first cap hfv
    rw [hfv] at hf
    generalize hq:a.eval f=q at hf
    cases hf with
    | func _ _ ys _ bs h1 h2 h3 h4=>
     have hargs:=VRs.evs (ρ:=ρ) (ev:=ev) (ev':=a.eval) args (fun x hx=>hev x (by simp [Call.operands,hx]))
     have hall:=((VRs.arr h1 h2).append hargs).append (VRs.arr h3 h4)
     have:=(henv g).sound B0 ρ H w _ _ K hr hall h ⟨dst,.call ⟨.value f,args,argTypes⟩,type,pos,after,guard⟩ a next Q hn
     simp only [execOp,resolve,hq,Deferred.ofValue,Sem.run_bind,Sem.run_pure,Result.andThen_ok,invoke]
     have e:(ys.toList++(args.map a.eval).toList++bs.toList).toArray=ys++args.map a.eval++bs:=by apply Array.ext';simp
     rw [e] at this
     exact this
   ·exact h.elim
  case builtin b=>
   have hargs:=VRs.evs (ρ:=ρ) (ev:=ev) (ev':=a.eval) args (fun x hx=>hev x (by simp [Call.operands,hx]))
   simp only [execOp,resolve,invoke,Sem.run_bind,Sem.run_pure,Result.andThen_ok]
   rw [show args.map a.eval=(args.map a.eval).toList.toArray from Array.toArray_toList.symm]
   exact zg1 hr h hargs hn

end
end Go.Proofs.Ytbnplefohfamnaa.Ai
