/- What is held of the trace while one goroutine is started and joined by a group, beside others that only leave. -/
import Derived.Test.YthheoefadijhdaaGreatFFnExactReadMarksAiM
import Derived.Conc.FxGenLone
import Derived.Conc.BesideWords
import Derived.Conc.LeavingOf
import Derived.Conc.FxBegin
import Derived.Conc.FxGenDone
set_option linter.unusedVariables false
set_option linter.unusedSectionVars false
namespace Go.Proofs.YthheoefadijhdaaGreat.Ai
open Go Go.RowKit Go.Conc
open Go.ConcX (stA smA OfWg)

structure Tr (Shun:Loc→Prop) (B d:Nat) (t:Trace):Prop where
 clean:∀said,¬Race said t
 known:∀i a,touchAt t i=some a→a.loc.isMemory=true→Knows t 0 i∨(Shun a.loc∧a.kind=.atomic)
 over:t.HandedOver
 hears:Deaf t 0=d
 seen:∀op ∈ t,op.act.low B
 norel:∀op ∈ t,∀a,op.act≠.mark (.release a)

structure EvM (Shun:Loc→Prop) (B:Nat) (e:Event):Prop where
 shy:∀x,(MemAct.ofEvent e).touch? =some x→Shun x.loc→x.kind≠.plain
 low:(MemAct.ofEvent e).low B
 norel:∀a,MemAct.ofEvent e≠.mark (.release a)

theorem zc3 {e:Event} (h:e.mute=true) (a:Addr):MemAct.ofEvent e≠.mark (.release a):=by
 obtain ⟨loc,wr,sy⟩:=e
 cases loc with
 | mark m=>cases m<;>simp_all [Event.mute,MemAct.ofEvent]
 | _=>simp [Event.mute] at h

theorem z6i {t u:Trace} (h:∀op ∈ t,∀a,op.act≠.mark (.release a)) (hu:∀op ∈ u,∀a,op.act≠.mark (.release a)):∀op ∈ t++u,∀a,op.act≠.mark (.release a):=
 fun op hop=>(Array.mem_append.1 hop).elim (h op) (hu op)

section
variable {Shun:Loc→Prop} {B d:Nat} {t u:Trace}

theorem Tr.mono {B':Nat} (h:Tr Shun B d t) (hB:B≤B'):Tr Shun B' d t:=⟨h.clean,h.known,h.over,h.hears,fun op hop=>MemAct.low_mono hB (h.seen op hop),h.norel⟩

theorem Tr.nil (Shun:Loc→Prop):Tr Shun 0 0 #[] where
 clean said:=by rintro ⟨i,j,hij,⟨a,b,ha,_⟩,_⟩;simp [Trace.act?] at ha
 known i a h:=by simp [touchAt,Trace.act?] at h
 over:=by intro i g hg;simp [Trace.g?] at hg
 hears:=rfl
 seen op hop:=by simp at hop
 norel op hop:=by simp at hop

theorem Tr.own (h:Tr Shun B d t) {fn:FuncId} {pos:String} {es:Array Event} (hes:∀e ∈ es,EvM Shun B e):Tr Shun B (deafBehind d es) (t++MemOp.ofEvents 0 fn pos es):=by
 have hg:∀op ∈ MemOp.ofEvents 0 fn pos es,op.g=0:=fun op hop=>by obtain ⟨e,_,rfl⟩:=Go.Conc.mem_ofEvents hop;rfl
 have hs:∀op ∈ MemOp.ofEvents 0 fn pos es,∀b,op.act.touch? =some b→Shun b.loc→b.kind≠.plain:=fun op hop b hb=>by obtain ⟨e,he,rfl⟩:=Go.Conc.mem_ofEvents hop;exact (hes e he).shy b hb
 refine ⟨fun said=>noRace_append (h.clean said) hg fun i a ha op hop b hb hc=>?_,fun i a ha hm=>?_,handedOver_app h.over fun op hop=>.inl (hg op hop),by rw [Deaf_own,h.hears],
  seen_app h.seen fun op hop=>by obtain ⟨e,he,rfl⟩:=Go.Conc.mem_ofEvents hop;exact (hes e he).low,z6i h.norel fun op hop=>by obtain ⟨e,he,rfl⟩:=Go.Conc.mem_ofEvents hop;exact (hes e he).norel⟩
 ·rcases h.known i a ha hc.2.1 with hk | ⟨hsa,hka⟩
  ·exact hk
  ·have hkb:=hs op hop b hb (hc.1 ▸ hsa)
   obtain ⟨_,_,_,hcase⟩:=hc
   rw [hka] at hcase
   rcases hcase with x | x | ⟨_,x,_⟩
   ·cases x
   ·exact absurd x hkb
   ·cases x
 ·obtain ⟨x,hx,hxa⟩:=touch_of ha
  rcases getElem?_append_cases hx with ⟨_,hx'⟩ | ⟨_,hxu⟩
  ·exact (h.known i a (by rw [touchAt_of hx'];exact hxa) hm).imp (·.app _) id
  ·have:=knows_own hx
   rw [hg x hxu] at this
   exact .inl this

theorem Tr.mute (h:Tr Shun B d t) {g:Nat} (hg:g≠0) {fn:FuncId} {pos:String} {es:Array Event} (hm:∀e ∈ es,e.mute=true):Tr Shun B d (t++MemOp.ofEvents g fn pos es):=by
 have hgg:∀op ∈ MemOp.ofEvents g fn pos es,op.g=g:=fun op hop=>by obtain ⟨e,_,rfl⟩:=Go.Conc.mem_ofEvents hop;rfl
 have hn:∀op ∈ MemOp.ofEvents g fn pos es,op.act.touch? =none:=fun op hop=>by obtain ⟨e,he,rfl⟩:=Go.Conc.mem_ofEvents hop;exact touch_mute (hm e he)
 refine ⟨fun said=>noRace_append (h.clean said) hgg fun i a _ op hop b hb _=>(by rw [hn op hop] at hb;cases hb),fun i a ha hmm=>?_,handedOver_app h.over fun op hop=>.inr (hn op hop),(Deaf_other t hg _ hgg).trans h.hears,
  seen_app h.seen fun op hop=>by obtain ⟨e,he,rfl⟩:=Go.Conc.mem_ofEvents hop;exact low_mute (hm e he) B,z6i h.norel fun op hop a=>by
   obtain ⟨e,he,rfl⟩:=Go.Conc.mem_ofEvents hop
   exact zc3 (hm e he) a⟩
 obtain ⟨x,hx,hxa⟩:=touch_of ha
 rcases getElem?_append_cases hx with ⟨_,hx'⟩ | ⟨_,hxu⟩
 ·exact (h.known i a (by rw [touchAt_of hx'];exact hxa) hmm).imp (·.app _) id
 ·rw [hn x hxu] at hxa;cases hxa
end

structure Tj (Shun:Loc→Prop) (Wg c B d0 d1:Nat) (rel:Bool) (t:Trace):Prop where
 clean:∀said,¬Race said t
 k0:∀i a,touchAt t i=some a→a.loc.isMemory=true→Knows t 0 i∨(Shun a.loc∧a.kind=.atomic)∨t.g? i=some c
 kc:∀i a,touchAt t i=some a→a.loc.isMemory=true→Knows t c i∨(Shun a.loc∧a.kind=.atomic)∨(OfWg Wg a.loc∧a.kind≠.plain∧t.g? i=some 0)
 cw:∀i a,t.g? i=some c→touchAt t i=some a→OfWg Wg a.loc→a.kind=.atomic
 over:∀i g,t.g? i=some g→g≠0→g≠c→t.counts i→∃j,t.g? j=some 0∧HappensBefore t i j
 h0:Deaf t 0=d0
 hc:Deaf t c=d1
 seen:∀op ∈ t,op.act.low B
 norel:∀op ∈ t,∀a,op.act≠.mark (.release a)
 rel:rel=true→∃r,t.act? r=some (.mark (.releaseMerge (stA Wg)))∧t.g? r=some c∧t.heard r∧
  ∀i,r<i→t.g? i=some c→¬t.counts i∧∀a,touchAt t i=some a→OfWg Wg a.loc∧a.kind=.atomic

section
variable {Shun:Loc→Prop} {Wg c B d0 d1:Nat} {rel:Bool} {t u:Trace}

theorem Tj.mono {B':Nat} (h:Tj Shun Wg c B d0 d1 rel t) (hB:B≤B'):Tj Shun Wg c B' d0 d1 rel t:=
 ⟨h.clean,h.k0,h.kc,h.cw,h.over,h.h0,h.hc,fun op hop=>MemAct.low_mono hB (h.seen op hop),h.norel,h.rel⟩

theorem g?_cases {i g:Nat} (h:(t++u).g? i=some g):(i<t.size∧t.g? i=some g)∨(t.size≤i∧∃op ∈ u,op.g=g∧(t++u)[i]? =some op):=by
 obtain ⟨op,ho,hog⟩:=Option.map_eq_some_iff.1 h
 rcases getElem?_append_cases ho with ⟨hl,ho'⟩ | ⟨hl,hou⟩
 ·exact .inl ⟨hl,by simp [Trace.g?,ho',hog]⟩
 ·exact .inr ⟨hl,op,hou,hog,ho⟩
theorem z1m {i:Nat} {a:Go.Touch} (h:touchAt (t++u) i=some a):(i<t.size∧touchAt t i=some a)∨(t.size≤i∧∃op ∈ u,op.act.touch? =some a∧(t++u)[i]? =some op):=by
 obtain ⟨x,hx,hxa⟩:=touch_of h
 rcases getElem?_append_cases hx with ⟨hl,hx'⟩ | ⟨hl,hxu⟩
 ·exact .inl ⟨hl,by rw [touchAt_of hx'];exact hxa⟩
 ·exact .inr ⟨hl,x,hxu,hxa,hx⟩
theorem zbg (h:∀i g,t.g? i=some g→g≠0→g≠c→t.counts i→∃j,t.g? j=some 0∧HappensBefore t i j) (hu:∀op ∈ u,op.g=0∨op.g=c∨op.act.touch? =none):
  ∀i g,(t++u).g? i=some g→g≠0→g≠c→(t++u).counts i→∃j,(t++u).g? j=some 0∧HappensBefore (t++u) i j:=by
 intro i g hg hne hnc hc
 rcases g?_cases hg with ⟨hl,hg'⟩ | ⟨_,op,hop,hog,hoi⟩
 ·obtain ⟨j,hj,hb⟩:=h i g hg' hne hnc ((counts_old hl).1 hc)
  have hjl:j<t.size:=by
   unfold Trace.g? at hj
   obtain ⟨z,hz,_⟩:=Option.map_eq_some_iff.1 hj
   exact lt_size_of_getElem? hz
  exact ⟨j,by rw [g?_old hjl];exact hj,hb_app u hb⟩
 ·rcases hu op hop with e | e | e
  ·exact absurd (hog.symm.trans e) hne
  ·exact absurd (hog.symm.trans e) hnc
  ·obtain ⟨x,hx,_⟩:=hc
   have:touchAt (t++u) i=some x:=hx
   rw [touchAt_of hoi,e] at this;cases this
theorem znq (h:∃r,t.act? r=some (.mark (.releaseMerge (stA Wg)))∧t.g? r=some c∧t.heard r∧∀i,r<i→t.g? i=some c→¬t.counts i∧∀a,touchAt t i=some a→OfWg Wg a.loc∧a.kind=.atomic)
  (hu:∀i,t.size≤i→(t++u).g? i=some c→¬(t++u).counts i∧∀a,touchAt (t++u) i=some a→OfWg Wg a.loc∧a.kind=.atomic):
  ∃r,(t++u).act? r=some (.mark (.releaseMerge (stA Wg)))∧(t++u).g? r=some c∧(t++u).heard r∧∀i,r<i→(t++u).g? i=some c→¬(t++u).counts i∧∀a,touchAt (t++u) i=some a→OfWg Wg a.loc∧a.kind=.atomic:=by
 obtain ⟨r,h1,h2,h3,h4⟩:=h
 have hr:r<t.size:=lt_of_act? h1
 refine ⟨r,by rw [act?_old hr];exact h1,by rw [g?_old hr];exact h2,(heard_old hr).2 h3,fun i hi hg=>?_⟩
 rcases Nat.lt_or_ge i t.size with hl | hge
 ·have:=h4 i hi (by rw [←g?_old (u:=u) hl];exact hg)
  exact ⟨fun x=>this.1 ((counts_old hl).1 x),fun a ha=>this.2 a (by rw [←touchAt_old (u:=u) hl];exact ha)⟩
 ·exact hu i hge hg

theorem Tj.own0 (h:Tj Shun Wg c B d0 d1 rel t) (hc0:c≠0) {fn:FuncId} {pos:String} {es:Array Event} (ht:∀e ∈ es,∀x,(MemAct.ofEvent e).touch? =some x→OfWg Wg x.loc∧x.kind≠.plain) (hl:∀e ∈ es,(MemAct.ofEvent e).low B)
  (hn:∀e ∈ es,∀a,MemAct.ofEvent e≠.mark (.release a)):Tj Shun Wg c B (deafBehind d0 es) d1 rel (t++MemOp.ofEvents 0 fn pos es):=by
 have hg:∀op ∈ MemOp.ofEvents 0 fn pos es,op.g=0:=fun op hop=>by obtain ⟨e,_,rfl⟩:=Go.Conc.mem_ofEvents hop;rfl
 have ht':∀op ∈ MemOp.ofEvents 0 fn pos es,∀x,op.act.touch? =some x→OfWg Wg x.loc∧x.kind≠.plain:=fun op hop x hx=>by obtain ⟨e,he,rfl⟩:=Go.Conc.mem_ofEvents hop;exact ht e he x hx
 refine ⟨fun said=>noRace_append (h.clean said) hg fun i a ha op hop b hb hc=>?_,fun i a ha hm=>?_,fun i a ha hm=>?_,fun i a hgi ha hw=>?_,zbg h.over fun op hop=>.inl (hg op hop),by rw [Deaf_own,h.h0],by rw [Deaf_other t (g':=0) hc0.symm _ hg];exact h.hc,
  seen_app h.seen fun op hop=>by obtain ⟨e,he,rfl⟩:=Go.Conc.mem_ofEvents hop;exact hl e he,z6i h.norel fun op hop=>by obtain ⟨e,he,rfl⟩:=Go.Conc.mem_ofEvents hop;exact hn e he,fun e=>znq (h.rel e) fun i hi hgi=>?_⟩
 ·obtain ⟨hw,hkb⟩:=ht' op hop b hb
  rcases h.k0 i a ha hc.2.1 with hk | ⟨hsa,hka⟩ | hgc
  ·exact hk
  ·exfalso
   obtain ⟨_,_,_,hcase⟩:=hc
   rw [hka] at hcase
   rcases hcase with x | x | ⟨_,x,_⟩
   ·cases x
   ·exact hkb x
   ·cases x
  ·exfalso
   have hka:=h.cw i a hgc ha (hc.1 ▸ hw)
   obtain ⟨_,_,_,hcase⟩:=hc
   rw [hka] at hcase
   rcases hcase with x | x | ⟨_,x,_⟩
   ·cases x
   ·exact hkb x
   ·cases x
 ·rcases z1m ha with ⟨hl,ha'⟩ | ⟨_,op,hop,_,hoi⟩
  ·exact (h.k0 i a ha' hm).imp (·.app _) (Or.imp id fun e=>by rw [g?_old hl];exact e)
  ·have:=knows_own hoi
   rw [hg op hop] at this
   exact .inl this
 ·rcases z1m ha with ⟨hl,ha'⟩ | ⟨_,op,hop,hoa,hoi⟩
  ·exact (h.kc i a ha' hm).imp (·.app _) (Or.imp id fun e=>⟨e.1,e.2.1,by rw [g?_old hl];exact e.2.2⟩)
  ·exact .inr (.inr ⟨(ht' op hop a hoa).1,(ht' op hop a hoa).2,by simp [Trace.g?,hoi,hg op hop]⟩)
 ·rcases g?_cases hgi with ⟨hl,hgi'⟩ | ⟨_,op,hop,hog,_⟩
  ·exact h.cw i a hgi' (by rw [←touchAt_old (u:=MemOp.ofEvents 0 fn pos es) hl];exact ha) hw
  ·exact absurd ((hg op hop).symm.trans hog).symm hc0
 ·rcases g?_cases hgi with ⟨hl,_⟩ | ⟨_,op,hop,hog,_⟩
  ·omega
  ·exact absurd ((hg op hop).symm.trans hog).symm hc0

theorem Tj.work (h:Tj Shun Wg c B d0 d1 false t) (hc0:c≠0) {fn:FuncId} {pos:String} {es:Array Event} (ht:∀e ∈ es,∀x,(MemAct.ofEvent e).touch? =some x→(OfWg Wg x.loc→x.kind=.atomic)∧¬Shun x.loc) (hl:∀e ∈ es,(MemAct.ofEvent e).low B)
  (hn:∀e ∈ es,∀a,MemAct.ofEvent e≠.mark (.release a)):Tj Shun Wg c B d0 (deafBehind d1 es) false (t++MemOp.ofEvents c fn pos es):=by
 have hg:∀op ∈ MemOp.ofEvents c fn pos es,op.g=c:=fun op hop=>by obtain ⟨e,_,rfl⟩:=Go.Conc.mem_ofEvents hop;rfl
 have ht':∀op ∈ MemOp.ofEvents c fn pos es,∀x,op.act.touch? =some x→(OfWg Wg x.loc→x.kind=.atomic)∧¬Shun x.loc:=fun op hop x hx=>by obtain ⟨e,he,rfl⟩:=Go.Conc.mem_ofEvents hop;exact ht e he x hx
 refine ⟨fun said=>noRace_append (h.clean said) hg fun i a ha op hop b hb hc=>?_,fun i a ha hm=>?_,fun i a ha hm=>?_,fun i a hgi ha hw=>?_,zbg h.over fun op hop=>.inr (.inl (hg op hop)),by rw [Deaf_other t (g':=c) hc0 _ hg];exact h.h0,by rw [Deaf_own,h.hc],
  seen_app h.seen fun op hop=>by obtain ⟨e,he,rfl⟩:=Go.Conc.mem_ofEvents hop;exact hl e he,z6i h.norel fun op hop=>by obtain ⟨e,he,rfl⟩:=Go.Conc.mem_ofEvents hop;exact hn e he,fun e=>by cases e⟩
 ·obtain ⟨hw,hsh⟩:=ht' op hop b hb
  rcases h.kc i a ha hc.2.1 with hk | ⟨hsa,_⟩ | ⟨hwa,hka,_⟩
  ·exact hk
  ·exact absurd (hc.1 ▸ hsa) hsh
  ·exfalso
   have hkb:=hw (hc.1 ▸ hwa)
   obtain ⟨_,_,_,hcase⟩:=hc
   rw [hkb] at hcase
   rcases hcase with x | x | ⟨_,_,x⟩
   ·exact hka x
   ·cases x
   ·cases x
 ·rcases z1m ha with ⟨hl,ha'⟩ | ⟨_,op,hop,_,hoi⟩
  ·exact (h.k0 i a ha' hm).imp (·.app _) (Or.imp id fun e=>by rw [g?_old hl];exact e)
  ·exact .inr (.inr (by simp [Trace.g?,hoi,hg op hop]))
 ·rcases z1m ha with ⟨hl,ha'⟩ | ⟨_,op,hop,hoa,hoi⟩
  ·exact (h.kc i a ha' hm).imp (·.app _) (Or.imp id fun e=>⟨e.1,e.2.1,by rw [g?_old hl];exact e.2.2⟩)
  ·have:=knows_own hoi
   rw [hg op hop] at this
   exact .inl this
 ·rcases z1m ha with ⟨hl,ha'⟩ | ⟨_,op,hop,hoa,_⟩
  ·exact h.cw i a (by rw [←g?_old (u:=MemOp.ofEvents c fn pos es) hl];exact hgi) ha' hw
  ·exact (ht' op hop a hoa).1 hw

theorem Tj.release (h:Tj Shun Wg c B d0 0 false t) (hc0:c≠0) (hW:Wg<B) (fn:FuncId) (pos:String):Tj Shun Wg c B d0 0 true (t++MemOp.ofEvents c fn pos #[⟨.mark (.releaseMerge (stA Wg)),false,true⟩]):=by
 have h1:=h.work hc0 (fn:=fn) (pos:=pos) (es:=#[⟨.mark (.releaseMerge (stA Wg)),false,true⟩]) (fun e he x hx=>by simp at he;subst he;cases hx) (fun e he=>by simp at he;subst he;exact hW)
  (fun e he a=>by simp at he;subst he;simp [MemAct.ofEvent])
 have e1:MemOp.ofEvents c fn pos #[⟨.mark (.releaseMerge (stA Wg)),false,true⟩]=#[({g:=c,fn,pos,act:=.mark (.releaseMerge (stA Wg))}:MemOp)]:=by rw [ofEvents_eq];simp [MemAct.ofEvent]
 rw [e1] at h1 ⊢
 have hz:(t++#[({g:=c,fn,pos,act:=.mark (.releaseMerge (stA Wg))}:MemOp)])[t.size]? =some {g:=c,fn,pos,act:=.mark (.releaseMerge (stA Wg))}:=by simp
 refine ⟨h1.clean,h1.k0,h1.kc,h1.cw,h1.over,h1.h0,h1.hc,h1.seen,h1.norel,fun _=>⟨t.size,by simp [Trace.act?],by simp [Trace.g?],⟨c,by simp [Trace.g?],?_⟩,fun i hi hgi=>?_⟩⟩
 ·have:=deaf_old (t:=t) (u:=#[({g:=c,fn,pos,act:=.mark (.releaseMerge (stA Wg))}:MemOp)]) (g:=c) (i:=t.size) (Nat.le_refl _)
  rw [this];exact h.hc
 ·exfalso
  obtain ⟨op,ho,_⟩:=Option.map_eq_some_iff.1 hgi
  have:=lt_size_of_getElem? ho
  simp at this
  omega

theorem Tj.book (h:Tj Shun Wg c B d0 d1 true t) (hc0:c≠0) (hW:Wg<B) (fn:FuncId) (pos:String) {es:Array Event}
  (hes:∀j e,es[j]? =some e→((MemAct.ofEvent e).touch? =none∧(MemAct.ofEvent e).low B∧∀a,MemAct.ofEvent e≠.mark (.release a))∨((∃ad wr,e=⟨.cell ad,wr,true⟩∧ad.block=Wg)∧0<deafBehind d1 (es.extract 0 j))):
  Tj Shun Wg c B d0 (deafBehind d1 es) true (t++MemOp.ofEvents c fn pos es):=by
 have hg:∀op ∈ MemOp.ofEvents c fn pos es,op.g=c:=fun op hop=>by obtain ⟨e,_,rfl⟩:=Go.Conc.mem_ofEvents hop;rfl
 have hall:∀e ∈ es,(∀x,(MemAct.ofEvent e).touch? =some x→OfWg Wg x.loc∧x.kind=.atomic)∧(MemAct.ofEvent e).low B∧∀a,MemAct.ofEvent e≠.mark (.release a):=by
  intro e he
  obtain ⟨j,hj⟩:=Array.getElem?_of_mem he
  rcases hes j e hj with ⟨h1,h2,h3⟩ | ⟨⟨ad,wr,rfl,hb⟩,_⟩
  ·exact ⟨fun x hx=>(by rw [h1] at hx;cases hx),h2,h3⟩
  ·refine ⟨fun x hx=>?_,by show ad.block<B;omega,fun a=>by simp [MemAct.ofEvent]⟩
   have:x=⟨.cell ad,wr,.atomic⟩:=by simp [MemAct.ofEvent,MemAct.touch?] at hx;exact hx.symm
   subst this
   exact ⟨⟨ad,rfl,hb⟩,rfl⟩
 have ht':∀op ∈ MemOp.ofEvents c fn pos es,∀x,op.act.touch? =some x→OfWg Wg x.loc∧x.kind=.atomic:=fun op hop x hx=>by obtain ⟨e,he,rfl⟩:=Go.Conc.mem_ofEvents hop;exact (hall e he).1 x hx
 refine ⟨fun said=>noRace_append (h.clean said) hg fun i a ha op hop b hb hc=>?_,fun i a ha hm=>?_,fun i a ha hm=>?_,fun i a hgi ha hw=>?_,zbg h.over fun op hop=>.inr (.inl (hg op hop)),by rw [Deaf_other t (g':=c) hc0 _ hg];exact h.h0,by rw [Deaf_own,h.hc],
  seen_app h.seen fun op hop=>by obtain ⟨e,he,rfl⟩:=Go.Conc.mem_ofEvents hop;exact (hall e he).2.1,z6i h.norel fun op hop=>by obtain ⟨e,he,rfl⟩:=Go.Conc.mem_ofEvents hop;exact (hall e he).2.2,fun e=>znq (h.rel e) fun i hi hgi=>?_⟩
 ·obtain ⟨hw,hkb⟩:=ht' op hop b hb
  rcases h.kc i a ha hc.2.1 with hk | ⟨hsa,hka⟩ | ⟨_,hka,_⟩
  ·exact hk
  ·exfalso
   obtain ⟨_,_,_,hcase⟩:=hc
   rw [hka,hkb] at hcase
   rcases hcase with x | x | ⟨_,x,_⟩<;>cases x
  ·exfalso
   obtain ⟨_,_,_,hcase⟩:=hc
   rw [hkb] at hcase
   rcases hcase with x | x | ⟨_,_,x⟩
   ·exact hka x
   ·cases x
   ·cases x
 ·rcases z1m ha with ⟨hl,ha'⟩ | ⟨_,op,hop,_,hoi⟩
  ·exact (h.k0 i a ha' hm).imp (·.app _) (Or.imp id fun e=>by rw [g?_old hl];exact e)
  ·exact .inr (.inr (by simp [Trace.g?,hoi,hg op hop]))
 ·rcases z1m ha with ⟨hl,ha'⟩ | ⟨_,op,hop,hoa,hoi⟩
  ·exact (h.kc i a ha' hm).imp (·.app _) (Or.imp id fun e=>⟨e.1,e.2.1,by rw [g?_old hl];exact e.2.2⟩)
  ·have:=knows_own hoi
   rw [hg op hop] at this
   exact .inl this
 ·rcases z1m ha with ⟨hl,ha'⟩ | ⟨_,op,hop,hoa,_⟩
  ·exact h.cw i a (by rw [←g?_old (u:=MemOp.ofEvents c fn pos es) hl];exact hgi) ha' hw
  ·exact (ht' op hop a hoa).2
 ·have hel:∃j e,i=t.size+j∧es[j]? =some e∧(t++MemOp.ofEvents c fn pos es)[i]? =some {g:=c,fn,pos,act:=.ofEvent e}:=by
   obtain ⟨op,ho,_⟩:=Option.map_eq_some_iff.1 hgi
   have ho2:=ho
   rw [Array.getElem?_append,if_neg (by omega),ofEvents_eq,Array.getElem?_map] at ho2
   obtain ⟨e,he,rfl⟩:=Option.map_eq_some_iff.1 ho2
   exact ⟨i-t.size,e,by omega,he,ho⟩
  obtain ⟨j,e,rfl,hj,hoi⟩:=hel
  refine ⟨fun hcnt=>?_,fun a ha=>?_⟩
  ·obtain ⟨x,hx,_,hk⟩:=hcnt
   have hx':(MemAct.ofEvent e).touch? =some x:=by have:touchAt _ _=some x:=hx;rwa [touchAt_of hoi] at this
   rcases hes j e hj with ⟨h1,_⟩ | ⟨⟨ad,wr,rfl,hb⟩,hdf⟩
   ·rw [h1] at hx';cases hx'
   ·have:x=⟨.cell ad,wr,.atomic⟩:=by simp [MemAct.ofEvent,MemAct.touch?] at hx';exact hx'.symm
    subst this
    rcases hk with hk | ⟨g,hgg,hdeaf⟩
    ·exact hk rfl
    ·have:g=c:=by rw [hgi] at hgg;exact (Option.some.inj hgg).symm
     subst this
     have e2:(t++MemOp.ofEvents g fn pos es)=(t++MemOp.ofEvents g fn pos (es.extract 0 j))++MemOp.ofEvents g fn pos (es.extract j es.size):=by
      rw [Array.append_assoc]
      congr 1
      rw [ofEvents_eq,ofEvents_eq,ofEvents_eq,←Array.map_append]
      congr 1
      apply Array.ext'
      have hj':j≤es.toList.length:=by have:=(Array.getElem?_eq_some_iff.1 hj).1;simp;omega
      rw [Array.toList_append,Array.toList_extract,Array.toList_extract]
      simp only [List.extract_eq_take_drop,List.drop_zero,Nat.sub_zero]
      rw [List.take_of_length_le (l:=List.drop j es.toList) (by simp),List.take_append_drop]
     have hsz:(t++MemOp.ofEvents g fn pos (es.extract 0 j)).size=t.size+j:=by
      have:j<es.size:=(Array.getElem?_eq_some_iff.1 hj).1
      rw [Array.size_append,ofEvents_eq];simp;omega
     have e3:(t++MemOp.ofEvents g fn pos es).deaf g (t.size+j)=Deaf (t++MemOp.ofEvents g fn pos (es.extract 0 j)) g:=by
      rw [e2,deaf_old (by rw [hsz];omega),←hsz];rfl
     rw [e3,Deaf_own,h.hc] at hdeaf
     omega
  ·have ha':(MemAct.ofEvent e).touch? =some a:=by rwa [touchAt_of hoi] at ha
   exact (hall e (Array.mem_of_getElem? hj)).1 a ha'

theorem Tj.mute (h:Tj Shun Wg c B d0 d1 rel t) {g:Nat} (hg0:g≠0) (hgc:g≠c) {fn:FuncId} {pos:String} {es:Array Event} (hm:∀e ∈ es,e.mute=true):Tj Shun Wg c B d0 d1 rel (t++MemOp.ofEvents g fn pos es):=by
 have hgg:∀op ∈ MemOp.ofEvents g fn pos es,op.g=g:=fun op hop=>by obtain ⟨e,_,rfl⟩:=Go.Conc.mem_ofEvents hop;rfl
 have hn:∀op ∈ MemOp.ofEvents g fn pos es,op.act.touch? =none:=fun op hop=>by obtain ⟨e,he,rfl⟩:=Go.Conc.mem_ofEvents hop;exact touch_mute (hm e he)
 refine ⟨fun said=>noRace_append (h.clean said) hgg fun i a _ op hop b hb _=>(by rw [hn op hop] at hb;cases hb),fun i a ha hmm=>?_,fun i a ha hmm=>?_,fun i a hgi ha hw=>?_,zbg h.over fun op hop=>.inr (.inr (hn op hop)),(Deaf_other t hg0 _ hgg).trans h.h0,(Deaf_other t hgc _ hgg).trans h.hc,
  seen_app h.seen fun op hop=>by obtain ⟨e,he,rfl⟩:=Go.Conc.mem_ofEvents hop;exact low_mute (hm e he) B,z6i h.norel fun op hop a=>by
   obtain ⟨e,he,rfl⟩:=Go.Conc.mem_ofEvents hop
   exact zc3 (hm e he) a,fun e=>znq (h.rel e) fun i hi hgi=>?_⟩
 ·rcases z1m ha with ⟨hl,ha'⟩ | ⟨_,op,hop,hoa,_⟩
  ·exact (h.k0 i a ha' hmm).imp (·.app _) (Or.imp id fun e=>by rw [g?_old hl];exact e)
  ·rw [hn op hop] at hoa;cases hoa
 ·rcases z1m ha with ⟨hl,ha'⟩ | ⟨_,op,hop,hoa,_⟩
  ·exact (h.kc i a ha' hmm).imp (·.app _) (Or.imp id fun e=>⟨e.1,e.2.1,by rw [g?_old hl];exact e.2.2⟩)
  ·rw [hn op hop] at hoa;cases hoa
 ·rcases z1m ha with ⟨hl,ha'⟩ | ⟨_,op,hop,hoa,_⟩
  ·exact h.cw i a (by rw [←g?_old (u:=MemOp.ofEvents g fn pos es) hl];exact hgi) ha' hw
  ·rw [hn op hop] at hoa;cases hoa
 ·rcases g?_cases hgi with ⟨hl,_⟩ | ⟨_,op,hop,hog,_⟩
  ·omega
  ·exact absurd ((hgg op hop).symm.trans hog) hgc

theorem Tr.fork (h:Tr Shun B 0 t) (hc0:c≠0) (hcd:Deaf t c=0) (hcn:∀op ∈ t,op.g≠c) (Wg:Nat) {fn fn':FuncId} {pos pos':String}:
  Tj Shun Wg c B 0 0 false (t++#[({g:=0,fn,pos,act:=.go c}:MemOp),{g:=c,fn:=fn',pos:=pos',act:=.start}]):=by
 have hp:(t++#[({g:=0,fn,pos,act:=.go c}:MemOp),{g:=c,fn:=fn',pos:=pos',act:=.start}])[t.size]? =some {g:=0,fn,pos,act:=.go c}:=by simp
 have hp1:(t++#[({g:=0,fn,pos,act:=.go c}:MemOp),{g:=c,fn:=fn',pos:=pos',act:=.start}])[t.size+1]? =some {g:=c,fn:=fn',pos:=pos',act:=.start}:=by
  rw [Array.getElem?_append,if_neg (by omega)];simp
 have hno:∀op ∈ (#[({g:=0,fn,pos,act:=.go c}:MemOp),{g:=c,fn:=fn',pos:=pos',act:=.start}]:Trace),op.act.touch? =none:=by
  intro op hop;simp at hop;rcases hop with rfl | rfl<;>rfl
 have dkeep:∀g,Deaf (t++#[({g:=0,fn,pos,act:=.go c}:MemOp),{g:=c,fn:=fn',pos:=pos',act:=.start}]) g=Deaf t g:=fun g=>ConcX.Deaf_keep t g _ (by intro op hop;simp at hop;rcases hop with rfl | rfl<;>simp)
 have dat:∀g i,i≤t.size→(t++#[({g:=0,fn,pos,act:=.go c}:MemOp),{g:=c,fn:=fn',pos:=pos',act:=.start}]).deaf g i=t.deaf g i:=fun g i hi=>deaf_old hi
 have edge:HappensBefore (t++#[({g:=0,fn,pos,act:=.go c}:MemOp),{g:=c,fn:=fn',pos:=pos',act:=.start}]) t.size (t.size+1):=by
  refine .single (.inr ⟨.spawn (child:=c) (by rw [act?_of hp]) (by rw [act?_of hp1]) (by simp [Trace.g?]),⟨0,by simp [Trace.g?],?_⟩,⟨c,by simp [Trace.g?],?_⟩⟩)
  ·rw [dat 0 t.size (Nat.le_refl _)];exact h.hears
  ·have:(t++#[({g:=0,fn,pos,act:=.go c}:MemOp),{g:=c,fn:=fn',pos:=pos',act:=.start}]).deaf c (t.size+1)=t.deaf c t.size:=by
    rw [deaf_succ hp,dat c t.size (Nat.le_refl _)];rfl
   rw [this];exact hcd
 have know:∀i,Knows t 0 i→Knows (t++#[({g:=0,fn,pos,act:=.go c}:MemOp),{g:=c,fn:=fn',pos:=pos',act:=.start}]) c i:=fun i hk=>
  ⟨t.size+1,_,hp1,rfl,.inr ((hk.hb_new (u:=#[({g:=0,fn,pos,act:=.go c}:MemOp),{g:=c,fn:=fn',pos:=pos',act:=.start}]) (Nat.le_refl _) hp rfl).trans edge)⟩
 have old:∀i a,touchAt (t++#[({g:=0,fn,pos,act:=.go c}:MemOp),{g:=c,fn:=fn',pos:=pos',act:=.start}]) i=some a→i<t.size∧touchAt t i=some a:=by
  intro i a ha
  rcases z1m ha with h | ⟨_,op,hop,hoa,_⟩
  ·exact h
  ·rw [hno op hop] at hoa;cases hoa
 refine ⟨fun said=>?_,fun i a ha hm=>?_,fun i a ha hm=>?_,fun i a hgi ha hw=>?_,zbg (fun i g hg hne _ hcn=>h.over i g hg hne hcn) fun op hop=>.inr (.inr (hno op hop)),(dkeep 0).trans h.hears,(dkeep c).trans hcd,
  seen_app h.seen (by intro op hop;simp at hop;rcases hop with rfl | rfl<;>trivial),z6i h.norel (by intro op hop;simp at hop;rcases hop with rfl | rfl<;>simp),fun e=>by cases e⟩
 ·rintro ⟨i,j,hij,⟨a,b,ha,hb,hc⟩,n1,n2⟩
  obtain ⟨hi,ha'⟩:=old i a ha
  obtain ⟨hj,hb'⟩:=old j b hb
  exact h.clean said ⟨i,j,hij,⟨a,b,ha',hb',hc⟩,fun e=>n1 (hb_app _ e),fun e=>n2 (hb_app _ e)⟩
 ·obtain ⟨hi,ha'⟩:=old i a ha
  exact (h.known i a ha' hm).elim (fun k=>.inl (k.app _)) (fun k=>.inr (.inl k))
 ·obtain ⟨hi,ha'⟩:=old i a ha
  exact (h.known i a ha' hm).elim (fun k=>.inl (know i k)) (fun k=>.inr (.inl k))
 ·obtain ⟨hi,ha'⟩:=old i a ha
  exfalso
  rw [g?_old hi] at hgi
  obtain ⟨op,ho,hog⟩:=Option.map_eq_some_iff.1 hgi
  exact hcn op (mem_of_getElem? ho) hog

theorem Tj.join (h:Tj Shun Wg c B 0 d1 true t) (hc0:c≠0) (hW:Wg<B) (fn:FuncId) (pos:String):Tr (fun l=>Shun l∨OfWg Wg l) B 0 (t++MemOp.ofEvents 0 fn pos #[⟨.mark (.acquire (stA Wg)),false,true⟩]):=by
 have h1:=h.own0 hc0 (fn:=fn) (pos:=pos) (es:=#[⟨.mark (.acquire (stA Wg)),false,true⟩]) (fun e he x hx=>by simp at he;subst he;cases hx) (fun e he=>by simp at he;subst he;exact hW)
  (fun e he a=>by simp at he;subst he;simp [MemAct.ofEvent])
 have e1:MemOp.ofEvents 0 fn pos #[⟨.mark (.acquire (stA Wg)),false,true⟩]=#[({g:=0,fn,pos,act:=.mark (.acquire (stA Wg))}:MemOp)]:=by rw [ofEvents_eq];simp [MemAct.ofEvent]
 rw [e1] at h1 ⊢
 obtain ⟨r,r1,r2,r3,r4⟩:=h.rel rfl
 have hr:r<t.size:=lt_of_act? r1
 have hq:(t++#[({g:=0,fn,pos,act:=.mark (.acquire (stA Wg))}:MemOp)])[t.size]? =some {g:=0,fn,pos,act:=.mark (.acquire (stA Wg))}:=by simp
 have hqd:(t++#[({g:=0,fn,pos,act:=.mark (.acquire (stA Wg))}:MemOp)]).heard t.size:=⟨0,by simp [Trace.g?],by rw [deaf_old (Nat.le_refl _)];exact h.h0⟩
 have edge:HappensBefore (t++#[({g:=0,fn,pos,act:=.mark (.acquire (stA Wg))}:MemOp)]) r t.size:=by
  refine .single (.inr ⟨.marked hr (.inr (by rw [act?_old hr];exact r1)) (by rw [act?_of hq]) (fun k hk1 hk2 e=>?_),(heard_old hr).2 r3,hqd⟩)
  rw [act?_old hk2] at e
  obtain ⟨op,ho,hoa⟩:=Option.map_eq_some_iff.1 e
  exact h.norel op (mem_of_getElem? ho) _ hoa
 have mine:∀i,t.g? i=some c→i≤r→HappensBefore (t++#[({g:=0,fn,pos,act:=.mark (.acquire (stA Wg))}:MemOp)]) i t.size:=by
  intro i hi hle
  rcases Nat.lt_or_ge i r with hlt | hge
  ·exact .trans (.single (.inl ⟨hlt,c,by rw [g?_old (by omega)];exact hi,by rw [g?_old hr];exact r2⟩)) edge
  ·obtain rfl:i=r:=by omega
   exact edge
 refine ⟨h1.clean,fun i a ha hm=>?_,?_,h1.h0,h1.seen,h1.norel⟩
 ·rcases h1.k0 i a ha hm with hk | hk | hk
  ·exact .inl hk
  ·exact .inr ⟨.inl hk.1,hk.2⟩
  ·rcases z1m ha with ⟨hl,ha'⟩ | ⟨_,op,hop,hoa,_⟩
   ·rw [g?_old hl] at hk
    rcases Nat.lt_or_ge r i with hlt | hge
    ·have:=(r4 i hlt hk).2 a ha'
     exact .inr ⟨.inr this.1,this.2⟩
    ·exact .inl ⟨t.size,_,hq,rfl,.inr (mine i hk hge)⟩
   ·simp at hop;subst hop;cases hoa
 ·intro i g hg hne hcnt
  by_cases hgc:g=c
  ·subst hgc
   rcases g?_cases hg with ⟨hl,hg'⟩ | ⟨_,op,hop,hog,_⟩
   ·rcases Nat.lt_or_ge r i with hlt | hge
    ·exact absurd ((counts_old hl).1 hcnt) (r4 i hlt hg').1
    ·exact ⟨t.size,by simp [Trace.g?],mine i hg' hge⟩
   ·simp at hop;subst hop;exact absurd hog.symm hne
  ·exact h1.over i g hg hne hgc hcnt
end
end Go.Proofs.YthheoefadijhdaaGreat.Ai
set_option linter.unusedVariables false
set_option linter.unusedSectionVars false
namespace Go.Proofs.YthheoefadijhdaaGreat.Ai
open Go Go.RowKit Go.Conc
open Go.ConcX (stA smA OfWg g_of_ofEvents)
open Go.ConcN (sumTo upd sumTo_upd upd_ne upd_same)

def Ends (P:Program) (Post:Value→World→Prop) (gs:Array Goroutine) (w:World) (sl:Option (Nat×Nat)) (t:Trace):Prop:=
 ∃N last o w' t',runNT P (N+1) (crowd gs w sl) t=(.ended o w',t')∧runN P N (crowd gs w sl)=.next last∧step P last=.ended o w'∧Conc.Good P Post last o w' t'

section
variable {P:Program} {Post:Value→World→Prop} {gs gs':Array Goroutine} {w w':World} {sl sl':Option (Nat×Nat)} {t:Trace} {ops:Array MemOp}

theorem Ends.next (hs:stepT P (crowd gs w sl)=(.next (crowd gs' w' sl'),ops)) (h:Ends P Post gs' w' sl' (t++ops)):Ends P Post gs w sl t:=by
 obtain ⟨N,last,o,w'',t',h1,h2,h3,h4⟩:=h
 refine ⟨N+1,last,o,w'',t',?_,?_,h3,h4⟩
 ·rw [runNT,hs];exact h1
 ·have:step P (crowd gs w sl)=.next (crowd gs' w' sl'):=by simp [step,hs]
  rw [runN,this];exact h2

theorem Ends.pick (haw:∀g ∈ gs,awake g) (hrun:∃(i:Nat) (g:Goroutine),gs[i]? =some g∧g.status=.running)
  (h:∀(i:Nat) (g:Goroutine) (d:Nat) (sl₁:Option (Nat×Nat)),gs[i]? =some g→g.status=.running→
   ∃gs' w' sl' ops,runT P (crowd gs (w.at d) sl₁) i=(.next (crowd gs' w' sl'),ops)∧Ends P Post gs' w' sl' (t++ops)):Ends P Post gs w sl t:=by
 obtain ⟨i,g,d,sl₁,hi,hg,hst⟩:=crowd_pick (P:=P) (w:=w) (sl:=sl) haw hrun
 obtain ⟨gs',w',sl',ops,h1,h2⟩:=h i g d sl₁ hi hg
 exact .next (hst.trans h1) h2
end

def Off (Z:Zone) (Shun:Loc→Prop):Prop:=∀l,Shun l→(∀a,l=.cell a→¬Z.rd a.block)∧∀r,l≠.obj r
theorem Off.le {Z Z':Zone} {Shun:Loc→Prop} (h:Off Z Shun) (hz:Zle Z' Z):Off Z' Shun:=fun l hl=>⟨fun a e hr=>(h l hl).1 a e ((hz _).2 hr),(h l hl).2⟩

theorem EvOk.evM {Z:Zone} {Shun:Loc→Prop} {n:Nat} {e:Event} (h:EvOk Z n e) (ho:Off Z Shun):EvM Shun n e:=by
 rcases h with ⟨a,h1,h2,h3,_⟩ | ⟨r,h1,h2,h3,_⟩ | ⟨m,h1,h2⟩
 ·obtain ⟨loc,wr,sy⟩:=e
  cases h1
  exact ⟨fun x hx hs=>by
   simp only [MemAct.ofEvent,MemAct.touch?,Option.some.injEq] at hx
   subst hx
   exact absurd h3 ((ho _ hs).1 a rfl),h2,fun a=>by simp [MemAct.ofEvent]⟩
 ·obtain ⟨loc,wr,sy⟩:=e
  cases h1
  cases wr<;>cases sy<;>refine ⟨fun x hx hs=>?_,h2,fun a=>by simp [MemAct.ofEvent]⟩<;>simp only [MemAct.ofEvent,MemAct.touch?,Option.some.injEq,reduceCtorEq] at hx<;>subst hx<;>exact absurd rfl ((ho _ hs).2 r)
 ·obtain ⟨loc,wr,sy⟩:=e
  cases h1
  rcases h2 with rfl | ⟨f,rfl⟩
  ·exact ⟨fun x hx=>(by cases hx),trivial,fun a=>by simp [MemAct.ofEvent]⟩
  ·exact ⟨fun x hx=>(by cases hx),trivial,fun a=>by simp [MemAct.ofEvent]⟩
theorem EvOk.deaf {Z:Zone} {n:Nat} {es:Array Event} (h:∀e ∈ es,EvOk Z n e) (d:Nat):deafBehind d es=d:=
 deafBehind_still (fun e he=>by
  rcases h e he with ⟨a,h1,_⟩ | ⟨r,h1,_⟩ | ⟨m,h1,h2⟩
  ·rw [h1];simp
  ·rw [h1];simp
  ·rw [h1];rcases h2 with rfl | ⟨f,rfl⟩<;>simp) d

def z3w (P:Program) (Post:Value→World→Prop) (d:Nat) (Z:Zone) (g:Goroutine) (w:World):Prop:=
 ∀(gs:Array Goroutine) (sl:Option (Nat×Nat)) (t:Trace) (q:Nat→Nat) (Shun:Loc→Prop) (B:Nat),gs[0]? =some g→Leavers P t gs q→(∀op ∈ t,op.g<gs.size)→Tr Shun B d t→B≤w.heap.size→Off Z Shun→Ends P Post gs w sl t

section
variable {P:Program} {Post:Value→World→Prop} {Z:Zone} {w:World} {d:Nat}

theorem zci {gs:Array Goroutine} {t:Trace} (h:∀op ∈ t,op.g<gs.size) {i:Nat} (hi:i<gs.size) (fn:FuncId) (pos:String) (es:Array Event) {gs':Array Goroutine} (hs:gs'.size=gs.size):∀op ∈ t++MemOp.ofEvents i fn pos es,op.g<gs'.size:=by
 intro op hop
 rw [hs]
 rcases Array.mem_append.1 hop with hop | hop
 ·exact h op hop
 ·obtain ⟨e,_,rfl⟩:=Go.Conc.mem_ofEvents hop;exact hi

theorem z3w.step {g:Goroutine} (hg:g.status=.running)
  (h:∀dd,∃(g':Goroutine) (w':World) (es:Array Event),stepG P true g (w.at dd)=.go g' w' es∧w.heap.size≤w'.heap.size∧(∀Shun,Off Z Shun→∀e ∈ es,EvM Shun w'.heap.size e)∧z3w P Post (deafBehind d es) Z g' w'):z3w P Post d Z g w:=by
 intro gs sl t q Shun B h0 hL hlt hT hB hO
 have main:∀(M:Nat) (gs:Array Goroutine) (sl:Option (Nat×Nat)) (t:Trace) (q:Nat→Nat) (dd:Nat),sumTo gs.size q=M→gs[0]? =some g→Leavers P t gs q→(∀op ∈ t,op.g<gs.size)→Tr Shun B d t→Ends P Post gs (w.at dd) sl t:=by
  intro M
  induction M using Nat.strongRecOn with
  | _ M ih=>
   intro gs sl t q dd hM h0 hL hlt hT
   have hpos:0<gs.size:=(Array.getElem?_eq_some_iff.1 h0).1
   refine Ends.pick (fun x hx=>?_) ⟨0,g,h0,hg⟩ fun i x d' sl₁ hi hx=>?_
   ·obtain ⟨i,hi,rfl⟩:=Array.mem_iff_getElem.1 hx
    rcases Nat.eq_zero_or_pos i with rfl | hp
    ·have:gs[0]=g:=by simpa [Array.getElem?_eq_getElem hi] using h0
     rw [this];exact awake_of (.inl hg)
    ·exact awake_of ((hL.old i _ hp (Array.getElem?_eq_getElem hi)).status.elim .inl fun x=>.inr (.inr x))
   ·rcases Nat.eq_zero_or_pos i with rfl | hp
    ·obtain rfl:x=g:=by rw [h0] at hi;exact (Option.some.inj hi).symm
     obtain ⟨g',w',es,hgo,hsz,hes,hw⟩:=h d'
     have hat:(w.at dd).at d'=w.at d':=rfl
     rw [hat]
     refine ⟨_,w',sl₁,_,runT_crowd_go (P:=P) (i:=0) hi (show stepG P (0==0) x (w.at d')=_ from hgo),?_⟩
     exact hw _ sl₁ _ q Shun w'.heap.size (by simp [hpos]) (hL.own hpos _ _ es) (zci hlt hpos _ _ es (by simp)) ((hT.mono (Nat.le_trans hB hsz)).own (hes Shun hO)) (Nat.le_refl _) hO
    ·have hq:=hL.old i x hp hi
     have hi0:(i==0)=false:=by simp;omega
     have hil:i<gs.size:=(Array.getElem?_eq_some_iff.1 hi).1
     cases hqi:q i with
     | zero=>rw [hqi] at hq;rw [hq.1] at hx;cases hx
     | succ k=>
      rw [hqi] at hq
      rcases hq with ⟨hf,_⟩ | ⟨_,x',es,hm,hstp,hq'⟩
      ·rw [hf] at hx;cases hx
      have hat:(w.at dd).at d'=w.at d':=rfl
      rw [hat]
      refine ⟨_,w.at d',sl₁,_,runT_crowd_go (P:=P) (sl:=sl₁) (i:=i) hi (by rw [hi0];exact hstp (w.at d')),?_⟩
      have hsz:((gs.map (woken P x x' (w.at d'))).setIfInBounds i x').size=gs.size:=by simp
      have hsum:sumTo gs.size (upd q i k)+(k+1)=sumTo gs.size q+k:=by
       have:=sumTo_upd q k id hil
       simpa [hqi] using this
      refine ih (sumTo gs.size (upd q i k)) (by omega) _ sl₁ _ (upd q i k) d' (by rw [hsz]) ?_ ⟨fun j y hj hy=>?_,fun j hj=>?_⟩ (zci hlt hil _ _ es hsz) (hT.mute (by omega) hm)
      ·have hne:i≠0:=by omega
       rw [Array.getElem?_setIfInBounds_ne hne,Array.getElem?_map,h0]
       simp [woken_run hg]
      ·by_cases hji:i=j
       ·subst hji
        rw [Array.getElem?_setIfInBounds_self_of_lt (by simpa using hil)] at hy
        obtain rfl:=Option.some.inj hy
        rw [upd_same,Deaf_own]
        exact hq'
       ·rw [Array.getElem?_setIfInBounds_ne hji,Array.getElem?_map] at hy
        obtain ⟨z,hz,rfl⟩:=Option.map_eq_some_iff.1 hy
        have hqj:=hL.old j z hj hz
        rw [woken_quitsD hqj,upd_ne q k (Ne.symm hji),Deaf_other t hji _ g_of_ofEvents]
        exact hqj
      ·have hj':gs.size≤j:=by simpa using hj
       rw [Deaf_other t (show i≠j by omega) _ g_of_ofEvents]
       exact hL.above j hj'
 exact main _ gs sl t q w.drawn rfl h0 hL hlt hT

end

theorem zb2 (w:World):w.at w.drawn=w:=rfl
theorem zhx (w:World) (d:Nat):Drew w (w.at d):=⟨rfl,rfl,rfl,rfl⟩

def Zone.also (Z:Zone) (U:Nat→Prop):Zone:=⟨fun c=>Z.rd c∨U c,Z.wr⟩
def z1r (P:Program) (Post:Value→World→Prop) (U:Nat→Prop):Car P true where
 Will Z g w:=(∀c,U c→c<w.heap.size)→∀dd,z3w P Post 0 (Z.also U) g (w.at dd)
 R _ w w₁:=AtRel w w₁
 T Z w w':=Kept Z w w'
 refl _ w:=atRel_refl w
 keep h hr:=by obtain ⟨d,rfl⟩:=h;exact hr.drew (zhx _ d)
 rT h:=by obtain ⟨d,rfl⟩:=h;exact (zhx _ d).below _
 kT h:=h
 tT h k:=h.trans k
 mT h k:=k.mono fun c=>(h c).1
 step {Z fr cs w} h:=by
  intro hU dd
  refine z3w.step rfl fun d2=>?_
  obtain ⟨fr',cs',w',es,h1,h2,h3,h4⟩:=h (w.at d2) ⟨d2,rfl⟩
  refine ⟨_,w',es,h1,h2.size,fun Shun ho e he=>(h3 e he).evM (ho.le fun c=>⟨id,.inl⟩),?_⟩
  rw [EvOk.deaf h3]
  exact h4 (fun c hc=>Nat.lt_of_lt_of_le (hU c hc) h2.size) w'.drawn
 calm h k:=by obtain ⟨d,rfl⟩:=h;exact k
abbrev znj (P:Program) (Post:Value→World→Prop):Car P true:=z1r P Post fun _=>False
inductive MainCls (P:Program):(main:Bool)→Car P main→Prop where
 | mk (Post:Value→World→Prop) (U:Nat→Prop):MainCls P true (z1r P Post U)
theorem z3w.zone {P:Program} {Post:Value→World→Prop} {d:Nat} {Z Z':Zone} {g:Goroutine} {w:World} (h:z3w P Post d Z g w) (hz:∀c,Z.rd c→Z'.rd c):z3w P Post d Z' g w:=
 fun gs sl t q Shun B h0 hL hlt hT hB hO=>h gs sl t q Shun B h0 hL hlt hT hB fun l hl=>⟨fun a e hr=>(hO l hl).1 a e (hz _ hr),(hO l hl).2⟩
theorem z3h {P:Program}:∀(main:Bool) (C:Car P main),MainCls P main C→LateC (MainCls P) C:=by
 intro main C h
 cases h with
 | mk Post U=>
 refine ⟨fun h=>h,fun B=>⟨z1r P Post (fun c=>U c∨c=B),.mk Post _,fun h=>h,fun {Z g w} h hz hn=>?_,fun {Z g w} hn h=>?_⟩⟩
 ·intro hU dd
  refine (h (fun c hc=>hc.elim (hU c) fun e=>e ▸ hn) dd).zone fun c hc=>?_
  rcases hc with hc | hc | hc
  ·exact .inl hc.1
  ·exact .inr hc
  ·exact .inl (hc ▸ hz)
 ·intro hU dd
  refine (h (fun c hc=>hU c (.inl hc)) dd).zone fun c hc=>?_
  rcases hc with (hc | hc) | hc
  ·exact .inl hc
  ·exact .inr (.inr hc)
  ·exact .inr (.inl hc)
end Go.Proofs.YthheoefadijhdaaGreat.Ai
set_option linter.unusedVariables false
set_option linter.unusedSectionVars false
namespace Go.Proofs.YthheoefadijhdaaGreat.Ai
open Go Go.RowKit Go.Conc
open Go.ConcX (stA smA OfWg g_of_ofEvents KK WgAt DC0 rd wr mk AtK1 AtD1 AtD2 AtD3 AtD4 RCa RCd KCa)
open Go.ConcN (sumTo upd sumTo_upd upd_ne upd_same)

section
variable {P:Program} {Post:Value→World→Prop}

def z2b (P:Program) (Post:Value→World→Prop) (c:Nat) (M:Nat) (a b:Goroutine) (w:World) (t:Trace):Prop:=
 ∀(gs:Array Goroutine) (sl:Option (Nat×Nat)) (q:Nat→Nat),sumTo gs.size q≤M→gs[0]? =some a→gs[c]? =some b→c≠0→(∀i g,i≠0→i≠c→gs[i]? =some g→QuitsD P (q i) (Deaf t i) g)→
  (∀j,gs.size≤j→Deaf t j=0)→(∀op ∈ t,op.g<gs.size)→Ends P Post gs w sl t
def z2i (P:Program) (Post:Value→World→Prop) (M:Nat) (a:Goroutine) (w:World) (t:Trace):Prop:=
 ∀(gs:Array Goroutine) (sl:Option (Nat×Nat)) (q:Nat→Nat),sumTo gs.size q≤M→gs[0]? =some a→Leavers P t gs q→(∀op ∈ t,op.g<gs.size)→Ends P Post gs w sl t

theorem z2b.le {c M M':Nat} {a b:Goroutine} {w:World} {t:Trace} (h:z2b P Post c M a b w t) (hM:M'≤M):z2b P Post c M' a b w t:=
 fun gs sl q h1=>h gs sl q (Nat.le_trans h1 hM)
theorem z2b.quits {c M k:Nat} {a b:Goroutine} {w:World} {t:Trace} (hq:QuitsD P k (Deaf t c) b) (h:z2i P Post (M+k) a w t):z2b P Post c M a b w t:=by
 intro gs sl q hM h0 hc hc0 hL habove hlt
 have hcs:c<gs.size:=(Array.getElem?_eq_some_iff.1 hc).1
 refine h gs sl (upd q c k) ?_ h0 ⟨fun i g hi hg=>?_,habove⟩ hlt
 ·have:=sumTo_upd q k id hcs
  simp only [id] at this
  have e:sumTo gs.size (fun a=>upd q c k a)=sumTo gs.size (upd q c k):=rfl
  have e2:sumTo gs.size (fun a=>q a)=sumTo gs.size q:=rfl
  omega
 ·by_cases hic:i=c
  ·subst hic
   rw [hc] at hg;cases hg
   rw [upd_same];exact hq
  ·rw [upd_ne q k hic];exact hL i g (by omega) hic hg

theorem z2b.pick {c M:Nat} {a b:Goroutine} {w:World} {t:Trace} (ha:a.status=.running∨a.status=.blocked) (hb:b.status=.running)
  (hA:a.status=.running→∀d,∃a' w' es,stepG P true a (w.at d)=.go a' w' es∧z2b P Post c M a' b w' (t++MemOp.ofEvents 0 a.frame.fn a.frame.place es))
  (hC:∀d,∃b' w' es,stepG P false b (w.at d)=.go b' w' es∧z2b P Post c M (woken P b b' w' a) b' w' (t++MemOp.ofEvents c b.frame.fn b.frame.place es))
  (hL:∀(M':Nat),M'<M→∀(g:Nat) (fn:FuncId) (pos:String) (es:Array Event) (x x':Goroutine) (d:Nat),g≠0→g≠c→(∀e ∈ es,e.mute=true)→z2b P Post c M' (woken P x x' (w.at d) a) b (w.at d) (t++MemOp.ofEvents g fn pos es)):
  z2b P Post c M a b w t:=by
 intro gs sl q hM h0 hc hc0 hLv habove hlt
 have hpos:0<gs.size:=(Array.getElem?_eq_some_iff.1 h0).1
 have hcs:c<gs.size:=(Array.getElem?_eq_some_iff.1 hc).1
 refine Ends.pick (fun x hx=>?_) ⟨c,b,hc,hb⟩ fun i x d sl₁ hi hx=>?_
 ·obtain ⟨i,hi,rfl⟩:=Array.mem_iff_getElem.1 hx
  by_cases h1:i=0
  ·subst h1
   have:gs[0]=a:=by simpa [Array.getElem?_eq_getElem hi] using h0
   rw [this];exact awake_of (ha.elim .inl fun x=>.inr (.inl x))
  ·by_cases h2:i=c
   ·subst h2
    have:gs[i]=b:=by simpa [Array.getElem?_eq_getElem hi] using hc
    rw [this];exact awake_of (.inl hb)
   ·exact awake_of ((hLv i _ h1 h2 (Array.getElem?_eq_getElem hi)).status.elim .inl fun x=>.inr (.inr x))
 ·have hil:i<gs.size:=(Array.getElem?_eq_some_iff.1 hi).1
  by_cases h1:i=0
  ·subst h1
   obtain rfl:x=a:=by rw [h0] at hi;exact (Option.some.inj hi).symm
   obtain ⟨a',w',es,hgo,hF⟩:=hA hx d
   refine ⟨_,w',sl₁,_,runT_crowd_go (P:=P) (i:=0) hi (show stepG P (0==0) x (w.at d)=_ from hgo),?_⟩
   refine hF _ sl₁ q (by simpa using hM) (by simp [hpos]) ?_ hc0 (fun j y hj hjc hy=>?_) (fun j hj=>?_) (zci hlt hpos _ _ es (by simp))
   ·rw [Array.getElem?_setIfInBounds_ne (fun e=>hc0 e.symm),Array.getElem?_map,hc]
    simp [woken_run hb]
   ·rw [Array.getElem?_setIfInBounds_ne (fun e=>hj e.symm),Array.getElem?_map] at hy
    obtain ⟨z,hz,rfl⟩:=Option.map_eq_some_iff.1 hy
    have hq:=hLv j z hj hjc hz
    rw [woken_quitsD hq,Deaf_other t (fun e=>hj e.symm) _ g_of_ofEvents]
    exact hq
   ·have hj':gs.size≤j:=by simpa using hj
    rw [Deaf_other t (show 0≠j by omega) _ g_of_ofEvents]
    exact habove j hj'
  ·by_cases h2:i=c
   ·subst h2
    obtain rfl:x=b:=by rw [hc] at hi;exact (Option.some.inj hi).symm
    obtain ⟨b',w',es,hgo,hF⟩:=hC d
    have hi0:(i==0)=false:=by simp;omega
    refine ⟨_,w',sl₁,_,runT_crowd_go (P:=P) (i:=i) hi (by rw [hi0];exact hgo),?_⟩
    refine hF _ sl₁ q (by simpa using hM) ?_ ?_ hc0 (fun j y hj hjc hy=>?_) (fun j hj=>?_) (zci hlt hil _ _ es (by simp))
    ·rw [Array.getElem?_setIfInBounds_ne h1,Array.getElem?_map,h0];rfl
    ·rw [Array.getElem?_setIfInBounds_self_of_lt (by simpa using hil)]
    ·rw [Array.getElem?_setIfInBounds_ne (fun e=>hjc e.symm),Array.getElem?_map] at hy
     obtain ⟨z,hz,rfl⟩:=Option.map_eq_some_iff.1 hy
     have hq:=hLv j z hj hjc hz
     rw [woken_quitsD hq,Deaf_other t (fun e=>hjc e.symm) _ g_of_ofEvents]
     exact hq
    ·have hj':gs.size≤j:=by simpa using hj
     rw [Deaf_other t (show i≠j by omega) _ g_of_ofEvents]
     exact habove j hj'
   ·have hq:=hLv i x h1 h2 hi
    have hi0:(i==0)=false:=by simp;omega
    cases hqi:q i with
    | zero=>rw [hqi] at hq;rw [hq.1] at hx;cases hx
    | succ k=>
     rw [hqi] at hq
     rcases hq with ⟨hf,_⟩ | ⟨_,x',es,hm,hstp,hq'⟩
     ·rw [hf] at hx;cases hx
     refine ⟨_,w.at d,sl₁,_,runT_crowd_go (P:=P) (sl:=sl₁) (i:=i) hi (by rw [hi0];exact hstp (w.at d)),?_⟩
     have hsz:((gs.map (woken P x x' (w.at d))).setIfInBounds i x').size=gs.size:=by simp
     have hsum:sumTo gs.size (upd q i k)+(k+1)=sumTo gs.size q+k:=by
      have:=sumTo_upd q k id hil
      simpa [hqi] using this
     refine hL (sumTo gs.size (upd q i k)) (by omega) i _ _ es x x' d h1 h2 hm _ sl₁ (upd q i k) (by rw [hsz];exact Nat.le_refl _) ?_ ?_ hc0 (fun j y hj hjc hy=>?_) (fun j hj=>?_) (zci hlt hil _ _ es hsz)
     ·rw [Array.getElem?_setIfInBounds_ne h1,Array.getElem?_map,h0];rfl
     ·rw [Array.getElem?_setIfInBounds_ne h2,Array.getElem?_map,hc]
      simp [woken_run hb]
     ·by_cases hji:i=j
      ·subst hji
       rw [Array.getElem?_setIfInBounds_self_of_lt (by simpa using hil)] at hy
       obtain rfl:=Option.some.inj hy
       rw [upd_same,Deaf_own]
       exact hq'
      ·rw [Array.getElem?_setIfInBounds_ne hji,Array.getElem?_map] at hy
       obtain ⟨z,hz,rfl⟩:=Option.map_eq_some_iff.1 hy
       have hqj:=hLv j z hj hjc hz
       rw [woken_quitsD hqj,upd_ne q k (Ne.symm hji),Deaf_other t hji _ g_of_ofEvents]
       exact hqj
     ·have hj':gs.size≤j:=by simpa using hj
      rw [Deaf_other t (show i≠j by omega) _ g_of_ofEvents]
      exact habove j hj'

theorem z2i.pick {M:Nat} {a:Goroutine} {w:World} {t:Trace} (ha:a.status=.running)
  (hA:∀d,∃a' w' es,stepG P true a (w.at d)=.go a' w' es∧z2i P Post M a' w' (t++MemOp.ofEvents 0 a.frame.fn a.frame.place es))
  (hL:∀(M':Nat),M'<M→∀(g:Nat) (fn:FuncId) (pos:String) (es:Array Event) (d:Nat),g≠0→(∀e ∈ es,e.mute=true)→z2i P Post M' a (w.at d) (t++MemOp.ofEvents g fn pos es)):
  z2i P Post M a w t:=by
 intro gs sl q hM h0 hLv hlt
 have hpos:0<gs.size:=(Array.getElem?_eq_some_iff.1 h0).1
 refine Ends.pick (fun x hx=>?_) ⟨0,a,h0,ha⟩ fun i x d sl₁ hi hx=>?_
 ·obtain ⟨i,hi,rfl⟩:=Array.mem_iff_getElem.1 hx
  by_cases h1:i=0
  ·subst h1
   have:gs[0]=a:=by simpa [Array.getElem?_eq_getElem hi] using h0
   rw [this];exact awake_of (.inl ha)
  ·exact awake_of ((hLv.old i _ (by omega) (Array.getElem?_eq_getElem hi)).status.elim .inl fun x=>.inr (.inr x))
 ·have hil:i<gs.size:=(Array.getElem?_eq_some_iff.1 hi).1
  by_cases h1:i=0
  ·subst h1
   obtain rfl:x=a:=by rw [h0] at hi;exact (Option.some.inj hi).symm
   obtain ⟨a',w',es,hgo,hF⟩:=hA d
   refine ⟨_,w',sl₁,_,runT_crowd_go (P:=P) (i:=0) hi (show stepG P (0==0) x (w.at d)=_ from hgo),?_⟩
   exact hF _ sl₁ q (by simpa using hM) (by simp [hpos]) (hLv.own hpos _ _ es) (zci hlt hpos _ _ es (by simp))
  ·have hq:=hLv.old i x (by omega) hi
   have hi0:(i==0)=false:=by simp;omega
   cases hqi:q i with
   | zero=>rw [hqi] at hq;rw [hq.1] at hx;cases hx
   | succ k=>
    rw [hqi] at hq
    rcases hq with ⟨hf,_⟩ | ⟨_,x',es,hm,hstp,hq'⟩
    ·rw [hf] at hx;cases hx
    refine ⟨_,w.at d,sl₁,_,runT_crowd_go (P:=P) (sl:=sl₁) (i:=i) hi (by rw [hi0];exact hstp (w.at d)),?_⟩
    have hsz:((gs.map (woken P x x' (w.at d))).setIfInBounds i x').size=gs.size:=by simp
    have hsum:sumTo gs.size (upd q i k)+(k+1)=sumTo gs.size q+k:=by
     have:=sumTo_upd q k id hil
     simpa [hqi] using this
    refine hL (sumTo gs.size (upd q i k)) (by omega) i _ _ es d h1 hm _ sl₁ (upd q i k) (by rw [hsz];exact Nat.le_refl _) ?_ ⟨fun j y hj hy=>?_,fun j hj=>?_⟩ (zci hlt hil _ _ es hsz)
    ·rw [Array.getElem?_setIfInBounds_ne h1,Array.getElem?_map,h0]
     simp [woken_run ha]
    ·by_cases hji:i=j
     ·subst hji
      rw [Array.getElem?_setIfInBounds_self_of_lt (by simpa using hil)] at hy
      obtain rfl:=Option.some.inj hy
      rw [upd_same,Deaf_own]
      exact hq'
     ·rw [Array.getElem?_setIfInBounds_ne hji,Array.getElem?_map] at hy
      obtain ⟨z,hz,rfl⟩:=Option.map_eq_some_iff.1 hy
      have hqj:=hLv.old j z hj hz
      rw [woken_quitsD hqj,upd_ne q k (Ne.symm hji),Deaf_other t hji _ g_of_ofEvents]
      exact hqj
    ·have hj':gs.size≤j:=by simpa using hj
     rw [Deaf_other t (show i≠j by omega) _ g_of_ofEvents]
     exact hLv.above j hj'

end

section
variable (P:Program) (ty:TypeId) (Wg:Nat) (Fu:World→Prop)

def KA (w:World):Prop:=WgAt ty Wg w KK 0∨(WgAt ty Wg w 0 0∧Fu w)
def KC (w:World):Prop:=WgAt ty Wg w 0 0∧Fu w
def KB (w:World):Prop:=WgAt ty Wg w (KK+1) 0∨WgAt ty Wg w 1 0∨WgAt ty Wg w 0 0∨(WgAt ty Wg w 0 1∧Fu w)
def KF (w:World):Prop:=WgAt ty Wg w 0 1∧Fu w
structure RMa (w w₁:World):Prop where
 ka:KA ty Wg Fu w→KA ty Wg Fu w₁
 kc:KC ty Wg Fu w→KC ty Wg Fu w₁
structure RMb (w w₁:World):Prop where
 kb:KB ty Wg Fu w→KB ty Wg Fu w₁
 kf:KF ty Wg Fu w→KF ty Wg Fu w₁

def MAcq (Next:Goroutine→World→Prop) (g:Goroutine) (w:World):Prop:=g.status=.running∧∃g',stepG P true g w=.go g' w #[mk (.acquire (stA Wg))]∧Next g' w
def MKe (Next:Goroutine→World→Prop) (g:Goroutine) (w:World):Prop:=g.status=.running∧∃g',stepG P true g w=.go g' w #[mk .enable]∧∃m,Goes P true AtRel DC0 (MAcq P Wg Next) m g' w
def MW4 (Next:Goroutine→World→Prop) (g:Goroutine) (w:World):Prop:=g.status=.running∧∃g',stepG P true g w=.go g' w #[rd (stA Wg)]∧∃m,Goes P true AtRel DC0 (MKe P Wg Next) m g' w
def MW3 (Next:Goroutine→World→Prop) (g:Goroutine) (w:World):Prop:=
 g.status=.running∧g.offers=none∧((∃st,WgAt ty Wg w st 0)→stepG P true g w=.go {g with status:=.blocked} w #[])∧
  (KF ty Wg Fu w→∃g',stepG P true g w=.go g' (w.setCell (smA Wg) (.int .u32 0)) (Conc.semEvents (smA Wg))∧∃m,Goes P true AtRel DC0 (MW4 P Wg Next) m g' (w.setCell (smA Wg) (.int .u32 0)))
def MWr (Next:Goroutine→World→Prop) (g:Goroutine) (w:World):Prop:=g.status=.running∧∃g',stepG P true g w=.go g' w #[mk (.write (smA Wg))]∧∃m,Goes P true (RMb ty Wg Fu) DC0 (MW3 P ty Wg Fu Next) m g' w
def MW2 (Next Anch:Goroutine→World→Prop) (g:Goroutine) (w:World):Prop:=
 g.status=.running∧
  (WgAt ty Wg w KK 0→∃g',stepG P true g w=.go g' (w.setCell (stA Wg) (.int .u64 (KK+1))) #[rd (stA Wg),wr (stA Wg)]∧∃m,Goes P true (RMb ty Wg Fu) DC0 (MWr P ty Wg Fu Next) m g' (w.setCell (stA Wg) (.int .u64 (KK+1))))∧
  (KC ty Wg Fu w→∃g',stepG P true g w=.go g' w #[rd (stA Wg)]∧∃m,Goes P true (RMa ty Wg Fu) DC0 Anch m g' w)
def MW1 (Next Anch:Goroutine→World→Prop) (g:Goroutine) (w:World):Prop:=
 g.status=.running∧∃g',stepG P true g w=.go g' w #[rd (stA Wg)]∧
  (WgAt ty Wg w KK 0→∃m,Goes P true (RMa ty Wg Fu) DC0 (MW2 P ty Wg Fu Next Anch) m g' w)∧
  (KC ty Wg Fu w→∃m,Goes P true AtRel DC0 (MKe P Wg Next) m g' w)
def MKd (Anch:Goroutine→World→Prop) (g:Goroutine) (w:World):Prop:=g.status=.running∧∃g',stepG P true g w=.go g' w #[mk .disable]∧∃m,Goes P true (RMa ty Wg Fu) DC0 Anch m g' w
end

section
variable {P:Program} {Post:Value→World→Prop} {ty:TypeId} {Wg:Nat} {Fu:World→Prop}

theorem RMa.refl (w:World):RMa ty Wg Fu w w:=⟨id,id⟩
theorem RMb.refl (w:World):RMb ty Wg Fu w w:=⟨id,id⟩
theorem RMa.trans {a b c:World} (h:RMa ty Wg Fu a b) (k:RMa ty Wg Fu b c):RMa ty Wg Fu a c:=⟨fun x=>k.ka (h.ka x),fun x=>k.kc (h.kc x)⟩
theorem RMb.trans {a b c:World} (h:RMb ty Wg Fu a b) (k:RMb ty Wg Fu b c):RMb ty Wg Fu a c:=⟨fun x=>k.kb (h.kb x),fun x=>k.kf (h.kf x)⟩

structure WgSame (Wg:Nat) (w w':World):Prop where
 blk:w'.heap[Wg]? =w.heap[Wg]?

theorem vis1 {c:Nat} {R:World→World→Prop} (hRr:∀w d,R w (w.at d)) (hRt:∀a b c,R a b→R b c→R a c) {Stop:Goroutine→World→Prop} (hsr:∀g w,Stop g w→g.status=.running)
  {b:Goroutine} (hb:b.status=.running) {Cd:World→Prop} {T:World→Trace→Prop} (hCd:∀w d,Cd w→Cd (w.at d))
  (hT:∀w d t g fn pos es,T w t→g≠0→g≠c→(∀e ∈ es,Event.mute e=true)→T (w.at d) (t++MemOp.ofEvents g fn pos es)) (hTd:∀w d t,T w t→T (w.at d) t)
  {M:Nat} (hV:∀M',M'≤M→∀a w t,Stop a w→Cd w→T w t→∃a' w' es,stepG P true a w=.go a' w' es∧z2b P Post c M' a' b w' (t++MemOp.ofEvents 0 a.frame.fn a.frame.place es))
  (hC:∀M',M'≤M→∀a w t,(∃n,Goes P true R DC0 Stop n a w)→Cd w→T w t→∃b' w' es,stepG P false b w=.go b' w' es∧z2b P Post c M' a b' w' (t++MemOp.ofEvents c b.frame.fn b.frame.place es)):
  ∀M',M'≤M→∀a w t,(∀w₁,R w w₁→Stop a w₁)→Cd w→T w t→z2b P Post c M' a b w t:=by
 intro M'
 induction M' using Nat.strongRecOn with
 | _ M' ihM=>
  intro hM a w t hG hcd ht
  have hw:R w w:=by have:=hRr w w.drawn;rwa [zb2] at this
  have ha:=hsr _ _ (hG w hw)
  refine z2b.pick (.inl ha) hb (fun _ d=>?_) (fun d=>?_) fun M2 hM2 g fn pos es x x' d hg hgc hm=>?_
  ·exact hV M' hM a (w.at d) t (hG _ (hRr w d)) (hCd w d hcd) (hTd w d t ht)
  ·obtain ⟨b',w',es,h1,h2⟩:=hC M' hM a (w.at d) t ⟨0,fun w₁ h₁=>hG w₁ (hRt _ _ _ (hRr w d) h₁)⟩ (hCd w d hcd) (hTd w d t ht)
   exact ⟨b',w',es,h1,by rw [woken_run ha];exact h2⟩
  ·rw [woken_run ha]
   exact ihM M2 hM2 (by omega) a (w.at d) _ (fun w₁ h₁=>hG w₁ (hRt _ _ _ (hRr w d) h₁)) (hCd w d hcd) (hT w d t g fn pos es ht hg hgc hm)

theorem zhd {c:Nat} {R:World→World→Prop} (hRr:∀w d,R w (w.at d)) (hRt:∀a b c,R a b→R b c→R a c) {Stop:Goroutine→World→Prop} (hsr:∀g w,Stop g w→g.status=.running)
  {b:Goroutine} (hb:b.status=.running) {Cd:World→Prop} {T:World→Trace→Prop} (hCd:∀w d,Cd w→Cd (w.at d))
  (hT:∀w d t g fn pos es,T w t→g≠0→g≠c→(∀e ∈ es,Event.mute e=true)→T (w.at d) (t++MemOp.ofEvents g fn pos es)) (hTd:∀w d t,T w t→T (w.at d) t)
  {M:Nat} (hS:∀M',M'≤M→∀a w t,(∀w₁,R w w₁→Stop a w₁)→Cd w→T w t→z2b P Post c M' a b w t)
  (hC:∀M',M'≤M→∀a w t,(∃n,Goes P true R DC0 Stop n a w)→Cd w→T w t→∃b' w' es,stepG P false b w=.go b' w' es∧z2b P Post c M' a b' w' (t++MemOp.ofEvents c b.frame.fn b.frame.place es)):
  ∀M',M'≤M→∀n a w t,Goes P true R DC0 Stop n a w→Cd w→T w t→z2b P Post c M' a b w t:=by
 intro M'
 induction M' using Nat.strongRecOn with
 | _ M' ihM=>
  intro hM n
  induction n with
  | zero=>intro a w t hG hcd ht;exact hS M' hM a w t hG hcd ht
  | succ n ih=>
   intro a w t hG hcd ht
   rcases hG with hG | ⟨ha,hG⟩
   ·exact hS M' hM a w t hG hcd ht
   refine z2b.pick (.inl ha) hb (fun _ d=>?_) (fun d=>?_) fun M2 hM2 g fn pos es x x' d hg hgc hm=>?_
   ·have hs:=hG (w.at d) (hRr w d)
    cases hgo:stepG P true a (w.at d) with
    | go a' w' es=>
     rw [hgo,goes_go] at hs
     obtain ⟨⟨rfl,rfl⟩,hG'⟩:=hs
     refine ⟨a',w.at d,#[],rfl,?_⟩
     rw [ofEvents_none,Array.append_empty]
     exact ih a' (w.at d) t hG' (hCd w d hcd) (hTd w d t ht)
    | _=>rw [hgo] at hs;exact hs.elim
   ·obtain ⟨b',w',es,h1,h2⟩:=hC M' hM a (w.at d) t ⟨n+1,Goes.rely hRt (Or.inr ⟨ha,hG⟩) (hRr w d)⟩ (hCd w d hcd) (hTd w d t ht)
    exact ⟨b',w',es,h1,by rw [woken_run ha];exact h2⟩
   ·rw [woken_run ha]
    exact ihM M2 hM2 (by omega) (n+1) a (w.at d) _ (Goes.rely hRt (Or.inr ⟨ha,hG⟩) (hRr w d)) (hCd w d hcd) (hT w d t g fn pos es ht hg hgc hm)

theorem vis0 {R:World→World→Prop} (hRr:∀w d,R w (w.at d)) (hRt:∀a b c,R a b→R b c→R a c) {Stop:Goroutine→World→Prop} (hsr:∀g w,Stop g w→g.status=.running)
  {Cd:World→Prop} {T:World→Trace→Prop} (hCd:∀w d,Cd w→Cd (w.at d))
  (hT:∀w d t g fn pos es,T w t→g≠0→(∀e ∈ es,Event.mute e=true)→T (w.at d) (t++MemOp.ofEvents g fn pos es)) (hTd:∀w d t,T w t→T (w.at d) t)
  (hV:∀M a w t,Stop a w→Cd w→T w t→∃a' w' es,stepG P true a w=.go a' w' es∧z2i P Post M a' w' (t++MemOp.ofEvents 0 a.frame.fn a.frame.place es)):
  ∀M a w t,(∀w₁,R w w₁→Stop a w₁)→Cd w→T w t→z2i P Post M a w t:=by
 intro M
 induction M using Nat.strongRecOn with
 | _ M ihM=>
  intro a w t hG hcd ht
  have hw:R w w:=by have:=hRr w w.drawn;rwa [zb2] at this
  have ha:=hsr _ _ (hG w hw)
  refine z2i.pick ha (fun d=>?_) fun M2 hM2 g fn pos es d hg hm=>?_
  ·exact hV M a (w.at d) t (hG _ (hRr w d)) (hCd w d hcd) (hTd w d t ht)
  ·exact ihM M2 hM2 a (w.at d) _ (fun w₁ h₁=>hG w₁ (hRt _ _ _ (hRr w d) h₁)) (hCd w d hcd) (hT w d t g fn pos es ht hg hm)

theorem zz1 {R:World→World→Prop} (hRr:∀w d,R w (w.at d)) (hRt:∀a b c,R a b→R b c→R a c) {Stop:Goroutine→World→Prop}
  {Cd:World→Prop} {T:World→Trace→Prop} (hCd:∀w d,Cd w→Cd (w.at d))
  (hT:∀w d t g fn pos es,T w t→g≠0→(∀e ∈ es,Event.mute e=true)→T (w.at d) (t++MemOp.ofEvents g fn pos es)) (hTd:∀w d t,T w t→T (w.at d) t)
  (hS:∀M a w t,(∀w₁,R w w₁→Stop a w₁)→Cd w→T w t→z2i P Post M a w t):
  ∀M n a w t,Goes P true R DC0 Stop n a w→Cd w→T w t→z2i P Post M a w t:=by
 intro M
 induction M using Nat.strongRecOn with
 | _ M ihM=>
  intro n
  induction n with
  | zero=>intro a w t hG hcd ht;exact hS M a w t hG hcd ht
  | succ n ih=>
   intro a w t hG hcd ht
   rcases hG with hG | ⟨ha,hG⟩
   ·exact hS M a w t hG hcd ht
   refine z2i.pick ha (fun d=>?_) fun M2 hM2 g fn pos es d hg hm=>?_
   ·have hs:=hG (w.at d) (hRr w d)
    cases hgo:stepG P true a (w.at d) with
    | go a' w' es=>
     rw [hgo,goes_go] at hs
     obtain ⟨⟨rfl,rfl⟩,hG'⟩:=hs
     refine ⟨a',w.at d,#[],rfl,?_⟩
     rw [ofEvents_none,Array.append_empty]
     exact ih a' (w.at d) t hG' (hCd w d hcd) (hTd w d t ht)
    | _=>rw [hgo] at hs;exact hs.elim
   ·exact ihM M2 hM2 (n+1) a (w.at d) _ (Goes.rely hRt (Or.inr ⟨ha,hG⟩) (hRr w d)) (hCd w d hcd) (hT w d t g fn pos es ht hg hm)
end
end Go.Proofs.YthheoefadijhdaaGreat.Ai
set_option linter.unusedVariables false
set_option linter.unusedSectionVars false
namespace Go.Proofs.YthheoefadijhdaaGreat.Ai
open Go Go.RowKit Go.Conc
open Go.ConcX (stA smA OfWg g_of_ofEvents KK WgAt DC0 rd wr mk AtK1 AtD1 AtD2 AtD3 AtD4 RCa RCd KCa)
open Go.ConcN (sumTo upd sumTo_upd upd_ne upd_same)

section
variable {P:Program} {Post:Value→World→Prop} {ty:TypeId} {Wg c:Nat} {Fu:World→Prop} {Shun:Loc→Prop} {Next Anch:Goroutine→World→Prop}

def Tw (Shun:Loc→Prop) (Wg c d0 d1:Nat) (rel:Bool) (w:World) (t:Trace):Prop:=Tj Shun Wg c w.heap.size d0 d1 rel t
def Tq (Shun:Loc→Prop) (Wg c d0:Nat) (w:World) (t:Trace):Prop:=∃d1,Tj Shun Wg c w.heap.size d0 d1 true t

theorem Tw.mute {d0 d1:Nat} {rel:Bool} (w:World) (d:Nat) (t:Trace) (g:Nat) (fn:FuncId) (pos:String) (es:Array Event) (h:Tw Shun Wg c d0 d1 rel w t) (hg:g≠0) (hgc:g≠c) (hm:∀e ∈ es,Event.mute e=true):
  Tw Shun Wg c d0 d1 rel (w.at d) (t++MemOp.ofEvents g fn pos es):=Tj.mute h hg hgc hm
theorem zrj {e:Event} (h:e.mute=true) (B:Nat):(MemAct.ofEvent e).touch? =none∧(MemAct.ofEvent e).low B∧∀a,MemAct.ofEvent e≠.mark (.release a):=⟨touch_mute h,low_mute h B,zc3 h⟩
theorem Tq.mute (hc0:c≠0) {d0:Nat} (w:World) (hW:Wg<w.heap.size) (d:Nat) (t:Trace) (g:Nat) (fn:FuncId) (pos:String) (es:Array Event) (h:Tq Shun Wg c d0 w t) (hg:g≠0) (hm:∀e ∈ es,Event.mute e=true):
  Tq Shun Wg c d0 (w.at d) (t++MemOp.ofEvents g fn pos es):=by
 obtain ⟨d1,h⟩:=h
 by_cases hgc:g=c
 ·subst hgc
  exact ⟨_,h.book hc0 hW fn pos fun j e he=>.inl (zrj (hm e (Array.mem_of_getElem? he)) _)⟩
 ·exact ⟨d1,h.mute hg hgc hm⟩

theorem z16t {a:Addr} (ha:a.block=Wg) (wr:Bool):∀x,(MemAct.ofEvent ⟨.cell a,wr,true⟩).touch? =some x→OfWg Wg x.loc∧x.kind≠.plain:=by
 intro x hx
 have:x=⟨.cell a,wr,.atomic⟩:=by simp [MemAct.ofEvent,MemAct.touch?] at hx;exact hx.symm
 subst this
 exact ⟨⟨a,rfl,ha⟩,by simp⟩
def Ev0 (Wg:Nat) (e:Event):Prop:=(∃a wr,e=⟨.cell a,wr,true⟩∧a.block=Wg)∨e=mk .disable∨e=mk .enable∨e=mk (.write (smA Wg))
theorem Tj.ev0 {B d0 d1:Nat} {rel:Bool} {t:Trace} (h:Tj Shun Wg c B d0 d1 rel t) (hc0:c≠0) (hW:Wg<B) {fn:FuncId} {pos:String} {es:Array Event} (hes:∀e ∈ es,Ev0 Wg e):Tj Shun Wg c B (deafBehind d0 es) d1 rel (t++MemOp.ofEvents 0 fn pos es):=by
 refine h.own0 hc0 (fun e he=>?_) (fun e he=>?_) (fun e he=>?_)
 ·rcases hes e he with ⟨a,wr,rfl,ha⟩ | rfl | rfl | rfl
  ·exact z16t ha wr
  ·intro x hx;cases hx
  ·intro x hx;cases hx
  ·intro x hx
   have:x=⟨.cell (smA Wg),true,.said⟩:=(Option.some.inj (show some (⟨.cell (smA Wg),true,.said⟩:Go.Touch)=some x from hx)).symm
   subst this
   exact ⟨⟨_,rfl,rfl⟩,by simp⟩
 ·rcases hes e he with ⟨a,wr,rfl,ha⟩ | rfl | rfl | rfl
  ·show a.block<B;omega
  ·trivial
  ·trivial
  ·exact hW
 ·rcases hes e he with ⟨a,wr,rfl,ha⟩ | rfl | rfl | rfl 
  ·intro x hx;cases hx
  ·intro x hx;cases hx
  ·intro x hx;cases hx
  ·intro x hx;cases hx

theorem z1l1:∀e ∈ Conc.semEvents (smA Wg),Ev0 Wg e:=by
 intro e he
 simp [Conc.semEvents] at he
 rcases he with rfl | rfl | rfl | rfl
 ·exact .inr (.inl rfl)
 ·exact .inl ⟨_,_,rfl,rfl⟩
 ·exact .inl ⟨_,_,rfl,rfl⟩
 ·exact .inr (.inr (.inl rfl))
theorem z6q (w:World) (d:Nat):AtRel w (w.at d):=⟨d,rfl⟩
theorem _root_.Go.ConcX.WgAt.lt {w:World} {st sm:Int} (h:WgAt ty Wg w st sm):Wg<w.heap.size:=(Array.getElem?_eq_some_iff.1 h).1
end

structure Jn (P:Program) (Post:Value→World→Prop) (ty:TypeId) (Wg c:Nat) (Fu:World→Prop) (Shun:Loc→Prop) (Next Anch:Goroutine→World→Prop):Prop where
 c0:c≠0
 fu:∀(w w':World),w'.tape=w.tape→w'.os=w.os→w'.output=w.output→w'.heap.size=w.heap.size→(∀k,k≠Wg→w'.heap[k]? =w.heap[k]?)→Fu w→Fu w'
 next:∀(g:Goroutine) (w:World) (t:Trace),Next g w→Tr (fun l=>Shun l∨OfWg Wg l) w.heap.size 0 t→∀M,z2i P Post M g w t
 anr:∀g w,Anch g w→g.status=.running
 an:∀g w,Anch g w→∃m,Goes P true (RMa ty Wg Fu) DC0 (MW1 P ty Wg Fu Next Anch) m g w

section
variable {P:Program} {Post:Value→World→Prop} {ty:TypeId} {Wg c:Nat} {Fu:World→Prop} {Shun:Loc→Prop} {Next Anch:Goroutine→World→Prop} (J:Jn P Post ty Wg c Fu Shun Next Anch)
include J

theorem Jn.at {w:World} (d:Nat) (h:Fu w):Fu (w.at d):=J.fu w (w.at d) rfl rfl rfl rfl (fun _ _=>rfl) h
theorem Jn.cell {w:World} (a:Addr) (v:Value) (ha:a.block=Wg) (h:Fu w):Fu (w.setCell a v):=
 J.fu w _ rfl rfl rfl (World.size_setCell _ _ _) (fun k hk=>Below.heap_setCell _ _ _ _ (by rw [ha];exact hk)) h
theorem Jn.raAt (w:World) (d:Nat):RMa ty Wg Fu w (w.at d):=⟨fun h=>h.imp id fun h=>⟨h.1,J.at d h.2⟩,fun h=>⟨h.1,J.at d h.2⟩⟩
theorem Jn.rbAt (w:World) (d:Nat):RMb ty Wg Fu w (w.at d):=⟨fun h=>h.imp id (Or.imp id (Or.imp id fun h=>⟨h.1,J.at d h.2⟩)),fun h=>⟨h.1,J.at d h.2⟩⟩

theorem Jn.s0 {R:World→World→Prop} (hRr:∀w d,R w (w.at d)) (hRt:∀a b c,R a b→R b c→R a c) {Stop:Goroutine→World→Prop} (hsr:∀g w,Stop g w→g.status=.running) {Cd:World→Prop} (hCd:∀w d,Cd w→Cd (w.at d)) (hlt:∀w,Cd w→Wg<w.heap.size) {d0:Nat}
  (hV:∀M a w t,Stop a w→Cd w→Tq Shun Wg c d0 w t→∃a' w' es,stepG P true a w=.go a' w' es∧z2i P Post M a' w' (t++MemOp.ofEvents 0 a.frame.fn a.frame.place es)):
  ∀M n a w t,Goes P true R DC0 Stop n a w→Cd w→Tq Shun Wg c d0 w t→z2i P Post M a w t:=by
 intro M n a w t h1 h2 h3
 have hm:∀w d t g fn pos es,(Cd w∧Tq Shun Wg c d0 w t)→g≠0→(∀e ∈ es,Event.mute e=true)→Cd (w.at d)∧Tq Shun Wg c d0 (w.at d) (t++MemOp.ofEvents g fn pos es):=fun w d t g fn pos es h hg hm=>⟨hCd w d h.1,h.2.mute J.c0 w (hlt w h.1) d t g fn pos es hg hm⟩
 have hd:∀(w:World) (d:Nat) (t:Trace),(Cd w∧Tq Shun Wg c d0 w t)→Cd (w.at d)∧Tq Shun Wg c d0 (w.at d) t:=fun w d t h=>⟨hCd w d h.1,h.2⟩
 exact zz1 hRr hRt (Cd:=Cd) (T:=fun w t=>Cd w∧Tq Shun Wg c d0 w t) hCd hm hd (vis0 hRr hRt hsr hCd hm hd fun M a w t h1 h2 h3=>hV M a w t h1 h2 h3.2) M n a w t h1 h2 ⟨h2,h3⟩
theorem Jn.kcAt (w:World) (d:Nat) (h:KC ty Wg Fu w):KC ty Wg Fu (w.at d):=⟨h.1,J.at d h.2⟩
theorem Jn.kfAt (w:World) (d:Nat) (h:KF ty Wg Fu w):KF ty Wg Fu (w.at d):=⟨h.1,J.at d h.2⟩

theorem Jn.acq:∀M n a w t,Goes P true AtRel DC0 (MAcq P Wg Next) n a w→KC ty Wg Fu w→Tq Shun Wg c 0 w t→z2i P Post M a w t:=by
 refine J.s0 z6q atRel_trans (fun _ _ h=>h.1) J.kcAt (fun w h=>h.1.lt) ?_
 rintro M a w t ⟨_,g',hgo,hn⟩ hk ⟨d1,ht⟩
 exact ⟨g',w,_,hgo,J.next g' w _ hn (ht.join J.c0 hk.1.lt _ _) M⟩

theorem Jn.ke:∀M n a w t,Goes P true AtRel DC0 (MKe P Wg Next) n a w→KC ty Wg Fu w→Tq Shun Wg c 1 w t→z2i P Post M a w t:=by
 refine J.s0 z6q atRel_trans (fun _ _ h=>h.1) J.kcAt (fun w h=>h.1.lt) ?_
 rintro M a w t ⟨_,g',hgo,m,hg⟩ hk ⟨d1,ht⟩
 exact ⟨g',w,_,hgo,J.acq M m g' w _ hg hk ⟨d1,ht.ev0 (es:=#[ConcX.mk .enable]) J.c0 hk.1.lt (fun e he=>by simp at he;exact .inr (.inr (.inl he)))⟩⟩

theorem Jn.w4:∀M n a w t,Goes P true AtRel DC0 (MW4 P Wg Next) n a w→KC ty Wg Fu w→Tq Shun Wg c 1 w t→z2i P Post M a w t:=by
 refine J.s0 z6q atRel_trans (fun _ _ h=>h.1) J.kcAt (fun w h=>h.1.lt) ?_
 rintro M a w t ⟨_,g',hgo,m,hg⟩ hk ⟨d1,ht⟩
 exact ⟨g',w,_,hgo,J.ke M m g' w _ hg hk ⟨d1,ht.ev0 (es:=#[rd (stA Wg)]) J.c0 hk.1.lt (fun e he=>by simp at he;exact .inl ⟨_,_,he,rfl⟩)⟩⟩

theorem Jn.take {w:World} (h:KF ty Wg Fu w):KC ty Wg Fu (w.setCell (smA Wg) (.int .u32 0)):=⟨h.1.setSm 0,J.cell _ _ rfl h.2⟩

theorem Jn.w1c:∀M n a w t,Goes P true (RMa ty Wg Fu) DC0 (MW1 P ty Wg Fu Next Anch) n a w→KC ty Wg Fu w→Tq Shun Wg c 1 w t→z2i P Post M a w t:=by
 refine J.s0 J.raAt (fun _ _ _=>RMa.trans) (fun _ _ h=>h.1) J.kcAt (fun w h=>h.1.lt) ?_
 rintro M a w t ⟨_,g',hgo,_,hk2⟩ hk ⟨d1,ht⟩
 obtain ⟨m,hg⟩:=hk2 hk
 exact ⟨g',w,_,hgo,J.ke M m g' w _ hg hk ⟨d1,ht.ev0 (es:=#[rd (stA Wg)]) J.c0 hk.1.lt (fun e he=>by simp at he;exact .inl ⟨_,_,he,rfl⟩)⟩⟩
theorem Jn.anc:∀M n a w t,Goes P true (RMa ty Wg Fu) DC0 Anch n a w→KC ty Wg Fu w→Tq Shun Wg c 1 w t→z2i P Post M a w t:=by
 refine fun M n a w t h1 h2 h3=>zz1 J.raAt (fun _ _ _=>RMa.trans) (Cd:=KC ty Wg Fu) (T:=fun w t=>KC ty Wg Fu w∧Tq Shun Wg c 1 w t) J.kcAt (fun w d t g fn pos es h hg hm=>⟨J.kcAt w d h.1,h.2.mute J.c0 w h.1.1.lt d t g fn pos es hg hm⟩) (fun w d t h=>⟨J.kcAt w d h.1,h.2⟩)
  (fun M a w t h1 h2 h3=>?_) M n a w t h1 h2 ⟨h2,h3⟩
 obtain ⟨m,hg⟩:=J.an a w (h1 w (RMa.refl w))
 exact J.w1c M m a w t hg h2 h3.2
theorem Jn.w2c:∀M n a w t,Goes P true (RMa ty Wg Fu) DC0 (MW2 P ty Wg Fu Next Anch) n a w→KC ty Wg Fu w→Tq Shun Wg c 1 w t→z2i P Post M a w t:=by
 refine J.s0 J.raAt (fun _ _ _=>RMa.trans) (fun _ _ h=>h.1) J.kcAt (fun w h=>h.1.lt) ?_
 rintro M a w t ⟨_,_,hk2⟩ hk ⟨d1,ht⟩
 obtain ⟨g',hgo,m,hg⟩:=hk2 hk
 exact ⟨g',w,_,hgo,J.anc M m g' w _ hg hk ⟨d1,ht.ev0 (es:=#[rd (stA Wg)]) J.c0 hk.1.lt (fun e he=>by simp at he;exact .inl ⟨_,_,he,rfl⟩)⟩⟩
theorem Jn.kdc:∀M n a w t,Goes P true (RMa ty Wg Fu) DC0 (MKd P ty Wg Fu Anch) n a w→KC ty Wg Fu w→Tq Shun Wg c 0 w t→z2i P Post M a w t:=by
 refine J.s0 J.raAt (fun _ _ _=>RMa.trans) (fun _ _ h=>h.1) J.kcAt (fun w h=>h.1.lt) ?_
 rintro M a w t ⟨_,g',hgo,m,hg⟩ hk ⟨d1,ht⟩
 exact ⟨g',w,_,hgo,J.anc M m g' w _ hg hk ⟨d1,ht.ev0 (es:=#[ConcX.mk .disable]) J.c0 hk.1.lt (fun e he=>by simp at he;exact .inr (.inl he))⟩⟩

theorem Jn.w3f:∀M n a w t,Goes P true (RMb ty Wg Fu) DC0 (MW3 P ty Wg Fu Next) n a w→KF ty Wg Fu w→Tq Shun Wg c 1 w t→z2i P Post M a w t:=by
 refine J.s0 J.rbAt (fun _ _ _=>RMb.trans) (fun _ _ h=>h.1) J.kfAt (fun w h=>h.1.lt) ?_
 rintro M a w t ⟨_,_,_,hk2⟩ hk ⟨d1,ht⟩
 obtain ⟨g',hgo,m,hg⟩:=hk2 hk
 refine ⟨g',_,_,hgo,J.w4 M m g' _ _ hg (J.take hk) ⟨d1,?_⟩⟩
 have:=ht.ev0 (es:=Conc.semEvents (smA Wg)) (fn:=a.frame.fn) (pos:=a.frame.place) J.c0 hk.1.lt z1l1
 rw [World.size_setCell]
 exact this
theorem Jn.wrf:∀M n a w t,Goes P true (RMb ty Wg Fu) DC0 (MWr P ty Wg Fu Next) n a w→KF ty Wg Fu w→Tq Shun Wg c 1 w t→z2i P Post M a w t:=by
 refine J.s0 J.rbAt (fun _ _ _=>RMb.trans) (fun _ _ h=>h.1) J.kfAt (fun w h=>h.1.lt) ?_
 rintro M a w t ⟨_,g',hgo,m,hg⟩ hk ⟨d1,ht⟩
 exact ⟨g',w,_,hgo,J.w3f M m g' w _ hg hk ⟨d1,ht.ev0 (es:=#[ConcX.mk (.write (smA Wg))]) J.c0 hk.1.lt (fun e he=>by simp at he;exact .inr (.inr (.inr he)))⟩⟩
end
end Go.Proofs.YthheoefadijhdaaGreat.Ai
set_option linter.unusedVariables false
set_option linter.unusedSectionVars false
namespace Go.Proofs.YthheoefadijhdaaGreat.Ai
open Go Go.RowKit Go.Conc
open Go.ConcX (stA smA OfWg g_of_ofEvents KK WgAt DC0 rd wr AtK1 AtD1 AtD2 AtD3 AtD4 RCa RCd KCa)
open Go.ConcN (sumTo upd sumTo_upd upd_ne upd_same)

section
variable (P:Program) (ty:TypeId) (Wg:Nat) (Fu:World→Prop) (Next Anch:Goroutine→World→Prop)
inductive MainB:Goroutine→World→Prop where
 | wr {n g w}:Goes P true (RMb ty Wg Fu) DC0 (MWr P ty Wg Fu Next) n g w→MainB g w
 | w3 {n g w}:Goes P true (RMb ty Wg Fu) DC0 (MW3 P ty Wg Fu Next) n g w→MainB g w
 | bl {g w}:(∀w₁,RMb ty Wg Fu w w₁→MW3 P ty Wg Fu Next g w₁)→MainB {g with status:=.blocked} w
inductive MainA:Nat→Goroutine→World→Prop where
 | kd {n g w}:Goes P true (RMa ty Wg Fu) DC0 (MKd P ty Wg Fu Anch) n g w→MainA 0 g w
 | an {n g w}:Goes P true (RMa ty Wg Fu) DC0 Anch n g w→MainA 1 g w
 | w1 {n g w}:Goes P true (RMa ty Wg Fu) DC0 (MW1 P ty Wg Fu Next Anch) n g w→MainA 1 g w
 | w2 {n g w}:Goes P true (RMa ty Wg Fu) DC0 (MW2 P ty Wg Fu Next Anch) n g w→MainA 1 g w
end

section
variable {P:Program} {Post:Value→World→Prop} {ty:TypeId} {Wg c:Nat} {Fu:World→Prop} {Shun:Loc→Prop} {Next Anch:Goroutine→World→Prop}

theorem RMa.tr (a b c:World) (h:RMa ty Wg Fu a b) (k:RMa ty Wg Fu b c):RMa ty Wg Fu a c:=h.trans k
theorem RMb.tr (a b c:World) (h:RMb ty Wg Fu a b) (k:RMb ty Wg Fu b c):RMb ty Wg Fu a c:=h.trans k
theorem z9w {R:World→World→Prop} (hRr:∀w d,R w (w.at d)) {Stop:Goroutine→World→Prop} (hsr:∀g w,Stop g w→g.status=.running) {n:Nat} {g:Goroutine} {w:World} (h:Goes P true R DC0 Stop n g w):g.status=.running:=by
 have hw:R w w:=by have:=hRr w w.drawn;rwa [zb2] at this
 cases n with
 | zero=>exact hsr _ _ (h w hw)
 | succ n=>exact h.elim (fun h=>hsr _ _ (h w hw)) fun h=>h.1

theorem MainB.rely {a:Goroutine} {w w₁:World} (h:MainB P ty Wg Fu Next a w) (hr:RMb ty Wg Fu w w₁):MainB P ty Wg Fu Next a w₁:=by
 cases h with
 | wr h=>exact .wr (Goes.rely (R:=RMb ty Wg Fu) RMb.tr h hr)
 | w3 h=>exact .w3 (Goes.rely (R:=RMb ty Wg Fu) RMb.tr h hr)
 | bl h=>exact .bl fun w₂ h₂=>h w₂ (hr.trans h₂)
theorem MainA.rely {d0:Nat} {a:Goroutine} {w w₁:World} (h:MainA P ty Wg Fu Next Anch d0 a w) (hr:RMa ty Wg Fu w w₁):MainA P ty Wg Fu Next Anch d0 a w₁:=by
 cases h with
 | kd h=>exact .kd (Goes.rely (R:=RMa ty Wg Fu) RMa.tr h hr)
 | an h=>exact .an (Goes.rely (R:=RMa ty Wg Fu) RMa.tr h hr)
 | w1 h=>exact .w1 (Goes.rely (R:=RMa ty Wg Fu) RMa.tr h hr)
 | w2 h=>exact .w2 (Goes.rely (R:=RMa ty Wg Fu) RMa.tr h hr)
end

section
variable {P:Program} {Post:Value→World→Prop} {ty:TypeId} {Wg c:Nat} {Fu:World→Prop} {Shun:Loc→Prop} {Next Anch:Goroutine→World→Prop} (J:Jn P Post ty Wg c Fu Shun Next Anch)
include J

theorem Jn.wokenB {x x' a:Goroutine} {w w₁:World} (h:MainB P ty Wg Fu Next a w) (hr:RMb ty Wg Fu w w₁):MainB P ty Wg Fu Next (woken P x x' w₁ a) w₁:=by
 cases h with
 | wr h=>rw [woken_run (z9w J.rbAt (fun _ _ h=>h.1) h)];exact .wr (Goes.rely (R:=RMb ty Wg Fu) RMb.tr h hr)
 | w3 h=>rw [woken_run (z9w J.rbAt (fun _ _ h=>h.1) h)];exact .w3 (Goes.rely (R:=RMb ty Wg Fu) RMb.tr h hr)
 | bl h=>
  have hw:=h w (RMb.refl w)
  unfold woken
  split
  ·rw [ConcX.again_blocked hw.1 hw.2.1]
   exact .w3 (n:=0) fun w₂ h₂=>h w₂ (hr.trans h₂)
  ·exact .bl fun w₂ h₂=>h w₂ (hr.trans h₂)

theorem Jn.allB {b:Goroutine} (hb:b.status=.running) {Cd:World→Prop} (hCd:∀w d,Cd w→Cd (w.at d)) (hst:∀w,Cd w→∃st,WgAt ty Wg w st 0) {d1:Nat} {rel:Bool} {M:Nat}
  (hC:∀M',M'≤M→∀a w t,MainB P ty Wg Fu Next a w→Cd w→Tw Shun Wg c 1 d1 rel w t→∃b' w' es,stepG P false b w=.go b' w' es∧z2b P Post c M' (woken P b b' w' a) b' w' (t++MemOp.ofEvents c b.frame.fn b.frame.place es)):
  ∀M',M'≤M→∀a w t,MainB P ty Wg Fu Next a w→Cd w→Tw Shun Wg c 1 d1 rel w t→z2b P Post c M' a b w t:=by
 have hbl:∀M',M'≤M→∀g w t,(∀w₁,RMb ty Wg Fu w w₁→MW3 P ty Wg Fu Next g w₁)→Cd w→Tw Shun Wg c 1 d1 rel w t→z2b P Post c M' g b w t∧z2b P Post c M' {g with status:=.blocked} b w t:=by
  intro M'
  induction M' using Nat.strongRecOn with
  | _ M' ih=>
   intro hM g w t hg hc ht
   have hg0:=hg w (RMb.refl w)
   have second:∀d,z2b P Post c M' {g with status:=.blocked} b (w.at d) t:=by
    intro d0
    have hg':∀w₁,RMb ty Wg Fu (w.at d0) w₁→MW3 P ty Wg Fu Next g w₁:=fun w₁ h₁=>hg w₁ ((J.rbAt w d0).trans h₁)
    refine z2b.pick (.inr rfl) hb (fun h=>by cases h) (fun d=>?_) fun M2 hM2 x fn pos es y y' d hx hxc hm=>?_
    ·exact hC M' hM _ (w.at d) t (.bl fun w₁ h₁=>hg w₁ ((J.rbAt w d).trans h₁)) (hCd w d hc) ht
    ·have hrel:∀w₁,RMb ty Wg Fu (w.at d) w₁→MW3 P ty Wg Fu Next g w₁:=fun w₁ h₁=>hg w₁ ((J.rbAt w d).trans h₁)
     have:=ih M2 hM2 (by omega) g (w.at d) _ hrel (hCd w d hc) (Tw.mute w d t x fn pos es ht hx hxc hm)
     unfold woken
     split
     ·rw [ConcX.again_blocked hg0.1 hg0.2.1];exact this.1
     ·exact this.2
   refine ⟨z2b.pick (.inl hg0.1) hb (fun _ d=>?_) (fun d=>?_) fun M2 hM2 x fn pos es y y' d hx hxc hm=>?_,by have:=second w.drawn;rwa [zb2] at this⟩
   ·refine ⟨_,_,_,(hg _ (J.rbAt w d)).2.2.1 (hst _ (hCd w d hc)),?_⟩
    rw [ofEvents_none,Array.append_empty]
    exact second d
   ·exact hC M' hM _ (w.at d) t (.w3 (n:=0) fun w₁ h₁=>hg w₁ ((J.rbAt w d).trans h₁)) (hCd w d hc) ht
   ·rw [woken_run hg0.1]
    exact (ih M2 hM2 (by omega) g (w.at d) _ (fun w₁ h₁=>hg w₁ ((J.rbAt w d).trans h₁)) (hCd w d hc) (Tw.mute w d t x fn pos es ht hx hxc hm)).1
 have mute:∀(w:World) (d:Nat) (t:Trace) (g:Nat) (fn:FuncId) (pos:String) (es:Array Event),(Cd w∧Tw Shun Wg c 1 d1 rel w t)→g≠0→g≠c→(∀e ∈ es,Event.mute e=true)→Cd (w.at d)∧Tw Shun Wg c 1 d1 rel (w.at d) (t++MemOp.ofEvents g fn pos es):=
  fun w d t g fn pos es h hg hgc hm=>⟨hCd w d h.1,Tw.mute w d t g fn pos es h.2 hg hgc hm⟩
 have draw:∀(w:World) (d:Nat) (t:Trace),(Cd w∧Tw Shun Wg c 1 d1 rel w t)→Cd (w.at d)∧Tw Shun Wg c 1 d1 rel (w.at d) t:=fun w d t h=>⟨hCd w d h.1,h.2⟩
 have hw3:∀M',M'≤M→∀n a w t,Goes P true (RMb ty Wg Fu) DC0 (MW3 P ty Wg Fu Next) n a w→Cd w→Tw Shun Wg c 1 d1 rel w t→z2b P Post c M' a b w t:=fun M' hM n a w t h1 h2 h3=>
  zhd J.rbAt RMb.tr (fun _ _ h=>h.1) hb (Cd:=Cd) (T:=fun w t=>Cd w∧Tw Shun Wg c 1 d1 rel w t) hCd mute draw (fun M' hM a w t h1 h2 h3=>(hbl M' hM a w t h1 h2 h3.2).1)
   (fun M' hM a w t ⟨n,hn⟩ h2 h3=>by
    have:=hC M' hM a w t (.w3 hn) h2 h3.2
    obtain ⟨b',w',es,e1,e2⟩:=this
    exact ⟨b',w',es,e1,by rw [woken_run (z9w J.rbAt (fun _ _ h=>h.1) hn)] at e2;exact e2⟩) M' hM n a w t h1 h2 ⟨h2,h3⟩
 have hwr:∀M',M'≤M→∀n a w t,Goes P true (RMb ty Wg Fu) DC0 (MWr P ty Wg Fu Next) n a w→Cd w→Tw Shun Wg c 1 d1 rel w t→z2b P Post c M' a b w t:=fun M' hM n a w t h1 h2 h3=>by
  have hchild:∀M',M'≤M→∀a w t,(∃n,Goes P true (RMb ty Wg Fu) DC0 (MWr P ty Wg Fu Next) n a w)→Cd w→(Cd w∧Tw Shun Wg c 1 d1 rel w t)→∃b' w' es,stepG P false b w=.go b' w' es∧z2b P Post c M' a b' w' (t++MemOp.ofEvents c b.frame.fn b.frame.place es):=
   fun M' hM a w t ⟨n,hn⟩ h2 h3=>by
    have:=hC M' hM a w t (.wr hn) h2 h3.2
    obtain ⟨b',w',es,e1,e2⟩:=this
    exact ⟨b',w',es,e1,by rw [woken_run (z9w J.rbAt (fun _ _ h=>h.1) hn)] at e2;exact e2⟩
  refine zhd J.rbAt RMb.tr (fun _ _ h=>h.1) hb (Cd:=Cd) (T:=fun w t=>Cd w∧Tw Shun Wg c 1 d1 rel w t) hCd mute draw
   (vis1 J.rbAt RMb.tr (fun _ _ h=>h.1) hb hCd mute draw (fun M' hM a w t h1 h2 h3=>?_) hchild) hchild M' hM n a w t h1 h2 ⟨h2,h3⟩
  obtain ⟨_,g',hgo,m,hg⟩:=h1
  obtain ⟨st,hs⟩:=hst w h2
  refine ⟨g',w,_,hgo,hw3 M' hM m g' w _ hg h2 ?_⟩
  exact h3.2.ev0 (es:=#[ConcX.mk (.write (smA Wg))]) J.c0 hs.lt (fun e he=>by simp at he;exact .inr (.inr (.inr he)))
 intro M' hM a w t h1 h2 h3
 cases h1 with
 | wr h=>exact hwr M' hM _ a w t h h2 h3
 | w3 h=>exact hw3 M' hM _ a w t h h2 h3
 | bl h=>exact (hbl M' hM _ w t h h2 h3).2

theorem Jn.allA {b:Goroutine} (hb:b.status=.running) {Cd:World→Prop} (hCd:∀w d,Cd w→Cd (w.at d)) (hcas:∀w,WgAt ty Wg w KK 0→Cd w→Cd (w.setCell (stA Wg) (.int .u64 (KK+1)))) {d1:Nat} {rel:Bool} {M:Nat}
  (hB:∀M',M'≤M→∀a w t,MainB P ty Wg Fu Next a w→WgAt ty Wg w (KK+1) 0∧Cd w→Tw Shun Wg c 1 d1 rel w t→z2b P Post c M' a b w t)
  (hC:∀M',M'≤M→∀d0 a w t,MainA P ty Wg Fu Next Anch d0 a w→WgAt ty Wg w KK 0∧Cd w→Tw Shun Wg c d0 d1 rel w t→∃b' w' es,stepG P false b w=.go b' w' es∧z2b P Post c M' a b' w' (t++MemOp.ofEvents c b.frame.fn b.frame.place es)):
  ∀M',M'≤M→∀d0 a w t,MainA P ty Wg Fu Next Anch d0 a w→WgAt ty Wg w KK 0∧Cd w→Tw Shun Wg c d0 d1 rel w t→z2b P Post c M' a b w t:=by
 have hCd':∀w d,(WgAt ty Wg w KK 0∧Cd w)→WgAt ty Wg (w.at d) KK 0∧Cd (w.at d):=fun w d h=>⟨h.1,hCd w d h.2⟩
 have mute:∀(d0:Nat) (w:World) (d:Nat) (t:Trace) (g:Nat) (fn:FuncId) (pos:String) (es:Array Event),((WgAt ty Wg w KK 0∧Cd w)∧Tw Shun Wg c d0 d1 rel w t)→g≠0→g≠c→(∀e ∈ es,Event.mute e=true)→(WgAt ty Wg (w.at d) KK 0∧Cd (w.at d))∧Tw Shun Wg c d0 d1 rel (w.at d) (t++MemOp.ofEvents g fn pos es):=
  fun d0 w d t g fn pos es h hg hgc hm=>⟨hCd' w d h.1,Tw.mute w d t g fn pos es h.2 hg hgc hm⟩
 have draw:∀(d0:Nat) (w:World) (d:Nat) (t:Trace),((WgAt ty Wg w KK 0∧Cd w)∧Tw Shun Wg c d0 d1 rel w t)→(WgAt ty Wg (w.at d) KK 0∧Cd (w.at d))∧Tw Shun Wg c d0 d1 rel (w.at d) t:=fun d0 w d t h=>⟨hCd' w d h.1,h.2⟩
 have w2:∀M',M'≤M→∀n a w t,Goes P true (RMa ty Wg Fu) DC0 (MW2 P ty Wg Fu Next Anch) n a w→WgAt ty Wg w KK 0∧Cd w→Tw Shun Wg c 1 d1 rel w t→z2b P Post c M' a b w t:=fun M' hM n a w t h1 h2 h3=>by
  have hchild:∀M',M'≤M→∀a w t,(∃n,Goes P true (RMa ty Wg Fu) DC0 (MW2 P ty Wg Fu Next Anch) n a w)→WgAt ty Wg w KK 0∧Cd w→((WgAt ty Wg w KK 0∧Cd w)∧Tw Shun Wg c 1 d1 rel w t)→∃b' w' es,stepG P false b w=.go b' w' es∧z2b P Post c M' a b' w' (t++MemOp.ofEvents c b.frame.fn b.frame.place es):=
   fun M' hM a w t ⟨n,hn⟩ h2 h3=>hC M' hM 1 a w t (.w2 hn) h2 h3.2
  refine zhd J.raAt RMa.tr (fun _ _ h=>h.1) hb (Cd:=fun w=>WgAt ty Wg w KK 0∧Cd w) (T:=fun w t=>(WgAt ty Wg w KK 0∧Cd w)∧Tw Shun Wg c 1 d1 rel w t) hCd' (mute 1) (draw 1)
   (vis1 J.raAt RMa.tr (fun _ _ h=>h.1) hb hCd' (mute 1) (draw 1) (fun M' hM a w t h1 h2 h3=>?_) hchild) hchild M' hM n a w t h1 h2 ⟨h2,h3⟩
  obtain ⟨_,hk,_⟩:=h1
  obtain ⟨g',hgo,m,hg⟩:=hk h2.1
  refine ⟨g',_,_,hgo,hB M' hM g' _ _ (.wr hg) ⟨h2.1.setSt _,hcas w h2.1 h2.2⟩ ?_⟩
  have:=h3.2.ev0 (es:=#[rd (stA Wg),wr (stA Wg)]) (fn:=a.frame.fn) (pos:=a.frame.place) J.c0 h2.1.lt (fun e he=>by simp at he;rcases he with rfl | rfl<;>exact .inl ⟨_,_,rfl,rfl⟩)
  unfold Tw
  rw [World.size_setCell]
  exact this
 have w1:∀M',M'≤M→∀n a w t,Goes P true (RMa ty Wg Fu) DC0 (MW1 P ty Wg Fu Next Anch) n a w→WgAt ty Wg w KK 0∧Cd w→Tw Shun Wg c 1 d1 rel w t→z2b P Post c M' a b w t:=fun M' hM n a w t h1 h2 h3=>by
  have hchild:∀M',M'≤M→∀a w t,(∃n,Goes P true (RMa ty Wg Fu) DC0 (MW1 P ty Wg Fu Next Anch) n a w)→WgAt ty Wg w KK 0∧Cd w→((WgAt ty Wg w KK 0∧Cd w)∧Tw Shun Wg c 1 d1 rel w t)→∃b' w' es,stepG P false b w=.go b' w' es∧z2b P Post c M' a b' w' (t++MemOp.ofEvents c b.frame.fn b.frame.place es):=
   fun M' hM a w t ⟨n,hn⟩ h2 h3=>hC M' hM 1 a w t (.w1 hn) h2 h3.2
  refine zhd J.raAt RMa.tr (fun _ _ h=>h.1) hb (Cd:=fun w=>WgAt ty Wg w KK 0∧Cd w) (T:=fun w t=>(WgAt ty Wg w KK 0∧Cd w)∧Tw Shun Wg c 1 d1 rel w t) hCd' (mute 1) (draw 1)
   (vis1 J.raAt RMa.tr (fun _ _ h=>h.1) hb hCd' (mute 1) (draw 1) (fun M' hM a w t h1 h2 h3=>?_) hchild) hchild M' hM n a w t h1 h2 ⟨h2,h3⟩
  obtain ⟨_,g',hgo,hk,_⟩:=h1
  obtain ⟨m,hg⟩:=hk h2.1
  refine ⟨g',_,_,hgo,w2 M' hM m g' _ _ hg h2 ?_⟩
  exact h3.2.ev0 (es:=#[rd (stA Wg)]) J.c0 h2.1.lt (fun e he=>by simp at he;exact .inl ⟨_,_,he,rfl⟩)
 have an:∀M',M'≤M→∀n a w t,Goes P true (RMa ty Wg Fu) DC0 Anch n a w→WgAt ty Wg w KK 0∧Cd w→Tw Shun Wg c 1 d1 rel w t→z2b P Post c M' a b w t:=fun M' hM n a w t h1 h2 h3=>by
  have hchild:∀M',M'≤M→∀a w t,(∃n,Goes P true (RMa ty Wg Fu) DC0 Anch n a w)→WgAt ty Wg w KK 0∧Cd w→((WgAt ty Wg w KK 0∧Cd w)∧Tw Shun Wg c 1 d1 rel w t)→∃b' w' es,stepG P false b w=.go b' w' es∧z2b P Post c M' a b' w' (t++MemOp.ofEvents c b.frame.fn b.frame.place es):=
   fun M' hM a w t ⟨n,hn⟩ h2 h3=>hC M' hM 1 a w t (.an hn) h2 h3.2
  refine zhd J.raAt RMa.tr J.anr hb (Cd:=fun w=>WgAt ty Wg w KK 0∧Cd w) (T:=fun w t=>(WgAt ty Wg w KK 0∧Cd w)∧Tw Shun Wg c 1 d1 rel w t) hCd' (mute 1) (draw 1)
   (fun M' hM a w t h1 h2 h3=>?_) hchild M' hM n a w t h1 h2 ⟨h2,h3⟩
  obtain ⟨m,hg⟩:=J.an a w (h1 w (RMa.refl w))
  exact w1 M' hM m a w t hg h2 h3.2
 have kd:∀M',M'≤M→∀n a w t,Goes P true (RMa ty Wg Fu) DC0 (MKd P ty Wg Fu Anch) n a w→WgAt ty Wg w KK 0∧Cd w→Tw Shun Wg c 0 d1 rel w t→z2b P Post c M' a b w t:=fun M' hM n a w t h1 h2 h3=>by
  have hchild:∀M',M'≤M→∀a w t,(∃n,Goes P true (RMa ty Wg Fu) DC0 (MKd P ty Wg Fu Anch) n a w)→WgAt ty Wg w KK 0∧Cd w→((WgAt ty Wg w KK 0∧Cd w)∧Tw Shun Wg c 0 d1 rel w t)→∃b' w' es,stepG P false b w=.go b' w' es∧z2b P Post c M' a b' w' (t++MemOp.ofEvents c b.frame.fn b.frame.place es):=
   fun M' hM a w t ⟨n,hn⟩ h2 h3=>hC M' hM 0 a w t (.kd hn) h2 h3.2
  refine zhd J.raAt RMa.tr (fun _ _ h=>h.1) hb (Cd:=fun w=>WgAt ty Wg w KK 0∧Cd w) (T:=fun w t=>(WgAt ty Wg w KK 0∧Cd w)∧Tw Shun Wg c 0 d1 rel w t) hCd' (mute 0) (draw 0)
   (vis1 J.raAt RMa.tr (fun _ _ h=>h.1) hb hCd' (mute 0) (draw 0) (fun M' hM a w t h1 h2 h3=>?_) hchild) hchild M' hM n a w t h1 h2 ⟨h2,h3⟩
  obtain ⟨_,g',hgo,m,hg⟩:=h1
  refine ⟨g',_,_,hgo,an M' hM m g' _ _ hg h2 ?_⟩
  exact h3.2.ev0 (es:=#[ConcX.mk .disable]) J.c0 h2.1.lt (fun e he=>by simp at he;exact .inr (.inl he))
 intro M' hM d0 a w t h1 h2 h3
 cases h1 with
 | kd h=>exact kd M' hM _ a w t h h2 h3
 | an h=>exact an M' hM _ a w t h h2 h3
 | w1 h=>exact w1 M' hM _ a w t h h2 h3
 | w2 h=>exact w2 M' hM _ a w t h h2 h3
end
end Go.Proofs.YthheoefadijhdaaGreat.Ai
set_option linter.unusedVariables false
set_option linter.unusedSectionVars false
namespace Go.Proofs.YthheoefadijhdaaGreat.Ai
open Go Go.RowKit Go.Conc
open Go.ConcX (stA smA OfWg g_of_ofEvents KK WgAt DC0 rd wr AtK1 AtD1 AtD2 AtD3 AtD4 RCa RCd KCa)
open Go.ConcN (sumTo upd sumTo_upd upd_ne upd_same)

section
variable (P:Program) (Post:Value→World→Prop) (ty:TypeId) (Wg c:Nat) (Fu:World→Prop) (Shun:Loc→Prop) (Next Anch:Goroutine→World→Prop)
structure Both (b:Goroutine) (Cd:World→Prop) (d1:Nat) (rel:Bool):Prop where
 A:∀M d0 a w t,MainA P ty Wg Fu Next Anch d0 a w→WgAt ty Wg w KK 0∧Cd w→Tw Shun Wg c d0 d1 rel w t→z2b P Post c M a b w t
 B:∀M a w t,MainB P ty Wg Fu Next a w→WgAt ty Wg w (KK+1) 0∧Cd w→Tw Shun Wg c 1 d1 rel w t→z2b P Post c M a b w t
def DB (b:Goroutine) (Cd:World→Prop):Prop:=∀M a w t,MainB P ty Wg Fu Next a w→Cd w→Tw Shun Wg c 1 1 true w t→z2b P Post c M a b w t
end

section
variable {P:Program} {Post:Value→World→Prop} {ty:TypeId} {Wg c:Nat} {Fu:World→Prop} {Shun:Loc→Prop} {Next Anch:Goroutine→World→Prop}

theorem Both.imp {b:Goroutine} {Cd Cd':World→Prop} {d1:Nat} {rel:Bool} (h:Both P Post ty Wg c Fu Shun Next Anch b Cd d1 rel) (k:∀w,Cd' w→Cd w):Both P Post ty Wg c Fu Shun Next Anch b Cd' d1 rel:=
 ⟨fun M d0 a w t h1 h2 h3=>h.A M d0 a w t h1 ⟨h2.1,k w h2.2⟩ h3,fun M a w t h1 h2 h3=>h.B M a w t h1 ⟨h2.1,k w h2.2⟩ h3⟩
theorem Both.or {b:Goroutine} {Cd Cd':World→Prop} {d1:Nat} {rel:Bool} (h:Both P Post ty Wg c Fu Shun Next Anch b Cd d1 rel) (k:Both P Post ty Wg c Fu Shun Next Anch b Cd' d1 rel):Both P Post ty Wg c Fu Shun Next Anch b (fun w=>Cd w∨Cd' w) d1 rel:=
 ⟨fun M d0 a w t h1 h2 h3=>h2.2.elim (fun x=>h.A M d0 a w t h1 ⟨h2.1,x⟩ h3) fun x=>k.A M d0 a w t h1 ⟨h2.1,x⟩ h3,fun M a w t h1 h2 h3=>h2.2.elim (fun x=>h.B M a w t h1 ⟨h2.1,x⟩ h3) fun x=>k.B M a w t h1 ⟨h2.1,x⟩ h3⟩
theorem Both.none {b:Goroutine} {Cd:World→Prop} {d1:Nat} {rel:Bool} (h:∀w,¬Cd w):Both P Post ty Wg c Fu Shun Next Anch b Cd d1 rel:=⟨fun _ _ _ w _ _ h2=>absurd h2.2 (h w),fun _ _ w _ _ h2=>absurd h2.2 (h w)⟩

theorem wgEv {d:Nat} (hd:0<d) {es:Array Event} (h:∀e ∈ es,∃ad wr,e=⟨.cell ad,wr,true⟩∧ad.block=Wg):deafBehind d es=d∧
  ∀j e,es[j]? =some e→((MemAct.ofEvent e).touch? =none∧(MemAct.ofEvent e).low (0:Nat)∧∀a,MemAct.ofEvent e≠.mark (.release a))∨((∃ad wr,e=⟨.cell ad,wr,true⟩∧ad.block=Wg)∧0<deafBehind d (es.extract 0 j)):=by
 have hs:∀u:Array Event,(∀e ∈ u,∃ad wr,e=(⟨.cell ad,wr,true⟩:Event)∧ad.block=Wg)→deafBehind d u=d:=fun u hu=>deafBehind_still (fun e he=>by obtain ⟨ad,wr,rfl,_⟩:=hu e he;simp) d
 refine ⟨hs es h,fun j e hj=>.inr ⟨h e (Array.mem_of_getElem? hj),?_⟩⟩
 rw [hs (es.extract 0 j) fun e he=>h e (by obtain ⟨i,hi⟩:=Array.getElem?_of_mem he;rw [Array.getElem?_extract] at hi;split at hi<;>simp at hi;exact Array.mem_of_getElem? hi)]
 exact hd

theorem zvj {Low:Nat} {w:World} (h:WgAt ty Wg w KK 0):RCa ty Wg Low w (w.setCell (stA Wg) (.int .u64 (KK+1))):=
 ⟨fun b _ hne=>Below.heap_setCell _ _ _ _ hne,fun _=>.inr (h.setSt _)⟩

theorem kk0:(KK:Int)≠0:=by decide
theorem kk1:(KK+1:Int)≠0:=by decide
theorem RMa.child {w w':World} (h:KCa ty Wg w) (e:w'.heap[Wg]? =w.heap[Wg]?):RMa ty Wg Fu w w':=by
 refine ⟨fun k=>k.elim (fun k=>.inl (k.of_block e)) fun k=>?_,fun k=>?_⟩
 ·rcases h with h | h
  ·exact absurd (h.unique k.1).1 kk0
  ·exact absurd (h.unique k.1).1 kk1
 ·rcases h with h | h
  ·exact absurd (h.unique k.1).1 kk0
  ·exact absurd (h.unique k.1).1 kk1
theorem RMb.child {w w':World} (h:KCa ty Wg w) (e:w'.heap[Wg]? =w.heap[Wg]?):RMb ty Wg Fu w w':=by
 refine ⟨fun k=>?_,fun k=>?_⟩
 ·rcases k with k | k | k | k
  ·exact .inl (k.of_block e)
  ·exact .inr (.inl (k.of_block e))
  ·exact .inr (.inr (.inl (k.of_block e)))
  ·rcases h with h | h
   ·exact absurd (h.unique k.1).1 kk0
   ·exact absurd (h.unique k.1).1 kk1
 ·rcases h with h | h
  ·exact absurd (h.unique k.1).1 kk0
  ·exact absurd (h.unique k.1).1 kk1
theorem RMb.to {w w':World} {st st':Int} (h:WgAt ty Wg w st 0) (h':WgAt ty Wg w' st' 0) (hst:st'=1∨st'=0):RMb ty Wg Fu w w':=by
 refine ⟨fun _=>hst.elim (fun e=>.inr (.inl (e ▸ h'))) fun e=>.inr (.inr (.inl (e ▸ h'))),fun k=>?_⟩
 exact absurd (h.unique k.1).2 (by decide)
theorem RMb.fin {w w':World} (h:WgAt ty Wg w 0 0) (h':KF ty Wg Fu w'):RMb ty Wg Fu w w':=⟨fun _=>.inr (.inr (.inr h')),fun _=>h'⟩
theorem RMa.fin {w w':World} (h':KC ty Wg Fu w'):RMa ty Wg Fu w w':=⟨fun _=>.inr h',fun _=>h'⟩
end

section
variable {P:Program} {Post:Value→World→Prop} {ty:TypeId} {Wg c:Nat} {Fu:World→Prop} {Shun:Loc→Prop} {Next Anch:Goroutine→World→Prop} (J:Jn P Post ty Wg c Fu Shun Next Anch)
include J

theorem Jn.step {b:Goroutine} (hb:b.status=.running) {Cd:World→Prop} (hCd:∀w d,Cd w→Cd (w.at d)) (hcas:∀w,WgAt ty Wg w KK 0→Cd w→Cd (w.setCell (stA Wg) (.int .u64 (KK+1)))) {d1:Nat} {rel:Bool}
  (h:∀w,KCa ty Wg w→Cd w→∃b' w' es d1' rel' Cd',stepG P false b w=.go b' w' es∧w'.heap[Wg]? =w.heap[Wg]? ∧(∀d0 t,Tw Shun Wg c d0 d1 rel w t→Tw Shun Wg c d0 d1' rel' w' (t++MemOp.ofEvents c b.frame.fn b.frame.place es))∧Cd' w'∧Both P Post ty Wg c Fu Shun Next Anch b' Cd' d1' rel'):
  Both P Post ty Wg c Fu Shun Next Anch b Cd d1 rel:=by
 have B:∀M a w t,MainB P ty Wg Fu Next a w→WgAt ty Wg w (KK+1) 0∧Cd w→Tw Shun Wg c 1 d1 rel w t→z2b P Post c M a b w t:=fun M a w t h1 h2 h3=>
  J.allB hb (Cd:=fun w=>WgAt ty Wg w (KK+1) 0∧Cd w) (fun w d h=>⟨h.1,hCd w d h.2⟩) (fun w h=>⟨_,h.1⟩) (fun M' hM a w t h1 h2 h3=>by
   obtain ⟨b',w',es,d1',rel',Cd',hgo,he,ht,hc,hB⟩:=h w (.inr h2.1) h2.2
   exact ⟨b',w',es,hgo,hB.B M' _ w' _ (J.wokenB h1 (RMb.child (.inr h2.1) he)) ⟨h2.1.of_block he,hc⟩ (ht 1 t h3)⟩) M (Nat.le_refl M) a w t h1 h2 h3
 refine ⟨fun M d0 a w t h1 h2 h3=>?_,B⟩
 refine J.allA hb hCd hcas (M:=M) (fun M' _=>B M') (fun M' hM d0 a w t h1 h2 h3=>?_) M (Nat.le_refl M) d0 a w t h1 h2 h3
 obtain ⟨b',w',es,d1',rel',Cd',hgo,he,ht,hc,hB⟩:=h w (.inl h2.1) h2.2
 exact ⟨b',w',es,hgo,hB.A M' d0 a w' _ (h1.rely (RMa.child (.inl h2.1) he)) ⟨h2.1.of_block he,hc⟩ (ht d0 t h3)⟩

theorem Jn.dStep {b:Goroutine} (hb:b.status=.running) {Cd:World→Prop} (hCd:∀w d,Cd w→Cd (w.at d)) (hst:∀w,Cd w→∃st,WgAt ty Wg w st 0)
  (h:∀w,Cd w→∃b' w' es Cd',stepG P false b w=.go b' w' es∧RMb ty Wg Fu w w'∧(∀t,Tw Shun Wg c 1 1 true w t→Tw Shun Wg c 1 1 true w' (t++MemOp.ofEvents c b.frame.fn b.frame.place es))∧Cd' w'∧DB P Post ty Wg c Fu Shun Next b' Cd'):DB P Post ty Wg c Fu Shun Next b Cd:=fun M a w t h1 h2 h3=>
 J.allB hb (Cd:=Cd) hCd hst (fun M' hM a w t h1 h2 h3=>by
  obtain ⟨b',w',es,Cd',hgo,hr,ht,hc,hB⟩:=h w h2
  exact ⟨b',w',es,hgo,hB M' _ w' _ (J.wokenB h1 hr) hc (ht t h3)⟩) M (Nat.le_refl M) a w t h1 h2 h3

theorem Jn.bookWg {w w':World} (hW:Wg<w.heap.size) (hsz:w'.heap.size=w.heap.size) {d0:Nat} {t:Trace} (ht:Tw Shun Wg c d0 1 true w t) (fn:FuncId) (pos:String) {es:Array Event} (h:∀e ∈ es,∃ad wr,e=(⟨.cell ad,wr,true⟩:Event)∧ad.block=Wg):
  Tw Shun Wg c d0 1 true w' (t++MemOp.ofEvents c fn pos es):=by
 have:=Tj.book ht J.c0 hW fn pos (es:=es) fun j e hj=>((wgEv (Wg:=Wg) (Nat.succ_pos 0) h).2 j e hj).imp (fun x=>⟨x.1,MemAct.low_mono (Nat.zero_le _) x.2.1,x.2.2⟩) id
 rw [(wgEv (Wg:=Wg) (Nat.succ_pos 0) h).1] at this
 unfold Tw
 rw [hsz]
 exact this

theorem Jn.d4 {Low:Nat} {b:Goroutine}:DB P Post ty Wg c Fu Shun Next b fun w=>(WgAt ty Wg w 0 0∧Fu w)∧∀w₁,RCd Low w w₁→AtD4 P Wg b w₁:=by
 by_cases hb:¬b.status=.running
 ·exact fun M a w t h1 h2 h3=>absurd (h2.2 w fun _ _=>rfl).1 hb
 replace hb:=Classical.not_not.1 hb
 refine fun M a w t h1 h2 h3=>J.allB hb (Cd:=fun w=>(WgAt ty Wg w 0 0∧Fu w)∧∀w₁,RCd Low w w₁→AtD4 P Wg b w₁) (fun w d h=>⟨⟨h.1.1,J.at d h.1.2⟩,fun w₁ h₁=>h.2 w₁ fun k hk=>h₁ k hk⟩) (fun w h=>⟨0,h.1.1⟩) (fun M' hM a w t h1 h2 h3=>?_) M (Nat.le_refl M) a w t h1 h2 h3
 obtain ⟨_,hmay,g',hgo,q,hq⟩:=h2.2 w fun _ _=>rfl
 refine ⟨g',_,_,hgo,?_⟩
 have hKF:KF ty Wg Fu (w.setCell (smA Wg) (.int .u32 1)):=⟨h2.1.1.setSm 1,J.cell _ _ rfl h2.1.2⟩
 have hr:RMb ty Wg Fu w (w.setCell (smA Wg) (.int .u32 1)):=RMb.fin h2.1.1 hKF
 have ht:Tw Shun Wg c 1 1 true (w.setCell (smA Wg) (.int .u32 1)) (t++MemOp.ofEvents c b.frame.fn b.frame.place (Conc.semEvents (smA Wg))):=by
  have hb:=Tj.book h3 J.c0 h2.1.1.lt b.frame.fn b.frame.place (es:=Conc.semEvents (smA Wg)) (fun j e hj=>by
   have hj':j=0∨j=1∨j=2∨j=3:=by
    have:=(Array.getElem?_eq_some_iff.1 hj).1
    simp [Conc.semEvents] at this
    omega
   rcases hj' with rfl | rfl | rfl | rfl<;>simp [Conc.semEvents] at hj<;>subst hj
   ·exact .inl ⟨rfl,trivial,fun a h=>by cases h⟩
   ·exact .inr ⟨⟨_,_,rfl,rfl⟩,by simp [Conc.semEvents,deafBehind]⟩
   ·exact .inr ⟨⟨_,_,rfl,rfl⟩,by simp [Conc.semEvents,deafBehind]⟩
   ·exact .inl ⟨rfl,trivial,fun a h=>by cases h⟩)
  have e:deafBehind 1 (Conc.semEvents (smA Wg))=1:=by simp [Conc.semEvents,deafBehind]
  rw [e] at hb
  unfold Tw
  rw [World.size_setCell]
  exact hb
 have hns:∀x,(x=GoStatus.blocked∨x=GoStatus.waiting)→g'.status≠x:=by
  intro x hx
  rcases hq.status with e | e<;>rw [e]<;>rcases hx with rfl | rfl<;>decide
 refine z2b.quits (k:=q) (by rw [ht.hc];exact hq) ?_
 cases h1 with
 | wr h=>rw [woken_run (z9w J.rbAt (fun _ _ h=>h.1) h)];exact J.wrf _ _ _ _ _ (Goes.rely (R:=RMb ty Wg Fu) RMb.tr h hr) hKF ⟨1,ht⟩
 | w3 h=>rw [woken_run (z9w J.rbAt (fun _ _ h=>h.1) h)];exact J.w3f _ _ _ _ _ (Goes.rely (R:=RMb ty Wg Fu) RMb.tr h hr) hKF ⟨1,ht⟩
 | bl h=>
  have hw:=h w (RMb.refl w)
  unfold woken
  rw [if_pos (by simp [hmay,hns .blocked (.inl rfl),hns .waiting (.inr rfl)]),ConcX.again_blocked hw.1 hw.2.1]
  exact J.w3f _ 0 _ _ _ (fun w₂ h₂=>h w₂ (hr.trans h₂)) hKF ⟨1,ht⟩

theorem Jn.dGoes {Low:Nat} {Stop:Goroutine→World→Prop} {st:Int} (hS:∀b,DB P Post ty Wg c Fu Shun Next b fun w=>(WgAt ty Wg w st 0∧Fu w)∧∀w₁,RCd Low w w₁→Stop b w₁):
  ∀m b,DB P Post ty Wg c Fu Shun Next b fun w=>(WgAt ty Wg w st 0∧Fu w)∧Goes P false (RCd Low) DC0 Stop m b w:=by
 intro m
 induction m with
 | zero=>exact hS
 | succ m ih=>
  intro b
  by_cases hb:¬b.status=.running
  ·exact fun M a w t h1 h2 h3=>h2.2.elim (fun h=>hS b M a w t h1 ⟨h2.1,h⟩ h3) fun h=>absurd h.1 hb
  replace hb:=Classical.not_not.1 hb
  have key:DB P Post ty Wg c Fu Shun Next b fun w=>(WgAt ty Wg w st 0∧Fu w)∧∀w₁,RCd Low w w₁→(stepG P false b w₁).goes fun g' w' es=>DC0 w₁ w' es∧Goes P false (RCd Low) DC0 Stop m g' w':=by
   refine J.dStep hb (fun w d h=>⟨⟨h.1.1,J.at d h.1.2⟩,fun w₁ h₁=>h.2 w₁ fun k hk=>h₁ k hk⟩) (fun w h=>⟨_,h.1.1⟩) fun w h=>?_
   have hs:=h.2 w fun _ _=>rfl
   cases hgo:stepG P false b w with
   | go b' w' es=>
    rw [hgo,goes_go] at hs
    obtain ⟨⟨rfl,rfl⟩,hG'⟩:=hs
    exact ⟨b',_,_,_,rfl,RMb.refl _,fun t ht=>by rw [ofEvents_none,Array.append_empty];exact ht,⟨h.1,hG'⟩,ih b'⟩
   | _=>rw [hgo] at hs;exact hs.elim
  exact fun M a w t h1 h2 h3=>h2.2.elim (fun h=>hS b M a w t h1 ⟨h2.1,h⟩ h3) fun h=>key M a w t h1 ⟨h2.1,h.2⟩ h3

theorem Jn.d3 {Low:Nat} {b:Goroutine}:DB P Post ty Wg c Fu Shun Next b fun w=>(WgAt ty Wg w 1 0∧Fu w)∧∀w₁,RCd Low w w₁→AtD3 P Wg Low b w₁:=by
 by_cases hb:¬b.status=.running
 ·exact fun M a w t h1 h2 h3=>absurd (h2.2 w fun _ _=>rfl).1 hb
 replace hb:=Classical.not_not.1 hb
 refine J.dStep hb (fun w d h=>⟨⟨h.1.1,J.at d h.1.2⟩,fun w₁ h₁=>h.2 w₁ fun k hk=>h₁ k hk⟩) (fun w h=>⟨_,h.1.1⟩) fun w h=>?_
 obtain ⟨_,g',hgo,m,hg⟩:=h.2 w fun _ _=>rfl
 exact ⟨g',_,_,_,hgo,RMb.to h.1.1 (h.1.1.setSt 0) (.inr rfl),fun t ht=>J.bookWg h.1.1.lt (World.size_setCell _ _ _) ht _ _ (fun e he=>by simp at he;exact ⟨_,_,he,rfl⟩),⟨⟨h.1.1.setSt 0,J.cell _ _ rfl h.1.2⟩,hg⟩,J.dGoes (fun b=>J.d4) m g'⟩
theorem Jn.d2 {Low:Nat} {b:Goroutine}:DB P Post ty Wg c Fu Shun Next b fun w=>(WgAt ty Wg w 1 0∧Fu w)∧∀w₁,RCd Low w w₁→AtD2 P Wg Low b w₁:=by
 by_cases hb:¬b.status=.running
 ·exact fun M a w t h1 h2 h3=>absurd (h2.2 w fun _ _=>rfl).1 hb
 replace hb:=Classical.not_not.1 hb
 refine J.dStep hb (fun w d h=>⟨⟨h.1.1,J.at d h.1.2⟩,fun w₁ h₁=>h.2 w₁ fun k hk=>h₁ k hk⟩) (fun w h=>⟨_,h.1.1⟩) fun w h=>?_
 obtain ⟨_,g',hgo,m,hg⟩:=h.2 w fun _ _=>rfl
 exact ⟨g',_,_,_,hgo,RMb.refl w,fun t ht=>J.bookWg h.1.1.lt rfl ht _ _ (fun e he=>by simp at he;exact ⟨_,_,he,rfl⟩),⟨h.1,hg⟩,J.dGoes (fun b=>J.d3) m g'⟩

theorem Jn.d1 {Low:Nat} {b:Goroutine}:Both P Post ty Wg c Fu Shun Next Anch b (fun w=>Fu w∧∀w₁,RCa ty Wg Low w w₁→AtD1 P ty Wg Low b w₁) 1 true:=by
 by_cases hb:¬b.status=.running
 ·exact Both.none fun w h=>hb (h.2 w (ConcX.RCa.refl w)).1
 replace hb:=Classical.not_not.1 hb
 have hCd:∀w d,(Fu w∧∀w₁,RCa ty Wg Low w w₁→AtD1 P ty Wg Low b w₁)→Fu (w.at d)∧∀w₁,RCa ty Wg Low (w.at d) w₁→AtD1 P ty Wg Low b w₁:=fun w d h=>⟨J.at d h.1,fun w₁ h₁=>h.2 w₁ ((ConcX.RCa.at w d).trans h₁)⟩
 have B:∀M a w t,MainB P ty Wg Fu Next a w→WgAt ty Wg w (KK+1) 0∧(Fu w∧∀w₁,RCa ty Wg Low w w₁→AtD1 P ty Wg Low b w₁)→Tw Shun Wg c 1 1 true w t→z2b P Post c M a b w t:=fun M a w t h1 h2 h3=>
  J.allB hb (Cd:=fun w=>WgAt ty Wg w (KK+1) 0∧(Fu w∧∀w₁,RCa ty Wg Low w w₁→AtD1 P ty Wg Low b w₁)) (fun w d h=>⟨h.1,hCd w d h.2⟩) (fun w h=>⟨_,h.1⟩) (fun M' hM a w t h1 h2 h3=>by
   obtain ⟨_,_,hk⟩:=h2.2.2 w (ConcX.RCa.refl w)
   obtain ⟨g',hgo,m,hg⟩:=hk h2.1
   have hr:RMb ty Wg Fu w (w.setCell (stA Wg) (.int .u64 1)):=RMb.to h2.1 (h2.1.setSt 1) (.inl rfl)
   exact ⟨g',_,_,hgo,J.dGoes (fun b=>J.d2) m g' M' _ _ _ (J.wokenB h1 hr) ⟨⟨h2.1.setSt 1,J.cell _ _ rfl h2.2.1⟩,hg⟩
    (J.bookWg h2.1.lt (World.size_setCell _ _ _) h3 _ _ (fun e he=>by simp at he;rcases he with rfl | rfl<;>exact ⟨_,_,rfl,rfl⟩))⟩) M (Nat.le_refl M) a w t h1 h2 h3
 refine ⟨fun M d0 a w t h1 h2 h3=>J.allA hb hCd (fun w hw h=>⟨J.cell _ _ rfl h.1,fun w₁ h₁=>h.2 w₁ ((zvj hw).trans h₁)⟩) (M:=M) (fun M' _=>B M') (fun M' hM d0 a w t h1 h2 h3=>?_) M (Nat.le_refl M) d0 a w t h1 h2 h3,B⟩
 obtain ⟨_,hk,_⟩:=h2.2.2 w (ConcX.RCa.refl w)
 obtain ⟨g',hgo,q,hq⟩:=hk h2.1
 have hKC:KC ty Wg Fu (w.setCell (stA Wg) (.int .u64 0)):=⟨h2.1.setSt 0,J.cell _ _ rfl h2.2.1⟩
 have ht:Tw Shun Wg c d0 1 true (w.setCell (stA Wg) (.int .u64 0)) (t++MemOp.ofEvents c b.frame.fn b.frame.place #[rd (stA Wg),wr (stA Wg)]):=
  J.bookWg h2.1.lt (World.size_setCell _ _ _) h3 _ _ (fun e he=>by simp at he;rcases he with rfl | rfl<;>exact ⟨_,_,rfl,rfl⟩)
 refine ⟨g',_,_,hgo,z2b.quits (k:=q) (by rw [ht.hc];exact hq) ?_⟩
 have h1':=h1.rely (RMa.fin (w:=w) hKC)
 cases h1' with
 | kd h=>exact J.kdc _ _ _ _ _ h hKC ⟨1,ht⟩
 | an h=>exact J.anc _ _ _ _ _ h hKC ⟨1,ht⟩
 | w1 h=>exact J.w1c _ _ _ _ _ h hKC ⟨1,ht⟩
 | w2 h=>exact J.w2c _ _ _ _ _ h hKC ⟨1,ht⟩

theorem Jn.cGoes {Low:Nat} {Stop:Goroutine→World→Prop} {d1:Nat} {rel:Bool} (hS:∀b,Both P Post ty Wg c Fu Shun Next Anch b (fun w=>Fu w∧∀w₁,RCa ty Wg Low w w₁→Stop b w₁) d1 rel):
  ∀m b,Both P Post ty Wg c Fu Shun Next Anch b (fun w=>Fu w∧Goes P false (RCa ty Wg Low) DC0 Stop m b w) d1 rel:=by
 intro m
 induction m with
 | zero=>exact hS
 | succ m ih=>
  intro b
  by_cases hb:¬b.status=.running
  ·exact (hS b).imp fun w h=>⟨h.1,h.2.elim id fun h=>absurd h.1 hb⟩
  replace hb:=Classical.not_not.1 hb
  have key:Both P Post ty Wg c Fu Shun Next Anch b (fun w=>Fu w∧∀w₁,RCa ty Wg Low w w₁→(stepG P false b w₁).goes fun g' w' es=>DC0 w₁ w' es∧Goes P false (RCa ty Wg Low) DC0 Stop m g' w') d1 rel:=by
   refine J.step hb (fun w d h=>⟨J.at d h.1,fun w₁ h₁=>h.2 w₁ ((ConcX.RCa.at w d).trans h₁)⟩) (fun w hw h=>⟨J.cell _ _ rfl h.1,fun w₁ h₁=>h.2 w₁ ((zvj hw).trans h₁)⟩) fun w hw h=>?_
   have hs:=h.2 w (ConcX.RCa.refl w)
   cases hgo:stepG P false b w with
   | go b' w' es=>
    rw [hgo,goes_go] at hs
    obtain ⟨⟨rfl,rfl⟩,hG'⟩:=hs
    exact ⟨b',_,_,d1,rel,_,rfl,rfl,fun d0 t ht=>by rw [ofEvents_none,Array.append_empty];exact ht,⟨h.1,hG'⟩,ih b'⟩
   | _=>rw [hgo] at hs;exact hs.elim
  exact ((hS b).or key).imp fun w h=>h.2.elim (fun k=>.inl ⟨h.1,k⟩) fun k=>.inr ⟨h.1,k.2⟩

theorem Jn.k1 {Low:Nat} {b:Goroutine}:Both P Post ty Wg c Fu Shun Next Anch b (fun w=>Fu w∧∀w₁,RCa ty Wg Low w w₁→AtK1 P ty Wg Low b w₁) 0 true:=by
 by_cases hb:¬b.status=.running
 ·exact Both.none fun w h=>hb (h.2 w (ConcX.RCa.refl w)).1
 replace hb:=Classical.not_not.1 hb
 refine J.step hb (fun w d h=>⟨J.at d h.1,fun w₁ h₁=>h.2 w₁ ((ConcX.RCa.at w d).trans h₁)⟩) (fun w hw h=>⟨J.cell _ _ rfl h.1,fun w₁ h₁=>h.2 w₁ ((zvj hw).trans h₁)⟩) fun w hw h=>?_
 obtain ⟨_,g',hgo,m,hg⟩:=h.2 w (ConcX.RCa.refl w)
 have hlt:Wg<w.heap.size:=hw.elim (·.lt) (·.lt)
 refine ⟨g',w,_,1,true,_,hgo,rfl,fun d0 t ht=>?_,⟨h.1,hg⟩,J.cGoes (fun b=>J.d1) m g'⟩
 have:=Tj.book ht J.c0 hlt b.frame.fn b.frame.place (es:=#[ConcX.mk .disable]) fun j e hj=>by
  have:j=0:=by have:=(Array.getElem?_eq_some_iff.1 hj).1;simp at this;exact this
  subst this;simp at hj;subst hj
  exact .inl ⟨rfl,trivial,fun a h=>by cases h⟩
 exact this

theorem Jn.r0 {Low:Nat} {b:Goroutine} {K:World→Prop} (hK:∀w d,K w→K (w.at d)) (hKc:∀w,WgAt ty Wg w KK 0→K w→K (w.setCell (stA Wg) (.int .u64 (KK+1))))
  (h:∀w,KCa ty Wg w→K w→b.status=.running∧Fu w∧∃g',stepG P false b w=.go g' w #[ConcX.mk (.releaseMerge (stA Wg))]∧∃m,Goes P false (RCa ty Wg Low) DC0 (AtK1 P ty Wg Low) m g' w):Both P Post ty Wg c Fu Shun Next Anch b K 0 false:=by
 by_cases hb:¬b.status=.running
 ·exact ⟨fun _ _ _ w _ _ h2=>absurd (h w (.inl h2.1) h2.2).1 hb,fun _ _ w _ _ h2=>absurd (h w (.inr h2.1) h2.2).1 hb⟩
 replace hb:=Classical.not_not.1 hb
 refine J.step hb hK hKc fun w hw hk=>?_
 obtain ⟨_,hfu,g',hgo,m,hg⟩:=h w hw hk
 have hlt:Wg<w.heap.size:=hw.elim (·.lt) (·.lt)
 exact ⟨g',w,_,0,true,_,hgo,rfl,fun d0 t ht=>Tj.release ht J.c0 hlt _ _,⟨hfu,hg⟩,J.cGoes (fun b=>J.k1) m g'⟩
end
end Go.Proofs.YthheoefadijhdaaGreat.Ai
set_option linter.unusedVariables false
set_option linter.unusedSectionVars false
namespace Go.Proofs.YthheoefadijhdaaGreat.Ai
open Go Go.RowKit Go.Conc
open Go.ConcX (stA smA OfWg g_of_ofEvents KK WgAt DC0 rd wr AtK1 AtD1 AtD2 AtD3 AtD4 RCa RCd KCa)

structure RC (ty:TypeId) (Wg:Nat) (w w₁:World):Prop where
 tape:w₁.tape=w.tape
 os:w₁.os=w.os
 output:w₁.output=w.output
 size:w₁.heap.size=w.heap.size
 block:∀k,k≠Wg→w₁.heap[k]? =w.heap[k]?
theorem RC.refl (ty:TypeId) (Wg:Nat) (w:World):RC ty Wg w w:=⟨rfl,rfl,rfl,rfl,fun _ _=>rfl⟩
theorem RC.trans {ty:TypeId} {Wg:Nat} {a b c:World} (h:RC ty Wg a b) (k:RC ty Wg b c):RC ty Wg a c:=
 ⟨k.tape.trans h.tape,k.os.trans h.os,k.output.trans h.output,k.size.trans h.size,fun x hx=>(k.block x hx).trans (h.block x hx)⟩
theorem RC.at (ty:TypeId) (Wg:Nat) (w:World) (d:Nat):RC ty Wg w (w.at d):=⟨rfl,rfl,rfl,rfl,fun _ _=>rfl⟩
theorem RC.cell (ty:TypeId) (Wg:Nat) (w:World) (a:Addr) (ha:a.block=Wg) (v:Value):RC ty Wg w (w.setCell a v):=⟨rfl,rfl,rfl,World.size_setCell _ _ _,fun k hk=>Below.heap_setCell _ _ _ _ (by rw [ha];exact hk)⟩
theorem RC.hr {ty:TypeId} {Wg:Nat} {Z:Zone} {ρ:Ren} {H:zn} {w w₁:World} (h:RC ty Wg w w₁) (hz:¬Z.rd Wg) (k:HR Z ρ H w):HR Z ρ H w₁:=by
 refine ⟨k.len,fun c hc=>k.fresh c (by rw [←h.size];exact hc),fun b blk hb c base sz hr=>?_,k.sep⟩
 obtain ⟨arr,e,fz,h1,h2,h3,h4,h5⟩:=k.live b blk hb c base sz hr
 exact ⟨arr,e,fz,by rw [h.block c (fun e=>hz (e ▸ h5.1))];exact h1,h2,h3,h4,h5⟩

theorem EvOk.work {Z:Zone} {Shun:Loc→Prop} {n Wg:Nat} {e:Event} (h:EvOk Z n e) (ho:Off Z Shun) (hW:¬Z.rd Wg):
  (∀x,(MemAct.ofEvent e).touch? =some x→(OfWg Wg x.loc→x.kind=.atomic)∧¬Shun x.loc)∧(MemAct.ofEvent e).low n∧∀a,MemAct.ofEvent e≠.mark (.release a):=by
 rcases h with ⟨a,h1,h2,h3,_⟩ | ⟨r,h1,h2,h3,_⟩ | ⟨m,h1,h2⟩
 ·obtain ⟨loc,wr,sy⟩:=e
  cases h1
  exact ⟨fun x hx=>by
   simp only [MemAct.ofEvent,MemAct.touch?,Option.some.injEq] at hx
   subst hx
   exact ⟨fun ⟨b,e1,e2⟩=>by cases e1;exact absurd h3 (e2 ▸ hW),fun hs=>(ho _ hs).1 a rfl h3⟩,h2,fun a=>by simp [MemAct.ofEvent]⟩
 ·obtain ⟨loc,wr,sy⟩:=e
  cases h1
  cases wr<;>cases sy<;>refine ⟨fun x hx=>?_,h2,fun a=>by simp [MemAct.ofEvent]⟩<;>simp only [MemAct.ofEvent,MemAct.touch?,Option.some.injEq,reduceCtorEq] at hx<;>subst hx<;>exact ⟨fun ⟨b,e1,e2⟩=>(by cases e1),fun hs=>(ho _ hs).2 r rfl⟩
 ·obtain ⟨loc,wr,sy⟩:=e
  cases h1
  rcases h2 with rfl | ⟨f,rfl⟩
  ·exact ⟨fun x hx=>(by cases hx),trivial,fun a=>by simp [MemAct.ofEvent]⟩
  ·exact ⟨fun x hx=>(by cases hx),trivial,fun a=>by simp [MemAct.ofEvent]⟩

section
variable {P:Program} {Post:Value→World→Prop} {ty:TypeId} {Wg c:Nat} {Fu:World→Prop} {Shun:Loc→Prop} {Next Anch:Goroutine→World→Prop} (J:Jn P Post ty Wg c Fu Shun Next Anch)
include J

structure ZOff (Z:Zone) (Shun:Loc→Prop) (Wg:Nat):Prop where
 rd:¬Z.rd Wg
 wr:¬Z.wr Wg
 off:Off Z Shun
omit J in
theorem ZOff.le {Z Z':Zone} (h:ZOff Z Shun Wg) (hz:Zle Z' Z):ZOff Z' Shun Wg:=⟨fun x=>h.rd ((hz _).2 x),fun x=>h.wr ((hz _).1 x),h.off.le hz⟩

theorem Jn.workStep {Z:Zone} (hZ:ZOff Z Shun Wg) {b:Goroutine} (hb:b.status=.running) {w:World}
  (h:∀w₁,RC ty Wg w w₁→KCa ty Wg w₁→∃(b':Goroutine) (w':World) (es:Array Event),stepG P false b w₁=.go b' w' es∧Kept Z w₁ w'∧(∀e ∈ es,EvOk Z w'.heap.size e)∧Both P Post ty Wg c Fu Shun Next Anch b' (RC ty Wg w') 0 false):
  Both P Post ty Wg c Fu Shun Next Anch b (RC ty Wg w) 0 false:=by
 refine J.step hb (fun w₁ d h=>h.trans (RC.at ty Wg w₁ d)) (fun w₁ _ h=>h.trans (RC.cell ty Wg w₁ _ rfl _)) fun w₁ hk h₁=>?_
 obtain ⟨b',w',es,hgo,hkp,hes,hw⟩:=h w₁ h₁ hk
 have hlt:Wg<w₁.heap.size:=hk.elim (·.lt) (·.lt)
 refine ⟨b',w',es,0,false,RC ty Wg w',hgo,hkp.block Wg hlt hZ.wr,fun d0 t ht=>?_,RC.refl _ _ _,hw⟩
 have hwk:=fun e he=>(hes e he).work hZ.off hZ.rd
 have:=Tj.work (Tj.mono ht hkp.size) J.c0 (fn:=b.frame.fn) (pos:=b.frame.place) (es:=es) (fun e he=>(hwk e he).1) (fun e he=>(hwk e he).2.1) (fun e he=>(hwk e he).2.2)
 rw [EvOk.deaf hes] at this
 exact this

structure KeptW (Wg:Nat) (Z:Zone) (w w':World):Prop where
 os:w'.os=w.os
 tape:w'.tape=w.tape
 output:w'.output=w.output
 size:w.heap.size≤w'.heap.size
 block:∀k,k<w.heap.size→k≠Wg→¬Z.wr k→w'.heap[k]? =w.heap[k]?
omit J in
theorem KeptW.trans {Z:Zone} {a b c:World} (h:KeptW Wg Z a b) (k:KeptW Wg Z b c):KeptW Wg Z a c:=
 ⟨k.os.trans h.os,k.tape.trans h.tape,k.output.trans h.output,Nat.le_trans h.size k.size,fun x hx h1 h2=>(k.block x (Nat.lt_of_lt_of_le hx h.size) h1 h2).trans (h.block x hx h1 h2)⟩
omit J in
theorem KeptW.of_rc {Z:Zone} {w w':World} (h:RC ty Wg w w'):KeptW Wg Z w w':=⟨h.os,h.tape,h.output,Nat.le_of_eq h.size.symm,fun k _ h1 _=>h.block k h1⟩

def zox:Car P false where
 Will Z g w:=ZOff Z Shun Wg→Both P Post ty Wg c Fu Shun Next Anch g (RC ty Wg w) 0 false
 R Z w w₁:=(ZOff Z Shun Wg→RC ty Wg w w₁)∧(¬ZOff Z Shun Wg→w₁=w)
 T Z w w':=KeptW Wg Z w w'
 refl _ w:=⟨fun _=>RC.refl _ _ w,fun _=>rfl⟩
 keep {Z ρ H w w₁} h hr:=by
  by_cases hz:ZOff Z Shun Wg
  ·exact (h.1 hz).hr hz.rd hr
  ·rw [h.2 hz];exact hr
 rT {Z w w₁} h:=by
  by_cases hz:ZOff Z Shun Wg
  ·exact .of_rc (h.1 hz)
  ·rw [h.2 hz];exact ⟨rfl,rfl,rfl,Nat.le_refl _,fun _ _ _ _=>rfl⟩
 kT h:=⟨h.os,h.tape,h.output,h.size,fun k hk _ h2=>h.block k hk h2⟩
 tT h k:=h.trans k
 mT h k:=⟨k.os,k.tape,k.output,k.size,fun x hx h1 h2=>k.block x hx h1 fun h3=>h2 ((h _).1 h3)⟩
 step {Z fr cs w} h:=by
  intro hz
  refine J.workStep hz rfl fun w₁ h₁ hk=>?_
  obtain ⟨fr',cs',w',es,h1,h2,h3,h4⟩:=h w₁ ⟨fun _=>h₁,fun n=>absurd hz n⟩
  exact ⟨_,w',es,h1,h2,h3,h4 hz⟩
 calm h k:=by
  intro hz
  exact (k hz).imp fun w₂ h₂=>(h.1 hz).trans h₂

theorem Jn.silent {Z:Zone} (hZ:ZOff Z Shun Wg):∀n b w,Goes P false (RC ty Wg) DC0 (fun b w=>Both P Post ty Wg c Fu Shun Next Anch b (RC ty Wg w) 0 false) n b w→Both P Post ty Wg c Fu Shun Next Anch b (RC ty Wg w) 0 false:=by
 intro n
 induction n with
 | zero=>intro b w h;exact h w (RC.refl _ _ _)
 | succ n ih=>
  intro b w h
  rcases h with h | ⟨hb,h⟩
  ·exact h w (RC.refl _ _ _)
  refine J.workStep hZ hb fun w₁ h₁ hk=>?_
  have hs:=h w₁ h₁
  cases hgo:stepG P false b w₁ with
  | go b' w' es=>
   rw [hgo,goes_go] at hs
   obtain ⟨⟨rfl,rfl⟩,hG'⟩:=hs
   exact ⟨b',_,#[],rfl,.refl _ _,by simp,ih b' _ hG'⟩
  | _=>rw [hgo] at hs;exact hs.elim
end
end Go.Proofs.YthheoefadijhdaaGreat.Ai
set_option linter.unusedVariables false
set_option linter.unusedSectionVars false
namespace Go.Proofs.YthheoefadijhdaaGreat.Ai
open Go Go.RowKit Go.Conc
open Go.ConcX (stA smA OfWg g_of_ofEvents KK WgAt DC0 rd wr AtK1 AtD1 AtD2 AtD3 AtD4 RCa RCd KCa)
open Go.ConcN (sumTo upd sumTo_upd upd_ne upd_same)

section
variable {P:Program} {Post:Value→World→Prop} {Z:Zone} {w:World} {d:Nat}

theorem z3w.from0 {g:Goroutine} (h:z3w P Post d Z g w) {Shun:Loc→Prop} {B:Nat} {t:Trace} (hT:Tr Shun B d t) (hB:B≤w.heap.size) (hO:Off Z Shun) (M:Nat):z2i P Post M g w t:=
 fun gs sl q _ h0 hL hlt=>h gs sl t q Shun B h0 hL hlt hT hB hO

theorem znw {n:Nat} {f g:Nat→Nat} (h:∀i,i<n→f i=g i):sumTo n f=sumTo n g:=by
 induction n with
 | zero=>rfl
 | succ n ih=>simp only [ConcN.sumTo,ih fun i hi=>h i (by omega),h n (by omega)]

theorem z3w.fork {g:Goroutine} (hg:g.status=.running)
  (h:∀dd (c:Nat) (Shun:Loc→Prop),c≠0→Off Z Shun→∃g' child,stepG P true g (w.at dd)=.spawn g' child (w.at dd) #[]∧∃ty Wg Fu Next Anch,Jn P Post ty Wg c Fu Shun Next Anch∧MainA P ty Wg Fu Next Anch 0 g' (w.at dd)∧WgAt ty Wg (w.at dd) KK 0∧
   ∃Cd:World→Prop,Cd (w.at dd)∧Both P Post ty Wg c Fu Shun Next Anch child Cd 0 false):z3w P Post 0 Z g w:=by
 intro gs sl t q Shun B h0 hL hlt hT hB hO
 have main:∀(M:Nat) (gs:Array Goroutine) (sl:Option (Nat×Nat)) (t:Trace) (q:Nat→Nat) (dd:Nat),sumTo gs.size q=M→gs[0]? =some g→Leavers P t gs q→(∀op ∈ t,op.g<gs.size)→Tr Shun B 0 t→Ends P Post gs (w.at dd) sl t:=by
  intro M
  induction M using Nat.strongRecOn with
  | _ M ih=>
   intro gs sl t q dd hM h0 hL hlt hT
   have hpos:0<gs.size:=(Array.getElem?_eq_some_iff.1 h0).1
   refine Ends.pick (fun x hx=>?_) ⟨0,g,h0,hg⟩ fun i x d' sl₁ hi hx=>?_
   ·obtain ⟨i,hi,rfl⟩:=Array.mem_iff_getElem.1 hx
    rcases Nat.eq_zero_or_pos i with rfl | hp
    ·have:gs[0]=g:=by simpa [Array.getElem?_eq_getElem hi] using h0
     rw [this];exact awake_of (.inl hg)
    ·exact awake_of ((hL.old i _ hp (Array.getElem?_eq_getElem hi)).status.elim .inl fun x=>.inr (.inr x))
   ·have hat:(w.at dd).at d'=w.at d':=rfl
    rw [hat]
    rcases Nat.eq_zero_or_pos i with rfl | hp
    ·obtain rfl:x=g:=by rw [h0] at hi;exact (Option.some.inj hi).symm
     have hc0:gs.size≠0:=by omega
     obtain ⟨g',child,hgo,ty,Wg,Fu,Next,Anch,J,hA,hW,Cd,hCd,hBoth⟩:=h d' gs.size Shun hc0 hO
     have hcd:Deaf t gs.size=0:=hL.above gs.size (Nat.le_refl _)
     have hcn:∀op ∈ t,op.g≠gs.size:=fun op hop=>Nat.ne_of_lt (hlt op hop)
     refine ⟨_,w.at d',sl₁,_,runT_crowd_spawn (P:=P) (i:=0) hi (show stepG P (0==0) x (w.at d')=_ from hgo),?_⟩
     have eops:(((MemOp.ofEvents 0 x.frame.fn x.frame.place #[]).push {g:=0,fn:=x.frame.fn,pos:=x.frame.place,act:=.go gs.size}).push {g:=gs.size,fn:=child.frame.fn,pos:=x.frame.place,act:=.start}:Trace)=
       #[({g:=0,fn:=x.frame.fn,pos:=x.frame.place,act:=.go gs.size}:MemOp),{g:=gs.size,fn:=child.frame.fn,pos:=x.frame.place,act:=.start}]:=by rw [ofEvents_none];rfl
     rw [eops]
     have hTj:=hT.fork hc0 hcd hcn Wg (fn:=x.frame.fn) (fn':=child.frame.fn) (pos:=x.frame.place) (pos':=x.frame.place)
     have hF:=hBoth.A (sumTo gs.size q) 0 g' (w.at d') _ hA ⟨hW,hCd⟩ (hTj.mono hB)
     have hq':sumTo (gs.size+1) (upd q gs.size 0)≤sumTo gs.size q:=by
      simp only [ConcN.sumTo,upd_same]
      rw [znw (f:=upd q gs.size 0) (g:=q) fun i hi=>upd_ne q 0 (Nat.ne_of_lt hi)]
      omega
     refine hF _ sl₁ (upd q gs.size 0) (by simpa using hq') ?_ ?_ hc0 (fun j y hj hjc hy=>?_) (fun j hj=>?_) (fun op hop=>?_)
     ·rw [Array.getElem?_push_lt (by simpa using hpos)];simp
     ·rw [Array.getElem?_push];simp
     ·have hjl:j<gs.size:=by
       have:=(Array.getElem?_eq_some_iff.1 hy).1
       simp at this;omega
      rw [Array.getElem?_push_lt (by simpa using hjl)] at hy
      have hy':gs[j]? =some y:=by
       rw [←Array.getElem?_eq_getElem,Array.getElem?_setIfInBounds_ne (fun e=>hj e.symm)] at hy
       exact hy
      have hq:=hL.old j y (by omega) hy'
      rw [upd_ne q 0 hjc]
      have e:Deaf (t++#[({g:=0,fn:=x.frame.fn,pos:=x.frame.place,act:=.go gs.size}:MemOp),{g:=gs.size,fn:=child.frame.fn,pos:=x.frame.place,act:=.start}]) j=Deaf t j:=ConcX.Deaf_keep t j _ (by intro op hop;simp at hop;rcases hop with rfl | rfl<;>simp)
      rw [e]
      exact hq
     ·have e:Deaf (t++#[({g:=0,fn:=x.frame.fn,pos:=x.frame.place,act:=.go gs.size}:MemOp),{g:=gs.size,fn:=child.frame.fn,pos:=x.frame.place,act:=.start}]) j=Deaf t j:=ConcX.Deaf_keep t j _ (by intro op hop;simp at hop;rcases hop with rfl | rfl<;>simp)
      rw [e]
      exact hL.above j (by simp at hj;omega)
     ·have:((gs.setIfInBounds 0 g').push child).size=gs.size+1:=by simp
      rw [this]
      rcases Array.mem_append.1 hop with hop | hop
      ·have:=hlt op hop;omega
      ·simp at hop;rcases hop with rfl | rfl<;>simp
    ·have hq:=hL.old i x hp hi
     have hi0:(i==0)=false:=by simp;omega
     have hil:i<gs.size:=(Array.getElem?_eq_some_iff.1 hi).1
     cases hqi:q i with
     | zero=>rw [hqi] at hq;rw [hq.1] at hx;cases hx
     | succ k=>
      rw [hqi] at hq
      rcases hq with ⟨hf,_⟩ | ⟨_,x',es,hm,hstp,hq'⟩
      ·rw [hf] at hx;cases hx
      refine ⟨_,w.at d',sl₁,_,runT_crowd_go (P:=P) (sl:=sl₁) (i:=i) hi (by rw [hi0];exact hstp (w.at d')),?_⟩
      have hsz:((gs.map (woken P x x' (w.at d'))).setIfInBounds i x').size=gs.size:=by simp
      have hsum:sumTo gs.size (upd q i k)+(k+1)=sumTo gs.size q+k:=by
       have:=sumTo_upd q k id hil
       simpa [hqi] using this
      refine ih (sumTo gs.size (upd q i k)) (by omega) _ sl₁ _ (upd q i k) d' (by rw [hsz]) ?_ ⟨fun j y hj hy=>?_,fun j hj=>?_⟩ (zci hlt hil _ _ es hsz) (hT.mute (by omega) hm)
      ·have hne:i≠0:=by omega
       rw [Array.getElem?_setIfInBounds_ne hne,Array.getElem?_map,h0]
       simp [woken_run hg]
      ·by_cases hji:i=j
       ·subst hji
        rw [Array.getElem?_setIfInBounds_self_of_lt (by simpa using hil)] at hy
        obtain rfl:=Option.some.inj hy
        rw [upd_same,Deaf_own]
        exact hq'
       ·rw [Array.getElem?_setIfInBounds_ne hji,Array.getElem?_map] at hy
        obtain ⟨z,hz,rfl⟩:=Option.map_eq_some_iff.1 hy
        have hqj:=hL.old j z hj hz
        rw [woken_quitsD hqj,upd_ne q k (Ne.symm hji),Deaf_other t hji _ g_of_ofEvents]
        exact hqj
      ·have hj':gs.size≤j:=by simpa using hj
       rw [Deaf_other t (show i≠j by omega) _ g_of_ofEvents]
       exact hL.above j hj'
 exact main _ gs sl t q w.drawn rfl h0 hL hlt hT
end
end Go.Proofs.YthheoefadijhdaaGreat.Ai
set_option linter.unusedVariables false
set_option linter.unusedSectionVars false
namespace Go.Proofs.YthheoefadijhdaaGreat.Ai
open Go Go.RowKit Go.Conc
open Go.ConcX (stA smA OfWg g_of_ofEvents KK WgAt DC0 rd wr AtK1 AtD1 AtD2 AtD3 AtD4 AtR0 RCa RCd KCa DCs EvQ EvS AtMkS Shy Payload ShJ ThJ OkOp Full)

def zul (Shun:Loc→Prop) (B:Nat) (act:MemAct):Prop:=(∀x,act.touch? =some x→¬Shun x.loc)∧act.low B∧∀a,act≠.mark (.release a)
@[reducible] def z1ad (Shun:Loc→Prop) (B Wg C:Nat) (hW:∀a,a.block=Wg→¬Shun (.cell a)) (hC:∀a,a.block=C→¬Shun (.cell a)) (hWB:Wg<B) (hCB:C<B):Shy Wg C where
 ok:=zul Shun B
 atomicWg a wr h:=⟨fun x hx=>by simp [MemAct.touch?] at hx;subst hx;exact hW a h,by show a.block<B;omega,fun _ e=>by cases e⟩
 readWg a h:=⟨fun x hx=>by simp [MemAct.touch?] at hx;subst hx;exact hW a h,by show a.block<B;omega,fun _ e=>by cases e⟩
 writeWg a h:=⟨fun x hx=>by simp [MemAct.touch?] at hx;subst hx;exact hW a h,by show a.block<B;omega,fun _ e=>by cases e⟩
 theirs a wr h:=⟨fun x hx=>by simp [MemAct.touch?] at hx;subst hx;exact hC a h,by show a.block<B;omega,fun _ e=>by cases e⟩
 disable:=⟨fun x hx=>(by cases hx),trivial,fun _ e=>by cases e⟩
 enable:=⟨fun x hx=>(by cases hx),trivial,fun _ e=>by cases e⟩
 relMerge:=⟨fun x hx=>(by cases hx),hWB,fun _ e=>by cases e⟩
 acquire:=⟨fun x hx=>(by cases hx),hWB,fun _ e=>by cases e⟩
 go1:=⟨fun x hx=>(by cases hx),trivial,fun _ e=>by cases e⟩
 start:=⟨fun x hx=>(by cases hx),trivial,fun _ e=>by cases e⟩
 stop _ _:=True

theorem zpd {e:Event} {m:Mark} (h:e.loc=.mark m):MemAct.ofEvent e=.mark m:=by
 obtain ⟨loc,wr,sy⟩:=e
 cases h
 rfl
theorem zul.evM {Shun:Loc→Prop} {B:Nat} {e:Event} (h:zul Shun B (MemAct.ofEvent e)):EvM Shun B e:=⟨fun x hx hs=>absurd hs (h.1 x hx),h.2.1,h.2.2⟩

section
variable {P:Program} {Post:Value→World→Prop} {Shun:Loc→Prop} {B d:Nat}

theorem z2i.goesE {E:Event→Prop} {Stop:Goroutine→World→Prop} (hE:∀e,E e→EvM Shun B e∧e.loc≠.mark .disable∧e.loc≠.mark .enable)
  (hS:∀M a w t,(∀w₁,AtRel w w₁→Stop a w₁)→Tr Shun B d t→z2i P Post M a w t):
  ∀M n a w t,Goes P true AtRel (DE E) Stop n a w→Tr Shun B d t→z2i P Post M a w t:=by
 intro M
 induction M using Nat.strongRecOn with
 | _ M ihM=>
  intro n
  induction n with
  | zero=>intro a w t hG ht;exact hS M a w t hG ht
  | succ n ih=>
   intro a w t hG ht
   rcases hG with hG | ⟨ha,hG⟩
   ·exact hS M a w t hG ht
   refine z2i.pick ha (fun d'=>?_) fun M2 hM2 g fn pos es d' hg hm=>?_
   ·have hs:=hG (w.at d') (z6q w d')
    cases hgo:stepG P true a (w.at d') with
    | go a' w' es=>
     rw [hgo,goes_go] at hs
     obtain ⟨he,hG'⟩:=hs
     refine ⟨a',w',es,rfl,ih a' w' _ hG' ?_⟩
     have:=ht.own (fn:=a.frame.fn) (pos:=a.frame.place) (es:=es) fun e hme=>(hE e (he e hme)).1
     rw [deafBehind_still (fun e hme=>(hE e (he e hme)).2) d] at this
     exact this
    | _=>rw [hgo] at hs;exact hs.elim
   ·exact ihM M2 hM2 (n+1) a (w.at d') _ (Goes.rely atRel_trans (Or.inr ⟨ha,hG⟩) (z6q w d')) (ht.mute hg hm)

theorem z2i.mark {m:Mark} (hm:m=.disable∨m=.enable) {F:Goroutine→World→Prop} (hF:∀M a w t,F a w→Tr Shun B (deafBehind d #[ConcX.mk m]) t→z2i P Post M a w t):
  ∀M a w t,(∀w₁,AtRel w w₁→AtMkS P m F a w₁)→Tr Shun B d t→z2i P Post M a w t:=by
 intro M a w t h1 h2
 refine vis0 (Cd:=fun _=>True) (T:=fun _ t=>Tr Shun B d t) z6q atRel_trans (fun _ _ h=>h.1) (fun _ _ _=>trivial) (fun w d' t g fn pos es h hg hm=>h.mute hg hm) (fun _ _ _ h=>h) (fun M a w t h1 _ h2=>?_) M a w t h1 trivial h2
 obtain ⟨_,a',hgo,hn⟩:=h1
 refine ⟨a',w,_,hgo,hF M a' w _ hn (h2.own fun e he=>?_)⟩
 simp at he
 subst he
 rcases hm with rfl | rfl<;>exact ⟨fun x hx=>(by cases hx),trivial,fun a h=>by cases h⟩

theorem z2i.addPos {L:Conc.Lib.WgLink} (H:Conc.Lib.WgLib P L) {Wg C:Nat} (hsh:∀a:Addr,a.block=Wg∨a.block=C→¬Shun (.cell a)) (hWB:Wg<B) (hCB:C<B) {w:World} (hw:WgAt L.tWg Wg w 0 0)
  {b₀:Frame} {a₀:Act} {ops₀:Array Oper} {i₀:Nat} {rest₀:List Nat} {k₀:List Item} {cs:List Frame} {g:Goroutine}
  (hg:∀(S:Shy Wg C) (St:Goroutine→World→Prop) (m:Nat),Goes P true AtRel (DE (EvS Wg C)) St m (G (b₀.at (a₀.put ((ops₀[i₀]?).bind (·.dst)) (.tuple #[])) (.inRegion ops₀ rest₀::k₀)) cs) (w.setCell (stA Wg) (.int .u64 KK))→
   ∃n,Goes P true AtRel (DE (EvS Wg C)) (AtMkS P .disable fun a w=>∃n,Goes P true AtRel (DE (EvS Wg C)) (AtMkS P .enable fun a w=>∃n,Goes P true AtRel (DE (EvS Wg C)) St n a w) n a w) n g w)
  (hnext:∀M d' t,Tr Shun B 0 t→z2i P Post M (G (b₀.at (a₀.put ((ops₀[i₀]?).bind (·.dst)) (.tuple #[])) (.inRegion ops₀ rest₀::k₀)) cs) ((w.setCell (stA Wg) (.int .u64 KK)).at d') t):
  ∀M t,Tr Shun B 0 t→z2i P Post M g w t:=by
 intro M t ht
 let S:Shy Wg C:=z1ad Shun B Wg C (fun a h=>hsh a (.inl h)) (fun a h=>hsh a (.inr h)) hWB hCB
 have hE:∀e,EvS Wg C e→EvM Shun B e∧e.loc≠.mark .disable∧e.loc≠.mark .enable:=fun e h=>⟨zul.evM h.2.2.2.2.2,fun he=>h.2.2.2.1 (zpd he),fun he=>h.2.2.2.2.1 (zpd he)⟩
 obtain ⟨n,hG⟩:=hg S (fun a' w'=>a'=G (b₀.at (a₀.put ((ops₀[i₀]?).bind (·.dst)) (.tuple #[])) (.inRegion ops₀ rest₀::k₀)) cs∧∃d',w'=(w.setCell (stA Wg) (.int .u64 KK)).at d') 0 (fun w₁ ⟨d',e⟩=>⟨rfl,d',e⟩)
 have last:∀M n a w' t,Goes P true AtRel (DE (EvS Wg C)) (fun a' w'=>a'=G (b₀.at (a₀.put ((ops₀[i₀]?).bind (·.dst)) (.tuple #[])) (.inRegion ops₀ rest₀::k₀)) cs∧∃d',w'=(w.setCell (stA Wg) (.int .u64 KK)).at d') n a w'→Tr Shun B 0 t→z2i P Post M a w' t:=
  z2i.goesE hE fun M a w' t h1 h2=>by
   obtain ⟨rfl,d',rfl⟩:=h1 w' ⟨w'.drawn,rfl⟩
   exact hnext M d' t h2
 have en:=z2i.mark (P:=P) (Post:=Post) (Shun:=Shun) (B:=B) (d:=1) (m:=.enable) (.inr rfl) (F:=fun a w'=>∃n,Goes P true AtRel (DE (EvS Wg C)) (fun a' w'=>a'=G (b₀.at (a₀.put ((ops₀[i₀]?).bind (·.dst)) (.tuple #[])) (.inRegion ops₀ rest₀::k₀)) cs∧∃d',w'=(w.setCell (stA Wg) (.int .u64 KK)).at d') n a w')
  fun M a w' t ⟨n,h1⟩ h2=>last M n a w' t h1 h2
 have en2:=z2i.goesE (P:=P) (Post:=Post) hE en
 have di:=z2i.mark (P:=P) (Post:=Post) (Shun:=Shun) (B:=B) (d:=0) (m:=.disable) (.inl rfl) (F:=fun a w'=>∃n,Goes P true AtRel (DE (EvS Wg C)) (AtMkS P .enable _) n a w')
  fun M a w' t ⟨n,h1⟩ h2=>en2 M n a w' t h1 h2
 exact z2i.goesE (P:=P) (Post:=Post) hE di M n g w t hG ht
end

section
variable {P:Program} {Post:Value→World→Prop} {ty:TypeId} {Wg c:Nat} {Fu:World→Prop} {Shun:Loc→Prop} {Next Anch:Goroutine→World→Prop} (J:Jn P Post ty Wg c Fu Shun Next Anch)
include J

theorem Jn.sGoes [Payload] {Mine:Loc→Prop} {C Low B:Nat} [S:Shy Wg C] (hok:∀act,S.ok act→zul Shun B act) (hCW:C≠Wg) {vals:List Value} {K:World→Prop} (hK:∀w d,K w→K (w.at d)) (hKw:∀w v,K w→K (w.setCell (stA Wg) v))
  (hKC:∀w w',Aside C w w'→K w→K w') (hKF:∀w,K w→Fu w) (hKB:∀w,K w→B≤w.heap.size):
  ∀m b,Both P Post ty Wg c Fu Shun Next Anch b (fun w=>K w∧Goes P false (RCa ty Wg Low) (DCs Mine Wg C) (AtR0 P ty Wg C Low vals) m b w) 0 false:=by
 have stop:∀b,Both P Post ty Wg c Fu Shun Next Anch b (fun w=>K w∧∀w₁,RCa ty Wg Low w w₁→AtR0 P ty Wg C Low vals b w₁) 0 false:=fun b=>by
  refine J.r0 (Low:=Low) (fun w d h=>⟨hK w d h.1,fun w₁ h₁=>h.2 w₁ ((ConcX.RCa.at w d).trans h₁)⟩) (fun w hw h=>⟨hKw w _ h.1,fun w₁ h₁=>h.2 w₁ ((zvj hw).trans h₁)⟩) ?_
  ·intro w hw h
   obtain ⟨h1,_,g',h3,h4⟩:=h.2 w (ConcX.RCa.refl w)
   exact ⟨h1,hKF w h.1,g',h3,h4⟩
 intro m
 induction m with
 | zero=>exact stop
 | succ m ih=>
  intro b
  by_cases hb:¬b.status=.running
  ·exact (stop b).imp fun w h=>⟨h.1,h.2.elim id fun h=>absurd h.1 hb⟩
  replace hb:=Classical.not_not.1 hb
  have key:Both P Post ty Wg c Fu Shun Next Anch b (fun w=>K w∧∀w₁,RCa ty Wg Low w w₁→(stepG P false b w₁).goes fun g' w' es=>DCs Mine Wg C w₁ w' es∧Goes P false (RCa ty Wg Low) (DCs Mine Wg C) (AtR0 P ty Wg C Low vals) m g' w') 0 false:=by
   refine J.step hb (fun w d h=>⟨hK w d h.1,fun w₁ h₁=>h.2 w₁ ((ConcX.RCa.at w d).trans h₁)⟩) (fun w hw h=>⟨hKw w _ h.1,fun w₁ h₁=>h.2 w₁ ((zvj hw).trans h₁)⟩) fun w hw h=>?_
   have hs:=h.2 w (ConcX.RCa.refl w)
   cases hgo:stepG P false b w with
   | go b' w' es=>
    rw [hgo,goes_go] at hs
    obtain ⟨⟨ha,he⟩,hG'⟩:=hs
    have hev:∀e ∈ es,(∀x,(MemAct.ofEvent e).touch? =some x→(OfWg Wg x.loc→x.kind=.atomic)∧¬Shun x.loc)∧(MemAct.ofEvent e).low B∧∀a,MemAct.ofEvent e≠.mark (.release a):=fun e hme=>by
     have hq:=(he e hme).1 0 ""
     have hk:=hok _ hq.2.2.2
     refine ⟨fun x hx=>⟨fun hwg=>?_,hk.1 x hx⟩,hk.2⟩
     have:=(hq.2.1 x hx).2.1 (.inl hwg)
     cases hkd:x.kind with
     | atomic=>rfl
     | plain=>exact absurd hkd this.1
     | said=>exact absurd (this.2 hkd) (by decide)
    refine ⟨b',w',es,0,false,_,rfl,ha.block Wg hCW.symm,fun d0 t ht=>?_,⟨hKC w w' ha h.1,hG'⟩,ih b'⟩
    have hsz:w'.heap.size=w.heap.size:=ha.size
    have:=Tj.work ht J.c0 (fn:=b.frame.fn) (pos:=b.frame.place) (es:=es) (fun e he=>(hev e he).1) (fun e he=>MemAct.low_mono (hKB w h.1) (hev e he).2.1) (fun e he=>(hev e he).2.2)
    rw [deafBehind_still (fun e hme=>⟨(he e hme).2.1,(he e hme).2.2.1⟩) 0] at this
    unfold Tw
    rw [hsz]
    exact this
   | _=>rw [hgo] at hs;exact hs.elim
  exact ((stop b).or key).imp fun w h=>h.2.elim (fun k=>.inl ⟨h.1,k⟩) fun k=>.inr ⟨h.1,k.2⟩
end
end Go.Proofs.YthheoefadijhdaaGreat.Ai
