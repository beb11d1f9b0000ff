/- Functions of the library that have no Go text: what the model's rows for them do. -/
import Derived.Test.YthheoefadijhdaaGreatFFnExactThumbOfAiM
import Derived.Test.YthheoefadijhdaaGreatFFnExactThumbOfFl
import Derived.Laws.Externs
set_option linter.unusedVariables false
namespace Go.Proofs.YthheoefadijhdaaGreat.Ai
open Go Go.RowKit

def ExtEv (P:Program) (g:Nat) (args:List Value) (w:World):Prop:=∀es,∀e ∈ (callFunc g args.toArray).events P w es,e ∈ es∨∃f,e.loc=.mark (.extern f)
theorem ExtEv.find {P:Program} {g:Nat} {fn:Func} {e:Array Value→Sem Value} {args:List Value} {w:World} (hf:P.funcs[g]? =some fn) (hname:(fn.name== "runtime.NumGoroutine")=false) (hb:fn.body.isNone=true) (hn:Extern.findNext fn=Option.none) (he:Extern.find fn=some e)
  (hev:∀es,(e args.toArray).events P w es=es):ExtEv P g args w:=by
 intro es ev h
 have h2:ev ∈ es.push ⟨.mark (.extern g),false,true⟩:=by
  unfold callFunc at h
  simp only [Sem.events_bind,run_program,events_program,Result.evThen_ok,hf,hname,Bool.false_eq_true,if_false,hb,if_true,hn,he] at h
  have e1:(mark (.extern g):Sem Unit).run P w=.ok () w:=rfl
  simp only [e1,Result.evThen_ok,events_mark] at h
  revert h
  cases (e args.toArray).run P w with
  | ok v w'=>simp only [Result.evThen_ok,Sem.events_pure,hev];exact id
  | halt x w'=>simp only [Result.evThen_halt,hev];exact id
 rcases Array.mem_push.1 h2 with h2 | rfl
 ·exact .inl h2
 ·exact .inr ⟨g,rfl⟩

theorem FnOk.ext {P:Program} {g:Nat} {S:FSpec} (ht:S.tame=false)
  (mono:∀(args:List Value) (H:zp) (K K':Value→zp→Prop),(∀v H',K v H'→K' v H')→S.F args H K→S.F args H K')
  (quiet:S.quiet=true→∀(args:List Value) (H:zp) (K:Value→zp→Prop),S.F args H K→∃v,K v H∧∀K':Value→zp→Prop,K' v H→S.F args H K')
  (live:∀(args:List Value) (H:zp) (K:Value→zp→Prop),S.F args H K→∃v H',K v H')
  (hs:∀(ρ:Ren) (w:World) (args args':List Value) (H:zp) (K:Value→zp→Prop),VRs ρ args args'→S.F args H K→
   ∃v v' w',(callFunc g args'.toArray).run P w=.ok (.value v') w'∧Drew w w'∧VR ρ v v'∧K v H∧ExtEv P g args' w):FnOk P g S:=by
 refine ⟨mono,quiet,live,(fun h=>by rw [ht] at h;cases h),?_⟩
 intro main C _ Z ρ H w args args' K hr ha hk b a k cs ops i rest o ho hw hkd hdf hex hn
 refine C.step fun w₁ h₁=>?_
 obtain ⟨v,v',w',h1,h2,h3,h4,h5⟩:=hs ρ w₁ args args' H K ha hk
 refine ⟨_,_,w',_,Ai.stepR_value ho hw hdf hkd (.inl (by rw [hex];exact h1)),h2.below Z,fun e he=>?_,hn v H h4 Z ρ w' v' (.refl Z) (List.prefix_refl _) ((C.keep h₁ hr).drew h2) h3 (C.tT (C.rT h₁) (C.kT (h2.below Z)))⟩
 have he':=Conc.mem_listed he
 rw [hex] at he'
 rcases h5 _ e he' with h | ⟨f,h⟩
 ·simp at h
 ·exact .inr (.inr ⟨_,h,.inr ⟨f,rfl⟩⟩)

theorem FnOk.ext1 {P:Program} {g:Nat} {S:FSpec} {fn:Func} {e:Array Value→Sem Value} {f:Nat→Nat} (ht:S.tame=false)
  (hF:∀(args:List Value) (H:zp) (K:Value→zp→Prop),S.F args H K→∃x,args=[.float .f64 x]∧K (.float .f64 (f x)) H)
  (hB:∀(x:Nat) (H:zp) (K:Value→zp→Prop),K (.float .f64 (f x)) H→S.F [.float .f64 x] H K)
  (hf:P.funcs[g]? =some fn) (hname:(fn.name== "runtime.NumGoroutine")=false) (hb:fn.body.isNone=true) (hn:Extern.findNext fn=Option.none) (he:Extern.find fn=some e)
  (hr:∀(b:Nat) (w:World),∃r w',(e #[.float .f64 b]).run P w=.ok (.float .f64 r) w'∧f (cn .f64 b)=cn .f64 r∧Drew w w'∧∀es,(e #[.float .f64 b]).events P w es=es):FnOk P g S:=by
 refine .ext ht ?_ ?_ ?_ ?_
 ·intro args H K K' h hk
  obtain ⟨x,rfl,k⟩:=hF _ _ _ hk
  exact hB _ _ _ (h _ _ k)
 ·intro _ args H K hk
  obtain ⟨x,rfl,k⟩:=hF _ _ _ hk
  exact ⟨_,k,fun K' k'=>hB _ _ _ k'⟩
 ·intro args H K hk
  obtain ⟨x,rfl,k⟩:=hF _ _ _ hk
  exact ⟨_,_,k⟩
 ·intro ρ w args args' H K ha hk
  obtain ⟨x,rfl,k⟩:=hF _ _ _ hk
  obtain ⟨y,ys,rfl,h3,h4⟩:=ha.uncons
  obtain rfl:=h4.unnil
  cases h3 with
  | float k0 a b hab=>
   obtain ⟨r,w',h1,h2,h3,h5⟩:=hr b w
   refine ⟨_,.float .f64 r,w',?_,h3,.float .f64 _ r (by rw [←h2,hab]),k,.find hf hname hb hn he h5⟩
   have:=run_callFunc_extern hf hname hb hn he #[.float .f64 b] w
   rw [this,h1];rfl

def fint (way:Ieee.Toward) (x:Nat):Nat:=if (FloatKind.f64.format.read x).isNaN then qnan .f64 else FloatKind.f64.encode ((FloatKind.f64.format.read x).integral way)
end Go.Proofs.YthheoefadijhdaaGreat.Ai
