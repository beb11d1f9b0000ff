/- Functions of the library that have no Go text: what the model's rows for them do. -/
import Derived.Test.YthheoefadijhdaaGreatFFnExactReadMarksAiM
import Derived.Test.YthheoefadijhdaaGreatFFnExactReadMarksFl
import Derived.Laws.Externs
set_option linter.unusedVariables false
namespace Go.Proofs.YthheoefadijhdaaGreat.Ai
open Go Go.RowKit

def ExtEv (P:Program) (g:Nat) (args:List Value) (w:World):Prop:=∀es,∀e ∈ (callFunc g args.toArray).events P w es,e ∈ es∨∃f,e.loc=.mark (.extern f)
theorem ExtEv.find {P:Program} {g:Nat} {fn:Func} {e:Array Value→Sem Value} {args:List Value} {w:World} (hf:P.funcs[g]? =some fn) (hname:(fn.name== "runtime.NumGoroutine")=false) (hb:fn.body.isNone=true) (hn:Extern.findNext fn=Option.none) (he:Extern.find fn=some e)
  (hev:∀es,(e args.toArray).events P w es=es):ExtEv P g args w:=by
 intro es ev h
 have h2:ev ∈ es.push ⟨.mark (.extern g),false,true⟩:=by
  unfold callFunc at h
  simp only [Sem.events_bind,run_program,events_program,Result.evThen_ok,hf,hname,Bool.false_eq_true,if_false,hb,if_true,hn,he] at h
  have e1:(mark (.extern g):Sem Unit).run P w=.ok () w:=rfl
  simp only [e1,Result.evThen_ok,events_mark] at h
  revert h
  cases (e args.toArray).run P w with
  | ok v w'=>simp only [Result.evThen_ok,Sem.events_pure,hev];exact id
  | halt x w'=>simp only [Result.evThen_halt,hev];exact id
 rcases Array.mem_push.1 h2 with h2 | rfl
 ·exact .inl h2
 ·exact .inr ⟨g,rfl⟩

theorem FnOk.ext {P:Program} {g:Nat} {S:FSpec} (ht:S.tame=false)
  (mono:∀(args:List Value) (H:zn) (K K':Value→zn→Prop),(∀v H',K v H'→K' v H')→S.F args H K→S.F args H K')
  (quiet:S.quiet=true→∀(args:List Value) (H:zn) (K:Value→zn→Prop),S.F args H K→∃v,K v H∧∀K':Value→zn→Prop,K' v H→S.F args H K')
  (live:∀(args:List Value) (H:zn) (K:Value→zn→Prop),S.F args H K→∃v H',K v H')
  (hs:∀(ρ:Ren) (w:World) (args args':List Value) (H:zn) (K:Value→zn→Prop),VRs ρ args args'→S.F args H K→
   ∃v v' w',(callFunc g args'.toArray).run P w=.ok (.value v') w'∧Drew w w'∧VR ρ v v'∧K v H∧ExtEv P g args' w):FnOk P g S:=by
 refine ⟨mono,quiet,live,(fun h=>by rw [ht] at h;cases h),?_⟩
 intro main C _ Z ρ H w args args' K hr ha hk b a k cs ops i rest o ho hw hkd hdf hex hn
 refine C.step fun w₁ h₁=>?_
 obtain ⟨v,v',w',h1,h2,h3,h4,h5⟩:=hs ρ w₁ args args' H K ha hk
 refine ⟨_,_,w',_,Ai.stepR_value ho hw hdf hkd (.inl (by rw [hex];exact h1)),h2.below Z,fun e he=>?_,hn v H h4 Z ρ w' v' (.refl Z) (List.prefix_refl _) ((C.keep h₁ hr).drew h2) h3 (C.tT (C.rT h₁) (C.kT (h2.below Z)))⟩
 have he':=Conc.mem_listed he
 rw [hex] at he'
 rcases h5 _ e he' with h | ⟨f,h⟩
 ·simp at h
 ·exact .inr (.inr ⟨_,h,.inr ⟨f,rfl⟩⟩)

theorem FnOk.ext1 {P:Program} {g:Nat} {S:FSpec} {fn:Func} {e:Array Value→Sem Value} {f:Nat→Nat} (ht:S.tame=false)
  (hF:∀(args:List Value) (H:zn) (K:Value→zn→Prop),S.F args H K→∃x,args=[.float .f64 x]∧K (.float .f64 (f x)) H)
  (hB:∀(x:Nat) (H:zn) (K:Value→zn→Prop),K (.float .f64 (f x)) H→S.F [.float .f64 x] H K)
  (hf:P.funcs[g]? =some fn) (hname:(fn.name== "runtime.NumGoroutine")=false) (hb:fn.body.isNone=true) (hn:Extern.findNext fn=Option.none) (he:Extern.find fn=some e)
  (hr:∀(b:Nat) (w:World),∃r w',(e #[.float .f64 b]).run P w=.ok (.float .f64 r) w'∧f (cn .f64 b)=cn .f64 r∧Drew w w'∧∀es,(e #[.float .f64 b]).events P w es=es):FnOk P g S:=by
 refine .ext ht ?_ ?_ ?_ ?_
 ·intro args H K K' h hk
  obtain ⟨x,rfl,k⟩:=hF _ _ _ hk
  exact hB _ _ _ (h _ _ k)
 ·intro _ args H K hk
  obtain ⟨x,rfl,k⟩:=hF _ _ _ hk
  exact ⟨_,k,fun K' k'=>hB _ _ _ k'⟩
 ·intro args H K hk
  obtain ⟨x,rfl,k⟩:=hF _ _ _ hk
  exact ⟨_,_,k⟩
 ·intro ρ w args args' H K ha hk
  obtain ⟨x,rfl,k⟩:=hF _ _ _ hk
  obtain ⟨y,ys,rfl,h3,h4⟩:=ha.uncons
  obtain rfl:=h4.unnil
  cases h3 with
  | float k0 a b hab=>
   obtain ⟨r,w',h1,h2,h3,h5⟩:=hr b w
   refine ⟨_,.float .f64 r,w',?_,h3,.float .f64 _ r (by rw [←h2,hab]),k,.find hf hname hb hn he h5⟩
   have:=run_callFunc_extern hf hname hb hn he #[.float .f64 b] w
   rw [this,h1];rfl

def fint (way:Ieee.Toward) (x:Nat):Nat:=if (FloatKind.f64.format.read x).isNaN then qnan .f64 else FloatKind.f64.encode ((FloatKind.f64.format.read x).integral way)
theorem zct {way:Ieee.Toward} {d:Ieee.Datum} (h:d.isNaN=false):(d.integral way).isNaN=false:=by
 cases d with
 | nan s t=>cases h
 | infinity s=>rfl
 | number s m i=>rfl
theorem zym (s:Bool) (t:Nat) (x:Nat) (h:FloatKind.f64.format.read x=.nan s t):cn .f64 (FloatKind.f64.encode (.nan s (FloatKind.f64.format.quiet t)))=qnan .f64:=by
 refine z1s ?_
 have ht:t<FloatKind.f64.format.binade∧0<t:=by
  revert h
  show Ieee.Format.read Ieee.double x=_→_
  unfold Ieee.Format.read
  have bi:Ieee.double.binade=2 ^ 52:=rfl
  have ir:Ieee.double.infRung=2047*2 ^ 52:=rfl
  have sw:Ieee.double.signWeight=2 ^ 63:=rfl
  simp only [bi,ir,sw]
  have hm:=Nat.mod_lt x (y:=2 ^ 63) (by decide)
  generalize x % 2 ^ 63=r at *
  split
  ·intro h;cases h
  ·split
   ·intro h;cases h
   ·split
    ·intro h;cases h
    ·intro h;cases h;show _<2 ^ 52∧_;omega
 have hq:t ||| 2 ^ 51<2 ^ 52∧0<t ||| 2 ^ 51:=⟨Nat.or_lt_two_pow ht.1 (by decide),Nat.lt_of_lt_of_le ht.2 Nat.left_le_or⟩
 show (FloatKind.f64.format.read (FloatKind.f64.format.word s (FloatKind.f64.format.infRung+(t ||| 2 ^ 51) % 2 ^ 52))).isNaN=true
 generalize t ||| 2 ^ 51=q at hq
 rw [Nat.mod_eq_of_lt hq.1]
 have e:FloatKind.f64.format.word s (FloatKind.f64.format.infRung+q) % FloatKind.f64.format.signWeight=FloatKind.f64.format.infRung+q:=by
  have ir:FloatKind.f64.format.infRung=2047*2 ^ 52:=rfl
  have sw:FloatKind.f64.format.signWeight=2 ^ 63:=rfl
  unfold Ieee.Format.word
  rw [sw,ir]
  cases s
  ·simp;omega
  ·simp;omega
 unfold Ieee.Format.read
 simp only [e]
 have ir:FloatKind.f64.format.infRung=2047*2 ^ 52:=rfl
 have bi:FloatKind.f64.format.binade=2 ^ 52:=rfl
 rw [ir,bi,if_neg (by omega),if_neg (by omega),if_neg (by omega)]
 rfl
theorem z1k8 (name:String) (way:Ieee.Toward) (b:Nat):Extern.MathFloor.toIntegral name way #[.float .f64 b]=
  (match FloatKind.f64.decode b with
  | .nan s t=>
   if FloatKind.f64.format.quiet t=t then pure (.float .f64 b) else do
   let kept ←choose (.extern "math.Floor,Ceil,Trunc,RoundToEven.signallingNaN kept" 2)
   pure (.float .f64 (if kept==1 then b else FloatKind.f64.encode (.nan s (FloatKind.f64.format.quiet t))))
  | d=>pure (.float .f64 (FloatKind.f64.encode (d.integral way))):Sem Value):=rfl
theorem zp0 {P:Program} (d:Ieee.Datum) (b:Nat) (w:World) (way:Ieee.Toward) (h:FloatKind.f64.format.read b=d) (hd:d.isNaN=false):
  ∃r w',(pure (.float .f64 (FloatKind.f64.encode (d.integral way))):Sem Value).run P w=.ok (.float .f64 r) w'∧fint way (cn .f64 b)=cn .f64 r∧Drew w w'∧∀es,(pure (.float .f64 (FloatKind.f64.encode (d.integral way))):Sem Value).events P w es=es:=by
 have hn:(FloatKind.f64.decode b).isNaN=false:=by show (FloatKind.f64.format.read b).isNaN=false;rw [h];exact hd
 refine ⟨_,w,Sem.run_pure _ _ _,?_,.refl w,fun _=>rfl⟩
 rw [z1i hn,z5k .f64 (zct hd)]
 unfold fint
 rw [h,hd]
 exact if_neg (by decide)
theorem z13q (way:Ieee.Toward) {b:Nat} (hn:(FloatKind.f64.decode b).isNaN=true):fint way (cn .f64 b)=qnan .f64:=by
 rw [z1s hn]
 unfold fint
 rw [show (FloatKind.f64.format.read (qnan .f64)).isNaN=true from zd3 .f64]
 exact if_pos rfl
theorem z1c9 {P:Program} (s:Bool) (t b:Nat) (w:World) (way:Ieee.Toward) (h:FloatKind.f64.format.read b=.nan s t):
  ∃r w',(if FloatKind.f64.format.quiet t=t then pure (.float .f64 b) else do
   let kept ←choose (.extern "math.Floor,Ceil,Trunc,RoundToEven.signallingNaN kept" 2)
   pure (.float .f64 (if kept==1 then b else FloatKind.f64.encode (.nan s (FloatKind.f64.format.quiet t)))):Sem Value).run P w=.ok (.float .f64 r) w'∧fint way (cn .f64 b)=cn .f64 r∧Drew w w'∧∀es,(if FloatKind.f64.format.quiet t=t then pure (.float .f64 b) else do
   let kept ←choose (.extern "math.Floor,Ceil,Trunc,RoundToEven.signallingNaN kept" 2)
   pure (.float .f64 (if kept==1 then b else FloatKind.f64.encode (.nan s (FloatKind.f64.format.quiet t)))):Sem Value).events P w es=es:=by
 have hn:(FloatKind.f64.decode b).isNaN=true:=by show (FloatKind.f64.format.read b).isNaN=true;rw [h];rfl
 rw [z13q way hn]
 by_cases hq:FloatKind.f64.format.quiet t=t
 ·rw [if_pos hq]
  exact ⟨b,w,Sem.run_pure _ _ _,(z1s hn).symm,.refl w,fun _=>rfl⟩
 ·rw [if_neg hq]
  generalize (Question.extern "math.Floor,Ceil,Trunc,RoundToEven.signallingNaN kept" 2)=q
  have hch:∃n w',(choose q:Sem Nat).run P w=.ok n w'∧Drew w w':=by
   rw [run_choose]
   split
   ·exact ⟨_,_,rfl,.refl w⟩
   ·exact ⟨_,_,rfl,.drew w⟩
  obtain ⟨n,w',h1,h2⟩:=hch
  refine ⟨_,w',by rw [Sem.run_bind,h1,Result.andThen_ok,Sem.run_pure],?_,h2,fun es=>by rw [Sem.events_bind,h1,Result.evThen_ok,Sem.events_pure,events_choose]⟩
  by_cases hk:(n==1)=true
  ·rw [if_pos hk];exact (z1s hn).symm
  ·rw [if_neg hk];exact (zym s t b h).symm
theorem z1c8 {P:Program} (name:String) (way:Ieee.Toward) (b:Nat) (w:World):∃r w',(Extern.MathFloor.toIntegral name way #[.float .f64 b]).run P w=.ok (.float .f64 r) w'∧fint way (cn .f64 b)=cn .f64 r∧Drew w w'∧∀es,(Extern.MathFloor.toIntegral name way #[.float .f64 b]).events P w es=es:=by
 rw [z1k8,show FloatKind.f64.decode b=FloatKind.f64.format.read b from rfl]
 cases h:FloatKind.f64.format.read b with
 | nan s t=>exact z1c9 s t b w way h
 | number s m i=>exact zp0 _ b w way h rfl
 | infinity s=>exact zp0 _ b w way h rfl
end Go.Proofs.YthheoefadijhdaaGreat.Ai
