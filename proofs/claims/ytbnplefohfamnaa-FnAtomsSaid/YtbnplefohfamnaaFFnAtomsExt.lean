/- Functions of the library that have no Go text: what the model's rows for them do. -/
import Derived.Test.YtbnplefohfamnaaFFnAtomsLibB
import Derived.Test.YtbnplefohfamnaaFFnAtomsFl
import Derived.Laws.Externs
set_option linter.unusedVariables false
namespace Go.Proofs.Ytbnplefohfamnaa.Ai
open Go Go.RowKit

theorem FnOk.ext {P:Program} {g:Nat} {S:FSpec} (ht:S.tame=false)
  (mono:∀(args:List Value) (H:zd) (K K':Value→zd→Prop),(∀v H',K v H'→K' v H')→S.F args H K→S.F args H K')
  (quiet:S.quiet=true→∀(args:List Value) (H:zd) (K:Value→zd→Prop),S.F args H K→∃v,K v H∧∀K':Value→zd→Prop,K' v H→S.F args H K')
  (live:∀(args:List Value) (H:zd) (K:Value→zd→Prop),S.F args H K→∃v H',K v H')
  (hs:∀(ρ:Ren) (w:World) (args args':List Value) (H:zd) (K:Value→zd→Prop),VRs ρ args args'→S.F args H K→
   ∃v v' w',(callFunc g args'.toArray).run P w=.ok (.value v') w'∧Drew w w'∧VR ρ v v'∧K v H):FnOk P g S:=by
 refine ⟨mono,quiet,live,(fun h=>by rw [ht] at h;cases h),?_⟩
 intro B0 ρ H w args args' K hr ha hk o a next Q hn
 obtain ⟨v,v',w',h1,h2,h3,h4⟩:=hs ρ w args args' H K ha hk
 rw [h1,Oper.upon_value]
 exact hn v H h4 ρ w' v' (List.prefix_refl _) (hr.drew h2) h3 (h2.below B0)

theorem FnOk.ext1 {P:Program} {g:Nat} {S:FSpec} {fn:Func} {e:Array Value→Sem Value} {f:Nat→Nat} (ht:S.tame=false)
  (hF:∀(args:List Value) (H:zd) (K:Value→zd→Prop),S.F args H K→∃x,args=[.float .f64 x]∧K (.float .f64 (f x)) H)
  (hB:∀(x:Nat) (H:zd) (K:Value→zd→Prop),K (.float .f64 (f x)) H→S.F [.float .f64 x] H K)
  (hf:P.funcs[g]? =some fn) (hname:(fn.name== "runtime.NumGoroutine")=false) (hb:fn.body.isNone=true) (hn:Extern.findNext fn=Option.none) (he:Extern.find fn=some e)
  (hr:∀(b:Nat) (w:World),∃r w',(e #[.float .f64 b]).run P w=.ok (.float .f64 r) w'∧f (cn .f64 b)=cn .f64 r∧Drew w w'):FnOk P g S:=by
 refine .ext ht ?_ ?_ ?_ ?_
 ·intro args H K K' h hk
  obtain ⟨x,rfl,k⟩:=hF _ _ _ hk
  exact hB _ _ _ (h _ _ k)
 ·intro _ args H K hk
  obtain ⟨x,rfl,k⟩:=hF _ _ _ hk
  exact ⟨_,k,fun K' k'=>hB _ _ _ k'⟩
 ·intro args H K hk
  obtain ⟨x,rfl,k⟩:=hF _ _ _ hk
  exact ⟨_,_,k⟩
 ·intro ρ w args args' H K ha hk
  obtain ⟨x,rfl,k⟩:=hF _ _ _ hk
  obtain ⟨y,ys,rfl,h3,h4⟩:=ha.uncons
  obtain rfl:=h4.unnil
  cases h3 with
  | float k0 a b hab=>
   obtain ⟨r,w',h1,h2,h3⟩:=hr b w
   refine ⟨_,.float .f64 r,w',?_,h3,.float .f64 _ r (by rw [←h2,hab]),k⟩
   have:=run_callFunc_extern hf hname hb hn he #[.float .f64 b] w
   rw [this,h1];rfl

theorem zkw {n:Nat} {d r:Ieee.Datum} (h:Ieee.Datum.root n d=some r):r.isNaN=false:=by
 cases d with
 | nan s t=>cases h
 | infinity s=>
  simp only [Ieee.Datum.root] at h
  split at h
  ·cases h
  ·cases h;rfl
 | number s m i=>
  simp only [Ieee.Datum.root] at h
  split at h
  ·cases h;rfl
  ·split at h
   ·cases h
   ·cases h;rfl
theorem zxi {k:FloatKind} {x r:Nat} (h:k.format.sqrt x=some r):cn k r=r:=by
 unfold Ieee.Format.sqrt at h
 cases hd:Ieee.Datum.root (k.format.fractionBits+2) (k.format.read x) with
 | none=>rw [hd] at h;cases h
 | some d=>rw [hd] at h;cases h;exact z3b k (zkw hd)
theorem z18j (k:FloatKind) (x:Nat):k.format.sqrt (cn k x)=k.format.sqrt x:=by
 cases h:(k.decode x).isNaN
 ·rw [zo h]
 ·obtain ⟨s,t,e1⟩:=z1i _ h
  obtain ⟨s',t',e2⟩:=z1i (k.decode (cn k x)) (by rw [←h];exact zf0 k x)
  have e1:k.format.read x=.nan s t:=e1
  have e2:k.format.read (cn k x)=.nan s' t':=e2
  unfold Ieee.Format.sqrt
  rw [e1,e2];rfl
theorem zz4 {P:Program} (b:Nat) (w:World):∃r w',(Extern.MathSqrt.sqrt #[.float .f64 b]).run P w=.ok (.float .f64 r) w'∧zdi .f64 (cn .f64 b)=cn .f64 r∧Drew w w':=by
 obtain ⟨r,w',h1,h2,h3⟩:=zd6 (P:=P) .f64 b b (FloatKind.f64.format.sqrt b) (fun r h=>zxi h) w
 exact ⟨r,w',h1,by unfold zdi;rw [z18j,h2],h3⟩

def fint (way:Ieee.Toward) (x:Nat):Nat:=if (FloatKind.f64.format.read x).isNaN then qnan .f64 else FloatKind.f64.encode ((FloatKind.f64.format.read x).integral way)
theorem zbm {way:Ieee.Toward} {d:Ieee.Datum} (h:d.isNaN=false):(d.integral way).isNaN=false:=by
 cases d with
 | nan s t=>cases h
 | infinity s=>rfl
 | number s m i=>rfl
theorem zx6 (s:Bool) (t:Nat) (x:Nat) (h:FloatKind.f64.format.read x=.nan s t):cn .f64 (FloatKind.f64.encode (.nan s (FloatKind.f64.format.quiet t)))=qnan .f64:=by
 refine z1f ?_
 have ht:t<FloatKind.f64.format.binade∧0<t:=by
  revert h
  show Ieee.Format.read Ieee.double x=_→_
  unfold Ieee.Format.read
  have bi:Ieee.double.binade=2 ^ 52:=rfl
  have ir:Ieee.double.infRung=2047*2 ^ 52:=rfl
  have sw:Ieee.double.signWeight=2 ^ 63:=rfl
  simp only [bi,ir,sw]
  have hm:=Nat.mod_lt x (y:=2 ^ 63) (by decide)
  generalize x % 2 ^ 63=r at *
  split
  ·intro h;cases h
  ·split
   ·intro h;cases h
   ·split
    ·intro h;cases h
    ·intro h;cases h;show _<2 ^ 52∧_;omega
 have hq:t ||| 2 ^ 51<2 ^ 52∧0<t ||| 2 ^ 51:=⟨Nat.or_lt_two_pow ht.1 (by decide),Nat.lt_of_lt_of_le ht.2 Nat.left_le_or⟩
 show (FloatKind.f64.format.read (FloatKind.f64.format.word s (FloatKind.f64.format.infRung+(t ||| 2 ^ 51) % 2 ^ 52))).isNaN=true
 generalize t ||| 2 ^ 51=q at hq
 rw [Nat.mod_eq_of_lt hq.1]
 have e:FloatKind.f64.format.word s (FloatKind.f64.format.infRung+q) % FloatKind.f64.format.signWeight=FloatKind.f64.format.infRung+q:=by
  have ir:FloatKind.f64.format.infRung=2047*2 ^ 52:=rfl
  have sw:FloatKind.f64.format.signWeight=2 ^ 63:=rfl
  unfold Ieee.Format.word
  rw [sw,ir]
  cases s
  ·simp;omega
  ·simp;omega
 unfold Ieee.Format.read
 simp only [e]
 have ir:FloatKind.f64.format.infRung=2047*2 ^ 52:=rfl
 have bi:FloatKind.f64.format.binade=2 ^ 52:=rfl
 rw [ir,bi,if_neg (by omega),if_neg (by omega),if_neg (by omega)]
 rfl
theorem z1co (name:String) (way:Ieee.Toward) (b:Nat):Extern.MathFloor.toIntegral name way #[.float .f64 b]=
  (match FloatKind.f64.decode b with
  | .nan s t=>
   if FloatKind.f64.format.quiet t=t then pure (.float .f64 b) else do
   let kept ←choose (.extern "math.Floor,Ceil,Trunc,RoundToEven.signallingNaN kept" 2)
   pure (.float .f64 (if kept==1 then b else FloatKind.f64.encode (.nan s (FloatKind.f64.format.quiet t))))
  | d=>pure (.float .f64 (FloatKind.f64.encode (d.integral way))):Sem Value):=rfl
theorem zog {P:Program} (d:Ieee.Datum) (b:Nat) (w:World) (way:Ieee.Toward) (h:FloatKind.f64.format.read b=d) (hd:d.isNaN=false):
  ∃r w',(pure (.float .f64 (FloatKind.f64.encode (d.integral way))):Sem Value).run P w=.ok (.float .f64 r) w'∧fint way (cn .f64 b)=cn .f64 r∧Drew w w':=by
 have hn:(FloatKind.f64.decode b).isNaN=false:=by show (FloatKind.f64.format.read b).isNaN=false;rw [h];exact hd
 refine ⟨_,w,Sem.run_pure _ _ _,?_,.refl w⟩
 rw [zo hn,z3b .f64 (zbm hd)]
 unfold fint
 rw [h,hd]
 exact if_neg (by decide)
theorem zzp (way:Ieee.Toward) {b:Nat} (hn:(FloatKind.f64.decode b).isNaN=true):fint way (cn .f64 b)=qnan .f64:=by
 rw [z1f hn]
 unfold fint
 rw [show (FloatKind.f64.format.read (qnan .f64)).isNaN=true from z5h .f64]
 exact if_pos rfl
theorem z14s {P:Program} (s:Bool) (t b:Nat) (w:World) (way:Ieee.Toward) (h:FloatKind.f64.format.read b=.nan s t):
  ∃r w',(if FloatKind.f64.format.quiet t=t then pure (.float .f64 b) else do
   let kept ←choose (.extern "math.Floor,Ceil,Trunc,RoundToEven.signallingNaN kept" 2)
   pure (.float .f64 (if kept==1 then b else FloatKind.f64.encode (.nan s (FloatKind.f64.format.quiet t)))):Sem Value).run P w=.ok (.float .f64 r) w'∧fint way (cn .f64 b)=cn .f64 r∧Drew w w':=by
 have hn:(FloatKind.f64.decode b).isNaN=true:=by show (FloatKind.f64.format.read b).isNaN=true;rw [h];rfl
 rw [zzp way hn]
 by_cases hq:FloatKind.f64.format.quiet t=t
 ·rw [if_pos hq]
  exact ⟨b,w,Sem.run_pure _ _ _,(z1f hn).symm,.refl w⟩
 ·rw [if_neg hq]
  generalize (Question.extern "math.Floor,Ceil,Trunc,RoundToEven.signallingNaN kept" 2)=q
  have hch:∃n w',(choose q:Sem Nat).run P w=.ok n w'∧Drew w w':=by
   rw [run_choose]
   split
   ·exact ⟨_,_,rfl,.refl w⟩
   ·exact ⟨_,_,rfl,.drew w⟩
  obtain ⟨n,w',h1,h2⟩:=hch
  refine ⟨_,w',by rw [Sem.run_bind,h1,Result.andThen_ok,Sem.run_pure],?_,h2⟩
  by_cases hk:(n==1)=true
  ·rw [if_pos hk];exact (z1f hn).symm
  ·rw [if_neg hk];exact (zx6 s t b h).symm
theorem z14r {P:Program} (name:String) (way:Ieee.Toward) (b:Nat) (w:World):∃r w',(Extern.MathFloor.toIntegral name way #[.float .f64 b]).run P w=.ok (.float .f64 r) w'∧fint way (cn .f64 b)=cn .f64 r∧Drew w w':=by
 rw [z1co,show FloatKind.f64.decode b=FloatKind.f64.format.read b from rfl]
 cases h:FloatKind.f64.format.read b with
 | nan s t=>exact z14s s t b w way h
 | number s m i=>exact zog _ b w way h rfl
 | infinity s=>exact zog _ b w way h rfl
end Go.Proofs.Ytbnplefohfamnaa.Ai
