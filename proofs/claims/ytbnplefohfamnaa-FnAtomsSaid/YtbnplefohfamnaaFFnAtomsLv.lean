/- What a piece of code still reads of its temporaries: behind each region the others are struck out. The code comes to the same. -/
import Derived.Test.YtbnplefohfamnaaFFnAtomsAiM
set_option linter.unusedVariables false
set_option linter.unusedSimpArgs false
namespace Go.Proofs.Ytbnplefohfamnaa.Ai
open Go

abbrev ud:Value:=undef
def bitT (t:Nat):Nat:=Nat.shiftLeft 1 t
def orT (a b:Nat):Nat:=Nat.lor a b
def rmT (a t:Nat):Nat:=Nat.land a (Nat.xor a (bitT t))
def rdO:Operand→Nat
 | .tmp t=>bitT t
 | _=>0
def rdL:List Operand→Nat
 | []=>0
 | x::r=>orT (rdO x) (rdL r)
def rdM:Option Operand→Nat
 | some x=>rdO x
 | none=>0
def rdOp (o:Op):Nat:=
 match o with
 | .move x | .assign x=>rdO x
 | .pick c a b=>orT (rdO c) (orT (rdO a) (rdO b))
 | .box _ x=>rdO x
 | .build _ parts=>rdL (parts.toList.map (·.2))
 | .buildSlice _ _ parts=>rdL (parts.toList.map (·.2))
 | .load _ a=>rdO a
 | .store _ a x=>orT (rdO a) (rdO x)
 | .nilCheck x=>rdO x
 | .binOp _ _ x y _=>orT (rdO x) (rdO y)
 | .unOp _ _ x=>rdO x
 | .convert _ _ x=>rdO x
 | .makeFunc _ first cap=>orT (rdL first.toList) (rdL cap.toList)
 | .makeSlice _ n c=>orT (rdO n) (rdO c)
 | .slice _ x lo hi mx=>orT (rdO x) (orT (rdM lo) (orT (rdM hi) (rdM mx)))
 | .fieldAddr _ x _=>rdO x
 | .field _ x _=>rdO x
 | .indexAddr _ x i=>orT (rdO x) (rdO i)
 | .index _ x i=>orT (rdO x) (rdO i)
 | .extract t _=>rdO t
 | .call c=>orT (match c.callee with | .value f=>rdO f | _=>0) (rdL c.args.toList)
 | _=>0
def rdG (ops:List Oper) (o:Oper):Nat:=
 match o.guard with
 | none=>0
 | some (j,_)=>match ops[j]? with
  | some ⟨some d,_,_,_,_,_⟩=>bitT d
  | _=>0
def rmD (a:Nat):Option Tmp→Nat
 | some t=>rmT a t
 | none=>a
def liveR (ops:List Oper):List Oper→Nat→Nat
 | [],n=>n
 | o::r,n=>orT (rmD (liveR ops r n) o.dst) (orT (rdOp o.op) (rdG ops o))
def exT:List (Nat×Nat)→Nat→Nat
 | [],_=>0
 | (i,n)::r,id=>cond (Nat.beq i id) n (exT r id)
def z3e:Code→Nat→Nat→List (Nat×Nat)→Nat
 | .skip,n,_,_=>n
 | .region _ ops draw,n,_,_=>liveR ops.toList (zmd draw ops.toList) n
 | .seq a b,n,r,ex=>z3e a (z3e b n r ex) r ex
 | .cond c a b,n,r,ex=>orT (rdO c) (orT (z3e a n r ex) (z3e b n r ex))
 | .block id c,n,r,ex=>z3e c n r ((id,n)::ex)
 | .loop c,_,r,ex=>z3e c 0 r ex
 | .exit id,_,_,ex=>exT ex id
 | .ret,_,r,_=>r
 | _,n,_,_=>n
def restr:Nat→List Value→List Value
 | _,[]=>[]
 | m,x::r=>cond (Nat.beq (m % 2) 1) x ud::restr (m / 2) r
def subT (a b:Nat):Bool:=Nat.beq (Nat.land a b) a

section
variable (P:Program)
def exL (env:Env):Code→Nat→Nat→List (Nat×Nat)→List Value→zd→Post→Prop
 | .skip,n,r,ex,tm,H,Q=>Q .normal (restr n tm) H
 | .region _ ops draw,n,r,ex,tm,H,Q=>seqK P env ops.toList (zmd draw ops.toList) tm H fun tm' H'=>Q .normal (restr n tm') H'
 | .seq a b,n,r,ex,tm,H,Q=>exL env a (z3e b n r ex) r ex tm H (seqQ (exL env b n r ex) Q)
 | .cond c a b,n,r,ex,tm,H,Q=>zg0 (evT tm c) fun t=>z8u t fun t=>cond t (exL env a n r ex (restr (z3e a n r ex) tm) H Q) (exL env b n r ex (restr (z3e b n r ex) tm) H Q)
 | .block id c,n,r,ex,tm,H,Q=>exL env c n r ((id,n)::ex) tm H (zn id Q)
 | .loop c,n,r,ex,tm,H,Q=>chk (subT (z3e c (z3e c 0 r ex) r ex) (z3e c 0 r ex)) (z1b (exL env c (z3e c 0 r ex) r ex) (restr (z3e c 0 r ex) tm) H Q)
 | .exit id,n,r,ex,tm,H,Q=>Q (.exit id) (restr (exT ex id) tm) H
 | .ret,n,r,ex,tm,H,Q=>Q .ret (restr r tm) H
 | _,_,_,_,_,_,_=>False
def zsa:List ResultVar→Nat
 | []=>0
 | .tmp t::r=>orT (bitT t) (zsa r)
 | .cell a _::r=>orT (bitT a) (zsa r)
def zk (env:Env) (fn:Func) (args:List Value) (H:zd) (K:Value→zd→Prop):Prop:=
 match fn.body with
 | some c=>exL P env c (zsa fn.results.toList) (zsa fn.results.toList) [] (args++List.replicate (fn.ntmps-args.length) undef) H (retK P fn K)
 | none=>False
end

theorem z9l (t s:Nat):(bitT t).testBit s=decide (t=s):=by
 show ((1:Nat) <<< t).testBit s=_
 rw [Nat.one_shiftLeft,Nat.testBit_two_pow]
theorem zwu (a b s:Nat):(orT a b).testBit s=(a.testBit s || b.testBit s):=Nat.testBit_or a b s
theorem zx9 (a t s:Nat):(rmT a t).testBit s=(a.testBit s && !(decide (t=s))):=by
 show (a &&& (a ^^^ bitT t)).testBit s=_
 rw [Nat.testBit_and,Nat.testBit_xor,z9l]
 cases a.testBit s<;>cases decide (t=s)<;>rfl
def Agr (n:Nat) (tm tm':List Value):Prop:=tm.length=tm'.length∧∀s,n.testBit s=true→tm.getD s undef=tm'.getD s undef
theorem Agr.left {a b:Nat} {tm tm':List Value} (h:Agr (orT a b) tm tm'):Agr a tm tm':=⟨h.1,fun s hs=>h.2 s (by rw [zwu,hs];rfl)⟩
theorem Agr.right {a b:Nat} {tm tm':List Value} (h:Agr (orT a b) tm tm'):Agr b tm tm':=⟨h.1,fun s hs=>h.2 s (by rw [zwu,hs,Bool.or_true])⟩
theorem zku:∀(tm:List Value) (n:Nat),(restr n tm).length=tm.length:=by
 intro tm
 induction tm with
 | nil=>intro n;rfl
 | cons x r ih=>intro n;simp [restr,ih]
theorem zx8:∀(tm:List Value) (n s:Nat),n.testBit s=true→(restr n tm).getD s undef=tm.getD s undef:=by
 intro tm
 induction tm with
 | nil=>intro n s h;rfl
 | cons x r ih=>
  intro n s h
  cases s with
  | zero=>
   have:n % 2=1:=by simpa [Nat.testBit_zero] using h
   show (cond (Nat.beq (n % 2) 1) x ud::restr (n / 2) r).getD 0 undef=_
   rw [this];rfl
  | succ s=>
   rw [Nat.testBit_succ] at h
   show (cond (Nat.beq (n % 2) 1) x ud::restr (n / 2) r).getD (s+1) undef=_
   rw [List.getD_cons_succ,List.getD_cons_succ]
   exact ih _ _ h
theorem Agr.restr {n:Nat} {tm tm':List Value} (h:Agr n tm tm'):Agr n (Ai.restr n tm) tm':=
 ⟨(zku _ _).trans h.1,fun s hs=>(zx8 _ _ _ hs).trans (h.2 s hs)⟩
theorem Agr.ev {x:Operand} {tm tm':List Value} (h:Agr (rdO x) tm tm'):evT tm x=evT tm' x:=by
 cases x with
 | tmp t=>exact h.2 t (by show (bitT t).testBit t=true;rw [z9l];simp)
 | _=>rfl
theorem Agr.evL:∀{l:List Operand} {tm tm':List Value},Agr (rdL l) tm tm'→l.map (evT tm)=l.map (evT tm'):=by
 intro l
 induction l with
 | nil=>intro tm tm' h;rfl
 | cons x r ih=>intro tm tm' h;rw [List.map_cons,List.map_cons,Agr.ev (Agr.left h),ih (Agr.right h)]
theorem Agr.evP:∀{l:List (Nat×Operand)} {tm tm':List Value},Agr (rdL (l.map (·.2))) tm tm'→(l.map fun (i,x)=>(i,evT tm x))=l.map fun (i,x)=>(i,evT tm' x):=by
 intro l
 induction l with
 | nil=>intro tm tm' h;rfl
 | cons x r ih=>
  intro tm tm' h
  obtain ⟨i,x⟩:=x
  rw [List.map_cons,List.map_cons]
  have h1:evT tm x=evT tm' x:=Agr.ev (Agr.left h)
  rw [ih (Agr.right h)]
  show (i,evT tm x)::_=(i,evT tm' x)::_
  rw [h1]
theorem Agr.evM {x:Option Operand} {tm tm':List Value} (h:Agr (rdM x) tm tm'):x.map (evT tm)=x.map (evT tm'):=by
 cases x with
 | none=>rfl
 | some x=>show some _=some _;rw [Agr.ev h]

section
variable {P:Program}
theorem z17q {env:Env} {o:Oper} {tm tm':List Value} (h:Agr (rdOp o.op) tm tm') (H:zd) (K:Value→zd→Prop):opK P env o (evT tm) H K=opK P env o (evT tm') H K:=by
 unfold opK
 cases ho:o.op with
 | move x=>rw [ho] at h;simp only [Agr.ev h]
 | assign x=>rw [ho] at h;simp only [Agr.ev h]
 | pick c a b=>rw [ho] at h;simp only [Agr.ev (Agr.left h),Agr.ev (Agr.left (Agr.right h)),Agr.ev (Agr.right (Agr.right h))]
 | box t x=>rw [ho] at h;simp only [Agr.ev h]
 | build t parts=>rw [ho] at h;simp only [Agr.evP h]
 | buildSlice t n parts=>rw [ho] at h;simp only [Agr.evP h]
 | load t a=>rw [ho] at h;simp only [Agr.ev h]
 | store t a x=>rw [ho] at h;simp only [Agr.ev (Agr.left h),Agr.ev (Agr.right h)]
 | nilCheck x=>rw [ho] at h;simp only [Agr.ev h]
 | binOp a b x y c=>rw [ho] at h;simp only [Agr.ev (Agr.left h),Agr.ev (Agr.right h)]
 | unOp a b x=>rw [ho] at h;simp only [Agr.ev h]
 | convert a b x=>rw [ho] at h;simp only [Agr.ev h]
 | makeFunc f a b=>rw [ho] at h;simp only [Agr.evL (Agr.left h),Agr.evL (Agr.right h)]
 | makeSlice t n c=>rw [ho] at h;simp only [Agr.ev (Agr.left h),Agr.ev (Agr.right h)]
 | slice t x lo hi mx=>rw [ho] at h;simp only [Agr.ev (Agr.left h),Agr.evM (Agr.left (Agr.right h)),Agr.evM (Agr.left (Agr.right (Agr.right h))),Agr.evM (Agr.right (Agr.right (Agr.right h)))]
 | fieldAddr s x f=>rw [ho] at h;simp only [Agr.ev h]
 | field s x f=>rw [ho] at h;simp only [Agr.ev h]
 | indexAddr t x i=>rw [ho] at h;simp only [Agr.ev (Agr.left h),Agr.ev (Agr.right h)]
 | index t x i=>rw [ho] at h;simp only [Agr.ev (Agr.left h),Agr.ev (Agr.right h)]
 | extract t i=>rw [ho] at h;simp only [Agr.ev h]
 | call c=>
  rw [ho] at h
  have h2:=Agr.evL (Agr.right h)
  have h1:=Agr.left h
  cases hc:c.callee with
  | builtin b=>simp only [h2,hc]
  | value f=>
   rw [hc] at h1
   simp only [h2,hc,Agr.ev h1]
  | _=>simp only [hc]
 | _=>rfl
theorem zwg {ops:List Oper} {o:Oper} {tm tm':List Value} (h:Agr (rdOp o.op) tm tm'):zgg ops o (evT tm)=zgg ops o (evT tm'):=by
 unfold zgg
 cases ho:o.op with
 | call c=>
  rw [ho] at h
  have h2:=Agr.right h
  cases hc:c.callee with
  | builtin b=>
   cases ha:c.args.toList with
   | nil=>cases b<;>simp only [hc,ha]
   | cons x r=>
    rw [ha] at h2
    cases b<;>simp only [hc,ha,Agr.ev (Agr.left h2)]
  | _=>simp only [hc]
 | _=>rfl
theorem zxv {env:Env} {o:Oper} {tm tm':List Value} (h:Agr (rdOp o.op) tm tm'):zh6 env o (evT tm)=zh6 env o (evT tm'):=by
 unfold zh6
 cases ho:o.op with
 | call c=>
  rw [ho] at h
  have h1:=Agr.left h
  cases hc:c.callee with
  | value f=>
   rw [hc] at h1
   cases f with
   | tmp t=>simp only [hc,Agr.ev h1]
   | _=>simp only [hc]
  | _=>simp only [hc]
 | _=>rfl
theorem z17s {env:Env} {ops:List Oper} {o:Oper} {tm tm':List Value} (h:Agr (rdOp o.op) tm tm') (H:zd) (K:Value→zd→Prop):opS P env ops o (evT tm) H K=opS P env ops o (evT tm') H K:=by
 unfold opS
 rw [zwg h,zxv h,z17q h]

theorem Agr.set {n:Nat} {tm tm':List Value} (d:Tmp) (v:Value) (h:Agr (rmT n d) tm tm'):Agr n (tm.set d v) (tm'.set d v):=by
 refine ⟨by simp [h.1],fun s hs=>?_⟩
 rw [List.getD_eq_getElem?_getD,List.getD_eq_getElem?_getD,List.getElem?_set,List.getElem?_set]
 by_cases e:d=s
 ·rw [if_pos e,if_pos e,h.1]
 ·rw [if_neg e,if_neg e]
  have:=h.2 s (by rw [zx9,hs];simp [e])
  rwa [List.getD_eq_getElem?_getD,List.getD_eq_getElem?_getD] at this
theorem Agr.put {n:Nat} {tm tm':List Value} (d:Option Tmp) (v:Value) (h:Agr (rmD n d) tm tm'):Agr n (putT tm d v) (putT tm' d v):=by
 cases d with
 | none=>exact h
 | some d=>exact Agr.set d v h
theorem Agr.mono {a b:Nat} {tm tm':List Value} (h:Agr a tm tm') (hab:∀s,b.testBit s=true→a.testBit s=true):Agr b tm tm':=⟨h.1,fun s hs=>h.2 s (hab s hs)⟩
theorem Agr.setM {n:Nat} {tm tm':List Value} (d:Tmp) (v:Value) (h:Agr n tm tm'):Agr n (tm.set d v) (tm'.set d v):=
 Agr.set d v (h.mono fun s hs=>by rw [zx9] at hs;exact (Bool.and_eq_true _ _ ▸ hs).1)
theorem zxl {env:Env} (henv:∀g,FnOk P g (env g)) {ops:List Oper} {o:Oper} {n:Nat} {tm tm':List Value} {H:zd} {K K':List Value→zd→Prop}
  (h:Agr (orT (rmD n o.dst) (orT (rdOp o.op) (rdG ops o))) tm tm') (hk:∀s s' H,Agr n s s'→K s H→K' s' H) (hs:z6s P env ops o tm H K):z6s P env ops o tm' H K':=by
 have one:∀tm tm':List Value,Agr (orT (rmD n o.dst) (orT (rdOp o.op) (rdG ops o))) tm tm'→opS P env ops o (evT tm) H (fun v H'=>K (putT tm o.dst v) H')→opS P env ops o (evT tm') H (fun v H'=>K' (putT tm' o.dst v) H'):=by
  intro tm tm' h hs
  rw [←z17s h.right.left]
  exact zbu henv (fun v H' k=>hk _ _ _ (Agr.put _ _ h.left) k) hs
 unfold z6s at *
 cases hg:o.guard with
 | none=>
  rw [hg] at hs
  exact one _ _ h hs
 | some jw=>
  obtain ⟨j,want⟩:=jw
  rw [hg] at hs
  simp only [] at hs ⊢
  cases hj:ops[j]? with
  | none=>rw [hj] at hs;exact hs.elim
  | some q=>
   obtain ⟨qd,q1,q2,q3,q4,q5⟩:=q
   rw [hj] at hs
   cases qd with
   | none=>exact hs.elim
   | some d=>
    simp only [] at hs ⊢
    have hd:tm.getD d undef=tm'.getD d undef:=by
     have h2:=h.right.right
     unfold rdG at h2
     rw [hg] at h2
     simp only [hj] at h2
     exact h2.2 d (by rw [z9l];simp)
    rw [←hd]
    cases hv:tm.getD d undef with
    | bool t=>
     rw [hv] at hs
     simp only [] at hs ⊢
     cases t
     ·simp only [z8u,cond_false] at hs ⊢
      cases want
      ·exact one _ _ (Agr.setM d _ h) hs
      ·exact hk _ _ _ (Agr.put _ _ (Agr.setM d _ h).left) hs
     ·simp only [z8u,cond_true] at hs ⊢
      cases want
      ·exact hk _ _ _ (Agr.put _ _ (Agr.setM d _ h).left) hs
      ·exact one _ _ (Agr.setM d _ h) hs
    | tuple vs=>rw [hv] at hs;exact hk _ _ _ (Agr.put _ _ h.left) hs
    | _=>rw [hv] at hs;exact hs.elim
theorem z12b {env:Env} (henv:∀g,FnOk P g (env g)) {ops:List Oper} {n:Nat}:∀{l:List Oper} {tm tm':List Value} {H:zd} {K K':List Value→zd→Prop},
  Agr (liveR ops l n) tm tm'→(∀s s' H,Agr n s s'→K s H→K' s' H)→seqK P env ops l tm H K→seqK P env ops l tm' H K':=by
 intro l
 induction l with
 | nil=>intro tm tm' H K K' h hk hs;exact hk _ _ _ h hs
 | cons o r ih=>intro tm tm' H K K' h hk hs;exact zxl henv h (fun s s' H' ha=>ih ha hk) hs
def Rel (n r:Nat) (ex:List (Nat×Nat)) (Q Q':Post):Prop:=
 (∀s s' H,Agr n s s'→Q .normal s H→Q' .normal s' H)∧(∀s s' H,Agr r s s'→Q .ret s H→Q' .ret s' H)∧∀id s s' H,Agr (exT ex id) s s'→Q (.exit id) s H→Q' (.exit id) s' H
theorem zr7 {v:Value} {K:Bool→Prop} (h:zg0 v K):∃b,v=.bool b∧K b:=by
 cases v with
 | bool b=>exact ⟨b,rfl,h⟩
 | _=>exact h.elim
theorem zuo {env:Env} (henv:∀g,FnOk P g (env g)):∀(c:Code) (n r:Nat) (ex:List (Nat×Nat)) (tm tm':List Value) (H:zd) (Q Q':Post),
  Agr (z3e c n r ex) tm tm'→Rel n r ex Q Q'→exL P env c n r ex tm H Q→exK P env c tm' H Q':=by
 intro c
 induction c with
 | skip=>intro n r ex tm tm' H Q Q' h hq hx;exact hq.1 _ _ _ h.restr hx
 | region a ops draw=>
  intro n r ex tm tm' H Q Q' h hq hx
  exact z12b henv h (fun s s' H' ha hk=>hq.1 _ _ _ ha.restr hk) hx
 | seq a b iha ihb=>
  intro n r ex tm tm' H Q Q' h hq hx
  have hx:exL P env a (z3e b n r ex) r ex tm H (seqQ (exL P env b n r ex) Q):=hx
  exact iha _ _ _ _ _ _ (seqQ (exL P env b n r ex) Q) _ h ⟨fun s s' H ha hk=>ihb _ _ _ _ _ _ _ _ ha hq hk,hq.2.1,hq.2.2⟩ hx
 | cond c a b iha ihb=>
  intro n r ex tm tm' H Q Q' h hq hx
  have hx:zg0 (evT tm c) fun t=>z8u t fun t=>cond t (exL P env a n r ex (restr (z3e a n r ex) tm) H Q) (exL P env b n r ex (restr (z3e b n r ex) tm) H Q):=hx
  show zg0 (evT tm' c) fun t=>z8u t fun t=>cond t (exK P env a tm' H Q') (exK P env b tm' H Q')
  rw [Agr.ev (Agr.left h)] at hx
  obtain ⟨t,ht,hx⟩:=zr7 hx
  rw [ht]
  cases t
  ·exact ihb _ _ _ _ _ _ _ _ (Agr.right (Agr.right h)).restr hq hx
  ·exact iha _ _ _ _ _ _ _ _ (Agr.left (Agr.right h)).restr hq hx
 | block id c ih=>
  intro n r ex tm tm' H Q Q' h hq hx
  have hx:exL P env c n r ((id,n)::ex) tm H (zn id Q):=hx
  refine ih _ _ _ _ _ _ (zn id Q) _ h ⟨hq.1,hq.2.1,fun id' s s' H ha hk=>?_⟩ hx
  have hk:cond (Nat.beq id' id) (Q .normal s H) (Q (.exit id') s H):=hk
  show cond (Nat.beq id' id) (Q' .normal s' H) (Q' (.exit id') s' H)
  have ha:Agr (cond (Nat.beq id id') n (exT ex id')) s s':=ha
  cases hb:Nat.beq id' id with
  | true=>
   have e:=Nat.eq_of_beq_eq_true hb
   subst e
   rw [hb] at hk ha
   exact hq.1 _ _ _ ha hk
  | false=>
   have hb2:Nat.beq id id'=false:=by
    cases hc:Nat.beq id id' with
    | false=>rfl
    | true=>have:=Nat.eq_of_beq_eq_true hc;subst this;rw [hc] at hb;cases hb
   rw [hb] at hk;rw [hb2] at ha
   exact hq.2.2 _ _ _ _ ha hk
 | loop c ih=>
  intro n r ex tm tm' H Q Q' h hq hx
  obtain ⟨hsub,I,m,h0,hs⟩:=z1d hx
  have hX:∀s,(z3e c (z3e c 0 r ex) r ex).testBit s=true→(z3e c 0 r ex).testBit s=true:=by
   intro s hs
   have e:=Nat.eq_of_beq_eq_true hsub
   have:(Nat.land (z3e c (z3e c 0 r ex) r ex) (z3e c 0 r ex)).testBit s=true:=by rw [e];exact hs
   have this:((z3e c (z3e c 0 r ex) r ex) &&& (z3e c 0 r ex)).testBit s=true:=this
   rw [Nat.testBit_and,hs] at this;simpa using this
  have h:Agr (z3e c 0 r ex) tm tm':=h
  refine ⟨fun k s' H=>∃s,Agr (z3e c 0 r ex) s s'∧I k s H,m,⟨_,h.restr,h0⟩,?_⟩
  rintro k s' H ⟨s,ha,hI⟩
  refine ih _ _ _ _ _ _ (zp I k Q) _ (ha.mono hX) ⟨fun s s' H ha hk=>?_,hq.2.1,hq.2.2⟩ (hs k s H hI)
  obtain ⟨k',h1,h2⟩:=hk
  exact ⟨k',h1,s,ha,h2⟩
 | exit id=>intro n r ex tm tm' H Q Q' h hq hx;exact hq.2.2 _ _ _ _ (Agr.restr h) hx
 | ret=>intro n r ex tm tm' H Q Q' h hq hx;exact hq.2.1 _ _ _ (Agr.restr h) hx
 | _=>intro n r ex tm tm' H Q Q' h hq hx;exact hx.elim
theorem z11w:∀{l:List ResultVar} {tm tm':List Value} {H:zd} {K:List Value→Prop},Agr (zsa l) tm tm'→resK P l tm H K=resK P l tm' H K:=by
 intro l
 induction l with
 | nil=>intro tm tm' H K h;rfl
 | cons x r ih=>
  intro tm tm' H K h
  cases x with
  | tmp t=>
   show resK P r tm H (fun l=>K (tm.getD t undef::l))=resK P r tm' H (fun l=>K (tm'.getD t undef::l))
   have:tm.getD t undef=tm'.getD t undef:=(Agr.left h).2 t (by rw [z9l];simp)
   rw [this,ih (Agr.right h)]
  | cell a t=>
   show z9b P t (tm.getD a undef) H _=z9b P t (tm'.getD a undef) H _
   have:tm.getD a undef=tm'.getD a undef:=(Agr.left h).2 a (by rw [z9l];simp)
   rw [this]
   congr 1
   funext v
   exact ih (Agr.right h)
theorem zf {env:Env} (henv:∀g,FnOk P g (env g)) {fn:Func} {args:List Value} {H:zd} {K:Value→zd→Prop} (h:zk P env fn args H K):z1a P env fn args H K:=by
 unfold zk at h
 unfold z1a
 cases hb:fn.body with
 | none=>rw [hb] at h;exact h.elim
 | some c=>
  rw [hb] at h
  have ret:∀s s' H,Agr (zsa fn.results.toList) s s'→resK P fn.results.toList s H (fun l=>K (zwq l) H)→resK P fn.results.toList s' H (fun l=>K (zwq l) H):=fun s s' H ha hk=>by rw [←z11w ha];exact hk
  exact zuo henv c _ _ _ _ _ _ _ _ ⟨rfl,fun _ _=>rfl⟩ ⟨ret,ret,fun id s s' H ha hk=>hk.elim⟩ h
end
end Go.Proofs.Ytbnplefohfamnaa.Ai
