/- A region whose order is drawn: two operations that do not z8m may change places; so the order of the text serves every order. -/
import Derived.Test.YtbnplefohfamnaaFFnAtomsAiJ
set_option linter.unusedSimpArgs false
set_option linter.unusedVariables false
namespace Go.Proofs.Ytbnplefohfamnaa.Ai
open Go Go.RowKit

def zbq (ops:List Oper) (o:Oper) (tm:List Value):Option Bool:=
 match o.guard with
 | none=>some true
 | some (j,w)=>
  match ops[j]? with
  | some ⟨some d,_,_,_,_,_⟩=>
   match tm.getD d undef with
   | .bool t=>some (t==w)
   | .tuple _=>some false
   | _=>none
  | _=>none

section
variable {P:Program} {env:Env}

theorem z12d {tm:List Value} {d:Nat} {t:Bool} (ht:tm.getD d undef=.bool t):tm.set d (.bool t)=tm:=by
 apply List.ext_getElem?
 intro i
 rw [List.getElem?_set]
 split
 ·rename_i e;subst e
  split
  ·rename_i hlt
   rw [List.getD_eq_getElem?_getD,List.getElem?_eq_getElem hlt] at ht
   rw [List.getElem?_eq_getElem hlt];simpa using ht.symm
  ·rename_i hlt;rw [List.getElem?_eq_none (by omega)]
 ·rfl

theorem zac (ops:List Oper) (o:Oper) (tm:List Value) (H:zd) (K:List Value→zd→Prop):
  z6s P env ops o tm H K↔match zbq ops o tm with
   | some true=>opS P env ops o (evT tm) H fun v H'=>K (putT tm o.dst v) H'
   | some false=>K (putT tm o.dst undef) H
   | none=>False:=by
 unfold z6s zbq
 cases o.guard with
 | none=>exact Iff.rfl
 | some g=>
  obtain ⟨j,w⟩:=g
  simp only []
  cases hj:ops[j]? with
  | none=>exact Iff.rfl
  | some oj=>
   obtain ⟨dst,x1,x2,x3,x4,x5⟩:=oj
   cases dst with
   | none=>exact Iff.rfl
   | some d=>
    simp only []
    generalize hv:tm.getD d undef=v
    cases v<;>try exact Iff.rfl
    rename_i t
    simp only [z8h,z12d hv]
    cases t<;>cases w<;>exact Iff.rfl

def zxo (q:Nat→Bool×Bool) (o:Oper):Bool:=
 match o.op with
 | .alloc _ | .box .. | .buildSlice .. | .makeSlice ..=>true
 | .call c=>match c.callee with
  | .value (.func g)=>(q g).2
  | _=>false
 | _=>false
def com (q:Nat→Bool×Bool) (ops:List Oper) (x y:Oper):Bool:=
 x.apart ops.toArray y && (decide (z8m q x=.free) || decide (z8m q y=.free) || (!decide (z8m q x=.loud) && !decide (z8m q y=.loud)) || (zk2 x && (zxo q y || zov ops y)))

theorem zjz {tm:List Value} {d:Option Tmp} {v:Value} {t:Nat} (h:∀x,d=some x→x≠t):(putT tm d v).getD t undef=tm.getD t undef:=by
 cases d with
 | none=>rfl
 | some d=>simp only [putT,List.getD_eq_getElem?_getD,List.getElem?_set_ne (h d rfl)]

theorem zof {o:Oper} {tm:List Value} {d:Option Tmp} {v:Value} {ops:Array Oper} (h:∀x,d=some x→x ∉ o.looksAt ops):∀x ∈ o.op.operands,evT (putT tm d v) x=evT tm x:=by
 intro x hx
 cases x with
 | tmp t=>
  refine zjz fun y hy e=>h y hy ?_
  subst e
  exact List.mem_append_left _ (List.mem_filterMap.2 ⟨.tmp y,by simpa using hx,rfl⟩)
 | _=>rfl

theorem zfr {o:Oper} {tm:List Value} {d:Option Tmp} {v:Value} {ops:List Oper} (h:∀x,d=some x→x ∉ o.looksAt ops.toArray):zbq ops o (putT tm d v)=zbq ops o tm:=by
 unfold zbq
 cases hg:o.guard with
 | none=>rfl
 | some g=>
  obtain ⟨j,w⟩:=g
  simp only []
  cases hj:ops[j]? with
  | none=>rfl
  | some oj=>
   obtain ⟨dst,x1,x2,x3,x4,x5⟩:=oj
   cases dst with
   | none=>rfl
   | some t=>
    simp only []
    rw [zjz fun x hx e=>h x hx (by subst e;simp [Oper.looksAt,hg,hj])]

theorem zx4 (tm:List Value) {d e:Option Tmp} (h:∀x,d=some x→e≠some x) (v u:Value):putT (putT tm d v) e u=putT (putT tm e u) d v:=by
 cases d with
 | none=>rfl
 | some d=>
  cases e with
  | none=>rfl
  | some e=>
   have:d≠e:=fun hd=>h d rfl (by rw [hd])
   simp only [putT]
   exact List.set_comm _ _ this

theorem zsg {ops:List Oper} {o:Oper} {tm:List Value} {H:zd} (henv:∀g,FnOk P g (env g)) {K K':List Value→zd→Prop} (h:∀tm' H',K tm' H'→K' tm' H') (hk:z6s P env ops o tm H K):
  z6s P env ops o tm H K':=by
 rw [zac] at hk ⊢
 split at hk
 ·exact zbu henv (fun v H'=>h _ _) hk
 ·exact h _ _ hk
 ·exact hk.elim
theorem zgd (H:zd) (x:Option Blk):Grow H (H++[x]):=⟨by simp,fun b hb=>List.getElem?_append_left hb⟩
theorem zop {H H':zd} (g:Grow H H') {b:Nat} {l:List Value} (h:rdB H b=some l):rdB H' b=some l:=by
 unfold rdB at *
 split at h
 ·rename_i blk hb
  rw [g.2 b (List.getElem?_eq_some_iff.1 hb).1,hb];exact h
 ·cases h
theorem zoq {H H':zd} (g:Grow H H') {b i:Nat} {v:Value} (h:rdC H b i=some v):rdC H' b i=some v:=by
 unfold rdC at *
 obtain ⟨cs,h1,h2⟩:=Option.bind_eq_some_iff.1 h
 rw [zop g h1];exact h2
theorem z10v {H H':zd} (g:Grow H H') {b i n:Nat} {v:List Value} (h:rdN H b i n=some v):rdN H' b i n=some v:=by
 unfold rdN at *
 obtain ⟨cs,h1,h2⟩:=Option.bind_eq_some_iff.1 h
 rw [zop g h1];exact h2
theorem z9a:∀{z:List Value} {K K':List Value→Prop},(∀v,K v→K' v)→zco z K→zco z K'
 | [],_,_,h,hk=>h _ hk
 | _::_,_,_,h,hk=>zag (fun _ k=>z9a (fun _ k2=>h _ k2) k) hk
theorem zs0 {t:TypeId} {x:Value} {H H':zd} (g:Grow H H') {K:Value→Prop} (h:z9b P t x H K):z9b P t x H' K:=by
 unfold z9b at *
 split at h
 ·split at h
  ·exact z9a (fun l k=>⟨z10v g k.1,k.2⟩) h
  ·exact zag (fun l k=>⟨zoq g k.1,k.2⟩) h
  ·exact h.elim
 ·exact h.elim
theorem z11j (henv:∀g,FnOk P g (env g)) {o:Oper} (ht:zxo (fun g=>((env g).quiet,(env g).tame)) o=true) {tm:List Value} {H:zd} {K:Value→zd→Prop} (h:opK P env o (evT tm) H K):
  opK P env o (evT tm) H fun v H'=>Grow H H'∧K v H':=by
 have new:∀cells,newK cells H K→newK cells H fun v H'=>Grow H H'∧K v H':=by
  intro cells hk
  unfold newK chk at *
  cases hc:cells.all isCell with
  | true=>rw [hc] at hk;exact ⟨zgd H _,hk⟩
  | false=>rw [hc] at hk;exact hk.elim
 unfold zxo at ht
 unfold opK at h ⊢
 split at ht<;>(try cases ht)<;>(rename_i hop;simp only [hop] at h ⊢)
 ·split at h
  ·rename_i z hz
   unfold chk at *
   cases hc:z.cells.toList.all z3c with
   | true=>rw [hc] at h;exact new _ h
   | false=>rw [hc] at h;exact h.elim
  ·exact h.elim
 ·exact new _ h
 ·unfold z4i at *
  split at h
  ·split at h
   ·unfold chk at *
    split at h
    ·rename_i c1 cells hf
     revert h
     cases hb:(Nat.ble _ 1024 && _ && _:Bool) with
     | true=> 
      simp only [cond_true]
      cases hc:cells.toList.all isCell with
      | true=>intro h;exact ⟨zgd H _,h⟩
      | false=>intro h;exact h.elim
     | false=>intro h;exact h.elim
    ·revert h
     cases hb:(Nat.ble _ 1024 && _ && _:Bool) with
     | true=>intro h;exact h.elim
     | false=>intro h;exact h.elim
   ·exact h.elim
  ·exact h.elim
 ·unfold z5u at *
  split at h
  ·split at h
   ·unfold chk at *
    revert h
    cases hb:(Nat.ble _ 1024 && _ && _:Bool) with
    | true=>intro h;exact ⟨h.1,h.2.1,h.2.2.1,zgd H _,h.2.2.2⟩
    | false=>intro h;exact h.elim
   ·exact h.elim
  ·exact h.elim
 ·rename_i c
  obtain ⟨callee,args,argTypes⟩:=c
  cases callee with
  | value f=>cases f with
   | func g=>exact (henv g).tame ht _ _ _ h
   | _=>cases ht
  | _=>cases ht

def Used (H H':zd):Prop:=∀b c l,rdB H b=some (c::l)→rdB H' b=some (c::l)
theorem zs1 {t:TypeId} {x:Value} {H H':zd} (g:Used H H') {K:Value→Prop} (h:z9b P t x H K):z9b P t x H' K:=by
 have hb:∀{b:Nat} {cs:List Value},rdB H b=some cs→0<cs.length→rdB H' b=some cs:=fun {b cs} h1 h2=>by
  cases cs with
  | nil=>exact absurd h2 (by simp)
  | cons c l=>exact g b c l h1
 unfold z9b at *
 split at h
 ·split at h
  ·refine z9a (fun l k=>⟨?_,k.2⟩) h
   have k1:=k.1
   unfold rdN at k1 ⊢
   obtain ⟨cs,e1,e2⟩:=Option.bind_eq_some_iff.1 k1
   have hlt:0<cs.length:=by
    split at e2
    ·omega
    ·cases e2
   rw [hb e1 hlt];exact e2
  ·refine zag (fun l k=>⟨?_,k.2⟩) h
   have k1:=k.1
   unfold rdC at k1 ⊢
   obtain ⟨cs,e1,e2⟩:=Option.bind_eq_some_iff.1 k1
   have hlt:0<cs.length:=by have:=(List.getElem?_eq_some_iff.1 e2).1;omega
   rw [hb e1 hlt];exact e2
  ·exact h.elim
 ·exact h.elim
theorem z17r {ops:List Oper} {o:Oper} {ev:Operand→Value} (ht:zov ops o=true) (hz:zgg ops o ev=true) {H:zd} {K:Value→zd→Prop} (h:opK P env o ev H K):
  opK P env o ev H fun v H'=>Used H H'∧K v H':=by
 obtain ⟨dst,op,type,pos,after,guard⟩:=o
 cases op<;>simp only [zov] at ht<;>(try (cases ht;done))
 rename_i c
 obtain ⟨callee,args,argTypes⟩:=c
 simp only [zgg] at hz
 simp only [opK] at h ⊢
 cases callee with
 | invoke r m=>cases ht
 | value f=>cases ht
 | builtin b=>
  cases b<;>(try (cases ht;done))
  cases ha:args.toList with
  | nil=>rw [ha] at ht;cases ht
  | cons x l=>
   rw [ha] at ht hz
   simp only [] at ht hz
   rw [ht] at hz
   simp only [cond_true] at hz
   simp only [ha,List.map_cons,z4y] at h ⊢
   split at h
   ·rename_i t t' s y hts heq
    obtain ⟨hc,h⟩:=z1d h
    rw [hc]
    simp only [chk,cond_true]
    unfold zc8 at h ⊢
    split at h
    ·rename_i e a n c a' m cm_ hu h9_
     split at h
     ·obtain ⟨hc2,old,new,h1,h2,h3,h4,h⟩:=z1d h
      simp only [chk,hc2,cond_true]
      refine ⟨old,new,h1,h2,h3,h4,?_,h⟩
      have hn:n=0:=by
       have:ev x=.slice a n c:=by simp at heq;exact heq.1
       rw [this] at hz
       exact Nat.eq_of_beq_eq_true hz
      subst hn
      intro b c0 l0 hb
      cases a with
      | none=>
       simp only [z5l]
       unfold rdB at hb ⊢
       split at hb
       ·rename_i blk hbb
        rw [List.getElem?_append_left (List.getElem?_eq_some_iff.1 hbb).1,hbb];exact hb
       ·cases hb
      | some ad=>
       obtain ⟨b1,off,spot⟩:=ad
       have hne:b1≠b:=by
        intro e;subst e
        cases spot with
        | some _=>simp [ownB] at h1
        | none=>
         simp only [ownB] at h1
         split at h1
         ·rename_i blk hbb
          split at h1
          ·rename_i hc3
           unfold rdB at hb
           rw [hbb] at hb
           have h7:=hc3.2.2.1
           simp only [Option.some.injEq] at hb
           rw [hb] at h7
           simp at h7
          ·cases h1
         ·cases h1
       simp only [z5l]
       unfold rdB at hb ⊢
       split at hb
       ·rename_i blk hbb
        have hlt:=(List.getElem?_eq_some_iff.1 hbb).1
        rw [List.getElem?_append_left (by simpa using hlt),List.getElem?_set_ne hne,hbb];exact hb
       ·cases hb
     ·exact h.elim
    ·exact h.elim
   all_goals first | (cases ‹Builtin.append=_›;done) | (exfalso;simp_all;done) | exact h.elim

theorem swap {ops:List Oper} {x y:Oper} (henv:∀g,FnOk P g (env g)) (hc:com (fun g=>((env g).quiet,(env g).tame)) ops x y=true) {tm:List Value} {H:zd} {K:List Value→zd→Prop}
  (h:z6s P env ops x tm H fun tm1 H1=>z6s P env ops y tm1 H1 K):z6s P env ops y tm H fun tm2 H2=>z6s P env ops x tm2 H2 K:=by
 simp only [com,Bool.and_eq_true,Bool.or_eq_true,decide_eq_true_eq,Bool.not_eq_true',decide_eq_false_iff_not] at hc
 obtain ⟨hap,ht⟩:=hc
 obtain ⟨a1,a2,a3⟩:=Oper.apart_spec hap
 -- y behind x's result, and x behind y's
 have yx:∀v H' K,z6s P env ops y (putT tm x.dst v) H' K↔match zbq ops y tm with
   | some true=>opS P env ops y (evT tm) H' fun u H'=>K (putT (putT tm x.dst v) y.dst u) H'
   | some false=>K (putT (putT tm x.dst v) y.dst undef) H'
   | none=>False:=by
  intro v H' K
  rw [zac,zfr a1]
  cases zbq ops y tm with
  | none=>exact Iff.rfl
  | some b=>exact (match b with
   | false=>Iff.rfl
   | true=>(by simp only [];rw [zkg (zof a1)]))
 have xy:∀v H' K,z6s P env ops x (putT tm y.dst v) H' K↔match zbq ops x tm with
   | some true=>opS P env ops x (evT tm) H' fun u H'=>K (putT (putT tm y.dst v) x.dst u) H'
   | some false=>K (putT (putT tm y.dst v) x.dst undef) H'
   | none=>False:=by
  intro v H' K
  rw [zac,zfr a3]
  cases zbq ops x tm with
  | none=>exact Iff.rfl
  | some b=>exact (match b with
   | false=>Iff.rfl
   | true=>(by simp only [];rw [zkg (zof a3)]))
 have pc:=fun v u=>zx4 tm a2 v u
 rw [zac] at h ⊢
 simp only [yx] at h
 simp only [xy]
 cases hx:zbq ops x tm with
 | none=>rw [hx] at h;exact h.elim
 | some bx=>
  rw [hx] at h
  cases bx with
  | false=>
   simp only [] at h ⊢
   cases hy:zbq ops y tm with
   | none=>rw [hy] at h;exact h.elim
   | some by_=>
    rw [hy] at h
    cases by_ with
    | false=>simp only [] at h ⊢;rw [←pc];exact h
    | true=>
     simp only [] at h ⊢
     exact zbu henv (fun v H' k=>by rw [←pc];exact k) h
  | true=>
   simp only [] at h ⊢
   cases hy:zbq ops y tm with
   | none=>
    rw [hy] at h
    obtain ⟨v,H',hf⟩:=z11k henv h
    exact hf.elim
   | some by_=>
    rw [hy] at h
    cases by_ with
    | false=>
     simp only [] at h ⊢
     exact zbu henv (fun v H' k=>by rw [←pc];exact k) h
    | true=>
     simp only [] at h ⊢
     obtain ⟨lx,h⟩:=z1d h
     obtain ⟨v0,H0,h0⟩:=zoz henv h
     obtain ⟨ly,h0⟩:=z1d h0
     unfold opS at h ⊢
     simp only [ly,lx,chk,cond_true] at h ⊢
     have vx:=(Bool.and_eq_true_iff.1 lx).2
     have vy:=(Bool.and_eq_true_iff.1 ly).2
     have ly:=(Bool.and_eq_true_iff.1 ly).1
     rcases ht with ((ht | ht) | ⟨ht1,ht2⟩) | ⟨ht1,ht2⟩
     ·-- x has nothing to do with memory
      obtain ⟨v,h2⟩:=zbt ht h
      exact z9x henv (fun u H' k=>(h2 H' _).2 (by rw [←pc];exact k)) ((h2 H _).1 h)
     ·-- y has nothing to do with memory
      obtain ⟨u,h2⟩:=zbt ht h0
      exact (h2 H _).2 (z9x henv (fun v H' k=>by rw [←pc];exact (h2 H' _).1 k) h)
     ·obtain ⟨v,h1,h2⟩:=zct henv ht1 vx h
      obtain ⟨u,g1,g2⟩:=zct henv ht2 vy h1
      exact g2 _ (h2 _ (by rw [←pc];exact g1))
     ·-- x loads, y makes new blocks, or uses up an empty one
      have hl:z8m (fun g=>((env g).quiet,(env g).tame)) x≠.loud:=by
       unfold zk2 at ht1;unfold z8m
       split at ht1
       ·rename_i hop;rw [hop];simp
       ·cases ht1
      obtain ⟨v,h1,h2⟩:=zct henv hl vx h
      rcases ht2 with ht2 | ht2
      ·refine z9x henv (fun u H' k=>?_) (z11j henv ht2 h1)
       obtain ⟨g,k⟩:=k
       have h3:=h2 (fun v' _=>K (putT (putT tm y.dst u) x.dst v') H') (by rw [←pc];exact k)
       unfold zk2 at ht1
       split at ht1
       ·rename_i hop
        unfold opK at h3 ⊢
        simp only [hop] at h3 ⊢
        exact zs0 g h3
       ·cases ht1
      ·refine z9x henv (fun u H' k=>?_) (z17r ht2 ly h1)
       obtain ⟨g,k⟩:=k
       have h3:=h2 (fun v' _=>K (putT (putT tm y.dst u) x.dst v') H') (by rw [←pc];exact k)
       unfold zk2 at ht1
       split at ht1
       ·rename_i hop
        unfold opK at h3 ⊢
        simp only [hop] at h3 ⊢
        exact zs1 g h3
       ·cases ht1
end
end Go.Proofs.Ytbnplefohfamnaa.Ai
