/- Code and functions: what the abstract machine says of them holds of the world. -/
import Derived.Test.YtbnplefohfamnaaFFnAtomsAiL
set_option linter.unusedSimpArgs false
set_option linter.unusedVariables false
namespace Go.Proofs.Ytbnplefohfamnaa.Ai
open Go Go.RowKit

def z6w (q:Nat→Bool×Bool):Code→Bool
 | .region _ ops draw=>ops.toList.all zkh && (!draw || z12v q ops.toList)
 | .seq a b=>z6w q a && z6w q b
 | .cond c a b=>zcu c && z6w q a && z6w q b
 | .block _ c=>z6w q c
 | .loop c=>z6w q c
 | .skip | .exit _ | .ret=>true
 | _=>false

theorem zl6 {P:Program} {c:Code} {Q:Exit→Act→World→Prop} {a:Act} {w:World} (I:Nat→Act→World→Prop) {n:Nat} (h0:I n a w)
  (round:∀m a w,I m a w→c.wp P (Exit.then (fun a' w'=>∃m',m'<m∧I m' a' w') Q) a w):(Code.loop c).wp P Q a w:=by
 intro b k cs
 have key:∀n a w,I n a w→∃e a' w',Q e a' w'∧Arrives P (lone (b.at a (.code c::.inLoop c::k)) cs w) b k cs e a' w':=by
  intro n
  induction n using Nat.strongRecOn with
  | _ n ih=>
   intro a w hI
   obtain ⟨e,a1,w1,hq,harr⟩:=round n a w hI b (.inLoop c::k) cs
   cases e with
   | normal=>
    obtain ⟨m',hlt,hI1⟩:=hq
    obtain ⟨e2,a2,w2,hq2,harr2⟩:=ih m' hlt a1 w1 hI1
    exact ⟨e2,a2,w2,hq2,.of_steps (Steps.trans harr (.one step_inLoop)) harr2⟩
   | exit id=>exact ⟨_,a1,w1,hq,.pass (x:=.inLoop c) rfl (fun _ _=>.inl (by simp)) harr⟩
   | goto l=>exact ⟨_,a1,w1,hq,.pass (x:=.inLoop c) rfl (fun _ _=>.inl (by simp)) harr⟩
   | ret=>exact ⟨_,a1,w1,hq,.pass (x:=.inLoop c) rfl (fun _ _=>.inl (by simp)) harr⟩
   | panic ch=>exact ⟨_,a1,w1,hq,.pass (x:=.inLoop c) rfl (fun _ _=>.inl (by simp)) harr⟩
   | outgrown=>exact ⟨_,a1,w1,hq,.pass (x:=.inLoop c) rfl (fun _ _=>.inl (by simp)) harr⟩
 obtain ⟨e,a',w',hq,harr⟩:=key n a w h0
 exact ⟨e,a',w',hq,.of_steps (.one step_loop) harr⟩

section
variable {P:Program} {env:Env} {B0:Nat}

def zy0 (B0:Nat) (ρ:Ren) (w:World) (a:Act) (Q:Post) (Q':Exit→Act→World→Prop):Prop:=
 ∀e tm' H',Q e tm' H'→∀ρ' w' a',ρ <+:ρ'→HR B0 ρ' H' w'→VRs ρ' tm' a'.tmps.toList→a'.defers=a.defers→Below B0 w w'→Q' (Ex.toExit e) a' w'

theorem zy0.shift {ρ ρ':Ren} {w w':World} {a a':Act} {Q:Post} {Q':Exit→Act→World→Prop} (h:zy0 B0 ρ w a Q Q') (h1:ρ <+:ρ') (h4:a'.defers=a.defers) (h5:Below B0 w w'):zy0 B0 ρ' w' a' Q Q':=
 fun e tm H hq ρ'' w'' a'' g1 g2 g3 g4 g5=>h e tm H hq ρ'' w'' a'' (h1.trans g1) g2 g3 (g4.trans h4) (h5.trans g5)

theorem z19o (hm:P.follows .mixedOrders=true) (henv:∀g,FnOk P g (env g)) (c:Code):∀(ρ:Ren) (H:zd) (w:World) (tm:List Value) (a:Act) (Q:Post) (Q':Exit→Act→World→Prop),
  HR B0 ρ H w→VRs ρ tm a.tmps.toList→z6w (fun g=>((env g).quiet,(env g).tame)) c=true→exK P env c tm H Q→zy0 B0 ρ w a Q Q'→c.wp P Q' a w:=by
 induction c with
 | skip=>intro ρ H w tm a Q Q' hr hf hok h hq;exact wp_skip (hq .normal tm H h ρ w a (List.prefix_refl _) hr hf rfl (.refl _ _))
 | exit id=>intro ρ H w tm a Q Q' hr hf hok h hq;exact wp_exit (hq (.exit id) tm H h ρ w a (List.prefix_refl _) hr hf rfl (.refl _ _))
 | ret=>intro ρ H w tm a Q Q' hr hf hok h hq;exact wp_ret (hq .ret tm H h ρ w a (List.prefix_refl _) hr hf rfl (.refl _ _))
 | region id ops draw=>
  intro ρ H w tm a Q Q' hr hf hok h hq
  simp only [z6w,Bool.and_eq_true,Bool.or_eq_true,Bool.not_eq_true'] at hok
  cases draw with
  | false=>
   refine wp_region_list (z18d henv ops.toList ρ H w tm a _ hr hf hok.1 h ?_)
   intro tm' H' hk ρ' w' a' h1 h2 h3 h4 h5
   exact hq .normal tm' H' hk ρ' w' a' h1 h2 h3 h4 h5
  | true=>
   obtain ⟨m,hm1,hed,hπ⟩:=zlt (hok.2.resolve_left (by simp))
   refine wp_region_any hm ?_
   have hall:rem (z7f ops.toList) (Array.replicate ops.size false)=z7f ops.toList:=by
    unfold rem
    rw [List.filter_eq_self]
    intro i hi
    have:i<ops.size:=by simpa using hπ.lt i hi
    simp [this]
   refine z14g henv hm1 hed hπ hok.1 ops.size (Array.replicate ops.size false) ρ H _ tm a (fun tm' H'=>Q .normal tm' H') (by simp) ?_ ?_ (hr.drew (.drew w)) hf ?_ ?_
   ·intro i hi hlt;simp at hlt;simp [hlt] at hi
   ·rw [hall];simpa using hπ.len
   ·rw [hall];exact h
   ·intro tm' H' hk ρ' w' a' h1 h2 h3 h4 h5
    exact hq .normal tm' H' hk ρ' w' a' h1 h2 h3 h4 (((Drew.drew w).below B0).trans h5)
 | seq x y ihx ihy=>
  intro ρ H w tm a Q Q' hr hf hok h hq
  simp only [z6w,Bool.and_eq_true] at hok
  refine wp_seq (ihx ρ H w tm a _ _ hr hf hok.1 h ?_)
  intro e tm' H' hk ρ' w' a' h1 h2 h3 h4 h5
  cases e with
  | normal=>exact ihy ρ' H' w' tm' a' Q Q' h2 h3 hok.2 hk (hq.shift h1 h4 h5)
  | ret=>exact hq .ret tm' H' hk ρ' w' a' h1 h2 h3 h4 h5
  | exit id=>exact hq (.exit id) tm' H' hk ρ' w' a' h1 h2 h3 h4 h5
 | cond c x y ihx ihy=>
  intro ρ H w tm a Q Q' hr hf hok h hq
  simp only [z6w,Bool.and_eq_true] at hok
  have hv:=z12w hf hok.1.1
  unfold exK zg0 at h
  split at h
  ·rename_i t ht
   rw [ht] at hv
   have hc:a.eval c=.bool t:=by generalize a.eval c=q at hv;cases hv;rfl
   rw [z8h] at h
   refine wp_cond hc ?_
   cases t
   ·exact ihy ρ H w tm a Q Q' hr hf hok.2 h hq
   ·exact ihx ρ H w tm a Q Q' hr hf hok.1.2 h hq
  ·exact h.elim
 | block id c ih=>
  intro ρ H w tm a Q Q' hr hf hok h hq
  refine wp_block (ih ρ H w tm a _ _ hr hf hok h ?_)
  intro e tm' H' hk ρ' w' a' h1 h2 h3 h4 h5
  cases e with
  | normal=>exact hq .normal tm' H' hk ρ' w' a' h1 h2 h3 h4 h5
  | ret=>exact hq .ret tm' H' hk ρ' w' a' h1 h2 h3 h4 h5
  | exit id'=>
   simp only [Ex.toExit,Exit.inBlock]
   cases hb:Nat.beq id' id with
   | true=>
    have:id'=id:=Nat.eq_of_beq_eq_true hb
    rw [if_pos this]
    simp only [zn,hb,cond_true] at hk
    exact hq .normal tm' H' hk ρ' w' a' h1 h2 h3 h4 h5
   | false=>
    have:id'≠id:=fun e=>by rw [e,Nat.beq_refl] at hb;cases hb
    rw [if_neg this]
    simp only [zn,hb,cond_false] at hk
    exact hq (.exit id') tm' H' hk ρ' w' a' h1 h2 h3 h4 h5
 | loop c ih=>
  intro ρ H w tm a Q Q' hr hf hok h hq
  obtain ⟨I,n,h0,hround⟩:=h
  refine zl6 (fun m a' w'=>∃ρ' H' tm',I m tm' H'∧ρ <+:ρ'∧HR B0 ρ' H' w'∧VRs ρ' tm' a'.tmps.toList∧a'.defers=a.defers∧Below B0 w w') (n:=n)
   ⟨ρ,H,tm,h0,List.prefix_refl _,hr,hf,rfl,.refl _ _⟩ ?_
  rintro m a' w' ⟨ρ',H',tm',hI,g1,g2,g3,g4,g5⟩
  refine ih ρ' H' w' tm' a' _ _ g2 g3 hok (hround m tm' H' hI) ?_
  intro e tm'' H'' hk ρ'' w'' a'' q1 q2 q3 q4 q5
  cases e with
  | normal=>
   obtain ⟨m',hlt,hI'⟩:=hk
   exact ⟨m',hlt,ρ'',H'',tm'',hI',g1.trans q1,q2,q3,q4.trans g4,g5.trans q5⟩
  | ret=>exact hq .ret tm'' H'' hk ρ'' w'' a'' (g1.trans q1) q2 q3 (q4.trans g4) (g5.trans q5)
  | exit id=>exact hq (.exit id) tm'' H'' hk ρ'' w'' a'' (g1.trans q1) q2 q3 (q4.trans g4) (g5.trans q5)
 | rangeFunc f ps as b _ _=>intro ρ H w tm a Q Q' hr hf hok h hq;exact h.elim
 | scope b _=>intro ρ H w tm a Q Q' hr hf hok h hq;exact h.elim
 | label l=>intro ρ H w tm a Q Q' hr hf hok h hq;exact h.elim
 | goto l=>intro ρ H w tm a Q Q' hr hf hok h hq;exact h.elim
 | refuse s=>intro ρ H w tm a Q Q' hr hf hok h hq;exact h.elim

theorem z11x {ρ:Ren} {w:World} {H:zd} {tm:List Value} {tmps:Array Value} (hr:HR B0 ρ H w) (hf:VRs ρ tm tmps.toList) (rs:List ResultVar):∀{K:List Value→Prop},resK P rs tm H K→
  ∃l,K l∧∃l',(rs.mapM (fun | .tmp t=>pure (tmps.getD t undef) | .cell a t=>do loadVar t (←asAddr (tmps.getD a undef)):ResultVar→Sem Value)).run P w=.ok l' w∧VRs ρ l l':=by
 have get:∀t,VR ρ (tm.getD t undef) (tmps.getD t undef):=fun t=>by
  have:=hf.getD t
  simpa [List.getD_eq_getElem?_getD] using this
 induction rs with
 | nil=>intro K h;exact ⟨[],h,[],rfl,.nil ρ⟩
 | cons r rs ih=>
  intro K h
  cases r with
  | tmp t=>
   obtain ⟨l,hk,l',h1,h2⟩:=ih h
   refine ⟨_,hk,tmps.getD t undef::l',?_,.cons (get t) h2⟩
   simp only [List.mapM_cons,Sem.run_bind,Sem.run_pure,Result.andThen_ok,h1]
  | cell a t=>
   obtain ⟨v,hk,c,v',hx,hrun,hv⟩:=zk6 (P:=P) hr h (get a)
   obtain ⟨l,hk,l',h1,h2⟩:=ih hk
   refine ⟨_,hk,v'::l',?_,.cons hv h2⟩
   have ha:asAddr (tmps.getD a undef)=pure c:=by rw [hx];rfl
   simp only [List.mapM_cons,Sem.run_bind,ha,Sem.run_pure,Result.andThen_ok,hrun,h1]

theorem zmu {fn:Func} {ρ:Ren} {w:World} {H:zd} {tm:List Value} {tmps:Array Value} (hr:HR B0 ρ H w) (hf:VRs ρ tm tmps.toList) {K:List Value→Prop} (h:resK P fn.results.toList tm H K):
  ∃l,K l∧∃v',(results fn tmps).run P w=.ok v' w∧VR ρ (zwq l) v':=by
 obtain ⟨l,hk,l',h1,h2⟩:=z11x (P:=P) (tmps:=tmps) hr hf _ h
 refine ⟨l,hk,if h:l'.toArray.size=1 then l'.toArray[0] else .tuple l'.toArray,?_,?_⟩
 ·unfold results
  rw [←Array.toArray_toList (xs:=fn.results),List.mapM_toArray]
  simp only [Sem.run_bind,Sem.run_map,Result.andThen_ok,Sem.run_pure]
  erw [h1]
  rfl
 ·match l,h2 with
  | [],h2=>rw [h2.unnil];exact VRs.tuple (xs:=#[]) (ys:=#[]) (.nil ρ)
  | [x],h2=>
   obtain ⟨y,ys,rfl,h3,h4⟩:=h2.uncons
   rw [h4.unnil];exact h3
  | x::x2::r,h2=>
   obtain ⟨y,ys,rfl,h3,h4⟩:=h2.uncons
   obtain ⟨y2,ys,rfl,h5,h6⟩:=h4.uncons
   have:¬(y::y2::ys).toArray.size=1:=by simp
   rw [dif_neg this]
   exact VRs.tuple (xs:=(x::x2::r).toArray) (ys:=(y::y2::ys).toArray) h2

theorem zev (hm:P.follows .mixedOrders=true) (henv:∀g,FnOk P g (env g)) {g:Nat} {fn:Func} {c:Code} (hf:P.funcs[g]? =some fn) (hb:fn.body=some c)
  (hok:z6w (fun g=>((env g).quiet,(env g).tame)) c=true) {ρ:Ren} {H:zd} {w:World} {args args':List Value} {K:Value→zd→Prop} (hr:HR B0 ρ H w) (ha:VRs ρ args args') (h:z1a P env fn args H K):
  Calls P g args'.toArray w fun e w'=>∃v H',K v H'∧∃v' ρ',e=.returned v'∧ρ <+:ρ'∧HR B0 ρ' H' w'∧VR ρ' v v'∧Below B0 w w':=by
 unfold z1a at h
 rw [hb] at h
 refine calls_of_wp hf hb (z19o hm henv c ρ H w _ _ _ _ hr ?_ hok h ?_)
 ·have hl:=ha.1
  have e:(args'.toArray++Array.replicate (fn.ntmps-args'.toArray.size) undef).toList=args'++List.replicate (fn.ntmps-args.length) undef:=by simp [hl]
  show VRs ρ _ (args'.toArray++Array.replicate (fn.ntmps-args'.toArray.size) undef).toList
  rw [e]
  refine ha.append ?_
  have:∀n,VRs ρ (List.replicate n undef) (List.replicate n undef):=by
   intro n
   induction n with
   | zero=>exact .nil ρ
   | succ n ih=>exact .cons z8j ih
  exact this _
 ·intro e tm' H' hq ρ' w' a' h1 h2 h3 h4 h5
  have fin:resK P fn.results.toList tm' H' (fun l=>K (zwq l) H')→a'.defers=[]∧∃v,(results fn a'.tmps).run P w'=.ok v w'∧
    ∃v0 H',K v0 H'∧∃v' ρ',Ending.returned v=.returned v'∧ρ <+:ρ'∧HR B0 ρ' H' w'∧VR ρ' v0 v'∧Below B0 w w':=by
   intro hk
   obtain ⟨l,hk,v',hrun,hv⟩:=zmu (P:=P) h2 h3 hk
   exact ⟨h4,v',hrun,_,H',hk,v',ρ',rfl,h1,h2,hv,h5⟩
  cases e with
  | normal=>exact fin hq
  | ret=>exact fin hq
  | exit id=>exact hq.elim

theorem FnOk.body (hm:P.follows .mixedOrders=true) (henv:∀g,FnOk P g (env g)) {g:Nat} {fn:Func} {c:Code} (hf:P.funcs[g]? =some fn) (hb:fn.body=some c) (hn:(fn.name== "runtime.NumGoroutine")=false)
  (hok:z6w (fun g=>((env g).quiet,(env g).tame)) c=true) {S:FSpec}
  (mono:∀(args:List Value) (H:zd) (K K':Value→zd→Prop),(∀v H',K v H'→K' v H')→S.F args H K→S.F args H K')
  (quiet:S.quiet=true→∀(args:List Value) (H:zd) (K:Value→zd→Prop),S.F args H K→∃v,K v H∧∀K':Value→zd→Prop,K' v H→S.F args H K')
  (live:∀(args:List Value) (H:zd) (K:Value→zd→Prop),S.F args H K→∃v H',K v H')
  (tame:S.tame=true→∀(args:List Value) (H:zd) (K:Value→zd→Prop),S.F args H K→S.F args H fun v H'=>Grow H H'∧K v H')
  (h:∀(args:List Value) (H:zd) (K:Value→zd→Prop),S.F args H K→z1a P env fn args H K):FnOk P g S:=by
 refine ⟨mono,quiet,live,tame,?_⟩
 intro B0 ρ H w args args' K hr ha hk o a next Q hnext
 have hc:=zev (B0:=B0) hm henv hf hb hok hr ha (h args H K hk)
 have hrun:(callFunc g args'.toArray).run P w=.ok (.enter g args'.toArray) w:=by
  have hb':fn.body.isNone=false:=by rw [hb];rfl
  simp only [callFunc,Sem.run_bind,run_program,Result.andThen_ok,hf,hn,Bool.false_eq_true,if_false,hb',Sem.run_pure]
 rw [hrun,Oper.upon_enter]
 refine hc.mono ?_
 rintro e w' ⟨v,H',hk',v',ρ',rfl,h1,h2,h3,h4⟩
 exact hnext v H' hk' ρ' w' v' h1 h2 h3 h4
end
end Go.Proofs.Ytbnplefohfamnaa.Ai
