/- Two lists that are written in place. -/
import Derived.Test.YthheoefadijhdaaGreatFFnExactReadMarksMk
import Derived.Test.YthheoefadijhdaaGreatFFnExactReadMarksAiM
import Derived.Test.YthheoefadijhdaaGreatFFnExactReadMarksTr
set_option linter.unusedVariables false
namespace Go.Proofs.YthheoefadijhdaaGreat.Ai
open Go

def z2x (a b:Option Addr) (H H':zn):Prop:=H.length≤H'.length∧∀i,i<H.length→(∀x,a=some x→x.block≠i)→(∀x,b=some x→x.block≠i)→H'[i]? =H[i]?
section
variable {a b:Option Addr} {H0 H1 H2:zn}
theorem z2x.refl (a b:Option Addr) (H:zn):z2x a b H H:=⟨Nat.le_refl _,fun _ _ _ _=>rfl⟩
theorem z2x.trans (h:z2x a b H0 H1) (g:Grow H1 H2):z2x a b H0 H2:=⟨Nat.le_trans h.1 g.1,fun i hi h1 h2=>(g.2 i (Nat.lt_of_lt_of_le hi h.1)).trans (h.2 i hi h1 h2)⟩
theorem z2x.transA (h:z2x a b H0 H1) (g:z2q a H1 H2):z2x a b H0 H2:=⟨Nat.le_trans h.1 g.1,fun i hi h1 h2=>(g.2 i (Nat.lt_of_lt_of_le hi h.1) h1).trans (h.2 i hi h1 h2)⟩
theorem z2x.transB (h:z2x a b H0 H1) (g:z2q b H1 H2):z2x a b H0 H2:=⟨Nat.le_trans h.1 g.1,fun i hi h1 h2=>(g.2 i (Nat.lt_of_lt_of_le hi h.1) h2).trans (h.2 i hi h1 h2)⟩
theorem z2x.keep {c:Nat} (h:z2x a b H0 H1) (hc:H0.length≤c) (k:z3j c H1 H2):z2x a b H0 H2:=⟨Nat.le_trans h.1 k.1,fun i hi h1 h2=>(k.2 i (Nat.lt_of_lt_of_le hi h.1) (by omega)).trans (h.2 i hi h1 h2)⟩
theorem z2x.keepA {c:Option Addr} (h:z2x a b H0 H1) (hd:∀x,c=some x→H0.length≤x.block) (k:z2q c H1 H2):z2x a b H0 H2:=
 ⟨Nat.le_trans h.1 k.1,fun i hi h1 h2=>(k.2 i (Nat.lt_of_lt_of_le hi h.1) (fun x hx=>by have:=hd x hx;omega)).trans (h.2 i hi h1 h2)⟩
theorem z2x.split (h:z2x a b H0 H1):∃Hm,z2q a H0 Hm∧z2q b Hm H1:=by
 rcases a with _ | x
 ·exact ⟨H0,z2q.refl _ _,h.1,fun i hi h2=>h.2 i hi (fun x hx=>by cases hx) h2⟩
 ·by_cases hx:x.block<H0.length
  ·obtain ⟨v,hv⟩:∃v,H1[x.block]? =some v:=⟨_,List.getElem?_eq_getElem (Nat.lt_of_lt_of_le hx h.1)⟩
   refine ⟨H0.set x.block v,⟨by simp,fun i hi h1=>by rw [List.getElem?_set,if_neg (h1 x rfl)]⟩,by simpa using h.1,fun i hi h2=>?_⟩
   rw [List.getElem?_set]
   split
   ·rename_i e
    subst e
    rw [hv]
   ·rename_i e
    exact h.2 i (by simpa using hi) (fun y hy=>by cases hy;exact e) h2
  ·exact ⟨H0,z2q.refl _ _,h.1,fun i hi h2=>h.2 i hi (fun y hy=>by cases hy;omega) h2⟩
theorem z2q.two (h:z2q a H0 H1) (k:z2q b H1 H2):z2x a b H0 H2:=⟨Nat.le_trans h.1 k.1,fun i hi h1 h2=>(k.2 i (Nat.lt_of_lt_of_le hi h.1) h2).trans (h.2 i hi h1)⟩
theorem OwnS.put2 {α β:Type} {f:α→Value} {f2:β→Value} {H:zn} {lo lo2:Nat} {n e n2 e2:Nat} {xs:List α} {ys:List β} (h:OwnS f H lo a n e xs) (h2:OwnS f2 H lo2 b n2 e2 ys) (sp:SepA a b) (xs':List α) (ys':List β) (hl:xs'.length=xs.length) (hl2:ys'.length=ys.length):
  ∃H',z2x a b H H'∧OwnS f H' lo a n e xs'∧OwnS f2 H' lo2 b n2 e2 ys':=by
 obtain ⟨H1,k1,o1⟩:=h.put xs' hl
 obtain ⟨H2,k2,o2⟩:=(h2.keepA sp k1).put ys' hl2
 exact ⟨H2,k1.two k2,o1.keepA sp.symm k2,o2⟩
end
theorem OwnS.own1 {α:Type} {f:α→Value} {H:zn} {lo b n e:Nat} {xs:List α} (h:OwnS f H lo (some ⟨b,0,none⟩) n e xs):Own H b (xs.map f):=by
 obtain ⟨hn,⟨hx,_⟩ | ⟨c,hx,h,he,hl⟩⟩:=h
 ·cases hx
 ·cases hx;exact h
end Go.Proofs.YthheoefadijhdaaGreat.Ai
set_option linter.unusedVariables false
namespace Go.Proofs.YthheoefadijhdaaGreat.Ai
open Go Go.RowKit Go.Conc

section
variable {P:Program} {env:Env} {X:Cls P}

theorem zsk {ops:List Oper} {o:Oper} {tm:List Value} {H:zn} (henv:∀g,FnOkX P X g (env g)) {K:List Value→zn→Prop} (hk:z5u P env ops o tm H K):∃tm' H',K tm' H':=by
 rw [z7t] at hk
 split at hk
 ·obtain ⟨v,H',h⟩:=zii henv hk;exact ⟨_,_,h⟩
 ·exact ⟨_,_,hk⟩
 ·exact hk.elim
theorem zyx {ops l:List Oper} (henv:∀g,FnOkX P X g (env g)) {K:List Value→zn→Prop}:∀{tm:List Value} {H:zn},seqK P env ops l tm H K→∃tm' H',K tm' H':=by
 induction l with
 | nil=>intro tm H hk;exact ⟨_,_,hk⟩
 | cons o l ih=>intro tm H hk;obtain ⟨tm',H',h⟩:=zsk henv hk;exact ih h

theorem zb6 (henv:∀g,FnOkX P X g (env g)) (c:Code):∀(tm:List Value) (H:zn) (Q Q':Post),(∀e tm' H',Q e tm' H'→Q' e tm' H')→exK P env c tm H Q→exK P env c tm H Q':=by
 induction c with
 | skip=>intro tm H Q Q' h hk;exact h _ _ _ hk
 | exit id=>intro tm H Q Q' h hk;exact h _ _ _ hk
 | ret=>intro tm H Q Q' h hk;exact h _ _ _ hk
 | region id ops draw=>intro tm H Q Q' h hk;exact zyy henv (fun tm' H'=>h _ _ _) hk
 | seq x y ihx ihy=>
  intro tm H Q Q' h hk
  refine ihx tm H _ _ (fun e tm' H' hq=>?_) hk
  cases e with
  | normal=>exact ihy _ _ _ _ h hq
  | ret=>exact h _ _ _ hq
  | exit id=>exact h _ _ _ hq
 | cond c x y ihx ihy=>
  intro tm H Q Q' h hk
  unfold exK zae at hk ⊢
  split at hk
  ·rename_i t ht
   simp only [z6d] at hk ⊢
   cases t
   ·exact ihy _ _ _ _ h hk
   ·exact ihx _ _ _ _ h hk
  ·exact hk.elim
 | block id c ih=>
  intro tm H Q Q' h hk
  refine ih tm H _ _ (fun e tm' H' hq=>?_) hk
  cases e with
  | normal=>exact h _ _ _ hq
  | ret=>exact h _ _ _ hq
  | exit id'=>
   simp only [zu] at hq ⊢
   cases he:Nat.beq id' id<;>rw [he] at hq<;>exact h _ _ _ hq
 | loop c ih=>
  intro tm H Q Q' h hk
  obtain ⟨I,n,h1,h2⟩:=hk
  refine ⟨I,n,h1,fun m tm H hI=>ih tm H _ _ (fun e tm' H' hq=>?_) (h2 m tm H hI)⟩
  cases e with
  | normal=>exact hq
  | ret=>exact h _ _ _ hq
  | exit id=>exact h _ _ _ hq
 | _=>intro tm H Q Q' h hk;exact hk.elim

theorem z12s (henv:∀g,FnOkX P X g (env g)) (c:Code):∀(tm:List Value) (H:zn) (Q:Post),exK P env c tm H Q→∃e tm' H',Q e tm' H':=by
 induction c with
 | skip=>intro tm H Q hk;exact ⟨_,_,_,hk⟩
 | exit id=>intro tm H Q hk;exact ⟨_,_,_,hk⟩
 | ret=>intro tm H Q hk;exact ⟨_,_,_,hk⟩
 | region id ops draw=>intro tm H Q hk;obtain ⟨tm',H',h⟩:=zyx henv hk;exact ⟨_,_,_,h⟩
 | seq x y ihx ihy=>
  intro tm H Q hk
  obtain ⟨e,tm',H',hq⟩:=ihx tm H _ hk
  cases e with
  | normal=>exact ihy _ _ _ hq
  | ret=>exact ⟨_,_,_,hq⟩
  | exit id=>exact ⟨_,_,_,hq⟩
 | cond c x y ihx ihy=>
  intro tm H Q hk
  unfold exK zae at hk
  split at hk
  ·rename_i t ht
   simp only [z6d] at hk
   cases t
   ·exact ihy _ _ _ hk
   ·exact ihx _ _ _ hk
  ·exact hk.elim
 | block id c ih=>
  intro tm H Q hk
  obtain ⟨e,tm',H',hq⟩:=ih tm H _ hk
  cases e with
  | normal=>exact ⟨_,_,_,hq⟩
  | ret=>exact ⟨_,_,_,hq⟩
  | exit id'=>
   simp only [zu] at hq
   cases he:Nat.beq id' id<;>rw [he] at hq<;>exact ⟨_,_,_,hq⟩
 | loop c ih=>
  intro tm H Q hk
  obtain ⟨I,n,h1,h2⟩:=hk
  have go:∀n tm H,I n tm H→∃e tm' H',Q e tm' H':=by
   intro n
   induction n using Nat.strongRecOn with
   | _ n ihn=>
    intro tm H hI
    obtain ⟨e,tm',H',hq⟩:=ih tm H _ (h2 n tm H hI)
    cases e with
    | normal=>obtain ⟨m',hm,hI'⟩:=hq;exact ihn m' hm _ _ hI'
    | ret=>exact ⟨_,_,_,hq⟩
    | exit id=>exact ⟨_,_,_,hq⟩
  exact go n tm H h1
 | _=>intro tm H Q hk;exact hk.elim

theorem zm3 {rs:List ResultVar} {tm:List Value} {H:zn}:∀{K K':List Value→Prop},(∀l,K l→K' l)→resK P rs tm H K→resK P rs tm H K':=by
 induction rs with
 | nil=>intro K K' h hk;exact h _ hk
 | cons r rs ih=>
  intro K K' h hk
  cases r with
  | tmp t=>exact ih (fun l=>h _) hk
  | cell a t=>exact (zb5 t _).mono (fun v=>ih fun l=>h _) hk
theorem zm2 {rs:List ResultVar} {tm:List Value} {H:zn}:∀{K:List Value→Prop},resK P rs tm H K→∃l,K l:=by
 induction rs with
 | nil=>intro K hk;exact ⟨_,hk⟩
 | cons r rs ih=>
  intro K hk
  cases r with
  | tmp t=>obtain ⟨l,h⟩:=ih hk;exact ⟨_,h⟩
  | cell a t=>
   obtain ⟨v,h,_⟩:=zb5 t _ _ hk
   obtain ⟨l,h⟩:=ih h;exact ⟨_,h⟩

theorem zgb (henv:∀g,FnOkX P X g (env g)) {fn:Func} {args:List Value} {H:zn} {K K':Value→zn→Prop} (h:∀v H',K v H'→K' v H') (hk:z6j P env fn args H K):z6j P env fn args H K':=by
 unfold z6j at hk ⊢
 split at hk
 ·refine zb6 henv _ _ _ _ _ (fun e tm' H' hq=>?_) hk
  cases e with
  | normal=>exact zm3 (fun l=>h _ _) hq
  | ret=>exact zm3 (fun l=>h _ _) hq
  | exit id=>exact hq.elim
 ·exact hk.elim
theorem zga (henv:∀g,FnOkX P X g (env g)) {fn:Func} {args:List Value} {H:zn} {K:Value→zn→Prop} (hk:z6j P env fn args H K):∃v H',K v H':=by
 unfold z6j at hk
 split at hk
 ·obtain ⟨e,tm',H',hq⟩:=z12s henv _ _ _ _ hk
  cases e with
  | normal=>obtain ⟨l,h⟩:=zm2 hq;exact ⟨_,_,h⟩
  | ret=>obtain ⟨l,h⟩:=zm2 hq;exact ⟨_,_,h⟩
  | exit id=>exact hq.elim
 ·exact hk.elim

theorem FnOkX.clear (hm:P.follows .mixedOrders=true) (henv:∀g,FnOkX P X g (env g)) {g:Nat} {fn:Func} {c:Code} (hf:P.funcs[g]? =some fn) (hb:fn.body=some c) (hn:(fn.name== "runtime.NumGoroutine")=false)
  (hok:z3k (fun g=>((env g).quiet,(env g).tame)) c=true) (hLt:z8v env X:=by first | assumption | exact z8v.no rfl):FnOkX P X g {F:=z6j P env fn,quiet:=false,tame:=false}:=
 FnOkX.body hm henv hf hb hn hok (fun _ _ _ _ h=>zgb henv h) (fun h=>by cases h) (fun _ _ _=>zga henv) (fun h=>by cases h) (fun _ _ _=>id) hLt
end
end Go.Proofs.YthheoefadijhdaaGreat.Ai
set_option linter.unusedVariables false
set_option linter.unusedSectionVars false
set_option linter.unusedSimpArgs false
namespace Go.Proofs.YthheoefadijhdaaGreat.Ai
open Go Go.RowKit Go.Conc
open Go.ConcX (stA smA OfWg g_of_ofEvents)

section
variable {P:Program} {Post:Value→World→Prop}

theorem zrz {Shun:Loc→Prop} {B:Nat} {t:Trace} (h:Tr Shun B 0 t):Past Shun B t:=⟨h.clean,h.known,h.over,h.hears,h.seen⟩

theorem EvOk.evL {Z:Zone} {Shun:Loc→Prop} {n:Nat} {e:Event} (h:EvOk Z n e) (ho:Off Z Shun):EvL Shun n e:=by
 have hm:=h.evM ho
 refine ⟨hm.shy,?_,?_,hm.low⟩
 all_goals
  rcases h with ⟨a,h1,_⟩ | ⟨r,h1,_⟩ | ⟨m,h1,h2⟩
  ·rw [h1];simp
  ·rw [h1];simp
  ·rw [h1];rcases h2 with rfl | ⟨f,rfl⟩<;>simp

theorem EvOk.also {Z:Zone} {U:Nat→Prop} {n:Nat} {e:Event} (h:EvOk Z n e):EvOk (Z.also U) n e:=
 h.imp (fun ⟨a,h1,h2,h3,h4⟩=>⟨a,h1,h2,.inl h3,h4⟩) (Or.imp (fun ⟨a,h1,h2,h3,h4⟩=>⟨a,h1,h2,.inl h3,h4⟩) id)
theorem z3w.end_ {Z:Zone} {g:Goroutine} {w:World} (hg:g.status=.running)
  (h:∀dd,∃v es,stepG P true g (w.at dd)=.ended (.done v) (w.at dd) es∧(∀e ∈ es,EvOk Z w.heap.size e)∧Post v (w.at dd)):z3w P Post 0 Z g w:=by
 intro gs sl t q Shun B h0 hL hlt hT hB hO
 refine beside_ends (P:=P) (Shun:=Shun) (B:=w.heap.size) (D:=fun _ _ _=>False) (Post:=Post) (n:=0) (fun _ _ _ h=>h.elim) h0 hL (zrz (hT.mono hB)) ?_
 intro w₁ hw
 obtain ⟨d,rfl⟩:=hw
 obtain ⟨v,es,h1,h2,h3⟩:=h d
 exact ⟨hg,v,es,h1,fun e he=>(h2 e he).evL hO,h3⟩

theorem zsj {b:Frame} {a:Act} {w:World} {fn:Func} {todo:List Item} {v:Value} (hn:b.kind=.normal) (hd:a.defers=[]) (hf:P.funcs[b.fn]? =some fn) (hro:b.roundOf=none) (hni:P.inits.idxOf? b.fn=none)
  (hr:(results fn a.tmps).run P w=.ok v w):
  stepG P true (G {b.atR a todo with mode:=.returning} []) w=.ended (.done v) w (seen P b.fn ((results fn a.tmps).events P w #[])):=by
 simp [G,stepG,unwind,doReturn,Frame.atR,hn,hd,hf,hr,hro,hni,GStep.after]

theorem zvi {env:Env} {B0:Nat} (hm:P.follows .mixedOrders=true) (henv:∀g,FnOkX P (MainCls P) g (env g)) {g:Nat} {fn:Func} {c:Code} (hf:P.funcs[g]? =some fn) (hni:P.inits.idxOf? g=none) (hb:fn.body=some c)
  (hok:z3k (fun g=>((env g).quiet,(env g).tame)) c=true) {ρ:Ren} {H:zn} {w:World} {args args':List Value} {K:Value→zn→Prop} (hr:HR (zjk B0) ρ H w) (ha:VRs ρ args args') (h:z6j P env fn args H K)
  (hpost:∀v H' v' ρ' Z' w',K v H'→ρ <+:ρ'→HR Z' ρ' H' w'→VR ρ' v v'→Below B0 w w'→Post v' w') (hLt:z8v env (MainCls P):=fun _=>z3h):
  ∃M last o w' t',runNT P (M+1) (solo (G (Frame.enter P g args'.toArray .normal) []) w) #[]=(.ended o w',t')∧runN P M (solo (G (Frame.enter P g args'.toArray .normal) []) w)=.next last∧step P last=.ended o w'∧Conc.Good P Post last o w' t':=by
 unfold z6j at h
 rw [hb] at h
 have henter:Frame.enter P g args'.toArray .normal=({(default:Frame) with fn:=g,kind:=.normal}:Frame).atR {tmps:=args'.toArray++Array.replicate (fn.ntmps-args'.toArray.size) undef,defers:=[]} [.code c]:=by
  simp [Frame.enter,Frame.atR,hf,hb]
  rfl
 rw [henter]
 have hargs:VRs ρ (args++List.replicate (fn.ntmps-args.length) undef) (args'.toArray++Array.replicate (fn.ntmps-args'.toArray.size) undef).toList:=by
  have hl:=ha.1
  have e:(args'.toArray++Array.replicate (fn.ntmps-args'.toArray.size) undef).toList=args'++List.replicate (fn.ntmps-args.length) undef:=by simp [hl]
  rw [e]
  refine ha.append ?_
  have:∀n,VRs ρ (List.replicate n undef) (List.replicate n undef):=by
   intro n
   induction n with
   | zero=>exact .nil ρ
   | succ n ih=>exact .cons z7d ih
  exact this _
 have key:(znj P Post).Will (zjk B0) (G (({(default:Frame) with fn:=g,kind:=.normal}:Frame).atR {tmps:=args'.toArray++Array.replicate (fn.ntmps-args'.toArray.size) undef,defers:=[]} [.code c]) []) w:=by
  refine zaf (C:=znj P Post) (X:=MainCls P) (.mk Post _) hm henv hLt c (zjk B0) ρ H w _ _ _ _ [] [] (by simp) hr hargs hok h ?_
  intro e tm' H' hq Z' ρ' w' a' h0 h1 h2 h3 h4 h5
  have below:Below B0 w w':=⟨h5.os,h5.tape,h5.output,h5.size,fun k hk=>by
   by_cases hlt:k<w.heap.size
   ·exact h5.block k hlt (fun hw=>by have:B0≤k:=hw;omega)
   ·exact absurd (hr.fresh w.heap.size (Nat.le_refl _)).2 (fun hw=>by have:B0≤w.heap.size:=hw;omega)⟩
  have fin:resK P fn.results.toList tm' H' (fun l=>K (zft l) H')→∀todo,(znj P Post).Will Z' (G {({(default:Frame) with fn:=g,kind:=.normal}:Frame).atR a' todo with mode:=.returning} []) w':=by
   intro hk todo _ dd
   refine z3w.end_ rfl fun d2=>?_
   have hr2:HR Z' ρ' H' ((w'.at dd).at d2):=h2.drew (zhx w' d2)
   obtain ⟨l,hl,v',hrun,hv,hev⟩:=zf1 (P:=P) hr2 h3 hk
   refine ⟨v',_,zsj rfl h4 hf rfl hni hrun,fun e he=>?_,hpost _ H' v' ρ' Z' _ hl h1 hr2 hv ⟨below.os,below.tape,below.output,below.size,below.block⟩⟩
   exact (hev e (mem_seen he)).also
  cases e with
  | normal=>exact Car.still (fun _=>zf4 rfl) (fin hq [])
  | ret=>exact fun todo=>Car.still (fun _=>zf5 rfl) (fin hq (.code .ret::todo))
  | exit id=>exact hq.elim
 have run:=key (fun c h=>h.elim) w.drawn #[G (({(default:Frame) with fn:=g,kind:=.normal}:Frame).atR {tmps:=args'.toArray++Array.replicate (fn.ntmps-args'.toArray.size) undef,defers:=[]} [.code c]) []] none #[] (fun _=>0) (fun _=>False) 0 rfl (leavers_one P _) (by simp) (Tr.nil _) (Nat.zero_le _) (fun l hl=>hl.elim)
 exact run
end
end Go.Proofs.YthheoefadijhdaaGreat.Ai
