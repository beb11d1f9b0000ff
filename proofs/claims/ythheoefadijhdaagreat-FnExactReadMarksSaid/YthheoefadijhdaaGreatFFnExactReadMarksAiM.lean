/- Code and functions, in whatever company: what the abstract machine says of them holds of the world. -/
import Derived.Test.YthheoefadijhdaaGreatFFnExactReadMarksAiG
import Derived.Test.YthheoefadijhdaaGreatFFnExactReadMarksAo
import Derived.Deep.Slices
import Derived.ChangeArms
import Derived.Carry
set_option linter.unusedSimpArgs false
set_option linter.unusedVariables false
namespace Go.Proofs.YthheoefadijhdaaGreat.Ai
open Go Go.RowKit Go.Conc

def z3k (q:Nat→Bool×Bool):Code→Bool
 | .region _ ops draw=>ops.toList.all z6l && (!draw || z19r q ops.toList || zvq ops.toList || ((q 999996).2 && z1a7 q ops.toList))
 | .seq a b=>z3k q a && z3k q b
 | .cond c a b=>zbf c && z3k q a && z3k q b
 | .block _ c=>z3k q c
 | .loop c=>z3k q c
 | .skip | .exit _ | .ret=>true
 | _=>false

theorem znm:∀(l pre:List Oper),z1y (pre++l) (List.range' pre.length l.length)=l:=by
 intro l
 induction l with
 | nil=>intro pre;rfl
 | cons x l ih=>
  intro pre
  have h1:(pre++x::l)[pre.length]? =some x:=by simp
  have h2:=ih (pre++[x])
  simp only [List.length_append,List.length_cons,List.length_nil,Nat.zero_add,List.append_assoc,List.singleton_append] at h2
  unfold z1y at h2 ⊢
  rw [List.length_cons,List.range'_succ,List.filterMap_cons_some h1,h2]

section moves
variable {P:Program} {main:Bool} {b:Frame} {a:Act} {k:List Item} {cs:List Frame} {w:World}
theorem zhg:stepG P main (G (b.atR a (.code .skip::k)) cs) w=.go (G (b.atR a k) cs) w:=by simp [G,stepG,stepG.exec,Frame.atR]
theorem z3z {x y:Code}:stepG P main (G (b.atR a (.code (.seq x y)::k)) cs) w=.go (G (b.atR a (.code x::.code y::k)) cs) w:=by simp [G,stepG,stepG.exec,Frame.atR]
theorem zhe {c:Operand} {x y:Code} {t:Bool} (h:a.eval c=.bool t):
  stepG P main (G (b.atR a (.code (.cond c x y)::k)) cs) w=.go (G (b.atR a (.code (if t then x else y)::k)) cs) w:=by
 have h':(b.atR a (.code (.cond c x y)::k)).eval c=.bool t:=by rw [Frame.eval_atR];exact h
 simp only [Frame.atR] at h'
 simp [G,stepG,stepG.exec,Frame.atR,h']
theorem zau {id:Nat} {c:Code}:stepG P main (G (b.atR a (.code (.block id c)::k)) cs) w=.go (G (b.atR a (.code c::.inBlock id::k)) cs) w:=by simp [G,stepG,stepG.exec,Frame.atR]
theorem ziy {id:Nat}:stepG P main (G (b.atR a (.inBlock id::k)) cs) w=.go (G (b.atR a k) cs) w:=by simp [G,stepG,stepG.exec,Frame.atR]
theorem zhf {c:Code}:stepG P main (G (b.atR a (.code (.loop c)::k)) cs) w=.go (G (b.atR a (.code c::.inLoop c::k)) cs) w:=by simp [G,stepG,stepG.exec,Frame.atR]
theorem zma {c:Code}:stepG P main (G (b.atR a (.inLoop c::k)) cs) w=.go (G (b.atR a (.code c::.inLoop c::k)) cs) w:=by simp [G,stepG,stepG.exec,Frame.atR]
theorem zsi {id:Nat} {k':List Item} (h:exitTo id k=some k'):stepG P main (G (b.atR a (.code (.exit id)::k)) cs) w=.go (G (b.atR a k') cs) w:=by simp [G,stepG,stepG.exec,Frame.atR,h]
theorem z7a {id:Nat} {ops:Array Oper}:stepG P main (G (b.atR a (.code (.region id ops false)::k)) cs) w=.go (G (b.atR a (.inRegion ops (List.range ops.size)::k)) cs) w:=by simp [G,stepG,stepG.exec,Frame.atR]
theorem zc7 {id:Nat} {ops:Array Oper}:stepG P main (G (b.atR a (.code (.region id ops true)::k)) cs) w=
   .go (G (b.atR a (.inRegion ops (Region.schedule (P.follows .mixedOrders) ops (w.tape w.drawn (.order b.fn id)))::k)) cs) w.drew:=by
 show _=GStep.go _ {w with drawn:=w.drawn+1}
 simp [G,stepG,stepG.exec,Frame.atR,choose,Sem.run,Question.forced,Question.cut]
theorem zf4 (h:b.roundOf=none):stepG P main (G (b.atR a []) cs) w=.go (G {b.atR a [] with mode:=.returning} cs) w:=by simp [G,stepG,stepG.exec,Frame.atR,h]
theorem zf5 (h:b.roundOf=none):stepG P main (G (b.atR a (.code .ret::k)) cs) w=.go (G {b.atR a (.code .ret::k) with mode:=.returning} cs) w:=by simp [G,stepG,stepG.exec,Frame.atR,h]
end moves

section
variable {P:Program} {env:Env} {X:Cls P} {main:Bool} {C:Car P main}

def Aft (C:Car P main) (Z:Zone) (b:Frame) (k:List Item) (cs:List Frame):Ex→Act→World→Prop
 | .normal,a,w=>C.Will Z (G (b.atR a k) cs) w
 | .exit id,a,w=>∃k',exitTo id k=some k'∧C.Will Z (G (b.atR a k') cs) w
 | .ret,a,w=>∀todo,C.Will Z (G (b.atR a (.code .ret::todo)) cs) w
theorem Aft.push {Z:Zone} {b:Frame} {x:Item} {k:List Item} {cs:List Frame} {e:Ex} {a:Act} {w:World} (hx:x.plain=true) (he:e≠.normal) (h:Aft C Z b k cs e a w):Aft C Z b (x::k) cs e a w:=by
 cases e with
 | normal=>exact absurd rfl he
 | exit id=>obtain ⟨k',hk,hg⟩:=h;exact ⟨k',by cases x<;>simp_all [exitTo,Item.plain],hg⟩
 | ret=>exact h

def Posts (Z:Zone) (T:Zone→World→World→Prop) (ρ:Ren) (w:World) (a:Act) (Q:Post) (Q':Zone→Ex→Act→World→Prop):Prop:=
 ∀e tm' H',Q e tm' H'→∀Z' ρ' w' a',Zle Z' Z→ρ <+:ρ'→HR Z' ρ' H' w'→VRs ρ' tm' a'.tmps.toList→a'.defers=a.defers→T Z w w'→Q' Z' e a' w'

theorem Posts.shift {Z Z':Zone} {ρ ρ':Ren} {w w':World} {a a':Act} {Q:Post} {Q':Zone→Ex→Act→World→Prop} (h:Posts Z C.T ρ w a Q Q') (h0:Zle Z' Z) (h1:ρ <+:ρ') (h4:a'.defers=a.defers) (h5:C.T Z w w'):Posts Z' C.T ρ' w' a' Q Q':=
 fun e tm H hq Z'' ρ'' w'' a'' g0 g1 g2 g3 g4 g5=>h e tm H hq Z'' ρ'' w'' a'' (g0.trans h0) (h1.trans g1) g2 g3 (g4.trans h4) (C.tT h5 (C.mT h0 g5))

def z8v (env:Env) (X:Cls P):Prop:=(env 999996).tame=true→∀main C,X main C→LateC X (main:=main) C
theorem z8v.no {env:Env} {X:Cls P} (h:(env 999996).tame=false):z8v env X:=fun h'=>by rw [h] at h';cases h'
theorem zaf (hX:X main C) (hm:P.follows .mixedOrders=true) (henv:∀g,FnOkX P X g (env g)) (hLt:z8v env X) (c:Code):∀(Z:Zone) (ρ:Ren) (H:zn) (w:World) (tm:List Value) (a:Act) (Q:Post) (b:Frame) (k:List Item) (cs:List Frame),b.kind≠.early→
  HR Z ρ H w→VRs ρ tm a.tmps.toList→z3k (fun g=>((env g).quiet,(env g).tame)) c=true→exK P env c tm H Q→Posts Z C.T ρ w a Q (fun Z'=>Aft C Z' b k cs)→C.Will Z (G (b.atR a (.code c::k)) cs) w:=by
 induction c with
 | skip=>intro Z ρ H w tm a Q b k cs hk hr hf hok h hq;exact C.still (fun _=>zhg) (hq .normal tm H h Z ρ w a (.refl Z) (List.prefix_refl _) hr hf rfl (C.rT (C.refl Z w)))
 | exit id=>
  intro Z ρ H w tm a Q b k cs hk hr hf hok h hq
  obtain ⟨k',hk',hg⟩:=hq (.exit id) tm H h Z ρ w a (.refl Z) (List.prefix_refl _) hr hf rfl (C.rT (C.refl Z w))
  exact C.still (fun _=>zsi hk') hg
 | ret=>intro Z ρ H w tm a Q b k cs hk hr hf hok h hq;exact hq .ret tm H h Z ρ w a (.refl Z) (List.prefix_refl _) hr hf rfl (C.rT (C.refl Z w)) k
 | region id ops draw=>
  intro Z ρ H w tm a Q b k cs hk hr hf hok h hq
  simp only [z3k,Bool.and_eq_true,Bool.or_eq_true,Bool.not_eq_true'] at hok
  cases draw with
  | false=>
   refine C.still (fun _=>z7a) (z16i hX henv hok.1 hk (List.range ops.size) Z ρ H w tm a (fun tm' H'=>Q .normal tm' H') (fun i hi=>by simpa using hi) hr hf ?_ ?_)
   ·have e:z1y ops.toList (List.range ops.size)=ops.toList:=by
     have:=znm ops.toList []
     rw [List.range_eq_range']
     simpa using this
    rw [e];exact h
   ·exact fun tm' H' hk' Z' ρ' w' a' h0 h1 h2 h3 h4 h5=>hq .normal tm' H' hk' Z' ρ' w' a' h0 h1 h2 h3 h4 h5
  | true=>
   rcases hok.2 with hd | hd
   case inr=>
    obtain ⟨m,iA,d,L,R,g1,g2,g3⟩:=znf hd.2
    have hall:rem (z1l ops.toList) (Array.replicate ops.size false)=z1l ops.toList:=by
     unfold rem
     rw [List.filter_eq_self]
     intro i hi
     have:i<ops.size:=by simpa using g3.pi.lt i hi
     simp [this]
    have hA:iA<ops.size:=by simpa using g3.pi.lt iA (by rw [g3.at_];simp)
    refine C.step fun w₁ h₁=>⟨_,_,_,#[],zc7,(Drew.drew w₁).below Z,by simp,?_⟩
    simp only [Region.schedule,hm,Bool.true_or,if_true]
    have hT:C.T Z w w₁.drew:=C.tT (C.rT h₁) (C.kT ((Drew.drew w₁).below Z))
    refine zxn hX (hLt hd.1 _ _ hX) henv g1 g2 g3 hok.1 hk ops.size _ (Array.replicate ops.size false) Z ρ H w₁.drew tm a (fun tm' H'=>Q .normal tm' H') (by simp) ?_ (by simp [hA]) ?_ ((C.keep h₁ hr).drew (.drew w₁)) hf ?_ ?_
    ·intro i hi hlt;simp at hlt;simp [hlt] at hi
    ·rw [hall];simpa using g3.pi.len
    ·rw [hall];exact h
    ·exact fun tm' H' hk' Z' ρ' w' a' h0 h1 h2 h3 h4 h5=>hq .normal tm' H' hk' Z' ρ' w' a' h0 h1 h2 h3 h4 (C.tT hT h5)
   rcases hd with hd | hd
   case inr=>
    obtain ⟨m,T,g1,g2,g3,g4,g5,g6,g7,g8,g9,g10⟩:=zjv hd
    refine C.step fun w₁ h₁=>⟨_,_,_,#[],zc7,(Drew.drew w₁).below Z,by simp,?_⟩
    simp only [Region.schedule,hm,Bool.true_or,if_true]
    have hT:C.T Z w w₁.drew:=C.tT (C.rT h₁) (C.kT ((Drew.drew w₁).below Z))
    refine zvr g1 g2 g3 g4 hok.1 g5 g6 g7 (by simpa using g8) g9 g10 hk _ ((C.keep h₁ hr).drew (.drew w₁)) hf h ?_
    exact fun tm' H' hk' Z' ρ' w' a' h0 h1 h2 h3 h4 h5=>hq .normal tm' H' hk' Z' ρ' w' a' h0 h1 h2 h3 h4 (C.tT hT h5)
   obtain ⟨m,hm1,hed,hπ⟩:=zms (hd.resolve_left (by simp))
   have hall:rem (z1l ops.toList) (Array.replicate ops.size false)=z1l ops.toList:=by
    unfold rem
    rw [List.filter_eq_self]
    intro i hi
    have:i<ops.size:=by simpa using hπ.lt i hi
    simp [this]
   refine C.step fun w₁ h₁=>⟨_,_,_,#[],zc7,(Drew.drew w₁).below Z,by simp,?_⟩
   simp only [Region.schedule,hm,Bool.true_or,if_true]
   have hT:C.T Z w w₁.drew:=C.tT (C.rT h₁) (C.kT ((Drew.drew w₁).below Z))
   refine z12g hX henv hm1 hed hπ hok.1 hk ops.size _ (Array.replicate ops.size false) Z ρ H w₁.drew tm a (fun tm' H'=>Q .normal tm' H') (by simp) ?_ ?_ ((C.keep h₁ hr).drew (.drew w₁)) hf ?_ ?_
   ·intro i hi hlt;simp at hlt;simp [hlt] at hi
   ·rw [hall];simpa using hπ.len
   ·rw [hall];exact h
   ·exact fun tm' H' hk' Z' ρ' w' a' h0 h1 h2 h3 h4 h5=>hq .normal tm' H' hk' Z' ρ' w' a' h0 h1 h2 h3 h4 (C.tT hT h5)
 | seq x y ihx ihy=>
  intro Z ρ H w tm a Q b k cs hk hr hf hok h hq
  simp only [z3k,Bool.and_eq_true] at hok
  refine C.still (fun _=>z3z) (ihx Z ρ H w tm a _ b (.code y::k) cs hk hr hf hok.1 h ?_)
  intro e tm' H' hk' Z' ρ' w' a' h0 h1 h2 h3 h4 h5
  cases e with
  | normal=>exact ihy Z' ρ' H' w' tm' a' Q b k cs hk h2 h3 hok.2 hk' (hq.shift h0 h1 h4 h5)
  | ret=>exact hq .ret tm' H' hk' Z' ρ' w' a' h0 h1 h2 h3 h4 h5
  | exit id=>exact Aft.push rfl (by simp) (hq (.exit id) tm' H' hk' Z' ρ' w' a' h0 h1 h2 h3 h4 h5)
 | cond c x y ihx ihy=>
  intro Z ρ H w tm a Q b k cs hk hr hf hok h hq
  simp only [z3k,Bool.and_eq_true] at hok
  have hv:=zge hf hok.1.1
  unfold exK zae at h
  split at h
  ·rename_i t ht
   rw [ht] at hv
   have hc:a.eval c=.bool t:=by generalize a.eval c=q at hv;cases hv;rfl
   rw [z6d] at h
   refine C.still (fun _=>zhe hc) ?_
   cases t
   ·exact ihy Z ρ H w tm a Q b k cs hk hr hf hok.2 h hq
   ·exact ihx Z ρ H w tm a Q b k cs hk hr hf hok.1.2 h hq
  ·exact h.elim
 | block id c ih=>
  intro Z ρ H w tm a Q b k cs hk hr hf hok h hq
  refine C.still (fun _=>zau) (ih Z ρ H w tm a _ b (.inBlock id::k) cs hk hr hf hok h ?_)
  intro e tm' H' hk' Z' ρ' w' a' h0 h1 h2 h3 h4 h5
  cases e with
  | normal=>exact C.still (fun _=>ziy) (hq .normal tm' H' hk' Z' ρ' w' a' h0 h1 h2 h3 h4 h5)
  | ret=>exact hq .ret tm' H' hk' Z' ρ' w' a' h0 h1 h2 h3 h4 h5
  | exit id'=>
   cases hb:Nat.beq id' id with
   | true=>
    have:id'=id:=Nat.eq_of_beq_eq_true hb
    simp only [zu,hb,cond_true] at hk'
    exact ⟨k,by simp [exitTo,this],hq .normal tm' H' hk' Z' ρ' w' a' h0 h1 h2 h3 h4 h5⟩
   | false=>
    have hne:id'≠id:=fun e=>by rw [e,Nat.beq_refl] at hb;cases hb
    simp only [zu,hb,cond_false] at hk'
    obtain ⟨k',hk2,hg⟩:=hq (.exit id') tm' H' hk' Z' ρ' w' a' h0 h1 h2 h3 h4 h5
    have:(id==id')=false:=by simp;exact fun h=>hne h.symm
    exact ⟨k',by simp [exitTo,this,hk2],hg⟩
 | loop c ih=>
  intro Z ρ H w tm a Q b k cs hk hr hf hok h hq
  obtain ⟨I,n,h0,hround⟩:=h
  have key:∀(n:Nat) (Z':Zone) (ρ':Ren) (H':zn) (w':World) (tm':List Value) (a':Act),I n tm' H'→Zle Z' Z→ρ <+:ρ'→HR Z' ρ' H' w'→VRs ρ' tm' a'.tmps.toList→a'.defers=a.defers→C.T Z w w'→C.Will Z' (G (b.atR a' (.code c::.inLoop c::k)) cs) w':=by
   intro n
   induction n using Nat.strongRecOn with
   | _ n ihn=>
    intro Z' ρ' H' w' tm' a' hI g0 g1 g2 g3 g4 g5
    refine ih Z' ρ' H' w' tm' a' _ b (.inLoop c::k) cs hk g2 g3 hok (hround n tm' H' hI) ?_
    intro e tm'' H'' hk' Z'' ρ'' w'' a'' q0 q1 q2 q3 q4 q5
    cases e with
    | normal=>
     obtain ⟨m',hlt,hI'⟩:=hk'
     exact C.still (fun _=>zma) (ihn m' hlt Z'' ρ'' H'' w'' tm'' a'' hI' (q0.trans g0) (g1.trans q1) q2 q3 (q4.trans g4) (C.tT g5 (C.mT g0 q5)))
    | ret=>exact hq .ret tm'' H'' hk' Z'' ρ'' w'' a'' (q0.trans g0) (g1.trans q1) q2 q3 (q4.trans g4) (C.tT g5 (C.mT g0 q5))
    | exit id=>exact Aft.push rfl (by simp) (hq (.exit id) tm'' H'' hk' Z'' ρ'' w'' a'' (q0.trans g0) (g1.trans q1) q2 q3 (q4.trans g4) (C.tT g5 (C.mT g0 q5)))
  exact C.still (fun _=>zhf) (key n Z ρ H w tm a h0 (.refl Z) (List.prefix_refl _) hr hf rfl (C.rT (C.refl Z w)))
 | rangeFunc f ps as b _ _=>intro Z ρ H w tm a Q b k cs hk hr hf hok h hq;exact h.elim
 | scope b _=>intro Z ρ H w tm a Q b k cs hk hr hf hok h hq;exact h.elim
 | label l=>intro Z ρ H w tm a Q b k cs hk hr hf hok h hq;exact h.elim
 | goto l=>intro Z ρ H w tm a Q b k cs hk hr hf hok h hq;exact h.elim
 | refuse s=>intro Z ρ H w tm a Q b k cs hk hr hf hok h hq;exact h.elim

theorem z16f {Z:Zone} {ρ:Ren} {w:World} {H:zn} {tm:List Value} {tmps:Array Value} (hr:HR Z ρ H w) (hf:VRs ρ tm tmps.toList) (rs:List ResultVar):∀{K:List Value→Prop},resK P rs tm H K→
  ∃l,K l∧∃l',(rs.mapM (fun | .tmp t=>pure (tmps.getD t undef) | .cell a t=>do loadVar t (←asAddr (tmps.getD a undef)):ResultVar→Sem Value)).run P w=.ok l' w∧VRs ρ l l'∧
   ∀es,∀e ∈ (rs.mapM (fun | .tmp t=>pure (tmps.getD t undef) | .cell a t=>do loadVar t (←asAddr (tmps.getD a undef)):ResultVar→Sem Value)).events P w es,e ∈ es∨EvOk Z w.heap.size e:=by
 have get:∀t,VR ρ (tm.getD t undef) (tmps.getD t undef):=fun t=>by
  have:=hf.getD t
  simpa [List.getD_eq_getElem?_getD] using this
 induction rs with
 | nil=>intro K h;exact ⟨[],h,[],rfl,.nil ρ,fun es e he=>.inl he⟩
 | cons r rs ih=>
  intro K h
  cases r with
  | tmp t=>
   obtain ⟨l,hk,l',h1,h2,h3⟩:=ih h
   refine ⟨_,hk,tmps.getD t undef::l',?_,.cons (get t) h2,fun es e he=>?_⟩
   ·simp only [List.mapM_cons,Sem.run_bind,Sem.run_pure,Result.andThen_ok,h1]
   ·simp only [List.mapM_cons,Sem.run_bind,Sem.events_bind,Sem.run_pure,Sem.events_pure,Result.andThen_ok,Result.evThen_ok,h1] at he
    exact h3 es e he
  | cell a t=>
   obtain ⟨v,hk,c,v',hx,hrun,hv,hev⟩:=zky (P:=P) hr h (get a)
   obtain ⟨l,hk,l',h1,h2,h3⟩:=ih hk
   have ha:asAddr (tmps.getD a undef)=pure c:=by rw [hx];rfl
   refine ⟨_,hk,v'::l',?_,.cons hv h2,fun es e he=>?_⟩
   ·simp only [List.mapM_cons,Sem.run_bind,ha,Sem.run_pure,Result.andThen_ok,hrun,h1]
   ·simp only [List.mapM_cons,Sem.run_bind,Sem.events_bind,ha,Sem.run_pure,Sem.events_pure,Result.andThen_ok,Result.evThen_ok,hrun,h1] at he
    rcases h3 _ e he with he | he
    ·rw [Sem.events_acc] at he
     rcases Array.mem_append.1 he with he | he
     ·exact .inl he
     ·exact .inr (hev e he)
    ·exact .inr he

theorem zf1 {fn:Func} {Z:Zone} {ρ:Ren} {w:World} {H:zn} {tm:List Value} {tmps:Array Value} (hr:HR Z ρ H w) (hf:VRs ρ tm tmps.toList) {K:List Value→Prop} (h:resK P fn.results.toList tm H K):
  ∃l,K l∧∃v',(results fn tmps).run P w=.ok v' w∧VR ρ (zft l) v'∧Evs P Z (results fn tmps) w w:=by
 obtain ⟨l,hk,l',h1,h2,h3⟩:=z16f (P:=P) (tmps:=tmps) hr hf _ h
 refine ⟨l,hk,if h:l'.toArray.size=1 then l'.toArray[0] else .tuple l'.toArray,?_,?_,?_⟩
 ·unfold results
  rw [←Array.toArray_toList (xs:=fn.results),List.mapM_toArray]
  simp only [Sem.run_bind,Sem.run_map,Result.andThen_ok,Sem.run_pure]
  erw [h1]
  rfl
 ·match l,h2 with
  | [],h2=>rw [h2.unnil];exact VRs.tuple (xs:=#[]) (ys:=#[]) (.nil ρ)
  | [x],h2=>
   obtain ⟨y,ys,rfl,h3,h4⟩:=h2.uncons
   rw [h4.unnil];exact h3
  | x::x2::r,h2=>
   obtain ⟨y,ys,rfl,h3,h4⟩:=h2.uncons
   obtain ⟨y2,ys,rfl,h5,h6⟩:=h4.uncons
   have:¬(y::y2::ys).toArray.size=1:=by simp
   rw [dif_neg this]
   exact VRs.tuple (xs:=(x::x2::r).toArray) (ys:=(y::y2::ys).toArray) h2
 ·intro e he
  unfold results at he
  rw [←Array.toArray_toList (xs:=fn.results),List.mapM_toArray] at he
  simp only [Sem.events_bind,Sem.events_map,Sem.run_map] at he
  have hrun:=h1
  revert he
  erw [h1]
  simp only [Result.andThen_ok,Result.evThen_ok,Sem.run_pure,Sem.events_pure]
  intro he
  rcases h3 #[] e he with he | he
  ·simp at he
  ·exact he

theorem znv {b:Frame} {a:Act} {cs:List Frame} {w:World} {fn:Func} {todo:List Item} {c:Frame} {v:Value} (hn:b.kind=.normal) (hd:a.defers=[]) (hf:P.funcs[b.fn]? =some fn) (hro:b.roundOf=none)
  (hr:(results fn a.tmps).run P w=.ok v w):
  stepG P main (G {b.atR a todo with mode:=.returning} (c::cs)) w=.go (G (c.finish v) cs) w (seen P b.fn ((results fn a.tmps).events P w #[])):=by
 simp [G,stepG,unwind,doReturn,Frame.atR,hn,hd,hf,hr,hro,GStep.after]

theorem zkv {Z:Zone} {ρ:Ren} {w:World} {H:zn} {tm:List Value} {a:Act} {b:Frame} {fn:Func} (hr:HR Z ρ H w) (hf:VRs ρ tm a.tmps.toList) (hn:b.kind=.normal) (hd:a.defers=[]) (hfn:P.funcs[b.fn]? =some fn) (hro:b.roundOf=none)
  {K:List Value→Prop} (h:resK P fn.results.toList tm H K) {c:Frame} {cs:List Frame} (hnext:∀l,K l→∀w₁ v',HR Z ρ H w₁→VR ρ (zft l) v'→C.T Z w w₁→C.Will Z (G (c.finish v') cs) w₁) (todo:List Item):
  C.Will Z (G {b.atR a todo with mode:=.returning} (c::cs)) w:=by
 refine C.step fun w₁ h₁=>?_
 have hr₁:=C.keep h₁ hr
 obtain ⟨l,hk,v',h1,h2,h3⟩:=zf1 (P:=P) hr₁ hf h
 exact ⟨_,cs,w₁,_,znv hn hd hfn hro h1,.refl _ _,fun e he=>h3 e (mem_seen he),hnext l hk w₁ v' hr₁ h2 (C.rT h₁)⟩

theorem z12j (hX:X main C) (hm:P.follows .mixedOrders=true) (henv:∀g,FnOkX P X g (env g)) (hLt:z8v env X) {g:Nat} {fn:Func} {c:Code} (hf:P.funcs[g]? =some fn) (hb:fn.body=some c)
  (hok:z3k (fun g=>((env g).quiet,(env g).tame)) c=true) {Z:Zone} {ρ:Ren} {H:zn} {w:World} {args args':List Value} {K:Value→zn→Prop} (hr:HR Z ρ H w) (ha:VRs ρ args args') (h:z6j P env fn args H K)
  {cl:Frame} {cs:List Frame} (hn:Nexts C Z ρ w K fun Z' v' w'=>C.Will Z' (G (cl.finish v') cs) w'):C.Will Z (G (Frame.enter P g args'.toArray .normal) (cl::cs)) w:=by
 unfold z6j at h
 rw [hb] at h
 have henter:Frame.enter P g args'.toArray .normal=({(default:Frame) with fn:=g,kind:=.normal}:Frame).atR {tmps:=args'.toArray++Array.replicate (fn.ntmps-args'.toArray.size) undef,defers:=[]} [.code c]:=by
  simp [Frame.enter,Frame.atR,hf,hb]
  rfl
 rw [henter]
 have hargs:VRs ρ (args++List.replicate (fn.ntmps-args.length) undef) (args'.toArray++Array.replicate (fn.ntmps-args'.toArray.size) undef).toList:=by
  have hl:=ha.1
  have e:(args'.toArray++Array.replicate (fn.ntmps-args'.toArray.size) undef).toList=args'++List.replicate (fn.ntmps-args.length) undef:=by simp [hl]
  rw [e]
  refine ha.append ?_
  have:∀n,VRs ρ (List.replicate n undef) (List.replicate n undef):=by
   intro n
   induction n with
   | zero=>exact .nil ρ
   | succ n ih=>exact .cons z7d ih
  exact this _
 refine zaf hX hm henv hLt c Z ρ H w _ _ _ _ [] (cl::cs) (by simp) hr hargs hok h ?_
 intro e tm' H' hq Z' ρ' w' a' h0 h1 h2 h3 h4 h5
 have fin:resK P fn.results.toList tm' H' (fun l=>K (zft l) H')→∀todo,C.Will Z' (G {({(default:Frame) with fn:=g,kind:=.normal}:Frame).atR a' todo with mode:=.returning} (cl::cs)) w':=by
  intro hk todo
  exact zkv (fn:=fn) h2 h3 rfl h4 hf rfl hk (fun l hl w₁ v' q1 q2 q3=>hn _ H' hl Z' ρ' w₁ v' h0 h1 q1 q2 (C.tT h5 (C.mT h0 q3))) todo
 cases e with
 | normal=>exact C.still (fun _=>zf4 rfl) (fin hq [])
 | ret=>exact fun todo=>C.still (fun _=>zf5 rfl) (fin hq (.code .ret::todo))
 | exit id=>exact hq.elim

theorem zm8 {g:Nat} {fn:Func} {c:Code} (hf:P.funcs[g]? =some fn) (hb:fn.body=some c) (hn:(fn.name== "runtime.NumGoroutine")=false) (args:Array Value) (w:World):
  (callFunc g args).run P w=.ok (.enter g args) w∧∀es,(callFunc g args).events P w es=es:=by
 have hb':fn.body.isNone=false:=by rw [hb];rfl
 constructor
 ·simp only [callFunc,Sem.run_bind,run_program,Result.andThen_ok,hf,hn,Bool.false_eq_true,if_false,hb',Sem.run_pure]
 ·intro es
  simp only [callFunc,Sem.events_bind,run_program,events_program,Result.evThen_ok,hf,hn,Bool.false_eq_true,if_false,hb',Sem.events_pure]

theorem FnOkX.body (hm:P.follows .mixedOrders=true) (henv:∀g,FnOkX P X g (env g)) {g:Nat} {fn:Func} {c:Code} (hf:P.funcs[g]? =some fn) (hb:fn.body=some c) (hn:(fn.name== "runtime.NumGoroutine")=false)
  (hok:z3k (fun g=>((env g).quiet,(env g).tame)) c=true) {S:FSpec}
  (mono:∀(args:List Value) (H:zn) (K K':Value→zn→Prop),(∀v H',K v H'→K' v H')→S.F args H K→S.F args H K')
  (quiet:S.quiet=true→∀(args:List Value) (H:zn) (K:Value→zn→Prop),S.F args H K→∃v,K v H∧∀K':Value→zn→Prop,K' v H→S.F args H K')
  (live:∀(args:List Value) (H:zn) (K:Value→zn→Prop),S.F args H K→∃v H',K v H')
  (tame:S.tame=true→∀(args:List Value) (H:zn) (K:Value→zn→Prop),S.F args H K→S.F args H fun v H'=>Grow H H'∧K v H')
  (h:∀(args:List Value) (H:zn) (K:Value→zn→Prop),S.F args H K→z6j P env fn args H K) (hLt:z8v env X:=by first | assumption | exact z8v.no rfl):FnOkX P X g S:=by
 refine ⟨mono,quiet,live,tame,?_⟩
 intro main C hX Z ρ H w args args' K hr ha hk b a k cs ops i rest o ho hw hkd hdf hex hnext
 refine C.step fun w₁ h₁=>?_
 have hrun:=zm8 hf hb hn args'.toArray w₁
 refine ⟨_,_,w₁,#[],zf6 ho hw hdf hkd (by rw [hex];exact hrun.1) (by rw [hex];exact hrun.2 _),.refl _ _,by simp,?_⟩
 refine z12j hX hm henv hLt hf hb hok (C.keep h₁ hr) ha (h args H K hk) ?_
 intro v H' hk' Z' ρ' w' v' h0 h1 h2 h3 h4
 have hfin:(b.atR a (.inRegion ops (i::rest)::k)).finish v'=b.atR (a.put o.dst v') (.inRegion ops rest::k):=by rw [Frame.finish_atR,ho];rfl
 rw [hfin]
 exact hnext v H' hk' Z' ρ' w' v' h0 h1 h2 h3 (C.tT (C.rT h₁) h4)
end
end Go.Proofs.YthheoefadijhdaaGreat.Ai
set_option linter.unusedSimpArgs false
set_option linter.unusedVariables false
namespace Go.Proofs.YthheoefadijhdaaGreat.Ai
open Go Go.RowKit Go.Conc

theorem FnOk.body {P:Program} {env:Env} (hm:P.follows .mixedOrders=true) (henv:∀g,FnOk P g (env g)) {g:Nat} {fn:Func} {c:Code} (hf:P.funcs[g]? =some fn) (hb:fn.body=some c) (hn:(fn.name== "runtime.NumGoroutine")=false)
  (hok:z3k (fun g=>((env g).quiet,(env g).tame)) c=true) {S:FSpec}
  (mono:∀(args:List Value) (H:zn) (K K':Value→zn→Prop),(∀v H',K v H'→K' v H')→S.F args H K→S.F args H K')
  (quiet:S.quiet=true→∀(args:List Value) (H:zn) (K:Value→zn→Prop),S.F args H K→∃v,K v H∧∀K':Value→zn→Prop,K' v H→S.F args H K')
  (live:∀(args:List Value) (H:zn) (K:Value→zn→Prop),S.F args H K→∃v H',K v H')
  (tame:S.tame=true→∀(args:List Value) (H:zn) (K:Value→zn→Prop),S.F args H K→S.F args H fun v H'=>Grow H H'∧K v H')
  (h:∀(args:List Value) (H:zn) (K:Value→zn→Prop),S.F args H K→z6j P env fn args H K) (hLt:z8v env (zg9 P):=by first | assumption | exact z8v.no rfl):FnOk P g S:=
 FnOkX.body hm henv hf hb hn hok mono quiet live tame h hLt

def lone (P:Program) (f:FuncId) (cs0:List Frame) (R:Ending→World→Prop):Car P true where
 Will _ g w:=∃e w' fr,R e w'∧Comes P (Go.lone g.frame g.callers w) (Go.lone fr cs0 w') e∧fr.fn=f∧fr.leaving P w' e
 R _ w w₁:=w₁=w
 T Z w w':=Kept Z w w'
 refl _ _:=rfl
 keep h hr:=by rw [h];exact hr
 rT h:=by rw [h];exact .refl _ _
 kT h:=h
 tT h k:=h.trans k
 mT h k:=k.mono fun c=>(h c).1
 step {Z fr cs w} h:=by
  obtain ⟨fr',cs',w',es,h1,_,_,e,w'',fr'',h2,h3,h4,h5⟩:=h w rfl
  exact ⟨e,w'',fr'',h2,.of_steps (.one (step_lone_go (by have h9:stepG P true {frame:=fr,callers:=cs,status:=.running,dying:=none} w=.go (G fr' cs') w' es:=h1;show (stepG P true {frame:=fr,callers:=cs,status:=.running,dying:=none} w).bare=_;rw [h9];rfl))) h3,h4,h5⟩
 calm h k:=by rw [h];exact k

section
variable {P:Program} {env:Env} {B0:Nat}
end
end Go.Proofs.YthheoefadijhdaaGreat.Ai
set_option linter.unusedVariables false
set_option linter.unusedSimpArgs false
namespace Go.Proofs.YthheoefadijhdaaGreat.Ai
open Go

abbrev ud:Value:=undef
def bitT (t:Nat):Nat:=Nat.shiftLeft 1 t
def orT (a b:Nat):Nat:=Nat.lor a b
def rmT (a t:Nat):Nat:=Nat.land a (Nat.xor a (bitT t))
def rdO:Operand→Nat
 | .tmp t=>bitT t
 | _=>0
def rdL:List Operand→Nat
 | []=>0
 | x::r=>orT (rdO x) (rdL r)
def rdM:Option Operand→Nat
 | some x=>rdO x
 | none=>0
def rdOp (o:Op):Nat:=
 match o with
 | .move x | .assign x=>rdO x
 | .pick c a b=>orT (rdO c) (orT (rdO a) (rdO b))
 | .box _ x=>rdO x
 | .build _ parts=>rdL (parts.toList.map (·.2))
 | .buildSlice _ _ parts=>rdL (parts.toList.map (·.2))
 | .load _ a=>rdO a
 | .store _ a x=>orT (rdO a) (rdO x)
 | .nilCheck x=>rdO x
 | .binOp _ _ x y _=>orT (rdO x) (rdO y)
 | .unOp _ _ x=>rdO x
 | .convert _ _ x=>rdO x
 | .makeFunc _ first cap=>orT (rdL first.toList) (rdL cap.toList)
 | .makeSlice _ n c=>orT (rdO n) (rdO c)
 | .slice _ x lo hi mx=>orT (rdO x) (orT (rdM lo) (orT (rdM hi) (rdM mx)))
 | .fieldAddr _ x _=>rdO x
 | .field _ x _=>rdO x
 | .indexAddr _ x i=>orT (rdO x) (rdO i)
 | .index _ x i=>orT (rdO x) (rdO i)
 | .extract t _=>rdO t
 | .call c=>orT (match c.callee with | .value f=>rdO f | _=>0) (rdL c.args.toList)
 | _=>0
def rdG (ops:List Oper) (o:Oper):Nat:=
 match o.guard with
 | none=>0
 | some (j,_)=>match ops[j]? with
  | some ⟨some d,_,_,_,_,_⟩=>bitT d
  | _=>0
def rmD (a:Nat):Option Tmp→Nat
 | some t=>rmT a t
 | none=>a
def liveR (ops:List Oper):List Oper→Nat→Nat
 | [],n=>n
 | o::r,n=>orT (rmD (liveR ops r n) o.dst) (orT (rdOp o.op) (rdG ops o))
def exT:List (Nat×Nat)→Nat→Nat
 | [],_=>0
 | (i,n)::r,id=>cond (Nat.beq i id) n (exT r id)
def z4p:Code→Nat→Nat→List (Nat×Nat)→Nat
 | .skip,n,_,_=>n
 | .region _ ops draw,n,_,_=>liveR ops.toList (znc draw ops.toList) n
 | .seq a b,n,r,ex=>z4p a (z4p b n r ex) r ex
 | .cond c a b,n,r,ex=>orT (rdO c) (orT (z4p a n r ex) (z4p b n r ex))
 | .block id c,n,r,ex=>z4p c n r ((id,n)::ex)
 | .loop c,_,r,ex=>z4p c 0 r ex
 | .exit id,_,_,ex=>exT ex id
 | .ret,_,r,_=>r
 | _,n,_,_=>n
def restr:Nat→List Value→List Value
 | _,[]=>[]
 | m,x::r=>cond (Nat.beq (m % 2) 1) x ud::restr (m / 2) r
def subT (a b:Nat):Bool:=Nat.beq (Nat.land a b) a

section
variable (P:Program)
def exL (env:Env):Code→Nat→Nat→List (Nat×Nat)→List Value→zn→Post→Prop
 | .skip,n,r,ex,tm,H,Q=>Q .normal (restr n tm) H
 | .region _ ops draw,n,r,ex,tm,H,Q=>seqK P env ops.toList (znc draw ops.toList) tm H fun tm' H'=>Q .normal (restr n tm') H'
 | .seq a b,n,r,ex,tm,H,Q=>exL env a (z4p b n r ex) r ex tm H (seqQ (exL env b n r ex) Q)
 | .cond c a b,n,r,ex,tm,H,Q=>zae (evT tm c) fun t=>zad t fun t=>cond t (exL env a n r ex (restr (z4p a n r ex) tm) H Q) (exL env b n r ex (restr (z4p b n r ex) tm) H Q)
 | .block id c,n,r,ex,tm,H,Q=>exL env c n r ((id,n)::ex) tm H (zu id Q)
 | .loop c,n,r,ex,tm,H,Q=>chk (subT (z4p c (z4p c 0 r ex) r ex) (z4p c 0 r ex)) (z1j (exL env c (z4p c 0 r ex) r ex) (restr (z4p c 0 r ex) tm) H Q)
 | .exit id,n,r,ex,tm,H,Q=>Q (.exit id) (restr (exT ex id) tm) H
 | .ret,n,r,ex,tm,H,Q=>Q .ret (restr r tm) H
 | _,_,_,_,_,_,_=>False
def zir:List ResultVar→Nat
 | []=>0
 | .tmp t::r=>orT (bitT t) (zir r)
 | .cell a _::r=>orT (bitT a) (zir r)
def zt (env:Env) (fn:Func) (args:List Value) (H:zn) (K:Value→zn→Prop):Prop:=
 match fn.body with
 | some c=>exL P env c (zir fn.results.toList) (zir fn.results.toList) [] (args++List.replicate (fn.ntmps-args.length) undef) H (retK P fn K)
 | none=>False
end

theorem zb3 (t s:Nat):(bitT t).testBit s=decide (t=s):=by
 show ((1:Nat) <<< t).testBit s=_
 rw [Nat.one_shiftLeft,Nat.testBit_two_pow]
theorem zya (a b s:Nat):(orT a b).testBit s=(a.testBit s || b.testBit s):=Nat.testBit_or a b s
theorem zys (a t s:Nat):(rmT a t).testBit s=(a.testBit s && !(decide (t=s))):=by
 show (a &&& (a ^^^ bitT t)).testBit s=_
 rw [Nat.testBit_and,Nat.testBit_xor,zb3]
 cases a.testBit s<;>cases decide (t=s)<;>rfl
def Agr (n:Nat) (tm tm':List Value):Prop:=tm.length=tm'.length∧∀s,n.testBit s=true→tm.getD s undef=tm'.getD s undef
theorem Agr.left {a b:Nat} {tm tm':List Value} (h:Agr (orT a b) tm tm'):Agr a tm tm':=⟨h.1,fun s hs=>h.2 s (by rw [zya,hs];rfl)⟩
theorem Agr.right {a b:Nat} {tm tm':List Value} (h:Agr (orT a b) tm tm'):Agr b tm tm':=⟨h.1,fun s hs=>h.2 s (by rw [zya,hs,Bool.or_true])⟩
theorem zm4:∀(tm:List Value) (n:Nat),(restr n tm).length=tm.length:=by
 intro tm
 induction tm with
 | nil=>intro n;rfl
 | cons x r ih=>intro n;simp [restr,ih]
theorem zyr:∀(tm:List Value) (n s:Nat),n.testBit s=true→(restr n tm).getD s undef=tm.getD s undef:=by
 intro tm
 induction tm with
 | nil=>intro n s h;rfl
 | cons x r ih=>
  intro n s h
  cases s with
  | zero=>
   have:n % 2=1:=by simpa [Nat.testBit_zero] using h
   show (cond (Nat.beq (n % 2) 1) x ud::restr (n / 2) r).getD 0 undef=_
   rw [this];rfl
  | succ s=>
   rw [Nat.testBit_succ] at h
   show (cond (Nat.beq (n % 2) 1) x ud::restr (n / 2) r).getD (s+1) undef=_
   rw [List.getD_cons_succ,List.getD_cons_succ]
   exact ih _ _ h
theorem Agr.restr {n:Nat} {tm tm':List Value} (h:Agr n tm tm'):Agr n (Ai.restr n tm) tm':=
 ⟨(zm4 _ _).trans h.1,fun s hs=>(zyr _ _ _ hs).trans (h.2 s hs)⟩
theorem Agr.ev {x:Operand} {tm tm':List Value} (h:Agr (rdO x) tm tm'):evT tm x=evT tm' x:=by
 cases x with
 | tmp t=>exact h.2 t (by show (bitT t).testBit t=true;rw [zb3];simp)
 | _=>rfl
theorem Agr.evL:∀{l:List Operand} {tm tm':List Value},Agr (rdL l) tm tm'→l.map (evT tm)=l.map (evT tm'):=by
 intro l
 induction l with
 | nil=>intro tm tm' h;rfl
 | cons x r ih=>intro tm tm' h;rw [List.map_cons,List.map_cons,Agr.ev (Agr.left h),ih (Agr.right h)]
theorem Agr.evP:∀{l:List (Nat×Operand)} {tm tm':List Value},Agr (rdL (l.map (·.2))) tm tm'→(l.map fun (i,x)=>(i,evT tm x))=l.map fun (i,x)=>(i,evT tm' x):=by
 intro l
 induction l with
 | nil=>intro tm tm' h;rfl
 | cons x r ih=>
  intro tm tm' h
  obtain ⟨i,x⟩:=x
  rw [List.map_cons,List.map_cons]
  have h1:evT tm x=evT tm' x:=Agr.ev (Agr.left h)
  rw [ih (Agr.right h)]
  show (i,evT tm x)::_=(i,evT tm' x)::_
  rw [h1]
theorem Agr.evM {x:Option Operand} {tm tm':List Value} (h:Agr (rdM x) tm tm'):x.map (evT tm)=x.map (evT tm'):=by
 cases x with
 | none=>rfl
 | some x=>show some _=some _;rw [Agr.ev h]

section
variable {P:Program}
theorem z1ey {env:Env} {o:Oper} {tm tm':List Value} (h:Agr (rdOp o.op) tm tm') (H:zn) (K:Value→zn→Prop):opK P env o (evT tm) H K=opK P env o (evT tm') H K:=by
 unfold opK
 cases ho:o.op with
 | move x=>rw [ho] at h;simp only [Agr.ev h]
 | assign x=>rw [ho] at h;simp only [Agr.ev h]
 | pick c a b=>rw [ho] at h;simp only [Agr.ev (Agr.left h),Agr.ev (Agr.left (Agr.right h)),Agr.ev (Agr.right (Agr.right h))]
 | box t x=>rw [ho] at h;simp only [Agr.ev h]
 | build t parts=>rw [ho] at h;simp only [Agr.evP h]
 | buildSlice t n parts=>rw [ho] at h;simp only [Agr.evP h]
 | load t a=>rw [ho] at h;simp only [Agr.ev h]
 | store t a x=>rw [ho] at h;simp only [Agr.ev (Agr.left h),Agr.ev (Agr.right h)]
 | nilCheck x=>rw [ho] at h;simp only [Agr.ev h]
 | binOp a b x y c=>rw [ho] at h;simp only [Agr.ev (Agr.left h),Agr.ev (Agr.right h)]
 | unOp a b x=>rw [ho] at h;simp only [Agr.ev h]
 | convert a b x=>rw [ho] at h;simp only [Agr.ev h]
 | makeFunc f a b=>rw [ho] at h;simp only [Agr.evL (Agr.left h),Agr.evL (Agr.right h)]
 | makeSlice t n c=>rw [ho] at h;simp only [Agr.ev (Agr.left h),Agr.ev (Agr.right h)]
 | slice t x lo hi mx=>rw [ho] at h;simp only [Agr.ev (Agr.left h),Agr.evM (Agr.left (Agr.right h)),Agr.evM (Agr.left (Agr.right (Agr.right h))),Agr.evM (Agr.right (Agr.right (Agr.right h)))]
 | fieldAddr s x f=>rw [ho] at h;simp only [Agr.ev h]
 | field s x f=>rw [ho] at h;simp only [Agr.ev h]
 | indexAddr t x i=>rw [ho] at h;simp only [Agr.ev (Agr.left h),Agr.ev (Agr.right h)]
 | index t x i=>rw [ho] at h;simp only [Agr.ev (Agr.left h),Agr.ev (Agr.right h)]
 | extract t i=>rw [ho] at h;simp only [Agr.ev h]
 | call c=>
  rw [ho] at h
  have h2:=Agr.evL (Agr.right h)
  have h1:=Agr.left h
  cases hc:c.callee with
  | builtin b=>simp only [h2,hc]
  | value f=>
   rw [hc] at h1
   simp only [h2,hc,Agr.ev h1]
  | _=>simp only [hc]
 | _=>rfl
theorem zxr {ops:List Oper} {o:Oper} {tm tm':List Value} (h:Agr (rdOp o.op) tm tm'):zib ops o (evT tm)=zib ops o (evT tm'):=by
 unfold zib
 cases ho:o.op with
 | call c=>
  rw [ho] at h
  have h2:=Agr.right h
  cases hc:c.callee with
  | builtin b=>
   cases ha:c.args.toList with
   | nil=>cases b<;>simp only [hc,ha]
   | cons x r=>
    rw [ha] at h2
    cases b<;>simp only [hc,ha,Agr.ev (Agr.left h2)]
  | _=>simp only [hc]
 | _=>rfl
theorem zzc {env:Env} {o:Oper} {tm tm':List Value} (h:Agr (rdOp o.op) tm tm'):zf9 env o (evT tm)=zf9 env o (evT tm'):=by
 unfold zf9
 cases ho:o.op with
 | call c=>
  rw [ho] at h
  have h1:=Agr.left h
  cases hc:c.callee with
  | value f=>
   rw [hc] at h1
   cases f with
   | tmp t=>simp only [hc,Agr.ev h1]
   | _=>simp only [hc]
  | _=>simp only [hc]
 | _=>rfl
theorem z1f0 {env:Env} {ops:List Oper} {o:Oper} {tm tm':List Value} (h:Agr (rdOp o.op) tm tm') (H:zn) (K:Value→zn→Prop):opS P env ops o (evT tm) H K=opS P env ops o (evT tm') H K:=by
 unfold opS
 rw [zxr h,zzc h,z1ey h]

theorem Agr.set {n:Nat} {tm tm':List Value} (d:Tmp) (v:Value) (h:Agr (rmT n d) tm tm'):Agr n (tm.set d v) (tm'.set d v):=by
 refine ⟨by simp [h.1],fun s hs=>?_⟩
 rw [List.getD_eq_getElem?_getD,List.getD_eq_getElem?_getD,List.getElem?_set,List.getElem?_set]
 by_cases e:d=s
 ·rw [if_pos e,if_pos e,h.1]
 ·rw [if_neg e,if_neg e]
  have:=h.2 s (by rw [zys,hs];simp [e])
  rwa [List.getD_eq_getElem?_getD,List.getD_eq_getElem?_getD] at this
theorem Agr.put {n:Nat} {tm tm':List Value} (d:Option Tmp) (v:Value) (h:Agr (rmD n d) tm tm'):Agr n (putT tm d v) (putT tm' d v):=by
 cases d with
 | none=>exact h
 | some d=>exact Agr.set d v h
theorem Agr.mono {a b:Nat} {tm tm':List Value} (h:Agr a tm tm') (hab:∀s,b.testBit s=true→a.testBit s=true):Agr b tm tm':=⟨h.1,fun s hs=>h.2 s (hab s hs)⟩
theorem Agr.setM {n:Nat} {tm tm':List Value} (d:Tmp) (v:Value) (h:Agr n tm tm'):Agr n (tm.set d v) (tm'.set d v):=
 Agr.set d v (h.mono fun s hs=>by rw [zys] at hs;exact (Bool.and_eq_true _ _ ▸ hs).1)
theorem zz2 {X:Cls P} {env:Env} (henv:∀g,FnOkX P X g (env g)) {ops:List Oper} {o:Oper} {n:Nat} {tm tm':List Value} {H:zn} {K K':List Value→zn→Prop}
  (h:Agr (orT (rmD n o.dst) (orT (rdOp o.op) (rdG ops o))) tm tm') (hk:∀s s' H,Agr n s s'→K s H→K' s' H) (hs:z5u P env ops o tm H K):z5u P env ops o tm' H K':=by
 have one:∀tm tm':List Value,Agr (orT (rmD n o.dst) (orT (rdOp o.op) (rdG ops o))) tm tm'→opS P env ops o (evT tm) H (fun v H'=>K (putT tm o.dst v) H')→opS P env ops o (evT tm') H (fun v H'=>K' (putT tm' o.dst v) H'):=by
  intro tm tm' h hs
  rw [←z1f0 h.right.left]
  exact zd1 henv (fun v H' k=>hk _ _ _ (Agr.put _ _ h.left) k) hs
 unfold z5u at *
 cases hg:o.guard with
 | none=>
  rw [hg] at hs
  exact one _ _ h hs
 | some jw=>
  obtain ⟨j,want⟩:=jw
  rw [hg] at hs
  simp only [] at hs ⊢
  cases hj:ops[j]? with
  | none=>rw [hj] at hs;exact hs.elim
  | some q=>
   obtain ⟨qd,q1,q2,q3,q4,q5⟩:=q
   rw [hj] at hs
   cases qd with
   | none=>exact hs.elim
   | some d=>
    simp only [] at hs ⊢
    have hd:tm.getD d undef=tm'.getD d undef:=by
     have h2:=h.right.right
     unfold rdG at h2
     rw [hg] at h2
     simp only [hj] at h2
     exact h2.2 d (by rw [zb3];simp)
    rw [←hd]
    cases hv:tm.getD d undef with
    | bool t=>
     rw [hv] at hs
     simp only [] at hs ⊢
     cases t
     ·simp only [zad,cond_false] at hs ⊢
      cases want
      ·exact one _ _ (Agr.setM d _ h) hs
      ·exact hk _ _ _ (Agr.put _ _ (Agr.setM d _ h).left) hs
     ·simp only [zad,cond_true] at hs ⊢
      cases want
      ·exact hk _ _ _ (Agr.put _ _ (Agr.setM d _ h).left) hs
      ·exact one _ _ (Agr.setM d _ h) hs
    | tuple vs=>rw [hv] at hs;exact hk _ _ _ (Agr.put _ _ h.left) hs
    | _=>rw [hv] at hs;exact hs.elim
theorem z16h {X:Cls P} {env:Env} (henv:∀g,FnOkX P X g (env g)) {ops:List Oper} {n:Nat}:∀{l:List Oper} {tm tm':List Value} {H:zn} {K K':List Value→zn→Prop},
  Agr (liveR ops l n) tm tm'→(∀s s' H,Agr n s s'→K s H→K' s' H)→seqK P env ops l tm H K→seqK P env ops l tm' H K':=by
 intro l
 induction l with
 | nil=>intro tm tm' H K K' h hk hs;exact hk _ _ _ h hs
 | cons o r ih=>intro tm tm' H K K' h hk hs;exact zz2 henv h (fun s s' H' ha=>ih ha hk) hs
def Rel (n r:Nat) (ex:List (Nat×Nat)) (Q Q':Post):Prop:=
 (∀s s' H,Agr n s s'→Q .normal s H→Q' .normal s' H)∧(∀s s' H,Agr r s s'→Q .ret s H→Q' .ret s' H)∧∀id s s' H,Agr (exT ex id) s s'→Q (.exit id) s H→Q' (.exit id) s' H
theorem zqf {v:Value} {K:Bool→Prop} (h:zae v K):∃b,v=.bool b∧K b:=by
 cases v with
 | bool b=>exact ⟨b,rfl,h⟩
 | _=>exact h.elim
theorem zjy {X:Cls P} {env:Env} (henv:∀g,FnOkX P X g (env g)):∀(c:Code) (n r:Nat) (ex:List (Nat×Nat)) (tm tm':List Value) (H:zn) (Q Q':Post),
  Agr (z4p c n r ex) tm tm'→Rel n r ex Q Q'→exL P env c n r ex tm H Q→exK P env c tm' H Q':=by
 intro c
 induction c with
 | skip=>intro n r ex tm tm' H Q Q' h hq hx;exact hq.1 _ _ _ h.restr hx
 | region a ops draw=>
  intro n r ex tm tm' H Q Q' h hq hx
  exact z16h henv h (fun s s' H' ha hk=>hq.1 _ _ _ ha.restr hk) hx
 | seq a b iha ihb=>
  intro n r ex tm tm' H Q Q' h hq hx
  have hx:exL P env a (z4p b n r ex) r ex tm H (seqQ (exL P env b n r ex) Q):=hx
  exact iha _ _ _ _ _ _ (seqQ (exL P env b n r ex) Q) _ h ⟨fun s s' H ha hk=>ihb _ _ _ _ _ _ _ _ ha hq hk,hq.2.1,hq.2.2⟩ hx
 | cond c a b iha ihb=>
  intro n r ex tm tm' H Q Q' h hq hx
  have hx:zae (evT tm c) fun t=>zad t fun t=>cond t (exL P env a n r ex (restr (z4p a n r ex) tm) H Q) (exL P env b n r ex (restr (z4p b n r ex) tm) H Q):=hx
  show zae (evT tm' c) fun t=>zad t fun t=>cond t (exK P env a tm' H Q') (exK P env b tm' H Q')
  rw [Agr.ev (Agr.left h)] at hx
  obtain ⟨t,ht,hx⟩:=zqf hx
  rw [ht]
  cases t
  ·exact ihb _ _ _ _ _ _ _ _ (Agr.right (Agr.right h)).restr hq hx
  ·exact iha _ _ _ _ _ _ _ _ (Agr.left (Agr.right h)).restr hq hx
 | block id c ih=>
  intro n r ex tm tm' H Q Q' h hq hx
  have hx:exL P env c n r ((id,n)::ex) tm H (zu id Q):=hx
  refine ih _ _ _ _ _ _ (zu id Q) _ h ⟨hq.1,hq.2.1,fun id' s s' H ha hk=>?_⟩ hx
  have hk:cond (Nat.beq id' id) (Q .normal s H) (Q (.exit id') s H):=hk
  show cond (Nat.beq id' id) (Q' .normal s' H) (Q' (.exit id') s' H)
  have ha:Agr (cond (Nat.beq id id') n (exT ex id')) s s':=ha
  cases hb:Nat.beq id' id with
  | true=>
   have e:=Nat.eq_of_beq_eq_true hb
   subst e
   rw [hb] at hk ha
   exact hq.1 _ _ _ ha hk
  | false=>
   have hb2:Nat.beq id id'=false:=by
    cases hc:Nat.beq id id' with
    | false=>rfl
    | true=>have:=Nat.eq_of_beq_eq_true hc;subst this;rw [hc] at hb;cases hb
   rw [hb] at hk;rw [hb2] at ha
   exact hq.2.2 _ _ _ _ ha hk
 | loop c ih=>
  intro n r ex tm tm' H Q Q' h hq hx
  obtain ⟨hsub,I,m,h0,hs⟩:=z1c hx
  have hX:∀s,(z4p c (z4p c 0 r ex) r ex).testBit s=true→(z4p c 0 r ex).testBit s=true:=by
   intro s hs
   have e:=Nat.eq_of_beq_eq_true hsub
   have:(Nat.land (z4p c (z4p c 0 r ex) r ex) (z4p c 0 r ex)).testBit s=true:=by rw [e];exact hs
   have this:((z4p c (z4p c 0 r ex) r ex) &&& (z4p c 0 r ex)).testBit s=true:=this
   rw [Nat.testBit_and,hs] at this;simpa using this
  have h:Agr (z4p c 0 r ex) tm tm':=h
  refine ⟨fun k s' H=>∃s,Agr (z4p c 0 r ex) s s'∧I k s H,m,⟨_,h.restr,h0⟩,?_⟩
  rintro k s' H ⟨s,ha,hI⟩
  refine ih _ _ _ _ _ _ (zx I k Q) _ (ha.mono hX) ⟨fun s s' H ha hk=>?_,hq.2.1,hq.2.2⟩ (hs k s H hI)
  obtain ⟨k',h1,h2⟩:=hk
  exact ⟨k',h1,s,ha,h2⟩
 | exit id=>intro n r ex tm tm' H Q Q' h hq hx;exact hq.2.2 _ _ _ _ (Agr.restr h) hx
 | ret=>intro n r ex tm tm' H Q Q' h hq hx;exact hq.2.1 _ _ _ (Agr.restr h) hx
 | _=>intro n r ex tm tm' H Q Q' h hq hx;exact hx.elim
theorem zq4:∀{l:List ResultVar} {tm tm':List Value} {H:zn} {K:List Value→Prop},Agr (zir l) tm tm'→resK P l tm H K=resK P l tm' H K:=by
 intro l
 induction l with
 | nil=>intro tm tm' H K h;rfl
 | cons x r ih=>
  intro tm tm' H K h
  cases x with
  | tmp t=>
   show resK P r tm H (fun l=>K (tm.getD t undef::l))=resK P r tm' H (fun l=>K (tm'.getD t undef::l))
   have:tm.getD t undef=tm'.getD t undef:=(Agr.left h).2 t (by rw [zb3];simp)
   rw [this,ih (Agr.right h)]
  | cell a t=>
   show z8e P t (tm.getD a undef) H _=z8e P t (tm'.getD a undef) H _
   have:tm.getD a undef=tm'.getD a undef:=(Agr.left h).2 a (by rw [zb3];simp)
   rw [this]
   congr 1
   funext v
   exact ih (Agr.right h)
theorem zby {X:Cls P} {env:Env} (henv:∀g,FnOkX P X g (env g)) {fn:Func} {args:List Value} {H:zn} {K:Value→zn→Prop} (h:zt P env fn args H K):z6j P env fn args H K:=by
 unfold zt at h
 unfold z6j
 cases hb:fn.body with
 | none=>rw [hb] at h;exact h.elim
 | some c=>
  rw [hb] at h
  have ret:∀s s' H,Agr (zir fn.results.toList) s s'→resK P fn.results.toList s H (fun l=>K (zft l) H)→resK P fn.results.toList s' H (fun l=>K (zft l) H):=fun s s' H ha hk=>by rw [←zq4 ha];exact hk
  exact zjy henv c _ _ _ _ _ _ _ _ ⟨rfl,fun _ _=>rfl⟩ ⟨ret,ret,fun id s s' H ha hk=>hk.elim⟩ h
def Nice (q t:Bool) (H:zn) (G B:(Value→zn→Prop)→Prop):Prop:=
 (∀K K':Value→zn→Prop,(∀v H',K v H'→K' v H')→G K→G K')∧(q=true→∀K:Value→zn→Prop,G K→∃v,K v H∧∀K':Value→zn→Prop,K' v H→G K')∧
 (∀K:Value→zn→Prop,G K→∃v H',K v H')∧(t=true→∀K:Value→zn→Prop,G K→G fun v H'=>Grow H H'∧K v H')∧(∀K:Value→zn→Prop,G K→B K)
theorem Nice.no {q t:Bool} {H:zn} {B:(Value→zn→Prop)→Prop}:Nice q t H (fun _=>False) B:=⟨fun _ _ _ h=>h,fun _ _ h=>h.elim,fun _ h=>h.elim,fun _ _ h=>h,fun _ h=>h.elim⟩
theorem FnOkX.bodyF {X:Cls P} {env:Env} (hm:P.follows .mixedOrders=true) (henv:∀g,FnOkX P X g (env g)) {g:Nat} {fn:Func} {c:Code} (hf:P.funcs[g]? =some fn) (hb:fn.body=some c) (hn:(fn.name== "runtime.NumGoroutine")=false)
  (hok:z3k (fun g=>((env g).quiet,(env g).tame)) c=true) {F:List Value→zn→(Value→zn→Prop)→Prop} {q t:Bool}
  (h:∀(args:List Value) (H:zn),Nice q t H (F args H) (zt P env fn args H)) (hLt:z8v env X:=by first | assumption | exact z8v.no rfl):FnOkX P X g {F:=F,quiet:=q,tame:=t}:=
 FnOkX.body hm henv hf hb hn hok (fun args H K K' hk=>(h args H).1 K K' hk) (fun hq args H K=>(h args H).2.1 hq K) (fun args H K=>(h args H).2.2.1 K) (fun ht args H K=>(h args H).2.2.2.1 ht K) (fun args H K hk=>zby henv ((h args H).2.2.2.2 K hk)) hLt
theorem FnOk.bodyF {env:Env} (hm:P.follows .mixedOrders=true) (henv:∀g,FnOk P g (env g)) {g:Nat} {fn:Func} {c:Code} (hf:P.funcs[g]? =some fn) (hb:fn.body=some c) (hn:(fn.name== "runtime.NumGoroutine")=false)
  (hok:z3k (fun g=>((env g).quiet,(env g).tame)) c=true) {F:List Value→zn→(Value→zn→Prop)→Prop} {q t:Bool}
  (h:∀(args:List Value) (H:zn),Nice q t H (F args H) (zt P env fn args H)) (hLt:z8v env (zg9 P):=by first | assumption | exact z8v.no rfl):FnOk P g {F:=F,quiet:=q,tame:=t}:=
 FnOkX.bodyF hm henv hf hb hn hok h hLt
end
end Go.Proofs.YthheoefadijhdaaGreat.Ai
set_option linter.unusedSimpArgs false
set_option linter.unusedVariables false
namespace Go.Proofs.YthheoefadijhdaaGreat.Ai
open Go

theorem Br.intro {b:Bool} {A B:Prop} (h1:b=true→A) (h2:b=false→B):Br b A B:=by
 cases b
 ·exact h2 rfl
 ·exact h1 rfl
theorem Br.dec {p:Prop} [Decidable p] {A B:Prop} (h1:p→A) (h2:¬p→B):Br (decide p) A B:=
 Br.intro (fun h=>h1 (of_decide_eq_true h)) (fun h=>h2 (of_decide_eq_false h))
theorem Br.same {b:Bool} {A:Prop} (h:A):Br b A A:=by cases b<;>exact h

theorem zp {n:Int} (h1:-9223372036854775808≤n) (h2:n≤9223372036854775807):IntKind.wrap .i64 n=n:=by
 rw [IntKind.wrap_i64];omega
theorem znk:most=4294967296:=rfl

def Own (H:zn) (b:Nat) (cs:List Value):Prop:=H[b]? =some (some {cells:=cs,own:=true})
theorem Grow.refl (H:zn):Grow H H:=⟨Nat.le_refl _,fun _ _=>rfl⟩
theorem Grow.trans {a b c:zn} (h:Grow a b) (k:Grow b c):Grow a c:=⟨Nat.le_trans h.1 k.1,fun i hi=>(k.2 i (Nat.lt_of_lt_of_le hi h.1)).trans (h.2 i hi)⟩
theorem Grow.app (H:zn) (x:Option Blk):Grow H (H++[x]):=⟨by simp,fun b hb=>List.getElem?_append_left hb⟩
theorem Own.lt {H:zn} {b:Nat} {cs:List Value} (h:Own H b cs):b<H.length:=(List.getElem?_eq_some_iff.1 h).1
theorem Own.grow {H H':zn} {b:Nat} {cs:List Value} (h:Own H b cs) (g:Grow H H'):Own H' b cs:=(g.2 b h.lt).trans h
theorem Own.new (H:zn) (cs:List Value):Own (H++[some {cells:=cs,own:=true}]) H.length cs:=by simp [Own]
theorem Own.rdB {H:zn} {b:Nat} {cs:List Value} (h:Own H b cs):rdB H b=some cs:=by unfold Ai.rdB;rw [h]
theorem Own.rdC {H:zn} {b:Nat} {cs:List Value} (h:Own H b cs) (i:Nat):rdC H b i=cs[i]? :=by unfold Ai.rdC;rw [h.rdB];rfl
theorem Own.rdN {H:zn} {b:Nat} {cs:List Value} (h:Own H b cs) {off n:Nat} (hn:off+n≤cs.length):rdN H b off n=some ((cs.drop off).take n):=by
 unfold Ai.rdN;rw [h.rdB];simp [hn]
theorem Own.isOwn {H:zn} {b:Nat} {cs:List Value} (h:Own H b cs):isOwn H b:=⟨_,h,rfl⟩
theorem Own.rdAll {H:zn} {b:Nat} {cs:List Value} (h:Own H b cs) {n:Nat} (hn:n=cs.length):rdS H (some ⟨b,0,none⟩) n=some cs:=by
 subst hn
 unfold rdS
 cases hb:Nat.beq cs.length 0 with
 | true=>
  have:cs=[]:=List.length_eq_zero_iff.1 (Nat.eq_of_beq_eq_true hb)
  subst this;rfl
 | false=>
  simp only [cond_false]
  rw [h.rdN (by omega)];simp
theorem Own.ownB {H:zn} {b:Nat} {cs:List Value} (h:Own H b cs) {n e sz:Nat} (hn:cs.length=n*sz) (he:e=sz):ownB H (some ⟨b,0,none⟩) n e sz=some cs:=by
 unfold Ai.ownB
 show (match H[b]? with | some (some blk)=>if 0=0∧blk.own=true∧blk.cells.length=n*sz∧e=sz then some blk.cells else none | _=>none)=_
 rw [h]
 simp [hn,he]

theorem Own.setC {H:zn} {b:Nat} {cs:List Value} (h:Own H b cs) {off:Nat} {v:Value}:Ai.setC H b off v=H.set b (some {cells:=cs.set off v,own:=true}):=by
 unfold Ai.setC;rw [h]
theorem Own.setC_own {H:zn} {b:Nat} {cs:List Value} (h:Own H b cs) (off:Nat) (v:Value):Own (Ai.setC H b off v) b (cs.set off v):=by
 rw [h.setC];unfold Own;rw [List.getElem?_set];simp [h.lt]
theorem zha {H:zn} {b b' off:Nat} {v:Value} (hne:b'≠b):(setC H b off v)[b']? =H[b']? :=by
 unfold setC
 split
 ·rw [List.getElem?_set,if_neg (by omega)]
 ·rfl
theorem zas (H:zn) (b off:Nat) (v:Value):(setC H b off v).length=H.length:=by
 unfold setC
 split<;>simp

def IsL {α:Type} (f:α→Value) (H:zn) (a:Option Addr) (n:Nat) (xs:List α):Prop:=rdS H a n=some (xs.map f)
abbrev fF:Nat→Value:=Value.float .f32
abbrev fI:Int→Value:=Value.int .i64
abbrev fB:Bool→Value:=Value.bool

theorem zh6 {H:zn} {a:Option Addr} {n:Nat} {l:List Value} (h:rdS H a n=some l):l.length=n:=by
 rcases z3y h with ⟨h1,h2⟩ | ⟨_,b,off,_,h⟩
 ·rw [h1,h2];rfl
 ·exact zh4 h
theorem IsL.len {α:Type} {f:α→Value} {H:zn} {a:Option Addr} {n:Nat} {xs:List α} (h:IsL f H a n xs):xs.length=n:=by
 have:=zh6 h;simpa using this
theorem zq0 {H H':zn} (g:Grow H H') {b:Nat} {l:List Value} (h:rdB H b=some l):rdB H' b=some l:=by
 obtain ⟨blk,hb,rfl⟩:=zd4 h
 unfold rdB
 rw [g.2 b (List.getElem?_eq_some_iff.1 hb).1,hb]
theorem zq1 {H H':zn} (g:Grow H H') {b i:Nat} {v:Value} (h:rdC H b i=some v):rdC H' b i=some v:=by
 unfold rdC at *
 obtain ⟨cs,h1,h2⟩:=Option.bind_eq_some_iff.1 h
 rw [zq0 g h1];exact h2
theorem zq {H H':zn} (g:Grow H H') {b off n:Nat} {l:List Value} (h:rdN H b off n=some l):rdN H' b off n=some l:=by
 unfold rdN at *
 obtain ⟨cs,h1,h2⟩:=Option.bind_eq_some_iff.1 h
 rw [zq0 g h1];exact h2
theorem zq2 {H H':zn} (g:Grow H H') {a:Option Addr} {n:Nat} {l:List Value} (h:rdS H a n=some l):rdS H' a n=some l:=by
 rcases z3y h with ⟨h1,h2⟩ | ⟨hn,b,off,rfl,h'⟩
 ·subst h1;subst h2;rfl
 ·unfold rdS
  have:Nat.beq n 0=false:=by cases hb:Nat.beq n 0;rfl;have:=Nat.eq_of_beq_eq_true hb;omega
  rw [this];exact zq g h'
theorem IsL.grow {α:Type} {f:α→Value} {H H':zn} (g:Grow H H') {a:Option Addr} {n:Nat} {xs:List α} (h:IsL f H a n xs):IsL f H' a n xs:=zq2 g h
theorem ziq {H:zn} {b off n:Nat} {l:List Value} (h:rdN H b off n=some l) {i:Nat} (hi:i<n):rdC H b (off+i)=l[i]? :=by
 obtain ⟨blk,hb,hn,rfl⟩:=z5z h
 unfold rdC rdB
 rw [hb]
 simp only [Option.bind_some]
 rw [List.getElem?_take,if_pos hi,List.getElem?_drop]
theorem IsL.cell {α:Type} {f:α→Value} {H:zn} {a:Option Addr} {n:Nat} {xs:List α} (h:IsL f H a n xs) (hn:0<n):
  ∃b off,a=some ⟨b,off,none⟩∧∀i (x:α),xs[i]? =some x→rdC H b (off+i*1)=some (f x):=by
 rcases z3y h with ⟨h1,h2⟩ | ⟨_,b,off,rfl,h9⟩
 ·omega
 ·refine ⟨b,off,rfl,fun i x hx=>?_⟩
  have hl:=zh4 h9
  have hi:i<n:=by have:=(List.getElem?_eq_some_iff.1 hx).1;simp at hl;omega
  rw [Nat.mul_one,ziq h9 hi,List.getElem?_map,hx];rfl
theorem IsL.nil {α:Type} (f:α→Value) (H:zn) (a:Option Addr):IsL f H a 0 []:=rfl
theorem Own.isL {α:Type} {f:α→Value} {H:zn} {b:Nat} {xs:List α} (h:Own H b (xs.map f)) {n:Nat} (hn:n=xs.length):IsL f H (some ⟨b,0,none⟩) n xs:=h.rdAll (by simpa using hn)
theorem IsL.sub {α:Type} {f:α→Value} {H:zn} {a:Option Addr} {n:Nat} {xs:List α} (h:IsL f H a n xs) {lo hi:Nat} (h1:lo≤hi) (h2:hi≤n):
  IsL f H (a.map fun a=>⟨a.block,a.off+lo*1,none⟩) (hi-lo) ((xs.drop lo).take (hi-lo)):=by
 unfold IsL at *
 rcases Nat.eq_zero_or_pos (hi-lo) with h0 | h0
 ·rw [h0];simp [rdS]
 rcases z3y h with ⟨h3,h4⟩ | ⟨_,b,off,rfl,h9⟩
 ·omega
 ·unfold rdS
  have hb0:Nat.beq (hi-lo) 0=false:=by cases hb:Nat.beq (hi-lo) 0;rfl;have:=Nat.eq_of_beq_eq_true hb;omega
  rw [hb0]
  simp only [Option.map_some,cond_false]
  obtain ⟨blk,hb,hn,he⟩:=z5z h9
  unfold rdN rdB
  rw [hb]
  simp only [Option.bind_some]
  rw [if_pos (by omega),List.map_take,List.map_drop,he,List.drop_take,List.drop_drop,List.take_take,Nat.mul_one,Nat.min_eq_left (by omega)]

def app1H (H:zn) (b:Nat) (cs:List Value) (v:Value):zn:=
 z2s (H++[some {cells:=[v],own:=true}]) (some ⟨b,0,none⟩)++[some {cells:=cs++[v],own:=true}]
end Go.Proofs.YthheoefadijhdaaGreat.Ai
namespace Go.Proofs.YthheoefadijhdaaGreat.Ai
open Go Go.RowKit Go.ChangeShapes Go.WideShapes Go.Deep

def RO (H:zn):Prop:=∀(b:Nat) (blk:Blk),H[b]? =some (some blk)→blk.own=false

theorem RO.nil:RO []:=fun b blk h=>by simp at h
theorem HR.nil (W:World):HR (zjk W.heap.size) [] [] W:=⟨rfl,fun c hc=>⟨trivial,hc⟩,fun b blk h=>by simp at h,fun b1 b2 blk1 blk2 h=>by simp at h⟩


theorem HR.addRO {B0:Nat} {ρ:Ren} {H:zn} {W:World} (h:HR (zjk B0) ρ H W) (hro:RO H) {a:Addr} {n:Nat} {cs:List Value} (hn:0<n) (hl:cs.length=n)
  (hc:∀i v,cs[i]? =some v→∃v',W.cell? (a.add i)=some v'∧VR ρ v v'∧isCell v=true):
  a.spot=none∧HR (zjk B0) (ρ++[(a.block,a.off,n)]) (H++[some {cells:=cs,own:=false}]) W∧RO (H++[some {cells:=cs,own:=false}]):=by
 have hp:ρ <+:ρ++[(a.block,a.off,n)]:=List.prefix_append _ _
 -- the row
 have first:∃arr e fz,W.heap[a.block]? =some (.cells arr e fz)∧a.spot=none:=by
  obtain ⟨v',h1,_⟩:=hc 0 cs[0] (List.getElem?_eq_getElem (by omega))
  unfold Addr.add at h1
  rw [if_pos rfl] at h1
  unfold World.cell? at h1
  split at h1
  ·rename_i c e f hb
   cases hs:a.spot with
   | none=>exact ⟨c,e,f,hb,rfl⟩
   | some s=>rw [hs] at h1;simp at h1
  ·cases h1
 obtain ⟨arr,e,fz,hh,hs⟩:=first
 have ha:a=⟨a.block,a.off,none⟩:=by cases a;simp_all
 have each:∀i v,cs[i]? =some v→∃v',arr[a.off+i]? =some v'∧VR ρ v v'∧isCell v=true:=by
  intro i v hv
  obtain ⟨v',h1,h2⟩:=hc i v hv
  rw [ha,z2j] at h1
  simp only [World.cell?,hh] at h1
  exact ⟨v',by simpa using h1,h2⟩
 have hsize:a.off+n≤arr.size:=by
  obtain ⟨v',h1,_⟩:=each (n-1) cs[n-1] (List.getElem?_eq_getElem (by omega))
  have:=(Array.getElem?_eq_some_iff.1 h1).1
  omega
 have get:∀(b:Nat) (blk:Blk),(H++[some {cells:=cs,own:=false}])[b]? =some (some blk)→(b<H.length∧H[b]? =some (some blk))∨(b=H.length∧blk={cells:=cs,own:=false}):=by
  intro b blk hb
  by_cases hlt:b<H.length
  ·rw [List.getElem?_append_left hlt] at hb;exact .inl ⟨hlt,hb⟩
  ·rw [List.getElem?_append_right (by omega)] at hb
   cases hd:b-H.length with
   | zero=>rw [hd] at hb;simp at hb;exact .inr ⟨by omega,hb.symm⟩
   | succ k=>rw [hd] at hb;simp at hb
 have hro':RO (H++[some {cells:=cs,own:=false}]):=by
  intro b blk hb
  rcases get b blk hb with ⟨_,hb⟩ | ⟨_,rfl⟩
  ·exact hro b blk hb
  ·rfl
 refine ⟨hs,⟨by simp [h.len],h.fresh,?_,?_⟩,hro'⟩
 ·intro b blk hb c base sz hr
  rcases get b blk hb with ⟨hlt,hb⟩ | ⟨rfl,rfl⟩
  ·rw [List.getElem?_append_left (h.len ▸ hlt)] at hr
   obtain ⟨arr',e',fz',g1,g2,g3,g4,g5⟩:=h.live b blk hb c base sz hr
   refine ⟨arr',e',fz',g1,g2,g3,fun i v hi=>?_,g5⟩
   obtain ⟨v',q1,q2,q3⟩:=g4 i v hi
   exact ⟨v',q1,q2.mono hp,q3⟩
  ·rw [h.len,List.getElem?_append_right (Nat.le_refl _),Nat.sub_self] at hr
   simp at hr
   obtain ⟨rfl,rfl,rfl⟩:=hr
   refine ⟨arr,e,fz,hh,by simp [hl],hsize,fun i v hi=>?_,trivial,fun h=>by cases h⟩
   obtain ⟨v',q1,q2,q3⟩:=each i v hi
   exact ⟨v',q1,q2.mono hp,q3⟩
 ·intro b1 b2 blk1 blk2 h1 h2 hne ho
  have:=hro' b1 blk1 h1
  rw [this] at ho;cases ho

section
variable {Hh:Type} {enc:TypeId×Value→Hh} {P:Program} {W:World}

theorem zgk {α:Type} {f:α→Value} {Q:α→Prop} {t e:TypeId} {fuel:Nat} {cs:List Value} {x:DataW Hh×List MemPlace} (ht:P.underlying t=some (.slice e)) (hc:P.cellsOf e=1)
  (dec:∀(fuel:Nat) (v:Value) (x:DataW Hh×List MemPlace),DataW.trod enc P W 0 (fun _=>true) true fuel e [v]=some x→∃y:α,(∀ρ,VR ρ (f y) v)∧isCell (f y)=true∧Q y)
  (h:DataW.trod enc P W 0 (fun _=>true) true fuel t cs=some x) {B0:Nat} {ρ:Ren} {H:zn} (hr:HR (zjk B0) ρ H W) (hro:RO H):
  ∃(ρ':Ren) (H':zn) (a:Option Addr) (n:Nat) (v:Value) (xs:List α),cs=[v]∧ρ <+:ρ'∧Grow H H'∧HR (zjk B0) ρ' H' W∧RO H'∧VR ρ' (.slice a n 0) v∧IsL f H' a n xs∧(∀y ∈ xs,Q y)∧xs.length≤9223372036854775807:=by
 rcases open_slice1 ht hc h with ⟨rfl,_⟩ | ⟨a,len,cap,m,n,V,D,Pl,rfl,hb,hl,hm,hmm,rfl,hx⟩
 ·exact ⟨ρ,H,none,0,_,[],rfl,List.prefix_refl _,.refl _,hr,hro,.snil,IsL.nil f H none,by simp,by simp⟩
 ·simp only [if_true] at hmm
  subst hmm
  have each:∀i,i<len→∃y:α,(∀ρ,VR ρ (f y) (V i))∧isCell (f y)=true∧Q y:=fun i hi=>dec n (V i) _ (hx i (by omega)).2
  have hall:∀k,k≤len→∃xs:List α,xs.length=k∧(∀y ∈ xs,Q y)∧∀i y,xs[i]? =some y→(∀ρ,VR ρ (f y) (V i))∧isCell (f y)=true:=by
   intro k
   induction k with
   | zero=>intro _;exact ⟨[],rfl,by simp,by simp⟩
   | succ k ih=>
    intro hk
    obtain ⟨xs,h1,h2,h3⟩:=ih (by omega)
    obtain ⟨y,g1,g2,g3⟩:=each k (by omega)
    refine ⟨xs++[y],by simp [h1],?_,?_⟩
    ·intro z hz
     rcases List.mem_append.1 hz with hz | hz
     ·exact h2 z hz
     ·simp at hz;subst hz;exact g3
    ·intro i z hz
     by_cases hi:i<xs.length
     ·rw [List.getElem?_append_left hi] at hz;exact h3 i z hz
     ·have:i=k:=by have:=(List.getElem?_eq_some_iff.1 hz).1;simp at this;omega
      subst this
      rw [List.getElem?_append_right (by omega)] at hz
      simp [h1] at hz;subst hz;exact ⟨g1,g2⟩
  obtain ⟨xs,h1,h2,h3⟩:=hall len (Nat.le_refl _)
  rcases Nat.eq_zero_or_pos len with h0 | h0
  ·subst h0
   have:xs=[]:=List.length_eq_zero_iff.1 h1
   subst this
   exact ⟨ρ,H,some ⟨0,0,none⟩,0,_,[],rfl,List.prefix_refl _,.refl _,hr,hro,.sempty _ _ _ _,IsL.nil f H _,by simp,by simp⟩
  ·obtain ⟨hs,hr',hro'⟩:=hr.addRO hro (a:=a) (n:=len) (cs:=xs.map f) h0 (by simp [h1]) (by
    intro i v hv
    rw [List.getElem?_map] at hv
    cases hx':xs[i]? with
    | none=>rw [hx'] at hv;cases hv
    | some y=>
     rw [hx'] at hv;cases hv
     have hi:i<len:=by have:=(List.getElem?_eq_some_iff.1 hx').1;omega
     exact ⟨V i,(hx i (by omega)).1,(h3 i y hx').1 ρ,(h3 i y hx').2⟩)
   have ha:a=⟨a.block,a.off,none⟩:=by cases a;simp_all
   refine ⟨_,_,some ⟨H.length,0,none⟩,len,_,xs,rfl,List.prefix_append _ _,Grow.app _ _,hr',hro',?_,?_,h2,by rw [h1];have:maxLen=9223372036854775807:=rfl;omega⟩
   ·rw [ha]
    have:=VR.slice (ρ:=ρ++[(a.block,a.off,len)]) H.length 0 len 0 a.block a.off len m (by rw [hr.len];simp) hl (fun h=>absurd h (by omega))
    simpa using this
   ·unfold IsL rdS
    have hb0:Nat.beq len 0=false:=by cases hb:Nat.beq len 0;rfl;have:=Nat.eq_of_beq_eq_true hb;omega
    rw [hb0]
    simp only [cond_false,rdN,rdB]
    rw [List.getElem?_append_right (Nat.le_refl _),Nat.sub_self]
    simp [h1]
    rw [List.take_of_length_le (by simp [h1])]

def W32 (x:Nat):Prop:=x<2 ^ 32∧cn .f32 x=x
theorem z1kq:qnan .f32<2 ^ 32:=by decide
theorem zvl {x:Nat} (h:x<2 ^ 32):cn .f32 x<2 ^ 32:=by
 unfold cn;split
 ·exact z1kq
 ·exact h
theorem zjt {e:TypeId} (he:P.underlying e=some (.float .f32)) (fuel:Nat) (v:Value) (x:DataW Hh×List MemPlace) (h:DataW.trod enc P W 0 (fun _=>true) true fuel e [v]=some x):
  ∃y:Nat,(∀ρ,VR ρ (fF y) v)∧isCell (fF y)=true∧W32 y:=by
 cases fuel with
 | zero=>simp [DataW.trod] at h
 | succ n=>
  unfold DataW.trod at h
  rw [he] at h
  cases v<;>simp at h
  rename_i k b
  obtain ⟨⟨rfl,h1⟩,_⟩:=h
  have hb:b<2 ^ 32:=by simpa [Lit.wf] using h1
  exact ⟨cn .f32 b,fun ρ=>.float _ _ _ rfl,rfl,zvl hb,cn_cn _ _⟩
theorem zso {e:TypeId} (he:P.underlying e=some (.float .f32)) {fuel:Nat} {cs:List Value} {x:DataW Hh×List MemPlace} (h:DataW.trod enc P W 0 (fun _=>true) true fuel e cs=some x):
  ∃b:Nat,cs=[.float .f32 b]∧(Lit.float .f32 b).wf=true:=by
 cases fuel with
 | zero=>simp [DataW.trod] at h
 | succ n=>
  unfold DataW.trod at h
  rw [he] at h
  split at h<;>simp_all
theorem zgc {e:TypeId} (he:P.underlying e=some (.float .f32)) {fuel:Nat} {cs:List Value} {x:DataW Hh×List MemPlace} (h:DataW.trod enc P W 0 (fun _=>true) true fuel e cs=some x):
  ∃b:Nat,cs=[.float .f32 b]∧W32 (cn .f32 b):=by
 obtain ⟨b,h1,h2⟩:=zso he h
 have hb:b<2 ^ 32:=by simpa [Lit.wf] using h2
 exact ⟨b,h1,zvl hb,cn_cn _ _⟩
def I64 (x:Int):Prop:=-9223372036854775808≤x∧x≤9223372036854775807
theorem I64.of {n:Int} (h:(Lit.int .i64 n).wf=true):I64 n:=by
 have:IntKind.i64.min≤n∧n≤IntKind.i64.max:=by simpa [Lit.wf] using h
 have e1:IntKind.i64.min=-9223372036854775808:=rfl
 have e2:IntKind.i64.max=9223372036854775807:=rfl
 exact ⟨by omega,by omega⟩
end
end Go.Proofs.YthheoefadijhdaaGreat.Ai
set_option linter.unusedVariables false
namespace Go.Proofs.YthheoefadijhdaaGreat.Ai
open Go

theorem zw {α:Type} {c:Bool} {x y:α} (h:c=true):(bif c then x else y)=x:=by rw [h];rfl
theorem zv {α:Type} {c:Bool} {x y:α} (h:c=false):(bif c then x else y)=y:=by rw [h];rfl

def z3j (b:Nat) (H H':zn):Prop:=H.length≤H'.length∧∀i,i<H.length→i≠b→H'[i]? =H[i]?
theorem Own.keep {H H':zn} {b b':Nat} {cs:List Value} (h:Own H b cs) (hne:b≠b') (k:z3j b' H H'):Own H' b cs:=(k.2 b h.lt hne).trans h
theorem Grow.keep {H0 H H':zn} {b:Nat} (g:Grow H0 H) (hb:H0.length≤b) (k:z3j b H H'):Grow H0 H':=
 ⟨Nat.le_trans g.1 k.1,fun i hi=>(k.2 i (Nat.lt_of_lt_of_le hi g.1) (by omega)).trans (g.2 i hi)⟩

def OwnS {α:Type} (f:α→Value) (H:zn) (lo:Nat) (a:Option Addr) (n e:Nat) (xs:List α):Prop:=
 n=xs.length∧((a=none∧xs=[])∨∃b,a=some ⟨b,0,none⟩∧Own H b (xs.map f)∧e=1∧lo≤b)
theorem OwnS.isL {α:Type} {f:α→Value} {H:zn} {lo:Nat} {a:Option Addr} {n e:Nat} {xs:List α} (h:OwnS f H lo a n e xs):IsL f H a n xs:=by
 obtain ⟨rfl,⟨rfl,rfl⟩ | ⟨b,rfl,h,_,_⟩⟩:=h
 ·exact IsL.nil f H none
 ·exact h.isL rfl
theorem OwnS.grow {α:Type} {f:α→Value} {H H':zn} {lo:Nat} {a:Option Addr} {n e:Nat} {xs:List α} (h:OwnS f H lo a n e xs) (g:Grow H H'):OwnS f H' lo a n e xs:=by
 obtain ⟨rfl,⟨rfl,rfl⟩ | ⟨b,rfl,h,he,hl⟩⟩:=h
 ·exact ⟨rfl,.inl ⟨rfl,rfl⟩⟩
 ·exact ⟨rfl,.inr ⟨b,rfl,h.grow g,he,hl⟩⟩
theorem OwnS.weak {α:Type} {f:α→Value} {H:zn} {lo lo':Nat} {a:Option Addr} {n e:Nat} {xs:List α} (h:OwnS f H lo a n e xs) (hl:lo'≤lo):OwnS f H lo' a n e xs:=by
 obtain ⟨rfl,⟨rfl,rfl⟩ | ⟨b,rfl,h,he,hl'⟩⟩:=h
 ·exact ⟨rfl,.inl ⟨rfl,rfl⟩⟩
 ·exact ⟨rfl,.inr ⟨b,rfl,h,he,Nat.le_trans hl hl'⟩⟩
theorem OwnS.nil {α:Type} (f:α→Value) (H:zn) (lo e:Nat):OwnS f H lo none 0 e []:=⟨rfl,.inl ⟨rfl,rfl⟩⟩
theorem Own.ownS {α:Type} {f:α→Value} {H:zn} {lo b n:Nat} {xs:List α} (h:Own H b (xs.map f)) (hn:n=xs.length) (hl:lo≤b):OwnS f H lo (some ⟨b,0,none⟩) n 1 xs:=⟨hn,.inr ⟨b,rfl,h,rfl,hl⟩⟩
theorem OwnS.up {α:Type} {f:α→Value} {H:zn} {lo:Nat} {a:Option Addr} {n e:Nat} {xs:List α} (h:OwnS f H lo a n e xs):∀x,a=some x→x.block<H.length:=by
 obtain ⟨_,⟨rfl,_⟩ | ⟨b,rfl,h,_,_⟩⟩:=h
 ·intro x hx;cases hx
 ·intro x hx;cases hx;exact h.lt
theorem OwnS.keep {α:Type} {f:α→Value} {H H':zn} {lo hi b:Nat} {a:Option Addr} {n e:Nat} {xs:List α} (h:OwnS f H lo a n e xs) (up:∀x,a=some x→x.block<hi) (hd:b<lo∨hi≤b) (k:z3j b H H'):OwnS f H' lo a n e xs:=by
 obtain ⟨hn,⟨rfl,hx⟩ | ⟨c,rfl,h,he,hl⟩⟩:=h
 ·exact ⟨hn,.inl ⟨rfl,hx⟩⟩
 ·have:=up _ rfl
  exact ⟨hn,.inr ⟨c,rfl,h.keep (by simp at this;omega) k,he,hl⟩⟩
theorem OwnS.make {α:Type} (f:α→Value) (H:zn) (xs:List α):∃H' a n e,Grow H H'∧OwnS f H' H.length a n e xs:=
 ⟨H++[some {cells:=xs.map f,own:=true}],some ⟨H.length,0,none⟩,xs.length,1,Grow.app H _,(Own.new H _).ownS rfl (Nat.le_refl _)⟩

theorem Al.intro {cells:List Value} {H:zn} {K:Nat→zn→Prop} (h:∀(b:Nat) (H':zn),b=H.length→H'.length=H.length+1→Grow H H'→Own H' b cells→K b H'):Al cells H K:=by
 unfold Al
 exact h H.length (H++[some {cells:=cells,own:=true}]) rfl (by simp) (Grow.app H _) (Own.new H cells)

theorem Lt.app {H:zn} {b:Nat} {o w cs ds:List Value} {K:zn→Prop} (hb:Own H b cs) (ho:o=cs) (hw:w=ds)
  (h:∀H':zn,H'.length=H.length+1→Own H' H.length (cs++ds)→z3j b H H'→K H'):Lt (z2s H (some ⟨b,0,none⟩)++[some ⟨o++w,true⟩]) K:=by
 subst ho;subst hw
 have hl:(H.set b none).length=H.length:=by simp
 refine h _ ?_ ?_ ⟨?_,fun i hi hne=>?_⟩
 ·unfold z2s;simp
 ·unfold Own z2s
  rw [List.getElem?_append_right (by simp)]
  simp
 ·unfold z2s;simp
 ·unfold z2s
  rw [List.getElem?_append_left (by simpa using hi),List.getElem?_set,if_neg (by simpa using fun e=>hne e.symm)]
theorem Ap.app {H:zn} {b:Nat} {o w cs ds:List Value} {K:Nat→zn→Prop} (hb:Own H b cs) (ho:o=cs) (hw:w=ds)
  (h:∀(b':Nat) (H':zn),b'=H.length→H'.length=H.length+1→Own H' b' (cs++ds)→z3j b H H'→K b' H'):Ap H (z2s H (some ⟨b,0,none⟩)++[some ⟨o++w,true⟩]) K:=
 Lt.app (K:=fun H'=>K H.length H') hb ho hw fun H' h1 h2 h3=>h H.length H' rfl h1 h2 h3
theorem Lt.set {H:zn} {b off:Nat} {v:Value} {cs:List Value} {K:zn→Prop} (hb:Own H b cs) (hn:off<cs.length)
  (h:∀H':zn,H'.length=H.length→Own H' b (cs.set off v)→z3j b H H'→K H'):isOwn H b∧(∃l,rdN H b off 1=some l)∧Lt (setC H b off v) K:=
 ⟨hb.isOwn,⟨_,hb.rdN (by omega)⟩,h _ (zas _ _ _ _) (hb.setC_own _ _) ⟨by rw [zas];exact Nat.le_refl _,fun i _ hne=>zha hne⟩⟩
def zlv (cs:List Value) (off:Nat):List Value→List Value
 | []=>cs
 | v::r=>zlv (cs.set off v) (off+1) r
theorem zq6 {b:Nat}:∀(vs:List Value) (off:Nat) {H:zn} {cs:List Value},Own H b cs→Own (setN H b off vs) b (zlv cs off vs)∧(setN H b off vs).length=H.length∧∀i,i≠b→(setN H b off vs)[i]? =H[i]? :=by
 intro vs
 induction vs with
 | nil=>intro off H cs h;exact ⟨h,rfl,fun _ _=>rfl⟩
 | cons v r ih=>
  intro off H cs h
  obtain ⟨h1,h2,h3⟩:=ih (off+1) (h.setC_own off v)
  exact ⟨h1,h2.trans (zas _ _ _ _),fun i hi=>(h3 i hi).trans (zha hi)⟩
theorem Lt.setN {H:zn} {b off n:Nat} {vs:List Value} {cs:List Value} {K:zn→Prop} (hb:Own H b cs) (hn:off+n≤cs.length) (hv:vs.length=n)
  (h:∀H':zn,H'.length=H.length→Own H' b (zlv cs off vs)→z3j b H H'→K H'):isOwn H b∧(∃l,rdN H b off n=some l)∧Lt (Ai.setN H b off vs) K:=by
 obtain ⟨h1,h2,h3⟩:=zq6 vs off hb
 exact ⟨hb.isOwn,⟨_,hb.rdN hn⟩,h _ h2 h1 ⟨by rw [h2];exact Nat.le_refl _,fun i _ hne=>h3 i hne⟩⟩
theorem z1g {H:zn} {b n:Nat} {l:List Value} (h:rdN H b 0 n=some l) (i:Nat) (hi:i<n):rdC H b i=l[i]? :=by
 have:=ziq h hi;rwa [Nat.zero_add] at this
theorem IsL.pos {α:Type} {f:α→Value} {H:zn} {a:Option Addr} {n:Nat} {xs:List α} (h:IsL f H a n xs) (hn:0<n):∃b o,a=some ⟨b,o,none⟩:=by
 obtain ⟨b,o,e,_⟩:=h.cell hn;exact ⟨b,o,e⟩
theorem IsL.rd {α:Type} {f:α→Value} {H H':zn} {a:Option Addr} {n:Nat} {xs:List α} (h:IsL f H a n xs) (g:Grow H H') {b o i:Nat} (ha:a=some ⟨b,o,none⟩) (hi:i<n) (d:α):rdC H' b (o+i*1)=some (f (xs.getD i d)):=by
 obtain ⟨b',o',e,hc⟩:=(h.grow g).cell (by omega)
 rw [ha] at e
 cases e
 have hl:=h.len
 have hx:xs[i]? =some (xs.getD i d):=by rw [List.getD_eq_getElem?_getD,List.getElem?_eq_getElem (by omega)];rfl
 exact hc i _ hx
theorem Own.rd {α:Type} {f:α→Value} {H:zn} {b i:Nat} {xs:List α} (h:Own H b (xs.map f)) (hi:i<xs.length) (d:α):Ai.rdC H b (0+i*1)=some (f (xs.getD i d)):=by
 rw [h.rdC,Nat.zero_add,Nat.mul_one,List.getElem?_map,List.getD_eq_getElem?_getD,List.getElem?_eq_getElem hi];rfl
theorem zmf {α:Type} (f:α→Value) (z:α) (n:Nat) (hz:(f z).cells.toList=[f z]):z1k (f z) n=(List.replicate n z).map f:=by
 unfold z1k
 rw [hz,List.map_replicate]
 induction n with
 | zero=>rfl
 | succ n ih=>rw [List.replicate_succ,List.flatten_cons,ih,List.replicate_succ];rfl
theorem z2a {α:Type} {f:α→Value} {xs ys:List α} {H:zn} {b:Nat} (h:Own H b (xs.map f++ys.map f)):Own H b ((xs++ys).map f):=by rw [List.map_append];exact h
theorem map_set {α:Type} {f:α→Value} {xs:List α} {i:Nat} {x:α} {H:zn} {b:Nat} (h:Own H b ((xs.map f).set (0+i*1) (f x))):Own H b ((xs.set i x).map f):=by
 rw [Nat.zero_add,Nat.mul_one] at h;rw [List.map_set];exact h
theorem IsL.eqn {α:Type} {f:α→Value} {H:zn} {a:Option Addr} {n:Nat} {xs:List α} (h:IsL f H a n xs):n=xs.length:=h.len.symm
def LLc {α:Type} (f:α→Value) (H:zn):List Value→List (List α)→Prop
 | [],[]=>True
 | .slice a n _::vs,xs::xss=>IsL f H a n xs∧LLc f H vs xss
 | _,_=>False
def IsLL {α:Type} (f:α→Value) (H:zn) (a:Option Addr) (n:Nat) (xss:List (List α)):Prop:=∃vs,rdS H a n=some vs∧LLc f H vs xss
theorem LLc.nil {α:Type} (f:α→Value) (H:zn):LLc f H [] []:=trivial
theorem LLc.cons {α:Type} {f:α→Value} {H:zn} {a:Option Addr} {n e:Nat} {xs:List α} {vs:List Value} {xss:List (List α)} (h:IsL f H a n xs) (k:LLc f H vs xss):LLc f H (.slice a n e::vs) (xs::xss):=⟨h,k⟩
theorem LLc.grow {α:Type} {f:α→Value} {H H':zn} (g:Grow H H'):∀{vs:List Value} {xss:List (List α)},LLc f H vs xss→LLc f H' vs xss
 | [],[],_=>trivial
 | .slice _ _ _::_,_::_,h=>⟨h.1.grow g,LLc.grow g h.2⟩
theorem LLc.len {α:Type} {f:α→Value} {H:zn}:∀{vs:List Value} {xss:List (List α)},LLc f H vs xss→vs.length=xss.length
 | [],[],_=>rfl
 | .slice _ _ _::_,_::_,h=>by simp [LLc.len h.2]
theorem LLc.get {α:Type} {f:α→Value} {H:zn}:∀(vs:List Value) (xss:List (List α)) (i:Nat),LLc f H vs xss→i<xss.length→∃a n e,vs[i]? =some (.slice a n e)∧IsL f H a n (xss.getD i []):=by
 intro vs
 induction vs with
 | nil=>
  intro xss i h hi
  cases xss with
  | nil=>cases hi
  | cons x r=>exact h.elim
 | cons v vs ih=>
  intro xss i h hi
  cases xss with
  | nil=>cases hi
  | cons x r=>
   cases v with
   | slice a n e=>
    cases i with
    | zero=>exact ⟨a,n,e,rfl,h.1⟩
    | succ i=>
     obtain ⟨a',n',e',h1,h2⟩:=ih r i h.2 (by simpa using hi)
     exact ⟨a',n',e',by simpa using h1,by simpa using h2⟩
   | _=>exact h.elim
theorem IsLL.grow {α:Type} {f:α→Value} {H H':zn} (g:Grow H H') {a:Option Addr} {n:Nat} {xss:List (List α)} (h:IsLL f H a n xss):IsLL f H' a n xss:=
 let ⟨vs,h1,h2⟩:=h;⟨vs,zq2 g h1,h2.grow g⟩
theorem IsLL.eqn {α:Type} {f:α→Value} {H:zn} {a:Option Addr} {n:Nat} {xss:List (List α)} (h:IsLL f H a n xss):n=xss.length:=
 let ⟨_,h1,h2⟩:=h;(zh6 h1).symm.trans h2.len
theorem IsLL.pos {α:Type} {f:α→Value} {H:zn} {a:Option Addr} {n:Nat} {xss:List (List α)} (h:IsLL f H a n xss) (hn:0<n):∃b o,a=some ⟨b,o,none⟩:=by
 obtain ⟨vs,h1,h2⟩:=h
 rcases z3y h1 with ⟨h3,_⟩ | ⟨_,b,off,e,_⟩
 ·omega
 ·exact ⟨b,off,e⟩
theorem IsLL.rd {α:Type} {f:α→Value} {H H':zn} {a:Option Addr} {n:Nat} {xss:List (List α)} (h:IsLL f H a n xss) (g:Grow H H') {b o i:Nat} (ha:a=some ⟨b,o,none⟩) (hi:i<n):
  ∃a' n' e',rdC H' b (o+i*1)=some (.slice a' n' e')∧IsL f H a' n' (xss.getD i []):=by
 have hn:=h.eqn
 obtain ⟨vs,h1,h2⟩:=h
 obtain ⟨a',n',e',h3,h4⟩:=h2.get _ _ i (by omega)
 rcases z3y h1 with ⟨h5,_⟩ | ⟨_,b',off,e,h5⟩
 ·omega
 ·rw [ha] at e;cases e
  exact ⟨a',n',e',zq1 g (by rw [Nat.mul_one,ziq h5 hi,h3]),h4⟩
theorem z1e {b:Bool} (h:(!b)=true):b=false:=by cases b<;>simp_all
theorem z1a {b:Bool} (h:(!b)=false):b=true:=by cases b<;>simp_all
theorem zbc {a b:Int} (h:(a==b)=true):a=b:=eq_of_beq h
theorem zbb {a b:Int} (h:(a==b)=false):a≠b:=fun e=>by subst e;simp at h
theorem ine_t {a b:Int} (h:(a != b)=true):a≠b:=fun e=>by subst e;simp at h
theorem ine_f {a b:Int} (h:(a != b)=false):a=b:=by simpa using h
theorem zy9 {α:Type} {o:Option α} {d:α} (h:o≠none):o=some (o.getD d):=by cases o with | none=>exact absurd rfl h | some x=>rfl
abbrev fC:Nat×Nat→Value:=fun p=>Value.complex .f32 p.1 p.2
abbrev fU:UInt8→Value:=fun c=>Value.int .u8 c.toNat
theorem z14y {α:Type} {xss:List (List α)} (h:∀y ∈ xss,y.length<1073741824) (i:Nat):(xss.getD i []).length<1073741824:=by
 rw [List.getD_eq_getElem?_getD]
 cases hx:xss[i]? with
 | none=>exact (by decide:0<1073741824)
 | some y=>exact h y (List.mem_of_getElem? hx)
theorem zhn {b:Bool} {A B A' B':Prop} (f:A→A') (g:B→B') (h:Br b A B):Br b A' B':=by cases b;exact g h;exact f h
theorem zss {α:Type} {b:Bool} {K:α→zn→Prop} {x y:α} {H1 H2:zn} (h:Br b (K x H1) (K y H2)):∃v H',K v H':=by cases b;exact ⟨_,_,h⟩;exact ⟨_,_,h⟩
theorem zca (a b:Int):0≤a→Int.tdiv a b=a / b:=fun h=>Int.tdiv_eq_ediv_of_nonneg h
theorem zcb (a b:Int):0≤a→Int.tmod a b=a % b:=fun h=>Int.tmod_eq_emod_of_nonneg h
theorem za1 (a b:Int):0≤a→0<b→0≤Int.tmod a b∧Int.tmod a b<b:=fun h k=>by
 rw [Int.tmod_eq_emod_of_nonneg h];exact ⟨Int.emod_nonneg _ (by omega),Int.emod_lt_of_pos _ k⟩
theorem z5q {α:Type} {f:α→Value} {H:zn} {xs:List α} {R:Prop} (h:∀a n e H',Grow H H'→OwnS f H' H.length a n e xs→R):R:=by
 obtain ⟨H',a,n,e,g,o⟩:=OwnS.make f H xs;exact h a n e H' g o
theorem z2h {α:Type} {f:α→Value} {H:zn} {a:Option Addr} {n:Nat} {xs:List α} (h:IsL f H a n xs):rdS H a (n*1)=some (xs.map f):=by rw [Nat.mul_one];exact h
theorem zc9 {α:Type} {f:α→Value} {H:zn} {a:Option Addr} {n:Nat} {xs:List α} (h:IsL f H a n xs) {lo hi:Int} (h0:0≤lo) (h1:lo≤hi) (h2:hi≤n):
  IsL f H (a.map fun a=>⟨a.block,a.off+lo.toNat*1,none⟩) (hi-lo).toNat ((xs.drop lo.toNat).take (hi-lo).toNat):=by
 have:=h.sub (lo:=lo.toNat) (hi:=hi.toNat) (by omega) (by omega)
 have e:(hi-lo).toNat=hi.toNat-lo.toNat:=by omega
 rw [e];exact this
theorem z3m {α:Type} (xs ys:List α) (k:Nat) (hk:k<ys.length) (hl:xs.length=ys.length) (x:α) (hx:xs[k]? =some x):
  (xs.take k++ys.drop k).set k x=xs.take (k+1)++ys.drop (k+1):=by
 have h1:(xs.take k).length=k:=by simp;omega
 rw [List.set_append_right _ _ (by omega),h1,Nat.sub_self,List.drop_eq_getElem_cons hk,List.set_cons_zero,List.take_add_one,hx]
 simp
def z2q (a:Option Addr) (H H':zn):Prop:=H.length≤H'.length∧∀i,i<H.length→(∀x,a=some x→x.block≠i)→H'[i]? =H[i]?
theorem z2q.refl (a:Option Addr) (H:zn):z2q a H H:=⟨Nat.le_refl _,fun _ _ _=>rfl⟩
theorem z2q.trans {a:Option Addr} {H0 H1 H2:zn} (h:z2q a H0 H1) (g:Grow H1 H2):z2q a H0 H2:=
 ⟨Nat.le_trans h.1 g.1,fun i hi hn=>(g.2 i (Nat.lt_of_lt_of_le hi h.1)).trans (h.2 i hi hn)⟩
theorem z2q.transA {a:Option Addr} {H0 H1 H2:zn} (h:z2q a H0 H1) (g:z2q a H1 H2):z2q a H0 H2:=
 ⟨Nat.le_trans h.1 g.1,fun i hi hn=>(g.2 i (Nat.lt_of_lt_of_le hi h.1) hn).trans (h.2 i hi hn)⟩
theorem z2q.keep {a:Option Addr} {H0 H1 H2:zn} {b:Nat} (h:z2q a H0 H1) (hb:H0.length≤b) (k:z3j b H1 H2):z2q a H0 H2:=
 ⟨Nat.le_trans h.1 k.1,fun i hi hn=>(k.2 i (Nat.lt_of_lt_of_le hi h.1) (by omega)).trans (h.2 i hi hn)⟩
theorem z2q.keepA {a a2:Option Addr} {H0 H1 H2:zn} (h:z2q a H0 H1) (hd:∀x,a2=some x→H0.length≤x.block) (k:z2q a2 H1 H2):z2q a H0 H2:=
 ⟨Nat.le_trans h.1 k.1,fun i hi hn=>(k.2 i (Nat.lt_of_lt_of_le hi h.1) (fun x hx=>by have:=hd x hx;omega)).trans (h.2 i hi hn)⟩
theorem Grow.keepA {a:Option Addr} {H0 H1 H2:zn} (h:Grow H0 H1) (hd:∀x,a=some x→H0.length≤x.block) (k:z2q a H1 H2):Grow H0 H2:=
 ⟨Nat.le_trans h.1 k.1,fun i hi=>(k.2 i (Nat.lt_of_lt_of_le hi h.1) (fun x hx=>by have:=hd x hx;omega)).trans (h.2 i hi)⟩
theorem Own.keepA {H H':zn} {b:Nat} {cs:List Value} (h:Own H b cs) {a:Option Addr} (hd:∀x,a=some x→x.block≠b) (k:z2q a H H'):Own H' b cs:=(k.2 b h.lt hd).trans h
def SepA (a b:Option Addr):Prop:=∀x y,a=some x→b=some y→x.block≠y.block
theorem SepA.symm {a b:Option Addr} (h:SepA a b):SepA b a:=fun x y hx hy e=>h y x hy hx e.symm
theorem OwnS.keepA {α:Type} {f:α→Value} {H H':zn} {lo:Nat} {a a2:Option Addr} {n e:Nat} {xs:List α} (h:OwnS f H lo a n e xs) (hd:SepA a2 a) (k:z2q a2 H H'):OwnS f H' lo a n e xs:=by
 obtain ⟨hn,⟨rfl,hx⟩ | ⟨c,rfl,h,he,hl⟩⟩:=h
 ·exact ⟨hn,.inl ⟨rfl,hx⟩⟩
 ·exact ⟨hn,.inr ⟨c,rfl,h.keepA (fun x hx=>hd x _ hx rfl) k,he,hl⟩⟩
theorem OwnS.lo {α:Type} {f:α→Value} {H:zn} {lo:Nat} {a:Option Addr} {n e:Nat} {xs:List α} (h:OwnS f H lo a n e xs):∀x,a=some x→lo≤x.block:=by
 obtain ⟨_,⟨rfl,_⟩ | ⟨b,rfl,h,_,hl⟩⟩:=h
 ·intro x hx;cases hx
 ·intro x hx;cases hx;exact hl
theorem OwnS.len {α:Type} {f:α→Value} {H:zn} {lo:Nat} {a:Option Addr} {n e:Nat} {xs:List α} (h:OwnS f H lo a n e xs):n=xs.length:=h.1
theorem zxs {α β:Type} {f:α→Value} {f2:β→Value} {H:zn} {xs:List α} {ys:List β} {R:Prop} (h:∀a n e a2 n2 e2 H',Grow H H'→OwnS f H' H.length a n e xs→OwnS f2 H' H.length a2 n2 e2 ys→SepA a a2→R):R:=by
 obtain ⟨H',a,n,e,g,o⟩:=OwnS.make f H xs
 obtain ⟨H2,a2,n2,e2,g2,o2⟩:=OwnS.make f2 H' ys
 exact h a n e a2 n2 e2 H2 (g.trans g2) (o.grow g2) (o2.weak g.1) (fun x y hx hy hh=>by have:=o.up x hx;have:=o2.lo y hy;omega)
theorem Lt.setS {α:Type} {f:α→Value} {H:zn} {lo b o i n e:Nat} {a:Option Addr} {xs:List α} {x:α} {K:zn→Prop} (h:OwnS f H lo a n e xs) (ha:a=some ⟨b,o,none⟩) (hi:i<xs.length)
  (hk:∀H':zn,H'.length=H.length→OwnS f H' lo a n e (xs.set i x)→z2q a H H'→K H'):isOwn H b∧(∃l,rdN H b (o+i*1) 1=some l)∧Lt (setC H b (o+i*1) (f x)) K:=by
 obtain ⟨hn,⟨rfl,_⟩ | ⟨c,rfl,h,he,hl⟩⟩:=h
 ·cases ha
 ·cases ha
  refine Lt.set h (by simp;omega) fun H' h1 h2 h3=>hk H' h1 ⟨by simpa using hn,.inr ⟨_,rfl,map_set h2,he,hl⟩⟩ ⟨h3.1,fun i hi hx=>h3.2 i hi fun e=>hx _ rfl e.symm⟩
theorem OwnS.keep1 {H H':zn} {b:Nat} (k:z3j b H H'):z2q (some ⟨b,0,none⟩) H H':=⟨k.1,fun i hi hx=>k.2 i hi fun e=>hx _ rfl e.symm⟩
def wk (k:Int):Nat→Int
 | 0=>k
 | n+1=>wk (IntKind.wrap .i64 (k+1)) n
def zxv {α:Type} (f:Int→α) (k:Int):Nat→List α
 | 0=>[]
 | n+1=>f k::zxv f (IntKind.wrap .i64 (k+1)) n
theorem z4g {α:Type} (f:Int→α):∀(n:Nat) (k:Int),(zxv f k n).length=n:=by
 intro n
 induction n with
 | zero=>intro k;rfl
 | succ n ih=>intro k;simp [zxv,ih]
theorem OwnS.put {α:Type} {f:α→Value} {H:zn} {lo:Nat} {a:Option Addr} {n e:Nat} {xs:List α} (h:OwnS f H lo a n e xs) (ys:List α) (hl:ys.length=xs.length):∃H',z2q a H H'∧OwnS f H' lo a n e ys:=by
 obtain ⟨hn,⟨rfl,hx⟩ | ⟨c,rfl,h,he,hlo⟩⟩:=h
 ·subst hx
  have:ys=[]:=List.length_eq_zero_iff.1 hl
  exact ⟨H,z2q.refl _ _,hn.trans hl.symm,.inl ⟨rfl,this⟩⟩
 ·refine ⟨H.set c (some {cells:=ys.map f,own:=true}),⟨by simp,fun i hi hx=>?_⟩,hn.trans hl.symm,.inr ⟨c,rfl,?_,he,hlo⟩⟩
  ·rw [List.getElem?_set,if_neg (fun e=>hx _ rfl e)]
  ·unfold Own;rw [List.getElem?_set];simp [h.lt]
def sAt (s:ByteArray) (i:Nat):UInt8:=s.data.getD i 0
end Go.Proofs.YthheoefadijhdaaGreat.Ai
set_option linter.unusedVariables false
set_option linter.unusedSimpArgs false
namespace Go.Proofs.YthheoefadijhdaaGreat.Ai
open Go

theorem OwnS.ownB {α:Type} {f:α→Value} {H:zn} {lo n e:Nat} {a:Option Addr} {xs:List α} (h:OwnS f H lo a n e xs):Ai.ownB H a n e 1=some (xs.map f):=by
 obtain ⟨hn,⟨rfl,hx⟩ | ⟨c,rfl,h,he,hl⟩⟩:=h
 ·subst hx;subst hn;rfl
 ·exact Own.ownB h (by simp [hn]) he
theorem Ap.appS {α:Type} {f:α→Value} {H:zn} {lo n e:Nat} {a:Option Addr} {xs ys:List α} {o w:List Value} {K:Nat→zn→Prop} (hb:OwnS f H lo a n e xs) (ho:o=xs.map f) (hw:w=ys.map f)
  (h:∀(b':Nat) (H':zn),b'=H.length→H'.length=H.length+1→Own H' b' ((xs++ys).map f)→z2q a H H'→K b' H'):Ap H (z2s H a++[some ⟨o++w,true⟩]) K:=by
 subst ho;subst hw
 obtain ⟨hn,⟨rfl,hx⟩ | ⟨c,rfl,hc,he,hl⟩⟩:=hb
 ·refine h H.length _ rfl (by simp [z2s]) ?_ ⟨by simp [z2s],fun i hi _=>by simp only [z2s];exact List.getElem?_append_left hi⟩
  unfold Own
  simp only [z2s]
  rw [List.getElem?_append_right (Nat.le_refl _)]
  simp
 ·exact Ap.app hc rfl rfl fun b' H' h1 h2 h3 h4=>h b' H' h1 h2 (by rw [List.map_append];exact h3) (OwnS.keep1 h4)
theorem z2q.grow {H H':zn} (k:z2q none H H'):Grow H H':=⟨k.1,fun i hi=>k.2 i hi fun x hx=>by cases hx⟩
theorem zoy {x y u v W H:Int} (h1:0≤x) (h2:0≤y) (h3:0≤u) (h4:0≤v) (h5:x+u<W) (h6:y+v<H):0≤(y+v)*W∧(y+v)*W+x+u<W*H∧(y+v)*W≤W*H:=by
 have hW:0<W:=by omega
 have e1:0≤(y+v)*W:=Int.mul_nonneg (by omega) (by omega)
 have e2:(y+v+1)*W≤H*W:=Int.mul_le_mul_of_nonneg_right (by omega) (by omega)
 rw [Int.add_mul,Int.one_mul,Int.mul_comm H W] at e2
 omega
theorem z4u {W H:Int} (h1:1≤W) (h2:W≤16) (h3:1≤H) (h4:H≤16):1≤W*H∧W*H≤256:=by
 have e1:W*1≤W*H:=Int.mul_le_mul_of_nonneg_left h3 (by omega)
 have e2:W*H≤16*16:=Int.mul_le_mul h2 h4 (by omega) (by omega)
 omega
theorem zhw {x y W H w h i:Int} (h1:0≤x) (h2:0≤y) (h3:1≤w) (h4:1≤h) (h5:x+w≤W) (h6:y+h≤H) (hW:W≤16) (hH:H≤16) (h7:0≤i):
  i<w*h→0≤Int.tdiv i w∧Int.tdiv i w<h∧0≤Int.tmod i w∧Int.tmod i w<w∧0≤(y+Int.tdiv i w)*W∧(y+Int.tdiv i w)*W+x+Int.tmod i w<W*H∧W*H≤256:=fun hi=>by
 have e1:Int.tdiv i w=i / w:=Int.tdiv_eq_ediv_of_nonneg h7
 have e2:Int.tmod i w=i % w:=Int.tmod_eq_emod_of_nonneg h7
 rw [e1,e2]
 have g1:0≤i / w:=Int.ediv_nonneg h7 (by omega)
 have g2:i / w<h:=Int.ediv_lt_of_lt_mul (by omega) (by rw [Int.mul_comm];exact hi)
 have g3:0≤i % w:=Int.emod_nonneg _ (by omega)
 have g4:i % w<w:=Int.emod_lt_of_pos _ (by omega)
 have g5:=zoy (x:=x) (y:=y) (u:=i % w) (v:=i / w) (W:=W) (H:=H) h1 h2 g3 g1 (by omega) (by omega)
 have g6:=z4u (W:=W) (H:=H) (by omega) hW (by omega) hH
 exact ⟨g1,g2,g3,g4,g5.1,g5.2.1,g6.2⟩
end Go.Proofs.YthheoefadijhdaaGreat.Ai
