/- A region whose order is drawn, whole; code; functions. -/
import Derived.Test.YtbnplefohfamnaaFFnAtomsAiK
set_option linter.unusedSimpArgs false
set_option linter.unusedVariables false
namespace Go.Proofs.Ytbnplefohfamnaa.Ai
open Go Go.RowKit


def zuk (e:Edge) (m:Nat→Nat) (j:Nat):Bool:=Region.binds .any e && (Nat.beq e.on j || (m e.on).testBit j)
def zmn (ops:List Oper) (m:Nat→Nat):Bool:=
 (List.range ops.length).all fun i=>match ops[i]? with
  | some o=>(List.range ops.length).all fun j=>!((m i).testBit j) || o.after.toList.any fun e=>zuk e m j
  | none=>true
def zlu (ops:List Oper):Bool:=
 (List.range ops.length).all fun i=>match ops[i]? with
  | some o=>o.after.toList.all fun e=>!(Region.binds .any e) || Nat.blt e.on i
  | none=>true
def zgu (q:Nat→Bool×Bool) (ops:List Oper) (m:Nat→Nat) (pre:List Nat):List Nat→Bool
 | []=>true
 | i::r=>!(pre.any fun j=>Nat.beq j i) && (match ops[i]? with
  | some o=>pre.all fun j=>match ops[j]? with
   | some o'=>(m i).testBit j || com q ops o' o
   | none=>true
  | none=>true) && zgu q ops m (i::pre) r
def force {α:Type} (n:Nat) (f:Nat→α):α:=
 match n with
 | 0=>f 0
 | k+1=>f (k+1)
def z1cz (ms:List Nat) (o:Oper):Nat:=o.after.toList.foldl (fun s e=>cond (Region.binds .any e) (s ||| 2 ^ e.on ||| ms.getD e.on 0) s) 0
def z9v (ms:List Nat):List Oper→(List Nat→Bool)→Bool
 | [],k=>k ms
 | o::r,k=>force (z1cz ms o) fun n=>z9v (ms++[n]) r k
def z12v (q:Nat→Bool×Bool) (ops:List Oper):Bool:=z9v [] ops fun ms=>zmn ops (fun i=>ms.getD i 0) && zlu ops && Nat.ble (z7f ops).length ops.length && (z7f ops).all (Nat.blt · ops.length) && ((List.range ops.length).all fun i=>(z7f ops).any fun j=>Nat.beq j i) && zgu q ops (fun i=>ms.getD i 0) [] (z7f ops)

theorem zdo {k:List Nat→Bool}:∀{l:List Oper} {ms:List Nat},z9v ms l k=true→∃ms',k ms'=true:=by
 intro l
 induction l with
 | nil=>intro ms h;exact ⟨ms,h⟩
 | cons o l ih=>
  intro ms h
  unfold z9v force at h
  split at h
  ·exact ih h
  ·exact ih h
structure PiOk (q:Nat→Bool×Bool) (ops:List Oper) (m:Nat→Nat) (π:List Nat):Prop where
 len:π.length≤ops.length
 lt:∀i ∈ π,i<ops.length
 mem:∀i,i<ops.length→i ∈ π
 split:∀L i R,π=L++i::R→i ∉ L∧i ∉ R∧∀j ∈ L,∀o o',ops[i]? =some o→ops[j]? =some o'→(m i).testBit j=false→com q ops o' o=true
theorem zba {q:Nat→Bool×Bool} {ops:List Oper} {m:Nat→Nat}:∀{l pre:List Nat},zgu q ops m pre l=true→∀L i R,l=L++i::R→(∀j,j ∈ pre∨j ∈ L→j≠i)∧
  ∀j,j ∈ pre∨j ∈ L→∀o o',ops[i]? =some o→ops[j]? =some o'→(m i).testBit j=false→com q ops o' o=true:=by
 intro l
 induction l with
 | nil=>intro pre _ L i R h;cases L<;>cases h
 | cons k l ih=>
  intro pre h L i R e
  simp only [zgu,Bool.and_eq_true,Bool.not_eq_true'] at h
  obtain ⟨⟨h1,h2⟩,h3⟩:=h
  cases L with
  | nil=>
   simp only [List.nil_append,List.cons.injEq] at e
   obtain ⟨rfl,rfl⟩:=e
   refine ⟨fun j hj hji=>?_,fun j hj o o' ho ho' hb=>?_⟩
   ·subst hji
    rcases hj with hj | hj
    ·have:=List.any_eq_false.1 h1 j hj
     rw [Nat.beq_refl] at this;exact this rfl
    ·cases hj
   ·rcases hj with hj | hj
    ·simp only [ho] at h2
     have:=List.all_eq_true.1 h2 j hj
     simp only [ho',hb,Bool.false_or] at this
     exact this
    ·cases hj
  | cons k' L=>
   simp only [List.cons_append,List.cons.injEq] at e
   obtain ⟨rfl,rfl⟩:=e
   obtain ⟨g1,g2⟩:=ih h3 L i R rfl
   have conv:∀j,(j ∈ pre∨j ∈ k::L)→(j ∈ k::pre∨j ∈ L):=by
    intro j hj
    rcases hj with hj | hj
    ·exact .inl (List.mem_cons_of_mem _ hj)
    ·rcases List.mem_cons.1 hj with rfl | hj
     ·exact .inl List.mem_cons_self
     ·exact .inr hj
   exact ⟨fun j hj=>g1 j (conv j hj),fun j hj=>g2 j (conv j hj)⟩
theorem zlt {q:Nat→Bool×Bool} {ops:List Oper} (h:z12v q ops=true):∃m:Nat→Nat,zmn ops m=true∧zlu ops=true∧PiOk q ops m (z7f ops):=by
 obtain ⟨ms,h⟩:=zdo h
 simp only [Bool.and_eq_true] at h
 obtain ⟨⟨⟨⟨⟨h1,h2⟩,h0⟩,h3⟩,h4⟩,h5⟩:=h
 refine ⟨_,h1,h2,⟨Nat.le_of_ble_eq_true h0,fun i hi=>Nat.le_of_ble_eq_true (List.all_eq_true.1 h3 i hi),fun i hi=>?_,fun L i R e=>?_⟩⟩
 ·obtain ⟨j,hj,hb⟩:=List.any_eq_true.1 (List.all_eq_true.1 h4 i (List.mem_range.2 hi))
  rw [←Nat.eq_of_beq_eq_true hb];exact hj
 ·obtain ⟨g1,g2⟩:=zba h5 L i R e
  refine ⟨fun hi=>g1 i (.inr hi) rfl,fun hi=>?_,fun j hj=>g2 j (.inr hj)⟩
  obtain ⟨R1,R2,rfl⟩:=List.append_of_mem hi
  have:=(zba h5 (L++i::R1) i R2 (by rw [e];simp)).1 i (.inr (by simp))
  exact this rfl

section
variable {P:Program} {env:Env} {B0:Nat}

def rem (π:List Nat) (listed:Array Bool):List Nat:=π.filter fun i=>!listed.getD i true

def z18y (m:Nat→Nat) (listed:Array Bool):Prop:=∀i,listed.getD i true=true→i<listed.size→∀j,(m i).testBit j=true→j<listed.size→listed.getD j true=true

theorem pull {ops:List Oper} {y:Oper} (henv:∀g,FnOk P g (env g)):∀(R1 R2:List Oper),(∀x ∈ R1,com (fun g=>((env g).quiet,(env g).tame)) ops x y=true)→∀{tm:List Value} {H:zd} {K:List Value→zd→Prop},
  seqK P env ops (R1++y::R2) tm H K→z6s P env ops y tm H fun tm' H'=>seqK P env ops (R1++R2) tm' H' K:=by
 intro R1
 induction R1 with
 | nil=>intro R2 _ tm H K h;exact h
 | cons x R1 ih=>
  intro R2 hc tm H K h
  have h1:z6s P env ops x tm H fun tm' H'=>z6s P env ops y tm' H' fun tm'' H''=>seqK P env ops (R1++R2) tm'' H'' K:=
   zsg henv (fun tm' H' k=>ih R2 (fun z hz=>hc z (List.mem_cons_of_mem _ hz)) k) h
  exact swap henv (hc x List.mem_cons_self) h1

theorem zce {q:Nat→Bool×Bool} {ops:List Oper} {m:Nat→Nat} {π:List Nat} (hπ:PiOk q ops m π) {i:Nat} {o:Oper} (p:Nat→Bool) (hi:i<ops.length) (hp:p i=true) (ho:ops[i]? =some o):
  ∃R1 R2,zgm ops (π.filter p)=R1++o::R2∧(∀x ∈ R1,∃j,j<ops.length∧p j=true∧ops[j]? =some x∧((m i).testBit j=false→com q ops x o=true))∧
   zgm ops (π.filter fun j=>p j && !(Nat.beq j i))=R1++R2:=by
 obtain ⟨L,R,e⟩:=List.append_of_mem (hπ.mem i hi)
 obtain ⟨n1,n2,hc⟩:=hπ.split L i R e
 refine ⟨zgm ops (L.filter p),zgm ops (R.filter p),?_,?_,?_⟩
 ·rw [e,List.filter_append,List.filter_cons_of_pos hp]
  simp [zgm,List.filterMap_append,List.filterMap_cons,ho]
 ·intro x hx
  obtain ⟨j,hj,hx⟩:=List.mem_filterMap.1 hx
  obtain ⟨h1,h2⟩:=List.mem_filter.1 hj
  exact ⟨j,hπ.lt j (by rw [e];simp [h1]),h2,hx,fun hb=>hc j h1 o x ho hx hb⟩
 ·rw [e,List.filter_append]
  have hpi:¬((p i && !(Nat.beq i i))=true):=by rw [Nat.beq_refl];simp
  rw [List.filter_cons_of_neg (p:=fun j=>p j && !(Nat.beq j i)) hpi]
  have ne:∀l:List Nat,i ∉ l→l.filter (fun j=>p j && !(Nat.beq j i))=l.filter p:=by
   intro l hl
   apply List.filter_congr
   intro j hj
   have hb:Nat.beq j i=false:=by
    cases hbq:Nat.beq j i with
    | false=>rfl
    | true=>have:=Nat.eq_of_beq_eq_true hbq;subst this;exact absurd hj hl
   rw [hb];simp
  rw [ne L n1,ne R n2]
  simp [zgm,List.filterMap_append]

theorem z14g {ops:Array Oper} (henv:∀g,FnOk P g (env g)) {m:Nat→Nat} (hm:zmn ops.toList m=true) (hed:zlu ops.toList=true) {π:List Nat} (hπ:PiOk (fun g=>((env g).quiet,(env g).tame)) ops.toList m π) (hok:ops.toList.all zkh=true)
  {Q:Exit→Act→World→Prop}:∀(fuel:Nat) (listed:Array Bool) (ρ:Ren) (H:zd) (w:World) (tm:List Value) (a:Act) (K:List Value→zd→Prop),
  listed.size=ops.size→z18y m listed→(rem π listed).length≤fuel→HR B0 ρ H w→VRs ρ tm a.tmps.toList→seqK P env ops.toList (zgm ops.toList (rem π listed)) tm H K→
  (∀tm' H',K tm' H'→∀ρ' w' a',ρ <+:ρ'→HR B0 ρ' H' w'→VRs ρ' tm' a'.tmps.toList→a'.defers=a.defers→Below B0 w w'→Q .normal a' w')→wpAny P .any ops Q fuel listed a w:=by
 have hlt:∀i o,ops.toList[i]? =some o→∀e ∈ o.after,Region.binds .any e=true→e.on<i:=by
  intro i o ho e he hb
  have h1:=List.all_eq_true.1 hed i (List.mem_range.2 (List.getElem?_eq_some_iff.1 ho).1)
  simp only [ho] at h1
  have h2:=List.all_eq_true.1 h1 e (by simpa using he)
  rw [hb] at h2
  simp only [Bool.not_true,Bool.false_or] at h2
  exact Nat.le_of_ble_eq_true h2
 have hanc:∀i j o,ops.toList[i]? =some o→j<ops.size→(m i).testBit j=true→∃e ∈ o.after,Region.binds .any e=true∧(e.on=j∨(m e.on).testBit j=true):=by
  intro i j o ho hj hb
  have h1:=List.all_eq_true.1 hm i (List.mem_range.2 (List.getElem?_eq_some_iff.1 ho).1)
  simp only [ho] at h1
  have h2:=List.all_eq_true.1 h1 j (List.mem_range.2 (by simpa using hj))
  rw [hb] at h2
  simp only [Bool.not_true,Bool.false_or] at h2
  obtain ⟨e,he,hd⟩:=List.any_eq_true.1 h2
  simp only [zuk,Bool.and_eq_true,Bool.or_eq_true] at hd
  exact ⟨e,by simpa using he,hd.1,hd.2.imp Nat.eq_of_beq_eq_true id⟩
 have final:∀(listed:Array Bool) (ρ:Ren) (H:zd) (w:World) (tm:List Value) (a:Act) (K:List Value→zd→Prop),listed.size=ops.size→rem π listed=[]→HR B0 ρ H w→VRs ρ tm a.tmps.toList→
   seqK P env ops.toList (zgm ops.toList (rem π listed)) tm H K→
   (∀tm' H',K tm' H'→∀ρ' w' a',ρ <+:ρ'→HR B0 ρ' H' w'→VRs ρ' tm' a'.tmps.toList→a'.defers=a.defers→Below B0 w w'→Q .normal a' w')→Q .normal a w:=by
  intro listed ρ H w tm a K hs hrem hr hf hk hq
  rw [hrem] at hk
  exact hq tm H hk ρ w a (List.prefix_refl _) hr hf rfl (.refl _ _)
 have stuck:∀(listed:Array Bool),listed.size=ops.size→Region.ready .any ops listed=[]→rem π listed=[]:=by
  intro listed hs hready
  apply Classical.byContradiction
  intro hne
  -- the least number that has not come up
  have hex:∃i,i<ops.size∧listed.getD i true=false:=by
   obtain ⟨i,hi⟩:=List.exists_mem_of_ne_nil _ hne
   obtain ⟨h1,h2⟩:=List.mem_filter.1 hi
   exact ⟨i,by simpa using hπ.lt i h1,by simpa using h2⟩
  have hmin:∃i,(i<ops.size∧listed.getD i true=false)∧∀j,j<i→¬(j<ops.size∧listed.getD j true=false):=by
   obtain ⟨i,hi⟩:=hex
   induction i using Nat.strongRecOn with
   | _ i ih=>
    by_cases h:∃j,j<i∧(j<ops.size∧listed.getD j true=false)
    ·obtain ⟨j,hj,h2⟩:=h;exact ih j hj h2
    ·exact ⟨i,hi,fun j hj h2=>h ⟨j,hj,h2⟩⟩
  obtain ⟨i,⟨hi,hun⟩,hleast⟩:=hmin
  have ho:ops[i]? =some ops[i]:=Array.getElem?_eq_getElem hi
  have:i ∈ Region.ready .any ops listed:=by
   rw [mem_ready]
   refine ⟨hun,ops[i],ho,fun e he hb=>?_⟩
   have hl:=hlt i ops[i] (by rw [Array.getElem?_toList];exact ho) e he hb
   have h3:=hleast e.on hl
   have hsz:e.on<ops.size:=by omega
   cases hv:listed.getD e.on true with
   | true=>
    rw [Array.getD_eq_getD_getElem?] at hv ⊢
    rw [Array.getElem?_eq_getElem (by omega)] at hv ⊢
    simpa using hv
   | false=>exact absurd ⟨hsz,hv⟩ h3
  rw [hready] at this
  cases this
 intro fuel
 induction fuel with
 | zero=>
  intro listed ρ H w tm a K hs hcl hfu hr hf hk hq
  have hrem:rem π listed=[]:=List.length_eq_zero_iff.1 (by omega)
  refine ⟨?_,final listed ρ H w tm a K hs hrem hr hf hk hq⟩
  apply List.eq_nil_iff_forall_not_mem.2
  intro i hi
  obtain ⟨h0,o,ho,_⟩:=mem_ready.1 hi
  have:i ∈ rem π listed:=List.mem_filter.2 ⟨hπ.mem i (by simpa using (Array.getElem?_eq_some_iff.1 ho).1),by simp [h0]⟩
  rw [hrem] at this;cases this
 | succ fuel ih=>
  intro listed ρ H w tm a K hs hcl hfu hr hf hk hq
  refine ⟨fun hready=>final listed ρ H w tm a K hs (stuck listed hs hready) hr hf hk hq,fun i hi=>?_⟩
  obtain ⟨h0,o,ho,hall⟩:=mem_ready.1 hi
  have hil:i<ops.size:=(Array.getElem?_eq_some_iff.1 ho).1
  have ho':ops.toList[i]? =some o:=by rw [Array.getElem?_toList];exact ho
  obtain ⟨R1,R2,e1,e2,e3⟩:=zce hπ (i:=i) (o:=o) (fun j=>!listed.getD j true) (by simpa using hil) (by simp only [h0];rfl) ho'
  have hlisted:∀j,j<ops.size→(m i).testBit j=true→listed.getD j true=true:=by
   intro j hj hb
   obtain ⟨e,he,hbe,hor⟩:=hanc i j o ho' hj hb
   have hle:=hall e he hbe
   have hlt':=hlt i o ho' e he hbe
   have hle':listed.getD e.on true=true:=by
    rw [Array.getD_eq_getD_getElem?] at hle ⊢
    rw [Array.getElem?_eq_getElem (by omega)] at hle ⊢
    simpa using hle
   rcases hor with rfl | hb2
   ·exact hle'
   ·exact hcl e.on hle' (by omega) j hb2 (by omega)
  have hk2:seqK P env ops.toList (R1++o::R2) tm H K:=by rw [←e1];exact hk
  have hstep:=pull henv R1 R2 (fun x hx=>by
   obtain ⟨j,hj,hun,hxj,hcm⟩:=e2 x hx
   refine hcm ?_
   cases hb:(m i).testBit j with
   | false=>rfl
   | true=>have:=hlisted j (by simpa using hj) hb;simp [this] at hun) hk2
  have hopok:zkh o=true:=List.all_eq_true.1 hok o (List.mem_of_getElem? ho')
  unfold wpOp
  rw [ho]
  simp only []
  -- what is left
  have hrem':∀listed',listed'=listed.setIfInBounds i true→rem π listed'=π.filter fun j=>!listed.getD j true && !(Nat.beq j i):=by
   rintro _ rfl
   unfold rem
   apply List.filter_congr
   intro j hj
   by_cases hji:j=i
   ·subst hji
    rw [Nat.beq_refl]
    simp [hs,hil]
   ·have hb:Nat.beq j i=false:=by cases hbq:Nat.beq j i;rfl;exact absurd (Nat.eq_of_beq_eq_true hbq) hji
    rw [getD_set_ne true (Ne.symm hji),hb];simp
  have hnext:∀tm' H',seqK P env ops.toList (R1++R2) tm' H' K→∀ρ' w' a',ρ <+:ρ'→HR B0 ρ' H' w'→VRs ρ' tm' a'.tmps.toList→a'.defers=a.defers→Below B0 w w'→
    wpAny P .any ops Q fuel (listed.setIfInBounds i true) a' w':=by
   intro tm' H' hk' ρ' w' a' g1 g2 g3 g4 g5
   refine ih (listed.setIfInBounds i true) ρ' H' w' tm' a' K (by simpa using hs) ?_ ?_ g2 g3 ?_ fun tm'' H'' hk'' ρ'' w'' a'' q1 q2 q3 q4 q5=>hq tm'' H'' hk'' ρ'' w'' a'' (g1.trans q1) q2 q3 (q4.trans g4) (g5.trans q5)
   ·intro k hk1 hk2 j hb hj
    simp only [Array.size_setIfInBounds] at hk2 hj
    by_cases hkj:j=i
    ·subst hkj;simp [hs,hil]
    ·rw [getD_set_ne true (Ne.symm hkj)]
     by_cases hki:k=i
     ·subst hki;exact hlisted j (by omega) hb
     ·rw [getD_set_ne true (Ne.symm hki)] at hk1
      exact hcl k hk1 hk2 j hb hj
   ·rw [hrem' _ rfl]
    have hlen:(π.filter fun j=>!listed.getD j true && !(Nat.beq j i)).length<(rem π listed).length:=by
     have h1:i ∈ rem π listed:=List.mem_filter.2 ⟨hπ.mem i (by simpa using hil),by simp [h0]⟩
     have h2:(π.filter fun j=>!listed.getD j true && !(Nat.beq j i))=(rem π listed).filter fun j=>!(Nat.beq j i):=by
      unfold rem;rw [List.filter_filter];congr 1;funext j;exact Bool.and_comm _ _
     rw [h2]
     exact List.length_filter_lt_length_iff_exists.2 ⟨i,h1,by rw [Nat.beq_refl];simp⟩
    omega
   ·rw [hrem' _ rfl,e3];exact hk'
  have:=zps (Q:=Q) hr hf hopok henv hstep hnext
  split
  ·rename_i hw;rw [if_pos hw] at this;exact .inl this
  ·rename_i hw;rw [if_neg hw] at this;exact this
end
end Go.Proofs.Ytbnplefohfamnaa.Ai
