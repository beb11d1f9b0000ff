/- The abstract machine and the world: conversions, slices, what is made and what grows. -/
import Derived.Test.YtbnplefohfamnaaFFnAtomsAiD
set_option linter.unusedSimpArgs false
set_option linter.unusedVariables false
namespace Go.Proofs.Ytbnplefohfamnaa.Ai
open Go Go.RowKit

section
variable {P:Program} {ρ:Ren} {w:World} {B0:Nat} {H:zd}

theorem HR.rename (h:HR B0 ρ H w) {b:Nat} {blk:Blk} (hb:H[b]? =some (some blk)) {x:Nat×Nat×Nat} (hx:ρ[b]? =some x):
  HR B0 (ρ++[x]) (H.set b none++[some blk]) w:=by
 have hp:ρ <+:ρ++[x]:=List.prefix_append _ _
 have get:∀(b':Nat) (blk':Blk),(H.set b none++[some blk])[b']? =some (some blk')→∃b'':Nat,H[b'']? =some (some blk')∧(ρ++[x])[b']? =ρ[b'']? ∧(b'=H.length∧b''=b∨b'=b''∧b'≠b∧b'<H.length):=by
  intro b' blk' hb'
  by_cases hlt:b'<H.length
  ·rw [List.getElem?_append_left (by simpa using hlt),List.getElem?_set] at hb'
   split at hb'
   ·split at hb'<;>simp at hb'
   ·rename_i hne
    exact ⟨b',hb',by rw [List.getElem?_append_left (h.len ▸ hlt)],.inr ⟨rfl,fun e=>hne e.symm,hlt⟩⟩
  ·rw [List.getElem?_append_right (by simp;omega)] at hb'
   simp only [List.length_set] at hb'
   cases hd:b'-H.length with
   | zero=>
    rw [hd] at hb';simp at hb';subst hb'
    have e:b'=H.length:=by omega
    exact ⟨b,hb,by rw [e,h.len,hx];simp,.inl ⟨e,rfl⟩⟩
   | succ n=>rw [hd] at hb';simp at hb'
 refine ⟨by simp [h.len],h.base0,?_,?_⟩
 ·intro b' blk' hb' c base sz hr
  obtain ⟨b'',h1,h2,_⟩:=get _ _ hb'
  obtain ⟨arr,e,fz,g1,g2,g3,g4,g5⟩:=h.live b'' blk' h1 c base sz (h2 ▸ hr)
  refine ⟨arr,e,fz,g1,g2,g3,fun i v hi=>?_,g5⟩
  obtain ⟨v',q1,q2,q3⟩:=g4 i v hi
  exact ⟨v',q1,q2.mono hp,q3⟩
 ·intro b1 b2 blk1 blk2 h1 h2 hne ho c1 p1 s1 c2 p2 s2 hr1 hr2
  obtain ⟨x1,u1,u2,u3⟩:=get _ _ h1
  obtain ⟨x2,v1,v2,v3⟩:=get _ _ h2
  refine h.sep x1 x2 blk1 blk2 u1 v1 ?_ ho c1 p1 s1 c2 p2 s2 (u2 ▸ hr1) (v2 ▸ hr2)
  rcases u3 with ⟨e1,e2⟩ | ⟨e1,e2,e3⟩<;>rcases v3 with ⟨f1,f2⟩ | ⟨f1,f2,f3⟩<;>omega

theorem HR.push (h:HR B0 ρ H w) {b:Nat} {blk:Blk} (hb:H[b]? =some (some blk)) (ho:blk.own=true)
  {c base sz:Nat} (hr:ρ[b]? =some (c,base,sz)) (hlt:blk.cells.length<sz) {v v':Value} (hv:VR ρ v v') (hc:isCell v=true):
  HR B0 ρ (H.set b (some {blk with cells:=blk.cells++[v]})) (w.setCell ⟨c,base+blk.cells.length,none⟩ v')∧
   (∃u,w.cell? ⟨c,base+blk.cells.length,none⟩=some u)∧w.frozen? ⟨c,base+blk.cells.length,none⟩=false∧
   Below B0 w (w.setCell ⟨c,base+blk.cells.length,none⟩ v'):=by
 obtain ⟨arr,e,fz,hh,h1,h2,h3,h4⟩:=h.live b blk hb c base sz hr
 obtain ⟨hB,rfl⟩:=h4 ho
 have hbl:b<H.length:=(List.getElem?_eq_some_iff.1 hb).1
 have heap_c:(w.setCell ⟨c,base+blk.cells.length,none⟩ v').heap[c]? =some (.cells (arr.setIfInBounds (base+blk.cells.length) v') e (0,0)):=by
  simp only [World.setCell,Array.getElem?_modify,if_true,hh,Option.map_some];rfl
 have heap_o:∀k,k≠c→(w.setCell ⟨c,base+blk.cells.length,none⟩ v').heap[k]? =w.heap[k]? :=fun k hk=>Below.heap_setCell _ _ _ _ hk
 refine ⟨⟨by simp [h.len],by rw [World.size_setCell];exact h.base0,?_,?_⟩,?_,?_,?_⟩
 ·intro b' blk' hb' c' base' sz' hr'
  rw [List.getElem?_set] at hb'
  split at hb'
  ·rename_i e';subst e'
   try rw [if_pos hbl] at hb'
   cases hb'
   rw [hr] at hr';cases hr'
   refine ⟨_,_,_,heap_c,by simp;omega,by simpa using h2,fun i x hi=>?_,fun _=>⟨hB,rfl⟩⟩
   by_cases hi':i<blk.cells.length
   ·simp only [List.getElem?_append_left hi'] at hi
    obtain ⟨x',a1,a2,a3⟩:=h3 i x hi
    refine ⟨x',?_,a2,a3⟩
    rw [Array.getElem?_setIfInBounds,if_neg (by omega)];exact a1
   ·have:i=blk.cells.length:=by
     have:=(List.getElem?_eq_some_iff.1 hi).1
     simp at this;omega
    subst this
    simp at hi;subst hi
    refine ⟨v',?_,hv,hc⟩
    rw [Array.getElem?_setIfInBounds,if_pos rfl,if_pos (by omega)]
  ·rename_i e'
   have hne:=h.sep b b' blk blk' hb hb' e' ho c base sz c' base' sz' hr hr'
   obtain ⟨arr',e'',fz',g1,g2⟩:=h.live b' blk' hb' c' base' sz' hr'
   exact ⟨arr',e'',fz',by rw [heap_o _ (Ne.symm hne)];exact g1,g2⟩
 ·have get:∀(b':Nat) (blk':Blk),(H.set b (some {blk with cells:=blk.cells++[v]}))[b']? =some (some blk')→∃blk'':Blk,H[b']? =some (some blk'')∧blk''.own=blk'.own:=by
   intro b' blk' hb'
   rw [List.getElem?_set] at hb'
   split at hb'
   ·rename_i e';subst e';(try rw [if_pos hbl] at hb');cases hb';exact ⟨blk,hb,rfl⟩
   ·exact ⟨blk',hb',rfl⟩
  intro b1 b2 blk1 blk2 g1 g2 hne ho1
  obtain ⟨k1,q1,q2⟩:=get _ _ g1
  obtain ⟨k2,q3,q4⟩:=get _ _ g2
  exact h.sep b1 b2 k1 k2 q1 q3 hne (q2.trans ho1)
 ·have:base+blk.cells.length<arr.size:=by omega
  exact ⟨arr[base+blk.cells.length],by simp [World.cell?,hh,this]⟩
 ·simp [World.frozen?,hh]
 ·exact (Below.refl B0 w).setCell (p:=⟨c,base+blk.cells.length,none⟩) hB v'

theorem zx2 (cs cs':List Value):∀(H:zd) (w:World) (b:Nat) (blk:Blk),HR B0 ρ H w→H[b]? =some (some blk)→blk.own=true→VRs ρ cs cs'→cs.all isCell=true→
  ∀c base sz,ρ[b]? =some (c,base,sz)→blk.cells.length+cs.length≤sz→∀i a,(∀j,Addr.add a (i+j)=⟨c,base+blk.cells.length+j,none⟩)→
  ∃w',(storeCells a cs' i).run P w=.ok () w'∧HR B0 ρ (H.set b (some {blk with cells:=blk.cells++cs})) w'∧Below B0 w w':=by
 induction cs generalizing cs' with
 | nil=>
  intro H w b blk hr hb ho hv hc c base sz hx hle i a ha
  rw [hv.unnil]
  refine ⟨w,rfl,?_,.refl _ _⟩
  have:H.set b (some {blk with cells:=blk.cells++[]})=H:=by
   rw [List.append_nil]
   apply List.ext_getElem?
   intro k
   rw [List.getElem?_set]
   split
   ·rename_i e;subst e
    have hl:=(List.getElem?_eq_some_iff.1 hb).1
    rw [if_pos hl,hb]
   ·rfl
  rw [this];exact hr
 | cons x cs ih=>
  intro H w b blk hr hb ho hv hc c base sz hx hle i a ha
  obtain ⟨y,ys,rfl,h1,h2⟩:=hv.uncons
  simp only [List.all_cons,Bool.and_eq_true] at hc
  simp only [List.length_cons] at hle
  obtain ⟨hr2,⟨u,hu⟩,hfz,hbel⟩:=hr.push hb ho hx (by omega) h1 hc.1
  have hl:=(List.getElem?_eq_some_iff.1 hb).1
  obtain ⟨w',e1,e2,e3⟩:=ih ys _ _ b {blk with cells:=blk.cells++[x]} hr2 (by rw [List.getElem?_set];simp [hl]) ho h2 hc.2 c base sz hx
   (by simp;omega) (i+1) a (fun j=>by have:=ha (1+j);rw [show i+1+j=i+(1+j) by omega,this];simp;omega)
  refine ⟨w',?_,?_,hbel.trans e3⟩
  ·have hcell:y.oneCell'=true:=by rw [zcr,h1.isCell];exact hc.1
   have ha0:=ha 0
   simp only [Nat.add_zero] at ha0
   simp only [storeCells,Sem.run_bind,ha0,run_store P w _ y _ hcell,hu,hfz,Bool.false_eq_true,if_false,Result.andThen_ok,e1]
  ·simpa [List.append_assoc] using e2

theorem z2b {a:Option Addr} {n:Nat} {l:List Value} (h:rdS H a n=some l):(n=0∧l=[])∨(0<n∧∃b off,a=some ⟨b,off,none⟩∧rdN H b off n=some l):=by
 unfold rdS at h
 cases hb:Nat.beq n 0 with
 | true=>rw [hb] at h;exact .inl ⟨Nat.eq_of_beq_eq_true hb,(Option.some.inj h).symm⟩
 | false=>
  rw [hb] at h
  have hn:0<n:=by
   rcases Nat.eq_zero_or_pos n with h0 | h0
   ·subst h0;cases hb
   ·exact h0
  simp only [cond_false] at h
  split at h
  ·rename_i b off;exact .inr ⟨hn,b,off,rfl,h⟩
  ·cases h
theorem zd4 (hr:HR B0 ρ H w) {a:Option Addr} {n m e:Nat} {l:List Value} (hl:rdS H a m=some l) {v':Value} (hv:VR ρ (.slice a n e) v'):
  (∃c k cap l',v'=.slice (some c) k cap∧k=n∧VRs ρ l l'∧l'.length=m∧∀j v,l'[j]? =some v→w.cell? (c.add j)=some v)∨(v'=.slice none 0 0∧a=none∧l=[]∧m=0∧n=0)∨
   (∃c cap,v'=.slice (some c) 0 cap∧n=0∧e=0):=by
 cases hv with
 | snil=>
  refine .inr (.inl ⟨rfl,rfl,?_⟩)
  rcases z2b hl with ⟨h1,h2⟩ | ⟨_,_,_,h,_⟩
  ·exact ⟨h2,h1,rfl⟩
  ·cases h
 | slice b off _ _ c base sz cap hb h1 h2=>
  refine .inl ?_
  rcases z2b hl with ⟨q1,q2⟩ | ⟨_,b',off',e,hl⟩
  ·subst q1;subst q2
   exact ⟨_,_,_,[],rfl,rfl,.nil ρ,rfl,fun j v hj=>by simp at hj⟩
  ·cases e
   obtain ⟨l',a1,a2,a3⟩:=hr.cells hl hb
   exact ⟨_,_,_,l',rfl,rfl,a1,a2,fun j v hj=>by rw [z3a];exact a3 j v hj⟩
 | sempty b off a' cap=>exact .inr (.inr ⟨a',cap,rfl,rfl,rfl⟩)

theorem zgz {a:Option Addr} {l:List Value} (hl:rdS H a 0=some l):l=[]:=by
 rcases z2b hl with ⟨_,h⟩ | ⟨h,_⟩
 ·exact h
 ·omega

theorem zfk (hr:HR B0 ρ H w) {a:Option Addr} {n:Nat} {l:List Value} (hl:rdS H a n=some l):l.all isCell=true:=by
 rw [List.all_eq_true]
 intro v hvm
 rcases z2b hl with ⟨_,rfl⟩ | ⟨_,b,off,_,h⟩
 ·simp at hvm
 ·obtain ⟨blk,hb,hn,rfl⟩:=z5i h
  obtain ⟨c,base,sz',arr,e',fz,q1,q2,q3,q4,q5,q6⟩:=hr.blk hb
  obtain ⟨j,hj⟩:=List.getElem?_of_mem (List.mem_of_mem_drop (List.mem_of_mem_take hvm))
  exact (q5 j v hj).choose_spec.2.2

theorem zlp {t:TypeId} {s s' x x':Value} {ty:TypeId} {K:Value→zd→Prop} (hr:HR B0 ρ H w) (h:zc8 P t s x H K) (hs:VR ρ s s') (hx:VR ρ x x'):
  HOut P B0 ρ (Builtin.append_ #[t,t] ty #[s',x']) w K:=by
 unfold zc8 at h
 split at h
 case h_2=>exact h.elim
 rename_i e a n ce a' m cm ht
 split at h
 case h_2=>exact h.elim
 rename_i sz by_ z hsz hby hz
 obtain ⟨hchk,old,new,hold,hnew,hne,hmost,hk⟩:=z1d h
 simp only [Bool.and_eq_true] at hchk
 have hby1:by_≤1024:=Nat.le_of_ble_eq_true hchk.1
 have hzs:z.cells.size=sz+1:=Nat.eq_of_beq_eq_true hchk.2
 obtain ⟨i,hi,hisz⟩:∃i,P.info? e=some i∧i.size=sz+1:=by
  unfold z6q at hsz;obtain ⟨i,hi,h2⟩:=Option.map_eq_some_iff.1 hsz;exact ⟨i,hi,h2⟩
 have hib:i.bytes=by_:=by unfold zoe at hby;rw [hi] at hby;simpa using hby
 have hiz:i.zero=some z:=by unfold z8w at hz;rw [hi] at hz;simpa using hz
 have hmost':n+m<4294967296:=hmost
 -- what is appended
 obtain ⟨new',hnv,hnl,hxs⟩:∃new',VRs ρ new new'∧new'.length=m*(sz+1)∧
   ((∃c cap,x'=.slice (some c) m cap∧∀j v,new'[j]? =some v→w.cell? (c.add j)=some v)∨(x'=.slice none 0 0∧m=0)):=by
  rcases zd4 hr hnew hx with ⟨c,k,cap,l',rfl,rfl,h1,h2,h3⟩ | ⟨rfl,rfl,rfl,h1,h2⟩ | ⟨c,cap,rfl,rfl,h2⟩
  ·exact ⟨l',h1,h2,.inl ⟨c,cap,rfl,h3⟩⟩
  ·exact ⟨[],.nil ρ,by simp [h2],.inr ⟨rfl,h2⟩⟩
  ·rw [Nat.zero_mul] at hnew
   rw [zgz hnew]
   exact ⟨[],.nil ρ,by simp,.inl ⟨c,cap,rfl,by simp⟩⟩
 have hnewlen:new.length=m*(sz+1):=by rw [hnv.1];exact hnl
 have hnewcell:new.all isCell=true:=zfk hr hnew
 -- a new array
 have grow:∀(old':List Value) (sCap:Nat),VRs ρ old old'→old.all isCell=true→old'.length=n*(sz+1)→sCap<n+m→∀H',H'.length=H.length→
   HR B0 ρ H' w→K (.slice (some ⟨H.length,0,none⟩) (n+m) (sz+1)) (H'++[some {cells:=old++new,own:=true}])→
   (Builtin.append_ #[t,t] ty #[s',x']).run P w=.ok (.slice (some ⟨w.heap.size,0,none⟩) (n+m) (grownCap w (n+m) sCap e))
    (w.drew.alloc (.cells (old'.toArray++new'.toArray++Builtin.zeroCells z.cells (grownCap w (n+m) sCap e-(n+m))) e))→HOut P B0 ρ (Builtin.append_ #[t,t] ty #[s',x']) w K:=by
  intro old' sCap hov hoc hol hcap H' hlen hr' hk' hrun
  have hge:=grownCap_ge w (n+m) sCap e
  generalize grownCap w (n+m) sCap e=cap at *
  have hsize:(old'.toArray++new'.toArray++Builtin.zeroCells z.cells (cap-(n+m))).size=cap*(sz+1):=by
   simp only [Array.size_append,List.size_toArray,size_zeroCells,hzs,hol,hnl,←Nat.add_mul]
   congr 1;omega
  have htake:((old'.toArray++new'.toArray++Builtin.zeroCells z.cells (cap-(n+m))).toList.take (old++new).length)=old'++new':=by
   simp only [Array.toList_append,List.append_assoc]
   rw [←List.append_assoc,List.length_append,hov.1,hnv.1,←List.length_append]
   exact List.take_left
  generalize (old'.toArray++new'.toArray++Builtin.zeroCells z.cells (cap-(n+m)))=A at *
  refine ⟨_,_,hk',_,_,ρ++[(w.drew.heap.size,0,A.size)],hrun,List.prefix_append _ _,(hr'.drew (.drew w)).alloc ?_ ?_ ?_,?_,?_⟩
  ·rw [hsize,List.length_append,hov.1,hol,hnewlen,←Nat.add_mul];exact Nat.mul_le_mul_right _ hge
  ·rw [htake];exact hov.append hnv
  ·simp [hoc,hnewcell]
  ·have:=VR.slice (ρ:=ρ++[(w.drew.heap.size,0,A.size)]) H.length 0 (n+m) (sz+1) w.drew.heap.size 0 A.size cap
    (by rw [←hlen,hr'.len];simp) hge (fun _=>by rw [hsize];omega)
   simpa using this
  ·exact ((Drew.drew w).below B0).trans (Below.alloc' (hr'.drew (.drew w)) _)
 -- the block that grows
 unfold ownB at hold
 split at hold
 ·-- nothing yet
  cases hn0:Nat.beq n 0<;>simp [hn0] at hold
  subst hold
  have hn:n=0:=Nat.eq_of_beq_eq_true hn0
  subst hn
  have hm:0<m:=hne rfl
  cases hs with
  | snil=>
   rcases hxs with ⟨c,cap,rfl,hc⟩ | ⟨rfl,h0⟩
   ·refine grow [] 0 (.nil ρ) rfl (by simp) (by omega) H rfl hr (by simpa [z5l] using hk) ?_
    have:=run_append_nil (P:=P) w t ty e i z ht hi hiz c m cap new' (by rw [hnl,hisz]) hc hm (by omega)
     (by rw [hib];have:m*by_≤4294967296*1024:=Nat.mul_le_mul (by omega) hby1;omega)
    simpa using this
   ·omega
 ·rename_i b off
  split at hold
  case h_2=>cases hold
  rename_i blk hb
  split at hold
  case isFalse=>cases hold
  rename_i hcond
  cases hold
  obtain ⟨rfl,hown,hlen,rfl⟩:=hcond
  cases hs with
  | slice _ _ _ _ c base s cap hρ h1 h2=>
   have hfit:cap*(sz+1)≤s:=by have:=h2 (by omega);omega
   have hkill:HR B0 (ρ++[(c,base,s)]) (H.set b none++[some blk]) w:=hr.rename hb hρ
   have hoc:blk.cells.all isCell=true:=by
    obtain ⟨c',base',sz',arr,e',fz,q1,q2,q3,q4,q5,q6⟩:=hr.blk hb
    rw [List.all_eq_true]
    intro v hv
    obtain ⟨j,hj⟩:=List.getElem?_of_mem hv
    exact (q5 j v hj).choose_spec.2.2
   have hold':=hr.cells (b:=b) (off:=0) (n:=n*(sz+1)) (l:=blk.cells) (by simp only [rdN,rdB,hb,Option.bind_some];rw [if_pos (by omega),←hlen];simp) hρ
   obtain ⟨old',o1,o2,o3⟩:=hold'
   by_cases hroom:n+m≤cap
   ·-- in place
    have hpre:ρ <+:ρ++[(c,base,s)]:=List.prefix_append _ _
    obtain ⟨w',e1,e2,e3⟩:=zx2 (P:=P) new new' _ w H.length blk hkill (by simp) hown (hnv.mono hpre) hnewcell c base s (by rw [hr.len];simp)
     (by rw [hlen,hnewlen,←Nat.add_mul];exact Nat.le_trans (Nat.mul_le_mul_right _ hroom) hfit) 0 (Addr.add ⟨c,base+0,none⟩ (n*(sz+1)))
     (fun j=>by simp only [z3a,hlen];simp)
    refine ⟨_,_,hk,.slice (some ⟨c,base+0,none⟩) (n+m) cap,w',ρ++[(c,base,s)],?_,hpre,?_,?_,e3⟩
    ·rcases hxs with ⟨cx,capx,rfl,hc⟩ | ⟨rfl,rfl⟩
     ·have hf:=run_firstCells_some (P:=P) w i.size m cx m capx new' (by rw [hnl,hisz]) hc
      rw [hisz] at hf
      simp [Builtin.append_,run_underlying ht,sizeOf,typeInfo,hi,Builtin.lenOf,hroom,hisz,hf]
      simpa using congrArg (fun r=>r.andThen fun (_:Unit) w'=>Result.ok (Value.slice (some ⟨c,base,none⟩) (n+m) cap) w') e1
     ·have hn0:new'=[]:=List.length_eq_zero_iff.1 (by simpa using hnl)
      subst hn0
      have e1':w'=w:=by simp [storeCells] at e1;exact e1.symm
      subst e1'
      have hroom':n≤cap:=by omega
      simp [Builtin.append_,run_underlying ht,sizeOf,typeInfo,hi,Builtin.lenOf,hroom',hisz,Builtin.firstCells,storeCells]
    ·have:(H.set b none++[some blk]).set H.length (some {blk with cells:=blk.cells++new})=z5l H (some ⟨b,0,none⟩)++[some {cells:=blk.cells++new,own:=true}]:=by
      rw [List.set_append_right _ _ (by simp)]
      simp [z5l,hown]
     rw [←this];exact e2
    ·exact VR.slice H.length 0 (n+m) (sz+1) c base s cap (by rw [hr.len];simp) hroom (fun _=>by omega)
   ·rcases hxs with ⟨cx,capx,rfl,hc⟩ | ⟨rfl,rfl⟩
    ·refine grow old' cap o1 hoc (by rw [o2]) (by omega) (z5l H (some ⟨b,0,none⟩)) (by simp [z5l]) (hr.kill b) hk ?_
     have hfits:Builtin.nextslicecap (n+m) cap*i.bytes≤281474976710656:=by
      have a1:=nextslicecap_le (need:=n+m) (old:=cap) (by omega)
      have:Builtin.nextslicecap (n+m) cap*i.bytes≤(2*4294967296)*1024:=Nat.mul_le_mul (by omega) (by rw [hib];exact hby1)
      omega
     have:=run_append_grow (P:=P) w t ty e i z ht hi hiz ⟨c,base+0,none⟩ n cap old' (by rw [o2,hisz]) (fun j v hj=>by rw [z3a];exact o3 j v hj) cx m capx new' (by rw [hnl,hisz]) hc (by omega) (by omega) hfits
     exact this
    ·omega
 ·cases hold

theorem zb5 (z:Array Value) (n:Nat) (hz:0<z.size):(madeCells z (n*z.size)).toList=(List.replicate n z.toList).flatten:=by
 have key:∀n,(List.range (n*z.size)).map (fun i=>z[i % z.size]!)=(List.replicate n z.toList).flatten:=by
  intro n
  induction n with
  | zero=>simp
  | succ n ih=>
   rw [List.replicate_succ,List.flatten_cons,←ih,Nat.succ_mul,Nat.add_comm,List.range_add,List.map_append,List.map_map]
   congr 1
   ·apply List.ext_getElem?
    intro i
    by_cases hi:i<z.size
    ·rw [List.getElem?_map,List.getElem?_range hi]
     simp [Nat.mod_eq_of_lt hi,hi]
    ·rw [List.getElem?_eq_none (by simp;omega),List.getElem?_eq_none (by simp;omega)]
   ·apply List.map_congr_left
    intro i _
    simp
 simpa [madeCells] using key n

theorem zdn {t:TypeId} {n n' c c':Value} {K:Value→zd→Prop} (hr:HR B0 ρ H w) (h:z5u P t n c H K) (hn:VR ρ n n') (hc:VR ρ c c'):
  HOut P B0 ρ (Instr.makeSlice t n' c') w K:=by
 unfold z5u at h
 split at h
 case h_2=>exact h.elim
 rename_i e k n k' c ht
 split at h
 case h_2=>exact h.elim
 rename_i sz by_ z hsz hby hz
 obtain ⟨hchk,h0,rfl,hmost,hk⟩:=z1d h
 cases hn;cases hc
 simp only [Bool.and_eq_true] at hchk
 have hby1:by_≤1024:=Nat.le_of_ble_eq_true hchk.1.1
 have hzs:z.cells.size=sz+1:=Nat.eq_of_beq_eq_true hchk.1.2
 obtain ⟨i,hi,hisz⟩:∃i,P.info? e=some i∧i.size=sz+1:=by
  unfold z6q at hsz;obtain ⟨i,hi,h2⟩:=Option.map_eq_some_iff.1 hsz;exact ⟨i,hi,h2⟩
 have hib:i.bytes=by_:=by unfold zoe at hby;rw [hi] at hby;simpa using hby
 have hiz:i.zero=some z:=by unfold z8w at hz;rw [hi] at hz;simpa using hz
 have hmost':n<4294967296:=hmost
 have hb:(i.bytes:Int)*n≤281474976710656:=by
  have h1:(i.bytes:Int)≤1024:=by omega
  have:(i.bytes:Int)*n≤1024*n:=Int.mul_le_mul_of_nonneg_right h1 h0
  omega
 have hrun:=run_make (P:=P) w t e i z ht hi hiz k k' n n h0 (Int.le_refl _) hb (by omega)
 have hcells:(madeCells z.cells (n.toNat*i.size)).toList=z2k z n.toNat:=by
  rw [hisz,←hzs];exact zb5 z.cells n.toNat (by omega)
 have hall:(z2k z n.toNat).all z3c=true:=by
  unfold z2k
  rw [List.all_eq_true]
  intro v hv
  obtain ⟨l,hl,hv⟩:=List.mem_flatten.1 hv
  rw [List.mem_replicate] at hl
  rw [hl.2] at hv
  exact List.all_eq_true.1 hchk.2 v hv
 have hlen:(z2k z n.toNat).length=(madeCells z.cells (n.toNat*i.size)).size:=by rw [←hcells];simp
 refine ⟨_,_,hk,_,_,_,hrun,List.prefix_append _ _,hr.alloc (by omega) ?_ ?_,?_,Below.alloc' hr _⟩
 ·rw [hcells,List.take_length];exact .const hall
 ·rw [List.all_eq_true];intro v hv;exact zk1 (List.all_eq_true.1 hall v hv)
 ·have:=VR.slice (ρ:=ρ++[(w.heap.size,0,(madeCells z.cells (n.toNat*i.size)).size)]) H.length 0 n.toNat (sz+1) w.heap.size 0 _ n.toNat
   (by rw [hr.len,List.getElem?_append_right (Nat.le_refl _),Nat.sub_self];rfl) (Nat.le_refl _) (fun _=>by rw [size_madeCells,hisz];omega)
  simpa using this

theorem zvj {place:Nat→Option (Nat×Nat)}:∀(parts parts':List (Nat×Value)) (cells cells' out:Array Value),VRs ρ cells.toList cells'.toList→
  parts.length=parts'.length→(∀(j:Nat) (x y:Nat×Value),parts[j]? =some x→parts'[j]? =some y→x.1=y.1∧VR ρ x.2 y.2)→
  Instr.fill place cells parts=some out→∃out',Instr.fill place cells' parts'=some out'∧VRs ρ out.toList out'.toList:=by
 intro parts
 induction parts with
 | nil=>
  intro parts' cells cells' out hv hl hp hf
  cases parts' with
  | nil=>simp [Instr.fill] at hf;subst hf;exact ⟨cells',rfl,hv⟩
  | cons y ys=>simp at hl
 | cons p parts ih=>
  intro parts' cells cells' out hv hl hp hf
  cases parts' with
  | nil=>simp at hl
  | cons p' parts'=>
   obtain ⟨i,v⟩:=p
   obtain ⟨i',v'⟩:=p'
   obtain ⟨hii,hvv⟩:=hp 0 (i,v) (i',v') rfl rfl
   simp only at hii hvv
   subst hii
   simp only [Instr.fill] at hf ⊢
   split at hf
   ·cases hf
   ·rename_i off size hpl
    split at hf
    ·cases hf
    ·rename_i hcond
     have hcl:=hvv.cells
     have hsz:v.cells.size=v'.cells.size:=by simpa using hcl.1
     have hcs:cells.size=cells'.size:=by simpa using hv.1
     rw [if_neg (by rw [←hsz,←hcs];exact hcond)]
     refine ih parts' _ _ out ?_ (by simpa using hl) (fun j x y hx hy=>hp (j+1) x y (by simpa using hx) (by simpa using hy)) hf
     -- the cells put in
     have put:∀(l l':List Value) (k:Nat) (A A':Array Value),VRs ρ l l'→VRs ρ A.toList A'.toList→
       VRs ρ ((l.zipIdx k).foldl (fun cs (x:Value×Nat)=>cs.setIfInBounds (off+x.2) x.1) A).toList ((l'.zipIdx k).foldl (fun cs (x:Value×Nat)=>cs.setIfInBounds (off+x.2) x.1) A').toList:=by
      intro l
      induction l with
      | nil=>intro l' k A A' h1 h2;rw [h1.unnil];exact h2
      | cons a l ih2=>
       intro l' k A A' h1 h2
       obtain ⟨b,l'',rfl,g1,g2⟩:=h1.uncons
       simp only [List.zipIdx_cons,List.foldl_cons]
       refine ih2 l'' (k+1) _ _ g2 ?_
       rw [Array.toList_setIfInBounds,Array.toList_setIfInBounds]
       exact h2.set _ g1
     have:=put v.cells.toList v'.cells.toList 0 cells cells' hcl hv
     rw [←Array.foldl_toList,←Array.foldl_toList]
     simpa [Array.toList_zipIdx] using this

theorem zpi {ev ev':Operand→Value} (ps:Array (Nat×Operand)) (h:∀x ∈ ps.toList.map (·.2),VR ρ (ev x) (ev' x)):
  (ps.toList.map fun (i,x)=>(i,ev x)).length=(ps.map fun (i,x)=>(i,ev' x)).toList.length∧
  ∀(j:Nat) (x y:Nat×Value),(ps.toList.map fun (i,x)=>(i,ev x))[j]? =some x→(ps.map fun (i,x)=>(i,ev' x)).toList[j]? =some y→x.1=y.1∧VR ρ x.2 y.2:=by
 refine ⟨by simp,fun j x y hx hy=>?_⟩
 rw [Array.toList_map] at hy
 rw [List.getElem?_map] at hx hy
 cases hp:ps.toList[j]? with
 | none=>rw [hp] at hx;cases hx
 | some p=>
  rw [hp] at hx hy
  cases hx;cases hy
  exact ⟨rfl,h p.2 (List.mem_map.2 ⟨p,List.mem_of_getElem? hp,rfl⟩)⟩

theorem zc9 {t:TypeId} {len:Nat} {ps ps':List (Nat×Value)} {K:Value→zd→Prop} (hr:HR B0 ρ H w) (h:z4i P t len ps H K)
  (hl:ps.length=ps'.length) (hp:∀(j:Nat) (x y:Nat×Value),ps[j]? =some x→ps'[j]? =some y→x.1=y.1∧VR ρ x.2 y.2):
  HOut P B0 ρ (Instr.buildSlice t len ps'.toArray) w K:=by
 unfold z4i at h
 split at h
 case h_2=>exact h.elim
 rename_i e ht
 split at h
 case h_2=>exact h.elim
 rename_i sz z hsz hz
 obtain ⟨hchk,h⟩:=z1d h
 simp only [Bool.and_eq_true] at hchk
 split at h
 case h_2=>exact h.elim
 rename_i cells hf
 obtain ⟨hcell,hk⟩:=z1d h
 have hlim:len*(sz+1)≤1024:=Nat.le_of_ble_eq_true hchk.1.1
 have hzs:z.cells.size=sz+1:=Nat.eq_of_beq_eq_true hchk.1.2
 have hall:(z2k z len).all z3c=true:=by
  unfold z2k
  rw [List.all_eq_true]
  intro v hv
  obtain ⟨l,hl,hv⟩:=List.mem_flatten.1 hv
  rw [List.mem_replicate] at hl
  rw [hl.2] at hv
  exact List.all_eq_true.1 hchk.2 v hv
 have hmade:((Array.range (len*(sz+1))).map (z.cells[· % z.cells.size]!))=(z2k z len).toArray:=by
  have:=zb5 z.cells len (by omega)
  apply Array.ext'
  rw [hzs] at this
  simpa [madeCells,z2k,hzs] using this
 obtain ⟨cells',hf',hv'⟩:=zvj (ρ:=ρ) ps ps' (z2k z len).toArray (z2k z len).toArray cells (.const (by simpa using hall)) hl hp hf
 have hlen:cells.size=cells'.size:=by simpa using hv'.1
 have hsize:cells.size=len*(sz+1):=by
  have fsz:∀(ps:List (Nat×Value)) (A B:Array Value) (place:Nat→Option (Nat×Nat)),Instr.fill place A ps=some B→B.size=A.size:=by
   intro ps
   induction ps with
   | nil=>intro A B place h;simp [Instr.fill] at h;rw [h]
   | cons p ps ih=>
    intro A B place h
    obtain ⟨i,v⟩:=p
    simp only [Instr.fill] at h
    split at h
    ·cases h
    ·split at h
     ·cases h
     ·rw [ih _ _ _ h]
      have:∀(l:List (Value×Nat)) (A:Array Value) (off:Nat),(l.foldl (fun cs (x:Value×Nat)=>cs.setIfInBounds (off+x.2) x.1) A).size=A.size:=by
       intro l
       induction l with
       | nil=>intros;rfl
       | cons a l ih2=>intro A off;rw [List.foldl_cons,ih2];simp
      rw [←Array.foldl_toList]
      exact this _ _ _
  rw [fsz _ _ _ _ hf]
  rw [←hmade];simp
 have hrun:(Instr.buildSlice t len ps'.toArray).run P w=.ok (.slice (some ⟨w.heap.size,0,none⟩) len len) (w.alloc (.cells cells' e)):=by
  have hlim':¬(len*(sz+1) > 2 ^ 24):=by omega
  by_cases hn:len*(sz+1)=0
  ·have:len=0:=by rcases Nat.mul_eq_zero.1 hn with h | h<;>omega
   subst this
   have hz0:z2k z 0=[]:=rfl
   rw [hz0] at hf'
   simp [Instr.buildSlice,run_underlying ht,z1r hsz,hf',newRow,Array.range_zero']
  ·have hlim2:¬(16777216<len*(sz+1)):=by omega
   simp only [Instr.buildSlice,Sem.run_bind,run_underlying ht,Result.andThen_ok,z1r hsz,if_neg hlim',Sem.run_pure,if_neg hn,zh2 hz,hmade,hf',newRow,run_newObj_alloc]
 refine ⟨_,_,hk,_,_,_,hrun,List.prefix_append _ _,hr.alloc (by simp;omega) ?_ hcell,?_,Below.alloc' hr _⟩
 ·rw [List.take_of_length_le (by simp;omega)];exact hv'
 ·have:=VR.slice (ρ:=ρ++[(w.heap.size,0,cells'.size)]) H.length 0 len (sz+1) w.heap.size 0 cells'.size len
   (by rw [hr.len,List.getElem?_append_right (Nat.le_refl _),Nat.sub_self];rfl) (Nat.le_refl _) (fun _=>by omega)
  simpa using this

theorem zr8 {t:TypeId} {ps ps':List (Nat×Value)} {K:Value→Prop} (h:zj5 P t ps K)
  (hl:ps.length=ps'.length) (hp:∀(j:Nat) (x y:Nat×Value),ps[j]? =some x→ps'[j]? =some y→x.1=y.1∧VR ρ x.2 y.2):
  VOut P ρ (Instr.build t ps'.toArray) w K:=by
 unfold zj5 at h
 split at h
 case h_2=>exact h.elim
 rename_i fields z ht hz
 obtain ⟨hchk,h⟩:=z1d h
 simp only [Bool.and_eq_true] at hchk
 split at h
 case h_2=>exact h.elim
 rename_i cells hf
 -- the places
 have hplaces:∃places:Array (Nat×Nat),(fields.mapM (fun (f:Field)=>do pure (f.offset,←sizeOf f.type)):Sem (Array (Nat×Nat))).run P w=.ok places w∧(fun i=>places[i]?)=fieldAt P fields:=by
  have key:∀(l:List Field),(l.all fun f=>(z6q P f.type).isSome)=true→∃pl:List (Nat×Nat),(l.mapM (fun (f:Field)=>do pure (f.offset,←sizeOf f.type)):Sem (List (Nat×Nat))).run P w=.ok pl w∧
    ∀(i:Nat),pl[i]? =(l[i]?).bind fun (f:Field)=>(z6q P f.type).map fun n=>(f.offset,n):=by
   intro l
   induction l with
   | nil=>intro _;exact ⟨[],by simp,by simp⟩
   | cons f l ih=>
    intro h
    simp only [List.all_cons,Bool.and_eq_true] at h
    obtain ⟨n,hn⟩:=Option.isSome_iff_exists.1 h.1
    obtain ⟨pl,h1,h2⟩:=ih h.2
    refine ⟨(f.offset,n)::pl,by simp only [List.mapM_cons,Sem.run_bind,z1r hn,Result.andThen_ok,Sem.run_pure,h1],fun i=>?_⟩
    cases i with
    | zero=>simp [hn]
    | succ i=>simpa using h2 i
  obtain ⟨pl,h1,h2⟩:=key fields.toList hchk.1
  refine ⟨pl.toArray,?_,?_⟩
  ·rw [←Array.toArray_toList (xs:=fields),List.mapM_toArray]
   simp only [Sem.run_map,h1,Result.andThen_ok]
  ·funext i
   unfold fieldAt
   have:=h2 i
   simp only [List.getElem?_toArray]
   rw [this,Array.getElem?_toList]
   cases fields[i]?<;>rfl
 obtain ⟨places,hpr,hpl⟩:=hplaces
 rw [←hpl] at hf
 obtain ⟨cells',hf',hv'⟩:=zvj (ρ:=ρ) ps ps' z z cells (.const hchk.2) hl hp hf
 refine .plain h ?_ (VRs.agg hv')
 simp only [Instr.build,Sem.run_bind,zh2 hz,Result.andThen_ok,run_underlying ht,hpr,Value.cells,hf',Sem.run_pure]

def zwt (ρ:Ren) (v v':Option Value):Prop:=match v,v' with | none,none=>True | some a,some b=>VR ρ a b | _,_=>False

theorem z4d {v v':Option Value} {d:Int} {K:Int→Prop} (h:zb2 v d K) (hv:zwt ρ v v'):
  (v'=none∧K d)∨∃k j,v'=some (.int k j)∧K j:=by
 unfold zb2 at h
 split at h
 ·cases v' with
  | none=>exact .inl ⟨rfl,h⟩
  | some b=>exact hv.elim
 ·cases v' with
  | none=>exact hv.elim
  | some b=>cases hv;exact .inr ⟨_,_,rfl,h⟩
 ·exact h.elim


theorem zsf {t:TypeId} {x x':Value} {lo lo' hi hi' mx mx':Option Value} {K:Value→Prop} (h:zky P t x lo hi mx K) (hx:VR ρ x x') (hlo:zwt ρ lo lo') (hhi:zwt ρ hi hi') (hmx:zwt ρ mx mx'):
  VOut P ρ (Instr.sliceAt t x' lo' hi' mx') w K:=by
 unfold zky at h
 split at h
 ·rename_i e a n ce hu
  obtain rfl:mx'=none:=by cases mx' with | none=>rfl | some b=>exact hmx.elim
  split at h
  case h_2=>exact h.elim
  rename_i sz hsz
  have cases2:∃l hh:Int,0≤l∧l≤hh∧hh≤n∧K (.slice (a.map fun a=>⟨a.block,a.off+l.toNat*sz,none⟩) (hh-l).toNat 0)∧
    ((lo'=none∧l=0)∨∃k,lo'=some (.int k l))∧((hi'=none∧hh=n)∨∃k,hi'=some (.int k hh)):=by
   rcases z4d h hlo with ⟨e1,h⟩ | ⟨k,j,e1,h⟩
   ·rcases z4d h hhi with ⟨e2,h⟩ | ⟨k',j',e2,h⟩
    ·exact ⟨0,n,h.1,h.2.1,h.2.2.1,h.2.2.2,.inl ⟨e1,rfl⟩,.inl ⟨e2,rfl⟩⟩
    ·exact ⟨0,j',h.1,h.2.1,h.2.2.1,h.2.2.2,.inl ⟨e1,rfl⟩,.inr ⟨k',e2⟩⟩
   ·rcases z4d h hhi with ⟨e2,h⟩ | ⟨k',j',e2,h⟩
    ·exact ⟨j,n,h.1,h.2.1,h.2.2.1,h.2.2.2,.inr ⟨k,e1⟩,.inl ⟨e2,rfl⟩⟩
    ·exact ⟨j,j',h.1,h.2.1,h.2.2.1,h.2.2.2,.inr ⟨k,e1⟩,.inr ⟨k',e2⟩⟩
  obtain ⟨l,hh,h0,h1,h2,hk,hlo',hhi'⟩:=cases2
  obtain ⟨l,rfl⟩:=Int.eq_ofNat_of_zero_le h0
  obtain ⟨hh,rfl⟩:=Int.eq_ofNat_of_zero_le (show 0≤hh by omega)
  have hlh:l≤hh:=by omega
  have hhn:hh≤n:=by omega
  have go:∀(A:Option Addr) (cap:Nat),n≤cap→x'=.slice A n cap→
    (Instr.sliceAt t x' lo' hi' none).run P w=.ok (.slice (if cap=l then A else A.map (·.add (l*sz))) (hh-l) (cap-l)) w:=by
   intro A cap hcap hx'
   subst hx'
   have c1:hh≤cap:=by omega
   have c2:(hh:Int)≤(cap:Int):=by omega
   have c3:(l:Int)≤(hh:Int):=by omega
   rcases hlo' with ⟨rfl,e1⟩ | ⟨k,rfl⟩<;>rcases hhi' with ⟨rfl,e2⟩ | ⟨k',rfl⟩
   ·obtain rfl:l=0:=by omega
    obtain rfl:hh=n:=by omega
    simp [Instr.sliceAt,Instr.slice,run_underlying hu,Instr.sliceBounds,z1r hsz]
   ·obtain rfl:l=0:=by omega
    simp [Instr.sliceAt,Instr.slice,run_underlying hu,Instr.sliceBounds,Instr.sliceBound,asIntOf,z1r hsz,c1,c2]
   ·obtain rfl:hh=n:=by omega
    simp [Instr.sliceAt,Instr.slice,run_underlying hu,Instr.sliceBounds,Instr.sliceBound,asIntOf,z1r hsz,c3,hlh]
   ·simp [Instr.sliceAt,Instr.slice,run_underlying hu,Instr.sliceBounds,Instr.sliceBound,asIntOf,z1r hsz,c1,c2,c3,hlh]
  have hsub:((hh:Int)-(l:Int)).toNat=hh-l:=by omega
  rw [hsub] at hk
  simp only [Int.toNat_natCast] at hk
  cases hx with
  | snil=>
   have:=go none 0 (Nat.le_refl _) rfl
   refine .plain hk this ?_
   obtain rfl:hh=0:=by omega
   obtain rfl:l=0:=by omega
   exact .snil
  | slice b off _ _ c base s cap hb g1 g2=>
   have:=go (some ⟨c,base+off,none⟩) cap g1 rfl
   refine .plain hk this ?_
   by_cases hc:cap=l
   ·rw [if_pos hc]
    have:hh-l=0:=by omega
    rw [this]
    exact .sempty _ _ _ _
   ·rw [if_neg hc]
    simp only [Option.map_some,z3a,Nat.add_assoc]
    exact .slice b (off+l*sz) (hh-l) 0 c base s (cap-l) hb (by omega) (fun h=>absurd h (by omega))
  | sempty b off a' cap=>
   have:=go (some a') cap (Nat.zero_le _) rfl
   refine .plain hk this ?_
   obtain rfl:hh=0:=by omega
   obtain rfl:l=0:=by omega
   have:∀(A:Option Addr),(if cap=0 then some a' else A)=A∨(if cap=0 then some a' else A)=some a':=by intro A;split<;>simp
   simp only [Option.map_some]
   split
   ·exact .sempty _ _ _ _
   ·exact .sempty _ _ _ _
 ·rename_i s hu
  obtain rfl:mx'=none:=by cases mx' with | none=>rfl | some b=>exact hmx.elim
  cases hx
  have cases2:∃l hh:Int,0≤l∧l≤hh∧hh≤s.size∧K (.string (s.extract l.toNat hh.toNat))∧
    ((lo'=none∧l=0)∨∃k,lo'=some (.int k l))∧((hi'=none∧hh=s.size)∨∃k,hi'=some (.int k hh)):=by
   rcases z4d h hlo with ⟨e1,h⟩ | ⟨k,j,e1,h⟩
   ·rcases z4d h hhi with ⟨e2,h⟩ | ⟨k',j',e2,h⟩
    ·exact ⟨0,_,h.1,h.2.1,h.2.2.1,h.2.2.2,.inl ⟨e1,rfl⟩,.inl ⟨e2,rfl⟩⟩
    ·exact ⟨0,j',h.1,h.2.1,h.2.2.1,h.2.2.2,.inl ⟨e1,rfl⟩,.inr ⟨k',e2⟩⟩
   ·rcases z4d h hhi with ⟨e2,h⟩ | ⟨k',j',e2,h⟩
    ·exact ⟨j,_,h.1,h.2.1,h.2.2.1,h.2.2.2,.inr ⟨k,e1⟩,.inl ⟨e2,rfl⟩⟩
    ·exact ⟨j,j',h.1,h.2.1,h.2.2.1,h.2.2.2,.inr ⟨k,e1⟩,.inr ⟨k',e2⟩⟩
  obtain ⟨l,hh,h0,h1,h2,hk,hlo',hhi'⟩:=cases2
  obtain ⟨l,rfl⟩:=Int.eq_ofNat_of_zero_le h0
  obtain ⟨hh,rfl⟩:=Int.eq_ofNat_of_zero_le (show 0≤hh by omega)
  simp only [Int.toNat_natCast] at hk
  refine .plain hk ?_ (.string _)
  have c1:hh≤s.size:=by omega
  have c2:l≤hh:=by omega
  rcases hlo' with ⟨rfl,e1⟩ | ⟨k,rfl⟩<;>rcases hhi' with ⟨rfl,e2⟩ | ⟨k',rfl⟩
  ·obtain rfl:l=0:=by omega
   obtain rfl:hh=s.size:=by omega
   simp [Instr.sliceAt,Instr.slice,run_underlying hu,Instr.sliceBounds]
  ·obtain rfl:l=0:=by omega
   simp [Instr.sliceAt,Instr.slice,run_underlying hu,Instr.sliceBounds,Instr.sliceBound,asIntOf,c1]
  ·obtain rfl:hh=s.size:=by omega
   simp [Instr.sliceAt,Instr.slice,run_underlying hu,Instr.sliceBounds,Instr.sliceBound,asIntOf,c2]
  ·simp [Instr.sliceAt,Instr.slice,run_underlying hu,Instr.sliceBounds,Instr.sliceBound,asIntOf,c1,c2]
 ·exact h.elim
end
end Go.Proofs.Ytbnplefohfamnaa.Ai
