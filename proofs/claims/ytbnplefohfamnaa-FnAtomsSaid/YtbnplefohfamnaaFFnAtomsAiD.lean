/- The abstract machine and the world: operations on memory. -/
import Derived.Test.YtbnplefohfamnaaFFnAtomsAiC
set_option linter.unusedSimpArgs false
set_option linter.unusedVariables false
namespace Go.Proofs.Ytbnplefohfamnaa.Ai
open Go Go.RowKit

def HOut (P:Program) (B0:Nat) (ρ:Ren) (s:Sem Value) (w:World) (K:Value→zd→Prop):Prop:=
 ∃v H',K v H'∧∃v' w' ρ',s.run P w=.ok v' w'∧ρ <+:ρ'∧HR B0 ρ' H' w'∧VR ρ' v v'∧Below B0 w w'

theorem HOut.of {P:Program} {B0:Nat} {ρ:Ren} {s:Sem Value} {w:World} {H:zd} {K:Value→zd→Prop} (hr:HR B0 ρ H w) (h:VOut P ρ s w (K · H)):HOut P B0 ρ s w K:=by
 obtain ⟨v,hk,v',w',h1,h2,h3⟩:=h
 exact ⟨v,H,hk,v',w',ρ,h1,List.prefix_refl _,hr.drew h3,h2,h3.below _⟩

section
variable {P:Program} {ρ:Ren} {w:World} {B0:Nat} {H:zd}

theorem zpp {t:TypeId} {i:TypeInfo} (h:P.info? t=some i) (w:World):(typeInfo t).run P w=.ok i w:=by
 simp [typeInfo,h]
theorem z1r {t:TypeId} {n:Nat} (h:z6q P t=some n) (w:World):(sizeOf t).run P w=.ok n w:=by
 unfold z6q at h
 obtain ⟨i,hi,rfl⟩:=Option.map_eq_some_iff.1 h
 simp [sizeOf,zpp hi]
theorem zh2 {t:TypeId} {z:Value} (h:z8w P t=some z) (w:World):(zeroValue t).run P w=.ok z w:=by
 unfold z8w at h
 obtain ⟨i,hi,hz⟩:=Option.bind_eq_some_iff.1 h
 simp [zeroValue,zpp hi,hz]
theorem zh0 {t:TypeId} {b:Bool} (h:zot P t=some b) (w:World):(isAgg t).run P w=.ok b w:=by
 unfold zot at h
 unfold isAgg
 split at h
 ·rename_i fs hu;cases h;simp [run_underlying hu]
 ·rename_i n e hu;cases h;simp [run_underlying hu]
 ·rename_i d h1 h2 hu;cases h
  rw [Sem.run_bind,run_underlying hu]
  simp only [Result.andThen_ok]
  rfl
 ·cases h

theorem zk4 {z:Value} {K:Value→Prop} (h:zdm z K):∃v,K v:=by
 unfold zdm at h
 split at h
 ·obtain ⟨a,h⟩:=h;exact ⟨_,h⟩
 ·obtain ⟨a,h⟩:=h;exact ⟨_,h⟩
 ·obtain ⟨a,h⟩:=h;exact ⟨_,h⟩
 ·obtain ⟨a,b,h⟩:=h;exact ⟨_,h⟩
 ·obtain ⟨a,h⟩:=h;exact ⟨_,h⟩
 ·obtain ⟨a,h⟩:=h;exact ⟨_,h⟩
 ·obtain ⟨a,b,c,h⟩:=h;exact ⟨_,h⟩
 ·exact h
theorem zrz {zs:List Value} {K:List Value→Prop} (h:zco zs K):∃l,K l:=by
 induction zs generalizing K with
 | nil=>exact ⟨[],h⟩
 | cons z zs ih=>
  obtain ⟨v,h⟩:=zk4 h
  obtain ⟨l,h⟩:=ih h
  exact ⟨_,h⟩

theorem z3a (b off n:Nat):Addr.add ⟨b,off,none⟩ n=⟨b,off+n,none⟩:=by
 unfold Addr.add;split
 ·rename_i h;subst h;rfl
 ·rfl

theorem zk6 {t:TypeId} {x x':Value} {K:Value→Prop} (hr:HR B0 ρ H w) (h:z9b P t x H K) (hx:VR ρ x x'):
  ∃v,K v∧∃c v',x'=.pointer (some c)∧(loadVar t c).run P w=.ok v' w∧VR ρ v v':=by
 cases hx<;>simp only [z9b] at h<;>try exact h.elim
 rename_i b off c base sz hb
 split at h
 ·rename_i n z h1 h2 h3
  obtain ⟨l,hl,hk⟩:=zrz h
  obtain ⟨l',hv,hlen,hc⟩:=hr.cells hl hb
  refine ⟨_,hk,_,.agg l'.toArray,rfl,?_,VRs.agg (xs:=l.toArray) (ys:=l'.toArray) (by simpa using hv)⟩
  have hcs:(loadCells ⟨c,base+off,none⟩ (n+1)).run P w=.ok l'.toArray w:=by
   rw [←hlen]
   exact run_loadCells_list w _ _ fun j v hj=>by rw [z3a];exact hc j v hj
  simp only [Nat.succ_eq_add_one] at h2
  simp [loadVar,zh0 h1,z1r h2,hcs]
 ·rename_i z h1 h2 h3
  obtain ⟨v,hl,hk⟩:=zk4 h
  obtain ⟨v',hc,hv⟩:=hr.cell hl hb
  refine ⟨_,hk,_,v',rfl,?_,hv⟩
  simp [loadVar,zh0 h1,hc]
 ·exact h.elim
theorem zwh {t:TypeId} {x x':Value} {K:Value→Prop} (hr:HR B0 ρ H w) (h:z9b P t x H K) (hx:VR ρ x x'):VOut P ρ (Instr.loadAt t x') w K:=by
 obtain ⟨v,hk,c,v',rfl,h1,h2⟩:=zk6 (P:=P) hr h hx
 exact .plain hk (by simp [Instr.loadAt,Instr.sureAddr,h1]) h2

theorem zfo (cs cs':List Value):∀(off:Nat) (H:zd) (w:World) (b:Nat),HR B0 ρ H w→isOwn H b→(∃l,rdN H b off cs.length=some l)→VRs ρ cs cs'→cs.all isCell=true→
  ∀c base sz,ρ[b]? =some (c,base,sz)→∀i a,Addr.add a i=⟨c,base+off,none⟩→(∀j,Addr.add a (i+j)=⟨c,base+off+j,none⟩)→
  ∃w',(storeCells a cs' i).run P w=.ok () w'∧HR B0 ρ (setN H b off cs) w'∧Below B0 w w':=by
 induction cs generalizing cs' with
 | nil=>
  intro off H w b hr ho hl hv hc c base sz hb i a ha haj
  rw [hv.unnil]
  exact ⟨w,rfl,hr,.refl _ _⟩
 | cons x cs ih=>
  intro off H w b hr ho hl hv hc c base sz hb i a ha haj
  obtain ⟨y,ys,rfl,h1,h2⟩:=hv.uncons
  obtain ⟨l,hl⟩:=hl
  obtain ⟨blk,hbk,hn,rfl⟩:=z5i hl
  obtain ⟨blk',hbk',hown⟩:=ho
  rw [hbk] at hbk';cases hbk'
  simp only [List.all_cons,Bool.and_eq_true] at hc
  simp only [List.length_cons] at hn
  obtain ⟨hr2,⟨u,hu⟩,hfz,hbel⟩:=hr.store hbk hown (show off<blk.cells.length by omega) hb h1 hc.1
  have hset:setC H b off x=H.set b (some {blk with cells:=blk.cells.set off x}):=by simp [setC,hbk]
  have hlt:b<H.length:=(List.getElem?_eq_some_iff.1 hbk).1
  have hnew:(setC H b off x)[b]? =some (some {blk with cells:=blk.cells.set off x}):=by
   rw [hset,List.getElem?_set];simp [hlt]
  obtain ⟨w',e1,e2,e3⟩:=ih ys (off+1) (setC H b off x) (w.setCell ⟨c,base+off,none⟩ y) b hr2 ⟨_,hnew,hown⟩
   ⟨_,by simp only [rdN,rdB,hnew,Option.bind_some,List.length_set];rw [if_pos (by omega)]⟩ h2 hc.2 c base sz hb (i+1) a
   (by have:=haj 1;rw [show base+(off+1)=base+off+1 by omega];exact this)
   (fun j=>by have:=haj (1+j);rw [show i+1+j=i+(1+j) by omega,this];congr 1;omega)
  refine ⟨w',?_,by simpa [setN] using e2,hbel.trans e3⟩
  have hcell:y.oneCell'=true:=by rw [zcr,h1.isCell];exact hc.1
  simp only [storeCells,Sem.run_bind,ha,run_store P w _ y _ hcell,hu,hfz,Bool.false_eq_true,if_false,Result.andThen_ok,e1]

theorem zsh {t:TypeId} {x x' v v':Value} {K:zd→Prop} (hr:HR B0 ρ H w) (h:zpt P t x v H K) (hx:VR ρ x x') (hv:VR ρ v v'):
  ∃H' w',K H'∧(Instr.storeAt t x' v').run P w=.ok () w'∧HR B0 ρ H' w'∧Below B0 w w':=by
 cases hx<;>simp only [zpt] at h<;>try exact h.elim
 rename_i b off c base sz hb
 split at h
 ·rename_i n hn
  obtain ⟨hchk,ho,⟨l,hl⟩,hk⟩:=z1d h
  simp only [Bool.and_eq_true] at hchk
  have hsz:v.cells.size=n:=Nat.eq_of_beq_eq_true hchk.1
  have hcs:=hv.cells
  have hsz':v'.cells.size=n:=by have:=hcs.1;simp at this;omega
  obtain ⟨w',e1,e2,e3⟩:=zfo (P:=P) v.cells.toList v'.cells.toList off H w b hr ho ⟨l,by simpa [hsz] using hl⟩ hcs hchk.2 c base sz hb 0 ⟨c,base+off,none⟩ rfl
   (fun j=>by rw [z3a,Nat.zero_add])
  refine ⟨setN H b off v.cells.toList,w',?_,?_,e2,e3⟩
  ·cases v<;>first | exact hk | (simpa [setN,Value.cells] using hk)
  ·simp [Instr.storeAt,Instr.sureAddr,storeVar,z1r hn,hsz',e1]
 ·exact h.elim

theorem zoy {e:TypeId} {cells:List Value} {arr:Array Value} {K:Value→zd→Prop} (hr:HR B0 ρ H w) (h:newK cells H K) (hv:VRs ρ cells arr.toList):
  HOut P B0 ρ (do pure (.pointer (some (←newRow e arr)))) w K:=by
 obtain ⟨hc,hk⟩:=z1d h
 have hlen:cells.length=arr.size:=by simpa using hv.1
 refine ⟨_,_,hk,.pointer (some ⟨w.heap.size,0,none⟩),w.alloc (.cells arr e),_,by simp [newRow],List.prefix_append _ _,hr.alloc (by omega) ?_ hc,?_,Below.alloc' hr _⟩
 ·rw [List.take_of_length_le (by simp;omega)];exact hv
 ·have:=VR.ptr (ρ:=ρ++[(w.heap.size,0,arr.size)]) H.length 0 w.heap.size 0 arr.size (by rw [hr.len];simp)
  simpa using this

theorem zdf {s:TypeId} {x x':Value} {f:Nat} {K:Value→Prop} (h:z5r P s x f K) (hx:VR ρ x x'):VOut P ρ (Instr.fieldAt s x' f) w K:=by
 unfold z5r at h
 split at h
 ·rename_i fields b off hu
  split at h
  ·rename_i fd hf
   split at h
   ·rename_i n hn
    cases hx with
    | ptr _ _ c base sz hb=>
     refine .plain h ?_ (.ptr b (off+fd.offset) c base sz hb)
     rw [←Nat.add_assoc]
     simp [Instr.fieldAt,run_underlying hu,hf,Instr.sureAddr,fieldPlace,z1r hn,z3a]
   ·exact h.elim
  ·exact h.elim
 ·exact h.elim

theorem zwz {t:TypeId} {cs cs':Array Value} {off:Nat} {K:Value→Prop} (h:zwy P t cs off K) (hv:VRs ρ cs.toList cs'.toList):VOut P ρ (part t cs' off) w K:=by
 unfold zwy at h
 split at h
 ·rename_i n h1 h2
  refine .plain h (v':=.agg (cs'.extract off (off+n))) (by simp [part,zh0 h1,z1r h2]) ?_
  refine VRs.agg ?_
  rw [Array.toList_extract,Array.toList_extract]
  exact (hv.drop _).take _
 ·rename_i n h1
  split at h
  ·rename_i v hc
   obtain ⟨v',a1,a2⟩:=hv.get (i:=off) (x:=v) (by simpa using hc)
   have a1':cs'[off]? =some v':=by simpa using a1
   exact .plain h (by simp [part,zh0 h1,a1']) a2
  ·exact h.elim
 ·exact h.elim

theorem zrj {s:TypeId} {x x':Value} {f:Nat} {K:Value→Prop} (h:zjo P s x f K) (hx:VR ρ x x'):VOut P ρ (Instr.field s x' f) w K:=by
 unfold zjo at h
 split at h
 ·rename_i fields cs hu
  split at h
  ·rename_i fd hf
   cases hx with
   | agg _ ys h1 h2=>
    obtain ⟨v,hk,v',w',a1,a2,a3⟩:=zwz (w:=w) h (VRs.arr h1 h2)
    refine ⟨v,hk,v',w',?_,a2,a3⟩
    simp [Instr.field,run_underlying hu,hf,asAgg,a1]
  ·exact h.elim
 ·exact h.elim

theorem zdl {t:TypeId} {x x' i i':Value} {K:Value→Prop} (h:z5s P t x i K) (hx:VR ρ x x') (hi:VR ρ i i'):VOut P ρ (Instr.indexAt t x' i') w K:=by
 unfold z5s at h
 split at h
 ·rename_i e a n esz k j hu
  split at h
  ·rename_i sz hs
   obtain ⟨h0,hlt,b,off,rfl,hk⟩:=h
   cases hi
   cases hx with
   | slice _ _ _ _ c base s cap hb h1 h2=>
    refine .plain hk ?_ (.ptr b (off+j.toNat*sz) c base s hb)
    rw [←Nat.add_assoc]
    simp [Instr.indexAt,asIntOf,run_underlying hu,h0,hlt,z1r hs,z3a]
   | sempty _ _ a' cap=>exact absurd hlt (by simp;omega)
  ·exact h.elim
 ·rename_i n e b off k j hu
  split at h
  ·rename_i sz hs
   obtain ⟨h0,hlt,hk⟩:=h
   cases hi
   cases hx with
   | ptr _ _ c base s hb=>
    refine .plain hk ?_ (.ptr b (off+j.toNat*sz) c base s hb)
    rw [←Nat.add_assoc]
    simp [Instr.indexAt,asIntOf,run_underlying hu,h0,hlt,z1r hs,z3a,Instr.sureAddr]
  ·exact h.elim
 ·exact h.elim

theorem zrw {t:TypeId} {x x' i i':Value} {K:Value→Prop} (h:zk0 P t x i K) (hx:VR ρ x x') (hi:VR ρ i i'):VOut P ρ (Instr.index t x' i') w K:=by
 unfold zk0 at h
 split at h
 ·rename_i s k j hu
  obtain ⟨c,h0,hc,hk⟩:=h
  cases hi;cases hx
  exact .plain hk (by simp [Instr.index,asIntOf,run_underlying hu,h0,hc]) (.int _ _)
 ·exact h.elim

theorem z10y {t:TypeId} {x x':Value} {ts:Array TypeId} {ty:TypeId} {K:Value→Prop} (h:lenK P t x K) (hx:VR ρ x x') (ht:ts[0]? =some t):VOut P ρ (Builtin.len_ ts ty #[x']) w K:=by
 unfold lenK at h
 split at h
 ·rename_i s hu
  cases hx
  exact .plain h (by simp [Builtin.len_,ht,run_underlying hu,goInt]) (.int _ _)
 ·rename_i e a n c hu
  cases hx with
  | snil=>exact .plain h (by simp [Builtin.len_,ht,run_underlying hu,goInt]) (.int _ _)
  | slice=>exact .plain h (by simp [Builtin.len_,ht,run_underlying hu,goInt]) (.int _ _)
  | sempty=>exact .plain h (by simp [Builtin.len_,ht,run_underlying hu,goInt]) (.int _ _)
 ·exact h.elim

theorem z3m {mx:Bool} {x x' y y':Value} {K:Value→Prop} (h:z5m mx x y K) (hx:VR ρ x x') (hy:VR ρ y y'):
  VOut P ρ (bif mx then Builtin.max2 x' y' else Builtin.min2 x' y') w K:=by
 unfold z5m at h
 split at h
 ·cases hx;cases hy
  cases mx
  ·exact .plain h rfl (.int _ _)
  ·exact .plain h rfl (.int _ _)
 ·rename_i k a k' b
  obtain ⟨hk,h9⟩:=z1d h
  obtain rfl:=zg8 hk
  cases hx with
  | float _ _ a' e=>
  cases hy with
  | float _ _ b' e'=>
  subst e;subst e'
  have ho:=z5c k a' b'
  cases hord:k.format.order a' b' with
  | none=>
   rw [hord] at ho
   cases mx
   ·refine ⟨_,h9,.float k _,w.drew,by simp [Builtin.min2,hord,Question.forced];rfl,.float k _ _ ?_,.drew w⟩
    simp only [cond_false,fmin,ho];exact (z9m _ _ _ _ _).symm
   ·refine ⟨_,h9,.float k _,w.drew,by simp [Builtin.max2,hord,Question.forced];rfl,.float k _ _ ?_,.drew w⟩
    simp only [cond_true,fmax,ho];exact (z9m _ _ _ _ _).symm
  | some o=>
   rw [hord] at ho
   have hneg:(k.decode (cn k a')).neg=(k.decode a').neg:=by
    have:(k.decode a').isNaN=false:=by
     cases hn:(k.decode a').isNaN
     ·rfl
     ·obtain ⟨s,t,e⟩:=z1i _ hn
      have e':k.format.read a'=.nan s t:=e
      simp [Ieee.Format.order,e',z3r] at hord
    rw [zo this]
   cases mx
   ·cases o
    ·exact .plain h9 (by simp [Builtin.min2,hord];rfl) (.float k _ _ (by simp [fmin,ho]))
    ·exact .plain h9 (by simp [Builtin.min2,hord];rfl) (.float k _ _ (by simp only [cond_false,fmin,ho,hneg];split<;>rfl))
    ·exact .plain h9 (by simp [Builtin.min2,hord];rfl) (.float k _ _ (by simp [fmin,ho]))
   ·cases o
    ·exact .plain h9 (by simp [Builtin.max2,hord];rfl) (.float k _ _ (by simp [fmax,ho]))
    ·exact .plain h9 (by simp [Builtin.max2,hord];rfl) (.float k _ _ (by simp only [cond_true,fmax,ho,hneg];split<;>rfl))
    ·exact .plain h9 (by simp [Builtin.max2,hord];rfl) (.float k _ _ (by simp [fmax,ho]))
 ·exact h.elim

end
end Go.Proofs.Ytbnplefohfamnaa.Ai
