/- Allotments in one drawn region: numbers that are laid by beforehand. -/
import Derived.Test.YthheoefadijhdaaGreatFFnExactReadMarksAiG
set_option linter.unusedSimpArgs false
set_option linter.unusedVariables false
namespace Go.Proofs.YthheoefadijhdaaGreat.Ai
open Go Go.RowKit Go.Conc

def Rle (ρ ρ':Ren):Prop:=ρ.length=ρ'.length∧∀(b c base sz:Nat),ρ[b]? =some (c,base,sz)→∃sz',ρ'[b]? =some (c,base,sz')∧sz≤sz'
theorem Rle.refl (ρ:Ren):Rle ρ ρ:=⟨rfl,fun b c base sz h=>⟨sz,h,Nat.le_refl _⟩⟩
theorem Rle.set {ρ:Ren} {a c base s0 s1:Nat} (h:ρ[a]? =some (c,base,s0)) (hs:s0≤s1):Rle ρ (ρ.set a (c,base,s1)):=by
 refine ⟨by simp,fun b c' base' sz hb=>?_⟩
 rw [List.getElem?_set]
 split
 ·rename_i e
  subst e
  rw [hb] at h
  obtain ⟨rfl,rfl,rfl⟩:c'=c∧base'=base∧sz=s0:=by simpa using h
  have:=(List.getElem?_eq_some_iff.1 hb).1
  exact ⟨s1,by simp [this],hs⟩
 ·exact ⟨sz,hb,Nat.le_refl _⟩
theorem VR.rle {ρ ρ':Ren} (hp:Rle ρ ρ') {v v':Value} (h:VR ρ v v'):VR ρ' v v':=by
 induction h with
 | bool b=>exact .bool b
 | int k n=>exact .int k n
 | float k a b e=>exact .float k a b e
 | complex k a a' b b' e e'=>exact .complex k a a' b b' e e'
 | string s=>exact .string s
 | pnil=>exact .pnil
 | ptr b off c base sz hb=>obtain ⟨sz',h1,_⟩:=hp.2 _ _ _ _ hb;exact .ptr b off c base sz' h1
 | snil=>exact .snil
 | slice b off len esz c base sz cap hb h1 h2=>obtain ⟨sz',g1,g2⟩:=hp.2 _ _ _ _ hb;exact .slice b off len esz c base sz' cap g1 h1 fun h=>Nat.le_trans (h2 h) g2
 | sempty b off a cap=>exact .sempty b off a cap
 | nilFunc=>exact .nilFunc
 | nilIface=>exact .nilIface
 | func fn xs ys as bs h1 _ h2 _ ih1 ih2=>exact .func fn xs ys as bs h1 ih1 h2 ih2
 | agg xs ys h1 _ ih=>exact .agg xs ys h1 ih
 | tuple xs ys h1 _ ih=>exact .tuple xs ys h1 ih
theorem VRs.rle {ρ ρ':Ren} (hp:Rle ρ ρ') {v v':List Value} (h:VRs ρ v v'):VRs ρ' v v':=⟨h.1,fun i x y a b=>(h.2 i x y a b).rle hp⟩

theorem HR.pad {Z:Zone} {ρ:Ren} {H:zn} {w:World} (h:HR Z ρ H w) (l:Ren):HR Z (ρ++l) (H++List.replicate l.length none) w:=by
 have get:∀b blk,(H++List.replicate l.length none)[b]? =some (some blk)→H[b]? =some (some blk)∧b<H.length:=by
  intro b blk hb
  by_cases hlt:b<H.length
  ·rw [List.getElem?_append_left hlt] at hb;exact ⟨hb,hlt⟩
  ·rw [List.getElem?_append_right (by omega),List.getElem?_replicate] at hb
   split at hb<;>simp at hb
 have getρ:∀b x,b<H.length→(ρ++l)[b]? =some x→ρ[b]? =some x:=fun b x hlt hx=>by rwa [List.getElem?_append_left (by rw [←h.len];exact hlt)] at hx
 have hp:ρ <+:ρ++l:=List.prefix_append _ _
 refine ⟨by simp [h.len],h.fresh,fun b blk hb c base sz hc=>?_,fun b1 b2 blk1 blk2 hb1 hb2 hne ho c1 p1 s1 c2 p2 s2 g1 g2=>?_⟩
 ·obtain ⟨hb',hlt⟩:=get b blk hb
  obtain ⟨arr,e,fz,q1,q2,q3,q4,q5⟩:=h.live b blk hb' c base sz (getρ b _ hlt hc)
  exact ⟨arr,e,fz,q1,q2,q3,fun i v hv=>by obtain ⟨v',e1,e2,e3⟩:=q4 i v hv;exact ⟨v',e1,e2.mono hp,e3⟩,q5⟩
 ·obtain ⟨hb1',hl1⟩:=get b1 blk1 hb1
  obtain ⟨hb2',hl2⟩:=get b2 blk2 hb2
  exact h.sep b1 b2 blk1 blk2 hb1' hb2' hne ho c1 p1 s1 c2 p2 s2 (getρ b1 _ hl1 g1) (getρ b2 _ hl2 g2)

theorem HR.fill {Z:Zone} {ρ:Ren} {H:zn} {w:World} (h:HR Z ρ H w) {a s0:Nat} {cells:List Value} {arr:Array Value} {e:TypeId} (hH:H[a]? =some none) (hρ:ρ[a]? =some (w.heap.size,0,s0)) (hs:s0≤arr.size)
  (hle:cells.length≤arr.size) (hv:VRs ρ cells (arr.toList.take cells.length)) (hc:cells.all isCell=true):
  HR Z (ρ.set a (w.heap.size,0,arr.size)) (H.set a (some {cells:=cells,own:=true})) (w.alloc (.cells arr e)):=by
 have hp:Rle ρ (ρ.set a (w.heap.size,0,arr.size)):=.set hρ hs
 have old:∀k,k<w.heap.size→(w.alloc (.cells arr e)).heap[k]? =w.heap[k]? :=fun k hk=>Below.heap_alloc _ _ _ hk
 have lt:∀(b:Nat) (blk:Blk) (c base sz:Nat),H[b]? =some (some blk)→ρ[b]? =some (c,base,sz)→c<w.heap.size:=by
  intro b blk c base sz hb hr
  obtain ⟨arr',e',fz,hh,_⟩:=h.live b blk hb c base sz hr
  exact (Array.getElem?_eq_some_iff.1 hh).1
 have haH:a<H.length:=(List.getElem?_eq_some_iff.1 hH).1
 have haρ:a<ρ.length:=(List.getElem?_eq_some_iff.1 hρ).1
 have get:∀b blk c base sz,(H.set a (some {cells:=cells,own:=true}))[b]? =some (some blk)→(ρ.set a (w.heap.size,0,arr.size))[b]? =some (c,base,sz)→
   (b≠a∧H[b]? =some (some blk)∧ρ[b]? =some (c,base,sz))∨(b=a∧blk={cells:=cells,own:=true}∧c=w.heap.size∧base=0∧sz=arr.size):=by
  intro b blk c base sz hb hr
  by_cases hba:b=a
  ·subst hba
   rw [List.getElem?_set_self haH] at hb
   rw [List.getElem?_set_self haρ] at hr
   refine .inr ⟨rfl,?_⟩
   simp at hb hr
   exact ⟨hb.symm,hr.1.symm,hr.2.1.symm,hr.2.2.symm⟩
  ·rw [List.getElem?_set_ne (fun e=>hba e.symm)] at hb hr
   exact .inl ⟨hba,hb,hr⟩
 refine ⟨by simp [h.len],fun c hc=>h.fresh c (by rw [World.size_alloc] at hc;omega),?_,?_⟩
 ·intro b blk hb c base sz hr
  rcases get b blk c base sz hb hr with ⟨hba,hb',hr'⟩ | ⟨rfl,rfl,rfl,rfl,rfl⟩
  ·obtain ⟨arr',e',fz,hh,h1,h2,h3,h4⟩:=h.live b blk hb' c base sz hr'
   refine ⟨arr',e',fz,by rw [old _ (lt _ _ _ _ _ hb' hr')];exact hh,h1,h2,fun i v hi=>?_,h4⟩
   obtain ⟨v',a1,a2,a3⟩:=h3 i v hi
   exact ⟨v',a1,a2.rle hp,a3⟩
  ·refine ⟨arr,e,(0,0),by show (w.heap.push _)[w.heap.size]? =_;simp,hle,by simp,fun i v hi=>?_,(h.fresh _ (Nat.le_refl _)).1,fun _=>⟨(h.fresh _ (Nat.le_refl _)).2,rfl⟩⟩
   obtain ⟨v',a1,a2⟩:=hv.get hi
   have hi':i<cells.length:=(List.getElem?_eq_some_iff.1 hi).1
   rw [List.getElem?_take,if_pos hi',Array.getElem?_toList] at a1
   refine ⟨v',by rw [Nat.zero_add];exact a1,a2.rle hp,?_⟩
   exact List.all_eq_true.1 hc v (List.mem_of_getElem? hi)
 ·intro b1 b2 blk1 blk2 hb1 hb2 hne ho c1 p1 s1 c2 p2 s2 hr1 hr2
  rcases get b1 blk1 c1 p1 s1 hb1 hr1 with ⟨h1,hb1',hr1'⟩ | ⟨rfl,rfl,rfl,rfl,rfl⟩<;>rcases get b2 blk2 c2 p2 s2 hb2 hr2 with ⟨h2,hb2',hr2'⟩ | ⟨rfl,rfl,rfl,rfl,rfl⟩
  ·exact h.sep b1 b2 blk1 blk2 hb1' hb2' hne ho c1 p1 s1 c2 p2 s2 hr1' hr2'
  ·have:=lt _ _ _ _ _ hb1' hr1';omega
  ·have:=lt _ _ _ _ _ hb2' hr2';omega
  ·exact absurd rfl hne

def AlO (P:Program) (ρ:Ren) (s:Sem Value) (w:World) (f:Nat→Value) (cells:List Value):Prop:=
 ∃(arr:Array Value) (e:TypeId) (v':Value),s.run P w=.ok v' (w.alloc (.cells arr e))∧cells.length≤arr.size∧VRs ρ cells (arr.toList.take cells.length)∧cells.all isCell=true∧
  (∀(ρ':Ren) (b:Nat),ρ'[b]? =some (w.heap.size,0,arr.size)→VR ρ' (f b) v')∧∀es,s.events P w es=es

section
variable {P:Program} {ρ:Ren} {w:World} {Z:Zone}
theorem z8w {b:Bool} {p:Prop} (h:b=true) (k:p):chk b p:=by subst h;exact k
theorem zy1 {e:TypeId} {cells:List Value} {arr:Array Value} {H:zn} {K:Value→zn→Prop} (h:newK cells H K) (hv:VRs ρ cells arr.toList):
  ∃f,(∀(H:zn) (K:Value→zn→Prop),newK cells H K↔K (f H.length) (H++[some {cells:=cells,own:=true}]))∧AlO P ρ (do pure (.pointer (some (←newRow e arr)))) w f cells:=by
 obtain ⟨hc,hk⟩:=z1c h
 have hlen:cells.length=arr.size:=by simpa using hv.1
 refine ⟨fun b=>.pointer (some ⟨b,0,none⟩),fun H K=>⟨fun q=>(z1c q).2,fun q=>z8w hc q⟩,arr,e,.pointer (some ⟨w.heap.size,0,none⟩),by simp [newRow],by omega,?_,hc,fun ρ' b hb=>?_,fun es=>by simp [newRow]⟩
 ·rw [List.take_of_length_le (by simp;omega)];exact hv
 ·have:=VR.ptr (ρ:=ρ') b 0 w.heap.size 0 arr.size hb
  simpa using this
theorem zic {t:TypeId} {n n' c c':Value} {H:zn} {K:Value→zn→Prop} (h:z3b P t n c H K) (hn:VR ρ n n') (hc:VR ρ c c'):
  ∃f cells,(∀(H:zn) (K:Value→zn→Prop),z3b P t n c H K↔K (f H.length) (H++[some {cells:=cells,own:=true}]))∧AlO P ρ (Instr.makeSlice t n' c') w f cells:=by
 unfold z3b at h
 split at h
 case h_2=>exact h.elim
 rename_i e k n k' c ht
 split at h
 case h_2=>exact h.elim
 rename_i sz by_ z hsz hby hz
 obtain ⟨hchk,h0,rfl,hmost,hk⟩:=z1c h
 cases hn;cases hc
 simp only [Bool.and_eq_true] at hchk
 have hby1:by_≤1024:=Nat.le_of_ble_eq_true hchk.1.1
 have hzs:z.cells.size=sz+1:=Nat.eq_of_beq_eq_true hchk.1.2
 obtain ⟨i,hi,hisz⟩:∃i,P.info? e=some i∧i.size=sz+1:=by
  unfold z5m at hsz;obtain ⟨i,hi,h2⟩:=Option.map_eq_some_iff.1 hsz;exact ⟨i,hi,h2⟩
 have hib:i.bytes=by_:=by unfold zjq at hby;rw [hi] at hby;simpa using hby
 have hiz:i.zero=some z:=by unfold z9u at hz;rw [hi] at hz;simpa using hz
 have hmost':n<4294967296:=hmost
 have hb:(i.bytes:Int)*n≤281474976710656:=by
  have h1:(i.bytes:Int)≤1024:=by omega
  have:(i.bytes:Int)*n≤1024*n:=Int.mul_le_mul_of_nonneg_right h1 h0
  omega
 have hrun:=run_make (P:=P) w t e i z ht hi hiz k k' n n h0 (Int.le_refl _) hb (by omega)
 have hcells:(madeCells z.cells (n.toNat*i.size)).toList=z1k z n.toNat:=by
  rw [hisz,←hzs];exact z6t z.cells n.toNat (by omega)
 have hall:(z1k z n.toNat).all z3u=true:=by
  unfold z1k
  rw [List.all_eq_true]
  intro v hv
  obtain ⟨l,hl,hv⟩:=List.mem_flatten.1 hv
  rw [List.mem_replicate] at hl
  rw [hl.2] at hv
  exact List.all_eq_true.1 hchk.2 v hv
 have hlen:(z1k z n.toNat).length=(madeCells z.cells (n.toNat*i.size)).size:=by rw [←hcells];simp
 refine ⟨fun b=>.slice (some ⟨b,0,none⟩) n.toNat (sz+1),z1k z n.toNat,fun H K=>?_,_,_,_,hrun,by omega,?_,?_,?_,fun es=>Conc.events_make w t e i z ht hi hiz k k' n n h0 (Int.le_refl _) hb (by omega) ?_ es⟩
 ·unfold z3b
  simp only [ht,hsz,hby,hz]
  constructor
  ·intro q;exact (z1c q).2.2.2.2
  ·intro q;exact z8w (by simp only [Bool.and_eq_true];exact hchk) ⟨h0,trivial,hmost,q⟩
 ·rw [hcells,List.take_length];exact .const hall
 ·rw [List.all_eq_true];intro v hv;exact zch (List.all_eq_true.1 hall v hv)
 ·intro ρ' b hb'
  have:=VR.slice (ρ:=ρ') b 0 n.toNat (sz+1) w.heap.size 0 _ n.toNat hb' (Nat.le_refl _) (fun _=>by rw [size_madeCells,hisz];omega)
  simpa using this
 ·rw [hib]
  have:n.toNat*by_≤4294967296*1024:=Nat.mul_le_mul (by omega) hby1
  omega
theorem zfi {t:TypeId} {len:Nat} {ps ps':List (Nat×Value)} {H:zn} {K:Value→zn→Prop} (h:z2g P t len ps H K)
  (hl:ps.length=ps'.length) (hp:∀(j:Nat) (x y:Nat×Value),ps[j]? =some x→ps'[j]? =some y→x.1=y.1∧VR ρ x.2 y.2):
  ∃f cells,(∀(H:zn) (K:Value→zn→Prop),z2g P t len ps H K↔K (f H.length) (H++[some {cells:=cells,own:=true}]))∧AlO P ρ (Instr.buildSlice t len ps'.toArray) w f cells:=by
 unfold z2g at h
 split at h
 case h_2=>exact h.elim
 rename_i e ht
 split at h
 case h_2=>exact h.elim
 rename_i sz z hsz hz
 obtain ⟨hchk,h⟩:=z1c h
 simp only [Bool.and_eq_true] at hchk
 split at h
 case h_2=>exact h.elim
 rename_i cells hf
 obtain ⟨hcell,hk⟩:=z1c h
 have hlim:len*(sz+1)≤1024:=Nat.le_of_ble_eq_true hchk.1.1
 have hzs:z.cells.size=sz+1:=Nat.eq_of_beq_eq_true hchk.1.2
 have hall:(z1k z len).all z3u=true:=by
  unfold z1k
  rw [List.all_eq_true]
  intro v hv
  obtain ⟨l,hl,hv⟩:=List.mem_flatten.1 hv
  rw [List.mem_replicate] at hl
  rw [hl.2] at hv
  exact List.all_eq_true.1 hchk.2 v hv
 have hmade:((Array.range (len*(sz+1))).map (z.cells[· % z.cells.size]!))=(z1k z len).toArray:=by
  have:=z6t z.cells len (by omega)
  apply Array.ext'
  rw [hzs] at this
  simpa [madeCells,z1k,hzs] using this
 obtain ⟨cells',hf',hv'⟩:=zn7 (ρ:=ρ) ps ps' (z1k z len).toArray (z1k z len).toArray cells (.const (by simpa using hall)) hl hp hf
 have hlen:cells.size=cells'.size:=by simpa using hv'.1
 have hsize:cells.size=len*(sz+1):=by
  have fsz:∀(ps:List (Nat×Value)) (A B:Array Value) (place:Nat→Option (Nat×Nat)),Instr.fill place A ps=some B→B.size=A.size:=by
   intro ps
   induction ps with
   | nil=>intro A B place h;simp [Instr.fill] at h;rw [h]
   | cons p ps ih=>
    intro A B place h
    obtain ⟨i,v⟩:=p
    simp only [Instr.fill] at h
    split at h
    ·cases h
    ·split at h
     ·cases h
     ·rw [ih _ _ _ h]
      have:∀(l:List (Value×Nat)) (A:Array Value) (off:Nat),(l.foldl (fun cs (x:Value×Nat)=>cs.setIfInBounds (off+x.2) x.1) A).size=A.size:=by
       intro l
       induction l with
       | nil=>intros;rfl
       | cons a l ih2=>intro A off;rw [List.foldl_cons,ih2];simp
      rw [←Array.foldl_toList]
      exact this _ _ _
  rw [fsz _ _ _ _ hf]
  rw [←hmade];simp
 have hrun:(Instr.buildSlice t len ps'.toArray).run P w=.ok (.slice (some ⟨w.heap.size,0,none⟩) len len) (w.alloc (.cells cells' e)):=by
  have hlim':¬(len*(sz+1) > 2 ^ 24):=by omega
  by_cases hn:len*(sz+1)=0
  ·have:len=0:=by rcases Nat.mul_eq_zero.1 hn with h | h<;>omega
   subst this
   have hz0:z1k z 0=[]:=rfl
   rw [hz0] at hf'
   simp [Instr.buildSlice,run_underlying ht,z1h hsz,hf',newRow,Array.range_zero']
  ·have hlim2:¬(16777216<len*(sz+1)):=by omega
   simp only [Instr.buildSlice,Sem.run_bind,run_underlying ht,Result.andThen_ok,z1h hsz,if_neg hlim',Sem.run_pure,if_neg hn,z5j hz,hmade,hf',newRow,run_newObj_alloc]
 have hev:∀es,(Instr.buildSlice t len ps'.toArray).events P w es=es:=by
  intro es
  have hlim':¬(len*(sz+1) > 2 ^ 24):=by omega
  by_cases hn:len*(sz+1)=0
  ·have:len=0:=by rcases Nat.mul_eq_zero.1 hn with h | h<;>omega
   subst this
   have hz0:z1k z 0=[]:=rfl
   rw [hz0] at hf'
   simp [Instr.buildSlice,run_underlying ht,z1h hsz,hf',newRow,Array.range_zero']
  ·simp only [Instr.buildSlice,Sem.run_bind,Sem.events_bind,run_underlying ht,events_underlying,Result.andThen_ok,Result.evThen_ok,z1h hsz,events_sizeOf,if_neg hlim',Sem.run_pure,Sem.events_pure,if_neg hn,z5j hz,events_zeroValue,hmade,hf',newRow,run_newObj_alloc,events_newObj]
 refine ⟨fun b=>.slice (some ⟨b,0,none⟩) len (sz+1),cells.toList,fun H K=>?_,_,_,_,hrun,by simp;omega,?_,hcell,?_,hev⟩
 ·unfold z2g
  simp only [ht,hsz,hz,hf]
  constructor
  ·intro q;exact (z1c (z1c q).2).2
  ·intro q;exact z8w (by simp only [Bool.and_eq_true];exact hchk) (z8w hcell q)
 ·rw [List.take_of_length_le (by simp;omega)];exact hv'
 ·intro ρ' b hb'
  have:=VR.slice (ρ:=ρ') b 0 len (sz+1) w.heap.size 0 cells'.size len hb' (Nat.le_refl _) (fun _=>by omega)
  simpa using this
end
end Go.Proofs.YthheoefadijhdaaGreat.Ai
set_option linter.unusedSimpArgs false
set_option linter.unusedVariables false
namespace Go.Proofs.YthheoefadijhdaaGreat.Ai
open Go Go.RowKit

def Fam (ρ0:Ren) (hs:List Nat) (ρ:Ren):Prop:=ρ.length=ρ0.length∧∀b,b ∉ hs→ρ[b]? =ρ0[b]?
theorem Fam.refl (ρ0:Ren) (hs:List Nat):Fam ρ0 hs ρ0:=⟨rfl,fun _ _=>rfl⟩
theorem Fam.old {ρ0 ρ:Ren} {hs:List Nat} {a:Nat} {x y:Nat×Nat×Nat} (h:Fam (ρ0.set a x) (hs.filter (· != a)) ρ) (ha:a ∈ hs):Fam ρ0 hs (ρ.set a y):=by
 refine ⟨by simpa using h.1,fun b hb=>?_⟩
 have hne:a≠b:=fun e=>hb (e ▸ ha)
 rw [List.getElem?_set_ne hne,h.2 b (fun q=>hb (List.mem_filter.1 q).1),List.getElem?_set_ne hne]
theorem Fam.at {ρ0 ρ:Ren} {hs:List Nat} {a:Nat} {x:Nat×Nat×Nat} (h:Fam (ρ0.set a x) (hs.filter (· != a)) ρ) (hl:a<ρ0.length):ρ[a]? =some x:=by
 rw [h.2 a (by simp),List.getElem?_set_self hl]

section
variable {P:Program} {ρ0:Ren} {w:World} {Z:Zone} {hs:List Nat} {H:zn}
theorem AlO.fam {s:Sem Value} {f:Nat→Value} {cells:List Value} {a:Nat} (h:∀ρ,Fam ρ0 hs ρ→AlO P ρ s w f cells) (hr:∀ρ,Fam ρ0 hs ρ→HR Z ρ H w) (ha:a ∈ hs) (hH:H[a]? =some none):
  ∃(arr:Array Value) (e:TypeId) (v':Value),s.run P w=.ok v' (w.alloc (.cells arr e))∧(∀es,s.events P w es=es)∧∀ρ,Fam (ρ0.set a (w.heap.size,0,arr.size)) (hs.filter (· != a)) ρ→
   HR Z ρ (H.set a (some {cells:=cells,own:=true})) (w.alloc (.cells arr e))∧VR ρ (f a) v'∧∃ρ',Fam ρ0 hs ρ'∧Rle ρ' ρ:=by
 obtain ⟨arr,e,v',hrun,hle,hv,hc,hf,hev⟩:=h ρ0 (.refl _ _)
 have hlen:a<ρ0.length:=by
  have:=(hr ρ0 (.refl _ _)).len
  have h2:=(List.getElem?_eq_some_iff.1 hH).1
  omega
 refine ⟨arr,e,v',hrun,hev,fun ρ hρ=>?_⟩
 have hat:=hρ.at hlen
 have hlt:a<ρ.length:=(List.getElem?_eq_some_iff.1 hat).1
 have hold:Fam ρ0 hs (ρ.set a (w.heap.size,0,0)):=hρ.old ha
 have hself:(ρ.set a (w.heap.size,0,0))[a]? =some (w.heap.size,0,0):=List.getElem?_set_self hlt
 have hback:(ρ.set a (w.heap.size,0,0)).set a (w.heap.size,0,arr.size)=ρ:=by
  rw [List.set_set]
  apply List.ext_getElem?
  intro i
  by_cases hi:a=i
  ·subst hi;rw [List.getElem?_set_self hlt,hat]
  ·rw [List.getElem?_set_ne hi]
 obtain ⟨arr2,e2,v2,hrun2,hle2,hv2,hc2,hf2,_⟩:=h _ hold
 have hsame:arr2=arr∧e2=e∧v2=v':=by
  rw [hrun] at hrun2
  injection hrun2 with h1 h2
  have h3:(w.alloc (.cells arr e)).heap[w.heap.size]? =(w.alloc (.cells arr2 e2)).heap[w.heap.size]? :=by rw [h2]
  have g:∀(x:Obj),(w.alloc x).heap[w.heap.size]? =some x:=by intro x;show (w.heap.push _)[w.heap.size]? =_;simp
  rw [g,g] at h3
  injection h3 with h3
  injection h3 with h4 h5
  exact ⟨h4.symm,h5.symm,h1.symm⟩
 obtain ⟨rfl,rfl,rfl⟩:=hsame
 have hfill:=HR.fill (e:=e2) (hr _ hold) hH hself (Nat.zero_le _) hle2 hv2 hc2
 rw [hback] at hfill
 refine ⟨hfill,hf ρ a hat,_,hold,?_⟩
 have:=Rle.set (ρ:=ρ.set a (w.heap.size,0,0)) (a:=a) hself (Nat.zero_le arr2.size)
 rw [hback] at this
 exact this
end
end Go.Proofs.YthheoefadijhdaaGreat.Ai
set_option linter.unusedSimpArgs false
set_option linter.unusedVariables false
namespace Go.Proofs.YthheoefadijhdaaGreat.Ai
open Go Go.RowKit

def app (H:zn):Option Nat→Option (Option Blk)→zn
 | some c,some e=>H.set c e
 | _,_=>H
def LocP (F:zn→(Value→zn→Prop)→Prop) (H:zn) (c:Option Nat) (e:Option (Option Blk)) (v:Value):Prop:=
 ∀H2:zn,(∀b,c=some b→H2[b]? =H[b]?)→∀K,K v (app H2 c e)→F H2 K
theorem LocP.other {F:zn→(Value→zn→Prop)→Prop} {H H':zn} {c:Option Nat} {e:Option (Option Blk)} {v:Value} (h:LocP F H c e v) (hb:∀b,c=some b→H'[b]? =H[b]?):LocP F H' c e v:=
 fun H2 h2 K k=>h H2 (fun b q=>(h2 b q).trans (hb b q)) K k
theorem zvf {H:zn} {c:Option Nat} {e:Option (Option Blk)} {b:Nat} (h:c≠some b∨e=none):(app H c e)[b]? =H[b]? :=by
 unfold app
 split
 ·rename_i c' e'
  rcases h with h | h
  ·rw [List.getElem?_set_ne (fun q=>h (by rw [q]))]
  ·cases h
 ·rfl
theorem zow {H:zn} {c c':Option Nat} {e e':Option (Option Blk)} (h:c≠c'∨e=none∨e'=none):app (app H c e) c' e'=app (app H c' e') c e:=by
 cases c<;>cases e<;>cases c'<;>cases e'<;>simp only [app]
 rcases h with h | h | h
 ·exact List.set_comm _ _ (fun q=>h (by rw [q]))
 ·cases h
 ·cases h

inductive PK where
 | free | load | al | store
 deriving DecidableEq
def z4d (o:Oper):PK:=
 match o.op with
 | .alloc _ | .box .. | .makeSlice .. | .buildSlice ..=>.al
 | .load ..=>.load
 | .store ..=>.store
 | _=>.free
def zrq (n a:Nat):PK→Option Nat→Option (Option Blk)→Prop
 | .free,c,e=>c=none∧e=none
 | .load,c,e=>(∃b,c=some b∧b<n)∧e=none
 | .al,c,e | .store,c,e=>c=some (n+a)∧e.isSome
section
variable (P:Program)
def opP (env:Env) (n a:Nat) (o:Oper) (ev:Operand→Value) (H:zn) (K:Value→zn→Prop):Prop:=
 match z4d o with
 | .al=>∃(f:Nat→Value) (cells:List Value),(∀(H:zn) (K:Value→zn→Prop),opK P env o ev H K↔K (f H.length) (H++[some {cells:=cells,own:=true}]))∧H[n+a]? =some none∧K (f (n+a)) (H.set (n+a) (some {cells:=cells,own:=true}))
 | _=>opK P env o ev H K
def zfy (env:Env) (n:Nat) (x:Nat×Oper) (tm:List Value) (H:zn) (K:List Value→zn→Prop):Prop:=
 ∃v c e,zrq n x.1 (z4d x.2) c e∧LocP (opP P env n x.1 x.2 (evT tm)) H c e v∧K (putT tm x.2.dst v) (app H c e)
def seqP (env:Env) (n:Nat):List (Nat×Oper)→List Value→zn→(List Value→zn→Prop)→Prop
 | [],tm,H,K=>K tm H
 | x::r,tm,H,K=>zfy P env n x tm H fun tm' H'=>seqP env n r tm' H' K
variable {P} {env:Env} {X:Cls P}
theorem zsl {n:Nat} {x:Nat×Oper} {tm:List Value} {H:zn} {K K':List Value→zn→Prop} (h:∀tm' H',K tm' H'→K' tm' H') (hk:zfy P env n x tm H K):zfy P env n x tm H K':=
 let ⟨v,c,e,h1,h2,h3⟩:=hk;⟨v,c,e,h1,h2,h _ _ h3⟩
def isW:PK→Bool
 | .al | .store=>true
 | _=>false
def comP (ops:List Oper) (x y:Nat×Oper):Bool:=x.2.apart ops.toArray y.2 && !(isW (z4d x.2) && isW (z4d y.2) && Nat.beq x.1 y.1)
theorem zl3 {n a:Nat} {o:Oper} {ev ev':Operand→Value} (h:∀x ∈ o.op.operands,ev x=ev' x) (H:zn) (K:Value→zn→Prop):opP P env n a o ev H K=opP P env n a o ev' H K:=by
 unfold opP
 simp only [zeb (P:=P) (env:=env) h]
theorem znl {n a a':Nat} {k k':PK} {c c':Option Nat} {e e':Option (Option Blk)} (h:zrq n a k c e) (h':zrq n a' k' c' e') (hc:(isW k && isW k' && Nat.beq a a')=false):c≠c'∨(e=none∧e'=none)∨(c=none∨c'=none):=by
 have hne:isW k=true→isW k'=true→a≠a':=by
  intro h1 h2 q
  subst q
  rw [h1,h2,Nat.beq_refl] at hc
  cases hc
 cases k<;>cases k'<;>simp only [zrq] at h h'
 all_goals first
  | exact .inr (.inr (.inl h.1))
  | exact .inr (.inr (.inr h'.1))
  | exact .inr (.inl ⟨h.2,h'.2⟩)
  | (obtain ⟨⟨b,rfl,hb⟩,_⟩:=h;obtain ⟨rfl,_⟩:=h';exact .inl (by simp;omega))
  | (obtain ⟨⟨b,rfl,hb⟩,_⟩:=h';obtain ⟨rfl,_⟩:=h;exact .inl (by simp;omega))
  | (obtain ⟨rfl,_⟩:=h;obtain ⟨rfl,_⟩:=h';have:=hne rfl rfl;exact .inl (by simp;omega))
theorem swapP {n:Nat} {ops:List Oper} {x y:Nat×Oper} (hc:comP ops x y=true) {tm:List Value} {H:zn} {K:List Value→zn→Prop}
  (h:zfy P env n x tm H fun tm1 H1=>zfy P env n y tm1 H1 K):zfy P env n y tm H fun tm2 H2=>zfy P env n x tm2 H2 K:=by
 simp only [comP,Bool.and_eq_true,Bool.not_eq_true'] at hc
 obtain ⟨hap,hw⟩:=hc
 obtain ⟨a1,a2,a3⟩:=Oper.apart_spec hap
 obtain ⟨v,c,e,h1,h2,u,c',e',g1,g2,k⟩:=h
 have hcc:=znl h1 g1 hw
 have n1:∀b,c'=some b→c≠some b∨e=none:=by
  rintro b rfl
  rcases hcc with q | ⟨q,_⟩ | q | q
  ·exact .inl q
  ·exact .inr q
  ·exact .inl (by rw [q];simp)
  ·cases q
 have n2:∀b,c=some b→c'≠some b∨e'=none:=by
  rintro b rfl
  rcases hcc with q | ⟨_,q⟩ | q | q
  ·exact .inl q.symm
  ·exact .inr q
  ·cases q
  ·exact .inl (by rw [q];simp)
 have hcomm:app (app H c e) c' e'=app (app H c' e') c e:=by
  rcases hcc with q | ⟨q,_⟩ | q | q
  ·exact zow (.inl q)
  ·exact zow (.inr (.inl q))
  ·subst q;simp [app]
  ·subst q;cases c<;>simp [app]
 refine ⟨u,c',e',g1,?_,v,c,e,h1,?_,?_⟩
 ·have:=g2.other (H':=H) fun b q=>(zvf (n1 b q)).symm
  intro H2 hb K k
  have:=this H2 hb K k
  rwa [zl3 (zcx a1)] at this
 ·have:=h2.other (H':=app H c' e') fun b q=>zvf (n2 b q)
  intro H2 hb K k
  rw [zl3 (zcx a3)]
  exact this H2 hb K k
 ·rw [←hcomm,←zlx tm a2]
  exact k
end
end Go.Proofs.YthheoefadijhdaaGreat.Ai
set_option linter.unusedSimpArgs false
set_option linter.unusedVariables false
namespace Go.Proofs.YthheoefadijhdaaGreat.Ai
open Go Go.RowKit

section
variable {P:Program} {env:Env} {X:Cls P}
theorem zio {H H2:zn} {b:Nat} (h:H2[b]? =H[b]?):rdB H2 b=rdB H b:=by unfold rdB;rw [h]
theorem z1a9 {H:zn} {b:Nat} {l:List Value} (h:rdB H b=some l):b<H.length:=by
 unfold rdB at h
 split at h
 ·rename_i blk hb;exact (List.getElem?_eq_some_iff.1 hb).1
 ·cases h
theorem zyg {H:zn} {b m:Nat} (h:b<H.length):(H++List.replicate m none)[b]? =H[b]? :=List.getElem?_append_left h
theorem zxt {t:TypeId} {x:Value} {H:zn} {K:Value→Prop} (h:z8e P t x H K):∃v b,b<H.length∧K v∧∀(H2:zn) (K2:Value→Prop),H2[b]? =H[b]? →K2 v→z8e P t x H2 K2:=by
 unfold z8e at *
 split at h
 ·rename_i b off
  split at h
  ·rename_i n z h1 h2 h3
   obtain ⟨l,⟨g1,g2⟩,g3⟩:=zkx h
   refine ⟨_,b,?_,g2,fun H2 K2 hb k=>?_⟩
   ·unfold rdN at g1;obtain ⟨cs,q1,_⟩:=Option.bind_eq_some_iff.1 g1;exact z1a9 q1
   ·refine g3 _ ⟨?_,k⟩
    unfold rdN at *
    rw [zio hb];exact g1
  ·rename_i z h1 h2 h3
   obtain ⟨v,⟨g1,g2⟩,g3⟩:=zia h
   refine ⟨v,b,?_,g2,fun H2 K2 hb k=>?_⟩
   ·unfold rdC at g1;obtain ⟨cs,q1,_⟩:=Option.bind_eq_some_iff.1 g1;exact z1a9 q1
   ·refine g3 _ ⟨?_,k⟩
    unfold rdC at *
    rw [zio hb];exact g1
  ·exact h.elim
 ·exact h.elim
theorem z16j:∀(l:List Value) (b off:Nat) (blk:Blk),∃e:Option Blk,e.isSome∧∀H2:zn,H2[b]? =some (some blk)→setN H2 b off l=H2.set b e:=by
 intro l
 induction l with
 | nil=>
  intro b off blk
  refine ⟨some blk,rfl,fun H2 h=>?_⟩
  simp only [setN]
  apply List.ext_getElem?
  intro i
  by_cases hi:b=i
  ·subst hi;rw [List.getElem?_set_self (List.getElem?_eq_some_iff.1 h).1,h]
  ·rw [List.getElem?_set_ne hi]
 | cons v r ih=>
  intro b off blk
  obtain ⟨e,he,h⟩:=ih b (off+1) {blk with cells:=blk.cells.set off v}
  refine ⟨e,he,fun H2 hb=>?_⟩
  have hlt:=(List.getElem?_eq_some_iff.1 hb).1
  have hs:setC H2 b off v=H2.set b (some {blk with cells:=blk.cells.set off v}):=by unfold setC;rw [hb]
  simp only [setN]
  rw [hs,h _ (List.getElem?_set_self hlt),List.set_set]
theorem z16a (v:Value) (b off:Nat) (blk:Blk):∃e:Option Blk,∀H2:zn,H2[b]? =some (some blk)→(match v with | .agg cs=>setN H2 b off cs.toList | v=>setC H2 b off v)=H2.set b e:=by
 have one:∃e:Option Blk,∀H2:zn,H2[b]? =some (some blk)→setC H2 b off v=H2.set b e:=⟨some {blk with cells:=blk.cells.set off v},fun H2 hb=>by unfold setC;rw [hb]⟩
 cases v with
 | agg cs=>obtain ⟨e,_,he⟩:=z16j cs.toList b off blk;exact ⟨e,he⟩
 | _=>exact one
theorem zsm {t:TypeId} {b off:Nat} {v:Value} {H:zn} {K:zn→Prop} (h:zcp P t (.pointer (some ⟨b,off,none⟩)) v H K):
  ∃e:Option Blk,b<H.length∧K (H.set b e)∧∀(H2:zn) (K2:zn→Prop),H2[b]? =H[b]? →K2 (H2.set b e)→zcp P t (.pointer (some ⟨b,off,none⟩)) v H2 K2:=by
 unfold zcp at *
 simp only [] at h ⊢
 split at h
 ·rename_i n hn
  obtain ⟨hc,⟨blk,hb,ho⟩,⟨l,hl⟩,hk⟩:=z1c h
  obtain ⟨e,he⟩:=z16a v b off blk
  refine ⟨e,(List.getElem?_eq_some_iff.1 hb).1,?_,fun H2 K2 hb2 k=>z8w hc ⟨⟨blk,hb2.trans hb,ho⟩,⟨l,?_⟩,?_⟩⟩
  ·exact (congrArg K (he H hb)).mp hk
  ·unfold rdN at *;rw [zio hb2];exact hl
  ·exact (congrArg K2 (he H2 (hb2.trans hb))).mpr k
 ·exact h.elim

def AlF (F:zn→(Value→zn→Prop)→Prop) (f:Nat→Value) (cells:List Value):Prop:=∀(H:zn) (K:Value→zn→Prop),F H K↔K (f H.length) (H++[some {cells:=cells,own:=true}])
theorem zig {cells:List Value} {H:zn} {K:Value→zn→Prop} (h:newK cells H K):AlF (newK cells) (fun b=>.pointer (some ⟨b,0,none⟩)) cells:=
 fun H K=>⟨fun q=>(z1c q).2,fun q=>z8w (z1c h).1 q⟩
theorem z19l {o:Oper} (ho:z4d o=.al) {ev:Operand→Value} {H:zn} {K:Value→zn→Prop} (h:opK P env o ev H K):
  ∃f cells,AlF (opK P env o ev) f cells∧∀e,o.op=.alloc e→∀b,f b=.pointer (some ⟨b,0,none⟩):=by
 obtain ⟨dst,op,type,pos,after,guard⟩:=o
 unfold AlF
 unfold z4d at ho
 cases op<;>simp only [] at ho<;>(try (cases ho;done))<;>unfold opK at *<;>simp only [] at h ⊢
 case alloc e=>
  split at h
  ·rename_i z hz
   obtain ⟨hc,h⟩:=z1c h
   refine ⟨_,_,fun H K=>⟨fun q=>(zig h H K).1 (z1c q).2,fun q=>z8w hc ((zig h H K).2 q)⟩,fun _ _ b=>rfl⟩
  ·exact h.elim
 case box e x=>exact ⟨fun b=>.pointer (some ⟨b,0,none⟩),_,zig h,fun e he=>by cases he⟩
 case buildSlice t n ps=>
  unfold z2g at *
  split at h
  ·rename_i e ht
   split at h
   ·rename_i sz z hsz hz
    obtain ⟨hc,h⟩:=z1c h
    split at h
    ·rename_i cells hf
     obtain ⟨hc2,h⟩:=z1c h
     refine ⟨fun b=>.slice (some ⟨b,0,none⟩) n (sz+1),cells.toList,fun H K=>⟨fun q=>(z1c (z1c q).2).2,fun q=>z8w hc (z8w hc2 q)⟩,fun e he=>by cases he⟩
    ·exact h.elim
   ·exact h.elim
  ·exact h.elim
 case makeSlice t n c=>
  unfold z3b at *
  split at h
  ·rename_i e k n k' c ht _ _
   split at h
   ·rename_i sz by_ z hsz hby hz
    obtain ⟨hc,h0,h1,h2,h⟩:=z1c h
    refine ⟨fun b=>.slice (some ⟨b,0,none⟩) n.toNat (sz+1),_,fun H K=>⟨fun q=>(z1c q).2.2.2.2,fun q=>z8w hc ⟨h0,h1,h2,q⟩⟩,fun e he=>by cases he⟩
   ·exact h.elim
  ·exact h.elim
end
end Go.Proofs.YthheoefadijhdaaGreat.Ai
set_option linter.unusedSimpArgs false
set_option linter.unusedVariables false
namespace Go.Proofs.YthheoefadijhdaaGreat.Ai
open Go Go.RowKit

def zne (kn:List (Nat×Nat)):Option Tmp→List (Nat×Nat)
 | some d=>kn.filter fun p=>!(Nat.beq p.1 d)
 | none=>kn
def kput (kn:List (Nat×Nat)) (k:Nat) (o:Oper):List (Nat×Nat):=
 match o.dst,o.op with
 | some d,.alloc _=>(d,k)::zne kn (some d)
 | d,_=>zne kn d
def place (kn:List (Nat×Nat)) (k:Nat):List Oper→Option (List (Nat×Oper))
 | []=>some []
 | o::r=>cond o.guard.isNone (match z4d o with
  | .free=>cond (decide (touch (fun _=>(false,false)) o=.free)) ((place (zne kn o.dst) k r).map ((0,o)::·)) none
  | .load=>cond (Nat.beq k 0) ((place (zne kn o.dst) k r).map ((0,o)::·)) none
  | .al=>(place (kput kn k o) (k+1) r).map ((k,o)::·)
  | .store=>match o.op with
   | .store _ (.tmp d) _=>match kn.find? (fun p=>Nat.beq p.1 d) with
    | some (_,a)=>(place (zne kn o.dst) k r).map ((a,o)::·)
    | none=>none
   | _=>none) none
def als (l:List Oper):Nat:=(l.filter fun o=>decide (z4d o=.al)).length
def Kn (n:Nat) (kn:List (Nat×Nat)) (k:Nat) (tm:List Value):Prop:=∀p ∈ kn,p.2<k∧(tm.getD p.1 undef=.pointer (some ⟨n+p.2,0,none⟩)∨tm.getD p.1 undef=undef)
theorem Kn.drop {n k:Nat} {kn:List (Nat×Nat)} {tm:List Value} (h:Kn n kn k tm) (d:Option Tmp) (v:Value):Kn n (zne kn d) k (putT tm d v):=by
 intro p hp
 cases d with
 | none=>exact h p hp
 | some d=>
  obtain ⟨h1,h2⟩:=List.mem_filter.1 hp
  have hne:d≠p.1:=by intro e;subst e;rw [Nat.beq_refl] at h2;cases h2
  exact ⟨(h p h1).1,by rw [zdy (by intro x e;cases e;exact hne)];exact (h p h1).2⟩

section
variable {P:Program} {env:Env} {X:Cls P}
theorem zs2 {n:Nat} {ops:List Oper}:∀(l:List Oper) (kn:List (Nat×Nat)) (k:Nat) (xs:List (Nat×Oper)) (tm:List Value) (H:zn) (K:List Value→zn→Prop),
  place kn k l=some xs→Kn n kn k tm→H.length=n+k→seqK P env ops l tm H K→seqP P env n xs tm (H++List.replicate (als l) none) K:=by
 intro l
 induction l with
 | nil=>
  intro kn k xs tm H K hp hk hl h
  simp only [place,Option.some.injEq] at hp
  subst hp
  simpa [als,seqP,seqK] using h
 | cons o r ih=>
  intro kn k xs tm H K hp hkn hl h
  simp only [place] at hp
  cases hg:o.guard with
  | some g=>rw [hg] at hp;cases hp
  | none=>
  rw [hg] at hp
  simp only [Option.isNone_none,cond_true] at hp
  have h:z5u P env ops o tm H fun tm' H'=>seqK P env ops r tm' H' K:=h
  unfold z5u at h
  rw [hg] at h
  simp only [] at h
  have h:=(z1c h).2
  cases hkd:z4d o with
  | free=>
   rw [hkd] at hp
   simp only [] at hp
   cases ht:decide (touch (fun _=>(false,false)) o=.free) with
   | false=>rw [ht] at hp;cases hp
   | true=>
   rw [ht] at hp
   obtain ⟨xs',hx,rfl⟩:=Option.map_eq_some_iff.1 hp
   obtain ⟨v,h2⟩:=zbd (of_decide_eq_true ht) h
   have hals:als (o::r)=als r:=by unfold als;rw [List.filter_cons_of_neg (by simp [hkd])]
   refine ⟨v,none,none,by simp [hkd,zrq],fun H2 _ K2 k2=>?_,?_⟩
   ·unfold opP;rw [hkd];exact (h2 H2 K2).2 k2
   ·rw [hals]
    exact ih _ _ _ _ _ _ hx (hkn.drop _ _) hl ((h2 H _).1 h)
  | load=>
   rw [hkd] at hp
   simp only [] at hp
   cases ht:Nat.beq k 0 with
   | false=>rw [ht] at hp;cases hp
   | true=>
   rw [ht] at hp
   obtain rfl:=Nat.eq_of_beq_eq_true ht
   obtain ⟨xs',hx,rfl⟩:=Option.map_eq_some_iff.1 hp
   obtain ⟨t,a,hop⟩:∃t a,o.op=.load t a:=by
    unfold z4d at hkd
    split at hkd<;>first | (cases hkd;done) | (rename_i e;exact ⟨_,_,e⟩)
   have h1:z8e P t (evT tm a) H fun v=>seqK P env ops r (putT tm o.dst v) H K:=by unfold opK at h;rw [hop] at h;exact h
   obtain ⟨v,b,hb,k2,h2⟩:=zxt h1
   have hals:als (o::r)=als r:=by unfold als;rw [List.filter_cons_of_neg (by simp [hkd])]
   refine ⟨v,some b,none,?_,fun H2 hb2 K2 k2=>?_,?_⟩
   ·rw [hkd];exact ⟨⟨b,rfl,by omega⟩,rfl⟩
   ·unfold opP;rw [hkd];simp only []
    unfold opK;rw [hop]
    exact h2 H2 _ ((hb2 b rfl).trans (zyg hb)) k2
   ·rw [hals]
    exact ih _ _ _ _ _ _ hx (hkn.drop _ _) hl k2
  | al=>
   rw [hkd] at hp
   obtain ⟨xs',hx,rfl⟩:=Option.map_eq_some_iff.1 hp
   obtain ⟨f,cells,h2,h3⟩:=z19l hkd h
   have hals:als (o::r)=als r+1:=by unfold als;rw [List.filter_cons_of_pos (by simp [hkd])];rfl
   have hset:(H++List.replicate (als r+1) (none:Option Blk)).set (n+k) (some {cells:=cells,own:=true})=H++[some {cells:=cells,own:=true}]++List.replicate (als r) none:=by
    rw [←hl,List.set_append_right _ _ (Nat.le_refl _),Nat.sub_self,List.replicate_succ,List.set_cons_zero]
    simp
   refine ⟨f (n+k),some (n+k),some (some {cells:=cells,own:=true}),by simp [hkd,zrq],fun H2 hb2 K2 k2=>?_,?_⟩
   ·unfold opP;rw [hkd]
    refine ⟨f,cells,h2,?_,k2⟩
    rw [hb2 _ rfl,hals,←hl,List.getElem?_append_right (Nat.le_refl _),Nat.sub_self,List.replicate_succ];rfl
   ·show seqP P env n xs' _ (List.set _ _ _) K
    rw [hals,hset]
    have h4:=(h2 H _).1 h
    rw [hl] at h4
    refine ih _ _ _ _ _ _ hx ?_ (by simp;omega) h4
    ·intro p hp
     have old:∀d,p ∈ zne kn d→o.dst=d→p.2<k+1∧((putT tm o.dst (f (n+k))).getD p.1 undef=.pointer (some ⟨n+p.2,0,none⟩)∨(putT tm o.dst (f (n+k))).getD p.1 undef=undef):=by
      rintro d hp rfl
      have:=hkn.drop o.dst (f (n+k)) p hp
      exact ⟨by omega,this.2⟩
     unfold kput at hp
     split at hp
     ·rename_i d e hd hop
      rcases List.mem_cons.1 hp with rfl | hp
      ·refine ⟨by simp,?_⟩
       rw [hd]
       simp only [putT,List.getD_eq_getElem?_getD]
       by_cases hlt:d<tm.length
       ·rw [List.getElem?_set_self hlt,h3 e hop];exact .inl rfl
       ·have hge:(tm.set d (f (n+k))).length≤d:=by rw [List.length_set];exact Nat.le_of_not_lt hlt
        rw [List.getElem?_eq_none hge];exact .inr rfl
      ·exact old _ hp hd
     ·exact old _ hp rfl
  | store=>
   rw [hkd] at hp
   simp only [] at hp
   split at hp
   ·rename_i t d y hop
    split at hp
    ·rename_i d' a hf
     obtain ⟨xs',hx,rfl⟩:=Option.map_eq_some_iff.1 hp
     have hmem:=List.mem_of_find?_eq_some hf
     have hd:d'=d:=Nat.eq_of_beq_eq_true (by simpa using List.find?_some hf)
     subst hd
     obtain ⟨hak,htm⟩:=hkn _ hmem
     have h1:zcp P t (evT tm (.tmp d')) (evT tm y) H fun H'=>seqK P env ops r (putT tm o.dst undef) H' K:=by unfold opK at h;rw [hop] at h;exact h
     have hev:evT tm (.tmp d')=.pointer (some ⟨n+a,0,none⟩):=by
      rcases htm with htm | htm
      ·exact htm
      ·have q:evT tm (.tmp d')=undef:=htm
       rw [q] at h1
       exact h1.elim
     rw [hev] at h1
     obtain ⟨e,hb,k2,h2⟩:=zsm h1
     have hals:als (o::r)=als r:=by unfold als;rw [List.filter_cons_of_neg (by simp [hkd])]
     refine ⟨undef,some (n+a),some e,?_,fun H2 hb2 K2 k2=>?_,?_⟩
     ·rw [hkd];exact ⟨rfl,rfl⟩
     ·unfold opP;rw [hkd];simp only []
      unfold opK;rw [hop];simp only []
      rw [hev]
      exact h2 H2 _ ((hb2 _ rfl).trans (zyg hb)) k2
     ·show seqP P env n xs' _ (List.set _ _ _) K
      rw [hals,List.set_append_left _ _ hb]
      exact ih _ _ _ _ _ _ hx (hkn.drop _ _) (by simpa using hl) k2
    ·cases hp
   ·cases hp
end
end Go.Proofs.YthheoefadijhdaaGreat.Ai
set_option linter.unusedSimpArgs false
set_option linter.unusedVariables false
namespace Go.Proofs.YthheoefadijhdaaGreat.Ai
open Go Go.RowKit Go.Conc

section
variable {P:Program} {env:Env} {X:Cls P}
theorem AlF.uniq {F:zn→(Value→zn→Prop)→Prop} {f f':Nat→Value} {c c':List Value} (h:AlF F f c) (h':AlF F f' c'):f=f'∧c=c':=by
 have key:∀n,f' n=f n∧c'=c:=by
  intro n
  have h1:=(h (List.replicate n none) (fun v H'=>v=f n∧H'=List.replicate n none++[some {cells:=c,own:=true}])).2 (by simp)
  have h2:=(h' _ _).1 h1
  simp at h2
  exact h2
 exact ⟨funext fun n=>(key n).1.symm,(key 0).2.symm⟩
theorem AlF.congr {F G:zn→(Value→zn→Prop)→Prop} {f:Nat→Value} {c:List Value} (h:AlF F f c) (e:∀H K,F H K↔G H K):AlF G f c:=fun H K=>(e H K).symm.trans (h H K)
theorem z19m {o:Oper} (ho:z4d o=.al) (a:Act) {ev:Operand→Value} {H:zn} {K:Value→zn→Prop} (h:opK P env o ev H K) {f:Nat→Value} {cells:List Value} (hf:AlF (opK P env o ev) f cells):
  ∃s:Sem Value,(∀w,(execOp a.eval o).run P w=(do pure (Next.value (←s)):Sem Next).run P w∧∀es,(execOp a.eval o).events P w es=(do pure (Next.value (←s)):Sem Next).events P w es)∧
   ∀(ρ:Ren) (w:World),(∀x ∈ o.op.operands,VR ρ (ev x) (a.eval x))→AlO P ρ s w f cells:=by
 obtain ⟨dst,op,type,pos,after,guard⟩:=o
 have hk:∀H K,opK P env (⟨dst,op,type,pos,after,guard⟩:Oper) ev H K↔opK P env (⟨dst,op,type,pos,after,guard⟩:Oper) ev H K:=fun _ _=>Iff.rfl
 unfold z4d at ho
 cases op<;>simp only [] at ho<;>(try (cases ho;done))<;>simp only [Op.operands]
 case alloc e=>
  simp only [opK] at h
  split at h
  ·rename_i z hz
   obtain ⟨hc,h⟩:=z1c h
   refine ⟨do pure (.pointer (some (←newRow e z.cells))),fun w=>⟨by simp [execOp,Instr.alloc,z5j hz,newVar],fun es=>by simp [execOp,Instr.alloc,z5j hz,newVar]⟩,fun ρ w hev=>?_⟩
   obtain ⟨f',h1,h2⟩:=zy1 (P:=P) (ρ:=ρ) (w:=w) (e:=e) (arr:=z.cells) h (.const hc)
   have h3:AlF (opK P env (⟨dst,.alloc e,type,pos,after,guard⟩:Oper) ev) f' z.cells.toList:=by
    intro H K
    simp only [opK,hz]
    exact ⟨fun q=>(h1 H K).1 (z1c q).2,fun q=>z8w hc ((h1 H K).2 q)⟩
   obtain ⟨rfl,rfl⟩:=hf.uniq h3
   exact h2
  ·exact h.elim
 case box e x=>
  simp only [opK] at h
  refine ⟨do pure (.pointer (some (←newRow e (a.eval x).cells))),fun w=>⟨by simp [execOp,Instr.box,newVar],fun es=>by simp [execOp,Instr.box,newVar]⟩,fun ρ w hev=>?_⟩
  obtain ⟨f',h1,h2⟩:=zy1 (P:=P) (ρ:=ρ) (w:=w) (e:=e) (arr:=(a.eval x).cells) h (hev x (by simp)).cells
  have h3:AlF (opK P env (⟨dst,.box e x,type,pos,after,guard⟩:Oper) ev) f' (ev x).cells.toList:=by
   intro H K
   simp only [opK]
   exact h1 H K
  obtain ⟨rfl,rfl⟩:=hf.uniq h3
  exact h2
 case buildSlice t n ps=>
  simp only [opK] at h
  have e:execOp a.eval (⟨dst,.buildSlice t n ps,type,pos,after,guard⟩:Oper)=(do pure (Next.value (←Instr.buildSlice t n (ps.map fun (i,x)=>(i,a.eval x)))):Sem Next):=by unfold execOp;rfl
  refine ⟨Instr.buildSlice t n (ps.map fun (i,x)=>(i,a.eval x)),fun w=>⟨by rw [e],fun es=>by rw [e]⟩,fun ρ w hev=>?_⟩
  have hp:=zim (ρ:=ρ) (ev:=ev) (ev':=a.eval) ps (fun x hx=>hev x (by simpa using hx))
  obtain ⟨f',c',h1,h2⟩:=zfi (w:=w) h hp.1 hp.2
  rw [Array.toArray_toList] at h2
  have h3:AlF (opK P env (⟨dst,.buildSlice t n ps,type,pos,after,guard⟩:Oper) ev) f' c':=by
   intro H K
   simp only [opK]
   exact h1 H K
  obtain ⟨rfl,rfl⟩:=hf.uniq h3
  exact h2
 case makeSlice t n c=>
  simp only [opK] at h
  have e:execOp a.eval (⟨dst,.makeSlice t n c,type,pos,after,guard⟩:Oper)=(do pure (Next.value (←Instr.makeSlice t (a.eval n) (a.eval c))):Sem Next):=by unfold execOp;rfl
  refine ⟨Instr.makeSlice t (a.eval n) (a.eval c),fun w=>⟨by rw [e],fun es=>by rw [e]⟩,fun ρ w hev=>?_⟩
  obtain ⟨f',c',h1,h2⟩:=zic (w:=w) h (hev n (by simp)) (hev c (by simp))
  have h3:AlF (opK P env (⟨dst,.makeSlice t n c,type,pos,after,guard⟩:Oper) ev) f' c':=by
   intro H K
   simp only [opK]
   exact h1 H K
  obtain ⟨rfl,rfl⟩:=hf.uniq h3
  exact h2
end
end Go.Proofs.YthheoefadijhdaaGreat.Ai
set_option linter.unusedSimpArgs false
set_option linter.unusedVariables false
namespace Go.Proofs.YthheoefadijhdaaGreat.Ai
open Go Go.RowKit Go.Conc

section
variable {P:Program} {env:Env} {X:Cls P}
theorem zz3 {n:Nat} {x:Nat×Oper} {tm:List Value} {a:Act} {H:zn} {w:World} {Z:Zone} {ρ0:Ren} {hs:List Nat} (hok:z6l x.2=true) (hnc:∀f args ts,x.2.op≠.call ⟨.value f,args,ts⟩)
  (hr:∀ρ,Fam ρ0 hs ρ→HR Z ρ H w) (hf:∀ρ,Fam ρ0 hs ρ→VRs ρ tm a.tmps.toList) {v:Value} {c:Option Nat} {e:Option (Option Blk)} (hL:LocP (opP P env n x.1 x.2 (evT tm)) H c e v) (hole:z4d x.2=.al→n+x.1 ∈ hs):
  ∃v' w',((execOp a.eval x.2).run P w=.ok (.value v') w'∨((execOp a.eval x.2).run P w=.ok .skip w'∧v'=undef))∧Kept Z w w'∧Evs P Z (execOp a.eval x.2) w w'∧
   ∃ρ1:Ren,ρ1.length=ρ0.length∧(∀b,b<n→ρ1[b]? =ρ0[b]?)∧∀ρ,Fam ρ1 (if z4d x.2=.al then hs.filter (· != n+x.1) else hs) ρ→HR Z ρ (app H c e) w'∧VRs ρ (putT tm x.2.dst v) (a.put x.2.dst v').tmps.toList:=by
 have hev:∀ρ,Fam ρ0 hs ρ→∀y ∈ x.2.op.operands,VR ρ (evT tm y) (a.eval y):=fun ρ hρ y hy=>zge (hf ρ hρ) (List.all_eq_true.1 hok y (by simpa using hy))
 have hop:=hL H (fun _ _=>rfl) (fun v2 H2=>v2=v∧H2=app H c e) ⟨rfl,rfl⟩
 by_cases hal:z4d x.2=.al
 ·unfold opP at hop
  rw [hal] at hop
  obtain ⟨f,cells,hF,hnone,rfl,hH⟩:=hop
  obtain ⟨s,hs1,hs2⟩:=z19m hal a ((hF H fun _ _=>True).2 trivial) hF
  obtain ⟨arr,e',v',hrun,hevs,hall⟩:=AlO.fam (a:=n+x.1) (fun ρ hρ=>hs2 ρ w (hev ρ hρ)) hr (hole hal) hnone
  refine ⟨v',w.alloc (.cells arr e'),.inl ?_,Kept.alloc' (hr ρ0 (.refl _ _)) _,?_,ρ0.set (n+x.1) (w.heap.size,0,arr.size),by simp,fun b hb=>List.getElem?_set_ne (by omega),fun ρ hρ=>?_⟩
  ·rw [(hs1 w).1,Sem.run_bind,hrun];rfl
  ·intro q hq
   rw [(hs1 w).2,Sem.events_bind,hrun,hevs] at hq
   simp at hq
  ·rw [if_pos hal] at hρ
   obtain ⟨g1,g2,ρ',g3,g4⟩:=hall ρ hρ
   rw [←hH]
   exact ⟨g1,z5t ((hf ρ' g3).rle g4) _ g2⟩
 ·have hopK:opK P env x.2 (evT tm) H (fun v2 H2=>v2=v∧H2=app H c e):=by
   unfold opP at hop
   split at hop
   ·rename_i h;exact absurd h hal
   ·exact hop
  have hlen:(app H c e).length=H.length:=by unfold app;split<;>simp
  have out:∀ρ,Fam ρ0 hs ρ→∃v' w',((execOp a.eval x.2).run P w=.ok (.value v') w'∨((execOp a.eval x.2).run P w=.ok .skip w'∧v'=undef))∧HR Z ρ (app H c e) w'∧VR ρ v v'∧Kept Z w w'∧Evs P Z (execOp a.eval x.2) w w':=by
   intro ρ hρ
   obtain ⟨v2,H2,⟨rfl,rfl⟩,v',w',ρ',h1,h2,h3,h4,h5,h6⟩:=zy6 (hr ρ hρ) (hev ρ hρ) hnc hopK
   have hl:ρ.length=ρ'.length:=by
    have e1:=h3.len
    have e2:=(hr ρ hρ).len
    omega
   obtain rfl:=h2.eq_of_length hl
   exact ⟨v',w',h1,h3,h4,h5,h6⟩
  obtain ⟨v',w',h1,h3,h4,h5,h6⟩:=out ρ0 (.refl _ _)
  refine ⟨v',w',h1,h5,h6,ρ0,rfl,fun _ _=>rfl,fun ρ hρ=>?_⟩
  rw [if_neg hal] at hρ
  obtain ⟨v2,w2,g1,g3,g4,g5,g6⟩:=out ρ hρ
  have hsame:w2=w'∧v2=v':=by
   rcases h1 with h1 | ⟨h1,rfl⟩<;>rcases g1 with g1 | ⟨g1,rfl⟩<;>rw [h1] at g1
   ·injection g1 with q1 q2
    injection q1 with q1
    exact ⟨q2.symm,q1.symm⟩
   ·injection g1 with q1 q2
    cases q1
   ·injection g1 with q1 q2
    cases q1
   ·injection g1 with q1 q2
    exact ⟨q2.symm,rfl⟩
  obtain ⟨rfl,rfl⟩:=hsame
  exact ⟨g3,z5t (hf ρ hρ) _ g4⟩
end
end Go.Proofs.YthheoefadijhdaaGreat.Ai
set_option linter.unusedSimpArgs false
set_option linter.unusedVariables false
namespace Go.Proofs.YthheoefadijhdaaGreat.Ai
open Go Go.RowKit Go.Conc

abbrev Tri:=Nat×(Nat×Oper)
def zil (ops:List Oper) (m:Nat→Nat) (pre:List Tri):List Tri→Bool
 | []=>true
 | t::r=>(pre.all fun s=>!(Nat.beq s.1 t.1) && ((m t.1).testBit s.1 || comP ops s.2 t.2)) && zil ops m (t::pre) r
structure PiP (ops:List Oper) (m:Nat→Nat) (T:List Tri):Prop where
 at_:∀t ∈ T,ops[t.1]? =some t.2.2
 mem:∀i,i<ops.length→∃y,(i,y) ∈ T
 split:∀L t R,T=L++t::R→∀s ∈ L,s.1≠t.1∧((m t.1).testBit s.1=false→comP ops s.2 t.2=true)
theorem zlu {ops:List Oper} {m:Nat→Nat}:∀{T pre:List Tri},zil ops m pre T=true→∀L t R,T=L++t::R→∀s,s ∈ pre∨s ∈ L→s.1≠t.1∧((m t.1).testBit s.1=false→comP ops s.2 t.2=true):=by
 intro T
 induction T with
 | nil=>intro pre _ L t R h;cases L<;>cases h
 | cons u T ih=>
  intro pre h L t R e s hs
  simp only [zil,Bool.and_eq_true] at h
  cases L with
  | nil=>
   simp only [List.nil_append,List.cons.injEq] at e
   obtain ⟨rfl,rfl⟩:=e
   rcases hs with hs | hs
   ·have:=List.all_eq_true.1 h.1 s hs
    simp only [Bool.and_eq_true,Bool.not_eq_true',Bool.or_eq_true] at this
    refine ⟨fun q=>?_,fun q=>?_⟩
    ·rw [q,Nat.beq_refl] at this;cases this.1
    ·rcases this.2 with g | g
     ·rw [q] at g;cases g
     ·exact g
   ·cases hs
  | cons v L=>
   simp only [List.cons_append,List.cons.injEq] at e
   obtain ⟨rfl,rfl⟩:=e
   refine ih h.2 L t R rfl s ?_
   rcases hs with hs | hs
   ·exact .inl (List.mem_cons_of_mem _ hs)
   ·rcases List.mem_cons.1 hs with rfl | hs
    ·exact .inl List.mem_cons_self
    ·exact .inr hs

section
variable {P:Program} {env:Env} {X:Cls P}
theorem pullP {n:Nat} {ops:List Oper} {y:Nat×Oper}:∀(R1 R2:List (Nat×Oper)),(∀x ∈ R1,comP ops x y=true)→∀{tm:List Value} {H:zn} {K:List Value→zn→Prop},
  seqP P env n (R1++y::R2) tm H K→zfy P env n y tm H fun tm' H'=>seqP P env n (R1++R2) tm' H' K:=by
 intro R1
 induction R1 with
 | nil=>intro R2 _ tm H K h;exact h
 | cons x R1 ih=>
  intro R2 hc tm H K h
  have h1:zfy P env n x tm H fun tm' H'=>zfy P env n y tm' H' fun tm'' H''=>seqP P env n (R1++R2) tm'' H'' K:=
   zsl (fun tm' H' k=>ih R2 (fun z hz=>hc z (List.mem_cons_of_mem _ hz)) k) h
  exact swapP (hc x List.mem_cons_self) h1
theorem zi0 {ops:List Oper} {m:Nat→Nat} {T:List Tri} (hT:PiP ops m T) {i:Nat} {o:Oper} (p:Nat→Bool) (hi:i<ops.length) (hp:p i=true) (ho:ops[i]? =some o):
  ∃a R1 R2,(T.filter fun t=>p t.1).map (·.2)=R1++(a,o)::R2∧(i,(a,o)) ∈ T∧(∀x ∈ R1,∃j,j<ops.length∧p j=true∧ops[j]? =some x.2∧((m i).testBit j=false→comP ops x (a,o)=true))∧
   (T.filter fun t=>p t.1 && !(Nat.beq t.1 i)).map (·.2)=R1++R2:=by
 obtain ⟨⟨a,o'⟩,hy⟩:=hT.mem i hi
 have hoo:o'=o:=by have:=hT.at_ _ hy;rw [ho] at this;simpa using this.symm
 subst hoo
 obtain ⟨L,R,e⟩:=List.append_of_mem hy
 have hL:=hT.split L _ R e
 have hR:∀s ∈ R,s.1≠i:=by
  intro s hs
  obtain ⟨R1,R2,rfl⟩:=List.append_of_mem hs
  have:=(hT.split (L++(i,(a,o'))::R1) s R2 (by rw [e];simp) (i,(a,o')) (by simp)).1
  exact fun q=>this q.symm
 have keep:∀l:List Tri,(∀s ∈ l,s.1≠i)→(l.filter fun t=>p t.1 && !(Nat.beq t.1 i))=l.filter fun t=>p t.1:=by
  intro l hl
  apply List.filter_congr
  intro s hs
  have hb:Nat.beq s.1 i=false:=by
   cases hbq:Nat.beq s.1 i with
   | false=>rfl
   | true=>exact absurd (Nat.eq_of_beq_eq_true hbq) (hl s hs)
  rw [hb];simp
 refine ⟨a,(L.filter fun t=>p t.1).map (·.2),(R.filter fun t=>p t.1).map (·.2),?_,hy,?_,?_⟩
 ·rw [e,List.filter_append,List.filter_cons_of_pos (by simpa using hp)]
  simp
 ·intro x hx
  obtain ⟨s,hs,rfl⟩:=List.mem_map.1 hx
  obtain ⟨h1,h2⟩:=List.mem_filter.1 hs
  have hat:=hT.at_ s (by rw [e];simp [h1])
  exact ⟨s.1,(List.getElem?_eq_some_iff.1 hat).1,h2,hat,fun hb=>(hL s h1).2 hb⟩
 ·rw [e,List.filter_append,List.filter_cons_of_neg (by simp [Nat.beq_refl]),keep L (fun s hs=>(hL s hs).1),keep R hR]
  simp
end
end Go.Proofs.YthheoefadijhdaaGreat.Ai
set_option linter.unusedSimpArgs false
set_option linter.unusedVariables false
namespace Go.Proofs.YthheoefadijhdaaGreat.Ai
open Go Go.RowKit Go.Conc

def remP (T:List Tri) (listed:Array Bool):List Tri:=T.filter fun t=>!listed.getD t.1 true
structure Holes (n:Nat) (T:List Tri) (listed:Array Bool) (hs:List Nat):Prop where
 have_:∀t ∈ remP T listed,z4d t.2.2=.al→n+t.2.1 ∈ hs
 only:∀b ∈ hs,∃t ∈ remP T listed,z4d t.2.2=.al∧n+t.2.1=b
def zj6 (T:List Tri):Prop:=∀s ∈ T,∀t ∈ T,(s.1=t.1→s=t)∧(z4d s.2.2=.al→z4d t.2.2=.al→s.2.1=t.2.1→s=t)
theorem z6u {T:List Tri} {listed:Array Bool} {i:Nat} (hi:i<listed.size) {t:Tri}:t ∈ remP T (listed.setIfInBounds i true)↔t ∈ remP T listed∧t.1≠i:=by
 unfold remP
 rw [List.mem_filter,List.mem_filter]
 by_cases hti:t.1=i
 ·rw [hti]
  simp [hi]
 ·rw [getD_set_ne true (Ne.symm hti)]
  simp [hti]
theorem Holes.next {n:Nat} {T:List Tri} {listed:Array Bool} {hs:List Nat} (h:Holes n T listed hs) (hN:zj6 T) {i a:Nat} {o:Oper} (hi:i<listed.size) (ht:(i,(a,o)) ∈ T):
  Holes n T (listed.setIfInBounds i true) (if z4d o=.al then hs.filter (· != n+a) else hs):=by
 have sub:∀t ∈ remP T listed,t ∈ T:=fun t q=>(List.mem_filter.1 q).1
 by_cases hal:z4d o=.al
 ·rw [if_pos hal]
  refine ⟨fun t q hk=>?_,fun b hb=>?_⟩
  ·obtain ⟨q1,q2⟩:=(z6u hi).1 q
   refine List.mem_filter.2 ⟨h.have_ t q1 hk,?_⟩
   have:t.2.1≠a:=fun e=>q2 (by rw [((hN t (sub t q1) _ ht).2 hk hal e)])
   simp;omega
  ·obtain ⟨h1,h2⟩:=List.mem_filter.1 hb
   obtain ⟨t,g1,g2,g3⟩:=h.only b h1
   refine ⟨t,(z6u hi).2 ⟨g1,fun e=>?_⟩,g2,g3⟩
   have:=(hN t (sub t g1) _ ht).1 e
   subst this
   simp at h2
   exact h2 g3.symm
 ·rw [if_neg hal]
  refine ⟨fun t q hk=>h.have_ t ((z6u hi).1 q).1 hk,fun b hb=>?_⟩
  obtain ⟨t,g1,g2,g3⟩:=h.only b hb
  refine ⟨t,(z6u hi).2 ⟨g1,fun e=>?_⟩,g2,g3⟩
  have:=(hN t (sub t g1) _ ht).1 e
  subst this
  exact hal g2
end Go.Proofs.YthheoefadijhdaaGreat.Ai
set_option linter.unusedSimpArgs false
set_option linter.unusedVariables false
namespace Go.Proofs.YthheoefadijhdaaGreat.Ai
open Go Go.RowKit Go.Conc

section
variable {P:Program} {env:Env} {main:Bool} {C:Car P main}
theorem z12h {ops:Array Oper} {m:Nat→Nat} (hm:z4q ops.toList m=true) (hed:z4c ops.toList=true) {T:List Tri} (hT:PiP ops.toList m T) (hN:zj6 T) (hok:ops.toList.all z6l=true)
  (hgd:∀o ∈ ops.toList,o.guard=none) (hnc:∀o ∈ ops.toList,∀f args ts,o.op≠.call ⟨.value f,args,ts⟩) {n:Nat}
  {b:Frame} {k:List Item} {cs:List Frame} (hkd:b.kind≠.early):∀(fuel t:Nat) (listed:Array Bool) (hs:List Nat) (Z:Zone) (ρ0:Ren) (H:zn) (w:World) (tm:List Value) (a:Act) (K:List Value→zn→Prop),
  listed.size=ops.size→zaw m listed→(remP T listed).length≤fuel→Holes n T listed hs→(∀ρ,Fam ρ0 hs ρ→HR Z ρ H w)→(∀ρ,Fam ρ0 hs ρ→VRs ρ tm a.tmps.toList)→seqP P env n ((remP T listed).map (·.2)) tm H K→
  (∀tm' H',K tm' H'→∀ρ' w' a',ρ'.length=ρ0.length→(∀b,b<n→ρ'[b]? =ρ0[b]?)→HR Z ρ' H' w'→VRs ρ' tm' a'.tmps.toList→a'.defers=a.defers→C.T Z w w'→C.Will Z (G (b.atR a' k) cs) w')→
  C.Will Z (G (b.atR a (.inRegion ops (Region.linearise.go .any ops fuel t listed [])::k)) cs) w:=by
 have hlt:∀i o,ops.toList[i]? =some o→∀e ∈ o.after,Region.binds .any e=true→e.on<i:=by
  intro i o ho e he hb
  have h1:=List.all_eq_true.1 hed i (List.mem_range.2 (List.getElem?_eq_some_iff.1 ho).1)
  simp only [ho] at h1
  have h2:=List.all_eq_true.1 h1 e (by simpa using he)
  rw [hb] at h2
  simp only [Bool.not_true,Bool.false_or] at h2
  exact Nat.le_of_ble_eq_true h2
 have hanc:∀i j o,ops.toList[i]? =some o→j<ops.size→(m i).testBit j=true→∃e ∈ o.after,Region.binds .any e=true∧(e.on=j∨(m e.on).testBit j=true):=by
  intro i j o ho hj hb
  have h1:=List.all_eq_true.1 hm i (List.mem_range.2 (List.getElem?_eq_some_iff.1 ho).1)
  simp only [ho] at h1
  have h2:=List.all_eq_true.1 h1 j (List.mem_range.2 (by simpa using hj))
  rw [hb] at h2
  simp only [Bool.not_true,Bool.false_or] at h2
  obtain ⟨e,he,hd⟩:=List.any_eq_true.1 h2
  simp only [zdk,Bool.and_eq_true,Bool.or_eq_true] at hd
  exact ⟨e,by simpa using he,hd.1,hd.2.imp Nat.eq_of_beq_eq_true id⟩
 have dput:∀(a:Act) d v,(a.put d v).defers=a.defers:=fun a d v=>by cases d<;>rfl
 have final:∀(listed:Array Bool) (hs:List Nat) (Z:Zone) (ρ0:Ren) (H:zn) (w:World) (tm:List Value) (a:Act) (K:List Value→zn→Prop),remP T listed=[]→(∀ρ,Fam ρ0 hs ρ→HR Z ρ H w)→(∀ρ,Fam ρ0 hs ρ→VRs ρ tm a.tmps.toList)→
   seqP P env n ((remP T listed).map (·.2)) tm H K→
   (∀tm' H',K tm' H'→∀ρ' w' a',ρ'.length=ρ0.length→(∀b,b<n→ρ'[b]? =ρ0[b]?)→HR Z ρ' H' w'→VRs ρ' tm' a'.tmps.toList→a'.defers=a.defers→C.T Z w w'→C.Will Z (G (b.atR a' k) cs) w')→C.Will Z (G (b.atR a (.inRegion ops []::k)) cs) w:=by
  intro listed hs Z ρ0 H w tm a K hrem hr hf hk hq
  rw [hrem] at hk
  exact C.still (fun w₁=>z1w) (hq tm H hk ρ0 w a rfl (fun _ _=>rfl) (hr _ (.refl _ _)) (hf _ (.refl _ _)) rfl (C.rT (C.refl Z w)))
 have stuck:∀(listed:Array Bool),listed.size=ops.size→Region.ready .any ops listed=[]→remP T listed=[]:=by
  intro listed hs hready
  apply Classical.byContradiction
  intro hne
  -- the least number that has not come up
  have hex:∃i,i<ops.size∧listed.getD i true=false:=by
   obtain ⟨i,hi⟩:=List.exists_mem_of_ne_nil _ hne
   obtain ⟨h1,h2⟩:=List.mem_filter.1 hi
   exact ⟨i.1,by simpa using (List.getElem?_eq_some_iff.1 (hT.at_ i h1)).1,by simpa using h2⟩
  have hmin:∃i,(i<ops.size∧listed.getD i true=false)∧∀j,j<i→¬(j<ops.size∧listed.getD j true=false):=by
   obtain ⟨i,hi⟩:=hex
   induction i using Nat.strongRecOn with
   | _ i ih=>
    by_cases h:∃j,j<i∧(j<ops.size∧listed.getD j true=false)
    ·obtain ⟨j,hj,h2⟩:=h;exact ih j hj h2
    ·exact ⟨i,hi,fun j hj h2=>h ⟨j,hj,h2⟩⟩
  obtain ⟨i,⟨hi,hun⟩,hleast⟩:=hmin
  have ho:ops[i]? =some ops[i]:=Array.getElem?_eq_getElem hi
  have:i ∈ Region.ready .any ops listed:=by
   rw [mem_ready]
   refine ⟨hun,ops[i],ho,fun e he hb=>?_⟩
   have hl:=hlt i ops[i] (by rw [Array.getElem?_toList];exact ho) e he hb
   have h3:=hleast e.on hl
   have hsz:e.on<ops.size:=by omega
   cases hv:listed.getD e.on true with
   | true=>
    rw [Array.getD_eq_getD_getElem?] at hv ⊢
    rw [Array.getElem?_eq_getElem (by omega)] at hv ⊢
    simpa using hv
   | false=>exact absurd ⟨hsz,hv⟩ h3
  rw [hready] at this
  cases this
 intro fuel
 induction fuel with
 | zero=>
  intro t listed hls Z ρ0 H w tm a K hs hcl hfu hho hr hf hk hq
  have hrem:remP T listed=[]:=List.length_eq_zero_iff.1 (by omega)
  simp only [Region.linearise.go,List.reverse_nil]
  exact final listed hls Z ρ0 H w tm a K hrem hr hf hk hq
 | succ fuel ih=>
  intro t listed hls Z ρ0 H w tm a K hs hcl hfu hho hr hf hk hq
  simp only [Region.linearise.go]
  change C.Will Z (G (b.atR a (.inRegion ops (match (Region.ready .any ops listed)[t % (Region.ready .any ops listed).length]? with
   | some i=>Region.linearise.go .any ops fuel (t / (Region.ready .any ops listed).length) (listed.setIfInBounds i true) [i]
   | none=>[].reverse)::k)) cs) w
  cases hsel:(Region.ready .any ops listed)[t % (Region.ready .any ops listed).length]? with
  | none=>
   have hnil:Region.ready .any ops listed=[]:=by
    cases hrd:Region.ready .any ops listed with
    | nil=>rfl
    | cons x xs=>
     rw [hrd] at hsel
     have hlt':t % (x::xs).length<(x::xs).length:=Nat.mod_lt _ (by simp)
     simp at hsel
     simp at hlt'
     omega
   simp only [List.reverse_nil]
   exact final listed hls Z ρ0 H w tm a K (stuck listed hs hnil) hr hf hk hq
  | some i=>
  simp only []
  rw [linearise_go_acc,List.reverse_singleton,List.singleton_append]
  have hi:i ∈ Region.ready .any ops listed:=List.mem_of_getElem? hsel
  obtain ⟨h0,o,ho,hall⟩:=mem_ready.1 hi
  have hil:i<ops.size:=(Array.getElem?_eq_some_iff.1 ho).1
  have ho':ops.toList[i]? =some o:=by rw [Array.getElem?_toList];exact ho
  obtain ⟨num,R1,R2,e1,emem,e2,e3⟩:=zi0 hT (i:=i) (o:=o) (fun j=>!listed.getD j true) (by simpa using hil) (by simp only [h0];rfl) ho'
  have hlisted:∀j,j<ops.size→(m i).testBit j=true→listed.getD j true=true:=by
   intro j hj hb
   obtain ⟨e,he,hbe,hor⟩:=hanc i j o ho' hj hb
   have hle:=hall e he hbe
   have hlt':=hlt i o ho' e he hbe
   have hle':listed.getD e.on true=true:=by
    rw [Array.getD_eq_getD_getElem?] at hle ⊢
    rw [Array.getElem?_eq_getElem (by omega)] at hle ⊢
    simpa using hle
   rcases hor with rfl | hb2
   ·exact hle'
   ·exact hcl e.on hle' (by omega) j hb2 (by omega)
  have hk2:seqP P env n (R1++(num,o)::R2) tm H K:=by rw [←e1];exact hk
  obtain ⟨v,c,e,hE,hL,hrest⟩:=pullP R1 R2 (fun x hx=>by
   obtain ⟨j,hj,hun,hxj,hcm⟩:=e2 x hx
   refine hcm ?_
   cases hb:(m i).testBit j with
   | false=>rfl
   | true=>have:=hlisted j (by simpa using hj) hb;simp [this] at hun) hk2
  have hmem:o ∈ ops.toList:=List.mem_of_getElem? ho'
  have hopok:z6l o=true:=List.all_eq_true.1 hok o hmem
  have hunl:(i,(num,o)) ∈ remP T listed:=List.mem_filter.2 ⟨emem,by simp only [h0];rfl⟩
  have hrem':remP T (listed.setIfInBounds i true)=T.filter fun t=>!listed.getD t.1 true && !(Nat.beq t.1 i):=by
   unfold remP
   apply List.filter_congr
   intro s hs'
   by_cases hji:s.1=i
   ·rw [hji,Nat.beq_refl]
    simp [hs,hil]
   ·have hb:Nat.beq s.1 i=false:=by cases hbq:Nat.beq s.1 i;rfl;exact absurd (Nat.eq_of_beq_eq_true hbq) hji
    rw [getD_set_ne true (Ne.symm hji),hb];simp
  refine C.step fun w₁ h₁=>?_
  obtain ⟨v',w',hrun,hkept,hevs,ρ1,hl1,hb1,hfam⟩:=zz3 (x:=(num,o)) hopok (hnc o hmem) (fun ρ hρ=>C.keep h₁ (hr ρ hρ)) hf hL (fun hal=>hho.have_ _ hunl hal)
  have hTT:C.T Z w w':=C.tT (C.rT h₁) (C.kT hkept)
  have hop0:=hL H (fun _ _=>rfl) (fun _ _=>True) trivial
  have hnd:∀c,o.op≠.defer c:=by
   intro c hc
   unfold opP z4d at hop0
   rw [hc] at hop0
   unfold opK at hop0
   simp only [hc] at hop0
  refine ⟨_,_,w',_,stepR_value ho (by simp [Region.wanted,hgd o hmem]) hnd hkd hrun,hkept,fun q hq'=>hevs q (mem_listed hq'),?_⟩
  refine ih _ (listed.setIfInBounds i true) _ Z ρ1 (app H c e) w' _ (a.put o.dst v') K (by simpa using hs) ?_ ?_ (hho.next hN (by omega) emem) (fun ρ hρ=>(hfam ρ hρ).1) (fun ρ hρ=>(hfam ρ hρ).2) ?_
   (fun tm'' H'' hk'' ρ'' w'' a'' q0 q1 q2 q3 q4 q5=>hq tm'' H'' hk'' ρ'' w'' a'' (q0.trans hl1) (fun b hb=>(q1 b hb).trans (hb1 b hb)) q2 q3 (q4.trans (dput a _ _)) (C.tT hTT q5))
  ·intro k hk1 hk2 j hb hj
   simp only [Array.size_setIfInBounds] at hk2 hj
   by_cases hkj:j=i
   ·subst hkj;simp [hs,hil]
   ·rw [getD_set_ne true (Ne.symm hkj)]
    by_cases hki:k=i
    ·subst hki;exact hlisted j (by omega) hb
    ·rw [getD_set_ne true (Ne.symm hki)] at hk1
     exact hcl k hk1 hk2 j hb hj
  ·rw [hrem']
   have h2:(T.filter fun t=>!listed.getD t.1 true && !(Nat.beq t.1 i))=(remP T listed).filter fun t=>!(Nat.beq t.1 i):=by
    unfold remP;rw [List.filter_filter];congr 1;funext j;exact Bool.and_comm _ _
   rw [h2]
   have this2:((remP T listed).filter fun t=>!(Nat.beq t.1 i)).length<(remP T listed).length:=
    List.length_filter_lt_length_iff_exists.2 ⟨(i,(num,o)),hunl,by show ¬((!(Nat.beq i i))=true);rw [Nat.beq_refl];simp⟩
   omega
  ·rw [hrem',e3];exact hrest
end
end Go.Proofs.YthheoefadijhdaaGreat.Ai
set_option linter.unusedSimpArgs false
set_option linter.unusedVariables false
namespace Go.Proofs.YthheoefadijhdaaGreat.Ai
open Go Go.RowKit Go.Conc

theorem zh9 {ρ ρ':Ren} {A:Nat} (hl:ρ'.length=ρ.length+A) (hb:∀b,b<ρ.length→ρ'[b]? =ρ[b]?):∃l:Ren,l.length=A∧ρ'=ρ++l:=by
 refine ⟨ρ'.drop ρ.length,by simp [hl],?_⟩
 have h:ρ'.take ρ.length=ρ:=by
  apply List.ext_getElem?
  intro i
  by_cases hi:i<ρ.length
  ·rw [List.getElem?_take,if_pos hi,hb i hi]
  ·rw [List.getElem?_eq_none (by simp;omega),List.getElem?_eq_none (by omega)]
 calc ρ'=ρ'.take ρ.length++ρ'.drop ρ.length:=(List.take_append_drop _ _).symm
  _=_:=by rw [h]

section
variable {P:Program} {env:Env} {main:Bool} {C:Car P main}
theorem zvr {ops:Array Oper} {m:Nat→Nat} (hm:z4q ops.toList m=true) (hed:z4c ops.toList=true) {T:List Tri} (hT:PiP ops.toList m T) (hN:zj6 T) (hok:ops.toList.all z6l=true)
  (hgd:∀o ∈ ops.toList,o.guard=none) (hnc:∀o ∈ ops.toList,∀f args ts,o.op≠.call ⟨.value f,args,ts⟩)
  {l:List Oper} (hp:place [] 0 l=some (T.map (·.2))) (hlen:T.length≤ops.size) (hn1:∀t ∈ T,z4d t.2.2=.al→t.2.1<als l) (hn2:∀k,k<als l→∃t ∈ T,z4d t.2.2=.al∧t.2.1=k)
  {b:Frame} {k:List Item} {cs:List Frame} (hkd:b.kind≠.early) (t:Nat) {Z:Zone} {ρ:Ren} {H:zn} {w:World} {tm:List Value} {a:Act} {K:List Value→zn→Prop}
  (hr:HR Z ρ H w) (hf:VRs ρ tm a.tmps.toList) (hk:seqK P env ops.toList l tm H K)
  (hq:∀tm' H',K tm' H'→∀Z' ρ' w' a',Zle Z' Z→ρ <+:ρ'→HR Z' ρ' H' w'→VRs ρ' tm' a'.tmps.toList→a'.defers=a.defers→C.T Z w w'→C.Will Z' (G (b.atR a' k) cs) w'):
  C.Will Z (G (b.atR a (.inRegion ops (Region.linearise.go .any ops ops.size t (Array.replicate ops.size false) [])::k)) cs) w:=by
 have hall:remP T (Array.replicate ops.size false)=T:=by
  unfold remP
  rw [List.filter_eq_self]
  intro s hs
  have:s.1<ops.size:=by simpa using (List.getElem?_eq_some_iff.1 (hT.at_ s hs)).1
  simp [this]
 have hHρ:H.length=ρ.length:=hr.len.symm ▸ rfl
 have fam:∀ρ',Fam (ρ++List.replicate (als l) (0,0,0)) ((List.range (als l)).map (H.length+·)) ρ'→∃r:Ren,r.length=als l∧ρ'=ρ++r:=by
  intro ρ' h
  refine zh9 (by simpa using h.1) fun b hb=>?_
  rw [h.2 b (by simp;omega),List.getElem?_append_left hb]
 have hseq:=zs2 (n:=H.length) l [] 0 _ tm H K hp (by intro p q;cases q) rfl hk
 refine z12h (n:=H.length) hm hed hT hN hok hgd hnc hkd ops.size t (Array.replicate ops.size false) ((List.range (als l)).map (H.length+·)) Z (ρ++List.replicate (als l) (0,0,0)) (H++List.replicate (als l) none) w tm a K (by simp) ?_ (by rw [hall];exact hlen) ?_ ?_ ?_ (by rw [hall];exact hseq) ?_
 ·intro i hi hlt;simp at hlt;simp [hlt] at hi
 ·refine ⟨fun s hs hal=>?_,fun x hx=>?_⟩
  ·rw [hall] at hs
   exact List.mem_map.2 ⟨_,List.mem_range.2 (hn1 s hs hal),rfl⟩
  ·obtain ⟨j,hj,rfl⟩:=List.mem_map.1 hx
   obtain ⟨s,h1,h2,h3⟩:=hn2 j (List.mem_range.1 hj)
   exact ⟨s,by rw [hall];exact h1,h2,by rw [h3]⟩
 ·intro ρ' h
  obtain ⟨r,h1,rfl⟩:=fam ρ' h
  rw [←h1];exact hr.pad r
 ·intro ρ' h
  obtain ⟨r,h1,rfl⟩:=fam ρ' h
  exact hf.mono (List.prefix_append _ _)
 ·intro tm' H' hk' ρ' w' a' q0 q1 q2 q3 q4 q5
  obtain ⟨r,h1,rfl⟩:=zh9 (ρ:=ρ) (ρ':=ρ') (A:=als l) (by simpa using q0) fun b hb=>by rw [q1 b (by omega),List.getElem?_append_left hb]
  exact hq tm' H' hk' Z _ w' a' (.refl Z) (List.prefix_append _ _) q2 q3 q4 q5
end
end Go.Proofs.YthheoefadijhdaaGreat.Ai
set_option linter.unusedSimpArgs false
set_option linter.unusedVariables false
namespace Go.Proofs.YthheoefadijhdaaGreat.Ai
open Go Go.RowKit Go.Conc

def noVal (o:Oper):Bool:=match o.op with
 | .call c=>match c.callee with
  | .value _=>false
  | _=>true
 | _=>true
def znd (t:Tri):Bool:=decide (z4d t.2.2=.al)
def numsT:List Tri→Bool
 | []=>true
 | t::r=>(r.all fun s=>!(Nat.beq s.1 t.1) && !(znd s && znd t && Nat.beq s.2.1 t.2.1)) && numsT r
def zvq (ops:List Oper):Bool:=z7o [] ops fun ms=>match place [] 0 (z1y ops (z1l ops)) with
 | some xs=>force xs.length fun _=>z4q ops (fun i=>ms.getD i 0) && z4c ops && Nat.beq (z1l ops).length xs.length && Nat.ble xs.length ops.length && ((List.range ops.length).all fun i=>(z1l ops).any fun j=>Nat.beq j i) && ((z1l ops).all (Nat.blt · ops.length)) &&
   zil ops (fun i=>ms.getD i 0) [] ((z1l ops).zip xs) && numsT ((z1l ops).zip xs) && (ops.all fun o=>o.guard.isNone && noVal o) &&
   (((z1l ops).zip xs).all fun t=>!(znd t) || Nat.blt t.2.1 (als (z1y ops (z1l ops)))) && ((List.range (als (z1y ops (z1l ops)))).all fun k=>((z1l ops).zip xs).any fun t=>znd t && Nat.beq t.2.1 k)
 | none=>false
theorem zrp:∀{T:List Tri},numsT T=true→zj6 T:=by
 intro T
 induction T with
 | nil=>intro _ s hs;cases hs
 | cons t T ih=>
  intro h
  simp only [numsT,Bool.and_eq_true] at h
  have one:∀s ∈ T,s.1≠t.1∧(z4d s.2.2=.al→z4d t.2.2=.al→s.2.1≠t.2.1):=by
   intro s hs
   have:=List.all_eq_true.1 h.1 s hs
   simp only [Bool.and_eq_true,Bool.not_eq_true'] at this
   refine ⟨fun e=>?_,fun h1 h2 e=>?_⟩
   ·have q:=this.1;rw [e,Nat.beq_refl] at q;cases q
   ·have q:=this.2;simp [znd,h1,h2,e] at q
  intro s hs u hu
  rcases List.mem_cons.1 hs with e1 | hs2<;>rcases List.mem_cons.1 hu with e2 | hu2
  ·subst e1;subst e2;exact ⟨fun _=>rfl,fun _ _ _=>rfl⟩
  ·subst e1;exact ⟨fun e=>absurd e.symm (one u hu2).1,fun h1 h2 e=>absurd e.symm ((one u hu2).2 h2 h1)⟩
  ·subst e2;exact ⟨fun e=>absurd e (one s hs2).1,fun h1 h2 e=>absurd e ((one s hs2).2 h1 h2)⟩
  ·exact ih h.2 s hs2 u hu2
theorem zy7 {ops:List Oper}:∀{l:List Nat},(∀i ∈ l,i<ops.length)→∀{xs:List (Nat×Oper)},xs.map (·.2)=z1y ops l→∀t ∈ l.zip xs,ops[t.1]? =some t.2.2:=by
 intro l
 induction l with
 | nil=>intro _ xs _ t ht;simp at ht
 | cons i l ih=>
  intro hl xs hx t ht
  have hi:=hl i (by simp)
  have e:z1y ops (i::l)=ops[i]::z1y ops l:=by
   unfold z1y
   rw [List.filterMap_cons_some (List.getElem?_eq_getElem hi)]
  rw [e] at hx
  cases xs with
  | nil=>simp at ht
  | cons x xs=>
   simp only [List.map_cons,List.cons.injEq] at hx
   rw [List.zip_cons_cons] at ht
   rcases List.mem_cons.1 ht with rfl | ht
   ·simp [hx.1]
   ·exact ih (fun j hj=>hl j (by simp [hj])) hx.2 t ht
theorem znp:∀{l:List Oper} {kn:List (Nat×Nat)} {k:Nat} {xs:List (Nat×Oper)},place kn k l=some xs→xs.map (·.2)=l:=by
 intro l
 induction l with
 | nil=>intro kn k xs h;simp only [place,Option.some.injEq] at h;subst h;rfl
 | cons o r ih=>
  intro kn k xs h
  simp only [place] at h
  have fin:∀{kn:List (Nat×Nat)} {k a:Nat} {xs:List (Nat×Oper)},(place kn k r).map ((a,o)::·)=some xs→xs.map (·.2)=o::r:=by
   intro kn k a xs h
   obtain ⟨ys,h1,rfl⟩:=Option.map_eq_some_iff.1 h
   simp [ih h1]
  cases hg:o.guard.isNone with
  | false=>rw [hg] at h;cases h
  | true=>
  rw [hg] at h
  simp only [cond_true] at h
  split at h
  ·cases ht:decide (touch (fun _=>(false,false)) o=.free)<;>rw [ht] at h
   ·cases h
   ·exact fin h
  ·cases ht:Nat.beq k 0<;>rw [ht] at h
   ·cases h
   ·exact fin h
  ·exact fin h
  ·split at h
   ·split at h
    ·exact fin h
    ·cases h
   ·cases h
theorem zjv {ops:List Oper} (h:zvq ops=true):∃(m:Nat→Nat) (T:List Tri),z4q ops m=true∧z4c ops=true∧PiP ops m T∧zj6 T∧(∀o ∈ ops,o.guard=none)∧(∀o ∈ ops,∀f args ts,o.op≠.call ⟨.value f,args,ts⟩)∧
  place [] 0 (z1y ops (z1l ops))=some (T.map (·.2))∧T.length≤ops.length∧(∀t ∈ T,z4d t.2.2=.al→t.2.1<als (z1y ops (z1l ops)))∧(∀k,k<als (z1y ops (z1l ops))→∃t ∈ T,z4d t.2.2=.al∧t.2.1=k):=by
 obtain ⟨ms,h⟩:=z7e h
 split at h
 case h_2=>cases h
 rename_i xs hp
 have h:_:=(show (_:Bool)=true from by unfold force at h;split at h<;>exact h)
 simp only [Bool.and_eq_true] at h
 obtain ⟨⟨⟨⟨⟨⟨⟨⟨⟨⟨h1,h2⟩,h3⟩,h4⟩,h5⟩,h6⟩,h7⟩,h8⟩,h9⟩,h10⟩,h11⟩:=h
 have hl:(z1l ops).length=xs.length:=Nat.eq_of_beq_eq_true h3
 have hlt:∀i ∈ z1l ops,i<ops.length:=fun i hi=>Nat.le_of_ble_eq_true (List.all_eq_true.1 h6 i hi)
 have hmap:((z1l ops).zip xs).map (·.2)=xs:=List.map_snd_zip (by omega)
 have hmap1:((z1l ops).zip xs).map (·.1)=z1l ops:=List.map_fst_zip (by omega)
 refine ⟨_,(z1l ops).zip xs,h1,h2,⟨zy7 hlt (znp hp),fun i hi=>?_,fun L t R e s hs=>zlu h7 L t R e s (.inr hs)⟩,zrp h8,?_,?_,by rw [hmap];exact hp,?_,?_,?_⟩
 ·obtain ⟨j,hj,hb⟩:=List.any_eq_true.1 (List.all_eq_true.1 h5 i (List.mem_range.2 hi))
  obtain rfl:=Nat.eq_of_beq_eq_true hb
  rw [←hmap1] at hj
  obtain ⟨t,ht,rfl⟩:=List.mem_map.1 hj
  exact ⟨t.2,ht⟩
 ·intro o ho
  have:=List.all_eq_true.1 h9 o ho
  simp only [Bool.and_eq_true] at this
  simpa using this.1
 ·intro o ho f args ts e
  have:=List.all_eq_true.1 h9 o ho
  simp [noVal,e] at this
 ·have:=Nat.le_of_ble_eq_true h4
  simp;omega
 ·intro t ht hal
  have:=List.all_eq_true.1 h10 t ht
  simp only [znd,hal,decide_true,Bool.not_true,Bool.false_or] at this
  exact Nat.le_of_ble_eq_true this
 ·intro k hk
  obtain ⟨t,ht,hb⟩:=List.any_eq_true.1 (List.all_eq_true.1 h11 k (List.mem_range.2 hk))
  simp only [Bool.and_eq_true,znd,decide_eq_true_eq] at hb
  exact ⟨t,ht,hb.1,Nat.eq_of_beq_eq_true hb.2⟩
end Go.Proofs.YthheoefadijhdaaGreat.Ai
set_option linter.unusedSimpArgs false
set_option linter.unusedVariables false
namespace Go.Proofs.YthheoefadijhdaaGreat.Ai
open Go Go.RowKit Go.Conc

def Zone.off (Z:Zone) (n:Nat):Zone:=⟨fun c=>Z.rd c∧c≠n,fun c=>Z.wr c∧c≠n⟩
theorem Zone.off_le (Z:Zone) (n:Nat):Zle (Z.off n) Z:=fun _=>⟨And.left,And.left⟩
def Zone.plus (Z:Zone) (n:Nat):Zone:=⟨fun c=>Z.rd c∨c=n,fun c=>Z.wr c∨c=n⟩
theorem Zle.plus {Z Z':Zone} (h:Zle Z' Z) (n:Nat):Zle (Z'.plus n) (Z.plus n):=fun c=>⟨Or.imp (h c).1 id,Or.imp (h c).2 id⟩
theorem HR.grow {Z:Zone} {ρ:Ren} {H:zn} {w:World} (h:HR Z ρ H w) (o:Obj):HR (Z.off w.heap.size) ρ H (w.alloc o):=by
 have hh:(w.alloc o).heap=w.heap.push o:=rfl
 refine ⟨h.len,fun c hc=>?_,fun b blk hb c base sz hr=>?_,h.sep⟩
 ·have hc':w.heap.size+1≤c:=by rw [hh] at hc;simpa using hc
  have:=h.fresh c (by omega)
  exact ⟨⟨this.1,by omega⟩,this.2,by omega⟩
 ·obtain ⟨arr,e,fz,h1,h2,h3,h4,h5,h6⟩:=h.live b blk hb c base sz hr
  have hlt:=(Array.getElem?_eq_some_iff.1 h1).1
  refine ⟨arr,e,fz,?_,h2,h3,h4,⟨h5,by omega⟩,fun ho=>⟨⟨(h6 ho).1,by omega⟩,(h6 ho).2⟩⟩
  rw [hh,Array.getElem?_push_lt hlt]
  rw [←h1,Array.getElem?_eq_getElem hlt]
theorem HR.late {Z:Zone} {ρ:Ren} {H:zn} {w:World} (h:HR Z ρ H w) {B:Nat} (hZ:¬Z.rd B) {cells:List Value} {arr:Array Value} {e:TypeId} (hB:w.heap[B]? =some (.cells arr e))
  (hle:cells.length≤arr.size) (hv:VRs ρ cells (arr.toList.take cells.length)) (hc:cells.all isCell=true):
  HR (Z.plus B) (ρ++[(B,0,arr.size)]) (H++[some {cells:=cells,own:=true}]) w:=by
 have hp:ρ <+:ρ++[(B,0,arr.size)]:=List.prefix_append _ _
 have get:∀(b:Nat) (blk:Blk) (c base sz:Nat),(H++[some {cells:=cells,own:=true}])[b]? =some (some blk)→(ρ++[(B,0,arr.size)])[b]? =some (c,base,sz)→
   (H[b]? =some (some blk)∧ρ[b]? =some (c,base,sz)∧b<H.length)∨(b=H.length∧blk={cells:=cells,own:=true}∧c=B∧base=0∧sz=arr.size):=by
  intro b blk c base sz hb hr
  by_cases hlt:b<H.length
  ·rw [List.getElem?_append_left hlt] at hb
   rw [List.getElem?_append_left (h.len ▸ hlt)] at hr
   exact .inl ⟨hb,hr,hlt⟩
  ·rw [List.getElem?_append_right (by omega)] at hb
   rw [List.getElem?_append_right (by rw [←h.len];omega)] at hr
   have hb0:b-H.length=0:=by
    cases hd:b-H.length with
    | zero=>rfl
    | succ n=>rw [hd] at hb;simp at hb
   rw [←h.len,hb0] at hr
   rw [hb0] at hb
   simp at hb hr
   exact .inr ⟨by omega,hb.symm,hr.1.symm,hr.2.1.symm,hr.2.2.symm⟩
 have rdc:∀(b:Nat) (blk:Blk) (c base sz:Nat),H[b]? =some (some blk)→ρ[b]? =some (c,base,sz)→Z.rd c:=by
  intro b blk c base sz hb hr
  obtain ⟨_,_,_,_,_,_,_,h5,_⟩:=h.live b blk hb c base sz hr
  exact h5
 refine ⟨by simp [h.len],fun c hc=>⟨.inl (h.fresh c hc).1,.inl (h.fresh c hc).2⟩,?_,?_⟩
 ·intro b blk hb c base sz hr
  rcases get b blk c base sz hb hr with ⟨hb',hr',_⟩ | ⟨rfl,rfl,rfl,rfl,rfl⟩
  ·obtain ⟨arr',e',fz,hh,h1,h2,h3,h4,h5⟩:=h.live b blk hb' c base sz hr'
   refine ⟨arr',e',fz,hh,h1,h2,fun i v hi=>?_,.inl h4,fun ho=>⟨.inl (h5 ho).1,(h5 ho).2⟩⟩
   obtain ⟨v',a1,a2,a3⟩:=h3 i v hi
   exact ⟨v',a1,a2.mono hp,a3⟩
  ·refine ⟨arr,e,(0,0),hB,hle,by simp,fun i v hi=>?_,.inr rfl,fun _=>⟨.inr rfl,rfl⟩⟩
   obtain ⟨v',a1,a2⟩:=hv.get hi
   have hi':i<cells.length:=(List.getElem?_eq_some_iff.1 hi).1
   rw [List.getElem?_take,if_pos hi',Array.getElem?_toList] at a1
   exact ⟨v',by rw [Nat.zero_add];exact a1,a2.mono hp,List.all_eq_true.1 hc v (List.mem_of_getElem? hi)⟩
 ·intro b1 b2 blk1 blk2 hb1 hb2 hne ho c1 p1 s1 c2 p2 s2 hr1 hr2
  rcases get b1 blk1 c1 p1 s1 hb1 hr1 with ⟨hb1',hr1',h1⟩ | ⟨rfl,rfl,rfl,rfl,rfl⟩<;>rcases get b2 blk2 c2 p2 s2 hb2 hr2 with ⟨hb2',hr2',h2⟩ | ⟨rfl,rfl,rfl,rfl,rfl⟩
  ·exact h.sep b1 b2 blk1 blk2 hb1' hb2' hne ho c1 p1 s1 c2 p2 s2 hr1' hr2'
  ·intro e;exact hZ (e ▸ rdc _ _ _ _ _ hb1' hr1')
  ·intro e;exact hZ (e ▸ rdc _ _ _ _ _ hb2' hr2')
  ·exact absurd rfl hne

structure PiX (q:Nat→Bool×Bool) (ops:List Oper) (m:Nat→Nat) (π:List Nat) (xe:Nat→Bool):Prop where
 len:π.length≤ops.length
 lt:∀i ∈ π,i<ops.length
 mem:∀i,i<ops.length→i ∈ π
 split:∀L i R,π=L++i::R→i ∉ L∧i ∉ R∧(xe i=false→∀j ∈ L,∀o o',ops[i]? =some o→ops[j]? =some o'→(m i).testBit j=false→com q ops o' o=true)
theorem ziv {listed:Array Bool} {j:Nat} (i:Nat) (h:listed.getD j true=true):(listed.setIfInBounds i true).getD j true=true:=by
 by_cases hij:j=i
 ·subst hij
  rw [Array.getD_eq_getD_getElem?,Array.getElem?_setIfInBounds]
  simp only [if_true]
  split<;>rfl
 ·rw [getD_set_ne true (Ne.symm hij)];exact h
theorem z1ab {ops:List Oper} (hed:z4c ops=true):∀i o,ops[i]? =some o→∀e ∈ o.after,Region.binds .any e=true→e.on<i:=by
 intro i o ho e he hb
 have h1:=List.all_eq_true.1 hed i (List.mem_range.2 (List.getElem?_eq_some_iff.1 ho).1)
 simp only [ho] at h1
 have h2:=List.all_eq_true.1 h1 e (by simpa using he)
 rw [hb] at h2
 simp only [Bool.not_true,Bool.false_or] at h2
 exact Nat.le_of_ble_eq_true h2
theorem z1f8 {ops:List Oper} {m:Nat→Nat} (hm:z4q ops m=true):∀i j o,ops[i]? =some o→j<ops.length→(m i).testBit j=true→∃e ∈ o.after,Region.binds .any e=true∧(e.on=j∨(m e.on).testBit j=true):=by
 intro i j o ho hj hb
 have h1:=List.all_eq_true.1 hm i (List.mem_range.2 (List.getElem?_eq_some_iff.1 ho).1)
 simp only [ho] at h1
 have h2:=List.all_eq_true.1 h1 j (List.mem_range.2 hj)
 rw [hb] at h2
 simp only [Bool.not_true,Bool.false_or] at h2
 obtain ⟨e,he,hd⟩:=List.any_eq_true.1 h2
 simp only [zdk,Bool.and_eq_true,Bool.or_eq_true] at hd
 exact ⟨e,by simpa using he,hd.1,hd.2.imp Nat.eq_of_beq_eq_true id⟩
theorem zh7 {ops:Array Oper} {m:Nat→Nat} (hm:z4q ops.toList m=true) (hed:z4c ops.toList=true) {listed:Array Bool} (hs:listed.size=ops.size) (hcl:zaw m listed) {i:Nat} (hi:i ∈ Region.ready .any ops listed):
  ∀j,j<ops.size→(m i).testBit j=true→listed.getD j true=true:=by
 obtain ⟨h0,o,ho,hall⟩:=mem_ready.1 hi
 have ho':ops.toList[i]? =some o:=by rw [Array.getElem?_toList];exact ho
 intro j hj hb
 obtain ⟨e,he,hbe,hor⟩:=z1f8 hm i j o ho' (by simpa using hj) hb
 have hle:=hall e he hbe
 have hlt':=z1ab hed i o ho' e he hbe
 have hil:i<ops.size:=(Array.getElem?_eq_some_iff.1 ho).1
 have hle':listed.getD e.on true=true:=by
  rw [Array.getD_eq_getD_getElem?] at hle ⊢
  rw [Array.getElem?_eq_getElem (by omega)] at hle ⊢
  simpa using hle
 rcases hor with rfl | hb2
 ·exact hle'
 ·exact hcl e.on hle' (by omega) j hb2 (by omega)
theorem zm1 {ops:Array Oper} {π:List Nat} (hed:z4c ops.toList=true) (hlt0:∀i ∈ π,i<ops.toList.length):∀(listed:Array Bool),listed.size=ops.size→Region.ready .any ops listed=[]→rem π listed=[]:=by
 intro listed hs hready
 apply Classical.byContradiction
 intro hne
 -- the least number that has not come up
 have hex:∃i,i<ops.size∧listed.getD i true=false:=by
  obtain ⟨i,hi⟩:=List.exists_mem_of_ne_nil _ hne
  obtain ⟨h1,h2⟩:=List.mem_filter.1 hi
  exact ⟨i,by simpa using hlt0 i h1,by simpa using h2⟩
 have hmin:∃i,(i<ops.size∧listed.getD i true=false)∧∀j,j<i→¬(j<ops.size∧listed.getD j true=false):=by
  obtain ⟨i,hi⟩:=hex
  induction i using Nat.strongRecOn with
  | _ i ih=>
   by_cases h:∃j,j<i∧(j<ops.size∧listed.getD j true=false)
   ·obtain ⟨j,hj,h2⟩:=h;exact ih j hj h2
   ·exact ⟨i,hi,fun j hj h2=>h ⟨j,hj,h2⟩⟩
 obtain ⟨i,⟨hi,hun⟩,hleast⟩:=hmin
 have ho:ops[i]? =some ops[i]:=Array.getElem?_eq_getElem hi
 have:i ∈ Region.ready .any ops listed:=by
  rw [mem_ready]
  refine ⟨hun,ops[i],ho,fun e he hb=>?_⟩
  have hl:=z1ab hed i ops[i] (by rw [Array.getElem?_toList];exact ho) e he hb
  have h3:=hleast e.on hl
  have hsz:e.on<ops.size:=by omega
  cases hv:listed.getD e.on true with
  | true=>
   rw [Array.getD_eq_getD_getElem?] at hv ⊢
   rw [Array.getElem?_eq_getElem (by omega)] at hv ⊢
   simpa using hv
  | false=>exact absurd ⟨hsz,hv⟩ h3
 rw [hready] at this
 cases this

section
variable {P:Program} {env:Env} {X:Cls P} {main:Bool} {C:Car P main}
theorem z8a {q:Nat→Bool×Bool} {ops:List Oper} {m:Nat→Nat} {π:List Nat} {xe:Nat→Bool} (hπ:PiX q ops m π xe) {i:Nat} {o:Oper} (p:Nat→Bool) (hx0:∀L R,π=L++i::R→xe i=true→∀j ∈ L,p j=true→∀o o',ops[i]? =some o→ops[j]? =some o'→com q ops o' o=true) (hi:i<ops.length) (hp:p i=true) (ho:ops[i]? =some o):
  ∃R1 R2,z1y ops (π.filter p)=R1++o::R2∧(∀x ∈ R1,∃j,j<ops.length∧p j=true∧ops[j]? =some x∧((m i).testBit j=false→com q ops x o=true))∧
   z1y ops (π.filter fun j=>p j && !(Nat.beq j i))=R1++R2:=by
 obtain ⟨L,R,e⟩:=List.append_of_mem (hπ.mem i hi)
 obtain ⟨n1,n2,hc⟩:=hπ.split L i R e
 refine ⟨z1y ops (L.filter p),z1y ops (R.filter p),?_,?_,?_⟩
 ·rw [e,List.filter_append,List.filter_cons_of_pos hp]
  simp [z1y,List.filterMap_append,List.filterMap_cons,ho]
 ·intro x hx
  obtain ⟨j,hj,hx⟩:=List.mem_filterMap.1 hx
  obtain ⟨h1,h2⟩:=List.mem_filter.1 hj
  refine ⟨j,hπ.lt j (by rw [e];simp [h1]),h2,hx,fun hb=>?_⟩
  cases hxe:xe i with
  | true=>exact hx0 L R e hxe j h1 h2 o x ho hx
  | false=>exact hc hxe j h1 o x ho hx hb
 ·rw [e,List.filter_append]
  have hpi:¬((p i && !(Nat.beq i i))=true):=by rw [Nat.beq_refl];simp
  rw [List.filter_cons_of_neg (p:=fun j=>p j && !(Nat.beq j i)) hpi]
  have ne:∀l:List Nat,i ∉ l→l.filter (fun j=>p j && !(Nat.beq j i))=l.filter p:=by
   intro l hl
   apply List.filter_congr
   intro j hj
   have hb:Nat.beq j i=false:=by
    cases hbq:Nat.beq j i with
    | false=>rfl
    | true=>have:=Nat.eq_of_beq_eq_true hbq;subst this;exact absurd hj hl
   rw [hb];simp
  rw [ne L n1,ne R n2]
  simp [z1y,List.filterMap_append]
theorem zov (hX:X main C) {ops:Array Oper} (henv:∀g,FnOkX P X g (env g)) {m:Nat→Nat} (hm:z4q ops.toList m=true) (hed:z4c ops.toList=true) {π:List Nat} {xe:Nat→Bool} (hπ:PiX (fun g=>((env g).quiet,(env g).tame)) ops.toList m π xe) (hok:ops.toList.all z6l=true)
  {b:Frame} {k:List Item} {cs:List Frame} (hkd:b.kind≠.early):∀(fuel t:Nat) (listed:Array Bool) (Z:Zone) (ρ:Ren) (H:zn) (w:World) (tm:List Value) (a:Act) (K:List Value→zn→Prop),
  listed.size=ops.size→zaw m listed→(∀L i R,π=L++i::R→xe i=true→listed.getD i true=true∨∀j ∈ L,listed.getD j true=true∨∀o o',ops.toList[i]? =some o→ops.toList[j]? =some o'→com (fun g=>((env g).quiet,(env g).tame)) ops.toList o' o=true)→(rem π listed).length≤fuel→HR Z ρ H w→VRs ρ tm a.tmps.toList→seqK P env ops.toList (z1y ops.toList (rem π listed)) tm H K→
  (∀tm' H',K tm' H'→∀Z' ρ' w' a',Zle Z' Z→ρ <+:ρ'→HR Z' ρ' H' w'→VRs ρ' tm' a'.tmps.toList→a'.defers=a.defers→C.T Z w w'→C.Will Z' (G (b.atR a' k) cs) w')→
  C.Will Z (G (b.atR a (.inRegion ops (Region.linearise.go .any ops fuel t listed [])::k)) cs) w:=by
 have hlt:∀i o,ops.toList[i]? =some o→∀e ∈ o.after,Region.binds .any e=true→e.on<i:=by
  intro i o ho e he hb
  have h1:=List.all_eq_true.1 hed i (List.mem_range.2 (List.getElem?_eq_some_iff.1 ho).1)
  simp only [ho] at h1
  have h2:=List.all_eq_true.1 h1 e (by simpa using he)
  rw [hb] at h2
  simp only [Bool.not_true,Bool.false_or] at h2
  exact Nat.le_of_ble_eq_true h2
 have hanc:∀i j o,ops.toList[i]? =some o→j<ops.size→(m i).testBit j=true→∃e ∈ o.after,Region.binds .any e=true∧(e.on=j∨(m e.on).testBit j=true):=by
  intro i j o ho hj hb
  have h1:=List.all_eq_true.1 hm i (List.mem_range.2 (List.getElem?_eq_some_iff.1 ho).1)
  simp only [ho] at h1
  have h2:=List.all_eq_true.1 h1 j (List.mem_range.2 (by simpa using hj))
  rw [hb] at h2
  simp only [Bool.not_true,Bool.false_or] at h2
  obtain ⟨e,he,hd⟩:=List.any_eq_true.1 h2
  simp only [zdk,Bool.and_eq_true,Bool.or_eq_true] at hd
  exact ⟨e,by simpa using he,hd.1,hd.2.imp Nat.eq_of_beq_eq_true id⟩
 have final:∀(listed:Array Bool) (Z:Zone) (ρ:Ren) (H:zn) (w:World) (tm:List Value) (a:Act) (K:List Value→zn→Prop),listed.size=ops.size→rem π listed=[]→HR Z ρ H w→VRs ρ tm a.tmps.toList→
   seqK P env ops.toList (z1y ops.toList (rem π listed)) tm H K→
   (∀tm' H',K tm' H'→∀Z' ρ' w' a',Zle Z' Z→ρ <+:ρ'→HR Z' ρ' H' w'→VRs ρ' tm' a'.tmps.toList→a'.defers=a.defers→C.T Z w w'→C.Will Z' (G (b.atR a' k) cs) w')→C.Will Z (G (b.atR a (.inRegion ops []::k)) cs) w:=by
  intro listed Z ρ H w tm a K hs hrem hr hf hk hq
  rw [hrem] at hk
  exact C.still (fun w₁=>z1w) (hq tm H hk Z ρ w a (.refl Z) (List.prefix_refl _) hr hf rfl (C.rT (C.refl Z w)))
 have stuck:∀(listed:Array Bool),listed.size=ops.size→Region.ready .any ops listed=[]→rem π listed=[]:=by
  intro listed hs hready
  apply Classical.byContradiction
  intro hne
  -- the least number that has not come up
  have hex:∃i,i<ops.size∧listed.getD i true=false:=by
   obtain ⟨i,hi⟩:=List.exists_mem_of_ne_nil _ hne
   obtain ⟨h1,h2⟩:=List.mem_filter.1 hi
   exact ⟨i,by simpa using hπ.lt i h1,by simpa using h2⟩
  have hmin:∃i,(i<ops.size∧listed.getD i true=false)∧∀j,j<i→¬(j<ops.size∧listed.getD j true=false):=by
   obtain ⟨i,hi⟩:=hex
   induction i using Nat.strongRecOn with
   | _ i ih=>
    by_cases h:∃j,j<i∧(j<ops.size∧listed.getD j true=false)
    ·obtain ⟨j,hj,h2⟩:=h;exact ih j hj h2
    ·exact ⟨i,hi,fun j hj h2=>h ⟨j,hj,h2⟩⟩
  obtain ⟨i,⟨hi,hun⟩,hleast⟩:=hmin
  have ho:ops[i]? =some ops[i]:=Array.getElem?_eq_getElem hi
  have:i ∈ Region.ready .any ops listed:=by
   rw [mem_ready]
   refine ⟨hun,ops[i],ho,fun e he hb=>?_⟩
   have hl:=hlt i ops[i] (by rw [Array.getElem?_toList];exact ho) e he hb
   have h3:=hleast e.on hl
   have hsz:e.on<ops.size:=by omega
   cases hv:listed.getD e.on true with
   | true=>
    rw [Array.getD_eq_getD_getElem?] at hv ⊢
    rw [Array.getElem?_eq_getElem (by omega)] at hv ⊢
    simpa using hv
   | false=>exact absurd ⟨hsz,hv⟩ h3
  rw [hready] at this
  cases this
 intro fuel
 induction fuel with
 | zero=>
  intro t listed Z ρ H w tm a K hs hcl hxx hfu hr hf hk hq
  have hrem:rem π listed=[]:=List.length_eq_zero_iff.1 (by omega)
  simp only [Region.linearise.go,List.reverse_nil]
  exact final listed Z ρ H w tm a K hs hrem hr hf hk hq
 | succ fuel ih=>
  intro t listed Z ρ H w tm a K hs hcl hxx hfu hr hf hk hq
  simp only [Region.linearise.go]
  change C.Will Z (G (b.atR a (.inRegion ops (match (Region.ready .any ops listed)[t % (Region.ready .any ops listed).length]? with
   | some i=>Region.linearise.go .any ops fuel (t / (Region.ready .any ops listed).length) (listed.setIfInBounds i true) [i]
   | none=>[].reverse)::k)) cs) w
  cases hsel:(Region.ready .any ops listed)[t % (Region.ready .any ops listed).length]? with
  | none=>
   have hnil:Region.ready .any ops listed=[]:=by
    cases hrd:Region.ready .any ops listed with
    | nil=>rfl
    | cons x xs=>
     rw [hrd] at hsel
     have hlt':t % (x::xs).length<(x::xs).length:=Nat.mod_lt _ (by simp)
     simp at hsel
     simp at hlt'
     omega
   simp only [List.reverse_nil]
   exact final listed Z ρ H w tm a K hs (stuck listed hs hnil) hr hf hk hq
  | some i=>
  simp only []
  rw [linearise_go_acc,List.reverse_singleton,List.singleton_append]
  have hi:i ∈ Region.ready .any ops listed:=List.mem_of_getElem? hsel
  obtain ⟨h0,o,ho,hall⟩:=mem_ready.1 hi
  have hil:i<ops.size:=(Array.getElem?_eq_some_iff.1 ho).1
  have ho':ops.toList[i]? =some o:=by rw [Array.getElem?_toList];exact ho
  obtain ⟨R1,R2,e1,e2,e3⟩:=z8a hπ (i:=i) (o:=o) (fun j=>!listed.getD j true) (fun L R e hx j hj hp o1 o2 g1 g2=>by
   rcases ((hxx L i R e hx).resolve_left (by rw [h0];simp)) j hj with h9 | h9
   ·rw [h9] at hp;cases hp
   ·exact h9 o1 o2 g1 g2) (by simpa using hil) (by simp only [h0];rfl) ho'
  have hlisted:∀j,j<ops.size→(m i).testBit j=true→listed.getD j true=true:=by
   intro j hj hb
   obtain ⟨e,he,hbe,hor⟩:=hanc i j o ho' hj hb
   have hle:=hall e he hbe
   have hlt':=hlt i o ho' e he hbe
   have hle':listed.getD e.on true=true:=by
    rw [Array.getD_eq_getD_getElem?] at hle ⊢
    rw [Array.getElem?_eq_getElem (by omega)] at hle ⊢
    simpa using hle
   rcases hor with rfl | hb2
   ·exact hle'
   ·exact hcl e.on hle' (by omega) j hb2 (by omega)
  have hk2:seqK P env ops.toList (R1++o::R2) tm H K:=by rw [←e1];exact hk
  have hstep:=pull henv R1 R2 (fun x hx=>by
   obtain ⟨j,hj,hun,hxj,hcm⟩:=e2 x hx
   refine hcm ?_
   cases hb:(m i).testBit j with
   | false=>rfl
   | true=>have:=hlisted j (by simpa using hj) hb;simp [this] at hun) hk2
  have hopok:z6l o=true:=List.all_eq_true.1 hok o (List.mem_of_getElem? ho')
  -- what is left
  have hrem':∀listed',listed'=listed.setIfInBounds i true→rem π listed'=π.filter fun j=>!listed.getD j true && !(Nat.beq j i):=by
   rintro _ rfl
   unfold rem
   apply List.filter_congr
   intro j hj
   by_cases hji:j=i
   ·subst hji
    rw [Nat.beq_refl]
    simp [hs,hil]
   ·have hb:Nat.beq j i=false:=by cases hbq:Nat.beq j i;rfl;exact absurd (Nat.eq_of_beq_eq_true hbq) hji
    rw [getD_set_ne true (Ne.symm hji),hb];simp
  have hnext:∀tm' H',seqK P env ops.toList (R1++R2) tm' H' K→∀Z' ρ' w' a',Zle Z' Z→ρ <+:ρ'→HR Z' ρ' H' w'→VRs ρ' tm' a'.tmps.toList→a'.defers=a.defers→C.T Z w w'→
    C.Will Z' (G (b.atR a' (.inRegion ops (Region.linearise.go .any ops fuel (t / (Region.ready .any ops listed).length) (listed.setIfInBounds i true) [])::k)) cs) w':=by
   intro tm' H' hk' Z' ρ' w' a' g0 g1 g2 g3 g4 g5
   refine ih _ (listed.setIfInBounds i true) Z' ρ' H' w' tm' a' K (by simpa using hs) ?_ (fun L j R e hx=>(hxx L j R e hx).imp (ziv _) fun h q hq=>(h q hq).imp (ziv _) id) ?_ g2 g3 ?_ fun tm'' H'' hk'' Z'' ρ'' w'' a'' q0 q1 q2 q3 q4 q5=>hq tm'' H'' hk'' Z'' ρ'' w'' a'' (q0.trans g0) (g1.trans q1) q2 q3 (q4.trans g4) (C.tT g5 (C.mT g0 q5))
   ·intro k hk1 hk2 j hb hj
    simp only [Array.size_setIfInBounds] at hk2 hj
    by_cases hkj:j=i
    ·subst hkj;simp [hs,hil]
    ·rw [getD_set_ne true (Ne.symm hkj)]
     by_cases hki:k=i
     ·subst hki;exact hlisted j (by omega) hb
     ·rw [getD_set_ne true (Ne.symm hki)] at hk1
      exact hcl k hk1 hk2 j hb hj
   ·rw [hrem' _ rfl]
    have hlen:(π.filter fun j=>!listed.getD j true && !(Nat.beq j i)).length<(rem π listed).length:=by
     have h1:i ∈ rem π listed:=List.mem_filter.2 ⟨hπ.mem i (by simpa using hil),by simp [h0]⟩
     have h2:(π.filter fun j=>!listed.getD j true && !(Nat.beq j i))=(rem π listed).filter fun j=>!(Nat.beq j i):=by
      unfold rem;rw [List.filter_filter];congr 1;funext j;exact Bool.and_comm _ _
     rw [h2]
     exact List.length_filter_lt_length_iff_exists.2 ⟨i,h1,by rw [Nat.beq_refl];simp⟩
    omega
   ·rw [hrem' _ rfl,e3];exact hk'
  exact zbw hX hr hf hopok henv hstep ho hkd hnext
end
end Go.Proofs.YthheoefadijhdaaGreat.Ai
set_option linter.unusedSimpArgs false
set_option linter.unusedVariables false
namespace Go.Proofs.YthheoefadijhdaaGreat.Ai
open Go Go.RowKit Go.Conc

structure LateC {P:Program} (X:Cls P) {main:Bool} (C:Car P main):Prop where
 tK:∀{Z:Zone} {w w':World},C.T Z w w'→Kept Z w w'
 also:∀B:Nat,∃C':Car P main,X main C'∧(∀{Z:Zone} {w w':World},C'.T Z w w'→Kept Z w w')∧
  (∀{Z:Zone} {g:Goroutine} {w:World},C'.Will (Z.off B) g w→Z.rd B→B<w.heap.size→C.Will Z g w)∧
  (∀{Z:Zone} {g:Goroutine} {w:World},B<w.heap.size→C.Will (Z.plus B) g w→C'.Will Z g w)

def Bad (q:Nat→Bool×Bool) (ops:List Oper) (iA j:Nat):Prop:=∃o oA,ops[j]? =some o∧ops[iA]? =some oA∧com q ops o oA=false
structure LateOk (q:Nat→Bool×Bool) (ops:List Oper) (m:Nat→Nat) (π:List Nat) (iA:Nat) (d:Tmp) (L R:List Nat):Prop where
 pi:PiX q ops m π (fun i=>Nat.beq i iA)
 at_:π=L++iA::R
 op:∃o t,ops[iA]? =some o∧o.op=.alloc t∧o.dst=some d
 gd:∀o ∈ ops,o.guard=none
 away:∀(j:Nat) (o:Oper),ops[j]? =some o→j≠iA→(m j).testBit iA=false→(∀x ∈ o.op.operands,x≠.tmp d)∧o.dst≠some d
 aft:∀j,j<ops.length→(m j).testBit iA=true→∀i ∈ L,Bad q ops iA i→(m j).testBit i=true

def VRx (d:Tmp) (ρ:Ren) (tm:List Value) (a:Act):Prop:=tm.length=a.tmps.size∧∀t,t≠d→VR ρ (tm.getD t undef) (a.tmps.getD t undef)
theorem VRx.of {d:Tmp} {ρ:Ren} {tm:List Value} {a:Act} (h:VRs ρ tm a.tmps.toList) (v':Value):VRx d ρ tm (a.put (some d) v'):=by
 refine ⟨by have:=h.1;simp [Act.put] at this ⊢;exact this,fun t ht=>?_⟩
 have:=h.getD t
 have e:(a.put (some d) v').tmps.getD t undef=a.tmps.toList.getD t undef:=by
  simp only [Act.put,Array.getD_eq_getD_getElem?,List.getD_eq_getElem?_getD,Array.getElem?_toList]
  rw [Array.getElem?_setIfInBounds_ne (Ne.symm ht)]
 rw [e];exact this
theorem VRx.mono {d:Tmp} {ρ ρ':Ren} {tm:List Value} {a:Act} (h:VRx d ρ tm a) (hp:ρ <+:ρ'):VRx d ρ' tm a:=⟨h.1,fun t ht=>(h.2 t ht).mono hp⟩
theorem VRx.put {d:Tmp} {ρ:Ren} {tm:List Value} {a:Act} (h:VRx d ρ tm a) {x:Option Tmp} (hx:x≠some d) {v v':Value} (hv:VR ρ v v'):VRx d ρ (putT tm x v) (a.put x v'):=by
 cases x with
 | none=>exact h
 | some x=>
  refine ⟨by simpa [putT,Act.put] using h.1,fun t ht=>?_⟩
  have h2:=h.2 t ht
  have hl:tm.length=a.tmps.size:=h.1
  simp only [putT,Act.put,Array.getD_eq_getD_getElem?,List.getD_eq_getElem?_getD] at h2 ⊢
  by_cases hxt:x=t
  ·subst hxt
   by_cases hlt:x<a.tmps.size
   ·have hxl:x<tm.length:=by rw [hl];exact hlt
    rw [List.getElem?_set_self hxl,Array.getElem?_setIfInBounds_self_of_lt hlt];exact hv
   ·have h3:(tm.set x v).length≤x:=by rw [List.length_set,hl];exact Nat.le_of_not_lt hlt
    have h4:(a.tmps.setIfInBounds x v').size≤x:=by rw [Array.size_setIfInBounds];exact Nat.le_of_not_lt hlt
    rw [List.getElem?_eq_none h3,Array.getElem?_eq_none h4];exact z7d
  ·rw [List.getElem?_set_ne hxt,Array.getElem?_setIfInBounds_ne hxt];exact h2
theorem VRx.to {d:Tmp} {ρ:Ren} {tm:List Value} {a:Act} (h:VRx d ρ tm a) {v:Value} (hv:d<a.tmps.size→VR ρ v (a.tmps.getD d undef)):VRs ρ (putT tm (some d) v) a.tmps.toList:=by
 refine ⟨by simpa [putT] using h.1,fun i x y hx hy=>?_⟩
 have hl:tm.length=a.tmps.size:=h.1
 by_cases hid:i=d
 ·subst hid
  have hlt:i<a.tmps.size:=by have:=(List.getElem?_eq_some_iff.1 hy).1;simpa using this
  simp only [putT] at hx
  rw [List.getElem?_set_self (by omega)] at hx
  cases hx
  have:=hv hlt
  rw [Array.getD_eq_getD_getElem?] at this
  rw [Array.getElem?_toList] at hy
  rw [hy] at this
  exact this
 ·have h2:=h.2 i hid
  simp only [putT] at hx
  rw [List.getElem?_set_ne (Ne.symm hid)] at hx
  rw [Array.getElem?_toList] at hy
  rw [Array.getD_eq_getD_getElem?,List.getD_eq_getElem?_getD,hx,hy] at h2
  exact h2
theorem VRx.ev {d:Tmp} {ρ:Ren} {tm:List Value} {a:Act} (h:VRx d ρ tm a) {x:Operand} (hx:zbf x=true) (hd:x≠.tmp d):VR ρ (evT tm x) (a.eval x):=by
 cases x with
 | tmp t=>
  have:=h.2 t (fun e=>hd (by rw [e]))
  simpa [evT,Act.eval] using this
 | const v=>exact zge (tm:=[]) (a:=⟨#[],[]⟩) (.nil ρ) hx
 | global g=>exact zge (tm:=[]) (a:=⟨#[],[]⟩) (.nil ρ) hx
 | func f=>exact zge (tm:=[]) (a:=⟨#[],[]⟩) (.nil ρ) hx

def Pend (B:Nat) (d:Tmp) (f:Nat→Value) (cells:List Value) (ρ:Ren) (w:World) (a:Act):Prop:=
 ∃(arr:Array Value) (e:TypeId),w.heap[B]? =some (.cells arr e)∧cells.length≤arr.size∧VRs ρ cells (arr.toList.take cells.length)∧cells.all isCell=true∧
  ∀(ρ':Ren) (b:Nat),ρ'[b]? =some (B,0,arr.size)→d<a.tmps.size→VR ρ' (f b) (a.tmps.getD d undef)
theorem Pend.lt {B:Nat} {d:Tmp} {f:Nat→Value} {cells:List Value} {ρ:Ren} {w:World} {a:Act} (h:Pend B d f cells ρ w a):B<w.heap.size:=by
 obtain ⟨_,_,h1,_⟩:=h;exact (Array.getElem?_eq_some_iff.1 h1).1
theorem Pend.next {B:Nat} {d:Tmp} {f:Nat→Value} {cells:List Value} {ρ ρ':Ren} {w w':World} {a:Act} (h:Pend B d f cells ρ w a) {Z:Zone} (hZ:¬Z.wr B) (k:Kept Z w w') (hp:ρ <+:ρ') {x:Option Tmp} (hx:x≠some d) (v':Value):Pend B d f cells ρ' w' (a.put x v'):=by
 have hlt:=h.lt
 obtain ⟨arr,e,h1,h2,h3,h4,h5⟩:=h
 refine ⟨arr,e,(k.block B hlt hZ).trans h1,h2,h3.mono hp,h4,fun ρ'' b hb hd=>?_⟩
 have es:(a.put x v').tmps.getD d undef=a.tmps.getD d undef:=by
  cases x with
  | none=>rfl
  | some x=>
   simp only [Act.put,Array.getD_eq_getD_getElem?]
   rw [Array.getElem?_setIfInBounds_ne (fun q=>hx (by rw [q]))]
 have hd':d<a.tmps.size:=by cases x<;>simpa [Act.put] using hd
 rw [es];exact h5 ρ'' b hb hd'

section
variable {P:Program} {env:Env} {X:Cls P} {main:Bool} {C C':Car P main}
theorem zc8 {ops:List Oper} {o:Oper} (hg:o.guard=none) {tm:List Value} {H:zn} {K:List Value→zn→Prop} (h:z5u P env ops o tm H K):opK P env o (evT tm) H fun v H'=>K (putT tm o.dst v) H':=by
 unfold z5u at h
 rw [hg] at h
 exact (z1c h).2
theorem zs6 {ops:List Oper} (henv:∀g,FnOkX P X g (env g)) {x:Oper}:∀{R1 R2:List Oper} {tm:List Value} {H:zn} {K:List Value→zn→Prop},seqK P env ops (R1++x::R2) tm H K→∃tm' H',seqK P env ops (x::R2) tm' H' K:=by
 intro R1
 induction R1 with
 | nil=>intro R2 tm H K h;exact ⟨_,_,h⟩
 | cons y R1 ih=>
  intro R2 tm H K h
  have h':z5u P env ops y tm H fun tm' H'=>seqK P env ops (R1++x::R2) tm' H' K:=h
  rw [z7t] at h'
  split at h'
  ·obtain ⟨v,H',h2⟩:=zii henv h';exact ih h2
  ·exact ih h'
  ·exact h'.elim
theorem zxm {ops:Array Oper} {listed:Array Bool} {t:Nat} (hsel:(Region.ready .any ops listed)[t % (Region.ready .any ops listed).length]? =none):Region.ready .any ops listed=[]:=by
 cases hrd:Region.ready .any ops listed with
 | nil=>rfl
 | cons x xs=>
  rw [hrd] at hsel
  have hlt':t % (x::xs).length<(x::xs).length:=Nat.mod_lt _ (by simp)
  simp at hsel
  simp at hlt'
  omega
theorem zbz {ops:Array Oper} {m:Nat→Nat} {listed:Array Bool} {i:Nat} (hs:listed.size=ops.size) (hcl:zaw m listed) (hil:i<ops.size) (hlisted:∀j,j<ops.size→(m i).testBit j=true→listed.getD j true=true):zaw m (listed.setIfInBounds i true):=by
 intro k hk1 hk2 j hb hj
 simp only [Array.size_setIfInBounds] at hk2 hj
 by_cases hkj:j=i
 ·subst hkj;simp [hs,hil]
 ·rw [getD_set_ne true (Ne.symm hkj)]
  by_cases hki:k=i
  ·subst hki;exact hlisted j (by omega) hb
  ·rw [getD_set_ne true (Ne.symm hki)] at hk1
   exact hcl k hk1 hk2 j hb hj
theorem zq3 {π:List Nat} {ops:Array Oper} {listed:Array Bool} {i:Nat} (hs:listed.size=ops.size) (hil:i<ops.size) (hi:i ∈ π) (h0:listed.getD i true=false):(rem π (listed.setIfInBounds i true)).length<(rem π listed).length:=by
 have h1:i ∈ rem π listed:=List.mem_filter.2 ⟨hi,by simp [h0]⟩
 have h2:rem π (listed.setIfInBounds i true)=(rem π listed).filter fun j=>!(Nat.beq j i):=by
  unfold rem
  rw [List.filter_filter]
  apply List.filter_congr
  intro j hj
  by_cases hji:j=i
  ·subst hji
   rw [Nat.beq_refl]
   simp [hs,hil]
  ·have hb:Nat.beq j i=false:=by cases hbq:Nat.beq j i;rfl;exact absurd (Nat.eq_of_beq_eq_true hbq) hji
   rw [getD_set_ne true (Ne.symm hji),hb];simp
 rw [h2]
 exact List.length_filter_lt_length_iff_exists.2 ⟨i,h1,by rw [Nat.beq_refl];simp⟩

variable {ops:Array Oper} {m:Nat→Nat} {π L R:List Nat} {iA d:Nat}
theorem zxo (hX:X main C) (hX':X main C') (tK:∀{Z:Zone} {w w':World},C.T Z w w'→Kept Z w w') (tK':∀{Z:Zone} {w w':World},C'.T Z w w'→Kept Z w w') {B:Nat}
  (hpl:∀{Z:Zone} {g:Goroutine} {w:World},B<w.heap.size→C.Will (Z.plus B) g w→C'.Will Z g w) (henv:∀g,FnOkX P X g (env g)) (hm:z4q ops.toList m=true) (hed:z4c ops.toList=true)
  (hL:LateOk (fun g=>((env g).quiet,(env g).tame)) ops.toList m π iA d L R) (hok:ops.toList.all z6l=true) {b:Frame} {k:List Item} {cs:List Frame} (hkd:b.kind≠.early) {f:Nat→Value} {cells:List Value}
  (hfA:∀oA,ops.toList[iA]? =some oA→∀ev,AlF (opK P env oA ev) f cells):∀(fuel t:Nat) (listed:Array Bool) (Z:Zone) (ρ:Ren) (H:zn) (w:World) (tm:List Value) (a:Act) (K:List Value→zn→Prop),
  listed.size=ops.size→zaw m listed→listed.getD iA true=true→(rem π listed).length≤fuel→¬Z.rd B→¬Z.wr B→Pend B d f cells ρ w a→HR Z ρ H w→VRx d ρ tm a→
  seqK P env ops.toList (z1y ops.toList (π.filter fun j=>!listed.getD j true || Nat.beq j iA)) tm H K→
  (∀tm' H',K tm' H'→∀Z' ρ' w' a',Zle Z' (Z.plus B)→ρ <+:ρ'→HR Z' ρ' H' w'→VRs ρ' tm' a'.tmps.toList→a'.defers=a.defers→Kept (Z.plus B) w w'→C.Will Z' (G (b.atR a' k) cs) w')→
  C'.Will Z (G (b.atR a (.inRegion ops (Region.linearise.go .any ops fuel t listed [])::k)) cs) w:=by
 obtain ⟨oA,tA,hoA,hopA,hdA⟩:=hL.op
 obtain ⟨nL,nR,_⟩:=hL.pi.split L iA R hL.at_
 have hgA:oA.guard=none:=hL.gd oA (List.mem_of_getElem? hoA)
 have flush:∀(fuel t:Nat) (listed:Array Bool) (Z:Zone) (ρ:Ren) (H:zn) (w:World) (tm:List Value) (a:Act) (K:List Value→zn→Prop),
  listed.size=ops.size→zaw m listed→listed.getD iA true=true→(rem π listed).length≤fuel→¬Z.rd B→¬Z.wr B→Pend B d f cells ρ w a→HR Z ρ H w→VRx d ρ tm a→
  seqK P env ops.toList (z1y ops.toList (π.filter fun j=>!listed.getD j true || Nat.beq j iA)) tm H K→
  (∀tm' H',K tm' H'→∀Z' ρ' w' a',Zle Z' (Z.plus B)→ρ <+:ρ'→HR Z' ρ' H' w'→VRs ρ' tm' a'.tmps.toList→a'.defers=a.defers→Kept (Z.plus B) w w'→C.Will Z' (G (b.atR a' k) cs) w')→
  (∀j ∈ L,Bad (fun g=>((env g).quiet,(env g).tame)) ops.toList iA j→listed.getD j true=true)→C'.Will Z (G (b.atR a (.inRegion ops (Region.linearise.go .any ops fuel t listed [])::k)) cs) w:=by
  intro fuel t listed Z ρ H w tm a K hs hcl hlA hfu hZr hZw hP hr hf hk hq hall
  have l0:(L.filter fun j=>!listed.getD j true || Nat.beq j iA)=L.filter fun j=>!listed.getD j true:=List.filter_congr fun j hj=>by
   have h2:Nat.beq j iA=false:=by cases hb:Nat.beq j iA;rfl;exact absurd (Nat.eq_of_beq_eq_true hb) (fun e=>nL (e ▸ hj))
   rw [h2,Bool.or_false]
  have r0:(R.filter fun j=>!listed.getD j true || Nat.beq j iA)=R.filter fun j=>!listed.getD j true:=List.filter_congr fun j hj=>by
   have h2:Nat.beq j iA=false:=by cases hb:Nat.beq j iA;rfl;exact absurd (Nat.eq_of_beq_eq_true hb) (fun e=>nR (e ▸ hj))
   rw [h2,Bool.or_false]
  have e1:z1y ops.toList (π.filter fun j=>!listed.getD j true || Nat.beq j iA)=z1y ops.toList (L.filter fun j=>!listed.getD j true)++oA::z1y ops.toList (R.filter fun j=>!listed.getD j true):=by
   rw [hL.at_,List.filter_append,l0,List.filter_cons_of_pos (by rw [Nat.beq_refl,Bool.or_true]),r0]
   unfold z1y
   rw [List.filterMap_append,List.filterMap_cons_some hoA]
  have e2:z1y ops.toList (rem π listed)=z1y ops.toList (L.filter fun j=>!listed.getD j true)++z1y ops.toList (R.filter fun j=>!listed.getD j true):=by
   unfold rem
   rw [hL.at_,List.filter_append,List.filter_cons_of_neg (by rw [hlA];simp)]
   unfold z1y
   rw [List.filterMap_append]
  rw [e1] at hk
  have hk1:=pull henv _ _ (fun x hx=>by
   obtain ⟨j,hj,hxj⟩:=List.mem_filterMap.1 hx
   obtain ⟨j1,j2⟩:=List.mem_filter.1 hj
   cases hcm:com (fun g=>((env g).quiet,(env g).tame)) ops.toList x oA with
   | true=>rfl
   | false=>
    have:=hall j j1 ⟨x,oA,hxj,hoA,hcm⟩
    rw [this] at j2;cases j2) hk
  rw [←e2] at hk1
  have hk2:=zc8 hgA (o:=oA) hk1
  rw [hfA oA hoA] at hk2
  rw [hdA] at hk2
  have hBl:=hP.lt
  obtain ⟨arr,e,g1,g2,g3,g4,g5⟩:=hP
  refine hpl hBl (zov hX henv hm hed hL.pi hok hkd fuel t listed (Z.plus B) (ρ++[(B,0,arr.size)]) _ w _ a K hs hcl (fun L' i R' _ hx=>.inl (Nat.eq_of_beq_eq_true hx ▸ hlA)) hfu (hr.late hZr g1 g2 g3 g4) ((hf.mono (List.prefix_append _ _)).to fun hd=>g5 _ _ (by rw [hr.len];simp) hd) hk2 ?_)
  exact fun tm' H' hk' Z' ρ' w' a' q0 q1 q2 q3 q4 q5=>hq tm' H' hk' Z' ρ' w' a' q0 ((List.prefix_append _ _).trans q1) q2 q3 q4 (tK q5)
 intro fuel
 induction fuel with
 | zero=>
  intro t listed Z ρ H w tm a K hs hcl hlA hfu hZr hZw hP hr hf hk hq
  have hrem:rem π listed=[]:=List.length_eq_zero_iff.1 (by omega)
  refine flush 0 t listed Z ρ H w tm a K hs hcl hlA hfu hZr hZw hP hr hf hk hq fun j hj _=>?_
  have:=List.filter_eq_nil_iff.1 hrem j (by rw [hL.at_];simp [hj])
  simpa using this
 | succ fuel ih=>
  intro t listed Z ρ H w tm a K hs hcl hlA hfu hZr hZw hP hr hf hk hq
  by_cases hall:∀j ∈ L,Bad (fun g=>((env g).quiet,(env g).tame)) ops.toList iA j→listed.getD j true=true
  ·exact flush _ t listed Z ρ H w tm a K hs hcl hlA hfu hZr hZw hP hr hf hk hq hall
  simp only [Region.linearise.go]
  change C'.Will Z (G (b.atR a (.inRegion ops (match (Region.ready .any ops listed)[t % (Region.ready .any ops listed).length]? with
   | some i=>Region.linearise.go .any ops fuel (t / (Region.ready .any ops listed).length) (listed.setIfInBounds i true) [i]
   | none=>[].reverse)::k)) cs) w
  cases hsel:(Region.ready .any ops listed)[t % (Region.ready .any ops listed).length]? with
  | none=>
   refine absurd (fun j hj _=>?_) hall
   have:=List.filter_eq_nil_iff.1 (zm1 hed hL.pi.lt listed hs (zxm hsel)) j (by rw [hL.at_];simp [hj])
   simpa using this
  | some i=>
  simp only []
  rw [linearise_go_acc,List.reverse_singleton,List.singleton_append]
  have hi:i ∈ Region.ready .any ops listed:=List.mem_of_getElem? hsel
  obtain ⟨h0,o,ho,_⟩:=mem_ready.1 hi
  have hil:i<ops.size:=(Array.getElem?_eq_some_iff.1 ho).1
  have ho':ops.toList[i]? =some o:=by rw [Array.getElem?_toList];exact ho
  have hlisted:=zh7 hm hed hs hcl hi
  have hiA:i≠iA:=fun e=>by rw [e,hlA] at h0;cases h0
  have hnw:(m i).testBit iA=false:=by
   cases hb:(m i).testBit iA with
   | false=>rfl
   | true=>exact absurd (fun j hj hbad=>hlisted j (by have:=hL.pi.lt j (by rw [hL.at_];simp [hj]);simpa using this) (hL.aft i (by simpa using hil) hb j hj hbad)) hall
  have hbi:Nat.beq i iA=false:=by cases hb:Nat.beq i iA;rfl;exact absurd (Nat.eq_of_beq_eq_true hb) hiA
  obtain ⟨R1,R2,e1,e2,e3⟩:=z8a hL.pi (i:=i) (o:=o) (fun j=>!listed.getD j true || Nat.beq j iA) (fun _ _ _ hx=>by rw [hbi] at hx;cases hx) (by simpa using hil) (by simp only [h0];rfl) ho'
  have hk2:seqK P env ops.toList (R1++o::R2) tm H K:=by rw [←e1];exact hk
  have hstep:=pull henv R1 R2 (fun x hx=>by
   obtain ⟨j,hj,hun,hxj,hcm⟩:=e2 x hx
   refine hcm ?_
   cases hb:(m i).testBit j with
   | false=>rfl
   | true=>
    have h1:=hlisted j (by simpa using hj) hb
    rw [h1] at hun
    have h2:=Nat.eq_of_beq_eq_true (by simpa using hun)
    rw [h2,hnw] at hb;cases hb) hk2
  have hopok:z6l o=true:=List.all_eq_true.1 hok o (List.mem_of_getElem? ho')
  have hg:o.guard=none:=hL.gd o (List.mem_of_getElem? ho')
  obtain ⟨aw1,aw2⟩:=hL.away i o ho' hiA hnw
  have hev:∀x ∈ o.op.operands,VR ρ (evT tm x) (a.eval x):=fun x hx=>hf.ev (List.all_eq_true.1 hopok x (by simpa using hx)) (aw1 x hx)
  refine zy5 hX' hr hev henv (zc8 hg hstep) ho (by simp [Region.wanted,hg]) hkd fun v H' hkv Z' ρ' w' v' z0 z1 z2 z3 z4=>?_
  have k4:=tK' z4
  have hbn:¬Z'.rd B:=fun h=>hZr ((z0 B).2 h)
  have hwn:¬Z'.wr B:=fun h=>hZw ((z0 B).1 h)
  have hlen:=zq3 (π:=π) (listed:=listed) hs hil (hL.pi.mem i (by simpa using hil)) h0
  have dput:(a.put o.dst v').defers=a.defers:=by cases o.dst<;>rfl
  refine ih _ (listed.setIfInBounds i true) Z' ρ' H' w' (putT tm o.dst v) (a.put o.dst v') K (by simpa using hs) (zbz hs hcl hil hlisted) (ziv _ hlA) (by omega) hbn hwn (hP.next hZw k4 z1 aw2 v') z2 ((hf.mono z1).put aw2 z3) ?_ ?_
  ·have e4:(π.filter fun j=>!(listed.setIfInBounds i true).getD j true || Nat.beq j iA)=π.filter fun j=>(!listed.getD j true || Nat.beq j iA) && !(Nat.beq j i):=List.filter_congr fun j hj=>by
    by_cases hji:j=i
    ·subst hji
     have:(listed.setIfInBounds j true).getD j true=true:=by simp [hs,hil]
     rw [this,hbi,Nat.beq_refl];simp
    ·have hb:Nat.beq j i=false:=by cases hbq:Nat.beq j i;rfl;exact absurd (Nat.eq_of_beq_eq_true hbq) hji
     rw [getD_set_ne true (Ne.symm hji),hb];simp
   rw [e4,e3];exact hkv
  ·exact fun tm'' H'' hk'' Z'' ρ'' w'' a'' q0 q1 q2 q3 q4 q5=>hq tm'' H'' hk'' Z'' ρ'' w'' a'' (q0.trans (z0.plus B)) (z1.trans q1) q2 q3 (q4.trans dput) ((Kept.mono (Z:=Z.plus B) k4 fun c hc=>Or.inl hc).trans (q5.mono fun c hc=>((z0.plus B) c).1 hc))
end
end Go.Proofs.YthheoefadijhdaaGreat.Ai
set_option linter.unusedSimpArgs false
set_option linter.unusedVariables false
namespace Go.Proofs.YthheoefadijhdaaGreat.Ai
open Go Go.RowKit Go.Conc

theorem zsh {α:Type} {a:α}:∀{L L' R R':List α},L++a::R=L'++a::R'→a ∉ L→a ∉ L'→L=L':=by
 intro L
 induction L with
 | nil=>
  intro L' R R' h _ h2
  cases L' with
  | nil=>rfl
  | cons x l=>
   simp only [List.nil_append,List.cons_append,List.cons.injEq] at h
   exact absurd (by rw [h.1];simp) h2
 | cons x L ih=>
  intro L' R R' h h1 h2
  cases L' with
  | nil=>
   simp only [List.nil_append,List.cons_append,List.cons.injEq] at h
   exact absurd (by rw [←h.1];simp) h1
  | cons y l=>
   simp only [List.cons_append,List.cons.injEq] at h
   rw [h.1,ih h.2 (fun q=>h1 (List.mem_cons_of_mem _ q)) (fun q=>h2 (List.mem_cons_of_mem _ q))]

section
variable {P:Program} {env:Env} {X:Cls P} {main:Bool} {C:Car P main} {ops:Array Oper} {m:Nat→Nat} {π L R:List Nat} {iA d:Nat}
theorem zxn (hX:X main C) (hC:LateC X C) (henv:∀g,FnOkX P X g (env g)) (hm:z4q ops.toList m=true) (hed:z4c ops.toList=true)
  (hL:LateOk (fun g=>((env g).quiet,(env g).tame)) ops.toList m π iA d L R) (hok:ops.toList.all z6l=true) {b:Frame} {k:List Item} {cs:List Frame} (hkd:b.kind≠.early):
  ∀(fuel t:Nat) (listed:Array Bool) (Z:Zone) (ρ:Ren) (H:zn) (w:World) (tm:List Value) (a:Act) (K:List Value→zn→Prop),
  listed.size=ops.size→zaw m listed→listed.getD iA true=false→(rem π listed).length≤fuel→HR Z ρ H w→VRs ρ tm a.tmps.toList→seqK P env ops.toList (z1y ops.toList (rem π listed)) tm H K→
  (∀tm' H',K tm' H'→∀Z' ρ' w' a',Zle Z' Z→ρ <+:ρ'→HR Z' ρ' H' w'→VRs ρ' tm' a'.tmps.toList→a'.defers=a.defers→C.T Z w w'→C.Will Z' (G (b.atR a' k) cs) w')→
  C.Will Z (G (b.atR a (.inRegion ops (Region.linearise.go .any ops fuel t listed [])::k)) cs) w:=by
 obtain ⟨oA,tA,hoA,hopA,hdA⟩:=hL.op
 obtain ⟨nL,nR,_⟩:=hL.pi.split L iA R hL.at_
 have hgA:oA.guard=none:=hL.gd oA (List.mem_of_getElem? hoA)
 have hAπ:iA ∈ π:=by rw [hL.at_];simp
 have hAlt:iA<ops.size:=by simpa using hL.pi.lt iA hAπ
 intro fuel
 induction fuel with
 | zero=>
  intro t listed Z ρ H w tm a K hs hcl hlA hfu hr hf hk hq
  have hrem:rem π listed=[]:=List.length_eq_zero_iff.1 (by omega)
  have:=List.filter_eq_nil_iff.1 hrem iA hAπ
  rw [hlA] at this
  exact absurd rfl this
 | succ fuel ih=>
  intro t listed Z ρ H w tm a K hs hcl hlA hfu hr hf hk hq
  by_cases hall:∀j ∈ L,Bad (fun g=>((env g).quiet,(env g).tame)) ops.toList iA j→listed.getD j true=true
  ·refine zov hX henv hm hed hL.pi hok hkd _ t listed Z ρ H w tm a K hs hcl (fun L' i R' e hx=>.inr ?_) hfu hr hf hk hq
   obtain rfl:=Nat.eq_of_beq_eq_true hx
   obtain ⟨nL',_,_⟩:=hL.pi.split L' i R' e
   rw [←zsh (hL.at_.symm.trans e) nL nL']
   intro j hj
   cases hlj:listed.getD j true with
   | true=>exact .inl rfl
   | false=>
    refine .inr fun o1 o2 g1 g2=>?_
    cases hcm:com (fun g=>((env g).quiet,(env g).tame)) ops.toList o2 o1 with
    | true=>rfl
    | false=>have:=hall j hj ⟨o2,o1,g2,g1,hcm⟩;rw [hlj] at this;cases this
  simp only [Region.linearise.go]
  change C.Will Z (G (b.atR a (.inRegion ops (match (Region.ready .any ops listed)[t % (Region.ready .any ops listed).length]? with
   | some i=>Region.linearise.go .any ops fuel (t / (Region.ready .any ops listed).length) (listed.setIfInBounds i true) [i]
   | none=>[].reverse)::k)) cs) w
  cases hsel:(Region.ready .any ops listed)[t % (Region.ready .any ops listed).length]? with
  | none=>
   refine absurd (fun j hj _=>?_) hall
   have:=List.filter_eq_nil_iff.1 (zm1 hed hL.pi.lt listed hs (zxm hsel)) j (by rw [hL.at_];simp [hj])
   simpa using this
  | some i=>
  simp only []
  rw [linearise_go_acc,List.reverse_singleton,List.singleton_append]
  have hi:i ∈ Region.ready .any ops listed:=List.mem_of_getElem? hsel
  obtain ⟨h0,o,ho,_⟩:=mem_ready.1 hi
  have hil:i<ops.size:=(Array.getElem?_eq_some_iff.1 ho).1
  have ho':ops.toList[i]? =some o:=by rw [Array.getElem?_toList];exact ho
  have hlisted:=zh7 hm hed hs hcl hi
  have hlen:=zq3 (π:=π) (listed:=listed) hs hil (hL.pi.mem i (by simpa using hil)) h0
  have hopok:z6l o=true:=List.all_eq_true.1 hok o (List.mem_of_getElem? ho')
  by_cases hiA:i=iA
  ·-- the block is made
   subst hiA
   obtain rfl:o=oA:=by rw [ho'] at hoA;exact Option.some.inj hoA
   have hpk:z4d o=.al:=by unfold z4d;rw [hopA]
   have hops:o.op.operands=#[]:=by rw [hopA];rfl
   obtain ⟨l1,l2,el⟩:=List.append_of_mem (show i ∈ rem π listed from List.mem_filter.2 ⟨hAπ,by simp [h0]⟩)
   have eo:z1y ops.toList (rem π listed)=z1y ops.toList l1++o::z1y ops.toList l2:=by
    rw [el]
    unfold z1y
    rw [List.filterMap_append,List.filterMap_cons_some ho']
   have hk1:=hk
   rw [eo] at hk1
   obtain ⟨tm1,H1,hk1⟩:=zs6 henv hk1
   have hop:=zc8 hgA (o:=o) hk1
   obtain ⟨f,cells,hAl,_⟩:=z19l hpk hop
   have hfA:∀oA,ops.toList[i]? =some oA→∀ev,AlF (opK P env oA ev) f cells:=by
    intro oA h ev
    obtain rfl:oA=o:=by rw [ho'] at h;exact (Option.some.inj h).symm
    refine hAl.congr fun H K=>?_
    rw [zeb (ev':=ev) (fun x hx=>by rw [hops] at hx;simp at hx)]
   obtain ⟨s,hs1,hs2⟩:=z19m hpk a hop hAl
   refine C.step fun w₁ h₁=>?_
   have hr₁:=C.keep h₁ hr
   obtain ⟨arr,e,v',run,g2,g3,g4,g5,g6⟩:=hs2 ρ w₁ (fun x hx=>by rw [hops] at hx;simp at hx)
   have hrun:(execOp a.eval o).run P w₁=.ok (.value v') (w₁.alloc (.cells arr e)):=by
    rw [(hs1 w₁).1,Sem.run_bind,run];rfl
   have hsz:(w₁.alloc (.cells arr e)).heap.size=w₁.heap.size+1:=by rw [World.size_alloc]
   refine ⟨_,cs,w₁.alloc (.cells arr e),_,stepR_value ho (by simp [Region.wanted,hgA]) (fun c hc=>by rw [hopA] at hc;cases hc) hkd (.inl hrun),Kept.alloc (.refl _ _) _,fun x hx=>?_,?_⟩
   ·have hx':=mem_listed hx
    rw [(hs1 w₁).2,Sem.events_bind,run] at hx'
    simp only [Result.evThen_ok,Sem.events_pure,g6] at hx'
    simp at hx'
   obtain ⟨C',hX',tK',hnar,hpl⟩:=hC.also w₁.heap.size
   have hfr:=hr₁.fresh w₁.heap.size (Nat.le_refl _)
   refine hnar ?_ hfr.1 (by omega)
   refine zxo hX hX' hC.tK tK' hpl henv hm hed hL hok hkd hfA fuel _ (listed.setIfInBounds i true) (Z.off w₁.heap.size) ρ H _ tm (a.put o.dst v') K (by simpa using hs) (zbz hs hcl hil hlisted) (by simp [hs,hil]) (by omega) (fun h=>h.2 rfl) (fun h=>h.2 rfl) ?_ (hr₁.grow _) (by rw [hdA];exact VRx.of hf v') ?_ ?_
   ·refine ⟨arr,e,by show (w₁.heap.push _)[w₁.heap.size]? =_;simp,g2,g3,g4,fun ρ' b hb hd=>?_⟩
    have ev:(a.put o.dst v').tmps.getD d undef=v':=by
     rw [hdA] at hd ⊢
     have hd':d<a.tmps.size:=by simpa [Act.put] using hd
     simp only [Act.put,Array.getD_eq_getD_getElem?]
     rw [Array.getElem?_setIfInBounds_self_of_lt hd'];rfl
    rw [ev];exact g5 ρ' b hb
   ·have e4:(π.filter fun j=>!(listed.setIfInBounds i true).getD j true || Nat.beq j i)=rem π listed:=List.filter_congr fun j hj=>by
     by_cases hji:j=i
     ·subst hji
      rw [Nat.beq_refl,Bool.or_true,h0];rfl
     ·have hb:Nat.beq j i=false:=by cases hbq:Nat.beq j i;rfl;exact absurd (Nat.eq_of_beq_eq_true hbq) hji
      rw [getD_set_ne true (Ne.symm hji),hb,Bool.or_false]
    rw [e4];exact hk
   ·intro tm' H' hk' Z' ρ' w' a' q0 q1 q2 q3 q4 q5
    have zl:Zle ((Z.off w₁.heap.size).plus w₁.heap.size) Z:=fun c=>⟨fun h=>h.elim And.left fun e=>e ▸ hfr.2,fun h=>h.elim And.left fun e=>e ▸ hfr.1⟩
    refine hq tm' H' hk' Z' ρ' w' a' (q0.trans zl) q1 q2 q3 (q4.trans (by cases o.dst<;>rfl)) (C.tT (C.rT h₁) (C.kT ?_))
    exact (Kept.alloc (.refl _ _) _).trans (q5.mono fun c hc=>(zl c).1 hc)
  ·have hbi:Nat.beq i iA=false:=by cases hb:Nat.beq i iA;rfl;exact absurd (Nat.eq_of_beq_eq_true hb) hiA
   obtain ⟨R1,R2,e1,e2,e3⟩:=z8a hL.pi (i:=i) (o:=o) (fun j=>!listed.getD j true) (fun _ _ _ hx=>by rw [hbi] at hx;cases hx) (by simpa using hil) (by simp only [h0];rfl) ho'
   have hk2:seqK P env ops.toList (R1++o::R2) tm H K:=by rw [←e1];exact hk
   have hstep:=pull henv R1 R2 (fun x hx=>by
    obtain ⟨j,hj,hun,hxj,hcm⟩:=e2 x hx
    refine hcm ?_
    cases hb:(m i).testBit j with
    | false=>rfl
    | true=>have h1:=hlisted j (by simpa using hj) hb;rw [h1] at hun;cases hun) hk2
   refine zbw hX hr hf hopok henv hstep ho hkd fun tm' H' hk' Z' ρ' w' a' z0 z1 z2 z3 z4 z5=>?_
   refine ih _ (listed.setIfInBounds i true) Z' ρ' H' w' tm' a' K (by simpa using hs) (zbz hs hcl hil hlisted) (by rw [getD_set_ne true hiA];exact hlA) (by omega) z2 z3 ?_ fun tm'' H'' hk'' Z'' ρ'' w'' a'' q0 q1 q2 q3 q4 q5=>hq tm'' H'' hk'' Z'' ρ'' w'' a'' (q0.trans z0) (z1.trans q1) q2 q3 (q4.trans z4) (C.tT z5 (C.mT z0 q5))
   have e4:rem π (listed.setIfInBounds i true)=π.filter fun j=>!listed.getD j true && !(Nat.beq j i):=by
    unfold rem
    apply List.filter_congr
    intro j hj
    by_cases hji:j=i
    ·subst hji
     rw [Nat.beq_refl]
     simp [hs,hil]
    ·have hb:Nat.beq j i=false:=by cases hbq:Nat.beq j i;rfl;exact absurd (Nat.eq_of_beq_eq_true hbq) hji
     rw [getD_set_ne true (Ne.symm hji),hb];simp
   rw [e4,e3];exact hk'
end

def zpz (q:Nat→Bool×Bool) (ops:List Oper) (m:Nat→Nat) (iA:Nat) (pre:List Nat):List Nat→Bool
 | []=>true
 | i::r=>!(pre.any fun j=>Nat.beq j i) && (Nat.beq i iA || (match ops[i]? with
  | some o=>pre.all fun j=>match ops[j]? with
   | some o'=>(m i).testBit j || com q ops o' o
   | none=>true
  | none=>true)) && zpz q ops m iA (i::pre) r
def zqn (ops:List Oper) (pre:List Nat):List Nat→Option (Nat×Nat×List Nat×List Nat)
 | []=>none
 | i::r=>match ops[i]? with
  | some o=>match o.op,o.dst with
   | .alloc _,some d=>some (i,d,pre.reverse,r)
   | _,_=>zqn ops (i::pre) r
  | none=>zqn ops (i::pre) r
def z1a6 (d:Nat):Operand→Bool
 | .tmp t=>Nat.beq t d
 | _=>false
def isDst (d:Nat):Option Tmp→Bool
 | some t=>Nat.beq t d
 | none=>false
def z1a7 (q:Nat→Bool×Bool) (ops:List Oper):Bool:=z7o [] ops fun ms=>z4q ops (fun i=>ms.getD i 0) && z4c ops && Nat.ble (z1l ops).length ops.length && (z1l ops).all (Nat.blt · ops.length) && ((List.range ops.length).all fun i=>(z1l ops).any fun j=>Nat.beq j i) &&
 match zqn ops [] (z1l ops) with
 | some (iA,d,L,_)=>zpz q ops (fun i=>ms.getD i 0) iA [] (z1l ops) && (ops.all fun o=>o.guard.isNone) &&
   ((List.range ops.length).all fun j=>Nat.beq j iA || (ms.getD j 0).testBit iA || (match ops[j]? with
    | some o=>(o.op.operands.toList.all fun x=>!(z1a6 d x)) && !(isDst d o.dst)
    | none=>true)) &&
   ((List.range ops.length).all fun j=>!((ms.getD j 0).testBit iA) || L.all fun i=>(ms.getD j 0).testBit i || (match ops[i]?,ops[iA]? with
    | some o,some oA=>com q ops o oA
    | _,_=>true))
 | none=>false
theorem zev {q:Nat→Bool×Bool} {ops:List Oper} {m:Nat→Nat} {iA:Nat}:∀{l pre:List Nat},zpz q ops m iA pre l=true→∀L i R,l=L++i::R→(∀j,j ∈ pre∨j ∈ L→j≠i)∧
  (Nat.beq i iA=false→∀j,j ∈ pre∨j ∈ L→∀o o',ops[i]? =some o→ops[j]? =some o'→(m i).testBit j=false→com q ops o' o=true):=by
 intro l
 induction l with
 | nil=>intro pre _ L i R h;cases L<;>cases h
 | cons k l ih=>
  intro pre h L i R e
  simp only [zpz,Bool.and_eq_true,Bool.not_eq_true'] at h
  obtain ⟨⟨h1,h2⟩,h3⟩:=h
  cases L with
  | nil=>
   simp only [List.nil_append,List.cons.injEq] at e
   obtain ⟨rfl,rfl⟩:=e
   refine ⟨fun j hj hji=>?_,fun hx j hj o o' ho ho' hb=>?_⟩
   ·subst hji
    rcases hj with hj | hj
    ·have:=List.any_eq_false.1 h1 j hj
     rw [Nat.beq_refl] at this;exact this rfl
    ·cases hj
   ·rcases hj with hj | hj
    ·simp only [ho,hx,Bool.false_or] at h2
     have:=List.all_eq_true.1 h2 j hj
     simp only [ho',hb,Bool.false_or] at this
     exact this
    ·cases hj
  | cons k' L=>
   simp only [List.cons_append,List.cons.injEq] at e
   obtain ⟨rfl,rfl⟩:=e
   obtain ⟨g1,g2⟩:=ih h3 L i R rfl
   have conv:∀j,(j ∈ pre∨j ∈ k::L)→(j ∈ k::pre∨j ∈ L):=by
    intro j hj
    rcases hj with hj | hj
    ·exact .inl (List.mem_cons_of_mem _ hj)
    ·rcases List.mem_cons.1 hj with rfl | hj
     ·exact .inl List.mem_cons_self
     ·exact .inr hj
   exact ⟨fun j hj=>g1 j (conv j hj),fun hx j hj=>g2 hx j (conv j hj)⟩
theorem zqo {ops:List Oper}:∀{l pre:List Nat} {iA d:Nat} {L R:List Nat},zqn ops pre l=some (iA,d,L,R)→pre.reverse++l=L++iA::R∧∃o t,ops[iA]? =some o∧o.op=.alloc t∧o.dst=some d:=by
 intro l
 induction l with
 | nil=>intro pre iA d L R h;cases h
 | cons i r ih=>
  intro pre iA d L R h
  have next:zqn ops (i::pre) r=some (iA,d,L,R)→pre.reverse++i::r=L++iA::R∧∃o t,ops[iA]? =some o∧o.op=.alloc t∧o.dst=some d:=fun h=>by
   have:=ih h
   rw [List.reverse_cons,List.append_assoc] at this
   exact this
  unfold zqn at h
  split at h
  ·rename_i o ho
   split at h
   ·rename_i t d' h1 h2
    simp only [Option.some.injEq,Prod.mk.injEq] at h
    obtain ⟨rfl,rfl,rfl,rfl⟩:=h
    exact ⟨rfl,o,t,ho,h1,h2⟩
   ·exact next h
  ·exact next h
theorem znf {q:Nat→Bool×Bool} {ops:List Oper} (h:z1a7 q ops=true):∃(m:Nat→Nat) (iA d:Nat) (L R:List Nat),z4q ops m=true∧z4c ops=true∧LateOk q ops m (z1l ops) iA d L R:=by
 obtain ⟨ms,h⟩:=z7e h
 simp only [Bool.and_eq_true] at h
 obtain ⟨⟨⟨⟨⟨h1,h2⟩,h0⟩,h3⟩,h4⟩,h5⟩:=h
 split at h5
 case h_2=>cases h5
 rename_i iA d L R hfind
 simp only [Bool.and_eq_true] at h5
 obtain ⟨⟨⟨p1,p2⟩,p3⟩,p4⟩:=h5
 obtain ⟨f1,f2⟩:=zqo hfind
 refine ⟨_,iA,d,L,R,h1,h2,⟨⟨Nat.le_of_ble_eq_true h0,fun i hi=>Nat.le_of_ble_eq_true (List.all_eq_true.1 h3 i hi),fun i hi=>?_,fun L' i R' e=>?_⟩,by simpa using f1,f2,fun o ho=>?_,fun j o ho hj hb=>?_,fun j hj hb i hi hbad=>?_⟩⟩
 ·obtain ⟨j,hj,hb⟩:=List.any_eq_true.1 (List.all_eq_true.1 h4 i (List.mem_range.2 hi))
  rw [←Nat.eq_of_beq_eq_true hb];exact hj
 ·obtain ⟨g1,g2⟩:=zev p1 L' i R' e
  refine ⟨fun hi=>g1 i (.inr hi) rfl,fun hi=>?_,fun hx j hj=>g2 hx j (.inr hj)⟩
  obtain ⟨R1,R2,rfl⟩:=List.append_of_mem hi
  have:=(zev p1 (L'++i::R1) i R2 (by rw [e];simp)).1 i (.inr (by simp))
  exact this rfl
 ·have:=List.all_eq_true.1 p2 o ho
  simpa using this
 ·have h7:=List.all_eq_true.1 p3 j (List.mem_range.2 (List.getElem?_eq_some_iff.1 ho).1)
  have hbj:Nat.beq j iA=false:=by cases hbq:Nat.beq j iA;rfl;exact absurd (Nat.eq_of_beq_eq_true hbq) hj
  rw [hbj,hb] at h7
  simp only [Bool.false_or,ho,Bool.and_eq_true,Bool.not_eq_true'] at h7
  refine ⟨fun x hx e=>?_,fun e=>?_⟩
  ·have:=List.all_eq_true.1 h7.1 x (by simpa using hx)
   rw [e] at this
   simp [z1a6] at this
  ·have:=h7.2
   rw [e] at this
   simp [isDst] at this
 ·have h7:=List.all_eq_true.1 p4 j (List.mem_range.2 hj)
  rw [hb] at h7
  simp only [Bool.not_true,Bool.false_or] at h7
  have h8:=List.all_eq_true.1 h7 i hi
  obtain ⟨o,oA,b1,b2,b3⟩:=hbad
  simp only [b1,b2,b3,Bool.or_false] at h8
  exact h8
end Go.Proofs.YthheoefadijhdaaGreat.Ai
