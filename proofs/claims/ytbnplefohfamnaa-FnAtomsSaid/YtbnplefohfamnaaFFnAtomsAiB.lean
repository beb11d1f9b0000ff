/- The abstract machine and the world: how their heaps keep together when cells are read, written and made. -/
import Derived.Test.YtbnplefohfamnaaFFnAtomsAiF
import Derived.WalkKit
namespace Go.Proofs.Ytbnplefohfamnaa.Ai
open Go Go.RowKit

theorem zfi {ρ ρ':Ren} (hp:ρ <+:ρ') {b:Nat} {x:Nat×Nat×Nat} (h:ρ[b]? =some x):ρ'[b]? =some x:=by
 obtain ⟨t,rfl⟩:=hp
 have hb:b<ρ.length:=(List.getElem?_eq_some_iff.1 h).1
 rw [List.getElem?_append_left hb];exact h

theorem VR.mono {ρ ρ':Ren} (hp:ρ <+:ρ') {v v':Value} (h:VR ρ v v'):VR ρ' v v':=by
 induction h with
 | bool b=>exact .bool b
 | int k n=>exact .int k n
 | float k a b e=>exact .float k a b e
 | complex k a a' b b' e e'=>exact .complex k a a' b b' e e'
 | string s=>exact .string s
 | pnil=>exact .pnil
 | ptr b off c base sz hb=>exact .ptr b off c base sz (zfi hp hb)
 | snil=>exact .snil
 | slice b off len esz c base sz cap hb h1 h2=>exact .slice b off len esz c base sz cap (zfi hp hb) h1 h2
 | sempty b off a cap=>exact .sempty b off a cap
 | nilFunc=>exact .nilFunc
 | nilIface=>exact .nilIface
 | func fn xs ys as bs h1 _ h2 _ ih1 ih2=>exact .func fn xs ys as bs h1 ih1 h2 ih2
 | agg xs ys h1 _ ih=>exact .agg xs ys h1 ih
 | tuple xs ys h1 _ ih=>exact .tuple xs ys h1 ih

theorem VRs.mono {ρ ρ':Ren} (hp:ρ <+:ρ') {v v':List Value} (h:VRs ρ v v'):VRs ρ' v v':=⟨h.1,fun i x y a b=>(h.2 i x y a b).mono hp⟩

theorem VRs.nil (ρ:Ren):VRs ρ [] []:=⟨rfl,fun i x y h _=>by simp at h⟩
theorem VRs.cons {ρ:Ren} {x y:Value} {xs ys:List Value} (h:VR ρ x y) (hs:VRs ρ xs ys):VRs ρ (x::xs) (y::ys):=
 ⟨by simp [hs.1],fun i a b ha hb=>by
  cases i with
  | zero=>simp at ha hb;subst ha;subst hb;exact h
  | succ i=>exact hs.2 i a b (by simpa using ha) (by simpa using hb)⟩
theorem VRs.uncons {ρ:Ren} {x:Value} {xs l:List Value} (h:VRs ρ (x::xs) l):∃y ys,l=y::ys∧VR ρ x y∧VRs ρ xs ys:=by
 cases l with
 | nil=>exact absurd h.1 (by simp)
 | cons y ys=>exact ⟨y,ys,rfl,h.2 0 x y rfl rfl,by simpa using h.1,fun i a b ha hb=>h.2 (i+1) a b (by simpa using ha) (by simpa using hb)⟩
theorem VRs.unnil {ρ:Ren} {l:List Value} (h:VRs ρ [] l):l=[]:=List.length_eq_zero_iff.1 h.1.symm
theorem VRs.append {ρ:Ren} {a a' b b':List Value} (h:VRs ρ a a') (k:VRs ρ b b'):VRs ρ (a++b) (a'++b'):=by
 induction a generalizing a' with
 | nil=>rw [h.unnil];exact k
 | cons x a ih=>obtain ⟨y,ys,rfl,h1,h2⟩:=h.uncons;exact .cons h1 (ih h2)
theorem VRs.get {ρ:Ren} {xs ys:List Value} (h:VRs ρ xs ys) {i:Nat} {x:Value} (hx:xs[i]? =some x):∃y,ys[i]? =some y∧VR ρ x y:=by
 have hi:i<xs.length:=(List.getElem?_eq_some_iff.1 hx).1
 have hi':i<ys.length:=h.1 ▸ hi
 exact ⟨ys[i],List.getElem?_eq_getElem hi',h.2 i _ _ hx (List.getElem?_eq_getElem hi')⟩
theorem VRs.take {ρ:Ren} {xs ys:List Value} (h:VRs ρ xs ys) (n:Nat):VRs ρ (xs.take n) (ys.take n):=
 ⟨by simp [h.1],fun i x y hx hy=>by
  rw [List.getElem?_take] at hx hy
  split at hx
  ·rw [if_pos ‹_›] at hy;exact h.2 i x y hx hy
  ·cases hx⟩
theorem VRs.drop {ρ:Ren} {xs ys:List Value} (h:VRs ρ xs ys) (n:Nat):VRs ρ (xs.drop n) (ys.drop n):=
 ⟨by simp [h.1],fun i x y hx hy=>by
  rw [List.getElem?_drop] at hx hy
  exact h.2 _ x y hx hy⟩
theorem VRs.set {ρ:Ren} {xs ys:List Value} (h:VRs ρ xs ys) (n:Nat) {x y:Value} (hv:VR ρ x y):VRs ρ (xs.set n x) (ys.set n y):=
 ⟨by simp [h.1],fun i a b ha hb=>by
  rw [List.getElem?_set] at ha hb
  split at ha
  ·rename_i e
   rw [if_pos e] at hb
   split at ha
   ·rw [if_pos (by rw [←h.1];assumption)] at hb;cases ha;cases hb;exact hv
   ·cases ha
  ·rename_i e
   rw [if_neg e] at hb;exact h.2 i a b ha hb⟩
theorem VRs.arr {ρ:Ren} {xs ys:Array Value} (h1:xs.size=ys.size) (h2:∀(i:Nat) (x y:Value),xs[i]? =some x→ys[i]? =some y→VR ρ x y):VRs ρ xs.toList ys.toList:=
 ⟨by simpa using h1,fun i x y a b=>h2 i x y (by simpa using a) (by simpa using b)⟩
theorem VRs.agg {ρ:Ren} {xs ys:Array Value} (h:VRs ρ xs.toList ys.toList):VR ρ (.agg xs) (.agg ys):=
 .agg xs ys (by simpa using h.1) fun i x y a b=>h.2 i x y (by simpa using a) (by simpa using b)
theorem VRs.tuple {ρ:Ren} {xs ys:Array Value} (h:VRs ρ xs.toList ys.toList):VR ρ (.tuple xs) (.tuple ys):=
 .tuple xs ys (by simpa using h.1) fun i x y a b=>h.2 i x y (by simpa using a) (by simpa using b)
theorem VRs.map {ρ:Ren} {α:Type} (f g:α→Value) (h:∀x,VR ρ (f x) (g x)) (l:List α):VRs ρ (l.map f) (l.map g):=by
 induction l with
 | nil=>exact .nil ρ
 | cons x l ih=>exact .cons (h x) ih
theorem VRs.map_mem {ρ:Ren} {α:Type} (f g:α→Value) (l:List α) (h:∀x ∈ l,VR ρ (f x) (g x)):VRs ρ (l.map f) (l.map g):=by
 induction l with
 | nil=>exact .nil ρ
 | cons x l ih=>exact .cons (h x (by simp)) (ih fun y hy=>h y (by simp [hy]))

theorem VR.const {ρ:Ren} {v:Value} (h:z3c v=true):VR ρ v v:=by
 unfold z3c at h
 split at h
 ·exact .bool _
 ·exact .int _ _
 ·exact .string _
 ·exact .pnil
 ·exact .snil
 ·exact .nilFunc
 ·exact .nilIface
 ·exact .float _ _ _ (Nat.eq_of_beq_eq_true h).symm
 ·simp only [Bool.and_eq_true] at h
  exact .complex _ _ _ _ _ (Nat.eq_of_beq_eq_true h.1).symm (Nat.eq_of_beq_eq_true h.2).symm
 ·cases h
theorem VRs.const {ρ:Ren} {l:List Value} (h:l.all z3c=true):VRs ρ l l:=by
 induction l with
 | nil=>exact .nil ρ
 | cons x l ih=>simp only [List.all_cons,Bool.and_eq_true] at h;exact .cons (.const h.1) (ih h.2)
theorem VR.const1 {ρ:Ren} {v:Value} (h:zg2 v=true):VR ρ v v:=by
 unfold zg2 at h
 split at h
 ·exact VRs.agg (.const h)
 ·exact VRs.tuple (.const h)
 ·exact .const h
theorem zk1 {v:Value} (h:z3c v=true):isCell v=true:=by
 cases v<;>first | rfl | (simp [z3c] at h)

theorem VR.isCell {ρ:Ren} {v v':Value} (h:VR ρ v v'):isCell v'=Ai.isCell v:=by cases h<;>rfl
theorem zcr (v:Value):v.oneCell'=isCell v:=by cases v<;>rfl
theorem VR.cells {ρ:Ren} {v v':Value} (h:VR ρ v v'):VRs ρ v.cells.toList v'.cells.toList:=by
 cases h with
 | agg xs ys h1 h2=>exact .arr h1 h2
 | tuple xs ys h1 h2=>exact .cons (.tuple xs ys h1 h2) (.nil ρ)
 | func fn xs ys as bs h1 h2 h3 h4=>exact .cons (.func fn xs ys as bs h1 h2 h3 h4) (.nil ρ)
 | bool b=>exact .cons (.bool b) (.nil ρ)
 | int k n=>exact .cons (.int k n) (.nil ρ)
 | float k a b e=>exact .cons (.float k a b e) (.nil ρ)
 | complex k a a' b b' e e'=>exact .cons (.complex k a a' b b' e e') (.nil ρ)
 | string s=>exact .cons (.string s) (.nil ρ)
 | pnil=>exact .cons .pnil (.nil ρ)
 | ptr b off c base sz hb=>exact .cons (.ptr b off c base sz hb) (.nil ρ)
 | snil=>exact .cons .snil (.nil ρ)
 | slice b off len esz c base sz cap hb h1 h2=>exact .cons (.slice b off len esz c base sz cap hb h1 h2) (.nil ρ)
 | sempty b off a cap=>exact .cons (.sempty b off a cap) (.nil ρ)
 | nilFunc=>exact .cons .nilFunc (.nil ρ)
 | nilIface=>exact .cons .nilIface (.nil ρ)


structure Drew (w w':World):Prop where
 heap:w'.heap=w.heap
 os:w'.os=w.os
 tape:w'.tape=w.tape
 output:w'.output=w.output
theorem Drew.refl (w:World):Drew w w:=⟨rfl,rfl,rfl,rfl⟩
theorem Drew.drew (w:World):Drew w w.drew:=⟨rfl,rfl,rfl,rfl⟩
theorem Drew.trans {a b c:World} (h:Drew a b) (k:Drew b c):Drew a c:=⟨k.heap.trans h.heap,k.os.trans h.os,k.tape.trans h.tape,k.output.trans h.output⟩
theorem Drew.below {w w':World} (h:Drew w w') (B:Nat):Below B w w':=⟨h.os,h.tape,h.output,by rw [h.heap];exact Nat.le_refl _,fun k _=>by rw [h.heap]⟩

theorem HR.drew {B0:Nat} {ρ:Ren} {H:zd} {w w':World} (h:HR B0 ρ H w) (d:Drew w w'):HR B0 ρ H w':=
 ⟨h.len,by rw [d.heap];exact h.base0,by rw [d.heap];exact h.live,h.sep⟩

theorem HR.blk {B0:Nat} {ρ:Ren} {H:zd} {w:World} (h:HR B0 ρ H w) {b:Nat} {blk:Blk} (hb:H[b]? =some (some blk)):
  ∃c base sz arr e fz,ρ[b]? =some (c,base,sz)∧w.heap[c]? =some (.cells arr e fz)∧blk.cells.length≤sz∧base+sz≤arr.size∧
  (∀i v,blk.cells[i]? =some v→∃v',arr[base+i]? =some v'∧VR ρ v v'∧isCell v=true)∧(blk.own=true→B0≤c∧fz=(0,0)):=by
 have hl:b<ρ.length:=h.len ▸ (List.getElem?_eq_some_iff.1 hb).1
 obtain ⟨⟨c,base,sz⟩,hr⟩:∃x,ρ[b]? =some x:=⟨_,List.getElem?_eq_getElem hl⟩
 obtain ⟨arr,e,fz,h1,h2,h3,h4,h5⟩:=h.live b blk hb c base sz hr
 exact ⟨c,base,sz,arr,e,fz,hr,h1,h2,h3,h4,h5⟩

theorem zgw {H:zd} {b:Nat} {cs:List Value} (h:rdB H b=some cs):∃blk:Blk,H[b]? =some (some blk)∧blk.cells=cs:=by
 unfold rdB at h
 split at h
 ·rename_i blk hb;cases h;exact ⟨blk,hb,rfl⟩
 ·cases h

theorem HR.cell {B0:Nat} {ρ:Ren} {H:zd} {w:World} (h:HR B0 ρ H w) {b off:Nat} {v:Value} (hv:rdC H b off=some v)
  {c base sz:Nat} (hr:ρ[b]? =some (c,base,sz)):∃v',w.cell? ⟨c,base+off,none⟩=some v'∧VR ρ v v':=by
 unfold rdC at hv
 obtain ⟨cs,h1,h2⟩:=Option.bind_eq_some_iff.1 hv
 obtain ⟨blk,hb,rfl⟩:=zgw h1
 obtain ⟨arr,e,fz,hh,_,_,hc,_⟩:=h.live b blk hb c base sz hr
 obtain ⟨v',hv',hvr,_⟩:=hc off v h2
 exact ⟨v',by simp [World.cell?,hh,hv'],hvr⟩

theorem z5i {H:zd} {b off n:Nat} {l:List Value} (h:rdN H b off n=some l):
  ∃blk:Blk,H[b]? =some (some blk)∧off+n≤blk.cells.length∧l=(blk.cells.drop off).take n:=by
 unfold rdN at h
 obtain ⟨cs,h1,h2⟩:=Option.bind_eq_some_iff.1 h
 obtain ⟨blk,hb,rfl⟩:=zgw h1
 split at h2
 ·rename_i hn;cases h2;exact ⟨blk,hb,hn,rfl⟩
 ·cases h2

theorem HR.cells {B0:Nat} {ρ:Ren} {H:zd} {w:World} (h:HR B0 ρ H w) {b off n:Nat} {l:List Value} (hl:rdN H b off n=some l)
  {c base sz:Nat} (hr:ρ[b]? =some (c,base,sz)):∃l',VRs ρ l l'∧l'.length=n∧∀j v,l'[j]? =some v→w.cell? ⟨c,base+off+j,none⟩=some v:=by
 obtain ⟨blk,hb,hn,rfl⟩:=z5i hl
 obtain ⟨arr,e,fz,hh,h1,h2,hc,_⟩:=h.live b blk hb c base sz hr
 refine ⟨(arr.toList.drop (base+off)).take n,⟨?_,?_⟩,?_,?_⟩
 ·simp;omega
 ·intro i x y hx hy
  rw [List.getElem?_take] at hx hy
  split at hx
  ·rename_i hi
   rw [if_pos hi,List.getElem?_drop] at hy
   rw [List.getElem?_drop] at hx
   obtain ⟨v',hv',hvr,_⟩:=hc _ _ hx
   rw [Array.getElem?_toList] at hy
   rw [show base+off+i=base+(off+i) by omega,hv'] at hy
   cases hy;exact hvr
  ·cases hx
 ·simp;omega
 ·intro j v hj
  rw [List.getElem?_take] at hj
  split at hj
  ·rw [List.getElem?_drop,Array.getElem?_toList] at hj
   simp [World.cell?,hh,hj]
  ·cases hj
theorem zfj {H:zd} {b off n:Nat} {l:List Value} (h:rdN H b off n=some l):l.length=n:=by
 obtain ⟨blk,hb,hn,rfl⟩:=z5i h
 simp;omega

theorem HR.alloc {B0:Nat} {ρ:Ren} {H:zd} {w:World} (h:HR B0 ρ H w) {cells:List Value} {arr:Array Value} {e:TypeId}
  (hle:cells.length≤arr.size) (hv:VRs ρ cells (arr.toList.take cells.length)) (hc:cells.all isCell=true):
  HR B0 (ρ++[(w.heap.size,0,arr.size)]) (H++[some {cells:=cells,own:=true}]) (w.alloc (.cells arr e)):=by
 have hp:ρ <+:ρ++[(w.heap.size,0,arr.size)]:=List.prefix_append _ _
 have old:∀k,k<w.heap.size→(w.alloc (.cells arr e)).heap[k]? =w.heap[k]? :=fun k hk=>Below.heap_alloc _ _ _ hk
 have lt:∀(b:Nat) (blk:Blk) (c base sz:Nat),H[b]? =some (some blk)→ρ[b]? =some (c,base,sz)→c<w.heap.size:=by
  intro b blk c base sz hb hr
  obtain ⟨arr',e',fz,hh,_⟩:=h.live b blk hb c base sz hr
  exact (Array.getElem?_eq_some_iff.1 hh).1
 refine ⟨by simp [h.len],by rw [World.size_alloc];have:=h.base0;omega,?_,?_⟩
 ·intro b blk hb c base sz hr
  by_cases hlt:b<H.length
  ·rw [List.getElem?_append_left hlt] at hb
   rw [List.getElem?_append_left (h.len ▸ hlt)] at hr
   obtain ⟨arr',e',fz,hh,h1,h2,h3,h4⟩:=h.live b blk hb c base sz hr
   refine ⟨arr',e',fz,by rw [old _ (lt _ _ _ _ _ hb hr)];exact hh,h1,h2,fun i v hi=>?_,h4⟩
   obtain ⟨v',a1,a2,a3⟩:=h3 i v hi
   exact ⟨v',a1,a2.mono hp,a3⟩
  ·rw [List.getElem?_append_right (by omega)] at hb
   rw [List.getElem?_append_right (by rw [←h.len];omega)] at hr
   have hb0:b-H.length=0:=by
    cases hd:b-H.length with
    | zero=>rfl
    | succ n=>rw [hd] at hb;simp at hb
   rw [←h.len,hb0] at hr
   rw [hb0] at hb
   simp at hb hr
   obtain ⟨rfl,rfl,rfl⟩:=hr
   subst hb
   refine ⟨arr,e,(0,0),by show (w.heap.push _)[w.heap.size]? =_;simp,hle,by simp,fun i v hi=>?_,fun _=>⟨h.base0,rfl⟩⟩
   obtain ⟨v',a1,a2⟩:=hv.get hi
   have hi':i<cells.length:=(List.getElem?_eq_some_iff.1 hi).1
   rw [List.getElem?_take,if_pos hi',Array.getElem?_toList] at a1
   refine ⟨v',by rw [Nat.zero_add];exact a1,a2.mono hp,?_⟩
   exact List.all_eq_true.1 hc v (List.mem_of_getElem? hi)
 ·intro b1 b2 blk1 blk2 hb1 hb2 hne ho c1 p1 s1 c2 p2 s2 hr1 hr2
  by_cases l1:b1<H.length
  ·rw [List.getElem?_append_left l1] at hb1
   rw [List.getElem?_append_left (h.len ▸ l1)] at hr1
   by_cases l2:b2<H.length
   ·rw [List.getElem?_append_left l2] at hb2
    rw [List.getElem?_append_left (h.len ▸ l2)] at hr2
    exact h.sep b1 b2 blk1 blk2 hb1 hb2 hne ho c1 p1 s1 c2 p2 s2 hr1 hr2
   ·rw [List.getElem?_append_right (by rw [←h.len];omega)] at hr2
    have:c2=w.heap.size:=by
     cases hd:b2-ρ.length with
     | zero=>rw [hd] at hr2;simp at hr2;exact hr2.1.symm
     | succ n=>rw [hd] at hr2;simp at hr2
    have:=lt _ _ _ _ _ hb1 hr1
    omega
  ·rw [List.getElem?_append_right (by rw [←h.len];omega)] at hr1
   have e1:c1=w.heap.size∧b1=H.length:=by
    cases hd:b1-ρ.length with
    | zero=>rw [hd] at hr1;simp at hr1;exact ⟨hr1.1.symm,by have:=h.len;omega⟩
    | succ n=>rw [hd] at hr1;simp at hr1
   by_cases l2:b2<H.length
   ·rw [List.getElem?_append_left l2] at hb2
    rw [List.getElem?_append_left (h.len ▸ l2)] at hr2
    have:=lt _ _ _ _ _ hb2 hr2
    omega
   ·rw [List.getElem?_append_right (by rw [←h.len];omega)] at hr2
    cases hd:b2-ρ.length with
    | zero=>have:=h.len;omega
    | succ n=>rw [hd] at hr2;simp at hr2

theorem Below.alloc' {B0:Nat} {ρ:Ren} {H:zd} {w:World} (h:HR B0 ρ H w) (o:Obj):Below B0 w (w.alloc o):=(Below.refl B0 w).alloc h.base0 o

theorem HR.kill {B0:Nat} {ρ:Ren} {H:zd} {w:World} (h:HR B0 ρ H w) (b:Nat):HR B0 ρ (H.set b none) w:=by
 have get:∀(b':Nat) (blk:Blk),(H.set b none)[b']? =some (some blk)→H[b']? =some (some blk):=by
  intro b' blk hb
  rw [List.getElem?_set] at hb
  split at hb
  ·split at hb<;>simp at hb
  ·exact hb
 exact ⟨by simp [h.len],h.base0,fun b' blk hb=>h.live b' blk (get _ _ hb),fun b1 b2 blk1 blk2 h1 h2=>h.sep b1 b2 blk1 blk2 (get _ _ h1) (get _ _ h2)⟩

theorem HR.store {B0:Nat} {ρ:Ren} {H:zd} {w:World} (h:HR B0 ρ H w) {b off:Nat} {blk:Blk} (hb:H[b]? =some (some blk)) (ho:blk.own=true)
  (hoff:off<blk.cells.length) {c base sz:Nat} (hr:ρ[b]? =some (c,base,sz)) {v v':Value} (hv:VR ρ v v') (hc:isCell v=true):
  HR B0 ρ (setC H b off v) (w.setCell ⟨c,base+off,none⟩ v')∧(∃u,w.cell? ⟨c,base+off,none⟩=some u)∧w.frozen? ⟨c,base+off,none⟩=false∧
   Below B0 w (w.setCell ⟨c,base+off,none⟩ v'):=by
 obtain ⟨arr,e,fz,hh,h1,h2,h3,h4⟩:=h.live b blk hb c base sz hr
 obtain ⟨hB,rfl⟩:=h4 ho
 have hbl:b<H.length:=(List.getElem?_eq_some_iff.1 hb).1
 have hs:setC H b off v=H.set b (some {blk with cells:=blk.cells.set off v}):=by simp [setC,hb]
 have heap_c:(w.setCell ⟨c,base+off,none⟩ v').heap[c]? =some (.cells (arr.setIfInBounds (base+off) v') e (0,0)):=by
  simp only [World.setCell,Array.getElem?_modify,if_true,hh,Option.map_some];rfl
 have heap_o:∀k,k≠c→(w.setCell ⟨c,base+off,none⟩ v').heap[k]? =w.heap[k]? :=fun k hk=>Below.heap_setCell _ _ _ _ hk
 refine ⟨⟨by rw [hs];simp [h.len],by rw [World.size_setCell];exact h.base0,?_,?_⟩,?_,?_,?_⟩
 ·intro b' blk' hb' c' base' sz' hr'
  rw [hs,List.getElem?_set] at hb'
  split at hb'
  ·rename_i e';subst e'
   try rw [if_pos hbl] at hb'
   cases hb'
   rw [hr] at hr';cases hr'
   refine ⟨_,_,_,heap_c,by simpa using h1,by simpa using h2,fun i x hi=>?_,fun _=>⟨hB,rfl⟩⟩
   simp only [List.getElem?_set] at hi
   split at hi
   ·rename_i e';subst e'
    (try rw [if_pos hoff] at hi);cases hi
    refine ⟨v',?_,hv,hc⟩
    rw [Array.getElem?_setIfInBounds,if_pos rfl,if_pos (by omega)]
   ·rename_i e'
    obtain ⟨x',a1,a2,a3⟩:=h3 i x hi
    refine ⟨x',?_,a2,a3⟩
    rw [Array.getElem?_setIfInBounds,if_neg (by omega)];exact a1
  ·rename_i e'
   have hne:=h.sep b b' blk blk' hb hb' e' ho c base sz c' base' sz' hr hr'
   obtain ⟨arr',e'',fz',g1,g2⟩:=h.live b' blk' hb' c' base' sz' hr'
   exact ⟨arr',e'',fz',by rw [heap_o _ (Ne.symm hne)];exact g1,g2⟩
 ·have get:∀(b':Nat) (blk':Blk),(setC H b off v)[b']? =some (some blk')→∃blk'':Blk,H[b']? =some (some blk'')∧blk''.own=blk'.own:=by
   intro b' blk' hb'
   rw [hs,List.getElem?_set] at hb'
   split at hb'
   ·rename_i e';subst e';(try rw [if_pos hbl] at hb');cases hb';exact ⟨blk,hb,rfl⟩
   ·exact ⟨blk',hb',rfl⟩
  intro b1 b2 blk1 blk2 g1 g2 hne ho1
  obtain ⟨k1,q1,q2⟩:=get _ _ g1
  obtain ⟨k2,q3,q4⟩:=get _ _ g2
  exact h.sep b1 b2 k1 k2 q1 q3 hne (q2.trans ho1)
 ·have:base+off<arr.size:=by omega
  exact ⟨arr[base+off],by simp [World.cell?,hh,this]⟩
 ·simp [World.frozen?,hh]
 ·exact (Below.refl B0 w).setCell (p:=⟨c,base+off,none⟩) hB v'
end Go.Proofs.Ytbnplefohfamnaa.Ai
