/- The arguments of a law, as the data of the row gives them, on the abstract machine. -/
import Derived.Test.YtbnplefohfamnaaFFnAtomsLibA
import Derived.Deep.Slices
import Derived.ChangeArms
import Derived.Carry
namespace Go.Proofs.Ytbnplefohfamnaa.Ai
open Go Go.RowKit Go.ChangeShapes Go.WideShapes Go.Deep

def RO (H:zd):Prop:=∀(b:Nat) (blk:Blk),H[b]? =some (some blk)→blk.own=false

theorem RO.nil:RO []:=fun b blk h=>by simp at h
theorem HR.nil (W:World):HR W.heap.size [] [] W:=⟨rfl,Nat.le_refl _,fun b blk h=>by simp at h,fun b1 b2 blk1 blk2 h=>by simp at h⟩


theorem HR.addRO {B0:Nat} {ρ:Ren} {H:zd} {W:World} (h:HR B0 ρ H W) (hro:RO H) {a:Addr} {n:Nat} {cs:List Value} (hn:0<n) (hl:cs.length=n)
  (hc:∀i v,cs[i]? =some v→∃v',W.cell? (a.add i)=some v'∧VR ρ v v'∧isCell v=true):
  a.spot=none∧HR B0 (ρ++[(a.block,a.off,n)]) (H++[some {cells:=cs,own:=false}]) W∧RO (H++[some {cells:=cs,own:=false}]):=by
 have hp:ρ <+:ρ++[(a.block,a.off,n)]:=List.prefix_append _ _
 -- the row
 have first:∃arr e fz,W.heap[a.block]? =some (.cells arr e fz)∧a.spot=none:=by
  obtain ⟨v',h1,_⟩:=hc 0 cs[0] (List.getElem?_eq_getElem (by omega))
  unfold Addr.add at h1
  rw [if_pos rfl] at h1
  unfold World.cell? at h1
  split at h1
  ·rename_i c e f hb
   cases hs:a.spot with
   | none=>exact ⟨c,e,f,hb,rfl⟩
   | some s=>rw [hs] at h1;simp at h1
  ·cases h1
 obtain ⟨arr,e,fz,hh,hs⟩:=first
 have ha:a=⟨a.block,a.off,none⟩:=by cases a;simp_all
 have each:∀i v,cs[i]? =some v→∃v',arr[a.off+i]? =some v'∧VR ρ v v'∧isCell v=true:=by
  intro i v hv
  obtain ⟨v',h1,h2⟩:=hc i v hv
  rw [ha,z3a] at h1
  simp only [World.cell?,hh] at h1
  exact ⟨v',by simpa using h1,h2⟩
 have hsize:a.off+n≤arr.size:=by
  obtain ⟨v',h1,_⟩:=each (n-1) cs[n-1] (List.getElem?_eq_getElem (by omega))
  have:=(Array.getElem?_eq_some_iff.1 h1).1
  omega
 have get:∀(b:Nat) (blk:Blk),(H++[some {cells:=cs,own:=false}])[b]? =some (some blk)→(b<H.length∧H[b]? =some (some blk))∨(b=H.length∧blk={cells:=cs,own:=false}):=by
  intro b blk hb
  by_cases hlt:b<H.length
  ·rw [List.getElem?_append_left hlt] at hb;exact .inl ⟨hlt,hb⟩
  ·rw [List.getElem?_append_right (by omega)] at hb
   cases hd:b-H.length with
   | zero=>rw [hd] at hb;simp at hb;exact .inr ⟨by omega,hb.symm⟩
   | succ k=>rw [hd] at hb;simp at hb
 have hro':RO (H++[some {cells:=cs,own:=false}]):=by
  intro b blk hb
  rcases get b blk hb with ⟨_,hb⟩ | ⟨_,rfl⟩
  ·exact hro b blk hb
  ·rfl
 refine ⟨hs,⟨by simp [h.len],h.base0,?_,?_⟩,hro'⟩
 ·intro b blk hb c base sz hr
  rcases get b blk hb with ⟨hlt,hb⟩ | ⟨rfl,rfl⟩
  ·rw [List.getElem?_append_left (h.len ▸ hlt)] at hr
   obtain ⟨arr',e',fz',g1,g2,g3,g4,g5⟩:=h.live b blk hb c base sz hr
   refine ⟨arr',e',fz',g1,g2,g3,fun i v hi=>?_,g5⟩
   obtain ⟨v',q1,q2,q3⟩:=g4 i v hi
   exact ⟨v',q1,q2.mono hp,q3⟩
  ·rw [h.len,List.getElem?_append_right (Nat.le_refl _),Nat.sub_self] at hr
   simp at hr
   obtain ⟨rfl,rfl,rfl⟩:=hr
   refine ⟨arr,e,fz,hh,by simp [hl],hsize,fun i v hi=>?_,fun h=>by cases h⟩
   obtain ⟨v',q1,q2,q3⟩:=each i v hi
   exact ⟨v',q1,q2.mono hp,q3⟩
 ·intro b1 b2 blk1 blk2 h1 h2 hne ho
  have:=hro' b1 blk1 h1
  rw [this] at ho;cases ho

section
variable {Hh:Type} {enc:TypeId×Value→Hh} {P:Program} {W:World}

theorem zf4 {α:Type} {f:α→Value} {Q:α→Prop} {t e:TypeId} {fuel:Nat} {cs:List Value} {x:DataW Hh×List MemPlace} (ht:P.underlying t=some (.slice e)) (hc:P.cellsOf e=1)
  (dec:∀(fuel:Nat) (v:Value) (x:DataW Hh×List MemPlace),DataW.trod enc P W 0 (fun _=>true) true fuel e [v]=some x→∃y:α,(∀ρ,VR ρ (f y) v)∧isCell (f y)=true∧Q y)
  (h:DataW.trod enc P W 0 (fun _=>true) true fuel t cs=some x) {B0:Nat} {ρ:Ren} {H:zd} (hr:HR B0 ρ H W) (hro:RO H):
  ∃(ρ':Ren) (H':zd) (a:Option Addr) (n:Nat) (v:Value) (xs:List α),cs=[v]∧ρ <+:ρ'∧Grow H H'∧HR B0 ρ' H' W∧RO H'∧VR ρ' (.slice a n 0) v∧IsL f H' a n xs∧(∀y ∈ xs,Q y)∧xs.length≤9223372036854775807:=by
 rcases open_slice1 ht hc h with ⟨rfl,_⟩ | ⟨a,len,cap,m,n,V,D,Pl,rfl,hb,hl,hm,hmm,rfl,hx⟩
 ·exact ⟨ρ,H,none,0,_,[],rfl,List.prefix_refl _,.refl _,hr,hro,.snil,IsL.nil f H none,by simp,by simp⟩
 ·simp only [if_true] at hmm
  subst hmm
  have each:∀i,i<len→∃y:α,(∀ρ,VR ρ (f y) (V i))∧isCell (f y)=true∧Q y:=fun i hi=>dec n (V i) _ (hx i (by omega)).2
  have hall:∀k,k≤len→∃xs:List α,xs.length=k∧(∀y ∈ xs,Q y)∧∀i y,xs[i]? =some y→(∀ρ,VR ρ (f y) (V i))∧isCell (f y)=true:=by
   intro k
   induction k with
   | zero=>intro _;exact ⟨[],rfl,by simp,by simp⟩
   | succ k ih=>
    intro hk
    obtain ⟨xs,h1,h2,h3⟩:=ih (by omega)
    obtain ⟨y,g1,g2,g3⟩:=each k (by omega)
    refine ⟨xs++[y],by simp [h1],?_,?_⟩
    ·intro z hz
     rcases List.mem_append.1 hz with hz | hz
     ·exact h2 z hz
     ·simp at hz;subst hz;exact g3
    ·intro i z hz
     by_cases hi:i<xs.length
     ·rw [List.getElem?_append_left hi] at hz;exact h3 i z hz
     ·have:i=k:=by have:=(List.getElem?_eq_some_iff.1 hz).1;simp at this;omega
      subst this
      rw [List.getElem?_append_right (by omega)] at hz
      simp [h1] at hz;subst hz;exact ⟨g1,g2⟩
  obtain ⟨xs,h1,h2,h3⟩:=hall len (Nat.le_refl _)
  rcases Nat.eq_zero_or_pos len with h0 | h0
  ·subst h0
   have:xs=[]:=List.length_eq_zero_iff.1 h1
   subst this
   exact ⟨ρ,H,some ⟨0,0,none⟩,0,_,[],rfl,List.prefix_refl _,.refl _,hr,hro,.sempty _ _ _ _,IsL.nil f H _,by simp,by simp⟩
  ·obtain ⟨hs,hr',hro'⟩:=hr.addRO hro (a:=a) (n:=len) (cs:=xs.map f) h0 (by simp [h1]) (by
    intro i v hv
    rw [List.getElem?_map] at hv
    cases hx':xs[i]? with
    | none=>rw [hx'] at hv;cases hv
    | some y=>
     rw [hx'] at hv;cases hv
     have hi:i<len:=by have:=(List.getElem?_eq_some_iff.1 hx').1;omega
     exact ⟨V i,(hx i (by omega)).1,(h3 i y hx').1 ρ,(h3 i y hx').2⟩)
   have ha:a=⟨a.block,a.off,none⟩:=by cases a;simp_all
   refine ⟨_,_,some ⟨H.length,0,none⟩,len,_,xs,rfl,List.prefix_append _ _,Grow.app _ _,hr',hro',?_,?_,h2,by rw [h1];have:maxLen=9223372036854775807:=rfl;omega⟩
   ·rw [ha]
    have:=VR.slice (ρ:=ρ++[(a.block,a.off,len)]) H.length 0 len 0 a.block a.off len m (by rw [hr.len];simp) hl (fun h=>absurd h (by omega))
    simpa using this
   ·unfold IsL rdS
    have hb0:Nat.beq len 0=false:=by cases hb:Nat.beq len 0;rfl;have:=Nat.eq_of_beq_eq_true hb;omega
    rw [hb0]
    simp only [cond_false,rdN,rdB]
    rw [List.getElem?_append_right (Nat.le_refl _),Nat.sub_self]
    simp [h1]
    rw [List.take_of_length_le (by simp [h1])]

def W32 (x:Nat):Prop:=x<2 ^ 32∧cn .f32 x=x
def I64 (x:Int):Prop:=-9223372036854775808≤x∧x≤9223372036854775807
theorem I64.of {n:Int} (h:(Lit.int .i64 n).wf=true):I64 n:=by
 have:IntKind.i64.min≤n∧n≤IntKind.i64.max:=by simpa [Lit.wf] using h
 have e1:IntKind.i64.min=-9223372036854775808:=rfl
 have e2:IntKind.i64.max=9223372036854775807:=rfl
 exact ⟨by omega,by omega⟩
theorem z12s {e:TypeId} (he:P.underlying e=some (.int .u8)) (fuel:Nat) (v:Value) (x:DataW Hh×List MemPlace) (h:DataW.trod enc P W 0 (fun _=>true) true fuel e [v]=some x):
  ∃y:UInt8,(∀ρ,VR ρ (Value.int .u8 y.toNat) v)∧isCell (Value.int .u8 y.toNat)=true∧True:=by
 obtain ⟨n,h1,_,h2⟩:=DataW.trod_int he h
 cases h1
 have:IntKind.u8.min≤n∧n≤IntKind.u8.max:=by simpa [Lit.wf] using h2
 have e1:IntKind.u8.min=0:=rfl
 have e2:IntKind.u8.max=255:=rfl
 have hn:((UInt8.ofNat n.toNat).toNat:Int)=n:=by
  rw [UInt8.toNat_ofNat'];omega
 exact ⟨UInt8.ofNat n.toNat,fun ρ=>by rw [hn];exact .int _ _,rfl,trivial⟩
end
end Go.Proofs.Ytbnplefohfamnaa.Ai
