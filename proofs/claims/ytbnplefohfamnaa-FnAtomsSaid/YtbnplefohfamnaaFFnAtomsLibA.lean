/- Words and lemmas for what the printed bodies come to: branches, whole numbers, lists in blocks. -/
import Derived.Test.YtbnplefohfamnaaFFnAtomsAiM
set_option linter.unusedSimpArgs false
set_option linter.unusedVariables false
namespace Go.Proofs.Ytbnplefohfamnaa.Ai
open Go

theorem Br.intro {b:Bool} {A B:Prop} (h1:b=true→A) (h2:b=false→B):Br b A B:=by
 cases b
 ·exact h2 rfl
 ·exact h1 rfl
theorem Br.dec {p:Prop} [Decidable p] {A B:Prop} (h1:p→A) (h2:¬p→B):Br (decide p) A B:=
 Br.intro (fun h=>h1 (of_decide_eq_true h)) (fun h=>h2 (of_decide_eq_false h))
theorem Br.same {b:Bool} {A:Prop} (h:A):Br b A A:=by cases b<;>exact h

theorem zy {n:Int} (h1:-9223372036854775808≤n) (h2:n≤9223372036854775807):IntKind.wrap .i64 n=n:=by
 rw [IntKind.wrap_i64];omega
theorem z17f:most=4294967296:=rfl

def Own (H:zd) (b:Nat) (cs:List Value):Prop:=H[b]? =some (some {cells:=cs,own:=true})
theorem cnb {α:Type} {P:α→Prop} {b:Bool} {x y:α} (h1:b=true→P x) (h2:b=false→P y):P (bif b then x else y):=by
 cases b
 ·exact h2 rfl
 ·exact h1 rfl
theorem Grow.refl (H:zd):Grow H H:=⟨Nat.le_refl _,fun _ _=>rfl⟩
theorem Grow.trans {a b c:zd} (h:Grow a b) (k:Grow b c):Grow a c:=⟨Nat.le_trans h.1 k.1,fun i hi=>(k.2 i (Nat.lt_of_lt_of_le hi h.1)).trans (h.2 i hi)⟩
theorem Grow.app (H:zd) (x:Option Blk):Grow H (H++[x]):=⟨by simp,fun b hb=>List.getElem?_append_left hb⟩
theorem Own.lt {H:zd} {b:Nat} {cs:List Value} (h:Own H b cs):b<H.length:=(List.getElem?_eq_some_iff.1 h).1
theorem Own.grow {H H':zd} {b:Nat} {cs:List Value} (h:Own H b cs) (g:Grow H H'):Own H' b cs:=(g.2 b h.lt).trans h
theorem Own.new (H:zd) (cs:List Value):Own (H++[some {cells:=cs,own:=true}]) H.length cs:=by simp [Own]
theorem Own.rdB {H:zd} {b:Nat} {cs:List Value} (h:Own H b cs):rdB H b=some cs:=by unfold Ai.rdB;rw [h]
theorem Own.rdC {H:zd} {b:Nat} {cs:List Value} (h:Own H b cs) (i:Nat):rdC H b i=cs[i]? :=by unfold Ai.rdC;rw [h.rdB];rfl
theorem Own.rdN {H:zd} {b:Nat} {cs:List Value} (h:Own H b cs) {off n:Nat} (hn:off+n≤cs.length):rdN H b off n=some ((cs.drop off).take n):=by
 unfold Ai.rdN;rw [h.rdB];simp [hn]
theorem Own.isOwn {H:zd} {b:Nat} {cs:List Value} (h:Own H b cs):isOwn H b:=⟨_,h,rfl⟩
theorem Own.rdAll {H:zd} {b:Nat} {cs:List Value} (h:Own H b cs) {n:Nat} (hn:n=cs.length):rdS H (some ⟨b,0,none⟩) n=some cs:=by
 subst hn
 unfold rdS
 cases hb:Nat.beq cs.length 0 with
 | true=>
  have:cs=[]:=List.length_eq_zero_iff.1 (Nat.eq_of_beq_eq_true hb)
  subst this;rfl
 | false=>
  simp only [cond_false]
  rw [h.rdN (by omega)];simp
theorem Own.ownB {H:zd} {b:Nat} {cs:List Value} (h:Own H b cs) {n e sz:Nat} (hn:cs.length=n*sz) (he:e=sz):ownB H (some ⟨b,0,none⟩) n e sz=some cs:=by
 unfold Ai.ownB
 show (match H[b]? with | some (some blk)=>if 0=0∧blk.own=true∧blk.cells.length=n*sz∧e=sz then some blk.cells else none | _=>none)=_
 rw [h]
 simp [hn,he]

theorem Own.setC {H:zd} {b:Nat} {cs:List Value} (h:Own H b cs) {off:Nat} {v:Value}:Ai.setC H b off v=H.set b (some {cells:=cs.set off v,own:=true}):=by
 unfold Ai.setC;rw [h]
theorem Own.setC_own {H:zd} {b:Nat} {cs:List Value} (h:Own H b cs) (off:Nat) (v:Value):Own (Ai.setC H b off v) b (cs.set off v):=by
 rw [h.setC];unfold Own;rw [List.getElem?_set];simp [h.lt]
theorem z4e {H:zd} {b b' off:Nat} {v:Value} (hne:b'≠b):(setC H b off v)[b']? =H[b']? :=by
 unfold setC
 split
 ·rw [List.getElem?_set,if_neg (by omega)]
 ·rfl
theorem z2x (H:zd) (b off:Nat) (v:Value):(setC H b off v).length=H.length:=by
 unfold setC
 split<;>simp

def IsL {α:Type} (f:α→Value) (H:zd) (a:Option Addr) (n:Nat) (xs:List α):Prop:=rdS H a n=some (xs.map f)
abbrev fF:Nat→Value:=Value.float .f32
abbrev fI:Int→Value:=Value.int .i64
abbrev fB:Bool→Value:=Value.bool

theorem zfl {H:zd} {a:Option Addr} {n:Nat} {l:List Value} (h:rdS H a n=some l):l.length=n:=by
 rcases z2b h with ⟨h1,h2⟩ | ⟨_,b,off,_,h⟩
 ·rw [h1,h2];rfl
 ·exact zfj h
theorem IsL.len {α:Type} {f:α→Value} {H:zd} {a:Option Addr} {n:Nat} {xs:List α} (h:IsL f H a n xs):xs.length=n:=by
 have:=zfl h;simpa using this
theorem zpl {H H':zd} (g:Grow H H') {b:Nat} {l:List Value} (h:rdB H b=some l):rdB H' b=some l:=by
 obtain ⟨blk,hb,rfl⟩:=zgw h
 unfold rdB
 rw [g.2 b (List.getElem?_eq_some_iff.1 hb).1,hb]
theorem z11u {H H':zd} (g:Grow H H') {b i:Nat} {v:Value} (h:rdC H b i=some v):rdC H' b i=some v:=by
 unfold rdC at *
 obtain ⟨cs,h1,h2⟩:=Option.bind_eq_some_iff.1 h
 rw [zpl g h1];exact h2
theorem zpm {H H':zd} (g:Grow H H') {b off n:Nat} {l:List Value} (h:rdN H b off n=some l):rdN H' b off n=some l:=by
 unfold rdN at *
 obtain ⟨cs,h1,h2⟩:=Option.bind_eq_some_iff.1 h
 rw [zpl g h1];exact h2
theorem zgy {H H':zd} (g:Grow H H') {a:Option Addr} {n:Nat} {l:List Value} (h:rdS H a n=some l):rdS H' a n=some l:=by
 rcases z2b h with ⟨h1,h2⟩ | ⟨hn,b,off,rfl,h'⟩
 ·subst h1;subst h2;rfl
 ·unfold rdS
  have:Nat.beq n 0=false:=by cases hb:Nat.beq n 0;rfl;have:=Nat.eq_of_beq_eq_true hb;omega
  rw [this];exact zpm g h'
theorem IsL.grow {α:Type} {f:α→Value} {H H':zd} (g:Grow H H') {a:Option Addr} {n:Nat} {xs:List α} (h:IsL f H a n xs):IsL f H' a n xs:=zgy g h
theorem zgx {H:zd} {b off n:Nat} {l:List Value} (h:rdN H b off n=some l) {i:Nat} (hi:i<n):rdC H b (off+i)=l[i]? :=by
 obtain ⟨blk,hb,hn,rfl⟩:=z5i h
 unfold rdC rdB
 rw [hb]
 simp only [Option.bind_some]
 rw [List.getElem?_take,if_pos hi,List.getElem?_drop]
theorem IsL.cell {α:Type} {f:α→Value} {H:zd} {a:Option Addr} {n:Nat} {xs:List α} (h:IsL f H a n xs) (hn:0<n):
  ∃b off,a=some ⟨b,off,none⟩∧∀i (x:α),xs[i]? =some x→rdC H b (off+i*1)=some (f x):=by
 rcases z2b h with ⟨h1,h2⟩ | ⟨_,b,off,rfl,h9⟩
 ·omega
 ·refine ⟨b,off,rfl,fun i x hx=>?_⟩
  have hl:=zfj h9
  have hi:i<n:=by have:=(List.getElem?_eq_some_iff.1 hx).1;simp at hl;omega
  rw [Nat.mul_one,zgx h9 hi,List.getElem?_map,hx];rfl
theorem IsL.nil {α:Type} (f:α→Value) (H:zd) (a:Option Addr):IsL f H a 0 []:=rfl
theorem Own.isL {α:Type} {f:α→Value} {H:zd} {b:Nat} {xs:List α} (h:Own H b (xs.map f)) {n:Nat} (hn:n=xs.length):IsL f H (some ⟨b,0,none⟩) n xs:=h.rdAll (by simpa using hn)
theorem IsL.sub {α:Type} {f:α→Value} {H:zd} {a:Option Addr} {n:Nat} {xs:List α} (h:IsL f H a n xs) {lo hi:Nat} (h1:lo≤hi) (h2:hi≤n):
  IsL f H (a.map fun a=>⟨a.block,a.off+lo*1,none⟩) (hi-lo) ((xs.drop lo).take (hi-lo)):=by
 unfold IsL at *
 rcases Nat.eq_zero_or_pos (hi-lo) with h0 | h0
 ·rw [h0];simp [rdS]
 rcases z2b h with ⟨h3,h4⟩ | ⟨_,b,off,rfl,h9⟩
 ·omega
 ·unfold rdS
  have hb0:Nat.beq (hi-lo) 0=false:=by cases hb:Nat.beq (hi-lo) 0;rfl;have:=Nat.eq_of_beq_eq_true hb;omega
  rw [hb0]
  simp only [Option.map_some,cond_false]
  obtain ⟨blk,hb,hn,he⟩:=z5i h9
  unfold rdN rdB
  rw [hb]
  simp only [Option.bind_some]
  rw [if_pos (by omega),List.map_take,List.map_drop,he,List.drop_take,List.drop_drop,List.take_take,Nat.mul_one,Nat.min_eq_left (by omega)]

def app1H (H:zd) (b:Nat) (cs:List Value) (v:Value):zd:=
 z5l (H++[some {cells:=[v],own:=true}]) (some ⟨b,0,none⟩)++[some {cells:=cs++[v],own:=true}]
end Go.Proofs.Ytbnplefohfamnaa.Ai
