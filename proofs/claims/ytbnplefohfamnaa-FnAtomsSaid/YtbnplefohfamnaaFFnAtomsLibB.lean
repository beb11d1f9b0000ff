/- Steps of functions on the abstract machine whose lists are followed as lists. -/
import Derived.Test.YtbnplefohfamnaaFFnAtomsLibA
set_option linter.unusedVariables false
namespace Go.Proofs.Ytbnplefohfamnaa.Ai
open Go

theorem zj {α:Type} {c:Bool} {x y:α} (h:c=true):(bif c then x else y)=x:=by rw [h];rfl
theorem zi {α:Type} {c:Bool} {x y:α} (h:c=false):(bif c then x else y)=y:=by rw [h];rfl

def z5q (b:Nat) (H H':zd):Prop:=H.length≤H'.length∧∀i,i<H.length→i≠b→H'[i]? =H[i]?
theorem Own.keep {H H':zd} {b b':Nat} {cs:List Value} (h:Own H b cs) (hne:b≠b') (k:z5q b' H H'):Own H' b cs:=(k.2 b h.lt hne).trans h
theorem Grow.keep {H0 H H':zd} {b:Nat} (g:Grow H0 H) (hb:H0.length≤b) (k:z5q b H H'):Grow H0 H':=
 ⟨Nat.le_trans g.1 k.1,fun i hi=>(k.2 i (Nat.lt_of_lt_of_le hi g.1) (by omega)).trans (g.2 i hi)⟩

def OwnS {α:Type} (f:α→Value) (H:zd) (lo:Nat) (a:Option Addr) (n e:Nat) (xs:List α):Prop:=
 n=xs.length∧((a=none∧xs=[])∨∃b,a=some ⟨b,0,none⟩∧Own H b (xs.map f)∧e=1∧lo≤b)
theorem OwnS.isL {α:Type} {f:α→Value} {H:zd} {lo:Nat} {a:Option Addr} {n e:Nat} {xs:List α} (h:OwnS f H lo a n e xs):IsL f H a n xs:=by
 obtain ⟨rfl,⟨rfl,rfl⟩ | ⟨b,rfl,h,_,_⟩⟩:=h
 ·exact IsL.nil f H none
 ·exact h.isL rfl
theorem OwnS.grow {α:Type} {f:α→Value} {H H':zd} {lo:Nat} {a:Option Addr} {n e:Nat} {xs:List α} (h:OwnS f H lo a n e xs) (g:Grow H H'):OwnS f H' lo a n e xs:=by
 obtain ⟨rfl,⟨rfl,rfl⟩ | ⟨b,rfl,h,he,hl⟩⟩:=h
 ·exact ⟨rfl,.inl ⟨rfl,rfl⟩⟩
 ·exact ⟨rfl,.inr ⟨b,rfl,h.grow g,he,hl⟩⟩
theorem OwnS.weak {α:Type} {f:α→Value} {H:zd} {lo lo':Nat} {a:Option Addr} {n e:Nat} {xs:List α} (h:OwnS f H lo a n e xs) (hl:lo'≤lo):OwnS f H lo' a n e xs:=by
 obtain ⟨rfl,⟨rfl,rfl⟩ | ⟨b,rfl,h,he,hl'⟩⟩:=h
 ·exact ⟨rfl,.inl ⟨rfl,rfl⟩⟩
 ·exact ⟨rfl,.inr ⟨b,rfl,h,he,Nat.le_trans hl hl'⟩⟩
theorem OwnS.nil {α:Type} (f:α→Value) (H:zd) (lo e:Nat):OwnS f H lo none 0 e []:=⟨rfl,.inl ⟨rfl,rfl⟩⟩
theorem Own.ownS {α:Type} {f:α→Value} {H:zd} {lo b n:Nat} {xs:List α} (h:Own H b (xs.map f)) (hn:n=xs.length) (hl:lo≤b):OwnS f H lo (some ⟨b,0,none⟩) n 1 xs:=⟨hn,.inr ⟨b,rfl,h,rfl,hl⟩⟩
theorem OwnS.up {α:Type} {f:α→Value} {H:zd} {lo:Nat} {a:Option Addr} {n e:Nat} {xs:List α} (h:OwnS f H lo a n e xs):∀x,a=some x→x.block<H.length:=by
 obtain ⟨_,⟨rfl,_⟩ | ⟨b,rfl,h,_,_⟩⟩:=h
 ·intro x hx;cases hx
 ·intro x hx;cases hx;exact h.lt
theorem OwnS.keep {α:Type} {f:α→Value} {H H':zd} {lo hi b:Nat} {a:Option Addr} {n e:Nat} {xs:List α} (h:OwnS f H lo a n e xs) (up:∀x,a=some x→x.block<hi) (hd:b<lo∨hi≤b) (k:z5q b H H'):OwnS f H' lo a n e xs:=by
 obtain ⟨hn,⟨rfl,hx⟩ | ⟨c,rfl,h,he,hl⟩⟩:=h
 ·exact ⟨hn,.inl ⟨rfl,hx⟩⟩
 ·have:=up _ rfl
  exact ⟨hn,.inr ⟨c,rfl,h.keep (by simp at this;omega) k,he,hl⟩⟩
theorem OwnS.make {α:Type} (f:α→Value) (H:zd) (xs:List α):∃H' a n e,Grow H H'∧OwnS f H' H.length a n e xs:=
 ⟨H++[some {cells:=xs.map f,own:=true}],some ⟨H.length,0,none⟩,xs.length,1,Grow.app H _,(Own.new H _).ownS rfl (Nat.le_refl _)⟩

theorem Al.intro {cells:List Value} {H:zd} {K:Nat→zd→Prop} (h:∀(b:Nat) (H':zd),b=H.length→H'.length=H.length+1→Grow H H'→Own H' b cells→K b H'):Al cells H K:=by
 unfold Al
 exact h H.length (H++[some {cells:=cells,own:=true}]) rfl (by simp) (Grow.app H _) (Own.new H cells)

theorem Lt.app {H:zd} {b:Nat} {o w cs ds:List Value} {K:zd→Prop} (hb:Own H b cs) (ho:o=cs) (hw:w=ds)
  (h:∀H':zd,H'.length=H.length+1→Own H' H.length (cs++ds)→z5q b H H'→K H'):Lt (z5l H (some ⟨b,0,none⟩)++[some ⟨o++w,true⟩]) K:=by
 subst ho;subst hw
 have hl:(H.set b none).length=H.length:=by simp
 refine h _ ?_ ?_ ⟨?_,fun i hi hne=>?_⟩
 ·unfold z5l;simp
 ·unfold Own z5l
  rw [List.getElem?_append_right (by simp)]
  simp
 ·unfold z5l;simp
 ·unfold z5l
  rw [List.getElem?_append_left (by simpa using hi),List.getElem?_set,if_neg (by simpa using fun e=>hne e.symm)]
theorem Ap.app {H:zd} {b:Nat} {o w cs ds:List Value} {K:Nat→zd→Prop} (hb:Own H b cs) (ho:o=cs) (hw:w=ds)
  (h:∀(b':Nat) (H':zd),b'=H.length→H'.length=H.length+1→Own H' b' (cs++ds)→z5q b H H'→K b' H'):Ap H (z5l H (some ⟨b,0,none⟩)++[some ⟨o++w,true⟩]) K:=
 Lt.app (K:=fun H'=>K H.length H') hb ho hw fun H' h1 h2 h3=>h H.length H' rfl h1 h2 h3
theorem Lt.set {H:zd} {b off:Nat} {v:Value} {cs:List Value} {K:zd→Prop} (hb:Own H b cs) (hn:off<cs.length)
  (h:∀H':zd,H'.length=H.length→Own H' b (cs.set off v)→z5q b H H'→K H'):isOwn H b∧(∃l,rdN H b off 1=some l)∧Lt (setC H b off v) K:=
 ⟨hb.isOwn,⟨_,hb.rdN (by omega)⟩,h _ (z2x _ _ _ _) (hb.setC_own _ _) ⟨by rw [z2x];exact Nat.le_refl _,fun i _ hne=>z4e hne⟩⟩
def zx3 (cs:List Value) (off:Nat):List Value→List Value
 | []=>cs
 | v::r=>zx3 (cs.set off v) (off+1) r
theorem z12c {b:Nat}:∀(vs:List Value) (off:Nat) {H:zd} {cs:List Value},Own H b cs→Own (setN H b off vs) b (zx3 cs off vs)∧(setN H b off vs).length=H.length∧∀i,i≠b→(setN H b off vs)[i]? =H[i]? :=by
 intro vs
 induction vs with
 | nil=>intro off H cs h;exact ⟨h,rfl,fun _ _=>rfl⟩
 | cons v r ih=>
  intro off H cs h
  obtain ⟨h1,h2,h3⟩:=ih (off+1) (h.setC_own off v)
  exact ⟨h1,h2.trans (z2x _ _ _ _),fun i hi=>(h3 i hi).trans (z4e hi)⟩
theorem Lt.setN {H:zd} {b off n:Nat} {vs:List Value} {cs:List Value} {K:zd→Prop} (hb:Own H b cs) (hn:off+n≤cs.length) (hv:vs.length=n)
  (h:∀H':zd,H'.length=H.length→Own H' b (zx3 cs off vs)→z5q b H H'→K H'):isOwn H b∧(∃l,rdN H b off n=some l)∧Lt (Ai.setN H b off vs) K:=by
 obtain ⟨h1,h2,h3⟩:=z12c vs off hb
 exact ⟨hb.isOwn,⟨_,hb.rdN hn⟩,h _ h2 h1 ⟨by rw [h2];exact Nat.le_refl _,fun i _ hne=>h3 i hne⟩⟩
theorem IsL.pos {α:Type} {f:α→Value} {H:zd} {a:Option Addr} {n:Nat} {xs:List α} (h:IsL f H a n xs) (hn:0<n):∃b o,a=some ⟨b,o,none⟩:=by
 obtain ⟨b,o,e,_⟩:=h.cell hn;exact ⟨b,o,e⟩
theorem IsL.rd {α:Type} {f:α→Value} {H H':zd} {a:Option Addr} {n:Nat} {xs:List α} (h:IsL f H a n xs) (g:Grow H H') {b o i:Nat} (ha:a=some ⟨b,o,none⟩) (hi:i<n) (d:α):rdC H' b (o+i*1)=some (f (xs.getD i d)):=by
 obtain ⟨b',o',e,hc⟩:=(h.grow g).cell (by omega)
 rw [ha] at e
 cases e
 have hl:=h.len
 have hx:xs[i]? =some (xs.getD i d):=by rw [List.getD_eq_getElem?_getD,List.getElem?_eq_getElem (by omega)];rfl
 exact hc i _ hx
theorem Own.rd {α:Type} {f:α→Value} {H:zd} {b i:Nat} {xs:List α} (h:Own H b (xs.map f)) (hi:i<xs.length) (d:α):Ai.rdC H b (0+i*1)=some (f (xs.getD i d)):=by
 rw [h.rdC,Nat.zero_add,Nat.mul_one,List.getElem?_map,List.getD_eq_getElem?_getD,List.getElem?_eq_getElem hi];rfl
theorem zl9 {α:Type} (f:α→Value) (z:α) (n:Nat) (hz:(f z).cells.toList=[f z]):z2k (f z) n=(List.replicate n z).map f:=by
 unfold z2k
 rw [hz,List.map_replicate]
 induction n with
 | zero=>rfl
 | succ n ih=>rw [List.replicate_succ,List.flatten_cons,ih,List.replicate_succ];rfl
theorem z9t {α:Type} {f:α→Value} {xs ys:List α} {H:zd} {b:Nat} (h:Own H b (xs.map f++ys.map f)):Own H b ((xs++ys).map f):=by rw [List.map_append];exact h
theorem map_set {α:Type} {f:α→Value} {xs:List α} {i:Nat} {x:α} {H:zd} {b:Nat} (h:Own H b ((xs.map f).set (0+i*1) (f x))):Own H b ((xs.set i x).map f):=by
 rw [Nat.zero_add,Nat.mul_one] at h;rw [List.map_set];exact h
theorem IsL.eqn {α:Type} {f:α→Value} {H:zd} {a:Option Addr} {n:Nat} {xs:List α} (h:IsL f H a n xs):n=xs.length:=h.len.symm
def LLc {α:Type} (f:α→Value) (H:zd):List Value→List (List α)→Prop
 | [],[]=>True
 | .slice a n _::vs,xs::xss=>IsL f H a n xs∧LLc f H vs xss
 | _,_=>False
def IsLL {α:Type} (f:α→Value) (H:zd) (a:Option Addr) (n:Nat) (xss:List (List α)):Prop:=∃vs,rdS H a n=some vs∧LLc f H vs xss
theorem LLc.nil {α:Type} (f:α→Value) (H:zd):LLc f H [] []:=trivial
theorem LLc.cons {α:Type} {f:α→Value} {H:zd} {a:Option Addr} {n e:Nat} {xs:List α} {vs:List Value} {xss:List (List α)} (h:IsL f H a n xs) (k:LLc f H vs xss):LLc f H (.slice a n e::vs) (xs::xss):=⟨h,k⟩
theorem LLc.grow {α:Type} {f:α→Value} {H H':zd} (g:Grow H H'):∀{vs:List Value} {xss:List (List α)},LLc f H vs xss→LLc f H' vs xss
 | [],[],_=>trivial
 | .slice _ _ _::_,_::_,h=>⟨h.1.grow g,LLc.grow g h.2⟩
theorem LLc.len {α:Type} {f:α→Value} {H:zd}:∀{vs:List Value} {xss:List (List α)},LLc f H vs xss→vs.length=xss.length
 | [],[],_=>rfl
 | .slice _ _ _::_,_::_,h=>by simp [LLc.len h.2]
theorem LLc.get {α:Type} {f:α→Value} {H:zd}:∀(vs:List Value) (xss:List (List α)) (i:Nat),LLc f H vs xss→i<xss.length→∃a n e,vs[i]? =some (.slice a n e)∧IsL f H a n (xss.getD i []):=by
 intro vs
 induction vs with
 | nil=>
  intro xss i h hi
  cases xss with
  | nil=>cases hi
  | cons x r=>exact h.elim
 | cons v vs ih=>
  intro xss i h hi
  cases xss with
  | nil=>cases hi
  | cons x r=>
   cases v with
   | slice a n e=>
    cases i with
    | zero=>exact ⟨a,n,e,rfl,h.1⟩
    | succ i=>
     obtain ⟨a',n',e',h1,h2⟩:=ih r i h.2 (by simpa using hi)
     exact ⟨a',n',e',by simpa using h1,by simpa using h2⟩
   | _=>exact h.elim
theorem IsLL.grow {α:Type} {f:α→Value} {H H':zd} (g:Grow H H') {a:Option Addr} {n:Nat} {xss:List (List α)} (h:IsLL f H a n xss):IsLL f H' a n xss:=
 let ⟨vs,h1,h2⟩:=h;⟨vs,zgy g h1,h2.grow g⟩
theorem IsLL.eqn {α:Type} {f:α→Value} {H:zd} {a:Option Addr} {n:Nat} {xss:List (List α)} (h:IsLL f H a n xss):n=xss.length:=
 let ⟨_,h1,h2⟩:=h;(zfl h1).symm.trans h2.len
theorem IsLL.pos {α:Type} {f:α→Value} {H:zd} {a:Option Addr} {n:Nat} {xss:List (List α)} (h:IsLL f H a n xss) (hn:0<n):∃b o,a=some ⟨b,o,none⟩:=by
 obtain ⟨vs,h1,h2⟩:=h
 rcases z2b h1 with ⟨h3,_⟩ | ⟨_,b,off,e,_⟩
 ·omega
 ·exact ⟨b,off,e⟩
theorem IsLL.rd {α:Type} {f:α→Value} {H H':zd} {a:Option Addr} {n:Nat} {xss:List (List α)} (h:IsLL f H a n xss) (g:Grow H H') {b o i:Nat} (ha:a=some ⟨b,o,none⟩) (hi:i<n):
  ∃a' n' e',rdC H' b (o+i*1)=some (.slice a' n' e')∧IsL f H a' n' (xss.getD i []):=by
 have hn:=h.eqn
 obtain ⟨vs,h1,h2⟩:=h
 obtain ⟨a',n',e',h3,h4⟩:=h2.get _ _ i (by omega)
 rcases z2b h1 with ⟨h5,_⟩ | ⟨_,b',off,e,h5⟩
 ·omega
 ·rw [ha] at e;cases e
  exact ⟨a',n',e',z11u g (by rw [Nat.mul_one,zgx h5 hi,h3]),h4⟩
theorem zv {b:Bool} (h:(!b)=true):b=false:=by cases b<;>simp_all
theorem zr {b:Bool} (h:(!b)=false):b=true:=by cases b<;>simp_all
theorem ieq_t {a b:Int} (h:(a==b)=true):a=b:=eq_of_beq h
theorem ieq_f {a b:Int} (h:(a==b)=false):a≠b:=fun e=>by subst e;simp at h
theorem zmf {a b:Int} (h:(a != b)=true):a≠b:=fun e=>by subst e;simp at h
theorem zme {a b:Int} (h:(a != b)=false):a=b:=by simpa using h
theorem z2c {α:Type} {o:Option α} {d:α} (h:o≠none):o=some (o.getD d):=by cases o with | none=>exact absurd rfl h | some x=>rfl
abbrev fC:Nat×Nat→Value:=fun p=>Value.complex .f32 p.1 p.2
abbrev fU:UInt8→Value:=fun c=>Value.int .u8 c.toNat
theorem z10u {α:Type} {xss:List (List α)} (h:∀y ∈ xss,y.length<1073741824) (i:Nat):(xss.getD i []).length<1073741824:=by
 rw [List.getD_eq_getElem?_getD]
 cases hx:xss[i]? with
 | none=>exact (by decide:0<1073741824)
 | some y=>exact h y (List.mem_of_getElem? hx)
theorem zsj {b:Bool} {A B A' B':Prop} (f:A→A') (g:B→B') (h:Br b A B):Br b A' B':=by cases b;exact g h;exact f h
theorem z13k {α:Type} {b:Bool} {K:α→zd→Prop} {x y:α} {H1 H2:zd} (h:Br b (K x H1) (K y H2)):∃v H',K v H':=by cases b;exact ⟨_,_,h⟩;exact ⟨_,_,h⟩
theorem zxq (a b:Int):0≤a→Int.tmod a b=a % b:=fun h=>Int.tmod_eq_emod_of_nonneg h
theorem z8i (a b:Int):0≤a→0<b→0≤Int.tmod a b∧Int.tmod a b<b:=fun h k=>by
 rw [Int.tmod_eq_emod_of_nonneg h];exact ⟨Int.emod_nonneg _ (by omega),Int.emod_lt_of_pos _ k⟩
theorem zk5 {α:Type} {f:α→Value} {H:zd} {xs:List α} {R:Prop} (h:∀a n e H',Grow H H'→OwnS f H' H.length a n e xs→R):R:=by
 obtain ⟨H',a,n,e,g,o⟩:=OwnS.make f H xs;exact h a n e H' g o
theorem zch {α:Type} {f:α→Value} {H:zd} {a:Option Addr} {n:Nat} {xs:List α} (h:IsL f H a n xs):rdS H a (n*1)=some (xs.map f):=by rw [Nat.mul_one];exact h
theorem z12m (n:Int):IntKind.wrap .u64 n=n % 18446744073709551616:=rfl
theorem zc0 {n:Int} (h0:0≤n) (h1:n<18446744073709551616):IntKind.wrap .u64 n=n:=by rw [z12m];omega
def z3j (a:Option Addr) (H H':zd):Prop:=H.length≤H'.length∧∀i,i<H.length→(∀x,a=some x→x.block≠i)→H'[i]? =H[i]?
theorem z3j.refl (a:Option Addr) (H:zd):z3j a H H:=⟨Nat.le_refl _,fun _ _ _=>rfl⟩
theorem z3j.trans {a:Option Addr} {H0 H1 H2:zd} (h:z3j a H0 H1) (g:Grow H1 H2):z3j a H0 H2:=
 ⟨Nat.le_trans h.1 g.1,fun i hi hn=>(g.2 i (Nat.lt_of_lt_of_le hi h.1)).trans (h.2 i hi hn)⟩
theorem z3j.keep {a:Option Addr} {H0 H1 H2:zd} {b:Nat} (h:z3j a H0 H1) (hb:H0.length≤b) (k:z5q b H1 H2):z3j a H0 H2:=
 ⟨Nat.le_trans h.1 k.1,fun i hi hn=>(k.2 i (Nat.lt_of_lt_of_le hi h.1) (by omega)).trans (h.2 i hi hn)⟩
theorem z3j.keepA {a a2:Option Addr} {H0 H1 H2:zd} (h:z3j a H0 H1) (hd:∀x,a2=some x→H0.length≤x.block) (k:z3j a2 H1 H2):z3j a H0 H2:=
 ⟨Nat.le_trans h.1 k.1,fun i hi hn=>(k.2 i (Nat.lt_of_lt_of_le hi h.1) (fun x hx=>by have:=hd x hx;omega)).trans (h.2 i hi hn)⟩
theorem Grow.keepA {a:Option Addr} {H0 H1 H2:zd} (h:Grow H0 H1) (hd:∀x,a=some x→H0.length≤x.block) (k:z3j a H1 H2):Grow H0 H2:=
 ⟨Nat.le_trans h.1 k.1,fun i hi=>(k.2 i (Nat.lt_of_lt_of_le hi h.1) (fun x hx=>by have:=hd x hx;omega)).trans (h.2 i hi)⟩
theorem Own.keepA {H H':zd} {b:Nat} {cs:List Value} (h:Own H b cs) {a:Option Addr} (hd:∀x,a=some x→x.block≠b) (k:z3j a H H'):Own H' b cs:=(k.2 b h.lt hd).trans h
def SepA (a b:Option Addr):Prop:=∀x y,a=some x→b=some y→x.block≠y.block
theorem SepA.symm {a b:Option Addr} (h:SepA a b):SepA b a:=fun x y hx hy e=>h y x hy hx e.symm
theorem OwnS.keepA {α:Type} {f:α→Value} {H H':zd} {lo:Nat} {a a2:Option Addr} {n e:Nat} {xs:List α} (h:OwnS f H lo a n e xs) (hd:SepA a2 a) (k:z3j a2 H H'):OwnS f H' lo a n e xs:=by
 obtain ⟨hn,⟨rfl,hx⟩ | ⟨c,rfl,h,he,hl⟩⟩:=h
 ·exact ⟨hn,.inl ⟨rfl,hx⟩⟩
 ·exact ⟨hn,.inr ⟨c,rfl,h.keepA (fun x hx=>hd x _ hx rfl) k,he,hl⟩⟩
theorem OwnS.lo {α:Type} {f:α→Value} {H:zd} {lo:Nat} {a:Option Addr} {n e:Nat} {xs:List α} (h:OwnS f H lo a n e xs):∀x,a=some x→lo≤x.block:=by
 obtain ⟨_,⟨rfl,_⟩ | ⟨b,rfl,h,_,hl⟩⟩:=h
 ·intro x hx;cases hx
 ·intro x hx;cases hx;exact hl
theorem OwnS.len {α:Type} {f:α→Value} {H:zd} {lo:Nat} {a:Option Addr} {n e:Nat} {xs:List α} (h:OwnS f H lo a n e xs):n=xs.length:=h.1
theorem OwnS.keep1 {H H':zd} {b:Nat} (k:z5q b H H'):z3j (some ⟨b,0,none⟩) H H':=⟨k.1,fun i hi hx=>k.2 i hi fun e=>hx _ rfl e.symm⟩
def wk (k:Int):Nat→Int
 | 0=>k
 | n+1=>wk (IntKind.wrap .i64 (k+1)) n
def marks {α:Type} (f:Int→α) (k:Int):Nat→List α
 | 0=>[]
 | n+1=>f k::marks f (IntKind.wrap .i64 (k+1)) n
theorem z5b {α:Type} (f:Int→α):∀(n:Nat) (k:Int),(marks f k n).length=n:=by
 intro n
 induction n with
 | zero=>intro k;rfl
 | succ n ih=>intro k;simp [marks,ih]
theorem OwnS.put {α:Type} {f:α→Value} {H:zd} {lo:Nat} {a:Option Addr} {n e:Nat} {xs:List α} (h:OwnS f H lo a n e xs) (ys:List α) (hl:ys.length=xs.length):∃H',z3j a H H'∧OwnS f H' lo a n e ys:=by
 obtain ⟨hn,⟨rfl,hx⟩ | ⟨c,rfl,h,he,hlo⟩⟩:=h
 ·subst hx
  have:ys=[]:=List.length_eq_zero_iff.1 hl
  exact ⟨H,z3j.refl _ _,hn.trans hl.symm,.inl ⟨rfl,this⟩⟩
 ·refine ⟨H.set c (some {cells:=ys.map f,own:=true}),⟨by simp,fun i hi hx=>?_⟩,hn.trans hl.symm,.inr ⟨c,rfl,?_,he,hlo⟩⟩
  ·rw [List.getElem?_set,if_neg (fun e=>hx _ rfl e)]
  ·unfold Own;rw [List.getElem?_set];simp [h.lt]
def sAt (s:ByteArray) (i:Nat):UInt8:=s.data.getD i 0
end Go.Proofs.Ytbnplefohfamnaa.Ai
