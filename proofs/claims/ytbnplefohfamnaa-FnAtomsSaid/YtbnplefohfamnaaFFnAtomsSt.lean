/- Lists of structs: each element is some cells, one behind another. -/
import Derived.Test.YtbnplefohfamnaaFFnAtomsLibB
set_option linter.unusedVariables false
set_option linter.unusedSimpArgs false
namespace Go.Proofs.Ytbnplefohfamnaa.Ai
open Go

class Sz {α:Type} (f:α→List Value) (sz:outParam Nat):Prop where
 len:∀x,(f x).length=sz
 pos:0<sz
abbrev fA:Int×Nat×Nat→List Value:=fun p=>[.int .i64 p.1,.float .f32 p.2.1,.float .f32 p.2.2]
instance:Sz fA 3:=⟨fun _=>rfl,by decide⟩

section
variable {α:Type} {f:α→List Value} {sz:Nat} [hs:Sz f sz]
theorem zg9 (xs:List α):(xs.flatMap f).length=xs.length*sz:=by
 induction xs with
 | nil=>simp
 | cons x r ih=>rw [List.flatMap_cons,List.length_append,ih,hs.len,List.length_cons,Nat.succ_mul];omega
theorem zvp (xs:List α) (i:Nat):(xs.flatMap f).drop (i*sz)=(xs.drop i).flatMap f:=by
 induction xs generalizing i with
 | nil=>simp
 | cons x r ih=>
  cases i with
  | zero=>simp
  | succ i=>rw [List.flatMap_cons,List.drop_succ_cons,←ih,List.drop_append,hs.len,Nat.succ_mul,show i*sz+sz-sz=i*sz by omega,List.drop_eq_nil_of_le (by rw [hs.len];omega),List.nil_append]
theorem z16a (xs:List α) {i:Nat} (hi:i<xs.length) (d:α):((xs.flatMap f).drop (i*sz)).take sz=f (xs.getD i d):=by
 rw [zvp,List.drop_eq_getElem_cons hi,List.flatMap_cons,List.take_append_of_le_length (by rw [hs.len];omega),List.take_of_length_le (by rw [hs.len];omega),List.getD_eq_getElem?_getD,List.getElem?_eq_getElem hi];rfl
def IsT (f:α→List Value) [hs:Sz f sz] (H:zd) (a:Option Addr) (n:Nat) (xs:List α):Prop:=n=xs.length∧rdS H a (n*sz)=some (xs.flatMap f)
def OwnT (f:α→List Value) [hs:Sz f sz] (H:zd) (lo:Nat) (a:Option Addr) (n e:Nat) (xs:List α):Prop:=
 n=xs.length∧((a=none∧xs=[])∨∃b,a=some ⟨b,0,none⟩∧Own H b (xs.flatMap f)∧e=sz∧lo≤b)
theorem IsT.eqn {H:zd} {a:Option Addr} {n:Nat} {xs:List α} (h:IsT f H a n xs):n=xs.length:=h.1
theorem IsT.nil (H:zd) (a:Option Addr):IsT f H a 0 []:=⟨rfl,by rw [Nat.zero_mul];rfl⟩
theorem IsT.grow {H H':zd} {a:Option Addr} {n:Nat} {xs:List α} (h:IsT f H a n xs) (g:Grow H H'):IsT f H' a n xs:=⟨h.1,zgy g h.2⟩
theorem IsT.pos {H:zd} {a:Option Addr} {n:Nat} {xs:List α} (h:IsT f H a n xs) (hn:0<n):∃b o,a=some ⟨b,o,none⟩:=by
 rcases z2b h.2 with ⟨h3,_⟩ | ⟨_,b,off,e,_⟩
 ·have:=Nat.mul_pos hn hs.pos;omega
 ·exact ⟨b,off,e⟩
theorem IsT.rdN {H H':zd} {a:Option Addr} {n:Nat} {xs:List α} (h:IsT f H a n xs) (g:Grow H H') {b o i:Nat} (ha:a=some ⟨b,o,none⟩) (hi:i<n) (d:α):
  Ai.rdN H' b (o+i*sz) sz=some (f (xs.getD i d)):=by
 have hn:=h.1
 rcases z2b h.2 with ⟨h3,_⟩ | ⟨_,b',off,e,h5⟩
 ·have:=Nat.mul_pos (show 0<n by omega) hs.pos;omega
 ·rw [ha] at e;cases e
  obtain ⟨blk,hb,hn2,he⟩:=z5i h5
  have hle:i*sz+sz≤n*sz:=by rw [←Nat.succ_mul];exact Nat.mul_le_mul_right _ hi
  refine zpm g ?_
  unfold Ai.rdN Ai.rdB
  rw [hb]
  simp only [Option.bind_some]
  rw [if_pos (by omega),←z16a (f:=f) xs (show i<xs.length by omega) d,he,List.drop_take,List.drop_drop,List.take_take,Nat.min_eq_left (by omega)]
theorem IsT.rd {H H':zd} {a:Option Addr} {n:Nat} {xs:List α} (h:IsT f H a n xs) (g:Grow H H') {b o i:Nat} (ha:a=some ⟨b,o,none⟩) (hi:i<n) (d:α) {j:Nat} (hj:j<sz):
  rdC H' b (o+i*sz+j)=(f (xs.getD i d))[j]? :=by
 have:=h.rdN g ha hi d
 have c:=zgx this hj
 exact c
theorem Own.isT {H:zd} {b:Nat} {xs:List α} (h:Own H b (xs.flatMap f)) {n:Nat} (hn:n=xs.length):IsT f H (some ⟨b,0,none⟩) n xs:=
 ⟨hn,h.rdAll (by rw [zg9,hn])⟩
theorem OwnT.isL {H:zd} {lo:Nat} {a:Option Addr} {n e:Nat} {xs:List α} (h:OwnT f H lo a n e xs):IsT f H a n xs:=by
 obtain ⟨rfl,⟨rfl,rfl⟩ | ⟨b,rfl,h,_,_⟩⟩:=h
 ·exact IsT.nil H none
 ·exact h.isT rfl
theorem OwnT.grow {H H':zd} {lo:Nat} {a:Option Addr} {n e:Nat} {xs:List α} (h:OwnT f H lo a n e xs) (g:Grow H H'):OwnT f H' lo a n e xs:=by
 obtain ⟨rfl,⟨rfl,rfl⟩ | ⟨b,rfl,h,he,hl⟩⟩:=h
 ·exact ⟨rfl,.inl ⟨rfl,rfl⟩⟩
 ·exact ⟨rfl,.inr ⟨b,rfl,h.grow g,he,hl⟩⟩
theorem OwnT.weak {H:zd} {lo lo':Nat} {a:Option Addr} {n e:Nat} {xs:List α} (h:OwnT f H lo a n e xs) (hl:lo'≤lo):OwnT f H lo' a n e xs:=by
 obtain ⟨rfl,⟨rfl,rfl⟩ | ⟨b,rfl,h,he,hl'⟩⟩:=h
 ·exact ⟨rfl,.inl ⟨rfl,rfl⟩⟩
 ·exact ⟨rfl,.inr ⟨b,rfl,h,he,Nat.le_trans hl hl'⟩⟩
theorem OwnT.nil (H:zd) (lo e:Nat):OwnT f H lo none 0 e []:=⟨rfl,.inl ⟨rfl,rfl⟩⟩
theorem Own.ownT {H:zd} {lo b n:Nat} {xs:List α} (h:Own H b (xs.flatMap f)) (hn:n=xs.length) (hl:lo≤b):OwnT f H lo (some ⟨b,0,none⟩) n sz xs:=⟨hn,.inr ⟨b,rfl,h,rfl,hl⟩⟩
theorem OwnT.up {H:zd} {lo:Nat} {a:Option Addr} {n e:Nat} {xs:List α} (h:OwnT f H lo a n e xs):∀x,a=some x→x.block<H.length:=by
 obtain ⟨_,⟨rfl,_⟩ | ⟨b,rfl,h,_,_⟩⟩:=h
 ·intro x hx;cases hx
 ·intro x hx;cases hx;exact h.lt
theorem OwnT.lo {H:zd} {lo:Nat} {a:Option Addr} {n e:Nat} {xs:List α} (h:OwnT f H lo a n e xs):∀x,a=some x→lo≤x.block:=by
 obtain ⟨_,⟨rfl,_⟩ | ⟨b,rfl,h,_,hl⟩⟩:=h
 ·intro x hx;cases hx
 ·intro x hx;cases hx;exact hl
theorem OwnT.len {H:zd} {lo:Nat} {a:Option Addr} {n e:Nat} {xs:List α} (h:OwnT f H lo a n e xs):n=xs.length:=h.1
theorem OwnT.keep {H H':zd} {lo hi b:Nat} {a:Option Addr} {n e:Nat} {xs:List α} (h:OwnT f H lo a n e xs) (up:∀x,a=some x→x.block<hi) (hd:b<lo∨hi≤b) (k:z5q b H H'):OwnT f H' lo a n e xs:=by
 obtain ⟨hn,⟨rfl,hx⟩ | ⟨c,rfl,h,he,hl⟩⟩:=h
 ·exact ⟨hn,.inl ⟨rfl,hx⟩⟩
 ·have:=up _ rfl
  exact ⟨hn,.inr ⟨c,rfl,h.keep (by simp at this;omega) k,he,hl⟩⟩
theorem OwnT.keepA {H H':zd} {lo:Nat} {a a2:Option Addr} {n e:Nat} {xs:List α} (h:OwnT f H lo a n e xs) (hd:SepA a2 a) (k:z3j a2 H H'):OwnT f H' lo a n e xs:=by
 obtain ⟨hn,⟨rfl,hx⟩ | ⟨c,rfl,h,he,hl⟩⟩:=h
 ·exact ⟨hn,.inl ⟨rfl,hx⟩⟩
 ·exact ⟨hn,.inr ⟨c,rfl,h.keepA (fun x hx=>hd x _ hx rfl) k,he,hl⟩⟩
theorem OwnT.make (f:α→List Value) [hs:Sz f sz] (H:zd) (xs:List α):∃H' a n e,Grow H H'∧OwnT f H' H.length a n e xs:=
 ⟨H++[some {cells:=xs.flatMap f,own:=true}],some ⟨H.length,0,none⟩,xs.length,sz,Grow.app H _,(Own.new H _).ownT rfl (Nat.le_refl _)⟩
theorem OwnT.put {H:zd} {lo:Nat} {a:Option Addr} {n e:Nat} {xs:List α} (h:OwnT f H lo a n e xs) (ys:List α) (hl:ys.length=xs.length):∃H',z3j a H H'∧OwnT f H' lo a n e ys:=by
 obtain ⟨hn,⟨rfl,hx⟩ | ⟨c,rfl,h,he,hlo⟩⟩:=h
 ·subst hx
  have:ys=[]:=List.length_eq_zero_iff.1 hl
  exact ⟨H,z3j.refl _ _,hn.trans hl.symm,.inl ⟨rfl,this⟩⟩
 ·refine ⟨H.set c (some {cells:=ys.flatMap f,own:=true}),⟨by simp,fun i hi hx=>?_⟩,hn.trans hl.symm,.inr ⟨c,rfl,?_,he,hlo⟩⟩
  ·rw [List.getElem?_set,if_neg (fun e=>hx _ rfl e)]
  ·unfold Own;rw [List.getElem?_set];simp [h.lt]
theorem zvq {xs ys:List α} {H:zd} {b:Nat} (h:Own H b (xs.flatMap f++ys.flatMap f)):Own H b ((xs++ys).flatMap f):=by rw [List.flatMap_append];exact h
theorem OwnT.ownB {H:zd} {lo:Nat} {a:Option Addr} {n e:Nat} {xs:List α} (h:OwnT f H lo a n e xs):Ai.ownB H a n e sz=some (xs.flatMap f):=by
 obtain ⟨rfl,⟨rfl,rfl⟩ | ⟨b,rfl,h,he,hl⟩⟩:=h
 ·rfl
 ·exact h.ownB (zg9 xs) he
end
theorem z1cv {α β:Type} {f:α→List Value} {sz:Nat} [hs:Sz f sz] {f2:β→Value} {H:zd} {xs:List α} {ys:List β} {R:Prop} (h:∀a n e a2 n2 e2 H',Grow H H'→OwnT f H' H.length a n e xs→OwnS f2 H' H.length a2 n2 e2 ys→SepA a a2→R):R:=by
 obtain ⟨H',a,n,e,g,o⟩:=OwnT.make f H xs
 obtain ⟨H2,a2,n2,e2,g2,o2⟩:=OwnS.make f2 H' ys
 exact h a n e a2 n2 e2 H2 (g.trans g2) (o.grow g2) (o2.weak g.1) (fun x y hx hy hh=>by have:=o.up x hx;have:=o2.lo y hy;omega)
def w3 (k:Int):Int:=IntKind.wrap .i64 ((IntKind.wrap .i64 ((IntKind.wrap .i64 (k+1))+1))+1)
def wkA (k:Int):Nat→Int
 | 0=>k
 | n+1=>wkA (w3 k) n
def zwl (k:Int):Nat→List (Int×Nat×Nat)
 | 0=>[]
 | n+1=>(k,FloatKind.nearest .f32 (IntKind.wrap .i64 (k+1)),FloatKind.nearest .f32 (IntKind.wrap .i64 ((IntKind.wrap .i64 (k+1))+1)))::zwl (w3 k) n
theorem z9u:∀(n:Nat) (k:Int),(zwl k n).length=n:=by
 intro n
 induction n with
 | zero=>intro k;rfl
 | succ n ih=>intro k;simp [zwl,ih]
theorem z16v {α:Type} {f:α→List Value} {sz:Nat} [hs:Sz f sz] {H:zd} {a:Option Addr} {n:Nat} {xs:List α} (h:IsT f H a n xs):rdS H a (n*sz)=some (xs.flatMap f):=h.2
theorem zcg (xs:List (Int×Nat×Nat)):(xs.flatMap fA).length=xs.length*3:=zg9 xs
end Go.Proofs.Ytbnplefohfamnaa.Ai
