/- Lists of lists that a function has made: a block of slices, and the blocks of the lists. -/
import Derived.Test.YtbnplefohfamnaaFFnAtomsAp
set_option linter.unusedVariables false
set_option linter.unusedSimpArgs false
namespace Go.Proofs.Ytbnplefohfamnaa.Ai
open Go

section
variable {α:Type} {f:α→Value}
def Inn (f:α→Value) (H:zd) (lo hi b:Nat) (vs:List Value) (xss:List (List α)):Prop:=
 vs.length=xss.length∧(∀(i:Nat) (v:Value) (xs:List α),vs[i]? =some v→xss[i]? =some xs→∃(a:Option Addr) (n e:Nat),v=Value.slice a n e∧OwnS f H lo a n e xs∧∀x,a=some x→x.block<hi∧x.block≠b)∧
 ∀(i j:Nat) (a:Option Addr) (n e:Nat) (a':Option Addr) (n' e':Nat),i≠j→vs[i]? =some (Value.slice a n e)→vs[j]? =some (Value.slice a' n' e')→SepA a a'
def OwnB (f:α→Value) (H:zd) (lo hi b:Nat) (xss:List (List α)):Prop:=lo≤b∧b<hi∧hi≤H.length∧∃vs,Own H b vs∧Inn f H lo hi b vs xss
def z3k (f:α→Value) (H:zd) (lo hi:Nat) (a:Option Addr) (n e:Nat) (xss:List (List α)):Prop:=
 n=xss.length∧((a=none∧xss=[])∨∃b,a=some ⟨b,0,none⟩∧OwnB f H lo hi b xss∧e=1)
theorem OwnB.lt {H:zd} {lo hi b:Nat} {xss:List (List α)} (h:OwnB f H lo hi b xss):b<H.length:=Nat.lt_of_lt_of_le h.2.1 h.2.2.1
theorem Inn.map {H H':zd} {lo hi b lo' hi':Nat} {vs:List Value} {xss:List (List α)} (h:Inn f H lo hi b vs xss) (hl:lo'≤lo) (hh:hi≤hi')
  (k:∀a n e xs,OwnS f H lo a n e xs→(∀x,a=some x→x.block<hi∧x.block≠b)→OwnS f H' lo a n e xs):Inn f H' lo' hi' b vs xss:=by
 obtain ⟨h1,h2,h3⟩:=h
 refine ⟨h1,fun i v xs hv hx=>?_,h3⟩
 obtain ⟨a,n,e,g1,g2,g3⟩:=h2 i v xs hv hx
 exact ⟨a,n,e,g1,(k _ _ _ _ g2 g3).weak hl,fun x hx=>⟨Nat.lt_of_lt_of_le (g3 x hx).1 hh,(g3 x hx).2⟩⟩
theorem OwnB.grow {H H':zd} {lo hi b:Nat} {xss:List (List α)} (h:OwnB f H lo hi b xss) (g:Grow H H'):OwnB f H' lo hi b xss:=by
 obtain ⟨h1,h2,h3,vs,h4,h5⟩:=h
 exact ⟨h1,h2,Nat.le_trans h3 g.1,vs,h4.grow g,h5.map (Nat.le_refl _) (Nat.le_refl _) fun a n e xs o _=>o.grow g⟩
theorem OwnB.weak {H:zd} {lo hi lo' hi' b:Nat} {xss:List (List α)} (h:OwnB f H lo hi b xss) (hl:lo'≤lo) (hh:hi≤hi') (hi2:hi'≤H.length):OwnB f H lo' hi' b xss:=by
 obtain ⟨h1,h2,h3,vs,h4,h5⟩:=h
 exact ⟨Nat.le_trans hl h1,Nat.lt_of_lt_of_le h2 hh,hi2,vs,h4,h5.map hl hh fun a n e xs o _=>o⟩
theorem OwnB.keep {H H':zd} {lo hi b b':Nat} {xss:List (List α)} (h:OwnB f H lo hi b xss) (hd:b'<lo∨hi≤b') (k:z5q b' H H'):OwnB f H' lo hi b xss:=by
 obtain ⟨h1,h2,h3,vs,h4,h5⟩:=h
 refine ⟨h1,h2,Nat.le_trans h3 k.1,vs,h4.keep (by omega) k,h5.map (Nat.le_refl _) (Nat.le_refl _) fun a n e xs o hb=>?_⟩
 exact o.keep (fun x hx=>(hb x hx).1) hd k
theorem OwnB.keepA {H H':zd} {lo hi b:Nat} {a2:Option Addr} {xss:List (List α)} (h:OwnB f H lo hi b xss) (hd:∀x,a2=some x→x.block<lo∨hi≤x.block) (k:z3j a2 H H'):OwnB f H' lo hi b xss:=by
 obtain ⟨h1,h2,h3,vs,h4,h5⟩:=h
 refine ⟨h1,h2,Nat.le_trans h3 k.1,vs,h4.keepA (fun x hx=>by have:=hd x hx;omega) k,h5.map (Nat.le_refl _) (Nat.le_refl _) fun a n e xs o hb=>?_⟩
 exact o.keepA (fun x y hx hy=>by have:=hd x hx;have:=(hb y hy).1;have:=o.lo y hy;omega) k
theorem LLc.of {H:zd}:∀{vs:List Value} {xss:List (List α)},vs.length=xss.length→(∀(i:Nat) (v:Value) (xs:List α),vs[i]? =some v→xss[i]? =some xs→∃(a:Option Addr) (n e:Nat),v=Value.slice a n e∧IsL f H a n xs)→LLc f H vs xss:=by
 intro vs
 induction vs with
 | nil=>
  intro xss hl h
  cases xss with
  | nil=>trivial
  | cons x r=>cases hl
 | cons v r ih=>
  intro xss hl h
  cases xss with
  | nil=>cases hl
  | cons x r'=>
   obtain ⟨a,n,e,rfl,h1⟩:=h 0 v x rfl rfl
   exact ⟨h1,ih (by simpa using hl) fun i v xs hv hx=>h (i+1) v xs (by simpa using hv) (by simpa using hx)⟩
theorem OwnB.isLL {H:zd} {lo hi b:Nat} {xss:List (List α)} (h:OwnB f H lo hi b xss) {n:Nat} (hn:n=xss.length):IsLL f H (some ⟨b,0,none⟩) n xss:=by
 obtain ⟨h1,h2,h3,vs,h4,h5⟩:=h
 refine ⟨vs,h4.rdAll (by rw [hn,h5.1]),LLc.of h5.1 fun i v xs hv hx=>?_⟩
 obtain ⟨a,n,e,g1,g2,g3⟩:=h5.2.1 i v xs hv hx
 exact ⟨a,n,e,g1,g2.isL⟩
theorem z3k.isL {H:zd} {lo hi:Nat} {a:Option Addr} {n e:Nat} {xss:List (List α)} (h:z3k f H lo hi a n e xss):IsLL f H a n xss:=by
 obtain ⟨rfl,⟨rfl,rfl⟩ | ⟨b,rfl,h,_⟩⟩:=h
 ·exact ⟨[],rfl,trivial⟩
 ·exact h.isLL rfl
theorem z3k.grow {H H':zd} {lo hi:Nat} {a:Option Addr} {n e:Nat} {xss:List (List α)} (h:z3k f H lo hi a n e xss) (g:Grow H H'):z3k f H' lo hi a n e xss:=by
 obtain ⟨rfl,⟨rfl,rfl⟩ | ⟨b,rfl,h,he⟩⟩:=h
 ·exact ⟨rfl,.inl ⟨rfl,rfl⟩⟩
 ·exact ⟨rfl,.inr ⟨b,rfl,h.grow g,he⟩⟩
theorem z3k.keep {H H':zd} {lo hi b:Nat} {a:Option Addr} {n e:Nat} {xss:List (List α)} (h:z3k f H lo hi a n e xss) (hd:b<lo∨hi≤b) (k:z5q b H H'):z3k f H' lo hi a n e xss:=by
 obtain ⟨rfl,⟨rfl,rfl⟩ | ⟨c,rfl,h,he⟩⟩:=h
 ·exact ⟨rfl,.inl ⟨rfl,rfl⟩⟩
 ·exact ⟨rfl,.inr ⟨c,rfl,h.keep hd k,he⟩⟩
theorem z3k.keepA {H H':zd} {lo hi:Nat} {a a2:Option Addr} {n e:Nat} {xss:List (List α)} (h:z3k f H lo hi a n e xss) (hd:∀x,a2=some x→x.block<lo∨hi≤x.block) (k:z3j a2 H H'):z3k f H' lo hi a n e xss:=by
 obtain ⟨rfl,⟨rfl,rfl⟩ | ⟨c,rfl,h,he⟩⟩:=h
 ·exact ⟨rfl,.inl ⟨rfl,rfl⟩⟩
 ·exact ⟨rfl,.inr ⟨c,rfl,h.keepA hd k,he⟩⟩
theorem z3k.weak {H:zd} {lo hi lo' hi':Nat} {a:Option Addr} {n e:Nat} {xss:List (List α)} (h:z3k f H lo hi a n e xss) (hl:lo'≤lo) (hh:hi≤hi') (h2:hi'≤H.length):z3k f H lo' hi' a n e xss:=by
 obtain ⟨rfl,⟨rfl,rfl⟩ | ⟨c,rfl,h,he⟩⟩:=h
 ·exact ⟨rfl,.inl ⟨rfl,rfl⟩⟩
 ·exact ⟨rfl,.inr ⟨c,rfl,h.weak hl hh h2,he⟩⟩
theorem z3k.nil (H:zd) (lo hi e:Nat):z3k f H lo hi none 0 e []:=⟨rfl,.inl ⟨rfl,rfl⟩⟩
theorem z3k.len {H:zd} {lo hi:Nat} {a:Option Addr} {n e:Nat} {xss:List (List α)} (h:z3k f H lo hi a n e xss):n=xss.length:=h.1
theorem z3k.up {H:zd} {lo hi:Nat} {a:Option Addr} {n e:Nat} {xss:List (List α)} (h:z3k f H lo hi a n e xss):∀x,a=some x→x.block<hi:=by
 obtain ⟨_,⟨rfl,_⟩ | ⟨b,rfl,h,_⟩⟩:=h
 ·intro x hx;cases hx
 ·intro x hx;cases hx;exact h.2.1
theorem z3k.lo {H:zd} {lo hi:Nat} {a:Option Addr} {n e:Nat} {xss:List (List α)} (h:z3k f H lo hi a n e xss):∀x,a=some x→lo≤x.block:=by
 obtain ⟨_,⟨rfl,_⟩ | ⟨b,rfl,h,_⟩⟩:=h
 ·intro x hx;cases hx
 ·intro x hx;cases hx;exact h.1
theorem z3k.ownB {H:zd} {lo hi:Nat} {a:Option Addr} {n e:Nat} {xss:List (List α)} (h:z3k f H lo hi a n e xss):∃vs,Ai.ownB H a n e 1=some vs∧(a=none→vs=[])∧∀b,a=some ⟨b,0,none⟩→Own H b vs:=by
 obtain ⟨rfl,⟨rfl,rfl⟩ | ⟨b,rfl,h,he⟩⟩:=h
 ·exact ⟨[],rfl,fun _=>rfl,fun b hb=>by cases hb⟩
 ·obtain ⟨h1,h2,h3,vs,h4,h5⟩:=h
  exact ⟨vs,h4.ownB (by rw [h5.1];omega) he,(fun hb=>by cases hb),(fun b hb=>by cases hb;exact h4)⟩
theorem z3k.make (f:α→Value) (H:zd):∀xss:List (List α),∃H' a n e,Grow H H'∧z3k f H' H.length H'.length a n e xss:=by
 have all:∀(H:zd) (xss:List (List α)),∃(H':zd) (vs:List Value),Grow H H'∧vs.length=xss.length∧(∀(i:Nat) (v:Value) (xs:List α),vs[i]? =some v→xss[i]? =some xs→∃b,v=Value.slice (some ⟨b,0,none⟩) xs.length 1∧Own H' b (xs.map f)∧H.length≤b∧b<H'.length∧b=H.length+i):=by
  intro H xss
  induction xss generalizing H with
  | nil=>exact ⟨H,[],Grow.refl _,rfl,fun i v xs hv=>by cases hv⟩
  | cons x r ih=>
   obtain ⟨H',vs,g,h1,h2⟩:=ih (H++[some {cells:=x.map f,own:=true}])
   have g0:=Grow.app H (some ({cells:=x.map f,own:=true}:Blk))
   have hl:(H++[some ({cells:=x.map f,own:=true}:Blk)]).length=H.length+1:=by simp
   refine ⟨H',Value.slice (some ⟨H.length,0,none⟩) x.length 1::vs,g0.trans g,by simp [h1],fun i v xs hv hx=>?_⟩
   obtain _ | i:=i
   ·cases hv;cases hx
    have:=g.1
    exact ⟨H.length,rfl,(Own.new H _).grow g,Nat.le_refl _,by omega,rfl⟩
   ·obtain ⟨b,q1,q2,q3,q4,q5⟩:=h2 i v xs (by simpa using hv) (by simpa using hx)
    exact ⟨b,q1,q2,by omega,q4,by omega⟩
 intro xss
 obtain ⟨H',vs,g,h1,h2⟩:=all H xss
 have g0:=Grow.app H' (some ({cells:=vs,own:=true}:Blk))
 have hl:(H'++[some ({cells:=vs,own:=true}:Blk)]).length=H'.length+1:=by simp
 refine ⟨H'++[some {cells:=vs,own:=true}],some ⟨H'.length,0,none⟩,xss.length,1,g.trans g0,rfl,.inr ⟨H'.length,rfl,⟨g.1,by omega,Nat.le_refl _,vs,Own.new H' _,h1,?_,?_⟩,rfl⟩⟩
 ·intro i v xs hv hx
  obtain ⟨b,q1,q2,q3,q4,q5⟩:=h2 i v xs hv hx
  exact ⟨_,_,_,q1,⟨rfl,.inr ⟨b,rfl,q2.grow g0,rfl,q3⟩⟩,fun x hx=>by cases hx;exact ⟨by show b<_;omega,by show b≠_;omega⟩⟩
 ·intro i j a n e a' n' e' hij hv hw
  have hi:=(List.getElem?_eq_some_iff.1 hv).1
  have hj:=(List.getElem?_eq_some_iff.1 hw).1
  obtain ⟨b,q1,q2,q3,q4,q5⟩:=h2 i _ _ hv (List.getElem?_eq_getElem (by omega:i<xss.length))
  obtain ⟨b',p1,p2,p3,p4,p5⟩:=h2 j _ _ hw (List.getElem?_eq_getElem (by omega:j<xss.length))
  cases q1;cases p1
  intro x y hx hy
  cases hx;cases hy
  show b≠b'
  omega
theorem z3j.keep1 {H H':zd} {b:Nat} (k:z3j (some ⟨b,0,none⟩) H H'):z5q b H H':=⟨k.1,fun i hi hn=>k.2 i hi fun x hx=>by cases hx;exact fun h=>hn h.symm⟩
end
def z1dt (a:List Nat) (ds:List (List Nat)):Prop:=
 1≤ds.length∧ds.length≤6∧(∀i:Int,0≤i→i<(ds.length:Int)→1≤(ds.getD i.toNat []).length∧(ds.getD i.toNat []).length≤64)∧
  (∀i:Int,1≤i→i<(ds.length:Int)→(ds.getD (i-1).toNat []).length=2*(ds.getD i.toNat []).length)∧a.length=(ds.getD ((ds.length:Int)-1).toNat []).length
end Go.Proofs.Ytbnplefohfamnaa.Ai
