/- The library's zxk sort, on lists: what comes out is sorted, and equals keep their order. -/
import Derived.Test.YtbnplefohfamnaaFFnAtomsFb
set_option linter.unusedVariables false
namespace Go.Proofs.Ytbnplefohfamnaa.Ai.So
section
variable {κ:Nat→Int}

def Asc (κ:Nat→Int) (l:List Nat):Prop:=l.Pairwise fun x y=>κ x≤κ y
def Stab (κ:Nat→Int) (l m:List Nat):Prop:=∀k:Int,m.filter (fun x=>decide (κ x=k))=l.filter (fun x=>decide (κ x=k))
structure SS (κ:Nat→Int) (l m:List Nat):Prop where
 asc:Asc κ m
 stab:Stab κ l m

theorem Stab.refl (l:List Nat):Stab κ l l:=fun _=>rfl
theorem Stab.trans {a b c:List Nat} (h:Stab κ a b) (g:Stab κ b c):Stab κ a c:=fun k=>(g k).trans (h k)
theorem Stab.symm {a b:List Nat} (h:Stab κ a b):Stab κ b a:=fun k=>(h k).symm
theorem Stab.app {a b c d:List Nat} (h:Stab κ a b) (g:Stab κ c d):Stab κ (a++c) (b++d):=fun k=>by
 rw [List.filter_append,List.filter_append,h k,g k]
theorem Stab.mem {a b:List Nat} (h:Stab κ a b) (x:Nat):x ∈ b↔x ∈ a:=by
 have:=h (κ x)
 constructor
 ·intro hx
  have h1:x ∈ b.filter (fun y=>decide (κ y=κ x)):=List.mem_filter.2 ⟨hx,by simp⟩
  rw [this] at h1;exact (List.mem_filter.1 h1).1
 ·intro hx
  have h1:x ∈ a.filter (fun y=>decide (κ y=κ x)):=List.mem_filter.2 ⟨hx,by simp⟩
  rw [←this] at h1;exact (List.mem_filter.1 h1).1
theorem zcf {l:List Nat} {k:Int} (h:∀x ∈ l,κ x≠k):l.filter (fun x=>decide (κ x=k))=[]:=
 List.filter_eq_nil_iff.2 fun x hx=>by simpa using h x hx
theorem Stab.swap {a b:List Nat} (h:∀x ∈ a,∀y ∈ b,κ x≠κ y):Stab κ (a++b) (b++a):=fun k=>by
 rw [List.filter_append,List.filter_append]
 by_cases ha:∃x ∈ a,κ x=k
 ·obtain ⟨x,hx,e⟩:=ha
  rw [zcf (l:=b) fun y hy e2=>h x hx y hy (e.trans e2.symm)];simp
 ·rw [zcf (l:=a) fun x hx e=>ha ⟨x,hx,e⟩];simp

theorem Asc.nil:Asc κ []:=List.Pairwise.nil
theorem Asc.one (x:Nat):Asc κ [x]:=List.pairwise_singleton _ _
theorem Asc.app {a b:List Nat} (ha:Asc κ a) (hb:Asc κ b) (h:∀x ∈ a,∀y ∈ b,κ x≤κ y):Asc κ (a++b):=List.pairwise_append.2 ⟨ha,hb,h⟩
theorem Asc.left {a b:List Nat} (h:Asc κ (a++b)):Asc κ a:=(List.pairwise_append.1 h).1
theorem Asc.right {a b:List Nat} (h:Asc κ (a++b)):Asc κ b:=(List.pairwise_append.1 h).2.1
theorem SS.refl {l:List Nat} (h:Asc κ l):SS κ l l:=⟨h,Stab.refl l⟩
theorem SS.behind {l m n:List Nat} (h:Stab κ l m) (g:SS κ m n):SS κ l n:=⟨g.asc,h.trans g.stab⟩
theorem Stab.length {a b:List Nat} (h:Stab κ a b):b.length=a.length:=by
 induction hn:a.length using Nat.strongRecOn generalizing a b with
 | _ n ih=>
  cases a with
  | nil=>
   cases b with
   | nil=>simpa using hn
   | cons y b=>exact absurd ((h.mem y).1 (by simp)) (by simp)
  | cons x a=>
   let p:=fun y=>decide (κ y=κ x)
   have h1:=h (κ x)
   have key:∀l:List Nat,l.length=(l.filter p).length+(l.filter fun y=>!p y).length:=fun l=>by
    induction l with
    | nil=>rfl
    | cons z l ih=>cases hp:p z<;>simp [hp,ih]<;>omega
   have h2:Stab κ ((x::a).filter fun y=>!p y) (b.filter fun y=>!p y):=fun k=>by
    rw [List.filter_filter,List.filter_filter]
    by_cases hk:k=κ x
    ·subst hk
     have e:∀l:List Nat,l.filter (fun y=>decide (κ y=κ x) && !p y)=[]:=fun l=>List.filter_eq_nil_iff.2 fun y _=>by simp [p]
     rw [e,e]
    ·have e:∀l:List Nat,l.filter (fun y=>decide (κ y=k) && !p y)=l.filter fun y=>decide (κ y=k):=fun l=>by
      apply List.filter_congr
      intro y _
      by_cases hy:κ y=k
      ·simp [p,hy,hk]
      ·simp [hy]
     rw [e,e];exact h k
   have h3:=key (x::a)
   have hpos:0<((x::a).filter p).length:=by rw [List.filter_cons_of_pos (by simp [p])];simp
   have h4:=ih _ (by omega) h2 rfl
   have h5:=key b
   have h6:(b.filter p).length=((x::a).filter p).length:=by rw [show b.filter p=(x::a).filter p from h1]
   omega
theorem SS.length {a b:List Nat} (h:SS κ a b):b.length=a.length:=h.stab.length
end

def at_ (l:List Nat) (i:Nat):Nat:=l.getD i 0
def sw (l:List Nat) (i j:Nat):List Nat:=(l.set i (at_ l j)).set j (at_ l i)

def swR:Nat→List Nat→Nat→Nat→List Nat
 | 0,l,_,_=>l
 | n+1,l,a,b=>swR n (sw l a b) (a+1) (b+1)
def rot:Nat→List Nat→Nat→Nat→Nat→List Nat
 | 0,l,_,_,_=>l
 | f+1,l,m,i,j=>
  if i=j then swR i l (m-i) m
  else if j<i then rot f (swR j l (m-i) m) m (i-j) j
  else rot f (swR i l (m-i) (m+j-i)) m i (j-i)
def bs (p:Nat→Bool):Nat→Nat→Nat→Nat
 | 0,s,_=>s
 | f+1,s,r=>if s<r then if p ((s+r) / 2) then bs p f ((s+r) / 2+1) r else bs p f s ((s+r) / 2) else s
def upTo:Nat→List Nat→Nat→List Nat
 | 0,l,_=>l
 | n+1,l,k=>upTo n (sw l k (k+1)) (k+1)
def z12u:Nat→List Nat→Nat→List Nat
 | 0,l,_=>l
 | n+1,l,k=>z12u n (sw l k (k-1)) (k-1)
section
variable (κ:Nat→Int)
def lt_ (x y:Nat):Bool:=decide (κ x<κ y)

def symM:Nat→List Nat→Nat→Nat→Nat→List Nat
 | 0,l,_,_,_=>l
 | f+1,l,a,m,b=>
  if m-a=1 then
   let i:=bs (fun h=>lt_ κ (at_ l h) (at_ l a)) (b-m) m b
   upTo (i-1-a) l a
  else if b-m=1 then
   let i:=bs (fun h=>!(lt_ κ (at_ l m) (at_ l h))) (m-a) a m
   z12u (m-i) l m
  else
   let mid:=(a+b) / 2
   let n:=mid+m
   let s0:=if mid<m then n-b else a
   let r0:=if mid<m then mid else m
   let s:=bs (fun c=>!(lt_ κ (at_ l (n-1-c)) (at_ l c))) (r0-s0) s0 r0
   let e:=n-s
   let l1:=if s<m∧m<e then rot (e-s) l m (m-s) (e-m) else l
   let l2:=if a<s∧s<mid then symM f l1 a s mid else l1
   if mid<e∧e<b then symM f l2 mid e b else l2
end

section
variable (κ:Nat→Int)
def insD:Nat→List Nat→Nat→Nat→List Nat
 | 0,l,_,_=>l
 | f+1,l,a,j=>if a<j∧lt_ κ (at_ l j) (at_ l (j-1))=true then insD f (sw l j (j-1)) a (j-1) else l
def insS:Nat→List Nat→Nat→Nat→List Nat
 | 0,l,_,_=>l
 | n+1,l,a,i=>insS n (insD κ (i-a) l a i) a (i+1)
def blks (s:Nat):Nat→List Nat→Nat→List Nat
 | 0,l,_=>l
 | f+1,l,a=>if a+s≤l.length then blks s f (insS κ (s-1) l a (a+1)) (a+s) else insS κ (l.length-a-1) l a (a+1)
def mrgs (s:Nat):Nat→List Nat→Nat→List Nat
 | 0,l,_=>l
 | f+1,l,a=>if a+2*s≤l.length then mrgs s f (symM κ (2*s) l a (a+s) (a+2*s)) (a+2*s) else if a+s<l.length then symM κ (l.length-a) l a (a+s) l.length else l
def stb:Nat→List Nat→Nat→List Nat
 | 0,l,_=>l
 | f+1,l,s=>if s<l.length then stb f (mrgs κ s (l.length+1) l 0) (2*s) else l
end

section
variable {κ:Nat→Int}
def Ch (κ:Nat→Int) (s:Nat) (l:List Nat):Prop:=∃(L:List (List Nat)) (T:List Nat),l=L.flatten++T∧(∀x ∈ L,x.length=s∧Asc κ x)∧T.length<s∧Asc κ T

theorem Ch.asc {s:Nat} {l:List Nat} (h:Ch κ s l) (hl:l.length≤s):Asc κ l:=by
 obtain ⟨L,T,rfl,hL,hT,aT⟩:=h
 match L,hL with
 | [],_=>simpa using aT
 | [x],hL=>
  have hx:=hL x (by simp)
  have:T=[]:=List.length_eq_zero_iff.1 (by simp at hl;omega)
  subst this
  simpa using hx.2
 | x::y::L,hL=>
  have hx:=hL x (by simp)
  have hy:=hL y (by simp)
  have:2*s≤s:=by simp at hl;omega
  have:T.length<0:=by omega
  omega

def zxk (κ:Nat→Int) (l:List Nat):List Nat:=stb κ (l.length+1) (blks κ 20 (l.length+1) l 0) 20
end
end Go.Proofs.Ytbnplefohfamnaa.Ai.So
