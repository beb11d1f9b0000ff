/- Lists of lists whose inner lists are written: a row lends one of its lists; zxv of all lists of a row. -/
import Derived.Test.YthheoefadijhdaaGreatFFnExactReadMarksLl
set_option linter.unusedVariables false
set_option linter.unusedSimpArgs false
namespace Go.Proofs.YthheoefadijhdaaGreat.Ai
open Go

def zcs (lo hi:Nat) (H H':zn):Prop:=H.length≤H'.length∧∀i,i<H.length→i<lo∨hi≤i→H'[i]? =H[i]?
theorem zcs.refl (lo hi:Nat) (H:zn):zcs lo hi H H:=⟨Nat.le_refl _,fun _ _ _=>rfl⟩
theorem zcs.trans {lo hi:Nat} {H0 H1 H2:zn} (h:zcs lo hi H0 H1) (g:zcs lo hi H1 H2):zcs lo hi H0 H2:=
 ⟨Nat.le_trans h.1 g.1,fun i hi hn=>(g.2 i (Nat.lt_of_lt_of_le hi h.1) hn).trans (h.2 i hi hn)⟩
theorem zcs.wide {lo hi lo' hi':Nat} {H H':zn} (h:zcs lo hi H H') (h1:lo'≤lo) (h2:hi≤hi'):zcs lo' hi' H H':=⟨h.1,fun i hi hn=>h.2 i hi (by omega)⟩
theorem zcs.grow {lo hi:Nat} {H0 H1 H2:zn} (h:zcs lo hi H0 H1) (g:Grow H1 H2):zcs lo hi H0 H2:=
 ⟨Nat.le_trans h.1 g.1,fun i hi hn=>(g.2 i (Nat.lt_of_lt_of_le hi h.1)).trans (h.2 i hi hn)⟩
def SepL (a:Option Addr) (lo:Nat):Prop:=∀x,a=some x→x.block<lo

section
variable {α:Type} {f:α→Value}
end

def wkk (k:Int):List (List Nat)→Int
 | []=>k
 | y::r=>wkk (wk k y.length) r
def z1kh (F:Int→Nat) (k:Int):List (List Nat)→List (List Nat)
 | []=>[]
 | y::r=>zxv F k y.length::z1kh F (wk k y.length) r
def tot (l:List (List Nat)):Nat:=(l.map List.length).sum
end Go.Proofs.YthheoefadijhdaaGreat.Ai
