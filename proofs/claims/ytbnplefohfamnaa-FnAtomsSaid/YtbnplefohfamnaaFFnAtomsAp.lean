/- Appending to a list that may be nil; places in pictures. -/
import Derived.Test.YtbnplefohfamnaaFFnAtomsLibB
set_option linter.unusedVariables false
set_option linter.unusedSimpArgs false
namespace Go.Proofs.Ytbnplefohfamnaa.Ai
open Go

theorem OwnS.ownB {α:Type} {f:α→Value} {H:zd} {lo n e:Nat} {a:Option Addr} {xs:List α} (h:OwnS f H lo a n e xs):Ai.ownB H a n e 1=some (xs.map f):=by
 obtain ⟨hn,⟨rfl,hx⟩ | ⟨c,rfl,h,he,hl⟩⟩:=h
 ·subst hx;subst hn;rfl
 ·exact Own.ownB h (by simp [hn]) he
theorem z3j.grow {H H':zd} (k:z3j none H H'):Grow H H':=⟨k.1,fun i hi=>k.2 i hi fun x hx=>by cases hx⟩
end Go.Proofs.Ytbnplefohfamnaa.Ai
