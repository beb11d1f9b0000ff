/- Lists of lists that come in as arguments of a law. -/
import Derived.Test.YtbnplefohfamnaaFFnAtomsOpen
import Derived.Test.YtbnplefohfamnaaFFnAtomsLl
namespace Go.Proofs.Ytbnplefohfamnaa.Ai
open Go Go.RowKit Go.ChangeShapes Go.WideShapes Go.Deep

section
variable {Hh:Type} {enc:TypeId×Value→Hh} {P:Program} {W:World}
end
theorem zp0 {p:Int} {Q:Prop} (h:p<0∨Q) (h2:¬p<0):Q:=h.resolve_left h2
end Go.Proofs.Ytbnplefohfamnaa.Ai
