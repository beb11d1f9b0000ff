/- Lists of lists that come in as arguments of a law. -/
import Derived.Test.YthheoefadijhdaaGreatFFnExactReadMarksAiM
import Derived.Test.YthheoefadijhdaaGreatFFnExactReadMarksLl
namespace Go.Proofs.YthheoefadijhdaaGreat.Ai
open Go Go.RowKit Go.ChangeShapes Go.WideShapes Go.Deep

section
variable {Hh:Type} {enc:TypeId×Value→Hh} {P:Program} {W:World}
end
theorem zph {p:Int} {Q:Prop} (h:p<0∨Q) (h2:¬p<0):Q:=h.resolve_left h2
end Go.Proofs.YthheoefadijhdaaGreat.Ai
