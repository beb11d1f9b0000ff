/- Lists of lists that come in as arguments of a law. -/
import Derived.Test.YthheoefadijhdaaFFnExactDropRowsAiM
import Derived.Test.YthheoefadijhdaaFFnExactDropRowsLl
namespace Go.Proofs.Ythheoefadijhdaa.Ai
open Go Go.RowKit Go.ChangeShapes Go.WideShapes Go.Deep

section
variable {Hh : Type} {enc : TypeId × Value → Hh} {P : Program} {W : World}
end
theorem or_right {p : Int} {Q : Prop} (h : p < 0 ∨ Q) (h2 : ¬ p < 0) : Q := h.resolve_left h2
end Go.Proofs.Ythheoefadijhdaa.Ai
