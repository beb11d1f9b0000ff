/- Lists of lists that come in as arguments of a law. -/
import Derived.Test.YthheoefadijhdaaGreatFFnExactDropPictureAiM
import Derived.Test.YthheoefadijhdaaGreatFFnExactDropPictureLl
namespace Go.Proofs.YthheoefadijhdaaGreat.Ai
open Go Go.RowKit Go.ChangeShapes Go.WideShapes Go.Deep

section
variable {Hh:Type} {enc:TypeId×Value→Hh} {P:Program} {W:World}
end
theorem zon {p:Int} {Q:Prop} (h:p<0∨Q) (h2:¬p<0):Q:=h.resolve_left h2
end Go.Proofs.YthheoefadijhdaaGreat.Ai
