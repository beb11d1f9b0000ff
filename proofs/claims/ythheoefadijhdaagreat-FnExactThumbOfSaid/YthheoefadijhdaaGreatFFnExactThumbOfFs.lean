/- Theory. -/
import Derived.Test.YthheoefadijhdaaGreatFFnExactThumbOfFb
set_option linter.unusedVariables false
namespace Go.Proofs.YthheoefadijhdaaGreat.Ai
open Go
end Go.Proofs.YthheoefadijhdaaGreat.Ai
