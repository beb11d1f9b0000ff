/- Errors of rounding: how far a rounded number is from the exact one. -/
import Derived.Test.YthheoefadijhdaaGreatFFnExactThumbOfPu
set_option linter.unusedVariables false
set_option linter.unusedSimpArgs false
namespace Go.Proofs.YthheoefadijhdaaGreat.Ai
open Go

def pw (n:Nat):Int:=2 ^ n
def wq:Int:=pw 1050
def vl:FloatKind→Nat→Int
 | .f32,x=>sv .f32 x*pw 925
 | .f64,x=>sv .f64 x
end Go.Proofs.YthheoefadijhdaaGreat.Ai
