/- Numbers as rationals: what sums, products and quotients lose. -/
import Derived.Test.YthheoefadijhdaaGreatFFnExactReadMarksEr
set_option linter.unusedVariables false
set_option linter.unusedSimpArgs false
namespace Go.Proofs.YthheoefadijhdaaGreat.Ai
open Go

def PP (k:FloatKind):Rat:=(((2 ^ lp k:Nat):Int):Rat)
def rq (k:FloatKind) (x:Nat):Rat:=(sv k x:Rat) / PP k
def uu:FloatKind→Nat
 | .f32=>24
 | .f64=>53
def ur (k:FloatKind):Rat:=1 / (((2 ^ uu k:Nat):Int):Rat)
end Go.Proofs.YthheoefadijhdaaGreat.Ai
