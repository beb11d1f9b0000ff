/- Phasors: fractions of turns, quarters and the sine's sum, as floats. -/
import Derived.Test.YthheoefadijhdaaGreatFFnExactThumbOfFs
import Derived.Test.YthheoefadijhdaaGreatFFnExactThumbOfExt
set_option linter.unusedVariables false
namespace Go.Proofs.YthheoefadijhdaaGreat.Ai
open Go
def qm (f:Nat):Int:=sv .f64 f / sv .f64 4598175219545276416
def sinG (z:Nat) (tn:Bool):Nat→Nat→Nat→Nat
 | 0,_,_=>0
 | μ+1,p,k=>bif fle .f64 4607182418800017408 k then sinG z tn μ (fsub .f64 4607182418800017408 (fdiv .f64 (fmul .f64 (fmul .f64 z z) p) (fmul .f64 (fmul .f64 4611686018427387904 k) (fadd .f64 (fmul .f64 4611686018427387904 k) 4607182418800017408)))) (fsub .f64 k 4607182418800017408) else (bif tn then fneg .f64 (fmul .f64 z p) else fmul .f64 z p)
def sinS (z:Nat) (tn:Bool):Nat→Nat→Int→Nat
 | 0,_,_=>0
 | μ+1,p,k=>bif decide ((1:Int)≤k) then sinS z tn μ (fsub .f64 4607182418800017408 (fdiv .f64 (fmul .f64 (fmul .f64 z z) p) (FloatKind.nearest .f64 (IntKind.wrap .i64 ((IntKind.wrap .i64 (2*k))*(IntKind.wrap .i64 ((IntKind.wrap .i64 (2*k))+1))))))) (k-1) else (bif tn then fneg .f64 (fmul .f64 z p) else fmul .f64 z p)
def In52 (y:Nat):Prop:=fle .f64 4841369599423283200 y=false∧fle .f64 y 14064741636278059008=false
def z1kl (y:Nat):Nat:=bif flt .f64 (fsub .f64 y (FloatKind.nearest .f64 (((ftoi .f64 y .i64).getD 0)))) 0 then fadd .f64 (fsub .f64 y (FloatKind.nearest .f64 (((ftoi .f64 y .i64).getD 0)))) 4607182418800017408 else fsub .f64 y (FloatKind.nearest .f64 (((ftoi .f64 y .i64).getD 0)))
def z1l1 (F:Nat):Nat:=
 sinS (fmul .f64 (bif flt .f64 4598175219545276416 (bif fle .f64 4602678819172646912 F then fsub .f64 F 4602678819172646912 else F) then fsub .f64 4602678819172646912 (bif fle .f64 4602678819172646912 F then fsub .f64 F 4602678819172646912 else F) else (bif fle .f64 4602678819172646912 F then fsub .f64 F 4602678819172646912 else F)) 4618760256179416344)
  (fle .f64 4602678819172646912 F) 9 4607182418800017408 8
attribute [local irreducible] sinS in
def radOf (x:Nat):Int:=(ftoi .f64 (fint .up (z8r (fmul .f32 1077936128 x))) .i64).getD 0
end Go.Proofs.YthheoefadijhdaaGreat.Ai
