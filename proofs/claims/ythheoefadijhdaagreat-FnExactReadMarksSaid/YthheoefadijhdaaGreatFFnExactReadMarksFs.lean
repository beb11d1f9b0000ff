/- Theory. -/
import Derived.Test.YthheoefadijhdaaGreatFFnExactReadMarksFb
set_option linter.unusedVariables false
namespace Go.Proofs.YthheoefadijhdaaGreat.Ai
open Go
theorem z12n (s:Bool) (n d:Nat):Ieee.Toward.zero.cut s n d≤n / 2 ^ d:=by
 unfold Ieee.Toward.cut
 simp only [Bool.toNat_false,Nat.add_zero,Nat.one_shiftLeft]
 by_cases h:d≤n.log2+2
 ·rw [Nat.min_eq_left h];exact Nat.le_refl _
 ·rw [Nat.min_eq_right (by omega)]
  have:n<2 ^ (n.log2+2):=Nat.lt_of_lt_of_le Nat.lt_log2_self (Nat.pow_le_pow_right (by decide) (by omega))
  rw [Nat.div_eq_of_lt this]
  exact Nat.zero_le _
end Go.Proofs.YthheoefadijhdaaGreat.Ai
