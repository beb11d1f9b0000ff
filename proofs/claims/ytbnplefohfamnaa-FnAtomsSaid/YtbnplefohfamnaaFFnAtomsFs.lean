import Derived.Test.YtbnplefohfamnaaFFnAtomsFb
set_option linter.unusedVariables false
namespace Go.Proofs.Ytbnplefohfamnaa.Ai
open Go
theorem zz0 (s:Bool) (n d:Nat):Ieee.Toward.zero.cut s n d≤n / 2 ^ d:=by
 unfold Ieee.Toward.cut
 simp only [Bool.toNat_false,Nat.add_zero,Nat.one_shiftLeft]
 by_cases h:d≤n.log2+2
 ·rw [Nat.min_eq_left h];exact Nat.le_refl _
 ·rw [Nat.min_eq_right (by omega)]
  have:n<2 ^ (n.log2+2):=Nat.lt_of_lt_of_le Nat.lt_log2_self (Nat.pow_le_pow_right (by decide) (by omega))
  rw [Nat.div_eq_of_lt this]
  exact Nat.zero_le _
theorem zvy {x:Nat} (h:fin .f64 x=true) {W:Nat} (hW:W≤62) (hb:(sv .f64 x).natAbs≤2 ^ (W+lp .f64)):∃n:Int,ftoi .f64 x .i64=some n∧n.natAbs≤2 ^ W:=by
 obtain ⟨s,m,e,hr⟩:=zu h
 have hp:=z1l hr
 have hd:FloatKind.f64.decode x=.number s m e:=hr
 unfold sv at hb
 rw [hr] at hb
 simp only [] at hb
 rw [z1e,Nat.shiftLeft_eq,zka] at hb
 have hc:Ieee.Toward.zero.cut s (m <<< e.toNat) (-e).toNat≤2 ^ W:=by
  refine Nat.le_trans (zz0 _ _ _) ?_
  rw [Nat.shiftLeft_eq]
  by_cases he:0≤e
  ·rw [show (-e).toNat=0 by omega,Nat.pow_zero,Nat.div_one]
   rw [show (e- -(lp .f64:Int)).toNat=e.toNat+lp .f64 by omega,Nat.pow_add,←Nat.mul_assoc,Nat.pow_add] at hb
   exact Nat.le_of_mul_le_mul_right hb (Nat.two_pow_pos _)
  ·rw [show e.toNat=0 by omega,Nat.pow_zero,Nat.mul_one]
   rw [zka] at hp
   obtain ⟨q,hq⟩:∃q:Nat,e=-(lp .f64:Int)+q:=⟨(e+lp .f64).toNat,by omega⟩
   have e1:lp .f64=(-e).toNat+q:=by omega
   rw [show (e- -(lp .f64:Int)).toNat=q by omega] at hb
   generalize lp .f64=L at *
   subst e1
   rw [←Nat.add_assoc,Nat.pow_add 2 (W+(-e).toNat) q,Nat.pow_add] at hb
   have:=Nat.le_of_mul_le_mul_right hb (Nat.two_pow_pos q)
   exact Nat.div_le_of_le_mul (by rw [Nat.mul_comm];exact this)
 have hW2:2 ^ W≤2 ^ 62:=Nat.pow_le_pow_right (by decide) hW
 rw [show (2:Nat) ^ 62=4611686018427387904 by decide] at hW2
 have hs:(Ieee.signed s (Ieee.Toward.zero.cut s (m <<< e.toNat) (-e).toNat) 0).natAbs≤2 ^ W:=by
  rw [z1e,Nat.shiftLeft_zero];exact hc
 refine ⟨Ieee.signed s (Ieee.Toward.zero.cut s (m <<< e.toNat) (-e).toNat) 0,?_,hs⟩
 unfold ftoi
 rw [hd]
 show (if _ then _ else _)=_
 rw [if_pos]
 have e1:IntKind.min .i64=-9223372036854775808:=by decide
 have e2:IntKind.max .i64=9223372036854775807:=by decide
 rw [e1,e2]
 omega
end Go.Proofs.Ytbnplefohfamnaa.Ai
