/- Phasors: fractions of turns, quarters and the sine's sum, as floats. -/
import Derived.Test.YthheoefadijhdaaGreatFFnExactReadMarksFs
import Derived.Test.YthheoefadijhdaaGreatFFnExactReadMarksExt
set_option linter.unusedVariables false
namespace Go.Proofs.YthheoefadijhdaaGreat.Ai
open Go
theorem zlz {f:Ieee.Format} {x:Nat} {s:Bool} {m:Nat} {e:Int} (h:f.read x=.number s m e):m<2*f.binade:=by
 have hp:0<f.binade:=Nat.two_pow_pos _
 unfold Ieee.Format.read at h
 simp only [] at h
 split at h
 ·cases h;omega
 ·split at h
  ·cases h
   have:=Nat.mod_lt (x % f.signWeight) hp
   omega
  ·split at h<;>cases h
def qm (f:Nat):Int:=sv .f64 f / sv .f64 4598175219545276416
def sinG (z:Nat) (tn:Bool):Nat→Nat→Nat→Nat
 | 0,_,_=>0
 | μ+1,p,k=>bif fle .f64 4607182418800017408 k then sinG z tn μ (fsub .f64 4607182418800017408 (fdiv .f64 (fmul .f64 (fmul .f64 z z) p) (fmul .f64 (fmul .f64 4611686018427387904 k) (fadd .f64 (fmul .f64 4611686018427387904 k) 4607182418800017408)))) (fsub .f64 k 4607182418800017408) else (bif tn then fneg .f64 (fmul .f64 z p) else fmul .f64 z p)
def sinS (z:Nat) (tn:Bool):Nat→Nat→Int→Nat
 | 0,_,_=>0
 | μ+1,p,k=>bif decide ((1:Int)≤k) then sinS z tn μ (fsub .f64 4607182418800017408 (fdiv .f64 (fmul .f64 (fmul .f64 z z) p) (FloatKind.nearest .f64 (IntKind.wrap .i64 ((IntKind.wrap .i64 (2*k))*(IntKind.wrap .i64 ((IntKind.wrap .i64 (2*k))+1))))))) (k-1) else (bif tn then fneg .f64 (fmul .f64 z p) else fmul .f64 z p)
def In52 (y:Nat):Prop:=fle .f64 4841369599423283200 y=false∧fle .f64 y 14064741636278059008=false
def z1lf (y:Nat):Nat:=bif flt .f64 (fsub .f64 y (FloatKind.nearest .f64 (((ftoi .f64 y .i64).getD 0)))) 0 then fadd .f64 (fsub .f64 y (FloatKind.nearest .f64 (((ftoi .f64 y .i64).getD 0)))) 4607182418800017408 else fsub .f64 y (FloatKind.nearest .f64 (((ftoi .f64 y .i64).getD 0)))
def z1lv (F:Nat):Nat:=
 sinS (fmul .f64 (bif flt .f64 4598175219545276416 (bif fle .f64 4602678819172646912 F then fsub .f64 F 4602678819172646912 else F) then fsub .f64 4602678819172646912 (bif fle .f64 4602678819172646912 F then fsub .f64 F 4602678819172646912 else F) else (bif fle .f64 4602678819172646912 F then fsub .f64 F 4602678819172646912 else F)) 4618760256179416344)
  (fle .f64 4602678819172646912 F) 9 4607182418800017408 8
attribute [local irreducible] sinS in
theorem zn8 {k:FloatKind} {a x b:Nat} (ha:fin k a=true) (hb:fin k b=true) (h1:fle k a x=true) (h2:fle k x b=true):fin k x=true:=by
 obtain ⟨s,m,e,hr⟩:=z3c ha
 obtain ⟨t,n,i,hq⟩:=z3c hb
 unfold fle Ieee.Format.order at h1 h2
 rw [hr] at h1
 rw [hq] at h2
 unfold fin
 cases hx:k.format.read x with
 | number a b c=>rfl
 | infinity u=>
  rw [hx] at h1 h2
  cases u
  ·cases h2
  ·cases h1
 | nan u v=>rw [hx] at h1;cases h1
theorem top32 {T:Nat} (h:T≤250):top .f32 T:=by
 unfold top
 have e1:FloatKind.f32.format.binade=8388608:=by decide
 have e2:FloatKind.f32.format.infRung=255*8388608:=by decide
 rw [e1,e2];omega
theorem zoz (way:Ieee.Toward) (s:Bool) (n d:Nat):way.cut s n d≤n / 2 ^ d+1:=by
 have hb:∀c:Bool,c.toNat≤1:=fun c=>by cases c<;>decide
 unfold Ieee.Toward.cut
 simp only [Nat.one_shiftLeft]
 by_cases h:d≤n.log2+2
 ·rw [Nat.min_eq_left h];exact Nat.add_le_add_left (hb _) _
 ·rw [Nat.min_eq_right (by omega)]
  have h1:n<2 ^ (n.log2+2):=Nat.lt_of_lt_of_le Nat.lt_log2_self (Nat.pow_le_pow_right (by decide) (by omega))
  rw [Nat.div_eq_of_lt h1]
  exact Nat.le_trans (Nat.add_le_add_left (hb _) _) (by rw [Nat.zero_add];exact Nat.le_add_left 1 _)
def radOf (x:Nat):Int:=(ftoi .f64 (fint .up (z2m (fmul .f32 1077936128 x))) .i64).getD 0
end Go.Proofs.YthheoefadijhdaaGreat.Ai
