/- Rounding keeps the order against a number that the format has. -/
import Derived.Test.YthheoefadijhdaaGreatFFnExactThumbOfPh
set_option linter.unusedVariables false
namespace Go.Proofs.YthheoefadijhdaaGreat.Ai
open Go
def rv (f:Ieee.Format) (r:Nat):Nat:=if r<f.binade then r else (f.binade+r % f.binade)*2 ^ (r / f.binade-1)
def Le2 (A:Nat) (a:Int) (B:Nat) (b:Int):Prop:=A*2 ^ (a-b).toNat≤B*2 ^ (b-a).toNat
theorem zxk {A B:Nat} {a b:Int} (c:Int) (ha:c≤a) (hb:c≤b):Le2 A a B b↔A*2 ^ (a-c).toNat≤B*2 ^ (b-c).toNat:=by
 unfold Le2
 by_cases h:a≤b
 ·obtain ⟨x,hx⟩:∃x:Nat,a=c+x:=⟨(a-c).toNat,by omega⟩
  obtain ⟨y,hy⟩:∃y:Nat,b=a+y:=⟨(b-a).toNat,by omega⟩
  rw [show (a-b).toNat=0 by omega,show (b-a).toNat=y by omega,show (a-c).toNat=x by omega,show (b-c).toNat=y+x by omega,Nat.pow_zero,Nat.mul_one,Nat.pow_add,←Nat.mul_assoc]
  exact (Nat.mul_le_mul_right_iff (Nat.two_pow_pos x)).symm
 ·obtain ⟨x,hx⟩:∃x:Nat,b=c+x:=⟨(b-c).toNat,by omega⟩
  obtain ⟨y,hy⟩:∃y:Nat,a=b+y:=⟨(a-b).toNat,by omega⟩
  rw [show (b-a).toNat=0 by omega,show (a-b).toNat=y by omega,show (b-c).toNat=x by omega,show (a-c).toNat=y+x by omega,Nat.pow_zero,Nat.mul_one,Nat.pow_add,←Nat.mul_assoc]
  exact (Nat.mul_le_mul_right_iff (Nat.two_pow_pos x)).symm
theorem Le2.trans {A B C:Nat} {a b c:Int} (h1:Le2 A a B b) (h2:Le2 B b C c):Le2 A a C c:=by
 obtain ⟨m,h3,h4,h5⟩:∃m:Int,m≤a∧m≤b∧m≤c:=⟨min a (min b c),by omega,by omega,by omega⟩
 rw [zxk m h3 h4] at h1
 rw [zxk m h4 h5] at h2
 rw [zxk m h3 h5]
 exact Nat.le_trans h1 h2
theorem Le2.same {A B:Nat} {a:Int} (h:A≤B):Le2 A a B a:=by unfold Le2;exact Nat.mul_le_mul_right _ h
theorem Le2.mul {A B c:Nat} {a b:Int} (h:Le2 A a B b):Le2 (c*A) a (c*B) b:=by
 unfold Le2 at *
 rw [Nat.mul_assoc,Nat.mul_assoc];exact Nat.mul_le_mul_left _ h
theorem i32:FloatKind.f32.format.infRung=255*2 ^ 23:=by decide
theorem i64:FloatKind.f64.format.infRung=2047*2 ^ 52:=by decide
def sqs2 (s x:Nat):Nat:=fadd .f32 s (fmul .f32 x x)
def okS (s:Nat):Prop:=(bif fle .f32 1056964608 s then fle .f32 s 1098907648 else false)=true
def PI (z:Prop) (b:Bool) (p:Int) (n:Nat) (s:Nat):Prop:=(z∧b=false)∨(b=true∧0≤p∧p<(n:Int)∧okS s)
theorem PI.keep {z z':Prop} {b:Bool} {p:Int} {n s:Nat} (h:PI z b p n s) (hb:b=true):PI z' b p n s:=by
 rcases h with ⟨_,h⟩ | h
 ·rw [hb] at h;cases h
 ·exact .inr h
theorem PI.into {z z':Prop} {b:Bool} {p:Int} {n s:Nat} (h:PI z b p n s) (hz:z→z'):PI z' b p n s:=h.imp (fun h=>⟨hz h.1,h.2⟩) id
theorem PI.fin {z:Prop} {b:Bool} {p:Int} {n s:Nat} (h:PI z b p n s) (hz:¬z):0≤p∧p<(n:Int)∧okS s:=by
 rcases h with ⟨h,_⟩ | h
 ·exact absurd h hz
 ·exact h.2
def RL (N:Nat) (r:Int×Nat×Nat×(List Nat)×Bool):Prop:=r.2.2.2.1.length≤N
end Go.Proofs.YthheoefadijhdaaGreat.Ai
