/- Errors of rounding: how far a rounded number is from the exact one. -/
import Derived.Test.YthheoefadijhdaaGreatFFnExactReadMarksPu
set_option linter.unusedVariables false
set_option linter.unusedSimpArgs false
namespace Go.Proofs.YthheoefadijhdaaGreat.Ai
open Go

theorem rv_of (f:Ieee.Format):∀(T M:Nat),M≤2*f.binade→∃r,rv f r=M*2 ^ T∧r≤(T+2)*f.binade:=by
 have hbp:0<f.binade:=Nat.two_pow_pos _
 intro T
 induction T with
 | zero=>
  intro M hM
  by_cases h:M=2*f.binade
  ·have:=zd6 f (M:=f.binade) (T:=1) (.inl (Nat.le_refl _)) (by omega)
   exact ⟨1*f.binade+f.binade,by rw [this,h];omega,by omega⟩
  ·have:=zd6 f (M:=M) (T:=0) (.inr rfl) (by omega)
   exact ⟨0*f.binade+M,this,by omega⟩
 | succ T ih=>
  intro M hM
  by_cases h:M=2*f.binade
  ·have:=zd6 f (M:=f.binade) (T:=T+2) (.inl (Nat.le_refl _)) (by omega)
   exact ⟨(T+2)*f.binade+f.binade,by rw [this,h,Nat.pow_succ 2 (T+1),Nat.mul_comm _ 2,Nat.mul_comm 2 f.binade,Nat.mul_assoc],by rw [show T+1+2=(T+2)+1 by omega,Nat.succ_mul (T+2)];exact Nat.le_refl _⟩
  ·by_cases h2:f.binade≤M
   ·have:=zd6 f (M:=M) (T:=T+1) (.inl h2) (by omega)
    exact ⟨(T+1)*f.binade+M,this,by rw [Nat.add_mul (T+1) 2];omega⟩
   ·obtain ⟨r,h3,h4⟩:=ih (2*M) (by omega)
    exact ⟨r,by rw [h3,Nat.pow_succ,Nat.mul_comm 2 M,Nat.mul_assoc,Nat.mul_comm 2 (2 ^ T)],Nat.le_trans h4 (Nat.mul_le_mul_right _ (by omega))⟩
theorem zid (k:FloatKind) (s:Bool) {M T:Nat} (ht:(T+2)*k.format.binade<k.format.infRung) (hM:M≤2*k.format.binade):
  ∃r,k.format.nearest s (M*2 ^ T) k.format.leastPlace=k.format.word s r∧r<k.format.infRung∧rv k.format r=M*2 ^ T:=by
 obtain ⟨r,h1,h2⟩:=rv_of k.format T M hM
 have z:(k.format.leastPlace-k.format.leastPlace).toNat=0:=by omega
 obtain ⟨r1,a1,a2,a3⟩:=zrm k s (m:=M*2 ^ T) (r:=r) (e:=k.format.leastPlace) (by rw [z,h1];exact Nat.le_refl _)
 by_cases h0:r=0
 ·subst h0
  obtain rfl:r1=0:=by omega
  exact ⟨0,a1,by omega,h1⟩
 ·obtain ⟨r2,b1,b2,b3⟩:=zrl k s (m:=M*2 ^ T) (r:=r) (e:=k.format.leastPlace) h0 (by omega) (by rw [z,h1];exact Nat.le_refl _)
  have hlt:=zpa k
  have e1:=(zj3 k.format s (show r1<k.format.signWeight by omega)).1
  have e2:=(zj3 k.format s (show r2<k.format.signWeight by omega)).1
  have:r1=r2:=by rw [←e1,a1.symm.trans b1,e2]
  obtain rfl:r1=r:=by omega
  exact ⟨r1,a1,by omega,h1⟩
theorem zz5 (k:FloatKind) (s:Bool) {r:Nat} (h:r<k.format.infRung):fin k (k.format.word s r)=true∧sv k (k.format.word s r)=if s then -((rv k.format r:Nat):Int) else ((rv k.format r:Nat):Int):=by
 obtain ⟨M,T,h1,h2⟩:=z16d k s h
 refine ⟨by unfold fin;rw [h1],?_⟩
 unfold sv
 rw [h1,h2]
 simp only []
 rw [zbu,show (k.format.leastPlace+(T:Int)-k.format.leastPlace).toNat=T by omega]
theorem ziz (k:FloatKind) (s:Bool) (e:Int):fin k (k.format.nearest s 0 e)=true∧sv k (k.format.nearest s 0 e)=0:=by
 have e0:k.format.nearest s 0 e=k.format.nearest s (0*2 ^ 0) k.format.leastPlace:=by rw [ze8]
 rw [e0]
 obtain ⟨r,h1,h2,h3⟩:=zid k s (M:=0) (T:=0) (by cases k<;>decide) (by omega)
 rw [h1]
 obtain ⟨f1,f2⟩:=zz5 k s h2
 refine ⟨f1,?_⟩
 rw [f2,h3];cases s<;>simp
def pw (n:Nat):Int:=2 ^ n
def wq:Int:=pw 1050
def vl:FloatKind→Nat→Int
 | .f32,x=>sv .f32 x*pw 925
 | .f64,x=>sv .f64 x
end Go.Proofs.YthheoefadijhdaaGreat.Ai
