/- Loops that count in floats, and halving and doubling of floats. -/
import Derived.Test.YthheoefadijhdaaGreatFFnExactReadMarksFl
set_option linter.unusedVariables false
namespace Go.Proofs.YthheoefadijhdaaGreat.Ai
open Go

def cnt (k:Nat):Int:=(ftoi .f64 k .i64).getD 0
def isCnt (k:Nat):Prop:=∃j:Nat,j≤40∧k=FloatKind.nearest .f64 ((j:Int)-4)
theorem isCnt.of {n:Int} (h0:-4≤n) (h1:n≤36):isCnt (FloatKind.nearest .f64 n):=⟨(n+4).toNat,by omega,by rw [show (((n+4).toNat:Nat):Int)-4=n by omega]⟩
theorem isCnt.out {k:Nat} (h:isCnt k):∃n:Int,-4≤n∧n≤36∧k=FloatKind.nearest .f64 n:=by
 obtain ⟨j,h1,h2⟩:=h;exact ⟨(j:Int)-4,by omega,by omega,h2⟩
theorem z15x {x:Nat} (h0:4503599627370496≤x) (h:x<9218868437227405312):
  ∃m q,x=q*4503599627370496+m∧4503599627370496≤m∧m<9007199254740992∧FloatKind.f64.format.read x=.number false m (-1074+(q:Int)):=by
 refine ⟨4503599627370496+x % 4503599627370496,x / 4503599627370496-1,by omega,by omega,by omega,?_⟩
 unfold Ieee.Format.read
 have e1:FloatKind.f64.format.signWeight=9223372036854775808:=by decide
 have e2:FloatKind.f64.format.infRung=9218868437227405312:=by decide
 have e3:FloatKind.f64.format.binade=4503599627370496:=by decide
 have e4:FloatKind.f64.format.leastPlace=-1074:=by decide
 simp only [e1,e2,e3,e4,show x % 9223372036854775808=x from Nat.mod_eq_of_lt (show x<9223372036854775808 by omega)]
 simp only [if_neg (show ¬x<4503599627370496 by omega),if_pos h]
 rw [show x / 9223372036854775808=0 by omega]
 rfl
theorem zsq {m q:Nat} (h1:4503599627370496≤m) (h2:m<9007199254740992) (h3:q*4503599627370496+m≤9218868437227405312):FloatKind.f64.format.nearest false m (-1074+(q:Int))=q*4503599627370496+m:=by
 have e2:FloatKind.f64.format.infRung=9218868437227405312:=by decide
 have e3:FloatKind.f64.format.binade=4503599627370496:=by decide
 have e4:FloatKind.f64.format.leastPlace=-1074:=by decide
 have:=z9a FloatKind.f64.format false m q (by rw [e3];exact h1) (by rw [e3];omega) (by rw [e2,e3];exact h3)
 rw [e3,e4] at this
 exact this
theorem z16e:FloatKind.f64.format.read 4611686018427387904=.number false 4503599627370496 (-51):=by decide+kernel
theorem z15k (m n:Nat) (e:Int):FloatKind.f64.format.nearest false (m*2 ^ n) e=FloatKind.f64.format.nearest false m (e+(n:Int)):=by
 rw [←Nat.shiftLeft_eq];exact z4r _ _ _ _ _
theorem pow52:(2:Nat) ^ 52=4503599627370496:=by decide
theorem pow54:(2:Nat) ^ 54=4*4503599627370496:=by decide
theorem z13z {k:FloatKind} {x y m n:Nat} {s t:Bool} {i j:Int} (h1:k.format.read x=.number s m i) (h2:k.format.read y=.number t n j):fmul k x y=k.format.nearest (s ^^ t) (m*n) (i+j):=by
 unfold fmul Ieee.Format.mul
 rw [h1,h2];rfl
theorem zp1 {k:FloatKind} {x y m n d:Nat} {s t:Bool} {i j:Int} (h1:k.format.read x=.number s m i) (h2:k.format.read y=.number t n j) (hn:n≠0) (hd:k.format.fractionBits+2+n.log2-m.log2=d):
  fdiv k x y=k.format.nearest (s ^^ t) (2*(m <<< d / n)+(m <<< d % n != 0).toNat) (i-j-(d:Int)-1):=by
 subst hd
 unfold fdiv Ieee.Format.div
 rw [h1,h2]
 simp only [Ieee.Datum.quotient]
 rw [if_neg hn]
 rfl
theorem z1ep:Nat.log2 4503599627370496=52:=by decide+kernel
theorem half1 {x m q:Nat} (hl:m.log2=52) (r1:FloatKind.f64.format.read x=.number false m (-1074+(q:Int))):fdiv .f64 x 4611686018427387904=
  FloatKind.f64.format.nearest false (2*(m*2 ^ 54 / 4503599627370496)+(m*2 ^ 54 % 4503599627370496 != 0).toNat) (-1074+(q:Int)- -51-((54:Nat):Int)-1):=by
 have hfb:FloatKind.f64.format.fractionBits=52:=by decide
 have h:=zp1 (d:=54) r1 z16e (by decide) (by rw [hl,z1ep,hfb])
 rw [show (false ^^ false)=false from rfl,Nat.shiftLeft_eq] at h
 exact h
theorem half2 (m:Nat):2*(m*2 ^ 54 / 4503599627370496)+(m*2 ^ 54 % 4503599627370496 != 0).toNat=m*2 ^ 3:=by
 have e:m*2 ^ 54=(m*4)*4503599627370496:=by rw [pow54,Nat.mul_assoc]
 rw [e,Nat.mul_div_cancel _ (by decide),Nat.mul_mod_left,show (2:Nat) ^ 3=8 from rfl]
 rw [show ((0:Nat) != 0).toNat=0 from rfl]
 omega
theorem half {x:Nat} (h0:9007199254740992≤x) (h:x<9218868437227405312):fdiv .f64 x 4611686018427387904=x-4503599627370496:=by
 obtain ⟨m,q,e1,a1,a2,r1⟩:=z15x (by omega) h
 obtain ⟨q',rfl⟩:∃q',q=q'+1:=⟨q-1,by clear r1;omega⟩
 have hl:m.log2=52:=zni (by rw [pow52];exact a1) (by rw [show (2:Nat) ^ (52+1)=9007199254740992 from by decide];exact a2)
 rw [half1 hl r1,half2,z15k]
 have e3:-1074+((q'+1:Nat):Int)- -51-((54:Nat):Int)-1+((3:Nat):Int)=-1074+(q':Int):=by omega
 rw [e3,zsq a1 a2 (by clear e3 r1 hl;omega)]
 clear e3 r1 hl
 omega
def Nrm (y:Nat):Prop:=fin .f64 y=true→flt .f64 0 y=true→4503599627370496≤y∧y<9218868437227405312
end Go.Proofs.YthheoefadijhdaaGreat.Ai
