/- Loops that count in floats, and halving and doubling of floats. -/
import Derived.Test.YtbnplefohfamnaaFFnAtomsFl
set_option linter.unusedVariables false
namespace Go.Proofs.Ytbnplefohfamnaa.Ai
open Go

def cnt (k:Nat):Int:=(ftoi .f64 k .i64).getD 0
def z5t (k:Nat):Prop:=∃j:Nat,j≤40∧k=FloatKind.nearest .f64 ((j:Int)-4)
theorem z14n:∀j:Nat,j≤40→cnt (FloatKind.nearest .f64 ((j:Int)-4))=(j:Int)-4∧fle .f64 4607182418800017408 (FloatKind.nearest .f64 ((j:Int)-4))=decide (5≤j)∧
  fsub .f64 (FloatKind.nearest .f64 ((j:Int)-4)) 4607182418800017408=FloatKind.nearest .f64 ((j:Int)-5)∧fsub .f64 (FloatKind.nearest .f64 ((j:Int)-4)) 4611686018427387904=FloatKind.nearest .f64 ((j:Int)-6):=by decide+kernel
theorem z8q {n:Int} (h0:-4≤n) (h1:n≤36):cnt (FloatKind.nearest .f64 n)=n∧fle .f64 4607182418800017408 (FloatKind.nearest .f64 n)=decide (1≤n)∧
  fsub .f64 (FloatKind.nearest .f64 n) 4607182418800017408=FloatKind.nearest .f64 (n-1)∧fsub .f64 (FloatKind.nearest .f64 n) 4611686018427387904=FloatKind.nearest .f64 (n-2):=by
 have:=z14n (n+4).toNat (by omega)
 rw [show (((n+4).toNat:Nat):Int)-4=n by omega,show (((n+4).toNat:Nat):Int)-5=n-1 by omega,show (((n+4).toNat:Nat):Int)-6=n-2 by omega] at this
 refine ⟨this.1,?_,this.2.2⟩
 rw [this.2.1]
 by_cases h:1≤n
 ·rw [decide_eq_true h,decide_eq_true (by omega)]
 ·rw [decide_eq_false h,decide_eq_false (by omega)]
theorem z5t.of {n:Int} (h0:-4≤n) (h1:n≤36):z5t (FloatKind.nearest .f64 n):=⟨(n+4).toNat,by omega,by rw [show (((n+4).toNat:Nat):Int)-4=n by omega]⟩
theorem z5t.out {k:Nat} (h:z5t k):∃n:Int,-4≤n∧n≤36∧k=FloatKind.nearest .f64 n:=by
 obtain ⟨j,h1,h2⟩:=h;exact ⟨(j:Int)-4,by omega,by omega,h2⟩
theorem zrc {k:Nat} (h:z5t k) (hc:fle .f64 4607182418800017408 k=true):z5t (fsub .f64 k 4607182418800017408)∧cnt (fsub .f64 k 4607182418800017408)=cnt k-1∧1≤cnt k:=by
 obtain ⟨n,h0,h1,rfl⟩:=h.out
 obtain ⟨a,b,c,d⟩:=z8q h0 h1
 rw [b] at hc
 have hc:=of_decide_eq_true hc
 rw [c]
 exact ⟨.of (by omega) (by omega),by rw [(z8q (n:=n-1) (by omega) (by omega)).1,a],by omega⟩
theorem zul {k:Nat} (h:z5t k) (hc:fle .f64 4607182418800017408 k=true):z5t (fsub .f64 k 4611686018427387904)∧cnt (fsub .f64 k 4611686018427387904)=cnt k-2∧1≤cnt k:=by
 obtain ⟨n,h0,h1,rfl⟩:=h.out
 obtain ⟨a,b,c,d⟩:=z8q h0 h1
 rw [b] at hc
 have hc:=of_decide_eq_true hc
 rw [d]
 exact ⟨.of (by omega) (by omega),by rw [(z8q (n:=n-2) (by omega) (by omega)).1,a],by omega⟩

theorem z4j {x:Nat} (h:x<9218868437227405312):fin .f64 x=true:=by
 unfold fin Ieee.Format.read
 have e1:FloatKind.f64.format.signWeight=9223372036854775808:=by decide
 have e2:FloatKind.f64.format.infRung=9218868437227405312:=by decide
 have e3:FloatKind.f64.format.binade=4503599627370496:=by decide
 simp only [e1,e2,e3,show x % 9223372036854775808=x from Nat.mod_eq_of_lt (by omega)]
 by_cases h1:x<4503599627370496
 ·simp only [if_pos h1]
 ·simp only [if_neg h1,if_pos h]
theorem zbx {x:Nat} (h0:4503599627370496≤x) (h:x<9218868437227405312):
  ∃m q,x=q*4503599627370496+m∧4503599627370496≤m∧m<9007199254740992∧FloatKind.f64.format.read x=.number false m (-1074+(q:Int)):=by
 refine ⟨4503599627370496+x % 4503599627370496,x / 4503599627370496-1,by omega,by omega,by omega,?_⟩
 unfold Ieee.Format.read
 have e1:FloatKind.f64.format.signWeight=9223372036854775808:=by decide
 have e2:FloatKind.f64.format.infRung=9218868437227405312:=by decide
 have e3:FloatKind.f64.format.binade=4503599627370496:=by decide
 have e4:FloatKind.f64.format.leastPlace=-1074:=by decide
 simp only [e1,e2,e3,e4,show x % 9223372036854775808=x from Nat.mod_eq_of_lt (show x<9223372036854775808 by omega)]
 simp only [if_neg (show ¬x<4503599627370496 by omega),if_pos h]
 rw [show x / 9223372036854775808=0 by omega]
 rfl
theorem zax {m q:Nat} (h1:4503599627370496≤m) (h2:m<9007199254740992) (h3:q*4503599627370496+m≤9218868437227405312):FloatKind.f64.format.nearest false m (-1074+(q:Int))=q*4503599627370496+m:=by
 have e2:FloatKind.f64.format.infRung=9218868437227405312:=by decide
 have e3:FloatKind.f64.format.binade=4503599627370496:=by decide
 have e4:FloatKind.f64.format.leastPlace=-1074:=by decide
 have:=z7e FloatKind.f64.format false m q (by rw [e3];exact h1) (by rw [e3];omega) (by rw [e2,e3];exact h3)
 rw [e3,e4] at this
 exact this
theorem zl2 {x m q:Nat} (h:FloatKind.f64.format.read x=.number false m (-1074+(q:Int))):sv .f64 x=((m*2 ^ q:Nat):Int):=by
 have e4:FloatKind.f64.format.leastPlace=-1074:=by decide
 unfold sv
 rw [h]
 show Ieee.signed false m _=_
 rw [zq,if_neg (by simp),e4,show (-1074+(q:Int)- -1074).toNat=q by omega]
theorem zez {m m' q q':Nat} (h1:4503599627370496≤m) (h2:m<9007199254740992) (h1':4503599627370496≤m') (h2':m'<9007199254740992) (h:q*4503599627370496+m≤q'*4503599627370496+m'):m*2 ^ q≤m'*2 ^ q':=by
 by_cases hq:q<q'
 ·obtain ⟨d,rfl⟩:∃d,q'=q+1+d:=⟨q'-q-1,by omega⟩
  rw [Nat.pow_add,Nat.pow_succ]
  calc m*2 ^ q≤(m'*2)*2 ^ q:=Nat.mul_le_mul_right _ (by omega)
   _=m'*(2 ^ q*2):=by rw [Nat.mul_assoc,Nat.mul_comm 2]
   _≤m'*(2 ^ q*2*2 ^ d):=Nat.mul_le_mul_left _ (Nat.le_mul_of_pos_right _ (Nat.two_pow_pos d))
 ·have:q=q':=by omega
  subst this
  exact Nat.mul_le_mul_right _ (by omega)
theorem z8t {x y:Nat} (hx0:4503599627370496≤x) (hx:x<9218868437227405312) (hy0:4503599627370496≤y) (hy:y<9218868437227405312):fle .f64 x y=decide (x≤y):=by
 obtain ⟨m,q,e1,a1,a2,r1⟩:=zbx hx0 hx
 obtain ⟨m',q',e2,b1,b2,r2⟩:=zbx hy0 hy
 rw [z5k (z4j hx) (z4j hy),zl2 r1,zl2 r2]
 by_cases h:x≤y
 ·rw [decide_eq_true h,decide_eq_true]
  have:=zez a1 a2 b1 b2 (show q*4503599627370496+m≤q'*4503599627370496+m' by omega)
  omega
 ·rw [decide_eq_false h,decide_eq_false]
  -- strictly greater
  intro hc
  have hle:=zez b1 b2 a1 a2 (show q'*4503599627370496+m'≤q*4503599627370496+m by omega)
  have heq:m*2 ^ q=m'*2 ^ q':=by omega
  by_cases hq:q=q'
  ·subst hq
   have:=Nat.eq_of_mul_eq_mul_right (Nat.two_pow_pos q) heq
   omega
  ·have hq':q'<q:=by omega
   obtain ⟨d,rfl⟩:∃d,q=q'+1+d:=⟨q-q'-1,by omega⟩
   have h9:m'*2 ^ q'<m*2 ^ (q'+1+d):=by
    rw [Nat.pow_add,Nat.pow_succ]
    calc m'*2 ^ q'<(m*2)*2 ^ q':=Nat.mul_lt_mul_of_pos_right (by omega) (Nat.two_pow_pos q')
     _=m*(2 ^ q'*2):=by rw [Nat.mul_assoc,Nat.mul_comm 2]
     _≤m*(2 ^ q'*2*2 ^ d):=Nat.mul_le_mul_left _ (Nat.le_mul_of_pos_right _ (Nat.two_pow_pos d))
   omega
theorem zbb {x y:Nat} (hx0:4503599627370496≤x) (hx:x<9218868437227405312) (hy0:4503599627370496≤y) (hy:y<9218868437227405312):flt .f64 x y=decide (x<y):=by
 have h1:=z8t hy0 hy hx0 hx
 have h2:flt .f64 x y=!(fle .f64 y x):=by
  rw [z2g (z4j hx) (z4j hy),z5k (z4j hy) (z4j hx)]
  by_cases h:sv .f64 x<sv .f64 y
  ·rw [decide_eq_true h,decide_eq_false (by omega)];rfl
  ·rw [decide_eq_false h,decide_eq_true (by omega)];rfl
 rw [h2,h1]
 by_cases h:x<y
 ·rw [decide_eq_true h,decide_eq_false (by omega)];rfl
 ·rw [decide_eq_false h,decide_eq_true (by omega)];rfl
theorem zpo:FloatKind.f64.format.read 4611686018427387904=.number false 4503599627370496 (-51):=by decide+kernel
theorem zox (m n:Nat) (e:Int):FloatKind.f64.format.nearest false (m*2 ^ n) e=FloatKind.f64.format.nearest false m (e+(n:Int)):=by
 rw [←Nat.shiftLeft_eq];exact z1x _ _ _ _ _
theorem pow52:(2:Nat) ^ 52=4503599627370496:=by decide
theorem pow54:(2:Nat) ^ 54=4*4503599627370496:=by decide
theorem z11h (m:Nat) (e:Int):FloatKind.f64.format.nearest false (m*4503599627370496) e=FloatKind.f64.format.nearest false m (e+((52:Nat):Int)):=by
 rw [←pow52];exact zox m 52 e
theorem zga {k:FloatKind} {x y m n:Nat} {s t:Bool} {i j:Int} (h1:k.format.read x=.number s m i) (h2:k.format.read y=.number t n j):fmul k x y=k.format.nearest (s ^^ t) (m*n) (i+j):=by
 unfold fmul Ieee.Format.mul
 rw [h1,h2];rfl
theorem zg6 {k:FloatKind} {x y m n d:Nat} {s t:Bool} {i j:Int} (h1:k.format.read x=.number s m i) (h2:k.format.read y=.number t n j) (hn:n≠0) (hd:k.format.fractionBits+2+n.log2-m.log2=d):
  fdiv k x y=k.format.nearest (s ^^ t) (2*(m <<< d / n)+(m <<< d % n != 0).toNat) (i-j-(d:Int)-1):=by
 subst hd
 unfold fdiv Ieee.Format.div
 rw [h1,h2]
 simp only [Ieee.Datum.quotient]
 rw [if_neg hn]
 rfl
theorem z1dp {x m q:Nat} (r1:FloatKind.f64.format.read x=.number false m (-1074+(q:Int))):fmul .f64 x 4611686018427387904=FloatKind.f64.format.nearest false (m*4503599627370496) (-1074+(q:Int)+ -51):=by
 have h:=zga r1 zpo
 rw [show (false ^^ false)=false from rfl] at h
 exact h
theorem twice {x:Nat} (h0:4503599627370496≤x) (h:x<9214364837600034816):fmul .f64 x 4611686018427387904=x+4503599627370496:=by
 obtain ⟨m,q,e1,a1,a2,r1⟩:=zbx h0 (by omega)
 rw [z1dp r1,z11h]
 have e3:-1074+(q:Int)+ -51+((52:Nat):Int)=-1074+((q+1:Nat):Int):=by omega
 rw [e3,zax a1 a2 (by clear e3 r1;omega)]
 clear e3 r1
 omega
theorem z16z:Nat.log2 4503599627370496=52:=by decide+kernel
theorem half1 {x m q:Nat} (hl:m.log2=52) (r1:FloatKind.f64.format.read x=.number false m (-1074+(q:Int))):fdiv .f64 x 4611686018427387904=
  FloatKind.f64.format.nearest false (2*(m*2 ^ 54 / 4503599627370496)+(m*2 ^ 54 % 4503599627370496 != 0).toNat) (-1074+(q:Int)- -51-((54:Nat):Int)-1):=by
 have hfb:FloatKind.f64.format.fractionBits=52:=by decide
 have h:=zg6 (d:=54) r1 zpo (by decide) (by rw [hl,z16z,hfb])
 rw [show (false ^^ false)=false from rfl,Nat.shiftLeft_eq] at h
 exact h
theorem half2 (m:Nat):2*(m*2 ^ 54 / 4503599627370496)+(m*2 ^ 54 % 4503599627370496 != 0).toNat=m*2 ^ 3:=by
 have e:m*2 ^ 54=(m*4)*4503599627370496:=by rw [pow54,Nat.mul_assoc]
 rw [e,Nat.mul_div_cancel _ (by decide),Nat.mul_mod_left,show (2:Nat) ^ 3=8 from rfl]
 rw [show ((0:Nat) != 0).toNat=0 from rfl]
 omega
theorem half {x:Nat} (h0:9007199254740992≤x) (h:x<9218868437227405312):fdiv .f64 x 4611686018427387904=x-4503599627370496:=by
 obtain ⟨m,q,e1,a1,a2,r1⟩:=zbx (by omega) h
 obtain ⟨q',rfl⟩:∃q',q=q'+1:=⟨q-1,by clear r1;omega⟩
 have hl:m.log2=52:=zmi (by rw [pow52];exact a1) (by rw [show (2:Nat) ^ (52+1)=9007199254740992 from by decide];exact a2)
 rw [half1 hl r1,half2,zox]
 have e3:-1074+((q'+1:Nat):Int)- -51-((54:Nat):Int)-1+((3:Nat):Int)=-1074+(q':Int):=by omega
 rw [e3,zax a1 a2 (by clear e3 r1 hl;omega)]
 clear e3 r1 hl
 omega
def Nrm (y:Nat):Prop:=fin .f64 y=true→flt .f64 0 y=true→4503599627370496≤y∧y<9218868437227405312
theorem zmp {y:Nat} (hN:Nrm y) (h1:feq .f64 y y=true) (h2:flt .f64 y 0=false) (h3:feq .f64 y 0=false) (h4:flt .f64 9218868437227405311 y=false):4503599627370496≤y∧y<9218868437227405312:=by
 cases hr:FloatKind.f64.format.read y with
 | nan s t=>rw [zoi (by rw [hr];rfl)] at h1;cases h1
 | infinity s=>
  cases s with
  | false=>
   unfold flt Ieee.Format.order at h4
   have:FloatKind.f64.format.read 9218868437227405311=.number false 9007199254740991 971:=by decide+kernel
   rw [hr,this] at h4;cases h4
  | true=>
   unfold flt Ieee.Format.order at h2
   rw [hr,zaa] at h2;cases h2
 | number s m e=>
  have hf:fin .f64 y=true:=by unfold fin;rw [hr]
  rw [z2g hf (zx _),z1m] at h2
  rw [z7c hf (zx _),z1m] at h3
  have h2:=of_decide_eq_false h2
  have h3:=of_decide_eq_false h3
  exact hN hf (by rw [z2g (zx _) hf,z1m];exact decide_eq_true (by omega))
theorem z2u {x:Nat} (h0:4503599627370496≤x) (h:x<9218868437227405312) (hc:fle .f64 4609434218613702656 x=true):fdiv .f64 x 4611686018427387904=x-4503599627370496∧4609434218613702656≤x:=by
 rw [z8t (by decide) (by decide) h0 h] at hc
 have hc:=of_decide_eq_true hc
 exact ⟨half (by omega) h,hc⟩
theorem z2z {x:Nat} (h0:4503599627370496≤x) (h:x<9218868437227405312) (hc:flt .f64 x 4604930618986332160=true):fmul .f64 x 4611686018427387904=x+4503599627370496∧x<4604930618986332160:=by
 rw [zbb h0 h (by decide) (by decide)] at hc
 have hc:=of_decide_eq_true hc
 exact ⟨twice h0 (by omega),hc⟩
theorem zbz {x m:Nat} {e:Int} (hr:FloatKind.f32.decode x=.number false m e) (hm:m≠0):4503599627370496≤FloatKind.f64.format.nearest false m e∧FloatKind.f64.format.nearest false m e<9218868437227405312:=by
 have hb:m<2 ^ 24∧-149≤e:=by
  have hr':FloatKind.f32.format.read x=.number false m e:=hr
  revert hr'
  unfold Ieee.Format.read
  have bi:FloatKind.f32.format.binade=8388608:=by decide
  have lp':FloatKind.f32.format.leastPlace=-149:=by decide
  simp only [bi,lp']
  generalize (x / FloatKind.f32.format.signWeight % 2==1)=sg
  generalize x % FloatKind.f32.format.signWeight=r
  split
  ·intro h;cases h;omega
  ·split
   ·intro h;cases h;omega
   ·split<;>intro h<;>cases h
 have hl:m.log2<24:=(Nat.log2_lt hm).2 hb.1
 obtain ⟨d,hd⟩:∃d,52=m.log2+d:=⟨52-m.log2,by omega⟩
 have m1:4503599627370496≤m <<< d:=by
  rw [←pow52,hd,Nat.shiftLeft_eq,Nat.pow_add];exact Nat.mul_le_mul_right _ (Nat.log2_self_le hm)
 have m2:m <<< d<9007199254740992:=by
  have a1:m<2 ^ (m.log2+1):=Nat.lt_log2_self
  have e9:(9007199254740992:Nat)=2 ^ (m.log2+1)*2 ^ d:=by rw [←Nat.pow_add,show m.log2+1+d=53 by omega]
  rw [e9,Nat.shiftLeft_eq]
  exact Nat.mul_lt_mul_of_pos_right a1 (Nat.two_pow_pos d)
 have he:e≤200:=by
  have hfin:=z7m x false m e hr
  apply Classical.byContradiction
  intro hc
  have hr':FloatKind.f32.format.read x=.number false m e:=hr
  have he2:e≤105:=by
   revert hr'
   unfold Ieee.Format.read
   have bi:FloatKind.f32.format.binade=8388608:=by decide
   have ir:FloatKind.f32.format.infRung=2139095040:=by decide
   have lp':FloatKind.f32.format.leastPlace=-149:=by decide
   simp only [bi,ir,lp']
   generalize (x / FloatKind.f32.format.signWeight % 2==1)=sg
   generalize x % FloatKind.f32.format.signWeight=r
   split
   ·intro h;cases h;omega
   ·split
    ·intro h;cases h;omega
    ·split<;>intro h<;>cases h
  omega
 have e1:FloatKind.f64.format.nearest false m e=FloatKind.f64.format.nearest false (m <<< d) (-1074+(((e-d+1074).toNat:Nat):Int)):=by
  rw [z1x];congr 1;omega
 rw [e1,zax m1 m2 (by omega)]
 omega
theorem zh7 (x:Nat):Nrm (zh x):=by
 intro hf h0
 unfold zh at hf h0 ⊢
 cases hr:FloatKind.f32.decode x with
 | nan s t=>rw [hr] at hf;exact absurd hf (by rw [show fin .f64 (qnan .f64)=false from zzo _];simp)
 | infinity s=>rw [hr] at hf;exact absurd hf (by show ¬fin .f64 (FloatKind.f64.format.write (.infinity s))=true;rw [zg7];simp)
 | number s m e=>
  rw [hr] at hf h0
  have hf':fin .f64 (FloatKind.f64.format.nearest s m e)=true:=hf
  have h0':flt .f64 0 (FloatKind.f64.format.nearest s m e)=true:=h0
  show 4503599627370496≤FloatKind.f64.format.nearest s m e∧FloatKind.f64.format.nearest s m e<9218868437227405312
  have hb:m<2 ^ 24∧-149≤e:=by
   have hr':FloatKind.f32.format.read x=.number s m e:=hr
   revert hr'
   unfold Ieee.Format.read
   have bi:FloatKind.f32.format.binade=8388608:=by decide
   have lp':FloatKind.f32.format.leastPlace=-149:=by decide
   simp only [bi,lp']
   generalize x % FloatKind.f32.format.signWeight=r
   split
   ·intro h;cases h;omega
   ·split
    ·intro h;cases h;omega
    ·split<;>intro h<;>cases h
  have hs:s=false:=by
   cases s with
   | false=>rfl
   | true=>
    exfalso
    have hn:=z3u .f64 (d:=.number true m e) rfl
    rw [z2g (zx _) hf',z1m] at h0'
    have h9:=of_decide_eq_true h0'
    obtain ⟨s',m',e',hr2⟩:=zu hf'
    have hr2':FloatKind.f64.format.read (FloatKind.f64.format.write (.number true m e))=.number s' m' e':=hr2
    rw [hr2'] at hn
    have hs':s'=true:=hn
    unfold sv at h9
    rw [hr2,hs'] at h9
    have h10:0<Ieee.signed true m' (e'-FloatKind.f64.format.leastPlace).toNat:=h9
    rw [zq,if_pos rfl] at h10
    omega
  subst hs
  by_cases hm:m=0
  ·exfalso
   subst hm
   have:FloatKind.f64.format.nearest false 0 e=0:=rfl
   rw [this] at h0'
   exact absurd h0' (by decide+kernel)
  ·exact zbz hr hm
theorem zbs {x:Nat} (h0:feq .f32 x 0=false) (h1:flt .f32 x 0=false) (h2:fin .f32 x=true):4503599627370496≤zh x∧zh x<9218868437227405312:=by
 obtain ⟨s,m,e,hr⟩:=zu h2
 rw [z7c h2 (zx _),z1m] at h0
 rw [z2g h2 (zx _),z1m] at h1
 have h0:=of_decide_eq_false h0
 have h1:=of_decide_eq_false h1
 unfold sv at h0 h1
 rw [hr] at h0 h1
 have h0':Ieee.signed s m (e-FloatKind.f32.format.leastPlace).toNat≠0:=h0
 have h1':¬Ieee.signed s m (e-FloatKind.f32.format.leastPlace).toNat<0:=h1
 have hm:m≠0:=fun hm=>h0' (z6p.2 hm)
 have hs:s=false:=by
  have:=zfm hm (n:=(e-FloatKind.f32.format.leastPlace).toNat) s
  rw [←this];exact decide_eq_false h1'
 subst hs
 have hd:FloatKind.f32.decode x=.number false m e:=hr
 unfold zh
 rw [hd]
 exact zbz hd hm
end Go.Proofs.Ytbnplefohfamnaa.Ai
