/- Words of floats as numbers: what is read and written again, their order, absolute values, small whole numbers. -/
import Derived.Test.YtbnplefohfamnaaFFnAtomsAiF
set_option linter.unusedVariables false
set_option linter.unusedSimpArgs false
namespace Go.Proofs.Ytbnplefohfamnaa.Ai
open Go

theorem z7o (way:Ieee.Toward) (s:Bool) (n:Nat):way.cut s n 0=n:=by
 unfold Ieee.Toward.cut
 have e:1 <<< min 0 (n.log2+2)=1:=by simp
 simp only [e,Nat.div_one,Nat.mod_one]
 cases way<;>simp
theorem zmi {n k:Nat} (h1:2 ^ k≤n) (h2:n<2 ^ (k+1)):n.log2=k:=by
 have h0:n≠0:=by have:=Nat.two_pow_pos k;omega
 have a:=(Nat.log2_lt h0).2 h2
 have b:=(Nat.le_log2 h0).2 h1
 omega
theorem zfq (f:Ieee.Format):0<f.signWeight:=Nat.two_pow_pos _
theorem zxw (f:Ieee.Format) {x:Nat} (hx:x<2*f.signWeight):f.word (x / f.signWeight % 2==1) (x % f.signWeight)=x:=by
 unfold Ieee.Format.word
 have hpos:=zfq f
 have h2:x / f.signWeight<2:=Nat.div_lt_of_lt_mul (by omega)
 have h3:=Nat.div_add_mod x f.signWeight
 have h4:x / f.signWeight=0∨x / f.signWeight=1:=by generalize x / f.signWeight=q at h2;omega
 rcases h4 with h | h
 ·rw [h] at h3 ⊢
  simp only [Nat.zero_mod]
  rw [show ((0:Nat)==1)=false from rfl]
  simp;omega
 ·rw [h] at h3 ⊢
  rw [show ((1 % 2:Nat)==1)=true from rfl]
  simp;omega
theorem zgj (f:Ieee.Format) (s:Bool) (m:Nat) (h:m<f.binade) (hi:m≤f.infRung):f.nearest s m f.leastPlace=f.word s m:=by
 unfold Ieee.Format.nearest
 by_cases h0:m=0
 ·rw [if_pos h0,h0]
 ·rw [if_neg h0]
  have hl:m.log2<f.fractionBits:=(Nat.log2_lt h0).2 h
  have hlast:max (f.leastPlace+(m.log2:Int)-(f.fractionBits:Int)) f.leastPlace=f.leastPlace:=by omega
  simp only [hlast,Int.sub_self,Int.toNat_zero,Nat.shiftLeft_zero,z7o,Nat.zero_mul,Nat.zero_add]
  rw [Nat.min_eq_left hi]
theorem z7e (f:Ieee.Format) (s:Bool) (m q:Nat) (h1:f.binade≤m) (h2:m<2*f.binade) (hi:q*f.binade+m≤f.infRung):f.nearest s m (f.leastPlace+q)=f.word s (q*f.binade+m):=by
 have hb:f.binade=2 ^ f.fractionBits:=rfl
 have hbp:0<f.binade:=Nat.two_pow_pos _
 have hl:m.log2=f.fractionBits:=zmi (by omega) (by rw [Nat.pow_succ];omega)
 unfold Ieee.Format.nearest
 rw [if_neg (by omega)]
 have hlast:max (f.leastPlace+(q:Int)+(m.log2:Int)-(f.fractionBits:Int)) f.leastPlace=f.leastPlace+q:=by omega
 have e1:(f.leastPlace+(q:Int)-(f.leastPlace+q)).toNat=0:=by omega
 have e2:(f.leastPlace+(q:Int)-f.leastPlace).toNat=q:=by omega
 simp only [hlast,e1,e2,Nat.shiftLeft_zero,z7o]
 rw [Nat.min_eq_left hi]
theorem zaf (k:FloatKind):k.format.binade≤k.format.infRung:=by cases k<;>decide
theorem zay (k:FloatKind) {x:Nat} (hx:x<2*k.format.signWeight) (hn:(k.format.read x).isNaN=false):k.format.write (k.format.read x)=x:=by
 have hw:=zxw k.format hx
 have hbi:=zaf k
 have hbp:0<k.format.binade:=Nat.two_pow_pos _
 generalize k.format=f at *
 revert hn
 unfold Ieee.Format.read
 simp only []
 generalize hr:x % f.signWeight=r at *
 generalize hs:(x / f.signWeight % 2==1)=s at *
 split
 ·rename_i h
  intro _
  show f.nearest s r f.leastPlace=x
  rw [zgj f s r h (by omega)];exact hw
 ·split
  ·rename_i h1 h2
   intro _
   show f.nearest s (f.binade+r % f.binade) (f.leastPlace+((r / f.binade-1:Nat):Int))=x
   have hm:=Nat.mod_lt r hbp
   have hd:=Nat.div_add_mod r f.binade
   have hq:1≤r / f.binade:=Nat.div_pos (by omega) hbp
   have key:(r / f.binade-1)*f.binade+(f.binade+r % f.binade)=r:=by
    obtain ⟨q,hq'⟩:∃q,r / f.binade=q+1:=⟨r / f.binade-1,by omega⟩
    rw [hq'] at hd ⊢
    have:f.binade*(q+1)=q*f.binade+f.binade:=by rw [Nat.mul_add,Nat.mul_comm,Nat.mul_one]
    have e:q+1-1=q:=rfl
    rw [e];omega
   rw [z7e f s _ _ (by omega) (by omega) (by rw [key];omega),key];exact hw
  ·split
   ·rename_i h
    intro _
    show f.word s f.infRung=x
    rw [←h];exact hw
   ·intro hn;cases hn
def wd (k:FloatKind):Nat:=2*k.format.signWeight
theorem z12n (k:FloatKind) (d:Ieee.Datum):k.format.write d<wd k:=by
 have:=k.format.write_lt d
 cases k<;>exact this
theorem z17w (k:FloatKind):qnan k<wd k:=by cases k<;>decide
def Wd (k:FloatKind) (x:Nat):Prop:=x<wd k∧cn k x=x
theorem Wd.write (k:FloatKind) {d:Ieee.Datum} (h:d.isNaN=false):Wd k (k.format.write d):=⟨z12n k d,z3b k h⟩
theorem Wd.nan (k:FloatKind):Wd k (qnan k):=⟨z17w k,zuf k⟩
theorem Wd.opt {k:FloatKind} {o:Option Ieee.Datum} (h:∀d,o=some d→d.isNaN=false):Wd k ((o.map k.format.write).getD (qnan k)):=by
 cases o with
 | none=>exact Wd.nan k
 | some d=>exact Wd.write k (h d rfl)
theorem Wd.add (k:FloatKind) (x y:Nat):Wd k (fadd k x y):=Wd.opt fun d h=>z3t.not_nan _ _ _ h
theorem Wd.sub (k:FloatKind) (x y:Nat):Wd k (fsub k x y):=Wd.opt fun d h=>z3t.not_nan _ _ _ h
theorem Wd.mul (k:FloatKind) (x y:Nat):Wd k (fmul k x y):=Wd.opt fun d h=>z1z.not_nan _ _ _ h
theorem Wd.div (k:FloatKind) (x y:Nat):Wd k (fdiv k x y):=Wd.opt fun d h=>(z5o _).not_nan _ _ _ h

def fin (k:FloatKind) (x:Nat):Bool:=match k.format.read x with
 | .number _ _ _=>true
 | _=>false
def sv (k:FloatKind) (x:Nat):Int:=match k.format.read x with
 | .number s m e=>Ieee.signed s m (e-k.format.leastPlace).toNat
 | _=>0
theorem zu {k:FloatKind} {x:Nat} (h:fin k x=true):∃s m e,k.format.read x=.number s m e:=by
 unfold fin at h
 split at h
 ·exact ⟨_,_,_,by assumption⟩
 ·cases h
theorem z1l {f:Ieee.Format} {x:Nat} {s:Bool} {m:Nat} {e:Int} (h:f.read x=.number s m e):f.leastPlace≤e:=by
 unfold Ieee.Format.read at h
 simp only [] at h
 split at h
 ·cases h;omega
 ·split at h
  ·cases h;omega
  ·split at h<;>cases h
theorem z5j (s:Bool) (m a b:Nat):Ieee.signed s m (a+b)=Ieee.signed s m a*2 ^ b:=by
 unfold Ieee.signed
 have:m <<< (a+b)=m <<< a*2 ^ b:=by rw [Nat.shiftLeft_add,Nat.shiftLeft_eq (m <<< a)]
 cases s
 ·simp [this]
 ·simp [this,Int.neg_mul]
theorem z14m (a b:Int) (n:Nat):compare (a*2 ^ n) (b*2 ^ n)=compare a b:=by
 have hp:(0:Int)<2 ^ n:=Int.pow_pos (by decide)
 simp only [compare,compareOfLessAndEq]
 have h1:a*2 ^ n<b*2 ^ n↔a<b:=Int.mul_lt_mul_right hp
 have h2:a*2 ^ n=b*2 ^ n↔a=b:=⟨fun h=>Int.eq_of_mul_eq_mul_right (by omega) h,fun h=>by rw [h]⟩
 by_cases c1:a<b
 ·rw [if_pos c1,if_pos (h1.2 c1)]
 ·rw [if_neg c1,if_neg (fun h=>c1 (h1.1 h))]
  by_cases c2:a=b
  ·rw [if_pos c2,if_pos (h2.2 c2)]
  ·rw [if_neg c2,if_neg (fun h=>c2 (h2.1 h))]
theorem zcw {k:FloatKind} {x y:Nat} (hx:fin k x=true) (hy:fin k y=true):k.format.order x y=some (compare (sv k x) (sv k y)):=by
 obtain ⟨s,m,i,h1⟩:=zu hx
 obtain ⟨t,n,j,h2⟩:=zu hy
 have p1:=z1l h1
 have p2:=z1l h2
 unfold Ieee.Format.order sv
 rw [h1,h2]
 simp only [Ieee.Datum.order]
 have e1:(i-k.format.leastPlace).toNat=(i-min i j).toNat+(min i j-k.format.leastPlace).toNat:=by omega
 have e2:(j-k.format.leastPlace).toNat=(j-min i j).toNat+(min i j-k.format.leastPlace).toNat:=by omega
 rw [e1,e2,z5j,z5j,z14m]
theorem z12q {a b:Int}:(compare a b==Ordering.lt)=decide (a<b):=by
 simp only [compare,compareOfLessAndEq]
 by_cases c1:a<b
 ·rw [if_pos c1,decide_eq_true c1];rfl
 ·rw [if_neg c1,decide_eq_false c1]
  split<;>rfl
theorem zue {a b:Int}:(compare a b==Ordering.eq)=decide (a=b):=by
 simp only [compare,compareOfLessAndEq]
 by_cases c1:a<b
 ·rw [if_pos c1,decide_eq_false (by omega)];rfl
 ·rw [if_neg c1]
  by_cases c2:a=b
  ·rw [if_pos c2,decide_eq_true c2];rfl
  ·rw [if_neg c2,decide_eq_false c2];rfl
theorem zab {a b:Ordering}:(some a==some b)=(a==b):=rfl
theorem z2g {k:FloatKind} {x y:Nat} (hx:fin k x=true) (hy:fin k y=true):flt k x y=decide (sv k x<sv k y):=by
 unfold flt;rw [zcw hx hy,zab,z12q]
theorem z7c {k:FloatKind} {x y:Nat} (hx:fin k x=true) (hy:fin k y=true):feq k x y=decide (sv k x=sv k y):=by
 unfold feq;rw [zcw hx hy,zab,zue]
theorem z5k {k:FloatKind} {x y:Nat} (hx:fin k x=true) (hy:fin k y=true):fle k x y=decide (sv k x≤sv k y):=by
 unfold fle;rw [zcw hx hy,zab,zab,z12q,zue]
 by_cases c1:sv k x<sv k y
 ·rw [decide_eq_true c1,decide_eq_true (by omega:sv k x≤sv k y)];rfl
 ·rw [decide_eq_false c1,Bool.false_or]
  by_cases c2:sv k x=sv k y
  ·rw [decide_eq_true c2,decide_eq_true (by omega:sv k x≤sv k y)]
  ·rw [decide_eq_false c2,decide_eq_false (by omega:¬sv k x≤sv k y)]

theorem z7d {k:FloatKind} (x:Nat):feq k (fsub k x x) 0=fin k x:=by
 have hz:k.format.order 0 0=some .eq:=by cases k<;>decide+kernel
 have hw:k.format.word false 0=0:=by cases k<;>rfl
 have hq:k.format.order (qnan k) 0=none:=by cases k<;>decide+kernel
 unfold fsub Ieee.Format.sub fin
 cases h:k.format.read x with
 | number s m e=>
  simp only [Ieee.Datum.opposite,Ieee.Datum.sum]
  have t:Ieee.signed s m (e-min e e).toNat+Ieee.signed (!s) m (e-min e e).toNat=0:=by
   unfold Ieee.signed;cases s<;>simp<;>omega
  rw [t]
  simp only [if_true,Int.natAbs_zero,Option.map_some,Option.getD_some,Ieee.Format.write,Ieee.Format.nearest]
  rw [show (s && !s)=false by cases s<;>rfl,hw]
  unfold feq;rw [hz];rfl
 | infinity s=>
  simp only [Ieee.Datum.opposite,Ieee.Datum.sum]
  rw [if_neg (by cases s<;>simp)]
  show feq k (qnan k) 0=false
  unfold feq;rw [hq];rfl
 | nan s t=>
  show feq k (qnan k) 0=false
  unfold feq;rw [hq];rfl

theorem zs6 {k:FloatKind} {x:Nat} (h:(k.format.read x).isNaN=true) (y:Nat):k.format.order x y=none:=by
 obtain ⟨s,t,e⟩:=z1i _ h
 unfold Ieee.Format.order;rw [e,z3r]
theorem zoi {k:FloatKind} {x:Nat} (h:(k.format.read x).isNaN=true) (y:Nat):feq k x y=false:=by unfold feq;rw [zs6 h];rfl
theorem Wd.cases {k:FloatKind} {x:Nat} (h:Wd k x):fin k x=true∨x=k.format.word false k.format.infRung∨x=k.format.word true k.format.infRung∨x=qnan k:=by
 cases hr:k.format.read x with
 | number s m e=>left;unfold fin;rw [hr]
 | infinity s=>
  have:=zay k h.1 (by rw [hr];rfl)
  rw [hr] at this
  cases s
  ·exact .inr (.inl this.symm)
  ·exact .inr (.inr (.inl this.symm))
 | nan s t=>
  right;right;right
  have:cn k x=qnan k:=z1f (by show (k.format.read x).isNaN=true;rw [hr];rfl)
  rw [←h.2];exact this

theorem zah {m:Nat} (h:m≠0) (n:Nat):(m <<< n).log2=m.log2+n:=by
 refine zmi ?_ ?_
 ·rw [Nat.shiftLeft_eq,Nat.pow_add];exact Nat.mul_le_mul_right _ (Nat.log2_self_le h)
 ·rw [Nat.shiftLeft_eq,show m.log2+n+1=(m.log2+1)+n by omega,Nat.pow_add]
  exact Nat.mul_lt_mul_of_pos_right Nat.lt_log2_self (Nat.two_pow_pos _)
theorem zj7 (s:Bool) (m d n:Nat) (h0:m≠0):Ieee.Toward.even.cut s (m <<< n) (d+n)=Ieee.Toward.even.cut s m d:=by
 unfold Ieee.Toward.cut
 rw [zah h0]
 have hmin:min (d+n) (m.log2+n+2)=min d (m.log2+2)+n:=by omega
 rw [hmin]
 generalize min d (m.log2+2)=g
 have e1:1 <<< (g+n)=1 <<< g*2 ^ n:=by rw [Nat.shiftLeft_add,Nat.shiftLeft_eq (1 <<< g)]
 have hp:=Nat.two_pow_pos n
 rw [e1,Nat.shiftLeft_eq m]
 generalize 1 <<< g=G
 simp only []
 rw [Nat.mul_div_mul_right _ _ hp,Nat.mul_mod_mul_right]
 have l1:decide (G*2 ^ n<2*(m % G*2 ^ n))=decide (G<2*(m % G)):=by
  rw [←Nat.mul_assoc]
  have:G*2 ^ n<2*(m % G)*2 ^ n↔G<2*(m % G):=Nat.mul_lt_mul_right hp
  by_cases c:G<2*(m % G)
  ·rw [decide_eq_true c,decide_eq_true (this.2 c)]
  ·rw [decide_eq_false c,decide_eq_false (fun h=>c (this.1 h))]
 have l2:(G*2 ^ n==2*(m % G*2 ^ n))=(G==2*(m % G)):=by
  rw [←Nat.mul_assoc]
  by_cases c:G=2*(m % G)
  ·rw [←c];simp
  ·have:¬G*2 ^ n=2*(m % G)*2 ^ n:=fun h=>c (Nat.eq_of_mul_eq_mul_right hp h)
   rw [beq_eq_false_iff_ne.2 c,beq_eq_false_iff_ne.2 this]
 rw [l1,l2]
theorem z1x (f:Ieee.Format) (s:Bool) (m n:Nat) (e:Int):f.nearest s (m <<< n) e=f.nearest s m (e+n):=by
 by_cases h0:m=0
 ·subst h0;unfold Ieee.Format.nearest;simp
 have h1:m <<< n≠0:=by rw [Nat.shiftLeft_eq];have:=Nat.two_pow_pos n;exact Nat.mul_ne_zero h0 (by omega)
 unfold Ieee.Format.nearest
 rw [if_neg h0,if_neg h1,zah h0]
 have el:e+((m.log2+n:Nat):Int)-f.fractionBits=e+n+(m.log2:Int)-f.fractionBits:=by omega
 rw [el]
 generalize max (e+(n:Int)+(m.log2:Int)-f.fractionBits) f.leastPlace=last
 simp only []
 by_cases hc:e+n≤last
 ·have d1:(e-last).toNat=0:=by omega
  have d2:(e+n-last).toNat=0:=by omega
  have d3:(last-e).toNat=(last-(e+n)).toNat+n:=by omega
  rw [d1,d2,d3,Nat.shiftLeft_zero,Nat.shiftLeft_zero,zj7 s m _ n h0]
 ·by_cases hc2:e≤last
  ·have d1:(e-last).toNat=0:=by omega
   have d2:(last-(e+n)).toNat=0:=by omega
   have d3:n=(e+n-last).toNat+(last-e).toNat:=by omega
   rw [d1,d2,Nat.shiftLeft_zero,z7o]
   conv=>lhs;rw [d3,Nat.shiftLeft_add]
   have h2:m <<< (e+n-last).toNat≠0:=by rw [Nat.shiftLeft_eq];have:=Nat.two_pow_pos (e+n-last).toNat;exact Nat.mul_ne_zero h0 (by omega)
   have:=zj7 s (m <<< (e+n-last).toNat) 0 (last-e).toNat h2
   rw [Nat.zero_add] at this
   rw [this,z7o]
  ·have d1:(last-e).toNat=0:=by omega
   have d2:(last-(e+n)).toNat=0:=by omega
   have d3:(e+n-last).toNat=n+(e-last).toNat:=by omega
   rw [d1,d2,d3,z7o,z7o,Nat.shiftLeft_add]

theorem z13i (k:FloatKind):∃n,k.format.signWeight=2 ^ n∧Op.negFloat k=fun b=>b ^^^ 2 ^ n:=by
 cases k
 ·exact ⟨31,rfl,rfl⟩
 ·exact ⟨63,rfl,rfl⟩
theorem z18w (b n:Nat):(b ^^^ 2 ^ n) / 2 ^ n % 2=1-b / 2 ^ n % 2:=by
 have h:=Nat.testBit_xor b (2 ^ n) n
 rw [Nat.testBit_two_pow_self] at h
 have e:∀x:Nat,x.testBit n=decide (x / 2 ^ n % 2=1):=fun x=>by rw [Nat.testBit_eq_decide_div_mod_eq]
 rw [e,e] at h
 have m1:=Nat.mod_two_eq_zero_or_one ((b ^^^ 2 ^ n) / 2 ^ n)
 have m2:=Nat.mod_two_eq_zero_or_one (b / 2 ^ n)
 rcases m1 with h1 | h1<;>rcases m2 with h2 | h2<;>simp [h1,h2] at h ⊢
theorem zby (k:FloatKind) (x:Nat):k.format.read (Op.negFloat k x)=(k.format.read x).opposite:=by
 obtain ⟨n,h1,h2⟩:=z13i k
 rw [h2]
 unfold Ieee.Format.read
 rw [h1]
 simp only []
 rw [zxx,z18w]
 have hs:(1-x / 2 ^ n % 2==1)=!(x / 2 ^ n % 2==1):=by
  rcases Nat.mod_two_eq_zero_or_one (x / 2 ^ n) with h | h<;>rw [h]<;>rfl
 rw [hs]
 split
 ·rfl
 ·split
  ·rfl
  ·split<;>rfl
theorem z1d5 (k:FloatKind) {x:Nat} (h:x<wd k):Op.negFloat k x<wd k:=by
 cases k
 ·exact Nat.xor_lt_two_pow (n:=32) h (by decide)
 ·exact Nat.xor_lt_two_pow (n:=64) h (by decide)
theorem zrm {k:FloatKind} {x:Nat} (h:x<wd k) (hn:(k.format.read x).isNaN=false):fneg k x=k.format.write (k.format.read x).opposite:=by
 unfold fneg
 rw [show (k.decode x).isNaN=false from hn]
 have hn2:(k.format.read (Op.negFloat k x)).isNaN=false:=by rw [zby];cases hr:k.format.read x<;>rw [hr] at hn<;>first | rfl | exact hn
 have:=zay k (z1d5 k h) hn2
 rw [zby] at this
 exact this.symm
theorem zq (s:Bool) (m n:Nat):Ieee.signed s m n=if s then -((m*2 ^ n:Nat):Int) else ((m*2 ^ n:Nat):Int):=by
 unfold Ieee.signed;rw [Nat.shiftLeft_eq]
theorem z1e (s:Bool) (m n:Nat):(Ieee.signed s m n).natAbs=m <<< n:=by
 rw [zq,Nat.shiftLeft_eq]
 cases s
 ·rw [if_neg (by simp),Int.natAbs_natCast]
 ·rw [if_pos rfl,Int.natAbs_neg,Int.natAbs_natCast]
theorem zcp {m:Nat} (h:m≠0) (n:Nat):0<m*2 ^ n:=Nat.mul_pos (by omega) (Nat.two_pow_pos n)
theorem zfm {m n:Nat} (h:m≠0) (s:Bool):(decide (Ieee.signed s m n<0))=s:=by
 have h1:=zcp h n
 rw [zq]
 generalize m*2 ^ n=q at *
 cases s
 ·rw [if_neg (by simp)];exact decide_eq_false (by omega)
 ·rw [if_pos rfl];exact decide_eq_true (by omega)
theorem z6p {m n:Nat} {s:Bool}:Ieee.signed s m n=0↔m=0:=by
 constructor
 ·intro h
  apply Classical.byContradiction
  intro hm
  have h1:=zcp hm n
  rw [zq] at h
  generalize m*2 ^ n=q at *
  cases s
  ·rw [if_neg (by simp)] at h;omega
  ·rw [if_pos rfl] at h;omega
 ·intro h
  subst h
  rw [zq,Nat.zero_mul]
  cases s<;>rfl
theorem zaa (k:FloatKind):k.format.read 0=.number false 0 k.format.leastPlace:=by cases k<;>decide+kernel
theorem zx (k:FloatKind):fin k 0=true:=by unfold fin;rw [zaa]
theorem z1m (k:FloatKind):sv k 0=0:=by unfold sv;rw [zaa];simp [Ieee.signed]
theorem zfs {k:FloatKind} {x:Nat} (h:x<wd k) (hf:fin k x=true) (h0:sv k x=0):x=0∨x=k.format.signWeight:=by
 obtain ⟨s,m,e,hr⟩:=zu hf
 have hm:m=0:=by unfold sv at h0;rw [hr] at h0;exact z6p.1 h0
 have hw:=zay k h (by rw [hr];rfl)
 rw [hr,hm] at hw
 simp only [Ieee.Format.write,Ieee.Format.nearest,if_true,Ieee.Format.word] at hw
 cases s
 ·left;simpa using hw.symm
 ·right;simpa using hw.symm

theorem zok {k:FloatKind} {x:Nat} (h:(k.format.read x).isNaN=false):feq k x x=true:=by
 unfold feq Ieee.Format.order
 cases hr:k.format.read x with
 | number s m e=>simp only [Ieee.Datum.order,zab,zue];simp
 | infinity s=>cases s<;>rfl
 | nan s t=>rw [hr] at h;cases h
theorem z2m (k:FloatKind) (n:Int):k.nearest n=k.format.write (.number (n<0) n.natAbs 0):=rfl
theorem Wd.nearest (k:FloatKind) (n:Int):Wd k (k.nearest n):=by rw [z2m];exact Wd.write k rfl
theorem zpx (f:Nat) {r:Nat} (h:r<2 ^ f):(2 ^ f+r) ^^^ 2 ^ f=r∧r ^^^ 2 ^ f=2 ^ f+r:=by
 have h1:r ^^^ 2 ^ f=2 ^ f+r:=by
  have:=Nat.two_pow_add_eq_or_of_lt h 1
  rw [Nat.mul_one] at this
  rw [this]
  apply Nat.eq_of_testBit_eq
  intro i
  rw [Nat.testBit_xor,Nat.testBit_or]
  by_cases hi:i=f
  ·subst hi
   rw [Nat.testBit_two_pow_self,Nat.testBit_lt_two_pow h];rfl
  ·rw [Nat.testBit_two_pow_of_ne (by omega)];simp
 refine ⟨?_,h1⟩
 rw [←h1,Nat.xor_assoc,Nat.xor_self,Nat.xor_zero]
theorem zgk (k:FloatKind) (s:Bool) {r:Nat} (h:r<k.format.signWeight):Op.negFloat k (k.format.word s r)=k.format.word (!s) r:=by
 obtain ⟨n,h1,h2⟩:=z13i k
 rw [h2]
 unfold Ieee.Format.word
 rw [h1] at h ⊢
 cases s
 ·simpa using (zpx n h).2
 ·simpa using (zpx n h).1
theorem zb4 (k:FloatKind):k.format.infRung<k.format.signWeight:=k.format.infRung_lt
theorem zke {k:FloatKind} {d:Ieee.Datum} (h:d.isNaN=false):fneg k (k.format.write d)=k.format.write d.opposite:=by
 unfold fneg
 rw [show (k.decode (k.format.write d)).isNaN=false from z6t k.format h]
 show Op.negFloat k _=_
 have hi:=zb4 k
 have hs:=zfq k.format
 cases d with
 | number s m e=>
  show Op.negFloat k (k.format.nearest s m e)=k.format.nearest (!s) m e
  unfold Ieee.Format.nearest
  by_cases h0:m=0
  ·rw [if_pos h0,if_pos h0];exact zgk k s hs
  ·rw [if_neg h0,if_neg h0]
   exact zgk k s (Nat.lt_of_le_of_lt (Nat.min_le_right _ _) hi)
 | infinity s=>exact zgk k s hi
 | nan s t=>cases h
theorem z8z {k:FloatKind} {x:Nat} (h:fin k x=true):fin k (fneg k x)=true:=by
 obtain ⟨s,m,e,hr⟩:=zu h
 unfold fneg
 rw [show (k.decode x).isNaN=false from by show (k.format.read x).isNaN=false;rw [hr];rfl]
 show fin k (Op.negFloat k x)=true
 unfold fin;rw [zby,hr];rfl
theorem z4z {k:FloatKind} {x:Nat} (h:fin k x=true):(k.format.read x).isNaN=false:=by
 obtain ⟨s,m,e,hr⟩:=zu h;rw [hr];rfl
theorem za8 {k:FloatKind} {x:Nat} (h:(k.format.read x).isNaN=false):k.format.read (fneg k x)=(k.format.read x).opposite:=by
 unfold fneg
 rw [show (k.decode x).isNaN=false from h]
 exact zby k x
theorem zbd {k:FloatKind} {x:Nat} (h:fin k x=true):sv k (fneg k x)=- sv k x:=by
 obtain ⟨s,m,e,hr⟩:=zu h
 unfold sv
 rw [za8 (z4z h),hr]
 show Ieee.signed (!s) m _=- Ieee.signed s m _
 rw [zq,zq]
 cases s<;>simp
theorem z6g {k:FloatKind} {x y:Nat} (hy:(k.format.read y).isNaN=false):fsub k x y=fadd k x (fneg k y):=by
 unfold fsub fadd Ieee.Format.sub Ieee.Format.add
 rw [za8 hy]
theorem zxn {k:FloatKind} {s t:Bool} {m n:Nat} {i j:Int} (h1:k.format.leastPlace≤i) (h2:k.format.leastPlace≤j):
  Ieee.signed s m (i-k.format.leastPlace).toNat+Ieee.signed t n (j-k.format.leastPlace).toNat=
   (Ieee.signed s m (i-min i j).toNat+Ieee.signed t n (j-min i j).toNat)*2 ^ (min i j-k.format.leastPlace).toNat:=by
 have e1:(i-k.format.leastPlace).toNat=(i-min i j).toNat+(min i j-k.format.leastPlace).toNat:=by omega
 have e2:(j-k.format.leastPlace).toNat=(j-min i j).toNat+(min i j-k.format.leastPlace).toNat:=by omega
 rw [e1,e2,z5j,z5j,←Int.add_mul]
theorem Wd.neg {k:FloatKind} {x:Nat} (h:Wd k x):Wd k (fneg k x):=by
 by_cases hn:(k.format.read x).isNaN=true
 ·have:x=qnan k:=by rw [←h.2];exact z1f hn
  rw [this]
  have:fneg k (qnan k)=qnan k:=by cases k<;>decide+kernel
  rw [this];exact Wd.nan k
 ·have hn:(k.format.read x).isNaN=false:=by simpa using hn
  rw [zrm h.1 hn]
  refine Wd.write k ?_
  cases hr:k.format.read x with
  | nan s t=>rw [hr] at hn;cases hn
  | number s m e=>rfl
  | infinity s=>rfl
def nn (k:FloatKind) (x:Nat):Prop:=(k.format.read x).isNaN=false
theorem zzo (k:FloatKind):fin k (qnan k)=false:=by cases k<;>decide+kernel
theorem z7l (k:FloatKind) (s:Bool) {r:Nat} (h:r≤k.format.infRung):(k.format.read (k.format.word s r)).neg=s∧((k.format.read (k.format.word s r)).isInfinity=true↔r=k.format.infRung)∧(k.format.read (k.format.word s r)).isNaN=false:=by
 refine ⟨?_,?_,z2n _ _ h⟩
 ·have hlt:=zb4 k
  have hp:=zfq k.format
  have e:k.format.word s r % k.format.signWeight=r:=by
   unfold Ieee.Format.word
   split
   ·rw [Nat.add_mod_left];exact Nat.mod_eq_of_lt (by omega)
   ·exact Nat.mod_eq_of_lt (by omega)
  have e2:(k.format.word s r / k.format.signWeight % 2==1)=s:=by
   unfold Ieee.Format.word
   cases s
   ·rw [if_neg (by simp),Nat.div_eq_of_lt (by omega)];rfl
   ·rw [if_pos rfl,Nat.add_div_left _ hp,Nat.div_eq_of_lt (by omega)];rfl
  unfold Ieee.Format.read
  simp only [e,e2]
  split
  ·rfl
  ·split
   ·rfl
   ·split<;>rfl
 ·have hlt:=zb4 k
  have hb:=zaf k
  have e:k.format.word s r % k.format.signWeight=r:=by
   unfold Ieee.Format.word
   split
   ·rw [Nat.add_mod_left];exact Nat.mod_eq_of_lt (by omega)
   ·exact Nat.mod_eq_of_lt (by omega)
  unfold Ieee.Format.read
  simp only [e]
  generalize k.format=f at *
  have hbp:f.infRung≠r→r<f.infRung:=by omega
  split
  ·simp [Ieee.Datum.isInfinity];intro h2;omega
  ·split
   ·simp [Ieee.Datum.isInfinity];omega
   ·split
    ·simp [Ieee.Datum.isInfinity];assumption
    ·simp [Ieee.Datum.isInfinity];omega
theorem z3u (k:FloatKind) {d:Ieee.Datum} (h:d.isNaN=false):(k.format.read (k.format.write d)).neg=d.neg:=by
 cases d with
 | number s m e=>
  show (k.format.read (k.format.nearest s m e)).neg=s
  unfold Ieee.Format.nearest
  split
  ·exact (z7l k s (Nat.zero_le _)).1
  ·exact (z7l k s (Nat.min_le_right _ _)).1
 | infinity s=>exact (z7l k s (Nat.le_refl _)).1
 | nan s t=>cases h
theorem zg7 (k:FloatKind) (s:Bool):fin k (k.format.write (.infinity s))=false:=by
 have:=(z7l k s (Nat.le_refl k.format.infRung)).2.1.2 rfl
 unfold fin
 show (match k.format.read (k.format.word s k.format.infRung) with | .number _ _ _=>true | _=>false)=false
 cases h:k.format.read (k.format.word s k.format.infRung) with
 | number a b c=>rw [h] at this;cases this
 | infinity a=>rfl
 | nan a b=>rfl
theorem zl0 {k:FloatKind} {x:Nat} {s:Bool} {m:Nat} {e:Int} (h:k.format.read x=.number s m e):sv k x=0↔m=0:=by
 unfold sv;rw [h];exact z6p
def un (k:FloatKind) (x:Nat):Prop:=(k.format.read x).isNaN=true∨(k.format.read x).neg=false
theorem zmz {k:FloatKind} {o:Option Ieee.Datum} (h:∀d,o=some d→d.isNaN=false∧d.neg=false):un k ((o.map k.format.write).getD (qnan k)):=by
 cases o with
 | none=>left;exact z5h k
 | some d=>right;have:=h d rfl;show (k.format.read (k.format.write d)).neg=false;rw [z3u k this.1];exact this.2
theorem z9h {d e r:Ieee.Datum} (h:Ieee.Datum.product d e=some r):r.neg=(d.neg ^^ e.neg):=by
 cases d<;>cases e<;>simp only [Ieee.Datum.product] at h
 all_goals first | (cases h;done) | (cases h;rfl) | skip
 ·rename_i s m i t;split at h
  ·cases h
  ·cases h;show (t ^^ s)=(s ^^ t);cases s<;>cases t<;>rfl
 ·split at h
  ·cases h
  ·cases h;rfl
theorem z1dq {k:FloatKind} {x y:Nat} (hx:un k x) (hy:un k y):un k (fadd k x y):=by
 unfold fadd Ieee.Format.add
 refine zmz fun d hd=>⟨z3t.not_nan _ _ _ hd,?_⟩
 rcases hx with hx | hx
 ·obtain ⟨s,t,e⟩:=z1i _ hx;rw [e,z3t.left] at hd;cases hd
 rcases hy with hy | hy
 ·obtain ⟨s,t,e⟩:=z1i _ hy;rw [e,z3t.right] at hd;cases hd
 cases h1:k.format.read x<;>cases h2:k.format.read y<;>rw [h1,h2] at hd<;>rw [h1] at hx<;>rw [h2] at hy<;>simp only [Ieee.Datum.sum] at hd<;>simp only [Ieee.Datum.neg] at hx hy
 all_goals first | (cases hd;done) | (cases hd;assumption) | skip
 ·subst hx;subst hy
  cases hd
  simp only [Ieee.Datum.neg]
  have p1:∀m a,0≤Ieee.signed false m a:=fun m a=>by rw [zq,if_neg (by simp)];omega
  split
  ·rfl
  ·rename_i m1 i1 m2 i2 _
   have q1:=p1 m1 (i1-min i1 i2).toNat
   have q2:=p1 m2 (i2-min i1 i2).toNat
   exact decide_eq_false (by omega)
 ·split at hd
  ·cases hd;assumption
  ·cases hd
def rnd (k:FloatKind) (v:Int):Nat:=k.format.nearest (decide (v<0)) v.natAbs k.format.leastPlace
theorem z7r (k:FloatKind) (s:Bool) (m:Nat) {e:Int} (h:k.format.leastPlace≤e):k.format.nearest s m e=k.format.nearest s (m <<< (e-k.format.leastPlace).toNat) k.format.leastPlace:=by
 rw [z1x];congr 1;omega
theorem z9o {k:FloatKind} {x y:Nat} (hx:fin k x=true) (hy:fin k y=true) (h:sv k x+sv k y≠0):fadd k x y=rnd k (sv k x+sv k y):=by
 obtain ⟨s,m,i,h1⟩:=zu hx
 obtain ⟨t,n,j,h2⟩:=zu hy
 have p1:=z1l h1
 have p2:=z1l h2
 have e:sv k x+sv k y=(Ieee.signed s m (i-min i j).toNat+Ieee.signed t n (j-min i j).toNat)*2 ^ (min i j-k.format.leastPlace).toNat:=by
  unfold sv;rw [h1,h2];exact zxn p1 p2
 unfold rnd fadd Ieee.Format.add
 rw [e] at h ⊢
 rw [h1,h2]
 simp only [Ieee.Datum.sum]
 generalize Ieee.signed s m (i-min i j).toNat+Ieee.signed t n (j-min i j).toNat=a at *
 have ha:a≠0:=fun e=>h (by rw [e,Int.zero_mul])
 have hp:(0:Int)<2 ^ (min i j-k.format.leastPlace).toNat:=Int.pow_pos (by decide)
 rw [if_neg ha]
 simp only [Option.map_some,Option.getD_some,Ieee.Format.write]
 rw [z7r k _ _ (by omega:k.format.leastPlace≤min i j)]
 have e1:decide (a*2 ^ (min i j-k.format.leastPlace).toNat<0)=decide (a<0):=by
  by_cases c:a<0
  ·rw [decide_eq_true c,decide_eq_true (Int.mul_neg_of_neg_of_pos c hp)]
  ·rw [decide_eq_false c,decide_eq_false]
   have:=Int.mul_nonneg (by omega:0≤a) (by omega:(0:Int)≤2 ^ (min i j-k.format.leastPlace).toNat)
   omega
 rw [e1,Int.natAbs_mul,Nat.shiftLeft_eq]
 congr 2
theorem zoo {k:FloatKind} {x y:Nat} (hx:fin k x=true) (hy:fin k y=true) (h:sv k x-sv k y≠0):fsub k x y=rnd k (sv k x-sv k y):=by
 have e:sv k x-sv k y=sv k x+sv k (fneg k y):=by rw [zbd hy];omega
 rw [z6g (z4z hy),e]
 exact z9o hx (z8z hy) (by omega)
theorem za9 (k:FloatKind) (s:Bool) (m q:Nat) (h1:k.format.binade≤m) (h2:m<2*k.format.binade) (hi:q*k.format.binade+m<k.format.infRung):
  k.format.read (k.format.word s (q*k.format.binade+m))=.number s m (k.format.leastPlace+q):=by
 have hlt:=zb4 k
 have hp:=zfq k.format
 have hbp:0<k.format.binade:=Nat.two_pow_pos _
 generalize k.format=f at *
 generalize hr:q*f.binade+m=r at *
 have e:f.word s r % f.signWeight=r:=by
  unfold Ieee.Format.word
  split
  ·rw [Nat.add_mod_left];exact Nat.mod_eq_of_lt (by omega)
  ·exact Nat.mod_eq_of_lt (by omega)
 have e2:(f.word s r / f.signWeight % 2==1)=s:=by
  unfold Ieee.Format.word
  cases s
  ·rw [if_neg (by simp),Nat.div_eq_of_lt (by omega)];rfl
  ·rw [if_pos rfl,Nat.add_div_left _ hp,Nat.div_eq_of_lt (by omega)];rfl
 have d1:r / f.binade=q+1:=by
  rw [←hr]
  obtain ⟨c,hc⟩:∃c,m=f.binade+c:=⟨m-f.binade,by omega⟩
  rw [hc,show q*f.binade+(f.binade+c)=c+f.binade*(q+1) by rw [Nat.mul_add,Nat.mul_one,Nat.mul_comm f.binade q];omega,Nat.add_mul_div_left _ _ hbp,Nat.div_eq_of_lt (by omega)];omega
 have d2:f.binade+r % f.binade=m:=by
  have:=Nat.div_add_mod r f.binade
  rw [d1,Nat.mul_add,Nat.mul_one,Nat.mul_comm f.binade q] at this
  omega
 unfold Ieee.Format.read
 simp only [e,e2]
 have hge:f.binade≤r:=by rw [←hr];omega
 rw [if_neg (by omega),if_pos hi,d1,d2]
 rfl
theorem zxm (k:FloatKind) (s:Bool) (m q:Nat) (h1:k.format.binade≤m) (h2:m<2*k.format.binade) (hi:q*k.format.binade+m<k.format.infRung):
  fin k (k.format.nearest s m (k.format.leastPlace+q))=true∧sv k (k.format.nearest s m (k.format.leastPlace+q))=Ieee.signed s m q:=by
 rw [z7e _ _ _ _ h1 h2 (by omega)]
 have:=za9 k s m q h1 h2 hi
 unfold fin sv
 rw [this]
 refine ⟨rfl,?_⟩
 show Ieee.signed s m _=_
 congr 1;omega
def lp (k:FloatKind):Nat:=(- k.format.leastPlace).toNat
theorem zka (k:FloatKind):k.format.leastPlace=- (lp k:Int):=by cases k<;>rfl
theorem zwo (k:FloatKind) (s:Bool) {n:Nat} (h0:n≠0) (h:n<2*k.format.binade):fin k (k.format.nearest s n 0)=true∧sv k (k.format.nearest s n 0)=Ieee.signed s n (lp k):=by
 have hb:k.format.binade=2 ^ k.format.fractionBits:=rfl
 have hl:n.log2≤k.format.fractionBits:=by
  have:=(Nat.log2_lt h0).2 (show n<2 ^ (k.format.fractionBits+1) by rw [Nat.pow_succ];omega)
  omega
 obtain ⟨d,hd⟩:∃d,k.format.fractionBits=n.log2+d:=⟨k.format.fractionBits-n.log2,by omega⟩
 have big:k.format.fractionBits<lp k∧(lp k+1)*k.format.binade<k.format.infRung:=by cases k<;>decide+kernel
 obtain ⟨q,hq⟩:∃q,lp k=q+d:=⟨lp k-d,by omega⟩
 have e:k.format.nearest s n 0=k.format.nearest s (n <<< d) (k.format.leastPlace+(q:Int)):=by
  rw [z1x,zka];congr 1;omega
 have m1:k.format.binade≤n <<< d:=by
  rw [hb,hd,Nat.shiftLeft_eq,Nat.pow_add];exact Nat.mul_le_mul_right _ (Nat.log2_self_le h0)
 have m2:n <<< d<2*k.format.binade:=by
  have a1:n<2 ^ (n.log2+1):=Nat.lt_log2_self
  rw [hb,hd,Nat.shiftLeft_eq,Nat.pow_add]
  calc n*2 ^ d<2 ^ (n.log2+1)*2 ^ d:=Nat.mul_lt_mul_of_pos_right a1 (Nat.two_pow_pos d)
   _=2*(2 ^ n.log2*2 ^ d):=by rw [Nat.pow_succ,Nat.mul_comm (2 ^ n.log2) 2,Nat.mul_assoc]
 have m3:q*k.format.binade+n <<< d<k.format.infRung:=by
  have a2:=big.2
  have a3:(q+2)*k.format.binade≤(lp k+2)*k.format.binade:=Nat.mul_le_mul_right _ (by omega)
  have a4:(q+2)*k.format.binade=q*k.format.binade+2*k.format.binade:=Nat.add_mul _ _ _
  have a5:(lp k+2)*k.format.binade≤k.format.infRung:=by cases k<;>decide+kernel
  omega
 rw [e]
 have:=zxm k s (n <<< d) q m1 m2 m3
 refine ⟨this.1,this.2.trans ?_⟩
 rw [zq,zq,Nat.shiftLeft_eq,Nat.mul_assoc,←Nat.pow_add,hq,Nat.add_comm d q]
theorem z3d (k:FloatKind) {n:Int} (h:n.natAbs<2*k.format.binade):fin k (k.nearest n)=true∧sv k (k.nearest n)=n*2 ^ lp k:=by
 rw [z2m]
 show fin k (k.format.nearest _ _ _)=true∧sv k (k.format.nearest _ _ _)=_
 by_cases h0:n=0
 ·subst h0
  have e:k.format.nearest (decide ((0:Int)<0)) (0:Int).natAbs 0=0:=by cases k<;>decide+kernel
  rw [e]
  exact ⟨zx k,by rw [z1m,Int.zero_mul]⟩
 ·have:=zwo k (decide (n<0)) (show n.natAbs≠0 by omega) h
  refine ⟨this.1,this.2.trans ?_⟩
  rw [zq]
  by_cases c:n<0
  ·rw [if_pos (by simpa using c)]
   have:((n.natAbs*2 ^ lp k:Nat):Int)=(n.natAbs:Int)*2 ^ lp k:=by simp
   rw [this,←Int.neg_mul,show -(n.natAbs:Int)=n by omega]
  ·rw [if_neg (by simpa using c)]
   have:((n.natAbs*2 ^ lp k:Nat):Int)=(n.natAbs:Int)*2 ^ lp k:=by simp
   rw [this,show (n.natAbs:Int)=n by omega]
theorem zxa (k:FloatKind) (n:Int):rnd k (n*2 ^ lp k)=k.nearest n:=by
 have hp:(0:Int)<2 ^ lp k:=Int.pow_pos (by decide)
 rw [z2m]
 unfold rnd
 show _=k.format.nearest _ _ _
 have e1:decide (n*2 ^ lp k<0)=decide (n<0):=by
  by_cases c:n<0
  ·rw [decide_eq_true c,decide_eq_true (Int.mul_neg_of_neg_of_pos c hp)]
  ·rw [decide_eq_false c,decide_eq_false]
   have:=Int.mul_nonneg (by omega:0≤n) (by omega:(0:Int)≤2 ^ lp k)
   omega
 rw [e1,z7r k _ n.natAbs (by rw [zka];omega),Int.natAbs_mul,Nat.shiftLeft_eq]
 have e2:((0:Int)-k.format.leastPlace).toNat=lp k:=by rw [zka];omega
 rw [e2]
 congr 2
theorem z16s {k:FloatKind} {a b:Int} (ha:a.natAbs<2*k.format.binade) (hb:b.natAbs<2*k.format.binade) (h:a≠b):fsub k (k.nearest a) (k.nearest b)=k.nearest (a-b):=by
 obtain ⟨h1,h2⟩:=z3d k ha
 obtain ⟨h3,h4⟩:=z3d k hb
 have hp:(0:Int)<2 ^ lp k:=Int.pow_pos (by decide)
 have e:sv k (k.nearest a)-sv k (k.nearest b)=(a-b)*2 ^ lp k:=by rw [h2,h4,Int.sub_mul]
 rw [zoo h1 h3 (by rw [e];exact Int.mul_ne_zero (by omega) (by omega)),e,zxa]
theorem z16r {k:FloatKind} {a b:Int} (ha:a.natAbs<2*k.format.binade) (hb:b.natAbs<2*k.format.binade) (h:a+b≠0):fadd k (k.nearest a) (k.nearest b)=k.nearest (a+b):=by
 obtain ⟨h1,h2⟩:=z3d k ha
 obtain ⟨h3,h4⟩:=z3d k hb
 have hp:(0:Int)<2 ^ lp k:=Int.pow_pos (by decide)
 have e:sv k (k.nearest a)+sv k (k.nearest b)=(a+b)*2 ^ lp k:=by rw [h2,h4,Int.add_mul]
 rw [z9o h1 h3 (by rw [e];exact Int.mul_ne_zero (by omega) (by omega)),e,zxa]
end Go.Proofs.Ytbnplefohfamnaa.Ai
