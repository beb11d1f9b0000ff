/- Words of floats as numbers: what is read and written again, their order, absolute values, small whole numbers. -/
import Derived.Test.YthheoefadijhdaaGreatFFnExactReadMarksAiA
set_option linter.unusedVariables false
set_option linter.unusedSimpArgs false
namespace Go.Proofs.YthheoefadijhdaaGreat.Ai
open Go

theorem z7y (way:Ieee.Toward) (s:Bool) (n:Nat):way.cut s n 0=n:=by
 unfold Ieee.Toward.cut
 have e:1 <<< min 0 (n.log2+2)=1:=by simp
 simp only [e,Nat.div_one,Nat.mod_one]
 cases way<;>simp
theorem zni {n k:Nat} (h1:2 ^ k≤n) (h2:n<2 ^ (k+1)):n.log2=k:=by
 have h0:n≠0:=by have:=Nat.two_pow_pos k;omega
 have a:=(Nat.log2_lt h0).2 h2
 have b:=(Nat.le_log2 h0).2 h1
 omega
theorem zq7 (f:Ieee.Format):0<f.signWeight:=Nat.two_pow_pos _
theorem zze (f:Ieee.Format) {x:Nat} (hx:x<2*f.signWeight):f.word (x / f.signWeight % 2==1) (x % f.signWeight)=x:=by
 unfold Ieee.Format.word
 have hpos:=zq7 f
 have h2:x / f.signWeight<2:=Nat.div_lt_of_lt_mul (by omega)
 have h3:=Nat.div_add_mod x f.signWeight
 have h4:x / f.signWeight=0∨x / f.signWeight=1:=by generalize x / f.signWeight=q at h2;omega
 rcases h4 with h | h
 ·rw [h] at h3 ⊢
  simp only [Nat.zero_mod]
  rw [show ((0:Nat)==1)=false from rfl]
  simp;omega
 ·rw [h] at h3 ⊢
  rw [show ((1 % 2:Nat)==1)=true from rfl]
  simp;omega
theorem zie (f:Ieee.Format) (s:Bool) (m:Nat) (h:m<f.binade) (hi:m≤f.infRung):f.nearest s m f.leastPlace=f.word s m:=by
 unfold Ieee.Format.nearest
 by_cases h0:m=0
 ·rw [if_pos h0,h0]
 ·rw [if_neg h0]
  have hl:m.log2<f.fractionBits:=(Nat.log2_lt h0).2 h
  have hlast:max (f.leastPlace+(m.log2:Int)-(f.fractionBits:Int)) f.leastPlace=f.leastPlace:=by omega
  simp only [hlast,Int.sub_self,Int.toNat_zero,Nat.shiftLeft_zero,z7y,Nat.zero_mul,Nat.zero_add]
  rw [Nat.min_eq_left hi]
theorem z9a (f:Ieee.Format) (s:Bool) (m q:Nat) (h1:f.binade≤m) (h2:m<2*f.binade) (hi:q*f.binade+m≤f.infRung):f.nearest s m (f.leastPlace+q)=f.word s (q*f.binade+m):=by
 have hb:f.binade=2 ^ f.fractionBits:=rfl
 have hbp:0<f.binade:=Nat.two_pow_pos _
 have hl:m.log2=f.fractionBits:=zni (by omega) (by rw [Nat.pow_succ];omega)
 unfold Ieee.Format.nearest
 rw [if_neg (by omega)]
 have hlast:max (f.leastPlace+(q:Int)+(m.log2:Int)-(f.fractionBits:Int)) f.leastPlace=f.leastPlace+q:=by omega
 have e1:(f.leastPlace+(q:Int)-(f.leastPlace+q)).toNat=0:=by omega
 have e2:(f.leastPlace+(q:Int)-f.leastPlace).toNat=q:=by omega
 simp only [hlast,e1,e2,Nat.shiftLeft_zero,z7y]
 rw [Nat.min_eq_left hi]
theorem zqe (k:FloatKind):k.format.binade≤k.format.infRung:=by cases k<;>decide
theorem zhm (k:FloatKind) {x:Nat} (hx:x<2*k.format.signWeight) (hn:(k.format.read x).isNaN=false):k.format.write (k.format.read x)=x:=by
 have hw:=zze k.format hx
 have hbi:=zqe k
 have hbp:0<k.format.binade:=Nat.two_pow_pos _
 generalize k.format=f at *
 revert hn
 unfold Ieee.Format.read
 simp only []
 generalize hr:x % f.signWeight=r at *
 generalize hs:(x / f.signWeight % 2==1)=s at *
 split
 ·rename_i h
  intro _
  show f.nearest s r f.leastPlace=x
  rw [zie f s r h (by omega)];exact hw
 ·split
  ·rename_i h1 h2
   intro _
   show f.nearest s (f.binade+r % f.binade) (f.leastPlace+((r / f.binade-1:Nat):Int))=x
   have hm:=Nat.mod_lt r hbp
   have hd:=Nat.div_add_mod r f.binade
   have hq:1≤r / f.binade:=Nat.div_pos (by omega) hbp
   have key:(r / f.binade-1)*f.binade+(f.binade+r % f.binade)=r:=by
    obtain ⟨q,hq'⟩:∃q,r / f.binade=q+1:=⟨r / f.binade-1,by omega⟩
    rw [hq'] at hd ⊢
    have:f.binade*(q+1)=q*f.binade+f.binade:=by rw [Nat.mul_add,Nat.mul_comm,Nat.mul_one]
    have e:q+1-1=q:=rfl
    rw [e];omega
   rw [z9a f s _ _ (by omega) (by omega) (by rw [key];omega),key];exact hw
  ·split
   ·rename_i h
    intro _
    show f.word s f.infRung=x
    rw [←h];exact hw
   ·intro hn;cases hn
def wd (k:FloatKind):Nat:=2*k.format.signWeight
theorem z16u (k:FloatKind) (d:Ieee.Datum):k.format.write d<wd k:=by
 have:=k.format.write_lt d
 cases k<;>exact this
theorem z1f5 (k:FloatKind):qnan k<wd k:=by cases k<;>decide
def Wd (k:FloatKind) (x:Nat):Prop:=x<wd k∧cn k x=x
theorem Wd.write (k:FloatKind) {d:Ieee.Datum} (h:d.isNaN=false):Wd k (k.format.write d):=⟨z16u k d,z5k k h⟩
theorem Wd.nan (k:FloatKind):Wd k (qnan k):=⟨z1f5 k,zvm k⟩
theorem Wd.opt {k:FloatKind} {o:Option Ieee.Datum} (h:∀d,o=some d→d.isNaN=false):Wd k ((o.map k.format.write).getD (qnan k)):=by
 cases o with
 | none=>exact Wd.nan k
 | some d=>exact Wd.write k (h d rfl)
theorem Wd.add (k:FloatKind) (x y:Nat):Wd k (fadd k x y):=Wd.opt fun d h=>z9r.not_nan _ _ _ h
theorem Wd.sub (k:FloatKind) (x y:Nat):Wd k (fsub k x y):=Wd.opt fun d h=>z9r.not_nan _ _ _ h
theorem Wd.mul (k:FloatKind) (x y:Nat):Wd k (fmul k x y):=Wd.opt fun d h=>z8m.not_nan _ _ _ h
theorem Wd.div (k:FloatKind) (x y:Nat):Wd k (fdiv k x y):=Wd.opt fun d h=>(z7k _).not_nan _ _ _ h

def fin (k:FloatKind) (x:Nat):Bool:=match k.format.read x with
 | .number _ _ _=>true
 | _=>false
def sv (k:FloatKind) (x:Nat):Int:=match k.format.read x with
 | .number s m e=>Ieee.signed s m (e-k.format.leastPlace).toNat
 | _=>0
theorem z3c {k:FloatKind} {x:Nat} (h:fin k x=true):∃s m e,k.format.read x=.number s m e:=by
 unfold fin at h
 split at h
 ·exact ⟨_,_,_,by assumption⟩
 ·cases h
theorem z2p {f:Ieee.Format} {x:Nat} {s:Bool} {m:Nat} {e:Int} (h:f.read x=.number s m e):f.leastPlace≤e:=by
 unfold Ieee.Format.read at h
 simp only [] at h
 split at h
 ·cases h;omega
 ·split at h
  ·cases h;omega
  ·split at h<;>cases h
theorem z6z (s:Bool) (m a b:Nat):Ieee.signed s m (a+b)=Ieee.signed s m a*2 ^ b:=by
 unfold Ieee.signed
 have:m <<< (a+b)=m <<< a*2 ^ b:=by rw [Nat.shiftLeft_add,Nat.shiftLeft_eq (m <<< a)]
 cases s
 ·simp [this]
 ·simp [this,Int.neg_mul]
theorem z1c4 (a b:Int) (n:Nat):compare (a*2 ^ n) (b*2 ^ n)=compare a b:=by
 have hp:(0:Int)<2 ^ n:=Int.pow_pos (by decide)
 simp only [compare,compareOfLessAndEq]
 have h1:a*2 ^ n<b*2 ^ n↔a<b:=Int.mul_lt_mul_right hp
 have h2:a*2 ^ n=b*2 ^ n↔a=b:=⟨fun h=>Int.eq_of_mul_eq_mul_right (by omega) h,fun h=>by rw [h]⟩
 by_cases c1:a<b
 ·rw [if_pos c1,if_pos (h1.2 c1)]
 ·rw [if_neg c1,if_neg (fun h=>c1 (h1.1 h))]
  by_cases c2:a=b
  ·rw [if_pos c2,if_pos (h2.2 c2)]
  ·rw [if_neg c2,if_neg (fun h=>c2 (h2.1 h))]
theorem zee {k:FloatKind} {x y:Nat} (hx:fin k x=true) (hy:fin k y=true):k.format.order x y=some (compare (sv k x) (sv k y)):=by
 obtain ⟨s,m,i,h1⟩:=z3c hx
 obtain ⟨t,n,j,h2⟩:=z3c hy
 have p1:=z2p h1
 have p2:=z2p h2
 unfold Ieee.Format.order sv
 rw [h1,h2]
 simp only [Ieee.Datum.order]
 have e1:(i-k.format.leastPlace).toNat=(i-min i j).toNat+(min i j-k.format.leastPlace).toNat:=by omega
 have e2:(j-k.format.leastPlace).toNat=(j-min i j).toNat+(min i j-k.format.leastPlace).toNat:=by omega
 rw [e1,e2,z6z,z6z,z1c4]
theorem z19p {a b:Int}:(compare a b==Ordering.lt)=decide (a<b):=by
 simp only [compare,compareOfLessAndEq]
 by_cases c1:a<b
 ·rw [if_pos c1,decide_eq_true c1];rfl
 ·rw [if_neg c1,decide_eq_false c1]
  split<;>rfl
theorem z19o {a b:Int}:(compare a b==Ordering.eq)=decide (a=b):=by
 simp only [compare,compareOfLessAndEq]
 by_cases c1:a<b
 ·rw [if_pos c1,decide_eq_false (by omega)];rfl
 ·rw [if_neg c1]
  by_cases c2:a=b
  ·rw [if_pos c2,decide_eq_true c2];rfl
  ·rw [if_neg c2,decide_eq_false c2];rfl
theorem zd8 {a b:Ordering}:(some a==some b)=(a==b):=rfl
theorem z1ef {k:FloatKind} {x y:Nat} (hx:fin k x=true) (hy:fin k y=true):flt k x y=decide (sv k x<sv k y):=by
 unfold flt;rw [zee hx hy,zd8,z19p]
theorem z1ed {k:FloatKind} {x y:Nat} (hx:fin k x=true) (hy:fin k y=true):feq k x y=decide (sv k x=sv k y):=by
 unfold feq;rw [zee hx hy,zd8,z19o]
theorem zah {k:FloatKind} {x y:Nat} (hx:fin k x=true) (hy:fin k y=true):fle k x y=decide (sv k x≤sv k y):=by
 unfold fle;rw [zee hx hy,zd8,zd8,z19p,z19o]
 by_cases c1:sv k x<sv k y
 ·rw [decide_eq_true c1,decide_eq_true (by omega:sv k x≤sv k y)];rfl
 ·rw [decide_eq_false c1,Bool.false_or]
  by_cases c2:sv k x=sv k y
  ·rw [decide_eq_true c2,decide_eq_true (by omega:sv k x≤sv k y)]
  ·rw [decide_eq_false c2,decide_eq_false (by omega:¬sv k x≤sv k y)]

theorem zkc {k:FloatKind} (x:Nat):feq k (fsub k x x) 0=fin k x:=by
 have hz:k.format.order 0 0=some .eq:=by cases k<;>decide+kernel
 have hw:k.format.word false 0=0:=by cases k<;>rfl
 have hq:k.format.order (qnan k) 0=none:=by cases k<;>decide+kernel
 unfold fsub Ieee.Format.sub fin
 cases h:k.format.read x with
 | number s m e=>
  simp only [Ieee.Datum.opposite,Ieee.Datum.sum]
  have t:Ieee.signed s m (e-min e e).toNat+Ieee.signed (!s) m (e-min e e).toNat=0:=by
   unfold Ieee.signed;cases s<;>simp<;>omega
  rw [t]
  simp only [if_true,Int.natAbs_zero,Option.map_some,Option.getD_some,Ieee.Format.write,Ieee.Format.nearest]
  rw [show (s && !s)=false by cases s<;>rfl,hw]
  unfold feq;rw [hz];rfl
 | infinity s=>
  simp only [Ieee.Datum.opposite,Ieee.Datum.sum]
  rw [if_neg (by cases s<;>simp)]
  show feq k (qnan k) 0=false
  unfold feq;rw [hq];rfl
 | nan s t=>
  show feq k (qnan k) 0=false
  unfold feq;rw [hq];rfl

theorem Wd.cases {k:FloatKind} {x:Nat} (h:Wd k x):fin k x=true∨x=k.format.word false k.format.infRung∨x=k.format.word true k.format.infRung∨x=qnan k:=by
 cases hr:k.format.read x with
 | number s m e=>left;unfold fin;rw [hr]
 | infinity s=>
  have:=zhm k h.1 (by rw [hr];rfl)
  rw [hr] at this
  cases s
  ·exact .inr (.inl this.symm)
  ·exact .inr (.inr (.inl this.symm))
 | nan s t=>
  right;right;right
  have:cn k x=qnan k:=z1s (by show (k.format.read x).isNaN=true;rw [hr];rfl)
  rw [←h.2];exact this

theorem zgi {m:Nat} (h:m≠0) (n:Nat):(m <<< n).log2=m.log2+n:=by
 refine zni ?_ ?_
 ·rw [Nat.shiftLeft_eq,Nat.pow_add];exact Nat.mul_le_mul_right _ (Nat.log2_self_le h)
 ·rw [Nat.shiftLeft_eq,show m.log2+n+1=(m.log2+1)+n by omega,Nat.pow_add]
  exact Nat.mul_lt_mul_of_pos_right Nat.lt_log2_self (Nat.two_pow_pos _)
theorem zjs (s:Bool) (m d n:Nat) (h0:m≠0):Ieee.Toward.even.cut s (m <<< n) (d+n)=Ieee.Toward.even.cut s m d:=by
 unfold Ieee.Toward.cut
 rw [zgi h0]
 have hmin:min (d+n) (m.log2+n+2)=min d (m.log2+2)+n:=by omega
 rw [hmin]
 generalize min d (m.log2+2)=g
 have e1:1 <<< (g+n)=1 <<< g*2 ^ n:=by rw [Nat.shiftLeft_add,Nat.shiftLeft_eq (1 <<< g)]
 have hp:=Nat.two_pow_pos n
 rw [e1,Nat.shiftLeft_eq m]
 generalize 1 <<< g=G
 simp only []
 rw [Nat.mul_div_mul_right _ _ hp,Nat.mul_mod_mul_right]
 have l1:decide (G*2 ^ n<2*(m % G*2 ^ n))=decide (G<2*(m % G)):=by
  rw [←Nat.mul_assoc]
  have:G*2 ^ n<2*(m % G)*2 ^ n↔G<2*(m % G):=Nat.mul_lt_mul_right hp
  by_cases c:G<2*(m % G)
  ·rw [decide_eq_true c,decide_eq_true (this.2 c)]
  ·rw [decide_eq_false c,decide_eq_false (fun h=>c (this.1 h))]
 have l2:(G*2 ^ n==2*(m % G*2 ^ n))=(G==2*(m % G)):=by
  rw [←Nat.mul_assoc]
  by_cases c:G=2*(m % G)
  ·rw [←c];simp
  ·have:¬G*2 ^ n=2*(m % G)*2 ^ n:=fun h=>c (Nat.eq_of_mul_eq_mul_right hp h)
   rw [beq_eq_false_iff_ne.2 c,beq_eq_false_iff_ne.2 this]
 rw [l1,l2]
theorem z4r (f:Ieee.Format) (s:Bool) (m n:Nat) (e:Int):f.nearest s (m <<< n) e=f.nearest s m (e+n):=by
 by_cases h0:m=0
 ·subst h0;unfold Ieee.Format.nearest;simp
 have h1:m <<< n≠0:=by rw [Nat.shiftLeft_eq];have:=Nat.two_pow_pos n;exact Nat.mul_ne_zero h0 (by omega)
 unfold Ieee.Format.nearest
 rw [if_neg h0,if_neg h1,zgi h0]
 have el:e+((m.log2+n:Nat):Int)-f.fractionBits=e+n+(m.log2:Int)-f.fractionBits:=by omega
 rw [el]
 generalize max (e+(n:Int)+(m.log2:Int)-f.fractionBits) f.leastPlace=last
 simp only []
 by_cases hc:e+n≤last
 ·have d1:(e-last).toNat=0:=by omega
  have d2:(e+n-last).toNat=0:=by omega
  have d3:(last-e).toNat=(last-(e+n)).toNat+n:=by omega
  rw [d1,d2,d3,Nat.shiftLeft_zero,Nat.shiftLeft_zero,zjs s m _ n h0]
 ·by_cases hc2:e≤last
  ·have d1:(e-last).toNat=0:=by omega
   have d2:(last-(e+n)).toNat=0:=by omega
   have d3:n=(e+n-last).toNat+(last-e).toNat:=by omega
   rw [d1,d2,Nat.shiftLeft_zero,z7y]
   conv=>lhs;rw [d3,Nat.shiftLeft_add]
   have h2:m <<< (e+n-last).toNat≠0:=by rw [Nat.shiftLeft_eq];have:=Nat.two_pow_pos (e+n-last).toNat;exact Nat.mul_ne_zero h0 (by omega)
   have:=zjs s (m <<< (e+n-last).toNat) 0 (last-e).toNat h2
   rw [Nat.zero_add] at this
   rw [this,z7y]
  ·have d1:(last-e).toNat=0:=by omega
   have d2:(last-(e+n)).toNat=0:=by omega
   have d3:(e+n-last).toNat=n+(e-last).toNat:=by omega
   rw [d1,d2,d3,z7y,z7y,Nat.shiftLeft_add]

theorem z1l3 (k:FloatKind):∃n,k.format.signWeight=2 ^ n∧Op.negFloat k=fun b=>b ^^^ 2 ^ n:=by
 cases k
 ·exact ⟨31,rfl,rfl⟩
 ·exact ⟨63,rfl,rfl⟩
theorem z1ff (b n:Nat):(b ^^^ 2 ^ n) / 2 ^ n % 2=1-b / 2 ^ n % 2:=by
 have h:=Nat.testBit_xor b (2 ^ n) n
 rw [Nat.testBit_two_pow_self] at h
 have e:∀x:Nat,x.testBit n=decide (x / 2 ^ n % 2=1):=fun x=>by rw [Nat.testBit_eq_decide_div_mod_eq]
 rw [e,e] at h
 have m1:=Nat.mod_two_eq_zero_or_one ((b ^^^ 2 ^ n) / 2 ^ n)
 have m2:=Nat.mod_two_eq_zero_or_one (b / 2 ^ n)
 rcases m1 with h1 | h1<;>rcases m2 with h2 | h2<;>simp [h1,h2] at h ⊢
theorem zd5 (k:FloatKind) (x:Nat):k.format.read (Op.negFloat k x)=(k.format.read x).opposite:=by
 obtain ⟨n,h1,h2⟩:=z1l3 k
 rw [h2]
 unfold Ieee.Format.read
 rw [h1]
 simp only []
 rw [zzf,z1ff]
 have hs:(1-x / 2 ^ n % 2==1)=!(x / 2 ^ n % 2==1):=by
  rcases Nat.mod_two_eq_zero_or_one (x / 2 ^ n) with h | h<;>rw [h]<;>rfl
 rw [hs]
 split
 ·rfl
 ·split
  ·rfl
  ·split<;>rfl
theorem z1kl (k:FloatKind) {x:Nat} (h:x<wd k):Op.negFloat k x<wd k:=by
 cases k
 ·exact Nat.xor_lt_two_pow (n:=32) h (by decide)
 ·exact Nat.xor_lt_two_pow (n:=64) h (by decide)
theorem zqs {k:FloatKind} {x:Nat} (h:x<wd k) (hn:(k.format.read x).isNaN=false):fneg k x=k.format.write (k.format.read x).opposite:=by
 unfold fneg
 rw [show (k.decode x).isNaN=false from hn]
 have hn2:(k.format.read (Op.negFloat k x)).isNaN=false:=by rw [zd5];cases hr:k.format.read x<;>rw [hr] at hn<;>first | rfl | exact hn
 have:=zhm k (z1kl k h) hn2
 rw [zd5] at this
 exact this.symm
theorem zbu (s:Bool) (m n:Nat):Ieee.signed s m n=if s then -((m*2 ^ n:Nat):Int) else ((m*2 ^ n:Nat):Int):=by
 unfold Ieee.signed;rw [Nat.shiftLeft_eq]
theorem z2v (s:Bool) (m n:Nat):(Ieee.signed s m n).natAbs=m <<< n:=by
 rw [zbu,Nat.shiftLeft_eq]
 cases s
 ·rw [if_neg (by simp),Int.natAbs_natCast]
 ·rw [if_pos rfl,Int.natAbs_neg,Int.natAbs_natCast]
theorem zm0 (k:FloatKind):k.format.read 0=.number false 0 k.format.leastPlace:=by cases k<;>decide+kernel
theorem zb7 (k:FloatKind):fin k 0=true:=by unfold fin;rw [zm0]
theorem znx (k:FloatKind):sv k 0=0:=by unfold sv;rw [zm0];simp [Ieee.signed]
theorem zif (k:FloatKind) (n:Int):k.nearest n=k.format.write (.number (n<0) n.natAbs 0):=rfl
theorem Wd.nearest (k:FloatKind) (n:Int):Wd k (k.nearest n):=by rw [zif];exact Wd.write k rfl
theorem zpa (k:FloatKind):k.format.infRung<k.format.signWeight:=k.format.infRung_lt
theorem zx8 {k:FloatKind} {x:Nat} (h:fin k x=true):fin k (fneg k x)=true:=by
 obtain ⟨s,m,e,hr⟩:=z3c h
 unfold fneg
 rw [show (k.decode x).isNaN=false from by show (k.format.read x).isNaN=false;rw [hr];rfl]
 show fin k (Op.negFloat k x)=true
 unfold fin;rw [zd5,hr];rfl
theorem z1ik {k:FloatKind} {x:Nat} (h:fin k x=true):(k.format.read x).isNaN=false:=by
 obtain ⟨s,m,e,hr⟩:=z3c h;rw [hr];rfl
theorem zyq {k:FloatKind} {x:Nat} (h:(k.format.read x).isNaN=false):k.format.read (fneg k x)=(k.format.read x).opposite:=by
 unfold fneg
 rw [show (k.decode x).isNaN=false from h]
 exact zd5 k x
theorem zz4 {k:FloatKind} {x:Nat} (h:fin k x=true):sv k (fneg k x)=- sv k x:=by
 obtain ⟨s,m,e,hr⟩:=z3c h
 unfold sv
 rw [zyq (z1ik h),hr]
 show Ieee.signed (!s) m _=- Ieee.signed s m _
 rw [zbu,zbu]
 cases s<;>simp
theorem z1ae {k:FloatKind} {s t:Bool} {m n:Nat} {i j:Int} (h1:k.format.leastPlace≤i) (h2:k.format.leastPlace≤j):
  Ieee.signed s m (i-k.format.leastPlace).toNat+Ieee.signed t n (j-k.format.leastPlace).toNat=
   (Ieee.signed s m (i-min i j).toNat+Ieee.signed t n (j-min i j).toNat)*2 ^ (min i j-k.format.leastPlace).toNat:=by
 have e1:(i-k.format.leastPlace).toNat=(i-min i j).toNat+(min i j-k.format.leastPlace).toNat:=by omega
 have e2:(j-k.format.leastPlace).toNat=(j-min i j).toNat+(min i j-k.format.leastPlace).toNat:=by omega
 rw [e1,e2,z6z,z6z,←Int.add_mul]
theorem Wd.neg {k:FloatKind} {x:Nat} (h:Wd k x):Wd k (fneg k x):=by
 by_cases hn:(k.format.read x).isNaN=true
 ·have:x=qnan k:=by rw [←h.2];exact z1s hn
  rw [this]
  have:fneg k (qnan k)=qnan k:=by cases k<;>decide+kernel
  rw [this];exact Wd.nan k
 ·have hn:(k.format.read x).isNaN=false:=by simpa using hn
  rw [zqs h.1 hn]
  refine Wd.write k ?_
  cases hr:k.format.read x with
  | nan s t=>rw [hr] at hn;cases hn
  | number s m e=>rfl
  | infinity s=>rfl
def nn (k:FloatKind) (x:Nat):Prop:=(k.format.read x).isNaN=false
def un (k:FloatKind) (x:Nat):Prop:=(k.format.read x).isNaN=true∨(k.format.read x).neg=false
def rnd (k:FloatKind) (v:Int):Nat:=k.format.nearest (decide (v<0)) v.natAbs k.format.leastPlace
theorem zrn (k:FloatKind) (s:Bool) (m:Nat) {e:Int} (h:k.format.leastPlace≤e):k.format.nearest s m e=k.format.nearest s (m <<< (e-k.format.leastPlace).toNat) k.format.leastPlace:=by
 rw [z4r];congr 1;omega
theorem z12y {k:FloatKind} {x y:Nat} (hx:fin k x=true) (hy:fin k y=true) (h:sv k x+sv k y≠0):fadd k x y=rnd k (sv k x+sv k y):=by
 obtain ⟨s,m,i,h1⟩:=z3c hx
 obtain ⟨t,n,j,h2⟩:=z3c hy
 have p1:=z2p h1
 have p2:=z2p h2
 have e:sv k x+sv k y=(Ieee.signed s m (i-min i j).toNat+Ieee.signed t n (j-min i j).toNat)*2 ^ (min i j-k.format.leastPlace).toNat:=by
  unfold sv;rw [h1,h2];exact z1ae p1 p2
 unfold rnd fadd Ieee.Format.add
 rw [e] at h ⊢
 rw [h1,h2]
 simp only [Ieee.Datum.sum]
 generalize Ieee.signed s m (i-min i j).toNat+Ieee.signed t n (j-min i j).toNat=a at *
 have ha:a≠0:=fun e=>h (by rw [e,Int.zero_mul])
 have hp:(0:Int)<2 ^ (min i j-k.format.leastPlace).toNat:=Int.pow_pos (by decide)
 rw [if_neg ha]
 simp only [Option.map_some,Option.getD_some,Ieee.Format.write]
 rw [zrn k _ _ (by omega:k.format.leastPlace≤min i j)]
 have e1:decide (a*2 ^ (min i j-k.format.leastPlace).toNat<0)=decide (a<0):=by
  by_cases c:a<0
  ·rw [decide_eq_true c,decide_eq_true (Int.mul_neg_of_neg_of_pos c hp)]
  ·rw [decide_eq_false c,decide_eq_false]
   have:=Int.mul_nonneg (by omega:0≤a) (by omega:(0:Int)≤2 ^ (min i j-k.format.leastPlace).toNat)
   omega
 rw [e1,Int.natAbs_mul,Nat.shiftLeft_eq]
 congr 2
theorem zez (k:FloatKind) (s:Bool) (m q:Nat) (h1:k.format.binade≤m) (h2:m<2*k.format.binade) (hi:q*k.format.binade+m<k.format.infRung):
  k.format.read (k.format.word s (q*k.format.binade+m))=.number s m (k.format.leastPlace+q):=by
 have hlt:=zpa k
 have hp:=zq7 k.format
 have hbp:0<k.format.binade:=Nat.two_pow_pos _
 generalize k.format=f at *
 generalize hr:q*f.binade+m=r at *
 have e:f.word s r % f.signWeight=r:=by
  unfold Ieee.Format.word
  split
  ·rw [Nat.add_mod_left];exact Nat.mod_eq_of_lt (by omega)
  ·exact Nat.mod_eq_of_lt (by omega)
 have e2:(f.word s r / f.signWeight % 2==1)=s:=by
  unfold Ieee.Format.word
  cases s
  ·rw [if_neg (by simp),Nat.div_eq_of_lt (by omega)];rfl
  ·rw [if_pos rfl,Nat.add_div_left _ hp,Nat.div_eq_of_lt (by omega)];rfl
 have d1:r / f.binade=q+1:=by
  rw [←hr]
  obtain ⟨c,hc⟩:∃c,m=f.binade+c:=⟨m-f.binade,by omega⟩
  rw [hc,show q*f.binade+(f.binade+c)=c+f.binade*(q+1) by rw [Nat.mul_add,Nat.mul_one,Nat.mul_comm f.binade q];omega,Nat.add_mul_div_left _ _ hbp,Nat.div_eq_of_lt (by omega)];omega
 have d2:f.binade+r % f.binade=m:=by
  have:=Nat.div_add_mod r f.binade
  rw [d1,Nat.mul_add,Nat.mul_one,Nat.mul_comm f.binade q] at this
  omega
 unfold Ieee.Format.read
 simp only [e,e2]
 have hge:f.binade≤r:=by rw [←hr];omega
 rw [if_neg (by omega),if_pos hi,d1,d2]
 rfl
def lp (k:FloatKind):Nat:=(- k.format.leastPlace).toNat
theorem lp_eq (k:FloatKind):k.format.leastPlace=- (lp k:Int):=by cases k<;>rfl
end Go.Proofs.YthheoefadijhdaaGreat.Ai
