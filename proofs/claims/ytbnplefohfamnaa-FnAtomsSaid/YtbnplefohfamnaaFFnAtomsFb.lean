/- Bounds of floats by powers of two. -/
import Derived.Test.YtbnplefohfamnaaFFnAtomsFm
set_option linter.unusedVariables false
namespace Go.Proofs.Ytbnplefohfamnaa.Ai
open Go

theorem z7b (s:Bool) (n d b:Nat) (h:n≤b*2 ^ d):Ieee.Toward.even.cut s n d≤b:=by
 unfold Ieee.Toward.cut
 simp only []
 have hg:1 <<< min d (n.log2+2)=2 ^ min d (n.log2+2):=by rw [Nat.shiftLeft_eq,Nat.one_mul]
 rw [hg]
 by_cases hd:d≤n.log2+2
 ·rw [Nat.min_eq_left hd]
  have hp:=Nat.two_pow_pos d
  generalize 2 ^ d=G at *
  have h1:=Nat.div_add_mod n G
  have h2:=Nat.mod_lt n hp
  by_cases hr:n % G=0
  ·rw [hr]
   have e:(decide (G<2*0) || G==2*0 && n / G % 2==1)=false:=by
    simp only [Nat.mul_zero,Nat.not_lt_zero,decide_false,Bool.false_or]
    rw [beq_eq_false_iff_ne.2 (by omega)];rfl
   rw [e]
   show n / G+0≤b
   rw [Nat.add_zero]
   have h3:n / G*G≤b*G:=by rw [Nat.mul_comm (n / G)];omega
   exact Nat.le_of_mul_le_mul_right h3 hp
  ·have h3:n / G*G<b*G:=by rw [Nat.mul_comm (n / G)];omega
   have h4:n / G<b:=Nat.lt_of_mul_lt_mul_right h3
   have h5:∀c:Bool,c.toNat≤1:=fun c=>by cases c<;>decide
   exact Nat.le_trans (Nat.add_le_add_left (h5 _) _) (by omega)
 ·rw [Nat.min_eq_right (by omega)]
  -- all of it goes
  have hn:n<2 ^ (n.log2+1):=Nat.lt_log2_self
  have e1:n / 2 ^ (n.log2+2)=0:=Nat.div_eq_of_lt (Nat.lt_of_lt_of_le hn (Nat.pow_le_pow_right (by decide) (by omega)))
  have e2:n % 2 ^ (n.log2+2)=n:=Nat.mod_eq_of_lt (Nat.lt_of_lt_of_le hn (Nat.pow_le_pow_right (by decide) (by omega)))
  have e3:2 ^ (n.log2+2)=2*2 ^ (n.log2+1):=by rw [Nat.pow_succ,Nat.mul_comm]
  rw [e1,e2]
  have e4:(decide (2 ^ (n.log2+2)<2*n) || 2 ^ (n.log2+2)==2*n && 0 % 2==1)=false:=by
   rw [decide_eq_false (by omega),beq_eq_false_iff_ne.2 (by omega)];rfl
  rw [e4]
  exact Nat.zero_le _
theorem zf1 (k:FloatKind) (s:Bool) {m n T:Nat} {e:Int} (hm:m≤2 ^ n) (hT:(n:Int)+e≤k.format.leastPlace+k.format.fractionBits+T):
  ∃r,k.format.nearest s m e=k.format.word s r∧r≤(T+1)*k.format.binade∧r≤k.format.infRung:=by
 have hb:k.format.binade=2 ^ k.format.fractionBits:=rfl
 have hbp:0<k.format.binade:=Nat.two_pow_pos _
 unfold Ieee.Format.nearest
 by_cases h0:m=0
 ·rw [if_pos h0];exact ⟨0,rfl,Nat.zero_le _,Nat.zero_le _⟩
 ·rw [if_neg h0]
  refine ⟨_,rfl,Nat.le_trans (Nat.min_le_left _ _) ?_,Nat.min_le_right _ _⟩
  generalize hl:m.log2=L
  have hlo:2 ^ L≤m:=by rw [←hl];exact Nat.log2_self_le h0
  have hhi:m<2 ^ (L+1):=by rw [←hl];exact Nat.lt_log2_self
  have hLn:L≤n:=by
   have:=Nat.lt_of_lt_of_le (Nat.lt_of_le_of_lt hlo (Nat.lt_succ_of_le hm)) (Nat.le_refl _)
   apply Classical.byContradiction
   intro hc
   have h1:2 ^ (n+1)≤2 ^ L:=Nat.pow_le_pow_right (by decide) (by omega)
   have h2:2 ^ n<2 ^ (n+1):=Nat.pow_lt_pow_right (by decide) (by omega)
   omega
  generalize k.format.leastPlace=lp at *
  generalize k.format.fractionBits=fb at *
  generalize hlast:max (e+(L:Int)-(fb:Int)) lp=last
  have q1:lp≤last:=by omega
  have q2:e+(L:Int)-fb≤last:=by omega
  obtain ⟨Q,hQ⟩:∃Q:Nat,last=lp+Q:=⟨(last-lp).toNat,by omega⟩
  have eQ:(last-lp).toNat=Q:=by omega
  rw [eQ]
  -- the exact power, or below it
  by_cases hx:L=n
  ·-- m is the power itself
   have hme:m=2 ^ L:=by
    have:m≤2 ^ L:=by rw [hx];exact hm
    omega
   have hk:Ieee.Toward.even.cut s (m <<< (e-last).toNat) (last-e).toNat≤2 ^ (L+(e-last).toNat-(last-e).toNat):=by
    apply z7b
    rw [hme,Nat.shiftLeft_eq,←Nat.pow_add,←Nat.pow_add]
    exact Nat.pow_le_pow_right (by decide) (by omega)
   by_cases hy:e+(L:Int)-fb≤lp
   ·-- a subnormal number
    have hlast2:last=lp:=by omega
    have hQ0:Q=0:=by omega
    subst hQ0
    rw [Nat.zero_mul,Nat.zero_add]
    refine Nat.le_trans hk ?_
    rw [hb]
    refine Nat.le_trans (Nat.pow_le_pow_right (by decide) (show L+(e-last).toNat-(last-e).toNat≤fb by omega)) ?_
    exact Nat.le_mul_of_pos_left _ (by omega)
   ·have e5:L+(e-last).toNat-(last-e).toNat=fb:=by omega
    rw [e5,←hb] at hk
    have hQT:Q≤T:=by omega
    have:Q*k.format.binade≤T*k.format.binade:=Nat.mul_le_mul_right _ hQT
    rw [Nat.add_mul,Nat.one_mul]
    omega
  ·have hk:Ieee.Toward.even.cut s (m <<< (e-last).toNat) (last-e).toNat≤2 ^ (fb+1):=by
    apply z7b
    rw [Nat.shiftLeft_eq,←Nat.pow_add]
    have h1:m*2 ^ (e-last).toNat≤2 ^ (L+1)*2 ^ (e-last).toNat:=Nat.mul_le_mul_right _ (by omega)
    rw [←Nat.pow_add] at h1
    exact Nat.le_trans h1 (Nat.pow_le_pow_right (by decide) (by omega))
   by_cases hy:e+(L:Int)-fb≤lp
   ·have hlast2:last=lp:=by omega
    have hQ0:Q=0:=by omega
    subst hQ0
    rw [Nat.zero_mul,Nat.zero_add]
    by_cases hz:e+(L:Int)-fb+1≤lp
    ·-- below the least normal number
     have hk2:Ieee.Toward.even.cut s (m <<< (e-last).toNat) (last-e).toNat≤2 ^ fb:=by
      apply z7b
      rw [Nat.shiftLeft_eq,←Nat.pow_add]
      have h1:m*2 ^ (e-last).toNat≤2 ^ (L+1)*2 ^ (e-last).toNat:=Nat.mul_le_mul_right _ (by omega)
      rw [←Nat.pow_add] at h1
      exact Nat.le_trans h1 (Nat.pow_le_pow_right (by decide) (by omega))
     refine Nat.le_trans hk2 ?_
     rw [hb]
     exact Nat.le_mul_of_pos_left _ (by omega)
    ·have hT1:1≤T:=by omega
     refine Nat.le_trans hk ?_
     rw [Nat.pow_succ,←hb,Nat.mul_comm]
     exact Nat.mul_le_mul_right _ (by omega)
   ·have hQT:Q+1≤T:=by omega
    have h2:(Q+1+1)*k.format.binade≤(T+1)*k.format.binade:=Nat.mul_le_mul_right _ (by omega)
    rw [Nat.pow_succ,←hb] at hk
    rw [Nat.add_mul,Nat.add_mul,Nat.one_mul] at h2
    omega
theorem zsb (k:FloatKind) (s:Bool) {r T:Nat} (h:r≤(T+1)*k.format.binade) (hT:(T+1)*k.format.binade<k.format.infRung):
  ∃m e,k.format.read (k.format.word s r)=.number s m e∧(sv k (k.format.word s r)).natAbs≤2 ^ (k.format.fractionBits+T):=by
 have hlt:=zb4 k
 have hp:=zfq k.format
 have hb:k.format.binade=2 ^ k.format.fractionBits:=rfl
 have hbp:0<k.format.binade:=Nat.two_pow_pos _
 by_cases h1:r<k.format.binade
 ·have hr:k.format.read (k.format.word s r)=.number s r k.format.leastPlace:=by
   have e:k.format.word s r % k.format.signWeight=r:=by
    unfold Ieee.Format.word
    split
    ·rw [Nat.add_mod_left];exact Nat.mod_eq_of_lt (by omega)
    ·exact Nat.mod_eq_of_lt (by omega)
   have e2:(k.format.word s r / k.format.signWeight % 2==1)=s:=by
    unfold Ieee.Format.word
    cases s
    ·rw [if_neg (by simp),Nat.div_eq_of_lt (by omega)];rfl
    ·rw [if_pos rfl,Nat.add_div_left _ hp,Nat.div_eq_of_lt (by omega)];rfl
   unfold Ieee.Format.read
   simp only [e,e2]
   rw [if_pos h1]
  refine ⟨_,_,hr,?_⟩
  unfold sv
  rw [hr]
  show (Ieee.signed s r _).natAbs≤_
  rw [z1e,Int.sub_self,Int.toNat_zero,Nat.shiftLeft_zero]
  refine Nat.le_trans (Nat.le_of_lt h1) ?_
  rw [hb];exact Nat.pow_le_pow_right (by decide) (by omega)
 ·obtain ⟨q,m,e1,a1,a2⟩:∃q m,r=q*k.format.binade+m∧k.format.binade≤m∧m<2*k.format.binade:=by
   refine ⟨r / k.format.binade-1,k.format.binade+r % k.format.binade,?_,by omega,by have:=Nat.mod_lt r hbp;omega⟩
   have hd:=Nat.div_add_mod r k.format.binade
   have hq:1≤r / k.format.binade:=Nat.div_pos (by omega) hbp
   obtain ⟨c,hc⟩:∃c,r / k.format.binade=c+1:=⟨r / k.format.binade-1,by omega⟩
   rw [hc] at hd ⊢
   rw [Nat.mul_add,Nat.mul_one,Nat.mul_comm] at hd
   show r=c*k.format.binade+(k.format.binade+r % k.format.binade)
   omega
  have hr:=za9 k s m q a1 a2 (by omega)
  rw [←e1] at hr
  refine ⟨_,_,hr,?_⟩
  unfold sv
  rw [hr]
  show (Ieee.signed s m _).natAbs≤_
  rw [z1e,Nat.shiftLeft_eq,show (k.format.leastPlace+(q:Int)-k.format.leastPlace).toNat=q by omega]
  rw [e1] at h
  have hqT:q≤T:=by
   apply Classical.byContradiction
   intro hc
   have:(T+1)*k.format.binade≤q*k.format.binade:=Nat.mul_le_mul_right _ (by omega)
   omega
  by_cases hq:q=T
  ·have hm:m≤k.format.binade:=by
    rw [hq,Nat.add_mul,Nat.one_mul] at h;omega
   rw [Nat.pow_add,←hb,hq]
   exact Nat.mul_le_mul_right _ hm
  ·calc m*2 ^ q≤(2*k.format.binade)*2 ^ q:=Nat.mul_le_mul_right _ (by omega)
    _=2 ^ (k.format.fractionBits+(q+1)):=by rw [hb,Nat.pow_add,Nat.pow_succ 2 q,Nat.mul_comm 2,Nat.mul_assoc,Nat.mul_comm 2]
    _≤2 ^ (k.format.fractionBits+T):=Nat.pow_le_pow_right (by decide) (by omega)
def Bd (k:FloatKind) (A:Nat) (x:Nat):Prop:=fin k x=true∧(sv k x).natAbs≤2 ^ A
def top (k:FloatKind) (T:Nat):Prop:=(T+1)*k.format.binade<k.format.infRung
theorem Bd.near {k:FloatKind} {s:Bool} {m n T:Nat} {e:Int} (ht:top k T) (hm:m≤2 ^ n) (hT:(n:Int)+e≤k.format.leastPlace+k.format.fractionBits+T):
  Bd k (k.format.fractionBits+T) (k.format.nearest s m e)∧(k.format.read (k.format.nearest s m e)).neg=s:=by
 obtain ⟨r,e1,h1,h2⟩:=zf1 k s hm hT
 obtain ⟨m',e',h3,h4⟩:=zsb k s h1 ht
 rw [e1]
 exact ⟨⟨by unfold fin;rw [h3],h4⟩,by rw [h3];rfl⟩
theorem Bd.mono {k:FloatKind} {A B x:Nat} (h:Bd k A x) (hAB:A≤B):Bd k B x:=⟨h.1,Nat.le_trans h.2 (Nat.pow_le_pow_right (by decide) hAB)⟩
theorem Bd.out {k:FloatKind} {A x:Nat} (h:Bd k A x):∃(s:Bool) (m q:Nat),k.format.read x=.number s m (k.format.leastPlace+q)∧m*2 ^ q≤2 ^ A:=by
 obtain ⟨s,m,e,hr⟩:=zu h.1
 have hp:=z1l hr
 have h2:=h.2
 unfold sv at h2
 rw [hr] at h2
 simp only [] at h2
 rw [z1e,Nat.shiftLeft_eq] at h2
 exact ⟨s,m,(e-k.format.leastPlace).toNat,by rw [hr];congr 1;omega,h2⟩
theorem z3x {m q A:Nat} (h:m*2 ^ q≤2 ^ A) (hq:q≤A):m≤2 ^ (A-q):=by
 have:2 ^ A=2 ^ (A-q)*2 ^ q:=by rw [←Nat.pow_add];congr 1;omega
 rw [this] at h
 exact Nat.le_of_mul_le_mul_right h (Nat.two_pow_pos q)
theorem z2j {m q A:Nat} (h:m*2 ^ q≤2 ^ A) (hq:A<q):m=0:=by
 apply Classical.byContradiction
 intro h0
 have h1:2 ^ q≤m*2 ^ q:=Nat.le_mul_of_pos_left _ (by omega)
 have h2:2 ^ A<2 ^ q:=Nat.pow_lt_pow_right (by decide) hq
 omega
theorem Bd.mul {k:FloatKind} {A B T x y:Nat} (hx:Bd k A x) (hy:Bd k B y) (ht:top k T) (hT:A+B≤lp k+(k.format.fractionBits+T)):
  Bd k (k.format.fractionBits+T) (fmul k x y)∧(k.format.read (fmul k x y)).neg=((k.format.read x).neg ^^ (k.format.read y).neg):=by
 obtain ⟨s,m,q,r1,b1⟩:=hx.out
 obtain ⟨t,n,p,r2,b2⟩:=hy.out
 rw [zga r1 r2,r1,r2]
 show _∧_=(s ^^ t)
 by_cases hm:m=0
 ·rw [hm,Nat.zero_mul]
  have:k.format.nearest (s ^^ t) 0 (k.format.leastPlace+q+(k.format.leastPlace+p))=k.format.nearest (s ^^ t) 0 k.format.leastPlace:=rfl
  rw [this]
  exact Bd.near (n:=0) ht (Nat.zero_le _) (by omega)
 by_cases hn:n=0
 ·rw [hn,Nat.mul_zero]
  have:k.format.nearest (s ^^ t) 0 (k.format.leastPlace+q+(k.format.leastPlace+p))=k.format.nearest (s ^^ t) 0 k.format.leastPlace:=rfl
  rw [this]
  exact Bd.near (n:=0) ht (Nat.zero_le _) (by omega)
 have hq:q≤A:=by
  apply Classical.byContradiction
  intro hc;exact hm (z2j b1 (by omega))
 have hp:p≤B:=by
  apply Classical.byContradiction
  intro hc;exact hn (z2j b2 (by omega))
 refine Bd.near (n:=(A-q)+(B-p)) ht ?_ ?_
 ·rw [Nat.pow_add];exact Nat.mul_le_mul (z3x b1 hq) (z3x b2 hp)
 ·have e:=zka k
  omega
theorem z1dg {k:FloatKind} {v:Int} {T:Nat} (ht:top k T) (h:v.natAbs≤2 ^ (k.format.fractionBits+T)):Bd k (k.format.fractionBits+T) (rnd k v)∧(k.format.read (rnd k v)).neg=decide (v<0):=
 Bd.near (n:=k.format.fractionBits+T) ht h (by omega)
theorem Bd.add {k:FloatKind} {x y T:Nat} (hx:fin k x=true) (hy:fin k y=true) (ht:top k T) (h:(sv k x+sv k y).natAbs≤2 ^ (k.format.fractionBits+T)):
  Bd k (k.format.fractionBits+T) (fadd k x y)∧(k.format.read (fadd k x y)).neg=if sv k x+sv k y=0 then ((k.format.read x).neg && (k.format.read y).neg) else decide (sv k x+sv k y<0):=by
 by_cases h0:sv k x+sv k y=0
 ·obtain ⟨s,m,i,h1⟩:=zu hx
  obtain ⟨t,n,j,h2⟩:=zu hy
  have e:sv k x+sv k y=(Ieee.signed s m (i-min i j).toNat+Ieee.signed t n (j-min i j).toNat)*2 ^ (min i j-k.format.leastPlace).toNat:=by
   unfold sv;rw [h1,h2];exact zxn (z1l h1) (z1l h2)
  rw [h0] at e
  have hz:Ieee.signed s m (i-min i j).toNat+Ieee.signed t n (j-min i j).toNat=0:=by
   rcases Int.mul_eq_zero.1 e.symm with h | h
   ·exact h
   ·have hp:(0:Int)<2 ^ (min i j-k.format.leastPlace).toNat:=Int.pow_pos (by decide)
    omega
  have e2:fadd k x y=k.format.nearest (s && t) 0 k.format.leastPlace:=by
   unfold fadd Ieee.Format.add
   rw [h1,h2]
   simp only [Ieee.Datum.sum]
   rw [hz]
   rfl
  rw [e2,if_pos h0,h1,h2]
  exact Bd.near (n:=0) ht (Nat.zero_le _) (by omega)
 ·rw [z9o hx hy h0,if_neg h0]
  exact z1dg ht h
theorem zfp {k:FloatKind} {x:Nat} (h:(k.format.read x).neg=true):sv k x≤0:=by
 unfold sv
 cases hr:k.format.read x with
 | number s m e=>rw [hr] at h;simp only [Ieee.Datum.neg] at h;subst h;show Ieee.signed true m _≤0;rw [zq,if_pos rfl];omega
 | infinity s=>exact Int.le_refl 0
 | nan s t=>exact Int.le_refl 0
theorem Bd.div {k:FloatKind} {A B T x y:Nat} (hx:Bd k A x) (hy:fin k y=true) (hB:2 ^ B≤(sv k y).natAbs) (ht:top k T) (hT:A+lp k≤B+(k.format.fractionBits+T)):
  Bd k (k.format.fractionBits+T) (fdiv k x y)∧(k.format.read (fdiv k x y)).neg=((k.format.read x).neg ^^ (k.format.read y).neg):=by
 obtain ⟨s,m,q,r1,b1⟩:=hx.out
 obtain ⟨t,n,j,r2⟩:=zu hy
 have hj:=z1l r2
 obtain ⟨p,rfl⟩:∃p:Nat,j=k.format.leastPlace+p:=⟨(j-k.format.leastPlace).toNat,by omega⟩
 unfold sv at hB
 rw [r2] at hB
 simp only [] at hB
 rw [z1e,Nat.shiftLeft_eq,show (k.format.leastPlace+(p:Int)-k.format.leastPlace).toNat=p by omega] at hB
 have hn:n≠0:=by
  intro h0
  rw [h0,Nat.zero_mul] at hB
  have:=Nat.two_pow_pos B
  omega
 generalize hd:k.format.fractionBits+2+n.log2-m.log2=d
 rw [zg6 r1 r2 hn hd,r1,r2]
 show _∧_=(s ^^ t)
 by_cases hm:m=0
 ·subst hm
  have e0:2*(0 <<< d / n)+(0 <<< d % n != 0).toNat=0:=by simp
  rw [e0]
  have:k.format.nearest (s ^^ t) 0 (k.format.leastPlace+(q:Int)-(k.format.leastPlace+(p:Int))-(d:Int)-1)=k.format.nearest (s ^^ t) 0 k.format.leastPlace:=rfl
  rw [this]
  exact Bd.near (n:=0) ht (Nat.zero_le _) (by omega)
 have hq:q≤A:=by
  apply Classical.byContradiction
  intro hc;exact hm (z2j b1 (by omega))
 have hmA:=z3x b1 hq
 -- the quotient is at least one
 have hnl:n<2 ^ (n.log2+1):=Nat.lt_log2_self
 have hml:2 ^ m.log2≤m:=Nat.log2_self_le hm
 have hge:n≤m <<< d:=by
  rw [Nat.shiftLeft_eq]
  have h1:2 ^ m.log2*2 ^ d≤m*2 ^ d:=Nat.mul_le_mul_right _ hml
  rw [←Nat.pow_add] at h1
  have h2:2 ^ (n.log2+1)≤2 ^ (m.log2+d):=Nat.pow_le_pow_right (by decide) (by omega)
  omega
 -- and at most a power
 have hup:m <<< d*2 ^ B≤n*2 ^ (A-q+d+p):=by
  rw [Nat.shiftLeft_eq]
  calc m*2 ^ d*2 ^ B≤2 ^ (A-q)*2 ^ d*(n*2 ^ p):=Nat.mul_le_mul (Nat.mul_le_mul_right _ hmA) hB
   _=n*2 ^ (A-q+d+p):=by rw [←Nat.pow_add,Nat.mul_left_comm,←Nat.pow_add]
 have hBle:B≤A-q+d+p:=by
  apply Classical.byContradiction
  intro hc
  have h1:2 ^ (A-q+d+p)<2 ^ B:=Nat.pow_lt_pow_right (by decide) (by omega)
  have h2:n*2 ^ (A-q+d+p)<m <<< d*2 ^ B:=by
   calc n*2 ^ (A-q+d+p)<n*2 ^ B:=Nat.mul_lt_mul_of_pos_left h1 (by omega)
    _≤m <<< d*2 ^ B:=Nat.mul_le_mul_right _ hge
  omega
 obtain ⟨c,hc⟩:∃c,A-q+d+p=B+c:=⟨A-q+d+p-B,by omega⟩
 have hup2:m <<< d≤n*2 ^ c:=by
  rw [hc,Nat.pow_add,←Nat.mul_assoc,Nat.mul_right_comm] at hup
  exact Nat.le_of_mul_le_mul_right hup (Nat.two_pow_pos B)
 have hmant:2*(m <<< d / n)+(m <<< d % n != 0).toNat≤2 ^ (c+1):=by
  have hdm:=Nat.div_add_mod (m <<< d) n
  rw [Nat.pow_succ]
  by_cases hr:m <<< d % n=0
  ·rw [hr,Nat.add_zero] at hdm
   have h3:n*(m <<< d / n)≤n*2 ^ c:=by rw [hdm];exact hup2
   have h4:=Nat.le_of_mul_le_mul_left h3 (by omega)
   rw [hr]
   show 2*(m <<< d / n)+0≤_
   omega
  ·have h3:n*(m <<< d / n)<n*2 ^ c:=by omega
   have h4:=Nat.lt_of_mul_lt_mul_left h3
   have h5:∀b:Bool,b.toNat≤1:=fun b=>by cases b<;>decide
   have h6:=h5 (m <<< d % n != 0)
   omega
 refine Bd.near ht hmant ?_
 have e:=zka k
 omega
theorem z4k {x:Nat} (h:Bd .f64 1174 x):zl x≠none:=by
 obtain ⟨s,m,q,hr,hb⟩:=h.out
 have e1:FloatKind.f64.format.leastPlace=-1074:=by decide
 rw [e1] at hr
 have hd:FloatKind.f64.decode x=.number s m (-1074+(q:Int)):=hr
 have key:(FloatKind.f32.decode (FloatKind.f32.encode (.number s m (-1074+(q:Int))))).isInfinity=false:=by
  have ht:top .f32 226:=by unfold top;decide
  have ep:FloatKind.f32.format.leastPlace+FloatKind.f32.format.fractionBits+(226:Nat)=100:=by decide
  by_cases hq:q≤1174
  ·have hm:=z3x hb hq
   have hT:((1174-q:Nat):Int)+(-1074+(q:Int))≤FloatKind.f32.format.leastPlace+FloatKind.f32.format.fractionBits+(226:Nat):=by clear hm hb;rw [ep];omega
   have:=(Bd.near (k:=.f32) (s:=s) ht hm hT).1.1
   obtain ⟨s',m',e',h3⟩:=zu this
   show (FloatKind.f32.format.read (FloatKind.f32.format.nearest s m _)).isInfinity=false
   rw [h3];rfl
  ·have hm:=z2j hb (by omega)
   subst hm
   show (FloatKind.f32.format.read (FloatKind.f32.format.word s 0)).isInfinity=false
   cases s<;>decide+kernel
 unfold zl
 rw [hd]
 simp only [key]
 simp
theorem z12k {x:Nat} (h:(FloatKind.f32.format.read x).isNaN=false):(FloatKind.f64.format.read (zh x)).neg=(FloatKind.f32.format.read x).neg:=by
 unfold zh
 rw [show FloatKind.f32.decode x=FloatKind.f32.format.read x from rfl]
 cases hr:FloatKind.f32.format.read x with
 | nan s t=>rw [hr] at h;cases h
 | number s m e=>exact z3u .f64 (d:=.number s m e) rfl
 | infinity s=>exact z3u .f64 (d:=.infinity s) rfl
theorem z8k {x:Nat} (h:fin .f32 x=true):fin .f64 (zh x)=true:=by
 obtain ⟨s,m,e,hr⟩:=zu h
 have hd:FloatKind.f32.decode x=.number s m e:=hr
 have hi:=z7m x s m e hd
 have hn:=z6t FloatKind.f64.format (d:=.number s m e) rfl
 unfold zh
 rw [hd]
 show fin .f64 (FloatKind.f64.encode (.number s m e))=true
 unfold fin
 have hi':(FloatKind.f64.format.read (FloatKind.f64.encode (.number s m e))).isInfinity=false:=hi
 have hn':(FloatKind.f64.format.read (FloatKind.f64.encode (.number s m e))).isNaN=false:=hn
 cases h3:FloatKind.f64.format.read (FloatKind.f64.encode (.number s m e)) with
 | number a b c=>rfl
 | infinity a=>rw [h3] at hi';cases hi'
 | nan a b=>rw [h3] at hn';cases hn'
theorem z2i {T:Nat} (h:T≤2000):top .f64 T:=by
 unfold top
 have e1:FloatKind.f64.format.infRung=2047*4503599627370496:=by decide
 have e2:FloatKind.f64.format.binade=4503599627370496:=by decide
 rw [e1,e2];omega
theorem fb64:FloatKind.f64.format.fractionBits=52:=rfl
theorem lp64:lp .f64=1074:=rfl
theorem z1dk {c u:Nat} (hc:(FloatKind.f32.format.read c).neg=true):(FloatKind.f32.format.read (fmul .f32 (fmul .f32 c u) u)).isNaN=true∨(FloatKind.f32.format.read (fmul .f32 (fmul .f32 c u) u)).neg=true:=by
 unfold fmul Ieee.Format.mul
 generalize hA:((FloatKind.f32.format.read c).product (FloatKind.f32.format.read u))=A
 cases hP:(FloatKind.f32.format.read ((A.map FloatKind.f32.format.write).getD (qnan .f32))).product (FloatKind.f32.format.read u) with
 | none=>left;exact z5h .f32
 | some r=>
  right
  have hn:=z1z.not_nan _ _ _ hP
  show (FloatKind.f32.format.read (FloatKind.f32.format.write r)).neg=true
  rw [z3u .f32 hn,z9h hP]
  cases A with
  | none=>
   obtain ⟨s,t,e⟩:=z1i _ (z5h .f32)
   have e':FloatKind.f32.format.read (qnan .f32)=.nan s t:=e
   simp only [Option.map_none,Option.getD_none,e'] at hP
   rw [z1z.left] at hP;cases hP
  | some a=>
   show ((FloatKind.f32.format.read (FloatKind.f32.format.write a)).neg ^^ (FloatKind.f32.format.read u).neg)=true
   rw [z3u .f32 (z1z.not_nan _ _ _ hA),z9h hA,hc]
   cases (FloatKind.f32.format.read u).neg<;>rfl
theorem zpj (n:Nat):((2 ^ n:Nat):Int)=(2:Int) ^ n:=by simp
theorem zx1 (n:Nat):((2:Int) ^ n).natAbs=2 ^ n:=by rw [Int.natAbs_pow];rfl
theorem z12r {n:Int} (h0:1≤n) (h1:n≤36):fin .f64 (FloatKind.nearest .f64 n)=true∧2 ^ 1074≤(sv .f64 (FloatKind.nearest .f64 n)).natAbs∧(FloatKind.f64.format.read (FloatKind.nearest .f64 n)).neg=false:=by
 have hb:n.natAbs<2*FloatKind.f64.format.binade:=by
  have e2:FloatKind.f64.format.binade=4503599627370496:=by decide
  rw [e2];omega
 obtain ⟨h2,h3⟩:=z3d .f64 hb
 refine ⟨h2,?_,?_⟩
 ·rw [h3,lp64,Int.natAbs_mul]
  rw [zx1 1074]
  exact Nat.le_mul_of_pos_left _ (by omega)
 ·rw [z2m,z3u .f64 rfl]
  show decide (n<0)=false
  exact decide_eq_false (by omega)
theorem Bd.add2 {k:FloatKind} {A T x y:Nat} (hx:Bd k A x) (hy:Bd k A y) (ht:top k T) (hT:A+1≤k.format.fractionBits+T):Bd k (k.format.fractionBits+T) (fadd k x y):=by
 refine (Bd.add hx.1 hy.1 ht ?_).1
 have h1:=hx.2
 have h2:=hy.2
 have h3:2 ^ (A+1)≤2 ^ (k.format.fractionBits+T):=Nat.pow_le_pow_right (by decide) hT
 rw [Nat.pow_succ] at h3
 omega
theorem Bd.neg {k:FloatKind} {A x:Nat} (h:Bd k A x):Bd k A (fneg k x):=⟨z8z h.1,by rw [zbd h.1,Int.natAbs_neg];exact h.2⟩
theorem Bd.sub2 {k:FloatKind} {A T x y:Nat} (hx:Bd k A x) (hy:Bd k A y) (ht:top k T) (hT:A+1≤k.format.fractionBits+T):Bd k (k.format.fractionBits+T) (fsub k x y):=by
 rw [z6g (z4z hy.1)];exact Bd.add2 hx hy.neg ht hT
theorem zuj (s:Bool) (n d b:Nat) (h:b*2 ^ d≤n):b≤Ieee.Toward.even.cut s n d:=by
 unfold Ieee.Toward.cut
 simp only []
 have hg:1 <<< min d (n.log2+2)=2 ^ min d (n.log2+2):=by rw [Nat.shiftLeft_eq,Nat.one_mul]
 rw [hg]
 refine Nat.le_trans ?_ (Nat.le_add_right _ _)
 rw [Nat.le_div_iff_mul_le (Nat.two_pow_pos _)]
 exact Nat.le_trans (Nat.mul_le_mul_left _ (Nat.pow_le_pow_right (by decide) (Nat.min_le_left _ _))) h
theorem zs5 (k:FloatKind) (s:Bool) {m n T:Nat} {e:Int} (hm:2 ^ n≤m) (hT:k.format.leastPlace+k.format.fractionBits+T≤(n:Int)+e) (ht:(T+1)*k.format.binade≤k.format.infRung):
  ∃r,k.format.nearest s m e=k.format.word s r∧(T+1)*k.format.binade≤r:=by
 have hb:k.format.binade=2 ^ k.format.fractionBits:=rfl
 have h0:m≠0:=by have:=Nat.two_pow_pos n;omega
 unfold Ieee.Format.nearest
 rw [if_neg h0]
 refine ⟨_,rfl,Nat.le_min.2 ⟨?_,ht⟩⟩
 have hL:n≤m.log2:=(Nat.le_log2 h0).2 hm
 have hlo:2 ^ m.log2≤m:=Nat.log2_self_le h0
 generalize m.log2=L at *
 generalize k.format.leastPlace=lp at *
 generalize k.format.fractionBits=fb at *
 have hlast:max (e+(L:Int)-(fb:Int)) lp=e+(L:Int)-fb:=by omega
 rw [hlast]
 have hq:T≤(e+(L:Int)-fb-lp).toNat:=by omega
 have hk:2 ^ fb≤Ieee.Toward.even.cut s (m <<< (e-(e+(L:Int)-fb)).toNat) (e+(L:Int)-fb-e).toNat:=by
  apply zuj
  rw [Nat.shiftLeft_eq,←Nat.pow_add]
  refine Nat.le_trans ?_ (Nat.mul_le_mul_right _ hlo)
  rw [←Nat.pow_add]
  exact Nat.pow_le_pow_right (by decide) (by omega)
 have:=Nat.mul_le_mul_right k.format.binade hq
 rw [Nat.add_mul,Nat.one_mul,hb] at *
 omega
theorem z1dn {k:FloatKind} {x y T:Nat} (hx:fin k x=true) (hy:fin k y=true) (hf:fin k (fadd k x y)=true) (h:((2 ^ (k.format.fractionBits+T):Nat):Int)≤sv k x+sv k y) (ht:(T+1)*k.format.binade≤k.format.infRung):
  2 ^ (k.format.fractionBits+T)≤(sv k (fadd k x y)).natAbs:=by
 have hp:=Nat.two_pow_pos (k.format.fractionBits+T)
 have e:=z9o hx hy (by omega)
 rw [e] at hf ⊢
 unfold rnd at hf ⊢
 obtain ⟨r,e1,h1⟩:=zs5 k (decide (sv k x+sv k y<0)) (m:=(sv k x+sv k y).natAbs) (n:=k.format.fractionBits+T) (T:=T) (e:=k.format.leastPlace) (by omega) (by omega) ht
 rw [e1] at hf ⊢
 -- a finite word with such a rung
 obtain ⟨s,m,i,hr⟩:=zu hf
 have hpl:=z1l hr
 generalize decide (sv k x+sv k y<0)=sg at *
 by_cases hi:r<k.format.infRung
 ·have hbp:0<k.format.binade:=Nat.two_pow_pos _
  have hb:k.format.binade=2 ^ k.format.fractionBits:=rfl
  have hge:k.format.binade≤r:=Nat.le_trans (Nat.le_mul_of_pos_left _ (by omega)) h1
  obtain ⟨q,m',e2,a1,a2⟩:∃q m,r=q*k.format.binade+m∧k.format.binade≤m∧m<2*k.format.binade:=by
   refine ⟨r / k.format.binade-1,k.format.binade+r % k.format.binade,?_,by omega,by have:=Nat.mod_lt r hbp;omega⟩
   have hd:=Nat.div_add_mod r k.format.binade
   have hq:1≤r / k.format.binade:=Nat.div_pos (by omega) hbp
   obtain ⟨c,hc⟩:∃c,r / k.format.binade=c+1:=⟨r / k.format.binade-1,by omega⟩
   rw [hc] at hd ⊢
   rw [Nat.mul_add,Nat.mul_one,Nat.mul_comm] at hd
   show r=c*k.format.binade+(k.format.binade+r % k.format.binade)
   omega
  have hr':=za9 k sg m' q a1 a2 (by omega)
  rw [←e2] at hr'
  unfold sv
  rw [hr']
  show 2 ^ _≤(Ieee.signed sg m' _).natAbs
  rw [z1e,Nat.shiftLeft_eq,show (k.format.leastPlace+(q:Int)-k.format.leastPlace).toNat=q by omega]
  have hTq:T≤q:=by
   apply Classical.byContradiction
   intro hc
   have h3:(q+1)*k.format.binade≤T*k.format.binade:=Nat.mul_le_mul_right _ (by omega)
   rw [e2,Nat.add_mul,Nat.one_mul] at h1
   rw [Nat.add_mul,Nat.one_mul] at h3
   omega
  rw [Nat.pow_add,←hb]
  exact Nat.mul_le_mul a1 (Nat.pow_le_pow_right (by decide) hTq)
 ·exfalso
  -- an infinite word is not finite
  have hle:r≤k.format.infRung:=by
   obtain ⟨r2,e3,_,h4⟩:=zf1 k sg (m:=(sv k x+sv k y).natAbs) (n:=(sv k x+sv k y).natAbs) (T:=(sv k x+sv k y).natAbs) (e:=k.format.leastPlace) (Nat.le_of_lt Nat.lt_two_pow_self) (by omega)
   have e5:k.format.word sg r=k.format.word sg r2:=e1.symm.trans e3
   unfold Ieee.Format.word at e5
   cases sg<;>simp at e5<;>omega
  have:=(z7l k sg hle).2.1.2 (by omega)
  rw [hr] at this;cases this
theorem zmv (n:Nat):∀(t r:Nat),Ieee.Datum.rootFrom n t r<r+2 ^ t:=by
 intro t
 induction t with
 | zero=>intro r;show r<r+1;omega
 | succ t ih=>
  intro r
  unfold Ieee.Datum.rootFrom
  simp only []
  rw [Nat.shiftLeft_eq,Nat.one_mul,Nat.pow_succ]
  split
  ·have:=ih (r+2 ^ t);omega
  ·have:=ih r;have:=Nat.two_pow_pos t;omega
theorem z13c {n q A:Nat} (h0:n≠0) (hn:n*2 ^ q≤2 ^ A):n.log2+q≤A:=by
 have h2:=Nat.le_trans (Nat.mul_le_mul_right (2 ^ q) (Nat.log2_self_le h0)) hn
 rw [←Nat.pow_add] at h2
 exact (Nat.pow_le_pow_iff_right (by decide)).1 h2
theorem zlo {n:Int} {A B:Nat} (h:n.natAbs≤2 ^ A):(n*2 ^ B).natAbs≤2 ^ (A+B):=by
 have:((2:Int) ^ B).natAbs=2 ^ B:=by rw [Int.natAbs_pow];rfl
 rw [Int.natAbs_mul,this,Nat.pow_add]
 exact Nat.mul_le_mul_right _ h
theorem z16w {W:Nat} {a:Int} (h:0≤a):(W:Int)≤a+(W:Int):=by omega
theorem z12e (x:Nat):zl (zdi .f64 (zh x))≠none:=by
 cases hr:FloatKind.f32.decode x with
 | nan s t=>
  have e:zh x=qnan .f64:=by unfold zh;rw [hr]
  rw [e];decide+kernel
 | infinity s=>
  have e:zh x=FloatKind.f64.encode (.infinity s):=by unfold zh;rw [hr]
  rw [e];cases s<;>decide+kernel
 | number s m e=>
  have hf:fin .f32 x=true:=by
   have:FloatKind.f32.format.read x=.number s m e:=hr
   unfold fin;rw [this]
  have hb:m<2 ^ 24∧e≤104:=by
   have hr':FloatKind.f32.format.read x=.number s m e:=hr
   revert hr'
   unfold Ieee.Format.read
   have bi:FloatKind.f32.format.binade=8388608:=by decide
   have ir:FloatKind.f32.format.infRung=2139095040:=by decide
   have lp':FloatKind.f32.format.leastPlace=-149:=by decide
   simp only [bi,ir,lp']
   generalize (x / FloatKind.f32.format.signWeight % 2==1)=sg
   generalize x % FloatKind.f32.format.signWeight=r
   split
   ·intro h;cases h;omega
   ·split
    ·intro h;cases h;omega
    ·split<;>intro h<;>cases h
  have hbd:Bd .f64 1202 (zh x):=by
   unfold zh
   rw [hr]
   have:=(Bd.near (k:=.f64) (s:=s) (m:=m) (n:=24) (T:=1150) (e:=e) (z2i (by decide)) (by omega) (by
    have e1:FloatKind.f64.format.leastPlace=-1074:=by decide
    rw [e1,fb64];omega)).1
   exact this
  obtain ⟨t,n,q,hr2,hn⟩:=hbd.out
  have e1:FloatKind.f64.format.leastPlace=-1074:=by decide
  rw [e1] at hr2
  by_cases h0:n=0
  ·subst h0
   have e2:zdi .f64 (zh x)=FloatKind.f64.format.nearest t 0 FloatKind.f64.format.leastPlace:=by
    unfold zdi Ieee.Format.sqrt
    rw [hr2];rfl
   rw [e2]
   exact z4k (Bd.near (k:=.f64) (n:=0) (T:=1122) (z2i (by decide)) (Nat.zero_le _) (by omega)).1
  ·cases t with
   | true=>
    have e2:zdi .f64 (zh x)=qnan .f64:=by
     unfold zdi Ieee.Format.sqrt
     rw [hr2]
     simp only [Ieee.Datum.root]
     rw [if_neg h0];rfl
    rw [e2];decide+kernel
   | false=>
    have key:∃(w:Nat) (b:Bool) (M:Nat),zdi .f64 (zh x)=FloatKind.f64.format.nearest false (2*w+b.toNat) ((-1074+(q:Int)-(M:Int)) / 2-1)∧w<2 ^ ((n.log2+M) / 2+1)∧(-1074+(q:Int)-(M:Int)) % 2=0:=by
     unfold zdi Ieee.Format.sqrt
     rw [hr2]
     simp only [Ieee.Datum.root]
     rw [if_neg h0,if_neg (by simp)]
     generalize hM0:2*(FloatKind.f64.format.fractionBits+2)-n.log2=M0
     generalize hM:M0+((-1074+(q:Int)-(M0:Int)) % 2).toNat=M
     refine ⟨_,_,M,rfl,?_,by omega⟩
     have h1:=zmv (n <<< M) ((n <<< M).log2 / 2+1) 0
     rw [zah h0] at h1 ⊢
     omega
    obtain ⟨w,b,M,e2,hw,hpar⟩:=key
    have hnl:n.log2+q≤1202:=z13c h0 hn
    rw [e2]
    refine z4k (Bd.near (k:=.f64) (n:=(n.log2+M) / 2+3) (T:=1122) (z2i (by decide)) ?_ ?_).1
    ·have hb1:b.toNat≤1:=by cases b<;>decide
     have h3:2 ^ ((n.log2+M) / 2+3)=4*2 ^ ((n.log2+M) / 2+1):=by
      rw [show (n.log2+M) / 2+3=((n.log2+M) / 2+1)+2 by omega,Nat.pow_add _ _ 2,Nat.mul_comm]
     rw [h3];omega
    ·rw [e1,fb64]
     clear hn hr2 e2 hw hbd
     omega
theorem zgl:(4607182418800017408:Nat)=FloatKind.nearest .f64 1:=by decide+kernel
theorem z9w {n:Int} (h:n.natAbs≤5000):n.natAbs<2*FloatKind.f64.format.binade:=by
 have e2:FloatKind.f64.format.binade=4503599627370496:=by decide
 rw [e2];omega
theorem zwp {n:Int} (h:n.natAbs≤4000):fadd .f64 (FloatKind.nearest .f64 n) 4607182418800017408=FloatKind.nearest .f64 (n+1):=by
 by_cases h0:n=-1
 ·subst h0;decide+kernel
 ·rw [zgl];exact z16r (z9w (by omega)) (z9w (by omega)) (by omega)
theorem zkd {n:Int} (h:n.natAbs≤4000):fsub .f64 (FloatKind.nearest .f64 n) 4607182418800017408=FloatKind.nearest .f64 (n-1):=by
 by_cases h0:n=1
 ·subst h0;decide+kernel
 ·rw [zgl];exact z16s (z9w (by omega)) (z9w (by omega)) h0
theorem z11g {n:Int} {B:Nat} (h:n.natAbs≤4000) (e:lp .f64=B):Bd .f64 (12+B) (FloatKind.nearest .f64 n):=by
 obtain ⟨h1,h2⟩:=z3d .f64 (z9w (n:=n) (by omega))
 refine ⟨h1,?_⟩
 rw [h2,e]
 exact zlo (by omega)
theorem z17l {n:Int} (h:n.natAbs≤4000):Bd .f64 (12+1074) (FloatKind.nearest .f64 n):=z11g h lp64
theorem zfz (A:Nat):Bd .f64 A 0:=⟨zx _,by rw [z1m];exact Nat.zero_le _⟩
theorem zh4 {x y:Nat} (hx0:4503599627370496≤x) (hxy:x≤y) (hy:y<9218868437227405312):sv .f64 x≤sv .f64 y:=by
 have h1:=z8t hx0 (by omega) (by omega) hy
 rw [z5k (z4j (by omega)) (z4j hy),decide_eq_true hxy] at h1
 exact of_decide_eq_true h1
theorem zgh {x:Nat} (h0:4604930618986332160≤x) (h1:x<4609434218613702656):
  Bd .f64 1076 (fdiv .f64 (fsub .f64 x 4607182418800017408) (fadd .f64 x 4607182418800017408)):=by
 have hl:=zh4 (x:=4604930618986332160) (y:=x) (by decide) h0 (by omega)
 have hu:=zh4 (x:=x) (y:=4609434218613702656) (by omega) (by omega) (by decide)
 have el:(0:Int)≤sv .f64 4604930618986332160:=by decide+kernel
 have hxu:(sv .f64 x).natAbs≤(sv .f64 4609434218613702656).natAbs:=by omega
 have eu:(sv .f64 4609434218613702656).natAbs≤2 ^ 1075:=by decide+kernel
 have hx:Bd .f64 1075 x:=⟨z4j (by omega),Nat.le_trans hxu eu⟩
 have h1':Bd .f64 1075 4607182418800017408:=⟨by decide+kernel,by decide+kernel⟩
 have n1:=Bd.sub2 (T:=1024) hx h1' (z2i (by decide)) (by rw [fb64];decide)
 have d1:=Bd.add2 (T:=1024) hx h1' (z2i (by decide)) (by rw [fb64];decide)
 have hone:sv .f64 4607182418800017408=((2 ^ 1074:Nat):Int):=by decide+kernel
 have g:=z1dn (T:=1022) hx.1 h1'.1 d1.1 (by
  rw [hone,fb64,show 52+1022=1074 from rfl]
  exact z16w (by omega)) (by
  have e1:FloatKind.f64.format.infRung=2047*4503599627370496:=by decide
  have e2:FloatKind.f64.format.binade=4503599627370496:=by decide
  rw [e1,e2];decide)
 have q:=Bd.div (T:=1024) (B:=FloatKind.f64.format.fractionBits+1022) n1 d1.1 g (z2i (by decide)) (by rw [fb64,lp64];decide)
 exact q.1
theorem z17p {B:Nat} (e:lp .f64=B):Bd .f64 B 4607182418800017408:=by
 refine ⟨by decide+kernel,?_⟩
 rw [←e];decide+kernel
theorem zwr:Bd .f64 1074 4607182418800017408:=z17p lp64
theorem zey {x:Nat} (h0:4604930618986332160≤x) (h1:x<4609434218613702656):
  Bd .f64 1078 (fmul .f64 (fdiv .f64 (fsub .f64 x 4607182418800017408) (fadd .f64 x 4607182418800017408)) (fdiv .f64 (fsub .f64 x 4607182418800017408) (fadd .f64 x 4607182418800017408))):=by
 have q:=zgh h0 h1
 exact (Bd.mul (T:=1026) q q (z2i (by decide)) (by rw [fb64,lp64];decide)).1
theorem zk8 {u q A:Nat} {n:Int} (hu:Bd .f64 1078 u) (hn0:1≤n) (hn1:n≤36) (hq:Bd .f64 A q) (hA:1074≤A) (hA1:A≤1300):
  Bd .f64 (A+6) (fadd .f64 (fdiv .f64 4607182418800017408 (FloatKind.nearest .f64 n)) (fmul .f64 u q)):=by
 obtain ⟨hk,hk2,-⟩:=z12r hn0 hn1
 have d1:=(Bd.div (T:=1022) zwr hk hk2 (z2i (by decide)) (by rw [fb64,lp64];decide)).1
 rw [fb64] at d1
 have m1:=(Bd.mul (T:=A-48) hu hq (z2i (by omega)) (by rw [fb64,lp64];omega)).1
 rw [fb64] at m1
 have a1:=Bd.add2 (A:=A+4) (T:=A-46) (d1.mono (by omega)) (m1.mono (by omega)) (z2i (by omega)) (by rw [fb64];omega)
 rw [fb64] at a1
 exact a1.mono (by omega)
theorem zow {s q A:Nat} {e:Int} (hs:Bd .f64 1076 s) (hq:Bd .f64 A q) (hA:1074≤A) (hA1:A≤1160) (he:e.natAbs≤4000):
  zl (fadd .f64 (fmul .f64 4611686018427387904 (fmul .f64 s q)) (fmul .f64 (FloatKind.nearest .f64 e) 4604418534313441775))≠none:=by
 have two:Bd .f64 1075 4611686018427387904:=⟨by decide+kernel,by decide+kernel⟩
 have ln2:Bd .f64 1074 4604418534313441775:=⟨by decide+kernel,by decide+kernel⟩
 have m1:=(Bd.mul (T:=A-50) hs hq (z2i (by omega)) (by rw [fb64,lp64];omega)).1
 rw [fb64] at m1
 have m2:=(Bd.mul (T:=A-49) two m1 (z2i (by omega)) (by rw [fb64,lp64];omega)).1
 rw [fb64] at m2
 have m3:=(Bd.mul (T:=1034) (z17l he) ln2 (z2i (by decide)) (by rw [fb64,lp64];decide)).1
 rw [fb64] at m3
 have a1:=Bd.add2 (A:=A+12) (T:=A-39) (m2.mono (by omega)) (m3.mono (by omega)) (z2i (by omega)) (by rw [fb64];omega)
 rw [fb64] at a1
 exact z4k (a1.mono (by omega))
theorem zrx (x:Nat) (h:flt .f64 9218868437227405311 (zh x)=true):zl (zh x)≠none:=by
 cases hr:FloatKind.f32.decode x with
 | nan s t=>
  have e:zh x=qnan .f64:=by unfold zh;rw [hr]
  rw [e];decide+kernel
 | infinity s=>
  have e:zh x=FloatKind.f64.encode (.infinity s):=by unfold zh;rw [hr]
  rw [e];cases s<;>decide+kernel
 | number s m e=>
  exfalso
  have hf:fin .f32 x=true:=by
   have:FloatKind.f32.format.read x=.number s m e:=hr
   unfold fin;rw [this]
  have hw:=z8k hf
  have hm:fin .f64 9218868437227405311=true:=by decide+kernel
  have h':=h
  rw [z2g hm hw] at h'
  have h':=of_decide_eq_true h'
  have hz:(0:Int)≤sv .f64 9218868437227405311:=by decide+kernel
  have h2:flt .f64 0 (zh x)=true:=by
   rw [z2g (zx _) hw,z1m]
   exact decide_eq_true (Int.lt_of_le_of_lt hz h')
  have h3:=zh7 x hw h2
  rw [zbb (by decide) (by decide) h3.1 h3.2] at h
  have:=of_decide_eq_true h
  omega
theorem zl4 {x:Nat} {s:Bool} {m:Nat} {e:Int} (hr:FloatKind.f32.format.read x=.number s m e) (hm:m≠0):(sv .f64 (zh x)<0↔s=true)∧sv .f64 (zh x)≠0:=by
 have hd:FloatKind.f32.decode x=.number s m e:=hr
 have hfx:fin .f32 x=true:=by unfold fin;rw [hr]
 have e1:zh x=FloatKind.f64.format.nearest s m e:=by unfold zh;rw [hd];rfl
 have hw:=z8k hfx
 cases s with
 | false=>
  have hp:=zbz hd hm
  rw [e1]
  have h1:=zh4 (x:=4503599627370496) (by decide) hp.1 hp.2
  have h0:(0:Int)<sv .f64 4503599627370496:=by decide+kernel
  exact ⟨⟨fun h=>absurd (Int.lt_of_lt_of_le h0 h1) (by omega),fun h=>by cases h⟩,by omega⟩
 | true=>
  have e2:zh x=fneg .f64 (FloatKind.f64.format.nearest false m e):=by
   rw [e1]
   exact (zke (k:=.f64) (d:=.number false m e) rfl).symm
  obtain ⟨y,hy⟩:∃y,y=fneg .f32 x:=⟨_,rfl⟩
  have hry:FloatKind.f32.format.read y=.number false m e:=by rw [hy,za8 (z4z hfx),hr];rfl
  have hp:=zbz (x:=y) hry hm
  have hfp:=z4j hp.2
  have h1:=zh4 (x:=4503599627370496) (by decide) hp.1 hp.2
  have h0:(0:Int)<sv .f64 4503599627370496:=by decide+kernel
  rw [e2,zbd hfp]
  exact ⟨⟨fun _=>rfl,fun _=>by omega⟩,by omega⟩
theorem zcq (k:FloatKind) (s:Bool) (e:Int):k.format.nearest s 0 e=k.format.nearest s 0 k.format.leastPlace:=by unfold Ieee.Format.nearest;rfl
theorem zl1 (s:Bool):sv .f64 (FloatKind.f64.format.nearest s 0 FloatKind.f64.format.leastPlace)=0:=by cases s<;>decide+kernel
theorem zl5 {x:Nat} {s:Bool} {e:Int} (hr:FloatKind.f32.decode x=.number s 0 e):sv .f64 (zh x)=0:=by
 have e1:zh x=FloatKind.f64.format.nearest s 0 e:=by unfold zh;rw [hr];rfl
 rw [e1,zcq]
 exact zl1 s
theorem zxf {m n:Nat} (h:m≠0) (s:Bool):Ieee.signed s m n<0↔s=true:=by
 have:=zfm h (n:=n) s
 constructor
 ·intro h1;rw [←this];exact decide_eq_true h1
 ·intro h1;rw [h1] at this;exact of_decide_eq_true (h1 ▸ this)
theorem sv_lt {k:FloatKind} {x:Nat} {s:Bool} {m:Nat} {e:Int} (hr:k.format.read x=.number s m e) (hm:m≠0):sv k x<0↔s=true:=by
 unfold sv;rw [hr];exact zxf hm s
theorem zpv {x:Nat} (h:fin .f32 x=true):feq .f64 (zh x) 0=feq .f32 x 0:=by
 obtain ⟨s,m,e,hr⟩:=zu h
 rw [z7c (z8k h) (zx _),z7c h (zx _),z1m,z1m]
 by_cases hm:m=0
 ·subst hm
  rw [zl5 hr,(zl0 hr).2 rfl]
 ·rw [decide_eq_false (zl4 hr hm).2,decide_eq_false (fun h=>hm ((zl0 hr).1 h))]
theorem zpw {x:Nat} (h:fin .f32 x=true):flt .f64 (zh x) 0=flt .f32 x 0:=by
 obtain ⟨s,m,e,hr⟩:=zu h
 rw [z2g (z8k h) (zx _),z2g h (zx _),z1m,z1m]
 by_cases hm:m=0
 ·subst hm
  rw [zl5 hr,(zl0 hr).2 rfl]
 ·exact decide_eq_decide.2 ((zl4 hr hm).1.trans (sv_lt hr hm).symm)
theorem zde {x:Nat} (h:fin .f32 x=true):feq .f64 (zh x) (zh x)=true:=zok (z4z (z8k h))
end Go.Proofs.Ytbnplefohfamnaa.Ai
