/- Bounds of floats by powers of two. -/
import Derived.Test.YthheoefadijhdaaGreatFFnExactReadMarksFm
set_option linter.unusedVariables false
namespace Go.Proofs.YthheoefadijhdaaGreat.Ai
open Go

theorem z8x (s:Bool) (n d b:Nat) (h:n≤b*2 ^ d):Ieee.Toward.even.cut s n d≤b:=by
 unfold Ieee.Toward.cut
 simp only []
 have hg:1 <<< min d (n.log2+2)=2 ^ min d (n.log2+2):=by rw [Nat.shiftLeft_eq,Nat.one_mul]
 rw [hg]
 by_cases hd:d≤n.log2+2
 ·rw [Nat.min_eq_left hd]
  have hp:=Nat.two_pow_pos d
  generalize 2 ^ d=G at *
  have h1:=Nat.div_add_mod n G
  have h2:=Nat.mod_lt n hp
  by_cases hr:n % G=0
  ·rw [hr]
   have e:(decide (G<2*0) || G==2*0 && n / G % 2==1)=false:=by
    simp only [Nat.mul_zero,Nat.not_lt_zero,decide_false,Bool.false_or]
    rw [beq_eq_false_iff_ne.2 (by omega)];rfl
   rw [e]
   show n / G+0≤b
   rw [Nat.add_zero]
   have h3:n / G*G≤b*G:=by rw [Nat.mul_comm (n / G)];omega
   exact Nat.le_of_mul_le_mul_right h3 hp
  ·have h3:n / G*G<b*G:=by rw [Nat.mul_comm (n / G)];omega
   have h4:n / G<b:=Nat.lt_of_mul_lt_mul_right h3
   have h5:∀c:Bool,c.toNat≤1:=fun c=>by cases c<;>decide
   exact Nat.le_trans (Nat.add_le_add_left (h5 _) _) (by omega)
 ·rw [Nat.min_eq_right (by omega)]
  -- all of it goes
  have hn:n<2 ^ (n.log2+1):=Nat.lt_log2_self
  have e1:n / 2 ^ (n.log2+2)=0:=Nat.div_eq_of_lt (Nat.lt_of_lt_of_le hn (Nat.pow_le_pow_right (by decide) (by omega)))
  have e2:n % 2 ^ (n.log2+2)=n:=Nat.mod_eq_of_lt (Nat.lt_of_lt_of_le hn (Nat.pow_le_pow_right (by decide) (by omega)))
  have e3:2 ^ (n.log2+2)=2*2 ^ (n.log2+1):=by rw [Nat.pow_succ,Nat.mul_comm]
  rw [e1,e2]
  have e4:(decide (2 ^ (n.log2+2)<2*n) || 2 ^ (n.log2+2)==2*n && 0 % 2==1)=false:=by
   rw [decide_eq_false (by omega),beq_eq_false_iff_ne.2 (by omega)];rfl
  rw [e4]
  exact Nat.zero_le _
theorem zrk (k:FloatKind) (s:Bool) {m n T:Nat} {e:Int} (hm:m≤2 ^ n) (hT:(n:Int)+e≤k.format.leastPlace+k.format.fractionBits+T):
  ∃r,k.format.nearest s m e=k.format.word s r∧r≤(T+1)*k.format.binade∧r≤k.format.infRung:=by
 have hb:k.format.binade=2 ^ k.format.fractionBits:=rfl
 have hbp:0<k.format.binade:=Nat.two_pow_pos _
 unfold Ieee.Format.nearest
 by_cases h0:m=0
 ·rw [if_pos h0];exact ⟨0,rfl,Nat.zero_le _,Nat.zero_le _⟩
 ·rw [if_neg h0]
  refine ⟨_,rfl,Nat.le_trans (Nat.min_le_left _ _) ?_,Nat.min_le_right _ _⟩
  generalize hl:m.log2=L
  have hlo:2 ^ L≤m:=by rw [←hl];exact Nat.log2_self_le h0
  have hhi:m<2 ^ (L+1):=by rw [←hl];exact Nat.lt_log2_self
  have hLn:L≤n:=by
   have:=Nat.lt_of_lt_of_le (Nat.lt_of_le_of_lt hlo (Nat.lt_succ_of_le hm)) (Nat.le_refl _)
   apply Classical.byContradiction
   intro hc
   have h1:2 ^ (n+1)≤2 ^ L:=Nat.pow_le_pow_right (by decide) (by omega)
   have h2:2 ^ n<2 ^ (n+1):=Nat.pow_lt_pow_right (by decide) (by omega)
   omega
  generalize k.format.leastPlace=lp at *
  generalize k.format.fractionBits=fb at *
  generalize hlast:max (e+(L:Int)-(fb:Int)) lp=last
  have q1:lp≤last:=by omega
  have q2:e+(L:Int)-fb≤last:=by omega
  obtain ⟨Q,hQ⟩:∃Q:Nat,last=lp+Q:=⟨(last-lp).toNat,by omega⟩
  have eQ:(last-lp).toNat=Q:=by omega
  rw [eQ]
  -- the exact power, or below it
  by_cases hx:L=n
  ·-- m is the power itself
   have hme:m=2 ^ L:=by
    have:m≤2 ^ L:=by rw [hx];exact hm
    omega
   have hk:Ieee.Toward.even.cut s (m <<< (e-last).toNat) (last-e).toNat≤2 ^ (L+(e-last).toNat-(last-e).toNat):=by
    apply z8x
    rw [hme,Nat.shiftLeft_eq,←Nat.pow_add,←Nat.pow_add]
    exact Nat.pow_le_pow_right (by decide) (by omega)
   by_cases hy:e+(L:Int)-fb≤lp
   ·-- a subnormal number
    have hlast2:last=lp:=by omega
    have hQ0:Q=0:=by omega
    subst hQ0
    rw [Nat.zero_mul,Nat.zero_add]
    refine Nat.le_trans hk ?_
    rw [hb]
    refine Nat.le_trans (Nat.pow_le_pow_right (by decide) (show L+(e-last).toNat-(last-e).toNat≤fb by omega)) ?_
    exact Nat.le_mul_of_pos_left _ (by omega)
   ·have e5:L+(e-last).toNat-(last-e).toNat=fb:=by omega
    rw [e5,←hb] at hk
    have hQT:Q≤T:=by omega
    have:Q*k.format.binade≤T*k.format.binade:=Nat.mul_le_mul_right _ hQT
    rw [Nat.add_mul,Nat.one_mul]
    omega
  ·have hk:Ieee.Toward.even.cut s (m <<< (e-last).toNat) (last-e).toNat≤2 ^ (fb+1):=by
    apply z8x
    rw [Nat.shiftLeft_eq,←Nat.pow_add]
    have h1:m*2 ^ (e-last).toNat≤2 ^ (L+1)*2 ^ (e-last).toNat:=Nat.mul_le_mul_right _ (by omega)
    rw [←Nat.pow_add] at h1
    exact Nat.le_trans h1 (Nat.pow_le_pow_right (by decide) (by omega))
   by_cases hy:e+(L:Int)-fb≤lp
   ·have hlast2:last=lp:=by omega
    have hQ0:Q=0:=by omega
    subst hQ0
    rw [Nat.zero_mul,Nat.zero_add]
    by_cases hz:e+(L:Int)-fb+1≤lp
    ·-- below the least normal number
     have hk2:Ieee.Toward.even.cut s (m <<< (e-last).toNat) (last-e).toNat≤2 ^ fb:=by
      apply z8x
      rw [Nat.shiftLeft_eq,←Nat.pow_add]
      have h1:m*2 ^ (e-last).toNat≤2 ^ (L+1)*2 ^ (e-last).toNat:=Nat.mul_le_mul_right _ (by omega)
      rw [←Nat.pow_add] at h1
      exact Nat.le_trans h1 (Nat.pow_le_pow_right (by decide) (by omega))
     refine Nat.le_trans hk2 ?_
     rw [hb]
     exact Nat.le_mul_of_pos_left _ (by omega)
    ·have hT1:1≤T:=by omega
     refine Nat.le_trans hk ?_
     rw [Nat.pow_succ,←hb,Nat.mul_comm]
     exact Nat.mul_le_mul_right _ (by omega)
   ·have hQT:Q+1≤T:=by omega
    have h2:(Q+1+1)*k.format.binade≤(T+1)*k.format.binade:=Nat.mul_le_mul_right _ (by omega)
    rw [Nat.pow_succ,←hb] at hk
    rw [Nat.add_mul,Nat.add_mul,Nat.one_mul] at h2
    omega
theorem zs5 (k:FloatKind) (s:Bool) {r T:Nat} (h:r≤(T+1)*k.format.binade) (hT:(T+1)*k.format.binade<k.format.infRung):
  ∃m e,k.format.read (k.format.word s r)=.number s m e∧(sv k (k.format.word s r)).natAbs≤2 ^ (k.format.fractionBits+T):=by
 have hlt:=zpa k
 have hp:=zq7 k.format
 have hb:k.format.binade=2 ^ k.format.fractionBits:=rfl
 have hbp:0<k.format.binade:=Nat.two_pow_pos _
 by_cases h1:r<k.format.binade
 ·have hr:k.format.read (k.format.word s r)=.number s r k.format.leastPlace:=by
   have e:k.format.word s r % k.format.signWeight=r:=by
    unfold Ieee.Format.word
    split
    ·rw [Nat.add_mod_left];exact Nat.mod_eq_of_lt (by omega)
    ·exact Nat.mod_eq_of_lt (by omega)
   have e2:(k.format.word s r / k.format.signWeight % 2==1)=s:=by
    unfold Ieee.Format.word
    cases s
    ·rw [if_neg (by simp),Nat.div_eq_of_lt (by omega)];rfl
    ·rw [if_pos rfl,Nat.add_div_left _ hp,Nat.div_eq_of_lt (by omega)];rfl
   unfold Ieee.Format.read
   simp only [e,e2]
   rw [if_pos h1]
  refine ⟨_,_,hr,?_⟩
  unfold sv
  rw [hr]
  show (Ieee.signed s r _).natAbs≤_
  rw [z2v,Int.sub_self,Int.toNat_zero,Nat.shiftLeft_zero]
  refine Nat.le_trans (Nat.le_of_lt h1) ?_
  rw [hb];exact Nat.pow_le_pow_right (by decide) (by omega)
 ·obtain ⟨q,m,e1,a1,a2⟩:∃q m,r=q*k.format.binade+m∧k.format.binade≤m∧m<2*k.format.binade:=by
   refine ⟨r / k.format.binade-1,k.format.binade+r % k.format.binade,?_,by omega,by have:=Nat.mod_lt r hbp;omega⟩
   have hd:=Nat.div_add_mod r k.format.binade
   have hq:1≤r / k.format.binade:=Nat.div_pos (by omega) hbp
   obtain ⟨c,hc⟩:∃c,r / k.format.binade=c+1:=⟨r / k.format.binade-1,by omega⟩
   rw [hc] at hd ⊢
   rw [Nat.mul_add,Nat.mul_one,Nat.mul_comm] at hd
   show r=c*k.format.binade+(k.format.binade+r % k.format.binade)
   omega
  have hr:=zez k s m q a1 a2 (by omega)
  rw [←e1] at hr
  refine ⟨_,_,hr,?_⟩
  unfold sv
  rw [hr]
  show (Ieee.signed s m _).natAbs≤_
  rw [z2v,Nat.shiftLeft_eq,show (k.format.leastPlace+(q:Int)-k.format.leastPlace).toNat=q by omega]
  rw [e1] at h
  have hqT:q≤T:=by
   apply Classical.byContradiction
   intro hc
   have:(T+1)*k.format.binade≤q*k.format.binade:=Nat.mul_le_mul_right _ (by omega)
   omega
  by_cases hq:q=T
  ·have hm:m≤k.format.binade:=by
    rw [hq,Nat.add_mul,Nat.one_mul] at h;omega
   rw [Nat.pow_add,←hb,hq]
   exact Nat.mul_le_mul_right _ hm
  ·calc m*2 ^ q≤(2*k.format.binade)*2 ^ q:=Nat.mul_le_mul_right _ (by omega)
    _=2 ^ (k.format.fractionBits+(q+1)):=by rw [hb,Nat.pow_add,Nat.pow_succ 2 q,Nat.mul_comm 2,Nat.mul_assoc,Nat.mul_comm 2]
    _≤2 ^ (k.format.fractionBits+T):=Nat.pow_le_pow_right (by decide) (by omega)
def Bd (k:FloatKind) (A:Nat) (x:Nat):Prop:=fin k x=true∧(sv k x).natAbs≤2 ^ A
def top (k:FloatKind) (T:Nat):Prop:=(T+1)*k.format.binade<k.format.infRung
theorem Bd.near {k:FloatKind} {s:Bool} {m n T:Nat} {e:Int} (ht:top k T) (hm:m≤2 ^ n) (hT:(n:Int)+e≤k.format.leastPlace+k.format.fractionBits+T):
  Bd k (k.format.fractionBits+T) (k.format.nearest s m e)∧(k.format.read (k.format.nearest s m e)).neg=s:=by
 obtain ⟨r,e1,h1,h2⟩:=zrk k s hm hT
 obtain ⟨m',e',h3,h4⟩:=zs5 k s h1 ht
 rw [e1]
 exact ⟨⟨by unfold fin;rw [h3],h4⟩,by rw [h3];rfl⟩
theorem Bd.mono {k:FloatKind} {A B x:Nat} (h:Bd k A x) (hAB:A≤B):Bd k B x:=⟨h.1,Nat.le_trans h.2 (Nat.pow_le_pow_right (by decide) hAB)⟩
theorem Bd.out {k:FloatKind} {A x:Nat} (h:Bd k A x):∃(s:Bool) (m q:Nat),k.format.read x=.number s m (k.format.leastPlace+q)∧m*2 ^ q≤2 ^ A:=by
 obtain ⟨s,m,e,hr⟩:=z3c h.1
 have hp:=z2p hr
 have h2:=h.2
 unfold sv at h2
 rw [hr] at h2
 simp only [] at h2
 rw [z2v,Nat.shiftLeft_eq] at h2
 exact ⟨s,m,(e-k.format.leastPlace).toNat,by rw [hr];congr 1;omega,h2⟩
theorem z4o {m q A:Nat} (h:m*2 ^ q≤2 ^ A) (hq:q≤A):m≤2 ^ (A-q):=by
 have:2 ^ A=2 ^ (A-q)*2 ^ q:=by rw [←Nat.pow_add];congr 1;omega
 rw [this] at h
 exact Nat.le_of_mul_le_mul_right h (Nat.two_pow_pos q)
theorem z3n {m q A:Nat} (h:m*2 ^ q≤2 ^ A) (hq:A<q):m=0:=by
 apply Classical.byContradiction
 intro h0
 have h1:2 ^ q≤m*2 ^ q:=Nat.le_mul_of_pos_left _ (by omega)
 have h2:2 ^ A<2 ^ q:=Nat.pow_lt_pow_right (by decide) hq
 omega
theorem Bd.mul {k:FloatKind} {A B T x y:Nat} (hx:Bd k A x) (hy:Bd k B y) (ht:top k T) (hT:A+B≤lp k+(k.format.fractionBits+T)):
  Bd k (k.format.fractionBits+T) (fmul k x y)∧(k.format.read (fmul k x y)).neg=((k.format.read x).neg ^^ (k.format.read y).neg):=by
 obtain ⟨s,m,q,r1,b1⟩:=hx.out
 obtain ⟨t,n,p,r2,b2⟩:=hy.out
 rw [z13z r1 r2,r1,r2]
 show _∧_=(s ^^ t)
 by_cases hm:m=0
 ·rw [hm,Nat.zero_mul]
  have:k.format.nearest (s ^^ t) 0 (k.format.leastPlace+q+(k.format.leastPlace+p))=k.format.nearest (s ^^ t) 0 k.format.leastPlace:=rfl
  rw [this]
  exact Bd.near (n:=0) ht (Nat.zero_le _) (by omega)
 by_cases hn:n=0
 ·rw [hn,Nat.mul_zero]
  have:k.format.nearest (s ^^ t) 0 (k.format.leastPlace+q+(k.format.leastPlace+p))=k.format.nearest (s ^^ t) 0 k.format.leastPlace:=rfl
  rw [this]
  exact Bd.near (n:=0) ht (Nat.zero_le _) (by omega)
 have hq:q≤A:=by
  apply Classical.byContradiction
  intro hc;exact hm (z3n b1 (by omega))
 have hp:p≤B:=by
  apply Classical.byContradiction
  intro hc;exact hn (z3n b2 (by omega))
 refine Bd.near (n:=(A-q)+(B-p)) ht ?_ ?_
 ·rw [Nat.pow_add];exact Nat.mul_le_mul (z4o b1 hq) (z4o b2 hp)
 ·have e:=lp_eq k
  omega
theorem z1kz {k:FloatKind} {v:Int} {T:Nat} (ht:top k T) (h:v.natAbs≤2 ^ (k.format.fractionBits+T)):Bd k (k.format.fractionBits+T) (rnd k v)∧(k.format.read (rnd k v)).neg=decide (v<0):=
 Bd.near (n:=k.format.fractionBits+T) ht h (by omega)
theorem Bd.add {k:FloatKind} {x y T:Nat} (hx:fin k x=true) (hy:fin k y=true) (ht:top k T) (h:(sv k x+sv k y).natAbs≤2 ^ (k.format.fractionBits+T)):
  Bd k (k.format.fractionBits+T) (fadd k x y)∧(k.format.read (fadd k x y)).neg=if sv k x+sv k y=0 then ((k.format.read x).neg && (k.format.read y).neg) else decide (sv k x+sv k y<0):=by
 by_cases h0:sv k x+sv k y=0
 ·obtain ⟨s,m,i,h1⟩:=z3c hx
  obtain ⟨t,n,j,h2⟩:=z3c hy
  have e:sv k x+sv k y=(Ieee.signed s m (i-min i j).toNat+Ieee.signed t n (j-min i j).toNat)*2 ^ (min i j-k.format.leastPlace).toNat:=by
   unfold sv;rw [h1,h2];exact z1ae (z2p h1) (z2p h2)
  rw [h0] at e
  have hz:Ieee.signed s m (i-min i j).toNat+Ieee.signed t n (j-min i j).toNat=0:=by
   rcases Int.mul_eq_zero.1 e.symm with h | h
   ·exact h
   ·have hp:(0:Int)<2 ^ (min i j-k.format.leastPlace).toNat:=Int.pow_pos (by decide)
    omega
  have e2:fadd k x y=k.format.nearest (s && t) 0 k.format.leastPlace:=by
   unfold fadd Ieee.Format.add
   rw [h1,h2]
   simp only [Ieee.Datum.sum]
   rw [hz]
   rfl
  rw [e2,if_pos h0,h1,h2]
  exact Bd.near (n:=0) ht (Nat.zero_le _) (by omega)
 ·rw [z12y hx hy h0,if_neg h0]
  exact z1kz ht h
theorem Bd.div {k:FloatKind} {A B T x y:Nat} (hx:Bd k A x) (hy:fin k y=true) (hB:2 ^ B≤(sv k y).natAbs) (ht:top k T) (hT:A+lp k≤B+(k.format.fractionBits+T)):
  Bd k (k.format.fractionBits+T) (fdiv k x y)∧(k.format.read (fdiv k x y)).neg=((k.format.read x).neg ^^ (k.format.read y).neg):=by
 obtain ⟨s,m,q,r1,b1⟩:=hx.out
 obtain ⟨t,n,j,r2⟩:=z3c hy
 have hj:=z2p r2
 obtain ⟨p,rfl⟩:∃p:Nat,j=k.format.leastPlace+p:=⟨(j-k.format.leastPlace).toNat,by omega⟩
 unfold sv at hB
 rw [r2] at hB
 simp only [] at hB
 rw [z2v,Nat.shiftLeft_eq,show (k.format.leastPlace+(p:Int)-k.format.leastPlace).toNat=p by omega] at hB
 have hn:n≠0:=by
  intro h0
  rw [h0,Nat.zero_mul] at hB
  have:=Nat.two_pow_pos B
  omega
 generalize hd:k.format.fractionBits+2+n.log2-m.log2=d
 rw [zp1 r1 r2 hn hd,r1,r2]
 show _∧_=(s ^^ t)
 by_cases hm:m=0
 ·subst hm
  have e0:2*(0 <<< d / n)+(0 <<< d % n != 0).toNat=0:=by simp
  rw [e0]
  have:k.format.nearest (s ^^ t) 0 (k.format.leastPlace+(q:Int)-(k.format.leastPlace+(p:Int))-(d:Int)-1)=k.format.nearest (s ^^ t) 0 k.format.leastPlace:=rfl
  rw [this]
  exact Bd.near (n:=0) ht (Nat.zero_le _) (by omega)
 have hq:q≤A:=by
  apply Classical.byContradiction
  intro hc;exact hm (z3n b1 (by omega))
 have hmA:=z4o b1 hq
 -- the quotient is at least one
 have hnl:n<2 ^ (n.log2+1):=Nat.lt_log2_self
 have hml:2 ^ m.log2≤m:=Nat.log2_self_le hm
 have hge:n≤m <<< d:=by
  rw [Nat.shiftLeft_eq]
  have h1:2 ^ m.log2*2 ^ d≤m*2 ^ d:=Nat.mul_le_mul_right _ hml
  rw [←Nat.pow_add] at h1
  have h2:2 ^ (n.log2+1)≤2 ^ (m.log2+d):=Nat.pow_le_pow_right (by decide) (by omega)
  omega
 -- and at most a power
 have hup:m <<< d*2 ^ B≤n*2 ^ (A-q+d+p):=by
  rw [Nat.shiftLeft_eq]
  calc m*2 ^ d*2 ^ B≤2 ^ (A-q)*2 ^ d*(n*2 ^ p):=Nat.mul_le_mul (Nat.mul_le_mul_right _ hmA) hB
   _=n*2 ^ (A-q+d+p):=by rw [←Nat.pow_add,Nat.mul_left_comm,←Nat.pow_add]
 have hBle:B≤A-q+d+p:=by
  apply Classical.byContradiction
  intro hc
  have h1:2 ^ (A-q+d+p)<2 ^ B:=Nat.pow_lt_pow_right (by decide) (by omega)
  have h2:n*2 ^ (A-q+d+p)<m <<< d*2 ^ B:=by
   calc n*2 ^ (A-q+d+p)<n*2 ^ B:=Nat.mul_lt_mul_of_pos_left h1 (by omega)
    _≤m <<< d*2 ^ B:=Nat.mul_le_mul_right _ hge
  omega
 obtain ⟨c,hc⟩:∃c,A-q+d+p=B+c:=⟨A-q+d+p-B,by omega⟩
 have hup2:m <<< d≤n*2 ^ c:=by
  rw [hc,Nat.pow_add,←Nat.mul_assoc,Nat.mul_right_comm] at hup
  exact Nat.le_of_mul_le_mul_right hup (Nat.two_pow_pos B)
 have hmant:2*(m <<< d / n)+(m <<< d % n != 0).toNat≤2 ^ (c+1):=by
  have hdm:=Nat.div_add_mod (m <<< d) n
  rw [Nat.pow_succ]
  by_cases hr:m <<< d % n=0
  ·rw [hr,Nat.add_zero] at hdm
   have h3:n*(m <<< d / n)≤n*2 ^ c:=by rw [hdm];exact hup2
   have h4:=Nat.le_of_mul_le_mul_left h3 (by omega)
   rw [hr]
   show 2*(m <<< d / n)+0≤_
   omega
  ·have h3:n*(m <<< d / n)<n*2 ^ c:=by omega
   have h4:=Nat.lt_of_mul_lt_mul_left h3
   have h5:∀b:Bool,b.toNat≤1:=fun b=>by cases b<;>decide
   have h6:=h5 (m <<< d % n != 0)
   omega
 refine Bd.near ht hmant ?_
 have e:=lp_eq k
 omega
theorem zxz {x:Nat} (h:Bd .f64 1174 x):z1x x≠none:=by
 obtain ⟨s,m,q,hr,hb⟩:=h.out
 have e1:FloatKind.f64.format.leastPlace=-1074:=by decide
 rw [e1] at hr
 have hd:FloatKind.f64.decode x=.number s m (-1074+(q:Int)):=hr
 have key:(FloatKind.f32.decode (FloatKind.f32.encode (.number s m (-1074+(q:Int))))).isInfinity=false:=by
  have ht:top .f32 226:=by unfold top;decide
  have ep:FloatKind.f32.format.leastPlace+FloatKind.f32.format.fractionBits+(226:Nat)=100:=by decide
  by_cases hq:q≤1174
  ·have hm:=z4o hb hq
   have hT:((1174-q:Nat):Int)+(-1074+(q:Int))≤FloatKind.f32.format.leastPlace+FloatKind.f32.format.fractionBits+(226:Nat):=by clear hm hb;rw [ep];omega
   have:=(Bd.near (k:=.f32) (s:=s) ht hm hT).1.1
   obtain ⟨s',m',e',h3⟩:=z3c this
   show (FloatKind.f32.format.read (FloatKind.f32.format.nearest s m _)).isInfinity=false
   rw [h3];rfl
  ·have hm:=z3n hb (by omega)
   subst hm
   show (FloatKind.f32.format.read (FloatKind.f32.format.word s 0)).isInfinity=false
   cases s<;>decide+kernel
 unfold z1x
 rw [hd]
 simp only [key]
 simp
theorem top64 {T:Nat} (h:T≤2000):top .f64 T:=by
 unfold top
 have e1:FloatKind.f64.format.infRung=2047*4503599627370496:=by decide
 have e2:FloatKind.f64.format.binade=4503599627370496:=by decide
 rw [e1,e2];omega
theorem fb64:FloatKind.f64.format.fractionBits=52:=rfl
theorem Bd.add2 {k:FloatKind} {A T x y:Nat} (hx:Bd k A x) (hy:Bd k A y) (ht:top k T) (hT:A+1≤k.format.fractionBits+T):Bd k (k.format.fractionBits+T) (fadd k x y):=by
 refine (Bd.add hx.1 hy.1 ht ?_).1
 have h1:=hx.2
 have h2:=hy.2
 have h3:2 ^ (A+1)≤2 ^ (k.format.fractionBits+T):=Nat.pow_le_pow_right (by decide) hT
 rw [Nat.pow_succ] at h3
 omega
theorem Bd.neg {k:FloatKind} {A x:Nat} (h:Bd k A x):Bd k A (fneg k x):=⟨zx8 h.1,by rw [zz4 h.1,Int.natAbs_neg];exact h.2⟩
theorem z19q (s:Bool) (n d b:Nat) (h:b*2 ^ d≤n):b≤Ieee.Toward.even.cut s n d:=by
 unfold Ieee.Toward.cut
 simp only []
 have hg:1 <<< min d (n.log2+2)=2 ^ min d (n.log2+2):=by rw [Nat.shiftLeft_eq,Nat.one_mul]
 rw [hg]
 refine Nat.le_trans ?_ (Nat.le_add_right _ _)
 rw [Nat.le_div_iff_mul_le (Nat.two_pow_pos _)]
 exact Nat.le_trans (Nat.mul_le_mul_left _ (Nat.pow_le_pow_right (by decide) (Nat.min_le_left _ _))) h
theorem z1c0 (A:Nat):Bd .f64 A 0:=⟨zb7 _,by rw [znx];exact Nat.zero_le _⟩
theorem ze8 (k:FloatKind) (s:Bool) (e:Int):k.format.nearest s 0 e=k.format.nearest s 0 k.format.leastPlace:=by unfold Ieee.Format.nearest;rfl
end Go.Proofs.YthheoefadijhdaaGreat.Ai
