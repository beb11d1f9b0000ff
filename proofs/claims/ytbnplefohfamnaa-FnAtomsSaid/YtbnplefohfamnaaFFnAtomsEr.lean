/- Errors of rounding: how far a rounded number is from the exact one. -/
import Derived.Test.YtbnplefohfamnaaFFnAtomsPu
set_option linter.unusedVariables false
set_option linter.unusedSimpArgs false
namespace Go.Proofs.Ytbnplefohfamnaa.Ai
open Go

theorem rv_of (f:Ieee.Format):∀(T M:Nat),M≤2*f.binade→∃r,rv f r=M*2 ^ T∧r≤(T+2)*f.binade:=by
 have hbp:0<f.binade:=Nat.two_pow_pos _
 intro T
 induction T with
 | zero=>
  intro M hM
  by_cases h:M=2*f.binade
  ·have:=z8g f (M:=f.binade) (T:=1) (.inl (Nat.le_refl _)) (by omega)
   exact ⟨1*f.binade+f.binade,by rw [this,h];omega,by omega⟩
  ·have:=z8g f (M:=M) (T:=0) (.inr rfl) (by omega)
   exact ⟨0*f.binade+M,this,by omega⟩
 | succ T ih=>
  intro M hM
  by_cases h:M=2*f.binade
  ·have:=z8g f (M:=f.binade) (T:=T+2) (.inl (Nat.le_refl _)) (by omega)
   exact ⟨(T+2)*f.binade+f.binade,by rw [this,h,Nat.pow_succ 2 (T+1),Nat.mul_comm _ 2,Nat.mul_comm 2 f.binade,Nat.mul_assoc],by rw [show T+1+2=(T+2)+1 by omega,Nat.succ_mul (T+2)];exact Nat.le_refl _⟩
  ·by_cases h2:f.binade≤M
   ·have:=z8g f (M:=M) (T:=T+1) (.inl h2) (by omega)
    exact ⟨(T+1)*f.binade+M,this,by rw [Nat.add_mul (T+1) 2];omega⟩
   ·obtain ⟨r,h3,h4⟩:=ih (2*M) (by omega)
    exact ⟨r,by rw [h3,Nat.pow_succ,Nat.mul_comm 2 M,Nat.mul_assoc,Nat.mul_comm 2 (2 ^ T)],Nat.le_trans h4 (Nat.mul_le_mul_right _ (by omega))⟩
theorem z11z (f:Ieee.Format):rv f 0=0:=by unfold rv;rw [if_pos (show 0<f.binade from Nat.two_pow_pos _)]
theorem z6h (k:FloatKind) (s:Bool) {m T:Nat} {e:Int} (ht:(T+2)*k.format.binade<k.format.infRung)
  (h:m*2 ^ (e-k.format.leastPlace).toNat≤2*k.format.binade*2 ^ T*2 ^ (k.format.leastPlace-e).toNat):
  ∃r,k.format.nearest s m e=k.format.word s r∧r<k.format.infRung∧rv k.format r*2 ^ (k.format.leastPlace-e).toNat≤m*2 ^ (e-k.format.leastPlace).toNat+2 ^ T*2 ^ (k.format.leastPlace-e).toNat∧
   m*2 ^ (e-k.format.leastPlace).toNat≤rv k.format r*2 ^ (k.format.leastPlace-e).toNat+2 ^ T*2 ^ (k.format.leastPlace-e).toNat:=by
 have hB:=Nat.two_pow_pos (k.format.leastPlace-e).toNat
 have hT:=Nat.two_pow_pos T
 have low:∀M r:Nat,M≤2*k.format.binade→M≠0→rv k.format r=M*2 ^ T→r≤(T+2)*k.format.binade→M*2 ^ T*2 ^ (k.format.leastPlace-e).toNat≤m*2 ^ (e-k.format.leastPlace).toNat→∃r',k.format.nearest s m e=k.format.word s r'∧r≤r'∧r'≤k.format.infRung:=fun M r h1 h0 h2 h3 h4=>by
  refine zf2 k s ?_ (by omega) (by rw [h2];exact h4)
  rintro rfl
  rw [z11z] at h2
  have:=Nat.mul_pos (Nat.pos_of_ne_zero h0) hT
  omega
 have up:∀M r:Nat,rv k.format r=M*2 ^ T→m*2 ^ (e-k.format.leastPlace).toNat≤M*2 ^ T*2 ^ (k.format.leastPlace-e).toNat→∃r',k.format.nearest s m e=k.format.word s r'∧r'≤r∧r'≤k.format.infRung:=fun M r h2 h4=>zf3 k s (by rw [h2];exact h4)
 have same:∀r r':Nat,r≤k.format.infRung→r'≤k.format.infRung→k.format.word s r=k.format.word s r'→r=r':=fun r r' h1 h2 h3=>by
  have hlt:=zb4 k
  have e1:=(zad k.format s (show r<k.format.signWeight by omega)).1
  have e2:=(zad k.format s (show r'<k.format.signWeight by omega)).1
  rw [←e1,h3,e2]
 generalize hA:m*2 ^ (e-k.format.leastPlace).toNat=A at *
 generalize 2 ^ (k.format.leastPlace-e).toNat=B at *
 have hD:0<2 ^ T*B:=Nat.mul_pos hT hB
 have hdiv:=Nat.div_add_mod A (2 ^ T*B)
 have hmod:=Nat.mod_lt A hD
 generalize hM:A / (2 ^ T*B)=M at *
 have hM2:M≤2*k.format.binade:=by
  rw [←hM]
  refine Nat.div_le_of_le_mul ?_
  rw [Nat.mul_comm (2 ^ T*B),←Nat.mul_assoc];exact h
 have hlo:M*2 ^ T*B≤A:=by rw [Nat.mul_assoc,Nat.mul_comm M];omega
 have hhi:A<M*2 ^ T*B+2 ^ T*B:=by rw [Nat.mul_assoc M,Nat.mul_comm M];omega
 obtain ⟨rl,l1,l2⟩:=rv_of k.format T M hM2
 -- from above
 have hup:∃r',k.format.nearest s m e=k.format.word s r'∧r'≤(T+2)*k.format.binade∧r'≤k.format.infRung∧rv k.format r'*B≤A+2 ^ T*B:=by
  by_cases hm:M=2*k.format.binade
  ·obtain ⟨r',e1,e2,e3⟩:=up M rl l1 (by rw [hm];exact h)
   refine ⟨r',e1,by omega,e3,?_⟩
   have:=(rv_le k.format).1 e2
   rw [l1] at this
   have:=Nat.mul_le_mul_right B this
   omega
  ·obtain ⟨ru,u1,u2⟩:=rv_of k.format T (M+1) (by omega)
   obtain ⟨r',e1,e2,e3⟩:=up (M+1) ru u1 (by rw [Nat.succ_mul,Nat.add_mul];omega)
   refine ⟨r',e1,by omega,e3,?_⟩
   have:=(rv_le k.format).1 e2
   rw [u1,Nat.succ_mul] at this
   have:=Nat.mul_le_mul_right B this
   rw [Nat.add_mul] at this
   omega
 obtain ⟨r',e1,e2,e3,e4⟩:=hup
 refine ⟨r',e1,by omega,e4,?_⟩
 by_cases h0:M=0
 ·subst h0;omega
 ·obtain ⟨r2,f1,f2,f3⟩:=low M rl hM2 h0 l1 l2 hlo
  obtain rfl:=same r' r2 e3 f3 (e1.symm.trans f1)
  have:=(rv_le k.format).1 f2
  rw [l1] at this
  have:=Nat.mul_le_mul_right B this
  omega
theorem z6i (k:FloatKind) (s:Bool) {M T:Nat} (ht:(T+2)*k.format.binade<k.format.infRung) (hM:M≤2*k.format.binade):
  ∃r,k.format.nearest s (M*2 ^ T) k.format.leastPlace=k.format.word s r∧r<k.format.infRung∧rv k.format r=M*2 ^ T:=by
 obtain ⟨r,h1,h2⟩:=rv_of k.format T M hM
 have z:(k.format.leastPlace-k.format.leastPlace).toNat=0:=by omega
 obtain ⟨r1,a1,a2,a3⟩:=zf3 k s (m:=M*2 ^ T) (r:=r) (e:=k.format.leastPlace) (by rw [z,h1];exact Nat.le_refl _)
 by_cases h0:r=0
 ·subst h0
  obtain rfl:r1=0:=by omega
  exact ⟨0,a1,by omega,h1⟩
 ·obtain ⟨r2,b1,b2,b3⟩:=zf2 k s (m:=M*2 ^ T) (r:=r) (e:=k.format.leastPlace) h0 (by omega) (by rw [z,h1];exact Nat.le_refl _)
  have hlt:=zb4 k
  have e1:=(zad k.format s (show r1<k.format.signWeight by omega)).1
  have e2:=(zad k.format s (show r2<k.format.signWeight by omega)).1
  have:r1=r2:=by rw [←e1,a1.symm.trans b1,e2]
  obtain rfl:r1=r:=by omega
  exact ⟨r1,a1,by omega,h1⟩
theorem z9i (k:FloatKind) (s:Bool) {r:Nat} (h:r<k.format.infRung):fin k (k.format.word s r)=true∧sv k (k.format.word s r)=if s then -((rv k.format r:Nat):Int) else ((rv k.format r:Nat):Int):=by
 obtain ⟨M,T,h1,h2⟩:=z11v k s h
 refine ⟨by unfold fin;rw [h1],?_⟩
 unfold sv
 rw [h1,h2]
 simp only []
 rw [zq,show (k.format.leastPlace+(T:Int)-k.format.leastPlace).toNat=T by omega]
theorem z17x (k:FloatKind) {v:Int} {T:Nat} (ht:(T+2)*k.format.binade<k.format.infRung) (h:v.natAbs≤2*k.format.binade*2 ^ T):fin k (rnd k v)=true∧(sv k (rnd k v)-v).natAbs≤2 ^ T:=by
 have z:(k.format.leastPlace-k.format.leastPlace).toNat=0:=by omega
 obtain ⟨r,h1,h2,h3,h4⟩:=z6h k (decide (v<0)) (m:=v.natAbs) (e:=k.format.leastPlace) ht (by rw [z];simpa using h)
 rw [z] at h3 h4
 simp only [Nat.pow_zero,Nat.mul_one] at h3 h4
 unfold rnd
 rw [h1]
 obtain ⟨f1,f2⟩:=z9i k (decide (v<0)) h2
 refine ⟨f1,?_⟩
 rw [f2]
 by_cases hv:v<0
 ·rw [decide_eq_true hv];simp only [if_true];omega
 ·rw [decide_eq_false hv];simp only [Bool.false_eq_true,if_false];omega
theorem z13g (k:FloatKind) {u:Int} {T:Nat} (ht:(T+2)*k.format.binade<k.format.infRung) (h:u.natAbs≤2*k.format.binade):fin k (rnd k (u*2 ^ T))=true∧sv k (rnd k (u*2 ^ T))=u*2 ^ T:=by
 have hp:(0:Int)<2 ^ T:=Int.pow_pos (by decide)
 have e:(u*2 ^ T).natAbs=u.natAbs*2 ^ T:=by rw [Int.natAbs_mul,Int.natAbs_pow];rfl
 unfold rnd
 rw [e]
 obtain ⟨r,h1,h2,h3⟩:=z6i k (decide (u*2 ^ T<0)) ht h
 rw [h1]
 obtain ⟨f1,f2⟩:=z9i k (decide (u*2 ^ T<0)) h2
 refine ⟨f1,?_⟩
 rw [f2,h3,←e]
 by_cases hv:u*2 ^ T<0
 ·rw [decide_eq_true hv];simp only [if_true];omega
 ·rw [decide_eq_false hv];simp only [Bool.false_eq_true,if_false];omega
theorem zh5 (k:FloatKind) (s:Bool) (e:Int):fin k (k.format.nearest s 0 e)=true∧sv k (k.format.nearest s 0 e)=0:=by
 have e0:k.format.nearest s 0 e=k.format.nearest s (0*2 ^ 0) k.format.leastPlace:=by rw [zcq]
 rw [e0]
 obtain ⟨r,h1,h2,h3⟩:=z6i k s (M:=0) (T:=0) (by cases k<;>decide) (by omega)
 rw [h1]
 obtain ⟨f1,f2⟩:=z9i k s h2
 refine ⟨f1,?_⟩
 rw [f2,h3];cases s<;>simp
theorem zv7 {k:FloatKind} {x y:Nat} (hx:fin k x=true) (hy:fin k y=true) (h:sv k x+sv k y=0):fin k (fadd k x y)=true∧sv k (fadd k x y)=0:=by
 obtain ⟨s,m,i,h1⟩:=zu hx
 obtain ⟨t,n,j,h2⟩:=zu hy
 have p1:=z1l h1
 have p2:=z1l h2
 have e:sv k x+sv k y=(Ieee.signed s m (i-min i j).toNat+Ieee.signed t n (j-min i j).toNat)*2 ^ (min i j-k.format.leastPlace).toNat:=by
  unfold sv;rw [h1,h2];exact zxn p1 p2
 rw [e] at h
 have ha:Ieee.signed s m (i-min i j).toNat+Ieee.signed t n (j-min i j).toNat=0:=by
  have hp:(0:Int)<2 ^ (min i j-k.format.leastPlace).toNat:=Int.pow_pos (by decide)
  rcases Int.mul_eq_zero.1 h with h | h
  ·exact h
  ·omega
 unfold fadd Ieee.Format.add
 rw [h1,h2]
 simp only [Ieee.Datum.sum]
 rw [if_pos ha]
 simp only [Option.map_some,Option.getD_some,Ieee.Format.write,ha,Int.natAbs_zero]
 exact zh5 k _ _
theorem z14f {k:FloatKind} {x y T:Nat} (hx:fin k x=true) (hy:fin k y=true) (ht:(T+2)*k.format.binade<k.format.infRung) (h:(sv k x+sv k y).natAbs≤2*k.format.binade*2 ^ T):
  fin k (fadd k x y)=true∧(sv k (fadd k x y)-(sv k x+sv k y)).natAbs≤2 ^ T:=by
 by_cases h0:sv k x+sv k y=0
 ·obtain ⟨h1,h2⟩:=zv7 hx hy h0
  exact ⟨h1,by rw [h2,h0];exact Nat.zero_le _⟩
 ·rw [z9o hx hy h0];exact z17x k ht h
theorem z18m {k:FloatKind} {x y:Nat} (hy:fin k y=true):fsub k x y=fadd k x (fneg k y):=z6g (z4z hy)
theorem zx7 {m n d:Nat} (hn:n≠0):(2*(m <<< d / n)+(m <<< d % n != 0).toNat)*n≤2*(m*2 ^ d)+n∧2*(m*2 ^ d)≤(2*(m <<< d / n)+(m <<< d % n != 0).toNat)*n+n:=by
 rw [Nat.shiftLeft_eq]
 generalize m*2 ^ d=D
 have h1:=Nat.div_add_mod D n
 have h2:=Nat.mod_lt D (Nat.pos_of_ne_zero hn)
 have e:(2*(D / n)+(D % n != 0).toNat)*n=2*(n*(D / n))+(D % n != 0).toNat*n:=by rw [Nat.add_mul,Nat.mul_assoc,Nat.mul_comm (D / n)]
 rw [e]
 by_cases hr:D % n=0
 ·rw [hr] at h1 ⊢;simp;omega
 ·have:(D % n != 0)=true:=by simpa using hr
  rw [this];simp;omega
theorem z11t {f m n d:Nat} (hm:m≠0) (hn:n≠0) (hl:m.log2≤f+2+n.log2) (hd:f+2+n.log2-m.log2=d):2 ^ (f+2)≤2*(m <<< d / n)+(m <<< d % n != 0).toNat:=by
 have h1:2 ^ m.log2≤m:=Nat.log2_self_le hm
 have h2:n<2 ^ (n.log2+1):=Nat.lt_log2_self
 have h3:2 ^ (f+1)≤m <<< d / n:=by
  rw [Nat.le_div_iff_mul_le (Nat.pos_of_ne_zero hn),Nat.shiftLeft_eq]
  calc 2 ^ (f+1)*n≤2 ^ (f+1)*2 ^ (n.log2+1):=Nat.mul_le_mul_left _ (Nat.le_of_lt h2)
   _=2 ^ m.log2*2 ^ d:=by rw [←Nat.pow_add,←Nat.pow_add];congr 1;omega
   _≤m*2 ^ d:=Nat.mul_le_mul_right _ h1
 have:2 ^ (f+2)=2*2 ^ (f+1):=by rw [Nat.pow_succ 2 (f+1)];omega
 omega
theorem z14o {k:FloatKind} {x y T:Nat} (hx:fin k x=true) (hy:fin k y=true) (h0:sv k y≠0) (ht:(T+2)*k.format.binade<k.format.infRung)
  (h:(sv k x).natAbs*2 ^ (lp k)≤k.format.binade*2 ^ T*(sv k y).natAbs):
  fin k (fdiv k x y)=true∧(sv k (fdiv k x y)*sv k y-sv k x*2 ^ (lp k)).natAbs≤2*2 ^ T*(sv k y).natAbs:=by
 obtain ⟨s,m,i,r1⟩:=zu hx
 obtain ⟨t,n,j,r2⟩:=zu hy
 obtain ⟨p,rfl,hmn,hm2,_⟩:=z6d r1
 obtain ⟨q,rfl,hnn,hn2,_⟩:=z6d r2
 have sx:sv k x=Ieee.signed s m p:=by unfold sv;rw [r1];simp only [];rw [show (k.format.leastPlace+(p:Int)-k.format.leastPlace).toNat=p by omega]
 have sy:sv k y=Ieee.signed t n q:=by unfold sv;rw [r2];simp only [];rw [show (k.format.leastPlace+(q:Int)-k.format.leastPlace).toNat=q by omega]
 have ax:(sv k x).natAbs=m*2 ^ p:=by rw [sx,z1e,Nat.shiftLeft_eq]
 have ay:(sv k y).natAbs=n*2 ^ q:=by rw [sy,z1e,Nat.shiftLeft_eq]
 have hn:n≠0:=by rintro rfl;rw [sy,z6p.2 rfl] at h0;exact h0 rfl
 have hlp:k.format.leastPlace=-((lp k:Nat):Int):=by cases k<;>rfl
 generalize hd:k.format.fractionBits+2+n.log2-m.log2=d
 have hq:=zx7 (m:=m) (n:=n) (d:=d) hn
 have hbig:m≠0→4*k.format.binade≤2*(m <<< d / n)+(m <<< d % n != 0).toNat:=fun hm=>by
  have hb:k.format.binade=2 ^ k.format.fractionBits:=rfl
  have hml:m.log2≤k.format.fractionBits:=by
   have:m.log2<k.format.fractionBits+1:=(Nat.log2_lt hm).2 (by rw [Nat.pow_succ,←hb];omega)
   omega
  have:=z11t (f:=k.format.fractionBits) hm hn (by omega) hd
  rw [Nat.pow_add,←hb] at this
  omega
 have hz:m=0→2*(m <<< d / n)+(m <<< d % n != 0).toNat=0:=fun hm=>by subst hm;simp [Nat.shiftLeft_eq]
 rw [zg6 r1 r2 hn hd]
 generalize 2*(m <<< d / n)+(m <<< d % n != 0).toNat=Z at *
 rw [ax,ay] at h
 have e0:(k.format.leastPlace+(p:Int)-(k.format.leastPlace+(q:Int))-(d:Int)-1)=(p:Int)-q-d-1:=by omega
 rw [e0]
 obtain ⟨α,hα⟩:∃α:Nat,((p:Int)-q-d-1-k.format.leastPlace).toNat=α:=⟨_,rfl⟩
 obtain ⟨β,hβ⟩:∃β:Nat,(k.format.leastPlace-((p:Int)-q-d-1)).toNat=β:=⟨_,rfl⟩
 have hab:d+1+q+α=p+lp k+β:=by omega
 have hA:=Nat.two_pow_pos α
 have hB:=Nat.two_pow_pos β
 have hQ:=Nat.two_pow_pos q
 -- the quotient's last place is small
 have X:m*2 ^ p*2 ^ lp k*2 ^ β=m*2 ^ d*2*2 ^ q*2 ^ α:=by
  rw [Nat.mul_assoc,Nat.mul_assoc,←Nat.pow_add,←Nat.pow_add,Nat.mul_assoc (m*2 ^ d),Nat.mul_assoc (m*2 ^ d),Nat.mul_assoc m,show (2:Nat)*2 ^ q=2 ^ (q+1) by rw [Nat.pow_succ];omega,←Nat.pow_add,←Nat.pow_add]
  congr 2;omega
 have h2:Z*2 ^ α*(n*2 ^ q)≤m*2 ^ p*2 ^ lp k*2 ^ β+2 ^ α*(n*2 ^ q):=by
  rw [X]
  calc Z*2 ^ α*(n*2 ^ q)=Z*n*(2 ^ q*2 ^ α):=by simp only [Nat.mul_assoc,Nat.mul_comm,Nat.mul_left_comm]
   _≤(2*(m*2 ^ d)+n)*(2 ^ q*2 ^ α):=Nat.mul_le_mul_right _ hq.1
   _=m*2 ^ d*2*2 ^ q*2 ^ α+2 ^ α*(n*2 ^ q):=by rw [Nat.add_mul];simp only [Nat.mul_assoc,Nat.mul_comm,Nat.mul_left_comm]
 have h3:m*2 ^ p*2 ^ lp k*2 ^ β≤Z*2 ^ α*(n*2 ^ q)+2 ^ α*(n*2 ^ q):=by
  rw [X]
  calc m*2 ^ d*2*2 ^ q*2 ^ α=(2*(m*2 ^ d))*(2 ^ q*2 ^ α):=by simp only [Nat.mul_assoc,Nat.mul_comm,Nat.mul_left_comm]
   _≤(Z*n+n)*(2 ^ q*2 ^ α):=Nat.mul_le_mul_right _ hq.2
   _=Z*2 ^ α*(n*2 ^ q)+2 ^ α*(n*2 ^ q):=by rw [Nat.add_mul];simp only [Nat.mul_assoc,Nat.mul_comm,Nat.mul_left_comm]
 have hY:0<n*2 ^ q:=Nat.mul_pos (Nat.pos_of_ne_zero hn) hQ
 have h4:Z*2 ^ α≤k.format.binade*2 ^ T*2 ^ β+2 ^ α:=by
  have:Z*2 ^ α*(n*2 ^ q)≤(k.format.binade*2 ^ T*2 ^ β+2 ^ α)*(n*2 ^ q):=by
   refine Nat.le_trans h2 ?_
   rw [Nat.add_mul]
   refine Nat.add_le_add_right ?_ _
   calc m*2 ^ p*2 ^ lp k*2 ^ β≤k.format.binade*2 ^ T*(n*2 ^ q)*2 ^ β:=Nat.mul_le_mul_right _ h
    _=k.format.binade*2 ^ T*2 ^ β*(n*2 ^ q):=by simp only [Nat.mul_assoc,Nat.mul_comm,Nat.mul_left_comm]
  exact Nat.le_of_mul_le_mul_right this hY
 have hbp:0<k.format.binade:=Nat.two_pow_pos _
 have h5:m≠0→2 ^ α≤2 ^ T*2 ^ β:=fun hm=>by
  have hz4:=hbig hm
  have h6:4*k.format.binade*2 ^ α≤k.format.binade*(2 ^ T*2 ^ β)+2 ^ α:=by
   refine Nat.le_trans (Nat.mul_le_mul_right _ hz4) ?_
   rw [←Nat.mul_assoc];exact h4
  have h7:k.format.binade*2 ^ α≤k.format.binade*(2 ^ T*2 ^ β):=by
   have:2 ^ α≤k.format.binade*2 ^ α:=Nat.le_mul_of_pos_left _ hbp
   have e4:4*k.format.binade*2 ^ α=4*(k.format.binade*2 ^ α):=Nat.mul_assoc _ _ _
   omega
  exact Nat.le_of_mul_le_mul_left h7 hbp
 have hTB:2 ^ T*2 ^ β≤k.format.binade*2 ^ T*2 ^ β:=by rw [Nat.mul_assoc];exact Nat.le_mul_of_pos_left _ hbp
 obtain ⟨r,g1,g2,g3,g4⟩:=z6h k (s ^^ t) (m:=Z) (T:=T) (e:=(p:Int)-q-d-1) ht (by
  rw [hα,hβ]
  have e2:2*k.format.binade*2 ^ T*2 ^ β=k.format.binade*2 ^ T*2 ^ β+k.format.binade*2 ^ T*2 ^ β:=by rw [Nat.mul_assoc,Nat.mul_assoc,Nat.mul_assoc];omega
  by_cases hm:m=0
  ·rw [hz hm];omega
  ·have:=h5 hm;omega)
 rw [hα,hβ] at g3 g4
 rw [g1]
 obtain ⟨f1,f2⟩:=z9i k (s ^^ t) g2
 refine ⟨f1,?_⟩
 -- the sizes
 have hsz:rv k.format r*(n*2 ^ q)≤m*2 ^ p*2 ^ lp k+2*2 ^ T*(n*2 ^ q)∧m*2 ^ p*2 ^ lp k≤rv k.format r*(n*2 ^ q)+2*2 ^ T*(n*2 ^ q):=by
  have hsmall:m≠0→2 ^ α*(n*2 ^ q)≤2 ^ T*2 ^ β*(n*2 ^ q):=fun hm=>Nat.mul_le_mul_right _ (h5 hm)
  have a1:=Nat.mul_le_mul_right (n*2 ^ q) g3
  have a2:=Nat.mul_le_mul_right (n*2 ^ q) g4
  rw [Nat.add_mul] at a1 a2
  have c1:rv k.format r*2 ^ β*(n*2 ^ q)=rv k.format r*(n*2 ^ q)*2 ^ β:=by simp only [Nat.mul_assoc,Nat.mul_comm,Nat.mul_left_comm]
  have c2:2 ^ T*2 ^ β*(n*2 ^ q)=2 ^ T*(n*2 ^ q)*2 ^ β:=by simp only [Nat.mul_assoc,Nat.mul_comm,Nat.mul_left_comm]
  by_cases hm:m=0
  ·rw [hz hm,c2] at a1 a2
   rw [c1] at a1
   subst hm
   simp only [Nat.zero_mul,Nat.zero_add] at a1 ⊢
   have:=Nat.le_of_mul_le_mul_right a1 hB
   refine ⟨by rw [Nat.mul_assoc];omega,Nat.zero_le _⟩
  ·have a3:=hsmall hm
   rw [c2] at a1 a2 a3
   rw [c1] at a1 a2
   constructor
   ·apply Nat.le_of_mul_le_mul_right _ hB
    rw [Nat.add_mul,Nat.mul_assoc 2,Nat.mul_assoc 2];omega
   ·apply Nat.le_of_mul_le_mul_right _ hB
    rw [Nat.add_mul,Nat.mul_assoc 2,Nat.mul_assoc 2];omega
 rw [ay,f2,sx,sy,zq,zq]
 have hc:((2:Int) ^ lp k)=((2 ^ lp k:Nat):Int):=by simp
 rw [hc]
 generalize m*2 ^ p=X1 at *
 generalize n*2 ^ q=Y1 at *
 generalize rv k.format r=R at *
 generalize (2:Nat) ^ lp k=L at *
 have hRY:((R*Y1:Nat):Int)=(R:Int)*(Y1:Int):=by simp
 have hXL:((X1*L:Nat):Int)=(X1:Int)*(L:Int):=by simp
 generalize 2*2 ^ T*Y1=E at *
 obtain ⟨z1,z2⟩:=hsz
 cases s<;>cases t<;>simp [Int.neg_mul,Int.mul_neg]<;>rw [←hRY,←hXL]<;>omega
def pw (n:Nat):Int:=2 ^ n
theorem zx5 (n:Nat):pw n=((2 ^ n:Nat):Int):=by unfold pw;simp
def wq:Int:=pw 1050
def vl:FloatKind→Nat→Int
 | .f32,x=>sv .f32 x*pw 925
 | .f64,x=>sv .f64 x
theorem zxr {T:Nat} (h:T≤250):(T+2)*FloatKind.f32.format.binade<FloatKind.f32.format.infRung:=by show (T+2)*8388608<2139095040;omega
theorem zxs {T:Nat} (h:T≤2040):(T+2)*FloatKind.f64.format.binade<FloatKind.f64.format.infRung:=by show (T+2)*4503599627370496<9218868437227405312;omega
theorem z18s (k:FloatKind) (T:Nat):2*k.format.binade*2 ^ T=2 ^ (k.format.fractionBits+1+T):=by
 have hb:k.format.binade=2 ^ k.format.fractionBits:=rfl
 rw [hb,Nat.pow_add 2 (k.format.fractionBits+1),Nat.pow_succ,Nat.mul_comm 2]
theorem zdg (k:FloatKind) {n:Int} (h:n.natAbs≤8388608):fin k (k.nearest n)=true∧sv k (k.nearest n)=n*2 ^ lp k:=by
 have e:k.nearest n=rnd k (n*2 ^ lp k):=by
  have hp:(0:Int)<2 ^ lp k:=Int.pow_pos (by decide)
  rw [z2m]
  unfold rnd Ieee.Format.write
  simp only []
  rw [z7r k _ _ (by cases k<;>decide),Nat.shiftLeft_eq]
  have e1:decide (n*2 ^ lp k<0)=decide (n<0):=by
   by_cases c:n<0
   ·rw [decide_eq_true c,decide_eq_true (Int.mul_neg_of_neg_of_pos c hp)]
   ·rw [decide_eq_false c,decide_eq_false]
    have:=Int.mul_nonneg (by omega:0≤n) (by omega:(0:Int)≤2 ^ lp k)
    omega
  rw [e1,Int.natAbs_mul]
  congr 2
  rw [Int.natAbs_pow]
  show 2 ^ _=2 ^ _
  congr 1
  cases k<;>rfl
 rw [e]
 cases k
 ·exact z13g .f32 (zxr (by decide)) (by show _≤2*8388608;omega)
 ·exact z13g .f64 (zxs (by decide)) (by show _≤2*4503599627370496;omega)
theorem zn1 {x:Nat} (h:fin .f32 x=true):fin .f64 (zh x)=true∧vl .f64 (zh x)=vl .f32 x:=by
 obtain ⟨s,m,e,hr⟩:=zu h
 obtain ⟨q,rfl,h1,h2,h3⟩:=z6d hr
 have hd:FloatKind.f32.decode x=.number s m (FloatKind.f32.format.leastPlace+q):=hr
 have hw:zh x=FloatKind.f64.format.nearest s m (FloatKind.f32.format.leastPlace+q):=by unfold zh;rw [hd];rfl
 have hq:q≤254:=by
  have h3':q*8388608+m<2139095040:=h3
  omega
 have h2':m<2*8388608:=h2
 have el:(FloatKind.f32.format.leastPlace+(q:Int)-FloatKind.f64.format.leastPlace).toNat=q+925:=by rw [l32,l64];omega
 rw [hw,z7r .f64 s m (by rw [l32,l64];omega),el,Nat.shiftLeft_eq]
 obtain ⟨r,g1,g2,g3⟩:=z6i .f64 s (M:=m) (T:=q+925) (zxs (by omega)) (by show m≤2*4503599627370496;omega)
 rw [g1]
 obtain ⟨f1,f2⟩:=z9i .f64 s g2
 refine ⟨f1,?_⟩
 show sv .f64 _=sv .f32 x*pw 925
 rw [f2,g3]
 unfold sv
 rw [hr]
 simp only []
 rw [zq,show (FloatKind.f32.format.leastPlace+(q:Int)-FloatKind.f32.format.leastPlace).toNat=q by omega,zx5,Nat.pow_add,←Nat.mul_assoc]
 generalize (2:Nat) ^ 925=D
 cases s
 ·simp
 ·simp;rw [Int.neg_mul]
theorem z17g {k:FloatKind} {x y T:Nat} (hx:fin k x=true) (hy:fin k y=true) (ht:(T+2)*k.format.binade<k.format.infRung)
  (h:(sv k x).natAbs*(sv k y).natAbs≤2*k.format.binade*2 ^ T*2 ^ (lp k)):
  fin k (fmul k x y)=true∧(sv k (fmul k x y)*2 ^ (lp k)-sv k x*sv k y).natAbs≤2 ^ T*2 ^ (lp k):=by
 obtain ⟨s,m,i,r1⟩:=zu hx
 obtain ⟨t,n,j,r2⟩:=zu hy
 obtain ⟨p,rfl,hmn,hm2,_⟩:=z6d r1
 obtain ⟨q,rfl,hnn,hn2,_⟩:=z6d r2
 have sx:sv k x=Ieee.signed s m p:=by unfold sv;rw [r1];simp only [];rw [show (k.format.leastPlace+(p:Int)-k.format.leastPlace).toNat=p by omega]
 have sy:sv k y=Ieee.signed t n q:=by unfold sv;rw [r2];simp only [];rw [show (k.format.leastPlace+(q:Int)-k.format.leastPlace).toNat=q by omega]
 have ax:(sv k x).natAbs=m*2 ^ p:=by rw [sx,z1e,Nat.shiftLeft_eq]
 have ay:(sv k y).natAbs=n*2 ^ q:=by rw [sy,z1e,Nat.shiftLeft_eq]
 have hlp:k.format.leastPlace=-((lp k:Nat):Int):=by cases k<;>rfl
 rw [zga r1 r2]
 rw [ax,ay] at h
 have e0:(k.format.leastPlace+(p:Int)+(k.format.leastPlace+(q:Int)))=k.format.leastPlace+((p:Int)+q-lp k):=by omega
 rw [e0]
 obtain ⟨α,hα⟩:∃α:Nat,(k.format.leastPlace+((p:Int)+q-lp k)-k.format.leastPlace).toNat=α:=⟨_,rfl⟩
 obtain ⟨β,hβ⟩:∃β:Nat,(k.format.leastPlace-(k.format.leastPlace+((p:Int)+q-lp k))).toNat=β:=⟨_,rfl⟩
 have hab:α+lp k=p+q+β:=by omega
 have hL:=Nat.two_pow_pos (lp k)
 have hB:=Nat.two_pow_pos β
 have X:m*n*2 ^ α*2 ^ lp k=m*2 ^ p*(n*2 ^ q)*2 ^ β:=by
  rw [Nat.mul_assoc (m*n),←Nat.pow_add,hab,Nat.pow_add,Nat.pow_add]
  simp only [Nat.mul_assoc,Nat.mul_comm,Nat.mul_left_comm]
 obtain ⟨r,g1,g2,g3,g4⟩:=z6h k (s ^^ t) (m:=m*n) (T:=T) (e:=k.format.leastPlace+((p:Int)+q-lp k)) ht (by
  rw [hα,hβ]
  apply Nat.le_of_mul_le_mul_right _ hL
  rw [X]
  calc m*2 ^ p*(n*2 ^ q)*2 ^ β≤2*k.format.binade*2 ^ T*2 ^ lp k*2 ^ β:=Nat.mul_le_mul_right _ h
   _=2*k.format.binade*2 ^ T*2 ^ β*2 ^ lp k:=by simp only [Nat.mul_assoc,Nat.mul_comm,Nat.mul_left_comm])
 rw [hα,hβ] at g3 g4
 rw [g1]
 obtain ⟨f1,f2⟩:=z9i k (s ^^ t) g2
 refine ⟨f1,?_⟩
 have hsz:rv k.format r*2 ^ lp k≤m*2 ^ p*(n*2 ^ q)+2 ^ T*2 ^ lp k∧m*2 ^ p*(n*2 ^ q)≤rv k.format r*2 ^ lp k+2 ^ T*2 ^ lp k:=by
  have a1:=Nat.mul_le_mul_right (2 ^ lp k) g3
  have a2:=Nat.mul_le_mul_right (2 ^ lp k) g4
  rw [Nat.add_mul,X] at a1 a2
  have c1:rv k.format r*2 ^ β*2 ^ lp k=rv k.format r*2 ^ lp k*2 ^ β:=by simp only [Nat.mul_assoc,Nat.mul_comm,Nat.mul_left_comm]
  have c2:2 ^ T*2 ^ β*2 ^ lp k=2 ^ T*2 ^ lp k*2 ^ β:=by simp only [Nat.mul_assoc,Nat.mul_comm,Nat.mul_left_comm]
  rw [c1,c2] at a1
  rw [c1,c2] at a2
  constructor
  ·apply Nat.le_of_mul_le_mul_right _ hB
   rw [Nat.add_mul];exact a1
  ·apply Nat.le_of_mul_le_mul_right _ hB
   rw [Nat.add_mul];exact a2
 rw [f2,sx,sy,zq,zq]
 have hc:((2:Int) ^ lp k)=((2 ^ lp k:Nat):Int):=by simp
 rw [hc]
 generalize m*2 ^ p=X1 at *
 generalize n*2 ^ q=Y1 at *
 generalize rv k.format r=R at *
 generalize (2:Nat) ^ lp k=L at *
 have hRY:((R*L:Nat):Int)=(R:Int)*(L:Int):=by simp
 have hXL:((X1*Y1:Nat):Int)=(X1:Int)*(Y1:Int):=by simp
 generalize 2 ^ T*L=E at *
 obtain ⟨z1,z2⟩:=hsz
 cases s<;>cases t<;>simp [Int.neg_mul,Int.mul_neg]<;>rw [←hRY,←hXL]<;>omega
end Go.Proofs.Ytbnplefohfamnaa.Ai
