/- Rounding keeps the order against a number that the format has. -/
import Derived.Test.YtbnplefohfamnaaFFnAtomsPh
set_option linter.unusedVariables false
namespace Go.Proofs.Ytbnplefohfamnaa.Ai
open Go
theorem z17n (k:FloatKind) (s:Bool) {m M T:Nat} {e:Int} (hM:k.format.binade≤M∨T=0) (hM2:M<2*k.format.binade)
  (h:m*2 ^ (e-(k.format.leastPlace+T)).toNat≤M*2 ^ (k.format.leastPlace+T-e).toNat):
  ∃r,k.format.nearest s m e=k.format.word s r∧r≤T*k.format.binade+M∧r≤k.format.infRung:=by
 have hb:k.format.binade=2 ^ k.format.fractionBits:=rfl
 have hbp:0<k.format.binade:=Nat.two_pow_pos _
 unfold Ieee.Format.nearest
 by_cases h0:m=0
 ·rw [if_pos h0];exact ⟨0,rfl,Nat.zero_le _,Nat.zero_le _⟩
 ·rw [if_neg h0]
  refine ⟨_,rfl,Nat.le_trans (Nat.min_le_left _ _) ?_,Nat.min_le_right _ _⟩
  generalize hl:m.log2=L
  have hlo:2 ^ L≤m:=by rw [←hl];exact Nat.log2_self_le h0
  have hhi:m<2 ^ (L+1):=by rw [←hl];exact Nat.lt_log2_self
  generalize k.format.leastPlace=lp at *
  rw [hb] at hM hM2 ⊢
  generalize k.format.fractionBits=fb at *
  have hexp:L+(e-(lp+T)).toNat≤fb+(lp+T-e).toNat:=by
   have h1:2 ^ (L+(e-(lp+T)).toNat)<2 ^ (fb+1+(lp+T-e).toNat):=by
    calc 2 ^ (L+(e-(lp+T)).toNat)=2 ^ L*2 ^ (e-(lp+T)).toNat:=Nat.pow_add _ _ _
     _≤m*2 ^ (e-(lp+T)).toNat:=Nat.mul_le_mul_right _ hlo
     _≤M*2 ^ (lp+T-e).toNat:=h
     _<(2*2 ^ fb)*2 ^ (lp+T-e).toNat:=Nat.mul_lt_mul_of_pos_right hM2 (Nat.two_pow_pos _)
     _=2 ^ (fb+1+(lp+T-e).toNat):=by rw [Nat.pow_add,Nat.pow_succ,Nat.mul_comm 2]
   have:=(Nat.pow_lt_pow_iff_right (by decide:1<2)).1 h1
   omega
  generalize hlast:max (e+(L:Int)-(fb:Int)) lp=last
  obtain ⟨Q,hQ⟩:∃Q:Nat,last=lp+Q:=⟨(last-lp).toNat,by omega⟩
  have eQ:(last-lp).toNat=Q:=by omega
  rw [eQ]
  have hQT:Q≤T:=by omega
  by_cases hq:Q=T
  ·subst hq
   rw [hQ]
   have hk:Ieee.Toward.even.cut s (m <<< (e-(lp+Q)).toNat) (lp+Q-e).toNat≤M:=by
    apply z7b
    rw [Nat.shiftLeft_eq];exact h
   omega
  ·have hk:Ieee.Toward.even.cut s (m <<< (e-last).toNat) (last-e).toNat≤2 ^ (fb+1):=by
    apply z7b
    rw [Nat.shiftLeft_eq,←Nat.pow_add]
    have h1:m*2 ^ (e-last).toNat≤2 ^ (L+1)*2 ^ (e-last).toNat:=Nat.mul_le_mul_right _ (by omega)
    rw [←Nat.pow_add] at h1
    exact Nat.le_trans h1 (Nat.pow_le_pow_right (by decide) (by omega))
   have h2:(Q+1)*2 ^ fb≤T*2 ^ fb:=Nat.mul_le_mul_right _ (by omega)
   rw [Nat.add_mul,Nat.one_mul] at h2
   rw [Nat.pow_succ] at hk
   rcases hM with hM | hM
   ·omega
   ·omega
theorem z17m (k:FloatKind) (s:Bool) {m M T:Nat} {e:Int} (hM:k.format.binade≤M∨T=0) (hM0:M≠0) (hM2:M<2*k.format.binade) (ht:T*k.format.binade+M≤k.format.infRung)
  (h:M*2 ^ (k.format.leastPlace+T-e).toNat≤m*2 ^ (e-(k.format.leastPlace+T)).toNat):
  ∃r,k.format.nearest s m e=k.format.word s r∧T*k.format.binade+M≤r∧r≤k.format.infRung:=by
 have hb:k.format.binade=2 ^ k.format.fractionBits:=rfl
 have hbp:0<k.format.binade:=Nat.two_pow_pos _
 have h0:m≠0:=by
  rintro rfl
  rw [Nat.zero_mul] at h
  have:=Nat.mul_pos (Nat.pos_of_ne_zero hM0) (Nat.two_pow_pos (k.format.leastPlace+T-e).toNat)
  omega
 unfold Ieee.Format.nearest
 rw [if_neg h0]
 refine ⟨_,rfl,Nat.le_min.2 ⟨?_,ht⟩,Nat.min_le_right _ _⟩
 generalize hl:m.log2=L
 have hlo:2 ^ L≤m:=by rw [←hl];exact Nat.log2_self_le h0
 have hhi:m<2 ^ (L+1):=by rw [←hl];exact Nat.lt_log2_self
 generalize k.format.leastPlace=lp at *
 rw [hb] at hM hM2 ⊢
 generalize k.format.fractionBits=fb at *
 clear ht
 generalize hlast:max (e+(L:Int)-(fb:Int)) lp=last
 obtain ⟨Q,hQ⟩:∃Q:Nat,last=lp+Q:=⟨(last-lp).toNat,by omega⟩
 have eQ:(last-lp).toNat=Q:=by omega
 rw [eQ]
 have hTQ:T≤Q:=by
  rcases hM with hM | hM
  ·have h1:2 ^ (fb+(lp+T-e).toNat)<2 ^ (L+1+(e-(lp+T)).toNat):=by
    calc 2 ^ (fb+(lp+T-e).toNat)=2 ^ fb*2 ^ (lp+T-e).toNat:=Nat.pow_add _ _ _
     _≤M*2 ^ (lp+T-e).toNat:=Nat.mul_le_mul_right _ hM
     _≤m*2 ^ (e-(lp+T)).toNat:=h
     _<2 ^ (L+1)*2 ^ (e-(lp+T)).toNat:=Nat.mul_lt_mul_of_pos_right hhi (Nat.two_pow_pos _)
     _=2 ^ (L+1+(e-(lp+T)).toNat):=(Nat.pow_add _ _ _).symm
   have:=(Nat.pow_lt_pow_iff_right (by decide:1<2)).1 h1
   omega
  ·omega
 by_cases hq:Q=T
 ·subst hq
  rw [hQ]
  have hk:M≤Ieee.Toward.even.cut s (m <<< (e-(lp+Q)).toNat) (lp+Q-e).toNat:=by
   apply zuj
   rw [Nat.shiftLeft_eq];exact h
  omega
 ·have hlast2:last=e+(L:Int)-fb:=by omega
  have hk:2 ^ fb≤Ieee.Toward.even.cut s (m <<< (e-last).toNat) (last-e).toNat:=by
   apply zuj
   rw [Nat.shiftLeft_eq,←Nat.pow_add]
   refine Nat.le_trans ?_ (Nat.mul_le_mul_right _ hlo)
   rw [←Nat.pow_add]
   exact Nat.pow_le_pow_right (by decide) (by omega)
  have h2:(T+1)*2 ^ fb≤Q*2 ^ fb:=Nat.mul_le_mul_right _ (by omega)
  rw [Nat.add_mul,Nat.one_mul] at h2
  omega

def rv (f:Ieee.Format) (r:Nat):Nat:=if r<f.binade then r else (f.binade+r % f.binade)*2 ^ (r / f.binade-1)
theorem z8f (f:Ieee.Format) (r:Nat):∃M T:Nat,r=T*f.binade+M∧(f.binade≤M∨T=0)∧M<2*f.binade∧rv f r=M*2 ^ T:=by
 have hbp:0<f.binade:=Nat.two_pow_pos _
 unfold rv
 by_cases h:r<f.binade
 ·exact ⟨r,0,by omega,.inr rfl,by omega,by rw [if_pos h,Nat.pow_zero,Nat.mul_one]⟩
 ·have h1:=Nat.div_add_mod r f.binade
  have h2:=Nat.mod_lt r hbp
  have h3:1≤r / f.binade:=(Nat.le_div_iff_mul_le hbp).2 (by omega)
  obtain ⟨c,hc⟩:∃c,r / f.binade=c+1:=⟨r / f.binade-1,by omega⟩
  refine ⟨f.binade+r % f.binade,r / f.binade-1,?_,.inl (Nat.le_add_right _ _),by omega,by rw [if_neg h]⟩
  rw [hc,Nat.add_sub_cancel]
  rw [hc,Nat.mul_add,Nat.mul_one,Nat.mul_comm] at h1
  omega
theorem z8g (f:Ieee.Format) {M T:Nat} (h:f.binade≤M∨T=0) (h2:M<2*f.binade):rv f (T*f.binade+M)=M*2 ^ T:=by
 have hbp:0<f.binade:=Nat.two_pow_pos _
 unfold rv
 by_cases hm:f.binade≤M
 ·obtain ⟨c,rfl⟩:∃c,M=f.binade+c:=⟨M-f.binade,by omega⟩
  have e:T*f.binade+(f.binade+c)=c+f.binade*(T+1):=by rw [Nat.mul_add,Nat.mul_one,Nat.mul_comm f.binade T];omega
  rw [if_neg (by rw [e,Nat.mul_add,Nat.mul_one];omega),e,Nat.add_mul_mod_self_left,Nat.mod_eq_of_lt (by omega),Nat.add_mul_div_left _ _ hbp,Nat.div_eq_of_lt (by omega),Nat.zero_add,Nat.add_sub_cancel]
 ·obtain rfl:T=0:=h.resolve_left hm
  rw [Nat.zero_mul,Nat.zero_add,if_pos (by omega),Nat.pow_zero,Nat.mul_one]
theorem zxc (f:Ieee.Format) (r:Nat):rv f r<rv f (r+1):=by
 have hbp:0<f.binade:=Nat.two_pow_pos _
 obtain ⟨M,T,hr,hM,hM2,hv⟩:=z8f f r
 rw [hv]
 by_cases hlast:M+1<2*f.binade
 ·have hs:f.binade≤M+1∨T=0:=hM.imp (fun h=>by omega) id
  have:=z8g f hs hlast
  rw [←Nat.add_assoc,←hr] at this
  rw [this]
  exact Nat.mul_lt_mul_of_pos_right (by omega) (Nat.two_pow_pos _)
 ·have:=z8g f (M:=f.binade) (T:=T+1) (.inl (Nat.le_refl _)) (by omega)
  rw [show (T+1)*f.binade+f.binade=r+1 by rw [Nat.add_mul,Nat.one_mul,hr];omega] at this
  rw [this,Nat.pow_succ,Nat.mul_comm (2 ^ T) 2,←Nat.mul_assoc]
  exact Nat.mul_lt_mul_of_pos_right (by omega) (Nat.two_pow_pos _)
theorem rv_lt (f:Ieee.Format) {a b:Nat} (h:a<b):rv f a<rv f b:=by
 induction b with
 | zero=>omega
 | succ b ih=>
  by_cases hb:a<b
  ·exact Nat.lt_trans (ih hb) (zxc f b)
  ·obtain rfl:a=b:=by omega
   exact zxc f a
theorem rv_le (f:Ieee.Format) {a b:Nat}:a≤b↔rv f a≤rv f b:=by
 constructor
 ·intro h
  by_cases e:a=b
  ·subst e;exact Nat.le_refl _
  ·exact Nat.le_of_lt (rv_lt f (by omega))
 ·intro h
  by_cases c:a≤b
  ·exact c
  ·have:=rv_lt f (show b<a by omega);omega
theorem zjc {m M T:Nat} {lp e:Int}:m*2 ^ (e-lp).toNat≤(M*2 ^ T)*2 ^ (lp-e).toNat↔m*2 ^ (e-(lp+T)).toNat≤M*2 ^ (lp+T-e).toNat:=by
 by_cases h1:lp+T≤e
 ·obtain ⟨c,hc⟩:∃c:Nat,e=lp+T+c:=⟨(e-(lp+T)).toNat,by omega⟩
  rw [show (e-lp).toNat=c+T by omega,show (lp-e).toNat=0 by omega,show (e-(lp+T)).toNat=c by omega,show (lp+T-e).toNat=0 by omega,Nat.pow_add,Nat.pow_zero,Nat.mul_one,Nat.mul_one,←Nat.mul_assoc]
  exact Nat.mul_le_mul_right_iff (Nat.two_pow_pos T)
 ·by_cases h2:lp≤e
  ·obtain ⟨c,hc⟩:∃c:Nat,e=lp+c:=⟨(e-lp).toNat,by omega⟩
   obtain ⟨d,hd⟩:∃d:Nat,T=d+c:=⟨T-c,by omega⟩
   rw [show (e-lp).toNat=c by omega,show (lp-e).toNat=0 by omega,show (e-(lp+T)).toNat=0 by omega,show (lp+T-e).toNat=d by omega,hd,Nat.pow_add,Nat.pow_zero,Nat.mul_one,Nat.mul_one,←Nat.mul_assoc]
   exact Nat.mul_le_mul_right_iff (Nat.two_pow_pos c)
  ·obtain ⟨c,hc⟩:∃c:Nat,lp=e+c:=⟨(lp-e).toNat,by omega⟩
   rw [show (e-lp).toNat=0 by omega,show (lp-e).toNat=c by omega,show (e-(lp+T)).toNat=0 by omega,show (lp+T-e).toNat=T+c by omega,Nat.pow_add,←Nat.mul_assoc]
theorem zjb {m M T:Nat} {lp e:Int}:(M*2 ^ T)*2 ^ (lp-e).toNat≤m*2 ^ (e-lp).toNat↔M*2 ^ (lp+T-e).toNat≤m*2 ^ (e-(lp+T)).toNat:=by
 by_cases h1:lp+T≤e
 ·obtain ⟨c,hc⟩:∃c:Nat,e=lp+T+c:=⟨(e-(lp+T)).toNat,by omega⟩
  rw [show (e-lp).toNat=c+T by omega,show (lp-e).toNat=0 by omega,show (e-(lp+T)).toNat=c by omega,show (lp+T-e).toNat=0 by omega,Nat.pow_add,Nat.pow_zero,Nat.mul_one,Nat.mul_one,←Nat.mul_assoc]
  exact Nat.mul_le_mul_right_iff (Nat.two_pow_pos T)
 ·by_cases h2:lp≤e
  ·obtain ⟨c,hc⟩:∃c:Nat,e=lp+c:=⟨(e-lp).toNat,by omega⟩
   obtain ⟨d,hd⟩:∃d:Nat,T=d+c:=⟨T-c,by omega⟩
   rw [show (e-lp).toNat=c by omega,show (lp-e).toNat=0 by omega,show (e-(lp+T)).toNat=0 by omega,show (lp+T-e).toNat=d by omega,hd,Nat.pow_add,Nat.pow_zero,Nat.mul_one,Nat.mul_one,←Nat.mul_assoc]
   exact Nat.mul_le_mul_right_iff (Nat.two_pow_pos c)
  ·obtain ⟨c,hc⟩:∃c:Nat,lp=e+c:=⟨(lp-e).toNat,by omega⟩
   rw [show (e-lp).toNat=0 by omega,show (lp-e).toNat=c by omega,show (e-(lp+T)).toNat=0 by omega,show (lp+T-e).toNat=T+c by omega,Nat.pow_add,←Nat.mul_assoc]
theorem zf3 (k:FloatKind) (s:Bool) {m r:Nat} {e:Int} (h:m*2 ^ (e-k.format.leastPlace).toNat≤rv k.format r*2 ^ (k.format.leastPlace-e).toNat):
  ∃r',k.format.nearest s m e=k.format.word s r'∧r'≤r∧r'≤k.format.infRung:=by
 obtain ⟨M,T,hr,hM,hM2,hv⟩:=z8f k.format r
 rw [hv] at h
 rw [hr]
 exact z17n k s hM hM2 (zjc.1 h)
theorem zf2 (k:FloatKind) (s:Bool) {m r:Nat} {e:Int} (hr0:r≠0) (hi:r≤k.format.infRung) (h:rv k.format r*2 ^ (k.format.leastPlace-e).toNat≤m*2 ^ (e-k.format.leastPlace).toNat):
  ∃r',k.format.nearest s m e=k.format.word s r'∧r≤r'∧r'≤k.format.infRung:=by
 have hbp:0<k.format.binade:=Nat.two_pow_pos _
 obtain ⟨M,T,hr,hM,hM2,hv⟩:=z8f k.format r
 rw [hv] at h
 rw [hr] at hi ⊢
 refine z17m k s hM ?_ hM2 hi (zjb.1 h)
 rintro rfl
 rcases hM with hM | hM
 ·omega
 ·subst hM;apply hr0;rw [hr];simp

def Le2 (A:Nat) (a:Int) (B:Nat) (b:Int):Prop:=A*2 ^ (a-b).toNat≤B*2 ^ (b-a).toNat
theorem zwb {A B:Nat} {a b:Int} (c:Int) (ha:c≤a) (hb:c≤b):Le2 A a B b↔A*2 ^ (a-c).toNat≤B*2 ^ (b-c).toNat:=by
 unfold Le2
 by_cases h:a≤b
 ·obtain ⟨x,hx⟩:∃x:Nat,a=c+x:=⟨(a-c).toNat,by omega⟩
  obtain ⟨y,hy⟩:∃y:Nat,b=a+y:=⟨(b-a).toNat,by omega⟩
  rw [show (a-b).toNat=0 by omega,show (b-a).toNat=y by omega,show (a-c).toNat=x by omega,show (b-c).toNat=y+x by omega,Nat.pow_zero,Nat.mul_one,Nat.pow_add,←Nat.mul_assoc]
  exact (Nat.mul_le_mul_right_iff (Nat.two_pow_pos x)).symm
 ·obtain ⟨x,hx⟩:∃x:Nat,b=c+x:=⟨(b-c).toNat,by omega⟩
  obtain ⟨y,hy⟩:∃y:Nat,a=b+y:=⟨(a-b).toNat,by omega⟩
  rw [show (b-a).toNat=0 by omega,show (a-b).toNat=y by omega,show (b-c).toNat=x by omega,show (a-c).toNat=y+x by omega,Nat.pow_zero,Nat.mul_one,Nat.pow_add,←Nat.mul_assoc]
  exact (Nat.mul_le_mul_right_iff (Nat.two_pow_pos x)).symm
theorem Le2.trans {A B C:Nat} {a b c:Int} (h1:Le2 A a B b) (h2:Le2 B b C c):Le2 A a C c:=by
 obtain ⟨m,h3,h4,h5⟩:∃m:Int,m≤a∧m≤b∧m≤c:=⟨min a (min b c),by omega,by omega,by omega⟩
 rw [zwb m h3 h4] at h1
 rw [zwb m h4 h5] at h2
 rw [zwb m h3 h5]
 exact Nat.le_trans h1 h2
theorem Le2.same {A B:Nat} {a:Int} (h:A≤B):Le2 A a B a:=by unfold Le2;exact Nat.mul_le_mul_right _ h
theorem Le2.mul {A B c:Nat} {a b:Int} (h:Le2 A a B b):Le2 (c*A) a (c*B) b:=by
 unfold Le2 at *
 rw [Nat.mul_assoc,Nat.mul_assoc];exact Nat.mul_le_mul_left _ h
theorem l32:FloatKind.f32.format.leastPlace=-149:=by decide
theorem l64:FloatKind.f64.format.leastPlace=-1074:=by decide
theorem i32:FloatKind.f32.format.infRung=255*2 ^ 23:=by decide
theorem i64:FloatKind.f64.format.infRung=2047*2 ^ 52:=by decide
theorem z6d {k:FloatKind} {x:Nat} {s:Bool} {m:Nat} {e:Int} (h:k.format.read x=.number s m e):∃q:Nat,e=k.format.leastPlace+q∧(k.format.binade≤m∨q=0)∧m<2*k.format.binade∧q*k.format.binade+m<k.format.infRung:=by
 have hbp:0<k.format.binade:=Nat.two_pow_pos _
 have hm:=zkt h
 unfold Ieee.Format.read at h
 simp only [] at h
 have hbi:k.format.binade≤k.format.infRung:=zaf k
 split at h
 ·rename_i h1
  obtain ⟨-,h2,h3⟩:=Ieee.Datum.number.inj h
  exact ⟨0,by omega,.inr rfl,hm,by rw [Nat.zero_mul];omega⟩
 ·rename_i h1
  split at h
  ·rename_i h2
   obtain ⟨-,h3,h4⟩:=Ieee.Datum.number.inj h
   refine ⟨x % k.format.signWeight / k.format.binade-1,h4.symm,.inl (by omega),hm,?_⟩
   have h5:=Nat.div_add_mod (x % k.format.signWeight) k.format.binade
   obtain ⟨c,hc⟩:∃c,x % k.format.signWeight / k.format.binade=c+1:=⟨x % k.format.signWeight / k.format.binade-1,by
    have:1≤x % k.format.signWeight / k.format.binade:=(Nat.le_div_iff_mul_le hbp).2 (by omega)
    omega⟩
   rw [hc,Nat.mul_add,Nat.mul_one,Nat.mul_comm] at h5
   rw [hc,Nat.add_sub_cancel]
   omega
  ·split at h<;>cases h
def sqs2 (s x:Nat):Nat:=fadd .f32 s (fmul .f32 x x)
theorem zad (f:Ieee.Format) (s:Bool) {r:Nat} (h:r<f.signWeight):f.word s r % f.signWeight=r∧(f.word s r / f.signWeight % 2==1)=s:=by
 have hp:=zfq f
 unfold Ieee.Format.word
 cases s
 ·exact ⟨by simp;exact Nat.mod_eq_of_lt h,by simp [Nat.div_eq_of_lt h]⟩
 ·refine ⟨by rw [if_pos rfl,Nat.add_mod_left];exact Nat.mod_eq_of_lt h,?_⟩
  rw [if_pos rfl,Nat.add_div_left _ hp,Nat.div_eq_of_lt h];rfl
theorem z11v (k:FloatKind) (s:Bool) {r:Nat} (h:r<k.format.infRung):∃M T:Nat,k.format.read (k.format.word s r)=.number s M (k.format.leastPlace+T)∧rv k.format r=M*2 ^ T:=by
 have hlt:=zb4 k
 obtain ⟨M,T,hr,hM,hM2,hv⟩:=z8f k.format r
 refine ⟨M,T,?_,hv⟩
 by_cases hm:k.format.binade≤M
 ·have:=za9 k s M T hm hM2 (by rw [←hr];exact h)
  rw [←hr] at this
  exact this
 ·obtain rfl:T=0:=hM.resolve_left hm
  rw [Nat.zero_mul,Nat.zero_add] at hr
  subst hr
  obtain ⟨e1,e2⟩:=zad k.format s (show r<k.format.signWeight by omega)
  unfold Ieee.Format.read
  simp only [e1,e2]
  rw [if_pos (by omega)]
  simp
def okS (s:Nat):Prop:=(bif fle .f32 1056964608 s then fle .f32 s 1098907648 else false)=true
def PI (z:Prop) (b:Bool) (p:Int) (n:Nat) (s:Nat):Prop:=(z∧b=false)∨(b=true∧0≤p∧p<(n:Int)∧okS s)
theorem PI.keep {z z':Prop} {b:Bool} {p:Int} {n s:Nat} (h:PI z b p n s) (hb:b=true):PI z' b p n s:=by
 rcases h with ⟨_,h⟩ | h
 ·rw [hb] at h;cases h
 ·exact .inr h
theorem PI.into {z z':Prop} {b:Bool} {p:Int} {n s:Nat} (h:PI z b p n s) (hz:z→z'):PI z' b p n s:=h.imp (fun h=>⟨hz h.1,h.2⟩) id
theorem PI.fin {z:Prop} {b:Bool} {p:Int} {n s:Nat} (h:PI z b p n s) (hz:¬z):0≤p∧p<(n:Int)∧okS s:=by
 rcases h with ⟨h,_⟩ | h
 ·exact absurd h hz
 ·exact h.2
def RL (N:Nat) (r:Int×Nat×Nat×(List Nat)×Bool):Prop:=r.2.2.2.1.length≤N
theorem rl0 (N:Nat):RL N (0,0,0,[],false):=Nat.zero_le _
end Go.Proofs.Ytbnplefohfamnaa.Ai
