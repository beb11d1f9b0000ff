/- Phasors: fractions of turns, quarters and the sine's sum, as floats. -/
import Derived.Test.YtbnplefohfamnaaFFnAtomsFs
import Derived.Test.YtbnplefohfamnaaFFnAtomsExt
set_option linter.unusedVariables false
namespace Go.Proofs.Ytbnplefohfamnaa.Ai
open Go
theorem zls (s:Bool) (n d:Nat):Ieee.Toward.zero.cut s n d=n / 2 ^ d:=by
 unfold Ieee.Toward.cut
 simp only [Bool.toNat_false,Nat.add_zero,Nat.one_shiftLeft]
 by_cases h:d≤n.log2+2
 ·rw [Nat.min_eq_left h]
 ·rw [Nat.min_eq_right (by omega)]
  have h1:n<2 ^ (n.log2+2):=Nat.lt_of_lt_of_le Nat.lt_log2_self (Nat.pow_le_pow_right (by decide) (by omega))
  have h2:n<2 ^ d:=Nat.lt_of_lt_of_le h1 (Nat.pow_le_pow_right (by decide) (by omega))
  rw [Nat.div_eq_of_lt h1,Nat.div_eq_of_lt h2]
theorem z11f {m p Q:Nat} (hp:0<p) (s:Bool):((if s then -((m*Q:Nat):Int) else ((m*Q:Nat):Int))-(if s then -((m / p:Nat):Int) else ((m / p:Nat):Int))*((p*Q:Nat):Int)).natAbs≤p*Q:=by
 have h:=Nat.div_add_mod m p
 have h2:=Nat.mod_lt m hp
 have e:m*Q=(m / p)*(p*Q)+(m % p)*Q:=by
  rw [←Nat.mul_assoc,←Nat.add_mul,Nat.mul_comm (m / p) p,h]
 have h3:(m % p)*Q≤p*Q:=Nat.mul_le_mul_right _ (Nat.le_of_lt h2)
 rw [e]
 cases s
 ·simp only [Bool.false_eq_true,if_false,←Int.natCast_mul];omega
 ·simp only [if_true,Int.neg_mul,←Int.natCast_mul];omega
theorem zvx {x:Nat} (h:fin .f64 x=true) {n:Int} (hn:ftoi .f64 x .i64=some n):(sv .f64 x-n*((2 ^ lp .f64:Nat):Int)).natAbs≤2 ^ lp .f64:=by
 obtain ⟨s,m,e,hr⟩:=zu h
 have hp:=z1l hr
 have hd:FloatKind.f64.decode x=.number s m e:=hr
 unfold ftoi at hn
 rw [hd] at hn
 have hn:(if _ then _ else _)=some n:=hn
 split at hn
 ·cases hn
  unfold sv
  rw [hr]
  simp only []
  rw [zka] at hp ⊢
  rw [zls,zq,zq,Nat.pow_zero,Nat.mul_one]
  by_cases he:0≤e
  ·rw [show (-e).toNat=0 by omega,Nat.pow_zero,Nat.div_one,Nat.shiftLeft_eq,show (e- -(lp .f64:Int)).toNat=e.toNat+lp .f64 by omega,Nat.pow_add,←Nat.mul_assoc]
   generalize 2 ^ lp .f64=L
   generalize m*2 ^ e.toNat=y
   cases s
   ·simp only [Bool.false_eq_true,if_false,←Int.natCast_mul];omega
   ·simp only [if_true,Int.neg_mul,←Int.natCast_mul];omega
  ·rw [show e.toNat=0 by omega,Nat.shiftLeft_zero]
   obtain ⟨q,hq⟩:∃q:Nat,e=-(lp .f64:Int)+q:=⟨(e+lp .f64).toNat,by omega⟩
   have e1:lp .f64=(-e).toNat+q:=by omega
   rw [show (e- -(lp .f64:Int)).toNat=q by omega]
   generalize lp .f64=L at *
   subst e1
   rw [Nat.pow_add]
   exact z11f (Nat.two_pow_pos _) s
 ·cases hn
theorem Bd.pow {k:FloatKind} {A x:Nat} (h:Bd k A x) {B:Nat} (e:A=B):Bd k B x:=e ▸ h
theorem zjd:FloatKind.f64.format.fractionBits+1022=lp .f64:=rfl
theorem z1d6:sv .f64 4607182418800017408=((2 ^ lp .f64:Nat):Int):=by
 rw [zgl,(z3d .f64 (n:=1) (by decide)).2,Int.one_mul];simp
theorem fract {x:Nat} (h:Bd .f64 (52+lp .f64) x):∃n:Int,ftoi .f64 x .i64=some n∧Bd .f64 (lp .f64) (fsub .f64 x (FloatKind.nearest .f64 n))∧
  (flt .f64 (fsub .f64 x (FloatKind.nearest .f64 n)) 0=true→Bd .f64 (lp .f64) (fadd .f64 (fsub .f64 x (FloatKind.nearest .f64 n)) 4607182418800017408)):=by
 obtain ⟨n,hn,hb⟩:=zvy h.1 (W:=52) (by decide) h.2
 have hnear:=zvx h.1 hn
 have hbin:n.natAbs<2*FloatKind.f64.format.binade:=by
  have e2:FloatKind.f64.format.binade=4503599627370496:=by decide
  rw [show (2:Nat) ^ 52=4503599627370496 by decide] at hb
  rw [e2];omega
 obtain ⟨f1,f2⟩:=z3d .f64 hbin
 have f2':sv .f64 (FloatKind.nearest .f64 n)=n*((2 ^ lp .f64:Nat):Int):=by rw [f2];simp
 have b1:Bd .f64 (lp .f64) (fsub .f64 x (FloatKind.nearest .f64 n)):=by
  rw [z6g (z4z f1)]
  have:=(Bd.add (T:=1022) h.1 (z8z f1) (z2i (by decide)) (by rw [zbd f1,f2',zjd];exact hnear)).1
  exact this.pow zjd
 refine ⟨n,hn,b1,fun hl=>?_⟩
 have o1:fin .f64 4607182418800017408=true:=by decide+kernel
 have:=(Bd.add (T:=1022) b1.1 o1 (z2i (by decide)) (by
  rw [z2g b1.1 (zx _),z1m] at hl
  have hl:=of_decide_eq_true hl
  have hb:=b1.2
  rw [z1d6,zjd]
  omega)).1
 exact this.pow zjd

theorem z10e {x:Nat} (h:Bd .f64 (52+lp .f64) x):ftoi .f64 x .i64≠none:=by
 obtain ⟨n,hn,_⟩:=fract h
 rw [hn];intro h;cases h

theorem zkv (k:FloatKind) (s:Bool) {n Q:Nat} (h0:n≠0) (h:n<2*k.format.binade) (hQ:k.format.fractionBits≤Q) (hi:(Q+2)*k.format.binade≤k.format.infRung):
  fin k (k.format.nearest s n (k.format.leastPlace+(Q:Int)))=true∧sv k (k.format.nearest s n (k.format.leastPlace+(Q:Int)))=Ieee.signed s n Q:=by
 have hb:k.format.binade=2 ^ k.format.fractionBits:=rfl
 have hl:n.log2≤k.format.fractionBits:=by
  have:=(Nat.log2_lt h0).2 (show n<2 ^ (k.format.fractionBits+1) by rw [Nat.pow_succ];omega)
  omega
 obtain ⟨d,hd⟩:∃d,k.format.fractionBits=n.log2+d:=⟨k.format.fractionBits-n.log2,by omega⟩
 obtain ⟨q,hq⟩:∃q,Q=q+d:=⟨Q-d,by omega⟩
 have e:k.format.nearest s n (k.format.leastPlace+(Q:Int))=k.format.nearest s (n <<< d) (k.format.leastPlace+(q:Int)):=by
  rw [z1x];congr 1;omega
 have m1:k.format.binade≤n <<< d:=by
  rw [hb,hd,Nat.shiftLeft_eq,Nat.pow_add];exact Nat.mul_le_mul_right _ (Nat.log2_self_le h0)
 have m2:n <<< d<2*k.format.binade:=by
  have a1:n<2 ^ (n.log2+1):=Nat.lt_log2_self
  rw [hb,hd,Nat.shiftLeft_eq,Nat.pow_add]
  calc n*2 ^ d<2 ^ (n.log2+1)*2 ^ d:=Nat.mul_lt_mul_of_pos_right a1 (Nat.two_pow_pos d)
   _=2*(2 ^ n.log2*2 ^ d):=by rw [Nat.pow_succ,Nat.mul_comm (2 ^ n.log2) 2,Nat.mul_assoc]
 have m3:q*k.format.binade+n <<< d<k.format.infRung:=by
  have a3:(q+2)*k.format.binade≤(Q+2)*k.format.binade:=Nat.mul_le_mul_right _ (by omega)
  have a4:(q+2)*k.format.binade=q*k.format.binade+2*k.format.binade:=Nat.add_mul _ _ _
  omega
 rw [e]
 have:=zxm k s (n <<< d) q m1 m2 m3
 refine ⟨this.1,this.2.trans ?_⟩
 rw [zq,zq,Nat.shiftLeft_eq,Nat.mul_assoc,←Nat.pow_add,hq,Nat.add_comm d q]
theorem zkt {f:Ieee.Format} {x:Nat} {s:Bool} {m:Nat} {e:Int} (h:f.read x=.number s m e):m<2*f.binade:=by
 have hp:0<f.binade:=Nat.two_pow_pos _
 unfold Ieee.Format.read at h
 simp only [] at h
 split at h
 ·cases h;omega
 ·split at h
  ·cases h
   have:=Nat.mod_lt (x % f.signWeight) hp
   omega
  ·split at h<;>cases h
theorem zms {m q A v:Nat} (hv:m*2 ^ q=v) (h1:2 ^ A≤v) (hm:m<2*2 ^ 52):A≤q+53:=by
 by_cases h:A≤q+53
 ·exact h
 ·exfalso
  have a:2 ^ (53+q)≤2 ^ A:=Nat.pow_le_pow_right (by decide) (by omega)
  have b:m*2 ^ q<2*2 ^ 52*2 ^ q:=Nat.mul_lt_mul_of_pos_right hm (Nat.two_pow_pos q)
  rw [Nat.pow_add,show (2:Nat) ^ 53=2*2 ^ 52 by decide] at a
  omega
theorem zup {x y A B:Nat} (hx:fin .f64 x=true) (hy:fin .f64 y=true) (hyv:sv .f64 y=((2 ^ A:Nat):Int)) (hA:200≤A) (h1:((2 ^ A:Nat):Int)<sv .f64 x) (h2:sv .f64 x≤((2 ^ B:Nat):Int)) (hB:B≤A+2) (hB':B≤1500):
  fin .f64 (fsub .f64 x y)=true∧sv .f64 (fsub .f64 x y)=sv .f64 x-sv .f64 y:=by
 rw [zoo hx hy (by rw [hyv];omega)]
 have hpA:=Nat.two_pow_pos A
 have hpB:=Nat.two_pow_pos B
 obtain ⟨s,m,e,hr⟩:=zu hx
 have hp:=z1l hr
 have hm:=zkt hr
 have e2:FloatKind.f64.format.binade=2 ^ 52:=rfl
 rw [e2] at hm
 obtain ⟨q,hq⟩:∃q:Nat,e=FloatKind.f64.format.leastPlace+q:=⟨(e-FloatKind.f64.format.leastPlace).toNat,by omega⟩
 have hsv:sv .f64 x=Ieee.signed s m q:=by
  unfold sv;rw [hr];simp only [];congr 1;omega
 have hs:s=false:=by
  cases s
  ·rfl
  ·rw [hsv,zq,if_pos rfl] at h1
   generalize 2 ^ A=a at *
   generalize m*2 ^ q=b at *
   omega
 subst hs
 rw [zq,if_neg (by decide)] at hsv
 rw [hsv] at h1 h2 ⊢
 rw [hyv]
 have h1':2 ^ A<m*2 ^ q:=Int.ofNat_lt.1 h1
 have h2':m*2 ^ q≤2 ^ B:=Int.ofNat_le.1 h2
 have hqA:=zms (A:=A) rfl (Nat.le_of_lt h1') hm
 have hqB:q≤B:=by
  by_cases c:q≤B
  ·exact c
  ·have:=z2j h2' (by omega)
   subst this;rw [Nat.zero_mul] at h1';exact absurd h1' (Nat.not_lt_zero _)
 have hqA2:q≤A∨A<q:=by omega
 have hm0:m≠0:=by rintro rfl;rw [Nat.zero_mul] at h1';exact absurd h1' (Nat.not_lt_zero _)
 rcases hqA2 with hqA2 | hqA2
 ·obtain ⟨d,hd⟩:∃d,A=d+q:=⟨A-q,by omega⟩
  have ed:2 ^ A=2 ^ d*2 ^ q:=by rw [hd,Nat.pow_add]
  have hlt:2 ^ d<m:=by
   rw [ed] at h1'
   exact Nat.lt_of_mul_lt_mul_right h1'
  have hv:((m*2 ^ q:Nat):Int)-((2 ^ A:Nat):Int)=(((m-2 ^ d)*2 ^ q:Nat):Int):=by
   rw [ed,Nat.sub_mul]
   have:2 ^ d*2 ^ q≤m*2 ^ q:=Nat.mul_le_mul_right _ (Nat.le_of_lt hlt)
   omega
  rw [hv]
  have hpd:=Nat.two_pow_pos d
  have ex:=zkv .f64 false (n:=m-2 ^ d) (Q:=q) (by omega) (by rw [e2];omega) (by show 52≤q;omega) (by
   have e3:FloatKind.f64.format.infRung=2047*2 ^ 52:=by decide
   rw [e2,e3]
   exact Nat.mul_le_mul_right _ (by omega))
  have er:rnd .f64 (((m-2 ^ d)*2 ^ q:Nat):Int)=FloatKind.f64.format.nearest false (m-2 ^ d) (FloatKind.f64.format.leastPlace+(q:Int)):=by
   unfold rnd
   rw [decide_eq_false (by omega),Int.natAbs_natCast,←Nat.shiftLeft_eq,z1x]
  rw [er]
  refine ⟨ex.1,ex.2.trans ?_⟩
  rw [zq,if_neg (by decide)]
 ·-- a value of less than four quarters whose last bit is more than a quarter
  obtain ⟨d,hd⟩:∃d,q=d+A:=⟨q-A,by omega⟩
  have hv:((m*2 ^ q:Nat):Int)-((2 ^ A:Nat):Int)=(((m*2 ^ d-1)*2 ^ A:Nat):Int):=by
   rw [hd,Nat.pow_add,←Nat.mul_assoc,Nat.sub_mul,Nat.one_mul]
   have:1≤m*2 ^ d:=Nat.mul_pos (by omega) (Nat.two_pow_pos d)
   have:1*2 ^ A≤m*2 ^ d*2 ^ A:=Nat.mul_le_mul_right _ this
   omega
  rw [hv]
  have hb4:m*2 ^ d≤4:=by
   have:m*2 ^ d*2 ^ A≤4*2 ^ A:=by
    rw [Nat.mul_assoc,←Nat.pow_add,←hd]
    refine Nat.le_trans h2' (Nat.le_trans (Nat.pow_le_pow_right (by decide) hB) ?_)
    rw [Nat.pow_add];omega
   exact Nat.le_of_mul_le_mul_right this (Nat.two_pow_pos A)
  have h1d:1<m*2 ^ d:=by
   have:1*2 ^ A<m*2 ^ d*2 ^ A:=by rw [Nat.mul_assoc,←Nat.pow_add,←hd];omega
   exact Nat.lt_of_mul_lt_mul_right this
  generalize m*2 ^ d=c at *
  have ex:=zkv .f64 false (n:=c-1) (Q:=A) (by omega) (by rw [e2];omega) (by show 52≤A;omega) (by
   have e3:FloatKind.f64.format.infRung=2047*2 ^ 52:=by decide
   rw [e2,e3]
   exact Nat.mul_le_mul_right _ (by omega))
  have er:rnd .f64 (((c-1)*2 ^ A:Nat):Int)=FloatKind.f64.format.nearest false (c-1) (FloatKind.f64.format.leastPlace+(A:Int)):=by
   unfold rnd
   rw [decide_eq_false (by omega),Int.natAbs_natCast,←Nat.shiftLeft_eq,z1x]
  rw [er]
  refine ⟨ex.1,ex.2.trans ?_⟩
  rw [zq,if_neg (by decide)]
theorem q_pow (q:Nat):4503599627370496*2 ^ q=2 ^ (52+q):=by rw [Nat.pow_add]
theorem z8e:∃A:Nat,A+2=lp .f64∧sv .f64 4598175219545276416=((2 ^ A:Nat):Int):=by
 obtain ⟨q,hq⟩:∃q:Nat,q+54=lp .f64:=⟨1020,rfl⟩
 refine ⟨52+q,by omega,?_⟩
 rw [←q_pow]
 have hr:FloatKind.f64.format.read 4598175219545276416=.number false 4503599627370496 (-54):=by decide+kernel
 have:(-54:Int)=-1074+(q:Int):=by have:=lp64;omega
 rw [this] at hr
 exact zl2 hr
theorem zw9:∃A:Nat,A+1=lp .f64∧sv .f64 4602678819172646912=((2 ^ A:Nat):Int):=by
 obtain ⟨q,hq⟩:∃q:Nat,q+53=lp .f64:=⟨1021,rfl⟩
 refine ⟨52+q,by omega,?_⟩
 rw [←q_pow]
 have hr:FloatKind.f64.format.read 4602678819172646912=.number false 4503599627370496 (-53):=by decide+kernel
 have:(-53:Int)=-1074+(q:Int):=by have:=lp64;omega
 rw [this] at hr
 exact zl2 hr
theorem z9q:fin .f64 4602678819172646912=true:=by decide+kernel
theorem z2w:fin .f64 4598175219545276416=true:=by decide+kernel
def qm (f:Nat):Int:=sv .f64 f / sv .f64 4598175219545276416
theorem z6o {f:Nat} (hb:Bd .f64 (lp .f64) f) (hc:fle .f64 4598175219545276416 f=true):
  Bd .f64 (lp .f64) (fsub .f64 f 4598175219545276416)∧qm (fsub .f64 f 4598175219545276416)≤qm f-1∧1≤qm f:=by
 obtain ⟨A,hA,hs⟩:=z8e
 have hl:lp .f64≤1400∧600≤lp .f64:=by decide
 rw [z5k z2w hb.1] at hc
 have hc:=of_decide_eq_true hc
 have h2:=hb.2
 have hpos:(0:Int)<((2 ^ A:Nat):Int):=by have:=Nat.two_pow_pos A;omega
 unfold qm
 by_cases he:sv .f64 f=sv .f64 4598175219545276416
 ·have hbd:=(Bd.add (T:=0) hb.1 (z8z z2w) (z2i (by decide)) (by rw [zbd z2w,he,Int.add_right_neg];exact Nat.zero_le _)).1
  rw [←z6g (z4z z2w)] at hbd
  have hsm:sv .f64 (fsub .f64 f 4598175219545276416)<((2 ^ A:Nat):Int):=by
   have h3:=hbd.2
   have:(2:Nat) ^ (FloatKind.f64.format.fractionBits+0)<2 ^ A:=Nat.pow_lt_pow_right (by decide) (by show 52+0<A;omega)
   omega
  refine ⟨hbd.mono (by show 52+0≤_;omega),?_,?_⟩
  ·rw [he,Int.ediv_self (by rw [hs];omega),hs]
   have:sv .f64 (fsub .f64 f 4598175219545276416) / ((2 ^ A:Nat):Int)<1:=Int.ediv_lt_of_lt_mul hpos (by omega)
   omega
  ·rw [he,Int.ediv_self (by rw [hs];omega)];exact Int.le_refl _
 ·have ex:=zup (B:=lp .f64) hb.1 z2w hs (by omega) (by omega) (by omega) (by omega) (by omega)
  rw [hs] at *
  refine ⟨⟨ex.1,by rw [ex.2];omega⟩,?_,?_⟩
  ·rw [ex.2,Int.sub_ediv_of_dvd _ (Int.dvd_refl _),Int.ediv_self (by omega)];exact Int.le_refl _
  ·exact Int.le_ediv_of_mul_le hpos (by omega)

theorem qm_le {f:Nat} (hb:Bd .f64 (lp .f64) f):qm f≤4∧-4≤qm f:=by
 obtain ⟨A,hA,hs⟩:=z8e
 have h2:=hb.2
 have hp:=Nat.two_pow_pos A
 unfold qm
 rw [hs]
 rw [←hA,Nat.pow_succ,Nat.pow_succ] at h2
 generalize 2 ^ A=a at *
 exact ⟨Int.ediv_le_of_le_mul (by omega) (by omega),Int.le_ediv_of_mul_le (by omega) (by omega)⟩

def sinG (z:Nat) (tn:Bool):Nat→Nat→Nat→Nat
 | 0,_,_=>0
 | μ+1,p,k=>bif fle .f64 4607182418800017408 k then sinG z tn μ (fsub .f64 4607182418800017408 (fdiv .f64 (fmul .f64 (fmul .f64 z z) p) (fmul .f64 (fmul .f64 4611686018427387904 k) (fadd .f64 (fmul .f64 4611686018427387904 k) 4607182418800017408)))) (fsub .f64 k 4607182418800017408) else (bif tn then fneg .f64 (fmul .f64 z p) else fmul .f64 z p)
def sinS (z:Nat) (tn:Bool):Nat→Nat→Int→Nat
 | 0,_,_=>0
 | μ+1,p,k=>bif decide ((1:Int)≤k) then sinS z tn μ (fsub .f64 4607182418800017408 (fdiv .f64 (fmul .f64 (fmul .f64 z z) p) (FloatKind.nearest .f64 (IntKind.wrap .i64 ((IntKind.wrap .i64 (2*k))*(IntKind.wrap .i64 ((IntKind.wrap .i64 (2*k))+1))))))) (k-1) else (bif tn then fneg .f64 (fmul .f64 z p) else fmul .f64 z p)
theorem z18f:∀j:Nat,j<9→fmul .f64 (fmul .f64 4611686018427387904 (FloatKind.nearest .f64 (j:Int))) (fadd .f64 (fmul .f64 4611686018427387904 (FloatKind.nearest .f64 (j:Int))) 4607182418800017408)=FloatKind.nearest .f64 ((2*j*(2*j+1):Nat):Int):=by decide+kernel
theorem z12t {k:Int} (h0:0≤k) (h1:k≤8):IntKind.wrap .i64 ((IntKind.wrap .i64 (2*k))*(IntKind.wrap .i64 ((IntKind.wrap .i64 (2*k))+1)))=((2*k.toNat*(2*k.toNat+1):Nat):Int):=by
 obtain ⟨j,rfl⟩:∃j:Nat,k=(j:Int):=⟨k.toNat,by omega⟩
 have hj:j<9:=by omega
 revert hj
 clear h0 h1
 revert j
 decide+kernel
theorem z18g (z:Nat) (tn:Bool):∀(μ p:Nat) (k:Int),0≤k→k≤8→sinG z tn μ p (FloatKind.nearest .f64 k)=sinS z tn μ p k:=by
 intro μ
 induction μ with
 | zero=>intro p k h0 h1;rfl
 | succ μ ih=>
  intro p k h0 h1
  unfold sinG sinS
  obtain ⟨c1,c2,c3,c4⟩:=z8q (n:=k) (by omega) (by omega)
  rw [c2,c3]
  by_cases hk:1≤k
  ·rw [decide_eq_true hk,cond_true,cond_true,z12t h0 h1]
   have:=z18f k.toNat (by omega)
   rw [show ((k.toNat:Nat):Int)=k by omega] at this
   rw [this]
   exact ih _ _ (by omega) (by omega)
  ·rw [decide_eq_false hk,cond_false,cond_false]
theorem z18e {z:Nat} (tn:Bool) (hz:Bd .f64 1077 z):∀(μ p:Nat) (k:Int) (a:Nat),0≤k→k≤8→a+7*k.toNat≤60→Bd .f64 (1074+a) p→Bd .f64 1140 (sinS z tn μ p k):=by
 intro μ
 induction μ with
 | zero=>intro p k a h0 h1 h2 h3;exact zfz _
 | succ μ ih=>
  intro p k a h0 h1 h2 h3
  unfold sinS
  by_cases hk:1≤k
  ·rw [decide_eq_true hk,cond_true,z12t h0 h1]
   have hden:1≤2*k.toNat*(2*k.toNat+1):=Nat.mul_pos (by omega) (by omega)
   have hden2:2*k.toNat*(2*k.toNat+1)≤16*17:=Nat.mul_le_mul (by omega) (by omega)
   generalize 2*k.toNat*(2*k.toNat+1)=dn at *
   have hb:((dn:Nat):Int).natAbs<2*FloatKind.f64.format.binade:=by
    have e2:FloatKind.f64.format.binade=4503599627370496:=by decide
    rw [e2];omega
   obtain ⟨d1,d2⟩:=z3d .f64 hb
   have d3:(FloatKind.f64.format.read (FloatKind.nearest .f64 ((dn:Nat):Int))).neg=false:=by
    rw [z2m,z3u .f64 rfl]
    show decide (((dn:Nat):Int)<0)=false
    exact decide_eq_false (by omega)
   have d4:2 ^ 1074≤(sv .f64 (FloatKind.nearest .f64 ((dn:Nat):Int))).natAbs:=by
    rw [d2,lp64,Int.natAbs_mul,zx1 1074]
    exact Nat.le_mul_of_pos_left _ (by omega)
   have m1:=(Bd.mul (T:=1028) hz hz (z2i (by decide)) (by rw [fb64,lp64];decide)).1
   rw [fb64] at m1
   have m2:=(Bd.mul (T:=1028+a) m1 h3 (z2i (by omega)) (by rw [fb64,lp64];omega)).1
   rw [fb64] at m2
   have q1:=(Bd.div (T:=1028+a) m2 d1 d4 (z2i (by omega)) (by rw [fb64,lp64];omega)).1
   rw [fb64] at q1
   have s1:=Bd.sub2 (A:=1080+a) (T:=1029+a) (zwr.mono (by omega)) (q1.mono (by omega)) (z2i (by omega)) (by rw [fb64];omega)
   rw [fb64] at s1
   exact ih _ (k-1) (a+7) (by omega) (by omega) (by omega) (s1.mono (by omega))
  ·rw [decide_eq_false hk,cond_false]
   have m1:=(Bd.mul (T:=1085) hz (h3.mono (show 1074+a≤1134 by omega)) (z2i (by decide)) (by rw [fb64,lp64];decide)).1
   rw [fb64] at m1
   have m2:Bd .f64 1140 (fmul .f64 z p):=m1.mono (by decide)
   cases tn
   ·exact m2
   ·exact m2.neg
theorem z18r {f:Nat} (h:Bd .f64 (lp .f64) f):Bd .f64 1077 (fmul .f64 f 4618760256179416344):=by
 have two:Bd .f64 1077 4618760256179416344:=⟨by decide+kernel,by decide+kernel⟩
 have m1:=(Bd.mul (T:=1025) (h.pow lp64) two (z2i (by decide)) (by rw [fb64,lp64];decide)).1
 rw [fb64] at m1
 exact m1.mono (by decide)
theorem z16k {f:Nat} (h:Bd .f64 (lp .f64) f) (hc:fle .f64 4602678819172646912 f=true):Bd .f64 (lp .f64) (fsub .f64 f 4602678819172646912):=by
 obtain ⟨A,hA,hs⟩:=zw9
 rw [z5k z9q h.1] at hc
 have hc:=of_decide_eq_true hc
 have h2:=h.2
 have hp:=Nat.two_pow_pos A
 rw [z6g (z4z z9q)]
 refine (Bd.add (T:=1022) h.1 (z8z z9q) (z2i (by decide)) ?_).1.pow zjd
 rw [zbd z9q,zjd,hs]
 rw [hs] at hc
 rw [←hA,Nat.pow_succ] at h2 ⊢
 generalize 2 ^ A=a at *
 omega
theorem z16c {f:Nat} (h:Bd .f64 (lp .f64) f) (hc:flt .f64 4598175219545276416 f=true):Bd .f64 (lp .f64) (fsub .f64 4602678819172646912 f):=by
 obtain ⟨A,hA,hs⟩:=zw9
 obtain ⟨B,hB,hs2⟩:=z8e
 rw [z2g z2w h.1] at hc
 have hc:=of_decide_eq_true hc
 have h2:=h.2
 have hp:=Nat.two_pow_pos B
 rw [z6g (z4z h.1)]
 refine (Bd.add (T:=1022) z9q (z8z h.1) (z2i (by decide)) ?_).1.pow zjd
 rw [zbd h.1,zjd,hs]
 rw [hs2] at hc
 obtain rfl:A=B+1:=by omega
 rw [←hA,Nat.pow_succ,Nat.pow_succ] at h2 ⊢
 rw [Nat.pow_succ]
 generalize 2 ^ B=a at *
 omega
theorem z11y {f:Nat} (h:Bd .f64 (lp .f64) f):Bd .f64 (1+lp .f64) (fsub .f64 4598175219545276416 f):=by
 obtain ⟨B,hB,hs2⟩:=z8e
 have h2:=h.2
 have hq:Bd .f64 (lp .f64) 4598175219545276416:=⟨z2w,by rw [hs2,Int.natAbs_natCast];exact Nat.pow_le_pow_right (by decide) (by omega)⟩
 have s1:=Bd.sub2 (T:=1023) hq h (z2i (by decide)) (by show _≤52+1023;rw [lp64];decide)
 exact s1.mono (by show 52+1023≤_;rw [lp64];decide)
theorem zmt {f:Nat} (h:Bd .f64 (lp .f64) f):Bd .f64 (52+lp .f64) (fsub .f64 4598175219545276416 f):=(z11y h).mono (by omega)
theorem lp_up {f:Nat} (h:Bd .f64 (lp .f64) f):Bd .f64 (52+lp .f64) f:=h.mono (by omega)
theorem z19d {x:Nat} (h:Bd .f64 1140 x):zl x≠none:=z4k (h.mono (by decide))
theorem z14h {x:Nat} (h:Bd .f64 1140 x):zl (fsub .f64 0 x)≠none:=by
 have s1:=Bd.sub2 (T:=1100) (zfz 1140) h (z2i (by decide)) (by rw [fb64];decide)
 rw [fb64] at s1
 exact z4k (s1.mono (by decide))
theorem z12i:∃A:Nat,A=52+lp .f64∧sv .f64 4841369599423283200=((2 ^ A:Nat):Int):=by
 obtain ⟨q,hq⟩:∃q:Nat,q=lp .f64:=⟨_,rfl⟩
 refine ⟨52+q,by omega,?_⟩
 rw [←q_pow]
 have hr:FloatKind.f64.format.read 4841369599423283200=.number false 4503599627370496 0:=by decide+kernel
 have:(0:Int)=-1074+(q:Int):=by have:=lp64;omega
 rw [this] at hr
 exact zl2 hr
theorem zxt:fin .f64 4841369599423283200=true:=by decide+kernel
def In52 (y:Nat):Prop:=fle .f64 4841369599423283200 y=false∧fle .f64 y 14064741636278059008=false
theorem zpn {f:Ieee.Format} {x:Nat} {s:Bool} {m:Nat} {e:Int} (h:f.read x=.number s m e):f.read (x % f.signWeight)=.number false m e:=by
 have hp:0<f.signWeight:=Nat.two_pow_pos _
 have a:x % f.signWeight % f.signWeight=x % f.signWeight:=Nat.mod_mod _ _
 have b:x % f.signWeight / f.signWeight=0:=Nat.div_eq_of_lt (Nat.mod_lt _ hp)
 unfold Ieee.Format.read at h ⊢
 simp only [a,b] at h ⊢
 split at h
 ·rename_i c;rw [if_pos c];cases h;rfl
 ·rename_i c
  rw [if_neg c]
  split at h
  ·rename_i c2;rw [if_pos c2];cases h;rfl
  ·split at h<;>cases h
theorem z14e {x:Nat} (h0:fin .f64 x=true) (h1:fle .f64 4841369599423283200 (x % 9223372036854775808)=false):Bd .f64 (52+lp .f64) x:=by
 obtain ⟨s,m,e,hr⟩:=zu h0
 have hm:=zpn hr
 rw [show FloatKind.f64.format.signWeight=9223372036854775808 by decide] at hm
 have hf:fin .f64 (x % 9223372036854775808)=true:=by unfold fin;rw [hm]
 obtain ⟨A,rfl,hs⟩:=z12i
 rw [z5k zxt hf,hs] at h1
 have h1:=of_decide_eq_false h1
 refine ⟨h0,?_⟩
 unfold sv at h1 ⊢
 rw [hm] at h1
 rw [hr]
 simp only [] at h1 ⊢
 rw [zq,if_neg (by decide)] at h1
 rw [zq]
 cases s
 ·simp only [Bool.false_eq_true,if_false];omega
 ·simp only [if_true];omega
def z1dy (y:Nat):Nat:=bif flt .f64 (fsub .f64 y (FloatKind.nearest .f64 (((ftoi .f64 y .i64).getD 0)))) 0 then fadd .f64 (fsub .f64 y (FloatKind.nearest .f64 (((ftoi .f64 y .i64).getD 0)))) 4607182418800017408 else fsub .f64 y (FloatKind.nearest .f64 (((ftoi .f64 y .i64).getD 0)))
def zkx (F:Nat):Nat:=
 sinS (fmul .f64 (bif flt .f64 4598175219545276416 (bif fle .f64 4602678819172646912 F then fsub .f64 F 4602678819172646912 else F) then fsub .f64 4602678819172646912 (bif fle .f64 4602678819172646912 F then fsub .f64 F 4602678819172646912 else F) else (bif fle .f64 4602678819172646912 F then fsub .f64 F 4602678819172646912 else F)) 4618760256179416344)
  (fle .f64 4602678819172646912 F) 9 4607182418800017408 8
attribute [local irreducible] sinS in
theorem zsd (F:Nat):(bif fle .f64 4602678819172646912 F then (bif flt .f64 4598175219545276416 (fsub .f64 F 4602678819172646912) then sinS (fmul .f64 (fsub .f64 4602678819172646912 (fsub .f64 F 4602678819172646912)) 4618760256179416344) (fle .f64 4602678819172646912 F) 9 4607182418800017408 8 else sinS (fmul .f64 (fsub .f64 F 4602678819172646912) 4618760256179416344) (fle .f64 4602678819172646912 F) 9 4607182418800017408 8)
  else (bif flt .f64 4598175219545276416 F then sinS (fmul .f64 (fsub .f64 4602678819172646912 F) 4618760256179416344) (fle .f64 4602678819172646912 F) 9 4607182418800017408 8 else sinS (fmul .f64 F 4618760256179416344) (fle .f64 4602678819172646912 F) 9 4607182418800017408 8))=zkx F:=by
 unfold zkx
 cases fle .f64 4602678819172646912 F
 ·simp only [cond_false]
  cases flt .f64 4598175219545276416 F<;>simp only [cond_true,cond_false]
 ·simp only [cond_true]
  cases flt .f64 4598175219545276416 (fsub .f64 F 4602678819172646912)<;>simp only [cond_true,cond_false]
theorem zrd:(4620693217682128896:Nat)=FloatKind.nearest .f64 8:=by decide+kernel
theorem zxg {F:Nat} (h:Bd .f64 (lp .f64) F):Bd .f64 1140 (zkx F):=by
 unfold zkx
 refine z18e _ (z18r ?_) _ _ _ 0 (by decide) (by decide) (by decide) zwr
 have h1:Bd .f64 (lp .f64) (bif fle .f64 4602678819172646912 F then fsub .f64 F 4602678819172646912 else F):=by
  cases hc:fle .f64 4602678819172646912 F
  ·exact h
  ·exact z16k h hc
 generalize (bif fle .f64 4602678819172646912 F then fsub .f64 F 4602678819172646912 else F)=G at *
 cases hc:flt .f64 4598175219545276416 G
 ·exact h1
 ·exact z16c h1 hc
theorem zm4 {k:FloatKind} {a x b:Nat} (ha:fin k a=true) (hb:fin k b=true) (h1:fle k a x=true) (h2:fle k x b=true):fin k x=true:=by
 obtain ⟨s,m,e,hr⟩:=zu ha
 obtain ⟨t,n,i,hq⟩:=zu hb
 unfold fle Ieee.Format.order at h1 h2
 rw [hr] at h1
 rw [hq] at h2
 unfold fin
 cases hx:k.format.read x with
 | number a b c=>rfl
 | infinity u=>
  rw [hx] at h1 h2
  cases u
  ·cases h2
  ·cases h1
 | nan u v=>rw [hx] at h1;cases h1
theorem zex:fin .f32 1056964608=true:=by decide+kernel
theorem zd7:fin .f32 1098907648=true:=by decide+kernel
theorem zl8:0≤sv .f32 1056964608:=by decide+kernel
theorem zse:sv .f32 1098907648≤((2 ^ 153:Nat):Int):=by decide+kernel
theorem z16l:((2 ^ 148:Nat):Int)≤sv .f32 1056964608:=by decide+kernel
theorem z12g:Bd .f32 151 1077936128:=⟨by decide+kernel,by decide+kernel⟩
theorem top32 {T:Nat} (h:T≤250):top .f32 T:=by
 unfold top
 have e1:FloatKind.f32.format.binade=8388608:=by decide
 have e2:FloatKind.f32.format.infRung=255*8388608:=by decide
 rw [e1,e2];omega
theorem z12a {x:Nat} (h1:fle .f32 1056964608 x=true) (h2:fle .f32 x 1098907648=true):Bd .f32 153 x∧((2 ^ 148:Nat):Int)≤sv .f32 x:=by
 have hf:=zm4 zex zd7 h1 h2
 rw [z5k zex hf] at h1
 rw [z5k hf zd7] at h2
 have h1:=of_decide_eq_true h1
 have h2:=of_decide_eq_true h2
 have a:=zl8
 have b:=zse
 have c:=z16l
 generalize 2 ^ 148=A at *
 refine ⟨⟨hf,?_⟩,by omega⟩
 generalize 2 ^ 153=B at *
 omega
theorem z12h {x:Nat} (h1:fle .f32 1056964608 x=true) (h2:fle .f32 x 1098907648=true):Bd .f32 155 (fmul .f32 1077936128 x):=
 (Bd.mul (T:=132) z12g (z12a h1 h2).1 (top32 (by decide)) (by decide)).1
theorem z18u {x:Nat} (h:Bd .f32 155 x):Bd .f64 1081 (zh x):=by
 obtain ⟨s,m,q,hr,hm⟩:=h.out
 have hd:FloatKind.f32.decode x=.number s m (FloatKind.f32.format.leastPlace+q):=hr
 unfold zh
 rw [hd]
 show Bd .f64 1081 (FloatKind.f64.format.nearest s m _)
 have hl:FloatKind.f32.format.leastPlace=-149:=by decide
 by_cases h0:m=0
 ·subst h0
  rw [zcq]
  exact ((Bd.near (k:=.f64) (n:=0) (T:=0) (z2i (by decide)) (Nat.zero_le _) (by omega)).1).mono (by decide)
 ·have h1:=z13c h0 hm
  have h2:m≤2 ^ (m.log2+1):=Nat.le_of_lt Nat.lt_log2_self
  have h3:FloatKind.f64.format.leastPlace=-1074:=by decide
  exact (Bd.near (k:=.f64) (T:=1029) (z2i (by decide)) h2 (by rw [hl,h3,fb64];omega)).1
theorem zyz (way:Ieee.Toward) (s:Bool) (n d:Nat):way.cut s n d≤n / 2 ^ d+1:=by
 have hb:∀c:Bool,c.toNat≤1:=fun c=>by cases c<;>decide
 unfold Ieee.Toward.cut
 simp only [Nat.one_shiftLeft]
 by_cases h:d≤n.log2+2
 ·rw [Nat.min_eq_left h];exact Nat.add_le_add_left (hb _) _
 ·rw [Nat.min_eq_right (by omega)]
  have h1:n<2 ^ (n.log2+2):=Nat.lt_of_lt_of_le Nat.lt_log2_self (Nat.pow_le_pow_right (by decide) (by omega))
  rw [Nat.div_eq_of_lt h1]
  exact Nat.le_trans (Nat.add_le_add_left (hb _) _) (by rw [Nat.zero_add];exact Nat.le_add_left 1 _)
theorem zyt {m q L d:Nat} (h:m*2 ^ q≤2 ^ (L+7)) (hd:d+q=L):m / 2 ^ d≤128:=by
 have:m*2 ^ q≤(128*2 ^ d)*2 ^ q:=by
  rw [Nat.mul_assoc,←Nat.pow_add,hd]
  rw [Nat.pow_add] at h;omega
 have:=Nat.le_of_mul_le_mul_right this (Nat.two_pow_pos q)
 exact Nat.div_le_of_le_mul (by rw [Nat.mul_comm];exact this)
theorem zub {m c L:Nat} (h:m*2 ^ (c+L)≤2 ^ (L+7)):m*2 ^ c≤128:=by
 have:(m*2 ^ c)*2 ^ L≤128*2 ^ L:=by
  rw [Nat.mul_assoc,←Nat.pow_add]
  rw [Nat.pow_add 2 L 7] at h;omega
 exact Nat.le_of_mul_le_mul_right this (Nat.two_pow_pos L)
theorem z14j {x:Nat} (h:Bd .f64 1081 x):Bd .f64 1082 (fint .up x):=by
 obtain ⟨s,m,q,hr,hm⟩:=h.out
 unfold fint
 rw [hr,if_neg (fun h=>by cases h)]
 show Bd .f64 1082 (FloatKind.f64.format.nearest s (Ieee.Toward.up.cut s (m <<< (FloatKind.f64.format.leastPlace+(q:Int)).toNat) (-(FloatKind.f64.format.leastPlace+(q:Int))).toNat) 0)
 have h3:FloatKind.f64.format.leastPlace=-(1074:Nat):=by decide
 rw [h3]
 have hL:∃L,L=1074:=⟨_,rfl⟩
 obtain ⟨L,hL⟩:=hL
 rw [show 1081=L+7 by omega] at hm
 rw [←hL]
 have hc:Ieee.Toward.up.cut s (m <<< (-(L:Int)+(q:Int)).toNat) (-(-(L:Int)+(q:Int))).toNat≤2 ^ 8:=by
  refine Nat.le_trans (zyz _ _ _ _) ?_
  rw [Nat.shiftLeft_eq]
  by_cases hq:q≤L
  ·rw [show (-(L:Int)+(q:Int)).toNat=0 by omega,Nat.pow_zero,Nat.mul_one]
   have:=zyt (d:=(-(-(L:Int)+(q:Int))).toNat) hm (by omega)
   omega
  ·rw [show (-(-(L:Int)+(q:Int))).toNat=0 by omega,Nat.pow_zero,Nat.div_one]
   have:=zub (m:=m) (c:=(-(L:Int)+(q:Int)).toNat) (L:=L) (by rw [show (-(L:Int)+(q:Int)).toNat+L=q by omega];exact hm)
   omega
 have h4:FloatKind.f64.format.leastPlace=-1074:=by decide
 exact (Bd.near (k:=.f64) (n:=8) (T:=1030) (z2i (by decide)) hc (by rw [h4,fb64];decide)).1
def radOf (x:Nat):Int:=(ftoi .f64 (fint .up (zh (fmul .f32 1077936128 x))) .i64).getD 0
theorem zpk {x:Nat} (h1:fle .f32 1056964608 x=true) (h2:fle .f32 x 1098907648=true):∃n:Int,ftoi .f64 (fint .up (zh (fmul .f32 1077936128 x))) .i64=some n∧n.natAbs≤256:=by
 have h:=(z14j (z18u (z12h h1 h2))).pow (show 1082=8+lp .f64 by rw [lp64])
 obtain ⟨n,hn,hb⟩:=zvy h.1 (W:=8) (by decide) h.2
 exact ⟨n,hn,hb⟩
theorem z1df {x:Nat} (h:(bif fle .f32 1056964608 x then fle .f32 x 1098907648 else false)=true):ftoi .f64 (fint .up (zh (fmul .f32 1077936128 x))) .i64≠none:=by
 cases h1:fle .f32 1056964608 x
 ·rw [h1] at h;cases h
 ·rw [h1] at h
  obtain ⟨n,hn,_⟩:=zpk h1 h
  rw [hn];intro e;cases e
theorem z13f {x:Nat} (h:(bif fle .f32 1056964608 x then fle .f32 x 1098907648 else false)=true):-256≤(ftoi .f64 (fint .up (zh (fmul .f32 1077936128 x))) .i64).getD 0∧(ftoi .f64 (fint .up (zh (fmul .f32 1077936128 x))) .i64).getD 0≤256:=by
 cases h1:fle .f32 1056964608 x
 ·rw [h1] at h;cases h
 ·rw [h1] at h
  obtain ⟨n,hn,hb⟩:=zpk h1 h
  rw [hn]
  show -256≤n∧n≤256
  omega
end Go.Proofs.Ytbnplefohfamnaa.Ai
