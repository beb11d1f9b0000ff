/- Words of floats up to the bits of a NaN: the operations do not tell one NaN from another, and give no NaN but the one. -/
import Derived.Test.YtbnplefohfamnaaFFnAtomsAiA
import Derived.Laws.FloatArith
namespace Go.Proofs.Ytbnplefohfamnaa.Ai
open Go

theorem z2n (f:Ieee.Format) (s:Bool) {r:Nat} (h:r≤f.infRung):(f.read (f.word s r)).isNaN=false:=by
 have hlt:=f.infRung_lt
 have e:f.word s r % f.signWeight=r:=by
  unfold Ieee.Format.word
  split
  ·rw [Nat.add_mod_left];exact Nat.mod_eq_of_lt (by omega)
  ·exact Nat.mod_eq_of_lt (by omega)
 unfold Ieee.Format.read
 simp only [e]
 split
 ·rfl
 ·split
  ·rfl
  ·split
   ·rfl
   ·exfalso;omega

theorem z6t (f:Ieee.Format) {d:Ieee.Datum} (h:d.isNaN=false):(f.read (f.write d)).isNaN=false:=by
 cases d with
 | number s m e=>
  unfold Ieee.Format.write Ieee.Format.nearest
  simp only []
  split
  ·exact z2n f s (Nat.zero_le _)
  ·exact z2n f s (Nat.min_le_right _ _)
 | infinity s=>exact z2n f s (Nat.le_refl _)
 | nan s t=>cases h

theorem zo {k:FloatKind} {b:Nat} (h:(k.decode b).isNaN=false):cn k b=b:=by simp [cn,h]
theorem z1f {k:FloatKind} {b:Nat} (h:(k.decode b).isNaN=true):cn k b=qnan k:=by simp [cn,h]
theorem z5h (k:FloatKind):(k.decode (qnan k)).isNaN=true:=by cases k<;>decide+kernel
theorem zuf (k:FloatKind):cn k (qnan k)=qnan k:=z1f (z5h k)
theorem zf0 (k:FloatKind) (b:Nat):(k.decode (cn k b)).isNaN=(k.decode b).isNaN:=by
 cases h:(k.decode b).isNaN
 ·rw [zo h,h]
 ·rw [z1f h,z5h]
theorem cn_cn (k:FloatKind) (b:Nat):cn k (cn k b)=cn k b:=by
 cases h:(k.decode b).isNaN
 ·rw [zo h,zo h]
 ·rw [z1f h,zuf]
theorem z3b (k:FloatKind) {d:Ieee.Datum} (h:d.isNaN=false):cn k (k.encode d)=k.encode d:=zo (z6t k.format h)

theorem z1i (d:Ieee.Datum) (h:d.isNaN=true):∃s t,d=.nan s t:=by
 cases d with
 | nan s t=>exact ⟨s,t,rfl⟩
 | number s m e=>cases h
 | infinity s=>cases h

structure Sound2 (op:Ieee.Datum→Ieee.Datum→Option Ieee.Datum):Prop where
 left:∀s t d,op (.nan s t) d=none
 right:∀s t d,op d (.nan s t)=none
 not_nan:∀d e r,op d e=some r→r.isNaN=false

theorem z3t:Sound2 Ieee.Datum.sum where
 left s t d:=by cases d<;>rfl
 right s t d:=by cases d<;>rfl
 not_nan d e r h:=by
  cases d<;>cases e<;>simp only [Ieee.Datum.sum] at h
  all_goals (first | (cases h;done) | (cases h;rfl) | (split at h<;>cases h;rfl))
theorem zfn:Sound2 (fun d e=>Ieee.Datum.sum d e.opposite) where
 left s t d:=by cases d<;>rfl
 right s t d:=by cases d<;>rfl
 not_nan d e r h:=z3t.not_nan _ _ r h
theorem z1z:Sound2 Ieee.Datum.product where
 left s t d:=by cases d<;>rfl
 right s t d:=by cases d<;>rfl
 not_nan d e r h:=by
  cases d<;>cases e<;>simp only [Ieee.Datum.product] at h
  all_goals (first | (cases h;done) | (cases h;rfl) | (split at h<;>cases h;rfl))
theorem z5o (n:Nat):Sound2 (Ieee.Datum.quotient n) where
 left s t d:=by cases d<;>rfl
 right s t d:=by cases d<;>rfl
 not_nan d e r h:=by
  cases d<;>cases e<;>simp only [Ieee.Datum.quotient] at h
  all_goals (first | (cases h;done) | (cases h;rfl) | skip)
  split at h
  ·split at h
   ·cases h
   ·cases h;rfl
  ·cases h;rfl

theorem op_cn {op:Ieee.Datum→Ieee.Datum→Option Ieee.Datum} (ho:Sound2 op) (k:FloatKind) (x y:Nat):
  (op (k.format.read (cn k x)) (k.format.read (cn k y))).map k.format.write=(op (k.format.read x) (k.format.read y)).map k.format.write:=by
 have key:∀x,(∃s t,k.format.read x=.nan s t)∧(∃s t,k.format.read (cn k x)=.nan s t)∨cn k x=x:=by
  intro x
  cases h:(k.decode x).isNaN
  ·exact .inr (zo h)
  ·exact .inl ⟨z1i _ h,z1i _ (by rw [←h];exact zf0 k x)⟩
 rcases key x with ⟨⟨s,t,e1⟩,s',t',e2⟩ | e
 ·rw [e1,e2,ho.left,ho.left]
 ·rw [e]
  rcases key y with ⟨⟨s,t,e1⟩,s',t',e2⟩ | e
  ·rw [e1,e2,ho.right,ho.right]
  ·rw [e]

theorem z19a (k:FloatKind) (x y:Nat):k.format.add (cn k x) (cn k y)=k.format.add x y:=op_cn z3t k x y
theorem z1dm (k:FloatKind) (x y:Nat):k.format.sub (cn k x) (cn k y)=k.format.sub x y:=op_cn zfn k x y
theorem z1d3 (k:FloatKind) (x y:Nat):k.format.mul (cn k x) (cn k y)=k.format.mul x y:=op_cn z1z k x y
theorem z19m (k:FloatKind) (x y:Nat):k.format.div (cn k x) (cn k y)=k.format.div x y:=op_cn (z5o _) k x y

theorem zh3 {op:Ieee.Datum→Ieee.Datum→Option Ieee.Datum} (ho:Sound2 op) {k:FloatKind} {x y r:Nat}
  (h:(op (k.format.read x) (k.format.read y)).map k.format.write=some r):cn k r=r:=by
 cases hd:op (k.format.read x) (k.format.read y) with
 | none=>rw [hd] at h;cases h
 | some d=>rw [hd] at h;cases h;exact z3b k (ho.not_nan _ _ _ hd)
theorem zyo {k:FloatKind} {x y r:Nat} (h:k.format.add x y=some r):cn k r=r:=zh3 z3t h
theorem z12f {k:FloatKind} {x y r:Nat} (h:k.format.sub x y=some r):cn k r=r:=zh3 zfn h
theorem z11e {k:FloatKind} {x y r:Nat} (h:k.format.mul x y=some r):cn k r=r:=zh3 z1z h
theorem zz1 {k:FloatKind} {x y r:Nat} (h:k.format.div x y=some r):cn k r=r:=zh3 (z5o _) h

theorem z15u (k:FloatKind) (x y:Nat):fadd k (cn k x) (cn k y)=fadd k x y:=by unfold fadd;rw [z19a]
theorem z16f (k:FloatKind) (x y:Nat):fsub k (cn k x) (cn k y)=fsub k x y:=by unfold fsub;rw [z1dm]
theorem z16b (k:FloatKind) (x y:Nat):fmul k (cn k x) (cn k y)=fmul k x y:=by unfold fmul;rw [z1d3]
theorem z15x (k:FloatKind) (x y:Nat):fdiv k (cn k x) (cn k y)=fdiv k x y:=by unfold fdiv;rw [z19m]

theorem z3r (s:Bool) (t:Nat) (d:Ieee.Datum):Ieee.Datum.order (.nan s t) d=none:=by cases d<;>rfl
theorem z7g (s:Bool) (t:Nat) (d:Ieee.Datum):Ieee.Datum.order d (.nan s t)=none:=by cases d<;>rfl
theorem z5c (k:FloatKind) (x y:Nat):k.format.order (cn k x) (cn k y)=k.format.order x y:=by
 have key:∀x,(∃s t,k.format.read x=.nan s t)∧(∃s t,k.format.read (cn k x)=.nan s t)∨cn k x=x:=by
  intro x
  cases h:(k.decode x).isNaN
  ·exact .inr (zo h)
  ·exact .inl ⟨z1i _ h,z1i _ (by rw [←h];exact zf0 k x)⟩
 unfold Ieee.Format.order
 rcases key x with ⟨⟨s,t,e1⟩,s',t',e2⟩ | e
 ·rw [e1,e2,z3r,z3r]
 ·rw [e]
  rcases key y with ⟨⟨s,t,e1⟩,s',t',e2⟩ | e
  ·rw [e1,e2,z7g,z7g]
  ·rw [e]

theorem zf5 (k:FloatKind) (x y:Nat):k.format.order y x=(k.format.order x y).map Ordering.swap:=by
 have csw:∀a b:Int,compare a b=(compare b a).swap:=fun a b=>by
  rw [Int.compare_swap]
 have nsw:∀a b:Nat,compare a b=(compare b a).swap:=fun a b=>by rw [Nat.compare_swap]
 unfold Ieee.Format.order
 generalize k.format.read x=d
 generalize k.format.read y=e
 cases d<;>cases e<;>simp only [Ieee.Datum.order,Option.map_some,Option.map_none]
 ·rename_i s m i t n j
  rw [csw,Int.min_comm]
 ·rename_i s;cases s<;>rfl
 ·rename_i s _ _ t;cases s<;>rfl
 ·rename_i s t;rw [nsw]

theorem nan32 (t:Nat):(FloatKind.f32.decode ((t % 2)*2 ^ 31+0x7f800000+1+(t / 2) % (2 ^ 23-1))).isNaN=true:=by
 have h1:t / 2 % (2 ^ 23-1)<2 ^ 23-1:=Nat.mod_lt _ (by decide)
 have h2:t % 2<2:=Nat.mod_lt _ (by decide)
 generalize t / 2 % (2 ^ 23-1)=q at *
 generalize t % 2=s at *
 show (Ieee.Format.read Ieee.single _).isNaN=true
 unfold Ieee.Format.read
 have e:(s*2 ^ 31+0x7f800000+1+q) % Ieee.single.signWeight=0x7f800001+q:=by
  show _ % 2 ^ 31=_
  omega
 have b:Ieee.single.binade=2 ^ 23:=rfl
 have i:Ieee.single.infRung=0x7f800000:=rfl
 simp only [e,b,i]
 rw [if_neg (by omega),if_neg (by omega),if_neg (by omega)]
 rfl
theorem nan64 (t:Nat):(FloatKind.f64.decode ((t % 2)*2 ^ 63+0x7ff0000000000000+1+(t / 2) % (2 ^ 52-1))).isNaN=true:=by
 have h1:t / 2 % (2 ^ 52-1)<2 ^ 52-1:=Nat.mod_lt _ (by decide)
 have h2:t % 2<2:=Nat.mod_lt _ (by decide)
 generalize t / 2 % (2 ^ 52-1)=q at *
 generalize t % 2=s at *
 show (Ieee.Format.read Ieee.double _).isNaN=true
 unfold Ieee.Format.read
 have e:(s*2 ^ 63+0x7ff0000000000000+1+q) % Ieee.double.signWeight=0x7ff0000000000001+q:=by
  show _ % 2 ^ 63=_
  omega
 have b:Ieee.double.binade=2 ^ 52:=rfl
 have i:Ieee.double.infRung=0x7ff0000000000000:=rfl
 simp only [e,b,i]
 rw [if_neg (by omega),if_neg (by omega),if_neg (by omega)]
 rfl

theorem zlr (k:FloatKind) (x y t:Nat):cn k ((Question.nanBits k x y).cut t)=qnan k:=by
 cases k
 ·exact z1f (nan32 t)
 ·exact z1f (nan64 t)
theorem zca (k:FloatKind) (x t:Nat):cn k ((Question.nanConv k x).cut t)=qnan k:=by
 cases k
 ·exact z1f (nan32 t)
 ·exact z1f (nan64 t)
theorem z9m (k:FloatKind) (m:Bool) (x y t:Nat):cn k ((Question.nanMinMax k m x y).cut t)=qnan k:=by
 cases k
 ·exact z1f (nan32 t)
 ·exact z1f (nan64 t)

theorem zxx (b n:Nat):(b ^^^ 2 ^ n) % 2 ^ n=b % 2 ^ n:=by
 rw [Nat.xor_mod_two_pow];simp
theorem zmo (k:FloatKind) (b:Nat):(k.decode b).isNaN=decide (k.format.infRung<b % k.format.signWeight):=by
 have hb:k.format.binade≤k.format.infRung:=by cases k<;>decide
 show (k.format.read b).isNaN=_
 generalize k.format=f at *
 unfold Ieee.Format.read
 simp only []
 split
 ·simp [Ieee.Datum.isNaN];omega
 ·split
  ·simp [Ieee.Datum.isNaN];omega
  ·split
   ·simp [Ieee.Datum.isNaN];omega
   ·simp [Ieee.Datum.isNaN];omega
theorem zwn (k:FloatKind) (b:Nat):(k.decode (Op.negFloat k b)).isNaN=(k.decode b).isNaN:=by
 rw [zmo,zmo]
 have:Op.negFloat k b % k.format.signWeight=b % k.format.signWeight:=zxx b _
 rw [this]
theorem zlq (k:FloatKind) (b:Nat):cn k (Op.negFloat k b)=fneg k (cn k b):=by
 unfold fneg
 rw [zf0]
 cases h:(k.decode b).isNaN
 ·rw [zo (by rw [zwn,h]),zo h];rfl
 ·rw [z1f (by rw [zwn,h])];rfl

theorem z19j (way:Ieee.Toward) (s:Bool) (n d:Nat):way.cut s n d≤n+1:=by
 unfold Ieee.Toward.cut
 simp only []
 have hb:∀c:Bool,c.toNat≤1:=fun c=>by cases c<;>decide
 exact Nat.add_le_add (Nat.div_le_self _ _) (hb _)
theorem z7m (b:Nat) (s:Bool) (m:Nat) (e:Int) (h:FloatKind.f32.decode b=.number s m e):
  (FloatKind.f64.decode (FloatKind.f64.encode (.number s m e))).isInfinity=false:=by
 have hm:m<2 ^ 24∧e≤200:=by
  revert h
  show Ieee.Format.read Ieee.single b=_→_
  unfold Ieee.Format.read
  have bi:Ieee.single.binade=2 ^ 23:=rfl
  have ir:Ieee.single.infRung=255*2 ^ 23:=rfl
  have lp:Ieee.single.leastPlace=-149:=rfl
  simp only [bi,ir,lp]
  generalize b % Ieee.single.signWeight=r
  split
  ·intro h;cases h;omega
  ·split
   ·intro h;cases h
    have:=Nat.mod_lt r (y:=2 ^ 23) (by decide)
    constructor
    ·omega
    ·have:r / 2 ^ 23<255:=Nat.div_lt_of_lt_mul (by omega)
     omega
   ·split
    ·intro h;cases h
    ·intro h;cases h
 obtain ⟨hm,he⟩:=hm
 have key:∀r,r<Ieee.double.infRung→(Ieee.double.read (Ieee.double.word s r)).isInfinity=false:=by
  intro r hr
  have hlt:=Ieee.double.infRung_lt
  have e:Ieee.double.word s r % Ieee.double.signWeight=r:=by
   unfold Ieee.Format.word
   split
   ·rw [Nat.add_mod_left];exact Nat.mod_eq_of_lt (by omega)
   ·exact Nat.mod_eq_of_lt (by omega)
  unfold Ieee.Format.read
  simp only [e]
  split
  ·rfl
  ·rfl
 show (Ieee.double.read (Ieee.double.nearest s m e)).isInfinity=false
 unfold Ieee.Format.nearest
 split
 ·exact key 0 (by decide)
 ·rename_i hm0
  simp only []
  refine key _ ?_
  have lp:Ieee.double.leastPlace=-1074:=rfl
  have fb:(Ieee.double.fractionBits:Int)=52:=rfl
  have bi:Ieee.double.binade=2 ^ 52:=rfl
  have ir:Ieee.double.infRung=2047*2 ^ 52:=rfl
  rw [lp,fb,bi,ir]
  have hl:m.log2<24:=(Nat.log2_lt hm0).2 hm
  generalize hlast:max (e+(m.log2:Int)-52) (-1074)=last
  have h1:last≤172:=by omega
  have h2:-1074≤last:=by omega
  have h3:e+(m.log2:Int)-52≤last:=by omega
  -- the kept part
  have hkept:Ieee.Toward.even.cut s (m <<< (e-last).toNat) (last-e).toNat≤2 ^ 53:=by
   have hs:m <<< (e-last).toNat<2 ^ 53:=by
    rw [Nat.shiftLeft_eq]
    have a1:m<2 ^ (m.log2+1):=Nat.lt_log2_self
    have a2:m*2 ^ (e-last).toNat<2 ^ (m.log2+1)*2 ^ (e-last).toNat:=Nat.mul_lt_mul_of_pos_right a1 (Nat.two_pow_pos _)
    rw [←Nat.pow_add] at a2
    exact Nat.lt_of_lt_of_le a2 (Nat.pow_le_pow_right (by decide) (by omega))
   exact Nat.le_trans (z19j _ _ _ _) hs
  have hq:(last- -1074).toNat≤1246:=by omega
  have:(last- -1074).toNat*2 ^ 52≤1246*2 ^ 52:=Nat.mul_le_mul_right _ hq
  have h9:1246*2 ^ 52+2 ^ 53<2047*2 ^ 52:=by decide
  exact Nat.lt_of_le_of_lt (Nat.min_le_left _ _) (Nat.lt_of_le_of_lt (Nat.add_le_add this hkept) h9)
theorem zrb (k:FloatKind) (n:Int):cn k (k.nearest n)=k.nearest n:=z3b k rfl
theorem z16g (s:FloatKind) (b:Nat) (k:IntKind):ftoi s (cn s b) k=ftoi s b k:=by
 cases h:(s.decode b).isNaN
 ·rw [zo h]
 ·obtain ⟨x,y,e1⟩:=z1i _ h
  obtain ⟨x',y',e2⟩:=z1i (s.decode (cn s b)) ((zf0 s b).trans h)
  unfold ftoi
  rw [e1,e2]
  rfl
end Go.Proofs.Ytbnplefohfamnaa.Ai
