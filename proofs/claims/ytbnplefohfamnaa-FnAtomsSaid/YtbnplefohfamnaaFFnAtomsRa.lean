/- Numbers as rationals: what sums, products and quotients lose. -/
import Derived.Test.YtbnplefohfamnaaFFnAtomsEr
set_option linter.unusedVariables false
set_option linter.unusedSimpArgs false
namespace Go.Proofs.Ytbnplefohfamnaa.Ai
open Go

theorem z1o {a b c:Rat} (hc:0<c):a*c≤b*c↔a≤b:=by rw [←Rat.not_lt,←Rat.not_lt,Rat.mul_lt_mul_right hc]
theorem zpu (a b c:Rat):(a-b)*c=a*c-b*c:=by grind
def PP (k:FloatKind):Rat:=(((2 ^ lp k:Nat):Int):Rat)
def rq (k:FloatKind) (x:Nat):Rat:=(sv k x:Rat) / PP k
def uu:FloatKind→Nat
 | .f32=>24
 | .f64=>53
def ur (k:FloatKind):Rat:=1 / (((2 ^ uu k:Nat):Int):Rat)
theorem zav (n:Nat):(0:Rat)<(((2 ^ n:Nat):Int):Rat):=by
 have:(0:Int)<((2 ^ n:Nat):Int):=by have:=Nat.two_pow_pos n;omega
 exact Rat.intCast_pos.2 this
theorem zau (m n:Nat):((((2 ^ (m+n):Nat):Int)):Rat)=(((2 ^ m:Nat):Int):Rat)*(((2 ^ n:Nat):Int):Rat):=by
 rw [←Rat.intCast_mul,Nat.pow_add,Int.natCast_mul]
theorem z4t (k:FloatKind):0<PP k:=zav _
theorem z1v (k:FloatKind) (x:Nat):rq k x*PP k=(sv k x:Rat):=by
 unfold rq
 exact Rat.div_mul_cancel (Rat.ne_of_gt (z4t k))
theorem rq_lt {k:FloatKind} {x y:Nat}:sv k x<sv k y↔rq k x<rq k y:=by
 have h:=z4t k
 rw [←Rat.intCast_lt_intCast,←z1v,←z1v]
 exact Rat.mul_lt_mul_right h
theorem rq_le {k:FloatKind} {x y:Nat}:sv k x≤sv k y↔rq k x≤rq k y:=by
 have h:=z4t k
 rw [←Rat.intCast_le_intCast,←z1v,←z1v]
 exact z1o h
theorem z4h {P q A:Rat} {s:Int} {B:Nat} (hP:0<P) (hs:q*P=(s:Rat)) (hB:A*P=(((B:Nat):Int):Rat)):(-A≤q∧q≤A)↔s.natAbs≤B:=by
 have e1:-A≤q↔-((B:Nat):Int)≤s:=by
  rw [←z1o hP,hs,Rat.neg_mul,hB,←Rat.intCast_neg,Rat.intCast_le_intCast]
 have e2:q≤A↔s≤((B:Nat):Int):=by
  rw [←z1o hP,hs,hB,Rat.intCast_le_intCast]
 rw [e1,e2];omega
theorem zaw (k:FloatKind) (a:Nat) {A:Rat} (hA:A=(((2 ^ a:Nat):Int):Rat)):A*PP k=(((2 ^ (a+lp k):Nat):Int):Rat)∧A*ur k*PP k=(((2 ^ (a+(lp k-uu k)):Nat):Int):Rat):=by
 subst hA
 refine ⟨(zau _ _).symm,?_⟩
 have h1:lp k=uu k+(lp k-uu k):=by cases k<;>rfl
 have hu:=zav (uu k)
 unfold ur PP
 rw [zau a,show ((((2 ^ lp k:Nat):Int)):Rat)=(((2 ^ uu k:Nat):Int):Rat)*(((2 ^ (lp k-uu k):Nat):Int):Rat) from by rw [←zau,←h1]]
 generalize ((((2 ^ uu k:Nat):Int)):Rat)=U at *
 generalize ((((2 ^ (lp k-uu k):Nat):Int)):Rat)=V
 have:U≠0:=Rat.ne_of_gt hu
 grind
theorem top_k (k:FloatKind) {a:Nat} (h:a≤60):(a+(lp k-uu k)+2)*k.format.binade<k.format.infRung:=by
 cases k
 ·exact zxr (T:=a+125) (by omega)
 ·exact zxs (T:=a+1021) (by omega)
theorem bin_k (k:FloatKind) (a:Nat):2*k.format.binade*2 ^ (a+(lp k-uu k))=2 ^ (a+lp k):=by
 rw [z18s]
 cases k
 ·show 2 ^ (23+1+(a+125))=2 ^ (a+149);exact congrArg _ (by omega)
 ·show 2 ^ (52+1+(a+1021))=2 ^ (a+1074);exact congrArg _ (by omega)
theorem radd {k:FloatKind} {x y:Nat} (a:Nat) {A:Rat} (hA:A=(((2 ^ a:Nat):Int):Rat)) (ha:a≤60) (hx:fin k x=true) (hy:fin k y=true) (h1:-A≤rq k x+rq k y) (h2:rq k x+rq k y≤A):
  fin k (fadd k x y)=true∧-(A*ur k)≤rq k (fadd k x y)-(rq k x+rq k y)∧rq k (fadd k x y)-(rq k x+rq k y)≤A*ur k:=by
 obtain ⟨u1,u2⟩:=zaw k a hA
 have hp:=z4t k
 have e:(rq k x+rq k y)*PP k=((sv k x+sv k y:Int):Rat):=by rw [Rat.add_mul,z1v,z1v,Rat.intCast_add]
 have hb:=(z4h hp e u1).1 ⟨h1,h2⟩
 obtain ⟨f1,f2⟩:=z14f hx hy (top_k k ha) (by rw [bin_k];exact hb)
 refine ⟨f1,?_⟩
 exact (z4h hp (by rw [zpu,e,z1v,←Rat.intCast_sub]) u2).2 f2
theorem rneg {k:FloatKind} {x:Nat} (h:fin k x=true):rq k (fneg k x)=- rq k x:=by
 unfold rq;rw [zbd h,Rat.intCast_neg,Rat.div_def,Rat.neg_mul,←Rat.div_def]
theorem rsub {k:FloatKind} {x y:Nat} (a:Nat) {A:Rat} (hA:A=(((2 ^ a:Nat):Int):Rat)) (ha:a≤60) (hx:fin k x=true) (hy:fin k y=true) (h1:-A≤rq k x-rq k y) (h2:rq k x-rq k y≤A):
  fin k (fsub k x y)=true∧-(A*ur k)≤rq k (fsub k x y)-(rq k x-rq k y)∧rq k (fsub k x y)-(rq k x-rq k y)≤A*ur k:=by
 rw [z18m hy]
 have e:rq k x-rq k y=rq k x+rq k (fneg k y):=by rw [rneg hy,Rat.sub_eq_add_neg]
 rw [e] at h1 h2 ⊢
 exact radd a hA ha hx (z8z hy) h1 h2
theorem rmul {k:FloatKind} {x y:Nat} (a:Nat) {A:Rat} (hA:A=(((2 ^ a:Nat):Int):Rat)) (ha:a≤60) (hx:fin k x=true) (hy:fin k y=true) (h1:-A≤rq k x*rq k y) (h2:rq k x*rq k y≤A):
  fin k (fmul k x y)=true∧-(A*ur k)≤rq k (fmul k x y)-rq k x*rq k y∧rq k (fmul k x y)-rq k x*rq k y≤A*ur k:=by
 obtain ⟨u1,u2⟩:=zaw k a hA
 have hp:=z4t k
 have hpp:0<PP k*PP k:=Rat.mul_pos hp hp
 have e:rq k x*rq k y*(PP k*PP k)=((sv k x*sv k y:Int):Rat):=by
  rw [Rat.intCast_mul,←z1v,←z1v];grind
 have w1:A*(PP k*PP k)=(((2 ^ (a+lp k)*2 ^ lp k:Nat):Int):Rat):=by
  rw [Int.natCast_mul,Rat.intCast_mul,←u1];unfold PP;grind
 have w2:A*ur k*(PP k*PP k)=(((2 ^ (a+(lp k-uu k))*2 ^ lp k:Nat):Int):Rat):=by
  rw [Int.natCast_mul,Rat.intCast_mul,←u2];unfold PP;grind
 have hb:=(z4h hpp e w1).1 ⟨h1,h2⟩
 obtain ⟨f1,f2⟩:=z17g hx hy (top_k k ha) (by rw [bin_k,←Int.natAbs_mul];exact hb)
 refine ⟨f1,?_⟩
 refine (z4h hpp ?_ w2).2 f2
 have e3:((((2:Int) ^ lp k:Int)):Rat)=PP k:=by unfold PP;rw [Int.natCast_pow];rfl
 rw [zpu,e,←Rat.mul_assoc,z1v,Rat.intCast_sub,Rat.intCast_mul (sv k (fmul k x y)),e3]
theorem rdiv {k:FloatKind} {x y:Nat} (a:Nat) {A:Rat} (hA:A=(((2 ^ a:Nat):Int):Rat)) (ha:a≤60) (hx:fin k x=true) (hy:fin k y=true) (hy0:0<rq k y) (h1:-(A*rq k y)≤2*rq k x) (h2:2*rq k x≤A*rq k y):
  fin k (fdiv k x y)=true∧-(2*(A*ur k)*rq k y)≤rq k (fdiv k x y)*rq k y-rq k x∧rq k (fdiv k x y)*rq k y-rq k x≤2*(A*ur k)*rq k y:=by
 obtain ⟨u1,u2⟩:=zaw k a hA
 have hp:=z4t k
 have hpp:0<PP k*PP k:=Rat.mul_pos hp hp
 have y0:0<sv k y:=by
  rw [←Rat.intCast_pos,←z1v];exact Rat.mul_pos hy0 hp
 have ey:((sv k y:Int):Rat)=(((sv k y).natAbs:Int):Rat):=by rw [Int.natAbs_of_nonneg (Int.le_of_lt y0)]
 have e3:((((2:Int) ^ lp k:Int)):Rat)=PP k:=by unfold PP;rw [Int.natCast_pow];rfl
 have w0:2*rq k x*(PP k*PP k)=((2*sv k x*2 ^ lp k:Int):Rat):=by
  rw [Rat.intCast_mul,Rat.intCast_mul,e3,←z1v];grind
 have w1:A*rq k y*(PP k*PP k)=(((2 ^ (a+lp k)*(sv k y).natAbs:Nat):Int):Rat):=by
  rw [Int.natCast_mul,Rat.intCast_mul,←u1,←ey,←z1v];grind
 have hb:=(z4h hpp w0 w1).1 ⟨h1,h2⟩
 obtain ⟨f1,f2⟩:=z14o hx hy (by omega) (top_k k ha) (by
  have:=bin_k k a
  rw [Int.natAbs_mul,Int.natAbs_mul,Int.natAbs_pow,←this] at hb
  have e5:2*k.format.binade*2 ^ (a+(lp k-uu k))*(sv k y).natAbs=2*(k.format.binade*2 ^ (a+(lp k-uu k))*(sv k y).natAbs):=by simp only [Nat.mul_assoc]
  rw [e5,show (2:Int).natAbs=2 from rfl,Nat.mul_assoc] at hb
  omega)
 refine ⟨f1,?_⟩
 have w2:2*(A*ur k)*rq k y*(PP k*PP k)=(((2*2 ^ (a+(lp k-uu k))*(sv k y).natAbs:Nat):Int):Rat):=by
  rw [Int.natCast_mul,Rat.intCast_mul,Int.natCast_mul,Rat.intCast_mul,←u2,←ey,←z1v]
  show _=((2:Int):Rat)*_*_
  have:((2:Int):Rat)=2:=rfl
  rw [this];grind
 refine (z4h hpp ?_ w2).2 f2
 rw [Rat.intCast_sub,Rat.intCast_mul,Rat.intCast_mul,e3,←z1v,←z1v,←z1v];grind
theorem z1d8 {j k:FloatKind} (a b:Nat) (h:lp k=a+b) (g:lp j=a):PP k=PP j*(((2 ^ b:Nat):Int):Rat):=by
 unfold PP;rw [h,g,zau]
theorem zas {x:Nat} (h:fin .f32 x=true):fin .f64 (zh x)=true∧rq .f64 (zh x)=rq .f32 x:=by
 obtain ⟨f1,f2⟩:=zn1 h
 refine ⟨f1,?_⟩
 obtain ⟨b,hb⟩:∃b:Nat,b=925:=⟨_,rfl⟩
 have e:PP .f64=PP .f32*(((2 ^ b:Nat):Int):Rat):=z1d8 149 b (by rw [hb];rfl) rfl
 have f3:sv .f64 (zh x)=sv .f32 x*((2 ^ b:Nat):Int):=by rw [←zx5,hb];exact f2
 unfold rq
 rw [f3,Rat.intCast_mul,e]
 have h1:=zav b
 have h2:=z4t .f32
 generalize ((((2 ^ b:Nat):Int)):Rat)=U at *
 generalize PP .f32=V at *
 have:U≠0:=Rat.ne_of_gt h1
 have:V≠0:=Rat.ne_of_gt h2
 grind
theorem zbc {k:FloatKind} {x:Nat} {m:Int} (q s:Nat) (h:sv k x=m*((2 ^ q:Nat):Int)) (hs:q+s=lp k):rq k x*(((2 ^ s:Nat):Int):Rat)=(m:Rat):=by
 unfold rq PP
 rw [h,Rat.intCast_mul,←hs,zau]
 have h1:=zav q
 have h2:=zav s
 generalize ((((2 ^ q:Nat):Int)):Rat)=U at *
 generalize ((((2 ^ s:Nat):Int)):Rat)=V at *
 have:U≠0:=Rat.ne_of_gt h1
 have:V≠0:=Rat.ne_of_gt h2
 grind
theorem ur32:ur .f32=1 / 16777216:=rfl
theorem ur64:ur .f64=1 / 9007199254740992:=rfl
theorem z2t (k:FloatKind):rq k 0=0:=by unfold rq;rw [z1m];rw [Rat.div_def];exact Rat.zero_mul _
theorem zol {k:FloatKind} {x y:Nat} (hx:fin k x=true) (hy:fin k y=true):flt k x y=decide (rq k x<rq k y):=by
 rw [z2g hx hy];exact decide_eq_decide.2 rq_lt
theorem zvr {k:FloatKind} {x y:Nat} (hx:fin k x=true) (hy:fin k y=true):fle k x y=decide (rq k x≤rq k y):=by
 rw [z5k hx hy];exact decide_eq_decide.2 rq_le
end Go.Proofs.Ytbnplefohfamnaa.Ai
