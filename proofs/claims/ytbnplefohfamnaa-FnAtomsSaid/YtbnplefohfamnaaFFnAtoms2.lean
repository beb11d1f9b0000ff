/- What functions of the program come to on the abstract machine, and that they do so; printed by a program of mine around proofs of mine. -/
import Derived.Test.YtbnplefohfamnaaFFnAtoms1
set_option linter.unusedVariables false
set_option linter.unusedSimpArgs false
set_option linter.defProp false
set_option maxRecDepth 100000
set_option maxHeartbeats 1000000
namespace Go.Proofs.Ytbnplefohfamnaa.Ai
open Go
attribute [local irreducible] z1a zk

def z4b (y y_0:Nat) (ve:Int) (y_0':Nat) (ve_3:Int) (k3_5:Nat→Int→Nat):Nat→Nat→Int→Nat
 | 0,_,_=>0
 | μ3+1,q,k=>(bif decide ((1:Int)≤k) then (z4b y y_0 ve y_0' ve_3 k3_5 μ3 (fadd .f64 (fdiv .f64 4607182418800017408 (FloatKind.nearest .f64 k)) (fmul .f64 (fmul .f64 (fdiv .f64 (fsub .f64 y_0' 4607182418800017408) (fadd .f64 y_0' 4607182418800017408)) (fdiv .f64 (fsub .f64 y_0' 4607182418800017408) (fadd .f64 y_0' 4607182418800017408))) q)) (k-2)) else (k3_5 q k))
def z7w:=fun y y_0 ve y_0' ve_3 k3_5 μ3 q k=>@z4b.eq_2 y y_0 ve y_0' ve_3 k3_5 q k μ3
def z5f (y y_0:Nat) (ve:Int) (k2_3:Nat→Int→Nat):Nat→Nat→Int→Nat
 | 0,_,_=>0
 | μ2+1,y_0',ve_3=>(bif flt .f64 y_0' 4604930618986332160 then (z5f y y_0 ve k2_3 μ2 (fmul .f64 y_0' 4611686018427387904) (IntKind.wrap .i64 (ve_3-1))) else (k2_3 y_0' ve_3))
def z7v:=fun y y_0 ve k2_3 μ2 y_0' ve_3=>@z5f.eq_2 y y_0 ve k2_3 y_0' ve_3 μ2
def z4a (y:Nat):Nat→Nat→Int→Nat
 | 0,_,_=>0
 | μ+1,y_0,ve=>(bif fle .f64 4609434218613702656 y_0 then (z4a y μ (fdiv .f64 y_0 4611686018427387904) (IntKind.wrap .i64 (ve+1))) else (z5f y y_0 ve (fun (y_0':Nat) (ve_3:Int)=>(z4b y y_0 ve y_0' ve_3 (fun (q:Nat) (k:Int)=>fadd .f64 (fmul .f64 4611686018427387904 (fmul .f64 (fdiv .f64 (fsub .f64 y_0' 4607182418800017408) (fadd .f64 y_0' 4607182418800017408)) q)) (fmul .f64 (FloatKind.nearest .f64 ve_3) 4604418534313441775)) (Int.toNat ((25:Int)+1)+1) 0 (25:Int))) (Int.toNat ((4604930618986332160:Int)-y_0)+1) y_0 ve))
def z7u:=fun y μ y_0 ve=>@z4a.eq_2 y y_0 ve μ
def za4 (y:Nat):Nat:=(bif !(feq .f64 y y) then z5d else (bif flt .f64 y 0 then z5d else (bif feq .f64 y 0 then (zd1 ((-1):Int)) else (bif (zb6 y (1:Int)) then y else (z4a y (Int.toNat ((y:Int))+1) y (0:Int))))))
def zgs:=@za4.eq_1
def zyf (y:Nat) (H:zd) (K:Nat→zd→Prop):Prop:=Nrm y∧K (za4 y) H
theorem z13r {y:Nat} {H:zd} {K:Nat→zd→Prop} (h:Nrm y∧K (za4 y) H):zyf y H K:=h
theorem zmy {x x0 x':Nat} {ve ve_3:Int} {K:Nat→Int→Nat} (h0:4604930618986332160≤x') (h1:x'<4609434218613702656) (hK:∀q k,Bd .f64 1160 q→zl (K q k)≠none):
  ∀(μ:Nat) (n:Int) (A q:Nat),Bd .f64 A q→1074≤A→(A:Int)≤1155-3*n→n≤25→-1≤n→zl (z4b x x0 ve x' ve_3 K μ q n)≠none:=by
 intro μ
 induction μ with
 | zero=>intro n A q _ _ _ _ _;exact (by decide+kernel:zl 0≠none)
 | succ μ ih=>
  intro n A q hq hA hA2 hn hn1
  rw [z7w]
  by_cases h:(1:Int)≤n
  ·rw [dct h,cond_true]
   exact ih (n-2) (A+6) _ (zk8 (zey h0 h1) h ω2 hq hA ω2) ω2 ω2 ω2 ω2
  ·rw [dcf h,cond_false]
   exact hK _ _ (hq.mono ω2)
theorem zmx {x x0:Nat} {ve:Int} {K:Nat→Int→Nat} (hK:∀x' (e:Int),4604930618986332160≤x'→x'<4609434218613702656→e.natAbs≤4000→zl (K x' e)≠none):
  ∀(μ:Nat) (x':Nat) (e:Int),4503599627370496≤x'→x'<4609434218613702656→(4609434218613702656:Int)-x'≤(e+3000)*4503599627370496→e≤2100→
   zl (z5f x x0 ve K μ x' e)≠none:=by
 intro μ
 induction μ with
 | zero=>intro x' e _ _ _ _;exact (by decide+kernel:zl 0≠none)
 | succ μ ih=>
  intro x' e h0 h1 h2 h3
  rw [z7v]
  cases hc:flt .f64 x' 4604930618986332160 with
  | true=>
   have:=z2z h0 ω2 hc
   rw [cond_true,zy (n:=e-1) ω2 ω2,this.1]
   exact ih _ _ ω2 ω2 ω2 ω2
  | false=>
   rw [cond_false]
   rw [zbb h0 ω2 ω11 ω11] at hc
   have:=odf hc
   exact hK _ _ ω2 h1 ω2
theorem zmw {x:Nat}:
  ∀(μ:Nat) (x0:Nat) (e:Int),4503599627370496≤x0→x0<9218868437227405312→e*4503599627370496+x0≤9218868437227405312→0≤e→
   zl (z4a x μ x0 e)≠none:=by
 intro μ
 induction μ with
 | zero=>intro x0 e _ _ _ _;exact (by decide+kernel:zl 0≠none)
 | succ μ ih=>
  intro x0 e h0 h1 h2 h3
  rw [z7u]
  cases hc:fle .f64 4609434218613702656 x0 with
  | true=>
   have:=z2u h0 h1 hc
   rw [cond_true,zy (n:=e+1) ω2 ω2,this.1]
   exact ih _ _ ω2 ω2 ω2 ω2
  | false=>
   rw [cond_false]
   rw [z8t ω11 ω11 h0 h1] at hc
   have:=odf hc
   refine zmx ?_ _ _ _ h0 ω2 ω2 ω2
   intro x' e' a0 a1 a2
   refine zmy a0 a1 ?_ _ 25 1074 0 (zfz _) ω11 ω11 ω11 ω11
   intro q k hq
   exact zow (zgh a0 a1) hq ω11 ω11 a2
theorem zkz (x:Nat):zl (za4 (zh x))≠none:=by
 rw [zgs]
 cases h1:feq .f64 (zh x) (zh x) with
 | false=>exact (by decide+kernel:zl z5d≠none)
 | true=>
  cases h2:flt .f64 (zh x) 0 with
  | true=>exact (by decide+kernel:zl z5d≠none)
  | false=>
   cases h3:feq .f64 (zh x) 0 with
   | true=>exact (by decide+kernel:zl (zd1 (-1))≠none)
   | false=>
    cases h4:zb6 (zh x) 1 with
    | true=>exact zrx x h4
    | false=>
     have h:=zmp (zh7 x) h1 h2 h3 h4
     rw [Bool.not_true,cond_false,cond_false,cond_false,cond_false]
     exact zmw _ _ 0 h.1 h.2 ω2 ω11
def z3w:Env:=envOf [(187,zb1),(186,zb0),(225,zek)]
def zsx:List Value→zd→(Value→zd→Prop)→Prop
 | [.float .f64 y],H,K=>zyf y H fun (r1:Nat) (H':zd)=>K (.float .f64 r1) H'
 | _,_,_=>False
def zqs:FSpec:={F:=zsx,quiet:=true,tame:=false}
theorem z1ao (y:Nat) (H:zd) (K:KT):zk Try.prog z3w Try.f199 [.float .f64 y] H K=
 (Br (!(feq .f64 y y)) (z9j  H fun (r1:Nat) (H1:zd)=>K (.float .f64 r1) H1) (Br (flt .f64 y 0) (z9j  H fun (r2:Nat) (H2:zd)=>K (.float .f64 r2) H2) (Br (feq .f64 y 0) (zc6 (-1) H fun (r3:Nat) (H3:zd)=>K (.float .f64 r3) H3) (ziw y 1 H fun (r4:Bool) (H4:zd)=>Br r4 (K (.float .f64 y) H4) (z1b (exL Try.prog z3w (cl (cl (cl (cr (cr (cr (zg Try.f199))))))) 9 4 [(1,9)]) (.float .f64 y::ud2 (.int .i64 0::ud60 [])) H4 (zn 1 (seqQ (exL Try.prog z3w (cr (cr (cr (cr (zg Try.f199))))) 4 4 []) (retK Try.prog Try.f199 K)))))))):=by kernel_rfl
abbrev zjj  (y_0:Nat) (ve:Int)  :List Value:=(.float .f64 y_0::ud2 (.int .i64 ve::ud60 []))
theorem z1al  (y_0:Nat) (ve:Int)  (H:zd) (R:Post):exL Try.prog z3w (cl (cl (cl (cr (cr (cr (zg Try.f199))))))) 9 4 [(1,9)] (zjj y_0 ve) H R=
 (Br (fle .f64 4609434218613702656 y_0) (R .normal (.float .f64 (fdiv .f64 y_0 4611686018427387904)::ud2 (.int .i64 (IntKind.wrap .i64 (ve+1))::ud60 [])) H) (R (.exit 1) (.float .f64 y_0::ud2 (.int .i64 ve::ud60 [])) H)):=by kernel_rfl
def zve  (Inv:Nat→Nat→Int→zd→Prop):Nat→List Value→zd→Prop:=fun μ tm H=>∃y_0:Nat,∃ve:Int,tm=(zjj y_0 ve)∧Inv μ y_0 ve H
theorem z1ae  {Q:Post} (Inv:Nat→Nat→Int→zd→Prop) (ν:Nat) (y_0:Nat) (ve:Int)  (H:zd) (h0:Inv ν y_0 ve H)
  (hs:∀(μ:Nat) (y_0:Nat) (ve:Int)  (H:zd),Inv μ y_0 ve H→exL Try.prog z3w (cl (cl (cl (cr (cr (cr (zg Try.f199))))))) 9 4 [(1,9)] (zjj y_0 ve) H (zp (zve  Inv) μ Q)):z1b (exL Try.prog z3w (cl (cl (cl (cr (cr (cr (zg Try.f199))))))) 9 4 [(1,9)]) (zjj y_0 ve) H Q:=
 ⟨zve  Inv,ν,⟨y_0,ve,rfl,h0⟩,fun μ tm H h=>by obtain ⟨y_0,ve,rfl,hI⟩:=h;exact hs μ y_0 ve  H hI⟩
theorem z1ah  {Q:Post} {Inv:Nat→Nat→Int→zd→Prop} {μ:Nat} (μ':Nat) {y_0:Nat} {ve:Int}  {H:zd} (hm:μ'<μ) (hI:Inv μ' y_0 ve H):zp (zve  Inv) μ Q .normal (zjj y_0 ve) H:=⟨μ',hm,y_0,ve,rfl,hI⟩
theorem zzh (y_0:Nat) (ve:Int) (H:zd) (K:KT)  {I:Nat→List Value→zd→Prop} {μ:Nat}:zp I μ (zn 1 (seqQ (exL Try.prog z3w (cr (cr (cr (cr (zg Try.f199))))) 4 4 []) (retK Try.prog Try.f199 K))) (.exit 1) (.float .f64 y_0::ud2 (.int .i64 ve::ud60 [])) H=
 (z1b (exL Try.prog z3w (cl (cl (cl (cr (cr (cr (cr (zg Try.f199)))))))) 9 4 [(3,9)]) (.float .f64 y_0::ud2 (.int .i64 ve::ud60 [])) H (zn 3 (seqQ (exL Try.prog z3w (cr (cr (cr (cr (cr (zg Try.f199)))))) 4 4 []) (retK Try.prog Try.f199 K)))):=by kernel_rfl
abbrev zjk  (y_0':Nat) (ve_3:Int)  :List Value:=(.float .f64 y_0'::ud2 (.int .i64 ve_3::ud60 []))
theorem z1am  (y_0':Nat) (ve_3:Int)  (H:zd) (R:Post):exL Try.prog z3w (cl (cl (cl (cr (cr (cr (cr (zg Try.f199)))))))) 9 4 [(3,9)] (zjk y_0' ve_3) H R=
 (Br (flt .f64 y_0' 4604930618986332160) (R .normal (.float .f64 (fmul .f64 y_0' 4611686018427387904)::ud2 (.int .i64 (IntKind.wrap .i64 (ve_3-1))::ud60 [])) H) (R (.exit 3) (.float .f64 y_0'::ud2 (.int .i64 ve_3::ud60 [])) H)):=by kernel_rfl
def zvf  (Inv:Nat→Nat→Int→zd→Prop):Nat→List Value→zd→Prop:=fun μ tm H=>∃y_0':Nat,∃ve_3:Int,tm=(zjk y_0' ve_3)∧Inv μ y_0' ve_3 H
theorem z1af  {Q:Post} (Inv:Nat→Nat→Int→zd→Prop) (ν:Nat) (y_0':Nat) (ve_3:Int)  (H:zd) (h0:Inv ν y_0' ve_3 H)
  (hs:∀(μ:Nat) (y_0':Nat) (ve_3:Int)  (H:zd),Inv μ y_0' ve_3 H→exL Try.prog z3w (cl (cl (cl (cr (cr (cr (cr (zg Try.f199)))))))) 9 4 [(3,9)] (zjk y_0' ve_3) H (zp (zvf  Inv) μ Q)):z1b (exL Try.prog z3w (cl (cl (cl (cr (cr (cr (cr (zg Try.f199)))))))) 9 4 [(3,9)]) (zjk y_0' ve_3) H Q:=
 ⟨zvf  Inv,ν,⟨y_0',ve_3,rfl,h0⟩,fun μ tm H h=>by obtain ⟨y_0',ve_3,rfl,hI⟩:=h;exact hs μ y_0' ve_3  H hI⟩
theorem z1ai  {Q:Post} {Inv:Nat→Nat→Int→zd→Prop} {μ:Nat} (μ':Nat) {y_0':Nat} {ve_3:Int}  {H:zd} (hm:μ'<μ) (hI:Inv μ' y_0' ve_3 H):zp (zvf  Inv) μ Q .normal (zjk y_0' ve_3) H:=⟨μ',hm,y_0',ve_3,rfl,hI⟩
theorem zzi (y_0':Nat) (ve_3:Int) (H:zd) (K:KT)  {I:Nat→List Value→zd→Prop} {μ:Nat}:zp I μ (zn 3 (seqQ (exL Try.prog z3w (cr (cr (cr (cr (cr (zg Try.f199)))))) 4 4 []) (retK Try.prog Try.f199 K))) (.exit 3) (.float .f64 y_0'::ud2 (.int .i64 ve_3::ud60 [])) H=
 (z1b (exL Try.prog z3w (cl (cl (cr (cl (cr (cr (cr (cr (cr (cr (cr (cr (zg Try.f199))))))))))))) 248 4 [(5,88)]) (ud3 (.int .i64 ve_3::.float .f64 (fdiv .f64 (fsub .f64 y_0' 4607182418800017408) (fadd .f64 y_0' 4607182418800017408))::.float .f64 (fmul .f64 (fdiv .f64 (fsub .f64 y_0' 4607182418800017408) (fadd .f64 y_0' 4607182418800017408)) (fdiv .f64 (fsub .f64 y_0' 4607182418800017408) (fadd .f64 y_0' 4607182418800017408)))::.float .f64 0::.int .i64 25::ud56 [])) H (zn 5 (seqQ (exL Try.prog z3w (cr (cr (cr (cr (cr (cr (cr (cr (cr (zg Try.f199)))))))))) 4 4 []) (retK Try.prog Try.f199 K)))):=by kernel_rfl
abbrev zjl (ve_3:Int) (y_0' q:Nat) (k:Int)  :List Value:=(ud3 (.int .i64 ve_3::.float .f64 (fdiv .f64 (fsub .f64 y_0' 4607182418800017408) (fadd .f64 y_0' 4607182418800017408))::.float .f64 (fmul .f64 (fdiv .f64 (fsub .f64 y_0' 4607182418800017408) (fadd .f64 y_0' 4607182418800017408)) (fdiv .f64 (fsub .f64 y_0' 4607182418800017408) (fadd .f64 y_0' 4607182418800017408)))::.float .f64 q::.int .i64 k::ud56 []))
theorem z1an (ve_3:Int) (y_0' q:Nat) (k:Int)  (H:zd) (R:Post):exL Try.prog z3w (cl (cl (cr (cl (cr (cr (cr (cr (cr (cr (cr (cr (zg Try.f199))))))))))))) 248 4 [(5,88)] (zjl ve_3 y_0' q k) H R=
 (Br (decide ((1:Int)≤k)) (R .normal (ud3 (.int .i64 ve_3::.float .f64 (fdiv .f64 (fsub .f64 y_0' 4607182418800017408) (fadd .f64 y_0' 4607182418800017408))::.float .f64 (fmul .f64 (fdiv .f64 (fsub .f64 y_0' 4607182418800017408) (fadd .f64 y_0' 4607182418800017408)) (fdiv .f64 (fsub .f64 y_0' 4607182418800017408) (fadd .f64 y_0' 4607182418800017408)))::.float .f64 (fadd .f64 (fdiv .f64 4607182418800017408 (FloatKind.nearest .f64 k)) (fmul .f64 (fmul .f64 (fdiv .f64 (fsub .f64 y_0' 4607182418800017408) (fadd .f64 y_0' 4607182418800017408)) (fdiv .f64 (fsub .f64 y_0' 4607182418800017408) (fadd .f64 y_0' 4607182418800017408))) q))::.int .i64 (IntKind.wrap .i64 (k-2))::ud56 [])) H) (R (.exit 5) (ud3 (.int .i64 ve_3::.float .f64 (fdiv .f64 (fsub .f64 y_0' 4607182418800017408) (fadd .f64 y_0' 4607182418800017408))::ud::.float .f64 q::ud57 [])) H)):=by kernel_rfl
def zvg (ve_3:Int) (y_0':Nat) (Inv:Nat→Nat→Int→zd→Prop):Nat→List Value→zd→Prop:=fun μ tm H=>∃q:Nat,∃k:Int,tm=(zjl ve_3 y_0' q k)∧Inv μ q k H
theorem z1ag (ve_3:Int) (y_0':Nat) {Q:Post} (Inv:Nat→Nat→Int→zd→Prop) (ν q:Nat) (k:Int)  (H:zd) (h0:Inv ν q k H)
  (hs:∀(μ:Nat) (q:Nat) (k:Int)  (H:zd),Inv μ q k H→exL Try.prog z3w (cl (cl (cr (cl (cr (cr (cr (cr (cr (cr (cr (cr (zg Try.f199))))))))))))) 248 4 [(5,88)] (zjl ve_3 y_0' q k) H (zp (zvg ve_3 y_0' Inv) μ Q)):z1b (exL Try.prog z3w (cl (cl (cr (cl (cr (cr (cr (cr (cr (cr (cr (cr (zg Try.f199))))))))))))) 248 4 [(5,88)]) (zjl ve_3 y_0' q k) H Q:=
 ⟨zvg ve_3 y_0' Inv,ν,⟨q,k,rfl,h0⟩,fun μ tm H h=>by obtain ⟨q,k,rfl,hI⟩:=h;exact hs μ q k  H hI⟩
theorem z1aj {ve_3:Int} {y_0':Nat} {Q:Post} {Inv:Nat→Nat→Int→zd→Prop} {μ:Nat} (μ':Nat) {q:Nat} {k:Int}  {H:zd} (hm:μ'<μ) (hI:Inv μ' q k H):zp (zvg ve_3 y_0' Inv) μ Q .normal (zjl ve_3 y_0' q k) H:=⟨μ',hm,q,k,rfl,hI⟩
theorem zzj (ve_3:Int) (y_0' q:Nat) (H:zd) (K:KT)  {I:Nat→List Value→zd→Prop} {μ:Nat}:zp I μ (zn 5 (seqQ (exL Try.prog z3w (cr (cr (cr (cr (cr (cr (cr (cr (cr (zg Try.f199)))))))))) 4 4 []) (retK Try.prog Try.f199 K))) (.exit 5) (ud3 (.int .i64 ve_3::.float .f64 (fdiv .f64 (fsub .f64 y_0' 4607182418800017408) (fadd .f64 y_0' 4607182418800017408))::ud::.float .f64 q::ud57 [])) H=
 (K (.float .f64 (fadd .f64 (fmul .f64 4611686018427387904 (fmul .f64 (fdiv .f64 (fsub .f64 y_0' 4607182418800017408) (fadd .f64 y_0' 4607182418800017408)) q)) (fmul .f64 (FloatKind.nearest .f64 ve_3) 4604418534313441775))) H):=by kernel_rfl
theorem znh:∀g,FnOk Try.prog g (z3w g):=FnOk.envOf (by
 intro x hx
 simp only [List.mem_cons,List.not_mem_nil,or_false] at hx
 rcases hx with rfl | rfl | rfl
 ·exact zm3
 ·exact zm2
 ·exact z15h)
theorem ω28 {P:Prop} (h:P:=by first | omega | (simp;done) | (simp;omega) | (first | (have:=zmp (by assumption) (by assumption) (by assumption) (by assumption) ((by assumption:(1:Int)=1→_) rfl);omega) | (have:=z2u (by assumption) (by assumption) (by assumption);omega))):P:=h
theorem ω21 {P:Prop} (h:P:=by first | omega | (first | (have:=zmp (by assumption) (by assumption) (by assumption) (by assumption) ((by assumption:(1:Int)=1→_) rfl);omega) | (have:=z2u (by assumption) (by assumption) (by assumption);omega)) | (simp only [List.length_append,List.length_cons,List.length_nil,List.length_set];done) | (simp only [List.length_append,List.length_cons,List.length_nil,List.length_set];omega)):P:=h
theorem zzg (y:Nat) (H:zd) (K:KT) (h:zyf y H fun (r1:Nat) (H':zd)=>K (.float .f64 r1) H'):zk Try.prog z3w Try.f199 [.float .f64 y] H K:=by
 rw [z1ao]
 obtain ⟨pr0,hk⟩:=h
 have e:(za4 y)=_:=rfl
 have e:=e.trans (zgs y)
 have g0:=Grow.refl H
 refine Br.intro (fun c_1=>?_) (fun c_1=>?_)
 ·have e:=e.trans (zj c_1)
  have c_1n:=zv c_1
  refine z9k ?_
  rw [e] at hk
  exact hk
 ·have e:=e.trans (zi c_1)
  have c_1n:=zr c_1
  refine Br.intro (fun c_2=>?_) (fun c_2=>?_)
  ·have e:=e.trans (zj c_2)
   refine z9k ?_
   rw [e] at hk
   exact hk
  ·have e:=e.trans (zi c_2)
   refine Br.intro (fun c_3=>?_) (fun c_3=>?_)
   ·have e:=e.trans (zj c_3)
    refine zfv ?_
    rw [e] at hk
    exact hk
   ·have e:=e.trans (zi c_3)
    refine zy8 ?_
    refine Br.intro (fun c_4=>?_) (fun c_4=>?_)
    ·have e:=e.trans (zj c_4)
     rw [e] at hk
     exact hk
    ·have e:=e.trans (zi c_4)
     have c_4':=z19p c_4
     refine z1ae  (fun (μ:Nat) (y_0:Nat) (ve:Int) (H_1:zd)=>H=H_1∧4503599627370496≤y_0∧y_0<9218868437227405312∧(y_0:Int)≤(μ:Int)∧za4 y=z4a y (μ+1) y_0 ve) (Int.toNat ((y:Int))) _ _ H ?_ ?_
     ·exact ⟨rfl,ω28,ω28,ω2,e⟩
     ·intro μ y_0 ve  H_1 hI
      obtain ⟨rfl,v5,v6,hμ,e⟩:=hI
      rw [z1al]
      have e:=e.trans (z7u y μ y_0 ve)
      have l_7:=g0.1
      refine Br.intro (fun c_8=>?_) (fun c_8=>?_)
      ·have e:=e.trans (zj c_8)
       refine z1ah (μ-1) ω33 ⟨rfl,ω21,ω21,ω33,ω36⟩
      ·have e:=e.trans (zi c_8)
       rw [zzh]
       refine z1af  (fun (μ2:Nat) (y_0':Nat) (ve_3:Int) (H_2:zd)=>H=H_2∧4503599627370496≤y_0'∧y_0'<9218868437227405312∧(4604930618986332160:Int)-y_0'≤(μ2:Int)∧za4 y=z5f y y_0 ve (fun (y_0':Nat) (ve_3:Int)=>(z4b y y_0 ve y_0' ve_3 (fun (q:Nat) (k:Int)=>fadd .f64 (fmul .f64 4611686018427387904 (fmul .f64 (fdiv .f64 (fsub .f64 y_0' 4607182418800017408) (fadd .f64 y_0' 4607182418800017408)) q)) (fmul .f64 (FloatKind.nearest .f64 ve_3) 4604418534313441775)) (Int.toNat ((25:Int)+1)+1) 0 (25:Int))) (μ2+1) y_0' ve_3) (Int.toNat ((4604930618986332160:Int)-y_0)) _ _ H ?_ ?_
       ·exact ⟨rfl,ω29,ω29,ω2,e⟩
       ·intro μ2 y_0' ve_3  H_2 hI
        obtain ⟨rfl,v9,v10,hμ,e⟩:=hI
        rw [z1am]
        have e:=e.trans (z7v y y_0 ve (fun (y_0':Nat) (ve_3:Int)=>(z4b y y_0 ve y_0' ve_3 (fun (q:Nat) (k:Int)=>fadd .f64 (fmul .f64 4611686018427387904 (fmul .f64 (fdiv .f64 (fsub .f64 y_0' 4607182418800017408) (fadd .f64 y_0' 4607182418800017408)) q)) (fmul .f64 (FloatKind.nearest .f64 ve_3) 4604418534313441775)) (Int.toNat ((25:Int)+1)+1) 0 (25:Int))) μ2 y_0' ve_3)
        have l11:=g0.1
        refine Br.intro (fun c_12=>?_) (fun c_12=>?_)
        ·have e:=e.trans (zj c_12)
         refine z1ai (μ2-1) ω32 ⟨rfl,ω15,ω15,ω32,ω35⟩
        ·have e:=e.trans (zi c_12)
         rw [zzi]
         refine z1ag _ _ (fun (μ3:Nat) (q:Nat) (k:Int) (H_3:zd)=>H=H_3∧k≤25∧-1≤k∧k+1≤(μ3:Int)∧za4 y=z4b y y_0 ve y_0' ve_3 (fun (q:Nat) (k:Int)=>fadd .f64 (fmul .f64 4611686018427387904 (fmul .f64 (fdiv .f64 (fsub .f64 y_0' 4607182418800017408) (fadd .f64 y_0' 4607182418800017408)) q)) (fmul .f64 (FloatKind.nearest .f64 ve_3) 4604418534313441775)) (μ3+1) q k) (Int.toNat ((25:Int)+1)) _ _ H ?_ ?_
         ·exact ⟨rfl,ω3,ω3,ω2,e⟩
         ·intro μ3 q k  H_3 hI
          obtain ⟨rfl,v13,v14,hμ,e⟩:=hI
          rw [z1an]
          have e:=e.trans (z7w y y_0 ve y_0' ve_3 (fun (q:Nat) (k:Int)=>fadd .f64 (fmul .f64 4611686018427387904 (fmul .f64 (fdiv .f64 (fsub .f64 y_0' 4607182418800017408) (fadd .f64 y_0' 4607182418800017408)) q)) (fmul .f64 (FloatKind.nearest .f64 ve_3) 4604418534313441775)) μ3 q k)
          have l15:=g0.1
          refine Br.intro (fun c_16=>?_) (fun c_16=>?_)
          ·have e:=e.trans (zj c_16)
           have c_16':=odt c_16
           rw [show IntKind.wrap .i64 (k-2)=(k-2) from zy ω2 ω2]
           refine z1aj (μ3-1) ω18 ⟨rfl,ω1,ω1,ω18,(by rw [show μ3-1+1=μ3 from by first | omega];exact e)⟩
          ·have e:=e.trans (zi c_16)
           have c_16':=odf c_16
           rw [zzj]
           rw [e] at hk
           exact hk
theorem z1ak:FnOk Try.prog 199 zqs:=by
 refine FnOk.body mix_ok znh Try.func199 rfl ω5 ω5 ?_ ?_ ?_ ?_ ?_
 ·intro args H K K' h hk
  simp only [zqs] at *
  unfold zsx at *
  split at hk
  ·obtain ⟨pr0,k⟩:=hk
   exact ⟨pr0,h _ _ k⟩
  ·exact hk.elim
 ·intro _ args H K hk
  simp only [zqs] at *
  unfold zsx at *
  split at hk
  ·obtain ⟨pr0,k⟩:=hk
   exact ⟨_,k,fun K' k'=>⟨pr0,k'⟩⟩
  ·exact hk.elim
 ·intro args H K hk
  simp only [zqs] at *
  unfold zsx at *
  split at hk
  ·obtain ⟨pr0,k⟩:=hk
   exact ⟨_,_,k⟩
  ·exact hk.elim
 ·intro hq;cases hq
 ·have mm:=@zzg
  have ml:=fun (args:List Value) (H:zd) (K:KT)=>zf (P:=Try.prog) (env:=z3w) (fn:=Try.f199) (args:=args) (H:=H) (K:=K) znh 
  revert mm ml
  generalize z1a Try.prog z3w Try.f199=Q
  generalize zk Try.prog z3w Try.f199=QL
  intro mm ml args H K hk
  simp only [zqs] at *
  unfold zsx at *
  split at hk
  ·exact ml _ H K (mm _ H K hk)
  ·exact hk.elim

def zwx (x:Nat):Nat:=((zl x).getD 0)
def z11o:=@zwx.eq_1
def zyj (x:Nat) (H:zd) (K:Nat→zd→Prop):Prop:=zl x≠none∧K (zwx x) H
theorem z13x {x:Nat} {H:zd} {K:Nat→zd→Prop} (h:zl x≠none∧K (zwx x) H):zyj x H K:=h

def zqb:Env:=envOf []
def zt4:List Value→zd→(Value→zd→Prop)→Prop
 | [.float .f64 x],H,K=>zyj x H fun (r1:Nat) (H':zd)=>K (.float .f32 r1) H'
 | _,_,_=>False
def zqx:FSpec:={F:=zt4,quiet:=true,tame:=false}
theorem z1bh (x:Nat) (H:zd) (K:KT):zk Try.prog zqb Try.f198 [.float .f64 x] H K=
 (∃x1:Nat,zl x=some x1∧K (.float .f32 x1) H):=by kernel_rfl
theorem zno:∀g,FnOk Try.prog g (zqb g):=FnOk.envOf (by
 intro x hx;cases hx)
theorem zzx (x:Nat) (H:zd) (K:KT) (h:zyj x H fun (r1:Nat) (H':zd)=>K (.float .f32 r1) H'):zk Try.prog zqb Try.f198 [.float .f64 x] H K:=by
 rw [z1bh]
 obtain ⟨pr0,hk⟩:=h
 have e:(zwx x)=_:=rfl
 have e:=e.trans (z11o x)
 have g0:=Grow.refl H
 refine ⟨_,z2c (d:=0) (by assumption),?_⟩
 rw [e] at hk
 exact hk
theorem z1bg:FnOk Try.prog 198 zqx:=by
 refine FnOk.body mix_ok zno Try.func198 rfl ω5 ω5 ?_ ?_ ?_ ?_ ?_
 ·intro args H K K' h hk
  simp only [zqx] at *
  unfold zt4 at *
  split at hk
  ·obtain ⟨pr0,k⟩:=hk
   exact ⟨pr0,h _ _ k⟩
  ·exact hk.elim
 ·intro _ args H K hk
  simp only [zqx] at *
  unfold zt4 at *
  split at hk
  ·obtain ⟨pr0,k⟩:=hk
   exact ⟨_,k,fun K' k'=>⟨pr0,k'⟩⟩
  ·exact hk.elim
 ·intro args H K hk
  simp only [zqx] at *
  unfold zt4 at *
  split at hk
  ·obtain ⟨pr0,k⟩:=hk
   exact ⟨_,_,k⟩
  ·exact hk.elim
 ·intro hq;cases hq
 ·have mm:=@zzx
  have ml:=fun (args:List Value) (H:zd) (K:KT)=>zf (P:=Try.prog) (env:=zqb) (fn:=Try.f198) (args:=args) (H:=H) (K:=K) zno 
  revert mm ml
  generalize z1a Try.prog zqb Try.f198=Q
  generalize zk Try.prog zqb Try.f198=QL
  intro mm ml args H K hk
  simp only [zqx] at *
  unfold zt4 at *
  split at hk
  ·exact ml _ H K (mm _ H K hk)
  ·exact hk.elim

def z2p (x:Nat):Nat:=(zwx ((za4 (zh x))))
def zkl:=@z2p.eq_1
def ziu (x:Nat) (H:zd) (K:Nat→zd→Prop):Prop:=K (z2p x) H
theorem zy6 {x:Nat} {H:zd} {K:Nat→zd→Prop} (h:K (z2p x) H):ziu x H K:=h

def ze0:Env:=envOf [(199,zqs),(198,zqx)]
def zi9:List Value→zd→(Value→zd→Prop)→Prop
 | [.float .f32 x],H,K=>ziu x H fun (r1:Nat) (H':zd)=>K (.float .f32 r1) H'
 | _,_,_=>False
def zeh:FSpec:={F:=zi9,quiet:=true,tame:=false}
theorem z15c (x:Nat) (H:zd) (K:KT):zk Try.prog ze0 Try.f169 [.float .f32 x] H K=
 (zyf (zh x) H fun (r1:Nat) (H1:zd)=>zyj r1 H1 fun (r2:Nat) (H2:zd)=>K (.float .f32 r2) H2):=by kernel_rfl
theorem zhn:∀g,FnOk Try.prog g (ze0 g):=FnOk.envOf (by
 intro x hx
 simp only [List.mem_cons,List.not_mem_nil,or_false] at hx
 rcases hx with rfl | rfl
 ·exact z1ak
 ·exact z1bg)
theorem zuu (x:Nat) (H:zd) (K:KT) (h:ziu x H fun (r1:Nat) (H':zd)=>K (.float .f32 r1) H'):zk Try.prog ze0 Try.f169 [.float .f32 x] H K:=by
 rw [z15c]
 have hk:=h
 unfold ziu at hk
 have e:(z2p x)=_:=rfl
 have e:=e.trans (zkl x)
 have g0:=Grow.refl H
 refine z13r ⟨(by first | assumption | omega | (simp;omega) | (exact zh7 _)),?_⟩
 refine z13x ⟨(by first | assumption | omega | (simp;omega) | (exact zkz _)),?_⟩
 rw [e] at hk
 exact hk
theorem z15b:FnOk Try.prog 169 zeh:=by
 refine FnOk.body mix_ok zhn Try.func169 rfl ω5 ω5 ?_ ?_ ?_ ?_ ?_
 ·intro args H K K' h hk
  simp only [zeh] at *
  unfold zi9 at *
  split at hk
  ·have k:=hk
   exact h _ _ k
  ·exact hk.elim
 ·intro _ args H K hk
  simp only [zeh] at *
  unfold zi9 at *
  split at hk
  ·have k:=hk
   exact ⟨_,k,fun K' k'=>k'⟩
  ·exact hk.elim
 ·intro args H K hk
  simp only [zeh] at *
  unfold zi9 at *
  split at hk
  ·have k:=hk
   exact ⟨_,_,k⟩
  ·exact hk.elim
 ·intro hq;cases hq
 ·have mm:=@zuu
  have ml:=fun (args:List Value) (H:zd) (K:KT)=>zf (P:=Try.prog) (env:=ze0) (fn:=Try.f169) (args:=args) (H:=H) (K:=K) zhn 
  revert mm ml
  generalize z1a Try.prog ze0 Try.f169=Q
  generalize zk Try.prog ze0 Try.f169=QL
  intro mm ml args H K hk
  simp only [zeh] at *
  unfold zi9 at *
  split at hk
  ·exact ml _ H K (mm _ H K hk)
  ·exact hk.elim

def zd2 (l_a l_b:LN):Nat×Bool:=(bif !((z6a l_a l_b).2) then (0,false) else (bif !((zs9 (fdiv .f32 (zbp l_a) (FloatKind.nearest .f32 (l_a.length:Int))))) then (0,false) else (bif !(flt .f32 0 ((z6a l_a l_b).1)) then (0,false) else ((z7k (fmul .f32 1082849639 ((z2p (fdiv .f32 (fdiv .f32 (zbp l_a) (FloatKind.nearest .f32 (l_a.length:Int))) ((z6a l_a l_b).1)))))).1,(z7k (fmul .f32 1082849639 ((z2p (fdiv .f32 (fdiv .f32 (zbp l_a) (FloatKind.nearest .f32 (l_a.length:Int))) ((z6a l_a l_b).1)))))).2))))
def zgo:=@zd2.eq_1
def ztn (a_a:OA) (a_n a_e:Nat) (b_a:OA) (b_n b_e:Nat) (H:zd) (K:Nat→Bool→zd→Prop):Prop:=∃(l_a l_b:LN),IsL fF H a_a a_n l_a∧IsL fF H b_a b_n l_b∧l_a.length<1073741824∧l_b.length<1073741824∧K ((zd2 l_a l_b).1) ((zd2 l_a l_b).2) H
theorem zto {a_a:OA} {a_n a_e:Nat} {b_a:OA} {b_n b_e:Nat} {H:zd} {K:Nat→Bool→zd→Prop} (h:∃(l_a l_b:LN),IsL fF H a_a a_n l_a∧IsL fF H b_a b_n l_b∧l_a.length<1073741824∧l_b.length<1073741824∧K ((zd2 l_a l_b).1) ((zd2 l_a l_b).2) H):ztn a_a a_n a_e b_a b_n b_e H K:=h

def zq0:Env:=envOf [(167,zqm),(103,zqz),(168,zr1),(169,zeh),(113,zle)]
def zsn:List Value→zd→(Value→zd→Prop)→Prop
 | [.slice a_a a_n a_e,.slice b_a b_n b_e],H,K=>ztn a_a a_n a_e b_a b_n b_e H fun (r1:Nat) (r2:Bool) (H':zd)=>K (.tuple #[.float .f32 r1,.bool r2]) H'
 | _,_,_=>False
def zql:FSpec:={F:=zsn,quiet:=true,tame:=false}
theorem f3z_vc (a_a:OA) (a_n a_e:Nat) (b_a:OA) (b_n b_e:Nat) (H:zd) (K:KT):zk Try.prog zq0 Try.f90 [.slice a_a a_n a_e,.slice b_a b_n b_e] H K=
 (zyc a_a a_n a_e b_a b_n b_e H fun (r1:Nat) (r2:Bool) (H1:zd)=>Br (!r2) (K (.tuple #[.float .f32 0,.bool false]) H1) (zyl a_a a_n a_e H1 fun (r3:Nat) (H2:zd)=>zu5 (fdiv .f32 r3 (FloatKind.nearest .f32 (a_n:Int))) H2 fun (r4:Bool) (H3:zd)=>Br (!r4) (K (.tuple #[.float .f32 0,.bool false]) H3) (Br (!(flt .f32 0 r1)) (K (.tuple #[.float .f32 0,.bool false]) H3) (ziu (fdiv .f32 (fdiv .f32 r3 (FloatKind.nearest .f32 (a_n:Int))) r1) H3 fun (r5:Nat) (H4:zd)=>zr6 (fmul .f32 1082849639 r5) H4 fun (r6:Nat) (r7:Bool) (H5:zd)=>K (.tuple #[.float .f32 r6,.bool r7]) H5)))):=by kernel_rfl
theorem zn5:∀g,FnOk Try.prog g (zq0 g):=FnOk.envOf (by
 intro x hx
 simp only [List.mem_cons,List.not_mem_nil,or_false] at hx
 rcases hx with rfl | rfl | rfl | rfl | rfl
 ·exact f4z_ok
 ·exact z1br
 ·exact z1c4
 ·exact z15b
 ·exact z12y)
theorem f3z_main (a_a:OA) (a_n a_e:Nat) (b_a:OA) (b_n b_e:Nat) (H:zd) (K:KT) (h:ztn a_a a_n a_e b_a b_n b_e H fun (r1:Nat) (r2:Bool) (H':zd)=>K (.tuple #[.float .f32 r1,.bool r2]) H'):zk Try.prog zq0 Try.f90 [.slice a_a a_n a_e,.slice b_a b_n b_e] H K:=by
 rw [f3z_vc]
 obtain ⟨l_a,l_b,i_a,i_b,bd_4,bd_5,hk⟩:=h
 obtain rfl:=i_a.eqn
 obtain rfl:=i_b.eqn
 have e:(zd2 l_a l_b)=_:=rfl
 have e:=e.trans (zgo l_a l_b)
 have g0:=Grow.refl H
 refine z13m ⟨_,_,(i_a.grow g0),(i_b.grow g0),ω0,ω0,?_⟩
 refine Br.intro (fun c_1=>?_) (fun c_1=>?_)
 ·have e:=e.trans (zj c_1)
  have c_1n:=zv c_1
  rw [e] at hk
  exact hk
 ·have e:=e.trans (zi c_1)
  have c_1n:=zr c_1
  refine z13z ⟨_,(i_a.grow g0),ω0,?_⟩
  refine z14b ?_
  refine Br.intro (fun c_2=>?_) (fun c_2=>?_)
  ·have e:=e.trans (zj c_2)
   have c_2n:=zv c_2
   rw [e] at hk
   exact hk
  ·have e:=e.trans (zi c_2)
   have c_2n:=zr c_2
   refine Br.intro (fun c_3=>?_) (fun c_3=>?_)
   ·have e:=e.trans (zj c_3)
    have c_3n:=zv c_3
    rw [e] at hk
    exact hk
   ·have e:=e.trans (zi c_3)
    have c_3n:=zr c_3
    refine zy6 ?_
    refine zu1 ?_
    rw [e] at hk
    exact hk
theorem f3z_ok:FnOk Try.prog 90 zql:=by
 refine FnOk.body mix_ok zn5 Try.func90 rfl ω5 ω5 ?_ ?_ ?_ ?_ ?_
 ·intro args H K K' h hk
  simp only [zql] at *
  unfold zsn at *
  split at hk
  ·obtain ⟨l_a,l_b,i_a,i_b,bd_4,bd_5,k⟩:=hk
   exact ⟨l_a,l_b,i_a,i_b,bd_4,bd_5,h _ _ k⟩
  ·exact hk.elim
 ·intro _ args H K hk
  simp only [zql] at *
  unfold zsn at *
  split at hk
  ·obtain ⟨l_a,l_b,i_a,i_b,bd_4,bd_5,k⟩:=hk
   exact ⟨_,k,fun K' k'=>⟨l_a,l_b,i_a,i_b,bd_4,bd_5,k'⟩⟩
  ·exact hk.elim
 ·intro args H K hk
  simp only [zql] at *
  unfold zsn at *
  split at hk
  ·obtain ⟨l_a,l_b,i_a,i_b,bd_4,bd_5,k⟩:=hk
   exact ⟨_,_,k⟩
  ·exact hk.elim
 ·intro hq;cases hq
 ·have mm:=@f3z_main
  have ml:=fun (args:List Value) (H:zd) (K:KT)=>zf (P:=Try.prog) (env:=zq0) (fn:=Try.f90) (args:=args) (H:=H) (K:=K) zn5 
  revert mm ml
  generalize z1a Try.prog zq0 Try.f90=Q
  generalize zk Try.prog zq0 Try.f90=QL
  intro mm ml args H K hk
  simp only [zql] at *
  unfold zsn at *
  split at hk
  ·exact ml _ H K (mm _ _ _ _ _ _ H K hk)
  ·exact hk.elim
def z4w (x:Nat) (H:zd) (K:Int→zd→Prop):Prop:=∀b:Nat,cn .f32 b=cn .f32 x→K (b:Int) H
def z4u:List Value→zd→(Value→zd→Prop)→Prop
 | [.float .f32 x],H,K=>z4w x H fun r1 H'=>K (.int .u32 r1) H'
 | _,_,_=>False
def z2d:FSpec:={F:=z4u,quiet:=false}
theorem z2r {args:List Value} {H:zd} {K:KT} (h:z2d.F args H K):∃x,args=[.float .f32 x]∧∀b:Nat,cn .f32 b=cn .f32 x→K (.int .u32 (b:Int)) H:=by
 simp only [z2d] at h
 unfold z4u at h
 split at h
 ·exact ⟨_,rfl,h⟩
 ·exact h.elim
theorem z9c:FnOk Try.prog 210 z2d:=by
 refine FnOk.ext rfl ?_ ?_ ?_ ?_
 ·intro args H K K' h hk
  obtain ⟨x,rfl,k⟩:=z2r hk
  exact fun b hb=>h _ _ (k b hb)
 ·intro h;cases h
 ·intro args H K hk
  obtain ⟨x,rfl,k⟩:=z2r hk
  exact ⟨_,_,k x rfl⟩
 ·intro ρ w args args' H K ha hk
  obtain ⟨x,rfl,k⟩:=z2r hk
  obtain ⟨y,ys,rfl,h3,h4⟩:=ha.uncons
  obtain rfl:=h4.unnil
  cases h3 with
  | float k0 a b hab=>
   refine ⟨_,.int .u32 b,w,?_,.refl w,.int .u32 _,k b (by rw [hab,cn_cn])⟩
   have:=run_callFunc_extern (e:=Extern.MathFloatBits.float32bits) Try.func210 ω5 ω5 ω5 ω5 #[.float .f32 b] w
   rw [this];rfl

def zp1 (x:Nat):Int:=bif !(feq .f32 x x) then 2143289344 else IntKind.wrap .i64 (x:Int)
def zep (x:Nat) (H:zd) (K:Int→zd→Prop):Prop:=K (zp1 x) H
def zds:Env:=envOf [(210,z2d)]
def zo2:List Value→zd→(Value→zd→Prop)→Prop
 | [.float .f32 x],H,K=>zep x H fun (r1:Int) (H':zd)=>K (.int .i64 r1) H'
 | _,_,_=>False
def zil:FSpec:={F:=zo2,quiet:=false,tame:=false}
theorem f11z_vc (x:Nat) (H:zd) (K:KT):zk Try.prog zds Try.f189 [.float .f32 x] H K=
 (Br (!(feq .f32 x x)) (K (.int .i64 2143289344) H) (z4w x H fun (r1:Int) (H1:zd)=>K (.int .i64 (IntKind.wrap .i64 r1)) H1)):=by kernel_rfl
theorem zhb:∀g,FnOk Try.prog g (zds g):=FnOk.envOf (by
 intro x hx
 simp only [List.mem_cons,List.not_mem_nil,or_false] at hx
 subst hx;exact z9c)
theorem zua {b x:Nat} (hx:feq .f32 x x=true) (h:cn .f32 b=cn .f32 x):b=x:=by
 have nx:(FloatKind.f32.decode x).isNaN=false:=by
  cases hn:(FloatKind.f32.decode x).isNaN
  ·rfl
  ·have:=zoi (k:=.f32) (x:=x) hn x
   rw [hx] at this;cases this
 rw [zo nx] at h
 cases hb:(FloatKind.f32.decode b).isNaN
 ·rw [zo hb] at h;exact h
 ·rw [z1f hb] at h
  rw [←h,z5h] at nx;cases nx
theorem f11z_main (x:Nat) (H:zd) (K:KT) (h:zep x H fun (r1:Int) (H':zd)=>K (.int .i64 r1) H'):zk Try.prog zds Try.f189 [.float .f32 x] H K:=by
 rw [f11z_vc]
 unfold zep zp1 at h
 refine Br.intro (fun hc=>?_) (fun hc=>?_)
 ·rw [hc] at h;exact h
 ·rw [hc] at h
  intro b hb
  obtain rfl:=zua (zr hc) hb
  exact h
theorem f11z_ok:FnOk Try.prog 189 zil:=by
 refine FnOk.body mix_ok zhb Try.func189 rfl ω5 ω5 ?_ ?_ ?_ ?_ ?_
 ·intro args H K K' h hk
  simp only [zil] at *
  unfold zo2 at *
  split at hk
  ·have k:=hk
   exact h _ _ k
  ·exact hk.elim
 ·intro hq;cases hq
 ·intro args H K hk
  simp only [zil] at *
  unfold zo2 at *
  split at hk
  ·have k:=hk
   exact ⟨_,_,k⟩
  ·exact hk.elim
 ·intro hq;cases hq
 ·have mm:=@f11z_main
  have ml:=fun (args:List Value) (H:zd) (K:KT)=>zf (P:=Try.prog) (env:=zds) (fn:=Try.f189) (args:=args) (H:=H) (K:=K) zhb 
  revert mm ml
  generalize z1a Try.prog zds Try.f189=Q
  generalize zk Try.prog zds Try.f189=QL
  intro mm ml args H K hk
  simp only [zil] at *
  unfold zo2 at *
  split at hk
  ·exact ml _ H K (mm _ H K hk)
  ·exact hk.elim
def zp2 (a b:Nat):Bool:=(((zp1 a):Int)==(zp1 b))
def zir (a b:Nat) (H:zd) (K:Bool→zd→Prop):Prop:=K (zp2 a b) H

def zdt:Env:=envOf [(189,zil)]
def zhy:List Value→zd→(Value→zd→Prop)→Prop
 | [.float .f32 a,.float .f32 b],H,K=>zir a b H fun (r1:Bool) (H':zd)=>K (.bool r1) H'
 | _,_,_=>False
def zea:FSpec:={F:=zhy,quiet:=true,tame:=false}
theorem f12z_vc (a b:Nat) (H:zd) (K:KT):zk Try.prog zdt Try.f151 [.float .f32 a,.float .f32 b] H K=
 (zep a H fun (r1:Int) (H1:zd)=>zep b H1 fun (r2:Int) (H2:zd)=>K (.bool ((r1:Int)==r2)) H2):=by kernel_rfl
theorem zhc:∀g,FnOk Try.prog g (zdt g):=FnOk.envOf (by
 intro x hx
 simp only [List.mem_cons,List.not_mem_nil,or_false] at hx
 subst hx;exact f11z_ok)
theorem f12z_main (a b:Nat) (H:zd) (K:KT) (h:zir a b H fun (r1:Bool) (H':zd)=>K (.bool r1) H'):zk Try.prog zdt Try.f151 [.float .f32 a,.float .f32 b] H K:=by
 rw [f12z_vc]
 simp only [zep]
 unfold zir zp2 at h
 repeat' (first | exact h | (exfalso;simp_all;done) | (refine ⟨by decide,?_⟩) | (refine Br.intro (fun hb=>?_) (fun hb=>?_)<;>(try simp only [hb,cond_true,cond_false,Bool.not_true,Bool.not_false] at h)))
theorem f12z_ok:FnOk Try.prog 151 zea:=by
 refine FnOk.body mix_ok zhc Try.func151 rfl ω5 ω5 ?_ ?_ ?_ ?_ ?_
 ·intro args H K K' h hk
  simp only [zea] at *
  unfold zhy at *
  split at hk
  ·have k:=hk
   exact h _ _ k
  ·exact hk.elim
 ·intro _ args H K hk
  simp only [zea] at *
  unfold zhy at *
  split at hk
  ·have k:=hk
   exact ⟨_,k,fun K' k'=>k'⟩
  ·exact hk.elim
 ·intro args H K hk
  simp only [zea] at *
  unfold zhy at *
  split at hk
  ·have k:=hk
   exact ⟨_,_,k⟩
  ·exact hk.elim
 ·intro hq;cases hq
 ·have mm:=@f12z_main
  have ml:=fun (args:List Value) (H:zd) (K:KT)=>zf (P:=Try.prog) (env:=zdt) (fn:=Try.f151) (args:=args) (H:=H) (K:=K) zhc 
  revert mm ml
  generalize z1a Try.prog zdt Try.f151=Q
  generalize zk Try.prog zdt Try.f151=QL
  intro mm ml args H K hk
  simp only [zea] at *
  unfold zhy at *
  split at hk
  ·exact ml _ H K (mm _ _ H K hk)
  ·exact hk.elim
def zkp (a b:Nat):Bool:=(zp2 a b)
def zr4 (a b:Nat) (H:zd) (K:Bool→zd→Prop):Prop:=K (zkp a b) H

theorem ztz {a b:Nat} {H:zd} {K:Bool→zd→Prop} (h:K (zkp a b) H):zr4 a b H K:=h
def zq7:Env:=envOf [(151,zea)]
def zsw:List Value→zd→(Value→zd→Prop)→Prop
 | [.float .f32 a,.float .f32 b],H,K=>zr4 a b H fun (r1:Bool) (H':zd)=>K (.bool r1) H'
 | _,_,_=>False
def zqr:FSpec:={F:=zsw,quiet:=true,tame:=false}
theorem z1ad (a b:Nat) (H:zd) (K:KT):zk Try.prog zq7 Try.f69 [.float .f32 a,.float .f32 b] H K=
 (zir a b H fun (r1:Bool) (H1:zd)=>K (.bool r1) H1):=by kernel_rfl
theorem zng:∀g,FnOk Try.prog g (zq7 g):=FnOk.envOf (by
 intro x hx
 simp only [List.mem_cons,List.not_mem_nil,or_false] at hx
 subst hx;exact f12z_ok)
theorem zzf (a b:Nat) (H:zd) (K:KT) (h:zr4 a b H fun (r1:Bool) (H':zd)=>K (.bool r1) H'):zk Try.prog zq7 Try.f69 [.float .f32 a,.float .f32 b] H K:=by
 rw [z1ad]
 simp only [zir]
 unfold zr4 zkp at h
 repeat' (first | exact h | (exfalso;simp_all;done) | (refine ⟨by decide,?_⟩) | (refine Br.intro (fun hb=>?_) (fun hb=>?_)<;>(try simp only [hb,cond_true,cond_false,Bool.not_true,Bool.not_false] at h)))
theorem z1ac:FnOk Try.prog 69 zqr:=by
 refine FnOk.body mix_ok zng Try.func69 rfl ω5 ω5 ?_ ?_ ?_ ?_ ?_
 ·intro args H K K' h hk
  simp only [zqr] at *
  unfold zsw at *
  split at hk
  ·have k:=hk
   exact h _ _ k
  ·exact hk.elim
 ·intro _ args H K hk
  simp only [zqr] at *
  unfold zsw at *
  split at hk
  ·have k:=hk
   exact ⟨_,k,fun K' k'=>k'⟩
  ·exact hk.elim
 ·intro args H K hk
  simp only [zqr] at *
  unfold zsw at *
  split at hk
  ·have k:=hk
   exact ⟨_,_,k⟩
  ·exact hk.elim
 ·intro hq;cases hq
 ·have mm:=@zzf
  have ml:=fun (args:List Value) (H:zd) (K:KT)=>zf (P:=Try.prog) (env:=zq7) (fn:=Try.f69) (args:=args) (H:=H) (K:=K) zng 
  revert mm ml
  generalize z1a Try.prog zq7 Try.f69=Q
  generalize zk Try.prog zq7 Try.f69=QL
  intro mm ml args H K hk
  simp only [zqr] at *
  unfold zsw at *
  split at hk
  ·exact ml _ H K (mm _ _ H K hk)
  ·exact hk.elim

def z1u (ja:List UInt8) (da:List UInt8):Nat→Bool→Int→Bool
 | 0,_,_=>false
 | μ+1,t4,t162=>(bif decide ((t162:Int)<(((zm ja (IntKind.wrap .i64 (2+((ze da (0:Int) (8:Int))))))).length:Int)) then (bif flt .f64 (fmul .f64 4562254508917369340 (fadd .f64 4607182418800017408 ((z2f (zh ((((zm ja (IntKind.wrap .i64 (2+((ze da (0:Int) (8:Int))))))).getD (t162:Int).toNat 0))) 0)))) ((z2f (fadd .f64 (zh ((((z6b (IntKind.wrap .i64 (2+((ze da (0:Int) (8:Int))))) ((zw ((zm ja (IntKind.wrap .i64 (2+((ze da (0:Int) (8:Int))))))) ([1056964608,(fdiv .f32 (FloatKind.nearest .f32 (IntKind.wrap .i64 (2+((ze da (1:Int) (5:Int)))))) 1073741824)]) ((ze da (2:Int) (4:Int)))).1)).1).getD (t162:Int).toNat 0))) (zh ((((zw ((zm ja (IntKind.wrap .i64 (2+((ze da (0:Int) (8:Int))))))) ([1056964608,(fdiv .f32 (FloatKind.nearest .f32 (IntKind.wrap .i64 (2+((ze da (1:Int) (5:Int)))))) 1073741824)]) ((ze da (2:Int) (4:Int)))).2.1).getD (t162:Int).toNat 0)))) (zh ((((zm ja (IntKind.wrap .i64 (2+((ze da (0:Int) (8:Int))))))).getD (t162:Int).toNat 0))))) then false else (z1u ja da μ t4 (t162+1))) else (bif decide ((0:Int)<(ze da (2:Int) (4:Int))) then (bif !(true && ((((((zw ((zm ja (IntKind.wrap .i64 (2+((ze da (0:Int) (8:Int))))))) ([1056964608,(fdiv .f32 (FloatKind.nearest .f32 (IntKind.wrap .i64 (2+((ze da (1:Int) (5:Int)))))) 1073741824)]) ((ze da (2:Int) (4:Int)))).1).getD (0:Int).toNat (0,0,0))).1:Int)==((zt ((zm ja (IntKind.wrap .i64 (2+((ze da (0:Int) (8:Int))))))) ([1056964608,(fdiv .f32 (FloatKind.nearest .f32 (IntKind.wrap .i64 (2+((ze da (1:Int) (5:Int)))))) 1073741824)])).1)) && (feq .f32 (((((zw ((zm ja (IntKind.wrap .i64 (2+((ze da (0:Int) (8:Int))))))) ([1056964608,(fdiv .f32 (FloatKind.nearest .f32 (IntKind.wrap .i64 (2+((ze da (1:Int) (5:Int)))))) 1073741824)]) ((ze da (2:Int) (4:Int)))).1).getD (0:Int).toNat (0,0,0))).2.1) ((zt ((zm ja (IntKind.wrap .i64 (2+((ze da (0:Int) (8:Int))))))) ([1056964608,(fdiv .f32 (FloatKind.nearest .f32 (IntKind.wrap .i64 (2+((ze da (1:Int) (5:Int)))))) 1073741824)])).2.1)) && (feq .f32 (((((zw ((zm ja (IntKind.wrap .i64 (2+((ze da (0:Int) (8:Int))))))) ([1056964608,(fdiv .f32 (FloatKind.nearest .f32 (IntKind.wrap .i64 (2+((ze da (1:Int) (5:Int)))))) 1073741824)]) ((ze da (2:Int) (4:Int)))).1).getD (0:Int).toNat (0,0,0))).2.2) ((zt ((zm ja (IntKind.wrap .i64 (2+((ze da (0:Int) (8:Int))))))) ([1056964608,(fdiv .f32 (FloatKind.nearest .f32 (IntKind.wrap .i64 (2+((ze da (1:Int) (5:Int)))))) 1073741824)])).2.2.1))) then false else (bif flt .f64 (fadd .f64 ((z4q ((zm ja (IntKind.wrap .i64 (2+((ze da (0:Int) (8:Int))))))))) 4576918229304087675) ((z4q ((zw ((zm ja (IntKind.wrap .i64 (2+((ze da (0:Int) (8:Int))))))) ([1056964608,(fdiv .f32 (FloatKind.nearest .f32 (IntKind.wrap .i64 (2+((ze da (1:Int) (5:Int)))))) 1073741824)]) ((ze da (2:Int) (4:Int)))).2.1))) then false else (bif (z3s ((zm ja (IntKind.wrap .i64 (2+((ze da (0:Int) (8:Int))))))) ((zw ((zm ja (IntKind.wrap .i64 (2+((ze da (0:Int) (8:Int))))))) ([1056964608,(fdiv .f32 (FloatKind.nearest .f32 (IntKind.wrap .i64 (2+((ze da (1:Int) (5:Int)))))) 1073741824)]) ((ze da (2:Int) (4:Int)))).2.1)).2 then (bif (z3s ((zw ((zm ja (IntKind.wrap .i64 (2+((ze da (0:Int) (8:Int))))))) ([1056964608,(fdiv .f32 (FloatKind.nearest .f32 (IntKind.wrap .i64 (2+((ze da (1:Int) (5:Int)))))) 1073741824)]) ((ze da (2:Int) (4:Int)))).2.1) ((zm ja (IntKind.wrap .i64 (2+((ze da (0:Int) (8:Int)))))))).2 then (bif ((z6l ((zm ja (IntKind.wrap .i64 (2+((ze da (0:Int) (8:Int))))))) ((zw ((zm ja (IntKind.wrap .i64 (2+((ze da (0:Int) (8:Int))))))) ([1056964608,(fdiv .f32 (FloatKind.nearest .f32 (IntKind.wrap .i64 (2+((ze da (1:Int) (5:Int)))))) 1073741824)]) ((ze da (2:Int) (4:Int)))).2.1)).2)==((zd2 ((zm ja (IntKind.wrap .i64 (2+((ze da (0:Int) (8:Int))))))) ((zw ((zm ja (IntKind.wrap .i64 (2+((ze da (0:Int) (8:Int))))))) ([1056964608,(fdiv .f32 (FloatKind.nearest .f32 (IntKind.wrap .i64 (2+((ze da (1:Int) (5:Int)))))) 1073741824)]) ((ze da (2:Int) (4:Int)))).2.1)).2) then (bif (zkp ((z3s ((zm ja (IntKind.wrap .i64 (2+((ze da (0:Int) (8:Int))))))) ((zw ((zm ja (IntKind.wrap .i64 (2+((ze da (0:Int) (8:Int))))))) ([1056964608,(fdiv .f32 (FloatKind.nearest .f32 (IntKind.wrap .i64 (2+((ze da (1:Int) (5:Int)))))) 1073741824)]) ((ze da (2:Int) (4:Int)))).2.1)).1) ((z3s ((zw ((zm ja (IntKind.wrap .i64 (2+((ze da (0:Int) (8:Int))))))) ([1056964608,(fdiv .f32 (FloatKind.nearest .f32 (IntKind.wrap .i64 (2+((ze da (1:Int) (5:Int)))))) 1073741824)]) ((ze da (2:Int) (4:Int)))).2.1) ((zm ja (IntKind.wrap .i64 (2+((ze da (0:Int) (8:Int)))))))).1)) then (bif fle .f32 0 ((z3s ((zm ja (IntKind.wrap .i64 (2+((ze da (0:Int) (8:Int))))))) ((zw ((zm ja (IntKind.wrap .i64 (2+((ze da (0:Int) (8:Int))))))) ([1056964608,(fdiv .f32 (FloatKind.nearest .f32 (IntKind.wrap .i64 (2+((ze da (1:Int) (5:Int)))))) 1073741824)]) ((ze da (2:Int) (4:Int)))).2.1)).1) then (bif !((z6l ((zm ja (IntKind.wrap .i64 (2+((ze da (0:Int) (8:Int))))))) ((zw ((zm ja (IntKind.wrap .i64 (2+((ze da (0:Int) (8:Int))))))) ([1056964608,(fdiv .f32 (FloatKind.nearest .f32 (IntKind.wrap .i64 (2+((ze da (1:Int) (5:Int)))))) 1073741824)]) ((ze da (2:Int) (4:Int)))).2.1)).2) then true else flt .f64 ((z2f (zh ((z6l ((zm ja (IntKind.wrap .i64 (2+((ze da (0:Int) (8:Int))))))) ((zw ((zm ja (IntKind.wrap .i64 (2+((ze da (0:Int) (8:Int))))))) ([1056964608,(fdiv .f32 (FloatKind.nearest .f32 (IntKind.wrap .i64 (2+((ze da (1:Int) (5:Int)))))) 1073741824)]) ((ze da (2:Int) (4:Int)))).2.1)).1)) 0)) 4652007308841189376) else false) else false) else false) else false) else false))) else (bif (z3s ((zm ja (IntKind.wrap .i64 (2+((ze da (0:Int) (8:Int))))))) ((zw ((zm ja (IntKind.wrap .i64 (2+((ze da (0:Int) (8:Int))))))) ([1056964608,(fdiv .f32 (FloatKind.nearest .f32 (IntKind.wrap .i64 (2+((ze da (1:Int) (5:Int)))))) 1073741824)]) ((ze da (2:Int) (4:Int)))).2.1)).2 then (bif (z3s ((zw ((zm ja (IntKind.wrap .i64 (2+((ze da (0:Int) (8:Int))))))) ([1056964608,(fdiv .f32 (FloatKind.nearest .f32 (IntKind.wrap .i64 (2+((ze da (1:Int) (5:Int)))))) 1073741824)]) ((ze da (2:Int) (4:Int)))).2.1) ((zm ja (IntKind.wrap .i64 (2+((ze da (0:Int) (8:Int)))))))).2 then (bif ((z6l ((zm ja (IntKind.wrap .i64 (2+((ze da (0:Int) (8:Int))))))) ((zw ((zm ja (IntKind.wrap .i64 (2+((ze da (0:Int) (8:Int))))))) ([1056964608,(fdiv .f32 (FloatKind.nearest .f32 (IntKind.wrap .i64 (2+((ze da (1:Int) (5:Int)))))) 1073741824)]) ((ze da (2:Int) (4:Int)))).2.1)).2)==((zd2 ((zm ja (IntKind.wrap .i64 (2+((ze da (0:Int) (8:Int))))))) ((zw ((zm ja (IntKind.wrap .i64 (2+((ze da (0:Int) (8:Int))))))) ([1056964608,(fdiv .f32 (FloatKind.nearest .f32 (IntKind.wrap .i64 (2+((ze da (1:Int) (5:Int)))))) 1073741824)]) ((ze da (2:Int) (4:Int)))).2.1)).2) then (bif (zkp ((z3s ((zm ja (IntKind.wrap .i64 (2+((ze da (0:Int) (8:Int))))))) ((zw ((zm ja (IntKind.wrap .i64 (2+((ze da (0:Int) (8:Int))))))) ([1056964608,(fdiv .f32 (FloatKind.nearest .f32 (IntKind.wrap .i64 (2+((ze da (1:Int) (5:Int)))))) 1073741824)]) ((ze da (2:Int) (4:Int)))).2.1)).1) ((z3s ((zw ((zm ja (IntKind.wrap .i64 (2+((ze da (0:Int) (8:Int))))))) ([1056964608,(fdiv .f32 (FloatKind.nearest .f32 (IntKind.wrap .i64 (2+((ze da (1:Int) (5:Int)))))) 1073741824)]) ((ze da (2:Int) (4:Int)))).2.1) ((zm ja (IntKind.wrap .i64 (2+((ze da (0:Int) (8:Int)))))))).1)) then (bif fle .f32 0 ((z3s ((zm ja (IntKind.wrap .i64 (2+((ze da (0:Int) (8:Int))))))) ((zw ((zm ja (IntKind.wrap .i64 (2+((ze da (0:Int) (8:Int))))))) ([1056964608,(fdiv .f32 (FloatKind.nearest .f32 (IntKind.wrap .i64 (2+((ze da (1:Int) (5:Int)))))) 1073741824)]) ((ze da (2:Int) (4:Int)))).2.1)).1) then (bif !((z6l ((zm ja (IntKind.wrap .i64 (2+((ze da (0:Int) (8:Int))))))) ((zw ((zm ja (IntKind.wrap .i64 (2+((ze da (0:Int) (8:Int))))))) ([1056964608,(fdiv .f32 (FloatKind.nearest .f32 (IntKind.wrap .i64 (2+((ze da (1:Int) (5:Int)))))) 1073741824)]) ((ze da (2:Int) (4:Int)))).2.1)).2) then true else flt .f64 ((z2f (zh ((z6l ((zm ja (IntKind.wrap .i64 (2+((ze da (0:Int) (8:Int))))))) ((zw ((zm ja (IntKind.wrap .i64 (2+((ze da (0:Int) (8:Int))))))) ([1056964608,(fdiv .f32 (FloatKind.nearest .f32 (IntKind.wrap .i64 (2+((ze da (1:Int) (5:Int)))))) 1073741824)]) ((ze da (2:Int) (4:Int)))).2.1)).1)) 0)) 4652007308841189376) else false) else false) else false) else false) else false)))
def z4r:=fun ja da μ t4 t162=>@z1u.eq_2 ja da t4 t162 μ
def z5n (ja:List UInt8) (da:List UInt8):Bool:=((bif (zmr ja da) then true else (bif !((zt ((zm ja (IntKind.wrap .i64 (2+((ze da (0:Int) (8:Int))))))) ([1056964608,(fdiv .f32 (FloatKind.nearest .f32 (IntKind.wrap .i64 (2+((ze da (1:Int) (5:Int)))))) 1073741824)])).2.2.2.2) then false else (bif !((z1s (IntKind.wrap .i64 (2+((ze da (0:Int) (8:Int))))) ((zt ((zm ja (IntKind.wrap .i64 (2+((ze da (0:Int) (8:Int))))))) ([1056964608,(fdiv .f32 (FloatKind.nearest .f32 (IntKind.wrap .i64 (2+((ze da (1:Int) (5:Int)))))) 1073741824)])).1) ((zt ((zm ja (IntKind.wrap .i64 (2+((ze da (0:Int) (8:Int))))))) ([1056964608,(fdiv .f32 (FloatKind.nearest .f32 (IntKind.wrap .i64 (2+((ze da (1:Int) (5:Int)))))) 1073741824)])).2.1) ((zt ((zm ja (IntKind.wrap .i64 (2+((ze da (0:Int) (8:Int))))))) ([1056964608,(fdiv .f32 (FloatKind.nearest .f32 (IntKind.wrap .i64 (2+((ze da (1:Int) (5:Int)))))) 1073741824)])).2.2.1)).2) then false else (bif ((((zt ((zm ja (IntKind.wrap .i64 (2+((ze da (0:Int) (8:Int))))))) ([1056964608,(fdiv .f32 (FloatKind.nearest .f32 (IntKind.wrap .i64 (2+((ze da (1:Int) (5:Int)))))) 1073741824)])).2.2.2.1).length:Int):Int) != (((zm ja (IntKind.wrap .i64 (2+((ze da (0:Int) (8:Int))))))).length:Int) then false else (bif ((((z1s (IntKind.wrap .i64 (2+((ze da (0:Int) (8:Int))))) ((zt ((zm ja (IntKind.wrap .i64 (2+((ze da (0:Int) (8:Int))))))) ([1056964608,(fdiv .f32 (FloatKind.nearest .f32 (IntKind.wrap .i64 (2+((ze da (1:Int) (5:Int)))))) 1073741824)])).1) ((zt ((zm ja (IntKind.wrap .i64 (2+((ze da (0:Int) (8:Int))))))) ([1056964608,(fdiv .f32 (FloatKind.nearest .f32 (IntKind.wrap .i64 (2+((ze da (1:Int) (5:Int)))))) 1073741824)])).2.1) ((zt ((zm ja (IntKind.wrap .i64 (2+((ze da (0:Int) (8:Int))))))) ([1056964608,(fdiv .f32 (FloatKind.nearest .f32 (IntKind.wrap .i64 (2+((ze da (1:Int) (5:Int)))))) 1073741824)])).2.2.1)).1).length:Int):Int) != (((zm ja (IntKind.wrap .i64 (2+((ze da (0:Int) (8:Int))))))).length:Int) then false else (bif decide (((zt ((zm ja (IntKind.wrap .i64 (2+((ze da (0:Int) (8:Int))))))) ([1056964608,(fdiv .f32 (FloatKind.nearest .f32 (IntKind.wrap .i64 (2+((ze da (1:Int) (5:Int)))))) 1073741824)])).1:Int)<0) then false else (bif decide ((IntKind.wrap .i64 (2+((ze da (0:Int) (8:Int)))):Int)≤(zt ((zm ja (IntKind.wrap .i64 (2+((ze da (0:Int) (8:Int))))))) ([1056964608,(fdiv .f32 (FloatKind.nearest .f32 (IntKind.wrap .i64 (2+((ze da (1:Int) (5:Int)))))) 1073741824)])).1) then false else (bif flt .f64 (fmul .f64 4576918229304087675 (fadd .f64 4607182418800017408 (fmul .f64 (zh ((zt ((zm ja (IntKind.wrap .i64 (2+((ze da (0:Int) (8:Int))))))) ([1056964608,(fdiv .f32 (FloatKind.nearest .f32 (IntKind.wrap .i64 (2+((ze da (1:Int) (5:Int)))))) 1073741824)])).2.2.1)) (zh ((zt ((zm ja (IntKind.wrap .i64 (2+((ze da (0:Int) (8:Int))))))) ([1056964608,(fdiv .f32 (FloatKind.nearest .f32 (IntKind.wrap .i64 (2+((ze da (1:Int) (5:Int)))))) 1073741824)])).2.2.1))))) ((z2f ((z4q ((z1s (IntKind.wrap .i64 (2+((ze da (0:Int) (8:Int))))) ((zt ((zm ja (IntKind.wrap .i64 (2+((ze da (0:Int) (8:Int))))))) ([1056964608,(fdiv .f32 (FloatKind.nearest .f32 (IntKind.wrap .i64 (2+((ze da (1:Int) (5:Int)))))) 1073741824)])).1) ((zt ((zm ja (IntKind.wrap .i64 (2+((ze da (0:Int) (8:Int))))))) ([1056964608,(fdiv .f32 (FloatKind.nearest .f32 (IntKind.wrap .i64 (2+((ze da (1:Int) (5:Int)))))) 1073741824)])).2.1) ((zt ((zm ja (IntKind.wrap .i64 (2+((ze da (0:Int) (8:Int))))))) ([1056964608,(fdiv .f32 (FloatKind.nearest .f32 (IntKind.wrap .i64 (2+((ze da (1:Int) (5:Int)))))) 1073741824)])).2.2.1)).1))) (fmul .f64 (zh ((zt ((zm ja (IntKind.wrap .i64 (2+((ze da (0:Int) (8:Int))))))) ([1056964608,(fdiv .f32 (FloatKind.nearest .f32 (IntKind.wrap .i64 (2+((ze da (1:Int) (5:Int)))))) 1073741824)])).2.2.1)) (zh ((zt ((zm ja (IntKind.wrap .i64 (2+((ze da (0:Int) (8:Int))))))) ([1056964608,(fdiv .f32 (FloatKind.nearest .f32 (IntKind.wrap .i64 (2+((ze da (1:Int) (5:Int)))))) 1073741824)])).2.2.1))))) then false else (bif flt .f64 (fmul .f64 4576918229304087675 (fadd .f64 4607182418800017408 ((z4q ((zm ja (IntKind.wrap .i64 (2+((ze da (0:Int) (8:Int))))))))))) ((z2f (fadd .f64 ((z4q ((zt ((zm ja (IntKind.wrap .i64 (2+((ze da (0:Int) (8:Int))))))) ([1056964608,(fdiv .f32 (FloatKind.nearest .f32 (IntKind.wrap .i64 (2+((ze da (1:Int) (5:Int)))))) 1073741824)])).2.2.2.1))) (fmul .f64 (zh ((zt ((zm ja (IntKind.wrap .i64 (2+((ze da (0:Int) (8:Int))))))) ([1056964608,(fdiv .f32 (FloatKind.nearest .f32 (IntKind.wrap .i64 (2+((ze da (1:Int) (5:Int)))))) 1073741824)])).2.2.1)) (zh ((zt ((zm ja (IntKind.wrap .i64 (2+((ze da (0:Int) (8:Int))))))) ([1056964608,(fdiv .f32 (FloatKind.nearest .f32 (IntKind.wrap .i64 (2+((ze da (1:Int) (5:Int)))))) 1073741824)])).2.2.1)))) ((z4q ((zm ja (IntKind.wrap .i64 (2+((ze da (0:Int) (8:Int))))))))))) then false else (bif !((zw ((zm ja (IntKind.wrap .i64 (2+((ze da (0:Int) (8:Int))))))) ([1056964608,(fdiv .f32 (FloatKind.nearest .f32 (IntKind.wrap .i64 (2+((ze da (1:Int) (5:Int)))))) 1073741824)]) ((ze da (2:Int) (4:Int)))).2.2) then false else (bif !((z6b (IntKind.wrap .i64 (2+((ze da (0:Int) (8:Int))))) ((zw ((zm ja (IntKind.wrap .i64 (2+((ze da (0:Int) (8:Int))))))) ([1056964608,(fdiv .f32 (FloatKind.nearest .f32 (IntKind.wrap .i64 (2+((ze da (1:Int) (5:Int)))))) 1073741824)]) ((ze da (2:Int) (4:Int)))).1)).2) then false else (bif ((((zw ((zm ja (IntKind.wrap .i64 (2+((ze da (0:Int) (8:Int))))))) ([1056964608,(fdiv .f32 (FloatKind.nearest .f32 (IntKind.wrap .i64 (2+((ze da (1:Int) (5:Int)))))) 1073741824)]) ((ze da (2:Int) (4:Int)))).1).length:Int):Int) != (ze da (2:Int) (4:Int)) then false else (bif ((((zw ((zm ja (IntKind.wrap .i64 (2+((ze da (0:Int) (8:Int))))))) ([1056964608,(fdiv .f32 (FloatKind.nearest .f32 (IntKind.wrap .i64 (2+((ze da (1:Int) (5:Int)))))) 1073741824)]) ((ze da (2:Int) (4:Int)))).2.1).length:Int):Int) != (((zm ja (IntKind.wrap .i64 (2+((ze da (0:Int) (8:Int))))))).length:Int) then false else (bif ((((z6b (IntKind.wrap .i64 (2+((ze da (0:Int) (8:Int))))) ((zw ((zm ja (IntKind.wrap .i64 (2+((ze da (0:Int) (8:Int))))))) ([1056964608,(fdiv .f32 (FloatKind.nearest .f32 (IntKind.wrap .i64 (2+((ze da (1:Int) (5:Int)))))) 1073741824)]) ((ze da (2:Int) (4:Int)))).1)).1).length:Int):Int) != (((zm ja (IntKind.wrap .i64 (2+((ze da (0:Int) (8:Int))))))).length:Int) then false else (z1u ja da (Int.toNat ((((zm ja (IntKind.wrap .i64 (2+((ze da (0:Int) (8:Int))))))).length:Int)-(0:Int))+1) false (0:Int)))))))))))))))))
def z6c:=@z5n.eq_1
def z8p (wa:OA) (ya kb:Nat) (rb:OA) (qb tb:Nat) (H:zd) (K:Bool→zd→Prop):Prop:=∃ja:List UInt8,∃da:List UInt8,IsL (fun c:UInt8=>Value.int .u8 c.toNat) H wa ya ja∧IsL (fun c:UInt8=>Value.int .u8 c.toNat) H rb qb da∧∀H':zd,K true H'
theorem z6r (x:Nat):zmq x=fin .f32 x:=z7d x
theorem zor (x:Nat):zdq x=fin .f32 x:=z7d x
theorem zk3 (l:LN):∀(μ:Nat) (t:Bool) (i:Nat),l.length-i<μ→za6 l μ t (i:Int)=(l.drop i).all (fin .f32):=by
 intro μ
 induction μ with
 | zero=>intro t i h;omega
 | succ μ ih=>
  intro t i hm
  rw [zfd]
  by_cases h:i<l.length
  ·rw [dct (show (i:Int)<(l.length:Int) by omega),cond_true,Int.toNat_natCast,z6r]
   rw [List.drop_eq_getElem_cons h,List.all_cons,List.getD_eq_getElem?_getD,List.getElem?_eq_getElem h,Option.getD_some]
   have:=ih t (i+1) ω2
   cases fin .f32 l[i]
   ·rfl
   ·simp only [Bool.not_true,cond_false,Bool.true_and];exact this
  ·rw [dcf (show ¬(i:Int)<(l.length:Int) by omega),cond_false,List.drop_eq_nil_of_le ω2];rfl
theorem z9r (l:LN):zkr l=l.all (fin .f32):=by
 rw [zpc]
 have:=zk3 l (Int.toNat ((l.length:Int)-(0:Int))+1) false 0 ω2
 simpa using this
theorem zj3 (ls:List LN) (t2:Bool) (t9:Int) (k:Bool→Int→Bool):∀(μ:Nat) (t:Bool) (i:Nat),i≤(ls.getD t9.toNat []).length→(ls.getD t9.toNat []).length-i<μ→
  za5 ls t2 t9 k μ t (i:Int)=bif ((ls.getD t9.toNat []).drop i).all (fin .f32) then k t ((ls.getD t9.toNat []).length:Int) else false:=by
 intro μ
 generalize hl:ls.getD t9.toNat []=l
 induction μ with
 | zero=>intro t i _ h;omega
 | succ μ ih=>
  intro t i hi hm
  rw [zfb,hl]
  by_cases h:i<l.length
  ·rw [dct (show (i:Int)<(l.length:Int) by omega),cond_true,Int.toNat_natCast,zor]
   rw [List.drop_eq_getElem_cons h,List.all_cons,List.getD_eq_getElem?_getD,List.getElem?_eq_getElem h,Option.getD_some]
   have:=ih t (i+1) ω2 ω2
   cases fin .f32 l[i]
   ·rfl
   ·simp only [Bool.not_true,cond_false,Bool.true_and];exact this
  ·rw [dcf (show ¬(i:Int)<(l.length:Int) by omega),cond_false,List.drop_eq_nil_of_le ω2,show i=l.length by omega];rfl
theorem zj2 (ls:List LN):∀(μ:Nat) (t:Bool) (i:Nat),ls.length-i<μ→z5g ls μ t (i:Int)=(ls.drop i).all (fun l=>l.all (fin .f32)):=by
 intro μ
 induction μ with
 | zero=>intro t i h;omega
 | succ μ ih=>
  intro t i hm
  rw [zfa]
  by_cases h:i<ls.length
  ·rw [dct (show (i:Int)<(ls.length:Int) by omega),cond_true]
   have:=zj3 ls t (i:Int) (fun t2 t15=>z5g ls μ t2 ((i:Int)+1)) (Int.toNat ((((ls).getD ((i:Int):Int).toNat []).length:Int)-(0:Int))+1) t 0 (Nat.zero_le _) ω2
   refine Eq.trans this ?_
   rw [Int.toNat_natCast,List.drop_zero,List.drop_eq_getElem_cons h,List.all_cons,List.getD_eq_getElem?_getD,List.getElem?_eq_getElem h,Option.getD_some]
   have:=ih t (i+1) ω2
   cases ls[i].all (fin .f32)
   ·rfl
   ·simp only [cond_true,Bool.true_and];exact this
  ·rw [dcf (show ¬(i:Int)<(ls.length:Int) by omega),cond_false,List.drop_eq_nil_of_le ω2];rfl
theorem z2l (ls:List LN):zaq ls=ls.all (fun l=>l.all (fin .f32)):=by
 rw [zpa]
 have:=zj2 ls (Int.toNat ((ls.length:Int)-(0:Int))+1) false 0 ω2
 simpa using this
theorem zm5 (l:LN):zaq [l]=zkr l:=by rw [z2l,z9r];simp
theorem zk9 (l:LN):z6x l=z7h l:=by
 rw [z7i,z9y,zm5]
 unfold z1n
 cases decide ((1:Int)≤(l.length:Int))<;>cases decide (((l.length:Int):Int)≤128)<;>rfl
theorem zwk {x x0 ve x' ve_3 y y_0:Nat} {we we_3:Int} {Ki:Nat→Nat→Nat} {Ks:Nat→Int→Nat} (hK:∀q k n,Ki q k=Ks q n):
  ∀(μ ν:Nat) (n:Int) (q:Nat),n<μ→n<ν→0<μ→0<ν→n≤25→-1≤n→z5e x x0 ve x' ve_3 Ki μ q (FloatKind.nearest .f64 n)=z4b y y_0 we x' we_3 Ks ν q n:=by
 intro μ
 induction μ with
 | zero=>intro ν n q _ _ h _ _ _;exact absurd h (Nat.lt_irrefl 0)
 | succ μ ih=>
  intro ν n q hm hv _ hv0 hn hn1
  obtain ⟨ν,rfl⟩:∃j,ν=j+1:=⟨ν-1,by omega⟩
  rw [zap,z7w]
  have hc:=z8q (n:=n) ω2 ω2
  rw [hc.2.1]
  by_cases h:(1:Int)≤n
  ·rw [dct h,cond_true,cond_true,hc.2.2.2]
   exact ih ν (n-2) _ ω2 ω2 ω2 ω2 ω2 ω2
  ·rw [dcf h,cond_false,cond_false]
   exact hK _ _ _
theorem zwj {x x0 ve y y_0:Nat} {we:Int} {Ki:Nat→Nat→Nat} {Ks:Nat→Int→Nat} (hK:∀x' (e:Int),Ki x' (FloatKind.nearest .f64 e)=Ks x' e):
  ∀(μ:Nat) (x':Nat) (e:Int),4503599627370496≤x'→x'<4609434218613702656→(4609434218613702656:Int)-x'≤(e+3000)*4503599627370496→e≤2100→
   z6n x x0 ve Ki μ x' (FloatKind.nearest .f64 e)=z5f y y_0 we Ks μ x' e:=by
 intro μ
 induction μ with
 | zero=>intro x' e _ _ _ _;unfold z6n z5f;rfl
 | succ μ ih=>
  intro x' e h0 h1 h2 h3
  rw [zao,z7v]
  cases hc:flt .f64 x' 4604930618986332160 with
  | true=>
   have:=z2z h0 ω2 hc
   rw [cond_true,cond_true,zkd ω2,zy (n:=e-1) ω2 ω2,this.1]
   exact ih _ _ ω2 ω2 ω2 ω2
  | false=>
   rw [cond_false,cond_false]
   exact hK _ _
theorem zwi {x:Nat}:
  ∀(μ:Nat) (x0:Nat) (e:Int),4503599627370496≤x0→x0<9218868437227405312→e*4503599627370496+x0≤9218868437227405312→0≤e→
   z6m x μ x0 (FloatKind.nearest .f64 e)=z4a x μ x0 e:=by
 intro μ
 induction μ with
 | zero=>intro x0 e _ _ _ _;unfold z6m z4a;rfl
 | succ μ ih=>
  intro x0 e h0 h1 h2 h3
  rw [zan,z7u]
  cases hc:fle .f64 4609434218613702656 x0 with
  | true=>
   have:=z2u h0 h1 hc
   rw [cond_true,cond_true,zwp ω2,zy (n:=e+1) ω2 ω2,this.1]
   exact ih _ _ ω2 ω2 ω2 ω2
  | false=>
   rw [cond_false,cond_false]
   rw [z8t ω11 ω11 h0 h1] at hc
   have:=odf hc
   refine zwj ?_ _ _ _ h0 ω2 ω2 ω2
   intro x' e'
   have e25:(4627730092099895296:Nat)=FloatKind.nearest .f64 25:=by decide+kernel
   have c25:cnt 4627730092099895296=25:=by rw [e25];exact (z8q (n:=25) ω11 ω11).1
   rw [c25,e25]
   refine zwk ?_ _ _ 25 0 ?_ ?_ ?_ ?_ ω11 ω11
   ·intro q k n;rfl
   ·decide
   ·decide
   ·decide
   ·decide
theorem zmm {x:Nat} (h0:4503599627370496≤x) (h1:x<9218868437227405312):zdp x=z4a x (Int.toNat ((x:Int))+1) x (0:Int):=by
 have g:=zwi (x:=x) (Int.toNat ((x:Int))+1) x 0 h0 h1 ω2 ω11
 rw [show FloatKind.nearest .f64 0=0 by decide+kernel] at g
 rw [zgr]
 exact g
theorem zmk:zbo 0=z2p 0:=by decide+kernel
theorem zk7:zbo 2147483648=z2p 2147483648:=by decide+kernel
theorem zs2:zbo 2139095040=z2p 2139095040:=by decide+kernel
theorem zmj:zbo 4286578688=z2p 4286578688:=by decide+kernel
theorem zs3:zbo (qnan .f32)=z2p (qnan .f32):=by decide+kernel
theorem z1cy {x:Nat} (h:Wd .f32 x):zbo x=z2p x:=by
 rcases h.cases with hf | rfl | rfl | rfl
 ·cases h0:feq .f32 x 0 with
  | true=>
   rw [z7c hf (zx _),z1m] at h0
   rcases zfs h.1 hf (odt h0) with rfl | rfl
   ·exact zmk
   ·exact zk7
  | false=>
   have w0:=zpv hf
   have w1:=zpw hf
   rw [zp9,zkl,zgs,zde hf,w0,w1,h0,Bool.not_true,cond_false,cond_false,cond_false]
   cases h1:flt .f32 x 0 with
   | true=>rw [cond_true,cond_true];rfl
   | false=>
    have hp:=zbs h0 h1 hf
    have hi:zb6 (zh x) 1=false:=by
     show flt .f64 9218868437227405311 (zh x)=false
     rw [zbb ω11 ω11 hp.1 hp.2]
     exact dcf ω2
    have hi2:zdq x=true:=(z7d x).trans hf
    rw [cond_false,cond_false,hi,cond_false,zok (z4z hf),hi2,Bool.not_true,cond_false,cond_false,←zmm hp.1 hp.2]
    rfl
 ·exact zs2
 ·exact zmj
 ·exact zs3
theorem z17e (a b:LN):∀(μ:Nat) (s:Nat) (i:Nat),a.length-i<μ→za1 a b μ s (i:Int)=z7k (z2a a b μ s (i:Int)):=by
 intro μ
 induction μ with
 | zero=>intro s i h;omega
 | succ μ ih=>
  intro s i hm
  rw [zf7,z6j]
  by_cases h:i<a.length
  ·rw [dct (show (i:Int)<(a.length:Int) by omega),cond_true,cond_true]
   exact ih _ (i+1) ω2
  ·rw [dcf (show ¬(i:Int)<(a.length:Int) by omega),cond_false,cond_false];rfl
theorem zkc (a b:LN):z3s a b=z6a a b:=by
 rw [zp6,za2,zk9,zk9,z9z]
 have:=z17e a b (Int.toNat ((a.length:Int)-(0:Int))+1) 0 0 ω2
 rw [show ((0:Nat):Int)=0 from rfl] at this
 rw [this]
theorem zvw {k:FloatKind} {a b:Nat} (ha:fin k a=true) (hb:fin k b=true):fsub k b a=fsub k a b∨fsub k b a=fneg k (fsub k a b):=by
 obtain ⟨s,m,i,h1⟩:=zu ha
 obtain ⟨t,n,j,h2⟩:=zu hb
 have key:∀(z z':Bool) (M:Nat) (e:Int),k.format.write (.number z' M e)=k.format.write (.number z M e)∨k.format.write (.number z' M e)=fneg k (k.format.write (.number z M e)):=by
  intro z z' M e
  rw [zke (k:=k) (d:=.number z M e) rfl]
  show _∨_=k.format.write (.number (!z) M e)
  cases z<;>cases z'<;>first | exact .inl rfl | exact .inr rfl
 have e1:fsub k a b=k.format.write (.number (if Ieee.signed s m (i-min i j).toNat+Ieee.signed (!t) n (j-min i j).toNat=0 then s && !t else decide (Ieee.signed s m (i-min i j).toNat+Ieee.signed (!t) n (j-min i j).toNat<0)) (Ieee.signed s m (i-min i j).toNat+Ieee.signed (!t) n (j-min i j).toNat).natAbs (min i j)):=by
  unfold fsub Ieee.Format.sub;rw [h1,h2];rfl
 have e2:fsub k b a=k.format.write (.number (if Ieee.signed t n (j-min j i).toNat+Ieee.signed (!s) m (i-min j i).toNat=0 then t && !s else decide (Ieee.signed t n (j-min j i).toNat+Ieee.signed (!s) m (i-min j i).toNat<0)) (Ieee.signed t n (j-min j i).toNat+Ieee.signed (!s) m (i-min j i).toNat).natAbs (min j i)):=by
  unfold fsub Ieee.Format.sub;rw [h1,h2];rfl
 have sg:∀(s:Bool) (m q:Nat),Ieee.signed (!s) m q=- Ieee.signed s m q:=fun s m q=>by
  cases s<;>simp [Ieee.signed]
 rw [e1,e2,Int.min_comm j i,sg s,sg t,show Ieee.signed t n (j-min i j).toNat+ -Ieee.signed s m (i-min i j).toNat=-(Ieee.signed s m (i-min i j).toNat+ -Ieee.signed t n (j-min i j).toNat) by omega,Int.natAbs_neg]
 exact key _ _ _ _
theorem z11d {k:FloatKind} {c:Nat} (hc:fin k c=true):fmul k (fneg k c) (fneg k c)=fmul k c c:=by
 obtain ⟨s,m,i,h1⟩:=zu hc
 unfold fmul Ieee.Format.mul
 rw [za8 (z4z hc),h1]
 cases s<;>rfl
theorem z18i {k:FloatKind} {a b:Nat} (ha:fin k a=true) (hb:fin k b=true) (hc:fin k (fsub k a b)=true):fmul k (fsub k b a) (fsub k b a)=fmul k (fsub k a b) (fsub k a b):=by
 rcases zvw ha hb with e | e
 ·rw [e]
 ·rw [e,z11d hc]
theorem sqn (x:Rat):0≤x*x:=by
 by_cases h:0≤x
 ·exact Rat.mul_nonneg h h
 ·have h2:0≤-x:=by grind
  have:=Rat.mul_nonneg h2 h2
  grind
theorem mulb {x y a b:Rat} (h1:-a≤x) (h2:x≤a) (h3:-b≤y) (h4:y≤b):-(a*b)≤x*y∧x*y≤a*b:=by
 have e1:=Rat.mul_nonneg (show (0:Rat)≤a-x by grind) (show (0:Rat)≤b-y by grind)
 have e2:=Rat.mul_nonneg (show (0:Rat)≤a+x by grind) (show (0:Rat)≤b+y by grind)
 have e3:=Rat.mul_nonneg (show (0:Rat)≤a-x by grind) (show (0:Rat)≤b+y by grind)
 have e4:=Rat.mul_nonneg (show (0:Rat)≤a+x by grind) (show (0:Rat)≤b-y by grind)
 constructor<;>grind
def sUL:List (Nat×Nat)→Rat
 | []=>0
 | z::r=>rq .f32 z.1*rq .f32 z.2+sUL r
def sUU:List (Nat×Nat)→Rat
 | []=>0
 | z::r=>rq .f32 z.1*rq .f32 z.1+sUU r
def sLL:List (Nat×Nat)→Rat
 | []=>0
 | z::r=>rq .f32 z.2*rq .f32 z.2+sLL r
def Prs (zs:List (Nat×Nat)):Prop:=∀z ∈ zs,fin .f32 z.1=true∧-1≤rq .f32 z.1∧rq .f32 z.1≤1∧fin .f32 z.2=true∧-32≤rq .f32 z.2∧rq .f32 z.2≤32
theorem Prs.tail {z:Nat×Nat} {r:List (Nat×Nat)} (h:Prs (z::r)):Prs r:=fun y hy=>h y (List.mem_cons_of_mem _ hy)
def dotW:List (Nat×Nat)→Nat→Nat
 | [],q=>q
 | z::r,q=>dotW r (fadd .f32 q (fmul .f32 z.1 z.2))
theorem quad (t:Rat):∀zs:List (Nat×Nat),0≤sUU zs*t*t-2*sUL zs*t+sLL zs:=by
 intro zs
 induction zs with
 | nil=>unfold sUU sUL sLL;grind
 | cons z r ih=>
  unfold sUU sUL sLL
  have:=sqn (rq .f32 z.1*t-rq .f32 z.2)
  grind
theorem lit32:(32:Rat)=(((2 ^ 5:Nat):Int):Rat):=by decide
theorem zwf:(64:Rat)=(((2 ^ 6:Nat):Int):Rat):=by decide
theorem z1cu:(512:Rat)=(((2 ^ 9:Nat):Int):Rat):=by decide
theorem ω13 {P:Prop} (h:P:=by grind):P:=h
theorem z14p:∀(zs:List (Nat×Nat)) (q:Nat) (B:Rat),Prs zs→fin .f32 q=true→-B≤rq .f32 q→rq .f32 q≤B→B+34*((zs.length:Int):Rat)≤512→
  fin .f32 (dotW zs q)=true∧-(((zs.length:Int):Rat)*(544 / 16777216))≤rq .f32 (dotW zs q)-(rq .f32 q+sUL zs)∧rq .f32 (dotW zs q)-(rq .f32 q+sUL zs)≤((zs.length:Int):Rat)*(544 / 16777216):=by
 intro zs
 induction zs with
 | nil=>
  intro q B _ hq _ _ _
  refine ⟨hq,?_,?_⟩
  ·show -((((0:Nat):Int):Rat)*(544 / 16777216))≤rq .f32 q-(rq .f32 q+0);grind
  ·show rq .f32 q-(rq .f32 q+0)≤(((0:Nat):Int):Rat)*(544 / 16777216);grind
 | cons z r ih=>
  intro q B h hq h1 h2 h3
  obtain ⟨a1,a2,a3,a4,a5,a6⟩:=h z (List.mem_cons_self ..)
  have en:(((z::r).length:Int):Rat)=((r.length:Int):Rat)+1:=by
   rw [List.length_cons,Int.natCast_add];simp
  have hn:(0:Rat)≤((r.length:Int):Rat):=by
   have:(0:Int)≤(r.length:Int):=by omega
   exact_mod_cast this
  rw [en] at h3 ⊢
  obtain ⟨m1,m2⟩:=mulb a2 a3 a5 a6
  obtain ⟨f1,e1,e2⟩:=rmul 5 lit32 ω11 a1 a4 ω13 ω13
  rw [ur32] at e1 e2
  obtain ⟨f2,g1,g2⟩:=radd 9 z1cu ω11 hq f1 ω13 ω13
  rw [ur32] at g1 g2
  obtain ⟨i1,i2,i3⟩:=ih (fadd .f32 q (fmul .f32 z.1 z.2)) (B+34) h.tail f2 ω13 ω13 ω13
  refine ⟨i1,?_,?_⟩
  ·show _≤rq .f32 (dotW r (fadd .f32 q (fmul .f32 z.1 z.2)))-(rq .f32 q+(rq .f32 z.1*rq .f32 z.2+sUL r));grind
  ·show rq .f32 (dotW r (fadd .f32 q (fmul .f32 z.1 z.2)))-(rq .f32 q+(rq .f32 z.1*rq .f32 z.2+sUL r))≤_;grind
theorem zxh {z e d:Rat} (d0:0≤d) (d1:d≤1) (h1:-d≤e) (h2:e≤d):-(d*(9+z*z / 8))≤(z+e)*(z+e)-z*z∧(z+e)*(z+e)-z*z≤d*(9+z*z / 8):=by
 have a:=sqn (z-8)
 have b:=sqn (z+8)
 obtain ⟨m1,m2⟩:=mulb (x:=z) (y:=e) (a:=z*z / 16+4) (b:=d) ω13 ω13 h1 h2
 obtain ⟨n1,n2⟩:=mulb (x:=e) (y:=e) h1 h2 h1 h2
 have hd:d*d≤d*1:=Rat.mul_le_mul_of_nonneg_left d1 d0
 constructor<;>grind
def sqR:LN→Rat
 | []=>0
 | y::r=>rq .f32 y*rq .f32 y+sqR r
theorem zpr:∀l,0≤sqR l:=by
 intro l
 induction l with
 | nil=>unfold sqR;grind
 | cons y r ih=>unfold sqR;have:=sqn (rq .f32 y);grind
theorem z18h {l:LN} {y:Nat} (h:y ∈ l):rq .f32 y*rq .f32 y≤sqR l:=by
 induction l with
 | nil=>cases h
 | cons x r ih=>
  unfold sqR
  rcases List.mem_cons.1 h with rfl | h
  ·have:=zpr r;grind
  ·have:=ih h;have:=sqn (rq .f32 x);grind
theorem z1cs {α:Type} (r:List α):(0:Rat)≤((r.length:Int):Rat):=by
 have:(0:Int)≤(r.length:Int):=by omega
 exact_mod_cast this
theorem zgf {α:Type} (z:α) (r:List α):(((z::r).length:Int):Rat)=((r.length:Int):Rat)+1:=by
 rw [List.length_cons,Int.natCast_add];simp
def zbl (T:Nat) (zs:List (Nat×Nat)):LN:=zs.map fun z=>fmul .f32 z.1 T
def z9s (T:Nat) (zs:List (Nat×Nat)):LN:=zs.map fun z=>fsub .f32 z.2 (fmul .f32 z.1 T)
theorem zod {T:Nat} {z:Nat×Nat} (hT:fin .f32 T=true) (t1:-25≤rq .f32 T) (t2:rq .f32 T≤25) (h:fin .f32 z.1=true∧-1≤rq .f32 z.1∧rq .f32 z.1≤1∧fin .f32 z.2=true∧-32≤rq .f32 z.2∧rq .f32 z.2≤32):
  fin .f32 (fmul .f32 z.1 T)=true∧-(32 / 16777216)≤rq .f32 (fmul .f32 z.1 T)-rq .f32 z.1*rq .f32 T∧rq .f32 (fmul .f32 z.1 T)-rq .f32 z.1*rq .f32 T≤32 / 16777216∧
  fin .f32 (fsub .f32 z.2 (fmul .f32 z.1 T))=true∧-(96 / 16777216)≤rq .f32 (fsub .f32 z.2 (fmul .f32 z.1 T))-(rq .f32 z.2-rq .f32 z.1*rq .f32 T)∧rq .f32 (fsub .f32 z.2 (fmul .f32 z.1 T))-(rq .f32 z.2-rq .f32 z.1*rq .f32 T)≤96 / 16777216∧
  -26≤rq .f32 (fmul .f32 z.1 T)∧rq .f32 (fmul .f32 z.1 T)≤26:=by
 obtain ⟨a1,a2,a3,a4,a5,a6⟩:=h
 obtain ⟨m1,m2⟩:=mulb a2 a3 t1 t2
 obtain ⟨f1,e1,e2⟩:=rmul 5 lit32 ω11 a1 hT ω13 ω13
 rw [ur32] at e1 e2
 obtain ⟨f2,g1,g2⟩:=rsub 6 zwf ω11 a4 f1 ω13 ω13
 rw [ur32] at g1 g2
 refine ⟨f1,by grind,by grind,f2,by grind,by grind,by grind,by grind⟩
theorem zyq {T:Nat} (hT:fin .f32 T=true) (t1:-25≤rq .f32 T) (t2:rq .f32 T≤25):∀zs:List (Nat×Nat),Prs zs→
  (∀x ∈ zbl T zs,fin .f32 x=true∧-26≤rq .f32 x∧rq .f32 x≤26)∧
  -(96 / 16777216*(9*((zs.length:Int):Rat)+sUU zs*rq .f32 T*rq .f32 T / 8))≤sqR (zbl T zs)-sUU zs*rq .f32 T*rq .f32 T∧
  sqR (zbl T zs)-sUU zs*rq .f32 T*rq .f32 T≤96 / 16777216*(9*((zs.length:Int):Rat)+sUU zs*rq .f32 T*rq .f32 T / 8):=by
 intro zs
 induction zs with
 | nil=>
  intro _
  refine ⟨(fun x hx=>by cases hx),?_,?_⟩
  ·show -(96 / 16777216*(9*(((0:Nat):Int):Rat)+0*rq .f32 T*rq .f32 T / 8))≤(0:Rat)-0*rq .f32 T*rq .f32 T;simp;grind
  ·show (0:Rat)-0*rq .f32 T*rq .f32 T≤96 / 16777216*(9*(((0:Nat):Int):Rat)+0*rq .f32 T*rq .f32 T / 8);simp;grind
 | cons z r ih=>
  intro h
  obtain ⟨b1,b2,b3⟩:=ih h.tail
  obtain ⟨f1,e1,e2,_,_,_,x1,x2⟩:=zod hT t1 t2 (h z (List.mem_cons_self ..))
  rw [zgf]
  obtain ⟨s1,s2⟩:=zxh (z:=rq .f32 z.1*rq .f32 T) (e:=rq .f32 (fmul .f32 z.1 T)-rq .f32 z.1*rq .f32 T) (d:=96 / 16777216) ω13 ω13 ω13 ω13
  refine ⟨fun x hx=>?_,?_,?_⟩
  ·rcases List.mem_cons.1 hx with rfl | hx
   ·exact ⟨f1,x1,x2⟩
   ·exact b1 x hx
  ·show _≤(rq .f32 (fmul .f32 z.1 T)*rq .f32 (fmul .f32 z.1 T)+sqR (zbl T r))-sUU (z::r)*rq .f32 T*rq .f32 T
   rw [show sUU (z::r)=rq .f32 z.1*rq .f32 z.1+sUU r from rfl]
   clear ih h b1 x1 x2 f1
   generalize rq .f32 (fmul .f32 z.1 T)=X at *
   generalize rq .f32 z.1=U at *
   generalize rq .f32 T=V at *
   generalize sqR (zbl T r)=Y at *
   generalize sUU r=W at *
   generalize ((r.length:Int):Rat)=N at *
   have e3:U*V+(X-U*V)=X:=by grind
   rw [e3] at s1 s2
   have e4:(U*U+W)*V*V=U*V*(U*V)+W*V*V:=by grind
   rw [e4]
   generalize U*V*(U*V)=A at *
   generalize W*V*V=C at *
   generalize X*X=D at *
   grind
  ·show (rq .f32 (fmul .f32 z.1 T)*rq .f32 (fmul .f32 z.1 T)+sqR (zbl T r))-sUU (z::r)*rq .f32 T*rq .f32 T≤_
   rw [show sUU (z::r)=rq .f32 z.1*rq .f32 z.1+sUU r from rfl]
   clear ih h b1 x1 x2 f1
   generalize rq .f32 (fmul .f32 z.1 T)=X at *
   generalize rq .f32 z.1=U at *
   generalize rq .f32 T=V at *
   generalize sqR (zbl T r)=Y at *
   generalize sUU r=W at *
   generalize ((r.length:Int):Rat)=N at *
   have e3:U*V+(X-U*V)=X:=by grind
   rw [e3] at s1 s2
   have e4:(U*U+W)*V*V=U*V*(U*V)+W*V*V:=by grind
   rw [e4]
   generalize U*V*(U*V)=A at *
   generalize W*V*V=C at *
   generalize X*X=D at *
   grind
theorem z10x {T:Nat} (hT:fin .f32 T=true) (t1:-25≤rq .f32 T) (t2:rq .f32 T≤25):∀zs:List (Nat×Nat),Prs zs→
  (∀y ∈ z9s T zs,fin .f32 y=true)∧
  -(96 / 16777216*(9*((zs.length:Int):Rat)+(sUU zs*rq .f32 T*rq .f32 T-2*sUL zs*rq .f32 T+sLL zs) / 8))≤sqR (z9s T zs)-(sUU zs*rq .f32 T*rq .f32 T-2*sUL zs*rq .f32 T+sLL zs)∧
  sqR (z9s T zs)-(sUU zs*rq .f32 T*rq .f32 T-2*sUL zs*rq .f32 T+sLL zs)≤96 / 16777216*(9*((zs.length:Int):Rat)+(sUU zs*rq .f32 T*rq .f32 T-2*sUL zs*rq .f32 T+sLL zs) / 8):=by
 intro zs
 induction zs with
 | nil=>
  intro _
  refine ⟨(fun x hx=>by cases hx),?_,?_⟩
  ·show -(96 / 16777216*(9*(((0:Nat):Int):Rat)+(0*rq .f32 T*rq .f32 T-2*0*rq .f32 T+0) / 8))≤(0:Rat)-(0*rq .f32 T*rq .f32 T-2*0*rq .f32 T+0);simp;grind
  ·show (0:Rat)-(0*rq .f32 T*rq .f32 T-2*0*rq .f32 T+0)≤96 / 16777216*(9*(((0:Nat):Int):Rat)+(0*rq .f32 T*rq .f32 T-2*0*rq .f32 T+0) / 8);simp;grind
 | cons z r ih=>
  intro h
  obtain ⟨b1,b2,b3⟩:=ih h.tail
  obtain ⟨_,_,_,f1,e1,e2,_,_⟩:=zod hT t1 t2 (h z (List.mem_cons_self ..))
  rw [zgf]
  obtain ⟨s1,s2⟩:=zxh (z:=rq .f32 z.2-rq .f32 z.1*rq .f32 T) (e:=rq .f32 (fsub .f32 z.2 (fmul .f32 z.1 T))-(rq .f32 z.2-rq .f32 z.1*rq .f32 T)) (d:=96 / 16777216) ω13 ω13 e1 e2
  refine ⟨fun x hx=>?_,?_,?_⟩
  ·rcases List.mem_cons.1 hx with rfl | hx
   ·exact f1
   ·exact b1 x hx
  ·show _≤(rq .f32 (fsub .f32 z.2 (fmul .f32 z.1 T))*rq .f32 (fsub .f32 z.2 (fmul .f32 z.1 T))+sqR (z9s T r))-_
   unfold sUU sUL sLL
   grind
  ·show (rq .f32 (fsub .f32 z.2 (fmul .f32 z.1 T))*rq .f32 (fsub .f32 z.2 (fmul .f32 z.1 T))+sqR (z9s T r))-_≤_
   unfold sUU sUL sLL
   grind
theorem zxb {x B:Rat} (hB:0≤B) (h:x*x≤B*B):-B≤x∧x≤B:=by
 constructor
 ·by_cases c:-B≤x
  ·exact c
  ·have h1:0< -x-B:=by grind
   have h2:0≤-x+B:=by grind
   by_cases hz:-x+B=0
   ·grind
   ·have h3:0< -x+B:=by grind
    have:=Rat.mul_pos h1 h3
    grind
 ·by_cases c:x≤B
  ·exact c
  ·have h1:0<x-B:=by grind
   have h3:0<x+B:=by grind
   have:=Rat.mul_pos h1 h3
   grind
theorem z11r {zs:List (Nat×Nat)} (h:Prs zs) (hn:zs.length≤9) (u1:-(1 / 50000)≤sUU zs-1) (u2:sUU zs-1≤1 / 50000) (hl:sLL zs≤577):
  fin .f32 (dotW zs 0)=true∧-25≤rq .f32 (dotW zs 0)∧rq .f32 (dotW zs 0)≤25∧
  (∀x ∈ zbl (dotW zs 0) zs,fin .f32 x=true∧-26≤rq .f32 x∧rq .f32 x≤26)∧(∀y ∈ z9s (dotW zs 0) zs,fin .f32 y=true)∧
  (-(1 / 200*(1+rq .f32 (dotW zs 0)*rq .f32 (dotW zs 0)))≤sqR (zbl (dotW zs 0) zs)-rq .f32 (dotW zs 0)*rq .f32 (dotW zs 0)∧sqR (zbl (dotW zs 0) zs)-rq .f32 (dotW zs 0)*rq .f32 (dotW zs 0)≤1 / 200*(1+rq .f32 (dotW zs 0)*rq .f32 (dotW zs 0)))∧
  (-(1 / 200*(1+sLL zs))≤sqR (z9s (dotW zs 0) zs)+rq .f32 (dotW zs 0)*rq .f32 (dotW zs 0)-sLL zs∧sqR (z9s (dotW zs 0) zs)+rq .f32 (dotW zs 0)*rq .f32 (dotW zs 0)-sLL zs≤1 / 200*(1+sLL zs))∧
  sqR (z9s (dotW zs 0) zs)≤sLL zs+1 / 400:=by
 have hn':((zs.length:Int):Rat)≤9:=by
  have:(zs.length:Int)≤9:=by omega
  exact_mod_cast this
 have hn0:=z1cs zs
 have hz:=z2t .f32
 obtain ⟨fT,e1,e2⟩:=z14p zs 0 0 h (zx _) (by rw [hz];grind) (by rw [hz];grind) ω13
 rw [hz] at e1 e2
 generalize hT:dotW zs 0=T at *
 have q1:=quad (sUL zs) zs
 have s0:=sqn (sUL zs)
 have sll:0≤sLL zs:=by
  have:=quad 0 zs
  grind
 -- the sum
 obtain ⟨p1,p2⟩:=mulb (x:=sUU zs-1) (y:=sUL zs*sUL zs) (a:=1 / 50000) (b:=sUL zs*sUL zs) ω13 ω13 ω13 (Rat.le_refl)
 have hS:sUL zs*sUL zs≤sLL zs+1 / 50000*(sUL zs*sUL zs):=by grind
 have hS2:sUL zs*sUL zs≤(49 / 2)*(49 / 2):=by grind
 obtain ⟨r1,r2⟩:=zxb (B:=49 / 2) ω13 hS2
 have t1:-25≤rq .f32 T:=by grind
 have t2:rq .f32 T≤25:=by grind
 have eps1:-(3 / 10000)≤rq .f32 T-sUL zs:=by grind
 have eps2:rq .f32 T-sUL zs≤3 / 10000:=by grind
 obtain ⟨a1,a2,a3⟩:=zyq fT t1 t2 zs h
 obtain ⟨b1,b2,b3⟩:=z10x fT t1 t2 zs h
 have T0:=sqn (rq .f32 T)
 obtain ⟨c1,c2⟩:=mulb (x:=sUU zs-1) (y:=rq .f32 T*rq .f32 T) (a:=1 / 50000) (b:=rq .f32 T*rq .f32 T) ω13 ω13 ω13 (Rat.le_refl)
 -- 2 T (T - S) against 1 + T T
 have tp:-(1+rq .f32 T*rq .f32 T)≤2*rq .f32 T∧2*rq .f32 T≤1+rq .f32 T*rq .f32 T:=by
  have x1:=sqn (rq .f32 T-1)
  have x2:=sqn (rq .f32 T+1)
  constructor<;>grind
 obtain ⟨d1,d2⟩:=mulb (x:=2*rq .f32 T) (y:=rq .f32 T-sUL zs) (a:=1+rq .f32 T*rq .f32 T) (b:=3 / 10000) tp.1 tp.2 eps1 eps2
 have sp:-(1+sUL zs*sUL zs)≤2*sUL zs∧2*sUL zs≤1+sUL zs*sUL zs:=by
  have x1:=sqn (sUL zs-1)
  have x2:=sqn (sUL zs+1)
  constructor<;>grind
 obtain ⟨g1,g2⟩:=mulb (x:=2*sUL zs) (y:=rq .f32 T-sUL zs) (a:=1+sUL zs*sUL zs) (b:=3 / 10000) sp.1 sp.2 eps1 eps2
 obtain ⟨k1,k2⟩:=mulb eps1 eps2 eps1 eps2
 have TS:rq .f32 T*rq .f32 T≤1001 / 1000*(sUL zs*sUL zs)+1 / 1000:=by grind
 have TL:rq .f32 T*rq .f32 T≤101 / 100*sLL zs+1 / 1000:=by grind
 refine ⟨fT,t1,t2,a1,b1,⟨?_,?_⟩,⟨?_,?_⟩,?_⟩<;>grind
def dg (x l:LN):Nat→Nat→Int→Nat
 | 0,q,_=>q
 | μ+1,q,t=>bif decide (t<(x.length:Int)) then dg x l μ (fadd .f32 q (fmul .f32 (x.getD t.toNat 0) (l.getD t.toNat 0))) (t+1) else q
def dl (l x:LN):Nat→Int→LN
 | 0,_=>[]
 | μ+1,t=>bif decide (t<(l.length:Int)) then fsub .f32 (l.getD t.toNat 0) (x.getD t.toNat 0)::dl l x μ (t+1) else []
def atI (s:Nat) (n p:Int) (z:Nat):LN:=z2o (z1j s).1 (z1j s).2 n p z
theorem zmb (l sc:LN) (t6 fo:Bool) (t35 a:Int) (b c:Nat) (d:Int) (e f:Nat) (f8:Bool) (t50 g:Int) (h i:Nat) (K:Nat→Int→Int→Nat→Nat→(Int×Nat×Nat×LN×Bool)) (x:LN)
  (hx:z2o (z1j (sc.getD t35.toNat 0)).1 (z1j (sc.getD t35.toNat 0)).2 (l.length:Int) t50 1065353216=x) (y1:Int) (y2 y3:Nat):∀(μ q:Nat) (t:Int),0≤t→t≤(x.length:Int)→((x.length:Int)-t).toNat<μ→
  z7s l sc t6 fo t35 a b c d e f f8 t50 g h i K μ q t y1 y2 y3=K (dg x l μ q t) (x.length:Int) y1 y2 y3:=by
 intro μ
 induction μ with
 | zero=>intro q t h0 h1 h2;omega
 | succ μ ih=>
  intro q t h0 h1 h2
  rw [zal,hx]
  unfold dg
  by_cases ht:t<(x.length:Int)
  ·rw [dct ht,cond_true,cond_true];exact ih _ _ ω2 ω2 ω2
  ·rw [dcf ht,cond_false,cond_false,show t=(x.length:Int) by omega]
theorem zmc (l sc:LN) (t6 fo:Bool) (t35 a:Int) (b c:Nat) (d:Int) (e f:Nat) (K:LN→Int→Int→Nat→Nat→(Int×Nat×Nat×LN×Bool)) (x:LN)
  (hx:(z1s (l.length:Int) d e f).1=x) (y1:Int) (y2 y3:Nat):∀(μ:Nat) (o:LN) (t:Int),0≤t→t≤(l.length:Int)→((l.length:Int)-t).toNat<μ→
  z7t l sc t6 fo t35 a b c d e f K μ o t y1 y2 y3=K (o++dl l x μ t) (l.length:Int) y1 y2 y3:=by
 intro μ
 induction μ with
 | zero=>intro o t h0 h1 h2;omega
 | succ μ ih=>
  intro o t h0 h1 h2
  rw [zam,hx]
  unfold dl
  by_cases ht:t<(l.length:Int)
  ·rw [dct ht,cond_true,cond_true,ih _ _ ω2 ω2 ω2,List.append_assoc];rfl
  ·rw [dcf ht,cond_false,cond_false,List.append_nil,show t=(l.length:Int) by omega]
theorem by_l2 (l:LN) (r c p:Int) (z:Nat) (t:Int) (A:LN) (K:Int→LN→LN):∀(R P:LN) (μ:Nat),c.toNat=P.length+R.length→R.length<μ→
  z4n l r c p z t A K μ (P.length:Int) (P++R)=K (c.toNat:Int) (P++R.map fun a=>fmul .f32 (fdiv .f32 a (zko (zar A))) z):=by
 intro R
 induction R with
 | nil=>
  intro P μ h hm
  obtain _ | μ:=μ
  ·simp at hm
  rw [List.length_nil,Nat.add_zero] at h
  rw [z4o,h,dcf ω2,cond_false];rfl
 | cons a R ih=>
  intro P μ h hm
  rw [List.length_cons] at h hm
  obtain _ | μ:=μ
  ·omega
  rw [z4o,dct (show (P.length:Int)<(c.toNat:Int) by omega),cond_true,Int.toNat_natCast]
  have e1:(P++a::R).getD P.length 0=a:=by rw [List.getD_eq_getElem?_getD,List.getElem?_append_right (Nat.le_refl _),Nat.sub_self];rfl
  have e2:∀v,(P++a::R).set P.length v=(P++[v])++R:=fun v=>by rw [List.set_append_right _ _ (Nat.le_refl _),Nat.sub_self,List.set_cons_zero,List.append_assoc];rfl
  rw [e1,e2]
  have:=ih (P++[fmul .f32 (fdiv .f32 a (zko (zar A))) z]) μ ω42 ω2
  rw [List.length_append,List.length_singleton] at this
  refine Eq.trans this ?_
  rw [List.append_assoc];rfl
def winA (t:LN) (r p:Int) (i:Nat):Nat:=bif decide (0≤((i:Int)-p)+r) then (bif decide ((((i:Int)-p)+r)<(t.length:Int)) then t.getD (((i:Int)-p)+r).toNat 0 else 0) else 0
def winI (t:LN) (r p:Int) (n:Nat):LN:=(List.range' 0 n).map (winA t r p)
def zl3 (w:LN):LN:=w.map fun a=>fdiv .f32 a (zko (zar w))
theorem by_l1 (t:LN) (r p:Int) (z n:Nat):∀(k m:Nat) (P:LN) (μ:Nat),P.length=m→n=m+k→k<μ→
  z2v t r (n:Int) p z μ (m:Int) (P++List.replicate k 0)=(zl3 (P++(List.range' m k).map (winA t r p))).map fun a=>fmul .f32 a z:=by
 intro k
 induction k with
 | zero=>
  intro m P μ h1 h2 hm
  obtain _ | μ:=μ
  ·omega
  rw [z4m,Int.toNat_natCast,dcf (show ¬(m:Int)<(n:Int) by omega),cond_false,List.replicate_zero,List.append_nil]
  have:=by_l2 t r (n:Int) p z (m:Int) P (fun (t50:Int) (y2_1:LN)=>y2_1) P [] (Int.toNat ((n:Int)-(0:Int))+1) (by rw [List.length_nil];omega) ω2
  refine Eq.trans this ?_
  show _=(zl3 (P++[])).map _
  rw [List.append_nil,List.nil_append]
  unfold zl3
  rw [List.map_map];rfl
 | succ k ih=>
  intro m P μ h1 h2 hm
  obtain _ | μ:=μ
  ·omega
  rw [z4m,Int.toNat_natCast,dct (show (m:Int)<(n:Int) by omega),cond_true,Int.toNat_natCast]
  have e2:∀v,(P++List.replicate (k+1) 0).set m v=(P++[v])++List.replicate k 0:=fun v=>by rw [←h1,List.set_append_right _ _ (Nat.le_refl _),Nat.sub_self,List.replicate_succ,List.set_cons_zero,List.append_assoc];rfl
  have e3:P++List.replicate (k+1) 0=(P++[0])++List.replicate k 0:=by rw [List.replicate_succ,List.append_assoc];rfl
  have go:∀v,winA t r p m=v→z2v t r (n:Int) p z μ ((m:Int)+1) ((P++[v])++List.replicate k 0)=(zl3 (P++(List.range' m (k+1)).map (winA t r p))).map fun a=>fmul .f32 a z:=fun v hv=>by
   have:=ih (m+1) (P++[v]) μ ω42 ω2 ω2
   refine Eq.trans this ?_
   rw [List.range'_succ,List.map_cons,hv,List.append_assoc];rfl
  by_cases c1:0≤((m:Int)-p)+r
  ·by_cases c2:(((m:Int)-p)+r)<(t.length:Int)
   ·rw [dct c1,dct c2,cond_true,cond_true,e2]
    exact go _ (by unfold winA;rw [dct c1,dct c2];rfl)
   ·rw [dct c1,dcf c2,cond_true,cond_false,e3]
    exact go _ (by unfold winA;rw [dct c1,dcf c2];rfl)
  ·rw [dcf c1,cond_false,e3]
   exact go _ (by unfold winA;rw [dcf c1];rfl)
theorem z19e (t:LN) (r p:Int) (z n:Nat):z2o t r (n:Int) p z=(zl3 (winI t r p n)).map fun a=>fmul .f32 a z:=by
 rw [za0]
 exact by_l1 t r p z n n 0 [] _ rfl ω2 ω2
def dgOf (l:LN) (d:Int) (e:Nat):Nat:=dg (atI e (l.length:Int) d 1065353216) l (Int.toNat (((atI e (l.length:Int) d 1065353216).length:Int)-(0:Int))+1) 0 0
def Gd (l sc:LN) (d:Int) (e f:Nat):Prop:=0≤d∧d<(l.length:Int)∧e ∈ sc∧f=dgOf l d e
theorem zgc {sc:LN} {t:Int} (h0:0≤t) (h1:t<(sc.length:Int)):sc.getD t.toNat 0 ∈ sc:=by
 rw [List.getD_eq_getElem?_getD,List.getElem?_eq_getElem (show t.toNat<sc.length by omega)]
 exact List.getElem_mem _
theorem pp_l2 (P:(Int×Nat×Nat×LN×Bool)→Prop) {l sc:LN} (hn:1≤l.length) (t6 fo:Bool) (t:Int) (t0:0≤t) (t1:t<(sc.length:Int)) (a:Int) (b c:Nat) (d:Int) (e f:Nat)
  (K:Bool→Int→Int→Nat→Nat→(Int×Nat×Nat×LN×Bool))
  (hK:∀(u x:Int) (y r:Nat),Gd l sc x y r→P (K true u x y r)):
  ∀(μ:Nat) (g:Bool) (i x:Int) (y r:Nat),0≤i→((l.length:Int)-i).toNat<μ→(g=true∧Gd l sc x y r)∨(g=false∧i=0)→
   P (z1q l sc t6 fo t a b c d e f K μ g i x y r):=by
 intro μ
 induction μ with
 | zero=>intro g i x y r h0 hm;omega
 | succ μ ih=>
  intro g i x y r h0 hm hb
  rw [zak]
  by_cases hi:i<(l.length:Int)
  ·rw [dct hi,cond_true]
   have hmem:=zgc t0 t1
   rw [zmb _ _ _ _ _ _ _ _ _ _ _ _ _ _ _ _ _ (atI (sc.getD t.toNat 0) (l.length:Int) i 1065353216) rfl _ _ _ _ _ _ ω11 ω2 (by show Int.toNat (((atI (sc.getD t.toNat 0) (l.length:Int) i 1065353216).length:Int)-0)<_;exact Nat.lt_succ_self _)]
   have new:Gd l sc i (sc.getD t.toNat 0) (dgOf l i (sc.getD t.toNat 0)):=⟨h0,hi,hmem,rfl⟩
   show P (bif !g then z1q l sc t6 fo t a b c d e f K μ true (i+1) i (sc.getD t.toNat 0) (dgOf l i (sc.getD t.toNat 0)) else (bif flt .f32 (z5z r) (z5z (dgOf l i (sc.getD t.toNat 0))) then z1q l sc t6 fo t a b c d e f K μ true (i+1) i (sc.getD t.toNat 0) (dgOf l i (sc.getD t.toNat 0)) else z1q l sc t6 fo t a b c d e f K μ g (i+1) x y r))
   generalize dgOf l i (sc.getD t.toNat 0)=q at *
   generalize sc.getD t.toNat 0=s at *
   have e1:=ih true (i+1) i s q ω2 ω2 (.inl ⟨rfl,new⟩)
   rcases hb with ⟨rfl,hb⟩ | ⟨rfl,_⟩
   ·rw [Bool.not_true,cond_false]
    have e2:=ih true (i+1) x y r ω2 ω2 (.inl ⟨rfl,hb⟩)
    cases flt .f32 (z5z r) (z5z q)
    ·exact e2
    ·exact e1
   ·exact e1
  ·rw [dcf hi,cond_false]
   rcases hb with ⟨rfl,hb⟩ | ⟨_,h2⟩
   ·exact hK _ _ _ _ hb
   ·omega
theorem z11q (P:(Int×Nat×Nat×LN×Bool)→Prop) {l sc:LN} (hn:1≤l.length) (hs0:1≤sc.length) (hsc:∀e ∈ sc,z8l e=true)
  (hf:∀(d:Int) (e f:Nat),Gd l sc d e f→P (bif !((z1s (l.length:Int) d e f).2) then ((0:Int),0,0,[],false) else (bif !((dl l (z1s (l.length:Int) d e f).1 (Int.toNat ((l.length:Int)-(0:Int))+1) 0).all (fin .f32)) then ((0:Int),0,0,[],false) else (d,e,f,dl l (z1s (l.length:Int) d e f).1 (Int.toNat ((l.length:Int)-(0:Int))+1) 0,true)))):P (z1y l sc (Int.toNat ((sc.length:Int)-(0:Int))+1) false false (0:Int) 0 0 0 0 0 0):=by
 have go:∀(μ:Nat) (t6 g:Bool) (t a:Int) (b c:Nat) (d:Int) (e f:Nat),0≤t→t≤(sc.length:Int)→((sc.length:Int)-t).toNat<μ→(g=true∧Gd l sc d e f)∨(g=false∧t=0)→P (z1y l sc μ t6 g t a b c d e f):=by
  intro μ
  induction μ with
  | zero=>intro t6 g t a b c d e f h0 h1 hm;omega
  | succ μ ih=>
   intro t6 g t a b c d e f h0 h1 hm hb
   rw [zaj]
   by_cases ht:t<(sc.length:Int)
   ·rw [dct ht,cond_true,hsc _ (zgc h0 ht),Bool.not_true,cond_false]
    refine pp_l2 P hn _ _ t h0 ht _ _ _ _ _ _ _ (fun u x y r hbb=>?_) _ _ _ _ _ _ ω11 ω2 (hb.imp id fun h=>⟨h.1,rfl⟩)
    exact ih _ _ _ _ _ _ _ _ _ ω2 ω2 ω2 (.inl ⟨rfl,hbb⟩)
   ·rw [dcf ht,cond_false]
    rcases hb with ⟨rfl,hb⟩ | ⟨_,h2⟩
    ·rw [zmc _ _ _ _ _ _ _ _ _ _ _ _ _ rfl _ _ _ _ _ _ ω11 ω2 ω2,List.nil_append,z2l]
     have:=hf _ _ _ hb
     simpa using this
    ·omega
 exact go _ _ _ _ _ _ _ _ _ _ ω11 ω2 ω2 (.inr ⟨rfl,rfl⟩)
def svs:LN→Nat
 | []=>0
 | u::r=>(sv .f32 u).natAbs*(sv .f32 u).natAbs+svs r
def okU (us:LN):Bool:=us.all (fun u=>fin .f32 u && Nat.ble (sv .f32 u).natAbs (2 ^ 149) && Nat.beq (fmul .f32 u 1065353216) u) && Nat.ble (50000*svs us) (50001*2 ^ 298) && Nat.ble (49999*2 ^ 298) (50000*svs us)
def okK (t:LN) (r:Nat):Bool:=(List.range 10).all (fun n=>(List.range n).all fun p=>bif Nat.ble 2 n then okU (zl3 (winI t (r:Int) (p:Int) n)) else true)
theorem zci:z1j 1056964608=([976216328,1049269589,1073741824,1049269589,976216328],((2:Nat):Int))∧z8l 1056964608=true:=by decide+kernel
theorem zd8:okK [976216328,1049269589,1073741824,1049269589,976216328] 2=true:=by decide+kernel
theorem zcj:z1j 1065353216=([1010172546,1040880981,1058751896,1065353216,1058751896,1040880981,1010172546],((3:Nat):Int))∧z8l 1065353216=true:=by decide+kernel
theorem zd9:okK [1010172546,1040880981,1058751896,1065353216,1058751896,1040880981,1010172546] 3=true:=by decide+kernel
theorem zck:z1j 1069547520=([3131631502,3155951979,1035519772,3188478861,3196627134,1059760811,3196627134,3188478861,1035519772,3155951979,3131631502],((5:Nat):Int))∧z8l 1069547520=true:=by decide+kernel
theorem zda:okK [3131631502,3155951979,1035519772,3188478861,3196627134,1059760811,3196627134,3188478861,1035519772,3155951979,3131631502] 5=true:=by decide+kernel
theorem zcl:z1j 1073741824=([1001783938,3165910839,1032492373,3190175961,1050363288,3202476881,1056964608,3202476881,1050363288,3190175961,1032492373,3165910839,1001783938],((6:Nat):Int))∧z8l 1073741824=true:=by decide+kernel
theorem zdb:okK [1001783938,3165910839,1032492373,3190175961,1050363288,3202476881,1056964608,3202476881,1050363288,3190175961,1032492373,3165910839,1001783938] 6=true:=by decide+kernel
theorem zcm:z1j 1075838976=([977380279,992000509,3163869188,1029553083,3182970030,1031172210,1035457153,3197694646,1053609165,3197694646,1035457153,1031172210,3182970030,1029553083,3163869188,992000509,977380279],((8:Nat):Int))∧z8l 1075838976=true:=by decide+kernel
theorem zdc:okK [977380279,992000509,3163869188,1029553083,3182970030,1031172210,1035457153,3197694646,1053609165,3197694646,1035457153,1031172210,3182970030,1029553083,3163869188,992000509,977380279] 8=true:=by decide+kernel
theorem zcn:z1j 1077936128=([997371395,3147563371,3157490569,1027131164,3173661050,3180090253,1045366645,3188238526,3189862810,1051372203,3189862810,3188238526,1045366645,3180090253,3173661050,1027131164,3157490569,3147563371,997371395],((9:Nat):Int))∧z8l 1077936128=true:=by decide+kernel
theorem zdd:okK [997371395,3147563371,3157490569,1027131164,3173661050,3180090253,1045366645,3188238526,3189862810,1051372203,3189862810,3188238526,1045366645,3180090253,3173661050,1027131164,3157490569,3147563371,997371395] 9=true:=by decide+kernel
set_option exponentiation.threshold 2000 in
theorem okU_t {us:LN} (h:okU us=true):(∀u ∈ us,fin .f32 u=true∧(sv .f32 u).natAbs≤2 ^ 149∧fmul .f32 u 1065353216=u)∧50000*svs us≤50001*2 ^ 298∧49999*2 ^ 298≤50000*svs us:=by
 unfold okU at h
 rw [Bool.and_eq_true,Bool.and_eq_true,List.all_eq_true] at h
 obtain ⟨⟨h1,h2⟩,h3⟩:=h
 refine ⟨fun u hu=>?_,nbl h2,nbl h3⟩
 have:=h1 u hu
 rw [Bool.and_eq_true,Bool.and_eq_true] at this
 exact ⟨this.1.1,nbl this.1.2,Nat.eq_of_beq_eq_true this.2⟩
theorem z18b:∀(u l:LN),u.length=l.length→sUU (u.zip l)*(PP .f32*PP .f32)=((svs u:Int):Rat):=by
 intro u
 induction u with
 | nil=>intro l h;show (0:Rat)*_=(((0:Nat):Int):Rat);rw [Rat.zero_mul];rfl
 | cons x r ih=>
  intro l h
  cases l with
  | nil=>cases h
  | cons y s=>
   have e:=ih s (by simpa using h)
   have e2:=z1v .f32 x
   have e3:(((svs (x::r):Nat):Int):Rat)=((sv .f32 x:Int):Rat)*((sv .f32 x:Int):Rat)+((svs r:Int):Rat):=by
    show ((((sv .f32 x).natAbs*(sv .f32 x).natAbs+svs r:Nat):Int):Rat)=_
    rw [Int.natCast_add,Int.natAbs_mul_self,Rat.intCast_add,Rat.intCast_mul]
   show (rq .f32 x*rq .f32 x+sUU (r.zip s))*(PP .f32*PP .f32)=_
   rw [e3,←e,←e2];grind
theorem zxd:∀(u l:LN),u.length=l.length→sLL (u.zip l)=sqR l:=by
 intro u
 induction u with
 | nil=>intro l h;cases l with
  | nil=>rfl
  | cons=>cases h
 | cons x r ih=>
  intro l h
  cases l with
  | nil=>cases h
  | cons y s=>show rq .f32 y*rq .f32 y+sLL (r.zip s)=_;rw [ih s (by simpa using h)];rfl
set_option exponentiation.threshold 2000 in
theorem pp_sq:PP .f32*PP .f32=(((2 ^ 298:Nat):Int):Rat):=by
 unfold PP;rw [←zau];rfl
theorem zpq {u l:LN} (hl:u.length=l.length) (h:okU u=true):-(1 / 50000)≤sUU (u.zip l)-1∧sUU (u.zip l)-1≤1 / 50000:=by
 obtain ⟨_,h1,h2⟩:=okU_t h
 have e:=z18b u l hl
 rw [pp_sq] at e
 have hp:=zav 298
 generalize (2 ^ 298:Nat)=P at *
 have q1:(50000:Rat)*((svs u:Int):Rat)≤50001*((P:Int):Rat):=by
  have:=Rat.intCast_le_intCast.2 (Int.ofNat_le.2 h1)
  rw [Int.natCast_mul,Int.natCast_mul,Rat.intCast_mul,Rat.intCast_mul,show (((50000:Nat):Int):Rat)=50000 by decide,show (((50001:Nat):Int):Rat)=50001 by decide] at this
  exact this
 have q2:(49999:Rat)*((P:Int):Rat)≤50000*((svs u:Int):Rat):=by
  have:=Rat.intCast_le_intCast.2 (Int.ofNat_le.2 h2)
  rw [Int.natCast_mul,Int.natCast_mul,Rat.intCast_mul,Rat.intCast_mul,show (((50000:Nat):Int):Rat)=50000 by decide,show (((49999:Nat):Int):Rat)=49999 by decide] at this
  exact this
 rw [←e] at q1 q2
 generalize ((P:Int):Rat)=P at *
 generalize sUU (u.zip l)=S at *
 constructor
 ·refine (z1o hp).1 ?_;grind
 ·refine (z1o hp).1 ?_;grind
def Lst (l:LN):Prop:=∀y ∈ l,fin .f32 y=true∧-32≤rq .f32 y∧rq .f32 y≤32
theorem z17y {x:Nat} (h:(sv .f32 x).natAbs≤2 ^ 149):-1≤rq .f32 x∧rq .f32 x≤1:=by
 have u:=(zaw .f32 0 (A:=1) ω11).1
 exact (z4h (z4t .f32) (z1v .f32 x) u).2 (by have e:0+lp .f32=149:=rfl;rw [e];exact h)
theorem z1d9 {u l:LN} (h:okU u=true) (hl:Lst l):Prs (u.zip l):=by
 intro z hz
 obtain ⟨a,b⟩:=z
 have hm:=List.of_mem_zip hz
 obtain ⟨h1,_⟩:=okU_t h
 obtain ⟨f1,f2,_⟩:=h1 a hm.1
 obtain ⟨r1,r2⟩:=z17y f2
 obtain ⟨g1,g2,g3⟩:=hl b hm.2
 exact ⟨f1,r1,r2,g1,g2,g3⟩
theorem z19k (u l:LN) (hl:u.length=l.length):∀(μ t q:Nat),t≤u.length→u.length-t<μ→dg u l μ q (t:Int)=dotW ((u.drop t).zip (l.drop t)) q:=by
 intro μ
 induction μ with
 | zero=>intro t q h1 h2;omega
 | succ μ ih=>
  intro t q h1 h2
  unfold dg
  by_cases ht:t<u.length
  ·rw [dct (show (t:Int)<(u.length:Int) by omega),cond_true,Int.toNat_natCast,List.drop_eq_getElem_cons ht,List.drop_eq_getElem_cons (show t<l.length by omega),List.zip_cons_cons]
   rw [List.getD_eq_getElem?_getD,List.getElem?_eq_getElem ht,List.getD_eq_getElem?_getD,List.getElem?_eq_getElem (show t<l.length by omega)]
   exact ih (t+1) _ ω2 ω2
  ·rw [dcf (show ¬(t:Int)<(u.length:Int) by omega),cond_false,List.drop_eq_nil_of_le (show u.length≤t by omega)]
   rfl
theorem z19n (u l:LN) (T:Nat) (hl:u.length=l.length):∀(μ t:Nat),t≤u.length→u.length-t<μ→dl l (u.map fun a=>fmul .f32 a T) μ (t:Int)=z9s T ((u.drop t).zip (l.drop t)):=by
 intro μ
 induction μ with
 | zero=>intro t h1 h2;omega
 | succ μ ih=>
  intro t h1 h2
  unfold dl
  by_cases ht:t<u.length
  ·rw [dct (show (t:Int)<(l.length:Int) by omega),cond_true,Int.toNat_natCast,List.drop_eq_getElem_cons ht,List.drop_eq_getElem_cons (show t<l.length by omega),List.zip_cons_cons]
   rw [List.getD_eq_getElem?_getD,List.getD_eq_getElem?_getD,List.getElem?_map,List.getElem?_eq_getElem ht,List.getElem?_eq_getElem (show t<l.length by omega)]
   exact congrArg (_::·) (ih (t+1) ω2 ω2)
  ·rw [dcf (show ¬(t:Int)<(l.length:Int) by omega),cond_false,List.drop_eq_nil_of_le (show u.length≤t by omega)]
   rfl
theorem zyr (T:Nat):∀(u l:LN),u.length=l.length→zbl T (u.zip l)=u.map fun a=>fmul .f32 a T:=by
 intro u
 induction u with
 | nil=>intro l h;rfl
 | cons x r ih=>
  intro l h
  cases l with
  | nil=>cases h
  | cons y s=>exact congrArg (_::·) (ih s (by simpa using h))
def SC (e:Nat):Prop:=z8l e=true∧∀n:Nat,2≤n→n≤9→∀p:Nat,p<n→∃u:LN,okU u=true∧u.length=n∧∀z,atI e (n:Int) (p:Int) z=u.map fun a=>fmul .f32 a z
theorem zsc {s r:Nat} {t:LN} (h:z1j s=(t,(r:Int))∧z8l s=true) (hu:okK t r=true):SC s:=by
 refine ⟨h.2,fun n h2 h9 p hp=>?_⟩
 have h1:=List.all_eq_true.1 (List.all_eq_true.1 hu n (List.mem_range.2 ω2)) p (List.mem_range.2 hp)
 rw [Nat.ble_eq_true_of_le h2,cond_true] at h1
 refine ⟨zl3 (winI t (r:Int) (p:Int) n),h1,?_,fun z=>?_⟩
 ·unfold zl3 winI
  rw [List.length_map,List.length_map,List.length_range']
 ·unfold atI;rw [h.1];exact z19e t (r:Int) (p:Int) z n
theorem zj4 {n d:Int} {e f:Nat} (h0:1≤n) (h1:n≤128) (d0:0≤d) (d1:d<n) (ok:z8l e=true) (hf:fin .f32 f=true):
  z1s n d e f=bif (atI e n d f).all (fin .f32) then (atI e n d f,true) else ([],false):=by
 rw [zbv,zor,hf,zgq,z2l]
 have w1:z1n n 1 128=true:=by
  unfold z1n;rw [dct ω2,cond_true];exact dct ω2
 have w2:z1n d 0 (n-1)=true:=by
  unfold z1n;rw [dct ω2,cond_true];exact dct ω2
 rw [w1,w2,ok]
 simp only [Bool.not_true,cond_false,List.all_cons,List.all_nil,Bool.and_true]
 show (bif (bif !((atI e n d f).all (fin .f32)) then (([]:LN),false) else (atI e n d f,true)).2 then (atI e n d f,true) else ([],false))=_
 cases (atI e n d f).all (fin .f32)<;>rfl
theorem sc_05:SC 1056964608:=zsc zci zd8
theorem sc_at:∀k:Nat,k<5→SC (fdiv .f32 (FloatKind.nearest .f32 (2+(k:Int))) 1073741824):=by
 intro k hk
 have e:∀k:Nat,k<5→(fdiv .f32 (FloatKind.nearest .f32 (2+(k:Int))) 1073741824)=[1065353216,1069547520,1073741824,1075838976,1077936128].getD k 0:=by decide+kernel
 rw [e k hk]
 match k,hk with
 | 0,_=>exact zsc zcj zd9
 | 1,_=>exact zsc zck zda
 | 2,_=>exact zsc zcl zdb
 | 3,_=>exact zsc zcm zdc
 | 4,_=>exact zsc zcn zdd
def Near (l:LN) (d:Int) (e T:Nat) (rest:LN):Prop:=
 0≤d∧d<(l.length:Int)∧fin .f32 T=true∧-25≤rq .f32 T∧rq .f32 T≤25∧rest.length=l.length∧(atI e (l.length:Int) d T).length=l.length∧
 (∀x ∈ atI e (l.length:Int) d T,fin .f32 x=true∧-26≤rq .f32 x∧rq .f32 x≤26)∧Lst rest∧
 (∀i:Nat,i<l.length→rest.getD i 0=fsub .f32 (l.getD i 0) ((atI e (l.length:Int) d T).getD i 0))∧
 (-(1 / 200*(1+rq .f32 T*rq .f32 T))≤sqR (atI e (l.length:Int) d T)-rq .f32 T*rq .f32 T∧sqR (atI e (l.length:Int) d T)-rq .f32 T*rq .f32 T≤1 / 200*(1+rq .f32 T*rq .f32 T))∧
 (-(1 / 200*(1+sqR l))≤sqR rest+rq .f32 T*rq .f32 T-sqR l∧sqR rest+rq .f32 T*rq .f32 T-sqR l≤1 / 200*(1+sqR l))∧
 sqR rest≤sqR l+1 / 400
theorem z10w (T:Nat):∀(u l:LN) (i:Nat),u.length=l.length→i<l.length→(z9s T (u.zip l)).getD i 0=fsub .f32 (l.getD i 0) ((u.map fun a=>fmul .f32 a T).getD i 0):=by
 intro u
 induction u with
 | nil=>intro l i h hi;simp at h;omega
 | cons x r ih=>
  intro l i h hi
  cases l with
  | nil=>cases h
  | cons y s=>
   cases i with
   | zero=>rfl
   | succ i=>exact ih s i (by simpa using h) (by simpa using hi)
theorem zd3 {l sc:LN} (hn:2≤l.length) (hn9:l.length≤9) (hl:Lst l) (hq:sqR l≤577) (hsc:∀e ∈ sc,SC e) (hs0:1≤sc.length) (hs12:sc.length≤12):
  ∃d e T rest,zt l sc=(d,e,T,rest,true)∧e ∈ sc∧Near l d e T rest∧z1s (l.length:Int) d e T=(atI e (l.length:Int) d T,true):=by
 have key:∀(d:Int) (e:Nat),0≤d→d<(l.length:Int)→e ∈ sc→∃u:LN,okU u=true∧u.length=l.length∧(∀z,atI e (l.length:Int) d z=u.map fun a=>fmul .f32 a z)∧dgOf l d e=dotW (u.zip l) 0:=by
  intro d e h0 h1 he
  obtain ⟨p,rfl⟩:∃p:Nat,d=(p:Int):=⟨d.toNat,by omega⟩
  obtain ⟨u,k1,k2,k3⟩:=(hsc e he).2 l.length hn hn9 p ω2
  refine ⟨u,k1,k2,k3,?_⟩
  have e1:atI e (l.length:Int) (p:Int) 1065353216=u:=by
   rw [k3]
   refine (List.map_congr_left fun a ha=>?_).trans (List.map_id _)
   exact ((okU_t k1).1 a ha).2.2
  unfold dgOf
  rw [e1]
  exact z19k u l k2 _ 0 0 ω2 ω2
 have long:z6x l=true:=by
  rw [z7i,z2l]
  have w1:z1n (l.length:Int) 1 128=true:=by
   unfold z1n;rw [dct ω2,cond_true];exact dct ω2
  rw [w1,cond_true]
  simp only [List.all_cons,List.all_nil,Bool.and_true]
  exact List.all_eq_true.2 fun y hy=>(hl y hy).1
 have w2:z1n (sc.length:Int) 1 12=true:=by
  unfold z1n;rw [dct ω2,cond_true];exact dct ω2
 rw [zgp,long,w2,Bool.not_true,cond_false,cond_false]
 refine z11q (fun v=>∃d e T rest,v=(d,e,T,rest,true)∧e ∈ sc∧Near l d e T rest∧z1s (l.length:Int) d e T=(atI e (l.length:Int) d T,true)) ω2 hs0 (fun e he=>(hsc e he).1) ?_
 rintro d e f ⟨h0,h1,he,rfl⟩
 obtain ⟨u,k1,k2,k3,k4⟩:=key d e h0 h1 he
 rw [k4]
 obtain ⟨q1,q2,q3,q4,q5,q6,q7,q8⟩:=z11r (zs:=u.zip l) (z1d9 k1 hl) (by rw [List.length_zip];omega) (zpq k2 k1).1 (zpq k2 k1).2 (by rw [zxd u l k2];exact hq)
 rw [zxd u l k2] at q7 q8
 generalize hT:dotW (u.zip l) 0=T at *
 have e3:zbl T (u.zip l)=atI e (l.length:Int) d T:=by rw [k3,zyr T u l k2]
 rw [e3] at q4 q6
 have hA:z1s (l.length:Int) d e T=(atI e (l.length:Int) d T,true):=by
  rw [zj4 ω2 ω2 h0 h1 (hsc e he).1 q1,List.all_eq_true.2 fun y hy=>(q4 y hy).1];rfl
 have e1:dl l (z1s (l.length:Int) d e T).1 (Int.toNat ((l.length:Int)-(0:Int))+1) 0=z9s T (u.zip l):=by
  rw [hA,k3];exact z19n u l T k2 _ 0 ω2 ω2
 have e2:(z9s T (u.zip l)).all (fin .f32)=true:=List.all_eq_true.2 q5
 rw [e1,e2,Bool.not_true,cond_false,show (z1s (l.length:Int) d e T).2=true by rw [hA],Bool.not_true,cond_false]
 refine ⟨d,e,T,_,rfl,he,⟨h0,h1,q1,q2,q3,?_,?_,q4,?_,?_,q6,q7,q8⟩,hA⟩
 ·unfold z9s;rw [List.length_map,List.length_zip];omega
 ·rw [k3,List.length_map];exact k2
 ·intro y hy
  have m:=z18h hy
  have hm:rq .f32 y*rq .f32 y≤32*32:=by grind
  obtain ⟨r1,r2⟩:=zxb (B:=32) ω13 hm
  exact ⟨q5 y hy,r1,r2⟩
 ·intro i hi
  rw [k3];exact z10w T u l i k2 hi
theorem un_mm {k:FloatKind} {c:Nat}:un k (fmul k c c):=by
 unfold fmul Ieee.Format.mul
 refine zmz fun d hd=>⟨z1z.not_nan _ _ _ hd,?_⟩
 rw [z9h hd];cases (k.format.read c).neg<;>rfl
theorem z1dr {k:FloatKind} {x y:Nat} (fx:fin k x=true) (ux:un k x) (fy:fin k y=true) (y0:0<sv k y):un k (fdiv k x y):=by
 obtain ⟨s,m,i,h1⟩:=zu fx
 obtain ⟨t,n,j,h2⟩:=zu fy
 have hs:s=false:=by
  rcases ux with h | h<;>rw [h1] at h
  ·cases h
  ·exact h
 have hn:n≠0:=fun h0=>by rw [(zl0 h2).2 h0] at y0;omega
 have ht:t=false:=by
  cases t with
  | false=>rfl
  | true=>have:=(sv_lt h2 hn).2 rfl;omega
 subst hs;subst ht
 unfold fdiv Ieee.Format.div
 rw [h1,h2]
 refine zmz fun d hd=>?_
 simp only [Ieee.Datum.quotient,if_neg hn] at hd
 cases hd
 exact ⟨rfl,rfl⟩
theorem un_nn {x:Nat} (h:un .f32 x) (f:fin .f32 x=true):0≤rq .f32 x:=by
 obtain ⟨s,m,e,hr⟩:=zu f
 have hs:s=false:=by
  rcases h with h | h<;>rw [hr] at h
  ·cases h
  ·exact h
 have h0:0≤sv .f32 x:=by
  unfold sv;rw [hr,hs];simp only [];rw [zq]
  simp
  exact Int.mul_nonneg (Int.natCast_nonneg _) (Int.le_of_lt (Int.pow_pos ω11))
 have:=rq_le.1 (show sv .f32 0≤sv .f32 x by rw [z1m];exact h0)
 rwa [z2t] at this
theorem cnt32:∀n:Nat,n<10→fin .f32 (FloatKind.nearest .f32 (n:Int))=true∧sv .f32 (FloatKind.nearest .f32 (n:Int))=(n:Int)*((2 ^ 149:Nat):Int):=by decide+kernel
theorem zyx {n:Nat} (h:n<10):fin .f32 (FloatKind.nearest .f32 (n:Int))=true∧rq .f32 (FloatKind.nearest .f32 (n:Int))=((n:Int):Rat):=by
 obtain ⟨f,e⟩:=cnt32 n h
 refine ⟨f,?_⟩
 have:=zbc (k:=.f32) 149 0 e rfl
 simpa using this
theorem z16x:(8192:Rat)=(((2 ^ 13:Nat):Int):Rat):=by decide
theorem z11a:(65536:Rat)=(((2 ^ 16:Nat):Int):Rat):=by decide
theorem zwd:(131072:Rat)=(((2 ^ 17:Nat):Int):Rat):=by decide
theorem Lst.at {l:LN} (h:Lst l) (i:Nat):fin .f32 (l.getD i 0)=true∧-32≤rq .f32 (l.getD i 0)∧rq .f32 (l.getD i 0)≤32:=by
 rw [List.getD_eq_getElem?_getD]
 cases e:l[i]? with
 | none=>show fin .f32 0=true∧-32≤rq .f32 0∧rq .f32 0≤32;rw [z2t];exact ⟨zx _,by grind,by grind⟩
 | some y=>exact h y (List.mem_of_getElem? e)
theorem z19l {x y:Nat} (hx:fin .f32 x=true∧-32≤rq .f32 x∧rq .f32 x≤32) (hy:fin .f32 y=true∧-32≤rq .f32 y∧rq .f32 y≤32):fin .f32 (fsub .f32 x y)=true∧
  fin .f32 (fmul .f32 (fsub .f32 x y) (fsub .f32 x y))=true∧0≤rq .f32 (fmul .f32 (fsub .f32 x y) (fsub .f32 x y))∧rq .f32 (fmul .f32 (fsub .f32 x y) (fsub .f32 x y))≤4225+1 / 100:=by
 obtain ⟨a1,a2,a3⟩:=hx
 obtain ⟨b1,b2,b3⟩:=hy
 obtain ⟨f1,e1,e2⟩:=rsub 6 zwf ω11 a1 b1 ω13 ω13
 rw [ur32] at e1 e2
 obtain ⟨m1,m2⟩:=mulb (x:=rq .f32 (fsub .f32 x y)) (y:=rq .f32 (fsub .f32 x y)) (a:=65) (b:=65) ω13 ω13 ω13 ω13
 obtain ⟨f2,g1,g2⟩:=rmul 13 z16x ω11 f1 f1 ω13 ω13
 rw [ur32] at g1 g2
 exact ⟨f1,f2,un_nn un_mm f2,by grind⟩
theorem z1d2 {a b:LN} (hl:a.length=b.length) (h1:1≤a.length) (h9:a.length≤9) (ha:Lst a) (hb:Lst b):∀(μ s i:Nat),i≤a.length→a.length-i<μ→fin .f32 s=true→un .f32 s→rq .f32 s≤4226*((i:Int):Rat)→
  z2a a b μ s (i:Int)=z2a b a μ s (i:Int)∧fin .f32 (z2a a b μ s (i:Int))=true∧un .f32 (z2a a b μ s (i:Int)):=by
 intro μ
 induction μ with
 | zero=>intro s i h0 hm;omega
 | succ μ ih=>
  intro s i h0 hm fs us hs
  rw [z6j,z6j,←hl,Int.toNat_natCast]
  have hi9:((i:Int):Rat)≤9:=by
   have:(i:Int)≤9:=by omega
   exact_mod_cast this
  by_cases h:i<a.length
  ·rw [dct (show (i:Int)<(a.length:Int) by omega),cond_true,cond_true]
   obtain ⟨f1,f2,n2,n3⟩:=z19l (ha.at i) (hb.at i)
   rw [z18i (ha.at i).1 (hb.at i).1 f1]
   have s0:=un_nn us fs
   obtain ⟨f3,g1,g2⟩:=radd 16 z11a ω11 fs f2 ω13 ω13
   rw [ur32] at g1 g2
   have ei:(((i+1:Nat):Int):Rat)=((i:Int):Rat)+1:=by rw [Int.natCast_add];simp
   exact ih _ (i+1) ω2 ω2 f3 (z1dq us un_mm) (by rw [ei];grind)
  ·rw [dcf (show ¬(i:Int)<(a.length:Int) by omega),cond_false,cond_false]
   obtain ⟨fn,en⟩:=zyx (show a.length<10 by omega)
   have n1:(1:Rat)≤((a.length:Int):Rat):=by
    have:(1:Int)≤(a.length:Int):=by omega
    exact_mod_cast this
   have s0:=un_nn us fs
   obtain ⟨f4,_,_⟩:=rdiv 17 zwd ω11 fs fn (by rw [en];grind) (by rw [en];grind) (by rw [en];grind)
   refine ⟨rfl,f4,z1dr fs us fn ?_⟩
   have:=rq_lt (k:=.f32) (x:=0) (y:=FloatKind.nearest .f32 (a.length:Int))
   rw [z1m,z2t,en] at this
   exact this.2 ω13
theorem zwm {a b:LN} (hl:a.length=b.length) (h1:1≤a.length) (h9:a.length≤9) (ha:Lst a) (hb:Lst b):∃x,z6a a b=(x,true)∧z6a b a=(x,true)∧fle .f32 0 x=true:=by
 have long_:∀l:LN,1≤l.length→l.length≤9→Lst l→z7h l=true:=fun l g1 g2 g3=>by
  rw [z9y,z9r,dct ω2,dct ω2,cond_true,cond_true]
  exact List.all_eq_true.2 fun y hy=>(g3 y hy).1
 obtain ⟨e,f,u⟩:=z1d2 hl h1 h9 ha hb (a.length+1) 0 0 (Nat.zero_le _) ω2 (zx _) (.inr ω39) (by rw [z2t];simp)
 have e1:z8r a b=z2a a b (a.length+1) 0 ((0:Nat):Int):=by
  rw [z9z,show Int.toNat ((a.length:Int)-0)=a.length by omega];rfl
 have e2:z8r b a=z2a b a (a.length+1) 0 ((0:Nat):Int):=by
  rw [z9z,←hl,show Int.toNat ((a.length:Int)-0)=a.length by omega];rfl
 refine ⟨z2a a b (a.length+1) 0 ((0:Nat):Int),?_,?_,?_⟩
 ·rw [za2,long_ a h1 h9 ha,long_ b ω2 ω2 hb,←hl,e1];unfold z7k;rw [z6r,f];simp
 ·rw [za2,long_ a h1 h9 ha,long_ b ω2 ω2 hb,←hl,e2,←e];unfold z7k;rw [z6r,f];simp
 ·rw [zvr (zx _) f,z2t]
  exact dct (un_nn u f)
def C0:Nat:=3936146074321813504
def C1:Nat:=5188146770730811392
theorem c0_sv:fin .f64 C0=true∧sv .f64 C0=((2 ^ 925:Nat):Int):=by decide+kernel
theorem c1_sv:fin .f64 C1=true∧sv .f64 C1=((2 ^ 1203:Nat):Int):=by decide+kernel
theorem z18v {x:Nat} (h:fin .f32 x=true):sv .f64 (zh x)=sv .f32 x*((2 ^ 925:Nat):Int):=by
 obtain ⟨f1,f2⟩:=zn1 h
 obtain ⟨b,hb⟩:∃b:Nat,b=925:=⟨_,rfl⟩
 have f3:sv .f64 (zh x)=sv .f32 x*((2 ^ b:Nat):Int):=by rw [←zx5,hb];exact f2
 rw [f3,hb]
set_option exponentiation.threshold 2000 in
theorem z1az {x:Nat} (h:fin .f32 x=true):(sv .f32 x).natAbs<2 ^ 278:=by
 obtain ⟨s,m,e,hr⟩:=zu h
 obtain ⟨q,rfl,h1,h2,h3⟩:=z6d hr
 have hq:q≤254:=by
  have h3':q*8388608+m<2139095040:=h3
  omega
 have hm:m<2 ^ 24:=h2
 unfold sv
 rw [hr]
 simp only []
 rw [z1e,Nat.shiftLeft_eq,show (FloatKind.f32.format.leastPlace+(q:Int)-FloatKind.f32.format.leastPlace).toNat=q by omega]
 have e1:2 ^ q≤2 ^ 254:=Nat.pow_le_pow_right ω11 hq
 calc m*2 ^ q≤m*2 ^ 254:=Nat.mul_le_mul_left _ e1
  _<2 ^ 24*2 ^ 254:=Nat.mul_lt_mul_of_pos_right hm (Nat.two_pow_pos _)
  _=2 ^ 278:=by rw [←Nat.pow_add]
set_option exponentiation.threshold 2000 in
theorem z12l {x:Nat} (hf:fin .f32 x=true) (h0:feq .f32 x 0=false) (h1:flt .f32 x 0=false):C0≤zh x∧zh x<C1:=by
 obtain ⟨p0,p1⟩:=zbs h0 h1 hf
 have hw:=z18v hf
 have hb:=z1az hf
 have ff:=(zn1 hf).1
 rw [z7c hf (zx _),z1m] at h0
 rw [z2g hf (zx _),z1m] at h1
 have h0:=odf h0
 have h1:=odf h1
 have hs:1≤sv .f32 x:=by omega
 have hp:(0:Int)<((2 ^ 925:Nat):Int):=by have:=Nat.two_pow_pos 925;omega
 have e3:(((2 ^ 1203:Nat)):Int)=((2 ^ 278:Nat):Int)*((2 ^ 925:Nat):Int):=by rw [←Int.natCast_mul,←Nat.pow_add]
 have hu:sv .f32 x<((2 ^ 278:Nat):Int):=by omega
 constructor
 ·have:=z8t (x:=C0) (y:=zh x) ω11 ω11 p0 p1
  rw [z5k c0_sv.1 ff,c0_sv.2,hw] at this
  have a:((2 ^ 925:Nat):Int)≤sv .f32 x*((2 ^ 925:Nat):Int):=by
   have:=Int.mul_le_mul_of_nonneg_right hs (Int.le_of_lt hp)
   rwa [Int.one_mul] at this
  rw [dct a] at this
  exact odt this.symm
 ·have:=zbb (x:=zh x) (y:=C1) p0 p1 ω11 ω11
  rw [z2g ff c1_sv.1,c1_sv.2,hw] at this
  have a:sv .f32 x*((2 ^ 925:Nat):Int)<((2 ^ 1203:Nat):Int):=by
   rw [e3];exact Int.mul_lt_mul_of_pos_right hu hp
  rw [dct a] at this
  exact odt this.symm
def LG (v:Nat):Prop:=fin .f64 v=true∧-128≤rq .f64 v∧rq .f64 v≤128
theorem zmg:LG 0:=by unfold LG;rw [z2t];exact ⟨zx _,by grind,by grind⟩
theorem z16t:∀k:Nat,k<26→1≤k→fin .f64 (fdiv .f64 4607182418800017408 (FloatKind.nearest .f64 (k:Int)))=true∧(sv .f64 (fdiv .f64 4607182418800017408 (FloatKind.nearest .f64 (k:Int)))).natAbs≤2 ^ 1074:=by decide+kernel
theorem one64 {x:Nat} (h:(sv .f64 x).natAbs≤2 ^ 1074):-1≤rq .f64 x∧rq .f64 x≤1:=by
 have u:=(zaw .f64 0 (A:=1) ω11).1
 exact (z4h (z4t .f64) (z1v .f64 x) u).2 (by have e:0+lp .f64=1074:=rfl;rw [e];exact h)
theorem l1_:(1:Rat)=(((2 ^ 0:Nat):Int):Rat):=by decide
theorem l2_:(2:Rat)=(((2 ^ 1:Nat):Int):Rat):=by decide
theorem l4_:(4:Rat)=(((2 ^ 2:Nat):Int):Rat):=by decide
theorem l3_lg {y y0 x':Nat} {ve ve3:Int} {K:Nat→Int→Nat} (fs:fin .f64 (fdiv .f64 (fsub .f64 x' 4607182418800017408) (fadd .f64 x' 4607182418800017408))=true) (s1:-(1 / 3)≤rq .f64 (fdiv .f64 (fsub .f64 x' 4607182418800017408) (fadd .f64 x' 4607182418800017408))) (s2:rq .f64 (fdiv .f64 (fsub .f64 x' 4607182418800017408) (fadd .f64 x' 4607182418800017408))≤1 / 3)
  (hK:∀q k,fin .f64 q=true→-2≤rq .f64 q→rq .f64 q≤2→LG (K q k)):∀(μ q:Nat) (k:Int),k≤25→fin .f64 q=true→-2≤rq .f64 q→rq .f64 q≤2→LG (z4b y y0 ve x' ve3 K μ q k):=by
 intro μ
 induction μ with
 | zero=>intro q k _ _ _ _;exact zmg
 | succ μ ih=>
  intro q k hk fq q1 q2
  rw [z7w]
  by_cases h:(1:Int)≤k
  ·rw [dct h,cond_true]
   obtain ⟨n,rfl⟩:∃n:Nat,k=(n:Int):=⟨k.toNat,by omega⟩
   obtain ⟨fi,bi⟩:=z16t n ω2 ω2
   obtain ⟨i1,i2⟩:=one64 bi
   generalize fdiv .f64 (fsub .f64 x' 4607182418800017408) (fadd .f64 x' 4607182418800017408)=S at *
   generalize fdiv .f64 4607182418800017408 (FloatKind.nearest .f64 (n:Int))=I at *
   obtain ⟨m1,m2⟩:=mulb s1 s2 s1 s2
   obtain ⟨f1,e1,e2⟩:=rmul 0 l1_ ω11 fs fs ω13 ω13
   rw [ur64] at e1 e2
   obtain ⟨n1,n2⟩:=mulb (x:=rq .f64 (fmul .f64 S S)) (y:=rq .f64 q) (a:=1 / 8) (b:=2) ω13 ω13 q1 q2
   obtain ⟨f2,g1,g2⟩:=rmul 0 l1_ ω11 f1 fq ω13 ω13
   rw [ur64] at g1 g2
   obtain ⟨f3,k1,k2⟩:=radd 1 l2_ ω11 fi f2 ω13 ω13
   rw [ur64] at k1 k2
   exact ih _ _ ω2 f3 ω13 ω13
  ·rw [dcf h,cond_false];exact hK _ _ fq q1 q2
theorem lo_sv:fin .f64 4604930618986332160=true∧sv .f64 4604930618986332160=3*((2 ^ 1072:Nat):Int):=by decide+kernel
theorem hi_sv:fin .f64 4609434218613702656=true∧sv .f64 4609434218613702656=3*((2 ^ 1073:Nat):Int):=by decide+kernel
theorem zkf:fin .f64 4607182418800017408=true∧sv .f64 4607182418800017408=1*((2 ^ 1074:Nat):Int):=by decide+kernel
theorem z13j:fin .f64 4611686018427387904=true∧sv .f64 4611686018427387904=2*((2 ^ 1074:Nat):Int):=by decide+kernel
theorem z13b:fin .f64 4604418534313441775=true∧(sv .f64 4604418534313441775).natAbs≤2 ^ 1074∧0≤sv .f64 4604418534313441775∧10*sv .f64 4604418534313441775≤7*((2 ^ 1074:Nat):Int):=by decide+kernel
theorem zcs:rq .f64 4607182418800017408=1:=by
 have:=zbc (k:=.f64) 1074 0 zkf.2 rfl
 simpa using this
theorem zxu:rq .f64 4611686018427387904=2:=by
 have:=zbc (k:=.f64) 1074 0 z13j.2 rfl
 simpa using this
set_option exponentiation.threshold 2000 in
theorem z1cw:0≤rq .f64 4604418534313441775∧rq .f64 4604418534313441775≤7 / 10:=by
 obtain ⟨_,_,h1,h2⟩:=z13b
 have p:=z4t .f64
 have e:=z1v .f64 4604418534313441775
 have a:(0:Rat)≤((sv .f64 4604418534313441775:Int):Rat):=Rat.intCast_nonneg.2 h1
 have b:=Rat.intCast_le_intCast.2 h2
 rw [Rat.intCast_mul,Rat.intCast_mul] at b
 have c:(((2 ^ 1074:Nat):Int):Rat)=PP .f64:=rfl
 rw [c,←e] at b
 rw [←e] at a
 have l10:((10:Int):Rat)=10:=by decide
 have l7:((7:Int):Rat)=7:=by decide
 rw [l10,l7] at b
 generalize PP .f64=U at *
 generalize rq .f64 4604418534313441775=V at *
 constructor
 ·refine (z1o p).1 ?_;grind
 ·refine (z1o p).1 ?_;grind
theorem z1bv {x':Nat} (h0:4604930618986332160≤x') (h1:x'<4609434218613702656):fin .f64 (fdiv .f64 (fsub .f64 x' 4607182418800017408) (fadd .f64 x' 4607182418800017408))=true∧-(1 / 3)≤rq .f64 (fdiv .f64 (fsub .f64 x' 4607182418800017408) (fadd .f64 x' 4607182418800017408))∧rq .f64 (fdiv .f64 (fsub .f64 x' 4607182418800017408) (fadd .f64 x' 4607182418800017408))≤1 / 3:=by
 have fx:fin .f64 x'=true:=z4j ω2
 have a1:fle .f64 4604930618986332160 x'=true:=by rw [z8t ω11 ω11 ω2 ω2];exact dct h0
 have a2:fle .f64 x' 4609434218613702656=true:=by rw [z8t ω2 ω2 ω11 ω11];exact dct ω2
 rw [zvr lo_sv.1 fx] at a1
 rw [zvr fx hi_sv.1] at a2
 have a1:=odt a1
 have a2:=odt a2
 have r1:=zbc (k:=.f64) 1072 2 lo_sv.2 rfl
 have r2:=zbc (k:=.f64) 1073 1 hi_sv.2 rfl
 have t1:(((2 ^ 2:Nat):Int):Rat)=4:=by decide
 have t2:(((2 ^ 1:Nat):Int):Rat)=2:=by decide
 have t3:((3:Int):Rat)=3:=by decide
 rw [t1,t3] at r1
 rw [t2,t3] at r2
 have o:=zcs
 obtain ⟨f1,e1,e2⟩:=rsub 0 l1_ ω11 fx zkf.1 ω13 ω13
 obtain ⟨f2,g1,g2⟩:=radd 2 l4_ ω11 fx zkf.1 ω13 ω13
 rw [ur64] at e1 e2 g1 g2
 obtain ⟨f3,k1,k2⟩:=rdiv 0 l1_ ω11 f1 f2 ω13 ω13 ω13
 rw [ur64] at k1 k2
 refine ⟨f3,?_,?_⟩
 ·generalize fdiv .f64 (fsub .f64 x' 4607182418800017408) (fadd .f64 x' 4607182418800017408)=S at *
  generalize rq .f64 S=s at *
  generalize rq .f64 (fadd .f64 x' 4607182418800017408)=D at *
  generalize rq .f64 (fsub .f64 x' 4607182418800017408)=N at *
  have hD:0<D:=by grind
  refine (z1o hD).1 ?_
  grind
 ·generalize fdiv .f64 (fsub .f64 x' 4607182418800017408) (fadd .f64 x' 4607182418800017408)=S at *
  generalize rq .f64 S=s at *
  generalize rq .f64 (fadd .f64 x' 4607182418800017408)=D at *
  generalize rq .f64 (fsub .f64 x' 4607182418800017408)=N at *
  have hD:0<D:=by grind
  refine (z1o hD).1 ?_
  grind
theorem l2_lg {y y0:Nat} {ve Y:Int} (hY:Y<9223372036854775808) (hY0:0≤Y) {K:Nat→Int→Nat} (hK:∀(x':Nat) (e:Int),4604930618986332160≤x'→x'<4609434218613702656→e*4503599627370496+(x':Int)=Y→LG (K x' e)):
  ∀(μ x':Nat) (e:Int),4503599627370496≤x'→x'<4609434218613702656→e*4503599627370496+(x':Int)=Y→LG (z5f y y0 ve K μ x' e):=by
 intro μ
 induction μ with
 | zero=>intro x' e _ _ _;exact zmg
 | succ μ ih=>
  intro x' e h0 h1 h2
  rw [z7v]
  cases hc:flt .f64 x' 4604930618986332160 with
  | true=>
   have:=z2z h0 ω2 hc
   rw [cond_true,zy (n:=e-1) ω2 ω2,this.1]
   exact ih _ _ ω2 ω2 ω2
  | false=>
   rw [cond_false]
   rw [zbb h0 ω2 ω11 ω11] at hc
   have:=odf hc
   exact hK _ _ ω2 h1 h2
set_option exponentiation.threshold 2000 in
theorem l1_lg {y:Nat} {Y:Int} (hY:Y<9223372036854775808) (hY0:(C0:Int)≤Y) (hY1:Y<(C1:Int)):
  ∀(μ y0:Nat) (e:Int),4503599627370496≤y0→y0<9218868437227405312→e*4503599627370496+(y0:Int)=Y→LG (z4a y μ y0 e):=by
 intro μ
 induction μ with
 | zero=>intro y0 e _ _ _;exact zmg
 | succ μ ih=>
  intro y0 e h0 h1 h2
  rw [z7u]
  cases hc:fle .f64 4609434218613702656 y0 with
  | true=>
   have:=z2u h0 h1 hc
   have c0:C0=3936146074321813504:=rfl
   rw [cond_true,zy (n:=e+1) ω2 ω2,this.1]
   exact ih _ _ ω2 ω2 ω2
  | false=>
   rw [cond_false]
   rw [z8t ω11 ω11 h0 h1] at hc
   have:=odf hc
   have c0:C0=3936146074321813504:=rfl
   have c1:C1=5188146770730811392:=rfl
   refine l2_lg hY ω2 (fun x' e' b0 b1 b2=>?_) _ _ _ h0 ω2 h2
   obtain ⟨fs,s1,s2⟩:=z1bv b0 b1
   refine l3_lg fs s1 s2 (fun q k fq q1 q2=>?_) _ _ _ ω11 (zx _) (by rw [z2t];grind) (by rw [z2t];grind)
   generalize fdiv .f64 (fsub .f64 x' 4607182418800017408) (fadd .f64 x' 4607182418800017408)=S at *
   obtain ⟨m1,m2⟩:=mulb s1 s2 q1 q2
   obtain ⟨f1,e1,e2⟩:=rmul 0 l1_ ω11 fs fq ω13 ω13
   rw [ur64] at e1 e2
   obtain ⟨f2,g1,g2⟩:=rmul 1 l2_ ω11 z13j.1 f1 (by rw [zxu];grind) (by rw [zxu];grind)
   rw [ur64,zxu] at g1 g2
   obtain ⟨fn,sn⟩:=zdg .f64 (n:=e') ω2
   have rn:rq .f64 (FloatKind.nearest .f64 e')=(e':Rat):=by
    have:=zbc (k:=.f64) (m:=e') 1074 0 (by rw [sn,Int.natCast_pow];rfl) rfl
    simpa using this
   have en1:(-149:Rat)≤(e':Rat):=by
    have h:=Rat.intCast_le_intCast.2 (show (-149:Int)≤e' by omega)
    rwa [show ((-149:Int):Rat)=-149 by decide] at h
   have en2:(e':Rat)≤149:=by
    have:e'≤(149:Int):=by omega
    exact_mod_cast this
   obtain ⟨p1,p2⟩:=z1cw
   obtain ⟨w1,w2⟩:=mulb (x:=(e':Rat)) (y:=rq .f64 4604418534313441775) (a:=149) (b:=7 / 10) en1 en2 ω13 p2
   obtain ⟨f3,k1,k2⟩:=rmul 7 (A:=128) ω11 ω11 fn z13b.1 (by rw [rn];grind) (by rw [rn];grind)
   rw [ur64,rn] at k1 k2
   obtain ⟨f4,z1,z2⟩:=radd 7 (A:=128) ω11 ω11 f2 f3 ω13 ω13
   rw [ur64] at z1 z2
   exact ⟨f4,by grind,by grind⟩
theorem z1d4 {v:Nat} (h:LG v):fin .f32 ((zl v).getD 0)=true∧-129≤rq .f32 ((zl v).getD 0)∧rq .f32 ((zl v).getD 0)≤129:=by
 obtain ⟨fv,v1,v2⟩:=h
 have u:=(zaw .f64 7 (A:=128) ω11).1
 have hb:Bd .f64 1081 v:=⟨fv,by
  have:=(z4h (z4t .f64) (z1v .f64 v) u).1 ⟨v1,v2⟩
  have e:7+lp .f64=1081:=rfl
  rw [e] at this;exact this⟩
 obtain ⟨s,m,q,hr,hm⟩:=hb.out
 have hd:FloatKind.f64.decode v=.number s m (FloatKind.f64.format.leastPlace+q):=hr
 have hn:=z4k (hb.mono (show 1081≤1174 by omega))
 have hval:(zl v).getD 0=FloatKind.f32.format.nearest s m (FloatKind.f64.format.leastPlace+q):=by
  unfold zl at hn ⊢
  rw [hd] at hn ⊢
  simp only [] at hn ⊢
  split at hn
  ·exact absurd rfl hn
  ·rename_i h;rw [if_neg h];rfl
 rw [hval,l64]
 have key:m*2 ^ (-1074+(q:Int)-FloatKind.f32.format.leastPlace).toNat≤2 ^ 156*2 ^ (FloatKind.f32.format.leastPlace-(-1074+(q:Int))).toNat:=by
  rw [l32,show (-1074+(q:Int)- -149).toNat=q-925 by omega,show (-149-(-1074+(q:Int))).toNat=925-q by omega]
  refine Nat.le_of_mul_le_mul_right (c:=2 ^ (min q 925)) ?_ (Nat.two_pow_pos _)
  rw [Nat.mul_assoc,←Nat.pow_add,Nat.mul_assoc,←Nat.pow_add,←Nat.pow_add,show q-925+min q 925=q by omega,show 156+(925-q+min q 925)=1081 by omega]
  exact hm
 have hbn:2*FloatKind.f32.format.binade*2 ^ 132=2 ^ 156:=rfl
 obtain ⟨r,a1,a2,a3,_⟩:=z6h .f32 s (m:=m) (T:=132) (e:=-1074+(q:Int)) (zxr ω11) (by rw [hbn];exact key)
 rw [a1]
 obtain ⟨f1,f2⟩:=z9i .f32 s a2
 have hB:=Nat.two_pow_pos (FloatKind.f32.format.leastPlace-(-1074+(q:Int))).toNat
 have hr2:rv FloatKind.f32.format r≤2 ^ 156+2 ^ 132:=by
  refine Nat.le_of_mul_le_mul_right (c:=2 ^ (FloatKind.f32.format.leastPlace-(-1074+(q:Int))).toNat) ?_ hB
  rw [Nat.add_mul]
  exact Nat.le_trans a3 (Nat.add_le_add_right key _)
 have hs:(sv .f32 (FloatKind.f32.format.word s r)).natAbs≤129*2 ^ 149:=by
  rw [f2]
  have e:(2:Nat) ^ 156+2 ^ 132≤129*2 ^ 149:=by decide
  cases s
  ·simp only [Bool.false_eq_true,if_false];omega
  ·simp only [if_true];omega
 refine ⟨f1,(z4h (z4t .f32) (z1v .f32 _) (B:=129*2 ^ 149) ?_).2 hs⟩
 rw [Int.natCast_mul,Rat.intCast_mul]
 rfl
theorem c4_sv:fin .f32 1082849639=true∧0≤sv .f32 1082849639∧10*sv .f32 1082849639≤44*((2 ^ 149:Nat):Int):=by decide+kernel
theorem c4_rq:0≤rq .f32 1082849639∧rq .f32 1082849639≤44 / 10:=by
 obtain ⟨_,h1,h2⟩:=c4_sv
 have p:=z4t .f32
 have e:=z1v .f32 1082849639
 have a:(0:Rat)≤((sv .f32 1082849639:Int):Rat):=Rat.intCast_nonneg.2 h1
 have b:=Rat.intCast_le_intCast.2 h2
 rw [Rat.intCast_mul,Rat.intCast_mul] at b
 have c:(((2 ^ 149:Nat):Int):Rat)=PP .f32:=rfl
 rw [c,←e] at b
 rw [←e] at a
 have l10:((10:Int):Rat)=10:=by decide
 have l44:((44:Int):Rat)=44:=by decide
 rw [l10,l44] at b
 generalize PP .f32=U at *
 generalize rq .f32 1082849639=V at *
 constructor
 ·refine (z1o p).1 ?_;grind
 ·refine (z1o p).1 ?_;grind
theorem z17a:∀x ∈ [0,2147483648,2139095040,4286578688,qnan .f32],fin .f32 (fmul .f32 1082849639 (z2p x))=false:=by decide+kernel
theorem z17j:fin .f32 (fmul .f32 1082849639 ((zl z5d).getD 0))=false:=by decide+kernel
theorem log_q {x:Nat} (h:Wd .f32 x) (hf:fin .f32 (fmul .f32 1082849639 (z2p x))=true):-600≤rq .f32 (fmul .f32 1082849639 (z2p x))∧rq .f32 (fmul .f32 1082849639 (z2p x))≤600:=by
 have bad:∀y ∈ [0,2147483648,2139095040,4286578688,qnan .f32],x=y→False:=fun y hy e=>by
  have:=z17a y hy;rw [e,this] at hf;cases hf
 rcases h.cases with fx | rfl | rfl | rfl
 ·cases h0:feq .f32 x 0 with
  | true=>
   rw [z7c fx (zx _),z1m] at h0
   rcases zfs h.1 fx (odt h0) with e | e
   ·exact (bad 0 (by simp) e).elim
   ·exact (bad 2147483648 (by simp) e).elim
  | false=>
   have w0:=zpv fx
   have w1:=zpw fx
   have e:z2p x=(zl (za4 (zh x))).getD 0:=rfl
   cases h1:flt .f32 x 0 with
   | true=>
    have:za4 (zh x)=z5d:=by
     unfold za4
     rw [zde fx,w1,h1];rfl
    rw [e,this,z17j] at hf;cases hf
   | false=>
    have hp:=zbs h0 h1 fx
    have hr:=z12l fx h0 h1
    have hi:zb6 (zh x) 1=false:=by
     show flt .f64 9218868437227405311 (zh x)=false
     rw [zbb ω11 ω11 hp.1 hp.2]
     exact dcf ω2
    have:LG (za4 (zh x)):=by
     unfold za4
     rw [zde fx,w0,w1,h0,h1,hi]
     simp only [Bool.not_true,cond_false]
     exact l1_lg (Y:=(zh x:Int)) ω2 ω2 ω2 _ _ _ hp.1 hp.2 ω2
    obtain ⟨f1,n1,n2⟩:=z1d4 this
    rw [←e] at f1 n1 n2
    obtain ⟨c1,c2⟩:=c4_rq
    obtain ⟨m1,m2⟩:=mulb (x:=rq .f32 1082849639) (y:=rq .f32 (z2p x)) (a:=44 / 10) (b:=129) ω13 c2 n1 n2
    obtain ⟨_,z1,z2⟩:=rmul 10 (A:=1024) ω11 ω11 c4_sv.1 f1 ω13 ω13
    rw [ur32] at z1 z2
    constructor<;>grind
 ·exact (bad 2139095040 (by simp) rfl).elim
 ·exact (bad 4286578688 (by simp) rfl).elim
 ·exact (bad (qnan .f32) (by simp) rfl).elim
theorem zwe:(2048:Rat)=(((2 ^ 11:Nat):Int):Rat):=by decide
theorem z10z:(16384:Rat)=(((2 ^ 14:Nat):Int):Rat):=by decide
theorem z1dl {l:LN} (h:Lst l) (h9:l.length≤9):∀(μ s i:Nat),i≤l.length→l.length-i<μ→fin .f64 s=true→-(1025*((i:Int):Rat))≤rq .f64 s→rq .f64 s≤1025*((i:Int):Rat)→
  fin .f64 (z3z l μ s (i:Int))=true∧-((((l.length-i:Nat):Int):Rat)*(20000 / 9007199254740992))≤rq .f64 (z3z l μ s (i:Int))-(rq .f64 s+sqR (l.drop i))∧rq .f64 (z3z l μ s (i:Int))-(rq .f64 s+sqR (l.drop i))≤(((l.length-i:Nat):Int):Rat)*(20000 / 9007199254740992):=by
 intro μ
 induction μ with
 | zero=>intro s i h0 hm;omega
 | succ μ ih=>
  intro s i h0 hm fs s0 s1
  rw [zf9]
  by_cases hi:i<l.length
  ·rw [dct (show (i:Int)<(l.length:Int) by omega),cond_true,Int.toNat_natCast]
   have i9:((i:Int):Rat)≤8:=by
    have h:=Rat.intCast_le_intCast.2 (show (i:Int)≤8 by omega)
    rwa [show ((8:Int):Rat)=8 by decide] at h
   obtain ⟨g1,g2,g3⟩:=h.at i
   have ey:l.drop i=l.getD i 0::l.drop (i+1):=by rw [List.drop_eq_getElem_cons hi,List.getD_eq_getElem?_getD,List.getElem?_eq_getElem hi];rfl
   rw [ey]
   obtain ⟨wx,ex⟩:=zas g1
   obtain ⟨m1,m2⟩:=mulb g2 g3 g2 g3
   obtain ⟨f1,e1,e2⟩:=rmul 11 zwe ω11 wx wx (by rw [ex];grind) (by rw [ex];grind)
   rw [ex,ur64] at e1 e2
   obtain ⟨f2,k1,k2⟩:=radd 14 z10z ω11 fs f1 ω13 ω13
   rw [ur64] at k1 k2
   have ei:(((i+1:Nat):Int):Rat)=((i:Int):Rat)+1:=by rw [Int.natCast_add];simp
   have en:(((l.length-i:Nat):Int):Rat)=(((l.length-(i+1):Nat):Int):Rat)+1:=by
    rw [show l.length-i=(l.length-(i+1))+1 by omega,Int.natCast_add];simp
   obtain ⟨j1,j2,j3⟩:=ih _ (i+1) ω2 ω2 f2 (by rw [ei];grind) (by rw [ei];grind)
   rw [show ((i:Int)+1)=((i+1:Nat):Int) by omega]
   generalize z3z l μ (fadd .f64 s (fmul .f64 (zh (l.getD i 0)) (zh (l.getD i 0)))) ((i+1:Nat):Int)=Z at *
   rw [show sqR (l.getD i 0::l.drop (i+1))=rq .f32 (l.getD i 0)*rq .f32 (l.getD i 0)+sqR (l.drop (i+1)) from rfl,en]
   clear ih en ei ey
   generalize sqR (l.drop (i+1))=W at *
   generalize fadd .f64 s (fmul .f64 (zh (l.getD i 0)) (zh (l.getD i 0)))=A at *
   generalize fmul .f64 (zh (l.getD i 0)) (zh (l.getD i 0))=M at *
   generalize rq .f32 (l.getD i 0)*rq .f32 (l.getD i 0)=Q at *
   generalize (((l.length-(i+1):Nat):Int):Rat)=N at *
   exact ⟨j1,by grind,by grind⟩
  ·rw [dcf (show ¬(i:Int)<(l.length:Int) by omega),cond_false,List.drop_eq_nil_of_le ω2,show l.length-i=0 by omega]
   refine ⟨fs,?_,?_⟩
   ·show _≤rq .f64 s-(rq .f64 s+0);simp;grind
   ·show rq .f64 s-(rq .f64 s+0)≤_;simp;grind
theorem zxj {l:LN} (h:Lst l) (h9:l.length≤9):fin .f64 (z4q l)=true∧-(1 / 1000000)≤rq .f64 (z4q l)-sqR l∧rq .f64 (z4q l)-sqR l≤1 / 1000000:=by
 have e:z4q l=z3z l (l.length+1) 0 ((0:Nat):Int):=by
  rw [zp8,show Int.toNat ((l.length:Int)-0)=l.length by omega];rfl
 obtain ⟨a,b,c⟩:=z1dl h h9 (l.length+1) 0 0 (Nat.zero_le _) ω2 (zx _) (by rw [z2t];simp) (by rw [z2t];simp)
 rw [←e,z2t,Nat.sub_zero,List.drop_zero] at *
 have n9:((l.length:Int):Rat)≤9:=by
  have h:=Rat.intCast_le_intCast.2 (show (l.length:Int)≤9 by omega)
  rwa [show ((9:Int):Rat)=9 by decide] at h
 exact ⟨a,by grind,by grind⟩
def AOK (n:Int) (a:Int×Nat×Nat):Prop:=z1s n a.1 a.2.1 a.2.2=(atI a.2.1 n a.1 a.2.2,true)∧((atI a.2.1 n a.1 a.2.2).length:Int)=n
def addA (n:Int) (s:LN) (a:Int×Nat×Nat):LN:=List.zipWith (fadd .f32) s (atI a.2.1 n a.1 a.2.2)
theorem z16e (n:Int) (ats:List (Int×Nat×Nat)) (t5:Bool) (t25:Int) (y:LN) (K:Int→LN→(LN×Bool)) (X:LN)
  (hX:(z1s n (ats.getD t25.toNat (0,0,0)).1 (ats.getD t25.toNat (0,0,0)).2.1 (ats.getD t25.toNat (0,0,0)).2.2).1=X):∀(X2 X1 P R:LN) (μ:Nat),X=X1++X2→X1.length=P.length→R.length=X2.length→X2.length<μ→
  z7y n ats t5 t25 y K μ (P.length:Int) (P++R)=K (X.length:Int) (P++List.zipWith (fadd .f32) R X2):=by
 intro X2
 induction X2 with
 | nil=>
  intro X1 P R μ h1 h2 h3 hm
  obtain _ | μ:=μ
  ·simp at hm
  obtain rfl:R=[]:=List.length_eq_zero_iff.1 (by simpa using h3)
  have hl:X.length=P.length:=by rw [h1,List.append_nil,h2]
  rw [z7z,hX,hl,dcf ω2,cond_false];rfl
 | cons x X2 ih=>
  intro X1 P R μ h1 h2 h3 hm
  obtain _ | μ:=μ
  ·simp at hm
  cases R with
  | nil=>simp at h3
  | cons a R=>
   rw [List.length_cons] at hm
   have hl:X.length=P.length+(X2.length+1):=by rw [h1,List.length_append,List.length_cons,h2]
   rw [z7z,hX,dct (show (P.length:Int)<(X.length:Int) by omega),cond_true,Int.toNat_natCast]
   have e1:(P++a::R).getD P.length 0=a:=by rw [List.getD_eq_getElem?_getD,List.getElem?_append_right (Nat.le_refl _),Nat.sub_self];rfl
   have e0:X.getD P.length 0=x:=by rw [h1,←h2,List.getD_eq_getElem?_getD,List.getElem?_append_right (Nat.le_refl _),Nat.sub_self];rfl
   have e2:∀v,(P++a::R).set P.length v=(P++[v])++R:=fun v=>by rw [List.set_append_right _ _ (Nat.le_refl _),Nat.sub_self,List.set_cons_zero,List.append_assoc];rfl
   rw [e1,e0,e2]
   have:=ih (X1++[x]) (P++[fadd .f32 a x]) R μ (by rw [h1,List.append_assoc];rfl) (by rw [List.length_append,List.length_append,h2];rfl) (by simpa using h3) ω2
   rw [List.length_append,List.length_singleton] at this
   refine Eq.trans this ?_
   rw [List.append_assoc];rfl
theorem z16d {n:Int}:∀(as2 as1:List (Int×Nat×Nat)) (t:Bool) (y:LN) (μ:Nat) (ats:List (Int×Nat×Nat)),ats=as1++as2→(∀a ∈ ats,AOK n a)→(y.length:Int)=n→as2.length<μ→
  z4c n ats μ t (as1.length:Int) y=bif (as2.foldl (addA n) y).all (fin .f32) then (as2.foldl (addA n) y,true) else ([],false):=by
 intro as2
 induction as2 with
 | nil=>
  intro as1 t y μ ats h1 h2 h3 hm
  obtain _ | μ:=μ
  ·simp at hm
  rw [List.append_nil] at h1
  rw [z7x,h1,dcf ω2,cond_false,zgq,z2l]
  simp only [List.all_cons,List.all_nil,Bool.and_true,List.foldl_nil]
  cases y.all (fin .f32)<;>rfl
 | cons a as2 ih=>
  intro as1 t y μ ats h1 h2 h3 hm
  obtain _ | μ:=μ
  ·simp at hm
  rw [List.length_cons] at hm
  have hl:ats.length=as1.length+(as2.length+1):=by rw [h1,List.length_append,List.length_cons]
  have e0:ats.getD as1.length (0,0,0)=a:=by rw [h1,List.getD_eq_getElem?_getD,List.getElem?_append_right (Nat.le_refl _),Nat.sub_self];rfl
  obtain ⟨k1,k2⟩:=h2 a (by rw [h1];simp)
  rw [z7x,dct (show (as1.length:Int)<(ats.length:Int) by omega),cond_true,Int.toNat_natCast,e0,k1,Bool.not_true,cond_false]
  have:=z16e n ats t (as1.length:Int) y (fun (t39:Int) (y2_1:LN)=>z4c n ats μ t ((as1.length:Int)+1) y2_1) (atI a.2.1 n a.1 a.2.2) (by rw [Int.toNat_natCast,e0,k1]) (atI a.2.1 n a.1 a.2.2) [] [] y (Int.toNat (((atI a.2.1 n a.1 a.2.2).length:Int)-(0:Int))+1) rfl rfl ω2 ω2
  refine Eq.trans this ?_
  have hz:((List.zipWith (fadd .f32) y (atI a.2.1 n a.1 a.2.2)).length:Int)=n:=by rw [List.length_zipWith];omega
  have:=ih (as1++[a]) t (List.zipWith (fadd .f32) y (atI a.2.1 n a.1 a.2.2)) μ ats (by rw [h1,List.append_assoc];rfl) h2 hz ω2
  rw [List.length_append,List.length_singleton] at this
  exact this
theorem z10f {n:Int} (n1:1≤n) (n2:n≤128) {ats:List (Int×Nat×Nat)} (h:∀a ∈ ats,AOK n a) (h16:ats.length≤16):z6b n ats=bif (ats.foldl (addA n) (List.replicate n.toNat 0)).all (fin .f32) then (ats.foldl (addA n) (List.replicate n.toNat 0),true) else ([],false):=by
 have w1:z1n n 1 128=true:=by
  unfold z1n;rw [dct ω2,cond_true];exact dct ω2
 rw [zgt,w1,Bool.not_true,cond_false,dcf ω2,cond_false]
 exact z16d ats [] false _ _ ats rfl h (by rw [List.length_replicate];omega) ω2
theorem z12o (f:Nat→Nat→Nat):∀(a b:LN) (i:Nat),i<a.length→i<b.length→(List.zipWith f a b).getD i 0=f (a.getD i 0) (b.getD i 0):=by
 intro a
 induction a with
 | nil=>intro b i h;simp at h
 | cons x a ih=>
  intro b i h1 h2
  cases b with
  | nil=>simp at h2
  | cons y b=>
   cases i with
   | zero=>rfl
   | succ i=>exact ih b i (by simpa using h1) (by simpa using h2)
structure St (l sc:LN) (k:Nat) (ats:List (Int×Nat×Nat)) (r:LN):Prop where
 la:ats.length=k
 lr:r.length=l.length
 z:k=0→r=l
 lst:Lst r
 sq:sqR r≤sqR l+((k:Int):Rat) / 400
 ok:∀a ∈ ats,AOK (l.length:Int) a
 ls:(ats.foldl (addA (l.length:Int)) (List.replicate l.length 0)).length=l.length
 near:∀i:Nat,i<l.length→fin .f32 ((ats.foldl (addA (l.length:Int)) (List.replicate l.length 0)).getD i 0)=true∧
  -(27*((k:Int):Rat))≤rq .f32 ((ats.foldl (addA (l.length:Int)) (List.replicate l.length 0)).getD i 0)∧rq .f32 ((ats.foldl (addA (l.length:Int)) (List.replicate l.length 0)).getD i 0)≤27*((k:Int):Rat)∧
  -(((k:Int):Rat)*(200 / 16777216))≤rq .f32 ((ats.foldl (addA (l.length:Int)) (List.replicate l.length 0)).getD i 0)+rq .f32 (r.getD i 0)-rq .f32 (l.getD i 0)∧
  rq .f32 ((ats.foldl (addA (l.length:Int)) (List.replicate l.length 0)).getD i 0)+rq .f32 (r.getD i 0)-rq .f32 (l.getD i 0)≤((k:Int):Rat)*(200 / 16777216)
 fst:0<k→ats.getD 0 (0,0,0)=((zt l sc).1,(zt l sc).2.1,(zt l sc).2.2.1)
theorem z18l {l sc:LN} (h:Lst l):St l sc 0 [] l:=by
 refine ⟨rfl,rfl,fun _=>rfl,h,by simp;grind,(fun a ha=>by cases ha),by simp,fun i hi=>?_,fun h=>by omega⟩
 have e:(List.replicate l.length 0).getD i 0=0:=by
  rw [List.getD_eq_getElem?_getD,List.getElem?_replicate];simp [hi]
 show fin .f32 ((List.replicate l.length 0).getD i 0)=true∧_
 rw [List.foldl_nil,e,z2t]
 refine ⟨zx _,?_,?_,?_,?_⟩<;>simp<;>grind
theorem k_rat {k:Nat} (h:k≤2):(0:Rat)≤((k:Int):Rat)∧((k:Int):Rat)≤2:=by
 have h1:=Rat.intCast_le_intCast.2 (show (k:Int)≤2 by omega)
 have h0:=Rat.intCast_le_intCast.2 (show (0:Int)≤(k:Int) by omega)
 rw [show ((2:Int):Rat)=2 by decide] at h1
 rw [show ((0:Int):Rat)=0 by decide] at h0
 exact ⟨h0,h1⟩
theorem z18k {l sc:LN} (hn:2≤l.length) (hn9:l.length≤9) (hq:sqR l≤576) (hsc:∀e ∈ sc,SC e) (hs0:1≤sc.length) (hs12:sc.length≤12) {k:Nat} (hk:k≤2) {ats:List (Int×Nat×Nat)} {r:LN} (h:St l sc k ats r):
  ∃d e T rest,zt r sc=(d,e,T,rest,true)∧St l sc (k+1) (ats++[(d,e,T)]) rest:=by
 obtain ⟨k0,k2⟩:=k_rat hk
 have ek:(((k+1:Nat):Int):Rat)=((k:Int):Rat)+1:=by rw [Int.natCast_add];simp
 obtain ⟨d,e,T,rest,h1,he,hN,hA⟩:=zd3 (l:=r) (sc:=sc) (by rw [h.lr];exact hn) (by rw [h.lr];exact hn9) h.lst (by have:=h.sq;grind) hsc hs0 hs12
 obtain ⟨d0,d1,fT,T1,T2,lr,la,ax,lrest,ri,_,_,sq⟩:=hN
 rw [h.lr] at *
 refine ⟨d,e,T,rest,h1,?_⟩
 have hf:(ats++[(d,e,T)]).foldl (addA (l.length:Int)) (List.replicate l.length 0)=List.zipWith (fadd .f32) (ats.foldl (addA (l.length:Int)) (List.replicate l.length 0)) (atI e (l.length:Int) d T):=by
  rw [List.foldl_append];rfl
 refine ⟨by rw [List.length_append,h.la];rfl,lr,fun h0=>by omega,lrest,by rw [ek];have:=h.sq;grind,?_,?_,?_,?_⟩
 ·intro a ha
  rcases List.mem_append.1 ha with ha | ha
  ·exact h.ok a ha
  ·rw [List.mem_singleton.1 ha];exact ⟨hA,by show ((atI e (l.length:Int) d T).length:Int)=_;rw [la]⟩
 ·rw [hf,List.length_zipWith,h.ls,la];omega
 ·intro i hi
  rw [hf,z12o _ _ _ i (by rw [h.ls];exact hi) (by rw [la];exact hi),ri i hi,ek]
  obtain ⟨n1,n2,n3,n4,n5⟩:=h.near i hi
  have xa:fin .f32 ((atI e (l.length:Int) d T).getD i 0)=true∧-26≤rq .f32 ((atI e (l.length:Int) d T).getD i 0)∧rq .f32 ((atI e (l.length:Int) d T).getD i 0)≤26:=by
   rw [List.getD_eq_getElem?_getD,List.getElem?_eq_getElem (show i<(atI e (l.length:Int) d T).length by omega)]
   exact ax _ (List.getElem_mem _)
  obtain ⟨x1,x2,x3⟩:=xa
  obtain ⟨r1,r2,r3⟩:=h.lst.at i
  generalize (ats.foldl (addA (l.length:Int)) (List.replicate l.length 0)).getD i 0=S at *
  generalize (atI e (l.length:Int) d T).getD i 0=X at *
  generalize r.getD i 0=R at *
  obtain ⟨f1,e1,e2⟩:=radd 7 (A:=128) ω11 ω11 n1 x1 ω13 ω13
  obtain ⟨f2,g1,g2⟩:=rsub 6 zwf ω11 r1 x1 ω13 ω13
  rw [ur32] at e1 e2 g1 g2
  refine ⟨f1,?_,?_,?_,?_⟩<;>grind
 ·intro _
  by_cases hk0:k=0
  ·subst hk0
   obtain rfl:ats=[]:=List.length_eq_zero_iff.1 h.la
   rw [h.z rfl] at h1
   rw [h1];rfl
  ·have hp:=h.fst ω2
   have:(ats++[(d,e,T)]).getD 0 (0,0,0)=ats.getD 0 (0,0,0):=by
    have:=h.la
    cases ats with
    | nil=>simp at this;omega
    | cons a b=>rfl
   rw [this];exact hp
theorem zum (a:LN):∀(μ:Nat) (s:Nat) (t:Int),z8d a μ s t=z8b a μ s t:=by
 intro μ
 induction μ with
 | zero=>intro s t;unfold z8d z8b;rfl
 | succ μ ih=>
  intro s t
  rw [zfh,zfe,ih]
theorem zlv (a:LN):zar a=zbp a:=by
 rw [zpg,zpd,zum]
theorem z11i (x:Nat):z8s x=z7k x:=rfl
theorem z16o {y:Nat} (hy:fin .f32 y=true) (h:flt .f32 0 y=true):fdiv .f32 2139095040 y=2139095040:=by
 obtain ⟨s,m,e,hr⟩:=zu hy
 rw [z2g (zx _) hy,z1m] at h
 have h:=odt h
 have hm:m≠0:=fun h0=>by rw [(zl0 hr).2 h0] at h;omega
 have hs:s=false:=by
  cases s with
  | false=>rfl
  | true=>have:=(sv_lt hr hm).2 rfl;omega
 subst hs
 have e1:FloatKind.f32.format.read 2139095040=.infinity false:=by decide+kernel
 have e3:FloatKind.f32.format.write (.infinity false)=2139095040:=by decide+kernel
 have e2:FloatKind.f32.format.div 2139095040 y=some (FloatKind.f32.format.write (.infinity false)):=by
  unfold Ieee.Format.div
  rw [hr,e1]
  simp [Ieee.Datum.quotient]
 rw [show fdiv .f32 2139095040 y=(FloatKind.f32.format.div 2139095040 y).getD (qnan .f32) from by unfold fdiv;rfl,e2,Option.getD_some,e3]
theorem z17b:z2p 2139095040=2139095040:=by decide+kernel
theorem z16p:fmul .f32 1082849639 2139095040=2139095040:=by decide+kernel
theorem z16q:fin .f32 2139095040=false:=by decide+kernel
theorem zud {y:Nat} (hy:fin .f32 y=true) (h:flt .f32 0 y=true):z7k (fmul .f32 1082849639 (z2p (fdiv .f32 2139095040 y)))=(0,false):=by
 rw [z16o hy h,z17b,z16p];unfold z7k;rw [z6r,z16q];rfl
theorem z11c {a b:LN} (h:(z6a a b).2=true):fin .f32 (z6a a b).1=true:=by
 revert h
 rw [za2]
 cases (!(z7h a)) with
 | true=>intro h;cases h
 | false=>
  cases (!(z7h b)) with
  | true=>intro h;cases h
  | false=>
   rw [cond_false,cond_false]
   cases ((a.length:Int) != (b.length:Int)) with
   | true=>intro h;cases h
   | false=>
    rw [cond_false]
    generalize z8r a b=m
    unfold z7k;rw [z6r]
    cases hm:fin .f32 m with
    | true=>intro _;exact hm
    | false=>intro h;cases h
theorem zra (a b:LN):z6l a b=zd2 a b:=by
 rw [zp5,zgo,zkc,zlv]
 generalize hz:fdiv .f32 (zbp a) (FloatKind.nearest .f32 (a.length:Int))=z
 have wz:Wd .f32 z:=by rw [←hz];exact Wd.div _ _ _
 cases h1:(z6a a b).2 with
 | false=>rfl
 | true=>
  have hf:=z11c h1
  generalize hmm:(z6a a b).1=m at hf ⊢
  rw [Bool.not_true,cond_false,cond_false,z11i,z1cy (Wd.div _ _ _)];unfold zs9;rw [z6r]
  cases h2:flt .f32 0 m with
  | false=>rw [Bool.not_false,cond_true];cases (!(bif fin .f32 z then flt .f32 0 z else false))<;>rfl
  | true=>
   rw [Bool.not_true,cond_false,cond_false]
   cases h3:fin .f32 z with
   | true=>rw [cond_true]
   | false=>
    rw [cond_false,Bool.not_false,cond_true]
    cases h4:flt .f32 0 z with
    | false=>rfl
    | true=>
     rw [Bool.not_true,cond_false]
     have hzi:z=2139095040:=by
      rcases wz.cases with h | h | h | h
      ·rw [h] at h3;cases h3
      ·exact h
      ·rw [h] at h4;exact absurd h4 ω39
      ·rw [h] at h4;exact absurd h4 ω39
     rw [hzi,zud hf h2]
theorem zw7 {a b:Nat} (ha:fin .f64 a=true) (hb:fin .f64 b=true) {E:Rat} (hE:E≤8192) (h1:-E≤rq .f64 a-rq .f64 b) (h2:rq .f64 a-rq .f64 b≤E):
  fin .f64 (z2f a b)=true∧rq .f64 (z2f a b)≤E+8192 / 9007199254740992:=by
 unfold z2f
 rw [zol ha hb]
 by_cases h:rq .f64 a<rq .f64 b
 ·rw [dct h,cond_true]
  obtain ⟨f1,g1,g2⟩:=rsub (k:=.f64) 13 (A:=8192) ω11 ω11 hb ha ω13 ω13
  rw [ur64] at g1 g2
  exact ⟨f1,by grind⟩
 ·rw [dcf h,cond_false]
  obtain ⟨f1,g1,g2⟩:=rsub (k:=.f64) 13 (A:=8192) ω11 ω11 ha hb ω13 ω13
  rw [ur64] at g1 g2
  exact ⟨f1,by grind⟩
theorem zuc:fin .f64 4576918229304087675=true∧99 / 10000≤rq .f64 4576918229304087675∧rq .f64 4576918229304087675≤101 / 10000:=by
 have hr:FloatKind.f64.format.read 4576918229304087675=.number false 5764607523034235 (-59):=by decide+kernel
 have f:fin .f64 4576918229304087675=true:=by unfold fin;rw [hr]
 obtain ⟨q,hq⟩:∃q:Nat,q=1015:=⟨_,rfl⟩
 have e:sv .f64 4576918229304087675=5764607523034235*((2 ^ q:Nat):Int):=by
  unfold sv
  rw [hr]
  simp only []
  rw [zq,l64,show ((-59:Int)- -1074).toNat=q by rw [hq];decide]
  generalize (2:Nat) ^ q=D
  simp
 have:=zbc q 59 e (by rw [hq];rfl)
 have e2:(((2 ^ 59:Nat):Int):Rat)=576460752303423488:=by decide
 rw [e2] at this
 have e3:((5764607523034235:Int):Rat)=5764607523034235:=rfl
 rw [e3] at this
 clear e hr
 exact ⟨f,by grind,by grind⟩
theorem mil_q:fin .f64 4562254508917369340=true∧0≤sv .f64 4562254508917369340∧9*((2 ^ 1074:Nat):Int)≤10000*sv .f64 4562254508917369340∧sv .f64 4562254508917369340≤((2 ^ 1074:Nat):Int):=by decide+kernel
set_option exponentiation.threshold 2000 in
theorem z1d1:9 / 10000≤rq .f64 4562254508917369340∧rq .f64 4562254508917369340≤1:=by
 obtain ⟨_,_,h1,h2⟩:=mil_q
 have p:=z4t .f64
 have e:=z1v .f64 4562254508917369340
 have a:=Rat.intCast_le_intCast.2 h1
 have b:=Rat.intCast_le_intCast.2 h2
 rw [Rat.intCast_mul,Rat.intCast_mul] at a
 have c:(((2 ^ 1074:Nat):Int):Rat)=PP .f64:=rfl
 rw [c,←e] at a b
 have l9:((9:Int):Rat)=9:=by decide
 have l4:((10000:Int):Rat)=10000:=by decide
 rw [l9,l4] at a
 generalize PP .f64=U at *
 generalize rq .f64 4562254508917369340=V at *
 constructor
 ·refine (z1o p).1 ?_;grind
 ·refine (z1o p).1 ?_;grind
theorem zxp:fin .f64 4652007308841189376=true∧sv .f64 4652007308841189376=1000*((2 ^ 1074:Nat):Int):=by decide+kernel
theorem z18p:rq .f64 4652007308841189376=1000:=by
 have:=zbc (k:=.f64) 1074 0 zxp.2 rfl
 simpa using this
theorem z14l (a b:LN):(z6l a b).2=(zd2 a b).2∧((z6l a b).2=true→flt .f64 (z2f (zh (z6l a b).1) 0) 4652007308841189376=true):=by
 rw [zra]
 refine ⟨rfl,fun h=>?_⟩
 rw [zgo] at h ⊢
 generalize hx:fdiv .f32 (fdiv .f32 (zbp a) (FloatKind.nearest .f32 (a.length:Int))) (z6a a b).1=x at *
 have wx:Wd .f32 x:=by rw [←hx];exact Wd.div _ _ _
 generalize zs9 (fdiv .f32 (zbp a) (FloatKind.nearest .f32 (a.length:Int)))=c1 at *
 generalize (z6a a b).2=c2 at *
 generalize flt .f32 0 (z6a a b).1=c3 at *
 cases c2
 ·cases h
 cases c1
 ·cases h
 cases c3
 ·cases h
 rw [Bool.not_true,cond_false,cond_false,cond_false] at h ⊢
 unfold z7k at h ⊢
 rw [z6r] at h ⊢
 cases hf:fin .f32 (fmul .f32 1082849639 (z2p x))
 ·rw [hf] at h;cases h
 ·rw [Bool.not_true,cond_false]
  obtain ⟨l1,l2⟩:=log_q wx hf
  obtain ⟨fw,ew⟩:=zas hf
  show flt .f64 (z2f (zh (fmul .f32 1082849639 (z2p x))) 0) 4652007308841189376=true
  obtain ⟨g1,g2⟩:=zw7 fw (zx _) (E:=600) ω13 (by rw [ew,z2t];grind) (by rw [ew,z2t];grind)
  rw [zol g1 zxp.1,z18p]
  exact dct ω13
theorem z1db {l sc:LN} (hn:2≤l.length) (hn9:l.length≤9) (hq:sqR l≤576) (hsc:∀e ∈ sc,SC e) (hs0:1≤sc.length) (hs12:sc.length≤12) {c:Nat} (hc:c≤3) (t8:Bool) (t32:Int):∀(j k:Nat) (ats:List (Int×Nat×Nat)) (r:LN) (t:Bool) (μ:Nat),k+j=c→j<μ→St l sc k ats r→
  ∃ats' r',z4l l sc (c:Int) t8 t32 (fun (t8_8:Bool) (oa:List (Int×Nat×Nat)) (bb:LN) (t44:Int)=>(oa,bb,true)) μ t ats r (k:Int)=(ats',r',true)∧St l sc c ats' r':=by
 intro j
 induction j with
 | zero=>
  intro k ats r t μ h1 hm st
  obtain _ | μ:=μ
  ·omega
  obtain rfl:k=c:=by omega
  rw [z6k,dcf ω2,cond_false]
  exact ⟨ats,r,rfl,st⟩
 | succ j ih=>
  intro k ats r t μ h1 hm st
  obtain _ | μ:=μ
  ·omega
  obtain ⟨d,e,T,rest,e1,st2⟩:=z18k hn hn9 hq hsc hs0 hs12 ω2 st
  rw [z6k,dct (show (k:Int)<(c:Int) by omega),cond_true,e1,Bool.not_true,cond_false]
  exact ih (k+1) _ _ _ _ ω2 ω2 st2
theorem z1da {l sc:LN} (hsc:∀e ∈ sc,SC e) (c:Int):∀(μ:Nat) (t:Bool) (i:Nat),i≤sc.length→sc.length-i<μ→z5v l sc c μ t (i:Int)=z4l l sc c t (sc.length:Int) (fun (t8_8:Bool) (oa:List (Int×Nat×Nat)) (bb:LN) (t44:Int)=>(oa,bb,true)) (Int.toNat (c-(0:Int))+1) t (([]:List (Int×Nat×Nat))) l (0:Int):=by
 intro μ
 induction μ with
 | zero=>intro t i h0 h;omega
 | succ μ ih=>
  intro t i h0 hm
  rw [z9e]
  by_cases h:i<sc.length
  ·rw [dct (show (i:Int)<(sc.length:Int) by omega),cond_true,(hsc _ (zgc (t:=(i:Int)) ω2 ω2)).1,Bool.not_true,cond_false]
   exact ih _ (i+1) ω2 ω2
  ·rw [dcf (show ¬(i:Int)<(sc.length:Int) by omega),cond_false,show i=sc.length by omega]
theorem z17u {l sc:LN} (hn:2≤l.length) (hn9:l.length≤9) (hl:Lst l) (hq:sqR l≤576) (hsc:∀e ∈ sc,SC e) (hs0:1≤sc.length) (hs12:sc.length≤12) {c:Nat} (hc:c≤3):∃ats r,zw l sc (c:Int)=(ats,r,true)∧St l sc c ats r:=by
 have long:z6x l=true:=by
  rw [z7i,z2l]
  have w1:z1n (l.length:Int) 1 128=true:=by
   unfold z1n;rw [dct ω2,cond_true];exact dct ω2
  rw [w1,cond_true]
  simp only [List.all_cons,List.all_nil,Bool.and_true]
  exact List.all_eq_true.2 fun y hy=>(hl y hy).1
 have w2:z1n (sc.length:Int) 1 12=true:=by
  unfold z1n;rw [dct ω2,cond_true];exact dct ω2
 have w3:z1n (c:Int) 0 16=true:=by
  unfold z1n;rw [dct ω2,cond_true];exact dct ω2
 rw [zcx,long,w2,w3,Bool.not_true,cond_false,cond_false,cond_false]
 have e:=z1da (l:=l) hsc (c:Int) (Int.toNat ((sc.length:Int)-(0:Int))+1) false 0 (Nat.zero_le _) ω2
 obtain ⟨ats,r,e1,st⟩:=z1db hn hn9 hq hsc hs0 hs12 hc false (sc.length:Int) c 0 [] l false (Int.toNat ((c:Int)-(0:Int))+1) ω2 ω2 (z18l hl)
 exact ⟨ats,r,Eq.trans e e1,st⟩
theorem z18n {l sc:LN} (hn:2≤l.length) (hn9:l.length≤9) {c:Nat} (hc:c≤3) {ats:List (Int×Nat×Nat)} {r:LN} (st:St l sc c ats r):z6b (l.length:Int) ats=(ats.foldl (addA (l.length:Int)) (List.replicate l.length 0),true):=by
 rw [z10f ω2 ω2 st.ok (by rw [st.la];omega),Int.toNat_natCast]
 have:(ats.foldl (addA (l.length:Int)) (List.replicate l.length 0)).all (fin .f32)=true:=by
  refine List.all_eq_true.2 fun y hy=>?_
  obtain ⟨i,hi,rfl⟩:=List.mem_iff_getElem.1 hy
  have:=(st.near i (by rw [←st.ls];exact hi)).1
  rw [List.getD_eq_getElem?_getD,List.getElem?_eq_getElem hi] at this
  exact this
 rw [this];rfl
theorem z1cm {a b:Nat} (ha:fin .f64 a=true) (hb:fin .f64 b=true) {E:Rat} (hE:E≤8192) (h1:-E≤rq .f64 a-rq .f64 b) (h2:rq .f64 a-rq .f64 b≤E):-(8192 / 9007199254740992)≤rq .f64 (z2f a b):=by
 unfold z2f
 rw [zol ha hb]
 by_cases h:rq .f64 a<rq .f64 b
 ·rw [dct h,cond_true]
  obtain ⟨f1,g1,g2⟩:=rsub (k:=.f64) 13 (A:=8192) ω11 ω11 hb ha ω13 ω13
  rw [ur64] at g1 g2
  grind
 ·rw [dcf h,cond_false]
  obtain ⟨f1,g1,g2⟩:=rsub (k:=.f64) 13 (A:=8192) ω11 ω11 ha hb ω13 ω13
  rw [ur64] at g1 g2
  grind
theorem z12p {v:Nat} (fv:fin .f64 v=true) (v1:-(1 / 100)≤rq .f64 v) (v2:rq .f64 v≤800):fin .f64 (fmul .f64 4576918229304087675 (fadd .f64 4607182418800017408 v))=true∧98 / 10000*(1+rq .f64 v)-1 / 1000000≤rq .f64 (fmul .f64 4576918229304087675 (fadd .f64 4607182418800017408 v)):=by
 obtain ⟨f1,g1,g2⟩:=radd (k:=.f64) 10 (A:=1024) ω11 ω11 zkf.1 fv (by rw [zcs];grind) (by rw [zcs];grind)
 rw [zcs,ur64] at g1 g2
 obtain ⟨fc,c1,c2⟩:=zuc
 generalize fadd .f64 4607182418800017408 v=u at *
 have p:=Rat.mul_nonneg (show (0:Rat)≤rq .f64 4576918229304087675-98 / 10000 by grind) (show (0:Rat)≤rq .f64 u by grind)
 obtain ⟨m1,m2⟩:=mulb (x:=rq .f64 4576918229304087675) (y:=rq .f64 u) (a:=101 / 10000) (b:=802) ω13 c2 ω13 ω13
 obtain ⟨f2,k1,k2⟩:=rmul 4 (A:=16) ω11 ω11 fc f1 ω13 ω13
 rw [ur64] at k1 k2
 exact ⟨f2,by grind⟩
theorem z13h {T:Nat} (fT:fin .f32 T=true) (T1:-25≤rq .f32 T) (T2:rq .f32 T≤25):fin .f64 (fmul .f64 (zh T) (zh T))=true∧-(1 / 1000000)≤rq .f64 (fmul .f64 (zh T) (zh T))-rq .f32 T*rq .f32 T∧rq .f64 (fmul .f64 (zh T) (zh T))-rq .f32 T*rq .f32 T≤1 / 1000000∧rq .f32 T*rq .f32 T≤625∧0≤rq .f32 T*rq .f32 T:=by
 obtain ⟨fw,ew⟩:=zas fT
 obtain ⟨m1,m2⟩:=mulb T1 T2 T1 T2
 obtain ⟨f1,g1,g2⟩:=rmul 10 (A:=1024) ω11 ω11 fw fw (by rw [ew];grind) (by rw [ew];grind)
 rw [ew,ur64] at g1 g2
 exact ⟨f1,by grind,by grind,by grind,sqn _⟩
theorem zgi {a b:Nat} (ha:fin .f64 a=true) (hb:fin .f64 b=true) (h:rq .f64 b≤rq .f64 a):flt .f64 a b=false:=by
 rw [zol ha hb];exact dcf (by rw [Rat.not_lt];exact h)
theorem zyu {l:LN} {d:Int} {e T:Nat} {rest:LN} (h9:l.length≤9) (h:Near l d e T rest):
  flt .f64 (fmul .f64 4576918229304087675 (fadd .f64 4607182418800017408 (fmul .f64 (zh T) (zh T)))) (z2f (z4q (atI e (l.length:Int) d T)) (fmul .f64 (zh T) (zh T)))=false:=by
 obtain ⟨_,_,fT,T1,T2,_,la,ax,_,_,⟨a1,a2⟩,_,_⟩:=h
 obtain ⟨fz,z1,z2,z3,z4⟩:=z13h fT T1 T2
 obtain ⟨fs,s1,s2⟩:=zxj (l:=atI e (l.length:Int) d T) (fun y hy=>⟨(ax y hy).1,by have:=(ax y hy).2.1;grind,by have:=(ax y hy).2.2;grind⟩) (by rw [la];exact h9)
 obtain ⟨fc,c1⟩:=z12p fz ω13 ω13
 obtain ⟨fg,g1⟩:=zw7 fs fz (E:=1 / 200*(1+rq .f32 T*rq .f32 T)+1 / 100000) ω13 ω13 ω13
 exact zgi fc fg ω13
theorem zyv {l:LN} {d:Int} {e T:Nat} {rest:LN} (h9:l.length≤9) (hl:Lst l) (hq:sqR l≤576) (h:Near l d e T rest):
  flt .f64 (fmul .f64 4576918229304087675 (fadd .f64 4607182418800017408 (z4q l))) (z2f (fadd .f64 (z4q rest) (fmul .f64 (zh T) (zh T))) (z4q l))=false:=by
 obtain ⟨_,_,fT,T1,T2,lr,_,_,lrest,_,_,⟨a1,a2⟩,a3⟩:=h
 obtain ⟨fz,z1,z2,z3,z4⟩:=z13h fT T1 T2
 obtain ⟨fs,s1,s2⟩:=zxj hl h9
 obtain ⟨fr,r1,r2⟩:=zxj lrest (by rw [lr];exact h9)
 have n1:=zpr l
 have n2:=zpr rest
 obtain ⟨fc,c1⟩:=z12p fs ω13 ω13
 obtain ⟨fa,b1,b2⟩:=radd 11 zwe ω11 fr fz ω13 ω13
 rw [ur64] at b1 b2
 obtain ⟨fg,g1⟩:=zw7 fa fs (E:=1 / 200*(1+sqR l)+1 / 100000) ω13 ω13 ω13
 exact zgi fc fg ω13
theorem zyw {l r:LN} (h9:l.length≤9) (hl:Lst l) (hr:Lst r) (lr:r.length=l.length) (hq:sqR l≤576) (h:sqR r≤sqR l+3 / 400):flt .f64 (fadd .f64 (z4q l) 4576918229304087675) (z4q r)=false:=by
 obtain ⟨fs,s1,s2⟩:=zxj hl h9
 obtain ⟨fr,r1,r2⟩:=zxj hr (by rw [lr];exact h9)
 have n1:=zpr l
 obtain ⟨fc,c1,c2⟩:=zuc
 obtain ⟨fa,b1,b2⟩:=radd 10 (A:=1024) ω11 ω11 fs fc ω13 ω13
 rw [ur64] at b1 b2
 exact zgi fa fr ω13
theorem z14k {S R X:Nat} (fS:fin .f32 S=true) (S1:-81≤rq .f32 S) (S2:rq .f32 S≤81) (hR:fin .f32 R=true∧-32≤rq .f32 R∧rq .f32 R≤32) (hX:fin .f32 X=true∧-32≤rq .f32 X∧rq .f32 X≤32)
  (h1:-(600 / 16777216)≤rq .f32 S+rq .f32 R-rq .f32 X) (h2:rq .f32 S+rq .f32 R-rq .f32 X≤600 / 16777216):
  flt .f64 (fmul .f64 4562254508917369340 (fadd .f64 4607182418800017408 (z2f (zh X) 0))) (z2f (fadd .f64 (zh S) (zh R)) (zh X))=false:=by
 obtain ⟨fR,R1,R2⟩:=hR
 obtain ⟨fX,X1,X2⟩:=hX
 obtain ⟨wS,eS⟩:=zas fS
 obtain ⟨wR,eR⟩:=zas fR
 obtain ⟨wX,eX⟩:=zas fX
 have z:=z2t .f64
 obtain ⟨fg,g1⟩:=zw7 wX (zx _) (E:=32) ω13 (by rw [eX,z];grind) (by rw [eX,z];grind)
 have g0:=z1cm wX (zx _) (E:=32) ω13 (by rw [eX,z];grind) (by rw [eX,z];grind)
 generalize z2f (zh X) 0=G at *
 obtain ⟨f1,a1,a2⟩:=radd 6 zwf ω11 zkf.1 fg (by rw [zcs];grind) (by rw [zcs];grind)
 rw [zcs,ur64] at a1 a2
 generalize fadd .f64 4607182418800017408 G=u at *
 obtain ⟨l1,l2⟩:=z1d1
 have p:=Rat.mul_nonneg (show (0:Rat)≤rq .f64 4562254508917369340-9 / 10000 by grind) (show (0:Rat)≤rq .f64 u by grind)
 obtain ⟨m1,m2⟩:=mulb (x:=rq .f64 4562254508917369340) (y:=rq .f64 u) (a:=1) (b:=34) ω13 l2 ω13 ω13
 obtain ⟨f2,k1,k2⟩:=rmul 6 zwf ω11 mil_q.1 f1 ω13 ω13
 rw [ur64] at k1 k2
 obtain ⟨f3,b1,b2⟩:=radd 7 (A:=128) ω11 ω11 wS wR (by rw [eS,eR];grind) (by rw [eS,eR];grind)
 rw [eS,eR,ur64] at b1 b2
 obtain ⟨f4,j1⟩:=zw7 f3 wX (E:=700 / 16777216) ω13 (by rw [eX];grind) (by rw [eX];grind)
 exact zgi f2 f4 ω13
theorem zxe (x:Nat):zkp x x=true:=by
 unfold zkp zp2;exact beq_self_eq_true _
theorem zoj {x:Nat} (h:fin .f32 x=true):feq .f32 x x=true:=by
 rw [z7c h h];exact dct rfl
theorem qt32:∀k:Nat,k<65→fin .f32 (fdiv .f32 (FloatKind.nearest .f32 ((k:Int)-32)) 1082130432)=true∧(sv .f32 (fdiv .f32 (FloatKind.nearest .f32 ((k:Int)-32)) 1082130432)).natAbs≤8*2 ^ 149:=by decide+kernel
theorem qt_q {y:Nat} (h:Qt y):fin .f32 y=true∧-8≤rq .f32 y∧rq .f32 y≤8:=by
 obtain ⟨k,hk,rfl⟩:=h
 obtain ⟨f,b⟩:=qt32 k hk
 refine ⟨f,(z4h (z4t .f32) (z1v .f32 _) (B:=8*2 ^ 149) ?_).2 b⟩
 rw [Int.natCast_mul,Rat.intCast_mul]
 rfl
theorem z1dd {l:LN} (h:∀y ∈ l,Qt y):Lst l∧sqR l≤64*((l.length:Int):Rat):=by
 refine ⟨fun y hy=>⟨(qt_q (h y hy)).1,by have:=(qt_q (h y hy)).2.1;grind,by have:=(qt_q (h y hy)).2.2;grind⟩,?_⟩
 induction l with
 | nil=>show (0:Rat)≤_;simp
 | cons x r ih=>
  have:=ih fun y hy=>h y (List.mem_cons_of_mem _ hy)
  obtain ⟨_,q1,q2⟩:=qt_q (h x (List.mem_cons_self ..))
  obtain ⟨m1,m2⟩:=mulb q1 q2 q1 q2
  rw [zgf]
  show rq .f32 x*rq .f32 x+sqR r≤_
  grind
theorem atm_n (l:List UInt8):2≤IntKind.wrap .i64 (2+ze l (0:Int) (8:Int))∧IntKind.wrap .i64 (2+ze l (0:Int) (8:Int))≤9:=by
 have h1:=z7p l 0 8 ω11 ω11
 rw [zy (n:=2+ze l 0 8) ω2 ω2];omega
theorem z18c:∀j:Nat,j<5→fin .f32 (fdiv .f32 (FloatKind.nearest .f32 (2+(j:Int))) 1073741824)=true:=by decide+kernel
theorem ff_ {b x:Bool} (h:b=false) (hx:x=true):(bif b then false else x)=true:=by rw [h];exact hx
theorem nt_ {b x:Bool} (h:b=true) (hx:x=true):(bif !b then false else x)=true:=by rw [h];exact hx
theorem z1do {a1 a2 a3 a4 a5 c f:Bool} (h1:a1=true) (h2:a2=true) (h3:a3=true) (h4:a4=true) (h5:a5=true) (hc:c=true→f=true):(bif a1 then (bif a2 then (bif a3 then (bif a4 then (bif a5 then (bif !c then true else f) else false) else false) else false) else false) else false)=true:=by
 rw [h1,h2,h3,h4,h5]
 cases c
 ·rfl
 ·exact hc rfl
theorem zyp {c m:List UInt8} {L rest r S:LN} {s e T k:Nat} {d:Int} {ats:List (Int×Nat×Nat)}
  (eN:IntKind.wrap .i64 (2+ze m (0:Int) (8:Int))=(L.length:Int)) (eL:zm c (L.length:Int)=L)
  (eS:fdiv .f32 (FloatKind.nearest .f32 (IntKind.wrap .i64 (2+ze m (1:Int) (5:Int)))) 1073741824=s) (eC:ze m (2:Int) (4:Int)=(k:Int))
  (eO:zt L [1056964608,s]=(d,e,T,rest,true)) (eP:zw L [1056964608,s] (k:Int)=(ats,r,true)) (eF:z6b (L.length:Int) ats=(S,true))
  (hs:∀i:Nat,i<L.length→flt .f64 (fmul .f64 4562254508917369340 (fadd .f64 4607182418800017408 (z2f (zh (L.getD i 0)) 0))) (z2f (fadd .f64 (zh (S.getD i 0)) (zh (r.getD i 0))) (zh (L.getD i 0)))=false)
  (h0:0<k→ats.getD 0 (0,0,0)=(d,e,T)) (fe:fin .f32 e=true) (fT:fin .f32 T=true) (hr:flt .f64 (fadd .f64 (z4q L) 4576918229304087675) (z4q r)=false)
  {x:Nat} (m1:z3s L r=(x,true)) (m2:z3s r L=(x,true)) (hx:fle .f32 0 x=true):
  ∀(μ:Nat) (t:Bool) (i:Nat),i≤L.length→L.length-i<μ→z1u c m μ t (i:Int)=true:=by
 intro μ
 induction μ with
 | zero=>intro t i _ h;omega
 | succ μ ih=>
  intro t i hi hm
  rw [z4r,eN,eL,eS,eC,eO,eP,show z6b (L.length:Int) (ats,r,true).1=(S,true) from eF]
  by_cases h:i<L.length
  ·rw [dct (show (i:Int)<(L.length:Int) by omega),cond_true,Int.toNat_natCast]
   exact ff_ (hs i h) (ih _ (i+1) ω2 ω2)
  ·rw [dcf (show ¬(i:Int)<(L.length:Int) by omega),cond_false,show z3s L (ats,r,true).2.1=(x,true) from m1,show z3s (ats,r,true).2.1 L=(x,true) from m2]
   have cq:=z14l L r
   have tl:=z1do (a1:=(x,true).2) (a2:=(x,true).2) (a3:=(z6l L r).2==(zd2 L r).2) (a4:=zkp (x,true).1 (x,true).1) (a5:=fle .f32 0 (x,true).1) (c:=(z6l L r).2) (f:=flt .f64 (z2f (zh (z6l L r).1) 0) 4652007308841189376) rfl rfl (by rw [cq.1];exact beq_self_eq_true _) (zxe x) hx cq.2
   by_cases hk:0<k
   ·rw [dct (show (0:Int)<(k:Int) by omega),cond_true]
    refine nt_ ?_ (ff_ hr tl)
    show (true && (((ats.getD 0 (0,0,0)).1:Int)==d) && feq .f32 (ats.getD 0 (0,0,0)).2.1 e && feq .f32 (ats.getD 0 (0,0,0)).2.2 T)=true
    rw [h0 hk]
    show (true && ((d:Int)==d) && feq .f32 e e && feq .f32 T T)=true
    rw [zoj fe,zoj fT,beq_self_eq_true];rfl
   ·rw [dcf (show ¬(0:Int)<(k:Int) by omega),cond_false]
    exact tl
theorem laws_FnAtoms_true (c m:List UInt8):z5n c m=true:=by
 obtain ⟨n,hn,n2,n9⟩:∃n:Nat,IntKind.wrap .i64 (2+ze m (0:Int) (8:Int))=(n:Int)∧2≤n∧n≤9:=by
  have h:=atm_n m
  exact ⟨(IntKind.wrap .i64 (2+ze m (0:Int) (8:Int))).toNat,by omega,by omega,by omega⟩
 obtain ⟨j,hj,j5⟩:∃j:Nat,ze m (1:Int) (5:Int)=(j:Int)∧j<5:=by
  have h:=z7p m 1 5 ω11 ω11
  exact ⟨(ze m (1:Int) (5:Int)).toNat,by omega,by omega⟩
 obtain ⟨k,hk,k3⟩:∃k:Nat,ze m (2:Int) (4:Int)=(k:Int)∧k≤3:=by
  have h:=z7p m 2 4 ω11 ω11
  exact ⟨(ze m (2:Int) (4:Int)).toNat,by omega,by omega⟩
 obtain ⟨b1,b2⟩:=zvo c (n:Int)
 generalize hL:zm c (n:Int)=L at *
 rw [Int.toNat_natCast] at b1
 subst b1
 obtain ⟨lL,qL⟩:=z1dd b2
 have q576:sqR L≤576:=by
  have h:=Rat.intCast_le_intCast.2 (show (L.length:Int)≤9 by omega)
  rw [show ((9:Int):Rat)=9 by decide] at h
  grind
 have eS:fdiv .f32 (FloatKind.nearest .f32 (IntKind.wrap .i64 (2+ze m (1:Int) (5:Int)))) 1073741824=fdiv .f32 (FloatKind.nearest .f32 (2+(j:Int))) 1073741824:=by
  rw [hj,zy ω2 ω2]
 have sc1:=sc_at j j5
 have sc2:=z18c j j5
 generalize fdiv .f32 (FloatKind.nearest .f32 (2+(j:Int))) 1073741824=s at *
 have hsc:∀y ∈ [1056964608,s],SC y:=by
  intro y hy
  rcases List.mem_cons.1 hy with rfl | hy
  ·exact sc_05
  ·rw [List.mem_singleton.1 hy];exact sc1
 have hfs:∀y ∈ [1056964608,s],fin .f32 y=true:=by
  intro y hy
  rcases List.mem_cons.1 hy with rfl | hy
  ·decide+kernel
  ·rw [List.mem_singleton.1 hy];exact sc2
 obtain ⟨d,e,T,rest,eO,he,nr,hA⟩:=zd3 (l:=L) (sc:=[1056964608,s]) n2 n9 lL ω13 hsc (by simp) (by simp)
 obtain ⟨ats,r,eP,st⟩:=z17u (l:=L) (sc:=[1056964608,s]) n2 n9 lL q576 hsc (by simp) (by simp) k3
 have eF:=z18n n2 n9 k3 st
 obtain ⟨x,m1,m2,hx⟩:=zwm (a:=L) (b:=r) st.lr.symm ω2 n9 lL st.lst
 rw [←zkc] at m1 m2
 have ck:sqR r≤sqR L+3 / 400:=by
  have h:=Rat.intCast_le_intCast.2 (show (k:Int)≤3 by omega)
  rw [show ((3:Int):Rat)=3 by decide] at h
  have:=st.sq;grind
 have k3r:(0:Rat)≤((k:Int):Rat)∧((k:Int):Rat)≤3:=by
  have h:=Rat.intCast_le_intCast.2 (show (k:Int)≤3 by omega)
  have h0:=Rat.intCast_le_intCast.2 (show (0:Int)≤(k:Int) by omega)
  rw [show ((3:Int):Rat)=3 by decide] at h
  rw [show ((0:Int):Rat)=0 by decide] at h0
  exact ⟨h0,h⟩
 have c1:=zyu n9 nr
 have c2:=zyv n9 lL q576 nr
 have c3:=zyw n9 lL st.lst st.lr q576 ck
 obtain ⟨d0,d1,fT,_,_,lr,la,_,_,_,_,_,_⟩:=nr
 have loop:=zyp hn hL eS hk eO eP eF (fun i hi=>by
  obtain ⟨a1,a2,a3,a4,a5⟩:=st.near i hi
  exact z14k a1 ω13 ω13 (st.lst.at i) (lL.at i) ω13 ω13) (fun h=>by have:=st.fst h;rw [eO] at this;exact this) (hfs e he) fT c3 m1 m2 hx
 rw [z6c,hn,hL,eS,hk,eO,eP,show z6b (L.length:Int) (ats,r,true).1=_ from eF,show z1s (L.length:Int) (d,e,T,rest,true).1 (d,e,T,rest,true).2.1 (d,e,T,rest,true).2.2.1=_ from hA]
 cases zmr c m
 ·rw [cond_false]
  refine nt_ rfl (nt_ rfl (ff_ ?_ (ff_ ?_ (ff_ ?_ (ff_ ?_ (ff_ c1 (ff_ c2 (nt_ rfl (nt_ rfl (ff_ ?_ (ff_ ?_ (ff_ ?_ ?_))))))))))))
  ·show ((rest.length:Int) != (L.length:Int))=false;rw [lr];exact bne_self_eq_false _
  ·show (((atI e (L.length:Int) d T).length:Int) != (L.length:Int))=false;rw [la];exact bne_self_eq_false _
  ·exact dcf (show ¬d<0 by omega)
  ·exact dcf (show ¬(L.length:Int)≤d by omega)
  ·show ((ats.length:Int) != (k:Int))=false;rw [st.la];exact bne_self_eq_false _
  ·show ((r.length:Int) != (L.length:Int))=false;rw [st.lr];exact bne_self_eq_false _
  ·show (((ats.foldl (addA (L.length:Int)) (List.replicate L.length 0)).length:Int) != (L.length:Int))=false;rw [st.ls];exact bne_self_eq_false _
  ·exact loop _ _ 0 (Nat.zero_le _) ω2
 ·rfl
def E_laws_FnAtoms:Env:=envOf [(43,zr3),(44,zej),(45,zqw),(84,zlb),(85,zio),(83,zqq),(48,zeg),(86,zed),(87,zqu),(88,zla),(89,zqk),(90,zql),(69,zqr)]
def z3o:List Value→zd→(Value→zd→Prop)→Prop
 | [.slice wa ya kb,.slice rb qb tb],H,K=>z8p wa ya kb rb qb tb H fun (r1:Bool) (H':zd)=>K (.bool r1) H'
 | _,_,_=>False
def z3p:FSpec:={F:=z3o,quiet:=false,tame:=false}
theorem laws_FnAtoms_vc (wa:OA) (ya kb:Nat) (rb:OA) (qb tb:Nat) (H:zd) (K:KT):zk Try.prog E_laws_FnAtoms Try.f13 [.slice wa ya kb,.slice rb qb tb] H K=
 (zym wa ya kb rb qb tb H fun (r1:Bool) (H1:zd)=>Br r1 (K (.bool true) H1) (zer rb qb tb 0 8 H1 fun (r2:Int) (H2:zd)=>zyi wa ya kb (IntKind.wrap .i64 (2+r2)) H2 fun (a1:OA) (r3:Nat) (r4:Nat) (H3:zd)=>zer rb qb tb 1 5 H3 fun (r5:Int) (H4:zd)=>Al [.float .f32 1056964608,.float .f32 (fdiv .f32 (FloatKind.nearest .f32 (IntKind.wrap .i64 (2+r5))) 1073741824)] H4 fun b1 H5=>ztr a1 r3 r4 (some ⟨b1,0,none⟩) 2 1 H5 fun (r6:Int) (r7:Nat) (r8:Nat) (a2:OA) (r9:Nat) (r10:Nat) (r11:Bool) (H6:zd)=>Al [.int .i64 0,.float .f32 0,.float .f32 0] H6 fun b2 H7=>isOwn H7 b2∧(∃l,rdN H7 b2 0 3=some l)∧Lt (setN H7 b2 0 [.int .i64 r6,.float .f32 r7,.float .f32 r8]) fun H8=>∃c1:Int,∃(c2 c3:Nat),  rdN H8 b2 0 3=some [.int .i64 c1,.float .f32 c2,.float .f32 c3]∧zlj (IntKind.wrap .i64 (2+r2)) c1 c2 c3 H8 fun (a3:OA) (r12:Nat) (r13:Nat) (r14:Bool) (H9:zd)=>Br (!r11) (K (.bool false) H9) (Br (!r14) (K (.bool false) H9) (Br (((r9:Int):Int) != (r3:Int)) (K (.bool false) H9) (Br (((r12:Int):Int) != (r3:Int)) (K (.bool false) H9) (∃x1:Int,  rdC H9 b2 0=some (.int .i64 x1)∧Br (decide ((x1:Int)<0)) (K (.bool false) H9) (∃x2:Int,  rdC H9 b2 0=some (.int .i64 x2)∧Br (decide ((IntKind.wrap .i64 (2+r2):Int)≤x2)) (K (.bool false) H9) (∃x3:Nat,  rdC H9 b2 2=some (.float .f32 x3)∧∃x4:Nat,  rdC H9 b2 2=some (.float .f32 x4)∧zlh a1 r3 r4 H9 fun (r15:Nat) (H10:zd)=>zlh a3 r12 r13 H10 fun (r16:Nat) (H11:zd)=>z8o r16 (fmul .f64 (zh x3) (zh x4)) H11 fun (r17:Nat) (H12:zd)=>Br (flt .f64 (fmul .f64 4576918229304087675 (fadd .f64 4607182418800017408 (fmul .f64 (zh x3) (zh x4)))) r17) (K (.bool false) H12) (zlh a2 r9 r10 H12 fun (r18:Nat) (H13:zd)=>z8o (fadd .f64 r18 (fmul .f64 (zh x3) (zh x4))) r15 H13 fun (r19:Nat) (H14:zd)=>Br (flt .f64 (fmul .f64 4576918229304087675 (fadd .f64 4607182418800017408 r15)) r19) (K (.bool false) H14) (zer rb qb tb 2 4 H14 fun (r20:Int) (H15:zd)=>zo6 a1 r3 r4 (some ⟨b1,0,none⟩) 2 1 r20 H15 fun (a4:OA) (r21:Nat) (r22:Nat) (a5:OA) (r23:Nat) (r24:Nat) (r25:Bool) (H16:zd)=>zyh (IntKind.wrap .i64 (2+r2)) a4 r21 r22 H16 fun (a6:OA) (r26:Nat) (r27:Nat) (r28:Bool) (H17:zd)=>Br (!r25) (K (.bool false) H17) (Br (!r28) (K (.bool false) H17) (Br (((r21:Int):Int) != r20) (K (.bool false) H17) (Br (((r23:Int):Int) != (r3:Int)) (K (.bool false) H17) (Br (((r26:Int):Int) != (r3:Int)) (K (.bool false) H17) (z1b (exL Try.prog E_laws_FnAtoms (cl (cl (cr (cl (cr (cr (cr (cr (cr (cr (cr (cr (cr (cr (cr (cr (cr (cr (cr (zg Try.f13)))))))))))))))))))) 8769009823985417509222108996297698117935596028224 16 [(0,246080)]) (ud6 (.slice a1 r3 r4::ud::.pointer (some ⟨b2,0,none⟩)::ud5 (.float .f64 r15::.int .i64 r20::.slice a4 r21 r22::.slice a5 r23 r24::ud::.slice a6 r26 r27::ud141 (.int .i64 (r3:Int)::.int .i64 0::ud97 [])))) H17 (zn 0 (seqQ (exL Try.prog E_laws_FnAtoms (cr (cr (cr (cr (cr (cr (cr (cr (cr (cr (cr (cr (cr (cr (cr (cr (zg Try.f13))))))))))))))))) 16 16 []) (retK Try.prog Try.f13 K)))))))))))))))))):=by kernel_rfl
abbrev laws_FnAtoms_P1 (a1 a4 a5 a6:OA) (b2 r15:Nat) (r20:Int) (r21 r22 r23 r24 r26 r27 r3 r4:Nat) (t162:Int)  :List Value:=(ud6 (.slice a1 r3 r4::ud::.pointer (some ⟨b2,0,none⟩)::ud5 (.float .f64 r15::.int .i64 r20::.slice a4 r21 r22::.slice a5 r23 r24::ud::.slice a6 r26 r27::ud141 (.int .i64 (r3:Int)::.int .i64 t162::ud97 []))))
theorem laws_FnAtoms_r1 (a1 a4 a5 a6:OA) (b2 r15:Nat) (r20:Int) (r21 r22 r23 r24 r26 r27 r3 r4:Nat) (t162:Int)  (H:zd) (R:Post):exL Try.prog E_laws_FnAtoms (cl (cl (cr (cl (cr (cr (cr (cr (cr (cr (cr (cr (cr (cr (cr (cr (cr (cr (cr (zg Try.f13)))))))))))))))))))) 8769009823985417509222108996297698117935596028224 16 [(0,246080)] (laws_FnAtoms_P1 a1 a4 a5 a6 b2 r15 r20 r21 r22 r23 r24 r26 r27 r3 r4 t162) H R=
 (Br (decide ((t162:Int)<(r3:Int))) ((0:Int)≤t162∧t162<(r26:Int)∧∃b3 f1,(a6:OA)=some ⟨b3,f1,none⟩∧∃x5:Nat,  rdC H b3 (f1+(t162:Int).toNat*1)=some (.float .f32 x5)∧(0:Int)≤t162∧t162<(r23:Int)∧∃b4 f2,(a5:OA)=some ⟨b4,f2,none⟩∧∃x6:Nat,  rdC H b4 (f2+(t162:Int).toNat*1)=some (.float .f32 x6)∧(0:Int)≤t162∧t162<(r3:Int)∧∃b5 f3,(a1:OA)=some ⟨b5,f3,none⟩∧∃x7:Nat,  rdC H b5 (f3+(t162:Int).toNat*1)=some (.float .f32 x7)∧z8o (fadd .f64 (zh x5) (zh x6)) (zh x7) H fun (r29:Nat) (H18:zd)=>(0:Int)≤t162∧t162<(r3:Int)∧∃b6 f4,(a1:OA)=some ⟨b6,f4,none⟩∧∃x8:Nat,  rdC H18 b6 (f4+(t162:Int).toNat*1)=some (.float .f32 x8)∧z8o (zh x8) 0 H18 fun (r30:Nat) (H19:zd)=>Br (flt .f64 (fmul .f64 4562254508917369340 (fadd .f64 4607182418800017408 r30)) r29) (R .ret (ud4 (.bool false::ud255 [])) H19) (R .normal (ud6 (.slice a1 r3 r4::ud::.pointer (some ⟨b2,0,none⟩)::ud5 (.float .f64 r15::.int .i64 r20::.slice a4 r21 r22::.slice a5 r23 r24::ud::.slice a6 r26 r27::ud141 (.int .i64 (r3:Int)::.int .i64 (IntKind.wrap .i64 (t162+1))::ud97 [])))) H19)) (R (.exit 0) (ud6 (.slice a1 r3 r4::ud::.pointer (some ⟨b2,0,none⟩)::ud5 (.float .f64 r15::.int .i64 r20::.slice a4 r21 r22::.slice a5 r23 r24::ud242 []))) H)):=by kernel_rfl
def laws_FnAtoms_I1 (a1 a4 a5 a6:OA) (b2 r15:Nat) (r20:Int) (r21 r22 r23 r24 r26 r27 r3 r4:Nat) (Inv:Nat→Int→zd→Prop):Nat→List Value→zd→Prop:=fun μ tm H=>∃t162:Int,tm=(laws_FnAtoms_P1 a1 a4 a5 a6 b2 r15 r20 r21 r22 r23 r24 r26 r27 r3 r4 t162)∧Inv μ t162 H
theorem laws_FnAtoms_L1 (a1 a4 a5 a6:OA) (b2 r15:Nat) (r20:Int) (r21 r22 r23 r24 r26 r27 r3 r4:Nat) {Q:Post} (Inv:Nat→Int→zd→Prop) (ν:Nat) (t162:Int)  (H:zd) (h0:Inv ν t162 H)
  (hs:∀(μ:Nat) (t162:Int)  (H:zd),Inv μ t162 H→exL Try.prog E_laws_FnAtoms (cl (cl (cr (cl (cr (cr (cr (cr (cr (cr (cr (cr (cr (cr (cr (cr (cr (cr (cr (zg Try.f13)))))))))))))))))))) 8769009823985417509222108996297698117935596028224 16 [(0,246080)] (laws_FnAtoms_P1 a1 a4 a5 a6 b2 r15 r20 r21 r22 r23 r24 r26 r27 r3 r4 t162) H (zp (laws_FnAtoms_I1 a1 a4 a5 a6 b2 r15 r20 r21 r22 r23 r24 r26 r27 r3 r4 Inv) μ Q)):z1b (exL Try.prog E_laws_FnAtoms (cl (cl (cr (cl (cr (cr (cr (cr (cr (cr (cr (cr (cr (cr (cr (cr (cr (cr (cr (zg Try.f13)))))))))))))))))))) 8769009823985417509222108996297698117935596028224 16 [(0,246080)]) (laws_FnAtoms_P1 a1 a4 a5 a6 b2 r15 r20 r21 r22 r23 r24 r26 r27 r3 r4 t162) H Q:=
 ⟨laws_FnAtoms_I1 a1 a4 a5 a6 b2 r15 r20 r21 r22 r23 r24 r26 r27 r3 r4 Inv,ν,⟨t162,rfl,h0⟩,fun μ tm H h=>by obtain ⟨t162,rfl,hI⟩:=h;exact hs μ t162  H hI⟩
theorem laws_FnAtoms_n1 {a1 a4 a5 a6:OA} {b2 r15:Nat} {r20:Int} {r21 r22 r23 r24 r26 r27 r3 r4:Nat} {Q:Post} {Inv:Nat→Int→zd→Prop} {μ:Nat} (μ':Nat) {t162:Int}  {H:zd} (hm:μ'<μ) (hI:Inv μ' t162 H):zp (laws_FnAtoms_I1 a1 a4 a5 a6 b2 r15 r20 r21 r22 r23 r24 r26 r27 r3 r4 Inv) μ Q .normal (laws_FnAtoms_P1 a1 a4 a5 a6 b2 r15 r20 r21 r22 r23 r24 r26 r27 r3 r4 t162) H:=⟨μ',hm,t162,rfl,hI⟩
theorem laws_FnAtoms_x1_0 (a1 a4 a5:OA) (b2 r15:Nat) (r20:Int) (r21 r22 r23 r24 r3 r4:Nat) (H:zd) (K:KT)  {I:Nat→List Value→zd→Prop} {μ:Nat}:zp I μ (zn 0 (seqQ (exL Try.prog E_laws_FnAtoms (cr (cr (cr (cr (cr (cr (cr (cr (cr (cr (cr (cr (cr (cr (cr (cr (zg Try.f13))))))))))))))))) 16 16 []) (retK Try.prog Try.f13 K))) (.exit 0) (ud6 (.slice a1 r3 r4::ud::.pointer (some ⟨b2,0,none⟩)::ud5 (.float .f64 r15::.int .i64 r20::.slice a4 r21 r22::.slice a5 r23 r24::ud242 []))) H=
 (Br (decide ((0:Int)<r20)) (∃c4:Int,∃(c5 c6:Nat),  rdN H b2 0 3=some [.int .i64 c4,.float .f32 c5,.float .f32 c6]∧(0:Int)≤0∧0<(r21:Int)∧∃b7 f5,(a4:OA)=some ⟨b7,f5,none⟩∧∃c7:Int,∃(c8 c9:Nat),  rdN H b7 (f5+(0:Int).toNat*3) 3=some [.int .i64 c7,.float .f32 c8,.float .f32 c9]∧Br (!(true && ((c7:Int)==c4) && (feq .f32 c8 c5) && (feq .f32 c9 c6))) (K (.bool false) H) (zlh a5 r23 r24 H fun (r31:Nat) (H20:zd)=>Br (flt .f64 (fadd .f64 r15 4576918229304087675) r31) (K (.bool false) H20) (zj0 a1 r3 r4 a5 r23 r24 H20 fun (r32:Nat) (r33:Bool) (H21:zd)=>zj0 a5 r23 r24 a1 r3 r4 H21 fun (r34:Nat) (r35:Bool) (H22:zd)=>ztl a1 r3 r4 a5 r23 r24 H22 fun (r36:Nat) (r37:Bool) (H23:zd)=>ztn a1 r3 r4 a5 r23 r24 H23 fun (r38:Nat) (r39:Bool) (H24:zd)=>Br r33 (Br r35 (Br (r37==r39) (zr4 r32 r34 H24 fun (r40:Bool) (H25:zd)=>Br r40 (Br (fle .f32 0 r32) (Br (!r37) (K (.bool true) H25) (z8o (zh r36) 0 H25 fun (r41:Nat) (H26:zd)=>K (.bool (flt .f64 r41 4652007308841189376)) H26)) (K (.bool false) H25)) (K (.bool false) H25)) (K (.bool false) H24)) (K (.bool false) H24)) (K (.bool false) H24)))) (zj0 a1 r3 r4 a5 r23 r24 H fun (r42:Nat) (r43:Bool) (H27:zd)=>zj0 a5 r23 r24 a1 r3 r4 H27 fun (r44:Nat) (r45:Bool) (H28:zd)=>ztl a1 r3 r4 a5 r23 r24 H28 fun (r46:Nat) (r47:Bool) (H29:zd)=>ztn a1 r3 r4 a5 r23 r24 H29 fun (r48:Nat) (r49:Bool) (H30:zd)=>Br r43 (Br r45 (Br (r47==r49) (zr4 r42 r44 H30 fun (r50:Bool) (H31:zd)=>Br r50 (Br (fle .f32 0 r42) (Br (!r47) (K (.bool true) H31) (z8o (zh r46) 0 H31 fun (r51:Nat) (H32:zd)=>K (.bool (flt .f64 r51 4652007308841189376)) H32)) (K (.bool false) H31)) (K (.bool false) H31)) (K (.bool false) H30)) (K (.bool false) H30)) (K (.bool false) H30))):=by kernel_rfl
theorem laws_FnAtoms_x1_ret (t4:Bool) (H:zd) (K:KT)  {I:Nat→List Value→zd→Prop} {μ:Nat}:zp I μ (zn 0 (seqQ (exL Try.prog E_laws_FnAtoms (cr (cr (cr (cr (cr (cr (cr (cr (cr (cr (cr (cr (cr (cr (cr (cr (zg Try.f13))))))))))))))))) 16 16 []) (retK Try.prog Try.f13 K))) .ret (ud4 (.bool t4::ud255 [])) H=
 (K (.bool t4) H):=by kernel_rfl
theorem E_laws_FnAtoms_ok:∀g,FnOk Try.prog g (E_laws_FnAtoms g):=FnOk.envOf (by
 intro x hx
 simp only [List.mem_cons,List.not_mem_nil,or_false] at hx
 rcases hx with rfl | rfl | rfl | rfl | rfl | rfl | rfl | rfl | rfl | rfl | rfl | rfl | rfl
 ·exact z1ck
 ·exact z15f
 ·exact z1bc
 ·exact f7z_ok
 ·exact zvv
 ·exact z1a9
 ·exact z14z
 ·exact f15z_ok
 ·exact z1av
 ·exact f2z_ok
 ·exact f1z_ok
 ·exact f3z_ok
 ·exact z1ac)
theorem laws_FnAtoms_main (wa:OA) (ya kb:Nat) (rb:OA) (qb tb:Nat) (H:zd) (K:KT) (h:z8p wa ya kb rb qb tb H fun (r1:Bool) (H':zd)=>K (.bool r1) H'):zk Try.prog E_laws_FnAtoms Try.f13 [.slice wa ya kb,.slice rb qb tb] H K:=by
 rw [laws_FnAtoms_vc]
 obtain ⟨ja,da,h_0,h_1,hk⟩:=h
 have i_code:=h_0
 obtain rfl:=i_code.eqn
 have i_more:=h_1
 obtain rfl:=i_more.eqn
 have hl:=laws_FnAtoms_true ja da 
 have e:z5n ja da=_:=rfl
 have e:=e.trans (z6c ja da)
 have e:=hl.symm.trans e
 have g0:=Grow.refl H
 have sn:=atm_n da
 refine z14d ⟨_,_,(i_code.grow g0),(i_more.grow g0),?_⟩
 refine Br.intro (fun c_1=>?_) (fun c_1=>?_)
 ·have e:=e.trans (zj c_1)
  first | exact hk _ | (exfalso;cases e;done) | (rw [←e];exact hk _)
 ·have e:=e.trans (zi c_1)
  have c_1':=fzz_f c_1
  refine zfu ⟨_,(i_more.grow g0),ω0,ω16,ω16,?_⟩
  have z_2:=z7p da (0:Int) (8:Int) ω2 ω2
  refine z13v ⟨_,(i_code.grow g0),ω0,ω16,fun a_3 n_4 e_5 H_1 g8 r_6=>?_⟩
  have z7:=z15z ja (IntKind.wrap .i64 (2+((ze da (0:Int) (8:Int)))))
  have l_9:=g8.1
  have g10:=g0.trans g8
  have l11:=g10.1
  obtain rfl:=r_6.isL.eqn
  have u12:=r_6.up
  have u13:=r_6.lo
  refine zfu ⟨_,(i_more.grow g10),ω0,ω16,ω16,?_⟩
  have z15:=z7p da (1:Int) (5:Int) ω2 ω2
  refine Al.intro (fun b16 H_2 hb_17 hl_18 g19 o20=>?_)
  have o20:Own H_2 b16 (([1056964608,(fdiv .f32 (FloatKind.nearest .f32 (IntKind.wrap .i64 (2+((ze da (1:Int) (5:Int)))))) 1073741824)]).map fF):=o20
  have l22:=g19.1
  have g23:=g10.trans g19
  have l24:=g23.1
  have r_25:=r_6.grow g19
  have w283:=o20.lt
  refine zts ⟨_,_,r_25.isL,(o20.isL ω4),ω0,ω0,fun a26 n27 e28 H_3 g31 r_29=>?_⟩
  have z30:=f7z_len ((zm ja (IntKind.wrap .i64 (2+((ze da (0:Int) (8:Int))))))) ([1056964608,(fdiv .f32 (FloatKind.nearest .f32 (IntKind.wrap .i64 (2+((ze da (1:Int) (5:Int)))))) 1073741824)])
  have l_32:=g31.1
  have g33:=g23.trans g31
  have l34:=g33.1
  have o35:=o20.grow g31
  have w36:=o35.lt
  have r_37:=r_25.grow g31
  obtain rfl:=r_29.isL.eqn
  have u38:=r_29.up
  have u39:=r_29.lo
  refine Al.intro (fun b41 H_4 hb_42 hl_43 g44 o45=>?_)
  have l47:=g44.1
  have g48:=g33.trans g44
  have l49:=g48.1
  have o50:=o35.grow g44
  have w51:=o50.lt
  have r52:=r_37.grow g44
  have r53:=r_29.grow g44
  have w282:=o45.lt
  refine Lt.setN (n:=3) o45 (nbl rfl) rfl (fun H_5 hl_54 o56 k55=>?_)
  have o56:Own H_5 b41 [.int .i64 ((zt ((zm ja (IntKind.wrap .i64 (2+((ze da (0:Int) (8:Int))))))) ([1056964608,(fdiv .f32 (FloatKind.nearest .f32 (IntKind.wrap .i64 (2+((ze da (1:Int) (5:Int)))))) 1073741824)])).1),.float .f32 ((zt ((zm ja (IntKind.wrap .i64 (2+((ze da (0:Int) (8:Int))))))) ([1056964608,(fdiv .f32 (FloatKind.nearest .f32 (IntKind.wrap .i64 (2+((ze da (1:Int) (5:Int)))))) 1073741824)])).2.1),.float .f32 ((zt ((zm ja (IntKind.wrap .i64 (2+((ze da (0:Int) (8:Int))))))) ([1056964608,(fdiv .f32 (FloatKind.nearest .f32 (IntKind.wrap .i64 (2+((ze da (1:Int) (5:Int)))))) 1073741824)])).2.2.1)]:=o56
  have l57:=k55.1
  have g58:=g48.keep (b:=b41) ω2 k55
  have l59:=g58.1
  have o60:=o50.keep ω2 k55
  have w61:=o60.lt
  have r62:=r52.keep u12 ω2 k55
  have r63:=r53.keep u38 ω2 k55
  have w281:=o56.lt
  refine ⟨(zt ((zm ja (IntKind.wrap .i64 (2+((ze da (0:Int) (8:Int))))))) ([1056964608,(fdiv .f32 (FloatKind.nearest .f32 (IntKind.wrap .i64 (2+((ze da (1:Int) (5:Int)))))) 1073741824)])).1,(zt ((zm ja (IntKind.wrap .i64 (2+((ze da (0:Int) (8:Int))))))) ([1056964608,(fdiv .f32 (FloatKind.nearest .f32 (IntKind.wrap .i64 (2+((ze da (1:Int) (5:Int)))))) 1073741824)])).2.1,(zt ((zm ja (IntKind.wrap .i64 (2+((ze da (0:Int) (8:Int))))))) ([1056964608,(fdiv .f32 (FloatKind.nearest .f32 (IntKind.wrap .i64 (2+((ze da (1:Int) (5:Int)))))) 1073741824)])).2.2.1,(o56.rdN (nbl rfl)).trans rfl,?_⟩
  refine zlk (fun a64 n65 e66 H_6 g69 r67=>?_)
  have z68:=zm6 (IntKind.wrap .i64 (2+((ze da (0:Int) (8:Int))))) ((zt ((zm ja (IntKind.wrap .i64 (2+((ze da (0:Int) (8:Int))))))) ([1056964608,(fdiv .f32 (FloatKind.nearest .f32 (IntKind.wrap .i64 (2+((ze da (1:Int) (5:Int)))))) 1073741824)])).1) ((zt ((zm ja (IntKind.wrap .i64 (2+((ze da (0:Int) (8:Int))))))) ([1056964608,(fdiv .f32 (FloatKind.nearest .f32 (IntKind.wrap .i64 (2+((ze da (1:Int) (5:Int)))))) 1073741824)])).2.1) ((zt ((zm ja (IntKind.wrap .i64 (2+((ze da (0:Int) (8:Int))))))) ([1056964608,(fdiv .f32 (FloatKind.nearest .f32 (IntKind.wrap .i64 (2+((ze da (1:Int) (5:Int)))))) 1073741824)])).2.2.1)
  have l70:=g69.1
  have g71:=g58.trans g69
  have l72:=g71.1
  have o73:=o60.grow g69
  have w74:=o73.lt
  have o75:=o56.grow g69
  have w76:=o75.lt
  have r77:=r62.grow g69
  have r78:=r63.grow g69
  obtain rfl:=r67.isL.eqn
  have u79:=r67.up
  have u80:=r67.lo
  refine Br.intro (fun c82=>?_) (fun c82=>?_)
  ·have e:=e.trans (zj c82)
   have c_82n:=zv c82
   first | exact hk _ | (exfalso;cases e;done) | (rw [←e];exact hk _)
  ·have e:=e.trans (zi c82)
   have c_82n:=zr c82
   refine Br.intro (fun c83=>?_) (fun c83=>?_)
   ·have e:=e.trans (zj c83)
    have c_83n:=zv c83
    first | exact hk _ | (exfalso;cases e;done) | (rw [←e];exact hk _)
   ·have e:=e.trans (zi c83)
    have c_83n:=zr c83
    refine Br.intro (fun c84=>?_) (fun c84=>?_)
    ·have e:=e.trans (zj c84)
     have c_84':=zmf c84
     first | exact hk _ | (exfalso;cases e;done) | (rw [←e];exact hk _)
    ·have e:=e.trans (zi c84)
     have c_84':=zme c84
     refine Br.intro (fun c85=>?_) (fun c85=>?_)
     ·have e:=e.trans (zj c85)
      have c_85':=zmf c85
      first | exact hk _ | (exfalso;cases e;done) | (rw [←e];exact hk _)
     ·have e:=e.trans (zi c85)
      have c_85':=zme c85
      refine ⟨(zt ((zm ja (IntKind.wrap .i64 (2+((ze da (0:Int) (8:Int))))))) ([1056964608,(fdiv .f32 (FloatKind.nearest .f32 (IntKind.wrap .i64 (2+((ze da (1:Int) (5:Int)))))) 1073741824)])).1,(o75.rdC _).trans rfl,?_⟩
      refine Br.intro (fun c86=>?_) (fun c86=>?_)
      ·have e:=e.trans (zj c86)
       have c_86':=odt c86
       first | exact hk _ | (exfalso;cases e;done) | (rw [←e];exact hk _)
      ·have e:=e.trans (zi c86)
       have c_86':=odf c86
       refine ⟨(zt ((zm ja (IntKind.wrap .i64 (2+((ze da (0:Int) (8:Int))))))) ([1056964608,(fdiv .f32 (FloatKind.nearest .f32 (IntKind.wrap .i64 (2+((ze da (1:Int) (5:Int)))))) 1073741824)])).1,(o75.rdC _).trans rfl,?_⟩
       refine Br.intro (fun c87=>?_) (fun c87=>?_)
       ·have e:=e.trans (zj c87)
        have c_87':=odt c87
        first | exact hk _ | (exfalso;cases e;done) | (rw [←e];exact hk _)
       ·have e:=e.trans (zi c87)
        have c_87':=odf c87
        refine ⟨(zt ((zm ja (IntKind.wrap .i64 (2+((ze da (0:Int) (8:Int))))))) ([1056964608,(fdiv .f32 (FloatKind.nearest .f32 (IntKind.wrap .i64 (2+((ze da (1:Int) (5:Int)))))) 1073741824)])).2.2.1,(o75.rdC _).trans rfl,?_⟩
        refine ⟨(zt ((zm ja (IntKind.wrap .i64 (2+((ze da (0:Int) (8:Int))))))) ([1056964608,(fdiv .f32 (FloatKind.nearest .f32 (IntKind.wrap .i64 (2+((ze da (1:Int) (5:Int)))))) 1073741824)])).2.2.1,(o75.rdC _).trans rfl,?_⟩
        refine zfw ⟨_,r77.isL,ω0,?_⟩
        refine zfw ⟨_,r67.isL,ω0,?_⟩
        refine z7n ?_
        refine Br.intro (fun c88=>?_) (fun c88=>?_)
        ·have e:=e.trans (zj c88)
         first | exact hk _ | (exfalso;cases e;done) | (rw [←e];exact hk _)
        ·have e:=e.trans (zi c88)
         refine zfw ⟨_,r78.isL,ω0,?_⟩
         refine z7n ?_
         refine Br.intro (fun c89=>?_) (fun c89=>?_)
         ·have e:=e.trans (zj c89)
          first | exact hk _ | (exfalso;cases e;done) | (rw [←e];exact hk _)
         ·have e:=e.trans (zi c89)
          refine zfu ⟨_,(i_more.grow g71),ω0,ω16,ω16,?_⟩
          have z90:=z7p da (2:Int) (4:Int) ω2 ω2
          refine zy3 ⟨_,_,r77.isL,(o73.isL ω4),ω0,ω0,fun a91 n92 e93 a95 n96 e97 H_7 g100 r94 r98 p117=>?_⟩
          have z99:=f15z_len ((zm ja (IntKind.wrap .i64 (2+((ze da (0:Int) (8:Int))))))) ([1056964608,(fdiv .f32 (FloatKind.nearest .f32 (IntKind.wrap .i64 (2+((ze da (1:Int) (5:Int)))))) 1073741824)]) ((ze da (2:Int) (4:Int)))
          have l101:=g100.1
          have g102:=g71.trans g100
          have l103:=g102.1
          have o104:=o73.grow g100
          have w105:=o104.lt
          have o106:=o75.grow g100
          have w107:=o106.lt
          have r108:=r77.grow g100
          have r109:=r78.grow g100
          have r110:=r67.grow g100
          obtain rfl:=r94.isL.eqn
          have u111:=r94.up
          have u112:=r94.lo
          obtain rfl:=r98.isL.eqn
          have u114:=r98.up
          have u115:=r98.lo
          refine z13t ⟨_,r94.isL,ω17,fun a118 n119 e120 H_8 g123 r121=>?_⟩
          have z122:=z15y (IntKind.wrap .i64 (2+((ze da (0:Int) (8:Int))))) ((zw ((zm ja (IntKind.wrap .i64 (2+((ze da (0:Int) (8:Int))))))) ([1056964608,(fdiv .f32 (FloatKind.nearest .f32 (IntKind.wrap .i64 (2+((ze da (1:Int) (5:Int)))))) 1073741824)]) ((ze da (2:Int) (4:Int)))).1)
          have l124:=g123.1
          have g125:=g102.trans g123
          have l126:=g125.1
          have o127:=o104.grow g123
          have w128:=o127.lt
          have o129:=o106.grow g123
          have w130:=o129.lt
          have r131:=r108.grow g123
          have r132:=r109.grow g123
          have r133:=r110.grow g123
          have r134:=r94.grow g123
          have r135:=r98.grow g123
          obtain rfl:=r121.isL.eqn
          have u136:=r121.up
          have u137:=r121.lo
          refine Br.intro (fun c139=>?_) (fun c139=>?_)
          ·have e:=e.trans (zj c139)
           have c_139n:=zv c139
           first | exact hk _ | (exfalso;cases e;done) | (rw [←e];exact hk _)
          ·have e:=e.trans (zi c139)
           have c_139n:=zr c139
           refine Br.intro (fun c140=>?_) (fun c140=>?_)
           ·have e:=e.trans (zj c140)
            have c_140n:=zv c140
            first | exact hk _ | (exfalso;cases e;done) | (rw [←e];exact hk _)
           ·have e:=e.trans (zi c140)
            have c_140n:=zr c140
            refine Br.intro (fun c141=>?_) (fun c141=>?_)
            ·have e:=e.trans (zj c141)
             have c_141':=zmf c141
             first | exact hk _ | (exfalso;cases e;done) | (rw [←e];exact hk _)
            ·have e:=e.trans (zi c141)
             have c_141':=zme c141
             refine Br.intro (fun c142=>?_) (fun c142=>?_)
             ·have e:=e.trans (zj c142)
              have c_142':=zmf c142
              first | exact hk _ | (exfalso;cases e;done) | (rw [←e];exact hk _)
             ·have e:=e.trans (zi c142)
              have c_142':=zme c142
              refine Br.intro (fun c143=>?_) (fun c143=>?_)
              ·have e:=e.trans (zj c143)
               have c_143':=zmf c143
               first | exact hk _ | (exfalso;cases e;done) | (rw [←e];exact hk _)
              ·have e:=e.trans (zi c143)
               have c_143':=zme c143
               refine laws_FnAtoms_L1 _ _ _ _ _ _ _ _ _ _ _ _ _ _ _ (fun (μ:Nat) (t162:Int) (H_9:zd)=>∃t4:Bool,Own H_9 b16 (([1056964608,(fdiv .f32 (FloatKind.nearest .f32 (IntKind.wrap .i64 (2+((ze da (1:Int) (5:Int)))))) 1073741824)]).map fF)∧Own H_9 b41 ([.int .i64 ((zt ((zm ja (IntKind.wrap .i64 (2+((ze da (0:Int) (8:Int))))))) ([1056964608,(fdiv .f32 (FloatKind.nearest .f32 (IntKind.wrap .i64 (2+((ze da (1:Int) (5:Int)))))) 1073741824)])).1),.float .f32 ((zt ((zm ja (IntKind.wrap .i64 (2+((ze da (0:Int) (8:Int))))))) ([1056964608,(fdiv .f32 (FloatKind.nearest .f32 (IntKind.wrap .i64 (2+((ze da (1:Int) (5:Int)))))) 1073741824)])).2.1),.float .f32 ((zt ((zm ja (IntKind.wrap .i64 (2+((ze da (0:Int) (8:Int))))))) ([1056964608,(fdiv .f32 (FloatKind.nearest .f32 (IntKind.wrap .i64 (2+((ze da (1:Int) (5:Int)))))) 1073741824)])).2.2.1)])∧OwnS fF H_9 H.length a_3 (((zm ja (IntKind.wrap .i64 (2+((ze da (0:Int) (8:Int))))))).length) e_5 ((zm ja (IntKind.wrap .i64 (2+((ze da (0:Int) (8:Int)))))))∧OwnS fF H_9 H_2.length a26 (((zt ((zm ja (IntKind.wrap .i64 (2+((ze da (0:Int) (8:Int))))))) ([1056964608,(fdiv .f32 (FloatKind.nearest .f32 (IntKind.wrap .i64 (2+((ze da (1:Int) (5:Int)))))) 1073741824)])).2.2.2.1).length) e28 ((zt ((zm ja (IntKind.wrap .i64 (2+((ze da (0:Int) (8:Int))))))) ([1056964608,(fdiv .f32 (FloatKind.nearest .f32 (IntKind.wrap .i64 (2+((ze da (1:Int) (5:Int)))))) 1073741824)])).2.2.2.1)∧OwnS fF H_9 H_5.length a64 (((z1s (IntKind.wrap .i64 (2+((ze da (0:Int) (8:Int))))) ((zt ((zm ja (IntKind.wrap .i64 (2+((ze da (0:Int) (8:Int))))))) ([1056964608,(fdiv .f32 (FloatKind.nearest .f32 (IntKind.wrap .i64 (2+((ze da (1:Int) (5:Int)))))) 1073741824)])).1) ((zt ((zm ja (IntKind.wrap .i64 (2+((ze da (0:Int) (8:Int))))))) ([1056964608,(fdiv .f32 (FloatKind.nearest .f32 (IntKind.wrap .i64 (2+((ze da (1:Int) (5:Int)))))) 1073741824)])).2.1) ((zt ((zm ja (IntKind.wrap .i64 (2+((ze da (0:Int) (8:Int))))))) ([1056964608,(fdiv .f32 (FloatKind.nearest .f32 (IntKind.wrap .i64 (2+((ze da (1:Int) (5:Int)))))) 1073741824)])).2.2.1)).1).length) e66 ((z1s (IntKind.wrap .i64 (2+((ze da (0:Int) (8:Int))))) ((zt ((zm ja (IntKind.wrap .i64 (2+((ze da (0:Int) (8:Int))))))) ([1056964608,(fdiv .f32 (FloatKind.nearest .f32 (IntKind.wrap .i64 (2+((ze da (1:Int) (5:Int)))))) 1073741824)])).1) ((zt ((zm ja (IntKind.wrap .i64 (2+((ze da (0:Int) (8:Int))))))) ([1056964608,(fdiv .f32 (FloatKind.nearest .f32 (IntKind.wrap .i64 (2+((ze da (1:Int) (5:Int)))))) 1073741824)])).2.1) ((zt ((zm ja (IntKind.wrap .i64 (2+((ze da (0:Int) (8:Int))))))) ([1056964608,(fdiv .f32 (FloatKind.nearest .f32 (IntKind.wrap .i64 (2+((ze da (1:Int) (5:Int)))))) 1073741824)])).2.2.1)).1)∧OwnT fA H_9 H_6.length a91 (((zw ((zm ja (IntKind.wrap .i64 (2+((ze da (0:Int) (8:Int))))))) ([1056964608,(fdiv .f32 (FloatKind.nearest .f32 (IntKind.wrap .i64 (2+((ze da (1:Int) (5:Int)))))) 1073741824)]) ((ze da (2:Int) (4:Int)))).1).length) e93 ((zw ((zm ja (IntKind.wrap .i64 (2+((ze da (0:Int) (8:Int))))))) ([1056964608,(fdiv .f32 (FloatKind.nearest .f32 (IntKind.wrap .i64 (2+((ze da (1:Int) (5:Int)))))) 1073741824)]) ((ze da (2:Int) (4:Int)))).1)∧OwnS fF H_9 H_6.length a95 (((zw ((zm ja (IntKind.wrap .i64 (2+((ze da (0:Int) (8:Int))))))) ([1056964608,(fdiv .f32 (FloatKind.nearest .f32 (IntKind.wrap .i64 (2+((ze da (1:Int) (5:Int)))))) 1073741824)]) ((ze da (2:Int) (4:Int)))).2.1).length) e97 ((zw ((zm ja (IntKind.wrap .i64 (2+((ze da (0:Int) (8:Int))))))) ([1056964608,(fdiv .f32 (FloatKind.nearest .f32 (IntKind.wrap .i64 (2+((ze da (1:Int) (5:Int)))))) 1073741824)]) ((ze da (2:Int) (4:Int)))).2.1)∧OwnS fF H_9 H_7.length a118 (((z6b (IntKind.wrap .i64 (2+((ze da (0:Int) (8:Int))))) ((zw ((zm ja (IntKind.wrap .i64 (2+((ze da (0:Int) (8:Int))))))) ([1056964608,(fdiv .f32 (FloatKind.nearest .f32 (IntKind.wrap .i64 (2+((ze da (1:Int) (5:Int)))))) 1073741824)]) ((ze da (2:Int) (4:Int)))).1)).1).length) e120 ((z6b (IntKind.wrap .i64 (2+((ze da (0:Int) (8:Int))))) ((zw ((zm ja (IntKind.wrap .i64 (2+((ze da (0:Int) (8:Int))))))) ([1056964608,(fdiv .f32 (FloatKind.nearest .f32 (IntKind.wrap .i64 (2+((ze da (1:Int) (5:Int)))))) 1073741824)]) ((ze da (2:Int) (4:Int)))).1)).1)∧(b41≠b16)∧H_1.length≤H_9.length∧H_3.length≤H_9.length∧H_6.length≤H_9.length∧H_7.length≤H_9.length∧H_7.length≤H_9.length∧H_8.length≤H_9.length∧Grow H H_9∧(0:Int)≤t162∧t162≤(((zm ja (IntKind.wrap .i64 (2+((ze da (0:Int) (8:Int))))))).length:Int)∧(((zm ja (IntKind.wrap .i64 (2+((ze da (0:Int) (8:Int))))))).length:Int)-t162≤(μ:Int)∧true=z1u ja da (μ+1) t4 t162) (Int.toNat ((((zm ja (IntKind.wrap .i64 (2+((ze da (0:Int) (8:Int))))))).length:Int)-(0:Int))) _ H_8 ?_ ?_
               ·exact ⟨_,o127,o129,r131,r132,r133,r134,r135,r121,ω2,ω2,ω2,ω2,ω2,ω2,ω2,g125,ω3,ω3,ω2,e⟩
               ·intro μ t162  H_9 hI
                obtain ⟨t4,o144,o145,r146,r147,r148,r149,r150,r151,n152,n153,n154,n155,n156,n157,n158,g159,v160,v161,hμ,e⟩:=hI
                rw [laws_FnAtoms_r1]
                have e:=e.trans (z4r ja da μ t4 t162)
                have w162:=o144.lt
                have w163:=o145.lt
                have l164:=g159.1
                refine Br.intro (fun c165=>?_) (fun c165=>?_)
                ·have e:=e.trans (zj c165)
                 have c_165':=odt c165
                 obtain ⟨b166,f_167,q168⟩:=(r151.isL).pos ω0
                 refine ⟨by omega,by omega,b166,f_167,q168,?_⟩
                 refine ⟨(((z6b (IntKind.wrap .i64 (2+((ze da (0:Int) (8:Int))))) ((zw ((zm ja (IntKind.wrap .i64 (2+((ze da (0:Int) (8:Int))))))) ([1056964608,(fdiv .f32 (FloatKind.nearest .f32 (IntKind.wrap .i64 (2+((ze da (1:Int) (5:Int)))))) 1073741824)]) ((ze da (2:Int) (4:Int)))).1)).1).getD (t162:Int).toNat 0),(r151.isL).rd (Grow.refl _) q168 ω2 _,?_⟩
                 obtain ⟨b169,f170,q171⟩:=(r150.isL).pos ω0
                 refine ⟨by omega,by omega,b169,f170,q171,?_⟩
                 refine ⟨(((zw ((zm ja (IntKind.wrap .i64 (2+((ze da (0:Int) (8:Int))))))) ([1056964608,(fdiv .f32 (FloatKind.nearest .f32 (IntKind.wrap .i64 (2+((ze da (1:Int) (5:Int)))))) 1073741824)]) ((ze da (2:Int) (4:Int)))).2.1).getD (t162:Int).toNat 0),(r150.isL).rd (Grow.refl _) q171 ω2 _,?_⟩
                 obtain ⟨b172,f173,q174⟩:=(r146.isL).pos ω0
                 refine ⟨by omega,by omega,b172,f173,q174,?_⟩
                 refine ⟨(((zm ja (IntKind.wrap .i64 (2+((ze da (0:Int) (8:Int))))))).getD (t162:Int).toNat 0),(r146.isL).rd (Grow.refl _) q174 ω2 _,?_⟩
                 refine z7n ?_
                 obtain ⟨b175,f176,q177⟩:=(r146.isL).pos ω0
                 refine ⟨by omega,by omega,b175,f176,q177,?_⟩
                 refine ⟨(((zm ja (IntKind.wrap .i64 (2+((ze da (0:Int) (8:Int))))))).getD (t162:Int).toNat 0),(r146.isL).rd (Grow.refl _) q177 ω2 _,?_⟩
                 refine z7n ?_
                 refine Br.intro (fun c178=>?_) (fun c178=>?_)
                 ·have e:=e.trans (zj c178)
                  rw [laws_FnAtoms_x1_ret]
                  first | exact hk _ | (exfalso;cases e;done) | (rw [←e];exact hk _)
                 ·have e:=e.trans (zi c178)
                  rw [show IntKind.wrap .i64 (t162+1)=(t162+1) from zy ω2 ω2]
                  refine laws_FnAtoms_n1 (μ-1) ω18 ⟨_,o144,o145,r146,r147,r148,r149,r150,r151,ω2,ω2,ω2,ω2,ω2,ω2,ω2,g159,ω1,ω1,ω18,ω19⟩
                ·have e:=e.trans (zi c165)
                 have c_165':=odf c165
                 rw [laws_FnAtoms_x1_0]
                 refine Br.intro (fun c179=>?_) (fun c179=>?_)
                 ·have e:=e.trans (zj c179)
                  have c_179':=odt c179
                  refine ⟨(zt ((zm ja (IntKind.wrap .i64 (2+((ze da (0:Int) (8:Int))))))) ([1056964608,(fdiv .f32 (FloatKind.nearest .f32 (IntKind.wrap .i64 (2+((ze da (1:Int) (5:Int)))))) 1073741824)])).1,(zt ((zm ja (IntKind.wrap .i64 (2+((ze da (0:Int) (8:Int))))))) ([1056964608,(fdiv .f32 (FloatKind.nearest .f32 (IntKind.wrap .i64 (2+((ze da (1:Int) (5:Int)))))) 1073741824)])).2.1,(zt ((zm ja (IntKind.wrap .i64 (2+((ze da (0:Int) (8:Int))))))) ([1056964608,(fdiv .f32 (FloatKind.nearest .f32 (IntKind.wrap .i64 (2+((ze da (1:Int) (5:Int)))))) 1073741824)])).2.2.1,(o145.rdN (nbl rfl)).trans rfl,?_⟩
                  obtain ⟨b180,f_181,q182⟩:=(r149.isL).pos ω17
                  refine ⟨by omega,by omega,b180,f_181,q182,?_⟩
                  refine ⟨((((zw ((zm ja (IntKind.wrap .i64 (2+((ze da (0:Int) (8:Int))))))) ([1056964608,(fdiv .f32 (FloatKind.nearest .f32 (IntKind.wrap .i64 (2+((ze da (1:Int) (5:Int)))))) 1073741824)]) ((ze da (2:Int) (4:Int)))).1).getD (0:Int).toNat (0,0,0))).1,((((zw ((zm ja (IntKind.wrap .i64 (2+((ze da (0:Int) (8:Int))))))) ([1056964608,(fdiv .f32 (FloatKind.nearest .f32 (IntKind.wrap .i64 (2+((ze da (1:Int) (5:Int)))))) 1073741824)]) ((ze da (2:Int) (4:Int)))).1).getD (0:Int).toNat (0,0,0))).2.1,((((zw ((zm ja (IntKind.wrap .i64 (2+((ze da (0:Int) (8:Int))))))) ([1056964608,(fdiv .f32 (FloatKind.nearest .f32 (IntKind.wrap .i64 (2+((ze da (1:Int) (5:Int)))))) 1073741824)]) ((ze da (2:Int) (4:Int)))).1).getD (0:Int).toNat (0,0,0))).2.2,(r149.isL).rdN (Grow.refl _) q182 ω2 _,?_⟩
                  refine Br.intro (fun c183=>?_) (fun c183=>?_)
                  ·have e:=e.trans (zj c183)
                   have c_183n:=zv c183
                   first | exact hk _ | (exfalso;cases e;done) | (rw [←e];exact hk _)
                  ·have e:=e.trans (zi c183)
                   have c_183n:=zr c183
                   refine zfw ⟨_,r150.isL,ω0,?_⟩
                   refine Br.intro (fun c184=>?_) (fun c184=>?_)
                   ·have e:=e.trans (zj c184)
                    first | exact hk _ | (exfalso;cases e;done) | (rw [←e];exact hk _)
                   ·have e:=e.trans (zi c184)
                    refine zc7 ⟨_,_,r146.isL,r150.isL,ω0,ω0,fun  H_10 g185  =>?_⟩
                    have l186:=g185.1
                    have g187:=g159.trans g185
                    have l188:=g187.1
                    have o189:=o144.grow g185
                    have w190:=o189.lt
                    have o191:=o145.grow g185
                    have w192:=o191.lt
                    have r193:=r146.grow g185
                    have r194:=r147.grow g185
                    have r195:=r148.grow g185
                    have r196:=r149.grow g185
                    have r197:=r150.grow g185
                    have r198:=r151.grow g185
                    refine zc7 ⟨_,_,r197.isL,r193.isL,ω0,ω0,fun  H_11 g199  =>?_⟩
                    have l200:=g199.1
                    have g201:=g187.trans g199
                    have l202:=g201.1
                    have o203:=o189.grow g199
                    have w204:=o203.lt
                    have o205:=o191.grow g199
                    have w206:=o205.lt
                    have r207:=r193.grow g199
                    have r208:=r194.grow g199
                    have r209:=r195.grow g199
                    have r210:=r196.grow g199
                    have r211:=r197.grow g199
                    have r212:=r198.grow g199
                    refine ztm ⟨_,_,r207.isL,r211.isL,ω0,ω0,fun  H_12 g213  =>?_⟩
                    have l214:=g213.1
                    have g215:=g201.trans g213
                    have l216:=g215.1
                    have o217:=o203.grow g213
                    have w218:=o217.lt
                    have o219:=o205.grow g213
                    have w220:=o219.lt
                    have r221:=r207.grow g213
                    have r222:=r208.grow g213
                    have r223:=r209.grow g213
                    have r224:=r210.grow g213
                    have r225:=r211.grow g213
                    have r226:=r212.grow g213
                    refine zto ⟨_,_,r221.isL,r225.isL,ω0,ω0,?_⟩
                    refine Br.intro (fun c227=>?_) (fun c227=>?_)
                    ·have e:=e.trans (zj c227)
                     refine Br.intro (fun c228=>?_) (fun c228=>?_)
                     ·have e:=e.trans (zj c228)
                      refine Br.intro (fun c229=>?_) (fun c229=>?_)
                      ·have e:=e.trans (zj c229)
                       refine ztz ?_
                       refine Br.intro (fun c230=>?_) (fun c230=>?_)
                       ·have e:=e.trans (zj c230)
                        refine Br.intro (fun c231=>?_) (fun c231=>?_)
                        ·have e:=e.trans (zj c231)
                         refine Br.intro (fun c232=>?_) (fun c232=>?_)
                         ·have e:=e.trans (zj c232)
                          have c_232n:=zv c232
                          first | exact hk _ | (exfalso;cases e;done) | (rw [←e];exact hk _)
                         ·have e:=e.trans (zi c232)
                          have c_232n:=zr c232
                          refine z7n ?_
                          first | exact hk _ | (exfalso;cases e;done) | (rw [←e];exact hk _)
                        ·have e:=e.trans (zi c231)
                         first | exact hk _ | (exfalso;cases e;done) | (rw [←e];exact hk _)
                       ·have e:=e.trans (zi c230)
                        first | exact hk _ | (exfalso;cases e;done) | (rw [←e];exact hk _)
                      ·have e:=e.trans (zi c229)
                       first | exact hk _ | (exfalso;cases e;done) | (rw [←e];exact hk _)
                     ·have e:=e.trans (zi c228)
                      first | exact hk _ | (exfalso;cases e;done) | (rw [←e];exact hk _)
                    ·have e:=e.trans (zi c227)
                     first | exact hk _ | (exfalso;cases e;done) | (rw [←e];exact hk _)
                 ·have e:=e.trans (zi c179)
                  have c_179':=odf c179
                  refine zc7 ⟨_,_,r146.isL,r150.isL,ω0,ω0,fun  H_13 g233  =>?_⟩
                  have l234:=g233.1
                  have g235:=g159.trans g233
                  have l236:=g235.1
                  have o237:=o144.grow g233
                  have w238:=o237.lt
                  have o239:=o145.grow g233
                  have w240:=o239.lt
                  have r241:=r146.grow g233
                  have r242:=r147.grow g233
                  have r243:=r148.grow g233
                  have r244:=r149.grow g233
                  have r245:=r150.grow g233
                  have r246:=r151.grow g233
                  refine zc7 ⟨_,_,r245.isL,r241.isL,ω0,ω0,fun  H_14 g247  =>?_⟩
                  have l248:=g247.1
                  have g249:=g235.trans g247
                  have l250:=g249.1
                  have o251:=o237.grow g247
                  have w252:=o251.lt
                  have o253:=o239.grow g247
                  have w254:=o253.lt
                  have r255:=r241.grow g247
                  have r256:=r242.grow g247
                  have r257:=r243.grow g247
                  have r258:=r244.grow g247
                  have r259:=r245.grow g247
                  have r260:=r246.grow g247
                  refine ztm ⟨_,_,r255.isL,r259.isL,ω0,ω0,fun  H_15 g261  =>?_⟩
                  have l262:=g261.1
                  have g263:=g249.trans g261
                  have l264:=g263.1
                  have o265:=o251.grow g261
                  have w266:=o265.lt
                  have o267:=o253.grow g261
                  have w268:=o267.lt
                  have r269:=r255.grow g261
                  have r270:=r256.grow g261
                  have r271:=r257.grow g261
                  have r272:=r258.grow g261
                  have r273:=r259.grow g261
                  have r274:=r260.grow g261
                  refine zto ⟨_,_,r269.isL,r273.isL,ω0,ω0,?_⟩
                  refine Br.intro (fun c275=>?_) (fun c275=>?_)
                  ·have e:=e.trans (zj c275)
                   refine Br.intro (fun c276=>?_) (fun c276=>?_)
                   ·have e:=e.trans (zj c276)
                    refine Br.intro (fun c277=>?_) (fun c277=>?_)
                    ·have e:=e.trans (zj c277)
                     refine ztz ?_
                     refine Br.intro (fun c278=>?_) (fun c278=>?_)
                     ·have e:=e.trans (zj c278)
                      refine Br.intro (fun c279=>?_) (fun c279=>?_)
                      ·have e:=e.trans (zj c279)
                       refine Br.intro (fun c280=>?_) (fun c280=>?_)
                       ·have e:=e.trans (zj c280)
                        have c_280n:=zv c280
                        first | exact hk _ | (exfalso;cases e;done) | (rw [←e];exact hk _)
                       ·have e:=e.trans (zi c280)
                        have c_280n:=zr c280
                        refine z7n ?_
                        first | exact hk _ | (exfalso;cases e;done) | (rw [←e];exact hk _)
                      ·have e:=e.trans (zi c279)
                       first | exact hk _ | (exfalso;cases e;done) | (rw [←e];exact hk _)
                     ·have e:=e.trans (zi c278)
                      first | exact hk _ | (exfalso;cases e;done) | (rw [←e];exact hk _)
                    ·have e:=e.trans (zi c277)
                     first | exact hk _ | (exfalso;cases e;done) | (rw [←e];exact hk _)
                   ·have e:=e.trans (zi c276)
                    first | exact hk _ | (exfalso;cases e;done) | (rw [←e];exact hk _)
                  ·have e:=e.trans (zi c275)
                   first | exact hk _ | (exfalso;cases e;done) | (rw [←e];exact hk _)
theorem laws_FnAtoms_ok:FnOk Try.prog 13 z3p:=by
 refine FnOk.body mix_ok E_laws_FnAtoms_ok Try.func13 rfl ω5 ω5 ?_ ?_ ?_ ?_ ?_
 ·intro args H K K' h hk
  simp only [z3p] at *
  unfold z3o at *
  split at hk
  ·obtain ⟨ja,da,h_0,h_1,k⟩:=hk
   exact ⟨ja,da,h_0,h_1,(fun H'=>h _ _ (k H'))⟩
  ·exact hk.elim
 ·intro hq;cases hq
 ·intro args H K hk
  simp only [z3p] at *
  unfold z3o at *
  split at hk
  ·obtain ⟨ja,da,h_0,h_1,k⟩:=hk
   exact ⟨_,_,k []⟩
  ·exact hk.elim
 ·intro hq;cases hq
 ·have mm:=@laws_FnAtoms_main
  have ml:=fun (args:List Value) (H:zd) (K:KT)=>zf (P:=Try.prog) (env:=E_laws_FnAtoms) (fn:=Try.f13) (args:=args) (H:=H) (K:=K) E_laws_FnAtoms_ok 
  revert mm ml
  generalize z1a Try.prog E_laws_FnAtoms Try.f13=Q
  generalize zk Try.prog E_laws_FnAtoms Try.f13=QL
  intro mm ml args H K hk
  simp only [z3p] at *
  unfold z3o at *
  split at hk
  ·exact ml _ H K (mm _ _ _ _ _ _ H K hk)
  ·exact hk.elim
end Go.Proofs.Ytbnplefohfamnaa.Ai
