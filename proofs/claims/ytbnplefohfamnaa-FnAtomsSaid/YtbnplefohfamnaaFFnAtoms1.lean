/- What functions of the program come to on the abstract machine, and that they do so; printed by a program of mine around proofs of mine. -/
import Derived.Test.YtbnplefohfamnaaFFnAtoms0
set_option linter.unusedVariables false
set_option linter.unusedSimpArgs false
set_option linter.defProp false
set_option maxRecDepth 100000
set_option maxHeartbeats 1000000
namespace Go.Proofs.Ytbnplefohfamnaa.Ai
open Go
attribute [local irreducible] z1a zk

def z1s (count pb:Int) (ob sb:Nat):LN×Bool:=(bif !((z1n count (1:Int) (128:Int))) then ([],false) else (bif !((z1n pb (0:Int) (count-1))) then ([],false) else (bif !(z8l ob) then ([],false) else (bif !(zdq sb) then ([],false) else (bif (zs7 ((z2o ((z1j ob).1) ((z1j ob).2) count pb sb))).2 then ((z2o ((z1j ob).1) ((z1j ob).2) count pb sb),true) else ([],false))))))
def zbv:=@z1s.eq_1
def zlj (count pb:Int) (ob sb:Nat) (H:zd) (K:OA→Nat→Nat→Bool→zd→Prop):Prop:=((∀(za:OA) (db cb:Nat),∀H':zd,Grow H H'→OwnS fF H' H.length za db cb ((z1s count pb ob sb).1)→K za db cb ((z1s count pb ob sb).2) H'))
theorem zlk {count pb:Int} {ob sb:Nat} {H:zd} {K:OA→Nat→Nat→Bool→zd→Prop} (h:((∀(za:OA) (db cb:Nat),∀H':zd,Grow H H'→OwnS fF H' H.length za db cb ((z1s count pb ob sb).1)→K za db cb ((z1s count pb ob sb).2) H'))):zlj count pb ob sb H K:=h
theorem zh9 {n a b:Int} (h:z1n n a b=true):a≤n∧n≤b:=by
 unfold z1n at h
 simp at h;omega
theorem zm6 (c p:Int) (s z:Nat):(z1s c p s z).1.length≤1000:=by
 rw [zbv]
 refine cnb (P:=fun r:LN×Bool=>r.1.length≤1000) (fun h=>Nat.zero_le _) (fun hc=>?_)
 have hc:=zh9 (zr hc)
 refine cnb (P:=fun r:LN×Bool=>r.1.length≤1000) (fun h=>Nat.zero_le _) (fun h=>?_)
 refine cnb (P:=fun r:LN×Bool=>r.1.length≤1000) (fun h=>Nat.zero_le _) (fun h=>?_)
 refine cnb (P:=fun r:LN×Bool=>r.1.length≤1000) (fun h=>Nat.zero_le _) (fun h=>?_)
 refine cnb (P:=fun r:LN×Bool=>r.1.length≤1000) (fun h=>?_) (fun h=>Nat.zero_le _)
 exact Nat.le_trans (f16z_len _ _ _ _ _) ω2
theorem zom {c p:Int} {s z:Nat} (h:(z1s c p s z).2=true):(z1s c p s z).1.length=c.toNat:=by
 rw [zbv] at h ⊢
 revert h
 refine cnb (P:=fun r:LN×Bool=>r.2=true→r.1.length=c.toNat) (fun h=>fun h=>by cases h) (fun hc=>?_)
 refine cnb (P:=fun r:LN×Bool=>r.2=true→r.1.length=c.toNat) (fun h=>fun h=>by cases h) (fun hc=>?_)
 refine cnb (P:=fun r:LN×Bool=>r.2=true→r.1.length=c.toNat) (fun h=>fun h=>by cases h) (fun hc=>?_)
 refine cnb (P:=fun r:LN×Bool=>r.2=true→r.1.length=c.toNat) (fun h=>fun h=>by cases h) (fun hc=>?_)
 refine cnb (P:=fun r:LN×Bool=>r.2=true→r.1.length=c.toNat) (fun h=>fun _=>f16z_full _ _ _ _ _) (fun h=>fun h=>by cases h)
def zqd:Env:=envOf [(96,z8n),(163,ziq),(133,zft),(164,zld),(165,zc2),(109,zlc)]
def zt8:List Value→zd→(Value→zd→Prop)→Prop
 | [.int .i64 count,.agg ⟨[.int .i64 pb,.float .f32 ob,.float .f32 sb]⟩],H,K=>zlj count pb ob sb H fun (za:OA) (db:Nat) (cb:Nat) (r2:Bool) (H':zd)=>K (.tuple #[.slice za db cb,.bool r2]) H'
 | _,_,_=>False
def zio:FSpec:={F:=zt8,quiet:=false,tame:=true}
theorem z1bu (count pb:Int) (ob sb:Nat) (H:zd) (K:KT):zk Try.prog zqd Try.f85 [.int .i64 count,.agg #[.int .i64 pb,.float .f32 ob,.float .f32 sb]] H K=
 (Al [.int .i64 pb,.float .f32 ob,.float .f32 sb] H fun b1 H1=>z7a count 1 128 H1 fun (r1:Bool) (H2:zd)=>Br (!r1) (K (.tuple #[.slice none 0 0,.bool false]) H2) (∃x1:Int,  rdC H2 b1 0=some (.int .i64 x1)∧z7a x1 0 (IntKind.wrap .i64 (count-1)) H2 fun (r2:Bool) (H3:zd)=>Br (!r2) (K (.tuple #[.slice none 0 0,.bool false]) H3) (∃x2:Nat,  rdC H3 b1 1=some (.float .f32 x2)∧zlm x2 H3 fun (r3:Bool) (H4:zd)=>Br (!r3) (K (.tuple #[.slice none 0 0,.bool false]) H4) (∃x3:Nat,  rdC H4 b1 2=some (.float .f32 x3)∧zfy x3 H4 fun (r4:Bool) (H5:zd)=>Br (!r4) (K (.tuple #[.slice none 0 0,.bool false]) H5) (∃x4:Nat,  rdC H5 b1 1=some (.float .f32 x4)∧ztx x4 H5 fun (a1:OA) (r5:Nat) (r6:Nat) (r7:Int) (H6:zd)=>∃x5:Int,  rdC H6 b1 0=some (.int .i64 x5)∧∃x6:Nat,  rdC H6 b1 2=some (.float .f32 x6)∧zit a1 r5 r6 r7 count x5 x6 H6 fun (a2:OA) (r8:Nat) (r9:Nat) (H7:zd)=>ztu a2 r8 r9 H7 fun (a3:OA) (r10:Nat) (r11:Nat) (r12:Bool) (H8:zd)=>K (.tuple #[.slice a3 r10 r11,.bool r12]) H8))))):=by kernel_rfl
theorem zns:∀g,FnOk Try.prog g (zqd g):=FnOk.envOf (by
 intro x hx
 simp only [List.mem_cons,List.not_mem_nil,or_false] at hx
 rcases hx with rfl | rfl | rfl | rfl | rfl | rfl
 ·exact zcc
 ·exact zw5
 ·exact zon
 ·exact z12x
 ·exact f16z_ok
 ·exact f9z_ok)
theorem ω7 {P:Prop} (h:P:=by first | exact OwnS.nil _ _ _ _ | exact OwnT.nil _ _ _ | exact z3k.nil _ _ _ _):P:=h
theorem z10d (count pb:Int) (ob sb:Nat) (H:zd) (K:KT) (h:zlj count pb ob sb H fun (za:OA) (db:Nat) (cb:Nat) (r2:Bool) (H':zd)=>K (.tuple #[.slice za db cb,.bool r2]) H'):zk Try.prog zqd Try.f85 [.int .i64 count,.agg #[.int .i64 pb,.float .f32 ob,.float .f32 sb]] H K:=by
 rw [z1bu]
 have hk:=h
 unfold zlj at hk
 have e:(z1s count pb ob sb)=_:=rfl
 have e:=e.trans (zbv count pb ob sb)
 have g0:=Grow.refl H
 refine Al.intro (fun b_1 H_1 hb_2 hl_3 g_4 o5=>?_)
 have l_7:=g_4.1
 have g8:=g0.trans g_4
 have l_9:=g8.1
 have w56:=o5.lt
 refine z6f ?_
 refine Br.intro (fun c_10=>?_) (fun c_10=>?_)
 ·have e:=e.trans (zj c_10)
  have c_10n:=zv c_10
  rw [e] at hk
  exact hk _ _ _ H_1 g8 ω7
 ·have e:=e.trans (zi c_10)
  have c_10n:=zr c_10
  have c_10n':=zb3 c_10n
  refine ⟨pb,(o5.rdC _).trans rfl,?_⟩
  rw [show IntKind.wrap .i64 (count-1)=(count-1) from zy ω2 ω2]
  refine z6f ?_
  refine Br.intro (fun c_11=>?_) (fun c_11=>?_)
  ·have e:=e.trans (zj c_11)
   have c_11n:=zv c_11
   rw [e] at hk
   exact hk _ _ _ H_1 g8 ω7
  ·have e:=e.trans (zi c_11)
   have c_11n:=zr c_11
   have c_11n':=zb3 c_11n
   refine ⟨ob,(o5.rdC _).trans rfl,?_⟩
   refine zln ?_
   refine Br.intro (fun c_12=>?_) (fun c_12=>?_)
   ·have e:=e.trans (zj c_12)
    have c_12n:=zv c_12
    rw [e] at hk
    exact hk _ _ _ H_1 g8 ω7
   ·have e:=e.trans (zi c_12)
    have c_12n:=zr c_12
    refine ⟨sb,(o5.rdC _).trans rfl,?_⟩
    refine zll ?_
    refine Br.intro (fun c_13=>?_) (fun c_13=>?_)
    ·have e:=e.trans (zj c_13)
     have c_13n:=zv c_13
     rw [e] at hk
     exact hk _ _ _ H_1 g8 ω7
    ·have e:=e.trans (zi c_13)
     have c_13n:=zr c_13
     refine ⟨ob,(o5.rdC _).trans rfl,?_⟩
     refine zty ⟨ω16,fun a14 n15 e16 H_2 g19 r_17=>?_⟩
     have z18:=zvc ob (by first | assumption | omega)
     have l20:=g19.1
     have g21:=g8.trans g19
     have l22:=g21.1
     have o23:=o5.grow g19
     have w24:=o23.lt
     obtain rfl:=r_17.isL.eqn
     have u25:=r_17.up
     have u26:=r_17.lo
     refine ⟨pb,(o23.rdC _).trans rfl,?_⟩
     refine ⟨sb,(o23.rdC _).trans rfl,?_⟩
     refine zo7 ⟨_,r_17.isL,ω0,ω16,ω16,ω16,ω16,ω16,ω16,fun a28 n29 e30 H_3 g33 r_31=>?_⟩
     have z32:=f16z_full ((z1j ob).1) ((z1j ob).2) count pb sb
     have l34:=g33.1
     have g35:=g21.trans g33
     have l36:=g35.1
     have o37:=o23.grow g33
     have w38:=o37.lt
     have r_39:=r_17.grow g33
     obtain rfl:=r_31.isL.eqn
     have u40:=r_31.up
     have u41:=r_31.lo
     refine ztv ⟨_,r_31.isL,ω0,(fun H_4 g47=>?_)⟩
     have l49:=g47.1
     have g50:=g35.trans g47
     have l51:=g50.1
     have o52:=o37.grow g47
     have w53:=o52.lt
     have r54:=r_39.grow g47
     have r55:=r_31.grow g47
     refine Br.intro (fun c48=>?_) (fun c48=>?_)
     ·have e:=e.trans (zj c48)
      rw [e] at hk
      exact hk _ _ _ H_4 g50 (r55.weak ω2)
     ·have e:=e.trans (zi c48)
      rw [e] at hk
      exact hk _ _ _ H_4 g50 ω7
theorem zvv:FnOk Try.prog 85 zio:=by
 refine FnOk.body mix_ok zns Try.func85 rfl ω5 ω5 ?_ ?_ ?_ ?_ ?_
 ·intro args H K K' h hk
  simp only [zio] at *
  unfold zt8 at *
  split at hk
  ·have k:=hk
   exact fun za db cb H' gg ow0=>h _ _ (k za db cb H' gg ow0)
  ·exact hk.elim
 ·intro hq;cases hq
 ·intro args H K hk
  simp only [zio] at *
  unfold zt8 at *
  split at hk
  ·have k:=hk
   exact zk5 fun a n e H1 g o=>⟨_,_,k a n e H1 g o⟩
  ·exact hk.elim
 ·intro _ args H K hk
  simp only [zio] at *
  unfold zt8 at *
  split at hk
  ·have k:=hk
   exact fun za db cb H' gg ow0=>⟨gg,k za db cb H' gg ow0⟩
  ·exact hk.elim
 ·have mm:=@z10d
  have ml:=fun (args:List Value) (H:zd) (K:KT)=>zf (P:=Try.prog) (env:=zqd) (fn:=Try.f85) (args:=args) (H:=H) (K:=K) zns 
  revert mm ml
  generalize z1a Try.prog zqd Try.f85=Q
  generalize zk Try.prog zqd Try.f85=QL
  intro mm ml args H K hk
  simp only [zio] at *
  unfold zt8 at *
  split at hk
  ·exact ml _ H K (mm _ _ _ _ H K hk)
  ·exact hk.elim

def z7s (aa ia:LN) (t6 found:Bool) (t35 q1_1:Int) (q1_2 q1_3:Nat) (q1_4:Int) (q1_5 q1_6:Nat) (found_8:Bool) (t50 q2_1:Int) (q2_2 q2_3:Nat) (k3_4:Nat→Int→Int→Nat→Nat→(Int×Nat×Nat×LN×Bool)):Nat→Nat→Int→Int→Nat→Nat→Int×Nat×Nat×LN×Bool
 | 0,_,_,_,_,_=>(0,0,0,[],false)
 | μ3+1,q,t60,q3_1,q3_2,q3_3=>(bif decide ((t60:Int)<(((z2o ((z1j (((ia).getD (t35:Int).toNat 0))).1) ((z1j (((ia).getD (t35:Int).toNat 0))).2) (aa.length:Int) t50 1065353216)).length:Int)) then (z7s aa ia t6 found t35 q1_1 q1_2 q1_3 q1_4 q1_5 q1_6 found_8 t50 q2_1 q2_2 q2_3 k3_4 μ3 (fadd .f32 q (fmul .f32 ((((z2o ((z1j (((ia).getD (t35:Int).toNat 0))).1) ((z1j (((ia).getD (t35:Int).toNat 0))).2) (aa.length:Int) t50 1065353216)).getD (t60:Int).toNat 0)) (((aa).getD (t60:Int).toNat 0)))) (t60+1) q3_1 q3_2 q3_3) else (k3_4 q t60 q3_1 q3_2 q3_3))
def zal:=fun aa ia t6 found t35 q1_1 q1_2 q1_3 q1_4 q1_5 q1_6 found_8 t50 q2_1 q2_2 q2_3 k3_4 μ3 q t60 q3_1 q3_2 q3_3=>@z7s.eq_2 aa ia t6 found t35 q1_1 q1_2 q1_3 q1_4 q1_5 q1_6 found_8 t50 q2_1 q2_2 q2_3 k3_4 q t60 q3_1 q3_2 q3_3 μ3
def z1q (aa ia:LN) (t6 found:Bool) (t35 q1_1:Int) (q1_2 q1_3:Nat) (q1_4:Int) (q1_5 q1_6:Nat) (k2_2:Bool→Int→Int→Nat→Nat→(Int×Nat×Nat×LN×Bool)):Nat→Bool→Int→Int→Nat→Nat→Int×Nat×Nat×LN×Bool
 | 0,_,_,_,_,_=>(0,0,0,[],false)
 | μ2+1,found_8,t50,q2_1,q2_2,q2_3=>(bif decide ((t50:Int)<(aa.length:Int)) then (z7s aa ia t6 found t35 q1_1 q1_2 q1_3 q1_4 q1_5 q1_6 found_8 t50 q2_1 q2_2 q2_3 (fun (q:Nat) (t60:Int) (q3_1:Int) (q3_2:Nat) (q3_3:Nat)=>(bif !found_8 then (z1q aa ia t6 found t35 q1_1 q1_2 q1_3 q1_4 q1_5 q1_6 k2_2 μ2 true (t50+1) t50 (((ia).getD (t35:Int).toNat 0)) q) else (bif flt .f32 (z5z q3_3) (z5z q) then (z1q aa ia t6 found t35 q1_1 q1_2 q1_3 q1_4 q1_5 q1_6 k2_2 μ2 true (t50+1) t50 (((ia).getD (t35:Int).toNat 0)) q) else (z1q aa ia t6 found t35 q1_1 q1_2 q1_3 q1_4 q1_5 q1_6 k2_2 μ2 found_8 (t50+1) q3_1 q3_2 q3_3)))) (Int.toNat ((((z2o ((z1j (((ia).getD (t35:Int).toNat 0))).1) ((z1j (((ia).getD (t35:Int).toNat 0))).2) (aa.length:Int) t50 1065353216)).length:Int)-(0:Int))+1) 0 (0:Int) q2_1 q2_2 q2_3) else (k2_2 found_8 t50 q2_1 q2_2 q2_3))
def zak:=fun aa ia t6 found t35 q1_1 q1_2 q1_3 q1_4 q1_5 q1_6 k2_2 μ2 found_8 t50 q2_1 q2_2 q2_3=>@z1q.eq_2 aa ia t6 found t35 q1_1 q1_2 q1_3 q1_4 q1_5 q1_6 k2_2 found_8 t50 q2_1 q2_2 q2_3 μ2
def z7t (aa ia:LN) (t6 found:Bool) (t35 q1_1:Int) (q1_2 q1_3:Nat) (q1_4:Int) (q1_5 q1_6:Nat) (k4_6:LN→Int→Int→Nat→Nat→(Int×Nat×Nat×LN×Bool)):Nat→LN→Int→Int→Nat→Nat→Int×Nat×Nat×LN×Bool
 | 0,_,_,_,_,_=>(0,0,0,[],false)
 | μ4+1,bb,t103,q4_1,q4_2,q4_3=>(bif decide ((t103:Int)<(aa.length:Int)) then (z7t aa ia t6 found t35 q1_1 q1_2 q1_3 q1_4 q1_5 q1_6 k4_6 μ4 ((bb++[(fsub .f32 (((aa).getD (t103:Int).toNat 0)) ((((z1s (aa.length:Int) q1_4 q1_5 q1_6).1).getD (t103:Int).toNat 0)))])) (t103+1) q4_1 q4_2 q4_3) else (k4_6 bb t103 q4_1 q4_2 q4_3))
def zam:=fun aa ia t6 found t35 q1_1 q1_2 q1_3 q1_4 q1_5 q1_6 k4_6 μ4 bb t103 q4_1 q4_2 q4_3=>@z7t.eq_2 aa ia t6 found t35 q1_1 q1_2 q1_3 q1_4 q1_5 q1_6 k4_6 bb t103 q4_1 q4_2 q4_3 μ4
def z1y (aa ia:LN):Nat→Bool→Bool→Int→Int→Nat→Nat→Int→Nat→Nat→Int×Nat×Nat×LN×Bool
 | 0,_,_,_,_,_,_,_,_,_=>(0,0,0,[],false)
 | μ+1,t6,found,t35,q1_1,q1_2,q1_3,q1_4,q1_5,q1_6=>(bif decide ((t35:Int)<(ia.length:Int)) then (bif !((z8l (((ia).getD (t35:Int).toNat 0)))) then ((0:Int),0,0,[],false) else (z1q aa ia t6 found t35 q1_1 q1_2 q1_3 q1_4 q1_5 q1_6 (fun (found_8:Bool) (t50:Int) (q2_1:Int) (q2_2:Nat) (q2_3:Nat)=>(z1y aa ia μ t6 found_8 (t35+1) q1_1 q1_2 q1_3 q2_1 q2_2 q2_3)) (Int.toNat ((aa.length:Int)-(0:Int))+1) found (0:Int) q1_4 q1_5 q1_6)) else (bif !((z1s (aa.length:Int) q1_4 q1_5 q1_6).2) then ((0:Int),0,0,[],false) else (z7t aa ia t6 found t35 q1_1 q1_2 q1_3 q1_4 q1_5 q1_6 (fun (bb:LN) (t103:Int) (q4_1:Int) (q4_2:Nat) (q4_3:Nat)=>(bif !((zaq ([bb]))) then ((0:Int),0,0,[],false) else (q1_4,q1_5,q1_6,bb,true))) (Int.toNat ((aa.length:Int)-(0:Int))+1) ([]:LN) (0:Int) q1_1 q1_2 q1_3)))
def zaj:=fun aa ia μ t6 found t35 q1_1 q1_2 q1_3 q1_4 q1_5 q1_6=>@z1y.eq_2 aa ia t6 found t35 q1_1 q1_2 q1_3 q1_4 q1_5 q1_6 μ
def zt (aa ia:LN):Int×Nat×Nat×LN×Bool:=(bif !(z6x aa) then ((0:Int),0,0,[],false) else (bif !((z1n (ia.length:Int) (1:Int) (12:Int))) then ((0:Int),0,0,[],false) else (z1y aa ia (Int.toNat ((ia.length:Int)-(0:Int))+1) false false (0:Int) 0 0 0 0 0 0)))
def zgp:=@zt.eq_1
def ztr (ca:OA) (ba ga:Nat) (ma:OA) (ka na:Nat) (H:zd) (K:Int→Nat→Nat→OA→Nat→Nat→Bool→zd→Prop):Prop:=∃(aa ia:LN),IsL fF H ca ba aa∧IsL fF H ma ka ia∧aa.length<1073741824∧ia.length<1073741824∧((∀(ub:OA) (wb vb:Nat),∀H':zd,Grow H H'→OwnS fF H' H.length ub wb vb ((zt aa ia).2.2.2.1)→K ((zt aa ia).1) ((zt aa ia).2.1) ((zt aa ia).2.2.1) ub wb vb ((zt aa ia).2.2.2.2) H'))
theorem zts {ca:OA} {ba ga:Nat} {ma:OA} {ka na:Nat} {H:zd} {K:Int→Nat→Nat→OA→Nat→Nat→Bool→zd→Prop} (h:∃(aa ia:LN),IsL fF H ca ba aa∧IsL fF H ma ka ia∧aa.length<1073741824∧ia.length<1073741824∧((∀(ub:OA) (wb vb:Nat),∀H':zd,Grow H H'→OwnS fF H' H.length ub wb vb ((zt aa ia).2.2.2.1)→K ((zt aa ia).1) ((zt aa ia).2.1) ((zt aa ia).2.2.1) ub wb vb ((zt aa ia).2.2.2.2) H'))):ztr ca ba ga ma ka na H K:=h
theorem zrv (N:Nat) (l sc:LN) (t6 fo:Bool) (t35 a:Int) (b c:Nat) (d:Int) (e f:Nat) (K:LN→Int→Int→Nat→Nat→(Int×Nat×Nat×LN×Bool)) (hK:∀o t x y z,o.length≤N→RL N (K o t x y z)):
  ∀(μ:Nat) (o:LN) (t x:Int) (y z:Nat),o.length+μ≤N+1→RL N (z7t l sc t6 fo t35 a b c d e f K μ o t x y z):=by
 intro μ
 induction μ with
 | zero=>intro o t x y z h;exact rl0 N
 | succ μ ih=>
  intro o t x y z h
  rw [zam]
  refine cnb (P:=RL N) (fun _=>ih _ _ _ _ _ ?_) (fun _=>hK _ _ _ _ _ ω2)
  rw [List.length_append,List.length_singleton];omega
theorem zru (N:Nat) (l sc:LN) (t6 fo:Bool) (t35 a:Int) (b c:Nat) (d:Int) (e f:Nat) (f8:Bool) (t50 g:Int) (h i:Nat) (K:Nat→Int→Int→Nat→Nat→(Int×Nat×Nat×LN×Bool)) (hK:∀q t x y z,RL N (K q t x y z)):
  ∀(μ q:Nat) (t x:Int) (y z:Nat),RL N (z7s l sc t6 fo t35 a b c d e f f8 t50 g h i K μ q t x y z):=by
 intro μ
 induction μ with
 | zero=>intro q t x y z;exact rl0 N
 | succ μ ih=>
  intro q t x y z
  rw [zal]
  exact cnb (P:=RL N) (fun _=>ih _ _ _ _ _) (fun _=>hK _ _ _ _ _)
theorem zrt (N:Nat) (l sc:LN) (t6 fo:Bool) (t35 a:Int) (b c:Nat) (d:Int) (e f:Nat) (K:Bool→Int→Int→Nat→Nat→(Int×Nat×Nat×LN×Bool)) (hK:∀q t x y z,RL N (K q t x y z)):
  ∀(μ:Nat) (q:Bool) (t x:Int) (y z:Nat),RL N (z1q l sc t6 fo t35 a b c d e f K μ q t x y z):=by
 intro μ
 induction μ with
 | zero=>intro q t x y z;exact rl0 N
 | succ μ ih=>
  intro q t x y z
  rw [zak]
  refine cnb (P:=RL N) (fun _=>?_) (fun _=>hK _ _ _ _ _)
  refine zru N _ _ _ _ _ _ _ _ _ _ _ _ _ _ _ _ _ (fun q t x y z=>?_) _ _ _ _ _ _
  exact cnb (P:=RL N) (fun _=>ih _ _ _ _ _) (fun _=>cnb (P:=RL N) (fun _=>ih _ _ _ _ _) (fun _=>ih _ _ _ _ _))
theorem zrs (l sc:LN):∀(μ:Nat) (t6 fo:Bool) (t35:Int) (a:Int) (b c:Nat) (d:Int) (e f:Nat),RL l.length (z1y l sc μ t6 fo t35 a b c d e f):=by
 intro μ
 induction μ with
 | zero=>intro t6 fo t35 a b c d e f;exact rl0 _
 | succ μ ih=>
  intro t6 fo t35 a b c d e f
  rw [zaj]
  refine cnb (P:=RL l.length) (fun _=>?_) (fun _=>?_)
  ·refine cnb (P:=RL l.length) (fun _=>rl0 _) (fun _=>?_)
   exact zrt _ _ _ _ _ _ _ _ _ _ _ _ _ (fun q t x y z=>ih _ _ _ _ _ _ _ _ _) _ _ _ _ _ _
  ·refine cnb (P:=RL l.length) (fun _=>rl0 _) (fun _=>?_)
   refine zrv _ _ _ _ _ _ _ _ _ _ _ _ _ (fun o t x y z ho=>?_) _ _ _ _ _ _ (by rw [List.length_nil];omega)
   exact cnb (P:=RL l.length) (fun _=>rl0 _) (fun _=>ho)
theorem f7z_len (l sc:LN):(zt l sc).2.2.2.1.length≤l.length:=by
 rw [zgp]
 refine cnb (P:=RL l.length) (fun _=>rl0 _) (fun _=>?_)
 exact cnb (P:=RL l.length) (fun _=>rl0 _) (fun _=>zrs _ _ _ _ _ _ _ _ _ _ _ _)
def z2q:Env:=envOf [(105,zaz),(96,z8n),(163,ziq),(164,zld),(165,zc2),(150,zem),(85,zio),(166,zim)]
def zsp:List Value→zd→(Value→zd→Prop)→Prop
 | [.slice ca ba ga,.slice ma ka na],H,K=>ztr ca ba ga ma ka na H fun (ac:Int) (bc:Nat) (cc:Nat) (ub:OA) (wb:Nat) (vb:Nat) (r3:Bool) (H':zd)=>K (.tuple #[.agg #[.int .i64 ac,.float .f32 bc,.float .f32 cc],.slice ub wb vb,.bool r3]) H'
 | _,_,_=>False
def zlb:FSpec:={F:=zsp,quiet:=false,tame:=true}
theorem f7z_vc (ca:OA) (ba ga:Nat) (ma:OA) (ka na:Nat) (H:zd) (K:KT):zk Try.prog z2q Try.f84 [.slice ca ba ga,.slice ma ka na] H K=
 (Al [.int .i64 0,.float .f32 0,.float .f32 0] H fun b1 H1=>zc5 ca ba ga H1 fun (r1:Bool) (H2:zd)=>Br (!r1) (isOwn H2 b1∧(∃l,rdN H2 b1 0 3=some l)∧Lt (setN H2 b1 0 [.int .i64 0,.float .f32 0,.float .f32 0]) fun H3=>∃c1:Int,∃(c2 c3:Nat),  rdN H3 b1 0 3=some [.int .i64 c1,.float .f32 c2,.float .f32 c3]∧K (.tuple #[.agg #[.int .i64 c1,.float .f32 c2,.float .f32 c3],.slice none 0 0,.bool false]) H3) (z7a (ka:Int) 1 12 H2 fun (r2:Bool) (H4:zd)=>Br (!r2) (isOwn H4 b1∧(∃l,rdN H4 b1 0 3=some l)∧Lt (setN H4 b1 0 [.int .i64 0,.float .f32 0,.float .f32 0]) fun H5=>∃c4:Int,∃(c5 c6:Nat),  rdN H5 b1 0 3=some [.int .i64 c4,.float .f32 c5,.float .f32 c6]∧K (.tuple #[.agg #[.int .i64 c4,.float .f32 c5,.float .f32 c6],.slice none 0 0,.bool false]) H5) (Al [.int .i64 0,.float .f32 0,.float .f32 0] H4 fun b2 H6=>isOwn H6 b2∧(∃l,rdN H6 b2 0 3=some l)∧Lt (setN H6 b2 0 [.int .i64 0,.float .f32 0,.float .f32 0]) fun H7=>z1b (exL Try.prog z2q (cl (cl (cr (cl (cr (cr (cr (zg Try.f84)))))))) 60129542545 112 [(0,145)]) (.slice ca ba ga::ud3 (.pointer (some ⟨b1,0,none⟩)::ud2 (.pointer (some ⟨b2,0,none⟩)::.bool false::ud24 (.slice ma ka na::.int .i64 (ka:Int)::.int .i64 0::ud89 [])))) H7 (zn 0 (seqQ (exL Try.prog z2q (cr (cr (cr (cr (zg Try.f84))))) 112 112 []) (retK Try.prog Try.f84 K)))))):=by kernel_rfl
abbrev f7z_P1 (b1 b2:Nat) (ca:OA) (ga ba:Nat) (ma:OA) (na ka:Nat) (found:Bool) (t35:Int)  :List Value:=(.slice ca ba ga::ud3 (.pointer (some ⟨b1,0,none⟩)::ud2 (.pointer (some ⟨b2,0,none⟩)::.bool found::ud24 (.slice ma ka na::.int .i64 (ka:Int)::.int .i64 t35::ud89 []))))
theorem f7z_r1 (b1 b2:Nat) (ca:OA) (ga ba:Nat) (ma:OA) (na ka:Nat) (found:Bool) (t35:Int)  (H:zd) (R:Post):exL Try.prog z2q (cl (cl (cr (cl (cr (cr (cr (zg Try.f84)))))))) 60129542545 112 [(0,145)] (f7z_P1 b1 b2 ca ga ba ma na ka found t35) H R=
 (Br (decide ((t35:Int)<(ka:Int))) ((0:Int)≤t35∧t35<(ka:Int)∧∃b3 f1,(ma:OA)=some ⟨b3,f1,none⟩∧∃x1:Nat,  rdC H b3 (f1+(t35:Int).toNat*1)=some (.float .f32 x1)∧zlm x1 H fun (r3:Bool) (H8:zd)=>Br (!r3) (isOwn H8 b1∧(∃l,rdN H8 b1 0 3=some l)∧Lt (setN H8 b1 0 [.int .i64 0,.float .f32 0,.float .f32 0]) fun H9=>R .ret (ud4 (.pointer (some ⟨b1,0,none⟩)::.slice none 0 0::.bool false::ud118 [])) H9) (ztx x1 H8 fun (a1:OA) (r4:Nat) (r5:Nat) (r6:Int) (H10:zd)=>z1b (exL Try.prog z2q (cl (cl (cr (cr (cr (cr (cl (cl (cr (cr (cl (cl (cr (cl (cr (cr (cr (zg Try.f84)))))))))))))))))) 1688909989813649 112 [(2,60129542545),(1,60129542545),(0,145)]) (.slice ca ba ga::ud3 (.pointer (some ⟨b1,0,none⟩)::ud2 (.pointer (some ⟨b2,0,none⟩)::.bool found::ud::.float .f32 x1::.slice a1 r4 r5::.int .i64 r6::ud20 (.slice ma ka na::.int .i64 (ka:Int)::.int .i64 t35::ud13 (.int .i64 (ba:Int)::.int .i64 0::ud74 []))))) H10 (zn 2 (zn 1 (seqQ (exL Try.prog z2q (cr (cr (cr (cl (cl (cr (cl (cr (cr (cr (zg Try.f84))))))))))) 60129542545 112 [(0,145)]) (R)))))) (R (.exit 0) (.slice ca ba ga::ud3 (.pointer (some ⟨b1,0,none⟩)::ud2 (.pointer (some ⟨b2,0,none⟩)::ud117 []))) H)):=by kernel_rfl
def f7z_I1 (b1 b2:Nat) (ca:OA) (ga ba:Nat) (ma:OA) (na ka:Nat) (Inv:Nat→Bool→Int→zd→Prop):Nat→List Value→zd→Prop:=fun μ tm H=>∃found:Bool,∃t35:Int,tm=(f7z_P1 b1 b2 ca ga ba ma na ka found t35)∧Inv μ found t35 H
theorem f7z_L1 (b1 b2:Nat) (ca:OA) (ga ba:Nat) (ma:OA) (na ka:Nat) {Q:Post} (Inv:Nat→Bool→Int→zd→Prop) (ν:Nat) (found:Bool) (t35:Int)  (H:zd) (h0:Inv ν found t35 H)
  (hs:∀(μ:Nat) (found:Bool) (t35:Int)  (H:zd),Inv μ found t35 H→exL Try.prog z2q (cl (cl (cr (cl (cr (cr (cr (zg Try.f84)))))))) 60129542545 112 [(0,145)] (f7z_P1 b1 b2 ca ga ba ma na ka found t35) H (zp (f7z_I1 b1 b2 ca ga ba ma na ka Inv) μ Q)):z1b (exL Try.prog z2q (cl (cl (cr (cl (cr (cr (cr (zg Try.f84)))))))) 60129542545 112 [(0,145)]) (f7z_P1 b1 b2 ca ga ba ma na ka found t35) H Q:=
 ⟨f7z_I1 b1 b2 ca ga ba ma na ka Inv,ν,⟨found,t35,rfl,h0⟩,fun μ tm H h=>by obtain ⟨found,t35,rfl,hI⟩:=h;exact hs μ found t35  H hI⟩
theorem f7z_n1 {b1 b2:Nat} {ca:OA} {ga ba:Nat} {ma:OA} {na ka:Nat} {Q:Post} {Inv:Nat→Bool→Int→zd→Prop} {μ:Nat} (μ':Nat) {found:Bool} {t35:Int}  {H:zd} (hm:μ'<μ) (hI:Inv μ' found t35 H):zp (f7z_I1 b1 b2 ca ga ba ma na ka Inv) μ Q .normal (f7z_P1 b1 b2 ca ga ba ma na ka found t35) H:=⟨μ',hm,found,t35,rfl,hI⟩
theorem f7z_x1_0 (b1 b2:Nat) (ca:OA) (ga ba:Nat) (H:zd) (K:KT)  {I:Nat→List Value→zd→Prop} {μ:Nat}:zp I μ (zn 0 (seqQ (exL Try.prog z2q (cr (cr (cr (cr (zg Try.f84))))) 112 112 []) (retK Try.prog Try.f84 K))) (.exit 0) (.slice ca ba ga::ud3 (.pointer (some ⟨b1,0,none⟩)::ud2 (.pointer (some ⟨b2,0,none⟩)::ud117 []))) H=
 (∃c7:Int,∃(c8 c9:Nat),  rdN H b2 0 3=some [.int .i64 c7,.float .f32 c8,.float .f32 c9]∧zlj (ba:Int) c7 c8 c9 H fun (a3:OA) (r11:Nat) (r12:Nat) (r13:Bool) (H16:zd)=>Br (!r13) (isOwn H16 b1∧(∃l,rdN H16 b1 0 3=some l)∧Lt (setN H16 b1 0 [.int .i64 0,.float .f32 0,.float .f32 0]) fun H17=>∃c10:Int,∃(c11 c12:Nat),  rdN H17 b1 0 3=some [.int .i64 c10,.float .f32 c11,.float .f32 c12]∧K (.tuple #[.agg #[.int .i64 c10,.float .f32 c11,.float .f32 c12],.slice none 0 0,.bool false]) H17) (Al [] H16 fun b6 H18=>z1b (exL Try.prog z2q (cl (cl (cr (cl (cr (cr (cr (cr (cr (cr (cr (zg Try.f84)))))))))))) 17747108403195211620953845530768 112 [(6,524432)]) (ud4 (.pointer (some ⟨b1,0,none⟩)::ud2 (.pointer (some ⟨b2,0,none⟩)::ud9 (.slice a3 r11 r12::ud::.slice (some ⟨b6,0,none⟩) 0 1::ud81 (.slice ca ba ga::.int .i64 (ba:Int)::.int .i64 0::ud21 []))))) H18 (zn 6 (seqQ (exL Try.prog z2q (cr (cr (cr (cr (cr (cr (cr (cr (zg Try.f84))))))))) 112 112 []) (retK Try.prog Try.f84 K))))):=by kernel_rfl
theorem f7z_x1_ret (b1:Nat) (qc:OA) (tc rc:Nat) (t6:Bool) (H:zd) (K:KT)  {I:Nat→List Value→zd→Prop} {μ:Nat}:zp I μ (zn 0 (seqQ (exL Try.prog z2q (cr (cr (cr (cr (zg Try.f84))))) 112 112 []) (retK Try.prog Try.f84 K))) .ret (ud4 (.pointer (some ⟨b1,0,none⟩)::.slice qc tc rc::.bool t6::ud118 [])) H=
 (∃c22:Int,∃(c23 c24:Nat),  rdN H b1 0 3=some [.int .i64 c22,.float .f32 c23,.float .f32 c24]∧K (.tuple #[.agg #[.int .i64 c22,.float .f32 c23,.float .f32 c24],.slice qc tc rc,.bool t6]) H):=by kernel_rfl
abbrev f7z_P2 (a1:OA) (b1 b2:Nat) (ca:OA) (ga ba r4 r5:Nat) (r6:Int) (ma:OA) (na ka:Nat) (t35:Int) (x1:Nat) (found_8:Bool) (t50:Int)  :List Value:=(.slice ca ba ga::ud3 (.pointer (some ⟨b1,0,none⟩)::ud2 (.pointer (some ⟨b2,0,none⟩)::.bool found_8::ud::.float .f32 x1::.slice a1 r4 r5::.int .i64 r6::ud20 (.slice ma ka na::.int .i64 (ka:Int)::.int .i64 t35::ud13 (.int .i64 (ba:Int)::.int .i64 t50::ud74 [])))))
theorem f7z_r2 (a1:OA) (b1 b2:Nat) (ca:OA) (ga ba r4 r5:Nat) (r6:Int) (ma:OA) (na ka:Nat) (t35:Int) (x1:Nat) (found_8:Bool) (t50:Int)  (H:zd) (R:Post):exL Try.prog z2q (cl (cl (cr (cr (cr (cr (cl (cl (cr (cr (cl (cl (cr (cl (cr (cr (cr (zg Try.f84)))))))))))))))))) 1688909989813649 112 [(2,60129542545),(1,60129542545),(0,145)] (f7z_P2 a1 b1 b2 ca ga ba r4 r5 r6 ma na ka t35 x1 found_8 t50) H R=
 (Br (decide ((t50:Int)<(ba:Int))) (zit a1 r4 r5 r6 (ba:Int) t50 1065353216 H fun (a2:OA) (r7:Nat) (r8:Nat) (H11:zd)=>z1b (exL Try.prog z2q (cl (cl (cr (cl (cr (cr (cl (cl (cr (cr (cl (cl (cr (cr (cr (cr (cl (cl (cr (cr (cl (cl (cr (cl (cr (cr (cr (zg Try.f84)))))))))))))))))))))))))))) 2019301543051820433 112 [(4,1688909989838225),(3,1688909989813649),(2,60129542545),(1,60129542545),(0,145)]) (.slice ca ba ga::ud3 (.pointer (some ⟨b1,0,none⟩)::ud2 (.pointer (some ⟨b2,0,none⟩)::.bool found_8::ud::.float .f32 x1::.slice a1 r4 r5::.int .i64 r6::.int .i64 t50::.float .f32 0::ud18 (.slice ma ka na::.int .i64 (ka:Int)::.int .i64 t35::ud13 (.int .i64 (ba:Int)::.int .i64 t50::ud7 (.slice a2 r7 r8::.int .i64 (r7:Int)::.int .i64 0::ud64 [])))))) H11 (zn 4 (seqQ (exL Try.prog z2q (cr (cr (cr (cl (cl (cr (cr (cl (cl (cr (cr (cr (cr (cl (cl (cr (cr (cl (cl (cr (cl (cr (cr (cr (zg Try.f84))))))))))))))))))))))))) 1688909989813649 112 [(3,1688909989813649),(2,60129542545),(1,60129542545),(0,145)]) (zn 3 (seqQ (exL Try.prog z2q (cr (cr (cr (cl (cl (cr (cr (cr (cr (cl (cl (cr (cr (cl (cl (cr (cl (cr (cr (cr (zg Try.f84))))))))))))))))))))) 1688909989813649 112 [(2,60129542545),(1,60129542545),(0,145)]) (R)))))) (R (.exit 2) (.slice ca ba ga::ud3 (.pointer (some ⟨b1,0,none⟩)::ud2 (.pointer (some ⟨b2,0,none⟩)::.bool found_8::ud24 (.slice ma ka na::.int .i64 (ka:Int)::.int .i64 t35::ud89 [])))) H)):=by kernel_rfl
def f7z_I2 (a1:OA) (b1 b2:Nat) (ca:OA) (ga ba r4 r5:Nat) (r6:Int) (ma:OA) (na ka:Nat) (t35:Int) (x1:Nat) (Inv:Nat→Bool→Int→zd→Prop):Nat→List Value→zd→Prop:=fun μ tm H=>∃found_8:Bool,∃t50:Int,tm=(f7z_P2 a1 b1 b2 ca ga ba r4 r5 r6 ma na ka t35 x1 found_8 t50)∧Inv μ found_8 t50 H
theorem f7z_L2 (a1:OA) (b1 b2:Nat) (ca:OA) (ga ba r4 r5:Nat) (r6:Int) (ma:OA) (na ka:Nat) (t35:Int) (x1:Nat) {Q:Post} (Inv:Nat→Bool→Int→zd→Prop) (ν:Nat) (found_8:Bool) (t50:Int)  (H:zd) (h0:Inv ν found_8 t50 H)
  (hs:∀(μ:Nat) (found_8:Bool) (t50:Int)  (H:zd),Inv μ found_8 t50 H→exL Try.prog z2q (cl (cl (cr (cr (cr (cr (cl (cl (cr (cr (cl (cl (cr (cl (cr (cr (cr (zg Try.f84)))))))))))))))))) 1688909989813649 112 [(2,60129542545),(1,60129542545),(0,145)] (f7z_P2 a1 b1 b2 ca ga ba r4 r5 r6 ma na ka t35 x1 found_8 t50) H (zp (f7z_I2 a1 b1 b2 ca ga ba r4 r5 r6 ma na ka t35 x1 Inv) μ Q)):z1b (exL Try.prog z2q (cl (cl (cr (cr (cr (cr (cl (cl (cr (cr (cl (cl (cr (cl (cr (cr (cr (zg Try.f84)))))))))))))))))) 1688909989813649 112 [(2,60129542545),(1,60129542545),(0,145)]) (f7z_P2 a1 b1 b2 ca ga ba r4 r5 r6 ma na ka t35 x1 found_8 t50) H Q:=
 ⟨f7z_I2 a1 b1 b2 ca ga ba r4 r5 r6 ma na ka t35 x1 Inv,ν,⟨found_8,t50,rfl,h0⟩,fun μ tm H h=>by obtain ⟨found_8,t50,rfl,hI⟩:=h;exact hs μ found_8 t50  H hI⟩
theorem f7z_n2 {a1:OA} {b1 b2:Nat} {ca:OA} {ga ba r4 r5:Nat} {r6:Int} {ma:OA} {na ka:Nat} {t35:Int} {x1:Nat} {Q:Post} {Inv:Nat→Bool→Int→zd→Prop} {μ:Nat} (μ':Nat) {found_8:Bool} {t50:Int}  {H:zd} (hm:μ'<μ) (hI:Inv μ' found_8 t50 H):zp (f7z_I2 a1 b1 b2 ca ga ba r4 r5 r6 ma na ka t35 x1 Inv) μ Q .normal (f7z_P2 a1 b1 b2 ca ga ba r4 r5 r6 ma na ka t35 x1 found_8 t50) H:=⟨μ',hm,found_8,t50,rfl,hI⟩
theorem f7z_x2_2 (b1 b2:Nat) (ca:OA) (ga ba:Nat) (ma:OA) (na ka:Nat) (t35:Int) (found_8:Bool) (H:zd)  (R:Post) {I:Nat→List Value→zd→Prop} {μ:Nat}:zp I μ (zn 2 (zn 1 (seqQ (exL Try.prog z2q (cr (cr (cr (cl (cl (cr (cl (cr (cr (cr (zg Try.f84))))))))))) 60129542545 112 [(0,145)]) (R)))) (.exit 2) (.slice ca ba ga::ud3 (.pointer (some ⟨b1,0,none⟩)::ud2 (.pointer (some ⟨b2,0,none⟩)::.bool found_8::ud24 (.slice ma ka na::.int .i64 (ka:Int)::.int .i64 t35::ud89 [])))) H=
 (R .normal (.slice ca ba ga::ud3 (.pointer (some ⟨b1,0,none⟩)::ud2 (.pointer (some ⟨b2,0,none⟩)::.bool found_8::ud24 (.slice ma ka na::.int .i64 (ka:Int)::.int .i64 (IntKind.wrap .i64 (t35+1))::ud89 [])))) H):=by kernel_rfl
abbrev f7z_P3 (a1 a2:OA) (b1 b2:Nat) (found_8:Bool) (ca:OA) (ga ba r4 r5:Nat) (r6:Int) (r7 r8:Nat) (ma:OA) (na ka:Nat) (t35 t50:Int) (x1 q:Nat) (t60:Int)  :List Value:=(.slice ca ba ga::ud3 (.pointer (some ⟨b1,0,none⟩)::ud2 (.pointer (some ⟨b2,0,none⟩)::.bool found_8::ud::.float .f32 x1::.slice a1 r4 r5::.int .i64 r6::.int .i64 t50::.float .f32 q::ud18 (.slice ma ka na::.int .i64 (ka:Int)::.int .i64 t35::ud13 (.int .i64 (ba:Int)::.int .i64 t50::ud7 (.slice a2 r7 r8::.int .i64 (r7:Int)::.int .i64 t60::ud64 []))))))
theorem f7z_r3 (a1 a2:OA) (b1 b2:Nat) (found_8:Bool) (ca:OA) (ga ba r4 r5:Nat) (r6:Int) (r7 r8:Nat) (ma:OA) (na ka:Nat) (t35 t50:Int) (x1 q:Nat) (t60:Int)  (H:zd) (R:Post):exL Try.prog z2q (cl (cl (cr (cl (cr (cr (cl (cl (cr (cr (cl (cl (cr (cr (cr (cr (cl (cl (cr (cr (cl (cl (cr (cl (cr (cr (cr (zg Try.f84)))))))))))))))))))))))))))) 2019301543051820433 112 [(4,1688909989838225),(3,1688909989813649),(2,60129542545),(1,60129542545),(0,145)] (f7z_P3 a1 a2 b1 b2 found_8 ca ga ba r4 r5 r6 r7 r8 ma na ka t35 t50 x1 q t60) H R=
 (Br (decide ((t60:Int)<(r7:Int))) ((0:Int)≤t60∧t60<(r7:Int)∧∃b4 f2,(a2:OA)=some ⟨b4,f2,none⟩∧∃x2:Nat,  rdC H b4 (f2+(t60:Int).toNat*1)=some (.float .f32 x2)∧(0:Int)≤t60∧t60<(ba:Int)∧∃b5 f3,(ca:OA)=some ⟨b5,f3,none⟩∧∃x3:Nat,  rdC H b5 (f3+(t60:Int).toNat*1)=some (.float .f32 x3)∧R .normal (.slice ca ba ga::ud3 (.pointer (some ⟨b1,0,none⟩)::ud2 (.pointer (some ⟨b2,0,none⟩)::.bool found_8::ud::.float .f32 x1::.slice a1 r4 r5::.int .i64 r6::.int .i64 t50::.float .f32 (fadd .f32 q (fmul .f32 x2 x3))::ud18 (.slice ma ka na::.int .i64 (ka:Int)::.int .i64 t35::ud13 (.int .i64 (ba:Int)::.int .i64 t50::ud7 (.slice a2 r7 r8::.int .i64 (r7:Int)::.int .i64 (IntKind.wrap .i64 (t60+1))::ud64 [])))))) H) (R (.exit 4) (.slice ca ba ga::ud3 (.pointer (some ⟨b1,0,none⟩)::ud2 (.pointer (some ⟨b2,0,none⟩)::.bool found_8::ud::.float .f32 x1::.slice a1 r4 r5::.int .i64 r6::.int .i64 t50::.float .f32 q::ud18 (.slice ma ka na::.int .i64 (ka:Int)::.int .i64 t35::ud13 (.int .i64 (ba:Int)::.int .i64 t50::ud74 []))))) H)):=by kernel_rfl
def f7z_I3 (a1 a2:OA) (b1 b2:Nat) (found_8:Bool) (ca:OA) (ga ba r4 r5:Nat) (r6:Int) (r7 r8:Nat) (ma:OA) (na ka:Nat) (t35 t50:Int) (x1:Nat) (Inv:Nat→Nat→Int→zd→Prop):Nat→List Value→zd→Prop:=fun μ tm H=>∃q:Nat,∃t60:Int,tm=(f7z_P3 a1 a2 b1 b2 found_8 ca ga ba r4 r5 r6 r7 r8 ma na ka t35 t50 x1 q t60)∧Inv μ q t60 H
theorem f7z_L3 (a1 a2:OA) (b1 b2:Nat) (found_8:Bool) (ca:OA) (ga ba r4 r5:Nat) (r6:Int) (r7 r8:Nat) (ma:OA) (na ka:Nat) (t35 t50:Int) (x1:Nat) {Q:Post} (Inv:Nat→Nat→Int→zd→Prop) (ν q:Nat) (t60:Int)  (H:zd) (h0:Inv ν q t60 H)
  (hs:∀(μ:Nat) (q:Nat) (t60:Int)  (H:zd),Inv μ q t60 H→exL Try.prog z2q (cl (cl (cr (cl (cr (cr (cl (cl (cr (cr (cl (cl (cr (cr (cr (cr (cl (cl (cr (cr (cl (cl (cr (cl (cr (cr (cr (zg Try.f84)))))))))))))))))))))))))))) 2019301543051820433 112 [(4,1688909989838225),(3,1688909989813649),(2,60129542545),(1,60129542545),(0,145)] (f7z_P3 a1 a2 b1 b2 found_8 ca ga ba r4 r5 r6 r7 r8 ma na ka t35 t50 x1 q t60) H (zp (f7z_I3 a1 a2 b1 b2 found_8 ca ga ba r4 r5 r6 r7 r8 ma na ka t35 t50 x1 Inv) μ Q)):z1b (exL Try.prog z2q (cl (cl (cr (cl (cr (cr (cl (cl (cr (cr (cl (cl (cr (cr (cr (cr (cl (cl (cr (cr (cl (cl (cr (cl (cr (cr (cr (zg Try.f84)))))))))))))))))))))))))))) 2019301543051820433 112 [(4,1688909989838225),(3,1688909989813649),(2,60129542545),(1,60129542545),(0,145)]) (f7z_P3 a1 a2 b1 b2 found_8 ca ga ba r4 r5 r6 r7 r8 ma na ka t35 t50 x1 q t60) H Q:=
 ⟨f7z_I3 a1 a2 b1 b2 found_8 ca ga ba r4 r5 r6 r7 r8 ma na ka t35 t50 x1 Inv,ν,⟨q,t60,rfl,h0⟩,fun μ tm H h=>by obtain ⟨q,t60,rfl,hI⟩:=h;exact hs μ q t60  H hI⟩
theorem f7z_n3 {a1 a2:OA} {b1 b2:Nat} {found_8:Bool} {ca:OA} {ga ba r4 r5:Nat} {r6:Int} {r7 r8:Nat} {ma:OA} {na ka:Nat} {t35 t50:Int} {x1:Nat} {Q:Post} {Inv:Nat→Nat→Int→zd→Prop} {μ:Nat} (μ':Nat) {q:Nat} {t60:Int}  {H:zd} (hm:μ'<μ) (hI:Inv μ' q t60 H):zp (f7z_I3 a1 a2 b1 b2 found_8 ca ga ba r4 r5 r6 r7 r8 ma na ka t35 t50 x1 Inv) μ Q .normal (f7z_P3 a1 a2 b1 b2 found_8 ca ga ba r4 r5 r6 r7 r8 ma na ka t35 t50 x1 q t60) H:=⟨μ',hm,q,t60,rfl,hI⟩
theorem f7z_x3_4 (a1:OA) (b1 b2:Nat) (found_8:Bool) (ca:OA) (ga ba r4 r5:Nat) (r6:Int) (ma:OA) (na ka:Nat) (t35 t50:Int) (x1 q:Nat) (H:zd)  (R:Post) {I:Nat→List Value→zd→Prop} {μ:Nat}:zp I μ (zn 4 (seqQ (exL Try.prog z2q (cr (cr (cr (cl (cl (cr (cr (cl (cl (cr (cr (cr (cr (cl (cl (cr (cr (cl (cl (cr (cl (cr (cr (cr (zg Try.f84))))))))))))))))))))))))) 1688909989813649 112 [(3,1688909989813649),(2,60129542545),(1,60129542545),(0,145)]) (zn 3 (seqQ (exL Try.prog z2q (cr (cr (cr (cl (cl (cr (cr (cr (cr (cl (cl (cr (cr (cl (cl (cr (cl (cr (cr (cr (zg Try.f84))))))))))))))))))))) 1688909989813649 112 [(2,60129542545),(1,60129542545),(0,145)]) (R))))) (.exit 4) (.slice ca ba ga::ud3 (.pointer (some ⟨b1,0,none⟩)::ud2 (.pointer (some ⟨b2,0,none⟩)::.bool found_8::ud::.float .f32 x1::.slice a1 r4 r5::.int .i64 r6::.int .i64 t50::.float .f32 q::ud18 (.slice ma ka na::.int .i64 (ka:Int)::.int .i64 t35::ud13 (.int .i64 (ba:Int)::.int .i64 t50::ud74 []))))) H=
 (Br (!found_8) (isOwn H b2∧(∃l,rdN H b2 0 3=some l)∧Lt (setN H b2 0 [.int .i64 t50,.float .f32 x1,.float .f32 q]) fun H12=>R .normal (.slice ca ba ga::ud3 (.pointer (some ⟨b1,0,none⟩)::ud2 (.pointer (some ⟨b2,0,none⟩)::.bool true::ud::.float .f32 x1::.slice a1 r4 r5::.int .i64 r6::ud20 (.slice ma ka na::.int .i64 (ka:Int)::.int .i64 t35::ud13 (.int .i64 (ba:Int)::.int .i64 (IntKind.wrap .i64 (t50+1))::ud74 []))))) H12) (∃x4:Nat,  rdC H b2 2=some (.float .f32 x4)∧zes q H fun (r9:Nat) (H13:zd)=>zes x4 H13 fun (r10:Nat) (H14:zd)=>Br (flt .f32 r10 r9) (isOwn H14 b2∧(∃l,rdN H14 b2 0 3=some l)∧Lt (setN H14 b2 0 [.int .i64 t50,.float .f32 x1,.float .f32 q]) fun H15=>R .normal (.slice ca ba ga::ud3 (.pointer (some ⟨b1,0,none⟩)::ud2 (.pointer (some ⟨b2,0,none⟩)::.bool true::ud::.float .f32 x1::.slice a1 r4 r5::.int .i64 r6::ud20 (.slice ma ka na::.int .i64 (ka:Int)::.int .i64 t35::ud13 (.int .i64 (ba:Int)::.int .i64 (IntKind.wrap .i64 (t50+1))::ud74 []))))) H15) (R .normal (.slice ca ba ga::ud3 (.pointer (some ⟨b1,0,none⟩)::ud2 (.pointer (some ⟨b2,0,none⟩)::.bool found_8::ud::.float .f32 x1::.slice a1 r4 r5::.int .i64 r6::ud20 (.slice ma ka na::.int .i64 (ka:Int)::.int .i64 t35::ud13 (.int .i64 (ba:Int)::.int .i64 (IntKind.wrap .i64 (t50+1))::ud74 []))))) H14))):=by kernel_rfl
abbrev f7z_P4 (a3:OA) (b1 b2:Nat) (ca:OA) (ga ba r11 r12:Nat) (ib:OA) (jb lb:Nat) (t103:Int)  :List Value:=(ud4 (.pointer (some ⟨b1,0,none⟩)::ud2 (.pointer (some ⟨b2,0,none⟩)::ud9 (.slice a3 r11 r12::ud::.slice ib jb lb::ud81 (.slice ca ba ga::.int .i64 (ba:Int)::.int .i64 t103::ud21 [])))))
theorem f7z_r4 (a3:OA) (b1 b2:Nat) (ca:OA) (ga ba r11 r12:Nat) (ib:OA) (jb lb:Nat) (t103:Int)  (H:zd) (R:Post):exL Try.prog z2q (cl (cl (cr (cl (cr (cr (cr (cr (cr (cr (cr (zg Try.f84)))))))))))) 17747108403195211620953845530768 112 [(6,524432)] (f7z_P4 a3 b1 b2 ca ga ba r11 r12 ib jb lb t103) H R=
 (Br (decide ((t103:Int)<(ba:Int))) ((0:Int)≤t103∧t103<(ba:Int)∧∃b7 f4,(ca:OA)=some ⟨b7,f4,none⟩∧∃x5:Nat,  rdC H b7 (f4+(t103:Int).toNat*1)=some (.float .f32 x5)∧(0:Int)≤t103∧t103<(r11:Int)∧∃b8 f5,(a3:OA)=some ⟨b8,f5,none⟩∧∃x6:Nat,  rdC H b8 (f5+(t103:Int).toNat*1)=some (.float .f32 x6)∧Al [.float .f32 (fsub .f32 x5 x6)] H fun b9 H19=>∃o1 w1:List Value,ownB H19 ib jb lb 1=some o1∧rdS H19 (some ⟨b9,0,none⟩) (1*1)=some w1∧((ib:OA)=none→0<(1:Nat))∧(jb:Nat)+1<most∧Ap H19 (z5l H19 ib++[some ⟨o1++w1,true⟩]) fun b10 H20=>R .normal (ud4 (.pointer (some ⟨b1,0,none⟩)::ud2 (.pointer (some ⟨b2,0,none⟩)::ud9 (.slice a3 r11 r12::ud::.slice (some ⟨b10,0,none⟩) (jb+1) 1::ud81 (.slice ca ba ga::.int .i64 (ba:Int)::.int .i64 (IntKind.wrap .i64 (t103+1))::ud21 []))))) H20) (R (.exit 6) (ud4 (.pointer (some ⟨b1,0,none⟩)::ud2 (.pointer (some ⟨b2,0,none⟩)::ud11 (.slice ib jb lb::ud105 [])))) H)):=by kernel_rfl
def f7z_I4 (a3:OA) (b1 b2:Nat) (ca:OA) (ga ba r11 r12:Nat) (Inv:Nat→OA→Nat→Nat→Int→zd→Prop):Nat→List Value→zd→Prop:=fun μ tm H=>∃ib:OA,∃(jb lb:Nat),∃t103:Int,tm=(f7z_P4 a3 b1 b2 ca ga ba r11 r12 ib jb lb t103)∧Inv μ ib jb lb t103 H
theorem f7z_L4 (a3:OA) (b1 b2:Nat) (ca:OA) (ga ba r11 r12:Nat) {Q:Post} (Inv:Nat→OA→Nat→Nat→Int→zd→Prop) (ν:Nat) (ib:OA) (jb lb:Nat) (t103:Int)  (H:zd) (h0:Inv ν ib jb lb t103 H)
  (hs:∀(μ:Nat) (ib:OA) (jb:Nat) (lb:Nat) (t103:Int)  (H:zd),Inv μ ib jb lb t103 H→exL Try.prog z2q (cl (cl (cr (cl (cr (cr (cr (cr (cr (cr (cr (zg Try.f84)))))))))))) 17747108403195211620953845530768 112 [(6,524432)] (f7z_P4 a3 b1 b2 ca ga ba r11 r12 ib jb lb t103) H (zp (f7z_I4 a3 b1 b2 ca ga ba r11 r12 Inv) μ Q)):z1b (exL Try.prog z2q (cl (cl (cr (cl (cr (cr (cr (cr (cr (cr (cr (zg Try.f84)))))))))))) 17747108403195211620953845530768 112 [(6,524432)]) (f7z_P4 a3 b1 b2 ca ga ba r11 r12 ib jb lb t103) H Q:=
 ⟨f7z_I4 a3 b1 b2 ca ga ba r11 r12 Inv,ν,⟨ib,jb,lb,t103,rfl,h0⟩,fun μ tm H h=>by obtain ⟨ib,jb,lb,t103,rfl,hI⟩:=h;exact hs μ ib jb lb t103  H hI⟩
theorem f7z_n4 {a3:OA} {b1 b2:Nat} {ca:OA} {ga ba r11 r12:Nat} {Q:Post} {Inv:Nat→OA→Nat→Nat→Int→zd→Prop} {μ:Nat} (μ':Nat) {ib:OA} {jb lb:Nat} {t103:Int}  {H:zd} (hm:μ'<μ) (hI:Inv μ' ib jb lb t103 H):zp (f7z_I4 a3 b1 b2 ca ga ba r11 r12 Inv) μ Q .normal (f7z_P4 a3 b1 b2 ca ga ba r11 r12 ib jb lb t103) H:=⟨μ',hm,ib,jb,lb,t103,rfl,hI⟩
theorem f7z_x4_6 (b1 b2:Nat) (ib:OA) (jb lb:Nat) (H:zd) (K:KT)  {I:Nat→List Value→zd→Prop} {μ:Nat}:zp I μ (zn 6 (seqQ (exL Try.prog z2q (cr (cr (cr (cr (cr (cr (cr (cr (zg Try.f84))))))))) 112 112 []) (retK Try.prog Try.f84 K))) (.exit 6) (ud4 (.pointer (some ⟨b1,0,none⟩)::ud2 (.pointer (some ⟨b2,0,none⟩)::ud11 (.slice ib jb lb::ud105 [])))) H=
 (Al [.slice ib jb lb] H fun b11 H21=>zr5 (some ⟨b11,0,none⟩) 1 1 H21 fun (r14:Bool) (H22:zd)=>Br (!r14) (isOwn H22 b1∧(∃l,rdN H22 b1 0 3=some l)∧Lt (setN H22 b1 0 [.int .i64 0,.float .f32 0,.float .f32 0]) fun H23=>∃c13:Int,∃(c14 c15:Nat),  rdN H23 b1 0 3=some [.int .i64 c13,.float .f32 c14,.float .f32 c15]∧K (.tuple #[.agg #[.int .i64 c13,.float .f32 c14,.float .f32 c15],.slice none 0 0,.bool false]) H23) (∃c16:Int,∃(c17 c18:Nat),  rdN H22 b2 0 3=some [.int .i64 c16,.float .f32 c17,.float .f32 c18]∧isOwn H22 b1∧(∃l,rdN H22 b1 0 3=some l)∧Lt (setN H22 b1 0 [.int .i64 c16,.float .f32 c17,.float .f32 c18]) fun H24=>∃c19:Int,∃(c20 c21:Nat),  rdN H24 b1 0 3=some [.int .i64 c19,.float .f32 c20,.float .f32 c21]∧K (.tuple #[.agg #[.int .i64 c19,.float .f32 c20,.float .f32 c21],.slice ib jb lb,.bool true]) H24)):=by kernel_rfl
theorem zn9:∀g,FnOk Try.prog g (z2q g):=FnOk.envOf (by
 intro x hx
 simp only [List.mem_cons,List.not_mem_nil,or_false] at hx
 rcases hx with rfl | rfl | rfl | rfl | rfl | rfl | rfl | rfl
 ·exact f19z_ok
 ·exact zcc
 ·exact zw5
 ·exact z12x
 ·exact f16z_ok
 ·exact z15l
 ·exact zvv
 ·exact zvm)
theorem f7z_main (ca:OA) (ba ga:Nat) (ma:OA) (ka na:Nat) (H:zd) (K:KT) (h:ztr ca ba ga ma ka na H fun (ac:Int) (bc:Nat) (cc:Nat) (ub:OA) (wb:Nat) (vb:Nat) (r3:Bool) (H':zd)=>K (.tuple #[.agg #[.int .i64 ac,.float .f32 bc,.float .f32 cc],.slice ub wb vb,.bool r3]) H'):zk Try.prog z2q Try.f84 [.slice ca ba ga,.slice ma ka na] H K:=by
 rw [f7z_vc]
 obtain ⟨aa,ia,i_list,i_scales,bd_314,bd_315,hk⟩:=h
 obtain rfl:=i_list.eqn
 obtain rfl:=i_scales.eqn
 have e:(zt aa ia)=_:=rfl
 have e:=e.trans (zgp aa ia)
 have g0:=Grow.refl H
 refine Al.intro (fun b_1 H_1 hb_2 hl_3 g_4 o5=>?_)
 have l_7:=g_4.1
 have g8:=g0.trans g_4
 have l_9:=g8.1
 have w313:=o5.lt
 refine zbr ⟨_,(i_list.grow g8),ω0,fun  H_2 g10  =>?_⟩
 have l11:=g10.1
 have g12:=g8.trans g10
 have l13:=g12.1
 have o14:=o5.grow g10
 have w15:=o14.lt
 refine Br.intro (fun c_16=>?_) (fun c_16=>?_)
 ·have e:=e.trans (zj c_16)
  have c_16n:=zv c_16
  refine Lt.setN (n:=3) o14 (nbl rfl) rfl (fun H_3 hl_17 o19 k18=>?_)
  have o19:Own H_3 b_1 [.int .i64 0,.float .f32 0,.float .f32 0]:=o19
  have l20:=k18.1
  have g21:=g12.keep (b:=b_1) ω2 k18
  have l22:=g21.1
  have w23:=o19.lt
  refine ⟨0,0,0,(o19.rdN (nbl rfl)).trans rfl,?_⟩
  rw [e] at hk
  exact hk _ _ _ H_3 g21 ω7
 ·have e:=e.trans (zi c_16)
  have c_16n:=zr c_16
  have c_16n':=f19z_t c_16n
  refine z6f ?_
  refine Br.intro (fun c_24=>?_) (fun c_24=>?_)
  ·have e:=e.trans (zj c_24)
   have c_24n:=zv c_24
   refine Lt.setN (n:=3) o14 (nbl rfl) rfl (fun H_4 hl_25 o27 k26=>?_)
   have o27:Own H_4 b_1 [.int .i64 0,.float .f32 0,.float .f32 0]:=o27
   have l28:=k26.1
   have g29:=g12.keep (b:=b_1) ω2 k26
   have l30:=g29.1
   have w31:=o27.lt
   refine ⟨0,0,0,(o27.rdN (nbl rfl)).trans rfl,?_⟩
   rw [e] at hk
   exact hk _ _ _ H_4 g29 ω7
  ·have e:=e.trans (zi c_24)
   have c_24n:=zr c_24
   have c_24n':=zb3 c_24n
   refine Al.intro (fun b_32 H_5 hb_33 hl_34 g35 o36=>?_)
   have l38:=g35.1
   have g39:=g12.trans g35
   have l40:=g39.1
   have o41:=o14.grow g35
   have w42:=o41.lt
   have w312:=o36.lt
   refine Lt.setN (n:=3) o36 (nbl rfl) rfl (fun H_6 hl_43 o45 k44=>?_)
   have o45:Own H_6 b_32 [.int .i64 0,.float .f32 0,.float .f32 0]:=o45
   have l46:=k44.1
   have g47:=g39.keep (b:=b_32) ω2 k44
   have l48:=g47.1
   have o49:=o41.keep ω2 k44
   have w50:=o49.lt
   have w311:=o45.lt
   refine f7z_L1 _ _ _ _ _ _ _ _ (fun (μ:Nat) (found:Bool) (t35:Int) (H_7:zd)=>∃t6:Bool,∃q1_1:Int,∃(q1_2 q1_3:Nat),∃q1_4:Int,∃(q1_5 q1_6:Nat),Own H_7 b_1 [.int .i64 q1_1,.float .f32 q1_2,.float .f32 q1_3]∧Own H_7 b_32 [.int .i64 q1_4,.float .f32 q1_5,.float .f32 q1_6]∧(b_32≠b_1)∧Grow H H_7∧(0:Int)≤t35∧t35≤(ia.length:Int)∧(ia.length:Int)-t35≤(μ:Int)∧zt aa ia=z1y aa ia (μ+1) t6 found t35 q1_1 q1_2 q1_3 q1_4 q1_5 q1_6) (Int.toNat ((ia.length:Int)-(0:Int))) _ _ H_6 ?_ ?_
   ·exact ⟨_,_,_,_,_,_,_,o49,o45,ω2,g47,ω3,ω3,ω2,e⟩
   ·intro μ found t35  H_7 hI
    obtain ⟨t6,q1_1,q1_2,q1_3,q1_4,q1_5,q1_6,o51,o52,n53,g54,v55,v56,hμ,e⟩:=hI
    rw [f7z_r1]
    have e:=e.trans (zaj aa ia μ t6 found t35 q1_1 q1_2 q1_3 q1_4 q1_5 q1_6)
    have w57:=o51.lt
    have w58:=o52.lt
    have l59:=g54.1
    refine Br.intro (fun c60=>?_) (fun c60=>?_)
    ·have e:=e.trans (zj c60)
     have c_60':=odt c60
     obtain ⟨b61,f62,q63⟩:=((i_scales.grow g54)).pos ω0
     refine ⟨by omega,by omega,b61,f62,q63,?_⟩
     refine ⟨((ia).getD (t35:Int).toNat 0),(i_scales).rd g54 q63 ω2 _,?_⟩
     refine zln ?_
     refine Br.intro (fun c64=>?_) (fun c64=>?_)
     ·have e:=e.trans (zj c64)
      have c_64n:=zv c64
      refine Lt.setN (n:=3) o51 (nbl rfl) rfl (fun H_8 hl_65 o67 k66=>?_)
      have o67:Own H_8 b_1 [.int .i64 0,.float .f32 0,.float .f32 0]:=o67
      have l68:=k66.1
      have g69:=g54.keep (b:=b_1) ω2 k66
      have l70:=g69.1
      have o71:=o52.keep ω2 k66
      have w72:=o71.lt
      have w73:=o67.lt
      rw [f7z_x1_ret]
      refine ⟨0,0,0,(o67.rdN (nbl rfl)).trans rfl,?_⟩
      rw [e] at hk
      exact hk _ _ _ H_8 g69 ω7
     ·have e:=e.trans (zi c64)
      have c_64n:=zr c64
      refine zty ⟨ω16,fun a74 n75 e76 H_9 g79 r77=>?_⟩
      have z78:=zvc (((ia).getD (t35:Int).toNat 0)) (by first | assumption | omega)
      have l80:=g79.1
      have g81:=g54.trans g79
      have l82:=g81.1
      have o83:=o51.grow g79
      have w84:=o83.lt
      have o85:=o52.grow g79
      have w86:=o85.lt
      obtain rfl:=r77.isL.eqn
      have u87:=r77.up
      have u88:=r77.lo
      refine f7z_L2 _ _ _ _ _ _ _ _ _ _ _ _ _ _ (fun (μ2:Nat) (found_8:Bool) (t50:Int) (H_10:zd)=>∃q2_1:Int,∃(q2_2 q2_3:Nat),Own H_10 b_1 ([.int .i64 q1_1,.float .f32 q1_2,.float .f32 q1_3])∧Own H_10 b_32 [.int .i64 q2_1,.float .f32 q2_2,.float .f32 q2_3]∧OwnS fF H_10 H_7.length a74 (((z1j (((ia).getD (t35:Int).toNat 0))).1).length) e76 ((z1j (((ia).getD (t35:Int).toNat 0))).1)∧(b_32≠b_1)∧H_9.length≤H_10.length∧Grow H H_10∧(0:Int)≤t50∧t50≤(aa.length:Int)∧(aa.length:Int)-t50≤(μ2:Int)∧zt aa ia=z1q aa ia t6 found t35 q1_1 q1_2 q1_3 q1_4 q1_5 q1_6 (fun (found_8:Bool) (t50:Int) (q2_1:Int) (q2_2:Nat) (q2_3:Nat)=>(z1y aa ia μ t6 found_8 (t35+1) q1_1 q1_2 q1_3 q2_1 q2_2 q2_3)) (μ2+1) found_8 t50 q2_1 q2_2 q2_3) (Int.toNat ((aa.length:Int)-(0:Int))) _ _ H_9 ?_ ?_
      ·exact ⟨_,_,_,o83,o85,r77,ω2,ω2,g81,ω3,ω3,ω2,e⟩
      ·intro μ2 found_8 t50  H_10 hI
       obtain ⟨q2_1,q2_2,q2_3,o90,o91,r92,n93,n94,g95,v96,v97,hμ,e⟩:=hI
       rw [f7z_r2]
       have e:=e.trans (zak aa ia t6 found t35 q1_1 q1_2 q1_3 q1_4 q1_5 q1_6 (fun (found_8:Bool) (t50:Int) (q2_1:Int) (q2_2:Nat) (q2_3:Nat)=>(z1y aa ia μ t6 found_8 (t35+1) q1_1 q1_2 q1_3 q2_1 q2_2 q2_3)) μ2 found_8 t50 q2_1 q2_2 q2_3)
       have w98:=o90.lt
       have w99:=o91.lt
       have l100:=g95.1
       refine Br.intro (fun c101=>?_) (fun c101=>?_)
       ·have e:=e.trans (zj c101)
        have c_101':=odt c101
        refine zo7 ⟨_,r92.isL,ω0,ω16,ω16,ω16,ω16,ω16,ω16,fun a102 n103 e104 H_11 g107 r105=>?_⟩
        have z106:=f16z_full ((z1j (((ia).getD (t35:Int).toNat 0))).1) ((z1j (((ia).getD (t35:Int).toNat 0))).2) (aa.length:Int) t50 1065353216
        have l108:=g107.1
        have g109:=g95.trans g107
        have l110:=g109.1
        have o111:=o90.grow g107
        have w112:=o111.lt
        have o113:=o91.grow g107
        have w114:=o113.lt
        have r115:=r92.grow g107
        obtain rfl:=r105.isL.eqn
        have u116:=r105.up
        have u117:=r105.lo
        refine f7z_L3 _ _ _ _ _ _ _ _ _ _ _ _ _ _ _ _ _ _ _ (fun (μ3:Nat) (q:Nat) (t60:Int) (H_12:zd)=>∃q3_1:Int,∃(q3_2 q3_3:Nat),Own H_12 b_1 ([.int .i64 q1_1,.float .f32 q1_2,.float .f32 q1_3])∧Own H_12 b_32 [.int .i64 q3_1,.float .f32 q3_2,.float .f32 q3_3]∧OwnS fF H_12 H_7.length a74 (((z1j (((ia).getD (t35:Int).toNat 0))).1).length) e76 ((z1j (((ia).getD (t35:Int).toNat 0))).1)∧OwnS fF H_12 H_10.length a102 (((z2o ((z1j (((ia).getD (t35:Int).toNat 0))).1) ((z1j (((ia).getD (t35:Int).toNat 0))).2) (aa.length:Int) t50 1065353216)).length) e104 ((z2o ((z1j (((ia).getD (t35:Int).toNat 0))).1) ((z1j (((ia).getD (t35:Int).toNat 0))).2) (aa.length:Int) t50 1065353216))∧(b_32≠b_1)∧H_9.length≤H_12.length∧H_11.length≤H_12.length∧Grow H H_12∧(0:Int)≤t60∧t60≤(((z2o ((z1j (((ia).getD (t35:Int).toNat 0))).1) ((z1j (((ia).getD (t35:Int).toNat 0))).2) (aa.length:Int) t50 1065353216)).length:Int)∧(((z2o ((z1j (((ia).getD (t35:Int).toNat 0))).1) ((z1j (((ia).getD (t35:Int).toNat 0))).2) (aa.length:Int) t50 1065353216)).length:Int)-t60≤(μ3:Int)∧zt aa ia=z7s aa ia t6 found t35 q1_1 q1_2 q1_3 q1_4 q1_5 q1_6 found_8 t50 q2_1 q2_2 q2_3 (fun (q:Nat) (t60:Int) (q3_1:Int) (q3_2:Nat) (q3_3:Nat)=>(bif !found_8 then (z1q aa ia t6 found t35 q1_1 q1_2 q1_3 q1_4 q1_5 q1_6 (fun (found_8:Bool) (t50:Int) (q2_1:Int) (q2_2:Nat) (q2_3:Nat)=>(z1y aa ia μ t6 found_8 (t35+1) q1_1 q1_2 q1_3 q2_1 q2_2 q2_3)) μ2 true (t50+1) t50 (((ia).getD (t35:Int).toNat 0)) q) else (bif flt .f32 (z5z q3_3) (z5z q) then (z1q aa ia t6 found t35 q1_1 q1_2 q1_3 q1_4 q1_5 q1_6 (fun (found_8:Bool) (t50:Int) (q2_1:Int) (q2_2:Nat) (q2_3:Nat)=>(z1y aa ia μ t6 found_8 (t35+1) q1_1 q1_2 q1_3 q2_1 q2_2 q2_3)) μ2 true (t50+1) t50 (((ia).getD (t35:Int).toNat 0)) q) else (z1q aa ia t6 found t35 q1_1 q1_2 q1_3 q1_4 q1_5 q1_6 (fun (found_8:Bool) (t50:Int) (q2_1:Int) (q2_2:Nat) (q2_3:Nat)=>(z1y aa ia μ t6 found_8 (t35+1) q1_1 q1_2 q1_3 q2_1 q2_2 q2_3)) μ2 found_8 (t50+1) q3_1 q3_2 q3_3)))) (μ3+1) q t60 q3_1 q3_2 q3_3) (Int.toNat ((((z2o ((z1j (((ia).getD (t35:Int).toNat 0))).1) ((z1j (((ia).getD (t35:Int).toNat 0))).2) (aa.length:Int) t50 1065353216)).length:Int)-(0:Int))) _ _ H_11 ?_ ?_
        ·exact ⟨_,_,_,o111,o113,r115,r105,ω2,ω2,ω2,g109,ω3,ω3,ω2,e⟩
        ·intro μ3 q t60  H_12 hI
         obtain ⟨q3_1,q3_2,q3_3,o119,o120,r121,r122,n123,n124,n125,g126,v127,v128,hμ,e⟩:=hI
         rw [f7z_r3]
         have e:=e.trans (zal aa ia t6 found t35 q1_1 q1_2 q1_3 q1_4 q1_5 q1_6 found_8 t50 q2_1 q2_2 q2_3 (fun (q:Nat) (t60:Int) (q3_1:Int) (q3_2:Nat) (q3_3:Nat)=>(bif !found_8 then (z1q aa ia t6 found t35 q1_1 q1_2 q1_3 q1_4 q1_5 q1_6 (fun (found_8:Bool) (t50:Int) (q2_1:Int) (q2_2:Nat) (q2_3:Nat)=>(z1y aa ia μ t6 found_8 (t35+1) q1_1 q1_2 q1_3 q2_1 q2_2 q2_3)) μ2 true (t50+1) t50 (((ia).getD (t35:Int).toNat 0)) q) else (bif flt .f32 (z5z q3_3) (z5z q) then (z1q aa ia t6 found t35 q1_1 q1_2 q1_3 q1_4 q1_5 q1_6 (fun (found_8:Bool) (t50:Int) (q2_1:Int) (q2_2:Nat) (q2_3:Nat)=>(z1y aa ia μ t6 found_8 (t35+1) q1_1 q1_2 q1_3 q2_1 q2_2 q2_3)) μ2 true (t50+1) t50 (((ia).getD (t35:Int).toNat 0)) q) else (z1q aa ia t6 found t35 q1_1 q1_2 q1_3 q1_4 q1_5 q1_6 (fun (found_8:Bool) (t50:Int) (q2_1:Int) (q2_2:Nat) (q2_3:Nat)=>(z1y aa ia μ t6 found_8 (t35+1) q1_1 q1_2 q1_3 q2_1 q2_2 q2_3)) μ2 found_8 (t50+1) q3_1 q3_2 q3_3)))) μ3 q t60 q3_1 q3_2 q3_3)
         have w129:=o119.lt
         have w130:=o120.lt
         have l131:=g126.1
         refine Br.intro (fun c132=>?_) (fun c132=>?_)
         ·have e:=e.trans (zj c132)
          have c_132':=odt c132
          obtain ⟨b133,f134,q135⟩:=(r122.isL).pos ω0
          refine ⟨by omega,by omega,b133,f134,q135,?_⟩
          refine ⟨(((z2o ((z1j (((ia).getD (t35:Int).toNat 0))).1) ((z1j (((ia).getD (t35:Int).toNat 0))).2) (aa.length:Int) t50 1065353216)).getD (t60:Int).toNat 0),(r122.isL).rd (Grow.refl _) q135 ω2 _,?_⟩
          obtain ⟨b136,f137,q138⟩:=((i_list.grow g126)).pos ω0
          refine ⟨by omega,by omega,b136,f137,q138,?_⟩
          refine ⟨((aa).getD (t60:Int).toNat 0),(i_list).rd g126 q138 ω2 _,?_⟩
          rw [show IntKind.wrap .i64 (t60+1)=(t60+1) from zy ω2 ω2]
          refine f7z_n3 (μ3-1) ω18 ⟨_,_,_,o119,o120,r121,r122,ω2,ω2,ω2,g126,ω1,ω1,ω18,(by rw [show μ3-1+1=μ3 from by first | omega];exact e)⟩
         ·have e:=e.trans (zi c132)
          have c_132':=odf c132
          rw [f7z_x3_4]
          refine Br.intro (fun c139=>?_) (fun c139=>?_)
          ·have e:=e.trans (zj c139)
           have c_139n:=zv c139
           refine Lt.setN (n:=3) o120 (nbl rfl) rfl (fun H_13 hl_140 o142 k141=>?_)
           have o142:Own H_13 b_32 [.int .i64 t50,.float .f32 (((ia).getD (t35:Int).toNat 0)),.float .f32 q]:=o142
           have l143:=k141.1
           have g144:=g126.keep (b:=b_32) ω2 k141
           have l145:=g144.1
           have o146:=o119.keep ω2 k141
           have w147:=o146.lt
           have r148:=r121.keep u87 ω2 k141
           have r149:=r122.keep u116 ω2 k141
           have w150:=o142.lt
           rw [show IntKind.wrap .i64 (t50+1)=(t50+1) from zy ω2 ω2]
           refine f7z_n2 (μ2-1) ω18 ⟨_,_,_,o146,o142,r148,ω2,ω2,g144,ω1,ω1,ω18,ω30⟩
          ·have e:=e.trans (zi c139)
           have c_139n:=zr c139
           refine ⟨q3_3,(o120.rdC _).trans rfl,?_⟩
           refine zoc ?_
           refine zoc ?_
           refine Br.intro (fun c151=>?_) (fun c151=>?_)
           ·have e:=e.trans (zj c151)
            refine Lt.setN (n:=3) o120 (nbl rfl) rfl (fun H_14 hl_152 o154 k153=>?_)
            have o154:Own H_14 b_32 [.int .i64 t50,.float .f32 (((ia).getD (t35:Int).toNat 0)),.float .f32 q]:=o154
            have l155:=k153.1
            have g156:=g126.keep (b:=b_32) ω2 k153
            have l157:=g156.1
            have o158:=o119.keep ω2 k153
            have w159:=o158.lt
            have r160:=r121.keep u87 ω2 k153
            have r161:=r122.keep u116 ω2 k153
            have w162:=o154.lt
            rw [show IntKind.wrap .i64 (t50+1)=(t50+1) from zy ω2 ω2]
            refine f7z_n2 (μ2-1) ω18 ⟨_,_,_,o158,o154,r160,ω2,ω2,g156,ω1,ω1,ω18,ω30⟩
           ·have e:=e.trans (zi c151)
            rw [show IntKind.wrap .i64 (t50+1)=(t50+1) from zy ω2 ω2]
            refine f7z_n2 (μ2-1) ω18 ⟨_,_,_,o119,o120,r121,ω2,ω2,g126,ω1,ω1,ω18,ω30⟩
       ·have e:=e.trans (zi c101)
        have c_101':=odf c101
        rw [f7z_x2_2]
        rw [show IntKind.wrap .i64 (t35+1)=(t35+1) from zy ω2 ω2]
        refine f7z_n1 (μ-1) ω18 ⟨_,_,_,_,_,_,_,o90,o91,ω2,g95,ω1,ω1,ω18,ω19⟩
    ·have e:=e.trans (zi c60)
     have c_60':=odf c60
     rw [f7z_x1_0]
     refine ⟨q1_4,q1_5,q1_6,(o52.rdN (nbl rfl)).trans rfl,?_⟩
     refine zlk (fun a163 n164 e165 H_15 g168 r166=>?_)
     have z167:=zm6 (aa.length:Int) q1_4 q1_5 q1_6
     have l169:=g168.1
     have g170:=g54.trans g168
     have l171:=g170.1
     have o172:=o51.grow g168
     have w173:=o172.lt
     have o174:=o52.grow g168
     have w175:=o174.lt
     obtain rfl:=r166.isL.eqn
     have u176:=r166.up
     have u177:=r166.lo
     refine Br.intro (fun c179=>?_) (fun c179=>?_)
     ·have e:=e.trans (zj c179)
      have c_179n:=zv c179
      refine Lt.setN (n:=3) o172 (nbl rfl) rfl (fun H_16 hl_180 o182 k181=>?_)
      have o182:Own H_16 b_1 [.int .i64 0,.float .f32 0,.float .f32 0]:=o182
      have l183:=k181.1
      have g184:=g170.keep (b:=b_1) ω2 k181
      have l185:=g184.1
      have o186:=o174.keep ω2 k181
      have w187:=o186.lt
      have r188:=r166.keep u176 ω2 k181
      have w189:=o182.lt
      refine ⟨0,0,0,(o182.rdN (nbl rfl)).trans rfl,?_⟩
      rw [e] at hk
      exact hk _ _ _ H_16 g184 ω7
     ·have e:=e.trans (zi c179)
      have c_179n:=zr c179
      refine Al.intro (fun b190 H_17 hb_191 hl_192 g193 o194=>?_)
      have o194:Own H_17 b190 ((([]:LN)).map fF):=o194
      have l196:=g193.1
      have g197:=g170.trans g193
      have l198:=g197.1
      have o199:=o172.grow g193
      have w200:=o199.lt
      have o201:=o174.grow g193
      have w202:=o201.lt
      have r203:=r166.grow g193
      have w310:=o194.lt
      refine f7z_L4 _ _ _ _ _ _ _ _ (fun (μ4:Nat) (ib:OA) (jb:Nat) (lb:Nat) (t103:Int) (H_18:zd)=>∃bb:LN,∃b204:Nat,∃q4_1:Int,∃(q4_2 q4_3:Nat),ib=some ⟨b204,0,none⟩∧jb=bb.length∧lb=1∧Own H_18 b204 (bb.map fF)∧Own H_18 b_1 [.int .i64 q4_1,.float .f32 q4_2,.float .f32 q4_3]∧Own H_18 b_32 ([.int .i64 q1_4,.float .f32 q1_5,.float .f32 q1_6])∧OwnS fF H_18 H_7.length a163 (((z1s (aa.length:Int) q1_4 q1_5 q1_6).1).length) e165 ((z1s (aa.length:Int) q1_4 q1_5 q1_6).1)∧(b_32≠b_1)∧(b204≠b_1)∧(b204≠b_32)∧H_15.length≤H_18.length∧(b204<H_7.length∨H_15.length≤b204)∧Grow H H_18∧H.length≤b204∧(0:Int)≤t103∧t103≤(aa.length:Int)∧(bb.length:Int)≤t103-(0:Int)+0∧(aa.length:Int)-t103≤(μ4:Int)∧zt aa ia=z7t aa ia t6 found t35 q1_1 q1_2 q1_3 q1_4 q1_5 q1_6 (fun (bb:LN) (t103:Int) (q4_1:Int) (q4_2:Nat) (q4_3:Nat)=>(bif !((zaq ([bb]))) then ((0:Int),0,0,[],false) else (q1_4,q1_5,q1_6,bb,true))) (μ4+1) bb t103 q4_1 q4_2 q4_3) (Int.toNat ((aa.length:Int)-(0:Int))) _ _ _ _ H_17 ?_ ?_
      ·exact ⟨_,_,_,_,_,rfl,ω4,rfl,o194,o199,o201,r203,ω2,ω2,ω2,ω2,ω2,g197,ω2,ω3,ω3,ω3,ω2,e⟩
      ·intro μ4 ib jb lb t103  H_18 hI
       obtain ⟨bb,b204,q4_1,q4_2,q4_3,rfl,rfl,rfl,o205,o206,o207,r208,n209,n210,n211,n212,n213,g214,l215,v216,v217,v218,hμ,e⟩:=hI
       rw [f7z_r4]
       have e:=e.trans (zam aa ia t6 found t35 q1_1 q1_2 q1_3 q1_4 q1_5 q1_6 (fun (bb:LN) (t103:Int) (q4_1:Int) (q4_2:Nat) (q4_3:Nat)=>(bif !((zaq ([bb]))) then ((0:Int),0,0,[],false) else (q1_4,q1_5,q1_6,bb,true))) μ4 bb t103 q4_1 q4_2 q4_3)
       have hz:=zom (by assumption)
       have w219:=o206.lt
       have w220:=o207.lt
       have w221:=o205.lt
       have l222:=g214.1
       refine Br.intro (fun c223=>?_) (fun c223=>?_)
       ·have e:=e.trans (zj c223)
        have c_223':=odt c223
        obtain ⟨b224,f_225,q226⟩:=((i_list.grow g214)).pos ω0
        refine ⟨by omega,by omega,b224,f_225,q226,?_⟩
        refine ⟨((aa).getD (t103:Int).toNat 0),(i_list).rd g214 q226 ω2 _,?_⟩
        obtain ⟨b227,f228,q229⟩:=(r208.isL).pos ω0
        refine ⟨by omega,by omega,b227,f228,q229,?_⟩
        refine ⟨(((z1s (aa.length:Int) q1_4 q1_5 q1_6).1).getD (t103:Int).toNat 0),(r208.isL).rd (Grow.refl _) q229 ω2 _,?_⟩
        refine Al.intro (fun b230 H_19 hb_231 hl_232 g233 o234=>?_)
        have o234:Own H_19 b230 (([(fsub .f32 (((aa).getD (t103:Int).toNat 0)) ((((z1s (aa.length:Int) q1_4 q1_5 q1_6).1).getD (t103:Int).toNat 0)))]).map fF):=o234
        have l236:=g233.1
        have g237:=g214.trans g233
        have l238:=g237.1
        have o239:=o206.grow g233
        have w240:=o239.lt
        have o241:=o207.grow g233
        have w242:=o241.lt
        have o243:=o205.grow g233
        have w244:=o243.lt
        have r245:=r208.grow g233
        have w263:=o234.lt
        refine ⟨_,_,o243.ownB ω9 rfl,(zch (o234.isL ω4)),(fun h=>by cases h),ω40,?_⟩
        refine Ap.app o243 rfl rfl (fun b250 H_20 q261 hl_246 o247 k248=>?_)
        have o247:=z9t o247
        have l251:=k248.1
        have g252:=g237.keep (b:=b204) ω2 k248
        have l253:=g252.1
        have o254:=o239.keep ω2 k248
        have w255:=o254.lt
        have o256:=o241.keep ω2 k248
        have w257:=o256.lt
        have o258:=o234.keep ω2 k248
        have w259:=o258.lt
        have r260:=r245.keep u176 ω2 k248
        have w262:=o247.lt
        rw [show IntKind.wrap .i64 (t103+1)=(t103+1) from zy ω2 ω2]
        refine f7z_n4 (μ4-1) ω18 ⟨_,_,_,_,_,rfl,ω8,rfl,o247,o254,o256,r260,ω2,ω2,ω2,ω2,ω2,g252,ω2,ω1,ω1,ω1,ω18,(by rw [show μ4-1+1=μ4 from by first | omega];exact e)⟩
       ·have e:=e.trans (zi c223)
        have c_223':=odf c223
        rw [f7z_x4_6]
        refine Al.intro (fun b264 H_21 hb_265 hl_266 g267 o268=>?_)
        have l270:=g267.1
        have g271:=g214.trans g267
        have l272:=g271.1
        have o273:=o206.grow g267
        have w274:=o273.lt
        have o275:=o207.grow g267
        have w276:=o275.lt
        have o277:=o205.grow g267
        have w278:=o277.lt
        have r279:=r208.grow g267
        have w309:=o268.lt
        refine zli ⟨[bb],⟨_,o268.rdAll rfl,LLc.cons (o277.isL ω4) (LLc.nil _ _)⟩,ω0,ω20,?_⟩
        refine Br.intro (fun c280=>?_) (fun c280=>?_)
        ·have e:=e.trans (zj c280)
         have c_280n:=zv c280
         refine Lt.setN (n:=3) o273 (nbl rfl) rfl (fun H_22 hl_281 o283 k282=>?_)
         have o283:Own H_22 b_1 [.int .i64 0,.float .f32 0,.float .f32 0]:=o283
         have l284:=k282.1
         have g285:=g271.keep (b:=b_1) ω2 k282
         have l286:=g285.1
         have o287:=o275.keep ω2 k282
         have w288:=o287.lt
         have o289:=o277.keep ω2 k282
         have w290:=o289.lt
         have o291:=o268.keep ω2 k282
         have w292:=o291.lt
         have r293:=r279.keep u176 ω2 k282
         have w294:=o283.lt
         refine ⟨0,0,0,(o283.rdN (nbl rfl)).trans rfl,?_⟩
         rw [e] at hk
         exact hk _ _ _ H_22 g285 ω7
        ·have e:=e.trans (zi c280)
         have c_280n:=zr c280
         refine ⟨q1_4,q1_5,q1_6,(o275.rdN (nbl rfl)).trans rfl,?_⟩
         refine Lt.setN (n:=3) o273 (nbl rfl) rfl (fun H_23 hl_295 o297 k296=>?_)
         have o297:Own H_23 b_1 [.int .i64 q1_4,.float .f32 q1_5,.float .f32 q1_6]:=o297
         have l298:=k296.1
         have g299:=g271.keep (b:=b_1) ω2 k296
         have l300:=g299.1
         have o301:=o275.keep ω2 k296
         have w302:=o301.lt
         have o303:=o277.keep ω2 k296
         have w304:=o303.lt
         have o305:=o268.keep ω2 k296
         have w306:=o305.lt
         have r307:=r279.keep u176 ω2 k296
         have w308:=o297.lt
         refine ⟨q1_4,q1_5,q1_6,(o297.rdN (nbl rfl)).trans rfl,?_⟩
         rw [e] at hk
         exact hk _ _ _ H_23 g299 (o303.ownS ω4 ω2)
theorem f7z_ok:FnOk Try.prog 84 zlb:=by
 refine FnOk.body mix_ok zn9 Try.func84 rfl ω5 ω5 ?_ ?_ ?_ ?_ ?_
 ·intro args H K K' h hk
  simp only [zlb] at *
  unfold zsp at *
  split at hk
  ·obtain ⟨aa,ia,i_list,i_scales,bd_314,bd_315,k⟩:=hk
   exact ⟨aa,ia,i_list,i_scales,bd_314,bd_315,(fun ub wb vb H' gg ow0=>h _ _ (k ub wb vb H' gg ow0))⟩
  ·exact hk.elim
 ·intro hq;cases hq
 ·intro args H K hk
  simp only [zlb] at *
  unfold zsp at *
  split at hk
  ·obtain ⟨aa,ia,i_list,i_scales,bd_314,bd_315,k⟩:=hk
   exact zk5 fun a n e H1 g o=>⟨_,_,k a n e H1 g o⟩
  ·exact hk.elim
 ·intro _ args H K hk
  simp only [zlb] at *
  unfold zsp at *
  split at hk
  ·obtain ⟨aa,ia,i_list,i_scales,bd_314,bd_315,k⟩:=hk
   exact ⟨aa,ia,i_list,i_scales,bd_314,bd_315,(fun ub wb vb H' gg ow0=>⟨gg,k ub wb vb H' gg ow0⟩)⟩
  ·exact hk.elim
 ·have mm:=@f7z_main
  have ml:=fun (args:List Value) (H:zd) (K:KT)=>zf (P:=Try.prog) (env:=z2q) (fn:=Try.f84) (args:=args) (H:=H) (K:=K) zn9 
  revert mm ml
  generalize z1a Try.prog z2q Try.f84=Q
  generalize zk Try.prog z2q Try.f84=QL
  intro mm ml args H K hk
  simp only [zlb] at *
  unfold zsp at *
  split at hk
  ·exact ml _ H K (mm _ _ _ _ _ _ H K hk)
  ·exact hk.elim

def z3z (aa:LN):Nat→Nat→Int→Nat
 | 0,_,_=>0
 | μ+1,sum,t7=>(bif decide ((t7:Int)<(aa.length:Int)) then (z3z aa μ (fadd .f64 sum (fmul .f64 (zh (((aa).getD (t7:Int).toNat 0))) (zh (((aa).getD (t7:Int).toNat 0))))) (t7+1)) else sum)
def zf9:=fun aa μ sum t7=>@z3z.eq_2 aa sum t7 μ
def z4q (aa:LN):Nat:=(z3z aa (Int.toNat ((aa.length:Int)-(0:Int))+1) 0 (0:Int))
def zp8:=@z4q.eq_1
def zlh (ca:OA) (ba ga:Nat) (H:zd) (K:Nat→zd→Prop):Prop:=∃aa:LN,IsL fF H ca ba aa∧aa.length<1073741824∧K (z4q aa) H
theorem zfw {ca:OA} {ba ga:Nat} {H:zd} {K:Nat→zd→Prop} (h:∃aa:LN,IsL fF H ca ba aa∧aa.length<1073741824∧K (z4q aa) H):zlh ca ba ga H K:=h

def zbg:Env:=envOf []
def zsv:List Value→zd→(Value→zd→Prop)→Prop
 | [.slice ca ba ga],H,K=>zlh ca ba ga H fun (r1:Nat) (H':zd)=>K (.float .f64 r1) H'
 | _,_,_=>False
def zqq:FSpec:={F:=zsv,quiet:=true,tame:=false}
theorem z1ab (ca:OA) (ba ga:Nat) (H:zd) (K:KT):zk Try.prog zbg Try.f83 [.slice ca ba ga] H K=
 (z1b (exL Try.prog zbg (cl (cl (cr (cl (cr (cr (zg Try.f83))))))) 201 4 [(0,8)]) (.slice ca ba ga::ud2 (.float .f64 0::ud2 (.int .i64 (ba:Int)::.int .i64 0::ud17 []))) H (zn 0 (seqQ (exL Try.prog zbg (cr (cr (cr (zg Try.f83)))) 4 4 []) (retK Try.prog Try.f83 K)))):=by kernel_rfl
abbrev zji (ca:OA) (ga ba sum:Nat) (t7:Int)  :List Value:=(.slice ca ba ga::ud2 (.float .f64 sum::ud2 (.int .i64 (ba:Int)::.int .i64 t7::ud17 [])))
theorem z1aa (ca:OA) (ga ba sum:Nat) (t7:Int)  (H:zd) (R:Post):exL Try.prog zbg (cl (cl (cr (cl (cr (cr (zg Try.f83))))))) 201 4 [(0,8)] (zji ca ga ba sum t7) H R=
 (Br (decide ((t7:Int)<(ba:Int))) ((0:Int)≤t7∧t7<(ba:Int)∧∃b1 f1,(ca:OA)=some ⟨b1,f1,none⟩∧∃x1:Nat,  rdC H b1 (f1+(t7:Int).toNat*1)=some (.float .f32 x1)∧(0:Int)≤t7∧t7<(ba:Int)∧∃b2 f2,(ca:OA)=some ⟨b2,f2,none⟩∧∃x2:Nat,  rdC H b2 (f2+(t7:Int).toNat*1)=some (.float .f32 x2)∧R .normal (.slice ca ba ga::ud2 (.float .f64 (fadd .f64 sum (fmul .f64 (zh x1) (zh x2)))::ud2 (.int .i64 (ba:Int)::.int .i64 (IntKind.wrap .i64 (t7+1))::ud17 []))) H) (R (.exit 0) (ud3 (.float .f64 sum::ud21 [])) H)):=by kernel_rfl
def zvd (ca:OA) (ga ba:Nat) (Inv:Nat→Nat→Int→zd→Prop):Nat→List Value→zd→Prop:=fun μ tm H=>∃sum:Nat,∃t7:Int,tm=(zji ca ga ba sum t7)∧Inv μ sum t7 H
theorem z1a7 (ca:OA) (ga ba:Nat) {Q:Post} (Inv:Nat→Nat→Int→zd→Prop) (ν sum:Nat) (t7:Int)  (H:zd) (h0:Inv ν sum t7 H)
  (hs:∀(μ:Nat) (sum:Nat) (t7:Int)  (H:zd),Inv μ sum t7 H→exL Try.prog zbg (cl (cl (cr (cl (cr (cr (zg Try.f83))))))) 201 4 [(0,8)] (zji ca ga ba sum t7) H (zp (zvd ca ga ba Inv) μ Q)):z1b (exL Try.prog zbg (cl (cl (cr (cl (cr (cr (zg Try.f83))))))) 201 4 [(0,8)]) (zji ca ga ba sum t7) H Q:=
 ⟨zvd ca ga ba Inv,ν,⟨sum,t7,rfl,h0⟩,fun μ tm H h=>by obtain ⟨sum,t7,rfl,hI⟩:=h;exact hs μ sum t7  H hI⟩
theorem z1a8 {ca:OA} {ga ba:Nat} {Q:Post} {Inv:Nat→Nat→Int→zd→Prop} {μ:Nat} (μ':Nat) {sum:Nat} {t7:Int}  {H:zd} (hm:μ'<μ) (hI:Inv μ' sum t7 H):zp (zvd ca ga ba Inv) μ Q .normal (zji ca ga ba sum t7) H:=⟨μ',hm,sum,t7,rfl,hI⟩
theorem zze (sum:Nat) (H:zd) (K:KT)  {I:Nat→List Value→zd→Prop} {μ:Nat}:zp I μ (zn 0 (seqQ (exL Try.prog zbg (cr (cr (cr (zg Try.f83)))) 4 4 []) (retK Try.prog Try.f83 K))) (.exit 0) (ud3 (.float .f64 sum::ud21 [])) H=
 (K (.float .f64 sum) H):=by kernel_rfl
theorem znf:∀g,FnOk Try.prog g (zbg g):=FnOk.envOf (by
 intro x hx;cases hx)
theorem zzd (ca:OA) (ba ga:Nat) (H:zd) (K:KT) (h:zlh ca ba ga H fun (r1:Nat) (H':zd)=>K (.float .f64 r1) H'):zk Try.prog zbg Try.f83 [.slice ca ba ga] H K:=by
 rw [z1ab]
 obtain ⟨aa,i_list,bd_11,hk⟩:=h
 obtain rfl:=i_list.eqn
 have e:(z4q aa)=_:=rfl
 have e:=e.trans (zp8 aa)
 have g0:=Grow.refl H
 refine z1a7 _ _ _ (fun (μ:Nat) (sum:Nat) (t7:Int) (H_1:zd)=>H=H_1∧(0:Int)≤t7∧t7≤(aa.length:Int)∧(aa.length:Int)-t7≤(μ:Int)∧z4q aa=z3z aa (μ+1) sum t7) (Int.toNat ((aa.length:Int)-(0:Int))) _ _ H ?_ ?_
 ·exact ⟨rfl,ω3,ω3,ω2,e⟩
 ·intro μ sum t7  H_1 hI
  obtain ⟨rfl,v_1,v_2,hμ,e⟩:=hI
  rw [z1aa]
  have e:=e.trans (zf9 aa μ sum t7)
  have l3:=g0.1
  refine Br.intro (fun c_4=>?_) (fun c_4=>?_)
  ·have e:=e.trans (zj c_4)
   have c_4':=odt c_4
   obtain ⟨b_5,f6,q_7⟩:=((i_list.grow g0)).pos ω0
   refine ⟨by omega,by omega,b_5,f6,q_7,?_⟩
   refine ⟨((aa).getD (t7:Int).toNat 0),(i_list).rd g0 q_7 ω2 _,?_⟩
   obtain ⟨b_8,f9,q10⟩:=((i_list.grow g0)).pos ω0
   refine ⟨by omega,by omega,b_8,f9,q10,?_⟩
   refine ⟨((aa).getD (t7:Int).toNat 0),(i_list).rd g0 q10 ω2 _,?_⟩
   rw [show IntKind.wrap .i64 (t7+1)=(t7+1) from zy ω2 ω2]
   refine z1a8 (μ-1) ω18 ⟨rfl,ω1,ω1,ω18,ω19⟩
  ·have e:=e.trans (zi c_4)
   have c_4':=odf c_4
   rw [zze]
   rw [e] at hk
   exact hk
theorem z1a9:FnOk Try.prog 83 zqq:=by
 refine FnOk.body mix_ok znf Try.func83 rfl ω5 ω5 ?_ ?_ ?_ ?_ ?_
 ·intro args H K K' h hk
  simp only [zqq] at *
  unfold zsv at *
  split at hk
  ·obtain ⟨aa,i_list,bd_11,k⟩:=hk
   exact ⟨aa,i_list,bd_11,h _ _ k⟩
  ·exact hk.elim
 ·intro _ args H K hk
  simp only [zqq] at *
  unfold zsv at *
  split at hk
  ·obtain ⟨aa,i_list,bd_11,k⟩:=hk
   exact ⟨_,k,fun K' k'=>⟨aa,i_list,bd_11,k'⟩⟩
  ·exact hk.elim
 ·intro args H K hk
  simp only [zqq] at *
  unfold zsv at *
  split at hk
  ·obtain ⟨aa,i_list,bd_11,k⟩:=hk
   exact ⟨_,_,k⟩
  ·exact hk.elim
 ·intro hq;cases hq
 ·have mm:=@zzd
  have ml:=fun (args:List Value) (H:zd) (K:KT)=>zf (P:=Try.prog) (env:=zbg) (fn:=Try.f83) (args:=args) (H:=H) (K:=K) znf 
  revert mm ml
  generalize z1a Try.prog zbg Try.f83=Q
  generalize zk Try.prog zbg Try.f83=QL
  intro mm ml args H K hk
  simp only [zqq] at *
  unfold zsv at *
  split at hk
  ·exact ml _ H K (mm _ _ _ H K hk)
  ·exact hk.elim
def z2f (a b:Nat):Nat:=(bif flt .f64 a b then fsub .f64 b a else fsub .f64 a b)
def z8o (a b:Nat) (H:zd) (K:Nat→zd→Prop):Prop:=K (z2f a b) H

theorem z7n {a b:Nat} {H:zd} {K:Nat→zd→Prop} (h:K (z2f a b) H):z8o a b H K:=h
def zdz:Env:=envOf []
def zi8:List Value→zd→(Value→zd→Prop)→Prop
 | [.float .f64 a,.float .f64 b],H,K=>z8o a b H fun (r1:Nat) (H':zd)=>K (.float .f64 r1) H'
 | _,_,_=>False
def zeg:FSpec:={F:=zi8,quiet:=true,tame:=false}
theorem z15a (a b:Nat) (H:zd) (K:KT):zk Try.prog zdz Try.f48 [.float .f64 a,.float .f64 b] H K=
 (Br (flt .f64 a b) (K (.float .f64 (fsub .f64 b a)) H) (K (.float .f64 (fsub .f64 a b)) H)):=by kernel_rfl
theorem zhm:∀g,FnOk Try.prog g (zdz g):=FnOk.envOf (by
 intro x hx;cases hx)
theorem zut (a b:Nat) (H:zd) (K:KT) (h:z8o a b H fun (r1:Nat) (H':zd)=>K (.float .f64 r1) H'):zk Try.prog zdz Try.f48 [.float .f64 a,.float .f64 b] H K:=by
 rw [z15a]
 unfold z8o z2f at h
 repeat' (first | exact h | (exfalso;simp_all;done) | (refine ⟨by decide,?_⟩) | (refine Br.intro (fun hb=>?_) (fun hb=>?_)<;>(try simp only [hb,cond_true,cond_false,Bool.not_true,Bool.not_false] at h)))
theorem z14z:FnOk Try.prog 48 zeg:=by
 refine FnOk.body mix_ok zhm Try.func48 rfl ω5 ω5 ?_ ?_ ?_ ?_ ?_
 ·intro args H K K' h hk
  simp only [zeg] at *
  unfold zi8 at *
  split at hk
  ·have k:=hk
   exact h _ _ k
  ·exact hk.elim
 ·intro _ args H K hk
  simp only [zeg] at *
  unfold zi8 at *
  split at hk
  ·have k:=hk
   exact ⟨_,k,fun K' k'=>k'⟩
  ·exact hk.elim
 ·intro args H K hk
  simp only [zeg] at *
  unfold zi8 at *
  split at hk
  ·have k:=hk
   exact ⟨_,_,k⟩
  ·exact hk.elim
 ·intro hq;cases hq
 ·have mm:=@zut
  have ml:=fun (args:List Value) (H:zd) (K:KT)=>zf (P:=Try.prog) (env:=zdz) (fn:=Try.f48) (args:=args) (H:=H) (K:=K) zhm 
  revert mm ml
  generalize z1a Try.prog zdz Try.f48=Q
  generalize zk Try.prog zdz Try.f48=QL
  intro mm ml args H K hk
  simp only [zeg] at *
  unfold zi8 at *
  split at hk
  ·exact ml _ H K (mm _ _ H K hk)
  ·exact hk.elim

def zp3 (aa:LN):LN:=(([]:LN)++aa)
def zkj:=@zp3.eq_1
def zo8 (ca:OA) (ba ga:Nat) (H:zd) (K:OA→Nat→Nat→zd→Prop):Prop:=∃aa:LN,IsL fF H ca ba aa∧aa.length<1073741824∧((∀(za:OA) (db cb:Nat),∀H':zd,Grow H H'→OwnS fF H' H.length za db cb aa→K za db cb H'))
theorem zy4 {ca:OA} {ba ga:Nat} {H:zd} {K:OA→Nat→Nat→zd→Prop} (h:∃aa:LN,IsL fF H ca ba aa∧aa.length<1073741824∧((∀(za:OA) (db cb:Nat),∀H':zd,Grow H H'→OwnS fF H' H.length za db cb aa→K za db cb H'))):zo8 ca ba ga H K:=h
theorem f17z_id (l:LN):zp3 l=l:=by
 rw [zkj];rfl
def zdv:Env:=envOf []
def zi3:List Value→zd→(Value→zd→Prop)→Prop
 | [.slice ca ba ga],H,K=>zo8 ca ba ga H fun (za:OA) (db:Nat) (cb:Nat) (H':zd)=>K (.slice za db cb) H'
 | _,_,_=>False
def zee:FSpec:={F:=zi3,quiet:=false,tame:=true}
theorem f17z_vc (ca:OA) (ba ga:Nat) (H:zd) (K:KT):zk Try.prog zdv Try.f122 [.slice ca ba ga] H K=
 (Al [] H fun b1 H1=>∃o1 w1:List Value,ownB H1 (some ⟨b1,0,none⟩) 0 1 1=some o1∧rdS H1 ca (ba*1)=some w1∧((some ⟨b1,0,none⟩:OA)=none→0<(ba:Nat))∧(0:Nat)+ba<most∧Ap H1 (z5l H1 (some ⟨b1,0,none⟩)++[some ⟨o1++w1,true⟩]) fun b2 H2=>K (.slice (some ⟨b2,0,none⟩) (0+ba) 1) H2):=by kernel_rfl
theorem zhh:∀g,FnOk Try.prog g (zdv g):=FnOk.envOf (by
 intro x hx;cases hx)
theorem f17z_main (ca:OA) (ba ga:Nat) (H:zd) (K:KT) (h:zo8 ca ba ga H fun (za:OA) (db:Nat) (cb:Nat) (H':zd)=>K (.slice za db cb) H'):zk Try.prog zdv Try.f122 [.slice ca ba ga] H K:=by
 rw [f17z_vc]
 obtain ⟨aa,i_list,bd_21,hk⟩:=h
 have hk:(∀(za:OA) (db cb:Nat),∀H':zd,Grow H H'→OwnS fF H' H.length za db cb (zp3 aa)→(fun (za:OA) (db:Nat) (cb:Nat) (H':zd)=>K (.slice za db cb) H') za db cb H'):=by rw [f17z_id aa];exact hk
 obtain rfl:=i_list.eqn
 have e:(zp3 aa)=_:=rfl
 have e:=e.trans (zkj aa)
 have g0:=Grow.refl H
 refine Al.intro (fun b_1 H_1 hb_2 hl_3 g_4 o5=>?_)
 have o5:Own H_1 b_1 ((([]:LN)).map fF):=o5
 have l_7:=g_4.1
 have g8:=g0.trans g_4
 have l_9:=g8.1
 have w20:=o5.lt
 refine ⟨_,_,o5.ownB ω9 rfl,(zch (i_list.grow g8)),(fun h=>by cases h),ω40,?_⟩
 refine Ap.app o5 rfl rfl (fun b14 H_2 q18 hl_10 o11 k12=>?_)
 have o11:=z9t o11
 have l15:=k12.1
 have g16:=g8.keep (b:=b_1) ω2 k12
 have l17:=g16.1
 have w19:=o11.lt
 rw [e] at hk
 exact hk _ _ _ H_2 g16 (o11.ownS ω8 ω2)
theorem f17z_ok:FnOk Try.prog 122 zee:=by
 refine FnOk.body mix_ok zhh Try.func122 rfl ω5 ω5 ?_ ?_ ?_ ?_ ?_
 ·intro args H K K' h hk
  simp only [zee] at *
  unfold zi3 at *
  split at hk
  ·obtain ⟨aa,i_list,bd_21,k⟩:=hk
   exact ⟨aa,i_list,bd_21,(fun za db cb H' gg ow0=>h _ _ (k za db cb H' gg ow0))⟩
  ·exact hk.elim
 ·intro hq;cases hq
 ·intro args H K hk
  simp only [zee] at *
  unfold zi3 at *
  split at hk
  ·obtain ⟨aa,i_list,bd_21,k⟩:=hk
   exact zk5 fun a n e H1 g o=>⟨_,_,k a n e H1 g o⟩
  ·exact hk.elim
 ·intro _ args H K hk
  simp only [zee] at *
  unfold zi3 at *
  split at hk
  ·obtain ⟨aa,i_list,bd_21,k⟩:=hk
   exact ⟨aa,i_list,bd_21,(fun za db cb H' gg ow0=>⟨gg,k za db cb H' gg ow0⟩)⟩
  ·exact hk.elim
 ·have mm:=@f17z_main
  have ml:=fun (args:List Value) (H:zd) (K:KT)=>zf (P:=Try.prog) (env:=zdv) (fn:=Try.f122) (args:=args) (H:=H) (K:=K) zhh 
  revert mm ml
  generalize z1a Try.prog zdv Try.f122=Q
  generalize zk Try.prog zdv Try.f122=QL
  intro mm ml args H K hk
  simp only [zee] at *
  unfold zi3 at *
  split at hk
  ·exact ml _ H K (mm _ _ _ H K hk)
  ·exact hk.elim

def z4l (aa ia:LN) (count:Int) (t8:Bool) (t32:Int) (k2_2:Bool→(List (Int×Nat×Nat))→LN→Int→((List (Int×Nat×Nat))×LN×Bool)):Nat→Bool→(List (Int×Nat×Nat))→LN→Int→(List (Int×Nat×Nat))×LN×Bool
 | 0,_,_,_,_=>([],[],false)
 | μ2+1,t8_8,oa,bb,t44=>(bif decide ((t44:Int)<count) then (bif !((zt bb ia).2.2.2.2) then ([],[],false) else (z4l aa ia count t8 t32 k2_2 μ2 t8_8 ((oa++[(((zt bb ia).1:Int),((zt bb ia).2.1),((zt bb ia).2.2.1))])) ((zt bb ia).2.2.2.1) (t44+1))) else (k2_2 t8_8 oa bb t44))
def z6k:=fun aa ia count t8 t32 k2_2 μ2 t8_8 oa bb t44=>@z4l.eq_2 aa ia count t8 t32 k2_2 t8_8 oa bb t44 μ2
def z5v (aa ia:LN) (count:Int):Nat→Bool→Int→(List (Int×Nat×Nat))×LN×Bool
 | 0,_,_=>([],[],false)
 | μ+1,t8,t32=>(bif decide ((t32:Int)<(ia.length:Int)) then (bif !((z8l (((ia).getD (t32:Int).toNat 0)))) then ([],[],false) else (z5v aa ia count μ t8 (t32+1))) else (z4l aa ia count t8 t32 (fun (t8_8:Bool) (oa:List (Int×Nat×Nat)) (bb:LN) (t44:Int)=>(oa,bb,true)) (Int.toNat (count-(0:Int))+1) t8 (([]:List (Int×Nat×Nat))) aa (0:Int)))
def z9e:=fun aa ia count μ t8 t32=>@z5v.eq_2 aa ia count t8 t32 μ
def zw (aa ia:LN) (count:Int):(List (Int×Nat×Nat))×LN×Bool:=(bif !(z6x aa) then ([],[],false) else (bif !((z1n (ia.length:Int) (1:Int) (12:Int))) then ([],[],false) else (bif !((z1n count (0:Int) (16:Int))) then ([],[],false) else (z5v aa ia count (Int.toNat ((ia.length:Int)-(0:Int))+1) false (0:Int)))))
def zcx:=@zw.eq_1
def zo6 (ca:OA) (ba ga:Nat) (ma:OA) (ka na:Nat) (count:Int) (H:zd) (K:OA→Nat→Nat→OA→Nat→Nat→Bool→zd→Prop):Prop:=∃(aa ia:LN),IsL fF H ca ba aa∧IsL fF H ma ka ia∧aa.length<1073741824∧ia.length<1073741824∧((∀(za:OA) (db cb:Nat),∀(ub:OA) (wb vb:Nat),∀H':zd,Grow H H'→OwnT fA H' H.length za db cb ((zw aa ia count).1)→OwnS fF H' H.length ub wb vb ((zw aa ia count).2.1)→SepA za ub→K za db cb ub wb vb ((zw aa ia count).2.2) H'))
theorem zy3 {ca:OA} {ba ga:Nat} {ma:OA} {ka na:Nat} {count:Int} {H:zd} {K:OA→Nat→Nat→OA→Nat→Nat→Bool→zd→Prop} (h:∃(aa ia:LN),IsL fF H ca ba aa∧IsL fF H ma ka ia∧aa.length<1073741824∧ia.length<1073741824∧((∀(za:OA) (db cb:Nat),∀(ub:OA) (wb vb:Nat),∀H':zd,Grow H H'→OwnT fA H' H.length za db cb ((zw aa ia count).1)→OwnS fF H' H.length ub wb vb ((zw aa ia count).2.1)→SepA za ub→K za db cb ub wb vb ((zw aa ia count).2.2) H'))):zo6 ca ba ga ma ka na count H K:=h
def PR (N:Nat) (r:(List (Int×Nat×Nat))×LN×Bool):Prop:=r.1.length≤16∧r.2.1.length≤N
theorem ω42 {P:Prop} (h:P:=by rw [List.length_append,List.length_singleton];omega):P:=h
theorem f15z_l2_len (l sc:LN) (c:Int) (t8:Bool) (t32:Int) (hc:c≤16):∀(μ:Nat) (t:Bool) (a:List (Int×Nat×Nat)) (r:LN) (k:Int),(a.length:Int)≤k→k≤16→r.length≤l.length→
  PR l.length (z4l l sc c t8 t32 (fun (t8_8:Bool) (oa:List (Int×Nat×Nat)) (bb:LN) (t44:Int)=>(oa,bb,true)) μ t a r k):=by
 intro μ
 induction μ with
 | zero=>intro t a r k h1 h2 h3;exact ⟨Nat.zero_le _,Nat.zero_le _⟩
 | succ μ ih=>
  intro t a r k h1 h2 h3
  rw [z6k]
  refine cnb (P:=PR l.length) (fun hk=>?_) (fun _=>⟨by show a.length≤16;omega,h3⟩)
  have hk:=odt hk
  refine cnb (P:=PR l.length) (fun _=>⟨Nat.zero_le _,Nat.zero_le _⟩) (fun _=>?_)
  exact ih _ _ _ _ ω42 ω2 (Nat.le_trans (f7z_len _ _) h3)
theorem f15z_len (l sc:LN) (c:Int):(zw l sc c).1.length≤16∧(zw l sc c).2.1.length≤l.length:=by
 have z:PR l.length ([],[],false):=⟨Nat.zero_le _,Nat.zero_le _⟩
 have go:∀(hc:c≤16) (μ:Nat) (t:Bool) (k:Int),PR l.length (z5v l sc c μ t k):=by
  intro hc μ
  induction μ with
  | zero=>intro t k;exact z
  | succ μ ih=>
   intro t k
   rw [z9e]
   refine cnb (P:=PR l.length) (fun _=>cnb (P:=PR l.length) (fun _=>z) (fun _=>ih _ _)) (fun _=>?_)
   exact f15z_l2_len l sc c _ _ hc _ _ _ _ _ (by rw [List.length_nil];decide) ω11 (by first | exact Nat.le_refl _ | (rw [f17z_id];exact Nat.le_refl _))
 rw [zcx]
 refine cnb (P:=PR l.length) (fun _=>z) (fun _=>cnb (P:=PR l.length) (fun _=>z) (fun _=>cnb (P:=PR l.length) (fun _=>z) (fun hc=>?_)))
 have hc:=zh9 (zr hc)
 exact go hc.2 _ _ _
def z2y:Env:=envOf [(105,zaz),(96,z8n),(163,ziq),(122,zee),(84,zlb)]
def zi1:List Value→zd→(Value→zd→Prop)→Prop
 | [.slice ca ba ga,.slice ma ka na,.int .i64 count],H,K=>zo6 ca ba ga ma ka na count H fun (za:OA) (db:Nat) (cb:Nat) (ub:OA) (wb:Nat) (vb:Nat) (r3:Bool) (H':zd)=>K (.tuple #[.slice za db cb,.slice ub wb vb,.bool r3]) H'
 | _,_,_=>False
def zed:FSpec:={F:=zi1,quiet:=false,tame:=true}
theorem f15z_vc (ca:OA) (ba ga:Nat) (ma:OA) (ka na:Nat) (count:Int) (H:zd) (K:KT):zk Try.prog z2y Try.f86 [.slice ca ba ga,.slice ma ka na,.int .i64 count] H K=
 (zc5 ca ba ga H fun (r1:Bool) (H1:zd)=>Br (!r1) (K (.tuple #[.slice none 0 0,.slice none 0 0,.bool false]) H1) (z7a (ka:Int) 1 12 H1 fun (r2:Bool) (H2:zd)=>Br (!r2) (K (.tuple #[.slice none 0 0,.slice none 0 0,.bool false]) H2) (z7a count 0 16 H2 fun (r3:Bool) (H3:zd)=>Br (!r3) (K (.tuple #[.slice none 0 0,.slice none 0 0,.bool false]) H3) (z1b (exL Try.prog z2y (cl (cl (cr (cl (cr (cr (zg Try.f86))))))) 7516192775 448 [(0,7)]) (.slice ca ba ga::.slice ma ka na::.int .i64 count::ud27 (.slice ma ka na::.int .i64 (ka:Int)::.int .i64 0::ud30 [])) H3 (zn 0 (seqQ (exL Try.prog z2y (cr (cr (cr (zg Try.f86)))) 448 448 []) (retK Try.prog Try.f86 K))))))):=by kernel_rfl
abbrev f15z_P1 (count:Int) (ca:OA) (ga ba:Nat) (ma:OA) (na ka:Nat) (t32:Int)  :List Value:=(.slice ca ba ga::.slice ma ka na::.int .i64 count::ud27 (.slice ma ka na::.int .i64 (ka:Int)::.int .i64 t32::ud30 []))
theorem f15z_r1 (count:Int) (ca:OA) (ga ba:Nat) (ma:OA) (na ka:Nat) (t32:Int)  (H:zd) (R:Post):exL Try.prog z2y (cl (cl (cr (cl (cr (cr (zg Try.f86))))))) 7516192775 448 [(0,7)] (f15z_P1 count ca ga ba ma na ka t32) H R=
 (Br (decide ((t32:Int)<(ka:Int))) ((0:Int)≤t32∧t32<(ka:Int)∧∃b1 f1,(ma:OA)=some ⟨b1,f1,none⟩∧∃x1:Nat,  rdC H b1 (f1+(t32:Int).toNat*1)=some (.float .f32 x1)∧zlm x1 H fun (r4:Bool) (H4:zd)=>Br (!r4) (R .ret (ud6 (.slice none 0 0::.slice none 0 0::.bool false::ud54 [])) H4) (R .normal (.slice ca ba ga::.slice ma ka na::.int .i64 count::ud27 (.slice ma ka na::.int .i64 (ka:Int)::.int .i64 (IntKind.wrap .i64 (t32+1))::ud30 [])) H4)) (R (.exit 0) (.slice ca ba ga::.slice ma ka na::.int .i64 count::ud60 []) H)):=by kernel_rfl
def f15z_I1 (count:Int) (ca:OA) (ga ba:Nat) (ma:OA) (na ka:Nat) (Inv:Nat→Int→zd→Prop):Nat→List Value→zd→Prop:=fun μ tm H=>∃t32:Int,tm=(f15z_P1 count ca ga ba ma na ka t32)∧Inv μ t32 H
theorem f15z_L1 (count:Int) (ca:OA) (ga ba:Nat) (ma:OA) (na ka:Nat) {Q:Post} (Inv:Nat→Int→zd→Prop) (ν:Nat) (t32:Int)  (H:zd) (h0:Inv ν t32 H)
  (hs:∀(μ:Nat) (t32:Int)  (H:zd),Inv μ t32 H→exL Try.prog z2y (cl (cl (cr (cl (cr (cr (zg Try.f86))))))) 7516192775 448 [(0,7)] (f15z_P1 count ca ga ba ma na ka t32) H (zp (f15z_I1 count ca ga ba ma na ka Inv) μ Q)):z1b (exL Try.prog z2y (cl (cl (cr (cl (cr (cr (zg Try.f86))))))) 7516192775 448 [(0,7)]) (f15z_P1 count ca ga ba ma na ka t32) H Q:=
 ⟨f15z_I1 count ca ga ba ma na ka Inv,ν,⟨t32,rfl,h0⟩,fun μ tm H h=>by obtain ⟨t32,rfl,hI⟩:=h;exact hs μ t32  H hI⟩
theorem f15z_n1 {count:Int} {ca:OA} {ga ba:Nat} {ma:OA} {na ka:Nat} {Q:Post} {Inv:Nat→Int→zd→Prop} {μ:Nat} (μ':Nat) {t32:Int}  {H:zd} (hm:μ'<μ) (hI:Inv μ' t32 H):zp (f15z_I1 count ca ga ba ma na ka Inv) μ Q .normal (f15z_P1 count ca ga ba ma na ka t32) H:=⟨μ',hm,t32,rfl,hI⟩
theorem f15z_x1_0 (count:Int) (ca:OA) (ga ba:Nat) (ma:OA) (na ka:Nat) (H:zd) (K:KT)  {I:Nat→List Value→zd→Prop} {μ:Nat}:zp I μ (zn 0 (seqQ (exL Try.prog z2y (cr (cr (cr (zg Try.f86)))) 448 448 []) (retK Try.prog Try.f86 K))) (.exit 0) (.slice ca ba ga::.slice ma ka na::.int .i64 count::ud60 []) H=
 (Al [] H fun b2 H5=>zo8 ca ba ga H5 fun (a1:OA) (r5:Nat) (r6:Nat) (H6:zd)=>z1b (exL Try.prog z2y (cl (cl (cr (cl (cr (cr (cr (cr (zg Try.f86))))))))) 26388279072770 448 [(2,6144)]) (ud::.slice ma ka na::ud9 (.slice (some ⟨b2,0,none⟩) 0 3::.slice a1 r5 r6::ud30 (.int .i64 count::.int .i64 0::ud18 []))) H6 (zn 2 (seqQ (exL Try.prog z2y (cr (cr (cr (cr (cr (zg Try.f86)))))) 448 448 []) (retK Try.prog Try.f86 K)))):=by kernel_rfl
theorem f15z_x1_ret (dc:OA) (gc ec:Nat) (ic:OA) (kc jc:Nat) (t8:Bool) (H:zd) (K:KT)  {I:Nat→List Value→zd→Prop} {μ:Nat}:zp I μ (zn 0 (seqQ (exL Try.prog z2y (cr (cr (cr (zg Try.f86)))) 448 448 []) (retK Try.prog Try.f86 K))) .ret (ud6 (.slice dc gc ec::.slice ic kc jc::.bool t8::ud54 [])) H=
 (K (.tuple #[.slice dc gc ec,.slice ic kc jc,.bool t8]) H):=by kernel_rfl
abbrev f15z_P2 (count:Int) (ma:OA) (na ka:Nat) (qa:OA) (pa ra:Nat) (ib:OA) (jb lb:Nat) (t44:Int)  :List Value:=(ud::.slice ma ka na::ud9 (.slice qa pa ra::.slice ib jb lb::ud30 (.int .i64 count::.int .i64 t44::ud18 [])))
theorem f15z_r2 (count:Int) (ma:OA) (na ka:Nat) (qa:OA) (pa ra:Nat) (ib:OA) (jb lb:Nat) (t44:Int)  (H:zd) (R:Post):exL Try.prog z2y (cl (cl (cr (cl (cr (cr (cr (cr (zg Try.f86))))))))) 26388279072770 448 [(2,6144)] (f15z_P2 count ma na ka qa pa ra ib jb lb t44) H R=
 (Br (decide ((t44:Int)<count)) (ztr ib jb lb ma ka na H fun (r7:Int) (r8:Nat) (r9:Nat) (a2:OA) (r10:Nat) (r11:Nat) (r12:Bool) (H7:zd)=>Al [.int .i64 0,.float .f32 0,.float .f32 0] H7 fun b3 H8=>isOwn H8 b3∧(∃l,rdN H8 b3 0 3=some l)∧Lt (setN H8 b3 0 [.int .i64 r7,.float .f32 r8,.float .f32 r9]) fun H9=>Br (!r12) (R .ret (ud6 (.slice none 0 0::.slice none 0 0::.bool false::ud54 [])) H9) (∃c1:Int,∃(c2 c3:Nat),  rdN H9 b3 0 3=some [.int .i64 c1,.float .f32 c2,.float .f32 c3]∧Al [.int .i64 c1,.float .f32 c2,.float .f32 c3] H9 fun b4 H10=>∃o1 w1:List Value,ownB H10 qa pa ra 3=some o1∧rdS H10 (some ⟨b4,0,none⟩) (1*3)=some w1∧((qa:OA)=none→0<(1:Nat))∧(pa:Nat)+1<most∧Ap H10 (z5l H10 qa++[some ⟨o1++w1,true⟩]) fun b5 H11=>R .normal (ud::.slice ma ka na::ud9 (.slice (some ⟨b5,0,none⟩) (pa+1) 3::.slice a2 r10 r11::ud30 (.int .i64 count::.int .i64 (IntKind.wrap .i64 (t44+1))::ud18 []))) H11)) (R (.exit 2) (ud11 (.slice qa pa ra::.slice ib jb lb::ud50 [])) H)):=by kernel_rfl
def f15z_I2 (count:Int) (ma:OA) (na ka:Nat) (Inv:Nat→OA→Nat→Nat→OA→Nat→Nat→Int→zd→Prop):Nat→List Value→zd→Prop:=fun μ tm H=>∃qa:OA,∃(pa ra:Nat),∃ib:OA,∃(jb lb:Nat),∃t44:Int,tm=(f15z_P2 count ma na ka qa pa ra ib jb lb t44)∧Inv μ qa pa ra ib jb lb t44 H
theorem f15z_L2 (count:Int) (ma:OA) (na ka:Nat) {Q:Post} (Inv:Nat→OA→Nat→Nat→OA→Nat→Nat→Int→zd→Prop) (ν:Nat) (qa:OA) (pa ra:Nat) (ib:OA) (jb lb:Nat) (t44:Int)  (H:zd) (h0:Inv ν qa pa ra ib jb lb t44 H)
  (hs:∀(μ:Nat) (qa:OA) (pa:Nat) (ra:Nat) (ib:OA) (jb:Nat) (lb:Nat) (t44:Int)  (H:zd),Inv μ qa pa ra ib jb lb t44 H→exL Try.prog z2y (cl (cl (cr (cl (cr (cr (cr (cr (zg Try.f86))))))))) 26388279072770 448 [(2,6144)] (f15z_P2 count ma na ka qa pa ra ib jb lb t44) H (zp (f15z_I2 count ma na ka Inv) μ Q)):z1b (exL Try.prog z2y (cl (cl (cr (cl (cr (cr (cr (cr (zg Try.f86))))))))) 26388279072770 448 [(2,6144)]) (f15z_P2 count ma na ka qa pa ra ib jb lb t44) H Q:=
 ⟨f15z_I2 count ma na ka Inv,ν,⟨qa,pa,ra,ib,jb,lb,t44,rfl,h0⟩,fun μ tm H h=>by obtain ⟨qa,pa,ra,ib,jb,lb,t44,rfl,hI⟩:=h;exact hs μ qa pa ra ib jb lb t44  H hI⟩
theorem f15z_n2 {count:Int} {ma:OA} {na ka:Nat} {Q:Post} {Inv:Nat→OA→Nat→Nat→OA→Nat→Nat→Int→zd→Prop} {μ:Nat} (μ':Nat) {qa:OA} {pa ra:Nat} {ib:OA} {jb lb:Nat} {t44:Int}  {H:zd} (hm:μ'<μ) (hI:Inv μ' qa pa ra ib jb lb t44 H):zp (f15z_I2 count ma na ka Inv) μ Q .normal (f15z_P2 count ma na ka qa pa ra ib jb lb t44) H:=⟨μ',hm,qa,pa,ra,ib,jb,lb,t44,rfl,hI⟩
theorem f15z_x2_2 (qa:OA) (pa ra:Nat) (ib:OA) (jb lb:Nat) (H:zd) (K:KT)  {I:Nat→List Value→zd→Prop} {μ:Nat}:zp I μ (zn 2 (seqQ (exL Try.prog z2y (cr (cr (cr (cr (cr (zg Try.f86)))))) 448 448 []) (retK Try.prog Try.f86 K))) (.exit 2) (ud11 (.slice qa pa ra::.slice ib jb lb::ud50 [])) H=
 (K (.tuple #[.slice qa pa ra,.slice ib jb lb,.bool true]) H):=by kernel_rfl
theorem f15z_x2_ret (dc:OA) (gc ec:Nat) (ic:OA) (kc jc:Nat) (t8_8:Bool) (H:zd) (K:KT)  {I:Nat→List Value→zd→Prop} {μ:Nat}:zp I μ (zn 2 (seqQ (exL Try.prog z2y (cr (cr (cr (cr (cr (zg Try.f86)))))) 448 448 []) (retK Try.prog Try.f86 K))) .ret (ud6 (.slice dc gc ec::.slice ic kc jc::.bool t8_8::ud54 [])) H=
 (K (.tuple #[.slice dc gc ec,.slice ic kc jc,.bool t8_8]) H):=by kernel_rfl
theorem zhf:∀g,FnOk Try.prog g (z2y g):=FnOk.envOf (by
 intro x hx
 simp only [List.mem_cons,List.not_mem_nil,or_false] at hx
 rcases hx with rfl | rfl | rfl | rfl | rfl
 ·exact f19z_ok
 ·exact zcc
 ·exact zw5
 ·exact f17z_ok
 ·exact f7z_ok)
theorem f15z_main (ca:OA) (ba ga:Nat) (ma:OA) (ka na:Nat) (count:Int) (H:zd) (K:KT) (h:zo6 ca ba ga ma ka na count H fun (za:OA) (db:Nat) (cb:Nat) (ub:OA) (wb:Nat) (vb:Nat) (r3:Bool) (H':zd)=>K (.tuple #[.slice za db cb,.slice ub wb vb,.bool r3]) H'):zk Try.prog z2y Try.f86 [.slice ca ba ga,.slice ma ka na,.int .i64 count] H K:=by
 rw [f15z_vc]
 obtain ⟨aa,ia,i_list,i_scales,bd_130,bd_131,hk⟩:=h
 obtain rfl:=i_list.eqn
 obtain rfl:=i_scales.eqn
 have e:(zw aa ia count)=_:=rfl
 have e:=e.trans (zcx aa ia count)
 have g0:=Grow.refl H
 refine zbr ⟨_,(i_list.grow g0),ω0,fun  H_1 g_1  =>?_⟩
 have l_2:=g_1.1
 have g_3:=g0.trans g_1
 have l_4:=g_3.1
 refine Br.intro (fun c_5=>?_) (fun c_5=>?_)
 ·have e:=e.trans (zj c_5)
  have c_5n:=zv c_5
  rw [e] at hk
  exact hk _ _ _ _ _ _ H_1 g_3 ω7 ω7 (fun x y hx hy=>by cases hx)
 ·have e:=e.trans (zi c_5)
  have c_5n:=zr c_5
  have c_5n':=f19z_t c_5n
  refine z6f ?_
  refine Br.intro (fun c_6=>?_) (fun c_6=>?_)
  ·have e:=e.trans (zj c_6)
   have c_6n:=zv c_6
   rw [e] at hk
   exact hk _ _ _ _ _ _ H_1 g_3 ω7 ω7 (fun x y hx hy=>by cases hx)
  ·have e:=e.trans (zi c_6)
   have c_6n:=zr c_6
   have c_6n':=zb3 c_6n
   refine z6f ?_
   refine Br.intro (fun c_7=>?_) (fun c_7=>?_)
   ·have e:=e.trans (zj c_7)
    have c_7n:=zv c_7
    rw [e] at hk
    exact hk _ _ _ _ _ _ H_1 g_3 ω7 ω7 (fun x y hx hy=>by cases hx)
   ·have e:=e.trans (zi c_7)
    have c_7n:=zr c_7
    have c_7n':=zb3 c_7n
    refine f15z_L1 _ _ _ _ _ _ _ (fun (μ:Nat) (t32:Int) (H_2:zd)=>∃t8:Bool,Grow H H_2∧(0:Int)≤t32∧t32≤(ia.length:Int)∧(ia.length:Int)-t32≤(μ:Int)∧zw aa ia count=z5v aa ia count (μ+1) t8 t32) (Int.toNat ((ia.length:Int)-(0:Int))) _ H_1 ?_ ?_
    ·exact ⟨_,g_3,ω3,ω3,ω2,e⟩
    ·intro μ t32  H_2 hI
     obtain ⟨t8,g8,v9,v10,hμ,e⟩:=hI
     rw [f15z_r1]
     have e:=e.trans (z9e aa ia count μ t8 t32)
     have l11:=g8.1
     refine Br.intro (fun c_12=>?_) (fun c_12=>?_)
     ·have e:=e.trans (zj c_12)
      have c_12':=odt c_12
      obtain ⟨b13,f14,q15⟩:=((i_scales.grow g8)).pos ω0
      refine ⟨by omega,by omega,b13,f14,q15,?_⟩
      refine ⟨((ia).getD (t32:Int).toNat 0),(i_scales).rd g8 q15 ω2 _,?_⟩
      refine zln ?_
      refine Br.intro (fun c_16=>?_) (fun c_16=>?_)
      ·have e:=e.trans (zj c_16)
       have c_16n:=zv c_16
       rw [f15z_x1_ret]
       rw [e] at hk
       exact hk _ _ _ _ _ _ H_2 g8 ω7 ω7 (fun x y hx hy=>by cases hx)
      ·have e:=e.trans (zi c_16)
       have c_16n:=zr c_16
       rw [show IntKind.wrap .i64 (t32+1)=(t32+1) from zy ω2 ω2]
       refine f15z_n1 (μ-1) ω18 ⟨_,g8,ω1,ω1,ω18,ω19⟩
     ·have e:=e.trans (zi c_12)
      have c_12':=odf c_12
      rw [f15z_x1_0]
      refine Al.intro (fun b17 H_3 hb_18 hl_19 g20 o21=>?_)
      have o21:Own H_3 b17 ((([]:List (Int×Nat×Nat))).flatMap fA):=o21
      have l23:=g20.1
      have g24:=g8.trans g20
      have l25:=g24.1
      have w129:=o21.lt
      refine zy4 ⟨_,(i_list.grow g24),ω0,fun a26 n27 e28 H_4 g30 r_29=>?_⟩
      have l31:=g30.1
      have g32:=g24.trans g30
      have l33:=g32.1
      have o34:=o21.grow g30
      have w35:=o34.lt
      obtain rfl:=r_29.isL.eqn
      have u36:=r_29.up
      have u37:=r_29.lo
      refine f15z_L2 _ _ _ _ (fun (μ2:Nat) (qa:OA) (pa:Nat) (ra:Nat) (ib:OA) (jb:Nat) (lb:Nat) (t44:Int) (H_5:zd)=>∃t8_8:Bool,∃(oa:List (Int×Nat×Nat)),∃b39:Nat,∃bb:LN,qa=some ⟨b39,0,none⟩∧pa=oa.length∧ra=3∧Own H_5 b39 (oa.flatMap fA)∧jb=bb.length∧OwnS fF H_5 H_3.length ib bb.length lb bb∧H_3.length≤H_5.length∧(∀y,ib=some y→y.block≠b39)∧Grow H H_5∧H.length≤b39∧(0:Int)≤t44∧((t44≤count∨t44≤(0:Int)))∧(oa.length:Int)≤t44-(0:Int)+0∧bb.length≤aa.length∧count-t44≤(μ2:Int)∧zw aa ia count=z4l aa ia count t8 t32 (fun (t8_8:Bool) (oa:List (Int×Nat×Nat)) (bb:LN) (t44:Int)=>(oa,bb,true)) (μ2+1) t8_8 oa bb t44) (Int.toNat (count-(0:Int))) _ _ _ _ _ _ _ H_4 ?_ ?_
      ·exact ⟨_,_,_,_,rfl,ω4,rfl,o34,rfl,r_29,ω2,(fun y hy=>by have:=u36 y hy;have:=u37 y hy;omega),g32,ω2,ω3,ω3,ω3,ω3,ω2,e⟩
      ·intro μ2 qa pa ra ib jb lb t44  H_5 hI
       obtain ⟨t8_8,oa,b39,bb,rfl,rfl,rfl,o40,rfl,r_42,n45,n46,g47,l48,v49,v50,v51,v52,hμ,e⟩:=hI
       rw [f15z_r2]
       have e:=e.trans (z6k aa ia count t8 t32 (fun (t8_8:Bool) (oa:List (Int×Nat×Nat)) (bb:LN) (t44:Int)=>(oa,bb,true)) μ2 t8_8 oa bb t44)
       have u43:=r_42.up
       have u44:=r_42.lo
       have w53:=o40.lt
       have l54:=g47.1
       refine Br.intro (fun c55=>?_) (fun c55=>?_)
       ·have e:=e.trans (zj c55)
        have c_55':=odt c55
        refine zts ⟨_,_,r_42.isL,(i_scales.grow g47),ω0,ω0,fun a56 n57 e58 H_6 g61 r59=>?_⟩
        have z60:=f7z_len bb ia
        have l62:=g61.1
        have g63:=g47.trans g61
        have l_64:=g63.1
        have o65:=o40.grow g61
        have w66:=o65.lt
        have r67:=r_42.grow g61
        obtain rfl:=r59.isL.eqn
        have u68:=r59.up
        have u69:=r59.lo
        refine Al.intro (fun b71 H_7 hb_72 hl_73 g74 o75=>?_)
        have l77:=g74.1
        have g78:=g63.trans g74
        have l79:=g78.1
        have o80:=o65.grow g74
        have w81:=o80.lt
        have r82:=r67.grow g74
        have r83:=r59.grow g74
        have w128:=o75.lt
        refine Lt.setN (n:=3) o75 (nbl rfl) rfl (fun H_8 hl_84 o86 k85=>?_)
        have o86:Own H_8 b71 [.int .i64 ((zt bb ia).1),.float .f32 ((zt bb ia).2.1),.float .f32 ((zt bb ia).2.2.1)]:=o86
        have l87:=k85.1
        have g88:=g78.keep (b:=b71) ω2 k85
        have l89:=g88.1
        have o90:=o80.keep ω2 k85
        have w91:=o90.lt
        have r92:=r82.keep u43 ω2 k85
        have r93:=r83.keep u68 ω2 k85
        have w127:=o86.lt
        refine Br.intro (fun c94=>?_) (fun c94=>?_)
        ·have e:=e.trans (zj c94)
         have c_94n:=zv c94
         rw [f15z_x2_ret]
         rw [e] at hk
         exact hk _ _ _ _ _ _ H_8 g88 ω7 ω7 (fun x y hx hy=>by cases hx)
        ·have e:=e.trans (zi c94)
         have c_94n:=zr c94
         refine ⟨(zt bb ia).1,(zt bb ia).2.1,(zt bb ia).2.2.1,(o86.rdN (nbl rfl)).trans rfl,?_⟩
         refine Al.intro (fun b95 H_9 hb_96 hl_97 g98 o99=>?_)
         have o99:Own H_9 b95 (([(((zt bb ia).1:Int),((zt bb ia).2.1),((zt bb ia).2.2.1))]).flatMap fA):=o99
         have l101:=g98.1
         have g102:=g88.trans g98
         have l103:=g102.1
         have o104:=o90.grow g98
         have w105:=o104.lt
         have o106:=o86.grow g98
         have w107:=o106.lt
         have r108:=r92.grow g98
         have r109:=r93.grow g98
         have w126:=o99.lt
         refine ⟨_,_,o104.ownB (by first | exact zcg _ | (rw [zcg];omega) | (rw [zcg];simp only [List.length_cons,List.length_nil,List.length_append];omega)) rfl,z16v (o99.isT ω4),(fun h=>by cases h),ω40,?_⟩
         refine Ap.app o104 rfl rfl (fun b114 H_10 q124 hl_110 o111 k112=>?_)
         have o111:=zvq o111
         have l115:=k112.1
         have g116:=g102.keep (b:=b39) ω2 k112
         have l117:=g116.1
         have o118:=o106.keep ω2 k112
         have w119:=o118.lt
         have o120:=o99.keep ω2 k112
         have w121:=o120.lt
         have r122:=r108.keepA (fun x y hx hy=>by cases hx;intro hh;exact n46 y hy hh.symm) (OwnS.keep1 k112)
         have r123:=r109.keep u68 ω2 k112
         have w125:=o111.lt
         rw [show IntKind.wrap .i64 (t44+1)=(t44+1) from zy ω2 ω2]
         refine f15z_n2 (μ2-1) ω18 ⟨_,_,_,_,rfl,ω8,rfl,o111,rfl,(r123.weak ω2),ω2,(by first | assumption | (intro y hy;have:=u68 y hy;have:=u69 y hy;omega)),g116,ω2,ω1,ω1,ω1,ω1,ω18,ω30⟩
       ·have e:=e.trans (zi c55)
        have c_55':=odf c55
        rw [f15z_x2_2]
        rw [e] at hk
        exact hk _ _ _ _ _ _ H_5 g47 (o40.ownT ω4 ω2) (r_42.weak ω2) (fun x y hx hy=>by cases hx;intro hh;exact n46 y hy hh.symm)
theorem f15z_ok:FnOk Try.prog 86 zed:=by
 refine FnOk.body mix_ok zhf Try.func86 rfl ω5 ω5 ?_ ?_ ?_ ?_ ?_
 ·intro args H K K' h hk
  simp only [zed] at *
  unfold zi1 at *
  split at hk
  ·obtain ⟨aa,ia,i_list,i_scales,bd_130,bd_131,k⟩:=hk
   exact ⟨aa,ia,i_list,i_scales,bd_130,bd_131,(fun za db cb ub wb vb H' gg ow0 ow1 sp0_1=>h _ _ (k za db cb ub wb vb H' gg ow0 ow1 sp0_1))⟩
  ·exact hk.elim
 ·intro hq;cases hq
 ·intro args H K hk
  simp only [zed] at *
  unfold zi1 at *
  split at hk
  ·obtain ⟨aa,ia,i_list,i_scales,bd_130,bd_131,k⟩:=hk
   exact z1cv fun a n e a2 n2 e2 H1 g o o2 sp=>⟨_,_,k a n e a2 n2 e2 H1 g o o2 sp⟩
  ·exact hk.elim
 ·intro _ args H K hk
  simp only [zed] at *
  unfold zi1 at *
  split at hk
  ·obtain ⟨aa,ia,i_list,i_scales,bd_130,bd_131,k⟩:=hk
   exact ⟨aa,ia,i_list,i_scales,bd_130,bd_131,(fun za db cb ub wb vb H' gg ow0 ow1 sp0_1=>⟨gg,k za db cb ub wb vb H' gg ow0 ow1 sp0_1⟩)⟩
  ·exact hk.elim
 ·have mm:=@f15z_main
  have ml:=fun (args:List Value) (H:zd) (K:KT)=>zf (P:=Try.prog) (env:=z2y) (fn:=Try.f86) (args:=args) (H:=H) (K:=K) zhf 
  revert mm ml
  generalize z1a Try.prog z2y Try.f86=Q
  generalize zk Try.prog z2y Try.f86=QL
  intro mm ml args H K hk
  simp only [zed] at *
  unfold zi1 at *
  split at hk
  ·exact ml _ H K (mm _ _ _ _ _ _ _ H K hk)
  ·exact hk.elim

def z7y (count:Int) (oa:List (Int×Nat×Nat)) (t5:Bool) (t25:Int) (y1_1:LN) (k2_2:Int→LN→(LN×Bool)):Nat→Int→LN→LN×Bool
 | 0,_,_=>([],false)
 | μ2+1,t39,y2_1=>(bif decide ((t39:Int)<(((z1s count ((((oa).getD (t25:Int).toNat (0,0,0))).1) ((((oa).getD (t25:Int).toNat (0,0,0))).2.1) ((((oa).getD (t25:Int).toNat (0,0,0))).2.2)).1).length:Int)) then (z7y count oa t5 t25 y1_1 k2_2 μ2 (t39+1) (((y2_1).set (t39:Int).toNat ((fadd .f32 (((y2_1).getD (t39:Int).toNat 0)) ((((z1s count ((((oa).getD (t25:Int).toNat (0,0,0))).1) ((((oa).getD (t25:Int).toNat (0,0,0))).2.1) ((((oa).getD (t25:Int).toNat (0,0,0))).2.2)).1).getD (t39:Int).toNat 0))))))) else (k2_2 t39 y2_1))
def z7z:=fun count oa t5 t25 y1_1 k2_2 μ2 t39 y2_1=>@z7y.eq_2 count oa t5 t25 y1_1 k2_2 t39 y2_1 μ2
def z4c (count:Int) (oa:List (Int×Nat×Nat)):Nat→Bool→Int→LN→LN×Bool
 | 0,_,_,_=>([],false)
 | μ+1,t5,t25,y1_1=>(bif decide ((t25:Int)<(oa.length:Int)) then (bif !((z1s count ((((oa).getD (t25:Int).toNat (0,0,0))).1) ((((oa).getD (t25:Int).toNat (0,0,0))).2.1) ((((oa).getD (t25:Int).toNat (0,0,0))).2.2)).2) then ([],false) else (z7y count oa t5 t25 y1_1 (fun (t39:Int) (y2_1:LN)=>(z4c count oa μ t5 (t25+1) y2_1)) (Int.toNat ((((z1s count ((((oa).getD (t25:Int).toNat (0,0,0))).1) ((((oa).getD (t25:Int).toNat (0,0,0))).2.1) ((((oa).getD (t25:Int).toNat (0,0,0))).2.2)).1).length:Int)-(0:Int))+1) (0:Int) y1_1)) else (bif (zs7 y1_1).2 then (y1_1,true) else ([],false)))
def z7x:=fun count oa μ t5 t25 y1_1=>@z4c.eq_2 count oa t5 t25 y1_1 μ
def z6b (count:Int) (oa:List (Int×Nat×Nat)):LN×Bool:=(bif !((z1n count (1:Int) (128:Int))) then ([],false) else (bif decide ((16:Int)<(oa.length:Int)) then ([],false) else (z4c count oa (Int.toNat ((oa.length:Int)-(0:Int))+1) false (0:Int) (List.replicate ((count).toNat) 0))))
def zgt:=@z6b.eq_1
def zyh (count:Int) (qa:OA) (pa ra:Nat) (H:zd) (K:OA→Nat→Nat→Bool→zd→Prop):Prop:=∃(oa:List (Int×Nat×Nat)),IsT fA H qa pa oa∧oa.length<1073741824∧((∀(za:OA) (db cb:Nat),∀H':zd,Grow H H'→OwnS fF H' H.length za db cb ((z6b count oa).1)→K za db cb ((z6b count oa).2) H'))
theorem z13t {count:Int} {qa:OA} {pa ra:Nat} {H:zd} {K:OA→Nat→Nat→Bool→zd→Prop} (h:∃(oa:List (Int×Nat×Nat)),IsT fA H qa pa oa∧oa.length<1073741824∧((∀(za:OA) (db cb:Nat),∀H':zd,Grow H H'→OwnS fF H' H.length za db cb ((z6b count oa).1)→K za db cb ((z6b count oa).2) H'))):zyh count qa pa ra H K:=h
theorem zrh (c:Int) (l:List (Int×Nat×Nat)) (N:Nat) (t:Bool) (i:Int) (y:LN) (K:Int→LN→(LN×Bool)) (hK:∀j z,z.length≤N→(K j z).1.length≤N):∀(μ:Nat) (j:Int) (z:LN),z.length≤N→(z7y c l t i y K μ j z).1.length≤N:=by
 intro μ
 induction μ with
 | zero=>intro j z h;exact Nat.zero_le _
 | succ μ ih=>
  intro j z h
  rw [z7z]
  exact cnb (P:=fun r:LN×Bool=>r.1.length≤N) (fun _=>ih _ _ (by rw [List.length_set];exact h)) (fun _=>hK _ _ h)
theorem zrg (c:Int) (l:List (Int×Nat×Nat)) (N:Nat):∀(μ:Nat) (t:Bool) (i:Int) (y:LN),y.length≤N→(z4c c l μ t i y).1.length≤N:=by
 intro μ
 induction μ with
 | zero=>intro t i y h;exact Nat.zero_le _
 | succ μ ih=>
  intro t i y h
  rw [z7x]
  refine cnb (P:=fun r:LN×Bool=>r.1.length≤N) (fun _=>?_) (fun _=>?_)
  ·refine cnb (P:=fun r:LN×Bool=>r.1.length≤N) (fun _=>Nat.zero_le _) (fun _=>?_)
   exact zrh c l N _ _ _ _ (fun j z hz=>ih _ _ _ hz) _ _ _ h
  ·exact cnb (P:=fun r:LN×Bool=>r.1.length≤N) (fun _=>h) (fun _=>Nat.zero_le _)
theorem z15y (c:Int) (l:List (Int×Nat×Nat)):(z6b c l).1.length≤1000:=by
 rw [zgt]
 refine cnb (P:=fun r:LN×Bool=>r.1.length≤1000) (fun _=>Nat.zero_le _) (fun hc=>?_)
 have hc:=zh9 (zr hc)
 refine cnb (P:=fun r:LN×Bool=>r.1.length≤1000) (fun _=>Nat.zero_le _) (fun _=>?_)
 exact zrg c l 1000 _ _ _ _ (by rw [List.length_replicate];omega)
def z6e:Env:=envOf [(96,z8n),(85,zio),(109,zlc)]
def zsz:List Value→zd→(Value→zd→Prop)→Prop
 | [.int .i64 count,.slice qa pa ra],H,K=>zyh count qa pa ra H fun (za:OA) (db:Nat) (cb:Nat) (r2:Bool) (H':zd)=>K (.tuple #[.slice za db cb,.bool r2]) H'
 | _,_,_=>False
def zqu:FSpec:={F:=zsz,quiet:=false,tame:=true}
theorem z1ay (count:Int) (qa:OA) (pa ra:Nat) (H:zd) (K:KT):zk Try.prog z6e Try.f87 [.int .i64 count,.slice qa pa ra] H K=
 (z7a count 1 128 H fun (r1:Bool) (H1:zd)=>Br (!r1) (K (.tuple #[.slice none 0 0,.bool false]) H1) (Br (decide ((16:Int)<(pa:Int))) (K (.tuple #[.slice none 0 0,.bool false]) H1) ((0:Int)≤count∧count=count∧count<(most:Int)∧Al (z2k (.float .f32 0) (count).toNat) H1 fun b1 H2=>z1b (exL Try.prog z6e (cl (cl (cr (cl (cr (cr (cr (zg Try.f87)))))))) 58720321 48 [(0,64)]) (.int .i64 count::ud5 (.slice (some ⟨b1,0,none⟩) ((count).toNat) 1::ud16 (.slice qa pa ra::.int .i64 (pa:Int)::.int .i64 0::ud31 []))) H2 (zn 0 (seqQ (exL Try.prog z6e (cr (cr (cr (cr (zg Try.f87))))) 48 48 []) (retK Try.prog Try.f87 K)))))):=by kernel_rfl
abbrev zjm (qa:OA) (ra pa b1:Nat) (count t25:Int)  :List Value:=(.int .i64 count::ud5 (.slice (some ⟨b1,0,none⟩) ((count).toNat) 1::ud16 (.slice qa pa ra::.int .i64 (pa:Int)::.int .i64 t25::ud31 [])))
theorem z1aw (qa:OA) (ra pa b1:Nat) (count t25:Int)  (H:zd) (R:Post):exL Try.prog z6e (cl (cl (cr (cl (cr (cr (cr (zg Try.f87)))))))) 58720321 48 [(0,64)] (zjm qa ra pa b1 count t25) H R=
 (Br (decide ((t25:Int)<(pa:Int))) ((0:Int)≤t25∧t25<(pa:Int)∧∃b2 f1,(qa:OA)=some ⟨b2,f1,none⟩∧∃c1:Int,∃(c2 c3:Nat),  rdN H b2 (f1+(t25:Int).toNat*3) 3=some [.int .i64 c1,.float .f32 c2,.float .f32 c3]∧Al [.int .i64 0,.float .f32 0,.float .f32 0] H fun b3 H3=>isOwn H3 b3∧(∃l,rdN H3 b3 0 3=some l)∧Lt (setN H3 b3 0 [.int .i64 c1,.float .f32 c2,.float .f32 c3]) fun H4=>∃c4:Int,∃(c5 c6:Nat),  rdN H4 b3 0 3=some [.int .i64 c4,.float .f32 c5,.float .f32 c6]∧zlj count c4 c5 c6 H4 fun (a1:OA) (r2:Nat) (r3:Nat) (r4:Bool) (H5:zd)=>Br (!r4) (R .ret (ud4 (.slice none 0 0::.bool false::ud51 [])) H5) (z1b (exL Try.prog z6e (cl (cl (cr (cr (cr (cr (cl (cl (cr (cr (cl (cl (cr (cl (cr (cr (cr (zg Try.f87)))))))))))))))))) 962131394625 48 [(2,58720321),(1,58720321),(0,64)]) (.int .i64 count::ud5 (.slice (some ⟨b1,0,none⟩) ((count).toNat) 1::ud16 (.slice qa pa ra::.int .i64 (pa:Int)::.int .i64 t25::ud11 (.slice a1 r2 r3::.int .i64 (r2:Int)::.int .i64 0::ud17 [])))) H5 (zn 2 (zn 1 (seqQ (exL Try.prog z6e (cr (cr (cr (cl (cl (cr (cl (cr (cr (cr (zg Try.f87))))))))))) 58720321 48 [(0,64)]) (R)))))) (R (.exit 0) (ud6 (.slice (some ⟨b1,0,none⟩) ((count).toNat) 1::ud50 [])) H)):=by kernel_rfl
def zvh (qa:OA) (ra pa b1:Nat) (count:Int) (Inv:Nat→Int→zd→Prop):Nat→List Value→zd→Prop:=fun μ tm H=>∃t25:Int,tm=(zjm qa ra pa b1 count t25)∧Inv μ t25 H
theorem z1ar (qa:OA) (ra pa b1:Nat) (count:Int) {Q:Post} (Inv:Nat→Int→zd→Prop) (ν:Nat) (t25:Int)  (H:zd) (h0:Inv ν t25 H)
  (hs:∀(μ:Nat) (t25:Int)  (H:zd),Inv μ t25 H→exL Try.prog z6e (cl (cl (cr (cl (cr (cr (cr (zg Try.f87)))))))) 58720321 48 [(0,64)] (zjm qa ra pa b1 count t25) H (zp (zvh qa ra pa b1 count Inv) μ Q)):z1b (exL Try.prog z6e (cl (cl (cr (cl (cr (cr (cr (zg Try.f87)))))))) 58720321 48 [(0,64)]) (zjm qa ra pa b1 count t25) H Q:=
 ⟨zvh qa ra pa b1 count Inv,ν,⟨t25,rfl,h0⟩,fun μ tm H h=>by obtain ⟨t25,rfl,hI⟩:=h;exact hs μ t25  H hI⟩
theorem z1at {qa:OA} {ra pa b1:Nat} {count:Int} {Q:Post} {Inv:Nat→Int→zd→Prop} {μ:Nat} (μ':Nat) {t25:Int}  {H:zd} (hm:μ'<μ) (hI:Inv μ' t25 H):zp (zvh qa ra pa b1 count Inv) μ Q .normal (zjm qa ra pa b1 count t25) H:=⟨μ',hm,t25,rfl,hI⟩
theorem zzm (b1:Nat) (count:Int) (H:zd) (K:KT)  {I:Nat→List Value→zd→Prop} {μ:Nat}:zp I μ (zn 0 (seqQ (exL Try.prog z6e (cr (cr (cr (cr (zg Try.f87))))) 48 48 []) (retK Try.prog Try.f87 K))) (.exit 0) (ud6 (.slice (some ⟨b1,0,none⟩) ((count).toNat) 1::ud50 [])) H=
 (ztu (some ⟨b1,0,none⟩) ((count).toNat) 1 H fun (a2:OA) (r5:Nat) (r6:Nat) (r7:Bool) (H7:zd)=>K (.tuple #[.slice a2 r5 r6,.bool r7]) H7):=by kernel_rfl
theorem zri (mc:OA) (oc nc:Nat) (t5:Bool) (H:zd) (K:KT)  {I:Nat→List Value→zd→Prop} {μ:Nat}:zp I μ (zn 0 (seqQ (exL Try.prog z6e (cr (cr (cr (cr (zg Try.f87))))) 48 48 []) (retK Try.prog Try.f87 K))) .ret (ud4 (.slice mc oc nc::.bool t5::ud51 [])) H=
 (K (.tuple #[.slice mc oc nc,.bool t5]) H):=by kernel_rfl
abbrev zjn (a1 qa:OA) (ra pa b1:Nat) (count:Int) (r2 r3:Nat) (t25 t39:Int)  :List Value:=(.int .i64 count::ud5 (.slice (some ⟨b1,0,none⟩) ((count).toNat) 1::ud16 (.slice qa pa ra::.int .i64 (pa:Int)::.int .i64 t25::ud11 (.slice a1 r2 r3::.int .i64 (r2:Int)::.int .i64 t39::ud17 []))))
theorem z1ax (a1 qa:OA) (ra pa b1:Nat) (count:Int) (r2 r3:Nat) (t25 t39:Int)  (H:zd) (R:Post):exL Try.prog z6e (cl (cl (cr (cr (cr (cr (cl (cl (cr (cr (cl (cl (cr (cl (cr (cr (cr (zg Try.f87)))))))))))))))))) 962131394625 48 [(2,58720321),(1,58720321),(0,64)] (zjn a1 qa ra pa b1 count r2 r3 t25 t39) H R=
 (Br (decide ((t39:Int)<(r2:Int))) ((0:Int)≤t39∧t39<(r2:Int)∧∃b4 f2,(a1:OA)=some ⟨b4,f2,none⟩∧∃x1:Nat,  rdC H b4 (f2+(t39:Int).toNat*1)=some (.float .f32 x1)∧(0:Int)≤t39∧t39<((count).toNat:Int)∧∃b5 f3,(some ⟨b1,0,none⟩:OA)=some ⟨b5,f3,none⟩∧∃x2:Nat,  rdC H b5 (f3+(t39:Int).toNat*1)=some (.float .f32 x2)∧(0:Int)≤t39∧t39<((count).toNat:Int)∧∃b6 f4,(some ⟨b1,0,none⟩:OA)=some ⟨b6,f4,none⟩∧isOwn H b6∧(∃l,rdN H b6 (f4+(t39:Int).toNat*1) 1=some l)∧Lt (setC H b6 (f4+(t39:Int).toNat*1) (.float .f32 (fadd .f32 x2 x1))) fun H6=>R .normal (.int .i64 count::ud5 (.slice (some ⟨b1,0,none⟩) ((count).toNat) 1::ud16 (.slice qa pa ra::.int .i64 (pa:Int)::.int .i64 t25::ud11 (.slice a1 r2 r3::.int .i64 (r2:Int)::.int .i64 (IntKind.wrap .i64 (t39+1))::ud17 [])))) H6) (R (.exit 2) (.int .i64 count::ud5 (.slice (some ⟨b1,0,none⟩) ((count).toNat) 1::ud16 (.slice qa pa ra::.int .i64 (pa:Int)::.int .i64 t25::ud31 []))) H)):=by kernel_rfl
def zvi (a1 qa:OA) (ra pa b1:Nat) (count:Int) (r2 r3:Nat) (t25:Int) (Inv:Nat→Int→zd→Prop):Nat→List Value→zd→Prop:=fun μ tm H=>∃t39:Int,tm=(zjn a1 qa ra pa b1 count r2 r3 t25 t39)∧Inv μ t39 H
theorem z1as (a1 qa:OA) (ra pa b1:Nat) (count:Int) (r2 r3:Nat) (t25:Int) {Q:Post} (Inv:Nat→Int→zd→Prop) (ν:Nat) (t39:Int)  (H:zd) (h0:Inv ν t39 H)
  (hs:∀(μ:Nat) (t39:Int)  (H:zd),Inv μ t39 H→exL Try.prog z6e (cl (cl (cr (cr (cr (cr (cl (cl (cr (cr (cl (cl (cr (cl (cr (cr (cr (zg Try.f87)))))))))))))))))) 962131394625 48 [(2,58720321),(1,58720321),(0,64)] (zjn a1 qa ra pa b1 count r2 r3 t25 t39) H (zp (zvi a1 qa ra pa b1 count r2 r3 t25 Inv) μ Q)):z1b (exL Try.prog z6e (cl (cl (cr (cr (cr (cr (cl (cl (cr (cr (cl (cl (cr (cl (cr (cr (cr (zg Try.f87)))))))))))))))))) 962131394625 48 [(2,58720321),(1,58720321),(0,64)]) (zjn a1 qa ra pa b1 count r2 r3 t25 t39) H Q:=
 ⟨zvi a1 qa ra pa b1 count r2 r3 t25 Inv,ν,⟨t39,rfl,h0⟩,fun μ tm H h=>by obtain ⟨t39,rfl,hI⟩:=h;exact hs μ t39  H hI⟩
theorem z1au {a1 qa:OA} {ra pa b1:Nat} {count:Int} {r2 r3:Nat} {t25:Int} {Q:Post} {Inv:Nat→Int→zd→Prop} {μ:Nat} (μ':Nat) {t39:Int}  {H:zd} (hm:μ'<μ) (hI:Inv μ' t39 H):zp (zvi a1 qa ra pa b1 count r2 r3 t25 Inv) μ Q .normal (zjn a1 qa ra pa b1 count r2 r3 t25 t39) H:=⟨μ',hm,t39,rfl,hI⟩
theorem zzn (qa:OA) (ra pa b1:Nat) (count t25:Int) (H:zd)  (R:Post) {I:Nat→List Value→zd→Prop} {μ:Nat}:zp I μ (zn 2 (zn 1 (seqQ (exL Try.prog z6e (cr (cr (cr (cl (cl (cr (cl (cr (cr (cr (zg Try.f87))))))))))) 58720321 48 [(0,64)]) (R)))) (.exit 2) (.int .i64 count::ud5 (.slice (some ⟨b1,0,none⟩) ((count).toNat) 1::ud16 (.slice qa pa ra::.int .i64 (pa:Int)::.int .i64 t25::ud31 []))) H=
 (R .normal (.int .i64 count::ud5 (.slice (some ⟨b1,0,none⟩) ((count).toNat) 1::ud16 (.slice qa pa ra::.int .i64 (pa:Int)::.int .i64 (IntKind.wrap .i64 (t25+1))::ud31 []))) H):=by kernel_rfl
theorem znj:∀g,FnOk Try.prog g (z6e g):=FnOk.envOf (by
 intro x hx
 simp only [List.mem_cons,List.not_mem_nil,or_false] at hx
 rcases hx with rfl | rfl | rfl
 ·exact zcc
 ·exact zvv
 ·exact f9z_ok)
theorem ω17 {P:Prop} (h:P:=by first | omega | (simp only [List.length_set,List.length_replicate,List.length_append,List.length_cons,List.length_nil,List.length_take,List.length_drop,z9u];done) | (simp only [List.length_set,List.length_replicate,List.length_append,List.length_cons,List.length_nil,List.length_take,List.length_drop,z9u];omega)):P:=h
theorem zzl (count:Int) (qa:OA) (pa ra:Nat) (H:zd) (K:KT) (h:zyh count qa pa ra H fun (za:OA) (db:Nat) (cb:Nat) (r2:Bool) (H':zd)=>K (.tuple #[.slice za db cb,.bool r2]) H'):zk Try.prog z6e Try.f87 [.int .i64 count,.slice qa pa ra] H K:=by
 rw [z1ay]
 obtain ⟨oa,i_atoms,bd_99,hk⟩:=h
 obtain rfl:=i_atoms.eqn
 have e:(z6b count oa)=_:=rfl
 have e:=e.trans (zgt count oa)
 have g0:=Grow.refl H
 refine z6f ?_
 refine Br.intro (fun c_1=>?_) (fun c_1=>?_)
 ·have e:=e.trans (zj c_1)
  have c_1n:=zv c_1
  rw [e] at hk
  exact hk _ _ _ H g0 ω7
 ·have e:=e.trans (zi c_1)
  have c_1n:=zr c_1
  have c_1n':=zb3 c_1n
  refine Br.intro (fun c_2=>?_) (fun c_2=>?_)
  ·have e:=e.trans (zj c_2)
   have c_2':=odt c_2
   rw [e] at hk
   exact hk _ _ _ H g0 ω7
  ·have e:=e.trans (zi c_2)
   have c_2':=odf c_2
   refine ⟨by omega,rfl,ω40,?_⟩
   refine Al.intro (fun b_3 H_1 hb_4 hl_5 g_6 o7=>?_)
   rw [zl9 fF 0 _ rfl] at o7
   have l_9:=g_6.1
   have g10:=g0.trans g_6
   have l11:=g10.1
   have w98:=o7.lt
   refine z1ar _ _ _ _ _ (fun (μ:Nat) (t25:Int) (H_2:zd)=>∃t5:Bool,∃y1_1:LN,Own H_2 b_3 (y1_1.map fF)∧y1_1.length=(count).toNat∧Grow H H_2∧(0:Int)≤t25∧t25≤(oa.length:Int)∧(oa.length:Int)-t25≤(μ:Int)∧z6b count oa=z4c count oa (μ+1) t5 t25 y1_1) (Int.toNat ((oa.length:Int)-(0:Int))) _ H_1 ?_ ?_
   ·exact ⟨_,_,o7,ω41,g10,ω3,ω3,ω2,e⟩
   ·intro μ t25  H_2 hI
    obtain ⟨t5,y1_1,o12,y13,g14,v15,v16,hμ,e⟩:=hI
    rw [z1aw]
    have e:=e.trans (z7x count oa μ t5 t25 y1_1)
    have w17:=o12.lt
    have l18:=g14.1
    refine Br.intro (fun c_19=>?_) (fun c_19=>?_)
    ·have e:=e.trans (zj c_19)
     have c_19':=odt c_19
     obtain ⟨b20,f21,q22⟩:=((i_atoms.grow g14)).pos ω17
     refine ⟨by omega,by omega,b20,f21,q22,?_⟩
     refine ⟨(((oa).getD (t25:Int).toNat (0,0,0))).1,(((oa).getD (t25:Int).toNat (0,0,0))).2.1,(((oa).getD (t25:Int).toNat (0,0,0))).2.2,(i_atoms).rdN g14 q22 ω2 _,?_⟩
     refine Al.intro (fun b23 H_3 hb_24 hl_25 g26 o27=>?_)
     have l29:=g26.1
     have g30:=g14.trans g26
     have l31:=g30.1
     have o32:=o12.grow g26
     have w33:=o32.lt
     have w86:=o27.lt
     refine Lt.setN (n:=3) o27 (nbl rfl) rfl (fun H_4 hl_34 o36 k35=>?_)
     have o36:Own H_4 b23 [.int .i64 ((((oa).getD (t25:Int).toNat (0,0,0))).1),.float .f32 ((((oa).getD (t25:Int).toNat (0,0,0))).2.1),.float .f32 ((((oa).getD (t25:Int).toNat (0,0,0))).2.2)]:=o36
     have l37:=k35.1
     have g38:=g30.keep (b:=b23) ω2 k35
     have l39:=g38.1
     have o40:=o32.keep ω2 k35
     have w41:=o40.lt
     have w85:=o36.lt
     refine ⟨(((oa).getD (t25:Int).toNat (0,0,0))).1,(((oa).getD (t25:Int).toNat (0,0,0))).2.1,(((oa).getD (t25:Int).toNat (0,0,0))).2.2,(o36.rdN (nbl rfl)).trans rfl,?_⟩
     refine zlk (fun a42 n43 e44 H_5 g47 r_45=>?_)
     have z46:=zm6 count ((((oa).getD (t25:Int).toNat (0,0,0))).1) ((((oa).getD (t25:Int).toNat (0,0,0))).2.1) ((((oa).getD (t25:Int).toNat (0,0,0))).2.2)
     have l48:=g47.1
     have g49:=g38.trans g47
     have l50:=g49.1
     have o51:=o40.grow g47
     have w52:=o51.lt
     have o53:=o36.grow g47
     have w54:=o53.lt
     obtain rfl:=r_45.isL.eqn
     have u55:=r_45.up
     have u56:=r_45.lo
     refine Br.intro (fun c58=>?_) (fun c58=>?_)
     ·have e:=e.trans (zj c58)
      have c_58n:=zv c58
      rw [zri]
      rw [e] at hk
      exact hk _ _ _ H_5 g49 ω7
     ·have e:=e.trans (zi c58)
      have c_58n:=zr c58
      refine z1as _ _ _ _ _ _ _ _ _ (fun (μ2:Nat) (t39:Int) (H_6:zd)=>∃y2_1:LN,Own H_6 b_3 (y2_1.map fF)∧y2_1.length=(count).toNat∧Own H_6 b23 ([.int .i64 ((((oa).getD (t25:Int).toNat (0,0,0))).1),.float .f32 ((((oa).getD (t25:Int).toNat (0,0,0))).2.1),.float .f32 ((((oa).getD (t25:Int).toNat (0,0,0))).2.2)])∧OwnS fF H_6 H_4.length a42 (((z1s count ((((oa).getD (t25:Int).toNat (0,0,0))).1) ((((oa).getD (t25:Int).toNat (0,0,0))).2.1) ((((oa).getD (t25:Int).toNat (0,0,0))).2.2)).1).length) e44 ((z1s count ((((oa).getD (t25:Int).toNat (0,0,0))).1) ((((oa).getD (t25:Int).toNat (0,0,0))).2.1) ((((oa).getD (t25:Int).toNat (0,0,0))).2.2)).1)∧(b23≠b_3)∧H_5.length≤H_6.length∧Grow H H_6∧(0:Int)≤t39∧t39≤(((z1s count ((((oa).getD (t25:Int).toNat (0,0,0))).1) ((((oa).getD (t25:Int).toNat (0,0,0))).2.1) ((((oa).getD (t25:Int).toNat (0,0,0))).2.2)).1).length:Int)∧(((z1s count ((((oa).getD (t25:Int).toNat (0,0,0))).1) ((((oa).getD (t25:Int).toNat (0,0,0))).2.1) ((((oa).getD (t25:Int).toNat (0,0,0))).2.2)).1).length:Int)-t39≤(μ2:Int)∧z6b count oa=z7y count oa t5 t25 y1_1 (fun (t39:Int) (y2_1:LN)=>(z4c count oa μ t5 (t25+1) y2_1)) (μ2+1) t39 y2_1) (Int.toNat ((((z1s count ((((oa).getD (t25:Int).toNat (0,0,0))).1) ((((oa).getD (t25:Int).toNat (0,0,0))).2.1) ((((oa).getD (t25:Int).toNat (0,0,0))).2.2)).1).length:Int)-(0:Int))) _ H_5 ?_ ?_
      ·exact ⟨_,o51,ω41,o53,r_45,ω2,ω2,g49,ω3,ω3,ω2,e⟩
      ·intro μ2 t39  H_6 hI
       obtain ⟨y2_1,o59,y60,o61,r62,n63,n64,g65,v66,v67,hμ,e⟩:=hI
       rw [z1ax]
       have e:=e.trans (z7z count oa t5 t25 y1_1 (fun (t39:Int) (y2_1:LN)=>(z4c count oa μ t5 (t25+1) y2_1)) μ2 t39 y2_1)
       have hz:=zom (by assumption)
       have w68:=o59.lt
       have w69:=o61.lt
       have l70:=g65.1
       refine Br.intro (fun c71=>?_) (fun c71=>?_)
       ·have e:=e.trans (zj c71)
        have c_71':=odt c71
        obtain ⟨b72,f73,q74⟩:=(r62.isL).pos ω0
        refine ⟨by omega,by omega,b72,f73,q74,?_⟩
        refine ⟨(((z1s count ((((oa).getD (t25:Int).toNat (0,0,0))).1) ((((oa).getD (t25:Int).toNat (0,0,0))).2.1) ((((oa).getD (t25:Int).toNat (0,0,0))).2.2)).1).getD (t39:Int).toNat 0),(r62.isL).rd (Grow.refl _) q74 ω2 _,?_⟩
        refine ⟨by omega,ω2,_,_,rfl,?_⟩
        refine ⟨((y2_1).getD (t39:Int).toNat 0),o59.rd ω0 _,?_⟩
        refine ⟨by omega,ω2,_,_,rfl,?_⟩
        refine Lt.set o59 ω14 (fun H_7 hl_75 o77 k76=>?_)
        have o77:=map_set o77
        have l78:=k76.1
        have g79:=g65.keep (b:=b_3) ω2 k76
        have l80:=g79.1
        have o81:=o61.keep ω2 k76
        have w82:=o81.lt
        have r83:=r62.keep u55 ω2 k76
        have w84:=o77.lt
        rw [show IntKind.wrap .i64 (t39+1)=(t39+1) from zy ω2 ω2]
        refine z1au (μ2-1) ω18 ⟨_,o77,ω25,o81,r83,ω2,ω2,g79,ω1,ω1,ω18,ω30⟩
       ·have e:=e.trans (zi c71)
        have c_71':=odf c71
        rw [zzn]
        rw [show IntKind.wrap .i64 (t25+1)=(t25+1) from zy ω2 ω2]
        refine z1at (μ-1) ω18 ⟨_,_,o59,ω25,g65,ω1,ω1,ω18,ω19⟩
    ·have e:=e.trans (zi c_19)
     have c_19':=odf c_19
     rw [zzm]
     refine ztv ⟨_,(o12.isL ω34),ω0,(fun H_8 g91=>?_)⟩
     have l93:=g91.1
     have g94:=g14.trans g91
     have l95:=g94.1
     have o96:=o12.grow g91
     have w97:=o96.lt
     refine Br.intro (fun c92=>?_) (fun c92=>?_)
     ·have e:=e.trans (zj c92)
      rw [e] at hk
      exact hk _ _ _ H_8 g94 (o96.ownS ω34 ω2)
     ·have e:=e.trans (zi c92)
      rw [e] at hk
      exact hk _ _ _ H_8 g94 ω7
theorem z1av:FnOk Try.prog 87 zqu:=by
 refine FnOk.body mix_ok znj Try.func87 rfl ω5 ω5 ?_ ?_ ?_ ?_ ?_
 ·intro args H K K' h hk
  simp only [zqu] at *
  unfold zsz at *
  split at hk
  ·obtain ⟨oa,i_atoms,bd_99,k⟩:=hk
   exact ⟨oa,i_atoms,bd_99,(fun za db cb H' gg ow0=>h _ _ (k za db cb H' gg ow0))⟩
  ·exact hk.elim
 ·intro hq;cases hq
 ·intro args H K hk
  simp only [zqu] at *
  unfold zsz at *
  split at hk
  ·obtain ⟨oa,i_atoms,bd_99,k⟩:=hk
   exact zk5 fun a n e H1 g o=>⟨_,_,k a n e H1 g o⟩
  ·exact hk.elim
 ·intro _ args H K hk
  simp only [zqu] at *
  unfold zsz at *
  split at hk
  ·obtain ⟨oa,i_atoms,bd_99,k⟩:=hk
   exact ⟨oa,i_atoms,bd_99,(fun za db cb H' gg ow0=>⟨gg,k za db cb H' gg ow0⟩)⟩
  ·exact hk.elim
 ·have mm:=@zzl
  have ml:=fun (args:List Value) (H:zd) (K:KT)=>zf (P:=Try.prog) (env:=z6e) (fn:=Try.f87) (args:=args) (H:=H) (K:=K) znj 
  revert mm ml
  generalize z1a Try.prog z6e Try.f87=Q
  generalize zk Try.prog z6e Try.f87=QL
  intro mm ml args H K hk
  simp only [zqu] at *
  unfold zsz at *
  split at hk
  ·exact ml _ H K (mm _ _ _ _ H K hk)
  ·exact hk.elim
def z8s (x:Nat):Nat×Bool:=(bif !(zdq x) then (0,false) else (x,true))
def zeq (x:Nat) (H:zd) (K:Nat→Bool→zd→Prop):Prop:=K (z8s x).1 (z8s x).2 H

theorem zo9 {x:Nat} {H:zd} {K:Nat→Bool→zd→Prop} (h:K (z8s x).1 (z8s x).2 H):zeq x H K:=h
def zdw:Env:=envOf [(133,zft)]
def zi4:List Value→zd→(Value→zd→Prop)→Prop
 | [.float .f32 x],H,K=>zeq x H fun (r1:Nat) (r2:Bool) (H':zd)=>K (.tuple #[.float .f32 r1,.bool r2]) H'
 | _,_,_=>False
def zc3:FSpec:={F:=zi4,quiet:=true,tame:=false}
theorem f18z_vc (x:Nat) (H:zd) (K:KT):zk Try.prog zdw Try.f117 [.float .f32 x] H K=
 (zfy x H fun (r1:Bool) (H1:zd)=>Br (!r1) (K (.tuple #[.float .f32 0,.bool false]) H1) (K (.tuple #[.float .f32 x,.bool true]) H1)):=by kernel_rfl
theorem zhi:∀g,FnOk Try.prog g (zdw g):=FnOk.envOf (by
 intro x hx
 simp only [List.mem_cons,List.not_mem_nil,or_false] at hx
 subst hx;exact zon)
theorem f18z_main (x:Nat) (H:zd) (K:KT) (h:zeq x H fun (r1:Nat) (r2:Bool) (H':zd)=>K (.tuple #[.float .f32 r1,.bool r2]) H'):zk Try.prog zdw Try.f117 [.float .f32 x] H K:=by
 rw [f18z_vc]
 simp only [zfy]
 unfold zeq z8s at h
 repeat' (first | exact h | (exfalso;simp_all;done) | (refine ⟨by decide,?_⟩) | (refine Br.intro (fun hb=>?_) (fun hb=>?_)<;>(try simp only [hb,cond_true,cond_false,Bool.not_true,Bool.not_false] at h)))
theorem f18z_ok:FnOk Try.prog 117 zc3:=by
 refine FnOk.body mix_ok zhi Try.func117 rfl ω5 ω5 ?_ ?_ ?_ ?_ ?_
 ·intro args H K K' h hk
  simp only [zc3] at *
  unfold zi4 at *
  split at hk
  ·have k:=hk
   exact h _ _ k
  ·exact hk.elim
 ·intro _ args H K hk
  simp only [zc3] at *
  unfold zi4 at *
  split at hk
  ·have k:=hk
   exact ⟨_,k,fun K' k'=>k'⟩
  ·exact hk.elim
 ·intro args H K hk
  simp only [zc3] at *
  unfold zi4 at *
  split at hk
  ·have k:=hk
   exact ⟨_,_,k⟩
  ·exact hk.elim
 ·intro hq;cases hq
 ·have mm:=@f18z_main
  have ml:=fun (args:List Value) (H:zd) (K:KT)=>zf (P:=Try.prog) (env:=zdw) (fn:=Try.f117) (args:=args) (H:=H) (K:=K) zhi 
  revert mm ml
  generalize z1a Try.prog zdw Try.f117=Q
  generalize zk Try.prog zdw Try.f117=QL
  intro mm ml args H K hk
  simp only [zc3] at *
  unfold zi4 at *
  split at hk
  ·exact ml _ H K (mm _ H K hk)
  ·exact hk.elim

def za1 (l_a l_b:LN):Nat→Nat→Int→Nat×Bool
 | 0,_,_=>(0,false)
 | μ+1,sum,t27=>(bif decide ((t27:Int)<(l_a.length:Int)) then (za1 l_a l_b μ (fadd .f32 sum (fmul .f32 (fsub .f32 (((l_a).getD (t27:Int).toNat 0)) (((l_b).getD (t27:Int).toNat 0))) (fsub .f32 (((l_a).getD (t27:Int).toNat 0)) (((l_b).getD (t27:Int).toNat 0))))) (t27+1)) else ((z8s (fdiv .f32 sum (FloatKind.nearest .f32 (l_a.length:Int)))).1,(z8s (fdiv .f32 sum (FloatKind.nearest .f32 (l_a.length:Int)))).2))
def zf7:=fun l_a l_b μ sum t27=>@za1.eq_2 l_a l_b sum t27 μ
def z3s (l_a l_b:LN):Nat×Bool:=((bif !(z6x l_a) then (0,false) else (bif !(z6x l_b) then (0,false) else (bif ((l_a.length:Int):Int) != (l_b.length:Int) then (0,false) else (za1 l_a l_b (Int.toNat ((l_a.length:Int)-(0:Int))+1) 0 (0:Int))))))
def zp6:=@z3s.eq_1
def zj0 (a_a:OA) (a_n a_e:Nat) (b_a:OA) (b_n b_e:Nat) (H:zd) (K:Nat→Bool→zd→Prop):Prop:=∃(l_a l_b:LN),IsL fF H a_a a_n l_a∧IsL fF H b_a b_n l_b∧l_a.length<1073741824∧l_b.length<1073741824∧((∀H':zd,Grow H H'→K ((z3s l_a l_b).1) ((z3s l_a l_b).2) H'))
theorem zc7 {a_a:OA} {a_n a_e:Nat} {b_a:OA} {b_n b_e:Nat} {H:zd} {K:Nat→Bool→zd→Prop} (h:∃(l_a l_b:LN),IsL fF H a_a a_n l_a∧IsL fF H b_a b_n l_b∧l_a.length<1073741824∧l_b.length<1073741824∧((∀H':zd,Grow H H'→K ((z3s l_a l_b).1) ((z3s l_a l_b).2) H'))):zj0 a_a a_n a_e b_a b_n b_e H K:=h

def zbe:Env:=envOf [(105,zaz),(117,zc3)]
def zsm:List Value→zd→(Value→zd→Prop)→Prop
 | [.slice a_a a_n a_e,.slice b_a b_n b_e],H,K=>zj0 a_a a_n a_e b_a b_n b_e H fun (r1:Nat) (r2:Bool) (H':zd)=>K (.tuple #[.float .f32 r1,.bool r2]) H'
 | _,_,_=>False
def zla:FSpec:={F:=zsm,quiet:=false,tame:=true}
theorem f2z_vc (a_a:OA) (a_n a_e:Nat) (b_a:OA) (b_n b_e:Nat) (H:zd) (K:KT):zk Try.prog zbe Try.f88 [.slice a_a a_n a_e,.slice b_a b_n b_e] H K=
 (zc5 a_a a_n a_e H fun (r1:Bool) (H1:zd)=>Br (!r1) (K (.tuple #[.float .f32 0,.bool false]) H1) (zc5 b_a b_n b_e H1 fun (r2:Bool) (H2:zd)=>Br (!r2) (K (.tuple #[.float .f32 0,.bool false]) H2) (Br (((a_n:Int):Int) != (b_n:Int)) (K (.tuple #[.float .f32 0,.bool false]) H2) (z1b (exL Try.prog zbe (cl (cl (cr (cl (cr (cr (cr (zg Try.f88)))))))) 234881091 48 [(0,65)]) (.slice a_a a_n a_e::.slice b_a b_n b_e::ud4 (.float .f32 0::ud18 (.slice a_a a_n a_e::.int .i64 (a_n:Int)::.int .i64 0::ud24 []))) H2 (zn 0 (seqQ (exL Try.prog zbe (cr (cr (cr (cr (zg Try.f88))))) 48 48 []) (retK Try.prog Try.f88 K))))))):=by kernel_rfl
abbrev f2z_P1 (a_a:OA) (a_e a_n:Nat) (b_a:OA) (b_e b_n sum:Nat) (t27:Int)  :List Value:=(.slice a_a a_n a_e::.slice b_a b_n b_e::ud4 (.float .f32 sum::ud18 (.slice a_a a_n a_e::.int .i64 (a_n:Int)::.int .i64 t27::ud24 [])))
theorem f2z_r1 (a_a:OA) (a_e a_n:Nat) (b_a:OA) (b_e b_n sum:Nat) (t27:Int)  (H:zd) (R:Post):exL Try.prog zbe (cl (cl (cr (cl (cr (cr (cr (zg Try.f88)))))))) 234881091 48 [(0,65)] (f2z_P1 a_a a_e a_n b_a b_e b_n sum t27) H R=
 (Br (decide ((t27:Int)<(a_n:Int))) ((0:Int)≤t27∧t27<(a_n:Int)∧∃b1 f1,(a_a:OA)=some ⟨b1,f1,none⟩∧∃x1:Nat,  rdC H b1 (f1+(t27:Int).toNat*1)=some (.float .f32 x1)∧(0:Int)≤t27∧t27<(b_n:Int)∧∃b2 f2,(b_a:OA)=some ⟨b2,f2,none⟩∧∃x2:Nat,  rdC H b2 (f2+(t27:Int).toNat*1)=some (.float .f32 x2)∧R .normal (.slice a_a a_n a_e::.slice b_a b_n b_e::ud4 (.float .f32 (fadd .f32 sum (fmul .f32 (fsub .f32 x1 x2) (fsub .f32 x1 x2)))::ud18 (.slice a_a a_n a_e::.int .i64 (a_n:Int)::.int .i64 (IntKind.wrap .i64 (t27+1))::ud24 []))) H) (R (.exit 0) (.slice a_a a_n a_e::ud5 (.float .f32 sum::ud45 [])) H)):=by kernel_rfl
def f2z_I1 (a_a:OA) (a_e a_n:Nat) (b_a:OA) (b_e b_n:Nat) (Inv:Nat→Nat→Int→zd→Prop):Nat→List Value→zd→Prop:=fun μ tm H=>∃sum:Nat,∃t27:Int,tm=(f2z_P1 a_a a_e a_n b_a b_e b_n sum t27)∧Inv μ sum t27 H
theorem f2z_L1 (a_a:OA) (a_e a_n:Nat) (b_a:OA) (b_e b_n:Nat) {Q:Post} (Inv:Nat→Nat→Int→zd→Prop) (ν sum:Nat) (t27:Int)  (H:zd) (h0:Inv ν sum t27 H)
  (hs:∀(μ:Nat) (sum:Nat) (t27:Int)  (H:zd),Inv μ sum t27 H→exL Try.prog zbe (cl (cl (cr (cl (cr (cr (cr (zg Try.f88)))))))) 234881091 48 [(0,65)] (f2z_P1 a_a a_e a_n b_a b_e b_n sum t27) H (zp (f2z_I1 a_a a_e a_n b_a b_e b_n Inv) μ Q)):z1b (exL Try.prog zbe (cl (cl (cr (cl (cr (cr (cr (zg Try.f88)))))))) 234881091 48 [(0,65)]) (f2z_P1 a_a a_e a_n b_a b_e b_n sum t27) H Q:=
 ⟨f2z_I1 a_a a_e a_n b_a b_e b_n Inv,ν,⟨sum,t27,rfl,h0⟩,fun μ tm H h=>by obtain ⟨sum,t27,rfl,hI⟩:=h;exact hs μ sum t27  H hI⟩
theorem f2z_n1 {a_a:OA} {a_e a_n:Nat} {b_a:OA} {b_e b_n:Nat} {Q:Post} {Inv:Nat→Nat→Int→zd→Prop} {μ:Nat} (μ':Nat) {sum:Nat} {t27:Int}  {H:zd} (hm:μ'<μ) (hI:Inv μ' sum t27 H):zp (f2z_I1 a_a a_e a_n b_a b_e b_n Inv) μ Q .normal (f2z_P1 a_a a_e a_n b_a b_e b_n sum t27) H:=⟨μ',hm,sum,t27,rfl,hI⟩
theorem f2z_x1_0 (a_a:OA) (a_e a_n sum:Nat) (H:zd) (K:KT)  {I:Nat→List Value→zd→Prop} {μ:Nat}:zp I μ (zn 0 (seqQ (exL Try.prog zbe (cr (cr (cr (cr (zg Try.f88))))) 48 48 []) (retK Try.prog Try.f88 K))) (.exit 0) (.slice a_a a_n a_e::ud5 (.float .f32 sum::ud45 [])) H=
 (zeq (fdiv .f32 sum (FloatKind.nearest .f32 (a_n:Int))) H fun (r3:Nat) (r4:Bool) (H3:zd)=>K (.tuple #[.float .f32 r3,.bool r4]) H3):=by kernel_rfl
theorem zn4:∀g,FnOk Try.prog g (zbe g):=FnOk.envOf (by
 intro x hx
 simp only [List.mem_cons,List.not_mem_nil,or_false] at hx
 rcases hx with rfl | rfl
 ·exact f19z_ok
 ·exact f18z_ok)
theorem f2z_main (a_a:OA) (a_n a_e:Nat) (b_a:OA) (b_n b_e:Nat) (H:zd) (K:KT) (h:zj0 a_a a_n a_e b_a b_n b_e H fun (r1:Nat) (r2:Bool) (H':zd)=>K (.tuple #[.float .f32 r1,.bool r2]) H'):zk Try.prog zbe Try.f88 [.slice a_a a_n a_e,.slice b_a b_n b_e] H K:=by
 rw [f2z_vc]
 obtain ⟨l_a,l_b,i_a,i_b,bd_22,bd_23,hk⟩:=h
 obtain rfl:=i_a.eqn
 obtain rfl:=i_b.eqn
 have e:(z3s l_a l_b)=_:=rfl
 have e:=e.trans (zp6 l_a l_b)
 have g0:=Grow.refl H
 refine zbr ⟨_,(i_a.grow g0),ω0,fun  H_1 g_1  =>?_⟩
 have l_2:=g_1.1
 have g_3:=g0.trans g_1
 have l_4:=g_3.1
 refine Br.intro (fun c_5=>?_) (fun c_5=>?_)
 ·have e:=e.trans (zj c_5)
  have c_5n:=zv c_5
  rw [e] at hk
  exact hk  H_1 g_3 
 ·have e:=e.trans (zi c_5)
  have c_5n:=zr c_5
  have c_5n':=f19z_t c_5n
  refine zbr ⟨_,(i_b.grow g_3),ω0,fun  H_2 g_6  =>?_⟩
  have l_7:=g_6.1
  have g8:=g_3.trans g_6
  have l_9:=g8.1
  refine Br.intro (fun c_10=>?_) (fun c_10=>?_)
  ·have e:=e.trans (zj c_10)
   have c_10n:=zv c_10
   rw [e] at hk
   exact hk  H_2 g8 
  ·have e:=e.trans (zi c_10)
   have c_10n:=zr c_10
   have c_10n':=f19z_t c_10n
   refine Br.intro (fun c_11=>?_) (fun c_11=>?_)
   ·have e:=e.trans (zj c_11)
    have c_11':=zmf c_11
    rw [e] at hk
    exact hk  H_2 g8 
   ·have e:=e.trans (zi c_11)
    have c_11':=zme c_11
    refine f2z_L1 _ _ _ _ _ _ (fun (μ:Nat) (sum:Nat) (t27:Int) (H_3:zd)=>H_2=H_3∧(0:Int)≤t27∧t27≤(l_a.length:Int)∧(l_a.length:Int)-t27≤(μ:Int)∧z3s l_a l_b=za1 l_a l_b (μ+1) sum t27) (Int.toNat ((l_a.length:Int)-(0:Int))) _ _ H_2 ?_ ?_
    ·exact ⟨rfl,ω3,ω3,ω2,e⟩
    ·intro μ sum t27  H_3 hI
     obtain ⟨rfl,v12,v13,hμ,e⟩:=hI
     rw [f2z_r1]
     have e:=e.trans (zf7 l_a l_b μ sum t27)
     have l14:=g8.1
     refine Br.intro (fun c_15=>?_) (fun c_15=>?_)
     ·have e:=e.trans (zj c_15)
      have c_15':=odt c_15
      obtain ⟨b16,f17,q18⟩:=((i_a.grow g8)).pos ω0
      refine ⟨by omega,by omega,b16,f17,q18,?_⟩
      refine ⟨((l_a).getD (t27:Int).toNat 0),(i_a).rd g8 q18 ω2 _,?_⟩
      obtain ⟨b19,f20,q21⟩:=((i_b.grow g8)).pos ω0
      refine ⟨by omega,by omega,b19,f20,q21,?_⟩
      refine ⟨((l_b).getD (t27:Int).toNat 0),(i_b).rd g8 q21 ω2 _,?_⟩
      rw [show IntKind.wrap .i64 (t27+1)=(t27+1) from zy ω2 ω2]
      refine f2z_n1 (μ-1) ω18 ⟨rfl,ω1,ω1,ω18,ω19⟩
     ·have e:=e.trans (zi c_15)
      have c_15':=odf c_15
      rw [f2z_x1_0]
      refine zo9 ?_
      rw [e] at hk
      exact hk  H_2 g8 
theorem f2z_ok:FnOk Try.prog 88 zla:=by
 refine FnOk.body mix_ok zn4 Try.func88 rfl ω5 ω5 ?_ ?_ ?_ ?_ ?_
 ·intro args H K K' h hk
  simp only [zla] at *
  unfold zsm at *
  split at hk
  ·obtain ⟨l_a,l_b,i_a,i_b,bd_22,bd_23,k⟩:=hk
   exact ⟨l_a,l_b,i_a,i_b,bd_22,bd_23,(fun  H' gg  =>h _ _ (k  H' gg))⟩
  ·exact hk.elim
 ·intro hq;cases hq
 ·intro args H K hk
  simp only [zla] at *
  unfold zsm at *
  split at hk
  ·obtain ⟨l_a,l_b,i_a,i_b,bd_22,bd_23,k⟩:=hk
   exact ⟨_,_,k H (Grow.refl H)⟩
  ·exact hk.elim
 ·intro _ args H K hk
  simp only [zla] at *
  unfold zsm at *
  split at hk
  ·obtain ⟨l_a,l_b,i_a,i_b,bd_22,bd_23,k⟩:=hk
   exact ⟨l_a,l_b,i_a,i_b,bd_22,bd_23,(fun  H' gg  =>⟨gg,k  H' gg⟩)⟩
  ·exact hk.elim
 ·have mm:=@f2z_main
  have ml:=fun (args:List Value) (H:zd) (K:KT)=>zf (P:=Try.prog) (env:=zbe) (fn:=Try.f88) (args:=args) (H:=H) (K:=K) zn4 
  revert mm ml
  generalize z1a Try.prog zbe Try.f88=Q
  generalize zk Try.prog zbe Try.f88=QL
  intro mm ml args H K hk
  simp only [zla] at *
  unfold zsm at *
  split at hk
  ·exact ml _ H K (mm _ _ _ _ _ _ H K hk)
  ·exact hk.elim

def z5e (x x0 ve x_0' ve_3:Nat) (k3_4:Nat→Nat→Nat):Nat→Nat→Nat→Nat
 | 0,_,_=>0
 | μ3+1,q,k=>(bif fle .f64 4607182418800017408 k then (z5e x x0 ve x_0' ve_3 k3_4 μ3 (fadd .f64 (fdiv .f64 4607182418800017408 k) (fmul .f64 (fmul .f64 (fdiv .f64 (fsub .f64 x_0' 4607182418800017408) (fadd .f64 x_0' 4607182418800017408)) (fdiv .f64 (fsub .f64 x_0' 4607182418800017408) (fadd .f64 x_0' 4607182418800017408))) q)) (fsub .f64 k 4611686018427387904)) else (k3_4 q k))
def zap:=fun x x0 ve x_0' ve_3 k3_4 μ3 q k=>@z5e.eq_2 x x0 ve x_0' ve_3 k3_4 q k μ3
def z6n (x x0 ve:Nat) (k2_2:Nat→Nat→Nat):Nat→Nat→Nat→Nat
 | 0,_,_=>0
 | μ2+1,x_0',ve_3=>(bif flt .f64 x_0' 4604930618986332160 then (z6n x x0 ve k2_2 μ2 (fmul .f64 x_0' 4611686018427387904) (fsub .f64 ve_3 4607182418800017408)) else (k2_2 x_0' ve_3))
def zao:=fun x x0 ve k2_2 μ2 x_0' ve_3=>@z6n.eq_2 x x0 ve k2_2 x_0' ve_3 μ2
def z6m (x:Nat):Nat→Nat→Nat→Nat
 | 0,_,_=>0
 | μ+1,x0,ve=>(bif fle .f64 4609434218613702656 x0 then (z6m x μ (fdiv .f64 x0 4611686018427387904) (fadd .f64 ve 4607182418800017408)) else (z6n x x0 ve (fun (x_0':Nat) (ve_3:Nat)=>(z5e x x0 ve x_0' ve_3 (fun (q:Nat) (k:Nat)=>fadd .f64 (fmul .f64 4611686018427387904 (fmul .f64 (fdiv .f64 (fsub .f64 x_0' 4607182418800017408) (fadd .f64 x_0' 4607182418800017408)) q)) (fmul .f64 ve_3 4604418534313441775)) (Int.toNat (cnt 4627730092099895296)+1) 0 4627730092099895296)) (Int.toNat ((4604930618986332160:Int)-x0)+1) x0 ve))
def zan:=fun x μ x0 ve=>@z6m.eq_2 x x0 ve μ
def zdp (x:Nat):Nat:=(z6m x (Int.toNat ((x:Int))+1) x 0)
def zgr:=@zdp.eq_1
def zye (x:Nat) (H:zd) (K:Nat→zd→Prop):Prop:=4503599627370496≤x∧x<9218868437227405312∧K (zdp x) H
theorem z13q {x:Nat} {H:zd} {K:Nat→zd→Prop} (h:4503599627370496≤x∧x<9218868437227405312∧K (zdp x) H):zye x H K:=h
theorem zma {x x0 ve x' ve_3:Nat} {K:Nat→Nat→Nat} (h0:4604930618986332160≤x') (h1:x'<4609434218613702656) (hK:∀q k,Bd .f64 1160 q→zl (K q k)≠none):
  ∀(μ:Nat) (n:Int) (A q:Nat),Bd .f64 A q→1074≤A→(A:Int)≤1155-3*n→n≤25→-1≤n→zl (z5e x x0 ve x' ve_3 K μ q (FloatKind.nearest .f64 n))≠none:=by
 intro μ
 induction μ with
 | zero=>intro n A q _ _ _ _ _;exact (by decide+kernel:zl 0≠none)
 | succ μ ih=>
  intro n A q hq hA hA2 hn hn1
  rw [zap]
  have hc:=z8q (n:=n) ω2 ω2
  rw [hc.2.1]
  by_cases h:(1:Int)≤n
  ·rw [dct h,cond_true,hc.2.2.2]
   exact ih (n-2) (A+6) _ (zk8 (zey h0 h1) h ω2 hq hA ω2) ω2 ω2 ω2 ω2
  ·rw [dcf h,cond_false]
   exact hK _ _ (hq.mono ω2)
theorem zm9 {x x0 ve:Nat} {K:Nat→Nat→Nat} (hK:∀x' (e:Int),4604930618986332160≤x'→x'<4609434218613702656→e.natAbs≤4000→zl (K x' (FloatKind.nearest .f64 e))≠none):
  ∀(μ:Nat) (x':Nat) (e:Int),4503599627370496≤x'→x'<4609434218613702656→(4609434218613702656:Int)-x'≤(e+3000)*4503599627370496→e≤2100→
   zl (z6n x x0 ve K μ x' (FloatKind.nearest .f64 e))≠none:=by
 intro μ
 induction μ with
 | zero=>intro x' e _ _ _ _;exact (by decide+kernel:zl 0≠none)
 | succ μ ih=>
  intro x' e h0 h1 h2 h3
  rw [zao]
  cases hc:flt .f64 x' 4604930618986332160 with
  | true=>
   have:=z2z h0 ω2 hc
   rw [cond_true,zkd ω2,this.1]
   exact ih _ _ ω2 ω2 ω2 ω2
  | false=>
   rw [cond_false]
   rw [zbb h0 ω2 ω11 ω11] at hc
   have:=odf hc
   exact hK _ _ ω2 h1 ω2
theorem zm8 {x:Nat}:
  ∀(μ:Nat) (x0:Nat) (e:Int),4503599627370496≤x0→x0<9218868437227405312→e*4503599627370496+x0≤9218868437227405312→0≤e→
   zl (z6m x μ x0 (FloatKind.nearest .f64 e))≠none:=by
 intro μ
 induction μ with
 | zero=>intro x0 e _ _ _ _;exact (by decide+kernel:zl 0≠none)
 | succ μ ih=>
  intro x0 e h0 h1 h2 h3
  rw [zan]
  cases hc:fle .f64 4609434218613702656 x0 with
  | true=>
   have:=z2u h0 h1 hc
   rw [cond_true,zwp ω2,this.1]
   exact ih _ _ ω2 ω2 ω2 ω2
  | false=>
   rw [cond_false]
   rw [z8t ω11 ω11 h0 h1] at hc
   have:=odf hc
   refine zm9 ?_ _ _ _ h0 ω2 ω2 ω2
   intro x' e' a0 a1 a2
   have e25:(4627730092099895296:Nat)=FloatKind.nearest .f64 25:=by decide+kernel
   rw [e25]
   refine zma a0 a1 ?_ _ 25 1074 0 (zfz _) ω11 ω11 ω11 ω11
   intro q k hq
   exact zow (zgh a0 a1) hq ω11 ω11 a2
theorem z15v {x:Nat} (h:4503599627370496≤x∧x<9218868437227405312):zl (zdp x)≠none:=by
 rw [zgr]
 have g:=zm8 (x:=x) (Int.toNat ((x:Int))+1) x 0 h.1 h.2 ω2 ω11
 rw [show FloatKind.nearest .f64 0=0 by decide+kernel] at g
 exact g
def z3v:Env:=envOf []
def zst:List Value→zd→(Value→zd→Prop)→Prop
 | [.float .f64 x],H,K=>zye x H fun (r1:Nat) (H':zd)=>K (.float .f64 r1) H'
 | _,_,_=>False
def zqp:FSpec:={F:=zst,quiet:=true,tame:=false}
theorem z1a2 (x:Nat) (H:zd) (K:KT):zk Try.prog z3v Try.f188 [.float .f64 x] H K=
 (z1b (exL Try.prog z3v (cl (cl (cl (cr (cr (zg Try.f188)))))) 9 4 [(0,9)]) (.float .f64 x::ud2 (.float .f64 0::ud41 [])) H (zn 0 (seqQ (exL Try.prog z3v (cr (cr (cr (zg Try.f188)))) 4 4 []) (retK Try.prog Try.f188 K)))):=by kernel_rfl
abbrev zje  (x0:Nat) (ve:Nat)  :List Value:=(.float .f64 x0::ud2 (.float .f64 ve::ud41 []))
theorem z19z  (x0:Nat) (ve:Nat)  (H:zd) (R:Post):exL Try.prog z3v (cl (cl (cl (cr (cr (zg Try.f188)))))) 9 4 [(0,9)] (zje x0 ve) H R=
 (Br (fle .f64 4609434218613702656 x0) (R .normal (.float .f64 (fdiv .f64 x0 4611686018427387904)::ud2 (.float .f64 (fadd .f64 ve 4607182418800017408)::ud41 [])) H) (R (.exit 0) (.float .f64 x0::ud2 (.float .f64 ve::ud41 [])) H)):=by kernel_rfl
def zv8  (Inv:Nat→Nat→Nat→zd→Prop):Nat→List Value→zd→Prop:=fun μ tm H=>∃(x0 ve:Nat),tm=(zje x0 ve)∧Inv μ x0 ve H
theorem z19s  {Q:Post} (Inv:Nat→Nat→Nat→zd→Prop) (ν:Nat) (x0:Nat) (ve:Nat)  (H:zd) (h0:Inv ν x0 ve H)
  (hs:∀(μ:Nat) (x0:Nat) (ve:Nat)  (H:zd),Inv μ x0 ve H→exL Try.prog z3v (cl (cl (cl (cr (cr (zg Try.f188)))))) 9 4 [(0,9)] (zje x0 ve) H (zp (zv8  Inv) μ Q)):z1b (exL Try.prog z3v (cl (cl (cl (cr (cr (zg Try.f188)))))) 9 4 [(0,9)]) (zje x0 ve) H Q:=
 ⟨zv8  Inv,ν,⟨x0,ve,rfl,h0⟩,fun μ tm H h=>by obtain ⟨x0,ve,rfl,hI⟩:=h;exact hs μ x0 ve  H hI⟩
theorem z19v  {Q:Post} {Inv:Nat→Nat→Nat→zd→Prop} {μ:Nat} (μ':Nat) {x0:Nat} {ve:Nat}  {H:zd} (hm:μ'<μ) (hI:Inv μ' x0 ve H):zp (zv8  Inv) μ Q .normal (zje x0 ve) H:=⟨μ',hm,x0,ve,rfl,hI⟩
theorem zz8 (x0 ve:Nat) (H:zd) (K:KT)  {I:Nat→List Value→zd→Prop} {μ:Nat}:zp I μ (zn 0 (seqQ (exL Try.prog z3v (cr (cr (cr (zg Try.f188)))) 4 4 []) (retK Try.prog Try.f188 K))) (.exit 0) (.float .f64 x0::ud2 (.float .f64 ve::ud41 [])) H=
 (z1b (exL Try.prog z3v (cl (cl (cl (cr (cr (cr (zg Try.f188))))))) 9 4 [(2,9)]) (.float .f64 x0::ud2 (.float .f64 ve::ud41 [])) H (zn 2 (seqQ (exL Try.prog z3v (cr (cr (cr (cr (zg Try.f188))))) 4 4 []) (retK Try.prog Try.f188 K)))):=by kernel_rfl
abbrev zjf  (x_0':Nat) (ve_3:Nat)  :List Value:=(.float .f64 x_0'::ud2 (.float .f64 ve_3::ud41 []))
theorem z1a0  (x_0':Nat) (ve_3:Nat)  (H:zd) (R:Post):exL Try.prog z3v (cl (cl (cl (cr (cr (cr (zg Try.f188))))))) 9 4 [(2,9)] (zjf x_0' ve_3) H R=
 (Br (flt .f64 x_0' 4604930618986332160) (R .normal (.float .f64 (fmul .f64 x_0' 4611686018427387904)::ud2 (.float .f64 (fsub .f64 ve_3 4607182418800017408)::ud41 [])) H) (R (.exit 2) (.float .f64 x_0'::ud2 (.float .f64 ve_3::ud41 [])) H)):=by kernel_rfl
def zv9  (Inv:Nat→Nat→Nat→zd→Prop):Nat→List Value→zd→Prop:=fun μ tm H=>∃(x_0' ve_3:Nat),tm=(zjf x_0' ve_3)∧Inv μ x_0' ve_3 H
theorem z19t  {Q:Post} (Inv:Nat→Nat→Nat→zd→Prop) (ν:Nat) (x_0':Nat) (ve_3:Nat)  (H:zd) (h0:Inv ν x_0' ve_3 H)
  (hs:∀(μ:Nat) (x_0':Nat) (ve_3:Nat)  (H:zd),Inv μ x_0' ve_3 H→exL Try.prog z3v (cl (cl (cl (cr (cr (cr (zg Try.f188))))))) 9 4 [(2,9)] (zjf x_0' ve_3) H (zp (zv9  Inv) μ Q)):z1b (exL Try.prog z3v (cl (cl (cl (cr (cr (cr (zg Try.f188))))))) 9 4 [(2,9)]) (zjf x_0' ve_3) H Q:=
 ⟨zv9  Inv,ν,⟨x_0',ve_3,rfl,h0⟩,fun μ tm H h=>by obtain ⟨x_0',ve_3,rfl,hI⟩:=h;exact hs μ x_0' ve_3  H hI⟩
theorem z19w  {Q:Post} {Inv:Nat→Nat→Nat→zd→Prop} {μ:Nat} (μ':Nat) {x_0':Nat} {ve_3:Nat}  {H:zd} (hm:μ'<μ) (hI:Inv μ' x_0' ve_3 H):zp (zv9  Inv) μ Q .normal (zjf x_0' ve_3) H:=⟨μ',hm,x_0',ve_3,rfl,hI⟩
theorem zz9 (x_0' ve_3:Nat) (H:zd) (K:KT)  {I:Nat→List Value→zd→Prop} {μ:Nat}:zp I μ (zn 2 (seqQ (exL Try.prog z3v (cr (cr (cr (cr (zg Try.f188))))) 4 4 []) (retK Try.prog Try.f188 K))) (.exit 2) (.float .f64 x_0'::ud2 (.float .f64 ve_3::ud41 [])) H=
 (z1b (exL Try.prog z3v (cl (cl (cr (cl (cr (cr (cr (cr (cr (cr (cr (zg Try.f188)))))))))))) 248 4 [(4,88)]) (ud3 (.float .f64 ve_3::.float .f64 (fdiv .f64 (fsub .f64 x_0' 4607182418800017408) (fadd .f64 x_0' 4607182418800017408))::.float .f64 (fmul .f64 (fdiv .f64 (fsub .f64 x_0' 4607182418800017408) (fadd .f64 x_0' 4607182418800017408)) (fdiv .f64 (fsub .f64 x_0' 4607182418800017408) (fadd .f64 x_0' 4607182418800017408)))::.float .f64 0::.float .f64 4627730092099895296::ud37 [])) H (zn 4 (seqQ (exL Try.prog z3v (cr (cr (cr (cr (cr (cr (cr (cr (zg Try.f188))))))))) 4 4 []) (retK Try.prog Try.f188 K)))):=by kernel_rfl
abbrev zjg (ve_3 x_0' q k:Nat)  :List Value:=(ud3 (.float .f64 ve_3::.float .f64 (fdiv .f64 (fsub .f64 x_0' 4607182418800017408) (fadd .f64 x_0' 4607182418800017408))::.float .f64 (fmul .f64 (fdiv .f64 (fsub .f64 x_0' 4607182418800017408) (fadd .f64 x_0' 4607182418800017408)) (fdiv .f64 (fsub .f64 x_0' 4607182418800017408) (fadd .f64 x_0' 4607182418800017408)))::.float .f64 q::.float .f64 k::ud37 []))
theorem z1a1 (ve_3 x_0' q k:Nat)  (H:zd) (R:Post):exL Try.prog z3v (cl (cl (cr (cl (cr (cr (cr (cr (cr (cr (cr (zg Try.f188)))))))))))) 248 4 [(4,88)] (zjg ve_3 x_0' q k) H R=
 (Br (fle .f64 4607182418800017408 k) (R .normal (ud3 (.float .f64 ve_3::.float .f64 (fdiv .f64 (fsub .f64 x_0' 4607182418800017408) (fadd .f64 x_0' 4607182418800017408))::.float .f64 (fmul .f64 (fdiv .f64 (fsub .f64 x_0' 4607182418800017408) (fadd .f64 x_0' 4607182418800017408)) (fdiv .f64 (fsub .f64 x_0' 4607182418800017408) (fadd .f64 x_0' 4607182418800017408)))::.float .f64 (fadd .f64 (fdiv .f64 4607182418800017408 k) (fmul .f64 (fmul .f64 (fdiv .f64 (fsub .f64 x_0' 4607182418800017408) (fadd .f64 x_0' 4607182418800017408)) (fdiv .f64 (fsub .f64 x_0' 4607182418800017408) (fadd .f64 x_0' 4607182418800017408))) q))::.float .f64 (fsub .f64 k 4611686018427387904)::ud37 [])) H) (R (.exit 4) (ud3 (.float .f64 ve_3::.float .f64 (fdiv .f64 (fsub .f64 x_0' 4607182418800017408) (fadd .f64 x_0' 4607182418800017408))::ud::.float .f64 q::ud38 [])) H)):=by kernel_rfl
def zva (ve_3 x_0':Nat) (Inv:Nat→Nat→Nat→zd→Prop):Nat→List Value→zd→Prop:=fun μ tm H=>∃(q k:Nat),tm=(zjg ve_3 x_0' q k)∧Inv μ q k H
theorem z19u (ve_3 x_0':Nat) {Q:Post} (Inv:Nat→Nat→Nat→zd→Prop) (ν q k:Nat)  (H:zd) (h0:Inv ν q k H)
  (hs:∀(μ:Nat) (q:Nat) (k:Nat)  (H:zd),Inv μ q k H→exL Try.prog z3v (cl (cl (cr (cl (cr (cr (cr (cr (cr (cr (cr (zg Try.f188)))))))))))) 248 4 [(4,88)] (zjg ve_3 x_0' q k) H (zp (zva ve_3 x_0' Inv) μ Q)):z1b (exL Try.prog z3v (cl (cl (cr (cl (cr (cr (cr (cr (cr (cr (cr (zg Try.f188)))))))))))) 248 4 [(4,88)]) (zjg ve_3 x_0' q k) H Q:=
 ⟨zva ve_3 x_0' Inv,ν,⟨q,k,rfl,h0⟩,fun μ tm H h=>by obtain ⟨q,k,rfl,hI⟩:=h;exact hs μ q k  H hI⟩
theorem z19x {ve_3 x_0':Nat} {Q:Post} {Inv:Nat→Nat→Nat→zd→Prop} {μ:Nat} (μ':Nat) {q k:Nat}  {H:zd} (hm:μ'<μ) (hI:Inv μ' q k H):zp (zva ve_3 x_0' Inv) μ Q .normal (zjg ve_3 x_0' q k) H:=⟨μ',hm,q,k,rfl,hI⟩
theorem zza (ve_3 x_0' q:Nat) (H:zd) (K:KT)  {I:Nat→List Value→zd→Prop} {μ:Nat}:zp I μ (zn 4 (seqQ (exL Try.prog z3v (cr (cr (cr (cr (cr (cr (cr (cr (zg Try.f188))))))))) 4 4 []) (retK Try.prog Try.f188 K))) (.exit 4) (ud3 (.float .f64 ve_3::.float .f64 (fdiv .f64 (fsub .f64 x_0' 4607182418800017408) (fadd .f64 x_0' 4607182418800017408))::ud::.float .f64 q::ud38 [])) H=
 (K (.float .f64 (fadd .f64 (fmul .f64 4611686018427387904 (fmul .f64 (fdiv .f64 (fsub .f64 x_0' 4607182418800017408) (fadd .f64 x_0' 4607182418800017408)) q)) (fmul .f64 ve_3 4604418534313441775))) H):=by kernel_rfl
theorem znd:∀g,FnOk Try.prog g (z3v g):=FnOk.envOf (by
 intro x hx;cases hx)
theorem ω37 {P:Prop} (h:P:=by first | omega | (simp;done) | (simp;omega) | (have:=z2u (by assumption) (by assumption) (by assumption);omega)):P:=h
theorem ω33 {P:Prop} (h:P:=by first | omega | (have:=z2u (by assumption) (by assumption) (by assumption);omega)):P:=h
theorem ω27 {P:Prop} (h:P:=by first | omega | (have:=z2u (by assumption) (by assumption) (by assumption);omega) | (simp only [List.length_append,List.length_cons,List.length_nil,List.length_set];done) | (simp only [List.length_append,List.length_cons,List.length_nil,List.length_set];omega)):P:=h
theorem ω36 {P:Prop} (h:P:=by rw [show μ-1+1=μ from by first | omega | (have:=z2u (by assumption) (by assumption) (by assumption);omega)];exact e):P:=h
theorem ω29 {P:Prop} (h:P:=by first | omega | (simp;done) | (simp;omega) | (have:=z2z (by assumption) (by assumption) (by assumption);omega)):P:=h
theorem ω32 {P:Prop} (h:P:=by first | omega | (have:=z2z (by assumption) (by assumption) (by assumption);omega)):P:=h
theorem ω15 {P:Prop} (h:P:=by first | omega | (have:=z2z (by assumption) (by assumption) (by assumption);omega) | (simp only [List.length_append,List.length_cons,List.length_nil,List.length_set];done) | (simp only [List.length_append,List.length_cons,List.length_nil,List.length_set];omega)):P:=h
theorem ω35 {P:Prop} (h:P:=by rw [show μ2-1+1=μ2 from by first | omega | (have:=z2z (by assumption) (by assumption) (by assumption);omega)];exact e):P:=h
theorem zz7 (x:Nat) (H:zd) (K:KT) (h:zye x H fun (r1:Nat) (H':zd)=>K (.float .f64 r1) H'):zk Try.prog z3v Try.f188 [.float .f64 x] H K:=by
 rw [z1a2]
 obtain ⟨pr0,pr1,hk⟩:=h
 have e:(zdp x)=_:=rfl
 have e:=e.trans (zgr x)
 have g0:=Grow.refl H
 refine z19s  (fun (μ:Nat) (x0:Nat) (ve:Nat) (H_1:zd)=>H=H_1∧4503599627370496≤x0∧x0<9218868437227405312∧(x0:Int)≤(μ:Int)∧zdp x=z6m x (μ+1) x0 ve) (Int.toNat ((x:Int))) _ _ H ?_ ?_
 ·exact ⟨rfl,ω37,ω37,ω2,e⟩
 ·intro μ x0 ve  H_1 hI
  obtain ⟨rfl,v_1,v_2,hμ,e⟩:=hI
  rw [z19z]
  have e:=e.trans (zan x μ x0 ve)
  have l3:=g0.1
  refine Br.intro (fun c_4=>?_) (fun c_4=>?_)
  ·have e:=e.trans (zj c_4)
   refine z19v (μ-1) ω33 ⟨rfl,ω27,ω27,ω33,ω36⟩
  ·have e:=e.trans (zi c_4)
   rw [zz8]
   refine z19t  (fun (μ2:Nat) (x_0':Nat) (ve_3:Nat) (H_2:zd)=>H=H_2∧4503599627370496≤x_0'∧x_0'<9218868437227405312∧(4604930618986332160:Int)-x_0'≤(μ2:Int)∧zdp x=z6n x x0 ve (fun (x_0':Nat) (ve_3:Nat)=>(z5e x x0 ve x_0' ve_3 (fun (q:Nat) (k:Nat)=>fadd .f64 (fmul .f64 4611686018427387904 (fmul .f64 (fdiv .f64 (fsub .f64 x_0' 4607182418800017408) (fadd .f64 x_0' 4607182418800017408)) q)) (fmul .f64 ve_3 4604418534313441775)) (Int.toNat (cnt 4627730092099895296)+1) 0 4627730092099895296)) (μ2+1) x_0' ve_3) (Int.toNat ((4604930618986332160:Int)-x0)) _ _ H ?_ ?_
   ·exact ⟨rfl,ω29,ω29,ω2,e⟩
   ·intro μ2 x_0' ve_3  H_2 hI
    obtain ⟨rfl,v5,v6,hμ,e⟩:=hI
    rw [z1a0]
    have e:=e.trans (zao x x0 ve (fun (x_0':Nat) (ve_3:Nat)=>(z5e x x0 ve x_0' ve_3 (fun (q:Nat) (k:Nat)=>fadd .f64 (fmul .f64 4611686018427387904 (fmul .f64 (fdiv .f64 (fsub .f64 x_0' 4607182418800017408) (fadd .f64 x_0' 4607182418800017408)) q)) (fmul .f64 ve_3 4604418534313441775)) (Int.toNat (cnt 4627730092099895296)+1) 0 4627730092099895296)) μ2 x_0' ve_3)
    have l_7:=g0.1
    refine Br.intro (fun c_8=>?_) (fun c_8=>?_)
    ·have e:=e.trans (zj c_8)
     refine z19w (μ2-1) ω32 ⟨rfl,ω15,ω15,ω32,ω35⟩
    ·have e:=e.trans (zi c_8)
     rw [zz9]
     refine z19u _ _ (fun (μ3:Nat) (q:Nat) (k:Nat) (H_3:zd)=>H=H_3∧z5t k∧cnt k≤(μ3:Int)∧zdp x=z5e x x0 ve x_0' ve_3 (fun (q:Nat) (k:Nat)=>fadd .f64 (fmul .f64 4611686018427387904 (fmul .f64 (fdiv .f64 (fsub .f64 x_0' 4607182418800017408) (fadd .f64 x_0' 4607182418800017408)) q)) (fmul .f64 ve_3 4604418534313441775)) (μ3+1) q k) (Int.toNat (cnt 4627730092099895296)) _ _ H ?_ ?_
     ·exact ⟨rfl,(by first | omega | (simp;done) | (simp;omega) | (first | exact z5t.of (n:=25) (by decide) (by decide) | exact (zul (by assumption) (by assumption)).1)),ω2,e⟩
     ·intro μ3 q k  H_3 hI
      obtain ⟨rfl,v9,hμ,e⟩:=hI
      rw [z1a1]
      have e:=e.trans (zap x x0 ve x_0' ve_3 (fun (q:Nat) (k:Nat)=>fadd .f64 (fmul .f64 4611686018427387904 (fmul .f64 (fdiv .f64 (fsub .f64 x_0' 4607182418800017408) (fadd .f64 x_0' 4607182418800017408)) q)) (fmul .f64 ve_3 4604418534313441775)) μ3 q k)
      have l_10:=g0.1
      refine Br.intro (fun c_11=>?_) (fun c_11=>?_)
      ·have e:=e.trans (zj c_11)
       refine z19x (μ3-1) (by first | omega | (have:=zul (by assumption) (by assumption);omega)) ⟨rfl,(by first | omega | (first | exact z5t.of (n:=25) (by decide) (by decide) | exact (zul (by assumption) (by assumption)).1) | (simp only [List.length_append,List.length_cons,List.length_nil,List.length_set];done) | (simp only [List.length_append,List.length_cons,List.length_nil,List.length_set];omega)),(by first | omega | (have:=zul (by assumption) (by assumption);omega)),(by rw [show μ3-1+1=μ3 from by first | omega | (have:=zul (by assumption) (by assumption);omega)];exact e)⟩
      ·have e:=e.trans (zi c_11)
       rw [zza]
       rw [e] at hk
       exact hk
theorem z19y:FnOk Try.prog 188 zqp:=by
 refine FnOk.body mix_ok znd Try.func188 rfl ω5 ω5 ?_ ?_ ?_ ?_ ?_
 ·intro args H K K' h hk
  simp only [zqp] at *
  unfold zst at *
  split at hk
  ·obtain ⟨pr0,pr1,k⟩:=hk
   exact ⟨pr0,pr1,h _ _ k⟩
  ·exact hk.elim
 ·intro _ args H K hk
  simp only [zqp] at *
  unfold zst at *
  split at hk
  ·obtain ⟨pr0,pr1,k⟩:=hk
   exact ⟨_,k,fun K' k'=>⟨pr0,pr1,k'⟩⟩
  ·exact hk.elim
 ·intro args H K hk
  simp only [zqp] at *
  unfold zst at *
  split at hk
  ·obtain ⟨pr0,pr1,k⟩:=hk
   exact ⟨_,_,k⟩
  ·exact hk.elim
 ·intro hq;cases hq
 ·have mm:=@zz7
  have ml:=fun (args:List Value) (H:zd) (K:KT)=>zf (P:=Try.prog) (env:=z3v) (fn:=Try.f188) (args:=args) (H:=H) (K:=K) znd 
  revert mm ml
  generalize z1a Try.prog z3v Try.f188=Q
  generalize zk Try.prog z3v Try.f188=QL
  intro mm ml args H K hk
  simp only [zqp] at *
  unfold zst at *
  split at hk
  ·exact ml _ H K (mm _ H K hk)
  ·exact hk.elim

def zbo (x:Nat):Nat:=(bif feq .f32 x 0 then ((zl ((zd1 ((-1):Int)))).getD 0) else (bif flt .f32 x 0 then ((zl z5d).getD 0) else (bif !(feq .f32 x x) then ((zl z5d).getD 0) else (bif !(zdq x) then x else ((zl ((zdp (zh x)))).getD 0)))))
def zp9:=@zbo.eq_1
def zu0 (x:Nat) (H:zd) (K:Nat→zd→Prop):Prop:=K (zbo x) H
theorem z13u {x:Nat} {H:zd} {K:Nat→zd→Prop} (h:K (zbo x) H):zu0 x H K:=h
theorem zml {x:Nat} (h0:feq .f32 x 0=false) (h1:flt .f32 x 0=false) (h2:zdq x=true):4503599627370496≤zh x∧zh x<9218868437227405312:=
 zbs h0 h1 (by rw [←z7d x];exact h2)
def zq9:Env:=envOf [(186,zb0),(187,zb1),(133,zft),(188,zqp)]
def zt0:List Value→zd→(Value→zd→Prop)→Prop
 | [.float .f32 x],H,K=>zu0 x H fun (r1:Nat) (H':zd)=>K (.float .f32 r1) H'
 | _,_,_=>False
def zqv:FSpec:={F:=zt0,quiet:=true,tame:=false}
theorem z1b1 (x:Nat) (H:zd) (K:KT):zk Try.prog zq9 Try.f147 [.float .f32 x] H K=
 (Br (feq .f32 x 0) (zc6 (-1) H fun (r1:Nat) (H1:zd)=>∃x1:Nat,zl r1=some x1∧K (.float .f32 x1) H1) (Br (flt .f32 x 0) (z9j  H fun (r2:Nat) (H2:zd)=>∃x2:Nat,zl r2=some x2∧K (.float .f32 x2) H2) (Br (!(feq .f32 x x)) (z9j  H fun (r3:Nat) (H3:zd)=>∃x3:Nat,zl r3=some x3∧K (.float .f32 x3) H3) (zfy x H fun (r4:Bool) (H4:zd)=>Br (!r4) (K (.float .f32 x) H4) (zye (zh x) H4 fun (r5:Nat) (H5:zd)=>∃x4:Nat,zl r5=some x4∧K (.float .f32 x4) H5))))):=by kernel_rfl
theorem znk:∀g,FnOk Try.prog g (zq9 g):=FnOk.envOf (by
 intro x hx
 simp only [List.mem_cons,List.not_mem_nil,or_false] at hx
 rcases hx with rfl | rfl | rfl | rfl
 ·exact zm2
 ·exact zm3
 ·exact zon
 ·exact z19y)
theorem ω31 {P:Prop} (h:P:=by first | assumption | omega | (simp;omega) | (first | exact (zml (by assumption) (by assumption) (by assumption)).1 | exact (zml (by assumption) (by assumption) (by assumption)).2)):P:=h
theorem zzq (x:Nat) (H:zd) (K:KT) (h:zu0 x H fun (r1:Nat) (H':zd)=>K (.float .f32 r1) H'):zk Try.prog zq9 Try.f147 [.float .f32 x] H K:=by
 rw [z1b1]
 have hk:=h
 unfold zu0 at hk
 have e:(zbo x)=_:=rfl
 have e:=e.trans (zp9 x)
 have g0:=Grow.refl H
 refine Br.intro (fun c_1=>?_) (fun c_1=>?_)
 ·have e:=e.trans (zj c_1)
  refine zfv ?_
  refine ⟨_,z2c (d:=0) ω39,?_⟩
  rw [e] at hk
  exact hk
 ·have e:=e.trans (zi c_1)
  refine Br.intro (fun c_2=>?_) (fun c_2=>?_)
  ·have e:=e.trans (zj c_2)
   refine z9k ?_
   refine ⟨_,z2c (d:=0) ω39,?_⟩
   rw [e] at hk
   exact hk
  ·have e:=e.trans (zi c_2)
   refine Br.intro (fun c_3=>?_) (fun c_3=>?_)
   ·have e:=e.trans (zj c_3)
    have c_3n:=zv c_3
    refine z9k ?_
    refine ⟨_,z2c (d:=0) ω39,?_⟩
    rw [e] at hk
    exact hk
   ·have e:=e.trans (zi c_3)
    have c_3n:=zr c_3
    refine zll ?_
    refine Br.intro (fun c_4=>?_) (fun c_4=>?_)
    ·have e:=e.trans (zj c_4)
     have c_4n:=zv c_4
     rw [e] at hk
     exact hk
    ·have e:=e.trans (zi c_4)
     have c_4n:=zr c_4
     refine z13q ⟨ω31,ω31,?_⟩
     refine ⟨_,z2c (d:=0) (by exact z15v (zml (by assumption) (by assumption) (by assumption))),?_⟩
     rw [e] at hk
     exact hk
theorem z1b0:FnOk Try.prog 147 zqv:=by
 refine FnOk.body mix_ok znk Try.func147 rfl ω5 ω5 ?_ ?_ ?_ ?_ ?_
 ·intro args H K K' h hk
  simp only [zqv] at *
  unfold zt0 at *
  split at hk
  ·have k:=hk
   exact h _ _ k
  ·exact hk.elim
 ·intro _ args H K hk
  simp only [zqv] at *
  unfold zt0 at *
  split at hk
  ·have k:=hk
   exact ⟨_,k,fun K' k'=>k'⟩
  ·exact hk.elim
 ·intro args H K hk
  simp only [zqv] at *
  unfold zt0 at *
  split at hk
  ·have k:=hk
   exact ⟨_,_,k⟩
  ·exact hk.elim
 ·intro hq;cases hq
 ·have mm:=@zzq
  have ml:=fun (args:List Value) (H:zd) (K:KT)=>zf (P:=Try.prog) (env:=zq9) (fn:=Try.f147) (args:=args) (H:=H) (K:=K) znk 
  revert mm ml
  generalize z1a Try.prog zq9 Try.f147=Q
  generalize zk Try.prog zq9 Try.f147=QL
  intro mm ml args H K hk
  simp only [zqv] at *
  unfold zt0 at *
  split at hk
  ·exact ml _ H K (mm _ H K hk)
  ·exact hk.elim

def z6l (l_a l_b:LN):Nat×Bool:=(bif !((z3s l_a l_b).2) then (0,false) else (bif !(flt .f32 0 ((z3s l_a l_b).1)) then (0,false) else (bif !(flt .f32 0 (fdiv .f32 (zar l_a) (FloatKind.nearest .f32 (l_a.length:Int)))) then (0,false) else ((z8s (fmul .f32 1082849639 ((zbo (fdiv .f32 (fdiv .f32 (zar l_a) (FloatKind.nearest .f32 (l_a.length:Int))) ((z3s l_a l_b).1)))))).1,(z8s (fmul .f32 1082849639 ((zbo (fdiv .f32 (fdiv .f32 (zar l_a) (FloatKind.nearest .f32 (l_a.length:Int))) ((z3s l_a l_b).1)))))).2))))
def zp5:=@z6l.eq_1
def ztl (a_a:OA) (a_n a_e:Nat) (b_a:OA) (b_n b_e:Nat) (H:zd) (K:Nat→Bool→zd→Prop):Prop:=∃(l_a l_b:LN),IsL fF H a_a a_n l_a∧IsL fF H b_a b_n l_b∧l_a.length<1073741824∧l_b.length<1073741824∧((∀H':zd,Grow H H'→K ((z6l l_a l_b).1) ((z6l l_a l_b).2) H'))
theorem ztm {a_a:OA} {a_n a_e:Nat} {b_a:OA} {b_n b_e:Nat} {H:zd} {K:Nat→Bool→zd→Prop} (h:∃(l_a l_b:LN),IsL fF H a_a a_n l_a∧IsL fF H b_a b_n l_b∧l_a.length<1073741824∧l_b.length<1073741824∧((∀H':zd,Grow H H'→K ((z6l l_a l_b).1) ((z6l l_a l_b).2) H'))):ztl a_a a_n a_e b_a b_n b_e H K:=h

def zpz:Env:=envOf [(88,zla),(108,zlg),(147,zqv),(117,zc3)]
def zsl:List Value→zd→(Value→zd→Prop)→Prop
 | [.slice a_a a_n a_e,.slice b_a b_n b_e],H,K=>ztl a_a a_n a_e b_a b_n b_e H fun (r1:Nat) (r2:Bool) (H':zd)=>K (.tuple #[.float .f32 r1,.bool r2]) H'
 | _,_,_=>False
def zqk:FSpec:={F:=zsl,quiet:=false,tame:=true}
theorem f1z_vc (a_a:OA) (a_n a_e:Nat) (b_a:OA) (b_n b_e:Nat) (H:zd) (K:KT):zk Try.prog zpz Try.f89 [.slice a_a a_n a_e,.slice b_a b_n b_e] H K=
 (zj0 a_a a_n a_e b_a b_n b_e H fun (r1:Nat) (r2:Bool) (H1:zd)=>Br (!r2) (K (.tuple #[.float .f32 0,.bool false]) H1) (zu7 a_a a_n a_e H1 fun (r3:Nat) (H2:zd)=>Br (!(flt .f32 0 r1)) (K (.tuple #[.float .f32 0,.bool false]) H2) (Br (!(flt .f32 0 (fdiv .f32 r3 (FloatKind.nearest .f32 (a_n:Int))))) (K (.tuple #[.float .f32 0,.bool false]) H2) (zu0 (fdiv .f32 (fdiv .f32 r3 (FloatKind.nearest .f32 (a_n:Int))) r1) H2 fun (r4:Nat) (H3:zd)=>zeq (fmul .f32 1082849639 r4) H3 fun (r5:Nat) (r6:Bool) (H4:zd)=>K (.tuple #[.float .f32 r5,.bool r6]) H4)))):=by kernel_rfl
theorem zn3:∀g,FnOk Try.prog g (zpz g):=FnOk.envOf (by
 intro x hx
 simp only [List.mem_cons,List.not_mem_nil,or_false] at hx
 rcases hx with rfl | rfl | rfl | rfl
 ·exact f2z_ok
 ·exact z13a
 ·exact z1b0
 ·exact f18z_ok)
theorem f1z_main (a_a:OA) (a_n a_e:Nat) (b_a:OA) (b_n b_e:Nat) (H:zd) (K:KT) (h:ztl a_a a_n a_e b_a b_n b_e H fun (r1:Nat) (r2:Bool) (H':zd)=>K (.tuple #[.float .f32 r1,.bool r2]) H'):zk Try.prog zpz Try.f89 [.slice a_a a_n a_e,.slice b_a b_n b_e] H K:=by
 rw [f1z_vc]
 obtain ⟨l_a,l_b,i_a,i_b,bd_8,bd_9,hk⟩:=h
 obtain rfl:=i_a.eqn
 obtain rfl:=i_b.eqn
 have e:(z6l l_a l_b)=_:=rfl
 have e:=e.trans (zp5 l_a l_b)
 have g0:=Grow.refl H
 refine zc7 ⟨_,_,(i_a.grow g0),(i_b.grow g0),ω0,ω0,fun  H_1 g_1  =>?_⟩
 have l_2:=g_1.1
 have g_3:=g0.trans g_1
 have l_4:=g_3.1
 refine Br.intro (fun c_5=>?_) (fun c_5=>?_)
 ·have e:=e.trans (zj c_5)
  have c_5n:=zv c_5
  rw [e] at hk
  exact hk  H_1 g_3 
 ·have e:=e.trans (zi c_5)
  have c_5n:=zr c_5
  refine zu8 ⟨_,(i_a.grow g_3),ω0,?_⟩
  refine Br.intro (fun c_6=>?_) (fun c_6=>?_)
  ·have e:=e.trans (zj c_6)
   have c_6n:=zv c_6
   rw [e] at hk
   exact hk  H_1 g_3 
  ·have e:=e.trans (zi c_6)
   have c_6n:=zr c_6
   refine Br.intro (fun c_7=>?_) (fun c_7=>?_)
   ·have e:=e.trans (zj c_7)
    have c_7n:=zv c_7
    rw [e] at hk
    exact hk  H_1 g_3 
   ·have e:=e.trans (zi c_7)
    have c_7n:=zr c_7
    refine z13u ?_
    refine zo9 ?_
    rw [e] at hk
    exact hk  H_1 g_3 
theorem f1z_ok:FnOk Try.prog 89 zqk:=by
 refine FnOk.body mix_ok zn3 Try.func89 rfl ω5 ω5 ?_ ?_ ?_ ?_ ?_
 ·intro args H K K' h hk
  simp only [zqk] at *
  unfold zsl at *
  split at hk
  ·obtain ⟨l_a,l_b,i_a,i_b,bd_8,bd_9,k⟩:=hk
   exact ⟨l_a,l_b,i_a,i_b,bd_8,bd_9,(fun  H' gg  =>h _ _ (k  H' gg))⟩
  ·exact hk.elim
 ·intro hq;cases hq
 ·intro args H K hk
  simp only [zqk] at *
  unfold zsl at *
  split at hk
  ·obtain ⟨l_a,l_b,i_a,i_b,bd_8,bd_9,k⟩:=hk
   exact ⟨_,_,k H (Grow.refl H)⟩
  ·exact hk.elim
 ·intro _ args H K hk
  simp only [zqk] at *
  unfold zsl at *
  split at hk
  ·obtain ⟨l_a,l_b,i_a,i_b,bd_8,bd_9,k⟩:=hk
   exact ⟨l_a,l_b,i_a,i_b,bd_8,bd_9,(fun  H' gg  =>⟨gg,k  H' gg⟩)⟩
  ·exact hk.elim
 ·have mm:=@f1z_main
  have ml:=fun (args:List Value) (H:zd) (K:KT)=>zf (P:=Try.prog) (env:=zpz) (fn:=Try.f89) (args:=args) (H:=H) (K:=K) zn3 
  revert mm ml
  generalize z1a Try.prog zpz Try.f89=Q
  generalize zk Try.prog zpz Try.f89=QL
  intro mm ml args H K hk
  simp only [zqk] at *
  unfold zsl at *
  split at hk
  ·exact ml _ H K (mm _ _ _ _ _ _ H K hk)
  ·exact hk.elim
def zmq (x:Nat):Bool:=feq .f32 (fsub .f32 x x) 0
def zfx (x:Nat) (H:zd) (K:Bool→zd→Prop):Prop:=K (zmq x) H

theorem z13w {x:Nat} {H:zd} {K:Bool→zd→Prop} (h:K (zmq x) H):zfx x H K:=h
def zqa:Env:=envOf []
def zt3:List Value→zd→(Value→zd→Prop)→Prop
 | [.float .f32 x],H,K=>zfx x H fun (r1:Bool) (H':zd)=>K (.bool r1) H'
 | _,_,_=>False
def zin:FSpec:={F:=zt3,quiet:=true,tame:=false}
theorem z1bf (x:Nat) (H:zd) (K:KT):zk Try.prog zqa Try.f155 [.float .f32 x] H K=
 (K (.bool (feq .f32 (fsub .f32 x x) 0)) H):=by kernel_rfl
theorem znn:∀g,FnOk Try.prog g (zqa g):=FnOk.envOf (by
 intro x hx;cases hx)
theorem zzw (x:Nat) (H:zd) (K:KT) (h:zfx x H fun (r1:Bool) (H':zd)=>K (.bool r1) H'):zk Try.prog zqa Try.f155 [.float .f32 x] H K:=by
 rw [z1bf]
 unfold zfx zmq at h
 repeat' (first | exact h | (exfalso;simp_all;done) | (refine ⟨by decide,?_⟩) | (refine Br.intro (fun hb=>?_) (fun hb=>?_)<;>(try simp only [hb,cond_true,cond_false,Bool.not_true,Bool.not_false] at h)))
theorem zvs:FnOk Try.prog 155 zin:=by
 refine FnOk.body mix_ok znn Try.func155 rfl ω5 ω5 ?_ ?_ ?_ ?_ ?_
 ·intro args H K K' h hk
  simp only [zin] at *
  unfold zt3 at *
  split at hk
  ·have k:=hk
   exact h _ _ k
  ·exact hk.elim
 ·intro _ args H K hk
  simp only [zin] at *
  unfold zt3 at *
  split at hk
  ·have k:=hk
   exact ⟨_,k,fun K' k'=>k'⟩
  ·exact hk.elim
 ·intro args H K hk
  simp only [zin] at *
  unfold zt3 at *
  split at hk
  ·have k:=hk
   exact ⟨_,_,k⟩
  ·exact hk.elim
 ·intro hq;cases hq
 ·have mm:=@zzw
  have ml:=fun (args:List Value) (H:zd) (K:KT)=>zf (P:=Try.prog) (env:=zqa) (fn:=Try.f155) (args:=args) (H:=H) (K:=K) znn 
  revert mm ml
  generalize z1a Try.prog zqa Try.f155=Q
  generalize zk Try.prog zqa Try.f155=QL
  intro mm ml args H K hk
  simp only [zin] at *
  unfold zt3 at *
  split at hk
  ·exact ml _ H K (mm _ H K hk)
  ·exact hk.elim

def za6 (aa:LN):Nat→Bool→Int→Bool
 | 0,_,_=>false
 | μ+1,t2,i=>(bif decide ((i:Int)<(aa.length:Int)) then (bif !((zmq (((aa).getD (i:Int).toNat 0)))) then false else (za6 aa μ t2 (i+1))) else true)
def zfd:=fun aa μ t2 i=>@za6.eq_2 aa t2 i μ
def zkr (aa:LN):Bool:=(za6 aa (Int.toNat ((aa.length:Int)-(0:Int))+1) false (0:Int))
def zpc:=@zkr.eq_1
def zyk (ca:OA) (ba ga:Nat) (H:zd) (K:Bool→zd→Prop):Prop:=∃aa:LN,IsL fF H ca ba aa∧aa.length<1073741824∧K (zkr aa) H
theorem z13y {ca:OA} {ba ga:Nat} {H:zd} {K:Bool→zd→Prop} (h:∃aa:LN,IsL fF H ca ba aa∧aa.length<1073741824∧K (zkr aa) H):zyk ca ba ga H K:=h

def zae:Env:=envOf [(155,zin)]
def zt5:List Value→zd→(Value→zd→Prop)→Prop
 | [.slice ca ba ga],H,K=>zyk ca ba ga H fun (r1:Bool) (H':zd)=>K (.bool r1) H'
 | _,_,_=>False
def zqy:FSpec:={F:=zt5,quiet:=true,tame:=false}
theorem z1bm (ca:OA) (ba ga:Nat) (H:zd) (K:KT):zk Try.prog zae Try.f104 [.slice ca ba ga] H K=
 (z1b (exL Try.prog zae (cl (cl (cr (cl (cr (zg Try.f104)))))) 9 4 [(0,0)]) (.slice ca ba ga::ud2 (.int .i64 0::ud12 [])) H (zn 0 (seqQ (exL Try.prog zae (cr (cr (zg Try.f104))) 4 4 []) (retK Try.prog Try.f104 K)))):=by kernel_rfl
abbrev zjt (ca:OA) (ga ba:Nat) (i:Int)  :List Value:=(.slice ca ba ga::ud2 (.int .i64 i::ud12 []))
theorem z1bl (ca:OA) (ga ba:Nat) (i:Int)  (H:zd) (R:Post):exL Try.prog zae (cl (cl (cr (cl (cr (zg Try.f104)))))) 9 4 [(0,0)] (zjt ca ga ba i) H R=
 (Br (decide ((i:Int)<(ba:Int))) ((0:Int)≤i∧i<(ba:Int)∧∃b1 f1,(ca:OA)=some ⟨b1,f1,none⟩∧∃x1:Nat,  rdC H b1 (f1+(i:Int).toNat*1)=some (.float .f32 x1)∧zfx x1 H fun (r1:Bool) (H1:zd)=>Br (!r1) (R .ret (ud2 (.bool false::ud13 [])) H1) (R .normal (.slice ca ba ga::ud2 (.int .i64 (IntKind.wrap .i64 (i+1))::ud12 [])) H1)) (R (.exit 0) (ud16 []) H)):=by kernel_rfl
def zvt (ca:OA) (ga ba:Nat) (Inv:Nat→Int→zd→Prop):Nat→List Value→zd→Prop:=fun μ tm H=>∃i:Int,tm=(zjt ca ga ba i)∧Inv μ i H
theorem z1bi (ca:OA) (ga ba:Nat) {Q:Post} (Inv:Nat→Int→zd→Prop) (ν:Nat) (i:Int)  (H:zd) (h0:Inv ν i H)
  (hs:∀(μ:Nat) (i:Int)  (H:zd),Inv μ i H→exL Try.prog zae (cl (cl (cr (cl (cr (zg Try.f104)))))) 9 4 [(0,0)] (zjt ca ga ba i) H (zp (zvt ca ga ba Inv) μ Q)):z1b (exL Try.prog zae (cl (cl (cr (cl (cr (zg Try.f104)))))) 9 4 [(0,0)]) (zjt ca ga ba i) H Q:=
 ⟨zvt ca ga ba Inv,ν,⟨i,rfl,h0⟩,fun μ tm H h=>by obtain ⟨i,rfl,hI⟩:=h;exact hs μ i  H hI⟩
theorem z1bj {ca:OA} {ga ba:Nat} {Q:Post} {Inv:Nat→Int→zd→Prop} {μ:Nat} (μ':Nat) {i:Int}  {H:zd} (hm:μ'<μ) (hI:Inv μ' i H):zp (zvt ca ga ba Inv) μ Q .normal (zjt ca ga ba i) H:=⟨μ',hm,i,rfl,hI⟩
theorem zzz  (H:zd) (K:KT)  {I:Nat→List Value→zd→Prop} {μ:Nat}:zp I μ (zn 0 (seqQ (exL Try.prog zae (cr (cr (zg Try.f104))) 4 4 []) (retK Try.prog Try.f104 K))) (.exit 0) (ud16 []) H=
 (K (.bool true) H):=by kernel_rfl
theorem zrn (t2:Bool) (H:zd) (K:KT)  {I:Nat→List Value→zd→Prop} {μ:Nat}:zp I μ (zn 0 (seqQ (exL Try.prog zae (cr (cr (zg Try.f104))) 4 4 []) (retK Try.prog Try.f104 K))) .ret (ud2 (.bool t2::ud13 [])) H=
 (K (.bool t2) H):=by kernel_rfl
theorem znp:∀g,FnOk Try.prog g (zae g):=FnOk.envOf (by
 intro x hx
 simp only [List.mem_cons,List.not_mem_nil,or_false] at hx
 subst hx;exact zvs)
theorem zzy (ca:OA) (ba ga:Nat) (H:zd) (K:KT) (h:zyk ca ba ga H fun (r1:Bool) (H':zd)=>K (.bool r1) H'):zk Try.prog zae Try.f104 [.slice ca ba ga] H K:=by
 rw [z1bm]
 obtain ⟨aa,i_list,bd_9,hk⟩:=h
 obtain rfl:=i_list.eqn
 have e:(zkr aa)=_:=rfl
 have e:=e.trans (zpc aa)
 have g0:=Grow.refl H
 refine z1bi _ _ _ (fun (μ:Nat) (i:Int) (H_1:zd)=>∃t2:Bool,H=H_1∧(0:Int)≤i∧i≤(aa.length:Int)∧(aa.length:Int)-i≤(μ:Int)∧zkr aa=za6 aa (μ+1) t2 i) (Int.toNat ((aa.length:Int)-(0:Int))) _ H ?_ ?_
 ·exact ⟨_,rfl,ω3,ω3,ω2,e⟩
 ·intro μ i  H_1 hI
  obtain ⟨t2,rfl,v_1,v_2,hμ,e⟩:=hI
  rw [z1bl]
  have e:=e.trans (zfd aa μ t2 i)
  have l3:=g0.1
  refine Br.intro (fun c_4=>?_) (fun c_4=>?_)
  ·have e:=e.trans (zj c_4)
   have c_4':=odt c_4
   obtain ⟨b_5,f6,q_7⟩:=((i_list.grow g0)).pos ω0
   refine ⟨by omega,by omega,b_5,f6,q_7,?_⟩
   refine ⟨((aa).getD (i:Int).toNat 0),(i_list).rd g0 q_7 ω2 _,?_⟩
   refine z13w ?_
   refine Br.intro (fun c_8=>?_) (fun c_8=>?_)
   ·have e:=e.trans (zj c_8)
    have c_8n:=zv c_8
    rw [zrn]
    rw [e] at hk
    exact hk
   ·have e:=e.trans (zi c_8)
    have c_8n:=zr c_8
    rw [show IntKind.wrap .i64 (i+1)=(i+1) from zy ω2 ω2]
    refine z1bj (μ-1) ω18 ⟨_,rfl,ω1,ω1,ω18,ω19⟩
  ·have e:=e.trans (zi c_4)
   have c_4':=odf c_4
   rw [zzz]
   rw [e] at hk
   exact hk
theorem z1bk:FnOk Try.prog 104 zqy:=by
 refine FnOk.body mix_ok znp Try.func104 rfl ω5 ω5 ?_ ?_ ?_ ?_ ?_
 ·intro args H K K' h hk
  simp only [zqy] at *
  unfold zt5 at *
  split at hk
  ·obtain ⟨aa,i_list,bd_9,k⟩:=hk
   exact ⟨aa,i_list,bd_9,h _ _ k⟩
  ·exact hk.elim
 ·intro _ args H K hk
  simp only [zqy] at *
  unfold zt5 at *
  split at hk
  ·obtain ⟨aa,i_list,bd_9,k⟩:=hk
   exact ⟨_,k,fun K' k'=>⟨aa,i_list,bd_9,k'⟩⟩
  ·exact hk.elim
 ·intro args H K hk
  simp only [zqy] at *
  unfold zt5 at *
  split at hk
  ·obtain ⟨aa,i_list,bd_9,k⟩:=hk
   exact ⟨_,_,k⟩
  ·exact hk.elim
 ·intro hq;cases hq
 ·have mm:=@zzy
  have ml:=fun (args:List Value) (H:zd) (K:KT)=>zf (P:=Try.prog) (env:=zae) (fn:=Try.f104) (args:=args) (H:=H) (K:=K) znp 
  revert mm ml
  generalize z1a Try.prog zae Try.f104=Q
  generalize zk Try.prog zae Try.f104=QL
  intro mm ml args H K hk
  simp only [zqy] at *
  unfold zt5 at *
  split at hk
  ·exact ml _ H K (mm _ _ _ H K hk)
  ·exact hk.elim

def z7h (aa:LN):Bool:=(bif decide ((1:Int)≤(aa.length:Int)) then (bif decide (((aa.length:Int):Int)≤128) then (zkr aa) else false) else false)
def z9y:=@z7h.eq_1
def zis (ca:OA) (ba ga:Nat) (H:zd) (K:Bool→zd→Prop):Prop:=∃aa:LN,IsL fF H ca ba aa∧aa.length<1073741824∧K (z7h aa) H
theorem zo4 {ca:OA} {ba ga:Nat} {H:zd} {K:Bool→zd→Prop} (h:∃aa:LN,IsL fF H ca ba aa∧aa.length<1073741824∧K (z7h aa) H):zis ca ba ga H K:=h
theorem f13z_t {l:LN} (h:z7h l=true):1≤(l.length:Int)∧(l.length:Int)≤128:=by
 rw [z9y] at h
 by_cases h1:(1:Int)≤(l.length:Int)
 ·rw [dct h1,cond_true] at h
  by_cases h2:(l.length:Int)≤128
  ·exact ⟨h1,h2⟩
  ·rw [dcf h2] at h;cases h
 ·rw [dcf h1] at h;cases h
def zdu:Env:=envOf [(104,zqy)]
def zhz:List Value→zd→(Value→zd→Prop)→Prop
 | [.slice ca ba ga],H,K=>zis ca ba ga H fun (r1:Bool) (H':zd)=>K (.bool r1) H'
 | _,_,_=>False
def zeb:FSpec:={F:=zhz,quiet:=true,tame:=false}
theorem f13z_vc (ca:OA) (ba ga:Nat) (H:zd) (K:KT):zk Try.prog zdu Try.f100 [.slice ca ba ga] H K=
 (Br (decide ((1:Int)≤(ba:Int))) (Br (decide (((ba:Int):Int)≤128)) (zyk ca ba ga H fun (r1:Bool) (H1:zd)=>K (.bool r1) H1) (K (.bool false) H)) (K (.bool false) H)):=by kernel_rfl
theorem zhd:∀g,FnOk Try.prog g (zdu g):=FnOk.envOf (by
 intro x hx
 simp only [List.mem_cons,List.not_mem_nil,or_false] at hx
 subst hx;exact z1bk)
theorem f13z_main (ca:OA) (ba ga:Nat) (H:zd) (K:KT) (h:zis ca ba ga H fun (r1:Bool) (H':zd)=>K (.bool r1) H'):zk Try.prog zdu Try.f100 [.slice ca ba ga] H K:=by
 rw [f13z_vc]
 obtain ⟨aa,i_list,bd_3,hk⟩:=h
 obtain rfl:=i_list.eqn
 have e:(z7h aa)=_:=rfl
 have e:=e.trans (z9y aa)
 have g0:=Grow.refl H
 refine Br.intro (fun c_1=>?_) (fun c_1=>?_)
 ·have e:=e.trans (zj c_1)
  have c_1':=odt c_1
  refine Br.intro (fun c_2=>?_) (fun c_2=>?_)
  ·have e:=e.trans (zj c_2)
   have c_2':=odt c_2
   refine z13y ⟨_,(i_list.grow g0),ω0,?_⟩
   rw [e] at hk
   exact hk
  ·have e:=e.trans (zi c_2)
   have c_2':=odf c_2
   rw [e] at hk
   exact hk
 ·have e:=e.trans (zi c_1)
  have c_1':=odf c_1
  rw [e] at hk
  exact hk
theorem f13z_ok:FnOk Try.prog 100 zeb:=by
 refine FnOk.body mix_ok zhd Try.func100 rfl ω5 ω5 ?_ ?_ ?_ ?_ ?_
 ·intro args H K K' h hk
  simp only [zeb] at *
  unfold zhz at *
  split at hk
  ·obtain ⟨aa,i_list,bd_3,k⟩:=hk
   exact ⟨aa,i_list,bd_3,h _ _ k⟩
  ·exact hk.elim
 ·intro _ args H K hk
  simp only [zeb] at *
  unfold zhz at *
  split at hk
  ·obtain ⟨aa,i_list,bd_3,k⟩:=hk
   exact ⟨_,k,fun K' k'=>⟨aa,i_list,bd_3,k'⟩⟩
  ·exact hk.elim
 ·intro args H K hk
  simp only [zeb] at *
  unfold zhz at *
  split at hk
  ·obtain ⟨aa,i_list,bd_3,k⟩:=hk
   exact ⟨_,_,k⟩
  ·exact hk.elim
 ·intro hq;cases hq
 ·have mm:=@f13z_main
  have ml:=fun (args:List Value) (H:zd) (K:KT)=>zf (P:=Try.prog) (env:=zdu) (fn:=Try.f100) (args:=args) (H:=H) (K:=K) zhd 
  revert mm ml
  generalize z1a Try.prog zdu Try.f100=Q
  generalize zk Try.prog zdu Try.f100=QL
  intro mm ml args H K hk
  simp only [zeb] at *
  unfold zhz at *
  split at hk
  ·exact ml _ H K (mm _ _ _ H K hk)
  ·exact hk.elim

def z2a (l_a l_b:LN):Nat→Nat→Int→Nat
 | 0,_,_=>0
 | μ+1,sum,t10=>(bif decide ((t10:Int)<(l_a.length:Int)) then (z2a l_a l_b μ (fadd .f32 sum (fmul .f32 (fsub .f32 (((l_a).getD (t10:Int).toNat 0)) (((l_b).getD (t10:Int).toNat 0))) (fsub .f32 (((l_a).getD (t10:Int).toNat 0)) (((l_b).getD (t10:Int).toNat 0))))) (t10+1)) else fdiv .f32 sum (FloatKind.nearest .f32 (l_a.length:Int)))
def z6j:=fun l_a l_b μ sum t10=>@z2a.eq_2 l_a l_b sum t10 μ
def z8r (l_a l_b:LN):Nat:=(z2a l_a l_b (Int.toNat ((l_a.length:Int)-(0:Int))+1) 0 (0:Int))
def z9z:=@z8r.eq_1
def zo5 (a_a:OA) (a_n a_e:Nat) (b_a:OA) (b_n b_e:Nat) (H:zd) (K:Nat→zd→Prop):Prop:=∃(l_a l_b:LN),IsL fF H a_a a_n l_a∧IsL fF H b_a b_n l_b∧l_a.length<1073741824∧l_b.length<1073741824∧l_a.length=l_b.length∧K (z8r l_a l_b) H
theorem zy2 {a_a:OA} {a_n a_e:Nat} {b_a:OA} {b_n b_e:Nat} {H:zd} {K:Nat→zd→Prop} (h:∃(l_a l_b:LN),IsL fF H a_a a_n l_a∧IsL fF H b_a b_n l_b∧l_a.length<1073741824∧l_b.length<1073741824∧l_a.length=l_b.length∧K (z8r l_a l_b) H):zo5 a_a a_n a_e b_a b_n b_e H K:=h

def z6u:Env:=envOf []
def zi0:List Value→zd→(Value→zd→Prop)→Prop
 | [.slice a_a a_n a_e,.slice b_a b_n b_e],H,K=>zo5 a_a a_n a_e b_a b_n b_e H fun (r1:Nat) (H':zd)=>K (.float .f32 r1) H'
 | _,_,_=>False
def zec:FSpec:={F:=zi0,quiet:=true,tame:=false}
theorem f14z_vc (a_a:OA) (a_n a_e:Nat) (b_a:OA) (b_n b_e:Nat) (H:zd) (K:KT):zk Try.prog z6u Try.f197 [.slice a_a a_n a_e,.slice b_a b_n b_e] H K=
 (z1b (exL Try.prog z6u (cl (cl (cr (cl (cr (cr (zg Try.f197))))))) 1571 16 [(0,33)]) (.slice a_a a_n a_e::.slice b_a b_n b_e::ud3 (.float .f32 0::ud3 (.int .i64 (a_n:Int)::.int .i64 0::ud22 []))) H (zn 0 (seqQ (exL Try.prog z6u (cr (cr (cr (zg Try.f197)))) 16 16 []) (retK Try.prog Try.f197 K)))):=by kernel_rfl
abbrev f14z_P1 (a_a:OA) (a_e a_n:Nat) (b_a:OA) (b_e b_n sum:Nat) (t10:Int)  :List Value:=(.slice a_a a_n a_e::.slice b_a b_n b_e::ud3 (.float .f32 sum::ud3 (.int .i64 (a_n:Int)::.int .i64 t10::ud22 [])))
theorem f14z_r1 (a_a:OA) (a_e a_n:Nat) (b_a:OA) (b_e b_n sum:Nat) (t10:Int)  (H:zd) (R:Post):exL Try.prog z6u (cl (cl (cr (cl (cr (cr (zg Try.f197))))))) 1571 16 [(0,33)] (f14z_P1 a_a a_e a_n b_a b_e b_n sum t10) H R=
 (Br (decide ((t10:Int)<(a_n:Int))) ((0:Int)≤t10∧t10<(a_n:Int)∧∃b1 f1,(a_a:OA)=some ⟨b1,f1,none⟩∧∃x1:Nat,  rdC H b1 (f1+(t10:Int).toNat*1)=some (.float .f32 x1)∧(0:Int)≤t10∧t10<(b_n:Int)∧∃b2 f2,(b_a:OA)=some ⟨b2,f2,none⟩∧∃x2:Nat,  rdC H b2 (f2+(t10:Int).toNat*1)=some (.float .f32 x2)∧R .normal (.slice a_a a_n a_e::.slice b_a b_n b_e::ud3 (.float .f32 (fadd .f32 sum (fmul .f32 (fsub .f32 x1 x2) (fsub .f32 x1 x2)))::ud3 (.int .i64 (a_n:Int)::.int .i64 (IntKind.wrap .i64 (t10+1))::ud22 []))) H) (R (.exit 0) (.slice a_a a_n a_e::ud4 (.float .f32 sum::ud27 [])) H)):=by kernel_rfl
def f14z_I1 (a_a:OA) (a_e a_n:Nat) (b_a:OA) (b_e b_n:Nat) (Inv:Nat→Nat→Int→zd→Prop):Nat→List Value→zd→Prop:=fun μ tm H=>∃sum:Nat,∃t10:Int,tm=(f14z_P1 a_a a_e a_n b_a b_e b_n sum t10)∧Inv μ sum t10 H
theorem f14z_L1 (a_a:OA) (a_e a_n:Nat) (b_a:OA) (b_e b_n:Nat) {Q:Post} (Inv:Nat→Nat→Int→zd→Prop) (ν sum:Nat) (t10:Int)  (H:zd) (h0:Inv ν sum t10 H)
  (hs:∀(μ:Nat) (sum:Nat) (t10:Int)  (H:zd),Inv μ sum t10 H→exL Try.prog z6u (cl (cl (cr (cl (cr (cr (zg Try.f197))))))) 1571 16 [(0,33)] (f14z_P1 a_a a_e a_n b_a b_e b_n sum t10) H (zp (f14z_I1 a_a a_e a_n b_a b_e b_n Inv) μ Q)):z1b (exL Try.prog z6u (cl (cl (cr (cl (cr (cr (zg Try.f197))))))) 1571 16 [(0,33)]) (f14z_P1 a_a a_e a_n b_a b_e b_n sum t10) H Q:=
 ⟨f14z_I1 a_a a_e a_n b_a b_e b_n Inv,ν,⟨sum,t10,rfl,h0⟩,fun μ tm H h=>by obtain ⟨sum,t10,rfl,hI⟩:=h;exact hs μ sum t10  H hI⟩
theorem f14z_n1 {a_a:OA} {a_e a_n:Nat} {b_a:OA} {b_e b_n:Nat} {Q:Post} {Inv:Nat→Nat→Int→zd→Prop} {μ:Nat} (μ':Nat) {sum:Nat} {t10:Int}  {H:zd} (hm:μ'<μ) (hI:Inv μ' sum t10 H):zp (f14z_I1 a_a a_e a_n b_a b_e b_n Inv) μ Q .normal (f14z_P1 a_a a_e a_n b_a b_e b_n sum t10) H:=⟨μ',hm,sum,t10,rfl,hI⟩
theorem f14z_x1_0 (a_a:OA) (a_e a_n sum:Nat) (H:zd) (K:KT)  {I:Nat→List Value→zd→Prop} {μ:Nat}:zp I μ (zn 0 (seqQ (exL Try.prog z6u (cr (cr (cr (zg Try.f197)))) 16 16 []) (retK Try.prog Try.f197 K))) (.exit 0) (.slice a_a a_n a_e::ud4 (.float .f32 sum::ud27 [])) H=
 (K (.float .f32 (fdiv .f32 sum (FloatKind.nearest .f32 (a_n:Int)))) H):=by kernel_rfl
theorem zhe:∀g,FnOk Try.prog g (z6u g):=FnOk.envOf (by
 intro x hx;cases hx)
theorem f14z_main (a_a:OA) (a_n a_e:Nat) (b_a:OA) (b_n b_e:Nat) (H:zd) (K:KT) (h:zo5 a_a a_n a_e b_a b_n b_e H fun (r1:Nat) (H':zd)=>K (.float .f32 r1) H'):zk Try.prog z6u Try.f197 [.slice a_a a_n a_e,.slice b_a b_n b_e] H K:=by
 rw [f14z_vc]
 obtain ⟨l_a,l_b,i_a,i_b,bd_11,bd_12,pr0,hk⟩:=h
 obtain rfl:=i_a.eqn
 obtain rfl:=i_b.eqn
 have e:(z8r l_a l_b)=_:=rfl
 have e:=e.trans (z9z l_a l_b)
 have g0:=Grow.refl H
 refine f14z_L1 _ _ _ _ _ _ (fun (μ:Nat) (sum:Nat) (t10:Int) (H_1:zd)=>H=H_1∧(0:Int)≤t10∧t10≤(l_a.length:Int)∧(l_a.length:Int)-t10≤(μ:Int)∧z8r l_a l_b=z2a l_a l_b (μ+1) sum t10) (Int.toNat ((l_a.length:Int)-(0:Int))) _ _ H ?_ ?_
 ·exact ⟨rfl,ω3,ω3,ω2,e⟩
 ·intro μ sum t10  H_1 hI
  obtain ⟨rfl,v_1,v_2,hμ,e⟩:=hI
  rw [f14z_r1]
  have e:=e.trans (z6j l_a l_b μ sum t10)
  have l3:=g0.1
  refine Br.intro (fun c_4=>?_) (fun c_4=>?_)
  ·have e:=e.trans (zj c_4)
   have c_4':=odt c_4
   obtain ⟨b_5,f6,q_7⟩:=((i_a.grow g0)).pos ω0
   refine ⟨by omega,by omega,b_5,f6,q_7,?_⟩
   refine ⟨((l_a).getD (t10:Int).toNat 0),(i_a).rd g0 q_7 ω2 _,?_⟩
   obtain ⟨b_8,f9,q10⟩:=((i_b.grow g0)).pos ω0
   refine ⟨by omega,by omega,b_8,f9,q10,?_⟩
   refine ⟨((l_b).getD (t10:Int).toNat 0),(i_b).rd g0 q10 ω2 _,?_⟩
   rw [show IntKind.wrap .i64 (t10+1)=(t10+1) from zy ω2 ω2]
   refine f14z_n1 (μ-1) ω18 ⟨rfl,ω1,ω1,ω18,ω19⟩
  ·have e:=e.trans (zi c_4)
   have c_4':=odf c_4
   rw [f14z_x1_0]
   rw [e] at hk
   exact hk
theorem f14z_ok:FnOk Try.prog 197 zec:=by
 refine FnOk.body mix_ok zhe Try.func197 rfl ω5 ω5 ?_ ?_ ?_ ?_ ?_
 ·intro args H K K' h hk
  simp only [zec] at *
  unfold zi0 at *
  split at hk
  ·obtain ⟨l_a,l_b,i_a,i_b,bd_11,bd_12,pr0,k⟩:=hk
   exact ⟨l_a,l_b,i_a,i_b,bd_11,bd_12,pr0,h _ _ k⟩
  ·exact hk.elim
 ·intro _ args H K hk
  simp only [zec] at *
  unfold zi0 at *
  split at hk
  ·obtain ⟨l_a,l_b,i_a,i_b,bd_11,bd_12,pr0,k⟩:=hk
   exact ⟨_,k,fun K' k'=>⟨l_a,l_b,i_a,i_b,bd_11,bd_12,pr0,k'⟩⟩
  ·exact hk.elim
 ·intro args H K hk
  simp only [zec] at *
  unfold zi0 at *
  split at hk
  ·obtain ⟨l_a,l_b,i_a,i_b,bd_11,bd_12,pr0,k⟩:=hk
   exact ⟨_,_,k⟩
  ·exact hk.elim
 ·intro hq;cases hq
 ·have mm:=@f14z_main
  have ml:=fun (args:List Value) (H:zd) (K:KT)=>zf (P:=Try.prog) (env:=z6u) (fn:=Try.f197) (args:=args) (H:=H) (K:=K) zhe 
  revert mm ml
  generalize z1a Try.prog z6u Try.f197=Q
  generalize zk Try.prog z6u Try.f197=QL
  intro mm ml args H K hk
  simp only [zec] at *
  unfold zi0 at *
  split at hk
  ·exact ml _ H K (mm _ _ _ _ _ _ H K hk)
  ·exact hk.elim
def z7k (x:Nat):Nat×Bool:=(bif !(zmq x) then (0,false) else (x,true))
def zr6 (x:Nat) (H:zd) (K:Nat→Bool→zd→Prop):Prop:=K (z7k x).1 (z7k x).2 H

theorem zu1 {x:Nat} {H:zd} {K:Nat→Bool→zd→Prop} (h:K (z7k x).1 (z7k x).2 H):zr6 x H K:=h
def zqc:Env:=envOf [(155,zin)]
def zt6:List Value→zd→(Value→zd→Prop)→Prop
 | [.float .f32 x],H,K=>zr6 x H fun (r1:Nat) (r2:Bool) (H':zd)=>K (.tuple #[.float .f32 r1,.bool r2]) H'
 | _,_,_=>False
def zle:FSpec:={F:=zt6,quiet:=true,tame:=false}
theorem z1bo (x:Nat) (H:zd) (K:KT):zk Try.prog zqc Try.f113 [.float .f32 x] H K=
 (zfx x H fun (r1:Bool) (H1:zd)=>Br (!r1) (K (.tuple #[.float .f32 0,.bool false]) H1) (K (.tuple #[.float .f32 x,.bool true]) H1)):=by kernel_rfl
theorem znq:∀g,FnOk Try.prog g (zqc g):=FnOk.envOf (by
 intro x hx
 simp only [List.mem_cons,List.not_mem_nil,or_false] at hx
 subst hx;exact zvs)
theorem z10a (x:Nat) (H:zd) (K:KT) (h:zr6 x H fun (r1:Nat) (r2:Bool) (H':zd)=>K (.tuple #[.float .f32 r1,.bool r2]) H'):zk Try.prog zqc Try.f113 [.float .f32 x] H K:=by
 rw [z1bo]
 simp only [zfx]
 unfold zr6 z7k at h
 repeat' (first | exact h | (exfalso;simp_all;done) | (refine ⟨by decide,?_⟩) | (refine Br.intro (fun hb=>?_) (fun hb=>?_)<;>(try simp only [hb,cond_true,cond_false,Bool.not_true,Bool.not_false] at h)))
theorem z12y:FnOk Try.prog 113 zle:=by
 refine FnOk.body mix_ok znq Try.func113 rfl ω5 ω5 ?_ ?_ ?_ ?_ ?_
 ·intro args H K K' h hk
  simp only [zle] at *
  unfold zt6 at *
  split at hk
  ·have k:=hk
   exact h _ _ k
  ·exact hk.elim
 ·intro _ args H K hk
  simp only [zle] at *
  unfold zt6 at *
  split at hk
  ·have k:=hk
   exact ⟨_,k,fun K' k'=>k'⟩
  ·exact hk.elim
 ·intro args H K hk
  simp only [zle] at *
  unfold zt6 at *
  split at hk
  ·have k:=hk
   exact ⟨_,_,k⟩
  ·exact hk.elim
 ·intro hq;cases hq
 ·have mm:=@z10a
  have ml:=fun (args:List Value) (H:zd) (K:KT)=>zf (P:=Try.prog) (env:=zqc) (fn:=Try.f113) (args:=args) (H:=H) (K:=K) znq 
  revert mm ml
  generalize z1a Try.prog zqc Try.f113=Q
  generalize zk Try.prog zqc Try.f113=QL
  intro mm ml args H K hk
  simp only [zle] at *
  unfold zt6 at *
  split at hk
  ·exact ml _ H K (mm _ H K hk)
  ·exact hk.elim

def z6a (l_a l_b:LN):Nat×Bool:=((bif !(z7h l_a) then (0,false) else (bif !(z7h l_b) then (0,false) else (bif ((l_a.length:Int):Int) != (l_b.length:Int) then (0,false) else ((z7k (z8r l_a l_b)).1,(z7k (z8r l_a l_b)).2)))))
def za2:=@z6a.eq_1
def zyc (a_a:OA) (a_n a_e:Nat) (b_a:OA) (b_n b_e:Nat) (H:zd) (K:Nat→Bool→zd→Prop):Prop:=∃(l_a l_b:LN),IsL fF H a_a a_n l_a∧IsL fF H b_a b_n l_b∧l_a.length<1073741824∧l_b.length<1073741824∧K ((z6a l_a l_b).1) ((z6a l_a l_b).2) H
theorem z13m {a_a:OA} {a_n a_e:Nat} {b_a:OA} {b_n b_e:Nat} {H:zd} {K:Nat→Bool→zd→Prop} (h:∃(l_a l_b:LN),IsL fF H a_a a_n l_a∧IsL fF H b_a b_n l_b∧l_a.length<1073741824∧l_b.length<1073741824∧K ((z6a l_a l_b).1) ((z6a l_a l_b).2) H):zyc a_a a_n a_e b_a b_n b_e H K:=h

def zq1:Env:=envOf [(100,zeb),(197,zec),(113,zle)]
def zso:List Value→zd→(Value→zd→Prop)→Prop
 | [.slice a_a a_n a_e,.slice b_a b_n b_e],H,K=>zyc a_a a_n a_e b_a b_n b_e H fun (r1:Nat) (r2:Bool) (H':zd)=>K (.tuple #[.float .f32 r1,.bool r2]) H'
 | _,_,_=>False
def zqm:FSpec:={F:=zso,quiet:=true,tame:=false}
theorem f4z_vc (a_a:OA) (a_n a_e:Nat) (b_a:OA) (b_n b_e:Nat) (H:zd) (K:KT):zk Try.prog zq1 Try.f167 [.slice a_a a_n a_e,.slice b_a b_n b_e] H K=
 (zis a_a a_n a_e H fun (r1:Bool) (H1:zd)=>Br (!r1) (K (.tuple #[.float .f32 0,.bool false]) H1) (zis b_a b_n b_e H1 fun (r2:Bool) (H2:zd)=>Br (!r2) (K (.tuple #[.float .f32 0,.bool false]) H2) (Br (((a_n:Int):Int) != (b_n:Int)) (K (.tuple #[.float .f32 0,.bool false]) H2) (zo5 a_a a_n a_e b_a b_n b_e H2 fun (r3:Nat) (H3:zd)=>zr6 r3 H3 fun (r4:Nat) (r5:Bool) (H4:zd)=>K (.tuple #[.float .f32 r4,.bool r5]) H4)))):=by kernel_rfl
theorem zn6:∀g,FnOk Try.prog g (zq1 g):=FnOk.envOf (by
 intro x hx
 simp only [List.mem_cons,List.not_mem_nil,or_false] at hx
 rcases hx with rfl | rfl | rfl
 ·exact f13z_ok
 ·exact f14z_ok
 ·exact z12y)
theorem f4z_main (a_a:OA) (a_n a_e:Nat) (b_a:OA) (b_n b_e:Nat) (H:zd) (K:KT) (h:zyc a_a a_n a_e b_a b_n b_e H fun (r1:Nat) (r2:Bool) (H':zd)=>K (.tuple #[.float .f32 r1,.bool r2]) H'):zk Try.prog zq1 Try.f167 [.slice a_a a_n a_e,.slice b_a b_n b_e] H K:=by
 rw [f4z_vc]
 obtain ⟨l_a,l_b,i_a,i_b,bd_4,bd_5,hk⟩:=h
 obtain rfl:=i_a.eqn
 obtain rfl:=i_b.eqn
 have e:(z6a l_a l_b)=_:=rfl
 have e:=e.trans (za2 l_a l_b)
 have g0:=Grow.refl H
 refine zo4 ⟨_,(i_a.grow g0),ω0,?_⟩
 refine Br.intro (fun c_1=>?_) (fun c_1=>?_)
 ·have e:=e.trans (zj c_1)
  have c_1n:=zv c_1
  rw [e] at hk
  exact hk
 ·have e:=e.trans (zi c_1)
  have c_1n:=zr c_1
  have c_1n':=f13z_t c_1n
  refine zo4 ⟨_,(i_b.grow g0),ω0,?_⟩
  refine Br.intro (fun c_2=>?_) (fun c_2=>?_)
  ·have e:=e.trans (zj c_2)
   have c_2n:=zv c_2
   rw [e] at hk
   exact hk
  ·have e:=e.trans (zi c_2)
   have c_2n:=zr c_2
   have c_2n':=f13z_t c_2n
   refine Br.intro (fun c_3=>?_) (fun c_3=>?_)
   ·have e:=e.trans (zj c_3)
    have c_3':=zmf c_3
    rw [e] at hk
    exact hk
   ·have e:=e.trans (zi c_3)
    have c_3':=zme c_3
    refine zy2 ⟨_,_,(i_a.grow g0),(i_b.grow g0),ω0,ω0,ω16,?_⟩
    refine zu1 ?_
    rw [e] at hk
    exact hk
theorem f4z_ok:FnOk Try.prog 167 zqm:=by
 refine FnOk.body mix_ok zn6 Try.func167 rfl ω5 ω5 ?_ ?_ ?_ ?_ ?_
 ·intro args H K K' h hk
  simp only [zqm] at *
  unfold zso at *
  split at hk
  ·obtain ⟨l_a,l_b,i_a,i_b,bd_4,bd_5,k⟩:=hk
   exact ⟨l_a,l_b,i_a,i_b,bd_4,bd_5,h _ _ k⟩
  ·exact hk.elim
 ·intro _ args H K hk
  simp only [zqm] at *
  unfold zso at *
  split at hk
  ·obtain ⟨l_a,l_b,i_a,i_b,bd_4,bd_5,k⟩:=hk
   exact ⟨_,k,fun K' k'=>⟨l_a,l_b,i_a,i_b,bd_4,bd_5,k'⟩⟩
  ·exact hk.elim
 ·intro args H K hk
  simp only [zqm] at *
  unfold zso at *
  split at hk
  ·obtain ⟨l_a,l_b,i_a,i_b,bd_4,bd_5,k⟩:=hk
   exact ⟨_,_,k⟩
  ·exact hk.elim
 ·intro hq;cases hq
 ·have mm:=@f4z_main
  have ml:=fun (args:List Value) (H:zd) (K:KT)=>zf (P:=Try.prog) (env:=zq1) (fn:=Try.f167) (args:=args) (H:=H) (K:=K) zn6 
  revert mm ml
  generalize z1a Try.prog zq1 Try.f167=Q
  generalize zk Try.prog zq1 Try.f167=QL
  intro mm ml args H K hk
  simp only [zqm] at *
  unfold zso at *
  split at hk
  ·exact ml _ H K (mm _ _ _ _ _ _ H K hk)
  ·exact hk.elim

def z8b (aa:LN):Nat→Nat→Int→Nat
 | 0,_,_=>0
 | μ+1,sum,t7=>(bif decide ((t7:Int)<(aa.length:Int)) then (z8b aa μ (fadd .f32 sum (fmul .f32 (((aa).getD (t7:Int).toNat 0)) (((aa).getD (t7:Int).toNat 0)))) (t7+1)) else sum)
def zfe:=fun aa μ sum t7=>@z8b.eq_2 aa sum t7 μ
def zbp (aa:LN):Nat:=(z8b aa (Int.toNat ((aa.length:Int)-(0:Int))+1) 0 (0:Int))
def zpd:=@zbp.eq_1
def zyl (ca:OA) (ba ga:Nat) (H:zd) (K:Nat→zd→Prop):Prop:=∃aa:LN,IsL fF H ca ba aa∧aa.length<1073741824∧K (zbp aa) H
theorem z13z {ca:OA} {ba ga:Nat} {H:zd} {K:Nat→zd→Prop} (h:∃aa:LN,IsL fF H ca ba aa∧aa.length<1073741824∧K (zbp aa) H):zyl ca ba ga H K:=h

def zbi:Env:=envOf []
def zt7:List Value→zd→(Value→zd→Prop)→Prop
 | [.slice ca ba ga],H,K=>zyl ca ba ga H fun (r1:Nat) (H':zd)=>K (.float .f32 r1) H'
 | _,_,_=>False
def zqz:FSpec:={F:=zt7,quiet:=true,tame:=false}
theorem z1bt (ca:OA) (ba ga:Nat) (H:zd) (K:KT):zk Try.prog zbi Try.f103 [.slice ca ba ga] H K=
 (z1b (exL Try.prog zbi (cl (cl (cr (cl (cr (cr (zg Try.f103))))))) 201 4 [(0,8)]) (.slice ca ba ga::ud2 (.float .f32 0::ud2 (.int .i64 (ba:Int)::.int .i64 0::ud15 []))) H (zn 0 (seqQ (exL Try.prog zbi (cr (cr (cr (zg Try.f103)))) 4 4 []) (retK Try.prog Try.f103 K)))):=by kernel_rfl
abbrev zju (ca:OA) (ga ba sum:Nat) (t7:Int)  :List Value:=(.slice ca ba ga::ud2 (.float .f32 sum::ud2 (.int .i64 (ba:Int)::.int .i64 t7::ud15 [])))
theorem z1bs (ca:OA) (ga ba sum:Nat) (t7:Int)  (H:zd) (R:Post):exL Try.prog zbi (cl (cl (cr (cl (cr (cr (zg Try.f103))))))) 201 4 [(0,8)] (zju ca ga ba sum t7) H R=
 (Br (decide ((t7:Int)<(ba:Int))) ((0:Int)≤t7∧t7<(ba:Int)∧∃b1 f1,(ca:OA)=some ⟨b1,f1,none⟩∧∃x1:Nat,  rdC H b1 (f1+(t7:Int).toNat*1)=some (.float .f32 x1)∧(0:Int)≤t7∧t7<(ba:Int)∧∃b2 f2,(ca:OA)=some ⟨b2,f2,none⟩∧∃x2:Nat,  rdC H b2 (f2+(t7:Int).toNat*1)=some (.float .f32 x2)∧R .normal (.slice ca ba ga::ud2 (.float .f32 (fadd .f32 sum (fmul .f32 x1 x2))::ud2 (.int .i64 (ba:Int)::.int .i64 (IntKind.wrap .i64 (t7+1))::ud15 []))) H) (R (.exit 0) (ud3 (.float .f32 sum::ud19 [])) H)):=by kernel_rfl
def zvu (ca:OA) (ga ba:Nat) (Inv:Nat→Nat→Int→zd→Prop):Nat→List Value→zd→Prop:=fun μ tm H=>∃sum:Nat,∃t7:Int,tm=(zju ca ga ba sum t7)∧Inv μ sum t7 H
theorem z1bp (ca:OA) (ga ba:Nat) {Q:Post} (Inv:Nat→Nat→Int→zd→Prop) (ν sum:Nat) (t7:Int)  (H:zd) (h0:Inv ν sum t7 H)
  (hs:∀(μ:Nat) (sum:Nat) (t7:Int)  (H:zd),Inv μ sum t7 H→exL Try.prog zbi (cl (cl (cr (cl (cr (cr (zg Try.f103))))))) 201 4 [(0,8)] (zju ca ga ba sum t7) H (zp (zvu ca ga ba Inv) μ Q)):z1b (exL Try.prog zbi (cl (cl (cr (cl (cr (cr (zg Try.f103))))))) 201 4 [(0,8)]) (zju ca ga ba sum t7) H Q:=
 ⟨zvu ca ga ba Inv,ν,⟨sum,t7,rfl,h0⟩,fun μ tm H h=>by obtain ⟨sum,t7,rfl,hI⟩:=h;exact hs μ sum t7  H hI⟩
theorem z1bq {ca:OA} {ga ba:Nat} {Q:Post} {Inv:Nat→Nat→Int→zd→Prop} {μ:Nat} (μ':Nat) {sum:Nat} {t7:Int}  {H:zd} (hm:μ'<μ) (hI:Inv μ' sum t7 H):zp (zvu ca ga ba Inv) μ Q .normal (zju ca ga ba sum t7) H:=⟨μ',hm,sum,t7,rfl,hI⟩
theorem z10c (sum:Nat) (H:zd) (K:KT)  {I:Nat→List Value→zd→Prop} {μ:Nat}:zp I μ (zn 0 (seqQ (exL Try.prog zbi (cr (cr (cr (zg Try.f103)))) 4 4 []) (retK Try.prog Try.f103 K))) (.exit 0) (ud3 (.float .f32 sum::ud19 [])) H=
 (K (.float .f32 sum) H):=by kernel_rfl
theorem znr:∀g,FnOk Try.prog g (zbi g):=FnOk.envOf (by
 intro x hx;cases hx)
theorem z10b (ca:OA) (ba ga:Nat) (H:zd) (K:KT) (h:zyl ca ba ga H fun (r1:Nat) (H':zd)=>K (.float .f32 r1) H'):zk Try.prog zbi Try.f103 [.slice ca ba ga] H K:=by
 rw [z1bt]
 obtain ⟨aa,i_list,bd_11,hk⟩:=h
 obtain rfl:=i_list.eqn
 have e:(zbp aa)=_:=rfl
 have e:=e.trans (zpd aa)
 have g0:=Grow.refl H
 refine z1bp _ _ _ (fun (μ:Nat) (sum:Nat) (t7:Int) (H_1:zd)=>H=H_1∧(0:Int)≤t7∧t7≤(aa.length:Int)∧(aa.length:Int)-t7≤(μ:Int)∧zbp aa=z8b aa (μ+1) sum t7) (Int.toNat ((aa.length:Int)-(0:Int))) _ _ H ?_ ?_
 ·exact ⟨rfl,ω3,ω3,ω2,e⟩
 ·intro μ sum t7  H_1 hI
  obtain ⟨rfl,v_1,v_2,hμ,e⟩:=hI
  rw [z1bs]
  have e:=e.trans (zfe aa μ sum t7)
  have l3:=g0.1
  refine Br.intro (fun c_4=>?_) (fun c_4=>?_)
  ·have e:=e.trans (zj c_4)
   have c_4':=odt c_4
   obtain ⟨b_5,f6,q_7⟩:=((i_list.grow g0)).pos ω0
   refine ⟨by omega,by omega,b_5,f6,q_7,?_⟩
   refine ⟨((aa).getD (t7:Int).toNat 0),(i_list).rd g0 q_7 ω2 _,?_⟩
   obtain ⟨b_8,f9,q10⟩:=((i_list.grow g0)).pos ω0
   refine ⟨by omega,by omega,b_8,f9,q10,?_⟩
   refine ⟨((aa).getD (t7:Int).toNat 0),(i_list).rd g0 q10 ω2 _,?_⟩
   rw [show IntKind.wrap .i64 (t7+1)=(t7+1) from zy ω2 ω2]
   refine z1bq (μ-1) ω18 ⟨rfl,ω1,ω1,ω18,ω19⟩
  ·have e:=e.trans (zi c_4)
   have c_4':=odf c_4
   rw [z10c]
   rw [e] at hk
   exact hk
theorem z1br:FnOk Try.prog 103 zqz:=by
 refine FnOk.body mix_ok znr Try.func103 rfl ω5 ω5 ?_ ?_ ?_ ?_ ?_
 ·intro args H K K' h hk
  simp only [zqz] at *
  unfold zt7 at *
  split at hk
  ·obtain ⟨aa,i_list,bd_11,k⟩:=hk
   exact ⟨aa,i_list,bd_11,h _ _ k⟩
  ·exact hk.elim
 ·intro _ args H K hk
  simp only [zqz] at *
  unfold zt7 at *
  split at hk
  ·obtain ⟨aa,i_list,bd_11,k⟩:=hk
   exact ⟨_,k,fun K' k'=>⟨aa,i_list,bd_11,k'⟩⟩
  ·exact hk.elim
 ·intro args H K hk
  simp only [zqz] at *
  unfold zt7 at *
  split at hk
  ·obtain ⟨aa,i_list,bd_11,k⟩:=hk
   exact ⟨_,_,k⟩
  ·exact hk.elim
 ·intro hq;cases hq
 ·have mm:=@z10b
  have ml:=fun (args:List Value) (H:zd) (K:KT)=>zf (P:=Try.prog) (env:=zbi) (fn:=Try.f103) (args:=args) (H:=H) (K:=K) znr 
  revert mm ml
  generalize z1a Try.prog zbi Try.f103=Q
  generalize zk Try.prog zbi Try.f103=QL
  intro mm ml args H K hk
  simp only [zqz] at *
  unfold zt7 at *
  split at hk
  ·exact ml _ H K (mm _ _ _ H K hk)
  ·exact hk.elim
def zs9 (x:Nat):Bool:=(bif (zmq x) then flt .f32 0 x else false)
def zu5 (x:Nat) (H:zd) (K:Bool→zd→Prop):Prop:=K (zs9 x) H

theorem z14b {x:Nat} {H:zd} {K:Bool→zd→Prop} (h:K (zs9 x) H):zu5 x H K:=h
def zqg:Env:=envOf [(155,zin)]
def ztc:List Value→zd→(Value→zd→Prop)→Prop
 | [.float .f32 x],H,K=>zu5 x H fun (r1:Bool) (H':zd)=>K (.bool r1) H'
 | _,_,_=>False
def zr1:FSpec:={F:=ztc,quiet:=true,tame:=false}
theorem z1c5 (x:Nat) (H:zd) (K:KT):zk Try.prog zqg Try.f168 [.float .f32 x] H K=
 (zfx x H fun (r1:Bool) (H1:zd)=>Br r1 (K (.bool (flt .f32 0 x)) H1) (K (.bool false) H1)):=by kernel_rfl
theorem znw:∀g,FnOk Try.prog g (zqg g):=FnOk.envOf (by
 intro x hx
 simp only [List.mem_cons,List.not_mem_nil,or_false] at hx
 subst hx;exact zvs)
theorem z10m (x:Nat) (H:zd) (K:KT) (h:zu5 x H fun (r1:Bool) (H':zd)=>K (.bool r1) H'):zk Try.prog zqg Try.f168 [.float .f32 x] H K:=by
 rw [z1c5]
 simp only [zfx]
 unfold zu5 zs9 at h
 repeat' (first | exact h | (exfalso;simp_all;done) | (refine ⟨by decide,?_⟩) | (refine Br.intro (fun hb=>?_) (fun hb=>?_)<;>(try simp only [hb,cond_true,cond_false,Bool.not_true,Bool.not_false] at h)))
theorem z1c4:FnOk Try.prog 168 zr1:=by
 refine FnOk.body mix_ok znw Try.func168 rfl ω5 ω5 ?_ ?_ ?_ ?_ ?_
 ·intro args H K K' h hk
  simp only [zr1] at *
  unfold ztc at *
  split at hk
  ·have k:=hk
   exact h _ _ k
  ·exact hk.elim
 ·intro _ args H K hk
  simp only [zr1] at *
  unfold ztc at *
  split at hk
  ·have k:=hk
   exact ⟨_,k,fun K' k'=>k'⟩
  ·exact hk.elim
 ·intro args H K hk
  simp only [zr1] at *
  unfold ztc at *
  split at hk
  ·have k:=hk
   exact ⟨_,_,k⟩
  ·exact hk.elim
 ·intro hq;cases hq
 ·have mm:=@z10m
  have ml:=fun (args:List Value) (H:zd) (K:KT)=>zf (P:=Try.prog) (env:=zqg) (fn:=Try.f168) (args:=args) (H:=H) (K:=K) znw 
  revert mm ml
  generalize z1a Try.prog zqg Try.f168=Q
  generalize zk Try.prog zqg Try.f168=QL
  intro mm ml args H K hk
  simp only [zr1] at *
  unfold ztc at *
  split at hk
  ·exact ml _ H K (mm _ H K hk)
  ·exact hk.elim
def zb6 (f:Nat) (sign:Int):Bool:=((bif (sign:Int)==0 then flt .f64 9218868437227405311 (zf6 f) else (bif decide ((sign:Int)<0) then flt .f64 9218868437227405311 (fneg .f64 f) else flt .f64 9218868437227405311 f)))
def ziw (f:Nat) (sign:Int) (H:zd) (K:Bool→zd→Prop):Prop:=K (zb6 f sign) H
theorem z19p {f:Nat} {sign:Int} (h:zb6 f sign=false):sign=1→flt .f64 9218868437227405311 f=false:=by
 intro e;subst e;exact h
theorem zy8 {f:Nat} {sign:Int} {H:zd} {K:Bool→zd→Prop} (h:K (zb6 f sign) H):ziw f sign H K:=h
def ze3:Env:=envOf [(238,zc4)]
def zic:List Value→zd→(Value→zd→Prop)→Prop
 | [.float .f64 f,.int .i64 sign],H,K=>ziw f sign H fun (r1:Bool) (H':zd)=>K (.bool r1) H'
 | _,_,_=>False
def zek:FSpec:={F:=zic,quiet:=true,tame:=false}
theorem z15i (f:Nat) (sign:Int) (H:zd) (K:KT):zk Try.prog ze3 Try.f225 [.float .f64 f,.int .i64 sign] H K=
 (Br ((sign:Int)==0) (zet f H fun (r1:Nat) (H1:zd)=>K (.bool (flt .f64 9218868437227405311 r1)) H1) (Br (decide ((sign:Int)<0)) (K (.bool (flt .f64 9218868437227405311 (fneg .f64 f))) H) (K (.bool (flt .f64 9218868437227405311 f)) H))):=by kernel_rfl
theorem zhq:∀g,FnOk Try.prog g (ze3 g):=FnOk.envOf (by
 intro x hx
 simp only [List.mem_cons,List.not_mem_nil,or_false] at hx
 subst hx;exact zv4)
theorem zux (f:Nat) (sign:Int) (H:zd) (K:KT) (h:ziw f sign H fun (r1:Bool) (H':zd)=>K (.bool r1) H'):zk Try.prog ze3 Try.f225 [.float .f64 f,.int .i64 sign] H K:=by
 rw [z15i]
 simp only [zet]
 unfold ziw zb6 at h
 repeat' (first | exact h | (exfalso;simp_all;done) | (refine ⟨by decide,?_⟩) | (refine Br.intro (fun hb=>?_) (fun hb=>?_)<;>(try simp only [hb,cond_true,cond_false,Bool.not_true,Bool.not_false] at h)))
theorem z15h:FnOk Try.prog 225 zek:=by
 refine FnOk.body mix_ok zhq Try.func225 rfl ω5 ω5 ?_ ?_ ?_ ?_ ?_
 ·intro args H K K' h hk
  simp only [zek] at *
  unfold zic at *
  split at hk
  ·have k:=hk
   exact h _ _ k
  ·exact hk.elim
 ·intro _ args H K hk
  simp only [zek] at *
  unfold zic at *
  split at hk
  ·have k:=hk
   exact ⟨_,k,fun K' k'=>k'⟩
  ·exact hk.elim
 ·intro args H K hk
  simp only [zek] at *
  unfold zic at *
  split at hk
  ·have k:=hk
   exact ⟨_,_,k⟩
  ·exact hk.elim
 ·intro hq;cases hq
 ·have mm:=@zux
  have ml:=fun (args:List Value) (H:zd) (K:KT)=>zf (P:=Try.prog) (env:=ze3) (fn:=Try.f225) (args:=args) (H:=H) (K:=K) zhq 
  revert mm ml
  generalize z1a Try.prog ze3 Try.f225=Q
  generalize zk Try.prog ze3 Try.f225=QL
  intro mm ml args H K hk
  simp only [zek] at *
  unfold zic at *
  split at hk
  ·exact ml _ H K (mm _ _ H K hk)
  ·exact hk.elim
end Go.Proofs.Ytbnplefohfamnaa.Ai
