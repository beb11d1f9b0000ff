/- What functions of the program come to on the abstract machine, and that they do so; printed by a program of mine around proofs of mine. -/
import Derived.Test.YthheoefadijhdaaGreatFFnExactReadMarks1
set_option linter.unusedVariables false
set_option linter.unusedSimpArgs false
set_option linter.defProp false
set_option maxRecDepth 100000
set_option maxHeartbeats 1000000
namespace Go.Proofs.YthheoefadijhdaaGreat.Ai
open Go
attribute [local irreducible] z6j zt

def z1o (fa ia:Int) (da:LN):Bool:=((bif (z2c fa (1:Int) (16:Int)) then (bif (z2c ia (1:Int) (16:Int)) then (bif ((da.length:Int):Int)==IntKind.wrap .i64 (fa*ia) then (z7i ([da])) else false) else false) else false))
def zbm:=@z1o.eq_1
def zht (fa ia:Int) (ja:OA) (sa ya:Nat) (H:zn) (K:Bool→zn→Prop):Prop:=∃da:LN,IsL fF H ja sa da∧da.length<1073741824∧((∀H':zn,Grow H H'→K (z1o fa ia da) H'))
theorem zbx {fa ia:Int} {ja:OA} {sa ya:Nat} {H:zn} {K:Bool→zn→Prop} (h:∃da:LN,IsL fF H ja sa da∧da.length<1073741824∧((∀H':zn,Grow H H'→K (z1o fa ia da) H'))):zht fa ia ja sa ya H K:=h
theorem f8z_t {w h:Int} {l:LN} (hh:z1o w h l=true):1≤w∧w≤16∧1≤h∧h≤16∧(l.length:Int)=w*h∧(l.length:Int)≤256∧1≤(l.length:Int):=by
 rw [zbm] at hh
 simp only [Bool.cond_false_right,Bool.and_eq_true] at hh
 obtain ⟨a,b,c,-⟩:=hh
 have a:=z3g a
 have b:=z3g b
 have h1:w*h≤16*16:=Int.mul_le_mul ω2 ω2 ω2 ω20
 have h2:1*1≤w*h:=Int.mul_le_mul ω2 ω2 ω2 ω2
 have c:=eq_of_beq c
 rw [zp ω2 ω2] at c
 exact ⟨a.1,a.2,b.1,b.2,c,by omega,by omega⟩
def E_f8z:Env:=envOf [(68,zaa),(104,zux)]
def F_f8z (args:List Value) (H:zn):(Value→zn→Prop)→Prop:=match args with
 | [.agg ⟨[.int .i64 fa,.int .i64 ia,.slice ja sa ya]⟩]=>fun K=>zht fa ia ja sa ya H fun (r1:Bool) (H':zn)=>K (.bool r1) H'
 | _=>fun _=>False
def zmh:FSpec:={F:=F_f8z,quiet:=false,tame:=true}
theorem f8z_vc (fa ia:Int) (ja:OA) (sa ya:Nat) (H:zn) (K:KT):zt Tryz.prog E_f8z Tryz.f50 [.agg #[.int .i64 fa,.int .i64 ia,.slice ja sa ya]] H K=
 (Al [.int .i64 fa,.int .i64 ia,.slice ja sa ya] H fun b1 H1=>∃x1:Int,  rdC H1 b1 0=some (.int .i64 x1)∧z3f x1 1 16 H1 fun (r1:Bool) (H2:zn)=>Br r1 (∃x2:Int,  rdC H2 b1 1=some (.int .i64 x2)∧z3f x2 1 16 H2 fun (r2:Bool) (H3:zn)=>Br r2 (∃fj:OA,∃(aj tj:Nat),  rdC H3 b1 2=some (.slice fj aj tj)∧∃x4:Int,  rdC H3 b1 0=some (.int .i64 x4)∧∃x5:Int,  rdC H3 b1 1=some (.int .i64 x5)∧Br (((aj:Int):Int)==IntKind.wrap .i64 (x4*x5)) (∃ii:OA,∃(ai ni:Nat),  rdC H3 b1 2=some (.slice ii ai ni)∧Al [.slice ii ai ni] H3 fun b2 H4=>zmj (some ⟨b2,0,none⟩) 1 1 H4 fun (r3:Bool) (H5:zn)=>K (.bool r3) H5) (K (.bool false) H3)) (K (.bool false) H3)) (K (.bool false) H2)):=by kernel_rfl
theorem zzo:∀g,FnOk Tryz.prog g (E_f8z g):=FnOk.envOf (by
 intro x hx
 simp only [List.mem_cons,List.not_mem_nil,or_false] at hx
 rcases hx with rfl | rfl
 ·exact z7z
 ·exact zp6)
theorem f8z_main (fa ia:Int) (ja:OA) (sa ya:Nat) (H:zn) (K:KT) (h:zht fa ia ja sa ya H fun (r1:Bool) (H':zn)=>K (.bool r1) H'):zt Tryz.prog E_f8z Tryz.f50 [.agg #[.int .i64 fa,.int .i64 ia,.slice ja sa ya]] H K:=by
 rw [f8z_vc]
 obtain ⟨da,xd,bd_26,hk⟩:=h
 obtain rfl:=xd.eqn
 have e:(z1o fa ia da)=_:=rfl
 have e:=e.trans (zbm fa ia da)
 have g0:=Grow.refl H
 refine Al.intro (fun b_1 H_1 hb_2 hl_3 g_4 o_5=>?_)
 have l_7:=g_4.1
 have g_8:=g0.trans g_4
 have l_9:=g_8.1
 have w25:=o_5.lt
 refine ⟨fa,(o_5.rdC _).trans rfl,?_⟩
 refine z4b ?_
 refine Br.intro (fun c_10=>?_) (fun c_10=>?_)
 ·have e:=e.trans (zw c_10)
  have c_10':=z3g c_10
  refine ⟨ia,(o_5.rdC _).trans rfl,?_⟩
  refine z4b ?_
  refine Br.intro (fun c_11=>?_) (fun c_11=>?_)
  ·have e:=e.trans (zw c_11)
   have c_11':=z3g c_11
   refine ⟨ja,da.length,ya,(o_5.rdC _).trans rfl,?_⟩
   refine ⟨fa,(o_5.rdC _).trans rfl,?_⟩
   refine ⟨ia,(o_5.rdC _).trans rfl,?_⟩
   refine Br.intro (fun c_12=>?_) (fun c_12=>?_)
   ·have e:=e.trans (zw c_12)
    have c_12':=zbc c_12
    refine ⟨ja,da.length,ya,(o_5.rdC _).trans rfl,?_⟩
    refine Al.intro (fun b_13 H_2 hb_14 hl_15 g16 o_17=>?_)
    have l_19:=g16.1
    have g20:=g_8.trans g16
    have l_21:=g20.1
    have o22:=o_5.grow g16
    have w23:=o22.lt
    have w24:=o_17.lt
    refine zhu ⟨[da],⟨_,o_17.rdAll rfl,LLc.cons (xd.grow g20) (LLc.nil _ _)⟩,ω0,ω15,?_⟩
    rw [e] at hk
    exact hk  H_2 g20 
   ·have e:=e.trans (zv c_12)
    have c_12':=zbb c_12
    rw [e] at hk
    exact hk  H_1 g_8 
  ·have e:=e.trans (zv c_11)
   rw [e] at hk
   exact hk  H_1 g_8 
 ·have e:=e.trans (zv c_10)
  rw [e] at hk
  exact hk  H_1 g_8 
theorem f8z_ok:FnOk Tryz.prog 50 zmh:=FnOk.bodyF mix_ok zzo Tryz.func50 rfl ω9 ω9 fun args H=>by
 unfold F_f8z
 split
 ·refine ⟨?_,?_,?_,?_,fun K hk=>f8z_main _ _ _ _ _ H K hk⟩
  ·intro K K' h hk;obtain ⟨da,xd,bd_26,k⟩:=hk;exact ⟨da,xd,bd_26,(fun  H' gg  =>h _ _ (k  H' gg))⟩
  ·nofun
  ·intro K hk;obtain ⟨da,xd,bd_26,k⟩:=hk;exact ⟨_,_,k H (Grow.refl H)⟩
  ·intro _ K hk;obtain ⟨da,xd,bd_26,k⟩:=hk;exact ⟨da,xd,bd_26,(fun  H' gg  =>⟨gg,k  H' gg⟩)⟩
 ·exact Nice.no
def zfu (levels:Int):Bool:=(z2c levels 1 4)
def zmk (levels:Int) (H:zn) (K:Bool→zn→Prop):Prop:=K (zfu levels) H
theorem foz_t {n:Int} (h:zfu n=true):1≤n∧n≤4:=z3g h
theorem z1bs {levels:Int} {H:zn} {K:Bool→zn→Prop} (h:K (zfu levels) H):zmk levels H K:=h
def E_foz:Env:=envOf [(68,zaa)]
def F_foz (args:List Value) (H:zn):(Value→zn→Prop)→Prop:=match args with
 | [.int .i64 levels]=>fun K=>zmk levels H fun (r1:Bool) (H':zn)=>K (.bool r1) H'
 | _=>fun _=>False
def S_foz:FSpec:={F:=F_foz,quiet:=true,tame:=false}
theorem z1jb (levels:Int) (H:zn) (K:KT):zt Tryz.prog E_foz Tryz.f51 [.int .i64 levels] H K=
 (z3f levels 1 4 H fun (r1:Bool) (H1:zn)=>K (.bool r1) H1):=by kernel_rfl
theorem z10e:∀g,FnOk Tryz.prog g (E_foz g):=FnOk.envOf (by
 intro x hx
 simp only [List.mem_cons,List.not_mem_nil,or_false] at hx
 subst hx;exact z7z)
theorem z14f (levels:Int) (H:zn) (K:KT) (h:zmk levels H fun (r1:Bool) (H':zn)=>K (.bool r1) H'):zt Tryz.prog E_foz Tryz.f51 [.int .i64 levels] H K:=by
 rw [z1jb]
 simp only [z3f]
 unfold zmk zfu at h
 repeat' (first | exact h | (exfalso;simp_all;done) | (refine ⟨by decide,?_⟩) | (refine Br.intro (fun hb=>?_) (fun hb=>?_)<;>(try simp only [hb,cond_true,cond_false,Bool.not_true,Bool.not_false] at h)))
theorem z1a1:FnOk Tryz.prog 51 S_foz:=FnOk.bodyF mix_ok z10e Tryz.func51 rfl ω9 ω9 fun args H=>by
 unfold F_foz
 split
 ·refine ⟨?_,?_,?_,?_,fun K hk=>z14f _ H K hk⟩
  ·intro K K' h hk;have k:=hk;exact h _ _ k
  ·intro _ K hk;have k:=hk;exact ⟨_,k,fun K' k'=>k'⟩
  ·intro K hk;have k:=hk;exact ⟨_,_,k⟩
  ·nofun
 ·exact Nice.no

def zpj (ab:LN):LN:=(([]:LN)++ab)
def zlk:=@zpj.eq_1
def zjg (tb:OA) (qb bc:Nat) (H:zn) (K:OA→Nat→Nat→zn→Prop):Prop:=∃ab:LN,IsL fF H tb qb ab∧ab.length<1073741824∧((∀(jd:OA) (pd od:Nat),∀H':zn,Grow H H'→OwnS fF H' H.length jd pd od ab→K jd pd od H'))
theorem zon {tb:OA} {qb bc:Nat} {H:zn} {K:OA→Nat→Nat→zn→Prop} (h:∃ab:LN,IsL fF H tb qb ab∧ab.length<1073741824∧((∀(jd:OA) (pd od:Nat),∀H':zn,Grow H H'→OwnS fF H' H.length jd pd od ab→K jd pd od H'))):zjg tb qb bc H K:=h
theorem z1dq (l:LN):zpj l=l:=by
 rw [zlk];rfl
def ztx:Env:=envOf []
def z17w (args:List Value) (H:zn):(Value→zn→Prop)→Prop:=match args with
 | [.slice tb qb bc]=>fun K=>zjg tb qb bc H fun (jd:OA) (pd:Nat) (od:Nat) (H':zn)=>K (.slice jd pd od) H'
 | _=>fun _=>False
def zus:FSpec:={F:=z17w,quiet:=false,tame:=true}
theorem z1dr (tb:OA) (qb bc:Nat) (H:zn) (K:KT):zt Tryz.prog ztx Tryz.f53 [.slice tb qb bc] H K=
 (Al [] H fun b1 H1=>∃o1 w1:List Value,ownB H1 (some ⟨b1,0,none⟩) 0 1 1=some o1∧rdS H1 tb (qb*1)=some w1∧((some ⟨b1,0,none⟩:OA)=none→0<(qb:Nat))∧(0:Nat)+qb<most∧Ap H1 (z2s H1 (some ⟨b1,0,none⟩)++[some ⟨o1++w1,true⟩]) fun b2 H2=>K (.slice (some ⟨b2,0,none⟩) (0+qb) 1) H2):=by kernel_rfl
theorem zty:∀g,FnOk Tryz.prog g (ztx g):=FnOk.envOf (by
 intro x hx;cases hx)
theorem zwk (tb:OA) (qb bc:Nat) (H:zn) (K:KT) (h:zjg tb qb bc H fun (jd:OA) (pd:Nat) (od:Nat) (H':zn)=>K (.slice jd pd od) H'):zt Tryz.prog ztx Tryz.f53 [.slice tb qb bc] H K:=by
 rw [z1dr]
 obtain ⟨ab,i_list,bd_21,hk⟩:=h
 have hk:(∀(jd:OA) (pd od:Nat),∀H':zn,Grow H H'→OwnS fF H' H.length jd pd od (zpj ab)→(fun (jd:OA) (pd:Nat) (od:Nat) (H':zn)=>K (.slice jd pd od) H') jd pd od H'):=by rw [z1dq ab];exact hk
 obtain rfl:=i_list.eqn
 have e:(zpj ab)=_:=rfl
 have e:=e.trans (zlk ab)
 have g0:=Grow.refl H
 refine Al.intro (fun b_1 H_1 hb_2 hl_3 g_4 o_5=>?_)
 have o_5:Own H_1 b_1 ((([]:LN)).map fF):=o_5
 have l_7:=g_4.1
 have g_8:=g0.trans g_4
 have l_9:=g_8.1
 have w20:=o_5.lt
 refine ⟨_,_,o_5.ownB ω3 rfl,(z2h (i_list.grow g_8)),(fun h=>by cases h),ω25,?_⟩
 refine Ap.app o_5 rfl rfl (fun b_14 H_2 q_18 hl_10 o_11 k_12=>?_)
 have o_11:=z2a o_11
 have l_15:=k_12.1
 have g16:=g_8.keep (b:=b_1) ω2 k_12
 have l_17:=g16.1
 have w_19:=o_11.lt
 rw [e] at hk
 exact hk _ _ _ H_2 g16 (o_11.ownS ω6 ω2)
theorem zwl:FnOk Tryz.prog 53 zus:=FnOk.bodyF mix_ok zty Tryz.func53 rfl ω9 ω9 fun args H=>by
 unfold z17w
 split
 ·refine ⟨?_,?_,?_,?_,fun K hk=>zwk _ _ _ H K hk⟩
  ·intro K K' h hk;obtain ⟨ab,i_list,bd_21,k⟩:=hk;exact ⟨ab,i_list,bd_21,(fun jd pd od H' gg ow0=>h _ _ (k jd pd od H' gg ow0))⟩
  ·nofun
  ·intro K hk;obtain ⟨ab,i_list,bd_21,k⟩:=hk;exact z5q fun a n e H1 g o=>⟨_,_,k a n e H1 g o⟩
  ·intro _ K hk;obtain ⟨ab,i_list,bd_21,k⟩:=hk;exact ⟨ab,i_list,bd_21,(fun jd pd od H' gg ow0=>⟨gg,k jd pd od H' gg ow0⟩)⟩
 ·exact Nice.no

def z9k (n times:Int):Nat→Int→Int→Int
 | 0,_,_=>0
 | μ+1,n_0,t6=>(bif decide ((t6:Int)<times) then (z9k n times μ ((Int.tdiv (n_0+1) 2)) (t6+1)) else n_0)
def zao:=fun n times μ n_0 t6=>@z9k.eq_2 n times n_0 t6 μ
def z1b (n times:Int):Int:=(z9k n times (Int.toNat (times-(0:Int))+1) n (0:Int))
def zll:=@z1b.eq_1
def zb1 (n times:Int) (H:zn) (K:Int→zn→Prop):Prop:=1≤n∧n≤16∧times≤1000∧K (z1b n times) H
theorem zcw {n times:Int} {H:zn} {K:Int→zn→Prop} (h:1≤n∧n≤16∧times≤1000∧K (z1b n times) H):zb1 n times H K:=h
theorem z1dt (n times:Int):∀(μ:Nat) (a k:Int),1≤a→a≤16→times-k≤μ→z9k n times (μ+1) a k=z6k (times-k).toNat a:=by
 intro μ
 induction μ with
 | zero=>
  intro a k h1 h2 hm
  rw [zao,dcf ω2,cond_false,show (times-k).toNat=0 by omega];rfl
 | succ μ ih=>
  intro a k h1 h2 hm
  rw [zao]
  by_cases h:k<times
  ·rw [dct h,cond_true,zdz h1]
   have ra:=zba h1 h2
   obtain ⟨j,hj⟩:∃j,(times-k).toNat=j+1:=⟨(times-k).toNat-1,by omega⟩
   rw [ih (zi4 a) (k+1) ω2 ω2 ω2,hj,show (times-(k+1)).toNat=j by omega];rfl
  ·rw [dcf h,cond_false,show (times-k).toNat=0 by omega];rfl
theorem zag (n times:Int) (h1:1≤n) (h2:n≤16):z1b n times=z6k times.toNat n:=by
 rw [zll,z1dt n times _ n 0 h1 h2 ω2,show times-0=times by omega]
theorem zcy (n times:Int):1≤n∧n≤16→1≤z1b n times∧z1b n times≤n:=fun ⟨h1,h2⟩=>by
 rw [zag n times h1 h2];exact z4f _ _ h1 h2
def zb0:Env:=envOf []
def z17x (args:List Value) (H:zn):(Value→zn→Prop)→Prop:=match args with
 | [.int .i64 n,.int .i64 times]=>fun K=>zb1 n times H fun (r1:Int) (H':zn)=>K (.int .i64 r1) H'
 | _=>fun _=>False
def zut:FSpec:={F:=z17x,quiet:=true,tame:=false}
theorem z1dw (n times:Int) (H:zn) (K:KT):zt Tryz.prog zb0 Tryz.f55 [.int .i64 n,.int .i64 times] H K=
 (z1j (exL Tryz.prog zb0 (cl (cl (cr (cl (cr (zo Tryz.f55)))))) 97 16 [(0,1)]) (.int .i64 n::ud4 (.int .i64 times::.int .i64 0::ud6 [])) H (zu 0 (seqQ (exL Tryz.prog zb0 (cr (cr (zo Tryz.f55))) 16 16 []) (retK Tryz.prog Tryz.f55 K)))):=by kernel_rfl
abbrev zdt (times n_0 t6:Int)  :List Value:=(.int .i64 n_0::ud4 (.int .i64 times::.int .i64 t6::ud6 []))
theorem z1dv (times n_0 t6:Int)  (H:zn) (R:Post):exL Tryz.prog zb0 (cl (cl (cr (cl (cr (zo Tryz.f55)))))) 97 16 [(0,1)] (zdt times n_0 t6) H R=
 (Br (decide ((t6:Int)<times)) (2≠(0:Int)∧R .normal (.int .i64 (IntKind.wrap .i64 (Int.tdiv (IntKind.wrap .i64 (n_0+1)) 2))::ud4 (.int .i64 times::.int .i64 (IntKind.wrap .i64 (t6+1))::ud6 [])) H) (R (.exit 0) (.int .i64 n_0::ud12 []) H)):=by kernel_rfl
def zn4 (times:Int) (Inv:Nat→Int→Int→zn→Prop):Nat→List Value→zn→Prop:=fun μ tm H=>∃(n_0 t6:Int),tm=(zdt times n_0 t6)∧Inv μ n_0 t6 H
theorem z1ds (times:Int) {Q:Post} (Inv:Nat→Int→Int→zn→Prop) (ν:Nat) (n_0 t6:Int)  (H:zn) (h0:Inv ν n_0 t6 H)
  (hs:∀(μ:Nat) (n_0:Int) (t6:Int)  (H:zn),Inv μ n_0 t6 H→exL Tryz.prog zb0 (cl (cl (cr (cl (cr (zo Tryz.f55)))))) 97 16 [(0,1)] (zdt times n_0 t6) H (zx (zn4 times Inv) μ Q)):z1j (exL Tryz.prog zb0 (cl (cl (cr (cl (cr (zo Tryz.f55)))))) 97 16 [(0,1)]) (zdt times n_0 t6) H Q:=
 ⟨zn4 times Inv,ν,⟨n_0,t6,rfl,h0⟩,fun μ tm H h=>by obtain ⟨n_0,t6,rfl,hI⟩:=h;exact hs μ n_0 t6  H hI⟩
theorem z1du {times:Int} {Q:Post} {Inv:Nat→Int→Int→zn→Prop} {μ:Nat} (μ':Nat) {n_0 t6:Int}  {H:zn} (hm:μ'<μ) (hI:Inv μ' n_0 t6 H):zx (zn4 times Inv) μ Q .normal (zdt times n_0 t6) H:=⟨μ',hm,n_0,t6,rfl,hI⟩
theorem zwo (n_0:Int) (H:zn) (K:KT)  {I:Nat→List Value→zn→Prop} {μ:Nat}:zx I μ (zu 0 (seqQ (exL Tryz.prog zb0 (cr (cr (zo Tryz.f55))) 16 16 []) (retK Tryz.prog Tryz.f55 K))) (.exit 0) (.int .i64 n_0::ud12 []) H=
 (K (.int .i64 n_0) H):=by kernel_rfl
theorem ztz:∀g,FnOk Tryz.prog g (zb0 g):=FnOk.envOf (by
 intro x hx;cases hx)
theorem zwm (n times:Int) (H:zn) (K:KT) (h:zb1 n times H fun (r1:Int) (H':zn)=>K (.int .i64 r1) H'):zt Tryz.prog zb0 Tryz.f55 [.int .i64 n,.int .i64 times] H K:=by
 rw [z1dw]
 obtain ⟨pr0,pr1,pr2,hk⟩:=h
 have e:(z1b n times)=_:=rfl
 have e:=e.trans (zll n times)
 have g0:=Grow.refl H
 refine z1ds _ (fun (μ:Nat) (n_0:Int) (t6:Int) (H_1:zn)=>H=H_1∧(0:Int)≤t6∧((t6≤times∨t6≤(0:Int)))∧1≤n_0∧n_0≤16∧times-t6≤(μ:Int)∧z1b n times=z9k n times (μ+1) n_0 t6) (Int.toNat (times-(0:Int))) _ _ H ?_ ?_
 ·exact ⟨rfl,ω7,ω7,ω7,ω7,ω2,e⟩
 ·intro μ n_0 t6  H_1 hI
  obtain ⟨rfl,v_1,v_2,v_3,v_4,hμ,e⟩:=hI
  rw [z1dv]
  have e:=e.trans (zao n times μ n_0 t6)
  have l_5:=g0.1
  refine Br.intro (fun c_6=>?_) (fun c_6=>?_)
  ·have e:=e.trans (zw c_6)
   have c_6':=odt c_6
   rw [show IntKind.wrap .i64 (n_0+1)=(n_0+1) from zp ω2 ω2]
   have z7:=zca (n_0+1) 2
   refine ⟨ω22,?_⟩
   rw [show IntKind.wrap .i64 (Int.tdiv (n_0+1) 2)=(Int.tdiv (n_0+1) 2) from zp ω2 ω2]
   rw [show IntKind.wrap .i64 (t6+1)=(t6+1) from zp ω2 ω2]
   refine z1du (μ-1) ω16 ⟨rfl,ω1,ω1,ω1,ω1,ω16,ω13⟩
  ·have e:=e.trans (zv c_6)
   have c_6':=odf c_6
   rw [zwo]
   rw [e] at hk
   exact hk
theorem zwn:FnOk Tryz.prog 55 zut:=FnOk.bodyF mix_ok ztz Tryz.func55 rfl ω9 ω9 fun args H=>by
 unfold z17x
 split
 ·refine ⟨?_,?_,?_,?_,fun K hk=>zwm _ _ H K hk⟩
  ·intro K K' h hk;obtain ⟨pr0,pr1,pr2,k⟩:=hk;exact ⟨pr0,pr1,pr2,h _ _ k⟩
  ·intro _ K hk;obtain ⟨pr0,pr1,pr2,k⟩:=hk;exact ⟨_,k,fun K' k'=>⟨pr0,pr1,pr2,k'⟩⟩
  ·intro K hk;obtain ⟨pr0,pr1,pr2,k⟩:=hk;exact ⟨_,_,k⟩
  ·nofun
 ·exact Nice.no

def z8s (fa ia:Int) (da:LN) (x y wide high:Int):Bool:=(bif (z1o fa ia da) then (bif (z2c x (0:Int) (fa-1)) then (bif (z2c y (0:Int) (ia-1)) then (bif (z2c wide (1:Int) (IntKind.wrap .i64 (fa-x))) then (z2c high (1:Int) (IntKind.wrap .i64 (ia-y))) else false) else false) else false) else false)
def zei:=@z8s.eq_1
def zjb (fa ia:Int) (ja:OA) (sa ya:Nat) (x y wide high:Int) (H:zn) (K:Bool→zn→Prop):Prop:=∃da:LN,IsL fF H ja sa da∧da.length<1073741824∧((∀H':zn,Grow H H'→K (z8s fa ia da x y wide high) H'))
theorem zo8 {fa ia:Int} {ja:OA} {sa ya:Nat} {x y wide high:Int} {H:zn} {K:Bool→zn→Prop} (h:∃da:LN,IsL fF H ja sa da∧da.length<1073741824∧((∀H':zn,Grow H H'→K (z8s fa ia da x y wide high) H'))):zjb fa ia ja sa ya x y wide high H K:=h
theorem f17z_t {W H:Int} {l:LN} {x y w h:Int} (hh:z8s W H l x y w h=true):
  1≤W∧W≤16∧1≤H∧H≤16∧(l.length:Int)=W*H∧(l.length:Int)≤256∧0≤x∧0≤y∧1≤w∧1≤h∧x+w≤W∧y+h≤H:=by
 rw [zei] at hh
 simp only [Bool.cond_false_right,Bool.and_eq_true] at hh
 obtain ⟨a,b,c,d,e⟩:=hh
 have a:=f8z_t a
 have b:=z3g b
 have c:=z3g c
 have d:=z3g d
 have e:=z3g e
 rw [zp ω2 ω2] at d e
 omega
def zt4:Env:=envOf [(50,zmh),(68,zaa)]
def z17e (args:List Value) (H:zn):(Value→zn→Prop)→Prop:=match args with
 | [.agg ⟨[.int .i64 fa,.int .i64 ia,.slice ja sa ya]⟩,.int .i64 x,.int .i64 y,.int .i64 wide,.int .i64 high]=>fun K=>zjb fa ia ja sa ya x y wide high H fun (r1:Bool) (H':zn)=>K (.bool r1) H'
 | _=>fun _=>False
def zuo:FSpec:={F:=z17e,quiet:=false,tame:=true}
theorem f17z_vc (fa ia:Int) (ja:OA) (sa ya:Nat) (x y wide high:Int) (H:zn) (K:KT):zt Tryz.prog zt4 Tryz.f81 [.agg #[.int .i64 fa,.int .i64 ia,.slice ja sa ya],.int .i64 x,.int .i64 y,.int .i64 wide,.int .i64 high] H K=
 (Al [.int .i64 fa,.int .i64 ia,.slice ja sa ya] H fun b1 H1=>∃(c1 c2:Int),∃dh:OA,∃(fh eh:Nat),  rdN H1 b1 0 3=some [.int .i64 c1,.int .i64 c2,.slice dh fh eh]∧zht c1 c2 dh fh eh H1 fun (r1:Bool) (H2:zn)=>Br r1 (∃x1:Int,  rdC H2 b1 0=some (.int .i64 x1)∧z3f x 0 (IntKind.wrap .i64 (x1-1)) H2 fun (r2:Bool) (H3:zn)=>Br r2 (∃x2:Int,  rdC H3 b1 1=some (.int .i64 x2)∧z3f y 0 (IntKind.wrap .i64 (x2-1)) H3 fun (r3:Bool) (H4:zn)=>Br r3 (∃x3:Int,  rdC H4 b1 0=some (.int .i64 x3)∧z3f wide 1 (IntKind.wrap .i64 (x3-x)) H4 fun (r4:Bool) (H5:zn)=>Br r4 (∃x4:Int,  rdC H5 b1 1=some (.int .i64 x4)∧z3f high 1 (IntKind.wrap .i64 (x4-y)) H5 fun (r5:Bool) (H6:zn)=>K (.bool r5) H6) (K (.bool false) H5)) (K (.bool false) H4)) (K (.bool false) H3)) (K (.bool false) H2)):=by kernel_rfl
theorem zt5:∀g,FnOk Tryz.prog g (zt4 g):=FnOk.envOf (by
 intro x hx
 simp only [List.mem_cons,List.not_mem_nil,or_false] at hx
 rcases hx with rfl | rfl
 ·exact f8z_ok
 ·exact z7z)
theorem f17z_main (fa ia:Int) (ja:OA) (sa ya:Nat) (x y wide high:Int) (H:zn) (K:KT) (h:zjb fa ia ja sa ya x y wide high H fun (r1:Bool) (H':zn)=>K (.bool r1) H'):zt Tryz.prog zt4 Tryz.f81 [.agg #[.int .i64 fa,.int .i64 ia,.slice ja sa ya],.int .i64 x,.int .i64 y,.int .i64 wide,.int .i64 high] H K:=by
 rw [f17z_vc]
 obtain ⟨da,xd,bd_21,hk⟩:=h
 obtain rfl:=xd.eqn
 have e:(z8s fa ia da x y wide high)=_:=rfl
 have e:=e.trans (zei fa ia da x y wide high)
 have g0:=Grow.refl H
 refine Al.intro (fun b_1 H_1 hb_2 hl_3 g_4 o_5=>?_)
 have l_7:=g_4.1
 have g_8:=g0.trans g_4
 have l_9:=g_8.1
 have w20:=o_5.lt
 refine ⟨fa,ia,ja,da.length,ya,(o_5.rdN (nbl rfl)).trans rfl,?_⟩
 refine zbx ⟨_,(xd.grow g_8),ω0,fun  H_2 g_10  =>?_⟩
 have l_11:=g_10.1
 have g_12:=g_8.trans g_10
 have l_13:=g_12.1
 have o_14:=o_5.grow g_10
 have w15:=o_14.lt
 refine Br.intro (fun c_16=>?_) (fun c_16=>?_)
 ·have e:=e.trans (zw c_16)
  have c_16':=f8z_t c_16
  refine ⟨fa,(o_14.rdC _).trans rfl,?_⟩
  rw [show IntKind.wrap .i64 (fa-1)=(fa-1) from zp ω2 ω2]
  refine z4b ?_
  refine Br.intro (fun c_17=>?_) (fun c_17=>?_)
  ·have e:=e.trans (zw c_17)
   have c_17':=z3g c_17
   refine ⟨ia,(o_14.rdC _).trans rfl,?_⟩
   rw [show IntKind.wrap .i64 (ia-1)=(ia-1) from zp ω2 ω2]
   refine z4b ?_
   refine Br.intro (fun c_18=>?_) (fun c_18=>?_)
   ·have e:=e.trans (zw c_18)
    have c_18':=z3g c_18
    refine ⟨fa,(o_14.rdC _).trans rfl,?_⟩
    refine z4b ?_
    refine Br.intro (fun c_19=>?_) (fun c_19=>?_)
    ·have e:=e.trans (zw c_19)
     have c_19':=z3g c_19
     refine ⟨ia,(o_14.rdC _).trans rfl,?_⟩
     refine z4b ?_
     rw [e] at hk
     exact hk  H_2 g_12 
    ·have e:=e.trans (zv c_19)
     rw [e] at hk
     exact hk  H_2 g_12 
   ·have e:=e.trans (zv c_18)
    rw [e] at hk
    exact hk  H_2 g_12 
  ·have e:=e.trans (zv c_17)
   rw [e] at hk
   exact hk  H_2 g_12 
 ·have e:=e.trans (zv c_16)
  rw [e] at hk
  exact hk  H_2 g_12 
theorem f17z_ok:FnOk Tryz.prog 81 zuo:=FnOk.bodyF mix_ok zt5 Tryz.func81 rfl ω9 ω9 fun args H=>by
 unfold z17e
 split
 ·refine ⟨?_,?_,?_,?_,fun K hk=>f17z_main _ _ _ _ _ _ _ _ _ H K hk⟩
  ·intro K K' h hk;obtain ⟨da,xd,bd_21,k⟩:=hk;exact ⟨da,xd,bd_21,(fun  H' gg  =>h _ _ (k  H' gg))⟩
  ·nofun
  ·intro K hk;obtain ⟨da,xd,bd_21,k⟩:=hk;exact ⟨_,_,k H (Grow.refl H)⟩
  ·intro _ K hk;obtain ⟨da,xd,bd_21,k⟩:=hk;exact ⟨da,xd,bd_21,(fun  H' gg  =>⟨gg,k  H' gg⟩)⟩
 ·exact Nice.no

def p_f4z (u v sd gf:Int) (ld:LN) (cap1p cap2p:Int):Nat:=((ld).getD (((((((cap1p+v)*sd))+cap2p))+u):Int).toNat 0)
def z15p:=@p_f4z.eq_1
def T_f4z (u v:Int) (cap0 cap1 cap2:Nat) (H:zn) (K:Nat→zn→Prop):Prop:=∃(sd gf:Int),∃rf:OA,∃(dg bg:Nat),∃(cap1p cap2p:Int),∃ld:LN,rdN H cap0 0 3=some [.int .i64 sd,.int .i64 gf,.slice rf dg bg]∧rdN H cap1 0 1=some [.int .i64 cap1p]∧rdN H cap2 0 1=some [.int .i64 cap2p]∧IsL fF H rf dg ld∧ld.length<1073741824∧0≤u∧0≤v∧0≤cap1p∧0≤cap2p∧cap2p+u<sd∧cap1p+v<gf∧sd≤16∧gf≤16∧(ld.length:Int)=sd*gf∧K (p_f4z u v sd gf ld cap1p cap2p) H
def E_f4z:Env:=envOf []
def F_f4z (args:List Value) (H:zn):(Value→zn→Prop)→Prop:=match args with
 | [.int .i64 u,.int .i64 v,.pointer (some ⟨cap0,0,none⟩),.pointer (some ⟨cap1,0,none⟩),.pointer (some ⟨cap2,0,none⟩)]=>fun K=>T_f4z u v cap0 cap1 cap2 H fun (r1:Nat) (H':zn)=>K (.float .f32 r1) H'
 | _=>fun _=>False
def S_f4z:FSpec:={F:=F_f4z,quiet:=true,tame:=false}
theorem f4z_vc (u v:Int) (cap0 cap1 cap2:Nat) (H:zn) (K:KT):zt Tryz.prog E_f4z Tryz.f83 [.int .i64 u,.int .i64 v,.pointer (some ⟨cap0,0,none⟩),.pointer (some ⟨cap1,0,none⟩),.pointer (some ⟨cap2,0,none⟩)] H K=
 (∃vg:OA,∃(pg yg:Nat),  rdC H cap0 2=some (.slice vg pg yg)∧∃x2:Int,  rdC H cap1 0=some (.int .i64 x2)∧∃x3:Int,  rdC H cap0 0=some (.int .i64 x3)∧∃x4:Int,  rdC H cap2 0=some (.int .i64 x4)∧(0:Int)≤IntKind.wrap .i64 ((IntKind.wrap .i64 ((IntKind.wrap .i64 ((IntKind.wrap .i64 (x2+v))*x3))+x4))+u)∧IntKind.wrap .i64 ((IntKind.wrap .i64 ((IntKind.wrap .i64 ((IntKind.wrap .i64 (x2+v))*x3))+x4))+u)<(pg:Int)∧∃b1 f1,(vg:OA)=some ⟨b1,f1,none⟩∧∃x5:Nat,  rdC H b1 (f1+(IntKind.wrap .i64 ((IntKind.wrap .i64 ((IntKind.wrap .i64 ((IntKind.wrap .i64 (x2+v))*x3))+x4))+u):Int).toNat*1)=some (.float .f32 x5)∧K (.float .f32 x5) H):=by kernel_rfl
theorem zzk:∀g,FnOk Tryz.prog g (E_f4z g):=FnOk.envOf (by
 intro x hx;cases hx)
theorem f4z_main (u v:Int) (cap0 cap1 cap2:Nat) (H:zn) (K:KT) (h:T_f4z u v cap0 cap1 cap2 H fun (r1:Nat) (H':zn)=>K (.float .f32 r1) H'):zt Tryz.prog E_f4z Tryz.f83 [.int .i64 u,.int .i64 v,.pointer (some ⟨cap0,0,none⟩),.pointer (some ⟨cap1,0,none⟩),.pointer (some ⟨cap2,0,none⟩)] H K:=by
 rw [f4z_vc]
 obtain ⟨sd,gf,rf,dg,bg,cap1p,cap2p,ld,i_cap0,i_cap1,i_cap2,fg,bd_4,pr0,pr1,pr2,pr3,pr4,pr5,pr6,pr7,pr8,hk⟩:=h
 obtain rfl:=fg.eqn
 have zz:=zoy (x:=cap2p) (y:=cap1p) (u:=u) (v:=v) (W:=sd) (H:=gf) ω2 ω2 ω2 ω2 ω2 ω2
 have e:(p_f4z u v sd gf ld cap1p cap2p)=_:=rfl
 have e:=e.trans (z15p u v sd gf ld cap1p cap2p)
 have g0:=Grow.refl H
 refine ⟨rf,ld.length,bg,(z1g (zq g0 i_cap0) 2 (nbl rfl)).trans rfl,?_⟩
 refine ⟨cap1p,(z1g (zq g0 i_cap1) 0 (nbl rfl)).trans rfl,?_⟩
 rw [show IntKind.wrap .i64 (cap1p+v)=(cap1p+v) from zp ω2 ω2]
 refine ⟨sd,(z1g (zq g0 i_cap0) 0 (nbl rfl)).trans rfl,?_⟩
 rw [show IntKind.wrap .i64 ((cap1p+v)*sd)=((cap1p+v)*sd) from zp ω2 ω2]
 refine ⟨cap2p,(z1g (zq g0 i_cap2) 0 (nbl rfl)).trans rfl,?_⟩
 rw [show IntKind.wrap .i64 ((((cap1p+v)*sd))+cap2p)=((((cap1p+v)*sd))+cap2p) from zp ω2 ω2]
 rw [show IntKind.wrap .i64 ((((((cap1p+v)*sd))+cap2p))+u)=((((((cap1p+v)*sd))+cap2p))+u) from zp ω2 ω2]
 obtain ⟨b_1,f_2,q_3⟩:=((fg.grow g0)).pos ω0
 refine ⟨by omega,by omega,b_1,f_2,q_3,?_⟩
 refine ⟨((ld).getD (((((((cap1p+v)*sd))+cap2p))+u):Int).toNat 0),(fg).rd g0 q_3 ω2 _,?_⟩
 rw [e] at hk
 exact hk
theorem f4z_ok:FnOk Tryz.prog 83 S_f4z:=FnOk.bodyF mix_ok zzk Tryz.func83 rfl ω9 ω9 fun args H=>by
 unfold F_f4z
 split
 ·refine ⟨?_,?_,?_,?_,fun K hk=>f4z_main _ _ _ _ _ H K hk⟩
  ·intro K K' h hk;obtain ⟨sd,gf,rf,dg,bg,cap1p,cap2p,ld,i_cap0,i_cap1,i_cap2,fg,bd_4,pr0,pr1,pr2,pr3,pr4,pr5,pr6,pr7,pr8,k⟩:=hk;exact ⟨sd,gf,rf,dg,bg,cap1p,cap2p,ld,i_cap0,i_cap1,i_cap2,fg,bd_4,pr0,pr1,pr2,pr3,pr4,pr5,pr6,pr7,pr8,h _ _ k⟩
  ·intro _ K hk;obtain ⟨sd,gf,rf,dg,bg,cap1p,cap2p,ld,i_cap0,i_cap1,i_cap2,fg,bd_4,pr0,pr1,pr2,pr3,pr4,pr5,pr6,pr7,pr8,k⟩:=hk;exact ⟨_,k,fun K' k'=>⟨sd,gf,rf,dg,bg,cap1p,cap2p,ld,i_cap0,i_cap1,i_cap2,fg,bd_4,pr0,pr1,pr2,pr3,pr4,pr5,pr6,pr7,pr8,k'⟩⟩
  ·intro K hk;obtain ⟨sd,gf,rf,dg,bg,cap1p,cap2p,ld,i_cap0,i_cap1,i_cap2,fg,bd_4,pr0,pr1,pr2,pr3,pr4,pr5,pr6,pr7,pr8,k⟩:=hk;exact ⟨_,_,k⟩
  ·nofun
 ·exact Nice.no
theorem z16p {x y W H:Int} (h1:0≤x) (h2:0≤y) (h3:x<H) (h4:y<W) (hW:W≤16) (hH:H≤16):0≤x*W∧x*W≤256∧x*W+y<W*H:=by
 have a:0≤x*W:=Int.mul_nonneg h1 ω2
 have b:(x+1)*W≤H*W:=Int.mul_le_mul_of_nonneg_right ω2 ω2
 have c:(x+1)*W=x*W+W:=by rw [Int.add_mul,Int.one_mul]
 have d:H*W≤16*16:=Int.mul_le_mul ω2 ω2 ω2 ω20
 have e:H*W=W*H:=Int.mul_comm _ _
 refine ⟨a,by omega,by omega⟩
def p_fcz (x y sd gf:Int) (ld:LN):Nat:=((ld).getD (((x*sd)+y):Int).toNat 0)
def z15r:=@p_fcz.eq_1
def T_fcz (x y:Int) (cap0:Nat) (H:zn) (K:Nat→zn→Prop):Prop:=∃(sd gf:Int),∃rf:OA,∃(dg bg:Nat),∃ld:LN,rdN H cap0 0 3=some [.int .i64 sd,.int .i64 gf,.slice rf dg bg]∧IsL fF H rf dg ld∧ld.length<1073741824∧0≤x∧0≤y∧x<gf∧y<sd∧sd≤16∧gf≤16∧(ld.length:Int)=sd*gf∧K (p_fcz x y sd gf ld) H
def E_fcz:Env:=envOf []
def F_fcz (args:List Value) (H:zn):(Value→zn→Prop)→Prop:=match args with
 | [.int .i64 x,.int .i64 y,.pointer (some ⟨cap0,0,none⟩)]=>fun K=>T_fcz x y cap0 H fun (r1:Nat) (H':zn)=>K (.float .f32 r1) H'
 | _=>fun _=>False
def S_fcz:FSpec:={F:=F_fcz,quiet:=true,tame:=false}
theorem z1hn (x y:Int) (cap0:Nat) (H:zn) (K:KT):zt Tryz.prog E_fcz Tryz.f84 [.int .i64 x,.int .i64 y,.pointer (some ⟨cap0,0,none⟩)] H K=
 (∃vg:OA,∃(pg yg:Nat),  rdC H cap0 2=some (.slice vg pg yg)∧∃x2:Int,  rdC H cap0 0=some (.int .i64 x2)∧(0:Int)≤IntKind.wrap .i64 ((IntKind.wrap .i64 (x*x2))+y)∧IntKind.wrap .i64 ((IntKind.wrap .i64 (x*x2))+y)<(pg:Int)∧∃b1 f1,(vg:OA)=some ⟨b1,f1,none⟩∧∃x3:Nat,  rdC H b1 (f1+(IntKind.wrap .i64 ((IntKind.wrap .i64 (x*x2))+y):Int).toNat*1)=some (.float .f32 x3)∧K (.float .f32 x3) H):=by kernel_rfl
theorem zzs:∀g,FnOk Tryz.prog g (E_fcz g):=FnOk.envOf (by
 intro x hx;cases hx)
theorem z13c (x y:Int) (cap0:Nat) (H:zn) (K:KT) (h:T_fcz x y cap0 H fun (r1:Nat) (H':zn)=>K (.float .f32 r1) H'):zt Tryz.prog E_fcz Tryz.f84 [.int .i64 x,.int .i64 y,.pointer (some ⟨cap0,0,none⟩)] H K:=by
 rw [z1hn]
 obtain ⟨sd,gf,rf,dg,bg,ld,i_cap0,fg,bd_4,pr0,pr1,pr2,pr3,pr4,pr5,pr6,hk⟩:=h
 obtain rfl:=fg.eqn
 have zz:=z16p (x:=x) (y:=y) (W:=sd) (H:=gf) ω2 ω2 ω2 ω2 ω2 ω2
 have e:(p_fcz x y sd gf ld)=_:=rfl
 have e:=e.trans (z15r x y sd gf ld)
 have g0:=Grow.refl H
 refine ⟨rf,ld.length,bg,(z1g (zq g0 i_cap0) 2 (nbl rfl)).trans rfl,?_⟩
 refine ⟨sd,(z1g (zq g0 i_cap0) 0 (nbl rfl)).trans rfl,?_⟩
 rw [show IntKind.wrap .i64 (x*sd)=(x*sd) from zp ω2 ω2]
 rw [show IntKind.wrap .i64 ((x*sd)+y)=((x*sd)+y) from zp ω2 ω2]
 obtain ⟨b_1,f_2,q_3⟩:=((fg.grow g0)).pos ω0
 refine ⟨by omega,by omega,b_1,f_2,q_3,?_⟩
 refine ⟨((ld).getD (((x*sd)+y):Int).toNat 0),(fg).rd g0 q_3 ω2 _,?_⟩
 rw [e] at hk
 exact hk
theorem z1hm:FnOk Tryz.prog 84 S_fcz:=FnOk.bodyF mix_ok zzs Tryz.func84 rfl ω9 ω9 fun args H=>by
 unfold F_fcz
 split
 ·refine ⟨?_,?_,?_,?_,fun K hk=>z13c _ _ _ H K hk⟩
  ·intro K K' h hk;obtain ⟨sd,gf,rf,dg,bg,ld,i_cap0,fg,bd_4,pr0,pr1,pr2,pr3,pr4,pr5,pr6,k⟩:=hk;exact ⟨sd,gf,rf,dg,bg,ld,i_cap0,fg,bd_4,pr0,pr1,pr2,pr3,pr4,pr5,pr6,h _ _ k⟩
  ·intro _ K hk;obtain ⟨sd,gf,rf,dg,bg,ld,i_cap0,fg,bd_4,pr0,pr1,pr2,pr3,pr4,pr5,pr6,k⟩:=hk;exact ⟨_,k,fun K' k'=>⟨sd,gf,rf,dg,bg,ld,i_cap0,fg,bd_4,pr0,pr1,pr2,pr3,pr4,pr5,pr6,k'⟩⟩
  ·intro K hk;obtain ⟨sd,gf,rf,dg,bg,ld,i_cap0,fg,bd_4,pr0,pr1,pr2,pr3,pr4,pr5,pr6,k⟩:=hk;exact ⟨_,_,k⟩
  ·nofun
 ·exact Nice.no

def za3 (fa ia:Int) (da:LN):Int×Int×LN×Bool:=(bif !(z1o fa ia da) then ((0:Int),(0:Int),[],false) else (fa,ia,da,true))
def z4t:=@za3.eq_1
def zv1 (fa ia:Int) (ja:OA) (sa ya:Nat) (H:zn) (K:Int→Int→OA→Nat→Nat→Bool→zn→Prop):Prop:=∃da:LN,IsL fF H ja sa da∧da.length<1073741824∧((∀H':zn,Grow H H'→Br ((za3 fa ia da).2.2.2) (K fa ia ja sa ya true H') (K 0 0 none 0 0 false H')))
theorem zv2 {fa ia:Int} {ja:OA} {sa ya:Nat} {H:zn} {K:Int→Int→OA→Nat→Nat→Bool→zn→Prop} (h:∃da:LN,IsL fF H ja sa da∧da.length<1073741824∧((∀H':zn,Grow H H'→Br ((za3 fa ia da).2.2.2) (K fa ia ja sa ya true H') (K 0 0 none 0 0 false H')))):zv1 fa ia ja sa ya H K:=h

def E_f9z:Env:=envOf [(50,zmh)]
def F_f9z (args:List Value) (H:zn):(Value→zn→Prop)→Prop:=match args with
 | [.agg ⟨[.int .i64 fa,.int .i64 ia,.slice ja sa ya]⟩]=>fun K=>zv1 fa ia ja sa ya H fun (xc:Int) (vc:Int) (ta:OA) (xa:Nat) (ua:Nat) (r2:Bool) (H':zn)=>K (.tuple #[.agg #[.int .i64 xc,.int .i64 vc,.slice ta xa ua],.bool r2]) H'
 | _=>fun _=>False
def S_f9z:FSpec:={F:=F_f9z,quiet:=false,tame:=true}
theorem f9z_vc (fa ia:Int) (ja:OA) (sa ya:Nat) (H:zn) (K:KT):zt Tryz.prog E_f9z Tryz.f113 [.agg #[.int .i64 fa,.int .i64 ia,.slice ja sa ya]] H K=
 (Al [.int .i64 fa,.int .i64 ia,.slice ja sa ya] H fun b1 H1=>Al [.int .i64 0,.int .i64 0,.slice none 0 0] H1 fun b2 H2=>∃(c1 c2:Int),∃dh:OA,∃(fh eh:Nat),  rdN H2 b1 0 3=some [.int .i64 c1,.int .i64 c2,.slice dh fh eh]∧zht c1 c2 dh fh eh H2 fun (r1:Bool) (H3:zn)=>Br (!r1) (isOwn H3 b2∧(∃l,rdN H3 b2 0 3=some l)∧Lt (setN H3 b2 0 [.int .i64 0,.int .i64 0,.slice none 0 0]) fun H4=>∃(c4 c5:Int),∃qh:OA,∃(th sh:Nat),  rdN H4 b2 0 3=some [.int .i64 c4,.int .i64 c5,.slice qh th sh]∧K (.tuple #[.agg #[.int .i64 c4,.int .i64 c5,.slice qh th sh],.bool false]) H4) (∃(c7 c8:Int),∃ei:OA,∃(gi fi:Nat),  rdN H3 b1 0 3=some [.int .i64 c7,.int .i64 c8,.slice ei gi fi]∧isOwn H3 b2∧(∃l,rdN H3 b2 0 3=some l)∧Lt (setN H3 b2 0 [.int .i64 c7,.int .i64 c8,.slice ei gi fi]) fun H5=>∃(c10 c11:Int),∃ri:OA,∃(ti si:Nat),  rdN H5 b2 0 3=some [.int .i64 c10,.int .i64 c11,.slice ri ti si]∧K (.tuple #[.agg #[.int .i64 c10,.int .i64 c11,.slice ri ti si],.bool true]) H5)):=by kernel_rfl
theorem zzp:∀g,FnOk Tryz.prog g (E_f9z g):=FnOk.envOf (by
 intro x hx
 simp only [List.mem_cons,List.not_mem_nil,or_false] at hx
 subst hx;exact f8z_ok)
theorem f9z_main (fa ia:Int) (ja:OA) (sa ya:Nat) (H:zn) (K:KT) (h:zv1 fa ia ja sa ya H fun (xc:Int) (vc:Int) (ta:OA) (xa:Nat) (ua:Nat) (r2:Bool) (H':zn)=>K (.tuple #[.agg #[.int .i64 xc,.int .i64 vc,.slice ta xa ua],.bool r2]) H'):zt Tryz.prog E_f9z Tryz.f113 [.agg #[.int .i64 fa,.int .i64 ia,.slice ja sa ya]] H K:=by
 rw [f9z_vc]
 obtain ⟨da,xd,bd_50,hk⟩:=h
 obtain rfl:=xd.eqn
 have e:(za3 fa ia da)=_:=rfl
 have e:=e.trans (z4t fa ia da)
 have g0:=Grow.refl H
 refine Al.intro (fun b_1 H_1 hb_2 hl_3 g_4 o_5=>?_)
 have l_7:=g_4.1
 have g_8:=g0.trans g_4
 have l_9:=g_8.1
 have w49:=o_5.lt
 refine Al.intro (fun b_10 H_2 hb_11 hl_12 g_13 o_14=>?_)
 have l_16:=g_13.1
 have g_17:=g_8.trans g_13
 have l_18:=g_17.1
 have o_19:=o_5.grow g_13
 have w20:=o_19.lt
 have w48:=o_14.lt
 refine ⟨fa,ia,ja,da.length,ya,(o_19.rdN (nbl rfl)).trans rfl,?_⟩
 refine zbx ⟨_,(xd.grow g_17),ω0,fun  H_3 g21  =>?_⟩
 have l_22:=g21.1
 have g23:=g_17.trans g21
 have l24:=g23.1
 have o25:=o_19.grow g21
 have w26:=o25.lt
 have o27:=o_14.grow g21
 have w28:=o27.lt
 refine Br.intro (fun c_29=>?_) (fun c_29=>?_)
 ·have e:=e.trans (zw c_29)
  have c_29n:=z1e c_29
  refine Lt.setN (n:=3) o27 (nbl rfl) rfl (fun H_4 hl_30 o32 k31=>?_)
  have o32:Own H_4 b_10 [.int .i64 0,.int .i64 0,.slice none 0 0]:=o32
  have l33:=k31.1
  have g34:=g23.keep (b:=b_10) ω2 k31
  have l35:=g34.1
  have o36:=o25.keep ω2 k31
  have w37:=o36.lt
  have w38:=o32.lt
  refine ⟨0,0,none,0,0,(o32.rdN (nbl rfl)).trans rfl,?_⟩
  have q:=hk H_4 g34
  rw [e] at q
  exact q
 ·have e:=e.trans (zv c_29)
  have c_29n:=z1a c_29
  have c_29n':=f8z_t c_29n
  refine ⟨fa,ia,ja,da.length,ya,(o25.rdN (nbl rfl)).trans rfl,?_⟩
  refine Lt.setN (n:=3) o27 (nbl rfl) rfl (fun H_5 hl_39 o41 k40=>?_)
  have o41:Own H_5 b_10 [.int .i64 fa,.int .i64 ia,.slice ja da.length ya]:=o41
  have l42:=k40.1
  have g43:=g23.keep (b:=b_10) ω2 k40
  have l44:=g43.1
  have o45:=o25.keep ω2 k40
  have w46:=o45.lt
  have w47:=o41.lt
  refine ⟨fa,ia,ja,da.length,ya,(o41.rdN (nbl rfl)).trans rfl,?_⟩
  have q:=hk H_5 g43
  rw [e] at q
  exact q
theorem f9z_ok:FnOk Tryz.prog 113 S_f9z:=FnOk.bodyF mix_ok zzp Tryz.func113 rfl ω9 ω9 fun args H=>by
 unfold F_f9z
 split
 ·refine ⟨?_,?_,?_,?_,fun K hk=>f9z_main _ _ _ _ _ H K hk⟩
  ·intro K K' h hk;obtain ⟨da,xd,bd_50,k⟩:=hk;exact ⟨da,xd,bd_50,(fun H' gg=>zhn (h _ _) (h _ _) (k H' gg))⟩
  ·nofun
  ·intro K hk;obtain ⟨da,xd,bd_50,k⟩:=hk;exact zss (k H (Grow.refl H))
  ·intro _ K hk;obtain ⟨da,xd,bd_50,k⟩:=hk;exact ⟨da,xd,bd_50,(fun H' gg=>zhn (fun q=>⟨gg,q⟩) (fun q=>⟨gg,q⟩) (k H' gg))⟩
 ·exact Nice.no
def zho (env:Env) (x:Value) (H:zn) (wide high:Int) (g:Int→Int→Nat):Prop:=
 ∀(u v:Int),0≤u→u<wide→0≤v→v<high→wide≤16→high≤16→∀(H1:zn),Grow H H1→∀K:Value→zn→Prop,(∀H2:zn,Grow H1 H2→K (.float .f32 (g u v)) H2)→zfj env x [.int .i64 u,.int .i64 v] H1 K
def z9n (wide high:Int) (g:Int→Int→Nat):Int×Int×LN×Bool:=bif z2c wide 1 16 then (bif z2c high 1 16 then za3 wide high (picL wide.toNat high.toNat g) else (0,0,[],false)) else (0,0,[],false)
def z6h:Env:=envOf [(999999,zex),(68,zaa),(83,S_f4z),(84,S_fcz),(113,S_f9z)]
def zvc (wide high:Int) (light_f:Fn) (light_x light_y:Array Value) (H:zn) (K:Int→Int→OA→Nat→Nat→Bool→zn→Prop):Prop:=
 ∃(g:Int→Int→Nat),valQ z6h (.func light_f light_x light_y)=true∧zho z6h (.func light_f light_x light_y) H wide high g∧
  (∀(jd:OA) (pd od:Nat),∀H':zn,Grow H H'→OwnS fF H' H.length jd pd od ((z9n wide high g).2.2.1)→K ((z9n wide high g).1) ((z9n wide high g).2.1) jd pd od ((z9n wide high g).2.2.2) H')
theorem zvd {wide high:Int} {light_f:Fn} {light_x light_y:Array Value} {H:zn} {K:Int→Int→OA→Nat→Nat→Bool→zn→Prop} (h:∃(g:Int→Int→Nat),valQ z6h (.func light_f light_x light_y)=true∧zho z6h (.func light_f light_x light_y) H wide high g∧
  (∀(jd:OA) (pd od:Nat),∀H':zn,Grow H H'→OwnS fF H' H.length jd pd od ((z9n wide high g).2.2.1)→K ((z9n wide high g).1) ((z9n wide high g).2.1) jd pd od ((z9n wide high g).2.2.2) H')):zvc wide high light_f light_x light_y H K:=h
theorem zbt (wide high:Int) (g:Int→Int→Nat):((z9n wide high g).2.2.1.length:Int)≤256:=by
 unfold z9n
 cases h1:z2c wide 1 16 with
 | false=>show ((0:Nat):Int)≤256;omega
 | true=>
  cases h2:z2c high 1 16 with
  | false=>show ((0:Nat):Int)≤256;omega
  | true=>
   have w1:=z3g h1
   have w2:=z3g h2
   rw [cond_true,cond_true,z4t]
   cases !(z1o wide high (picL wide.toNat high.toNat g)) with
   | true=>show ((0:Nat):Int)≤256;omega
   | false=>
    show ((picL wide.toNat high.toNat g).length:Int)≤256
    rw [z2u]
    have:high.toNat*wide.toNat≤16*16:=Nat.mul_le_mul ω2 ω2
    omega
theorem zyt (u:Nat) (F:Int→Nat):rowL (u+1) F=rowL u F++[F (u:Int)]:=by
 unfold rowL
 rw [List.range_succ,List.map_append];rfl
def F_fpz (args:List Value) (H:zn):(Value→zn→Prop)→Prop:=match args with
 | [.int .i64 wide,.int .i64 high,.func light_f light_x light_y]=>fun K=>zvc wide high light_f light_x light_y H fun (xc:Int) (vc:Int) (ta:OA) (xa:Nat) (ua:Nat) (r2:Bool) (H':zn)=>K (.tuple #[.agg #[.int .i64 xc,.int .i64 vc,.slice ta xa ua],.bool r2]) H'
 | _=>fun _=>False
def S_fpz:FSpec:={F:=F_fpz,quiet:=false,tame:=true}
theorem z1ji (wide high:Int) (light_f:Fn) (light_x:Array Value) (light_y:Array Value) (H:zn) (K:KT):zt Tryz.prog z6h Tryz.f82 [.int .i64 wide,.int .i64 high,.func light_f light_x light_y] H K=
 (Al [.int .i64 0,.int .i64 0,.slice none 0 0] H fun b1 H1=>z3f wide 1 16 H1 fun (r1:Bool) (H2:zn)=>Br (!r1) (isOwn H2 b1∧(∃l,rdN H2 b1 0 3=some l)∧Lt (setN H2 b1 0 [.int .i64 0,.int .i64 0,.slice none 0 0]) fun H3=>∃(c1 c2:Int),∃dh:OA,∃(fh eh:Nat),  rdN H3 b1 0 3=some [.int .i64 c1,.int .i64 c2,.slice dh fh eh]∧K (.tuple #[.agg #[.int .i64 c1,.int .i64 c2,.slice dh fh eh],.bool false]) H3) (z3f high 1 16 H2 fun (r2:Bool) (H4:zn)=>Br (!r2) (isOwn H4 b1∧(∃l,rdN H4 b1 0 3=some l)∧Lt (setN H4 b1 0 [.int .i64 0,.int .i64 0,.slice none 0 0]) fun H5=>∃(c4 c5:Int),∃qh:OA,∃(th sh:Nat),  rdN H5 b1 0 3=some [.int .i64 c4,.int .i64 c5,.slice qh th sh]∧K (.tuple #[.agg #[.int .i64 c4,.int .i64 c5,.slice qh th sh],.bool false]) H5) (Al [.int .i64 0,.int .i64 0,.slice none 0 0] H4 fun b2 H6=>isOwn H6 b2∧(∃l,rdN H6 b2 0 3=some l)∧Lt (setN H6 b2 0 [.int .i64 wide,.int .i64 high,.slice none 0 0]) fun H7=>z1j (exL Tryz.prog z6h (cl (cl (cr (cl (cr (cr (cr (zo Tryz.f82)))))))) 25166149 192 [(0,320)]) (.int .i64 wide::ud::.func light_f light_x light_y::ud3 (.pointer (some ⟨b1,0,none⟩)::ud::.pointer (some ⟨b2,0,none⟩)::ud14 (.int .i64 high::.int .i64 0::ud21 []))) H7 (zu 0 (seqQ (exL Tryz.prog z6h (cr (cr (cr (cr (zo Tryz.f82))))) 192 192 []) (retK Tryz.prog Tryz.f82 K)))))):=by kernel_rfl
abbrev zkl (b1 b2:Nat) (high:Int) (light_f:Fn) (light_x:Array Value) (light_y:Array Value) (wide t24:Int)  :List Value:=(.int .i64 wide::ud::.func light_f light_x light_y::ud3 (.pointer (some ⟨b1,0,none⟩)::ud::.pointer (some ⟨b2,0,none⟩)::ud14 (.int .i64 high::.int .i64 t24::ud21 [])))
theorem z1jg (b1 b2:Nat) (high:Int) (light_f:Fn) (light_x:Array Value) (light_y:Array Value) (wide t24:Int)  (H:zn) (R:Post):exL Tryz.prog z6h (cl (cl (cr (cl (cr (cr (cr (zo Tryz.f82)))))))) 25166149 192 [(0,320)] (zkl b1 b2 high light_f light_x light_y wide t24) H R=
 (Br (decide ((t24:Int)<high)) (z1j (exL Tryz.prog z6h (cl (cl (cr (cr (cl (cl (cr (cr (cl (cl (cr (cl (cr (cr (cr (zo Tryz.f82)))))))))))))))) 427819845 192 [(2,25166149),(1,25166149),(0,320)]) (.int .i64 wide::ud::.func light_f light_x light_y::ud3 (.pointer (some ⟨b1,0,none⟩)::ud::.pointer (some ⟨b2,0,none⟩)::.int .i64 t24::ud13 (.int .i64 high::.int .i64 t24::ud2 (.int .i64 wide::.int .i64 0::ud17 [])))) H (zu 2 (zu 1 (seqQ (exL Tryz.prog z6h (cr (cr (cr (cl (cl (cr (cl (cr (cr (cr (zo Tryz.f82))))))))))) 25166149 192 [(0,320)]) (R))))) (R (.exit 0) (ud6 (.pointer (some ⟨b1,0,none⟩)::ud::.pointer (some ⟨b2,0,none⟩)::ud37 [])) H)):=by kernel_rfl
def zxg (b1 b2:Nat) (high:Int) (light_f:Fn) (light_x:Array Value) (light_y:Array Value) (wide:Int) (Inv:Nat→Int→zn→Prop):Nat→List Value→zn→Prop:=fun μ tm H=>∃t24:Int,tm=(zkl b1 b2 high light_f light_x light_y wide t24)∧Inv μ t24 H
theorem z1jc (b1 b2:Nat) (high:Int) (light_f:Fn) (light_x:Array Value) (light_y:Array Value) (wide:Int) {Q:Post} (Inv:Nat→Int→zn→Prop) (ν:Nat) (t24:Int)  (H:zn) (h0:Inv ν t24 H)
  (hs:∀(μ:Nat) (t24:Int)  (H:zn),Inv μ t24 H→exL Tryz.prog z6h (cl (cl (cr (cl (cr (cr (cr (zo Tryz.f82)))))))) 25166149 192 [(0,320)] (zkl b1 b2 high light_f light_x light_y wide t24) H (zx (zxg b1 b2 high light_f light_x light_y wide Inv) μ Q)):z1j (exL Tryz.prog z6h (cl (cl (cr (cl (cr (cr (cr (zo Tryz.f82)))))))) 25166149 192 [(0,320)]) (zkl b1 b2 high light_f light_x light_y wide t24) H Q:=
 ⟨zxg b1 b2 high light_f light_x light_y wide Inv,ν,⟨t24,rfl,h0⟩,fun μ tm H h=>by obtain ⟨t24,rfl,hI⟩:=h;exact hs μ t24  H hI⟩
theorem z1je {b1 b2:Nat} {high:Int} {light_f:Fn} {light_x:Array Value} {light_y:Array Value} {wide:Int} {Q:Post} {Inv:Nat→Int→zn→Prop} {μ:Nat} (μ':Nat) {t24:Int}  {H:zn} (hm:μ'<μ) (hI:Inv μ' t24 H):zx (zxg b1 b2 high light_f light_x light_y wide Inv) μ Q .normal (zkl b1 b2 high light_f light_x light_y wide t24) H:=⟨μ',hm,t24,rfl,hI⟩
theorem z14h (b1 b2:Nat) (H:zn) (K:KT)  {I:Nat→List Value→zn→Prop} {μ:Nat}:zx I μ (zu 0 (seqQ (exL Tryz.prog z6h (cr (cr (cr (cr (zo Tryz.f82))))) 192 192 []) (retK Tryz.prog Tryz.f82 K))) (.exit 0) (ud6 (.pointer (some ⟨b1,0,none⟩)::ud::.pointer (some ⟨b2,0,none⟩)::ud37 [])) H=
 (∃(c7 c8:Int),∃ei:OA,∃(gi fi:Nat),  rdN H b2 0 3=some [.int .i64 c7,.int .i64 c8,.slice ei gi fi]∧zv1 c7 c8 ei gi fi H fun (r3:Int) (r4:Int) (a1:OA) (r5:Nat) (r6:Nat) (r7:Bool) (H12:zn)=>isOwn H12 b1∧(∃l,rdN H12 b1 0 3=some l)∧Lt (setN H12 b1 0 [.int .i64 r3,.int .i64 r4,.slice a1 r5 r6]) fun H13=>∃(c10 c11:Int),∃ri:OA,∃(ti si:Nat),  rdN H13 b1 0 3=some [.int .i64 c10,.int .i64 c11,.slice ri ti si]∧K (.tuple #[.agg #[.int .i64 c10,.int .i64 c11,.slice ri ti si],.bool r7]) H13):=by kernel_rfl
abbrev zkm (b1 b2:Nat) (high:Int) (light_f:Fn) (light_x:Array Value) (light_y:Array Value) (t24 wide t28:Int)  :List Value:=(.int .i64 wide::ud::.func light_f light_x light_y::ud3 (.pointer (some ⟨b1,0,none⟩)::ud::.pointer (some ⟨b2,0,none⟩)::.int .i64 t24::ud13 (.int .i64 high::.int .i64 t24::ud2 (.int .i64 wide::.int .i64 t28::ud17 []))))
theorem z1jh (b1 b2:Nat) (high:Int) (light_f:Fn) (light_x:Array Value) (light_y:Array Value) (t24 wide t28:Int)  (H:zn) (R:Post):exL Tryz.prog z6h (cl (cl (cr (cr (cl (cl (cr (cr (cl (cl (cr (cl (cr (cr (cr (zo Tryz.f82)))))))))))))))) 427819845 192 [(2,25166149),(1,25166149),(0,320)] (zkm b1 b2 high light_f light_x light_y t24 wide t28) H R=
 (Br (decide ((t28:Int)<wide)) (∃vg:OA,∃(pg yg:Nat),  rdC H b2 2=some (.slice vg pg yg)∧chk (valQ z6h (.func light_f light_x light_y)) (zfj z6h (.func light_f light_x light_y) [.int .i64 t28,.int .i64 t24] H fun (w1:Value) (H8:zn)=>bsV (.float .f32 0) w1 H8 fun b3 H9=>∃o1 w2:List Value,ownB H9 vg pg yg 1=some o1∧rdS H9 (some ⟨b3,0,none⟩) (1*1)=some w2∧((vg:OA)=none→0<(1:Nat))∧(pg:Nat)+1<most∧Ap H9 (z2s H9 vg++[some ⟨o1++w2,true⟩]) fun b4 H10=>isOwn H10 b2∧(∃l,rdN H10 b2 2 1=some l)∧Lt (setC H10 b2 2 (.slice (some ⟨b4,0,none⟩) (pg+1) 1)) fun H11=>R .normal (.int .i64 wide::ud::.func light_f light_x light_y::ud3 (.pointer (some ⟨b1,0,none⟩)::ud::.pointer (some ⟨b2,0,none⟩)::.int .i64 t24::ud13 (.int .i64 high::.int .i64 t24::ud2 (.int .i64 wide::.int .i64 (IntKind.wrap .i64 (t28+1))::ud17 [])))) H11)) (R (.exit 2) (.int .i64 wide::ud::.func light_f light_x light_y::ud3 (.pointer (some ⟨b1,0,none⟩)::ud::.pointer (some ⟨b2,0,none⟩)::ud14 (.int .i64 high::.int .i64 t24::ud21 []))) H)):=by kernel_rfl
def zxh (b1 b2:Nat) (high:Int) (light_f:Fn) (light_x:Array Value) (light_y:Array Value) (t24 wide:Int) (Inv:Nat→Int→zn→Prop):Nat→List Value→zn→Prop:=fun μ tm H=>∃t28:Int,tm=(zkm b1 b2 high light_f light_x light_y t24 wide t28)∧Inv μ t28 H
theorem z1jd (b1 b2:Nat) (high:Int) (light_f:Fn) (light_x:Array Value) (light_y:Array Value) (t24 wide:Int) {Q:Post} (Inv:Nat→Int→zn→Prop) (ν:Nat) (t28:Int)  (H:zn) (h0:Inv ν t28 H)
  (hs:∀(μ:Nat) (t28:Int)  (H:zn),Inv μ t28 H→exL Tryz.prog z6h (cl (cl (cr (cr (cl (cl (cr (cr (cl (cl (cr (cl (cr (cr (cr (zo Tryz.f82)))))))))))))))) 427819845 192 [(2,25166149),(1,25166149),(0,320)] (zkm b1 b2 high light_f light_x light_y t24 wide t28) H (zx (zxh b1 b2 high light_f light_x light_y t24 wide Inv) μ Q)):z1j (exL Tryz.prog z6h (cl (cl (cr (cr (cl (cl (cr (cr (cl (cl (cr (cl (cr (cr (cr (zo Tryz.f82)))))))))))))))) 427819845 192 [(2,25166149),(1,25166149),(0,320)]) (zkm b1 b2 high light_f light_x light_y t24 wide t28) H Q:=
 ⟨zxh b1 b2 high light_f light_x light_y t24 wide Inv,ν,⟨t28,rfl,h0⟩,fun μ tm H h=>by obtain ⟨t28,rfl,hI⟩:=h;exact hs μ t28  H hI⟩
theorem z1jf {b1 b2:Nat} {high:Int} {light_f:Fn} {light_x:Array Value} {light_y:Array Value} {t24 wide:Int} {Q:Post} {Inv:Nat→Int→zn→Prop} {μ:Nat} (μ':Nat) {t28:Int}  {H:zn} (hm:μ'<μ) (hI:Inv μ' t28 H):zx (zxh b1 b2 high light_f light_x light_y t24 wide Inv) μ Q .normal (zkm b1 b2 high light_f light_x light_y t24 wide t28) H:=⟨μ',hm,t28,rfl,hI⟩
theorem z14i (b1 b2:Nat) (high:Int) (light_f:Fn) (light_x:Array Value) (light_y:Array Value) (t24 wide:Int) (H:zn)  (R:Post) {I:Nat→List Value→zn→Prop} {μ:Nat}:zx I μ (zu 2 (zu 1 (seqQ (exL Tryz.prog z6h (cr (cr (cr (cl (cl (cr (cl (cr (cr (cr (zo Tryz.f82))))))))))) 25166149 192 [(0,320)]) (R)))) (.exit 2) (.int .i64 wide::ud::.func light_f light_x light_y::ud3 (.pointer (some ⟨b1,0,none⟩)::ud::.pointer (some ⟨b2,0,none⟩)::ud14 (.int .i64 high::.int .i64 t24::ud21 []))) H=
 (R .normal (.int .i64 wide::ud::.func light_f light_x light_y::ud3 (.pointer (some ⟨b1,0,none⟩)::ud::.pointer (some ⟨b2,0,none⟩)::ud14 (.int .i64 high::.int .i64 (IntKind.wrap .i64 (t24+1))::ud21 []))) H):=by kernel_rfl
theorem z10f:∀g,FnOk Tryz.prog g (z6h g):=FnOk.envOf (by
 intro x hx
 simp only [List.mem_cons,List.not_mem_nil,or_false] at hx
 rcases hx with rfl | rfl | rfl | rfl | rfl
 ·exact zly _
 ·exact z7z
 ·exact f4z_ok
 ·exact z1hm
 ·exact f9z_ok)
theorem z14g (wide high:Int) (light_f:Fn) (light_x:Array Value) (light_y:Array Value) (H:zn) (K:KT) (h:zvc wide high light_f light_x light_y H fun (xc:Int) (vc:Int) (ta:OA) (xa:Nat) (ua:Nat) (r2:Bool) (H':zn)=>K (.tuple #[.agg #[.int .i64 xc,.int .i64 vc,.slice ta xa ua],.bool r2]) H'):zt Tryz.prog z6h Tryz.f82 [.int .i64 wide,.int .i64 high,.func light_f light_x light_y] H K:=by
 rw [z1ji]
 obtain ⟨g,hq,hch,hk⟩:=h
 have ep:z9n wide high g=(bif z2c wide 1 16 then (bif z2c high 1 16 then za3 wide high (picL wide.toNat high.toNat g) else (0,0,[],false)) else (0,0,[],false)):=rfl
 rw [ep] at hk
 refine Al.intro fun b1 H1 e1 l1 g1 o1=>?_
 unfold z3f
 refine Br.intro (fun hb=>?_) (fun hb=>?_)
 ·refine Lt.setN o1 (n:=3) ω20 rfl fun H3 l3 q3 k3=>⟨0,0,none,0,0,(q3.rdN (nbl rfl)).trans rfl,?_⟩
  rw [z1e hb,cond_false] at hk
  exact hk none 0 0 H3 (g1.keep ω2 k3) (OwnS.nil _ _ _ _)
 have hw:=z3g (z1a hb)
 rw [z1a hb,cond_true] at hk
 refine Br.intro (fun hb2=>?_) (fun hb2=>?_)
 ·refine Lt.setN o1 (n:=3) ω20 rfl fun H3 l3 q3 k3=>⟨0,0,none,0,0,(q3.rdN (nbl rfl)).trans rfl,?_⟩
  rw [z1e hb2,cond_false] at hk
  exact hk none 0 0 H3 (g1.keep ω2 k3) (OwnS.nil _ _ _ _)
 have hh:=z3g (z1a hb2)
 rw [z1a hb2,cond_true] at hk
 refine Al.intro fun b2 H6 e6 l6 g6 o6=>Lt.setN o6 (n:=3) ω20 rfl fun H7 l7 q7 k7=>?_
 have p1:=(o1.grow g6).keep (b':=b2) ω2 k7
 have G7:Grow H H7:=(g1.trans g6).keep (by have:=g1.1;omega) k7
 obtain ⟨w,rfl⟩:∃w:Nat,wide=(w:Int):=⟨wide.toNat,by omega⟩
 obtain ⟨h,rfl⟩:∃h:Nat,high=(h:Int):=⟨high.toNat,by omega⟩
 simp only [Int.toNat_natCast] at hk
 refine z1jc b1 b2 (h:Int) light_f light_x light_y (w:Int) (fun μ t H'=>∃k:Nat,t=(k:Int)∧k≤h∧μ=h-k∧z3j b2 H7 H'∧∃(a:OA) (n e:Nat),Own H' b2 [.int .i64 (w:Int),.int .i64 (h:Int),.slice a n e]∧OwnS fF H' H7.length a n e (picL w k g)) h 0 H7
  ⟨0,rfl,Nat.zero_le _,rfl,⟨Nat.le_refl _,fun _ _ _=>rfl⟩,none,0,0,q7,OwnS.nil _ _ _ _⟩ ?_
 intro μ t H' hI
 obtain ⟨k,rfl,hkm,rfl,kp,a,n,e,ob,os⟩:=hI
 have hn:=os.len
 rw [z2u] at hn
 have hkw:k*w≤16*16:=Nat.mul_le_mul ω2 ω2
 have lkp:=kp.1
 rw [z1jg]
 refine Br.intro (fun hc=>?_) (fun hc=>?_)
 ·have hc':=odt hc
  have hkm':k<h:=by omega
  refine z1jd b1 b2 (h:Int) light_f light_x light_y (k:Int) (w:Int) (fun μ t H2=>∃u:Nat,t=(u:Int)∧u≤w∧μ=w-u∧z3j b2 H7 H2∧∃(a:OA) (n e:Nat),Own H2 b2 [.int .i64 (w:Int),.int .i64 (h:Int),.slice a n e]∧OwnS fF H2 H7.length a n e (picL w k g++rowL u fun u=>g u (k:Int))) w 0 H'
   ⟨0,rfl,Nat.zero_le _,rfl,kp,a,n,e,ob,by rw [show rowL 0 (fun u=>g u (k:Int))=[] from rfl,List.append_nil];exact os⟩ ?_
  intro μ2 t2 H2 hI2
  obtain ⟨u,rfl,hum,rfl,kp2,a2,n2,e2,ob2,os2⟩:=hI2
  have hn2:=os2.len
  rw [List.length_append,z2u,zaq] at hn2
  have lkp2:=kp2.1
  rw [z1jh]
  refine Br.intro (fun hd=>?_) (fun hd=>?_)
  ·have hd':=odt hd
   have hum':u<w:=by omega
   refine ⟨a2,n2,e2,(ob2.rdC 2).trans rfl,?_⟩
   rw [hq]
   refine hch (u:Int) (k:Int) ω2 hd' ω2 hc' hw.2 hh.2 H2 (G7.keep (by have:=g1.1;omega) kp2) _ fun H8 g8=>?_
   have os3:=os2.grow g8
   have ob3:=ob2.grow g8
   rw [z1c1]
   refine Al.intro fun b3 H9 e9 l9 g9 o9=>?_
   have os4:=os3.grow g9
   have ob4:=ob3.grow g9
   refine ⟨_,_,os4.ownB,o9.rdAll rfl,(fun _=>by omega),ω25,?_⟩
   refine Ap.appS (ys:=[g (u:Int) (k:Int)]) os4 rfl rfl fun b13 H17 e17 l17 o17 k17=>?_
   have lo:=os4.lo
   have:=g8.1
   have:=ob2.lt
   have hup:∀x,a2=some x→x.block≠b2:=fun x hx=>by have:=lo x hx;omega
   have ob5:=ob4.keepA hup k17
   refine Lt.set ob5 (nbl rfl) fun H18 l18 q18 k18=>?_
   refine z1jf (w-(u+1)) ω2 ⟨u+1,by rw [zp ω2 ω2];omega,by omega,rfl,?_,some ⟨b13,0,none⟩,n2+1,1,q18,?_⟩
   ·refine ⟨by omega,fun i hi hne=>?_⟩
    rw [k18.2 i ω2 hne,k17.2 i ω2 (fun x hx=>by have:=lo x hx;omega),g9.2 i ω2,g8.2 i ω2,kp2.2 i hi hne]
   ·rw [zyt,←List.append_assoc]
    exact (o17.keep (b':=b2) ω2 k18).ownS (by simp only [List.length_append,z2u,zaq,List.length_cons,List.length_nil];omega) ω2
  ·have hd':=odf hd
   obtain rfl:u=w:=by omega
   rw [z14i]
   refine z1je (h-(k+1)) ω2 ⟨k+1,by rw [zp ω2 ω2];omega,by omega,rfl,kp2,a2,n2,e2,ob2,?_⟩
   rw [zew]
   exact os2
 ·have hc':=odf hc
  obtain rfl:k=h:=by omega
  rw [z14h]
  have c1:=p1.keep (b':=b2) ω2 kp
  have lo:=os.lo
  have G5:Grow H H':=G7.keep (by have:=g1.1;omega) kp
  refine ⟨(w:Int),(k:Int),a,n,e,(ob.rdN (nbl rfl)).trans rfl,zv2 ⟨picL w k g,os.isL,by rw [z2u];omega,fun H19 g19=>?_⟩⟩
  refine Br.intro (fun hb=>?_) (fun hb=>?_)
  ·refine Lt.setN (c1.grow g19) (n:=3) ω20 rfl fun H20 l20 q20 k20=>⟨(w:Int),(k:Int),a,n,e,(q20.rdN (nbl rfl)).trans rfl,?_⟩
   have ev:za3 (w:Int) (k:Int) (picL w k g)=((w:Int),(k:Int),picL w k g,true):=by
    rw [z4t] at hb ⊢
    cases hq:!(z1o (w:Int) (k:Int) (picL w k g)) with
    | true=>rw [hq] at hb;cases hb
    | false=>rfl
   rw [ev] at hk
   exact hk a n e H20 ((G5.trans g19).keep ω2 k20) (((os.grow g19).keepA (fun x y hx hy=>by cases hx;have:=lo y hy;have:=o1.lt;have:=g6.1;show b1≠_;omega) (OwnS.keep1 k20)).weak (by have:=G7.1;omega))
  ·refine Lt.setN (c1.grow g19) (n:=3) ω20 rfl fun H20 l20 q20 k20=>⟨0,0,none,0,0,(q20.rdN (nbl rfl)).trans rfl,?_⟩
   have ev:za3 (w:Int) (k:Int) (picL w k g)=(0,0,[],false):=by
    rw [z4t] at hb ⊢
    cases hq:!(z1o (w:Int) (k:Int) (picL w k g)) with
    | true=>rfl
    | false=>rw [hq] at hb;cases hb
   rw [ev] at hk
   exact hk none 0 0 H20 ((G5.trans g19).keep ω2 k20) (OwnS.nil _ _ _ _)
theorem z1a2:FnOk Tryz.prog 82 S_fpz:=FnOk.bodyF mix_ok z10f Tryz.func82 rfl ω9 ω9 fun args H=>by
 unfold F_fpz
 split
 ·refine ⟨?_,?_,?_,?_,fun K hk=>z14g _ _ _ _ _ H K hk⟩
  ·intro K K' h hk;obtain ⟨g,hq,hch,k⟩:=hk;exact ⟨g,hq,hch,(fun jd pd od H' gg ow0=>h _ _ (k jd pd od H' gg ow0))⟩
  ·nofun
  ·intro K hk;obtain ⟨g,hq,hch,k⟩:=hk;exact z5q fun a n e H1 g o=>⟨_,_,k a n e H1 g o⟩
  ·intro _ K hk;obtain ⟨g,hq,hch,k⟩:=hk;exact ⟨g,hq,hch,(fun jd pd od H' gg ow0=>⟨gg,k jd pd od H' gg ow0⟩)⟩
 ·exact Nice.no
def z9m (fa ia:Int) (da:LN) (x y wide high:Int):Int×Int×LN×Bool:=bif z8s fa ia da x y wide high then z9n wide high (z5p da x y fa) else (0,0,[],false)
def T_faz (fa ia:Int) (ja:OA) (sa ya:Nat) (x y wide high:Int) (H:zn) (K:Int→Int→OA→Nat→Nat→Bool→zn→Prop):Prop:=
 ∃da:LN,IsL fF H ja sa da∧da.length<1073741824∧
  (∀(jd:OA) (pd od:Nat),∀H':zn,Grow H H'→OwnS fF H' H.length jd pd od ((z9m fa ia da x y wide high).2.2.1)→K ((z9m fa ia da x y wide high).1) ((z9m fa ia da x y wide high).2.1) jd pd od ((z9m fa ia da x y wide high).2.2.2) H')
theorem z1bk {fa ia:Int} {ja:OA} {sa ya:Nat} {x y wide high:Int} {H:zn} {K:Int→Int→OA→Nat→Nat→Bool→zn→Prop} (h:∃da:LN,IsL fF H ja sa da∧da.length<1073741824∧
  (∀(jd:OA) (pd od:Nat),∀H':zn,Grow H H'→OwnS fF H' H.length jd pd od ((z9m fa ia da x y wide high).2.2.1)→K ((z9m fa ia da x y wide high).1) ((z9m fa ia da x y wide high).2.1) jd pd od ((z9m fa ia da x y wide high).2.2.2) H')):T_faz fa ia ja sa ya x y wide high H K:=h
theorem z1eb (W Hi:Int) (l:LN) (x y wide high:Int):((z9m W Hi l x y wide high).2.2.1.length:Int)≤256:=by
 unfold z9m
 cases z8s W Hi l x y wide high with
 | false=>show ((0:Nat):Int)≤256;omega
 | true=>exact zbt _ _ _
def E_faz:Env:=envOf [(81,zuo),(82,S_fpz)]
def F_faz (args:List Value) (H:zn):(Value→zn→Prop)→Prop:=match args with
 | [.agg ⟨[.int .i64 fa,.int .i64 ia,.slice ja sa ya]⟩,.int .i64 x,.int .i64 y,.int .i64 wide,.int .i64 high]=>fun K=>T_faz fa ia ja sa ya x y wide high H fun (xc:Int) (vc:Int) (ta:OA) (xa:Nat) (ua:Nat) (r2:Bool) (H':zn)=>K (.tuple #[.agg #[.int .i64 xc,.int .i64 vc,.slice ta xa ua],.bool r2]) H'
 | _=>fun _=>False
def S_faz:FSpec:={F:=F_faz,quiet:=false,tame:=true}
theorem z1hg (fa ia:Int) (ja:OA) (sa ya:Nat) (x y wide high:Int) (H:zn) (K:KT):zt Tryz.prog E_faz Tryz.f36 [.agg #[.int .i64 fa,.int .i64 ia,.slice ja sa ya],.int .i64 x,.int .i64 y,.int .i64 wide,.int .i64 high] H K=
 (Al [.int .i64 fa,.int .i64 ia,.slice ja sa ya] H fun b1 H1=>Al [.int .i64 x] H1 fun b2 H2=>Al [.int .i64 y] H2 fun b3 H3=>Al [.int .i64 0,.int .i64 0,.slice none 0 0] H3 fun b4 H4=>∃(c1 c2:Int),∃dh:OA,∃(fh eh:Nat),  rdN H4 b1 0 3=some [.int .i64 c1,.int .i64 c2,.slice dh fh eh]∧∃x1:Int,  rdC H4 b2 0=some (.int .i64 x1)∧∃x2:Int,  rdC H4 b3 0=some (.int .i64 x2)∧zjb c1 c2 dh fh eh x1 x2 wide high H4 fun (r1:Bool) (H5:zn)=>Br (!r1) (isOwn H5 b4∧(∃l,rdN H5 b4 0 3=some l)∧Lt (setN H5 b4 0 [.int .i64 0,.int .i64 0,.slice none 0 0]) fun H6=>∃(c4 c5:Int),∃qh:OA,∃(th sh:Nat),  rdN H6 b4 0 3=some [.int .i64 c4,.int .i64 c5,.slice qh th sh]∧K (.tuple #[.agg #[.int .i64 c4,.int .i64 c5,.slice qh th sh],.bool false]) H6) (zvc wide high (.func 83) #[] #[.pointer (some ⟨b1,0,none⟩),.pointer (some ⟨b3,0,none⟩),.pointer (some ⟨b2,0,none⟩)] H5 fun (r2:Int) (r3:Int) (a1:OA) (r4:Nat) (r5:Nat) (r6:Bool) (H7:zn)=>isOwn H7 b4∧(∃l,rdN H7 b4 0 3=some l)∧Lt (setN H7 b4 0 [.int .i64 r2,.int .i64 r3,.slice a1 r4 r5]) fun H8=>∃(c7 c8:Int),∃ei:OA,∃(gi fi:Nat),  rdN H8 b4 0 3=some [.int .i64 c7,.int .i64 c8,.slice ei gi fi]∧K (.tuple #[.agg #[.int .i64 c7,.int .i64 c8,.slice ei gi fi],.bool r6]) H8)):=by kernel_rfl
theorem zzq:∀g,FnOk Tryz.prog g (E_faz g):=FnOk.envOf (by
 intro x hx
 simp only [List.mem_cons,List.not_mem_nil,or_false] at hx
 rcases hx with rfl | rfl
 ·exact f17z_ok
 ·exact z1a2)
theorem zfb {H:zn} {b bx bY:Nat} {la:OA} {ln le:Nat} {l:LN} {W Hi x y w h:Int} (o:Own H b [.int .i64 W,.int .i64 Hi,.slice la ln le]) (ox:Own H bx [.int .i64 x]) (oy:Own H bY [.int .i64 y]) (il:IsL fF H la ln l) (bl:l.length<1073741824) (h2:W≤16) (h4:Hi≤16) (hl:(l.length:Int)=W*Hi) (x0:0≤x) (y0:0≤y) (hx:x+w≤W) (hy:y+h≤Hi):
  zho z6h (.func (.func 83) #[] #[.pointer (some ⟨b,0,none⟩),.pointer (some ⟨bY,0,none⟩),.pointer (some ⟨bx,0,none⟩)]) H w h (z5p l x y W):=by
 intro u v u0 u1 v0 v1 _ _ H1 gg K hK
 refine (?_:T_f4z u v b bY bx H1 fun r H'=>K (.float .f32 r) H')
 exact ⟨W,Hi,la,ln,le,y,x,l,((o.grow gg).rdN (nbl rfl)).trans rfl,((oy.grow gg).rdN (nbl rfl)).trans rfl,((ox.grow gg).rdN (nbl rfl)).trans rfl,il.grow gg,bl,u0,v0,y0,x0,by omega,by omega,h2,h4,hl,hK H1 (Grow.refl H1)⟩
theorem z12z (fa ia:Int) (ja:OA) (sa ya:Nat) (x y wide high:Int) (H:zn) (K:KT) (h:T_faz fa ia ja sa ya x y wide high H fun (xc:Int) (vc:Int) (ta:OA) (xa:Nat) (ua:Nat) (r2:Bool) (H':zn)=>K (.tuple #[.agg #[.int .i64 xc,.int .i64 vc,.slice ta xa ua],.bool r2]) H'):zt Tryz.prog E_faz Tryz.f36 [.agg #[.int .i64 fa,.int .i64 ia,.slice ja sa ya],.int .i64 x,.int .i64 y,.int .i64 wide,.int .i64 high] H K:=by
 rw [z1hg]
 obtain ⟨l,il,bl,hk⟩:=h
 obtain rfl:=il.eqn
 have ep:z9m fa ia l x y wide high=(bif z8s fa ia l x y wide high then z9n wide high (z5p l x y fa) else (0,0,[],false)):=rfl
 rw [ep] at hk
 refine Al.intro fun b1 H1 e1 l1 g1 o1=>Al.intro fun b2 H2 e2 l2 g2 o2=>Al.intro fun b3 H3 e3 l3 g3 o3=>Al.intro fun b4 H4 e4 l4 g4 o4=>?_
 have p1:=((o1.grow g2).grow g3).grow g4
 have p2:=(o2.grow g3).grow g4
 have p3:=o3.grow g4
 have G4:Grow H H4:=((g1.trans g2).trans g3).trans g4
 refine ⟨fa,ia,ja,l.length,ya,(p1.rdN (nbl rfl)).trans rfl,x,(p2.rdC 0).trans rfl,y,(p3.rdC 0).trans rfl,zo8 ⟨l,il.grow G4,bl,fun H5 g5=>?_⟩⟩
 have q4:=o4.grow g5
 refine Br.intro (fun hp=>?_) (fun hp=>?_)
 ·refine Lt.setN q4 (n:=3) ω20 rfl fun H6 l6 q6 k6=>⟨0,0,none,0,0,(q6.rdN (nbl rfl)).trans rfl,?_⟩
  rw [z1e hp,cond_false] at hk
  exact hk none 0 0 H6 ((G4.trans g5).keep ω2 k6) (OwnS.nil _ _ _ _)
 have hpv:=z1a hp
 rw [hpv,cond_true] at hk
 obtain ⟨_,w2,_,w4,w5,_,x0,y0,_,_,hx,hy⟩:=f17z_t hpv
 have G5:Grow H H5:=G4.trans g5
 refine zvd ⟨z5p l x y fa,rfl,zfb (p1.grow g5) (p2.grow g5) (p3.grow g5) (il.grow G5) bl w2 w4 w5 x0 y0 hx hy,fun a n e H7 g7 o7=>?_⟩
 have lo:=o7.lo
 have hle:=G5.1
 refine Lt.setN (q4.grow g7) (n:=3) ω20 rfl fun H8 l8 q8 k8=>⟨_,_,a,n,e,(q8.rdN (nbl rfl)).trans rfl,?_⟩
 exact hk a n e H8 ((G5.trans g7).keep ω2 k8) ((o7.keepA (fun x y hx hy=>by cases hx;have:=lo y hy;have:=q4.lt;show b4≠_;omega) (OwnS.keep1 k8)).weak hle)
theorem z1hf:FnOk Tryz.prog 36 S_faz:=FnOk.bodyF mix_ok zzq Tryz.func36 rfl ω9 ω9 fun args H=>by
 unfold F_faz
 split
 ·refine ⟨?_,?_,?_,?_,fun K hk=>z12z _ _ _ _ _ _ _ _ _ H K hk⟩
  ·intro K K' h hk;obtain ⟨l,i,b,k⟩:=hk;exact ⟨l,i,b,(fun jd pd od H' gg ow0=>h _ _ (k jd pd od H' gg ow0))⟩
  ·nofun
  ·intro K hk;obtain ⟨l,i,b,k⟩:=hk;exact z5q fun a n e H1 g o=>⟨_,_,k a n e H1 g o⟩
  ·intro _ K hk;obtain ⟨l,i,b,k⟩:=hk;exact ⟨l,i,b,(fun jd pd od H' gg ow0=>⟨gg,k jd pd od H' gg ow0⟩)⟩
 ·exact Nice.no

def zac (ab:LN):Bool:=(bif (z2c (ab.length:Int) (1:Int) (128:Int)) then (z7i ([ab])) else false)
def zlj:=@zac.eq_1
def zom (tb:OA) (qb bc:Nat) (H:zn) (K:Bool→zn→Prop):Prop:=∃ab:LN,IsL fF H tb qb ab∧ab.length<1073741824∧((∀H':zn,Grow H H'→K (zac ab) H'))
theorem z11j {tb:OA} {qb bc:Nat} {H:zn} {K:Bool→zn→Prop} (h:∃ab:LN,IsL fF H tb qb ab∧ab.length<1073741824∧((∀H':zn,Grow H H'→K (zac ab) H'))):zom tb qb bc H K:=h

def ztv:Env:=envOf [(68,zaa),(104,zux)]
def z17v (args:List Value) (H:zn):(Value→zn→Prop)→Prop:=match args with
 | [.slice tb qb bc]=>fun K=>zom tb qb bc H fun (r1:Bool) (H':zn)=>K (.bool r1) H'
 | _=>fun _=>False
def z19c:FSpec:={F:=z17v,quiet:=false,tame:=true}
theorem z1dp (tb:OA) (qb bc:Nat) (H:zn) (K:KT):zt Tryz.prog ztv Tryz.f114 [.slice tb qb bc] H K=
 (z3f (qb:Int) 1 128 H fun (r1:Bool) (H1:zn)=>Br r1 (Al [.slice tb qb bc] H1 fun b1 H2=>zmj (some ⟨b1,0,none⟩) 1 1 H2 fun (r2:Bool) (H3:zn)=>K (.bool r2) H3) (K (.bool false) H1)):=by kernel_rfl
theorem ztw:∀g,FnOk Tryz.prog g (ztv g):=FnOk.envOf (by
 intro x hx
 simp only [List.mem_cons,List.not_mem_nil,or_false] at hx
 rcases hx with rfl | rfl
 ·exact z7z
 ·exact zp6)
theorem zwj (tb:OA) (qb bc:Nat) (H:zn) (K:KT) (h:zom tb qb bc H fun (r1:Bool) (H':zn)=>K (.bool r1) H'):zt Tryz.prog ztv Tryz.f114 [.slice tb qb bc] H K:=by
 rw [z1dp]
 obtain ⟨ab,i_list,bd_12,hk⟩:=h
 obtain rfl:=i_list.eqn
 have e:(zac ab)=_:=rfl
 have e:=e.trans (zlj ab)
 have g0:=Grow.refl H
 refine z4b ?_
 refine Br.intro (fun c_1=>?_) (fun c_1=>?_)
 ·have e:=e.trans (zw c_1)
  have c_1':=z3g c_1
  refine Al.intro (fun b_2 H_1 hb_3 hl_4 g_5 o_6=>?_)
  have l_8:=g_5.1
  have g_9:=g0.trans g_5
  have l_10:=g_9.1
  have w11:=o_6.lt
  refine zhu ⟨[ab],⟨_,o_6.rdAll rfl,LLc.cons (i_list.grow g_9) (LLc.nil _ _)⟩,ω0,ω15,?_⟩
  rw [e] at hk
  exact hk  H_1 g_9 
 ·have e:=e.trans (zv c_1)
  rw [e] at hk
  exact hk  H g0 
theorem z1do:FnOk Tryz.prog 114 z19c:=FnOk.bodyF mix_ok ztw Tryz.func114 rfl ω9 ω9 fun args H=>by
 unfold z17v
 split
 ·refine ⟨?_,?_,?_,?_,fun K hk=>zwj _ _ _ H K hk⟩
  ·intro K K' h hk;obtain ⟨ab,i_list,bd_12,k⟩:=hk;exact ⟨ab,i_list,bd_12,(fun  H' gg  =>h _ _ (k  H' gg))⟩
  ·nofun
  ·intro K hk;obtain ⟨ab,i_list,bd_12,k⟩:=hk;exact ⟨_,_,k H (Grow.refl H)⟩
  ·intro _ K hk;obtain ⟨ab,i_list,bd_12,k⟩:=hk;exact ⟨ab,i_list,bd_12,(fun  H' gg  =>⟨gg,k  H' gg⟩)⟩
 ·exact Nice.no

def z9y (ab:LN):Nat→LN→LN→Int→LN×LN
 | 0,_,_,_=>([],[])
 | μ+1,gc,yc,t12=>(bif decide ((t12:Int)<(ab.length:Int)) then (bif (Int.tmod t12 2:Int)==0 then (z9y ab μ ((gc++[(((ab).getD (t12:Int).toNat 0))])) yc (t12+1)) else (z9y ab μ gc ((yc++[(((ab).getD (t12:Int).toNat 0))])) (t12+1))) else (gc,yc))
def zgp:=fun ab μ gc yc t12=>@z9y.eq_2 ab gc yc t12 μ
def zrs (ab:LN):LN×LN:=(z9y ab (Int.toNat ((ab.length:Int)-(0:Int))+1) ([]:LN) ([]:LN) (0:Int))
def zpm:=@zrs.eq_1
def T_f7z (tb:OA) (qb bc:Nat) (H:zn) (K:OA→Nat→Nat→OA→Nat→Nat→zn→Prop):Prop:=∃ab:LN,IsL fF H tb qb ab∧ab.length<1073741824∧((∀(jd:OA) (pd od:Nat),∀(nh:OA) (xh wh:Nat),∀H':zn,Grow H H'→OwnS fF H' H.length jd pd od (evs ab)→OwnS fF H' H.length nh xh wh (ods ab)→SepA jd nh→K jd pd od nh xh wh H'))
theorem z1bj {tb:OA} {qb bc:Nat} {H:zn} {K:OA→Nat→Nat→OA→Nat→Nat→zn→Prop} (h:∃ab:LN,IsL fF H tb qb ab∧ab.length<1073741824∧((∀(jd:OA) (pd od:Nat),∀(nh:OA) (xh wh:Nat),∀H':zn,Grow H H'→OwnS fF H' H.length jd pd od (evs ab)→OwnS fF H' H.length nh xh wh (ods ab)→SepA jd nh→K jd pd od nh xh wh H'))):T_f7z tb qb bc H K:=h
theorem zi5 (l:LN):∀(μ i:Nat),i≤l.length→l.length-i<μ→z9y l μ (evs (l.take i)) (ods (l.take i)) (i:Int)=(evs l,ods l):=by
 intro μ
 induction μ with
 | zero=>intro i _ h;omega
 | succ μ ih=>
  intro i hi hm
  rw [zgp]
  by_cases h:i<l.length
  ·rw [dct (show (i:Int)<(l.length:Int) by omega),cond_true,Int.toNat_natCast]
   have:=ih (i+1) ω2 ω2
   have hl:(l.take i).length=i:=by simp;omega
   rw [zf7 l i h,zhz,zih,hl] at this
   have ht:(Int.tmod (i:Int) 2==0)=decide (i % 2=0):=by
    have:Int.tmod (i:Int) 2=((i % 2:Nat):Int):=by rw [Int.tmod_eq_emod_of_nonneg ω2];omega
    rw [this]
    by_cases hk:i % 2=0
    ·simp [hk]
    ·have:i % 2=1:=by omega
     simp [this]
   rw [ht]
   by_cases hk:i % 2=0
   ·rw [if_pos hk,if_pos hk] at this
    rw [dct hk,cond_true];exact this
   ·rw [if_neg hk,if_neg hk] at this
    rw [dcf hk,cond_false];exact this
  ·have e:i=l.length:=by omega
   rw [dcf (show ¬(i:Int)<(l.length:Int) by omega),cond_false,e,List.take_of_length_le (Nat.le_refl _)]
theorem zfo (l:LN):zrs l=(evs l,ods l):=by
 rw [zpm]
 have:=zi5 l (Int.toNat ((l.length:Int)-0)+1) 0 ω2 ω2
 simpa [evs,ods] using this
def zhp:Env:=envOf []
def F_f7z (args:List Value) (H:zn):(Value→zn→Prop)→Prop:=match args with
 | [.slice tb qb bc]=>fun K=>T_f7z tb qb bc H fun (jd:OA) (pd:Nat) (od:Nat) (nh:OA) (xh:Nat) (wh:Nat) (H':zn)=>K (.tuple #[.slice jd pd od,.slice nh xh wh]) H'
 | _=>fun _=>False
def S_f7z:FSpec:={F:=F_f7z,quiet:=false,tame:=true}
theorem f7z_vc (tb:OA) (qb bc:Nat) (H:zn) (K:KT):zt Tryz.prog zhp Tryz.f115 [.slice tb qb bc] H K=
 (Al [] H fun b1 H1=>Al [] H1 fun b2 H2=>z1j (exL Tryz.prog zhp (cl (cl (cr (cl (cr (cr (zo Tryz.f115))))))) 7216 12 [(0,48)]) (ud4 (.slice (some ⟨b1,0,none⟩) 0 1::.slice (some ⟨b2,0,none⟩) 0 1::ud4 (.slice tb qb bc::.int .i64 (qb:Int)::.int .i64 0::ud18 []))) H2 (zu 0 (seqQ (exL Tryz.prog zhp (cr (cr (cr (zo Tryz.f115)))) 12 12 []) (retK Tryz.prog Tryz.f115 K)))):=by kernel_rfl
abbrev f7z_P1 (tb:OA) (bc qb:Nat) (cc:OA) (dc nc:Nat) (bd:OA) (cd ae:Nat) (t12:Int)  :List Value:=(ud4 (.slice cc dc nc::.slice bd cd ae::ud4 (.slice tb qb bc::.int .i64 (qb:Int)::.int .i64 t12::ud18 [])))
theorem f7z_r1 (tb:OA) (bc qb:Nat) (cc:OA) (dc nc:Nat) (bd:OA) (cd ae:Nat) (t12:Int)  (H:zn) (R:Post):exL Tryz.prog zhp (cl (cl (cr (cl (cr (cr (zo Tryz.f115))))))) 7216 12 [(0,48)] (f7z_P1 tb bc qb cc dc nc bd cd ae t12) H R=
 (Br (decide ((t12:Int)<(qb:Int))) ((0:Int)≤t12∧t12<(qb:Int)∧∃b3 f1,(tb:OA)=some ⟨b3,f1,none⟩∧∃x1:Nat,  rdC H b3 (f1+(t12:Int).toNat*1)=some (.float .f32 x1)∧2≠(0:Int)∧Br ((Int.tmod t12 2:Int)==0) (Al [.float .f32 x1] H fun b4 H3=>∃o1 w1:List Value,ownB H3 cc dc nc 1=some o1∧rdS H3 (some ⟨b4,0,none⟩) (1*1)=some w1∧((cc:OA)=none→0<(1:Nat))∧(dc:Nat)+1<most∧Ap H3 (z2s H3 cc++[some ⟨o1++w1,true⟩]) fun b5 H4=>R .normal (ud4 (.slice (some ⟨b5,0,none⟩) (dc+1) 1::.slice bd cd ae::ud4 (.slice tb qb bc::.int .i64 (qb:Int)::.int .i64 (IntKind.wrap .i64 (t12+1))::ud18 []))) H4) (Al [.float .f32 x1] H fun b6 H5=>∃o2 w2:List Value,ownB H5 bd cd ae 1=some o2∧rdS H5 (some ⟨b6,0,none⟩) (1*1)=some w2∧((bd:OA)=none→0<(1:Nat))∧(cd:Nat)+1<most∧Ap H5 (z2s H5 bd++[some ⟨o2++w2,true⟩]) fun b7 H6=>R .normal (ud4 (.slice cc dc nc::.slice (some ⟨b7,0,none⟩) (cd+1) 1::ud4 (.slice tb qb bc::.int .i64 (qb:Int)::.int .i64 (IntKind.wrap .i64 (t12+1))::ud18 []))) H6)) (R (.exit 0) (ud4 (.slice cc dc nc::.slice bd cd ae::ud25 [])) H)):=by kernel_rfl
def f7z_I1 (tb:OA) (bc qb:Nat) (Inv:Nat→OA→Nat→Nat→OA→Nat→Nat→Int→zn→Prop):Nat→List Value→zn→Prop:=fun μ tm H=>∃cc:OA,∃(dc nc:Nat),∃bd:OA,∃(cd ae:Nat),∃t12:Int,tm=(f7z_P1 tb bc qb cc dc nc bd cd ae t12)∧Inv μ cc dc nc bd cd ae t12 H
theorem f7z_L1 (tb:OA) (bc qb:Nat) {Q:Post} (Inv:Nat→OA→Nat→Nat→OA→Nat→Nat→Int→zn→Prop) (ν:Nat) (cc:OA) (dc nc:Nat) (bd:OA) (cd ae:Nat) (t12:Int)  (H:zn) (h0:Inv ν cc dc nc bd cd ae t12 H)
  (hs:∀(μ:Nat) (cc:OA) (dc:Nat) (nc:Nat) (bd:OA) (cd:Nat) (ae:Nat) (t12:Int)  (H:zn),Inv μ cc dc nc bd cd ae t12 H→exL Tryz.prog zhp (cl (cl (cr (cl (cr (cr (zo Tryz.f115))))))) 7216 12 [(0,48)] (f7z_P1 tb bc qb cc dc nc bd cd ae t12) H (zx (f7z_I1 tb bc qb Inv) μ Q)):z1j (exL Tryz.prog zhp (cl (cl (cr (cl (cr (cr (zo Tryz.f115))))))) 7216 12 [(0,48)]) (f7z_P1 tb bc qb cc dc nc bd cd ae t12) H Q:=
 ⟨f7z_I1 tb bc qb Inv,ν,⟨cc,dc,nc,bd,cd,ae,t12,rfl,h0⟩,fun μ tm H h=>by obtain ⟨cc,dc,nc,bd,cd,ae,t12,rfl,hI⟩:=h;exact hs μ cc dc nc bd cd ae t12  H hI⟩
theorem f7z_n1 {tb:OA} {bc qb:Nat} {Q:Post} {Inv:Nat→OA→Nat→Nat→OA→Nat→Nat→Int→zn→Prop} {μ:Nat} (μ':Nat) {cc:OA} {dc nc:Nat} {bd:OA} {cd ae:Nat} {t12:Int}  {H:zn} (hm:μ'<μ) (hI:Inv μ' cc dc nc bd cd ae t12 H):zx (f7z_I1 tb bc qb Inv) μ Q .normal (f7z_P1 tb bc qb cc dc nc bd cd ae t12) H:=⟨μ',hm,cc,dc,nc,bd,cd,ae,t12,rfl,hI⟩
theorem f7z_x1_0 (cc:OA) (dc nc:Nat) (bd:OA) (cd ae:Nat) (H:zn) (K:KT)  {I:Nat→List Value→zn→Prop} {μ:Nat}:zx I μ (zu 0 (seqQ (exL Tryz.prog zhp (cr (cr (cr (zo Tryz.f115)))) 12 12 []) (retK Tryz.prog Tryz.f115 K))) (.exit 0) (ud4 (.slice cc dc nc::.slice bd cd ae::ud25 [])) H=
 (K (.tuple #[.slice cc dc nc,.slice bd cd ae]) H):=by kernel_rfl
theorem zzn:∀g,FnOk Tryz.prog g (zhp g):=FnOk.envOf (by
 intro x hx;cases hx)
theorem f7z_main (tb:OA) (qb bc:Nat) (H:zn) (K:KT) (h:T_f7z tb qb bc H fun (jd:OA) (pd:Nat) (od:Nat) (nh:OA) (xh:Nat) (wh:Nat) (H':zn)=>K (.tuple #[.slice jd pd od,.slice nh xh wh]) H'):zt Tryz.prog zhp Tryz.f115 [.slice tb qb bc] H K:=by
 rw [f7z_vc]
 obtain ⟨ab,i_list,bd_101,hk⟩:=h
 have hk:(∀(jd:OA) (pd od:Nat),∀(nh:OA) (xh wh:Nat),∀H':zn,Grow H H'→OwnS fF H' H.length jd pd od ((zrs ab).1)→OwnS fF H' H.length nh xh wh ((zrs ab).2)→SepA jd nh→(fun (jd:OA) (pd:Nat) (od:Nat) (nh:OA) (xh:Nat) (wh:Nat) (H':zn)=>K (.tuple #[.slice jd pd od,.slice nh xh wh]) H') jd pd od nh xh wh H'):=by rw [zfo ab];exact hk
 obtain rfl:=i_list.eqn
 have e:(zrs ab)=_:=rfl
 have e:=e.trans (zpm ab)
 have g0:=Grow.refl H
 refine Al.intro (fun b_1 H_1 hb_2 hl_3 g_4 o_5=>?_)
 have o_5:Own H_1 b_1 ((([]:LN)).map fF):=o_5
 have l_7:=g_4.1
 have g_8:=g0.trans g_4
 have l_9:=g_8.1
 have w100:=o_5.lt
 refine Al.intro (fun b_10 H_2 hb_11 hl_12 g_13 o_14=>?_)
 have o_14:Own H_2 b_10 ((([]:LN)).map fF):=o_14
 have l_16:=g_13.1
 have g_17:=g_8.trans g_13
 have l_18:=g_17.1
 have o_19:=o_5.grow g_13
 have w20:=o_19.lt
 have w99:=o_14.lt
 refine f7z_L1 _ _ _ (fun (μ:Nat) (cc:OA) (dc:Nat) (nc:Nat) (bd:OA) (cd:Nat) (ae:Nat) (t12:Int) (H_3:zn)=>∃gc:LN,∃b_21:Nat,∃yc:LN,∃b_23:Nat,cc=some ⟨b_21,0,none⟩∧dc=gc.length∧nc=1∧Own H_3 b_21 (gc.map fF)∧bd=some ⟨b_23,0,none⟩∧cd=yc.length∧ae=1∧Own H_3 b_23 (yc.map fF)∧(b_23≠b_21)∧Grow H H_3∧H.length≤b_21∧H.length≤b_23∧(0:Int)≤t12∧t12≤(ab.length:Int)∧(gc.length:Int)≤t12-(0:Int)+0∧(yc.length:Int)≤t12-(0:Int)+0∧(ab.length:Int)-t12≤(μ:Int)∧zrs ab=z9y ab (μ+1) gc yc t12) (Int.toNat ((ab.length:Int)-(0:Int))) _ _ _ _ _ _ _ H_2 ?_ ?_
 ·exact ⟨_,_,_,_,rfl,ω5,rfl,o_19,rfl,ω5,rfl,o_14,ω2,g_17,ω2,ω2,ω7,ω7,ω7,ω7,ω2,e⟩
 ·intro μ cc dc nc bd cd ae t12  H_3 hI
  obtain ⟨gc,b_21,yc,b_23,rfl,rfl,rfl,o22,rfl,rfl,rfl,o24,n25,g26,l27,l28,v_29,v_30,v_31,v_32,hμ,e⟩:=hI
  rw [f7z_r1]
  have e:=e.trans (zgp ab μ gc yc t12)
  have w33:=o22.lt
  have w34:=o24.lt
  have l35:=g26.1
  refine Br.intro (fun c36=>?_) (fun c36=>?_)
  ·have e:=e.trans (zw c36)
   have c_36':=odt c36
   obtain ⟨b37,f_38,q39⟩:=((i_list.grow g26)).pos ω0
   refine ⟨by omega,by omega,b37,f_38,q39,?_⟩
   refine ⟨((ab).getD (t12:Int).toNat 0),(i_list).rd g26 q39 ω2 _,?_⟩
   refine ⟨ω22,?_⟩
   have z40:=za1 t12 2
   have z41:=zcb t12 2
   refine Br.intro (fun c42=>?_) (fun c42=>?_)
   ·have e:=e.trans (zw c42)
    have c_42':=zbc c42
    refine Al.intro (fun b43 H_4 hb_44 hl_45 g46 o47=>?_)
    have o47:Own H_4 b43 (([(((ab).getD (t12:Int).toNat 0))]).map fF):=o47
    have l49:=g46.1
    have g50:=g26.trans g46
    have l51:=g50.1
    have o52:=o22.grow g46
    have w53:=o52.lt
    have o54:=o24.grow g46
    have w55:=o54.lt
    have w70:=o47.lt
    refine ⟨_,_,o52.ownB ω3 rfl,(z2h (o47.isL ω5)),(fun h=>by cases h),ω25,?_⟩
    refine Ap.app o52 rfl rfl (fun b60 H_5 q68 hl_56 o57 k58=>?_)
    have o57:=z2a o57
    have l61:=k58.1
    have g62:=g50.keep (b:=b_21) ω2 k58
    have l63:=g62.1
    have o64:=o54.keep ω2 k58
    have w65:=o64.lt
    have o66:=o47.keep ω2 k58
    have w67:=o66.lt
    have w69:=o57.lt
    rw [show IntKind.wrap .i64 (t12+1)=(t12+1) from zp ω2 ω2]
    refine f7z_n1 (μ-1) ω16 ⟨_,_,_,_,rfl,ω6,rfl,o57,rfl,ω5,rfl,o64,ω2,g62,ω2,ω2,ω1,ω1,ω1,ω1,ω16,ω13⟩
   ·have e:=e.trans (zv c42)
    have c_42':=zbb c42
    refine Al.intro (fun b71 H_6 hb_72 hl_73 g74 o75=>?_)
    have o75:Own H_6 b71 (([(((ab).getD (t12:Int).toNat 0))]).map fF):=o75
    have l77:=g74.1
    have g78:=g26.trans g74
    have l79:=g78.1
    have o80:=o22.grow g74
    have w81:=o80.lt
    have o82:=o24.grow g74
    have w83:=o82.lt
    have w98:=o75.lt
    refine ⟨_,_,o82.ownB ω3 rfl,(z2h (o75.isL ω5)),(fun h=>by cases h),ω25,?_⟩
    refine Ap.app o82 rfl rfl (fun b88 H_7 q96 hl_84 o85 k86=>?_)
    have o85:=z2a o85
    have l89:=k86.1
    have g90:=g78.keep (b:=b_23) ω2 k86
    have l91:=g90.1
    have o92:=o80.keep ω2 k86
    have w93:=o92.lt
    have o94:=o75.keep ω2 k86
    have w95:=o94.lt
    have w97:=o85.lt
    rw [show IntKind.wrap .i64 (t12+1)=(t12+1) from zp ω2 ω2]
    refine f7z_n1 (μ-1) ω16 ⟨_,_,_,_,rfl,ω5,rfl,o92,rfl,ω6,rfl,o85,ω2,g90,ω2,ω2,ω1,ω1,ω1,ω1,ω16,ω13⟩
  ·have e:=e.trans (zv c36)
   have c_36':=odf c36
   rw [f7z_x1_0]
   rw [e] at hk
   exact hk _ _ _ _ _ _ H_3 g26 (o22.ownS ω5 ω2) (o24.ownS ω5 ω2) (fun x y hx hy=>by cases hx;cases hy;intro hh;dsimp only at hh;omega)
theorem f7z_ok:FnOk Tryz.prog 115 S_f7z:=FnOk.bodyF mix_ok zzn Tryz.func115 rfl ω9 ω9 fun args H=>by
 unfold F_f7z
 split
 ·refine ⟨?_,?_,?_,?_,fun K hk=>f7z_main _ _ _ H K hk⟩
  ·intro K K' h hk;obtain ⟨ab,i_list,bd_101,k⟩:=hk;exact ⟨ab,i_list,bd_101,(fun jd pd od nh xh wh H' gg ow0 ow1 sp0_1=>h _ _ (k jd pd od nh xh wh H' gg ow0 ow1 sp0_1))⟩
  ·nofun
  ·intro K hk;obtain ⟨ab,i_list,bd_101,k⟩:=hk;exact zxs fun a n e a2 n2 e2 H1 g o o2 sp=>⟨_,_,k a n e a2 n2 e2 H1 g o o2 sp⟩
  ·intro _ K hk;obtain ⟨ab,i_list,bd_101,k⟩:=hk;exact ⟨ab,i_list,bd_101,(fun jd pd od nh xh wh H' gg ow0 ow1 sp0_1=>⟨gg,k jd pd od nh xh wh H' gg ow0 ow1 sp0_1⟩)⟩
 ·exact Nice.no

def z9l (gc:LN) (j:Int):Nat×Nat:=(((gc).getD (j:Int).toNat 0),((gc).getD ((if (((gc.length:Int)-1):Int)<(j+1) then ((gc.length:Int)-1) else (j+1)):Int).toNat 0))
def zpk:=@z9l.eq_1
def T_f1z (cc:OA) (dc nc:Nat) (j:Int) (H:zn) (K:Nat→Nat→zn→Prop):Prop:=∃gc:LN,IsL fF H cc dc gc∧gc.length<1073741824∧0≤j∧j<gc.length∧K ((z9l gc j).1) ((z9l gc j).2) H
theorem z1bd {cc:OA} {dc nc:Nat} {j:Int} {H:zn} {K:Nat→Nat→zn→Prop} (h:∃gc:LN,IsL fF H cc dc gc∧gc.length<1073741824∧0≤j∧j<gc.length∧K ((z9l gc j).1) ((z9l gc j).2) H):T_f1z cc dc nc j H K:=h

def E_f1z:Env:=envOf []
def F_f1z (args:List Value) (H:zn):(Value→zn→Prop)→Prop:=match args with
 | [.slice cc dc nc,.int .i64 j]=>fun K=>T_f1z cc dc nc j H fun (r1:Nat) (r2:Nat) (H':zn)=>K (.tuple #[.float .f32 r1,.float .f32 r2]) H'
 | _=>fun _=>False
def S_f1z:FSpec:={F:=F_f1z,quiet:=true,tame:=false}
theorem f1z_vc (cc:OA) (dc nc:Nat) (j:Int) (H:zn) (K:KT):zt Tryz.prog E_f1z Tryz.f145 [.slice cc dc nc,.int .i64 j] H K=
 ((0:Int)≤j∧j<(dc:Int)∧∃b1 f1,(cc:OA)=some ⟨b1,f1,none⟩∧∃x1:Nat,  rdC H b1 (f1+(j:Int).toNat*1)=some (.float .f32 x1)∧(0:Int)≤(if (IntKind.wrap .i64 ((dc:Int)-1):Int)<IntKind.wrap .i64 (j+1) then IntKind.wrap .i64 ((dc:Int)-1) else IntKind.wrap .i64 (j+1))∧(if (IntKind.wrap .i64 ((dc:Int)-1):Int)<IntKind.wrap .i64 (j+1) then IntKind.wrap .i64 ((dc:Int)-1) else IntKind.wrap .i64 (j+1))<(dc:Int)∧∃b2 f2,(cc:OA)=some ⟨b2,f2,none⟩∧∃x2:Nat,  rdC H b2 (f2+((if (IntKind.wrap .i64 ((dc:Int)-1):Int)<IntKind.wrap .i64 (j+1) then IntKind.wrap .i64 ((dc:Int)-1) else IntKind.wrap .i64 (j+1)):Int).toNat*1)=some (.float .f32 x2)∧K (.tuple #[.float .f32 x1,.float .f32 x2]) H):=by kernel_rfl
theorem zzh:∀g,FnOk Tryz.prog g (E_f1z g):=FnOk.envOf (by
 intro x hx;cases hx)
theorem f1z_main (cc:OA) (dc nc:Nat) (j:Int) (H:zn) (K:KT) (h:T_f1z cc dc nc j H fun (r1:Nat) (r2:Nat) (H':zn)=>K (.tuple #[.float .f32 r1,.float .f32 r2]) H'):zt Tryz.prog E_f1z Tryz.f145 [.slice cc dc nc,.int .i64 j] H K:=by
 rw [f1z_vc]
 obtain ⟨gc,i_evens,bd_7,pr0,pr1,hk⟩:=h
 obtain rfl:=i_evens.eqn
 have e:(z9l gc j)=_:=rfl
 have e:=e.trans (zpk gc j)
 have g0:=Grow.refl H
 obtain ⟨b_1,f_2,q_3⟩:=((i_evens.grow g0)).pos ω0
 refine ⟨by omega,by omega,b_1,f_2,q_3,?_⟩
 refine ⟨((gc).getD (j:Int).toNat 0),(i_evens).rd g0 q_3 ω2 _,?_⟩
 rw [show IntKind.wrap .i64 (j+1)=(j+1) from zp ω2 ω2]
 rw [show IntKind.wrap .i64 ((gc.length:Int)-1)=((gc.length:Int)-1) from zp ω2 ω2]
 obtain ⟨b_4,f_5,q_6⟩:=((i_evens.grow g0)).pos ω0
 refine ⟨by omega,by omega,b_4,f_5,q_6,?_⟩
 refine ⟨((gc).getD ((if (((gc.length:Int)-1):Int)<(j+1) then ((gc.length:Int)-1) else (j+1)):Int).toNat 0),(i_evens).rd g0 q_6 ω2 _,?_⟩
 rw [e] at hk
 exact hk
theorem f1z_ok:FnOk Tryz.prog 145 S_f1z:=FnOk.bodyF mix_ok zzh Tryz.func145 rfl ω9 ω9 fun args H=>by
 unfold F_f1z
 split
 ·refine ⟨?_,?_,?_,?_,fun K hk=>f1z_main _ _ _ _ H K hk⟩
  ·intro K K' h hk;obtain ⟨gc,i_evens,bd_7,pr0,pr1,k⟩:=hk;exact ⟨gc,i_evens,bd_7,pr0,pr1,h _ _ k⟩
  ·intro _ K hk;obtain ⟨gc,i_evens,bd_7,pr0,pr1,k⟩:=hk;exact ⟨_,k,fun K' k'=>⟨gc,i_evens,bd_7,pr0,pr1,k'⟩⟩
  ·intro K hk;obtain ⟨gc,i_evens,bd_7,pr0,pr1,k⟩:=hk;exact ⟨_,_,k⟩
  ·nofun
 ·exact Nice.no
def zg5 (x x_o a b cap0 cap1:Nat) (H:zn) (K:zn→Prop):Prop:=∃x1:Nat,  rdC H cap0 0=some (.float .f32 x1)∧∃x2:Bool,  rdC H cap1 0=some (.bool x2)∧Br x2 (∃x3:Nat,  rdC H x x_o=some (.float .f32 x3)∧isOwn H x∧(∃l,rdN H x x_o 1=some l)∧Lt (setC H x x_o (.float .f32 (fsub .f32 x3 (fmul .f32 x1 (fadd .f32 a b))))) fun H1=>K  H1) (∃x4:Nat,  rdC H x x_o=some (.float .f32 x4)∧isOwn H x∧(∃l,rdN H x x_o 1=some l)∧Lt (setC H x x_o (.float .f32 (fadd .f32 x4 (fmul .f32 x1 (fadd .f32 a b))))) fun H2=>K  H2)
def z16w:Env:=envOf []
def zo1:List Value→zn→(Value→zn→Prop)→Prop
 | [.pointer (some ⟨x,x_o,none⟩),.float .f32 a,.float .f32 b,.pointer (some ⟨cap0,0,none⟩),.pointer (some ⟨cap1,0,none⟩)],H,K=>zg5 x x_o a b cap0 cap1 H fun  (H':zn)=>K (.tuple #[]) H'
 | _,_,_=>False
def zj7:FSpec:={F:=zo1,quiet:=false,tame:=false}
theorem zd9:∀g,FnOk Tryz.prog g (z16w g):=FnOk.envOf (by
 intro x hx;cases hx)
theorem zmw (x x_o a b cap0 cap1:Nat) (H:zn) (K:KT):z6j Tryz.prog z16w Tryz.f144 [.pointer (some ⟨x,x_o,none⟩),.float .f32 a,.float .f32 b,.pointer (some ⟨cap0,0,none⟩),.pointer (some ⟨cap1,0,none⟩)] H K=zg5 x x_o a b cap0 cap1 H (fun  (H':zn)=>K (.tuple #[]) H'):=by kernel_rfl
theorem z1cv:FnOk Tryz.prog 144 zj7:=by
 refine FnOk.body mix_ok zd9 Tryz.func144 rfl ω9 ω9 ?_ ?_ ?_ ?_ ?_
 ·intro args H K K' h hk
  simp only [zj7] at *
  unfold zo1 at *
  split at hk
  ·rw [←zmw] at hk ⊢;exact zgb zd9 h hk
  ·exact hk.elim
 ·intro hq;cases hq
 ·intro args H K hk
  simp only [zj7] at *
  unfold zo1 at *
  split at hk
  ·rw [←zmw] at hk;exact zga zd9 hk
  ·exact hk.elim
 ·intro hq;cases hq
 ·intro args H K hk
  simp only [zj7] at *
  unfold zo1 at *
  split at hk
  ·rw [←zmw] at hk;exact hk
  ·exact hk.elim

def z9c (yc:LN) (j:Int):Nat×Nat:=(((yc).getD ((if (0:Int) > (j-1) then 0 else (j-1)):Int).toNat 0),((yc).getD ((if (((yc.length:Int)-1):Int)<j then ((yc.length:Int)-1) else j):Int).toNat 0))
def zpi:=@z9c.eq_1
def T_f0z (bd:OA) (cd ae:Nat) (j:Int) (H:zn) (K:Nat→Nat→zn→Prop):Prop:=∃yc:LN,IsL fF H bd cd yc∧yc.length<1073741824∧0≤j∧j≤yc.length∧1≤yc.length∧K ((z9c yc j).1) ((z9c yc j).2) H
theorem z1bc {bd:OA} {cd ae:Nat} {j:Int} {H:zn} {K:Nat→Nat→zn→Prop} (h:∃yc:LN,IsL fF H bd cd yc∧yc.length<1073741824∧0≤j∧j≤yc.length∧1≤yc.length∧K ((z9c yc j).1) ((z9c yc j).2) H):T_f0z bd cd ae j H K:=h

def E_f0z:Env:=envOf []
def F_f0z (args:List Value) (H:zn):(Value→zn→Prop)→Prop:=match args with
 | [.slice bd cd ae,.int .i64 j]=>fun K=>T_f0z bd cd ae j H fun (r1:Nat) (r2:Nat) (H':zn)=>K (.tuple #[.float .f32 r1,.float .f32 r2]) H'
 | _=>fun _=>False
def S_f0z:FSpec:={F:=F_f0z,quiet:=true,tame:=false}
theorem f0z_vc (bd:OA) (cd ae:Nat) (j:Int) (H:zn) (K:KT):zt Tryz.prog E_f0z Tryz.f146 [.slice bd cd ae,.int .i64 j] H K=
 ((0:Int)≤(if (0:Int) > IntKind.wrap .i64 (j-1) then 0 else IntKind.wrap .i64 (j-1))∧(if (0:Int) > IntKind.wrap .i64 (j-1) then 0 else IntKind.wrap .i64 (j-1))<(cd:Int)∧∃b1 f1,(bd:OA)=some ⟨b1,f1,none⟩∧∃x1:Nat,  rdC H b1 (f1+((if (0:Int) > IntKind.wrap .i64 (j-1) then 0 else IntKind.wrap .i64 (j-1)):Int).toNat*1)=some (.float .f32 x1)∧(0:Int)≤(if (IntKind.wrap .i64 ((cd:Int)-1):Int)<j then IntKind.wrap .i64 ((cd:Int)-1) else j)∧(if (IntKind.wrap .i64 ((cd:Int)-1):Int)<j then IntKind.wrap .i64 ((cd:Int)-1) else j)<(cd:Int)∧∃b2 f2,(bd:OA)=some ⟨b2,f2,none⟩∧∃x2:Nat,  rdC H b2 (f2+((if (IntKind.wrap .i64 ((cd:Int)-1):Int)<j then IntKind.wrap .i64 ((cd:Int)-1) else j):Int).toNat*1)=some (.float .f32 x2)∧K (.tuple #[.float .f32 x1,.float .f32 x2]) H):=by kernel_rfl
theorem zzg:∀g,FnOk Tryz.prog g (E_f0z g):=FnOk.envOf (by
 intro x hx;cases hx)
theorem f0z_main (bd:OA) (cd ae:Nat) (j:Int) (H:zn) (K:KT) (h:T_f0z bd cd ae j H fun (r1:Nat) (r2:Nat) (H':zn)=>K (.tuple #[.float .f32 r1,.float .f32 r2]) H'):zt Tryz.prog E_f0z Tryz.f146 [.slice bd cd ae,.int .i64 j] H K:=by
 rw [f0z_vc]
 obtain ⟨yc,i_odds,bd_7,pr0,pr1,pr2,hk⟩:=h
 obtain rfl:=i_odds.eqn
 have e:(z9c yc j)=_:=rfl
 have e:=e.trans (zpi yc j)
 have g0:=Grow.refl H
 rw [show IntKind.wrap .i64 (j-1)=(j-1) from zp ω2 ω2]
 obtain ⟨b_1,f_2,q_3⟩:=((i_odds.grow g0)).pos ω0
 refine ⟨by omega,by omega,b_1,f_2,q_3,?_⟩
 refine ⟨((yc).getD ((if (0:Int) > (j-1) then 0 else (j-1)):Int).toNat 0),(i_odds).rd g0 q_3 ω2 _,?_⟩
 rw [show IntKind.wrap .i64 ((yc.length:Int)-1)=((yc.length:Int)-1) from zp ω2 ω2]
 obtain ⟨b_4,f_5,q_6⟩:=((i_odds.grow g0)).pos ω0
 refine ⟨by omega,by omega,b_4,f_5,q_6,?_⟩
 refine ⟨((yc).getD ((if (((yc.length:Int)-1):Int)<j then ((yc.length:Int)-1) else j):Int).toNat 0),(i_odds).rd g0 q_6 ω2 _,?_⟩
 rw [e] at hk
 exact hk
theorem f0z_ok:FnOk Tryz.prog 146 S_f0z:=FnOk.bodyF mix_ok zzg Tryz.func146 rfl ω9 ω9 fun args H=>by
 unfold F_f0z
 split
 ·refine ⟨?_,?_,?_,?_,fun K hk=>f0z_main _ _ _ _ H K hk⟩
  ·intro K K' h hk;obtain ⟨yc,i_odds,bd_7,pr0,pr1,pr2,k⟩:=hk;exact ⟨yc,i_odds,bd_7,pr0,pr1,pr2,h _ _ k⟩
  ·intro _ K hk;obtain ⟨yc,i_odds,bd_7,pr0,pr1,pr2,k⟩:=hk;exact ⟨_,k,fun K' k'=>⟨yc,i_odds,bd_7,pr0,pr1,pr2,k'⟩⟩
  ·intro K hk;obtain ⟨yc,i_odds,bd_7,pr0,pr1,pr2,k⟩:=hk;exact ⟨_,_,k⟩
  ·nofun
 ·exact Nice.no
def zg1 (back:Bool) (x y:Nat):Nat:=bif back then fsub .f32 x y else fadd .f32 x y
def z7u (k:Int) (w:Nat) (back:Bool) (low high:LN):LN:=bif Int.tmod k 2==0 then high.mapIdx (fun i x=>zg1 back x (fmul .f32 w (fadd .f32 ((z9l low (i:Int)).1) ((z9l low (i:Int)).2)))) else high
def zcc (k:Int) (w:Nat) (back:Bool) (low high:LN):LN:=bif Int.tmod k 2==0 then low else low.mapIdx (fun i x=>zg1 back x (fmul .f32 w (fadd .f32 ((z9c high (i:Int)).1) ((z9c high (i:Int)).2))))
@[simp] theorem z8o (k:Int) (w:Nat) (back:Bool) (low high:LN):(z7u k w back low high).length=high.length:=by
 unfold z7u;cases (Int.tmod k 2==0)<;>simp
@[simp] theorem z9t (k:Int) (w:Nat) (back:Bool) (low high:LN):(zcc k w back low high).length=low.length:=by
 unfold zcc;cases (Int.tmod k 2==0)<;>simp
def z7p (gc yc:LN) (i:Int) (w:Nat) (back:Bool):Nat→Int→LN→LN×LN
 | 0,_,_=>([],[])
 | μ+1,t23,y1_1=>(bif decide ((t23:Int)<(yc.length:Int)) then (bif back then (z7p gc yc i w back μ (t23+1) (((y1_1).set (t23:Int).toNat ((fsub .f32 (((y1_1).getD (t23:Int).toNat 0)) (fmul .f32 w (fadd .f32 ((z9l gc t23).1) ((z9l gc t23).2)))))))) else (z7p gc yc i w back μ (t23+1) (((y1_1).set (t23:Int).toNat ((fadd .f32 (((y1_1).getD (t23:Int).toNat 0)) (fmul .f32 w (fadd .f32 ((z9l gc t23).1) ((z9l gc t23).2))))))))) else (gc,y1_1))
def zeq:=fun gc yc i w back μ t23 y1_1=>@z7p.eq_2 gc yc i w back t23 y1_1 μ
def z7q (gc yc:LN) (i:Int) (w:Nat) (back:Bool):Nat→Int→LN→LN×LN
 | 0,_,_=>([],[])
 | μ+1,t42,y2_1=>(bif decide ((t42:Int)<(gc.length:Int)) then (bif back then (z7q gc yc i w back μ (t42+1) (((y2_1).set (t42:Int).toNat ((fsub .f32 (((y2_1).getD (t42:Int).toNat 0)) (fmul .f32 w (fadd .f32 ((z9c yc t42).1) ((z9c yc t42).2)))))))) else (z7q gc yc i w back μ (t42+1) (((y2_1).set (t42:Int).toNat ((fadd .f32 (((y2_1).getD (t42:Int).toNat 0)) (fmul .f32 w (fadd .f32 ((z9c yc t42).1) ((z9c yc t42).2))))))))) else (y2_1,yc))
def zer:=fun gc yc i w back μ t42 y2_1=>@z7q.eq_2 gc yc i w back t42 y2_1 μ
def zep (gc yc:LN) (i:Int) (w:Nat) (back:Bool):LN×LN:=((bif (Int.tmod i 2:Int)==0 then (z7p gc yc i w back (Int.toNat ((yc.length:Int)-(0:Int))+1) (0:Int) yc) else (z7q gc yc i w back (Int.toNat ((gc.length:Int)-(0:Int))+1) (0:Int) gc)))
def zlm:=@zep.eq_1
def zos (cc:OA) (dc nc:Nat) (bd:OA) (cd ae:Nat) (i:Int) (w:Nat) (back:Bool) (H:zn) (K:zn→Prop):Prop:=∃(lo lob:Nat),∃(gc yc:LN),OwnS fF H lo cc dc nc gc∧OwnS fF H lob bd cd ae yc∧SepA cc bd∧gc.length<1073741824∧yc.length<1073741824∧yc.length≤gc.length∧gc.length≤yc.length+1∧1≤yc.length∧((∀H':zn,z2x cc bd H H'→OwnS fF H' lo cc dc nc (zcc i w back gc yc)→OwnS fF H' lob bd cd ae (z7u i w back gc yc)→K  H'))
theorem z11q {cc:OA} {dc nc:Nat} {bd:OA} {cd ae:Nat} {i:Int} {w:Nat} {back:Bool} {H:zn} {K:zn→Prop} (h:∃(lo lob:Nat),∃(gc yc:LN),OwnS fF H lo cc dc nc gc∧OwnS fF H lob bd cd ae yc∧SepA cc bd∧gc.length<1073741824∧yc.length<1073741824∧yc.length≤gc.length∧gc.length≤yc.length+1∧1≤yc.length∧((∀H':zn,z2x cc bd H H'→OwnS fF H' lo cc dc nc (zcc i w back gc yc)→OwnS fF H' lob bd cd ae (z7u i w back gc yc)→K  H'))):zos cc dc nc bd cd ae i w back H K:=h
theorem zgf (W ys:LN) (i:Nat) (hi:i<ys.length) (hl:W.length=ys.length):(W.take i++ys.drop i).getD i 0=ys.getD i 0:=by
 rw [List.getD_eq_getElem?_getD,List.getD_eq_getElem?_getD,List.getElem?_append_right (by simp;omega)]
 have:(W.take i).length=i:=by simp;omega
 rw [this,Nat.sub_self,List.getElem?_drop,Nat.add_zero]
theorem f20z_go1 (low high:LN) (k:Int) (w:Nat) (back:Bool) (W:LN) (hW:W=high.mapIdx (fun i x=>zg1 back x (fmul .f32 w (fadd .f32 ((z9l low (i:Int)).1) ((z9l low (i:Int)).2))))):
  ∀(μ i:Nat),i≤high.length→high.length-i<μ→z7p low high k w back μ (i:Int) (W.take i++high.drop i)=(low,W):=by
 have hl:W.length=high.length:=by rw [hW];simp
 intro μ
 induction μ with
 | zero=>intro i _ h;omega
 | succ μ ih=>
  intro i hi hm
  rw [zeq]
  by_cases h:i<high.length
  ·rw [dct (show (i:Int)<(high.length:Int) by omega),cond_true,Int.toNat_natCast]
   have:=ih (i+1) ω2 ω2
   have key:∀x,W[i]? =some x→(W.take i++high.drop i).set i x=W.take (i+1)++high.drop (i+1):=fun x hx=>z3m W high i h hl x hx
   have hx:W[i]? =some (zg1 back (high.getD i 0) (fmul .f32 w (fadd .f32 ((z9l low (i:Int)).1) ((z9l low (i:Int)).2)))):=by
    rw [hW];simp [List.getD_eq_getElem?_getD,h]
   rw [zgf W high i h hl]
   have k2:=key _ hx
   cases back
   ·rw [cond_false];simp only [zg1,cond_false] at k2;rw [k2];exact this
   ·rw [cond_true];simp only [zg1,cond_true] at k2;rw [k2];exact this
  ·have e:i=high.length:=by omega
   rw [dcf (show ¬(i:Int)<(high.length:Int) by omega),cond_false,e]
   simp [←hl]
theorem f20z_go2 (low high:LN) (k:Int) (w:Nat) (back:Bool) (W:LN) (hW:W=low.mapIdx (fun i x=>zg1 back x (fmul .f32 w (fadd .f32 ((z9c high (i:Int)).1) ((z9c high (i:Int)).2))))):
  ∀(μ i:Nat),i≤low.length→low.length-i<μ→z7q low high k w back μ (i:Int) (W.take i++low.drop i)=(W,high):=by
 have hl:W.length=low.length:=by rw [hW];simp
 intro μ
 induction μ with
 | zero=>intro i _ h;omega
 | succ μ ih=>
  intro i hi hm
  rw [zer]
  by_cases h:i<low.length
  ·rw [dct (show (i:Int)<(low.length:Int) by omega),cond_true,Int.toNat_natCast]
   have:=ih (i+1) ω2 ω2
   have key:∀x,W[i]? =some x→(W.take i++low.drop i).set i x=W.take (i+1)++low.drop (i+1):=fun x hx=>z3m W low i h hl x hx
   have hx:W[i]? =some (zg1 back (low.getD i 0) (fmul .f32 w (fadd .f32 ((z9c high (i:Int)).1) ((z9c high (i:Int)).2)))):=by
    rw [hW];simp [List.getD_eq_getElem?_getD,h]
   rw [zgf W low i h hl]
   have k2:=key _ hx
   cases back
   ·rw [cond_false];simp only [zg1,cond_false] at k2;rw [k2];exact this
   ·rw [cond_true];simp only [zg1,cond_true] at k2;rw [k2];exact this
  ·have e:i=low.length:=by omega
   rw [dcf (show ¬(i:Int)<(low.length:Int) by omega),cond_false,e]
   simp [←hl]
theorem f20z_val (low high:LN) (k:Int) (w:Nat) (back:Bool):zep low high k w back=(zcc k w back low high,z7u k w back low high):=by
 rw [zlm]
 unfold zcc z7u
 cases h:(Int.tmod k 2==0)
 ·rw [cond_false,cond_false,cond_false]
  have:=f20z_go2 low high k w back _ rfl (Int.toNat ((low.length:Int)-0)+1) 0 ω2 ω2
  simpa using this
 ·rw [cond_true,cond_true,cond_true]
  have:=f20z_go1 low high k w back _ rfl (Int.toNat ((high.length:Int)-0)+1) 0 ω2 ω2
  simpa using this
def z6g:Env:=envOf [(145,S_f1z),(144,zj7),(146,S_f0z)]
def z18e (args:List Value) (H:zn):(Value→zn→Prop)→Prop:=match args with
 | [.slice cc dc nc,.slice bd cd ae,.int .i64 i,.float .f32 w,.bool back]=>fun K=>zos cc dc nc bd cd ae i w back H fun  (H':zn)=>K (.tuple #[]) H'
 | _=>fun _=>False
def z19h:FSpec:={F:=z18e,quiet:=false,tame:=false}
theorem f20z_vc (cc:OA) (dc nc:Nat) (bd:OA) (cd ae:Nat) (i:Int) (w:Nat) (back:Bool) (H:zn) (K:KT):zt Tryz.prog z6g Tryz.f116 [.slice cc dc nc,.slice bd cd ae,.int .i64 i,.float .f32 w,.bool back] H K=
 (Al [.float .f32 w] H fun b1 H1=>Al [.bool back] H1 fun b2 H2=>2≠(0:Int)∧Br ((Int.tmod i 2:Int)==0) (z1j (exL Tryz.prog z6g (cl (cl (cr (cl (cl (cr (cl (cr (cr (zo Tryz.f116)))))))))) 12583939 0 [(0,0)]) (.slice cc dc nc::.slice bd cd ae::ud8 (.func (.func 144) #[] #[.pointer (some ⟨b1,0,none⟩),.pointer (some ⟨b2,0,none⟩)]::ud11 (.int .i64 (cd:Int)::.int .i64 0::ud35 []))) H2 (zu 0 (seqQ (exL Tryz.prog z6g (cr (cl (cr (cl (cr (cr (zo Tryz.f116))))))) 1027 0 []) (seqQ (exL Tryz.prog z6g (cr (cr (cr (zo Tryz.f116)))) 0 0 []) (retK Tryz.prog Tryz.f116 K))))) (z1j (exL Tryz.prog z6g (cl (cl (cr (cr (cr (cr (zo Tryz.f116))))))) 6597069767683 0 [(2,0)]) (.slice cc dc nc::.slice bd cd ae::ud8 (.func (.func 144) #[] #[.pointer (some ⟨b1,0,none⟩),.pointer (some ⟨b2,0,none⟩)]::ud30 (.int .i64 (dc:Int)::.int .i64 0::ud16 []))) H2 (zu 2 (retK Tryz.prog Tryz.f116 K)))):=by kernel_rfl
abbrev f20z_P1 (b1 b2:Nat) (cc:OA) (nc dc:Nat) (bd:OA) (ae cd:Nat) (t23:Int)  :List Value:=(.slice cc dc nc::.slice bd cd ae::ud8 (.func (.func 144) #[] #[.pointer (some ⟨b1,0,none⟩),.pointer (some ⟨b2,0,none⟩)]::ud11 (.int .i64 (cd:Int)::.int .i64 t23::ud35 [])))
theorem f20z_r1 (b1 b2:Nat) (cc:OA) (nc dc:Nat) (bd:OA) (ae cd:Nat) (t23:Int)  (H:zn) (R:Post):exL Tryz.prog z6g (cl (cl (cr (cl (cl (cr (cl (cr (cr (zo Tryz.f116)))))))))) 12583939 0 [(0,0)] (f20z_P1 b1 b2 cc nc dc bd ae cd t23) H R=
 (Br (decide ((t23:Int)<(cd:Int))) (T_f1z cc dc nc t23 H fun (r1:Nat) (r2:Nat) (H3:zn)=>(0:Int)≤t23∧t23<(cd:Int)∧∃b3 f1,(bd:OA)=some ⟨b3,f1,none⟩∧zg5 b3 (f1+(t23:Int).toNat*1) r1 r2 b1 b2 H3 fun  (H4:zn)=>R .normal (.slice cc dc nc::.slice bd cd ae::ud8 (.func (.func 144) #[] #[.pointer (some ⟨b1,0,none⟩),.pointer (some ⟨b2,0,none⟩)]::ud11 (.int .i64 (cd:Int)::.int .i64 (IntKind.wrap .i64 (t23+1))::ud35 []))) H4) (R (.exit 0) (ud59 []) H)):=by kernel_rfl
def f20z_I1 (b1 b2:Nat) (cc:OA) (nc dc:Nat) (bd:OA) (ae cd:Nat) (Inv:Nat→Int→zn→Prop):Nat→List Value→zn→Prop:=fun μ tm H=>∃t23:Int,tm=(f20z_P1 b1 b2 cc nc dc bd ae cd t23)∧Inv μ t23 H
theorem f20z_L1 (b1 b2:Nat) (cc:OA) (nc dc:Nat) (bd:OA) (ae cd:Nat) {Q:Post} (Inv:Nat→Int→zn→Prop) (ν:Nat) (t23:Int)  (H:zn) (h0:Inv ν t23 H)
  (hs:∀(μ:Nat) (t23:Int)  (H:zn),Inv μ t23 H→exL Tryz.prog z6g (cl (cl (cr (cl (cl (cr (cl (cr (cr (zo Tryz.f116)))))))))) 12583939 0 [(0,0)] (f20z_P1 b1 b2 cc nc dc bd ae cd t23) H (zx (f20z_I1 b1 b2 cc nc dc bd ae cd Inv) μ Q)):z1j (exL Tryz.prog z6g (cl (cl (cr (cl (cl (cr (cl (cr (cr (zo Tryz.f116)))))))))) 12583939 0 [(0,0)]) (f20z_P1 b1 b2 cc nc dc bd ae cd t23) H Q:=
 ⟨f20z_I1 b1 b2 cc nc dc bd ae cd Inv,ν,⟨t23,rfl,h0⟩,fun μ tm H h=>by obtain ⟨t23,rfl,hI⟩:=h;exact hs μ t23  H hI⟩
theorem f20z_n1 {b1 b2:Nat} {cc:OA} {nc dc:Nat} {bd:OA} {ae cd:Nat} {Q:Post} {Inv:Nat→Int→zn→Prop} {μ:Nat} (μ':Nat) {t23:Int}  {H:zn} (hm:μ'<μ) (hI:Inv μ' t23 H):zx (f20z_I1 b1 b2 cc nc dc bd ae cd Inv) μ Q .normal (f20z_P1 b1 b2 cc nc dc bd ae cd t23) H:=⟨μ',hm,t23,rfl,hI⟩
theorem f20z_x1_0  (H:zn) (K:KT)  {I:Nat→List Value→zn→Prop} {μ:Nat}:zx I μ (zu 0 (seqQ (exL Tryz.prog z6g (cr (cl (cr (cl (cr (cr (zo Tryz.f116))))))) 1027 0 []) (seqQ (exL Tryz.prog z6g (cr (cr (cr (zo Tryz.f116)))) 0 0 []) (retK Tryz.prog Tryz.f116 K)))) (.exit 0) (ud59 []) H=
 (K (.tuple #[]) H):=by kernel_rfl
abbrev f20z_P2 (b1 b2:Nat) (cc:OA) (nc dc:Nat) (bd:OA) (ae cd:Nat) (t42:Int)  :List Value:=(.slice cc dc nc::.slice bd cd ae::ud8 (.func (.func 144) #[] #[.pointer (some ⟨b1,0,none⟩),.pointer (some ⟨b2,0,none⟩)]::ud30 (.int .i64 (dc:Int)::.int .i64 t42::ud16 [])))
theorem f20z_r2 (b1 b2:Nat) (cc:OA) (nc dc:Nat) (bd:OA) (ae cd:Nat) (t42:Int)  (H:zn) (R:Post):exL Tryz.prog z6g (cl (cl (cr (cr (cr (cr (zo Tryz.f116))))))) 6597069767683 0 [(2,0)] (f20z_P2 b1 b2 cc nc dc bd ae cd t42) H R=
 (Br (decide ((t42:Int)<(dc:Int))) (T_f0z bd cd ae t42 H fun (r3:Nat) (r4:Nat) (H5:zn)=>(0:Int)≤t42∧t42<(dc:Int)∧∃b4 f2,(cc:OA)=some ⟨b4,f2,none⟩∧zg5 b4 (f2+(t42:Int).toNat*1) r3 r4 b1 b2 H5 fun  (H6:zn)=>R .normal (.slice cc dc nc::.slice bd cd ae::ud8 (.func (.func 144) #[] #[.pointer (some ⟨b1,0,none⟩),.pointer (some ⟨b2,0,none⟩)]::ud30 (.int .i64 (dc:Int)::.int .i64 (IntKind.wrap .i64 (t42+1))::ud16 []))) H6) (R (.exit 2) (ud59 []) H)):=by kernel_rfl
def f20z_I2 (b1 b2:Nat) (cc:OA) (nc dc:Nat) (bd:OA) (ae cd:Nat) (Inv:Nat→Int→zn→Prop):Nat→List Value→zn→Prop:=fun μ tm H=>∃t42:Int,tm=(f20z_P2 b1 b2 cc nc dc bd ae cd t42)∧Inv μ t42 H
theorem f20z_L2 (b1 b2:Nat) (cc:OA) (nc dc:Nat) (bd:OA) (ae cd:Nat) {Q:Post} (Inv:Nat→Int→zn→Prop) (ν:Nat) (t42:Int)  (H:zn) (h0:Inv ν t42 H)
  (hs:∀(μ:Nat) (t42:Int)  (H:zn),Inv μ t42 H→exL Tryz.prog z6g (cl (cl (cr (cr (cr (cr (zo Tryz.f116))))))) 6597069767683 0 [(2,0)] (f20z_P2 b1 b2 cc nc dc bd ae cd t42) H (zx (f20z_I2 b1 b2 cc nc dc bd ae cd Inv) μ Q)):z1j (exL Tryz.prog z6g (cl (cl (cr (cr (cr (cr (zo Tryz.f116))))))) 6597069767683 0 [(2,0)]) (f20z_P2 b1 b2 cc nc dc bd ae cd t42) H Q:=
 ⟨f20z_I2 b1 b2 cc nc dc bd ae cd Inv,ν,⟨t42,rfl,h0⟩,fun μ tm H h=>by obtain ⟨t42,rfl,hI⟩:=h;exact hs μ t42  H hI⟩
theorem f20z_n2 {b1 b2:Nat} {cc:OA} {nc dc:Nat} {bd:OA} {ae cd:Nat} {Q:Post} {Inv:Nat→Int→zn→Prop} {μ:Nat} (μ':Nat) {t42:Int}  {H:zn} (hm:μ'<μ) (hI:Inv μ' t42 H):zx (f20z_I2 b1 b2 cc nc dc bd ae cd Inv) μ Q .normal (f20z_P2 b1 b2 cc nc dc bd ae cd t42) H:=⟨μ',hm,t42,rfl,hI⟩
theorem f20z_x2_2  (H:zn) (K:KT)  {I:Nat→List Value→zn→Prop} {μ:Nat}:zx I μ (zu 2 (retK Tryz.prog Tryz.f116 K)) (.exit 2) (ud59 []) H=
 (K (.tuple #[]) H):=by kernel_rfl
theorem zua:∀g,FnOk Tryz.prog g (z6g g):=FnOk.envOf (by
 intro x hx
 simp only [List.mem_cons,List.not_mem_nil,or_false] at hx
 rcases hx with rfl | rfl | rfl
 ·exact f1z_ok
 ·exact z1cv
 ·exact f0z_ok)
theorem f20z_main (cc:OA) (dc nc:Nat) (bd:OA) (cd ae:Nat) (i:Int) (w:Nat) (back:Bool) (H:zn) (K:KT) (h:zos cc dc nc bd cd ae i w back H fun  (H':zn)=>K (.tuple #[]) H'):zt Tryz.prog z6g Tryz.f116 [.slice cc dc nc,.slice bd cd ae,.int .i64 i,.float .f32 w,.bool back] H K:=by
 rw [f20z_vc]
 obtain ⟨lo,lob,gc,yc,i_evens,i_odds,sp_m,bd_112,bd_113,pr0,pr1,pr2,hk⟩:=h
 have hk:(∀H':zn,z2x cc bd H H'→OwnS fF H' lo cc dc nc ((zep gc yc i w back).1)→OwnS fF H' lob bd cd ae ((zep gc yc i w back).2)→(fun  (H':zn)=>K (.tuple #[]) H')  H'):=by rw [f20z_val gc yc i w back];exact hk
 obtain rfl:=i_evens.len
 obtain rfl:=i_odds.len
 have up_p:=i_evens.up
 have lo_p:=i_evens.lo
 have up_q:=i_odds.up
 have lo_q:=i_odds.lo
 have e:(zep gc yc i w back)=_:=rfl
 have e:=e.trans (zlm gc yc i w back)
 have g0:=z2x.refl cc bd H
 refine Al.intro (fun b_1 H_1 hb_2 hl_3 g_4 o_5=>?_)
 have l_7:=g_4.1
 have g_8:=g0.trans g_4
 have l_9:=g_8.1
 have r_10:=i_evens.grow g_4
 have r_11:=i_odds.grow g_4
 have w111:=o_5.lt
 refine Al.intro (fun b_12 H_2 hb_13 hl_14 g15 o16=>?_)
 have l_18:=g15.1
 have g_19:=g_8.trans g15
 have l_20:=g_19.1
 have o21:=o_5.grow g15
 have w22:=o21.lt
 have r_23:=r_10.grow g15
 have r_24:=r_11.grow g15
 have w110:=o16.lt
 refine ⟨ω22,?_⟩
 have z25:=za1 i 2
 have z26:=zcb i 2
 refine Br.intro (fun c_27=>?_) (fun c_27=>?_)
 ·have e:=e.trans (zw c_27)
  have c_27':=zbc c_27
  refine f20z_L1 _ _ _ _ _ _ _ _ (fun (μ:Nat) (t23:Int) (H_3:zn)=>∃y1_1:LN,Own H_3 b_1 ([.float .f32 w])∧Own H_3 b_12 ([.bool back])∧OwnS fF H_3 lo cc gc.length nc gc∧OwnS fF H_3 lob bd yc.length ae y1_1∧y1_1.length=(yc).length∧(b_12≠b_1)∧H.length≤H_3.length∧H.length≤H_3.length∧z2x cc bd H H_3∧(0:Int)≤t23∧t23≤(yc.length:Int)∧(yc.length:Int)-t23≤(μ:Int)∧zep gc yc i w back=z7p gc yc i w back (μ+1) t23 y1_1) (Int.toNat ((yc.length:Int)-(0:Int))) _ H_2 ?_ ?_
  ·exact ⟨_,o21,o16,r_23,r_24,ω17,ω2,ω2,ω2,g_19,ω7,ω7,ω2,e⟩
  ·intro μ t23  H_3 hI
   obtain ⟨y1_1,o28,o29,r30,r31,y32,n33,n34,n35,g36,v_37,v_38,hμ,e⟩:=hI
   rw [f20z_r1]
   have e:=e.trans (zeq gc yc i w back μ t23 y1_1)
   have w39:=o28.lt
   have w40:=o29.lt
   have l41:=g36.1
   refine Br.intro (fun c42=>?_) (fun c42=>?_)
   ·have e:=e.trans (zw c42)
    have c_42':=odt c42
    refine z1bd ⟨_,r30.isL,ω0,ω10,ω10,?_⟩
    obtain ⟨b43,f_44,q45⟩:=(r31.isL).pos ω0
    refine ⟨by omega,by omega,b43,f_44,q45,?_⟩
    unfold zg5
    refine ⟨w,(o28.rdC _).trans rfl,?_⟩
    refine ⟨back,(o29.rdC _).trans rfl,?_⟩
    refine Br.intro (fun c46=>?_) (fun c46=>?_)
    ·have e:=e.trans (zw c46)
     refine ⟨((y1_1).getD (t23:Int).toNat 0),(r31.isL).rd (Grow.refl _) q45 ω2 _,?_⟩
     refine Lt.setS r31 q45 ω8 (fun H_4 hl_47 o49 k48=>?_)
     have l50:=k48.1
     have g51:=g36.transB k48
     have l52:=g51.1
     have o53:=o28.keepA (fun x hx=>by have:=lo_q x hx;have:=up_q x hx;omega) k48
     have w54:=o53.lt
     have o55:=o29.keepA (fun x hx=>by have:=lo_q x hx;have:=up_q x hx;omega) k48
     have w56:=o55.lt
     have r57:=r30.keepA (sp_m).symm k48
     rw [show IntKind.wrap .i64 (t23+1)=(t23+1) from zp ω2 ω2]
     refine f20z_n1 (μ-1) ω16 ⟨_,o53,o55,r57,o49,ω23,ω2,ω2,ω2,ω2,ω1,ω1,ω16,ω13⟩
    ·have e:=e.trans (zv c46)
     refine ⟨((y1_1).getD (t23:Int).toNat 0),(r31.isL).rd (Grow.refl _) q45 ω2 _,?_⟩
     refine Lt.setS r31 q45 ω8 (fun H_5 hl_58 o60 k59=>?_)
     have l61:=k59.1
     have g62:=g36.transB k59
     have l63:=g62.1
     have o64:=o28.keepA (fun x hx=>by have:=lo_q x hx;have:=up_q x hx;omega) k59
     have w65:=o64.lt
     have o66:=o29.keepA (fun x hx=>by have:=lo_q x hx;have:=up_q x hx;omega) k59
     have w67:=o66.lt
     have r68:=r30.keepA (sp_m).symm k59
     rw [show IntKind.wrap .i64 (t23+1)=(t23+1) from zp ω2 ω2]
     refine f20z_n1 (μ-1) ω16 ⟨_,o64,o66,r68,o60,ω23,ω2,ω2,ω2,ω2,ω1,ω1,ω16,ω13⟩
   ·have e:=e.trans (zv c42)
    have c_42':=odf c42
    rw [f20z_x1_0]
    rw [e] at hk
    exact hk H_3 g36 r30 r31
 ·have e:=e.trans (zv c_27)
  have c_27':=zbb c_27
  refine f20z_L2 _ _ _ _ _ _ _ _ (fun (μ:Nat) (t42:Int) (H_6:zn)=>∃y2_1:LN,Own H_6 b_1 ([.float .f32 w])∧Own H_6 b_12 ([.bool back])∧OwnS fF H_6 lo cc gc.length nc y2_1∧y2_1.length=(gc).length∧OwnS fF H_6 lob bd yc.length ae yc∧(b_12≠b_1)∧H.length≤H_6.length∧H.length≤H_6.length∧z2x cc bd H H_6∧(0:Int)≤t42∧t42≤(gc.length:Int)∧(gc.length:Int)-t42≤(μ:Int)∧zep gc yc i w back=z7q gc yc i w back (μ+1) t42 y2_1) (Int.toNat ((gc.length:Int)-(0:Int))) _ H_2 ?_ ?_
  ·exact ⟨_,o21,o16,r_23,ω17,r_24,ω2,ω2,ω2,g_19,ω7,ω7,ω2,e⟩
  ·intro μ t42  H_6 hI
   obtain ⟨y2_1,o69,o70,r71,y72,r73,n74,n75,n76,g77,v_78,v_79,hμ,e⟩:=hI
   rw [f20z_r2]
   have e:=e.trans (zer gc yc i w back μ t42 y2_1)
   have w80:=o69.lt
   have w81:=o70.lt
   have l82:=g77.1
   refine Br.intro (fun c83=>?_) (fun c83=>?_)
   ·have e:=e.trans (zw c83)
    have c_83':=odt c83
    refine z1bc ⟨_,r73.isL,ω0,ω10,ω10,ω10,?_⟩
    obtain ⟨b84,f85,q86⟩:=(r71.isL).pos ω0
    refine ⟨by omega,by omega,b84,f85,q86,?_⟩
    unfold zg5
    refine ⟨w,(o69.rdC _).trans rfl,?_⟩
    refine ⟨back,(o70.rdC _).trans rfl,?_⟩
    refine Br.intro (fun c87=>?_) (fun c87=>?_)
    ·have e:=e.trans (zw c87)
     refine ⟨((y2_1).getD (t42:Int).toNat 0),(r71.isL).rd (Grow.refl _) q86 ω2 _,?_⟩
     refine Lt.setS r71 q86 ω8 (fun H_7 hl_88 o90 k89=>?_)
     have l91:=k89.1
     have g92:=g77.transA k89
     have l93:=g92.1
     have o94:=o69.keepA (fun x hx=>by have:=lo_p x hx;have:=up_p x hx;omega) k89
     have w95:=o94.lt
     have o96:=o70.keepA (fun x hx=>by have:=lo_p x hx;have:=up_p x hx;omega) k89
     have w97:=o96.lt
     have r98:=r73.keepA (sp_m) k89
     rw [show IntKind.wrap .i64 (t42+1)=(t42+1) from zp ω2 ω2]
     refine f20z_n2 (μ-1) ω16 ⟨_,o94,o96,o90,ω23,r98,ω2,ω2,ω2,ω2,ω1,ω1,ω16,ω13⟩
    ·have e:=e.trans (zv c87)
     refine ⟨((y2_1).getD (t42:Int).toNat 0),(r71.isL).rd (Grow.refl _) q86 ω2 _,?_⟩
     refine Lt.setS r71 q86 ω8 (fun H_8 hl_99 o101 k100=>?_)
     have l102:=k100.1
     have g103:=g77.transA k100
     have l104:=g103.1
     have o105:=o69.keepA (fun x hx=>by have:=lo_p x hx;have:=up_p x hx;omega) k100
     have w106:=o105.lt
     have o107:=o70.keepA (fun x hx=>by have:=lo_p x hx;have:=up_p x hx;omega) k100
     have w108:=o107.lt
     have r109:=r73.keepA (sp_m) k100
     rw [show IntKind.wrap .i64 (t42+1)=(t42+1) from zp ω2 ω2]
     refine f20z_n2 (μ-1) ω16 ⟨_,o105,o107,o101,ω23,r109,ω2,ω2,ω2,ω2,ω1,ω1,ω16,ω13⟩
   ·have e:=e.trans (zv c83)
    have c_83':=odf c83
    rw [f20z_x2_2]
    rw [e] at hk
    exact hk H_6 g77 r71 r73
theorem f20z_ok:FnOk Tryz.prog 116 z19h:=FnOk.bodyF mix_ok zua Tryz.func116 rfl ω9 ω9 fun args H=>by
 unfold z18e
 split
 ·refine ⟨?_,?_,?_,?_,fun K hk=>f20z_main _ _ _ _ _ _ _ _ _ H K hk⟩
  ·intro K K' h hk;obtain ⟨lo,lob,gc,yc,i_evens,i_odds,sp_m,bd_112,bd_113,pr0,pr1,pr2,k⟩:=hk;exact ⟨lo,lob,gc,yc,i_evens,i_odds,sp_m,bd_112,bd_113,pr0,pr1,pr2,(fun H' gg ow ow2=>h _ _ (k H' gg ow ow2))⟩
  ·nofun
  ·intro K hk;obtain ⟨lo,lob,gc,yc,i_evens,i_odds,sp_m,bd_112,bd_113,pr0,pr1,pr2,k⟩:=hk;exact (i_evens.put2 i_odds sp_m _ _ (by rw [z9t]) (by rw [z8o])).elim fun H1 h=>⟨_,_,k H1 h.1 h.2.1 h.2.2⟩
  ·nofun
 ·exact Nice.no

def z6m (ma:LN) (bb:Nat) (ab:LN) (t34:Int) (y1_1 y1_2:LN) (t47:Int) (y2_1 y2_2:LN) (k3_4:Int→LN→(LN×LN×Bool)):Nat→Int→LN→LN×LN×Bool
 | 0,_,_=>([],[],false)
 | μ3+1,t61,y3_1=>(bif decide ((t61:Int)<(((ods ab)).length:Int)) then (z6m ma bb ab t34 y1_1 y1_2 t47 y2_1 y2_2 k3_4 μ3 (t61+1) (((y3_1).set (t61:Int).toNat ((fdiv .f32 (((y3_1).getD (t61:Int).toNat 0)) bb))))) else (k3_4 t61 y3_1))
def zeh:=fun ma bb ab t34 y1_1 y1_2 t47 y2_1 y2_2 k3_4 μ3 t61 y3_1=>@z6m.eq_2 ma bb ab t34 y1_1 y1_2 t47 y2_1 y2_2 k3_4 t61 y3_1 μ3
def z9e (ma:LN) (bb:Nat) (ab:LN) (t34:Int) (y1_1 y1_2:LN) (k2_2:Int→LN→LN→(LN×LN×Bool)):Nat→Int→LN→LN→LN×LN×Bool
 | 0,_,_,_=>([],[],false)
 | μ2+1,t47,y2_1,y2_2=>(bif decide ((t47:Int)<(((evs ab)).length:Int)) then (z9e ma bb ab t34 y1_1 y1_2 k2_2 μ2 (t47+1) (((y2_1).set (t47:Int).toNat ((fmul .f32 (((y2_1).getD (t47:Int).toNat 0)) bb)))) y2_2) else (k2_2 t47 y2_1 y2_2))
def zeg:=fun ma bb ab t34 y1_1 y1_2 k2_2 μ2 t47 y2_1 y2_2=>@z9e.eq_2 ma bb ab t34 y1_1 y1_2 k2_2 t47 y2_1 y2_2 μ2
def z5l (ma:LN) (bb:Nat) (ab:LN):Nat→Int→LN→LN→LN×LN×Bool
 | 0,_,_,_=>([],[],false)
 | μ+1,t34,y1_1,y1_2=>(bif decide ((t34:Int)<(ma.length:Int)) then (z5l ma bb ab μ (t34+1) ((zcc t34 (((ma).getD (t34:Int).toNat 0)) false y1_1 y1_2)) ((z7u t34 (((ma).getD (t34:Int).toNat 0)) false y1_1 y1_2))) else (z9e ma bb ab t34 y1_1 y1_2 (fun (t47:Int) (y2_1:LN) (y2_2:LN)=>(z6m ma bb ab t34 y1_1 y1_2 t47 y2_1 y2_2 (fun (t61:Int) (y3_1:LN)=>(bif !((z7i ([y2_1,y3_1]))) then ([],[],false) else (y2_1,y3_1,true))) (Int.toNat ((((ods ab)).length:Int)-(0:Int))+1) (0:Int) y2_2)) (Int.toNat ((((evs ab)).length:Int)-(0:Int))+1) (0:Int) y1_1 y1_2))
def z8f:=fun ma bb ab μ t34 y1_1 y1_2=>@z5l.eq_2 ma bb ab t34 y1_1 y1_2 μ
def z1n (ma:LN) (bb:Nat) (ab:LN):LN×LN×Bool:=((bif !(z7h ma bb) then ([],[],false) else (bif !(zac ab) then ([],[],false) else (bif ((((ods ab)).length:Int):Int)==0 then ((evs ab),(ods ab),true) else (z5l ma bb ab (Int.toNat ((ma.length:Int)-(0:Int))+1) (0:Int) (evs ab) (ods ab))))))
def zl8:=@z1n.eq_1
def zo6 (gb:OA) (mb pb bb:Nat) (tb:OA) (qb bc:Nat) (H:zn) (K:OA→Nat→Nat→OA→Nat→Nat→Bool→zn→Prop):Prop:=∃(ma ab:LN),IsL fF H gb mb ma∧IsL fF H tb qb ab∧ma.length<1073741824∧ab.length<1073741824∧((∀(jd:OA) (pd od:Nat),∀(nh:OA) (xh wh:Nat),∀H':zn,Grow H H'→OwnS fF H' H.length jd pd od ((z1n ma bb ab).1)→OwnS fF H' H.length nh xh wh ((z1n ma bb ab).2.1)→SepA jd nh→K jd pd od nh xh wh ((z1n ma bb ab).2.2) H'))
theorem z10v {gb:OA} {mb pb bb:Nat} {tb:OA} {qb bc:Nat} {H:zn} {K:OA→Nat→Nat→OA→Nat→Nat→Bool→zn→Prop} (h:∃(ma ab:LN),IsL fF H gb mb ma∧IsL fF H tb qb ab∧ma.length<1073741824∧ab.length<1073741824∧((∀(jd:OA) (pd od:Nat),∀(nh:OA) (xh wh:Nat),∀H':zn,Grow H H'→OwnS fF H' H.length jd pd od ((z1n ma bb ab).1)→OwnS fF H' H.length nh xh wh ((z1n ma bb ab).2.1)→SepA jd nh→K jd pd od nh xh wh ((z1n ma bb ab).2.2) H'))):zo6 gb mb pb bb tb qb bc H K:=h
def wfI:LN→Int→LN→LN→LN×LN
 | [],_,lo,hi=>(lo,hi)
 | w::ws,k,lo,hi=>wfI ws (k+1) (zcc k w false lo hi) (z7u k w false lo hi)
theorem zcd:∀(ws:LN) (k:Int) (lo hi:LN),(wfI ws k lo hi).1.length=lo.length∧(wfI ws k lo hi).2.length=hi.length:=by
 intro ws
 induction ws with
 | nil=>intro k lo hi;exact ⟨rfl,rfl⟩
 | cons w ws ih=>
  intro k lo hi
  obtain ⟨h1,h2⟩:=ih (k+1) (zcc k w false lo hi) (z7u k w false lo hi)
  exact ⟨h1.trans (z9t _ _ _ _ _),h2.trans (z8o _ _ _ _ _)⟩
theorem zr1 (ws:LN) (sc:Nat) (l:LN) (K2:Int→LN→LN→LN×LN×Bool)
  (hK:∀(k:Int) (y1 y2:LN),z5l ws sc l 1 k y1 y2=bif decide (k<(ws.length:Int)) then z5l ws sc l 0 (k+1) (zcc k (ws.getD k.toNat 0) false y1 y2) (z7u k (ws.getD k.toNat 0) false y1 y2) else K2 k y1 y2):∀(μ k:Nat) (y1 y2:LN),k≤ws.length→ws.length-k<μ→
  z5l ws sc l μ (k:Int) y1 y2=K2 (ws.length:Int) (wfI (ws.drop k) (k:Int) y1 y2).1 (wfI (ws.drop k) (k:Int) y1 y2).2:=by
 intro μ
 induction μ with
 | zero=>intro k y1 y2 _ h;omega
 | succ μ ih=>
  intro k y1 y2 hk hm
  by_cases h:k<ws.length
  ·rw [z8f]
   rw [dct (show (k:Int)<(ws.length:Int) by omega),cond_true,Int.toNat_natCast]
   have:=ih (k+1) (zcc k (ws.getD k 0) false y1 y2) (z7u k (ws.getD k 0) false y1 y2) ω2 ω2
   have e:ws.getD k 0=ws[k]:=by simp [List.getD_eq_getElem?_getD,h]
   rw [List.drop_eq_getElem_cons h,wfI]
   rw [e] at this ⊢
   exact this
  ·have e:k=ws.length:=by omega
   have h1:=hK (k:Int) y1 y2
   rw [z8f] at h1 ⊢
   rw [dcf (show ¬(k:Int)<(ws.length:Int) by omega),cond_false,cond_false] at h1
   rw [dcf (show ¬(k:Int)<(ws.length:Int) by omega),cond_false,e,List.drop_length,wfI,←e]
   exact h1
theorem zgg (W ys:LN) (i:Nat) (hi:i<ys.length) (hl:W.length=ys.length):(W.take i++ys.drop i).getD i 0=ys.getD i 0:=by
 rw [List.getD_eq_getElem?_getD,List.getD_eq_getElem?_getD,List.getElem?_append_right (by simp;omega)]
 have:(W.take i).length=i:=by simp;omega
 rw [this,Nat.sub_self,List.getElem?_drop,Nat.add_zero]
theorem zr2 (ws:LN) (sc:Nat) (l:LN) (i:Int) (a b:LN) (K3:Int→LN→LN→LN×LN×Bool) (A:LN) (hA:A.length=(evs l).length) (y2:LN):∀(μ j:Nat),j≤(evs l).length→(evs l).length-j<μ→
  z9e ws sc l i a b K3 μ (j:Int) ((A.map fun x=>fmul .f32 x sc).take j++A.drop j) y2=K3 ((evs l).length:Int) (A.map fun x=>fmul .f32 x sc) y2:=by
 intro μ
 induction μ with
 | zero=>intro k _ h;omega
 | succ μ ih=>
  intro j hj hm
  rw [zeg]
  by_cases h:j<(evs l).length
  ·rw [dct (show (j:Int)<((evs l).length:Int) by omega),cond_true,Int.toNat_natCast,zgg _ _ _ ω2 ω32]
   have:=ih (j+1) ω2 ω2
   rw [z3m (A.map fun x=>fmul .f32 x sc) A j ω2 ω32 _ (by simp [List.getD_eq_getElem?_getD,show j<A.length by omega])]
   exact this
  ·have e:j=(evs l).length:=by omega
   rw [dcf (show ¬(j:Int)<((evs l).length:Int) by omega),cond_false,e,List.take_of_length_le (by simp [hA]),List.drop_of_length_le ω2,List.append_nil]
theorem zr3 (ws:LN) (sc:Nat) (l:LN) (i:Int) (a b:LN) (k:Int) (c d:LN) (K4:Int→LN→LN×LN×Bool) (A:LN) (hA:A.length=(ods l).length):∀(μ j:Nat),j≤(ods l).length→(ods l).length-j<μ→
  z6m ws sc l i a b k c d K4 μ (j:Int) ((A.map fun x=>fdiv .f32 x sc).take j++A.drop j)=K4 ((ods l).length:Int) (A.map fun x=>fdiv .f32 x sc):=by
 intro μ
 induction μ with
 | zero=>intro k _ h;omega
 | succ μ ih=>
  intro j hj hm
  rw [zeh]
  by_cases h:j<(ods l).length
  ·rw [dct (show (j:Int)<((ods l).length:Int) by omega),cond_true,Int.toNat_natCast,zgg _ _ _ ω2 ω32]
   have:=ih (j+1) ω2 ω2
   rw [z3m (A.map fun x=>fdiv .f32 x sc) A j ω2 ω32 _ (by simp [List.getD_eq_getElem?_getD,show j<A.length by omega])]
   exact this
  ·have e:j=(ods l).length:=by omega
   rw [dcf (show ¬(j:Int)<((ods l).length:Int) by omega),cond_false,e,List.take_of_length_le (by simp [hA]),List.drop_of_length_le ω2,List.append_nil]
def z8q (ws:LN) (sc:Nat) (l:LN):LN:=(wfI ws 0 (evs l) (ods l)).1.map fun x=>fmul .f32 x sc
def z8r (ws:LN) (sc:Nat) (l:LN):LN:=(wfI ws 0 (evs l) (ods l)).2.map fun x=>fdiv .f32 x sc
theorem zai (ws:LN) (sc:Nat) (l:LN):z1n ws sc l=(bif !(z7h ws sc) then ([],[],false) else (bif !(zac l) then ([],[],false) else (bif ((((ods l)).length:Int):Int)==0 then ((evs l),(ods l),true) else
  (bif !((z7i ([z8q ws sc l,z8r ws sc l]))) then ([],[],false) else (z8q ws sc l,z8r ws sc l,true))))):=by
 rw [zl8]
 have h1:=zr1 ws sc l _ (fun k y1 y2=>z8f ws sc l 0 k y1 y2) (Int.toNat ((ws.length:Int)-(0:Int))+1) 0 (evs l) (ods l) ω2 ω2
 obtain ⟨l1,l2⟩:=zcd ws 0 (evs l) (ods l)
 rw [List.drop_zero] at h1
 have h2:=fun i a b K3 y2=>zr2 ws sc l i a b K3 (wfI ws ((0:Nat):Int) (evs l) (ods l)).1 l1 y2 (Int.toNat ((((evs l)).length:Int)-(0:Int))+1) 0 ω2 ω2
 simp only [List.take_zero,List.drop_zero,List.nil_append] at h2
 have h3:=fun i a b k c d K4=>zr3 ws sc l i a b k c d K4 (wfI ws ((0:Nat):Int) (evs l) (ods l)).2 l2 (Int.toNat ((((ods l)).length:Int)-(0:Int))+1) 0 ω2 ω2
 simp only [List.take_zero,List.drop_zero,List.nil_append] at h3
 have e:z5l ws sc l (Int.toNat ((ws.length:Int)-(0:Int))+1) (0:Int) (evs l) (ods l)=(bif !((z7i ([z8q ws sc l,z8r ws sc l]))) then ([],[],false) else (z8q ws sc l,z8r ws sc l,true)):=by
  refine Eq.trans h1 ?_
  refine Eq.trans (h2 _ _ _ _ _) ?_
  exact h3 _ _ _ _ _ _ _
 rw [e]
theorem ze0 (ws:LN) (sc:Nat) (l:LN):(z1n ws sc l).1.length≤l.length∧(z1n ws sc l).2.1.length≤l.length∧((z1n ws sc l).1.length=0→(z1n ws sc l).2.1.length=0):=by
 rw [zai]
 obtain ⟨h1,h2⟩:=zcd ws 0 (evs l) (ods l)
 have h3:(z8q ws sc l).length=(l.length+1) / 2:=by unfold z8q;simp [h1,z4x]
 have h4:(z8r ws sc l).length=l.length / 2:=by unfold z8r;simp [h2,z5b]
 have h5:=z4x l
 have h6:=z5b l
 cases !(z7h ws sc)<;>cases !(zac l)<;>cases (((((ods l)).length:Int):Int)==0)<;>cases !((z7i ([z8q ws sc l,z8r ws sc l])))<;>refine ⟨?_,?_,fun h=>?_⟩<;>simp only [cond_true,cond_false,List.length_nil] at *<;>omega
theorem zr4 (ws:LN) (sc:Nat) (l:LN) (h:(z1n ws sc l).2.2=true):(z1n ws sc l).1.length=(l.length+1) / 2∧(z1n ws sc l).2.1.length=l.length / 2:=by
 rw [zai] at h ⊢
 obtain ⟨h1,h2⟩:=zcd ws 0 (evs l) (ods l)
 have h3:(z8q ws sc l).length=(l.length+1) / 2:=by unfold z8q;simp [h1,z4x]
 have h4:(z8r ws sc l).length=l.length / 2:=by unfold z8r;simp [h2,z5b]
 have h5:=z4x l
 have h6:=z5b l
 revert h
 cases !(z7h ws sc)<;>cases !(zac l)<;>cases (((((ods l)).length:Int):Int)==0)<;>cases !((z7i ([z8q ws sc l,z8r ws sc l])))<;>simp only [cond_true,cond_false]<;>intro h<;>first | exact ⟨h3,h4⟩ | exact ⟨h5,h6⟩ | cases h
def z3v:Env:=envOf [(49,S_fdz),(114,z19c),(115,S_f7z),(116,z19h),(104,zux)]
def z17b (args:List Value) (H:zn):(Value→zn→Prop)→Prop:=match args with
 | [.agg ⟨[.slice gb mb pb,.float .f32 bb]⟩,.slice tb qb bc]=>fun K=>zo6 gb mb pb bb tb qb bc H fun (jd:OA) (pd:Nat) (od:Nat) (nh:OA) (xh:Nat) (wh:Nat) (r3:Bool) (H':zn)=>K (.tuple #[.slice jd pd od,.slice nh xh wh,.bool r3]) H'
 | _=>fun _=>False
def z18m:FSpec:={F:=z17b,quiet:=false,tame:=true}
theorem f14z_vc (gb:OA) (mb pb bb:Nat) (tb:OA) (qb bc:Nat) (H:zn) (K:KT):zt Tryz.prog z3v Tryz.f71 [.agg #[.slice gb mb pb,.float .f32 bb],.slice tb qb bc] H K=
 (Al [.slice gb mb pb,.float .f32 bb] H fun b1 H1=>∃ui:OA,∃(wi vi c2:Nat),  rdN H1 b1 0 2=some [.slice ui wi vi,.float .f32 c2]∧zqa ui wi vi c2 H1 fun (r1:Bool) (H2:zn)=>Br (!r1) (K (.tuple #[.slice none 0 0,.slice none 0 0,.bool false]) H2) (zom tb qb bc H2 fun (r2:Bool) (H3:zn)=>Br (!r2) (K (.tuple #[.slice none 0 0,.slice none 0 0,.bool false]) H3) (T_f7z tb qb bc H3 fun (a1:OA) (r3:Nat) (r4:Nat) (a2:OA) (r5:Nat) (r6:Nat) (H4:zn)=>Br (((r5:Int):Int)==0) (K (.tuple #[.slice a1 r3 r4,.slice a2 r5 r6,.bool true]) H4) (∃vg:OA,∃(pg yg:Nat),  rdC H4 b1 0=some (.slice vg pg yg)∧z1j (exL Tryz.prog z3v (cl (cl (cr (cl (cr (cr (cr (cr (zo Tryz.f71))))))))) 30064771460 112 [(0,388)]) (ud2 (.pointer (some ⟨b1,0,none⟩)::ud4 (.slice a1 r3 r4::.slice a2 r5 r6::ud23 (.slice vg pg yg::.int .i64 (pg:Int)::.int .i64 0::ud45 [])))) H4 (zu 0 (seqQ (exL Tryz.prog z3v (cr (cr (cr (cr (cr (zo Tryz.f71)))))) 112 112 []) (retK Tryz.prog Tryz.f71 K))))))):=by kernel_rfl
abbrev f14z_P1 (a1 a2:OA) (b1 r3 r4 r5 r6:Nat) (vg:OA) (yg pg:Nat) (t34:Int)  :List Value:=(ud2 (.pointer (some ⟨b1,0,none⟩)::ud4 (.slice a1 r3 r4::.slice a2 r5 r6::ud23 (.slice vg pg yg::.int .i64 (pg:Int)::.int .i64 t34::ud45 []))))
theorem f14z_r1 (a1 a2:OA) (b1 r3 r4 r5 r6:Nat) (vg:OA) (yg pg:Nat) (t34:Int)  (H:zn) (R:Post):exL Tryz.prog z3v (cl (cl (cr (cl (cr (cr (cr (cr (zo Tryz.f71))))))))) 30064771460 112 [(0,388)] (f14z_P1 a1 a2 b1 r3 r4 r5 r6 vg yg pg t34) H R=
 (Br (decide ((t34:Int)<(pg:Int))) ((0:Int)≤t34∧t34<(pg:Int)∧∃b2 f1,(vg:OA)=some ⟨b2,f1,none⟩∧∃x2:Nat,  rdC H b2 (f1+(t34:Int).toNat*1)=some (.float .f32 x2)∧zos a1 r3 r4 a2 r5 r6 t34 x2 false H fun  (H5:zn)=>R .normal (ud2 (.pointer (some ⟨b1,0,none⟩)::ud4 (.slice a1 r3 r4::.slice a2 r5 r6::ud23 (.slice vg pg yg::.int .i64 (pg:Int)::.int .i64 (IntKind.wrap .i64 (t34+1))::ud45 [])))) H5) (R (.exit 0) (ud2 (.pointer (some ⟨b1,0,none⟩)::ud4 (.slice a1 r3 r4::.slice a2 r5 r6::ud71 []))) H)):=by kernel_rfl
def f14z_I1 (a1 a2:OA) (b1 r3 r4 r5 r6:Nat) (vg:OA) (yg pg:Nat) (Inv:Nat→Int→zn→Prop):Nat→List Value→zn→Prop:=fun μ tm H=>∃t34:Int,tm=(f14z_P1 a1 a2 b1 r3 r4 r5 r6 vg yg pg t34)∧Inv μ t34 H
theorem f14z_L1 (a1 a2:OA) (b1 r3 r4 r5 r6:Nat) (vg:OA) (yg pg:Nat) {Q:Post} (Inv:Nat→Int→zn→Prop) (ν:Nat) (t34:Int)  (H:zn) (h0:Inv ν t34 H)
  (hs:∀(μ:Nat) (t34:Int)  (H:zn),Inv μ t34 H→exL Tryz.prog z3v (cl (cl (cr (cl (cr (cr (cr (cr (zo Tryz.f71))))))))) 30064771460 112 [(0,388)] (f14z_P1 a1 a2 b1 r3 r4 r5 r6 vg yg pg t34) H (zx (f14z_I1 a1 a2 b1 r3 r4 r5 r6 vg yg pg Inv) μ Q)):z1j (exL Tryz.prog z3v (cl (cl (cr (cl (cr (cr (cr (cr (zo Tryz.f71))))))))) 30064771460 112 [(0,388)]) (f14z_P1 a1 a2 b1 r3 r4 r5 r6 vg yg pg t34) H Q:=
 ⟨f14z_I1 a1 a2 b1 r3 r4 r5 r6 vg yg pg Inv,ν,⟨t34,rfl,h0⟩,fun μ tm H h=>by obtain ⟨t34,rfl,hI⟩:=h;exact hs μ t34  H hI⟩
theorem f14z_n1 {a1 a2:OA} {b1 r3 r4 r5 r6:Nat} {vg:OA} {yg pg:Nat} {Q:Post} {Inv:Nat→Int→zn→Prop} {μ:Nat} (μ':Nat) {t34:Int}  {H:zn} (hm:μ'<μ) (hI:Inv μ' t34 H):zx (f14z_I1 a1 a2 b1 r3 r4 r5 r6 vg yg pg Inv) μ Q .normal (f14z_P1 a1 a2 b1 r3 r4 r5 r6 vg yg pg t34) H:=⟨μ',hm,t34,rfl,hI⟩
theorem f14z_x1_0 (a1 a2:OA) (b1 r3 r4 r5 r6:Nat) (H:zn) (K:KT)  {I:Nat→List Value→zn→Prop} {μ:Nat}:zx I μ (zu 0 (seqQ (exL Tryz.prog z3v (cr (cr (cr (cr (cr (zo Tryz.f71)))))) 112 112 []) (retK Tryz.prog Tryz.f71 K))) (.exit 0) (ud2 (.pointer (some ⟨b1,0,none⟩)::ud4 (.slice a1 r3 r4::.slice a2 r5 r6::ud71 []))) H=
 (z1j (exL Tryz.prog z3v (cl (cl (cr (cl (cr (cr (cr (cr (cr (zo Tryz.f71)))))))))) 211106232533380 112 [(2,388)]) (ud2 (.pointer (some ⟨b1,0,none⟩)::ud4 (.slice a1 r3 r4::.slice a2 r5 r6::ud37 (.int .i64 (r3:Int)::.int .i64 0::ud32 [])))) H (zu 2 (seqQ (exL Tryz.prog z3v (cr (cr (cr (cr (cr (cr (zo Tryz.f71))))))) 112 112 []) (retK Tryz.prog Tryz.f71 K)))):=by kernel_rfl
abbrev f14z_P2 (a1 a2:OA) (b1 r3 r4 r5 r6:Nat) (t47:Int)  :List Value:=(ud2 (.pointer (some ⟨b1,0,none⟩)::ud4 (.slice a1 r3 r4::.slice a2 r5 r6::ud37 (.int .i64 (r3:Int)::.int .i64 t47::ud32 []))))
theorem f14z_r2 (a1 a2:OA) (b1 r3 r4 r5 r6:Nat) (t47:Int)  (H:zn) (R:Post):exL Tryz.prog z3v (cl (cl (cr (cl (cr (cr (cr (cr (cr (zo Tryz.f71)))))))))) 211106232533380 112 [(2,388)] (f14z_P2 a1 a2 b1 r3 r4 r5 r6 t47) H R=
 (Br (decide ((t47:Int)<(r3:Int))) ((0:Int)≤t47∧t47<(r3:Int)∧∃b3 f2,(a1:OA)=some ⟨b3,f2,none⟩∧∃x3:Nat,  rdC H b3 (f2+(t47:Int).toNat*1)=some (.float .f32 x3)∧∃x4:Nat,  rdC H b1 1=some (.float .f32 x4)∧(0:Int)≤t47∧t47<(r3:Int)∧∃b4 f3,(a1:OA)=some ⟨b4,f3,none⟩∧isOwn H b4∧(∃l,rdN H b4 (f3+(t47:Int).toNat*1) 1=some l)∧Lt (setC H b4 (f3+(t47:Int).toNat*1) (.float .f32 (fmul .f32 x3 x4))) fun H6=>R .normal (ud2 (.pointer (some ⟨b1,0,none⟩)::ud4 (.slice a1 r3 r4::.slice a2 r5 r6::ud37 (.int .i64 (r3:Int)::.int .i64 (IntKind.wrap .i64 (t47+1))::ud32 [])))) H6) (R (.exit 2) (ud2 (.pointer (some ⟨b1,0,none⟩)::ud4 (.slice a1 r3 r4::.slice a2 r5 r6::ud71 []))) H)):=by kernel_rfl
def f14z_I2 (a1 a2:OA) (b1 r3 r4 r5 r6:Nat) (Inv:Nat→Int→zn→Prop):Nat→List Value→zn→Prop:=fun μ tm H=>∃t47:Int,tm=(f14z_P2 a1 a2 b1 r3 r4 r5 r6 t47)∧Inv μ t47 H
theorem f14z_L2 (a1 a2:OA) (b1 r3 r4 r5 r6:Nat) {Q:Post} (Inv:Nat→Int→zn→Prop) (ν:Nat) (t47:Int)  (H:zn) (h0:Inv ν t47 H)
  (hs:∀(μ:Nat) (t47:Int)  (H:zn),Inv μ t47 H→exL Tryz.prog z3v (cl (cl (cr (cl (cr (cr (cr (cr (cr (zo Tryz.f71)))))))))) 211106232533380 112 [(2,388)] (f14z_P2 a1 a2 b1 r3 r4 r5 r6 t47) H (zx (f14z_I2 a1 a2 b1 r3 r4 r5 r6 Inv) μ Q)):z1j (exL Tryz.prog z3v (cl (cl (cr (cl (cr (cr (cr (cr (cr (zo Tryz.f71)))))))))) 211106232533380 112 [(2,388)]) (f14z_P2 a1 a2 b1 r3 r4 r5 r6 t47) H Q:=
 ⟨f14z_I2 a1 a2 b1 r3 r4 r5 r6 Inv,ν,⟨t47,rfl,h0⟩,fun μ tm H h=>by obtain ⟨t47,rfl,hI⟩:=h;exact hs μ t47  H hI⟩
theorem f14z_n2 {a1 a2:OA} {b1 r3 r4 r5 r6:Nat} {Q:Post} {Inv:Nat→Int→zn→Prop} {μ:Nat} (μ':Nat) {t47:Int}  {H:zn} (hm:μ'<μ) (hI:Inv μ' t47 H):zx (f14z_I2 a1 a2 b1 r3 r4 r5 r6 Inv) μ Q .normal (f14z_P2 a1 a2 b1 r3 r4 r5 r6 t47) H:=⟨μ',hm,t47,rfl,hI⟩
theorem f14z_x2_2 (a1 a2:OA) (b1 r3 r4 r5 r6:Nat) (H:zn) (K:KT)  {I:Nat→List Value→zn→Prop} {μ:Nat}:zx I μ (zu 2 (seqQ (exL Tryz.prog z3v (cr (cr (cr (cr (cr (cr (zo Tryz.f71))))))) 112 112 []) (retK Tryz.prog Tryz.f71 K))) (.exit 2) (ud2 (.pointer (some ⟨b1,0,none⟩)::ud4 (.slice a1 r3 r4::.slice a2 r5 r6::ud71 []))) H=
 (z1j (exL Tryz.prog z3v (cl (cl (cr (cl (cr (cr (cr (cr (cr (cr (zo Tryz.f71))))))))))) 3458764513820541316 112 [(4,384)]) (ud2 (.pointer (some ⟨b1,0,none⟩)::ud4 (.slice a1 r3 r4::.slice a2 r5 r6::ud51 (.int .i64 (r5:Int)::.int .i64 0::ud18 [])))) H (zu 4 (seqQ (exL Tryz.prog z3v (cr (cr (cr (cr (cr (cr (cr (zo Tryz.f71)))))))) 112 112 []) (retK Tryz.prog Tryz.f71 K)))):=by kernel_rfl
abbrev f14z_P3 (a1 a2:OA) (b1 r3 r4 r5 r6:Nat) (t61:Int)  :List Value:=(ud2 (.pointer (some ⟨b1,0,none⟩)::ud4 (.slice a1 r3 r4::.slice a2 r5 r6::ud51 (.int .i64 (r5:Int)::.int .i64 t61::ud18 []))))
theorem f14z_r3 (a1 a2:OA) (b1 r3 r4 r5 r6:Nat) (t61:Int)  (H:zn) (R:Post):exL Tryz.prog z3v (cl (cl (cr (cl (cr (cr (cr (cr (cr (cr (zo Tryz.f71))))))))))) 3458764513820541316 112 [(4,384)] (f14z_P3 a1 a2 b1 r3 r4 r5 r6 t61) H R=
 (Br (decide ((t61:Int)<(r5:Int))) ((0:Int)≤t61∧t61<(r5:Int)∧∃b5 f4,(a2:OA)=some ⟨b5,f4,none⟩∧∃x5:Nat,  rdC H b5 (f4+(t61:Int).toNat*1)=some (.float .f32 x5)∧∃x6:Nat,  rdC H b1 1=some (.float .f32 x6)∧(0:Int)≤t61∧t61<(r5:Int)∧∃b6 f5,(a2:OA)=some ⟨b6,f5,none⟩∧isOwn H b6∧(∃l,rdN H b6 (f5+(t61:Int).toNat*1) 1=some l)∧Lt (setC H b6 (f5+(t61:Int).toNat*1) (.float .f32 (fdiv .f32 x5 x6))) fun H7=>R .normal (ud2 (.pointer (some ⟨b1,0,none⟩)::ud4 (.slice a1 r3 r4::.slice a2 r5 r6::ud51 (.int .i64 (r5:Int)::.int .i64 (IntKind.wrap .i64 (t61+1))::ud18 [])))) H7) (R (.exit 4) (ud7 (.slice a1 r3 r4::.slice a2 r5 r6::ud71 [])) H)):=by kernel_rfl
def f14z_I3 (a1 a2:OA) (b1 r3 r4 r5 r6:Nat) (Inv:Nat→Int→zn→Prop):Nat→List Value→zn→Prop:=fun μ tm H=>∃t61:Int,tm=(f14z_P3 a1 a2 b1 r3 r4 r5 r6 t61)∧Inv μ t61 H
theorem f14z_L3 (a1 a2:OA) (b1 r3 r4 r5 r6:Nat) {Q:Post} (Inv:Nat→Int→zn→Prop) (ν:Nat) (t61:Int)  (H:zn) (h0:Inv ν t61 H)
  (hs:∀(μ:Nat) (t61:Int)  (H:zn),Inv μ t61 H→exL Tryz.prog z3v (cl (cl (cr (cl (cr (cr (cr (cr (cr (cr (zo Tryz.f71))))))))))) 3458764513820541316 112 [(4,384)] (f14z_P3 a1 a2 b1 r3 r4 r5 r6 t61) H (zx (f14z_I3 a1 a2 b1 r3 r4 r5 r6 Inv) μ Q)):z1j (exL Tryz.prog z3v (cl (cl (cr (cl (cr (cr (cr (cr (cr (cr (zo Tryz.f71))))))))))) 3458764513820541316 112 [(4,384)]) (f14z_P3 a1 a2 b1 r3 r4 r5 r6 t61) H Q:=
 ⟨f14z_I3 a1 a2 b1 r3 r4 r5 r6 Inv,ν,⟨t61,rfl,h0⟩,fun μ tm H h=>by obtain ⟨t61,rfl,hI⟩:=h;exact hs μ t61  H hI⟩
theorem f14z_n3 {a1 a2:OA} {b1 r3 r4 r5 r6:Nat} {Q:Post} {Inv:Nat→Int→zn→Prop} {μ:Nat} (μ':Nat) {t61:Int}  {H:zn} (hm:μ'<μ) (hI:Inv μ' t61 H):zx (f14z_I3 a1 a2 b1 r3 r4 r5 r6 Inv) μ Q .normal (f14z_P3 a1 a2 b1 r3 r4 r5 r6 t61) H:=⟨μ',hm,t61,rfl,hI⟩
theorem f14z_x3_4 (a1 a2:OA) (r3 r4 r5 r6:Nat) (H:zn) (K:KT)  {I:Nat→List Value→zn→Prop} {μ:Nat}:zx I μ (zu 4 (seqQ (exL Tryz.prog z3v (cr (cr (cr (cr (cr (cr (cr (zo Tryz.f71)))))))) 112 112 []) (retK Tryz.prog Tryz.f71 K))) (.exit 4) (ud7 (.slice a1 r3 r4::.slice a2 r5 r6::ud71 [])) H=
 (Al [.slice a1 r3 r4,.slice a2 r5 r6] H fun b7 H8=>zmj (some ⟨b7,0,none⟩) 2 1 H8 fun (r7:Bool) (H9:zn)=>Br (!r7) (K (.tuple #[.slice none 0 0,.slice none 0 0,.bool false]) H9) (K (.tuple #[.slice a1 r3 r4,.slice a2 r5 r6,.bool true]) H9)):=by kernel_rfl
theorem zsz:∀g,FnOk Tryz.prog g (z3v g):=FnOk.envOf (by
 intro x hx
 simp only [List.mem_cons,List.not_mem_nil,or_false] at hx
 rcases hx with rfl | rfl | rfl | rfl | rfl
 ·exact zwy
 ·exact z1do
 ·exact f7z_ok
 ·exact f20z_ok
 ·exact zp6)
theorem ω24 {P:Prop} (h:P:=by first | assumption | omega | (simp only [List.length_set,z9t,z8o];first | rfl | assumption | omega)):P:=h
theorem f14z_main (gb:OA) (mb pb bb:Nat) (tb:OA) (qb bc:Nat) (H:zn) (K:KT) (h:zo6 gb mb pb bb tb qb bc H fun (jd:OA) (pd:Nat) (od:Nat) (nh:OA) (xh:Nat) (wh:Nat) (r3:Bool) (H':zn)=>K (.tuple #[.slice jd pd od,.slice nh xh wh,.bool r3]) H'):zt Tryz.prog z3v Tryz.f71 [.agg #[.slice gb mb pb,.float .f32 bb],.slice tb qb bc] H K:=by
 rw [f14z_vc]
 obtain ⟨ma,ab,xf,i_list,bd_150,bd_151,hk⟩:=h
 obtain rfl:=xf.eqn
 obtain rfl:=i_list.eqn
 have e:(z1n ma bb ab)=_:=rfl
 have e:=e.trans (zl8 ma bb ab)
 have g0:=Grow.refl H
 refine Al.intro (fun b_1 H_1 hb_2 hl_3 g_4 o_5=>?_)
 have l_7:=g_4.1
 have g_8:=g0.trans g_4
 have l_9:=g_8.1
 have w149:=o_5.lt
 refine ⟨gb,ma.length,pb,bb,(o_5.rdN (nbl rfl)).trans rfl,?_⟩
 refine zmi ⟨_,(xf.grow g_8),ω0,fun  H_2 g_10  =>?_⟩
 have l_11:=g_10.1
 have g_12:=g_8.trans g_10
 have l_13:=g_12.1
 have o_14:=o_5.grow g_10
 have w15:=o_14.lt
 refine Br.intro (fun c_16=>?_) (fun c_16=>?_)
 ·have e:=e.trans (zw c_16)
  have c_16n:=z1e c_16
  rw [e] at hk
  exact hk _ _ _ _ _ _ H_2 g_12 ω21 ω21 (fun x y hx hy=>by cases hx)
 ·have e:=e.trans (zv c_16)
  have c_16n:=z1a c_16
  refine z11j ⟨_,(i_list.grow g_12),ω0,fun  H_3 g_17  =>?_⟩
  have l_18:=g_17.1
  have g_19:=g_12.trans g_17
  have l_20:=g_19.1
  have o21:=o_14.grow g_17
  have w22:=o21.lt
  refine Br.intro (fun c23=>?_) (fun c23=>?_)
  ·have e:=e.trans (zw c23)
   have c_23n:=z1e c23
   rw [e] at hk
   exact hk _ _ _ _ _ _ H_3 g_19 ω21 ω21 (fun x y hx hy=>by cases hx)
  ·have e:=e.trans (zv c23)
   have c_23n:=z1a c23
   refine z1bj ⟨_,(i_list.grow g_19),ω0,fun a24 n25 e26 a28 n29 e30 H_4 g33 r_27 r31 p45=>?_⟩
   have z32:=zz0 ab
   have l34:=g33.1
   have g35:=g_19.trans g33
   have l36:=g35.1
   have o37:=o21.grow g33
   have w38:=o37.lt
   obtain rfl:=r_27.isL.eqn
   have u39:=r_27.up
   have u40:=r_27.lo
   obtain rfl:=r31.isL.eqn
   have u42:=r31.up
   have u43:=r31.lo
   refine Br.intro (fun c46=>?_) (fun c46=>?_)
   ·have e:=e.trans (zw c46)
    have c_46':=zbc c46
    rw [e] at hk
    exact hk _ _ _ _ _ _ H_4 g35 (r_27.weak ω2) (r31.weak ω2) p45
   ·have e:=e.trans (zv c46)
    have c_46':=zbb c46
    refine ⟨gb,ma.length,pb,(o37.rdC _).trans rfl,?_⟩
    refine f14z_L1 _ _ _ _ _ _ _ _ _ _ (fun (μ:Nat) (t34:Int) (H_5:zn)=>∃(y1_1 y1_2:LN),Own H_5 b_1 ([.slice gb ma.length pb,.float .f32 bb])∧OwnS fF H_5 H_3.length a24 (((evs ab)).length) e26 y1_1∧y1_1.length=((evs ab)).length∧OwnS fF H_5 H_3.length a28 (((ods ab)).length) e30 y1_2∧y1_2.length=((ods ab)).length∧H_4.length≤H_5.length∧H_4.length≤H_5.length∧Grow H H_5∧(0:Int)≤t34∧t34≤(ma.length:Int)∧(ma.length:Int)-t34≤(μ:Int)∧z1n ma bb ab=z5l ma bb ab (μ+1) t34 y1_1 y1_2) (Int.toNat ((ma.length:Int)-(0:Int))) _ H_4 ?_ ?_
    ·exact ⟨_,_,o37,r_27,ω17,r31,ω17,ω2,ω2,g35,ω7,ω7,ω2,e⟩
    ·intro μ t34  H_5 hI
     obtain ⟨y1_1,y1_2,o47,r48,y49,r50,y51,n52,n53,g54,v_55,v_56,hμ,e⟩:=hI
     rw [f14z_r1]
     have e:=e.trans (z8f ma bb ab μ t34 y1_1 y1_2)
     have w57:=o47.lt
     have l58:=g54.1
     refine Br.intro (fun c59=>?_) (fun c59=>?_)
     ·have e:=e.trans (zw c59)
      have c_59':=odt c59
      obtain ⟨b60,f61,q62⟩:=((xf.grow g54)).pos ω0
      refine ⟨by omega,by omega,b60,f61,q62,?_⟩
      refine ⟨((ma).getD (t34:Int).toNat 0),(xf).rd g54 q62 ω2 _,?_⟩
      refine z11q ⟨_,_,_,_,r48,r50,p45,ω0,ω0,ω10,ω10,ω10,(fun H_7 k63 o64 o65=>?_)⟩
      obtain ⟨H_6,k66,k67⟩:=k63.split
      have l68:=k66.1
      have g69:=g54.keepA (fun x hx=>by have:=u40 x hx;omega) k66
      have l70:=g69.1
      have o71:=o47.keepA (fun x hx=>by have:=u40 x hx;have:=u39 x hx;omega) k66
      have w72:=o71.lt
      have r73:=r50.keepA (p45) k66
      have l74:=k67.1
      have g75:=g69.keepA (fun x hx=>by have:=u43 x hx;omega) k67
      have l76:=g75.1
      have o77:=o71.keepA (fun x hx=>by have:=u43 x hx;have:=u42 x hx;omega) k67
      have w78:=o77.lt
      rw [show IntKind.wrap .i64 (t34+1)=(t34+1) from zp ω2 ω2]
      refine f14z_n1 (μ-1) ω16 ⟨_,_,o77,o64,ω24,o65,ω24,ω2,ω2,g75,ω1,ω1,ω16,ω13⟩
     ·have e:=e.trans (zv c59)
      have c_59':=odf c59
      rw [f14z_x1_0]
      refine f14z_L2 _ _ _ _ _ _ _ (fun (μ2:Nat) (t47:Int) (H_8:zn)=>∃(y2_1 y2_2:LN),Own H_8 b_1 ([.slice gb ma.length pb,.float .f32 bb])∧OwnS fF H_8 H_3.length a24 (((evs ab)).length) e26 y2_1∧y2_1.length=((evs ab)).length∧OwnS fF H_8 H_3.length a28 (((ods ab)).length) e30 y2_2∧y2_2.length=((ods ab)).length∧H_4.length≤H_8.length∧H_4.length≤H_8.length∧Grow H H_8∧(0:Int)≤t47∧t47≤(((evs ab)).length:Int)∧(((evs ab)).length:Int)-t47≤(μ2:Int)∧z1n ma bb ab=z9e ma bb ab t34 y1_1 y1_2 (fun (t47:Int) (y2_1:LN) (y2_2:LN)=>(z6m ma bb ab t34 y1_1 y1_2 t47 y2_1 y2_2 (fun (t61:Int) (y3_1:LN)=>(bif !((z7i ([y2_1,y3_1]))) then ([],[],false) else (y2_1,y3_1,true))) (Int.toNat ((((ods ab)).length:Int)-(0:Int))+1) (0:Int) y2_2)) (μ2+1) t47 y2_1 y2_2) (Int.toNat ((((evs ab)).length:Int)-(0:Int))) _ H_5 ?_ ?_
      ·exact ⟨_,_,o47,r48,ω17,r50,ω17,ω2,ω2,g54,ω7,ω7,ω2,e⟩
      ·intro μ2 t47  H_8 hI
       obtain ⟨y2_1,y2_2,o79,r80,y81,r82,y83,n84,n85,g86,v87,v88,hμ,e⟩:=hI
       rw [f14z_r2]
       have e:=e.trans (zeg ma bb ab t34 y1_1 y1_2 (fun (t47:Int) (y2_1:LN) (y2_2:LN)=>(z6m ma bb ab t34 y1_1 y1_2 t47 y2_1 y2_2 (fun (t61:Int) (y3_1:LN)=>(bif !((z7i ([y2_1,y3_1]))) then ([],[],false) else (y2_1,y3_1,true))) (Int.toNat ((((ods ab)).length:Int)-(0:Int))+1) (0:Int) y2_2)) μ2 t47 y2_1 y2_2)
       have w89:=o79.lt
       have l90:=g86.1
       refine Br.intro (fun c91=>?_) (fun c91=>?_)
       ·have e:=e.trans (zw c91)
        have c_91':=odt c91
        obtain ⟨b92,f_93,q94⟩:=(r80.isL).pos ω0
        refine ⟨by omega,by omega,b92,f_93,q94,?_⟩
        refine ⟨((y2_1).getD (t47:Int).toNat 0),(r80.isL).rd (Grow.refl _) q94 ω2 _,?_⟩
        refine ⟨bb,(o79.rdC _).trans rfl,?_⟩
        obtain ⟨b95,f96,q97⟩:=(r80.isL).pos ω0
        refine ⟨by omega,by omega,b95,f96,q97,?_⟩
        refine Lt.setS r80 q97 ω8 (fun H_9 hl_98 o100 k99=>?_)
        have l101:=k99.1
        have g102:=g86.keepA (fun x hx=>by have:=u40 x hx;omega) k99
        have l103:=g102.1
        have o104:=o79.keepA (fun x hx=>by have:=u40 x hx;have:=u39 x hx;omega) k99
        have w105:=o104.lt
        have r106:=r82.keepA (p45) k99
        rw [show IntKind.wrap .i64 (t47+1)=(t47+1) from zp ω2 ω2]
        refine f14z_n2 (μ2-1) ω16 ⟨_,_,o104,o100,ω24,r106,ω24,ω2,ω2,g102,ω1,ω1,ω16,ω28⟩
       ·have e:=e.trans (zv c91)
        have c_91':=odf c91
        rw [f14z_x2_2]
        refine f14z_L3 _ _ _ _ _ _ _ (fun (μ3:Nat) (t61:Int) (H_10:zn)=>∃y3_1:LN,Own H_10 b_1 ([.slice gb ma.length pb,.float .f32 bb])∧OwnS fF H_10 H_3.length a24 (((evs ab)).length) e26 y2_1∧OwnS fF H_10 H_3.length a28 (((ods ab)).length) e30 y3_1∧y3_1.length=((ods ab)).length∧H_4.length≤H_10.length∧H_4.length≤H_10.length∧Grow H H_10∧(0:Int)≤t61∧t61≤(((ods ab)).length:Int)∧(((ods ab)).length:Int)-t61≤(μ3:Int)∧z1n ma bb ab=z6m ma bb ab t34 y1_1 y1_2 t47 y2_1 y2_2 (fun (t61:Int) (y3_1:LN)=>(bif !((z7i ([y2_1,y3_1]))) then ([],[],false) else (y2_1,y3_1,true))) (μ3+1) t61 y3_1) (Int.toNat ((((ods ab)).length:Int)-(0:Int))) _ H_8 ?_ ?_
        ·exact ⟨_,o79,r80,r82,ω17,ω2,ω2,g86,ω7,ω7,ω2,e⟩
        ·intro μ3 t61  H_10 hI
         obtain ⟨y3_1,o107,r108,r109,y110,n111,n112,g113,v114,v115,hμ,e⟩:=hI
         rw [f14z_r3]
         have e:=e.trans (zeh ma bb ab t34 y1_1 y1_2 t47 y2_1 y2_2 (fun (t61:Int) (y3_1:LN)=>(bif !((z7i ([y2_1,y3_1]))) then ([],[],false) else (y2_1,y3_1,true))) μ3 t61 y3_1)
         have w116:=o107.lt
         have l117:=g113.1
         refine Br.intro (fun c118=>?_) (fun c118=>?_)
         ·have e:=e.trans (zw c118)
          have c_118':=odt c118
          obtain ⟨b119,f120,q121⟩:=(r109.isL).pos ω0
          refine ⟨by omega,by omega,b119,f120,q121,?_⟩
          refine ⟨((y3_1).getD (t61:Int).toNat 0),(r109.isL).rd (Grow.refl _) q121 ω2 _,?_⟩
          refine ⟨bb,(o107.rdC _).trans rfl,?_⟩
          obtain ⟨b122,f_123,q124⟩:=(r109.isL).pos ω0
          refine ⟨by omega,by omega,b122,f_123,q124,?_⟩
          refine Lt.setS r109 q124 ω8 (fun H_11 hl_125 o127 k126=>?_)
          have l128:=k126.1
          have g129:=g113.keepA (fun x hx=>by have:=u43 x hx;omega) k126
          have l130:=g129.1
          have o131:=o107.keepA (fun x hx=>by have:=u43 x hx;have:=u42 x hx;omega) k126
          have w132:=o131.lt
          have r133:=r108.keepA (p45).symm k126
          rw [show IntKind.wrap .i64 (t61+1)=(t61+1) from zp ω2 ω2]
          refine f14z_n3 (μ3-1) ω16 ⟨_,o131,r133,o127,ω24,ω2,ω2,g129,ω1,ω1,ω16,ω29⟩
         ·have e:=e.trans (zv c118)
          have c_118':=odf c118
          rw [f14z_x3_4]
          refine Al.intro (fun b134 H_12 hb_135 hl_136 g137 o138=>?_)
          have l140:=g137.1
          have g141:=g113.trans g137
          have l142:=g141.1
          have o143:=o107.grow g137
          have w144:=o143.lt
          have r145:=r108.grow g137
          have r146:=r109.grow g137
          have w148:=o138.lt
          refine zhu ⟨[y2_1,y3_1],⟨_,o138.rdAll rfl,LLc.cons r145.isL (LLc.cons r146.isL (LLc.nil _ _))⟩,ω0,ω15,?_⟩
          refine Br.intro (fun c147=>?_) (fun c147=>?_)
          ·have e:=e.trans (zw c147)
           have c_147n:=z1e c147
           rw [e] at hk
           exact hk _ _ _ _ _ _ H_12 g141 ω21 ω21 (fun x y hx hy=>by cases hx)
          ·have e:=e.trans (zv c147)
           have c_147n:=z1a c147
           rw [e] at hk
           exact hk _ _ _ _ _ _ H_12 g141 (r145.weak ω2) (r146.weak ω2) p45
theorem f14z_ok:FnOk Tryz.prog 71 z18m:=FnOk.bodyF mix_ok zsz Tryz.func71 rfl ω9 ω9 fun args H=>by
 unfold z17b
 split
 ·refine ⟨?_,?_,?_,?_,fun K hk=>f14z_main _ _ _ _ _ _ _ H K hk⟩
  ·intro K K' h hk;obtain ⟨ma,ab,xf,i_list,bd_150,bd_151,k⟩:=hk;exact ⟨ma,ab,xf,i_list,bd_150,bd_151,(fun jd pd od nh xh wh H' gg ow0 ow1 sp0_1=>h _ _ (k jd pd od nh xh wh H' gg ow0 ow1 sp0_1))⟩
  ·nofun
  ·intro K hk;obtain ⟨ma,ab,xf,i_list,bd_150,bd_151,k⟩:=hk;exact zxs fun a n e a2 n2 e2 H1 g o o2 sp=>⟨_,_,k a n e a2 n2 e2 H1 g o o2 sp⟩
  ·intro _ K hk;obtain ⟨ma,ab,xf,i_list,bd_150,bd_151,k⟩:=hk;exact ⟨ma,ab,xf,i_list,bd_150,bd_151,(fun jd pd od nh xh wh H' gg ow0 ow1 sp0_1=>⟨gg,k jd pd od nh xh wh H' gg ow0 ow1 sp0_1⟩)⟩
 ·exact Nice.no
def za2 (mi sb:LN) (mc:Nat):LN×Bool:=(((z1n sb mc mi).1++(z1n sb mc mi).2.1),(z1n sb mc mi).2.2)
def T_f2z (yj:OA) (zj qk cap0:Nat) (H:zn) (K:OA→Nat→Nat→Bool→zn→Prop):Prop:=∃ff:OA,∃(vf uf mc:Nat),∃(mi sb:LN),rdN H cap0 0 2=some [.slice ff vf uf,.float .f32 mc]∧IsL fF H yj zj mi∧IsL fF H ff vf sb∧mi.length<1073741824∧sb.length<1073741824∧((∀(jd:OA) (pd od:Nat),∀H':zn,Grow H H'→OwnS fF H' H.length jd pd od ((za2 mi sb mc).1)→K jd pd od ((za2 mi sb mc).2) H'))
theorem z1f1 {f:Nat→Value} {H:zn} {lo n e:Nat} {a:OA} {xs:LN} (h:OwnS f H lo a n e xs):(a=none∧xs=[])∨a≠none:=by
 obtain ⟨_,⟨h1,h2⟩ | ⟨b,h1,_⟩⟩:=h
 ·exact .inl ⟨h1,h2⟩
 ·exact .inr (by rw [h1];simp)
def E_f2z:Env:=envOf [(999997,z8n),(71,z18m)]
def F_f2z (args:List Value) (H:zn):(Value→zn→Prop)→Prop:=match args with
 | [.slice yj zj qk,.pointer (some ⟨cap0,0,none⟩)]=>fun K=>T_f2z yj zj qk cap0 H fun (jd:OA) (pd:Nat) (od:Nat) (r2:Bool) (H':zn)=>K (.tuple #[.slice jd pd od,.bool r2]) H'
 | _=>fun _=>False
def S_f2z:FSpec:={F:=F_f2z,quiet:=false,tame:=true}
theorem f2z_vc (yj:OA) (zj qk cap0:Nat) (H:zn) (K:KT):zt Tryz.prog E_f2z Tryz.f70 [.slice yj zj qk,.pointer (some ⟨cap0,0,none⟩)] H K=
 (∃ui:OA,∃(wi vi c2:Nat),  rdN H cap0 0 2=some [.slice ui wi vi,.float .f32 c2]∧zo6 ui wi vi c2 yj zj qk H fun (a1:OA) (r1:Nat) (r2:Nat) (a2:OA) (r3:Nat) (r4:Nat) (r5:Bool) (H1:zn)=>ze9 Tryz.prog 22 (.slice a1 r1 r2) (.slice a2 r3 r4) H1 (fun (v1:Value) (H3:zn)=>K (.tuple #[v1,.bool r5]) H3)∨∃o1 w1:List Value,ownB H1 a1 r1 r2 1=some o1∧rdS H1 a2 (r3*1)=some w1∧((a1:OA)=none→0<(r3:Nat))∧(r1:Nat)+r3<most∧Ap H1 (z2s H1 a1++[some ⟨o1++w1,true⟩]) fun b1 H2=>K (.tuple #[.slice (some ⟨b1,0,none⟩) (r1+r3) 1,.bool r5]) H2):=by kernel_rfl
theorem zzi:∀g,FnOk Tryz.prog g (E_f2z g):=FnOk.envOf (by
 intro x hx
 simp only [List.mem_cons,List.not_mem_nil,or_false] at hx
 rcases hx with rfl | rfl
 ·exact zf8 _
 ·exact f14z_ok)
theorem f2z_main (yj:OA) (zj qk cap0:Nat) (H:zn) (K:KT) (h:T_f2z yj zj qk cap0 H fun (jd:OA) (pd:Nat) (od:Nat) (r2:Bool) (H':zn)=>K (.tuple #[.slice jd pd od,.bool r2]) H'):zt Tryz.prog E_f2z Tryz.f70 [.slice yj zj qk,.pointer (some ⟨cap0,0,none⟩)] H K:=by
 rw [f2z_vc]
 obtain ⟨ff,vf,uf,mc,mi,sb,i_cap0,i_row,ig,bd_31,bd_32,hk⟩:=h
 obtain rfl:=i_row.eqn
 obtain rfl:=ig.eqn
 have hl:=ze0 sb mc mi
 refine ⟨ff,sb.length,uf,mc,i_cap0,?_⟩
 refine z10v ⟨_,_,ig,i_row,bd_32,bd_31,fun a1 n1 e1 a2 n2 e2 H1 g1 r1 r2 sp=>?_⟩
 have en1:=r1.1
 have en2:=r2.1
 have p1:(za2 mi sb mc).1=(z1n sb mc mi).1++(z1n sb mc mi).2.1:=rfl
 have p2:(za2 mi sb mc).2=(z1n sb mc mi).2.2:=rfl
 rw [p1,p2] at hk
 generalize (z1n sb mc mi).1=E at *
 generalize (z1n sb mc mi).2.1=O at *
 generalize (z1n sb mc mi).2.2=B at *
 rcases z1f1 r1 with ⟨z1,z2⟩ | z1
 ·left
  have hO:O=[]:=List.length_eq_zero_iff.1 (hl.2.2 (by rw [z2];rfl))
  subst z1;subst z2;subst hO
  obtain rfl:n1=0:=by simpa using en1
  obtain rfl:n2=0:=by simpa using en2
  show K _ _
  exact hk none 0 0 H1 g1 (OwnS.nil _ _ _ _)
 ·right
  refine ⟨_,_,r1.ownB,(z2h r2.isL),(fun h=>absurd h z1),ω25,?_⟩
  refine Ap.appS r1 rfl rfl (fun b H2 q hl2 o k2=>?_)
  have g2:=g1.keepA (fun x hx=>by have:=r1.lo x hx;omega) k2
  have:=g1.1
  exact hk _ _ _ H2 g2 (o.ownS (by rw [List.length_append];omega) ω2)
theorem f2z_ok:FnOk Tryz.prog 70 S_f2z:=FnOk.bodyF mix_ok zzi Tryz.func70 rfl ω9 ω9 fun args H=>by
 unfold F_f2z
 split
 ·refine ⟨?_,?_,?_,?_,fun K hk=>f2z_main _ _ _ _ H K hk⟩
  ·intro K K' h hk;obtain ⟨ff,vf,uf,mc,mi,sb,i_cap0,i_row,ig,bd_31,bd_32,k⟩:=hk;exact ⟨ff,vf,uf,mc,mi,sb,i_cap0,i_row,ig,bd_31,bd_32,(fun jd pd od H' gg ow0=>h _ _ (k jd pd od H' gg ow0))⟩
  ·nofun
  ·intro K hk;obtain ⟨ff,vf,uf,mc,mi,sb,i_cap0,i_row,ig,bd_31,bd_32,k⟩:=hk;exact z5q fun a n e H1 g o=>⟨_,_,k a n e H1 g o⟩
  ·intro _ K hk;obtain ⟨ff,vf,uf,mc,mi,sb,i_cap0,i_row,ig,bd_31,bd_32,k⟩:=hk;exact ⟨ff,vf,uf,mc,mi,sb,i_cap0,i_row,ig,bd_31,bd_32,(fun jd pd od H' gg ow0=>⟨gg,k jd pd od H' gg ow0⟩)⟩
 ·exact Nice.no
def ChOk (env:Env) (x:Value) (H0:zn) (rb fb:Nat) (a:OA) (W:Int) (m:Nat) (g:Nat→LN×Bool):Prop:=
 ∀(y:Nat),y<m→∀(H:zn),z2x (some ⟨rb,0,none⟩) (some ⟨fb,0,none⟩) H0 H→∀K:Value→zn→Prop,
  (∀(a':OA) (n' e':Nat) (H':zn),Grow H H'→OwnS fF H' H.length a' n' e' (g y).1→K (.tuple #[.slice a' n' e',.bool (g y).2]) H')→
  zfj env x [.slice ((a:OA).map fun a=>⟨a.block,a.off+((y:Int)*W).toNat*1,none⟩) ((((y:Int)+1)*W-(y:Int)*W).toNat) 0] H K
def z7v (H0 H:zn) (rb fb k m:Nat) (g:Nat→LN×Bool):Prop:=
 z2x (some ⟨rb,0,none⟩) (some ⟨fb,0,none⟩) H0 H∧∃rs fs:List Value,Own H rb rs∧Own H fb fs∧rs.length=m∧fs.length=m∧
  ∀i,i<k→fs[i]? =some (.bool (g i).2)∧∃(a:OA) (n e:Nat),rs[i]? =some (.slice a n e)∧IsL fF H a n (g i).1∧∀x,a=some x→H0.length≤x.block
theorem Own.keep2 {H H':zn} {b rb fb:Nat} {cs:List Value} (h:Own H b cs) (h1:rb≠b) (h2:fb≠b) (k:z2x (some ⟨rb,0,none⟩) (some ⟨fb,0,none⟩) H H'):Own H' b cs:=
 (k.2 b h.lt (fun x hx=>by cases hx;exact h1) (fun x hx=>by cases hx;exact h2)).trans h
theorem IsL.keepB {H H':zn} {a:OA} {n:Nat} {xs:LN} (h:IsL fF H a n xs) (hk:∀x,a=some x→H'[x.block]? =H[x.block]?):IsL fF H' a n xs:=by
 unfold IsL rdS at *
 cases n with
 | zero=>exact h
 | succ n=>
  cases a with
  | none=>exact h
  | some x=>
   have:=hk x rfl
   obtain ⟨b,off,sub⟩:=x
   cases sub with
   | none=>simp only [rdN,rdB] at h ⊢;rw [this];exact h
   | some _=>exact h
theorem extV0 {u v:Value} {K:Value→Prop}:extV (.tuple #[u,v]) 0 K=K u:=rfl
theorem extV1 {u v:Value} {K:Value→Prop}:extV (.tuple #[u,v]) 1 K=K v:=rfl
theorem zm5 {k W:Int} (h1:0≤k) (h2:k≤17) (h3:1≤W) (h4:W≤16):0≤k*W∧k*W≤272:=by
 constructor
 ·exact Int.mul_nonneg h1 ω2
 ·have:=Int.mul_le_mul h2 h4 ω2 ω2
  omega
def z6e:Env:=envOf [(999998,z8n),(70,S_f2z)]
def zup:FSpec:={F:=z6j Tryz.prog z6e Tryz.f111,quiet:=false,tame:=false}
theorem zj5:∀g,FnOk Tryz.prog g (z6e g):=FnOk.envOf (by
 intro x hx
 simp only [List.mem_cons,List.not_mem_nil,or_false] at hx
 rcases hx with rfl | rfl
 ·exact zf8 _
 ·exact f2z_ok)
theorem f19z_ok:FnOk Tryz.prog 111 zup:=FnOkX.clear mix_ok zj5 Tryz.func111 rfl ω9 ω9
theorem f19z_vc (cap0 cap1 cap2 cap3 cap4 cap5:Nat) (H:zn) (K:KT):zt Tryz.prog z6e Tryz.f111 [.pointer (some ⟨cap0,0,none⟩),.pointer (some ⟨cap1,0,none⟩),.pointer (some ⟨cap2,0,none⟩),.pointer (some ⟨cap3,0,none⟩),.pointer (some ⟨cap4,0,none⟩),.pointer (some ⟨cap5,0,none⟩)] H K=
 (∃x1:Int,  rdC H cap0 0=some (.int .i64 x1)∧z1j (exL Tryz.prog z6e (cl (cl (cr (zo Tryz.f111)))) 126 0 [(0,0)]) (ud::.pointer (some ⟨cap1,0,none⟩)::.pointer (some ⟨cap2,0,none⟩)::.pointer (some ⟨cap3,0,none⟩)::.pointer (some ⟨cap4,0,none⟩)::.pointer (some ⟨cap5,0,none⟩)::.int .i64 x1::ud31 []) H (zu 0 (retK Tryz.prog Tryz.f111 K))):=by kernel_rfl
abbrev f19z_P1 (cap1 cap2 cap3 cap4 cap5:Nat) (y:Int)  :List Value:=(ud::.pointer (some ⟨cap1,0,none⟩)::.pointer (some ⟨cap2,0,none⟩)::.pointer (some ⟨cap3,0,none⟩)::.pointer (some ⟨cap4,0,none⟩)::.pointer (some ⟨cap5,0,none⟩)::.int .i64 y::ud31 [])
theorem f19z_r1 (cap1 cap2 cap3 cap4 cap5:Nat) (y:Int)  (H:zn) (R:Post):exL Tryz.prog z6e (cl (cl (cr (zo Tryz.f111)))) 126 0 [(0,0)] (f19z_P1 cap1 cap2 cap3 cap4 cap5 y) H R=
 (∃x2:Int,  rdC H cap1 1=some (.int .i64 x2)∧Br (decide ((y:Int)<x2)) (∃x3:Int,  rdC H cap1 0=some (.int .i64 x3)∧∃x4:Int,  rdC H cap1 0=some (.int .i64 x4)∧∃gj:OA,∃(cj ak:Nat),  rdC H cap1 2=some (.slice gj cj ak)∧∃x6:Value,  rdC H cap3 0=some (x6)∧∃uj:OA,∃(zi tk:Nat),  rdC H cap5 0=some (.slice uj zi tk)∧∃vj:OA,∃(wj vk:Nat),  rdC H cap4 0=some (.slice vj wj vk)∧(0:Int)≤IntKind.wrap .i64 (y*x4)∧IntKind.wrap .i64 (y*x4)≤IntKind.wrap .i64 ((IntKind.wrap .i64 (y+1))*x3)∧IntKind.wrap .i64 ((IntKind.wrap .i64 (y+1))*x3)≤(cj:Int)∧chk (valT z6e x6) (zfj z6e x6 [.slice ((gj:OA).map fun a=>⟨a.block,a.off+(IntKind.wrap .i64 (y*x4):Int).toNat*1,none⟩) (((IntKind.wrap .i64 ((IntKind.wrap .i64 (y+1))*x3):Int)-IntKind.wrap .i64 (y*x4)).toNat) 0] H fun (w1:Value) (H1:zn)=>extV w1 0 fun (w2:Value)=>extV w1 1 fun (w3:Value)=>(0:Int)≤y∧y<(wj:Int)∧∃b1 f1,(vj:OA)=some ⟨b1,f1,none⟩∧stV w2 H1 b1 (f1+(y:Int).toNat*1) fun (H2:zn)=>(0:Int)≤y∧y<(zi:Int)∧∃b2 f2,(uj:OA)=some ⟨b2,f2,none⟩∧stV w3 H2 b2 (f2+(y:Int).toNat*1) fun (H3:zn)=>∃x9:Int,  rdC H3 cap2 0=some (.int .i64 x9)∧R .normal (ud::.pointer (some ⟨cap1,0,none⟩)::.pointer (some ⟨cap2,0,none⟩)::.pointer (some ⟨cap3,0,none⟩)::.pointer (some ⟨cap4,0,none⟩)::.pointer (some ⟨cap5,0,none⟩)::.int .i64 (IntKind.wrap .i64 (y+x9))::ud31 []) H3)) (R (.exit 0) (ud38 []) H)):=by kernel_rfl
def f19z_I1 (cap1 cap2 cap3 cap4 cap5:Nat) (Inv:Nat→Int→zn→Prop):Nat→List Value→zn→Prop:=fun μ tm H=>∃y:Int,tm=(f19z_P1 cap1 cap2 cap3 cap4 cap5 y)∧Inv μ y H
theorem f19z_L1 (cap1 cap2 cap3 cap4 cap5:Nat) {Q:Post} (Inv:Nat→Int→zn→Prop) (ν:Nat) (y:Int)  (H:zn) (h0:Inv ν y H)
  (hs:∀(μ:Nat) (y:Int)  (H:zn),Inv μ y H→exL Tryz.prog z6e (cl (cl (cr (zo Tryz.f111)))) 126 0 [(0,0)] (f19z_P1 cap1 cap2 cap3 cap4 cap5 y) H (zx (f19z_I1 cap1 cap2 cap3 cap4 cap5 Inv) μ Q)):z1j (exL Tryz.prog z6e (cl (cl (cr (zo Tryz.f111)))) 126 0 [(0,0)]) (f19z_P1 cap1 cap2 cap3 cap4 cap5 y) H Q:=
 ⟨f19z_I1 cap1 cap2 cap3 cap4 cap5 Inv,ν,⟨y,rfl,h0⟩,fun μ tm H h=>by obtain ⟨y,rfl,hI⟩:=h;exact hs μ y  H hI⟩
theorem f19z_n1 {cap1 cap2 cap3 cap4 cap5:Nat} {Q:Post} {Inv:Nat→Int→zn→Prop} {μ:Nat} (μ':Nat) {y:Int}  {H:zn} (hm:μ'<μ) (hI:Inv μ' y H):zx (f19z_I1 cap1 cap2 cap3 cap4 cap5 Inv) μ Q .normal (f19z_P1 cap1 cap2 cap3 cap4 cap5 y) H:=⟨μ',hm,y,rfl,hI⟩
theorem f19z_x1_0  (H:zn) (K:KT)  {I:Nat→List Value→zn→Prop} {μ:Nat}:zx I μ (zu 0 (retK Tryz.prog Tryz.f111 K)) (.exit 0) (ud38 []) H=
 (K (.tuple #[]) H):=by kernel_rfl
theorem z7v.step {H0 H H':zn} {rb fb k m:Nat} {g:Nat→LN×Bool} (hne:rb≠fb) (h:z7v H0 H rb fb k m g) (hk:k<m) {a':OA} {n' e':Nat} (hg:Grow H H') (ho:OwnS fF H' H.length a' n' e' (g k).1)
  (hrb:rb<H0.length) (hfb:fb<H0.length) {K:zn→Prop} (hK:∀H3,z7v H0 H3 rb fb (k+1) m g→K H3):
  stV (.slice a' n' e') H' rb (0+k*1) fun H2=>stV (.bool (g k).2) H2 fb (0+k*1) K:=by
 rw [zf3]
 simp only [z16m]
 obtain ⟨kp,rs,fs,o1,o2,l1,l2,h⟩:=h
 have p1:=o1.grow hg
 have p2:=o2.grow hg
 refine Lt.set p1 ω2 fun H2 e2 q1 k2=>Lt.set (p2.keep (Ne.symm hne) k2) ω2 fun H3 e3 q2 k3=>hK H3 ⟨?_,_,_,q1.keep hne k3,q2,by simp [l1],by simp [l2],fun i hi=>?_⟩
 ·refine ⟨by have:=kp.1;have:=hg.1;omega,fun i hi h1 h2=>?_⟩
  have n1:i≠rb:=fun e=>h1 ⟨rb,0,none⟩ rfl e.symm
  have n2:i≠fb:=fun e=>h2 ⟨fb,0,none⟩ rfl e.symm
  have a0:=kp.1;have a1:=hg.1
  rw [k3.2 i ω2 n2,k2.2 i ω2 n1,hg.2 i ω2]
  exact kp.2 i hi h1 h2
 ·rcases Nat.lt_succ_iff_lt_or_eq.1 hi with hi | rfl
  ·obtain ⟨g1,a,n,e,g2,g3,g4⟩:=h i hi
   refine ⟨by rw [List.getElem?_set_ne ω2];exact g1,a,n,e,by rw [List.getElem?_set_ne ω2];exact g2,IsL.keepB (g3.grow hg) fun x hx=>?_,g4⟩
   have:=g4 x hx
   have hx2:n=0∨x.block<H'.length:=by
    rcases Nat.eq_zero_or_pos n with h0 | h0
    ·exact .inl h0
    ·right
     obtain ⟨b,o,ea,hc⟩:=(g3.grow hg).cell h0
     rw [hx] at ea;cases ea
     have hl:=(g3.grow hg).len
     have:=hc 0 _ (List.getElem?_eq_getElem ω2)
     unfold rdC rdB at this
     by_cases hb:b<H'.length
     ·exact hb
     ·rw [List.getElem?_eq_none ω2] at this;cases this
   by_cases hb:x.block<H'.length
   ·rw [k3.2 x.block ω2 ω2,k2.2 x.block hb ω2]
   ·rw [List.getElem?_eq_none ω2,List.getElem?_eq_none ω2]
  ·refine ⟨by rw [show 0+i*1=i by omega,List.getElem?_set_self ω2],a',n',e',by rw [show 0+i*1=i by omega,List.getElem?_set_self ω2],IsL.keepB ho.isL fun x hx=>?_,fun x hx=>Nat.le_trans kp.1 (ho.lo x hx)⟩
   have h1:=ho.lo x hx
   have h2:=ho.up x hx
   have h3:=kp.1
   rw [k3.2 x.block ω2 ω2,k2.2 x.block ω2 ω2]
theorem f19z_does {c0 c1 c2 c3 c4 c5 rb fb m:Nat} {H0:zn} {W Hi:Int} {a:OA} {n e:Nat} {x:Value} {g:Nat→LN×Bool} {K:KT} (hm:Hi=(m:Int)) (hm2:m≤16) (hW:1≤W) (hW2:W≤16) (hn:(n:Int)=W*m)
  (o0:Own H0 c0 [.int .i64 0]) (o1:Own H0 c1 [.int .i64 W,.int .i64 Hi,.slice a n e]) (o2:Own H0 c2 [.int .i64 1]) (o3:Own H0 c3 [x]) (o4:Own H0 c4 [.slice (some ⟨rb,0,none⟩) m 1]) (o5:Own H0 c5 [.slice (some ⟨fb,0,none⟩) m 1])
  (d1:rb≠c1∧rb≠c2∧rb≠c3∧rb≠c4∧rb≠c5) (d2:fb≠c1∧fb≠c2∧fb≠c3∧fb≠c4∧fb≠c5) (hne:rb≠fb) (hrb:rb<H0.length) (hfb:fb<H0.length) (hr:z7v H0 H0 rb fb 0 m g)
  (hch:ChOk z6e x H0 rb fb a W m g) (hT:valT z6e x=true) (hk:∀H,z7v H0 H rb fb m m g→K (.tuple #[]) H):
  z6j Tryz.prog z6e Tryz.f111 [.pointer (some ⟨c0,0,none⟩),.pointer (some ⟨c1,0,none⟩),.pointer (some ⟨c2,0,none⟩),.pointer (some ⟨c3,0,none⟩),.pointer (some ⟨c4,0,none⟩),.pointer (some ⟨c5,0,none⟩)] H0 K:=by
 refine zby zj5 ?_
 rw [f19z_vc]
 refine ⟨0,(o0.rdC 0).trans rfl,?_⟩
 refine f19z_L1 c1 c2 c3 c4 c5 (fun μ y H=>∃k:Nat,y=(k:Int)∧k≤m∧μ=m-k∧z7v H0 H rb fb k m g) m 0 H0 ⟨0,rfl,Nat.zero_le _,rfl,hr⟩ ?_
 intro μ y H hI
 obtain ⟨k,rfl,hkm,rfl,hR⟩:=hI
 have kp:=hR.1
 have p1:=o1.keep2 d1.1 d2.1 kp
 have p2:=o2.keep2 d1.2.1 d2.2.1 kp
 have p3:=o3.keep2 d1.2.2.1 d2.2.2.1 kp
 have p4:=o4.keep2 d1.2.2.2.1 d2.2.2.2.1 kp
 have p5:=o5.keep2 d1.2.2.2.2 d2.2.2.2.2 kp
 rw [f19z_r1]
 refine ⟨Hi,(p1.rdC 1).trans rfl,?_⟩
 refine Br.intro (fun hc=>?_) (fun hc=>?_)
 ·have hc':=odt hc
  have hkm':k<m:=by omega
  refine ⟨W,(p1.rdC 0).trans rfl,W,(p1.rdC 0).trans rfl,a,n,e,(p1.rdC 2).trans rfl,x,(p3.rdC 0).trans rfl,some ⟨fb,0,none⟩,m,1,(p5.rdC 0).trans rfl,some ⟨rb,0,none⟩,m,1,(p4.rdC 0).trans rfl,?_⟩
  have s1:=zm5 (k:=(k:Int)) (W:=W) ω2 ω2 hW hW2
  have s2:=zm5 (k:=(k:Int)+1) (W:=W) ω2 ω2 hW hW2
  have e2:((k:Int)+1)*W=(k:Int)*W+W:=by rw [Int.add_mul,Int.one_mul]
  have s3:((k:Int)+1)*W≤(n:Int):=by
   rw [hn,Int.mul_comm]
   exact Int.mul_le_mul_of_nonneg_left ω2 ω2
  rw [zp (n:=(k:Int)*W) ω2 ω2,zp (n:=(k:Int)+1) ω2 ω2,zp (n:=((k:Int)+1)*W) ω2 ω2]
  refine ⟨s1.1,by omega,s3,?_⟩
  rw [hT]
  show zfj _ _ _ _ _
  refine hch k hkm' H kp _ fun a' n' e' H' hg ho=>?_
  rw [extV0,extV1]
  have st:=hR.step hne hkm' hg ho hrb hfb (K:=fun H3=>∃x9:Int,rdC H3 c2 0=some (.int .i64 x9)∧zx (f19z_I1 c1 c2 c3 c4 c5 fun μ y H=>∃k:Nat,y=(k:Int)∧k≤m∧μ=m-k∧z7v H0 H rb fb k m g) (m-k) (zu 0 (retK Tryz.prog Tryz.f111 K)) .normal (f19z_P1 c1 c2 c3 c4 c5 (IntKind.wrap .i64 ((k:Int)+x9))) H3) (fun H3 hD=>by
   refine ⟨1,((o2.keep2 d1.2.1 d2.2.1 hD.1).rdC 0).trans rfl,?_⟩
   rw [zp (n:=(k:Int)+1) ω2 ω2]
   exact f19z_n1 (m-(k+1)) ω2 ⟨k+1,by omega,by omega,rfl,hD⟩)
  rw [zf3] at st
  obtain ⟨t1,t2,t3⟩:=st
  refine ⟨by omega,by omega,rb,0,rfl,?_⟩
  rw [zf3]
  exact ⟨t1,t2,by omega,by omega,fb,0,rfl,t3⟩
 ·have hc':=odf hc
  rw [f19z_x1_0]
  have:k=m:=by omega
  subst this
  exact hk H hR

def z16v (env:Env) (x:Value) (H:zn) (a:OA) (W:Int) (m:Nat) (g:Nat→LN×Bool):Prop:=
 ∀(y:Nat),y<m→∀(H1:zn),Grow H H1→∀K:Value→zn→Prop,
  (∀(a':OA) (n' e':Nat) (H':zn),Grow H1 H'→OwnS fF H' H1.length a' n' e' (g y).1→K (.tuple #[.slice a' n' e',.bool (g y).2]) H')→
  zfj env x [.slice ((a:OA).map fun a=>⟨a.block,a.off+((y:Int)*W).toNat*1,none⟩) ((((y:Int)+1)*W-(y:Int)*W).toNat) 0] H1 K
theorem Grow.keep2 {H0 H H':zn} {rb fb:Nat} (g:Grow H0 H) (h1:H0.length≤rb) (h2:H0.length≤fb) (k:z2x (some ⟨rb,0,none⟩) (some ⟨fb,0,none⟩) H H'):Grow H0 H':=
 ⟨Nat.le_trans g.1 k.1,fun i hi=>(k.2 i (Nat.lt_of_lt_of_le hi g.1) (fun x hx=>by cases hx;show rb≠i;omega) (fun x hx=>by cases hx;show fb≠i;omega)).trans (g.2 i hi)⟩
def z5y (g:Nat→LN×Bool) (k:Nat):LN:=(List.range k).flatMap fun i=>(g i).1
theorem z4y (g:Nat→LN×Bool) (k:Nat):z5y g (k+1)=z5y g k++(g k).1:=by
 unfold z5y
 rw [List.range_succ,List.flatMap_append]
 simp
theorem zkf {g:Nat→LN×Bool} {m:Nat} (h:∀i,i<m→(g i).1.length≤64):∀k,k≤m→(z5y g k).length≤64*k:=by
 intro k
 induction k with
 | zero=>intro _;simp [z5y]
 | succ k ih=>
  intro hk
  have h1:=ih ω2
  have h2:=h k ω2
  rw [z4y,List.length_append]
  omega
def z3l (W Hi:Int) (m:Nat) (g:Nat→LN×Bool):Int×Int×LN×Bool:=bif (List.range m).all (fun i=>(g i).2) then za3 W Hi (z5y g m) else (0,0,[],false)
theorem zyf {W Hi:Int} {m:Nat} {g:Nat→LN×Bool} {k:Nat} (hk:k<m) (h:(g k).2=false):z3l W Hi m g=(0,0,[],false):=by
 unfold z3l
 have:(List.range m).all (fun i=>(g i).2)=false:=by
  rw [List.all_eq_false]
  exact ⟨k,List.mem_range.2 hk,by simp [h]⟩
 rw [this,cond_false]
theorem zrw {W Hi:Int} {m:Nat} {g:Nat→LN×Bool} (h:∀i,i<m→(g i).2=true):z3l W Hi m g=za3 W Hi (z5y g m):=by
 unfold z3l
 have:(List.range m).all (fun i=>(g i).2)=true:=by
  rw [List.all_eq_true]
  exact fun i hi=>h i (List.mem_range.1 hi)
 rw [this,cond_true]
def zv0 (fa ia:Int) (ja:OA) (sa ya:Nat) (workers:Int) (change_f:Fn) (change_x change_y:Array Value) (H:zn) (K:Int→Int→OA→Nat→Nat→Bool→zn→Prop):Prop:=
 ∃(l:LN) (g:Nat→LN×Bool),IsL fF H ja sa l∧workers=1∧1≤fa∧fa≤16∧1≤ia∧ia≤16∧(l.length:Int)=fa*ia∧valT z6e (.func change_f change_x change_y)=true∧
  (∀i,i<ia.toNat→(g i).1.length≤64∧((g i).2=true→1≤(g i).1.length))∧z16v z6e (.func change_f change_x change_y) H ja fa ia.toNat g∧
  (∀(jd:OA) (pd od:Nat),∀H':zn,Grow H H'→OwnS fF H' H.length jd pd od ((z3l fa ia ia.toNat g).2.2.1)→K ((z3l fa ia ia.toNat g).1) ((z3l fa ia ia.toNat g).2.1) jd pd od ((z3l fa ia ia.toNat g).2.2.2) H')
def za9:Env:=envOf [(111,zup),(113,S_f9z)]
def zo2:List Value→zn→(Value→zn→Prop)→Prop
 | [.agg ⟨[.int .i64 fa,.int .i64 ia,.slice ja sa ya]⟩,.int .i64 workers,.func change_f change_x change_y],H,K=>zv0 fa ia ja sa ya workers change_f change_x change_y H fun (xc:Int) (vc:Int) (ta:OA) (xa:Nat) (ua:Nat) (r2:Bool) (H':zn)=>K (.tuple #[.agg #[.int .i64 xc,.int .i64 vc,.slice ta xa ua],.bool r2]) H'
 | _,_,_=>False
def zj8:FSpec:={F:=zo2,quiet:=false,tame:=false}
theorem z1e4 (fa ia:Int) (ja:OA) (sa ya:Nat) (workers:Int) (change_f:Fn) (change_x:Array Value) (change_y:Array Value) (H:zn) (K:KT):rbM Tryz.prog za9 [.agg #[.int .i64 fa,.int .i64 ia,.slice ja sa ya],.int .i64 workers,.func change_f change_x change_y] H K=
 (Al [.int .i64 fa,.int .i64 ia,.slice ja sa ya] H fun b1 H1=>Al [.int .i64 workers] H1 fun b2 H2=>Al [.func change_f change_x change_y] H2 fun b3 H3=>Al [.int .i64 0,.int .i64 0,.slice none 0 0] H3 fun b4 H4=>∃x1:Int,  rdC H4 b1 1=some (.int .i64 x1)∧∃x2:Int,  rdC H4 b1 1=some (.int .i64 x2)∧(0:Int)≤x2∧x2=x2∧x2<(most:Int)∧Al (z1k (.slice none 0 0) (x2).toNat) H4 fun b5 H5=>(0:Int)≤x1∧x1=x1∧x1<(most:Int)∧Al (z1k (.bool false) (x1).toNat) H5 fun b6 H6=>Al [.slice none 0 0] H6 fun b7 H7=>Al [.slice none 0 0] H7 fun b8 H8=>isOwn H8 b7∧(∃l,rdN H8 b7 0 1=some l)∧Lt (setC H8 b7 0 (.slice (some ⟨b5,0,none⟩) ((x2).toNat) 1)) fun H9=>isOwn H9 b8∧(∃l,rdN H9 b8 0 1=some l)∧Lt (setC H9 b8 0 (.slice (some ⟨b6,0,none⟩) ((x1).toNat) 1)) fun H10=>∃x3:Int,  rdC (H10++[none]) b2 0=some (.int .i64 x3)∧((57:Nat)=57∧Value.int .i64 x3=Value.int .i64 1∧Value.int .i64 0=Value.int .i64 0)∧Al [.int .i64 0] (H10++[none]) fun b9 H11=>isOwn H11 b9∧(∃l,rdN H11 b9 0 1=some l)∧Lt (setC H11 b9 0 (.int .i64 0)) fun H12=>((57:Nat)=57∧(.pointer (some ⟨H10.length,0,none⟩):Value)=.pointer (some ⟨H10.length,0,none⟩)∧Value.int .i64 x3=Value.int .i64 1∧Value.int .i64 (0:Int)=Value.int .i64 0)∧zup.F [.pointer (some ⟨b9,0,none⟩),.pointer (some ⟨b1,0,none⟩),.pointer (some ⟨b2,0,none⟩),.pointer (some ⟨b3,0,none⟩),.pointer (some ⟨b7,0,none⟩),.pointer (some ⟨b8,0,none⟩)] H12 fun (_:Value) (H13:zn)=>∃x4:Int,  rdC H13 b1 0=some (.int .i64 x4)∧∃x5:Int,  rdC H13 b1 1=some (.int .i64 x5)∧Al [.int .i64 0,.int .i64 0,.slice none 0 0] H13 fun b10 H14=>isOwn H14 b10∧(∃l,rdN H14 b10 0 3=some l)∧Lt (setN H14 b10 0 [.int .i64 x4,.int .i64 x5,.slice none 0 0]) fun H15=>∃ii:OA,∃(ai ni:Nat),  rdC H15 b7 0=some (.slice ii ai ni)∧z1j (exL Tryz.prog za9 (cl (cl (cr (cl (cr (cr rb4)))))) 120259088960 192 [(2,4160)]) (ud6 (.pointer (some ⟨b4,0,none⟩)::ud2 (.pointer (some ⟨b8,0,none⟩)::ud2 (.pointer (some ⟨b10,0,none⟩)::ud21 (.slice ii ai ni::.int .i64 (ai:Int)::.int .i64 0::ud20 []))))) H15 (zu 2 (seqQ (exL Tryz.prog za9 (cr (cr (cr rb4))) 192 192 []) (retK Tryz.prog Tryz.f69 K)))):=by kernel_rfl
abbrev zdu (b10 b4 b8:Nat) (ii:OA) (ni ai:Nat) (t36:Int)  :List Value:=(ud6 (.pointer (some ⟨b4,0,none⟩)::ud2 (.pointer (some ⟨b8,0,none⟩)::ud2 (.pointer (some ⟨b10,0,none⟩)::ud21 (.slice ii ai ni::.int .i64 (ai:Int)::.int .i64 t36::ud20 [])))))
theorem z1e3 (b10 b4 b8:Nat) (ii:OA) (ni ai:Nat) (t36:Int)  (H:zn) (R:Post):exL Tryz.prog za9 (cl (cl (cr (cl (cr (cr rb4)))))) 120259088960 192 [(2,4160)] (zdu b10 b4 b8 ii ni ai t36) H R=
 (Br (decide ((t36:Int)<(ai:Int))) ((0:Int)≤t36∧t36<(ai:Int)∧∃b11 f1,(ii:OA)=some ⟨b11,f1,none⟩∧∃uj:OA,∃(zi tk:Nat),  rdC H b11 (f1+(t36:Int).toNat*1)=some (.slice uj zi tk)∧∃vj:OA,∃(wj vk:Nat),  rdC H b8 0=some (.slice vj wj vk)∧(0:Int)≤t36∧t36<(wj:Int)∧∃b12 f2,(vj:OA)=some ⟨b12,f2,none⟩∧∃x9:Bool,  rdC H b12 (f2+(t36:Int).toNat*1)=some (.bool x9)∧Br (!x9) (isOwn H b4∧(∃l,rdN H b4 0 3=some l)∧Lt (setN H b4 0 [.int .i64 0,.int .i64 0,.slice none 0 0]) fun H16=>R .ret (ud6 (.pointer (some ⟨b4,0,none⟩)::.bool false::ud49 [])) H16) (∃xl:OA,∃(yl wm:Nat),  rdC H b10 2=some (.slice xl yl wm)∧∃o1 w1:List Value,ownB H xl yl wm 1=some o1∧rdS H uj (zi*1)=some w1∧((xl:OA)=none→0<(zi:Nat))∧(yl:Nat)+zi<most∧Ap H (z2s H xl++[some ⟨o1++w1,true⟩]) fun b13 H17=>isOwn H17 b10∧(∃l,rdN H17 b10 2 1=some l)∧Lt (setC H17 b10 2 (.slice (some ⟨b13,0,none⟩) (yl+zi) 1)) fun H18=>R .normal (ud6 (.pointer (some ⟨b4,0,none⟩)::ud2 (.pointer (some ⟨b8,0,none⟩)::ud2 (.pointer (some ⟨b10,0,none⟩)::ud21 (.slice ii ai ni::.int .i64 (ai:Int)::.int .i64 (IntKind.wrap .i64 (t36+1))::ud20 []))))) H18)) (R (.exit 2) (ud6 (.pointer (some ⟨b4,0,none⟩)::ud5 (.pointer (some ⟨b10,0,none⟩)::ud44 []))) H)):=by kernel_rfl
def zn5 (b10 b4 b8:Nat) (ii:OA) (ni ai:Nat) (Inv:Nat→Int→zn→Prop):Nat→List Value→zn→Prop:=fun μ tm H=>∃t36:Int,tm=(zdu b10 b4 b8 ii ni ai t36)∧Inv μ t36 H
theorem z1e0 (b10 b4 b8:Nat) (ii:OA) (ni ai:Nat) {Q:Post} (Inv:Nat→Int→zn→Prop) (ν:Nat) (t36:Int)  (H:zn) (h0:Inv ν t36 H)
  (hs:∀(μ:Nat) (t36:Int)  (H:zn),Inv μ t36 H→exL Tryz.prog za9 (cl (cl (cr (cl (cr (cr rb4)))))) 120259088960 192 [(2,4160)] (zdu b10 b4 b8 ii ni ai t36) H (zx (zn5 b10 b4 b8 ii ni ai Inv) μ Q)):z1j (exL Tryz.prog za9 (cl (cl (cr (cl (cr (cr rb4)))))) 120259088960 192 [(2,4160)]) (zdu b10 b4 b8 ii ni ai t36) H Q:=
 ⟨zn5 b10 b4 b8 ii ni ai Inv,ν,⟨t36,rfl,h0⟩,fun μ tm H h=>by obtain ⟨t36,rfl,hI⟩:=h;exact hs μ t36  H hI⟩
theorem z1e1 {b10 b4 b8:Nat} {ii:OA} {ni ai:Nat} {Q:Post} {Inv:Nat→Int→zn→Prop} {μ:Nat} (μ':Nat) {t36:Int}  {H:zn} (hm:μ'<μ) (hI:Inv μ' t36 H):zx (zn5 b10 b4 b8 ii ni ai Inv) μ Q .normal (zdu b10 b4 b8 ii ni ai t36) H:=⟨μ',hm,t36,rfl,hI⟩
theorem zwt (b10 b4:Nat) (H:zn) (K:KT)  {I:Nat→List Value→zn→Prop} {μ:Nat}:zx I μ (zu 2 (seqQ (exL Tryz.prog za9 (cr (cr (cr rb4))) 192 192 []) (retK Tryz.prog Tryz.f69 K))) (.exit 2) (ud6 (.pointer (some ⟨b4,0,none⟩)::ud5 (.pointer (some ⟨b10,0,none⟩)::ud44 []))) H=
 (∃(c1 c2:Int),∃dh:OA,∃(fh eh:Nat),  rdN H b10 0 3=some [.int .i64 c1,.int .i64 c2,.slice dh fh eh]∧zv1 c1 c2 dh fh eh H fun (r1:Int) (r2:Int) (a1:OA) (r3:Nat) (r4:Nat) (r5:Bool) (H19:zn)=>isOwn H19 b4∧(∃l,rdN H19 b4 0 3=some l)∧Lt (setN H19 b4 0 [.int .i64 r1,.int .i64 r2,.slice a1 r3 r4]) fun H20=>∃(c4 c5:Int),∃qh:OA,∃(th sh:Nat),  rdN H20 b4 0 3=some [.int .i64 c4,.int .i64 c5,.slice qh th sh]∧K (.tuple #[.agg #[.int .i64 c4,.int .i64 c5,.slice qh th sh],.bool r5]) H20):=by kernel_rfl
theorem zn6 (b4:Nat) (t7:Bool) (H:zn) (K:KT)  {I:Nat→List Value→zn→Prop} {μ:Nat}:zx I μ (zu 2 (seqQ (exL Tryz.prog za9 (cr (cr (cr rb4))) 192 192 []) (retK Tryz.prog Tryz.f69 K))) .ret (ud6 (.pointer (some ⟨b4,0,none⟩)::.bool t7::ud49 [])) H=
 (∃(c7 c8:Int),∃ei:OA,∃(gi fi:Nat),  rdN H b4 0 3=some [.int .i64 c7,.int .i64 c8,.slice ei gi fi]∧K (.tuple #[.agg #[.int .i64 c7,.int .i64 c8,.slice ei gi fi],.bool t7]) H):=by kernel_rfl
theorem zdb:∀g,FnOk Tryz.prog g (za9 g):=FnOk.envOf (by
 intro x hx
 simp only [List.mem_cons,List.not_mem_nil,or_false] at hx
 rcases hx with rfl | rfl
 ·exact f19z_ok
 ·exact f9z_ok)
theorem zme {v:Value} (h:v.cells.toList=[v]) (n:Nat):(z1k v n).length=n:=by
 rw [zmf (fun v:Value=>v) v n h];simp
set_option maxHeartbeats 4000000 in
theorem zws (W Hi:Int) (la:OA) (ln le:Nat) (workers:Int) (cf:Fn) (cx cy:Array Value) (H:zn) (K:KT) (h:zv0 W Hi la ln le workers cf cx cy H fun (xc:Int) (vc:Int) (ta:OA) (xa:Nat) (ua:Nat) (r2:Bool) (H':zn)=>K (.tuple #[.agg #[.int .i64 xc,.int .i64 vc,.slice ta xa ua],.bool r2]) H'):rbM Tryz.prog za9 [.agg #[.int .i64 W,.int .i64 Hi,.slice la ln le],.int .i64 workers,.func cf cx cy] H K:=by
 obtain ⟨l,g,il,rfl,hW1,hW2,hH1,hH2,hl,hv,hlen,hch,hk⟩:=h
 obtain ⟨m,rfl⟩:∃m:Nat,Hi=(m:Int):=⟨Hi.toNat,by omega⟩
 simp only [Int.toNat_natCast] at hlen hch hk
 rw [z1e4]
 have hll:=il.len
 refine Al.intro fun b1 H1 e1 l1 g1 o1=>Al.intro fun b2 H2 e2 l2 g2 o2=>Al.intro fun b3 H3 e3 l3 g3 o3=>Al.intro fun b4 H4 e4 l4 g4 o4=>?_
 have p1:=((o1.grow g2).grow g3).grow g4
 refine ⟨(m:Int),(p1.rdC 1).trans rfl,(m:Int),(p1.rdC 1).trans rfl,by omega,rfl,by have:=znk;omega,?_⟩
 refine Al.intro fun b5 H5 e5 l5 g5 o5=>⟨by omega,rfl,by have:=znk;omega,?_⟩
 refine Al.intro fun b6 H6 e6 l6 g6 o6=>Al.intro fun b7 H7 e7 l7 g7 o7=>Al.intro fun b8 H8 e8 l8 g8 o8=>?_
 refine Lt.set (o7.grow g8) ω20 fun H9 l9 q7 k9=>Lt.set (o8.keep ω2 k9) ω20 fun H10 l10 q8 k10=>?_
 have g48:Grow H4 H8:=((g5.trans g6).trans g7).trans g8
 have G0:Grow H H8:=(((g1.trans g2).trans g3).trans g4).trans g48
 have up:∀{b:Nat} {cs:List Value},Own H8 b cs→b≠b7→b≠b8→Own H10 b cs:=fun o h1 h2=>(o.keep h1 k9).keep h2 k10
 have u1:=up (p1.grow g48) ω2 ω2
 have u2:=up ((((o2.grow g3).grow g4).grow g48)) ω2 ω2
 have u3:=up (((o3.grow g4).grow g48)) ω2 ω2
 have u4:=up (o4.grow g48) ω2 ω2
 have u5:=up (((o5.grow g6).grow g7).grow g8) ω2 ω2
 have u6:=up ((o6.grow g7).grow g8) ω2 ω2
 have u7:=q7.keep ω2 k10
 have G1:Grow H H10:=(G0.keep ω2 k9).keep ω2 k10
 have gA:=Grow.app H10 (none:Option Blk)
 have lA:(H10++[(none:Option Blk)]).length=H10.length+1:=by simp
 refine ⟨1,((u2.grow gA).rdC 0).trans rfl,⟨rfl,rfl,rfl⟩,Al.intro fun b9 H11 e9 l11 g11 o9=>Lt.set o9 ω20 fun H12 l12 q9 k12=>⟨⟨rfl,rfl,rfl,rfl⟩,?_⟩⟩
 have up2:∀{b:Nat} {cs:List Value},Own H10 b cs→Own H12 b cs:=fun o=>((o.grow gA).grow g11).keep (by have:=o.lt;omega) k12
 have G2:Grow H H12:=(((G1.trans gA).trans g11)).keep (by have:=G1.1;omega) k12
 have z5:((z1k (.slice none 0 0) ((m:Int)).toNat):List Value).length=m:=(zme rfl _).trans (Int.toNat_natCast m)
 have z6:((z1k (.bool false) ((m:Int)).toNat):List Value).length=m:=(zme rfl _).trans (Int.toNat_natCast m)
 have q7':=up2 u7
 have q8':=up2 q8
 have em:((m:Int)).toNat=m:=Int.toNat_natCast m
 show z6j _ _ _ _ _ _
 refine f19z_does (rb:=b5) (fb:=b6) (m:=m) (W:=W) (Hi:=(m:Int)) (a:=la) (n:=ln) (e:=le) (x:=.func cf cx cy) (g:=g) rfl ω2 hW1 hW2 (by rw [←hll];exact hl) q9 (up2 u1) (up2 u2) (up2 u3) (by rw [em] at q7';exact q7') (by rw [em] at q8';exact q8')
  ⟨by omega,by omega,by omega,by omega,by omega⟩ ⟨by omega,by omega,by omega,by omega,by omega⟩ ω2 (by have:=(up2 u5).lt;omega) (by have:=(up2 u6).lt;omega) ⟨z2x.refl _ _ _,_,_,up2 u5,up2 u6,z5,z6,fun i hi=>absurd hi (Nat.not_lt_zero _)⟩
  (fun y hy H' kp K2 h2=>hch y hy H' (G2.keep2 ω2 ω2 kp) K2 h2) hv fun H13 hD=>?_
 have kD:=hD.1
 have G3:Grow H H13:=G2.keep2 ω2 ω2 kD
 have d1:=(up2 u1).keep2 (rb:=b5) (fb:=b6) ω2 ω2 kD
 have d4:=(up2 u4).keep2 (rb:=b5) (fb:=b6) ω2 ω2 kD
 have d7:=q7'.keep2 (rb:=b5) (fb:=b6) ω2 ω2 kD
 have d8:=q8'.keep2 (rb:=b5) (fb:=b6) ω2 ω2 kD
 rw [em] at d7 d8
 obtain ⟨rs,fs,or,of,lr,lf,hrow⟩:=hD.2
 have l13:=kD.1
 have d4l:=d4.lt
 refine ⟨W,(d1.rdC 0).trans rfl,(m:Int),(d1.rdC 1).trans rfl,Al.intro fun b10 H14 e14 l14 g14 o14=>Lt.setN o14 (n:=3) ω20 rfl fun H15 l15 q10 k15=>?_⟩
 have up3:∀{b:Nat} {cs:List Value},Own H13 b cs→Own H15 b cs:=fun o=>(o.grow g14).keep (by have:=o.lt;omega) k15
 have G4:Grow H H15:=(G3.trans g14).keep (by have:=G3.1;omega) k15
 refine ⟨some ⟨b5,0,none⟩,m,1,((up3 d7).rdC 0).trans rfl,?_⟩
 refine z1e0 b10 b4 b8 (some ⟨b5,0,none⟩) 1 m (fun μ t H'=>∃k:Nat,t=(k:Int)∧k≤m∧μ=m-k∧(∀i,i<k→(g i).2=true)∧z3j b10 H15 H'∧∃(a:OA) (n e:Nat),Own H' b10 [.int .i64 W,.int .i64 (m:Int),.slice a n e]∧OwnS fF H' H15.length a n e (z5y g k)) m 0 H15
  ⟨0,rfl,Nat.zero_le _,rfl,fun i hi=>absurd hi (Nat.not_lt_zero _),⟨Nat.le_refl _,fun _ _ _=>rfl⟩,none,0,0,q10,OwnS.nil _ _ _ _⟩ ?_
 intro μ t H' hI
 obtain ⟨k,rfl,hkm,rfl,hall,kp,a,n,e,ob,os⟩:=hI
 have hg64:∀i,i<m→(g i).1.length≤64:=fun i hi=>(hlen i hi).1
 have hfl:=zkf hg64 k hkm
 have hn:=os.len
 have up4:∀{b:Nat} {cs:List Value},Own H13 b cs→Own H' b cs:=fun o=>(up3 o).keep (by have:=o.lt;omega) kp
 have G5:Grow H H':=G4.keep (by have:=G3.1;omega) kp
 have c4:=up4 d4
 have lkp:=kp.1
 rw [z1e3]
 refine Br.intro (fun hc=>?_) (fun hc=>?_)
 ·have hc':=odt hc
  have hkm':k<m:=by omega
  obtain ⟨hf,ra,rn,re,hr,hrl,hrb⟩:=hrow k hkm'
  have hrr:=((up4 or).rdC (0+((k:Int)).toNat*1))
  have hff:=((up4 of).rdC (0+((k:Int)).toNat*1))
  rw [Int.toNat_natCast,Nat.mul_one,Nat.zero_add] at hrr hff
  refine ⟨by omega,hc',b5,0,rfl,ra,rn,re,by rw [Int.toNat_natCast,Nat.mul_one,Nat.zero_add];exact hrr.trans hr,some ⟨b6,0,none⟩,m,1,((up4 d8).rdC 0).trans rfl,by omega,hc',b6,0,rfl,(g k).2,by rw [Int.toNat_natCast,Nat.mul_one,Nat.zero_add];exact hff.trans hf,?_⟩
  refine Br.intro (fun hg=>?_) (fun hg=>?_)
  ·have hgk:=z1e hg
   refine Lt.setN c4 (n:=3) ω20 rfl fun H16 l16 q4 k16=>?_
   rw [zn6]
   refine ⟨0,0,none,0,0,(q4.rdN ω20).trans rfl,?_⟩
   rw [zyf hkm' hgk] at hk
   exact hk none 0 0 H16 (G5.keep ω2 k16) (OwnS.nil _ _ _ _)
  ·have hgk:=z1a hg
   have h1:=(hlen k hkm').2 hgk
   have h2:=hg64 k hkm'
   have hrl':IsL fF H' ra rn (g k).1:=IsL.keepB hrl fun x hx=>by
    have hx2:x.block<H13.length:=by
     obtain ⟨b,o,ea,hcl⟩:=hrl.cell (by have:=hrl.len;omega)
     rw [hx] at ea;cases ea
     have:=hcl 0 _ (List.getElem?_eq_getElem ω2)
     unfold rdC rdB at this
     by_cases hb:b<H13.length
     ·exact hb
     ·rw [List.getElem?_eq_none ω2] at this;cases this
    have e15:H15[x.block]? =H13[x.block]? :=(k15.2 _ ω2 ω2).trans (g14.2 _ hx2)
    rw [kp.2 _ ω2 ω2,e15]
   have hrn:=hrl'.len
   refine ⟨a,n,e,(ob.rdC 2).trans rfl,_,_,os.ownB,z2h hrl',(fun _=>by omega),ω25,?_⟩
   refine Ap.appS os rfl rfl fun b13 H17 e17 l17 o17 k17=>?_
   have lo:=os.lo
   have hup:∀x,a=some x→x.block≠b10:=fun x hx=>by have:=lo x hx;omega
   have ob2:=ob.keepA hup k17
   refine Lt.set ob2 (nbl rfl) fun H18 l18 q18 k18=>?_
   refine z1e1 (m-(k+1)) ω2 ⟨k+1,by rw [zp ω2 ω2];omega,by omega,rfl,fun i hi=>?_,?_,some ⟨b13,0,none⟩,n+rn,1,q18,?_⟩
   ·rcases Nat.lt_succ_iff_lt_or_eq.1 hi with hi | rfl
    ·exact hall i hi
    ·exact hgk
   ·refine ⟨by omega,fun i hi hne=>?_⟩
    rw [k18.2 i ω2 hne,k17.2 i ω2 (fun x hx=>by have:=lo x hx;omega),kp.2 i hi hne]
   ·rw [z4y]
    have:=(o17.keep (b':=b10) ω2 k18)
    exact this.ownS (by rw [List.length_append];omega) ω2
 ·have hc':=odf hc
  obtain rfl:k=m:=by omega
  rw [zwt]
  have lo:=os.lo
  have hup:=os.up
  refine ⟨W,(k:Int),a,n,e,(ob.rdN (nbl rfl)).trans rfl,zv2 ⟨z5y g k,os.isL,by omega,fun H19 g19=>?_⟩⟩
  rw [zrw hall] at hk
  refine Br.intro (fun hb=>?_) (fun hb=>?_)
  ·refine Lt.setN (c4.grow g19) (n:=3) ω20 rfl fun H20 l20 q20 k20=>⟨W,(k:Int),a,n,e,(q20.rdN (nbl rfl)).trans rfl,?_⟩
   have ev:za3 W (k:Int) (z5y g k)=(W,(k:Int),z5y g k,true):=by
    rw [z4t] at hb ⊢
    cases hq:!(z1o W (k:Int) (z5y g k)) with
    | true=>rw [hq] at hb;cases hb
    | false=>rfl
   rw [ev] at hk
   exact hk a n e H20 ((G5.trans g19).keep ω2 k20) (((os.grow g19).keepA (fun x y hx hy=>by cases hx;have:=lo y hy;show b4≠_;omega) (OwnS.keep1 k20)).weak (by have:=G4.1;omega))
  ·refine Lt.setN (c4.grow g19) (n:=3) ω20 rfl fun H20 l20 q20 k20=>⟨0,0,none,0,0,(q20.rdN (nbl rfl)).trans rfl,?_⟩
   have ev:za3 W (k:Int) (z5y g k)=(0,0,[],false):=by
    rw [z4t] at hb ⊢
    cases hq:!(z1o W (k:Int) (z5y g k)) with
    | true=>rfl
    | false=>rw [hq] at hb;cases hb
   rw [ev] at hk
   exact hk none 0 0 H20 ((G5.trans g19).keep ω2 k20) (OwnS.nil _ _ _ _)
theorem z1e2:FnOkX Tryz.prog (MainCls Tryz.prog) 69 zj8:=by
 refine rbOk mix_ok (fun g=>(zdb g).le fun _ _ _=>trivial) (zdb _) ω9 ω9 ω9 ?_ (fun hq=>by cases hq) ?_ (fun hq=>by cases hq) ?_
 ·intro args H K K' h hk
  simp only [zj8] at *
  unfold zo2 at *
  split at hk
  ·obtain ⟨l,g,il,h1,hW1,hW2,hH1,hH2,hl,hv,hlen,hch,k⟩:=hk
   exact ⟨l,g,il,h1,hW1,hW2,hH1,hH2,hl,hv,hlen,hch,fun a n e H' gg ow=>h _ _ (k a n e H' gg ow)⟩
  ·exact hk.elim
 ·intro args H K hk
  simp only [zj8] at *
  unfold zo2 at *
  split at hk
  ·obtain ⟨l,g,il,h1,hW1,hW2,hH1,hH2,hl,hv,hlen,hch,k⟩:=hk
   exact z5q fun a n e H1 g o=>⟨_,_,k a n e H1 g o⟩
  ·exact hk.elim
 ·intro args H K hk
  refine z1f6 zdb ?_
  simp only [zj8] at *
  unfold zo2 at *
  split at hk
  ·exact zws _ _ _ _ _ _ _ _ _ H K hk
  ·exact hk.elim

def z1t (l:LN) (W:Int) (y:Nat):LN:=(l.drop ((y:Int)*W).toNat).take ((((y:Int)+1)*W-(y:Int)*W).toNat)
theorem z6y {l:LN} {W Hi:Int} {y:Nat} (h1:1≤W) (h2:W≤16) (h3:Hi≤16) (hl:(l.length:Int)=W*Hi) (hy:(y:Int)<Hi):0≤(y:Int)*W∧(y:Int)*W≤((y:Int)+1)*W∧((y:Int)+1)*W≤(l.length:Int)∧((z1t l W y).length:Int)=W:=by
 have e2:((y:Int)+1)*W=(y:Int)*W+W:=by rw [Int.add_mul,Int.one_mul]
 have s1:0≤(y:Int)*W:=Int.mul_nonneg ω2 ω2
 have s3:((y:Int)+1)*W≤(l.length:Int):=by
  rw [hl,Int.mul_comm]
  exact Int.mul_le_mul_of_nonneg_left ω2 ω2
 refine ⟨s1,by omega,s3,?_⟩
 unfold z1t
 rw [List.length_take,List.length_drop]
 omega
def z5r (ma:LN) (bb:Nat) (fa ia:Int) (da:LN) (workers:Int):Int×Int×LN×Bool:=
 bif z7h ma bb then (bif z1o fa ia da then z3l fa ia ia.toNat (fun y=>za2 (z1t da fa y) ma bb) else (0,0,[],false)) else (0,0,[],false)
def T_f3z (gb:OA) (mb pb bb:Nat) (fa ia:Int) (ja:OA) (sa ya:Nat) (workers:Int) (H:zn) (K:Int→Int→OA→Nat→Nat→Bool→zn→Prop):Prop:=
 ∃(ma da:LN),IsL fF H gb mb ma∧IsL fF H ja sa da∧ma.length<1073741824∧da.length<1073741824∧workers=1∧
  (∀(jd:OA) (pd od:Nat),∀H':zn,Grow H H'→OwnS fF H' H.length jd pd od ((z5r ma bb fa ia da workers).2.2.1)→K ((z5r ma bb fa ia da workers).1) ((z5r ma bb fa ia da workers).2.1) jd pd od ((z5r ma bb fa ia da workers).2.2.2) H')
theorem z1bf {gb:OA} {mb pb bb:Nat} {fa ia:Int} {ja:OA} {sa ya:Nat} {workers:Int} {H:zn} {K:Int→Int→OA→Nat→Nat→Bool→zn→Prop} (h:∃(ma da:LN),IsL fF H gb mb ma∧IsL fF H ja sa da∧ma.length<1073741824∧da.length<1073741824∧workers=1∧
  (∀(jd:OA) (pd od:Nat),∀H':zn,Grow H H'→OwnS fF H' H.length jd pd od ((z5r ma bb fa ia da workers).2.2.1)→K ((z5r ma bb fa ia da workers).1) ((z5r ma bb fa ia da workers).2.1) jd pd od ((z5r ma bb fa ia da workers).2.2.2) H')):T_f3z gb mb pb bb fa ia ja sa ya workers H K:=h
def E_f3z:Env:=envOf [(49,S_fdz),(50,zmh),(68,zaa),(69,zj8)]
def F_f3z (args:List Value) (H:zn):(Value→zn→Prop)→Prop:=match args with
 | [.agg ⟨[.slice gb mb pb,.float .f32 bb]⟩,.agg ⟨[.int .i64 fa,.int .i64 ia,.slice ja sa ya]⟩,.int .i64 workers]=>fun K=>T_f3z gb mb pb bb fa ia ja sa ya workers H fun (xc:Int) (vc:Int) (ta:OA) (xa:Nat) (ua:Nat) (r2:Bool) (H':zn)=>K (.tuple #[.agg #[.int .i64 xc,.int .i64 vc,.slice ta xa ua],.bool r2]) H'
 | _=>fun _=>False
def S_f3z:FSpec:={F:=F_f3z,quiet:=false,tame:=false}
theorem f3z_vc (gb:OA) (mb pb bb:Nat) (fa ia:Int) (ja:OA) (sa ya:Nat) (workers:Int) (H:zn) (K:KT):zt Tryz.prog E_f3z Tryz.f27 [.agg #[.slice gb mb pb,.float .f32 bb],.agg #[.int .i64 fa,.int .i64 ia,.slice ja sa ya],.int .i64 workers] H K=
 (Al [.slice gb mb pb,.float .f32 bb] H fun b1 H1=>Al [.int .i64 fa,.int .i64 ia,.slice ja sa ya] H1 fun b2 H2=>Al [.int .i64 0,.int .i64 0,.slice none 0 0] H2 fun b3 H3=>∃ui:OA,∃(wi vi c2:Nat),  rdN H3 b1 0 2=some [.slice ui wi vi,.float .f32 c2]∧zqa ui wi vi c2 H3 fun (r1:Bool) (H4:zn)=>Br (!r1) (isOwn H4 b3∧(∃l,rdN H4 b3 0 3=some l)∧Lt (setN H4 b3 0 [.int .i64 0,.int .i64 0,.slice none 0 0]) fun H5=>∃(c3 c4:Int),∃lj:OA,∃(nj mj:Nat),  rdN H5 b3 0 3=some [.int .i64 c3,.int .i64 c4,.slice lj nj mj]∧K (.tuple #[.agg #[.int .i64 c3,.int .i64 c4,.slice lj nj mj],.bool false]) H5) (∃(c6 c7:Int),∃pj:OA,∃(rj qj:Nat),  rdN H4 b2 0 3=some [.int .i64 c6,.int .i64 c7,.slice pj rj qj]∧zht c6 c7 pj rj qj H4 fun (r2:Bool) (H6:zn)=>Br (!r2) (isOwn H6 b3∧(∃l,rdN H6 b3 0 3=some l)∧Lt (setN H6 b3 0 [.int .i64 0,.int .i64 0,.slice none 0 0]) fun H7=>∃(c9 c10:Int),∃ck:OA,∃(fk dk:Nat),  rdN H7 b3 0 3=some [.int .i64 c9,.int .i64 c10,.slice ck fk dk]∧K (.tuple #[.agg #[.int .i64 c9,.int .i64 c10,.slice ck fk dk],.bool false]) H7) (z3f workers 1 8 H6 fun (r3:Bool) (H8:zn)=>Br (!r3) (isOwn H8 b3∧(∃l,rdN H8 b3 0 3=some l)∧Lt (setN H8 b3 0 [.int .i64 0,.int .i64 0,.slice none 0 0]) fun H9=>∃(c12 c13:Int),∃xk:OA,∃(dl yk:Nat),  rdN H9 b3 0 3=some [.int .i64 c12,.int .i64 c13,.slice xk dl yk]∧K (.tuple #[.agg #[.int .i64 c12,.int .i64 c13,.slice xk dl yk],.bool false]) H9) (∃(c15 c16:Int),∃fl:OA,∃(kl jl:Nat),  rdN H8 b2 0 3=some [.int .i64 c15,.int .i64 c16,.slice fl kl jl]∧zv0 c15 c16 fl kl jl workers (.func 70) #[] #[.pointer (some ⟨b1,0,none⟩)] H8 fun (r4:Int) (r5:Int) (a1:OA) (r6:Nat) (r7:Nat) (r8:Bool) (H10:zn)=>isOwn H10 b3∧(∃l,rdN H10 b3 0 3=some l)∧Lt (setN H10 b3 0 [.int .i64 r4,.int .i64 r5,.slice a1 r6 r7]) fun H11=>∃(c18 c19:Int),∃lk:OA,∃(pk nk:Nat),  rdN H11 b3 0 3=some [.int .i64 c18,.int .i64 c19,.slice lk pk nk]∧K (.tuple #[.agg #[.int .i64 c18,.int .i64 c19,.slice lk pk nk],.bool r8]) H11)))):=by kernel_rfl
theorem zzj:∀g,FnOkX Tryz.prog (MainCls Tryz.prog) g (E_f3z g):=FnOkX.envOf (by
 intro x hx
 simp only [List.mem_cons,List.not_mem_nil,or_false] at hx
 rcases hx with rfl | rfl | rfl | rfl
 ·exact zwy.le fun _ _ _=>trivial
 ·exact f8z_ok.le fun _ _ _=>trivial
 ·exact z7z.le fun _ _ _=>trivial
 ·exact z1e2)
theorem zmg {H:zn} {c:Nat} {wa:OA} {wn we sc:Nat} {la:OA} {ln:Nat} {ws l:LN} {W Hi:Int} {m:Nat} (hm:Hi=(m:Int)) (o:Own H c [.slice wa wn we,.float .f32 sc]) (iw:IsL fF H wa wn ws) (il:IsL fF H la ln l) (bw:ws.length<1073741824)
  (h1:1≤W) (h2:W≤16) (h3:Hi≤16) (hl:(l.length:Int)=W*Hi):z16v z6e (.func (.func 70) #[] #[.pointer (some ⟨c,0,none⟩)]) H la W m (fun y=>za2 (z1t l W y) ws sc):=by
 intro y hy H1 gg K hK
 obtain ⟨f1,f2,f3,f4⟩:=z6y h1 h2 h3 hl (show (y:Int)<Hi by omega)
 refine (?_:T_f2z ((la:OA).map fun a=>⟨a.block,a.off+((y:Int)*W).toNat*1,none⟩) ((((y:Int)+1)*W-(y:Int)*W).toNat) 0 c H1 fun a n e r H'=>K (.tuple #[.slice a n e,.bool r]) H')
 have hn:=il.len
 refine ⟨wa,wn,we,sc,z1t l W y,ws,((o.grow gg).rdN (nbl rfl)).trans rfl,zc9 (il.grow gg) f1 f2 ω2,iw.grow gg,by omega,bw,fun a n e H' g2 o2=>hK a n e H' g2 o2⟩
theorem zcf {ws l:LN} {sc:Nat} {W Hi:Int} {i:Nat} (h1:1≤W) (h2:W≤16) (h3:Hi≤16) (hl:(l.length:Int)=W*Hi) (hi:(i:Int)<Hi):(za2 (z1t l W i) ws sc).1.length≤64∧((za2 (z1t l W i) ws sc).2=true→1≤(za2 (z1t l W i) ws sc).1.length):=by
 obtain ⟨f1,f2,f3,f4⟩:=z6y h1 h2 h3 hl hi
 obtain ⟨a1,a2,a3⟩:=ze0 ws sc (z1t l W i)
 have a4:=zr4 ws sc (z1t l W i)
 show ((z1n ws sc (z1t l W i)).1++(z1n ws sc (z1t l W i)).2.1).length≤64∧((z1n ws sc (z1t l W i)).2.2=true→1≤((z1n ws sc (z1t l W i)).1++(z1n ws sc (z1t l W i)).2.1).length)
 rw [List.length_append]
 refine ⟨by omega,fun h=>?_⟩
 obtain ⟨b1,b2⟩:=a4 h
 omega
theorem f3z_main (gb:OA) (mb pb bb:Nat) (fa ia:Int) (ja:OA) (sa ya:Nat) (workers:Int) (H:zn) (K:KT) (h:T_f3z gb mb pb bb fa ia ja sa ya workers H fun (xc:Int) (vc:Int) (ta:OA) (xa:Nat) (ua:Nat) (r2:Bool) (H':zn)=>K (.tuple #[.agg #[.int .i64 xc,.int .i64 vc,.slice ta xa ua],.bool r2]) H'):zt Tryz.prog E_f3z Tryz.f27 [.agg #[.slice gb mb pb,.float .f32 bb],.agg #[.int .i64 fa,.int .i64 ia,.slice ja sa ya],.int .i64 workers] H K:=by
 rw [f3z_vc]
 obtain ⟨ws,l,iw,il,bw,bl,rfl,hk⟩:=h
 obtain rfl:=iw.eqn
 obtain rfl:=il.eqn
 have e:z5r ws bb fa ia l 1=(bif z7h ws bb then (bif z1o fa ia l then z3l fa ia ia.toNat (fun y=>za2 (z1t l fa y) ws bb) else (0,0,[],false)) else (0,0,[],false)):=rfl
 rw [e] at hk
 refine Al.intro fun b1 H1 e1 l1 g1 o1=>Al.intro fun b2 H2 e2 l2 g2 o2=>Al.intro fun b3 H3 e3 l3 g3 o3=>?_
 have G3:Grow H H3:=(g1.trans g2).trans g3
 have p1:=(o1.grow g2).grow g3
 have p2:=o2.grow g3
 refine ⟨gb,ws.length,pb,bb,(p1.rdN (nbl rfl)).trans rfl,zmi ⟨ws,iw.grow G3,bw,fun H4 g4=>?_⟩⟩
 refine Br.intro (fun hv=>?_) (fun hv=>?_)
 ·refine Lt.setN (o3.grow g4) (n:=3) ω20 rfl fun H5 l5 q5 k5=>⟨0,0,none,0,0,(q5.rdN (nbl rfl)).trans rfl,?_⟩
  rw [z1e hv,cond_false] at hk
  exact hk none 0 0 H5 ((G3.trans g4).keep ω2 k5) (OwnS.nil _ _ _ _)
 rw [z1a hv,cond_true] at hk
 refine ⟨fa,ia,ja,l.length,ya,((p2.grow g4).rdN (nbl rfl)).trans rfl,zbx ⟨l,il.grow (G3.trans g4),bl,fun H6 g6=>?_⟩⟩
 refine Br.intro (fun hp=>?_) (fun hp=>?_)
 ·refine Lt.setN ((o3.grow g4).grow g6) (n:=3) ω20 rfl fun H7 l7 q7 k7=>⟨0,0,none,0,0,(q7.rdN (nbl rfl)).trans rfl,?_⟩
  rw [z1e hp,cond_false] at hk
  exact hk none 0 0 H7 (((G3.trans g4).trans g6).keep ω2 k7) (OwnS.nil _ _ _ _)
 have hpv:=z1a hp
 rw [hpv,cond_true] at hk
 obtain ⟨w1,w2,w3,w4,w5,w6,w7⟩:=f8z_t hpv
 refine (?_:z3f 1 1 8 H6 _)
 unfold z3f
 rw [show z2c 1 1 8=true from rfl]
 refine Br.intro (fun h=>by cases h) (fun _=>?_)
 have G6:Grow H H6:=(G3.trans g4).trans g6
 obtain ⟨m,rfl⟩:∃m:Nat,ia=(m:Int):=⟨ia.toNat,by omega⟩
 refine ⟨fa,(m:Int),ja,l.length,ya,(((p2.grow g4).grow g6).rdN (nbl rfl)).trans rfl,?_⟩
 refine ⟨l,fun y=>za2 (z1t l fa y) ws bb,il.grow G6,rfl,w1,w2,w3,w4,w5,rfl,fun i hi=>zcf w1 w2 w4 w5 ω2,zmg (Hi:=(m:Int)) ω2 ((p1.grow g4).grow g6) (iw.grow G6) (il.grow G6) bw w1 w2 w4 w5,fun a n e' H10 g10 o10=>?_⟩
 have q3:=((o3.grow g4).grow g6).grow g10
 refine Lt.setN q3 (n:=3) (nbl rfl) rfl fun H11 l11 q11 k11=>⟨_,_,a,n,e',(q11.rdN (nbl rfl)).trans rfl,?_⟩
 have lo:=o10.lo
 have hle:=G6.1
 refine hk a n e' H11 ((G6.trans g10).keep ω2 k11) ((o10.keepA (fun x y hx hy=>by cases hx;have:=lo y hy;have:=(o3.grow g4).lt;have:=g6.1;show b3≠_;omega) (OwnS.keep1 k11)).weak hle)
theorem f3z_ok:FnOkX Tryz.prog (MainCls Tryz.prog) 27 S_f3z:=FnOkX.bodyF (hLt:=fun _=>z3h) mix_ok zzj Tryz.func27 rfl ω9 ω9 fun args H=>by
 unfold F_f3z
 split
 ·refine ⟨?_,?_,?_,?_,fun K hk=>f3z_main _ _ _ _ _ _ _ _ _ _ H K hk⟩
  ·intro K K' h hk;obtain ⟨ma,da,i_s,i_p,b_s,b_p,hw,k⟩:=hk;exact ⟨ma,da,i_s,i_p,b_s,b_p,hw,(fun jd pd od H' gg ow0=>h _ _ (k jd pd od H' gg ow0))⟩
  ·nofun
  ·intro K hk;obtain ⟨ma,da,i_s,i_p,b_s,b_p,hw,k⟩:=hk;exact z5q fun a n e H1 g o=>⟨_,_,k a n e H1 g o⟩
  ·nofun
 ·exact Nice.no

def z2z (ma:LN) (bb:Nat) (fa ia:Int) (da:LN):Int×Int×LN×Bool:=((z5r ma bb fa ia da (1:Int)).1,(z5r ma bb fa ia da (1:Int)).2.1,(z5r ma bb fa ia da (1:Int)).2.2.1,(z5r ma bb fa ia da (1:Int)).2.2.2)
def zbi:=@z2z.eq_1
def zo7 (gb:OA) (mb pb bb:Nat) (fa ia:Int) (ja:OA) (sa ya:Nat) (H:zn) (K:Int→Int→OA→Nat→Nat→Bool→zn→Prop):Prop:=∃(ma da:LN),IsL fF H gb mb ma∧IsL fF H ja sa da∧ma.length<1073741824∧da.length<1073741824∧((∀(ta:OA) (xa ua:Nat),∀H':zn,Grow H H'→OwnS fF H' H.length ta xa ua ((z2z ma bb fa ia da).2.2.1)→K ((z2z ma bb fa ia da).1) ((z2z ma bb fa ia da).2.1) ta xa ua ((z2z ma bb fa ia da).2.2.2) H'))
theorem z10w {gb:OA} {mb pb bb:Nat} {fa ia:Int} {ja:OA} {sa ya:Nat} {H:zn} {K:Int→Int→OA→Nat→Nat→Bool→zn→Prop} (h:∃(ma da:LN),IsL fF H gb mb ma∧IsL fF H ja sa da∧ma.length<1073741824∧da.length<1073741824∧((∀(ta:OA) (xa ua:Nat),∀H':zn,Grow H H'→OwnS fF H' H.length ta xa ua ((z2z ma bb fa ia da).2.2.1)→K ((z2z ma bb fa ia da).1) ((z2z ma bb fa ia da).2.1) ta xa ua ((z2z ma bb fa ia da).2.2.2) H'))):zo7 gb mb pb bb fa ia ja sa ya H K:=h
theorem zrx {W Hi:Int} {m:Nat} {g:Nat→LN×Bool} (hm:m≤16) (h:∀i,i<m→(g i).1.length≤64):(z3l W Hi m g).2.2.1.length≤1024:=by
 unfold z3l
 have:=zkf h m (Nat.le_refl _)
 cases (List.range m).all (fun i=>(g i).2) with
 | false=>simp
 | true=>
  rw [cond_true,z4t]
  cases !(z1o W Hi (z5y g m)) with
  | true=>simp
  | false=>simp only [cond_false];omega
theorem f15z_len (ws:LN) (sc:Nat) (W Hi:Int) (l:LN):(z2z ws sc W Hi l).2.2.1.length≤1024:=by
 rw [zbi]
 show (z5r ws sc W Hi l 1).2.2.1.length≤1024
 unfold z5r
 cases z7h ws sc with
 | false=>simp
 | true=>
  rw [cond_true]
  cases h:z1o W Hi l with
  | false=>simp
  | true=>
   rw [cond_true]
   obtain ⟨h1,h2,h3,h4,h5,_⟩:=f8z_t h
   exact zrx ω2 fun i hi=>(zcf h1 h2 h4 h5 ω2).1
def zt0:Env:=envOf [(27,S_f3z)]
def z17c (args:List Value) (H:zn):(Value→zn→Prop)→Prop:=match args with
 | [.agg ⟨[.slice gb mb pb,.float .f32 bb]⟩,.agg ⟨[.int .i64 fa,.int .i64 ia,.slice ja sa ya]⟩]=>fun K=>zo7 gb mb pb bb fa ia ja sa ya H fun (xc:Int) (vc:Int) (ta:OA) (xa:Nat) (ua:Nat) (r2:Bool) (H':zn)=>K (.tuple #[.agg #[.int .i64 xc,.int .i64 vc,.slice ta xa ua],.bool r2]) H'
 | _=>fun _=>False
def z18n:FSpec:={F:=z17c,quiet:=false,tame:=true}
theorem f15z_vc (gb:OA) (mb pb bb:Nat) (fa ia:Int) (ja:OA) (sa ya:Nat) (H:zn) (K:KT):zt Tryz.prog zt0 Tryz.f26 [.agg #[.slice gb mb pb,.float .f32 bb],.agg #[.int .i64 fa,.int .i64 ia,.slice ja sa ya]] H K=
 (Al [.slice gb mb pb,.float .f32 bb] H fun b1 H1=>Al [.int .i64 fa,.int .i64 ia,.slice ja sa ya] H1 fun b2 H2=>Al [.int .i64 0,.int .i64 0,.slice none 0 0] H2 fun b3 H3=>∃ui:OA,∃(wi vi c2:Nat),  rdN H3 b1 0 2=some [.slice ui wi vi,.float .f32 c2]∧∃(c3 c4:Int),∃lj:OA,∃(nj mj:Nat),  rdN H3 b2 0 3=some [.int .i64 c3,.int .i64 c4,.slice lj nj mj]∧T_f3z ui wi vi c2 c3 c4 lj nj mj 1 H3 fun (r1:Int) (r2:Int) (a1:OA) (r3:Nat) (r4:Nat) (r5:Bool) (H4:zn)=>isOwn H4 b3∧(∃l,rdN H4 b3 0 3=some l)∧Lt (setN H4 b3 0 [.int .i64 r1,.int .i64 r2,.slice a1 r3 r4]) fun H5=>∃(c6 c7:Int),∃pj:OA,∃(rj qj:Nat),  rdN H5 b3 0 3=some [.int .i64 c6,.int .i64 c7,.slice pj rj qj]∧K (.tuple #[.agg #[.int .i64 c6,.int .i64 c7,.slice pj rj qj],.bool r5]) H5):=by kernel_rfl
theorem zt1:∀g,FnOkX Tryz.prog (MainCls Tryz.prog) g (zt0 g):=FnOkX.envOf (by
 intro x hx
 simp only [List.mem_cons,List.not_mem_nil,or_false] at hx
 subst hx;exact f3z_ok)
theorem f15z_main (gb:OA) (mb pb bb:Nat) (fa ia:Int) (ja:OA) (sa ya:Nat) (H:zn) (K:KT) (h:zo7 gb mb pb bb fa ia ja sa ya H fun (xc:Int) (vc:Int) (ta:OA) (xa:Nat) (ua:Nat) (r2:Bool) (H':zn)=>K (.tuple #[.agg #[.int .i64 xc,.int .i64 vc,.slice ta xa ua],.bool r2]) H'):zt Tryz.prog zt0 Tryz.f26 [.agg #[.slice gb mb pb,.float .f32 bb],.agg #[.int .i64 fa,.int .i64 ia,.slice ja sa ya]] H K:=by
 rw [f15z_vc]
 obtain ⟨ma,da,xf,xd,bd_66,bd_67,hk⟩:=h
 obtain rfl:=xf.eqn
 obtain rfl:=xd.eqn
 have e:(z2z ma bb fa ia da)=_:=rfl
 have e:=e.trans (zbi ma bb fa ia da)
 have g0:=Grow.refl H
 refine Al.intro (fun b_1 H_1 hb_2 hl_3 g_4 o_5=>?_)
 have l_7:=g_4.1
 have g_8:=g0.trans g_4
 have l_9:=g_8.1
 have w65:=o_5.lt
 refine Al.intro (fun b_10 H_2 hb_11 hl_12 g_13 o_14=>?_)
 have l_16:=g_13.1
 have g_17:=g_8.trans g_13
 have l_18:=g_17.1
 have o_19:=o_5.grow g_13
 have w20:=o_19.lt
 have w64:=o_14.lt
 refine Al.intro (fun b_21 H_3 hb_22 hl_23 g24 o25=>?_)
 have l27:=g24.1
 have g28:=g_17.trans g24
 have l29:=g28.1
 have o30:=o_19.grow g24
 have w31:=o30.lt
 have o32:=o_14.grow g24
 have w33:=o32.lt
 have w63:=o25.lt
 refine ⟨gb,ma.length,pb,bb,(o30.rdN (nbl rfl)).trans rfl,?_⟩
 refine ⟨fa,ia,ja,da.length,ya,(o32.rdN (nbl rfl)).trans rfl,?_⟩
 refine z1bf ⟨_,_,(xf.grow g28),(xd.grow g28),ω0,ω0,ω10,fun a34 n35 e36 H_4 g38 r37=>?_⟩
 have l39:=g38.1
 have g40:=g28.trans g38
 have l41:=g40.1
 have o42:=o30.grow g38
 have w43:=o42.lt
 have o44:=o32.grow g38
 have w45:=o44.lt
 have o46:=o25.grow g38
 have w47:=o46.lt
 obtain rfl:=r37.isL.eqn
 have u48:=r37.up
 have u49:=r37.lo
 refine Lt.setN (n:=3) o46 (nbl rfl) rfl (fun H_5 hl_51 o53 k52=>?_)
 have o53:Own H_5 b_21 [.int .i64 ((z5r ma bb fa ia da (1:Int)).1),.int .i64 ((z5r ma bb fa ia da (1:Int)).2.1),.slice a34 (((z5r ma bb fa ia da (1:Int)).2.2.1).length) e36]:=o53
 have l54:=k52.1
 have g55:=g40.keep (b:=b_21) ω2 k52
 have l56:=g55.1
 have o57:=o42.keep ω2 k52
 have w58:=o57.lt
 have o59:=o44.keep ω2 k52
 have w60:=o59.lt
 have r61:=r37.keep u48 ω2 k52
 have w62:=o53.lt
 refine ⟨(z5r ma bb fa ia da (1:Int)).1,(z5r ma bb fa ia da (1:Int)).2.1,a34,((z5r ma bb fa ia da (1:Int)).2.2.1).length,e36,(o53.rdN (nbl rfl)).trans rfl,?_⟩
 rw [e] at hk
 exact hk _ _ _ H_5 g55 (r61.weak ω2)
theorem f15z_ok:FnOkX Tryz.prog (MainCls Tryz.prog) 26 z18n:=FnOkX.bodyF (hLt:=fun _=>z3h) mix_ok zt1 Tryz.func26 rfl ω9 ω9 fun args H=>by
 unfold z17c
 split
 ·refine ⟨?_,?_,?_,?_,fun K hk=>f15z_main _ _ _ _ _ _ _ _ _ H K hk⟩
  ·intro K K' h hk;obtain ⟨ma,da,xf,xd,bd_66,bd_67,k⟩:=hk;exact ⟨ma,da,xf,xd,bd_66,bd_67,(fun ta xa ua H' gg ow0=>h _ _ (k ta xa ua H' gg ow0))⟩
  ·nofun
  ·intro K hk;obtain ⟨ma,da,xf,xd,bd_66,bd_67,k⟩:=hk;exact z5q fun a n e H1 g o=>⟨_,_,k a n e H1 g o⟩
  ·intro _ K hk;obtain ⟨ma,da,xf,xd,bd_66,bd_67,k⟩:=hk;exact ⟨ma,da,xf,xd,bd_66,bd_67,(fun ta xa ua H' gg ow0=>⟨gg,k ta xa ua H' gg ow0⟩)⟩
 ·exact Nice.no

def zrr (fa ia:Int) (da sb:LN) (mc:Nat):Int×Int×LN×Bool:=((z2z sb mc fa ia da).1,(z2z sb mc fa ia da).2.1,(z2z sb mc fa ia da).2.2.1,(z2z sb mc fa ia da).2.2.2)
def z15q:=@zrr.eq_1
def T_f5z (fa ia:Int) (ja:OA) (sa ya cap0:Nat) (H:zn) (K:Int→Int→OA→Nat→Nat→Bool→zn→Prop):Prop:=∃ff:OA,∃(vf uf mc:Nat),∃(da sb:LN),rdN H cap0 0 2=some [.slice ff vf uf,.float .f32 mc]∧IsL fF H ja sa da∧IsL fF H ff vf sb∧da.length<1073741824∧sb.length<1073741824∧((∀(ta:OA) (xa ua:Nat),∀H':zn,Grow H H'→OwnS fF H' H.length ta xa ua ((zrr fa ia da sb mc).2.2.1)→K ((zrr fa ia da sb mc).1) ((zrr fa ia da sb mc).2.1) ta xa ua ((zrr fa ia da sb mc).2.2.2) H'))
def E_f5z:Env:=envOf [(26,z18n)]
def F_f5z (args:List Value) (H:zn):(Value→zn→Prop)→Prop:=match args with
 | [.agg ⟨[.int .i64 fa,.int .i64 ia,.slice ja sa ya]⟩,.pointer (some ⟨cap0,0,none⟩)]=>fun K=>T_f5z fa ia ja sa ya cap0 H fun (xc:Int) (vc:Int) (ta:OA) (xa:Nat) (ua:Nat) (r2:Bool) (H':zn)=>K (.tuple #[.agg #[.int .i64 xc,.int .i64 vc,.slice ta xa ua],.bool r2]) H'
 | _=>fun _=>False
def S_f5z:FSpec:={F:=F_f5z,quiet:=false,tame:=true}
theorem f5z_vc (fa ia:Int) (ja:OA) (sa ya cap0:Nat) (H:zn) (K:KT):zt Tryz.prog E_f5z Tryz.f63 [.agg #[.int .i64 fa,.int .i64 ia,.slice ja sa ya],.pointer (some ⟨cap0,0,none⟩)] H K=
 (Al [.int .i64 fa,.int .i64 ia,.slice ja sa ya] H fun b1 H1=>Al [.int .i64 0,.int .i64 0,.slice none 0 0] H1 fun b2 H2=>∃ui:OA,∃(wi vi c2:Nat),  rdN H2 cap0 0 2=some [.slice ui wi vi,.float .f32 c2]∧∃(c3 c4:Int),∃lj:OA,∃(nj mj:Nat),  rdN H2 b1 0 3=some [.int .i64 c3,.int .i64 c4,.slice lj nj mj]∧zo7 ui wi vi c2 c3 c4 lj nj mj H2 fun (r1:Int) (r2:Int) (a1:OA) (r3:Nat) (r4:Nat) (r5:Bool) (H3:zn)=>isOwn H3 b2∧(∃l,rdN H3 b2 0 3=some l)∧Lt (setN H3 b2 0 [.int .i64 r1,.int .i64 r2,.slice a1 r3 r4]) fun H4=>∃(c6 c7:Int),∃pj:OA,∃(rj qj:Nat),  rdN H4 b2 0 3=some [.int .i64 c6,.int .i64 c7,.slice pj rj qj]∧K (.tuple #[.agg #[.int .i64 c6,.int .i64 c7,.slice pj rj qj],.bool r5]) H4):=by kernel_rfl
theorem zzl:∀g,FnOkX Tryz.prog (MainCls Tryz.prog) g (E_f5z g):=FnOkX.envOf (by
 intro x hx
 simp only [List.mem_cons,List.not_mem_nil,or_false] at hx
 subst hx;exact f15z_ok)
theorem f5z_main (fa ia:Int) (ja:OA) (sa ya cap0:Nat) (H:zn) (K:KT) (h:T_f5z fa ia ja sa ya cap0 H fun (xc:Int) (vc:Int) (ta:OA) (xa:Nat) (ua:Nat) (r2:Bool) (H':zn)=>K (.tuple #[.agg #[.int .i64 xc,.int .i64 vc,.slice ta xa ua],.bool r2]) H'):zt Tryz.prog E_f5z Tryz.f63 [.agg #[.int .i64 fa,.int .i64 ia,.slice ja sa ya],.pointer (some ⟨cap0,0,none⟩)] H K:=by
 rw [f5z_vc]
 obtain ⟨ff,vf,uf,mc,da,sb,i_cap0,xd,ig,bd_49,bd_50,hk⟩:=h
 obtain rfl:=xd.eqn
 obtain rfl:=ig.eqn
 have e:(zrr fa ia da sb mc)=_:=rfl
 have e:=e.trans (z15q fa ia da sb mc)
 have g0:=Grow.refl H
 refine Al.intro (fun b_1 H_1 hb_2 hl_3 g_4 o_5=>?_)
 have l_7:=g_4.1
 have g_8:=g0.trans g_4
 have l_9:=g_8.1
 have w48:=o_5.lt
 refine Al.intro (fun b_10 H_2 hb_11 hl_12 g_13 o_14=>?_)
 have l_16:=g_13.1
 have g_17:=g_8.trans g_13
 have l_18:=g_17.1
 have o_19:=o_5.grow g_13
 have w20:=o_19.lt
 have w47:=o_14.lt
 refine ⟨ff,sb.length,uf,mc,zq g_17 i_cap0,?_⟩
 refine ⟨fa,ia,ja,da.length,ya,(o_19.rdN (nbl rfl)).trans rfl,?_⟩
 refine z10w ⟨_,_,(ig.grow g_17),(xd.grow g_17),ω0,ω0,fun a21 n22 e23 H_3 g26 r_24=>?_⟩
 have z25:=f15z_len sb mc fa ia da
 have l27:=g26.1
 have g28:=g_17.trans g26
 have l29:=g28.1
 have o30:=o_19.grow g26
 have w31:=o30.lt
 have o32:=o_14.grow g26
 have w33:=o32.lt
 obtain rfl:=r_24.isL.eqn
 have u34:=r_24.up
 have u35:=r_24.lo
 refine Lt.setN (n:=3) o32 (nbl rfl) rfl (fun H_4 hl_37 o39 k38=>?_)
 have o39:Own H_4 b_10 [.int .i64 ((z2z sb mc fa ia da).1),.int .i64 ((z2z sb mc fa ia da).2.1),.slice a21 (((z2z sb mc fa ia da).2.2.1).length) e23]:=o39
 have l40:=k38.1
 have g41:=g28.keep (b:=b_10) ω2 k38
 have l42:=g41.1
 have o43:=o30.keep ω2 k38
 have w44:=o43.lt
 have r45:=r_24.keep u34 ω2 k38
 have w46:=o39.lt
 refine ⟨(z2z sb mc fa ia da).1,(z2z sb mc fa ia da).2.1,a21,((z2z sb mc fa ia da).2.2.1).length,e23,(o39.rdN (nbl rfl)).trans rfl,?_⟩
 rw [e] at hk
 exact hk _ _ _ H_4 g41 (r45.weak ω2)
theorem f5z_ok:FnOkX Tryz.prog (MainCls Tryz.prog) 63 S_f5z:=FnOkX.bodyF (hLt:=fun _=>z3h) mix_ok zzl Tryz.func63 rfl ω9 ω9 fun args H=>by
 unfold F_f5z
 split
 ·refine ⟨?_,?_,?_,?_,fun K hk=>f5z_main _ _ _ _ _ _ H K hk⟩
  ·intro K K' h hk;obtain ⟨ff,vf,uf,mc,da,sb,i_cap0,xd,ig,bd_49,bd_50,k⟩:=hk;exact ⟨ff,vf,uf,mc,da,sb,i_cap0,xd,ig,bd_49,bd_50,(fun ta xa ua H' gg ow0=>h _ _ (k ta xa ua H' gg ow0))⟩
  ·nofun
  ·intro K hk;obtain ⟨ff,vf,uf,mc,da,sb,i_cap0,xd,ig,bd_49,bd_50,k⟩:=hk;exact z5q fun a n e H1 g o=>⟨_,_,k a n e H1 g o⟩
  ·intro _ K hk;obtain ⟨ff,vf,uf,mc,da,sb,i_cap0,xd,ig,bd_49,bd_50,k⟩:=hk;exact ⟨ff,vf,uf,mc,da,sb,i_cap0,xd,ig,bd_49,bd_50,(fun ta xa ua H' gg ow0=>⟨gg,k ta xa ua H' gg ow0⟩)⟩
 ·exact Nice.no
def swapF (l:LN) (W x y:Int):Nat:=l.getD (x*W+y).toNat 0
def z8j (fa ia:Int) (da:LN):Int×Int×LN×Bool:=bif z1o fa ia da then z9n ia fa (swapF da fa) else (0,0,[],false)
def zva (fa ia:Int) (ja:OA) (sa ya:Nat) (H:zn) (K:Int→Int→OA→Nat→Nat→Bool→zn→Prop):Prop:=
 ∃da:LN,IsL fF H ja sa da∧da.length<1073741824∧
  (∀(jd:OA) (pd od:Nat),∀H':zn,Grow H H'→OwnS fF H' H.length jd pd od ((z8j fa ia da).2.2.1)→K ((z8j fa ia da).1) ((z8j fa ia da).2.1) jd pd od ((z8j fa ia da).2.2.2) H')
theorem zvb {fa ia:Int} {ja:OA} {sa ya:Nat} {H:zn} {K:Int→Int→OA→Nat→Nat→Bool→zn→Prop} (h:∃da:LN,IsL fF H ja sa da∧da.length<1073741824∧
  (∀(jd:OA) (pd od:Nat),∀H':zn,Grow H H'→OwnS fF H' H.length jd pd od ((z8j fa ia da).2.2.1)→K ((z8j fa ia da).1) ((z8j fa ia da).2.1) jd pd od ((z8j fa ia da).2.2.2) H')):zva fa ia ja sa ya H K:=h
theorem zxd (W Hi:Int) (l:LN):((z8j W Hi l).2.2.1.length:Int)≤256:=by
 unfold z8j
 cases z1o W Hi l with
 | false=>show ((0:Nat):Int)≤256;omega
 | true=>exact zbt _ _ _
def E_fmz:Env:=envOf [(50,zmh),(82,S_fpz)]
def F_fmz (args:List Value) (H:zn):(Value→zn→Prop)→Prop:=match args with
 | [.agg ⟨[.int .i64 fa,.int .i64 ia,.slice ja sa ya]⟩]=>fun K=>zva fa ia ja sa ya H fun (xc:Int) (vc:Int) (ta:OA) (xa:Nat) (ua:Nat) (r2:Bool) (H':zn)=>K (.tuple #[.agg #[.int .i64 xc,.int .i64 vc,.slice ta xa ua],.bool r2]) H'
 | _=>fun _=>False
def S_fmz:FSpec:={F:=F_fmz,quiet:=false,tame:=true}
theorem z1j3 (fa ia:Int) (ja:OA) (sa ya:Nat) (H:zn) (K:KT):zt Tryz.prog E_fmz Tryz.f38 [.agg #[.int .i64 fa,.int .i64 ia,.slice ja sa ya]] H K=
 (Al [.int .i64 fa,.int .i64 ia,.slice ja sa ya] H fun b1 H1=>Al [.int .i64 0,.int .i64 0,.slice none 0 0] H1 fun b2 H2=>∃(c1 c2:Int),∃dh:OA,∃(fh eh:Nat),  rdN H2 b1 0 3=some [.int .i64 c1,.int .i64 c2,.slice dh fh eh]∧zht c1 c2 dh fh eh H2 fun (r1:Bool) (H3:zn)=>Br (!r1) (isOwn H3 b2∧(∃l,rdN H3 b2 0 3=some l)∧Lt (setN H3 b2 0 [.int .i64 0,.int .i64 0,.slice none 0 0]) fun H4=>∃(c4 c5:Int),∃qh:OA,∃(th sh:Nat),  rdN H4 b2 0 3=some [.int .i64 c4,.int .i64 c5,.slice qh th sh]∧K (.tuple #[.agg #[.int .i64 c4,.int .i64 c5,.slice qh th sh],.bool false]) H4) (∃x1:Int,  rdC H3 b1 1=some (.int .i64 x1)∧∃x2:Int,  rdC H3 b1 0=some (.int .i64 x2)∧zvc x1 x2 (.func 84) #[] #[.pointer (some ⟨b1,0,none⟩)] H3 fun (r2:Int) (r3:Int) (a1:OA) (r4:Nat) (r5:Nat) (r6:Bool) (H5:zn)=>isOwn H5 b2∧(∃l,rdN H5 b2 0 3=some l)∧Lt (setN H5 b2 0 [.int .i64 r2,.int .i64 r3,.slice a1 r4 r5]) fun H6=>∃(c7 c8:Int),∃ei:OA,∃(gi fi:Nat),  rdN H6 b2 0 3=some [.int .i64 c7,.int .i64 c8,.slice ei gi fi]∧K (.tuple #[.agg #[.int .i64 c7,.int .i64 c8,.slice ei gi fi],.bool r6]) H6)):=by kernel_rfl
theorem z10c:∀g,FnOk Tryz.prog g (E_fmz g):=FnOk.envOf (by
 intro x hx
 simp only [List.mem_cons,List.not_mem_nil,or_false] at hx
 rcases hx with rfl | rfl
 ·exact f8z_ok
 ·exact z1a2)
theorem zj9 {H:zn} {b:Nat} {la:OA} {ln le:Nat} {l:LN} {W Hi:Int} (o:Own H b [.int .i64 W,.int .i64 Hi,.slice la ln le]) (il:IsL fF H la ln l) (bl:l.length<1073741824) (h2:W≤16) (h4:Hi≤16) (hl:(l.length:Int)=W*Hi):
  zho z6h (.func (.func 84) #[] #[.pointer (some ⟨b,0,none⟩)]) H Hi W (swapF l W):=by
 intro u v u0 u1 v0 v1 _ _ H1 gg K hK
 refine (?_:T_fcz u v b H1 fun r H'=>K (.float .f32 r) H')
 exact ⟨W,Hi,la,ln,le,l,((o.grow gg).rdN (nbl rfl)).trans rfl,il.grow gg,bl,u0,v0,u1,v1,h2,h4,hl,hK H1 (Grow.refl H1)⟩
theorem z14a (fa ia:Int) (ja:OA) (sa ya:Nat) (H:zn) (K:KT) (h:zva fa ia ja sa ya H fun (xc:Int) (vc:Int) (ta:OA) (xa:Nat) (ua:Nat) (r2:Bool) (H':zn)=>K (.tuple #[.agg #[.int .i64 xc,.int .i64 vc,.slice ta xa ua],.bool r2]) H'):zt Tryz.prog E_fmz Tryz.f38 [.agg #[.int .i64 fa,.int .i64 ia,.slice ja sa ya]] H K:=by
 rw [z1j3]
 obtain ⟨l,il,bl,hk⟩:=h
 obtain rfl:=il.eqn
 have ep:z8j fa ia l=(bif z1o fa ia l then z9n ia fa (swapF l fa) else (0,0,[],false)):=rfl
 rw [ep] at hk
 refine Al.intro fun b1 H1 e1 l1 g1 o1=>Al.intro fun b2 H2 e2 l2 g2 o2=>?_
 have p1:=o1.grow g2
 have G2:Grow H H2:=g1.trans g2
 refine ⟨fa,ia,ja,l.length,ya,(p1.rdN (nbl rfl)).trans rfl,zbx ⟨l,il.grow G2,bl,fun H3 g3=>?_⟩⟩
 have q2:=o2.grow g3
 refine Br.intro (fun hp=>?_) (fun hp=>?_)
 ·refine Lt.setN q2 (n:=3) ω20 rfl fun H4 l4 q4 k4=>⟨0,0,none,0,0,(q4.rdN (nbl rfl)).trans rfl,?_⟩
  rw [z1e hp,cond_false] at hk
  exact hk none 0 0 H4 ((G2.trans g3).keep ω2 k4) (OwnS.nil _ _ _ _)
 have hpv:=z1a hp
 rw [hpv,cond_true] at hk
 obtain ⟨w1,w2,w3,w4,w5,w6,w7⟩:=f8z_t hpv
 have q1:=p1.grow g3
 have G3:Grow H H3:=G2.trans g3
 refine ⟨ia,(q1.rdC 1).trans rfl,fa,(q1.rdC 0).trans rfl,zvd ⟨swapF l fa,rfl,zj9 q1 (il.grow G3) bl w2 w4 w5,fun a n e H5 g5 o5=>?_⟩⟩
 have lo:=o5.lo
 have hle:=G3.1
 refine Lt.setN (q2.grow g5) (n:=3) ω20 rfl fun H6 l6 q6 k6=>⟨_,_,a,n,e,(q6.rdN (nbl rfl)).trans rfl,?_⟩
 exact hk a n e H6 ((G3.trans g5).keep ω2 k6) ((o5.keepA (fun x y hx hy=>by cases hx;have:=lo y hy;have:=q2.lt;show b2≠_;omega) (OwnS.keep1 k6)).weak hle)
theorem z1j2:FnOk Tryz.prog 38 S_fmz:=FnOk.bodyF mix_ok z10c Tryz.func38 rfl ω9 ω9 fun args H=>by
 unfold F_fmz
 split
 ·refine ⟨?_,?_,?_,?_,fun K hk=>z14a _ _ _ _ _ H K hk⟩
  ·intro K K' h hk;obtain ⟨l,i,b,k⟩:=hk;exact ⟨l,i,b,(fun jd pd od H' gg ow0=>h _ _ (k jd pd od H' gg ow0))⟩
  ·nofun
  ·intro K hk;obtain ⟨l,i,b,k⟩:=hk;exact z5q fun a n e H1 g o=>⟨_,_,k a n e H1 g o⟩
  ·intro _ K hk;obtain ⟨l,i,b,k⟩:=hk;exact ⟨l,i,b,(fun jd pd od H' gg ow0=>⟨gg,k jd pd od H' gg ow0⟩)⟩
 ·exact Nice.no
end Go.Proofs.YthheoefadijhdaaGreat.Ai
