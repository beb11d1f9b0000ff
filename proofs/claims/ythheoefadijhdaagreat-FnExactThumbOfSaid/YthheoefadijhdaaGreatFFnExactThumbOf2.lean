/- What functions of the program come to on the abstract machine, and that they do so; printed by a program of mine around proofs of mine. -/
import Derived.Test.YthheoefadijhdaaGreatFFnExactThumbOf1
set_option linter.unusedVariables false
set_option linter.unusedSimpArgs false
set_option linter.defProp false
set_option maxRecDepth 100000
set_option maxHeartbeats 1000000
namespace Go.Proofs.YthheoefadijhdaaGreat.Ai
open Go
attribute [local irreducible] z6i zw

def z9i (n times:Int):Nat→Int→Int→Int
 | 0,_,_=>0
 | μ+1,n_0,t6=>(bif decide ((t6:Int)<times) then (z9i n times μ ((Int.tdiv (n_0+1) 2)) (t6+1)) else n_0)
def zal:=fun n times μ n_0 t6=>@z9i.eq_2 n times n_0 t6 μ
def z1e (n times:Int):Int:=(z9i n times (Int.toNat (times-(0:Int))+1) n (0:Int))
def zld:=@z1e.eq_1
def zb0 (n times:Int) (H:zp) (K:Int→zp→Prop):Prop:=1≤n∧n≤16∧times≤1000∧K (z1e n times) H
theorem zcz {n times:Int} {H:zp} {K:Int→zp→Prop} (h:1≤n∧n≤16∧times≤1000∧K (z1e n times) H):zb0 n times H K:=h
theorem z1dn (n times:Int):∀(μ:Nat) (a k:Int),1≤a→a≤16→times-k≤μ→z9i n times (μ+1) a k=z6k (times-k).toNat a:=by
 intro μ
 induction μ with
 | zero=>
  intro a k h1 h2 hm
  rw [zal,dcf ω2,cond_false,show (times-k).toNat=0 by omega];rfl
 | succ μ ih=>
  intro a k h1 h2 hm
  rw [zal]
  by_cases h:k<times
  ·rw [dct h,cond_true,zdx h1]
   have ra:=zb8 h1 h2
   obtain ⟨j,hj⟩:∃j,(times-k).toNat=j+1:=⟨(times-k).toNat-1,by omega⟩
   rw [ih (zi0 a) (k+1) ω2 ω2 ω2,hj,show (times-(k+1)).toNat=j by omega];rfl
  ·rw [dcf h,cond_false,show (times-k).toNat=0 by omega];rfl
theorem zae (n times:Int) (h1:1≤n) (h2:n≤16):z1e n times=z6k times.toNat n:=by
 rw [zld,z1dn n times _ n 0 h1 h2 ω2,show times-0=times by omega]
theorem zd1 (n times:Int):1≤n∧n≤16→1≤z1e n times∧z1e n times≤n:=fun ⟨h1,h2⟩=>by
 rw [zae n times h1 h2];exact z4d _ _ h1 h2
def zax:Env:=envOf []
def z17l (args:List Value) (H:zp):(Value→zp→Prop)→Prop:=match args with
 | [.int .i64 n,.int .i64 times]=>fun K=>zb0 n times H fun (r1:Int) (H':zp)=>K (.int .i64 r1) H'
 | _=>fun _=>False
def zuj:FSpec:={F:=z17l,quiet:=true,tame:=false}
theorem z1dq (n times:Int) (H:zp) (K:KT):zw Tryz.prog zax Tryz.f55 [.int .i64 n,.int .i64 times] H K=
 (z1n (exL Tryz.prog zax (cl (cl (cr (cl (cr (zq Tryz.f55)))))) 97 16 [(0,1)]) (.int .i64 n::ud4 (.int .i64 times::.int .i64 0::ud6 [])) H (z1a 0 (seqQ (exL Tryz.prog zax (cr (cr (zq Tryz.f55))) 16 16 []) (retK Tryz.prog Tryz.f55 K)))):=by kernel_rfl
abbrev zds (times n_0 t6:Int)  :List Value:=(.int .i64 n_0::ud4 (.int .i64 times::.int .i64 t6::ud6 []))
theorem z1dp (times n_0 t6:Int)  (H:zp) (R:Post):exL Tryz.prog zax (cl (cl (cr (cl (cr (zq Tryz.f55)))))) 97 16 [(0,1)] (zds times n_0 t6) H R=
 (Br (decide ((t6:Int)<times)) (2≠(0:Int)∧R .normal (.int .i64 (IntKind.wrap .i64 (Int.tdiv (IntKind.wrap .i64 (n_0+1)) 2))::ud4 (.int .i64 times::.int .i64 (IntKind.wrap .i64 (t6+1))::ud6 [])) H) (R (.exit 0) (.int .i64 n_0::ud12 []) H)):=by kernel_rfl
def zmr (times:Int) (Inv:Nat→Int→Int→zp→Prop):Nat→List Value→zp→Prop:=fun μ tm H=>∃(n_0 t6:Int),tm=(zds times n_0 t6)∧Inv μ n_0 t6 H
theorem z1dm (times:Int) {Q:Post} (Inv:Nat→Int→Int→zp→Prop) (ν:Nat) (n_0 t6:Int)  (H:zp) (h0:Inv ν n_0 t6 H)
  (hs:∀(μ:Nat) (n_0:Int) (t6:Int)  (H:zp),Inv μ n_0 t6 H→exL Tryz.prog zax (cl (cl (cr (cl (cr (zq Tryz.f55)))))) 97 16 [(0,1)] (zds times n_0 t6) H (z1b (zmr times Inv) μ Q)):z1n (exL Tryz.prog zax (cl (cl (cr (cl (cr (zq Tryz.f55)))))) 97 16 [(0,1)]) (zds times n_0 t6) H Q:=
 ⟨zmr times Inv,ν,⟨n_0,t6,rfl,h0⟩,fun μ tm H h=>by obtain ⟨n_0,t6,rfl,hI⟩:=h;exact hs μ n_0 t6  H hI⟩
theorem z1do {times:Int} {Q:Post} {Inv:Nat→Int→Int→zp→Prop} {μ:Nat} (μ':Nat) {n_0 t6:Int}  {H:zp} (hm:μ'<μ) (hI:Inv μ' n_0 t6 H):z1b (zmr times Inv) μ Q .normal (zds times n_0 t6) H:=⟨μ',hm,n_0,t6,rfl,hI⟩
theorem zwp (n_0:Int) (H:zp) (K:KT)  {I:Nat→List Value→zp→Prop} {μ:Nat}:z1b I μ (z1a 0 (seqQ (exL Tryz.prog zax (cr (cr (zq Tryz.f55))) 16 16 []) (retK Tryz.prog Tryz.f55 K))) (.exit 0) (.int .i64 n_0::ud12 []) H=
 (K (.int .i64 n_0) H):=by kernel_rfl
theorem ztv:∀g,FnOk Tryz.prog g (zax g):=FnOk.envOf (by
 intro x hx;cases hx)
theorem zwn (n times:Int) (H:zp) (K:KT) (h:zb0 n times H fun (r1:Int) (H':zp)=>K (.int .i64 r1) H'):zw Tryz.prog zax Tryz.f55 [.int .i64 n,.int .i64 times] H K:=by
 rw [z1dq]
 obtain ⟨pr0,pr1,pr2,hk⟩:=h
 have e:(z1e n times)=_:=rfl
 have e:=e.trans (zld n times)
 have g0:=Grow.refl H
 refine z1dm _ (fun (μ:Nat) (n_0:Int) (t6:Int) (H_1:zp)=>H=H_1∧(0:Int)≤t6∧((t6≤times∨t6≤(0:Int)))∧1≤n_0∧n_0≤16∧times-t6≤(μ:Int)∧z1e n times=z9i n times (μ+1) n_0 t6) (Int.toNat (times-(0:Int))) _ _ H ?_ ?_
 ·exact ⟨rfl,ω7,ω7,ω7,ω7,ω2,e⟩
 ·intro μ n_0 t6  H_1 hI
  obtain ⟨rfl,v_1,v_2,v_3,v_4,hμ,e⟩:=hI
  rw [z1dp]
  have e:=e.trans (zal n times μ n_0 t6)
  have l_5:=g0.1
  refine Br.intro (fun c_6=>?_) (fun c_6=>?_)
  ·have e:=e.trans (zv c_6)
   have c_6':=odt c_6
   rw [show IntKind.wrap .i64 (n_0+1)=(n_0+1) from zt ω2 ω2]
   have z7:=zca (n_0+1) 2
   refine ⟨ω23,?_⟩
   rw [show IntKind.wrap .i64 (Int.tdiv (n_0+1) 2)=(Int.tdiv (n_0+1) 2) from zt ω2 ω2]
   rw [show IntKind.wrap .i64 (t6+1)=(t6+1) from zt ω2 ω2]
   refine z1do (μ-1) ω15 ⟨rfl,ω1,ω1,ω1,ω1,ω15,ω13⟩
  ·have e:=e.trans (zu c_6)
   have c_6':=odf c_6
   rw [zwp]
   rw [e] at hk
   exact hk
theorem zwo:FnOk Tryz.prog 55 zuj:=FnOk.bodyF mix_ok ztv Tryz.func55 rfl ω10 ω10 fun args H=>by
 unfold z17l
 split
 ·refine ⟨?_,?_,?_,?_,fun K hk=>zwn _ _ H K hk⟩
  ·intro K K' h hk;obtain ⟨pr0,pr1,pr2,k⟩:=hk;exact ⟨pr0,pr1,pr2,h _ _ k⟩
  ·intro _ K hk;obtain ⟨pr0,pr1,pr2,k⟩:=hk;exact ⟨_,k,fun K' k'=>⟨pr0,pr1,pr2,k'⟩⟩
  ·intro K hk;obtain ⟨pr0,pr1,pr2,k⟩:=hk;exact ⟨_,_,k⟩
  ·nofun
 ·exact Nice.no

def z8p (ga ja:Int) (ba:LN) (x y wide high:Int):Bool:=(bif (z1s ga ja ba) then (bif (z2w x (0:Int) (ga-1)) then (bif (z2w y (0:Int) (ja-1)) then (bif (z2w wide (1:Int) (IntKind.wrap .i64 (ga-x))) then (z2w high (1:Int) (IntKind.wrap .i64 (ja-y))) else false) else false) else false) else false)
def zee:=@z8p.eq_1
def zj5 (ga ja:Int) (ta:OA) (va ya:Nat) (x y wide high:Int) (H:zp) (K:Bool→zp→Prop):Prop:=∃ba:LN,IsL fF H ta va ba∧ba.length<1073741824∧((∀H':zp,Grow H H'→K (z8p ga ja ba x y wide high) H'))
theorem zny {ga ja:Int} {ta:OA} {va ya:Nat} {x y wide high:Int} {H:zp} {K:Bool→zp→Prop} (h:∃ba:LN,IsL fF H ta va ba∧ba.length<1073741824∧((∀H':zp,Grow H H'→K (z8p ga ja ba x y wide high) H'))):zj5 ga ja ta va ya x y wide high H K:=h
theorem zvo {W H:Int} {l:LN} {x y w h:Int} (hh:z8p W H l x y w h=true):
  1≤W∧W≤16∧1≤H∧H≤16∧(l.length:Int)=W*H∧(l.length:Int)≤256∧0≤x∧0≤y∧1≤w∧1≤h∧x+w≤W∧y+h≤H:=by
 rw [zee] at hh
 simp only [Bool.cond_false_right,Bool.and_eq_true] at hh
 obtain ⟨a,b,c,d,e⟩:=hh
 have a:=f8z_t a
 have b:=f22z_t b
 have c:=f22z_t c
 have d:=f22z_t d
 have e:=f22z_t e
 rw [zt ω2 ω2] at d e
 omega
def zsw:Env:=envOf [(50,zm4),(68,zay)]
def z16q (args:List Value) (H:zp):(Value→zp→Prop)→Prop:=match args with
 | [.agg ⟨[.int .i64 ga,.int .i64 ja,.slice ta va ya]⟩,.int .i64 x,.int .i64 y,.int .i64 wide,.int .i64 high]=>fun K=>zj5 ga ja ta va ya x y wide high H fun (r1:Bool) (H':zp)=>K (.bool r1) H'
 | _=>fun _=>False
def zue:FSpec:={F:=z16q,quiet:=false,tame:=true}
theorem z1bs (ga ja:Int) (ta:OA) (va ya:Nat) (x y wide high:Int) (H:zp) (K:KT):zw Tryz.prog zsw Tryz.f81 [.agg #[.int .i64 ga,.int .i64 ja,.slice ta va ya],.int .i64 x,.int .i64 y,.int .i64 wide,.int .i64 high] H K=
 (Al [.int .i64 ga,.int .i64 ja,.slice ta va ya] H fun b1 H1=>∃(c1 c2:Int),∃vg:OA,∃(xg wg:Nat),  rdN H1 b1 0 3=some [.int .i64 c1,.int .i64 c2,.slice vg xg wg]∧zhn c1 c2 vg xg wg H1 fun (r1:Bool) (H2:zp)=>Br r1 (∃x1:Int,  rdC H2 b1 0=some (.int .i64 x1)∧z3j x 0 (IntKind.wrap .i64 (x1-1)) H2 fun (r2:Bool) (H3:zp)=>Br r2 (∃x2:Int,  rdC H3 b1 1=some (.int .i64 x2)∧z3j y 0 (IntKind.wrap .i64 (x2-1)) H3 fun (r3:Bool) (H4:zp)=>Br r3 (∃x3:Int,  rdC H4 b1 0=some (.int .i64 x3)∧z3j wide 1 (IntKind.wrap .i64 (x3-x)) H4 fun (r4:Bool) (H5:zp)=>Br r4 (∃x4:Int,  rdC H5 b1 1=some (.int .i64 x4)∧z3j high 1 (IntKind.wrap .i64 (x4-y)) H5 fun (r5:Bool) (H6:zp)=>K (.bool r5) H6) (K (.bool false) H5)) (K (.bool false) H4)) (K (.bool false) H3)) (K (.bool false) H2)):=by kernel_rfl
theorem zsx:∀g,FnOk Tryz.prog g (zsw g):=FnOk.envOf (by
 intro x hx
 simp only [List.mem_cons,List.not_mem_nil,or_false] at hx
 rcases hx with rfl | rfl
 ·exact f8z_ok
 ·exact f22z_ok)
theorem zvm (ga ja:Int) (ta:OA) (va ya:Nat) (x y wide high:Int) (H:zp) (K:KT) (h:zj5 ga ja ta va ya x y wide high H fun (r1:Bool) (H':zp)=>K (.bool r1) H'):zw Tryz.prog zsw Tryz.f81 [.agg #[.int .i64 ga,.int .i64 ja,.slice ta va ya],.int .i64 x,.int .i64 y,.int .i64 wide,.int .i64 high] H K:=by
 rw [z1bs]
 obtain ⟨ba,nd,bd_21,hk⟩:=h
 obtain rfl:=nd.eqn
 have e:(z8p ga ja ba x y wide high)=_:=rfl
 have e:=e.trans (zee ga ja ba x y wide high)
 have g0:=Grow.refl H
 refine Al.intro (fun b_1 H_1 hb_2 hl_3 g_4 o_5=>?_)
 have l_7:=g_4.1
 have g_8:=g0.trans g_4
 have l_9:=g_8.1
 have w20:=o_5.lt
 refine ⟨ga,ja,ta,ba.length,ya,(o_5.rdN (nbl rfl)).trans rfl,?_⟩
 refine zbx ⟨_,(nd.grow g_8),ω0,fun  H_2 g_10  =>?_⟩
 have l_11:=g_10.1
 have g_12:=g_8.trans g_10
 have l_13:=g_12.1
 have o_14:=o_5.grow g_10
 have w15:=o_14.lt
 refine Br.intro (fun c_16=>?_) (fun c_16=>?_)
 ·have e:=e.trans (zv c_16)
  have c_16':=f8z_t c_16
  refine ⟨ga,(o_14.rdC _).trans rfl,?_⟩
  rw [show IntKind.wrap .i64 (ga-1)=(ga-1) from zt ω2 ω2]
  refine z4j ?_
  refine Br.intro (fun c_17=>?_) (fun c_17=>?_)
  ·have e:=e.trans (zv c_17)
   have c_17':=f22z_t c_17
   refine ⟨ja,(o_14.rdC _).trans rfl,?_⟩
   rw [show IntKind.wrap .i64 (ja-1)=(ja-1) from zt ω2 ω2]
   refine z4j ?_
   refine Br.intro (fun c_18=>?_) (fun c_18=>?_)
   ·have e:=e.trans (zv c_18)
    have c_18':=f22z_t c_18
    refine ⟨ga,(o_14.rdC _).trans rfl,?_⟩
    refine z4j ?_
    refine Br.intro (fun c_19=>?_) (fun c_19=>?_)
    ·have e:=e.trans (zv c_19)
     have c_19':=f22z_t c_19
     refine ⟨ja,(o_14.rdC _).trans rfl,?_⟩
     refine z4j ?_
     rw [e] at hk
     exact hk  H_2 g_12 
    ·have e:=e.trans (zu c_19)
     rw [e] at hk
     exact hk  H_2 g_12 
   ·have e:=e.trans (zu c_18)
    rw [e] at hk
    exact hk  H_2 g_12 
  ·have e:=e.trans (zu c_17)
   rw [e] at hk
   exact hk  H_2 g_12 
 ·have e:=e.trans (zu c_16)
  rw [e] at hk
  exact hk  H_2 g_12 
theorem zvn:FnOk Tryz.prog 81 zue:=FnOk.bodyF mix_ok zsx Tryz.func81 rfl ω10 ω10 fun args H=>by
 unfold z16q
 split
 ·refine ⟨?_,?_,?_,?_,fun K hk=>zvm _ _ _ _ _ _ _ _ _ H K hk⟩
  ·intro K K' h hk;obtain ⟨ba,nd,bd_21,k⟩:=hk;exact ⟨ba,nd,bd_21,(fun  H' gg  =>h _ _ (k  H' gg))⟩
  ·nofun
  ·intro K hk;obtain ⟨ba,nd,bd_21,k⟩:=hk;exact ⟨_,_,k H (Grow.refl H)⟩
  ·intro _ K hk;obtain ⟨ba,nd,bd_21,k⟩:=hk;exact ⟨ba,nd,bd_21,(fun  H' gg  =>⟨gg,k  H' gg⟩)⟩
 ·exact Nice.no

def p_f4z (u v oe qf:Int) (ee:LN) (cap1p cap2p:Int):Nat:=((ee).getD (((((((cap1p+v)*oe))+cap2p))+u):Int).toNat 0)
def z14x:=@p_f4z.eq_1
def T_f4z (u v:Int) (cap0 cap1 cap2:Nat) (H:zp) (K:Nat→zp→Prop):Prop:=∃(oe qf:Int),∃tf:OA,∃(ag zf:Nat),∃(cap1p cap2p:Int),∃ee:LN,rdN H cap0 0 3=some [.int .i64 oe,.int .i64 qf,.slice tf ag zf]∧rdN H cap1 0 1=some [.int .i64 cap1p]∧rdN H cap2 0 1=some [.int .i64 cap2p]∧IsL fF H tf ag ee∧ee.length<1073741824∧0≤u∧0≤v∧0≤cap1p∧0≤cap2p∧cap2p+u<oe∧cap1p+v<qf∧oe≤16∧qf≤16∧(ee.length:Int)=oe*qf∧K (p_f4z u v oe qf ee cap1p cap2p) H
def E_f4z:Env:=envOf []
def F_f4z (args:List Value) (H:zp):(Value→zp→Prop)→Prop:=match args with
 | [.int .i64 u,.int .i64 v,.pointer (some ⟨cap0,0,none⟩),.pointer (some ⟨cap1,0,none⟩),.pointer (some ⟨cap2,0,none⟩)]=>fun K=>T_f4z u v cap0 cap1 cap2 H fun (r1:Nat) (H':zp)=>K (.float .f32 r1) H'
 | _=>fun _=>False
def S_f4z:FSpec:={F:=F_f4z,quiet:=true,tame:=false}
theorem f4z_vc (u v:Int) (cap0 cap1 cap2:Nat) (H:zp) (K:KT):zw Tryz.prog E_f4z Tryz.f83 [.int .i64 u,.int .i64 v,.pointer (some ⟨cap0,0,none⟩),.pointer (some ⟨cap1,0,none⟩),.pointer (some ⟨cap2,0,none⟩)] H K=
 (∃og:OA,∃(eg qg:Nat),  rdC H cap0 2=some (.slice og eg qg)∧∃x2:Int,  rdC H cap1 0=some (.int .i64 x2)∧∃x3:Int,  rdC H cap0 0=some (.int .i64 x3)∧∃x4:Int,  rdC H cap2 0=some (.int .i64 x4)∧(0:Int)≤IntKind.wrap .i64 ((IntKind.wrap .i64 ((IntKind.wrap .i64 ((IntKind.wrap .i64 (x2+v))*x3))+x4))+u)∧IntKind.wrap .i64 ((IntKind.wrap .i64 ((IntKind.wrap .i64 ((IntKind.wrap .i64 (x2+v))*x3))+x4))+u)<(eg:Int)∧∃b1 f1,(og:OA)=some ⟨b1,f1,none⟩∧∃x5:Nat,  rdC H b1 (f1+(IntKind.wrap .i64 ((IntKind.wrap .i64 ((IntKind.wrap .i64 ((IntKind.wrap .i64 (x2+v))*x3))+x4))+u):Int).toNat*1)=some (.float .f32 x5)∧K (.float .f32 x5) H):=by kernel_rfl
theorem zz9:∀g,FnOk Tryz.prog g (E_f4z g):=FnOk.envOf (by
 intro x hx;cases hx)
theorem f4z_main (u v:Int) (cap0 cap1 cap2:Nat) (H:zp) (K:KT) (h:T_f4z u v cap0 cap1 cap2 H fun (r1:Nat) (H':zp)=>K (.float .f32 r1) H'):zw Tryz.prog E_f4z Tryz.f83 [.int .i64 u,.int .i64 v,.pointer (some ⟨cap0,0,none⟩),.pointer (some ⟨cap1,0,none⟩),.pointer (some ⟨cap2,0,none⟩)] H K:=by
 rw [f4z_vc]
 obtain ⟨oe,qf,tf,ag,zf,cap1p,cap2p,ee,i_cap0,i_cap1,i_cap2,bg,bd_4,pr0,pr1,pr2,pr3,pr4,pr5,pr6,pr7,pr8,hk⟩:=h
 obtain rfl:=bg.eqn
 have zz:=zor (x:=cap2p) (y:=cap1p) (u:=u) (v:=v) (W:=oe) (H:=qf) ω2 ω2 ω2 ω2 ω2 ω2
 have e:(p_f4z u v oe qf ee cap1p cap2p)=_:=rfl
 have e:=e.trans (z14x u v oe qf ee cap1p cap2p)
 have g0:=Grow.refl H
 refine ⟨tf,ee.length,zf,(z1l (zr g0 i_cap0) 2 (nbl rfl)).trans rfl,?_⟩
 refine ⟨cap1p,(z1l (zr g0 i_cap1) 0 (nbl rfl)).trans rfl,?_⟩
 rw [show IntKind.wrap .i64 (cap1p+v)=(cap1p+v) from zt ω2 ω2]
 refine ⟨oe,(z1l (zr g0 i_cap0) 0 (nbl rfl)).trans rfl,?_⟩
 rw [show IntKind.wrap .i64 ((cap1p+v)*oe)=((cap1p+v)*oe) from zt ω2 ω2]
 refine ⟨cap2p,(z1l (zr g0 i_cap2) 0 (nbl rfl)).trans rfl,?_⟩
 rw [show IntKind.wrap .i64 ((((cap1p+v)*oe))+cap2p)=((((cap1p+v)*oe))+cap2p) from zt ω2 ω2]
 rw [show IntKind.wrap .i64 ((((((cap1p+v)*oe))+cap2p))+u)=((((((cap1p+v)*oe))+cap2p))+u) from zt ω2 ω2]
 obtain ⟨b_1,f_2,q_3⟩:=((bg.grow g0)).pos ω0
 refine ⟨by omega,by omega,b_1,f_2,q_3,?_⟩
 refine ⟨((ee).getD (((((((cap1p+v)*oe))+cap2p))+u):Int).toNat 0),(bg).rd g0 q_3 ω2 _,?_⟩
 rw [e] at hk
 exact hk
theorem f4z_ok:FnOk Tryz.prog 83 S_f4z:=FnOk.bodyF mix_ok zz9 Tryz.func83 rfl ω10 ω10 fun args H=>by
 unfold F_f4z
 split
 ·refine ⟨?_,?_,?_,?_,fun K hk=>f4z_main _ _ _ _ _ H K hk⟩
  ·intro K K' h hk;obtain ⟨oe,qf,tf,ag,zf,cap1p,cap2p,ee,i_cap0,i_cap1,i_cap2,bg,bd_4,pr0,pr1,pr2,pr3,pr4,pr5,pr6,pr7,pr8,k⟩:=hk;exact ⟨oe,qf,tf,ag,zf,cap1p,cap2p,ee,i_cap0,i_cap1,i_cap2,bg,bd_4,pr0,pr1,pr2,pr3,pr4,pr5,pr6,pr7,pr8,h _ _ k⟩
  ·intro _ K hk;obtain ⟨oe,qf,tf,ag,zf,cap1p,cap2p,ee,i_cap0,i_cap1,i_cap2,bg,bd_4,pr0,pr1,pr2,pr3,pr4,pr5,pr6,pr7,pr8,k⟩:=hk;exact ⟨_,k,fun K' k'=>⟨oe,qf,tf,ag,zf,cap1p,cap2p,ee,i_cap0,i_cap1,i_cap2,bg,bd_4,pr0,pr1,pr2,pr3,pr4,pr5,pr6,pr7,pr8,k'⟩⟩
  ·intro K hk;obtain ⟨oe,qf,tf,ag,zf,cap1p,cap2p,ee,i_cap0,i_cap1,i_cap2,bg,bd_4,pr0,pr1,pr2,pr3,pr4,pr5,pr6,pr7,pr8,k⟩:=hk;exact ⟨_,_,k⟩
  ·nofun
 ·exact Nice.no
theorem z15y {x y W H:Int} (h1:0≤x) (h2:0≤y) (h3:x<H) (h4:y<W) (hW:W≤16) (hH:H≤16):0≤x*W∧x*W≤256∧x*W+y<W*H:=by
 have a:0≤x*W:=Int.mul_nonneg h1 ω2
 have b:(x+1)*W≤H*W:=Int.mul_le_mul_of_nonneg_right ω2 ω2
 have c:(x+1)*W=x*W+W:=by rw [Int.add_mul,Int.one_mul]
 have d:H*W≤16*16:=Int.mul_le_mul ω2 ω2 ω2 ω22
 have e:H*W=W*H:=Int.mul_comm _ _
 refine ⟨a,by omega,by omega⟩
def p_fez (x y oe qf:Int) (ee:LN):Nat:=((ee).getD (((x*oe)+y):Int).toNat 0)
def z14z:=@p_fez.eq_1
def T_fez (x y:Int) (cap0:Nat) (H:zp) (K:Nat→zp→Prop):Prop:=∃(oe qf:Int),∃tf:OA,∃(ag zf:Nat),∃ee:LN,rdN H cap0 0 3=some [.int .i64 oe,.int .i64 qf,.slice tf ag zf]∧IsL fF H tf ag ee∧ee.length<1073741824∧0≤x∧0≤y∧x<qf∧y<oe∧oe≤16∧qf≤16∧(ee.length:Int)=oe*qf∧K (p_fez x y oe qf ee) H
def E_fez:Env:=envOf []
def F_fez (args:List Value) (H:zp):(Value→zp→Prop)→Prop:=match args with
 | [.int .i64 x,.int .i64 y,.pointer (some ⟨cap0,0,none⟩)]=>fun K=>T_fez x y cap0 H fun (r1:Nat) (H':zp)=>K (.float .f32 r1) H'
 | _=>fun _=>False
def S_fez:FSpec:={F:=F_fez,quiet:=true,tame:=false}
theorem z1h7 (x y:Int) (cap0:Nat) (H:zp) (K:KT):zw Tryz.prog E_fez Tryz.f84 [.int .i64 x,.int .i64 y,.pointer (some ⟨cap0,0,none⟩)] H K=
 (∃og:OA,∃(eg qg:Nat),  rdC H cap0 2=some (.slice og eg qg)∧∃x2:Int,  rdC H cap0 0=some (.int .i64 x2)∧(0:Int)≤IntKind.wrap .i64 ((IntKind.wrap .i64 (x*x2))+y)∧IntKind.wrap .i64 ((IntKind.wrap .i64 (x*x2))+y)<(eg:Int)∧∃b1 f1,(og:OA)=some ⟨b1,f1,none⟩∧∃x3:Nat,  rdC H b1 (f1+(IntKind.wrap .i64 ((IntKind.wrap .i64 (x*x2))+y):Int).toNat*1)=some (.float .f32 x3)∧K (.float .f32 x3) H):=by kernel_rfl
theorem zzj:∀g,FnOk Tryz.prog g (E_fez g):=FnOk.envOf (by
 intro x hx;cases hx)
theorem z12s (x y:Int) (cap0:Nat) (H:zp) (K:KT) (h:T_fez x y cap0 H fun (r1:Nat) (H':zp)=>K (.float .f32 r1) H'):zw Tryz.prog E_fez Tryz.f84 [.int .i64 x,.int .i64 y,.pointer (some ⟨cap0,0,none⟩)] H K:=by
 rw [z1h7]
 obtain ⟨oe,qf,tf,ag,zf,ee,i_cap0,bg,bd_4,pr0,pr1,pr2,pr3,pr4,pr5,pr6,hk⟩:=h
 obtain rfl:=bg.eqn
 have zz:=z15y (x:=x) (y:=y) (W:=oe) (H:=qf) ω2 ω2 ω2 ω2 ω2 ω2
 have e:(p_fez x y oe qf ee)=_:=rfl
 have e:=e.trans (z14z x y oe qf ee)
 have g0:=Grow.refl H
 refine ⟨tf,ee.length,zf,(z1l (zr g0 i_cap0) 2 (nbl rfl)).trans rfl,?_⟩
 refine ⟨oe,(z1l (zr g0 i_cap0) 0 (nbl rfl)).trans rfl,?_⟩
 rw [show IntKind.wrap .i64 (x*oe)=(x*oe) from zt ω2 ω2]
 rw [show IntKind.wrap .i64 ((x*oe)+y)=((x*oe)+y) from zt ω2 ω2]
 obtain ⟨b_1,f_2,q_3⟩:=((bg.grow g0)).pos ω0
 refine ⟨by omega,by omega,b_1,f_2,q_3,?_⟩
 refine ⟨((ee).getD (((x*oe)+y):Int).toNat 0),(bg).rd g0 q_3 ω2 _,?_⟩
 rw [e] at hk
 exact hk
theorem z1h6:FnOk Tryz.prog 84 S_fez:=FnOk.bodyF mix_ok zzj Tryz.func84 rfl ω10 ω10 fun args H=>by
 unfold F_fez
 split
 ·refine ⟨?_,?_,?_,?_,fun K hk=>z12s _ _ _ H K hk⟩
  ·intro K K' h hk;obtain ⟨oe,qf,tf,ag,zf,ee,i_cap0,bg,bd_4,pr0,pr1,pr2,pr3,pr4,pr5,pr6,k⟩:=hk;exact ⟨oe,qf,tf,ag,zf,ee,i_cap0,bg,bd_4,pr0,pr1,pr2,pr3,pr4,pr5,pr6,h _ _ k⟩
  ·intro _ K hk;obtain ⟨oe,qf,tf,ag,zf,ee,i_cap0,bg,bd_4,pr0,pr1,pr2,pr3,pr4,pr5,pr6,k⟩:=hk;exact ⟨_,k,fun K' k'=>⟨oe,qf,tf,ag,zf,ee,i_cap0,bg,bd_4,pr0,pr1,pr2,pr3,pr4,pr5,pr6,k'⟩⟩
  ·intro K hk;obtain ⟨oe,qf,tf,ag,zf,ee,i_cap0,bg,bd_4,pr0,pr1,pr2,pr3,pr4,pr5,pr6,k⟩:=hk;exact ⟨_,_,k⟩
  ·nofun
 ·exact Nice.no

def za3 (ga ja:Int) (ba:LN):Int×Int×LN×Bool:=(bif !(z1s ga ja ba) then ((0:Int),(0:Int),[],false) else (ga,ja,ba,true))
def z4q:=@za3.eq_1
def zun (ga ja:Int) (ta:OA) (va ya:Nat) (H:zp) (K:Int→Int→OA→Nat→Nat→Bool→zp→Prop):Prop:=∃ba:LN,IsL fF H ta va ba∧ba.length<1073741824∧((∀H':zp,Grow H H'→Br ((za3 ga ja ba).2.2.2) (K ga ja ta va ya true H') (K 0 0 none 0 0 false H')))
theorem zuo {ga ja:Int} {ta:OA} {va ya:Nat} {H:zp} {K:Int→Int→OA→Nat→Nat→Bool→zp→Prop} (h:∃ba:LN,IsL fF H ta va ba∧ba.length<1073741824∧((∀H':zp,Grow H H'→Br ((za3 ga ja ba).2.2.2) (K ga ja ta va ya true H') (K 0 0 none 0 0 false H')))):zun ga ja ta va ya H K:=h

def E_f9z:Env:=envOf [(50,zm4)]
def F_f9z (args:List Value) (H:zp):(Value→zp→Prop)→Prop:=match args with
 | [.agg ⟨[.int .i64 ga,.int .i64 ja,.slice ta va ya]⟩]=>fun K=>zun ga ja ta va ya H fun (tc:Int) (nc:Int) (ma:OA) (sa:Nat) (oa:Nat) (r2:Bool) (H':zp)=>K (.tuple #[.agg #[.int .i64 tc,.int .i64 nc,.slice ma sa oa],.bool r2]) H'
 | _=>fun _=>False
def S_f9z:FSpec:={F:=F_f9z,quiet:=false,tame:=true}
theorem f9z_vc (ga ja:Int) (ta:OA) (va ya:Nat) (H:zp) (K:KT):zw Tryz.prog E_f9z Tryz.f113 [.agg #[.int .i64 ga,.int .i64 ja,.slice ta va ya]] H K=
 (Al [.int .i64 ga,.int .i64 ja,.slice ta va ya] H fun b1 H1=>Al [.int .i64 0,.int .i64 0,.slice none 0 0] H1 fun b2 H2=>∃(c1 c2:Int),∃vg:OA,∃(xg wg:Nat),  rdN H2 b1 0 3=some [.int .i64 c1,.int .i64 c2,.slice vg xg wg]∧zhn c1 c2 vg xg wg H2 fun (r1:Bool) (H3:zp)=>Br (!r1) (isOwn H3 b2∧(∃l,rdN H3 b2 0 3=some l)∧Lt (setN H3 b2 0 [.int .i64 0,.int .i64 0,.slice none 0 0]) fun H4=>∃(c4 c5:Int),∃eh:OA,∃(gh fh:Nat),  rdN H4 b2 0 3=some [.int .i64 c4,.int .i64 c5,.slice eh gh fh]∧K (.tuple #[.agg #[.int .i64 c4,.int .i64 c5,.slice eh gh fh],.bool false]) H4) (∃(c7 c8:Int),∃sh:OA,∃(uh th:Nat),  rdN H3 b1 0 3=some [.int .i64 c7,.int .i64 c8,.slice sh uh th]∧isOwn H3 b2∧(∃l,rdN H3 b2 0 3=some l)∧Lt (setN H3 b2 0 [.int .i64 c7,.int .i64 c8,.slice sh uh th]) fun H5=>∃(c10 c11:Int),∃ri:OA,∃(ti si:Nat),  rdN H5 b2 0 3=some [.int .i64 c10,.int .i64 c11,.slice ri ti si]∧K (.tuple #[.agg #[.int .i64 c10,.int .i64 c11,.slice ri ti si],.bool true]) H5)):=by kernel_rfl
theorem zze:∀g,FnOk Tryz.prog g (E_f9z g):=FnOk.envOf (by
 intro x hx
 simp only [List.mem_cons,List.not_mem_nil,or_false] at hx
 subst hx;exact f8z_ok)
theorem f9z_main (ga ja:Int) (ta:OA) (va ya:Nat) (H:zp) (K:KT) (h:zun ga ja ta va ya H fun (tc:Int) (nc:Int) (ma:OA) (sa:Nat) (oa:Nat) (r2:Bool) (H':zp)=>K (.tuple #[.agg #[.int .i64 tc,.int .i64 nc,.slice ma sa oa],.bool r2]) H'):zw Tryz.prog E_f9z Tryz.f113 [.agg #[.int .i64 ga,.int .i64 ja,.slice ta va ya]] H K:=by
 rw [f9z_vc]
 obtain ⟨ba,nd,bd_50,hk⟩:=h
 obtain rfl:=nd.eqn
 have e:(za3 ga ja ba)=_:=rfl
 have e:=e.trans (z4q ga ja ba)
 have g0:=Grow.refl H
 refine Al.intro (fun b_1 H_1 hb_2 hl_3 g_4 o_5=>?_)
 have l_7:=g_4.1
 have g_8:=g0.trans g_4
 have l_9:=g_8.1
 have w49:=o_5.lt
 refine Al.intro (fun b_10 H_2 hb_11 hl_12 g_13 o_14=>?_)
 have l_16:=g_13.1
 have g_17:=g_8.trans g_13
 have l_18:=g_17.1
 have o_19:=o_5.grow g_13
 have w20:=o_19.lt
 have w48:=o_14.lt
 refine ⟨ga,ja,ta,ba.length,ya,(o_19.rdN (nbl rfl)).trans rfl,?_⟩
 refine zbx ⟨_,(nd.grow g_17),ω0,fun  H_3 g21  =>?_⟩
 have l_22:=g21.1
 have g23:=g_17.trans g21
 have l24:=g23.1
 have o25:=o_19.grow g21
 have w26:=o25.lt
 have o27:=o_14.grow g21
 have w28:=o27.lt
 refine Br.intro (fun c29=>?_) (fun c29=>?_)
 ·have e:=e.trans (zv c29)
  have c_29n:=z1g c29
  refine Lt.setN (n:=3) o27 (nbl rfl) rfl (fun H_4 hl_30 o32 k31=>?_)
  have o32:Own H_4 b_10 [.int .i64 0,.int .i64 0,.slice none 0 0]:=o32
  have l33:=k31.1
  have g34:=g23.keep (b:=b_10) ω2 k31
  have l35:=g34.1
  have o36:=o25.keep ω2 k31
  have w37:=o36.lt
  have w38:=o32.lt
  refine ⟨0,0,none,0,0,(o32.rdN (nbl rfl)).trans rfl,?_⟩
  have q:=hk H_4 g34
  rw [e] at q
  exact q
 ·have e:=e.trans (zu c29)
  have c_29n:=z1d c29
  have c_29n':=f8z_t c_29n
  refine ⟨ga,ja,ta,ba.length,ya,(o25.rdN (nbl rfl)).trans rfl,?_⟩
  refine Lt.setN (n:=3) o27 (nbl rfl) rfl (fun H_5 hl_39 o41 k40=>?_)
  have o41:Own H_5 b_10 [.int .i64 ga,.int .i64 ja,.slice ta ba.length ya]:=o41
  have l42:=k40.1
  have g43:=g23.keep (b:=b_10) ω2 k40
  have l44:=g43.1
  have o45:=o25.keep ω2 k40
  have w46:=o45.lt
  have w47:=o41.lt
  refine ⟨ga,ja,ta,ba.length,ya,(o41.rdN (nbl rfl)).trans rfl,?_⟩
  have q:=hk H_5 g43
  rw [e] at q
  exact q
theorem f9z_ok:FnOk Tryz.prog 113 S_f9z:=FnOk.bodyF mix_ok zze Tryz.func113 rfl ω10 ω10 fun args H=>by
 unfold F_f9z
 split
 ·refine ⟨?_,?_,?_,?_,fun K hk=>f9z_main _ _ _ _ _ H K hk⟩
  ·intro K K' h hk;obtain ⟨ba,nd,bd_50,k⟩:=hk;exact ⟨ba,nd,bd_50,(fun H' gg=>zhg (h _ _) (h _ _) (k H' gg))⟩
  ·nofun
  ·intro K hk;obtain ⟨ba,nd,bd_50,k⟩:=hk;exact zsd (k H (Grow.refl H))
  ·intro _ K hk;obtain ⟨ba,nd,bd_50,k⟩:=hk;exact ⟨ba,nd,bd_50,(fun H' gg=>zhg (fun q=>⟨gg,q⟩) (fun q=>⟨gg,q⟩) (k H' gg))⟩
 ·exact Nice.no
def zhh (env:Env) (x:Value) (H:zp) (wide high:Int) (g:Int→Int→Nat):Prop:=
 ∀(u v:Int),0≤u→u<wide→0≤v→v<high→wide≤16→high≤16→∀(H1:zp),Grow H H1→∀K:Value→zp→Prop,(∀H2:zp,Grow H1 H2→K (.float .f32 (g u v)) H2)→zff env x [.int .i64 u,.int .i64 v] H1 K
def z9l (wide high:Int) (g:Int→Int→Nat):Int×Int×LN×Bool:=bif z2w wide 1 16 then (bif z2w high 1 16 then za3 wide high (picL wide.toNat high.toNat g) else (0,0,[],false)) else (0,0,[],false)
def z6g:Env:=envOf [(999999,zev),(68,zay),(83,S_f4z),(84,S_fez),(113,S_f9z)]
def zv5 (wide high:Int) (light_f:Fn) (light_x light_y:Array Value) (H:zp) (K:Int→Int→OA→Nat→Nat→Bool→zp→Prop):Prop:=
 ∃(g:Int→Int→Nat),valQ z6g (.func light_f light_x light_y)=true∧zhh z6g (.func light_f light_x light_y) H wide high g∧
  (∀(od:OA) (xd vd:Nat),∀H':zp,Grow H H'→OwnS fF H' H.length od xd vd ((z9l wide high g).2.2.1)→K ((z9l wide high g).1) ((z9l wide high g).2.1) od xd vd ((z9l wide high g).2.2.2) H')
theorem zv6 {wide high:Int} {light_f:Fn} {light_x light_y:Array Value} {H:zp} {K:Int→Int→OA→Nat→Nat→Bool→zp→Prop} (h:∃(g:Int→Int→Nat),valQ z6g (.func light_f light_x light_y)=true∧zhh z6g (.func light_f light_x light_y) H wide high g∧
  (∀(od:OA) (xd vd:Nat),∀H':zp,Grow H H'→OwnS fF H' H.length od xd vd ((z9l wide high g).2.2.1)→K ((z9l wide high g).1) ((z9l wide high g).2.1) od xd vd ((z9l wide high g).2.2.2) H')):zv5 wide high light_f light_x light_y H K:=h
theorem zbt (wide high:Int) (g:Int→Int→Nat):((z9l wide high g).2.2.1.length:Int)≤256:=by
 unfold z9l
 cases h1:z2w wide 1 16 with
 | false=>show ((0:Nat):Int)≤256;omega
 | true=>
  cases h2:z2w high 1 16 with
  | false=>show ((0:Nat):Int)≤256;omega
  | true=>
   have w1:=f22z_t h1
   have w2:=f22z_t h2
   rw [cond_true,cond_true,z4q]
   cases !(z1s wide high (picL wide.toNat high.toNat g)) with
   | true=>show ((0:Nat):Int)≤256;omega
   | false=>
    show ((picL wide.toNat high.toNat g).length:Int)≤256
    rw [z2h]
    have:high.toNat*wide.toNat≤16*16:=Nat.mul_le_mul ω2 ω2
    omega
theorem zyk (u:Nat) (F:Int→Nat):rowL (u+1) F=rowL u F++[F (u:Int)]:=by
 unfold rowL
 rw [List.range_succ,List.map_append];rfl
def F_fuz (args:List Value) (H:zp):(Value→zp→Prop)→Prop:=match args with
 | [.int .i64 wide,.int .i64 high,.func light_f light_x light_y]=>fun K=>zv5 wide high light_f light_x light_y H fun (tc:Int) (nc:Int) (ma:OA) (sa:Nat) (oa:Nat) (r2:Bool) (H':zp)=>K (.tuple #[.agg #[.int .i64 tc,.int .i64 nc,.slice ma sa oa],.bool r2]) H'
 | _=>fun _=>False
def S_fuz:FSpec:={F:=F_fuz,quiet:=false,tame:=true}
theorem z1j3 (wide high:Int) (light_f:Fn) (light_x:Array Value) (light_y:Array Value) (H:zp) (K:KT):zw Tryz.prog z6g Tryz.f82 [.int .i64 wide,.int .i64 high,.func light_f light_x light_y] H K=
 (Al [.int .i64 0,.int .i64 0,.slice none 0 0] H fun b1 H1=>z3j wide 1 16 H1 fun (r1:Bool) (H2:zp)=>Br (!r1) (isOwn H2 b1∧(∃l,rdN H2 b1 0 3=some l)∧Lt (setN H2 b1 0 [.int .i64 0,.int .i64 0,.slice none 0 0]) fun H3=>∃(c1 c2:Int),∃vg:OA,∃(xg wg:Nat),  rdN H3 b1 0 3=some [.int .i64 c1,.int .i64 c2,.slice vg xg wg]∧K (.tuple #[.agg #[.int .i64 c1,.int .i64 c2,.slice vg xg wg],.bool false]) H3) (z3j high 1 16 H2 fun (r2:Bool) (H4:zp)=>Br (!r2) (isOwn H4 b1∧(∃l,rdN H4 b1 0 3=some l)∧Lt (setN H4 b1 0 [.int .i64 0,.int .i64 0,.slice none 0 0]) fun H5=>∃(c4 c5:Int),∃eh:OA,∃(gh fh:Nat),  rdN H5 b1 0 3=some [.int .i64 c4,.int .i64 c5,.slice eh gh fh]∧K (.tuple #[.agg #[.int .i64 c4,.int .i64 c5,.slice eh gh fh],.bool false]) H5) (Al [.int .i64 0,.int .i64 0,.slice none 0 0] H4 fun b2 H6=>isOwn H6 b2∧(∃l,rdN H6 b2 0 3=some l)∧Lt (setN H6 b2 0 [.int .i64 wide,.int .i64 high,.slice none 0 0]) fun H7=>z1n (exL Tryz.prog z6g (cl (cl (cr (cl (cr (cr (cr (zq Tryz.f82)))))))) 25166149 192 [(0,320)]) (.int .i64 wide::ud::.func light_f light_x light_y::ud3 (.pointer (some ⟨b1,0,none⟩)::ud::.pointer (some ⟨b2,0,none⟩)::ud14 (.int .i64 high::.int .i64 0::ud21 []))) H7 (z1a 0 (seqQ (exL Tryz.prog z6g (cr (cr (cr (cr (zq Tryz.f82))))) 192 192 []) (retK Tryz.prog Tryz.f82 K)))))):=by kernel_rfl
abbrev zkd (b1 b2:Nat) (high:Int) (light_f:Fn) (light_x:Array Value) (light_y:Array Value) (wide t24:Int)  :List Value:=(.int .i64 wide::ud::.func light_f light_x light_y::ud3 (.pointer (some ⟨b1,0,none⟩)::ud::.pointer (some ⟨b2,0,none⟩)::ud14 (.int .i64 high::.int .i64 t24::ud21 [])))
theorem z1j1 (b1 b2:Nat) (high:Int) (light_f:Fn) (light_x:Array Value) (light_y:Array Value) (wide t24:Int)  (H:zp) (R:Post):exL Tryz.prog z6g (cl (cl (cr (cl (cr (cr (cr (zq Tryz.f82)))))))) 25166149 192 [(0,320)] (zkd b1 b2 high light_f light_x light_y wide t24) H R=
 (Br (decide ((t24:Int)<high)) (z1n (exL Tryz.prog z6g (cl (cl (cr (cr (cl (cl (cr (cr (cl (cl (cr (cl (cr (cr (cr (zq Tryz.f82)))))))))))))))) 427819845 192 [(2,25166149),(1,25166149),(0,320)]) (.int .i64 wide::ud::.func light_f light_x light_y::ud3 (.pointer (some ⟨b1,0,none⟩)::ud::.pointer (some ⟨b2,0,none⟩)::.int .i64 t24::ud13 (.int .i64 high::.int .i64 t24::ud2 (.int .i64 wide::.int .i64 0::ud17 [])))) H (z1a 2 (z1a 1 (seqQ (exL Tryz.prog z6g (cr (cr (cr (cl (cl (cr (cl (cr (cr (cr (zq Tryz.f82))))))))))) 25166149 192 [(0,320)]) (R))))) (R (.exit 0) (ud6 (.pointer (some ⟨b1,0,none⟩)::ud::.pointer (some ⟨b2,0,none⟩)::ud37 [])) H)):=by kernel_rfl
def zxd (b1 b2:Nat) (high:Int) (light_f:Fn) (light_x:Array Value) (light_y:Array Value) (wide:Int) (Inv:Nat→Int→zp→Prop):Nat→List Value→zp→Prop:=fun μ tm H=>∃t24:Int,tm=(zkd b1 b2 high light_f light_x light_y wide t24)∧Inv μ t24 H
theorem z1ix (b1 b2:Nat) (high:Int) (light_f:Fn) (light_x:Array Value) (light_y:Array Value) (wide:Int) {Q:Post} (Inv:Nat→Int→zp→Prop) (ν:Nat) (t24:Int)  (H:zp) (h0:Inv ν t24 H)
  (hs:∀(μ:Nat) (t24:Int)  (H:zp),Inv μ t24 H→exL Tryz.prog z6g (cl (cl (cr (cl (cr (cr (cr (zq Tryz.f82)))))))) 25166149 192 [(0,320)] (zkd b1 b2 high light_f light_x light_y wide t24) H (z1b (zxd b1 b2 high light_f light_x light_y wide Inv) μ Q)):z1n (exL Tryz.prog z6g (cl (cl (cr (cl (cr (cr (cr (zq Tryz.f82)))))))) 25166149 192 [(0,320)]) (zkd b1 b2 high light_f light_x light_y wide t24) H Q:=
 ⟨zxd b1 b2 high light_f light_x light_y wide Inv,ν,⟨t24,rfl,h0⟩,fun μ tm H h=>by obtain ⟨t24,rfl,hI⟩:=h;exact hs μ t24  H hI⟩
theorem z1iz {b1 b2:Nat} {high:Int} {light_f:Fn} {light_x:Array Value} {light_y:Array Value} {wide:Int} {Q:Post} {Inv:Nat→Int→zp→Prop} {μ:Nat} (μ':Nat) {t24:Int}  {H:zp} (hm:μ'<μ) (hI:Inv μ' t24 H):z1b (zxd b1 b2 high light_f light_x light_y wide Inv) μ Q .normal (zkd b1 b2 high light_f light_x light_y wide t24) H:=⟨μ',hm,t24,rfl,hI⟩
theorem z14a (b1 b2:Nat) (H:zp) (K:KT)  {I:Nat→List Value→zp→Prop} {μ:Nat}:z1b I μ (z1a 0 (seqQ (exL Tryz.prog z6g (cr (cr (cr (cr (zq Tryz.f82))))) 192 192 []) (retK Tryz.prog Tryz.f82 K))) (.exit 0) (ud6 (.pointer (some ⟨b1,0,none⟩)::ud::.pointer (some ⟨b2,0,none⟩)::ud37 [])) H=
 (∃(c7 c8:Int),∃sh:OA,∃(uh th:Nat),  rdN H b2 0 3=some [.int .i64 c7,.int .i64 c8,.slice sh uh th]∧zun c7 c8 sh uh th H fun (r3:Int) (r4:Int) (a1:OA) (r5:Nat) (r6:Nat) (r7:Bool) (H12:zp)=>isOwn H12 b1∧(∃l,rdN H12 b1 0 3=some l)∧Lt (setN H12 b1 0 [.int .i64 r3,.int .i64 r4,.slice a1 r5 r6]) fun H13=>∃(c10 c11:Int),∃ri:OA,∃(ti si:Nat),  rdN H13 b1 0 3=some [.int .i64 c10,.int .i64 c11,.slice ri ti si]∧K (.tuple #[.agg #[.int .i64 c10,.int .i64 c11,.slice ri ti si],.bool r7]) H13):=by kernel_rfl
abbrev zke (b1 b2:Nat) (high:Int) (light_f:Fn) (light_x:Array Value) (light_y:Array Value) (t24 wide t28:Int)  :List Value:=(.int .i64 wide::ud::.func light_f light_x light_y::ud3 (.pointer (some ⟨b1,0,none⟩)::ud::.pointer (some ⟨b2,0,none⟩)::.int .i64 t24::ud13 (.int .i64 high::.int .i64 t24::ud2 (.int .i64 wide::.int .i64 t28::ud17 []))))
theorem z1j2 (b1 b2:Nat) (high:Int) (light_f:Fn) (light_x:Array Value) (light_y:Array Value) (t24 wide t28:Int)  (H:zp) (R:Post):exL Tryz.prog z6g (cl (cl (cr (cr (cl (cl (cr (cr (cl (cl (cr (cl (cr (cr (cr (zq Tryz.f82)))))))))))))))) 427819845 192 [(2,25166149),(1,25166149),(0,320)] (zke b1 b2 high light_f light_x light_y t24 wide t28) H R=
 (Br (decide ((t28:Int)<wide)) (∃og:OA,∃(eg qg:Nat),  rdC H b2 2=some (.slice og eg qg)∧chk (valQ z6g (.func light_f light_x light_y)) (zff z6g (.func light_f light_x light_y) [.int .i64 t28,.int .i64 t24] H fun (w1:Value) (H8:zp)=>bsV (.float .f32 0) w1 H8 fun b3 H9=>∃o1 w2:List Value,ownB H9 og eg qg 1=some o1∧rdS H9 (some ⟨b3,0,none⟩) (1*1)=some w2∧((og:OA)=none→0<(1:Nat))∧(eg:Nat)+1<most∧Ap H9 (z3c H9 og++[some ⟨o1++w2,true⟩]) fun b4 H10=>isOwn H10 b2∧(∃l,rdN H10 b2 2 1=some l)∧Lt (setC H10 b2 2 (.slice (some ⟨b4,0,none⟩) (eg+1) 1)) fun H11=>R .normal (.int .i64 wide::ud::.func light_f light_x light_y::ud3 (.pointer (some ⟨b1,0,none⟩)::ud::.pointer (some ⟨b2,0,none⟩)::.int .i64 t24::ud13 (.int .i64 high::.int .i64 t24::ud2 (.int .i64 wide::.int .i64 (IntKind.wrap .i64 (t28+1))::ud17 [])))) H11)) (R (.exit 2) (.int .i64 wide::ud::.func light_f light_x light_y::ud3 (.pointer (some ⟨b1,0,none⟩)::ud::.pointer (some ⟨b2,0,none⟩)::ud14 (.int .i64 high::.int .i64 t24::ud21 []))) H)):=by kernel_rfl
def zxe (b1 b2:Nat) (high:Int) (light_f:Fn) (light_x:Array Value) (light_y:Array Value) (t24 wide:Int) (Inv:Nat→Int→zp→Prop):Nat→List Value→zp→Prop:=fun μ tm H=>∃t28:Int,tm=(zke b1 b2 high light_f light_x light_y t24 wide t28)∧Inv μ t28 H
theorem z1iy (b1 b2:Nat) (high:Int) (light_f:Fn) (light_x:Array Value) (light_y:Array Value) (t24 wide:Int) {Q:Post} (Inv:Nat→Int→zp→Prop) (ν:Nat) (t28:Int)  (H:zp) (h0:Inv ν t28 H)
  (hs:∀(μ:Nat) (t28:Int)  (H:zp),Inv μ t28 H→exL Tryz.prog z6g (cl (cl (cr (cr (cl (cl (cr (cr (cl (cl (cr (cl (cr (cr (cr (zq Tryz.f82)))))))))))))))) 427819845 192 [(2,25166149),(1,25166149),(0,320)] (zke b1 b2 high light_f light_x light_y t24 wide t28) H (z1b (zxe b1 b2 high light_f light_x light_y t24 wide Inv) μ Q)):z1n (exL Tryz.prog z6g (cl (cl (cr (cr (cl (cl (cr (cr (cl (cl (cr (cl (cr (cr (cr (zq Tryz.f82)))))))))))))))) 427819845 192 [(2,25166149),(1,25166149),(0,320)]) (zke b1 b2 high light_f light_x light_y t24 wide t28) H Q:=
 ⟨zxe b1 b2 high light_f light_x light_y t24 wide Inv,ν,⟨t28,rfl,h0⟩,fun μ tm H h=>by obtain ⟨t28,rfl,hI⟩:=h;exact hs μ t28  H hI⟩
theorem z1j0 {b1 b2:Nat} {high:Int} {light_f:Fn} {light_x:Array Value} {light_y:Array Value} {t24 wide:Int} {Q:Post} {Inv:Nat→Int→zp→Prop} {μ:Nat} (μ':Nat) {t28:Int}  {H:zp} (hm:μ'<μ) (hI:Inv μ' t28 H):z1b (zxe b1 b2 high light_f light_x light_y t24 wide Inv) μ Q .normal (zke b1 b2 high light_f light_x light_y t24 wide t28) H:=⟨μ',hm,t28,rfl,hI⟩
theorem z14b (b1 b2:Nat) (high:Int) (light_f:Fn) (light_x:Array Value) (light_y:Array Value) (t24 wide:Int) (H:zp)  (R:Post) {I:Nat→List Value→zp→Prop} {μ:Nat}:z1b I μ (z1a 2 (z1a 1 (seqQ (exL Tryz.prog z6g (cr (cr (cr (cl (cl (cr (cl (cr (cr (cr (zq Tryz.f82))))))))))) 25166149 192 [(0,320)]) (R)))) (.exit 2) (.int .i64 wide::ud::.func light_f light_x light_y::ud3 (.pointer (some ⟨b1,0,none⟩)::ud::.pointer (some ⟨b2,0,none⟩)::ud14 (.int .i64 high::.int .i64 t24::ud21 []))) H=
 (R .normal (.int .i64 wide::ud::.func light_f light_x light_y::ud3 (.pointer (some ⟨b1,0,none⟩)::ud::.pointer (some ⟨b2,0,none⟩)::ud14 (.int .i64 high::.int .i64 (IntKind.wrap .i64 (t24+1))::ud21 []))) H):=by kernel_rfl
theorem zzy:∀g,FnOk Tryz.prog g (z6g g):=FnOk.envOf (by
 intro x hx
 simp only [List.mem_cons,List.not_mem_nil,or_false] at hx
 rcases hx with rfl | rfl | rfl | rfl | rfl
 ·exact zlo _
 ·exact f22z_ok
 ·exact f4z_ok
 ·exact z1h6
 ·exact f9z_ok)
theorem z13z (wide high:Int) (light_f:Fn) (light_x:Array Value) (light_y:Array Value) (H:zp) (K:KT) (h:zv5 wide high light_f light_x light_y H fun (tc:Int) (nc:Int) (ma:OA) (sa:Nat) (oa:Nat) (r2:Bool) (H':zp)=>K (.tuple #[.agg #[.int .i64 tc,.int .i64 nc,.slice ma sa oa],.bool r2]) H'):zw Tryz.prog z6g Tryz.f82 [.int .i64 wide,.int .i64 high,.func light_f light_x light_y] H K:=by
 rw [z1j3]
 obtain ⟨g,hq,hch,hk⟩:=h
 have ep:z9l wide high g=(bif z2w wide 1 16 then (bif z2w high 1 16 then za3 wide high (picL wide.toNat high.toNat g) else (0,0,[],false)) else (0,0,[],false)):=rfl
 rw [ep] at hk
 refine Al.intro fun b1 H1 e1 l1 g1 o1=>?_
 unfold z3j
 refine Br.intro (fun hb=>?_) (fun hb=>?_)
 ·refine Lt.setN o1 (n:=3) ω22 rfl fun H3 l3 q3 k3=>⟨0,0,none,0,0,(q3.rdN (nbl rfl)).trans rfl,?_⟩
  rw [z1g hb,cond_false] at hk
  exact hk none 0 0 H3 (g1.keep ω2 k3) (OwnS.nil _ _ _ _)
 have hw:=f22z_t (z1d hb)
 rw [z1d hb,cond_true] at hk
 refine Br.intro (fun hb2=>?_) (fun hb2=>?_)
 ·refine Lt.setN o1 (n:=3) ω22 rfl fun H3 l3 q3 k3=>⟨0,0,none,0,0,(q3.rdN (nbl rfl)).trans rfl,?_⟩
  rw [z1g hb2,cond_false] at hk
  exact hk none 0 0 H3 (g1.keep ω2 k3) (OwnS.nil _ _ _ _)
 have hh:=f22z_t (z1d hb2)
 rw [z1d hb2,cond_true] at hk
 refine Al.intro fun b2 H6 e6 l6 g6 o6=>Lt.setN o6 (n:=3) ω22 rfl fun H7 l7 q7 k7=>?_
 have p1:=(o1.grow g6).keep (b':=b2) ω2 k7
 have G7:Grow H H7:=(g1.trans g6).keep (by have:=g1.1;omega) k7
 obtain ⟨w,rfl⟩:∃w:Nat,wide=(w:Int):=⟨wide.toNat,by omega⟩
 obtain ⟨h,rfl⟩:∃h:Nat,high=(h:Int):=⟨high.toNat,by omega⟩
 simp only [Int.toNat_natCast] at hk
 refine z1ix b1 b2 (h:Int) light_f light_x light_y (w:Int) (fun μ t H'=>∃k:Nat,t=(k:Int)∧k≤h∧μ=h-k∧z3i b2 H7 H'∧∃(a:OA) (n e:Nat),Own H' b2 [.int .i64 (w:Int),.int .i64 (h:Int),.slice a n e]∧OwnS fF H' H7.length a n e (picL w k g)) h 0 H7
  ⟨0,rfl,Nat.zero_le _,rfl,⟨Nat.le_refl _,fun _ _ _=>rfl⟩,none,0,0,q7,OwnS.nil _ _ _ _⟩ ?_
 intro μ t H' hI
 obtain ⟨k,rfl,hkm,rfl,kp,a,n,e,ob,os⟩:=hI
 have hn:=os.len
 rw [z2h] at hn
 have hkw:k*w≤16*16:=Nat.mul_le_mul ω2 ω2
 have lkp:=kp.1
 rw [z1j1]
 refine Br.intro (fun hc=>?_) (fun hc=>?_)
 ·have hc':=odt hc
  have hkm':k<h:=by omega
  refine z1iy b1 b2 (h:Int) light_f light_x light_y (k:Int) (w:Int) (fun μ t H2=>∃u:Nat,t=(u:Int)∧u≤w∧μ=w-u∧z3i b2 H7 H2∧∃(a:OA) (n e:Nat),Own H2 b2 [.int .i64 (w:Int),.int .i64 (h:Int),.slice a n e]∧OwnS fF H2 H7.length a n e (picL w k g++rowL u fun u=>g u (k:Int))) w 0 H'
   ⟨0,rfl,Nat.zero_le _,rfl,kp,a,n,e,ob,by rw [show rowL 0 (fun u=>g u (k:Int))=[] from rfl,List.append_nil];exact os⟩ ?_
  intro μ2 t2 H2 hI2
  obtain ⟨u,rfl,hum,rfl,kp2,a2,n2,e2,ob2,os2⟩:=hI2
  have hn2:=os2.len
  rw [List.length_append,z2h,zan] at hn2
  have lkp2:=kp2.1
  rw [z1j2]
  refine Br.intro (fun hd=>?_) (fun hd=>?_)
  ·have hd':=odt hd
   have hum':u<w:=by omega
   refine ⟨a2,n2,e2,(ob2.rdC 2).trans rfl,?_⟩
   rw [hq]
   refine hch (u:Int) (k:Int) ω2 hd' ω2 hc' hw.2 hh.2 H2 (G7.keep (by have:=g1.1;omega) kp2) _ fun H8 g8=>?_
   have os3:=os2.grow g8
   have ob3:=ob2.grow g8
   rw [z1bl]
   refine Al.intro fun b3 H9 e9 l9 g9 o9=>?_
   have os4:=os3.grow g9
   have ob4:=ob3.grow g9
   refine ⟨_,_,os4.ownB,o9.rdAll rfl,(fun _=>by omega),ω25,?_⟩
   refine Ap.appS (ys:=[g (u:Int) (k:Int)]) os4 rfl rfl fun b13 H17 e17 l17 o17 k17=>?_
   have lo:=os4.lo
   have:=g8.1
   have:=ob2.lt
   have hup:∀x,a2=some x→x.block≠b2:=fun x hx=>by have:=lo x hx;omega
   have ob5:=ob4.keepA hup k17
   refine Lt.set ob5 (nbl rfl) fun H18 l18 q18 k18=>?_
   refine z1j0 (w-(u+1)) ω2 ⟨u+1,by rw [zt ω2 ω2];omega,by omega,rfl,?_,some ⟨b13,0,none⟩,n2+1,1,q18,?_⟩
   ·refine ⟨by omega,fun i hi hne=>?_⟩
    rw [k18.2 i ω2 hne,k17.2 i ω2 (fun x hx=>by have:=lo x hx;omega),g9.2 i ω2,g8.2 i ω2,kp2.2 i hi hne]
   ·rw [zyk,←List.append_assoc]
    exact (o17.keep (b':=b2) ω2 k18).ownS (by simp only [List.length_append,z2h,zan,List.length_cons,List.length_nil];omega) ω2
  ·have hd':=odf hd
   obtain rfl:u=w:=by omega
   rw [z14b]
   refine z1iz (h-(k+1)) ω2 ⟨k+1,by rw [zt ω2 ω2];omega,by omega,rfl,kp2,a2,n2,e2,ob2,?_⟩
   rw [zeu]
   exact os2
 ·have hc':=odf hc
  obtain rfl:k=h:=by omega
  rw [z14a]
  have c1:=p1.keep (b':=b2) ω2 kp
  have lo:=os.lo
  have G5:Grow H H':=G7.keep (by have:=g1.1;omega) kp
  refine ⟨(w:Int),(k:Int),a,n,e,(ob.rdN (nbl rfl)).trans rfl,zuo ⟨picL w k g,os.isL,by rw [z2h];omega,fun H19 g19=>?_⟩⟩
  refine Br.intro (fun hb=>?_) (fun hb=>?_)
  ·refine Lt.setN (c1.grow g19) (n:=3) ω22 rfl fun H20 l20 q20 k20=>⟨(w:Int),(k:Int),a,n,e,(q20.rdN (nbl rfl)).trans rfl,?_⟩
   have ev:za3 (w:Int) (k:Int) (picL w k g)=((w:Int),(k:Int),picL w k g,true):=by
    rw [z4q] at hb ⊢
    cases hq:!(z1s (w:Int) (k:Int) (picL w k g)) with
    | true=>rw [hq] at hb;cases hb
    | false=>rfl
   rw [ev] at hk
   exact hk a n e H20 ((G5.trans g19).keep ω2 k20) (((os.grow g19).keepA (fun x y hx hy=>by cases hx;have:=lo y hy;have:=o1.lt;have:=g6.1;show b1≠_;omega) (OwnS.keep1 k20)).weak (by have:=G7.1;omega))
  ·refine Lt.setN (c1.grow g19) (n:=3) ω22 rfl fun H20 l20 q20 k20=>⟨0,0,none,0,0,(q20.rdN (nbl rfl)).trans rfl,?_⟩
   have ev:za3 (w:Int) (k:Int) (picL w k g)=(0,0,[],false):=by
    rw [z4q] at hb ⊢
    cases hq:!(z1s (w:Int) (k:Int) (picL w k g)) with
    | true=>rfl
    | false=>rw [hq] at hb;cases hb
   rw [ev] at hk
   exact hk none 0 0 H20 ((G5.trans g19).keep ω2 k20) (OwnS.nil _ _ _ _)
theorem z19p:FnOk Tryz.prog 82 S_fuz:=FnOk.bodyF mix_ok zzy Tryz.func82 rfl ω10 ω10 fun args H=>by
 unfold F_fuz
 split
 ·refine ⟨?_,?_,?_,?_,fun K hk=>z13z _ _ _ _ _ H K hk⟩
  ·intro K K' h hk;obtain ⟨g,hq,hch,k⟩:=hk;exact ⟨g,hq,hch,(fun od xd vd H' gg ow0=>h _ _ (k od xd vd H' gg ow0))⟩
  ·nofun
  ·intro K hk;obtain ⟨g,hq,hch,k⟩:=hk;exact z4i fun a n e H1 g o=>⟨_,_,k a n e H1 g o⟩
  ·intro _ K hk;obtain ⟨g,hq,hch,k⟩:=hk;exact ⟨g,hq,hch,(fun od xd vd H' gg ow0=>⟨gg,k od xd vd H' gg ow0⟩)⟩
 ·exact Nice.no
def z4z (ga ja:Int) (ba:LN) (x y wide high:Int):Int×Int×LN×Bool:=bif z8p ga ja ba x y wide high then z9l wide high (z4r ba x y ga) else (0,0,[],false)
def zur (ga ja:Int) (ta:OA) (va ya:Nat) (x y wide high:Int) (H:zp) (K:Int→Int→OA→Nat→Nat→Bool→zp→Prop):Prop:=
 ∃ba:LN,IsL fF H ta va ba∧ba.length<1073741824∧
  (∀(od:OA) (xd vd:Nat),∀H':zp,Grow H H'→OwnS fF H' H.length od xd vd ((z4z ga ja ba x y wide high).2.2.1)→K ((z4z ga ja ba x y wide high).1) ((z4z ga ja ba x y wide high).2.1) od xd vd ((z4z ga ja ba x y wide high).2.2.2) H')
theorem zus {ga ja:Int} {ta:OA} {va ya:Nat} {x y wide high:Int} {H:zp} {K:Int→Int→OA→Nat→Nat→Bool→zp→Prop} (h:∃ba:LN,IsL fF H ta va ba∧ba.length<1073741824∧
  (∀(od:OA) (xd vd:Nat),∀H':zp,Grow H H'→OwnS fF H' H.length od xd vd ((z4z ga ja ba x y wide high).2.2.1)→K ((z4z ga ja ba x y wide high).1) ((z4z ga ja ba x y wide high).2.1) od xd vd ((z4z ga ja ba x y wide high).2.2.2) H')):zur ga ja ta va ya x y wide high H K:=h
theorem zms (W Hi:Int) (l:LN) (x y wide high:Int):((z4z W Hi l x y wide high).2.2.1.length:Int)≤256:=by
 unfold z4z
 cases z8p W Hi l x y wide high with
 | false=>show ((0:Nat):Int)≤256;omega
 | true=>exact zbt _ _ _
def E_fcz:Env:=envOf [(81,zue),(82,S_fuz)]
def F_fcz (args:List Value) (H:zp):(Value→zp→Prop)→Prop:=match args with
 | [.agg ⟨[.int .i64 ga,.int .i64 ja,.slice ta va ya]⟩,.int .i64 x,.int .i64 y,.int .i64 wide,.int .i64 high]=>fun K=>zur ga ja ta va ya x y wide high H fun (tc:Int) (nc:Int) (ma:OA) (sa:Nat) (oa:Nat) (r2:Bool) (H':zp)=>K (.tuple #[.agg #[.int .i64 tc,.int .i64 nc,.slice ma sa oa],.bool r2]) H'
 | _=>fun _=>False
def S_fcz:FSpec:={F:=F_fcz,quiet:=false,tame:=true}
theorem z1h0 (ga ja:Int) (ta:OA) (va ya:Nat) (x y wide high:Int) (H:zp) (K:KT):zw Tryz.prog E_fcz Tryz.f36 [.agg #[.int .i64 ga,.int .i64 ja,.slice ta va ya],.int .i64 x,.int .i64 y,.int .i64 wide,.int .i64 high] H K=
 (Al [.int .i64 ga,.int .i64 ja,.slice ta va ya] H fun b1 H1=>Al [.int .i64 x] H1 fun b2 H2=>Al [.int .i64 y] H2 fun b3 H3=>Al [.int .i64 0,.int .i64 0,.slice none 0 0] H3 fun b4 H4=>∃(c1 c2:Int),∃vg:OA,∃(xg wg:Nat),  rdN H4 b1 0 3=some [.int .i64 c1,.int .i64 c2,.slice vg xg wg]∧∃x1:Int,  rdC H4 b2 0=some (.int .i64 x1)∧∃x2:Int,  rdC H4 b3 0=some (.int .i64 x2)∧zj5 c1 c2 vg xg wg x1 x2 wide high H4 fun (r1:Bool) (H5:zp)=>Br (!r1) (isOwn H5 b4∧(∃l,rdN H5 b4 0 3=some l)∧Lt (setN H5 b4 0 [.int .i64 0,.int .i64 0,.slice none 0 0]) fun H6=>∃(c4 c5:Int),∃eh:OA,∃(gh fh:Nat),  rdN H6 b4 0 3=some [.int .i64 c4,.int .i64 c5,.slice eh gh fh]∧K (.tuple #[.agg #[.int .i64 c4,.int .i64 c5,.slice eh gh fh],.bool false]) H6) (zv5 wide high (.func 83) #[] #[.pointer (some ⟨b1,0,none⟩),.pointer (some ⟨b3,0,none⟩),.pointer (some ⟨b2,0,none⟩)] H5 fun (r2:Int) (r3:Int) (a1:OA) (r4:Nat) (r5:Nat) (r6:Bool) (H7:zp)=>isOwn H7 b4∧(∃l,rdN H7 b4 0 3=some l)∧Lt (setN H7 b4 0 [.int .i64 r2,.int .i64 r3,.slice a1 r4 r5]) fun H8=>∃(c7 c8:Int),∃sh:OA,∃(uh th:Nat),  rdN H8 b4 0 3=some [.int .i64 c7,.int .i64 c8,.slice sh uh th]∧K (.tuple #[.agg #[.int .i64 c7,.int .i64 c8,.slice sh uh th],.bool r6]) H8)):=by kernel_rfl
theorem zzh:∀g,FnOk Tryz.prog g (E_fcz g):=FnOk.envOf (by
 intro x hx
 simp only [List.mem_cons,List.not_mem_nil,or_false] at hx
 rcases hx with rfl | rfl
 ·exact zvn
 ·exact z19p)
theorem zf9 {H:zp} {b bx bY:Nat} {la:OA} {ln le:Nat} {l:LN} {W Hi x y w h:Int} (o:Own H b [.int .i64 W,.int .i64 Hi,.slice la ln le]) (ox:Own H bx [.int .i64 x]) (oy:Own H bY [.int .i64 y]) (il:IsL fF H la ln l) (bl:l.length<1073741824) (h2:W≤16) (h4:Hi≤16) (hl:(l.length:Int)=W*Hi) (x0:0≤x) (y0:0≤y) (hx:x+w≤W) (hy:y+h≤Hi):
  zhh z6g (.func (.func 83) #[] #[.pointer (some ⟨b,0,none⟩),.pointer (some ⟨bY,0,none⟩),.pointer (some ⟨bx,0,none⟩)]) H w h (z4r l x y W):=by
 intro u v u0 u1 v0 v1 _ _ H1 gg K hK
 refine (?_:T_f4z u v b bY bx H1 fun r H'=>K (.float .f32 r) H')
 exact ⟨W,Hi,la,ln,le,y,x,l,((o.grow gg).rdN (nbl rfl)).trans rfl,((oy.grow gg).rdN (nbl rfl)).trans rfl,((ox.grow gg).rdN (nbl rfl)).trans rfl,il.grow gg,bl,u0,v0,y0,x0,by omega,by omega,h2,h4,hl,hK H1 (Grow.refl H1)⟩
theorem z12o (ga ja:Int) (ta:OA) (va ya:Nat) (x y wide high:Int) (H:zp) (K:KT) (h:zur ga ja ta va ya x y wide high H fun (tc:Int) (nc:Int) (ma:OA) (sa:Nat) (oa:Nat) (r2:Bool) (H':zp)=>K (.tuple #[.agg #[.int .i64 tc,.int .i64 nc,.slice ma sa oa],.bool r2]) H'):zw Tryz.prog E_fcz Tryz.f36 [.agg #[.int .i64 ga,.int .i64 ja,.slice ta va ya],.int .i64 x,.int .i64 y,.int .i64 wide,.int .i64 high] H K:=by
 rw [z1h0]
 obtain ⟨l,il,bl,hk⟩:=h
 obtain rfl:=il.eqn
 have ep:z4z ga ja l x y wide high=(bif z8p ga ja l x y wide high then z9l wide high (z4r l x y ga) else (0,0,[],false)):=rfl
 rw [ep] at hk
 refine Al.intro fun b1 H1 e1 l1 g1 o1=>Al.intro fun b2 H2 e2 l2 g2 o2=>Al.intro fun b3 H3 e3 l3 g3 o3=>Al.intro fun b4 H4 e4 l4 g4 o4=>?_
 have p1:=((o1.grow g2).grow g3).grow g4
 have p2:=(o2.grow g3).grow g4
 have p3:=o3.grow g4
 have G4:Grow H H4:=((g1.trans g2).trans g3).trans g4
 refine ⟨ga,ja,ta,l.length,ya,(p1.rdN (nbl rfl)).trans rfl,x,(p2.rdC 0).trans rfl,y,(p3.rdC 0).trans rfl,zny ⟨l,il.grow G4,bl,fun H5 g5=>?_⟩⟩
 have q4:=o4.grow g5
 refine Br.intro (fun hp=>?_) (fun hp=>?_)
 ·refine Lt.setN q4 (n:=3) ω22 rfl fun H6 l6 q6 k6=>⟨0,0,none,0,0,(q6.rdN (nbl rfl)).trans rfl,?_⟩
  rw [z1g hp,cond_false] at hk
  exact hk none 0 0 H6 ((G4.trans g5).keep ω2 k6) (OwnS.nil _ _ _ _)
 have hpv:=z1d hp
 rw [hpv,cond_true] at hk
 obtain ⟨_,w2,_,w4,w5,_,x0,y0,_,_,hx,hy⟩:=zvo hpv
 have G5:Grow H H5:=G4.trans g5
 refine zv6 ⟨z4r l x y ga,rfl,zf9 (p1.grow g5) (p2.grow g5) (p3.grow g5) (il.grow G5) bl w2 w4 w5 x0 y0 hx hy,fun a n e H7 g7 o7=>?_⟩
 have lo:=o7.lo
 have hle:=G5.1
 refine Lt.setN (q4.grow g7) (n:=3) ω22 rfl fun H8 l8 q8 k8=>⟨_,_,a,n,e,(q8.rdN (nbl rfl)).trans rfl,?_⟩
 exact hk a n e H8 ((G5.trans g7).keep ω2 k8) ((o7.keepA (fun x y hx hy=>by cases hx;have:=lo y hy;have:=q4.lt;show b4≠_;omega) (OwnS.keep1 k8)).weak hle)
theorem z19h:FnOk Tryz.prog 36 S_fcz:=FnOk.bodyF mix_ok zzh Tryz.func36 rfl ω10 ω10 fun args H=>by
 unfold F_fcz
 split
 ·refine ⟨?_,?_,?_,?_,fun K hk=>z12o _ _ _ _ _ _ _ _ _ H K hk⟩
  ·intro K K' h hk;obtain ⟨l,i,b,k⟩:=hk;exact ⟨l,i,b,(fun od xd vd H' gg ow0=>h _ _ (k od xd vd H' gg ow0))⟩
  ·nofun
  ·intro K hk;obtain ⟨l,i,b,k⟩:=hk;exact z4i fun a n e H1 g o=>⟨_,_,k a n e H1 g o⟩
  ·intro _ K hk;obtain ⟨l,i,b,k⟩:=hk;exact ⟨l,i,b,(fun od xd vd H' gg ow0=>⟨gg,k od xd vd H' gg ow0⟩)⟩
 ·exact Nice.no

def zaa (ab:LN):Bool:=(bif (z2w (ab.length:Int) (1:Int) (128:Int)) then (z7h ([ab])) else false)
def zlb:=@zaa.eq_1
def zof (zb:OA) (vb jc:Nat) (H:zp) (K:Bool→zp→Prop):Prop:=∃ab:LN,IsL fF H zb vb ab∧ab.length<1073741824∧((∀H':zp,Grow H H'→K (zaa ab) H'))
theorem z11a {zb:OA} {vb jc:Nat} {H:zp} {K:Bool→zp→Prop} (h:∃ab:LN,IsL fF H zb vb ab∧ab.length<1073741824∧((∀H':zp,Grow H H'→K (zaa ab) H'))):zof zb vb jc H K:=h

def ztr:Env:=envOf [(68,zay),(104,zul)]
def z17j (args:List Value) (H:zp):(Value→zp→Prop)→Prop:=match args with
 | [.slice zb vb jc]=>fun K=>zof zb vb jc H fun (r1:Bool) (H':zp)=>K (.bool r1) H'
 | _=>fun _=>False
def z18s:FSpec:={F:=z17j,quiet:=false,tame:=true}
theorem z1dj (zb:OA) (vb jc:Nat) (H:zp) (K:KT):zw Tryz.prog ztr Tryz.f114 [.slice zb vb jc] H K=
 (z3j (vb:Int) 1 128 H fun (r1:Bool) (H1:zp)=>Br r1 (Al [.slice zb vb jc] H1 fun b1 H2=>zm6 (some ⟨b1,0,none⟩) 1 1 H2 fun (r2:Bool) (H3:zp)=>K (.bool r2) H3) (K (.bool false) H1)):=by kernel_rfl
theorem zts:∀g,FnOk Tryz.prog g (ztr g):=FnOk.envOf (by
 intro x hx
 simp only [List.mem_cons,List.not_mem_nil,or_false] at hx
 rcases hx with rfl | rfl
 ·exact f22z_ok
 ·exact zp0)
theorem zwk (zb:OA) (vb jc:Nat) (H:zp) (K:KT) (h:zof zb vb jc H fun (r1:Bool) (H':zp)=>K (.bool r1) H'):zw Tryz.prog ztr Tryz.f114 [.slice zb vb jc] H K:=by
 rw [z1dj]
 obtain ⟨ab,i_list,bd_12,hk⟩:=h
 obtain rfl:=i_list.eqn
 have e:(zaa ab)=_:=rfl
 have e:=e.trans (zlb ab)
 have g0:=Grow.refl H
 refine z4j ?_
 refine Br.intro (fun c_1=>?_) (fun c_1=>?_)
 ·have e:=e.trans (zv c_1)
  have c_1':=f22z_t c_1
  refine Al.intro (fun b_2 H_1 hb_3 hl_4 g_5 o_6=>?_)
  have l_8:=g_5.1
  have g_9:=g0.trans g_5
  have l_10:=g_9.1
  have w11:=o_6.lt
  refine zho ⟨[ab],⟨_,o_6.rdAll rfl,LLc.cons (i_list.grow g_9) (LLc.nil _ _)⟩,ω0,ω16,?_⟩
  rw [e] at hk
  exact hk  H_1 g_9 
 ·have e:=e.trans (zu c_1)
  rw [e] at hk
  exact hk  H g0 
theorem z1di:FnOk Tryz.prog 114 z18s:=FnOk.bodyF mix_ok zts Tryz.func114 rfl ω10 ω10 fun args H=>by
 unfold z17j
 split
 ·refine ⟨?_,?_,?_,?_,fun K hk=>zwk _ _ _ H K hk⟩
  ·intro K K' h hk;obtain ⟨ab,i_list,bd_12,k⟩:=hk;exact ⟨ab,i_list,bd_12,(fun  H' gg  =>h _ _ (k  H' gg))⟩
  ·nofun
  ·intro K hk;obtain ⟨ab,i_list,bd_12,k⟩:=hk;exact ⟨_,_,k H (Grow.refl H)⟩
  ·intro _ K hk;obtain ⟨ab,i_list,bd_12,k⟩:=hk;exact ⟨ab,i_list,bd_12,(fun  H' gg  =>⟨gg,k  H' gg⟩)⟩
 ·exact Nice.no

def z9x (ab:LN):Nat→LN→LN→Int→LN×LN
 | 0,_,_,_=>([],[])
 | μ+1,yc,yd,t12=>(bif decide ((t12:Int)<(ab.length:Int)) then (bif (Int.tmod t12 2:Int)==0 then (z9x ab μ ((yc++[(((ab).getD (t12:Int).toNat 0))])) yd (t12+1)) else (z9x ab μ yc ((yd++[(((ab).getD (t12:Int).toNat 0))])) (t12+1))) else (yc,yd))
def zgh:=fun ab μ yc yd t12=>@z9x.eq_2 ab yc yd t12 μ
def zrc (ab:LN):LN×LN:=(z9x ab (Int.toNat ((ab.length:Int)-(0:Int))+1) ([]:LN) ([]:LN) (0:Int))
def zpd:=@zrc.eq_1
def T_f7z (zb:OA) (vb jc:Nat) (H:zp) (K:OA→Nat→Nat→OA→Nat→Nat→zp→Prop):Prop:=∃ab:LN,IsL fF H zb vb ab∧ab.length<1073741824∧((∀(od:OA) (xd vd:Nat),∀(nh:OA) (wh vh:Nat),∀H':zp,Grow H H'→OwnS fF H' H.length od xd vd (evs ab)→OwnS fF H' H.length nh wh vh (ods ab)→SepA od nh→K od xd vd nh wh vh H'))
theorem z1b9 {zb:OA} {vb jc:Nat} {H:zp} {K:OA→Nat→Nat→OA→Nat→Nat→zp→Prop} (h:∃ab:LN,IsL fF H zb vb ab∧ab.length<1073741824∧((∀(od:OA) (xd vd:Nat),∀(nh:OA) (wh vh:Nat),∀H':zp,Grow H H'→OwnS fF H' H.length od xd vd (evs ab)→OwnS fF H' H.length nh wh vh (ods ab)→SepA od nh→K od xd vd nh wh vh H'))):T_f7z zb vb jc H K:=h
theorem zi1 (l:LN):∀(μ i:Nat),i≤l.length→l.length-i<μ→z9x l μ (evs (l.take i)) (ods (l.take i)) (i:Int)=(evs l,ods l):=by
 intro μ
 induction μ with
 | zero=>intro i _ h;omega
 | succ μ ih=>
  intro i hi hm
  rw [zgh]
  by_cases h:i<l.length
  ·rw [dct (show (i:Int)<(l.length:Int) by omega),cond_true,Int.toNat_natCast]
   have:=ih (i+1) ω2 ω2
   have hl:(l.take i).length=i:=by simp;omega
   rw [zf5 l i h,zhu,zib,hl] at this
   have ht:(Int.tmod (i:Int) 2==0)=decide (i % 2=0):=by
    have:Int.tmod (i:Int) 2=((i % 2:Nat):Int):=by rw [Int.tmod_eq_emod_of_nonneg ω2];omega
    rw [this]
    by_cases hk:i % 2=0
    ·simp [hk]
    ·have:i % 2=1:=by omega
     simp [this]
   rw [ht]
   by_cases hk:i % 2=0
   ·rw [if_pos hk,if_pos hk] at this
    rw [dct hk,cond_true];exact this
   ·rw [if_neg hk,if_neg hk] at this
    rw [dcf hk,cond_false];exact this
  ·have e:i=l.length:=by omega
   rw [dcf (show ¬(i:Int)<(l.length:Int) by omega),cond_false,e,List.take_of_length_le (Nat.le_refl _)]
theorem zfk (l:LN):zrc l=(evs l,ods l):=by
 rw [zpd]
 have:=zi1 l (Int.toNat ((l.length:Int)-0)+1) 0 ω2 ω2
 simpa [evs,ods] using this
def zhi:Env:=envOf []
def F_f7z (args:List Value) (H:zp):(Value→zp→Prop)→Prop:=match args with
 | [.slice zb vb jc]=>fun K=>T_f7z zb vb jc H fun (od:OA) (xd:Nat) (vd:Nat) (nh:OA) (wh:Nat) (vh:Nat) (H':zp)=>K (.tuple #[.slice od xd vd,.slice nh wh vh]) H'
 | _=>fun _=>False
def S_f7z:FSpec:={F:=F_f7z,quiet:=false,tame:=true}
theorem f7z_vc (zb:OA) (vb jc:Nat) (H:zp) (K:KT):zw Tryz.prog zhi Tryz.f115 [.slice zb vb jc] H K=
 (Al [] H fun b1 H1=>Al [] H1 fun b2 H2=>z1n (exL Tryz.prog zhi (cl (cl (cr (cl (cr (cr (zq Tryz.f115))))))) 7216 12 [(0,48)]) (ud4 (.slice (some ⟨b1,0,none⟩) 0 1::.slice (some ⟨b2,0,none⟩) 0 1::ud4 (.slice zb vb jc::.int .i64 (vb:Int)::.int .i64 0::ud18 []))) H2 (z1a 0 (seqQ (exL Tryz.prog zhi (cr (cr (cr (zq Tryz.f115)))) 12 12 []) (retK Tryz.prog Tryz.f115 K)))):=by kernel_rfl
abbrev f7z_P1 (zb:OA) (jc vb:Nat) (vc:OA) (xc pd:Nat) (ae:OA) (de ue:Nat) (t12:Int)  :List Value:=(ud4 (.slice vc xc pd::.slice ae de ue::ud4 (.slice zb vb jc::.int .i64 (vb:Int)::.int .i64 t12::ud18 [])))
theorem f7z_r1 (zb:OA) (jc vb:Nat) (vc:OA) (xc pd:Nat) (ae:OA) (de ue:Nat) (t12:Int)  (H:zp) (R:Post):exL Tryz.prog zhi (cl (cl (cr (cl (cr (cr (zq Tryz.f115))))))) 7216 12 [(0,48)] (f7z_P1 zb jc vb vc xc pd ae de ue t12) H R=
 (Br (decide ((t12:Int)<(vb:Int))) ((0:Int)≤t12∧t12<(vb:Int)∧∃b3 f1,(zb:OA)=some ⟨b3,f1,none⟩∧∃x1:Nat,  rdC H b3 (f1+(t12:Int).toNat*1)=some (.float .f32 x1)∧2≠(0:Int)∧Br ((Int.tmod t12 2:Int)==0) (Al [.float .f32 x1] H fun b4 H3=>∃o1 w1:List Value,ownB H3 vc xc pd 1=some o1∧rdS H3 (some ⟨b4,0,none⟩) (1*1)=some w1∧((vc:OA)=none→0<(1:Nat))∧(xc:Nat)+1<most∧Ap H3 (z3c H3 vc++[some ⟨o1++w1,true⟩]) fun b5 H4=>R .normal (ud4 (.slice (some ⟨b5,0,none⟩) (xc+1) 1::.slice ae de ue::ud4 (.slice zb vb jc::.int .i64 (vb:Int)::.int .i64 (IntKind.wrap .i64 (t12+1))::ud18 []))) H4) (Al [.float .f32 x1] H fun b6 H5=>∃o2 w2:List Value,ownB H5 ae de ue 1=some o2∧rdS H5 (some ⟨b6,0,none⟩) (1*1)=some w2∧((ae:OA)=none→0<(1:Nat))∧(de:Nat)+1<most∧Ap H5 (z3c H5 ae++[some ⟨o2++w2,true⟩]) fun b7 H6=>R .normal (ud4 (.slice vc xc pd::.slice (some ⟨b7,0,none⟩) (de+1) 1::ud4 (.slice zb vb jc::.int .i64 (vb:Int)::.int .i64 (IntKind.wrap .i64 (t12+1))::ud18 []))) H6)) (R (.exit 0) (ud4 (.slice vc xc pd::.slice ae de ue::ud25 [])) H)):=by kernel_rfl
def f7z_I1 (zb:OA) (jc vb:Nat) (Inv:Nat→OA→Nat→Nat→OA→Nat→Nat→Int→zp→Prop):Nat→List Value→zp→Prop:=fun μ tm H=>∃vc:OA,∃(xc pd:Nat),∃ae:OA,∃(de ue:Nat),∃t12:Int,tm=(f7z_P1 zb jc vb vc xc pd ae de ue t12)∧Inv μ vc xc pd ae de ue t12 H
theorem f7z_L1 (zb:OA) (jc vb:Nat) {Q:Post} (Inv:Nat→OA→Nat→Nat→OA→Nat→Nat→Int→zp→Prop) (ν:Nat) (vc:OA) (xc pd:Nat) (ae:OA) (de ue:Nat) (t12:Int)  (H:zp) (h0:Inv ν vc xc pd ae de ue t12 H)
  (hs:∀(μ:Nat) (vc:OA) (xc:Nat) (pd:Nat) (ae:OA) (de:Nat) (ue:Nat) (t12:Int)  (H:zp),Inv μ vc xc pd ae de ue t12 H→exL Tryz.prog zhi (cl (cl (cr (cl (cr (cr (zq Tryz.f115))))))) 7216 12 [(0,48)] (f7z_P1 zb jc vb vc xc pd ae de ue t12) H (z1b (f7z_I1 zb jc vb Inv) μ Q)):z1n (exL Tryz.prog zhi (cl (cl (cr (cl (cr (cr (zq Tryz.f115))))))) 7216 12 [(0,48)]) (f7z_P1 zb jc vb vc xc pd ae de ue t12) H Q:=
 ⟨f7z_I1 zb jc vb Inv,ν,⟨vc,xc,pd,ae,de,ue,t12,rfl,h0⟩,fun μ tm H h=>by obtain ⟨vc,xc,pd,ae,de,ue,t12,rfl,hI⟩:=h;exact hs μ vc xc pd ae de ue t12  H hI⟩
theorem f7z_n1 {zb:OA} {jc vb:Nat} {Q:Post} {Inv:Nat→OA→Nat→Nat→OA→Nat→Nat→Int→zp→Prop} {μ:Nat} (μ':Nat) {vc:OA} {xc pd:Nat} {ae:OA} {de ue:Nat} {t12:Int}  {H:zp} (hm:μ'<μ) (hI:Inv μ' vc xc pd ae de ue t12 H):z1b (f7z_I1 zb jc vb Inv) μ Q .normal (f7z_P1 zb jc vb vc xc pd ae de ue t12) H:=⟨μ',hm,vc,xc,pd,ae,de,ue,t12,rfl,hI⟩
theorem f7z_x1_0 (vc:OA) (xc pd:Nat) (ae:OA) (de ue:Nat) (H:zp) (K:KT)  {I:Nat→List Value→zp→Prop} {μ:Nat}:z1b I μ (z1a 0 (seqQ (exL Tryz.prog zhi (cr (cr (cr (zq Tryz.f115)))) 12 12 []) (retK Tryz.prog Tryz.f115 K))) (.exit 0) (ud4 (.slice vc xc pd::.slice ae de ue::ud25 [])) H=
 (K (.tuple #[.slice vc xc pd,.slice ae de ue]) H):=by kernel_rfl
theorem zzc:∀g,FnOk Tryz.prog g (zhi g):=FnOk.envOf (by
 intro x hx;cases hx)
theorem f7z_main (zb:OA) (vb jc:Nat) (H:zp) (K:KT) (h:T_f7z zb vb jc H fun (od:OA) (xd:Nat) (vd:Nat) (nh:OA) (wh:Nat) (vh:Nat) (H':zp)=>K (.tuple #[.slice od xd vd,.slice nh wh vh]) H'):zw Tryz.prog zhi Tryz.f115 [.slice zb vb jc] H K:=by
 rw [f7z_vc]
 obtain ⟨ab,i_list,bd_101,hk⟩:=h
 have hk:(∀(od:OA) (xd vd:Nat),∀(nh:OA) (wh vh:Nat),∀H':zp,Grow H H'→OwnS fF H' H.length od xd vd ((zrc ab).1)→OwnS fF H' H.length nh wh vh ((zrc ab).2)→SepA od nh→(fun (od:OA) (xd:Nat) (vd:Nat) (nh:OA) (wh:Nat) (vh:Nat) (H':zp)=>K (.tuple #[.slice od xd vd,.slice nh wh vh]) H') od xd vd nh wh vh H'):=by rw [zfk ab];exact hk
 obtain rfl:=i_list.eqn
 have e:(zrc ab)=_:=rfl
 have e:=e.trans (zpd ab)
 have g0:=Grow.refl H
 refine Al.intro (fun b_1 H_1 hb_2 hl_3 g_4 o_5=>?_)
 have o_5:Own H_1 b_1 ((([]:LN)).map fF):=o_5
 have l_7:=g_4.1
 have g_8:=g0.trans g_4
 have l_9:=g_8.1
 have w100:=o_5.lt
 refine Al.intro (fun b_10 H_2 hb_11 hl_12 g_13 o_14=>?_)
 have o_14:Own H_2 b_10 ((([]:LN)).map fF):=o_14
 have l_16:=g_13.1
 have g_17:=g_8.trans g_13
 have l_18:=g_17.1
 have o_19:=o_5.grow g_13
 have w20:=o_19.lt
 have w99:=o_14.lt
 refine f7z_L1 _ _ _ (fun (μ:Nat) (vc:OA) (xc:Nat) (pd:Nat) (ae:OA) (de:Nat) (ue:Nat) (t12:Int) (H_3:zp)=>∃yc:LN,∃b_21:Nat,∃yd:LN,∃b_23:Nat,vc=some ⟨b_21,0,none⟩∧xc=yc.length∧pd=1∧Own H_3 b_21 (yc.map fF)∧ae=some ⟨b_23,0,none⟩∧de=yd.length∧ue=1∧Own H_3 b_23 (yd.map fF)∧(b_23≠b_21)∧Grow H H_3∧H.length≤b_21∧H.length≤b_23∧(0:Int)≤t12∧t12≤(ab.length:Int)∧(yc.length:Int)≤t12-(0:Int)+0∧(yd.length:Int)≤t12-(0:Int)+0∧(ab.length:Int)-t12≤(μ:Int)∧zrc ab=z9x ab (μ+1) yc yd t12) (Int.toNat ((ab.length:Int)-(0:Int))) _ _ _ _ _ _ _ H_2 ?_ ?_
 ·exact ⟨_,_,_,_,rfl,ω5,rfl,o_19,rfl,ω5,rfl,o_14,ω2,g_17,ω2,ω2,ω7,ω7,ω7,ω7,ω2,e⟩
 ·intro μ vc xc pd ae de ue t12  H_3 hI
  obtain ⟨yc,b_21,yd,b_23,rfl,rfl,rfl,o22,rfl,rfl,rfl,o24,n25,g26,l27,l28,v_29,v_30,v_31,v_32,hμ,e⟩:=hI
  rw [f7z_r1]
  have e:=e.trans (zgh ab μ yc yd t12)
  have w33:=o22.lt
  have w34:=o24.lt
  have l35:=g26.1
  refine Br.intro (fun c36=>?_) (fun c36=>?_)
  ·have e:=e.trans (zv c36)
   have c_36':=odt c36
   obtain ⟨b37,f_38,q39⟩:=((i_list.grow g26)).pos ω0
   refine ⟨by omega,by omega,b37,f_38,q39,?_⟩
   refine ⟨((ab).getD (t12:Int).toNat 0),(i_list).rd g26 q39 ω2 _,?_⟩
   refine ⟨ω23,?_⟩
   have z40:=za0 t12 2
   have z41:=zcb t12 2
   refine Br.intro (fun c_42=>?_) (fun c_42=>?_)
   ·have e:=e.trans (zv c_42)
    have c_42':=za1 c_42
    refine Al.intro (fun b43 H_4 hb_44 hl_45 g46 o47=>?_)
    have o47:Own H_4 b43 (([(((ab).getD (t12:Int).toNat 0))]).map fF):=o47
    have l49:=g46.1
    have g50:=g26.trans g46
    have l51:=g50.1
    have o52:=o22.grow g46
    have w53:=o52.lt
    have o54:=o24.grow g46
    have w55:=o54.lt
    have w70:=o47.lt
    refine ⟨_,_,o52.ownB ω3 rfl,(z2t (o47.isL ω5)),(fun h=>by cases h),ω25,?_⟩
    refine Ap.app o52 rfl rfl (fun b60 H_5 q68 hl_56 o57 k58=>?_)
    have o57:=z2l o57
    have l61:=k58.1
    have g62:=g50.keep (b:=b_21) ω2 k58
    have l63:=g62.1
    have o64:=o54.keep ω2 k58
    have w65:=o64.lt
    have o66:=o47.keep ω2 k58
    have w67:=o66.lt
    have w69:=o57.lt
    rw [show IntKind.wrap .i64 (t12+1)=(t12+1) from zt ω2 ω2]
    refine f7z_n1 (μ-1) ω15 ⟨_,_,_,_,rfl,ω8,rfl,o57,rfl,ω5,rfl,o64,ω2,g62,ω2,ω2,ω1,ω1,ω1,ω1,ω15,ω13⟩
   ·have e:=e.trans (zu c_42)
    have c_42':=z8s c_42
    refine Al.intro (fun b71 H_6 hb_72 hl_73 g74 o75=>?_)
    have o75:Own H_6 b71 (([(((ab).getD (t12:Int).toNat 0))]).map fF):=o75
    have l77:=g74.1
    have g78:=g26.trans g74
    have l79:=g78.1
    have o80:=o22.grow g74
    have w81:=o80.lt
    have o82:=o24.grow g74
    have w83:=o82.lt
    have w98:=o75.lt
    refine ⟨_,_,o82.ownB ω3 rfl,(z2t (o75.isL ω5)),(fun h=>by cases h),ω25,?_⟩
    refine Ap.app o82 rfl rfl (fun b88 H_7 q96 hl_84 o85 k86=>?_)
    have o85:=z2l o85
    have l89:=k86.1
    have g90:=g78.keep (b:=b_23) ω2 k86
    have l91:=g90.1
    have o92:=o80.keep ω2 k86
    have w93:=o92.lt
    have o94:=o75.keep ω2 k86
    have w95:=o94.lt
    have w97:=o85.lt
    rw [show IntKind.wrap .i64 (t12+1)=(t12+1) from zt ω2 ω2]
    refine f7z_n1 (μ-1) ω15 ⟨_,_,_,_,rfl,ω5,rfl,o92,rfl,ω8,rfl,o85,ω2,g90,ω2,ω2,ω1,ω1,ω1,ω1,ω15,ω13⟩
  ·have e:=e.trans (zu c36)
   have c_36':=odf c36
   rw [f7z_x1_0]
   rw [e] at hk
   exact hk _ _ _ _ _ _ H_3 g26 (o22.ownS ω5 ω2) (o24.ownS ω5 ω2) (fun x y hx hy=>by cases hx;cases hy;intro hh;dsimp only at hh;omega)
theorem f7z_ok:FnOk Tryz.prog 115 S_f7z:=FnOk.bodyF mix_ok zzc Tryz.func115 rfl ω10 ω10 fun args H=>by
 unfold F_f7z
 split
 ·refine ⟨?_,?_,?_,?_,fun K hk=>f7z_main _ _ _ H K hk⟩
  ·intro K K' h hk;obtain ⟨ab,i_list,bd_101,k⟩:=hk;exact ⟨ab,i_list,bd_101,(fun od xd vd nh wh vh H' gg ow0 ow1 sp0_1=>h _ _ (k od xd vd nh wh vh H' gg ow0 ow1 sp0_1))⟩
  ·nofun
  ·intro K hk;obtain ⟨ab,i_list,bd_101,k⟩:=hk;exact zxn fun a n e a2 n2 e2 H1 g o o2 sp=>⟨_,_,k a n e a2 n2 e2 H1 g o o2 sp⟩
  ·intro _ K hk;obtain ⟨ab,i_list,bd_101,k⟩:=hk;exact ⟨ab,i_list,bd_101,(fun od xd vd nh wh vh H' gg ow0 ow1 sp0_1=>⟨gg,k od xd vd nh wh vh H' gg ow0 ow1 sp0_1⟩)⟩
 ·exact Nice.no

def z9j (yc:LN) (j:Int):Nat×Nat:=(((yc).getD (j:Int).toNat 0),((yc).getD ((if (((yc.length:Int)-1):Int)<(j+1) then ((yc.length:Int)-1) else (j+1)):Int).toNat 0))
def zpc:=@z9j.eq_1
def T_f1z (vc:OA) (xc pd:Nat) (j:Int) (H:zp) (K:Nat→Nat→zp→Prop):Prop:=∃yc:LN,IsL fF H vc xc yc∧yc.length<1073741824∧0≤j∧j<yc.length∧K ((z9j yc j).1) ((z9j yc j).2) H
theorem z1b3 {vc:OA} {xc pd:Nat} {j:Int} {H:zp} {K:Nat→Nat→zp→Prop} (h:∃yc:LN,IsL fF H vc xc yc∧yc.length<1073741824∧0≤j∧j<yc.length∧K ((z9j yc j).1) ((z9j yc j).2) H):T_f1z vc xc pd j H K:=h

def E_f1z:Env:=envOf []
def F_f1z (args:List Value) (H:zp):(Value→zp→Prop)→Prop:=match args with
 | [.slice vc xc pd,.int .i64 j]=>fun K=>T_f1z vc xc pd j H fun (r1:Nat) (r2:Nat) (H':zp)=>K (.tuple #[.float .f32 r1,.float .f32 r2]) H'
 | _=>fun _=>False
def S_f1z:FSpec:={F:=F_f1z,quiet:=true,tame:=false}
theorem f1z_vc (vc:OA) (xc pd:Nat) (j:Int) (H:zp) (K:KT):zw Tryz.prog E_f1z Tryz.f145 [.slice vc xc pd,.int .i64 j] H K=
 ((0:Int)≤j∧j<(xc:Int)∧∃b1 f1,(vc:OA)=some ⟨b1,f1,none⟩∧∃x1:Nat,  rdC H b1 (f1+(j:Int).toNat*1)=some (.float .f32 x1)∧(0:Int)≤(if (IntKind.wrap .i64 ((xc:Int)-1):Int)<IntKind.wrap .i64 (j+1) then IntKind.wrap .i64 ((xc:Int)-1) else IntKind.wrap .i64 (j+1))∧(if (IntKind.wrap .i64 ((xc:Int)-1):Int)<IntKind.wrap .i64 (j+1) then IntKind.wrap .i64 ((xc:Int)-1) else IntKind.wrap .i64 (j+1))<(xc:Int)∧∃b2 f2,(vc:OA)=some ⟨b2,f2,none⟩∧∃x2:Nat,  rdC H b2 (f2+((if (IntKind.wrap .i64 ((xc:Int)-1):Int)<IntKind.wrap .i64 (j+1) then IntKind.wrap .i64 ((xc:Int)-1) else IntKind.wrap .i64 (j+1)):Int).toNat*1)=some (.float .f32 x2)∧K (.tuple #[.float .f32 x1,.float .f32 x2]) H):=by kernel_rfl
theorem zz6:∀g,FnOk Tryz.prog g (E_f1z g):=FnOk.envOf (by
 intro x hx;cases hx)
theorem f1z_main (vc:OA) (xc pd:Nat) (j:Int) (H:zp) (K:KT) (h:T_f1z vc xc pd j H fun (r1:Nat) (r2:Nat) (H':zp)=>K (.tuple #[.float .f32 r1,.float .f32 r2]) H'):zw Tryz.prog E_f1z Tryz.f145 [.slice vc xc pd,.int .i64 j] H K:=by
 rw [f1z_vc]
 obtain ⟨yc,i_evens,bd_7,pr0,pr1,hk⟩:=h
 obtain rfl:=i_evens.eqn
 have e:(z9j yc j)=_:=rfl
 have e:=e.trans (zpc yc j)
 have g0:=Grow.refl H
 obtain ⟨b_1,f_2,q_3⟩:=((i_evens.grow g0)).pos ω0
 refine ⟨by omega,by omega,b_1,f_2,q_3,?_⟩
 refine ⟨((yc).getD (j:Int).toNat 0),(i_evens).rd g0 q_3 ω2 _,?_⟩
 rw [show IntKind.wrap .i64 (j+1)=(j+1) from zt ω2 ω2]
 rw [show IntKind.wrap .i64 ((yc.length:Int)-1)=((yc.length:Int)-1) from zt ω2 ω2]
 obtain ⟨b_4,f_5,q_6⟩:=((i_evens.grow g0)).pos ω0
 refine ⟨by omega,by omega,b_4,f_5,q_6,?_⟩
 refine ⟨((yc).getD ((if (((yc.length:Int)-1):Int)<(j+1) then ((yc.length:Int)-1) else (j+1)):Int).toNat 0),(i_evens).rd g0 q_6 ω2 _,?_⟩
 rw [e] at hk
 exact hk
theorem f1z_ok:FnOk Tryz.prog 145 S_f1z:=FnOk.bodyF mix_ok zz6 Tryz.func145 rfl ω10 ω10 fun args H=>by
 unfold F_f1z
 split
 ·refine ⟨?_,?_,?_,?_,fun K hk=>f1z_main _ _ _ _ H K hk⟩
  ·intro K K' h hk;obtain ⟨yc,i_evens,bd_7,pr0,pr1,k⟩:=hk;exact ⟨yc,i_evens,bd_7,pr0,pr1,h _ _ k⟩
  ·intro _ K hk;obtain ⟨yc,i_evens,bd_7,pr0,pr1,k⟩:=hk;exact ⟨_,k,fun K' k'=>⟨yc,i_evens,bd_7,pr0,pr1,k'⟩⟩
  ·intro K hk;obtain ⟨yc,i_evens,bd_7,pr0,pr1,k⟩:=hk;exact ⟨_,_,k⟩
  ·nofun
 ·exact Nice.no
def zg0 (x x_o a b cap0 cap1:Nat) (H:zp) (K:zp→Prop):Prop:=∃x1:Nat,  rdC H cap0 0=some (.float .f32 x1)∧∃x2:Bool,  rdC H cap1 0=some (.bool x2)∧Br x2 (∃x3:Nat,  rdC H x x_o=some (.float .f32 x3)∧isOwn H x∧(∃l,rdN H x x_o 1=some l)∧Lt (setC H x x_o (.float .f32 (fsub .f32 x3 (fmul .f32 x1 (fadd .f32 a b))))) fun H1=>K  H1) (∃x4:Nat,  rdC H x x_o=some (.float .f32 x4)∧isOwn H x∧(∃l,rdN H x x_o 1=some l)∧Lt (setC H x x_o (.float .f32 (fadd .f32 x4 (fmul .f32 x1 (fadd .f32 a b))))) fun H2=>K  H2)
def z16e:Env:=envOf []
def zno:List Value→zp→(Value→zp→Prop)→Prop
 | [.pointer (some ⟨x,x_o,none⟩),.float .f32 a,.float .f32 b,.pointer (some ⟨cap0,0,none⟩),.pointer (some ⟨cap1,0,none⟩)],H,K=>zg0 x x_o a b cap0 cap1 H fun  (H':zp)=>K (.tuple #[]) H'
 | _,_,_=>False
def zj1:FSpec:={F:=zno,quiet:=false,tame:=false}
theorem zd8:∀g,FnOk Tryz.prog g (z16e g):=FnOk.envOf (by
 intro x hx;cases hx)
theorem zmj (x x_o a b cap0 cap1:Nat) (H:zp) (K:KT):z6i Tryz.prog z16e Tryz.f144 [.pointer (some ⟨x,x_o,none⟩),.float .f32 a,.float .f32 b,.pointer (some ⟨cap0,0,none⟩),.pointer (some ⟨cap1,0,none⟩)] H K=zg0 x x_o a b cap0 cap1 H (fun  (H':zp)=>K (.tuple #[]) H'):=by kernel_rfl
theorem z1cm:FnOk Tryz.prog 144 zj1:=by
 refine FnOk.body mix_ok zd8 Tryz.func144 rfl ω10 ω10 ?_ ?_ ?_ ?_ ?_
 ·intro args H K K' h hk
  simp only [zj1] at *
  unfold zno at *
  split at hk
  ·rw [←zmj] at hk ⊢;exact zg4 zd8 h hk
  ·exact hk.elim
 ·intro hq;cases hq
 ·intro args H K hk
  simp only [zj1] at *
  unfold zno at *
  split at hk
  ·rw [←zmj] at hk;exact zg3 zd8 hk
  ·exact hk.elim
 ·intro hq;cases hq
 ·intro args H K hk
  simp only [zj1] at *
  unfold zno at *
  split at hk
  ·rw [←zmj] at hk;exact hk
  ·exact hk.elim

def z9a (yd:LN) (j:Int):Nat×Nat:=(((yd).getD ((if (0:Int) > (j-1) then 0 else (j-1)):Int).toNat 0),((yd).getD ((if (((yd.length:Int)-1):Int)<j then ((yd.length:Int)-1) else j):Int).toNat 0))
def zpa:=@z9a.eq_1
def T_f0z (ae:OA) (de ue:Nat) (j:Int) (H:zp) (K:Nat→Nat→zp→Prop):Prop:=∃yd:LN,IsL fF H ae de yd∧yd.length<1073741824∧0≤j∧j≤yd.length∧1≤yd.length∧K ((z9a yd j).1) ((z9a yd j).2) H
theorem z1b2 {ae:OA} {de ue:Nat} {j:Int} {H:zp} {K:Nat→Nat→zp→Prop} (h:∃yd:LN,IsL fF H ae de yd∧yd.length<1073741824∧0≤j∧j≤yd.length∧1≤yd.length∧K ((z9a yd j).1) ((z9a yd j).2) H):T_f0z ae de ue j H K:=h

def E_f0z:Env:=envOf []
def F_f0z (args:List Value) (H:zp):(Value→zp→Prop)→Prop:=match args with
 | [.slice ae de ue,.int .i64 j]=>fun K=>T_f0z ae de ue j H fun (r1:Nat) (r2:Nat) (H':zp)=>K (.tuple #[.float .f32 r1,.float .f32 r2]) H'
 | _=>fun _=>False
def S_f0z:FSpec:={F:=F_f0z,quiet:=true,tame:=false}
theorem f0z_vc (ae:OA) (de ue:Nat) (j:Int) (H:zp) (K:KT):zw Tryz.prog E_f0z Tryz.f146 [.slice ae de ue,.int .i64 j] H K=
 ((0:Int)≤(if (0:Int) > IntKind.wrap .i64 (j-1) then 0 else IntKind.wrap .i64 (j-1))∧(if (0:Int) > IntKind.wrap .i64 (j-1) then 0 else IntKind.wrap .i64 (j-1))<(de:Int)∧∃b1 f1,(ae:OA)=some ⟨b1,f1,none⟩∧∃x1:Nat,  rdC H b1 (f1+((if (0:Int) > IntKind.wrap .i64 (j-1) then 0 else IntKind.wrap .i64 (j-1)):Int).toNat*1)=some (.float .f32 x1)∧(0:Int)≤(if (IntKind.wrap .i64 ((de:Int)-1):Int)<j then IntKind.wrap .i64 ((de:Int)-1) else j)∧(if (IntKind.wrap .i64 ((de:Int)-1):Int)<j then IntKind.wrap .i64 ((de:Int)-1) else j)<(de:Int)∧∃b2 f2,(ae:OA)=some ⟨b2,f2,none⟩∧∃x2:Nat,  rdC H b2 (f2+((if (IntKind.wrap .i64 ((de:Int)-1):Int)<j then IntKind.wrap .i64 ((de:Int)-1) else j):Int).toNat*1)=some (.float .f32 x2)∧K (.tuple #[.float .f32 x1,.float .f32 x2]) H):=by kernel_rfl
theorem zz5:∀g,FnOk Tryz.prog g (E_f0z g):=FnOk.envOf (by
 intro x hx;cases hx)
theorem f0z_main (ae:OA) (de ue:Nat) (j:Int) (H:zp) (K:KT) (h:T_f0z ae de ue j H fun (r1:Nat) (r2:Nat) (H':zp)=>K (.tuple #[.float .f32 r1,.float .f32 r2]) H'):zw Tryz.prog E_f0z Tryz.f146 [.slice ae de ue,.int .i64 j] H K:=by
 rw [f0z_vc]
 obtain ⟨yd,i_odds,bd_7,pr0,pr1,pr2,hk⟩:=h
 obtain rfl:=i_odds.eqn
 have e:(z9a yd j)=_:=rfl
 have e:=e.trans (zpa yd j)
 have g0:=Grow.refl H
 rw [show IntKind.wrap .i64 (j-1)=(j-1) from zt ω2 ω2]
 obtain ⟨b_1,f_2,q_3⟩:=((i_odds.grow g0)).pos ω0
 refine ⟨by omega,by omega,b_1,f_2,q_3,?_⟩
 refine ⟨((yd).getD ((if (0:Int) > (j-1) then 0 else (j-1)):Int).toNat 0),(i_odds).rd g0 q_3 ω2 _,?_⟩
 rw [show IntKind.wrap .i64 ((yd.length:Int)-1)=((yd.length:Int)-1) from zt ω2 ω2]
 obtain ⟨b_4,f_5,q_6⟩:=((i_odds.grow g0)).pos ω0
 refine ⟨by omega,by omega,b_4,f_5,q_6,?_⟩
 refine ⟨((yd).getD ((if (((yd.length:Int)-1):Int)<j then ((yd.length:Int)-1) else j):Int).toNat 0),(i_odds).rd g0 q_6 ω2 _,?_⟩
 rw [e] at hk
 exact hk
theorem f0z_ok:FnOk Tryz.prog 146 S_f0z:=FnOk.bodyF mix_ok zz5 Tryz.func146 rfl ω10 ω10 fun args H=>by
 unfold F_f0z
 split
 ·refine ⟨?_,?_,?_,?_,fun K hk=>f0z_main _ _ _ _ H K hk⟩
  ·intro K K' h hk;obtain ⟨yd,i_odds,bd_7,pr0,pr1,pr2,k⟩:=hk;exact ⟨yd,i_odds,bd_7,pr0,pr1,pr2,h _ _ k⟩
  ·intro _ K hk;obtain ⟨yd,i_odds,bd_7,pr0,pr1,pr2,k⟩:=hk;exact ⟨_,k,fun K' k'=>⟨yd,i_odds,bd_7,pr0,pr1,pr2,k'⟩⟩
  ·intro K hk;obtain ⟨yd,i_odds,bd_7,pr0,pr1,pr2,k⟩:=hk;exact ⟨_,_,k⟩
  ·nofun
 ·exact Nice.no
def zfx (back:Bool) (x y:Nat):Nat:=bif back then fsub .f32 x y else fadd .f32 x y
def z7u (k:Int) (w:Nat) (back:Bool) (low high:LN):LN:=bif Int.tmod k 2==0 then high.mapIdx (fun i x=>zfx back x (fmul .f32 w (fadd .f32 ((z9j low (i:Int)).1) ((z9j low (i:Int)).2)))) else high
def zcc (k:Int) (w:Nat) (back:Bool) (low high:LN):LN:=bif Int.tmod k 2==0 then low else low.mapIdx (fun i x=>zfx back x (fmul .f32 w (fadd .f32 ((z9a high (i:Int)).1) ((z9a high (i:Int)).2))))
@[simp] theorem z8m (k:Int) (w:Nat) (back:Bool) (low high:LN):(z7u k w back low high).length=high.length:=by
 unfold z7u;cases (Int.tmod k 2==0)<;>simp
@[simp] theorem z9r (k:Int) (w:Nat) (back:Bool) (low high:LN):(zcc k w back low high).length=low.length:=by
 unfold zcc;cases (Int.tmod k 2==0)<;>simp
def z7o (yc yd:LN) (i:Int) (w:Nat) (back:Bool):Nat→Int→LN→LN×LN
 | 0,_,_=>([],[])
 | μ+1,t23,y1_1=>(bif decide ((t23:Int)<(yd.length:Int)) then (bif back then (z7o yc yd i w back μ (t23+1) (((y1_1).set (t23:Int).toNat ((fsub .f32 (((y1_1).getD (t23:Int).toNat 0)) (fmul .f32 w (fadd .f32 ((z9j yc t23).1) ((z9j yc t23).2)))))))) else (z7o yc yd i w back μ (t23+1) (((y1_1).set (t23:Int).toNat ((fadd .f32 (((y1_1).getD (t23:Int).toNat 0)) (fmul .f32 w (fadd .f32 ((z9j yc t23).1) ((z9j yc t23).2))))))))) else (yc,y1_1))
def zeo:=fun yc yd i w back μ t23 y1_1=>@z7o.eq_2 yc yd i w back t23 y1_1 μ
def z7p (yc yd:LN) (i:Int) (w:Nat) (back:Bool):Nat→Int→LN→LN×LN
 | 0,_,_=>([],[])
 | μ+1,t42,y2_1=>(bif decide ((t42:Int)<(yc.length:Int)) then (bif back then (z7p yc yd i w back μ (t42+1) (((y2_1).set (t42:Int).toNat ((fsub .f32 (((y2_1).getD (t42:Int).toNat 0)) (fmul .f32 w (fadd .f32 ((z9a yd t42).1) ((z9a yd t42).2)))))))) else (z7p yc yd i w back μ (t42+1) (((y2_1).set (t42:Int).toNat ((fadd .f32 (((y2_1).getD (t42:Int).toNat 0)) (fmul .f32 w (fadd .f32 ((z9a yd t42).1) ((z9a yd t42).2))))))))) else (y2_1,yd))
def zep:=fun yc yd i w back μ t42 y2_1=>@z7p.eq_2 yc yd i w back t42 y2_1 μ
def zen (yc yd:LN) (i:Int) (w:Nat) (back:Bool):LN×LN:=((bif (Int.tmod i 2:Int)==0 then (z7o yc yd i w back (Int.toNat ((yd.length:Int)-(0:Int))+1) (0:Int) yd) else (z7p yc yd i w back (Int.toNat ((yc.length:Int)-(0:Int))+1) (0:Int) yc)))
def zlf:=@zen.eq_1
def zol (vc:OA) (xc pd:Nat) (ae:OA) (de ue:Nat) (i:Int) (w:Nat) (back:Bool) (H:zp) (K:zp→Prop):Prop:=∃(lo lob:Nat),∃(yc yd:LN),OwnS fF H lo vc xc pd yc∧OwnS fF H lob ae de ue yd∧SepA vc ae∧yc.length<1073741824∧yd.length<1073741824∧yd.length≤yc.length∧yc.length≤yd.length+1∧1≤yd.length∧((∀H':zp,z3b vc ae H H'→OwnS fF H' lo vc xc pd (zcc i w back yc yd)→OwnS fF H' lob ae de ue (z7u i w back yc yd)→K  H'))
theorem z11h {vc:OA} {xc pd:Nat} {ae:OA} {de ue:Nat} {i:Int} {w:Nat} {back:Bool} {H:zp} {K:zp→Prop} (h:∃(lo lob:Nat),∃(yc yd:LN),OwnS fF H lo vc xc pd yc∧OwnS fF H lob ae de ue yd∧SepA vc ae∧yc.length<1073741824∧yd.length<1073741824∧yd.length≤yc.length∧yc.length≤yd.length+1∧1≤yd.length∧((∀H':zp,z3b vc ae H H'→OwnS fF H' lo vc xc pd (zcc i w back yc yd)→OwnS fF H' lob ae de ue (z7u i w back yc yd)→K  H'))):zol vc xc pd ae de ue i w back H K:=h
theorem zg7 (W ys:LN) (i:Nat) (hi:i<ys.length) (hl:W.length=ys.length):(W.take i++ys.drop i).getD i 0=ys.getD i 0:=by
 rw [List.getD_eq_getElem?_getD,List.getD_eq_getElem?_getD,List.getElem?_append_right (by simp;omega)]
 have:(W.take i).length=i:=by simp;omega
 rw [this,Nat.sub_self,List.getElem?_drop,Nat.add_zero]
theorem f26z_go1 (low high:LN) (k:Int) (w:Nat) (back:Bool) (W:LN) (hW:W=high.mapIdx (fun i x=>zfx back x (fmul .f32 w (fadd .f32 ((z9j low (i:Int)).1) ((z9j low (i:Int)).2))))):
  ∀(μ i:Nat),i≤high.length→high.length-i<μ→z7o low high k w back μ (i:Int) (W.take i++high.drop i)=(low,W):=by
 have hl:W.length=high.length:=by rw [hW];simp
 intro μ
 induction μ with
 | zero=>intro i _ h;omega
 | succ μ ih=>
  intro i hi hm
  rw [zeo]
  by_cases h:i<high.length
  ·rw [dct (show (i:Int)<(high.length:Int) by omega),cond_true,Int.toNat_natCast]
   have:=ih (i+1) ω2 ω2
   have key:∀x,W[i]? =some x→(W.take i++high.drop i).set i x=W.take (i+1)++high.drop (i+1):=fun x hx=>z3o W high i h hl x hx
   have hx:W[i]? =some (zfx back (high.getD i 0) (fmul .f32 w (fadd .f32 ((z9j low (i:Int)).1) ((z9j low (i:Int)).2)))):=by
    rw [hW];simp [List.getD_eq_getElem?_getD,h]
   rw [zg7 W high i h hl]
   have k2:=key _ hx
   cases back
   ·rw [cond_false];simp only [zfx,cond_false] at k2;rw [k2];exact this
   ·rw [cond_true];simp only [zfx,cond_true] at k2;rw [k2];exact this
  ·have e:i=high.length:=by omega
   rw [dcf (show ¬(i:Int)<(high.length:Int) by omega),cond_false,e]
   simp [←hl]
theorem f26z_go2 (low high:LN) (k:Int) (w:Nat) (back:Bool) (W:LN) (hW:W=low.mapIdx (fun i x=>zfx back x (fmul .f32 w (fadd .f32 ((z9a high (i:Int)).1) ((z9a high (i:Int)).2))))):
  ∀(μ i:Nat),i≤low.length→low.length-i<μ→z7p low high k w back μ (i:Int) (W.take i++low.drop i)=(W,high):=by
 have hl:W.length=low.length:=by rw [hW];simp
 intro μ
 induction μ with
 | zero=>intro i _ h;omega
 | succ μ ih=>
  intro i hi hm
  rw [zep]
  by_cases h:i<low.length
  ·rw [dct (show (i:Int)<(low.length:Int) by omega),cond_true,Int.toNat_natCast]
   have:=ih (i+1) ω2 ω2
   have key:∀x,W[i]? =some x→(W.take i++low.drop i).set i x=W.take (i+1)++low.drop (i+1):=fun x hx=>z3o W low i h hl x hx
   have hx:W[i]? =some (zfx back (low.getD i 0) (fmul .f32 w (fadd .f32 ((z9a high (i:Int)).1) ((z9a high (i:Int)).2)))):=by
    rw [hW];simp [List.getD_eq_getElem?_getD,h]
   rw [zg7 W low i h hl]
   have k2:=key _ hx
   cases back
   ·rw [cond_false];simp only [zfx,cond_false] at k2;rw [k2];exact this
   ·rw [cond_true];simp only [zfx,cond_true] at k2;rw [k2];exact this
  ·have e:i=low.length:=by omega
   rw [dcf (show ¬(i:Int)<(low.length:Int) by omega),cond_false,e]
   simp [←hl]
theorem f26z_val (low high:LN) (k:Int) (w:Nat) (back:Bool):zen low high k w back=(zcc k w back low high,z7u k w back low high):=by
 rw [zlf]
 unfold zcc z7u
 cases h:(Int.tmod k 2==0)
 ·rw [cond_false,cond_false,cond_false]
  have:=f26z_go2 low high k w back _ rfl (Int.toNat ((low.length:Int)-0)+1) 0 ω2 ω2
  simpa using this
 ·rw [cond_true,cond_true,cond_true]
  have:=f26z_go1 low high k w back _ rfl (Int.toNat ((high.length:Int)-0)+1) 0 ω2 ω2
  simpa using this
def z6f:Env:=envOf [(145,S_f1z),(144,zj1),(146,S_f0z)]
def z17s (args:List Value) (H:zp):(Value→zp→Prop)→Prop:=match args with
 | [.slice vc xc pd,.slice ae de ue,.int .i64 i,.float .f32 w,.bool back]=>fun K=>zol vc xc pd ae de ue i w back H fun  (H':zp)=>K (.tuple #[]) H'
 | _=>fun _=>False
def z18y:FSpec:={F:=z17s,quiet:=false,tame:=false}
theorem f26z_vc (vc:OA) (xc pd:Nat) (ae:OA) (de ue:Nat) (i:Int) (w:Nat) (back:Bool) (H:zp) (K:KT):zw Tryz.prog z6f Tryz.f116 [.slice vc xc pd,.slice ae de ue,.int .i64 i,.float .f32 w,.bool back] H K=
 (Al [.float .f32 w] H fun b1 H1=>Al [.bool back] H1 fun b2 H2=>2≠(0:Int)∧Br ((Int.tmod i 2:Int)==0) (z1n (exL Tryz.prog z6f (cl (cl (cr (cl (cl (cr (cl (cr (cr (zq Tryz.f116)))))))))) 12583939 0 [(0,0)]) (.slice vc xc pd::.slice ae de ue::ud8 (.func (.func 144) #[] #[.pointer (some ⟨b1,0,none⟩),.pointer (some ⟨b2,0,none⟩)]::ud11 (.int .i64 (de:Int)::.int .i64 0::ud35 []))) H2 (z1a 0 (seqQ (exL Tryz.prog z6f (cr (cl (cr (cl (cr (cr (zq Tryz.f116))))))) 1027 0 []) (seqQ (exL Tryz.prog z6f (cr (cr (cr (zq Tryz.f116)))) 0 0 []) (retK Tryz.prog Tryz.f116 K))))) (z1n (exL Tryz.prog z6f (cl (cl (cr (cr (cr (cr (zq Tryz.f116))))))) 6597069767683 0 [(2,0)]) (.slice vc xc pd::.slice ae de ue::ud8 (.func (.func 144) #[] #[.pointer (some ⟨b1,0,none⟩),.pointer (some ⟨b2,0,none⟩)]::ud30 (.int .i64 (xc:Int)::.int .i64 0::ud16 []))) H2 (z1a 2 (retK Tryz.prog Tryz.f116 K)))):=by kernel_rfl
abbrev f26z_P1 (b1 b2:Nat) (vc:OA) (pd xc:Nat) (ae:OA) (ue de:Nat) (t23:Int)  :List Value:=(.slice vc xc pd::.slice ae de ue::ud8 (.func (.func 144) #[] #[.pointer (some ⟨b1,0,none⟩),.pointer (some ⟨b2,0,none⟩)]::ud11 (.int .i64 (de:Int)::.int .i64 t23::ud35 [])))
theorem f26z_r1 (b1 b2:Nat) (vc:OA) (pd xc:Nat) (ae:OA) (ue de:Nat) (t23:Int)  (H:zp) (R:Post):exL Tryz.prog z6f (cl (cl (cr (cl (cl (cr (cl (cr (cr (zq Tryz.f116)))))))))) 12583939 0 [(0,0)] (f26z_P1 b1 b2 vc pd xc ae ue de t23) H R=
 (Br (decide ((t23:Int)<(de:Int))) (T_f1z vc xc pd t23 H fun (r1:Nat) (r2:Nat) (H3:zp)=>(0:Int)≤t23∧t23<(de:Int)∧∃b3 f1,(ae:OA)=some ⟨b3,f1,none⟩∧zg0 b3 (f1+(t23:Int).toNat*1) r1 r2 b1 b2 H3 fun  (H4:zp)=>R .normal (.slice vc xc pd::.slice ae de ue::ud8 (.func (.func 144) #[] #[.pointer (some ⟨b1,0,none⟩),.pointer (some ⟨b2,0,none⟩)]::ud11 (.int .i64 (de:Int)::.int .i64 (IntKind.wrap .i64 (t23+1))::ud35 []))) H4) (R (.exit 0) (ud59 []) H)):=by kernel_rfl
def f26z_I1 (b1 b2:Nat) (vc:OA) (pd xc:Nat) (ae:OA) (ue de:Nat) (Inv:Nat→Int→zp→Prop):Nat→List Value→zp→Prop:=fun μ tm H=>∃t23:Int,tm=(f26z_P1 b1 b2 vc pd xc ae ue de t23)∧Inv μ t23 H
theorem f26z_L1 (b1 b2:Nat) (vc:OA) (pd xc:Nat) (ae:OA) (ue de:Nat) {Q:Post} (Inv:Nat→Int→zp→Prop) (ν:Nat) (t23:Int)  (H:zp) (h0:Inv ν t23 H)
  (hs:∀(μ:Nat) (t23:Int)  (H:zp),Inv μ t23 H→exL Tryz.prog z6f (cl (cl (cr (cl (cl (cr (cl (cr (cr (zq Tryz.f116)))))))))) 12583939 0 [(0,0)] (f26z_P1 b1 b2 vc pd xc ae ue de t23) H (z1b (f26z_I1 b1 b2 vc pd xc ae ue de Inv) μ Q)):z1n (exL Tryz.prog z6f (cl (cl (cr (cl (cl (cr (cl (cr (cr (zq Tryz.f116)))))))))) 12583939 0 [(0,0)]) (f26z_P1 b1 b2 vc pd xc ae ue de t23) H Q:=
 ⟨f26z_I1 b1 b2 vc pd xc ae ue de Inv,ν,⟨t23,rfl,h0⟩,fun μ tm H h=>by obtain ⟨t23,rfl,hI⟩:=h;exact hs μ t23  H hI⟩
theorem f26z_n1 {b1 b2:Nat} {vc:OA} {pd xc:Nat} {ae:OA} {ue de:Nat} {Q:Post} {Inv:Nat→Int→zp→Prop} {μ:Nat} (μ':Nat) {t23:Int}  {H:zp} (hm:μ'<μ) (hI:Inv μ' t23 H):z1b (f26z_I1 b1 b2 vc pd xc ae ue de Inv) μ Q .normal (f26z_P1 b1 b2 vc pd xc ae ue de t23) H:=⟨μ',hm,t23,rfl,hI⟩
theorem f26z_x1_0  (H:zp) (K:KT)  {I:Nat→List Value→zp→Prop} {μ:Nat}:z1b I μ (z1a 0 (seqQ (exL Tryz.prog z6f (cr (cl (cr (cl (cr (cr (zq Tryz.f116))))))) 1027 0 []) (seqQ (exL Tryz.prog z6f (cr (cr (cr (zq Tryz.f116)))) 0 0 []) (retK Tryz.prog Tryz.f116 K)))) (.exit 0) (ud59 []) H=
 (K (.tuple #[]) H):=by kernel_rfl
abbrev f26z_P2 (b1 b2:Nat) (vc:OA) (pd xc:Nat) (ae:OA) (ue de:Nat) (t42:Int)  :List Value:=(.slice vc xc pd::.slice ae de ue::ud8 (.func (.func 144) #[] #[.pointer (some ⟨b1,0,none⟩),.pointer (some ⟨b2,0,none⟩)]::ud30 (.int .i64 (xc:Int)::.int .i64 t42::ud16 [])))
theorem f26z_r2 (b1 b2:Nat) (vc:OA) (pd xc:Nat) (ae:OA) (ue de:Nat) (t42:Int)  (H:zp) (R:Post):exL Tryz.prog z6f (cl (cl (cr (cr (cr (cr (zq Tryz.f116))))))) 6597069767683 0 [(2,0)] (f26z_P2 b1 b2 vc pd xc ae ue de t42) H R=
 (Br (decide ((t42:Int)<(xc:Int))) (T_f0z ae de ue t42 H fun (r3:Nat) (r4:Nat) (H5:zp)=>(0:Int)≤t42∧t42<(xc:Int)∧∃b4 f2,(vc:OA)=some ⟨b4,f2,none⟩∧zg0 b4 (f2+(t42:Int).toNat*1) r3 r4 b1 b2 H5 fun  (H6:zp)=>R .normal (.slice vc xc pd::.slice ae de ue::ud8 (.func (.func 144) #[] #[.pointer (some ⟨b1,0,none⟩),.pointer (some ⟨b2,0,none⟩)]::ud30 (.int .i64 (xc:Int)::.int .i64 (IntKind.wrap .i64 (t42+1))::ud16 []))) H6) (R (.exit 2) (ud59 []) H)):=by kernel_rfl
def f26z_I2 (b1 b2:Nat) (vc:OA) (pd xc:Nat) (ae:OA) (ue de:Nat) (Inv:Nat→Int→zp→Prop):Nat→List Value→zp→Prop:=fun μ tm H=>∃t42:Int,tm=(f26z_P2 b1 b2 vc pd xc ae ue de t42)∧Inv μ t42 H
theorem f26z_L2 (b1 b2:Nat) (vc:OA) (pd xc:Nat) (ae:OA) (ue de:Nat) {Q:Post} (Inv:Nat→Int→zp→Prop) (ν:Nat) (t42:Int)  (H:zp) (h0:Inv ν t42 H)
  (hs:∀(μ:Nat) (t42:Int)  (H:zp),Inv μ t42 H→exL Tryz.prog z6f (cl (cl (cr (cr (cr (cr (zq Tryz.f116))))))) 6597069767683 0 [(2,0)] (f26z_P2 b1 b2 vc pd xc ae ue de t42) H (z1b (f26z_I2 b1 b2 vc pd xc ae ue de Inv) μ Q)):z1n (exL Tryz.prog z6f (cl (cl (cr (cr (cr (cr (zq Tryz.f116))))))) 6597069767683 0 [(2,0)]) (f26z_P2 b1 b2 vc pd xc ae ue de t42) H Q:=
 ⟨f26z_I2 b1 b2 vc pd xc ae ue de Inv,ν,⟨t42,rfl,h0⟩,fun μ tm H h=>by obtain ⟨t42,rfl,hI⟩:=h;exact hs μ t42  H hI⟩
theorem f26z_n2 {b1 b2:Nat} {vc:OA} {pd xc:Nat} {ae:OA} {ue de:Nat} {Q:Post} {Inv:Nat→Int→zp→Prop} {μ:Nat} (μ':Nat) {t42:Int}  {H:zp} (hm:μ'<μ) (hI:Inv μ' t42 H):z1b (f26z_I2 b1 b2 vc pd xc ae ue de Inv) μ Q .normal (f26z_P2 b1 b2 vc pd xc ae ue de t42) H:=⟨μ',hm,t42,rfl,hI⟩
theorem f26z_x2_2  (H:zp) (K:KT)  {I:Nat→List Value→zp→Prop} {μ:Nat}:z1b I μ (z1a 2 (retK Tryz.prog Tryz.f116 K)) (.exit 2) (ud59 []) H=
 (K (.tuple #[]) H):=by kernel_rfl
theorem zu6:∀g,FnOk Tryz.prog g (z6f g):=FnOk.envOf (by
 intro x hx
 simp only [List.mem_cons,List.not_mem_nil,or_false] at hx
 rcases hx with rfl | rfl | rfl
 ·exact f1z_ok
 ·exact z1cm
 ·exact f0z_ok)
theorem f26z_main (vc:OA) (xc pd:Nat) (ae:OA) (de ue:Nat) (i:Int) (w:Nat) (back:Bool) (H:zp) (K:KT) (h:zol vc xc pd ae de ue i w back H fun  (H':zp)=>K (.tuple #[]) H'):zw Tryz.prog z6f Tryz.f116 [.slice vc xc pd,.slice ae de ue,.int .i64 i,.float .f32 w,.bool back] H K:=by
 rw [f26z_vc]
 obtain ⟨lo,lob,yc,yd,i_evens,i_odds,sp_m,bd_112,bd_113,pr0,pr1,pr2,hk⟩:=h
 have hk:(∀H':zp,z3b vc ae H H'→OwnS fF H' lo vc xc pd ((zen yc yd i w back).1)→OwnS fF H' lob ae de ue ((zen yc yd i w back).2)→(fun  (H':zp)=>K (.tuple #[]) H')  H'):=by rw [f26z_val yc yd i w back];exact hk
 obtain rfl:=i_evens.len
 obtain rfl:=i_odds.len
 have up_p:=i_evens.up
 have lo_p:=i_evens.lo
 have up_q:=i_odds.up
 have lo_q:=i_odds.lo
 have e:(zen yc yd i w back)=_:=rfl
 have e:=e.trans (zlf yc yd i w back)
 have g0:=z3b.refl vc ae H
 refine Al.intro (fun b_1 H_1 hb_2 hl_3 g_4 o_5=>?_)
 have l_7:=g_4.1
 have g_8:=g0.trans g_4
 have l_9:=g_8.1
 have r_10:=i_evens.grow g_4
 have r_11:=i_odds.grow g_4
 have w111:=o_5.lt
 refine Al.intro (fun b_12 H_2 hb_13 hl_14 g15 o16=>?_)
 have l_18:=g15.1
 have g_19:=g_8.trans g15
 have l_20:=g_19.1
 have o21:=o_5.grow g15
 have w22:=o21.lt
 have r_23:=r_10.grow g15
 have r_24:=r_11.grow g15
 have w110:=o16.lt
 refine ⟨ω23,?_⟩
 have z25:=za0 i 2
 have z26:=zcb i 2
 refine Br.intro (fun c_27=>?_) (fun c_27=>?_)
 ·have e:=e.trans (zv c_27)
  have c_27':=za1 c_27
  refine f26z_L1 _ _ _ _ _ _ _ _ (fun (μ:Nat) (t23:Int) (H_3:zp)=>∃y1_1:LN,Own H_3 b_1 ([.float .f32 w])∧Own H_3 b_12 ([.bool back])∧OwnS fF H_3 lo vc yc.length pd yc∧OwnS fF H_3 lob ae yd.length ue y1_1∧y1_1.length=(yd).length∧(b_12≠b_1)∧H.length≤H_3.length∧H.length≤H_3.length∧z3b vc ae H H_3∧(0:Int)≤t23∧t23≤(yd.length:Int)∧(yd.length:Int)-t23≤(μ:Int)∧zen yc yd i w back=z7o yc yd i w back (μ+1) t23 y1_1) (Int.toNat ((yd.length:Int)-(0:Int))) _ H_2 ?_ ?_
  ·exact ⟨_,o21,o16,r_23,r_24,ω18,ω2,ω2,ω2,g_19,ω7,ω7,ω2,e⟩
  ·intro μ t23  H_3 hI
   obtain ⟨y1_1,o28,o29,r_30,r_31,y32,n33,n34,n35,g36,v_37,v_38,hμ,e⟩:=hI
   rw [f26z_r1]
   have e:=e.trans (zeo yc yd i w back μ t23 y1_1)
   have w39:=o28.lt
   have w40:=o29.lt
   have l41:=g36.1
   refine Br.intro (fun c_42=>?_) (fun c_42=>?_)
   ·have e:=e.trans (zv c_42)
    have c_42':=odt c_42
    refine z1b3 ⟨_,r_30.isL,ω0,ω9,ω9,?_⟩
    obtain ⟨b43,f_44,q45⟩:=(r_31.isL).pos ω0
    refine ⟨by omega,by omega,b43,f_44,q45,?_⟩
    unfold zg0
    refine ⟨w,(o28.rdC _).trans rfl,?_⟩
    refine ⟨back,(o29.rdC _).trans rfl,?_⟩
    refine Br.intro (fun c_46=>?_) (fun c_46=>?_)
    ·have e:=e.trans (zv c_46)
     refine ⟨((y1_1).getD (t23:Int).toNat 0),(r_31.isL).rd (Grow.refl _) q45 ω2 _,?_⟩
     refine Lt.setS r_31 q45 ω6 (fun H_4 hl_47 o49 k48=>?_)
     have l50:=k48.1
     have g51:=g36.transB k48
     have l52:=g51.1
     have o53:=o28.keepA (fun x hx=>by have:=lo_q x hx;have:=up_q x hx;omega) k48
     have w54:=o53.lt
     have o55:=o29.keepA (fun x hx=>by have:=lo_q x hx;have:=up_q x hx;omega) k48
     have w56:=o55.lt
     have r57:=r_30.keepA (sp_m).symm k48
     rw [show IntKind.wrap .i64 (t23+1)=(t23+1) from zt ω2 ω2]
     refine f26z_n1 (μ-1) ω15 ⟨_,o53,o55,r57,o49,ω21,ω2,ω2,ω2,ω2,ω1,ω1,ω15,ω13⟩
    ·have e:=e.trans (zu c_46)
     refine ⟨((y1_1).getD (t23:Int).toNat 0),(r_31.isL).rd (Grow.refl _) q45 ω2 _,?_⟩
     refine Lt.setS r_31 q45 ω6 (fun H_5 hl_58 o60 k59=>?_)
     have l61:=k59.1
     have g62:=g36.transB k59
     have l63:=g62.1
     have o64:=o28.keepA (fun x hx=>by have:=lo_q x hx;have:=up_q x hx;omega) k59
     have w65:=o64.lt
     have o66:=o29.keepA (fun x hx=>by have:=lo_q x hx;have:=up_q x hx;omega) k59
     have w67:=o66.lt
     have r68:=r_30.keepA (sp_m).symm k59
     rw [show IntKind.wrap .i64 (t23+1)=(t23+1) from zt ω2 ω2]
     refine f26z_n1 (μ-1) ω15 ⟨_,o64,o66,r68,o60,ω21,ω2,ω2,ω2,ω2,ω1,ω1,ω15,ω13⟩
   ·have e:=e.trans (zu c_42)
    have c_42':=odf c_42
    rw [f26z_x1_0]
    rw [e] at hk
    exact hk H_3 g36 r_30 r_31
 ·have e:=e.trans (zu c_27)
  have c_27':=z8s c_27
  refine f26z_L2 _ _ _ _ _ _ _ _ (fun (μ:Nat) (t42:Int) (H_6:zp)=>∃y2_1:LN,Own H_6 b_1 ([.float .f32 w])∧Own H_6 b_12 ([.bool back])∧OwnS fF H_6 lo vc yc.length pd y2_1∧y2_1.length=(yc).length∧OwnS fF H_6 lob ae yd.length ue yd∧(b_12≠b_1)∧H.length≤H_6.length∧H.length≤H_6.length∧z3b vc ae H H_6∧(0:Int)≤t42∧t42≤(yc.length:Int)∧(yc.length:Int)-t42≤(μ:Int)∧zen yc yd i w back=z7p yc yd i w back (μ+1) t42 y2_1) (Int.toNat ((yc.length:Int)-(0:Int))) _ H_2 ?_ ?_
  ·exact ⟨_,o21,o16,r_23,ω18,r_24,ω2,ω2,ω2,g_19,ω7,ω7,ω2,e⟩
  ·intro μ t42  H_6 hI
   obtain ⟨y2_1,o69,o70,r71,y72,r73,n74,n75,n76,g77,v_78,v_79,hμ,e⟩:=hI
   rw [f26z_r2]
   have e:=e.trans (zep yc yd i w back μ t42 y2_1)
   have w80:=o69.lt
   have w81:=o70.lt
   have l82:=g77.1
   refine Br.intro (fun c83=>?_) (fun c83=>?_)
   ·have e:=e.trans (zv c83)
    have c_83':=odt c83
    refine z1b2 ⟨_,r73.isL,ω0,ω9,ω9,ω9,?_⟩
    obtain ⟨b84,f_85,q86⟩:=(r71.isL).pos ω0
    refine ⟨by omega,by omega,b84,f_85,q86,?_⟩
    unfold zg0
    refine ⟨w,(o69.rdC _).trans rfl,?_⟩
    refine ⟨back,(o70.rdC _).trans rfl,?_⟩
    refine Br.intro (fun c87=>?_) (fun c87=>?_)
    ·have e:=e.trans (zv c87)
     refine ⟨((y2_1).getD (t42:Int).toNat 0),(r71.isL).rd (Grow.refl _) q86 ω2 _,?_⟩
     refine Lt.setS r71 q86 ω6 (fun H_7 hl_88 o90 k89=>?_)
     have l91:=k89.1
     have g92:=g77.transA k89
     have l93:=g92.1
     have o94:=o69.keepA (fun x hx=>by have:=lo_p x hx;have:=up_p x hx;omega) k89
     have w95:=o94.lt
     have o96:=o70.keepA (fun x hx=>by have:=lo_p x hx;have:=up_p x hx;omega) k89
     have w97:=o96.lt
     have r98:=r73.keepA (sp_m) k89
     rw [show IntKind.wrap .i64 (t42+1)=(t42+1) from zt ω2 ω2]
     refine f26z_n2 (μ-1) ω15 ⟨_,o94,o96,o90,ω21,r98,ω2,ω2,ω2,ω2,ω1,ω1,ω15,ω13⟩
    ·have e:=e.trans (zu c87)
     refine ⟨((y2_1).getD (t42:Int).toNat 0),(r71.isL).rd (Grow.refl _) q86 ω2 _,?_⟩
     refine Lt.setS r71 q86 ω6 (fun H_8 hl_99 o101 k100=>?_)
     have l102:=k100.1
     have g103:=g77.transA k100
     have l104:=g103.1
     have o105:=o69.keepA (fun x hx=>by have:=lo_p x hx;have:=up_p x hx;omega) k100
     have w106:=o105.lt
     have o107:=o70.keepA (fun x hx=>by have:=lo_p x hx;have:=up_p x hx;omega) k100
     have w108:=o107.lt
     have r109:=r73.keepA (sp_m) k100
     rw [show IntKind.wrap .i64 (t42+1)=(t42+1) from zt ω2 ω2]
     refine f26z_n2 (μ-1) ω15 ⟨_,o105,o107,o101,ω21,r109,ω2,ω2,ω2,ω2,ω1,ω1,ω15,ω13⟩
   ·have e:=e.trans (zu c83)
    have c_83':=odf c83
    rw [f26z_x2_2]
    rw [e] at hk
    exact hk H_6 g77 r71 r73
theorem f26z_ok:FnOk Tryz.prog 116 z18y:=FnOk.bodyF mix_ok zu6 Tryz.func116 rfl ω10 ω10 fun args H=>by
 unfold z17s
 split
 ·refine ⟨?_,?_,?_,?_,fun K hk=>f26z_main _ _ _ _ _ _ _ _ _ H K hk⟩
  ·intro K K' h hk;obtain ⟨lo,lob,yc,yd,i_evens,i_odds,sp_m,bd_112,bd_113,pr0,pr1,pr2,k⟩:=hk;exact ⟨lo,lob,yc,yd,i_evens,i_odds,sp_m,bd_112,bd_113,pr0,pr1,pr2,(fun H' gg ow ow2=>h _ _ (k H' gg ow ow2))⟩
  ·nofun
  ·intro K hk;obtain ⟨lo,lob,yc,yd,i_evens,i_odds,sp_m,bd_112,bd_113,pr0,pr1,pr2,k⟩:=hk;exact (i_evens.put2 i_odds sp_m _ _ (by rw [z9r]) (by rw [z8m])).elim fun H1 h=>⟨_,_,k H1 h.1 h.2.1 h.2.2⟩
  ·nofun
 ·exact Nice.no

def z6m (fa:LN) (za:Nat) (ab:LN) (t34:Int) (y1_1 y1_2:LN) (t47:Int) (y2_1 y2_2:LN) (k3_4:Int→LN→(LN×LN×Bool)):Nat→Int→LN→LN×LN×Bool
 | 0,_,_=>([],[],false)
 | μ3+1,t61,y3_1=>(bif decide ((t61:Int)<(((ods ab)).length:Int)) then (z6m fa za ab t34 y1_1 y1_2 t47 y2_1 y2_2 k3_4 μ3 (t61+1) (((y3_1).set (t61:Int).toNat ((fdiv .f32 (((y3_1).getD (t61:Int).toNat 0)) za))))) else (k3_4 t61 y3_1))
def zed:=fun fa za ab t34 y1_1 y1_2 t47 y2_1 y2_2 k3_4 μ3 t61 y3_1=>@z6m.eq_2 fa za ab t34 y1_1 y1_2 t47 y2_1 y2_2 k3_4 t61 y3_1 μ3
def z9d (fa:LN) (za:Nat) (ab:LN) (t34:Int) (y1_1 y1_2:LN) (k2_2:Int→LN→LN→(LN×LN×Bool)):Nat→Int→LN→LN→LN×LN×Bool
 | 0,_,_,_=>([],[],false)
 | μ2+1,t47,y2_1,y2_2=>(bif decide ((t47:Int)<(((evs ab)).length:Int)) then (z9d fa za ab t34 y1_1 y1_2 k2_2 μ2 (t47+1) (((y2_1).set (t47:Int).toNat ((fmul .f32 (((y2_1).getD (t47:Int).toNat 0)) za)))) y2_2) else (k2_2 t47 y2_1 y2_2))
def zec:=fun fa za ab t34 y1_1 y1_2 k2_2 μ2 t47 y2_1 y2_2=>@z9d.eq_2 fa za ab t34 y1_1 y1_2 k2_2 t47 y2_1 y2_2 μ2
def z5k (fa:LN) (za:Nat) (ab:LN):Nat→Int→LN→LN→LN×LN×Bool
 | 0,_,_,_=>([],[],false)
 | μ+1,t34,y1_1,y1_2=>(bif decide ((t34:Int)<(fa.length:Int)) then (z5k fa za ab μ (t34+1) ((zcc t34 (((fa).getD (t34:Int).toNat 0)) false y1_1 y1_2)) ((z7u t34 (((fa).getD (t34:Int).toNat 0)) false y1_1 y1_2))) else (z9d fa za ab t34 y1_1 y1_2 (fun (t47:Int) (y2_1:LN) (y2_2:LN)=>(z6m fa za ab t34 y1_1 y1_2 t47 y2_1 y2_2 (fun (t61:Int) (y3_1:LN)=>(bif !((z7h ([y2_1,y3_1]))) then ([],[],false) else (y2_1,y3_1,true))) (Int.toNat ((((ods ab)).length:Int)-(0:Int))+1) (0:Int) y2_2)) (Int.toNat ((((evs ab)).length:Int)-(0:Int))+1) (0:Int) y1_1 y1_2))
def z8d:=fun fa za ab μ t34 y1_1 y1_2=>@z5k.eq_2 fa za ab t34 y1_1 y1_2 μ
def z1t (fa:LN) (za:Nat) (ab:LN):LN×LN×Bool:=((bif !(z6r fa za) then ([],[],false) else (bif !(zaa ab) then ([],[],false) else (bif ((((ods ab)).length:Int):Int)==0 then ((evs ab),(ods ab),true) else (z5k fa za ab (Int.toNat ((fa.length:Int)-(0:Int))+1) (0:Int) (evs ab) (ods ab))))))
def zkz:=@z1t.eq_1
def znw (eb:OA) (lb mb za:Nat) (zb:OA) (vb jc:Nat) (H:zp) (K:OA→Nat→Nat→OA→Nat→Nat→Bool→zp→Prop):Prop:=∃(fa ab:LN),IsL fF H eb lb fa∧IsL fF H zb vb ab∧fa.length<1073741824∧ab.length<1073741824∧((∀(od:OA) (xd vd:Nat),∀(nh:OA) (wh vh:Nat),∀H':zp,Grow H H'→OwnS fF H' H.length od xd vd ((z1t fa za ab).1)→OwnS fF H' H.length nh wh vh ((z1t fa za ab).2.1)→SepA od nh→K od xd vd nh wh vh ((z1t fa za ab).2.2) H'))
theorem z10m {eb:OA} {lb mb za:Nat} {zb:OA} {vb jc:Nat} {H:zp} {K:OA→Nat→Nat→OA→Nat→Nat→Bool→zp→Prop} (h:∃(fa ab:LN),IsL fF H eb lb fa∧IsL fF H zb vb ab∧fa.length<1073741824∧ab.length<1073741824∧((∀(od:OA) (xd vd:Nat),∀(nh:OA) (wh vh:Nat),∀H':zp,Grow H H'→OwnS fF H' H.length od xd vd ((z1t fa za ab).1)→OwnS fF H' H.length nh wh vh ((z1t fa za ab).2.1)→SepA od nh→K od xd vd nh wh vh ((z1t fa za ab).2.2) H'))):znw eb lb mb za zb vb jc H K:=h
def wfI:LN→Int→LN→LN→LN×LN
 | [],_,lo,hi=>(lo,hi)
 | w::ws,k,lo,hi=>wfI ws (k+1) (zcc k w false lo hi) (z7u k w false lo hi)
theorem zcd:∀(ws:LN) (k:Int) (lo hi:LN),(wfI ws k lo hi).1.length=lo.length∧(wfI ws k lo hi).2.length=hi.length:=by
 intro ws
 induction ws with
 | nil=>intro k lo hi;exact ⟨rfl,rfl⟩
 | cons w ws ih=>
  intro k lo hi
  obtain ⟨h1,h2⟩:=ih (k+1) (zcc k w false lo hi) (z7u k w false lo hi)
  exact ⟨h1.trans (z9r _ _ _ _ _),h2.trans (z8m _ _ _ _ _)⟩
theorem zqp (ws:LN) (sc:Nat) (l:LN) (K2:Int→LN→LN→LN×LN×Bool)
  (hK:∀(k:Int) (y1 y2:LN),z5k ws sc l 1 k y1 y2=bif decide (k<(ws.length:Int)) then z5k ws sc l 0 (k+1) (zcc k (ws.getD k.toNat 0) false y1 y2) (z7u k (ws.getD k.toNat 0) false y1 y2) else K2 k y1 y2):∀(μ k:Nat) (y1 y2:LN),k≤ws.length→ws.length-k<μ→
  z5k ws sc l μ (k:Int) y1 y2=K2 (ws.length:Int) (wfI (ws.drop k) (k:Int) y1 y2).1 (wfI (ws.drop k) (k:Int) y1 y2).2:=by
 intro μ
 induction μ with
 | zero=>intro k y1 y2 _ h;omega
 | succ μ ih=>
  intro k y1 y2 hk hm
  by_cases h:k<ws.length
  ·rw [z8d]
   rw [dct (show (k:Int)<(ws.length:Int) by omega),cond_true,Int.toNat_natCast]
   have:=ih (k+1) (zcc k (ws.getD k 0) false y1 y2) (z7u k (ws.getD k 0) false y1 y2) ω2 ω2
   have e:ws.getD k 0=ws[k]:=by simp [List.getD_eq_getElem?_getD,h]
   rw [List.drop_eq_getElem_cons h,wfI]
   rw [e] at this ⊢
   exact this
  ·have e:k=ws.length:=by omega
   have h1:=hK (k:Int) y1 y2
   rw [z8d] at h1 ⊢
   rw [dcf (show ¬(k:Int)<(ws.length:Int) by omega),cond_false,cond_false] at h1
   rw [dcf (show ¬(k:Int)<(ws.length:Int) by omega),cond_false,e,List.drop_length,wfI,←e]
   exact h1
theorem zg8 (W ys:LN) (i:Nat) (hi:i<ys.length) (hl:W.length=ys.length):(W.take i++ys.drop i).getD i 0=ys.getD i 0:=by
 rw [List.getD_eq_getElem?_getD,List.getD_eq_getElem?_getD,List.getElem?_append_right (by simp;omega)]
 have:(W.take i).length=i:=by simp;omega
 rw [this,Nat.sub_self,List.getElem?_drop,Nat.add_zero]
theorem zqq (ws:LN) (sc:Nat) (l:LN) (i:Int) (a b:LN) (K3:Int→LN→LN→LN×LN×Bool) (A:LN) (hA:A.length=(evs l).length) (y2:LN):∀(μ j:Nat),j≤(evs l).length→(evs l).length-j<μ→
  z9d ws sc l i a b K3 μ (j:Int) ((A.map fun x=>fmul .f32 x sc).take j++A.drop j) y2=K3 ((evs l).length:Int) (A.map fun x=>fmul .f32 x sc) y2:=by
 intro μ
 induction μ with
 | zero=>intro k _ h;omega
 | succ μ ih=>
  intro j hj hm
  rw [zec]
  by_cases h:j<(evs l).length
  ·rw [dct (show (j:Int)<((evs l).length:Int) by omega),cond_true,Int.toNat_natCast,zg8 _ _ _ ω2 (by simp)]
   have:=ih (j+1) ω2 ω2
   rw [z3o (A.map fun x=>fmul .f32 x sc) A j ω2 (by simp) _ (by simp [List.getD_eq_getElem?_getD,show j<A.length by omega])]
   exact this
  ·have e:j=(evs l).length:=by omega
   rw [dcf (show ¬(j:Int)<((evs l).length:Int) by omega),cond_false,e,List.take_of_length_le (by simp [hA]),List.drop_of_length_le ω2,List.append_nil]
theorem zqr (ws:LN) (sc:Nat) (l:LN) (i:Int) (a b:LN) (k:Int) (c d:LN) (K4:Int→LN→LN×LN×Bool) (A:LN) (hA:A.length=(ods l).length):∀(μ j:Nat),j≤(ods l).length→(ods l).length-j<μ→
  z6m ws sc l i a b k c d K4 μ (j:Int) ((A.map fun x=>fdiv .f32 x sc).take j++A.drop j)=K4 ((ods l).length:Int) (A.map fun x=>fdiv .f32 x sc):=by
 intro μ
 induction μ with
 | zero=>intro k _ h;omega
 | succ μ ih=>
  intro j hj hm
  rw [zed]
  by_cases h:j<(ods l).length
  ·rw [dct (show (j:Int)<((ods l).length:Int) by omega),cond_true,Int.toNat_natCast,zg8 _ _ _ ω2 (by simp)]
   have:=ih (j+1) ω2 ω2
   rw [z3o (A.map fun x=>fdiv .f32 x sc) A j ω2 (by simp) _ (by simp [List.getD_eq_getElem?_getD,show j<A.length by omega])]
   exact this
  ·have e:j=(ods l).length:=by omega
   rw [dcf (show ¬(j:Int)<((ods l).length:Int) by omega),cond_false,e,List.take_of_length_le (by simp [hA]),List.drop_of_length_le ω2,List.append_nil]
def z8n (ws:LN) (sc:Nat) (l:LN):LN:=(wfI ws 0 (evs l) (ods l)).1.map fun x=>fmul .f32 x sc
def z8o (ws:LN) (sc:Nat) (l:LN):LN:=(wfI ws 0 (evs l) (ods l)).2.map fun x=>fdiv .f32 x sc
theorem zaf (ws:LN) (sc:Nat) (l:LN):z1t ws sc l=(bif !(z6r ws sc) then ([],[],false) else (bif !(zaa l) then ([],[],false) else (bif ((((ods l)).length:Int):Int)==0 then ((evs l),(ods l),true) else
  (bif !((z7h ([z8n ws sc l,z8o ws sc l]))) then ([],[],false) else (z8n ws sc l,z8o ws sc l,true))))):=by
 rw [zkz]
 have h1:=zqp ws sc l _ (fun k y1 y2=>z8d ws sc l 0 k y1 y2) (Int.toNat ((ws.length:Int)-(0:Int))+1) 0 (evs l) (ods l) ω2 ω2
 obtain ⟨l1,l2⟩:=zcd ws 0 (evs l) (ods l)
 rw [List.drop_zero] at h1
 have h2:=fun i a b K3 y2=>zqq ws sc l i a b K3 (wfI ws ((0:Nat):Int) (evs l) (ods l)).1 l1 y2 (Int.toNat ((((evs l)).length:Int)-(0:Int))+1) 0 ω2 ω2
 simp only [List.take_zero,List.drop_zero,List.nil_append] at h2
 have h3:=fun i a b k c d K4=>zqr ws sc l i a b k c d K4 (wfI ws ((0:Nat):Int) (evs l) (ods l)).2 l2 (Int.toNat ((((ods l)).length:Int)-(0:Int))+1) 0 ω2 ω2
 simp only [List.take_zero,List.drop_zero,List.nil_append] at h3
 have e:z5k ws sc l (Int.toNat ((ws.length:Int)-(0:Int))+1) (0:Int) (evs l) (ods l)=(bif !((z7h ([z8n ws sc l,z8o ws sc l]))) then ([],[],false) else (z8n ws sc l,z8o ws sc l,true)):=by
  refine Eq.trans h1 ?_
  refine Eq.trans (h2 _ _ _ _ _) ?_
  exact h3 _ _ _ _ _ _ _
 rw [e]
theorem zdy (ws:LN) (sc:Nat) (l:LN):(z1t ws sc l).1.length≤l.length∧(z1t ws sc l).2.1.length≤l.length∧((z1t ws sc l).1.length=0→(z1t ws sc l).2.1.length=0):=by
 rw [zaf]
 obtain ⟨h1,h2⟩:=zcd ws 0 (evs l) (ods l)
 have h3:(z8n ws sc l).length=(l.length+1) / 2:=by unfold z8n;simp [h1,z4u]
 have h4:(z8o ws sc l).length=l.length / 2:=by unfold z8o;simp [h2,z4y]
 have h5:=z4u l
 have h6:=z4y l
 cases !(z6r ws sc)<;>cases !(zaa l)<;>cases (((((ods l)).length:Int):Int)==0)<;>cases !((z7h ([z8n ws sc l,z8o ws sc l])))<;>refine ⟨?_,?_,fun h=>?_⟩<;>simp only [cond_true,cond_false,List.length_nil] at *<;>omega
theorem zqs (ws:LN) (sc:Nat) (l:LN) (h:(z1t ws sc l).2.2=true):(z1t ws sc l).1.length=(l.length+1) / 2∧(z1t ws sc l).2.1.length=l.length / 2:=by
 rw [zaf] at h ⊢
 obtain ⟨h1,h2⟩:=zcd ws 0 (evs l) (ods l)
 have h3:(z8n ws sc l).length=(l.length+1) / 2:=by unfold z8n;simp [h1,z4u]
 have h4:(z8o ws sc l).length=l.length / 2:=by unfold z8o;simp [h2,z4y]
 have h5:=z4u l
 have h6:=z4y l
 revert h
 cases !(z6r ws sc)<;>cases !(zaa l)<;>cases (((((ods l)).length:Int):Int)==0)<;>cases !((z7h ([z8n ws sc l,z8o ws sc l])))<;>simp only [cond_true,cond_false]<;>intro h<;>first | exact ⟨h3,h4⟩ | exact ⟨h5,h6⟩ | cases h
def z3v:Env:=envOf [(49,S_ffz),(114,z18s),(115,S_f7z),(116,z18y),(104,zul)]
def z16n (args:List Value) (H:zp):(Value→zp→Prop)→Prop:=match args with
 | [.agg ⟨[.slice eb lb mb,.float .f32 za]⟩,.slice zb vb jc]=>fun K=>znw eb lb mb za zb vb jc H fun (od:OA) (xd:Nat) (vd:Nat) (nh:OA) (wh:Nat) (vh:Nat) (r3:Bool) (H':zp)=>K (.tuple #[.slice od xd vd,.slice nh wh vh,.bool r3]) H'
 | _=>fun _=>False
def z18a:FSpec:={F:=z16n,quiet:=false,tame:=true}
theorem f18z_vc (eb:OA) (lb mb za:Nat) (zb:OA) (vb jc:Nat) (H:zp) (K:KT):zw Tryz.prog z3v Tryz.f71 [.agg #[.slice eb lb mb,.float .f32 za],.slice zb vb jc] H K=
 (Al [.slice eb lb mb,.float .f32 za] H fun b1 H1=>∃ni:OA,∃(qi oi c2:Nat),  rdN H1 b1 0 2=some [.slice ni qi oi,.float .f32 c2]∧zq0 ni qi oi c2 H1 fun (r1:Bool) (H2:zp)=>Br (!r1) (K (.tuple #[.slice none 0 0,.slice none 0 0,.bool false]) H2) (zof zb vb jc H2 fun (r2:Bool) (H3:zp)=>Br (!r2) (K (.tuple #[.slice none 0 0,.slice none 0 0,.bool false]) H3) (T_f7z zb vb jc H3 fun (a1:OA) (r3:Nat) (r4:Nat) (a2:OA) (r5:Nat) (r6:Nat) (H4:zp)=>Br (((r5:Int):Int)==0) (K (.tuple #[.slice a1 r3 r4,.slice a2 r5 r6,.bool true]) H4) (∃og:OA,∃(eg qg:Nat),  rdC H4 b1 0=some (.slice og eg qg)∧z1n (exL Tryz.prog z3v (cl (cl (cr (cl (cr (cr (cr (cr (zq Tryz.f71))))))))) 30064771460 112 [(0,388)]) (ud2 (.pointer (some ⟨b1,0,none⟩)::ud4 (.slice a1 r3 r4::.slice a2 r5 r6::ud23 (.slice og eg qg::.int .i64 (eg:Int)::.int .i64 0::ud45 [])))) H4 (z1a 0 (seqQ (exL Tryz.prog z3v (cr (cr (cr (cr (cr (zq Tryz.f71)))))) 112 112 []) (retK Tryz.prog Tryz.f71 K))))))):=by kernel_rfl
abbrev f18z_P1 (a1 a2:OA) (b1 r3 r4 r5 r6:Nat) (og:OA) (qg eg:Nat) (t34:Int)  :List Value:=(ud2 (.pointer (some ⟨b1,0,none⟩)::ud4 (.slice a1 r3 r4::.slice a2 r5 r6::ud23 (.slice og eg qg::.int .i64 (eg:Int)::.int .i64 t34::ud45 []))))
theorem f18z_r1 (a1 a2:OA) (b1 r3 r4 r5 r6:Nat) (og:OA) (qg eg:Nat) (t34:Int)  (H:zp) (R:Post):exL Tryz.prog z3v (cl (cl (cr (cl (cr (cr (cr (cr (zq Tryz.f71))))))))) 30064771460 112 [(0,388)] (f18z_P1 a1 a2 b1 r3 r4 r5 r6 og qg eg t34) H R=
 (Br (decide ((t34:Int)<(eg:Int))) ((0:Int)≤t34∧t34<(eg:Int)∧∃b2 f1,(og:OA)=some ⟨b2,f1,none⟩∧∃x2:Nat,  rdC H b2 (f1+(t34:Int).toNat*1)=some (.float .f32 x2)∧zol a1 r3 r4 a2 r5 r6 t34 x2 false H fun  (H5:zp)=>R .normal (ud2 (.pointer (some ⟨b1,0,none⟩)::ud4 (.slice a1 r3 r4::.slice a2 r5 r6::ud23 (.slice og eg qg::.int .i64 (eg:Int)::.int .i64 (IntKind.wrap .i64 (t34+1))::ud45 [])))) H5) (R (.exit 0) (ud2 (.pointer (some ⟨b1,0,none⟩)::ud4 (.slice a1 r3 r4::.slice a2 r5 r6::ud71 []))) H)):=by kernel_rfl
def f18z_I1 (a1 a2:OA) (b1 r3 r4 r5 r6:Nat) (og:OA) (qg eg:Nat) (Inv:Nat→Int→zp→Prop):Nat→List Value→zp→Prop:=fun μ tm H=>∃t34:Int,tm=(f18z_P1 a1 a2 b1 r3 r4 r5 r6 og qg eg t34)∧Inv μ t34 H
theorem f18z_L1 (a1 a2:OA) (b1 r3 r4 r5 r6:Nat) (og:OA) (qg eg:Nat) {Q:Post} (Inv:Nat→Int→zp→Prop) (ν:Nat) (t34:Int)  (H:zp) (h0:Inv ν t34 H)
  (hs:∀(μ:Nat) (t34:Int)  (H:zp),Inv μ t34 H→exL Tryz.prog z3v (cl (cl (cr (cl (cr (cr (cr (cr (zq Tryz.f71))))))))) 30064771460 112 [(0,388)] (f18z_P1 a1 a2 b1 r3 r4 r5 r6 og qg eg t34) H (z1b (f18z_I1 a1 a2 b1 r3 r4 r5 r6 og qg eg Inv) μ Q)):z1n (exL Tryz.prog z3v (cl (cl (cr (cl (cr (cr (cr (cr (zq Tryz.f71))))))))) 30064771460 112 [(0,388)]) (f18z_P1 a1 a2 b1 r3 r4 r5 r6 og qg eg t34) H Q:=
 ⟨f18z_I1 a1 a2 b1 r3 r4 r5 r6 og qg eg Inv,ν,⟨t34,rfl,h0⟩,fun μ tm H h=>by obtain ⟨t34,rfl,hI⟩:=h;exact hs μ t34  H hI⟩
theorem f18z_n1 {a1 a2:OA} {b1 r3 r4 r5 r6:Nat} {og:OA} {qg eg:Nat} {Q:Post} {Inv:Nat→Int→zp→Prop} {μ:Nat} (μ':Nat) {t34:Int}  {H:zp} (hm:μ'<μ) (hI:Inv μ' t34 H):z1b (f18z_I1 a1 a2 b1 r3 r4 r5 r6 og qg eg Inv) μ Q .normal (f18z_P1 a1 a2 b1 r3 r4 r5 r6 og qg eg t34) H:=⟨μ',hm,t34,rfl,hI⟩
theorem f18z_x1_0 (a1 a2:OA) (b1 r3 r4 r5 r6:Nat) (H:zp) (K:KT)  {I:Nat→List Value→zp→Prop} {μ:Nat}:z1b I μ (z1a 0 (seqQ (exL Tryz.prog z3v (cr (cr (cr (cr (cr (zq Tryz.f71)))))) 112 112 []) (retK Tryz.prog Tryz.f71 K))) (.exit 0) (ud2 (.pointer (some ⟨b1,0,none⟩)::ud4 (.slice a1 r3 r4::.slice a2 r5 r6::ud71 []))) H=
 (z1n (exL Tryz.prog z3v (cl (cl (cr (cl (cr (cr (cr (cr (cr (zq Tryz.f71)))))))))) 211106232533380 112 [(2,388)]) (ud2 (.pointer (some ⟨b1,0,none⟩)::ud4 (.slice a1 r3 r4::.slice a2 r5 r6::ud37 (.int .i64 (r3:Int)::.int .i64 0::ud32 [])))) H (z1a 2 (seqQ (exL Tryz.prog z3v (cr (cr (cr (cr (cr (cr (zq Tryz.f71))))))) 112 112 []) (retK Tryz.prog Tryz.f71 K)))):=by kernel_rfl
abbrev f18z_P2 (a1 a2:OA) (b1 r3 r4 r5 r6:Nat) (t47:Int)  :List Value:=(ud2 (.pointer (some ⟨b1,0,none⟩)::ud4 (.slice a1 r3 r4::.slice a2 r5 r6::ud37 (.int .i64 (r3:Int)::.int .i64 t47::ud32 []))))
theorem f18z_r2 (a1 a2:OA) (b1 r3 r4 r5 r6:Nat) (t47:Int)  (H:zp) (R:Post):exL Tryz.prog z3v (cl (cl (cr (cl (cr (cr (cr (cr (cr (zq Tryz.f71)))))))))) 211106232533380 112 [(2,388)] (f18z_P2 a1 a2 b1 r3 r4 r5 r6 t47) H R=
 (Br (decide ((t47:Int)<(r3:Int))) ((0:Int)≤t47∧t47<(r3:Int)∧∃b3 f2,(a1:OA)=some ⟨b3,f2,none⟩∧∃x3:Nat,  rdC H b3 (f2+(t47:Int).toNat*1)=some (.float .f32 x3)∧∃x4:Nat,  rdC H b1 1=some (.float .f32 x4)∧(0:Int)≤t47∧t47<(r3:Int)∧∃b4 f3,(a1:OA)=some ⟨b4,f3,none⟩∧isOwn H b4∧(∃l,rdN H b4 (f3+(t47:Int).toNat*1) 1=some l)∧Lt (setC H b4 (f3+(t47:Int).toNat*1) (.float .f32 (fmul .f32 x3 x4))) fun H6=>R .normal (ud2 (.pointer (some ⟨b1,0,none⟩)::ud4 (.slice a1 r3 r4::.slice a2 r5 r6::ud37 (.int .i64 (r3:Int)::.int .i64 (IntKind.wrap .i64 (t47+1))::ud32 [])))) H6) (R (.exit 2) (ud2 (.pointer (some ⟨b1,0,none⟩)::ud4 (.slice a1 r3 r4::.slice a2 r5 r6::ud71 []))) H)):=by kernel_rfl
def f18z_I2 (a1 a2:OA) (b1 r3 r4 r5 r6:Nat) (Inv:Nat→Int→zp→Prop):Nat→List Value→zp→Prop:=fun μ tm H=>∃t47:Int,tm=(f18z_P2 a1 a2 b1 r3 r4 r5 r6 t47)∧Inv μ t47 H
theorem f18z_L2 (a1 a2:OA) (b1 r3 r4 r5 r6:Nat) {Q:Post} (Inv:Nat→Int→zp→Prop) (ν:Nat) (t47:Int)  (H:zp) (h0:Inv ν t47 H)
  (hs:∀(μ:Nat) (t47:Int)  (H:zp),Inv μ t47 H→exL Tryz.prog z3v (cl (cl (cr (cl (cr (cr (cr (cr (cr (zq Tryz.f71)))))))))) 211106232533380 112 [(2,388)] (f18z_P2 a1 a2 b1 r3 r4 r5 r6 t47) H (z1b (f18z_I2 a1 a2 b1 r3 r4 r5 r6 Inv) μ Q)):z1n (exL Tryz.prog z3v (cl (cl (cr (cl (cr (cr (cr (cr (cr (zq Tryz.f71)))))))))) 211106232533380 112 [(2,388)]) (f18z_P2 a1 a2 b1 r3 r4 r5 r6 t47) H Q:=
 ⟨f18z_I2 a1 a2 b1 r3 r4 r5 r6 Inv,ν,⟨t47,rfl,h0⟩,fun μ tm H h=>by obtain ⟨t47,rfl,hI⟩:=h;exact hs μ t47  H hI⟩
theorem f18z_n2 {a1 a2:OA} {b1 r3 r4 r5 r6:Nat} {Q:Post} {Inv:Nat→Int→zp→Prop} {μ:Nat} (μ':Nat) {t47:Int}  {H:zp} (hm:μ'<μ) (hI:Inv μ' t47 H):z1b (f18z_I2 a1 a2 b1 r3 r4 r5 r6 Inv) μ Q .normal (f18z_P2 a1 a2 b1 r3 r4 r5 r6 t47) H:=⟨μ',hm,t47,rfl,hI⟩
theorem f18z_x2_2 (a1 a2:OA) (b1 r3 r4 r5 r6:Nat) (H:zp) (K:KT)  {I:Nat→List Value→zp→Prop} {μ:Nat}:z1b I μ (z1a 2 (seqQ (exL Tryz.prog z3v (cr (cr (cr (cr (cr (cr (zq Tryz.f71))))))) 112 112 []) (retK Tryz.prog Tryz.f71 K))) (.exit 2) (ud2 (.pointer (some ⟨b1,0,none⟩)::ud4 (.slice a1 r3 r4::.slice a2 r5 r6::ud71 []))) H=
 (z1n (exL Tryz.prog z3v (cl (cl (cr (cl (cr (cr (cr (cr (cr (cr (zq Tryz.f71))))))))))) 3458764513820541316 112 [(4,384)]) (ud2 (.pointer (some ⟨b1,0,none⟩)::ud4 (.slice a1 r3 r4::.slice a2 r5 r6::ud51 (.int .i64 (r5:Int)::.int .i64 0::ud18 [])))) H (z1a 4 (seqQ (exL Tryz.prog z3v (cr (cr (cr (cr (cr (cr (cr (zq Tryz.f71)))))))) 112 112 []) (retK Tryz.prog Tryz.f71 K)))):=by kernel_rfl
abbrev f18z_P3 (a1 a2:OA) (b1 r3 r4 r5 r6:Nat) (t61:Int)  :List Value:=(ud2 (.pointer (some ⟨b1,0,none⟩)::ud4 (.slice a1 r3 r4::.slice a2 r5 r6::ud51 (.int .i64 (r5:Int)::.int .i64 t61::ud18 []))))
theorem f18z_r3 (a1 a2:OA) (b1 r3 r4 r5 r6:Nat) (t61:Int)  (H:zp) (R:Post):exL Tryz.prog z3v (cl (cl (cr (cl (cr (cr (cr (cr (cr (cr (zq Tryz.f71))))))))))) 3458764513820541316 112 [(4,384)] (f18z_P3 a1 a2 b1 r3 r4 r5 r6 t61) H R=
 (Br (decide ((t61:Int)<(r5:Int))) ((0:Int)≤t61∧t61<(r5:Int)∧∃b5 f4,(a2:OA)=some ⟨b5,f4,none⟩∧∃x5:Nat,  rdC H b5 (f4+(t61:Int).toNat*1)=some (.float .f32 x5)∧∃x6:Nat,  rdC H b1 1=some (.float .f32 x6)∧(0:Int)≤t61∧t61<(r5:Int)∧∃b6 f5,(a2:OA)=some ⟨b6,f5,none⟩∧isOwn H b6∧(∃l,rdN H b6 (f5+(t61:Int).toNat*1) 1=some l)∧Lt (setC H b6 (f5+(t61:Int).toNat*1) (.float .f32 (fdiv .f32 x5 x6))) fun H7=>R .normal (ud2 (.pointer (some ⟨b1,0,none⟩)::ud4 (.slice a1 r3 r4::.slice a2 r5 r6::ud51 (.int .i64 (r5:Int)::.int .i64 (IntKind.wrap .i64 (t61+1))::ud18 [])))) H7) (R (.exit 4) (ud7 (.slice a1 r3 r4::.slice a2 r5 r6::ud71 [])) H)):=by kernel_rfl
def f18z_I3 (a1 a2:OA) (b1 r3 r4 r5 r6:Nat) (Inv:Nat→Int→zp→Prop):Nat→List Value→zp→Prop:=fun μ tm H=>∃t61:Int,tm=(f18z_P3 a1 a2 b1 r3 r4 r5 r6 t61)∧Inv μ t61 H
theorem f18z_L3 (a1 a2:OA) (b1 r3 r4 r5 r6:Nat) {Q:Post} (Inv:Nat→Int→zp→Prop) (ν:Nat) (t61:Int)  (H:zp) (h0:Inv ν t61 H)
  (hs:∀(μ:Nat) (t61:Int)  (H:zp),Inv μ t61 H→exL Tryz.prog z3v (cl (cl (cr (cl (cr (cr (cr (cr (cr (cr (zq Tryz.f71))))))))))) 3458764513820541316 112 [(4,384)] (f18z_P3 a1 a2 b1 r3 r4 r5 r6 t61) H (z1b (f18z_I3 a1 a2 b1 r3 r4 r5 r6 Inv) μ Q)):z1n (exL Tryz.prog z3v (cl (cl (cr (cl (cr (cr (cr (cr (cr (cr (zq Tryz.f71))))))))))) 3458764513820541316 112 [(4,384)]) (f18z_P3 a1 a2 b1 r3 r4 r5 r6 t61) H Q:=
 ⟨f18z_I3 a1 a2 b1 r3 r4 r5 r6 Inv,ν,⟨t61,rfl,h0⟩,fun μ tm H h=>by obtain ⟨t61,rfl,hI⟩:=h;exact hs μ t61  H hI⟩
theorem f18z_n3 {a1 a2:OA} {b1 r3 r4 r5 r6:Nat} {Q:Post} {Inv:Nat→Int→zp→Prop} {μ:Nat} (μ':Nat) {t61:Int}  {H:zp} (hm:μ'<μ) (hI:Inv μ' t61 H):z1b (f18z_I3 a1 a2 b1 r3 r4 r5 r6 Inv) μ Q .normal (f18z_P3 a1 a2 b1 r3 r4 r5 r6 t61) H:=⟨μ',hm,t61,rfl,hI⟩
theorem f18z_x3_4 (a1 a2:OA) (r3 r4 r5 r6:Nat) (H:zp) (K:KT)  {I:Nat→List Value→zp→Prop} {μ:Nat}:z1b I μ (z1a 4 (seqQ (exL Tryz.prog z3v (cr (cr (cr (cr (cr (cr (cr (zq Tryz.f71)))))))) 112 112 []) (retK Tryz.prog Tryz.f71 K))) (.exit 4) (ud7 (.slice a1 r3 r4::.slice a2 r5 r6::ud71 [])) H=
 (Al [.slice a1 r3 r4,.slice a2 r5 r6] H fun b7 H8=>zm6 (some ⟨b7,0,none⟩) 2 1 H8 fun (r7:Bool) (H9:zp)=>Br (!r7) (K (.tuple #[.slice none 0 0,.slice none 0 0,.bool false]) H9) (K (.tuple #[.slice a1 r3 r4,.slice a2 r5 r6,.bool true]) H9)):=by kernel_rfl
theorem zsr:∀g,FnOk Tryz.prog g (z3v g):=FnOk.envOf (by
 intro x hx
 simp only [List.mem_cons,List.not_mem_nil,or_false] at hx
 rcases hx with rfl | rfl | rfl | rfl | rfl
 ·exact zwu
 ·exact z1di
 ·exact f7z_ok
 ·exact f26z_ok
 ·exact zp0)
theorem ω24 {P:Prop} (h:P:=by first | assumption | omega | (simp only [List.length_set,z9r,z8m];first | rfl | assumption | omega)):P:=h
theorem f18z_main (eb:OA) (lb mb za:Nat) (zb:OA) (vb jc:Nat) (H:zp) (K:KT) (h:znw eb lb mb za zb vb jc H fun (od:OA) (xd:Nat) (vd:Nat) (nh:OA) (wh:Nat) (vh:Nat) (r3:Bool) (H':zp)=>K (.tuple #[.slice od xd vd,.slice nh wh vh,.bool r3]) H'):zw Tryz.prog z3v Tryz.f71 [.agg #[.slice eb lb mb,.float .f32 za],.slice zb vb jc] H K:=by
 rw [f18z_vc]
 obtain ⟨fa,ab,ze,i_list,bd_150,bd_151,hk⟩:=h
 obtain rfl:=ze.eqn
 obtain rfl:=i_list.eqn
 have e:(z1t fa za ab)=_:=rfl
 have e:=e.trans (zkz fa za ab)
 have g0:=Grow.refl H
 refine Al.intro (fun b_1 H_1 hb_2 hl_3 g_4 o_5=>?_)
 have l_7:=g_4.1
 have g_8:=g0.trans g_4
 have l_9:=g_8.1
 have w149:=o_5.lt
 refine ⟨eb,fa.length,mb,za,(o_5.rdN (nbl rfl)).trans rfl,?_⟩
 refine zm5 ⟨_,(ze.grow g_8),ω0,fun  H_2 g_10  =>?_⟩
 have l_11:=g_10.1
 have g_12:=g_8.trans g_10
 have l_13:=g_12.1
 have o_14:=o_5.grow g_10
 have w15:=o_14.lt
 refine Br.intro (fun c_16=>?_) (fun c_16=>?_)
 ·have e:=e.trans (zv c_16)
  have c_16n:=z1g c_16
  rw [e] at hk
  exact hk _ _ _ _ _ _ H_2 g_12 ω17 ω17 (fun x y hx hy=>by cases hx)
 ·have e:=e.trans (zu c_16)
  have c_16n:=z1d c_16
  refine z11a ⟨_,(i_list.grow g_12),ω0,fun  H_3 g_17  =>?_⟩
  have l_18:=g_17.1
  have g_19:=g_12.trans g_17
  have l_20:=g_19.1
  have o21:=o_14.grow g_17
  have w22:=o21.lt
  refine Br.intro (fun c23=>?_) (fun c23=>?_)
  ·have e:=e.trans (zv c23)
   have c_23n:=z1g c23
   rw [e] at hk
   exact hk _ _ _ _ _ _ H_3 g_19 ω17 ω17 (fun x y hx hy=>by cases hx)
  ·have e:=e.trans (zu c23)
   have c_23n:=z1d c23
   refine z1b9 ⟨_,(i_list.grow g_19),ω0,fun a24 n25 e26 a28 n29 e30 H_4 g33 r_27 r_31 p45=>?_⟩
   have z32:=zyq ab
   have l34:=g33.1
   have g35:=g_19.trans g33
   have l36:=g35.1
   have o37:=o21.grow g33
   have w38:=o37.lt
   obtain rfl:=r_27.isL.eqn
   have u39:=r_27.up
   have u40:=r_27.lo
   obtain rfl:=r_31.isL.eqn
   have u42:=r_31.up
   have u43:=r_31.lo
   refine Br.intro (fun c_46=>?_) (fun c_46=>?_)
   ·have e:=e.trans (zv c_46)
    have c_46':=za1 c_46
    rw [e] at hk
    exact hk _ _ _ _ _ _ H_4 g35 (r_27.weak ω2) (r_31.weak ω2) p45
   ·have e:=e.trans (zu c_46)
    have c_46':=z8s c_46
    refine ⟨eb,fa.length,mb,(o37.rdC _).trans rfl,?_⟩
    refine f18z_L1 _ _ _ _ _ _ _ _ _ _ (fun (μ:Nat) (t34:Int) (H_5:zp)=>∃(y1_1 y1_2:LN),Own H_5 b_1 ([.slice eb fa.length mb,.float .f32 za])∧OwnS fF H_5 H_3.length a24 (((evs ab)).length) e26 y1_1∧y1_1.length=((evs ab)).length∧OwnS fF H_5 H_3.length a28 (((ods ab)).length) e30 y1_2∧y1_2.length=((ods ab)).length∧H_4.length≤H_5.length∧H_4.length≤H_5.length∧Grow H H_5∧(0:Int)≤t34∧t34≤(fa.length:Int)∧(fa.length:Int)-t34≤(μ:Int)∧z1t fa za ab=z5k fa za ab (μ+1) t34 y1_1 y1_2) (Int.toNat ((fa.length:Int)-(0:Int))) _ H_4 ?_ ?_
    ·exact ⟨_,_,o37,r_27,ω18,r_31,ω18,ω2,ω2,g35,ω7,ω7,ω2,e⟩
    ·intro μ t34  H_5 hI
     obtain ⟨y1_1,y1_2,o47,r_48,y49,r_50,y51,n52,n53,g54,v_55,v_56,hμ,e⟩:=hI
     rw [f18z_r1]
     have e:=e.trans (z8d fa za ab μ t34 y1_1 y1_2)
     have w57:=o47.lt
     have l58:=g54.1
     refine Br.intro (fun c_59=>?_) (fun c_59=>?_)
     ·have e:=e.trans (zv c_59)
      have c_59':=odt c_59
      obtain ⟨b60,f_61,q62⟩:=((ze.grow g54)).pos ω0
      refine ⟨by omega,by omega,b60,f_61,q62,?_⟩
      refine ⟨((fa).getD (t34:Int).toNat 0),(ze).rd g54 q62 ω2 _,?_⟩
      refine z11h ⟨_,_,_,_,r_48,r_50,p45,ω0,ω0,ω9,ω9,ω9,(fun H_7 k63 o64 o65=>?_)⟩
      obtain ⟨H_6,k66,k67⟩:=k63.split
      have l68:=k66.1
      have g69:=g54.keepA (fun x hx=>by have:=u40 x hx;omega) k66
      have l70:=g69.1
      have o71:=o47.keepA (fun x hx=>by have:=u40 x hx;have:=u39 x hx;omega) k66
      have w72:=o71.lt
      have r73:=r_50.keepA (p45) k66
      have l74:=k67.1
      have g75:=g69.keepA (fun x hx=>by have:=u43 x hx;omega) k67
      have l76:=g75.1
      have o77:=o71.keepA (fun x hx=>by have:=u43 x hx;have:=u42 x hx;omega) k67
      have w78:=o77.lt
      rw [show IntKind.wrap .i64 (t34+1)=(t34+1) from zt ω2 ω2]
      refine f18z_n1 (μ-1) ω15 ⟨_,_,o77,o64,ω24,o65,ω24,ω2,ω2,g75,ω1,ω1,ω15,ω13⟩
     ·have e:=e.trans (zu c_59)
      have c_59':=odf c_59
      rw [f18z_x1_0]
      refine f18z_L2 _ _ _ _ _ _ _ (fun (μ2:Nat) (t47:Int) (H_8:zp)=>∃(y2_1 y2_2:LN),Own H_8 b_1 ([.slice eb fa.length mb,.float .f32 za])∧OwnS fF H_8 H_3.length a24 (((evs ab)).length) e26 y2_1∧y2_1.length=((evs ab)).length∧OwnS fF H_8 H_3.length a28 (((ods ab)).length) e30 y2_2∧y2_2.length=((ods ab)).length∧H_4.length≤H_8.length∧H_4.length≤H_8.length∧Grow H H_8∧(0:Int)≤t47∧t47≤(((evs ab)).length:Int)∧(((evs ab)).length:Int)-t47≤(μ2:Int)∧z1t fa za ab=z9d fa za ab t34 y1_1 y1_2 (fun (t47:Int) (y2_1:LN) (y2_2:LN)=>(z6m fa za ab t34 y1_1 y1_2 t47 y2_1 y2_2 (fun (t61:Int) (y3_1:LN)=>(bif !((z7h ([y2_1,y3_1]))) then ([],[],false) else (y2_1,y3_1,true))) (Int.toNat ((((ods ab)).length:Int)-(0:Int))+1) (0:Int) y2_2)) (μ2+1) t47 y2_1 y2_2) (Int.toNat ((((evs ab)).length:Int)-(0:Int))) _ H_5 ?_ ?_
      ·exact ⟨_,_,o47,r_48,ω18,r_50,ω18,ω2,ω2,g54,ω7,ω7,ω2,e⟩
      ·intro μ2 t47  H_8 hI
       obtain ⟨y2_1,y2_2,o79,r80,y81,r82,y83,n84,n85,g86,v87,v88,hμ,e⟩:=hI
       rw [f18z_r2]
       have e:=e.trans (zec fa za ab t34 y1_1 y1_2 (fun (t47:Int) (y2_1:LN) (y2_2:LN)=>(z6m fa za ab t34 y1_1 y1_2 t47 y2_1 y2_2 (fun (t61:Int) (y3_1:LN)=>(bif !((z7h ([y2_1,y3_1]))) then ([],[],false) else (y2_1,y3_1,true))) (Int.toNat ((((ods ab)).length:Int)-(0:Int))+1) (0:Int) y2_2)) μ2 t47 y2_1 y2_2)
       have w89:=o79.lt
       have l90:=g86.1
       refine Br.intro (fun c91=>?_) (fun c91=>?_)
       ·have e:=e.trans (zv c91)
        have c_91':=odt c91
        obtain ⟨b92,f93,q94⟩:=(r80.isL).pos ω0
        refine ⟨by omega,by omega,b92,f93,q94,?_⟩
        refine ⟨((y2_1).getD (t47:Int).toNat 0),(r80.isL).rd (Grow.refl _) q94 ω2 _,?_⟩
        refine ⟨za,(o79.rdC _).trans rfl,?_⟩
        obtain ⟨b95,f96,q97⟩:=(r80.isL).pos ω0
        refine ⟨by omega,by omega,b95,f96,q97,?_⟩
        refine Lt.setS r80 q97 ω6 (fun H_9 hl_98 o100 k99=>?_)
        have l101:=k99.1
        have g102:=g86.keepA (fun x hx=>by have:=u40 x hx;omega) k99
        have l103:=g102.1
        have o104:=o79.keepA (fun x hx=>by have:=u40 x hx;have:=u39 x hx;omega) k99
        have w105:=o104.lt
        have r106:=r82.keepA (p45) k99
        rw [show IntKind.wrap .i64 (t47+1)=(t47+1) from zt ω2 ω2]
        refine f18z_n2 (μ2-1) ω15 ⟨_,_,o104,o100,ω24,r106,ω24,ω2,ω2,g102,ω1,ω1,ω15,ω28⟩
       ·have e:=e.trans (zu c91)
        have c_91':=odf c91
        rw [f18z_x2_2]
        refine f18z_L3 _ _ _ _ _ _ _ (fun (μ3:Nat) (t61:Int) (H_10:zp)=>∃y3_1:LN,Own H_10 b_1 ([.slice eb fa.length mb,.float .f32 za])∧OwnS fF H_10 H_3.length a24 (((evs ab)).length) e26 y2_1∧OwnS fF H_10 H_3.length a28 (((ods ab)).length) e30 y3_1∧y3_1.length=((ods ab)).length∧H_4.length≤H_10.length∧H_4.length≤H_10.length∧Grow H H_10∧(0:Int)≤t61∧t61≤(((ods ab)).length:Int)∧(((ods ab)).length:Int)-t61≤(μ3:Int)∧z1t fa za ab=z6m fa za ab t34 y1_1 y1_2 t47 y2_1 y2_2 (fun (t61:Int) (y3_1:LN)=>(bif !((z7h ([y2_1,y3_1]))) then ([],[],false) else (y2_1,y3_1,true))) (μ3+1) t61 y3_1) (Int.toNat ((((ods ab)).length:Int)-(0:Int))) _ H_8 ?_ ?_
        ·exact ⟨_,o79,r80,r82,ω18,ω2,ω2,g86,ω7,ω7,ω2,e⟩
        ·intro μ3 t61  H_10 hI
         obtain ⟨y3_1,o107,r108,r109,y110,n111,n112,g113,v114,v115,hμ,e⟩:=hI
         rw [f18z_r3]
         have e:=e.trans (zed fa za ab t34 y1_1 y1_2 t47 y2_1 y2_2 (fun (t61:Int) (y3_1:LN)=>(bif !((z7h ([y2_1,y3_1]))) then ([],[],false) else (y2_1,y3_1,true))) μ3 t61 y3_1)
         have w116:=o107.lt
         have l117:=g113.1
         refine Br.intro (fun c118=>?_) (fun c118=>?_)
         ·have e:=e.trans (zv c118)
          have c_118':=odt c118
          obtain ⟨b119,f120,q121⟩:=(r109.isL).pos ω0
          refine ⟨by omega,by omega,b119,f120,q121,?_⟩
          refine ⟨((y3_1).getD (t61:Int).toNat 0),(r109.isL).rd (Grow.refl _) q121 ω2 _,?_⟩
          refine ⟨za,(o107.rdC _).trans rfl,?_⟩
          obtain ⟨b122,f123,q124⟩:=(r109.isL).pos ω0
          refine ⟨by omega,by omega,b122,f123,q124,?_⟩
          refine Lt.setS r109 q124 ω6 (fun H_11 hl_125 o127 k126=>?_)
          have l128:=k126.1
          have g129:=g113.keepA (fun x hx=>by have:=u43 x hx;omega) k126
          have l130:=g129.1
          have o131:=o107.keepA (fun x hx=>by have:=u43 x hx;have:=u42 x hx;omega) k126
          have w132:=o131.lt
          have r133:=r108.keepA (p45).symm k126
          rw [show IntKind.wrap .i64 (t61+1)=(t61+1) from zt ω2 ω2]
          refine f18z_n3 (μ3-1) ω15 ⟨_,o131,r133,o127,ω24,ω2,ω2,g129,ω1,ω1,ω15,ω29⟩
         ·have e:=e.trans (zu c118)
          have c_118':=odf c118
          rw [f18z_x3_4]
          refine Al.intro (fun b134 H_12 hb_135 hl_136 g137 o138=>?_)
          have l140:=g137.1
          have g141:=g113.trans g137
          have l142:=g141.1
          have o143:=o107.grow g137
          have w144:=o143.lt
          have r145:=r108.grow g137
          have r146:=r109.grow g137
          have w148:=o138.lt
          refine zho ⟨[y2_1,y3_1],⟨_,o138.rdAll rfl,LLc.cons r145.isL (LLc.cons r146.isL (LLc.nil _ _))⟩,ω0,ω16,?_⟩
          refine Br.intro (fun c147=>?_) (fun c147=>?_)
          ·have e:=e.trans (zv c147)
           have c_147n:=z1g c147
           rw [e] at hk
           exact hk _ _ _ _ _ _ H_12 g141 ω17 ω17 (fun x y hx hy=>by cases hx)
          ·have e:=e.trans (zu c147)
           have c_147n:=z1d c147
           rw [e] at hk
           exact hk _ _ _ _ _ _ H_12 g141 (r145.weak ω2) (r146.weak ω2) p45
theorem f18z_ok:FnOk Tryz.prog 71 z18a:=FnOk.bodyF mix_ok zsr Tryz.func71 rfl ω10 ω10 fun args H=>by
 unfold z16n
 split
 ·refine ⟨?_,?_,?_,?_,fun K hk=>f18z_main _ _ _ _ _ _ _ H K hk⟩
  ·intro K K' h hk;obtain ⟨fa,ab,ze,i_list,bd_150,bd_151,k⟩:=hk;exact ⟨fa,ab,ze,i_list,bd_150,bd_151,(fun od xd vd nh wh vh H' gg ow0 ow1 sp0_1=>h _ _ (k od xd vd nh wh vh H' gg ow0 ow1 sp0_1))⟩
  ·nofun
  ·intro K hk;obtain ⟨fa,ab,ze,i_list,bd_150,bd_151,k⟩:=hk;exact zxn fun a n e a2 n2 e2 H1 g o o2 sp=>⟨_,_,k a n e a2 n2 e2 H1 g o o2 sp⟩
  ·intro _ K hk;obtain ⟨fa,ab,ze,i_list,bd_150,bd_151,k⟩:=hk;exact ⟨fa,ab,ze,i_list,bd_150,bd_151,(fun od xd vd nh wh vh H' gg ow0 ow1 sp0_1=>⟨gg,k od xd vd nh wh vh H' gg ow0 ow1 sp0_1⟩)⟩
 ·exact Nice.no
def za2 (ii xb:LN) (ld:Nat):LN×Bool:=(((z1t xb ld ii).1++(z1t xb ld ii).2.1),(z1t xb ld ii).2.2)
def T_f2z (wj:OA) (xj nk cap0:Nat) (H:zp) (K:OA→Nat→Nat→Bool→zp→Prop):Prop:=∃pf:OA,∃(xf vf ld:Nat),∃(ii xb:LN),rdN H cap0 0 2=some [.slice pf xf vf,.float .f32 ld]∧IsL fF H wj xj ii∧IsL fF H pf xf xb∧ii.length<1073741824∧xb.length<1073741824∧((∀(od:OA) (xd vd:Nat),∀H':zp,Grow H H'→OwnS fF H' H.length od xd vd ((za2 ii xb ld).1)→K od xd vd ((za2 ii xb ld).2) H'))
theorem z1ed {f:Nat→Value} {H:zp} {lo n e:Nat} {a:OA} {xs:LN} (h:OwnS f H lo a n e xs):(a=none∧xs=[])∨a≠none:=by
 obtain ⟨_,⟨h1,h2⟩ | ⟨b,h1,_⟩⟩:=h
 ·exact .inl ⟨h1,h2⟩
 ·exact .inr (by rw [h1];simp)
def E_f2z:Env:=envOf [(999997,z8l),(71,z18a)]
def F_f2z (args:List Value) (H:zp):(Value→zp→Prop)→Prop:=match args with
 | [.slice wj xj nk,.pointer (some ⟨cap0,0,none⟩)]=>fun K=>T_f2z wj xj nk cap0 H fun (od:OA) (xd:Nat) (vd:Nat) (r2:Bool) (H':zp)=>K (.tuple #[.slice od xd vd,.bool r2]) H'
 | _=>fun _=>False
def S_f2z:FSpec:={F:=F_f2z,quiet:=false,tame:=true}
theorem f2z_vc (wj:OA) (xj nk cap0:Nat) (H:zp) (K:KT):zw Tryz.prog E_f2z Tryz.f70 [.slice wj xj nk,.pointer (some ⟨cap0,0,none⟩)] H K=
 (∃ni:OA,∃(qi oi c2:Nat),  rdN H cap0 0 2=some [.slice ni qi oi,.float .f32 c2]∧znw ni qi oi c2 wj xj nk H fun (a1:OA) (r1:Nat) (r2:Nat) (a2:OA) (r3:Nat) (r4:Nat) (r5:Bool) (H1:zp)=>ze4 Tryz.prog 22 (.slice a1 r1 r2) (.slice a2 r3 r4) H1 (fun (v1:Value) (H3:zp)=>K (.tuple #[v1,.bool r5]) H3)∨∃o1 w1:List Value,ownB H1 a1 r1 r2 1=some o1∧rdS H1 a2 (r3*1)=some w1∧((a1:OA)=none→0<(r3:Nat))∧(r1:Nat)+r3<most∧Ap H1 (z3c H1 a1++[some ⟨o1++w1,true⟩]) fun b1 H2=>K (.tuple #[.slice (some ⟨b1,0,none⟩) (r1+r3) 1,.bool r5]) H2):=by kernel_rfl
theorem zz7:∀g,FnOk Tryz.prog g (E_f2z g):=FnOk.envOf (by
 intro x hx
 simp only [List.mem_cons,List.not_mem_nil,or_false] at hx
 rcases hx with rfl | rfl
 ·exact zf6 _
 ·exact f18z_ok)
theorem f2z_main (wj:OA) (xj nk cap0:Nat) (H:zp) (K:KT) (h:T_f2z wj xj nk cap0 H fun (od:OA) (xd:Nat) (vd:Nat) (r2:Bool) (H':zp)=>K (.tuple #[.slice od xd vd,.bool r2]) H'):zw Tryz.prog E_f2z Tryz.f70 [.slice wj xj nk,.pointer (some ⟨cap0,0,none⟩)] H K:=by
 rw [f2z_vc]
 obtain ⟨pf,xf,vf,ld,ii,xb,i_cap0,i_row,dg,bd_31,bd_32,hk⟩:=h
 obtain rfl:=i_row.eqn
 obtain rfl:=dg.eqn
 have hl:=zdy xb ld ii
 refine ⟨pf,xb.length,vf,ld,i_cap0,?_⟩
 refine z10m ⟨_,_,dg,i_row,bd_32,bd_31,fun a1 n1 e1 a2 n2 e2 H1 g1 r1 r2 sp=>?_⟩
 have en1:=r1.1
 have en2:=r2.1
 have p1:(za2 ii xb ld).1=(z1t xb ld ii).1++(z1t xb ld ii).2.1:=rfl
 have p2:(za2 ii xb ld).2=(z1t xb ld ii).2.2:=rfl
 rw [p1,p2] at hk
 generalize (z1t xb ld ii).1=E at *
 generalize (z1t xb ld ii).2.1=O at *
 generalize (z1t xb ld ii).2.2=B at *
 rcases z1ed r1 with ⟨z1,z2⟩ | z1
 ·left
  have hO:O=[]:=List.length_eq_zero_iff.1 (hl.2.2 (by rw [z2];rfl))
  subst z1;subst z2;subst hO
  obtain rfl:n1=0:=by simpa using en1
  obtain rfl:n2=0:=by simpa using en2
  show K _ _
  exact hk none 0 0 H1 g1 (OwnS.nil _ _ _ _)
 ·right
  refine ⟨_,_,r1.ownB,(z2t r2.isL),(fun h=>absurd h z1),ω25,?_⟩
  refine Ap.appS r1 rfl rfl (fun b H2 q hl2 o k2=>?_)
  have g2:=g1.keepA (fun x hx=>by have:=r1.lo x hx;omega) k2
  have:=g1.1
  exact hk _ _ _ H2 g2 (o.ownS (by rw [List.length_append];omega) ω2)
theorem f2z_ok:FnOk Tryz.prog 70 S_f2z:=FnOk.bodyF mix_ok zz7 Tryz.func70 rfl ω10 ω10 fun args H=>by
 unfold F_f2z
 split
 ·refine ⟨?_,?_,?_,?_,fun K hk=>f2z_main _ _ _ _ H K hk⟩
  ·intro K K' h hk;obtain ⟨pf,xf,vf,ld,ii,xb,i_cap0,i_row,dg,bd_31,bd_32,k⟩:=hk;exact ⟨pf,xf,vf,ld,ii,xb,i_cap0,i_row,dg,bd_31,bd_32,(fun od xd vd H' gg ow0=>h _ _ (k od xd vd H' gg ow0))⟩
  ·nofun
  ·intro K hk;obtain ⟨pf,xf,vf,ld,ii,xb,i_cap0,i_row,dg,bd_31,bd_32,k⟩:=hk;exact z4i fun a n e H1 g o=>⟨_,_,k a n e H1 g o⟩
  ·intro _ K hk;obtain ⟨pf,xf,vf,ld,ii,xb,i_cap0,i_row,dg,bd_31,bd_32,k⟩:=hk;exact ⟨pf,xf,vf,ld,ii,xb,i_cap0,i_row,dg,bd_31,bd_32,(fun od xd vd H' gg ow0=>⟨gg,k od xd vd H' gg ow0⟩)⟩
 ·exact Nice.no
def ChOk (env:Env) (x:Value) (H0:zp) (rb fb:Nat) (a:OA) (W:Int) (m:Nat) (g:Nat→LN×Bool):Prop:=
 ∀(y:Nat),y<m→∀(H:zp),z3b (some ⟨rb,0,none⟩) (some ⟨fb,0,none⟩) H0 H→∀K:Value→zp→Prop,
  (∀(a':OA) (n' e':Nat) (H':zp),Grow H H'→OwnS fF H' H.length a' n' e' (g y).1→K (.tuple #[.slice a' n' e',.bool (g y).2]) H')→
  zff env x [.slice ((a:OA).map fun a=>⟨a.block,a.off+((y:Int)*W).toNat*1,none⟩) ((((y:Int)+1)*W-(y:Int)*W).toNat) 0] H K
def z7v (H0 H:zp) (rb fb k m:Nat) (g:Nat→LN×Bool):Prop:=
 z3b (some ⟨rb,0,none⟩) (some ⟨fb,0,none⟩) H0 H∧∃rs fs:List Value,Own H rb rs∧Own H fb fs∧rs.length=m∧fs.length=m∧
  ∀i,i<k→fs[i]? =some (.bool (g i).2)∧∃(a:OA) (n e:Nat),rs[i]? =some (.slice a n e)∧IsL fF H a n (g i).1∧∀x,a=some x→H0.length≤x.block
theorem Own.keep2 {H H':zp} {b rb fb:Nat} {cs:List Value} (h:Own H b cs) (h1:rb≠b) (h2:fb≠b) (k:z3b (some ⟨rb,0,none⟩) (some ⟨fb,0,none⟩) H H'):Own H' b cs:=
 (k.2 b h.lt (fun x hx=>by cases hx;exact h1) (fun x hx=>by cases hx;exact h2)).trans h
theorem IsL.keepB {H H':zp} {a:OA} {n:Nat} {xs:LN} (h:IsL fF H a n xs) (hk:∀x,a=some x→H'[x.block]? =H[x.block]?):IsL fF H' a n xs:=by
 unfold IsL rdS at *
 cases n with
 | zero=>exact h
 | succ n=>
  cases a with
  | none=>exact h
  | some x=>
   have:=hk x rfl
   obtain ⟨b,off,sub⟩:=x
   cases sub with
   | none=>simp only [rdN,rdB] at h ⊢;rw [this];exact h
   | some _=>exact h
theorem extV0 {u v:Value} {K:Value→Prop}:extV (.tuple #[u,v]) 0 K=K u:=rfl
theorem extV1 {u v:Value} {K:Value→Prop}:extV (.tuple #[u,v]) 1 K=K v:=rfl
theorem zlt {k W:Int} (h1:0≤k) (h2:k≤17) (h3:1≤W) (h4:W≤16):0≤k*W∧k*W≤272:=by
 constructor
 ·exact Int.mul_nonneg h1 ω2
 ·have:=Int.mul_le_mul h2 h4 ω2 ω2
  omega
def z6d:Env:=envOf [(999998,z8l),(70,S_f2z)]
def zuf:FSpec:={F:=z6i Tryz.prog z6d Tryz.f111,quiet:=false,tame:=false}
theorem ziy:∀g,FnOk Tryz.prog g (z6d g):=FnOk.envOf (by
 intro x hx
 simp only [List.mem_cons,List.not_mem_nil,or_false] at hx
 rcases hx with rfl | rfl
 ·exact zf6 _
 ·exact f2z_ok)
theorem z1bv:FnOk Tryz.prog 111 zuf:=FnOkX.clear mix_ok ziy Tryz.func111 rfl ω10 ω10
theorem z1bx (cap0 cap1 cap2 cap3 cap4 cap5:Nat) (H:zp) (K:KT):zw Tryz.prog z6d Tryz.f111 [.pointer (some ⟨cap0,0,none⟩),.pointer (some ⟨cap1,0,none⟩),.pointer (some ⟨cap2,0,none⟩),.pointer (some ⟨cap3,0,none⟩),.pointer (some ⟨cap4,0,none⟩),.pointer (some ⟨cap5,0,none⟩)] H K=
 (∃x1:Int,  rdC H cap0 0=some (.int .i64 x1)∧z1n (exL Tryz.prog z6d (cl (cl (cr (zq Tryz.f111)))) 126 0 [(0,0)]) (ud::.pointer (some ⟨cap1,0,none⟩)::.pointer (some ⟨cap2,0,none⟩)::.pointer (some ⟨cap3,0,none⟩)::.pointer (some ⟨cap4,0,none⟩)::.pointer (some ⟨cap5,0,none⟩)::.int .i64 x1::ud31 []) H (z1a 0 (retK Tryz.prog Tryz.f111 K))):=by kernel_rfl
abbrev zc0 (cap1 cap2 cap3 cap4 cap5:Nat) (y:Int)  :List Value:=(ud::.pointer (some ⟨cap1,0,none⟩)::.pointer (some ⟨cap2,0,none⟩)::.pointer (some ⟨cap3,0,none⟩)::.pointer (some ⟨cap4,0,none⟩)::.pointer (some ⟨cap5,0,none⟩)::.int .i64 y::ud31 [])
theorem z1bw (cap1 cap2 cap3 cap4 cap5:Nat) (y:Int)  (H:zp) (R:Post):exL Tryz.prog z6d (cl (cl (cr (zq Tryz.f111)))) 126 0 [(0,0)] (zc0 cap1 cap2 cap3 cap4 cap5 y) H R=
 (∃x2:Int,  rdC H cap1 1=some (.int .i64 x2)∧Br (decide ((y:Int)<x2)) (∃x3:Int,  rdC H cap1 0=some (.int .i64 x3)∧∃x4:Int,  rdC H cap1 0=some (.int .i64 x4)∧∃kj:OA,∃(ij zj:Nat),  rdC H cap1 2=some (.slice kj ij zj)∧∃x6:Value,  rdC H cap3 0=some (x6)∧∃rj:OA,∃(vi rk:Nat),  rdC H cap5 0=some (.slice rj vi rk)∧∃tj:OA,∃(uj tk:Nat),  rdC H cap4 0=some (.slice tj uj tk)∧(0:Int)≤IntKind.wrap .i64 (y*x4)∧IntKind.wrap .i64 (y*x4)≤IntKind.wrap .i64 ((IntKind.wrap .i64 (y+1))*x3)∧IntKind.wrap .i64 ((IntKind.wrap .i64 (y+1))*x3)≤(ij:Int)∧chk (valT z6d x6) (zff z6d x6 [.slice ((kj:OA).map fun a=>⟨a.block,a.off+(IntKind.wrap .i64 (y*x4):Int).toNat*1,none⟩) (((IntKind.wrap .i64 ((IntKind.wrap .i64 (y+1))*x3):Int)-IntKind.wrap .i64 (y*x4)).toNat) 0] H fun (w1:Value) (H1:zp)=>extV w1 0 fun (w2:Value)=>extV w1 1 fun (w3:Value)=>(0:Int)≤y∧y<(uj:Int)∧∃b1 f1,(tj:OA)=some ⟨b1,f1,none⟩∧stV w2 H1 b1 (f1+(y:Int).toNat*1) fun (H2:zp)=>(0:Int)≤y∧y<(vi:Int)∧∃b2 f2,(rj:OA)=some ⟨b2,f2,none⟩∧stV w3 H2 b2 (f2+(y:Int).toNat*1) fun (H3:zp)=>∃x9:Int,  rdC H3 cap2 0=some (.int .i64 x9)∧R .normal (ud::.pointer (some ⟨cap1,0,none⟩)::.pointer (some ⟨cap2,0,none⟩)::.pointer (some ⟨cap3,0,none⟩)::.pointer (some ⟨cap4,0,none⟩)::.pointer (some ⟨cap5,0,none⟩)::.int .i64 (IntKind.wrap .i64 (y+x9))::ud31 []) H3)) (R (.exit 0) (ud38 []) H)):=by kernel_rfl
def zhv (cap1 cap2 cap3 cap4 cap5:Nat) (Inv:Nat→Int→zp→Prop):Nat→List Value→zp→Prop:=fun μ tm H=>∃y:Int,tm=(zc0 cap1 cap2 cap3 cap4 cap5 y)∧Inv μ y H
theorem z1bt (cap1 cap2 cap3 cap4 cap5:Nat) {Q:Post} (Inv:Nat→Int→zp→Prop) (ν:Nat) (y:Int)  (H:zp) (h0:Inv ν y H)
  (hs:∀(μ:Nat) (y:Int)  (H:zp),Inv μ y H→exL Tryz.prog z6d (cl (cl (cr (zq Tryz.f111)))) 126 0 [(0,0)] (zc0 cap1 cap2 cap3 cap4 cap5 y) H (z1b (zhv cap1 cap2 cap3 cap4 cap5 Inv) μ Q)):z1n (exL Tryz.prog z6d (cl (cl (cr (zq Tryz.f111)))) 126 0 [(0,0)]) (zc0 cap1 cap2 cap3 cap4 cap5 y) H Q:=
 ⟨zhv cap1 cap2 cap3 cap4 cap5 Inv,ν,⟨y,rfl,h0⟩,fun μ tm H h=>by obtain ⟨y,rfl,hI⟩:=h;exact hs μ y  H hI⟩
theorem z1bu {cap1 cap2 cap3 cap4 cap5:Nat} {Q:Post} {Inv:Nat→Int→zp→Prop} {μ:Nat} (μ':Nat) {y:Int}  {H:zp} (hm:μ'<μ) (hI:Inv μ' y H):z1b (zhv cap1 cap2 cap3 cap4 cap5 Inv) μ Q .normal (zc0 cap1 cap2 cap3 cap4 cap5 y) H:=⟨μ',hm,y,rfl,hI⟩
theorem zvq  (H:zp) (K:KT)  {I:Nat→List Value→zp→Prop} {μ:Nat}:z1b I μ (z1a 0 (retK Tryz.prog Tryz.f111 K)) (.exit 0) (ud38 []) H=
 (K (.tuple #[]) H):=by kernel_rfl
theorem z7v.step {H0 H H':zp} {rb fb k m:Nat} {g:Nat→LN×Bool} (hne:rb≠fb) (h:z7v H0 H rb fb k m g) (hk:k<m) {a':OA} {n' e':Nat} (hg:Grow H H') (ho:OwnS fF H' H.length a' n' e' (g k).1)
  (hrb:rb<H0.length) (hfb:fb<H0.length) {K:zp→Prop} (hK:∀H3,z7v H0 H3 rb fb (k+1) m g→K H3):
  stV (.slice a' n' e') H' rb (0+k*1) fun H2=>stV (.bool (g k).2) H2 fb (0+k*1) K:=by
 rw [zf1]
 simp only [z15v]
 obtain ⟨kp,rs,fs,o1,o2,l1,l2,h⟩:=h
 have p1:=o1.grow hg
 have p2:=o2.grow hg
 refine Lt.set p1 ω2 fun H2 e2 q1 k2=>Lt.set (p2.keep (Ne.symm hne) k2) ω2 fun H3 e3 q2 k3=>hK H3 ⟨?_,_,_,q1.keep hne k3,q2,by simp [l1],by simp [l2],fun i hi=>?_⟩
 ·refine ⟨by have:=kp.1;have:=hg.1;omega,fun i hi h1 h2=>?_⟩
  have n1:i≠rb:=fun e=>h1 ⟨rb,0,none⟩ rfl e.symm
  have n2:i≠fb:=fun e=>h2 ⟨fb,0,none⟩ rfl e.symm
  have a0:=kp.1;have a1:=hg.1
  rw [k3.2 i ω2 n2,k2.2 i ω2 n1,hg.2 i ω2]
  exact kp.2 i hi h1 h2
 ·rcases Nat.lt_succ_iff_lt_or_eq.1 hi with hi | rfl
  ·obtain ⟨g1,a,n,e,g2,g3,g4⟩:=h i hi
   refine ⟨by rw [List.getElem?_set_ne ω2];exact g1,a,n,e,by rw [List.getElem?_set_ne ω2];exact g2,IsL.keepB (g3.grow hg) fun x hx=>?_,g4⟩
   have:=g4 x hx
   have hx2:n=0∨x.block<H'.length:=by
    rcases Nat.eq_zero_or_pos n with h0 | h0
    ·exact .inl h0
    ·right
     obtain ⟨b,o,ea,hc⟩:=(g3.grow hg).cell h0
     rw [hx] at ea;cases ea
     have hl:=(g3.grow hg).len
     have:=hc 0 _ (List.getElem?_eq_getElem ω2)
     unfold rdC rdB at this
     by_cases hb:b<H'.length
     ·exact hb
     ·rw [List.getElem?_eq_none ω2] at this;cases this
   by_cases hb:x.block<H'.length
   ·rw [k3.2 x.block ω2 ω2,k2.2 x.block hb ω2]
   ·rw [List.getElem?_eq_none ω2,List.getElem?_eq_none ω2]
  ·refine ⟨by rw [show 0+i*1=i by omega,List.getElem?_set_self ω2],a',n',e',by rw [show 0+i*1=i by omega,List.getElem?_set_self ω2],IsL.keepB ho.isL fun x hx=>?_,fun x hx=>Nat.le_trans kp.1 (ho.lo x hx)⟩
   have h1:=ho.lo x hx
   have h2:=ho.up x hx
   have h3:=kp.1
   rw [k3.2 x.block ω2 ω2,k2.2 x.block ω2 ω2]
theorem zvp {c0 c1 c2 c3 c4 c5 rb fb m:Nat} {H0:zp} {W Hi:Int} {a:OA} {n e:Nat} {x:Value} {g:Nat→LN×Bool} {K:KT} (hm:Hi=(m:Int)) (hm2:m≤16) (hW:1≤W) (hW2:W≤16) (hn:(n:Int)=W*m)
  (o0:Own H0 c0 [.int .i64 0]) (o1:Own H0 c1 [.int .i64 W,.int .i64 Hi,.slice a n e]) (o2:Own H0 c2 [.int .i64 1]) (o3:Own H0 c3 [x]) (o4:Own H0 c4 [.slice (some ⟨rb,0,none⟩) m 1]) (o5:Own H0 c5 [.slice (some ⟨fb,0,none⟩) m 1])
  (d1:rb≠c1∧rb≠c2∧rb≠c3∧rb≠c4∧rb≠c5) (d2:fb≠c1∧fb≠c2∧fb≠c3∧fb≠c4∧fb≠c5) (hne:rb≠fb) (hrb:rb<H0.length) (hfb:fb<H0.length) (hr:z7v H0 H0 rb fb 0 m g)
  (hch:ChOk z6d x H0 rb fb a W m g) (hT:valT z6d x=true) (hk:∀H,z7v H0 H rb fb m m g→K (.tuple #[]) H):
  z6i Tryz.prog z6d Tryz.f111 [.pointer (some ⟨c0,0,none⟩),.pointer (some ⟨c1,0,none⟩),.pointer (some ⟨c2,0,none⟩),.pointer (some ⟨c3,0,none⟩),.pointer (some ⟨c4,0,none⟩),.pointer (some ⟨c5,0,none⟩)] H0 K:=by
 refine zby ziy ?_
 rw [z1bx]
 refine ⟨0,(o0.rdC 0).trans rfl,?_⟩
 refine z1bt c1 c2 c3 c4 c5 (fun μ y H=>∃k:Nat,y=(k:Int)∧k≤m∧μ=m-k∧z7v H0 H rb fb k m g) m 0 H0 ⟨0,rfl,Nat.zero_le _,rfl,hr⟩ ?_
 intro μ y H hI
 obtain ⟨k,rfl,hkm,rfl,hR⟩:=hI
 have kp:=hR.1
 have p1:=o1.keep2 d1.1 d2.1 kp
 have p2:=o2.keep2 d1.2.1 d2.2.1 kp
 have p3:=o3.keep2 d1.2.2.1 d2.2.2.1 kp
 have p4:=o4.keep2 d1.2.2.2.1 d2.2.2.2.1 kp
 have p5:=o5.keep2 d1.2.2.2.2 d2.2.2.2.2 kp
 rw [z1bw]
 refine ⟨Hi,(p1.rdC 1).trans rfl,?_⟩
 refine Br.intro (fun hc=>?_) (fun hc=>?_)
 ·have hc':=odt hc
  have hkm':k<m:=by omega
  refine ⟨W,(p1.rdC 0).trans rfl,W,(p1.rdC 0).trans rfl,a,n,e,(p1.rdC 2).trans rfl,x,(p3.rdC 0).trans rfl,some ⟨fb,0,none⟩,m,1,(p5.rdC 0).trans rfl,some ⟨rb,0,none⟩,m,1,(p4.rdC 0).trans rfl,?_⟩
  have s1:=zlt (k:=(k:Int)) (W:=W) ω2 ω2 hW hW2
  have s2:=zlt (k:=(k:Int)+1) (W:=W) ω2 ω2 hW hW2
  have e2:((k:Int)+1)*W=(k:Int)*W+W:=by rw [Int.add_mul,Int.one_mul]
  have s3:((k:Int)+1)*W≤(n:Int):=by
   rw [hn,Int.mul_comm]
   exact Int.mul_le_mul_of_nonneg_left ω2 ω2
  rw [zt (n:=(k:Int)*W) ω2 ω2,zt (n:=(k:Int)+1) ω2 ω2,zt (n:=((k:Int)+1)*W) ω2 ω2]
  refine ⟨s1.1,by omega,s3,?_⟩
  rw [hT]
  show zff _ _ _ _ _
  refine hch k hkm' H kp _ fun a' n' e' H' hg ho=>?_
  rw [extV0,extV1]
  have st:=hR.step hne hkm' hg ho hrb hfb (K:=fun H3=>∃x9:Int,rdC H3 c2 0=some (.int .i64 x9)∧z1b (zhv c1 c2 c3 c4 c5 fun μ y H=>∃k:Nat,y=(k:Int)∧k≤m∧μ=m-k∧z7v H0 H rb fb k m g) (m-k) (z1a 0 (retK Tryz.prog Tryz.f111 K)) .normal (zc0 c1 c2 c3 c4 c5 (IntKind.wrap .i64 ((k:Int)+x9))) H3) (fun H3 hD=>by
   refine ⟨1,((o2.keep2 d1.2.1 d2.2.1 hD.1).rdC 0).trans rfl,?_⟩
   rw [zt (n:=(k:Int)+1) ω2 ω2]
   exact z1bu (m-(k+1)) ω2 ⟨k+1,by omega,by omega,rfl,hD⟩)
  rw [zf1] at st
  obtain ⟨t1,t2,t3⟩:=st
  refine ⟨by omega,by omega,rb,0,rfl,?_⟩
  rw [zf1]
  exact ⟨t1,t2,by omega,by omega,fb,0,rfl,t3⟩
 ·have hc':=odf hc
  rw [zvq]
  have:k=m:=by omega
  subst this
  exact hk H hR

def z16d (env:Env) (x:Value) (H:zp) (a:OA) (W:Int) (m:Nat) (g:Nat→LN×Bool):Prop:=
 ∀(y:Nat),y<m→∀(H1:zp),Grow H H1→∀K:Value→zp→Prop,
  (∀(a':OA) (n' e':Nat) (H':zp),Grow H1 H'→OwnS fF H' H1.length a' n' e' (g y).1→K (.tuple #[.slice a' n' e',.bool (g y).2]) H')→
  zff env x [.slice ((a:OA).map fun a=>⟨a.block,a.off+((y:Int)*W).toNat*1,none⟩) ((((y:Int)+1)*W-(y:Int)*W).toNat) 0] H1 K
theorem Grow.keep2 {H0 H H':zp} {rb fb:Nat} (g:Grow H0 H) (h1:H0.length≤rb) (h2:H0.length≤fb) (k:z3b (some ⟨rb,0,none⟩) (some ⟨fb,0,none⟩) H H'):Grow H0 H':=
 ⟨Nat.le_trans g.1 k.1,fun i hi=>(k.2 i (Nat.lt_of_lt_of_le hi g.1) (fun x hx=>by cases hx;show rb≠i;omega) (fun x hx=>by cases hx;show fb≠i;omega)).trans (g.2 i hi)⟩
def z5u (g:Nat→LN×Bool) (k:Nat):LN:=(List.range k).flatMap fun i=>(g i).1
theorem z4v (g:Nat→LN×Bool) (k:Nat):z5u g (k+1)=z5u g k++(g k).1:=by
 unfold z5u
 rw [List.range_succ,List.flatMap_append]
 simp
theorem zk6 {g:Nat→LN×Bool} {m:Nat} (h:∀i,i<m→(g i).1.length≤64):∀k,k≤m→(z5u g k).length≤64*k:=by
 intro k
 induction k with
 | zero=>intro _;simp [z5u]
 | succ k ih=>
  intro hk
  have h1:=ih ω2
  have h2:=h k ω2
  rw [z4v,List.length_append]
  omega
def z3n (W Hi:Int) (m:Nat) (g:Nat→LN×Bool):Int×Int×LN×Bool:=bif (List.range m).all (fun i=>(g i).2) then za3 W Hi (z5u g m) else (0,0,[],false)
theorem zy5 {W Hi:Int} {m:Nat} {g:Nat→LN×Bool} {k:Nat} (hk:k<m) (h:(g k).2=false):z3n W Hi m g=(0,0,[],false):=by
 unfold z3n
 have:(List.range m).all (fun i=>(g i).2)=false:=by
  rw [List.all_eq_false]
  exact ⟨k,List.mem_range.2 hk,by simp [h]⟩
 rw [this,cond_false]
theorem zrg {W Hi:Int} {m:Nat} {g:Nat→LN×Bool} (h:∀i,i<m→(g i).2=true):z3n W Hi m g=za3 W Hi (z5u g m):=by
 unfold z3n
 have:(List.range m).all (fun i=>(g i).2)=true:=by
  rw [List.all_eq_true]
  exact fun i hi=>h i (List.mem_range.1 hi)
 rw [this,cond_true]
def zum (ga ja:Int) (ta:OA) (va ya:Nat) (workers:Int) (change_f:Fn) (change_x change_y:Array Value) (H:zp) (K:Int→Int→OA→Nat→Nat→Bool→zp→Prop):Prop:=
 ∃(l:LN) (g:Nat→LN×Bool),IsL fF H ta va l∧workers=1∧1≤ga∧ga≤16∧1≤ja∧ja≤16∧(l.length:Int)=ga*ja∧valT z6d (.func change_f change_x change_y)=true∧
  (∀i,i<ja.toNat→(g i).1.length≤64∧((g i).2=true→1≤(g i).1.length))∧z16d z6d (.func change_f change_x change_y) H ta ga ja.toNat g∧
  (∀(od:OA) (xd vd:Nat),∀H':zp,Grow H H'→OwnS fF H' H.length od xd vd ((z3n ga ja ja.toNat g).2.2.1)→K ((z3n ga ja ja.toNat g).1) ((z3n ga ja ja.toNat g).2.1) od xd vd ((z3n ga ja ja.toNat g).2.2.2) H')
def za9:Env:=envOf [(111,zuf),(113,S_f9z)]
def znp:List Value→zp→(Value→zp→Prop)→Prop
 | [.agg ⟨[.int .i64 ga,.int .i64 ja,.slice ta va ya]⟩,.int .i64 workers,.func change_f change_x change_y],H,K=>zum ga ja ta va ya workers change_f change_x change_y H fun (tc:Int) (nc:Int) (ma:OA) (sa:Nat) (oa:Nat) (r2:Bool) (H':zp)=>K (.tuple #[.agg #[.int .i64 tc,.int .i64 nc,.slice ma sa oa],.bool r2]) H'
 | _,_,_=>False
def zj2:FSpec:={F:=znp,quiet:=false,tame:=false}
theorem f21z_vc (ga ja:Int) (ta:OA) (va ya:Nat) (workers:Int) (change_f:Fn) (change_x:Array Value) (change_y:Array Value) (H:zp) (K:KT):rbM Tryz.prog za9 [.agg #[.int .i64 ga,.int .i64 ja,.slice ta va ya],.int .i64 workers,.func change_f change_x change_y] H K=
 (Al [.int .i64 ga,.int .i64 ja,.slice ta va ya] H fun b1 H1=>Al [.int .i64 workers] H1 fun b2 H2=>Al [.func change_f change_x change_y] H2 fun b3 H3=>Al [.int .i64 0,.int .i64 0,.slice none 0 0] H3 fun b4 H4=>∃x1:Int,  rdC H4 b1 1=some (.int .i64 x1)∧∃x2:Int,  rdC H4 b1 1=some (.int .i64 x2)∧(0:Int)≤x2∧x2=x2∧x2<(most:Int)∧Al (z1p (.slice none 0 0) (x2).toNat) H4 fun b5 H5=>(0:Int)≤x1∧x1=x1∧x1<(most:Int)∧Al (z1p (.bool false) (x1).toNat) H5 fun b6 H6=>Al [.slice none 0 0] H6 fun b7 H7=>Al [.slice none 0 0] H7 fun b8 H8=>isOwn H8 b7∧(∃l,rdN H8 b7 0 1=some l)∧Lt (setC H8 b7 0 (.slice (some ⟨b5,0,none⟩) ((x2).toNat) 1)) fun H9=>isOwn H9 b8∧(∃l,rdN H9 b8 0 1=some l)∧Lt (setC H9 b8 0 (.slice (some ⟨b6,0,none⟩) ((x1).toNat) 1)) fun H10=>∃x3:Int,  rdC (H10++[none]) b2 0=some (.int .i64 x3)∧((57:Nat)=57∧Value.int .i64 x3=Value.int .i64 1∧Value.int .i64 0=Value.int .i64 0)∧Al [.int .i64 0] (H10++[none]) fun b9 H11=>isOwn H11 b9∧(∃l,rdN H11 b9 0 1=some l)∧Lt (setC H11 b9 0 (.int .i64 0)) fun H12=>((57:Nat)=57∧(.pointer (some ⟨H10.length,0,none⟩):Value)=.pointer (some ⟨H10.length,0,none⟩)∧Value.int .i64 x3=Value.int .i64 1∧Value.int .i64 (0:Int)=Value.int .i64 0)∧zuf.F [.pointer (some ⟨b9,0,none⟩),.pointer (some ⟨b1,0,none⟩),.pointer (some ⟨b2,0,none⟩),.pointer (some ⟨b3,0,none⟩),.pointer (some ⟨b7,0,none⟩),.pointer (some ⟨b8,0,none⟩)] H12 fun (_:Value) (H13:zp)=>∃x4:Int,  rdC H13 b1 0=some (.int .i64 x4)∧∃x5:Int,  rdC H13 b1 1=some (.int .i64 x5)∧Al [.int .i64 0,.int .i64 0,.slice none 0 0] H13 fun b10 H14=>isOwn H14 b10∧(∃l,rdN H14 b10 0 3=some l)∧Lt (setN H14 b10 0 [.int .i64 x4,.int .i64 x5,.slice none 0 0]) fun H15=>∃ai:OA,∃(zh ki:Nat),  rdC H15 b7 0=some (.slice ai zh ki)∧z1n (exL Tryz.prog za9 (cl (cl (cr (cl (cr (cr rb4)))))) 120259088960 192 [(2,4160)]) (ud6 (.pointer (some ⟨b4,0,none⟩)::ud2 (.pointer (some ⟨b8,0,none⟩)::ud2 (.pointer (some ⟨b10,0,none⟩)::ud21 (.slice ai zh ki::.int .i64 (zh:Int)::.int .i64 0::ud20 []))))) H15 (z1a 2 (seqQ (exL Tryz.prog za9 (cr (cr (cr rb4))) 192 192 []) (retK Tryz.prog Tryz.f69 K)))):=by kernel_rfl
abbrev f21z_P1 (b10 b4 b8:Nat) (ai:OA) (ki zh:Nat) (t36:Int)  :List Value:=(ud6 (.pointer (some ⟨b4,0,none⟩)::ud2 (.pointer (some ⟨b8,0,none⟩)::ud2 (.pointer (some ⟨b10,0,none⟩)::ud21 (.slice ai zh ki::.int .i64 (zh:Int)::.int .i64 t36::ud20 [])))))
theorem f21z_r1 (b10 b4 b8:Nat) (ai:OA) (ki zh:Nat) (t36:Int)  (H:zp) (R:Post):exL Tryz.prog za9 (cl (cl (cr (cl (cr (cr rb4)))))) 120259088960 192 [(2,4160)] (f21z_P1 b10 b4 b8 ai ki zh t36) H R=
 (Br (decide ((t36:Int)<(zh:Int))) ((0:Int)≤t36∧t36<(zh:Int)∧∃b11 f1,(ai:OA)=some ⟨b11,f1,none⟩∧∃rj:OA,∃(vi rk:Nat),  rdC H b11 (f1+(t36:Int).toNat*1)=some (.slice rj vi rk)∧∃tj:OA,∃(uj tk:Nat),  rdC H b8 0=some (.slice tj uj tk)∧(0:Int)≤t36∧t36<(uj:Int)∧∃b12 f2,(tj:OA)=some ⟨b12,f2,none⟩∧∃x9:Bool,  rdC H b12 (f2+(t36:Int).toNat*1)=some (.bool x9)∧Br (!x9) (isOwn H b4∧(∃l,rdN H b4 0 3=some l)∧Lt (setN H b4 0 [.int .i64 0,.int .i64 0,.slice none 0 0]) fun H16=>R .ret (ud6 (.pointer (some ⟨b4,0,none⟩)::.bool false::ud49 [])) H16) (∃tl:OA,∃(ul bp:Nat),  rdC H b10 2=some (.slice tl ul bp)∧∃o1 w1:List Value,ownB H tl ul bp 1=some o1∧rdS H rj (vi*1)=some w1∧((tl:OA)=none→0<(vi:Nat))∧(ul:Nat)+vi<most∧Ap H (z3c H tl++[some ⟨o1++w1,true⟩]) fun b13 H17=>isOwn H17 b10∧(∃l,rdN H17 b10 2 1=some l)∧Lt (setC H17 b10 2 (.slice (some ⟨b13,0,none⟩) (ul+vi) 1)) fun H18=>R .normal (ud6 (.pointer (some ⟨b4,0,none⟩)::ud2 (.pointer (some ⟨b8,0,none⟩)::ud2 (.pointer (some ⟨b10,0,none⟩)::ud21 (.slice ai zh ki::.int .i64 (zh:Int)::.int .i64 (IntKind.wrap .i64 (t36+1))::ud20 []))))) H18)) (R (.exit 2) (ud6 (.pointer (some ⟨b4,0,none⟩)::ud5 (.pointer (some ⟨b10,0,none⟩)::ud44 []))) H)):=by kernel_rfl
def f21z_I1 (b10 b4 b8:Nat) (ai:OA) (ki zh:Nat) (Inv:Nat→Int→zp→Prop):Nat→List Value→zp→Prop:=fun μ tm H=>∃t36:Int,tm=(f21z_P1 b10 b4 b8 ai ki zh t36)∧Inv μ t36 H
theorem f21z_L1 (b10 b4 b8:Nat) (ai:OA) (ki zh:Nat) {Q:Post} (Inv:Nat→Int→zp→Prop) (ν:Nat) (t36:Int)  (H:zp) (h0:Inv ν t36 H)
  (hs:∀(μ:Nat) (t36:Int)  (H:zp),Inv μ t36 H→exL Tryz.prog za9 (cl (cl (cr (cl (cr (cr rb4)))))) 120259088960 192 [(2,4160)] (f21z_P1 b10 b4 b8 ai ki zh t36) H (z1b (f21z_I1 b10 b4 b8 ai ki zh Inv) μ Q)):z1n (exL Tryz.prog za9 (cl (cl (cr (cl (cr (cr rb4)))))) 120259088960 192 [(2,4160)]) (f21z_P1 b10 b4 b8 ai ki zh t36) H Q:=
 ⟨f21z_I1 b10 b4 b8 ai ki zh Inv,ν,⟨t36,rfl,h0⟩,fun μ tm H h=>by obtain ⟨t36,rfl,hI⟩:=h;exact hs μ t36  H hI⟩
theorem f21z_n1 {b10 b4 b8:Nat} {ai:OA} {ki zh:Nat} {Q:Post} {Inv:Nat→Int→zp→Prop} {μ:Nat} (μ':Nat) {t36:Int}  {H:zp} (hm:μ'<μ) (hI:Inv μ' t36 H):z1b (f21z_I1 b10 b4 b8 ai ki zh Inv) μ Q .normal (f21z_P1 b10 b4 b8 ai ki zh t36) H:=⟨μ',hm,t36,rfl,hI⟩
theorem f21z_x1_2 (b10 b4:Nat) (H:zp) (K:KT)  {I:Nat→List Value→zp→Prop} {μ:Nat}:z1b I μ (z1a 2 (seqQ (exL Tryz.prog za9 (cr (cr (cr rb4))) 192 192 []) (retK Tryz.prog Tryz.f69 K))) (.exit 2) (ud6 (.pointer (some ⟨b4,0,none⟩)::ud5 (.pointer (some ⟨b10,0,none⟩)::ud44 []))) H=
 (∃(c1 c2:Int),∃vg:OA,∃(xg wg:Nat),  rdN H b10 0 3=some [.int .i64 c1,.int .i64 c2,.slice vg xg wg]∧zun c1 c2 vg xg wg H fun (r1:Int) (r2:Int) (a1:OA) (r3:Nat) (r4:Nat) (r5:Bool) (H19:zp)=>isOwn H19 b4∧(∃l,rdN H19 b4 0 3=some l)∧Lt (setN H19 b4 0 [.int .i64 r1,.int .i64 r2,.slice a1 r3 r4]) fun H20=>∃(c4 c5:Int),∃eh:OA,∃(gh fh:Nat),  rdN H20 b4 0 3=some [.int .i64 c4,.int .i64 c5,.slice eh gh fh]∧K (.tuple #[.agg #[.int .i64 c4,.int .i64 c5,.slice eh gh fh],.bool r5]) H20):=by kernel_rfl
theorem f21z_x1_ret (b4:Nat) (t7:Bool) (H:zp) (K:KT)  {I:Nat→List Value→zp→Prop} {μ:Nat}:z1b I μ (z1a 2 (seqQ (exL Tryz.prog za9 (cr (cr (cr rb4))) 192 192 []) (retK Tryz.prog Tryz.f69 K))) .ret (ud6 (.pointer (some ⟨b4,0,none⟩)::.bool t7::ud49 [])) H=
 (∃(c7 c8:Int),∃sh:OA,∃(uh th:Nat),  rdN H b4 0 3=some [.int .i64 c7,.int .i64 c8,.slice sh uh th]∧K (.tuple #[.agg #[.int .i64 c7,.int .i64 c8,.slice sh uh th],.bool t7]) H):=by kernel_rfl
theorem zda:∀g,FnOk Tryz.prog g (za9 g):=FnOk.envOf (by
 intro x hx
 simp only [List.mem_cons,List.not_mem_nil,or_false] at hx
 rcases hx with rfl | rfl
 ·exact z1bv
 ·exact f9z_ok)
theorem zm1 {v:Value} (h:v.cells.toList=[v]) (n:Nat):(z1p v n).length=n:=by
 rw [zm2 (fun v:Value=>v) v n h];simp
set_option maxHeartbeats 4000000 in
theorem f21z_main (W Hi:Int) (la:OA) (ln le:Nat) (workers:Int) (cf:Fn) (cx cy:Array Value) (H:zp) (K:KT) (h:zum W Hi la ln le workers cf cx cy H fun (tc:Int) (nc:Int) (ma:OA) (sa:Nat) (oa:Nat) (r2:Bool) (H':zp)=>K (.tuple #[.agg #[.int .i64 tc,.int .i64 nc,.slice ma sa oa],.bool r2]) H'):rbM Tryz.prog za9 [.agg #[.int .i64 W,.int .i64 Hi,.slice la ln le],.int .i64 workers,.func cf cx cy] H K:=by
 obtain ⟨l,g,il,rfl,hW1,hW2,hH1,hH2,hl,hv,hlen,hch,hk⟩:=h
 obtain ⟨m,rfl⟩:∃m:Nat,Hi=(m:Int):=⟨Hi.toNat,by omega⟩
 simp only [Int.toNat_natCast] at hlen hch hk
 rw [f21z_vc]
 have hll:=il.len
 refine Al.intro fun b1 H1 e1 l1 g1 o1=>Al.intro fun b2 H2 e2 l2 g2 o2=>Al.intro fun b3 H3 e3 l3 g3 o3=>Al.intro fun b4 H4 e4 l4 g4 o4=>?_
 have p1:=((o1.grow g2).grow g3).grow g4
 refine ⟨(m:Int),(p1.rdC 1).trans rfl,(m:Int),(p1.rdC 1).trans rfl,by omega,rfl,by have:=zn8;omega,?_⟩
 refine Al.intro fun b5 H5 e5 l5 g5 o5=>⟨by omega,rfl,by have:=zn8;omega,?_⟩
 refine Al.intro fun b6 H6 e6 l6 g6 o6=>Al.intro fun b7 H7 e7 l7 g7 o7=>Al.intro fun b8 H8 e8 l8 g8 o8=>?_
 refine Lt.set (o7.grow g8) ω22 fun H9 l9 q7 k9=>Lt.set (o8.keep ω2 k9) ω22 fun H10 l10 q8 k10=>?_
 have g48:Grow H4 H8:=((g5.trans g6).trans g7).trans g8
 have G0:Grow H H8:=(((g1.trans g2).trans g3).trans g4).trans g48
 have up:∀{b:Nat} {cs:List Value},Own H8 b cs→b≠b7→b≠b8→Own H10 b cs:=fun o h1 h2=>(o.keep h1 k9).keep h2 k10
 have u1:=up (p1.grow g48) ω2 ω2
 have u2:=up ((((o2.grow g3).grow g4).grow g48)) ω2 ω2
 have u3:=up (((o3.grow g4).grow g48)) ω2 ω2
 have u4:=up (o4.grow g48) ω2 ω2
 have u5:=up (((o5.grow g6).grow g7).grow g8) ω2 ω2
 have u6:=up ((o6.grow g7).grow g8) ω2 ω2
 have u7:=q7.keep ω2 k10
 have G1:Grow H H10:=(G0.keep ω2 k9).keep ω2 k10
 have gA:=Grow.app H10 (none:Option Blk)
 have lA:(H10++[(none:Option Blk)]).length=H10.length+1:=by simp
 refine ⟨1,((u2.grow gA).rdC 0).trans rfl,⟨rfl,rfl,rfl⟩,Al.intro fun b9 H11 e9 l11 g11 o9=>Lt.set o9 ω22 fun H12 l12 q9 k12=>⟨⟨rfl,rfl,rfl,rfl⟩,?_⟩⟩
 have up2:∀{b:Nat} {cs:List Value},Own H10 b cs→Own H12 b cs:=fun o=>((o.grow gA).grow g11).keep (by have:=o.lt;omega) k12
 have G2:Grow H H12:=(((G1.trans gA).trans g11)).keep (by have:=G1.1;omega) k12
 have z5:((z1p (.slice none 0 0) ((m:Int)).toNat):List Value).length=m:=(zm1 rfl _).trans (Int.toNat_natCast m)
 have z6:((z1p (.bool false) ((m:Int)).toNat):List Value).length=m:=(zm1 rfl _).trans (Int.toNat_natCast m)
 have q7':=up2 u7
 have q8':=up2 q8
 have em:((m:Int)).toNat=m:=Int.toNat_natCast m
 show z6i _ _ _ _ _ _
 refine zvp (rb:=b5) (fb:=b6) (m:=m) (W:=W) (Hi:=(m:Int)) (a:=la) (n:=ln) (e:=le) (x:=.func cf cx cy) (g:=g) rfl ω2 hW1 hW2 (by rw [←hll];exact hl) q9 (up2 u1) (up2 u2) (up2 u3) (by rw [em] at q7';exact q7') (by rw [em] at q8';exact q8')
  ⟨by omega,by omega,by omega,by omega,by omega⟩ ⟨by omega,by omega,by omega,by omega,by omega⟩ ω2 (by have:=(up2 u5).lt;omega) (by have:=(up2 u6).lt;omega) ⟨z3b.refl _ _ _,_,_,up2 u5,up2 u6,z5,z6,fun i hi=>absurd hi (Nat.not_lt_zero _)⟩
  (fun y hy H' kp K2 h2=>hch y hy H' (G2.keep2 ω2 ω2 kp) K2 h2) hv fun H13 hD=>?_
 have kD:=hD.1
 have G3:Grow H H13:=G2.keep2 ω2 ω2 kD
 have d1:=(up2 u1).keep2 (rb:=b5) (fb:=b6) ω2 ω2 kD
 have d4:=(up2 u4).keep2 (rb:=b5) (fb:=b6) ω2 ω2 kD
 have d7:=q7'.keep2 (rb:=b5) (fb:=b6) ω2 ω2 kD
 have d8:=q8'.keep2 (rb:=b5) (fb:=b6) ω2 ω2 kD
 rw [em] at d7 d8
 obtain ⟨rs,fs,or,of,lr,lf,hrow⟩:=hD.2
 have l13:=kD.1
 have d4l:=d4.lt
 refine ⟨W,(d1.rdC 0).trans rfl,(m:Int),(d1.rdC 1).trans rfl,Al.intro fun b10 H14 e14 l14 g14 o14=>Lt.setN o14 (n:=3) ω22 rfl fun H15 l15 q10 k15=>?_⟩
 have up3:∀{b:Nat} {cs:List Value},Own H13 b cs→Own H15 b cs:=fun o=>(o.grow g14).keep (by have:=o.lt;omega) k15
 have G4:Grow H H15:=(G3.trans g14).keep (by have:=G3.1;omega) k15
 refine ⟨some ⟨b5,0,none⟩,m,1,((up3 d7).rdC 0).trans rfl,?_⟩
 refine f21z_L1 b10 b4 b8 (some ⟨b5,0,none⟩) 1 m (fun μ t H'=>∃k:Nat,t=(k:Int)∧k≤m∧μ=m-k∧(∀i,i<k→(g i).2=true)∧z3i b10 H15 H'∧∃(a:OA) (n e:Nat),Own H' b10 [.int .i64 W,.int .i64 (m:Int),.slice a n e]∧OwnS fF H' H15.length a n e (z5u g k)) m 0 H15
  ⟨0,rfl,Nat.zero_le _,rfl,fun i hi=>absurd hi (Nat.not_lt_zero _),⟨Nat.le_refl _,fun _ _ _=>rfl⟩,none,0,0,q10,OwnS.nil _ _ _ _⟩ ?_
 intro μ t H' hI
 obtain ⟨k,rfl,hkm,rfl,hall,kp,a,n,e,ob,os⟩:=hI
 have hg64:∀i,i<m→(g i).1.length≤64:=fun i hi=>(hlen i hi).1
 have hfl:=zk6 hg64 k hkm
 have hn:=os.len
 have up4:∀{b:Nat} {cs:List Value},Own H13 b cs→Own H' b cs:=fun o=>(up3 o).keep (by have:=o.lt;omega) kp
 have G5:Grow H H':=G4.keep (by have:=G3.1;omega) kp
 have c4:=up4 d4
 have lkp:=kp.1
 rw [f21z_r1]
 refine Br.intro (fun hc=>?_) (fun hc=>?_)
 ·have hc':=odt hc
  have hkm':k<m:=by omega
  obtain ⟨hf,ra,rn,re,hr,hrl,hrb⟩:=hrow k hkm'
  have hrr:=((up4 or).rdC (0+((k:Int)).toNat*1))
  have hff:=((up4 of).rdC (0+((k:Int)).toNat*1))
  rw [Int.toNat_natCast,Nat.mul_one,Nat.zero_add] at hrr hff
  refine ⟨by omega,hc',b5,0,rfl,ra,rn,re,by rw [Int.toNat_natCast,Nat.mul_one,Nat.zero_add];exact hrr.trans hr,some ⟨b6,0,none⟩,m,1,((up4 d8).rdC 0).trans rfl,by omega,hc',b6,0,rfl,(g k).2,by rw [Int.toNat_natCast,Nat.mul_one,Nat.zero_add];exact hff.trans hf,?_⟩
  refine Br.intro (fun hg=>?_) (fun hg=>?_)
  ·have hgk:=z1g hg
   refine Lt.setN c4 (n:=3) ω22 rfl fun H16 l16 q4 k16=>?_
   rw [f21z_x1_ret]
   refine ⟨0,0,none,0,0,(q4.rdN ω22).trans rfl,?_⟩
   rw [zy5 hkm' hgk] at hk
   exact hk none 0 0 H16 (G5.keep ω2 k16) (OwnS.nil _ _ _ _)
  ·have hgk:=z1d hg
   have h1:=(hlen k hkm').2 hgk
   have h2:=hg64 k hkm'
   have hrl':IsL fF H' ra rn (g k).1:=IsL.keepB hrl fun x hx=>by
    have hx2:x.block<H13.length:=by
     obtain ⟨b,o,ea,hcl⟩:=hrl.cell (by have:=hrl.len;omega)
     rw [hx] at ea;cases ea
     have:=hcl 0 _ (List.getElem?_eq_getElem ω2)
     unfold rdC rdB at this
     by_cases hb:b<H13.length
     ·exact hb
     ·rw [List.getElem?_eq_none ω2] at this;cases this
    have e15:H15[x.block]? =H13[x.block]? :=(k15.2 _ ω2 ω2).trans (g14.2 _ hx2)
    rw [kp.2 _ ω2 ω2,e15]
   have hrn:=hrl'.len
   refine ⟨a,n,e,(ob.rdC 2).trans rfl,_,_,os.ownB,z2t hrl',(fun _=>by omega),ω25,?_⟩
   refine Ap.appS os rfl rfl fun b13 H17 e17 l17 o17 k17=>?_
   have lo:=os.lo
   have hup:∀x,a=some x→x.block≠b10:=fun x hx=>by have:=lo x hx;omega
   have ob2:=ob.keepA hup k17
   refine Lt.set ob2 (nbl rfl) fun H18 l18 q18 k18=>?_
   refine f21z_n1 (m-(k+1)) ω2 ⟨k+1,by rw [zt ω2 ω2];omega,by omega,rfl,fun i hi=>?_,?_,some ⟨b13,0,none⟩,n+rn,1,q18,?_⟩
   ·rcases Nat.lt_succ_iff_lt_or_eq.1 hi with hi | rfl
    ·exact hall i hi
    ·exact hgk
   ·refine ⟨by omega,fun i hi hne=>?_⟩
    rw [k18.2 i ω2 hne,k17.2 i ω2 (fun x hx=>by have:=lo x hx;omega),kp.2 i hi hne]
   ·rw [z4v]
    have:=(o17.keep (b':=b10) ω2 k18)
    exact this.ownS (by rw [List.length_append];omega) ω2
 ·have hc':=odf hc
  obtain rfl:k=m:=by omega
  rw [f21z_x1_2]
  have lo:=os.lo
  have hup:=os.up
  refine ⟨W,(k:Int),a,n,e,(ob.rdN (nbl rfl)).trans rfl,zuo ⟨z5u g k,os.isL,by omega,fun H19 g19=>?_⟩⟩
  rw [zrg hall] at hk
  refine Br.intro (fun hb=>?_) (fun hb=>?_)
  ·refine Lt.setN (c4.grow g19) (n:=3) ω22 rfl fun H20 l20 q20 k20=>⟨W,(k:Int),a,n,e,(q20.rdN (nbl rfl)).trans rfl,?_⟩
   have ev:za3 W (k:Int) (z5u g k)=(W,(k:Int),z5u g k,true):=by
    rw [z4q] at hb ⊢
    cases hq:!(z1s W (k:Int) (z5u g k)) with
    | true=>rw [hq] at hb;cases hb
    | false=>rfl
   rw [ev] at hk
   exact hk a n e H20 ((G5.trans g19).keep ω2 k20) (((os.grow g19).keepA (fun x y hx hy=>by cases hx;have:=lo y hy;show b4≠_;omega) (OwnS.keep1 k20)).weak (by have:=G4.1;omega))
  ·refine Lt.setN (c4.grow g19) (n:=3) ω22 rfl fun H20 l20 q20 k20=>⟨0,0,none,0,0,(q20.rdN (nbl rfl)).trans rfl,?_⟩
   have ev:za3 W (k:Int) (z5u g k)=(0,0,[],false):=by
    rw [z4q] at hb ⊢
    cases hq:!(z1s W (k:Int) (z5u g k)) with
    | true=>rfl
    | false=>rw [hq] at hb;cases hb
   rw [ev] at hk
   exact hk none 0 0 H20 ((G5.trans g19).keep ω2 k20) (OwnS.nil _ _ _ _)
theorem f21z_ok:FnOkX Tryz.prog (MainCls Tryz.prog) 69 zj2:=by
 refine rbOk mix_ok (fun g=>(zda g).le fun _ _ _=>trivial) (zda _) ω10 ω10 ω10 ?_ (fun hq=>by cases hq) ?_ (fun hq=>by cases hq) ?_
 ·intro args H K K' h hk
  simp only [zj2] at *
  unfold znp at *
  split at hk
  ·obtain ⟨l,g,il,h1,hW1,hW2,hH1,hH2,hl,hv,hlen,hch,k⟩:=hk
   exact ⟨l,g,il,h1,hW1,hW2,hH1,hH2,hl,hv,hlen,hch,fun a n e H' gg ow=>h _ _ (k a n e H' gg ow)⟩
  ·exact hk.elim
 ·intro args H K hk
  simp only [zj2] at *
  unfold znp at *
  split at hk
  ·obtain ⟨l,g,il,h1,hW1,hW2,hH1,hH2,hl,hv,hlen,hch,k⟩:=hk
   exact z4i fun a n e H1 g o=>⟨_,_,k a n e H1 g o⟩
  ·exact hk.elim
 ·intro args H K hk
  refine z1ei zda ?_
  simp only [zj2] at *
  unfold znp at *
  split at hk
  ·exact f21z_main _ _ _ _ _ _ _ _ _ H K hk
  ·exact hk.elim

def z2c (l:LN) (W:Int) (y:Nat):LN:=(l.drop ((y:Int)*W).toNat).take ((((y:Int)+1)*W-(y:Int)*W).toNat)
theorem z6z {l:LN} {W Hi:Int} {y:Nat} (h1:1≤W) (h2:W≤16) (h3:Hi≤16) (hl:(l.length:Int)=W*Hi) (hy:(y:Int)<Hi):0≤(y:Int)*W∧(y:Int)*W≤((y:Int)+1)*W∧((y:Int)+1)*W≤(l.length:Int)∧((z2c l W y).length:Int)=W:=by
 have e2:((y:Int)+1)*W=(y:Int)*W+W:=by rw [Int.add_mul,Int.one_mul]
 have s1:0≤(y:Int)*W:=Int.mul_nonneg ω2 ω2
 have s3:((y:Int)+1)*W≤(l.length:Int):=by
  rw [hl,Int.mul_comm]
  exact Int.mul_le_mul_of_nonneg_left ω2 ω2
 refine ⟨s1,by omega,s3,?_⟩
 unfold z2c
 rw [List.length_take,List.length_drop]
 omega
def z5m (fa:LN) (za:Nat) (ga ja:Int) (ba:LN) (workers:Int):Int×Int×LN×Bool:=
 bif z6r fa za then (bif z1s ga ja ba then z3n ga ja ja.toNat (fun y=>za2 (z2c ba ga y) fa za) else (0,0,[],false)) else (0,0,[],false)
def T_f3z (eb:OA) (lb mb za:Nat) (ga ja:Int) (ta:OA) (va ya:Nat) (workers:Int) (H:zp) (K:Int→Int→OA→Nat→Nat→Bool→zp→Prop):Prop:=
 ∃(fa ba:LN),IsL fF H eb lb fa∧IsL fF H ta va ba∧fa.length<1073741824∧ba.length<1073741824∧workers=1∧
  (∀(od:OA) (xd vd:Nat),∀H':zp,Grow H H'→OwnS fF H' H.length od xd vd ((z5m fa za ga ja ba workers).2.2.1)→K ((z5m fa za ga ja ba workers).1) ((z5m fa za ga ja ba workers).2.1) od xd vd ((z5m fa za ga ja ba workers).2.2.2) H')
theorem z1b5 {eb:OA} {lb mb za:Nat} {ga ja:Int} {ta:OA} {va ya:Nat} {workers:Int} {H:zp} {K:Int→Int→OA→Nat→Nat→Bool→zp→Prop} (h:∃(fa ba:LN),IsL fF H eb lb fa∧IsL fF H ta va ba∧fa.length<1073741824∧ba.length<1073741824∧workers=1∧
  (∀(od:OA) (xd vd:Nat),∀H':zp,Grow H H'→OwnS fF H' H.length od xd vd ((z5m fa za ga ja ba workers).2.2.1)→K ((z5m fa za ga ja ba workers).1) ((z5m fa za ga ja ba workers).2.1) od xd vd ((z5m fa za ga ja ba workers).2.2.2) H')):T_f3z eb lb mb za ga ja ta va ya workers H K:=h
def E_f3z:Env:=envOf [(49,S_ffz),(50,zm4),(68,zay),(69,zj2)]
def F_f3z (args:List Value) (H:zp):(Value→zp→Prop)→Prop:=match args with
 | [.agg ⟨[.slice eb lb mb,.float .f32 za]⟩,.agg ⟨[.int .i64 ga,.int .i64 ja,.slice ta va ya]⟩,.int .i64 workers]=>fun K=>T_f3z eb lb mb za ga ja ta va ya workers H fun (tc:Int) (nc:Int) (ma:OA) (sa:Nat) (oa:Nat) (r2:Bool) (H':zp)=>K (.tuple #[.agg #[.int .i64 tc,.int .i64 nc,.slice ma sa oa],.bool r2]) H'
 | _=>fun _=>False
def S_f3z:FSpec:={F:=F_f3z,quiet:=false,tame:=false}
theorem f3z_vc (eb:OA) (lb mb za:Nat) (ga ja:Int) (ta:OA) (va ya:Nat) (workers:Int) (H:zp) (K:KT):zw Tryz.prog E_f3z Tryz.f27 [.agg #[.slice eb lb mb,.float .f32 za],.agg #[.int .i64 ga,.int .i64 ja,.slice ta va ya],.int .i64 workers] H K=
 (Al [.slice eb lb mb,.float .f32 za] H fun b1 H1=>Al [.int .i64 ga,.int .i64 ja,.slice ta va ya] H1 fun b2 H2=>Al [.int .i64 0,.int .i64 0,.slice none 0 0] H2 fun b3 H3=>∃ni:OA,∃(qi oi c2:Nat),  rdN H3 b1 0 2=some [.slice ni qi oi,.float .f32 c2]∧zq0 ni qi oi c2 H3 fun (r1:Bool) (H4:zp)=>Br (!r1) (isOwn H4 b3∧(∃l,rdN H4 b3 0 3=some l)∧Lt (setN H4 b3 0 [.int .i64 0,.int .i64 0,.slice none 0 0]) fun H5=>∃(c3 c4:Int),∃zi:OA,∃(bj aj:Nat),  rdN H5 b3 0 3=some [.int .i64 c3,.int .i64 c4,.slice zi bj aj]∧K (.tuple #[.agg #[.int .i64 c3,.int .i64 c4,.slice zi bj aj],.bool false]) H5) (∃(c6 c7:Int),∃cj:OA,∃(fj dj:Nat),  rdN H4 b2 0 3=some [.int .i64 c6,.int .i64 c7,.slice cj fj dj]∧zhn c6 c7 cj fj dj H4 fun (r2:Bool) (H6:zp)=>Br (!r2) (isOwn H6 b3∧(∃l,rdN H6 b3 0 3=some l)∧Lt (setN H6 b3 0 [.int .i64 0,.int .i64 0,.slice none 0 0]) fun H7=>∃(c9 c10:Int),∃wi:OA,∃(yi xi:Nat),  rdN H7 b3 0 3=some [.int .i64 c9,.int .i64 c10,.slice wi yi xi]∧K (.tuple #[.agg #[.int .i64 c9,.int .i64 c10,.slice wi yi xi],.bool false]) H7) (z3j workers 1 8 H6 fun (r3:Bool) (H8:zp)=>Br (!r3) (isOwn H8 b3∧(∃l,rdN H8 b3 0 3=some l)∧Lt (setN H8 b3 0 [.int .i64 0,.int .i64 0,.slice none 0 0]) fun H9=>∃(c12 c13:Int),∃ak:OA,∃(ck bk:Nat),  rdN H9 b3 0 3=some [.int .i64 c12,.int .i64 c13,.slice ak ck bk]∧K (.tuple #[.agg #[.int .i64 c12,.int .i64 c13,.slice ak ck bk],.bool false]) H9) (∃(c15 c16:Int),∃uk:OA,∃(xk vk:Nat),  rdN H8 b2 0 3=some [.int .i64 c15,.int .i64 c16,.slice uk xk vk]∧zum c15 c16 uk xk vk workers (.func 70) #[] #[.pointer (some ⟨b1,0,none⟩)] H8 fun (r4:Int) (r5:Int) (a1:OA) (r6:Nat) (r7:Nat) (r8:Bool) (H10:zp)=>isOwn H10 b3∧(∃l,rdN H10 b3 0 3=some l)∧Lt (setN H10 b3 0 [.int .i64 r4,.int .i64 r5,.slice a1 r6 r7]) fun H11=>∃(c18 c19:Int),∃ik:OA,∃(lk jk:Nat),  rdN H11 b3 0 3=some [.int .i64 c18,.int .i64 c19,.slice ik lk jk]∧K (.tuple #[.agg #[.int .i64 c18,.int .i64 c19,.slice ik lk jk],.bool r8]) H11)))):=by kernel_rfl
theorem zz8:∀g,FnOkX Tryz.prog (MainCls Tryz.prog) g (E_f3z g):=FnOkX.envOf (by
 intro x hx
 simp only [List.mem_cons,List.not_mem_nil,or_false] at hx
 rcases hx with rfl | rfl | rfl | rfl
 ·exact zwu.le fun _ _ _=>trivial
 ·exact f8z_ok.le fun _ _ _=>trivial
 ·exact f22z_ok.le fun _ _ _=>trivial
 ·exact f21z_ok)
theorem zm3 {H:zp} {c:Nat} {wa:OA} {wn we sc:Nat} {la:OA} {ln:Nat} {ws l:LN} {W Hi:Int} {m:Nat} (hm:Hi=(m:Int)) (o:Own H c [.slice wa wn we,.float .f32 sc]) (iw:IsL fF H wa wn ws) (il:IsL fF H la ln l) (bw:ws.length<1073741824)
  (h1:1≤W) (h2:W≤16) (h3:Hi≤16) (hl:(l.length:Int)=W*Hi):z16d z6d (.func (.func 70) #[] #[.pointer (some ⟨c,0,none⟩)]) H la W m (fun y=>za2 (z2c l W y) ws sc):=by
 intro y hy H1 gg K hK
 obtain ⟨f1,f2,f3,f4⟩:=z6z h1 h2 h3 hl (show (y:Int)<Hi by omega)
 refine (?_:T_f2z ((la:OA).map fun a=>⟨a.block,a.off+((y:Int)*W).toNat*1,none⟩) ((((y:Int)+1)*W-(y:Int)*W).toNat) 0 c H1 fun a n e r H'=>K (.tuple #[.slice a n e,.bool r]) H')
 have hn:=il.len
 refine ⟨wa,wn,we,sc,z2c l W y,ws,((o.grow gg).rdN (nbl rfl)).trans rfl,zc9 (il.grow gg) f1 f2 ω2,iw.grow gg,by omega,bw,fun a n e H' g2 o2=>hK a n e H' g2 o2⟩
theorem zcf {ws l:LN} {sc:Nat} {W Hi:Int} {i:Nat} (h1:1≤W) (h2:W≤16) (h3:Hi≤16) (hl:(l.length:Int)=W*Hi) (hi:(i:Int)<Hi):(za2 (z2c l W i) ws sc).1.length≤64∧((za2 (z2c l W i) ws sc).2=true→1≤(za2 (z2c l W i) ws sc).1.length):=by
 obtain ⟨f1,f2,f3,f4⟩:=z6z h1 h2 h3 hl hi
 obtain ⟨a1,a2,a3⟩:=zdy ws sc (z2c l W i)
 have a4:=zqs ws sc (z2c l W i)
 show ((z1t ws sc (z2c l W i)).1++(z1t ws sc (z2c l W i)).2.1).length≤64∧((z1t ws sc (z2c l W i)).2.2=true→1≤((z1t ws sc (z2c l W i)).1++(z1t ws sc (z2c l W i)).2.1).length)
 rw [List.length_append]
 refine ⟨by omega,fun h=>?_⟩
 obtain ⟨b1,b2⟩:=a4 h
 omega
theorem f3z_main (eb:OA) (lb mb za:Nat) (ga ja:Int) (ta:OA) (va ya:Nat) (workers:Int) (H:zp) (K:KT) (h:T_f3z eb lb mb za ga ja ta va ya workers H fun (tc:Int) (nc:Int) (ma:OA) (sa:Nat) (oa:Nat) (r2:Bool) (H':zp)=>K (.tuple #[.agg #[.int .i64 tc,.int .i64 nc,.slice ma sa oa],.bool r2]) H'):zw Tryz.prog E_f3z Tryz.f27 [.agg #[.slice eb lb mb,.float .f32 za],.agg #[.int .i64 ga,.int .i64 ja,.slice ta va ya],.int .i64 workers] H K:=by
 rw [f3z_vc]
 obtain ⟨ws,l,iw,il,bw,bl,rfl,hk⟩:=h
 obtain rfl:=iw.eqn
 obtain rfl:=il.eqn
 have e:z5m ws za ga ja l 1=(bif z6r ws za then (bif z1s ga ja l then z3n ga ja ja.toNat (fun y=>za2 (z2c l ga y) ws za) else (0,0,[],false)) else (0,0,[],false)):=rfl
 rw [e] at hk
 refine Al.intro fun b1 H1 e1 l1 g1 o1=>Al.intro fun b2 H2 e2 l2 g2 o2=>Al.intro fun b3 H3 e3 l3 g3 o3=>?_
 have G3:Grow H H3:=(g1.trans g2).trans g3
 have p1:=(o1.grow g2).grow g3
 have p2:=o2.grow g3
 refine ⟨eb,ws.length,mb,za,(p1.rdN (nbl rfl)).trans rfl,zm5 ⟨ws,iw.grow G3,bw,fun H4 g4=>?_⟩⟩
 refine Br.intro (fun hv=>?_) (fun hv=>?_)
 ·refine Lt.setN (o3.grow g4) (n:=3) ω22 rfl fun H5 l5 q5 k5=>⟨0,0,none,0,0,(q5.rdN (nbl rfl)).trans rfl,?_⟩
  rw [z1g hv,cond_false] at hk
  exact hk none 0 0 H5 ((G3.trans g4).keep ω2 k5) (OwnS.nil _ _ _ _)
 rw [z1d hv,cond_true] at hk
 refine ⟨ga,ja,ta,l.length,ya,((p2.grow g4).rdN (nbl rfl)).trans rfl,zbx ⟨l,il.grow (G3.trans g4),bl,fun H6 g6=>?_⟩⟩
 refine Br.intro (fun hp=>?_) (fun hp=>?_)
 ·refine Lt.setN ((o3.grow g4).grow g6) (n:=3) ω22 rfl fun H7 l7 q7 k7=>⟨0,0,none,0,0,(q7.rdN (nbl rfl)).trans rfl,?_⟩
  rw [z1g hp,cond_false] at hk
  exact hk none 0 0 H7 (((G3.trans g4).trans g6).keep ω2 k7) (OwnS.nil _ _ _ _)
 have hpv:=z1d hp
 rw [hpv,cond_true] at hk
 obtain ⟨w1,w2,w3,w4,w5,w6,w7⟩:=f8z_t hpv
 refine (?_:z3j 1 1 8 H6 _)
 unfold z3j
 rw [show z2w 1 1 8=true from rfl]
 refine Br.intro (fun h=>by cases h) (fun _=>?_)
 have G6:Grow H H6:=(G3.trans g4).trans g6
 obtain ⟨m,rfl⟩:∃m:Nat,ja=(m:Int):=⟨ja.toNat,by omega⟩
 refine ⟨ga,(m:Int),ta,l.length,ya,(((p2.grow g4).grow g6).rdN (nbl rfl)).trans rfl,?_⟩
 refine ⟨l,fun y=>za2 (z2c l ga y) ws za,il.grow G6,rfl,w1,w2,w3,w4,w5,rfl,fun i hi=>zcf w1 w2 w4 w5 ω2,zm3 (Hi:=(m:Int)) ω2 ((p1.grow g4).grow g6) (iw.grow G6) (il.grow G6) bw w1 w2 w4 w5,fun a n e' H10 g10 o10=>?_⟩
 have q3:=((o3.grow g4).grow g6).grow g10
 refine Lt.setN q3 (n:=3) (nbl rfl) rfl fun H11 l11 q11 k11=>⟨_,_,a,n,e',(q11.rdN (nbl rfl)).trans rfl,?_⟩
 have lo:=o10.lo
 have hle:=G6.1
 refine hk a n e' H11 ((G6.trans g10).keep ω2 k11) ((o10.keepA (fun x y hx hy=>by cases hx;have:=lo y hy;have:=(o3.grow g4).lt;have:=g6.1;show b3≠_;omega) (OwnS.keep1 k11)).weak hle)
theorem f3z_ok:FnOkX Tryz.prog (MainCls Tryz.prog) 27 S_f3z:=FnOkX.bodyF (hLt:=fun _=>z3h) mix_ok zz8 Tryz.func27 rfl ω10 ω10 fun args H=>by
 unfold F_f3z
 split
 ·refine ⟨?_,?_,?_,?_,fun K hk=>f3z_main _ _ _ _ _ _ _ _ _ _ H K hk⟩
  ·intro K K' h hk;obtain ⟨fa,ba,i_s,i_p,b_s,b_p,hw,k⟩:=hk;exact ⟨fa,ba,i_s,i_p,b_s,b_p,hw,(fun od xd vd H' gg ow0=>h _ _ (k od xd vd H' gg ow0))⟩
  ·nofun
  ·intro K hk;obtain ⟨fa,ba,i_s,i_p,b_s,b_p,hw,k⟩:=hk;exact z4i fun a n e H1 g o=>⟨_,_,k a n e H1 g o⟩
  ·nofun
 ·exact Nice.no

def z3e (fa:LN) (za:Nat) (ga ja:Int) (ba:LN):Int×Int×LN×Bool:=((z5m fa za ga ja ba (1:Int)).1,(z5m fa za ga ja ba (1:Int)).2.1,(z5m fa za ga ja ba (1:Int)).2.2.1,(z5m fa za ga ja ba (1:Int)).2.2.2)
def zbh:=@z3e.eq_1
def znx (eb:OA) (lb mb za:Nat) (ga ja:Int) (ta:OA) (va ya:Nat) (H:zp) (K:Int→Int→OA→Nat→Nat→Bool→zp→Prop):Prop:=∃(fa ba:LN),IsL fF H eb lb fa∧IsL fF H ta va ba∧fa.length<1073741824∧ba.length<1073741824∧((∀(ma:OA) (sa oa:Nat),∀H':zp,Grow H H'→OwnS fF H' H.length ma sa oa ((z3e fa za ga ja ba).2.2.1)→K ((z3e fa za ga ja ba).1) ((z3e fa za ga ja ba).2.1) ma sa oa ((z3e fa za ga ja ba).2.2.2) H'))
theorem z10n {eb:OA} {lb mb za:Nat} {ga ja:Int} {ta:OA} {va ya:Nat} {H:zp} {K:Int→Int→OA→Nat→Nat→Bool→zp→Prop} (h:∃(fa ba:LN),IsL fF H eb lb fa∧IsL fF H ta va ba∧fa.length<1073741824∧ba.length<1073741824∧((∀(ma:OA) (sa oa:Nat),∀H':zp,Grow H H'→OwnS fF H' H.length ma sa oa ((z3e fa za ga ja ba).2.2.1)→K ((z3e fa za ga ja ba).1) ((z3e fa za ga ja ba).2.1) ma sa oa ((z3e fa za ga ja ba).2.2.2) H'))):znx eb lb mb za ga ja ta va ya H K:=h
theorem zrh {W Hi:Int} {m:Nat} {g:Nat→LN×Bool} (hm:m≤16) (h:∀i,i<m→(g i).1.length≤64):(z3n W Hi m g).2.2.1.length≤1024:=by
 unfold z3n
 have:=zk6 h m (Nat.le_refl _)
 cases (List.range m).all (fun i=>(g i).2) with
 | false=>simp
 | true=>
  rw [cond_true,z4q]
  cases !(z1s W Hi (z5u g m)) with
  | true=>simp
  | false=>simp only [cond_false];omega
theorem f19z_len (ws:LN) (sc:Nat) (W Hi:Int) (l:LN):(z3e ws sc W Hi l).2.2.1.length≤1024:=by
 rw [zbh]
 show (z5m ws sc W Hi l 1).2.2.1.length≤1024
 unfold z5m
 cases z6r ws sc with
 | false=>simp
 | true=>
  rw [cond_true]
  cases h:z1s W Hi l with
  | false=>simp
  | true=>
   rw [cond_true]
   obtain ⟨h1,h2,h3,h4,h5,_⟩:=f8z_t h
   exact zrh ω2 fun i hi=>(zcf h1 h2 h4 h5 ω2).1
def zss:Env:=envOf [(27,S_f3z)]
def z16o (args:List Value) (H:zp):(Value→zp→Prop)→Prop:=match args with
 | [.agg ⟨[.slice eb lb mb,.float .f32 za]⟩,.agg ⟨[.int .i64 ga,.int .i64 ja,.slice ta va ya]⟩]=>fun K=>znx eb lb mb za ga ja ta va ya H fun (tc:Int) (nc:Int) (ma:OA) (sa:Nat) (oa:Nat) (r2:Bool) (H':zp)=>K (.tuple #[.agg #[.int .i64 tc,.int .i64 nc,.slice ma sa oa],.bool r2]) H'
 | _=>fun _=>False
def z18b:FSpec:={F:=z16o,quiet:=false,tame:=true}
theorem f19z_vc (eb:OA) (lb mb za:Nat) (ga ja:Int) (ta:OA) (va ya:Nat) (H:zp) (K:KT):zw Tryz.prog zss Tryz.f26 [.agg #[.slice eb lb mb,.float .f32 za],.agg #[.int .i64 ga,.int .i64 ja,.slice ta va ya]] H K=
 (Al [.slice eb lb mb,.float .f32 za] H fun b1 H1=>Al [.int .i64 ga,.int .i64 ja,.slice ta va ya] H1 fun b2 H2=>Al [.int .i64 0,.int .i64 0,.slice none 0 0] H2 fun b3 H3=>∃ni:OA,∃(qi oi c2:Nat),  rdN H3 b1 0 2=some [.slice ni qi oi,.float .f32 c2]∧∃(c3 c4:Int),∃zi:OA,∃(bj aj:Nat),  rdN H3 b2 0 3=some [.int .i64 c3,.int .i64 c4,.slice zi bj aj]∧T_f3z ni qi oi c2 c3 c4 zi bj aj 1 H3 fun (r1:Int) (r2:Int) (a1:OA) (r3:Nat) (r4:Nat) (r5:Bool) (H4:zp)=>isOwn H4 b3∧(∃l,rdN H4 b3 0 3=some l)∧Lt (setN H4 b3 0 [.int .i64 r1,.int .i64 r2,.slice a1 r3 r4]) fun H5=>∃(c6 c7:Int),∃cj:OA,∃(fj dj:Nat),  rdN H5 b3 0 3=some [.int .i64 c6,.int .i64 c7,.slice cj fj dj]∧K (.tuple #[.agg #[.int .i64 c6,.int .i64 c7,.slice cj fj dj],.bool r5]) H5):=by kernel_rfl
theorem zst:∀g,FnOkX Tryz.prog (MainCls Tryz.prog) g (zss g):=FnOkX.envOf (by
 intro x hx
 simp only [List.mem_cons,List.not_mem_nil,or_false] at hx
 subst hx;exact f3z_ok)
theorem f19z_main (eb:OA) (lb mb za:Nat) (ga ja:Int) (ta:OA) (va ya:Nat) (H:zp) (K:KT) (h:znx eb lb mb za ga ja ta va ya H fun (tc:Int) (nc:Int) (ma:OA) (sa:Nat) (oa:Nat) (r2:Bool) (H':zp)=>K (.tuple #[.agg #[.int .i64 tc,.int .i64 nc,.slice ma sa oa],.bool r2]) H'):zw Tryz.prog zss Tryz.f26 [.agg #[.slice eb lb mb,.float .f32 za],.agg #[.int .i64 ga,.int .i64 ja,.slice ta va ya]] H K:=by
 rw [f19z_vc]
 obtain ⟨fa,ba,ze,nd,bd_66,bd_67,hk⟩:=h
 obtain rfl:=ze.eqn
 obtain rfl:=nd.eqn
 have e:(z3e fa za ga ja ba)=_:=rfl
 have e:=e.trans (zbh fa za ga ja ba)
 have g0:=Grow.refl H
 refine Al.intro (fun b_1 H_1 hb_2 hl_3 g_4 o_5=>?_)
 have l_7:=g_4.1
 have g_8:=g0.trans g_4
 have l_9:=g_8.1
 have w65:=o_5.lt
 refine Al.intro (fun b_10 H_2 hb_11 hl_12 g_13 o_14=>?_)
 have l_16:=g_13.1
 have g_17:=g_8.trans g_13
 have l_18:=g_17.1
 have o_19:=o_5.grow g_13
 have w20:=o_19.lt
 have w64:=o_14.lt
 refine Al.intro (fun b_21 H_3 hb_22 hl_23 g24 o25=>?_)
 have l27:=g24.1
 have g28:=g_17.trans g24
 have l29:=g28.1
 have o30:=o_19.grow g24
 have w31:=o30.lt
 have o32:=o_14.grow g24
 have w33:=o32.lt
 have w63:=o25.lt
 refine ⟨eb,fa.length,mb,za,(o30.rdN (nbl rfl)).trans rfl,?_⟩
 refine ⟨ga,ja,ta,ba.length,ya,(o32.rdN (nbl rfl)).trans rfl,?_⟩
 refine z1b5 ⟨_,_,(ze.grow g28),(nd.grow g28),ω0,ω0,ω9,fun a34 n35 e36 H_4 g38 r_37=>?_⟩
 have l39:=g38.1
 have g40:=g28.trans g38
 have l41:=g40.1
 have o42:=o30.grow g38
 have w43:=o42.lt
 have o44:=o32.grow g38
 have w45:=o44.lt
 have o46:=o25.grow g38
 have w47:=o46.lt
 obtain rfl:=r_37.isL.eqn
 have u48:=r_37.up
 have u49:=r_37.lo
 refine Lt.setN (n:=3) o46 (nbl rfl) rfl (fun H_5 hl_51 o53 k52=>?_)
 have o53:Own H_5 b_21 [.int .i64 ((z5m fa za ga ja ba (1:Int)).1),.int .i64 ((z5m fa za ga ja ba (1:Int)).2.1),.slice a34 (((z5m fa za ga ja ba (1:Int)).2.2.1).length) e36]:=o53
 have l54:=k52.1
 have g55:=g40.keep (b:=b_21) ω2 k52
 have l56:=g55.1
 have o57:=o42.keep ω2 k52
 have w58:=o57.lt
 have o59:=o44.keep ω2 k52
 have w60:=o59.lt
 have r61:=r_37.keep u48 ω2 k52
 have w62:=o53.lt
 refine ⟨(z5m fa za ga ja ba (1:Int)).1,(z5m fa za ga ja ba (1:Int)).2.1,a34,((z5m fa za ga ja ba (1:Int)).2.2.1).length,e36,(o53.rdN (nbl rfl)).trans rfl,?_⟩
 rw [e] at hk
 exact hk _ _ _ H_5 g55 (r61.weak ω2)
theorem f19z_ok:FnOkX Tryz.prog (MainCls Tryz.prog) 26 z18b:=FnOkX.bodyF (hLt:=fun _=>z3h) mix_ok zst Tryz.func26 rfl ω10 ω10 fun args H=>by
 unfold z16o
 split
 ·refine ⟨?_,?_,?_,?_,fun K hk=>f19z_main _ _ _ _ _ _ _ _ _ H K hk⟩
  ·intro K K' h hk;obtain ⟨fa,ba,ze,nd,bd_66,bd_67,k⟩:=hk;exact ⟨fa,ba,ze,nd,bd_66,bd_67,(fun ma sa oa H' gg ow0=>h _ _ (k ma sa oa H' gg ow0))⟩
  ·nofun
  ·intro K hk;obtain ⟨fa,ba,ze,nd,bd_66,bd_67,k⟩:=hk;exact z4i fun a n e H1 g o=>⟨_,_,k a n e H1 g o⟩
  ·intro _ K hk;obtain ⟨fa,ba,ze,nd,bd_66,bd_67,k⟩:=hk;exact ⟨fa,ba,ze,nd,bd_66,bd_67,(fun ma sa oa H' gg ow0=>⟨gg,k ma sa oa H' gg ow0⟩)⟩
 ·exact Nice.no

def zrb (ga ja:Int) (ba xb:LN) (ld:Nat):Int×Int×LN×Bool:=((z3e xb ld ga ja ba).1,(z3e xb ld ga ja ba).2.1,(z3e xb ld ga ja ba).2.2.1,(z3e xb ld ga ja ba).2.2.2)
def z14y:=@zrb.eq_1
def T_f5z (ga ja:Int) (ta:OA) (va ya cap0:Nat) (H:zp) (K:Int→Int→OA→Nat→Nat→Bool→zp→Prop):Prop:=∃pf:OA,∃(xf vf ld:Nat),∃(ba xb:LN),rdN H cap0 0 2=some [.slice pf xf vf,.float .f32 ld]∧IsL fF H ta va ba∧IsL fF H pf xf xb∧ba.length<1073741824∧xb.length<1073741824∧((∀(ma:OA) (sa oa:Nat),∀H':zp,Grow H H'→OwnS fF H' H.length ma sa oa ((zrb ga ja ba xb ld).2.2.1)→K ((zrb ga ja ba xb ld).1) ((zrb ga ja ba xb ld).2.1) ma sa oa ((zrb ga ja ba xb ld).2.2.2) H'))
def E_f5z:Env:=envOf [(26,z18b)]
def F_f5z (args:List Value) (H:zp):(Value→zp→Prop)→Prop:=match args with
 | [.agg ⟨[.int .i64 ga,.int .i64 ja,.slice ta va ya]⟩,.pointer (some ⟨cap0,0,none⟩)]=>fun K=>T_f5z ga ja ta va ya cap0 H fun (tc:Int) (nc:Int) (ma:OA) (sa:Nat) (oa:Nat) (r2:Bool) (H':zp)=>K (.tuple #[.agg #[.int .i64 tc,.int .i64 nc,.slice ma sa oa],.bool r2]) H'
 | _=>fun _=>False
def S_f5z:FSpec:={F:=F_f5z,quiet:=false,tame:=true}
theorem f5z_vc (ga ja:Int) (ta:OA) (va ya cap0:Nat) (H:zp) (K:KT):zw Tryz.prog E_f5z Tryz.f63 [.agg #[.int .i64 ga,.int .i64 ja,.slice ta va ya],.pointer (some ⟨cap0,0,none⟩)] H K=
 (Al [.int .i64 ga,.int .i64 ja,.slice ta va ya] H fun b1 H1=>Al [.int .i64 0,.int .i64 0,.slice none 0 0] H1 fun b2 H2=>∃ni:OA,∃(qi oi c2:Nat),  rdN H2 cap0 0 2=some [.slice ni qi oi,.float .f32 c2]∧∃(c3 c4:Int),∃zi:OA,∃(bj aj:Nat),  rdN H2 b1 0 3=some [.int .i64 c3,.int .i64 c4,.slice zi bj aj]∧znx ni qi oi c2 c3 c4 zi bj aj H2 fun (r1:Int) (r2:Int) (a1:OA) (r3:Nat) (r4:Nat) (r5:Bool) (H3:zp)=>isOwn H3 b2∧(∃l,rdN H3 b2 0 3=some l)∧Lt (setN H3 b2 0 [.int .i64 r1,.int .i64 r2,.slice a1 r3 r4]) fun H4=>∃(c6 c7:Int),∃cj:OA,∃(fj dj:Nat),  rdN H4 b2 0 3=some [.int .i64 c6,.int .i64 c7,.slice cj fj dj]∧K (.tuple #[.agg #[.int .i64 c6,.int .i64 c7,.slice cj fj dj],.bool r5]) H4):=by kernel_rfl
theorem zza:∀g,FnOkX Tryz.prog (MainCls Tryz.prog) g (E_f5z g):=FnOkX.envOf (by
 intro x hx
 simp only [List.mem_cons,List.not_mem_nil,or_false] at hx
 subst hx;exact f19z_ok)
theorem f5z_main (ga ja:Int) (ta:OA) (va ya cap0:Nat) (H:zp) (K:KT) (h:T_f5z ga ja ta va ya cap0 H fun (tc:Int) (nc:Int) (ma:OA) (sa:Nat) (oa:Nat) (r2:Bool) (H':zp)=>K (.tuple #[.agg #[.int .i64 tc,.int .i64 nc,.slice ma sa oa],.bool r2]) H'):zw Tryz.prog E_f5z Tryz.f63 [.agg #[.int .i64 ga,.int .i64 ja,.slice ta va ya],.pointer (some ⟨cap0,0,none⟩)] H K:=by
 rw [f5z_vc]
 obtain ⟨pf,xf,vf,ld,ba,xb,i_cap0,nd,dg,bd_49,bd_50,hk⟩:=h
 obtain rfl:=nd.eqn
 obtain rfl:=dg.eqn
 have e:(zrb ga ja ba xb ld)=_:=rfl
 have e:=e.trans (z14y ga ja ba xb ld)
 have g0:=Grow.refl H
 refine Al.intro (fun b_1 H_1 hb_2 hl_3 g_4 o_5=>?_)
 have l_7:=g_4.1
 have g_8:=g0.trans g_4
 have l_9:=g_8.1
 have w48:=o_5.lt
 refine Al.intro (fun b_10 H_2 hb_11 hl_12 g_13 o_14=>?_)
 have l_16:=g_13.1
 have g_17:=g_8.trans g_13
 have l_18:=g_17.1
 have o_19:=o_5.grow g_13
 have w20:=o_19.lt
 have w47:=o_14.lt
 refine ⟨pf,xb.length,vf,ld,zr g_17 i_cap0,?_⟩
 refine ⟨ga,ja,ta,ba.length,ya,(o_19.rdN (nbl rfl)).trans rfl,?_⟩
 refine z10n ⟨_,_,(dg.grow g_17),(nd.grow g_17),ω0,ω0,fun a21 n22 e23 H_3 g26 r_24=>?_⟩
 have z25:=f19z_len xb ld ga ja ba
 have l27:=g26.1
 have g28:=g_17.trans g26
 have l29:=g28.1
 have o30:=o_19.grow g26
 have w31:=o30.lt
 have o32:=o_14.grow g26
 have w33:=o32.lt
 obtain rfl:=r_24.isL.eqn
 have u34:=r_24.up
 have u35:=r_24.lo
 refine Lt.setN (n:=3) o32 (nbl rfl) rfl (fun H_4 hl_37 o39 k38=>?_)
 have o39:Own H_4 b_10 [.int .i64 ((z3e xb ld ga ja ba).1),.int .i64 ((z3e xb ld ga ja ba).2.1),.slice a21 (((z3e xb ld ga ja ba).2.2.1).length) e23]:=o39
 have l40:=k38.1
 have g41:=g28.keep (b:=b_10) ω2 k38
 have l42:=g41.1
 have o43:=o30.keep ω2 k38
 have w44:=o43.lt
 have r_45:=r_24.keep u34 ω2 k38
 have w46:=o39.lt
 refine ⟨(z3e xb ld ga ja ba).1,(z3e xb ld ga ja ba).2.1,a21,((z3e xb ld ga ja ba).2.2.1).length,e23,(o39.rdN (nbl rfl)).trans rfl,?_⟩
 rw [e] at hk
 exact hk _ _ _ H_4 g41 (r_45.weak ω2)
theorem f5z_ok:FnOkX Tryz.prog (MainCls Tryz.prog) 63 S_f5z:=FnOkX.bodyF (hLt:=fun _=>z3h) mix_ok zza Tryz.func63 rfl ω10 ω10 fun args H=>by
 unfold F_f5z
 split
 ·refine ⟨?_,?_,?_,?_,fun K hk=>f5z_main _ _ _ _ _ _ H K hk⟩
  ·intro K K' h hk;obtain ⟨pf,xf,vf,ld,ba,xb,i_cap0,nd,dg,bd_49,bd_50,k⟩:=hk;exact ⟨pf,xf,vf,ld,ba,xb,i_cap0,nd,dg,bd_49,bd_50,(fun ma sa oa H' gg ow0=>h _ _ (k ma sa oa H' gg ow0))⟩
  ·nofun
  ·intro K hk;obtain ⟨pf,xf,vf,ld,ba,xb,i_cap0,nd,dg,bd_49,bd_50,k⟩:=hk;exact z4i fun a n e H1 g o=>⟨_,_,k a n e H1 g o⟩
  ·intro _ K hk;obtain ⟨pf,xf,vf,ld,ba,xb,i_cap0,nd,dg,bd_49,bd_50,k⟩:=hk;exact ⟨pf,xf,vf,ld,ba,xb,i_cap0,nd,dg,bd_49,bd_50,(fun ma sa oa H' gg ow0=>⟨gg,k ma sa oa H' gg ow0⟩)⟩
 ·exact Nice.no
def swapF (l:LN) (W x y:Int):Nat:=l.getD (x*W+y).toNat 0
def z8h (ga ja:Int) (ba:LN):Int×Int×LN×Bool:=bif z1s ga ja ba then z9l ja ga (swapF ba ga) else (0,0,[],false)
def zv3 (ga ja:Int) (ta:OA) (va ya:Nat) (H:zp) (K:Int→Int→OA→Nat→Nat→Bool→zp→Prop):Prop:=
 ∃ba:LN,IsL fF H ta va ba∧ba.length<1073741824∧
  (∀(od:OA) (xd vd:Nat),∀H':zp,Grow H H'→OwnS fF H' H.length od xd vd ((z8h ga ja ba).2.2.1)→K ((z8h ga ja ba).1) ((z8h ga ja ba).2.1) od xd vd ((z8h ga ja ba).2.2.2) H')
theorem zv4 {ga ja:Int} {ta:OA} {va ya:Nat} {H:zp} {K:Int→Int→OA→Nat→Nat→Bool→zp→Prop} (h:∃ba:LN,IsL fF H ta va ba∧ba.length<1073741824∧
  (∀(od:OA) (xd vd:Nat),∀H':zp,Grow H H'→OwnS fF H' H.length od xd vd ((z8h ga ja ba).2.2.1)→K ((z8h ga ja ba).1) ((z8h ga ja ba).2.1) od xd vd ((z8h ga ja ba).2.2.2) H')):zv3 ga ja ta va ya H K:=h
theorem zx8 (W Hi:Int) (l:LN):((z8h W Hi l).2.2.1.length:Int)≤256:=by
 unfold z8h
 cases z1s W Hi l with
 | false=>show ((0:Nat):Int)≤256;omega
 | true=>exact zbt _ _ _
def E_fqz:Env:=envOf [(50,zm4),(82,S_fuz)]
def F_fqz (args:List Value) (H:zp):(Value→zp→Prop)→Prop:=match args with
 | [.agg ⟨[.int .i64 ga,.int .i64 ja,.slice ta va ya]⟩]=>fun K=>zv3 ga ja ta va ya H fun (tc:Int) (nc:Int) (ma:OA) (sa:Nat) (oa:Nat) (r2:Bool) (H':zp)=>K (.tuple #[.agg #[.int .i64 tc,.int .i64 nc,.slice ma sa oa],.bool r2]) H'
 | _=>fun _=>False
def S_fqz:FSpec:={F:=F_fqz,quiet:=false,tame:=true}
theorem z1io (ga ja:Int) (ta:OA) (va ya:Nat) (H:zp) (K:KT):zw Tryz.prog E_fqz Tryz.f38 [.agg #[.int .i64 ga,.int .i64 ja,.slice ta va ya]] H K=
 (Al [.int .i64 ga,.int .i64 ja,.slice ta va ya] H fun b1 H1=>Al [.int .i64 0,.int .i64 0,.slice none 0 0] H1 fun b2 H2=>∃(c1 c2:Int),∃vg:OA,∃(xg wg:Nat),  rdN H2 b1 0 3=some [.int .i64 c1,.int .i64 c2,.slice vg xg wg]∧zhn c1 c2 vg xg wg H2 fun (r1:Bool) (H3:zp)=>Br (!r1) (isOwn H3 b2∧(∃l,rdN H3 b2 0 3=some l)∧Lt (setN H3 b2 0 [.int .i64 0,.int .i64 0,.slice none 0 0]) fun H4=>∃(c4 c5:Int),∃eh:OA,∃(gh fh:Nat),  rdN H4 b2 0 3=some [.int .i64 c4,.int .i64 c5,.slice eh gh fh]∧K (.tuple #[.agg #[.int .i64 c4,.int .i64 c5,.slice eh gh fh],.bool false]) H4) (∃x1:Int,  rdC H3 b1 1=some (.int .i64 x1)∧∃x2:Int,  rdC H3 b1 0=some (.int .i64 x2)∧zv5 x1 x2 (.func 84) #[] #[.pointer (some ⟨b1,0,none⟩)] H3 fun (r2:Int) (r3:Int) (a1:OA) (r4:Nat) (r5:Nat) (r6:Bool) (H5:zp)=>isOwn H5 b2∧(∃l,rdN H5 b2 0 3=some l)∧Lt (setN H5 b2 0 [.int .i64 r2,.int .i64 r3,.slice a1 r4 r5]) fun H6=>∃(c7 c8:Int),∃sh:OA,∃(uh th:Nat),  rdN H6 b2 0 3=some [.int .i64 c7,.int .i64 c8,.slice sh uh th]∧K (.tuple #[.agg #[.int .i64 c7,.int .i64 c8,.slice sh uh th],.bool r6]) H6)):=by kernel_rfl
theorem zzv:∀g,FnOk Tryz.prog g (E_fqz g):=FnOk.envOf (by
 intro x hx
 simp only [List.mem_cons,List.not_mem_nil,or_false] at hx
 rcases hx with rfl | rfl
 ·exact f8z_ok
 ·exact z19p)
theorem zj3 {H:zp} {b:Nat} {la:OA} {ln le:Nat} {l:LN} {W Hi:Int} (o:Own H b [.int .i64 W,.int .i64 Hi,.slice la ln le]) (il:IsL fF H la ln l) (bl:l.length<1073741824) (h2:W≤16) (h4:Hi≤16) (hl:(l.length:Int)=W*Hi):
  zhh z6g (.func (.func 84) #[] #[.pointer (some ⟨b,0,none⟩)]) H Hi W (swapF l W):=by
 intro u v u0 u1 v0 v1 _ _ H1 gg K hK
 refine (?_:T_fez u v b H1 fun r H'=>K (.float .f32 r) H')
 exact ⟨W,Hi,la,ln,le,l,((o.grow gg).rdN (nbl rfl)).trans rfl,il.grow gg,bl,u0,v0,u1,v1,h2,h4,hl,hK H1 (Grow.refl H1)⟩
theorem z13s (ga ja:Int) (ta:OA) (va ya:Nat) (H:zp) (K:KT) (h:zv3 ga ja ta va ya H fun (tc:Int) (nc:Int) (ma:OA) (sa:Nat) (oa:Nat) (r2:Bool) (H':zp)=>K (.tuple #[.agg #[.int .i64 tc,.int .i64 nc,.slice ma sa oa],.bool r2]) H'):zw Tryz.prog E_fqz Tryz.f38 [.agg #[.int .i64 ga,.int .i64 ja,.slice ta va ya]] H K:=by
 rw [z1io]
 obtain ⟨l,il,bl,hk⟩:=h
 obtain rfl:=il.eqn
 have ep:z8h ga ja l=(bif z1s ga ja l then z9l ja ga (swapF l ga) else (0,0,[],false)):=rfl
 rw [ep] at hk
 refine Al.intro fun b1 H1 e1 l1 g1 o1=>Al.intro fun b2 H2 e2 l2 g2 o2=>?_
 have p1:=o1.grow g2
 have G2:Grow H H2:=g1.trans g2
 refine ⟨ga,ja,ta,l.length,ya,(p1.rdN (nbl rfl)).trans rfl,zbx ⟨l,il.grow G2,bl,fun H3 g3=>?_⟩⟩
 have q2:=o2.grow g3
 refine Br.intro (fun hp=>?_) (fun hp=>?_)
 ·refine Lt.setN q2 (n:=3) ω22 rfl fun H4 l4 q4 k4=>⟨0,0,none,0,0,(q4.rdN (nbl rfl)).trans rfl,?_⟩
  rw [z1g hp,cond_false] at hk
  exact hk none 0 0 H4 ((G2.trans g3).keep ω2 k4) (OwnS.nil _ _ _ _)
 have hpv:=z1d hp
 rw [hpv,cond_true] at hk
 obtain ⟨w1,w2,w3,w4,w5,w6,w7⟩:=f8z_t hpv
 have q1:=p1.grow g3
 have G3:Grow H H3:=G2.trans g3
 refine ⟨ja,(q1.rdC 1).trans rfl,ga,(q1.rdC 0).trans rfl,zv6 ⟨swapF l ga,rfl,zj3 q1 (il.grow G3) bl w2 w4 w5,fun a n e H5 g5 o5=>?_⟩⟩
 have lo:=o5.lo
 have hle:=G3.1
 refine Lt.setN (q2.grow g5) (n:=3) ω22 rfl fun H6 l6 q6 k6=>⟨_,_,a,n,e,(q6.rdN (nbl rfl)).trans rfl,?_⟩
 exact hk a n e H6 ((G3.trans g5).keep ω2 k6) ((o5.keepA (fun x y hx hy=>by cases hx;have:=lo y hy;have:=q2.lt;show b2≠_;omega) (OwnS.keep1 k6)).weak hle)
theorem z1in:FnOk Tryz.prog 38 S_fqz:=FnOk.bodyF mix_ok zzv Tryz.func38 rfl ω10 ω10 fun args H=>by
 unfold F_fqz
 split
 ·refine ⟨?_,?_,?_,?_,fun K hk=>z13s _ _ _ _ _ H K hk⟩
  ·intro K K' h hk;obtain ⟨l,i,b,k⟩:=hk;exact ⟨l,i,b,(fun od xd vd H' gg ow0=>h _ _ (k od xd vd H' gg ow0))⟩
  ·nofun
  ·intro K hk;obtain ⟨l,i,b,k⟩:=hk;exact z4i fun a n e H1 g o=>⟨_,_,k a n e H1 g o⟩
  ·intro _ K hk;obtain ⟨l,i,b,k⟩:=hk;exact ⟨l,i,b,(fun od xd vd H' gg ow0=>⟨gg,k od xd vd H' gg ow0⟩)⟩
 ·exact Nice.no

def zct (env:Env) (x:Value) (H:zp) (ch:Int→Int→LN→PicT):Prop:=
 ∀(W Hi:Int) (la:OA) (ln le:Nat) (l:LN) (H1:zp),Grow H H1→IsL fF H1 la ln l→l.length<1073741824→∀K:Value→zp→Prop,
  (∀(a:OA) (n e:Nat) (H2:zp),Grow H1 H2→OwnS fF H2 H1.length a n e (ch W Hi l).2.2.1→K (.tuple #[.agg #[.int .i64 (ch W Hi l).1,.int .i64 (ch W Hi l).2.1,.slice a n e],.bool (ch W Hi l).2.2.2]) H2)→
  zff env x [.agg #[.int .i64 W,.int .i64 Hi,.slice la ln le]] H1 K
theorem zct.grow {env:Env} {x:Value} {H H':zp} {ch:Int→Int→LN→PicT} (h:zct env x H ch) (g:Grow H H'):zct env x H' ch:=
 fun W Hi la ln le l H1 g1=>h W Hi la ln le l H1 (g.trans g1)
theorem ext0 {u v:Value} {K:Value→Prop}:extV (.tuple #[u,v]) 0 K=K u:=rfl
theorem ext1 {u v:Value} {K:Value→Prop}:extV (.tuple #[u,v]) 1 K=K v:=rfl
theorem zz0 {r:Bool} {F:Bool→Prop}:(unK .not (.bool r) fun w=>zac w F)=F (!r):=rfl
def z6n (ch:Int→Int→LN→PicT) (W Hi:Int) (l:LN):PicT:=z5y (z8h W Hi l) fun a b c=>z5y (ch a b c) fun a b c=>z8h a b c
theorem z12i (ch:Int→Int→LN→PicT) (W Hi:Int) (l:LN):(z6n ch W Hi l).2.2.1.length≤1024:=by
 unfold z6n
 generalize z8h W Hi l=q
 cases h:q.2.2.2 with
 | false=>rw [z3u h];exact Nat.zero_le _
 | true=>
  rw [z1w h]
  generalize ch q.1 q.2.1 q.2.2.1=r
  cases h2:r.2.2.2 with
  | false=>rw [z3u h2];exact Nat.zero_le _
  | true=>
   rw [z1w h2]
   have:=zx8 r.1 r.2.1 r.2.2.1
   omega
def zce:Env:=envOf [(38,S_fqz),(63,S_f5z)]
def zo4 (ga ja:Int) (ta:OA) (va ya:Nat) (change_f:Fn) (change_x:Array Value) (change_y:Array Value) (H:zp) (K:Int→Int→OA→Nat→Nat→Bool→zp→Prop):Prop:=
 ∃(l:LN) (ch:Int→Int→LN→PicT),IsL fF H ta va l∧l.length<1073741824∧(∀W Hi l,(ch W Hi l).2.2.1.length≤1024)∧zct zce (.func change_f change_x change_y) H ch∧
  (∀(od:OA) (xd vd:Nat),∀H':zp,Grow H H'→OwnS fF H' H.length od xd vd ((z6n ch ga ja l).2.2.1)→K ((z6n ch ga ja l).1) ((z6n ch ga ja l).2.1) od xd vd ((z6n ch ga ja l).2.2.2) H')
theorem z10t {ga ja:Int} {ta:OA} {va ya:Nat} {change_f:Fn} {change_x:Array Value} {change_y:Array Value} {H:zp} {K:Int→Int→OA→Nat→Nat→Bool→zp→Prop} (h:∃(l:LN) (ch:Int→Int→LN→PicT),IsL fF H ta va l∧l.length<1073741824∧(∀W Hi l,(ch W Hi l).2.2.1.length≤1024)∧zct zce (.func change_f change_x change_y) H ch∧
  (∀(od:OA) (xd vd:Nat),∀H':zp,Grow H H'→OwnS fF H' H.length od xd vd ((z6n ch ga ja l).2.2.1)→K ((z6n ch ga ja l).1) ((z6n ch ga ja l).2.1) od xd vd ((z6n ch ga ja l).2.2.2) H')):zo4 ga ja ta va ya change_f change_x change_y H K:=h
def z16z (args:List Value) (H:zp):(Value→zp→Prop)→Prop:=match args with
 | [.agg ⟨[.int .i64 ga,.int .i64 ja,.slice ta va ya]⟩,.func change_f change_x change_y]=>fun K=>zo4 ga ja ta va ya change_f change_x change_y H fun (tc:Int) (nc:Int) (ma:OA) (sa:Nat) (oa:Nat) (r2:Bool) (H':zp)=>K (.tuple #[.agg #[.int .i64 tc,.int .i64 nc,.slice ma sa oa],.bool r2]) H'
 | _=>fun _=>False
def znq:FSpec:={F:=z16z,quiet:=false,tame:=false}
theorem z1cl (ga ja:Int) (ta:OA) (va ya:Nat) (change_f:Fn) (change_x:Array Value) (change_y:Array Value) (H:zp) (K:KT):zw Tryz.prog zce Tryz.f57 [.agg #[.int .i64 ga,.int .i64 ja,.slice ta va ya],.func change_f change_x change_y] H K=
 (Al [.int .i64 ga,.int .i64 ja,.slice ta va ya] H fun b1 H1=>Al [.int .i64 0,.int .i64 0,.slice none 0 0] H1 fun b2 H2=>∃(c1 c2:Int),∃vg:OA,∃(xg wg:Nat),  rdN H2 b1 0 3=some [.int .i64 c1,.int .i64 c2,.slice vg xg wg]∧zv3 c1 c2 vg xg wg H2 fun (r1:Int) (r2:Int) (a1:OA) (r3:Nat) (r4:Nat) (r5:Bool) (H3:zp)=>Al [.int .i64 0,.int .i64 0,.slice none 0 0] H3 fun b3 H4=>isOwn H4 b3∧(∃l,rdN H4 b3 0 3=some l)∧Lt (setN H4 b3 0 [.int .i64 r1,.int .i64 r2,.slice a1 r3 r4]) fun H5=>Br (!r5) (isOwn H5 b2∧(∃l,rdN H5 b2 0 3=some l)∧Lt (setN H5 b2 0 [.int .i64 0,.int .i64 0,.slice none 0 0]) fun H6=>∃(c4 c5:Int),∃eh:OA,∃(gh fh:Nat),  rdN H6 b2 0 3=some [.int .i64 c4,.int .i64 c5,.slice eh gh fh]∧K (.tuple #[.agg #[.int .i64 c4,.int .i64 c5,.slice eh gh fh],.bool false]) H6) (∃(c7 c8:Int),∃sh:OA,∃(uh th:Nat),  rdN H5 b3 0 3=some [.int .i64 c7,.int .i64 c8,.slice sh uh th]∧zff zce (.func change_f change_x change_y) [.agg #[.int .i64 c7,.int .i64 c8,.slice sh uh th]] H5 fun (w1:Value) (H7:zp)=>extV w1 0 fun (w2:Value)=>extV w1 1 fun (w3:Value)=>stN 3 w2 H7 b3 0 fun (H8:zp)=>unK .not w3 fun (w4:Value)=>zac w4 fun (t1:Bool)=>Br t1 (isOwn H8 b2∧(∃l,rdN H8 b2 0 3=some l)∧Lt (setN H8 b2 0 [.int .i64 0,.int .i64 0,.slice none 0 0]) fun H9=>∃(c10 c11:Int),∃ri:OA,∃(ti si:Nat),  rdN H9 b2 0 3=some [.int .i64 c10,.int .i64 c11,.slice ri ti si]∧K (.tuple #[.agg #[.int .i64 c10,.int .i64 c11,.slice ri ti si],.bool false]) H9) (∃(c13 c14:Int),∃lj:OA,∃(nj mj:Nat),  rdN H8 b3 0 3=some [.int .i64 c13,.int .i64 c14,.slice lj nj mj]∧zv3 c13 c14 lj nj mj H8 fun (r6:Int) (r7:Int) (a2:OA) (r8:Nat) (r9:Nat) (r10:Bool) (H10:zp)=>isOwn H10 b2∧(∃l,rdN H10 b2 0 3=some l)∧Lt (setN H10 b2 0 [.int .i64 r6,.int .i64 r7,.slice a2 r8 r9]) fun H11=>∃(c16 c17:Int),∃dk:OA,∃(gk fk:Nat),  rdN H11 b2 0 3=some [.int .i64 c16,.int .i64 c17,.slice dk gk fk]∧K (.tuple #[.agg #[.int .i64 c16,.int .i64 c17,.slice dk gk fk],.bool r10]) H11))):=by kernel_rfl
theorem ztd:∀g,FnOkX Tryz.prog (MainCls Tryz.prog) g (zce g):=FnOkX.envOf (by
 intro x hx
 simp only [List.mem_cons,List.not_mem_nil,or_false] at hx
 rcases hx with rfl | rfl
 ·exact z1in.le fun _ _ _=>trivial
 ·exact f5z_ok)
theorem ω31 {P:Prop} (h:P:=by have:=o2.lt;have:=g3.1;omega):P:=h
theorem ω32 {P:Prop} (h:P:=by have:=G2.1;have:=g3.1;omega):P:=h
theorem zw3 (ga ja:Int) (ta:OA) (va ya:Nat) (change_f:Fn) (change_x:Array Value) (change_y:Array Value) (H:zp) (K:KT) (h:zo4 ga ja ta va ya change_f change_x change_y H fun (tc:Int) (nc:Int) (ma:OA) (sa:Nat) (oa:Nat) (r2:Bool) (H':zp)=>K (.tuple #[.agg #[.int .i64 tc,.int .i64 nc,.slice ma sa oa],.bool r2]) H'):zw Tryz.prog zce Tryz.f57 [.agg #[.int .i64 ga,.int .i64 ja,.slice ta va ya],.func change_f change_x change_y] H K:=by
 rw [z1cl]
 obtain ⟨l,ch,il,bl,hlen,hch,hk⟩:=h
 obtain rfl:=il.eqn
 have ep:z6n ch ga ja l=z5y (z8h ga ja l) fun a b c=>z5y (ch a b c) fun a b c=>z8h a b c:=rfl
 rw [ep] at hk
 refine Al.intro fun b1 H1 e1 l1 g1 o1=>Al.intro fun b2 H2 e2 l2 g2 o2=>?_
 have G2:Grow H H2:=g1.trans g2
 refine ⟨ga,ja,ta,l.length,ya,((o1.grow g2).rdN (nbl rfl)).trans rfl,zv4 ⟨l,il.grow G2,bl,fun a n e H3 g3 w3=>?_⟩⟩
 have sl:=zx8 ga ja l
 generalize z8h ga ja l=q at *
 refine Al.intro fun b3 H4 e4 l4 g4 o4=>Lt.setN o4 (n:=3) ω22 rfl fun H5 l5 o5 k5=>?_
 have up3:=w3.up
 have lo3:=w3.lo
 have s3:=(w3.grow g4).keepA (fun x y hx hy=>by cases hx;have:=up3 y hy;show b3≠_;omega) (OwnS.keep1 k5)
 have c2:=((o2.grow g3).grow g4).keep (b':=b3) ω31 k5
 have G5:Grow H H5:=((G2.trans g3).trans g4).keep ω32 k5
 refine Br.intro (fun hp=>?_) (fun hp=>?_)
 ·refine Lt.setN c2 (n:=3) ω22 rfl fun H6 l6 q6 k6=>⟨0,0,none,0,0,(q6.rdN (nbl rfl)).trans rfl,?_⟩
  rw [z3u (z1g hp)] at hk
  exact hk none 0 0 H6 (G5.keep ω2 k6) (OwnS.nil _ _ _ _)
 rw [z1w (z1d hp)] at hk
 refine ⟨q.1,q.2.1,a,n,e,(o5.rdN (nbl rfl)).trans rfl,?_⟩
 refine hch q.1 q.2.1 a n e q.2.2.1 H5 G5 s3.isL ω2 _ fun a7 n7 e7 H7 g7 w7=>?_
 rw [ext0,ext1,zit]
 have hl2:=hlen q.1 q.2.1 q.2.2.1
 generalize ch q.1 q.2.1 q.2.2.1=r at *
 refine Lt.setN (o5.grow g7) (n:=3) (nbl rfl) rfl fun H8 l8 o8 k8=>?_
 rw [zz0]
 have up7:=w7.up
 have lo7:=w7.lo
 have s7:=w7.keepA (fun x y hx hy=>by cases hx;have:=lo7 y hy;have:=o5.lt;show b3≠_;omega) (OwnS.keep1 k8)
 have d2:=(c2.grow g7).keep (b':=b3) ω31 k8
 have G8:Grow H H8:=(G5.trans g7).keep ω32 k8
 refine Br.intro (fun hp2=>?_) (fun hp2=>?_)
 ·refine Lt.setN d2 (n:=3) ω22 rfl fun H9 l9 q9 k9=>⟨0,0,none,0,0,(q9.rdN (nbl rfl)).trans rfl,?_⟩
  rw [z3u (z1g hp2)] at hk
  exact hk none 0 0 H9 (G8.keep ω2 k9) (OwnS.nil _ _ _ _)
 rw [z1w (z1d hp2)] at hk
 refine ⟨r.1,r.2.1,a7,n7,e7,(o8.rdN (nbl rfl)).trans rfl,zv4 ⟨r.2.2.1,s7.isL,by omega,fun a9 n9 e9 H10 g10 w10=>?_⟩⟩
 refine Lt.setN (d2.grow g10) (n:=3) ω22 rfl fun H11 l11 q11 k11=>⟨_,_,a9,n9,e9,(q11.rdN (nbl rfl)).trans rfl,?_⟩
 have lo10:=w10.lo
 have hle:=G8.1
 exact hk a9 n9 e9 H11 ((G8.trans g10).keep ω2 k11) ((w10.keepA (fun x y hx hy=>by cases hx;have:=lo10 y hy;have:=d2.lt;show b2≠_;omega) (OwnS.keep1 k11)).weak hle)
theorem z1ck:FnOkX Tryz.prog (MainCls Tryz.prog) 57 znq:=FnOkX.bodyF (hLt:=fun _=>z3h) mix_ok ztd Tryz.func57 rfl ω10 ω10 fun args H=>by
 unfold z16z
 split
 ·refine ⟨?_,?_,?_,?_,fun K hk=>zw3 _ _ _ _ _ _ _ _ H K hk⟩
  ·intro K K' h hk;obtain ⟨l,ch,i,b,hlen,hch,k⟩:=hk;exact ⟨l,ch,i,b,hlen,hch,(fun od xd vd H' gg ow0=>h _ _ (k od xd vd H' gg ow0))⟩
  ·nofun
  ·intro K hk;obtain ⟨l,ch,i,b,hlen,hch,k⟩:=hk;exact z4i fun a n e H1 g o=>⟨_,_,k a n e H1 g o⟩
  ·nofun
 ·exact Nice.no
end Go.Proofs.YthheoefadijhdaaGreat.Ai
