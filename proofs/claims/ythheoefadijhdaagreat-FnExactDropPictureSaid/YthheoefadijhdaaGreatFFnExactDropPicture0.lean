/- What functions of the program come to on the abstract machine, and that they do so; printed by a program of mine around proofs of mine. -/
import Derived.Test.YthheoefadijhdaaGreatProg
import Derived.Test.YthheoefadijhdaaGreatFFnExactDropPictureKt
import Derived.Test.YthheoefadijhdaaGreatFFnExactDropPictureOl
import Derived.Test.YthheoefadijhdaaGreatFFnExactDropPicturePi
import Derived.Test.YthheoefadijhdaaGreatFFnExactDropPictureRa
import Derived.Test.YthheoefadijhdaaGreatFFnExactDropPictureRd
import Derived.Test.YthheoefadijhdaaGreatFFnExactDropPictureSt
set_option linter.unusedVariables false
set_option linter.unusedSimpArgs false
set_option linter.defProp false
set_option maxRecDepth 100000
set_option maxHeartbeats 1000000
namespace Go.Proofs.YthheoefadijhdaaGreat.Ai
open Go
attribute [local irreducible] z5y z1a
theorem mix_ok:Tryz.prog.follows .mixedOrders=true:=by kernel_rfl
abbrev OA:=Option Addr
abbrev LN:=List Nat
abbrev KT:=Value→zq→Prop
abbrev ud2 (l:List Value):List Value:=ud::ud::l
abbrev ud3 (l:List Value):List Value:=ud::ud::ud::l
abbrev ud4 (l:List Value):List Value:=ud::ud::ud::ud::l
abbrev ud5 (l:List Value):List Value:=ud::ud::ud::ud::ud::l
abbrev ud6 (l:List Value):List Value:=ud::ud::ud::ud::ud::ud::l
abbrev ud7 (l:List Value):List Value:=ud::ud::ud::ud::ud::ud::ud::l
abbrev ud8 (l:List Value):List Value:=ud::ud::ud::ud::ud::ud::ud::ud::l
abbrev ud9 (l:List Value):List Value:=ud::ud::ud::ud::ud::ud::ud::ud::ud::l
abbrev ud10 (l:List Value):List Value:=ud::ud::ud::ud::ud::ud::ud::ud::ud::ud::l
abbrev ud11 (l:List Value):List Value:=ud::ud::ud::ud::ud::ud::ud::ud::ud::ud::ud::l
abbrev ud12 (l:List Value):List Value:=ud::ud::ud::ud::ud::ud::ud::ud::ud::ud::ud::ud::l
abbrev ud13 (l:List Value):List Value:=ud::ud::ud::ud::ud::ud::ud::ud::ud::ud::ud::ud::ud::l
abbrev ud14 (l:List Value):List Value:=ud::ud::ud::ud::ud::ud::ud::ud::ud::ud::ud::ud::ud::ud::l
abbrev ud16 (l:List Value):List Value:=ud::ud::ud::ud::ud::ud::ud::ud::ud::ud::ud::ud::ud::ud::ud::ud::l
abbrev ud17 (l:List Value):List Value:=ud::ud::ud::ud::ud::ud::ud::ud::ud::ud::ud::ud::ud::ud::ud::ud::ud::l
abbrev ud18 (l:List Value):List Value:=ud::ud::ud::ud::ud::ud::ud::ud::ud::ud::ud::ud::ud::ud::ud::ud::ud::ud::l
abbrev ud20 (l:List Value):List Value:=ud::ud::ud::ud::ud::ud::ud::ud::ud::ud::ud::ud::ud::ud::ud::ud::ud::ud::ud::ud::l
abbrev ud21 (l:List Value):List Value:=ud::ud::ud::ud::ud::ud::ud::ud::ud::ud::ud::ud::ud::ud::ud::ud::ud::ud::ud::ud::ud::l
abbrev ud23 (l:List Value):List Value:=ud::ud::ud::ud::ud::ud::ud::ud::ud::ud::ud::ud::ud::ud::ud::ud::ud::ud::ud::ud::ud::ud::ud::l
abbrev ud24 (l:List Value):List Value:=ud::ud::ud::ud::ud::ud::ud::ud::ud::ud::ud::ud::ud::ud::ud::ud::ud::ud::ud::ud::ud::ud::ud::ud::l
abbrev ud25 (l:List Value):List Value:=ud::ud::ud::ud::ud::ud::ud::ud::ud::ud::ud::ud::ud::ud::ud::ud::ud::ud::ud::ud::ud::ud::ud::ud::ud::l
abbrev ud27 (l:List Value):List Value:=ud::ud::ud::ud::ud::ud::ud::ud::ud::ud::ud::ud::ud::ud::ud::ud::ud::ud::ud::ud::ud::ud::ud::ud::ud::ud::ud::l
abbrev ud28 (l:List Value):List Value:=ud::ud::ud::ud::ud::ud::ud::ud::ud::ud::ud::ud::ud::ud::ud::ud::ud::ud::ud::ud::ud::ud::ud::ud::ud::ud::ud::ud::l
abbrev ud29 (l:List Value):List Value:=ud::ud::ud::ud::ud::ud::ud::ud::ud::ud::ud::ud::ud::ud::ud::ud::ud::ud::ud::ud::ud::ud::ud::ud::ud::ud::ud::ud::ud::l
abbrev ud30 (l:List Value):List Value:=ud::ud::ud::ud::ud::ud::ud::ud::ud::ud::ud::ud::ud::ud::ud::ud::ud::ud::ud::ud::ud::ud::ud::ud::ud::ud::ud::ud::ud::ud::l
abbrev ud31 (l:List Value):List Value:=ud::ud::ud::ud::ud::ud::ud::ud::ud::ud::ud::ud::ud::ud::ud::ud::ud::ud::ud::ud::ud::ud::ud::ud::ud::ud::ud::ud::ud::ud::ud::l
abbrev ud32 (l:List Value):List Value:=ud::ud::ud::ud::ud::ud::ud::ud::ud::ud::ud::ud::ud::ud::ud::ud::ud::ud::ud::ud::ud::ud::ud::ud::ud::ud::ud::ud::ud::ud::ud::ud::l
abbrev ud34 (l:List Value):List Value:=ud::ud::ud::ud::ud::ud::ud::ud::ud::ud::ud::ud::ud::ud::ud::ud::ud::ud::ud::ud::ud::ud::ud::ud::ud::ud::ud::ud::ud::ud::ud::ud::ud::ud::l
abbrev ud35 (l:List Value):List Value:=ud::ud::ud::ud::ud::ud::ud::ud::ud::ud::ud::ud::ud::ud::ud::ud::ud::ud::ud::ud::ud::ud::ud::ud::ud::ud::ud::ud::ud::ud::ud::ud::ud::ud::ud::l
abbrev ud37 (l:List Value):List Value:=ud::ud::ud::ud::ud::ud::ud::ud::ud::ud::ud::ud::ud::ud::ud::ud::ud::ud::ud::ud::ud::ud::ud::ud::ud::ud::ud::ud::ud::ud::ud::ud::ud::ud::ud::ud::ud::l
abbrev ud38 (l:List Value):List Value:=ud::ud::ud::ud::ud::ud::ud::ud::ud::ud::ud::ud::ud::ud::ud::ud::ud::ud::ud::ud::ud::ud::ud::ud::ud::ud::ud::ud::ud::ud::ud::ud::ud::ud::ud::ud::ud::ud::l
abbrev ud39 (l:List Value):List Value:=ud::ud::ud::ud::ud::ud::ud::ud::ud::ud::ud::ud::ud::ud::ud::ud::ud::ud::ud::ud::ud::ud::ud::ud::ud::ud::ud::ud::ud::ud::ud::ud::ud::ud::ud::ud::ud::ud::ud::l
abbrev ud40 (l:List Value):List Value:=ud::ud::ud::ud::ud::ud::ud::ud::ud::ud::ud::ud::ud::ud::ud::ud::ud::ud::ud::ud::ud::ud::ud::ud::ud::ud::ud::ud::ud::ud::ud::ud::ud::ud::ud::ud::ud::ud::ud::ud::l
abbrev ud44 (l:List Value):List Value:=ud::ud::ud::ud::ud::ud::ud::ud::ud::ud::ud::ud::ud::ud::ud::ud::ud::ud::ud::ud::ud::ud::ud::ud::ud::ud::ud::ud::ud::ud::ud::ud::ud::ud::ud::ud::ud::ud::ud::ud::ud::ud::ud::ud::l
abbrev ud47 (l:List Value):List Value:=ud::ud::ud::ud::ud::ud::ud::ud::ud::ud::ud::ud::ud::ud::ud::ud::ud::ud::ud::ud::ud::ud::ud::ud::ud::ud::ud::ud::ud::ud::ud::ud::ud::ud::ud::ud::ud::ud::ud::ud::ud::ud::ud::ud::ud::ud::ud::l
abbrev ud48 (l:List Value):List Value:=ud::ud::ud::ud::ud::ud::ud::ud::ud::ud::ud::ud::ud::ud::ud::ud::ud::ud::ud::ud::ud::ud::ud::ud::ud::ud::ud::ud::ud::ud::ud::ud::ud::ud::ud::ud::ud::ud::ud::ud::ud::ud::ud::ud::ud::ud::ud::ud::l
abbrev ud49 (l:List Value):List Value:=ud::ud::ud::ud::ud::ud::ud::ud::ud::ud::ud::ud::ud::ud::ud::ud::ud::ud::ud::ud::ud::ud::ud::ud::ud::ud::ud::ud::ud::ud::ud::ud::ud::ud::ud::ud::ud::ud::ud::ud::ud::ud::ud::ud::ud::ud::ud::ud::ud::l
abbrev ud50 (l:List Value):List Value:=ud::ud::ud::ud::ud::ud::ud::ud::ud::ud::ud::ud::ud::ud::ud::ud::ud::ud::ud::ud::ud::ud::ud::ud::ud::ud::ud::ud::ud::ud::ud::ud::ud::ud::ud::ud::ud::ud::ud::ud::ud::ud::ud::ud::ud::ud::ud::ud::ud::ud::l
abbrev ud51 (l:List Value):List Value:=ud::ud::ud::ud::ud::ud::ud::ud::ud::ud::ud::ud::ud::ud::ud::ud::ud::ud::ud::ud::ud::ud::ud::ud::ud::ud::ud::ud::ud::ud::ud::ud::ud::ud::ud::ud::ud::ud::ud::ud::ud::ud::ud::ud::ud::ud::ud::ud::ud::ud::ud::l
abbrev ud52 (l:List Value):List Value:=ud::ud::ud::ud::ud::ud::ud::ud::ud::ud::ud::ud::ud::ud::ud::ud::ud::ud::ud::ud::ud::ud::ud::ud::ud::ud::ud::ud::ud::ud::ud::ud::ud::ud::ud::ud::ud::ud::ud::ud::ud::ud::ud::ud::ud::ud::ud::ud::ud::ud::ud::ud::l
abbrev ud53 (l:List Value):List Value:=ud::ud::ud::ud::ud::ud::ud::ud::ud::ud::ud::ud::ud::ud::ud::ud::ud::ud::ud::ud::ud::ud::ud::ud::ud::ud::ud::ud::ud::ud::ud::ud::ud::ud::ud::ud::ud::ud::ud::ud::ud::ud::ud::ud::ud::ud::ud::ud::ud::ud::ud::ud::ud::l
abbrev ud54 (l:List Value):List Value:=ud::ud::ud::ud::ud::ud::ud::ud::ud::ud::ud::ud::ud::ud::ud::ud::ud::ud::ud::ud::ud::ud::ud::ud::ud::ud::ud::ud::ud::ud::ud::ud::ud::ud::ud::ud::ud::ud::ud::ud::ud::ud::ud::ud::ud::ud::ud::ud::ud::ud::ud::ud::ud::ud::l
abbrev ud55 (l:List Value):List Value:=ud::ud::ud::ud::ud::ud::ud::ud::ud::ud::ud::ud::ud::ud::ud::ud::ud::ud::ud::ud::ud::ud::ud::ud::ud::ud::ud::ud::ud::ud::ud::ud::ud::ud::ud::ud::ud::ud::ud::ud::ud::ud::ud::ud::ud::ud::ud::ud::ud::ud::ud::ud::ud::ud::ud::l
abbrev ud56 (l:List Value):List Value:=ud::ud::ud::ud::ud::ud::ud::ud::ud::ud::ud::ud::ud::ud::ud::ud::ud::ud::ud::ud::ud::ud::ud::ud::ud::ud::ud::ud::ud::ud::ud::ud::ud::ud::ud::ud::ud::ud::ud::ud::ud::ud::ud::ud::ud::ud::ud::ud::ud::ud::ud::ud::ud::ud::ud::ud::l
abbrev ud59 (l:List Value):List Value:=ud::ud::ud::ud::ud::ud::ud::ud::ud::ud::ud::ud::ud::ud::ud::ud::ud::ud::ud::ud::ud::ud::ud::ud::ud::ud::ud::ud::ud::ud::ud::ud::ud::ud::ud::ud::ud::ud::ud::ud::ud::ud::ud::ud::ud::ud::ud::ud::ud::ud::ud::ud::ud::ud::ud::ud::ud::ud::ud::l
abbrev ud60 (l:List Value):List Value:=ud::ud::ud::ud::ud::ud::ud::ud::ud::ud::ud::ud::ud::ud::ud::ud::ud::ud::ud::ud::ud::ud::ud::ud::ud::ud::ud::ud::ud::ud::ud::ud::ud::ud::ud::ud::ud::ud::ud::ud::ud::ud::ud::ud::ud::ud::ud::ud::ud::ud::ud::ud::ud::ud::ud::ud::ud::ud::ud::ud::l
abbrev ud61 (l:List Value):List Value:=ud::ud::ud::ud::ud::ud::ud::ud::ud::ud::ud::ud::ud::ud::ud::ud::ud::ud::ud::ud::ud::ud::ud::ud::ud::ud::ud::ud::ud::ud::ud::ud::ud::ud::ud::ud::ud::ud::ud::ud::ud::ud::ud::ud::ud::ud::ud::ud::ud::ud::ud::ud::ud::ud::ud::ud::ud::ud::ud::ud::ud::l
abbrev ud62 (l:List Value):List Value:=ud::ud::ud::ud::ud::ud::ud::ud::ud::ud::ud::ud::ud::ud::ud::ud::ud::ud::ud::ud::ud::ud::ud::ud::ud::ud::ud::ud::ud::ud::ud::ud::ud::ud::ud::ud::ud::ud::ud::ud::ud::ud::ud::ud::ud::ud::ud::ud::ud::ud::ud::ud::ud::ud::ud::ud::ud::ud::ud::ud::ud::ud::l
abbrev ud65 (l:List Value):List Value:=ud::ud::ud::ud::ud::ud::ud::ud::ud::ud::ud::ud::ud::ud::ud::ud::ud::ud::ud::ud::ud::ud::ud::ud::ud::ud::ud::ud::ud::ud::ud::ud::ud::ud::ud::ud::ud::ud::ud::ud::ud::ud::ud::ud::ud::ud::ud::ud::ud::ud::ud::ud::ud::ud::ud::ud::ud::ud::ud::ud::ud::ud::ud::ud::ud::l
abbrev ud67 (l:List Value):List Value:=ud::ud::ud::ud::ud::ud::ud::ud::ud::ud::ud::ud::ud::ud::ud::ud::ud::ud::ud::ud::ud::ud::ud::ud::ud::ud::ud::ud::ud::ud::ud::ud::ud::ud::ud::ud::ud::ud::ud::ud::ud::ud::ud::ud::ud::ud::ud::ud::ud::ud::ud::ud::ud::ud::ud::ud::ud::ud::ud::ud::ud::ud::ud::ud::ud::ud::ud::l
abbrev ud68 (l:List Value):List Value:=ud::ud::ud::ud::ud::ud::ud::ud::ud::ud::ud::ud::ud::ud::ud::ud::ud::ud::ud::ud::ud::ud::ud::ud::ud::ud::ud::ud::ud::ud::ud::ud::ud::ud::ud::ud::ud::ud::ud::ud::ud::ud::ud::ud::ud::ud::ud::ud::ud::ud::ud::ud::ud::ud::ud::ud::ud::ud::ud::ud::ud::ud::ud::ud::ud::ud::ud::ud::l
abbrev ud94 (l:List Value):List Value:=ud::ud::ud::ud::ud::ud::ud::ud::ud::ud::ud::ud::ud::ud::ud::ud::ud::ud::ud::ud::ud::ud::ud::ud::ud::ud::ud::ud::ud::ud::ud::ud::ud::ud::ud::ud::ud::ud::ud::ud::ud::ud::ud::ud::ud::ud::ud::ud::ud::ud::ud::ud::ud::ud::ud::ud::ud::ud::ud::ud::ud::ud::ud::ud::ud::ud::ud::ud::ud::ud::ud::ud::ud::ud::ud::ud::ud::ud::ud::ud::ud::ud::ud::ud::ud::ud::ud::ud::ud::ud::ud::ud::ud::ud::l
abbrev ud95 (l:List Value):List Value:=ud::ud::ud::ud::ud::ud::ud::ud::ud::ud::ud::ud::ud::ud::ud::ud::ud::ud::ud::ud::ud::ud::ud::ud::ud::ud::ud::ud::ud::ud::ud::ud::ud::ud::ud::ud::ud::ud::ud::ud::ud::ud::ud::ud::ud::ud::ud::ud::ud::ud::ud::ud::ud::ud::ud::ud::ud::ud::ud::ud::ud::ud::ud::ud::ud::ud::ud::ud::ud::ud::ud::ud::ud::ud::ud::ud::ud::ud::ud::ud::ud::ud::ud::ud::ud::ud::ud::ud::ud::ud::ud::ud::ud::ud::ud::l
abbrev ud96 (l:List Value):List Value:=ud::ud::ud::ud::ud::ud::ud::ud::ud::ud::ud::ud::ud::ud::ud::ud::ud::ud::ud::ud::ud::ud::ud::ud::ud::ud::ud::ud::ud::ud::ud::ud::ud::ud::ud::ud::ud::ud::ud::ud::ud::ud::ud::ud::ud::ud::ud::ud::ud::ud::ud::ud::ud::ud::ud::ud::ud::ud::ud::ud::ud::ud::ud::ud::ud::ud::ud::ud::ud::ud::ud::ud::ud::ud::ud::ud::ud::ud::ud::ud::ud::ud::ud::ud::ud::ud::ud::ud::ud::ud::ud::ud::ud::ud::ud::ud::l
abbrev ud97 (l:List Value):List Value:=ud::ud::ud::ud::ud::ud::ud::ud::ud::ud::ud::ud::ud::ud::ud::ud::ud::ud::ud::ud::ud::ud::ud::ud::ud::ud::ud::ud::ud::ud::ud::ud::ud::ud::ud::ud::ud::ud::ud::ud::ud::ud::ud::ud::ud::ud::ud::ud::ud::ud::ud::ud::ud::ud::ud::ud::ud::ud::ud::ud::ud::ud::ud::ud::ud::ud::ud::ud::ud::ud::ud::ud::ud::ud::ud::ud::ud::ud::ud::ud::ud::ud::ud::ud::ud::ud::ud::ud::ud::ud::ud::ud::ud::ud::ud::ud::ud::l
abbrev ud98 (l:List Value):List Value:=ud::ud::ud::ud::ud::ud::ud::ud::ud::ud::ud::ud::ud::ud::ud::ud::ud::ud::ud::ud::ud::ud::ud::ud::ud::ud::ud::ud::ud::ud::ud::ud::ud::ud::ud::ud::ud::ud::ud::ud::ud::ud::ud::ud::ud::ud::ud::ud::ud::ud::ud::ud::ud::ud::ud::ud::ud::ud::ud::ud::ud::ud::ud::ud::ud::ud::ud::ud::ud::ud::ud::ud::ud::ud::ud::ud::ud::ud::ud::ud::ud::ud::ud::ud::ud::ud::ud::ud::ud::ud::ud::ud::ud::ud::ud::ud::ud::ud::l
abbrev ud99 (l:List Value):List Value:=ud::ud::ud::ud::ud::ud::ud::ud::ud::ud::ud::ud::ud::ud::ud::ud::ud::ud::ud::ud::ud::ud::ud::ud::ud::ud::ud::ud::ud::ud::ud::ud::ud::ud::ud::ud::ud::ud::ud::ud::ud::ud::ud::ud::ud::ud::ud::ud::ud::ud::ud::ud::ud::ud::ud::ud::ud::ud::ud::ud::ud::ud::ud::ud::ud::ud::ud::ud::ud::ud::ud::ud::ud::ud::ud::ud::ud::ud::ud::ud::ud::ud::ud::ud::ud::ud::ud::ud::ud::ud::ud::ud::ud::ud::ud::ud::ud::ud::ud::l
abbrev ud100 (l:List Value):List Value:=ud::ud::ud::ud::ud::ud::ud::ud::ud::ud::ud::ud::ud::ud::ud::ud::ud::ud::ud::ud::ud::ud::ud::ud::ud::ud::ud::ud::ud::ud::ud::ud::ud::ud::ud::ud::ud::ud::ud::ud::ud::ud::ud::ud::ud::ud::ud::ud::ud::ud::ud::ud::ud::ud::ud::ud::ud::ud::ud::ud::ud::ud::ud::ud::ud::ud::ud::ud::ud::ud::ud::ud::ud::ud::ud::ud::ud::ud::ud::ud::ud::ud::ud::ud::ud::ud::ud::ud::ud::ud::ud::ud::ud::ud::ud::ud::ud::ud::ud::ud::l
abbrev ud101 (l:List Value):List Value:=ud::ud::ud::ud::ud::ud::ud::ud::ud::ud::ud::ud::ud::ud::ud::ud::ud::ud::ud::ud::ud::ud::ud::ud::ud::ud::ud::ud::ud::ud::ud::ud::ud::ud::ud::ud::ud::ud::ud::ud::ud::ud::ud::ud::ud::ud::ud::ud::ud::ud::ud::ud::ud::ud::ud::ud::ud::ud::ud::ud::ud::ud::ud::ud::ud::ud::ud::ud::ud::ud::ud::ud::ud::ud::ud::ud::ud::ud::ud::ud::ud::ud::ud::ud::ud::ud::ud::ud::ud::ud::ud::ud::ud::ud::ud::ud::ud::ud::ud::ud::ud::l
set_option maxHeartbeats 1000000

def zck (l_a:LN) (left:Int):Int:=(bif decide ((IntKind.wrap .i64 (left-(l_a.length:Int)):Int)<0) then ((-1):Int) else IntKind.wrap .i64 (left-(l_a.length:Int)))
def zoz:=@zck.eq_1
def zty (a_a:OA) (a_n a_e:Nat) (left:Int) (H:zq) (K:Int→zq→Prop):Prop:=∃(l_a:LN),IsL fF H a_a a_n l_a∧K (zck l_a left) H
theorem ztz {a_a:OA} {a_n a_e:Nat} {left:Int} {H:zq} {K:Int→zq→Prop} (h:∃(l_a:LN),IsL fF H a_a a_n l_a∧K (zck l_a left) H):zty a_a a_n a_e left H K:=h
theorem ω2 {P:Prop} (h:P:=by omega):P:=h
theorem foz_f (l:LN) (left:Int):0≤left→left≤1048576→l.length≤9223372036854775807→zck l left<0∨(l.length:Int)≤left∧zck l left=left-l.length:=by
 intro h0 h1 h2
 rw [zoz,zu ω2 ω2]
 by_cases h:left-(l.length:Int)<0
 ·rw [decide_eq_true h,cond_true];left;decide
 ·rw [decide_eq_false h,cond_false];right;omega
/-! foz: function 44 -/
def E_foz:Env:=envOf []
def F_foz (args:List Value) (H:zq):(Value→zq→Prop)→Prop:=match args with
 | [.slice a_a a_n a_e,.int .i64 left]=>fun K=>zty a_a a_n a_e left H fun (r1:Int) (H':zq)=>K (.int .i64 r1) H'
 | _=>fun _=>False
def S_foz:FSpec:={F:=F_foz,quiet:=true,tame:=false}
theorem z1gw (a_a:OA) (a_n a_e:Nat) (left:Int) (H:zq) (K:KT):z1a Tryz.prog E_foz Tryz.f44 [.slice a_a a_n a_e,.int .i64 left] H K=
 (Br (decide ((IntKind.wrap .i64 (left-(a_n:Int)):Int)<0)) (K (.int .i64 (-1)) H) (K (.int .i64 (IntKind.wrap .i64 (left-(a_n:Int)))) H)):=by kernel_rfl
theorem zyt:∀g,FnOk Tryz.prog g (E_foz g):=FnOk.envOf (by
 intro x hx;cases hx)
theorem z11y (a_a:OA) (a_n a_e:Nat) (left:Int) (H:zq) (K:KT) (h:zty a_a a_n a_e left H fun (r1:Int) (H':zq)=>K (.int .i64 r1) H'):z1a Tryz.prog E_foz Tryz.f44 [.slice a_a a_n a_e,.int .i64 left] H K:=by
 rw [z1gw]
 obtain ⟨l_a,i_a,hk⟩:=h
 obtain rfl:=i_a.eqn
 have e:(zck l_a left)=_:=rfl
 have e:=e.trans (zoz l_a left)
 have g0:=Grow.refl H
 refine Br.intro (fun c_1=>?_) (fun c_1=>?_)
 ·have e:=e.trans (zw c_1)
  have c_1':=of_decide_eq_true c_1
  rw [e] at hk
  exact hk
 ·have e:=e.trans (zv c_1)
  have c_1':=of_decide_eq_false c_1
  rw [e] at hk
  exact hk
theorem ω9 {P:Prop} (h:P:=by kernel_rfl):P:=h
theorem z17o:FnOk Tryz.prog 44 S_foz:=FnOk.bodyF mix_ok zyt Tryz.func44 rfl ω9 ω9 fun args H=>by
 unfold F_foz
 split
 ·refine ⟨?_,?_,?_,?_,fun K hk=>z11y _ _ _ _ H K hk⟩
  ·intro K K' h hk;obtain ⟨l_a,i_a,k⟩:=hk;exact ⟨l_a,i_a,h _ _ k⟩
  ·intro _ K hk;obtain ⟨l_a,i_a,k⟩:=hk;exact ⟨_,k,fun K' k'=>⟨l_a,i_a,k'⟩⟩
  ·intro K hk;obtain ⟨l_a,i_a,k⟩:=hk;exact ⟨_,_,k⟩
  ·nofun
 ·exact Nice.no

def z8e (lb:LN) (ie:Nat) (left:Int):Int:=(bif decide (((zck lb left):Int)<0) then ((-1):Int) else (zck lb left))
def zki:=@z8e.eq_1
def zni (gc:OA) (zc jd ie:Nat) (left:Int) (H:zq) (K:Int→zq→Prop):Prop:=∃(lb:LN),IsL fF H gc zc lb∧((∀H':zq,Grow H H'→K (z8e lb ie left) H'))
theorem zze {gc:OA} {zc jd ie:Nat} {left:Int} {H:zq} {K:Int→zq→Prop} (h:∃(lb:LN),IsL fF H gc zc lb∧((∀H':zq,Grow H H'→K (z8e lb ie left) H'))):zni gc zc jd ie left H K:=h
theorem z17h (l:LN) (sc:Nat) (left:Int):0≤left→left≤1048576→l.length≤9223372036854775807→z8e l sc left<0∨(l.length:Int)≤left∧z8e l sc left=left-l.length:=by
 intro h0 h1 h2
 have:=foz_f l left h0 h1 h2
 rw [zki]
 by_cases h:zck l left<0
 ·rw [decide_eq_true h,cond_true];left;decide
 ·rw [decide_eq_false h,cond_false];right;omega
/-! f1cz: function 9 -/
def zsa:Env:=envOf [(44,S_foz)]
def z15d (args:List Value) (H:zq):(Value→zq→Prop)→Prop:=match args with
 | [.agg ⟨[.slice gc zc jd,.float .f32 ie]⟩,.int .i64 left]=>fun K=>zni gc zc jd ie left H fun (r1:Int) (H':zq)=>K (.int .i64 r1) H'
 | _=>fun _=>False
def z16j:FSpec:={F:=z15d,quiet:=false,tame:=true}
theorem z1ad (gc:OA) (zc jd ie:Nat) (left:Int) (H:zq) (K:KT):z1a Tryz.prog zsa Tryz.f9 [.agg #[.slice gc zc jd,.float .f32 ie],.int .i64 left] H K=
 (Al [.slice gc zc jd,.float .f32 ie] H fun b1 H1=>∃fh:OA,∃bh:Nat,∃qh:Nat,  rdC H1 b1 0=some (.slice fh bh qh)∧zty fh bh qh left H1 fun (r1:Int) (H2:zq)=>Br (decide ((r1:Int)<0)) (K (.int .i64 (-1)) H2) (K (.int .i64 r1) H2)):=by kernel_rfl
theorem zsb:∀g,FnOk Tryz.prog g (zsa g):=FnOk.envOf (by
 intro x hx
 simp only [List.mem_cons,List.not_mem_nil,or_false] at hx
 subst hx;exact z17o)
theorem zut (gc:OA) (zc jd ie:Nat) (left:Int) (H:zq) (K:KT) (h:zni gc zc jd ie left H fun (r1:Int) (H':zq)=>K (.int .i64 r1) H'):z1a Tryz.prog zsa Tryz.f9 [.agg #[.slice gc zc jd,.float .f32 ie],.int .i64 left] H K:=by
 rw [z1ad]
 obtain ⟨lb,af,hk⟩:=h
 obtain rfl:=af.eqn
 have e:(z8e lb ie left)=_:=rfl
 have e:=e.trans (zki lb ie left)
 have g0:=Grow.refl H
 refine Al.intro (fun b_1 H_1 hb_2 hl_3 g_4 o_5=>?_)
 have l_7:=g_4.1
 have g_8:=g0.trans g_4
 have l_9:=g_8.1
 have w_12:=o_5.lt
 refine ⟨gc,lb.length,jd,(o_5.rdC _).trans rfl,?_⟩
 refine ztz ⟨_,(af.grow g_8),?_⟩
 have z10:=foz_f lb left
 refine Br.intro (fun c_11=>?_) (fun c_11=>?_)
 ·have e:=e.trans (zw c_11)
  have c_11':=of_decide_eq_true c_11
  rw [e] at hk
  exact hk  H_1 g_8 
 ·have e:=e.trans (zv c_11)
  have c_11':=of_decide_eq_false c_11
  rw [e] at hk
  exact hk  H_1 g_8 
theorem z1ac:FnOk Tryz.prog 9 z16j:=FnOk.bodyF mix_ok zsb Tryz.func9 rfl ω9 ω9 fun args H=>by
 unfold z15d
 split
 ·refine ⟨?_,?_,?_,?_,fun K hk=>zut _ _ _ _ _ H K hk⟩
  ·intro K K' h hk;obtain ⟨lb,af,k⟩:=hk;exact ⟨lb,af,(fun  H' gg  =>h _ _ (k  H' gg))⟩
  ·nofun
  ·intro K hk;obtain ⟨lb,af,k⟩:=hk;exact ⟨_,_,k H (Grow.refl H)⟩
  ·intro _ K hk;obtain ⟨lb,af,k⟩:=hk;exact ⟨lb,af,(fun  H' gg  =>⟨gg,k  H' gg⟩)⟩
 ·exact Nice.no

def zkx (je me:Int) (eb:LN) (left:Int):Int:=(bif decide (((zck eb left):Int)<0) then ((-1):Int) else (zck eb left))
def zp3:=@zkx.eq_1
def T_fxz (je me:Int) (ac:OA) (mc vc:Nat) (left:Int) (H:zq) (K:Int→zq→Prop):Prop:=∃(eb:LN),IsL fF H ac mc eb∧((∀H':zq,Grow H H'→K (zkx je me eb left) H'))
theorem z19y {je me:Int} {ac:OA} {mc vc:Nat} {left:Int} {H:zq} {K:Int→zq→Prop} (h:∃(eb:LN),IsL fF H ac mc eb∧((∀H':zq,Grow H H'→K (zkx je me eb left) H'))):T_fxz je me ac mc vc left H K:=h
theorem fxz_f (a b:Int) (l:LN) (left:Int):0≤left→left≤1048576→l.length≤9223372036854775807→zkx a b l left<0∨(l.length:Int)≤left∧zkx a b l left=left-l.length:=by
 intro h0 h1 h2
 have:=foz_f l left h0 h1 h2
 rw [zp3]
 by_cases h:zck l left<0
 ·rw [decide_eq_true h,cond_true];left;decide
 ·rw [decide_eq_false h,cond_false];right;omega
/-! fxz: function 10 -/
def E_fxz:Env:=envOf [(44,S_foz)]
def F_fxz (args:List Value) (H:zq):(Value→zq→Prop)→Prop:=match args with
 | [.agg ⟨[.int .i64 je,.int .i64 me,.slice ac mc vc]⟩,.int .i64 left]=>fun K=>T_fxz je me ac mc vc left H fun (r1:Int) (H':zq)=>K (.int .i64 r1) H'
 | _=>fun _=>False
def S_fxz:FSpec:={F:=F_fxz,quiet:=false,tame:=true}
theorem z1hq (je me:Int) (ac:OA) (mc vc:Nat) (left:Int) (H:zq) (K:KT):z1a Tryz.prog E_fxz Tryz.f10 [.agg #[.int .i64 je,.int .i64 me,.slice ac mc vc],.int .i64 left] H K=
 (Al [.int .i64 je,.int .i64 me,.slice ac mc vc] H fun b1 H1=>∃fh:OA,∃bh:Nat,∃qh:Nat,  rdC H1 b1 2=some (.slice fh bh qh)∧zty fh bh qh left H1 fun (r1:Int) (H2:zq)=>Br (decide ((r1:Int)<0)) (K (.int .i64 (-1)) H2) (K (.int .i64 r1) H2)):=by kernel_rfl
theorem zz1:∀g,FnOk Tryz.prog g (E_fxz g):=FnOk.envOf (by
 intro x hx
 simp only [List.mem_cons,List.not_mem_nil,or_false] at hx
 subst hx;exact z17o)
theorem z12p (je me:Int) (ac:OA) (mc vc:Nat) (left:Int) (H:zq) (K:KT) (h:T_fxz je me ac mc vc left H fun (r1:Int) (H':zq)=>K (.int .i64 r1) H'):z1a Tryz.prog E_fxz Tryz.f10 [.agg #[.int .i64 je,.int .i64 me,.slice ac mc vc],.int .i64 left] H K:=by
 rw [z1hq]
 obtain ⟨eb,ve,hk⟩:=h
 obtain rfl:=ve.eqn
 have e:(zkx je me eb left)=_:=rfl
 have e:=e.trans (zp3 je me eb left)
 have g0:=Grow.refl H
 refine Al.intro (fun b_1 H_1 hb_2 hl_3 g_4 o_5=>?_)
 have l_7:=g_4.1
 have g_8:=g0.trans g_4
 have l_9:=g_8.1
 have w_12:=o_5.lt
 refine ⟨ac,eb.length,vc,(o_5.rdC _).trans rfl,?_⟩
 refine ztz ⟨_,(ve.grow g_8),?_⟩
 have z10:=foz_f eb left
 refine Br.intro (fun c_11=>?_) (fun c_11=>?_)
 ·have e:=e.trans (zw c_11)
  have c_11':=of_decide_eq_true c_11
  rw [e] at hk
  exact hk  H_1 g_8 
 ·have e:=e.trans (zv c_11)
  have c_11':=of_decide_eq_false c_11
  rw [e] at hk
  exact hk  H_1 g_8 
theorem z1hp:FnOk Tryz.prog 10 S_fxz:=FnOk.bodyF mix_ok zz1 Tryz.func10 rfl ω9 ω9 fun args H=>by
 unfold F_fxz
 split
 ·refine ⟨?_,?_,?_,?_,fun K hk=>z12p _ _ _ _ _ _ H K hk⟩
  ·intro K K' h hk;obtain ⟨eb,ve,k⟩:=hk;exact ⟨eb,ve,(fun  H' gg  =>h _ _ (k  H' gg))⟩
  ·nofun
  ·intro K hk;obtain ⟨eb,ve,k⟩:=hk;exact ⟨_,_,k H (Grow.refl H)⟩
  ·intro _ K hk;obtain ⟨eb,ve,k⟩:=hk;exact ⟨eb,ve,(fun  H' gg  =>⟨gg,k  H' gg⟩)⟩
 ·exact Nice.no

def zbh (l_a:LN):Nat→Int→LN→LN
 | 0,_,_=>[]
 | μ+1,i,y1_1=>(bif decide ((i:Int)<(l_a.length:Int)) then (zbh l_a μ (i+1) (((y1_1).set (i:Int).toNat ((((l_a).getD (i:Int).toNat 0)))))) else y1_1)
def zgd:=fun l_a μ i y1_1=>@zbh.eq_2 l_a i y1_1 μ
def zx5 (l_a:LN):LN:=(zbh l_a (Int.toNat ((l_a.length:Int)-(0:Int))+1) (0:Int) (List.replicate (((l_a.length:Int)).toNat) 0))
def zp0:=@zx5.eq_1
def zu0 (a_a:OA) (a_n a_e:Nat) (H:zq) (K:OA→Nat→Nat→zq→Prop):Prop:=∃(l_a:LN),IsL fF H a_a a_n l_a∧l_a.length<1073741824∧((∀(td:OA) (yd xd:Nat),∀H':zq,Grow H H'→OwnS fF H' H.length td yd xd l_a→K td yd xd H'))
theorem zu1 {a_a:OA} {a_n a_e:Nat} {H:zq} {K:OA→Nat→Nat→zq→Prop} (h:∃(l_a:LN),IsL fF H a_a a_n l_a∧l_a.length<1073741824∧((∀(td:OA) (yd xd:Nat),∀H':zq,Grow H H'→OwnS fF H' H.length td yd xd l_a→K td yd xd H'))):zu0 a_a a_n a_e H K:=h
theorem z1gy (l:LN):∀(μ:Nat) (i:Nat) (ys:LN),ys.length=l.length→i≤l.length→l.length-i<μ→
  zbh l μ (i:Int) (l.take i++ys.drop i)=l:=by
 intro μ
 induction μ with
 | zero=>intro i ys _ _ h;omega
 | succ μ ih=>
  intro i ys hy hi hm
  rw [zgd]
  by_cases h:i<l.length
  ·rw [decide_eq_true (show (i:Int)<(l.length:Int) by omega),cond_true]
   have hx:l[i]? =some (l.getD i 0):=by rw [List.getD_eq_getElem?_getD,List.getElem?_eq_getElem h];rfl
   rw [Int.toNat_natCast,z3h l ys i ω2 hy.symm _ hx]
   exact ih (i+1) ys hy ω2 ω2
  ·rw [decide_eq_false (show ¬(i:Int)<(l.length:Int) by omega),cond_false]
   rw [List.take_of_length_le ω2,List.drop_eq_nil_of_le ω2,List.append_nil]
theorem z1gz (l:LN):zx5 l=l:=by
 rw [zp0]
 have:=z1gy l (Int.toNat ((l.length:Int)-0)+1) 0 (List.replicate ((l.length:Int)).toNat 0) (by simp) ω2 ω2
 simpa using this
/-! fpz: function 48 -/
def zh5:Env:=envOf []
def F_fpz (args:List Value) (H:zq):(Value→zq→Prop)→Prop:=match args with
 | [.slice a_a a_n a_e]=>fun K=>zu0 a_a a_n a_e H fun (td:OA) (yd:Nat) (xd:Nat) (H':zq)=>K (.slice td yd xd) H'
 | _=>fun _=>False
def S_fpz:FSpec:={F:=F_fpz,quiet:=false,tame:=true}
theorem z1h2 (a_a:OA) (a_n a_e:Nat) (H:zq) (K:KT):z1a Tryz.prog zh5 Tryz.f48 [.slice a_a a_n a_e] H K=
 ((0:Int)≤(a_n:Int)∧(a_n:Int)=(a_n:Int)∧(a_n:Int)<(most:Int)∧Al (z1l (.float .f32 0) ((a_n:Int)).toNat) H fun b1 H1=>z1j (exL Tryz.prog zh5 (cl (cl (cr (cl (cr (cr (zr Tryz.f48))))))) 25 4 [(0,8)]) (.slice a_a a_n a_e::ud2 (.slice (some ⟨b1,0,none⟩) (((a_n:Int)).toNat) 1::.int .i64 0::ud17 [])) H1 (zx 0 (seqQ (exL Tryz.prog zh5 (cr (cr (cr (zr Tryz.f48)))) 4 4 []) (retK Tryz.prog Tryz.f48 K)))):=by kernel_rfl
abbrev zjo (a_a:OA) (a_e a_n b1:Nat) (i:Int)  :List Value:=(.slice a_a a_n a_e::ud2 (.slice (some ⟨b1,0,none⟩) (((a_n:Int)).toNat) 1::.int .i64 i::ud17 []))
theorem z1h1 (a_a:OA) (a_e a_n b1:Nat) (i:Int)  (H:zq) (R:Post):exL Tryz.prog zh5 (cl (cl (cr (cl (cr (cr (zr Tryz.f48))))))) 25 4 [(0,8)] (zjo a_a a_e a_n b1 i) H R=
 (Br (decide ((i:Int)<(a_n:Int))) ((0:Int)≤i∧i<(a_n:Int)∧∃b2 f1,(a_a:OA)=some ⟨b2,f1,none⟩∧∃x1:Nat,  rdC H b2 (f1+(i:Int).toNat*1)=some (.float .f32 x1)∧(0:Int)≤i∧i<(((a_n:Int)).toNat:Int)∧∃b3 f2,(some ⟨b1,0,none⟩:OA)=some ⟨b3,f2,none⟩∧isOwn H b3∧(∃l,rdN H b3 (f2+(i:Int).toNat*1) 1=some l)∧Lt (setC H b3 (f2+(i:Int).toNat*1) (.float .f32 x1)) fun H2=>R .normal (.slice a_a a_n a_e::ud2 (.slice (some ⟨b1,0,none⟩) (((a_n:Int)).toNat) 1::.int .i64 (IntKind.wrap .i64 (i+1))::ud17 [])) H2) (R (.exit 0) (ud3 (.slice (some ⟨b1,0,none⟩) (((a_n:Int)).toNat) 1::ud18 [])) H)):=by kernel_rfl
def zwa (a_a:OA) (a_e a_n b1:Nat) (Inv:Nat→Int→zq→Prop):Nat→List Value→zq→Prop:=fun μ tm H=>∃(i:Int),tm=(zjo a_a a_e a_n b1 i)∧Inv μ i H
theorem z1gx (a_a:OA) (a_e a_n b1:Nat) {Q:Post} (Inv:Nat→Int→zq→Prop) (ν:Nat) (i:Int)  (H:zq) (h0:Inv ν i H)
  (hs:∀(μ:Nat) (i:Int)  (H:zq),Inv μ i H→exL Tryz.prog zh5 (cl (cl (cr (cl (cr (cr (zr Tryz.f48))))))) 25 4 [(0,8)] (zjo a_a a_e a_n b1 i) H (z1b (zwa a_a a_e a_n b1 Inv) μ Q)):z1j (exL Tryz.prog zh5 (cl (cl (cr (cl (cr (cr (zr Tryz.f48))))))) 25 4 [(0,8)]) (zjo a_a a_e a_n b1 i) H Q:=
 ⟨zwa a_a a_e a_n b1 Inv,ν,⟨i,rfl,h0⟩,fun μ tm H h=>by obtain ⟨i,rfl,hI⟩:=h;exact hs μ i  H hI⟩
theorem z1h0 {a_a:OA} {a_e a_n b1:Nat} {Q:Post} {Inv:Nat→Int→zq→Prop} {μ:Nat} (μ':Nat) {i:Int}  {H:zq} (hm:μ'<μ) (hI:Inv μ' i H):z1b (zwa a_a a_e a_n b1 Inv) μ Q .normal (zjo a_a a_e a_n b1 i) H:=⟨μ',hm,i,rfl,hI⟩
theorem z12a (a_n b1:Nat) (H:zq) (K:KT)  {I:Nat→List Value→zq→Prop} {μ:Nat}:z1b I μ (zx 0 (seqQ (exL Tryz.prog zh5 (cr (cr (cr (zr Tryz.f48)))) 4 4 []) (retK Tryz.prog Tryz.f48 K))) (.exit 0) (ud3 (.slice (some ⟨b1,0,none⟩) (((a_n:Int)).toNat) 1::ud18 [])) H=
 (K (.slice (some ⟨b1,0,none⟩) (((a_n:Int)).toNat) 1) H):=by kernel_rfl
theorem zyu:∀g,FnOk Tryz.prog g (zh5 g):=FnOk.envOf (by
 intro x hx;cases hx)
theorem ω25 {P:Prop} (h:P:=by have:=zmr;omega):P:=h
theorem ω15 {P:Prop} (h:P:=by first | rfl | assumption | omega | (simp;done)):P:=h
theorem ω7 {P:Prop} (h:P:=by first | omega | (simp;done) | (simp;omega)):P:=h
theorem ω0 {P:Prop} (h:P:=by first | omega | (simp only [List.length_set,List.length_replicate,List.length_append,List.length_cons,List.length_nil,List.length_take,List.length_drop,z1t];done) | (simp only [List.length_set,List.length_replicate,List.length_append,List.length_cons,List.length_nil,List.length_take,List.length_drop,z1t];omega)):P:=h
theorem ω10 {P:Prop} (h:P:=by simp only [List.length_map];(first | omega | (simp only [List.length_set,List.length_replicate,List.length_append,List.length_cons,List.length_nil,List.length_take,List.length_drop,z1t];done) | (simp only [List.length_set,List.length_replicate,List.length_append,List.length_cons,List.length_nil,List.length_take,List.length_drop,z1t];omega))):P:=h
theorem ω17 {P:Prop} (h:P:=by first | omega):P:=h
theorem ω22 {P:Prop} (h:P:=by first | assumption | omega | (simp only [List.length_set];first | rfl | assumption | omega)):P:=h
theorem ω1 {P:Prop} (h:P:=by first | omega | (simp only [List.length_append,List.length_cons,List.length_nil,List.length_set];done) | (simp only [List.length_append,List.length_cons,List.length_nil,List.length_set];omega)):P:=h
theorem ω13 {P:Prop} (h:P:=by rw [show μ-1+1=μ from by first | omega];exact e):P:=h
theorem z11z (a_a:OA) (a_n a_e:Nat) (H:zq) (K:KT) (h:zu0 a_a a_n a_e H fun (td:OA) (yd:Nat) (xd:Nat) (H':zq)=>K (.slice td yd xd) H'):z1a Tryz.prog zh5 Tryz.f48 [.slice a_a a_n a_e] H K:=by
 rw [z1h2]
 obtain ⟨l_a,i_a,bd_29,hk⟩:=h
 have hk:(∀(td:OA) (yd xd:Nat),∀H':zq,Grow H H'→OwnS fF H' H.length td yd xd (zx5 l_a)→(fun (td:OA) (yd:Nat) (xd:Nat) (H':zq)=>K (.slice td yd xd) H') td yd xd H'):=by rw [z1gz l_a];exact hk
 obtain rfl:=i_a.eqn
 have e:(zx5 l_a)=_:=rfl
 have e:=e.trans (zp0 l_a)
 have g0:=Grow.refl H
 refine ⟨by omega,rfl,ω25,?_⟩
 refine Al.intro (fun b_1 H_1 hb_2 hl_3 g_4 o_5=>?_)
 rw [zli fF 0 _ rfl] at o_5
 have l_7:=g_4.1
 have g_8:=g0.trans g_4
 have l_9:=g_8.1
 have w28:=o_5.lt
 refine z1gx _ _ _ _ (fun (μ:Nat) (i:Int) (H_2:zq)=>∃(y1_1:LN),Own H_2 b_1 (y1_1.map fF)∧y1_1.length=((l_a.length:Int)).toNat∧Grow H H_2∧(0:Int)≤i∧i≤(l_a.length:Int)∧(l_a.length:Int)-i≤(μ:Int)∧zx5 l_a=zbh l_a (μ+1) i y1_1) (Int.toNat ((l_a.length:Int)-(0:Int))) _ H_1 ?_ ?_
 ·exact ⟨_,o_5,ω15,g_8,ω7,ω7,ω2,e⟩
 ·intro μ i  H_2 hI
  obtain ⟨y1_1,o_10,y11,g_12,v_13,v_14,hμ,e⟩:=hI
  rw [z1h1]
  have e:=e.trans (zgd l_a μ i y1_1)
  have w15:=o_10.lt
  have l_16:=g_12.1
  refine Br.intro (fun c_17=>?_) (fun c_17=>?_)
  ·have e:=e.trans (zw c_17)
   have c_17':=of_decide_eq_true c_17
   obtain ⟨b18,f_19,q_20⟩:=((i_a.grow g_12)).pos ω0
   refine ⟨by omega,by omega,b18,f_19,q_20,?_⟩
   refine ⟨((l_a).getD (i:Int).toNat 0),(i_a).rd g_12 q_20 ω2 _,?_⟩
   refine ⟨by omega,ω2,_,_,rfl,?_⟩
   refine Lt.set o_10 ω10 (fun H_3 hl_21 o23 k_22=>?_)
   have o23:=map_set o23
   have l24:=k_22.1
   have g_25:=g_12.keep (b:=b_1) ω2 k_22
   have l26:=g_25.1
   have w27:=o23.lt
   rw [show IntKind.wrap .i64 (i+1)=(i+1) from zu ω2 ω2]
   refine z1h0 (μ-1) ω17 ⟨_,o23,ω22,g_25,ω1,ω1,ω17,ω13⟩
  ·have e:=e.trans (zv c_17)
   have c_17':=of_decide_eq_false c_17
   rw [z12a]
   rw [e] at hk
   exact hk _ _ _ H_2 g_12 (o_10.ownS (by first | (simp only [List.length_replicate];done) | omega | (simp;omega)) ω2)
theorem z17p:FnOk Tryz.prog 48 S_fpz:=FnOk.bodyF mix_ok zyu Tryz.func48 rfl ω9 ω9 fun args H=>by
 unfold F_fpz
 split
 ·refine ⟨?_,?_,?_,?_,fun K hk=>z11z _ _ _ H K hk⟩
  ·intro K K' h hk;obtain ⟨l_a,i_a,bd_29,k⟩:=hk;exact ⟨l_a,i_a,bd_29,(fun td yd xd H' gg ow0=>h _ _ (k td yd xd H' gg ow0))⟩
  ·nofun
  ·intro K hk;obtain ⟨l_a,i_a,bd_29,k⟩:=hk;exact z4m fun a n e H1 g o=>⟨_,_,k a n e H1 g o⟩
  ·intro _ K hk;obtain ⟨l_a,i_a,bd_29,k⟩:=hk;exact ⟨l_a,i_a,bd_29,(fun td yd xd H' gg ow0=>⟨gg,k td yd xd H' gg ow0⟩)⟩
 ·exact Nice.no

def zkj (lb:LN) (ie:Nat):LN×Nat:=(lb,ie)
def zx1:=@zkj.eq_1
def zcz (gc:OA) (zc jd ie:Nat) (H:zq) (K:OA→Nat→Nat→Nat→zq→Prop):Prop:=∃(lb:LN),IsL fF H gc zc lb∧lb.length<1073741824∧((∀(rg:OA) (ug tg:Nat),∀H':zq,Grow H H'→OwnS fF H' H.length rg ug tg lb→K rg ug tg ie H'))
theorem zcm {gc:OA} {zc jd ie:Nat} {H:zq} {K:OA→Nat→Nat→Nat→zq→Prop} (h:∃(lb:LN),IsL fF H gc zc lb∧lb.length<1073741824∧((∀(rg:OA) (ug tg:Nat),∀H':zq,Grow H H'→OwnS fF H' H.length rg ug tg lb→K rg ug tg ie H'))):zcz gc zc jd ie H K:=h
theorem z1ae (l:LN) (sc:Nat):zkj l sc=(l,sc):=rfl
/-! f1dz: function 12 -/
def zsc:Env:=envOf [(48,S_fpz)]
def z15e (args:List Value) (H:zq):(Value→zq→Prop)→Prop:=match args with
 | [.agg ⟨[.slice gc zc jd,.float .f32 ie]⟩]=>fun K=>zcz gc zc jd ie H fun (rg:OA) (ug:Nat) (tg:Nat) (lj:Nat) (H':zq)=>K (.agg #[.slice rg ug tg,.float .f32 lj]) H'
 | _=>fun _=>False
def z16k:FSpec:={F:=z15e,quiet:=false,tame:=true}
theorem z1ag (gc:OA) (zc jd ie:Nat) (H:zq) (K:KT):z1a Tryz.prog zsc Tryz.f12 [.agg #[.slice gc zc jd,.float .f32 ie]] H K=
 (Al [.slice gc zc jd,.float .f32 ie] H fun b1 H1=>Al [.slice none 0 0,.float .f32 0] H1 fun b2 H2=>Al [.slice none 0 0,.float .f32 0] H2 fun b3 H3=>∃fh:OA,∃bh:Nat,∃qh:Nat,  rdC H3 b1 0=some (.slice fh bh qh)∧zu0 fh bh qh H3 fun (a1:OA) (r1:Nat) (r2:Nat) (H4:zq)=>isOwn H4 b3∧(∃l,rdN H4 b3 0 1=some l)∧Lt (setC H4 b3 0 (.slice a1 r1 r2)) fun H5=>∃x2:Nat,  rdC H5 b1 1=some (.float .f32 x2)∧isOwn H5 b3∧(∃l,rdN H5 b3 1 1=some l)∧Lt (setC H5 b3 1 (.float .f32 x2)) fun H6=>∃zi:OA,∃bj:Nat,∃aj:Nat,∃c2:Nat,  rdN H6 b3 0 2=some [.slice zi bj aj,.float .f32 c2]∧isOwn H6 b2∧(∃l,rdN H6 b2 0 2=some l)∧Lt (setN H6 b2 0 [.slice zi bj aj,.float .f32 c2]) fun H7=>∃kh:OA,∃mh:Nat,∃lh:Nat,∃c4:Nat,  rdN H7 b2 0 2=some [.slice kh mh lh,.float .f32 c4]∧K (.agg #[.slice kh mh lh,.float .f32 c4]) H7):=by kernel_rfl
theorem zsd:∀g,FnOk Tryz.prog g (zsc g):=FnOk.envOf (by
 intro x hx
 simp only [List.mem_cons,List.not_mem_nil,or_false] at hx
 subst hx;exact z17p)
theorem zuu (gc:OA) (zc jd ie:Nat) (H:zq) (K:KT) (h:zcz gc zc jd ie H fun (rg:OA) (ug:Nat) (tg:Nat) (lj:Nat) (H':zq)=>K (.agg #[.slice rg ug tg,.float .f32 lj]) H'):z1a Tryz.prog zsc Tryz.f12 [.agg #[.slice gc zc jd,.float .f32 ie]] H K:=by
 rw [z1ag]
 obtain ⟨lb,af,bd_90,hk⟩:=h
 have hk:(∀(rg:OA) (ug tg:Nat),∀H':zq,Grow H H'→OwnS fF H' H.length rg ug tg ((zkj lb ie).1)→(fun (rg:OA) (ug:Nat) (tg:Nat) (lj:Nat) (H':zq)=>K (.agg #[.slice rg ug tg,.float .f32 lj]) H') rg ug tg ((zkj lb ie).2) H'):=by rw [z1ae lb ie];exact hk
 obtain rfl:=af.eqn
 have e:(zkj lb ie)=_:=rfl
 have e:=e.trans (zx1 lb ie)
 have g0:=Grow.refl H
 refine Al.intro (fun b_1 H_1 hb_2 hl_3 g_4 o_5=>?_)
 have l_7:=g_4.1
 have g_8:=g0.trans g_4
 have l_9:=g_8.1
 have w89:=o_5.lt
 refine Al.intro (fun b_10 H_2 hb_11 hl_12 g_13 o_14=>?_)
 have l_16:=g_13.1
 have g_17:=g_8.trans g_13
 have l_18:=g_17.1
 have o_19:=o_5.grow g_13
 have w20:=o_19.lt
 have w88:=o_14.lt
 refine Al.intro (fun b_21 H_3 hb_22 hl_23 g24 o25=>?_)
 have l27:=g24.1
 have g28:=g_17.trans g24
 have l29:=g28.1
 have o30:=o_19.grow g24
 have w31:=o30.lt
 have o32:=o_14.grow g24
 have w33:=o32.lt
 have w87:=o25.lt
 refine ⟨gc,lb.length,jd,(o30.rdC _).trans rfl,?_⟩
 refine zu1 ⟨_,(af.grow g28),ω0,fun a34 n35 e36 H_4 g38 r_37=>?_⟩
 have l39:=g38.1
 have g40:=g28.trans g38
 have l41:=g40.1
 have o42:=o30.grow g38
 have w43:=o42.lt
 have o44:=o32.grow g38
 have w45:=o44.lt
 have o46:=o25.grow g38
 have w47:=o46.lt
 obtain rfl:=r_37.isL.eqn
 have u48:=r_37.up
 have u49:=r_37.lo
 refine Lt.set o46 (Nat.le_of_ble_eq_true rfl) (fun H_5 hl_51 o53 k52=>?_)
 have o53:Own H_5 b_21 [.slice a34 ((lb).length) e36,.float .f32 0]:=o53
 have l54:=k52.1
 have g55:=g40.keep (b:=b_21) ω2 k52
 have l56:=g55.1
 have o57:=o42.keep ω2 k52
 have w58:=o57.lt
 have o59:=o44.keep ω2 k52
 have w60:=o59.lt
 have r61:=r_37.keep u48 ω2 k52
 have w86:=o53.lt
 refine ⟨ie,(o57.rdC _).trans rfl,?_⟩
 refine Lt.set o53 (Nat.le_of_ble_eq_true rfl) (fun H_6 hl_62 o64 k63=>?_)
 have o64:Own H_6 b_21 [.slice a34 ((lb).length) e36,.float .f32 ie]:=o64
 have l65:=k63.1
 have g66:=g55.keep (b:=b_21) ω2 k63
 have l67:=g66.1
 have o68:=o57.keep ω2 k63
 have w69:=o68.lt
 have o70:=o59.keep ω2 k63
 have w71:=o70.lt
 have r72:=r61.keep u48 ω2 k63
 have w85:=o64.lt
 refine ⟨a34,(lb).length,e36,ie,(o64.rdN (Nat.le_of_ble_eq_true rfl)).trans rfl,?_⟩
 refine Lt.setN (n:=2) o70 (Nat.le_of_ble_eq_true rfl) rfl (fun H_7 hl_73 o75 k74=>?_)
 have o75:Own H_7 b_10 [.slice a34 ((lb).length) e36,.float .f32 ie]:=o75
 have l76:=k74.1
 have g77:=g66.keep (b:=b_10) ω2 k74
 have l78:=g77.1
 have o79:=o68.keep ω2 k74
 have w80:=o79.lt
 have o81:=o64.keep ω2 k74
 have w82:=o81.lt
 have r83:=r72.keep u48 ω2 k74
 have w84:=o75.lt
 refine ⟨a34,(lb).length,e36,ie,(o75.rdN (Nat.le_of_ble_eq_true rfl)).trans rfl,?_⟩
 rw [e] at hk
 exact hk _ _ _ H_7 g77 (r83.weak ω2)
theorem z1af:FnOk Tryz.prog 12 z16k:=FnOk.bodyF mix_ok zsd Tryz.func12 rfl ω9 ω9 fun args H=>by
 unfold z15e
 split
 ·refine ⟨?_,?_,?_,?_,fun K hk=>zuu _ _ _ _ H K hk⟩
  ·intro K K' h hk;obtain ⟨lb,af,bd_90,k⟩:=hk;exact ⟨lb,af,bd_90,(fun rg ug tg H' gg ow0=>h _ _ (k rg ug tg H' gg ow0))⟩
  ·nofun
  ·intro K hk;obtain ⟨lb,af,bd_90,k⟩:=hk;exact z4m fun a n e H1 g o=>⟨_,_,k a n e H1 g o⟩
  ·intro _ K hk;obtain ⟨lb,af,bd_90,k⟩:=hk;exact ⟨lb,af,bd_90,(fun rg ug tg H' gg ow0=>⟨gg,k rg ug tg H' gg ow0⟩)⟩
 ·exact Nice.no

def zqu (je me:Int) (eb:LN):Int×Int×LN:=(je,me,eb)
def z13o:=@zqu.eq_1
def zlo (je me:Int) (ac:OA) (mc vc:Nat) (H:zq) (K:Int→Int→OA→Nat→Nat→zq→Prop):Prop:=∃(eb:LN),IsL fF H ac mc eb∧eb.length<1073741824∧((∀(ja:OA) (oa ma:Nat),∀H':zq,Grow H H'→OwnS fF H' H.length ja oa ma eb→K je me ja oa ma H'))
theorem zh9 {je me:Int} {ac:OA} {mc vc:Nat} {H:zq} {K:Int→Int→OA→Nat→Nat→zq→Prop} (h:∃(eb:LN),IsL fF H ac mc eb∧eb.length<1073741824∧((∀(ja:OA) (oa ma:Nat),∀H':zq,Grow H H'→OwnS fF H' H.length ja oa ma eb→K je me ja oa ma H'))):zlo je me ac mc vc H K:=h
theorem z1hr (a b:Int) (l:LN):zqu a b l=(a,b,l):=rfl
/-! fyz: function 13 -/
def E_fyz:Env:=envOf [(48,S_fpz)]
def F_fyz (args:List Value) (H:zq):(Value→zq→Prop)→Prop:=match args with
 | [.agg ⟨[.int .i64 je,.int .i64 me,.slice ac mc vc]⟩]=>fun K=>zlo je me ac mc vc H fun (sd:Int) (pd:Int) (ja:OA) (oa:Nat) (ma:Nat) (H':zq)=>K (.agg #[.int .i64 sd,.int .i64 pd,.slice ja oa ma]) H'
 | _=>fun _=>False
def S_fyz:FSpec:={F:=F_fyz,quiet:=false,tame:=true}
theorem z1ht (je me:Int) (ac:OA) (mc vc:Nat) (H:zq) (K:KT):z1a Tryz.prog E_fyz Tryz.f13 [.agg #[.int .i64 je,.int .i64 me,.slice ac mc vc]] H K=
 (Al [.int .i64 je,.int .i64 me,.slice ac mc vc] H fun b1 H1=>Al [.int .i64 0,.int .i64 0,.slice none 0 0] H1 fun b2 H2=>Al [.int .i64 0,.int .i64 0,.slice none 0 0] H2 fun b3 H3=>∃x1:Int,  rdC H3 b1 0=some (.int .i64 x1)∧isOwn H3 b3∧(∃l,rdN H3 b3 0 1=some l)∧Lt (setC H3 b3 0 (.int .i64 x1)) fun H4=>∃x2:Int,  rdC H4 b1 1=some (.int .i64 x2)∧isOwn H4 b3∧(∃l,rdN H4 b3 1 1=some l)∧Lt (setC H4 b3 1 (.int .i64 x2)) fun H5=>∃rj:OA,∃mj:Nat,∃wj:Nat,  rdC H5 b1 2=some (.slice rj mj wj)∧zu0 rj mj wj H5 fun (a1:OA) (r1:Nat) (r2:Nat) (H6:zq)=>isOwn H6 b3∧(∃l,rdN H6 b3 2 1=some l)∧Lt (setC H6 b3 2 (.slice a1 r1 r2)) fun H7=>∃c1:Int,∃c2:Int,∃kh:OA,∃mh:Nat,∃lh:Nat,  rdN H7 b3 0 3=some [.int .i64 c1,.int .i64 c2,.slice kh mh lh]∧isOwn H7 b2∧(∃l,rdN H7 b2 0 3=some l)∧Lt (setN H7 b2 0 [.int .i64 c1,.int .i64 c2,.slice kh mh lh]) fun H8=>∃c4:Int,∃c5:Int,∃th:OA,∃vh:Nat,∃uh:Nat,  rdN H8 b2 0 3=some [.int .i64 c4,.int .i64 c5,.slice th vh uh]∧K (.agg #[.int .i64 c4,.int .i64 c5,.slice th vh uh]) H8):=by kernel_rfl
theorem zz2:∀g,FnOk Tryz.prog g (E_fyz g):=FnOk.envOf (by
 intro x hx
 simp only [List.mem_cons,List.not_mem_nil,or_false] at hx
 subst hx;exact z17p)
theorem z12q (je me:Int) (ac:OA) (mc vc:Nat) (H:zq) (K:KT) (h:zlo je me ac mc vc H fun (sd:Int) (pd:Int) (ja:OA) (oa:Nat) (ma:Nat) (H':zq)=>K (.agg #[.int .i64 sd,.int .i64 pd,.slice ja oa ma]) H'):z1a Tryz.prog E_fyz Tryz.f13 [.agg #[.int .i64 je,.int .i64 me,.slice ac mc vc]] H K:=by
 rw [z1ht]
 obtain ⟨eb,ve,bd_100,hk⟩:=h
 have hk:(∀(ja:OA) (oa ma:Nat),∀H':zq,Grow H H'→OwnS fF H' H.length ja oa ma ((zqu je me eb).2.2)→(fun (sd:Int) (pd:Int) (ja:OA) (oa:Nat) (ma:Nat) (H':zq)=>K (.agg #[.int .i64 sd,.int .i64 pd,.slice ja oa ma]) H') ((zqu je me eb).1) ((zqu je me eb).2.1) ja oa ma H'):=by rw [z1hr je me eb];exact hk
 obtain rfl:=ve.eqn
 have e:(zqu je me eb)=_:=rfl
 have e:=e.trans (z13o je me eb)
 have g0:=Grow.refl H
 refine Al.intro (fun b_1 H_1 hb_2 hl_3 g_4 o_5=>?_)
 have l_7:=g_4.1
 have g_8:=g0.trans g_4
 have l_9:=g_8.1
 have w99:=o_5.lt
 refine Al.intro (fun b_10 H_2 hb_11 hl_12 g_13 o_14=>?_)
 have l_16:=g_13.1
 have g_17:=g_8.trans g_13
 have l_18:=g_17.1
 have o_19:=o_5.grow g_13
 have w20:=o_19.lt
 have w98:=o_14.lt
 refine Al.intro (fun b_21 H_3 hb_22 hl_23 g24 o25=>?_)
 have l27:=g24.1
 have g28:=g_17.trans g24
 have l29:=g28.1
 have o30:=o_19.grow g24
 have w31:=o30.lt
 have o32:=o_14.grow g24
 have w33:=o32.lt
 have w97:=o25.lt
 refine ⟨je,(o30.rdC _).trans rfl,?_⟩
 refine Lt.set o25 (Nat.le_of_ble_eq_true rfl) (fun H_4 hl_34 o36 k35=>?_)
 have o36:Own H_4 b_21 [.int .i64 je,.int .i64 0,.slice none 0 0]:=o36
 have l37:=k35.1
 have g38:=g28.keep (b:=b_21) ω2 k35
 have l39:=g38.1
 have o40:=o30.keep ω2 k35
 have w41:=o40.lt
 have o42:=o32.keep ω2 k35
 have w43:=o42.lt
 have w96:=o36.lt
 refine ⟨me,(o40.rdC _).trans rfl,?_⟩
 refine Lt.set o36 (Nat.le_of_ble_eq_true rfl) (fun H_5 hl_44 o46 k45=>?_)
 have o46:Own H_5 b_21 [.int .i64 je,.int .i64 me,.slice none 0 0]:=o46
 have l47:=k45.1
 have g_48:=g38.keep (b:=b_21) ω2 k45
 have l49:=g_48.1
 have o50:=o40.keep ω2 k45
 have w51:=o50.lt
 have o52:=o42.keep ω2 k45
 have w53:=o52.lt
 have w95:=o46.lt
 refine ⟨ac,eb.length,vc,(o50.rdC _).trans rfl,?_⟩
 refine zu1 ⟨_,(ve.grow g_48),ω0,fun a54 n55 e56 H_6 g58 r57=>?_⟩
 have l59:=g58.1
 have g60:=g_48.trans g58
 have l61:=g60.1
 have o62:=o50.grow g58
 have w63:=o62.lt
 have o64:=o52.grow g58
 have w65:=o64.lt
 have o66:=o46.grow g58
 have w67:=o66.lt
 obtain rfl:=r57.isL.eqn
 have u68:=r57.up
 have u69:=r57.lo
 refine Lt.set o66 (Nat.le_of_ble_eq_true rfl) (fun H_7 hl_71 o73 k72=>?_)
 have o73:Own H_7 b_21 [.int .i64 je,.int .i64 me,.slice a54 ((eb).length) e56]:=o73
 have l74:=k72.1
 have g75:=g60.keep (b:=b_21) ω2 k72
 have l76:=g75.1
 have o77:=o62.keep ω2 k72
 have w78:=o77.lt
 have o79:=o64.keep ω2 k72
 have w80:=o79.lt
 have r81:=r57.keep u68 ω2 k72
 have w94:=o73.lt
 refine ⟨je,me,a54,(eb).length,e56,(o73.rdN (Nat.le_of_ble_eq_true rfl)).trans rfl,?_⟩
 refine Lt.setN (n:=3) o79 (Nat.le_of_ble_eq_true rfl) rfl (fun H_8 hl_82 o84 k83=>?_)
 have o84:Own H_8 b_10 [.int .i64 je,.int .i64 me,.slice a54 ((eb).length) e56]:=o84
 have l85:=k83.1
 have g86:=g75.keep (b:=b_10) ω2 k83
 have l87:=g86.1
 have o88:=o77.keep ω2 k83
 have w89:=o88.lt
 have o90:=o73.keep ω2 k83
 have w91:=o90.lt
 have r92:=r81.keep u68 ω2 k83
 have w93:=o84.lt
 refine ⟨je,me,a54,(eb).length,e56,(o84.rdN (Nat.le_of_ble_eq_true rfl)).trans rfl,?_⟩
 rw [e] at hk
 exact hk _ _ _ H_8 g86 (r92.weak ω2)
theorem z1hs:FnOk Tryz.prog 13 S_fyz:=FnOk.bodyF mix_ok zz2 Tryz.func13 rfl ω9 ω9 fun args H=>by
 unfold F_fyz
 split
 ·refine ⟨?_,?_,?_,?_,fun K hk=>z12q _ _ _ _ _ H K hk⟩
  ·intro K K' h hk;obtain ⟨eb,ve,bd_100,k⟩:=hk;exact ⟨eb,ve,bd_100,(fun ja oa ma H' gg ow0=>h _ _ (k ja oa ma H' gg ow0))⟩
  ·nofun
  ·intro K hk;obtain ⟨eb,ve,bd_100,k⟩:=hk;exact z4m fun a n e H1 g o=>⟨_,_,k a n e H1 g o⟩
  ·intro _ K hk;obtain ⟨eb,ve,bd_100,k⟩:=hk;exact ⟨eb,ve,bd_100,(fun ja oa ma H' gg ow0=>⟨gg,k ja oa ma H' gg ow0⟩)⟩
 ·exact Nice.no
def zqv (x:Nat):Bool:=feq .f32 (fsub .f32 x x) 0
def zlp (x:Nat) (H:zq) (K:Bool→zq→Prop):Prop:=K (zqv x) H

theorem z19z {x:Nat} {H:zq} {K:Bool→zq→Prop} (h:K (zqv x) H):zlp x H K:=h
/-! fzz: function 122 -/
def E_fzz:Env:=envOf []
def F_fzz (args:List Value) (H:zq):(Value→zq→Prop)→Prop:=match args with
 | [.float .f32 x]=>fun K=>zlp x H fun (r1:Bool) (H':zq)=>K (.bool r1) H'
 | _=>fun _=>False
def S_fzz:FSpec:={F:=F_fzz,quiet:=true,tame:=false}
theorem z1hu (x:Nat) (H:zq) (K:KT):z1a Tryz.prog E_fzz Tryz.f122 [.float .f32 x] H K=
 (K (.bool (feq .f32 (fsub .f32 x x) 0)) H):=by kernel_rfl
theorem zz3:∀g,FnOk Tryz.prog g (E_fzz g):=FnOk.envOf (by
 intro x hx;cases hx)
theorem z12r (x:Nat) (H:zq) (K:KT) (h:zlp x H fun (r1:Bool) (H':zq)=>K (.bool r1) H'):z1a Tryz.prog E_fzz Tryz.f122 [.float .f32 x] H K:=by
 rw [z1hu]
 unfold zlp zqv at h
 repeat' (first | exact h | (exfalso;simp_all;done) | (refine ⟨by decide,?_⟩) | (refine Br.intro (fun hb=>?_) (fun hb=>?_)<;>(try simp only [hb,cond_true,cond_false,Bool.not_true,Bool.not_false] at h)))
theorem z17s:FnOk Tryz.prog 122 S_fzz:=FnOk.bodyF mix_ok zz3 Tryz.func122 rfl ω9 ω9 fun args H=>by
 unfold F_fzz
 split
 ·refine ⟨?_,?_,?_,?_,fun K hk=>z12r _ H K hk⟩
  ·intro K K' h hk;have k:=hk;exact h _ _ k
  ·intro _ K hk;have k:=hk;exact ⟨_,k,fun K' k'=>k'⟩
  ·intro K hk;have k:=hk;exact ⟨_,_,k⟩
  ·nofun
 ·exact Nice.no

def z8o (qb:LN):Nat→Bool→Int→Bool
 | 0,_,_=>false
 | μ+1,t2,i=>(bif decide ((i:Int)<(qb.length:Int)) then (bif !((zqv (((qb).getD (i:Int).toNat 0)))) then false else (z8o qb μ t2 (i+1))) else true)
def zdz:=fun qb μ t2 i=>@z8o.eq_2 qb t2 i μ
def z1w (qb:LN):Bool:=(z8o qb (Int.toNat ((qb.length:Int)-(0:Int))+1) false (0:Int))
def zke:=@z1w.eq_1
def zc3 (ld:OA) (tc ee:Nat) (H:zq) (K:Bool→zq→Prop):Prop:=∃(qb:LN),IsL fF H ld tc qb∧qb.length<1073741824∧K (z1w qb) H
theorem zas {ld:OA} {tc ee:Nat} {H:zq} {K:Bool→zq→Prop} (h:∃(qb:LN),IsL fF H ld tc qb∧qb.length<1073741824∧K (z1w qb) H):zc3 ld tc ee H K:=h

/-! f11z: function 124 -/
def z9u:Env:=envOf [(122,S_fzz)]
def z14t (args:List Value) (H:zq):(Value→zq→Prop)→Prop:=match args with
 | [.slice ld tc ee]=>fun K=>zc3 ld tc ee H fun (r1:Bool) (H':zq)=>K (.bool r1) H'
 | _=>fun _=>False
def zii:FSpec:={F:=z14t,quiet:=true,tame:=false}
theorem f11z_vc (ld:OA) (tc ee:Nat) (H:zq) (K:KT):z1a Tryz.prog z9u Tryz.f124 [.slice ld tc ee] H K=
 (z1j (exL Tryz.prog z9u (cl (cl (cr (cl (cr (zr Tryz.f124)))))) 9 4 [(0,0)]) (.slice ld tc ee::ud2 (.int .i64 0::ud12 [])) H (zx 0 (seqQ (exL Tryz.prog z9u (cr (cr (zr Tryz.f124))) 4 4 []) (retK Tryz.prog Tryz.f124 K)))):=by kernel_rfl
abbrev f11z_P1 (ld:OA) (ee tc:Nat) (i:Int)  :List Value:=(.slice ld tc ee::ud2 (.int .i64 i::ud12 []))
theorem f11z_r1 (ld:OA) (ee tc:Nat) (i:Int)  (H:zq) (R:Post):exL Tryz.prog z9u (cl (cl (cr (cl (cr (zr Tryz.f124)))))) 9 4 [(0,0)] (f11z_P1 ld ee tc i) H R=
 (Br (decide ((i:Int)<(tc:Int))) ((0:Int)≤i∧i<(tc:Int)∧∃b1 f1,(ld:OA)=some ⟨b1,f1,none⟩∧∃x1:Nat,  rdC H b1 (f1+(i:Int).toNat*1)=some (.float .f32 x1)∧zlp x1 H fun (r1:Bool) (H1:zq)=>Br (!r1) (R .ret (ud2 (.bool false::ud13 [])) H1) (R .normal (.slice ld tc ee::ud2 (.int .i64 (IntKind.wrap .i64 (i+1))::ud12 [])) H1)) (R (.exit 0) (ud16 []) H)):=by kernel_rfl
def f11z_I1 (ld:OA) (ee tc:Nat) (Inv:Nat→Int→zq→Prop):Nat→List Value→zq→Prop:=fun μ tm H=>∃(i:Int),tm=(f11z_P1 ld ee tc i)∧Inv μ i H
theorem f11z_L1 (ld:OA) (ee tc:Nat) {Q:Post} (Inv:Nat→Int→zq→Prop) (ν:Nat) (i:Int)  (H:zq) (h0:Inv ν i H)
  (hs:∀(μ:Nat) (i:Int)  (H:zq),Inv μ i H→exL Tryz.prog z9u (cl (cl (cr (cl (cr (zr Tryz.f124)))))) 9 4 [(0,0)] (f11z_P1 ld ee tc i) H (z1b (f11z_I1 ld ee tc Inv) μ Q)):z1j (exL Tryz.prog z9u (cl (cl (cr (cl (cr (zr Tryz.f124)))))) 9 4 [(0,0)]) (f11z_P1 ld ee tc i) H Q:=
 ⟨f11z_I1 ld ee tc Inv,ν,⟨i,rfl,h0⟩,fun μ tm H h=>by obtain ⟨i,rfl,hI⟩:=h;exact hs μ i  H hI⟩
theorem f11z_n1 {ld:OA} {ee tc:Nat} {Q:Post} {Inv:Nat→Int→zq→Prop} {μ:Nat} (μ':Nat) {i:Int}  {H:zq} (hm:μ'<μ) (hI:Inv μ' i H):z1b (f11z_I1 ld ee tc Inv) μ Q .normal (f11z_P1 ld ee tc i) H:=⟨μ',hm,i,rfl,hI⟩
theorem f11z_x1_0  (H:zq) (K:KT)  {I:Nat→List Value→zq→Prop} {μ:Nat}:z1b I μ (zx 0 (seqQ (exL Tryz.prog z9u (cr (cr (zr Tryz.f124))) 4 4 []) (retK Tryz.prog Tryz.f124 K))) (.exit 0) (ud16 []) H=
 (K (.bool true) H):=by kernel_rfl
theorem f11z_x1_ret (t2:Bool) (H:zq) (K:KT)  {I:Nat→List Value→zq→Prop} {μ:Nat}:z1b I μ (zx 0 (seqQ (exL Tryz.prog z9u (cr (cr (zr Tryz.f124))) 4 4 []) (retK Tryz.prog Tryz.f124 K))) .ret (ud2 (.bool t2::ud13 [])) H=
 (K (.bool t2) H):=by kernel_rfl
theorem zru:∀g,FnOk Tryz.prog g (z9u g):=FnOk.envOf (by
 intro x hx
 simp only [List.mem_cons,List.not_mem_nil,or_false] at hx
 subst hx;exact z17s)
theorem f11z_main (ld:OA) (tc ee:Nat) (H:zq) (K:KT) (h:zc3 ld tc ee H fun (r1:Bool) (H':zq)=>K (.bool r1) H'):z1a Tryz.prog z9u Tryz.f124 [.slice ld tc ee] H K:=by
 rw [f11z_vc]
 obtain ⟨qb,i_list,bd_9,hk⟩:=h
 obtain rfl:=i_list.eqn
 have e:(z1w qb)=_:=rfl
 have e:=e.trans (zke qb)
 have g0:=Grow.refl H
 refine f11z_L1 _ _ _ (fun (μ:Nat) (i:Int) (H_1:zq)=>∃(t2:Bool),H=H_1∧(0:Int)≤i∧i≤(qb.length:Int)∧(qb.length:Int)-i≤(μ:Int)∧z1w qb=z8o qb (μ+1) t2 i) (Int.toNat ((qb.length:Int)-(0:Int))) _ H ?_ ?_
 ·exact ⟨_,rfl,ω7,ω7,ω2,e⟩
 ·intro μ i  H_1 hI
  obtain ⟨t2,rfl,v_1,v_2,hμ,e⟩:=hI
  rw [f11z_r1]
  have e:=e.trans (zdz qb μ t2 i)
  have l_3:=g0.1
  refine Br.intro (fun c_4=>?_) (fun c_4=>?_)
  ·have e:=e.trans (zw c_4)
   have c_4':=of_decide_eq_true c_4
   obtain ⟨b_5,f_6,q_7⟩:=((i_list.grow g0)).pos ω0
   refine ⟨by omega,by omega,b_5,f_6,q_7,?_⟩
   refine ⟨((qb).getD (i:Int).toNat 0),(i_list).rd g0 q_7 ω2 _,?_⟩
   refine z19z ?_
   refine Br.intro (fun c_8=>?_) (fun c_8=>?_)
   ·have e:=e.trans (zw c_8)
    have c_8n:=z1f c_8
    rw [f11z_x1_ret]
    rw [e] at hk
    exact hk
   ·have e:=e.trans (zv c_8)
    have c_8n:=z1e c_8
    rw [show IntKind.wrap .i64 (i+1)=(i+1) from zu ω2 ω2]
    refine f11z_n1 (μ-1) ω17 ⟨_,rfl,ω1,ω1,ω17,ω13⟩
  ·have e:=e.trans (zv c_4)
   have c_4':=of_decide_eq_false c_4
   rw [f11z_x1_0]
   rw [e] at hk
   exact hk
theorem f11z_ok:FnOk Tryz.prog 124 zii:=FnOk.bodyF mix_ok zru Tryz.func124 rfl ω9 ω9 fun args H=>by
 unfold z14t
 split
 ·refine ⟨?_,?_,?_,?_,fun K hk=>f11z_main _ _ _ H K hk⟩
  ·intro K K' h hk;obtain ⟨qb,i_list,bd_9,k⟩:=hk;exact ⟨qb,i_list,bd_9,h _ _ k⟩
  ·intro _ K hk;obtain ⟨qb,i_list,bd_9,k⟩:=hk;exact ⟨_,k,fun K' k'=>⟨qb,i_list,bd_9,k'⟩⟩
  ·intro K hk;obtain ⟨qb,i_list,bd_9,k⟩:=hk;exact ⟨_,_,k⟩
  ·nofun
 ·exact Nice.no
def zkk (x:Nat):Bool:=(bif (zqv x) then flt .f32 0 x else false)
def zin (x:Nat) (H:zq) (K:Bool→zq→Prop):Prop:=K (zkk x) H

theorem zzf {x:Nat} {H:zq} {K:Bool→zq→Prop} (h:K (zkk x) H):zin x H K:=h
/-! f1ez: function 87 -/
def zse:Env:=envOf [(122,S_fzz)]
def z15f (args:List Value) (H:zq):(Value→zq→Prop)→Prop:=match args with
 | [.float .f32 x]=>fun K=>zin x H fun (r1:Bool) (H':zq)=>K (.bool r1) H'
 | _=>fun _=>False
def z16l:FSpec:={F:=z15f,quiet:=true,tame:=false}
theorem z1ai (x:Nat) (H:zq) (K:KT):z1a Tryz.prog zse Tryz.f87 [.float .f32 x] H K=
 (zlp x H fun (r1:Bool) (H1:zq)=>Br r1 (K (.bool (flt .f32 0 x)) H1) (K (.bool false) H1)):=by kernel_rfl
theorem zsf:∀g,FnOk Tryz.prog g (zse g):=FnOk.envOf (by
 intro x hx
 simp only [List.mem_cons,List.not_mem_nil,or_false] at hx
 subst hx;exact z17s)
theorem zuv (x:Nat) (H:zq) (K:KT) (h:zin x H fun (r1:Bool) (H':zq)=>K (.bool r1) H'):z1a Tryz.prog zse Tryz.f87 [.float .f32 x] H K:=by
 rw [z1ai]
 simp only [zlp]
 unfold zin zkk at h
 repeat' (first | exact h | (exfalso;simp_all;done) | (refine ⟨by decide,?_⟩) | (refine Br.intro (fun hb=>?_) (fun hb=>?_)<;>(try simp only [hb,cond_true,cond_false,Bool.not_true,Bool.not_false] at h)))
theorem z1ah:FnOk Tryz.prog 87 z16l:=FnOk.bodyF mix_ok zsf Tryz.func87 rfl ω9 ω9 fun args H=>by
 unfold z15f
 split
 ·refine ⟨?_,?_,?_,?_,fun K hk=>zuv _ H K hk⟩
  ·intro K K' h hk;have k:=hk;exact h _ _ k
  ·intro _ K hk;have k:=hk;exact ⟨_,k,fun K' k'=>k'⟩
  ·intro K hk;have k:=hk;exact ⟨_,_,k⟩
  ·nofun
 ·exact Nice.no

def zca (aa:LN) (fa:Nat):Bool:=(bif decide ((1:Int)≤(aa.length:Int)) then (bif decide (((aa.length:Int):Int)≤8) then (bif (z1w aa) then (zkk fa) else false) else false) else false)
def ze0:=@zca.eq_1
def znb (s:Nat) (H:zq) (K:Bool→zq→Prop):Prop:=∃(bb:OA),∃(jb nb fa:Nat),∃(aa:LN),rdN H s 0 2=some [.slice bb jb nb,.float .f32 fa]∧IsL fF H bb jb aa∧aa.length<1073741824∧K (zca aa fa) H
theorem zz8 {s:Nat} {H:zq} {K:Bool→zq→Prop} (h:∃(bb:OA),∃(jb nb fa:Nat),∃(aa:LN),rdN H s 0 2=some [.slice bb jb nb,.float .f32 fa]∧IsL fF H bb jb aa∧aa.length<1073741824∧K (zca aa fa) H):znb s H K:=h

/-! f12z: function 94 -/
def zrv:Env:=envOf [(124,zii),(87,z16l)]
def z14u (args:List Value) (H:zq):(Value→zq→Prop)→Prop:=match args with
 | [.pointer (some ⟨s,0,none⟩)]=>fun K=>znb s H fun (r1:Bool) (H':zq)=>K (.bool r1) H'
 | _=>fun _=>False
def z16c:FSpec:={F:=z14u,quiet:=true,tame:=false}
theorem f12z_vc (s:Nat) (H:zq) (K:KT):z1a Tryz.prog zrv Tryz.f94 [.pointer (some ⟨s,0,none⟩)] H K=
 (∃fh:OA,∃bh:Nat,∃qh:Nat,  rdC H s 0=some (.slice fh bh qh)∧Br (decide ((1:Int)≤(bh:Int))) (∃sk:OA,∃rk:Nat,∃uk:Nat,  rdC H s 0=some (.slice sk rk uk)∧Br (decide (((rk:Int):Int)≤8)) (∃rj:OA,∃mj:Nat,∃wj:Nat,  rdC H s 0=some (.slice rj mj wj)∧zc3 rj mj wj H fun (r1:Bool) (H1:zq)=>Br r1 (∃x4:Nat,  rdC H1 s 1=some (.float .f32 x4)∧zin x4 H1 fun (r2:Bool) (H2:zq)=>K (.bool r2) H2) (K (.bool false) H1)) (K (.bool false) H)) (K (.bool false) H)):=by kernel_rfl
theorem zrw:∀g,FnOk Tryz.prog g (zrv g):=FnOk.envOf (by
 intro x hx
 simp only [List.mem_cons,List.not_mem_nil,or_false] at hx
 rcases hx with rfl | rfl
 ·exact f11z_ok
 ·exact z1ah)
theorem f12z_main (s:Nat) (H:zq) (K:KT) (h:znb s H fun (r1:Bool) (H':zq)=>K (.bool r1) H'):z1a Tryz.prog zrv Tryz.f94 [.pointer (some ⟨s,0,none⟩)] H K:=by
 rw [f12z_vc]
 obtain ⟨bb,jb,nb,fa,aa,i_s,ec,bd_4,hk⟩:=h
 obtain rfl:=ec.eqn
 have e:(zca aa fa)=_:=rfl
 have e:=e.trans (ze0 aa fa)
 have g0:=Grow.refl H
 refine ⟨bb,aa.length,nb,(z1h (zt g0 i_s) 0 (Nat.le_of_ble_eq_true rfl)).trans rfl,?_⟩
 refine Br.intro (fun c_1=>?_) (fun c_1=>?_)
 ·have e:=e.trans (zw c_1)
  have c_1':=of_decide_eq_true c_1
  refine ⟨bb,aa.length,nb,(z1h (zt g0 i_s) 0 (Nat.le_of_ble_eq_true rfl)).trans rfl,?_⟩
  refine Br.intro (fun c_2=>?_) (fun c_2=>?_)
  ·have e:=e.trans (zw c_2)
   have c_2':=of_decide_eq_true c_2
   refine ⟨bb,aa.length,nb,(z1h (zt g0 i_s) 0 (Nat.le_of_ble_eq_true rfl)).trans rfl,?_⟩
   refine zas ⟨_,(ec.grow g0),ω0,?_⟩
   refine Br.intro (fun c_3=>?_) (fun c_3=>?_)
   ·have e:=e.trans (zw c_3)
    refine ⟨fa,(z1h (zt g0 i_s) 1 (Nat.le_of_ble_eq_true rfl)).trans rfl,?_⟩
    refine zzf ?_
    rw [e] at hk
    exact hk
   ·have e:=e.trans (zv c_3)
    rw [e] at hk
    exact hk
  ·have e:=e.trans (zv c_2)
   have c_2':=of_decide_eq_false c_2
   rw [e] at hk
   exact hk
 ·have e:=e.trans (zv c_1)
  have c_1':=of_decide_eq_false c_1
  rw [e] at hk
  exact hk
theorem f12z_ok:FnOk Tryz.prog 94 z16c:=FnOk.bodyF mix_ok zrw Tryz.func94 rfl ω9 ω9 fun args H=>by
 unfold z14u
 split
 ·refine ⟨?_,?_,?_,?_,fun K hk=>f12z_main _ H K hk⟩
  ·intro K K' h hk;obtain ⟨bb,jb,nb,fa,aa,i_s,ec,bd_4,k⟩:=hk;exact ⟨bb,jb,nb,fa,aa,i_s,ec,bd_4,h _ _ k⟩
  ·intro _ K hk;obtain ⟨bb,jb,nb,fa,aa,i_s,ec,bd_4,k⟩:=hk;exact ⟨_,k,fun K' k'=>⟨bb,jb,nb,fa,aa,i_s,ec,bd_4,k'⟩⟩
  ·intro K hk;obtain ⟨bb,jb,nb,fa,aa,i_s,ec,bd_4,k⟩:=hk;exact ⟨_,_,k⟩
  ·nofun
 ·exact Nice.no
def z8f (n low high:Int):Bool:=(bif decide ((low:Int)≤n) then decide ((n:Int)≤high) else false)
def zc4 (n low high:Int) (H:zq) (K:Bool→zq→Prop):Prop:=K (z8f n low high) H
theorem f20z_t {n a b:Int} (h:z8f n a b=true):a≤n∧n≤b:=by
 unfold z8f at h
 by_cases h1:a≤n
 ·rw [decide_eq_true h1,cond_true] at h;exact ⟨h1,of_decide_eq_true h⟩
 ·rw [decide_eq_false h1] at h;cases h
/-! f20z: function 86 -/
def zt7:Env:=envOf []
def z15z (args:List Value) (H:zq):(Value→zq→Prop)→Prop:=match args with
 | [.int .i64 n,.int .i64 low,.int .i64 high]=>fun K=>zc4 n low high H fun (r1:Bool) (H':zq)=>K (.bool r1) H'
 | _=>fun _=>False
def ztg:FSpec:={F:=z15z,quiet:=true,tame:=false}
theorem f20z_vc (n low high:Int) (H:zq) (K:KT):z1a Tryz.prog zt7 Tryz.f86 [.int .i64 n,.int .i64 low,.int .i64 high] H K=
 (Br (decide ((low:Int)≤n)) (K (.bool (decide ((n:Int)≤high))) H) (K (.bool false) H)):=by kernel_rfl
theorem zt8:∀g,FnOk Tryz.prog g (zt7 g):=FnOk.envOf (by
 intro x hx;cases hx)
theorem f20z_main (n low high:Int) (H:zq) (K:KT) (h:zc4 n low high H fun (r1:Bool) (H':zq)=>K (.bool r1) H'):z1a Tryz.prog zt7 Tryz.f86 [.int .i64 n,.int .i64 low,.int .i64 high] H K:=by
 rw [f20z_vc]
 unfold zc4 z8f at h
 repeat' (first | exact h | (exfalso;simp_all;done) | (refine ⟨by decide,?_⟩) | (refine Br.intro (fun hb=>?_) (fun hb=>?_)<;>(try simp only [hb,cond_true,cond_false,Bool.not_true,Bool.not_false] at h)))
theorem f20z_ok:FnOk Tryz.prog 86 ztg:=FnOk.bodyF mix_ok zt8 Tryz.func86 rfl ω9 ω9 fun args H=>by
 unfold z15z
 split
 ·refine ⟨?_,?_,?_,?_,fun K hk=>f20z_main _ _ _ H K hk⟩
  ·intro K K' h hk;have k:=hk;exact h _ _ k
  ·intro _ K hk;have k:=hk;exact ⟨_,k,fun K' k'=>k'⟩
  ·intro K hk;have k:=hk;exact ⟨_,_,k⟩
  ·nofun
 ·exact Nice.no
def zkm (wide high:Int):Bool:=(bif (z8f wide 1 16) then (z8f high 1 16) else false)
def zkn:=@zkm.eq_1
def zir (wide high:Int) (H:zq) (K:Bool→zq→Prop):Prop:=K (zkm wide high) H

theorem zzg {wide high:Int} {H:zq} {K:Bool→zq→Prop} (h:K (zkm wide high) H):zir wide high H K:=h
/-! f1hz: function 125 -/
def zsj:Env:=envOf [(86,ztg)]
def z15i (args:List Value) (H:zq):(Value→zq→Prop)→Prop:=match args with
 | [.int .i64 wide,.int .i64 high]=>fun K=>zir wide high H fun (r1:Bool) (H':zq)=>K (.bool r1) H'
 | _=>fun _=>False
def z16n:FSpec:={F:=z15i,quiet:=true,tame:=false}
theorem z1at (wide high:Int) (H:zq) (K:KT):z1a Tryz.prog zsj Tryz.f125 [.int .i64 wide,.int .i64 high] H K=
 (zc4 wide 1 16 H fun (r1:Bool) (H1:zq)=>Br r1 (zc4 high 1 16 H1 fun (r2:Bool) (H2:zq)=>K (.bool r2) H2) (K (.bool false) H1)):=by kernel_rfl
theorem zsk:∀g,FnOk Tryz.prog g (zsj g):=FnOk.envOf (by
 intro x hx
 simp only [List.mem_cons,List.not_mem_nil,or_false] at hx
 subst hx;exact f20z_ok)
theorem zv1 (wide high:Int) (H:zq) (K:KT) (h:zir wide high H fun (r1:Bool) (H':zq)=>K (.bool r1) H'):z1a Tryz.prog zsj Tryz.f125 [.int .i64 wide,.int .i64 high] H K:=by
 rw [z1at]
 simp only [zc4]
 unfold zir zkm at h
 repeat' (first | exact h | (exfalso;simp_all;done) | (refine ⟨by decide,?_⟩) | (refine Br.intro (fun hb=>?_) (fun hb=>?_)<;>(try simp only [hb,cond_true,cond_false,Bool.not_true,Bool.not_false] at h)))
theorem z1as:FnOk Tryz.prog 125 z16n:=FnOk.bodyF mix_ok zsk Tryz.func125 rfl ω9 ω9 fun args H=>by
 unfold z15i
 split
 ·refine ⟨?_,?_,?_,?_,fun K hk=>zv1 _ _ H K hk⟩
  ·intro K K' h hk;have k:=hk;exact h _ _ k
  ·intro _ K hk;have k:=hk;exact ⟨_,k,fun K' k'=>k'⟩
  ·intro K hk;have k:=hk;exact ⟨_,_,k⟩
  ·nofun
 ·exact Nice.no

def zeb (da sa:Int) (ba:LN):Bool:=((bif (zkm da sa) then (bif ((ba.length:Int):Int)==IntKind.wrap .i64 (da*sa) then (z1w ba) else false) else false))
def zec:=@zeb.eq_1
def zo0 (p:Nat) (H:zq) (K:Bool→zq→Prop):Prop:=∃(da sa:Int),∃(db:OA),∃(ib pb:Nat),∃(ba:LN),rdN H p 0 3=some [.int .i64 da,.int .i64 sa,.slice db ib pb]∧IsL fF H db ib ba∧ba.length<1073741824∧K (zeb da sa ba) H
theorem zzs {p:Nat} {H:zq} {K:Bool→zq→Prop} (h:∃(da sa:Int),∃(db:OA),∃(ib pb:Nat),∃(ba:LN),rdN H p 0 3=some [.int .i64 da,.int .i64 sa,.slice db ib pb]∧IsL fF H db ib ba∧ba.length<1073741824∧K (zeb da sa ba) H):zo0 p H K:=h
theorem ω23 {P:Prop} (h:P:=by decide):P:=h
theorem f21z_t {w h:Int} {l:LN} (hh:zeb w h l=true):1≤w∧w≤16∧1≤h∧h≤16∧(l.length:Int)=w*h∧(l.length:Int)≤256∧1≤(l.length:Int):=by
 rw [zec,zkn] at hh
 simp only [Bool.cond_false_right,Bool.and_eq_true] at hh
 obtain ⟨⟨a,b⟩,c,-⟩:=hh
 have a:=f20z_t a
 have b:=f20z_t b
 have h1:w*h≤16*16:=Int.mul_le_mul ω2 ω2 ω2 ω23
 have h2:1*1≤w*h:=Int.mul_le_mul ω2 ω2 ω2 ω2
 have c:=eq_of_beq c
 rw [zu ω2 ω2] at c
 exact ⟨a.1,a.2,b.1,b.2,c,by omega,by omega⟩
/-! f21z: function 98 -/
def zt9:Env:=envOf [(125,z16n),(124,zii)]
def z16a (args:List Value) (H:zq):(Value→zq→Prop)→Prop:=match args with
 | [.pointer (some ⟨p,0,none⟩)]=>fun K=>zo0 p H fun (r1:Bool) (H':zq)=>K (.bool r1) H'
 | _=>fun _=>False
def z17b:FSpec:={F:=z16a,quiet:=true,tame:=false}
theorem f21z_vc (p:Nat) (H:zq) (K:KT):z1a Tryz.prog zt9 Tryz.f98 [.pointer (some ⟨p,0,none⟩)] H K=
 (∃x1:Int,  rdC H p 1=some (.int .i64 x1)∧∃x2:Int,  rdC H p 0=some (.int .i64 x2)∧zir x2 x1 H fun (r1:Bool) (H1:zq)=>Br r1 (∃x3:Int,  rdC H1 p 1=some (.int .i64 x3)∧∃x4:Int,  rdC H1 p 0=some (.int .i64 x4)∧∃dj:OA,∃yi:Nat,∃sj:Nat,  rdC H1 p 2=some (.slice dj yi sj)∧Br (((yi:Int):Int)==IntKind.wrap .i64 (x4*x3)) (∃ji:OA,∃ei:Nat,∃qi:Nat,  rdC H1 p 2=some (.slice ji ei qi)∧zc3 ji ei qi H1 fun (r2:Bool) (H2:zq)=>K (.bool r2) H2) (K (.bool false) H1)) (K (.bool false) H1)):=by kernel_rfl
theorem zta:∀g,FnOk Tryz.prog g (zt9 g):=FnOk.envOf (by
 intro x hx
 simp only [List.mem_cons,List.not_mem_nil,or_false] at hx
 rcases hx with rfl | rfl
 ·exact z1as
 ·exact f11z_ok)
theorem f21z_main (p:Nat) (H:zq) (K:KT) (h:zo0 p H fun (r1:Bool) (H':zq)=>K (.bool r1) H'):z1a Tryz.prog zt9 Tryz.f98 [.pointer (some ⟨p,0,none⟩)] H K:=by
 rw [f21z_vc]
 obtain ⟨da,sa,db,ib,pb,ba,i_p,cc,bd_3,hk⟩:=h
 obtain rfl:=cc.eqn
 have e:(zeb da sa ba)=_:=rfl
 have e:=e.trans (zec da sa ba)
 have g0:=Grow.refl H
 refine ⟨sa,(z1h (zt g0 i_p) 1 (Nat.le_of_ble_eq_true rfl)).trans rfl,?_⟩
 refine ⟨da,(z1h (zt g0 i_p) 0 (Nat.le_of_ble_eq_true rfl)).trans rfl,?_⟩
 refine zzg ?_
 refine Br.intro (fun c_1=>?_) (fun c_1=>?_)
 ·have e:=e.trans (zw c_1)
  refine ⟨sa,(z1h (zt g0 i_p) 1 (Nat.le_of_ble_eq_true rfl)).trans rfl,?_⟩
  refine ⟨da,(z1h (zt g0 i_p) 0 (Nat.le_of_ble_eq_true rfl)).trans rfl,?_⟩
  refine ⟨db,ba.length,pb,(z1h (zt g0 i_p) 2 (Nat.le_of_ble_eq_true rfl)).trans rfl,?_⟩
  refine Br.intro (fun c_2=>?_) (fun c_2=>?_)
  ·have e:=e.trans (zw c_2)
   have c_2':=zjv c_2
   refine ⟨db,ba.length,pb,(z1h (zt g0 i_p) 2 (Nat.le_of_ble_eq_true rfl)).trans rfl,?_⟩
   refine zas ⟨_,(cc.grow g0),ω0,?_⟩
   rw [e] at hk
   exact hk
  ·have e:=e.trans (zv c_2)
   have c_2':=zju c_2
   rw [e] at hk
   exact hk
 ·have e:=e.trans (zv c_1)
  rw [e] at hk
  exact hk
theorem f21z_ok:FnOk Tryz.prog 98 z17b:=FnOk.bodyF mix_ok zta Tryz.func98 rfl ω9 ω9 fun args H=>by
 unfold z16a
 split
 ·refine ⟨?_,?_,?_,?_,fun K hk=>f21z_main _ H K hk⟩
  ·intro K K' h hk;obtain ⟨da,sa,db,ib,pb,ba,i_p,cc,bd_3,k⟩:=hk;exact ⟨da,sa,db,ib,pb,ba,i_p,cc,bd_3,h _ _ k⟩
  ·intro _ K hk;obtain ⟨da,sa,db,ib,pb,ba,i_p,cc,bd_3,k⟩:=hk;exact ⟨_,k,fun K' k'=>⟨da,sa,db,ib,pb,ba,i_p,cc,bd_3,k'⟩⟩
  ·intro K hk;obtain ⟨da,sa,db,ib,pb,ba,i_p,cc,bd_3,k⟩:=hk;exact ⟨_,_,k⟩
  ·nofun
 ·exact Nice.no

def zb8 (aa:LN) (fa:Nat) (da sa:Int) (ba:LN):Bool:=(bif (zca aa fa) then (zeb da sa ba) else false)
def zb9:=@zb8.eq_1
def znv (s p:Nat) (H:zq) (K:Bool→zq→Prop):Prop:=∃(bb:OA),∃(jb nb fa:Nat),∃(da sa:Int),∃(db:OA),∃(ib pb:Nat),∃(aa ba:LN),rdN H s 0 2=some [.slice bb jb nb,.float .f32 fa]∧rdN H p 0 3=some [.int .i64 da,.int .i64 sa,.slice db ib pb]∧IsL fF H bb jb aa∧IsL fF H db ib ba∧aa.length<1073741824∧ba.length<1073741824∧K (zb8 aa fa da sa ba) H
theorem zzo {s p:Nat} {H:zq} {K:Bool→zq→Prop} (h:∃(bb:OA),∃(jb nb fa:Nat),∃(da sa:Int),∃(db:OA),∃(ib pb:Nat),∃(aa ba:LN),rdN H s 0 2=some [.slice bb jb nb,.float .f32 fa]∧rdN H p 0 3=some [.int .i64 da,.int .i64 sa,.slice db ib pb]∧IsL fF H bb jb aa∧IsL fF H db ib ba∧aa.length<1073741824∧ba.length<1073741824∧K (zb8 aa fa da sa ba) H):znv s p H K:=h
theorem z17i {ws:LN} {sc:Nat} {w h:Int} {l:LN} (hh:zb8 ws sc w h l=true):1≤w∧w≤16∧1≤h∧h≤16∧(l.length:Int)=w*h∧(l.length:Int)≤256∧1≤(l.length:Int):=by
 rw [zb9] at hh
 cases h1:zca ws sc with
 | false=>rw [h1] at hh;cases hh
 | true=>rw [h1] at hh;exact f21z_t hh
/-! f1wz: function 45 -/
def zt1:Env:=envOf [(94,z16c),(98,z17b)]
def z15v (args:List Value) (H:zq):(Value→zq→Prop)→Prop:=match args with
 | [.pointer (some ⟨s,0,none⟩),.pointer (some ⟨p,0,none⟩)]=>fun K=>znv s p H fun (r1:Bool) (H':zq)=>K (.bool r1) H'
 | _=>fun _=>False
def z16x:FSpec:={F:=z15v,quiet:=true,tame:=false}
theorem z1c6 (s p:Nat) (H:zq) (K:KT):z1a Tryz.prog zt1 Tryz.f45 [.pointer (some ⟨s,0,none⟩),.pointer (some ⟨p,0,none⟩)] H K=
 (znb s H fun (r1:Bool) (H1:zq)=>Br r1 (zo0 p H1 fun (r2:Bool) (H2:zq)=>K (.bool r2) H2) (K (.bool false) H1)):=by kernel_rfl
theorem zt2:∀g,FnOk Tryz.prog g (zt1 g):=FnOk.envOf (by
 intro x hx
 simp only [List.mem_cons,List.not_mem_nil,or_false] at hx
 rcases hx with rfl | rfl
 ·exact f12z_ok
 ·exact f21z_ok)
theorem zvo (s p:Nat) (H:zq) (K:KT) (h:znv s p H fun (r1:Bool) (H':zq)=>K (.bool r1) H'):z1a Tryz.prog zt1 Tryz.f45 [.pointer (some ⟨s,0,none⟩),.pointer (some ⟨p,0,none⟩)] H K:=by
 rw [z1c6]
 obtain ⟨bb,jb,nb,fa,da,sa,db,ib,pb,aa,ba,i_s,i_p,ec,cc,bd_2,bd_3,hk⟩:=h
 obtain rfl:=ec.eqn
 obtain rfl:=cc.eqn
 have e:(zb8 aa fa da sa ba)=_:=rfl
 have e:=e.trans (zb9 aa fa da sa ba)
 have g0:=Grow.refl H
 refine zz8 ⟨bb,aa.length,nb,fa,_,(zt g0 i_s),(ec.grow g0),ω0,?_⟩
 refine Br.intro (fun c_1=>?_) (fun c_1=>?_)
 ·have e:=e.trans (zw c_1)
  refine zzs ⟨da,sa,db,ba.length,pb,_,(zt g0 i_p),(cc.grow g0),ω0,?_⟩
  rw [e] at hk
  exact hk
 ·have e:=e.trans (zv c_1)
  rw [e] at hk
  exact hk
theorem z1c5:FnOk Tryz.prog 45 z16x:=FnOk.bodyF mix_ok zt2 Tryz.func45 rfl ω9 ω9 fun args H=>by
 unfold z15v
 split
 ·refine ⟨?_,?_,?_,?_,fun K hk=>zvo _ _ H K hk⟩
  ·intro K K' h hk;obtain ⟨bb,jb,nb,fa,da,sa,db,ib,pb,aa,ba,i_s,i_p,ec,cc,bd_2,bd_3,k⟩:=hk;exact ⟨bb,jb,nb,fa,da,sa,db,ib,pb,aa,ba,i_s,i_p,ec,cc,bd_2,bd_3,h _ _ k⟩
  ·intro _ K hk;obtain ⟨bb,jb,nb,fa,da,sa,db,ib,pb,aa,ba,i_s,i_p,ec,cc,bd_2,bd_3,k⟩:=hk;exact ⟨_,k,fun K' k'=>⟨bb,jb,nb,fa,da,sa,db,ib,pb,aa,ba,i_s,i_p,ec,cc,bd_2,bd_3,k'⟩⟩
  ·intro K hk;obtain ⟨bb,jb,nb,fa,da,sa,db,ib,pb,aa,ba,i_s,i_p,ec,cc,bd_2,bd_3,k⟩:=hk;exact ⟨_,_,k⟩
  ·nofun
 ·exact Nice.no
def zfy (levels:Int):Bool:=(z8f levels 1 4)
def zx0:=@zfy.eq_1
def znc (levels:Int) (H:zq) (K:Bool→zq→Prop):Prop:=K (zfy levels) H
/-! f14z: function 46 -/
def zry:Env:=envOf [(86,ztg)]
def z14w (args:List Value) (H:zq):(Value→zq→Prop)→Prop:=match args with
 | [.int .i64 levels]=>fun K=>znc levels H fun (r1:Bool) (H':zq)=>K (.bool r1) H'
 | _=>fun _=>False
def z16e:FSpec:={F:=z14w,quiet:=true,tame:=false}
theorem f14z_vc (levels:Int) (H:zq) (K:KT):z1a Tryz.prog zry Tryz.f46 [.int .i64 levels] H K=
 (zc4 levels 1 4 H fun (r1:Bool) (H1:zq)=>K (.bool r1) H1):=by kernel_rfl
theorem zrz:∀g,FnOk Tryz.prog g (zry g):=FnOk.envOf (by
 intro x hx
 simp only [List.mem_cons,List.not_mem_nil,or_false] at hx
 subst hx;exact f20z_ok)
theorem f14z_main (levels:Int) (H:zq) (K:KT) (h:znc levels H fun (r1:Bool) (H':zq)=>K (.bool r1) H'):z1a Tryz.prog zry Tryz.f46 [.int .i64 levels] H K:=by
 rw [f14z_vc]
 simp only [zc4]
 unfold znc zfy at h
 repeat' (first | exact h | (exfalso;simp_all;done) | (refine ⟨by decide,?_⟩) | (refine Br.intro (fun hb=>?_) (fun hb=>?_)<;>(try simp only [hb,cond_true,cond_false,Bool.not_true,Bool.not_false] at h)))
theorem f14z_ok:FnOk Tryz.prog 46 z16e:=FnOk.bodyF mix_ok zrz Tryz.func46 rfl ω9 ω9 fun args H=>by
 unfold z14w
 split
 ·refine ⟨?_,?_,?_,?_,fun K hk=>f14z_main _ H K hk⟩
  ·intro K K' h hk;have k:=hk;exact h _ _ k
  ·intro _ K hk;have k:=hk;exact ⟨_,k,fun K' k'=>k'⟩
  ·intro K hk;have k:=hk;exact ⟨_,_,k⟩
  ·nofun
 ·exact Nice.no

def zba (da sa:Int) (ba:LN):Int×Int×LN:=(da,sa,(([]:LN)++ba))
def zx2:=@zba.eq_1
def znw (p:Nat) (H:zq) (K:Int→Int→OA→Nat→Nat→zq→Prop):Prop:=∃(da sa:Int),∃(db:OA),∃(ib pb:Nat),∃(ba:LN),rdN H p 0 3=some [.int .i64 da,.int .i64 sa,.slice db ib pb]∧IsL fF H db ib ba∧ba.length<1073741824∧((∀(ja:OA) (oa ma:Nat),∀H':zq,Grow H H'→OwnS fF H' H.length ja oa ma ((zba da sa ba).2.2)→K ((zba da sa ba).1) ((zba da sa ba).2.1) ja oa ma H'))
theorem zzp {p:Nat} {H:zq} {K:Int→Int→OA→Nat→Nat→zq→Prop} (h:∃(da sa:Int),∃(db:OA),∃(ib pb:Nat),∃(ba:LN),rdN H p 0 3=some [.int .i64 da,.int .i64 sa,.slice db ib pb]∧IsL fF H db ib ba∧ba.length<1073741824∧((∀(ja:OA) (oa ma:Nat),∀H':zq,Grow H H'→OwnS fF H' H.length ja oa ma ((zba da sa ba).2.2)→K ((zba da sa ba).1) ((zba da sa ba).2.1) ja oa ma H'))):znw p H K:=h

/-! f1xz: function 101 -/
def zt3:Env:=envOf []
def z15w (args:List Value) (H:zq):(Value→zq→Prop)→Prop:=match args with
 | [.pointer (some ⟨p,0,none⟩)]=>fun K=>znw p H fun (sd:Int) (pd:Int) (ja:OA) (oa:Nat) (ma:Nat) (H':zq)=>K (.agg #[.int .i64 sd,.int .i64 pd,.slice ja oa ma]) H'
 | _=>fun _=>False
def z16y:FSpec:={F:=z15w,quiet:=false,tame:=true}
theorem z1c8 (p:Nat) (H:zq) (K:KT):z1a Tryz.prog zt3 Tryz.f101 [.pointer (some ⟨p,0,none⟩)] H K=
 (Al [.int .i64 0,.int .i64 0,.slice none 0 0] H fun b1 H1=>∃fh:OA,∃bh:Nat,∃qh:Nat,  rdC H1 p 2=some (.slice fh bh qh)∧∃x2:Int,  rdC H1 p 1=some (.int .i64 x2)∧∃x3:Int,  rdC H1 p 0=some (.int .i64 x3)∧Al [] H1 fun b2 H2=>∃o1 w1:List Value,ownB H2 (some ⟨b2,0,none⟩) 0 1 1=some o1∧rdS H2 fh (bh*1)=some w1∧((some ⟨b2,0,none⟩:OA)=none→0<(bh:Nat))∧(0:Nat)+bh<most∧Ap H2 (z2y H2 (some ⟨b2,0,none⟩)++[some ⟨o1++w1,true⟩]) fun b3 H3=>isOwn H3 b1∧(∃l,rdN H3 b1 0 3=some l)∧Lt (setN H3 b1 0 [.int .i64 x3,.int .i64 x2,.slice (some ⟨b3,0,none⟩) (0+bh) 1]) fun H4=>∃c1:Int,∃c2:Int,∃kh:OA,∃mh:Nat,∃lh:Nat,  rdN H4 b1 0 3=some [.int .i64 c1,.int .i64 c2,.slice kh mh lh]∧K (.agg #[.int .i64 c1,.int .i64 c2,.slice kh mh lh]) H4):=by kernel_rfl
theorem zt4:∀g,FnOk Tryz.prog g (zt3 g):=FnOk.envOf (by
 intro x hx;cases hx)
theorem ω3 {P:Prop} (h:P:=by first | (simp only [List.length_map,List.length_cons,List.length_nil,List.length_append];done) | (simp only [List.length_map,List.length_cons,List.length_nil,List.length_append];omega) | (simp only [List.length_map,List.length_cons,List.length_nil,List.length_append,List.length_take,List.length_drop];omega)):P:=h
theorem ω8 {P:Prop} (h:P:=by first | omega | (simp only [List.length_append,List.length_cons,List.length_nil];done) | (simp only [List.length_append,List.length_cons,List.length_nil];omega) | (simp only [List.length_append,List.length_cons,List.length_nil,List.length_take,List.length_drop];omega)):P:=h
theorem zvp (p:Nat) (H:zq) (K:KT) (h:znw p H fun (sd:Int) (pd:Int) (ja:OA) (oa:Nat) (ma:Nat) (H':zq)=>K (.agg #[.int .i64 sd,.int .i64 pd,.slice ja oa ma]) H'):z1a Tryz.prog zt3 Tryz.f101 [.pointer (some ⟨p,0,none⟩)] H K:=by
 rw [z1c8]
 obtain ⟨da,sa,db,ib,pb,ba,i_p,cc,bd_44,hk⟩:=h
 obtain rfl:=cc.eqn
 have e:(zba da sa ba)=_:=rfl
 have e:=e.trans (zx2 da sa ba)
 have g0:=Grow.refl H
 refine Al.intro (fun b_1 H_1 hb_2 hl_3 g_4 o_5=>?_)
 have l_7:=g_4.1
 have g_8:=g0.trans g_4
 have l_9:=g_8.1
 have w43:=o_5.lt
 refine ⟨db,ba.length,pb,(z1h (zt g_8 i_p) 2 (Nat.le_of_ble_eq_true rfl)).trans rfl,?_⟩
 refine ⟨sa,(z1h (zt g_8 i_p) 1 (Nat.le_of_ble_eq_true rfl)).trans rfl,?_⟩
 refine ⟨da,(z1h (zt g_8 i_p) 0 (Nat.le_of_ble_eq_true rfl)).trans rfl,?_⟩
 refine Al.intro (fun b_10 H_2 hb_11 hl_12 g_13 o_14=>?_)
 have o_14:Own H_2 b_10 ((([]:LN)).map fF):=o_14
 have l_16:=g_13.1
 have g_17:=g_8.trans g_13
 have l_18:=g_17.1
 have o_19:=o_5.grow g_13
 have w20:=o_19.lt
 have w42:=o_14.lt
 refine ⟨_,_,o_14.ownB ω3 rfl,(z2q (cc.grow g_17)),(fun h=>by cases h),ω25,?_⟩
 refine Ap.app o_14 rfl rfl (fun b25 H_3 q40 hl_21 o22 k23=>?_)
 have o22:=z2b o22
 have l26:=k23.1
 have g27:=g_17.keep (b:=b_10) ω2 k23
 have l28:=g27.1
 have o29:=o_19.keep ω2 k23
 have w30:=o29.lt
 have w41:=o22.lt
 refine Lt.setN (n:=3) o29 (Nat.le_of_ble_eq_true rfl) rfl (fun H_4 hl_31 o33 k32=>?_)
 have o33:Own H_4 b_1 [.int .i64 da,.int .i64 sa,.slice (some ⟨b25,0,none⟩) (0+ba.length) 1]:=o33
 have l34:=k32.1
 have g35:=g27.keep (b:=b_1) ω2 k32
 have l36:=g35.1
 have o37:=o22.keep ω2 k32
 have w38:=o37.lt
 have w39:=o33.lt
 refine ⟨da,sa,some ⟨b25,0,none⟩,0+ba.length,1,(o33.rdN (Nat.le_of_ble_eq_true rfl)).trans rfl,?_⟩
 rw [e] at hk
 exact hk _ _ _ H_4 g35 (o37.ownS ω8 ω2)
theorem z1c7:FnOk Tryz.prog 101 z16y:=FnOk.bodyF mix_ok zt4 Tryz.func101 rfl ω9 ω9 fun args H=>by
 unfold z15w
 split
 ·refine ⟨?_,?_,?_,?_,fun K hk=>zvp _ H K hk⟩
  ·intro K K' h hk;obtain ⟨da,sa,db,ib,pb,ba,i_p,cc,bd_44,k⟩:=hk;exact ⟨da,sa,db,ib,pb,ba,i_p,cc,bd_44,(fun ja oa ma H' gg ow0=>h _ _ (k ja oa ma H' gg ow0))⟩
  ·nofun
  ·intro K hk;obtain ⟨da,sa,db,ib,pb,ba,i_p,cc,bd_44,k⟩:=hk;exact z4m fun a n e H1 g o=>⟨_,_,k a n e H1 g o⟩
  ·intro _ K hk;obtain ⟨da,sa,db,ib,pb,ba,i_p,cc,bd_44,k⟩:=hk;exact ⟨da,sa,db,ib,pb,ba,i_p,cc,bd_44,(fun ja oa ma H' gg ow0=>⟨gg,k ja oa ma H' gg ow0⟩)⟩
 ·exact Nice.no

def z8p (wide high n:Int):Nat→Int→Int→Int→Int×Int
 | 0,_,_,_=>(0,0)
 | μ+1,wide_0,high_1,k=>(bif decide ((k:Int)<n) then (z8p wide high n μ ((Int.tdiv (wide_0+1) 2)) ((Int.tdiv (high_1+1) 2)) (k+1)) else (wide_0,high_1))
def za8:=fun wide high n μ wide_0 high_1 k=>@z8p.eq_2 wide high n wide_0 high_1 k μ
def z2l (wide high n:Int):Int×Int:=(z8p wide high n (Int.toNat (n-(0:Int))+1) wide high (0:Int))
def zkf:=@z2l.eq_1
def zti (wide high n:Int) (H:zq) (K:Int→Int→zq→Prop):Prop:=1≤wide∧wide≤16∧1≤high∧high≤16∧n≤1000∧K ((z2l wide high n).1) ((z2l wide high n).2) H
theorem zk0 (w h n:Int):∀(μ:Nat) (a b k:Int),1≤a→a≤16→1≤b→b≤16→n-k≤μ→z8p w h n (μ+1) a b k=(z6a (n-k).toNat a,z6a (n-k).toNat b):=by
 intro μ
 induction μ with
 | zero=>
  intro a b k h1 h2 h3 h4 hm
  rw [za8,decide_eq_false ω2,cond_false,show (n-k).toNat=0 by omega];rfl
 | succ μ ih=>
  intro a b k h1 h2 h3 h4 hm
  rw [za8]
  by_cases h:k<n
  ·rw [decide_eq_true h,cond_true,zdp h1,zdp h3]
   have ra:=zb0 h1 h2
   have rb:=zb0 h3 h4
   obtain ⟨j,hj⟩:∃j,(n-k).toNat=j+1:=⟨(n-k).toNat-1,by omega⟩
   rw [ih (zhh a) (zhh b) (k+1) ω2 ω2 ω2 ω2 ω2,hj,show (n-(k+1)).toNat=j by omega];rfl
  ·rw [decide_eq_false h,cond_false,show (n-k).toNat=0 by omega];rfl
theorem zc7 (w h n:Int) (h1:1≤w) (h2:w≤16) (h3:1≤h) (h4:h≤16):z2l w h n=(z6a n.toNat w,z6a n.toNat h):=by
 rw [zkf,zk0 w h n _ w h 0 h1 h2 h3 h4 ω2,show n-0=n by omega]
theorem zhl (w h n:Int):1≤w∧w≤16∧1≤h∧h≤16→1≤(z2l w h n).1∧(z2l w h n).1≤w∧1≤(z2l w h n).2∧(z2l w h n).2≤h:=fun ⟨h1,h2,h3,h4⟩=>by
 rw [zc7 w h n h1 h2 h3 h4]
 have a:=z7c n.toNat w h1 h2
 have b:=z7c n.toNat h h3 h4
 exact ⟨a.1,a.2,b.1,b.2⟩
/-! f13z: function 102 -/
def zao:Env:=envOf []
def z14v (args:List Value) (H:zq):(Value→zq→Prop)→Prop:=match args with
 | [.int .i64 wide,.int .i64 high,.int .i64 n]=>fun K=>zti wide high n H fun (r1:Int) (r2:Int) (H':zq)=>K (.tuple #[.int .i64 r1,.int .i64 r2]) H'
 | _=>fun _=>False
def z16d:FSpec:={F:=z14v,quiet:=true,tame:=false}
theorem f13z_vc (wide high n:Int) (H:zq) (K:KT):z1a Tryz.prog zao Tryz.f102 [.int .i64 wide,.int .i64 high,.int .i64 n] H K=
 (z1j (exL Tryz.prog zao (cl (cl (cr (cl (cr (zr Tryz.f102)))))) 263 192 [(0,3)]) (.int .i64 wide::.int .i64 high::.int .i64 n::ud5 (.int .i64 0::ud13 [])) H (zx 0 (seqQ (exL Tryz.prog zao (cr (cr (zr Tryz.f102))) 192 192 []) (retK Tryz.prog Tryz.f102 K)))):=by kernel_rfl
abbrev f13z_P1 (n wide_0 high_1 k:Int)  :List Value:=(.int .i64 wide_0::.int .i64 high_1::.int .i64 n::ud5 (.int .i64 k::ud13 []))
theorem f13z_r1 (n wide_0 high_1 k:Int)  (H:zq) (R:Post):exL Tryz.prog zao (cl (cl (cr (cl (cr (zr Tryz.f102)))))) 263 192 [(0,3)] (f13z_P1 n wide_0 high_1 k) H R=
 (Br (decide ((k:Int)<n)) (2≠(0:Int)∧2≠(0:Int)∧R .normal (.int .i64 (IntKind.wrap .i64 (Int.tdiv (IntKind.wrap .i64 (wide_0+1)) 2))::.int .i64 (IntKind.wrap .i64 (Int.tdiv (IntKind.wrap .i64 (high_1+1)) 2))::.int .i64 n::ud5 (.int .i64 (IntKind.wrap .i64 (k+1))::ud13 [])) H) (R (.exit 0) (.int .i64 wide_0::.int .i64 high_1::ud20 []) H)):=by kernel_rfl
def f13z_I1 (n:Int) (Inv:Nat→Int→Int→Int→zq→Prop):Nat→List Value→zq→Prop:=fun μ tm H=>∃(wide_0 high_1 k:Int),tm=(f13z_P1 n wide_0 high_1 k)∧Inv μ wide_0 high_1 k H
theorem f13z_L1 (n:Int) {Q:Post} (Inv:Nat→Int→Int→Int→zq→Prop) (ν:Nat) (wide_0 high_1 k:Int)  (H:zq) (h0:Inv ν wide_0 high_1 k H)
  (hs:∀(μ:Nat) (wide_0:Int) (high_1:Int) (k:Int)  (H:zq),Inv μ wide_0 high_1 k H→exL Tryz.prog zao (cl (cl (cr (cl (cr (zr Tryz.f102)))))) 263 192 [(0,3)] (f13z_P1 n wide_0 high_1 k) H (z1b (f13z_I1 n Inv) μ Q)):z1j (exL Tryz.prog zao (cl (cl (cr (cl (cr (zr Tryz.f102)))))) 263 192 [(0,3)]) (f13z_P1 n wide_0 high_1 k) H Q:=
 ⟨f13z_I1 n Inv,ν,⟨wide_0,high_1,k,rfl,h0⟩,fun μ tm H h=>by obtain ⟨wide_0,high_1,k,rfl,hI⟩:=h;exact hs μ wide_0 high_1 k  H hI⟩
theorem f13z_n1 {n:Int} {Q:Post} {Inv:Nat→Int→Int→Int→zq→Prop} {μ:Nat} (μ':Nat) {wide_0 high_1 k:Int}  {H:zq} (hm:μ'<μ) (hI:Inv μ' wide_0 high_1 k H):z1b (f13z_I1 n Inv) μ Q .normal (f13z_P1 n wide_0 high_1 k) H:=⟨μ',hm,wide_0,high_1,k,rfl,hI⟩
theorem f13z_x1_0 (wide_0 high_1:Int) (H:zq) (K:KT)  {I:Nat→List Value→zq→Prop} {μ:Nat}:z1b I μ (zx 0 (seqQ (exL Tryz.prog zao (cr (cr (zr Tryz.f102))) 192 192 []) (retK Tryz.prog Tryz.f102 K))) (.exit 0) (.int .i64 wide_0::.int .i64 high_1::ud20 []) H=
 (K (.tuple #[.int .i64 wide_0,.int .i64 high_1]) H):=by kernel_rfl
theorem zrx:∀g,FnOk Tryz.prog g (zao g):=FnOk.envOf (by
 intro x hx;cases hx)
theorem ω24 {P:Prop} (h:P:=by first | omega | decide | (simp;done) | (simp;omega)):P:=h
theorem f13z_main (wide high n:Int) (H:zq) (K:KT) (h:zti wide high n H fun (r1:Int) (r2:Int) (H':zq)=>K (.tuple #[.int .i64 r1,.int .i64 r2]) H'):z1a Tryz.prog zao Tryz.f102 [.int .i64 wide,.int .i64 high,.int .i64 n] H K:=by
 rw [f13z_vc]
 obtain ⟨pr0,pr1,pr2,pr3,pr4,hk⟩:=h
 have e:(z2l wide high n)=_:=rfl
 have e:=e.trans (zkf wide high n)
 have g0:=Grow.refl H
 refine f13z_L1 _ (fun (μ:Nat) (wide_0:Int) (high_1:Int) (k:Int) (H_1:zq)=>H=H_1∧(0:Int)≤k∧((k≤n∨k≤(0:Int)))∧1≤wide_0∧wide_0≤16∧1≤high_1∧high_1≤16∧n-k≤(μ:Int)∧z2l wide high n=z8p wide high n (μ+1) wide_0 high_1 k) (Int.toNat (n-(0:Int))) _ _ _ H ?_ ?_
 ·exact ⟨rfl,ω7,ω7,ω7,ω7,ω7,ω7,ω2,e⟩
 ·intro μ wide_0 high_1 k  H_1 hI
  obtain ⟨rfl,v_1,v_2,v_3,v_4,v_5,v_6,hμ,e⟩:=hI
  rw [f13z_r1]
  have e:=e.trans (za8 wide high n μ wide_0 high_1 k)
  have l_7:=g0.1
  refine Br.intro (fun c_8=>?_) (fun c_8=>?_)
  ·have e:=e.trans (zw c_8)
   have c_8':=of_decide_eq_true c_8
   rw [show IntKind.wrap .i64 (wide_0+1)=(wide_0+1) from zu ω2 ω2]
   have z9:=zc0 (wide_0+1) 2
   refine ⟨ω24,?_⟩
   rw [show IntKind.wrap .i64 (Int.tdiv (wide_0+1) 2)=(Int.tdiv (wide_0+1) 2) from zu ω2 ω2]
   rw [show IntKind.wrap .i64 (high_1+1)=(high_1+1) from zu ω2 ω2]
   have z10:=zc0 (high_1+1) 2
   refine ⟨ω24,?_⟩
   rw [show IntKind.wrap .i64 (Int.tdiv (high_1+1) 2)=(Int.tdiv (high_1+1) 2) from zu ω2 ω2]
   rw [show IntKind.wrap .i64 (k+1)=(k+1) from zu ω2 ω2]
   refine f13z_n1 (μ-1) ω17 ⟨rfl,ω1,ω1,ω1,ω1,ω1,ω1,ω17,ω13⟩
  ·have e:=e.trans (zv c_8)
   have c_8':=of_decide_eq_false c_8
   rw [f13z_x1_0]
   rw [e] at hk
   exact hk
theorem f13z_ok:FnOk Tryz.prog 102 z16d:=FnOk.bodyF mix_ok zrx Tryz.func102 rfl ω9 ω9 fun args H=>by
 unfold z14v
 split
 ·refine ⟨?_,?_,?_,?_,fun K hk=>f13z_main _ _ _ H K hk⟩
  ·intro K K' h hk;obtain ⟨pr0,pr1,pr2,pr3,pr4,k⟩:=hk;exact ⟨pr0,pr1,pr2,pr3,pr4,h _ _ k⟩
  ·intro _ K hk;obtain ⟨pr0,pr1,pr2,pr3,pr4,k⟩:=hk;exact ⟨_,k,fun K' k'=>⟨pr0,pr1,pr2,pr3,pr4,k'⟩⟩
  ·intro K hk;obtain ⟨pr0,pr1,pr2,pr3,pr4,k⟩:=hk;exact ⟨_,_,k⟩
  ·nofun
 ·exact Nice.no

def z8s (da sa:Int) (ba:LN) (x y wide high:Int):Nat→Int→Int→Int→Int→Int→LN→Int×Int×LN
 | 0,_,_,_,_,_,_=>(0,0,[])
 | μ+1,i,q1_1,q1_2,q1_4,q1_5,q1_6=>(bif decide ((i:Int)<(wide*high)) then (z8s da sa ba x y wide high μ (i+1) q1_1 q1_2 q1_4 q1_5 ((q1_6++[(((ba).getD ((((((((y+(Int.tdiv i wide)))*da))+x))+(Int.tmod i wide)):Int).toNat 0))]))) else (q1_4,q1_5,q1_6))
def zac:=fun da sa ba x y wide high μ i q1_1 q1_2 q1_4 q1_5 q1_6=>@z8s.eq_2 da sa ba x y wide high i q1_1 q1_2 q1_4 q1_5 q1_6 μ
def za2 (da sa:Int) (ba:LN) (x y wide high:Int):Int×Int×LN:=(z8s da sa ba x y wide high (Int.toNat ((wide*high)-(0:Int))+1) (0:Int) 0 0 wide high ([]:LN))
def zko:=@za2.eq_1
def zno (p:Nat) (x y wide high:Int) (H:zq) (K:Int→Int→OA→Nat→Nat→zq→Prop):Prop:=∃(da sa:Int),∃(db:OA),∃(ib pb:Nat),∃(ba:LN),rdN H p 0 3=some [.int .i64 da,.int .i64 sa,.slice db ib pb]∧IsL fF H db ib ba∧ba.length<1073741824∧0≤x∧0≤y∧1≤wide∧1≤high∧x+wide≤da∧y+high≤sa∧da≤16∧sa≤16∧(ba.length:Int)=da*sa∧((∀(ja:OA) (oa ma:Nat),∀H':zq,Grow H H'→OwnS fF H' H.length ja oa ma ((za2 da sa ba x y wide high).2.2)→K ((za2 da sa ba x y wide high).1) ((za2 da sa ba x y wide high).2.1) ja oa ma H'))
theorem zzi {p:Nat} {x y wide high:Int} {H:zq} {K:Int→Int→OA→Nat→Nat→zq→Prop} (h:∃(da sa:Int),∃(db:OA),∃(ib pb:Nat),∃(ba:LN),rdN H p 0 3=some [.int .i64 da,.int .i64 sa,.slice db ib pb]∧IsL fF H db ib ba∧ba.length<1073741824∧0≤x∧0≤y∧1≤wide∧1≤high∧x+wide≤da∧y+high≤sa∧da≤16∧sa≤16∧(ba.length:Int)=da*sa∧((∀(ja:OA) (oa ma:Nat),∀H':zq,Grow H H'→OwnS fF H' H.length ja oa ma ((za2 da sa ba x y wide high).2.2)→K ((za2 da sa ba x y wide high).1) ((za2 da sa ba x y wide high).2.1) ja oa ma H'))):zno p x y wide high H K:=h
theorem zqd (W H:Int) (L:LN) (x y wide high:Int) (w h:Nat) (hw:wide=w) (hh:high=h) (hw0:0<w):∀(μ i:Nat) (a b:Int),i≤h*w→h*w-i≤μ→
  ∀o,o=(List.range i).map (fun i:Nat=>z5a L x y W ((i % w:Nat):Int) ((i / w:Nat):Int))→
  z8s W H L x y wide high (μ+1) (i:Int) a b wide high o=(wide,high,picL w h (z5a L x y W)):=by
 have hm:wide*high=((h*w:Nat):Int):=by rw [hw,hh,Int.natCast_mul,Int.mul_comm]
 intro μ
 induction μ with
 | zero=>
  intro i a b h1 h2 o ho
  rw [zac,hm,decide_eq_false ω2,cond_false,ho,show i=h*w by omega,z8y hw0]
 | succ μ ih=>
  intro i a b h1 h2 o ho
  rw [zac,hm]
  by_cases hlt:i<h*w
  ·rw [decide_eq_true ω2,cond_true,show (i:Int)+1=((i+1:Nat):Int) by omega]
   refine ih (i+1) a b ω2 ω2 _ ?_
   rw [ho,List.range_succ,List.map_append]
   congr 1
   have e1:Int.tdiv (i:Int) wide=((i / w:Nat):Int):=by rw [hw];rfl
   have e2:Int.tmod (i:Int) wide=((i % w:Nat):Int):=by rw [hw];rfl
   rw [e1,e2];rfl
  ·rw [decide_eq_false ω2,cond_false,ho,show i=h*w by omega,z8y hw0]
theorem zqe (W H:Int) (L:LN) (x y wide high:Int) (hw:1≤wide) (hh:1≤high):za2 W H L x y wide high=(wide,high,picL wide.toNat high.toNat (z5a L x y W)):=by
 rw [zko]
 have hm:wide*high=((high.toNat*wide.toNat:Nat):Int):=by rw [Int.natCast_mul,Int.toNat_of_nonneg ω2,Int.toNat_of_nonneg ω2,Int.mul_comm]
 exact zqd W H L x y wide high wide.toNat high.toNat ω2 ω2 ω2 _ 0 0 0 (Nat.zero_le _) ω2 [] rfl
/-! f1lz: function 121 -/
def zap:Env:=envOf []
def z15l (args:List Value) (H:zq):(Value→zq→Prop)→Prop:=match args with
 | [.pointer (some ⟨p,0,none⟩),.int .i64 x,.int .i64 y,.int .i64 wide,.int .i64 high]=>fun K=>zno p x y wide high H fun (sd:Int) (pd:Int) (ja:OA) (oa:Nat) (ma:Nat) (H':zq)=>K (.agg #[.int .i64 sd,.int .i64 pd,.slice ja oa ma]) H'
 | _=>fun _=>False
def z16p:FSpec:={F:=z15l,quiet:=false,tame:=true}
theorem z1b3 (p:Nat) (x y wide high:Int) (H:zq) (K:KT):z1a Tryz.prog zap Tryz.f121 [.pointer (some ⟨p,0,none⟩),.int .i64 x,.int .i64 y,.int .i64 wide,.int .i64 high] H K=
 (Al [.int .i64 0,.int .i64 0,.slice none 0 0] H fun b1 H1=>Al [] H1 fun b2 H2=>Al [.int .i64 0,.int .i64 0,.slice none 0 0] H2 fun b3 H3=>isOwn H3 b3∧(∃l,rdN H3 b3 0 3=some l)∧Lt (setN H3 b3 0 [.int .i64 wide,.int .i64 high,.slice (some ⟨b2,0,none⟩) 0 1]) fun H4=>z1j (exL Tryz.prog zap (cl (cl (cr (cl (cr (cr (zr Tryz.f121))))))) 7199 1024 [(0,3072)]) (.pointer (some ⟨p,0,none⟩)::.int .i64 x::.int .i64 y::.int .i64 wide::.int .i64 high::ud5 (.pointer (some ⟨b1,0,none⟩)::.pointer (some ⟨b3,0,none⟩)::.int .i64 0::ud39 [])) H4 (zx 0 (seqQ (exL Tryz.prog zap (cr (cr (cr (zr Tryz.f121)))) 1024 1024 []) (retK Tryz.prog Tryz.f121 K)))):=by kernel_rfl
abbrev zdb (b1 b3:Nat) (high:Int) (p:Nat) (wide x y i:Int)  :List Value:=(.pointer (some ⟨p,0,none⟩)::.int .i64 x::.int .i64 y::.int .i64 wide::.int .i64 high::ud5 (.pointer (some ⟨b1,0,none⟩)::.pointer (some ⟨b3,0,none⟩)::.int .i64 i::ud39 []))
theorem z1b2 (b1 b3:Nat) (high:Int) (p:Nat) (wide x y i:Int)  (H:zq) (R:Post):exL Tryz.prog zap (cl (cl (cr (cl (cr (cr (zr Tryz.f121))))))) 7199 1024 [(0,3072)] (zdb b1 b3 high p wide x y i) H R=
 (Br (decide ((i:Int)<IntKind.wrap .i64 (wide*high))) (∃fh:OA,∃bh:Nat,∃qh:Nat,  rdC H b3 2=some (.slice fh bh qh)∧∃sk:OA,∃rk:Nat,∃uk:Nat,  rdC H p 2=some (.slice sk rk uk)∧wide≠(0:Int)∧∃x3:Int,  rdC H p 0=some (.int .i64 x3)∧wide≠(0:Int)∧(0:Int)≤IntKind.wrap .i64 ((IntKind.wrap .i64 ((IntKind.wrap .i64 ((IntKind.wrap .i64 (y+(IntKind.wrap .i64 (Int.tdiv i wide))))*x3))+x))+(Int.tmod i wide))∧IntKind.wrap .i64 ((IntKind.wrap .i64 ((IntKind.wrap .i64 ((IntKind.wrap .i64 (y+(IntKind.wrap .i64 (Int.tdiv i wide))))*x3))+x))+(Int.tmod i wide))<(rk:Int)∧∃b4 f1,(sk:OA)=some ⟨b4,f1,none⟩∧∃x4:Nat,  rdC H b4 (f1+(IntKind.wrap .i64 ((IntKind.wrap .i64 ((IntKind.wrap .i64 ((IntKind.wrap .i64 (y+(IntKind.wrap .i64 (Int.tdiv i wide))))*x3))+x))+(Int.tmod i wide)):Int).toNat*1)=some (.float .f32 x4)∧Al [.float .f32 x4] H fun b5 H5=>∃o1 w1:List Value,ownB H5 fh bh qh 1=some o1∧rdS H5 (some ⟨b5,0,none⟩) (1*1)=some w1∧((fh:OA)=none→0<(1:Nat))∧(bh:Nat)+1<most∧Ap H5 (z2y H5 fh++[some ⟨o1++w1,true⟩]) fun b6 H6=>isOwn H6 b3∧(∃l,rdN H6 b3 2 1=some l)∧Lt (setC H6 b3 2 (.slice (some ⟨b6,0,none⟩) (bh+1) 1)) fun H7=>R .normal (.pointer (some ⟨p,0,none⟩)::.int .i64 x::.int .i64 y::.int .i64 wide::.int .i64 high::ud5 (.pointer (some ⟨b1,0,none⟩)::.pointer (some ⟨b3,0,none⟩)::.int .i64 (IntKind.wrap .i64 (i+1))::ud39 [])) H7) (R (.exit 0) (ud10 (.pointer (some ⟨b1,0,none⟩)::.pointer (some ⟨b3,0,none⟩)::ud40 [])) H)):=by kernel_rfl
def zm1 (b1 b3:Nat) (high:Int) (p:Nat) (wide x y:Int) (Inv:Nat→Int→zq→Prop):Nat→List Value→zq→Prop:=fun μ tm H=>∃(i:Int),tm=(zdb b1 b3 high p wide x y i)∧Inv μ i H
theorem z1az (b1 b3:Nat) (high:Int) (p:Nat) (wide x y:Int) {Q:Post} (Inv:Nat→Int→zq→Prop) (ν:Nat) (i:Int)  (H:zq) (h0:Inv ν i H)
  (hs:∀(μ:Nat) (i:Int)  (H:zq),Inv μ i H→exL Tryz.prog zap (cl (cl (cr (cl (cr (cr (zr Tryz.f121))))))) 7199 1024 [(0,3072)] (zdb b1 b3 high p wide x y i) H (z1b (zm1 b1 b3 high p wide x y Inv) μ Q)):z1j (exL Tryz.prog zap (cl (cl (cr (cl (cr (cr (zr Tryz.f121))))))) 7199 1024 [(0,3072)]) (zdb b1 b3 high p wide x y i) H Q:=
 ⟨zm1 b1 b3 high p wide x y Inv,ν,⟨i,rfl,h0⟩,fun μ tm H h=>by obtain ⟨i,rfl,hI⟩:=h;exact hs μ i  H hI⟩
theorem z1b0 {b1 b3:Nat} {high:Int} {p:Nat} {wide x y:Int} {Q:Post} {Inv:Nat→Int→zq→Prop} {μ:Nat} (μ':Nat) {i:Int}  {H:zq} (hm:μ'<μ) (hI:Inv μ' i H):z1b (zm1 b1 b3 high p wide x y Inv) μ Q .normal (zdb b1 b3 high p wide x y i) H:=⟨μ',hm,i,rfl,hI⟩
theorem zv5 (b1 b3:Nat) (H:zq) (K:KT)  {I:Nat→List Value→zq→Prop} {μ:Nat}:z1b I μ (zx 0 (seqQ (exL Tryz.prog zap (cr (cr (cr (zr Tryz.f121)))) 1024 1024 []) (retK Tryz.prog Tryz.f121 K))) (.exit 0) (ud10 (.pointer (some ⟨b1,0,none⟩)::.pointer (some ⟨b3,0,none⟩)::ud40 [])) H=
 (∃c1:Int,∃c2:Int,∃kh:OA,∃mh:Nat,∃lh:Nat,  rdN H b3 0 3=some [.int .i64 c1,.int .i64 c2,.slice kh mh lh]∧isOwn H b1∧(∃l,rdN H b1 0 3=some l)∧Lt (setN H b1 0 [.int .i64 c1,.int .i64 c2,.slice kh mh lh]) fun H8=>∃c4:Int,∃c5:Int,∃th:OA,∃vh:Nat,∃uh:Nat,  rdN H8 b1 0 3=some [.int .i64 c4,.int .i64 c5,.slice th vh uh]∧K (.agg #[.int .i64 c4,.int .i64 c5,.slice th vh uh]) H8):=by kernel_rfl
theorem zso:∀g,FnOk Tryz.prog g (zap g):=FnOk.envOf (by
 intro x hx;cases hx)
theorem ω20 {P:Prop} (h:P:=by first | exact o40 | (have hbx:=o40;(try simp only [List.length_append,List.length_cons,List.length_nil,Nat.zero_add] at hbx);(try simp only [List.length_append,List.length_cons,List.length_nil,Nat.zero_add]);exact hbx)):P:=h
theorem ω21 {P:Prop} (h:P:=by first | exact o36 | (have hbx:=o36;(try simp only [List.length_append,List.length_cons,List.length_nil,Nat.zero_add] at hbx);(try simp only [List.length_append,List.length_cons,List.length_nil,Nat.zero_add]);exact hbx)):P:=h
theorem ω5 {P:Prop} (h:P:=by first | rfl | omega | (simp only [List.length_set];done) | (simp only [List.length_set,List.length_replicate];omega)):P:=h
theorem ω26 {P:Prop} (h:P:=by first | exact o103 | (have hbx:=o103;(try simp only [List.length_append,List.length_cons,List.length_nil,Nat.zero_add] at hbx);(try simp only [List.length_append,List.length_cons,List.length_nil,Nat.zero_add]);exact hbx)):P:=h
theorem ω27 {P:Prop} (h:P:=by first | exact o99 | (have hbx:=o99;(try simp only [List.length_append,List.length_cons,List.length_nil,Nat.zero_add] at hbx);(try simp only [List.length_append,List.length_cons,List.length_nil,Nat.zero_add]);exact hbx)):P:=h
theorem zv4 (p:Nat) (x y wide high:Int) (H:zq) (K:KT) (h:zno p x y wide high H fun (sd:Int) (pd:Int) (ja:OA) (oa:Nat) (ma:Nat) (H':zq)=>K (.agg #[.int .i64 sd,.int .i64 pd,.slice ja oa ma]) H'):z1a Tryz.prog zap Tryz.f121 [.pointer (some ⟨p,0,none⟩),.int .i64 x,.int .i64 y,.int .i64 wide,.int .i64 high] H K:=by
 rw [z1b3]
 obtain ⟨da,sa,db,ib,pb,ba,i_p,cc,bd_128,pr0,pr1,pr2,pr3,pr4,pr5,pr6,pr7,pr8,hk⟩:=h
 obtain rfl:=cc.eqn
 have zz:=z5l (W:=wide) (H:=high) ω2 ω2 ω2 ω2
 have e:(za2 da sa ba x y wide high)=_:=rfl
 have e:=e.trans (zko da sa ba x y wide high)
 have g0:=Grow.refl H
 refine Al.intro (fun b_1 H_1 hb_2 hl_3 g_4 o_5=>?_)
 have l_7:=g_4.1
 have g_8:=g0.trans g_4
 have l_9:=g_8.1
 have w127:=o_5.lt
 refine Al.intro (fun b_10 H_2 hb_11 hl_12 g_13 o_14=>?_)
 have o_14:Own H_2 b_10 ((([]:LN)).map fF):=o_14
 have l_16:=g_13.1
 have g_17:=g_8.trans g_13
 have l_18:=g_17.1
 have o_19:=o_5.grow g_13
 have w20:=o_19.lt
 have w126:=o_14.lt
 refine Al.intro (fun b_21 H_3 hb_22 hl_23 g24 o25=>?_)
 have l27:=g24.1
 have g28:=g_17.trans g24
 have l29:=g28.1
 have o30:=o_19.grow g24
 have w31:=o30.lt
 have o32:=o_14.grow g24
 have w33:=o32.lt
 have w125:=o25.lt
 refine Lt.setN (n:=3) o25 (Nat.le_of_ble_eq_true rfl) rfl (fun H_4 hl_34 o36 k35=>?_)
 have o36:Own H_4 b_21 [.int .i64 wide,.int .i64 high,.slice (some ⟨b_10,0,none⟩) 0 1]:=o36
 have l37:=k35.1
 have g38:=g28.keep (b:=b_21) ω2 k35
 have l39:=g38.1
 have o40:=o30.keep ω2 k35
 have w41:=o40.lt
 have o42:=o32.keep ω2 k35
 have w43:=o42.lt
 have w124:=o36.lt
 refine z1az _ _ _ _ _ _ _ (fun (μ:Nat) (i:Int) (H_5:zq)=>∃(q1_1 q1_2 q1_4 q1_5:Int),∃(q1_6:LN),∃(b46:Nat),Own H_5 b_1 [.int .i64 q1_1,.int .i64 q1_2,.slice none 0 0]∧Own H_5 b46 (q1_6.map fF)∧Own H_5 b_21 [.int .i64 q1_4,.int .i64 q1_5,.slice (some ⟨b46,0,none⟩) q1_6.length 1]∧(b_21≠b_1)∧(b46≠b_1)∧(b46≠b_21)∧Grow H H_5∧H.length≤b46∧(0:Int)≤i∧((i≤(wide*high)∨i≤(0:Int)))∧(q1_6.length:Int)≤i-(0:Int)+0∧(q1_6.length:Int)≤i∧(wide*high)-i≤(μ:Int)∧za2 da sa ba x y wide high=z8s da sa ba x y wide high (μ+1) i q1_1 q1_2 q1_4 q1_5 q1_6) (Int.toNat ((wide*high)-(0:Int))) _ H_4 ?_ ?_
 ·exact ⟨_,_,_,_,_,_,ω20,o42,ω21,ω2,ω2,ω2,g38,ω2,ω7,ω7,ω7,ω7,ω2,e⟩
 ·intro μ i  H_5 hI
  obtain ⟨q1_1,q1_2,q1_4,q1_5,q1_6,b46,o44,o47,o45,n48,n49,n50,g51,l52,v_53,v_54,v_55,v_56,hμ,e⟩:=hI
  rw [z1b2]
  have e:=e.trans (zac da sa ba x y wide high μ i q1_1 q1_2 q1_4 q1_5 q1_6)
  have zy:=zui (x:=x) (y:=y) (W:=da) (H:=sa) (w:=wide) (h:=high) (i:=i) ω2 ω2 ω2 ω2 ω2 ω2 ω2 ω2 ω2
  have w57:=o44.lt
  have w58:=o45.lt
  have w59:=o47.lt
  have l60:=g51.1
  rw [show IntKind.wrap .i64 (wide*high)=(wide*high) from zu ω2 ω2]
  refine Br.intro (fun c61=>?_) (fun c61=>?_)
  ·have e:=e.trans (zw c61)
   have c_61':=of_decide_eq_true c61
   refine ⟨some ⟨b46,0,none⟩,q1_6.length,1,(o45.rdC _).trans rfl,?_⟩
   refine ⟨db,ba.length,pb,(z1h (zt g51 i_p) 2 (Nat.le_of_ble_eq_true rfl)).trans rfl,?_⟩
   have z62:=zc0 i wide
   refine ⟨ω24,?_⟩
   rw [show IntKind.wrap .i64 (Int.tdiv i wide)=(Int.tdiv i wide) from zu ω2 ω2]
   rw [show IntKind.wrap .i64 (y+(Int.tdiv i wide))=(y+(Int.tdiv i wide)) from zu ω2 ω2]
   refine ⟨da,(z1h (zt g51 i_p) 0 (Nat.le_of_ble_eq_true rfl)).trans rfl,?_⟩
   rw [show IntKind.wrap .i64 (((y+(Int.tdiv i wide)))*da)=(((y+(Int.tdiv i wide)))*da) from zu ω2 ω2]
   rw [show IntKind.wrap .i64 (((((y+(Int.tdiv i wide)))*da))+x)=(((((y+(Int.tdiv i wide)))*da))+x) from zu ω2 ω2]
   refine ⟨ω24,?_⟩
   have z63:=zbm i wide
   have z64:=zer i wide
   rw [show IntKind.wrap .i64 (((((((y+(Int.tdiv i wide)))*da))+x))+(Int.tmod i wide))=(((((((y+(Int.tdiv i wide)))*da))+x))+(Int.tmod i wide)) from zu ω2 ω2]
   obtain ⟨b65,f66,q67⟩:=((cc.grow g51)).pos ω0
   refine ⟨by omega,by omega,b65,f66,q67,?_⟩
   refine ⟨((ba).getD ((((((((y+(Int.tdiv i wide)))*da))+x))+(Int.tmod i wide)):Int).toNat 0),(cc).rd g51 q67 ω2 _,?_⟩
   refine Al.intro (fun b68 H_6 hb_69 hl_70 g71 o72=>?_)
   have o72:Own H_6 b68 (([(((ba).getD ((((((((y+(Int.tdiv i wide)))*da))+x))+(Int.tmod i wide)):Int).toNat 0))]).map fF):=o72
   have l74:=g71.1
   have g75:=g51.trans g71
   have l76:=g75.1
   have o77:=o44.grow g71
   have w78:=o77.lt
   have o79:=o45.grow g71
   have w80:=o79.lt
   have o81:=o47.grow g71
   have w82:=o81.lt
   have w112:=o72.lt
   refine ⟨_,_,o81.ownB ω3 rfl,(z2q (o72.isL ω5)),(fun h=>by cases h),ω25,?_⟩
   refine Ap.app o81 rfl rfl (fun b87 H_7 q110 hl_83 o84 k85=>?_)
   have o84:=z2b o84
   have l88:=k85.1
   have g89:=g75.keep (b:=b46) ω2 k85
   have l90:=g89.1
   have o91:=o77.keep ω2 k85
   have w92:=o91.lt
   have o93:=o79.keep ω2 k85
   have w94:=o93.lt
   have o95:=o72.keep ω2 k85
   have w96:=o95.lt
   have w111:=o84.lt
   refine Lt.set o93 (Nat.le_of_ble_eq_true rfl) (fun H_8 hl_97 o99 k98=>?_)
   have o99:Own H_8 b_21 [.int .i64 q1_4,.int .i64 q1_5,.slice (some ⟨b87,0,none⟩) (q1_6.length+1) 1]:=o99
   have l100:=k98.1
   have g101:=g89.keep (b:=b_21) ω2 k98
   have l102:=g101.1
   have o103:=o91.keep ω2 k98
   have w104:=o103.lt
   have o105:=o95.keep ω2 k98
   have w106:=o105.lt
   have o107:=o84.keep ω2 k98
   have w108:=o107.lt
   have w109:=o99.lt
   rw [show IntKind.wrap .i64 (i+1)=(i+1) from zu ω2 ω2]
   refine z1b0 (μ-1) ω17 ⟨_,_,_,_,_,_,ω26,o107,ω27,ω2,ω2,ω2,g101,ω2,ω1,ω1,ω1,ω1,ω17,ω13⟩
  ·have e:=e.trans (zv c61)
   have c_61':=of_decide_eq_false c61
   rw [zv5]
   refine ⟨q1_4,q1_5,some ⟨b46,0,none⟩,q1_6.length,1,(o45.rdN (Nat.le_of_ble_eq_true rfl)).trans rfl,?_⟩
   refine Lt.setN (n:=3) o44 (Nat.le_of_ble_eq_true rfl) rfl (fun H_9 hl_113 o115 k114=>?_)
   have o115:Own H_9 b_1 [.int .i64 q1_4,.int .i64 q1_5,.slice (some ⟨b46,0,none⟩) q1_6.length 1]:=o115
   have l116:=k114.1
   have g117:=g51.keep (b:=b_1) ω2 k114
   have l118:=g117.1
   have o119:=o45.keep ω2 k114
   have w120:=o119.lt
   have o121:=o47.keep ω2 k114
   have w122:=o121.lt
   have w123:=o115.lt
   refine ⟨q1_4,q1_5,some ⟨b46,0,none⟩,q1_6.length,1,(o115.rdN (Nat.le_of_ble_eq_true rfl)).trans rfl,?_⟩
   rw [e] at hk
   exact hk _ _ _ H_9 g117 (o121.ownS ω5 ω2)
theorem z1b1:FnOk Tryz.prog 121 z16p:=FnOk.bodyF mix_ok zso Tryz.func121 rfl ω9 ω9 fun args H=>by
 unfold z15l
 split
 ·refine ⟨?_,?_,?_,?_,fun K hk=>zv4 _ _ _ _ _ H K hk⟩
  ·intro K K' h hk;obtain ⟨da,sa,db,ib,pb,ba,i_p,cc,bd_128,pr0,pr1,pr2,pr3,pr4,pr5,pr6,pr7,pr8,k⟩:=hk;exact ⟨da,sa,db,ib,pb,ba,i_p,cc,bd_128,pr0,pr1,pr2,pr3,pr4,pr5,pr6,pr7,pr8,(fun ja oa ma H' gg ow0=>h _ _ (k ja oa ma H' gg ow0))⟩
  ·nofun
  ·intro K hk;obtain ⟨da,sa,db,ib,pb,ba,i_p,cc,bd_128,pr0,pr1,pr2,pr3,pr4,pr5,pr6,pr7,pr8,k⟩:=hk;exact z4m fun a n e H1 g o=>⟨_,_,k a n e H1 g o⟩
  ·intro _ K hk;obtain ⟨da,sa,db,ib,pb,ba,i_p,cc,bd_128,pr0,pr1,pr2,pr3,pr4,pr5,pr6,pr7,pr8,k⟩:=hk;exact ⟨da,sa,db,ib,pb,ba,i_p,cc,bd_128,pr0,pr1,pr2,pr3,pr4,pr5,pr6,pr7,pr8,(fun ja oa ma H' gg ow0=>⟨gg,k ja oa ma H' gg ow0⟩)⟩
 ·exact Nice.no
theorem z1da {W H i:Int} (h1:1≤W) (h2:1≤H) (h3:0≤i):i<W*H→0≤Int.tmod i H∧Int.tmod i H≤H-1∧0≤Int.tdiv i H∧Int.tdiv i H≤W-1∧0≤Int.tmod i H*W∧Int.tmod i H*W+Int.tdiv i H<W*H:=by
 intro h4
 rw [Int.tmod_eq_emod_of_nonneg h3,Int.tdiv_eq_ediv_of_nonneg h3]
 have a:=Int.emod_nonneg i (show H≠0 by omega)
 have b:=Int.emod_lt_of_pos i (show 0<H by omega)
 have c:0≤i / H:=Int.ediv_nonneg h3 ω2
 have d:i / H<W:=Int.ediv_lt_of_lt_mul ω2 h4
 have e:0≤i % H*W:=Int.mul_nonneg a ω2
 have f:(i % H+1)*W≤H*W:=Int.mul_le_mul_of_nonneg_right ω2 ω2
 have g:(i % H+1)*W=i % H*W+W:=by rw [Int.add_mul,Int.one_mul]
 have k:H*W=W*H:=Int.mul_comm _ _
 refine ⟨a,by omega,c,by omega,e,by omega⟩
def z8t (da sa:Int) (ba:LN):Nat→Int→Int→Int→Int→Int→LN→Int×Int×LN
 | 0,_,_,_,_,_,_=>(0,0,[])
 | μ+1,i,q1_1,q1_2,q1_4,q1_5,q1_6=>(bif decide ((i:Int)<(da*sa)) then (z8t da sa ba μ (i+1) q1_1 q1_2 q1_4 q1_5 ((q1_6++[(((ba).getD (((((Int.tmod i sa)*da))+(Int.tdiv i sa)):Int).toNat 0))]))) else (q1_4,q1_5,q1_6))
def zad:=fun da sa ba μ i q1_1 q1_2 q1_4 q1_5 q1_6=>@z8t.eq_2 da sa ba i q1_1 q1_2 q1_4 q1_5 q1_6 μ
def z1u (da sa:Int) (ba:LN):Int×Int×LN:=(z8t da sa ba (Int.toNat ((da*sa)-(0:Int))+1) (0:Int) 0 0 sa da ([]:LN))
def zkq:=@z1u.eq_1
def zfl (p:Nat) (H:zq) (K:Int→Int→OA→Nat→Nat→zq→Prop):Prop:=∃(da sa:Int),∃(db:OA),∃(ib pb:Nat),∃(ba:LN),rdN H p 0 3=some [.int .i64 da,.int .i64 sa,.slice db ib pb]∧IsL fF H db ib ba∧ba.length<1073741824∧1≤da∧da≤16∧1≤sa∧sa≤16∧(ba.length:Int)=da*sa∧((∀(ja:OA) (oa ma:Nat),∀H':zq,Grow H H'→OwnS fF H' H.length ja oa ma ((z1u da sa ba).2.2)→K ((z1u da sa ba).1) ((z1u da sa ba).2.1) ja oa ma H'))
theorem zns {p:Nat} {H:zq} {K:Int→Int→OA→Nat→Nat→zq→Prop} (h:∃(da sa:Int),∃(db:OA),∃(ib pb:Nat),∃(ba:LN),rdN H p 0 3=some [.int .i64 da,.int .i64 sa,.slice db ib pb]∧IsL fF H db ib ba∧ba.length<1073741824∧1≤da∧da≤16∧1≤sa∧sa≤16∧(ba.length:Int)=da*sa∧((∀(ja:OA) (oa ma:Nat),∀H':zq,Grow H H'→OwnS fF H' H.length ja oa ma ((z1u da sa ba).2.2)→K ((z1u da sa ba).1) ((z1u da sa ba).2.1) ja oa ma H'))):zfl p H K:=h
def zid (l:LN) (W x y:Int):Nat:=l.getD (x*W+y).toNat 0
theorem zqf (W H:Int) (L:LN) (w h:Nat) (hw:W=w) (hh:H=h) (hh0:0<h):∀(μ i:Nat) (a b:Int),i≤w*h→w*h-i≤μ→
  ∀o,o=(List.range i).map (fun i:Nat=>zid L W ((i % h:Nat):Int) ((i / h:Nat):Int))→
  z8t W H L (μ+1) (i:Int) a b H W o=(H,W,picL h w (zid L W)):=by
 have hm:W*H=((w*h:Nat):Int):=by rw [hw,hh,Int.natCast_mul]
 intro μ
 induction μ with
 | zero=>
  intro i a b h1 h2 o ho
  rw [zad,hm,decide_eq_false ω2,cond_false,ho,show i=w*h by omega,z8y hh0]
 | succ μ ih=>
  intro i a b h1 h2 o ho
  rw [zad,hm]
  by_cases hlt:i<w*h
  ·rw [decide_eq_true ω2,cond_true,show (i:Int)+1=((i+1:Nat):Int) by omega]
   refine ih (i+1) a b ω2 ω2 _ ?_
   rw [ho,List.range_succ,List.map_append]
   congr 1
   have e1:Int.tdiv (i:Int) H=((i / h:Nat):Int):=by rw [hh];rfl
   have e2:Int.tmod (i:Int) H=((i % h:Nat):Int):=by rw [hh];rfl
   rw [e1,e2];rfl
  ·rw [decide_eq_false ω2,cond_false,ho,show i=w*h by omega,z8y hh0]
theorem zfu (W H:Int) (L:LN) (hw:1≤W) (hh:1≤H):z1u W H L=(H,W,picL H.toNat W.toNat (zid L W)):=by
 rw [zkq]
 have hm:W*H=((W.toNat*H.toNat:Nat):Int):=by rw [Int.natCast_mul,Int.toNat_of_nonneg ω2,Int.toNat_of_nonneg ω2]
 exact zqf W H L W.toNat H.toNat ω2 ω2 ω2 _ 0 0 0 (Nat.zero_le _) ω2 [] rfl
theorem zdt (W H:Int) (L:LN) (hw:1≤W) (hh:1≤H):(z1u W H L).1=H∧(z1u W H L).2.1=W∧((z1u W H L).2.2.length:Int)=W*H:=by
 rw [zfu W H L hw hh]
 refine ⟨rfl,rfl,?_⟩
 show ((picL H.toNat W.toNat (zid L W)).length:Int)=_
 rw [z2r,Int.natCast_mul,Int.toNat_of_nonneg ω2,Int.toNat_of_nonneg ω2]
/-! f1pz: function 126 -/
def zaq:Env:=envOf []
def z15p (args:List Value) (H:zq):(Value→zq→Prop)→Prop:=match args with
 | [.pointer (some ⟨p,0,none⟩)]=>fun K=>zfl p H fun (sd:Int) (pd:Int) (ja:OA) (oa:Nat) (ma:Nat) (H':zq)=>K (.agg #[.int .i64 sd,.int .i64 pd,.slice ja oa ma]) H'
 | _=>fun _=>False
def z16t:FSpec:={F:=z15p,quiet:=false,tame:=true}
theorem z1bm (p:Nat) (H:zq) (K:KT):z1a Tryz.prog zaq Tryz.f126 [.pointer (some ⟨p,0,none⟩)] H K=
 (Al [.int .i64 0,.int .i64 0,.slice none 0 0] H fun b1 H1=>∃x1:Int,  rdC H1 p 0=some (.int .i64 x1)∧∃x2:Int,  rdC H1 p 1=some (.int .i64 x2)∧Al [] H1 fun b2 H2=>Al [.int .i64 0,.int .i64 0,.slice none 0 0] H2 fun b3 H3=>isOwn H3 b3∧(∃l,rdN H3 b3 0 3=some l)∧Lt (setN H3 b3 0 [.int .i64 x2,.int .i64 x1,.slice (some ⟨b2,0,none⟩) 0 1]) fun H4=>z1j (exL Tryz.prog zaq (cl (cl (cr (cl (cr (cr (zr Tryz.f126))))))) 29 4 [(0,12)]) (.pointer (some ⟨p,0,none⟩)::ud::.pointer (some ⟨b1,0,none⟩)::.pointer (some ⟨b3,0,none⟩)::.int .i64 0::ud53 []) H4 (zx 0 (seqQ (exL Tryz.prog zaq (cr (cr (cr (zr Tryz.f126)))) 4 4 []) (retK Tryz.prog Tryz.f126 K)))):=by kernel_rfl
abbrev zdg (b1 b3 p:Nat) (i:Int)  :List Value:=(.pointer (some ⟨p,0,none⟩)::ud::.pointer (some ⟨b1,0,none⟩)::.pointer (some ⟨b3,0,none⟩)::.int .i64 i::ud53 [])
theorem z1bl (b1 b3 p:Nat) (i:Int)  (H:zq) (R:Post):exL Tryz.prog zaq (cl (cl (cr (cl (cr (cr (zr Tryz.f126))))))) 29 4 [(0,12)] (zdg b1 b3 p i) H R=
 (∃x3:Int,  rdC H p 0=some (.int .i64 x3)∧∃x4:Int,  rdC H p 1=some (.int .i64 x4)∧Br (decide ((i:Int)<IntKind.wrap .i64 (x3*x4))) (∃dj:OA,∃yi:Nat,∃sj:Nat,  rdC H b3 2=some (.slice dj yi sj)∧∃ji:OA,∃ei:Nat,∃qi:Nat,  rdC H p 2=some (.slice ji ei qi)∧∃x7:Int,  rdC H p 1=some (.int .i64 x7)∧x7≠(0:Int)∧∃x8:Int,  rdC H p 0=some (.int .i64 x8)∧∃x9:Int,  rdC H p 1=some (.int .i64 x9)∧x9≠(0:Int)∧(0:Int)≤IntKind.wrap .i64 ((IntKind.wrap .i64 ((Int.tmod i x7)*x8))+(IntKind.wrap .i64 (Int.tdiv i x9)))∧IntKind.wrap .i64 ((IntKind.wrap .i64 ((Int.tmod i x7)*x8))+(IntKind.wrap .i64 (Int.tdiv i x9)))<(ei:Int)∧∃b4 f1,(ji:OA)=some ⟨b4,f1,none⟩∧∃x10:Nat,  rdC H b4 (f1+(IntKind.wrap .i64 ((IntKind.wrap .i64 ((Int.tmod i x7)*x8))+(IntKind.wrap .i64 (Int.tdiv i x9))):Int).toNat*1)=some (.float .f32 x10)∧Al [.float .f32 x10] H fun b5 H5=>∃o1 w1:List Value,ownB H5 dj yi sj 1=some o1∧rdS H5 (some ⟨b5,0,none⟩) (1*1)=some w1∧((dj:OA)=none→0<(1:Nat))∧(yi:Nat)+1<most∧Ap H5 (z2y H5 dj++[some ⟨o1++w1,true⟩]) fun b6 H6=>isOwn H6 b3∧(∃l,rdN H6 b3 2 1=some l)∧Lt (setC H6 b3 2 (.slice (some ⟨b6,0,none⟩) (yi+1) 1)) fun H7=>R .normal (.pointer (some ⟨p,0,none⟩)::ud::.pointer (some ⟨b1,0,none⟩)::.pointer (some ⟨b3,0,none⟩)::.int .i64 (IntKind.wrap .i64 (i+1))::ud53 []) H7) (R (.exit 0) (ud2 (.pointer (some ⟨b1,0,none⟩)::.pointer (some ⟨b3,0,none⟩)::ud54 [])) H)):=by kernel_rfl
def zm7 (b1 b3 p:Nat) (Inv:Nat→Int→zq→Prop):Nat→List Value→zq→Prop:=fun μ tm H=>∃(i:Int),tm=(zdg b1 b3 p i)∧Inv μ i H
theorem z1bi (b1 b3 p:Nat) {Q:Post} (Inv:Nat→Int→zq→Prop) (ν:Nat) (i:Int)  (H:zq) (h0:Inv ν i H)
  (hs:∀(μ:Nat) (i:Int)  (H:zq),Inv μ i H→exL Tryz.prog zaq (cl (cl (cr (cl (cr (cr (zr Tryz.f126))))))) 29 4 [(0,12)] (zdg b1 b3 p i) H (z1b (zm7 b1 b3 p Inv) μ Q)):z1j (exL Tryz.prog zaq (cl (cl (cr (cl (cr (cr (zr Tryz.f126))))))) 29 4 [(0,12)]) (zdg b1 b3 p i) H Q:=
 ⟨zm7 b1 b3 p Inv,ν,⟨i,rfl,h0⟩,fun μ tm H h=>by obtain ⟨i,rfl,hI⟩:=h;exact hs μ i  H hI⟩
theorem z1bj {b1 b3 p:Nat} {Q:Post} {Inv:Nat→Int→zq→Prop} {μ:Nat} (μ':Nat) {i:Int}  {H:zq} (hm:μ'<μ) (hI:Inv μ' i H):z1b (zm7 b1 b3 p Inv) μ Q .normal (zdg b1 b3 p i) H:=⟨μ',hm,i,rfl,hI⟩
theorem zve (b1 b3:Nat) (H:zq) (K:KT)  {I:Nat→List Value→zq→Prop} {μ:Nat}:z1b I μ (zx 0 (seqQ (exL Tryz.prog zaq (cr (cr (cr (zr Tryz.f126)))) 4 4 []) (retK Tryz.prog Tryz.f126 K))) (.exit 0) (ud2 (.pointer (some ⟨b1,0,none⟩)::.pointer (some ⟨b3,0,none⟩)::ud54 [])) H=
 (∃c1:Int,∃c2:Int,∃kh:OA,∃mh:Nat,∃lh:Nat,  rdN H b3 0 3=some [.int .i64 c1,.int .i64 c2,.slice kh mh lh]∧isOwn H b1∧(∃l,rdN H b1 0 3=some l)∧Lt (setN H b1 0 [.int .i64 c1,.int .i64 c2,.slice kh mh lh]) fun H8=>∃c4:Int,∃c5:Int,∃th:OA,∃vh:Nat,∃uh:Nat,  rdN H8 b1 0 3=some [.int .i64 c4,.int .i64 c5,.slice th vh uh]∧K (.agg #[.int .i64 c4,.int .i64 c5,.slice th vh uh]) H8):=by kernel_rfl
theorem zss:∀g,FnOk Tryz.prog g (zaq g):=FnOk.envOf (by
 intro x hx;cases hx)
theorem zvd (p:Nat) (H:zq) (K:KT) (h:zfl p H fun (sd:Int) (pd:Int) (ja:OA) (oa:Nat) (ma:Nat) (H':zq)=>K (.agg #[.int .i64 sd,.int .i64 pd,.slice ja oa ma]) H'):z1a Tryz.prog zaq Tryz.f126 [.pointer (some ⟨p,0,none⟩)] H K:=by
 rw [z1bm]
 obtain ⟨da,sa,db,ib,pb,ba,i_p,cc,bd_128,pr0,pr1,pr2,pr3,pr4,hk⟩:=h
 obtain rfl:=cc.eqn
 have zz:=z5l (W:=da) (H:=sa) ω2 ω2 ω2 ω2
 have e:(z1u da sa ba)=_:=rfl
 have e:=e.trans (zkq da sa ba)
 have g0:=Grow.refl H
 refine Al.intro (fun b_1 H_1 hb_2 hl_3 g_4 o_5=>?_)
 have l_7:=g_4.1
 have g_8:=g0.trans g_4
 have l_9:=g_8.1
 have w127:=o_5.lt
 refine ⟨da,(z1h (zt g_8 i_p) 0 (Nat.le_of_ble_eq_true rfl)).trans rfl,?_⟩
 refine ⟨sa,(z1h (zt g_8 i_p) 1 (Nat.le_of_ble_eq_true rfl)).trans rfl,?_⟩
 refine Al.intro (fun b_10 H_2 hb_11 hl_12 g_13 o_14=>?_)
 have o_14:Own H_2 b_10 ((([]:LN)).map fF):=o_14
 have l_16:=g_13.1
 have g_17:=g_8.trans g_13
 have l_18:=g_17.1
 have o_19:=o_5.grow g_13
 have w20:=o_19.lt
 have w126:=o_14.lt
 refine Al.intro (fun b_21 H_3 hb_22 hl_23 g24 o25=>?_)
 have l27:=g24.1
 have g28:=g_17.trans g24
 have l29:=g28.1
 have o30:=o_19.grow g24
 have w31:=o30.lt
 have o32:=o_14.grow g24
 have w33:=o32.lt
 have w125:=o25.lt
 refine Lt.setN (n:=3) o25 (Nat.le_of_ble_eq_true rfl) rfl (fun H_4 hl_34 o36 k35=>?_)
 have o36:Own H_4 b_21 [.int .i64 sa,.int .i64 da,.slice (some ⟨b_10,0,none⟩) 0 1]:=o36
 have l37:=k35.1
 have g38:=g28.keep (b:=b_21) ω2 k35
 have l39:=g38.1
 have o40:=o30.keep ω2 k35
 have w41:=o40.lt
 have o42:=o32.keep ω2 k35
 have w43:=o42.lt
 have w124:=o36.lt
 refine z1bi _ _ _ (fun (μ:Nat) (i:Int) (H_5:zq)=>∃(q1_1 q1_2 q1_4 q1_5:Int),∃(q1_6:LN),∃(b46:Nat),Own H_5 b_1 [.int .i64 q1_1,.int .i64 q1_2,.slice none 0 0]∧Own H_5 b46 (q1_6.map fF)∧Own H_5 b_21 [.int .i64 q1_4,.int .i64 q1_5,.slice (some ⟨b46,0,none⟩) q1_6.length 1]∧(b_21≠b_1)∧(b46≠b_1)∧(b46≠b_21)∧Grow H H_5∧H.length≤b46∧(0:Int)≤i∧((i≤(da*sa)∨i≤(0:Int)))∧(q1_6.length:Int)≤i-(0:Int)+0∧(q1_6.length:Int)≤i∧(da*sa)-i≤(μ:Int)∧z1u da sa ba=z8t da sa ba (μ+1) i q1_1 q1_2 q1_4 q1_5 q1_6) (Int.toNat ((da*sa)-(0:Int))) _ H_4 ?_ ?_
 ·exact ⟨_,_,_,_,_,_,ω20,o42,ω21,ω2,ω2,ω2,g38,ω2,ω7,ω7,ω7,ω7,ω2,e⟩
 ·intro μ i  H_5 hI
  obtain ⟨q1_1,q1_2,q1_4,q1_5,q1_6,b46,o44,o47,o45,n48,n49,n50,g51,l52,v_53,v_54,v_55,v_56,hμ,e⟩:=hI
  rw [z1bl]
  have e:=e.trans (zad da sa ba μ i q1_1 q1_2 q1_4 q1_5 q1_6)
  have zy:=z1da (W:=da) (H:=sa) (i:=i) ω2 ω2 ω2
  have w57:=o44.lt
  have w58:=o45.lt
  have w59:=o47.lt
  have l60:=g51.1
  refine ⟨da,(z1h (zt g51 i_p) 0 (Nat.le_of_ble_eq_true rfl)).trans rfl,?_⟩
  refine ⟨sa,(z1h (zt g51 i_p) 1 (Nat.le_of_ble_eq_true rfl)).trans rfl,?_⟩
  rw [show IntKind.wrap .i64 (da*sa)=(da*sa) from zu ω2 ω2]
  refine Br.intro (fun c61=>?_) (fun c61=>?_)
  ·have e:=e.trans (zw c61)
   have c_61':=of_decide_eq_true c61
   refine ⟨some ⟨b46,0,none⟩,q1_6.length,1,(o45.rdC _).trans rfl,?_⟩
   refine ⟨db,ba.length,pb,(z1h (zt g51 i_p) 2 (Nat.le_of_ble_eq_true rfl)).trans rfl,?_⟩
   refine ⟨sa,(z1h (zt g51 i_p) 1 (Nat.le_of_ble_eq_true rfl)).trans rfl,?_⟩
   refine ⟨ω24,?_⟩
   have z62:=zbm i sa
   have z63:=zer i sa
   refine ⟨da,(z1h (zt g51 i_p) 0 (Nat.le_of_ble_eq_true rfl)).trans rfl,?_⟩
   rw [show IntKind.wrap .i64 ((Int.tmod i sa)*da)=((Int.tmod i sa)*da) from zu ω2 ω2]
   refine ⟨sa,(z1h (zt g51 i_p) 1 (Nat.le_of_ble_eq_true rfl)).trans rfl,?_⟩
   have z64:=zc0 i sa
   refine ⟨ω24,?_⟩
   rw [show IntKind.wrap .i64 (Int.tdiv i sa)=(Int.tdiv i sa) from zu ω2 ω2]
   rw [show IntKind.wrap .i64 ((((Int.tmod i sa)*da))+(Int.tdiv i sa))=((((Int.tmod i sa)*da))+(Int.tdiv i sa)) from zu ω2 ω2]
   obtain ⟨b65,f66,q67⟩:=((cc.grow g51)).pos ω0
   refine ⟨by omega,by omega,b65,f66,q67,?_⟩
   refine ⟨((ba).getD (((((Int.tmod i sa)*da))+(Int.tdiv i sa)):Int).toNat 0),(cc).rd g51 q67 ω2 _,?_⟩
   refine Al.intro (fun b68 H_6 hb_69 hl_70 g71 o72=>?_)
   have o72:Own H_6 b68 (([(((ba).getD (((((Int.tmod i sa)*da))+(Int.tdiv i sa)):Int).toNat 0))]).map fF):=o72
   have l74:=g71.1
   have g75:=g51.trans g71
   have l76:=g75.1
   have o77:=o44.grow g71
   have w78:=o77.lt
   have o79:=o45.grow g71
   have w80:=o79.lt
   have o81:=o47.grow g71
   have w82:=o81.lt
   have w112:=o72.lt
   refine ⟨_,_,o81.ownB ω3 rfl,(z2q (o72.isL ω5)),(fun h=>by cases h),ω25,?_⟩
   refine Ap.app o81 rfl rfl (fun b87 H_7 q110 hl_83 o84 k85=>?_)
   have o84:=z2b o84
   have l88:=k85.1
   have g89:=g75.keep (b:=b46) ω2 k85
   have l90:=g89.1
   have o91:=o77.keep ω2 k85
   have w92:=o91.lt
   have o93:=o79.keep ω2 k85
   have w94:=o93.lt
   have o95:=o72.keep ω2 k85
   have w96:=o95.lt
   have w111:=o84.lt
   refine Lt.set o93 (Nat.le_of_ble_eq_true rfl) (fun H_8 hl_97 o99 k98=>?_)
   have o99:Own H_8 b_21 [.int .i64 q1_4,.int .i64 q1_5,.slice (some ⟨b87,0,none⟩) (q1_6.length+1) 1]:=o99
   have l100:=k98.1
   have g101:=g89.keep (b:=b_21) ω2 k98
   have l102:=g101.1
   have o103:=o91.keep ω2 k98
   have w104:=o103.lt
   have o105:=o95.keep ω2 k98
   have w106:=o105.lt
   have o107:=o84.keep ω2 k98
   have w108:=o107.lt
   have w109:=o99.lt
   rw [show IntKind.wrap .i64 (i+1)=(i+1) from zu ω2 ω2]
   refine z1bj (μ-1) ω17 ⟨_,_,_,_,_,_,ω26,o107,ω27,ω2,ω2,ω2,g101,ω2,ω1,ω1,ω1,ω1,ω17,ω13⟩
  ·have e:=e.trans (zv c61)
   have c_61':=of_decide_eq_false c61
   rw [zve]
   refine ⟨q1_4,q1_5,some ⟨b46,0,none⟩,q1_6.length,1,(o45.rdN (Nat.le_of_ble_eq_true rfl)).trans rfl,?_⟩
   refine Lt.setN (n:=3) o44 (Nat.le_of_ble_eq_true rfl) rfl (fun H_9 hl_113 o115 k114=>?_)
   have o115:Own H_9 b_1 [.int .i64 q1_4,.int .i64 q1_5,.slice (some ⟨b46,0,none⟩) q1_6.length 1]:=o115
   have l116:=k114.1
   have g117:=g51.keep (b:=b_1) ω2 k114
   have l118:=g117.1
   have o119:=o45.keep ω2 k114
   have w120:=o119.lt
   have o121:=o47.keep ω2 k114
   have w122:=o121.lt
   have w123:=o115.lt
   refine ⟨q1_4,q1_5,some ⟨b46,0,none⟩,q1_6.length,1,(o115.rdN (Nat.le_of_ble_eq_true rfl)).trans rfl,?_⟩
   rw [e] at hk
   exact hk _ _ _ H_9 g117 (o121.ownS ω5 ω2)
theorem z1bk:FnOk Tryz.prog 126 z16t:=FnOk.bodyF mix_ok zss Tryz.func126 rfl ω9 ω9 fun args H=>by
 unfold z15p
 split
 ·refine ⟨?_,?_,?_,?_,fun K hk=>zvd _ H K hk⟩
  ·intro K K' h hk;obtain ⟨da,sa,db,ib,pb,ba,i_p,cc,bd_128,pr0,pr1,pr2,pr3,pr4,k⟩:=hk;exact ⟨da,sa,db,ib,pb,ba,i_p,cc,bd_128,pr0,pr1,pr2,pr3,pr4,(fun ja oa ma H' gg ow0=>h _ _ (k ja oa ma H' gg ow0))⟩
  ·nofun
  ·intro K hk;obtain ⟨da,sa,db,ib,pb,ba,i_p,cc,bd_128,pr0,pr1,pr2,pr3,pr4,k⟩:=hk;exact z4m fun a n e H1 g o=>⟨_,_,k a n e H1 g o⟩
  ·intro _ K hk;obtain ⟨da,sa,db,ib,pb,ba,i_p,cc,bd_128,pr0,pr1,pr2,pr3,pr4,k⟩:=hk;exact ⟨da,sa,db,ib,pb,ba,i_p,cc,bd_128,pr0,pr1,pr2,pr3,pr4,(fun ja oa ma H' gg ow0=>⟨gg,k ja oa ma H' gg ow0⟩)⟩
 ·exact Nice.no

def z5f (qb:LN) (i:Int):Nat:=((qb).getD ((if ((if (i:Int)<((qb.length:Int)-1) then i else ((qb.length:Int)-1)):Int) > 0 then (if (i:Int)<((qb.length:Int)-1) then i else ((qb.length:Int)-1)) else 0):Int).toNat 0)
def zb7:=@z5f.eq_1
def zfj (ld:OA) (tc ee:Nat) (i:Int) (H:zq) (K:Nat→zq→Prop):Prop:=∃(qb:LN),IsL fF H ld tc qb∧qb.length<1073741824∧1≤qb.length∧K (z5f qb i) H
theorem zh6 {ld:OA} {tc ee:Nat} {i:Int} {H:zq} {K:Nat→zq→Prop} (h:∃(qb:LN),IsL fF H ld tc qb∧qb.length<1073741824∧1≤qb.length∧K (z5f qb i) H):zfj ld tc ee i H K:=h

/-! f10z: function 180 -/
def zrs:Env:=envOf []
def z14s (args:List Value) (H:zq):(Value→zq→Prop)→Prop:=match args with
 | [.slice ld tc ee,.int .i64 i]=>fun K=>zfj ld tc ee i H fun (r1:Nat) (H':zq)=>K (.float .f32 r1) H'
 | _=>fun _=>False
def z16b:FSpec:={F:=z14s,quiet:=true,tame:=false}
theorem f10z_vc (ld:OA) (tc ee:Nat) (i:Int) (H:zq) (K:KT):z1a Tryz.prog zrs Tryz.f180 [.slice ld tc ee,.int .i64 i] H K=
 ((0:Int)≤(if ((if (i:Int)<IntKind.wrap .i64 ((tc:Int)-1) then i else IntKind.wrap .i64 ((tc:Int)-1)):Int) > 0 then (if (i:Int)<IntKind.wrap .i64 ((tc:Int)-1) then i else IntKind.wrap .i64 ((tc:Int)-1)) else 0)∧(if ((if (i:Int)<IntKind.wrap .i64 ((tc:Int)-1) then i else IntKind.wrap .i64 ((tc:Int)-1)):Int) > 0 then (if (i:Int)<IntKind.wrap .i64 ((tc:Int)-1) then i else IntKind.wrap .i64 ((tc:Int)-1)) else 0)<(tc:Int)∧∃b1 f1,(ld:OA)=some ⟨b1,f1,none⟩∧∃x1:Nat,  rdC H b1 (f1+((if ((if (i:Int)<IntKind.wrap .i64 ((tc:Int)-1) then i else IntKind.wrap .i64 ((tc:Int)-1)):Int) > 0 then (if (i:Int)<IntKind.wrap .i64 ((tc:Int)-1) then i else IntKind.wrap .i64 ((tc:Int)-1)) else 0):Int).toNat*1)=some (.float .f32 x1)∧K (.float .f32 x1) H):=by kernel_rfl
theorem zrt:∀g,FnOk Tryz.prog g (zrs g):=FnOk.envOf (by
 intro x hx;cases hx)
theorem f10z_main (ld:OA) (tc ee:Nat) (i:Int) (H:zq) (K:KT) (h:zfj ld tc ee i H fun (r1:Nat) (H':zq)=>K (.float .f32 r1) H'):z1a Tryz.prog zrs Tryz.f180 [.slice ld tc ee,.int .i64 i] H K:=by
 rw [f10z_vc]
 obtain ⟨qb,i_list,bd_4,pr0,hk⟩:=h
 obtain rfl:=i_list.eqn
 have e:(z5f qb i)=_:=rfl
 have e:=e.trans (zb7 qb i)
 have g0:=Grow.refl H
 rw [show IntKind.wrap .i64 ((qb.length:Int)-1)=((qb.length:Int)-1) from zu ω2 ω2]
 obtain ⟨b_1,f_2,q_3⟩:=((i_list.grow g0)).pos ω0
 refine ⟨by omega,by omega,b_1,f_2,q_3,?_⟩
 refine ⟨((qb).getD ((if ((if (i:Int)<((qb.length:Int)-1) then i else ((qb.length:Int)-1)):Int) > 0 then (if (i:Int)<((qb.length:Int)-1) then i else ((qb.length:Int)-1)) else 0):Int).toNat 0),(i_list).rd g0 q_3 ω2 _,?_⟩
 rw [e] at hk
 exact hk
theorem f10z_ok:FnOk Tryz.prog 180 z16b:=FnOk.bodyF mix_ok zrt Tryz.func180 rfl ω9 ω9 fun args H=>by
 unfold z14s
 split
 ·refine ⟨?_,?_,?_,?_,fun K hk=>f10z_main _ _ _ _ H K hk⟩
  ·intro K K' h hk;obtain ⟨qb,i_list,bd_4,pr0,k⟩:=hk;exact ⟨qb,i_list,bd_4,pr0,h _ _ k⟩
  ·intro _ K hk;obtain ⟨qb,i_list,bd_4,pr0,k⟩:=hk;exact ⟨_,k,fun K' k'=>⟨qb,i_list,bd_4,pr0,k'⟩⟩
  ·intro K hk;obtain ⟨qb,i_list,bd_4,pr0,k⟩:=hk;exact ⟨_,_,k⟩
  ·nofun
 ·exact Nice.no
def z6f (k:Int) (w:Nat) (low high:LN):LN:=bif Int.tmod k 2==0 then high.mapIdx (fun i x=>fadd .f32 x (fmul .f32 w (fadd .f32 (low.getD i 0) (z5f low ((i:Int)+1))))) else high
def zam (k:Int) (w:Nat) (low high:LN):LN:=bif Int.tmod k 2==0 then low else low.mapIdx (fun i x=>fadd .f32 x (fmul .f32 w (fadd .f32 (z5f high ((i:Int)-1)) (z5f high (i:Int)))))
@[simp] theorem z2s (k:Int) (w:Nat) (low high:LN):(z6f k w low high).length=high.length:=by
 unfold z6f;cases (Int.tmod k 2==0)<;>simp
@[simp] theorem z4b (k:Int) (w:Nat) (low high:LN):(zam k w low high).length=low.length:=by
 unfold zam;cases (Int.tmod k 2==0)<;>simp
def z8q (zb mb:LN) (k:Int) (w:Nat):Nat→Int→LN→LN×LN
 | 0,_,_=>([],[])
 | μ+1,i,y1_1=>(bif decide ((i:Int)<(mb.length:Int)) then (z8q zb mb k w μ (i+1) (((y1_1).set (i:Int).toNat ((fadd .f32 (((y1_1).getD (i:Int).toNat 0)) (fmul .f32 w (fadd .f32 (((zb).getD (i:Int).toNat 0)) ((z5f zb (i+1)))))))))) else (zb,y1_1))
def ze4:=fun zb mb k w μ i y1_1=>@z8q.eq_2 zb mb k w i y1_1 μ
def z8r (zb mb:LN) (k:Int) (w:Nat):Nat→Int→LN→LN×LN
 | 0,_,_=>([],[])
 | μ+1,i9,y2_1=>(bif decide ((i9:Int)<(zb.length:Int)) then (z8r zb mb k w μ (i9+1) (((y2_1).set (i9:Int).toNat ((fadd .f32 (((y2_1).getD (i9:Int).toNat 0)) (fmul .f32 w (fadd .f32 ((z5f mb (i9-1))) (z5f mb i9)))))))) else (y2_1,mb))
def ze5:=fun zb mb k w μ i9 y2_1=>@z8r.eq_2 zb mb k w i9 y2_1 μ
def ze3 (zb mb:LN) (k:Int) (w:Nat):LN×LN:=((bif (Int.tmod k 2:Int)==0 then (z8q zb mb k w (Int.toNat ((mb.length:Int)-(0:Int))+1) (0:Int) mb) else (z8r zb mb k w (Int.toNat ((zb.length:Int)-(0:Int))+1) (0:Int) zb)))
def zkl:=@ze3.eq_1
def zio (uc:OA) (yc cd:Nat) (tb:OA) (wb yb:Nat) (k:Int) (w:Nat) (H:zq) (K:zq→Prop):Prop:=∃lo:Nat,∃lob:Nat,∃(zb mb:LN),OwnS fF H lo uc yc cd zb∧OwnS fF H lob tb wb yb mb∧SepA uc tb∧zb.length<1073741824∧mb.length<1073741824∧mb.length≤zb.length∧1≤mb.length∧((∀H':zq,z2t uc tb H H'→OwnS fF H' lo uc yc cd (zam k w zb mb)→OwnS fF H' lob tb wb yb (z6f k w zb mb)→K  H'))
theorem znj {uc:OA} {yc cd:Nat} {tb:OA} {wb yb:Nat} {k:Int} {w:Nat} {H:zq} {K:zq→Prop} (h:∃lo:Nat,∃lob:Nat,∃(zb mb:LN),OwnS fF H lo uc yc cd zb∧OwnS fF H lob tb wb yb mb∧SepA uc tb∧zb.length<1073741824∧mb.length<1073741824∧mb.length≤zb.length∧1≤mb.length∧((∀H':zq,z2t uc tb H H'→OwnS fF H' lo uc yc cd (zam k w zb mb)→OwnS fF H' lob tb wb yb (z6f k w zb mb)→K  H'))):zio uc yc cd tb wb yb k w H K:=h
theorem z7b (W ys:LN) (i:Nat) (hi:i<ys.length) (hl:W.length=ys.length):(W.take i++ys.drop i).getD i 0=ys.getD i 0:=by
 rw [List.getD_eq_getElem?_getD,List.getD_eq_getElem?_getD,List.getElem?_append_right (by simp;omega)]
 have:(W.take i).length=i:=by simp;omega
 rw [this,Nat.sub_self,List.getElem?_drop,Nat.add_zero]
theorem z10q (low high:LN) (k:Int) (w:Nat) (W:LN) (hW:W=high.mapIdx (fun i x=>fadd .f32 x (fmul .f32 w (fadd .f32 (low.getD i 0) (z5f low ((i:Int)+1)))))):
  ∀(μ i:Nat),i≤high.length→high.length-i<μ→z8q low high k w μ (i:Int) (W.take i++high.drop i)=(low,W):=by
 have hl:W.length=high.length:=by rw [hW];simp
 intro μ
 induction μ with
 | zero=>intro i _ h;omega
 | succ μ ih=>
  intro i hi hm
  rw [ze4]
  by_cases h:i<high.length
  ·rw [decide_eq_true (show (i:Int)<(high.length:Int) by omega),cond_true,Int.toNat_natCast]
   have:=ih (i+1) ω2 ω2
   rw [←this,z3h W high i h hl]
   ·rfl
   ·rw [z7b W high i h hl,hW]
    simp [List.getD_eq_getElem?_getD,h]
  ·have e:i=high.length:=by omega
   rw [decide_eq_false (show ¬(i:Int)<(high.length:Int) by omega),cond_false,e]
   simp [←hl]
theorem z10r (low high:LN) (k:Int) (w:Nat) (W:LN) (hW:W=low.mapIdx (fun i x=>fadd .f32 x (fmul .f32 w (fadd .f32 (z5f high ((i:Int)-1)) (z5f high (i:Int)))))):
  ∀(μ i:Nat),i≤low.length→low.length-i<μ→z8r low high k w μ (i:Int) (W.take i++low.drop i)=(W,high):=by
 have hl:W.length=low.length:=by rw [hW];simp
 intro μ
 induction μ with
 | zero=>intro i _ h;omega
 | succ μ ih=>
  intro i hi hm
  rw [ze5]
  by_cases h:i<low.length
  ·rw [decide_eq_true (show (i:Int)<(low.length:Int) by omega),cond_true,Int.toNat_natCast]
   have:=ih (i+1) ω2 ω2
   rw [←this,z3h W low i h hl]
   ·rfl
   ·rw [z7b W low i h hl,hW]
    simp [List.getD_eq_getElem?_getD,h]
  ·have e:i=low.length:=by omega
   rw [decide_eq_false (show ¬(i:Int)<(low.length:Int) by omega),cond_false,e]
   simp [←hl]
theorem z10s (low high:LN) (k:Int) (w:Nat):ze3 low high k w=(zam k w low high,z6f k w low high):=by
 rw [zkl]
 unfold zam z6f
 cases h:(Int.tmod k 2==0)
 ·rw [cond_false,cond_false,cond_false]
  have:=z10r low high k w _ rfl (Int.toNat ((low.length:Int)-0)+1) 0 ω2 ω2
  simpa using this
 ·rw [cond_true,cond_true,cond_true]
  have:=z10q low high k w _ rfl (Int.toNat ((high.length:Int)-0)+1) 0 ω2 ω2
  simpa using this
/-! f1fz: function 175 -/
def z5u:Env:=envOf [(180,z16b)]
def z15g (args:List Value) (H:zq):(Value→zq→Prop)→Prop:=match args with
 | [.slice uc yc cd,.slice tb wb yb,.int .i64 k,.float .f32 w]=>fun K=>zio uc yc cd tb wb yb k w H fun  (H':zq)=>K (.tuple #[]) H'
 | _=>fun _=>False
def ztf:FSpec:={F:=z15g,quiet:=false,tame:=false}
theorem z1ap (uc:OA) (yc cd:Nat) (tb:OA) (wb yb:Nat) (k:Int) (w:Nat) (H:zq) (K:KT):z1a Tryz.prog z5u Tryz.f175 [.slice uc yc cd,.slice tb wb yb,.int .i64 k,.float .f32 w] H K=
 (2≠(0:Int)∧Br ((Int.tmod k 2:Int)==0) (z1j (exL Tryz.prog z5u (cl (cl (cr (cl (cl (cr (cl (zr Tryz.f175)))))))) 267 0 [(0,0)]) (.slice uc yc cd::.slice tb wb yb::ud::.float .f32 w::ud4 (.int .i64 0::ud53 [])) H (zx 0 (seqQ (exL Tryz.prog z5u (cr (cl (cr (cl (zr Tryz.f175))))) 11 0 []) (seqQ (exL Tryz.prog z5u (cr (zr Tryz.f175)) 0 0 []) (retK Tryz.prog Tryz.f175 K))))) (z1j (exL Tryz.prog z5u (cl (cl (cr (cr (zr Tryz.f175))))) 523 0 [(2,0)]) (.slice uc yc cd::.slice tb wb yb::ud::.float .f32 w::ud5 (.int .i64 0::ud52 [])) H (zx 2 (retK Tryz.prog Tryz.f175 K)))):=by kernel_rfl
abbrev zd9 (tb:OA) (yb wb:Nat) (uc:OA) (cd yc w:Nat) (i:Int)  :List Value:=(.slice uc yc cd::.slice tb wb yb::ud::.float .f32 w::ud4 (.int .i64 i::ud53 []))
theorem z1an (tb:OA) (yb wb:Nat) (uc:OA) (cd yc w:Nat) (i:Int)  (H:zq) (R:Post):exL Tryz.prog z5u (cl (cl (cr (cl (cl (cr (cl (zr Tryz.f175)))))))) 267 0 [(0,0)] (zd9 tb yb wb uc cd yc w i) H R=
 (Br (decide ((i:Int)<(wb:Int))) ((0:Int)≤i∧i<(wb:Int)∧∃b1 f1,(tb:OA)=some ⟨b1,f1,none⟩∧∃x1:Nat,  rdC H b1 (f1+(i:Int).toNat*1)=some (.float .f32 x1)∧(0:Int)≤i∧i<(yc:Int)∧∃b2 f2,(uc:OA)=some ⟨b2,f2,none⟩∧∃x2:Nat,  rdC H b2 (f2+(i:Int).toNat*1)=some (.float .f32 x2)∧zfj uc yc cd (IntKind.wrap .i64 (i+1)) H fun (r1:Nat) (H1:zq)=>(0:Int)≤i∧i<(wb:Int)∧∃b3 f3,(tb:OA)=some ⟨b3,f3,none⟩∧isOwn H1 b3∧(∃l,rdN H1 b3 (f3+(i:Int).toNat*1) 1=some l)∧Lt (setC H1 b3 (f3+(i:Int).toNat*1) (.float .f32 (fadd .f32 x1 (fmul .f32 w (fadd .f32 x2 r1))))) fun H2=>R .normal (.slice uc yc cd::.slice tb wb yb::ud::.float .f32 w::ud4 (.int .i64 (IntKind.wrap .i64 (i+1))::ud53 [])) H2) (R (.exit 0) (ud62 []) H)):=by kernel_rfl
def zly (tb:OA) (yb wb:Nat) (uc:OA) (cd yc w:Nat) (Inv:Nat→Int→zq→Prop):Nat→List Value→zq→Prop:=fun μ tm H=>∃(i:Int),tm=(zd9 tb yb wb uc cd yc w i)∧Inv μ i H
theorem z1aj (tb:OA) (yb wb:Nat) (uc:OA) (cd yc w:Nat) {Q:Post} (Inv:Nat→Int→zq→Prop) (ν:Nat) (i:Int)  (H:zq) (h0:Inv ν i H)
  (hs:∀(μ:Nat) (i:Int)  (H:zq),Inv μ i H→exL Tryz.prog z5u (cl (cl (cr (cl (cl (cr (cl (zr Tryz.f175)))))))) 267 0 [(0,0)] (zd9 tb yb wb uc cd yc w i) H (z1b (zly tb yb wb uc cd yc w Inv) μ Q)):z1j (exL Tryz.prog z5u (cl (cl (cr (cl (cl (cr (cl (zr Tryz.f175)))))))) 267 0 [(0,0)]) (zd9 tb yb wb uc cd yc w i) H Q:=
 ⟨zly tb yb wb uc cd yc w Inv,ν,⟨i,rfl,h0⟩,fun μ tm H h=>by obtain ⟨i,rfl,hI⟩:=h;exact hs μ i  H hI⟩
theorem z1al {tb:OA} {yb wb:Nat} {uc:OA} {cd yc w:Nat} {Q:Post} {Inv:Nat→Int→zq→Prop} {μ:Nat} (μ':Nat) {i:Int}  {H:zq} (hm:μ'<μ) (hI:Inv μ' i H):z1b (zly tb yb wb uc cd yc w Inv) μ Q .normal (zd9 tb yb wb uc cd yc w i) H:=⟨μ',hm,i,rfl,hI⟩
theorem zuy  (H:zq) (K:KT)  {I:Nat→List Value→zq→Prop} {μ:Nat}:z1b I μ (zx 0 (seqQ (exL Tryz.prog z5u (cr (cl (cr (cl (zr Tryz.f175))))) 11 0 []) (seqQ (exL Tryz.prog z5u (cr (zr Tryz.f175)) 0 0 []) (retK Tryz.prog Tryz.f175 K)))) (.exit 0) (ud62 []) H=
 (K (.tuple #[]) H):=by kernel_rfl
abbrev zda (tb:OA) (yb wb:Nat) (uc:OA) (cd yc w:Nat) (i9:Int)  :List Value:=(.slice uc yc cd::.slice tb wb yb::ud::.float .f32 w::ud5 (.int .i64 i9::ud52 []))
theorem z1ao (tb:OA) (yb wb:Nat) (uc:OA) (cd yc w:Nat) (i9:Int)  (H:zq) (R:Post):exL Tryz.prog z5u (cl (cl (cr (cr (zr Tryz.f175))))) 523 0 [(2,0)] (zda tb yb wb uc cd yc w i9) H R=
 (Br (decide ((i9:Int)<(yc:Int))) ((0:Int)≤i9∧i9<(yc:Int)∧∃b4 f4,(uc:OA)=some ⟨b4,f4,none⟩∧∃x3:Nat,  rdC H b4 (f4+(i9:Int).toNat*1)=some (.float .f32 x3)∧zfj tb wb yb (IntKind.wrap .i64 (i9-1)) H fun (r2:Nat) (H3:zq)=>zfj tb wb yb i9 H3 fun (r3:Nat) (H4:zq)=>(0:Int)≤i9∧i9<(yc:Int)∧∃b5 f5,(uc:OA)=some ⟨b5,f5,none⟩∧isOwn H4 b5∧(∃l,rdN H4 b5 (f5+(i9:Int).toNat*1) 1=some l)∧Lt (setC H4 b5 (f5+(i9:Int).toNat*1) (.float .f32 (fadd .f32 x3 (fmul .f32 w (fadd .f32 r2 r3))))) fun H5=>R .normal (.slice uc yc cd::.slice tb wb yb::ud::.float .f32 w::ud5 (.int .i64 (IntKind.wrap .i64 (i9+1))::ud52 [])) H5) (R (.exit 2) (ud62 []) H)):=by kernel_rfl
def zlz (tb:OA) (yb wb:Nat) (uc:OA) (cd yc w:Nat) (Inv:Nat→Int→zq→Prop):Nat→List Value→zq→Prop:=fun μ tm H=>∃(i9:Int),tm=(zda tb yb wb uc cd yc w i9)∧Inv μ i9 H
theorem z1ak (tb:OA) (yb wb:Nat) (uc:OA) (cd yc w:Nat) {Q:Post} (Inv:Nat→Int→zq→Prop) (ν:Nat) (i9:Int)  (H:zq) (h0:Inv ν i9 H)
  (hs:∀(μ:Nat) (i9:Int)  (H:zq),Inv μ i9 H→exL Tryz.prog z5u (cl (cl (cr (cr (zr Tryz.f175))))) 523 0 [(2,0)] (zda tb yb wb uc cd yc w i9) H (z1b (zlz tb yb wb uc cd yc w Inv) μ Q)):z1j (exL Tryz.prog z5u (cl (cl (cr (cr (zr Tryz.f175))))) 523 0 [(2,0)]) (zda tb yb wb uc cd yc w i9) H Q:=
 ⟨zlz tb yb wb uc cd yc w Inv,ν,⟨i9,rfl,h0⟩,fun μ tm H h=>by obtain ⟨i9,rfl,hI⟩:=h;exact hs μ i9  H hI⟩
theorem z1am {tb:OA} {yb wb:Nat} {uc:OA} {cd yc w:Nat} {Q:Post} {Inv:Nat→Int→zq→Prop} {μ:Nat} (μ':Nat) {i9:Int}  {H:zq} (hm:μ'<μ) (hI:Inv μ' i9 H):z1b (zlz tb yb wb uc cd yc w Inv) μ Q .normal (zda tb yb wb uc cd yc w i9) H:=⟨μ',hm,i9,rfl,hI⟩
theorem zuz  (H:zq) (K:KT)  {I:Nat→List Value→zq→Prop} {μ:Nat}:z1b I μ (zx 2 (retK Tryz.prog Tryz.f175 K)) (.exit 2) (ud62 []) H=
 (K (.tuple #[]) H):=by kernel_rfl
theorem zsg:∀g,FnOk Tryz.prog g (z5u g):=FnOk.envOf (by
 intro x hx
 simp only [List.mem_cons,List.not_mem_nil,or_false] at hx
 subst hx;exact f10z_ok)
theorem ω16 {P:Prop} (h:P:=by first | assumption | omega | (simp;omega)):P:=h
theorem ω6 {P:Prop} (h:P:=by first | omega | (simp only [List.length_set];(first | omega | (simp only [List.length_set,List.length_replicate,List.length_append,List.length_cons,List.length_nil,List.length_take,List.length_drop,z1t];done) | (simp only [List.length_set,List.length_replicate,List.length_append,List.length_cons,List.length_nil,List.length_take,List.length_drop,z1t];omega)))):P:=h
theorem zuw (uc:OA) (yc cd:Nat) (tb:OA) (wb yb:Nat) (k:Int) (w:Nat) (H:zq) (K:KT) (h:zio uc yc cd tb wb yb k w H fun  (H':zq)=>K (.tuple #[]) H'):z1a Tryz.prog z5u Tryz.f175 [.slice uc yc cd,.slice tb wb yb,.int .i64 k,.float .f32 w] H K:=by
 rw [z1ap]
 obtain ⟨lo,lob,zb,mb,i_low,i_high,sp_m,bd_53,bd_54,pr0,pr1,hk⟩:=h
 have hk:(∀H':zq,z2t uc tb H H'→OwnS fF H' lo uc yc cd ((ze3 zb mb k w).1)→OwnS fF H' lob tb wb yb ((ze3 zb mb k w).2)→(fun  (H':zq)=>K (.tuple #[]) H')  H'):=by rw [z10s zb mb k w];exact hk
 obtain rfl:=i_low.len
 obtain rfl:=i_high.len
 have up_p:=i_low.up
 have lo_p:=i_low.lo
 have up_q:=i_high.up
 have lo_q:=i_high.lo
 have e:(ze3 zb mb k w)=_:=rfl
 have e:=e.trans (zkl zb mb k w)
 have g0:=z2t.refl uc tb H
 refine ⟨ω24,?_⟩
 have z_1:=zbm k 2
 have z_2:=zer k 2
 refine Br.intro (fun c_3=>?_) (fun c_3=>?_)
 ·have e:=e.trans (zw c_3)
  have c_3':=zjv c_3
  refine z1aj _ _ _ _ _ _ _ (fun (μ:Nat) (i:Int) (H_1:zq)=>∃(y1_1:LN),OwnS fF H_1 lo uc zb.length cd zb∧OwnS fF H_1 lob tb mb.length yb y1_1∧y1_1.length=(mb).length∧H.length≤H_1.length∧H.length≤H_1.length∧z2t uc tb H H_1∧(0:Int)≤i∧i≤(mb.length:Int)∧(mb.length:Int)-i≤(μ:Int)∧ze3 zb mb k w=z8q zb mb k w (μ+1) i y1_1) (Int.toNat ((mb.length:Int)-(0:Int))) _ H ?_ ?_
  ·exact ⟨_,i_low,i_high,ω15,ω2,ω2,g0,ω7,ω7,ω2,e⟩
  ·intro μ i  H_1 hI
   obtain ⟨y1_1,r_4,r_5,y6,n_7,n8,g_9,v_10,v_11,hμ,e⟩:=hI
   rw [z1an]
   have e:=e.trans (ze4 zb mb k w μ i y1_1)
   have l_12:=g_9.1
   refine Br.intro (fun c_13=>?_) (fun c_13=>?_)
   ·have e:=e.trans (zw c_13)
    have c_13':=of_decide_eq_true c_13
    obtain ⟨b_14,f_15,q16⟩:=(r_5.isL).pos ω0
    refine ⟨by omega,by omega,b_14,f_15,q16,?_⟩
    refine ⟨((y1_1).getD (i:Int).toNat 0),(r_5.isL).rd (Grow.refl _) q16 ω2 _,?_⟩
    obtain ⟨b_17,f_18,q19⟩:=(r_4.isL).pos ω0
    refine ⟨by omega,by omega,b_17,f_18,q19,?_⟩
    refine ⟨((zb).getD (i:Int).toNat 0),(r_4.isL).rd (Grow.refl _) q19 ω2 _,?_⟩
    rw [show IntKind.wrap .i64 (i+1)=(i+1) from zu ω2 ω2]
    refine zh6 ⟨_,r_4.isL,ω0,ω16,?_⟩
    obtain ⟨b20,f21,q_22⟩:=(r_5.isL).pos ω0
    refine ⟨by omega,by omega,b20,f21,q_22,?_⟩
    refine Lt.setS r_5 q_22 ω6 (fun H_2 hl_23 o25 k24=>?_)
    have l26:=k24.1
    have g27:=g_9.transB k24
    have l28:=g27.1
    have r_29:=r_4.keepA (sp_m).symm k24
    refine z1al (μ-1) ω17 ⟨_,r_29,o25,ω22,ω2,ω2,ω2,ω1,ω1,ω17,ω13⟩
   ·have e:=e.trans (zv c_13)
    have c_13':=of_decide_eq_false c_13
    rw [zuy]
    rw [e] at hk
    exact hk H_1 g_9 r_4 r_5
 ·have e:=e.trans (zv c_3)
  have c_3':=zju c_3
  refine z1ak _ _ _ _ _ _ _ (fun (μ:Nat) (i9:Int) (H_3:zq)=>∃(y2_1:LN),OwnS fF H_3 lo uc zb.length cd y2_1∧y2_1.length=(zb).length∧OwnS fF H_3 lob tb mb.length yb mb∧H.length≤H_3.length∧H.length≤H_3.length∧z2t uc tb H H_3∧(0:Int)≤i9∧i9≤(zb.length:Int)∧(zb.length:Int)-i9≤(μ:Int)∧ze3 zb mb k w=z8r zb mb k w (μ+1) i9 y2_1) (Int.toNat ((zb.length:Int)-(0:Int))) _ H ?_ ?_
  ·exact ⟨_,i_low,ω15,i_high,ω2,ω2,g0,ω7,ω7,ω2,e⟩
  ·intro μ i9  H_3 hI
   obtain ⟨y2_1,r_30,y31,r_32,n33,n34,g35,v_36,v_37,hμ,e⟩:=hI
   rw [z1ao]
   have e:=e.trans (ze5 zb mb k w μ i9 y2_1)
   have l38:=g35.1
   refine Br.intro (fun c_39=>?_) (fun c_39=>?_)
   ·have e:=e.trans (zw c_39)
    have c_39':=of_decide_eq_true c_39
    obtain ⟨b40,f41,q42⟩:=(r_30.isL).pos ω0
    refine ⟨by omega,by omega,b40,f41,q42,?_⟩
    refine ⟨((y2_1).getD (i9:Int).toNat 0),(r_30.isL).rd (Grow.refl _) q42 ω2 _,?_⟩
    rw [show IntKind.wrap .i64 (i9-1)=(i9-1) from zu ω2 ω2]
    refine zh6 ⟨_,r_32.isL,ω0,ω16,?_⟩
    refine zh6 ⟨_,r_32.isL,ω0,ω16,?_⟩
    obtain ⟨b43,f_44,q45⟩:=(r_30.isL).pos ω0
    refine ⟨by omega,by omega,b43,f_44,q45,?_⟩
    refine Lt.setS r_30 q45 ω6 (fun H_4 hl_46 o48 k47=>?_)
    have l49:=k47.1
    have g50:=g35.transA k47
    have l51:=g50.1
    have r_52:=r_32.keepA (sp_m) k47
    rw [show IntKind.wrap .i64 (i9+1)=(i9+1) from zu ω2 ω2]
    refine z1am (μ-1) ω17 ⟨_,o48,ω22,r_52,ω2,ω2,ω2,ω1,ω1,ω17,ω13⟩
   ·have e:=e.trans (zv c_39)
    have c_39':=of_decide_eq_false c_39
    rw [zuz]
    rw [e] at hk
    exact hk H_3 g35 r_30 r_32
theorem zux:FnOk Tryz.prog 175 ztf:=FnOk.bodyF mix_ok zsg Tryz.func175 rfl ω9 ω9 fun args H=>by
 unfold z15g
 split
 ·refine ⟨?_,?_,?_,?_,fun K hk=>zuw _ _ _ _ _ _ _ _ H K hk⟩
  ·intro K K' h hk;obtain ⟨lo,lob,zb,mb,i_low,i_high,sp_m,bd_53,bd_54,pr0,pr1,k⟩:=hk;exact ⟨lo,lob,zb,mb,i_low,i_high,sp_m,bd_53,bd_54,pr0,pr1,(fun H' gg ow ow2=>h _ _ (k H' gg ow ow2))⟩
  ·nofun
  ·intro K hk;obtain ⟨lo,lob,zb,mb,i_low,i_high,sp_m,bd_53,bd_54,pr0,pr1,k⟩:=hk;exact (i_low.put2 i_high sp_m _ _ (by rw [z4b]) (by rw [z2s])).elim fun H1 h=>⟨_,_,k H1 h.1 h.2.1 h.2.2⟩
  ·nofun
 ·exact Nice.no

def z5g (qb:LN):LN×Bool:=(bif !(z1w qb) then ([],false) else (qb,true))
def z7g:=@z5g.eq_1
def znm (ld:OA) (tc ee:Nat) (H:zq) (K:OA→Nat→Nat→Bool→zq→Prop):Prop:=∃(qb:LN),IsL fF H ld tc qb∧qb.length<1073741824∧((∀H':zq,Grow H H'→Br ((z5g qb).2) (K ld tc ee true H') (K none 0 0 false H')))
theorem znn {ld:OA} {tc ee:Nat} {H:zq} {K:OA→Nat→Nat→Bool→zq→Prop} (h:∃(qb:LN),IsL fF H ld tc qb∧qb.length<1073741824∧((∀H':zq,Grow H H'→Br ((z5g qb).2) (K ld tc ee true H') (K none 0 0 false H')))):znm ld tc ee H K:=h

/-! f1kz: function 176 -/
def zsm:Env:=envOf [(124,zii)]
def z15k (args:List Value) (H:zq):(Value→zq→Prop)→Prop:=match args with
 | [.slice ld tc ee]=>fun K=>znm ld tc ee H fun (td:OA) (yd:Nat) (xd:Nat) (r2:Bool) (H':zq)=>K (.tuple #[.slice td yd xd,.bool r2]) H'
 | _=>fun _=>False
def z16o:FSpec:={F:=z15k,quiet:=false,tame:=true}
theorem z1ay (ld:OA) (tc ee:Nat) (H:zq) (K:KT):z1a Tryz.prog zsm Tryz.f176 [.slice ld tc ee] H K=
 (zc3 ld tc ee H fun (r1:Bool) (H1:zq)=>Br (!r1) (K (.tuple #[.slice none 0 0,.bool false]) H1) (K (.tuple #[.slice ld tc ee,.bool true]) H1)):=by kernel_rfl
theorem zsn:∀g,FnOk Tryz.prog g (zsm g):=FnOk.envOf (by
 intro x hx
 simp only [List.mem_cons,List.not_mem_nil,or_false] at hx
 subst hx;exact f11z_ok)
theorem zv3 (ld:OA) (tc ee:Nat) (H:zq) (K:KT) (h:znm ld tc ee H fun (td:OA) (yd:Nat) (xd:Nat) (r2:Bool) (H':zq)=>K (.tuple #[.slice td yd xd,.bool r2]) H'):z1a Tryz.prog zsm Tryz.f176 [.slice ld tc ee] H K:=by
 rw [z1ay]
 obtain ⟨qb,i_list,bd_2,hk⟩:=h
 obtain rfl:=i_list.eqn
 have e:(z5g qb)=_:=rfl
 have e:=e.trans (z7g qb)
 have g0:=Grow.refl H
 refine zas ⟨_,(i_list.grow g0),ω0,?_⟩
 refine Br.intro (fun c_1=>?_) (fun c_1=>?_)
 ·have e:=e.trans (zw c_1)
  have c_1n:=z1f c_1
  have q:=hk H g0
  rw [e] at q
  exact q
 ·have e:=e.trans (zv c_1)
  have c_1n:=z1e c_1
  have q:=hk H g0
  rw [e] at q
  exact q
theorem z1ax:FnOk Tryz.prog 176 z16o:=FnOk.bodyF mix_ok zsn Tryz.func176 rfl ω9 ω9 fun args H=>by
 unfold z15k
 split
 ·refine ⟨?_,?_,?_,?_,fun K hk=>zv3 _ _ _ H K hk⟩
  ·intro K K' h hk;obtain ⟨qb,i_list,bd_2,k⟩:=hk;exact ⟨qb,i_list,bd_2,(fun H' gg=>zbn (h _ _) (h _ _) (k H' gg))⟩
  ·nofun
  ·intro K hk;obtain ⟨qb,i_list,bd_2,k⟩:=hk;exact zlj (k H (Grow.refl H))
  ·intro _ K hk;obtain ⟨qb,i_list,bd_2,k⟩:=hk;exact ⟨qb,i_list,bd_2,(fun H' gg=>zbn (fun q=>⟨gg,q⟩) (fun q=>⟨gg,q⟩) (k H' gg))⟩
 ·exact Nice.no

def z4r (aa:LN) (fa:Nat) (de qf:LN) (i:Int) (y1_1 y1_2:LN) (nf:Int) (y2_1 y2_2:LN) (k:Int) (y3_1 y3_2:LN) (k4_6:LN→Int→(LN×Bool)):Nat→LN→Int→LN×Bool
 | 0,_,_=>([],false)
 | μ4+1,zf,wg=>(bif decide ((wg:Int)<(0+de.length:Int)) then (bif decide ((wg:Int)<(0+qf.length:Int)) then (z4r aa fa de qf i y1_1 y1_2 nf y2_1 y2_2 k y3_1 y3_2 k4_6 μ4 (((zf++[(((y3_1).getD (wg:Int).toNat 0))])++[(((y3_2).getD (wg:Int).toNat 0))])) (wg+1)) else (z4r aa fa de qf i y1_1 y1_2 nf y2_1 y2_2 k y3_1 y3_2 k4_6 μ4 ((zf++[(((y3_1).getD (wg:Int).toNat 0))])) (wg+1))) else (k4_6 zf wg))
def zg7:=fun aa fa de qf i y1_1 y1_2 nf y2_1 y2_2 k y3_1 y3_2 k4_6 μ4 zf wg=>@z4r.eq_2 aa fa de qf i y1_1 y1_2 nf y2_1 y2_2 k y3_1 y3_2 k4_6 zf wg μ4
def z7x (aa:LN) (fa:Nat) (de qf:LN) (i:Int) (y1_1 y1_2:LN) (nf:Int) (y2_1 y2_2:LN) (k3_4:Int→LN→LN→(LN×Bool)):Nat→Int→LN→LN→LN×Bool
 | 0,_,_,_=>([],false)
 | μ3+1,k,y3_1,y3_2=>(bif decide ((0:Int)≤k) then (z7x aa fa de qf i y1_1 y1_2 nf y2_1 y2_2 k3_4 μ3 (k-1) ((zam k (fneg .f32 (((aa).getD (k:Int).toNat 0))) y3_1 y3_2)) ((z6f k (fneg .f32 (((aa).getD (k:Int).toNat 0))) y3_1 y3_2))) else (k3_4 k y3_1 y3_2))
def zg6:=fun aa fa de qf i y1_1 y1_2 nf y2_1 y2_2 k3_4 μ3 k y3_1 y3_2=>@z7x.eq_2 aa fa de qf i y1_1 y1_2 nf y2_1 y2_2 k3_4 k y3_1 y3_2 μ3
def zbe (aa:LN) (fa:Nat) (de qf:LN) (i:Int) (y1_1 y1_2:LN) (k2_2:Int→LN→LN→(LN×Bool)):Nat→Int→LN→LN→LN×Bool
 | 0,_,_,_=>([],false)
 | μ2+1,nf,y2_1,y2_2=>(bif decide ((nf:Int)<(0+qf.length:Int)) then (zbe aa fa de qf i y1_1 y1_2 k2_2 μ2 (nf+1) y2_1 (((y2_2).set (nf:Int).toNat ((fmul .f32 (((y2_2).getD (nf:Int).toNat 0)) fa))))) else (k2_2 nf y2_1 y2_2))
def zg5:=fun aa fa de qf i y1_1 y1_2 k2_2 μ2 nf y2_1 y2_2=>@zbe.eq_2 aa fa de qf i y1_1 y1_2 k2_2 nf y2_1 y2_2 μ2
def z7w (aa:LN) (fa:Nat) (de qf:LN):Nat→Int→LN→LN→LN×Bool
 | 0,_,_,_=>([],false)
 | μ+1,i,y1_1,y1_2=>(bif decide ((i:Int)<(0+de.length:Int)) then (z7w aa fa de qf μ (i+1) (((y1_1).set (i:Int).toNat ((fdiv .f32 (((y1_1).getD (i:Int).toNat 0)) fa)))) y1_2) else (zbe aa fa de qf i y1_1 y1_2 (fun (nf:Int) (y2_1:LN) (y2_2:LN)=>(z7x aa fa de qf i y1_1 y1_2 nf y2_1 y2_2 (fun (k:Int) (y3_1:LN) (y3_2:LN)=>(z4r aa fa de qf i y1_1 y1_2 nf y2_1 y2_2 k y3_1 y3_2 (fun (zf:LN) (wg:Int)=>(bif (z5g zf).2 then (zf,true) else ([],false))) (Int.toNat ((0+de.length:Int)-(0:Int))+1) ([]:LN) (0:Int))) (Int.toNat (((((aa.length:Int)-1)))-0+1)+1) ((((aa.length:Int)-1))) y2_1 y2_2)) (Int.toNat ((0+qf.length:Int)-(0:Int))+1) (0:Int) y1_1 y1_2))
def z9p:=fun aa fa de qf μ i y1_1 y1_2=>@z7w.eq_2 aa fa de qf i y1_1 y1_2 μ
def z7k (aa:LN) (fa:Nat) (de qf:LN):Nat→LN→Int→LN×Bool
 | 0,_,_=>([],false)
 | μ+1,zf,wg=>(bif decide ((wg:Int)<(0+de.length:Int)) then (bif decide ((wg:Int)<(0+qf.length:Int)) then (z7k aa fa de qf μ (((zf++[((((([]:LN)++de)).getD (wg:Int).toNat 0))])++[((((([]:LN)++qf)).getD (wg:Int).toNat 0))])) (wg+1)) else (z7k aa fa de qf μ ((zf++[((((([]:LN)++de)).getD (wg:Int).toNat 0))])) (wg+1))) else (bif (z5g zf).2 then (zf,true) else ([],false)))
def zed:=fun aa fa de qf μ zf wg=>@z7k.eq_2 aa fa de qf zf wg μ
def z6h (aa:LN) (fa:Nat) (de qf:LN):LN×Bool:=(bif decide ((0:Int)<(0+qf.length:Int)) then (z7w aa fa de qf (Int.toNat ((0+de.length:Int)-(0:Int))+1) (0:Int) ((([]:LN)++de)) ((([]:LN)++qf))) else (z7k aa fa de qf (Int.toNat ((0+de.length:Int)-(0:Int))+1) ([]:LN) (0:Int)))
def zov:=@z6h.eq_1
def zzx (s:Nat) (wi:OA) (se fj:Nat) (gj:OA) (df vj:Nat) (H:zq) (K:OA→Nat→Nat→Bool→zq→Prop):Prop:=∃(bb:OA),∃(jb nb fa:Nat),∃(aa de qf:LN),rdN H s 0 2=some [.slice bb jb nb,.float .f32 fa]∧IsL fF H bb jb aa∧IsL fF H wi se de∧IsL fF H gj df qf∧aa.length<1073741824∧de.length<1073741824∧qf.length<1073741824∧qf.length≤de.length∧de.length≤qf.length+1∧de.length≤128∧((∀(td:OA) (yd xd:Nat),∀H':zq,Grow H H'→OwnS fF H' H.length td yd xd ((z6h aa fa de qf).1)→K td yd xd ((z6h aa fa de qf).2) H'))
theorem z19t {s:Nat} {wi:OA} {se fj:Nat} {gj:OA} {df vj:Nat} {H:zq} {K:OA→Nat→Nat→Bool→zq→Prop} (h:∃(bb:OA),∃(jb nb fa:Nat),∃(aa de qf:LN),rdN H s 0 2=some [.slice bb jb nb,.float .f32 fa]∧IsL fF H bb jb aa∧IsL fF H wi se de∧IsL fF H gj df qf∧aa.length<1073741824∧de.length<1073741824∧qf.length<1073741824∧qf.length≤de.length∧de.length≤qf.length+1∧de.length≤128∧((∀(td:OA) (yd xd:Nat),∀H':zq,Grow H H'→OwnS fF H' H.length td yd xd ((z6h aa fa de qf).1)→K td yd xd ((z6h aa fa de qf).2) H'))):zzx s wi se fj gj df vj H K:=h
def wvF (e o:LN) (i:Nat):LN:=if i<o.length then [e.getD i 0,o.getD i 0] else [e.getD i 0]
def wv (e o:LN) (k:Nat):LN:=(List.range k).flatMap (wvF e o)
theorem zeu (e o:LN) (k:Nat):wv e o (k+1)=wv e o k++wvF e o k:=by
 unfold wv
 rw [List.range_succ,List.flatMap_append]
 simp
theorem zpd (e o:LN):∀k,(wv e o k).length=k+min k o.length:=by
 intro k
 induction k with
 | zero=>simp [wv]
 | succ k ih=>
  rw [zeu,List.length_append,ih]
  unfold wvF
  split<;>simp<;>omega
def dfS (ws:LN):Nat→LN→LN→LN×LN
 | 0,lo,hi=>(lo,hi)
 | k+1,lo,hi=>dfS ws k (zam (k:Int) (fneg .f32 (ws.getD k 0)) lo hi) (z6f (k:Int) (fneg .f32 (ws.getD k 0)) lo hi)
theorem zfq (ws:LN):∀(k:Nat) (lo hi:LN),(dfS ws k lo hi).1.length=lo.length∧(dfS ws k lo hi).2.length=hi.length:=by
 intro k
 induction k with
 | zero=>intro lo hi;exact ⟨rfl,rfl⟩
 | succ k ih=>
  intro lo hi
  obtain ⟨h1,h2⟩:=ih (zam (k:Int) (fneg .f32 (ws.getD k 0)) lo hi) (z6f (k:Int) (fneg .f32 (ws.getD k 0)) lo hi)
  exact ⟨h1.trans (z4b _ _ _ _),h2.trans (z2s _ _ _ _)⟩
theorem zra (ws:LN) (sc:Nat) (l1 l2:LN) (i:Int) (a b:LN) (i2:Int) (c d:LN) (K:Int→LN→LN→LN×Bool):∀(μ k:Nat) (y1 y2:LN),k<μ→
  z7x ws sc l1 l2 i a b i2 c d K μ ((k:Int)-1) y1 y2=K (-1) (dfS ws k y1 y2).1 (dfS ws k y1 y2).2:=by
 intro μ
 induction μ with
 | zero=>intro k y1 y2 h;omega
 | succ μ ih=>
  intro k y1 y2 hm
  rw [zg6]
  cases k with
  | zero=>rfl
  | succ k=>
   have e:((k+1:Nat):Int)-1=(k:Int):=by omega
   rw [e,decide_eq_true (show (0:Int)≤(k:Int) by omega),cond_true,Int.toNat_natCast]
   exact ih k _ _ ω2
theorem zr8 (ws:LN) (sc:Nat) (l1 l2 y2:LN) (K:Int→LN→LN→LN×Bool)
  (hK:∀(k:Int) (y1 y2:LN),z7w ws sc l1 l2 1 k y1 y2=bif decide (k<(0+l1.length:Int)) then z7w ws sc l1 l2 0 (k+1) (y1.set k.toNat (fdiv .f32 (y1.getD k.toNat 0) sc)) y2 else K k y1 y2) (A:LN) (hA:A.length=l1.length):∀(μ j:Nat),j≤l1.length→l1.length-j<μ→
  z7w ws sc l1 l2 μ (j:Int) ((A.map fun x=>fdiv .f32 x sc).take j++A.drop j) y2=K (l1.length:Int) (A.map fun x=>fdiv .f32 x sc) y2:=by
 intro μ
 induction μ with
 | zero=>intro k _ h;omega
 | succ μ ih=>
  intro j hj hm
  by_cases h:j<l1.length
  ·rw [z9p]
   rw [decide_eq_true (show (j:Int)<(0+l1.length:Int) by omega),cond_true,Int.toNat_natCast,z7b _ _ _ ω2 (by simp)]
   have:=ih (j+1) ω2 ω2
   rw [z3h (A.map fun x=>fdiv .f32 x sc) A j ω2 (by simp) _ (by simp [List.getD_eq_getElem?_getD,show j<A.length by omega])]
   exact this
  ·have e:j=l1.length:=by omega
   have h1:=hK (j:Int) ((A.map fun x=>fdiv .f32 x sc).take j++A.drop j) y2
   rw [z9p] at h1 ⊢
   rw [decide_eq_false (show ¬(j:Int)<(0+l1.length:Int) by omega),cond_false,cond_false] at h1
   rw [decide_eq_false (show ¬(j:Int)<(0+l1.length:Int) by omega),cond_false]
   refine h1.trans ?_
   rw [e,List.take_of_length_le (by simp [hA]),List.drop_of_length_le ω2,List.append_nil]
theorem zr9 (ws:LN) (sc:Nat) (l1 l2:LN) (i:Int) (a b y1:LN) (K:Int→LN→LN→LN×Bool) (A:LN) (hA:A.length=l2.length):∀(μ j:Nat),j≤l2.length→l2.length-j<μ→
  zbe ws sc l1 l2 i a b K μ (j:Int) y1 ((A.map fun x=>fmul .f32 x sc).take j++A.drop j)=K (l2.length:Int) y1 (A.map fun x=>fmul .f32 x sc):=by
 intro μ
 induction μ with
 | zero=>intro k _ h;omega
 | succ μ ih=>
  intro j hj hm
  rw [zg5]
  by_cases h:j<l2.length
  ·rw [decide_eq_true (show (j:Int)<(0+l2.length:Int) by omega),cond_true,Int.toNat_natCast,z7b _ _ _ ω2 (by simp)]
   have:=ih (j+1) ω2 ω2
   rw [z3h (A.map fun x=>fmul .f32 x sc) A j ω2 (by simp) _ (by simp [List.getD_eq_getElem?_getD,show j<A.length by omega])]
   exact this
  ·have e:j=l2.length:=by omega
   rw [decide_eq_false (show ¬(j:Int)<(0+l2.length:Int) by omega),cond_false,e,List.take_of_length_le (by simp [hA]),List.drop_of_length_le ω2,List.append_nil]
theorem zrb (ws:LN) (sc:Nat) (l1 l2:LN) (i:Int) (a b:LN) (i2:Int) (c d:LN) (k0:Int) (E O:LN) (hE:E.length=l1.length) (hO:O.length=l2.length) (K:LN→Int→LN×Bool):∀(μ k:Nat),k≤l1.length→l1.length-k<μ→
  z4r ws sc l1 l2 i a b i2 c d k0 E O K μ (wv E O k) (k:Int)=K (wv E O l1.length) (l1.length:Int):=by
 intro μ
 induction μ with
 | zero=>intro k _ h;omega
 | succ μ ih=>
  intro k hk hm
  rw [zg7]
  by_cases h:k<l1.length
  ·rw [decide_eq_true (show (k:Int)<(0+l1.length:Int) by omega),cond_true,Int.toNat_natCast]
   have:=ih (k+1) ω2 ω2
   rw [zeu] at this
   by_cases h2:k<l2.length
   ·rw [decide_eq_true (show (k:Int)<(0+l2.length:Int) by omega),cond_true]
    rw [show wvF E O k=[E.getD k 0,O.getD k 0] from if_pos ω2] at this
    rw [List.append_assoc]
    exact this
   ·rw [decide_eq_false (show ¬(k:Int)<(0+l2.length:Int) by omega),cond_false]
    rw [show wvF E O k=[E.getD k 0] from if_neg ω2] at this
    exact this
  ·obtain rfl:k=l1.length:=by omega
   rw [decide_eq_false (show ¬((l1.length:Nat):Int)<(0+l1.length:Int) by omega),cond_false]
theorem zn0 (ws:LN) (sc:Nat) (l1 l2:LN):∀(μ k:Nat),k≤l1.length→l1.length-k<μ→
  z7k ws sc l1 l2 μ (wv l1 l2 k) (k:Int)=bif (z5g (wv l1 l2 l1.length)).2 then (wv l1 l2 l1.length,true) else ([],false):=by
 intro μ
 induction μ with
 | zero=>intro k _ h;omega
 | succ μ ih=>
  intro k hk hm
  rw [zed,List.nil_append,List.nil_append]
  by_cases h:k<l1.length
  ·rw [decide_eq_true (show (k:Int)<(0+l1.length:Int) by omega),cond_true,Int.toNat_natCast]
   have:=ih (k+1) ω2 ω2
   rw [zeu] at this
   by_cases h2:k<l2.length
   ·rw [decide_eq_true (show (k:Int)<(0+l2.length:Int) by omega),cond_true]
    rw [show wvF l1 l2 k=[l1.getD k 0,l2.getD k 0] from if_pos ω2] at this
    rw [List.append_assoc]
    exact this
   ·rw [decide_eq_false (show ¬(k:Int)<(0+l2.length:Int) by omega),cond_false]
    rw [show wvF l1 l2 k=[l1.getD k 0] from if_neg ω2] at this
    exact this
  ·obtain rfl:k=l1.length:=by omega
   rw [decide_eq_false (show ¬((l1.length:Nat):Int)<(0+l1.length:Int) by omega),cond_false]
theorem zbk (v:LN):(bif (z5g v).2 then (v,true) else ([],false))=z5g v:=by
 rw [z7g]
 cases z1w v<;>rfl
def zul (ws:LN) (sc:Nat) (e o:LN):LN:=(dfS ws ws.length (e.map fun x=>fdiv .f32 x sc) (o.map fun x=>fmul .f32 x sc)).1
def zum (ws:LN) (sc:Nat) (e o:LN):LN:=(dfS ws ws.length (e.map fun x=>fdiv .f32 x sc) (o.map fun x=>fmul .f32 x sc)).2
def zf2 (ws:LN) (sc:Nat) (e o:LN):LN:=bif decide ((0:Int)<(0+o.length:Int)) then wv (zul ws sc e o) (zum ws sc e o) e.length else wv e o e.length
theorem z4p (ws:LN) (sc:Nat) (e o:LN):z6h ws sc e o=z5g (zf2 ws sc e o):=by
 rw [zov]
 unfold zf2
 cases decide ((0:Int)<(0+o.length:Int)) with
 | false=>
  rw [cond_false,cond_false,←zbk]
  exact zn0 ws sc e o (Int.toNat ((0+e.length:Int)-(0:Int))+1) 0 ω2 ω2
 | true=>
  rw [cond_true,cond_true,List.nil_append,List.nil_append]
  have h1:=zr8 ws sc e o o _ (fun k y1 y2=>z9p ws sc e o 0 k y1 y2) e rfl (Int.toNat ((0+e.length:Int)-(0:Int))+1) 0 ω2 ω2
  simp only [List.take_zero,List.drop_zero,List.nil_append] at h1
  refine Eq.trans h1 ?_
  have h2:=fun i a b y1 K=>zr9 ws sc e o i a b y1 K o rfl (Int.toNat ((0+o.length:Int)-(0:Int))+1) 0 ω2 ω2
  simp only [List.take_zero,List.drop_zero,List.nil_append] at h2
  refine Eq.trans (h2 _ _ _ _ _) ?_
  refine Eq.trans (zra ws sc e o _ _ _ _ _ _ _ (Int.toNat (((((ws.length:Int)-1)))-0+1)+1) ws.length _ _ ω2) ?_
  obtain ⟨g1,g2⟩:=zfq ws ws.length (e.map fun x=>fdiv .f32 x sc) (o.map fun x=>fmul .f32 x sc)
  refine Eq.trans (zrb ws sc e o _ _ _ _ _ _ _ _ _ (g1.trans (List.length_map ..)) (g2.trans (List.length_map ..)) _ (Int.toNat ((0+e.length:Int)-(0:Int))+1) 0 ω2 ω2) ?_
  exact zbk _
theorem zd8 (ws:LN) (sc:Nat) (e o:LN):(zf2 ws sc e o).length=e.length+min e.length o.length:=by
 unfold zf2 zul zum
 obtain ⟨g1,g2⟩:=zfq ws ws.length (e.map fun x=>fdiv .f32 x sc) (o.map fun x=>fmul .f32 x sc)
 cases decide ((0:Int)<(0+o.length:Int)) with
 | false=>rw [cond_false,zpd]
 | true=>rw [cond_true,zpd,g2,List.length_map]
theorem zgp (ws:LN) (sc:Nat) (e o:LN) (h:(z6h ws sc e o).2=true):(z6h ws sc e o).1=zf2 ws sc e o∧z1w (zf2 ws sc e o)=true:=by
 rw [z4p,z7g] at h ⊢
 cases hf:z1w (zf2 ws sc e o) with
 | true=>exact ⟨rfl,rfl⟩
 | false=>rw [hf] at h;cases h
theorem zn1 (ws:LN) (sc:Nat) (e o:LN):(z6h ws sc e o).1.length≤2*e.length:=by
 rw [z4p,z7g]
 have:=zd8 ws sc e o
 cases z1w (zf2 ws sc e o) with
 | true=>show (zf2 ws sc e o).length≤_;omega
 | false=>exact Nat.zero_le _
/-! fhz: function 167 -/
def z3o:Env:=envOf [(175,ztf),(176,z16o)]
def F_fhz (args:List Value) (H:zq):(Value→zq→Prop)→Prop:=match args with
 | [.pointer (some ⟨s,0,none⟩),.slice wi se fj,.slice gj df vj]=>fun K=>zzx s wi se fj gj df vj H fun (td:OA) (yd:Nat) (xd:Nat) (r2:Bool) (H':zq)=>K (.tuple #[.slice td yd xd,.bool r2]) H'
 | _=>fun _=>False
def S_fhz:FSpec:={F:=F_fhz,quiet:=false,tame:=true}
theorem z1g2 (s:Nat) (wi:OA) (se fj:Nat) (gj:OA) (df vj:Nat) (H:zq) (K:KT):z1a Tryz.prog z3o Tryz.f167 [.pointer (some ⟨s,0,none⟩),.slice wi se fj,.slice gj df vj] H K=
 (Al [] H fun b1 H1=>∃o1 w1:List Value,ownB H1 (some ⟨b1,0,none⟩) 0 1 1=some o1∧rdS H1 wi (se*1)=some w1∧((some ⟨b1,0,none⟩:OA)=none→0<(se:Nat))∧(0:Nat)+se<most∧Ap H1 (z2y H1 (some ⟨b1,0,none⟩)++[some ⟨o1++w1,true⟩]) fun b2 H2=>Al [] H2 fun b3 H3=>∃o2 w2:List Value,ownB H3 (some ⟨b3,0,none⟩) 0 1 1=some o2∧rdS H3 gj (df*1)=some w2∧((some ⟨b3,0,none⟩:OA)=none→0<(df:Nat))∧(0:Nat)+df<most∧Ap H3 (z2y H3 (some ⟨b3,0,none⟩)++[some ⟨o2++w2,true⟩]) fun b4 H4=>Br (decide ((0:Int)<(0+df:Int))) (z1j (exL Tryz.prog z3o (cl (cl (cr (cl (cl (cr (cl (cr (cr (cr (zr Tryz.f167))))))))))) 1793 192 [(0,769)]) (.pointer (some ⟨s,0,none⟩)::ud7 (.slice (some ⟨b2,0,none⟩) (0+se) 1::.slice (some ⟨b4,0,none⟩) (0+df) 1::.int .i64 0::ud100 [])) H4 (zx 0 (seqQ (exL Tryz.prog z3o (cr (cl (cr (cl (cr (cr (cr (zr Tryz.f167)))))))) 768 192 []) (seqQ (exL Tryz.prog z3o (cr (cr (cr (cr (zr Tryz.f167))))) 192 192 []) (retK Tryz.prog Tryz.f167 K))))) (Al [] H4 fun b17 H14=>z1j (exL Tryz.prog z3o (cl (cl (cr (cl (cr (cr (cr (cr (cr (zr Tryz.f167)))))))))) 25344 192 [(6,8192)]) (ud8 (.slice (some ⟨b2,0,none⟩) (0+se) 1::.slice (some ⟨b4,0,none⟩) (0+df) 1::ud3 (.slice (some ⟨b17,0,none⟩) 0 1::.int .i64 0::ud96 []))) H14 (zx 6 (seqQ (exL Tryz.prog z3o (cr (cr (cr (cr (cr (cr (zr Tryz.f167))))))) 192 192 []) (retK Tryz.prog Tryz.f167 K))))):=by kernel_rfl
abbrev zj9 (b2 b4 se df s:Nat) (i:Int)  :List Value:=(.pointer (some ⟨s,0,none⟩)::ud7 (.slice (some ⟨b2,0,none⟩) (0+se) 1::.slice (some ⟨b4,0,none⟩) (0+df) 1::.int .i64 i::ud100 []))
theorem z1fz (b2 b4 se df s:Nat) (i:Int)  (H:zq) (R:Post):exL Tryz.prog z3o (cl (cl (cr (cl (cl (cr (cl (cr (cr (cr (zr Tryz.f167))))))))))) 1793 192 [(0,769)] (zj9 b2 b4 se df s i) H R=
 (Br (decide ((i:Int)<(0+se:Int))) ((0:Int)≤i∧i<(0+se:Int)∧∃b5 f1,(some ⟨b2,0,none⟩:OA)=some ⟨b5,f1,none⟩∧∃x1:Nat,  rdC H b5 (f1+(i:Int).toNat*1)=some (.float .f32 x1)∧∃x2:Nat,  rdC H s 1=some (.float .f32 x2)∧(0:Int)≤i∧i<(0+se:Int)∧∃b6 f2,(some ⟨b2,0,none⟩:OA)=some ⟨b6,f2,none⟩∧isOwn H b6∧(∃l,rdN H b6 (f2+(i:Int).toNat*1) 1=some l)∧Lt (setC H b6 (f2+(i:Int).toNat*1) (.float .f32 (fdiv .f32 x1 x2))) fun H5=>R .normal (.pointer (some ⟨s,0,none⟩)::ud7 (.slice (some ⟨b2,0,none⟩) (0+se) 1::.slice (some ⟨b4,0,none⟩) (0+df) 1::.int .i64 (IntKind.wrap .i64 (i+1))::ud100 [])) H5) (R (.exit 0) (.pointer (some ⟨s,0,none⟩)::ud7 (.slice (some ⟨b2,0,none⟩) (0+se) 1::.slice (some ⟨b4,0,none⟩) (0+df) 1::ud101 [])) H)):=by kernel_rfl
def zvx (b2 b4 se df s:Nat) (Inv:Nat→Int→zq→Prop):Nat→List Value→zq→Prop:=fun μ tm H=>∃(i:Int),tm=(zj9 b2 b4 se df s i)∧Inv μ i H
theorem z1fs (b2 b4 se df s:Nat) {Q:Post} (Inv:Nat→Int→zq→Prop) (ν:Nat) (i:Int)  (H:zq) (h0:Inv ν i H)
  (hs:∀(μ:Nat) (i:Int)  (H:zq),Inv μ i H→exL Tryz.prog z3o (cl (cl (cr (cl (cl (cr (cl (cr (cr (cr (zr Tryz.f167))))))))))) 1793 192 [(0,769)] (zj9 b2 b4 se df s i) H (z1b (zvx b2 b4 se df s Inv) μ Q)):z1j (exL Tryz.prog z3o (cl (cl (cr (cl (cl (cr (cl (cr (cr (cr (zr Tryz.f167))))))))))) 1793 192 [(0,769)]) (zj9 b2 b4 se df s i) H Q:=
 ⟨zvx b2 b4 se df s Inv,ν,⟨i,rfl,h0⟩,fun μ tm H h=>by obtain ⟨i,rfl,hI⟩:=h;exact hs μ i  H hI⟩
theorem z1fv {b2 b4 se df s:Nat} {Q:Post} {Inv:Nat→Int→zq→Prop} {μ:Nat} (μ':Nat) {i:Int}  {H:zq} (hm:μ'<μ) (hI:Inv μ' i H):z1b (zvx b2 b4 se df s Inv) μ Q .normal (zj9 b2 b4 se df s i) H:=⟨μ',hm,i,rfl,hI⟩
theorem z11f (b2 b4 se df s:Nat) (H:zq) (K:KT)  {I:Nat→List Value→zq→Prop} {μ:Nat}:z1b I μ (zx 0 (seqQ (exL Tryz.prog z3o (cr (cl (cr (cl (cr (cr (cr (zr Tryz.f167)))))))) 768 192 []) (seqQ (exL Tryz.prog z3o (cr (cr (cr (cr (zr Tryz.f167))))) 192 192 []) (retK Tryz.prog Tryz.f167 K)))) (.exit 0) (.pointer (some ⟨s,0,none⟩)::ud7 (.slice (some ⟨b2,0,none⟩) (0+se) 1::.slice (some ⟨b4,0,none⟩) (0+df) 1::ud101 [])) H=
 (z1j (exL Tryz.prog z3o (cl (cl (cr (cl (cr (cl (cr (cl (cr (cr (cr (zr Tryz.f167)))))))))))) 2817 192 [(2,769)]) (.pointer (some ⟨s,0,none⟩)::ud7 (.slice (some ⟨b2,0,none⟩) (0+se) 1::.slice (some ⟨b4,0,none⟩) (0+df) 1::ud::.int .i64 0::ud99 [])) H (zx 2 (seqQ (exL Tryz.prog z3o (cr (cr (cl (cr (cl (cr (cr (cr (zr Tryz.f167))))))))) 768 192 []) (seqQ (exL Tryz.prog z3o (cr (cr (cr (cr (zr Tryz.f167))))) 192 192 []) (retK Tryz.prog Tryz.f167 K))))):=by kernel_rfl
abbrev zja (b2 b4 se df s:Nat) (nf:Int)  :List Value:=(.pointer (some ⟨s,0,none⟩)::ud7 (.slice (some ⟨b2,0,none⟩) (0+se) 1::.slice (some ⟨b4,0,none⟩) (0+df) 1::ud::.int .i64 nf::ud99 []))
theorem z1g0 (b2 b4 se df s:Nat) (nf:Int)  (H:zq) (R:Post):exL Tryz.prog z3o (cl (cl (cr (cl (cr (cl (cr (cl (cr (cr (cr (zr Tryz.f167)))))))))))) 2817 192 [(2,769)] (zja b2 b4 se df s nf) H R=
 (Br (decide ((nf:Int)<(0+df:Int))) ((0:Int)≤nf∧nf<(0+df:Int)∧∃b7 f3,(some ⟨b4,0,none⟩:OA)=some ⟨b7,f3,none⟩∧∃x3:Nat,  rdC H b7 (f3+(nf:Int).toNat*1)=some (.float .f32 x3)∧∃x4:Nat,  rdC H s 1=some (.float .f32 x4)∧(0:Int)≤nf∧nf<(0+df:Int)∧∃b8 f4,(some ⟨b4,0,none⟩:OA)=some ⟨b8,f4,none⟩∧isOwn H b8∧(∃l,rdN H b8 (f4+(nf:Int).toNat*1) 1=some l)∧Lt (setC H b8 (f4+(nf:Int).toNat*1) (.float .f32 (fmul .f32 x3 x4))) fun H6=>R .normal (.pointer (some ⟨s,0,none⟩)::ud7 (.slice (some ⟨b2,0,none⟩) (0+se) 1::.slice (some ⟨b4,0,none⟩) (0+df) 1::ud::.int .i64 (IntKind.wrap .i64 (nf+1))::ud99 [])) H6) (R (.exit 2) (.pointer (some ⟨s,0,none⟩)::ud7 (.slice (some ⟨b2,0,none⟩) (0+se) 1::.slice (some ⟨b4,0,none⟩) (0+df) 1::ud101 [])) H)):=by kernel_rfl
def zvy (b2 b4 se df s:Nat) (Inv:Nat→Int→zq→Prop):Nat→List Value→zq→Prop:=fun μ tm H=>∃(nf:Int),tm=(zja b2 b4 se df s nf)∧Inv μ nf H
theorem z1ft (b2 b4 se df s:Nat) {Q:Post} (Inv:Nat→Int→zq→Prop) (ν:Nat) (nf:Int)  (H:zq) (h0:Inv ν nf H)
  (hs:∀(μ:Nat) (nf:Int)  (H:zq),Inv μ nf H→exL Tryz.prog z3o (cl (cl (cr (cl (cr (cl (cr (cl (cr (cr (cr (zr Tryz.f167)))))))))))) 2817 192 [(2,769)] (zja b2 b4 se df s nf) H (z1b (zvy b2 b4 se df s Inv) μ Q)):z1j (exL Tryz.prog z3o (cl (cl (cr (cl (cr (cl (cr (cl (cr (cr (cr (zr Tryz.f167)))))))))))) 2817 192 [(2,769)]) (zja b2 b4 se df s nf) H Q:=
 ⟨zvy b2 b4 se df s Inv,ν,⟨nf,rfl,h0⟩,fun μ tm H h=>by obtain ⟨nf,rfl,hI⟩:=h;exact hs μ nf  H hI⟩
theorem z1fw {b2 b4 se df s:Nat} {Q:Post} {Inv:Nat→Int→zq→Prop} {μ:Nat} (μ':Nat) {nf:Int}  {H:zq} (hm:μ'<μ) (hI:Inv μ' nf H):z1b (zvy b2 b4 se df s Inv) μ Q .normal (zja b2 b4 se df s nf) H:=⟨μ',hm,nf,rfl,hI⟩
theorem z11g (b2 b4 se df s:Nat) (H:zq) (K:KT)  {I:Nat→List Value→zq→Prop} {μ:Nat}:z1b I μ (zx 2 (seqQ (exL Tryz.prog z3o (cr (cr (cl (cr (cl (cr (cr (cr (zr Tryz.f167))))))))) 768 192 []) (seqQ (exL Tryz.prog z3o (cr (cr (cr (cr (zr Tryz.f167))))) 192 192 []) (retK Tryz.prog Tryz.f167 K)))) (.exit 2) (.pointer (some ⟨s,0,none⟩)::ud7 (.slice (some ⟨b2,0,none⟩) (0+se) 1::.slice (some ⟨b4,0,none⟩) (0+df) 1::ud101 [])) H=
 (∃dj:OA,∃yi:Nat,∃sj:Nat,  rdC H s 0=some (.slice dj yi sj)∧z1j (exL Tryz.prog z3o (cl (cl (cr (cr (cr (cl (cr (cl (cr (cr (cr (zr Tryz.f167)))))))))))) 4865 192 [(4,768)]) (.pointer (some ⟨s,0,none⟩)::ud7 (.slice (some ⟨b2,0,none⟩) (0+se) 1::.slice (some ⟨b4,0,none⟩) (0+df) 1::ud2 (.int .i64 (IntKind.wrap .i64 ((yi:Int)-1))::ud98 []))) H (zx 4 (seqQ (exL Tryz.prog z3o (cr (cr (cr (cr (zr Tryz.f167))))) 192 192 []) (retK Tryz.prog Tryz.f167 K)))):=by kernel_rfl
abbrev zjb (b2 b4 se df s:Nat) (k:Int)  :List Value:=(.pointer (some ⟨s,0,none⟩)::ud7 (.slice (some ⟨b2,0,none⟩) (0+se) 1::.slice (some ⟨b4,0,none⟩) (0+df) 1::ud2 (.int .i64 k::ud98 [])))
theorem z1g1 (b2 b4 se df s:Nat) (k:Int)  (H:zq) (R:Post):exL Tryz.prog z3o (cl (cl (cr (cr (cr (cl (cr (cl (cr (cr (cr (zr Tryz.f167)))))))))))) 4865 192 [(4,768)] (zjb b2 b4 se df s k) H R=
 (Br (decide ((0:Int)≤k)) (∃ji:OA,∃ei:Nat,∃qi:Nat,  rdC H s 0=some (.slice ji ei qi)∧(0:Int)≤k∧k<(ei:Int)∧∃b9 f5,(ji:OA)=some ⟨b9,f5,none⟩∧∃x7:Nat,  rdC H b9 (f5+(k:Int).toNat*1)=some (.float .f32 x7)∧zio (some ⟨b2,0,none⟩) (0+se) 1 (some ⟨b4,0,none⟩) (0+df) 1 k (fneg .f32 x7) H fun  (H7:zq)=>R .normal (.pointer (some ⟨s,0,none⟩)::ud7 (.slice (some ⟨b2,0,none⟩) (0+se) 1::.slice (some ⟨b4,0,none⟩) (0+df) 1::ud2 (.int .i64 (IntKind.wrap .i64 (k-1))::ud98 []))) H7) (R (.exit 4) (ud8 (.slice (some ⟨b2,0,none⟩) (0+se) 1::.slice (some ⟨b4,0,none⟩) (0+df) 1::ud101 [])) H)):=by kernel_rfl
def zvz (b2 b4 se df s:Nat) (Inv:Nat→Int→zq→Prop):Nat→List Value→zq→Prop:=fun μ tm H=>∃(k:Int),tm=(zjb b2 b4 se df s k)∧Inv μ k H
theorem z1fu (b2 b4 se df s:Nat) {Q:Post} (Inv:Nat→Int→zq→Prop) (ν:Nat) (k:Int)  (H:zq) (h0:Inv ν k H)
  (hs:∀(μ:Nat) (k:Int)  (H:zq),Inv μ k H→exL Tryz.prog z3o (cl (cl (cr (cr (cr (cl (cr (cl (cr (cr (cr (zr Tryz.f167)))))))))))) 4865 192 [(4,768)] (zjb b2 b4 se df s k) H (z1b (zvz b2 b4 se df s Inv) μ Q)):z1j (exL Tryz.prog z3o (cl (cl (cr (cr (cr (cl (cr (cl (cr (cr (cr (zr Tryz.f167)))))))))))) 4865 192 [(4,768)]) (zjb b2 b4 se df s k) H Q:=
 ⟨zvz b2 b4 se df s Inv,ν,⟨k,rfl,h0⟩,fun μ tm H h=>by obtain ⟨k,rfl,hI⟩:=h;exact hs μ k  H hI⟩
theorem z1fx {b2 b4 se df s:Nat} {Q:Post} {Inv:Nat→Int→zq→Prop} {μ:Nat} (μ':Nat) {k:Int}  {H:zq} (hm:μ'<μ) (hI:Inv μ' k H):z1b (zvz b2 b4 se df s Inv) μ Q .normal (zjb b2 b4 se df s k) H:=⟨μ',hm,k,rfl,hI⟩
theorem z11h (b2 b4 se df:Nat) (H:zq) (K:KT)  {I:Nat→List Value→zq→Prop} {μ:Nat}:z1b I μ (zx 4 (seqQ (exL Tryz.prog z3o (cr (cr (cr (cr (zr Tryz.f167))))) 192 192 []) (retK Tryz.prog Tryz.f167 K))) (.exit 4) (ud8 (.slice (some ⟨b2,0,none⟩) (0+se) 1::.slice (some ⟨b4,0,none⟩) (0+df) 1::ud101 [])) H=
 (Al [] H fun b10 H8=>z1j (exL Tryz.prog z3o (cl (cl (cr (cl (cr (cr (cr (cr (cr (zr Tryz.f167)))))))))) 25344 192 [(6,8192)]) (ud8 (.slice (some ⟨b2,0,none⟩) (0+se) 1::.slice (some ⟨b4,0,none⟩) (0+df) 1::ud3 (.slice (some ⟨b10,0,none⟩) 0 1::.int .i64 0::ud96 []))) H8 (zx 6 (seqQ (exL Tryz.prog z3o (cr (cr (cr (cr (cr (cr (zr Tryz.f167))))))) 192 192 []) (retK Tryz.prog Tryz.f167 K)))):=by kernel_rfl
abbrev zjc (b2 b4 se df:Nat) (xf:OA) (mf ig:Nat) (wg:Int)  :List Value:=(ud8 (.slice (some ⟨b2,0,none⟩) (0+se) 1::.slice (some ⟨b4,0,none⟩) (0+df) 1::ud3 (.slice xf mf ig::.int .i64 wg::ud96 [])))
theorem z17k (b2 b4 se df:Nat) (xf:OA) (mf ig:Nat) (wg:Int)  (H:zq) (R:Post):exL Tryz.prog z3o (cl (cl (cr (cl (cr (cr (cr (cr (cr (zr Tryz.f167)))))))))) 25344 192 [(6,8192)] (zjc b2 b4 se df xf mf ig wg) H R=
 (Br (decide ((wg:Int)<(0+se:Int))) ((0:Int)≤wg∧wg<(0+se:Int)∧∃b11 f6,(some ⟨b2,0,none⟩:OA)=some ⟨b11,f6,none⟩∧∃x8:Nat,  rdC H b11 (f6+(wg:Int).toNat*1)=some (.float .f32 x8)∧Al [.float .f32 x8] H fun b12 H9=>∃o3 w3:List Value,ownB H9 xf mf ig 1=some o3∧rdS H9 (some ⟨b12,0,none⟩) (1*1)=some w3∧((xf:OA)=none→0<(1:Nat))∧(mf:Nat)+1<most∧Ap H9 (z2y H9 xf++[some ⟨o3++w3,true⟩]) fun b13 H10=>Br (decide ((wg:Int)<(0+df:Int))) ((0:Int)≤wg∧wg<(0+df:Int)∧∃b14 f7,(some ⟨b4,0,none⟩:OA)=some ⟨b14,f7,none⟩∧∃x9:Nat,  rdC H10 b14 (f7+(wg:Int).toNat*1)=some (.float .f32 x9)∧Al [.float .f32 x9] H10 fun b15 H11=>∃o4 w4:List Value,ownB H11 (some ⟨b13,0,none⟩) (mf+1) 1 1=some o4∧rdS H11 (some ⟨b15,0,none⟩) (1*1)=some w4∧((some ⟨b13,0,none⟩:OA)=none→0<(1:Nat))∧(mf+1:Nat)+1<most∧Ap H11 (z2y H11 (some ⟨b13,0,none⟩)++[some ⟨o4++w4,true⟩]) fun b16 H12=>R .normal (ud8 (.slice (some ⟨b2,0,none⟩) (0+se) 1::.slice (some ⟨b4,0,none⟩) (0+df) 1::ud3 (.slice (some ⟨b16,0,none⟩) ((mf+1)+1) 1::.int .i64 (IntKind.wrap .i64 (wg+1))::ud96 []))) H12) (R .normal (ud8 (.slice (some ⟨b2,0,none⟩) (0+se) 1::.slice (some ⟨b4,0,none⟩) (0+df) 1::ud3 (.slice (some ⟨b13,0,none⟩) (mf+1) 1::.int .i64 (IntKind.wrap .i64 (wg+1))::ud96 []))) H10)) (R (.exit 6) (ud13 (.slice xf mf ig::ud97 [])) H)):=by kernel_rfl
def zw0 (b2 b4 se df:Nat) (Inv:Nat→OA→Nat→Nat→Int→zq→Prop):Nat→List Value→zq→Prop:=fun μ tm H=>∃(xf:OA),∃(mf ig:Nat),∃(wg:Int),tm=(zjc b2 b4 se df xf mf ig wg)∧Inv μ xf mf ig wg H
theorem z17j (b2 b4 se df:Nat) {Q:Post} (Inv:Nat→OA→Nat→Nat→Int→zq→Prop) (ν:Nat) (xf:OA) (mf ig:Nat) (wg:Int)  (H:zq) (h0:Inv ν xf mf ig wg H)
  (hs:∀(μ:Nat) (xf:OA) (mf:Nat) (ig:Nat) (wg:Int)  (H:zq),Inv μ xf mf ig wg H→exL Tryz.prog z3o (cl (cl (cr (cl (cr (cr (cr (cr (cr (zr Tryz.f167)))))))))) 25344 192 [(6,8192)] (zjc b2 b4 se df xf mf ig wg) H (z1b (zw0 b2 b4 se df Inv) μ Q)):z1j (exL Tryz.prog z3o (cl (cl (cr (cl (cr (cr (cr (cr (cr (zr Tryz.f167)))))))))) 25344 192 [(6,8192)]) (zjc b2 b4 se df xf mf ig wg) H Q:=
 ⟨zw0 b2 b4 se df Inv,ν,⟨xf,mf,ig,wg,rfl,h0⟩,fun μ tm H h=>by obtain ⟨xf,mf,ig,wg,rfl,hI⟩:=h;exact hs μ xf mf ig wg  H hI⟩
theorem zo9 {b2 b4 se df:Nat} {Q:Post} {Inv:Nat→OA→Nat→Nat→Int→zq→Prop} {μ:Nat} (μ':Nat) {xf:OA} {mf ig:Nat} {wg:Int}  {H:zq} (hm:μ'<μ) (hI:Inv μ' xf mf ig wg H):z1b (zw0 b2 b4 se df Inv) μ Q .normal (zjc b2 b4 se df xf mf ig wg) H:=⟨μ',hm,xf,mf,ig,wg,rfl,hI⟩
theorem zoa (xf:OA) (mf ig:Nat) (H:zq) (K:KT)  {I:Nat→List Value→zq→Prop} {μ:Nat}:z1b I μ (zx 6 (seqQ (exL Tryz.prog z3o (cr (cr (cr (cr (cr (cr (zr Tryz.f167))))))) 192 192 []) (retK Tryz.prog Tryz.f167 K))) (.exit 6) (ud13 (.slice xf mf ig::ud97 [])) H=
 (znm xf mf ig H fun (a1:OA) (r1:Nat) (r2:Nat) (r3:Bool) (H13:zq)=>K (.tuple #[.slice a1 r1 r2,.bool r3]) H13):=by kernel_rfl
theorem zym:∀g,FnOk Tryz.prog g (z3o g):=FnOk.envOf (by
 intro x hx
 simp only [List.mem_cons,List.not_mem_nil,or_false] at hx
 rcases hx with rfl | rfl
 ·exact zux
 ·exact z1ax)
theorem ω18 {P:Prop} (h:P:=by first | assumption | omega | (simp only [List.length_set,z4b,z2s];first | rfl | assumption | omega)):P:=h
theorem ω28 {P:Prop} (h:P:=by rw [show μ2-1+1=μ2 from by first | omega];exact e):P:=h
theorem ω29 {P:Prop} (h:P:=by rw [show μ3-1+1=μ3 from by first | omega];exact e):P:=h
theorem ω30 {P:Prop} (h:P:=by rw [show μ4-1+1=μ4 from by first | omega];exact e):P:=h
theorem ω19 {P:Prop} (h:P:=by first | exact OwnS.nil _ _ _ _ | exact OwnT.nil _ _ _ | exact z4j.nil _ _ _ _):P:=h
theorem z11e (s:Nat) (wi:OA) (se fj:Nat) (gj:OA) (df vj:Nat) (H:zq) (K:KT) (h:zzx s wi se fj gj df vj H fun (td:OA) (yd:Nat) (xd:Nat) (r2:Bool) (H':zq)=>K (.tuple #[.slice td yd xd,.bool r2]) H'):z1a Tryz.prog z3o Tryz.f167 [.pointer (some ⟨s,0,none⟩),.slice wi se fj,.slice gj df vj] H K:=by
 rw [z1g2]
 obtain ⟨bb,jb,nb,fa,aa,de,qf,i_s,ec,i_even,i_odd,bd_351,bd_352,bd_353,pr0,pr1,pr2,hk⟩:=h
 obtain rfl:=ec.eqn
 obtain rfl:=i_even.eqn
 obtain rfl:=i_odd.eqn
 have e:(z6h aa fa de qf)=_:=rfl
 have e:=e.trans (zov aa fa de qf)
 have g0:=Grow.refl H
 refine Al.intro (fun b_1 H_1 hb_2 hl_3 g_4 o_5=>?_)
 have o_5:Own H_1 b_1 ((([]:LN)).map fF):=o_5
 have l_7:=g_4.1
 have g_8:=g0.trans g_4
 have l_9:=g_8.1
 have w350:=o_5.lt
 refine ⟨_,_,o_5.ownB ω3 rfl,(z2q (i_even.grow g_8)),(fun h=>by cases h),ω25,?_⟩
 refine Ap.app o_5 rfl rfl (fun b_14 H_2 q348 hl_10 o_11 k_12=>?_)
 have o_11:=z2b o_11
 have l_15:=k_12.1
 have g16:=g_8.keep (b:=b_1) ω2 k_12
 have l_17:=g16.1
 have w349:=o_11.lt
 refine Al.intro (fun b18 H_3 hb_19 hl_20 g21 o22=>?_)
 have o22:Own H_3 b18 ((([]:LN)).map fF):=o22
 have l24:=g21.1
 have g_25:=g16.trans g21
 have l26:=g_25.1
 have o27:=o_11.grow g21
 have w28:=o27.lt
 have w347:=o22.lt
 refine ⟨_,_,o22.ownB ω3 rfl,(z2q (i_odd.grow g_25)),(fun h=>by cases h),ω25,?_⟩
 refine Ap.app o22 rfl rfl (fun b33 H_4 q345 hl_29 o30 k31=>?_)
 have o30:=z2b o30
 have l34:=k31.1
 have g35:=g_25.keep (b:=b18) ω2 k31
 have l36:=g35.1
 have o37:=o27.keep ω2 k31
 have w38:=o37.lt
 have w346:=o30.lt
 refine Br.intro (fun c_39=>?_) (fun c_39=>?_)
 ·have e:=e.trans (zw c_39)
  have c_39':=of_decide_eq_true c_39
  refine z1fs _ _ _ _ _ (fun (μ:Nat) (i:Int) (H_5:zq)=>∃(y1_1 y1_2:LN),Own H_5 b_14 (y1_1.map fF)∧y1_1.length=(0+(de).length)∧Own H_5 b33 (y1_2.map fF)∧y1_2.length=(0+(qf).length)∧(b33≠b_14)∧Grow H H_5∧(0:Int)≤i∧i≤(0+de.length:Int)∧(0+de.length:Int)-i≤(μ:Int)∧z6h aa fa de qf=z7w aa fa de qf (μ+1) i y1_1 y1_2) (Int.toNat ((0+de.length:Int)-(0:Int))) _ H_4 ?_ ?_
  ·exact ⟨_,_,o37,ω15,o30,ω15,ω2,g35,ω7,ω7,ω2,e⟩
  ·intro μ i  H_5 hI
   obtain ⟨y1_1,y1_2,o40,y41,o42,y43,n44,g45,v_46,v_47,hμ,e⟩:=hI
   rw [z1fz]
   have e:=e.trans (z9p aa fa de qf μ i y1_1 y1_2)
   have w48:=o40.lt
   have w49:=o42.lt
   have l50:=g45.1
   refine Br.intro (fun c_51=>?_) (fun c_51=>?_)
   ·have e:=e.trans (zw c_51)
    have c_51':=of_decide_eq_true c_51
    refine ⟨by omega,ω2,_,_,rfl,?_⟩
    refine ⟨((y1_1).getD (i:Int).toNat 0),o40.rd ω0 _,?_⟩
    refine ⟨fa,(z1h (zt g45 i_s) 1 (Nat.le_of_ble_eq_true rfl)).trans rfl,?_⟩
    refine ⟨by omega,ω2,_,_,rfl,?_⟩
    refine Lt.set o40 ω10 (fun H_6 hl_52 o54 k53=>?_)
    have o54:=map_set o54
    have l55:=k53.1
    have g56:=g45.keep (b:=b_14) ω2 k53
    have l57:=g56.1
    have o58:=o42.keep ω2 k53
    have w59:=o58.lt
    have w60:=o54.lt
    rw [show IntKind.wrap .i64 (i+1)=(i+1) from zu ω2 ω2]
    refine z1fv (μ-1) ω17 ⟨_,_,o54,ω18,o58,ω18,ω2,g56,ω1,ω1,ω17,ω13⟩
   ·have e:=e.trans (zv c_51)
    have c_51':=of_decide_eq_false c_51
    rw [z11f]
    refine z1ft _ _ _ _ _ (fun (μ2:Nat) (nf:Int) (H_7:zq)=>∃(y2_1 y2_2:LN),Own H_7 b_14 (y2_1.map fF)∧y2_1.length=(0+(de).length)∧Own H_7 b33 (y2_2.map fF)∧y2_2.length=(0+(qf).length)∧(b33≠b_14)∧Grow H H_7∧(0:Int)≤nf∧nf≤(0+qf.length:Int)∧(0+qf.length:Int)-nf≤(μ2:Int)∧z6h aa fa de qf=zbe aa fa de qf i y1_1 y1_2 (fun (nf:Int) (y2_1:LN) (y2_2:LN)=>(z7x aa fa de qf i y1_1 y1_2 nf y2_1 y2_2 (fun (k:Int) (y3_1:LN) (y3_2:LN)=>(z4r aa fa de qf i y1_1 y1_2 nf y2_1 y2_2 k y3_1 y3_2 (fun (zf:LN) (wg:Int)=>(bif (z5g zf).2 then (zf,true) else ([],false))) (Int.toNat ((0+de.length:Int)-(0:Int))+1) ([]:LN) (0:Int))) (Int.toNat (((((aa.length:Int)-1)))-0+1)+1) ((((aa.length:Int)-1))) y2_1 y2_2)) (μ2+1) nf y2_1 y2_2) (Int.toNat ((0+qf.length:Int)-(0:Int))) _ H_5 ?_ ?_
    ·exact ⟨_,_,o40,ω15,o42,ω15,ω2,g45,ω7,ω7,ω2,e⟩
    ·intro μ2 nf  H_7 hI
     obtain ⟨y2_1,y2_2,o61,y62,o63,y64,n65,g66,v_67,v_68,hμ,e⟩:=hI
     rw [z1g0]
     have e:=e.trans (zg5 aa fa de qf i y1_1 y1_2 (fun (nf:Int) (y2_1:LN) (y2_2:LN)=>(z7x aa fa de qf i y1_1 y1_2 nf y2_1 y2_2 (fun (k:Int) (y3_1:LN) (y3_2:LN)=>(z4r aa fa de qf i y1_1 y1_2 nf y2_1 y2_2 k y3_1 y3_2 (fun (zf:LN) (wg:Int)=>(bif (z5g zf).2 then (zf,true) else ([],false))) (Int.toNat ((0+de.length:Int)-(0:Int))+1) ([]:LN) (0:Int))) (Int.toNat (((((aa.length:Int)-1)))-0+1)+1) ((((aa.length:Int)-1))) y2_1 y2_2)) μ2 nf y2_1 y2_2)
     have w69:=o61.lt
     have w70:=o63.lt
     have l71:=g66.1
     refine Br.intro (fun c72=>?_) (fun c72=>?_)
     ·have e:=e.trans (zw c72)
      have c_72':=of_decide_eq_true c72
      refine ⟨by omega,ω2,_,_,rfl,?_⟩
      refine ⟨((y2_2).getD (nf:Int).toNat 0),o63.rd ω0 _,?_⟩
      refine ⟨fa,(z1h (zt g66 i_s) 1 (Nat.le_of_ble_eq_true rfl)).trans rfl,?_⟩
      refine ⟨by omega,ω2,_,_,rfl,?_⟩
      refine Lt.set o63 ω10 (fun H_8 hl_73 o75 k74=>?_)
      have o75:=map_set o75
      have l76:=k74.1
      have g77:=g66.keep (b:=b33) ω2 k74
      have l78:=g77.1
      have o79:=o61.keep ω2 k74
      have w80:=o79.lt
      have w81:=o75.lt
      rw [show IntKind.wrap .i64 (nf+1)=(nf+1) from zu ω2 ω2]
      refine z1fw (μ2-1) ω17 ⟨_,_,o79,ω18,o75,ω18,ω2,g77,ω1,ω1,ω17,ω28⟩
     ·have e:=e.trans (zv c72)
      have c_72':=of_decide_eq_false c72
      rw [z11g]
      refine ⟨bb,aa.length,nb,(z1h (zt g66 i_s) 0 (Nat.le_of_ble_eq_true rfl)).trans rfl,?_⟩
      rw [show IntKind.wrap .i64 ((aa.length:Int)-1)=((aa.length:Int)-1) from zu ω2 ω2]
      refine z1fu _ _ _ _ _ (fun (μ3:Nat) (k:Int) (H_9:zq)=>∃(y3_1 y3_2:LN),Own H_9 b_14 (y3_1.map fF)∧y3_1.length=(0+(de).length)∧Own H_9 b33 (y3_2.map fF)∧y3_2.length=(0+(qf).length)∧(b33≠b_14)∧Grow H H_9∧k≤(((aa.length:Int)-1))∧k-0+1≤(μ3:Int)∧z6h aa fa de qf=z7x aa fa de qf i y1_1 y1_2 nf y2_1 y2_2 (fun (k:Int) (y3_1:LN) (y3_2:LN)=>(z4r aa fa de qf i y1_1 y1_2 nf y2_1 y2_2 k y3_1 y3_2 (fun (zf:LN) (wg:Int)=>(bif (z5g zf).2 then (zf,true) else ([],false))) (Int.toNat ((0+de.length:Int)-(0:Int))+1) ([]:LN) (0:Int))) (μ3+1) k y3_1 y3_2) (Int.toNat (((((aa.length:Int)-1)))-0+1)) _ H_7 ?_ ?_
      ·exact ⟨_,_,o61,ω15,o63,ω15,ω2,g66,ω7,ω2,e⟩
      ·intro μ3 k  H_9 hI
       obtain ⟨y3_1,y3_2,o82,y83,o84,y85,n86,g87,v88,hμ,e⟩:=hI
       rw [z1g1]
       have e:=e.trans (zg6 aa fa de qf i y1_1 y1_2 nf y2_1 y2_2 (fun (k:Int) (y3_1:LN) (y3_2:LN)=>(z4r aa fa de qf i y1_1 y1_2 nf y2_1 y2_2 k y3_1 y3_2 (fun (zf:LN) (wg:Int)=>(bif (z5g zf).2 then (zf,true) else ([],false))) (Int.toNat ((0+de.length:Int)-(0:Int))+1) ([]:LN) (0:Int))) μ3 k y3_1 y3_2)
       have w89:=o82.lt
       have w90:=o84.lt
       have l91:=g87.1
       refine Br.intro (fun c92=>?_) (fun c92=>?_)
       ·have e:=e.trans (zw c92)
        have c_92':=of_decide_eq_true c92
        refine ⟨bb,aa.length,nb,(z1h (zt g87 i_s) 0 (Nat.le_of_ble_eq_true rfl)).trans rfl,?_⟩
        obtain ⟨b93,f_94,q95⟩:=((ec.grow g87)).pos ω0
        refine ⟨by omega,by omega,b93,f_94,q95,?_⟩
        refine ⟨((aa).getD (k:Int).toNat 0),(ec).rd g87 q95 ω2 _,?_⟩
        refine znj ⟨_,_,_,_,(o82.ownS ω8 (Nat.le_refl _)),(o84.ownS ω8 (Nat.le_refl _)),(fun x y hx hy=>by cases hx;cases hy;intro hh;dsimp only at hh;omega),ω0,ω0,ω16,ω16,(fun H_11 k96 o97 o98=>?_)⟩
        obtain ⟨H_10,k99,k100⟩:=k96.split
        have k101:=k99.keep1
        have l102:=k101.1
        have g103:=g87.keep (b:=b_14) ω2 k101
        have l104:=g103.1
        have o105:=o84.keep ω2 k101
        have w106:=o105.lt
        have k107:=k100.keep1
        have l108:=k107.1
        have g109:=g103.keep (b:=b33) ω2 k107
        have l110:=g109.1
        have o111:=o97.own1
        have w112:=o111.lt
        have o113:=o98.own1
        have w114:=o113.lt
        rw [show IntKind.wrap .i64 (k-1)=(k-1) from zu ω2 ω2]
        refine z1fx (μ3-1) ω17 ⟨_,_,o111,ω18,o113,ω18,ω2,g109,ω1,ω17,ω29⟩
       ·have e:=e.trans (zv c92)
        have c_92':=of_decide_eq_false c92
        rw [z11h]
        refine Al.intro (fun b115 H_12 hb_116 hl_117 g118 o119=>?_)
        have o119:Own H_12 b115 ((([]:LN)).map fF):=o119
        have l121:=g118.1
        have g122:=g87.trans g118
        have l123:=g122.1
        have o124:=o82.grow g118
        have w125:=o124.lt
        have o126:=o84.grow g118
        have w127:=o126.lt
        have w229:=o119.lt
        refine z17j _ _ _ _ (fun (μ4:Nat) (xf:OA) (mf:Nat) (ig:Nat) (wg:Int) (H_13:zq)=>∃(zf:LN),∃(b128:Nat),xf=some ⟨b128,0,none⟩∧mf=zf.length∧ig=1∧Own H_13 b128 (zf.map fF)∧Own H_13 b_14 ((y3_1).map fF)∧Own H_13 b33 ((y3_2).map fF)∧(b33≠b_14)∧(b128≠b_14)∧(b128≠b33)∧Grow H H_13∧H.length≤b128∧(0:Int)≤wg∧wg≤(0+de.length:Int)∧(zf.length:Int)≤2*(wg)∧(0+de.length:Int)-wg≤(μ4:Int)∧z6h aa fa de qf=z4r aa fa de qf i y1_1 y1_2 nf y2_1 y2_2 k y3_1 y3_2 (fun (zf:LN) (wg:Int)=>(bif (z5g zf).2 then (zf,true) else ([],false))) (μ4+1) zf wg) (Int.toNat ((0+de.length:Int)-(0:Int))) _ _ _ _ H_12 ?_ ?_
        ·exact ⟨_,_,rfl,ω5,rfl,o119,o124,o126,ω2,ω2,ω2,g122,ω2,ω7,ω7,ω7,ω2,e⟩
        ·intro μ4 xf mf ig wg  H_13 hI
         obtain ⟨zf,b128,rfl,rfl,rfl,o129,o130,o131,n132,n133,n134,g135,l136,v137,v138,v139,hμ,e⟩:=hI
         rw [z17k]
         have e:=e.trans (zg7 aa fa de qf i y1_1 y1_2 nf y2_1 y2_2 k y3_1 y3_2 (fun (zf:LN) (wg:Int)=>(bif (z5g zf).2 then (zf,true) else ([],false))) μ4 zf wg)
         have w140:=o130.lt
         have w141:=o131.lt
         have w142:=o129.lt
         have l143:=g135.1
         refine Br.intro (fun c144=>?_) (fun c144=>?_)
         ·have e:=e.trans (zw c144)
          have c_144':=of_decide_eq_true c144
          refine ⟨by omega,ω2,_,_,rfl,?_⟩
          refine ⟨((y3_1).getD (wg:Int).toNat 0),o130.rd ω0 _,?_⟩
          refine Al.intro (fun b145 H_14 hb_146 hl_147 g148 o149=>?_)
          have o149:Own H_14 b145 (([(((y3_1).getD (wg:Int).toNat 0))]).map fF):=o149
          have l151:=g148.1
          have g152:=g135.trans g148
          have l153:=g152.1
          have o154:=o130.grow g148
          have w155:=o154.lt
          have o156:=o131.grow g148
          have w157:=o156.lt
          have o158:=o129.grow g148
          have w159:=o158.lt
          have w213:=o149.lt
          refine ⟨_,_,o158.ownB ω3 rfl,(z2q (o149.isL ω5)),(fun h=>by cases h),ω25,?_⟩
          refine Ap.app o158 rfl rfl (fun b164 H_15 q211 hl_160 o161 k162=>?_)
          have o161:=z2b o161
          have l165:=k162.1
          have g166:=g152.keep (b:=b128) ω2 k162
          have l167:=g166.1
          have o168:=o154.keep ω2 k162
          have w169:=o168.lt
          have o170:=o156.keep ω2 k162
          have w171:=o170.lt
          have o172:=o149.keep ω2 k162
          have w173:=o172.lt
          have w212:=o161.lt
          refine Br.intro (fun c174=>?_) (fun c174=>?_)
          ·have e:=e.trans (zw c174)
           have c_174':=of_decide_eq_true c174
           refine ⟨by omega,ω2,_,_,rfl,?_⟩
           refine ⟨((y3_2).getD (wg:Int).toNat 0),o170.rd ω0 _,?_⟩
           refine Al.intro (fun b175 H_16 hb_176 hl_177 g178 o179=>?_)
           have o179:Own H_16 b175 (([(((y3_2).getD (wg:Int).toNat 0))]).map fF):=o179
           have l181:=g178.1
           have g182:=g166.trans g178
           have l183:=g182.1
           have o184:=o168.grow g178
           have w185:=o184.lt
           have o186:=o170.grow g178
           have w187:=o186.lt
           have o188:=o172.grow g178
           have w189:=o188.lt
           have o190:=o161.grow g178
           have w191:=o190.lt
           have w210:=o179.lt
           refine ⟨_,_,o190.ownB ω3 rfl,(z2q (o179.isL ω5)),(fun h=>by cases h),ω25,?_⟩
           refine Ap.app o190 rfl rfl (fun b196 H_17 q208 hl_192 o193 k194=>?_)
           have o193:=z2b o193
           have l197:=k194.1
           have g198:=g182.keep (b:=b164) ω2 k194
           have l199:=g198.1
           have o200:=o184.keep ω2 k194
           have w201:=o200.lt
           have o202:=o186.keep ω2 k194
           have w203:=o202.lt
           have o204:=o188.keep ω2 k194
           have w205:=o204.lt
           have o206:=o179.keep ω2 k194
           have w207:=o206.lt
           have w209:=o193.lt
           rw [show IntKind.wrap .i64 (wg+1)=(wg+1) from zu ω2 ω2]
           refine zo9 (μ4-1) ω17 ⟨_,_,rfl,ω8,rfl,o193,o200,o202,ω2,ω2,ω2,g198,ω2,ω1,ω1,ω1,ω17,ω30⟩
          ·have e:=e.trans (zv c174)
           have c_174':=of_decide_eq_false c174
           rw [show IntKind.wrap .i64 (wg+1)=(wg+1) from zu ω2 ω2]
           refine zo9 (μ4-1) ω17 ⟨_,_,rfl,ω8,rfl,o161,o168,o170,ω2,ω2,ω2,g166,ω2,ω1,ω1,ω1,ω17,ω30⟩
         ·have e:=e.trans (zv c144)
          have c_144':=of_decide_eq_false c144
          rw [zoa]
          refine znn ⟨_,(o129.isL ω5),ω0,(fun H_18 g218=>?_)⟩
          have l220:=g218.1
          have g221:=g135.trans g218
          have l222:=g221.1
          have o223:=o130.grow g218
          have w224:=o223.lt
          have o225:=o131.grow g218
          have w226:=o225.lt
          have o227:=o129.grow g218
          have w228:=o227.lt
          refine Br.intro (fun c219=>?_) (fun c219=>?_)
          ·have e:=e.trans (zw c219)
           rw [e] at hk
           exact hk _ _ _ H_18 g221 (o227.ownS ω5 ω2)
          ·have e:=e.trans (zv c219)
           rw [e] at hk
           exact hk _ _ _ H_18 g221 ω19
 ·have e:=e.trans (zv c_39)
  have c_39':=of_decide_eq_false c_39
  refine Al.intro (fun b230 H_19 hb_231 hl_232 g233 o234=>?_)
  have o234:Own H_19 b230 ((([]:LN)).map fF):=o234
  have l236:=g233.1
  have g237:=g35.trans g233
  have l238:=g237.1
  have o239:=o37.grow g233
  have w240:=o239.lt
  have o241:=o30.grow g233
  have w242:=o241.lt
  have w344:=o234.lt
  refine z17j _ _ _ _ (fun (μ:Nat) (xf:OA) (mf:Nat) (ig:Nat) (wg:Int) (H_20:zq)=>∃(zf:LN),∃(b243:Nat),xf=some ⟨b243,0,none⟩∧mf=zf.length∧ig=1∧Own H_20 b243 (zf.map fF)∧Own H_20 b_14 (((([]:LN)++de)).map fF)∧Own H_20 b33 (((([]:LN)++qf)).map fF)∧(b33≠b_14)∧(b243≠b_14)∧(b243≠b33)∧Grow H H_20∧H.length≤b243∧(0:Int)≤wg∧wg≤(0+de.length:Int)∧(zf.length:Int)≤2*(wg)∧(0+de.length:Int)-wg≤(μ:Int)∧z6h aa fa de qf=z7k aa fa de qf (μ+1) zf wg) (Int.toNat ((0+de.length:Int)-(0:Int))) _ _ _ _ H_19 ?_ ?_
  ·exact ⟨_,_,rfl,ω5,rfl,o234,o239,o241,ω2,ω2,ω2,g237,ω2,ω7,ω7,ω7,ω2,e⟩
  ·intro μ xf mf ig wg  H_20 hI
   obtain ⟨zf,b243,rfl,rfl,rfl,o244,o245,o246,n247,n248,n249,g250,l251,v252,v253,v254,hμ,e⟩:=hI
   rw [z17k]
   have e:=e.trans (zed aa fa de qf μ zf wg)
   have w255:=o245.lt
   have w256:=o246.lt
   have w257:=o244.lt
   have l258:=g250.1
   refine Br.intro (fun c259=>?_) (fun c259=>?_)
   ·have e:=e.trans (zw c259)
    have c_259':=of_decide_eq_true c259
    refine ⟨by omega,ω2,_,_,rfl,?_⟩
    refine ⟨(((([]:LN)++de)).getD (wg:Int).toNat 0),o245.rd ω0 _,?_⟩
    refine Al.intro (fun b260 H_21 hb_261 hl_262 g263 o264=>?_)
    have o264:Own H_21 b260 (([((((([]:LN)++de)).getD (wg:Int).toNat 0))]).map fF):=o264
    have l266:=g263.1
    have g267:=g250.trans g263
    have l268:=g267.1
    have o269:=o245.grow g263
    have w270:=o269.lt
    have o271:=o246.grow g263
    have w272:=o271.lt
    have o273:=o244.grow g263
    have w274:=o273.lt
    have w328:=o264.lt
    refine ⟨_,_,o273.ownB ω3 rfl,(z2q (o264.isL ω5)),(fun h=>by cases h),ω25,?_⟩
    refine Ap.app o273 rfl rfl (fun b279 H_22 q326 hl_275 o276 k277=>?_)
    have o276:=z2b o276
    have l280:=k277.1
    have g281:=g267.keep (b:=b243) ω2 k277
    have l282:=g281.1
    have o283:=o269.keep ω2 k277
    have w284:=o283.lt
    have o285:=o271.keep ω2 k277
    have w286:=o285.lt
    have o287:=o264.keep ω2 k277
    have w288:=o287.lt
    have w327:=o276.lt
    refine Br.intro (fun c289=>?_) (fun c289=>?_)
    ·have e:=e.trans (zw c289)
     have c_289':=of_decide_eq_true c289
     refine ⟨by omega,ω2,_,_,rfl,?_⟩
     refine ⟨(((([]:LN)++qf)).getD (wg:Int).toNat 0),o285.rd ω0 _,?_⟩
     refine Al.intro (fun b290 H_23 hb_291 hl_292 g293 o294=>?_)
     have o294:Own H_23 b290 (([((((([]:LN)++qf)).getD (wg:Int).toNat 0))]).map fF):=o294
     have l296:=g293.1
     have g297:=g281.trans g293
     have l298:=g297.1
     have o299:=o283.grow g293
     have w300:=o299.lt
     have o301:=o285.grow g293
     have w302:=o301.lt
     have o303:=o287.grow g293
     have w304:=o303.lt
     have o305:=o276.grow g293
     have w306:=o305.lt
     have w325:=o294.lt
     refine ⟨_,_,o305.ownB ω3 rfl,(z2q (o294.isL ω5)),(fun h=>by cases h),ω25,?_⟩
     refine Ap.app o305 rfl rfl (fun b311 H_24 q323 hl_307 o308 k309=>?_)
     have o308:=z2b o308
     have l312:=k309.1
     have g313:=g297.keep (b:=b279) ω2 k309
     have l314:=g313.1
     have o315:=o299.keep ω2 k309
     have w316:=o315.lt
     have o317:=o301.keep ω2 k309
     have w318:=o317.lt
     have o319:=o303.keep ω2 k309
     have w320:=o319.lt
     have o321:=o294.keep ω2 k309
     have w322:=o321.lt
     have w324:=o308.lt
     rw [show IntKind.wrap .i64 (wg+1)=(wg+1) from zu ω2 ω2]
     refine zo9 (μ-1) ω17 ⟨_,_,rfl,ω8,rfl,o308,o315,o317,ω2,ω2,ω2,g313,ω2,ω1,ω1,ω1,ω17,ω13⟩
    ·have e:=e.trans (zv c289)
     have c_289':=of_decide_eq_false c289
     rw [show IntKind.wrap .i64 (wg+1)=(wg+1) from zu ω2 ω2]
     refine zo9 (μ-1) ω17 ⟨_,_,rfl,ω8,rfl,o276,o283,o285,ω2,ω2,ω2,g281,ω2,ω1,ω1,ω1,ω17,ω13⟩
   ·have e:=e.trans (zv c259)
    have c_259':=of_decide_eq_false c259
    rw [zoa]
    refine znn ⟨_,(o244.isL ω5),ω0,(fun H_25 g333=>?_)⟩
    have l335:=g333.1
    have g336:=g250.trans g333
    have l337:=g336.1
    have o338:=o245.grow g333
    have w339:=o338.lt
    have o340:=o246.grow g333
    have w341:=o340.lt
    have o342:=o244.grow g333
    have w343:=o342.lt
    refine Br.intro (fun c334=>?_) (fun c334=>?_)
    ·have e:=e.trans (zw c334)
     rw [e] at hk
     exact hk _ _ _ H_25 g336 (o342.ownS ω5 ω2)
    ·have e:=e.trans (zv c334)
     rw [e] at hk
     exact hk _ _ _ H_25 g336 ω19
theorem z1fy:FnOk Tryz.prog 167 S_fhz:=FnOk.bodyF mix_ok zym Tryz.func167 rfl ω9 ω9 fun args H=>by
 unfold F_fhz
 split
 ·refine ⟨?_,?_,?_,?_,fun K hk=>z11e _ _ _ _ _ _ _ H K hk⟩
  ·intro K K' h hk;obtain ⟨bb,jb,nb,fa,aa,de,qf,i_s,ec,i_even,i_odd,bd_351,bd_352,bd_353,pr0,pr1,pr2,k⟩:=hk;exact ⟨bb,jb,nb,fa,aa,de,qf,i_s,ec,i_even,i_odd,bd_351,bd_352,bd_353,pr0,pr1,pr2,(fun td yd xd H' gg ow0=>h _ _ (k td yd xd H' gg ow0))⟩
  ·nofun
  ·intro K hk;obtain ⟨bb,jb,nb,fa,aa,de,qf,i_s,ec,i_even,i_odd,bd_351,bd_352,bd_353,pr0,pr1,pr2,k⟩:=hk;exact z4m fun a n e H1 g o=>⟨_,_,k a n e H1 g o⟩
  ·intro _ K hk;obtain ⟨bb,jb,nb,fa,aa,de,qf,i_s,ec,i_even,i_odd,bd_351,bd_352,bd_353,pr0,pr1,pr2,k⟩:=hk;exact ⟨bb,jb,nb,fa,aa,de,qf,i_s,ec,i_even,i_odd,bd_351,bd_352,bd_353,pr0,pr1,pr2,(fun td yd xd H' gg ow0=>⟨gg,k td yd xd H' gg ow0⟩)⟩
 ·exact Nice.no
end Go.Proofs.YthheoefadijhdaaGreat.Ai
