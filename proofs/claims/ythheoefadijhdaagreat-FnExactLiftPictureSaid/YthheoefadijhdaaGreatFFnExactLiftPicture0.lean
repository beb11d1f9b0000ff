/- What functions of the program come to on the abstract machine, and that they do so; printed by a program of mine around proofs of mine. -/
import Derived.Test.YthheoefadijhdaaGreatProg
import Derived.Test.YthheoefadijhdaaGreatFFnExactLiftPictureKt
import Derived.Test.YthheoefadijhdaaGreatFFnExactLiftPictureOl
import Derived.Test.YthheoefadijhdaaGreatFFnExactLiftPicturePi
import Derived.Test.YthheoefadijhdaaGreatFFnExactLiftPictureRa
import Derived.Test.YthheoefadijhdaaGreatFFnExactLiftPictureRd
set_option linter.unusedVariables false
set_option linter.unusedSimpArgs false
set_option linter.defProp false
set_option maxRecDepth 100000
set_option maxHeartbeats 1000000
namespace Go.Proofs.YthheoefadijhdaaGreat.Ai
open Go
attribute [local irreducible] z5v zv
theorem mix_ok:Tryz.prog.follows .mixedOrders=true:=by kernel_rfl
abbrev OA:=Option Addr
abbrev LN:=List Nat
abbrev KT:=Value→zp→Prop
abbrev ud2 (l:List Value):List Value:=ud::ud::l
abbrev ud3 (l:List Value):List Value:=ud::ud::ud::l
abbrev ud4 (l:List Value):List Value:=ud::ud::ud::ud::l
abbrev ud5 (l:List Value):List Value:=ud::ud::ud::ud::ud::l
abbrev ud6 (l:List Value):List Value:=ud::ud::ud::ud::ud::ud::l
abbrev ud7 (l:List Value):List Value:=ud::ud::ud::ud::ud::ud::ud::l
abbrev ud8 (l:List Value):List Value:=ud::ud::ud::ud::ud::ud::ud::ud::l
abbrev ud9 (l:List Value):List Value:=ud::ud::ud::ud::ud::ud::ud::ud::ud::l
abbrev ud10 (l:List Value):List Value:=ud::ud::ud::ud::ud::ud::ud::ud::ud::ud::l
abbrev ud11 (l:List Value):List Value:=ud::ud::ud::ud::ud::ud::ud::ud::ud::ud::ud::l
abbrev ud12 (l:List Value):List Value:=ud::ud::ud::ud::ud::ud::ud::ud::ud::ud::ud::ud::l
abbrev ud13 (l:List Value):List Value:=ud::ud::ud::ud::ud::ud::ud::ud::ud::ud::ud::ud::ud::l
abbrev ud14 (l:List Value):List Value:=ud::ud::ud::ud::ud::ud::ud::ud::ud::ud::ud::ud::ud::ud::l
abbrev ud16 (l:List Value):List Value:=ud::ud::ud::ud::ud::ud::ud::ud::ud::ud::ud::ud::ud::ud::ud::ud::l
abbrev ud17 (l:List Value):List Value:=ud::ud::ud::ud::ud::ud::ud::ud::ud::ud::ud::ud::ud::ud::ud::ud::ud::l
abbrev ud18 (l:List Value):List Value:=ud::ud::ud::ud::ud::ud::ud::ud::ud::ud::ud::ud::ud::ud::ud::ud::ud::ud::l
abbrev ud20 (l:List Value):List Value:=ud::ud::ud::ud::ud::ud::ud::ud::ud::ud::ud::ud::ud::ud::ud::ud::ud::ud::ud::ud::l
abbrev ud21 (l:List Value):List Value:=ud::ud::ud::ud::ud::ud::ud::ud::ud::ud::ud::ud::ud::ud::ud::ud::ud::ud::ud::ud::ud::l
abbrev ud22 (l:List Value):List Value:=ud::ud::ud::ud::ud::ud::ud::ud::ud::ud::ud::ud::ud::ud::ud::ud::ud::ud::ud::ud::ud::ud::l
abbrev ud23 (l:List Value):List Value:=ud::ud::ud::ud::ud::ud::ud::ud::ud::ud::ud::ud::ud::ud::ud::ud::ud::ud::ud::ud::ud::ud::ud::l
abbrev ud24 (l:List Value):List Value:=ud::ud::ud::ud::ud::ud::ud::ud::ud::ud::ud::ud::ud::ud::ud::ud::ud::ud::ud::ud::ud::ud::ud::ud::l
abbrev ud25 (l:List Value):List Value:=ud::ud::ud::ud::ud::ud::ud::ud::ud::ud::ud::ud::ud::ud::ud::ud::ud::ud::ud::ud::ud::ud::ud::ud::ud::l
abbrev ud26 (l:List Value):List Value:=ud::ud::ud::ud::ud::ud::ud::ud::ud::ud::ud::ud::ud::ud::ud::ud::ud::ud::ud::ud::ud::ud::ud::ud::ud::ud::l
abbrev ud28 (l:List Value):List Value:=ud::ud::ud::ud::ud::ud::ud::ud::ud::ud::ud::ud::ud::ud::ud::ud::ud::ud::ud::ud::ud::ud::ud::ud::ud::ud::ud::ud::l
abbrev ud29 (l:List Value):List Value:=ud::ud::ud::ud::ud::ud::ud::ud::ud::ud::ud::ud::ud::ud::ud::ud::ud::ud::ud::ud::ud::ud::ud::ud::ud::ud::ud::ud::ud::l
abbrev ud30 (l:List Value):List Value:=ud::ud::ud::ud::ud::ud::ud::ud::ud::ud::ud::ud::ud::ud::ud::ud::ud::ud::ud::ud::ud::ud::ud::ud::ud::ud::ud::ud::ud::ud::l
abbrev ud31 (l:List Value):List Value:=ud::ud::ud::ud::ud::ud::ud::ud::ud::ud::ud::ud::ud::ud::ud::ud::ud::ud::ud::ud::ud::ud::ud::ud::ud::ud::ud::ud::ud::ud::ud::l
abbrev ud32 (l:List Value):List Value:=ud::ud::ud::ud::ud::ud::ud::ud::ud::ud::ud::ud::ud::ud::ud::ud::ud::ud::ud::ud::ud::ud::ud::ud::ud::ud::ud::ud::ud::ud::ud::ud::l
abbrev ud35 (l:List Value):List Value:=ud::ud::ud::ud::ud::ud::ud::ud::ud::ud::ud::ud::ud::ud::ud::ud::ud::ud::ud::ud::ud::ud::ud::ud::ud::ud::ud::ud::ud::ud::ud::ud::ud::ud::ud::l
abbrev ud37 (l:List Value):List Value:=ud::ud::ud::ud::ud::ud::ud::ud::ud::ud::ud::ud::ud::ud::ud::ud::ud::ud::ud::ud::ud::ud::ud::ud::ud::ud::ud::ud::ud::ud::ud::ud::ud::ud::ud::ud::ud::l
abbrev ud38 (l:List Value):List Value:=ud::ud::ud::ud::ud::ud::ud::ud::ud::ud::ud::ud::ud::ud::ud::ud::ud::ud::ud::ud::ud::ud::ud::ud::ud::ud::ud::ud::ud::ud::ud::ud::ud::ud::ud::ud::ud::ud::l
abbrev ud39 (l:List Value):List Value:=ud::ud::ud::ud::ud::ud::ud::ud::ud::ud::ud::ud::ud::ud::ud::ud::ud::ud::ud::ud::ud::ud::ud::ud::ud::ud::ud::ud::ud::ud::ud::ud::ud::ud::ud::ud::ud::ud::ud::l
abbrev ud40 (l:List Value):List Value:=ud::ud::ud::ud::ud::ud::ud::ud::ud::ud::ud::ud::ud::ud::ud::ud::ud::ud::ud::ud::ud::ud::ud::ud::ud::ud::ud::ud::ud::ud::ud::ud::ud::ud::ud::ud::ud::ud::ud::ud::l
abbrev ud44 (l:List Value):List Value:=ud::ud::ud::ud::ud::ud::ud::ud::ud::ud::ud::ud::ud::ud::ud::ud::ud::ud::ud::ud::ud::ud::ud::ud::ud::ud::ud::ud::ud::ud::ud::ud::ud::ud::ud::ud::ud::ud::ud::ud::ud::ud::ud::ud::l
abbrev ud45 (l:List Value):List Value:=ud::ud::ud::ud::ud::ud::ud::ud::ud::ud::ud::ud::ud::ud::ud::ud::ud::ud::ud::ud::ud::ud::ud::ud::ud::ud::ud::ud::ud::ud::ud::ud::ud::ud::ud::ud::ud::ud::ud::ud::ud::ud::ud::ud::ud::l
abbrev ud47 (l:List Value):List Value:=ud::ud::ud::ud::ud::ud::ud::ud::ud::ud::ud::ud::ud::ud::ud::ud::ud::ud::ud::ud::ud::ud::ud::ud::ud::ud::ud::ud::ud::ud::ud::ud::ud::ud::ud::ud::ud::ud::ud::ud::ud::ud::ud::ud::ud::ud::ud::l
abbrev ud49 (l:List Value):List Value:=ud::ud::ud::ud::ud::ud::ud::ud::ud::ud::ud::ud::ud::ud::ud::ud::ud::ud::ud::ud::ud::ud::ud::ud::ud::ud::ud::ud::ud::ud::ud::ud::ud::ud::ud::ud::ud::ud::ud::ud::ud::ud::ud::ud::ud::ud::ud::ud::ud::l
abbrev ud50 (l:List Value):List Value:=ud::ud::ud::ud::ud::ud::ud::ud::ud::ud::ud::ud::ud::ud::ud::ud::ud::ud::ud::ud::ud::ud::ud::ud::ud::ud::ud::ud::ud::ud::ud::ud::ud::ud::ud::ud::ud::ud::ud::ud::ud::ud::ud::ud::ud::ud::ud::ud::ud::ud::l
abbrev ud51 (l:List Value):List Value:=ud::ud::ud::ud::ud::ud::ud::ud::ud::ud::ud::ud::ud::ud::ud::ud::ud::ud::ud::ud::ud::ud::ud::ud::ud::ud::ud::ud::ud::ud::ud::ud::ud::ud::ud::ud::ud::ud::ud::ud::ud::ud::ud::ud::ud::ud::ud::ud::ud::ud::ud::l
abbrev ud52 (l:List Value):List Value:=ud::ud::ud::ud::ud::ud::ud::ud::ud::ud::ud::ud::ud::ud::ud::ud::ud::ud::ud::ud::ud::ud::ud::ud::ud::ud::ud::ud::ud::ud::ud::ud::ud::ud::ud::ud::ud::ud::ud::ud::ud::ud::ud::ud::ud::ud::ud::ud::ud::ud::ud::ud::l
abbrev ud53 (l:List Value):List Value:=ud::ud::ud::ud::ud::ud::ud::ud::ud::ud::ud::ud::ud::ud::ud::ud::ud::ud::ud::ud::ud::ud::ud::ud::ud::ud::ud::ud::ud::ud::ud::ud::ud::ud::ud::ud::ud::ud::ud::ud::ud::ud::ud::ud::ud::ud::ud::ud::ud::ud::ud::ud::ud::l
abbrev ud54 (l:List Value):List Value:=ud::ud::ud::ud::ud::ud::ud::ud::ud::ud::ud::ud::ud::ud::ud::ud::ud::ud::ud::ud::ud::ud::ud::ud::ud::ud::ud::ud::ud::ud::ud::ud::ud::ud::ud::ud::ud::ud::ud::ud::ud::ud::ud::ud::ud::ud::ud::ud::ud::ud::ud::ud::ud::ud::l
abbrev ud55 (l:List Value):List Value:=ud::ud::ud::ud::ud::ud::ud::ud::ud::ud::ud::ud::ud::ud::ud::ud::ud::ud::ud::ud::ud::ud::ud::ud::ud::ud::ud::ud::ud::ud::ud::ud::ud::ud::ud::ud::ud::ud::ud::ud::ud::ud::ud::ud::ud::ud::ud::ud::ud::ud::ud::ud::ud::ud::ud::l
abbrev ud56 (l:List Value):List Value:=ud::ud::ud::ud::ud::ud::ud::ud::ud::ud::ud::ud::ud::ud::ud::ud::ud::ud::ud::ud::ud::ud::ud::ud::ud::ud::ud::ud::ud::ud::ud::ud::ud::ud::ud::ud::ud::ud::ud::ud::ud::ud::ud::ud::ud::ud::ud::ud::ud::ud::ud::ud::ud::ud::ud::ud::l
abbrev ud59 (l:List Value):List Value:=ud::ud::ud::ud::ud::ud::ud::ud::ud::ud::ud::ud::ud::ud::ud::ud::ud::ud::ud::ud::ud::ud::ud::ud::ud::ud::ud::ud::ud::ud::ud::ud::ud::ud::ud::ud::ud::ud::ud::ud::ud::ud::ud::ud::ud::ud::ud::ud::ud::ud::ud::ud::ud::ud::ud::ud::ud::ud::ud::l
abbrev ud60 (l:List Value):List Value:=ud::ud::ud::ud::ud::ud::ud::ud::ud::ud::ud::ud::ud::ud::ud::ud::ud::ud::ud::ud::ud::ud::ud::ud::ud::ud::ud::ud::ud::ud::ud::ud::ud::ud::ud::ud::ud::ud::ud::ud::ud::ud::ud::ud::ud::ud::ud::ud::ud::ud::ud::ud::ud::ud::ud::ud::ud::ud::ud::ud::l
abbrev ud61 (l:List Value):List Value:=ud::ud::ud::ud::ud::ud::ud::ud::ud::ud::ud::ud::ud::ud::ud::ud::ud::ud::ud::ud::ud::ud::ud::ud::ud::ud::ud::ud::ud::ud::ud::ud::ud::ud::ud::ud::ud::ud::ud::ud::ud::ud::ud::ud::ud::ud::ud::ud::ud::ud::ud::ud::ud::ud::ud::ud::ud::ud::ud::ud::ud::l
abbrev ud62 (l:List Value):List Value:=ud::ud::ud::ud::ud::ud::ud::ud::ud::ud::ud::ud::ud::ud::ud::ud::ud::ud::ud::ud::ud::ud::ud::ud::ud::ud::ud::ud::ud::ud::ud::ud::ud::ud::ud::ud::ud::ud::ud::ud::ud::ud::ud::ud::ud::ud::ud::ud::ud::ud::ud::ud::ud::ud::ud::ud::ud::ud::ud::ud::ud::ud::l
abbrev ud65 (l:List Value):List Value:=ud::ud::ud::ud::ud::ud::ud::ud::ud::ud::ud::ud::ud::ud::ud::ud::ud::ud::ud::ud::ud::ud::ud::ud::ud::ud::ud::ud::ud::ud::ud::ud::ud::ud::ud::ud::ud::ud::ud::ud::ud::ud::ud::ud::ud::ud::ud::ud::ud::ud::ud::ud::ud::ud::ud::ud::ud::ud::ud::ud::ud::ud::ud::ud::ud::l
abbrev ud67 (l:List Value):List Value:=ud::ud::ud::ud::ud::ud::ud::ud::ud::ud::ud::ud::ud::ud::ud::ud::ud::ud::ud::ud::ud::ud::ud::ud::ud::ud::ud::ud::ud::ud::ud::ud::ud::ud::ud::ud::ud::ud::ud::ud::ud::ud::ud::ud::ud::ud::ud::ud::ud::ud::ud::ud::ud::ud::ud::ud::ud::ud::ud::ud::ud::ud::ud::ud::ud::ud::ud::l
abbrev ud68 (l:List Value):List Value:=ud::ud::ud::ud::ud::ud::ud::ud::ud::ud::ud::ud::ud::ud::ud::ud::ud::ud::ud::ud::ud::ud::ud::ud::ud::ud::ud::ud::ud::ud::ud::ud::ud::ud::ud::ud::ud::ud::ud::ud::ud::ud::ud::ud::ud::ud::ud::ud::ud::ud::ud::ud::ud::ud::ud::ud::ud::ud::ud::ud::ud::ud::ud::ud::ud::ud::ud::ud::l
abbrev ud71 (l:List Value):List Value:=ud::ud::ud::ud::ud::ud::ud::ud::ud::ud::ud::ud::ud::ud::ud::ud::ud::ud::ud::ud::ud::ud::ud::ud::ud::ud::ud::ud::ud::ud::ud::ud::ud::ud::ud::ud::ud::ud::ud::ud::ud::ud::ud::ud::ud::ud::ud::ud::ud::ud::ud::ud::ud::ud::ud::ud::ud::ud::ud::ud::ud::ud::ud::ud::ud::ud::ud::ud::ud::ud::ud::l
abbrev ud94 (l:List Value):List Value:=ud::ud::ud::ud::ud::ud::ud::ud::ud::ud::ud::ud::ud::ud::ud::ud::ud::ud::ud::ud::ud::ud::ud::ud::ud::ud::ud::ud::ud::ud::ud::ud::ud::ud::ud::ud::ud::ud::ud::ud::ud::ud::ud::ud::ud::ud::ud::ud::ud::ud::ud::ud::ud::ud::ud::ud::ud::ud::ud::ud::ud::ud::ud::ud::ud::ud::ud::ud::ud::ud::ud::ud::ud::ud::ud::ud::ud::ud::ud::ud::ud::ud::ud::ud::ud::ud::ud::ud::ud::ud::ud::ud::ud::ud::l
abbrev ud95 (l:List Value):List Value:=ud::ud::ud::ud::ud::ud::ud::ud::ud::ud::ud::ud::ud::ud::ud::ud::ud::ud::ud::ud::ud::ud::ud::ud::ud::ud::ud::ud::ud::ud::ud::ud::ud::ud::ud::ud::ud::ud::ud::ud::ud::ud::ud::ud::ud::ud::ud::ud::ud::ud::ud::ud::ud::ud::ud::ud::ud::ud::ud::ud::ud::ud::ud::ud::ud::ud::ud::ud::ud::ud::ud::ud::ud::ud::ud::ud::ud::ud::ud::ud::ud::ud::ud::ud::ud::ud::ud::ud::ud::ud::ud::ud::ud::ud::ud::l
abbrev ud96 (l:List Value):List Value:=ud::ud::ud::ud::ud::ud::ud::ud::ud::ud::ud::ud::ud::ud::ud::ud::ud::ud::ud::ud::ud::ud::ud::ud::ud::ud::ud::ud::ud::ud::ud::ud::ud::ud::ud::ud::ud::ud::ud::ud::ud::ud::ud::ud::ud::ud::ud::ud::ud::ud::ud::ud::ud::ud::ud::ud::ud::ud::ud::ud::ud::ud::ud::ud::ud::ud::ud::ud::ud::ud::ud::ud::ud::ud::ud::ud::ud::ud::ud::ud::ud::ud::ud::ud::ud::ud::ud::ud::ud::ud::ud::ud::ud::ud::ud::ud::l
abbrev ud97 (l:List Value):List Value:=ud::ud::ud::ud::ud::ud::ud::ud::ud::ud::ud::ud::ud::ud::ud::ud::ud::ud::ud::ud::ud::ud::ud::ud::ud::ud::ud::ud::ud::ud::ud::ud::ud::ud::ud::ud::ud::ud::ud::ud::ud::ud::ud::ud::ud::ud::ud::ud::ud::ud::ud::ud::ud::ud::ud::ud::ud::ud::ud::ud::ud::ud::ud::ud::ud::ud::ud::ud::ud::ud::ud::ud::ud::ud::ud::ud::ud::ud::ud::ud::ud::ud::ud::ud::ud::ud::ud::ud::ud::ud::ud::ud::ud::ud::ud::ud::ud::l
abbrev ud98 (l:List Value):List Value:=ud::ud::ud::ud::ud::ud::ud::ud::ud::ud::ud::ud::ud::ud::ud::ud::ud::ud::ud::ud::ud::ud::ud::ud::ud::ud::ud::ud::ud::ud::ud::ud::ud::ud::ud::ud::ud::ud::ud::ud::ud::ud::ud::ud::ud::ud::ud::ud::ud::ud::ud::ud::ud::ud::ud::ud::ud::ud::ud::ud::ud::ud::ud::ud::ud::ud::ud::ud::ud::ud::ud::ud::ud::ud::ud::ud::ud::ud::ud::ud::ud::ud::ud::ud::ud::ud::ud::ud::ud::ud::ud::ud::ud::ud::ud::ud::ud::ud::l
abbrev ud99 (l:List Value):List Value:=ud::ud::ud::ud::ud::ud::ud::ud::ud::ud::ud::ud::ud::ud::ud::ud::ud::ud::ud::ud::ud::ud::ud::ud::ud::ud::ud::ud::ud::ud::ud::ud::ud::ud::ud::ud::ud::ud::ud::ud::ud::ud::ud::ud::ud::ud::ud::ud::ud::ud::ud::ud::ud::ud::ud::ud::ud::ud::ud::ud::ud::ud::ud::ud::ud::ud::ud::ud::ud::ud::ud::ud::ud::ud::ud::ud::ud::ud::ud::ud::ud::ud::ud::ud::ud::ud::ud::ud::ud::ud::ud::ud::ud::ud::ud::ud::ud::ud::ud::l
abbrev ud100 (l:List Value):List Value:=ud::ud::ud::ud::ud::ud::ud::ud::ud::ud::ud::ud::ud::ud::ud::ud::ud::ud::ud::ud::ud::ud::ud::ud::ud::ud::ud::ud::ud::ud::ud::ud::ud::ud::ud::ud::ud::ud::ud::ud::ud::ud::ud::ud::ud::ud::ud::ud::ud::ud::ud::ud::ud::ud::ud::ud::ud::ud::ud::ud::ud::ud::ud::ud::ud::ud::ud::ud::ud::ud::ud::ud::ud::ud::ud::ud::ud::ud::ud::ud::ud::ud::ud::ud::ud::ud::ud::ud::ud::ud::ud::ud::ud::ud::ud::ud::ud::ud::ud::ud::l
abbrev ud101 (l:List Value):List Value:=ud::ud::ud::ud::ud::ud::ud::ud::ud::ud::ud::ud::ud::ud::ud::ud::ud::ud::ud::ud::ud::ud::ud::ud::ud::ud::ud::ud::ud::ud::ud::ud::ud::ud::ud::ud::ud::ud::ud::ud::ud::ud::ud::ud::ud::ud::ud::ud::ud::ud::ud::ud::ud::ud::ud::ud::ud::ud::ud::ud::ud::ud::ud::ud::ud::ud::ud::ud::ud::ud::ud::ud::ud::ud::ud::ud::ud::ud::ud::ud::ud::ud::ud::ud::ud::ud::ud::ud::ud::ud::ud::ud::ud::ud::ud::ud::ud::ud::ud::ud::ud::l
set_option maxHeartbeats 1000000

def zck (l_a:LN) (left:Int):Int:=(bif decide ((IntKind.wrap .i64 (left-(l_a.length:Int)):Int)<0) then ((-1):Int) else IntKind.wrap .i64 (left-(l_a.length:Int)))
def zok:=@zck.eq_1
def zti (a_a:OA) (a_n a_e:Nat) (left:Int) (H:zp) (K:Int→zp→Prop):Prop:=∃(l_a:LN),IsL fF H a_a a_n l_a∧K (zck l_a left) H
theorem ztj {a_a:OA} {a_n a_e:Nat} {left:Int} {H:zp} {K:Int→zp→Prop} (h:∃(l_a:LN),IsL fF H a_a a_n l_a∧K (zck l_a left) H):zti a_a a_n a_e left H K:=h
theorem ω2 {P:Prop} (h:P:=by omega):P:=h
theorem foz_f (l:LN) (left:Int):0≤left→left≤1048576→l.length≤9223372036854775807→zck l left<0∨(l.length:Int)≤left∧zck l left=left-l.length:=by
 intro h0 h1 h2
 rw [zok,zt ω2 ω2]
 by_cases h:left-(l.length:Int)<0
 ·rw [decide_eq_true h,cond_true];left;decide
 ·rw [decide_eq_false h,cond_false];right;omega
/-! foz: function 44 -/
def E_foz:Env:=envOf []
def F_foz (args:List Value) (H:zp):(Value→zp→Prop)→Prop:=match args with
 | [.slice a_a a_n a_e,.int .i64 left]=>fun K=>zti a_a a_n a_e left H fun (r1:Int) (H':zp)=>K (.int .i64 r1) H'
 | _=>fun _=>False
def S_foz:FSpec:={F:=F_foz,quiet:=true,tame:=false}
theorem z1gx (a_a:OA) (a_n a_e:Nat) (left:Int) (H:zp) (K:KT):zv Tryz.prog E_foz Tryz.f44 [.slice a_a a_n a_e,.int .i64 left] H K=
 (Br (decide ((IntKind.wrap .i64 (left-(a_n:Int)):Int)<0)) (K (.int .i64 (-1)) H) (K (.int .i64 (IntKind.wrap .i64 (left-(a_n:Int)))) H)):=by kernel_rfl
theorem zyf:∀g,FnOk Tryz.prog g (E_foz g):=FnOk.envOf (by
 intro x hx;cases hx)
theorem z11o (a_a:OA) (a_n a_e:Nat) (left:Int) (H:zp) (K:KT) (h:zti a_a a_n a_e left H fun (r1:Int) (H':zp)=>K (.int .i64 r1) H'):zv Tryz.prog E_foz Tryz.f44 [.slice a_a a_n a_e,.int .i64 left] H K:=by
 rw [z1gx]
 obtain ⟨l_a,i_a,hk⟩:=h
 obtain rfl:=i_a.eqn
 have e:(zck l_a left)=_:=rfl
 have e:=e.trans (zok l_a left)
 have g0:=Grow.refl H
 refine Br.intro (fun c_1=>?_) (fun c_1=>?_)
 ·have e:=e.trans (zx c_1)
  have c_1':=of_decide_eq_true c_1
  rw [e] at hk
  exact hk
 ·have e:=e.trans (zw c_1)
  have c_1':=of_decide_eq_false c_1
  rw [e] at hk
  exact hk
theorem ω9 {P:Prop} (h:P:=by kernel_rfl):P:=h
theorem z17e:FnOk Tryz.prog 44 S_foz:=FnOk.bodyF mix_ok zyf Tryz.func44 rfl ω9 ω9 fun args H=>by
 unfold F_foz
 split
 ·refine ⟨?_,?_,?_,?_,fun K hk=>z11o _ _ _ _ H K hk⟩
  ·intro K K' h hk;obtain ⟨l_a,i_a,k⟩:=hk;exact ⟨l_a,i_a,h _ _ k⟩
  ·intro _ K hk;obtain ⟨l_a,i_a,k⟩:=hk;exact ⟨_,k,fun K' k'=>⟨l_a,i_a,k'⟩⟩
  ·intro K hk;obtain ⟨l_a,i_a,k⟩:=hk;exact ⟨_,_,k⟩
  ·nofun
 ·exact Nice.no

def z8e (mb:LN) (fe:Nat) (left:Int):Int:=(bif decide (((zck mb left):Int)<0) then ((-1):Int) else (zck mb left))
def zkd:=@z8e.eq_1
def zn6 (ec:OA) (xc yc fe:Nat) (left:Int) (H:zp) (K:Int→zp→Prop):Prop:=∃(mb:LN),IsL fF H ec xc mb∧((∀H':zp,Grow H H'→K (z8e mb fe left) H'))
theorem zz0 {ec:OA} {xc yc fe:Nat} {left:Int} {H:zp} {K:Int→zp→Prop} (h:∃(mb:LN),IsL fF H ec xc mb∧((∀H':zp,Grow H H'→K (z8e mb fe left) H'))):zn6 ec xc yc fe left H K:=h
theorem z16x (l:LN) (sc:Nat) (left:Int):0≤left→left≤1048576→l.length≤9223372036854775807→z8e l sc left<0∨(l.length:Int)≤left∧z8e l sc left=left-l.length:=by
 intro h0 h1 h2
 have:=foz_f l left h0 h1 h2
 rw [zkd]
 by_cases h:zck l left<0
 ·rw [decide_eq_true h,cond_true];left;decide
 ·rw [decide_eq_false h,cond_false];right;omega
/-! f1cz: function 9 -/
def zrt:Env:=envOf [(44,S_foz)]
def z14r (args:List Value) (H:zp):(Value→zp→Prop)→Prop:=match args with
 | [.agg ⟨[.slice ec xc yc,.float .f32 fe]⟩,.int .i64 left]=>fun K=>zn6 ec xc yc fe left H fun (r1:Int) (H':zp)=>K (.int .i64 r1) H'
 | _=>fun _=>False
def z15y:FSpec:={F:=z14r,quiet:=false,tame:=true}
theorem z1a6 (ec:OA) (xc yc fe:Nat) (left:Int) (H:zp) (K:KT):zv Tryz.prog zrt Tryz.f9 [.agg #[.slice ec xc yc,.float .f32 fe],.int .i64 left] H K=
 (Al [.slice ec xc yc,.float .f32 fe] H fun b1 H1=>∃og:OA,∃eg:Nat,∃qg:Nat,  rdC H1 b1 0=some (.slice og eg qg)∧zti og eg qg left H1 fun (r1:Int) (H2:zp)=>Br (decide ((r1:Int)<0)) (K (.int .i64 (-1)) H2) (K (.int .i64 r1) H2)):=by kernel_rfl
theorem zru:∀g,FnOk Tryz.prog g (zrt g):=FnOk.envOf (by
 intro x hx
 simp only [List.mem_cons,List.not_mem_nil,or_false] at hx
 subst hx;exact z17e)
theorem zu9 (ec:OA) (xc yc fe:Nat) (left:Int) (H:zp) (K:KT) (h:zn6 ec xc yc fe left H fun (r1:Int) (H':zp)=>K (.int .i64 r1) H'):zv Tryz.prog zrt Tryz.f9 [.agg #[.slice ec xc yc,.float .f32 fe],.int .i64 left] H K:=by
 rw [z1a6]
 obtain ⟨mb,ze,hk⟩:=h
 obtain rfl:=ze.eqn
 have e:(z8e mb fe left)=_:=rfl
 have e:=e.trans (zkd mb fe left)
 have g0:=Grow.refl H
 refine Al.intro (fun b_1 H_1 hb_2 hl_3 g_4 o_5=>?_)
 have l_7:=g_4.1
 have g_8:=g0.trans g_4
 have l_9:=g_8.1
 have w_12:=o_5.lt
 refine ⟨ec,mb.length,yc,(o_5.rdC _).trans rfl,?_⟩
 refine ztj ⟨_,(ze.grow g_8),?_⟩
 have z10:=foz_f mb left
 refine Br.intro (fun c_11=>?_) (fun c_11=>?_)
 ·have e:=e.trans (zx c_11)
  have c_11':=of_decide_eq_true c_11
  rw [e] at hk
  exact hk  H_1 g_8 
 ·have e:=e.trans (zw c_11)
  have c_11':=of_decide_eq_false c_11
  rw [e] at hk
  exact hk  H_1 g_8 
theorem z1a5:FnOk Tryz.prog 9 z15y:=FnOk.bodyF mix_ok zru Tryz.func9 rfl ω9 ω9 fun args H=>by
 unfold z14r
 split
 ·refine ⟨?_,?_,?_,?_,fun K hk=>zu9 _ _ _ _ _ H K hk⟩
  ·intro K K' h hk;obtain ⟨mb,ze,k⟩:=hk;exact ⟨mb,ze,(fun  H' gg  =>h _ _ (k  H' gg))⟩
  ·nofun
  ·intro K hk;obtain ⟨mb,ze,k⟩:=hk;exact ⟨_,_,k H (Grow.refl H)⟩
  ·intro _ K hk;obtain ⟨mb,ze,k⟩:=hk;exact ⟨mb,ze,(fun  H' gg  =>⟨gg,k  H' gg⟩)⟩
 ·exact Nice.no

def zks (ie je:Int) (ib:LN) (left:Int):Int:=(bif decide (((zck ib left):Int)<0) then ((-1):Int) else (zck ib left))
def zoo:=@zks.eq_1
def zzq (ie je:Int) (ac:OA) (mc nc:Nat) (left:Int) (H:zp) (K:Int→zp→Prop):Prop:=∃(ib:LN),IsL fF H ac mc ib∧((∀H':zp,Grow H H'→K (zks ie je ib left) H'))
theorem z19r {ie je:Int} {ac:OA} {mc nc:Nat} {left:Int} {H:zp} {K:Int→zp→Prop} (h:∃(ib:LN),IsL fF H ac mc ib∧((∀H':zp,Grow H H'→K (zks ie je ib left) H'))):zzq ie je ac mc nc left H K:=h
theorem fxz_f (a b:Int) (l:LN) (left:Int):0≤left→left≤1048576→l.length≤9223372036854775807→zks a b l left<0∨(l.length:Int)≤left∧zks a b l left=left-l.length:=by
 intro h0 h1 h2
 have:=foz_f l left h0 h1 h2
 rw [zoo]
 by_cases h:zck l left<0
 ·rw [decide_eq_true h,cond_true];left;decide
 ·rw [decide_eq_false h,cond_false];right;omega
/-! fxz: function 10 -/
def E_fxz:Env:=envOf [(44,S_foz)]
def F_fxz (args:List Value) (H:zp):(Value→zp→Prop)→Prop:=match args with
 | [.agg ⟨[.int .i64 ie,.int .i64 je,.slice ac mc nc]⟩,.int .i64 left]=>fun K=>zzq ie je ac mc nc left H fun (r1:Int) (H':zp)=>K (.int .i64 r1) H'
 | _=>fun _=>False
def S_fxz:FSpec:={F:=F_fxz,quiet:=false,tame:=true}
theorem z1hr (ie je:Int) (ac:OA) (mc nc:Nat) (left:Int) (H:zp) (K:KT):zv Tryz.prog E_fxz Tryz.f10 [.agg #[.int .i64 ie,.int .i64 je,.slice ac mc nc],.int .i64 left] H K=
 (Al [.int .i64 ie,.int .i64 je,.slice ac mc nc] H fun b1 H1=>∃og:OA,∃eg:Nat,∃qg:Nat,  rdC H1 b1 2=some (.slice og eg qg)∧zti og eg qg left H1 fun (r1:Int) (H2:zp)=>Br (decide ((r1:Int)<0)) (K (.int .i64 (-1)) H2) (K (.int .i64 r1) H2)):=by kernel_rfl
theorem zyn:∀g,FnOk Tryz.prog g (E_fxz g):=FnOk.envOf (by
 intro x hx
 simp only [List.mem_cons,List.not_mem_nil,or_false] at hx
 subst hx;exact z17e)
theorem z12e (ie je:Int) (ac:OA) (mc nc:Nat) (left:Int) (H:zp) (K:KT) (h:zzq ie je ac mc nc left H fun (r1:Int) (H':zp)=>K (.int .i64 r1) H'):zv Tryz.prog E_fxz Tryz.f10 [.agg #[.int .i64 ie,.int .i64 je,.slice ac mc nc],.int .i64 left] H K:=by
 rw [z1hr]
 obtain ⟨ib,ue,hk⟩:=h
 obtain rfl:=ue.eqn
 have e:(zks ie je ib left)=_:=rfl
 have e:=e.trans (zoo ie je ib left)
 have g0:=Grow.refl H
 refine Al.intro (fun b_1 H_1 hb_2 hl_3 g_4 o_5=>?_)
 have l_7:=g_4.1
 have g_8:=g0.trans g_4
 have l_9:=g_8.1
 have w_12:=o_5.lt
 refine ⟨ac,ib.length,nc,(o_5.rdC _).trans rfl,?_⟩
 refine ztj ⟨_,(ue.grow g_8),?_⟩
 have z10:=foz_f ib left
 refine Br.intro (fun c_11=>?_) (fun c_11=>?_)
 ·have e:=e.trans (zx c_11)
  have c_11':=of_decide_eq_true c_11
  rw [e] at hk
  exact hk  H_1 g_8 
 ·have e:=e.trans (zw c_11)
  have c_11':=of_decide_eq_false c_11
  rw [e] at hk
  exact hk  H_1 g_8 
theorem z1hq:FnOk Tryz.prog 10 S_fxz:=FnOk.bodyF mix_ok zyn Tryz.func10 rfl ω9 ω9 fun args H=>by
 unfold F_fxz
 split
 ·refine ⟨?_,?_,?_,?_,fun K hk=>z12e _ _ _ _ _ _ H K hk⟩
  ·intro K K' h hk;obtain ⟨ib,ue,k⟩:=hk;exact ⟨ib,ue,(fun  H' gg  =>h _ _ (k  H' gg))⟩
  ·nofun
  ·intro K hk;obtain ⟨ib,ue,k⟩:=hk;exact ⟨_,_,k H (Grow.refl H)⟩
  ·intro _ K hk;obtain ⟨ib,ue,k⟩:=hk;exact ⟨ib,ue,(fun  H' gg  =>⟨gg,k  H' gg⟩)⟩
 ·exact Nice.no

def zbe (l_a:LN):Nat→Int→LN→LN
 | 0,_,_=>[]
 | μ+1,i,y1_1=>(bif decide ((i:Int)<(l_a.length:Int)) then (zbe l_a μ (i+1) (((y1_1).set (i:Int).toNat ((((l_a).getD (i:Int).toNat 0)))))) else y1_1)
def zg4:=fun l_a μ i y1_1=>@zbe.eq_2 l_a i y1_1 μ
def zwp (l_a:LN):LN:=(zbe l_a (Int.toNat ((l_a.length:Int)-(0:Int))+1) (0:Int) (List.replicate (((l_a.length:Int)).toNat) 0))
def zol:=@zwp.eq_1
def ztk (a_a:OA) (a_n a_e:Nat) (H:zp) (K:OA→Nat→Nat→zp→Prop):Prop:=∃(l_a:LN),IsL fF H a_a a_n l_a∧l_a.length<1073741824∧((∀(sd:OA) (ae zd:Nat),∀H':zp,Grow H H'→OwnS fF H' H.length sd ae zd l_a→K sd ae zd H'))
theorem ztl {a_a:OA} {a_n a_e:Nat} {H:zp} {K:OA→Nat→Nat→zp→Prop} (h:∃(l_a:LN),IsL fF H a_a a_n l_a∧l_a.length<1073741824∧((∀(sd:OA) (ae zd:Nat),∀H':zp,Grow H H'→OwnS fF H' H.length sd ae zd l_a→K sd ae zd H'))):ztk a_a a_n a_e H K:=h
theorem z1gz (l:LN):∀(μ:Nat) (i:Nat) (ys:LN),ys.length=l.length→i≤l.length→l.length-i<μ→
  zbe l μ (i:Int) (l.take i++ys.drop i)=l:=by
 intro μ
 induction μ with
 | zero=>intro i ys _ _ h;omega
 | succ μ ih=>
  intro i ys hy hi hm
  rw [zg4]
  by_cases h:i<l.length
  ·rw [decide_eq_true (show (i:Int)<(l.length:Int) by omega),cond_true]
   have hx:l[i]? =some (l.getD i 0):=by rw [List.getD_eq_getElem?_getD,List.getElem?_eq_getElem h];rfl
   rw [Int.toNat_natCast,z3g l ys i ω2 hy.symm _ hx]
   exact ih (i+1) ys hy ω2 ω2
  ·rw [decide_eq_false (show ¬(i:Int)<(l.length:Int) by omega),cond_false]
   rw [List.take_of_length_le ω2,List.drop_eq_nil_of_le ω2,List.append_nil]
theorem z1h0 (l:LN):zwp l=l:=by
 rw [zol]
 have:=z1gz l (Int.toNat ((l.length:Int)-0)+1) 0 (List.replicate ((l.length:Int)).toNat 0) (by simp) ω2 ω2
 simpa using this
/-! fpz: function 48 -/
def zgx:Env:=envOf []
def F_fpz (args:List Value) (H:zp):(Value→zp→Prop)→Prop:=match args with
 | [.slice a_a a_n a_e]=>fun K=>ztk a_a a_n a_e H fun (sd:OA) (ae:Nat) (zd:Nat) (H':zp)=>K (.slice sd ae zd) H'
 | _=>fun _=>False
def S_fpz:FSpec:={F:=F_fpz,quiet:=false,tame:=true}
theorem z1h3 (a_a:OA) (a_n a_e:Nat) (H:zp) (K:KT):zv Tryz.prog zgx Tryz.f48 [.slice a_a a_n a_e] H K=
 ((0:Int)≤(a_n:Int)∧(a_n:Int)=(a_n:Int)∧(a_n:Int)<(most:Int)∧Al (z1k (.float .f32 0) ((a_n:Int)).toNat) H fun b1 H1=>z1i (exL Tryz.prog zgx (cl (cl (cr (cl (cr (cr (zq Tryz.f48))))))) 25 4 [(0,8)]) (.slice a_a a_n a_e::ud2 (.slice (some ⟨b1,0,none⟩) (((a_n:Int)).toNat) 1::.int .i64 0::ud17 [])) H1 (zu 0 (seqQ (exL Tryz.prog zgx (cr (cr (cr (zq Tryz.f48)))) 4 4 []) (retK Tryz.prog Tryz.f48 K)))):=by kernel_rfl
abbrev zjl (a_a:OA) (a_e a_n b1:Nat) (i:Int)  :List Value:=(.slice a_a a_n a_e::ud2 (.slice (some ⟨b1,0,none⟩) (((a_n:Int)).toNat) 1::.int .i64 i::ud17 []))
theorem z1h2 (a_a:OA) (a_e a_n b1:Nat) (i:Int)  (H:zp) (R:Post):exL Tryz.prog zgx (cl (cl (cr (cl (cr (cr (zq Tryz.f48))))))) 25 4 [(0,8)] (zjl a_a a_e a_n b1 i) H R=
 (Br (decide ((i:Int)<(a_n:Int))) ((0:Int)≤i∧i<(a_n:Int)∧∃b2 f1,(a_a:OA)=some ⟨b2,f1,none⟩∧∃x1:Nat,  rdC H b2 (f1+(i:Int).toNat*1)=some (.float .f32 x1)∧(0:Int)≤i∧i<(((a_n:Int)).toNat:Int)∧∃b3 f2,(some ⟨b1,0,none⟩:OA)=some ⟨b3,f2,none⟩∧isOwn H b3∧(∃l,rdN H b3 (f2+(i:Int).toNat*1) 1=some l)∧Lt (setC H b3 (f2+(i:Int).toNat*1) (.float .f32 x1)) fun H2=>R .normal (.slice a_a a_n a_e::ud2 (.slice (some ⟨b1,0,none⟩) (((a_n:Int)).toNat) 1::.int .i64 (IntKind.wrap .i64 (i+1))::ud17 [])) H2) (R (.exit 0) (ud3 (.slice (some ⟨b1,0,none⟩) (((a_n:Int)).toNat) 1::ud18 [])) H)):=by kernel_rfl
def zvr (a_a:OA) (a_e a_n b1:Nat) (Inv:Nat→Int→zp→Prop):Nat→List Value→zp→Prop:=fun μ tm H=>∃(i:Int),tm=(zjl a_a a_e a_n b1 i)∧Inv μ i H
theorem z1gy (a_a:OA) (a_e a_n b1:Nat) {Q:Post} (Inv:Nat→Int→zp→Prop) (ν:Nat) (i:Int)  (H:zp) (h0:Inv ν i H)
  (hs:∀(μ:Nat) (i:Int)  (H:zp),Inv μ i H→exL Tryz.prog zgx (cl (cl (cr (cl (cr (cr (zq Tryz.f48))))))) 25 4 [(0,8)] (zjl a_a a_e a_n b1 i) H (z1a (zvr a_a a_e a_n b1 Inv) μ Q)):z1i (exL Tryz.prog zgx (cl (cl (cr (cl (cr (cr (zq Tryz.f48))))))) 25 4 [(0,8)]) (zjl a_a a_e a_n b1 i) H Q:=
 ⟨zvr a_a a_e a_n b1 Inv,ν,⟨i,rfl,h0⟩,fun μ tm H h=>by obtain ⟨i,rfl,hI⟩:=h;exact hs μ i  H hI⟩
theorem z1h1 {a_a:OA} {a_e a_n b1:Nat} {Q:Post} {Inv:Nat→Int→zp→Prop} {μ:Nat} (μ':Nat) {i:Int}  {H:zp} (hm:μ'<μ) (hI:Inv μ' i H):z1a (zvr a_a a_e a_n b1 Inv) μ Q .normal (zjl a_a a_e a_n b1 i) H:=⟨μ',hm,i,rfl,hI⟩
theorem z11q (a_n b1:Nat) (H:zp) (K:KT)  {I:Nat→List Value→zp→Prop} {μ:Nat}:z1a I μ (zu 0 (seqQ (exL Tryz.prog zgx (cr (cr (cr (zq Tryz.f48)))) 4 4 []) (retK Tryz.prog Tryz.f48 K))) (.exit 0) (ud3 (.slice (some ⟨b1,0,none⟩) (((a_n:Int)).toNat) 1::ud18 [])) H=
 (K (.slice (some ⟨b1,0,none⟩) (((a_n:Int)).toNat) 1) H):=by kernel_rfl
theorem zyg:∀g,FnOk Tryz.prog g (zgx g):=FnOk.envOf (by
 intro x hx;cases hx)
theorem ω25 {P:Prop} (h:P:=by have:=zmg;omega):P:=h
theorem ω17 {P:Prop} (h:P:=by first | rfl | assumption | omega | (simp;done)):P:=h
theorem ω7 {P:Prop} (h:P:=by first | omega | (simp;done) | (simp;omega)):P:=h
theorem ω0 {P:Prop} (h:P:=by first | omega | (simp only [List.length_set,List.length_replicate,List.length_append,List.length_cons,List.length_nil,List.length_take,List.length_drop,z1u];done) | (simp only [List.length_set,List.length_replicate,List.length_append,List.length_cons,List.length_nil,List.length_take,List.length_drop,z1u];omega)):P:=h
theorem ω10 {P:Prop} (h:P:=by simp only [List.length_map];(first | omega | (simp only [List.length_set,List.length_replicate,List.length_append,List.length_cons,List.length_nil,List.length_take,List.length_drop,z1u];done) | (simp only [List.length_set,List.length_replicate,List.length_append,List.length_cons,List.length_nil,List.length_take,List.length_drop,z1u];omega))):P:=h
theorem ω15 {P:Prop} (h:P:=by first | omega):P:=h
theorem ω21 {P:Prop} (h:P:=by first | assumption | omega | (simp only [List.length_set];first | rfl | assumption | omega)):P:=h
theorem ω1 {P:Prop} (h:P:=by first | omega | (simp only [List.length_append,List.length_cons,List.length_nil,List.length_set];done) | (simp only [List.length_append,List.length_cons,List.length_nil,List.length_set];omega)):P:=h
theorem ω12 {P:Prop} (h:P:=by rw [show μ-1+1=μ from by first | omega];exact e):P:=h
theorem z11p (a_a:OA) (a_n a_e:Nat) (H:zp) (K:KT) (h:ztk a_a a_n a_e H fun (sd:OA) (ae:Nat) (zd:Nat) (H':zp)=>K (.slice sd ae zd) H'):zv Tryz.prog zgx Tryz.f48 [.slice a_a a_n a_e] H K:=by
 rw [z1h3]
 obtain ⟨l_a,i_a,bd_29,hk⟩:=h
 have hk:(∀(sd:OA) (ae zd:Nat),∀H':zp,Grow H H'→OwnS fF H' H.length sd ae zd (zwp l_a)→(fun (sd:OA) (ae:Nat) (zd:Nat) (H':zp)=>K (.slice sd ae zd) H') sd ae zd H'):=by rw [z1h0 l_a];exact hk
 obtain rfl:=i_a.eqn
 have e:(zwp l_a)=_:=rfl
 have e:=e.trans (zol l_a)
 have g0:=Grow.refl H
 refine ⟨by omega,rfl,ω25,?_⟩
 refine Al.intro (fun b_1 H_1 hb_2 hl_3 g_4 o_5=>?_)
 rw [zlc fF 0 _ rfl] at o_5
 have l_7:=g_4.1
 have g_8:=g0.trans g_4
 have l_9:=g_8.1
 have w28:=o_5.lt
 refine z1gy _ _ _ _ (fun (μ:Nat) (i:Int) (H_2:zp)=>∃(y1_1:LN),Own H_2 b_1 (y1_1.map fF)∧y1_1.length=((l_a.length:Int)).toNat∧Grow H H_2∧(0:Int)≤i∧i≤(l_a.length:Int)∧(l_a.length:Int)-i≤(μ:Int)∧zwp l_a=zbe l_a (μ+1) i y1_1) (Int.toNat ((l_a.length:Int)-(0:Int))) _ H_1 ?_ ?_
 ·exact ⟨_,o_5,ω17,g_8,ω7,ω7,ω2,e⟩
 ·intro μ i  H_2 hI
  obtain ⟨y1_1,o_10,y11,g_12,v_13,v_14,hμ,e⟩:=hI
  rw [z1h2]
  have e:=e.trans (zg4 l_a μ i y1_1)
  have w15:=o_10.lt
  have l_16:=g_12.1
  refine Br.intro (fun c_17=>?_) (fun c_17=>?_)
  ·have e:=e.trans (zx c_17)
   have c_17':=of_decide_eq_true c_17
   obtain ⟨b18,f_19,q_20⟩:=((i_a.grow g_12)).pos ω0
   refine ⟨by omega,by omega,b18,f_19,q_20,?_⟩
   refine ⟨((l_a).getD (i:Int).toNat 0),(i_a).rd g_12 q_20 ω2 _,?_⟩
   refine ⟨by omega,ω2,_,_,rfl,?_⟩
   refine Lt.set o_10 ω10 (fun H_3 hl_21 o23 k_22=>?_)
   have o23:=map_set o23
   have l24:=k_22.1
   have g_25:=g_12.keep (b:=b_1) ω2 k_22
   have l26:=g_25.1
   have w27:=o23.lt
   rw [show IntKind.wrap .i64 (i+1)=(i+1) from zt ω2 ω2]
   refine z1h1 (μ-1) ω15 ⟨_,o23,ω21,g_25,ω1,ω1,ω15,ω12⟩
  ·have e:=e.trans (zw c_17)
   have c_17':=of_decide_eq_false c_17
   rw [z11q]
   rw [e] at hk
   exact hk _ _ _ H_2 g_12 (o_10.ownS (by first | (simp only [List.length_replicate];done) | omega | (simp;omega)) ω2)
theorem z17f:FnOk Tryz.prog 48 S_fpz:=FnOk.bodyF mix_ok zyg Tryz.func48 rfl ω9 ω9 fun args H=>by
 unfold F_fpz
 split
 ·refine ⟨?_,?_,?_,?_,fun K hk=>z11p _ _ _ H K hk⟩
  ·intro K K' h hk;obtain ⟨l_a,i_a,bd_29,k⟩:=hk;exact ⟨l_a,i_a,bd_29,(fun sd ae zd H' gg ow0=>h _ _ (k sd ae zd H' gg ow0))⟩
  ·nofun
  ·intro K hk;obtain ⟨l_a,i_a,bd_29,k⟩:=hk;exact z4v fun a n e H1 g o=>⟨_,_,k a n e H1 g o⟩
  ·intro _ K hk;obtain ⟨l_a,i_a,bd_29,k⟩:=hk;exact ⟨l_a,i_a,bd_29,(fun sd ae zd H' gg ow0=>⟨gg,k sd ae zd H' gg ow0⟩)⟩
 ·exact Nice.no

def zke (mb:LN) (fe:Nat):LN×Nat:=(mb,fe)
def zwl:=@zke.eq_1
def zcy (ec:OA) (xc yc fe:Nat) (H:zp) (K:OA→Nat→Nat→Nat→zp→Prop):Prop:=∃(mb:LN),IsL fF H ec xc mb∧mb.length<1073741824∧((∀(ig:OA) (kg jg:Nat),∀H':zp,Grow H H'→OwnS fF H' H.length ig kg jg mb→K ig kg jg fe H'))
theorem zcm {ec:OA} {xc yc fe:Nat} {H:zp} {K:OA→Nat→Nat→Nat→zp→Prop} (h:∃(mb:LN),IsL fF H ec xc mb∧mb.length<1073741824∧((∀(ig:OA) (kg jg:Nat),∀H':zp,Grow H H'→OwnS fF H' H.length ig kg jg mb→K ig kg jg fe H'))):zcy ec xc yc fe H K:=h
theorem z1a7 (l:LN) (sc:Nat):zke l sc=(l,sc):=rfl
/-! f1dz: function 12 -/
def zrv:Env:=envOf [(48,S_fpz)]
def z14s (args:List Value) (H:zp):(Value→zp→Prop)→Prop:=match args with
 | [.agg ⟨[.slice ec xc yc,.float .f32 fe]⟩]=>fun K=>zcy ec xc yc fe H fun (ig:OA) (kg:Nat) (jg:Nat) (dj:Nat) (H':zp)=>K (.agg #[.slice ig kg jg,.float .f32 dj]) H'
 | _=>fun _=>False
def z15z:FSpec:={F:=z14s,quiet:=false,tame:=true}
theorem z1a9 (ec:OA) (xc yc fe:Nat) (H:zp) (K:KT):zv Tryz.prog zrv Tryz.f12 [.agg #[.slice ec xc yc,.float .f32 fe]] H K=
 (Al [.slice ec xc yc,.float .f32 fe] H fun b1 H1=>Al [.slice none 0 0,.float .f32 0] H1 fun b2 H2=>Al [.slice none 0 0,.float .f32 0] H2 fun b3 H3=>∃og:OA,∃eg:Nat,∃qg:Nat,  rdC H3 b1 0=some (.slice og eg qg)∧ztk og eg qg H3 fun (a1:OA) (r1:Nat) (r2:Nat) (H4:zp)=>isOwn H4 b3∧(∃l,rdN H4 b3 0 1=some l)∧Lt (setC H4 b3 0 (.slice a1 r1 r2)) fun H5=>∃x2:Nat,  rdC H5 b1 1=some (.float .f32 x2)∧isOwn H5 b3∧(∃l,rdN H5 b3 1 1=some l)∧Lt (setC H5 b3 1 (.float .f32 x2)) fun H6=>∃si:OA,∃ui:Nat,∃ti:Nat,∃c2:Nat,  rdN H6 b3 0 2=some [.slice si ui ti,.float .f32 c2]∧isOwn H6 b2∧(∃l,rdN H6 b2 0 2=some l)∧Lt (setN H6 b2 0 [.slice si ui ti,.float .f32 c2]) fun H7=>∃zg:OA,∃bh:Nat,∃ah:Nat,∃c4:Nat,  rdN H7 b2 0 2=some [.slice zg bh ah,.float .f32 c4]∧K (.agg #[.slice zg bh ah,.float .f32 c4]) H7):=by kernel_rfl
theorem zrw:∀g,FnOk Tryz.prog g (zrv g):=FnOk.envOf (by
 intro x hx
 simp only [List.mem_cons,List.not_mem_nil,or_false] at hx
 subst hx;exact z17f)
theorem zua (ec:OA) (xc yc fe:Nat) (H:zp) (K:KT) (h:zcy ec xc yc fe H fun (ig:OA) (kg:Nat) (jg:Nat) (dj:Nat) (H':zp)=>K (.agg #[.slice ig kg jg,.float .f32 dj]) H'):zv Tryz.prog zrv Tryz.f12 [.agg #[.slice ec xc yc,.float .f32 fe]] H K:=by
 rw [z1a9]
 obtain ⟨mb,ze,bd_90,hk⟩:=h
 have hk:(∀(ig:OA) (kg jg:Nat),∀H':zp,Grow H H'→OwnS fF H' H.length ig kg jg ((zke mb fe).1)→(fun (ig:OA) (kg:Nat) (jg:Nat) (dj:Nat) (H':zp)=>K (.agg #[.slice ig kg jg,.float .f32 dj]) H') ig kg jg ((zke mb fe).2) H'):=by rw [z1a7 mb fe];exact hk
 obtain rfl:=ze.eqn
 have e:(zke mb fe)=_:=rfl
 have e:=e.trans (zwl mb fe)
 have g0:=Grow.refl H
 refine Al.intro (fun b_1 H_1 hb_2 hl_3 g_4 o_5=>?_)
 have l_7:=g_4.1
 have g_8:=g0.trans g_4
 have l_9:=g_8.1
 have w89:=o_5.lt
 refine Al.intro (fun b_10 H_2 hb_11 hl_12 g_13 o_14=>?_)
 have l_16:=g_13.1
 have g_17:=g_8.trans g_13
 have l_18:=g_17.1
 have o_19:=o_5.grow g_13
 have w20:=o_19.lt
 have w88:=o_14.lt
 refine Al.intro (fun b_21 H_3 hb_22 hl_23 g24 o25=>?_)
 have l27:=g24.1
 have g28:=g_17.trans g24
 have l29:=g28.1
 have o30:=o_19.grow g24
 have w31:=o30.lt
 have o32:=o_14.grow g24
 have w33:=o32.lt
 have w87:=o25.lt
 refine ⟨ec,mb.length,yc,(o30.rdC _).trans rfl,?_⟩
 refine ztl ⟨_,(ze.grow g28),ω0,fun a34 n35 e36 H_4 g38 r_37=>?_⟩
 have l39:=g38.1
 have g40:=g28.trans g38
 have l41:=g40.1
 have o42:=o30.grow g38
 have w43:=o42.lt
 have o44:=o32.grow g38
 have w45:=o44.lt
 have o46:=o25.grow g38
 have w47:=o46.lt
 obtain rfl:=r_37.isL.eqn
 have u48:=r_37.up
 have u49:=r_37.lo
 refine Lt.set o46 (Nat.le_of_ble_eq_true rfl) (fun H_5 hl_51 o53 k52=>?_)
 have o53:Own H_5 b_21 [.slice a34 ((mb).length) e36,.float .f32 0]:=o53
 have l54:=k52.1
 have g55:=g40.keep (b:=b_21) ω2 k52
 have l56:=g55.1
 have o57:=o42.keep ω2 k52
 have w58:=o57.lt
 have o59:=o44.keep ω2 k52
 have w60:=o59.lt
 have r61:=r_37.keep u48 ω2 k52
 have w86:=o53.lt
 refine ⟨fe,(o57.rdC _).trans rfl,?_⟩
 refine Lt.set o53 (Nat.le_of_ble_eq_true rfl) (fun H_6 hl_62 o64 k63=>?_)
 have o64:Own H_6 b_21 [.slice a34 ((mb).length) e36,.float .f32 fe]:=o64
 have l65:=k63.1
 have g66:=g55.keep (b:=b_21) ω2 k63
 have l67:=g66.1
 have o68:=o57.keep ω2 k63
 have w69:=o68.lt
 have o70:=o59.keep ω2 k63
 have w71:=o70.lt
 have r72:=r61.keep u48 ω2 k63
 have w85:=o64.lt
 refine ⟨a34,(mb).length,e36,fe,(o64.rdN (Nat.le_of_ble_eq_true rfl)).trans rfl,?_⟩
 refine Lt.setN (n:=2) o70 (Nat.le_of_ble_eq_true rfl) rfl (fun H_7 hl_73 o75 k74=>?_)
 have o75:Own H_7 b_10 [.slice a34 ((mb).length) e36,.float .f32 fe]:=o75
 have l76:=k74.1
 have g77:=g66.keep (b:=b_10) ω2 k74
 have l78:=g77.1
 have o79:=o68.keep ω2 k74
 have w80:=o79.lt
 have o81:=o64.keep ω2 k74
 have w82:=o81.lt
 have r83:=r72.keep u48 ω2 k74
 have w84:=o75.lt
 refine ⟨a34,(mb).length,e36,fe,(o75.rdN (Nat.le_of_ble_eq_true rfl)).trans rfl,?_⟩
 rw [e] at hk
 exact hk _ _ _ H_7 g77 (r83.weak ω2)
theorem z1a8:FnOk Tryz.prog 12 z15z:=FnOk.bodyF mix_ok zrw Tryz.func12 rfl ω9 ω9 fun args H=>by
 unfold z14s
 split
 ·refine ⟨?_,?_,?_,?_,fun K hk=>zua _ _ _ _ H K hk⟩
  ·intro K K' h hk;obtain ⟨mb,ze,bd_90,k⟩:=hk;exact ⟨mb,ze,bd_90,(fun ig kg jg H' gg ow0=>h _ _ (k ig kg jg H' gg ow0))⟩
  ·nofun
  ·intro K hk;obtain ⟨mb,ze,bd_90,k⟩:=hk;exact z4v fun a n e H1 g o=>⟨_,_,k a n e H1 g o⟩
  ·intro _ K hk;obtain ⟨mb,ze,bd_90,k⟩:=hk;exact ⟨mb,ze,bd_90,(fun ig kg jg H' gg ow0=>⟨gg,k ig kg jg H' gg ow0⟩)⟩
 ·exact Nice.no

def zqe (ie je:Int) (ib:LN):Int×Int×LN:=(ie,je,ib)
def z13c:=@zqe.eq_1
def zli (ie je:Int) (ac:OA) (mc nc:Nat) (H:zp) (K:Int→Int→OA→Nat→Nat→zp→Prop):Prop:=∃(ib:LN),IsL fF H ac mc ib∧ib.length<1073741824∧((∀(ia:OA) (ma ja:Nat),∀H':zp,Grow H H'→OwnS fF H' H.length ia ma ja ib→K ie je ia ma ja H'))
theorem zh2 {ie je:Int} {ac:OA} {mc nc:Nat} {H:zp} {K:Int→Int→OA→Nat→Nat→zp→Prop} (h:∃(ib:LN),IsL fF H ac mc ib∧ib.length<1073741824∧((∀(ia:OA) (ma ja:Nat),∀H':zp,Grow H H'→OwnS fF H' H.length ia ma ja ib→K ie je ia ma ja H'))):zli ie je ac mc nc H K:=h
theorem z1hs (a b:Int) (l:LN):zqe a b l=(a,b,l):=rfl
/-! fyz: function 13 -/
def E_fyz:Env:=envOf [(48,S_fpz)]
def F_fyz (args:List Value) (H:zp):(Value→zp→Prop)→Prop:=match args with
 | [.agg ⟨[.int .i64 ie,.int .i64 je,.slice ac mc nc]⟩]=>fun K=>zli ie je ac mc nc H fun (ld:Int) (jd:Int) (ia:OA) (ma:Nat) (ja:Nat) (H':zp)=>K (.agg #[.int .i64 ld,.int .i64 jd,.slice ia ma ja]) H'
 | _=>fun _=>False
def S_fyz:FSpec:={F:=F_fyz,quiet:=false,tame:=true}
theorem z1hu (ie je:Int) (ac:OA) (mc nc:Nat) (H:zp) (K:KT):zv Tryz.prog E_fyz Tryz.f13 [.agg #[.int .i64 ie,.int .i64 je,.slice ac mc nc]] H K=
 (Al [.int .i64 ie,.int .i64 je,.slice ac mc nc] H fun b1 H1=>Al [.int .i64 0,.int .i64 0,.slice none 0 0] H1 fun b2 H2=>Al [.int .i64 0,.int .i64 0,.slice none 0 0] H2 fun b3 H3=>∃x1:Int,  rdC H3 b1 0=some (.int .i64 x1)∧isOwn H3 b3∧(∃l,rdN H3 b3 0 1=some l)∧Lt (setC H3 b3 0 (.int .i64 x1)) fun H4=>∃x2:Int,  rdC H4 b1 1=some (.int .i64 x2)∧isOwn H4 b3∧(∃l,rdN H4 b3 1 1=some l)∧Lt (setC H4 b3 1 (.int .i64 x2)) fun H5=>∃ij:OA,∃fj:Nat,∃vj:Nat,  rdC H5 b1 2=some (.slice ij fj vj)∧ztk ij fj vj H5 fun (a1:OA) (r1:Nat) (r2:Nat) (H6:zp)=>isOwn H6 b3∧(∃l,rdN H6 b3 2 1=some l)∧Lt (setC H6 b3 2 (.slice a1 r1 r2)) fun H7=>∃c1:Int,∃c2:Int,∃zg:OA,∃bh:Nat,∃ah:Nat,  rdN H7 b3 0 3=some [.int .i64 c1,.int .i64 c2,.slice zg bh ah]∧isOwn H7 b2∧(∃l,rdN H7 b2 0 3=some l)∧Lt (setN H7 b2 0 [.int .i64 c1,.int .i64 c2,.slice zg bh ah]) fun H8=>∃c4:Int,∃c5:Int,∃kh:OA,∃mh:Nat,∃lh:Nat,  rdN H8 b2 0 3=some [.int .i64 c4,.int .i64 c5,.slice kh mh lh]∧K (.agg #[.int .i64 c4,.int .i64 c5,.slice kh mh lh]) H8):=by kernel_rfl
theorem zyo:∀g,FnOk Tryz.prog g (E_fyz g):=FnOk.envOf (by
 intro x hx
 simp only [List.mem_cons,List.not_mem_nil,or_false] at hx
 subst hx;exact z17f)
theorem z12f (ie je:Int) (ac:OA) (mc nc:Nat) (H:zp) (K:KT) (h:zli ie je ac mc nc H fun (ld:Int) (jd:Int) (ia:OA) (ma:Nat) (ja:Nat) (H':zp)=>K (.agg #[.int .i64 ld,.int .i64 jd,.slice ia ma ja]) H'):zv Tryz.prog E_fyz Tryz.f13 [.agg #[.int .i64 ie,.int .i64 je,.slice ac mc nc]] H K:=by
 rw [z1hu]
 obtain ⟨ib,ue,bd_100,hk⟩:=h
 have hk:(∀(ia:OA) (ma ja:Nat),∀H':zp,Grow H H'→OwnS fF H' H.length ia ma ja ((zqe ie je ib).2.2)→(fun (ld:Int) (jd:Int) (ia:OA) (ma:Nat) (ja:Nat) (H':zp)=>K (.agg #[.int .i64 ld,.int .i64 jd,.slice ia ma ja]) H') ((zqe ie je ib).1) ((zqe ie je ib).2.1) ia ma ja H'):=by rw [z1hs ie je ib];exact hk
 obtain rfl:=ue.eqn
 have e:(zqe ie je ib)=_:=rfl
 have e:=e.trans (z13c ie je ib)
 have g0:=Grow.refl H
 refine Al.intro (fun b_1 H_1 hb_2 hl_3 g_4 o_5=>?_)
 have l_7:=g_4.1
 have g_8:=g0.trans g_4
 have l_9:=g_8.1
 have w99:=o_5.lt
 refine Al.intro (fun b_10 H_2 hb_11 hl_12 g_13 o_14=>?_)
 have l_16:=g_13.1
 have g_17:=g_8.trans g_13
 have l_18:=g_17.1
 have o_19:=o_5.grow g_13
 have w20:=o_19.lt
 have w98:=o_14.lt
 refine Al.intro (fun b_21 H_3 hb_22 hl_23 g24 o25=>?_)
 have l27:=g24.1
 have g28:=g_17.trans g24
 have l29:=g28.1
 have o30:=o_19.grow g24
 have w31:=o30.lt
 have o32:=o_14.grow g24
 have w33:=o32.lt
 have w97:=o25.lt
 refine ⟨ie,(o30.rdC _).trans rfl,?_⟩
 refine Lt.set o25 (Nat.le_of_ble_eq_true rfl) (fun H_4 hl_34 o36 k35=>?_)
 have o36:Own H_4 b_21 [.int .i64 ie,.int .i64 0,.slice none 0 0]:=o36
 have l37:=k35.1
 have g38:=g28.keep (b:=b_21) ω2 k35
 have l39:=g38.1
 have o40:=o30.keep ω2 k35
 have w41:=o40.lt
 have o42:=o32.keep ω2 k35
 have w43:=o42.lt
 have w96:=o36.lt
 refine ⟨je,(o40.rdC _).trans rfl,?_⟩
 refine Lt.set o36 (Nat.le_of_ble_eq_true rfl) (fun H_5 hl_44 o46 k45=>?_)
 have o46:Own H_5 b_21 [.int .i64 ie,.int .i64 je,.slice none 0 0]:=o46
 have l47:=k45.1
 have g_48:=g38.keep (b:=b_21) ω2 k45
 have l49:=g_48.1
 have o50:=o40.keep ω2 k45
 have w51:=o50.lt
 have o52:=o42.keep ω2 k45
 have w53:=o52.lt
 have w95:=o46.lt
 refine ⟨ac,ib.length,nc,(o50.rdC _).trans rfl,?_⟩
 refine ztl ⟨_,(ue.grow g_48),ω0,fun a54 n55 e56 H_6 g58 r57=>?_⟩
 have l59:=g58.1
 have g60:=g_48.trans g58
 have l61:=g60.1
 have o62:=o50.grow g58
 have w63:=o62.lt
 have o64:=o52.grow g58
 have w65:=o64.lt
 have o66:=o46.grow g58
 have w67:=o66.lt
 obtain rfl:=r57.isL.eqn
 have u68:=r57.up
 have u69:=r57.lo
 refine Lt.set o66 (Nat.le_of_ble_eq_true rfl) (fun H_7 hl_71 o73 k72=>?_)
 have o73:Own H_7 b_21 [.int .i64 ie,.int .i64 je,.slice a54 ((ib).length) e56]:=o73
 have l74:=k72.1
 have g75:=g60.keep (b:=b_21) ω2 k72
 have l76:=g75.1
 have o77:=o62.keep ω2 k72
 have w78:=o77.lt
 have o79:=o64.keep ω2 k72
 have w80:=o79.lt
 have r81:=r57.keep u68 ω2 k72
 have w94:=o73.lt
 refine ⟨ie,je,a54,(ib).length,e56,(o73.rdN (Nat.le_of_ble_eq_true rfl)).trans rfl,?_⟩
 refine Lt.setN (n:=3) o79 (Nat.le_of_ble_eq_true rfl) rfl (fun H_8 hl_82 o84 k83=>?_)
 have o84:Own H_8 b_10 [.int .i64 ie,.int .i64 je,.slice a54 ((ib).length) e56]:=o84
 have l85:=k83.1
 have g86:=g75.keep (b:=b_10) ω2 k83
 have l87:=g86.1
 have o88:=o77.keep ω2 k83
 have w89:=o88.lt
 have o90:=o73.keep ω2 k83
 have w91:=o90.lt
 have r92:=r81.keep u68 ω2 k83
 have w93:=o84.lt
 refine ⟨ie,je,a54,(ib).length,e56,(o84.rdN (Nat.le_of_ble_eq_true rfl)).trans rfl,?_⟩
 rw [e] at hk
 exact hk _ _ _ H_8 g86 (r92.weak ω2)
theorem z1ht:FnOk Tryz.prog 13 S_fyz:=FnOk.bodyF mix_ok zyo Tryz.func13 rfl ω9 ω9 fun args H=>by
 unfold F_fyz
 split
 ·refine ⟨?_,?_,?_,?_,fun K hk=>z12f _ _ _ _ _ H K hk⟩
  ·intro K K' h hk;obtain ⟨ib,ue,bd_100,k⟩:=hk;exact ⟨ib,ue,bd_100,(fun ia ma ja H' gg ow0=>h _ _ (k ia ma ja H' gg ow0))⟩
  ·nofun
  ·intro K hk;obtain ⟨ib,ue,bd_100,k⟩:=hk;exact z4v fun a n e H1 g o=>⟨_,_,k a n e H1 g o⟩
  ·intro _ K hk;obtain ⟨ib,ue,bd_100,k⟩:=hk;exact ⟨ib,ue,bd_100,(fun ia ma ja H' gg ow0=>⟨gg,k ia ma ja H' gg ow0⟩)⟩
 ·exact Nice.no
def zqf (x:Nat):Bool:=feq .f32 (fsub .f32 x x) 0
def zlj (x:Nat) (H:zp) (K:Bool→zp→Prop):Prop:=K (zqf x) H

theorem z19s {x:Nat} {H:zp} {K:Bool→zp→Prop} (h:K (zqf x) H):zlj x H K:=h
/-! fzz: function 122 -/
def E_fzz:Env:=envOf []
def F_fzz (args:List Value) (H:zp):(Value→zp→Prop)→Prop:=match args with
 | [.float .f32 x]=>fun K=>zlj x H fun (r1:Bool) (H':zp)=>K (.bool r1) H'
 | _=>fun _=>False
def S_fzz:FSpec:={F:=F_fzz,quiet:=true,tame:=false}
theorem z1hv (x:Nat) (H:zp) (K:KT):zv Tryz.prog E_fzz Tryz.f122 [.float .f32 x] H K=
 (K (.bool (feq .f32 (fsub .f32 x x) 0)) H):=by kernel_rfl
theorem zyp:∀g,FnOk Tryz.prog g (E_fzz g):=FnOk.envOf (by
 intro x hx;cases hx)
theorem z12g (x:Nat) (H:zp) (K:KT) (h:zlj x H fun (r1:Bool) (H':zp)=>K (.bool r1) H'):zv Tryz.prog E_fzz Tryz.f122 [.float .f32 x] H K:=by
 rw [z1hv]
 unfold zlj zqf at h
 repeat' (first | exact h | (exfalso;simp_all;done) | (refine ⟨by decide,?_⟩) | (refine Br.intro (fun hb=>?_) (fun hb=>?_)<;>(try simp only [hb,cond_true,cond_false,Bool.not_true,Bool.not_false] at h)))
theorem z17i:FnOk Tryz.prog 122 S_fzz:=FnOk.bodyF mix_ok zyp Tryz.func122 rfl ω9 ω9 fun args H=>by
 unfold F_fzz
 split
 ·refine ⟨?_,?_,?_,?_,fun K hk=>z12g _ H K hk⟩
  ·intro K K' h hk;have k:=hk;exact h _ _ k
  ·intro _ K hk;have k:=hk;exact ⟨_,k,fun K' k'=>k'⟩
  ·intro K hk;have k:=hk;exact ⟨_,_,k⟩
  ·nofun
 ·exact Nice.no

def z8p (za:LN):Nat→Bool→Int→Bool
 | 0,_,_=>false
 | μ+1,t2,i=>(bif decide ((i:Int)<(za.length:Int)) then (bif !((zqf (((za).getD (i:Int).toNat 0)))) then false else (z8p za μ t2 (i+1))) else true)
def zdu:=fun za μ t2 i=>@z8p.eq_2 za t2 i μ
def z1p (za:LN):Bool:=(z8p za (Int.toNat ((za.length:Int)-(0:Int))+1) false (0:Int))
def zk8:=@z1p.eq_1
def zc3 (yb:OA) (sb jc:Nat) (H:zp) (K:Bool→zp→Prop):Prop:=∃(za:LN),IsL fF H yb sb za∧za.length<1073741824∧K (z1p za) H
theorem zan {yb:OA} {sb jc:Nat} {H:zp} {K:Bool→zp→Prop} (h:∃(za:LN),IsL fF H yb sb za∧za.length<1073741824∧K (z1p za) H):zc3 yb sb jc H K:=h

/-! f11z: function 124 -/
def z9s:Env:=envOf [(122,S_fzz)]
def z14h (args:List Value) (H:zp):(Value→zp→Prop)→Prop:=match args with
 | [.slice yb sb jc]=>fun K=>zc3 yb sb jc H fun (r1:Bool) (H':zp)=>K (.bool r1) H'
 | _=>fun _=>False
def zid:FSpec:={F:=z14h,quiet:=true,tame:=false}
theorem f11z_vc (yb:OA) (sb jc:Nat) (H:zp) (K:KT):zv Tryz.prog z9s Tryz.f124 [.slice yb sb jc] H K=
 (z1i (exL Tryz.prog z9s (cl (cl (cr (cl (cr (zq Tryz.f124)))))) 9 4 [(0,0)]) (.slice yb sb jc::ud2 (.int .i64 0::ud12 [])) H (zu 0 (seqQ (exL Tryz.prog z9s (cr (cr (zq Tryz.f124))) 4 4 []) (retK Tryz.prog Tryz.f124 K)))):=by kernel_rfl
abbrev f11z_P1 (yb:OA) (jc sb:Nat) (i:Int)  :List Value:=(.slice yb sb jc::ud2 (.int .i64 i::ud12 []))
theorem f11z_r1 (yb:OA) (jc sb:Nat) (i:Int)  (H:zp) (R:Post):exL Tryz.prog z9s (cl (cl (cr (cl (cr (zq Tryz.f124)))))) 9 4 [(0,0)] (f11z_P1 yb jc sb i) H R=
 (Br (decide ((i:Int)<(sb:Int))) ((0:Int)≤i∧i<(sb:Int)∧∃b1 f1,(yb:OA)=some ⟨b1,f1,none⟩∧∃x1:Nat,  rdC H b1 (f1+(i:Int).toNat*1)=some (.float .f32 x1)∧zlj x1 H fun (r1:Bool) (H1:zp)=>Br (!r1) (R .ret (ud2 (.bool false::ud13 [])) H1) (R .normal (.slice yb sb jc::ud2 (.int .i64 (IntKind.wrap .i64 (i+1))::ud12 [])) H1)) (R (.exit 0) (ud16 []) H)):=by kernel_rfl
def f11z_I1 (yb:OA) (jc sb:Nat) (Inv:Nat→Int→zp→Prop):Nat→List Value→zp→Prop:=fun μ tm H=>∃(i:Int),tm=(f11z_P1 yb jc sb i)∧Inv μ i H
theorem f11z_L1 (yb:OA) (jc sb:Nat) {Q:Post} (Inv:Nat→Int→zp→Prop) (ν:Nat) (i:Int)  (H:zp) (h0:Inv ν i H)
  (hs:∀(μ:Nat) (i:Int)  (H:zp),Inv μ i H→exL Tryz.prog z9s (cl (cl (cr (cl (cr (zq Tryz.f124)))))) 9 4 [(0,0)] (f11z_P1 yb jc sb i) H (z1a (f11z_I1 yb jc sb Inv) μ Q)):z1i (exL Tryz.prog z9s (cl (cl (cr (cl (cr (zq Tryz.f124)))))) 9 4 [(0,0)]) (f11z_P1 yb jc sb i) H Q:=
 ⟨f11z_I1 yb jc sb Inv,ν,⟨i,rfl,h0⟩,fun μ tm H h=>by obtain ⟨i,rfl,hI⟩:=h;exact hs μ i  H hI⟩
theorem f11z_n1 {yb:OA} {jc sb:Nat} {Q:Post} {Inv:Nat→Int→zp→Prop} {μ:Nat} (μ':Nat) {i:Int}  {H:zp} (hm:μ'<μ) (hI:Inv μ' i H):z1a (f11z_I1 yb jc sb Inv) μ Q .normal (f11z_P1 yb jc sb i) H:=⟨μ',hm,i,rfl,hI⟩
theorem f11z_x1_0  (H:zp) (K:KT)  {I:Nat→List Value→zp→Prop} {μ:Nat}:z1a I μ (zu 0 (seqQ (exL Tryz.prog z9s (cr (cr (zq Tryz.f124))) 4 4 []) (retK Tryz.prog Tryz.f124 K))) (.exit 0) (ud16 []) H=
 (K (.bool true) H):=by kernel_rfl
theorem f11z_x1_ret (t2:Bool) (H:zp) (K:KT)  {I:Nat→List Value→zp→Prop} {μ:Nat}:z1a I μ (zu 0 (seqQ (exL Tryz.prog z9s (cr (cr (zq Tryz.f124))) 4 4 []) (retK Tryz.prog Tryz.f124 K))) .ret (ud2 (.bool t2::ud13 [])) H=
 (K (.bool t2) H):=by kernel_rfl
theorem zrd:∀g,FnOk Tryz.prog g (z9s g):=FnOk.envOf (by
 intro x hx
 simp only [List.mem_cons,List.not_mem_nil,or_false] at hx
 subst hx;exact z17i)
theorem f11z_main (yb:OA) (sb jc:Nat) (H:zp) (K:KT) (h:zc3 yb sb jc H fun (r1:Bool) (H':zp)=>K (.bool r1) H'):zv Tryz.prog z9s Tryz.f124 [.slice yb sb jc] H K:=by
 rw [f11z_vc]
 obtain ⟨za,i_list,bd_9,hk⟩:=h
 obtain rfl:=i_list.eqn
 have e:(z1p za)=_:=rfl
 have e:=e.trans (zk8 za)
 have g0:=Grow.refl H
 refine f11z_L1 _ _ _ (fun (μ:Nat) (i:Int) (H_1:zp)=>∃(t2:Bool),H=H_1∧(0:Int)≤i∧i≤(za.length:Int)∧(za.length:Int)-i≤(μ:Int)∧z1p za=z8p za (μ+1) t2 i) (Int.toNat ((za.length:Int)-(0:Int))) _ H ?_ ?_
 ·exact ⟨_,rfl,ω7,ω7,ω2,e⟩
 ·intro μ i  H_1 hI
  obtain ⟨t2,rfl,v_1,v_2,hμ,e⟩:=hI
  rw [f11z_r1]
  have e:=e.trans (zdu za μ t2 i)
  have l_3:=g0.1
  refine Br.intro (fun c_4=>?_) (fun c_4=>?_)
  ·have e:=e.trans (zx c_4)
   have c_4':=of_decide_eq_true c_4
   obtain ⟨b_5,f_6,q_7⟩:=((i_list.grow g0)).pos ω0
   refine ⟨by omega,by omega,b_5,f_6,q_7,?_⟩
   refine ⟨((za).getD (i:Int).toNat 0),(i_list).rd g0 q_7 ω2 _,?_⟩
   refine z19s ?_
   refine Br.intro (fun c_8=>?_) (fun c_8=>?_)
   ·have e:=e.trans (zx c_8)
    have c_8n:=z1e c_8
    rw [f11z_x1_ret]
    rw [e] at hk
    exact hk
   ·have e:=e.trans (zw c_8)
    have c_8n:=z1d c_8
    rw [show IntKind.wrap .i64 (i+1)=(i+1) from zt ω2 ω2]
    refine f11z_n1 (μ-1) ω15 ⟨_,rfl,ω1,ω1,ω15,ω12⟩
  ·have e:=e.trans (zw c_4)
   have c_4':=of_decide_eq_false c_4
   rw [f11z_x1_0]
   rw [e] at hk
   exact hk
theorem f11z_ok:FnOk Tryz.prog 124 zid:=FnOk.bodyF mix_ok zrd Tryz.func124 rfl ω9 ω9 fun args H=>by
 unfold z14h
 split
 ·refine ⟨?_,?_,?_,?_,fun K hk=>f11z_main _ _ _ H K hk⟩
  ·intro K K' h hk;obtain ⟨za,i_list,bd_9,k⟩:=hk;exact ⟨za,i_list,bd_9,h _ _ k⟩
  ·intro _ K hk;obtain ⟨za,i_list,bd_9,k⟩:=hk;exact ⟨_,k,fun K' k'=>⟨za,i_list,bd_9,k'⟩⟩
  ·intro K hk;obtain ⟨za,i_list,bd_9,k⟩:=hk;exact ⟨_,_,k⟩
  ·nofun
 ·exact Nice.no
def zkf (x:Nat):Bool:=(bif (zqf x) then flt .f32 0 x else false)
def zii (x:Nat) (H:zp) (K:Bool→zp→Prop):Prop:=K (zkf x) H

theorem zz1 {x:Nat} {H:zp} {K:Bool→zp→Prop} (h:K (zkf x) H):zii x H K:=h
/-! f1ez: function 87 -/
def zrx:Env:=envOf [(122,S_fzz)]
def z14t (args:List Value) (H:zp):(Value→zp→Prop)→Prop:=match args with
 | [.float .f32 x]=>fun K=>zii x H fun (r1:Bool) (H':zp)=>K (.bool r1) H'
 | _=>fun _=>False
def z16a:FSpec:={F:=z14t,quiet:=true,tame:=false}
theorem z1ab (x:Nat) (H:zp) (K:KT):zv Tryz.prog zrx Tryz.f87 [.float .f32 x] H K=
 (zlj x H fun (r1:Bool) (H1:zp)=>Br r1 (K (.bool (flt .f32 0 x)) H1) (K (.bool false) H1)):=by kernel_rfl
theorem zry:∀g,FnOk Tryz.prog g (zrx g):=FnOk.envOf (by
 intro x hx
 simp only [List.mem_cons,List.not_mem_nil,or_false] at hx
 subst hx;exact z17i)
theorem zub (x:Nat) (H:zp) (K:KT) (h:zii x H fun (r1:Bool) (H':zp)=>K (.bool r1) H'):zv Tryz.prog zrx Tryz.f87 [.float .f32 x] H K:=by
 rw [z1ab]
 simp only [zlj]
 unfold zii zkf at h
 repeat' (first | exact h | (exfalso;simp_all;done) | (refine ⟨by decide,?_⟩) | (refine Br.intro (fun hb=>?_) (fun hb=>?_)<;>(try simp only [hb,cond_true,cond_false,Bool.not_true,Bool.not_false] at h)))
theorem z1aa:FnOk Tryz.prog 87 z16a:=FnOk.bodyF mix_ok zry Tryz.func87 rfl ω9 ω9 fun args H=>by
 unfold z14t
 split
 ·refine ⟨?_,?_,?_,?_,fun K hk=>zub _ H K hk⟩
  ·intro K K' h hk;have k:=hk;exact h _ _ k
  ·intro _ K hk;have k:=hk;exact ⟨_,k,fun K' k'=>k'⟩
  ·intro K hk;have k:=hk;exact ⟨_,_,k⟩
  ·nofun
 ·exact Nice.no

def zca (aa:LN) (ga:Nat):Bool:=(bif decide ((1:Int)≤(aa.length:Int)) then (bif decide (((aa.length:Int):Int)≤8) then (bif (z1p aa) then (zkf ga) else false) else false) else false)
def zdv:=@zca.eq_1
def zmz (s:Nat) (H:zp) (K:Bool→zp→Prop):Prop:=∃(eb:OA),∃(lb nb ga:Nat),∃(aa:LN),rdN H s 0 2=some [.slice eb lb nb,.float .f32 ga]∧IsL fF H eb lb aa∧aa.length<1073741824∧K (zca aa ga) H
theorem zyu {s:Nat} {H:zp} {K:Bool→zp→Prop} (h:∃(eb:OA),∃(lb nb ga:Nat),∃(aa:LN),rdN H s 0 2=some [.slice eb lb nb,.float .f32 ga]∧IsL fF H eb lb aa∧aa.length<1073741824∧K (zca aa ga) H):zmz s H K:=h

/-! f12z: function 94 -/
def zre:Env:=envOf [(124,zid),(87,z16a)]
def z14i (args:List Value) (H:zp):(Value→zp→Prop)→Prop:=match args with
 | [.pointer (some ⟨s,0,none⟩)]=>fun K=>zmz s H fun (r1:Bool) (H':zp)=>K (.bool r1) H'
 | _=>fun _=>False
def z15r:FSpec:={F:=z14i,quiet:=true,tame:=false}
theorem f12z_vc (s:Nat) (H:zp) (K:KT):zv Tryz.prog zre Tryz.f94 [.pointer (some ⟨s,0,none⟩)] H K=
 (∃og:OA,∃eg:Nat,∃qg:Nat,  rdC H s 0=some (.slice og eg qg)∧Br (decide ((1:Int)≤(eg:Int))) (∃lk:OA,∃jk:Nat,∃pk:Nat,  rdC H s 0=some (.slice lk jk pk)∧Br (decide (((jk:Int):Int)≤8)) (∃ij:OA,∃fj:Nat,∃vj:Nat,  rdC H s 0=some (.slice ij fj vj)∧zc3 ij fj vj H fun (r1:Bool) (H1:zp)=>Br r1 (∃x4:Nat,  rdC H1 s 1=some (.float .f32 x4)∧zii x4 H1 fun (r2:Bool) (H2:zp)=>K (.bool r2) H2) (K (.bool false) H1)) (K (.bool false) H)) (K (.bool false) H)):=by kernel_rfl
theorem zrf:∀g,FnOk Tryz.prog g (zre g):=FnOk.envOf (by
 intro x hx
 simp only [List.mem_cons,List.not_mem_nil,or_false] at hx
 rcases hx with rfl | rfl
 ·exact f11z_ok
 ·exact z1aa)
theorem f12z_main (s:Nat) (H:zp) (K:KT) (h:zmz s H fun (r1:Bool) (H':zp)=>K (.bool r1) H'):zv Tryz.prog zre Tryz.f94 [.pointer (some ⟨s,0,none⟩)] H K:=by
 rw [f12z_vc]
 obtain ⟨eb,lb,nb,ga,aa,i_s,dc,bd_4,hk⟩:=h
 obtain rfl:=dc.eqn
 have e:(zca aa ga)=_:=rfl
 have e:=e.trans (zdv aa ga)
 have g0:=Grow.refl H
 refine ⟨eb,aa.length,nb,(z1g (zr g0 i_s) 0 (Nat.le_of_ble_eq_true rfl)).trans rfl,?_⟩
 refine Br.intro (fun c_1=>?_) (fun c_1=>?_)
 ·have e:=e.trans (zx c_1)
  have c_1':=of_decide_eq_true c_1
  refine ⟨eb,aa.length,nb,(z1g (zr g0 i_s) 0 (Nat.le_of_ble_eq_true rfl)).trans rfl,?_⟩
  refine Br.intro (fun c_2=>?_) (fun c_2=>?_)
  ·have e:=e.trans (zx c_2)
   have c_2':=of_decide_eq_true c_2
   refine ⟨eb,aa.length,nb,(z1g (zr g0 i_s) 0 (Nat.le_of_ble_eq_true rfl)).trans rfl,?_⟩
   refine zan ⟨_,(dc.grow g0),ω0,?_⟩
   refine Br.intro (fun c_3=>?_) (fun c_3=>?_)
   ·have e:=e.trans (zx c_3)
    refine ⟨ga,(z1g (zr g0 i_s) 1 (Nat.le_of_ble_eq_true rfl)).trans rfl,?_⟩
    refine zz1 ?_
    rw [e] at hk
    exact hk
   ·have e:=e.trans (zw c_3)
    rw [e] at hk
    exact hk
  ·have e:=e.trans (zw c_2)
   have c_2':=of_decide_eq_false c_2
   rw [e] at hk
   exact hk
 ·have e:=e.trans (zw c_1)
  have c_1':=of_decide_eq_false c_1
  rw [e] at hk
  exact hk
theorem f12z_ok:FnOk Tryz.prog 94 z15r:=FnOk.bodyF mix_ok zrf Tryz.func94 rfl ω9 ω9 fun args H=>by
 unfold z14i
 split
 ·refine ⟨?_,?_,?_,?_,fun K hk=>f12z_main _ H K hk⟩
  ·intro K K' h hk;obtain ⟨eb,lb,nb,ga,aa,i_s,dc,bd_4,k⟩:=hk;exact ⟨eb,lb,nb,ga,aa,i_s,dc,bd_4,h _ _ k⟩
  ·intro _ K hk;obtain ⟨eb,lb,nb,ga,aa,i_s,dc,bd_4,k⟩:=hk;exact ⟨_,k,fun K' k'=>⟨eb,lb,nb,ga,aa,i_s,dc,bd_4,k'⟩⟩
  ·intro K hk;obtain ⟨eb,lb,nb,ga,aa,i_s,dc,bd_4,k⟩:=hk;exact ⟨_,_,k⟩
  ·nofun
 ·exact Nice.no
def z8g (n low high:Int):Bool:=(bif decide ((low:Int)≤n) then decide ((n:Int)≤high) else false)
def zc4 (n low high:Int) (H:zp) (K:Bool→zp→Prop):Prop:=K (z8g n low high) H
theorem f21z_t {n a b:Int} (h:z8g n a b=true):a≤n∧n≤b:=by
 unfold z8g at h
 by_cases h1:a≤n
 ·rw [decide_eq_true h1,cond_true] at h;exact ⟨h1,of_decide_eq_true h⟩
 ·rw [decide_eq_false h1] at h;cases h
/-! f21z: function 86 -/
def zss:Env:=envOf []
def z15o (args:List Value) (H:zp):(Value→zp→Prop)→Prop:=match args with
 | [.int .i64 n,.int .i64 low,.int .i64 high]=>fun K=>zc4 n low high H fun (r1:Bool) (H':zp)=>K (.bool r1) H'
 | _=>fun _=>False
def zt2:FSpec:={F:=z15o,quiet:=true,tame:=false}
theorem f21z_vc (n low high:Int) (H:zp) (K:KT):zv Tryz.prog zss Tryz.f86 [.int .i64 n,.int .i64 low,.int .i64 high] H K=
 (Br (decide ((low:Int)≤n)) (K (.bool (decide ((n:Int)≤high))) H) (K (.bool false) H)):=by kernel_rfl
theorem zst:∀g,FnOk Tryz.prog g (zss g):=FnOk.envOf (by
 intro x hx;cases hx)
theorem f21z_main (n low high:Int) (H:zp) (K:KT) (h:zc4 n low high H fun (r1:Bool) (H':zp)=>K (.bool r1) H'):zv Tryz.prog zss Tryz.f86 [.int .i64 n,.int .i64 low,.int .i64 high] H K:=by
 rw [f21z_vc]
 unfold zc4 z8g at h
 repeat' (first | exact h | (exfalso;simp_all;done) | (refine ⟨by decide,?_⟩) | (refine Br.intro (fun hb=>?_) (fun hb=>?_)<;>(try simp only [hb,cond_true,cond_false,Bool.not_true,Bool.not_false] at h)))
theorem f21z_ok:FnOk Tryz.prog 86 zt2:=FnOk.bodyF mix_ok zst Tryz.func86 rfl ω9 ω9 fun args H=>by
 unfold z15o
 split
 ·refine ⟨?_,?_,?_,?_,fun K hk=>f21z_main _ _ _ H K hk⟩
  ·intro K K' h hk;have k:=hk;exact h _ _ k
  ·intro _ K hk;have k:=hk;exact ⟨_,k,fun K' k'=>k'⟩
  ·intro K hk;have k:=hk;exact ⟨_,_,k⟩
  ·nofun
 ·exact Nice.no
def zkh (wide high:Int):Bool:=(bif (z8g wide 1 16) then (z8g high 1 16) else false)
def zki:=@zkh.eq_1
def zil (wide high:Int) (H:zp) (K:Bool→zp→Prop):Prop:=K (zkh wide high) H

theorem zz2 {wide high:Int} {H:zp} {K:Bool→zp→Prop} (h:K (zkh wide high) H):zil wide high H K:=h
/-! f1hz: function 125 -/
def zs2:Env:=envOf [(86,zt2)]
def z14w (args:List Value) (H:zp):(Value→zp→Prop)→Prop:=match args with
 | [.int .i64 wide,.int .i64 high]=>fun K=>zil wide high H fun (r1:Bool) (H':zp)=>K (.bool r1) H'
 | _=>fun _=>False
def z16c:FSpec:={F:=z14w,quiet:=true,tame:=false}
theorem z1am (wide high:Int) (H:zp) (K:KT):zv Tryz.prog zs2 Tryz.f125 [.int .i64 wide,.int .i64 high] H K=
 (zc4 wide 1 16 H fun (r1:Bool) (H1:zp)=>Br r1 (zc4 high 1 16 H1 fun (r2:Bool) (H2:zp)=>K (.bool r2) H2) (K (.bool false) H1)):=by kernel_rfl
theorem zs3:∀g,FnOk Tryz.prog g (zs2 g):=FnOk.envOf (by
 intro x hx
 simp only [List.mem_cons,List.not_mem_nil,or_false] at hx
 subst hx;exact f21z_ok)
theorem zuh (wide high:Int) (H:zp) (K:KT) (h:zil wide high H fun (r1:Bool) (H':zp)=>K (.bool r1) H'):zv Tryz.prog zs2 Tryz.f125 [.int .i64 wide,.int .i64 high] H K:=by
 rw [z1am]
 simp only [zc4]
 unfold zil zkh at h
 repeat' (first | exact h | (exfalso;simp_all;done) | (refine ⟨by decide,?_⟩) | (refine Br.intro (fun hb=>?_) (fun hb=>?_)<;>(try simp only [hb,cond_true,cond_false,Bool.not_true,Bool.not_false] at h)))
theorem z1al:FnOk Tryz.prog 125 z16c:=FnOk.bodyF mix_ok zs3 Tryz.func125 rfl ω9 ω9 fun args H=>by
 unfold z14w
 split
 ·refine ⟨?_,?_,?_,?_,fun K hk=>zuh _ _ H K hk⟩
  ·intro K K' h hk;have k:=hk;exact h _ _ k
  ·intro _ K hk;have k:=hk;exact ⟨_,k,fun K' k'=>k'⟩
  ·intro K hk;have k:=hk;exact ⟨_,_,k⟩
  ·nofun
 ·exact Nice.no

def ze8 (da va:Int) (ba:LN):Bool:=((bif (zkh da va) then (bif ((ba.length:Int):Int)==IntKind.wrap .i64 (da*va) then (z1p ba) else false) else false))
def ze9:=@ze8.eq_1
def znp (p:Nat) (H:zp) (K:Bool→zp→Prop):Prop:=∃(da va:Int),∃(gb:OA),∃(jb pb:Nat),∃(ba:LN),rdN H p 0 3=some [.int .i64 da,.int .i64 va,.slice gb jb pb]∧IsL fF H gb jb ba∧ba.length<1073741824∧K (ze8 da va ba) H
theorem zzg {p:Nat} {H:zp} {K:Bool→zp→Prop} (h:∃(da va:Int),∃(gb:OA),∃(jb pb:Nat),∃(ba:LN),rdN H p 0 3=some [.int .i64 da,.int .i64 va,.slice gb jb pb]∧IsL fF H gb jb ba∧ba.length<1073741824∧K (ze8 da va ba) H):znp p H K:=h
theorem ω23 {P:Prop} (h:P:=by decide):P:=h
theorem f22z_t {w h:Int} {l:LN} (hh:ze8 w h l=true):1≤w∧w≤16∧1≤h∧h≤16∧(l.length:Int)=w*h∧(l.length:Int)≤256∧1≤(l.length:Int):=by
 rw [ze9,zki] at hh
 simp only [Bool.cond_false_right,Bool.and_eq_true] at hh
 obtain ⟨⟨a,b⟩,c,-⟩:=hh
 have a:=f21z_t a
 have b:=f21z_t b
 have h1:w*h≤16*16:=Int.mul_le_mul ω2 ω2 ω2 ω23
 have h2:1*1≤w*h:=Int.mul_le_mul ω2 ω2 ω2 ω2
 have c:=eq_of_beq c
 rw [zt ω2 ω2] at c
 exact ⟨a.1,a.2,b.1,b.2,c,by omega,by omega⟩
/-! f22z: function 98 -/
def zsu:Env:=envOf [(125,z16c),(124,zid)]
def z15p (args:List Value) (H:zp):(Value→zp→Prop)→Prop:=match args with
 | [.pointer (some ⟨p,0,none⟩)]=>fun K=>znp p H fun (r1:Bool) (H':zp)=>K (.bool r1) H'
 | _=>fun _=>False
def z16r:FSpec:={F:=z15p,quiet:=true,tame:=false}
theorem f22z_vc (p:Nat) (H:zp) (K:KT):zv Tryz.prog zsu Tryz.f98 [.pointer (some ⟨p,0,none⟩)] H K=
 (∃x1:Int,  rdC H p 1=some (.int .i64 x1)∧∃x2:Int,  rdC H p 0=some (.int .i64 x2)∧zil x2 x1 H fun (r1:Bool) (H1:zp)=>Br r1 (∃x3:Int,  rdC H1 p 1=some (.int .i64 x3)∧∃x4:Int,  rdC H1 p 0=some (.int .i64 x4)∧∃zi:OA,∃xi:Nat,∃wj:Nat,  rdC H1 p 2=some (.slice zi xi wj)∧Br (((xi:Int):Int)==IntKind.wrap .i64 (x4*x3)) (∃ai:OA,∃zh:Nat,∃ki:Nat,  rdC H1 p 2=some (.slice ai zh ki)∧zc3 ai zh ki H1 fun (r2:Bool) (H2:zp)=>K (.bool r2) H2) (K (.bool false) H1)) (K (.bool false) H1)):=by kernel_rfl
theorem zsv:∀g,FnOk Tryz.prog g (zsu g):=FnOk.envOf (by
 intro x hx
 simp only [List.mem_cons,List.not_mem_nil,or_false] at hx
 rcases hx with rfl | rfl
 ·exact z1al
 ·exact f11z_ok)
theorem f22z_main (p:Nat) (H:zp) (K:KT) (h:znp p H fun (r1:Bool) (H':zp)=>K (.bool r1) H'):zv Tryz.prog zsu Tryz.f98 [.pointer (some ⟨p,0,none⟩)] H K:=by
 rw [f22z_vc]
 obtain ⟨da,va,gb,jb,pb,ba,i_p,bc,bd_3,hk⟩:=h
 obtain rfl:=bc.eqn
 have e:(ze8 da va ba)=_:=rfl
 have e:=e.trans (ze9 da va ba)
 have g0:=Grow.refl H
 refine ⟨va,(z1g (zr g0 i_p) 1 (Nat.le_of_ble_eq_true rfl)).trans rfl,?_⟩
 refine ⟨da,(z1g (zr g0 i_p) 0 (Nat.le_of_ble_eq_true rfl)).trans rfl,?_⟩
 refine zz2 ?_
 refine Br.intro (fun c_1=>?_) (fun c_1=>?_)
 ·have e:=e.trans (zx c_1)
  refine ⟨va,(z1g (zr g0 i_p) 1 (Nat.le_of_ble_eq_true rfl)).trans rfl,?_⟩
  refine ⟨da,(z1g (zr g0 i_p) 0 (Nat.le_of_ble_eq_true rfl)).trans rfl,?_⟩
  refine ⟨gb,ba.length,pb,(z1g (zr g0 i_p) 2 (Nat.le_of_ble_eq_true rfl)).trans rfl,?_⟩
  refine Br.intro (fun c_2=>?_) (fun c_2=>?_)
  ·have e:=e.trans (zx c_2)
   have c_2':=zjr c_2
   refine ⟨gb,ba.length,pb,(z1g (zr g0 i_p) 2 (Nat.le_of_ble_eq_true rfl)).trans rfl,?_⟩
   refine zan ⟨_,(bc.grow g0),ω0,?_⟩
   rw [e] at hk
   exact hk
  ·have e:=e.trans (zw c_2)
   have c_2':=zjq c_2
   rw [e] at hk
   exact hk
 ·have e:=e.trans (zw c_1)
  rw [e] at hk
  exact hk
theorem f22z_ok:FnOk Tryz.prog 98 z16r:=FnOk.bodyF mix_ok zsv Tryz.func98 rfl ω9 ω9 fun args H=>by
 unfold z15p
 split
 ·refine ⟨?_,?_,?_,?_,fun K hk=>f22z_main _ H K hk⟩
  ·intro K K' h hk;obtain ⟨da,va,gb,jb,pb,ba,i_p,bc,bd_3,k⟩:=hk;exact ⟨da,va,gb,jb,pb,ba,i_p,bc,bd_3,h _ _ k⟩
  ·intro _ K hk;obtain ⟨da,va,gb,jb,pb,ba,i_p,bc,bd_3,k⟩:=hk;exact ⟨_,k,fun K' k'=>⟨da,va,gb,jb,pb,ba,i_p,bc,bd_3,k'⟩⟩
  ·intro K hk;obtain ⟨da,va,gb,jb,pb,ba,i_p,bc,bd_3,k⟩:=hk;exact ⟨_,_,k⟩
  ·nofun
 ·exact Nice.no

def zb5 (aa:LN) (ga:Nat) (da va:Int) (ba:LN):Bool:=(bif (zca aa ga) then (ze8 da va ba) else false)
def zb6:=@zb5.eq_1
def znl (s p:Nat) (H:zp) (K:Bool→zp→Prop):Prop:=∃(eb:OA),∃(lb nb ga:Nat),∃(da va:Int),∃(gb:OA),∃(jb pb:Nat),∃(aa ba:LN),rdN H s 0 2=some [.slice eb lb nb,.float .f32 ga]∧rdN H p 0 3=some [.int .i64 da,.int .i64 va,.slice gb jb pb]∧IsL fF H eb lb aa∧IsL fF H gb jb ba∧aa.length<1073741824∧ba.length<1073741824∧K (zb5 aa ga da va ba) H
theorem zzb {s p:Nat} {H:zp} {K:Bool→zp→Prop} (h:∃(eb:OA),∃(lb nb ga:Nat),∃(da va:Int),∃(gb:OA),∃(jb pb:Nat),∃(aa ba:LN),rdN H s 0 2=some [.slice eb lb nb,.float .f32 ga]∧rdN H p 0 3=some [.int .i64 da,.int .i64 va,.slice gb jb pb]∧IsL fF H eb lb aa∧IsL fF H gb jb ba∧aa.length<1073741824∧ba.length<1073741824∧K (zb5 aa ga da va ba) H):znl s p H K:=h
theorem z16y {ws:LN} {sc:Nat} {w h:Int} {l:LN} (hh:zb5 ws sc w h l=true):1≤w∧w≤16∧1≤h∧h≤16∧(l.length:Int)=w*h∧(l.length:Int)≤256∧1≤(l.length:Int):=by
 rw [zb6] at hh
 cases h1:zca ws sc with
 | false=>rw [h1] at hh;cases hh
 | true=>rw [h1] at hh;exact f22z_t hh
/-! f1xz: function 45 -/
def zsm:Env:=envOf [(94,z15r),(98,z16r)]
def z15k (args:List Value) (H:zp):(Value→zp→Prop)→Prop:=match args with
 | [.pointer (some ⟨s,0,none⟩),.pointer (some ⟨p,0,none⟩)]=>fun K=>znl s p H fun (r1:Bool) (H':zp)=>K (.bool r1) H'
 | _=>fun _=>False
def z16n:FSpec:={F:=z15k,quiet:=true,tame:=false}
theorem z1c1 (s p:Nat) (H:zp) (K:KT):zv Tryz.prog zsm Tryz.f45 [.pointer (some ⟨s,0,none⟩),.pointer (some ⟨p,0,none⟩)] H K=
 (zmz s H fun (r1:Bool) (H1:zp)=>Br r1 (znp p H1 fun (r2:Bool) (H2:zp)=>K (.bool r2) H2) (K (.bool false) H1)):=by kernel_rfl
theorem zsn:∀g,FnOk Tryz.prog g (zsm g):=FnOk.envOf (by
 intro x hx
 simp only [List.mem_cons,List.not_mem_nil,or_false] at hx
 rcases hx with rfl | rfl
 ·exact f12z_ok
 ·exact f22z_ok)
theorem zv6 (s p:Nat) (H:zp) (K:KT) (h:znl s p H fun (r1:Bool) (H':zp)=>K (.bool r1) H'):zv Tryz.prog zsm Tryz.f45 [.pointer (some ⟨s,0,none⟩),.pointer (some ⟨p,0,none⟩)] H K:=by
 rw [z1c1]
 obtain ⟨eb,lb,nb,ga,da,va,gb,jb,pb,aa,ba,i_s,i_p,dc,bc,bd_2,bd_3,hk⟩:=h
 obtain rfl:=dc.eqn
 obtain rfl:=bc.eqn
 have e:(zb5 aa ga da va ba)=_:=rfl
 have e:=e.trans (zb6 aa ga da va ba)
 have g0:=Grow.refl H
 refine zyu ⟨eb,aa.length,nb,ga,_,(zr g0 i_s),(dc.grow g0),ω0,?_⟩
 refine Br.intro (fun c_1=>?_) (fun c_1=>?_)
 ·have e:=e.trans (zx c_1)
  refine zzg ⟨da,va,gb,ba.length,pb,_,(zr g0 i_p),(bc.grow g0),ω0,?_⟩
  rw [e] at hk
  exact hk
 ·have e:=e.trans (zw c_1)
  rw [e] at hk
  exact hk
theorem z1c0:FnOk Tryz.prog 45 z16n:=FnOk.bodyF mix_ok zsn Tryz.func45 rfl ω9 ω9 fun args H=>by
 unfold z15k
 split
 ·refine ⟨?_,?_,?_,?_,fun K hk=>zv6 _ _ H K hk⟩
  ·intro K K' h hk;obtain ⟨eb,lb,nb,ga,da,va,gb,jb,pb,aa,ba,i_s,i_p,dc,bc,bd_2,bd_3,k⟩:=hk;exact ⟨eb,lb,nb,ga,da,va,gb,jb,pb,aa,ba,i_s,i_p,dc,bc,bd_2,bd_3,h _ _ k⟩
  ·intro _ K hk;obtain ⟨eb,lb,nb,ga,da,va,gb,jb,pb,aa,ba,i_s,i_p,dc,bc,bd_2,bd_3,k⟩:=hk;exact ⟨_,k,fun K' k'=>⟨eb,lb,nb,ga,da,va,gb,jb,pb,aa,ba,i_s,i_p,dc,bc,bd_2,bd_3,k'⟩⟩
  ·intro K hk;obtain ⟨eb,lb,nb,ga,da,va,gb,jb,pb,aa,ba,i_s,i_p,dc,bc,bd_2,bd_3,k⟩:=hk;exact ⟨_,_,k⟩
  ·nofun
 ·exact Nice.no
def zfp (levels:Int):Bool:=(z8g levels 1 4)
def zwk:=@zfp.eq_1
def zn0 (levels:Int) (H:zp) (K:Bool→zp→Prop):Prop:=K (zfp levels) H
/-! f14z: function 46 -/
def zrh:Env:=envOf [(86,zt2)]
def z14k (args:List Value) (H:zp):(Value→zp→Prop)→Prop:=match args with
 | [.int .i64 levels]=>fun K=>zn0 levels H fun (r1:Bool) (H':zp)=>K (.bool r1) H'
 | _=>fun _=>False
def z15t:FSpec:={F:=z14k,quiet:=true,tame:=false}
theorem f14z_vc (levels:Int) (H:zp) (K:KT):zv Tryz.prog zrh Tryz.f46 [.int .i64 levels] H K=
 (zc4 levels 1 4 H fun (r1:Bool) (H1:zp)=>K (.bool r1) H1):=by kernel_rfl
theorem zri:∀g,FnOk Tryz.prog g (zrh g):=FnOk.envOf (by
 intro x hx
 simp only [List.mem_cons,List.not_mem_nil,or_false] at hx
 subst hx;exact f21z_ok)
theorem f14z_main (levels:Int) (H:zp) (K:KT) (h:zn0 levels H fun (r1:Bool) (H':zp)=>K (.bool r1) H'):zv Tryz.prog zrh Tryz.f46 [.int .i64 levels] H K:=by
 rw [f14z_vc]
 simp only [zc4]
 unfold zn0 zfp at h
 repeat' (first | exact h | (exfalso;simp_all;done) | (refine ⟨by decide,?_⟩) | (refine Br.intro (fun hb=>?_) (fun hb=>?_)<;>(try simp only [hb,cond_true,cond_false,Bool.not_true,Bool.not_false] at h)))
theorem f14z_ok:FnOk Tryz.prog 46 z15t:=FnOk.bodyF mix_ok zri Tryz.func46 rfl ω9 ω9 fun args H=>by
 unfold z14k
 split
 ·refine ⟨?_,?_,?_,?_,fun K hk=>f14z_main _ H K hk⟩
  ·intro K K' h hk;have k:=hk;exact h _ _ k
  ·intro _ K hk;have k:=hk;exact ⟨_,k,fun K' k'=>k'⟩
  ·intro K hk;have k:=hk;exact ⟨_,_,k⟩
  ·nofun
 ·exact Nice.no

def zb7 (da va:Int) (ba:LN):Int×Int×LN:=(da,va,(([]:LN)++ba))
def zwm:=@zb7.eq_1
def znm (p:Nat) (H:zp) (K:Int→Int→OA→Nat→Nat→zp→Prop):Prop:=∃(da va:Int),∃(gb:OA),∃(jb pb:Nat),∃(ba:LN),rdN H p 0 3=some [.int .i64 da,.int .i64 va,.slice gb jb pb]∧IsL fF H gb jb ba∧ba.length<1073741824∧((∀(ia:OA) (ma ja:Nat),∀H':zp,Grow H H'→OwnS fF H' H.length ia ma ja ((zb7 da va ba).2.2)→K ((zb7 da va ba).1) ((zb7 da va ba).2.1) ia ma ja H'))
theorem zzc {p:Nat} {H:zp} {K:Int→Int→OA→Nat→Nat→zp→Prop} (h:∃(da va:Int),∃(gb:OA),∃(jb pb:Nat),∃(ba:LN),rdN H p 0 3=some [.int .i64 da,.int .i64 va,.slice gb jb pb]∧IsL fF H gb jb ba∧ba.length<1073741824∧((∀(ia:OA) (ma ja:Nat),∀H':zp,Grow H H'→OwnS fF H' H.length ia ma ja ((zb7 da va ba).2.2)→K ((zb7 da va ba).1) ((zb7 da va ba).2.1) ia ma ja H'))):znm p H K:=h

/-! f1yz: function 101 -/
def zso:Env:=envOf []
def z15l (args:List Value) (H:zp):(Value→zp→Prop)→Prop:=match args with
 | [.pointer (some ⟨p,0,none⟩)]=>fun K=>znm p H fun (ld:Int) (jd:Int) (ia:OA) (ma:Nat) (ja:Nat) (H':zp)=>K (.agg #[.int .i64 ld,.int .i64 jd,.slice ia ma ja]) H'
 | _=>fun _=>False
def z16o:FSpec:={F:=z15l,quiet:=false,tame:=true}
theorem z1c3 (p:Nat) (H:zp) (K:KT):zv Tryz.prog zso Tryz.f101 [.pointer (some ⟨p,0,none⟩)] H K=
 (Al [.int .i64 0,.int .i64 0,.slice none 0 0] H fun b1 H1=>∃og:OA,∃eg:Nat,∃qg:Nat,  rdC H1 p 2=some (.slice og eg qg)∧∃x2:Int,  rdC H1 p 1=some (.int .i64 x2)∧∃x3:Int,  rdC H1 p 0=some (.int .i64 x3)∧Al [] H1 fun b2 H2=>∃o1 w1:List Value,ownB H2 (some ⟨b2,0,none⟩) 0 1 1=some o1∧rdS H2 og (eg*1)=some w1∧((some ⟨b2,0,none⟩:OA)=none→0<(eg:Nat))∧(0:Nat)+eg<most∧Ap H2 (z2v H2 (some ⟨b2,0,none⟩)++[some ⟨o1++w1,true⟩]) fun b3 H3=>isOwn H3 b1∧(∃l,rdN H3 b1 0 3=some l)∧Lt (setN H3 b1 0 [.int .i64 x3,.int .i64 x2,.slice (some ⟨b3,0,none⟩) (0+eg) 1]) fun H4=>∃c1:Int,∃c2:Int,∃zg:OA,∃bh:Nat,∃ah:Nat,  rdN H4 b1 0 3=some [.int .i64 c1,.int .i64 c2,.slice zg bh ah]∧K (.agg #[.int .i64 c1,.int .i64 c2,.slice zg bh ah]) H4):=by kernel_rfl
theorem zsp:∀g,FnOk Tryz.prog g (zso g):=FnOk.envOf (by
 intro x hx;cases hx)
theorem ω3 {P:Prop} (h:P:=by first | (simp only [List.length_map,List.length_cons,List.length_nil,List.length_append];done) | (simp only [List.length_map,List.length_cons,List.length_nil,List.length_append];omega) | (simp only [List.length_map,List.length_cons,List.length_nil,List.length_append,List.length_take,List.length_drop];omega)):P:=h
theorem ω8 {P:Prop} (h:P:=by first | omega | (simp only [List.length_append,List.length_cons,List.length_nil];done) | (simp only [List.length_append,List.length_cons,List.length_nil];omega) | (simp only [List.length_append,List.length_cons,List.length_nil,List.length_take,List.length_drop];omega)):P:=h
theorem zv7 (p:Nat) (H:zp) (K:KT) (h:znm p H fun (ld:Int) (jd:Int) (ia:OA) (ma:Nat) (ja:Nat) (H':zp)=>K (.agg #[.int .i64 ld,.int .i64 jd,.slice ia ma ja]) H'):zv Tryz.prog zso Tryz.f101 [.pointer (some ⟨p,0,none⟩)] H K:=by
 rw [z1c3]
 obtain ⟨da,va,gb,jb,pb,ba,i_p,bc,bd_44,hk⟩:=h
 obtain rfl:=bc.eqn
 have e:(zb7 da va ba)=_:=rfl
 have e:=e.trans (zwm da va ba)
 have g0:=Grow.refl H
 refine Al.intro (fun b_1 H_1 hb_2 hl_3 g_4 o_5=>?_)
 have l_7:=g_4.1
 have g_8:=g0.trans g_4
 have l_9:=g_8.1
 have w43:=o_5.lt
 refine ⟨gb,ba.length,pb,(z1g (zr g_8 i_p) 2 (Nat.le_of_ble_eq_true rfl)).trans rfl,?_⟩
 refine ⟨va,(z1g (zr g_8 i_p) 1 (Nat.le_of_ble_eq_true rfl)).trans rfl,?_⟩
 refine ⟨da,(z1g (zr g_8 i_p) 0 (Nat.le_of_ble_eq_true rfl)).trans rfl,?_⟩
 refine Al.intro (fun b_10 H_2 hb_11 hl_12 g_13 o_14=>?_)
 have o_14:Own H_2 b_10 ((([]:LN)).map fF):=o_14
 have l_16:=g_13.1
 have g_17:=g_8.trans g_13
 have l_18:=g_17.1
 have o_19:=o_5.grow g_13
 have w20:=o_19.lt
 have w42:=o_14.lt
 refine ⟨_,_,o_14.ownB ω3 rfl,(z2m (bc.grow g_17)),(fun h=>by cases h),ω25,?_⟩
 refine Ap.app o_14 rfl rfl (fun b25 H_3 q40 hl_21 o22 k23=>?_)
 have o22:=z2c o22
 have l26:=k23.1
 have g27:=g_17.keep (b:=b_10) ω2 k23
 have l28:=g27.1
 have o29:=o_19.keep ω2 k23
 have w30:=o29.lt
 have w41:=o22.lt
 refine Lt.setN (n:=3) o29 (Nat.le_of_ble_eq_true rfl) rfl (fun H_4 hl_31 o33 k32=>?_)
 have o33:Own H_4 b_1 [.int .i64 da,.int .i64 va,.slice (some ⟨b25,0,none⟩) (0+ba.length) 1]:=o33
 have l34:=k32.1
 have g35:=g27.keep (b:=b_1) ω2 k32
 have l36:=g35.1
 have o37:=o22.keep ω2 k32
 have w38:=o37.lt
 have w39:=o33.lt
 refine ⟨da,va,some ⟨b25,0,none⟩,0+ba.length,1,(o33.rdN (Nat.le_of_ble_eq_true rfl)).trans rfl,?_⟩
 rw [e] at hk
 exact hk _ _ _ H_4 g35 (o37.ownS ω8 ω2)
theorem z1c2:FnOk Tryz.prog 101 z16o:=FnOk.bodyF mix_ok zsp Tryz.func101 rfl ω9 ω9 fun args H=>by
 unfold z15l
 split
 ·refine ⟨?_,?_,?_,?_,fun K hk=>zv7 _ H K hk⟩
  ·intro K K' h hk;obtain ⟨da,va,gb,jb,pb,ba,i_p,bc,bd_44,k⟩:=hk;exact ⟨da,va,gb,jb,pb,ba,i_p,bc,bd_44,(fun ia ma ja H' gg ow0=>h _ _ (k ia ma ja H' gg ow0))⟩
  ·nofun
  ·intro K hk;obtain ⟨da,va,gb,jb,pb,ba,i_p,bc,bd_44,k⟩:=hk;exact z4v fun a n e H1 g o=>⟨_,_,k a n e H1 g o⟩
  ·intro _ K hk;obtain ⟨da,va,gb,jb,pb,ba,i_p,bc,bd_44,k⟩:=hk;exact ⟨da,va,gb,jb,pb,ba,i_p,bc,bd_44,(fun ia ma ja H' gg ow0=>⟨gg,k ia ma ja H' gg ow0⟩)⟩
 ·exact Nice.no

def z8q (wide high n:Int):Nat→Int→Int→Int→Int×Int
 | 0,_,_,_=>(0,0)
 | μ+1,wide_0,high_1,k=>(bif decide ((k:Int)<n) then (z8q wide high n μ ((Int.tdiv (wide_0+1) 2)) ((Int.tdiv (high_1+1) 2)) (k+1)) else (wide_0,high_1))
def za6:=fun wide high n μ wide_0 high_1 k=>@z8q.eq_2 wide high n wide_0 high_1 k μ
def z2n (wide high n:Int):Int×Int:=(z8q wide high n (Int.toNat (n-(0:Int))+1) wide high (0:Int))
def zk9:=@z2n.eq_1
def zt4 (wide high n:Int) (H:zp) (K:Int→Int→zp→Prop):Prop:=1≤wide∧wide≤16∧1≤high∧high≤16∧n≤1000∧K ((z2n wide high n).1) ((z2n wide high n).2) H
theorem zjw (w h n:Int):∀(μ:Nat) (a b k:Int),1≤a→a≤16→1≤b→b≤16→n-k≤μ→z8q w h n (μ+1) a b k=(z5x (n-k).toNat a,z5x (n-k).toNat b):=by
 intro μ
 induction μ with
 | zero=>
  intro a b k h1 h2 h3 h4 hm
  rw [za6,decide_eq_false ω2,cond_false,show (n-k).toNat=0 by omega];rfl
 | succ μ ih=>
  intro a b k h1 h2 h3 h4 hm
  rw [za6]
  by_cases h:k<n
  ·rw [decide_eq_true h,cond_true,zdj h1,zdj h3]
   have ra:=zav h1 h2
   have rb:=zav h3 h4
   obtain ⟨j,hj⟩:∃j,(n-k).toNat=j+1:=⟨(n-k).toNat-1,by omega⟩
   rw [ih (zhc a) (zhc b) (k+1) ω2 ω2 ω2 ω2 ω2,hj,show (n-(k+1)).toNat=j by omega];rfl
  ·rw [decide_eq_false h,cond_false,show (n-k).toNat=0 by omega];rfl
theorem zc7 (w h n:Int) (h1:1≤w) (h2:w≤16) (h3:1≤h) (h4:h≤16):z2n w h n=(z5x n.toNat w,z5x n.toNat h):=by
 rw [zk9,zjw w h n _ w h 0 h1 h2 h3 h4 ω2,show n-0=n by omega]
theorem zhg (w h n:Int):1≤w∧w≤16∧1≤h∧h≤16→1≤(z2n w h n).1∧(z2n w h n).1≤w∧1≤(z2n w h n).2∧(z2n w h n).2≤h:=fun ⟨h1,h2,h3,h4⟩=>by
 rw [zc7 w h n h1 h2 h3 h4]
 have a:=z6y n.toNat w h1 h2
 have b:=z6y n.toNat h h3 h4
 exact ⟨a.1,a.2,b.1,b.2⟩
/-! f13z: function 102 -/
def zaj:Env:=envOf []
def z14j (args:List Value) (H:zp):(Value→zp→Prop)→Prop:=match args with
 | [.int .i64 wide,.int .i64 high,.int .i64 n]=>fun K=>zt4 wide high n H fun (r1:Int) (r2:Int) (H':zp)=>K (.tuple #[.int .i64 r1,.int .i64 r2]) H'
 | _=>fun _=>False
def z15s:FSpec:={F:=z14j,quiet:=true,tame:=false}
theorem f13z_vc (wide high n:Int) (H:zp) (K:KT):zv Tryz.prog zaj Tryz.f102 [.int .i64 wide,.int .i64 high,.int .i64 n] H K=
 (z1i (exL Tryz.prog zaj (cl (cl (cr (cl (cr (zq Tryz.f102)))))) 263 192 [(0,3)]) (.int .i64 wide::.int .i64 high::.int .i64 n::ud5 (.int .i64 0::ud13 [])) H (zu 0 (seqQ (exL Tryz.prog zaj (cr (cr (zq Tryz.f102))) 192 192 []) (retK Tryz.prog Tryz.f102 K)))):=by kernel_rfl
abbrev f13z_P1 (n wide_0 high_1 k:Int)  :List Value:=(.int .i64 wide_0::.int .i64 high_1::.int .i64 n::ud5 (.int .i64 k::ud13 []))
theorem f13z_r1 (n wide_0 high_1 k:Int)  (H:zp) (R:Post):exL Tryz.prog zaj (cl (cl (cr (cl (cr (zq Tryz.f102)))))) 263 192 [(0,3)] (f13z_P1 n wide_0 high_1 k) H R=
 (Br (decide ((k:Int)<n)) (2≠(0:Int)∧2≠(0:Int)∧R .normal (.int .i64 (IntKind.wrap .i64 (Int.tdiv (IntKind.wrap .i64 (wide_0+1)) 2))::.int .i64 (IntKind.wrap .i64 (Int.tdiv (IntKind.wrap .i64 (high_1+1)) 2))::.int .i64 n::ud5 (.int .i64 (IntKind.wrap .i64 (k+1))::ud13 [])) H) (R (.exit 0) (.int .i64 wide_0::.int .i64 high_1::ud20 []) H)):=by kernel_rfl
def f13z_I1 (n:Int) (Inv:Nat→Int→Int→Int→zp→Prop):Nat→List Value→zp→Prop:=fun μ tm H=>∃(wide_0 high_1 k:Int),tm=(f13z_P1 n wide_0 high_1 k)∧Inv μ wide_0 high_1 k H
theorem f13z_L1 (n:Int) {Q:Post} (Inv:Nat→Int→Int→Int→zp→Prop) (ν:Nat) (wide_0 high_1 k:Int)  (H:zp) (h0:Inv ν wide_0 high_1 k H)
  (hs:∀(μ:Nat) (wide_0:Int) (high_1:Int) (k:Int)  (H:zp),Inv μ wide_0 high_1 k H→exL Tryz.prog zaj (cl (cl (cr (cl (cr (zq Tryz.f102)))))) 263 192 [(0,3)] (f13z_P1 n wide_0 high_1 k) H (z1a (f13z_I1 n Inv) μ Q)):z1i (exL Tryz.prog zaj (cl (cl (cr (cl (cr (zq Tryz.f102)))))) 263 192 [(0,3)]) (f13z_P1 n wide_0 high_1 k) H Q:=
 ⟨f13z_I1 n Inv,ν,⟨wide_0,high_1,k,rfl,h0⟩,fun μ tm H h=>by obtain ⟨wide_0,high_1,k,rfl,hI⟩:=h;exact hs μ wide_0 high_1 k  H hI⟩
theorem f13z_n1 {n:Int} {Q:Post} {Inv:Nat→Int→Int→Int→zp→Prop} {μ:Nat} (μ':Nat) {wide_0 high_1 k:Int}  {H:zp} (hm:μ'<μ) (hI:Inv μ' wide_0 high_1 k H):z1a (f13z_I1 n Inv) μ Q .normal (f13z_P1 n wide_0 high_1 k) H:=⟨μ',hm,wide_0,high_1,k,rfl,hI⟩
theorem f13z_x1_0 (wide_0 high_1:Int) (H:zp) (K:KT)  {I:Nat→List Value→zp→Prop} {μ:Nat}:z1a I μ (zu 0 (seqQ (exL Tryz.prog zaj (cr (cr (zq Tryz.f102))) 192 192 []) (retK Tryz.prog Tryz.f102 K))) (.exit 0) (.int .i64 wide_0::.int .i64 high_1::ud20 []) H=
 (K (.tuple #[.int .i64 wide_0,.int .i64 high_1]) H):=by kernel_rfl
theorem zrg:∀g,FnOk Tryz.prog g (zaj g):=FnOk.envOf (by
 intro x hx;cases hx)
theorem ω22 {P:Prop} (h:P:=by first | omega | decide | (simp;done) | (simp;omega)):P:=h
theorem f13z_main (wide high n:Int) (H:zp) (K:KT) (h:zt4 wide high n H fun (r1:Int) (r2:Int) (H':zp)=>K (.tuple #[.int .i64 r1,.int .i64 r2]) H'):zv Tryz.prog zaj Tryz.f102 [.int .i64 wide,.int .i64 high,.int .i64 n] H K:=by
 rw [f13z_vc]
 obtain ⟨pr0,pr1,pr2,pr3,pr4,hk⟩:=h
 have e:(z2n wide high n)=_:=rfl
 have e:=e.trans (zk9 wide high n)
 have g0:=Grow.refl H
 refine f13z_L1 _ (fun (μ:Nat) (wide_0:Int) (high_1:Int) (k:Int) (H_1:zp)=>H=H_1∧(0:Int)≤k∧((k≤n∨k≤(0:Int)))∧1≤wide_0∧wide_0≤16∧1≤high_1∧high_1≤16∧n-k≤(μ:Int)∧z2n wide high n=z8q wide high n (μ+1) wide_0 high_1 k) (Int.toNat (n-(0:Int))) _ _ _ H ?_ ?_
 ·exact ⟨rfl,ω7,ω7,ω7,ω7,ω7,ω7,ω2,e⟩
 ·intro μ wide_0 high_1 k  H_1 hI
  obtain ⟨rfl,v_1,v_2,v_3,v_4,v_5,v_6,hμ,e⟩:=hI
  rw [f13z_r1]
  have e:=e.trans (za6 wide high n μ wide_0 high_1 k)
  have l_7:=g0.1
  refine Br.intro (fun c_8=>?_) (fun c_8=>?_)
  ·have e:=e.trans (zx c_8)
   have c_8':=of_decide_eq_true c_8
   rw [show IntKind.wrap .i64 (wide_0+1)=(wide_0+1) from zt ω2 ω2]
   have z9:=zbw (wide_0+1) 2
   refine ⟨ω22,?_⟩
   rw [show IntKind.wrap .i64 (Int.tdiv (wide_0+1) 2)=(Int.tdiv (wide_0+1) 2) from zt ω2 ω2]
   rw [show IntKind.wrap .i64 (high_1+1)=(high_1+1) from zt ω2 ω2]
   have z10:=zbw (high_1+1) 2
   refine ⟨ω22,?_⟩
   rw [show IntKind.wrap .i64 (Int.tdiv (high_1+1) 2)=(Int.tdiv (high_1+1) 2) from zt ω2 ω2]
   rw [show IntKind.wrap .i64 (k+1)=(k+1) from zt ω2 ω2]
   refine f13z_n1 (μ-1) ω15 ⟨rfl,ω1,ω1,ω1,ω1,ω1,ω1,ω15,ω12⟩
  ·have e:=e.trans (zw c_8)
   have c_8':=of_decide_eq_false c_8
   rw [f13z_x1_0]
   rw [e] at hk
   exact hk
theorem f13z_ok:FnOk Tryz.prog 102 z15s:=FnOk.bodyF mix_ok zrg Tryz.func102 rfl ω9 ω9 fun args H=>by
 unfold z14j
 split
 ·refine ⟨?_,?_,?_,?_,fun K hk=>f13z_main _ _ _ H K hk⟩
  ·intro K K' h hk;obtain ⟨pr0,pr1,pr2,pr3,pr4,k⟩:=hk;exact ⟨pr0,pr1,pr2,pr3,pr4,h _ _ k⟩
  ·intro _ K hk;obtain ⟨pr0,pr1,pr2,pr3,pr4,k⟩:=hk;exact ⟨_,k,fun K' k'=>⟨pr0,pr1,pr2,pr3,pr4,k'⟩⟩
  ·intro K hk;obtain ⟨pr0,pr1,pr2,pr3,pr4,k⟩:=hk;exact ⟨_,_,k⟩
  ·nofun
 ·exact Nice.no

def z8u (da va:Int) (ba:LN) (x y wide high:Int):Nat→Int→Int→Int→Int→Int→LN→Int×Int×LN
 | 0,_,_,_,_,_,_=>(0,0,[])
 | μ+1,i,q1_1,q1_2,q1_4,q1_5,q1_6=>(bif decide ((i:Int)<(wide*high)) then (z8u da va ba x y wide high μ (i+1) q1_1 q1_2 q1_4 q1_5 ((q1_6++[(((ba).getD ((((((((y+(Int.tdiv i wide)))*da))+x))+(Int.tmod i wide)):Int).toNat 0))]))) else (q1_4,q1_5,q1_6))
def za7:=fun da va ba x y wide high μ i q1_1 q1_2 q1_4 q1_5 q1_6=>@z8u.eq_2 da va ba x y wide high i q1_1 q1_2 q1_4 q1_5 q1_6 μ
def z9y (da va:Int) (ba:LN) (x y wide high:Int):Int×Int×LN:=(z8u da va ba x y wide high (Int.toNat ((wide*high)-(0:Int))+1) (0:Int) 0 0 wide high ([]:LN))
def zkj:=@z9y.eq_1
def znc (p:Nat) (x y wide high:Int) (H:zp) (K:Int→Int→OA→Nat→Nat→zp→Prop):Prop:=∃(da va:Int),∃(gb:OA),∃(jb pb:Nat),∃(ba:LN),rdN H p 0 3=some [.int .i64 da,.int .i64 va,.slice gb jb pb]∧IsL fF H gb jb ba∧ba.length<1073741824∧0≤x∧0≤y∧1≤wide∧1≤high∧x+wide≤da∧y+high≤va∧da≤16∧va≤16∧(ba.length:Int)=da*va∧((∀(ia:OA) (ma ja:Nat),∀H':zp,Grow H H'→OwnS fF H' H.length ia ma ja ((z9y da va ba x y wide high).2.2)→K ((z9y da va ba x y wide high).1) ((z9y da va ba x y wide high).2.1) ia ma ja H'))
theorem zz4 {p:Nat} {x y wide high:Int} {H:zp} {K:Int→Int→OA→Nat→Nat→zp→Prop} (h:∃(da va:Int),∃(gb:OA),∃(jb pb:Nat),∃(ba:LN),rdN H p 0 3=some [.int .i64 da,.int .i64 va,.slice gb jb pb]∧IsL fF H gb jb ba∧ba.length<1073741824∧0≤x∧0≤y∧1≤wide∧1≤high∧x+wide≤da∧y+high≤va∧da≤16∧va≤16∧(ba.length:Int)=da*va∧((∀(ia:OA) (ma ja:Nat),∀H':zp,Grow H H'→OwnS fF H' H.length ia ma ja ((z9y da va ba x y wide high).2.2)→K ((z9y da va ba x y wide high).1) ((z9y da va ba x y wide high).2.1) ia ma ja H'))):znc p x y wide high H K:=h
theorem zpu (W H:Int) (L:LN) (x y wide high:Int) (w h:Nat) (hw:wide=w) (hh:high=h) (hw0:0<w):∀(μ i:Nat) (a b:Int),i≤h*w→h*w-i≤μ→
  ∀o,o=(List.range i).map (fun i:Nat=>z4y L x y W ((i % w:Nat):Int) ((i / w:Nat):Int))→
  z8u W H L x y wide high (μ+1) (i:Int) a b wide high o=(wide,high,picL w h (z4y L x y W)):=by
 have hm:wide*high=((h*w:Nat):Int):=by rw [hw,hh,Int.natCast_mul,Int.mul_comm]
 intro μ
 induction μ with
 | zero=>
  intro i a b h1 h2 o ho
  rw [za7,hm,decide_eq_false ω2,cond_false,ho,show i=h*w by omega,z9a hw0]
 | succ μ ih=>
  intro i a b h1 h2 o ho
  rw [za7,hm]
  by_cases hlt:i<h*w
  ·rw [decide_eq_true ω2,cond_true,show (i:Int)+1=((i+1:Nat):Int) by omega]
   refine ih (i+1) a b ω2 ω2 _ ?_
   rw [ho,List.range_succ,List.map_append]
   congr 1
   have e1:Int.tdiv (i:Int) wide=((i / w:Nat):Int):=by rw [hw];rfl
   have e2:Int.tmod (i:Int) wide=((i % w:Nat):Int):=by rw [hw];rfl
   rw [e1,e2];rfl
  ·rw [decide_eq_false ω2,cond_false,ho,show i=h*w by omega,z9a hw0]
theorem zpv (W H:Int) (L:LN) (x y wide high:Int) (hw:1≤wide) (hh:1≤high):z9y W H L x y wide high=(wide,high,picL wide.toNat high.toNat (z4y L x y W)):=by
 rw [zkj]
 have hm:wide*high=((high.toNat*wide.toNat:Nat):Int):=by rw [Int.natCast_mul,Int.toNat_of_nonneg ω2,Int.toNat_of_nonneg ω2,Int.mul_comm]
 exact zpu W H L x y wide high wide.toNat high.toNat ω2 ω2 ω2 _ 0 0 0 (Nat.zero_le _) ω2 [] rfl
/-! f1lz: function 121 -/
def zak:Env:=envOf []
def z14z (args:List Value) (H:zp):(Value→zp→Prop)→Prop:=match args with
 | [.pointer (some ⟨p,0,none⟩),.int .i64 x,.int .i64 y,.int .i64 wide,.int .i64 high]=>fun K=>znc p x y wide high H fun (ld:Int) (jd:Int) (ia:OA) (ma:Nat) (ja:Nat) (H':zp)=>K (.agg #[.int .i64 ld,.int .i64 jd,.slice ia ma ja]) H'
 | _=>fun _=>False
def z16e:FSpec:={F:=z14z,quiet:=false,tame:=true}
theorem z1aw (p:Nat) (x y wide high:Int) (H:zp) (K:KT):zv Tryz.prog zak Tryz.f121 [.pointer (some ⟨p,0,none⟩),.int .i64 x,.int .i64 y,.int .i64 wide,.int .i64 high] H K=
 (Al [.int .i64 0,.int .i64 0,.slice none 0 0] H fun b1 H1=>Al [] H1 fun b2 H2=>Al [.int .i64 0,.int .i64 0,.slice none 0 0] H2 fun b3 H3=>isOwn H3 b3∧(∃l,rdN H3 b3 0 3=some l)∧Lt (setN H3 b3 0 [.int .i64 wide,.int .i64 high,.slice (some ⟨b2,0,none⟩) 0 1]) fun H4=>z1i (exL Tryz.prog zak (cl (cl (cr (cl (cr (cr (zq Tryz.f121))))))) 7199 1024 [(0,3072)]) (.pointer (some ⟨p,0,none⟩)::.int .i64 x::.int .i64 y::.int .i64 wide::.int .i64 high::ud5 (.pointer (some ⟨b1,0,none⟩)::.pointer (some ⟨b3,0,none⟩)::.int .i64 0::ud39 [])) H4 (zu 0 (seqQ (exL Tryz.prog zak (cr (cr (cr (zq Tryz.f121)))) 1024 1024 []) (retK Tryz.prog Tryz.f121 K)))):=by kernel_rfl
abbrev zd7 (b1 b3:Nat) (high:Int) (p:Nat) (wide x y i:Int)  :List Value:=(.pointer (some ⟨p,0,none⟩)::.int .i64 x::.int .i64 y::.int .i64 wide::.int .i64 high::ud5 (.pointer (some ⟨b1,0,none⟩)::.pointer (some ⟨b3,0,none⟩)::.int .i64 i::ud39 []))
theorem z1av (b1 b3:Nat) (high:Int) (p:Nat) (wide x y i:Int)  (H:zp) (R:Post):exL Tryz.prog zak (cl (cl (cr (cl (cr (cr (zq Tryz.f121))))))) 7199 1024 [(0,3072)] (zd7 b1 b3 high p wide x y i) H R=
 (Br (decide ((i:Int)<IntKind.wrap .i64 (wide*high))) (∃og:OA,∃eg:Nat,∃qg:Nat,  rdC H b3 2=some (.slice og eg qg)∧∃lk:OA,∃jk:Nat,∃pk:Nat,  rdC H p 2=some (.slice lk jk pk)∧wide≠(0:Int)∧∃x3:Int,  rdC H p 0=some (.int .i64 x3)∧wide≠(0:Int)∧(0:Int)≤IntKind.wrap .i64 ((IntKind.wrap .i64 ((IntKind.wrap .i64 ((IntKind.wrap .i64 (y+(IntKind.wrap .i64 (Int.tdiv i wide))))*x3))+x))+(Int.tmod i wide))∧IntKind.wrap .i64 ((IntKind.wrap .i64 ((IntKind.wrap .i64 ((IntKind.wrap .i64 (y+(IntKind.wrap .i64 (Int.tdiv i wide))))*x3))+x))+(Int.tmod i wide))<(jk:Int)∧∃b4 f1,(lk:OA)=some ⟨b4,f1,none⟩∧∃x4:Nat,  rdC H b4 (f1+(IntKind.wrap .i64 ((IntKind.wrap .i64 ((IntKind.wrap .i64 ((IntKind.wrap .i64 (y+(IntKind.wrap .i64 (Int.tdiv i wide))))*x3))+x))+(Int.tmod i wide)):Int).toNat*1)=some (.float .f32 x4)∧Al [.float .f32 x4] H fun b5 H5=>∃o1 w1:List Value,ownB H5 og eg qg 1=some o1∧rdS H5 (some ⟨b5,0,none⟩) (1*1)=some w1∧((og:OA)=none→0<(1:Nat))∧(eg:Nat)+1<most∧Ap H5 (z2v H5 og++[some ⟨o1++w1,true⟩]) fun b6 H6=>isOwn H6 b3∧(∃l,rdN H6 b3 2 1=some l)∧Lt (setC H6 b3 2 (.slice (some ⟨b6,0,none⟩) (eg+1) 1)) fun H7=>R .normal (.pointer (some ⟨p,0,none⟩)::.int .i64 x::.int .i64 y::.int .i64 wide::.int .i64 high::ud5 (.pointer (some ⟨b1,0,none⟩)::.pointer (some ⟨b3,0,none⟩)::.int .i64 (IntKind.wrap .i64 (i+1))::ud39 [])) H7) (R (.exit 0) (ud10 (.pointer (some ⟨b1,0,none⟩)::.pointer (some ⟨b3,0,none⟩)::ud40 [])) H)):=by kernel_rfl
def zlt (b1 b3:Nat) (high:Int) (p:Nat) (wide x y:Int) (Inv:Nat→Int→zp→Prop):Nat→List Value→zp→Prop:=fun μ tm H=>∃(i:Int),tm=(zd7 b1 b3 high p wide x y i)∧Inv μ i H
theorem z1as (b1 b3:Nat) (high:Int) (p:Nat) (wide x y:Int) {Q:Post} (Inv:Nat→Int→zp→Prop) (ν:Nat) (i:Int)  (H:zp) (h0:Inv ν i H)
  (hs:∀(μ:Nat) (i:Int)  (H:zp),Inv μ i H→exL Tryz.prog zak (cl (cl (cr (cl (cr (cr (zq Tryz.f121))))))) 7199 1024 [(0,3072)] (zd7 b1 b3 high p wide x y i) H (z1a (zlt b1 b3 high p wide x y Inv) μ Q)):z1i (exL Tryz.prog zak (cl (cl (cr (cl (cr (cr (zq Tryz.f121))))))) 7199 1024 [(0,3072)]) (zd7 b1 b3 high p wide x y i) H Q:=
 ⟨zlt b1 b3 high p wide x y Inv,ν,⟨i,rfl,h0⟩,fun μ tm H h=>by obtain ⟨i,rfl,hI⟩:=h;exact hs μ i  H hI⟩
theorem z1at {b1 b3:Nat} {high:Int} {p:Nat} {wide x y:Int} {Q:Post} {Inv:Nat→Int→zp→Prop} {μ:Nat} (μ':Nat) {i:Int}  {H:zp} (hm:μ'<μ) (hI:Inv μ' i H):z1a (zlt b1 b3 high p wide x y Inv) μ Q .normal (zd7 b1 b3 high p wide x y i) H:=⟨μ',hm,i,rfl,hI⟩
theorem zul (b1 b3:Nat) (H:zp) (K:KT)  {I:Nat→List Value→zp→Prop} {μ:Nat}:z1a I μ (zu 0 (seqQ (exL Tryz.prog zak (cr (cr (cr (zq Tryz.f121)))) 1024 1024 []) (retK Tryz.prog Tryz.f121 K))) (.exit 0) (ud10 (.pointer (some ⟨b1,0,none⟩)::.pointer (some ⟨b3,0,none⟩)::ud40 [])) H=
 (∃c1:Int,∃c2:Int,∃zg:OA,∃bh:Nat,∃ah:Nat,  rdN H b3 0 3=some [.int .i64 c1,.int .i64 c2,.slice zg bh ah]∧isOwn H b1∧(∃l,rdN H b1 0 3=some l)∧Lt (setN H b1 0 [.int .i64 c1,.int .i64 c2,.slice zg bh ah]) fun H8=>∃c4:Int,∃c5:Int,∃kh:OA,∃mh:Nat,∃lh:Nat,  rdN H8 b1 0 3=some [.int .i64 c4,.int .i64 c5,.slice kh mh lh]∧K (.agg #[.int .i64 c4,.int .i64 c5,.slice kh mh lh]) H8):=by kernel_rfl
theorem zs7:∀g,FnOk Tryz.prog g (zak g):=FnOk.envOf (by
 intro x hx;cases hx)
theorem ω18 {P:Prop} (h:P:=by first | exact o40 | (have hbx:=o40;(try simp only [List.length_append,List.length_cons,List.length_nil,Nat.zero_add] at hbx);(try simp only [List.length_append,List.length_cons,List.length_nil,Nat.zero_add]);exact hbx)):P:=h
theorem ω19 {P:Prop} (h:P:=by first | exact o36 | (have hbx:=o36;(try simp only [List.length_append,List.length_cons,List.length_nil,Nat.zero_add] at hbx);(try simp only [List.length_append,List.length_cons,List.length_nil,Nat.zero_add]);exact hbx)):P:=h
theorem ω5 {P:Prop} (h:P:=by first | rfl | omega | (simp only [List.length_set];done) | (simp only [List.length_set,List.length_replicate];omega)):P:=h
theorem ω26 {P:Prop} (h:P:=by first | exact o103 | (have hbx:=o103;(try simp only [List.length_append,List.length_cons,List.length_nil,Nat.zero_add] at hbx);(try simp only [List.length_append,List.length_cons,List.length_nil,Nat.zero_add]);exact hbx)):P:=h
theorem ω27 {P:Prop} (h:P:=by first | exact o99 | (have hbx:=o99;(try simp only [List.length_append,List.length_cons,List.length_nil,Nat.zero_add] at hbx);(try simp only [List.length_append,List.length_cons,List.length_nil,Nat.zero_add]);exact hbx)):P:=h
theorem zuk (p:Nat) (x y wide high:Int) (H:zp) (K:KT) (h:znc p x y wide high H fun (ld:Int) (jd:Int) (ia:OA) (ma:Nat) (ja:Nat) (H':zp)=>K (.agg #[.int .i64 ld,.int .i64 jd,.slice ia ma ja]) H'):zv Tryz.prog zak Tryz.f121 [.pointer (some ⟨p,0,none⟩),.int .i64 x,.int .i64 y,.int .i64 wide,.int .i64 high] H K:=by
 rw [z1aw]
 obtain ⟨da,va,gb,jb,pb,ba,i_p,bc,bd_128,pr0,pr1,pr2,pr3,pr4,pr5,pr6,pr7,pr8,hk⟩:=h
 obtain rfl:=bc.eqn
 have zz:=z5i (W:=wide) (H:=high) ω2 ω2 ω2 ω2
 have e:(z9y da va ba x y wide high)=_:=rfl
 have e:=e.trans (zkj da va ba x y wide high)
 have g0:=Grow.refl H
 refine Al.intro (fun b_1 H_1 hb_2 hl_3 g_4 o_5=>?_)
 have l_7:=g_4.1
 have g_8:=g0.trans g_4
 have l_9:=g_8.1
 have w127:=o_5.lt
 refine Al.intro (fun b_10 H_2 hb_11 hl_12 g_13 o_14=>?_)
 have o_14:Own H_2 b_10 ((([]:LN)).map fF):=o_14
 have l_16:=g_13.1
 have g_17:=g_8.trans g_13
 have l_18:=g_17.1
 have o_19:=o_5.grow g_13
 have w20:=o_19.lt
 have w126:=o_14.lt
 refine Al.intro (fun b_21 H_3 hb_22 hl_23 g24 o25=>?_)
 have l27:=g24.1
 have g28:=g_17.trans g24
 have l29:=g28.1
 have o30:=o_19.grow g24
 have w31:=o30.lt
 have o32:=o_14.grow g24
 have w33:=o32.lt
 have w125:=o25.lt
 refine Lt.setN (n:=3) o25 (Nat.le_of_ble_eq_true rfl) rfl (fun H_4 hl_34 o36 k35=>?_)
 have o36:Own H_4 b_21 [.int .i64 wide,.int .i64 high,.slice (some ⟨b_10,0,none⟩) 0 1]:=o36
 have l37:=k35.1
 have g38:=g28.keep (b:=b_21) ω2 k35
 have l39:=g38.1
 have o40:=o30.keep ω2 k35
 have w41:=o40.lt
 have o42:=o32.keep ω2 k35
 have w43:=o42.lt
 have w124:=o36.lt
 refine z1as _ _ _ _ _ _ _ (fun (μ:Nat) (i:Int) (H_5:zp)=>∃(q1_1 q1_2 q1_4 q1_5:Int),∃(q1_6:LN),∃(b46:Nat),Own H_5 b_1 [.int .i64 q1_1,.int .i64 q1_2,.slice none 0 0]∧Own H_5 b46 (q1_6.map fF)∧Own H_5 b_21 [.int .i64 q1_4,.int .i64 q1_5,.slice (some ⟨b46,0,none⟩) q1_6.length 1]∧(b_21≠b_1)∧(b46≠b_1)∧(b46≠b_21)∧Grow H H_5∧H.length≤b46∧(0:Int)≤i∧((i≤(wide*high)∨i≤(0:Int)))∧(q1_6.length:Int)≤i-(0:Int)+0∧(q1_6.length:Int)≤i∧(wide*high)-i≤(μ:Int)∧z9y da va ba x y wide high=z8u da va ba x y wide high (μ+1) i q1_1 q1_2 q1_4 q1_5 q1_6) (Int.toNat ((wide*high)-(0:Int))) _ H_4 ?_ ?_
 ·exact ⟨_,_,_,_,_,_,ω18,o42,ω19,ω2,ω2,ω2,g38,ω2,ω7,ω7,ω7,ω7,ω2,e⟩
 ·intro μ i  H_5 hI
  obtain ⟨q1_1,q1_2,q1_4,q1_5,q1_6,b46,o44,o47,o45,n48,n49,n50,g51,l52,v_53,v_54,v_55,v_56,hμ,e⟩:=hI
  rw [z1av]
  have e:=e.trans (za7 da va ba x y wide high μ i q1_1 q1_2 q1_4 q1_5 q1_6)
  have zy:=zu1 (x:=x) (y:=y) (W:=da) (H:=va) (w:=wide) (h:=high) (i:=i) ω2 ω2 ω2 ω2 ω2 ω2 ω2 ω2 ω2
  have w57:=o44.lt
  have w58:=o45.lt
  have w59:=o47.lt
  have l60:=g51.1
  rw [show IntKind.wrap .i64 (wide*high)=(wide*high) from zt ω2 ω2]
  refine Br.intro (fun c61=>?_) (fun c61=>?_)
  ·have e:=e.trans (zx c61)
   have c_61':=of_decide_eq_true c61
   refine ⟨some ⟨b46,0,none⟩,q1_6.length,1,(o45.rdC _).trans rfl,?_⟩
   refine ⟨gb,ba.length,pb,(z1g (zr g51 i_p) 2 (Nat.le_of_ble_eq_true rfl)).trans rfl,?_⟩
   have z62:=zbw i wide
   refine ⟨ω22,?_⟩
   rw [show IntKind.wrap .i64 (Int.tdiv i wide)=(Int.tdiv i wide) from zt ω2 ω2]
   rw [show IntKind.wrap .i64 (y+(Int.tdiv i wide))=(y+(Int.tdiv i wide)) from zt ω2 ω2]
   refine ⟨da,(z1g (zr g51 i_p) 0 (Nat.le_of_ble_eq_true rfl)).trans rfl,?_⟩
   rw [show IntKind.wrap .i64 (((y+(Int.tdiv i wide)))*da)=(((y+(Int.tdiv i wide)))*da) from zt ω2 ω2]
   rw [show IntKind.wrap .i64 (((((y+(Int.tdiv i wide)))*da))+x)=(((((y+(Int.tdiv i wide)))*da))+x) from zt ω2 ω2]
   refine ⟨ω22,?_⟩
   have z63:=z9o i wide
   have z64:=zbx i wide
   rw [show IntKind.wrap .i64 (((((((y+(Int.tdiv i wide)))*da))+x))+(Int.tmod i wide))=(((((((y+(Int.tdiv i wide)))*da))+x))+(Int.tmod i wide)) from zt ω2 ω2]
   obtain ⟨b65,f66,q67⟩:=((bc.grow g51)).pos ω0
   refine ⟨by omega,by omega,b65,f66,q67,?_⟩
   refine ⟨((ba).getD ((((((((y+(Int.tdiv i wide)))*da))+x))+(Int.tmod i wide)):Int).toNat 0),(bc).rd g51 q67 ω2 _,?_⟩
   refine Al.intro (fun b68 H_6 hb_69 hl_70 g71 o72=>?_)
   have o72:Own H_6 b68 (([(((ba).getD ((((((((y+(Int.tdiv i wide)))*da))+x))+(Int.tmod i wide)):Int).toNat 0))]).map fF):=o72
   have l74:=g71.1
   have g75:=g51.trans g71
   have l76:=g75.1
   have o77:=o44.grow g71
   have w78:=o77.lt
   have o79:=o45.grow g71
   have w80:=o79.lt
   have o81:=o47.grow g71
   have w82:=o81.lt
   have w112:=o72.lt
   refine ⟨_,_,o81.ownB ω3 rfl,(z2m (o72.isL ω5)),(fun h=>by cases h),ω25,?_⟩
   refine Ap.app o81 rfl rfl (fun b87 H_7 q110 hl_83 o84 k85=>?_)
   have o84:=z2c o84
   have l88:=k85.1
   have g89:=g75.keep (b:=b46) ω2 k85
   have l90:=g89.1
   have o91:=o77.keep ω2 k85
   have w92:=o91.lt
   have o93:=o79.keep ω2 k85
   have w94:=o93.lt
   have o95:=o72.keep ω2 k85
   have w96:=o95.lt
   have w111:=o84.lt
   refine Lt.set o93 (Nat.le_of_ble_eq_true rfl) (fun H_8 hl_97 o99 k98=>?_)
   have o99:Own H_8 b_21 [.int .i64 q1_4,.int .i64 q1_5,.slice (some ⟨b87,0,none⟩) (q1_6.length+1) 1]:=o99
   have l100:=k98.1
   have g101:=g89.keep (b:=b_21) ω2 k98
   have l102:=g101.1
   have o103:=o91.keep ω2 k98
   have w104:=o103.lt
   have o105:=o95.keep ω2 k98
   have w106:=o105.lt
   have o107:=o84.keep ω2 k98
   have w108:=o107.lt
   have w109:=o99.lt
   rw [show IntKind.wrap .i64 (i+1)=(i+1) from zt ω2 ω2]
   refine z1at (μ-1) ω15 ⟨_,_,_,_,_,_,ω26,o107,ω27,ω2,ω2,ω2,g101,ω2,ω1,ω1,ω1,ω1,ω15,ω12⟩
  ·have e:=e.trans (zw c61)
   have c_61':=of_decide_eq_false c61
   rw [zul]
   refine ⟨q1_4,q1_5,some ⟨b46,0,none⟩,q1_6.length,1,(o45.rdN (Nat.le_of_ble_eq_true rfl)).trans rfl,?_⟩
   refine Lt.setN (n:=3) o44 (Nat.le_of_ble_eq_true rfl) rfl (fun H_9 hl_113 o115 k114=>?_)
   have o115:Own H_9 b_1 [.int .i64 q1_4,.int .i64 q1_5,.slice (some ⟨b46,0,none⟩) q1_6.length 1]:=o115
   have l116:=k114.1
   have g117:=g51.keep (b:=b_1) ω2 k114
   have l118:=g117.1
   have o119:=o45.keep ω2 k114
   have w120:=o119.lt
   have o121:=o47.keep ω2 k114
   have w122:=o121.lt
   have w123:=o115.lt
   refine ⟨q1_4,q1_5,some ⟨b46,0,none⟩,q1_6.length,1,(o115.rdN (Nat.le_of_ble_eq_true rfl)).trans rfl,?_⟩
   rw [e] at hk
   exact hk _ _ _ H_9 g117 (o121.ownS ω5 ω2)
theorem z1au:FnOk Tryz.prog 121 z16e:=FnOk.bodyF mix_ok zs7 Tryz.func121 rfl ω9 ω9 fun args H=>by
 unfold z14z
 split
 ·refine ⟨?_,?_,?_,?_,fun K hk=>zuk _ _ _ _ _ H K hk⟩
  ·intro K K' h hk;obtain ⟨da,va,gb,jb,pb,ba,i_p,bc,bd_128,pr0,pr1,pr2,pr3,pr4,pr5,pr6,pr7,pr8,k⟩:=hk;exact ⟨da,va,gb,jb,pb,ba,i_p,bc,bd_128,pr0,pr1,pr2,pr3,pr4,pr5,pr6,pr7,pr8,(fun ia ma ja H' gg ow0=>h _ _ (k ia ma ja H' gg ow0))⟩
  ·nofun
  ·intro K hk;obtain ⟨da,va,gb,jb,pb,ba,i_p,bc,bd_128,pr0,pr1,pr2,pr3,pr4,pr5,pr6,pr7,pr8,k⟩:=hk;exact z4v fun a n e H1 g o=>⟨_,_,k a n e H1 g o⟩
  ·intro _ K hk;obtain ⟨da,va,gb,jb,pb,ba,i_p,bc,bd_128,pr0,pr1,pr2,pr3,pr4,pr5,pr6,pr7,pr8,k⟩:=hk;exact ⟨da,va,gb,jb,pb,ba,i_p,bc,bd_128,pr0,pr1,pr2,pr3,pr4,pr5,pr6,pr7,pr8,(fun ia ma ja H' gg ow0=>⟨gg,k ia ma ja H' gg ow0⟩)⟩
 ·exact Nice.no
theorem z1d0 {W H i:Int} (h1:1≤W) (h2:1≤H) (h3:0≤i):i<W*H→0≤Int.tmod i H∧Int.tmod i H≤H-1∧0≤Int.tdiv i H∧Int.tdiv i H≤W-1∧0≤Int.tmod i H*W∧Int.tmod i H*W+Int.tdiv i H<W*H:=by
 intro h4
 rw [Int.tmod_eq_emod_of_nonneg h3,Int.tdiv_eq_ediv_of_nonneg h3]
 have a:=Int.emod_nonneg i (show H≠0 by omega)
 have b:=Int.emod_lt_of_pos i (show 0<H by omega)
 have c:0≤i / H:=Int.ediv_nonneg h3 ω2
 have d:i / H<W:=Int.ediv_lt_of_lt_mul ω2 h4
 have e:0≤i % H*W:=Int.mul_nonneg a ω2
 have f:(i % H+1)*W≤H*W:=Int.mul_le_mul_of_nonneg_right ω2 ω2
 have g:(i % H+1)*W=i % H*W+W:=by rw [Int.add_mul,Int.one_mul]
 have k:H*W=W*H:=Int.mul_comm _ _
 refine ⟨a,by omega,c,by omega,e,by omega⟩
def z8v (da va:Int) (ba:LN):Nat→Int→Int→Int→Int→Int→LN→Int×Int×LN
 | 0,_,_,_,_,_,_=>(0,0,[])
 | μ+1,i,q1_1,q1_2,q1_4,q1_5,q1_6=>(bif decide ((i:Int)<(da*va)) then (z8v da va ba μ (i+1) q1_1 q1_2 q1_4 q1_5 ((q1_6++[(((ba).getD (((((Int.tmod i va)*da))+(Int.tdiv i va)):Int).toNat 0))]))) else (q1_4,q1_5,q1_6))
def za9:=fun da va ba μ i q1_1 q1_2 q1_4 q1_5 q1_6=>@z8v.eq_2 da va ba i q1_1 q1_2 q1_4 q1_5 q1_6 μ
def z1w (da va:Int) (ba:LN):Int×Int×LN:=(z8v da va ba (Int.toNat ((da*va)-(0:Int))+1) (0:Int) 0 0 va da ([]:LN))
def zkk:=@z1w.eq_1
def zfe (p:Nat) (H:zp) (K:Int→Int→OA→Nat→Nat→zp→Prop):Prop:=∃(da va:Int),∃(gb:OA),∃(jb pb:Nat),∃(ba:LN),rdN H p 0 3=some [.int .i64 da,.int .i64 va,.slice gb jb pb]∧IsL fF H gb jb ba∧ba.length<1073741824∧1≤da∧da≤16∧1≤va∧va≤16∧(ba.length:Int)=da*va∧((∀(ia:OA) (ma ja:Nat),∀H':zp,Grow H H'→OwnS fF H' H.length ia ma ja ((z1w da va ba).2.2)→K ((z1w da va ba).1) ((z1w da va ba).2.1) ia ma ja H'))
theorem zng {p:Nat} {H:zp} {K:Int→Int→OA→Nat→Nat→zp→Prop} (h:∃(da va:Int),∃(gb:OA),∃(jb pb:Nat),∃(ba:LN),rdN H p 0 3=some [.int .i64 da,.int .i64 va,.slice gb jb pb]∧IsL fF H gb jb ba∧ba.length<1073741824∧1≤da∧da≤16∧1≤va∧va≤16∧(ba.length:Int)=da*va∧((∀(ia:OA) (ma ja:Nat),∀H':zp,Grow H H'→OwnS fF H' H.length ia ma ja ((z1w da va ba).2.2)→K ((z1w da va ba).1) ((z1w da va ba).2.1) ia ma ja H'))):zfe p H K:=h
def zi8 (l:LN) (W x y:Int):Nat:=l.getD (x*W+y).toNat 0
theorem zpx (W H:Int) (L:LN) (w h:Nat) (hw:W=w) (hh:H=h) (hh0:0<h):∀(μ i:Nat) (a b:Int),i≤w*h→w*h-i≤μ→
  ∀o,o=(List.range i).map (fun i:Nat=>zi8 L W ((i % h:Nat):Int) ((i / h:Nat):Int))→
  z8v W H L (μ+1) (i:Int) a b H W o=(H,W,picL h w (zi8 L W)):=by
 have hm:W*H=((w*h:Nat):Int):=by rw [hw,hh,Int.natCast_mul]
 intro μ
 induction μ with
 | zero=>
  intro i a b h1 h2 o ho
  rw [za9,hm,decide_eq_false ω2,cond_false,ho,show i=w*h by omega,z9a hh0]
 | succ μ ih=>
  intro i a b h1 h2 o ho
  rw [za9,hm]
  by_cases hlt:i<w*h
  ·rw [decide_eq_true ω2,cond_true,show (i:Int)+1=((i+1:Nat):Int) by omega]
   refine ih (i+1) a b ω2 ω2 _ ?_
   rw [ho,List.range_succ,List.map_append]
   congr 1
   have e1:Int.tdiv (i:Int) H=((i / h:Nat):Int):=by rw [hh];rfl
   have e2:Int.tmod (i:Int) H=((i % h:Nat):Int):=by rw [hh];rfl
   rw [e1,e2];rfl
  ·rw [decide_eq_false ω2,cond_false,ho,show i=w*h by omega,z9a hh0]
theorem zfm (W H:Int) (L:LN) (hw:1≤W) (hh:1≤H):z1w W H L=(H,W,picL H.toNat W.toNat (zi8 L W)):=by
 rw [zkk]
 have hm:W*H=((W.toNat*H.toNat:Nat):Int):=by rw [Int.natCast_mul,Int.toNat_of_nonneg ω2,Int.toNat_of_nonneg ω2]
 exact zpx W H L W.toNat H.toNat ω2 ω2 ω2 _ 0 0 0 (Nat.zero_le _) ω2 [] rfl
theorem zdn (W H:Int) (L:LN) (hw:1≤W) (hh:1≤H):(z1w W H L).1=H∧(z1w W H L).2.1=W∧((z1w W H L).2.2.length:Int)=W*H:=by
 rw [zfm W H L hw hh]
 refine ⟨rfl,rfl,?_⟩
 show ((picL H.toNat W.toNat (zi8 L W)).length:Int)=_
 rw [z2r,Int.natCast_mul,Int.toNat_of_nonneg ω2,Int.toNat_of_nonneg ω2]
/-! f1pz: function 126 -/
def zal:Env:=envOf []
def z15d (args:List Value) (H:zp):(Value→zp→Prop)→Prop:=match args with
 | [.pointer (some ⟨p,0,none⟩)]=>fun K=>zfe p H fun (ld:Int) (jd:Int) (ia:OA) (ma:Nat) (ja:Nat) (H':zp)=>K (.agg #[.int .i64 ld,.int .i64 jd,.slice ia ma ja]) H'
 | _=>fun _=>False
def z16i:FSpec:={F:=z15d,quiet:=false,tame:=true}
theorem z1bf (p:Nat) (H:zp) (K:KT):zv Tryz.prog zal Tryz.f126 [.pointer (some ⟨p,0,none⟩)] H K=
 (Al [.int .i64 0,.int .i64 0,.slice none 0 0] H fun b1 H1=>∃x1:Int,  rdC H1 p 0=some (.int .i64 x1)∧∃x2:Int,  rdC H1 p 1=some (.int .i64 x2)∧Al [] H1 fun b2 H2=>Al [.int .i64 0,.int .i64 0,.slice none 0 0] H2 fun b3 H3=>isOwn H3 b3∧(∃l,rdN H3 b3 0 3=some l)∧Lt (setN H3 b3 0 [.int .i64 x2,.int .i64 x1,.slice (some ⟨b2,0,none⟩) 0 1]) fun H4=>z1i (exL Tryz.prog zal (cl (cl (cr (cl (cr (cr (zq Tryz.f126))))))) 29 4 [(0,12)]) (.pointer (some ⟨p,0,none⟩)::ud::.pointer (some ⟨b1,0,none⟩)::.pointer (some ⟨b3,0,none⟩)::.int .i64 0::ud53 []) H4 (zu 0 (seqQ (exL Tryz.prog zal (cr (cr (cr (zq Tryz.f126)))) 4 4 []) (retK Tryz.prog Tryz.f126 K)))):=by kernel_rfl
abbrev zdc (b1 b3 p:Nat) (i:Int)  :List Value:=(.pointer (some ⟨p,0,none⟩)::ud::.pointer (some ⟨b1,0,none⟩)::.pointer (some ⟨b3,0,none⟩)::.int .i64 i::ud53 [])
theorem z1be (b1 b3 p:Nat) (i:Int)  (H:zp) (R:Post):exL Tryz.prog zal (cl (cl (cr (cl (cr (cr (zq Tryz.f126))))))) 29 4 [(0,12)] (zdc b1 b3 p i) H R=
 (∃x3:Int,  rdC H p 0=some (.int .i64 x3)∧∃x4:Int,  rdC H p 1=some (.int .i64 x4)∧Br (decide ((i:Int)<IntKind.wrap .i64 (x3*x4))) (∃zi:OA,∃xi:Nat,∃wj:Nat,  rdC H b3 2=some (.slice zi xi wj)∧∃ai:OA,∃zh:Nat,∃ki:Nat,  rdC H p 2=some (.slice ai zh ki)∧∃x7:Int,  rdC H p 1=some (.int .i64 x7)∧x7≠(0:Int)∧∃x8:Int,  rdC H p 0=some (.int .i64 x8)∧∃x9:Int,  rdC H p 1=some (.int .i64 x9)∧x9≠(0:Int)∧(0:Int)≤IntKind.wrap .i64 ((IntKind.wrap .i64 ((Int.tmod i x7)*x8))+(IntKind.wrap .i64 (Int.tdiv i x9)))∧IntKind.wrap .i64 ((IntKind.wrap .i64 ((Int.tmod i x7)*x8))+(IntKind.wrap .i64 (Int.tdiv i x9)))<(zh:Int)∧∃b4 f1,(ai:OA)=some ⟨b4,f1,none⟩∧∃x10:Nat,  rdC H b4 (f1+(IntKind.wrap .i64 ((IntKind.wrap .i64 ((Int.tmod i x7)*x8))+(IntKind.wrap .i64 (Int.tdiv i x9))):Int).toNat*1)=some (.float .f32 x10)∧Al [.float .f32 x10] H fun b5 H5=>∃o1 w1:List Value,ownB H5 zi xi wj 1=some o1∧rdS H5 (some ⟨b5,0,none⟩) (1*1)=some w1∧((zi:OA)=none→0<(1:Nat))∧(xi:Nat)+1<most∧Ap H5 (z2v H5 zi++[some ⟨o1++w1,true⟩]) fun b6 H6=>isOwn H6 b3∧(∃l,rdN H6 b3 2 1=some l)∧Lt (setC H6 b3 2 (.slice (some ⟨b6,0,none⟩) (xi+1) 1)) fun H7=>R .normal (.pointer (some ⟨p,0,none⟩)::ud::.pointer (some ⟨b1,0,none⟩)::.pointer (some ⟨b3,0,none⟩)::.int .i64 (IntKind.wrap .i64 (i+1))::ud53 []) H7) (R (.exit 0) (ud2 (.pointer (some ⟨b1,0,none⟩)::.pointer (some ⟨b3,0,none⟩)::ud54 [])) H)):=by kernel_rfl
def zlz (b1 b3 p:Nat) (Inv:Nat→Int→zp→Prop):Nat→List Value→zp→Prop:=fun μ tm H=>∃(i:Int),tm=(zdc b1 b3 p i)∧Inv μ i H
theorem z1bb (b1 b3 p:Nat) {Q:Post} (Inv:Nat→Int→zp→Prop) (ν:Nat) (i:Int)  (H:zp) (h0:Inv ν i H)
  (hs:∀(μ:Nat) (i:Int)  (H:zp),Inv μ i H→exL Tryz.prog zal (cl (cl (cr (cl (cr (cr (zq Tryz.f126))))))) 29 4 [(0,12)] (zdc b1 b3 p i) H (z1a (zlz b1 b3 p Inv) μ Q)):z1i (exL Tryz.prog zal (cl (cl (cr (cl (cr (cr (zq Tryz.f126))))))) 29 4 [(0,12)]) (zdc b1 b3 p i) H Q:=
 ⟨zlz b1 b3 p Inv,ν,⟨i,rfl,h0⟩,fun μ tm H h=>by obtain ⟨i,rfl,hI⟩:=h;exact hs μ i  H hI⟩
theorem z1bc {b1 b3 p:Nat} {Q:Post} {Inv:Nat→Int→zp→Prop} {μ:Nat} (μ':Nat) {i:Int}  {H:zp} (hm:μ'<μ) (hI:Inv μ' i H):z1a (zlz b1 b3 p Inv) μ Q .normal (zdc b1 b3 p i) H:=⟨μ',hm,i,rfl,hI⟩
theorem zuu (b1 b3:Nat) (H:zp) (K:KT)  {I:Nat→List Value→zp→Prop} {μ:Nat}:z1a I μ (zu 0 (seqQ (exL Tryz.prog zal (cr (cr (cr (zq Tryz.f126)))) 4 4 []) (retK Tryz.prog Tryz.f126 K))) (.exit 0) (ud2 (.pointer (some ⟨b1,0,none⟩)::.pointer (some ⟨b3,0,none⟩)::ud54 [])) H=
 (∃c1:Int,∃c2:Int,∃zg:OA,∃bh:Nat,∃ah:Nat,  rdN H b3 0 3=some [.int .i64 c1,.int .i64 c2,.slice zg bh ah]∧isOwn H b1∧(∃l,rdN H b1 0 3=some l)∧Lt (setN H b1 0 [.int .i64 c1,.int .i64 c2,.slice zg bh ah]) fun H8=>∃c4:Int,∃c5:Int,∃kh:OA,∃mh:Nat,∃lh:Nat,  rdN H8 b1 0 3=some [.int .i64 c4,.int .i64 c5,.slice kh mh lh]∧K (.agg #[.int .i64 c4,.int .i64 c5,.slice kh mh lh]) H8):=by kernel_rfl
theorem zsb:∀g,FnOk Tryz.prog g (zal g):=FnOk.envOf (by
 intro x hx;cases hx)
theorem zut (p:Nat) (H:zp) (K:KT) (h:zfe p H fun (ld:Int) (jd:Int) (ia:OA) (ma:Nat) (ja:Nat) (H':zp)=>K (.agg #[.int .i64 ld,.int .i64 jd,.slice ia ma ja]) H'):zv Tryz.prog zal Tryz.f126 [.pointer (some ⟨p,0,none⟩)] H K:=by
 rw [z1bf]
 obtain ⟨da,va,gb,jb,pb,ba,i_p,bc,bd_128,pr0,pr1,pr2,pr3,pr4,hk⟩:=h
 obtain rfl:=bc.eqn
 have zz:=z5i (W:=da) (H:=va) ω2 ω2 ω2 ω2
 have e:(z1w da va ba)=_:=rfl
 have e:=e.trans (zkk da va ba)
 have g0:=Grow.refl H
 refine Al.intro (fun b_1 H_1 hb_2 hl_3 g_4 o_5=>?_)
 have l_7:=g_4.1
 have g_8:=g0.trans g_4
 have l_9:=g_8.1
 have w127:=o_5.lt
 refine ⟨da,(z1g (zr g_8 i_p) 0 (Nat.le_of_ble_eq_true rfl)).trans rfl,?_⟩
 refine ⟨va,(z1g (zr g_8 i_p) 1 (Nat.le_of_ble_eq_true rfl)).trans rfl,?_⟩
 refine Al.intro (fun b_10 H_2 hb_11 hl_12 g_13 o_14=>?_)
 have o_14:Own H_2 b_10 ((([]:LN)).map fF):=o_14
 have l_16:=g_13.1
 have g_17:=g_8.trans g_13
 have l_18:=g_17.1
 have o_19:=o_5.grow g_13
 have w20:=o_19.lt
 have w126:=o_14.lt
 refine Al.intro (fun b_21 H_3 hb_22 hl_23 g24 o25=>?_)
 have l27:=g24.1
 have g28:=g_17.trans g24
 have l29:=g28.1
 have o30:=o_19.grow g24
 have w31:=o30.lt
 have o32:=o_14.grow g24
 have w33:=o32.lt
 have w125:=o25.lt
 refine Lt.setN (n:=3) o25 (Nat.le_of_ble_eq_true rfl) rfl (fun H_4 hl_34 o36 k35=>?_)
 have o36:Own H_4 b_21 [.int .i64 va,.int .i64 da,.slice (some ⟨b_10,0,none⟩) 0 1]:=o36
 have l37:=k35.1
 have g38:=g28.keep (b:=b_21) ω2 k35
 have l39:=g38.1
 have o40:=o30.keep ω2 k35
 have w41:=o40.lt
 have o42:=o32.keep ω2 k35
 have w43:=o42.lt
 have w124:=o36.lt
 refine z1bb _ _ _ (fun (μ:Nat) (i:Int) (H_5:zp)=>∃(q1_1 q1_2 q1_4 q1_5:Int),∃(q1_6:LN),∃(b46:Nat),Own H_5 b_1 [.int .i64 q1_1,.int .i64 q1_2,.slice none 0 0]∧Own H_5 b46 (q1_6.map fF)∧Own H_5 b_21 [.int .i64 q1_4,.int .i64 q1_5,.slice (some ⟨b46,0,none⟩) q1_6.length 1]∧(b_21≠b_1)∧(b46≠b_1)∧(b46≠b_21)∧Grow H H_5∧H.length≤b46∧(0:Int)≤i∧((i≤(da*va)∨i≤(0:Int)))∧(q1_6.length:Int)≤i-(0:Int)+0∧(q1_6.length:Int)≤i∧(da*va)-i≤(μ:Int)∧z1w da va ba=z8v da va ba (μ+1) i q1_1 q1_2 q1_4 q1_5 q1_6) (Int.toNat ((da*va)-(0:Int))) _ H_4 ?_ ?_
 ·exact ⟨_,_,_,_,_,_,ω18,o42,ω19,ω2,ω2,ω2,g38,ω2,ω7,ω7,ω7,ω7,ω2,e⟩
 ·intro μ i  H_5 hI
  obtain ⟨q1_1,q1_2,q1_4,q1_5,q1_6,b46,o44,o47,o45,n48,n49,n50,g51,l52,v_53,v_54,v_55,v_56,hμ,e⟩:=hI
  rw [z1be]
  have e:=e.trans (za9 da va ba μ i q1_1 q1_2 q1_4 q1_5 q1_6)
  have zy:=z1d0 (W:=da) (H:=va) (i:=i) ω2 ω2 ω2
  have w57:=o44.lt
  have w58:=o45.lt
  have w59:=o47.lt
  have l60:=g51.1
  refine ⟨da,(z1g (zr g51 i_p) 0 (Nat.le_of_ble_eq_true rfl)).trans rfl,?_⟩
  refine ⟨va,(z1g (zr g51 i_p) 1 (Nat.le_of_ble_eq_true rfl)).trans rfl,?_⟩
  rw [show IntKind.wrap .i64 (da*va)=(da*va) from zt ω2 ω2]
  refine Br.intro (fun c61=>?_) (fun c61=>?_)
  ·have e:=e.trans (zx c61)
   have c_61':=of_decide_eq_true c61
   refine ⟨some ⟨b46,0,none⟩,q1_6.length,1,(o45.rdC _).trans rfl,?_⟩
   refine ⟨gb,ba.length,pb,(z1g (zr g51 i_p) 2 (Nat.le_of_ble_eq_true rfl)).trans rfl,?_⟩
   refine ⟨va,(z1g (zr g51 i_p) 1 (Nat.le_of_ble_eq_true rfl)).trans rfl,?_⟩
   refine ⟨ω22,?_⟩
   have z62:=z9o i va
   have z63:=zbx i va
   refine ⟨da,(z1g (zr g51 i_p) 0 (Nat.le_of_ble_eq_true rfl)).trans rfl,?_⟩
   rw [show IntKind.wrap .i64 ((Int.tmod i va)*da)=((Int.tmod i va)*da) from zt ω2 ω2]
   refine ⟨va,(z1g (zr g51 i_p) 1 (Nat.le_of_ble_eq_true rfl)).trans rfl,?_⟩
   have z64:=zbw i va
   refine ⟨ω22,?_⟩
   rw [show IntKind.wrap .i64 (Int.tdiv i va)=(Int.tdiv i va) from zt ω2 ω2]
   rw [show IntKind.wrap .i64 ((((Int.tmod i va)*da))+(Int.tdiv i va))=((((Int.tmod i va)*da))+(Int.tdiv i va)) from zt ω2 ω2]
   obtain ⟨b65,f66,q67⟩:=((bc.grow g51)).pos ω0
   refine ⟨by omega,by omega,b65,f66,q67,?_⟩
   refine ⟨((ba).getD (((((Int.tmod i va)*da))+(Int.tdiv i va)):Int).toNat 0),(bc).rd g51 q67 ω2 _,?_⟩
   refine Al.intro (fun b68 H_6 hb_69 hl_70 g71 o72=>?_)
   have o72:Own H_6 b68 (([(((ba).getD (((((Int.tmod i va)*da))+(Int.tdiv i va)):Int).toNat 0))]).map fF):=o72
   have l74:=g71.1
   have g75:=g51.trans g71
   have l76:=g75.1
   have o77:=o44.grow g71
   have w78:=o77.lt
   have o79:=o45.grow g71
   have w80:=o79.lt
   have o81:=o47.grow g71
   have w82:=o81.lt
   have w112:=o72.lt
   refine ⟨_,_,o81.ownB ω3 rfl,(z2m (o72.isL ω5)),(fun h=>by cases h),ω25,?_⟩
   refine Ap.app o81 rfl rfl (fun b87 H_7 q110 hl_83 o84 k85=>?_)
   have o84:=z2c o84
   have l88:=k85.1
   have g89:=g75.keep (b:=b46) ω2 k85
   have l90:=g89.1
   have o91:=o77.keep ω2 k85
   have w92:=o91.lt
   have o93:=o79.keep ω2 k85
   have w94:=o93.lt
   have o95:=o72.keep ω2 k85
   have w96:=o95.lt
   have w111:=o84.lt
   refine Lt.set o93 (Nat.le_of_ble_eq_true rfl) (fun H_8 hl_97 o99 k98=>?_)
   have o99:Own H_8 b_21 [.int .i64 q1_4,.int .i64 q1_5,.slice (some ⟨b87,0,none⟩) (q1_6.length+1) 1]:=o99
   have l100:=k98.1
   have g101:=g89.keep (b:=b_21) ω2 k98
   have l102:=g101.1
   have o103:=o91.keep ω2 k98
   have w104:=o103.lt
   have o105:=o95.keep ω2 k98
   have w106:=o105.lt
   have o107:=o84.keep ω2 k98
   have w108:=o107.lt
   have w109:=o99.lt
   rw [show IntKind.wrap .i64 (i+1)=(i+1) from zt ω2 ω2]
   refine z1bc (μ-1) ω15 ⟨_,_,_,_,_,_,ω26,o107,ω27,ω2,ω2,ω2,g101,ω2,ω1,ω1,ω1,ω1,ω15,ω12⟩
  ·have e:=e.trans (zw c61)
   have c_61':=of_decide_eq_false c61
   rw [zuu]
   refine ⟨q1_4,q1_5,some ⟨b46,0,none⟩,q1_6.length,1,(o45.rdN (Nat.le_of_ble_eq_true rfl)).trans rfl,?_⟩
   refine Lt.setN (n:=3) o44 (Nat.le_of_ble_eq_true rfl) rfl (fun H_9 hl_113 o115 k114=>?_)
   have o115:Own H_9 b_1 [.int .i64 q1_4,.int .i64 q1_5,.slice (some ⟨b46,0,none⟩) q1_6.length 1]:=o115
   have l116:=k114.1
   have g117:=g51.keep (b:=b_1) ω2 k114
   have l118:=g117.1
   have o119:=o45.keep ω2 k114
   have w120:=o119.lt
   have o121:=o47.keep ω2 k114
   have w122:=o121.lt
   have w123:=o115.lt
   refine ⟨q1_4,q1_5,some ⟨b46,0,none⟩,q1_6.length,1,(o115.rdN (Nat.le_of_ble_eq_true rfl)).trans rfl,?_⟩
   rw [e] at hk
   exact hk _ _ _ H_9 g117 (o121.ownS ω5 ω2)
theorem z1bd:FnOk Tryz.prog 126 z16i:=FnOk.bodyF mix_ok zsb Tryz.func126 rfl ω9 ω9 fun args H=>by
 unfold z15d
 split
 ·refine ⟨?_,?_,?_,?_,fun K hk=>zut _ H K hk⟩
  ·intro K K' h hk;obtain ⟨da,va,gb,jb,pb,ba,i_p,bc,bd_128,pr0,pr1,pr2,pr3,pr4,k⟩:=hk;exact ⟨da,va,gb,jb,pb,ba,i_p,bc,bd_128,pr0,pr1,pr2,pr3,pr4,(fun ia ma ja H' gg ow0=>h _ _ (k ia ma ja H' gg ow0))⟩
  ·nofun
  ·intro K hk;obtain ⟨da,va,gb,jb,pb,ba,i_p,bc,bd_128,pr0,pr1,pr2,pr3,pr4,k⟩:=hk;exact z4v fun a n e H1 g o=>⟨_,_,k a n e H1 g o⟩
  ·intro _ K hk;obtain ⟨da,va,gb,jb,pb,ba,i_p,bc,bd_128,pr0,pr1,pr2,pr3,pr4,k⟩:=hk;exact ⟨da,va,gb,jb,pb,ba,i_p,bc,bd_128,pr0,pr1,pr2,pr3,pr4,(fun ia ma ja H' gg ow0=>⟨gg,k ia ma ja H' gg ow0⟩)⟩
 ·exact Nice.no

def z5c (za:LN) (i:Int):Nat:=((za).getD ((if ((if (i:Int)<((za.length:Int)-1) then i else ((za.length:Int)-1)):Int) > 0 then (if (i:Int)<((za.length:Int)-1) then i else ((za.length:Int)-1)) else 0):Int).toNat 0)
def zb2:=@z5c.eq_1
def zfc (yb:OA) (sb jc:Nat) (i:Int) (H:zp) (K:Nat→zp→Prop):Prop:=∃(za:LN),IsL fF H yb sb za∧za.length<1073741824∧1≤za.length∧K (z5c za i) H
theorem zgy {yb:OA} {sb jc:Nat} {i:Int} {H:zp} {K:Nat→zp→Prop} (h:∃(za:LN),IsL fF H yb sb za∧za.length<1073741824∧1≤za.length∧K (z5c za i) H):zfc yb sb jc i H K:=h

/-! f10z: function 180 -/
def zrb:Env:=envOf []
def z14g (args:List Value) (H:zp):(Value→zp→Prop)→Prop:=match args with
 | [.slice yb sb jc,.int .i64 i]=>fun K=>zfc yb sb jc i H fun (r1:Nat) (H':zp)=>K (.float .f32 r1) H'
 | _=>fun _=>False
def z15q:FSpec:={F:=z14g,quiet:=true,tame:=false}
theorem f10z_vc (yb:OA) (sb jc:Nat) (i:Int) (H:zp) (K:KT):zv Tryz.prog zrb Tryz.f180 [.slice yb sb jc,.int .i64 i] H K=
 ((0:Int)≤(if ((if (i:Int)<IntKind.wrap .i64 ((sb:Int)-1) then i else IntKind.wrap .i64 ((sb:Int)-1)):Int) > 0 then (if (i:Int)<IntKind.wrap .i64 ((sb:Int)-1) then i else IntKind.wrap .i64 ((sb:Int)-1)) else 0)∧(if ((if (i:Int)<IntKind.wrap .i64 ((sb:Int)-1) then i else IntKind.wrap .i64 ((sb:Int)-1)):Int) > 0 then (if (i:Int)<IntKind.wrap .i64 ((sb:Int)-1) then i else IntKind.wrap .i64 ((sb:Int)-1)) else 0)<(sb:Int)∧∃b1 f1,(yb:OA)=some ⟨b1,f1,none⟩∧∃x1:Nat,  rdC H b1 (f1+((if ((if (i:Int)<IntKind.wrap .i64 ((sb:Int)-1) then i else IntKind.wrap .i64 ((sb:Int)-1)):Int) > 0 then (if (i:Int)<IntKind.wrap .i64 ((sb:Int)-1) then i else IntKind.wrap .i64 ((sb:Int)-1)) else 0):Int).toNat*1)=some (.float .f32 x1)∧K (.float .f32 x1) H):=by kernel_rfl
theorem zrc:∀g,FnOk Tryz.prog g (zrb g):=FnOk.envOf (by
 intro x hx;cases hx)
theorem f10z_main (yb:OA) (sb jc:Nat) (i:Int) (H:zp) (K:KT) (h:zfc yb sb jc i H fun (r1:Nat) (H':zp)=>K (.float .f32 r1) H'):zv Tryz.prog zrb Tryz.f180 [.slice yb sb jc,.int .i64 i] H K:=by
 rw [f10z_vc]
 obtain ⟨za,i_list,bd_4,pr0,hk⟩:=h
 obtain rfl:=i_list.eqn
 have e:(z5c za i)=_:=rfl
 have e:=e.trans (zb2 za i)
 have g0:=Grow.refl H
 rw [show IntKind.wrap .i64 ((za.length:Int)-1)=((za.length:Int)-1) from zt ω2 ω2]
 obtain ⟨b_1,f_2,q_3⟩:=((i_list.grow g0)).pos ω0
 refine ⟨by omega,by omega,b_1,f_2,q_3,?_⟩
 refine ⟨((za).getD ((if ((if (i:Int)<((za.length:Int)-1) then i else ((za.length:Int)-1)):Int) > 0 then (if (i:Int)<((za.length:Int)-1) then i else ((za.length:Int)-1)) else 0):Int).toNat 0),(i_list).rd g0 q_3 ω2 _,?_⟩
 rw [e] at hk
 exact hk
theorem f10z_ok:FnOk Tryz.prog 180 z15q:=FnOk.bodyF mix_ok zrc Tryz.func180 rfl ω9 ω9 fun args H=>by
 unfold z14g
 split
 ·refine ⟨?_,?_,?_,?_,fun K hk=>f10z_main _ _ _ _ H K hk⟩
  ·intro K K' h hk;obtain ⟨za,i_list,bd_4,pr0,k⟩:=hk;exact ⟨za,i_list,bd_4,pr0,h _ _ k⟩
  ·intro _ K hk;obtain ⟨za,i_list,bd_4,pr0,k⟩:=hk;exact ⟨_,k,fun K' k'=>⟨za,i_list,bd_4,pr0,k'⟩⟩
  ·intro K hk;obtain ⟨za,i_list,bd_4,pr0,k⟩:=hk;exact ⟨_,_,k⟩
  ·nofun
 ·exact Nice.no
def z6c (k:Int) (w:Nat) (low high:LN):LN:=bif Int.tmod k 2==0 then high.mapIdx (fun i x=>fadd .f32 x (fmul .f32 w (fadd .f32 (low.getD i 0) (z5c low ((i:Int)+1))))) else high
def zah (k:Int) (w:Nat) (low high:LN):LN:=bif Int.tmod k 2==0 then low else low.mapIdx (fun i x=>fadd .f32 x (fmul .f32 w (fadd .f32 (z5c high ((i:Int)-1)) (z5c high (i:Int)))))
@[simp] theorem z2s (k:Int) (w:Nat) (low high:LN):(z6c k w low high).length=high.length:=by
 unfold z6c;cases (Int.tmod k 2==0)<;>simp
@[simp] theorem z3z (k:Int) (w:Nat) (low high:LN):(zah k w low high).length=low.length:=by
 unfold zah;cases (Int.tmod k 2==0)<;>simp
def z8s (ye pd:LN) (k:Int) (w:Nat):Nat→Int→LN→LN×LN
 | 0,_,_=>([],[])
 | μ+1,i,y1_1=>(bif decide ((i:Int)<(pd.length:Int)) then (z8s ye pd k w μ (i+1) (((y1_1).set (i:Int).toNat ((fadd .f32 (((y1_1).getD (i:Int).toNat 0)) (fmul .f32 w (fadd .f32 (((ye).getD (i:Int).toNat 0)) ((z5c ye (i+1)))))))))) else (ye,y1_1))
def ze1:=fun ye pd k w μ i y1_1=>@z8s.eq_2 ye pd k w i y1_1 μ
def z8t (ye pd:LN) (k:Int) (w:Nat):Nat→Int→LN→LN×LN
 | 0,_,_=>([],[])
 | μ+1,i9,y2_1=>(bif decide ((i9:Int)<(ye.length:Int)) then (z8t ye pd k w μ (i9+1) (((y2_1).set (i9:Int).toNat ((fadd .f32 (((y2_1).getD (i9:Int).toNat 0)) (fmul .f32 w (fadd .f32 ((z5c pd (i9-1))) (z5c pd i9)))))))) else (y2_1,pd))
def ze2:=fun ye pd k w μ i9 y2_1=>@z8t.eq_2 ye pd k w i9 y2_1 μ
def ze0 (ye pd:LN) (k:Int) (w:Nat):LN×LN:=((bif (Int.tmod k 2:Int)==0 then (z8s ye pd k w (Int.toNat ((pd.length:Int)-(0:Int))+1) (0:Int) pd) else (z8t ye pd k w (Int.toNat ((ye.length:Int)-(0:Int))+1) (0:Int) ye)))
def zkg:=@ze0.eq_1
def zij (bd:OA) (od vd:Nat) (zb:OA) (cc ic:Nat) (k:Int) (w:Nat) (H:zp) (K:zp→Prop):Prop:=∃lo:Nat,∃lob:Nat,∃(ye pd:LN),OwnS fF H lo bd od vd ye∧OwnS fF H lob zb cc ic pd∧SepA bd zb∧ye.length<1073741824∧pd.length<1073741824∧pd.length≤ye.length∧1≤pd.length∧((∀H':zp,z2u bd zb H H'→OwnS fF H' lo bd od vd (zah k w ye pd)→OwnS fF H' lob zb cc ic (z6c k w ye pd)→K  H'))
theorem zn7 {bd:OA} {od vd:Nat} {zb:OA} {cc ic:Nat} {k:Int} {w:Nat} {H:zp} {K:zp→Prop} (h:∃lo:Nat,∃lob:Nat,∃(ye pd:LN),OwnS fF H lo bd od vd ye∧OwnS fF H lob zb cc ic pd∧SepA bd zb∧ye.length<1073741824∧pd.length<1073741824∧pd.length≤ye.length∧1≤pd.length∧((∀H':zp,z2u bd zb H H'→OwnS fF H' lo bd od vd (zah k w ye pd)→OwnS fF H' lob zb cc ic (z6c k w ye pd)→K  H'))):zij bd od vd zb cc ic k w H K:=h
theorem z6x (W ys:LN) (i:Nat) (hi:i<ys.length) (hl:W.length=ys.length):(W.take i++ys.drop i).getD i 0=ys.getD i 0:=by
 rw [List.getD_eq_getElem?_getD,List.getD_eq_getElem?_getD,List.getElem?_append_right (by simp;omega)]
 have:(W.take i).length=i:=by simp;omega
 rw [this,Nat.sub_self,List.getElem?_drop,Nat.add_zero]
theorem z10e (low high:LN) (k:Int) (w:Nat) (W:LN) (hW:W=high.mapIdx (fun i x=>fadd .f32 x (fmul .f32 w (fadd .f32 (low.getD i 0) (z5c low ((i:Int)+1)))))):
  ∀(μ i:Nat),i≤high.length→high.length-i<μ→z8s low high k w μ (i:Int) (W.take i++high.drop i)=(low,W):=by
 have hl:W.length=high.length:=by rw [hW];simp
 intro μ
 induction μ with
 | zero=>intro i _ h;omega
 | succ μ ih=>
  intro i hi hm
  rw [ze1]
  by_cases h:i<high.length
  ·rw [decide_eq_true (show (i:Int)<(high.length:Int) by omega),cond_true,Int.toNat_natCast]
   have:=ih (i+1) ω2 ω2
   rw [←this,z3g W high i h hl]
   ·rfl
   ·rw [z6x W high i h hl,hW]
    simp [List.getD_eq_getElem?_getD,h]
  ·have e:i=high.length:=by omega
   rw [decide_eq_false (show ¬(i:Int)<(high.length:Int) by omega),cond_false,e]
   simp [←hl]
theorem z10f (low high:LN) (k:Int) (w:Nat) (W:LN) (hW:W=low.mapIdx (fun i x=>fadd .f32 x (fmul .f32 w (fadd .f32 (z5c high ((i:Int)-1)) (z5c high (i:Int)))))):
  ∀(μ i:Nat),i≤low.length→low.length-i<μ→z8t low high k w μ (i:Int) (W.take i++low.drop i)=(W,high):=by
 have hl:W.length=low.length:=by rw [hW];simp
 intro μ
 induction μ with
 | zero=>intro i _ h;omega
 | succ μ ih=>
  intro i hi hm
  rw [ze2]
  by_cases h:i<low.length
  ·rw [decide_eq_true (show (i:Int)<(low.length:Int) by omega),cond_true,Int.toNat_natCast]
   have:=ih (i+1) ω2 ω2
   rw [←this,z3g W low i h hl]
   ·rfl
   ·rw [z6x W low i h hl,hW]
    simp [List.getD_eq_getElem?_getD,h]
  ·have e:i=low.length:=by omega
   rw [decide_eq_false (show ¬(i:Int)<(low.length:Int) by omega),cond_false,e]
   simp [←hl]
theorem z10g (low high:LN) (k:Int) (w:Nat):ze0 low high k w=(zah k w low high,z6c k w low high):=by
 rw [zkg]
 unfold zah z6c
 cases h:(Int.tmod k 2==0)
 ·rw [cond_false,cond_false,cond_false]
  have:=z10f low high k w _ rfl (Int.toNat ((low.length:Int)-0)+1) 0 ω2 ω2
  simpa using this
 ·rw [cond_true,cond_true,cond_true]
  have:=z10e low high k w _ rfl (Int.toNat ((high.length:Int)-0)+1) 0 ω2 ω2
  simpa using this
/-! f1fz: function 175 -/
def z5r:Env:=envOf [(180,z15q)]
def z14u (args:List Value) (H:zp):(Value→zp→Prop)→Prop:=match args with
 | [.slice bd od vd,.slice zb cc ic,.int .i64 k,.float .f32 w]=>fun K=>zij bd od vd zb cc ic k w H fun  (H':zp)=>K (.tuple #[]) H'
 | _=>fun _=>False
def zt0:FSpec:={F:=z14u,quiet:=false,tame:=false}
theorem z1ai (bd:OA) (od vd:Nat) (zb:OA) (cc ic:Nat) (k:Int) (w:Nat) (H:zp) (K:KT):zv Tryz.prog z5r Tryz.f175 [.slice bd od vd,.slice zb cc ic,.int .i64 k,.float .f32 w] H K=
 (2≠(0:Int)∧Br ((Int.tmod k 2:Int)==0) (z1i (exL Tryz.prog z5r (cl (cl (cr (cl (cl (cr (cl (zq Tryz.f175)))))))) 267 0 [(0,0)]) (.slice bd od vd::.slice zb cc ic::ud::.float .f32 w::ud4 (.int .i64 0::ud53 [])) H (zu 0 (seqQ (exL Tryz.prog z5r (cr (cl (cr (cl (zq Tryz.f175))))) 11 0 []) (seqQ (exL Tryz.prog z5r (cr (zq Tryz.f175)) 0 0 []) (retK Tryz.prog Tryz.f175 K))))) (z1i (exL Tryz.prog z5r (cl (cl (cr (cr (zq Tryz.f175))))) 523 0 [(2,0)]) (.slice bd od vd::.slice zb cc ic::ud::.float .f32 w::ud5 (.int .i64 0::ud52 [])) H (zu 2 (retK Tryz.prog Tryz.f175 K)))):=by kernel_rfl
abbrev zd5 (zb:OA) (ic cc:Nat) (bd:OA) (vd od w:Nat) (i:Int)  :List Value:=(.slice bd od vd::.slice zb cc ic::ud::.float .f32 w::ud4 (.int .i64 i::ud53 []))
theorem z1ag (zb:OA) (ic cc:Nat) (bd:OA) (vd od w:Nat) (i:Int)  (H:zp) (R:Post):exL Tryz.prog z5r (cl (cl (cr (cl (cl (cr (cl (zq Tryz.f175)))))))) 267 0 [(0,0)] (zd5 zb ic cc bd vd od w i) H R=
 (Br (decide ((i:Int)<(cc:Int))) ((0:Int)≤i∧i<(cc:Int)∧∃b1 f1,(zb:OA)=some ⟨b1,f1,none⟩∧∃x1:Nat,  rdC H b1 (f1+(i:Int).toNat*1)=some (.float .f32 x1)∧(0:Int)≤i∧i<(od:Int)∧∃b2 f2,(bd:OA)=some ⟨b2,f2,none⟩∧∃x2:Nat,  rdC H b2 (f2+(i:Int).toNat*1)=some (.float .f32 x2)∧zfc bd od vd (IntKind.wrap .i64 (i+1)) H fun (r1:Nat) (H1:zp)=>(0:Int)≤i∧i<(cc:Int)∧∃b3 f3,(zb:OA)=some ⟨b3,f3,none⟩∧isOwn H1 b3∧(∃l,rdN H1 b3 (f3+(i:Int).toNat*1) 1=some l)∧Lt (setC H1 b3 (f3+(i:Int).toNat*1) (.float .f32 (fadd .f32 x1 (fmul .f32 w (fadd .f32 x2 r1))))) fun H2=>R .normal (.slice bd od vd::.slice zb cc ic::ud::.float .f32 w::ud4 (.int .i64 (IntKind.wrap .i64 (i+1))::ud53 [])) H2) (R (.exit 0) (ud62 []) H)):=by kernel_rfl
def zlq (zb:OA) (ic cc:Nat) (bd:OA) (vd od w:Nat) (Inv:Nat→Int→zp→Prop):Nat→List Value→zp→Prop:=fun μ tm H=>∃(i:Int),tm=(zd5 zb ic cc bd vd od w i)∧Inv μ i H
theorem z1ac (zb:OA) (ic cc:Nat) (bd:OA) (vd od w:Nat) {Q:Post} (Inv:Nat→Int→zp→Prop) (ν:Nat) (i:Int)  (H:zp) (h0:Inv ν i H)
  (hs:∀(μ:Nat) (i:Int)  (H:zp),Inv μ i H→exL Tryz.prog z5r (cl (cl (cr (cl (cl (cr (cl (zq Tryz.f175)))))))) 267 0 [(0,0)] (zd5 zb ic cc bd vd od w i) H (z1a (zlq zb ic cc bd vd od w Inv) μ Q)):z1i (exL Tryz.prog z5r (cl (cl (cr (cl (cl (cr (cl (zq Tryz.f175)))))))) 267 0 [(0,0)]) (zd5 zb ic cc bd vd od w i) H Q:=
 ⟨zlq zb ic cc bd vd od w Inv,ν,⟨i,rfl,h0⟩,fun μ tm H h=>by obtain ⟨i,rfl,hI⟩:=h;exact hs μ i  H hI⟩
theorem z1ae {zb:OA} {ic cc:Nat} {bd:OA} {vd od w:Nat} {Q:Post} {Inv:Nat→Int→zp→Prop} {μ:Nat} (μ':Nat) {i:Int}  {H:zp} (hm:μ'<μ) (hI:Inv μ' i H):z1a (zlq zb ic cc bd vd od w Inv) μ Q .normal (zd5 zb ic cc bd vd od w i) H:=⟨μ',hm,i,rfl,hI⟩
theorem zue  (H:zp) (K:KT)  {I:Nat→List Value→zp→Prop} {μ:Nat}:z1a I μ (zu 0 (seqQ (exL Tryz.prog z5r (cr (cl (cr (cl (zq Tryz.f175))))) 11 0 []) (seqQ (exL Tryz.prog z5r (cr (zq Tryz.f175)) 0 0 []) (retK Tryz.prog Tryz.f175 K)))) (.exit 0) (ud62 []) H=
 (K (.tuple #[]) H):=by kernel_rfl
abbrev zd6 (zb:OA) (ic cc:Nat) (bd:OA) (vd od w:Nat) (i9:Int)  :List Value:=(.slice bd od vd::.slice zb cc ic::ud::.float .f32 w::ud5 (.int .i64 i9::ud52 []))
theorem z1ah (zb:OA) (ic cc:Nat) (bd:OA) (vd od w:Nat) (i9:Int)  (H:zp) (R:Post):exL Tryz.prog z5r (cl (cl (cr (cr (zq Tryz.f175))))) 523 0 [(2,0)] (zd6 zb ic cc bd vd od w i9) H R=
 (Br (decide ((i9:Int)<(od:Int))) ((0:Int)≤i9∧i9<(od:Int)∧∃b4 f4,(bd:OA)=some ⟨b4,f4,none⟩∧∃x3:Nat,  rdC H b4 (f4+(i9:Int).toNat*1)=some (.float .f32 x3)∧zfc zb cc ic (IntKind.wrap .i64 (i9-1)) H fun (r2:Nat) (H3:zp)=>zfc zb cc ic i9 H3 fun (r3:Nat) (H4:zp)=>(0:Int)≤i9∧i9<(od:Int)∧∃b5 f5,(bd:OA)=some ⟨b5,f5,none⟩∧isOwn H4 b5∧(∃l,rdN H4 b5 (f5+(i9:Int).toNat*1) 1=some l)∧Lt (setC H4 b5 (f5+(i9:Int).toNat*1) (.float .f32 (fadd .f32 x3 (fmul .f32 w (fadd .f32 r2 r3))))) fun H5=>R .normal (.slice bd od vd::.slice zb cc ic::ud::.float .f32 w::ud5 (.int .i64 (IntKind.wrap .i64 (i9+1))::ud52 [])) H5) (R (.exit 2) (ud62 []) H)):=by kernel_rfl
def zlr (zb:OA) (ic cc:Nat) (bd:OA) (vd od w:Nat) (Inv:Nat→Int→zp→Prop):Nat→List Value→zp→Prop:=fun μ tm H=>∃(i9:Int),tm=(zd6 zb ic cc bd vd od w i9)∧Inv μ i9 H
theorem z1ad (zb:OA) (ic cc:Nat) (bd:OA) (vd od w:Nat) {Q:Post} (Inv:Nat→Int→zp→Prop) (ν:Nat) (i9:Int)  (H:zp) (h0:Inv ν i9 H)
  (hs:∀(μ:Nat) (i9:Int)  (H:zp),Inv μ i9 H→exL Tryz.prog z5r (cl (cl (cr (cr (zq Tryz.f175))))) 523 0 [(2,0)] (zd6 zb ic cc bd vd od w i9) H (z1a (zlr zb ic cc bd vd od w Inv) μ Q)):z1i (exL Tryz.prog z5r (cl (cl (cr (cr (zq Tryz.f175))))) 523 0 [(2,0)]) (zd6 zb ic cc bd vd od w i9) H Q:=
 ⟨zlr zb ic cc bd vd od w Inv,ν,⟨i9,rfl,h0⟩,fun μ tm H h=>by obtain ⟨i9,rfl,hI⟩:=h;exact hs μ i9  H hI⟩
theorem z1af {zb:OA} {ic cc:Nat} {bd:OA} {vd od w:Nat} {Q:Post} {Inv:Nat→Int→zp→Prop} {μ:Nat} (μ':Nat) {i9:Int}  {H:zp} (hm:μ'<μ) (hI:Inv μ' i9 H):z1a (zlr zb ic cc bd vd od w Inv) μ Q .normal (zd6 zb ic cc bd vd od w i9) H:=⟨μ',hm,i9,rfl,hI⟩
theorem zuf  (H:zp) (K:KT)  {I:Nat→List Value→zp→Prop} {μ:Nat}:z1a I μ (zu 2 (retK Tryz.prog Tryz.f175 K)) (.exit 2) (ud62 []) H=
 (K (.tuple #[]) H):=by kernel_rfl
theorem zrz:∀g,FnOk Tryz.prog g (z5r g):=FnOk.envOf (by
 intro x hx
 simp only [List.mem_cons,List.not_mem_nil,or_false] at hx
 subst hx;exact f10z_ok)
theorem ω14 {P:Prop} (h:P:=by first | assumption | omega | (simp;omega)):P:=h
theorem ω6 {P:Prop} (h:P:=by first | omega | (simp only [List.length_set];(first | omega | (simp only [List.length_set,List.length_replicate,List.length_append,List.length_cons,List.length_nil,List.length_take,List.length_drop,z1u];done) | (simp only [List.length_set,List.length_replicate,List.length_append,List.length_cons,List.length_nil,List.length_take,List.length_drop,z1u];omega)))):P:=h
theorem zuc (bd:OA) (od vd:Nat) (zb:OA) (cc ic:Nat) (k:Int) (w:Nat) (H:zp) (K:KT) (h:zij bd od vd zb cc ic k w H fun  (H':zp)=>K (.tuple #[]) H'):zv Tryz.prog z5r Tryz.f175 [.slice bd od vd,.slice zb cc ic,.int .i64 k,.float .f32 w] H K:=by
 rw [z1ai]
 obtain ⟨lo,lob,ye,pd,i_low,i_high,sp_m,bd_53,bd_54,pr0,pr1,hk⟩:=h
 have hk:(∀H':zp,z2u bd zb H H'→OwnS fF H' lo bd od vd ((ze0 ye pd k w).1)→OwnS fF H' lob zb cc ic ((ze0 ye pd k w).2)→(fun  (H':zp)=>K (.tuple #[]) H')  H'):=by rw [z10g ye pd k w];exact hk
 obtain rfl:=i_low.len
 obtain rfl:=i_high.len
 have up_p:=i_low.up
 have lo_p:=i_low.lo
 have up_q:=i_high.up
 have lo_q:=i_high.lo
 have e:(ze0 ye pd k w)=_:=rfl
 have e:=e.trans (zkg ye pd k w)
 have g0:=z2u.refl bd zb H
 refine ⟨ω22,?_⟩
 have z_1:=z9o k 2
 have z_2:=zbx k 2
 refine Br.intro (fun c_3=>?_) (fun c_3=>?_)
 ·have e:=e.trans (zx c_3)
  have c_3':=zjr c_3
  refine z1ac _ _ _ _ _ _ _ (fun (μ:Nat) (i:Int) (H_1:zp)=>∃(y1_1:LN),OwnS fF H_1 lo bd ye.length vd ye∧OwnS fF H_1 lob zb pd.length ic y1_1∧y1_1.length=(pd).length∧H.length≤H_1.length∧H.length≤H_1.length∧z2u bd zb H H_1∧(0:Int)≤i∧i≤(pd.length:Int)∧(pd.length:Int)-i≤(μ:Int)∧ze0 ye pd k w=z8s ye pd k w (μ+1) i y1_1) (Int.toNat ((pd.length:Int)-(0:Int))) _ H ?_ ?_
  ·exact ⟨_,i_low,i_high,ω17,ω2,ω2,g0,ω7,ω7,ω2,e⟩
  ·intro μ i  H_1 hI
   obtain ⟨y1_1,r_4,r_5,y6,n_7,n8,g_9,v_10,v_11,hμ,e⟩:=hI
   rw [z1ag]
   have e:=e.trans (ze1 ye pd k w μ i y1_1)
   have l_12:=g_9.1
   refine Br.intro (fun c_13=>?_) (fun c_13=>?_)
   ·have e:=e.trans (zx c_13)
    have c_13':=of_decide_eq_true c_13
    obtain ⟨b_14,f_15,q16⟩:=(r_5.isL).pos ω0
    refine ⟨by omega,by omega,b_14,f_15,q16,?_⟩
    refine ⟨((y1_1).getD (i:Int).toNat 0),(r_5.isL).rd (Grow.refl _) q16 ω2 _,?_⟩
    obtain ⟨b_17,f_18,q19⟩:=(r_4.isL).pos ω0
    refine ⟨by omega,by omega,b_17,f_18,q19,?_⟩
    refine ⟨((ye).getD (i:Int).toNat 0),(r_4.isL).rd (Grow.refl _) q19 ω2 _,?_⟩
    rw [show IntKind.wrap .i64 (i+1)=(i+1) from zt ω2 ω2]
    refine zgy ⟨_,r_4.isL,ω0,ω14,?_⟩
    obtain ⟨b20,f_21,q_22⟩:=(r_5.isL).pos ω0
    refine ⟨by omega,by omega,b20,f_21,q_22,?_⟩
    refine Lt.setS r_5 q_22 ω6 (fun H_2 hl_23 o25 k24=>?_)
    have l26:=k24.1
    have g27:=g_9.transB k24
    have l28:=g27.1
    have r_29:=r_4.keepA (sp_m).symm k24
    refine z1ae (μ-1) ω15 ⟨_,r_29,o25,ω21,ω2,ω2,ω2,ω1,ω1,ω15,ω12⟩
   ·have e:=e.trans (zw c_13)
    have c_13':=of_decide_eq_false c_13
    rw [zue]
    rw [e] at hk
    exact hk H_1 g_9 r_4 r_5
 ·have e:=e.trans (zw c_3)
  have c_3':=zjq c_3
  refine z1ad _ _ _ _ _ _ _ (fun (μ:Nat) (i9:Int) (H_3:zp)=>∃(y2_1:LN),OwnS fF H_3 lo bd ye.length vd y2_1∧y2_1.length=(ye).length∧OwnS fF H_3 lob zb pd.length ic pd∧H.length≤H_3.length∧H.length≤H_3.length∧z2u bd zb H H_3∧(0:Int)≤i9∧i9≤(ye.length:Int)∧(ye.length:Int)-i9≤(μ:Int)∧ze0 ye pd k w=z8t ye pd k w (μ+1) i9 y2_1) (Int.toNat ((ye.length:Int)-(0:Int))) _ H ?_ ?_
  ·exact ⟨_,i_low,ω17,i_high,ω2,ω2,g0,ω7,ω7,ω2,e⟩
  ·intro μ i9  H_3 hI
   obtain ⟨y2_1,r_30,y31,r_32,n33,n34,g35,v_36,v_37,hμ,e⟩:=hI
   rw [z1ah]
   have e:=e.trans (ze2 ye pd k w μ i9 y2_1)
   have l38:=g35.1
   refine Br.intro (fun c_39=>?_) (fun c_39=>?_)
   ·have e:=e.trans (zx c_39)
    have c_39':=of_decide_eq_true c_39
    obtain ⟨b40,f41,q42⟩:=(r_30.isL).pos ω0
    refine ⟨by omega,by omega,b40,f41,q42,?_⟩
    refine ⟨((y2_1).getD (i9:Int).toNat 0),(r_30.isL).rd (Grow.refl _) q42 ω2 _,?_⟩
    rw [show IntKind.wrap .i64 (i9-1)=(i9-1) from zt ω2 ω2]
    refine zgy ⟨_,r_32.isL,ω0,ω14,?_⟩
    refine zgy ⟨_,r_32.isL,ω0,ω14,?_⟩
    obtain ⟨b43,f_44,q45⟩:=(r_30.isL).pos ω0
    refine ⟨by omega,by omega,b43,f_44,q45,?_⟩
    refine Lt.setS r_30 q45 ω6 (fun H_4 hl_46 o48 k47=>?_)
    have l49:=k47.1
    have g50:=g35.transA k47
    have l51:=g50.1
    have r_52:=r_32.keepA (sp_m) k47
    rw [show IntKind.wrap .i64 (i9+1)=(i9+1) from zt ω2 ω2]
    refine z1af (μ-1) ω15 ⟨_,o48,ω21,r_52,ω2,ω2,ω2,ω1,ω1,ω15,ω12⟩
   ·have e:=e.trans (zw c_39)
    have c_39':=of_decide_eq_false c_39
    rw [zuf]
    rw [e] at hk
    exact hk H_3 g35 r_30 r_32
theorem zud:FnOk Tryz.prog 175 zt0:=FnOk.bodyF mix_ok zrz Tryz.func175 rfl ω9 ω9 fun args H=>by
 unfold z14u
 split
 ·refine ⟨?_,?_,?_,?_,fun K hk=>zuc _ _ _ _ _ _ _ _ H K hk⟩
  ·intro K K' h hk;obtain ⟨lo,lob,ye,pd,i_low,i_high,sp_m,bd_53,bd_54,pr0,pr1,k⟩:=hk;exact ⟨lo,lob,ye,pd,i_low,i_high,sp_m,bd_53,bd_54,pr0,pr1,(fun H' gg ow ow2=>h _ _ (k H' gg ow ow2))⟩
  ·nofun
  ·intro K hk;obtain ⟨lo,lob,ye,pd,i_low,i_high,sp_m,bd_53,bd_54,pr0,pr1,k⟩:=hk;exact (i_low.put2 i_high sp_m _ _ (by rw [z3z]) (by rw [z2s])).elim fun H1 h=>⟨_,_,k H1 h.1 h.2.1 h.2.2⟩
  ·nofun
 ·exact Nice.no

def z5d (za:LN):LN×Bool:=(bif !(z1p za) then ([],false) else (za,true))
def zb4:=@z5d.eq_1
def zna (yb:OA) (sb jc:Nat) (H:zp) (K:OA→Nat→Nat→Bool→zp→Prop):Prop:=∃(za:LN),IsL fF H yb sb za∧za.length<1073741824∧((∀H':zp,Grow H H'→Br ((z5d za).2) (K yb sb jc true H') (K none 0 0 false H')))
theorem znb {yb:OA} {sb jc:Nat} {H:zp} {K:OA→Nat→Nat→Bool→zp→Prop} (h:∃(za:LN),IsL fF H yb sb za∧za.length<1073741824∧((∀H':zp,Grow H H'→Br ((z5d za).2) (K yb sb jc true H') (K none 0 0 false H')))):zna yb sb jc H K:=h

/-! f1kz: function 176 -/
def zs5:Env:=envOf [(124,zid)]
def z14y (args:List Value) (H:zp):(Value→zp→Prop)→Prop:=match args with
 | [.slice yb sb jc]=>fun K=>zna yb sb jc H fun (sd:OA) (ae:Nat) (zd:Nat) (r2:Bool) (H':zp)=>K (.tuple #[.slice sd ae zd,.bool r2]) H'
 | _=>fun _=>False
def z16d:FSpec:={F:=z14y,quiet:=false,tame:=true}
theorem z1ar (yb:OA) (sb jc:Nat) (H:zp) (K:KT):zv Tryz.prog zs5 Tryz.f176 [.slice yb sb jc] H K=
 (zc3 yb sb jc H fun (r1:Bool) (H1:zp)=>Br (!r1) (K (.tuple #[.slice none 0 0,.bool false]) H1) (K (.tuple #[.slice yb sb jc,.bool true]) H1)):=by kernel_rfl
theorem zs6:∀g,FnOk Tryz.prog g (zs5 g):=FnOk.envOf (by
 intro x hx
 simp only [List.mem_cons,List.not_mem_nil,or_false] at hx
 subst hx;exact f11z_ok)
theorem zuj (yb:OA) (sb jc:Nat) (H:zp) (K:KT) (h:zna yb sb jc H fun (sd:OA) (ae:Nat) (zd:Nat) (r2:Bool) (H':zp)=>K (.tuple #[.slice sd ae zd,.bool r2]) H'):zv Tryz.prog zs5 Tryz.f176 [.slice yb sb jc] H K:=by
 rw [z1ar]
 obtain ⟨za,i_list,bd_2,hk⟩:=h
 obtain rfl:=i_list.eqn
 have e:(z5d za)=_:=rfl
 have e:=e.trans (zb4 za)
 have g0:=Grow.refl H
 refine zan ⟨_,(i_list.grow g0),ω0,?_⟩
 refine Br.intro (fun c_1=>?_) (fun c_1=>?_)
 ·have e:=e.trans (zx c_1)
  have c_1n:=z1e c_1
  have q:=hk H g0
  rw [e] at q
  exact q
 ·have e:=e.trans (zw c_1)
  have c_1n:=z1d c_1
  have q:=hk H g0
  rw [e] at q
  exact q
theorem z1aq:FnOk Tryz.prog 176 z16d:=FnOk.bodyF mix_ok zs6 Tryz.func176 rfl ω9 ω9 fun args H=>by
 unfold z14y
 split
 ·refine ⟨?_,?_,?_,?_,fun K hk=>zuj _ _ _ H K hk⟩
  ·intro K K' h hk;obtain ⟨za,i_list,bd_2,k⟩:=hk;exact ⟨za,i_list,bd_2,(fun H' gg=>zgs (h _ _) (h _ _) (k H' gg))⟩
  ·nofun
  ·intro K hk;obtain ⟨za,i_list,bd_2,k⟩:=hk;exact zra (k H (Grow.refl H))
  ·intro _ K hk;obtain ⟨za,i_list,bd_2,k⟩:=hk;exact ⟨za,i_list,bd_2,(fun H' gg=>zgs (fun q=>⟨gg,q⟩) (fun q=>⟨gg,q⟩) (k H' gg))⟩
 ·exact Nice.no

def z4s (aa:LN) (ga:Nat) (ee mf:LN) (i:Int) (y1_1 y1_2:LN) (gf:Int) (y2_1 y2_2:LN) (k:Int) (y3_1 y3_2:LN) (k4_6:LN→Int→(LN×Bool)):Nat→LN→Int→LN×Bool
 | 0,_,_=>([],false)
 | μ4+1,fg,mg=>(bif decide ((mg:Int)<(0+ee.length:Int)) then (bif decide ((mg:Int)<(0+mf.length:Int)) then (z4s aa ga ee mf i y1_1 y1_2 gf y2_1 y2_2 k y3_1 y3_2 k4_6 μ4 (((fg++[(((y3_1).getD (mg:Int).toNat 0))])++[(((y3_2).getD (mg:Int).toNat 0))])) (mg+1)) else (z4s aa ga ee mf i y1_1 y1_2 gf y2_1 y2_2 k y3_1 y3_2 k4_6 μ4 ((fg++[(((y3_1).getD (mg:Int).toNat 0))])) (mg+1))) else (k4_6 fg mg))
def zfy:=fun aa ga ee mf i y1_1 y1_2 gf y2_1 y2_2 k y3_1 y3_2 k4_6 μ4 fg mg=>@z4s.eq_2 aa ga ee mf i y1_1 y1_2 gf y2_1 y2_2 k y3_1 y3_2 k4_6 fg mg μ4
def z7u (aa:LN) (ga:Nat) (ee mf:LN) (i:Int) (y1_1 y1_2:LN) (gf:Int) (y2_1 y2_2:LN) (k3_4:Int→LN→LN→(LN×Bool)):Nat→Int→LN→LN→LN×Bool
 | 0,_,_,_=>([],false)
 | μ3+1,k,y3_1,y3_2=>(bif decide ((0:Int)≤k) then (z7u aa ga ee mf i y1_1 y1_2 gf y2_1 y2_2 k3_4 μ3 (k-1) ((zah k (fneg .f32 (((aa).getD (k:Int).toNat 0))) y3_1 y3_2)) ((z6c k (fneg .f32 (((aa).getD (k:Int).toNat 0))) y3_1 y3_2))) else (k3_4 k y3_1 y3_2))
def zfx:=fun aa ga ee mf i y1_1 y1_2 gf y2_1 y2_2 k3_4 μ3 k y3_1 y3_2=>@z7u.eq_2 aa ga ee mf i y1_1 y1_2 gf y2_1 y2_2 k3_4 k y3_1 y3_2 μ3
def zbb (aa:LN) (ga:Nat) (ee mf:LN) (i:Int) (y1_1 y1_2:LN) (k2_2:Int→LN→LN→(LN×Bool)):Nat→Int→LN→LN→LN×Bool
 | 0,_,_,_=>([],false)
 | μ2+1,gf,y2_1,y2_2=>(bif decide ((gf:Int)<(0+mf.length:Int)) then (zbb aa ga ee mf i y1_1 y1_2 k2_2 μ2 (gf+1) y2_1 (((y2_2).set (gf:Int).toNat ((fmul .f32 (((y2_2).getD (gf:Int).toNat 0)) ga))))) else (k2_2 gf y2_1 y2_2))
def zfw:=fun aa ga ee mf i y1_1 y1_2 k2_2 μ2 gf y2_1 y2_2=>@zbb.eq_2 aa ga ee mf i y1_1 y1_2 k2_2 gf y2_1 y2_2 μ2
def z7t (aa:LN) (ga:Nat) (ee mf:LN):Nat→Int→LN→LN→LN×Bool
 | 0,_,_,_=>([],false)
 | μ+1,i,y1_1,y1_2=>(bif decide ((i:Int)<(0+ee.length:Int)) then (z7t aa ga ee mf μ (i+1) (((y1_1).set (i:Int).toNat ((fdiv .f32 (((y1_1).getD (i:Int).toNat 0)) ga)))) y1_2) else (zbb aa ga ee mf i y1_1 y1_2 (fun (gf:Int) (y2_1:LN) (y2_2:LN)=>(z7u aa ga ee mf i y1_1 y1_2 gf y2_1 y2_2 (fun (k:Int) (y3_1:LN) (y3_2:LN)=>(z4s aa ga ee mf i y1_1 y1_2 gf y2_1 y2_2 k y3_1 y3_2 (fun (fg:LN) (mg:Int)=>(bif (z5d fg).2 then (fg,true) else ([],false))) (Int.toNat ((0+ee.length:Int)-(0:Int))+1) ([]:LN) (0:Int))) (Int.toNat (((((aa.length:Int)-1)))-0+1)+1) ((((aa.length:Int)-1))) y2_1 y2_2)) (Int.toNat ((0+mf.length:Int)-(0:Int))+1) (0:Int) y1_1 y1_2))
def z9m:=fun aa ga ee mf μ i y1_1 y1_2=>@z7t.eq_2 aa ga ee mf i y1_1 y1_2 μ
def z7f (aa:LN) (ga:Nat) (ee mf:LN):Nat→LN→Int→LN×Bool
 | 0,_,_=>([],false)
 | μ+1,fg,mg=>(bif decide ((mg:Int)<(0+ee.length:Int)) then (bif decide ((mg:Int)<(0+mf.length:Int)) then (z7f aa ga ee mf μ (((fg++[((((([]:LN)++ee)).getD (mg:Int).toNat 0))])++[((((([]:LN)++mf)).getD (mg:Int).toNat 0))])) (mg+1)) else (z7f aa ga ee mf μ ((fg++[((((([]:LN)++ee)).getD (mg:Int).toNat 0))])) (mg+1))) else (bif (z5d fg).2 then (fg,true) else ([],false)))
def zea:=fun aa ga ee mf μ fg mg=>@z7f.eq_2 aa ga ee mf fg mg μ
def z7s (aa:LN) (ga:Nat) (ee mf:LN):LN×Bool:=(bif decide ((0:Int)<(0+mf.length:Int)) then (z7t aa ga ee mf (Int.toNat ((0+ee.length:Int)-(0:Int))+1) (0:Int) ((([]:LN)++ee)) ((([]:LN)++mf))) else (z7f aa ga ee mf (Int.toNat ((0+ee.length:Int)-(0:Int))+1) ([]:LN) (0:Int)))
def zoh:=@z7s.eq_1
def zzm (s:Nat) (ri:OA) (oe wi:Nat) (yi:OA) (df sj:Nat) (H:zp) (K:OA→Nat→Nat→Bool→zp→Prop):Prop:=∃(eb:OA),∃(lb nb ga:Nat),∃(aa ee mf:LN),rdN H s 0 2=some [.slice eb lb nb,.float .f32 ga]∧IsL fF H eb lb aa∧IsL fF H ri oe ee∧IsL fF H yi df mf∧aa.length<1073741824∧ee.length<1073741824∧mf.length<1073741824∧mf.length≤ee.length∧ee.length≤mf.length+1∧ee.length≤128∧((∀(sd:OA) (ae zd:Nat),∀H':zp,Grow H H'→OwnS fF H' H.length sd ae zd ((z7s aa ga ee mf).1)→K sd ae zd ((z7s aa ga ee mf).2) H'))
theorem z19n {s:Nat} {ri:OA} {oe wi:Nat} {yi:OA} {df sj:Nat} {H:zp} {K:OA→Nat→Nat→Bool→zp→Prop} (h:∃(eb:OA),∃(lb nb ga:Nat),∃(aa ee mf:LN),rdN H s 0 2=some [.slice eb lb nb,.float .f32 ga]∧IsL fF H eb lb aa∧IsL fF H ri oe ee∧IsL fF H yi df mf∧aa.length<1073741824∧ee.length<1073741824∧mf.length<1073741824∧mf.length≤ee.length∧ee.length≤mf.length+1∧ee.length≤128∧((∀(sd:OA) (ae zd:Nat),∀H':zp,Grow H H'→OwnS fF H' H.length sd ae zd ((z7s aa ga ee mf).1)→K sd ae zd ((z7s aa ga ee mf).2) H'))):zzm s ri oe wi yi df sj H K:=h
def wvF (e o:LN) (i:Nat):LN:=if i<o.length then [e.getD i 0,o.getD i 0] else [e.getD i 0]
def wv (e o:LN) (k:Nat):LN:=(List.range k).flatMap (wvF e o)
theorem zmv (e o:LN) (k:Nat):wv e o (k+1)=wv e o k++wvF e o k:=by
 unfold wv
 rw [List.range_succ,List.flatMap_append]
 simp
theorem z17t (e o:LN):∀k,(wv e o k).length=k+min k o.length:=by
 intro k
 induction k with
 | zero=>simp [wv]
 | succ k ih=>
  rw [zmv,List.length_append,ih]
  unfold wvF
  split<;>simp<;>omega
def dfS (ws:LN):Nat→LN→LN→LN×LN
 | 0,lo,hi=>(lo,hi)
 | k+1,lo,hi=>dfS ws k (zah (k:Int) (fneg .f32 (ws.getD k 0)) lo hi) (z6c (k:Int) (fneg .f32 (ws.getD k 0)) lo hi)
theorem zfi (ws:LN):∀(k:Nat) (lo hi:LN),(dfS ws k lo hi).1.length=lo.length∧(dfS ws k lo hi).2.length=hi.length:=by
 intro k
 induction k with
 | zero=>intro lo hi;exact ⟨rfl,rfl⟩
 | succ k ih=>
  intro lo hi
  obtain ⟨h1,h2⟩:=ih (zah (k:Int) (fneg .f32 (ws.getD k 0)) lo hi) (z6c (k:Int) (fneg .f32 (ws.getD k 0)) lo hi)
  exact ⟨h1.trans (z3z _ _ _ _),h2.trans (z2s _ _ _ _)⟩
theorem zqs (ws:LN) (sc:Nat) (l1 l2:LN) (i:Int) (a b:LN) (i2:Int) (c d:LN) (K:Int→LN→LN→LN×Bool):∀(μ k:Nat) (y1 y2:LN),k<μ→
  z7u ws sc l1 l2 i a b i2 c d K μ ((k:Int)-1) y1 y2=K (-1) (dfS ws k y1 y2).1 (dfS ws k y1 y2).2:=by
 intro μ
 induction μ with
 | zero=>intro k y1 y2 h;omega
 | succ μ ih=>
  intro k y1 y2 hm
  rw [zfx]
  cases k with
  | zero=>rfl
  | succ k=>
   have e:((k+1:Nat):Int)-1=(k:Int):=by omega
   rw [e,decide_eq_true (show (0:Int)≤(k:Int) by omega),cond_true,Int.toNat_natCast]
   exact ih k _ _ ω2
theorem zqq (ws:LN) (sc:Nat) (l1 l2 y2:LN) (K:Int→LN→LN→LN×Bool)
  (hK:∀(k:Int) (y1 y2:LN),z7t ws sc l1 l2 1 k y1 y2=bif decide (k<(0+l1.length:Int)) then z7t ws sc l1 l2 0 (k+1) (y1.set k.toNat (fdiv .f32 (y1.getD k.toNat 0) sc)) y2 else K k y1 y2) (A:LN) (hA:A.length=l1.length):∀(μ j:Nat),j≤l1.length→l1.length-j<μ→
  z7t ws sc l1 l2 μ (j:Int) ((A.map fun x=>fdiv .f32 x sc).take j++A.drop j) y2=K (l1.length:Int) (A.map fun x=>fdiv .f32 x sc) y2:=by
 intro μ
 induction μ with
 | zero=>intro k _ h;omega
 | succ μ ih=>
  intro j hj hm
  by_cases h:j<l1.length
  ·rw [z9m]
   rw [decide_eq_true (show (j:Int)<(0+l1.length:Int) by omega),cond_true,Int.toNat_natCast,z6x _ _ _ ω2 (by simp)]
   have:=ih (j+1) ω2 ω2
   rw [z3g (A.map fun x=>fdiv .f32 x sc) A j ω2 (by simp) _ (by simp [List.getD_eq_getElem?_getD,show j<A.length by omega])]
   exact this
  ·have e:j=l1.length:=by omega
   have h1:=hK (j:Int) ((A.map fun x=>fdiv .f32 x sc).take j++A.drop j) y2
   rw [z9m] at h1 ⊢
   rw [decide_eq_false (show ¬(j:Int)<(0+l1.length:Int) by omega),cond_false,cond_false] at h1
   rw [decide_eq_false (show ¬(j:Int)<(0+l1.length:Int) by omega),cond_false]
   refine h1.trans ?_
   rw [e,List.take_of_length_le (by simp [hA]),List.drop_of_length_le ω2,List.append_nil]
theorem zqr (ws:LN) (sc:Nat) (l1 l2:LN) (i:Int) (a b y1:LN) (K:Int→LN→LN→LN×Bool) (A:LN) (hA:A.length=l2.length):∀(μ j:Nat),j≤l2.length→l2.length-j<μ→
  zbb ws sc l1 l2 i a b K μ (j:Int) y1 ((A.map fun x=>fmul .f32 x sc).take j++A.drop j)=K (l2.length:Int) y1 (A.map fun x=>fmul .f32 x sc):=by
 intro μ
 induction μ with
 | zero=>intro k _ h;omega
 | succ μ ih=>
  intro j hj hm
  rw [zfw]
  by_cases h:j<l2.length
  ·rw [decide_eq_true (show (j:Int)<(0+l2.length:Int) by omega),cond_true,Int.toNat_natCast,z6x _ _ _ ω2 (by simp)]
   have:=ih (j+1) ω2 ω2
   rw [z3g (A.map fun x=>fmul .f32 x sc) A j ω2 (by simp) _ (by simp [List.getD_eq_getElem?_getD,show j<A.length by omega])]
   exact this
  ·have e:j=l2.length:=by omega
   rw [decide_eq_false (show ¬(j:Int)<(0+l2.length:Int) by omega),cond_false,e,List.take_of_length_le (by simp [hA]),List.drop_of_length_le ω2,List.append_nil]
theorem zqt (ws:LN) (sc:Nat) (l1 l2:LN) (i:Int) (a b:LN) (i2:Int) (c d:LN) (k0:Int) (E O:LN) (hE:E.length=l1.length) (hO:O.length=l2.length) (K:LN→Int→LN×Bool):∀(μ k:Nat),k≤l1.length→l1.length-k<μ→
  z4s ws sc l1 l2 i a b i2 c d k0 E O K μ (wv E O k) (k:Int)=K (wv E O l1.length) (l1.length:Int):=by
 intro μ
 induction μ with
 | zero=>intro k _ h;omega
 | succ μ ih=>
  intro k hk hm
  rw [zfy]
  by_cases h:k<l1.length
  ·rw [decide_eq_true (show (k:Int)<(0+l1.length:Int) by omega),cond_true,Int.toNat_natCast]
   have:=ih (k+1) ω2 ω2
   rw [zmv] at this
   by_cases h2:k<l2.length
   ·rw [decide_eq_true (show (k:Int)<(0+l2.length:Int) by omega),cond_true]
    rw [show wvF E O k=[E.getD k 0,O.getD k 0] from if_pos ω2] at this
    rw [List.append_assoc]
    exact this
   ·rw [decide_eq_false (show ¬(k:Int)<(0+l2.length:Int) by omega),cond_false]
    rw [show wvF E O k=[E.getD k 0] from if_neg ω2] at this
    exact this
  ·obtain rfl:k=l1.length:=by omega
   rw [decide_eq_false (show ¬((l1.length:Nat):Int)<(0+l1.length:Int) by omega),cond_false]
theorem zmp (ws:LN) (sc:Nat) (l1 l2:LN):∀(μ k:Nat),k≤l1.length→l1.length-k<μ→
  z7f ws sc l1 l2 μ (wv l1 l2 k) (k:Int)=bif (z5d (wv l1 l2 l1.length)).2 then (wv l1 l2 l1.length,true) else ([],false):=by
 intro μ
 induction μ with
 | zero=>intro k _ h;omega
 | succ μ ih=>
  intro k hk hm
  rw [zea,List.nil_append,List.nil_append]
  by_cases h:k<l1.length
  ·rw [decide_eq_true (show (k:Int)<(0+l1.length:Int) by omega),cond_true,Int.toNat_natCast]
   have:=ih (k+1) ω2 ω2
   rw [zmv] at this
   by_cases h2:k<l2.length
   ·rw [decide_eq_true (show (k:Int)<(0+l2.length:Int) by omega),cond_true]
    rw [show wvF l1 l2 k=[l1.getD k 0,l2.getD k 0] from if_pos ω2] at this
    rw [List.append_assoc]
    exact this
   ·rw [decide_eq_false (show ¬(k:Int)<(0+l2.length:Int) by omega),cond_false]
    rw [show wvF l1 l2 k=[l1.getD k 0] from if_neg ω2] at this
    exact this
  ·obtain rfl:k=l1.length:=by omega
   rw [decide_eq_false (show ¬((l1.length:Nat):Int)<(0+l1.length:Int) by omega),cond_false]
theorem zbh (v:LN):(bif (z5d v).2 then (v,true) else ([],false))=z5d v:=by
 rw [zb4]
 cases z1p v<;>rfl
def dropE (ws:LN) (sc:Nat) (e o:LN):LN:=(dfS ws ws.length (e.map fun x=>fdiv .f32 x sc) (o.map fun x=>fmul .f32 x sc)).1
def dropO (ws:LN) (sc:Nat) (e o:LN):LN:=(dfS ws ws.length (e.map fun x=>fdiv .f32 x sc) (o.map fun x=>fmul .f32 x sc)).2
def zh5 (ws:LN) (sc:Nat) (e o:LN):LN:=bif decide ((0:Int)<(0+o.length:Int)) then wv (dropE ws sc e o) (dropO ws sc e o) e.length else wv e o e.length
theorem z7g (ws:LN) (sc:Nat) (e o:LN):z7s ws sc e o=z5d (zh5 ws sc e o):=by
 rw [zoh]
 unfold zh5
 cases decide ((0:Int)<(0+o.length:Int)) with
 | false=>
  rw [cond_false,cond_false,←zbh]
  exact zmp ws sc e o (Int.toNat ((0+e.length:Int)-(0:Int))+1) 0 ω2 ω2
 | true=>
  rw [cond_true,cond_true,List.nil_append,List.nil_append]
  have h1:=zqq ws sc e o o _ (fun k y1 y2=>z9m ws sc e o 0 k y1 y2) e rfl (Int.toNat ((0+e.length:Int)-(0:Int))+1) 0 ω2 ω2
  simp only [List.take_zero,List.drop_zero,List.nil_append] at h1
  refine Eq.trans h1 ?_
  have h2:=fun i a b y1 K=>zqr ws sc e o i a b y1 K o rfl (Int.toNat ((0+o.length:Int)-(0:Int))+1) 0 ω2 ω2
  simp only [List.take_zero,List.drop_zero,List.nil_append] at h2
  refine Eq.trans (h2 _ _ _ _ _) ?_
  refine Eq.trans (zqs ws sc e o _ _ _ _ _ _ _ (Int.toNat (((((ws.length:Int)-1)))-0+1)+1) ws.length _ _ ω2) ?_
  obtain ⟨g1,g2⟩:=zfi ws ws.length (e.map fun x=>fdiv .f32 x sc) (o.map fun x=>fmul .f32 x sc)
  refine Eq.trans (zqt ws sc e o _ _ _ _ _ _ _ _ _ (g1.trans (List.length_map ..)) (g2.trans (List.length_map ..)) _ (Int.toNat ((0+e.length:Int)-(0:Int))+1) 0 ω2 ω2) ?_
  exact zbh _
theorem zj1 (ws:LN) (sc:Nat) (e o:LN):(zh5 ws sc e o).length=e.length+min e.length o.length:=by
 unfold zh5 dropE dropO
 obtain ⟨g1,g2⟩:=zfi ws ws.length (e.map fun x=>fdiv .f32 x sc) (o.map fun x=>fmul .f32 x sc)
 cases decide ((0:Int)<(0+o.length:Int)) with
 | false=>rw [cond_false,z17t]
 | true=>rw [cond_true,z17t,g2,List.length_map]
theorem zqu (ws:LN) (sc:Nat) (e o:LN) (h:(z7s ws sc e o).2=true):(z7s ws sc e o).1=zh5 ws sc e o∧z1p (zh5 ws sc e o)=true:=by
 rw [z7g,zb4] at h ⊢
 cases hf:z1p (zh5 ws sc e o) with
 | true=>exact ⟨rfl,rfl⟩
 | false=>rw [hf] at h;cases h
theorem zmq (ws:LN) (sc:Nat) (e o:LN):(z7s ws sc e o).1.length≤2*e.length:=by
 rw [z7g,zb4]
 have:=zj1 ws sc e o
 cases z1p (zh5 ws sc e o) with
 | true=>show (zh5 ws sc e o).length≤_;omega
 | false=>exact Nat.zero_le _
/-! fjz: function 167 -/
def z3l:Env:=envOf [(175,zt0),(176,z16d)]
def F_fjz (args:List Value) (H:zp):(Value→zp→Prop)→Prop:=match args with
 | [.pointer (some ⟨s,0,none⟩),.slice ri oe wi,.slice yi df sj]=>fun K=>zzm s ri oe wi yi df sj H fun (sd:OA) (ae:Nat) (zd:Nat) (r2:Bool) (H':zp)=>K (.tuple #[.slice sd ae zd,.bool r2]) H'
 | _=>fun _=>False
def S_fjz:FSpec:={F:=F_fjz,quiet:=false,tame:=true}
theorem z1g7 (s:Nat) (ri:OA) (oe wi:Nat) (yi:OA) (df sj:Nat) (H:zp) (K:KT):zv Tryz.prog z3l Tryz.f167 [.pointer (some ⟨s,0,none⟩),.slice ri oe wi,.slice yi df sj] H K=
 (Al [] H fun b1 H1=>∃o1 w1:List Value,ownB H1 (some ⟨b1,0,none⟩) 0 1 1=some o1∧rdS H1 ri (oe*1)=some w1∧((some ⟨b1,0,none⟩:OA)=none→0<(oe:Nat))∧(0:Nat)+oe<most∧Ap H1 (z2v H1 (some ⟨b1,0,none⟩)++[some ⟨o1++w1,true⟩]) fun b2 H2=>Al [] H2 fun b3 H3=>∃o2 w2:List Value,ownB H3 (some ⟨b3,0,none⟩) 0 1 1=some o2∧rdS H3 yi (df*1)=some w2∧((some ⟨b3,0,none⟩:OA)=none→0<(df:Nat))∧(0:Nat)+df<most∧Ap H3 (z2v H3 (some ⟨b3,0,none⟩)++[some ⟨o2++w2,true⟩]) fun b4 H4=>Br (decide ((0:Int)<(0+df:Int))) (z1i (exL Tryz.prog z3l (cl (cl (cr (cl (cl (cr (cl (cr (cr (cr (zq Tryz.f167))))))))))) 1793 192 [(0,769)]) (.pointer (some ⟨s,0,none⟩)::ud7 (.slice (some ⟨b2,0,none⟩) (0+oe) 1::.slice (some ⟨b4,0,none⟩) (0+df) 1::.int .i64 0::ud100 [])) H4 (zu 0 (seqQ (exL Tryz.prog z3l (cr (cl (cr (cl (cr (cr (cr (zq Tryz.f167)))))))) 768 192 []) (seqQ (exL Tryz.prog z3l (cr (cr (cr (cr (zq Tryz.f167))))) 192 192 []) (retK Tryz.prog Tryz.f167 K))))) (Al [] H4 fun b17 H14=>z1i (exL Tryz.prog z3l (cl (cl (cr (cl (cr (cr (cr (cr (cr (zq Tryz.f167)))))))))) 25344 192 [(6,8192)]) (ud8 (.slice (some ⟨b2,0,none⟩) (0+oe) 1::.slice (some ⟨b4,0,none⟩) (0+df) 1::ud3 (.slice (some ⟨b17,0,none⟩) 0 1::.int .i64 0::ud96 []))) H14 (zu 6 (seqQ (exL Tryz.prog z3l (cr (cr (cr (cr (cr (cr (zq Tryz.f167))))))) 192 192 []) (retK Tryz.prog Tryz.f167 K))))):=by kernel_rfl
abbrev zj9 (b2 b4 oe df s:Nat) (i:Int)  :List Value:=(.pointer (some ⟨s,0,none⟩)::ud7 (.slice (some ⟨b2,0,none⟩) (0+oe) 1::.slice (some ⟨b4,0,none⟩) (0+df) 1::.int .i64 i::ud100 []))
theorem z1g4 (b2 b4 oe df s:Nat) (i:Int)  (H:zp) (R:Post):exL Tryz.prog z3l (cl (cl (cr (cl (cl (cr (cl (cr (cr (cr (zq Tryz.f167))))))))))) 1793 192 [(0,769)] (zj9 b2 b4 oe df s i) H R=
 (Br (decide ((i:Int)<(0+oe:Int))) ((0:Int)≤i∧i<(0+oe:Int)∧∃b5 f1,(some ⟨b2,0,none⟩:OA)=some ⟨b5,f1,none⟩∧∃x1:Nat,  rdC H b5 (f1+(i:Int).toNat*1)=some (.float .f32 x1)∧∃x2:Nat,  rdC H s 1=some (.float .f32 x2)∧(0:Int)≤i∧i<(0+oe:Int)∧∃b6 f2,(some ⟨b2,0,none⟩:OA)=some ⟨b6,f2,none⟩∧isOwn H b6∧(∃l,rdN H b6 (f2+(i:Int).toNat*1) 1=some l)∧Lt (setC H b6 (f2+(i:Int).toNat*1) (.float .f32 (fdiv .f32 x1 x2))) fun H5=>R .normal (.pointer (some ⟨s,0,none⟩)::ud7 (.slice (some ⟨b2,0,none⟩) (0+oe) 1::.slice (some ⟨b4,0,none⟩) (0+df) 1::.int .i64 (IntKind.wrap .i64 (i+1))::ud100 [])) H5) (R (.exit 0) (.pointer (some ⟨s,0,none⟩)::ud7 (.slice (some ⟨b2,0,none⟩) (0+oe) 1::.slice (some ⟨b4,0,none⟩) (0+df) 1::ud101 [])) H)):=by kernel_rfl
def zvg (b2 b4 oe df s:Nat) (Inv:Nat→Int→zp→Prop):Nat→List Value→zp→Prop:=fun μ tm H=>∃(i:Int),tm=(zj9 b2 b4 oe df s i)∧Inv μ i H
theorem z1fx (b2 b4 oe df s:Nat) {Q:Post} (Inv:Nat→Int→zp→Prop) (ν:Nat) (i:Int)  (H:zp) (h0:Inv ν i H)
  (hs:∀(μ:Nat) (i:Int)  (H:zp),Inv μ i H→exL Tryz.prog z3l (cl (cl (cr (cl (cl (cr (cl (cr (cr (cr (zq Tryz.f167))))))))))) 1793 192 [(0,769)] (zj9 b2 b4 oe df s i) H (z1a (zvg b2 b4 oe df s Inv) μ Q)):z1i (exL Tryz.prog z3l (cl (cl (cr (cl (cl (cr (cl (cr (cr (cr (zq Tryz.f167))))))))))) 1793 192 [(0,769)]) (zj9 b2 b4 oe df s i) H Q:=
 ⟨zvg b2 b4 oe df s Inv,ν,⟨i,rfl,h0⟩,fun μ tm H h=>by obtain ⟨i,rfl,hI⟩:=h;exact hs μ i  H hI⟩
theorem z1g0 {b2 b4 oe df s:Nat} {Q:Post} {Inv:Nat→Int→zp→Prop} {μ:Nat} (μ':Nat) {i:Int}  {H:zp} (hm:μ'<μ) (hI:Inv μ' i H):z1a (zvg b2 b4 oe df s Inv) μ Q .normal (zj9 b2 b4 oe df s i) H:=⟨μ',hm,i,rfl,hI⟩
theorem z10y (b2 b4 oe df s:Nat) (H:zp) (K:KT)  {I:Nat→List Value→zp→Prop} {μ:Nat}:z1a I μ (zu 0 (seqQ (exL Tryz.prog z3l (cr (cl (cr (cl (cr (cr (cr (zq Tryz.f167)))))))) 768 192 []) (seqQ (exL Tryz.prog z3l (cr (cr (cr (cr (zq Tryz.f167))))) 192 192 []) (retK Tryz.prog Tryz.f167 K)))) (.exit 0) (.pointer (some ⟨s,0,none⟩)::ud7 (.slice (some ⟨b2,0,none⟩) (0+oe) 1::.slice (some ⟨b4,0,none⟩) (0+df) 1::ud101 [])) H=
 (z1i (exL Tryz.prog z3l (cl (cl (cr (cl (cr (cl (cr (cl (cr (cr (cr (zq Tryz.f167)))))))))))) 2817 192 [(2,769)]) (.pointer (some ⟨s,0,none⟩)::ud7 (.slice (some ⟨b2,0,none⟩) (0+oe) 1::.slice (some ⟨b4,0,none⟩) (0+df) 1::ud::.int .i64 0::ud99 [])) H (zu 2 (seqQ (exL Tryz.prog z3l (cr (cr (cl (cr (cl (cr (cr (cr (zq Tryz.f167))))))))) 768 192 []) (seqQ (exL Tryz.prog z3l (cr (cr (cr (cr (zq Tryz.f167))))) 192 192 []) (retK Tryz.prog Tryz.f167 K))))):=by kernel_rfl
abbrev zja (b2 b4 oe df s:Nat) (gf:Int)  :List Value:=(.pointer (some ⟨s,0,none⟩)::ud7 (.slice (some ⟨b2,0,none⟩) (0+oe) 1::.slice (some ⟨b4,0,none⟩) (0+df) 1::ud::.int .i64 gf::ud99 []))
theorem z1g5 (b2 b4 oe df s:Nat) (gf:Int)  (H:zp) (R:Post):exL Tryz.prog z3l (cl (cl (cr (cl (cr (cl (cr (cl (cr (cr (cr (zq Tryz.f167)))))))))))) 2817 192 [(2,769)] (zja b2 b4 oe df s gf) H R=
 (Br (decide ((gf:Int)<(0+df:Int))) ((0:Int)≤gf∧gf<(0+df:Int)∧∃b7 f3,(some ⟨b4,0,none⟩:OA)=some ⟨b7,f3,none⟩∧∃x3:Nat,  rdC H b7 (f3+(gf:Int).toNat*1)=some (.float .f32 x3)∧∃x4:Nat,  rdC H s 1=some (.float .f32 x4)∧(0:Int)≤gf∧gf<(0+df:Int)∧∃b8 f4,(some ⟨b4,0,none⟩:OA)=some ⟨b8,f4,none⟩∧isOwn H b8∧(∃l,rdN H b8 (f4+(gf:Int).toNat*1) 1=some l)∧Lt (setC H b8 (f4+(gf:Int).toNat*1) (.float .f32 (fmul .f32 x3 x4))) fun H6=>R .normal (.pointer (some ⟨s,0,none⟩)::ud7 (.slice (some ⟨b2,0,none⟩) (0+oe) 1::.slice (some ⟨b4,0,none⟩) (0+df) 1::ud::.int .i64 (IntKind.wrap .i64 (gf+1))::ud99 [])) H6) (R (.exit 2) (.pointer (some ⟨s,0,none⟩)::ud7 (.slice (some ⟨b2,0,none⟩) (0+oe) 1::.slice (some ⟨b4,0,none⟩) (0+df) 1::ud101 [])) H)):=by kernel_rfl
def zvh (b2 b4 oe df s:Nat) (Inv:Nat→Int→zp→Prop):Nat→List Value→zp→Prop:=fun μ tm H=>∃(gf:Int),tm=(zja b2 b4 oe df s gf)∧Inv μ gf H
theorem z1fy (b2 b4 oe df s:Nat) {Q:Post} (Inv:Nat→Int→zp→Prop) (ν:Nat) (gf:Int)  (H:zp) (h0:Inv ν gf H)
  (hs:∀(μ:Nat) (gf:Int)  (H:zp),Inv μ gf H→exL Tryz.prog z3l (cl (cl (cr (cl (cr (cl (cr (cl (cr (cr (cr (zq Tryz.f167)))))))))))) 2817 192 [(2,769)] (zja b2 b4 oe df s gf) H (z1a (zvh b2 b4 oe df s Inv) μ Q)):z1i (exL Tryz.prog z3l (cl (cl (cr (cl (cr (cl (cr (cl (cr (cr (cr (zq Tryz.f167)))))))))))) 2817 192 [(2,769)]) (zja b2 b4 oe df s gf) H Q:=
 ⟨zvh b2 b4 oe df s Inv,ν,⟨gf,rfl,h0⟩,fun μ tm H h=>by obtain ⟨gf,rfl,hI⟩:=h;exact hs μ gf  H hI⟩
theorem z1g1 {b2 b4 oe df s:Nat} {Q:Post} {Inv:Nat→Int→zp→Prop} {μ:Nat} (μ':Nat) {gf:Int}  {H:zp} (hm:μ'<μ) (hI:Inv μ' gf H):z1a (zvh b2 b4 oe df s Inv) μ Q .normal (zja b2 b4 oe df s gf) H:=⟨μ',hm,gf,rfl,hI⟩
theorem z10z (b2 b4 oe df s:Nat) (H:zp) (K:KT)  {I:Nat→List Value→zp→Prop} {μ:Nat}:z1a I μ (zu 2 (seqQ (exL Tryz.prog z3l (cr (cr (cl (cr (cl (cr (cr (cr (zq Tryz.f167))))))))) 768 192 []) (seqQ (exL Tryz.prog z3l (cr (cr (cr (cr (zq Tryz.f167))))) 192 192 []) (retK Tryz.prog Tryz.f167 K)))) (.exit 2) (.pointer (some ⟨s,0,none⟩)::ud7 (.slice (some ⟨b2,0,none⟩) (0+oe) 1::.slice (some ⟨b4,0,none⟩) (0+df) 1::ud101 [])) H=
 (∃zi:OA,∃xi:Nat,∃wj:Nat,  rdC H s 0=some (.slice zi xi wj)∧z1i (exL Tryz.prog z3l (cl (cl (cr (cr (cr (cl (cr (cl (cr (cr (cr (zq Tryz.f167)))))))))))) 4865 192 [(4,768)]) (.pointer (some ⟨s,0,none⟩)::ud7 (.slice (some ⟨b2,0,none⟩) (0+oe) 1::.slice (some ⟨b4,0,none⟩) (0+df) 1::ud2 (.int .i64 (IntKind.wrap .i64 ((xi:Int)-1))::ud98 []))) H (zu 4 (seqQ (exL Tryz.prog z3l (cr (cr (cr (cr (zq Tryz.f167))))) 192 192 []) (retK Tryz.prog Tryz.f167 K)))):=by kernel_rfl
abbrev zjb (b2 b4 oe df s:Nat) (k:Int)  :List Value:=(.pointer (some ⟨s,0,none⟩)::ud7 (.slice (some ⟨b2,0,none⟩) (0+oe) 1::.slice (some ⟨b4,0,none⟩) (0+df) 1::ud2 (.int .i64 k::ud98 [])))
theorem z1g6 (b2 b4 oe df s:Nat) (k:Int)  (H:zp) (R:Post):exL Tryz.prog z3l (cl (cl (cr (cr (cr (cl (cr (cl (cr (cr (cr (zq Tryz.f167)))))))))))) 4865 192 [(4,768)] (zjb b2 b4 oe df s k) H R=
 (Br (decide ((0:Int)≤k)) (∃ai:OA,∃zh:Nat,∃ki:Nat,  rdC H s 0=some (.slice ai zh ki)∧(0:Int)≤k∧k<(zh:Int)∧∃b9 f5,(ai:OA)=some ⟨b9,f5,none⟩∧∃x7:Nat,  rdC H b9 (f5+(k:Int).toNat*1)=some (.float .f32 x7)∧zij (some ⟨b2,0,none⟩) (0+oe) 1 (some ⟨b4,0,none⟩) (0+df) 1 k (fneg .f32 x7) H fun  (H7:zp)=>R .normal (.pointer (some ⟨s,0,none⟩)::ud7 (.slice (some ⟨b2,0,none⟩) (0+oe) 1::.slice (some ⟨b4,0,none⟩) (0+df) 1::ud2 (.int .i64 (IntKind.wrap .i64 (k-1))::ud98 []))) H7) (R (.exit 4) (ud8 (.slice (some ⟨b2,0,none⟩) (0+oe) 1::.slice (some ⟨b4,0,none⟩) (0+df) 1::ud101 [])) H)):=by kernel_rfl
def zvi (b2 b4 oe df s:Nat) (Inv:Nat→Int→zp→Prop):Nat→List Value→zp→Prop:=fun μ tm H=>∃(k:Int),tm=(zjb b2 b4 oe df s k)∧Inv μ k H
theorem z1fz (b2 b4 oe df s:Nat) {Q:Post} (Inv:Nat→Int→zp→Prop) (ν:Nat) (k:Int)  (H:zp) (h0:Inv ν k H)
  (hs:∀(μ:Nat) (k:Int)  (H:zp),Inv μ k H→exL Tryz.prog z3l (cl (cl (cr (cr (cr (cl (cr (cl (cr (cr (cr (zq Tryz.f167)))))))))))) 4865 192 [(4,768)] (zjb b2 b4 oe df s k) H (z1a (zvi b2 b4 oe df s Inv) μ Q)):z1i (exL Tryz.prog z3l (cl (cl (cr (cr (cr (cl (cr (cl (cr (cr (cr (zq Tryz.f167)))))))))))) 4865 192 [(4,768)]) (zjb b2 b4 oe df s k) H Q:=
 ⟨zvi b2 b4 oe df s Inv,ν,⟨k,rfl,h0⟩,fun μ tm H h=>by obtain ⟨k,rfl,hI⟩:=h;exact hs μ k  H hI⟩
theorem z1g2 {b2 b4 oe df s:Nat} {Q:Post} {Inv:Nat→Int→zp→Prop} {μ:Nat} (μ':Nat) {k:Int}  {H:zp} (hm:μ'<μ) (hI:Inv μ' k H):z1a (zvi b2 b4 oe df s Inv) μ Q .normal (zjb b2 b4 oe df s k) H:=⟨μ',hm,k,rfl,hI⟩
theorem z11a (b2 b4 oe df:Nat) (H:zp) (K:KT)  {I:Nat→List Value→zp→Prop} {μ:Nat}:z1a I μ (zu 4 (seqQ (exL Tryz.prog z3l (cr (cr (cr (cr (zq Tryz.f167))))) 192 192 []) (retK Tryz.prog Tryz.f167 K))) (.exit 4) (ud8 (.slice (some ⟨b2,0,none⟩) (0+oe) 1::.slice (some ⟨b4,0,none⟩) (0+df) 1::ud101 [])) H=
 (Al [] H fun b10 H8=>z1i (exL Tryz.prog z3l (cl (cl (cr (cl (cr (cr (cr (cr (cr (zq Tryz.f167)))))))))) 25344 192 [(6,8192)]) (ud8 (.slice (some ⟨b2,0,none⟩) (0+oe) 1::.slice (some ⟨b4,0,none⟩) (0+df) 1::ud3 (.slice (some ⟨b10,0,none⟩) 0 1::.int .i64 0::ud96 []))) H8 (zu 6 (seqQ (exL Tryz.prog z3l (cr (cr (cr (cr (cr (cr (zq Tryz.f167))))))) 192 192 []) (retK Tryz.prog Tryz.f167 K)))):=by kernel_rfl
abbrev zjc (b2 b4 oe df:Nat) (wg:OA) (tg dh:Nat) (mg:Int)  :List Value:=(ud8 (.slice (some ⟨b2,0,none⟩) (0+oe) 1::.slice (some ⟨b4,0,none⟩) (0+df) 1::ud3 (.slice wg tg dh::.int .i64 mg::ud96 [])))
theorem z17b (b2 b4 oe df:Nat) (wg:OA) (tg dh:Nat) (mg:Int)  (H:zp) (R:Post):exL Tryz.prog z3l (cl (cl (cr (cl (cr (cr (cr (cr (cr (zq Tryz.f167)))))))))) 25344 192 [(6,8192)] (zjc b2 b4 oe df wg tg dh mg) H R=
 (Br (decide ((mg:Int)<(0+oe:Int))) ((0:Int)≤mg∧mg<(0+oe:Int)∧∃b11 f6,(some ⟨b2,0,none⟩:OA)=some ⟨b11,f6,none⟩∧∃x8:Nat,  rdC H b11 (f6+(mg:Int).toNat*1)=some (.float .f32 x8)∧Al [.float .f32 x8] H fun b12 H9=>∃o3 w3:List Value,ownB H9 wg tg dh 1=some o3∧rdS H9 (some ⟨b12,0,none⟩) (1*1)=some w3∧((wg:OA)=none→0<(1:Nat))∧(tg:Nat)+1<most∧Ap H9 (z2v H9 wg++[some ⟨o3++w3,true⟩]) fun b13 H10=>Br (decide ((mg:Int)<(0+df:Int))) ((0:Int)≤mg∧mg<(0+df:Int)∧∃b14 f7,(some ⟨b4,0,none⟩:OA)=some ⟨b14,f7,none⟩∧∃x9:Nat,  rdC H10 b14 (f7+(mg:Int).toNat*1)=some (.float .f32 x9)∧Al [.float .f32 x9] H10 fun b15 H11=>∃o4 w4:List Value,ownB H11 (some ⟨b13,0,none⟩) (tg+1) 1 1=some o4∧rdS H11 (some ⟨b15,0,none⟩) (1*1)=some w4∧((some ⟨b13,0,none⟩:OA)=none→0<(1:Nat))∧(tg+1:Nat)+1<most∧Ap H11 (z2v H11 (some ⟨b13,0,none⟩)++[some ⟨o4++w4,true⟩]) fun b16 H12=>R .normal (ud8 (.slice (some ⟨b2,0,none⟩) (0+oe) 1::.slice (some ⟨b4,0,none⟩) (0+df) 1::ud3 (.slice (some ⟨b16,0,none⟩) ((tg+1)+1) 1::.int .i64 (IntKind.wrap .i64 (mg+1))::ud96 []))) H12) (R .normal (ud8 (.slice (some ⟨b2,0,none⟩) (0+oe) 1::.slice (some ⟨b4,0,none⟩) (0+df) 1::ud3 (.slice (some ⟨b13,0,none⟩) (tg+1) 1::.int .i64 (IntKind.wrap .i64 (mg+1))::ud96 []))) H10)) (R (.exit 6) (ud13 (.slice wg tg dh::ud97 [])) H)):=by kernel_rfl
def zvj (b2 b4 oe df:Nat) (Inv:Nat→OA→Nat→Nat→Int→zp→Prop):Nat→List Value→zp→Prop:=fun μ tm H=>∃(wg:OA),∃(tg dh:Nat),∃(mg:Int),tm=(zjc b2 b4 oe df wg tg dh mg)∧Inv μ wg tg dh mg H
theorem z17a (b2 b4 oe df:Nat) {Q:Post} (Inv:Nat→OA→Nat→Nat→Int→zp→Prop) (ν:Nat) (wg:OA) (tg dh:Nat) (mg:Int)  (H:zp) (h0:Inv ν wg tg dh mg H)
  (hs:∀(μ:Nat) (wg:OA) (tg:Nat) (dh:Nat) (mg:Int)  (H:zp),Inv μ wg tg dh mg H→exL Tryz.prog z3l (cl (cl (cr (cl (cr (cr (cr (cr (cr (zq Tryz.f167)))))))))) 25344 192 [(6,8192)] (zjc b2 b4 oe df wg tg dh mg) H (z1a (zvj b2 b4 oe df Inv) μ Q)):z1i (exL Tryz.prog z3l (cl (cl (cr (cl (cr (cr (cr (cr (cr (zq Tryz.f167)))))))))) 25344 192 [(6,8192)]) (zjc b2 b4 oe df wg tg dh mg) H Q:=
 ⟨zvj b2 b4 oe df Inv,ν,⟨wg,tg,dh,mg,rfl,h0⟩,fun μ tm H h=>by obtain ⟨wg,tg,dh,mg,rfl,hI⟩:=h;exact hs μ wg tg dh mg  H hI⟩
theorem znw {b2 b4 oe df:Nat} {Q:Post} {Inv:Nat→OA→Nat→Nat→Int→zp→Prop} {μ:Nat} (μ':Nat) {wg:OA} {tg dh:Nat} {mg:Int}  {H:zp} (hm:μ'<μ) (hI:Inv μ' wg tg dh mg H):z1a (zvj b2 b4 oe df Inv) μ Q .normal (zjc b2 b4 oe df wg tg dh mg) H:=⟨μ',hm,wg,tg,dh,mg,rfl,hI⟩
theorem znx (wg:OA) (tg dh:Nat) (H:zp) (K:KT)  {I:Nat→List Value→zp→Prop} {μ:Nat}:z1a I μ (zu 6 (seqQ (exL Tryz.prog z3l (cr (cr (cr (cr (cr (cr (zq Tryz.f167))))))) 192 192 []) (retK Tryz.prog Tryz.f167 K))) (.exit 6) (ud13 (.slice wg tg dh::ud97 [])) H=
 (zna wg tg dh H fun (a1:OA) (r1:Nat) (r2:Nat) (r3:Bool) (H13:zp)=>K (.tuple #[.slice a1 r1 r2,.bool r3]) H13):=by kernel_rfl
theorem zya:∀g,FnOk Tryz.prog g (z3l g):=FnOk.envOf (by
 intro x hx
 simp only [List.mem_cons,List.not_mem_nil,or_false] at hx
 rcases hx with rfl | rfl
 ·exact zud
 ·exact z1aq)
theorem ω13 {P:Prop} (h:P:=by first | assumption | omega | (simp only [List.length_set,z3z,z2s];first | rfl | assumption | omega)):P:=h
theorem ω28 {P:Prop} (h:P:=by rw [show μ2-1+1=μ2 from by first | omega];exact e):P:=h
theorem ω29 {P:Prop} (h:P:=by rw [show μ3-1+1=μ3 from by first | omega];exact e):P:=h
theorem ω30 {P:Prop} (h:P:=by rw [show μ4-1+1=μ4 from by first | omega];exact e):P:=h
theorem ω20 {P:Prop} (h:P:=by first | exact OwnS.nil _ _ _ _ | exact OwnT.nil _ _ _ | exact z4j.nil _ _ _ _):P:=h
theorem z10x (s:Nat) (ri:OA) (oe wi:Nat) (yi:OA) (df sj:Nat) (H:zp) (K:KT) (h:zzm s ri oe wi yi df sj H fun (sd:OA) (ae:Nat) (zd:Nat) (r2:Bool) (H':zp)=>K (.tuple #[.slice sd ae zd,.bool r2]) H'):zv Tryz.prog z3l Tryz.f167 [.pointer (some ⟨s,0,none⟩),.slice ri oe wi,.slice yi df sj] H K:=by
 rw [z1g7]
 obtain ⟨eb,lb,nb,ga,aa,ee,mf,i_s,dc,i_even,i_odd,bd_351,bd_352,bd_353,pr0,pr1,pr2,hk⟩:=h
 obtain rfl:=dc.eqn
 obtain rfl:=i_even.eqn
 obtain rfl:=i_odd.eqn
 have e:(z7s aa ga ee mf)=_:=rfl
 have e:=e.trans (zoh aa ga ee mf)
 have g0:=Grow.refl H
 refine Al.intro (fun b_1 H_1 hb_2 hl_3 g_4 o_5=>?_)
 have o_5:Own H_1 b_1 ((([]:LN)).map fF):=o_5
 have l_7:=g_4.1
 have g_8:=g0.trans g_4
 have l_9:=g_8.1
 have w350:=o_5.lt
 refine ⟨_,_,o_5.ownB ω3 rfl,(z2m (i_even.grow g_8)),(fun h=>by cases h),ω25,?_⟩
 refine Ap.app o_5 rfl rfl (fun b_14 H_2 q348 hl_10 o_11 k_12=>?_)
 have o_11:=z2c o_11
 have l_15:=k_12.1
 have g16:=g_8.keep (b:=b_1) ω2 k_12
 have l_17:=g16.1
 have w349:=o_11.lt
 refine Al.intro (fun b18 H_3 hb_19 hl_20 g21 o22=>?_)
 have o22:Own H_3 b18 ((([]:LN)).map fF):=o22
 have l24:=g21.1
 have g_25:=g16.trans g21
 have l26:=g_25.1
 have o27:=o_11.grow g21
 have w28:=o27.lt
 have w347:=o22.lt
 refine ⟨_,_,o22.ownB ω3 rfl,(z2m (i_odd.grow g_25)),(fun h=>by cases h),ω25,?_⟩
 refine Ap.app o22 rfl rfl (fun b33 H_4 q345 hl_29 o30 k31=>?_)
 have o30:=z2c o30
 have l34:=k31.1
 have g35:=g_25.keep (b:=b18) ω2 k31
 have l36:=g35.1
 have o37:=o27.keep ω2 k31
 have w38:=o37.lt
 have w346:=o30.lt
 refine Br.intro (fun c_39=>?_) (fun c_39=>?_)
 ·have e:=e.trans (zx c_39)
  have c_39':=of_decide_eq_true c_39
  refine z1fx _ _ _ _ _ (fun (μ:Nat) (i:Int) (H_5:zp)=>∃(y1_1 y1_2:LN),Own H_5 b_14 (y1_1.map fF)∧y1_1.length=(0+(ee).length)∧Own H_5 b33 (y1_2.map fF)∧y1_2.length=(0+(mf).length)∧(b33≠b_14)∧Grow H H_5∧(0:Int)≤i∧i≤(0+ee.length:Int)∧(0+ee.length:Int)-i≤(μ:Int)∧z7s aa ga ee mf=z7t aa ga ee mf (μ+1) i y1_1 y1_2) (Int.toNat ((0+ee.length:Int)-(0:Int))) _ H_4 ?_ ?_
  ·exact ⟨_,_,o37,ω17,o30,ω17,ω2,g35,ω7,ω7,ω2,e⟩
  ·intro μ i  H_5 hI
   obtain ⟨y1_1,y1_2,o40,y41,o42,y43,n44,g45,v_46,v_47,hμ,e⟩:=hI
   rw [z1g4]
   have e:=e.trans (z9m aa ga ee mf μ i y1_1 y1_2)
   have w48:=o40.lt
   have w49:=o42.lt
   have l50:=g45.1
   refine Br.intro (fun c_51=>?_) (fun c_51=>?_)
   ·have e:=e.trans (zx c_51)
    have c_51':=of_decide_eq_true c_51
    refine ⟨by omega,ω2,_,_,rfl,?_⟩
    refine ⟨((y1_1).getD (i:Int).toNat 0),o40.rd ω0 _,?_⟩
    refine ⟨ga,(z1g (zr g45 i_s) 1 (Nat.le_of_ble_eq_true rfl)).trans rfl,?_⟩
    refine ⟨by omega,ω2,_,_,rfl,?_⟩
    refine Lt.set o40 ω10 (fun H_6 hl_52 o54 k53=>?_)
    have o54:=map_set o54
    have l55:=k53.1
    have g56:=g45.keep (b:=b_14) ω2 k53
    have l57:=g56.1
    have o58:=o42.keep ω2 k53
    have w59:=o58.lt
    have w60:=o54.lt
    rw [show IntKind.wrap .i64 (i+1)=(i+1) from zt ω2 ω2]
    refine z1g0 (μ-1) ω15 ⟨_,_,o54,ω13,o58,ω13,ω2,g56,ω1,ω1,ω15,ω12⟩
   ·have e:=e.trans (zw c_51)
    have c_51':=of_decide_eq_false c_51
    rw [z10y]
    refine z1fy _ _ _ _ _ (fun (μ2:Nat) (gf:Int) (H_7:zp)=>∃(y2_1 y2_2:LN),Own H_7 b_14 (y2_1.map fF)∧y2_1.length=(0+(ee).length)∧Own H_7 b33 (y2_2.map fF)∧y2_2.length=(0+(mf).length)∧(b33≠b_14)∧Grow H H_7∧(0:Int)≤gf∧gf≤(0+mf.length:Int)∧(0+mf.length:Int)-gf≤(μ2:Int)∧z7s aa ga ee mf=zbb aa ga ee mf i y1_1 y1_2 (fun (gf:Int) (y2_1:LN) (y2_2:LN)=>(z7u aa ga ee mf i y1_1 y1_2 gf y2_1 y2_2 (fun (k:Int) (y3_1:LN) (y3_2:LN)=>(z4s aa ga ee mf i y1_1 y1_2 gf y2_1 y2_2 k y3_1 y3_2 (fun (fg:LN) (mg:Int)=>(bif (z5d fg).2 then (fg,true) else ([],false))) (Int.toNat ((0+ee.length:Int)-(0:Int))+1) ([]:LN) (0:Int))) (Int.toNat (((((aa.length:Int)-1)))-0+1)+1) ((((aa.length:Int)-1))) y2_1 y2_2)) (μ2+1) gf y2_1 y2_2) (Int.toNat ((0+mf.length:Int)-(0:Int))) _ H_5 ?_ ?_
    ·exact ⟨_,_,o40,ω17,o42,ω17,ω2,g45,ω7,ω7,ω2,e⟩
    ·intro μ2 gf  H_7 hI
     obtain ⟨y2_1,y2_2,o61,y62,o63,y64,n65,g66,v_67,v_68,hμ,e⟩:=hI
     rw [z1g5]
     have e:=e.trans (zfw aa ga ee mf i y1_1 y1_2 (fun (gf:Int) (y2_1:LN) (y2_2:LN)=>(z7u aa ga ee mf i y1_1 y1_2 gf y2_1 y2_2 (fun (k:Int) (y3_1:LN) (y3_2:LN)=>(z4s aa ga ee mf i y1_1 y1_2 gf y2_1 y2_2 k y3_1 y3_2 (fun (fg:LN) (mg:Int)=>(bif (z5d fg).2 then (fg,true) else ([],false))) (Int.toNat ((0+ee.length:Int)-(0:Int))+1) ([]:LN) (0:Int))) (Int.toNat (((((aa.length:Int)-1)))-0+1)+1) ((((aa.length:Int)-1))) y2_1 y2_2)) μ2 gf y2_1 y2_2)
     have w69:=o61.lt
     have w70:=o63.lt
     have l71:=g66.1
     refine Br.intro (fun c72=>?_) (fun c72=>?_)
     ·have e:=e.trans (zx c72)
      have c_72':=of_decide_eq_true c72
      refine ⟨by omega,ω2,_,_,rfl,?_⟩
      refine ⟨((y2_2).getD (gf:Int).toNat 0),o63.rd ω0 _,?_⟩
      refine ⟨ga,(z1g (zr g66 i_s) 1 (Nat.le_of_ble_eq_true rfl)).trans rfl,?_⟩
      refine ⟨by omega,ω2,_,_,rfl,?_⟩
      refine Lt.set o63 ω10 (fun H_8 hl_73 o75 k74=>?_)
      have o75:=map_set o75
      have l76:=k74.1
      have g77:=g66.keep (b:=b33) ω2 k74
      have l78:=g77.1
      have o79:=o61.keep ω2 k74
      have w80:=o79.lt
      have w81:=o75.lt
      rw [show IntKind.wrap .i64 (gf+1)=(gf+1) from zt ω2 ω2]
      refine z1g1 (μ2-1) ω15 ⟨_,_,o79,ω13,o75,ω13,ω2,g77,ω1,ω1,ω15,ω28⟩
     ·have e:=e.trans (zw c72)
      have c_72':=of_decide_eq_false c72
      rw [z10z]
      refine ⟨eb,aa.length,nb,(z1g (zr g66 i_s) 0 (Nat.le_of_ble_eq_true rfl)).trans rfl,?_⟩
      rw [show IntKind.wrap .i64 ((aa.length:Int)-1)=((aa.length:Int)-1) from zt ω2 ω2]
      refine z1fz _ _ _ _ _ (fun (μ3:Nat) (k:Int) (H_9:zp)=>∃(y3_1 y3_2:LN),Own H_9 b_14 (y3_1.map fF)∧y3_1.length=(0+(ee).length)∧Own H_9 b33 (y3_2.map fF)∧y3_2.length=(0+(mf).length)∧(b33≠b_14)∧Grow H H_9∧k≤(((aa.length:Int)-1))∧k-0+1≤(μ3:Int)∧z7s aa ga ee mf=z7u aa ga ee mf i y1_1 y1_2 gf y2_1 y2_2 (fun (k:Int) (y3_1:LN) (y3_2:LN)=>(z4s aa ga ee mf i y1_1 y1_2 gf y2_1 y2_2 k y3_1 y3_2 (fun (fg:LN) (mg:Int)=>(bif (z5d fg).2 then (fg,true) else ([],false))) (Int.toNat ((0+ee.length:Int)-(0:Int))+1) ([]:LN) (0:Int))) (μ3+1) k y3_1 y3_2) (Int.toNat (((((aa.length:Int)-1)))-0+1)) _ H_7 ?_ ?_
      ·exact ⟨_,_,o61,ω17,o63,ω17,ω2,g66,ω7,ω2,e⟩
      ·intro μ3 k  H_9 hI
       obtain ⟨y3_1,y3_2,o82,y83,o84,y85,n86,g87,v88,hμ,e⟩:=hI
       rw [z1g6]
       have e:=e.trans (zfx aa ga ee mf i y1_1 y1_2 gf y2_1 y2_2 (fun (k:Int) (y3_1:LN) (y3_2:LN)=>(z4s aa ga ee mf i y1_1 y1_2 gf y2_1 y2_2 k y3_1 y3_2 (fun (fg:LN) (mg:Int)=>(bif (z5d fg).2 then (fg,true) else ([],false))) (Int.toNat ((0+ee.length:Int)-(0:Int))+1) ([]:LN) (0:Int))) μ3 k y3_1 y3_2)
       have w89:=o82.lt
       have w90:=o84.lt
       have l91:=g87.1
       refine Br.intro (fun c92=>?_) (fun c92=>?_)
       ·have e:=e.trans (zx c92)
        have c_92':=of_decide_eq_true c92
        refine ⟨eb,aa.length,nb,(z1g (zr g87 i_s) 0 (Nat.le_of_ble_eq_true rfl)).trans rfl,?_⟩
        obtain ⟨b93,f_94,q95⟩:=((dc.grow g87)).pos ω0
        refine ⟨by omega,by omega,b93,f_94,q95,?_⟩
        refine ⟨((aa).getD (k:Int).toNat 0),(dc).rd g87 q95 ω2 _,?_⟩
        refine zn7 ⟨_,_,_,_,(o82.ownS ω8 (Nat.le_refl _)),(o84.ownS ω8 (Nat.le_refl _)),(fun x y hx hy=>by cases hx;cases hy;intro hh;dsimp only at hh;omega),ω0,ω0,ω14,ω14,(fun H_11 k96 o97 o98=>?_)⟩
        obtain ⟨H_10,k99,k100⟩:=k96.split
        have k101:=k99.keep1
        have l102:=k101.1
        have g103:=g87.keep (b:=b_14) ω2 k101
        have l104:=g103.1
        have o105:=o84.keep ω2 k101
        have w106:=o105.lt
        have k107:=k100.keep1
        have l108:=k107.1
        have g109:=g103.keep (b:=b33) ω2 k107
        have l110:=g109.1
        have o111:=o97.own1
        have w112:=o111.lt
        have o113:=o98.own1
        have w114:=o113.lt
        rw [show IntKind.wrap .i64 (k-1)=(k-1) from zt ω2 ω2]
        refine z1g2 (μ3-1) ω15 ⟨_,_,o111,ω13,o113,ω13,ω2,g109,ω1,ω15,ω29⟩
       ·have e:=e.trans (zw c92)
        have c_92':=of_decide_eq_false c92
        rw [z11a]
        refine Al.intro (fun b115 H_12 hb_116 hl_117 g118 o119=>?_)
        have o119:Own H_12 b115 ((([]:LN)).map fF):=o119
        have l121:=g118.1
        have g122:=g87.trans g118
        have l123:=g122.1
        have o124:=o82.grow g118
        have w125:=o124.lt
        have o126:=o84.grow g118
        have w127:=o126.lt
        have w229:=o119.lt
        refine z17a _ _ _ _ (fun (μ4:Nat) (wg:OA) (tg:Nat) (dh:Nat) (mg:Int) (H_13:zp)=>∃(fg:LN),∃(b128:Nat),wg=some ⟨b128,0,none⟩∧tg=fg.length∧dh=1∧Own H_13 b128 (fg.map fF)∧Own H_13 b_14 ((y3_1).map fF)∧Own H_13 b33 ((y3_2).map fF)∧(b33≠b_14)∧(b128≠b_14)∧(b128≠b33)∧Grow H H_13∧H.length≤b128∧(0:Int)≤mg∧mg≤(0+ee.length:Int)∧(fg.length:Int)≤2*(mg)∧(0+ee.length:Int)-mg≤(μ4:Int)∧z7s aa ga ee mf=z4s aa ga ee mf i y1_1 y1_2 gf y2_1 y2_2 k y3_1 y3_2 (fun (fg:LN) (mg:Int)=>(bif (z5d fg).2 then (fg,true) else ([],false))) (μ4+1) fg mg) (Int.toNat ((0+ee.length:Int)-(0:Int))) _ _ _ _ H_12 ?_ ?_
        ·exact ⟨_,_,rfl,ω5,rfl,o119,o124,o126,ω2,ω2,ω2,g122,ω2,ω7,ω7,ω7,ω2,e⟩
        ·intro μ4 wg tg dh mg  H_13 hI
         obtain ⟨fg,b128,rfl,rfl,rfl,o129,o130,o131,n132,n133,n134,g135,l136,v137,v138,v139,hμ,e⟩:=hI
         rw [z17b]
         have e:=e.trans (zfy aa ga ee mf i y1_1 y1_2 gf y2_1 y2_2 k y3_1 y3_2 (fun (fg:LN) (mg:Int)=>(bif (z5d fg).2 then (fg,true) else ([],false))) μ4 fg mg)
         have w140:=o130.lt
         have w141:=o131.lt
         have w142:=o129.lt
         have l143:=g135.1
         refine Br.intro (fun c144=>?_) (fun c144=>?_)
         ·have e:=e.trans (zx c144)
          have c_144':=of_decide_eq_true c144
          refine ⟨by omega,ω2,_,_,rfl,?_⟩
          refine ⟨((y3_1).getD (mg:Int).toNat 0),o130.rd ω0 _,?_⟩
          refine Al.intro (fun b145 H_14 hb_146 hl_147 g148 o149=>?_)
          have o149:Own H_14 b145 (([(((y3_1).getD (mg:Int).toNat 0))]).map fF):=o149
          have l151:=g148.1
          have g152:=g135.trans g148
          have l153:=g152.1
          have o154:=o130.grow g148
          have w155:=o154.lt
          have o156:=o131.grow g148
          have w157:=o156.lt
          have o158:=o129.grow g148
          have w159:=o158.lt
          have w213:=o149.lt
          refine ⟨_,_,o158.ownB ω3 rfl,(z2m (o149.isL ω5)),(fun h=>by cases h),ω25,?_⟩
          refine Ap.app o158 rfl rfl (fun b164 H_15 q211 hl_160 o161 k162=>?_)
          have o161:=z2c o161
          have l165:=k162.1
          have g166:=g152.keep (b:=b128) ω2 k162
          have l167:=g166.1
          have o168:=o154.keep ω2 k162
          have w169:=o168.lt
          have o170:=o156.keep ω2 k162
          have w171:=o170.lt
          have o172:=o149.keep ω2 k162
          have w173:=o172.lt
          have w212:=o161.lt
          refine Br.intro (fun c174=>?_) (fun c174=>?_)
          ·have e:=e.trans (zx c174)
           have c_174':=of_decide_eq_true c174
           refine ⟨by omega,ω2,_,_,rfl,?_⟩
           refine ⟨((y3_2).getD (mg:Int).toNat 0),o170.rd ω0 _,?_⟩
           refine Al.intro (fun b175 H_16 hb_176 hl_177 g178 o179=>?_)
           have o179:Own H_16 b175 (([(((y3_2).getD (mg:Int).toNat 0))]).map fF):=o179
           have l181:=g178.1
           have g182:=g166.trans g178
           have l183:=g182.1
           have o184:=o168.grow g178
           have w185:=o184.lt
           have o186:=o170.grow g178
           have w187:=o186.lt
           have o188:=o172.grow g178
           have w189:=o188.lt
           have o190:=o161.grow g178
           have w191:=o190.lt
           have w210:=o179.lt
           refine ⟨_,_,o190.ownB ω3 rfl,(z2m (o179.isL ω5)),(fun h=>by cases h),ω25,?_⟩
           refine Ap.app o190 rfl rfl (fun b196 H_17 q208 hl_192 o193 k194=>?_)
           have o193:=z2c o193
           have l197:=k194.1
           have g198:=g182.keep (b:=b164) ω2 k194
           have l199:=g198.1
           have o200:=o184.keep ω2 k194
           have w201:=o200.lt
           have o202:=o186.keep ω2 k194
           have w203:=o202.lt
           have o204:=o188.keep ω2 k194
           have w205:=o204.lt
           have o206:=o179.keep ω2 k194
           have w207:=o206.lt
           have w209:=o193.lt
           rw [show IntKind.wrap .i64 (mg+1)=(mg+1) from zt ω2 ω2]
           refine znw (μ4-1) ω15 ⟨_,_,rfl,ω8,rfl,o193,o200,o202,ω2,ω2,ω2,g198,ω2,ω1,ω1,ω1,ω15,ω30⟩
          ·have e:=e.trans (zw c174)
           have c_174':=of_decide_eq_false c174
           rw [show IntKind.wrap .i64 (mg+1)=(mg+1) from zt ω2 ω2]
           refine znw (μ4-1) ω15 ⟨_,_,rfl,ω8,rfl,o161,o168,o170,ω2,ω2,ω2,g166,ω2,ω1,ω1,ω1,ω15,ω30⟩
         ·have e:=e.trans (zw c144)
          have c_144':=of_decide_eq_false c144
          rw [znx]
          refine znb ⟨_,(o129.isL ω5),ω0,(fun H_18 g218=>?_)⟩
          have l220:=g218.1
          have g221:=g135.trans g218
          have l222:=g221.1
          have o223:=o130.grow g218
          have w224:=o223.lt
          have o225:=o131.grow g218
          have w226:=o225.lt
          have o227:=o129.grow g218
          have w228:=o227.lt
          refine Br.intro (fun c219=>?_) (fun c219=>?_)
          ·have e:=e.trans (zx c219)
           rw [e] at hk
           exact hk _ _ _ H_18 g221 (o227.ownS ω5 ω2)
          ·have e:=e.trans (zw c219)
           rw [e] at hk
           exact hk _ _ _ H_18 g221 ω20
 ·have e:=e.trans (zw c_39)
  have c_39':=of_decide_eq_false c_39
  refine Al.intro (fun b230 H_19 hb_231 hl_232 g233 o234=>?_)
  have o234:Own H_19 b230 ((([]:LN)).map fF):=o234
  have l236:=g233.1
  have g237:=g35.trans g233
  have l238:=g237.1
  have o239:=o37.grow g233
  have w240:=o239.lt
  have o241:=o30.grow g233
  have w242:=o241.lt
  have w344:=o234.lt
  refine z17a _ _ _ _ (fun (μ:Nat) (wg:OA) (tg:Nat) (dh:Nat) (mg:Int) (H_20:zp)=>∃(fg:LN),∃(b243:Nat),wg=some ⟨b243,0,none⟩∧tg=fg.length∧dh=1∧Own H_20 b243 (fg.map fF)∧Own H_20 b_14 (((([]:LN)++ee)).map fF)∧Own H_20 b33 (((([]:LN)++mf)).map fF)∧(b33≠b_14)∧(b243≠b_14)∧(b243≠b33)∧Grow H H_20∧H.length≤b243∧(0:Int)≤mg∧mg≤(0+ee.length:Int)∧(fg.length:Int)≤2*(mg)∧(0+ee.length:Int)-mg≤(μ:Int)∧z7s aa ga ee mf=z7f aa ga ee mf (μ+1) fg mg) (Int.toNat ((0+ee.length:Int)-(0:Int))) _ _ _ _ H_19 ?_ ?_
  ·exact ⟨_,_,rfl,ω5,rfl,o234,o239,o241,ω2,ω2,ω2,g237,ω2,ω7,ω7,ω7,ω2,e⟩
  ·intro μ wg tg dh mg  H_20 hI
   obtain ⟨fg,b243,rfl,rfl,rfl,o244,o245,o246,n247,n248,n249,g250,l251,v252,v253,v254,hμ,e⟩:=hI
   rw [z17b]
   have e:=e.trans (zea aa ga ee mf μ fg mg)
   have w255:=o245.lt
   have w256:=o246.lt
   have w257:=o244.lt
   have l258:=g250.1
   refine Br.intro (fun c259=>?_) (fun c259=>?_)
   ·have e:=e.trans (zx c259)
    have c_259':=of_decide_eq_true c259
    refine ⟨by omega,ω2,_,_,rfl,?_⟩
    refine ⟨(((([]:LN)++ee)).getD (mg:Int).toNat 0),o245.rd ω0 _,?_⟩
    refine Al.intro (fun b260 H_21 hb_261 hl_262 g263 o264=>?_)
    have o264:Own H_21 b260 (([((((([]:LN)++ee)).getD (mg:Int).toNat 0))]).map fF):=o264
    have l266:=g263.1
    have g267:=g250.trans g263
    have l268:=g267.1
    have o269:=o245.grow g263
    have w270:=o269.lt
    have o271:=o246.grow g263
    have w272:=o271.lt
    have o273:=o244.grow g263
    have w274:=o273.lt
    have w328:=o264.lt
    refine ⟨_,_,o273.ownB ω3 rfl,(z2m (o264.isL ω5)),(fun h=>by cases h),ω25,?_⟩
    refine Ap.app o273 rfl rfl (fun b279 H_22 q326 hl_275 o276 k277=>?_)
    have o276:=z2c o276
    have l280:=k277.1
    have g281:=g267.keep (b:=b243) ω2 k277
    have l282:=g281.1
    have o283:=o269.keep ω2 k277
    have w284:=o283.lt
    have o285:=o271.keep ω2 k277
    have w286:=o285.lt
    have o287:=o264.keep ω2 k277
    have w288:=o287.lt
    have w327:=o276.lt
    refine Br.intro (fun c289=>?_) (fun c289=>?_)
    ·have e:=e.trans (zx c289)
     have c_289':=of_decide_eq_true c289
     refine ⟨by omega,ω2,_,_,rfl,?_⟩
     refine ⟨(((([]:LN)++mf)).getD (mg:Int).toNat 0),o285.rd ω0 _,?_⟩
     refine Al.intro (fun b290 H_23 hb_291 hl_292 g293 o294=>?_)
     have o294:Own H_23 b290 (([((((([]:LN)++mf)).getD (mg:Int).toNat 0))]).map fF):=o294
     have l296:=g293.1
     have g297:=g281.trans g293
     have l298:=g297.1
     have o299:=o283.grow g293
     have w300:=o299.lt
     have o301:=o285.grow g293
     have w302:=o301.lt
     have o303:=o287.grow g293
     have w304:=o303.lt
     have o305:=o276.grow g293
     have w306:=o305.lt
     have w325:=o294.lt
     refine ⟨_,_,o305.ownB ω3 rfl,(z2m (o294.isL ω5)),(fun h=>by cases h),ω25,?_⟩
     refine Ap.app o305 rfl rfl (fun b311 H_24 q323 hl_307 o308 k309=>?_)
     have o308:=z2c o308
     have l312:=k309.1
     have g313:=g297.keep (b:=b279) ω2 k309
     have l314:=g313.1
     have o315:=o299.keep ω2 k309
     have w316:=o315.lt
     have o317:=o301.keep ω2 k309
     have w318:=o317.lt
     have o319:=o303.keep ω2 k309
     have w320:=o319.lt
     have o321:=o294.keep ω2 k309
     have w322:=o321.lt
     have w324:=o308.lt
     rw [show IntKind.wrap .i64 (mg+1)=(mg+1) from zt ω2 ω2]
     refine znw (μ-1) ω15 ⟨_,_,rfl,ω8,rfl,o308,o315,o317,ω2,ω2,ω2,g313,ω2,ω1,ω1,ω1,ω15,ω12⟩
    ·have e:=e.trans (zw c289)
     have c_289':=of_decide_eq_false c289
     rw [show IntKind.wrap .i64 (mg+1)=(mg+1) from zt ω2 ω2]
     refine znw (μ-1) ω15 ⟨_,_,rfl,ω8,rfl,o276,o283,o285,ω2,ω2,ω2,g281,ω2,ω1,ω1,ω1,ω15,ω12⟩
   ·have e:=e.trans (zw c259)
    have c_259':=of_decide_eq_false c259
    rw [znx]
    refine znb ⟨_,(o244.isL ω5),ω0,(fun H_25 g333=>?_)⟩
    have l335:=g333.1
    have g336:=g250.trans g333
    have l337:=g336.1
    have o338:=o245.grow g333
    have w339:=o338.lt
    have o340:=o246.grow g333
    have w341:=o340.lt
    have o342:=o244.grow g333
    have w343:=o342.lt
    refine Br.intro (fun c334=>?_) (fun c334=>?_)
    ·have e:=e.trans (zx c334)
     rw [e] at hk
     exact hk _ _ _ H_25 g336 (o342.ownS ω5 ω2)
    ·have e:=e.trans (zw c334)
     rw [e] at hk
     exact hk _ _ _ H_25 g336 ω20
theorem z1g3:FnOk Tryz.prog 167 S_fjz:=FnOk.bodyF mix_ok zya Tryz.func167 rfl ω9 ω9 fun args H=>by
 unfold F_fjz
 split
 ·refine ⟨?_,?_,?_,?_,fun K hk=>z10x _ _ _ _ _ _ _ H K hk⟩
  ·intro K K' h hk;obtain ⟨eb,lb,nb,ga,aa,ee,mf,i_s,dc,i_even,i_odd,bd_351,bd_352,bd_353,pr0,pr1,pr2,k⟩:=hk;exact ⟨eb,lb,nb,ga,aa,ee,mf,i_s,dc,i_even,i_odd,bd_351,bd_352,bd_353,pr0,pr1,pr2,(fun sd ae zd H' gg ow0=>h _ _ (k sd ae zd H' gg ow0))⟩
  ·nofun
  ·intro K hk;obtain ⟨eb,lb,nb,ga,aa,ee,mf,i_s,dc,i_even,i_odd,bd_351,bd_352,bd_353,pr0,pr1,pr2,k⟩:=hk;exact z4v fun a n e H1 g o=>⟨_,_,k a n e H1 g o⟩
  ·intro _ K hk;obtain ⟨eb,lb,nb,ga,aa,ee,mf,i_s,dc,i_even,i_odd,bd_351,bd_352,bd_353,pr0,pr1,pr2,k⟩:=hk;exact ⟨eb,lb,nb,ga,aa,ee,mf,i_s,dc,i_even,i_odd,bd_351,bd_352,bd_353,pr0,pr1,pr2,(fun sd ae zd H' gg ow0=>⟨gg,k sd ae zd H' gg ow0⟩)⟩
 ·exact Nice.no
end Go.Proofs.YthheoefadijhdaaGreat.Ai
