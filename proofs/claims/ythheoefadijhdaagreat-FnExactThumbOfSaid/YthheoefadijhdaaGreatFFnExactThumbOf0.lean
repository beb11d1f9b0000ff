/- What functions of the program come to on the abstract machine, and that they do so; printed by a program of mine around proofs of mine. -/
import Derived.Test.YthheoefadijhdaaGreatProg
import Derived.Test.YthheoefadijhdaaGreatFFnExactThumbOfKt
import Derived.Test.YthheoefadijhdaaGreatFFnExactThumbOfOl
import Derived.Test.YthheoefadijhdaaGreatFFnExactThumbOfPi
import Derived.Test.YthheoefadijhdaaGreatFFnExactThumbOfRa
import Derived.Test.YthheoefadijhdaaGreatFFnExactThumbOfRd
set_option linter.unusedVariables false
set_option linter.unusedSimpArgs false
set_option linter.defProp false
set_option maxRecDepth 100000
set_option maxHeartbeats 1000000
namespace Go.Proofs.YthheoefadijhdaaGreat.Ai
open Go
attribute [local irreducible] z6i zw
theorem mix_ok:Tryz.prog.follows .mixedOrders=true:=by kernel_rfl
theorem nbl {a b:Nat} (h:Nat.ble a b=true):a≤b:=Nat.le_of_ble_eq_true h
theorem dct {p:Prop} [Decidable p] (h:p):decide p=true:=decide_eq_true h
theorem dcf {p:Prop} [Decidable p] (h:¬p):decide p=false:=decide_eq_false h
theorem odt {p:Prop} [Decidable p] (h:decide p=true):p:=of_decide_eq_true h
theorem odf {p:Prop} [Decidable p] (h:decide p=false):¬p:=of_decide_eq_false h
abbrev OA:=Option Addr
abbrev LN:=List Nat
abbrev KT:=Value→zp→Prop
abbrev ud2 (l:List Value):List Value:=ud::ud::l
abbrev ud3 (l:List Value):List Value:=ud::ud::ud::l
abbrev ud4 (l:List Value):List Value:=ud::ud::ud::ud::l
abbrev ud5 (l:List Value):List Value:=ud::ud::ud::ud::ud::l
abbrev ud6 (l:List Value):List Value:=ud::ud::ud::ud::ud::ud::l
abbrev ud7 (l:List Value):List Value:=ud::ud::ud::ud::ud::ud::ud::l
abbrev ud8 (l:List Value):List Value:=ud::ud::ud::ud::ud::ud::ud::ud::l
abbrev ud9 (l:List Value):List Value:=ud::ud::ud::ud::ud::ud::ud::ud::ud::l
abbrev ud10 (l:List Value):List Value:=ud::ud::ud::ud::ud::ud::ud::ud::ud::ud::l
abbrev ud11 (l:List Value):List Value:=ud::ud::ud::ud::ud::ud::ud::ud::ud::ud::ud::l
abbrev ud12 (l:List Value):List Value:=ud::ud::ud::ud::ud::ud::ud::ud::ud::ud::ud::ud::l
abbrev ud13 (l:List Value):List Value:=ud::ud::ud::ud::ud::ud::ud::ud::ud::ud::ud::ud::ud::l
abbrev ud14 (l:List Value):List Value:=ud::ud::ud::ud::ud::ud::ud::ud::ud::ud::ud::ud::ud::ud::l
abbrev ud16 (l:List Value):List Value:=ud::ud::ud::ud::ud::ud::ud::ud::ud::ud::ud::ud::ud::ud::ud::ud::l
abbrev ud17 (l:List Value):List Value:=ud::ud::ud::ud::ud::ud::ud::ud::ud::ud::ud::ud::ud::ud::ud::ud::ud::l
abbrev ud18 (l:List Value):List Value:=ud::ud::ud::ud::ud::ud::ud::ud::ud::ud::ud::ud::ud::ud::ud::ud::ud::ud::l
abbrev ud20 (l:List Value):List Value:=ud::ud::ud::ud::ud::ud::ud::ud::ud::ud::ud::ud::ud::ud::ud::ud::ud::ud::ud::ud::l
abbrev ud21 (l:List Value):List Value:=ud::ud::ud::ud::ud::ud::ud::ud::ud::ud::ud::ud::ud::ud::ud::ud::ud::ud::ud::ud::ud::l
abbrev ud22 (l:List Value):List Value:=ud::ud::ud::ud::ud::ud::ud::ud::ud::ud::ud::ud::ud::ud::ud::ud::ud::ud::ud::ud::ud::ud::l
abbrev ud23 (l:List Value):List Value:=ud::ud::ud::ud::ud::ud::ud::ud::ud::ud::ud::ud::ud::ud::ud::ud::ud::ud::ud::ud::ud::ud::ud::l
abbrev ud24 (l:List Value):List Value:=ud::ud::ud::ud::ud::ud::ud::ud::ud::ud::ud::ud::ud::ud::ud::ud::ud::ud::ud::ud::ud::ud::ud::ud::l
abbrev ud25 (l:List Value):List Value:=ud::ud::ud::ud::ud::ud::ud::ud::ud::ud::ud::ud::ud::ud::ud::ud::ud::ud::ud::ud::ud::ud::ud::ud::ud::l
abbrev ud26 (l:List Value):List Value:=ud::ud::ud::ud::ud::ud::ud::ud::ud::ud::ud::ud::ud::ud::ud::ud::ud::ud::ud::ud::ud::ud::ud::ud::ud::ud::l
abbrev ud28 (l:List Value):List Value:=ud::ud::ud::ud::ud::ud::ud::ud::ud::ud::ud::ud::ud::ud::ud::ud::ud::ud::ud::ud::ud::ud::ud::ud::ud::ud::ud::ud::l
abbrev ud29 (l:List Value):List Value:=ud::ud::ud::ud::ud::ud::ud::ud::ud::ud::ud::ud::ud::ud::ud::ud::ud::ud::ud::ud::ud::ud::ud::ud::ud::ud::ud::ud::ud::l
abbrev ud30 (l:List Value):List Value:=ud::ud::ud::ud::ud::ud::ud::ud::ud::ud::ud::ud::ud::ud::ud::ud::ud::ud::ud::ud::ud::ud::ud::ud::ud::ud::ud::ud::ud::ud::l
abbrev ud31 (l:List Value):List Value:=ud::ud::ud::ud::ud::ud::ud::ud::ud::ud::ud::ud::ud::ud::ud::ud::ud::ud::ud::ud::ud::ud::ud::ud::ud::ud::ud::ud::ud::ud::ud::l
abbrev ud32 (l:List Value):List Value:=ud::ud::ud::ud::ud::ud::ud::ud::ud::ud::ud::ud::ud::ud::ud::ud::ud::ud::ud::ud::ud::ud::ud::ud::ud::ud::ud::ud::ud::ud::ud::ud::l
abbrev ud35 (l:List Value):List Value:=ud::ud::ud::ud::ud::ud::ud::ud::ud::ud::ud::ud::ud::ud::ud::ud::ud::ud::ud::ud::ud::ud::ud::ud::ud::ud::ud::ud::ud::ud::ud::ud::ud::ud::ud::l
abbrev ud37 (l:List Value):List Value:=ud::ud::ud::ud::ud::ud::ud::ud::ud::ud::ud::ud::ud::ud::ud::ud::ud::ud::ud::ud::ud::ud::ud::ud::ud::ud::ud::ud::ud::ud::ud::ud::ud::ud::ud::ud::ud::l
abbrev ud38 (l:List Value):List Value:=ud::ud::ud::ud::ud::ud::ud::ud::ud::ud::ud::ud::ud::ud::ud::ud::ud::ud::ud::ud::ud::ud::ud::ud::ud::ud::ud::ud::ud::ud::ud::ud::ud::ud::ud::ud::ud::ud::l
abbrev ud39 (l:List Value):List Value:=ud::ud::ud::ud::ud::ud::ud::ud::ud::ud::ud::ud::ud::ud::ud::ud::ud::ud::ud::ud::ud::ud::ud::ud::ud::ud::ud::ud::ud::ud::ud::ud::ud::ud::ud::ud::ud::ud::ud::l
abbrev ud40 (l:List Value):List Value:=ud::ud::ud::ud::ud::ud::ud::ud::ud::ud::ud::ud::ud::ud::ud::ud::ud::ud::ud::ud::ud::ud::ud::ud::ud::ud::ud::ud::ud::ud::ud::ud::ud::ud::ud::ud::ud::ud::ud::ud::l
abbrev ud44 (l:List Value):List Value:=ud::ud::ud::ud::ud::ud::ud::ud::ud::ud::ud::ud::ud::ud::ud::ud::ud::ud::ud::ud::ud::ud::ud::ud::ud::ud::ud::ud::ud::ud::ud::ud::ud::ud::ud::ud::ud::ud::ud::ud::ud::ud::ud::ud::l
abbrev ud45 (l:List Value):List Value:=ud::ud::ud::ud::ud::ud::ud::ud::ud::ud::ud::ud::ud::ud::ud::ud::ud::ud::ud::ud::ud::ud::ud::ud::ud::ud::ud::ud::ud::ud::ud::ud::ud::ud::ud::ud::ud::ud::ud::ud::ud::ud::ud::ud::ud::l
abbrev ud47 (l:List Value):List Value:=ud::ud::ud::ud::ud::ud::ud::ud::ud::ud::ud::ud::ud::ud::ud::ud::ud::ud::ud::ud::ud::ud::ud::ud::ud::ud::ud::ud::ud::ud::ud::ud::ud::ud::ud::ud::ud::ud::ud::ud::ud::ud::ud::ud::ud::ud::ud::l
abbrev ud49 (l:List Value):List Value:=ud::ud::ud::ud::ud::ud::ud::ud::ud::ud::ud::ud::ud::ud::ud::ud::ud::ud::ud::ud::ud::ud::ud::ud::ud::ud::ud::ud::ud::ud::ud::ud::ud::ud::ud::ud::ud::ud::ud::ud::ud::ud::ud::ud::ud::ud::ud::ud::ud::l
abbrev ud50 (l:List Value):List Value:=ud::ud::ud::ud::ud::ud::ud::ud::ud::ud::ud::ud::ud::ud::ud::ud::ud::ud::ud::ud::ud::ud::ud::ud::ud::ud::ud::ud::ud::ud::ud::ud::ud::ud::ud::ud::ud::ud::ud::ud::ud::ud::ud::ud::ud::ud::ud::ud::ud::ud::l
abbrev ud51 (l:List Value):List Value:=ud::ud::ud::ud::ud::ud::ud::ud::ud::ud::ud::ud::ud::ud::ud::ud::ud::ud::ud::ud::ud::ud::ud::ud::ud::ud::ud::ud::ud::ud::ud::ud::ud::ud::ud::ud::ud::ud::ud::ud::ud::ud::ud::ud::ud::ud::ud::ud::ud::ud::ud::l
abbrev ud52 (l:List Value):List Value:=ud::ud::ud::ud::ud::ud::ud::ud::ud::ud::ud::ud::ud::ud::ud::ud::ud::ud::ud::ud::ud::ud::ud::ud::ud::ud::ud::ud::ud::ud::ud::ud::ud::ud::ud::ud::ud::ud::ud::ud::ud::ud::ud::ud::ud::ud::ud::ud::ud::ud::ud::ud::l
abbrev ud53 (l:List Value):List Value:=ud::ud::ud::ud::ud::ud::ud::ud::ud::ud::ud::ud::ud::ud::ud::ud::ud::ud::ud::ud::ud::ud::ud::ud::ud::ud::ud::ud::ud::ud::ud::ud::ud::ud::ud::ud::ud::ud::ud::ud::ud::ud::ud::ud::ud::ud::ud::ud::ud::ud::ud::ud::ud::l
abbrev ud54 (l:List Value):List Value:=ud::ud::ud::ud::ud::ud::ud::ud::ud::ud::ud::ud::ud::ud::ud::ud::ud::ud::ud::ud::ud::ud::ud::ud::ud::ud::ud::ud::ud::ud::ud::ud::ud::ud::ud::ud::ud::ud::ud::ud::ud::ud::ud::ud::ud::ud::ud::ud::ud::ud::ud::ud::ud::ud::l
abbrev ud55 (l:List Value):List Value:=ud::ud::ud::ud::ud::ud::ud::ud::ud::ud::ud::ud::ud::ud::ud::ud::ud::ud::ud::ud::ud::ud::ud::ud::ud::ud::ud::ud::ud::ud::ud::ud::ud::ud::ud::ud::ud::ud::ud::ud::ud::ud::ud::ud::ud::ud::ud::ud::ud::ud::ud::ud::ud::ud::ud::l
abbrev ud56 (l:List Value):List Value:=ud::ud::ud::ud::ud::ud::ud::ud::ud::ud::ud::ud::ud::ud::ud::ud::ud::ud::ud::ud::ud::ud::ud::ud::ud::ud::ud::ud::ud::ud::ud::ud::ud::ud::ud::ud::ud::ud::ud::ud::ud::ud::ud::ud::ud::ud::ud::ud::ud::ud::ud::ud::ud::ud::ud::ud::l
abbrev ud59 (l:List Value):List Value:=ud::ud::ud::ud::ud::ud::ud::ud::ud::ud::ud::ud::ud::ud::ud::ud::ud::ud::ud::ud::ud::ud::ud::ud::ud::ud::ud::ud::ud::ud::ud::ud::ud::ud::ud::ud::ud::ud::ud::ud::ud::ud::ud::ud::ud::ud::ud::ud::ud::ud::ud::ud::ud::ud::ud::ud::ud::ud::ud::l
abbrev ud60 (l:List Value):List Value:=ud::ud::ud::ud::ud::ud::ud::ud::ud::ud::ud::ud::ud::ud::ud::ud::ud::ud::ud::ud::ud::ud::ud::ud::ud::ud::ud::ud::ud::ud::ud::ud::ud::ud::ud::ud::ud::ud::ud::ud::ud::ud::ud::ud::ud::ud::ud::ud::ud::ud::ud::ud::ud::ud::ud::ud::ud::ud::ud::ud::l
abbrev ud61 (l:List Value):List Value:=ud::ud::ud::ud::ud::ud::ud::ud::ud::ud::ud::ud::ud::ud::ud::ud::ud::ud::ud::ud::ud::ud::ud::ud::ud::ud::ud::ud::ud::ud::ud::ud::ud::ud::ud::ud::ud::ud::ud::ud::ud::ud::ud::ud::ud::ud::ud::ud::ud::ud::ud::ud::ud::ud::ud::ud::ud::ud::ud::ud::ud::l
abbrev ud62 (l:List Value):List Value:=ud::ud::ud::ud::ud::ud::ud::ud::ud::ud::ud::ud::ud::ud::ud::ud::ud::ud::ud::ud::ud::ud::ud::ud::ud::ud::ud::ud::ud::ud::ud::ud::ud::ud::ud::ud::ud::ud::ud::ud::ud::ud::ud::ud::ud::ud::ud::ud::ud::ud::ud::ud::ud::ud::ud::ud::ud::ud::ud::ud::ud::ud::l
abbrev ud65 (l:List Value):List Value:=ud::ud::ud::ud::ud::ud::ud::ud::ud::ud::ud::ud::ud::ud::ud::ud::ud::ud::ud::ud::ud::ud::ud::ud::ud::ud::ud::ud::ud::ud::ud::ud::ud::ud::ud::ud::ud::ud::ud::ud::ud::ud::ud::ud::ud::ud::ud::ud::ud::ud::ud::ud::ud::ud::ud::ud::ud::ud::ud::ud::ud::ud::ud::ud::ud::l
abbrev ud67 (l:List Value):List Value:=ud::ud::ud::ud::ud::ud::ud::ud::ud::ud::ud::ud::ud::ud::ud::ud::ud::ud::ud::ud::ud::ud::ud::ud::ud::ud::ud::ud::ud::ud::ud::ud::ud::ud::ud::ud::ud::ud::ud::ud::ud::ud::ud::ud::ud::ud::ud::ud::ud::ud::ud::ud::ud::ud::ud::ud::ud::ud::ud::ud::ud::ud::ud::ud::ud::ud::ud::l
abbrev ud68 (l:List Value):List Value:=ud::ud::ud::ud::ud::ud::ud::ud::ud::ud::ud::ud::ud::ud::ud::ud::ud::ud::ud::ud::ud::ud::ud::ud::ud::ud::ud::ud::ud::ud::ud::ud::ud::ud::ud::ud::ud::ud::ud::ud::ud::ud::ud::ud::ud::ud::ud::ud::ud::ud::ud::ud::ud::ud::ud::ud::ud::ud::ud::ud::ud::ud::ud::ud::ud::ud::ud::ud::l
abbrev ud71 (l:List Value):List Value:=ud::ud::ud::ud::ud::ud::ud::ud::ud::ud::ud::ud::ud::ud::ud::ud::ud::ud::ud::ud::ud::ud::ud::ud::ud::ud::ud::ud::ud::ud::ud::ud::ud::ud::ud::ud::ud::ud::ud::ud::ud::ud::ud::ud::ud::ud::ud::ud::ud::ud::ud::ud::ud::ud::ud::ud::ud::ud::ud::ud::ud::ud::ud::ud::ud::ud::ud::ud::ud::ud::ud::l
abbrev ud94 (l:List Value):List Value:=ud::ud::ud::ud::ud::ud::ud::ud::ud::ud::ud::ud::ud::ud::ud::ud::ud::ud::ud::ud::ud::ud::ud::ud::ud::ud::ud::ud::ud::ud::ud::ud::ud::ud::ud::ud::ud::ud::ud::ud::ud::ud::ud::ud::ud::ud::ud::ud::ud::ud::ud::ud::ud::ud::ud::ud::ud::ud::ud::ud::ud::ud::ud::ud::ud::ud::ud::ud::ud::ud::ud::ud::ud::ud::ud::ud::ud::ud::ud::ud::ud::ud::ud::ud::ud::ud::ud::ud::ud::ud::ud::ud::ud::ud::l
abbrev ud95 (l:List Value):List Value:=ud::ud::ud::ud::ud::ud::ud::ud::ud::ud::ud::ud::ud::ud::ud::ud::ud::ud::ud::ud::ud::ud::ud::ud::ud::ud::ud::ud::ud::ud::ud::ud::ud::ud::ud::ud::ud::ud::ud::ud::ud::ud::ud::ud::ud::ud::ud::ud::ud::ud::ud::ud::ud::ud::ud::ud::ud::ud::ud::ud::ud::ud::ud::ud::ud::ud::ud::ud::ud::ud::ud::ud::ud::ud::ud::ud::ud::ud::ud::ud::ud::ud::ud::ud::ud::ud::ud::ud::ud::ud::ud::ud::ud::ud::ud::l
abbrev ud96 (l:List Value):List Value:=ud::ud::ud::ud::ud::ud::ud::ud::ud::ud::ud::ud::ud::ud::ud::ud::ud::ud::ud::ud::ud::ud::ud::ud::ud::ud::ud::ud::ud::ud::ud::ud::ud::ud::ud::ud::ud::ud::ud::ud::ud::ud::ud::ud::ud::ud::ud::ud::ud::ud::ud::ud::ud::ud::ud::ud::ud::ud::ud::ud::ud::ud::ud::ud::ud::ud::ud::ud::ud::ud::ud::ud::ud::ud::ud::ud::ud::ud::ud::ud::ud::ud::ud::ud::ud::ud::ud::ud::ud::ud::ud::ud::ud::ud::ud::ud::l
abbrev ud97 (l:List Value):List Value:=ud::ud::ud::ud::ud::ud::ud::ud::ud::ud::ud::ud::ud::ud::ud::ud::ud::ud::ud::ud::ud::ud::ud::ud::ud::ud::ud::ud::ud::ud::ud::ud::ud::ud::ud::ud::ud::ud::ud::ud::ud::ud::ud::ud::ud::ud::ud::ud::ud::ud::ud::ud::ud::ud::ud::ud::ud::ud::ud::ud::ud::ud::ud::ud::ud::ud::ud::ud::ud::ud::ud::ud::ud::ud::ud::ud::ud::ud::ud::ud::ud::ud::ud::ud::ud::ud::ud::ud::ud::ud::ud::ud::ud::ud::ud::ud::ud::l
abbrev ud98 (l:List Value):List Value:=ud::ud::ud::ud::ud::ud::ud::ud::ud::ud::ud::ud::ud::ud::ud::ud::ud::ud::ud::ud::ud::ud::ud::ud::ud::ud::ud::ud::ud::ud::ud::ud::ud::ud::ud::ud::ud::ud::ud::ud::ud::ud::ud::ud::ud::ud::ud::ud::ud::ud::ud::ud::ud::ud::ud::ud::ud::ud::ud::ud::ud::ud::ud::ud::ud::ud::ud::ud::ud::ud::ud::ud::ud::ud::ud::ud::ud::ud::ud::ud::ud::ud::ud::ud::ud::ud::ud::ud::ud::ud::ud::ud::ud::ud::ud::ud::ud::ud::l
abbrev ud99 (l:List Value):List Value:=ud::ud::ud::ud::ud::ud::ud::ud::ud::ud::ud::ud::ud::ud::ud::ud::ud::ud::ud::ud::ud::ud::ud::ud::ud::ud::ud::ud::ud::ud::ud::ud::ud::ud::ud::ud::ud::ud::ud::ud::ud::ud::ud::ud::ud::ud::ud::ud::ud::ud::ud::ud::ud::ud::ud::ud::ud::ud::ud::ud::ud::ud::ud::ud::ud::ud::ud::ud::ud::ud::ud::ud::ud::ud::ud::ud::ud::ud::ud::ud::ud::ud::ud::ud::ud::ud::ud::ud::ud::ud::ud::ud::ud::ud::ud::ud::ud::ud::ud::l
abbrev ud100 (l:List Value):List Value:=ud::ud::ud::ud::ud::ud::ud::ud::ud::ud::ud::ud::ud::ud::ud::ud::ud::ud::ud::ud::ud::ud::ud::ud::ud::ud::ud::ud::ud::ud::ud::ud::ud::ud::ud::ud::ud::ud::ud::ud::ud::ud::ud::ud::ud::ud::ud::ud::ud::ud::ud::ud::ud::ud::ud::ud::ud::ud::ud::ud::ud::ud::ud::ud::ud::ud::ud::ud::ud::ud::ud::ud::ud::ud::ud::ud::ud::ud::ud::ud::ud::ud::ud::ud::ud::ud::ud::ud::ud::ud::ud::ud::ud::ud::ud::ud::ud::ud::ud::ud::l
abbrev ud101 (l:List Value):List Value:=ud::ud::ud::ud::ud::ud::ud::ud::ud::ud::ud::ud::ud::ud::ud::ud::ud::ud::ud::ud::ud::ud::ud::ud::ud::ud::ud::ud::ud::ud::ud::ud::ud::ud::ud::ud::ud::ud::ud::ud::ud::ud::ud::ud::ud::ud::ud::ud::ud::ud::ud::ud::ud::ud::ud::ud::ud::ud::ud::ud::ud::ud::ud::ud::ud::ud::ud::ud::ud::ud::ud::ud::ud::ud::ud::ud::ud::ud::ud::ud::ud::ud::ud::ud::ud::ud::ud::ud::ud::ud::ud::ud::ud::ud::ud::ud::ud::ud::ud::ud::ud::l
set_option maxHeartbeats 1000000

def zcw (l_a:LN) (left:Int):Int:=(bif decide ((IntKind.wrap .i64 (left-(l_a.length:Int)):Int)<0) then ((-1):Int) else IntKind.wrap .i64 (left-(l_a.length:Int)))
def zpl:=@zcw.eq_1
def zuz (a_a:OA) (a_n a_e:Nat) (left:Int) (H:zp) (K:Int→zp→Prop):Prop:=∃l_a:LN,IsL fF H a_a a_n l_a∧K (zcw l_a left) H
theorem zv0 {a_a:OA} {a_n a_e:Nat} {left:Int} {H:zp} {K:Int→zp→Prop} (h:∃l_a:LN,IsL fF H a_a a_n l_a∧K (zcw l_a left) H):zuz a_a a_n a_e left H K:=h
theorem ω2 {P:Prop} (h:P:=by omega):P:=h
theorem foz_f (l:LN) (left:Int):0≤left→left≤1048576→l.length≤9223372036854775807→zcw l left<0∨(l.length:Int)≤left∧zcw l left=left-l.length:=by
 intro h0 h1 h2
 rw [zpl,zt ω2 ω2]
 by_cases h:left-(l.length:Int)<0
 ·rw [dct h,cond_true];left;decide
 ·rw [dcf h,cond_false];right;omega
def E_foz:Env:=envOf []
def F_foz (args:List Value) (H:zp):(Value→zp→Prop)→Prop:=match args with
 | [.slice a_a a_n a_e,.int .i64 left]=>fun K=>zuz a_a a_n a_e left H fun (r1:Int) (H':zp)=>K (.int .i64 r1) H'
 | _=>fun _=>False
def S_foz:FSpec:={F:=F_foz,quiet:=true,tame:=false}
theorem z1ig (a_a:OA) (a_n a_e:Nat) (left:Int) (H:zp) (K:KT):zw Tryz.prog E_foz Tryz.f44 [.slice a_a a_n a_e,.int .i64 left] H K=
 (Br (decide ((IntKind.wrap .i64 (left-(a_n:Int)):Int)<0)) (K (.int .i64 (-1)) H) (K (.int .i64 (IntKind.wrap .i64 (left-(a_n:Int)))) H)):=by kernel_rfl
theorem zzt:∀g,FnOk Tryz.prog g (E_foz g):=FnOk.envOf (by
 intro x hx;cases hx)
theorem z13p (a_a:OA) (a_n a_e:Nat) (left:Int) (H:zp) (K:KT) (h:zuz a_a a_n a_e left H fun (r1:Int) (H':zp)=>K (.int .i64 r1) H'):zw Tryz.prog E_foz Tryz.f44 [.slice a_a a_n a_e,.int .i64 left] H K:=by
 rw [z1ig]
 obtain ⟨l_a,i_a,hk⟩:=h
 obtain rfl:=i_a.eqn
 have e:(zcw l_a left)=_:=rfl
 have e:=e.trans (zpl l_a left)
 have g0:=Grow.refl H
 refine Br.intro (fun c_1=>?_) (fun c_1=>?_)
 ·have e:=e.trans (zv c_1)
  have c_1':=odt c_1
  rw [e] at hk
  exact hk
 ·have e:=e.trans (zu c_1)
  have c_1':=odf c_1
  rw [e] at hk
  exact hk
theorem ω10 {P:Prop} (h:P:=by kernel_rfl):P:=h
theorem z19m:FnOk Tryz.prog 44 S_foz:=FnOk.bodyF mix_ok zzt Tryz.func44 rfl ω10 ω10 fun args H=>by
 unfold F_foz
 split
 ·refine ⟨?_,?_,?_,?_,fun K hk=>z13p _ _ _ _ H K hk⟩
  ·intro K K' h hk;obtain ⟨l_a,i_a,k⟩:=hk;exact ⟨l_a,i_a,h _ _ k⟩
  ·intro _ K hk;obtain ⟨l_a,i_a,k⟩:=hk;exact ⟨_,k,fun K' k'=>⟨l_a,i_a,k'⟩⟩
  ·intro K hk;obtain ⟨l_a,i_a,k⟩:=hk;exact ⟨_,_,k⟩
  ·nofun
 ·exact Nice.no

def z8q (sb:LN) (ie:Nat) (left:Int):Int:=(bif decide (((zcw sb left):Int)<0) then ((-1):Int) else (zcw sb left))
def zl2:=@z8q.eq_1
def zo0 (ec:OA) (zc bd ie:Nat) (left:Int) (H:zp) (K:Int→zp→Prop):Prop:=∃sb:LN,IsL fF H ec zc sb∧((∀H':zp,Grow H H'→K (z8q sb ie left) H'))
theorem z10q {ec:OA} {zc bd ie:Nat} {left:Int} {H:zp} {K:Int→zp→Prop} (h:∃sb:LN,IsL fF H ec zc sb∧((∀H':zp,Grow H H'→K (z8q sb ie left) H'))):zo0 ec zc bd ie left H K:=h
theorem z19f (l:LN) (sc:Nat) (left:Int):0≤left→left≤1048576→l.length≤9223372036854775807→z8q l sc left<0∨(l.length:Int)≤left∧z8q l sc left=left-l.length:=by
 intro h0 h1 h2
 have:=foz_f l left h0 h1 h2
 rw [zl2]
 by_cases h:zcw l left<0
 ·rw [dct h,cond_true];left;decide
 ·rw [dcf h,cond_false];right;omega
def zt0:Env:=envOf [(44,S_foz)]
def z16s (args:List Value) (H:zp):(Value→zp→Prop)→Prop:=match args with
 | [.agg ⟨[.slice ec zc bd,.float .f32 ie]⟩,.int .i64 left]=>fun K=>zo0 ec zc bd ie left H fun (r1:Int) (H':zp)=>K (.int .i64 r1) H'
 | _=>fun _=>False
def z18e:FSpec:={F:=z16s,quiet:=false,tame:=true}
theorem z1c1 (ec:OA) (zc bd ie:Nat) (left:Int) (H:zp) (K:KT):zw Tryz.prog zt0 Tryz.f9 [.agg #[.slice ec zc bd,.float .f32 ie],.int .i64 left] H K=
 (Al [.slice ec zc bd,.float .f32 ie] H fun b1 H1=>∃og:OA,∃(eg qg:Nat),  rdC H1 b1 0=some (.slice og eg qg)∧zuz og eg qg left H1 fun (r1:Int) (H2:zp)=>Br (decide ((r1:Int)<0)) (K (.int .i64 (-1)) H2) (K (.int .i64 r1) H2)):=by kernel_rfl
theorem zt1:∀g,FnOk Tryz.prog g (zt0 g):=FnOk.envOf (by
 intro x hx
 simp only [List.mem_cons,List.not_mem_nil,or_false] at hx
 subst hx;exact z19m)
theorem zvt (ec:OA) (zc bd ie:Nat) (left:Int) (H:zp) (K:KT) (h:zo0 ec zc bd ie left H fun (r1:Int) (H':zp)=>K (.int .i64 r1) H'):zw Tryz.prog zt0 Tryz.f9 [.agg #[.slice ec zc bd,.float .f32 ie],.int .i64 left] H K:=by
 rw [z1c1]
 obtain ⟨sb,af,hk⟩:=h
 obtain rfl:=af.eqn
 have e:(z8q sb ie left)=_:=rfl
 have e:=e.trans (zl2 sb ie left)
 have g0:=Grow.refl H
 refine Al.intro (fun b_1 H_1 hb_2 hl_3 g_4 o_5=>?_)
 have l_7:=g_4.1
 have g_8:=g0.trans g_4
 have l_9:=g_8.1
 have w_12:=o_5.lt
 refine ⟨ec,sb.length,bd,(o_5.rdC _).trans rfl,?_⟩
 refine zv0 ⟨_,(af.grow g_8),?_⟩
 have z10:=foz_f sb left
 refine Br.intro (fun c_11=>?_) (fun c_11=>?_)
 ·have e:=e.trans (zv c_11)
  have c_11':=odt c_11
  rw [e] at hk
  exact hk  H_1 g_8 
 ·have e:=e.trans (zu c_11)
  have c_11':=odf c_11
  rw [e] at hk
  exact hk  H_1 g_8 
theorem z1c0:FnOk Tryz.prog 9 z18e:=FnOk.bodyF mix_ok zt1 Tryz.func9 rfl ω10 ω10 fun args H=>by
 unfold z16s
 split
 ·refine ⟨?_,?_,?_,?_,fun K hk=>zvt _ _ _ _ _ H K hk⟩
  ·intro K K' h hk;obtain ⟨sb,af,k⟩:=hk;exact ⟨sb,af,(fun  H' gg  =>h _ _ (k  H' gg))⟩
  ·nofun
  ·intro K hk;obtain ⟨sb,af,k⟩:=hk;exact ⟨_,_,k H (Grow.refl H)⟩
  ·intro _ K hk;obtain ⟨sb,af,k⟩:=hk;exact ⟨sb,af,(fun  H' gg  =>⟨gg,k  H' gg⟩)⟩
 ·exact Nice.no

def zli (je me:Int) (pb:LN) (left:Int):Int:=(bif decide (((zcw pb left):Int)<0) then ((-1):Int) else (zcw pb left))
def zpp:=@zli.eq_1
def T_fxz (je me:Int) (bc:OA) (mc uc:Nat) (left:Int) (H:zp) (K:Int→zp→Prop):Prop:=∃pb:LN,IsL fF H bc mc pb∧((∀H':zp,Grow H H'→K (zli je me pb left) H'))
theorem z1bj {je me:Int} {bc:OA} {mc uc:Nat} {left:Int} {H:zp} {K:Int→zp→Prop} (h:∃pb:LN,IsL fF H bc mc pb∧((∀H':zp,Grow H H'→K (zli je me pb left) H'))):T_fxz je me bc mc uc left H K:=h
theorem fxz_f (a b:Int) (l:LN) (left:Int):0≤left→left≤1048576→l.length≤9223372036854775807→zli a b l left<0∨(l.length:Int)≤left∧zli a b l left=left-l.length:=by
 intro h0 h1 h2
 have:=foz_f l left h0 h1 h2
 rw [zpp]
 by_cases h:zcw l left<0
 ·rw [dct h,cond_true];left;decide
 ·rw [dcf h,cond_false];right;omega
def E_fxz:Env:=envOf [(44,S_foz)]
def F_fxz (args:List Value) (H:zp):(Value→zp→Prop)→Prop:=match args with
 | [.agg ⟨[.int .i64 je,.int .i64 me,.slice bc mc uc]⟩,.int .i64 left]=>fun K=>T_fxz je me bc mc uc left H fun (r1:Int) (H':zp)=>K (.int .i64 r1) H'
 | _=>fun _=>False
def S_fxz:FSpec:={F:=F_fxz,quiet:=false,tame:=true}
theorem z1j9 (je me:Int) (bc:OA) (mc uc:Nat) (left:Int) (H:zp) (K:KT):zw Tryz.prog E_fxz Tryz.f10 [.agg #[.int .i64 je,.int .i64 me,.slice bc mc uc],.int .i64 left] H K=
 (Al [.int .i64 je,.int .i64 me,.slice bc mc uc] H fun b1 H1=>∃og:OA,∃(eg qg:Nat),  rdC H1 b1 2=some (.slice og eg qg)∧zuz og eg qg left H1 fun (r1:Int) (H2:zp)=>Br (decide ((r1:Int)<0)) (K (.int .i64 (-1)) H2) (K (.int .i64 r1) H2)):=by kernel_rfl
theorem z10b:∀g,FnOk Tryz.prog g (E_fxz g):=FnOk.envOf (by
 intro x hx
 simp only [List.mem_cons,List.not_mem_nil,or_false] at hx
 subst hx;exact z19m)
theorem z14f (je me:Int) (bc:OA) (mc uc:Nat) (left:Int) (H:zp) (K:KT) (h:T_fxz je me bc mc uc left H fun (r1:Int) (H':zp)=>K (.int .i64 r1) H'):zw Tryz.prog E_fxz Tryz.f10 [.agg #[.int .i64 je,.int .i64 me,.slice bc mc uc],.int .i64 left] H K:=by
 rw [z1j9]
 obtain ⟨pb,ve,hk⟩:=h
 obtain rfl:=ve.eqn
 have e:(zli je me pb left)=_:=rfl
 have e:=e.trans (zpp je me pb left)
 have g0:=Grow.refl H
 refine Al.intro (fun b_1 H_1 hb_2 hl_3 g_4 o_5=>?_)
 have l_7:=g_4.1
 have g_8:=g0.trans g_4
 have l_9:=g_8.1
 have w_12:=o_5.lt
 refine ⟨bc,pb.length,uc,(o_5.rdC _).trans rfl,?_⟩
 refine zv0 ⟨_,(ve.grow g_8),?_⟩
 have z10:=foz_f pb left
 refine Br.intro (fun c_11=>?_) (fun c_11=>?_)
 ·have e:=e.trans (zv c_11)
  have c_11':=odt c_11
  rw [e] at hk
  exact hk  H_1 g_8 
 ·have e:=e.trans (zu c_11)
  have c_11':=odf c_11
  rw [e] at hk
  exact hk  H_1 g_8 
theorem z1j8:FnOk Tryz.prog 10 S_fxz:=FnOk.bodyF mix_ok z10b Tryz.func10 rfl ω10 ω10 fun args H=>by
 unfold F_fxz
 split
 ·refine ⟨?_,?_,?_,?_,fun K hk=>z14f _ _ _ _ _ _ H K hk⟩
  ·intro K K' h hk;obtain ⟨pb,ve,k⟩:=hk;exact ⟨pb,ve,(fun  H' gg  =>h _ _ (k  H' gg))⟩
  ·nofun
  ·intro K hk;obtain ⟨pb,ve,k⟩:=hk;exact ⟨_,_,k H (Grow.refl H)⟩
  ·intro _ K hk;obtain ⟨pb,ve,k⟩:=hk;exact ⟨pb,ve,(fun  H' gg  =>⟨gg,k  H' gg⟩)⟩
 ·exact Nice.no

def zbr (l_a:LN):Nat→Int→LN→LN
 | 0,_,_=>[]
 | μ+1,i,y1_1=>(bif decide ((i:Int)<(l_a.length:Int)) then (zbr l_a μ (i+1) (((y1_1).set (i:Int).toNat ((((l_a).getD (i:Int).toNat 0)))))) else y1_1)
def zgs:=fun l_a μ i y1_1=>@zbr.eq_2 l_a i y1_1 μ
def zy4 (l_a:LN):LN:=(zbr l_a (Int.toNat ((l_a.length:Int)-(0:Int))+1) (0:Int) (List.replicate (((l_a.length:Int)).toNat) 0))
def zpm:=@zy4.eq_1
def zv1 (a_a:OA) (a_n a_e:Nat) (H:zp) (K:OA→Nat→Nat→zp→Prop):Prop:=∃l_a:LN,IsL fF H a_a a_n l_a∧l_a.length<1073741824∧((∀(od:OA) (xd vd:Nat),∀H':zp,Grow H H'→OwnS fF H' H.length od xd vd l_a→K od xd vd H'))
theorem zv2 {a_a:OA} {a_n a_e:Nat} {H:zp} {K:OA→Nat→Nat→zp→Prop} (h:∃l_a:LN,IsL fF H a_a a_n l_a∧l_a.length<1073741824∧((∀(od:OA) (xd vd:Nat),∀H':zp,Grow H H'→OwnS fF H' H.length od xd vd l_a→K od xd vd H'))):zv1 a_a a_n a_e H K:=h
theorem z1ii (l:LN):∀(μ:Nat) (i:Nat) (ys:LN),ys.length=l.length→i≤l.length→l.length-i<μ→
  zbr l μ (i:Int) (l.take i++ys.drop i)=l:=by
 intro μ
 induction μ with
 | zero=>intro i ys _ _ h;omega
 | succ μ ih=>
  intro i ys hy hi hm
  rw [zgs]
  by_cases h:i<l.length
  ·rw [dct (show (i:Int)<(l.length:Int) by omega),cond_true]
   have hx:l[i]? =some (l.getD i 0):=by rw [List.getD_eq_getElem?_getD,List.getElem?_eq_getElem h];rfl
   rw [Int.toNat_natCast,z3o l ys i ω2 hy.symm _ hx]
   exact ih (i+1) ys hy ω2 ω2
  ·rw [dcf (show ¬(i:Int)<(l.length:Int) by omega),cond_false]
   rw [List.take_of_length_le ω2,List.drop_eq_nil_of_le ω2,List.append_nil]
theorem z1ij (l:LN):zy4 l=l:=by
 rw [zpm]
 have:=z1ii l (Int.toNat ((l.length:Int)-0)+1) 0 (List.replicate ((l.length:Int)).toNat 0) (by simp) ω2 ω2
 simpa using this
def zhl:Env:=envOf []
def F_fpz (args:List Value) (H:zp):(Value→zp→Prop)→Prop:=match args with
 | [.slice a_a a_n a_e]=>fun K=>zv1 a_a a_n a_e H fun (od:OA) (xd:Nat) (vd:Nat) (H':zp)=>K (.slice od xd vd) H'
 | _=>fun _=>False
def S_fpz:FSpec:={F:=F_fpz,quiet:=false,tame:=true}
theorem z1im (a_a:OA) (a_n a_e:Nat) (H:zp) (K:KT):zw Tryz.prog zhl Tryz.f48 [.slice a_a a_n a_e] H K=
 ((0:Int)≤(a_n:Int)∧(a_n:Int)=(a_n:Int)∧(a_n:Int)<(most:Int)∧Al (z1p (.float .f32 0) ((a_n:Int)).toNat) H fun b1 H1=>z1n (exL Tryz.prog zhl (cl (cl (cr (cl (cr (cr (zq Tryz.f48))))))) 25 4 [(0,8)]) (.slice a_a a_n a_e::ud2 (.slice (some ⟨b1,0,none⟩) (((a_n:Int)).toNat) 1::.int .i64 0::ud17 [])) H1 (z1a 0 (seqQ (exL Tryz.prog zhl (cr (cr (cr (zq Tryz.f48)))) 4 4 []) (retK Tryz.prog Tryz.f48 K)))):=by kernel_rfl
abbrev zka (a_a:OA) (a_e a_n b1:Nat) (i:Int)  :List Value:=(.slice a_a a_n a_e::ud2 (.slice (some ⟨b1,0,none⟩) (((a_n:Int)).toNat) 1::.int .i64 i::ud17 []))
theorem z1il (a_a:OA) (a_e a_n b1:Nat) (i:Int)  (H:zp) (R:Post):exL Tryz.prog zhl (cl (cl (cr (cl (cr (cr (zq Tryz.f48))))))) 25 4 [(0,8)] (zka a_a a_e a_n b1 i) H R=
 (Br (decide ((i:Int)<(a_n:Int))) ((0:Int)≤i∧i<(a_n:Int)∧∃b2 f1,(a_a:OA)=some ⟨b2,f1,none⟩∧∃x1:Nat,  rdC H b2 (f1+(i:Int).toNat*1)=some (.float .f32 x1)∧(0:Int)≤i∧i<(((a_n:Int)).toNat:Int)∧∃b3 f2,(some ⟨b1,0,none⟩:OA)=some ⟨b3,f2,none⟩∧isOwn H b3∧(∃l,rdN H b3 (f2+(i:Int).toNat*1) 1=some l)∧Lt (setC H b3 (f2+(i:Int).toNat*1) (.float .f32 x1)) fun H2=>R .normal (.slice a_a a_n a_e::ud2 (.slice (some ⟨b1,0,none⟩) (((a_n:Int)).toNat) 1::.int .i64 (IntKind.wrap .i64 (i+1))::ud17 [])) H2) (R (.exit 0) (ud3 (.slice (some ⟨b1,0,none⟩) (((a_n:Int)).toNat) 1::ud18 [])) H)):=by kernel_rfl
def zx7 (a_a:OA) (a_e a_n b1:Nat) (Inv:Nat→Int→zp→Prop):Nat→List Value→zp→Prop:=fun μ tm H=>∃i:Int,tm=(zka a_a a_e a_n b1 i)∧Inv μ i H
theorem z1ih (a_a:OA) (a_e a_n b1:Nat) {Q:Post} (Inv:Nat→Int→zp→Prop) (ν:Nat) (i:Int)  (H:zp) (h0:Inv ν i H)
  (hs:∀(μ:Nat) (i:Int)  (H:zp),Inv μ i H→exL Tryz.prog zhl (cl (cl (cr (cl (cr (cr (zq Tryz.f48))))))) 25 4 [(0,8)] (zka a_a a_e a_n b1 i) H (z1b (zx7 a_a a_e a_n b1 Inv) μ Q)):z1n (exL Tryz.prog zhl (cl (cl (cr (cl (cr (cr (zq Tryz.f48))))))) 25 4 [(0,8)]) (zka a_a a_e a_n b1 i) H Q:=
 ⟨zx7 a_a a_e a_n b1 Inv,ν,⟨i,rfl,h0⟩,fun μ tm H h=>by obtain ⟨i,rfl,hI⟩:=h;exact hs μ i  H hI⟩
theorem z1ik {a_a:OA} {a_e a_n b1:Nat} {Q:Post} {Inv:Nat→Int→zp→Prop} {μ:Nat} (μ':Nat) {i:Int}  {H:zp} (hm:μ'<μ) (hI:Inv μ' i H):z1b (zx7 a_a a_e a_n b1 Inv) μ Q .normal (zka a_a a_e a_n b1 i) H:=⟨μ',hm,i,rfl,hI⟩
theorem z13r (a_n b1:Nat) (H:zp) (K:KT)  {I:Nat→List Value→zp→Prop} {μ:Nat}:z1b I μ (z1a 0 (seqQ (exL Tryz.prog zhl (cr (cr (cr (zq Tryz.f48)))) 4 4 []) (retK Tryz.prog Tryz.f48 K))) (.exit 0) (ud3 (.slice (some ⟨b1,0,none⟩) (((a_n:Int)).toNat) 1::ud18 [])) H=
 (K (.slice (some ⟨b1,0,none⟩) (((a_n:Int)).toNat) 1) H):=by kernel_rfl
theorem zzu:∀g,FnOk Tryz.prog g (zhl g):=FnOk.envOf (by
 intro x hx;cases hx)
theorem ω25 {P:Prop} (h:P:=by have:=zn8;omega):P:=h
theorem ω18 {P:Prop} (h:P:=by first | rfl | assumption | omega | (simp;done)):P:=h
theorem ω7 {P:Prop} (h:P:=by first | omega | (simp;done) | (simp;omega)):P:=h
theorem ω0 {P:Prop} (h:P:=by first | omega | (simp only [List.length_set,List.length_replicate,List.length_append,List.length_cons,List.length_nil,List.length_take,List.length_drop,z2b];done) | (simp only [List.length_set,List.length_replicate,List.length_append,List.length_cons,List.length_nil,List.length_take,List.length_drop,z2b];omega)):P:=h
theorem ω11 {P:Prop} (h:P:=by simp only [List.length_map];(first | omega | (simp only [List.length_set,List.length_replicate,List.length_append,List.length_cons,List.length_nil,List.length_take,List.length_drop,z2b];done) | (simp only [List.length_set,List.length_replicate,List.length_append,List.length_cons,List.length_nil,List.length_take,List.length_drop,z2b];omega))):P:=h
theorem ω15 {P:Prop} (h:P:=by first | omega):P:=h
theorem ω21 {P:Prop} (h:P:=by first | assumption | omega | (simp only [List.length_set];first | rfl | assumption | omega)):P:=h
theorem ω1 {P:Prop} (h:P:=by first | omega | (simp only [List.length_append,List.length_cons,List.length_nil,List.length_set];done) | (simp only [List.length_append,List.length_cons,List.length_nil,List.length_set];omega)):P:=h
theorem ω13 {P:Prop} (h:P:=by rw [show μ-1+1=μ from by first | omega];exact e):P:=h
theorem z13q (a_a:OA) (a_n a_e:Nat) (H:zp) (K:KT) (h:zv1 a_a a_n a_e H fun (od:OA) (xd:Nat) (vd:Nat) (H':zp)=>K (.slice od xd vd) H'):zw Tryz.prog zhl Tryz.f48 [.slice a_a a_n a_e] H K:=by
 rw [z1im]
 obtain ⟨l_a,i_a,bd_29,hk⟩:=h
 have hk:(∀(od:OA) (xd vd:Nat),∀H':zp,Grow H H'→OwnS fF H' H.length od xd vd (zy4 l_a)→(fun (od:OA) (xd:Nat) (vd:Nat) (H':zp)=>K (.slice od xd vd) H') od xd vd H'):=by rw [z1ij l_a];exact hk
 obtain rfl:=i_a.eqn
 have e:(zy4 l_a)=_:=rfl
 have e:=e.trans (zpm l_a)
 have g0:=Grow.refl H
 refine ⟨by omega,rfl,ω25,?_⟩
 refine Al.intro (fun b_1 H_1 hb_2 hl_3 g_4 o_5=>?_)
 rw [zm2 fF 0 _ rfl] at o_5
 have l_7:=g_4.1
 have g_8:=g0.trans g_4
 have l_9:=g_8.1
 have w28:=o_5.lt
 refine z1ih _ _ _ _ (fun (μ:Nat) (i:Int) (H_2:zp)=>∃y1_1:LN,Own H_2 b_1 (y1_1.map fF)∧y1_1.length=((l_a.length:Int)).toNat∧Grow H H_2∧(0:Int)≤i∧i≤(l_a.length:Int)∧(l_a.length:Int)-i≤(μ:Int)∧zy4 l_a=zbr l_a (μ+1) i y1_1) (Int.toNat ((l_a.length:Int)-(0:Int))) _ H_1 ?_ ?_
 ·exact ⟨_,o_5,ω18,g_8,ω7,ω7,ω2,e⟩
 ·intro μ i  H_2 hI
  obtain ⟨y1_1,o_10,y11,g_12,v_13,v_14,hμ,e⟩:=hI
  rw [z1il]
  have e:=e.trans (zgs l_a μ i y1_1)
  have w15:=o_10.lt
  have l_16:=g_12.1
  refine Br.intro (fun c_17=>?_) (fun c_17=>?_)
  ·have e:=e.trans (zv c_17)
   have c_17':=odt c_17
   obtain ⟨b18,f_19,q_20⟩:=((i_a.grow g_12)).pos ω0
   refine ⟨by omega,by omega,b18,f_19,q_20,?_⟩
   refine ⟨((l_a).getD (i:Int).toNat 0),(i_a).rd g_12 q_20 ω2 _,?_⟩
   refine ⟨by omega,ω2,_,_,rfl,?_⟩
   refine Lt.set o_10 ω11 (fun H_3 hl_21 o23 k_22=>?_)
   have o23:=map_set o23
   have l24:=k_22.1
   have g_25:=g_12.keep (b:=b_1) ω2 k_22
   have l26:=g_25.1
   have w27:=o23.lt
   rw [show IntKind.wrap .i64 (i+1)=(i+1) from zt ω2 ω2]
   refine z1ik (μ-1) ω15 ⟨_,o23,ω21,g_25,ω1,ω1,ω15,ω13⟩
  ·have e:=e.trans (zu c_17)
   have c_17':=odf c_17
   rw [z13r]
   rw [e] at hk
   exact hk _ _ _ H_2 g_12 (o_10.ownS (by first | (simp only [List.length_replicate];done) | omega | (simp;omega)) ω2)
theorem z19n:FnOk Tryz.prog 48 S_fpz:=FnOk.bodyF mix_ok zzu Tryz.func48 rfl ω10 ω10 fun args H=>by
 unfold F_fpz
 split
 ·refine ⟨?_,?_,?_,?_,fun K hk=>z13q _ _ _ H K hk⟩
  ·intro K K' h hk;obtain ⟨l_a,i_a,bd_29,k⟩:=hk;exact ⟨l_a,i_a,bd_29,(fun od xd vd H' gg ow0=>h _ _ (k od xd vd H' gg ow0))⟩
  ·nofun
  ·intro K hk;obtain ⟨l_a,i_a,bd_29,k⟩:=hk;exact z4i fun a n e H1 g o=>⟨_,_,k a n e H1 g o⟩
  ·intro _ K hk;obtain ⟨l_a,i_a,bd_29,k⟩:=hk;exact ⟨l_a,i_a,bd_29,(fun od xd vd H' gg ow0=>⟨gg,k od xd vd H' gg ow0⟩)⟩
 ·exact Nice.no

def zl3 (sb:LN) (ie:Nat):LN×Nat:=(sb,ie)
def zy0:=@zl3.eq_1
def zdd (ec:OA) (zc bd ie:Nat) (H:zp) (K:OA→Nat→Nat→Nat→zp→Prop):Prop:=∃sb:LN,IsL fF H ec zc sb∧sb.length<1073741824∧((∀(ig:OA) (kg jg:Nat),∀H':zp,Grow H H'→OwnS fF H' H.length ig kg jg sb→K ig kg jg ie H'))
theorem zcy {ec:OA} {zc bd ie:Nat} {H:zp} {K:OA→Nat→Nat→Nat→zp→Prop} (h:∃sb:LN,IsL fF H ec zc sb∧sb.length<1073741824∧((∀(ig:OA) (kg jg:Nat),∀H':zp,Grow H H'→OwnS fF H' H.length ig kg jg sb→K ig kg jg ie H'))):zdd ec zc bd ie H K:=h
theorem z1c2 (l:LN) (sc:Nat):zl3 l sc=(l,sc):=rfl
def zt2:Env:=envOf [(48,S_fpz)]
def z16t (args:List Value) (H:zp):(Value→zp→Prop)→Prop:=match args with
 | [.agg ⟨[.slice ec zc bd,.float .f32 ie]⟩]=>fun K=>zdd ec zc bd ie H fun (ig:OA) (kg:Nat) (jg:Nat) (pj:Nat) (H':zp)=>K (.agg #[.slice ig kg jg,.float .f32 pj]) H'
 | _=>fun _=>False
def z18f:FSpec:={F:=z16t,quiet:=false,tame:=true}
theorem z1c4 (ec:OA) (zc bd ie:Nat) (H:zp) (K:KT):zw Tryz.prog zt2 Tryz.f12 [.agg #[.slice ec zc bd,.float .f32 ie]] H K=
 (Al [.slice ec zc bd,.float .f32 ie] H fun b1 H1=>Al [.slice none 0 0,.float .f32 0] H1 fun b2 H2=>Al [.slice none 0 0,.float .f32 0] H2 fun b3 H3=>∃og:OA,∃(eg qg:Nat),  rdC H3 b1 0=some (.slice og eg qg)∧zv1 og eg qg H3 fun (a1:OA) (r1:Nat) (r2:Nat) (H4:zp)=>isOwn H4 b3∧(∃l,rdN H4 b3 0 1=some l)∧Lt (setC H4 b3 0 (.slice a1 r1 r2)) fun H5=>∃x2:Nat,  rdC H5 b1 1=some (.float .f32 x2)∧isOwn H5 b3∧(∃l,rdN H5 b3 1 1=some l)∧Lt (setC H5 b3 1 (.float .f32 x2)) fun H6=>∃ni:OA,∃(qi oi c2:Nat),  rdN H6 b3 0 2=some [.slice ni qi oi,.float .f32 c2]∧isOwn H6 b2∧(∃l,rdN H6 b2 0 2=some l)∧Lt (setN H6 b2 0 [.slice ni qi oi,.float .f32 c2]) fun H7=>∃vg:OA,∃(xg wg c4:Nat),  rdN H7 b2 0 2=some [.slice vg xg wg,.float .f32 c4]∧K (.agg #[.slice vg xg wg,.float .f32 c4]) H7):=by kernel_rfl
theorem zt3:∀g,FnOk Tryz.prog g (zt2 g):=FnOk.envOf (by
 intro x hx
 simp only [List.mem_cons,List.not_mem_nil,or_false] at hx
 subst hx;exact z19n)
theorem zvu (ec:OA) (zc bd ie:Nat) (H:zp) (K:KT) (h:zdd ec zc bd ie H fun (ig:OA) (kg:Nat) (jg:Nat) (pj:Nat) (H':zp)=>K (.agg #[.slice ig kg jg,.float .f32 pj]) H'):zw Tryz.prog zt2 Tryz.f12 [.agg #[.slice ec zc bd,.float .f32 ie]] H K:=by
 rw [z1c4]
 obtain ⟨sb,af,bd_90,hk⟩:=h
 have hk:(∀(ig:OA) (kg jg:Nat),∀H':zp,Grow H H'→OwnS fF H' H.length ig kg jg ((zl3 sb ie).1)→(fun (ig:OA) (kg:Nat) (jg:Nat) (pj:Nat) (H':zp)=>K (.agg #[.slice ig kg jg,.float .f32 pj]) H') ig kg jg ((zl3 sb ie).2) H'):=by rw [z1c2 sb ie];exact hk
 obtain rfl:=af.eqn
 have e:(zl3 sb ie)=_:=rfl
 have e:=e.trans (zy0 sb ie)
 have g0:=Grow.refl H
 refine Al.intro (fun b_1 H_1 hb_2 hl_3 g_4 o_5=>?_)
 have l_7:=g_4.1
 have g_8:=g0.trans g_4
 have l_9:=g_8.1
 have w89:=o_5.lt
 refine Al.intro (fun b_10 H_2 hb_11 hl_12 g_13 o_14=>?_)
 have l_16:=g_13.1
 have g_17:=g_8.trans g_13
 have l_18:=g_17.1
 have o_19:=o_5.grow g_13
 have w20:=o_19.lt
 have w88:=o_14.lt
 refine Al.intro (fun b_21 H_3 hb_22 hl_23 g24 o25=>?_)
 have l27:=g24.1
 have g28:=g_17.trans g24
 have l29:=g28.1
 have o30:=o_19.grow g24
 have w31:=o30.lt
 have o32:=o_14.grow g24
 have w33:=o32.lt
 have w87:=o25.lt
 refine ⟨ec,sb.length,bd,(o30.rdC _).trans rfl,?_⟩
 refine zv2 ⟨_,(af.grow g28),ω0,fun a34 n35 e36 H_4 g38 r_37=>?_⟩
 have l39:=g38.1
 have g40:=g28.trans g38
 have l41:=g40.1
 have o42:=o30.grow g38
 have w43:=o42.lt
 have o44:=o32.grow g38
 have w45:=o44.lt
 have o46:=o25.grow g38
 have w47:=o46.lt
 obtain rfl:=r_37.isL.eqn
 have u48:=r_37.up
 have u49:=r_37.lo
 refine Lt.set o46 (nbl rfl) (fun H_5 hl_51 o53 k52=>?_)
 have o53:Own H_5 b_21 [.slice a34 ((sb).length) e36,.float .f32 0]:=o53
 have l54:=k52.1
 have g55:=g40.keep (b:=b_21) ω2 k52
 have l56:=g55.1
 have o57:=o42.keep ω2 k52
 have w58:=o57.lt
 have o59:=o44.keep ω2 k52
 have w60:=o59.lt
 have r61:=r_37.keep u48 ω2 k52
 have w86:=o53.lt
 refine ⟨ie,(o57.rdC _).trans rfl,?_⟩
 refine Lt.set o53 (nbl rfl) (fun H_6 hl_62 o64 k63=>?_)
 have o64:Own H_6 b_21 [.slice a34 ((sb).length) e36,.float .f32 ie]:=o64
 have l65:=k63.1
 have g66:=g55.keep (b:=b_21) ω2 k63
 have l67:=g66.1
 have o68:=o57.keep ω2 k63
 have w69:=o68.lt
 have o70:=o59.keep ω2 k63
 have w71:=o70.lt
 have r72:=r61.keep u48 ω2 k63
 have w85:=o64.lt
 refine ⟨a34,(sb).length,e36,ie,(o64.rdN (nbl rfl)).trans rfl,?_⟩
 refine Lt.setN (n:=2) o70 (nbl rfl) rfl (fun H_7 hl_73 o75 k74=>?_)
 have o75:Own H_7 b_10 [.slice a34 ((sb).length) e36,.float .f32 ie]:=o75
 have l76:=k74.1
 have g77:=g66.keep (b:=b_10) ω2 k74
 have l78:=g77.1
 have o79:=o68.keep ω2 k74
 have w80:=o79.lt
 have o81:=o64.keep ω2 k74
 have w82:=o81.lt
 have r83:=r72.keep u48 ω2 k74
 have w84:=o75.lt
 refine ⟨a34,(sb).length,e36,ie,(o75.rdN (nbl rfl)).trans rfl,?_⟩
 rw [e] at hk
 exact hk _ _ _ H_7 g77 (r83.weak ω2)
theorem z1c3:FnOk Tryz.prog 12 z18f:=FnOk.bodyF mix_ok zt3 Tryz.func12 rfl ω10 ω10 fun args H=>by
 unfold z16t
 split
 ·refine ⟨?_,?_,?_,?_,fun K hk=>zvu _ _ _ _ H K hk⟩
  ·intro K K' h hk;obtain ⟨sb,af,bd_90,k⟩:=hk;exact ⟨sb,af,bd_90,(fun ig kg jg H' gg ow0=>h _ _ (k ig kg jg H' gg ow0))⟩
  ·nofun
  ·intro K hk;obtain ⟨sb,af,bd_90,k⟩:=hk;exact z4i fun a n e H1 g o=>⟨_,_,k a n e H1 g o⟩
  ·intro _ K hk;obtain ⟨sb,af,bd_90,k⟩:=hk;exact ⟨sb,af,bd_90,(fun ig kg jg H' gg ow0=>⟨gg,k ig kg jg H' gg ow0⟩)⟩
 ·exact Nice.no

def zre (je me:Int) (pb:LN):Int×Int×LN:=(je,me,pb)
def z15d:=@zre.eq_1
def zm9 (je me:Int) (bc:OA) (mc uc:Nat) (H:zp) (K:Int→Int→OA→Nat→Nat→zp→Prop):Prop:=∃pb:LN,IsL fF H bc mc pb∧pb.length<1073741824∧((∀(ma:OA) (sa oa:Nat),∀H':zp,Grow H H'→OwnS fF H' H.length ma sa oa pb→K je me ma sa oa H'))
theorem zhq {je me:Int} {bc:OA} {mc uc:Nat} {H:zp} {K:Int→Int→OA→Nat→Nat→zp→Prop} (h:∃pb:LN,IsL fF H bc mc pb∧pb.length<1073741824∧((∀(ma:OA) (sa oa:Nat),∀H':zp,Grow H H'→OwnS fF H' H.length ma sa oa pb→K je me ma sa oa H'))):zm9 je me bc mc uc H K:=h
theorem z1ja (a b:Int) (l:LN):zre a b l=(a,b,l):=rfl
def E_fyz:Env:=envOf [(48,S_fpz)]
def F_fyz (args:List Value) (H:zp):(Value→zp→Prop)→Prop:=match args with
 | [.agg ⟨[.int .i64 je,.int .i64 me,.slice bc mc uc]⟩]=>fun K=>zm9 je me bc mc uc H fun (tc:Int) (nc:Int) (ma:OA) (sa:Nat) (oa:Nat) (H':zp)=>K (.agg #[.int .i64 tc,.int .i64 nc,.slice ma sa oa]) H'
 | _=>fun _=>False
def S_fyz:FSpec:={F:=F_fyz,quiet:=false,tame:=true}
theorem z1jc (je me:Int) (bc:OA) (mc uc:Nat) (H:zp) (K:KT):zw Tryz.prog E_fyz Tryz.f13 [.agg #[.int .i64 je,.int .i64 me,.slice bc mc uc]] H K=
 (Al [.int .i64 je,.int .i64 me,.slice bc mc uc] H fun b1 H1=>Al [.int .i64 0,.int .i64 0,.slice none 0 0] H1 fun b2 H2=>Al [.int .i64 0,.int .i64 0,.slice none 0 0] H2 fun b3 H3=>∃x1:Int,  rdC H3 b1 0=some (.int .i64 x1)∧isOwn H3 b3∧(∃l,rdN H3 b3 0 1=some l)∧Lt (setC H3 b3 0 (.int .i64 x1)) fun H4=>∃x2:Int,  rdC H4 b1 1=some (.int .i64 x2)∧isOwn H4 b3∧(∃l,rdN H4 b3 1 1=some l)∧Lt (setC H4 b3 1 (.int .i64 x2)) fun H5=>∃sj:OA,∃(qj yj:Nat),  rdC H5 b1 2=some (.slice sj qj yj)∧zv1 sj qj yj H5 fun (a1:OA) (r1:Nat) (r2:Nat) (H6:zp)=>isOwn H6 b3∧(∃l,rdN H6 b3 2 1=some l)∧Lt (setC H6 b3 2 (.slice a1 r1 r2)) fun H7=>∃(c1 c2:Int),∃vg:OA,∃(xg wg:Nat),  rdN H7 b3 0 3=some [.int .i64 c1,.int .i64 c2,.slice vg xg wg]∧isOwn H7 b2∧(∃l,rdN H7 b2 0 3=some l)∧Lt (setN H7 b2 0 [.int .i64 c1,.int .i64 c2,.slice vg xg wg]) fun H8=>∃(c4 c5:Int),∃eh:OA,∃(gh fh:Nat),  rdN H8 b2 0 3=some [.int .i64 c4,.int .i64 c5,.slice eh gh fh]∧K (.agg #[.int .i64 c4,.int .i64 c5,.slice eh gh fh]) H8):=by kernel_rfl
theorem z10c:∀g,FnOk Tryz.prog g (E_fyz g):=FnOk.envOf (by
 intro x hx
 simp only [List.mem_cons,List.not_mem_nil,or_false] at hx
 subst hx;exact z19n)
theorem z14g (je me:Int) (bc:OA) (mc uc:Nat) (H:zp) (K:KT) (h:zm9 je me bc mc uc H fun (tc:Int) (nc:Int) (ma:OA) (sa:Nat) (oa:Nat) (H':zp)=>K (.agg #[.int .i64 tc,.int .i64 nc,.slice ma sa oa]) H'):zw Tryz.prog E_fyz Tryz.f13 [.agg #[.int .i64 je,.int .i64 me,.slice bc mc uc]] H K:=by
 rw [z1jc]
 obtain ⟨pb,ve,bd_100,hk⟩:=h
 have hk:(∀(ma:OA) (sa oa:Nat),∀H':zp,Grow H H'→OwnS fF H' H.length ma sa oa ((zre je me pb).2.2)→(fun (tc:Int) (nc:Int) (ma:OA) (sa:Nat) (oa:Nat) (H':zp)=>K (.agg #[.int .i64 tc,.int .i64 nc,.slice ma sa oa]) H') ((zre je me pb).1) ((zre je me pb).2.1) ma sa oa H'):=by rw [z1ja je me pb];exact hk
 obtain rfl:=ve.eqn
 have e:(zre je me pb)=_:=rfl
 have e:=e.trans (z15d je me pb)
 have g0:=Grow.refl H
 refine Al.intro (fun b_1 H_1 hb_2 hl_3 g_4 o_5=>?_)
 have l_7:=g_4.1
 have g_8:=g0.trans g_4
 have l_9:=g_8.1
 have w99:=o_5.lt
 refine Al.intro (fun b_10 H_2 hb_11 hl_12 g_13 o_14=>?_)
 have l_16:=g_13.1
 have g_17:=g_8.trans g_13
 have l_18:=g_17.1
 have o_19:=o_5.grow g_13
 have w20:=o_19.lt
 have w98:=o_14.lt
 refine Al.intro (fun b_21 H_3 hb_22 hl_23 g24 o25=>?_)
 have l27:=g24.1
 have g28:=g_17.trans g24
 have l29:=g28.1
 have o30:=o_19.grow g24
 have w31:=o30.lt
 have o32:=o_14.grow g24
 have w33:=o32.lt
 have w97:=o25.lt
 refine ⟨je,(o30.rdC _).trans rfl,?_⟩
 refine Lt.set o25 (nbl rfl) (fun H_4 hl_34 o36 k35=>?_)
 have o36:Own H_4 b_21 [.int .i64 je,.int .i64 0,.slice none 0 0]:=o36
 have l37:=k35.1
 have g38:=g28.keep (b:=b_21) ω2 k35
 have l39:=g38.1
 have o40:=o30.keep ω2 k35
 have w41:=o40.lt
 have o42:=o32.keep ω2 k35
 have w43:=o42.lt
 have w96:=o36.lt
 refine ⟨me,(o40.rdC _).trans rfl,?_⟩
 refine Lt.set o36 (nbl rfl) (fun H_5 hl_44 o46 k45=>?_)
 have o46:Own H_5 b_21 [.int .i64 je,.int .i64 me,.slice none 0 0]:=o46
 have l47:=k45.1
 have g_48:=g38.keep (b:=b_21) ω2 k45
 have l49:=g_48.1
 have o50:=o40.keep ω2 k45
 have w51:=o50.lt
 have o52:=o42.keep ω2 k45
 have w53:=o52.lt
 have w95:=o46.lt
 refine ⟨bc,pb.length,uc,(o50.rdC _).trans rfl,?_⟩
 refine zv2 ⟨_,(ve.grow g_48),ω0,fun a54 n55 e56 H_6 g58 r57=>?_⟩
 have l59:=g58.1
 have g60:=g_48.trans g58
 have l61:=g60.1
 have o62:=o50.grow g58
 have w63:=o62.lt
 have o64:=o52.grow g58
 have w65:=o64.lt
 have o66:=o46.grow g58
 have w67:=o66.lt
 obtain rfl:=r57.isL.eqn
 have u68:=r57.up
 have u69:=r57.lo
 refine Lt.set o66 (nbl rfl) (fun H_7 hl_71 o73 k72=>?_)
 have o73:Own H_7 b_21 [.int .i64 je,.int .i64 me,.slice a54 ((pb).length) e56]:=o73
 have l74:=k72.1
 have g75:=g60.keep (b:=b_21) ω2 k72
 have l76:=g75.1
 have o77:=o62.keep ω2 k72
 have w78:=o77.lt
 have o79:=o64.keep ω2 k72
 have w80:=o79.lt
 have r81:=r57.keep u68 ω2 k72
 have w94:=o73.lt
 refine ⟨je,me,a54,(pb).length,e56,(o73.rdN (nbl rfl)).trans rfl,?_⟩
 refine Lt.setN (n:=3) o79 (nbl rfl) rfl (fun H_8 hl_82 o84 k83=>?_)
 have o84:Own H_8 b_10 [.int .i64 je,.int .i64 me,.slice a54 ((pb).length) e56]:=o84
 have l85:=k83.1
 have g86:=g75.keep (b:=b_10) ω2 k83
 have l87:=g86.1
 have o88:=o77.keep ω2 k83
 have w89:=o88.lt
 have o90:=o73.keep ω2 k83
 have w91:=o90.lt
 have r92:=r81.keep u68 ω2 k83
 have w93:=o84.lt
 refine ⟨je,me,a54,(pb).length,e56,(o84.rdN (nbl rfl)).trans rfl,?_⟩
 rw [e] at hk
 exact hk _ _ _ H_8 g86 (r92.weak ω2)
theorem z1jb:FnOk Tryz.prog 13 S_fyz:=FnOk.bodyF mix_ok z10c Tryz.func13 rfl ω10 ω10 fun args H=>by
 unfold F_fyz
 split
 ·refine ⟨?_,?_,?_,?_,fun K hk=>z14g _ _ _ _ _ H K hk⟩
  ·intro K K' h hk;obtain ⟨pb,ve,bd_100,k⟩:=hk;exact ⟨pb,ve,bd_100,(fun ma sa oa H' gg ow0=>h _ _ (k ma sa oa H' gg ow0))⟩
  ·nofun
  ·intro K hk;obtain ⟨pb,ve,bd_100,k⟩:=hk;exact z4i fun a n e H1 g o=>⟨_,_,k a n e H1 g o⟩
  ·intro _ K hk;obtain ⟨pb,ve,bd_100,k⟩:=hk;exact ⟨pb,ve,bd_100,(fun ma sa oa H' gg ow0=>⟨gg,k ma sa oa H' gg ow0⟩)⟩
 ·exact Nice.no
def zrf (x:Nat):Bool:=feq .f32 (fsub .f32 x x) 0
def zma (x:Nat) (H:zp) (K:Bool→zp→Prop):Prop:=K (zrf x) H

theorem z1bk {x:Nat} {H:zp} {K:Bool→zp→Prop} (h:K (zrf x) H):zma x H K:=h
def E_fzz:Env:=envOf []
def F_fzz (args:List Value) (H:zp):(Value→zp→Prop)→Prop:=match args with
 | [.float .f32 x]=>fun K=>zma x H fun (r1:Bool) (H':zp)=>K (.bool r1) H'
 | _=>fun _=>False
def S_fzz:FSpec:={F:=F_fzz,quiet:=true,tame:=false}
theorem z1jd (x:Nat) (H:zp) (K:KT):zw Tryz.prog E_fzz Tryz.f122 [.float .f32 x] H K=
 (K (.bool (feq .f32 (fsub .f32 x x) 0)) H):=by kernel_rfl
theorem z10d:∀g,FnOk Tryz.prog g (E_fzz g):=FnOk.envOf (by
 intro x hx;cases hx)
theorem z14h (x:Nat) (H:zp) (K:KT) (h:zma x H fun (r1:Bool) (H':zp)=>K (.bool r1) H'):zw Tryz.prog E_fzz Tryz.f122 [.float .f32 x] H K:=by
 rw [z1jd]
 unfold zma zrf at h
 repeat' (first | exact h | (exfalso;simp_all;done) | (refine ⟨by decide,?_⟩) | (refine Br.intro (fun hb=>?_) (fun hb=>?_)<;>(try simp only [hb,cond_true,cond_false,Bool.not_true,Bool.not_false] at h)))
theorem z19r:FnOk Tryz.prog 122 S_fzz:=FnOk.bodyF mix_ok z10d Tryz.func122 rfl ω10 ω10 fun args H=>by
 unfold F_fzz
 split
 ·refine ⟨?_,?_,?_,?_,fun K hk=>z14h _ H K hk⟩
  ·intro K K' h hk;have k:=hk;exact h _ _ k
  ·intro _ K hk;have k:=hk;exact ⟨_,k,fun K' k'=>k'⟩
  ·intro K hk;have k:=hk;exact ⟨_,_,k⟩
  ·nofun
 ·exact Nice.no

def z9b (ab:LN):Nat→Bool→Int→Bool
 | 0,_,_=>false
 | μ+1,t2,i=>(bif decide ((i:Int)<(ab.length:Int)) then (bif !((zrf (((ab).getD (i:Int).toNat 0)))) then false else (z9b ab μ t2 (i+1))) else true)
def ze9:=fun ab μ t2 i=>@z9b.eq_2 ab t2 i μ
def z1v (ab:LN):Bool:=(z9b ab (Int.toNat ((ab.length:Int)-(0:Int))+1) false (0:Int))
def zkv:=@z1v.eq_1
def zcg (zb:OA) (vb jc:Nat) (H:zp) (K:Bool→zp→Prop):Prop:=∃ab:LN,IsL fF H zb vb ab∧ab.length<1073741824∧K (z1v ab) H
theorem zaz {zb:OA} {vb jc:Nat} {H:zp} {K:Bool→zp→Prop} (h:∃ab:LN,IsL fF H zb vb ab∧ab.length<1073741824∧K (z1v ab) H):zcg zb vb jc H K:=h

def za4:Env:=envOf [(122,S_fzz)]
def z16g (args:List Value) (H:zp):(Value→zp→Prop)→Prop:=match args with
 | [.slice zb vb jc]=>fun K=>zcg zb vb jc H fun (r1:Bool) (H':zp)=>K (.bool r1) H'
 | _=>fun _=>False
def zj0:FSpec:={F:=z16g,quiet:=true,tame:=false}
theorem f11z_vc (zb:OA) (vb jc:Nat) (H:zp) (K:KT):zw Tryz.prog za4 Tryz.f124 [.slice zb vb jc] H K=
 (z1n (exL Tryz.prog za4 (cl (cl (cr (cl (cr (zq Tryz.f124)))))) 9 4 [(0,0)]) (.slice zb vb jc::ud2 (.int .i64 0::ud12 [])) H (z1a 0 (seqQ (exL Tryz.prog za4 (cr (cr (zq Tryz.f124))) 4 4 []) (retK Tryz.prog Tryz.f124 K)))):=by kernel_rfl
abbrev f11z_P1 (zb:OA) (jc vb:Nat) (i:Int)  :List Value:=(.slice zb vb jc::ud2 (.int .i64 i::ud12 []))
theorem f11z_r1 (zb:OA) (jc vb:Nat) (i:Int)  (H:zp) (R:Post):exL Tryz.prog za4 (cl (cl (cr (cl (cr (zq Tryz.f124)))))) 9 4 [(0,0)] (f11z_P1 zb jc vb i) H R=
 (Br (decide ((i:Int)<(vb:Int))) ((0:Int)≤i∧i<(vb:Int)∧∃b1 f1,(zb:OA)=some ⟨b1,f1,none⟩∧∃x1:Nat,  rdC H b1 (f1+(i:Int).toNat*1)=some (.float .f32 x1)∧zma x1 H fun (r1:Bool) (H1:zp)=>Br (!r1) (R .ret (ud2 (.bool false::ud13 [])) H1) (R .normal (.slice zb vb jc::ud2 (.int .i64 (IntKind.wrap .i64 (i+1))::ud12 [])) H1)) (R (.exit 0) (ud16 []) H)):=by kernel_rfl
def f11z_I1 (zb:OA) (jc vb:Nat) (Inv:Nat→Int→zp→Prop):Nat→List Value→zp→Prop:=fun μ tm H=>∃i:Int,tm=(f11z_P1 zb jc vb i)∧Inv μ i H
theorem f11z_L1 (zb:OA) (jc vb:Nat) {Q:Post} (Inv:Nat→Int→zp→Prop) (ν:Nat) (i:Int)  (H:zp) (h0:Inv ν i H)
  (hs:∀(μ:Nat) (i:Int)  (H:zp),Inv μ i H→exL Tryz.prog za4 (cl (cl (cr (cl (cr (zq Tryz.f124)))))) 9 4 [(0,0)] (f11z_P1 zb jc vb i) H (z1b (f11z_I1 zb jc vb Inv) μ Q)):z1n (exL Tryz.prog za4 (cl (cl (cr (cl (cr (zq Tryz.f124)))))) 9 4 [(0,0)]) (f11z_P1 zb jc vb i) H Q:=
 ⟨f11z_I1 zb jc vb Inv,ν,⟨i,rfl,h0⟩,fun μ tm H h=>by obtain ⟨i,rfl,hI⟩:=h;exact hs μ i  H hI⟩
theorem f11z_n1 {zb:OA} {jc vb:Nat} {Q:Post} {Inv:Nat→Int→zp→Prop} {μ:Nat} (μ':Nat) {i:Int}  {H:zp} (hm:μ'<μ) (hI:Inv μ' i H):z1b (f11z_I1 zb jc vb Inv) μ Q .normal (f11z_P1 zb jc vb i) H:=⟨μ',hm,i,rfl,hI⟩
theorem f11z_x1_0  (H:zp) (K:KT)  {I:Nat→List Value→zp→Prop} {μ:Nat}:z1b I μ (z1a 0 (seqQ (exL Tryz.prog za4 (cr (cr (zq Tryz.f124))) 4 4 []) (retK Tryz.prog Tryz.f124 K))) (.exit 0) (ud16 []) H=
 (K (.bool true) H):=by kernel_rfl
theorem f11z_x1_ret (t2:Bool) (H:zp) (K:KT)  {I:Nat→List Value→zp→Prop} {μ:Nat}:z1b I μ (z1a 0 (seqQ (exL Tryz.prog za4 (cr (cr (zq Tryz.f124))) 4 4 []) (retK Tryz.prog Tryz.f124 K))) .ret (ud2 (.bool t2::ud13 [])) H=
 (K (.bool t2) H):=by kernel_rfl
theorem zsg:∀g,FnOk Tryz.prog g (za4 g):=FnOk.envOf (by
 intro x hx
 simp only [List.mem_cons,List.not_mem_nil,or_false] at hx
 subst hx;exact z19r)
theorem f11z_main (zb:OA) (vb jc:Nat) (H:zp) (K:KT) (h:zcg zb vb jc H fun (r1:Bool) (H':zp)=>K (.bool r1) H'):zw Tryz.prog za4 Tryz.f124 [.slice zb vb jc] H K:=by
 rw [f11z_vc]
 obtain ⟨ab,i_list,bd_9,hk⟩:=h
 obtain rfl:=i_list.eqn
 have e:(z1v ab)=_:=rfl
 have e:=e.trans (zkv ab)
 have g0:=Grow.refl H
 refine f11z_L1 _ _ _ (fun (μ:Nat) (i:Int) (H_1:zp)=>∃t2:Bool,H=H_1∧(0:Int)≤i∧i≤(ab.length:Int)∧(ab.length:Int)-i≤(μ:Int)∧z1v ab=z9b ab (μ+1) t2 i) (Int.toNat ((ab.length:Int)-(0:Int))) _ H ?_ ?_
 ·exact ⟨_,rfl,ω7,ω7,ω2,e⟩
 ·intro μ i  H_1 hI
  obtain ⟨t2,rfl,v_1,v_2,hμ,e⟩:=hI
  rw [f11z_r1]
  have e:=e.trans (ze9 ab μ t2 i)
  have l_3:=g0.1
  refine Br.intro (fun c_4=>?_) (fun c_4=>?_)
  ·have e:=e.trans (zv c_4)
   have c_4':=odt c_4
   obtain ⟨b_5,f_6,q_7⟩:=((i_list.grow g0)).pos ω0
   refine ⟨by omega,by omega,b_5,f_6,q_7,?_⟩
   refine ⟨((ab).getD (i:Int).toNat 0),(i_list).rd g0 q_7 ω2 _,?_⟩
   refine z1bk ?_
   refine Br.intro (fun c_8=>?_) (fun c_8=>?_)
   ·have e:=e.trans (zv c_8)
    have c_8n:=z1g c_8
    rw [f11z_x1_ret]
    rw [e] at hk
    exact hk
   ·have e:=e.trans (zu c_8)
    have c_8n:=z1d c_8
    rw [show IntKind.wrap .i64 (i+1)=(i+1) from zt ω2 ω2]
    refine f11z_n1 (μ-1) ω15 ⟨_,rfl,ω1,ω1,ω15,ω13⟩
  ·have e:=e.trans (zu c_4)
   have c_4':=odf c_4
   rw [f11z_x1_0]
   rw [e] at hk
   exact hk
theorem f11z_ok:FnOk Tryz.prog 124 zj0:=FnOk.bodyF mix_ok zsg Tryz.func124 rfl ω10 ω10 fun args H=>by
 unfold z16g
 split
 ·refine ⟨?_,?_,?_,?_,fun K hk=>f11z_main _ _ _ H K hk⟩
  ·intro K K' h hk;obtain ⟨ab,i_list,bd_9,k⟩:=hk;exact ⟨ab,i_list,bd_9,h _ _ k⟩
  ·intro _ K hk;obtain ⟨ab,i_list,bd_9,k⟩:=hk;exact ⟨_,k,fun K' k'=>⟨ab,i_list,bd_9,k'⟩⟩
  ·intro K hk;obtain ⟨ab,i_list,bd_9,k⟩:=hk;exact ⟨_,_,k⟩
  ·nofun
 ·exact Nice.no
def zl4 (x:Nat):Bool:=(bif (zrf x) then flt .f32 0 x else false)
def zj6 (x:Nat) (H:zp) (K:Bool→zp→Prop):Prop:=K (zl4 x) H

theorem z10r {x:Nat} {H:zp} {K:Bool→zp→Prop} (h:K (zl4 x) H):zj6 x H K:=h
def zt4:Env:=envOf [(122,S_fzz)]
def z16u (args:List Value) (H:zp):(Value→zp→Prop)→Prop:=match args with
 | [.float .f32 x]=>fun K=>zj6 x H fun (r1:Bool) (H':zp)=>K (.bool r1) H'
 | _=>fun _=>False
def z18g:FSpec:={F:=z16u,quiet:=true,tame:=false}
theorem z1c6 (x:Nat) (H:zp) (K:KT):zw Tryz.prog zt4 Tryz.f87 [.float .f32 x] H K=
 (zma x H fun (r1:Bool) (H1:zp)=>Br r1 (K (.bool (flt .f32 0 x)) H1) (K (.bool false) H1)):=by kernel_rfl
theorem zt5:∀g,FnOk Tryz.prog g (zt4 g):=FnOk.envOf (by
 intro x hx
 simp only [List.mem_cons,List.not_mem_nil,or_false] at hx
 subst hx;exact z19r)
theorem zvv (x:Nat) (H:zp) (K:KT) (h:zj6 x H fun (r1:Bool) (H':zp)=>K (.bool r1) H'):zw Tryz.prog zt4 Tryz.f87 [.float .f32 x] H K:=by
 rw [z1c6]
 simp only [zma]
 unfold zj6 zl4 at h
 repeat' (first | exact h | (exfalso;simp_all;done) | (refine ⟨by decide,?_⟩) | (refine Br.intro (fun hb=>?_) (fun hb=>?_)<;>(try simp only [hb,cond_true,cond_false,Bool.not_true,Bool.not_false] at h)))
theorem z1c5:FnOk Tryz.prog 87 z18g:=FnOk.bodyF mix_ok zt5 Tryz.func87 rfl ω10 ω10 fun args H=>by
 unfold z16u
 split
 ·refine ⟨?_,?_,?_,?_,fun K hk=>zvv _ H K hk⟩
  ·intro K K' h hk;have k:=hk;exact h _ _ k
  ·intro _ K hk;have k:=hk;exact ⟨_,k,fun K' k'=>k'⟩
  ·intro K hk;have k:=hk;exact ⟨_,_,k⟩
  ·nofun
 ·exact Nice.no

def zcm (aa:LN) (xa:Nat):Bool:=(bif decide ((1:Int)≤(aa.length:Int)) then (bif decide (((aa.length:Int):Int)≤8) then (bif (z1v aa) then (zl4 xa) else false) else false) else false)
def zea:=@zcm.eq_1
def znr (s:Nat) (H:zp) (K:Bool→zp→Prop):Prop:=∃jb:OA,∃(qb tb xa:Nat),∃aa:LN,rdN H s 0 2=some [.slice jb qb tb,.float .f32 xa]∧IsL fF H jb qb aa∧aa.length<1073741824∧K (zcm aa xa) H
theorem z10i {s:Nat} {H:zp} {K:Bool→zp→Prop} (h:∃jb:OA,∃(qb tb xa:Nat),∃aa:LN,rdN H s 0 2=some [.slice jb qb tb,.float .f32 xa]∧IsL fF H jb qb aa∧aa.length<1073741824∧K (zcm aa xa) H):znr s H K:=h

def zsh:Env:=envOf [(124,zj0),(87,z18g)]
def z16h (args:List Value) (H:zp):(Value→zp→Prop)→Prop:=match args with
 | [.pointer (some ⟨s,0,none⟩)]=>fun K=>znr s H fun (r1:Bool) (H':zp)=>K (.bool r1) H'
 | _=>fun _=>False
def z17w:FSpec:={F:=z16h,quiet:=true,tame:=false}
theorem f12z_vc (s:Nat) (H:zp) (K:KT):zw Tryz.prog zsh Tryz.f94 [.pointer (some ⟨s,0,none⟩)] H K=
 (∃og:OA,∃(eg qg:Nat),  rdC H s 0=some (.slice og eg qg)∧Br (decide ((1:Int)≤(eg:Int))) (∃qk:OA,∃(pk sk:Nat),  rdC H s 0=some (.slice qk pk sk)∧Br (decide (((pk:Int):Int)≤8)) (∃sj:OA,∃(qj yj:Nat),  rdC H s 0=some (.slice sj qj yj)∧zcg sj qj yj H fun (r1:Bool) (H1:zp)=>Br r1 (∃x4:Nat,  rdC H1 s 1=some (.float .f32 x4)∧zj6 x4 H1 fun (r2:Bool) (H2:zp)=>K (.bool r2) H2) (K (.bool false) H1)) (K (.bool false) H)) (K (.bool false) H)):=by kernel_rfl
theorem zsi:∀g,FnOk Tryz.prog g (zsh g):=FnOk.envOf (by
 intro x hx
 simp only [List.mem_cons,List.not_mem_nil,or_false] at hx
 rcases hx with rfl | rfl
 ·exact f11z_ok
 ·exact z1c5)
theorem f12z_main (s:Nat) (H:zp) (K:KT) (h:znr s H fun (r1:Bool) (H':zp)=>K (.bool r1) H'):zw Tryz.prog zsh Tryz.f94 [.pointer (some ⟨s,0,none⟩)] H K:=by
 rw [f12z_vc]
 obtain ⟨jb,qb,tb,xa,aa,i_s,dc,bd_4,hk⟩:=h
 obtain rfl:=dc.eqn
 have e:(zcm aa xa)=_:=rfl
 have e:=e.trans (zea aa xa)
 have g0:=Grow.refl H
 refine ⟨jb,aa.length,tb,(z1l (zr g0 i_s) 0 (nbl rfl)).trans rfl,?_⟩
 refine Br.intro (fun c_1=>?_) (fun c_1=>?_)
 ·have e:=e.trans (zv c_1)
  have c_1':=odt c_1
  refine ⟨jb,aa.length,tb,(z1l (zr g0 i_s) 0 (nbl rfl)).trans rfl,?_⟩
  refine Br.intro (fun c_2=>?_) (fun c_2=>?_)
  ·have e:=e.trans (zv c_2)
   have c_2':=odt c_2
   refine ⟨jb,aa.length,tb,(z1l (zr g0 i_s) 0 (nbl rfl)).trans rfl,?_⟩
   refine zaz ⟨_,(dc.grow g0),ω0,?_⟩
   refine Br.intro (fun c_3=>?_) (fun c_3=>?_)
   ·have e:=e.trans (zv c_3)
    refine ⟨xa,(z1l (zr g0 i_s) 1 (nbl rfl)).trans rfl,?_⟩
    refine z10r ?_
    rw [e] at hk
    exact hk
   ·have e:=e.trans (zu c_3)
    rw [e] at hk
    exact hk
  ·have e:=e.trans (zu c_2)
   have c_2':=odf c_2
   rw [e] at hk
   exact hk
 ·have e:=e.trans (zu c_1)
  have c_1':=odf c_1
  rw [e] at hk
  exact hk
theorem f12z_ok:FnOk Tryz.prog 94 z17w:=FnOk.bodyF mix_ok zsi Tryz.func94 rfl ω10 ω10 fun args H=>by
 unfold z16h
 split
 ·refine ⟨?_,?_,?_,?_,fun K hk=>f12z_main _ H K hk⟩
  ·intro K K' h hk;obtain ⟨jb,qb,tb,xa,aa,i_s,dc,bd_4,k⟩:=hk;exact ⟨jb,qb,tb,xa,aa,i_s,dc,bd_4,h _ _ k⟩
  ·intro _ K hk;obtain ⟨jb,qb,tb,xa,aa,i_s,dc,bd_4,k⟩:=hk;exact ⟨_,k,fun K' k'=>⟨jb,qb,tb,xa,aa,i_s,dc,bd_4,k'⟩⟩
  ·intro K hk;obtain ⟨jb,qb,tb,xa,aa,i_s,dc,bd_4,k⟩:=hk;exact ⟨_,_,k⟩
  ·nofun
 ·exact Nice.no
def z7q (n low high:Int):Bool:=(bif decide ((low:Int)≤n) then decide ((n:Int)≤high) else false)
def zch (n low high:Int) (H:zp) (K:Bool→zp→Prop):Prop:=K (z7q n low high) H
theorem f27z_t {n a b:Int} (h:z7q n a b=true):a≤n∧n≤b:=by
 unfold z7q at h
 by_cases h1:a≤n
 ·rw [dct h1,cond_true] at h;exact ⟨h1,odt h⟩
 ·rw [dcf h1] at h;cases h
def zu7:Env:=envOf []
def z17t (args:List Value) (H:zp):(Value→zp→Prop)→Prop:=match args with
 | [.int .i64 n,.int .i64 low,.int .i64 high]=>fun K=>zch n low high H fun (r1:Bool) (H':zp)=>K (.bool r1) H'
 | _=>fun _=>False
def zuk:FSpec:={F:=z17t,quiet:=true,tame:=false}
theorem f27z_vc (n low high:Int) (H:zp) (K:KT):zw Tryz.prog zu7 Tryz.f86 [.int .i64 n,.int .i64 low,.int .i64 high] H K=
 (Br (decide ((low:Int)≤n)) (K (.bool (decide ((n:Int)≤high))) H) (K (.bool false) H)):=by kernel_rfl
theorem zu8:∀g,FnOk Tryz.prog g (zu7 g):=FnOk.envOf (by
 intro x hx;cases hx)
theorem f27z_main (n low high:Int) (H:zp) (K:KT) (h:zch n low high H fun (r1:Bool) (H':zp)=>K (.bool r1) H'):zw Tryz.prog zu7 Tryz.f86 [.int .i64 n,.int .i64 low,.int .i64 high] H K:=by
 rw [f27z_vc]
 unfold zch z7q at h
 repeat' (first | exact h | (exfalso;simp_all;done) | (refine ⟨by decide,?_⟩) | (refine Br.intro (fun hb=>?_) (fun hb=>?_)<;>(try simp only [hb,cond_true,cond_false,Bool.not_true,Bool.not_false] at h)))
theorem f27z_ok:FnOk Tryz.prog 86 zuk:=FnOk.bodyF mix_ok zu8 Tryz.func86 rfl ω10 ω10 fun args H=>by
 unfold z17t
 split
 ·refine ⟨?_,?_,?_,?_,fun K hk=>f27z_main _ _ _ H K hk⟩
  ·intro K K' h hk;have k:=hk;exact h _ _ k
  ·intro _ K hk;have k:=hk;exact ⟨_,k,fun K' k'=>k'⟩
  ·intro K hk;have k:=hk;exact ⟨_,_,k⟩
  ·nofun
 ·exact Nice.no
def zl6 (wide high:Int):Bool:=(bif (z7q wide 1 16) then (z7q high 1 16) else false)
def zl7:=@zl6.eq_1
def zj9 (wide high:Int) (H:zp) (K:Bool→zp→Prop):Prop:=K (zl6 wide high) H

theorem z10s {wide high:Int} {H:zp} {K:Bool→zp→Prop} (h:K (zl6 wide high) H):zj9 wide high H K:=h
def zt9:Env:=envOf [(86,zuk)]
def z16x (args:List Value) (H:zp):(Value→zp→Prop)→Prop:=match args with
 | [.int .i64 wide,.int .i64 high]=>fun K=>zj9 wide high H fun (r1:Bool) (H':zp)=>K (.bool r1) H'
 | _=>fun _=>False
def z18i:FSpec:={F:=z16x,quiet:=true,tame:=false}
theorem z1ch (wide high:Int) (H:zp) (K:KT):zw Tryz.prog zt9 Tryz.f125 [.int .i64 wide,.int .i64 high] H K=
 (zch wide 1 16 H fun (r1:Bool) (H1:zp)=>Br r1 (zch high 1 16 H1 fun (r2:Bool) (H2:zp)=>K (.bool r2) H2) (K (.bool false) H1)):=by kernel_rfl
theorem zta:∀g,FnOk Tryz.prog g (zt9 g):=FnOk.envOf (by
 intro x hx
 simp only [List.mem_cons,List.not_mem_nil,or_false] at hx
 subst hx;exact f27z_ok)
theorem zw1 (wide high:Int) (H:zp) (K:KT) (h:zj9 wide high H fun (r1:Bool) (H':zp)=>K (.bool r1) H'):zw Tryz.prog zt9 Tryz.f125 [.int .i64 wide,.int .i64 high] H K:=by
 rw [z1ch]
 simp only [zch]
 unfold zj9 zl6 at h
 repeat' (first | exact h | (exfalso;simp_all;done) | (refine ⟨by decide,?_⟩) | (refine Br.intro (fun hb=>?_) (fun hb=>?_)<;>(try simp only [hb,cond_true,cond_false,Bool.not_true,Bool.not_false] at h)))
theorem z1cg:FnOk Tryz.prog 125 z18i:=FnOk.bodyF mix_ok zta Tryz.func125 rfl ω10 ω10 fun args H=>by
 unfold z16x
 split
 ·refine ⟨?_,?_,?_,?_,fun K hk=>zw1 _ _ H K hk⟩
  ·intro K K' h hk;have k:=hk;exact h _ _ k
  ·intro _ K hk;have k:=hk;exact ⟨_,k,fun K' k'=>k'⟩
  ·intro K hk;have k:=hk;exact ⟨_,_,k⟩
  ·nofun
 ·exact Nice.no

def zeq (ia ua:Int) (da:LN):Bool:=((bif (zl6 ia ua) then (bif ((da.length:Int):Int)==IntKind.wrap .i64 (ia*ua) then (z1v da) else false) else false))
def zer:=@zeq.eq_1
def zom (p:Nat) (H:zp) (K:Bool→zp→Prop):Prop:=∃(ia ua:Int),∃db:OA,∃(ib nb:Nat),∃da:LN,rdN H p 0 3=some [.int .i64 ia,.int .i64 ua,.slice db ib nb]∧IsL fF H db ib da∧da.length<1073741824∧K (zeq ia ua da) H
theorem z11i {p:Nat} {H:zp} {K:Bool→zp→Prop} (h:∃(ia ua:Int),∃db:OA,∃(ib nb:Nat),∃da:LN,rdN H p 0 3=some [.int .i64 ia,.int .i64 ua,.slice db ib nb]∧IsL fF H db ib da∧da.length<1073741824∧K (zeq ia ua da) H):zom p H K:=h
theorem ω22 {P:Prop} (h:P:=by decide):P:=h
theorem f28z_t {w h:Int} {l:LN} (hh:zeq w h l=true):1≤w∧w≤16∧1≤h∧h≤16∧(l.length:Int)=w*h∧(l.length:Int)≤256∧1≤(l.length:Int):=by
 rw [zer,zl7] at hh
 simp only [Bool.cond_false_right,Bool.and_eq_true] at hh
 obtain ⟨⟨a,b⟩,c,-⟩:=hh
 have a:=f27z_t a
 have b:=f27z_t b
 have h1:w*h≤16*16:=Int.mul_le_mul ω2 ω2 ω2 ω22
 have h2:1*1≤w*h:=Int.mul_le_mul ω2 ω2 ω2 ω2
 have c:=eq_of_beq c
 rw [zt ω2 ω2] at c
 exact ⟨a.1,a.2,b.1,b.2,c,by omega,by omega⟩
def zu9:Env:=envOf [(125,z18i),(124,zj0)]
def z17u (args:List Value) (H:zp):(Value→zp→Prop)→Prop:=match args with
 | [.pointer (some ⟨p,0,none⟩)]=>fun K=>zom p H fun (r1:Bool) (H':zp)=>K (.bool r1) H'
 | _=>fun _=>False
def z18z:FSpec:={F:=z17u,quiet:=true,tame:=false}
theorem f28z_vc (p:Nat) (H:zp) (K:KT):zw Tryz.prog zu9 Tryz.f98 [.pointer (some ⟨p,0,none⟩)] H K=
 (∃x1:Int,  rdC H p 1=some (.int .i64 x1)∧∃x2:Int,  rdC H p 0=some (.int .i64 x2)∧zj9 x2 x1 H fun (r1:Bool) (H1:zp)=>Br r1 (∃x3:Int,  rdC H1 p 1=some (.int .i64 x3)∧∃x4:Int,  rdC H1 p 0=some (.int .i64 x4)∧∃kj:OA,∃(ij zj:Nat),  rdC H1 p 2=some (.slice kj ij zj)∧Br (((ij:Int):Int)==IntKind.wrap .i64 (x4*x3)) (∃ai:OA,∃(zh ki:Nat),  rdC H1 p 2=some (.slice ai zh ki)∧zcg ai zh ki H1 fun (r2:Bool) (H2:zp)=>K (.bool r2) H2) (K (.bool false) H1)) (K (.bool false) H1)):=by kernel_rfl
theorem zua:∀g,FnOk Tryz.prog g (zu9 g):=FnOk.envOf (by
 intro x hx
 simp only [List.mem_cons,List.not_mem_nil,or_false] at hx
 rcases hx with rfl | rfl
 ·exact z1cg
 ·exact f11z_ok)
theorem f28z_main (p:Nat) (H:zp) (K:KT) (h:zom p H fun (r1:Bool) (H':zp)=>K (.bool r1) H'):zw Tryz.prog zu9 Tryz.f98 [.pointer (some ⟨p,0,none⟩)] H K:=by
 rw [f28z_vc]
 obtain ⟨ia,ua,db,ib,nb,da,i_p,yb,bd_3,hk⟩:=h
 obtain rfl:=yb.eqn
 have e:(zeq ia ua da)=_:=rfl
 have e:=e.trans (zer ia ua da)
 have g0:=Grow.refl H
 refine ⟨ua,(z1l (zr g0 i_p) 1 (nbl rfl)).trans rfl,?_⟩
 refine ⟨ia,(z1l (zr g0 i_p) 0 (nbl rfl)).trans rfl,?_⟩
 refine z10s ?_
 refine Br.intro (fun c_1=>?_) (fun c_1=>?_)
 ·have e:=e.trans (zv c_1)
  refine ⟨ua,(z1l (zr g0 i_p) 1 (nbl rfl)).trans rfl,?_⟩
  refine ⟨ia,(z1l (zr g0 i_p) 0 (nbl rfl)).trans rfl,?_⟩
  refine ⟨db,da.length,nb,(z1l (zr g0 i_p) 2 (nbl rfl)).trans rfl,?_⟩
  refine Br.intro (fun c_2=>?_) (fun c_2=>?_)
  ·have e:=e.trans (zv c_2)
   have c_2':=za1 c_2
   refine ⟨db,da.length,nb,(z1l (zr g0 i_p) 2 (nbl rfl)).trans rfl,?_⟩
   refine zaz ⟨_,(yb.grow g0),ω0,?_⟩
   rw [e] at hk
   exact hk
  ·have e:=e.trans (zu c_2)
   have c_2':=z8s c_2
   rw [e] at hk
   exact hk
 ·have e:=e.trans (zu c_1)
  rw [e] at hk
  exact hk
theorem f28z_ok:FnOk Tryz.prog 98 z18z:=FnOk.bodyF mix_ok zua Tryz.func98 rfl ω10 ω10 fun args H=>by
 unfold z17u
 split
 ·refine ⟨?_,?_,?_,?_,fun K hk=>f28z_main _ H K hk⟩
  ·intro K K' h hk;obtain ⟨ia,ua,db,ib,nb,da,i_p,yb,bd_3,k⟩:=hk;exact ⟨ia,ua,db,ib,nb,da,i_p,yb,bd_3,h _ _ k⟩
  ·intro _ K hk;obtain ⟨ia,ua,db,ib,nb,da,i_p,yb,bd_3,k⟩:=hk;exact ⟨_,k,fun K' k'=>⟨ia,ua,db,ib,nb,da,i_p,yb,bd_3,k'⟩⟩
  ·intro K hk;obtain ⟨ia,ua,db,ib,nb,da,i_p,yb,bd_3,k⟩:=hk;exact ⟨_,_,k⟩
  ·nofun
 ·exact Nice.no

def zbj (aa:LN) (xa:Nat) (ia ua:Int) (da:LN):Bool:=(bif (zcm aa xa) then (zeq ia ua da) else false)
def z9k:=@zbj.eq_1
def zoi (s p:Nat) (H:zp) (K:Bool→zp→Prop):Prop:=∃jb:OA,∃(qb tb xa:Nat),∃(ia ua:Int),∃db:OA,∃(ib nb:Nat),∃(aa da:LN),rdN H s 0 2=some [.slice jb qb tb,.float .f32 xa]∧rdN H p 0 3=some [.int .i64 ia,.int .i64 ua,.slice db ib nb]∧IsL fF H jb qb aa∧IsL fF H db ib da∧aa.length<1073741824∧da.length<1073741824∧K (zbj aa xa ia ua da) H
theorem z11e {s p:Nat} {H:zp} {K:Bool→zp→Prop} (h:∃jb:OA,∃(qb tb xa:Nat),∃(ia ua:Int),∃db:OA,∃(ib nb:Nat),∃(aa da:LN),rdN H s 0 2=some [.slice jb qb tb,.float .f32 xa]∧rdN H p 0 3=some [.int .i64 ia,.int .i64 ua,.slice db ib nb]∧IsL fF H jb qb aa∧IsL fF H db ib da∧aa.length<1073741824∧da.length<1073741824∧K (zbj aa xa ia ua da) H):zoi s p H K:=h
theorem f23z_t {ws:LN} {sc:Nat} {w h:Int} {l:LN} (hh:zbj ws sc w h l=true):1≤w∧w≤16∧1≤h∧h≤16∧(l.length:Int)=w*h∧(l.length:Int)≤256∧1≤(l.length:Int):=by
 rw [z9k] at hh
 cases h1:zcm ws sc with
 | false=>rw [h1] at hh;cases hh
 | true=>rw [h1] at hh;exact f28z_t hh
def zu1:Env:=envOf [(94,z17w),(98,z18z)]
def z17p (args:List Value) (H:zp):(Value→zp→Prop)→Prop:=match args with
 | [.pointer (some ⟨s,0,none⟩),.pointer (some ⟨p,0,none⟩)]=>fun K=>zoi s p H fun (r1:Bool) (H':zp)=>K (.bool r1) H'
 | _=>fun _=>False
def z18v:FSpec:={F:=z17p,quiet:=true,tame:=false}
theorem f23z_vc (s p:Nat) (H:zp) (K:KT):zw Tryz.prog zu1 Tryz.f45 [.pointer (some ⟨s,0,none⟩),.pointer (some ⟨p,0,none⟩)] H K=
 (znr s H fun (r1:Bool) (H1:zp)=>Br r1 (zom p H1 fun (r2:Bool) (H2:zp)=>K (.bool r2) H2) (K (.bool false) H1)):=by kernel_rfl
theorem zu2:∀g,FnOk Tryz.prog g (zu1 g):=FnOk.envOf (by
 intro x hx
 simp only [List.mem_cons,List.not_mem_nil,or_false] at hx
 rcases hx with rfl | rfl
 ·exact f12z_ok
 ·exact f28z_ok)
theorem f23z_main (s p:Nat) (H:zp) (K:KT) (h:zoi s p H fun (r1:Bool) (H':zp)=>K (.bool r1) H'):zw Tryz.prog zu1 Tryz.f45 [.pointer (some ⟨s,0,none⟩),.pointer (some ⟨p,0,none⟩)] H K:=by
 rw [f23z_vc]
 obtain ⟨jb,qb,tb,xa,ia,ua,db,ib,nb,aa,da,i_s,i_p,dc,yb,bd_2,bd_3,hk⟩:=h
 obtain rfl:=dc.eqn
 obtain rfl:=yb.eqn
 have e:(zbj aa xa ia ua da)=_:=rfl
 have e:=e.trans (z9k aa xa ia ua da)
 have g0:=Grow.refl H
 refine z10i ⟨jb,aa.length,tb,xa,_,(zr g0 i_s),(dc.grow g0),ω0,?_⟩
 refine Br.intro (fun c_1=>?_) (fun c_1=>?_)
 ·have e:=e.trans (zv c_1)
  refine z11i ⟨ia,ua,db,da.length,nb,_,(zr g0 i_p),(yb.grow g0),ω0,?_⟩
  rw [e] at hk
  exact hk
 ·have e:=e.trans (zu c_1)
  rw [e] at hk
  exact hk
theorem f23z_ok:FnOk Tryz.prog 45 z18v:=FnOk.bodyF mix_ok zu2 Tryz.func45 rfl ω10 ω10 fun args H=>by
 unfold z17p
 split
 ·refine ⟨?_,?_,?_,?_,fun K hk=>f23z_main _ _ H K hk⟩
  ·intro K K' h hk;obtain ⟨jb,qb,tb,xa,ia,ua,db,ib,nb,aa,da,i_s,i_p,dc,yb,bd_2,bd_3,k⟩:=hk;exact ⟨jb,qb,tb,xa,ia,ua,db,ib,nb,aa,da,i_s,i_p,dc,yb,bd_2,bd_3,h _ _ k⟩
  ·intro _ K hk;obtain ⟨jb,qb,tb,xa,ia,ua,db,ib,nb,aa,da,i_s,i_p,dc,yb,bd_2,bd_3,k⟩:=hk;exact ⟨_,k,fun K' k'=>⟨jb,qb,tb,xa,ia,ua,db,ib,nb,aa,da,i_s,i_p,dc,yb,bd_2,bd_3,k'⟩⟩
  ·intro K hk;obtain ⟨jb,qb,tb,xa,ia,ua,db,ib,nb,aa,da,i_s,i_p,dc,yb,bd_2,bd_3,k⟩:=hk;exact ⟨_,_,k⟩
  ·nofun
 ·exact Nice.no
def zgd (levels:Int):Bool:=(z7q levels 1 4)
def zkx:=@zgd.eq_1
def znt (levels:Int) (H:zp) (K:Bool→zp→Prop):Prop:=K (zgd levels) H
def zsk:Env:=envOf [(86,zuk)]
def z16j (args:List Value) (H:zp):(Value→zp→Prop)→Prop:=match args with
 | [.int .i64 levels]=>fun K=>znt levels H fun (r1:Bool) (H':zp)=>K (.bool r1) H'
 | _=>fun _=>False
def z17x:FSpec:={F:=z16j,quiet:=true,tame:=false}
theorem f14z_vc (levels:Int) (H:zp) (K:KT):zw Tryz.prog zsk Tryz.f46 [.int .i64 levels] H K=
 (zch levels 1 4 H fun (r1:Bool) (H1:zp)=>K (.bool r1) H1):=by kernel_rfl
theorem zsl:∀g,FnOk Tryz.prog g (zsk g):=FnOk.envOf (by
 intro x hx
 simp only [List.mem_cons,List.not_mem_nil,or_false] at hx
 subst hx;exact f27z_ok)
theorem f14z_main (levels:Int) (H:zp) (K:KT) (h:znt levels H fun (r1:Bool) (H':zp)=>K (.bool r1) H'):zw Tryz.prog zsk Tryz.f46 [.int .i64 levels] H K:=by
 rw [f14z_vc]
 simp only [zch]
 unfold znt zgd at h
 repeat' (first | exact h | (exfalso;simp_all;done) | (refine ⟨by decide,?_⟩) | (refine Br.intro (fun hb=>?_) (fun hb=>?_)<;>(try simp only [hb,cond_true,cond_false,Bool.not_true,Bool.not_false] at h)))
theorem f14z_ok:FnOk Tryz.prog 46 z17x:=FnOk.bodyF mix_ok zsl Tryz.func46 rfl ω10 ω10 fun args H=>by
 unfold z16j
 split
 ·refine ⟨?_,?_,?_,?_,fun K hk=>f14z_main _ H K hk⟩
  ·intro K K' h hk;have k:=hk;exact h _ _ k
  ·intro _ K hk;have k:=hk;exact ⟨_,k,fun K' k'=>k'⟩
  ·intro K hk;have k:=hk;exact ⟨_,_,k⟩
  ·nofun
 ·exact Nice.no

def zbk (ia ua:Int) (da:LN):Int×Int×LN:=(ia,ua,(([]:LN)++da))
def zy1:=@zbk.eq_1
def zoj (p:Nat) (H:zp) (K:Int→Int→OA→Nat→Nat→zp→Prop):Prop:=∃(ia ua:Int),∃db:OA,∃(ib nb:Nat),∃da:LN,rdN H p 0 3=some [.int .i64 ia,.int .i64 ua,.slice db ib nb]∧IsL fF H db ib da∧da.length<1073741824∧((∀(ma:OA) (sa oa:Nat),∀H':zp,Grow H H'→OwnS fF H' H.length ma sa oa ((zbk ia ua da).2.2)→K ((zbk ia ua da).1) ((zbk ia ua da).2.1) ma sa oa H'))
theorem z11f {p:Nat} {H:zp} {K:Int→Int→OA→Nat→Nat→zp→Prop} (h:∃(ia ua:Int),∃db:OA,∃(ib nb:Nat),∃da:LN,rdN H p 0 3=some [.int .i64 ia,.int .i64 ua,.slice db ib nb]∧IsL fF H db ib da∧da.length<1073741824∧((∀(ma:OA) (sa oa:Nat),∀H':zp,Grow H H'→OwnS fF H' H.length ma sa oa ((zbk ia ua da).2.2)→K ((zbk ia ua da).1) ((zbk ia ua da).2.1) ma sa oa H'))):zoj p H K:=h

def zu3:Env:=envOf []
def z17q (args:List Value) (H:zp):(Value→zp→Prop)→Prop:=match args with
 | [.pointer (some ⟨p,0,none⟩)]=>fun K=>zoj p H fun (tc:Int) (nc:Int) (ma:OA) (sa:Nat) (oa:Nat) (H':zp)=>K (.agg #[.int .i64 tc,.int .i64 nc,.slice ma sa oa]) H'
 | _=>fun _=>False
def z18w:FSpec:={F:=z17q,quiet:=false,tame:=true}
theorem f24z_vc (p:Nat) (H:zp) (K:KT):zw Tryz.prog zu3 Tryz.f101 [.pointer (some ⟨p,0,none⟩)] H K=
 (Al [.int .i64 0,.int .i64 0,.slice none 0 0] H fun b1 H1=>∃og:OA,∃(eg qg:Nat),  rdC H1 p 2=some (.slice og eg qg)∧∃x2:Int,  rdC H1 p 1=some (.int .i64 x2)∧∃x3:Int,  rdC H1 p 0=some (.int .i64 x3)∧Al [] H1 fun b2 H2=>∃o1 w1:List Value,ownB H2 (some ⟨b2,0,none⟩) 0 1 1=some o1∧rdS H2 og (eg*1)=some w1∧((some ⟨b2,0,none⟩:OA)=none→0<(eg:Nat))∧(0:Nat)+eg<most∧Ap H2 (z3c H2 (some ⟨b2,0,none⟩)++[some ⟨o1++w1,true⟩]) fun b3 H3=>isOwn H3 b1∧(∃l,rdN H3 b1 0 3=some l)∧Lt (setN H3 b1 0 [.int .i64 x3,.int .i64 x2,.slice (some ⟨b3,0,none⟩) (0+eg) 1]) fun H4=>∃(c1 c2:Int),∃vg:OA,∃(xg wg:Nat),  rdN H4 b1 0 3=some [.int .i64 c1,.int .i64 c2,.slice vg xg wg]∧K (.agg #[.int .i64 c1,.int .i64 c2,.slice vg xg wg]) H4):=by kernel_rfl
theorem zu4:∀g,FnOk Tryz.prog g (zu3 g):=FnOk.envOf (by
 intro x hx;cases hx)
theorem ω3 {P:Prop} (h:P:=by first | (simp only [List.length_map,List.length_cons,List.length_nil,List.length_append];done) | (simp only [List.length_map,List.length_cons,List.length_nil,List.length_append];omega) | (simp only [List.length_map,List.length_cons,List.length_nil,List.length_append,List.length_take,List.length_drop];omega)):P:=h
theorem ω8 {P:Prop} (h:P:=by first | omega | (simp only [List.length_append,List.length_cons,List.length_nil];done) | (simp only [List.length_append,List.length_cons,List.length_nil];omega) | (simp only [List.length_append,List.length_cons,List.length_nil,List.length_take,List.length_drop];omega)):P:=h
theorem f24z_main (p:Nat) (H:zp) (K:KT) (h:zoj p H fun (tc:Int) (nc:Int) (ma:OA) (sa:Nat) (oa:Nat) (H':zp)=>K (.agg #[.int .i64 tc,.int .i64 nc,.slice ma sa oa]) H'):zw Tryz.prog zu3 Tryz.f101 [.pointer (some ⟨p,0,none⟩)] H K:=by
 rw [f24z_vc]
 obtain ⟨ia,ua,db,ib,nb,da,i_p,yb,bd_44,hk⟩:=h
 obtain rfl:=yb.eqn
 have e:(zbk ia ua da)=_:=rfl
 have e:=e.trans (zy1 ia ua da)
 have g0:=Grow.refl H
 refine Al.intro (fun b_1 H_1 hb_2 hl_3 g_4 o_5=>?_)
 have l_7:=g_4.1
 have g_8:=g0.trans g_4
 have l_9:=g_8.1
 have w43:=o_5.lt
 refine ⟨db,da.length,nb,(z1l (zr g_8 i_p) 2 (nbl rfl)).trans rfl,?_⟩
 refine ⟨ua,(z1l (zr g_8 i_p) 1 (nbl rfl)).trans rfl,?_⟩
 refine ⟨ia,(z1l (zr g_8 i_p) 0 (nbl rfl)).trans rfl,?_⟩
 refine Al.intro (fun b_10 H_2 hb_11 hl_12 g_13 o_14=>?_)
 have o_14:Own H_2 b_10 ((([]:LN)).map fF):=o_14
 have l_16:=g_13.1
 have g_17:=g_8.trans g_13
 have l_18:=g_17.1
 have o_19:=o_5.grow g_13
 have w20:=o_19.lt
 have w42:=o_14.lt
 refine ⟨_,_,o_14.ownB ω3 rfl,(z2t (yb.grow g_17)),(fun h=>by cases h),ω25,?_⟩
 refine Ap.app o_14 rfl rfl (fun b25 H_3 q40 hl_21 o22 k23=>?_)
 have o22:=z2l o22
 have l26:=k23.1
 have g27:=g_17.keep (b:=b_10) ω2 k23
 have l28:=g27.1
 have o29:=o_19.keep ω2 k23
 have w30:=o29.lt
 have w41:=o22.lt
 refine Lt.setN (n:=3) o29 (nbl rfl) rfl (fun H_4 hl_31 o33 k32=>?_)
 have o33:Own H_4 b_1 [.int .i64 ia,.int .i64 ua,.slice (some ⟨b25,0,none⟩) (0+da.length) 1]:=o33
 have l34:=k32.1
 have g35:=g27.keep (b:=b_1) ω2 k32
 have l36:=g35.1
 have o37:=o22.keep ω2 k32
 have w38:=o37.lt
 have w39:=o33.lt
 refine ⟨ia,ua,some ⟨b25,0,none⟩,0+da.length,1,(o33.rdN (nbl rfl)).trans rfl,?_⟩
 rw [e] at hk
 exact hk _ _ _ H_4 g35 (o37.ownS ω8 ω2)
theorem f24z_ok:FnOk Tryz.prog 101 z18w:=FnOk.bodyF mix_ok zu4 Tryz.func101 rfl ω10 ω10 fun args H=>by
 unfold z17q
 split
 ·refine ⟨?_,?_,?_,?_,fun K hk=>f24z_main _ H K hk⟩
  ·intro K K' h hk;obtain ⟨ia,ua,db,ib,nb,da,i_p,yb,bd_44,k⟩:=hk;exact ⟨ia,ua,db,ib,nb,da,i_p,yb,bd_44,(fun ma sa oa H' gg ow0=>h _ _ (k ma sa oa H' gg ow0))⟩
  ·nofun
  ·intro K hk;obtain ⟨ia,ua,db,ib,nb,da,i_p,yb,bd_44,k⟩:=hk;exact z4i fun a n e H1 g o=>⟨_,_,k a n e H1 g o⟩
  ·intro _ K hk;obtain ⟨ia,ua,db,ib,nb,da,i_p,yb,bd_44,k⟩:=hk;exact ⟨ia,ua,db,ib,nb,da,i_p,yb,bd_44,(fun ma sa oa H' gg ow0=>⟨gg,k ma sa oa H' gg ow0⟩)⟩
 ·exact Nice.no

def z9c (wide high n:Int):Nat→Int→Int→Int→Int×Int
 | 0,_,_,_=>(0,0)
 | μ+1,wide_0,high_1,k=>(bif decide ((k:Int)<n) then (z9c wide high n μ ((Int.tdiv (wide_0+1) 2)) ((Int.tdiv (high_1+1) 2)) (k+1)) else (wide_0,high_1))
def zah:=fun wide high n μ wide_0 high_1 k=>@z9c.eq_2 wide high n wide_0 high_1 k μ
def zx (wide high n:Int):Int×Int:=(z9c wide high n (Int.toNat (n-(0:Int))+1) wide high (0:Int))
def zkw:=@zx.eq_1
def zfz (wide high n:Int) (H:zp) (K:Int→Int→zp→Prop):Prop:=1≤wide∧wide≤16∧1≤high∧high≤16∧n≤1000∧K ((zx wide high n).1) ((zx wide high n).2) H
theorem zns {wide high n:Int} {H:zp} {K:Int→Int→zp→Prop} (h:1≤wide∧wide≤16∧1≤high∧high≤16∧n≤1000∧K ((zx wide high n).1) ((zx wide high n).2) H):zfz wide high n H K:=h
theorem zkj (w h n:Int):∀(μ:Nat) (a b k:Int),1≤a→a≤16→1≤b→b≤16→n-k≤μ→z9c w h n (μ+1) a b k=(z6k (n-k).toNat a,z6k (n-k).toNat b):=by
 intro μ
 induction μ with
 | zero=>
  intro a b k h1 h2 h3 h4 hm
  rw [zah,dcf ω2,cond_false,show (n-k).toNat=0 by omega];rfl
 | succ μ ih=>
  intro a b k h1 h2 h3 h4 hm
  rw [zah]
  by_cases h:k<n
  ·rw [dct h,cond_true,zdx h1,zdx h3]
   have ra:=zb8 h1 h2
   have rb:=zb8 h3 h4
   obtain ⟨j,hj⟩:∃j,(n-k).toNat=j+1:=⟨(n-k).toNat-1,by omega⟩
   rw [ih (zi0 a) (zi0 b) (k+1) ω2 ω2 ω2 ω2 ω2,hj,show (n-(k+1)).toNat=j by omega];rfl
  ·rw [dcf h,cond_false,show (n-k).toNat=0 by omega];rfl
theorem z6u (w h n:Int) (h1:1≤w) (h2:w≤16) (h3:1≤h) (h4:h≤16):zx w h n=(z6k n.toNat w,z6k n.toNat h):=by
 rw [zkw,zkj w h n _ w h 0 h1 h2 h3 h4 ω2,show n-0=n by omega]
theorem z2z (w h n:Int):1≤w∧w≤16∧1≤h∧h≤16→1≤(zx w h n).1∧(zx w h n).1≤w∧1≤(zx w h n).2∧(zx w h n).2≤h:=fun ⟨h1,h2,h3,h4⟩=>by
 rw [z6u w h n h1 h2 h3 h4]
 have a:=z4d n.toNat w h1 h2
 have b:=z4d n.toNat h h3 h4
 exact ⟨a.1,a.2,b.1,b.2⟩
def zau:Env:=envOf []
def z16i (args:List Value) (H:zp):(Value→zp→Prop)→Prop:=match args with
 | [.int .i64 wide,.int .i64 high,.int .i64 n]=>fun K=>zfz wide high n H fun (r1:Int) (r2:Int) (H':zp)=>K (.tuple #[.int .i64 r1,.int .i64 r2]) H'
 | _=>fun _=>False
def zuc:FSpec:={F:=z16i,quiet:=true,tame:=false}
theorem f13z_vc (wide high n:Int) (H:zp) (K:KT):zw Tryz.prog zau Tryz.f102 [.int .i64 wide,.int .i64 high,.int .i64 n] H K=
 (z1n (exL Tryz.prog zau (cl (cl (cr (cl (cr (zq Tryz.f102)))))) 263 192 [(0,3)]) (.int .i64 wide::.int .i64 high::.int .i64 n::ud5 (.int .i64 0::ud13 [])) H (z1a 0 (seqQ (exL Tryz.prog zau (cr (cr (zq Tryz.f102))) 192 192 []) (retK Tryz.prog Tryz.f102 K)))):=by kernel_rfl
abbrev f13z_P1 (n wide_0 high_1 k:Int)  :List Value:=(.int .i64 wide_0::.int .i64 high_1::.int .i64 n::ud5 (.int .i64 k::ud13 []))
theorem f13z_r1 (n wide_0 high_1 k:Int)  (H:zp) (R:Post):exL Tryz.prog zau (cl (cl (cr (cl (cr (zq Tryz.f102)))))) 263 192 [(0,3)] (f13z_P1 n wide_0 high_1 k) H R=
 (Br (decide ((k:Int)<n)) (2≠(0:Int)∧2≠(0:Int)∧R .normal (.int .i64 (IntKind.wrap .i64 (Int.tdiv (IntKind.wrap .i64 (wide_0+1)) 2))::.int .i64 (IntKind.wrap .i64 (Int.tdiv (IntKind.wrap .i64 (high_1+1)) 2))::.int .i64 n::ud5 (.int .i64 (IntKind.wrap .i64 (k+1))::ud13 [])) H) (R (.exit 0) (.int .i64 wide_0::.int .i64 high_1::ud20 []) H)):=by kernel_rfl
def f13z_I1 (n:Int) (Inv:Nat→Int→Int→Int→zp→Prop):Nat→List Value→zp→Prop:=fun μ tm H=>∃(wide_0 high_1 k:Int),tm=(f13z_P1 n wide_0 high_1 k)∧Inv μ wide_0 high_1 k H
theorem f13z_L1 (n:Int) {Q:Post} (Inv:Nat→Int→Int→Int→zp→Prop) (ν:Nat) (wide_0 high_1 k:Int)  (H:zp) (h0:Inv ν wide_0 high_1 k H)
  (hs:∀(μ:Nat) (wide_0:Int) (high_1:Int) (k:Int)  (H:zp),Inv μ wide_0 high_1 k H→exL Tryz.prog zau (cl (cl (cr (cl (cr (zq Tryz.f102)))))) 263 192 [(0,3)] (f13z_P1 n wide_0 high_1 k) H (z1b (f13z_I1 n Inv) μ Q)):z1n (exL Tryz.prog zau (cl (cl (cr (cl (cr (zq Tryz.f102)))))) 263 192 [(0,3)]) (f13z_P1 n wide_0 high_1 k) H Q:=
 ⟨f13z_I1 n Inv,ν,⟨wide_0,high_1,k,rfl,h0⟩,fun μ tm H h=>by obtain ⟨wide_0,high_1,k,rfl,hI⟩:=h;exact hs μ wide_0 high_1 k  H hI⟩
theorem f13z_n1 {n:Int} {Q:Post} {Inv:Nat→Int→Int→Int→zp→Prop} {μ:Nat} (μ':Nat) {wide_0 high_1 k:Int}  {H:zp} (hm:μ'<μ) (hI:Inv μ' wide_0 high_1 k H):z1b (f13z_I1 n Inv) μ Q .normal (f13z_P1 n wide_0 high_1 k) H:=⟨μ',hm,wide_0,high_1,k,rfl,hI⟩
theorem f13z_x1_0 (wide_0 high_1:Int) (H:zp) (K:KT)  {I:Nat→List Value→zp→Prop} {μ:Nat}:z1b I μ (z1a 0 (seqQ (exL Tryz.prog zau (cr (cr (zq Tryz.f102))) 192 192 []) (retK Tryz.prog Tryz.f102 K))) (.exit 0) (.int .i64 wide_0::.int .i64 high_1::ud20 []) H=
 (K (.tuple #[.int .i64 wide_0,.int .i64 high_1]) H):=by kernel_rfl
theorem zsj:∀g,FnOk Tryz.prog g (zau g):=FnOk.envOf (by
 intro x hx;cases hx)
theorem ω23 {P:Prop} (h:P:=by first | omega | decide | (simp;done) | (simp;omega)):P:=h
theorem f13z_main (wide high n:Int) (H:zp) (K:KT) (h:zfz wide high n H fun (r1:Int) (r2:Int) (H':zp)=>K (.tuple #[.int .i64 r1,.int .i64 r2]) H'):zw Tryz.prog zau Tryz.f102 [.int .i64 wide,.int .i64 high,.int .i64 n] H K:=by
 rw [f13z_vc]
 obtain ⟨pr0,pr1,pr2,pr3,pr4,hk⟩:=h
 have e:(zx wide high n)=_:=rfl
 have e:=e.trans (zkw wide high n)
 have g0:=Grow.refl H
 refine f13z_L1 _ (fun (μ:Nat) (wide_0:Int) (high_1:Int) (k:Int) (H_1:zp)=>H=H_1∧(0:Int)≤k∧((k≤n∨k≤(0:Int)))∧1≤wide_0∧wide_0≤16∧1≤high_1∧high_1≤16∧n-k≤(μ:Int)∧zx wide high n=z9c wide high n (μ+1) wide_0 high_1 k) (Int.toNat (n-(0:Int))) _ _ _ H ?_ ?_
 ·exact ⟨rfl,ω7,ω7,ω7,ω7,ω7,ω7,ω2,e⟩
 ·intro μ wide_0 high_1 k  H_1 hI
  obtain ⟨rfl,v_1,v_2,v_3,v_4,v_5,v_6,hμ,e⟩:=hI
  rw [f13z_r1]
  have e:=e.trans (zah wide high n μ wide_0 high_1 k)
  have l_7:=g0.1
  refine Br.intro (fun c_8=>?_) (fun c_8=>?_)
  ·have e:=e.trans (zv c_8)
   have c_8':=odt c_8
   rw [show IntKind.wrap .i64 (wide_0+1)=(wide_0+1) from zt ω2 ω2]
   have z9:=zca (wide_0+1) 2
   refine ⟨ω23,?_⟩
   rw [show IntKind.wrap .i64 (Int.tdiv (wide_0+1) 2)=(Int.tdiv (wide_0+1) 2) from zt ω2 ω2]
   rw [show IntKind.wrap .i64 (high_1+1)=(high_1+1) from zt ω2 ω2]
   have z10:=zca (high_1+1) 2
   refine ⟨ω23,?_⟩
   rw [show IntKind.wrap .i64 (Int.tdiv (high_1+1) 2)=(Int.tdiv (high_1+1) 2) from zt ω2 ω2]
   rw [show IntKind.wrap .i64 (k+1)=(k+1) from zt ω2 ω2]
   refine f13z_n1 (μ-1) ω15 ⟨rfl,ω1,ω1,ω1,ω1,ω1,ω1,ω15,ω13⟩
  ·have e:=e.trans (zu c_8)
   have c_8':=odf c_8
   rw [f13z_x1_0]
   rw [e] at hk
   exact hk
theorem f13z_ok:FnOk Tryz.prog 102 zuc:=FnOk.bodyF mix_ok zsj Tryz.func102 rfl ω10 ω10 fun args H=>by
 unfold z16i
 split
 ·refine ⟨?_,?_,?_,?_,fun K hk=>f13z_main _ _ _ H K hk⟩
  ·intro K K' h hk;obtain ⟨pr0,pr1,pr2,pr3,pr4,k⟩:=hk;exact ⟨pr0,pr1,pr2,pr3,pr4,h _ _ k⟩
  ·intro _ K hk;obtain ⟨pr0,pr1,pr2,pr3,pr4,k⟩:=hk;exact ⟨_,k,fun K' k'=>⟨pr0,pr1,pr2,pr3,pr4,k'⟩⟩
  ·intro K hk;obtain ⟨pr0,pr1,pr2,pr3,pr4,k⟩:=hk;exact ⟨_,_,k⟩
  ·nofun
 ·exact Nice.no

def z9g (ia ua:Int) (da:LN) (x y wide high:Int):Nat→Int→Int→Int→Int→Int→LN→Int×Int×LN
 | 0,_,_,_,_,_,_=>(0,0,[])
 | μ+1,i,q1_1,q1_2,q1_4,q1_5,q1_6=>(bif decide ((i:Int)<(wide*high)) then (z9g ia ua da x y wide high μ (i+1) q1_1 q1_2 q1_4 q1_5 ((q1_6++[(((da).getD ((((((((y+(Int.tdiv i wide)))*ia))+x))+(Int.tmod i wide)):Int).toNat 0))]))) else (q1_4,q1_5,q1_6))
def zai:=fun ia ua da x y wide high μ i q1_1 q1_2 q1_4 q1_5 q1_6=>@z9g.eq_2 ia ua da x y wide high i q1_1 q1_2 q1_4 q1_5 q1_6 μ
def z4f (ia ua:Int) (da:LN) (x y wide high:Int):Int×Int×LN:=(z9g ia ua da x y wide high (Int.toNat ((wide*high)-(0:Int))+1) (0:Int) 0 0 wide high ([]:LN))
def zl9:=@z4f.eq_1
def zjb (p:Nat) (x y wide high:Int) (H:zp) (K:Int→Int→OA→Nat→Nat→zp→Prop):Prop:=∃(ia ua:Int),∃db:OA,∃(ib nb:Nat),∃da:LN,rdN H p 0 3=some [.int .i64 ia,.int .i64 ua,.slice db ib nb]∧IsL fF H db ib da∧da.length<1073741824∧0≤x∧0≤y∧1≤wide∧1≤high∧x+wide≤ia∧y+high≤ua∧ia≤16∧ua≤16∧(da.length:Int)=ia*ua∧((∀(ma:OA) (sa oa:Nat),∀H':zp,Grow H H'→OwnS fF H' H.length ma sa oa ((z4f ia ua da x y wide high).2.2)→K ((z4f ia ua da x y wide high).1) ((z4f ia ua da x y wide high).2.1) ma sa oa H'))
theorem zo9 {p:Nat} {x y wide high:Int} {H:zp} {K:Int→Int→OA→Nat→Nat→zp→Prop} (h:∃(ia ua:Int),∃db:OA,∃(ib nb:Nat),∃da:LN,rdN H p 0 3=some [.int .i64 ia,.int .i64 ua,.slice db ib nb]∧IsL fF H db ib da∧da.length<1073741824∧0≤x∧0≤y∧1≤wide∧1≤high∧x+wide≤ia∧y+high≤ua∧ia≤16∧ua≤16∧(da.length:Int)=ia*ua∧((∀(ma:OA) (sa oa:Nat),∀H':zp,Grow H H'→OwnS fF H' H.length ma sa oa ((z4f ia ua da x y wide high).2.2)→K ((z4f ia ua da x y wide high).1) ((z4f ia ua da x y wide high).2.1) ma sa oa H'))):zjb p x y wide high H K:=h
theorem zqw (W H:Int) (L:LN) (x y wide high:Int) (w h:Nat) (hw:wide=w) (hh:high=h) (hw0:0<w):∀(μ i:Nat) (a b:Int),i≤h*w→h*w-i≤μ→
  ∀o,o=(List.range i).map (fun i:Nat=>z4r L x y W ((i % w:Nat):Int) ((i / w:Nat):Int))→
  z9g W H L x y wide high (μ+1) (i:Int) a b wide high o=(wide,high,picL w h (z4r L x y W)):=by
 have hm:wide*high=((h*w:Nat):Int):=by rw [hw,hh,Int.natCast_mul,Int.mul_comm]
 intro μ
 induction μ with
 | zero=>
  intro i a b h1 h2 o ho
  rw [zai,hm,dcf ω2,cond_false,ho,show i=h*w by omega,z9m hw0]
 | succ μ ih=>
  intro i a b h1 h2 o ho
  rw [zai,hm]
  by_cases hlt:i<h*w
  ·rw [dct ω2,cond_true,show (i:Int)+1=((i+1:Nat):Int) by omega]
   refine ih (i+1) a b ω2 ω2 _ ?_
   rw [ho,List.range_succ,List.map_append]
   congr 1
   have e1:Int.tdiv (i:Int) wide=((i / w:Nat):Int):=by rw [hw];rfl
   have e2:Int.tmod (i:Int) wide=((i % w:Nat):Int):=by rw [hw];rfl
   rw [e1,e2];rfl
  ·rw [dcf ω2,cond_false,ho,show i=h*w by omega,z9m hw0]
theorem zc1 (W H:Int) (L:LN) (x y wide high:Int) (hw:1≤wide) (hh:1≤high):z4f W H L x y wide high=(wide,high,picL wide.toNat high.toNat (z4r L x y W)):=by
 rw [zl9]
 have hm:wide*high=((high.toNat*wide.toNat:Nat):Int):=by rw [Int.natCast_mul,Int.toNat_of_nonneg ω2,Int.toNat_of_nonneg ω2,Int.mul_comm]
 exact zqw W H L x y wide high wide.toNat high.toNat ω2 ω2 ω2 _ 0 0 0 (Nat.zero_le _) ω2 [] rfl
theorem zn2 (W H:Int) (L:LN) (x y wide high:Int) (hw:1≤wide) (hh:1≤high) (hw2:wide≤16) (hh2:high≤16):((z4f W H L x y wide high).2.2.length:Int)≤256:=by
 rw [zc1 W H L x y wide high hw hh]
 show ((picL wide.toNat high.toNat (z4r L x y W)).length:Int)≤256
 rw [z2h]
 have:high.toNat*wide.toNat≤16*16:=Nat.mul_le_mul ω2 ω2
 omega
def zav:Env:=envOf []
def z17d (args:List Value) (H:zp):(Value→zp→Prop)→Prop:=match args with
 | [.pointer (some ⟨p,0,none⟩),.int .i64 x,.int .i64 y,.int .i64 wide,.int .i64 high]=>fun K=>zjb p x y wide high H fun (tc:Int) (nc:Int) (ma:OA) (sa:Nat) (oa:Nat) (H':zp)=>K (.agg #[.int .i64 tc,.int .i64 nc,.slice ma sa oa]) H'
 | _=>fun _=>False
def zuh:FSpec:={F:=z17d,quiet:=false,tame:=true}
theorem z1cw (p:Nat) (x y wide high:Int) (H:zp) (K:KT):zw Tryz.prog zav Tryz.f121 [.pointer (some ⟨p,0,none⟩),.int .i64 x,.int .i64 y,.int .i64 wide,.int .i64 high] H K=
 (Al [.int .i64 0,.int .i64 0,.slice none 0 0] H fun b1 H1=>Al [] H1 fun b2 H2=>Al [.int .i64 0,.int .i64 0,.slice none 0 0] H2 fun b3 H3=>isOwn H3 b3∧(∃l,rdN H3 b3 0 3=some l)∧Lt (setN H3 b3 0 [.int .i64 wide,.int .i64 high,.slice (some ⟨b2,0,none⟩) 0 1]) fun H4=>z1n (exL Tryz.prog zav (cl (cl (cr (cl (cr (cr (zq Tryz.f121))))))) 7199 1024 [(0,3072)]) (.pointer (some ⟨p,0,none⟩)::.int .i64 x::.int .i64 y::.int .i64 wide::.int .i64 high::ud5 (.pointer (some ⟨b1,0,none⟩)::.pointer (some ⟨b3,0,none⟩)::.int .i64 0::ud39 [])) H4 (z1a 0 (seqQ (exL Tryz.prog zav (cr (cr (cr (zq Tryz.f121)))) 1024 1024 []) (retK Tryz.prog Tryz.f121 K)))):=by kernel_rfl
abbrev zdm (b1 b3:Nat) (high:Int) (p:Nat) (wide x y i:Int)  :List Value:=(.pointer (some ⟨p,0,none⟩)::.int .i64 x::.int .i64 y::.int .i64 wide::.int .i64 high::ud5 (.pointer (some ⟨b1,0,none⟩)::.pointer (some ⟨b3,0,none⟩)::.int .i64 i::ud39 []))
theorem z1cv (b1 b3:Nat) (high:Int) (p:Nat) (wide x y i:Int)  (H:zp) (R:Post):exL Tryz.prog zav (cl (cl (cr (cl (cr (cr (zq Tryz.f121))))))) 7199 1024 [(0,3072)] (zdm b1 b3 high p wide x y i) H R=
 (Br (decide ((i:Int)<IntKind.wrap .i64 (wide*high))) (∃og:OA,∃(eg qg:Nat),  rdC H b3 2=some (.slice og eg qg)∧∃qk:OA,∃(pk sk:Nat),  rdC H p 2=some (.slice qk pk sk)∧wide≠(0:Int)∧∃x3:Int,  rdC H p 0=some (.int .i64 x3)∧wide≠(0:Int)∧(0:Int)≤IntKind.wrap .i64 ((IntKind.wrap .i64 ((IntKind.wrap .i64 ((IntKind.wrap .i64 (y+(IntKind.wrap .i64 (Int.tdiv i wide))))*x3))+x))+(Int.tmod i wide))∧IntKind.wrap .i64 ((IntKind.wrap .i64 ((IntKind.wrap .i64 ((IntKind.wrap .i64 (y+(IntKind.wrap .i64 (Int.tdiv i wide))))*x3))+x))+(Int.tmod i wide))<(pk:Int)∧∃b4 f1,(qk:OA)=some ⟨b4,f1,none⟩∧∃x4:Nat,  rdC H b4 (f1+(IntKind.wrap .i64 ((IntKind.wrap .i64 ((IntKind.wrap .i64 ((IntKind.wrap .i64 (y+(IntKind.wrap .i64 (Int.tdiv i wide))))*x3))+x))+(Int.tmod i wide)):Int).toNat*1)=some (.float .f32 x4)∧Al [.float .f32 x4] H fun b5 H5=>∃o1 w1:List Value,ownB H5 og eg qg 1=some o1∧rdS H5 (some ⟨b5,0,none⟩) (1*1)=some w1∧((og:OA)=none→0<(1:Nat))∧(eg:Nat)+1<most∧Ap H5 (z3c H5 og++[some ⟨o1++w1,true⟩]) fun b6 H6=>isOwn H6 b3∧(∃l,rdN H6 b3 2 1=some l)∧Lt (setC H6 b3 2 (.slice (some ⟨b6,0,none⟩) (eg+1) 1)) fun H7=>R .normal (.pointer (some ⟨p,0,none⟩)::.int .i64 x::.int .i64 y::.int .i64 wide::.int .i64 high::ud5 (.pointer (some ⟨b1,0,none⟩)::.pointer (some ⟨b3,0,none⟩)::.int .i64 (IntKind.wrap .i64 (i+1))::ud39 [])) H7) (R (.exit 0) (ud10 (.pointer (some ⟨b1,0,none⟩)::.pointer (some ⟨b3,0,none⟩)::ud40 [])) H)):=by kernel_rfl
def zmk (b1 b3:Nat) (high:Int) (p:Nat) (wide x y:Int) (Inv:Nat→Int→zp→Prop):Nat→List Value→zp→Prop:=fun μ tm H=>∃i:Int,tm=(zdm b1 b3 high p wide x y i)∧Inv μ i H
theorem z1ct (b1 b3:Nat) (high:Int) (p:Nat) (wide x y:Int) {Q:Post} (Inv:Nat→Int→zp→Prop) (ν:Nat) (i:Int)  (H:zp) (h0:Inv ν i H)
  (hs:∀(μ:Nat) (i:Int)  (H:zp),Inv μ i H→exL Tryz.prog zav (cl (cl (cr (cl (cr (cr (zq Tryz.f121))))))) 7199 1024 [(0,3072)] (zdm b1 b3 high p wide x y i) H (z1b (zmk b1 b3 high p wide x y Inv) μ Q)):z1n (exL Tryz.prog zav (cl (cl (cr (cl (cr (cr (zq Tryz.f121))))))) 7199 1024 [(0,3072)]) (zdm b1 b3 high p wide x y i) H Q:=
 ⟨zmk b1 b3 high p wide x y Inv,ν,⟨i,rfl,h0⟩,fun μ tm H h=>by obtain ⟨i,rfl,hI⟩:=h;exact hs μ i  H hI⟩
theorem z1cu {b1 b3:Nat} {high:Int} {p:Nat} {wide x y:Int} {Q:Post} {Inv:Nat→Int→zp→Prop} {μ:Nat} (μ':Nat) {i:Int}  {H:zp} (hm:μ'<μ) (hI:Inv μ' i H):z1b (zmk b1 b3 high p wide x y Inv) μ Q .normal (zdm b1 b3 high p wide x y i) H:=⟨μ',hm,i,rfl,hI⟩
theorem zw9 (b1 b3:Nat) (H:zp) (K:KT)  {I:Nat→List Value→zp→Prop} {μ:Nat}:z1b I μ (z1a 0 (seqQ (exL Tryz.prog zav (cr (cr (cr (zq Tryz.f121)))) 1024 1024 []) (retK Tryz.prog Tryz.f121 K))) (.exit 0) (ud10 (.pointer (some ⟨b1,0,none⟩)::.pointer (some ⟨b3,0,none⟩)::ud40 [])) H=
 (∃(c1 c2:Int),∃vg:OA,∃(xg wg:Nat),  rdN H b3 0 3=some [.int .i64 c1,.int .i64 c2,.slice vg xg wg]∧isOwn H b1∧(∃l,rdN H b1 0 3=some l)∧Lt (setN H b1 0 [.int .i64 c1,.int .i64 c2,.slice vg xg wg]) fun H8=>∃(c4 c5:Int),∃eh:OA,∃(gh fh:Nat),  rdN H8 b1 0 3=some [.int .i64 c4,.int .i64 c5,.slice eh gh fh]∧K (.agg #[.int .i64 c4,.int .i64 c5,.slice eh gh fh]) H8):=by kernel_rfl
theorem ztk:∀g,FnOk Tryz.prog g (zav g):=FnOk.envOf (by
 intro x hx;cases hx)
theorem ω19 {P:Prop} (h:P:=by first | exact o40 | (have hbx:=o40;(try simp only [List.length_append,List.length_cons,List.length_nil,Nat.zero_add] at hbx);(try simp only [List.length_append,List.length_cons,List.length_nil,Nat.zero_add]);exact hbx)):P:=h
theorem ω20 {P:Prop} (h:P:=by first | exact o36 | (have hbx:=o36;(try simp only [List.length_append,List.length_cons,List.length_nil,Nat.zero_add] at hbx);(try simp only [List.length_append,List.length_cons,List.length_nil,Nat.zero_add]);exact hbx)):P:=h
theorem ω5 {P:Prop} (h:P:=by first | rfl | omega | (simp only [List.length_set];done) | (simp only [List.length_set,List.length_replicate];omega)):P:=h
theorem ω26 {P:Prop} (h:P:=by first | exact o103 | (have hbx:=o103;(try simp only [List.length_append,List.length_cons,List.length_nil,Nat.zero_add] at hbx);(try simp only [List.length_append,List.length_cons,List.length_nil,Nat.zero_add]);exact hbx)):P:=h
theorem ω27 {P:Prop} (h:P:=by first | exact o99 | (have hbx:=o99;(try simp only [List.length_append,List.length_cons,List.length_nil,Nat.zero_add] at hbx);(try simp only [List.length_append,List.length_cons,List.length_nil,Nat.zero_add]);exact hbx)):P:=h
theorem zw7 (p:Nat) (x y wide high:Int) (H:zp) (K:KT) (h:zjb p x y wide high H fun (tc:Int) (nc:Int) (ma:OA) (sa:Nat) (oa:Nat) (H':zp)=>K (.agg #[.int .i64 tc,.int .i64 nc,.slice ma sa oa]) H'):zw Tryz.prog zav Tryz.f121 [.pointer (some ⟨p,0,none⟩),.int .i64 x,.int .i64 y,.int .i64 wide,.int .i64 high] H K:=by
 rw [z1cw]
 obtain ⟨ia,ua,db,ib,nb,da,i_p,yb,bd_128,pr0,pr1,pr2,pr3,pr4,pr5,pr6,pr7,pr8,hk⟩:=h
 obtain rfl:=yb.eqn
 have zz:=z5h (W:=wide) (H:=high) ω2 ω2 ω2 ω2
 have e:(z4f ia ua da x y wide high)=_:=rfl
 have e:=e.trans (zl9 ia ua da x y wide high)
 have g0:=Grow.refl H
 refine Al.intro (fun b_1 H_1 hb_2 hl_3 g_4 o_5=>?_)
 have l_7:=g_4.1
 have g_8:=g0.trans g_4
 have l_9:=g_8.1
 have w127:=o_5.lt
 refine Al.intro (fun b_10 H_2 hb_11 hl_12 g_13 o_14=>?_)
 have o_14:Own H_2 b_10 ((([]:LN)).map fF):=o_14
 have l_16:=g_13.1
 have g_17:=g_8.trans g_13
 have l_18:=g_17.1
 have o_19:=o_5.grow g_13
 have w20:=o_19.lt
 have w126:=o_14.lt
 refine Al.intro (fun b_21 H_3 hb_22 hl_23 g24 o25=>?_)
 have l27:=g24.1
 have g28:=g_17.trans g24
 have l29:=g28.1
 have o30:=o_19.grow g24
 have w31:=o30.lt
 have o32:=o_14.grow g24
 have w33:=o32.lt
 have w125:=o25.lt
 refine Lt.setN (n:=3) o25 (nbl rfl) rfl (fun H_4 hl_34 o36 k35=>?_)
 have o36:Own H_4 b_21 [.int .i64 wide,.int .i64 high,.slice (some ⟨b_10,0,none⟩) 0 1]:=o36
 have l37:=k35.1
 have g38:=g28.keep (b:=b_21) ω2 k35
 have l39:=g38.1
 have o40:=o30.keep ω2 k35
 have w41:=o40.lt
 have o42:=o32.keep ω2 k35
 have w43:=o42.lt
 have w124:=o36.lt
 refine z1ct _ _ _ _ _ _ _ (fun (μ:Nat) (i:Int) (H_5:zp)=>∃(q1_1 q1_2 q1_4 q1_5:Int),∃q1_6:LN,∃b46:Nat,Own H_5 b_1 [.int .i64 q1_1,.int .i64 q1_2,.slice none 0 0]∧Own H_5 b46 (q1_6.map fF)∧Own H_5 b_21 [.int .i64 q1_4,.int .i64 q1_5,.slice (some ⟨b46,0,none⟩) q1_6.length 1]∧(b_21≠b_1)∧(b46≠b_1)∧(b46≠b_21)∧Grow H H_5∧H.length≤b46∧(0:Int)≤i∧((i≤(wide*high)∨i≤(0:Int)))∧(q1_6.length:Int)≤i-(0:Int)+0∧(q1_6.length:Int)≤i∧(wide*high)-i≤(μ:Int)∧z4f ia ua da x y wide high=z9g ia ua da x y wide high (μ+1) i q1_1 q1_2 q1_4 q1_5 q1_6) (Int.toNat ((wide*high)-(0:Int))) _ H_4 ?_ ?_
 ·exact ⟨_,_,_,_,_,_,ω19,o42,ω20,ω2,ω2,ω2,g38,ω2,ω7,ω7,ω7,ω7,ω2,e⟩
 ·intro μ i  H_5 hI
  obtain ⟨q1_1,q1_2,q1_4,q1_5,q1_6,b46,o44,o47,o45,n48,n49,n50,g51,l52,v_53,v_54,v_55,v_56,hμ,e⟩:=hI
  rw [z1cv]
  have e:=e.trans (zai ia ua da x y wide high μ i q1_1 q1_2 q1_4 q1_5 q1_6)
  have zy:=zvh (x:=x) (y:=y) (W:=ia) (H:=ua) (w:=wide) (h:=high) (i:=i) ω2 ω2 ω2 ω2 ω2 ω2 ω2 ω2 ω2
  have w57:=o44.lt
  have w58:=o45.lt
  have w59:=o47.lt
  have l60:=g51.1
  rw [show IntKind.wrap .i64 (wide*high)=(wide*high) from zt ω2 ω2]
  refine Br.intro (fun c61=>?_) (fun c61=>?_)
  ·have e:=e.trans (zv c61)
   have c_61':=odt c61
   refine ⟨some ⟨b46,0,none⟩,q1_6.length,1,(o45.rdC _).trans rfl,?_⟩
   refine ⟨db,da.length,nb,(z1l (zr g51 i_p) 2 (nbl rfl)).trans rfl,?_⟩
   have z62:=zca i wide
   refine ⟨ω23,?_⟩
   rw [show IntKind.wrap .i64 (Int.tdiv i wide)=(Int.tdiv i wide) from zt ω2 ω2]
   rw [show IntKind.wrap .i64 (y+(Int.tdiv i wide))=(y+(Int.tdiv i wide)) from zt ω2 ω2]
   refine ⟨ia,(z1l (zr g51 i_p) 0 (nbl rfl)).trans rfl,?_⟩
   rw [show IntKind.wrap .i64 (((y+(Int.tdiv i wide)))*ia)=(((y+(Int.tdiv i wide)))*ia) from zt ω2 ω2]
   rw [show IntKind.wrap .i64 (((((y+(Int.tdiv i wide)))*ia))+x)=(((((y+(Int.tdiv i wide)))*ia))+x) from zt ω2 ω2]
   refine ⟨ω23,?_⟩
   have z63:=za0 i wide
   have z64:=zcb i wide
   rw [show IntKind.wrap .i64 (((((((y+(Int.tdiv i wide)))*ia))+x))+(Int.tmod i wide))=(((((((y+(Int.tdiv i wide)))*ia))+x))+(Int.tmod i wide)) from zt ω2 ω2]
   obtain ⟨b65,f66,q67⟩:=((yb.grow g51)).pos ω0
   refine ⟨by omega,by omega,b65,f66,q67,?_⟩
   refine ⟨((da).getD ((((((((y+(Int.tdiv i wide)))*ia))+x))+(Int.tmod i wide)):Int).toNat 0),(yb).rd g51 q67 ω2 _,?_⟩
   refine Al.intro (fun b68 H_6 hb_69 hl_70 g71 o72=>?_)
   have o72:Own H_6 b68 (([(((da).getD ((((((((y+(Int.tdiv i wide)))*ia))+x))+(Int.tmod i wide)):Int).toNat 0))]).map fF):=o72
   have l74:=g71.1
   have g75:=g51.trans g71
   have l76:=g75.1
   have o77:=o44.grow g71
   have w78:=o77.lt
   have o79:=o45.grow g71
   have w80:=o79.lt
   have o81:=o47.grow g71
   have w82:=o81.lt
   have w112:=o72.lt
   refine ⟨_,_,o81.ownB ω3 rfl,(z2t (o72.isL ω5)),(fun h=>by cases h),ω25,?_⟩
   refine Ap.app o81 rfl rfl (fun b87 H_7 q110 hl_83 o84 k85=>?_)
   have o84:=z2l o84
   have l88:=k85.1
   have g89:=g75.keep (b:=b46) ω2 k85
   have l90:=g89.1
   have o91:=o77.keep ω2 k85
   have w92:=o91.lt
   have o93:=o79.keep ω2 k85
   have w94:=o93.lt
   have o95:=o72.keep ω2 k85
   have w96:=o95.lt
   have w111:=o84.lt
   refine Lt.set o93 (nbl rfl) (fun H_8 hl_97 o99 k98=>?_)
   have o99:Own H_8 b_21 [.int .i64 q1_4,.int .i64 q1_5,.slice (some ⟨b87,0,none⟩) (q1_6.length+1) 1]:=o99
   have l100:=k98.1
   have g101:=g89.keep (b:=b_21) ω2 k98
   have l102:=g101.1
   have o103:=o91.keep ω2 k98
   have w104:=o103.lt
   have o105:=o95.keep ω2 k98
   have w106:=o105.lt
   have o107:=o84.keep ω2 k98
   have w108:=o107.lt
   have w109:=o99.lt
   rw [show IntKind.wrap .i64 (i+1)=(i+1) from zt ω2 ω2]
   refine z1cu (μ-1) ω15 ⟨_,_,_,_,_,_,ω26,o107,ω27,ω2,ω2,ω2,g101,ω2,ω1,ω1,ω1,ω1,ω15,ω13⟩
  ·have e:=e.trans (zu c61)
   have c_61':=odf c61
   rw [zw9]
   refine ⟨q1_4,q1_5,some ⟨b46,0,none⟩,q1_6.length,1,(o45.rdN (nbl rfl)).trans rfl,?_⟩
   refine Lt.setN (n:=3) o44 (nbl rfl) rfl (fun H_9 hl_113 o115 k114=>?_)
   have o115:Own H_9 b_1 [.int .i64 q1_4,.int .i64 q1_5,.slice (some ⟨b46,0,none⟩) q1_6.length 1]:=o115
   have l116:=k114.1
   have g117:=g51.keep (b:=b_1) ω2 k114
   have l118:=g117.1
   have o119:=o45.keep ω2 k114
   have w120:=o119.lt
   have o121:=o47.keep ω2 k114
   have w122:=o121.lt
   have w123:=o115.lt
   refine ⟨q1_4,q1_5,some ⟨b46,0,none⟩,q1_6.length,1,(o115.rdN (nbl rfl)).trans rfl,?_⟩
   rw [e] at hk
   exact hk _ _ _ H_9 g117 (o121.ownS ω5 ω2)
theorem zw8:FnOk Tryz.prog 121 zuh:=FnOk.bodyF mix_ok ztk Tryz.func121 rfl ω10 ω10 fun args H=>by
 unfold z17d
 split
 ·refine ⟨?_,?_,?_,?_,fun K hk=>zw7 _ _ _ _ _ H K hk⟩
  ·intro K K' h hk;obtain ⟨ia,ua,db,ib,nb,da,i_p,yb,bd_128,pr0,pr1,pr2,pr3,pr4,pr5,pr6,pr7,pr8,k⟩:=hk;exact ⟨ia,ua,db,ib,nb,da,i_p,yb,bd_128,pr0,pr1,pr2,pr3,pr4,pr5,pr6,pr7,pr8,(fun ma sa oa H' gg ow0=>h _ _ (k ma sa oa H' gg ow0))⟩
  ·nofun
  ·intro K hk;obtain ⟨ia,ua,db,ib,nb,da,i_p,yb,bd_128,pr0,pr1,pr2,pr3,pr4,pr5,pr6,pr7,pr8,k⟩:=hk;exact z4i fun a n e H1 g o=>⟨_,_,k a n e H1 g o⟩
  ·intro _ K hk;obtain ⟨ia,ua,db,ib,nb,da,i_p,yb,bd_128,pr0,pr1,pr2,pr3,pr4,pr5,pr6,pr7,pr8,k⟩:=hk;exact ⟨ia,ua,db,ib,nb,da,i_p,yb,bd_128,pr0,pr1,pr2,pr3,pr4,pr5,pr6,pr7,pr8,(fun ma sa oa H' gg ow0=>⟨gg,k ma sa oa H' gg ow0⟩)⟩
 ·exact Nice.no
theorem z1en {W H i:Int} (h1:1≤W) (h2:1≤H) (h3:0≤i):i<W*H→0≤Int.tmod i H∧Int.tmod i H≤H-1∧0≤Int.tdiv i H∧Int.tdiv i H≤W-1∧0≤Int.tmod i H*W∧Int.tmod i H*W+Int.tdiv i H<W*H:=by
 intro h4
 rw [Int.tmod_eq_emod_of_nonneg h3,Int.tdiv_eq_ediv_of_nonneg h3]
 have a:=Int.emod_nonneg i (show H≠0 by omega)
 have b:=Int.emod_lt_of_pos i (show 0<H by omega)
 have c:0≤i / H:=Int.ediv_nonneg h3 ω2
 have d:i / H<W:=Int.ediv_lt_of_lt_mul ω2 h4
 have e:0≤i % H*W:=Int.mul_nonneg a ω2
 have f:(i % H+1)*W≤H*W:=Int.mul_le_mul_of_nonneg_right ω2 ω2
 have g:(i % H+1)*W=i % H*W+W:=by rw [Int.add_mul,Int.one_mul]
 have k:H*W=W*H:=Int.mul_comm _ _
 refine ⟨a,by omega,c,by omega,e,by omega⟩
def z9h (ia ua:Int) (da:LN):Nat→Int→Int→Int→Int→Int→LN→Int×Int×LN
 | 0,_,_,_,_,_,_=>(0,0,[])
 | μ+1,i,q1_1,q1_2,q1_4,q1_5,q1_6=>(bif decide ((i:Int)<(ia*ua)) then (z9h ia ua da μ (i+1) q1_1 q1_2 q1_4 q1_5 ((q1_6++[(((da).getD (((((Int.tmod i ua)*ia))+(Int.tdiv i ua)):Int).toNat 0))]))) else (q1_4,q1_5,q1_6))
def zak:=fun ia ua da μ i q1_1 q1_2 q1_4 q1_5 q1_6=>@z9h.eq_2 ia ua da i q1_1 q1_2 q1_4 q1_5 q1_6 μ
def z2d (ia ua:Int) (da:LN):Int×Int×LN:=(z9h ia ua da (Int.toNat ((ia*ua)-(0:Int))+1) (0:Int) 0 0 ua ia ([]:LN))
def zla:=@z2d.eq_1
def zg1 (p:Nat) (H:zp) (K:Int→Int→OA→Nat→Nat→zp→Prop):Prop:=∃(ia ua:Int),∃db:OA,∃(ib nb:Nat),∃da:LN,rdN H p 0 3=some [.int .i64 ia,.int .i64 ua,.slice db ib nb]∧IsL fF H db ib da∧da.length<1073741824∧1≤ia∧ia≤16∧1≤ua∧ua≤16∧(da.length:Int)=ia*ua∧((∀(ma:OA) (sa oa:Nat),∀H':zp,Grow H H'→OwnS fF H' H.length ma sa oa ((z2d ia ua da).2.2)→K ((z2d ia ua da).1) ((z2d ia ua da).2.1) ma sa oa H'))
theorem zod {p:Nat} {H:zp} {K:Int→Int→OA→Nat→Nat→zp→Prop} (h:∃(ia ua:Int),∃db:OA,∃(ib nb:Nat),∃da:LN,rdN H p 0 3=some [.int .i64 ia,.int .i64 ua,.slice db ib nb]∧IsL fF H db ib da∧da.length<1073741824∧1≤ia∧ia≤16∧1≤ua∧ua≤16∧(da.length:Int)=ia*ua∧((∀(ma:OA) (sa oa:Nat),∀H':zp,Grow H H'→OwnS fF H' H.length ma sa oa ((z2d ia ua da).2.2)→K ((z2d ia ua da).1) ((z2d ia ua da).2.1) ma sa oa H'))):zg1 p H K:=h
def ziv (l:LN) (W x y:Int):Nat:=l.getD (x*W+y).toNat 0
theorem zqy (W H:Int) (L:LN) (w h:Nat) (hw:W=w) (hh:H=h) (hh0:0<h):∀(μ i:Nat) (a b:Int),i≤w*h→w*h-i≤μ→
  ∀o,o=(List.range i).map (fun i:Nat=>ziv L W ((i % h:Nat):Int) ((i / h:Nat):Int))→
  z9h W H L (μ+1) (i:Int) a b H W o=(H,W,picL h w (ziv L W)):=by
 have hm:W*H=((w*h:Nat):Int):=by rw [hw,hh,Int.natCast_mul]
 intro μ
 induction μ with
 | zero=>
  intro i a b h1 h2 o ho
  rw [zak,hm,dcf ω2,cond_false,ho,show i=w*h by omega,z9m hh0]
 | succ μ ih=>
  intro i a b h1 h2 o ho
  rw [zak,hm]
  by_cases hlt:i<w*h
  ·rw [dct ω2,cond_true,show (i:Int)+1=((i+1:Nat):Int) by omega]
   refine ih (i+1) a b ω2 ω2 _ ?_
   rw [ho,List.range_succ,List.map_append]
   congr 1
   have e1:Int.tdiv (i:Int) H=((i / h:Nat):Int):=by rw [hh];rfl
   have e2:Int.tmod (i:Int) H=((i % h:Nat):Int):=by rw [hh];rfl
   rw [e1,e2];rfl
  ·rw [dcf ω2,cond_false,ho,show i=w*h by omega,z9m hh0]
theorem zga (W H:Int) (L:LN) (hw:1≤W) (hh:1≤H):z2d W H L=(H,W,picL H.toNat W.toNat (ziv L W)):=by
 rw [zla]
 have hm:W*H=((W.toNat*H.toNat:Nat):Int):=by rw [Int.natCast_mul,Int.toNat_of_nonneg ω2,Int.toNat_of_nonneg ω2]
 exact zqy W H L W.toNat H.toNat ω2 ω2 ω2 _ 0 0 0 (Nat.zero_le _) ω2 [] rfl
theorem ze1 (W H:Int) (L:LN) (hw:1≤W) (hh:1≤H):(z2d W H L).1=H∧(z2d W H L).2.1=W∧((z2d W H L).2.2.length:Int)=W*H:=by
 rw [zga W H L hw hh]
 refine ⟨rfl,rfl,?_⟩
 show ((picL H.toNat W.toNat (ziv L W)).length:Int)=_
 rw [z2h,Int.natCast_mul,Int.toNat_of_nonneg ω2,Int.toNat_of_nonneg ω2]
def zaw:Env:=envOf []
def z17h (args:List Value) (H:zp):(Value→zp→Prop)→Prop:=match args with
 | [.pointer (some ⟨p,0,none⟩)]=>fun K=>zg1 p H fun (tc:Int) (nc:Int) (ma:OA) (sa:Nat) (oa:Nat) (H':zp)=>K (.agg #[.int .i64 tc,.int .i64 nc,.slice ma sa oa]) H'
 | _=>fun _=>False
def z18q:FSpec:={F:=z17h,quiet:=false,tame:=true}
theorem z1df (p:Nat) (H:zp) (K:KT):zw Tryz.prog zaw Tryz.f126 [.pointer (some ⟨p,0,none⟩)] H K=
 (Al [.int .i64 0,.int .i64 0,.slice none 0 0] H fun b1 H1=>∃x1:Int,  rdC H1 p 0=some (.int .i64 x1)∧∃x2:Int,  rdC H1 p 1=some (.int .i64 x2)∧Al [] H1 fun b2 H2=>Al [.int .i64 0,.int .i64 0,.slice none 0 0] H2 fun b3 H3=>isOwn H3 b3∧(∃l,rdN H3 b3 0 3=some l)∧Lt (setN H3 b3 0 [.int .i64 x2,.int .i64 x1,.slice (some ⟨b2,0,none⟩) 0 1]) fun H4=>z1n (exL Tryz.prog zaw (cl (cl (cr (cl (cr (cr (zq Tryz.f126))))))) 29 4 [(0,12)]) (.pointer (some ⟨p,0,none⟩)::ud::.pointer (some ⟨b1,0,none⟩)::.pointer (some ⟨b3,0,none⟩)::.int .i64 0::ud53 []) H4 (z1a 0 (seqQ (exL Tryz.prog zaw (cr (cr (cr (zq Tryz.f126)))) 4 4 []) (retK Tryz.prog Tryz.f126 K)))):=by kernel_rfl
abbrev zdr (b1 b3 p:Nat) (i:Int)  :List Value:=(.pointer (some ⟨p,0,none⟩)::ud::.pointer (some ⟨b1,0,none⟩)::.pointer (some ⟨b3,0,none⟩)::.int .i64 i::ud53 [])
theorem z1de (b1 b3 p:Nat) (i:Int)  (H:zp) (R:Post):exL Tryz.prog zaw (cl (cl (cr (cl (cr (cr (zq Tryz.f126))))))) 29 4 [(0,12)] (zdr b1 b3 p i) H R=
 (∃x3:Int,  rdC H p 0=some (.int .i64 x3)∧∃x4:Int,  rdC H p 1=some (.int .i64 x4)∧Br (decide ((i:Int)<IntKind.wrap .i64 (x3*x4))) (∃kj:OA,∃(ij zj:Nat),  rdC H b3 2=some (.slice kj ij zj)∧∃ai:OA,∃(zh ki:Nat),  rdC H p 2=some (.slice ai zh ki)∧∃x7:Int,  rdC H p 1=some (.int .i64 x7)∧x7≠(0:Int)∧∃x8:Int,  rdC H p 0=some (.int .i64 x8)∧∃x9:Int,  rdC H p 1=some (.int .i64 x9)∧x9≠(0:Int)∧(0:Int)≤IntKind.wrap .i64 ((IntKind.wrap .i64 ((Int.tmod i x7)*x8))+(IntKind.wrap .i64 (Int.tdiv i x9)))∧IntKind.wrap .i64 ((IntKind.wrap .i64 ((Int.tmod i x7)*x8))+(IntKind.wrap .i64 (Int.tdiv i x9)))<(zh:Int)∧∃b4 f1,(ai:OA)=some ⟨b4,f1,none⟩∧∃x10:Nat,  rdC H b4 (f1+(IntKind.wrap .i64 ((IntKind.wrap .i64 ((Int.tmod i x7)*x8))+(IntKind.wrap .i64 (Int.tdiv i x9))):Int).toNat*1)=some (.float .f32 x10)∧Al [.float .f32 x10] H fun b5 H5=>∃o1 w1:List Value,ownB H5 kj ij zj 1=some o1∧rdS H5 (some ⟨b5,0,none⟩) (1*1)=some w1∧((kj:OA)=none→0<(1:Nat))∧(ij:Nat)+1<most∧Ap H5 (z3c H5 kj++[some ⟨o1++w1,true⟩]) fun b6 H6=>isOwn H6 b3∧(∃l,rdN H6 b3 2 1=some l)∧Lt (setC H6 b3 2 (.slice (some ⟨b6,0,none⟩) (ij+1) 1)) fun H7=>R .normal (.pointer (some ⟨p,0,none⟩)::ud::.pointer (some ⟨b1,0,none⟩)::.pointer (some ⟨b3,0,none⟩)::.int .i64 (IntKind.wrap .i64 (i+1))::ud53 []) H7) (R (.exit 0) (ud2 (.pointer (some ⟨b1,0,none⟩)::.pointer (some ⟨b3,0,none⟩)::ud54 [])) H)):=by kernel_rfl
def zmq (b1 b3 p:Nat) (Inv:Nat→Int→zp→Prop):Nat→List Value→zp→Prop:=fun μ tm H=>∃i:Int,tm=(zdr b1 b3 p i)∧Inv μ i H
theorem z1db (b1 b3 p:Nat) {Q:Post} (Inv:Nat→Int→zp→Prop) (ν:Nat) (i:Int)  (H:zp) (h0:Inv ν i H)
  (hs:∀(μ:Nat) (i:Int)  (H:zp),Inv μ i H→exL Tryz.prog zaw (cl (cl (cr (cl (cr (cr (zq Tryz.f126))))))) 29 4 [(0,12)] (zdr b1 b3 p i) H (z1b (zmq b1 b3 p Inv) μ Q)):z1n (exL Tryz.prog zaw (cl (cl (cr (cl (cr (cr (zq Tryz.f126))))))) 29 4 [(0,12)]) (zdr b1 b3 p i) H Q:=
 ⟨zmq b1 b3 p Inv,ν,⟨i,rfl,h0⟩,fun μ tm H h=>by obtain ⟨i,rfl,hI⟩:=h;exact hs μ i  H hI⟩
theorem z1dc {b1 b3 p:Nat} {Q:Post} {Inv:Nat→Int→zp→Prop} {μ:Nat} (μ':Nat) {i:Int}  {H:zp} (hm:μ'<μ) (hI:Inv μ' i H):z1b (zmq b1 b3 p Inv) μ Q .normal (zdr b1 b3 p i) H:=⟨μ',hm,i,rfl,hI⟩
theorem zwi (b1 b3:Nat) (H:zp) (K:KT)  {I:Nat→List Value→zp→Prop} {μ:Nat}:z1b I μ (z1a 0 (seqQ (exL Tryz.prog zaw (cr (cr (cr (zq Tryz.f126)))) 4 4 []) (retK Tryz.prog Tryz.f126 K))) (.exit 0) (ud2 (.pointer (some ⟨b1,0,none⟩)::.pointer (some ⟨b3,0,none⟩)::ud54 [])) H=
 (∃(c1 c2:Int),∃vg:OA,∃(xg wg:Nat),  rdN H b3 0 3=some [.int .i64 c1,.int .i64 c2,.slice vg xg wg]∧isOwn H b1∧(∃l,rdN H b1 0 3=some l)∧Lt (setN H b1 0 [.int .i64 c1,.int .i64 c2,.slice vg xg wg]) fun H8=>∃(c4 c5:Int),∃eh:OA,∃(gh fh:Nat),  rdN H8 b1 0 3=some [.int .i64 c4,.int .i64 c5,.slice eh gh fh]∧K (.agg #[.int .i64 c4,.int .i64 c5,.slice eh gh fh]) H8):=by kernel_rfl
theorem zto:∀g,FnOk Tryz.prog g (zaw g):=FnOk.envOf (by
 intro x hx;cases hx)
theorem zwh (p:Nat) (H:zp) (K:KT) (h:zg1 p H fun (tc:Int) (nc:Int) (ma:OA) (sa:Nat) (oa:Nat) (H':zp)=>K (.agg #[.int .i64 tc,.int .i64 nc,.slice ma sa oa]) H'):zw Tryz.prog zaw Tryz.f126 [.pointer (some ⟨p,0,none⟩)] H K:=by
 rw [z1df]
 obtain ⟨ia,ua,db,ib,nb,da,i_p,yb,bd_128,pr0,pr1,pr2,pr3,pr4,hk⟩:=h
 obtain rfl:=yb.eqn
 have zz:=z5h (W:=ia) (H:=ua) ω2 ω2 ω2 ω2
 have e:(z2d ia ua da)=_:=rfl
 have e:=e.trans (zla ia ua da)
 have g0:=Grow.refl H
 refine Al.intro (fun b_1 H_1 hb_2 hl_3 g_4 o_5=>?_)
 have l_7:=g_4.1
 have g_8:=g0.trans g_4
 have l_9:=g_8.1
 have w127:=o_5.lt
 refine ⟨ia,(z1l (zr g_8 i_p) 0 (nbl rfl)).trans rfl,?_⟩
 refine ⟨ua,(z1l (zr g_8 i_p) 1 (nbl rfl)).trans rfl,?_⟩
 refine Al.intro (fun b_10 H_2 hb_11 hl_12 g_13 o_14=>?_)
 have o_14:Own H_2 b_10 ((([]:LN)).map fF):=o_14
 have l_16:=g_13.1
 have g_17:=g_8.trans g_13
 have l_18:=g_17.1
 have o_19:=o_5.grow g_13
 have w20:=o_19.lt
 have w126:=o_14.lt
 refine Al.intro (fun b_21 H_3 hb_22 hl_23 g24 o25=>?_)
 have l27:=g24.1
 have g28:=g_17.trans g24
 have l29:=g28.1
 have o30:=o_19.grow g24
 have w31:=o30.lt
 have o32:=o_14.grow g24
 have w33:=o32.lt
 have w125:=o25.lt
 refine Lt.setN (n:=3) o25 (nbl rfl) rfl (fun H_4 hl_34 o36 k35=>?_)
 have o36:Own H_4 b_21 [.int .i64 ua,.int .i64 ia,.slice (some ⟨b_10,0,none⟩) 0 1]:=o36
 have l37:=k35.1
 have g38:=g28.keep (b:=b_21) ω2 k35
 have l39:=g38.1
 have o40:=o30.keep ω2 k35
 have w41:=o40.lt
 have o42:=o32.keep ω2 k35
 have w43:=o42.lt
 have w124:=o36.lt
 refine z1db _ _ _ (fun (μ:Nat) (i:Int) (H_5:zp)=>∃(q1_1 q1_2 q1_4 q1_5:Int),∃q1_6:LN,∃b46:Nat,Own H_5 b_1 [.int .i64 q1_1,.int .i64 q1_2,.slice none 0 0]∧Own H_5 b46 (q1_6.map fF)∧Own H_5 b_21 [.int .i64 q1_4,.int .i64 q1_5,.slice (some ⟨b46,0,none⟩) q1_6.length 1]∧(b_21≠b_1)∧(b46≠b_1)∧(b46≠b_21)∧Grow H H_5∧H.length≤b46∧(0:Int)≤i∧((i≤(ia*ua)∨i≤(0:Int)))∧(q1_6.length:Int)≤i-(0:Int)+0∧(q1_6.length:Int)≤i∧(ia*ua)-i≤(μ:Int)∧z2d ia ua da=z9h ia ua da (μ+1) i q1_1 q1_2 q1_4 q1_5 q1_6) (Int.toNat ((ia*ua)-(0:Int))) _ H_4 ?_ ?_
 ·exact ⟨_,_,_,_,_,_,ω19,o42,ω20,ω2,ω2,ω2,g38,ω2,ω7,ω7,ω7,ω7,ω2,e⟩
 ·intro μ i  H_5 hI
  obtain ⟨q1_1,q1_2,q1_4,q1_5,q1_6,b46,o44,o47,o45,n48,n49,n50,g51,l52,v_53,v_54,v_55,v_56,hμ,e⟩:=hI
  rw [z1de]
  have e:=e.trans (zak ia ua da μ i q1_1 q1_2 q1_4 q1_5 q1_6)
  have zy:=z1en (W:=ia) (H:=ua) (i:=i) ω2 ω2 ω2
  have w57:=o44.lt
  have w58:=o45.lt
  have w59:=o47.lt
  have l60:=g51.1
  refine ⟨ia,(z1l (zr g51 i_p) 0 (nbl rfl)).trans rfl,?_⟩
  refine ⟨ua,(z1l (zr g51 i_p) 1 (nbl rfl)).trans rfl,?_⟩
  rw [show IntKind.wrap .i64 (ia*ua)=(ia*ua) from zt ω2 ω2]
  refine Br.intro (fun c61=>?_) (fun c61=>?_)
  ·have e:=e.trans (zv c61)
   have c_61':=odt c61
   refine ⟨some ⟨b46,0,none⟩,q1_6.length,1,(o45.rdC _).trans rfl,?_⟩
   refine ⟨db,da.length,nb,(z1l (zr g51 i_p) 2 (nbl rfl)).trans rfl,?_⟩
   refine ⟨ua,(z1l (zr g51 i_p) 1 (nbl rfl)).trans rfl,?_⟩
   refine ⟨ω23,?_⟩
   have z62:=za0 i ua
   have z63:=zcb i ua
   refine ⟨ia,(z1l (zr g51 i_p) 0 (nbl rfl)).trans rfl,?_⟩
   rw [show IntKind.wrap .i64 ((Int.tmod i ua)*ia)=((Int.tmod i ua)*ia) from zt ω2 ω2]
   refine ⟨ua,(z1l (zr g51 i_p) 1 (nbl rfl)).trans rfl,?_⟩
   have z64:=zca i ua
   refine ⟨ω23,?_⟩
   rw [show IntKind.wrap .i64 (Int.tdiv i ua)=(Int.tdiv i ua) from zt ω2 ω2]
   rw [show IntKind.wrap .i64 ((((Int.tmod i ua)*ia))+(Int.tdiv i ua))=((((Int.tmod i ua)*ia))+(Int.tdiv i ua)) from zt ω2 ω2]
   obtain ⟨b65,f66,q67⟩:=((yb.grow g51)).pos ω0
   refine ⟨by omega,by omega,b65,f66,q67,?_⟩
   refine ⟨((da).getD (((((Int.tmod i ua)*ia))+(Int.tdiv i ua)):Int).toNat 0),(yb).rd g51 q67 ω2 _,?_⟩
   refine Al.intro (fun b68 H_6 hb_69 hl_70 g71 o72=>?_)
   have o72:Own H_6 b68 (([(((da).getD (((((Int.tmod i ua)*ia))+(Int.tdiv i ua)):Int).toNat 0))]).map fF):=o72
   have l74:=g71.1
   have g75:=g51.trans g71
   have l76:=g75.1
   have o77:=o44.grow g71
   have w78:=o77.lt
   have o79:=o45.grow g71
   have w80:=o79.lt
   have o81:=o47.grow g71
   have w82:=o81.lt
   have w112:=o72.lt
   refine ⟨_,_,o81.ownB ω3 rfl,(z2t (o72.isL ω5)),(fun h=>by cases h),ω25,?_⟩
   refine Ap.app o81 rfl rfl (fun b87 H_7 q110 hl_83 o84 k85=>?_)
   have o84:=z2l o84
   have l88:=k85.1
   have g89:=g75.keep (b:=b46) ω2 k85
   have l90:=g89.1
   have o91:=o77.keep ω2 k85
   have w92:=o91.lt
   have o93:=o79.keep ω2 k85
   have w94:=o93.lt
   have o95:=o72.keep ω2 k85
   have w96:=o95.lt
   have w111:=o84.lt
   refine Lt.set o93 (nbl rfl) (fun H_8 hl_97 o99 k98=>?_)
   have o99:Own H_8 b_21 [.int .i64 q1_4,.int .i64 q1_5,.slice (some ⟨b87,0,none⟩) (q1_6.length+1) 1]:=o99
   have l100:=k98.1
   have g101:=g89.keep (b:=b_21) ω2 k98
   have l102:=g101.1
   have o103:=o91.keep ω2 k98
   have w104:=o103.lt
   have o105:=o95.keep ω2 k98
   have w106:=o105.lt
   have o107:=o84.keep ω2 k98
   have w108:=o107.lt
   have w109:=o99.lt
   rw [show IntKind.wrap .i64 (i+1)=(i+1) from zt ω2 ω2]
   refine z1dc (μ-1) ω15 ⟨_,_,_,_,_,_,ω26,o107,ω27,ω2,ω2,ω2,g101,ω2,ω1,ω1,ω1,ω1,ω15,ω13⟩
  ·have e:=e.trans (zu c61)
   have c_61':=odf c61
   rw [zwi]
   refine ⟨q1_4,q1_5,some ⟨b46,0,none⟩,q1_6.length,1,(o45.rdN (nbl rfl)).trans rfl,?_⟩
   refine Lt.setN (n:=3) o44 (nbl rfl) rfl (fun H_9 hl_113 o115 k114=>?_)
   have o115:Own H_9 b_1 [.int .i64 q1_4,.int .i64 q1_5,.slice (some ⟨b46,0,none⟩) q1_6.length 1]:=o115
   have l116:=k114.1
   have g117:=g51.keep (b:=b_1) ω2 k114
   have l118:=g117.1
   have o119:=o45.keep ω2 k114
   have w120:=o119.lt
   have o121:=o47.keep ω2 k114
   have w122:=o121.lt
   have w123:=o115.lt
   refine ⟨q1_4,q1_5,some ⟨b46,0,none⟩,q1_6.length,1,(o115.rdN (nbl rfl)).trans rfl,?_⟩
   rw [e] at hk
   exact hk _ _ _ H_9 g117 (o121.ownS ω5 ω2)
theorem z1dd:FnOk Tryz.prog 126 z18q:=FnOk.bodyF mix_ok zto Tryz.func126 rfl ω10 ω10 fun args H=>by
 unfold z17h
 split
 ·refine ⟨?_,?_,?_,?_,fun K hk=>zwh _ H K hk⟩
  ·intro K K' h hk;obtain ⟨ia,ua,db,ib,nb,da,i_p,yb,bd_128,pr0,pr1,pr2,pr3,pr4,k⟩:=hk;exact ⟨ia,ua,db,ib,nb,da,i_p,yb,bd_128,pr0,pr1,pr2,pr3,pr4,(fun ma sa oa H' gg ow0=>h _ _ (k ma sa oa H' gg ow0))⟩
  ·nofun
  ·intro K hk;obtain ⟨ia,ua,db,ib,nb,da,i_p,yb,bd_128,pr0,pr1,pr2,pr3,pr4,k⟩:=hk;exact z4i fun a n e H1 g o=>⟨_,_,k a n e H1 g o⟩
  ·intro _ K hk;obtain ⟨ia,ua,db,ib,nb,da,i_p,yb,bd_128,pr0,pr1,pr2,pr3,pr4,k⟩:=hk;exact ⟨ia,ua,db,ib,nb,da,i_p,yb,bd_128,pr0,pr1,pr2,pr3,pr4,(fun ma sa oa H' gg ow0=>⟨gg,k ma sa oa H' gg ow0⟩)⟩
 ·exact Nice.no

def z5p (ab:LN) (i:Int):Nat:=((ab).getD ((if ((if (i:Int)<((ab.length:Int)-1) then i else ((ab.length:Int)-1)):Int) > 0 then (if (i:Int)<((ab.length:Int)-1) then i else ((ab.length:Int)-1)) else 0):Int).toNat 0)
def zbf:=@z5p.eq_1
def zfy (zb:OA) (vb jc:Nat) (i:Int) (H:zp) (K:Nat→zp→Prop):Prop:=∃ab:LN,IsL fF H zb vb ab∧ab.length<1073741824∧1≤ab.length∧K (z5p ab i) H
theorem zhm {zb:OA} {vb jc:Nat} {i:Int} {H:zp} {K:Nat→zp→Prop} (h:∃ab:LN,IsL fF H zb vb ab∧ab.length<1073741824∧1≤ab.length∧K (z5p ab i) H):zfy zb vb jc i H K:=h

def zse:Env:=envOf []
def z16f (args:List Value) (H:zp):(Value→zp→Prop)→Prop:=match args with
 | [.slice zb vb jc,.int .i64 i]=>fun K=>zfy zb vb jc i H fun (r1:Nat) (H':zp)=>K (.float .f32 r1) H'
 | _=>fun _=>False
def z17v:FSpec:={F:=z16f,quiet:=true,tame:=false}
theorem f10z_vc (zb:OA) (vb jc:Nat) (i:Int) (H:zp) (K:KT):zw Tryz.prog zse Tryz.f180 [.slice zb vb jc,.int .i64 i] H K=
 ((0:Int)≤(if ((if (i:Int)<IntKind.wrap .i64 ((vb:Int)-1) then i else IntKind.wrap .i64 ((vb:Int)-1)):Int) > 0 then (if (i:Int)<IntKind.wrap .i64 ((vb:Int)-1) then i else IntKind.wrap .i64 ((vb:Int)-1)) else 0)∧(if ((if (i:Int)<IntKind.wrap .i64 ((vb:Int)-1) then i else IntKind.wrap .i64 ((vb:Int)-1)):Int) > 0 then (if (i:Int)<IntKind.wrap .i64 ((vb:Int)-1) then i else IntKind.wrap .i64 ((vb:Int)-1)) else 0)<(vb:Int)∧∃b1 f1,(zb:OA)=some ⟨b1,f1,none⟩∧∃x1:Nat,  rdC H b1 (f1+((if ((if (i:Int)<IntKind.wrap .i64 ((vb:Int)-1) then i else IntKind.wrap .i64 ((vb:Int)-1)):Int) > 0 then (if (i:Int)<IntKind.wrap .i64 ((vb:Int)-1) then i else IntKind.wrap .i64 ((vb:Int)-1)) else 0):Int).toNat*1)=some (.float .f32 x1)∧K (.float .f32 x1) H):=by kernel_rfl
theorem zsf:∀g,FnOk Tryz.prog g (zse g):=FnOk.envOf (by
 intro x hx;cases hx)
theorem f10z_main (zb:OA) (vb jc:Nat) (i:Int) (H:zp) (K:KT) (h:zfy zb vb jc i H fun (r1:Nat) (H':zp)=>K (.float .f32 r1) H'):zw Tryz.prog zse Tryz.f180 [.slice zb vb jc,.int .i64 i] H K:=by
 rw [f10z_vc]
 obtain ⟨ab,i_list,bd_4,pr0,hk⟩:=h
 obtain rfl:=i_list.eqn
 have e:(z5p ab i)=_:=rfl
 have e:=e.trans (zbf ab i)
 have g0:=Grow.refl H
 rw [show IntKind.wrap .i64 ((ab.length:Int)-1)=((ab.length:Int)-1) from zt ω2 ω2]
 obtain ⟨b_1,f_2,q_3⟩:=((i_list.grow g0)).pos ω0
 refine ⟨by omega,by omega,b_1,f_2,q_3,?_⟩
 refine ⟨((ab).getD ((if ((if (i:Int)<((ab.length:Int)-1) then i else ((ab.length:Int)-1)):Int) > 0 then (if (i:Int)<((ab.length:Int)-1) then i else ((ab.length:Int)-1)) else 0):Int).toNat 0),(i_list).rd g0 q_3 ω2 _,?_⟩
 rw [e] at hk
 exact hk
theorem f10z_ok:FnOk Tryz.prog 180 z17v:=FnOk.bodyF mix_ok zsf Tryz.func180 rfl ω10 ω10 fun args H=>by
 unfold z16f
 split
 ·refine ⟨?_,?_,?_,?_,fun K hk=>f10z_main _ _ _ _ H K hk⟩
  ·intro K K' h hk;obtain ⟨ab,i_list,bd_4,pr0,k⟩:=hk;exact ⟨ab,i_list,bd_4,pr0,h _ _ k⟩
  ·intro _ K hk;obtain ⟨ab,i_list,bd_4,pr0,k⟩:=hk;exact ⟨_,k,fun K' k'=>⟨ab,i_list,bd_4,pr0,k'⟩⟩
  ·intro K hk;obtain ⟨ab,i_list,bd_4,pr0,k⟩:=hk;exact ⟨_,_,k⟩
  ·nofun
 ·exact Nice.no
def z6p (k:Int) (w:Nat) (low high:LN):LN:=bif Int.tmod k 2==0 then high.mapIdx (fun i x=>fadd .f32 x (fmul .f32 w (fadd .f32 (low.getD i 0) (z5p low ((i:Int)+1))))) else high
def zas (k:Int) (w:Nat) (low high:LN):LN:=bif Int.tmod k 2==0 then low else low.mapIdx (fun i x=>fadd .f32 x (fmul .f32 w (fadd .f32 (z5p high ((i:Int)-1)) (z5p high (i:Int)))))
@[simp] theorem z3a (k:Int) (w:Nat) (low high:LN):(z6p k w low high).length=high.length:=by
 unfold z6p;cases (Int.tmod k 2==0)<;>simp
@[simp] theorem z4h (k:Int) (w:Nat) (low high:LN):(zas k w low high).length=low.length:=by
 unfold zas;cases (Int.tmod k 2==0)<;>simp
def z9e (ye td:LN) (k:Int) (w:Nat):Nat→Int→LN→LN×LN
 | 0,_,_=>([],[])
 | μ+1,i,y1_1=>(bif decide ((i:Int)<(td.length:Int)) then (z9e ye td k w μ (i+1) (((y1_1).set (i:Int).toNat ((fadd .f32 (((y1_1).getD (i:Int).toNat 0)) (fmul .f32 w (fadd .f32 (((ye).getD (i:Int).toNat 0)) ((z5p ye (i+1)))))))))) else (ye,y1_1))
def zeg:=fun ye td k w μ i y1_1=>@z9e.eq_2 ye td k w i y1_1 μ
def z9f (ye td:LN) (k:Int) (w:Nat):Nat→Int→LN→LN×LN
 | 0,_,_=>([],[])
 | μ+1,i9,y2_1=>(bif decide ((i9:Int)<(ye.length:Int)) then (z9f ye td k w μ (i9+1) (((y2_1).set (i9:Int).toNat ((fadd .f32 (((y2_1).getD (i9:Int).toNat 0)) (fmul .f32 w (fadd .f32 ((z5p td (i9-1))) (z5p td i9)))))))) else (y2_1,td))
def zeh:=fun ye td k w μ i9 y2_1=>@z9f.eq_2 ye td k w i9 y2_1 μ
def zef (ye td:LN) (k:Int) (w:Nat):LN×LN:=((bif (Int.tmod k 2:Int)==0 then (z9e ye td k w (Int.toNat ((td.length:Int)-(0:Int))+1) (0:Int) td) else (z9f ye td k w (Int.toNat ((ye.length:Int)-(0:Int))+1) (0:Int) ye)))
def zl5:=@zef.eq_1
def zj7 (jd:OA) (sd zd:Nat) (ac:OA) (cc ic:Nat) (k:Int) (w:Nat) (H:zp) (K:zp→Prop):Prop:=∃(lo lob:Nat),∃(ye td:LN),OwnS fF H lo jd sd zd ye∧OwnS fF H lob ac cc ic td∧SepA jd ac∧ye.length<1073741824∧td.length<1073741824∧td.length≤ye.length∧1≤td.length∧((∀H':zp,z3b jd ac H H'→OwnS fF H' lo jd sd zd (zas k w ye td)→OwnS fF H' lob ac cc ic (z6p k w ye td)→K  H'))
theorem zo1 {jd:OA} {sd zd:Nat} {ac:OA} {cc ic:Nat} {k:Int} {w:Nat} {H:zp} {K:zp→Prop} (h:∃(lo lob:Nat),∃(ye td:LN),OwnS fF H lo jd sd zd ye∧OwnS fF H lob ac cc ic td∧SepA jd ac∧ye.length<1073741824∧td.length<1073741824∧td.length≤ye.length∧1≤td.length∧((∀H':zp,z3b jd ac H H'→OwnS fF H' lo jd sd zd (zas k w ye td)→OwnS fF H' lob ac cc ic (z6p k w ye td)→K  H'))):zj7 jd sd zd ac cc ic k w H K:=h
theorem z7l (W ys:LN) (i:Nat) (hi:i<ys.length) (hl:W.length=ys.length):(W.take i++ys.drop i).getD i 0=ys.getD i 0:=by
 rw [List.getD_eq_getElem?_getD,List.getD_eq_getElem?_getD,List.getElem?_append_right (by simp;omega)]
 have:(W.take i).length=i:=by simp;omega
 rw [this,Nat.sub_self,List.getElem?_drop,Nat.add_zero]
theorem z12f (low high:LN) (k:Int) (w:Nat) (W:LN) (hW:W=high.mapIdx (fun i x=>fadd .f32 x (fmul .f32 w (fadd .f32 (low.getD i 0) (z5p low ((i:Int)+1)))))):
  ∀(μ i:Nat),i≤high.length→high.length-i<μ→z9e low high k w μ (i:Int) (W.take i++high.drop i)=(low,W):=by
 have hl:W.length=high.length:=by rw [hW];simp
 intro μ
 induction μ with
 | zero=>intro i _ h;omega
 | succ μ ih=>
  intro i hi hm
  rw [zeg]
  by_cases h:i<high.length
  ·rw [dct (show (i:Int)<(high.length:Int) by omega),cond_true,Int.toNat_natCast]
   have:=ih (i+1) ω2 ω2
   rw [←this,z3o W high i h hl]
   ·rfl
   ·rw [z7l W high i h hl,hW]
    simp [List.getD_eq_getElem?_getD,h]
  ·have e:i=high.length:=by omega
   rw [dcf (show ¬(i:Int)<(high.length:Int) by omega),cond_false,e]
   simp [←hl]
theorem z12g (low high:LN) (k:Int) (w:Nat) (W:LN) (hW:W=low.mapIdx (fun i x=>fadd .f32 x (fmul .f32 w (fadd .f32 (z5p high ((i:Int)-1)) (z5p high (i:Int)))))):
  ∀(μ i:Nat),i≤low.length→low.length-i<μ→z9f low high k w μ (i:Int) (W.take i++low.drop i)=(W,high):=by
 have hl:W.length=low.length:=by rw [hW];simp
 intro μ
 induction μ with
 | zero=>intro i _ h;omega
 | succ μ ih=>
  intro i hi hm
  rw [zeh]
  by_cases h:i<low.length
  ·rw [dct (show (i:Int)<(low.length:Int) by omega),cond_true,Int.toNat_natCast]
   have:=ih (i+1) ω2 ω2
   rw [←this,z3o W low i h hl]
   ·rfl
   ·rw [z7l W low i h hl,hW]
    simp [List.getD_eq_getElem?_getD,h]
  ·have e:i=low.length:=by omega
   rw [dcf (show ¬(i:Int)<(low.length:Int) by omega),cond_false,e]
   simp [←hl]
theorem z12h (low high:LN) (k:Int) (w:Nat):zef low high k w=(zas k w low high,z6p k w low high):=by
 rw [zl5]
 unfold zas z6p
 cases h:(Int.tmod k 2==0)
 ·rw [cond_false,cond_false,cond_false]
  have:=z12g low high k w _ rfl (Int.toNat ((low.length:Int)-0)+1) 0 ω2 ω2
  simpa using this
 ·rw [cond_true,cond_true,cond_true]
  have:=z12f low high k w _ rfl (Int.toNat ((high.length:Int)-0)+1) 0 ω2 ω2
  simpa using this
def z6e:Env:=envOf [(180,z17v)]
def z16v (args:List Value) (H:zp):(Value→zp→Prop)→Prop:=match args with
 | [.slice jd sd zd,.slice ac cc ic,.int .i64 k,.float .f32 w]=>fun K=>zj7 jd sd zd ac cc ic k w H fun  (H':zp)=>K (.tuple #[]) H'
 | _=>fun _=>False
def zug:FSpec:={F:=z16v,quiet:=false,tame:=false}
theorem z1cd (jd:OA) (sd zd:Nat) (ac:OA) (cc ic:Nat) (k:Int) (w:Nat) (H:zp) (K:KT):zw Tryz.prog z6e Tryz.f175 [.slice jd sd zd,.slice ac cc ic,.int .i64 k,.float .f32 w] H K=
 (2≠(0:Int)∧Br ((Int.tmod k 2:Int)==0) (z1n (exL Tryz.prog z6e (cl (cl (cr (cl (cl (cr (cl (zq Tryz.f175)))))))) 267 0 [(0,0)]) (.slice jd sd zd::.slice ac cc ic::ud::.float .f32 w::ud4 (.int .i64 0::ud53 [])) H (z1a 0 (seqQ (exL Tryz.prog z6e (cr (cl (cr (cl (zq Tryz.f175))))) 11 0 []) (seqQ (exL Tryz.prog z6e (cr (zq Tryz.f175)) 0 0 []) (retK Tryz.prog Tryz.f175 K))))) (z1n (exL Tryz.prog z6e (cl (cl (cr (cr (zq Tryz.f175))))) 523 0 [(2,0)]) (.slice jd sd zd::.slice ac cc ic::ud::.float .f32 w::ud5 (.int .i64 0::ud52 [])) H (z1a 2 (retK Tryz.prog Tryz.f175 K)))):=by kernel_rfl
abbrev zdk (ac:OA) (ic cc:Nat) (jd:OA) (zd sd w:Nat) (i:Int)  :List Value:=(.slice jd sd zd::.slice ac cc ic::ud::.float .f32 w::ud4 (.int .i64 i::ud53 []))
theorem z1cb (ac:OA) (ic cc:Nat) (jd:OA) (zd sd w:Nat) (i:Int)  (H:zp) (R:Post):exL Tryz.prog z6e (cl (cl (cr (cl (cl (cr (cl (zq Tryz.f175)))))))) 267 0 [(0,0)] (zdk ac ic cc jd zd sd w i) H R=
 (Br (decide ((i:Int)<(cc:Int))) ((0:Int)≤i∧i<(cc:Int)∧∃b1 f1,(ac:OA)=some ⟨b1,f1,none⟩∧∃x1:Nat,  rdC H b1 (f1+(i:Int).toNat*1)=some (.float .f32 x1)∧(0:Int)≤i∧i<(sd:Int)∧∃b2 f2,(jd:OA)=some ⟨b2,f2,none⟩∧∃x2:Nat,  rdC H b2 (f2+(i:Int).toNat*1)=some (.float .f32 x2)∧zfy jd sd zd (IntKind.wrap .i64 (i+1)) H fun (r1:Nat) (H1:zp)=>(0:Int)≤i∧i<(cc:Int)∧∃b3 f3,(ac:OA)=some ⟨b3,f3,none⟩∧isOwn H1 b3∧(∃l,rdN H1 b3 (f3+(i:Int).toNat*1) 1=some l)∧Lt (setC H1 b3 (f3+(i:Int).toNat*1) (.float .f32 (fadd .f32 x1 (fmul .f32 w (fadd .f32 x2 r1))))) fun H2=>R .normal (.slice jd sd zd::.slice ac cc ic::ud::.float .f32 w::ud4 (.int .i64 (IntKind.wrap .i64 (i+1))::ud53 [])) H2) (R (.exit 0) (ud62 []) H)):=by kernel_rfl
def zmh (ac:OA) (ic cc:Nat) (jd:OA) (zd sd w:Nat) (Inv:Nat→Int→zp→Prop):Nat→List Value→zp→Prop:=fun μ tm H=>∃i:Int,tm=(zdk ac ic cc jd zd sd w i)∧Inv μ i H
theorem z1c7 (ac:OA) (ic cc:Nat) (jd:OA) (zd sd w:Nat) {Q:Post} (Inv:Nat→Int→zp→Prop) (ν:Nat) (i:Int)  (H:zp) (h0:Inv ν i H)
  (hs:∀(μ:Nat) (i:Int)  (H:zp),Inv μ i H→exL Tryz.prog z6e (cl (cl (cr (cl (cl (cr (cl (zq Tryz.f175)))))))) 267 0 [(0,0)] (zdk ac ic cc jd zd sd w i) H (z1b (zmh ac ic cc jd zd sd w Inv) μ Q)):z1n (exL Tryz.prog z6e (cl (cl (cr (cl (cl (cr (cl (zq Tryz.f175)))))))) 267 0 [(0,0)]) (zdk ac ic cc jd zd sd w i) H Q:=
 ⟨zmh ac ic cc jd zd sd w Inv,ν,⟨i,rfl,h0⟩,fun μ tm H h=>by obtain ⟨i,rfl,hI⟩:=h;exact hs μ i  H hI⟩
theorem z1c9 {ac:OA} {ic cc:Nat} {jd:OA} {zd sd w:Nat} {Q:Post} {Inv:Nat→Int→zp→Prop} {μ:Nat} (μ':Nat) {i:Int}  {H:zp} (hm:μ'<μ) (hI:Inv μ' i H):z1b (zmh ac ic cc jd zd sd w Inv) μ Q .normal (zdk ac ic cc jd zd sd w i) H:=⟨μ',hm,i,rfl,hI⟩
theorem zvy  (H:zp) (K:KT)  {I:Nat→List Value→zp→Prop} {μ:Nat}:z1b I μ (z1a 0 (seqQ (exL Tryz.prog z6e (cr (cl (cr (cl (zq Tryz.f175))))) 11 0 []) (seqQ (exL Tryz.prog z6e (cr (zq Tryz.f175)) 0 0 []) (retK Tryz.prog Tryz.f175 K)))) (.exit 0) (ud62 []) H=
 (K (.tuple #[]) H):=by kernel_rfl
abbrev zdl (ac:OA) (ic cc:Nat) (jd:OA) (zd sd w:Nat) (i9:Int)  :List Value:=(.slice jd sd zd::.slice ac cc ic::ud::.float .f32 w::ud5 (.int .i64 i9::ud52 []))
theorem z1cc (ac:OA) (ic cc:Nat) (jd:OA) (zd sd w:Nat) (i9:Int)  (H:zp) (R:Post):exL Tryz.prog z6e (cl (cl (cr (cr (zq Tryz.f175))))) 523 0 [(2,0)] (zdl ac ic cc jd zd sd w i9) H R=
 (Br (decide ((i9:Int)<(sd:Int))) ((0:Int)≤i9∧i9<(sd:Int)∧∃b4 f4,(jd:OA)=some ⟨b4,f4,none⟩∧∃x3:Nat,  rdC H b4 (f4+(i9:Int).toNat*1)=some (.float .f32 x3)∧zfy ac cc ic (IntKind.wrap .i64 (i9-1)) H fun (r2:Nat) (H3:zp)=>zfy ac cc ic i9 H3 fun (r3:Nat) (H4:zp)=>(0:Int)≤i9∧i9<(sd:Int)∧∃b5 f5,(jd:OA)=some ⟨b5,f5,none⟩∧isOwn H4 b5∧(∃l,rdN H4 b5 (f5+(i9:Int).toNat*1) 1=some l)∧Lt (setC H4 b5 (f5+(i9:Int).toNat*1) (.float .f32 (fadd .f32 x3 (fmul .f32 w (fadd .f32 r2 r3))))) fun H5=>R .normal (.slice jd sd zd::.slice ac cc ic::ud::.float .f32 w::ud5 (.int .i64 (IntKind.wrap .i64 (i9+1))::ud52 [])) H5) (R (.exit 2) (ud62 []) H)):=by kernel_rfl
def zmi (ac:OA) (ic cc:Nat) (jd:OA) (zd sd w:Nat) (Inv:Nat→Int→zp→Prop):Nat→List Value→zp→Prop:=fun μ tm H=>∃i9:Int,tm=(zdl ac ic cc jd zd sd w i9)∧Inv μ i9 H
theorem z1c8 (ac:OA) (ic cc:Nat) (jd:OA) (zd sd w:Nat) {Q:Post} (Inv:Nat→Int→zp→Prop) (ν:Nat) (i9:Int)  (H:zp) (h0:Inv ν i9 H)
  (hs:∀(μ:Nat) (i9:Int)  (H:zp),Inv μ i9 H→exL Tryz.prog z6e (cl (cl (cr (cr (zq Tryz.f175))))) 523 0 [(2,0)] (zdl ac ic cc jd zd sd w i9) H (z1b (zmi ac ic cc jd zd sd w Inv) μ Q)):z1n (exL Tryz.prog z6e (cl (cl (cr (cr (zq Tryz.f175))))) 523 0 [(2,0)]) (zdl ac ic cc jd zd sd w i9) H Q:=
 ⟨zmi ac ic cc jd zd sd w Inv,ν,⟨i9,rfl,h0⟩,fun μ tm H h=>by obtain ⟨i9,rfl,hI⟩:=h;exact hs μ i9  H hI⟩
theorem z1ca {ac:OA} {ic cc:Nat} {jd:OA} {zd sd w:Nat} {Q:Post} {Inv:Nat→Int→zp→Prop} {μ:Nat} (μ':Nat) {i9:Int}  {H:zp} (hm:μ'<μ) (hI:Inv μ' i9 H):z1b (zmi ac ic cc jd zd sd w Inv) μ Q .normal (zdl ac ic cc jd zd sd w i9) H:=⟨μ',hm,i9,rfl,hI⟩
theorem zvz  (H:zp) (K:KT)  {I:Nat→List Value→zp→Prop} {μ:Nat}:z1b I μ (z1a 2 (retK Tryz.prog Tryz.f175 K)) (.exit 2) (ud62 []) H=
 (K (.tuple #[]) H):=by kernel_rfl
theorem zt6:∀g,FnOk Tryz.prog g (z6e g):=FnOk.envOf (by
 intro x hx
 simp only [List.mem_cons,List.not_mem_nil,or_false] at hx
 subst hx;exact f10z_ok)
theorem ω9 {P:Prop} (h:P:=by first | assumption | omega | (simp;omega)):P:=h
theorem ω6 {P:Prop} (h:P:=by first | omega | (simp only [List.length_set];(first | omega | (simp only [List.length_set,List.length_replicate,List.length_append,List.length_cons,List.length_nil,List.length_take,List.length_drop,z2b];done) | (simp only [List.length_set,List.length_replicate,List.length_append,List.length_cons,List.length_nil,List.length_take,List.length_drop,z2b];omega)))):P:=h
theorem zvw (jd:OA) (sd zd:Nat) (ac:OA) (cc ic:Nat) (k:Int) (w:Nat) (H:zp) (K:KT) (h:zj7 jd sd zd ac cc ic k w H fun  (H':zp)=>K (.tuple #[]) H'):zw Tryz.prog z6e Tryz.f175 [.slice jd sd zd,.slice ac cc ic,.int .i64 k,.float .f32 w] H K:=by
 rw [z1cd]
 obtain ⟨lo,lob,ye,td,i_low,i_high,sp_m,bd_53,bd_54,pr0,pr1,hk⟩:=h
 have hk:(∀H':zp,z3b jd ac H H'→OwnS fF H' lo jd sd zd ((zef ye td k w).1)→OwnS fF H' lob ac cc ic ((zef ye td k w).2)→(fun  (H':zp)=>K (.tuple #[]) H')  H'):=by rw [z12h ye td k w];exact hk
 obtain rfl:=i_low.len
 obtain rfl:=i_high.len
 have up_p:=i_low.up
 have lo_p:=i_low.lo
 have up_q:=i_high.up
 have lo_q:=i_high.lo
 have e:(zef ye td k w)=_:=rfl
 have e:=e.trans (zl5 ye td k w)
 have g0:=z3b.refl jd ac H
 refine ⟨ω23,?_⟩
 have z_1:=za0 k 2
 have z_2:=zcb k 2
 refine Br.intro (fun c_3=>?_) (fun c_3=>?_)
 ·have e:=e.trans (zv c_3)
  have c_3':=za1 c_3
  refine z1c7 _ _ _ _ _ _ _ (fun (μ:Nat) (i:Int) (H_1:zp)=>∃y1_1:LN,OwnS fF H_1 lo jd ye.length zd ye∧OwnS fF H_1 lob ac td.length ic y1_1∧y1_1.length=(td).length∧H.length≤H_1.length∧H.length≤H_1.length∧z3b jd ac H H_1∧(0:Int)≤i∧i≤(td.length:Int)∧(td.length:Int)-i≤(μ:Int)∧zef ye td k w=z9e ye td k w (μ+1) i y1_1) (Int.toNat ((td.length:Int)-(0:Int))) _ H ?_ ?_
  ·exact ⟨_,i_low,i_high,ω18,ω2,ω2,g0,ω7,ω7,ω2,e⟩
  ·intro μ i  H_1 hI
   obtain ⟨y1_1,r_4,r_5,y6,n_7,n8,g_9,v_10,v_11,hμ,e⟩:=hI
   rw [z1cb]
   have e:=e.trans (zeg ye td k w μ i y1_1)
   have l_12:=g_9.1
   refine Br.intro (fun c_13=>?_) (fun c_13=>?_)
   ·have e:=e.trans (zv c_13)
    have c_13':=odt c_13
    obtain ⟨b_14,f_15,q16⟩:=(r_5.isL).pos ω0
    refine ⟨by omega,by omega,b_14,f_15,q16,?_⟩
    refine ⟨((y1_1).getD (i:Int).toNat 0),(r_5.isL).rd (Grow.refl _) q16 ω2 _,?_⟩
    obtain ⟨b_17,f_18,q19⟩:=(r_4.isL).pos ω0
    refine ⟨by omega,by omega,b_17,f_18,q19,?_⟩
    refine ⟨((ye).getD (i:Int).toNat 0),(r_4.isL).rd (Grow.refl _) q19 ω2 _,?_⟩
    rw [show IntKind.wrap .i64 (i+1)=(i+1) from zt ω2 ω2]
    refine zhm ⟨_,r_4.isL,ω0,ω9,?_⟩
    obtain ⟨b20,f_21,q_22⟩:=(r_5.isL).pos ω0
    refine ⟨by omega,by omega,b20,f_21,q_22,?_⟩
    refine Lt.setS r_5 q_22 ω6 (fun H_2 hl_23 o25 k24=>?_)
    have l26:=k24.1
    have g27:=g_9.transB k24
    have l28:=g27.1
    have r_29:=r_4.keepA (sp_m).symm k24
    refine z1c9 (μ-1) ω15 ⟨_,r_29,o25,ω21,ω2,ω2,ω2,ω1,ω1,ω15,ω13⟩
   ·have e:=e.trans (zu c_13)
    have c_13':=odf c_13
    rw [zvy]
    rw [e] at hk
    exact hk H_1 g_9 r_4 r_5
 ·have e:=e.trans (zu c_3)
  have c_3':=z8s c_3
  refine z1c8 _ _ _ _ _ _ _ (fun (μ:Nat) (i9:Int) (H_3:zp)=>∃y2_1:LN,OwnS fF H_3 lo jd ye.length zd y2_1∧y2_1.length=(ye).length∧OwnS fF H_3 lob ac td.length ic td∧H.length≤H_3.length∧H.length≤H_3.length∧z3b jd ac H H_3∧(0:Int)≤i9∧i9≤(ye.length:Int)∧(ye.length:Int)-i9≤(μ:Int)∧zef ye td k w=z9f ye td k w (μ+1) i9 y2_1) (Int.toNat ((ye.length:Int)-(0:Int))) _ H ?_ ?_
  ·exact ⟨_,i_low,ω18,i_high,ω2,ω2,g0,ω7,ω7,ω2,e⟩
  ·intro μ i9  H_3 hI
   obtain ⟨y2_1,r_30,y31,r_32,n33,n34,g35,v_36,v_37,hμ,e⟩:=hI
   rw [z1cc]
   have e:=e.trans (zeh ye td k w μ i9 y2_1)
   have l38:=g35.1
   refine Br.intro (fun c_39=>?_) (fun c_39=>?_)
   ·have e:=e.trans (zv c_39)
    have c_39':=odt c_39
    obtain ⟨b40,f41,q42⟩:=(r_30.isL).pos ω0
    refine ⟨by omega,by omega,b40,f41,q42,?_⟩
    refine ⟨((y2_1).getD (i9:Int).toNat 0),(r_30.isL).rd (Grow.refl _) q42 ω2 _,?_⟩
    rw [show IntKind.wrap .i64 (i9-1)=(i9-1) from zt ω2 ω2]
    refine zhm ⟨_,r_32.isL,ω0,ω9,?_⟩
    refine zhm ⟨_,r_32.isL,ω0,ω9,?_⟩
    obtain ⟨b43,f_44,q45⟩:=(r_30.isL).pos ω0
    refine ⟨by omega,by omega,b43,f_44,q45,?_⟩
    refine Lt.setS r_30 q45 ω6 (fun H_4 hl_46 o48 k47=>?_)
    have l49:=k47.1
    have g50:=g35.transA k47
    have l51:=g50.1
    have r_52:=r_32.keepA (sp_m) k47
    rw [show IntKind.wrap .i64 (i9+1)=(i9+1) from zt ω2 ω2]
    refine z1ca (μ-1) ω15 ⟨_,o48,ω21,r_52,ω2,ω2,ω2,ω1,ω1,ω15,ω13⟩
   ·have e:=e.trans (zu c_39)
    have c_39':=odf c_39
    rw [zvz]
    rw [e] at hk
    exact hk H_3 g35 r_30 r_32
theorem zvx:FnOk Tryz.prog 175 zug:=FnOk.bodyF mix_ok zt6 Tryz.func175 rfl ω10 ω10 fun args H=>by
 unfold z16v
 split
 ·refine ⟨?_,?_,?_,?_,fun K hk=>zvw _ _ _ _ _ _ _ _ H K hk⟩
  ·intro K K' h hk;obtain ⟨lo,lob,ye,td,i_low,i_high,sp_m,bd_53,bd_54,pr0,pr1,k⟩:=hk;exact ⟨lo,lob,ye,td,i_low,i_high,sp_m,bd_53,bd_54,pr0,pr1,(fun H' gg ow ow2=>h _ _ (k H' gg ow ow2))⟩
  ·nofun
  ·intro K hk;obtain ⟨lo,lob,ye,td,i_low,i_high,sp_m,bd_53,bd_54,pr0,pr1,k⟩:=hk;exact (i_low.put2 i_high sp_m _ _ (by rw [z4h]) (by rw [z3a])).elim fun H1 h=>⟨_,_,k H1 h.1 h.2.1 h.2.2⟩
  ·nofun
 ·exact Nice.no

def z5q (ab:LN):LN×Bool:=(bif !(z1v ab) then ([],false) else (ab,true))
def zbi:=@z5q.eq_1
def zo6 (zb:OA) (vb jc:Nat) (H:zp) (K:OA→Nat→Nat→Bool→zp→Prop):Prop:=∃ab:LN,IsL fF H zb vb ab∧ab.length<1073741824∧((∀H':zp,Grow H H'→Br ((z5q ab).2) (K zb vb jc true H') (K none 0 0 false H')))
theorem zo7 {zb:OA} {vb jc:Nat} {H:zp} {K:OA→Nat→Nat→Bool→zp→Prop} (h:∃ab:LN,IsL fF H zb vb ab∧ab.length<1073741824∧((∀H':zp,Grow H H'→Br ((z5q ab).2) (K zb vb jc true H') (K none 0 0 false H')))):zo6 zb vb jc H K:=h

def ztg:Env:=envOf [(124,zj0)]
def z17b (args:List Value) (H:zp):(Value→zp→Prop)→Prop:=match args with
 | [.slice zb vb jc]=>fun K=>zo6 zb vb jc H fun (od:OA) (xd:Nat) (vd:Nat) (r2:Bool) (H':zp)=>K (.tuple #[.slice od xd vd,.bool r2]) H'
 | _=>fun _=>False
def z18l:FSpec:={F:=z17b,quiet:=false,tame:=true}
theorem z1cq (zb:OA) (vb jc:Nat) (H:zp) (K:KT):zw Tryz.prog ztg Tryz.f176 [.slice zb vb jc] H K=
 (zcg zb vb jc H fun (r1:Bool) (H1:zp)=>Br (!r1) (K (.tuple #[.slice none 0 0,.bool false]) H1) (K (.tuple #[.slice zb vb jc,.bool true]) H1)):=by kernel_rfl
theorem zth:∀g,FnOk Tryz.prog g (ztg g):=FnOk.envOf (by
 intro x hx
 simp only [List.mem_cons,List.not_mem_nil,or_false] at hx
 subst hx;exact f11z_ok)
theorem zw5 (zb:OA) (vb jc:Nat) (H:zp) (K:KT) (h:zo6 zb vb jc H fun (od:OA) (xd:Nat) (vd:Nat) (r2:Bool) (H':zp)=>K (.tuple #[.slice od xd vd,.bool r2]) H'):zw Tryz.prog ztg Tryz.f176 [.slice zb vb jc] H K:=by
 rw [z1cq]
 obtain ⟨ab,i_list,bd_2,hk⟩:=h
 obtain rfl:=i_list.eqn
 have e:(z5q ab)=_:=rfl
 have e:=e.trans (zbi ab)
 have g0:=Grow.refl H
 refine zaz ⟨_,(i_list.grow g0),ω0,?_⟩
 refine Br.intro (fun c_1=>?_) (fun c_1=>?_)
 ·have e:=e.trans (zv c_1)
  have c_1n:=z1g c_1
  have q:=hk H g0
  rw [e] at q
  exact q
 ·have e:=e.trans (zu c_1)
  have c_1n:=z1d c_1
  have q:=hk H g0
  rw [e] at q
  exact q
theorem z1cp:FnOk Tryz.prog 176 z18l:=FnOk.bodyF mix_ok zth Tryz.func176 rfl ω10 ω10 fun args H=>by
 unfold z17b
 split
 ·refine ⟨?_,?_,?_,?_,fun K hk=>zw5 _ _ _ H K hk⟩
  ·intro K K' h hk;obtain ⟨ab,i_list,bd_2,k⟩:=hk;exact ⟨ab,i_list,bd_2,(fun H' gg=>zhg (h _ _) (h _ _) (k H' gg))⟩
  ·nofun
  ·intro K hk;obtain ⟨ab,i_list,bd_2,k⟩:=hk;exact zsd (k H (Grow.refl H))
  ·intro _ K hk;obtain ⟨ab,i_list,bd_2,k⟩:=hk;exact ⟨ab,i_list,bd_2,(fun H' gg=>zhg (fun q=>⟨gg,q⟩) (fun q=>⟨gg,q⟩) (k H' gg))⟩
 ·exact Nice.no

def z5e (aa:LN) (xa:Nat) (fe nf:LN) (i:Int) (y1_1 y1_2:LN) (jf:Int) (y2_1 y2_2:LN) (k:Int) (y3_1 y3_2:LN) (k4_6:LN→Int→(LN×Bool)):Nat→LN→Int→LN×Bool
 | 0,_,_=>([],false)
 | μ4+1,fg,mg=>(bif decide ((mg:Int)<(0+fe.length:Int)) then (bif decide ((mg:Int)<(0+nf.length:Int)) then (z5e aa xa fe nf i y1_1 y1_2 jf y2_1 y2_2 k y3_1 y3_2 k4_6 μ4 (((fg++[(((y3_1).getD (mg:Int).toNat 0))])++[(((y3_2).getD (mg:Int).toNat 0))])) (mg+1)) else (z5e aa xa fe nf i y1_1 y1_2 jf y2_1 y2_2 k y3_1 y3_2 k4_6 μ4 ((fg++[(((y3_1).getD (mg:Int).toNat 0))])) (mg+1))) else (k4_6 fg mg))
def zgm:=fun aa xa fe nf i y1_1 y1_2 jf y2_1 y2_2 k y3_1 y3_2 k4_6 μ4 fg mg=>@z5e.eq_2 aa xa fe nf i y1_1 y1_2 jf y2_1 y2_2 k y3_1 y3_2 k4_6 fg mg μ4
def z8g (aa:LN) (xa:Nat) (fe nf:LN) (i:Int) (y1_1 y1_2:LN) (jf:Int) (y2_1 y2_2:LN) (k3_4:Int→LN→LN→(LN×Bool)):Nat→Int→LN→LN→LN×Bool
 | 0,_,_,_=>([],false)
 | μ3+1,k,y3_1,y3_2=>(bif decide ((0:Int)≤k) then (z8g aa xa fe nf i y1_1 y1_2 jf y2_1 y2_2 k3_4 μ3 (k-1) ((zas k (fneg .f32 (((aa).getD (k:Int).toNat 0))) y3_1 y3_2)) ((z6p k (fneg .f32 (((aa).getD (k:Int).toNat 0))) y3_1 y3_2))) else (k3_4 k y3_1 y3_2))
def zgl:=fun aa xa fe nf i y1_1 y1_2 jf y2_1 y2_2 k3_4 μ3 k y3_1 y3_2=>@z8g.eq_2 aa xa fe nf i y1_1 y1_2 jf y2_1 y2_2 k3_4 k y3_1 y3_2 μ3
def zbo (aa:LN) (xa:Nat) (fe nf:LN) (i:Int) (y1_1 y1_2:LN) (k2_2:Int→LN→LN→(LN×Bool)):Nat→Int→LN→LN→LN×Bool
 | 0,_,_,_=>([],false)
 | μ2+1,jf,y2_1,y2_2=>(bif decide ((jf:Int)<(0+nf.length:Int)) then (zbo aa xa fe nf i y1_1 y1_2 k2_2 μ2 (jf+1) y2_1 (((y2_2).set (jf:Int).toNat ((fmul .f32 (((y2_2).getD (jf:Int).toNat 0)) xa))))) else (k2_2 jf y2_1 y2_2))
def zgk:=fun aa xa fe nf i y1_1 y1_2 k2_2 μ2 jf y2_1 y2_2=>@zbo.eq_2 aa xa fe nf i y1_1 y1_2 k2_2 jf y2_1 y2_2 μ2
def z8f (aa:LN) (xa:Nat) (fe nf:LN):Nat→Int→LN→LN→LN×Bool
 | 0,_,_,_=>([],false)
 | μ+1,i,y1_1,y1_2=>(bif decide ((i:Int)<(0+fe.length:Int)) then (z8f aa xa fe nf μ (i+1) (((y1_1).set (i:Int).toNat ((fdiv .f32 (((y1_1).getD (i:Int).toNat 0)) xa)))) y1_2) else (zbo aa xa fe nf i y1_1 y1_2 (fun (jf:Int) (y2_1:LN) (y2_2:LN)=>(z8g aa xa fe nf i y1_1 y1_2 jf y2_1 y2_2 (fun (k:Int) (y3_1:LN) (y3_2:LN)=>(z5e aa xa fe nf i y1_1 y1_2 jf y2_1 y2_2 k y3_1 y3_2 (fun (fg:LN) (mg:Int)=>(bif (z5q fg).2 then (fg,true) else ([],false))) (Int.toNat ((0+fe.length:Int)-(0:Int))+1) ([]:LN) (0:Int))) (Int.toNat (((((aa.length:Int)-1)))-0+1)+1) ((((aa.length:Int)-1))) y2_1 y2_2)) (Int.toNat ((0+nf.length:Int)-(0:Int))+1) (0:Int) y1_1 y1_2))
def z9y:=fun aa xa fe nf μ i y1_1 y1_2=>@z8f.eq_2 aa xa fe nf i y1_1 y1_2 μ
def z7r (aa:LN) (xa:Nat) (fe nf:LN):Nat→LN→Int→LN×Bool
 | 0,_,_=>([],false)
 | μ+1,fg,mg=>(bif decide ((mg:Int)<(0+fe.length:Int)) then (bif decide ((mg:Int)<(0+nf.length:Int)) then (z7r aa xa fe nf μ (((fg++[((((([]:LN)++fe)).getD (mg:Int).toNat 0))])++[((((([]:LN)++nf)).getD (mg:Int).toNat 0))])) (mg+1)) else (z7r aa xa fe nf μ ((fg++[((((([]:LN)++fe)).getD (mg:Int).toNat 0))])) (mg+1))) else (bif (z5q fg).2 then (fg,true) else ([],false)))
def zes:=fun aa xa fe nf μ fg mg=>@z7r.eq_2 aa xa fe nf fg mg μ
def z8e (aa:LN) (xa:Nat) (fe nf:LN):LN×Bool:=(bif decide ((0:Int)<(0+nf.length:Int)) then (z8f aa xa fe nf (Int.toNat ((0+fe.length:Int)-(0:Int))+1) (0:Int) ((([]:LN)++fe)) ((([]:LN)++nf))) else (z7r aa xa fe nf (Int.toNat ((0+fe.length:Int)-(0:Int))+1) ([]:LN) (0:Int)))
def zpi:=@z8e.eq_1
def T_fjz (s:Nat) (ui:OA) (se gj:Nat) (jj:OA) (ff vj:Nat) (H:zp) (K:OA→Nat→Nat→Bool→zp→Prop):Prop:=∃jb:OA,∃(qb tb xa:Nat),∃(aa fe nf:LN),rdN H s 0 2=some [.slice jb qb tb,.float .f32 xa]∧IsL fF H jb qb aa∧IsL fF H ui se fe∧IsL fF H jj ff nf∧aa.length<1073741824∧fe.length<1073741824∧nf.length<1073741824∧nf.length≤fe.length∧fe.length≤nf.length+1∧fe.length≤128∧((∀(od:OA) (xd vd:Nat),∀H':zp,Grow H H'→OwnS fF H' H.length od xd vd ((z8e aa xa fe nf).1)→K od xd vd ((z8e aa xa fe nf).2) H'))
theorem z1be {s:Nat} {ui:OA} {se gj:Nat} {jj:OA} {ff vj:Nat} {H:zp} {K:OA→Nat→Nat→Bool→zp→Prop} (h:∃jb:OA,∃(qb tb xa:Nat),∃(aa fe nf:LN),rdN H s 0 2=some [.slice jb qb tb,.float .f32 xa]∧IsL fF H jb qb aa∧IsL fF H ui se fe∧IsL fF H jj ff nf∧aa.length<1073741824∧fe.length<1073741824∧nf.length<1073741824∧nf.length≤fe.length∧fe.length≤nf.length+1∧fe.length≤128∧((∀(od:OA) (xd vd:Nat),∀H':zp,Grow H H'→OwnS fF H' H.length od xd vd ((z8e aa xa fe nf).1)→K od xd vd ((z8e aa xa fe nf).2) H'))):T_fjz s ui se gj jj ff vj H K:=h
def wvF (e o:LN) (i:Nat):LN:=if i<o.length then [e.getD i 0,o.getD i 0] else [e.getD i 0]
def wv (e o:LN) (k:Nat):LN:=(List.range k).flatMap (wvF e o)
theorem znn (e o:LN) (k:Nat):wv e o (k+1)=wv e o k++wvF e o k:=by
 unfold wv
 rw [List.range_succ,List.flatMap_append]
 simp
theorem z1a2 (e o:LN):∀k,(wv e o k).length=k+min k o.length:=by
 intro k
 induction k with
 | zero=>simp [wv]
 | succ k ih=>
  rw [znn,List.length_append,ih]
  unfold wvF
  split<;>simp<;>omega
def dfS (ws:LN):Nat→LN→LN→LN×LN
 | 0,lo,hi=>(lo,hi)
 | k+1,lo,hi=>dfS ws k (zas (k:Int) (fneg .f32 (ws.getD k 0)) lo hi) (z6p (k:Int) (fneg .f32 (ws.getD k 0)) lo hi)
theorem zg5 (ws:LN):∀(k:Nat) (lo hi:LN),(dfS ws k lo hi).1.length=lo.length∧(dfS ws k lo hi).2.length=hi.length:=by
 intro k
 induction k with
 | zero=>intro lo hi;exact ⟨rfl,rfl⟩
 | succ k ih=>
  intro lo hi
  obtain ⟨h1,h2⟩:=ih (zas (k:Int) (fneg .f32 (ws.getD k 0)) lo hi) (z6p (k:Int) (fneg .f32 (ws.getD k 0)) lo hi)
  exact ⟨h1.trans (z4h _ _ _ _),h2.trans (z3a _ _ _ _)⟩
theorem zru (ws:LN) (sc:Nat) (l1 l2:LN) (i:Int) (a b:LN) (i2:Int) (c d:LN) (K:Int→LN→LN→LN×Bool):∀(μ k:Nat) (y1 y2:LN),k<μ→
  z8g ws sc l1 l2 i a b i2 c d K μ ((k:Int)-1) y1 y2=K (-1) (dfS ws k y1 y2).1 (dfS ws k y1 y2).2:=by
 intro μ
 induction μ with
 | zero=>intro k y1 y2 h;omega
 | succ μ ih=>
  intro k y1 y2 hm
  rw [zgl]
  cases k with
  | zero=>rfl
  | succ k=>
   have e:((k+1:Nat):Int)-1=(k:Int):=by omega
   rw [e,dct (show (0:Int)≤(k:Int) by omega),cond_true,Int.toNat_natCast]
   exact ih k _ _ ω2
theorem zrs (ws:LN) (sc:Nat) (l1 l2 y2:LN) (K:Int→LN→LN→LN×Bool)
  (hK:∀(k:Int) (y1 y2:LN),z8f ws sc l1 l2 1 k y1 y2=bif decide (k<(0+l1.length:Int)) then z8f ws sc l1 l2 0 (k+1) (y1.set k.toNat (fdiv .f32 (y1.getD k.toNat 0) sc)) y2 else K k y1 y2) (A:LN) (hA:A.length=l1.length):∀(μ j:Nat),j≤l1.length→l1.length-j<μ→
  z8f ws sc l1 l2 μ (j:Int) ((A.map fun x=>fdiv .f32 x sc).take j++A.drop j) y2=K (l1.length:Int) (A.map fun x=>fdiv .f32 x sc) y2:=by
 intro μ
 induction μ with
 | zero=>intro k _ h;omega
 | succ μ ih=>
  intro j hj hm
  by_cases h:j<l1.length
  ·rw [z9y]
   rw [dct (show (j:Int)<(0+l1.length:Int) by omega),cond_true,Int.toNat_natCast,z7l _ _ _ ω2 (by simp)]
   have:=ih (j+1) ω2 ω2
   rw [z3o (A.map fun x=>fdiv .f32 x sc) A j ω2 (by simp) _ (by simp [List.getD_eq_getElem?_getD,show j<A.length by omega])]
   exact this
  ·have e:j=l1.length:=by omega
   have h1:=hK (j:Int) ((A.map fun x=>fdiv .f32 x sc).take j++A.drop j) y2
   rw [z9y] at h1 ⊢
   rw [dcf (show ¬(j:Int)<(0+l1.length:Int) by omega),cond_false,cond_false] at h1
   rw [dcf (show ¬(j:Int)<(0+l1.length:Int) by omega),cond_false]
   refine h1.trans ?_
   rw [e,List.take_of_length_le (by simp [hA]),List.drop_of_length_le ω2,List.append_nil]
theorem zrt (ws:LN) (sc:Nat) (l1 l2:LN) (i:Int) (a b y1:LN) (K:Int→LN→LN→LN×Bool) (A:LN) (hA:A.length=l2.length):∀(μ j:Nat),j≤l2.length→l2.length-j<μ→
  zbo ws sc l1 l2 i a b K μ (j:Int) y1 ((A.map fun x=>fmul .f32 x sc).take j++A.drop j)=K (l2.length:Int) y1 (A.map fun x=>fmul .f32 x sc):=by
 intro μ
 induction μ with
 | zero=>intro k _ h;omega
 | succ μ ih=>
  intro j hj hm
  rw [zgk]
  by_cases h:j<l2.length
  ·rw [dct (show (j:Int)<(0+l2.length:Int) by omega),cond_true,Int.toNat_natCast,z7l _ _ _ ω2 (by simp)]
   have:=ih (j+1) ω2 ω2
   rw [z3o (A.map fun x=>fmul .f32 x sc) A j ω2 (by simp) _ (by simp [List.getD_eq_getElem?_getD,show j<A.length by omega])]
   exact this
  ·have e:j=l2.length:=by omega
   rw [dcf (show ¬(j:Int)<(0+l2.length:Int) by omega),cond_false,e,List.take_of_length_le (by simp [hA]),List.drop_of_length_le ω2,List.append_nil]
theorem zrv (ws:LN) (sc:Nat) (l1 l2:LN) (i:Int) (a b:LN) (i2:Int) (c d:LN) (k0:Int) (E O:LN) (hE:E.length=l1.length) (hO:O.length=l2.length) (K:LN→Int→LN×Bool):∀(μ k:Nat),k≤l1.length→l1.length-k<μ→
  z5e ws sc l1 l2 i a b i2 c d k0 E O K μ (wv E O k) (k:Int)=K (wv E O l1.length) (l1.length:Int):=by
 intro μ
 induction μ with
 | zero=>intro k _ h;omega
 | succ μ ih=>
  intro k hk hm
  rw [zgm]
  by_cases h:k<l1.length
  ·rw [dct (show (k:Int)<(0+l1.length:Int) by omega),cond_true,Int.toNat_natCast]
   have:=ih (k+1) ω2 ω2
   rw [znn] at this
   by_cases h2:k<l2.length
   ·rw [dct (show (k:Int)<(0+l2.length:Int) by omega),cond_true]
    rw [show wvF E O k=[E.getD k 0,O.getD k 0] from if_pos ω2] at this
    rw [List.append_assoc]
    exact this
   ·rw [dcf (show ¬(k:Int)<(0+l2.length:Int) by omega),cond_false]
    rw [show wvF E O k=[E.getD k 0] from if_neg ω2] at this
    exact this
  ·obtain rfl:k=l1.length:=by omega
   rw [dcf (show ¬((l1.length:Nat):Int)<(0+l1.length:Int) by omega),cond_false]
theorem znh (ws:LN) (sc:Nat) (l1 l2:LN):∀(μ k:Nat),k≤l1.length→l1.length-k<μ→
  z7r ws sc l1 l2 μ (wv l1 l2 k) (k:Int)=bif (z5q (wv l1 l2 l1.length)).2 then (wv l1 l2 l1.length,true) else ([],false):=by
 intro μ
 induction μ with
 | zero=>intro k _ h;omega
 | succ μ ih=>
  intro k hk hm
  rw [zes,List.nil_append,List.nil_append]
  by_cases h:k<l1.length
  ·rw [dct (show (k:Int)<(0+l1.length:Int) by omega),cond_true,Int.toNat_natCast]
   have:=ih (k+1) ω2 ω2
   rw [znn] at this
   by_cases h2:k<l2.length
   ·rw [dct (show (k:Int)<(0+l2.length:Int) by omega),cond_true]
    rw [show wvF l1 l2 k=[l1.getD k 0,l2.getD k 0] from if_pos ω2] at this
    rw [List.append_assoc]
    exact this
   ·rw [dcf (show ¬(k:Int)<(0+l2.length:Int) by omega),cond_false]
    rw [show wvF l1 l2 k=[l1.getD k 0] from if_neg ω2] at this
    exact this
  ·obtain rfl:k=l1.length:=by omega
   rw [dcf (show ¬((l1.length:Nat):Int)<(0+l1.length:Int) by omega),cond_false]
theorem zbu (v:LN):(bif (z5q v).2 then (v,true) else ([],false))=z5q v:=by
 rw [zbi]
 cases z1v v<;>rfl
def dropE (ws:LN) (sc:Nat) (e o:LN):LN:=(dfS ws ws.length (e.map fun x=>fdiv .f32 x sc) (o.map fun x=>fmul .f32 x sc)).1
def dropO (ws:LN) (sc:Nat) (e o:LN):LN:=(dfS ws ws.length (e.map fun x=>fdiv .f32 x sc) (o.map fun x=>fmul .f32 x sc)).2
def zht (ws:LN) (sc:Nat) (e o:LN):LN:=bif decide ((0:Int)<(0+o.length:Int)) then wv (dropE ws sc e o) (dropO ws sc e o) e.length else wv e o e.length
theorem z7s (ws:LN) (sc:Nat) (e o:LN):z8e ws sc e o=z5q (zht ws sc e o):=by
 rw [zpi]
 unfold zht
 cases decide ((0:Int)<(0+o.length:Int)) with
 | false=>
  rw [cond_false,cond_false,←zbu]
  exact znh ws sc e o (Int.toNat ((0+e.length:Int)-(0:Int))+1) 0 ω2 ω2
 | true=>
  rw [cond_true,cond_true,List.nil_append,List.nil_append]
  have h1:=zrs ws sc e o o _ (fun k y1 y2=>z9y ws sc e o 0 k y1 y2) e rfl (Int.toNat ((0+e.length:Int)-(0:Int))+1) 0 ω2 ω2
  simp only [List.take_zero,List.drop_zero,List.nil_append] at h1
  refine Eq.trans h1 ?_
  have h2:=fun i a b y1 K=>zrt ws sc e o i a b y1 K o rfl (Int.toNat ((0+o.length:Int)-(0:Int))+1) 0 ω2 ω2
  simp only [List.take_zero,List.drop_zero,List.nil_append] at h2
  refine Eq.trans (h2 _ _ _ _ _) ?_
  refine Eq.trans (zru ws sc e o _ _ _ _ _ _ _ (Int.toNat (((((ws.length:Int)-1)))-0+1)+1) ws.length _ _ ω2) ?_
  obtain ⟨g1,g2⟩:=zg5 ws ws.length (e.map fun x=>fdiv .f32 x sc) (o.map fun x=>fmul .f32 x sc)
  refine Eq.trans (zrv ws sc e o _ _ _ _ _ _ _ _ _ (g1.trans (List.length_map ..)) (g2.trans (List.length_map ..)) _ (Int.toNat ((0+e.length:Int)-(0:Int))+1) 0 ω2 ω2) ?_
  exact zbu _
theorem zjq (ws:LN) (sc:Nat) (e o:LN):(zht ws sc e o).length=e.length+min e.length o.length:=by
 unfold zht dropE dropO
 obtain ⟨g1,g2⟩:=zg5 ws ws.length (e.map fun x=>fdiv .f32 x sc) (o.map fun x=>fmul .f32 x sc)
 cases decide ((0:Int)<(0+o.length:Int)) with
 | false=>rw [cond_false,z1a2]
 | true=>rw [cond_true,z1a2,g2,List.length_map]
theorem zrw (ws:LN) (sc:Nat) (e o:LN) (h:(z8e ws sc e o).2=true):(z8e ws sc e o).1=zht ws sc e o∧z1v (zht ws sc e o)=true:=by
 rw [z7s,zbi] at h ⊢
 cases hf:z1v (zht ws sc e o) with
 | true=>exact ⟨rfl,rfl⟩
 | false=>rw [hf] at h;cases h
theorem zni (ws:LN) (sc:Nat) (e o:LN):(z8e ws sc e o).1.length≤2*e.length:=by
 rw [z7s,zbi]
 have:=zjq ws sc e o
 cases z1v (zht ws sc e o) with
 | true=>show (zht ws sc e o).length≤_;omega
 | false=>exact Nat.zero_le _
def z3s:Env:=envOf [(175,zug),(176,z18l)]
def F_fjz (args:List Value) (H:zp):(Value→zp→Prop)→Prop:=match args with
 | [.pointer (some ⟨s,0,none⟩),.slice ui se gj,.slice jj ff vj]=>fun K=>T_fjz s ui se gj jj ff vj H fun (od:OA) (xd:Nat) (vd:Nat) (r2:Bool) (H':zp)=>K (.tuple #[.slice od xd vd,.bool r2]) H'
 | _=>fun _=>False
def S_fjz:FSpec:={F:=F_fjz,quiet:=false,tame:=true}
theorem z1hq (s:Nat) (ui:OA) (se gj:Nat) (jj:OA) (ff vj:Nat) (H:zp) (K:KT):zw Tryz.prog z3s Tryz.f167 [.pointer (some ⟨s,0,none⟩),.slice ui se gj,.slice jj ff vj] H K=
 (Al [] H fun b1 H1=>∃o1 w1:List Value,ownB H1 (some ⟨b1,0,none⟩) 0 1 1=some o1∧rdS H1 ui (se*1)=some w1∧((some ⟨b1,0,none⟩:OA)=none→0<(se:Nat))∧(0:Nat)+se<most∧Ap H1 (z3c H1 (some ⟨b1,0,none⟩)++[some ⟨o1++w1,true⟩]) fun b2 H2=>Al [] H2 fun b3 H3=>∃o2 w2:List Value,ownB H3 (some ⟨b3,0,none⟩) 0 1 1=some o2∧rdS H3 jj (ff*1)=some w2∧((some ⟨b3,0,none⟩:OA)=none→0<(ff:Nat))∧(0:Nat)+ff<most∧Ap H3 (z3c H3 (some ⟨b3,0,none⟩)++[some ⟨o2++w2,true⟩]) fun b4 H4=>Br (decide ((0:Int)<(0+ff:Int))) (z1n (exL Tryz.prog z3s (cl (cl (cr (cl (cl (cr (cl (cr (cr (cr (zq Tryz.f167))))))))))) 1793 192 [(0,769)]) (.pointer (some ⟨s,0,none⟩)::ud7 (.slice (some ⟨b2,0,none⟩) (0+se) 1::.slice (some ⟨b4,0,none⟩) (0+ff) 1::.int .i64 0::ud100 [])) H4 (z1a 0 (seqQ (exL Tryz.prog z3s (cr (cl (cr (cl (cr (cr (cr (zq Tryz.f167)))))))) 768 192 []) (seqQ (exL Tryz.prog z3s (cr (cr (cr (cr (zq Tryz.f167))))) 192 192 []) (retK Tryz.prog Tryz.f167 K))))) (Al [] H4 fun b17 H14=>z1n (exL Tryz.prog z3s (cl (cl (cr (cl (cr (cr (cr (cr (cr (zq Tryz.f167)))))))))) 25344 192 [(6,8192)]) (ud8 (.slice (some ⟨b2,0,none⟩) (0+se) 1::.slice (some ⟨b4,0,none⟩) (0+ff) 1::ud3 (.slice (some ⟨b17,0,none⟩) 0 1::.int .i64 0::ud96 []))) H14 (z1a 6 (seqQ (exL Tryz.prog z3s (cr (cr (cr (cr (cr (cr (zq Tryz.f167))))))) 192 192 []) (retK Tryz.prog Tryz.f167 K))))):=by kernel_rfl
abbrev zjy (b2 b4 se ff s:Nat) (i:Int)  :List Value:=(.pointer (some ⟨s,0,none⟩)::ud7 (.slice (some ⟨b2,0,none⟩) (0+se) 1::.slice (some ⟨b4,0,none⟩) (0+ff) 1::.int .i64 i::ud100 []))
theorem z1hn (b2 b4 se ff s:Nat) (i:Int)  (H:zp) (R:Post):exL Tryz.prog z3s (cl (cl (cr (cl (cl (cr (cl (cr (cr (cr (zq Tryz.f167))))))))))) 1793 192 [(0,769)] (zjy b2 b4 se ff s i) H R=
 (Br (decide ((i:Int)<(0+se:Int))) ((0:Int)≤i∧i<(0+se:Int)∧∃b5 f1,(some ⟨b2,0,none⟩:OA)=some ⟨b5,f1,none⟩∧∃x1:Nat,  rdC H b5 (f1+(i:Int).toNat*1)=some (.float .f32 x1)∧∃x2:Nat,  rdC H s 1=some (.float .f32 x2)∧(0:Int)≤i∧i<(0+se:Int)∧∃b6 f2,(some ⟨b2,0,none⟩:OA)=some ⟨b6,f2,none⟩∧isOwn H b6∧(∃l,rdN H b6 (f2+(i:Int).toNat*1) 1=some l)∧Lt (setC H b6 (f2+(i:Int).toNat*1) (.float .f32 (fdiv .f32 x1 x2))) fun H5=>R .normal (.pointer (some ⟨s,0,none⟩)::ud7 (.slice (some ⟨b2,0,none⟩) (0+se) 1::.slice (some ⟨b4,0,none⟩) (0+ff) 1::.int .i64 (IntKind.wrap .i64 (i+1))::ud100 [])) H5) (R (.exit 0) (.pointer (some ⟨s,0,none⟩)::ud7 (.slice (some ⟨b2,0,none⟩) (0+se) 1::.slice (some ⟨b4,0,none⟩) (0+ff) 1::ud101 [])) H)):=by kernel_rfl
def zww (b2 b4 se ff s:Nat) (Inv:Nat→Int→zp→Prop):Nat→List Value→zp→Prop:=fun μ tm H=>∃i:Int,tm=(zjy b2 b4 se ff s i)∧Inv μ i H
theorem z1hg (b2 b4 se ff s:Nat) {Q:Post} (Inv:Nat→Int→zp→Prop) (ν:Nat) (i:Int)  (H:zp) (h0:Inv ν i H)
  (hs:∀(μ:Nat) (i:Int)  (H:zp),Inv μ i H→exL Tryz.prog z3s (cl (cl (cr (cl (cl (cr (cl (cr (cr (cr (zq Tryz.f167))))))))))) 1793 192 [(0,769)] (zjy b2 b4 se ff s i) H (z1b (zww b2 b4 se ff s Inv) μ Q)):z1n (exL Tryz.prog z3s (cl (cl (cr (cl (cl (cr (cl (cr (cr (cr (zq Tryz.f167))))))))))) 1793 192 [(0,769)]) (zjy b2 b4 se ff s i) H Q:=
 ⟨zww b2 b4 se ff s Inv,ν,⟨i,rfl,h0⟩,fun μ tm H h=>by obtain ⟨i,rfl,hI⟩:=h;exact hs μ i  H hI⟩
theorem z1hj {b2 b4 se ff s:Nat} {Q:Post} {Inv:Nat→Int→zp→Prop} {μ:Nat} (μ':Nat) {i:Int}  {H:zp} (hm:μ'<μ) (hI:Inv μ' i H):z1b (zww b2 b4 se ff s Inv) μ Q .normal (zjy b2 b4 se ff s i) H:=⟨μ',hm,i,rfl,hI⟩
theorem z12z (b2 b4 se ff s:Nat) (H:zp) (K:KT)  {I:Nat→List Value→zp→Prop} {μ:Nat}:z1b I μ (z1a 0 (seqQ (exL Tryz.prog z3s (cr (cl (cr (cl (cr (cr (cr (zq Tryz.f167)))))))) 768 192 []) (seqQ (exL Tryz.prog z3s (cr (cr (cr (cr (zq Tryz.f167))))) 192 192 []) (retK Tryz.prog Tryz.f167 K)))) (.exit 0) (.pointer (some ⟨s,0,none⟩)::ud7 (.slice (some ⟨b2,0,none⟩) (0+se) 1::.slice (some ⟨b4,0,none⟩) (0+ff) 1::ud101 [])) H=
 (z1n (exL Tryz.prog z3s (cl (cl (cr (cl (cr (cl (cr (cl (cr (cr (cr (zq Tryz.f167)))))))))))) 2817 192 [(2,769)]) (.pointer (some ⟨s,0,none⟩)::ud7 (.slice (some ⟨b2,0,none⟩) (0+se) 1::.slice (some ⟨b4,0,none⟩) (0+ff) 1::ud::.int .i64 0::ud99 [])) H (z1a 2 (seqQ (exL Tryz.prog z3s (cr (cr (cl (cr (cl (cr (cr (cr (zq Tryz.f167))))))))) 768 192 []) (seqQ (exL Tryz.prog z3s (cr (cr (cr (cr (zq Tryz.f167))))) 192 192 []) (retK Tryz.prog Tryz.f167 K))))):=by kernel_rfl
abbrev zjz (b2 b4 se ff s:Nat) (jf:Int)  :List Value:=(.pointer (some ⟨s,0,none⟩)::ud7 (.slice (some ⟨b2,0,none⟩) (0+se) 1::.slice (some ⟨b4,0,none⟩) (0+ff) 1::ud::.int .i64 jf::ud99 []))
theorem z1ho (b2 b4 se ff s:Nat) (jf:Int)  (H:zp) (R:Post):exL Tryz.prog z3s (cl (cl (cr (cl (cr (cl (cr (cl (cr (cr (cr (zq Tryz.f167)))))))))))) 2817 192 [(2,769)] (zjz b2 b4 se ff s jf) H R=
 (Br (decide ((jf:Int)<(0+ff:Int))) ((0:Int)≤jf∧jf<(0+ff:Int)∧∃b7 f3,(some ⟨b4,0,none⟩:OA)=some ⟨b7,f3,none⟩∧∃x3:Nat,  rdC H b7 (f3+(jf:Int).toNat*1)=some (.float .f32 x3)∧∃x4:Nat,  rdC H s 1=some (.float .f32 x4)∧(0:Int)≤jf∧jf<(0+ff:Int)∧∃b8 f4,(some ⟨b4,0,none⟩:OA)=some ⟨b8,f4,none⟩∧isOwn H b8∧(∃l,rdN H b8 (f4+(jf:Int).toNat*1) 1=some l)∧Lt (setC H b8 (f4+(jf:Int).toNat*1) (.float .f32 (fmul .f32 x3 x4))) fun H6=>R .normal (.pointer (some ⟨s,0,none⟩)::ud7 (.slice (some ⟨b2,0,none⟩) (0+se) 1::.slice (some ⟨b4,0,none⟩) (0+ff) 1::ud::.int .i64 (IntKind.wrap .i64 (jf+1))::ud99 [])) H6) (R (.exit 2) (.pointer (some ⟨s,0,none⟩)::ud7 (.slice (some ⟨b2,0,none⟩) (0+se) 1::.slice (some ⟨b4,0,none⟩) (0+ff) 1::ud101 [])) H)):=by kernel_rfl
def zwx (b2 b4 se ff s:Nat) (Inv:Nat→Int→zp→Prop):Nat→List Value→zp→Prop:=fun μ tm H=>∃jf:Int,tm=(zjz b2 b4 se ff s jf)∧Inv μ jf H
theorem z1hh (b2 b4 se ff s:Nat) {Q:Post} (Inv:Nat→Int→zp→Prop) (ν:Nat) (jf:Int)  (H:zp) (h0:Inv ν jf H)
  (hs:∀(μ:Nat) (jf:Int)  (H:zp),Inv μ jf H→exL Tryz.prog z3s (cl (cl (cr (cl (cr (cl (cr (cl (cr (cr (cr (zq Tryz.f167)))))))))))) 2817 192 [(2,769)] (zjz b2 b4 se ff s jf) H (z1b (zwx b2 b4 se ff s Inv) μ Q)):z1n (exL Tryz.prog z3s (cl (cl (cr (cl (cr (cl (cr (cl (cr (cr (cr (zq Tryz.f167)))))))))))) 2817 192 [(2,769)]) (zjz b2 b4 se ff s jf) H Q:=
 ⟨zwx b2 b4 se ff s Inv,ν,⟨jf,rfl,h0⟩,fun μ tm H h=>by obtain ⟨jf,rfl,hI⟩:=h;exact hs μ jf  H hI⟩
theorem z1hk {b2 b4 se ff s:Nat} {Q:Post} {Inv:Nat→Int→zp→Prop} {μ:Nat} (μ':Nat) {jf:Int}  {H:zp} (hm:μ'<μ) (hI:Inv μ' jf H):z1b (zwx b2 b4 se ff s Inv) μ Q .normal (zjz b2 b4 se ff s jf) H:=⟨μ',hm,jf,rfl,hI⟩
theorem z13a (b2 b4 se ff s:Nat) (H:zp) (K:KT)  {I:Nat→List Value→zp→Prop} {μ:Nat}:z1b I μ (z1a 2 (seqQ (exL Tryz.prog z3s (cr (cr (cl (cr (cl (cr (cr (cr (zq Tryz.f167))))))))) 768 192 []) (seqQ (exL Tryz.prog z3s (cr (cr (cr (cr (zq Tryz.f167))))) 192 192 []) (retK Tryz.prog Tryz.f167 K)))) (.exit 2) (.pointer (some ⟨s,0,none⟩)::ud7 (.slice (some ⟨b2,0,none⟩) (0+se) 1::.slice (some ⟨b4,0,none⟩) (0+ff) 1::ud101 [])) H=
 (∃kj:OA,∃(ij zj:Nat),  rdC H s 0=some (.slice kj ij zj)∧z1n (exL Tryz.prog z3s (cl (cl (cr (cr (cr (cl (cr (cl (cr (cr (cr (zq Tryz.f167)))))))))))) 4865 192 [(4,768)]) (.pointer (some ⟨s,0,none⟩)::ud7 (.slice (some ⟨b2,0,none⟩) (0+se) 1::.slice (some ⟨b4,0,none⟩) (0+ff) 1::ud2 (.int .i64 (IntKind.wrap .i64 ((ij:Int)-1))::ud98 []))) H (z1a 4 (seqQ (exL Tryz.prog z3s (cr (cr (cr (cr (zq Tryz.f167))))) 192 192 []) (retK Tryz.prog Tryz.f167 K)))):=by kernel_rfl
abbrev zk0 (b2 b4 se ff s:Nat) (k:Int)  :List Value:=(.pointer (some ⟨s,0,none⟩)::ud7 (.slice (some ⟨b2,0,none⟩) (0+se) 1::.slice (some ⟨b4,0,none⟩) (0+ff) 1::ud2 (.int .i64 k::ud98 [])))
theorem z1hp (b2 b4 se ff s:Nat) (k:Int)  (H:zp) (R:Post):exL Tryz.prog z3s (cl (cl (cr (cr (cr (cl (cr (cl (cr (cr (cr (zq Tryz.f167)))))))))))) 4865 192 [(4,768)] (zk0 b2 b4 se ff s k) H R=
 (Br (decide ((0:Int)≤k)) (∃ai:OA,∃(zh ki:Nat),  rdC H s 0=some (.slice ai zh ki)∧(0:Int)≤k∧k<(zh:Int)∧∃b9 f5,(ai:OA)=some ⟨b9,f5,none⟩∧∃x7:Nat,  rdC H b9 (f5+(k:Int).toNat*1)=some (.float .f32 x7)∧zj7 (some ⟨b2,0,none⟩) (0+se) 1 (some ⟨b4,0,none⟩) (0+ff) 1 k (fneg .f32 x7) H fun  (H7:zp)=>R .normal (.pointer (some ⟨s,0,none⟩)::ud7 (.slice (some ⟨b2,0,none⟩) (0+se) 1::.slice (some ⟨b4,0,none⟩) (0+ff) 1::ud2 (.int .i64 (IntKind.wrap .i64 (k-1))::ud98 []))) H7) (R (.exit 4) (ud8 (.slice (some ⟨b2,0,none⟩) (0+se) 1::.slice (some ⟨b4,0,none⟩) (0+ff) 1::ud101 [])) H)):=by kernel_rfl
def zwy (b2 b4 se ff s:Nat) (Inv:Nat→Int→zp→Prop):Nat→List Value→zp→Prop:=fun μ tm H=>∃k:Int,tm=(zk0 b2 b4 se ff s k)∧Inv μ k H
theorem z1hi (b2 b4 se ff s:Nat) {Q:Post} (Inv:Nat→Int→zp→Prop) (ν:Nat) (k:Int)  (H:zp) (h0:Inv ν k H)
  (hs:∀(μ:Nat) (k:Int)  (H:zp),Inv μ k H→exL Tryz.prog z3s (cl (cl (cr (cr (cr (cl (cr (cl (cr (cr (cr (zq Tryz.f167)))))))))))) 4865 192 [(4,768)] (zk0 b2 b4 se ff s k) H (z1b (zwy b2 b4 se ff s Inv) μ Q)):z1n (exL Tryz.prog z3s (cl (cl (cr (cr (cr (cl (cr (cl (cr (cr (cr (zq Tryz.f167)))))))))))) 4865 192 [(4,768)]) (zk0 b2 b4 se ff s k) H Q:=
 ⟨zwy b2 b4 se ff s Inv,ν,⟨k,rfl,h0⟩,fun μ tm H h=>by obtain ⟨k,rfl,hI⟩:=h;exact hs μ k  H hI⟩
theorem z1hl {b2 b4 se ff s:Nat} {Q:Post} {Inv:Nat→Int→zp→Prop} {μ:Nat} (μ':Nat) {k:Int}  {H:zp} (hm:μ'<μ) (hI:Inv μ' k H):z1b (zwy b2 b4 se ff s Inv) μ Q .normal (zk0 b2 b4 se ff s k) H:=⟨μ',hm,k,rfl,hI⟩
theorem z13b (b2 b4 se ff:Nat) (H:zp) (K:KT)  {I:Nat→List Value→zp→Prop} {μ:Nat}:z1b I μ (z1a 4 (seqQ (exL Tryz.prog z3s (cr (cr (cr (cr (zq Tryz.f167))))) 192 192 []) (retK Tryz.prog Tryz.f167 K))) (.exit 4) (ud8 (.slice (some ⟨b2,0,none⟩) (0+se) 1::.slice (some ⟨b4,0,none⟩) (0+ff) 1::ud101 [])) H=
 (Al [] H fun b10 H8=>z1n (exL Tryz.prog z3s (cl (cl (cr (cl (cr (cr (cr (cr (cr (zq Tryz.f167)))))))))) 25344 192 [(6,8192)]) (ud8 (.slice (some ⟨b2,0,none⟩) (0+se) 1::.slice (some ⟨b4,0,none⟩) (0+ff) 1::ud3 (.slice (some ⟨b10,0,none⟩) 0 1::.int .i64 0::ud96 []))) H8 (z1a 6 (seqQ (exL Tryz.prog z3s (cr (cr (cr (cr (cr (cr (zq Tryz.f167))))))) 192 192 []) (retK Tryz.prog Tryz.f167 K)))):=by kernel_rfl
abbrev zk1 (b2 b4 se ff:Nat) (zg:OA) (tg dh:Nat) (mg:Int)  :List Value:=(ud8 (.slice (some ⟨b2,0,none⟩) (0+se) 1::.slice (some ⟨b4,0,none⟩) (0+ff) 1::ud3 (.slice zg tg dh::.int .i64 mg::ud96 [])))
theorem z19j (b2 b4 se ff:Nat) (zg:OA) (tg dh:Nat) (mg:Int)  (H:zp) (R:Post):exL Tryz.prog z3s (cl (cl (cr (cl (cr (cr (cr (cr (cr (zq Tryz.f167)))))))))) 25344 192 [(6,8192)] (zk1 b2 b4 se ff zg tg dh mg) H R=
 (Br (decide ((mg:Int)<(0+se:Int))) ((0:Int)≤mg∧mg<(0+se:Int)∧∃b11 f6,(some ⟨b2,0,none⟩:OA)=some ⟨b11,f6,none⟩∧∃x8:Nat,  rdC H b11 (f6+(mg:Int).toNat*1)=some (.float .f32 x8)∧Al [.float .f32 x8] H fun b12 H9=>∃o3 w3:List Value,ownB H9 zg tg dh 1=some o3∧rdS H9 (some ⟨b12,0,none⟩) (1*1)=some w3∧((zg:OA)=none→0<(1:Nat))∧(tg:Nat)+1<most∧Ap H9 (z3c H9 zg++[some ⟨o3++w3,true⟩]) fun b13 H10=>Br (decide ((mg:Int)<(0+ff:Int))) ((0:Int)≤mg∧mg<(0+ff:Int)∧∃b14 f7,(some ⟨b4,0,none⟩:OA)=some ⟨b14,f7,none⟩∧∃x9:Nat,  rdC H10 b14 (f7+(mg:Int).toNat*1)=some (.float .f32 x9)∧Al [.float .f32 x9] H10 fun b15 H11=>∃o4 w4:List Value,ownB H11 (some ⟨b13,0,none⟩) (tg+1) 1 1=some o4∧rdS H11 (some ⟨b15,0,none⟩) (1*1)=some w4∧((some ⟨b13,0,none⟩:OA)=none→0<(1:Nat))∧(tg+1:Nat)+1<most∧Ap H11 (z3c H11 (some ⟨b13,0,none⟩)++[some ⟨o4++w4,true⟩]) fun b16 H12=>R .normal (ud8 (.slice (some ⟨b2,0,none⟩) (0+se) 1::.slice (some ⟨b4,0,none⟩) (0+ff) 1::ud3 (.slice (some ⟨b16,0,none⟩) ((tg+1)+1) 1::.int .i64 (IntKind.wrap .i64 (mg+1))::ud96 []))) H12) (R .normal (ud8 (.slice (some ⟨b2,0,none⟩) (0+se) 1::.slice (some ⟨b4,0,none⟩) (0+ff) 1::ud3 (.slice (some ⟨b13,0,none⟩) (tg+1) 1::.int .i64 (IntKind.wrap .i64 (mg+1))::ud96 []))) H10)) (R (.exit 6) (ud13 (.slice zg tg dh::ud97 [])) H)):=by kernel_rfl
def zwz (b2 b4 se ff:Nat) (Inv:Nat→OA→Nat→Nat→Int→zp→Prop):Nat→List Value→zp→Prop:=fun μ tm H=>∃zg:OA,∃(tg dh:Nat),∃mg:Int,tm=(zk1 b2 b4 se ff zg tg dh mg)∧Inv μ zg tg dh mg H
theorem z19i (b2 b4 se ff:Nat) {Q:Post} (Inv:Nat→OA→Nat→Nat→Int→zp→Prop) (ν:Nat) (zg:OA) (tg dh:Nat) (mg:Int)  (H:zp) (h0:Inv ν zg tg dh mg H)
  (hs:∀(μ:Nat) (zg:OA) (tg:Nat) (dh:Nat) (mg:Int)  (H:zp),Inv μ zg tg dh mg H→exL Tryz.prog z3s (cl (cl (cr (cl (cr (cr (cr (cr (cr (zq Tryz.f167)))))))))) 25344 192 [(6,8192)] (zk1 b2 b4 se ff zg tg dh mg) H (z1b (zwz b2 b4 se ff Inv) μ Q)):z1n (exL Tryz.prog z3s (cl (cl (cr (cl (cr (cr (cr (cr (cr (zq Tryz.f167)))))))))) 25344 192 [(6,8192)]) (zk1 b2 b4 se ff zg tg dh mg) H Q:=
 ⟨zwz b2 b4 se ff Inv,ν,⟨zg,tg,dh,mg,rfl,h0⟩,fun μ tm H h=>by obtain ⟨zg,tg,dh,mg,rfl,hI⟩:=h;exact hs μ zg tg dh mg  H hI⟩
theorem zox {b2 b4 se ff:Nat} {Q:Post} {Inv:Nat→OA→Nat→Nat→Int→zp→Prop} {μ:Nat} (μ':Nat) {zg:OA} {tg dh:Nat} {mg:Int}  {H:zp} (hm:μ'<μ) (hI:Inv μ' zg tg dh mg H):z1b (zwz b2 b4 se ff Inv) μ Q .normal (zk1 b2 b4 se ff zg tg dh mg) H:=⟨μ',hm,zg,tg,dh,mg,rfl,hI⟩
theorem zoy (zg:OA) (tg dh:Nat) (H:zp) (K:KT)  {I:Nat→List Value→zp→Prop} {μ:Nat}:z1b I μ (z1a 6 (seqQ (exL Tryz.prog z3s (cr (cr (cr (cr (cr (cr (zq Tryz.f167))))))) 192 192 []) (retK Tryz.prog Tryz.f167 K))) (.exit 6) (ud13 (.slice zg tg dh::ud97 [])) H=
 (zo6 zg tg dh H fun (a1:OA) (r1:Nat) (r2:Nat) (r3:Bool) (H13:zp)=>K (.tuple #[.slice a1 r1 r2,.bool r3]) H13):=by kernel_rfl
theorem zzo:∀g,FnOk Tryz.prog g (z3s g):=FnOk.envOf (by
 intro x hx
 simp only [List.mem_cons,List.not_mem_nil,or_false] at hx
 rcases hx with rfl | rfl
 ·exact zvx
 ·exact z1cp)
theorem ω14 {P:Prop} (h:P:=by first | assumption | omega | (simp only [List.length_set,z4h,z3a];first | rfl | assumption | omega)):P:=h
theorem ω28 {P:Prop} (h:P:=by rw [show μ2-1+1=μ2 from by first | omega];exact e):P:=h
theorem ω29 {P:Prop} (h:P:=by rw [show μ3-1+1=μ3 from by first | omega];exact e):P:=h
theorem ω30 {P:Prop} (h:P:=by rw [show μ4-1+1=μ4 from by first | omega];exact e):P:=h
theorem ω17 {P:Prop} (h:P:=by first | exact OwnS.nil _ _ _ _ | exact OwnT.nil _ _ _ | exact z4t.nil _ _ _ _):P:=h
theorem z12y (s:Nat) (ui:OA) (se gj:Nat) (jj:OA) (ff vj:Nat) (H:zp) (K:KT) (h:T_fjz s ui se gj jj ff vj H fun (od:OA) (xd:Nat) (vd:Nat) (r2:Bool) (H':zp)=>K (.tuple #[.slice od xd vd,.bool r2]) H'):zw Tryz.prog z3s Tryz.f167 [.pointer (some ⟨s,0,none⟩),.slice ui se gj,.slice jj ff vj] H K:=by
 rw [z1hq]
 obtain ⟨jb,qb,tb,xa,aa,fe,nf,i_s,dc,i_even,i_odd,bd_351,bd_352,bd_353,pr0,pr1,pr2,hk⟩:=h
 obtain rfl:=dc.eqn
 obtain rfl:=i_even.eqn
 obtain rfl:=i_odd.eqn
 have e:(z8e aa xa fe nf)=_:=rfl
 have e:=e.trans (zpi aa xa fe nf)
 have g0:=Grow.refl H
 refine Al.intro (fun b_1 H_1 hb_2 hl_3 g_4 o_5=>?_)
 have o_5:Own H_1 b_1 ((([]:LN)).map fF):=o_5
 have l_7:=g_4.1
 have g_8:=g0.trans g_4
 have l_9:=g_8.1
 have w350:=o_5.lt
 refine ⟨_,_,o_5.ownB ω3 rfl,(z2t (i_even.grow g_8)),(fun h=>by cases h),ω25,?_⟩
 refine Ap.app o_5 rfl rfl (fun b_14 H_2 q348 hl_10 o_11 k_12=>?_)
 have o_11:=z2l o_11
 have l_15:=k_12.1
 have g16:=g_8.keep (b:=b_1) ω2 k_12
 have l_17:=g16.1
 have w349:=o_11.lt
 refine Al.intro (fun b18 H_3 hb_19 hl_20 g21 o22=>?_)
 have o22:Own H_3 b18 ((([]:LN)).map fF):=o22
 have l24:=g21.1
 have g_25:=g16.trans g21
 have l26:=g_25.1
 have o27:=o_11.grow g21
 have w28:=o27.lt
 have w347:=o22.lt
 refine ⟨_,_,o22.ownB ω3 rfl,(z2t (i_odd.grow g_25)),(fun h=>by cases h),ω25,?_⟩
 refine Ap.app o22 rfl rfl (fun b33 H_4 q345 hl_29 o30 k31=>?_)
 have o30:=z2l o30
 have l34:=k31.1
 have g35:=g_25.keep (b:=b18) ω2 k31
 have l36:=g35.1
 have o37:=o27.keep ω2 k31
 have w38:=o37.lt
 have w346:=o30.lt
 refine Br.intro (fun c_39=>?_) (fun c_39=>?_)
 ·have e:=e.trans (zv c_39)
  have c_39':=odt c_39
  refine z1hg _ _ _ _ _ (fun (μ:Nat) (i:Int) (H_5:zp)=>∃(y1_1 y1_2:LN),Own H_5 b_14 (y1_1.map fF)∧y1_1.length=(0+(fe).length)∧Own H_5 b33 (y1_2.map fF)∧y1_2.length=(0+(nf).length)∧(b33≠b_14)∧Grow H H_5∧(0:Int)≤i∧i≤(0+fe.length:Int)∧(0+fe.length:Int)-i≤(μ:Int)∧z8e aa xa fe nf=z8f aa xa fe nf (μ+1) i y1_1 y1_2) (Int.toNat ((0+fe.length:Int)-(0:Int))) _ H_4 ?_ ?_
  ·exact ⟨_,_,o37,ω18,o30,ω18,ω2,g35,ω7,ω7,ω2,e⟩
  ·intro μ i  H_5 hI
   obtain ⟨y1_1,y1_2,o40,y41,o42,y43,n44,g45,v_46,v_47,hμ,e⟩:=hI
   rw [z1hn]
   have e:=e.trans (z9y aa xa fe nf μ i y1_1 y1_2)
   have w48:=o40.lt
   have w49:=o42.lt
   have l50:=g45.1
   refine Br.intro (fun c_51=>?_) (fun c_51=>?_)
   ·have e:=e.trans (zv c_51)
    have c_51':=odt c_51
    refine ⟨by omega,ω2,_,_,rfl,?_⟩
    refine ⟨((y1_1).getD (i:Int).toNat 0),o40.rd ω0 _,?_⟩
    refine ⟨xa,(z1l (zr g45 i_s) 1 (nbl rfl)).trans rfl,?_⟩
    refine ⟨by omega,ω2,_,_,rfl,?_⟩
    refine Lt.set o40 ω11 (fun H_6 hl_52 o54 k53=>?_)
    have o54:=map_set o54
    have l55:=k53.1
    have g56:=g45.keep (b:=b_14) ω2 k53
    have l57:=g56.1
    have o58:=o42.keep ω2 k53
    have w59:=o58.lt
    have w60:=o54.lt
    rw [show IntKind.wrap .i64 (i+1)=(i+1) from zt ω2 ω2]
    refine z1hj (μ-1) ω15 ⟨_,_,o54,ω14,o58,ω14,ω2,g56,ω1,ω1,ω15,ω13⟩
   ·have e:=e.trans (zu c_51)
    have c_51':=odf c_51
    rw [z12z]
    refine z1hh _ _ _ _ _ (fun (μ2:Nat) (jf:Int) (H_7:zp)=>∃(y2_1 y2_2:LN),Own H_7 b_14 (y2_1.map fF)∧y2_1.length=(0+(fe).length)∧Own H_7 b33 (y2_2.map fF)∧y2_2.length=(0+(nf).length)∧(b33≠b_14)∧Grow H H_7∧(0:Int)≤jf∧jf≤(0+nf.length:Int)∧(0+nf.length:Int)-jf≤(μ2:Int)∧z8e aa xa fe nf=zbo aa xa fe nf i y1_1 y1_2 (fun (jf:Int) (y2_1:LN) (y2_2:LN)=>(z8g aa xa fe nf i y1_1 y1_2 jf y2_1 y2_2 (fun (k:Int) (y3_1:LN) (y3_2:LN)=>(z5e aa xa fe nf i y1_1 y1_2 jf y2_1 y2_2 k y3_1 y3_2 (fun (fg:LN) (mg:Int)=>(bif (z5q fg).2 then (fg,true) else ([],false))) (Int.toNat ((0+fe.length:Int)-(0:Int))+1) ([]:LN) (0:Int))) (Int.toNat (((((aa.length:Int)-1)))-0+1)+1) ((((aa.length:Int)-1))) y2_1 y2_2)) (μ2+1) jf y2_1 y2_2) (Int.toNat ((0+nf.length:Int)-(0:Int))) _ H_5 ?_ ?_
    ·exact ⟨_,_,o40,ω18,o42,ω18,ω2,g45,ω7,ω7,ω2,e⟩
    ·intro μ2 jf  H_7 hI
     obtain ⟨y2_1,y2_2,o61,y62,o63,y64,n65,g66,v_67,v_68,hμ,e⟩:=hI
     rw [z1ho]
     have e:=e.trans (zgk aa xa fe nf i y1_1 y1_2 (fun (jf:Int) (y2_1:LN) (y2_2:LN)=>(z8g aa xa fe nf i y1_1 y1_2 jf y2_1 y2_2 (fun (k:Int) (y3_1:LN) (y3_2:LN)=>(z5e aa xa fe nf i y1_1 y1_2 jf y2_1 y2_2 k y3_1 y3_2 (fun (fg:LN) (mg:Int)=>(bif (z5q fg).2 then (fg,true) else ([],false))) (Int.toNat ((0+fe.length:Int)-(0:Int))+1) ([]:LN) (0:Int))) (Int.toNat (((((aa.length:Int)-1)))-0+1)+1) ((((aa.length:Int)-1))) y2_1 y2_2)) μ2 jf y2_1 y2_2)
     have w69:=o61.lt
     have w70:=o63.lt
     have l71:=g66.1
     refine Br.intro (fun c72=>?_) (fun c72=>?_)
     ·have e:=e.trans (zv c72)
      have c_72':=odt c72
      refine ⟨by omega,ω2,_,_,rfl,?_⟩
      refine ⟨((y2_2).getD (jf:Int).toNat 0),o63.rd ω0 _,?_⟩
      refine ⟨xa,(z1l (zr g66 i_s) 1 (nbl rfl)).trans rfl,?_⟩
      refine ⟨by omega,ω2,_,_,rfl,?_⟩
      refine Lt.set o63 ω11 (fun H_8 hl_73 o75 k74=>?_)
      have o75:=map_set o75
      have l76:=k74.1
      have g77:=g66.keep (b:=b33) ω2 k74
      have l78:=g77.1
      have o79:=o61.keep ω2 k74
      have w80:=o79.lt
      have w81:=o75.lt
      rw [show IntKind.wrap .i64 (jf+1)=(jf+1) from zt ω2 ω2]
      refine z1hk (μ2-1) ω15 ⟨_,_,o79,ω14,o75,ω14,ω2,g77,ω1,ω1,ω15,ω28⟩
     ·have e:=e.trans (zu c72)
      have c_72':=odf c72
      rw [z13a]
      refine ⟨jb,aa.length,tb,(z1l (zr g66 i_s) 0 (nbl rfl)).trans rfl,?_⟩
      rw [show IntKind.wrap .i64 ((aa.length:Int)-1)=((aa.length:Int)-1) from zt ω2 ω2]
      refine z1hi _ _ _ _ _ (fun (μ3:Nat) (k:Int) (H_9:zp)=>∃(y3_1 y3_2:LN),Own H_9 b_14 (y3_1.map fF)∧y3_1.length=(0+(fe).length)∧Own H_9 b33 (y3_2.map fF)∧y3_2.length=(0+(nf).length)∧(b33≠b_14)∧Grow H H_9∧k≤(((aa.length:Int)-1))∧k-0+1≤(μ3:Int)∧z8e aa xa fe nf=z8g aa xa fe nf i y1_1 y1_2 jf y2_1 y2_2 (fun (k:Int) (y3_1:LN) (y3_2:LN)=>(z5e aa xa fe nf i y1_1 y1_2 jf y2_1 y2_2 k y3_1 y3_2 (fun (fg:LN) (mg:Int)=>(bif (z5q fg).2 then (fg,true) else ([],false))) (Int.toNat ((0+fe.length:Int)-(0:Int))+1) ([]:LN) (0:Int))) (μ3+1) k y3_1 y3_2) (Int.toNat (((((aa.length:Int)-1)))-0+1)) _ H_7 ?_ ?_
      ·exact ⟨_,_,o61,ω18,o63,ω18,ω2,g66,ω7,ω2,e⟩
      ·intro μ3 k  H_9 hI
       obtain ⟨y3_1,y3_2,o82,y83,o84,y85,n86,g87,v88,hμ,e⟩:=hI
       rw [z1hp]
       have e:=e.trans (zgl aa xa fe nf i y1_1 y1_2 jf y2_1 y2_2 (fun (k:Int) (y3_1:LN) (y3_2:LN)=>(z5e aa xa fe nf i y1_1 y1_2 jf y2_1 y2_2 k y3_1 y3_2 (fun (fg:LN) (mg:Int)=>(bif (z5q fg).2 then (fg,true) else ([],false))) (Int.toNat ((0+fe.length:Int)-(0:Int))+1) ([]:LN) (0:Int))) μ3 k y3_1 y3_2)
       have w89:=o82.lt
       have w90:=o84.lt
       have l91:=g87.1
       refine Br.intro (fun c92=>?_) (fun c92=>?_)
       ·have e:=e.trans (zv c92)
        have c_92':=odt c92
        refine ⟨jb,aa.length,tb,(z1l (zr g87 i_s) 0 (nbl rfl)).trans rfl,?_⟩
        obtain ⟨b93,f_94,q95⟩:=((dc.grow g87)).pos ω0
        refine ⟨by omega,by omega,b93,f_94,q95,?_⟩
        refine ⟨((aa).getD (k:Int).toNat 0),(dc).rd g87 q95 ω2 _,?_⟩
        refine zo1 ⟨_,_,_,_,(o82.ownS ω8 (Nat.le_refl _)),(o84.ownS ω8 (Nat.le_refl _)),(fun x y hx hy=>by cases hx;cases hy;intro hh;dsimp only at hh;omega),ω0,ω0,ω9,ω9,(fun H_11 k96 o97 o98=>?_)⟩
        obtain ⟨H_10,k99,k100⟩:=k96.split
        have k101:=k99.keep1
        have l102:=k101.1
        have g103:=g87.keep (b:=b_14) ω2 k101
        have l104:=g103.1
        have o105:=o84.keep ω2 k101
        have w106:=o105.lt
        have k107:=k100.keep1
        have l108:=k107.1
        have g109:=g103.keep (b:=b33) ω2 k107
        have l110:=g109.1
        have o111:=o97.own1
        have w112:=o111.lt
        have o113:=o98.own1
        have w114:=o113.lt
        rw [show IntKind.wrap .i64 (k-1)=(k-1) from zt ω2 ω2]
        refine z1hl (μ3-1) ω15 ⟨_,_,o111,ω14,o113,ω14,ω2,g109,ω1,ω15,ω29⟩
       ·have e:=e.trans (zu c92)
        have c_92':=odf c92
        rw [z13b]
        refine Al.intro (fun b115 H_12 hb_116 hl_117 g118 o119=>?_)
        have o119:Own H_12 b115 ((([]:LN)).map fF):=o119
        have l121:=g118.1
        have g122:=g87.trans g118
        have l123:=g122.1
        have o124:=o82.grow g118
        have w125:=o124.lt
        have o126:=o84.grow g118
        have w127:=o126.lt
        have w229:=o119.lt
        refine z19i _ _ _ _ (fun (μ4:Nat) (zg:OA) (tg:Nat) (dh:Nat) (mg:Int) (H_13:zp)=>∃fg:LN,∃b128:Nat,zg=some ⟨b128,0,none⟩∧tg=fg.length∧dh=1∧Own H_13 b128 (fg.map fF)∧Own H_13 b_14 ((y3_1).map fF)∧Own H_13 b33 ((y3_2).map fF)∧(b33≠b_14)∧(b128≠b_14)∧(b128≠b33)∧Grow H H_13∧H.length≤b128∧(0:Int)≤mg∧mg≤(0+fe.length:Int)∧(fg.length:Int)≤2*(mg)∧(0+fe.length:Int)-mg≤(μ4:Int)∧z8e aa xa fe nf=z5e aa xa fe nf i y1_1 y1_2 jf y2_1 y2_2 k y3_1 y3_2 (fun (fg:LN) (mg:Int)=>(bif (z5q fg).2 then (fg,true) else ([],false))) (μ4+1) fg mg) (Int.toNat ((0+fe.length:Int)-(0:Int))) _ _ _ _ H_12 ?_ ?_
        ·exact ⟨_,_,rfl,ω5,rfl,o119,o124,o126,ω2,ω2,ω2,g122,ω2,ω7,ω7,ω7,ω2,e⟩
        ·intro μ4 zg tg dh mg  H_13 hI
         obtain ⟨fg,b128,rfl,rfl,rfl,o129,o130,o131,n132,n133,n134,g135,l136,v137,v138,v139,hμ,e⟩:=hI
         rw [z19j]
         have e:=e.trans (zgm aa xa fe nf i y1_1 y1_2 jf y2_1 y2_2 k y3_1 y3_2 (fun (fg:LN) (mg:Int)=>(bif (z5q fg).2 then (fg,true) else ([],false))) μ4 fg mg)
         have w140:=o130.lt
         have w141:=o131.lt
         have w142:=o129.lt
         have l143:=g135.1
         refine Br.intro (fun c144=>?_) (fun c144=>?_)
         ·have e:=e.trans (zv c144)
          have c_144':=odt c144
          refine ⟨by omega,ω2,_,_,rfl,?_⟩
          refine ⟨((y3_1).getD (mg:Int).toNat 0),o130.rd ω0 _,?_⟩
          refine Al.intro (fun b145 H_14 hb_146 hl_147 g148 o149=>?_)
          have o149:Own H_14 b145 (([(((y3_1).getD (mg:Int).toNat 0))]).map fF):=o149
          have l151:=g148.1
          have g152:=g135.trans g148
          have l153:=g152.1
          have o154:=o130.grow g148
          have w155:=o154.lt
          have o156:=o131.grow g148
          have w157:=o156.lt
          have o158:=o129.grow g148
          have w159:=o158.lt
          have w213:=o149.lt
          refine ⟨_,_,o158.ownB ω3 rfl,(z2t (o149.isL ω5)),(fun h=>by cases h),ω25,?_⟩
          refine Ap.app o158 rfl rfl (fun b164 H_15 q211 hl_160 o161 k162=>?_)
          have o161:=z2l o161
          have l165:=k162.1
          have g166:=g152.keep (b:=b128) ω2 k162
          have l167:=g166.1
          have o168:=o154.keep ω2 k162
          have w169:=o168.lt
          have o170:=o156.keep ω2 k162
          have w171:=o170.lt
          have o172:=o149.keep ω2 k162
          have w173:=o172.lt
          have w212:=o161.lt
          refine Br.intro (fun c174=>?_) (fun c174=>?_)
          ·have e:=e.trans (zv c174)
           have c_174':=odt c174
           refine ⟨by omega,ω2,_,_,rfl,?_⟩
           refine ⟨((y3_2).getD (mg:Int).toNat 0),o170.rd ω0 _,?_⟩
           refine Al.intro (fun b175 H_16 hb_176 hl_177 g178 o179=>?_)
           have o179:Own H_16 b175 (([(((y3_2).getD (mg:Int).toNat 0))]).map fF):=o179
           have l181:=g178.1
           have g182:=g166.trans g178
           have l183:=g182.1
           have o184:=o168.grow g178
           have w185:=o184.lt
           have o186:=o170.grow g178
           have w187:=o186.lt
           have o188:=o172.grow g178
           have w189:=o188.lt
           have o190:=o161.grow g178
           have w191:=o190.lt
           have w210:=o179.lt
           refine ⟨_,_,o190.ownB ω3 rfl,(z2t (o179.isL ω5)),(fun h=>by cases h),ω25,?_⟩
           refine Ap.app o190 rfl rfl (fun b196 H_17 q208 hl_192 o193 k194=>?_)
           have o193:=z2l o193
           have l197:=k194.1
           have g198:=g182.keep (b:=b164) ω2 k194
           have l199:=g198.1
           have o200:=o184.keep ω2 k194
           have w201:=o200.lt
           have o202:=o186.keep ω2 k194
           have w203:=o202.lt
           have o204:=o188.keep ω2 k194
           have w205:=o204.lt
           have o206:=o179.keep ω2 k194
           have w207:=o206.lt
           have w209:=o193.lt
           rw [show IntKind.wrap .i64 (mg+1)=(mg+1) from zt ω2 ω2]
           refine zox (μ4-1) ω15 ⟨_,_,rfl,ω8,rfl,o193,o200,o202,ω2,ω2,ω2,g198,ω2,ω1,ω1,ω1,ω15,ω30⟩
          ·have e:=e.trans (zu c174)
           have c_174':=odf c174
           rw [show IntKind.wrap .i64 (mg+1)=(mg+1) from zt ω2 ω2]
           refine zox (μ4-1) ω15 ⟨_,_,rfl,ω8,rfl,o161,o168,o170,ω2,ω2,ω2,g166,ω2,ω1,ω1,ω1,ω15,ω30⟩
         ·have e:=e.trans (zu c144)
          have c_144':=odf c144
          rw [zoy]
          refine zo7 ⟨_,(o129.isL ω5),ω0,(fun H_18 g218=>?_)⟩
          have l220:=g218.1
          have g221:=g135.trans g218
          have l222:=g221.1
          have o223:=o130.grow g218
          have w224:=o223.lt
          have o225:=o131.grow g218
          have w226:=o225.lt
          have o227:=o129.grow g218
          have w228:=o227.lt
          refine Br.intro (fun c219=>?_) (fun c219=>?_)
          ·have e:=e.trans (zv c219)
           rw [e] at hk
           exact hk _ _ _ H_18 g221 (o227.ownS ω5 ω2)
          ·have e:=e.trans (zu c219)
           rw [e] at hk
           exact hk _ _ _ H_18 g221 ω17
 ·have e:=e.trans (zu c_39)
  have c_39':=odf c_39
  refine Al.intro (fun b230 H_19 hb_231 hl_232 g233 o234=>?_)
  have o234:Own H_19 b230 ((([]:LN)).map fF):=o234
  have l236:=g233.1
  have g237:=g35.trans g233
  have l238:=g237.1
  have o239:=o37.grow g233
  have w240:=o239.lt
  have o241:=o30.grow g233
  have w242:=o241.lt
  have w344:=o234.lt
  refine z19i _ _ _ _ (fun (μ:Nat) (zg:OA) (tg:Nat) (dh:Nat) (mg:Int) (H_20:zp)=>∃fg:LN,∃b243:Nat,zg=some ⟨b243,0,none⟩∧tg=fg.length∧dh=1∧Own H_20 b243 (fg.map fF)∧Own H_20 b_14 (((([]:LN)++fe)).map fF)∧Own H_20 b33 (((([]:LN)++nf)).map fF)∧(b33≠b_14)∧(b243≠b_14)∧(b243≠b33)∧Grow H H_20∧H.length≤b243∧(0:Int)≤mg∧mg≤(0+fe.length:Int)∧(fg.length:Int)≤2*(mg)∧(0+fe.length:Int)-mg≤(μ:Int)∧z8e aa xa fe nf=z7r aa xa fe nf (μ+1) fg mg) (Int.toNat ((0+fe.length:Int)-(0:Int))) _ _ _ _ H_19 ?_ ?_
  ·exact ⟨_,_,rfl,ω5,rfl,o234,o239,o241,ω2,ω2,ω2,g237,ω2,ω7,ω7,ω7,ω2,e⟩
  ·intro μ zg tg dh mg  H_20 hI
   obtain ⟨fg,b243,rfl,rfl,rfl,o244,o245,o246,n247,n248,n249,g250,l251,v252,v253,v254,hμ,e⟩:=hI
   rw [z19j]
   have e:=e.trans (zes aa xa fe nf μ fg mg)
   have w255:=o245.lt
   have w256:=o246.lt
   have w257:=o244.lt
   have l258:=g250.1
   refine Br.intro (fun c259=>?_) (fun c259=>?_)
   ·have e:=e.trans (zv c259)
    have c_259':=odt c259
    refine ⟨by omega,ω2,_,_,rfl,?_⟩
    refine ⟨(((([]:LN)++fe)).getD (mg:Int).toNat 0),o245.rd ω0 _,?_⟩
    refine Al.intro (fun b260 H_21 hb_261 hl_262 g263 o264=>?_)
    have o264:Own H_21 b260 (([((((([]:LN)++fe)).getD (mg:Int).toNat 0))]).map fF):=o264
    have l266:=g263.1
    have g267:=g250.trans g263
    have l268:=g267.1
    have o269:=o245.grow g263
    have w270:=o269.lt
    have o271:=o246.grow g263
    have w272:=o271.lt
    have o273:=o244.grow g263
    have w274:=o273.lt
    have w328:=o264.lt
    refine ⟨_,_,o273.ownB ω3 rfl,(z2t (o264.isL ω5)),(fun h=>by cases h),ω25,?_⟩
    refine Ap.app o273 rfl rfl (fun b279 H_22 q326 hl_275 o276 k277=>?_)
    have o276:=z2l o276
    have l280:=k277.1
    have g281:=g267.keep (b:=b243) ω2 k277
    have l282:=g281.1
    have o283:=o269.keep ω2 k277
    have w284:=o283.lt
    have o285:=o271.keep ω2 k277
    have w286:=o285.lt
    have o287:=o264.keep ω2 k277
    have w288:=o287.lt
    have w327:=o276.lt
    refine Br.intro (fun c289=>?_) (fun c289=>?_)
    ·have e:=e.trans (zv c289)
     have c_289':=odt c289
     refine ⟨by omega,ω2,_,_,rfl,?_⟩
     refine ⟨(((([]:LN)++nf)).getD (mg:Int).toNat 0),o285.rd ω0 _,?_⟩
     refine Al.intro (fun b290 H_23 hb_291 hl_292 g293 o294=>?_)
     have o294:Own H_23 b290 (([((((([]:LN)++nf)).getD (mg:Int).toNat 0))]).map fF):=o294
     have l296:=g293.1
     have g297:=g281.trans g293
     have l298:=g297.1
     have o299:=o283.grow g293
     have w300:=o299.lt
     have o301:=o285.grow g293
     have w302:=o301.lt
     have o303:=o287.grow g293
     have w304:=o303.lt
     have o305:=o276.grow g293
     have w306:=o305.lt
     have w325:=o294.lt
     refine ⟨_,_,o305.ownB ω3 rfl,(z2t (o294.isL ω5)),(fun h=>by cases h),ω25,?_⟩
     refine Ap.app o305 rfl rfl (fun b311 H_24 q323 hl_307 o308 k309=>?_)
     have o308:=z2l o308
     have l312:=k309.1
     have g313:=g297.keep (b:=b279) ω2 k309
     have l314:=g313.1
     have o315:=o299.keep ω2 k309
     have w316:=o315.lt
     have o317:=o301.keep ω2 k309
     have w318:=o317.lt
     have o319:=o303.keep ω2 k309
     have w320:=o319.lt
     have o321:=o294.keep ω2 k309
     have w322:=o321.lt
     have w324:=o308.lt
     rw [show IntKind.wrap .i64 (mg+1)=(mg+1) from zt ω2 ω2]
     refine zox (μ-1) ω15 ⟨_,_,rfl,ω8,rfl,o308,o315,o317,ω2,ω2,ω2,g313,ω2,ω1,ω1,ω1,ω15,ω13⟩
    ·have e:=e.trans (zu c289)
     have c_289':=odf c289
     rw [show IntKind.wrap .i64 (mg+1)=(mg+1) from zt ω2 ω2]
     refine zox (μ-1) ω15 ⟨_,_,rfl,ω8,rfl,o276,o283,o285,ω2,ω2,ω2,g281,ω2,ω1,ω1,ω1,ω15,ω13⟩
   ·have e:=e.trans (zu c259)
    have c_259':=odf c259
    rw [zoy]
    refine zo7 ⟨_,(o244.isL ω5),ω0,(fun H_25 g333=>?_)⟩
    have l335:=g333.1
    have g336:=g250.trans g333
    have l337:=g336.1
    have o338:=o245.grow g333
    have w339:=o338.lt
    have o340:=o246.grow g333
    have w341:=o340.lt
    have o342:=o244.grow g333
    have w343:=o342.lt
    refine Br.intro (fun c334=>?_) (fun c334=>?_)
    ·have e:=e.trans (zv c334)
     rw [e] at hk
     exact hk _ _ _ H_25 g336 (o342.ownS ω5 ω2)
    ·have e:=e.trans (zu c334)
     rw [e] at hk
     exact hk _ _ _ H_25 g336 ω17
theorem z1hm:FnOk Tryz.prog 167 S_fjz:=FnOk.bodyF mix_ok zzo Tryz.func167 rfl ω10 ω10 fun args H=>by
 unfold F_fjz
 split
 ·refine ⟨?_,?_,?_,?_,fun K hk=>z12y _ _ _ _ _ _ _ H K hk⟩
  ·intro K K' h hk;obtain ⟨jb,qb,tb,xa,aa,fe,nf,i_s,dc,i_even,i_odd,bd_351,bd_352,bd_353,pr0,pr1,pr2,k⟩:=hk;exact ⟨jb,qb,tb,xa,aa,fe,nf,i_s,dc,i_even,i_odd,bd_351,bd_352,bd_353,pr0,pr1,pr2,(fun od xd vd H' gg ow0=>h _ _ (k od xd vd H' gg ow0))⟩
  ·nofun
  ·intro K hk;obtain ⟨jb,qb,tb,xa,aa,fe,nf,i_s,dc,i_even,i_odd,bd_351,bd_352,bd_353,pr0,pr1,pr2,k⟩:=hk;exact z4i fun a n e H1 g o=>⟨_,_,k a n e H1 g o⟩
  ·intro _ K hk;obtain ⟨jb,qb,tb,xa,aa,fe,nf,i_s,dc,i_even,i_odd,bd_351,bd_352,bd_353,pr0,pr1,pr2,k⟩:=hk;exact ⟨jb,qb,tb,xa,aa,fe,nf,i_s,dc,i_even,i_odd,bd_351,bd_352,bd_353,pr0,pr1,pr2,(fun od xd vd H' gg ow0=>⟨gg,k od xd vd H' gg ow0⟩)⟩
 ·exact Nice.no
end Go.Proofs.YthheoefadijhdaaGreat.Ai
