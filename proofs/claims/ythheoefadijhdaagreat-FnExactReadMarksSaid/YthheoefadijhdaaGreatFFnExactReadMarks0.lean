/- What functions of the program come to on the abstract machine, and that they do so; printed by a program of mine around proofs of mine. -/
import Derived.Test.YthheoefadijhdaaGreatProg
import Derived.Test.YthheoefadijhdaaGreatFFnExactReadMarksKt
import Derived.Test.YthheoefadijhdaaGreatFFnExactReadMarksOl
import Derived.Test.YthheoefadijhdaaGreatFFnExactReadMarksPi
import Derived.Test.YthheoefadijhdaaGreatFFnExactReadMarksRa
import Derived.Test.YthheoefadijhdaaGreatFFnExactReadMarksRd
set_option linter.unusedVariables false
set_option linter.unusedSimpArgs false
set_option linter.defProp false
set_option maxRecDepth 100000
set_option maxHeartbeats 1000000
namespace Go.Proofs.YthheoefadijhdaaGreat.Ai
open Go
attribute [local irreducible] z6j zt
theorem mix_ok:Tryz.prog.follows .mixedOrders=true:=by kernel_rfl
theorem nbl {a b:Nat} (h:Nat.ble a b=true):a≤b:=Nat.le_of_ble_eq_true h
theorem dct {p:Prop} [Decidable p] (h:p):decide p=true:=decide_eq_true h
theorem dcf {p:Prop} [Decidable p] (h:¬p):decide p=false:=decide_eq_false h
theorem odt {p:Prop} [Decidable p] (h:decide p=true):p:=of_decide_eq_true h
theorem odf {p:Prop} [Decidable p] (h:decide p=false):¬p:=of_decide_eq_false h
abbrev OA:=Option Addr
abbrev LN:=List Nat
abbrev KT:=Value→zn→Prop
abbrev ud2 (l:List Value):List Value:=ud::ud::l
abbrev ud3 (l:List Value):List Value:=ud::ud::ud::l
abbrev ud4 (l:List Value):List Value:=ud::ud::ud::ud::l
abbrev ud5 (l:List Value):List Value:=ud::ud::ud::ud::ud::l
abbrev ud6 (l:List Value):List Value:=ud::ud::ud::ud::ud::ud::l
abbrev ud7 (l:List Value):List Value:=ud::ud::ud::ud::ud::ud::ud::l
abbrev ud8 (l:List Value):List Value:=ud::ud::ud::ud::ud::ud::ud::ud::l
abbrev ud9 (l:List Value):List Value:=ud::ud::ud::ud::ud::ud::ud::ud::ud::l
abbrev ud10 (l:List Value):List Value:=ud::ud::ud::ud::ud::ud::ud::ud::ud::ud::l
abbrev ud11 (l:List Value):List Value:=ud::ud::ud::ud::ud::ud::ud::ud::ud::ud::ud::l
abbrev ud12 (l:List Value):List Value:=ud::ud::ud::ud::ud::ud::ud::ud::ud::ud::ud::ud::l
abbrev ud13 (l:List Value):List Value:=ud::ud::ud::ud::ud::ud::ud::ud::ud::ud::ud::ud::ud::l
abbrev ud14 (l:List Value):List Value:=ud::ud::ud::ud::ud::ud::ud::ud::ud::ud::ud::ud::ud::ud::l
abbrev ud15 (l:List Value):List Value:=ud::ud::ud::ud::ud::ud::ud::ud::ud::ud::ud::ud::ud::ud::ud::l
abbrev ud16 (l:List Value):List Value:=ud::ud::ud::ud::ud::ud::ud::ud::ud::ud::ud::ud::ud::ud::ud::ud::l
abbrev ud17 (l:List Value):List Value:=ud::ud::ud::ud::ud::ud::ud::ud::ud::ud::ud::ud::ud::ud::ud::ud::ud::l
abbrev ud18 (l:List Value):List Value:=ud::ud::ud::ud::ud::ud::ud::ud::ud::ud::ud::ud::ud::ud::ud::ud::ud::ud::l
abbrev ud20 (l:List Value):List Value:=ud::ud::ud::ud::ud::ud::ud::ud::ud::ud::ud::ud::ud::ud::ud::ud::ud::ud::ud::ud::l
abbrev ud21 (l:List Value):List Value:=ud::ud::ud::ud::ud::ud::ud::ud::ud::ud::ud::ud::ud::ud::ud::ud::ud::ud::ud::ud::ud::l
abbrev ud22 (l:List Value):List Value:=ud::ud::ud::ud::ud::ud::ud::ud::ud::ud::ud::ud::ud::ud::ud::ud::ud::ud::ud::ud::ud::ud::l
abbrev ud23 (l:List Value):List Value:=ud::ud::ud::ud::ud::ud::ud::ud::ud::ud::ud::ud::ud::ud::ud::ud::ud::ud::ud::ud::ud::ud::ud::l
abbrev ud24 (l:List Value):List Value:=ud::ud::ud::ud::ud::ud::ud::ud::ud::ud::ud::ud::ud::ud::ud::ud::ud::ud::ud::ud::ud::ud::ud::ud::l
abbrev ud25 (l:List Value):List Value:=ud::ud::ud::ud::ud::ud::ud::ud::ud::ud::ud::ud::ud::ud::ud::ud::ud::ud::ud::ud::ud::ud::ud::ud::ud::l
abbrev ud26 (l:List Value):List Value:=ud::ud::ud::ud::ud::ud::ud::ud::ud::ud::ud::ud::ud::ud::ud::ud::ud::ud::ud::ud::ud::ud::ud::ud::ud::ud::l
abbrev ud27 (l:List Value):List Value:=ud::ud::ud::ud::ud::ud::ud::ud::ud::ud::ud::ud::ud::ud::ud::ud::ud::ud::ud::ud::ud::ud::ud::ud::ud::ud::ud::l
abbrev ud28 (l:List Value):List Value:=ud::ud::ud::ud::ud::ud::ud::ud::ud::ud::ud::ud::ud::ud::ud::ud::ud::ud::ud::ud::ud::ud::ud::ud::ud::ud::ud::ud::l
abbrev ud29 (l:List Value):List Value:=ud::ud::ud::ud::ud::ud::ud::ud::ud::ud::ud::ud::ud::ud::ud::ud::ud::ud::ud::ud::ud::ud::ud::ud::ud::ud::ud::ud::ud::l
abbrev ud30 (l:List Value):List Value:=ud::ud::ud::ud::ud::ud::ud::ud::ud::ud::ud::ud::ud::ud::ud::ud::ud::ud::ud::ud::ud::ud::ud::ud::ud::ud::ud::ud::ud::ud::l
abbrev ud31 (l:List Value):List Value:=ud::ud::ud::ud::ud::ud::ud::ud::ud::ud::ud::ud::ud::ud::ud::ud::ud::ud::ud::ud::ud::ud::ud::ud::ud::ud::ud::ud::ud::ud::ud::l
abbrev ud32 (l:List Value):List Value:=ud::ud::ud::ud::ud::ud::ud::ud::ud::ud::ud::ud::ud::ud::ud::ud::ud::ud::ud::ud::ud::ud::ud::ud::ud::ud::ud::ud::ud::ud::ud::ud::l
abbrev ud35 (l:List Value):List Value:=ud::ud::ud::ud::ud::ud::ud::ud::ud::ud::ud::ud::ud::ud::ud::ud::ud::ud::ud::ud::ud::ud::ud::ud::ud::ud::ud::ud::ud::ud::ud::ud::ud::ud::ud::l
abbrev ud36 (l:List Value):List Value:=ud::ud::ud::ud::ud::ud::ud::ud::ud::ud::ud::ud::ud::ud::ud::ud::ud::ud::ud::ud::ud::ud::ud::ud::ud::ud::ud::ud::ud::ud::ud::ud::ud::ud::ud::ud::l
abbrev ud37 (l:List Value):List Value:=ud::ud::ud::ud::ud::ud::ud::ud::ud::ud::ud::ud::ud::ud::ud::ud::ud::ud::ud::ud::ud::ud::ud::ud::ud::ud::ud::ud::ud::ud::ud::ud::ud::ud::ud::ud::ud::l
abbrev ud38 (l:List Value):List Value:=ud::ud::ud::ud::ud::ud::ud::ud::ud::ud::ud::ud::ud::ud::ud::ud::ud::ud::ud::ud::ud::ud::ud::ud::ud::ud::ud::ud::ud::ud::ud::ud::ud::ud::ud::ud::ud::ud::l
abbrev ud39 (l:List Value):List Value:=ud::ud::ud::ud::ud::ud::ud::ud::ud::ud::ud::ud::ud::ud::ud::ud::ud::ud::ud::ud::ud::ud::ud::ud::ud::ud::ud::ud::ud::ud::ud::ud::ud::ud::ud::ud::ud::ud::ud::l
abbrev ud40 (l:List Value):List Value:=ud::ud::ud::ud::ud::ud::ud::ud::ud::ud::ud::ud::ud::ud::ud::ud::ud::ud::ud::ud::ud::ud::ud::ud::ud::ud::ud::ud::ud::ud::ud::ud::ud::ud::ud::ud::ud::ud::ud::ud::l
abbrev ud44 (l:List Value):List Value:=ud::ud::ud::ud::ud::ud::ud::ud::ud::ud::ud::ud::ud::ud::ud::ud::ud::ud::ud::ud::ud::ud::ud::ud::ud::ud::ud::ud::ud::ud::ud::ud::ud::ud::ud::ud::ud::ud::ud::ud::ud::ud::ud::ud::l
abbrev ud45 (l:List Value):List Value:=ud::ud::ud::ud::ud::ud::ud::ud::ud::ud::ud::ud::ud::ud::ud::ud::ud::ud::ud::ud::ud::ud::ud::ud::ud::ud::ud::ud::ud::ud::ud::ud::ud::ud::ud::ud::ud::ud::ud::ud::ud::ud::ud::ud::ud::l
abbrev ud47 (l:List Value):List Value:=ud::ud::ud::ud::ud::ud::ud::ud::ud::ud::ud::ud::ud::ud::ud::ud::ud::ud::ud::ud::ud::ud::ud::ud::ud::ud::ud::ud::ud::ud::ud::ud::ud::ud::ud::ud::ud::ud::ud::ud::ud::ud::ud::ud::ud::ud::ud::l
abbrev ud49 (l:List Value):List Value:=ud::ud::ud::ud::ud::ud::ud::ud::ud::ud::ud::ud::ud::ud::ud::ud::ud::ud::ud::ud::ud::ud::ud::ud::ud::ud::ud::ud::ud::ud::ud::ud::ud::ud::ud::ud::ud::ud::ud::ud::ud::ud::ud::ud::ud::ud::ud::ud::ud::l
abbrev ud50 (l:List Value):List Value:=ud::ud::ud::ud::ud::ud::ud::ud::ud::ud::ud::ud::ud::ud::ud::ud::ud::ud::ud::ud::ud::ud::ud::ud::ud::ud::ud::ud::ud::ud::ud::ud::ud::ud::ud::ud::ud::ud::ud::ud::ud::ud::ud::ud::ud::ud::ud::ud::ud::ud::l
abbrev ud51 (l:List Value):List Value:=ud::ud::ud::ud::ud::ud::ud::ud::ud::ud::ud::ud::ud::ud::ud::ud::ud::ud::ud::ud::ud::ud::ud::ud::ud::ud::ud::ud::ud::ud::ud::ud::ud::ud::ud::ud::ud::ud::ud::ud::ud::ud::ud::ud::ud::ud::ud::ud::ud::ud::ud::l
abbrev ud52 (l:List Value):List Value:=ud::ud::ud::ud::ud::ud::ud::ud::ud::ud::ud::ud::ud::ud::ud::ud::ud::ud::ud::ud::ud::ud::ud::ud::ud::ud::ud::ud::ud::ud::ud::ud::ud::ud::ud::ud::ud::ud::ud::ud::ud::ud::ud::ud::ud::ud::ud::ud::ud::ud::ud::ud::l
abbrev ud53 (l:List Value):List Value:=ud::ud::ud::ud::ud::ud::ud::ud::ud::ud::ud::ud::ud::ud::ud::ud::ud::ud::ud::ud::ud::ud::ud::ud::ud::ud::ud::ud::ud::ud::ud::ud::ud::ud::ud::ud::ud::ud::ud::ud::ud::ud::ud::ud::ud::ud::ud::ud::ud::ud::ud::ud::ud::l
abbrev ud54 (l:List Value):List Value:=ud::ud::ud::ud::ud::ud::ud::ud::ud::ud::ud::ud::ud::ud::ud::ud::ud::ud::ud::ud::ud::ud::ud::ud::ud::ud::ud::ud::ud::ud::ud::ud::ud::ud::ud::ud::ud::ud::ud::ud::ud::ud::ud::ud::ud::ud::ud::ud::ud::ud::ud::ud::ud::ud::l
abbrev ud55 (l:List Value):List Value:=ud::ud::ud::ud::ud::ud::ud::ud::ud::ud::ud::ud::ud::ud::ud::ud::ud::ud::ud::ud::ud::ud::ud::ud::ud::ud::ud::ud::ud::ud::ud::ud::ud::ud::ud::ud::ud::ud::ud::ud::ud::ud::ud::ud::ud::ud::ud::ud::ud::ud::ud::ud::ud::ud::ud::l
abbrev ud56 (l:List Value):List Value:=ud::ud::ud::ud::ud::ud::ud::ud::ud::ud::ud::ud::ud::ud::ud::ud::ud::ud::ud::ud::ud::ud::ud::ud::ud::ud::ud::ud::ud::ud::ud::ud::ud::ud::ud::ud::ud::ud::ud::ud::ud::ud::ud::ud::ud::ud::ud::ud::ud::ud::ud::ud::ud::ud::ud::ud::l
abbrev ud59 (l:List Value):List Value:=ud::ud::ud::ud::ud::ud::ud::ud::ud::ud::ud::ud::ud::ud::ud::ud::ud::ud::ud::ud::ud::ud::ud::ud::ud::ud::ud::ud::ud::ud::ud::ud::ud::ud::ud::ud::ud::ud::ud::ud::ud::ud::ud::ud::ud::ud::ud::ud::ud::ud::ud::ud::ud::ud::ud::ud::ud::ud::ud::l
abbrev ud60 (l:List Value):List Value:=ud::ud::ud::ud::ud::ud::ud::ud::ud::ud::ud::ud::ud::ud::ud::ud::ud::ud::ud::ud::ud::ud::ud::ud::ud::ud::ud::ud::ud::ud::ud::ud::ud::ud::ud::ud::ud::ud::ud::ud::ud::ud::ud::ud::ud::ud::ud::ud::ud::ud::ud::ud::ud::ud::ud::ud::ud::ud::ud::ud::l
abbrev ud61 (l:List Value):List Value:=ud::ud::ud::ud::ud::ud::ud::ud::ud::ud::ud::ud::ud::ud::ud::ud::ud::ud::ud::ud::ud::ud::ud::ud::ud::ud::ud::ud::ud::ud::ud::ud::ud::ud::ud::ud::ud::ud::ud::ud::ud::ud::ud::ud::ud::ud::ud::ud::ud::ud::ud::ud::ud::ud::ud::ud::ud::ud::ud::ud::ud::l
abbrev ud62 (l:List Value):List Value:=ud::ud::ud::ud::ud::ud::ud::ud::ud::ud::ud::ud::ud::ud::ud::ud::ud::ud::ud::ud::ud::ud::ud::ud::ud::ud::ud::ud::ud::ud::ud::ud::ud::ud::ud::ud::ud::ud::ud::ud::ud::ud::ud::ud::ud::ud::ud::ud::ud::ud::ud::ud::ud::ud::ud::ud::ud::ud::ud::ud::ud::ud::l
abbrev ud65 (l:List Value):List Value:=ud::ud::ud::ud::ud::ud::ud::ud::ud::ud::ud::ud::ud::ud::ud::ud::ud::ud::ud::ud::ud::ud::ud::ud::ud::ud::ud::ud::ud::ud::ud::ud::ud::ud::ud::ud::ud::ud::ud::ud::ud::ud::ud::ud::ud::ud::ud::ud::ud::ud::ud::ud::ud::ud::ud::ud::ud::ud::ud::ud::ud::ud::ud::ud::ud::l
abbrev ud67 (l:List Value):List Value:=ud::ud::ud::ud::ud::ud::ud::ud::ud::ud::ud::ud::ud::ud::ud::ud::ud::ud::ud::ud::ud::ud::ud::ud::ud::ud::ud::ud::ud::ud::ud::ud::ud::ud::ud::ud::ud::ud::ud::ud::ud::ud::ud::ud::ud::ud::ud::ud::ud::ud::ud::ud::ud::ud::ud::ud::ud::ud::ud::ud::ud::ud::ud::ud::ud::ud::ud::l
abbrev ud68 (l:List Value):List Value:=ud::ud::ud::ud::ud::ud::ud::ud::ud::ud::ud::ud::ud::ud::ud::ud::ud::ud::ud::ud::ud::ud::ud::ud::ud::ud::ud::ud::ud::ud::ud::ud::ud::ud::ud::ud::ud::ud::ud::ud::ud::ud::ud::ud::ud::ud::ud::ud::ud::ud::ud::ud::ud::ud::ud::ud::ud::ud::ud::ud::ud::ud::ud::ud::ud::ud::ud::ud::l
abbrev ud71 (l:List Value):List Value:=ud::ud::ud::ud::ud::ud::ud::ud::ud::ud::ud::ud::ud::ud::ud::ud::ud::ud::ud::ud::ud::ud::ud::ud::ud::ud::ud::ud::ud::ud::ud::ud::ud::ud::ud::ud::ud::ud::ud::ud::ud::ud::ud::ud::ud::ud::ud::ud::ud::ud::ud::ud::ud::ud::ud::ud::ud::ud::ud::ud::ud::ud::ud::ud::ud::ud::ud::ud::ud::ud::ud::l
abbrev ud81 (l:List Value):List Value:=ud::ud::ud::ud::ud::ud::ud::ud::ud::ud::ud::ud::ud::ud::ud::ud::ud::ud::ud::ud::ud::ud::ud::ud::ud::ud::ud::ud::ud::ud::ud::ud::ud::ud::ud::ud::ud::ud::ud::ud::ud::ud::ud::ud::ud::ud::ud::ud::ud::ud::ud::ud::ud::ud::ud::ud::ud::ud::ud::ud::ud::ud::ud::ud::ud::ud::ud::ud::ud::ud::ud::ud::ud::ud::ud::ud::ud::ud::ud::ud::ud::l
abbrev ud82 (l:List Value):List Value:=ud::ud::ud::ud::ud::ud::ud::ud::ud::ud::ud::ud::ud::ud::ud::ud::ud::ud::ud::ud::ud::ud::ud::ud::ud::ud::ud::ud::ud::ud::ud::ud::ud::ud::ud::ud::ud::ud::ud::ud::ud::ud::ud::ud::ud::ud::ud::ud::ud::ud::ud::ud::ud::ud::ud::ud::ud::ud::ud::ud::ud::ud::ud::ud::ud::ud::ud::ud::ud::ud::ud::ud::ud::ud::ud::ud::ud::ud::ud::ud::ud::ud::l
abbrev ud89 (l:List Value):List Value:=ud::ud::ud::ud::ud::ud::ud::ud::ud::ud::ud::ud::ud::ud::ud::ud::ud::ud::ud::ud::ud::ud::ud::ud::ud::ud::ud::ud::ud::ud::ud::ud::ud::ud::ud::ud::ud::ud::ud::ud::ud::ud::ud::ud::ud::ud::ud::ud::ud::ud::ud::ud::ud::ud::ud::ud::ud::ud::ud::ud::ud::ud::ud::ud::ud::ud::ud::ud::ud::ud::ud::ud::ud::ud::ud::ud::ud::ud::ud::ud::ud::ud::ud::ud::ud::ud::ud::ud::ud::l
abbrev ud94 (l:List Value):List Value:=ud::ud::ud::ud::ud::ud::ud::ud::ud::ud::ud::ud::ud::ud::ud::ud::ud::ud::ud::ud::ud::ud::ud::ud::ud::ud::ud::ud::ud::ud::ud::ud::ud::ud::ud::ud::ud::ud::ud::ud::ud::ud::ud::ud::ud::ud::ud::ud::ud::ud::ud::ud::ud::ud::ud::ud::ud::ud::ud::ud::ud::ud::ud::ud::ud::ud::ud::ud::ud::ud::ud::ud::ud::ud::ud::ud::ud::ud::ud::ud::ud::ud::ud::ud::ud::ud::ud::ud::ud::ud::ud::ud::ud::ud::l
abbrev ud95 (l:List Value):List Value:=ud::ud::ud::ud::ud::ud::ud::ud::ud::ud::ud::ud::ud::ud::ud::ud::ud::ud::ud::ud::ud::ud::ud::ud::ud::ud::ud::ud::ud::ud::ud::ud::ud::ud::ud::ud::ud::ud::ud::ud::ud::ud::ud::ud::ud::ud::ud::ud::ud::ud::ud::ud::ud::ud::ud::ud::ud::ud::ud::ud::ud::ud::ud::ud::ud::ud::ud::ud::ud::ud::ud::ud::ud::ud::ud::ud::ud::ud::ud::ud::ud::ud::ud::ud::ud::ud::ud::ud::ud::ud::ud::ud::ud::ud::ud::l
abbrev ud96 (l:List Value):List Value:=ud::ud::ud::ud::ud::ud::ud::ud::ud::ud::ud::ud::ud::ud::ud::ud::ud::ud::ud::ud::ud::ud::ud::ud::ud::ud::ud::ud::ud::ud::ud::ud::ud::ud::ud::ud::ud::ud::ud::ud::ud::ud::ud::ud::ud::ud::ud::ud::ud::ud::ud::ud::ud::ud::ud::ud::ud::ud::ud::ud::ud::ud::ud::ud::ud::ud::ud::ud::ud::ud::ud::ud::ud::ud::ud::ud::ud::ud::ud::ud::ud::ud::ud::ud::ud::ud::ud::ud::ud::ud::ud::ud::ud::ud::ud::ud::l
abbrev ud97 (l:List Value):List Value:=ud::ud::ud::ud::ud::ud::ud::ud::ud::ud::ud::ud::ud::ud::ud::ud::ud::ud::ud::ud::ud::ud::ud::ud::ud::ud::ud::ud::ud::ud::ud::ud::ud::ud::ud::ud::ud::ud::ud::ud::ud::ud::ud::ud::ud::ud::ud::ud::ud::ud::ud::ud::ud::ud::ud::ud::ud::ud::ud::ud::ud::ud::ud::ud::ud::ud::ud::ud::ud::ud::ud::ud::ud::ud::ud::ud::ud::ud::ud::ud::ud::ud::ud::ud::ud::ud::ud::ud::ud::ud::ud::ud::ud::ud::ud::ud::ud::l
abbrev ud98 (l:List Value):List Value:=ud::ud::ud::ud::ud::ud::ud::ud::ud::ud::ud::ud::ud::ud::ud::ud::ud::ud::ud::ud::ud::ud::ud::ud::ud::ud::ud::ud::ud::ud::ud::ud::ud::ud::ud::ud::ud::ud::ud::ud::ud::ud::ud::ud::ud::ud::ud::ud::ud::ud::ud::ud::ud::ud::ud::ud::ud::ud::ud::ud::ud::ud::ud::ud::ud::ud::ud::ud::ud::ud::ud::ud::ud::ud::ud::ud::ud::ud::ud::ud::ud::ud::ud::ud::ud::ud::ud::ud::ud::ud::ud::ud::ud::ud::ud::ud::ud::ud::l
abbrev ud99 (l:List Value):List Value:=ud::ud::ud::ud::ud::ud::ud::ud::ud::ud::ud::ud::ud::ud::ud::ud::ud::ud::ud::ud::ud::ud::ud::ud::ud::ud::ud::ud::ud::ud::ud::ud::ud::ud::ud::ud::ud::ud::ud::ud::ud::ud::ud::ud::ud::ud::ud::ud::ud::ud::ud::ud::ud::ud::ud::ud::ud::ud::ud::ud::ud::ud::ud::ud::ud::ud::ud::ud::ud::ud::ud::ud::ud::ud::ud::ud::ud::ud::ud::ud::ud::ud::ud::ud::ud::ud::ud::ud::ud::ud::ud::ud::ud::ud::ud::ud::ud::ud::ud::l
abbrev ud100 (l:List Value):List Value:=ud::ud::ud::ud::ud::ud::ud::ud::ud::ud::ud::ud::ud::ud::ud::ud::ud::ud::ud::ud::ud::ud::ud::ud::ud::ud::ud::ud::ud::ud::ud::ud::ud::ud::ud::ud::ud::ud::ud::ud::ud::ud::ud::ud::ud::ud::ud::ud::ud::ud::ud::ud::ud::ud::ud::ud::ud::ud::ud::ud::ud::ud::ud::ud::ud::ud::ud::ud::ud::ud::ud::ud::ud::ud::ud::ud::ud::ud::ud::ud::ud::ud::ud::ud::ud::ud::ud::ud::ud::ud::ud::ud::ud::ud::ud::ud::ud::ud::ud::ud::l
abbrev ud101 (l:List Value):List Value:=ud::ud::ud::ud::ud::ud::ud::ud::ud::ud::ud::ud::ud::ud::ud::ud::ud::ud::ud::ud::ud::ud::ud::ud::ud::ud::ud::ud::ud::ud::ud::ud::ud::ud::ud::ud::ud::ud::ud::ud::ud::ud::ud::ud::ud::ud::ud::ud::ud::ud::ud::ud::ud::ud::ud::ud::ud::ud::ud::ud::ud::ud::ud::ud::ud::ud::ud::ud::ud::ud::ud::ud::ud::ud::ud::ud::ud::ud::ud::ud::ud::ud::ud::ud::ud::ud::ud::ud::ud::ud::ud::ud::ud::ud::ud::ud::ud::ud::ud::ud::ud::l
set_option maxHeartbeats 1000000

def zcu (l_a:LN) (left:Int):Int:=(bif decide ((IntKind.wrap .i64 (left-(l_a.length:Int)):Int)<0) then ((-1):Int) else IntKind.wrap .i64 (left-(l_a.length:Int)))
def zpr:=@zcu.eq_1
def zv6 (a_a:OA) (a_n a_e:Nat) (left:Int) (H:zn) (K:Int→zn→Prop):Prop:=∃l_a:LN,IsL fF H a_a a_n l_a∧K (zcu l_a left) H
theorem zv7 {a_a:OA} {a_n a_e:Nat} {left:Int} {H:zn} {K:Int→zn→Prop} (h:∃l_a:LN,IsL fF H a_a a_n l_a∧K (zcu l_a left) H):zv6 a_a a_n a_e left H K:=h
theorem ω2 {P:Prop} (h:P:=by omega):P:=h
theorem fjz_f (l:LN) (left:Int):0≤left→left≤1048576→l.length≤9223372036854775807→zcu l left<0∨(l.length:Int)≤left∧zcu l left=left-l.length:=by
 intro h0 h1 h2
 rw [zpr,zp ω2 ω2]
 by_cases h:left-(l.length:Int)<0
 ·rw [dct h,cond_true];left;decide
 ·rw [dcf h,cond_false];right;omega
def E_fjz:Env:=envOf []
def F_fjz (args:List Value) (H:zn):(Value→zn→Prop)→Prop:=match args with
 | [.slice a_a a_n a_e,.int .i64 left]=>fun K=>zv6 a_a a_n a_e left H fun (r1:Int) (H':zn)=>K (.int .i64 r1) H'
 | _=>fun _=>False
def S_fjz:FSpec:={F:=F_fjz,quiet:=true,tame:=false}
theorem z1iq (a_a:OA) (a_n a_e:Nat) (left:Int) (H:zn) (K:KT):zt Tryz.prog E_fjz Tryz.f44 [.slice a_a a_n a_e,.int .i64 left] H K=
 (Br (decide ((IntKind.wrap .i64 (left-(a_n:Int)):Int)<0)) (K (.int .i64 (-1)) H) (K (.int .i64 (IntKind.wrap .i64 (left-(a_n:Int)))) H)):=by kernel_rfl
theorem zzz:∀g,FnOk Tryz.prog g (E_fjz g):=FnOk.envOf (by
 intro x hx;cases hx)
theorem z13u (a_a:OA) (a_n a_e:Nat) (left:Int) (H:zn) (K:KT) (h:zv6 a_a a_n a_e left H fun (r1:Int) (H':zn)=>K (.int .i64 r1) H'):zt Tryz.prog E_fjz Tryz.f44 [.slice a_a a_n a_e,.int .i64 left] H K:=by
 rw [z1iq]
 obtain ⟨l_a,i_a,hk⟩:=h
 obtain rfl:=i_a.eqn
 have e:(zcu l_a left)=_:=rfl
 have e:=e.trans (zpr l_a left)
 have g0:=Grow.refl H
 refine Br.intro (fun c_1=>?_) (fun c_1=>?_)
 ·have e:=e.trans (zw c_1)
  have c_1':=odt c_1
  rw [e] at hk
  exact hk
 ·have e:=e.trans (zv c_1)
  have c_1':=odf c_1
  rw [e] at hk
  exact hk
theorem ω9 {P:Prop} (h:P:=by kernel_rfl):P:=h
theorem z19z:FnOk Tryz.prog 44 S_fjz:=FnOk.bodyF mix_ok zzz Tryz.func44 rfl ω9 ω9 fun args H=>by
 unfold F_fjz
 split
 ·refine ⟨?_,?_,?_,?_,fun K hk=>z13u _ _ _ _ H K hk⟩
  ·intro K K' h hk;obtain ⟨l_a,i_a,k⟩:=hk;exact ⟨l_a,i_a,h _ _ k⟩
  ·intro _ K hk;obtain ⟨l_a,i_a,k⟩:=hk;exact ⟨_,k,fun K' k'=>⟨l_a,i_a,k'⟩⟩
  ·intro K hk;obtain ⟨l_a,i_a,k⟩:=hk;exact ⟨_,_,k⟩
  ·nofun
 ·exact Nice.no

def z8t (zb:LN) (se:Nat) (left:Int):Int:=(bif decide (((zcu zb left):Int)<0) then ((-1):Int) else (zcu zb left))
def zlb:=@z8t.eq_1
def zob (vd:OA) (de fe se:Nat) (left:Int) (H:zn) (K:Int→zn→Prop):Prop:=∃zb:LN,IsL fF H vd de zb∧((∀H':zn,Grow H H'→K (z8t zb se left) H'))
theorem z11a {vd:OA} {de fe se:Nat} {left:Int} {H:zn} {K:Int→zn→Prop} (h:∃zb:LN,IsL fF H vd de zb∧((∀H':zn,Grow H H'→K (z8t zb se left) H'))):zob vd de fe se left H K:=h
theorem z19u (l:LN) (sc:Nat) (left:Int):0≤left→left≤1048576→l.length≤9223372036854775807→z8t l sc left<0∨(l.length:Int)≤left∧z8t l sc left=left-l.length:=by
 intro h0 h1 h2
 have:=fjz_f l left h0 h1 h2
 rw [zlb]
 by_cases h:zcu l left<0
 ·rw [dct h,cond_true];left;decide
 ·rw [dcf h,cond_false];right;omega
def zta:Env:=envOf [(44,S_fjz)]
def z17h (args:List Value) (H:zn):(Value→zn→Prop)→Prop:=match args with
 | [.agg ⟨[.slice vd de fe,.float .f32 se]⟩,.int .i64 left]=>fun K=>zob vd de fe se left H fun (r1:Int) (H':zn)=>K (.int .i64 r1) H'
 | _=>fun _=>False
def z18r:FSpec:={F:=z17h,quiet:=false,tame:=true}
theorem z1cd (vd:OA) (de fe se:Nat) (left:Int) (H:zn) (K:KT):zt Tryz.prog zta Tryz.f9 [.agg #[.slice vd de fe,.float .f32 se],.int .i64 left] H K=
 (Al [.slice vd de fe,.float .f32 se] H fun b1 H1=>∃vg:OA,∃(pg yg:Nat),  rdC H1 b1 0=some (.slice vg pg yg)∧zv6 vg pg yg left H1 fun (r1:Int) (H2:zn)=>Br (decide ((r1:Int)<0)) (K (.int .i64 (-1)) H2) (K (.int .i64 r1) H2)):=by kernel_rfl
theorem ztb:∀g,FnOk Tryz.prog g (zta g):=FnOk.envOf (by
 intro x hx
 simp only [List.mem_cons,List.not_mem_nil,or_false] at hx
 subst hx;exact z19z)
theorem zvv (vd:OA) (de fe se:Nat) (left:Int) (H:zn) (K:KT) (h:zob vd de fe se left H fun (r1:Int) (H':zn)=>K (.int .i64 r1) H'):zt Tryz.prog zta Tryz.f9 [.agg #[.slice vd de fe,.float .f32 se],.int .i64 left] H K:=by
 rw [z1cd]
 obtain ⟨zb,eg,hk⟩:=h
 obtain rfl:=eg.eqn
 have e:(z8t zb se left)=_:=rfl
 have e:=e.trans (zlb zb se left)
 have g0:=Grow.refl H
 refine Al.intro (fun b_1 H_1 hb_2 hl_3 g_4 o_5=>?_)
 have l_7:=g_4.1
 have g_8:=g0.trans g_4
 have l_9:=g_8.1
 have w_12:=o_5.lt
 refine ⟨vd,zb.length,fe,(o_5.rdC _).trans rfl,?_⟩
 refine zv7 ⟨_,(eg.grow g_8),?_⟩
 have z10:=fjz_f zb left
 refine Br.intro (fun c_11=>?_) (fun c_11=>?_)
 ·have e:=e.trans (zw c_11)
  have c_11':=odt c_11
  rw [e] at hk
  exact hk  H_1 g_8 
 ·have e:=e.trans (zv c_11)
  have c_11':=odf c_11
  rw [e] at hk
  exact hk  H_1 g_8 
theorem z1cc:FnOk Tryz.prog 9 z18r:=FnOk.bodyF mix_ok ztb Tryz.func9 rfl ω9 ω9 fun args H=>by
 unfold z17h
 split
 ·refine ⟨?_,?_,?_,?_,fun K hk=>zvv _ _ _ _ _ H K hk⟩
  ·intro K K' h hk;obtain ⟨zb,eg,k⟩:=hk;exact ⟨zb,eg,(fun  H' gg  =>h _ _ (k  H' gg))⟩
  ·nofun
  ·intro K hk;obtain ⟨zb,eg,k⟩:=hk;exact ⟨_,_,k H (Grow.refl H)⟩
  ·intro _ K hk;obtain ⟨zb,eg,k⟩:=hk;exact ⟨zb,eg,(fun  H' gg  =>⟨gg,k  H' gg⟩)⟩
 ·exact Nice.no

def zlq (nf qf:Int) (fc:LN) (left:Int):Int:=(bif decide (((zcu fc left):Int)<0) then ((-1):Int) else (zcu fc left))
def zpw:=@zlq.eq_1
def T_ftz (nf qf:Int) (ee:OA) (ie ue:Nat) (left:Int) (H:zn) (K:Int→zn→Prop):Prop:=∃fc:LN,IsL fF H ee ie fc∧((∀H':zn,Grow H H'→K (zlq nf qf fc left) H'))
theorem z1bu {nf qf:Int} {ee:OA} {ie ue:Nat} {left:Int} {H:zn} {K:Int→zn→Prop} (h:∃fc:LN,IsL fF H ee ie fc∧((∀H':zn,Grow H H'→K (zlq nf qf fc left) H'))):T_ftz nf qf ee ie ue left H K:=h
theorem ftz_f (a b:Int) (l:LN) (left:Int):0≤left→left≤1048576→l.length≤9223372036854775807→zlq a b l left<0∨(l.length:Int)≤left∧zlq a b l left=left-l.length:=by
 intro h0 h1 h2
 have:=fjz_f l left h0 h1 h2
 rw [zpw]
 by_cases h:zcu l left<0
 ·rw [dct h,cond_true];left;decide
 ·rw [dcf h,cond_false];right;omega
def E_ftz:Env:=envOf [(44,S_fjz)]
def F_ftz (args:List Value) (H:zn):(Value→zn→Prop)→Prop:=match args with
 | [.agg ⟨[.int .i64 nf,.int .i64 qf,.slice ee ie ue]⟩,.int .i64 left]=>fun K=>T_ftz nf qf ee ie ue left H fun (r1:Int) (H':zn)=>K (.int .i64 r1) H'
 | _=>fun _=>False
def S_ftz:FSpec:={F:=F_ftz,quiet:=false,tame:=true}
theorem z1jo (nf qf:Int) (ee:OA) (ie ue:Nat) (left:Int) (H:zn) (K:KT):zt Tryz.prog E_ftz Tryz.f10 [.agg #[.int .i64 nf,.int .i64 qf,.slice ee ie ue],.int .i64 left] H K=
 (Al [.int .i64 nf,.int .i64 qf,.slice ee ie ue] H fun b1 H1=>∃vg:OA,∃(pg yg:Nat),  rdC H1 b1 2=some (.slice vg pg yg)∧zv6 vg pg yg left H1 fun (r1:Int) (H2:zn)=>Br (decide ((r1:Int)<0)) (K (.int .i64 (-1)) H2) (K (.int .i64 r1) H2)):=by kernel_rfl
theorem z10i:∀g,FnOk Tryz.prog g (E_ftz g):=FnOk.envOf (by
 intro x hx
 simp only [List.mem_cons,List.not_mem_nil,or_false] at hx
 subst hx;exact z19z)
theorem z14n (nf qf:Int) (ee:OA) (ie ue:Nat) (left:Int) (H:zn) (K:KT) (h:T_ftz nf qf ee ie ue left H fun (r1:Int) (H':zn)=>K (.int .i64 r1) H'):zt Tryz.prog E_ftz Tryz.f10 [.agg #[.int .i64 nf,.int .i64 qf,.slice ee ie ue],.int .i64 left] H K:=by
 rw [z1jo]
 obtain ⟨fc,jg,hk⟩:=h
 obtain rfl:=jg.eqn
 have e:(zlq nf qf fc left)=_:=rfl
 have e:=e.trans (zpw nf qf fc left)
 have g0:=Grow.refl H
 refine Al.intro (fun b_1 H_1 hb_2 hl_3 g_4 o_5=>?_)
 have l_7:=g_4.1
 have g_8:=g0.trans g_4
 have l_9:=g_8.1
 have w_12:=o_5.lt
 refine ⟨ee,fc.length,ue,(o_5.rdC _).trans rfl,?_⟩
 refine zv7 ⟨_,(jg.grow g_8),?_⟩
 have z10:=fjz_f fc left
 refine Br.intro (fun c_11=>?_) (fun c_11=>?_)
 ·have e:=e.trans (zw c_11)
  have c_11':=odt c_11
  rw [e] at hk
  exact hk  H_1 g_8 
 ·have e:=e.trans (zv c_11)
  have c_11':=odf c_11
  rw [e] at hk
  exact hk  H_1 g_8 
theorem z1jn:FnOk Tryz.prog 10 S_ftz:=FnOk.bodyF mix_ok z10i Tryz.func10 rfl ω9 ω9 fun args H=>by
 unfold F_ftz
 split
 ·refine ⟨?_,?_,?_,?_,fun K hk=>z14n _ _ _ _ _ _ H K hk⟩
  ·intro K K' h hk;obtain ⟨fc,jg,k⟩:=hk;exact ⟨fc,jg,(fun  H' gg  =>h _ _ (k  H' gg))⟩
  ·nofun
  ·intro K hk;obtain ⟨fc,jg,k⟩:=hk;exact ⟨_,_,k H (Grow.refl H)⟩
  ·intro _ K hk;obtain ⟨fc,jg,k⟩:=hk;exact ⟨fc,jg,(fun  H' gg  =>⟨gg,k  H' gg⟩)⟩
 ·exact Nice.no

def zbq (l_a:LN):Nat→Int→LN→LN
 | 0,_,_=>[]
 | μ+1,i,y1_1=>(bif decide ((i:Int)<(l_a.length:Int)) then (zbq l_a μ (i+1) (((y1_1).set (i:Int).toNat ((((l_a).getD (i:Int).toNat 0)))))) else y1_1)
def zgy:=fun l_a μ i y1_1=>@zbq.eq_2 l_a i y1_1 μ
def zye (l_a:LN):LN:=(zbq l_a (Int.toNat ((l_a.length:Int)-(0:Int))+1) (0:Int) (List.replicate (((l_a.length:Int)).toNat) 0))
def zps:=@zye.eq_1
def zv8 (a_a:OA) (a_n a_e:Nat) (H:zn) (K:OA→Nat→Nat→zn→Prop):Prop:=∃l_a:LN,IsL fF H a_a a_n l_a∧l_a.length<1073741824∧((∀(jd:OA) (pd od:Nat),∀H':zn,Grow H H'→OwnS fF H' H.length jd pd od l_a→K jd pd od H'))
theorem zv9 {a_a:OA} {a_n a_e:Nat} {H:zn} {K:OA→Nat→Nat→zn→Prop} (h:∃l_a:LN,IsL fF H a_a a_n l_a∧l_a.length<1073741824∧((∀(jd:OA) (pd od:Nat),∀H':zn,Grow H H'→OwnS fF H' H.length jd pd od l_a→K jd pd od H'))):zv8 a_a a_n a_e H K:=h
theorem z1is (l:LN):∀(μ:Nat) (i:Nat) (ys:LN),ys.length=l.length→i≤l.length→l.length-i<μ→
  zbq l μ (i:Int) (l.take i++ys.drop i)=l:=by
 intro μ
 induction μ with
 | zero=>intro i ys _ _ h;omega
 | succ μ ih=>
  intro i ys hy hi hm
  rw [zgy]
  by_cases h:i<l.length
  ·rw [dct (show (i:Int)<(l.length:Int) by omega),cond_true]
   have hx:l[i]? =some (l.getD i 0):=by rw [List.getD_eq_getElem?_getD,List.getElem?_eq_getElem h];rfl
   rw [Int.toNat_natCast,z3m l ys i ω2 hy.symm _ hx]
   exact ih (i+1) ys hy ω2 ω2
  ·rw [dcf (show ¬(i:Int)<(l.length:Int) by omega),cond_false]
   rw [List.take_of_length_le ω2,List.drop_eq_nil_of_le ω2,List.append_nil]
theorem ω32 {P:Prop} (h:P:=by simp):P:=h
theorem z1it (l:LN):zye l=l:=by
 rw [zps]
 have:=z1is l (Int.toNat ((l.length:Int)-0)+1) 0 (List.replicate ((l.length:Int)).toNat 0) ω32 ω2 ω2
 simpa using this
def zhr:Env:=envOf []
def F_fkz (args:List Value) (H:zn):(Value→zn→Prop)→Prop:=match args with
 | [.slice a_a a_n a_e]=>fun K=>zv8 a_a a_n a_e H fun (jd:OA) (pd:Nat) (od:Nat) (H':zn)=>K (.slice jd pd od) H'
 | _=>fun _=>False
def S_fkz:FSpec:={F:=F_fkz,quiet:=false,tame:=true}
theorem z1iw (a_a:OA) (a_n a_e:Nat) (H:zn) (K:KT):zt Tryz.prog zhr Tryz.f48 [.slice a_a a_n a_e] H K=
 ((0:Int)≤(a_n:Int)∧(a_n:Int)=(a_n:Int)∧(a_n:Int)<(most:Int)∧Al (z1k (.float .f32 0) ((a_n:Int)).toNat) H fun b1 H1=>z1j (exL Tryz.prog zhr (cl (cl (cr (cl (cr (cr (zo Tryz.f48))))))) 25 4 [(0,8)]) (.slice a_a a_n a_e::ud2 (.slice (some ⟨b1,0,none⟩) (((a_n:Int)).toNat) 1::.int .i64 0::ud17 [])) H1 (zu 0 (seqQ (exL Tryz.prog zhr (cr (cr (cr (zo Tryz.f48)))) 4 4 []) (retK Tryz.prog Tryz.f48 K)))):=by kernel_rfl
abbrev zke (a_a:OA) (a_e a_n b1:Nat) (i:Int)  :List Value:=(.slice a_a a_n a_e::ud2 (.slice (some ⟨b1,0,none⟩) (((a_n:Int)).toNat) 1::.int .i64 i::ud17 []))
theorem z1iv (a_a:OA) (a_e a_n b1:Nat) (i:Int)  (H:zn) (R:Post):exL Tryz.prog zhr (cl (cl (cr (cl (cr (cr (zo Tryz.f48))))))) 25 4 [(0,8)] (zke a_a a_e a_n b1 i) H R=
 (Br (decide ((i:Int)<(a_n:Int))) ((0:Int)≤i∧i<(a_n:Int)∧∃b2 f1,(a_a:OA)=some ⟨b2,f1,none⟩∧∃x1:Nat,  rdC H b2 (f1+(i:Int).toNat*1)=some (.float .f32 x1)∧(0:Int)≤i∧i<(((a_n:Int)).toNat:Int)∧∃b3 f2,(some ⟨b1,0,none⟩:OA)=some ⟨b3,f2,none⟩∧isOwn H b3∧(∃l,rdN H b3 (f2+(i:Int).toNat*1) 1=some l)∧Lt (setC H b3 (f2+(i:Int).toNat*1) (.float .f32 x1)) fun H2=>R .normal (.slice a_a a_n a_e::ud2 (.slice (some ⟨b1,0,none⟩) (((a_n:Int)).toNat) 1::.int .i64 (IntKind.wrap .i64 (i+1))::ud17 [])) H2) (R (.exit 0) (ud3 (.slice (some ⟨b1,0,none⟩) (((a_n:Int)).toNat) 1::ud18 [])) H)):=by kernel_rfl
def zxa (a_a:OA) (a_e a_n b1:Nat) (Inv:Nat→Int→zn→Prop):Nat→List Value→zn→Prop:=fun μ tm H=>∃i:Int,tm=(zke a_a a_e a_n b1 i)∧Inv μ i H
theorem z1ir (a_a:OA) (a_e a_n b1:Nat) {Q:Post} (Inv:Nat→Int→zn→Prop) (ν:Nat) (i:Int)  (H:zn) (h0:Inv ν i H)
  (hs:∀(μ:Nat) (i:Int)  (H:zn),Inv μ i H→exL Tryz.prog zhr (cl (cl (cr (cl (cr (cr (zo Tryz.f48))))))) 25 4 [(0,8)] (zke a_a a_e a_n b1 i) H (zx (zxa a_a a_e a_n b1 Inv) μ Q)):z1j (exL Tryz.prog zhr (cl (cl (cr (cl (cr (cr (zo Tryz.f48))))))) 25 4 [(0,8)]) (zke a_a a_e a_n b1 i) H Q:=
 ⟨zxa a_a a_e a_n b1 Inv,ν,⟨i,rfl,h0⟩,fun μ tm H h=>by obtain ⟨i,rfl,hI⟩:=h;exact hs μ i  H hI⟩
theorem z1iu {a_a:OA} {a_e a_n b1:Nat} {Q:Post} {Inv:Nat→Int→zn→Prop} {μ:Nat} (μ':Nat) {i:Int}  {H:zn} (hm:μ'<μ) (hI:Inv μ' i H):zx (zxa a_a a_e a_n b1 Inv) μ Q .normal (zke a_a a_e a_n b1 i) H:=⟨μ',hm,i,rfl,hI⟩
theorem z13w (a_n b1:Nat) (H:zn) (K:KT)  {I:Nat→List Value→zn→Prop} {μ:Nat}:zx I μ (zu 0 (seqQ (exL Tryz.prog zhr (cr (cr (cr (zo Tryz.f48)))) 4 4 []) (retK Tryz.prog Tryz.f48 K))) (.exit 0) (ud3 (.slice (some ⟨b1,0,none⟩) (((a_n:Int)).toNat) 1::ud18 [])) H=
 (K (.slice (some ⟨b1,0,none⟩) (((a_n:Int)).toNat) 1) H):=by kernel_rfl
theorem z10a:∀g,FnOk Tryz.prog g (zhr g):=FnOk.envOf (by
 intro x hx;cases hx)
theorem ω25 {P:Prop} (h:P:=by have:=znk;omega):P:=h
theorem ω17 {P:Prop} (h:P:=by first | rfl | assumption | omega | (simp;done)):P:=h
theorem ω7 {P:Prop} (h:P:=by first | omega | (simp;done) | (simp;omega)):P:=h
theorem ω0 {P:Prop} (h:P:=by first | omega | (simp only [List.length_set,List.length_replicate,List.length_append,List.length_cons,List.length_nil,List.length_take,List.length_drop,z4g];done) | (simp only [List.length_set,List.length_replicate,List.length_append,List.length_cons,List.length_nil,List.length_take,List.length_drop,z4g];omega)):P:=h
theorem ω11 {P:Prop} (h:P:=by simp only [List.length_map];(first | omega | (simp only [List.length_set,List.length_replicate,List.length_append,List.length_cons,List.length_nil,List.length_take,List.length_drop,z4g];done) | (simp only [List.length_set,List.length_replicate,List.length_append,List.length_cons,List.length_nil,List.length_take,List.length_drop,z4g];omega))):P:=h
theorem ω16 {P:Prop} (h:P:=by first | omega):P:=h
theorem ω23 {P:Prop} (h:P:=by first | assumption | omega | (simp only [List.length_set];first | rfl | assumption | omega)):P:=h
theorem ω1 {P:Prop} (h:P:=by first | omega | (simp only [List.length_append,List.length_cons,List.length_nil,List.length_set];done) | (simp only [List.length_append,List.length_cons,List.length_nil,List.length_set];omega)):P:=h
theorem ω13 {P:Prop} (h:P:=by rw [show μ-1+1=μ from by first | omega];exact e):P:=h
theorem z13v (a_a:OA) (a_n a_e:Nat) (H:zn) (K:KT) (h:zv8 a_a a_n a_e H fun (jd:OA) (pd:Nat) (od:Nat) (H':zn)=>K (.slice jd pd od) H'):zt Tryz.prog zhr Tryz.f48 [.slice a_a a_n a_e] H K:=by
 rw [z1iw]
 obtain ⟨l_a,i_a,bd_29,hk⟩:=h
 have hk:(∀(jd:OA) (pd od:Nat),∀H':zn,Grow H H'→OwnS fF H' H.length jd pd od (zye l_a)→(fun (jd:OA) (pd:Nat) (od:Nat) (H':zn)=>K (.slice jd pd od) H') jd pd od H'):=by rw [z1it l_a];exact hk
 obtain rfl:=i_a.eqn
 have e:(zye l_a)=_:=rfl
 have e:=e.trans (zps l_a)
 have g0:=Grow.refl H
 refine ⟨by omega,rfl,ω25,?_⟩
 refine Al.intro (fun b_1 H_1 hb_2 hl_3 g_4 o_5=>?_)
 rw [zmf fF 0 _ rfl] at o_5
 have l_7:=g_4.1
 have g_8:=g0.trans g_4
 have l_9:=g_8.1
 have w28:=o_5.lt
 refine z1ir _ _ _ _ (fun (μ:Nat) (i:Int) (H_2:zn)=>∃y1_1:LN,Own H_2 b_1 (y1_1.map fF)∧y1_1.length=((l_a.length:Int)).toNat∧Grow H H_2∧(0:Int)≤i∧i≤(l_a.length:Int)∧(l_a.length:Int)-i≤(μ:Int)∧zye l_a=zbq l_a (μ+1) i y1_1) (Int.toNat ((l_a.length:Int)-(0:Int))) _ H_1 ?_ ?_
 ·exact ⟨_,o_5,ω17,g_8,ω7,ω7,ω2,e⟩
 ·intro μ i  H_2 hI
  obtain ⟨y1_1,o_10,y11,g_12,v_13,v_14,hμ,e⟩:=hI
  rw [z1iv]
  have e:=e.trans (zgy l_a μ i y1_1)
  have w15:=o_10.lt
  have l_16:=g_12.1
  refine Br.intro (fun c_17=>?_) (fun c_17=>?_)
  ·have e:=e.trans (zw c_17)
   have c_17':=odt c_17
   obtain ⟨b18,f19,q_20⟩:=((i_a.grow g_12)).pos ω0
   refine ⟨by omega,by omega,b18,f19,q_20,?_⟩
   refine ⟨((l_a).getD (i:Int).toNat 0),(i_a).rd g_12 q_20 ω2 _,?_⟩
   refine ⟨by omega,ω2,_,_,rfl,?_⟩
   refine Lt.set o_10 ω11 (fun H_3 hl_21 o23 k_22=>?_)
   have o23:=map_set o23
   have l24:=k_22.1
   have g_25:=g_12.keep (b:=b_1) ω2 k_22
   have l26:=g_25.1
   have w27:=o23.lt
   rw [show IntKind.wrap .i64 (i+1)=(i+1) from zp ω2 ω2]
   refine z1iu (μ-1) ω16 ⟨_,o23,ω23,g_25,ω1,ω1,ω16,ω13⟩
  ·have e:=e.trans (zv c_17)
   have c_17':=odf c_17
   rw [z13w]
   rw [e] at hk
   exact hk _ _ _ H_2 g_12 (o_10.ownS (by first | (simp only [List.length_replicate];done) | omega | (simp;omega)) ω2)
theorem z1a0:FnOk Tryz.prog 48 S_fkz:=FnOk.bodyF mix_ok z10a Tryz.func48 rfl ω9 ω9 fun args H=>by
 unfold F_fkz
 split
 ·refine ⟨?_,?_,?_,?_,fun K hk=>z13v _ _ _ H K hk⟩
  ·intro K K' h hk;obtain ⟨l_a,i_a,bd_29,k⟩:=hk;exact ⟨l_a,i_a,bd_29,(fun jd pd od H' gg ow0=>h _ _ (k jd pd od H' gg ow0))⟩
  ·nofun
  ·intro K hk;obtain ⟨l_a,i_a,bd_29,k⟩:=hk;exact z5q fun a n e H1 g o=>⟨_,_,k a n e H1 g o⟩
  ·intro _ K hk;obtain ⟨l_a,i_a,bd_29,k⟩:=hk;exact ⟨l_a,i_a,bd_29,(fun jd pd od H' gg ow0=>⟨gg,k jd pd od H' gg ow0⟩)⟩
 ·exact Nice.no

def zlc (zb:LN) (se:Nat):LN×Nat:=(zb,se)
def zyb:=@zlc.eq_1
def zg3 (vd:OA) (de fe se:Nat) (H:zn) (K:OA→Nat→Nat→Nat→zn→Prop):Prop:=∃zb:LN,IsL fF H vd de zb∧zb.length<1073741824∧((∀(lg:OA) (ng mg:Nat),∀H':zn,Grow H H'→OwnS fF H' H.length lg ng mg zb→K lg ng mg se H'))
theorem zhs {vd:OA} {de fe se:Nat} {H:zn} {K:OA→Nat→Nat→Nat→zn→Prop} (h:∃zb:LN,IsL fF H vd de zb∧zb.length<1073741824∧((∀(lg:OA) (ng mg:Nat),∀H':zn,Grow H H'→OwnS fF H' H.length lg ng mg zb→K lg ng mg se H'))):zg3 vd de fe se H K:=h
theorem z1ce (l:LN) (sc:Nat):zlc l sc=(l,sc):=rfl
def ztc:Env:=envOf [(48,S_fkz)]
def z17i (args:List Value) (H:zn):(Value→zn→Prop)→Prop:=match args with
 | [.agg ⟨[.slice vd de fe,.float .f32 se]⟩]=>fun K=>zg3 vd de fe se H fun (lg:OA) (ng:Nat) (mg:Nat) (sj:Nat) (H':zn)=>K (.agg #[.slice lg ng mg,.float .f32 sj]) H'
 | _=>fun _=>False
def z18s:FSpec:={F:=z17i,quiet:=false,tame:=true}
theorem z1cg (vd:OA) (de fe se:Nat) (H:zn) (K:KT):zt Tryz.prog ztc Tryz.f12 [.agg #[.slice vd de fe,.float .f32 se]] H K=
 (Al [.slice vd de fe,.float .f32 se] H fun b1 H1=>Al [.slice none 0 0,.float .f32 0] H1 fun b2 H2=>Al [.slice none 0 0,.float .f32 0] H2 fun b3 H3=>∃vg:OA,∃(pg yg:Nat),  rdC H3 b1 0=some (.slice vg pg yg)∧zv8 vg pg yg H3 fun (a1:OA) (r1:Nat) (r2:Nat) (H4:zn)=>isOwn H4 b3∧(∃l,rdN H4 b3 0 1=some l)∧Lt (setC H4 b3 0 (.slice a1 r1 r2)) fun H5=>∃x2:Nat,  rdC H5 b1 1=some (.float .f32 x2)∧isOwn H5 b3∧(∃l,rdN H5 b3 1 1=some l)∧Lt (setC H5 b3 1 (.float .f32 x2)) fun H6=>∃ui:OA,∃(wi vi c2:Nat),  rdN H6 b3 0 2=some [.slice ui wi vi,.float .f32 c2]∧isOwn H6 b2∧(∃l,rdN H6 b2 0 2=some l)∧Lt (setN H6 b2 0 [.slice ui wi vi,.float .f32 c2]) fun H7=>∃dh:OA,∃(fh eh c4:Nat),  rdN H7 b2 0 2=some [.slice dh fh eh,.float .f32 c4]∧K (.agg #[.slice dh fh eh,.float .f32 c4]) H7):=by kernel_rfl
theorem ztd:∀g,FnOk Tryz.prog g (ztc g):=FnOk.envOf (by
 intro x hx
 simp only [List.mem_cons,List.not_mem_nil,or_false] at hx
 subst hx;exact z1a0)
theorem zvw (vd:OA) (de fe se:Nat) (H:zn) (K:KT) (h:zg3 vd de fe se H fun (lg:OA) (ng:Nat) (mg:Nat) (sj:Nat) (H':zn)=>K (.agg #[.slice lg ng mg,.float .f32 sj]) H'):zt Tryz.prog ztc Tryz.f12 [.agg #[.slice vd de fe,.float .f32 se]] H K:=by
 rw [z1cg]
 obtain ⟨zb,eg,bd_90,hk⟩:=h
 have hk:(∀(lg:OA) (ng mg:Nat),∀H':zn,Grow H H'→OwnS fF H' H.length lg ng mg ((zlc zb se).1)→(fun (lg:OA) (ng:Nat) (mg:Nat) (sj:Nat) (H':zn)=>K (.agg #[.slice lg ng mg,.float .f32 sj]) H') lg ng mg ((zlc zb se).2) H'):=by rw [z1ce zb se];exact hk
 obtain rfl:=eg.eqn
 have e:(zlc zb se)=_:=rfl
 have e:=e.trans (zyb zb se)
 have g0:=Grow.refl H
 refine Al.intro (fun b_1 H_1 hb_2 hl_3 g_4 o_5=>?_)
 have l_7:=g_4.1
 have g_8:=g0.trans g_4
 have l_9:=g_8.1
 have w89:=o_5.lt
 refine Al.intro (fun b_10 H_2 hb_11 hl_12 g_13 o_14=>?_)
 have l_16:=g_13.1
 have g_17:=g_8.trans g_13
 have l_18:=g_17.1
 have o_19:=o_5.grow g_13
 have w20:=o_19.lt
 have w88:=o_14.lt
 refine Al.intro (fun b_21 H_3 hb_22 hl_23 g24 o25=>?_)
 have l27:=g24.1
 have g28:=g_17.trans g24
 have l29:=g28.1
 have o30:=o_19.grow g24
 have w31:=o30.lt
 have o32:=o_14.grow g24
 have w33:=o32.lt
 have w87:=o25.lt
 refine ⟨vd,zb.length,fe,(o30.rdC _).trans rfl,?_⟩
 refine zv9 ⟨_,(eg.grow g28),ω0,fun a34 n35 e36 H_4 g38 r37=>?_⟩
 have l39:=g38.1
 have g40:=g28.trans g38
 have l41:=g40.1
 have o42:=o30.grow g38
 have w43:=o42.lt
 have o44:=o32.grow g38
 have w45:=o44.lt
 have o46:=o25.grow g38
 have w47:=o46.lt
 obtain rfl:=r37.isL.eqn
 have u48:=r37.up
 have u49:=r37.lo
 refine Lt.set o46 (nbl rfl) (fun H_5 hl_51 o53 k52=>?_)
 have o53:Own H_5 b_21 [.slice a34 ((zb).length) e36,.float .f32 0]:=o53
 have l54:=k52.1
 have g55:=g40.keep (b:=b_21) ω2 k52
 have l56:=g55.1
 have o57:=o42.keep ω2 k52
 have w58:=o57.lt
 have o59:=o44.keep ω2 k52
 have w60:=o59.lt
 have r61:=r37.keep u48 ω2 k52
 have w86:=o53.lt
 refine ⟨se,(o57.rdC _).trans rfl,?_⟩
 refine Lt.set o53 (nbl rfl) (fun H_6 hl_62 o64 k63=>?_)
 have o64:Own H_6 b_21 [.slice a34 ((zb).length) e36,.float .f32 se]:=o64
 have l65:=k63.1
 have g66:=g55.keep (b:=b_21) ω2 k63
 have l67:=g66.1
 have o68:=o57.keep ω2 k63
 have w69:=o68.lt
 have o70:=o59.keep ω2 k63
 have w71:=o70.lt
 have r72:=r61.keep u48 ω2 k63
 have w85:=o64.lt
 refine ⟨a34,(zb).length,e36,se,(o64.rdN (nbl rfl)).trans rfl,?_⟩
 refine Lt.setN (n:=2) o70 (nbl rfl) rfl (fun H_7 hl_73 o75 k74=>?_)
 have o75:Own H_7 b_10 [.slice a34 ((zb).length) e36,.float .f32 se]:=o75
 have l76:=k74.1
 have g77:=g66.keep (b:=b_10) ω2 k74
 have l78:=g77.1
 have o79:=o68.keep ω2 k74
 have w80:=o79.lt
 have o81:=o64.keep ω2 k74
 have w82:=o81.lt
 have r83:=r72.keep u48 ω2 k74
 have w84:=o75.lt
 refine ⟨a34,(zb).length,e36,se,(o75.rdN (nbl rfl)).trans rfl,?_⟩
 rw [e] at hk
 exact hk _ _ _ H_7 g77 (r83.weak ω2)
theorem z1cf:FnOk Tryz.prog 12 z18s:=FnOk.bodyF mix_ok ztd Tryz.func12 rfl ω9 ω9 fun args H=>by
 unfold z17i
 split
 ·refine ⟨?_,?_,?_,?_,fun K hk=>zvw _ _ _ _ H K hk⟩
  ·intro K K' h hk;obtain ⟨zb,eg,bd_90,k⟩:=hk;exact ⟨zb,eg,bd_90,(fun lg ng mg H' gg ow0=>h _ _ (k lg ng mg H' gg ow0))⟩
  ·nofun
  ·intro K hk;obtain ⟨zb,eg,bd_90,k⟩:=hk;exact z5q fun a n e H1 g o=>⟨_,_,k a n e H1 g o⟩
  ·intro _ K hk;obtain ⟨zb,eg,bd_90,k⟩:=hk;exact ⟨zb,eg,bd_90,(fun lg ng mg H' gg ow0=>⟨gg,k lg ng mg H' gg ow0⟩)⟩
 ·exact Nice.no

def zru (nf qf:Int) (fc:LN):Int×Int×LN:=(nf,qf,fc)
def z15u:=@zru.eq_1
def zqc (nf qf:Int) (ee:OA) (ie ue:Nat) (H:zn) (K:Int→Int→OA→Nat→Nat→zn→Prop):Prop:=∃fc:LN,IsL fF H ee ie fc∧fc.length<1073741824∧((∀(ta:OA) (xa ua:Nat),∀H':zn,Grow H H'→OwnS fF H' H.length ta xa ua fc→K nf qf ta xa ua H'))
theorem zml {nf qf:Int} {ee:OA} {ie ue:Nat} {H:zn} {K:Int→Int→OA→Nat→Nat→zn→Prop} (h:∃fc:LN,IsL fF H ee ie fc∧fc.length<1073741824∧((∀(ta:OA) (xa ua:Nat),∀H':zn,Grow H H'→OwnS fF H' H.length ta xa ua fc→K nf qf ta xa ua H'))):zqc nf qf ee ie ue H K:=h
theorem z1jp (a b:Int) (l:LN):zru a b l=(a,b,l):=rfl
def E_fuz:Env:=envOf [(48,S_fkz)]
def F_fuz (args:List Value) (H:zn):(Value→zn→Prop)→Prop:=match args with
 | [.agg ⟨[.int .i64 nf,.int .i64 qf,.slice ee ie ue]⟩]=>fun K=>zqc nf qf ee ie ue H fun (xc:Int) (vc:Int) (ta:OA) (xa:Nat) (ua:Nat) (H':zn)=>K (.agg #[.int .i64 xc,.int .i64 vc,.slice ta xa ua]) H'
 | _=>fun _=>False
def S_fuz:FSpec:={F:=F_fuz,quiet:=false,tame:=true}
theorem z1jr (nf qf:Int) (ee:OA) (ie ue:Nat) (H:zn) (K:KT):zt Tryz.prog E_fuz Tryz.f13 [.agg #[.int .i64 nf,.int .i64 qf,.slice ee ie ue]] H K=
 (Al [.int .i64 nf,.int .i64 qf,.slice ee ie ue] H fun b1 H1=>Al [.int .i64 0,.int .i64 0,.slice none 0 0] H1 fun b2 H2=>Al [.int .i64 0,.int .i64 0,.slice none 0 0] H2 fun b3 H3=>∃x1:Int,  rdC H3 b1 0=some (.int .i64 x1)∧isOwn H3 b3∧(∃l,rdN H3 b3 0 1=some l)∧Lt (setC H3 b3 0 (.int .i64 x1)) fun H4=>∃x2:Int,  rdC H4 b1 1=some (.int .i64 x2)∧isOwn H4 b3∧(∃l,rdN H4 b3 1 1=some l)∧Lt (setC H4 b3 1 (.int .i64 x2)) fun H5=>∃fj:OA,∃(aj tj:Nat),  rdC H5 b1 2=some (.slice fj aj tj)∧zv8 fj aj tj H5 fun (a1:OA) (r1:Nat) (r2:Nat) (H6:zn)=>isOwn H6 b3∧(∃l,rdN H6 b3 2 1=some l)∧Lt (setC H6 b3 2 (.slice a1 r1 r2)) fun H7=>∃(c1 c2:Int),∃dh:OA,∃(fh eh:Nat),  rdN H7 b3 0 3=some [.int .i64 c1,.int .i64 c2,.slice dh fh eh]∧isOwn H7 b2∧(∃l,rdN H7 b2 0 3=some l)∧Lt (setN H7 b2 0 [.int .i64 c1,.int .i64 c2,.slice dh fh eh]) fun H8=>∃(c4 c5:Int),∃qh:OA,∃(th sh:Nat),  rdN H8 b2 0 3=some [.int .i64 c4,.int .i64 c5,.slice qh th sh]∧K (.agg #[.int .i64 c4,.int .i64 c5,.slice qh th sh]) H8):=by kernel_rfl
theorem z10j:∀g,FnOk Tryz.prog g (E_fuz g):=FnOk.envOf (by
 intro x hx
 simp only [List.mem_cons,List.not_mem_nil,or_false] at hx
 subst hx;exact z1a0)
theorem z14q (nf qf:Int) (ee:OA) (ie ue:Nat) (H:zn) (K:KT) (h:zqc nf qf ee ie ue H fun (xc:Int) (vc:Int) (ta:OA) (xa:Nat) (ua:Nat) (H':zn)=>K (.agg #[.int .i64 xc,.int .i64 vc,.slice ta xa ua]) H'):zt Tryz.prog E_fuz Tryz.f13 [.agg #[.int .i64 nf,.int .i64 qf,.slice ee ie ue]] H K:=by
 rw [z1jr]
 obtain ⟨fc,jg,bd_100,hk⟩:=h
 have hk:(∀(ta:OA) (xa ua:Nat),∀H':zn,Grow H H'→OwnS fF H' H.length ta xa ua ((zru nf qf fc).2.2)→(fun (xc:Int) (vc:Int) (ta:OA) (xa:Nat) (ua:Nat) (H':zn)=>K (.agg #[.int .i64 xc,.int .i64 vc,.slice ta xa ua]) H') ((zru nf qf fc).1) ((zru nf qf fc).2.1) ta xa ua H'):=by rw [z1jp nf qf fc];exact hk
 obtain rfl:=jg.eqn
 have e:(zru nf qf fc)=_:=rfl
 have e:=e.trans (z15u nf qf fc)
 have g0:=Grow.refl H
 refine Al.intro (fun b_1 H_1 hb_2 hl_3 g_4 o_5=>?_)
 have l_7:=g_4.1
 have g_8:=g0.trans g_4
 have l_9:=g_8.1
 have w99:=o_5.lt
 refine Al.intro (fun b_10 H_2 hb_11 hl_12 g_13 o_14=>?_)
 have l_16:=g_13.1
 have g_17:=g_8.trans g_13
 have l_18:=g_17.1
 have o_19:=o_5.grow g_13
 have w20:=o_19.lt
 have w98:=o_14.lt
 refine Al.intro (fun b_21 H_3 hb_22 hl_23 g24 o25=>?_)
 have l27:=g24.1
 have g28:=g_17.trans g24
 have l29:=g28.1
 have o30:=o_19.grow g24
 have w31:=o30.lt
 have o32:=o_14.grow g24
 have w33:=o32.lt
 have w97:=o25.lt
 refine ⟨nf,(o30.rdC _).trans rfl,?_⟩
 refine Lt.set o25 (nbl rfl) (fun H_4 hl_34 o36 k35=>?_)
 have o36:Own H_4 b_21 [.int .i64 nf,.int .i64 0,.slice none 0 0]:=o36
 have l37:=k35.1
 have g38:=g28.keep (b:=b_21) ω2 k35
 have l39:=g38.1
 have o40:=o30.keep ω2 k35
 have w41:=o40.lt
 have o42:=o32.keep ω2 k35
 have w43:=o42.lt
 have w96:=o36.lt
 refine ⟨qf,(o40.rdC _).trans rfl,?_⟩
 refine Lt.set o36 (nbl rfl) (fun H_5 hl_44 o46 k45=>?_)
 have o46:Own H_5 b_21 [.int .i64 nf,.int .i64 qf,.slice none 0 0]:=o46
 have l47:=k45.1
 have g_48:=g38.keep (b:=b_21) ω2 k45
 have l49:=g_48.1
 have o50:=o40.keep ω2 k45
 have w51:=o50.lt
 have o52:=o42.keep ω2 k45
 have w53:=o52.lt
 have w95:=o46.lt
 refine ⟨ee,fc.length,ue,(o50.rdC _).trans rfl,?_⟩
 refine zv9 ⟨_,(jg.grow g_48),ω0,fun a54 n55 e56 H_6 g58 r57=>?_⟩
 have l59:=g58.1
 have g60:=g_48.trans g58
 have l61:=g60.1
 have o62:=o50.grow g58
 have w63:=o62.lt
 have o64:=o52.grow g58
 have w65:=o64.lt
 have o66:=o46.grow g58
 have w67:=o66.lt
 obtain rfl:=r57.isL.eqn
 have u68:=r57.up
 have u69:=r57.lo
 refine Lt.set o66 (nbl rfl) (fun H_7 hl_71 o73 k72=>?_)
 have o73:Own H_7 b_21 [.int .i64 nf,.int .i64 qf,.slice a54 ((fc).length) e56]:=o73
 have l74:=k72.1
 have g75:=g60.keep (b:=b_21) ω2 k72
 have l76:=g75.1
 have o77:=o62.keep ω2 k72
 have w78:=o77.lt
 have o79:=o64.keep ω2 k72
 have w80:=o79.lt
 have r81:=r57.keep u68 ω2 k72
 have w94:=o73.lt
 refine ⟨nf,qf,a54,(fc).length,e56,(o73.rdN (nbl rfl)).trans rfl,?_⟩
 refine Lt.setN (n:=3) o79 (nbl rfl) rfl (fun H_8 hl_82 o84 k83=>?_)
 have o84:Own H_8 b_10 [.int .i64 nf,.int .i64 qf,.slice a54 ((fc).length) e56]:=o84
 have l85:=k83.1
 have g86:=g75.keep (b:=b_10) ω2 k83
 have l87:=g86.1
 have o88:=o77.keep ω2 k83
 have w89:=o88.lt
 have o90:=o73.keep ω2 k83
 have w91:=o90.lt
 have r92:=r81.keep u68 ω2 k83
 have w93:=o84.lt
 refine ⟨nf,qf,a54,(fc).length,e56,(o84.rdN (nbl rfl)).trans rfl,?_⟩
 rw [e] at hk
 exact hk _ _ _ H_8 g86 (r92.weak ω2)
theorem z1jq:FnOk Tryz.prog 13 S_fuz:=FnOk.bodyF mix_ok z10j Tryz.func13 rfl ω9 ω9 fun args H=>by
 unfold F_fuz
 split
 ·refine ⟨?_,?_,?_,?_,fun K hk=>z14q _ _ _ _ _ H K hk⟩
  ·intro K K' h hk;obtain ⟨fc,jg,bd_100,k⟩:=hk;exact ⟨fc,jg,bd_100,(fun ta xa ua H' gg ow0=>h _ _ (k ta xa ua H' gg ow0))⟩
  ·nofun
  ·intro K hk;obtain ⟨fc,jg,bd_100,k⟩:=hk;exact z5q fun a n e H1 g o=>⟨_,_,k a n e H1 g o⟩
  ·intro _ K hk;obtain ⟨fc,jg,bd_100,k⟩:=hk;exact ⟨fc,jg,bd_100,(fun ta xa ua H' gg ow0=>⟨gg,k ta xa ua H' gg ow0⟩)⟩
 ·exact Nice.no
def zrv (x:Nat):Bool:=feq .f32 (fsub .f32 x x) 0
def zmm (x:Nat) (H:zn) (K:Bool→zn→Prop):Prop:=K (zrv x) H

theorem z1bw {x:Nat} {H:zn} {K:Bool→zn→Prop} (h:K (zrv x) H):zmm x H K:=h
def E_fwz:Env:=envOf []
def F_fwz (args:List Value) (H:zn):(Value→zn→Prop)→Prop:=match args with
 | [.float .f32 x]=>fun K=>zmm x H fun (r1:Bool) (H':zn)=>K (.bool r1) H'
 | _=>fun _=>False
def S_fwz:FSpec:={F:=F_fwz,quiet:=true,tame:=false}
theorem z1jw (x:Nat) (H:zn) (K:KT):zt Tryz.prog E_fwz Tryz.f122 [.float .f32 x] H K=
 (K (.bool (feq .f32 (fsub .f32 x x) 0)) H):=by kernel_rfl
theorem z10l:∀g,FnOk Tryz.prog g (E_fwz g):=FnOk.envOf (by
 intro x hx;cases hx)
theorem z14t (x:Nat) (H:zn) (K:KT) (h:zmm x H fun (r1:Bool) (H':zn)=>K (.bool r1) H'):zt Tryz.prog E_fwz Tryz.f122 [.float .f32 x] H K:=by
 rw [z1jw]
 unfold zmm zrv at h
 repeat' (first | exact h | (exfalso;simp_all;done) | (refine ⟨by decide,?_⟩) | (refine Br.intro (fun hb=>?_) (fun hb=>?_)<;>(try simp only [hb,cond_true,cond_false,Bool.not_true,Bool.not_false] at h)))
theorem z1a5:FnOk Tryz.prog 122 S_fwz:=FnOk.bodyF mix_ok z10l Tryz.func122 rfl ω9 ω9 fun args H=>by
 unfold F_fwz
 split
 ·refine ⟨?_,?_,?_,?_,fun K hk=>z14t _ H K hk⟩
  ·intro K K' h hk;have k:=hk;exact h _ _ k
  ·intro _ K hk;have k:=hk;exact ⟨_,k,fun K' k'=>k'⟩
  ·intro K hk;have k:=hk;exact ⟨_,_,k⟩
  ·nofun
 ·exact Nice.no

def zbs (ab:LN):Nat→Bool→Int→Bool
 | 0,_,_=>false
 | μ+1,t2,i=>(bif decide ((i:Int)<(ab.length:Int)) then (bif !((zrv (((ab).getD (i:Int).toNat 0)))) then false else (zbs ab μ t2 (i+1))) else true)
def zh1:=fun ab μ t2 i=>@zbs.eq_2 ab t2 i μ
def z3e (ab:LN):Bool:=(zbs ab (Int.toNat ((ab.length:Int)-(0:Int))+1) false (0:Int))
def zpy:=@z3e.eq_1
def zjj (tb:OA) (qb bc:Nat) (H:zn) (K:Bool→zn→Prop):Prop:=∃ab:LN,IsL fF H tb qb ab∧ab.length<1073741824∧K (z3e ab) H
theorem zdf {tb:OA} {qb bc:Nat} {H:zn} {K:Bool→zn→Prop} (h:∃ab:LN,IsL fF H tb qb ab∧ab.length<1073741824∧K (z3e ab) H):zjj tb qb bc H K:=h

def zfg:Env:=envOf [(122,S_fwz)]
def F_fyz (args:List Value) (H:zn):(Value→zn→Prop)→Prop:=match args with
 | [.slice tb qb bc]=>fun K=>zjj tb qb bc H fun (r1:Bool) (H':zn)=>K (.bool r1) H'
 | _=>fun _=>False
def zuy:FSpec:={F:=F_fyz,quiet:=true,tame:=false}
theorem z1k2 (tb:OA) (qb bc:Nat) (H:zn) (K:KT):zt Tryz.prog zfg Tryz.f124 [.slice tb qb bc] H K=
 (z1j (exL Tryz.prog zfg (cl (cl (cr (cl (cr (zo Tryz.f124)))))) 9 4 [(0,0)]) (.slice tb qb bc::ud2 (.int .i64 0::ud12 [])) H (zu 0 (seqQ (exL Tryz.prog zfg (cr (cr (zo Tryz.f124))) 4 4 []) (retK Tryz.prog Tryz.f124 K)))):=by kernel_rfl
abbrev zko (tb:OA) (bc qb:Nat) (i:Int)  :List Value:=(.slice tb qb bc::ud2 (.int .i64 i::ud12 []))
theorem z1k1 (tb:OA) (bc qb:Nat) (i:Int)  (H:zn) (R:Post):exL Tryz.prog zfg (cl (cl (cr (cl (cr (zo Tryz.f124)))))) 9 4 [(0,0)] (zko tb bc qb i) H R=
 (Br (decide ((i:Int)<(qb:Int))) ((0:Int)≤i∧i<(qb:Int)∧∃b1 f1,(tb:OA)=some ⟨b1,f1,none⟩∧∃x1:Nat,  rdC H b1 (f1+(i:Int).toNat*1)=some (.float .f32 x1)∧zmm x1 H fun (r1:Bool) (H1:zn)=>Br (!r1) (R .ret (ud2 (.bool false::ud13 [])) H1) (R .normal (.slice tb qb bc::ud2 (.int .i64 (IntKind.wrap .i64 (i+1))::ud12 [])) H1)) (R (.exit 0) (ud16 []) H)):=by kernel_rfl
def zxl (tb:OA) (bc qb:Nat) (Inv:Nat→Int→zn→Prop):Nat→List Value→zn→Prop:=fun μ tm H=>∃i:Int,tm=(zko tb bc qb i)∧Inv μ i H
theorem z1jz (tb:OA) (bc qb:Nat) {Q:Post} (Inv:Nat→Int→zn→Prop) (ν:Nat) (i:Int)  (H:zn) (h0:Inv ν i H)
  (hs:∀(μ:Nat) (i:Int)  (H:zn),Inv μ i H→exL Tryz.prog zfg (cl (cl (cr (cl (cr (zo Tryz.f124)))))) 9 4 [(0,0)] (zko tb bc qb i) H (zx (zxl tb bc qb Inv) μ Q)):z1j (exL Tryz.prog zfg (cl (cl (cr (cl (cr (zo Tryz.f124)))))) 9 4 [(0,0)]) (zko tb bc qb i) H Q:=
 ⟨zxl tb bc qb Inv,ν,⟨i,rfl,h0⟩,fun μ tm H h=>by obtain ⟨i,rfl,hI⟩:=h;exact hs μ i  H hI⟩
theorem z1k0 {tb:OA} {bc qb:Nat} {Q:Post} {Inv:Nat→Int→zn→Prop} {μ:Nat} (μ':Nat) {i:Int}  {H:zn} (hm:μ'<μ) (hI:Inv μ' i H):zx (zxl tb bc qb Inv) μ Q .normal (zko tb bc qb i) H:=⟨μ',hm,i,rfl,hI⟩
theorem z14w  (H:zn) (K:KT)  {I:Nat→List Value→zn→Prop} {μ:Nat}:zx I μ (zu 0 (seqQ (exL Tryz.prog zfg (cr (cr (zo Tryz.f124))) 4 4 []) (retK Tryz.prog Tryz.f124 K))) (.exit 0) (ud16 []) H=
 (K (.bool true) H):=by kernel_rfl
theorem zr0 (t2:Bool) (H:zn) (K:KT)  {I:Nat→List Value→zn→Prop} {μ:Nat}:zx I μ (zu 0 (seqQ (exL Tryz.prog zfg (cr (cr (zo Tryz.f124))) 4 4 []) (retK Tryz.prog Tryz.f124 K))) .ret (ud2 (.bool t2::ud13 [])) H=
 (K (.bool t2) H):=by kernel_rfl
theorem z10n:∀g,FnOk Tryz.prog g (zfg g):=FnOk.envOf (by
 intro x hx
 simp only [List.mem_cons,List.not_mem_nil,or_false] at hx
 subst hx;exact z1a5)
theorem z14v (tb:OA) (qb bc:Nat) (H:zn) (K:KT) (h:zjj tb qb bc H fun (r1:Bool) (H':zn)=>K (.bool r1) H'):zt Tryz.prog zfg Tryz.f124 [.slice tb qb bc] H K:=by
 rw [z1k2]
 obtain ⟨ab,i_list,bd_9,hk⟩:=h
 obtain rfl:=i_list.eqn
 have e:(z3e ab)=_:=rfl
 have e:=e.trans (zpy ab)
 have g0:=Grow.refl H
 refine z1jz _ _ _ (fun (μ:Nat) (i:Int) (H_1:zn)=>∃t2:Bool,H=H_1∧(0:Int)≤i∧i≤(ab.length:Int)∧(ab.length:Int)-i≤(μ:Int)∧z3e ab=zbs ab (μ+1) t2 i) (Int.toNat ((ab.length:Int)-(0:Int))) _ H ?_ ?_
 ·exact ⟨_,rfl,ω7,ω7,ω2,e⟩
 ·intro μ i  H_1 hI
  obtain ⟨t2,rfl,v_1,v_2,hμ,e⟩:=hI
  rw [z1k1]
  have e:=e.trans (zh1 ab μ t2 i)
  have l_3:=g0.1
  refine Br.intro (fun c_4=>?_) (fun c_4=>?_)
  ·have e:=e.trans (zw c_4)
   have c_4':=odt c_4
   obtain ⟨b_5,f_6,q_7⟩:=((i_list.grow g0)).pos ω0
   refine ⟨by omega,by omega,b_5,f_6,q_7,?_⟩
   refine ⟨((ab).getD (i:Int).toNat 0),(i_list).rd g0 q_7 ω2 _,?_⟩
   refine z1bw ?_
   refine Br.intro (fun c_8=>?_) (fun c_8=>?_)
   ·have e:=e.trans (zw c_8)
    have c_8n:=z1e c_8
    rw [zr0]
    rw [e] at hk
    exact hk
   ·have e:=e.trans (zv c_8)
    have c_8n:=z1a c_8
    rw [show IntKind.wrap .i64 (i+1)=(i+1) from zp ω2 ω2]
    refine z1k0 (μ-1) ω16 ⟨_,rfl,ω1,ω1,ω16,ω13⟩
  ·have e:=e.trans (zv c_4)
   have c_4':=odf c_4
   rw [z14w]
   rw [e] at hk
   exact hk
theorem zp8:FnOk Tryz.prog 124 zuy:=FnOk.bodyF mix_ok z10n Tryz.func124 rfl ω9 ω9 fun args H=>by
 unfold F_fyz
 split
 ·refine ⟨?_,?_,?_,?_,fun K hk=>z14v _ _ _ H K hk⟩
  ·intro K K' h hk;obtain ⟨ab,i_list,bd_9,k⟩:=hk;exact ⟨ab,i_list,bd_9,h _ _ k⟩
  ·intro _ K hk;obtain ⟨ab,i_list,bd_9,k⟩:=hk;exact ⟨_,k,fun K' k'=>⟨ab,i_list,bd_9,k'⟩⟩
  ·intro K hk;obtain ⟨ab,i_list,bd_9,k⟩:=hk;exact ⟨_,_,k⟩
  ·nofun
 ·exact Nice.no
def z9f (x:Nat):Bool:=(bif (zrv x) then flt .f32 0 x else false)
def zg4 (x:Nat) (H:zn) (K:Bool→zn→Prop):Prop:=K (z9f x) H

theorem z11b {x:Nat} {H:zn} {K:Bool→zn→Prop} (h:K (z9f x) H):zg4 x H K:=h
def zte:Env:=envOf [(122,S_fwz)]
def z17j (args:List Value) (H:zn):(Value→zn→Prop)→Prop:=match args with
 | [.float .f32 x]=>fun K=>zg4 x H fun (r1:Bool) (H':zn)=>K (.bool r1) H'
 | _=>fun _=>False
def zuq:FSpec:={F:=z17j,quiet:=true,tame:=false}
theorem z1ch (x:Nat) (H:zn) (K:KT):zt Tryz.prog zte Tryz.f87 [.float .f32 x] H K=
 (zmm x H fun (r1:Bool) (H1:zn)=>Br r1 (K (.bool (flt .f32 0 x)) H1) (K (.bool false) H1)):=by kernel_rfl
theorem ztf:∀g,FnOk Tryz.prog g (zte g):=FnOk.envOf (by
 intro x hx
 simp only [List.mem_cons,List.not_mem_nil,or_false] at hx
 subst hx;exact z1a5)
theorem zvx (x:Nat) (H:zn) (K:KT) (h:zg4 x H fun (r1:Bool) (H':zn)=>K (.bool r1) H'):zt Tryz.prog zte Tryz.f87 [.float .f32 x] H K:=by
 rw [z1ch]
 simp only [zmm]
 unfold zg4 z9f at h
 repeat' (first | exact h | (exfalso;simp_all;done) | (refine ⟨by decide,?_⟩) | (refine Br.intro (fun hb=>?_) (fun hb=>?_)<;>(try simp only [hb,cond_true,cond_false,Bool.not_true,Bool.not_false] at h)))
theorem zvy:FnOk Tryz.prog 87 zuq:=FnOk.bodyF mix_ok ztf Tryz.func87 rfl ω9 ω9 fun args H=>by
 unfold z17j
 split
 ·refine ⟨?_,?_,?_,?_,fun K hk=>zvx _ H K hk⟩
  ·intro K K' h hk;have k:=hk;exact h _ _ k
  ·intro _ K hk;have k:=hk;exact ⟨_,k,fun K' k'=>k'⟩
  ·intro K hk;have k:=hk;exact ⟨_,_,k⟩
  ·nofun
 ·exact Nice.no

def zls (aa:LN) (oa:Nat):Bool:=(bif decide ((1:Int)≤(aa.length:Int)) then (bif decide (((aa.length:Int):Int)≤8) then (bif (z3e aa) then (z9f oa) else false) else false) else false)
def zij:=@zls.eq_1
def T_fzz (s:Nat) (H:zn) (K:Bool→zn→Prop):Prop:=∃db:OA,∃(jb lb oa:Nat),∃aa:LN,rdN H s 0 2=some [.slice db jb lb,.float .f32 oa]∧IsL fF H db jb aa∧aa.length<1073741824∧K (zls aa oa) H
theorem z1bx {s:Nat} {H:zn} {K:Bool→zn→Prop} (h:∃db:OA,∃(jb lb oa:Nat),∃aa:LN,rdN H s 0 2=some [.slice db jb lb,.float .f32 oa]∧IsL fF H db jb aa∧aa.length<1073741824∧K (zls aa oa) H):T_fzz s H K:=h

def E_fzz:Env:=envOf [(124,zuy),(87,zuq)]
def F_fzz (args:List Value) (H:zn):(Value→zn→Prop)→Prop:=match args with
 | [.pointer (some ⟨s,0,none⟩)]=>fun K=>T_fzz s H fun (r1:Bool) (H':zn)=>K (.bool r1) H'
 | _=>fun _=>False
def S_fzz:FSpec:={F:=F_fzz,quiet:=true,tame:=false}
theorem z1k4 (s:Nat) (H:zn) (K:KT):zt Tryz.prog E_fzz Tryz.f94 [.pointer (some ⟨s,0,none⟩)] H K=
 (∃vg:OA,∃(pg yg:Nat),  rdC H s 0=some (.slice vg pg yg)∧Br (decide ((1:Int)≤(pg:Int))) (∃sk:OA,∃(rk uk:Nat),  rdC H s 0=some (.slice sk rk uk)∧Br (decide (((rk:Int):Int)≤8)) (∃fj:OA,∃(aj tj:Nat),  rdC H s 0=some (.slice fj aj tj)∧zjj fj aj tj H fun (r1:Bool) (H1:zn)=>Br r1 (∃x4:Nat,  rdC H1 s 1=some (.float .f32 x4)∧zg4 x4 H1 fun (r2:Bool) (H2:zn)=>K (.bool r2) H2) (K (.bool false) H1)) (K (.bool false) H)) (K (.bool false) H)):=by kernel_rfl
theorem z10o:∀g,FnOk Tryz.prog g (E_fzz g):=FnOk.envOf (by
 intro x hx
 simp only [List.mem_cons,List.not_mem_nil,or_false] at hx
 rcases hx with rfl | rfl
 ·exact zp8
 ·exact zvy)
theorem z14x (s:Nat) (H:zn) (K:KT) (h:T_fzz s H fun (r1:Bool) (H':zn)=>K (.bool r1) H'):zt Tryz.prog E_fzz Tryz.f94 [.pointer (some ⟨s,0,none⟩)] H K:=by
 rw [z1k4]
 obtain ⟨db,jb,lb,oa,aa,i_s,yb,bd_4,hk⟩:=h
 obtain rfl:=yb.eqn
 have e:(zls aa oa)=_:=rfl
 have e:=e.trans (zij aa oa)
 have g0:=Grow.refl H
 refine ⟨db,aa.length,lb,(z1g (zq g0 i_s) 0 (nbl rfl)).trans rfl,?_⟩
 refine Br.intro (fun c_1=>?_) (fun c_1=>?_)
 ·have e:=e.trans (zw c_1)
  have c_1':=odt c_1
  refine ⟨db,aa.length,lb,(z1g (zq g0 i_s) 0 (nbl rfl)).trans rfl,?_⟩
  refine Br.intro (fun c_2=>?_) (fun c_2=>?_)
  ·have e:=e.trans (zw c_2)
   have c_2':=odt c_2
   refine ⟨db,aa.length,lb,(z1g (zq g0 i_s) 0 (nbl rfl)).trans rfl,?_⟩
   refine zdf ⟨_,(yb.grow g0),ω0,?_⟩
   refine Br.intro (fun c_3=>?_) (fun c_3=>?_)
   ·have e:=e.trans (zw c_3)
    refine ⟨oa,(z1g (zq g0 i_s) 1 (nbl rfl)).trans rfl,?_⟩
    refine z11b ?_
    rw [e] at hk
    exact hk
   ·have e:=e.trans (zv c_3)
    rw [e] at hk
    exact hk
  ·have e:=e.trans (zv c_2)
   have c_2':=odf c_2
   rw [e] at hk
   exact hk
 ·have e:=e.trans (zv c_1)
  have c_1':=odf c_1
  rw [e] at hk
  exact hk
theorem z1k3:FnOk Tryz.prog 94 S_fzz:=FnOk.bodyF mix_ok z10o Tryz.func94 rfl ω9 ω9 fun args H=>by
 unfold F_fzz
 split
 ·refine ⟨?_,?_,?_,?_,fun K hk=>z14x _ H K hk⟩
  ·intro K K' h hk;obtain ⟨db,jb,lb,oa,aa,i_s,yb,bd_4,k⟩:=hk;exact ⟨db,jb,lb,oa,aa,i_s,yb,bd_4,h _ _ k⟩
  ·intro _ K hk;obtain ⟨db,jb,lb,oa,aa,i_s,yb,bd_4,k⟩:=hk;exact ⟨_,k,fun K' k'=>⟨db,jb,lb,oa,aa,i_s,yb,bd_4,k'⟩⟩
  ·intro K hk;obtain ⟨db,jb,lb,oa,aa,i_s,yb,bd_4,k⟩:=hk;exact ⟨_,_,k⟩
  ·nofun
 ·exact Nice.no
def z6v (n low high:Int):Bool:=(bif decide ((low:Int)≤n) then decide ((n:Int)≤high) else false)
def zde (n low high:Int) (H:zn) (K:Bool→zn→Prop):Prop:=K (z6v n low high) H
theorem f23z_t {n a b:Int} (h:z6v n a b=true):a≤n∧n≤b:=by
 unfold z6v at h
 by_cases h1:a≤n
 ·rw [dct h1,cond_true] at h;exact ⟨h1,odt h⟩
 ·rw [dcf h1] at h;cases h
def zuf:Env:=envOf []
def z18h (args:List Value) (H:zn):(Value→zn→Prop)→Prop:=match args with
 | [.int .i64 n,.int .i64 low,.int .i64 high]=>fun K=>zde n low high H fun (r1:Bool) (H':zn)=>K (.bool r1) H'
 | _=>fun _=>False
def zuw:FSpec:={F:=z18h,quiet:=true,tame:=false}
theorem f23z_vc (n low high:Int) (H:zn) (K:KT):zt Tryz.prog zuf Tryz.f86 [.int .i64 n,.int .i64 low,.int .i64 high] H K=
 (Br (decide ((low:Int)≤n)) (K (.bool (decide ((n:Int)≤high))) H) (K (.bool false) H)):=by kernel_rfl
theorem zug:∀g,FnOk Tryz.prog g (zuf g):=FnOk.envOf (by
 intro x hx;cases hx)
theorem f23z_main (n low high:Int) (H:zn) (K:KT) (h:zde n low high H fun (r1:Bool) (H':zn)=>K (.bool r1) H'):zt Tryz.prog zuf Tryz.f86 [.int .i64 n,.int .i64 low,.int .i64 high] H K:=by
 rw [f23z_vc]
 unfold zde z6v at h
 repeat' (first | exact h | (exfalso;simp_all;done) | (refine ⟨by decide,?_⟩) | (refine Br.intro (fun hb=>?_) (fun hb=>?_)<;>(try simp only [hb,cond_true,cond_false,Bool.not_true,Bool.not_false] at h)))
theorem f23z_ok:FnOk Tryz.prog 86 zuw:=FnOk.bodyF mix_ok zug Tryz.func86 rfl ω9 ω9 fun args H=>by
 unfold z18h
 split
 ·refine ⟨?_,?_,?_,?_,fun K hk=>f23z_main _ _ _ H K hk⟩
  ·intro K K' h hk;have k:=hk;exact h _ _ k
  ·intro _ K hk;have k:=hk;exact ⟨_,k,fun K' k'=>k'⟩
  ·intro K hk;have k:=hk;exact ⟨_,_,k⟩
  ·nofun
 ·exact Nice.no
def zle (wide high:Int):Bool:=(bif (z6v wide 1 16) then (z6v high 1 16) else false)
def zlf:=@zle.eq_1
def zje (wide high:Int) (H:zn) (K:Bool→zn→Prop):Prop:=K (zle wide high) H

theorem z11c {wide high:Int} {H:zn} {K:Bool→zn→Prop} (h:K (zle wide high) H):zje wide high H K:=h
def ztj:Env:=envOf [(86,zuw)]
def z17m (args:List Value) (H:zn):(Value→zn→Prop)→Prop:=match args with
 | [.int .i64 wide,.int .i64 high]=>fun K=>zje wide high H fun (r1:Bool) (H':zn)=>K (.bool r1) H'
 | _=>fun _=>False
def z18u:FSpec:={F:=z17m,quiet:=true,tame:=false}
theorem z1cs (wide high:Int) (H:zn) (K:KT):zt Tryz.prog ztj Tryz.f125 [.int .i64 wide,.int .i64 high] H K=
 (zde wide 1 16 H fun (r1:Bool) (H1:zn)=>Br r1 (zde high 1 16 H1 fun (r2:Bool) (H2:zn)=>K (.bool r2) H2) (K (.bool false) H1)):=by kernel_rfl
theorem ztk:∀g,FnOk Tryz.prog g (ztj g):=FnOk.envOf (by
 intro x hx
 simp only [List.mem_cons,List.not_mem_nil,or_false] at hx
 subst hx;exact f23z_ok)
theorem zw4 (wide high:Int) (H:zn) (K:KT) (h:zje wide high H fun (r1:Bool) (H':zn)=>K (.bool r1) H'):zt Tryz.prog ztj Tryz.f125 [.int .i64 wide,.int .i64 high] H K:=by
 rw [z1cs]
 simp only [zde]
 unfold zje zle at h
 repeat' (first | exact h | (exfalso;simp_all;done) | (refine ⟨by decide,?_⟩) | (refine Br.intro (fun hb=>?_) (fun hb=>?_)<;>(try simp only [hb,cond_true,cond_false,Bool.not_true,Bool.not_false] at h)))
theorem z1cr:FnOk Tryz.prog 125 z18u:=FnOk.bodyF mix_ok ztk Tryz.func125 rfl ω9 ω9 fun args H=>by
 unfold z17m
 split
 ·refine ⟨?_,?_,?_,?_,fun K hk=>zw4 _ _ H K hk⟩
  ·intro K K' h hk;have k:=hk;exact h _ _ k
  ·intro _ K hk;have k:=hk;exact ⟨_,k,fun K' k'=>k'⟩
  ·intro K hk;have k:=hk;exact ⟨_,_,k⟩
  ·nofun
 ·exact Nice.no

def zes (ga za:Int) (ba:LN):Bool:=((bif (zle ga za) then (bif ((ba.length:Int):Int)==IntKind.wrap .i64 (ga*za) then (z3e ba) else false) else false))
def zet:=@zes.eq_1
def zou (p:Nat) (H:zn) (K:Bool→zn→Prop):Prop:=∃(ga za:Int),∃eb:OA,∃(ib nb:Nat),∃ba:LN,rdN H p 0 3=some [.int .i64 ga,.int .i64 za,.slice eb ib nb]∧IsL fF H eb ib ba∧ba.length<1073741824∧K (zes ga za ba) H
theorem z11s {p:Nat} {H:zn} {K:Bool→zn→Prop} (h:∃(ga za:Int),∃eb:OA,∃(ib nb:Nat),∃ba:LN,rdN H p 0 3=some [.int .i64 ga,.int .i64 za,.slice eb ib nb]∧IsL fF H eb ib ba∧ba.length<1073741824∧K (zes ga za ba) H):zou p H K:=h
theorem ω20 {P:Prop} (h:P:=by decide):P:=h
theorem f24z_t {w h:Int} {l:LN} (hh:zes w h l=true):1≤w∧w≤16∧1≤h∧h≤16∧(l.length:Int)=w*h∧(l.length:Int)≤256∧1≤(l.length:Int):=by
 rw [zet,zlf] at hh
 simp only [Bool.cond_false_right,Bool.and_eq_true] at hh
 obtain ⟨⟨a,b⟩,c,-⟩:=hh
 have a:=f23z_t a
 have b:=f23z_t b
 have h1:w*h≤16*16:=Int.mul_le_mul ω2 ω2 ω2 ω20
 have h2:1*1≤w*h:=Int.mul_le_mul ω2 ω2 ω2 ω2
 have c:=eq_of_beq c
 rw [zp ω2 ω2] at c
 exact ⟨a.1,a.2,b.1,b.2,c,by omega,by omega⟩
def zuh:Env:=envOf [(125,z18u),(124,zuy)]
def z18i (args:List Value) (H:zn):(Value→zn→Prop)→Prop:=match args with
 | [.pointer (some ⟨p,0,none⟩)]=>fun K=>zou p H fun (r1:Bool) (H':zn)=>K (.bool r1) H'
 | _=>fun _=>False
def z19j:FSpec:={F:=z18i,quiet:=true,tame:=false}
theorem f24z_vc (p:Nat) (H:zn) (K:KT):zt Tryz.prog zuh Tryz.f98 [.pointer (some ⟨p,0,none⟩)] H K=
 (∃x1:Int,  rdC H p 1=some (.int .i64 x1)∧∃x2:Int,  rdC H p 0=some (.int .i64 x2)∧zje x2 x1 H fun (r1:Bool) (H1:zn)=>Br r1 (∃x3:Int,  rdC H1 p 1=some (.int .i64 x3)∧∃x4:Int,  rdC H1 p 0=some (.int .i64 x4)∧∃gj:OA,∃(cj ak:Nat),  rdC H1 p 2=some (.slice gj cj ak)∧Br (((cj:Int):Int)==IntKind.wrap .i64 (x4*x3)) (∃ii:OA,∃(ai ni:Nat),  rdC H1 p 2=some (.slice ii ai ni)∧zjj ii ai ni H1 fun (r2:Bool) (H2:zn)=>K (.bool r2) H2) (K (.bool false) H1)) (K (.bool false) H1)):=by kernel_rfl
theorem zui:∀g,FnOk Tryz.prog g (zuh g):=FnOk.envOf (by
 intro x hx
 simp only [List.mem_cons,List.not_mem_nil,or_false] at hx
 rcases hx with rfl | rfl
 ·exact z1cr
 ·exact zp8)
theorem f24z_main (p:Nat) (H:zn) (K:KT) (h:zou p H fun (r1:Bool) (H':zn)=>K (.bool r1) H'):zt Tryz.prog zuh Tryz.f98 [.pointer (some ⟨p,0,none⟩)] H K:=by
 rw [f24z_vc]
 obtain ⟨ga,za,eb,ib,nb,ba,i_p,wb,bd_3,hk⟩:=h
 obtain rfl:=wb.eqn
 have e:(zes ga za ba)=_:=rfl
 have e:=e.trans (zet ga za ba)
 have g0:=Grow.refl H
 refine ⟨za,(z1g (zq g0 i_p) 1 (nbl rfl)).trans rfl,?_⟩
 refine ⟨ga,(z1g (zq g0 i_p) 0 (nbl rfl)).trans rfl,?_⟩
 refine z11c ?_
 refine Br.intro (fun c_1=>?_) (fun c_1=>?_)
 ·have e:=e.trans (zw c_1)
  refine ⟨za,(z1g (zq g0 i_p) 1 (nbl rfl)).trans rfl,?_⟩
  refine ⟨ga,(z1g (zq g0 i_p) 0 (nbl rfl)).trans rfl,?_⟩
  refine ⟨eb,ba.length,nb,(z1g (zq g0 i_p) 2 (nbl rfl)).trans rfl,?_⟩
  refine Br.intro (fun c_2=>?_) (fun c_2=>?_)
  ·have e:=e.trans (zw c_2)
   have c_2':=zbc c_2
   refine ⟨eb,ba.length,nb,(z1g (zq g0 i_p) 2 (nbl rfl)).trans rfl,?_⟩
   refine zdf ⟨_,(wb.grow g0),ω0,?_⟩
   rw [e] at hk
   exact hk
  ·have e:=e.trans (zv c_2)
   have c_2':=zbb c_2
   rw [e] at hk
   exact hk
 ·have e:=e.trans (zv c_1)
  rw [e] at hk
  exact hk
theorem f24z_ok:FnOk Tryz.prog 98 z19j:=FnOk.bodyF mix_ok zui Tryz.func98 rfl ω9 ω9 fun args H=>by
 unfold z18i
 split
 ·refine ⟨?_,?_,?_,?_,fun K hk=>f24z_main _ H K hk⟩
  ·intro K K' h hk;obtain ⟨ga,za,eb,ib,nb,ba,i_p,wb,bd_3,k⟩:=hk;exact ⟨ga,za,eb,ib,nb,ba,i_p,wb,bd_3,h _ _ k⟩
  ·intro _ K hk;obtain ⟨ga,za,eb,ib,nb,ba,i_p,wb,bd_3,k⟩:=hk;exact ⟨_,k,fun K' k'=>⟨ga,za,eb,ib,nb,ba,i_p,wb,bd_3,k'⟩⟩
  ·intro K hk;obtain ⟨ga,za,eb,ib,nb,ba,i_p,wb,bd_3,k⟩:=hk;exact ⟨_,_,k⟩
  ·nofun
 ·exact Nice.no

def zcl (aa:LN) (oa:Nat) (ga za:Int) (ba:LN):Bool:=(bif (zls aa oa) then (zes ga za ba) else false)
def zbk:=@zcl.eq_1
def zop (s p:Nat) (H:zn) (K:Bool→zn→Prop):Prop:=∃db:OA,∃(jb lb oa:Nat),∃(ga za:Int),∃eb:OA,∃(ib nb:Nat),∃(aa ba:LN),rdN H s 0 2=some [.slice db jb lb,.float .f32 oa]∧rdN H p 0 3=some [.int .i64 ga,.int .i64 za,.slice eb ib nb]∧IsL fF H db jb aa∧IsL fF H eb ib ba∧aa.length<1073741824∧ba.length<1073741824∧K (zcl aa oa ga za ba) H
theorem z11m {s p:Nat} {H:zn} {K:Bool→zn→Prop} (h:∃db:OA,∃(jb lb oa:Nat),∃(ga za:Int),∃eb:OA,∃(ib nb:Nat),∃(aa ba:LN),rdN H s 0 2=some [.slice db jb lb,.float .f32 oa]∧rdN H p 0 3=some [.int .i64 ga,.int .i64 za,.slice eb ib nb]∧IsL fF H db jb aa∧IsL fF H eb ib ba∧aa.length<1073741824∧ba.length<1073741824∧K (zcl aa oa ga za ba) H):zop s p H K:=h
theorem z1hd {ws:LN} {sc:Nat} {w h:Int} {l:LN} (hh:zcl ws sc w h l=true):1≤w∧w≤16∧1≤h∧h≤16∧(l.length:Int)=w*h∧(l.length:Int)≤256∧1≤(l.length:Int):=by
 rw [zbk] at hh
 cases h1:zls ws sc with
 | false=>rw [h1] at hh;cases hh
 | true=>rw [h1] at hh;exact f24z_t hh
def zu5:Env:=envOf [(94,S_fzz),(98,z19j)]
def z18b (args:List Value) (H:zn):(Value→zn→Prop)→Prop:=match args with
 | [.pointer (some ⟨s,0,none⟩),.pointer (some ⟨p,0,none⟩)]=>fun K=>zop s p H fun (r1:Bool) (H':zn)=>K (.bool r1) H'
 | _=>fun _=>False
def z19e:FSpec:={F:=z18b,quiet:=true,tame:=false}
theorem z1e7 (s p:Nat) (H:zn) (K:KT):zt Tryz.prog zu5 Tryz.f45 [.pointer (some ⟨s,0,none⟩),.pointer (some ⟨p,0,none⟩)] H K=
 (T_fzz s H fun (r1:Bool) (H1:zn)=>Br r1 (zou p H1 fun (r2:Bool) (H2:zn)=>K (.bool r2) H2) (K (.bool false) H1)):=by kernel_rfl
theorem zu6:∀g,FnOk Tryz.prog g (zu5 g):=FnOk.envOf (by
 intro x hx
 simp only [List.mem_cons,List.not_mem_nil,or_false] at hx
 rcases hx with rfl | rfl
 ·exact z1k3
 ·exact f24z_ok)
theorem zwv (s p:Nat) (H:zn) (K:KT) (h:zop s p H fun (r1:Bool) (H':zn)=>K (.bool r1) H'):zt Tryz.prog zu5 Tryz.f45 [.pointer (some ⟨s,0,none⟩),.pointer (some ⟨p,0,none⟩)] H K:=by
 rw [z1e7]
 obtain ⟨db,jb,lb,oa,ga,za,eb,ib,nb,aa,ba,i_s,i_p,yb,wb,bd_2,bd_3,hk⟩:=h
 obtain rfl:=yb.eqn
 obtain rfl:=wb.eqn
 have e:(zcl aa oa ga za ba)=_:=rfl
 have e:=e.trans (zbk aa oa ga za ba)
 have g0:=Grow.refl H
 refine z1bx ⟨db,aa.length,lb,oa,_,(zq g0 i_s),(yb.grow g0),ω0,?_⟩
 refine Br.intro (fun c_1=>?_) (fun c_1=>?_)
 ·have e:=e.trans (zw c_1)
  refine z11s ⟨ga,za,eb,ba.length,nb,_,(zq g0 i_p),(wb.grow g0),ω0,?_⟩
  rw [e] at hk
  exact hk
 ·have e:=e.trans (zv c_1)
  rw [e] at hk
  exact hk
theorem z1e6:FnOk Tryz.prog 45 z19e:=FnOk.bodyF mix_ok zu6 Tryz.func45 rfl ω9 ω9 fun args H=>by
 unfold z18b
 split
 ·refine ⟨?_,?_,?_,?_,fun K hk=>zwv _ _ H K hk⟩
  ·intro K K' h hk;obtain ⟨db,jb,lb,oa,ga,za,eb,ib,nb,aa,ba,i_s,i_p,yb,wb,bd_2,bd_3,k⟩:=hk;exact ⟨db,jb,lb,oa,ga,za,eb,ib,nb,aa,ba,i_s,i_p,yb,wb,bd_2,bd_3,h _ _ k⟩
  ·intro _ K hk;obtain ⟨db,jb,lb,oa,ga,za,eb,ib,nb,aa,ba,i_s,i_p,yb,wb,bd_2,bd_3,k⟩:=hk;exact ⟨_,k,fun K' k'=>⟨db,jb,lb,oa,ga,za,eb,ib,nb,aa,ba,i_s,i_p,yb,wb,bd_2,bd_3,k'⟩⟩
  ·intro K hk;obtain ⟨db,jb,lb,oa,ga,za,eb,ib,nb,aa,ba,i_s,i_p,yb,wb,bd_2,bd_3,k⟩:=hk;exact ⟨_,_,k⟩
  ·nofun
 ·exact Nice.no

def zbl (ga za:Int) (ba:LN):Int×Int×LN:=(ga,za,(([]:LN)++ba))
def zyc:=@zbl.eq_1
def zoq (p:Nat) (H:zn) (K:Int→Int→OA→Nat→Nat→zn→Prop):Prop:=∃(ga za:Int),∃eb:OA,∃(ib nb:Nat),∃ba:LN,rdN H p 0 3=some [.int .i64 ga,.int .i64 za,.slice eb ib nb]∧IsL fF H eb ib ba∧ba.length<1073741824∧((∀(ta:OA) (xa ua:Nat),∀H':zn,Grow H H'→OwnS fF H' H.length ta xa ua ((zbl ga za ba).2.2)→K ((zbl ga za ba).1) ((zbl ga za ba).2.1) ta xa ua H'))
theorem z11n {p:Nat} {H:zn} {K:Int→Int→OA→Nat→Nat→zn→Prop} (h:∃(ga za:Int),∃eb:OA,∃(ib nb:Nat),∃ba:LN,rdN H p 0 3=some [.int .i64 ga,.int .i64 za,.slice eb ib nb]∧IsL fF H eb ib ba∧ba.length<1073741824∧((∀(ta:OA) (xa ua:Nat),∀H':zn,Grow H H'→OwnS fF H' H.length ta xa ua ((zbl ga za ba).2.2)→K ((zbl ga za ba).1) ((zbl ga za ba).2.1) ta xa ua H'))):zoq p H K:=h

def zu7:Env:=envOf []
def z18c (args:List Value) (H:zn):(Value→zn→Prop)→Prop:=match args with
 | [.pointer (some ⟨p,0,none⟩)]=>fun K=>zoq p H fun (xc:Int) (vc:Int) (ta:OA) (xa:Nat) (ua:Nat) (H':zn)=>K (.agg #[.int .i64 xc,.int .i64 vc,.slice ta xa ua]) H'
 | _=>fun _=>False
def z19f:FSpec:={F:=z18c,quiet:=false,tame:=true}
theorem z1e9 (p:Nat) (H:zn) (K:KT):zt Tryz.prog zu7 Tryz.f101 [.pointer (some ⟨p,0,none⟩)] H K=
 (Al [.int .i64 0,.int .i64 0,.slice none 0 0] H fun b1 H1=>∃vg:OA,∃(pg yg:Nat),  rdC H1 p 2=some (.slice vg pg yg)∧∃x2:Int,  rdC H1 p 1=some (.int .i64 x2)∧∃x3:Int,  rdC H1 p 0=some (.int .i64 x3)∧Al [] H1 fun b2 H2=>∃o1 w1:List Value,ownB H2 (some ⟨b2,0,none⟩) 0 1 1=some o1∧rdS H2 vg (pg*1)=some w1∧((some ⟨b2,0,none⟩:OA)=none→0<(pg:Nat))∧(0:Nat)+pg<most∧Ap H2 (z2s H2 (some ⟨b2,0,none⟩)++[some ⟨o1++w1,true⟩]) fun b3 H3=>isOwn H3 b1∧(∃l,rdN H3 b1 0 3=some l)∧Lt (setN H3 b1 0 [.int .i64 x3,.int .i64 x2,.slice (some ⟨b3,0,none⟩) (0+pg) 1]) fun H4=>∃(c1 c2:Int),∃dh:OA,∃(fh eh:Nat),  rdN H4 b1 0 3=some [.int .i64 c1,.int .i64 c2,.slice dh fh eh]∧K (.agg #[.int .i64 c1,.int .i64 c2,.slice dh fh eh]) H4):=by kernel_rfl
theorem zu8:∀g,FnOk Tryz.prog g (zu7 g):=FnOk.envOf (by
 intro x hx;cases hx)
theorem ω3 {P:Prop} (h:P:=by first | (simp only [List.length_map,List.length_cons,List.length_nil,List.length_append];done) | (simp only [List.length_map,List.length_cons,List.length_nil,List.length_append];omega) | (simp only [List.length_map,List.length_cons,List.length_nil,List.length_append,List.length_take,List.length_drop];omega)):P:=h
theorem ω6 {P:Prop} (h:P:=by first | omega | (simp only [List.length_append,List.length_cons,List.length_nil];done) | (simp only [List.length_append,List.length_cons,List.length_nil];omega) | (simp only [List.length_append,List.length_cons,List.length_nil,List.length_take,List.length_drop];omega)):P:=h
theorem zww (p:Nat) (H:zn) (K:KT) (h:zoq p H fun (xc:Int) (vc:Int) (ta:OA) (xa:Nat) (ua:Nat) (H':zn)=>K (.agg #[.int .i64 xc,.int .i64 vc,.slice ta xa ua]) H'):zt Tryz.prog zu7 Tryz.f101 [.pointer (some ⟨p,0,none⟩)] H K:=by
 rw [z1e9]
 obtain ⟨ga,za,eb,ib,nb,ba,i_p,wb,bd_44,hk⟩:=h
 obtain rfl:=wb.eqn
 have e:(zbl ga za ba)=_:=rfl
 have e:=e.trans (zyc ga za ba)
 have g0:=Grow.refl H
 refine Al.intro (fun b_1 H_1 hb_2 hl_3 g_4 o_5=>?_)
 have l_7:=g_4.1
 have g_8:=g0.trans g_4
 have l_9:=g_8.1
 have w43:=o_5.lt
 refine ⟨eb,ba.length,nb,(z1g (zq g_8 i_p) 2 (nbl rfl)).trans rfl,?_⟩
 refine ⟨za,(z1g (zq g_8 i_p) 1 (nbl rfl)).trans rfl,?_⟩
 refine ⟨ga,(z1g (zq g_8 i_p) 0 (nbl rfl)).trans rfl,?_⟩
 refine Al.intro (fun b_10 H_2 hb_11 hl_12 g_13 o_14=>?_)
 have o_14:Own H_2 b_10 ((([]:LN)).map fF):=o_14
 have l_16:=g_13.1
 have g_17:=g_8.trans g_13
 have l_18:=g_17.1
 have o_19:=o_5.grow g_13
 have w20:=o_19.lt
 have w42:=o_14.lt
 refine ⟨_,_,o_14.ownB ω3 rfl,(z2h (wb.grow g_17)),(fun h=>by cases h),ω25,?_⟩
 refine Ap.app o_14 rfl rfl (fun b25 H_3 q40 hl_21 o22 k23=>?_)
 have o22:=z2a o22
 have l26:=k23.1
 have g27:=g_17.keep (b:=b_10) ω2 k23
 have l28:=g27.1
 have o29:=o_19.keep ω2 k23
 have w30:=o29.lt
 have w41:=o22.lt
 refine Lt.setN (n:=3) o29 (nbl rfl) rfl (fun H_4 hl_31 o33 k32=>?_)
 have o33:Own H_4 b_1 [.int .i64 ga,.int .i64 za,.slice (some ⟨b25,0,none⟩) (0+ba.length) 1]:=o33
 have l34:=k32.1
 have g35:=g27.keep (b:=b_1) ω2 k32
 have l36:=g35.1
 have o37:=o22.keep ω2 k32
 have w38:=o37.lt
 have w39:=o33.lt
 refine ⟨ga,za,some ⟨b25,0,none⟩,0+ba.length,1,(o33.rdN (nbl rfl)).trans rfl,?_⟩
 rw [e] at hk
 exact hk _ _ _ H_4 g35 (o37.ownS ω6 ω2)
theorem z1e8:FnOk Tryz.prog 101 z19f:=FnOk.bodyF mix_ok zu8 Tryz.func101 rfl ω9 ω9 fun args H=>by
 unfold z18c
 split
 ·refine ⟨?_,?_,?_,?_,fun K hk=>zww _ H K hk⟩
  ·intro K K' h hk;obtain ⟨ga,za,eb,ib,nb,ba,i_p,wb,bd_44,k⟩:=hk;exact ⟨ga,za,eb,ib,nb,ba,i_p,wb,bd_44,(fun ta xa ua H' gg ow0=>h _ _ (k ta xa ua H' gg ow0))⟩
  ·nofun
  ·intro K hk;obtain ⟨ga,za,eb,ib,nb,ba,i_p,wb,bd_44,k⟩:=hk;exact z5q fun a n e H1 g o=>⟨_,_,k a n e H1 g o⟩
  ·intro _ K hk;obtain ⟨ga,za,eb,ib,nb,ba,i_p,wb,bd_44,k⟩:=hk;exact ⟨ga,za,eb,ib,nb,ba,i_p,wb,bd_44,(fun ta xa ua H' gg ow0=>⟨gg,k ta xa ua H' gg ow0⟩)⟩
 ·exact Nice.no

def z9d (wide high n:Int):Nat→Int→Int→Int→Int×Int
 | 0,_,_,_=>(0,0)
 | μ+1,wide_0,high_1,k=>(bif decide ((k:Int)<n) then (z9d wide high n μ ((Int.tdiv (wide_0+1) 2)) ((Int.tdiv (high_1+1) 2)) (k+1)) else (wide_0,high_1))
def zak:=fun wide high n μ wide_0 high_1 k=>@z9d.eq_2 wide high n wide_0 high_1 k μ
def zr (wide high n:Int):Int×Int:=(z9d wide high n (Int.toNat (n-(0:Int))+1) wide high (0:Int))
def zl6:=@zr.eq_1
def zg2 (wide high n:Int) (H:zn) (K:Int→Int→zn→Prop):Prop:=1≤wide∧wide≤16∧1≤high∧high≤16∧n≤1000∧K ((zr wide high n).1) ((zr wide high n).2) H
theorem zo4 {wide high n:Int} {H:zn} {K:Int→Int→zn→Prop} (h:1≤wide∧wide≤16∧1≤high∧high≤16∧n≤1000∧K ((zr wide high n).1) ((zr wide high n).2) H):zg2 wide high n H K:=h
theorem zkt (w h n:Int):∀(μ:Nat) (a b k:Int),1≤a→a≤16→1≤b→b≤16→n-k≤μ→z9d w h n (μ+1) a b k=(z6k (n-k).toNat a,z6k (n-k).toNat b):=by
 intro μ
 induction μ with
 | zero=>
  intro a b k h1 h2 h3 h4 hm
  rw [zak,dcf ω2,cond_false,show (n-k).toNat=0 by omega];rfl
 | succ μ ih=>
  intro a b k h1 h2 h3 h4 hm
  rw [zak]
  by_cases h:k<n
  ·rw [dct h,cond_true,zdz h1,zdz h3]
   have ra:=zba h1 h2
   have rb:=zba h3 h4
   obtain ⟨j,hj⟩:∃j,(n-k).toNat=j+1:=⟨(n-k).toNat-1,by omega⟩
   rw [ih (zi4 a) (zi4 b) (k+1) ω2 ω2 ω2 ω2 ω2,hj,show (n-(k+1)).toNat=j by omega];rfl
  ·rw [dcf h,cond_false,show (n-k).toNat=0 by omega];rfl
theorem z6s (w h n:Int) (h1:1≤w) (h2:w≤16) (h3:1≤h) (h4:h≤16):zr w h n=(z6k n.toNat w,z6k n.toNat h):=by
 rw [zl6,zkt w h n _ w h 0 h1 h2 h3 h4 ω2,show n-0=n by omega]
theorem z4n (w h n:Int):1≤w∧w≤16∧1≤h∧h≤16→1≤(zr w h n).1∧(zr w h n).1≤w∧1≤(zr w h n).2∧(zr w h n).2≤h:=fun ⟨h1,h2,h3,h4⟩=>by
 rw [z6s w h n h1 h2 h3 h4]
 have a:=z4f n.toNat w h1 h2
 have b:=z4f n.toNat h h3 h4
 exact ⟨a.1,a.2,b.1,b.2⟩
def zax:Env:=envOf []
def z16x (args:List Value) (H:zn):(Value→zn→Prop)→Prop:=match args with
 | [.int .i64 wide,.int .i64 high,.int .i64 n]=>fun K=>zg2 wide high n H fun (r1:Int) (r2:Int) (H':zn)=>K (.tuple #[.int .i64 r1,.int .i64 r2]) H'
 | _=>fun _=>False
def zum:FSpec:={F:=z16x,quiet:=true,tame:=false}
theorem f10z_vc (wide high n:Int) (H:zn) (K:KT):zt Tryz.prog zax Tryz.f102 [.int .i64 wide,.int .i64 high,.int .i64 n] H K=
 (z1j (exL Tryz.prog zax (cl (cl (cr (cl (cr (zo Tryz.f102)))))) 263 192 [(0,3)]) (.int .i64 wide::.int .i64 high::.int .i64 n::ud5 (.int .i64 0::ud13 [])) H (zu 0 (seqQ (exL Tryz.prog zax (cr (cr (zo Tryz.f102))) 192 192 []) (retK Tryz.prog Tryz.f102 K)))):=by kernel_rfl
abbrev f10z_P1 (n wide_0 high_1 k:Int)  :List Value:=(.int .i64 wide_0::.int .i64 high_1::.int .i64 n::ud5 (.int .i64 k::ud13 []))
theorem f10z_r1 (n wide_0 high_1 k:Int)  (H:zn) (R:Post):exL Tryz.prog zax (cl (cl (cr (cl (cr (zo Tryz.f102)))))) 263 192 [(0,3)] (f10z_P1 n wide_0 high_1 k) H R=
 (Br (decide ((k:Int)<n)) (2≠(0:Int)∧2≠(0:Int)∧R .normal (.int .i64 (IntKind.wrap .i64 (Int.tdiv (IntKind.wrap .i64 (wide_0+1)) 2))::.int .i64 (IntKind.wrap .i64 (Int.tdiv (IntKind.wrap .i64 (high_1+1)) 2))::.int .i64 n::ud5 (.int .i64 (IntKind.wrap .i64 (k+1))::ud13 [])) H) (R (.exit 0) (.int .i64 wide_0::.int .i64 high_1::ud20 []) H)):=by kernel_rfl
def f10z_I1 (n:Int) (Inv:Nat→Int→Int→Int→zn→Prop):Nat→List Value→zn→Prop:=fun μ tm H=>∃(wide_0 high_1 k:Int),tm=(f10z_P1 n wide_0 high_1 k)∧Inv μ wide_0 high_1 k H
theorem f10z_L1 (n:Int) {Q:Post} (Inv:Nat→Int→Int→Int→zn→Prop) (ν:Nat) (wide_0 high_1 k:Int)  (H:zn) (h0:Inv ν wide_0 high_1 k H)
  (hs:∀(μ:Nat) (wide_0:Int) (high_1:Int) (k:Int)  (H:zn),Inv μ wide_0 high_1 k H→exL Tryz.prog zax (cl (cl (cr (cl (cr (zo Tryz.f102)))))) 263 192 [(0,3)] (f10z_P1 n wide_0 high_1 k) H (zx (f10z_I1 n Inv) μ Q)):z1j (exL Tryz.prog zax (cl (cl (cr (cl (cr (zo Tryz.f102)))))) 263 192 [(0,3)]) (f10z_P1 n wide_0 high_1 k) H Q:=
 ⟨f10z_I1 n Inv,ν,⟨wide_0,high_1,k,rfl,h0⟩,fun μ tm H h=>by obtain ⟨wide_0,high_1,k,rfl,hI⟩:=h;exact hs μ wide_0 high_1 k  H hI⟩
theorem f10z_n1 {n:Int} {Q:Post} {Inv:Nat→Int→Int→Int→zn→Prop} {μ:Nat} (μ':Nat) {wide_0 high_1 k:Int}  {H:zn} (hm:μ'<μ) (hI:Inv μ' wide_0 high_1 k H):zx (f10z_I1 n Inv) μ Q .normal (f10z_P1 n wide_0 high_1 k) H:=⟨μ',hm,wide_0,high_1,k,rfl,hI⟩
theorem f10z_x1_0 (wide_0 high_1:Int) (H:zn) (K:KT)  {I:Nat→List Value→zn→Prop} {μ:Nat}:zx I μ (zu 0 (seqQ (exL Tryz.prog zax (cr (cr (zo Tryz.f102))) 192 192 []) (retK Tryz.prog Tryz.f102 K))) (.exit 0) (.int .i64 wide_0::.int .i64 high_1::ud20 []) H=
 (K (.tuple #[.int .i64 wide_0,.int .i64 high_1]) H):=by kernel_rfl
theorem zst:∀g,FnOk Tryz.prog g (zax g):=FnOk.envOf (by
 intro x hx;cases hx)
theorem ω22 {P:Prop} (h:P:=by first | omega | decide | (simp;done) | (simp;omega)):P:=h
theorem f10z_main (wide high n:Int) (H:zn) (K:KT) (h:zg2 wide high n H fun (r1:Int) (r2:Int) (H':zn)=>K (.tuple #[.int .i64 r1,.int .i64 r2]) H'):zt Tryz.prog zax Tryz.f102 [.int .i64 wide,.int .i64 high,.int .i64 n] H K:=by
 rw [f10z_vc]
 obtain ⟨pr0,pr1,pr2,pr3,pr4,hk⟩:=h
 have e:(zr wide high n)=_:=rfl
 have e:=e.trans (zl6 wide high n)
 have g0:=Grow.refl H
 refine f10z_L1 _ (fun (μ:Nat) (wide_0:Int) (high_1:Int) (k:Int) (H_1:zn)=>H=H_1∧(0:Int)≤k∧((k≤n∨k≤(0:Int)))∧1≤wide_0∧wide_0≤16∧1≤high_1∧high_1≤16∧n-k≤(μ:Int)∧zr wide high n=z9d wide high n (μ+1) wide_0 high_1 k) (Int.toNat (n-(0:Int))) _ _ _ H ?_ ?_
 ·exact ⟨rfl,ω7,ω7,ω7,ω7,ω7,ω7,ω2,e⟩
 ·intro μ wide_0 high_1 k  H_1 hI
  obtain ⟨rfl,v_1,v_2,v_3,v_4,v_5,v_6,hμ,e⟩:=hI
  rw [f10z_r1]
  have e:=e.trans (zak wide high n μ wide_0 high_1 k)
  have l_7:=g0.1
  refine Br.intro (fun c_8=>?_) (fun c_8=>?_)
  ·have e:=e.trans (zw c_8)
   have c_8':=odt c_8
   rw [show IntKind.wrap .i64 (wide_0+1)=(wide_0+1) from zp ω2 ω2]
   have z9:=zca (wide_0+1) 2
   refine ⟨ω22,?_⟩
   rw [show IntKind.wrap .i64 (Int.tdiv (wide_0+1) 2)=(Int.tdiv (wide_0+1) 2) from zp ω2 ω2]
   rw [show IntKind.wrap .i64 (high_1+1)=(high_1+1) from zp ω2 ω2]
   have z10:=zca (high_1+1) 2
   refine ⟨ω22,?_⟩
   rw [show IntKind.wrap .i64 (Int.tdiv (high_1+1) 2)=(Int.tdiv (high_1+1) 2) from zp ω2 ω2]
   rw [show IntKind.wrap .i64 (k+1)=(k+1) from zp ω2 ω2]
   refine f10z_n1 (μ-1) ω16 ⟨rfl,ω1,ω1,ω1,ω1,ω1,ω1,ω16,ω13⟩
  ·have e:=e.trans (zv c_8)
   have c_8':=odf c_8
   rw [f10z_x1_0]
   rw [e] at hk
   exact hk
theorem f10z_ok:FnOk Tryz.prog 102 zum:=FnOk.bodyF mix_ok zst Tryz.func102 rfl ω9 ω9 fun args H=>by
 unfold z16x
 split
 ·refine ⟨?_,?_,?_,?_,fun K hk=>f10z_main _ _ _ H K hk⟩
  ·intro K K' h hk;obtain ⟨pr0,pr1,pr2,pr3,pr4,k⟩:=hk;exact ⟨pr0,pr1,pr2,pr3,pr4,h _ _ k⟩
  ·intro _ K hk;obtain ⟨pr0,pr1,pr2,pr3,pr4,k⟩:=hk;exact ⟨_,k,fun K' k'=>⟨pr0,pr1,pr2,pr3,pr4,k'⟩⟩
  ·intro K hk;obtain ⟨pr0,pr1,pr2,pr3,pr4,k⟩:=hk;exact ⟨_,_,k⟩
  ·nofun
 ·exact Nice.no

def z9i (ga za:Int) (ba:LN) (x y wide high:Int):Nat→Int→Int→Int→Int→Int→LN→Int×Int×LN
 | 0,_,_,_,_,_,_=>(0,0,[])
 | μ+1,i,q1_1,q1_2,q1_4,q1_5,q1_6=>(bif decide ((i:Int)<(wide*high)) then (z9i ga za ba x y wide high μ (i+1) q1_1 q1_2 q1_4 q1_5 ((q1_6++[(((ba).getD ((((((((y+(Int.tdiv i wide)))*ga))+x))+(Int.tmod i wide)):Int).toNat 0))]))) else (q1_4,q1_5,q1_6))
def zal:=fun ga za ba x y wide high μ i q1_1 q1_2 q1_4 q1_5 q1_6=>@z9i.eq_2 ga za ba x y wide high i q1_1 q1_2 q1_4 q1_5 q1_6 μ
def zab (ga za:Int) (ba:LN) (x y wide high:Int):Int×Int×LN:=(z9i ga za ba x y wide high (Int.toNat ((wide*high)-(0:Int))+1) (0:Int) 0 0 wide high ([]:LN))
def zlg:=@zab.eq_1
def zoh (p:Nat) (x y wide high:Int) (H:zn) (K:Int→Int→OA→Nat→Nat→zn→Prop):Prop:=∃(ga za:Int),∃eb:OA,∃(ib nb:Nat),∃ba:LN,rdN H p 0 3=some [.int .i64 ga,.int .i64 za,.slice eb ib nb]∧IsL fF H eb ib ba∧ba.length<1073741824∧0≤x∧0≤y∧1≤wide∧1≤high∧x+wide≤ga∧y+high≤za∧ga≤16∧za≤16∧(ba.length:Int)=ga*za∧((∀(ta:OA) (xa ua:Nat),∀H':zn,Grow H H'→OwnS fF H' H.length ta xa ua ((zab ga za ba x y wide high).2.2)→K ((zab ga za ba x y wide high).1) ((zab ga za ba x y wide high).2.1) ta xa ua H'))
theorem z11e {p:Nat} {x y wide high:Int} {H:zn} {K:Int→Int→OA→Nat→Nat→zn→Prop} (h:∃(ga za:Int),∃eb:OA,∃(ib nb:Nat),∃ba:LN,rdN H p 0 3=some [.int .i64 ga,.int .i64 za,.slice eb ib nb]∧IsL fF H eb ib ba∧ba.length<1073741824∧0≤x∧0≤y∧1≤wide∧1≤high∧x+wide≤ga∧y+high≤za∧ga≤16∧za≤16∧(ba.length:Int)=ga*za∧((∀(ta:OA) (xa ua:Nat),∀H':zn,Grow H H'→OwnS fF H' H.length ta xa ua ((zab ga za ba x y wide high).2.2)→K ((zab ga za ba x y wide high).1) ((zab ga za ba x y wide high).2.1) ta xa ua H'))):zoh p x y wide high H K:=h
theorem zr9 (W H:Int) (L:LN) (x y wide high:Int) (w h:Nat) (hw:wide=w) (hh:high=h) (hw0:0<w):∀(μ i:Nat) (a b:Int),i≤h*w→h*w-i≤μ→
  ∀o,o=(List.range i).map (fun i:Nat=>z5p L x y W ((i % w:Nat):Int) ((i / w:Nat):Int))→
  z9i W H L x y wide high (μ+1) (i:Int) a b wide high o=(wide,high,picL w h (z5p L x y W)):=by
 have hm:wide*high=((h*w:Nat):Int):=by rw [hw,hh,Int.natCast_mul,Int.mul_comm]
 intro μ
 induction μ with
 | zero=>
  intro i a b h1 h2 o ho
  rw [zal,hm,dcf ω2,cond_false,ho,show i=h*w by omega,z9o hw0]
 | succ μ ih=>
  intro i a b h1 h2 o ho
  rw [zal,hm]
  by_cases hlt:i<h*w
  ·rw [dct ω2,cond_true,show (i:Int)+1=((i+1:Nat):Int) by omega]
   refine ih (i+1) a b ω2 ω2 _ ?_
   rw [ho,List.range_succ,List.map_append]
   congr 1
   have e1:Int.tdiv (i:Int) wide=((i / w:Nat):Int):=by rw [hw];rfl
   have e2:Int.tmod (i:Int) wide=((i % w:Nat):Int):=by rw [hw];rfl
   rw [e1,e2];rfl
  ·rw [dcf ω2,cond_false,ho,show i=h*w by omega,z9o hw0]
theorem zra (W H:Int) (L:LN) (x y wide high:Int) (hw:1≤wide) (hh:1≤high):zab W H L x y wide high=(wide,high,picL wide.toNat high.toNat (z5p L x y W)):=by
 rw [zlg]
 have hm:wide*high=((high.toNat*wide.toNat:Nat):Int):=by rw [Int.natCast_mul,Int.toNat_of_nonneg ω2,Int.toNat_of_nonneg ω2,Int.mul_comm]
 exact zr9 W H L x y wide high wide.toNat high.toNat ω2 ω2 ω2 _ 0 0 0 (Nat.zero_le _) ω2 [] rfl
def zay:Env:=envOf []
def z17p (args:List Value) (H:zn):(Value→zn→Prop)→Prop:=match args with
 | [.pointer (some ⟨p,0,none⟩),.int .i64 x,.int .i64 y,.int .i64 wide,.int .i64 high]=>fun K=>zoh p x y wide high H fun (xc:Int) (vc:Int) (ta:OA) (xa:Nat) (ua:Nat) (H':zn)=>K (.agg #[.int .i64 xc,.int .i64 vc,.slice ta xa ua]) H'
 | _=>fun _=>False
def z18w:FSpec:={F:=z17p,quiet:=false,tame:=true}
theorem z1d2 (p:Nat) (x y wide high:Int) (H:zn) (K:KT):zt Tryz.prog zay Tryz.f121 [.pointer (some ⟨p,0,none⟩),.int .i64 x,.int .i64 y,.int .i64 wide,.int .i64 high] H K=
 (Al [.int .i64 0,.int .i64 0,.slice none 0 0] H fun b1 H1=>Al [] H1 fun b2 H2=>Al [.int .i64 0,.int .i64 0,.slice none 0 0] H2 fun b3 H3=>isOwn H3 b3∧(∃l,rdN H3 b3 0 3=some l)∧Lt (setN H3 b3 0 [.int .i64 wide,.int .i64 high,.slice (some ⟨b2,0,none⟩) 0 1]) fun H4=>z1j (exL Tryz.prog zay (cl (cl (cr (cl (cr (cr (zo Tryz.f121))))))) 7199 1024 [(0,3072)]) (.pointer (some ⟨p,0,none⟩)::.int .i64 x::.int .i64 y::.int .i64 wide::.int .i64 high::ud5 (.pointer (some ⟨b1,0,none⟩)::.pointer (some ⟨b3,0,none⟩)::.int .i64 0::ud39 [])) H4 (zu 0 (seqQ (exL Tryz.prog zay (cr (cr (cr (zo Tryz.f121)))) 1024 1024 []) (retK Tryz.prog Tryz.f121 K)))):=by kernel_rfl
abbrev zdn (b1 b3:Nat) (high:Int) (p:Nat) (wide x y i:Int)  :List Value:=(.pointer (some ⟨p,0,none⟩)::.int .i64 x::.int .i64 y::.int .i64 wide::.int .i64 high::ud5 (.pointer (some ⟨b1,0,none⟩)::.pointer (some ⟨b3,0,none⟩)::.int .i64 i::ud39 []))
theorem z1d1 (b1 b3:Nat) (high:Int) (p:Nat) (wide x y i:Int)  (H:zn) (R:Post):exL Tryz.prog zay (cl (cl (cr (cl (cr (cr (zo Tryz.f121))))))) 7199 1024 [(0,3072)] (zdn b1 b3 high p wide x y i) H R=
 (Br (decide ((i:Int)<IntKind.wrap .i64 (wide*high))) (∃vg:OA,∃(pg yg:Nat),  rdC H b3 2=some (.slice vg pg yg)∧∃sk:OA,∃(rk uk:Nat),  rdC H p 2=some (.slice sk rk uk)∧wide≠(0:Int)∧∃x3:Int,  rdC H p 0=some (.int .i64 x3)∧wide≠(0:Int)∧(0:Int)≤IntKind.wrap .i64 ((IntKind.wrap .i64 ((IntKind.wrap .i64 ((IntKind.wrap .i64 (y+(IntKind.wrap .i64 (Int.tdiv i wide))))*x3))+x))+(Int.tmod i wide))∧IntKind.wrap .i64 ((IntKind.wrap .i64 ((IntKind.wrap .i64 ((IntKind.wrap .i64 (y+(IntKind.wrap .i64 (Int.tdiv i wide))))*x3))+x))+(Int.tmod i wide))<(rk:Int)∧∃b4 f1,(sk:OA)=some ⟨b4,f1,none⟩∧∃x4:Nat,  rdC H b4 (f1+(IntKind.wrap .i64 ((IntKind.wrap .i64 ((IntKind.wrap .i64 ((IntKind.wrap .i64 (y+(IntKind.wrap .i64 (Int.tdiv i wide))))*x3))+x))+(Int.tmod i wide)):Int).toNat*1)=some (.float .f32 x4)∧Al [.float .f32 x4] H fun b5 H5=>∃o1 w1:List Value,ownB H5 vg pg yg 1=some o1∧rdS H5 (some ⟨b5,0,none⟩) (1*1)=some w1∧((vg:OA)=none→0<(1:Nat))∧(pg:Nat)+1<most∧Ap H5 (z2s H5 vg++[some ⟨o1++w1,true⟩]) fun b6 H6=>isOwn H6 b3∧(∃l,rdN H6 b3 2 1=some l)∧Lt (setC H6 b3 2 (.slice (some ⟨b6,0,none⟩) (pg+1) 1)) fun H7=>R .normal (.pointer (some ⟨p,0,none⟩)::.int .i64 x::.int .i64 y::.int .i64 wide::.int .i64 high::ud5 (.pointer (some ⟨b1,0,none⟩)::.pointer (some ⟨b3,0,none⟩)::.int .i64 (IntKind.wrap .i64 (i+1))::ud39 [])) H7) (R (.exit 0) (ud10 (.pointer (some ⟨b1,0,none⟩)::.pointer (some ⟨b3,0,none⟩)::ud40 [])) H)):=by kernel_rfl
def zmx (b1 b3:Nat) (high:Int) (p:Nat) (wide x y:Int) (Inv:Nat→Int→zn→Prop):Nat→List Value→zn→Prop:=fun μ tm H=>∃i:Int,tm=(zdn b1 b3 high p wide x y i)∧Inv μ i H
theorem z1cy (b1 b3:Nat) (high:Int) (p:Nat) (wide x y:Int) {Q:Post} (Inv:Nat→Int→zn→Prop) (ν:Nat) (i:Int)  (H:zn) (h0:Inv ν i H)
  (hs:∀(μ:Nat) (i:Int)  (H:zn),Inv μ i H→exL Tryz.prog zay (cl (cl (cr (cl (cr (cr (zo Tryz.f121))))))) 7199 1024 [(0,3072)] (zdn b1 b3 high p wide x y i) H (zx (zmx b1 b3 high p wide x y Inv) μ Q)):z1j (exL Tryz.prog zay (cl (cl (cr (cl (cr (cr (zo Tryz.f121))))))) 7199 1024 [(0,3072)]) (zdn b1 b3 high p wide x y i) H Q:=
 ⟨zmx b1 b3 high p wide x y Inv,ν,⟨i,rfl,h0⟩,fun μ tm H h=>by obtain ⟨i,rfl,hI⟩:=h;exact hs μ i  H hI⟩
theorem z1cz {b1 b3:Nat} {high:Int} {p:Nat} {wide x y:Int} {Q:Post} {Inv:Nat→Int→zn→Prop} {μ:Nat} (μ':Nat) {i:Int}  {H:zn} (hm:μ'<μ) (hI:Inv μ' i H):zx (zmx b1 b3 high p wide x y Inv) μ Q .normal (zdn b1 b3 high p wide x y i) H:=⟨μ',hm,i,rfl,hI⟩
theorem zw8 (b1 b3:Nat) (H:zn) (K:KT)  {I:Nat→List Value→zn→Prop} {μ:Nat}:zx I μ (zu 0 (seqQ (exL Tryz.prog zay (cr (cr (cr (zo Tryz.f121)))) 1024 1024 []) (retK Tryz.prog Tryz.f121 K))) (.exit 0) (ud10 (.pointer (some ⟨b1,0,none⟩)::.pointer (some ⟨b3,0,none⟩)::ud40 [])) H=
 (∃(c1 c2:Int),∃dh:OA,∃(fh eh:Nat),  rdN H b3 0 3=some [.int .i64 c1,.int .i64 c2,.slice dh fh eh]∧isOwn H b1∧(∃l,rdN H b1 0 3=some l)∧Lt (setN H b1 0 [.int .i64 c1,.int .i64 c2,.slice dh fh eh]) fun H8=>∃(c4 c5:Int),∃qh:OA,∃(th sh:Nat),  rdN H8 b1 0 3=some [.int .i64 c4,.int .i64 c5,.slice qh th sh]∧K (.agg #[.int .i64 c4,.int .i64 c5,.slice qh th sh]) H8):=by kernel_rfl
theorem zto:∀g,FnOk Tryz.prog g (zay g):=FnOk.envOf (by
 intro x hx;cases hx)
theorem ω18 {P:Prop} (h:P:=by first | exact o40 | (have hbx:=o40;(try simp only [List.length_append,List.length_cons,List.length_nil,Nat.zero_add] at hbx);(try simp only [List.length_append,List.length_cons,List.length_nil,Nat.zero_add]);exact hbx)):P:=h
theorem ω19 {P:Prop} (h:P:=by first | exact o36 | (have hbx:=o36;(try simp only [List.length_append,List.length_cons,List.length_nil,Nat.zero_add] at hbx);(try simp only [List.length_append,List.length_cons,List.length_nil,Nat.zero_add]);exact hbx)):P:=h
theorem ω5 {P:Prop} (h:P:=by first | rfl | omega | (simp only [List.length_set];done) | (simp only [List.length_set,List.length_replicate];omega)):P:=h
theorem ω26 {P:Prop} (h:P:=by first | exact o103 | (have hbx:=o103;(try simp only [List.length_append,List.length_cons,List.length_nil,Nat.zero_add] at hbx);(try simp only [List.length_append,List.length_cons,List.length_nil,Nat.zero_add]);exact hbx)):P:=h
theorem ω27 {P:Prop} (h:P:=by first | exact o99 | (have hbx:=o99;(try simp only [List.length_append,List.length_cons,List.length_nil,Nat.zero_add] at hbx);(try simp only [List.length_append,List.length_cons,List.length_nil,Nat.zero_add]);exact hbx)):P:=h
theorem zw7 (p:Nat) (x y wide high:Int) (H:zn) (K:KT) (h:zoh p x y wide high H fun (xc:Int) (vc:Int) (ta:OA) (xa:Nat) (ua:Nat) (H':zn)=>K (.agg #[.int .i64 xc,.int .i64 vc,.slice ta xa ua]) H'):zt Tryz.prog zay Tryz.f121 [.pointer (some ⟨p,0,none⟩),.int .i64 x,.int .i64 y,.int .i64 wide,.int .i64 high] H K:=by
 rw [z1d2]
 obtain ⟨ga,za,eb,ib,nb,ba,i_p,wb,bd_128,pr0,pr1,pr2,pr3,pr4,pr5,pr6,pr7,pr8,hk⟩:=h
 obtain rfl:=wb.eqn
 have zz:=z4u (W:=wide) (H:=high) ω2 ω2 ω2 ω2
 have e:(zab ga za ba x y wide high)=_:=rfl
 have e:=e.trans (zlg ga za ba x y wide high)
 have g0:=Grow.refl H
 refine Al.intro (fun b_1 H_1 hb_2 hl_3 g_4 o_5=>?_)
 have l_7:=g_4.1
 have g_8:=g0.trans g_4
 have l_9:=g_8.1
 have w127:=o_5.lt
 refine Al.intro (fun b_10 H_2 hb_11 hl_12 g_13 o_14=>?_)
 have o_14:Own H_2 b_10 ((([]:LN)).map fF):=o_14
 have l_16:=g_13.1
 have g_17:=g_8.trans g_13
 have l_18:=g_17.1
 have o_19:=o_5.grow g_13
 have w20:=o_19.lt
 have w126:=o_14.lt
 refine Al.intro (fun b_21 H_3 hb_22 hl_23 g24 o25=>?_)
 have l27:=g24.1
 have g28:=g_17.trans g24
 have l29:=g28.1
 have o30:=o_19.grow g24
 have w31:=o30.lt
 have o32:=o_14.grow g24
 have w33:=o32.lt
 have w125:=o25.lt
 refine Lt.setN (n:=3) o25 (nbl rfl) rfl (fun H_4 hl_34 o36 k35=>?_)
 have o36:Own H_4 b_21 [.int .i64 wide,.int .i64 high,.slice (some ⟨b_10,0,none⟩) 0 1]:=o36
 have l37:=k35.1
 have g38:=g28.keep (b:=b_21) ω2 k35
 have l39:=g38.1
 have o40:=o30.keep ω2 k35
 have w41:=o40.lt
 have o42:=o32.keep ω2 k35
 have w43:=o42.lt
 have w124:=o36.lt
 refine z1cy _ _ _ _ _ _ _ (fun (μ:Nat) (i:Int) (H_5:zn)=>∃(q1_1 q1_2 q1_4 q1_5:Int),∃q1_6:LN,∃b46:Nat,Own H_5 b_1 [.int .i64 q1_1,.int .i64 q1_2,.slice none 0 0]∧Own H_5 b46 (q1_6.map fF)∧Own H_5 b_21 [.int .i64 q1_4,.int .i64 q1_5,.slice (some ⟨b46,0,none⟩) q1_6.length 1]∧(b_21≠b_1)∧(b46≠b_1)∧(b46≠b_21)∧Grow H H_5∧H.length≤b46∧(0:Int)≤i∧((i≤(wide*high)∨i≤(0:Int)))∧(q1_6.length:Int)≤i-(0:Int)+0∧(q1_6.length:Int)≤i∧(wide*high)-i≤(μ:Int)∧zab ga za ba x y wide high=z9i ga za ba x y wide high (μ+1) i q1_1 q1_2 q1_4 q1_5 q1_6) (Int.toNat ((wide*high)-(0:Int))) _ H_4 ?_ ?_
 ·exact ⟨_,_,_,_,_,_,ω18,o42,ω19,ω2,ω2,ω2,g38,ω2,ω7,ω7,ω7,ω7,ω2,e⟩
 ·intro μ i  H_5 hI
  obtain ⟨q1_1,q1_2,q1_4,q1_5,q1_6,b46,o44,o47,o45,n48,n49,n50,g51,l52,v_53,v_54,v_55,v_56,hμ,e⟩:=hI
  rw [z1d1]
  have e:=e.trans (zal ga za ba x y wide high μ i q1_1 q1_2 q1_4 q1_5 q1_6)
  have zy:=zhw (x:=x) (y:=y) (W:=ga) (H:=za) (w:=wide) (h:=high) (i:=i) ω2 ω2 ω2 ω2 ω2 ω2 ω2 ω2 ω2
  have w57:=o44.lt
  have w58:=o45.lt
  have w59:=o47.lt
  have l60:=g51.1
  rw [show IntKind.wrap .i64 (wide*high)=(wide*high) from zp ω2 ω2]
  refine Br.intro (fun c61=>?_) (fun c61=>?_)
  ·have e:=e.trans (zw c61)
   have c_61':=odt c61
   refine ⟨some ⟨b46,0,none⟩,q1_6.length,1,(o45.rdC _).trans rfl,?_⟩
   refine ⟨eb,ba.length,nb,(z1g (zq g51 i_p) 2 (nbl rfl)).trans rfl,?_⟩
   have z62:=zca i wide
   refine ⟨ω22,?_⟩
   rw [show IntKind.wrap .i64 (Int.tdiv i wide)=(Int.tdiv i wide) from zp ω2 ω2]
   rw [show IntKind.wrap .i64 (y+(Int.tdiv i wide))=(y+(Int.tdiv i wide)) from zp ω2 ω2]
   refine ⟨ga,(z1g (zq g51 i_p) 0 (nbl rfl)).trans rfl,?_⟩
   rw [show IntKind.wrap .i64 (((y+(Int.tdiv i wide)))*ga)=(((y+(Int.tdiv i wide)))*ga) from zp ω2 ω2]
   rw [show IntKind.wrap .i64 (((((y+(Int.tdiv i wide)))*ga))+x)=(((((y+(Int.tdiv i wide)))*ga))+x) from zp ω2 ω2]
   refine ⟨ω22,?_⟩
   have z63:=za1 i wide
   have z64:=zcb i wide
   rw [show IntKind.wrap .i64 (((((((y+(Int.tdiv i wide)))*ga))+x))+(Int.tmod i wide))=(((((((y+(Int.tdiv i wide)))*ga))+x))+(Int.tmod i wide)) from zp ω2 ω2]
   obtain ⟨b65,f66,q67⟩:=((wb.grow g51)).pos ω0
   refine ⟨by omega,by omega,b65,f66,q67,?_⟩
   refine ⟨((ba).getD ((((((((y+(Int.tdiv i wide)))*ga))+x))+(Int.tmod i wide)):Int).toNat 0),(wb).rd g51 q67 ω2 _,?_⟩
   refine Al.intro (fun b68 H_6 hb_69 hl_70 g71 o72=>?_)
   have o72:Own H_6 b68 (([(((ba).getD ((((((((y+(Int.tdiv i wide)))*ga))+x))+(Int.tmod i wide)):Int).toNat 0))]).map fF):=o72
   have l74:=g71.1
   have g75:=g51.trans g71
   have l76:=g75.1
   have o77:=o44.grow g71
   have w78:=o77.lt
   have o79:=o45.grow g71
   have w80:=o79.lt
   have o81:=o47.grow g71
   have w82:=o81.lt
   have w112:=o72.lt
   refine ⟨_,_,o81.ownB ω3 rfl,(z2h (o72.isL ω5)),(fun h=>by cases h),ω25,?_⟩
   refine Ap.app o81 rfl rfl (fun b87 H_7 q110 hl_83 o84 k85=>?_)
   have o84:=z2a o84
   have l88:=k85.1
   have g89:=g75.keep (b:=b46) ω2 k85
   have l90:=g89.1
   have o91:=o77.keep ω2 k85
   have w92:=o91.lt
   have o93:=o79.keep ω2 k85
   have w94:=o93.lt
   have o95:=o72.keep ω2 k85
   have w96:=o95.lt
   have w111:=o84.lt
   refine Lt.set o93 (nbl rfl) (fun H_8 hl_97 o99 k98=>?_)
   have o99:Own H_8 b_21 [.int .i64 q1_4,.int .i64 q1_5,.slice (some ⟨b87,0,none⟩) (q1_6.length+1) 1]:=o99
   have l100:=k98.1
   have g101:=g89.keep (b:=b_21) ω2 k98
   have l102:=g101.1
   have o103:=o91.keep ω2 k98
   have w104:=o103.lt
   have o105:=o95.keep ω2 k98
   have w106:=o105.lt
   have o107:=o84.keep ω2 k98
   have w108:=o107.lt
   have w109:=o99.lt
   rw [show IntKind.wrap .i64 (i+1)=(i+1) from zp ω2 ω2]
   refine z1cz (μ-1) ω16 ⟨_,_,_,_,_,_,ω26,o107,ω27,ω2,ω2,ω2,g101,ω2,ω1,ω1,ω1,ω1,ω16,ω13⟩
  ·have e:=e.trans (zv c61)
   have c_61':=odf c61
   rw [zw8]
   refine ⟨q1_4,q1_5,some ⟨b46,0,none⟩,q1_6.length,1,(o45.rdN (nbl rfl)).trans rfl,?_⟩
   refine Lt.setN (n:=3) o44 (nbl rfl) rfl (fun H_9 hl_113 o115 k114=>?_)
   have o115:Own H_9 b_1 [.int .i64 q1_4,.int .i64 q1_5,.slice (some ⟨b46,0,none⟩) q1_6.length 1]:=o115
   have l116:=k114.1
   have g117:=g51.keep (b:=b_1) ω2 k114
   have l118:=g117.1
   have o119:=o45.keep ω2 k114
   have w120:=o119.lt
   have o121:=o47.keep ω2 k114
   have w122:=o121.lt
   have w123:=o115.lt
   refine ⟨q1_4,q1_5,some ⟨b46,0,none⟩,q1_6.length,1,(o115.rdN (nbl rfl)).trans rfl,?_⟩
   rw [e] at hk
   exact hk _ _ _ H_9 g117 (o121.ownS ω5 ω2)
theorem z1d0:FnOk Tryz.prog 121 z18w:=FnOk.bodyF mix_ok zto Tryz.func121 rfl ω9 ω9 fun args H=>by
 unfold z17p
 split
 ·refine ⟨?_,?_,?_,?_,fun K hk=>zw7 _ _ _ _ _ H K hk⟩
  ·intro K K' h hk;obtain ⟨ga,za,eb,ib,nb,ba,i_p,wb,bd_128,pr0,pr1,pr2,pr3,pr4,pr5,pr6,pr7,pr8,k⟩:=hk;exact ⟨ga,za,eb,ib,nb,ba,i_p,wb,bd_128,pr0,pr1,pr2,pr3,pr4,pr5,pr6,pr7,pr8,(fun ta xa ua H' gg ow0=>h _ _ (k ta xa ua H' gg ow0))⟩
  ·nofun
  ·intro K hk;obtain ⟨ga,za,eb,ib,nb,ba,i_p,wb,bd_128,pr0,pr1,pr2,pr3,pr4,pr5,pr6,pr7,pr8,k⟩:=hk;exact z5q fun a n e H1 g o=>⟨_,_,k a n e H1 g o⟩
  ·intro _ K hk;obtain ⟨ga,za,eb,ib,nb,ba,i_p,wb,bd_128,pr0,pr1,pr2,pr3,pr4,pr5,pr6,pr7,pr8,k⟩:=hk;exact ⟨ga,za,eb,ib,nb,ba,i_p,wb,bd_128,pr0,pr1,pr2,pr3,pr4,pr5,pr6,pr7,pr8,(fun ta xa ua H' gg ow0=>⟨gg,k ta xa ua H' gg ow0⟩)⟩
 ·exact Nice.no
theorem z1fb {W H i:Int} (h1:1≤W) (h2:1≤H) (h3:0≤i):i<W*H→0≤Int.tmod i H∧Int.tmod i H≤H-1∧0≤Int.tdiv i H∧Int.tdiv i H≤W-1∧0≤Int.tmod i H*W∧Int.tmod i H*W+Int.tdiv i H<W*H:=by
 intro h4
 rw [Int.tmod_eq_emod_of_nonneg h3,Int.tdiv_eq_ediv_of_nonneg h3]
 have a:=Int.emod_nonneg i (show H≠0 by omega)
 have b:=Int.emod_lt_of_pos i (show 0<H by omega)
 have c:0≤i / H:=Int.ediv_nonneg h3 ω2
 have d:i / H<W:=Int.ediv_lt_of_lt_mul ω2 h4
 have e:0≤i % H*W:=Int.mul_nonneg a ω2
 have f:(i % H+1)*W≤H*W:=Int.mul_le_mul_of_nonneg_right ω2 ω2
 have g:(i % H+1)*W=i % H*W+W:=by rw [Int.add_mul,Int.one_mul]
 have k:H*W=W*H:=Int.mul_comm _ _
 refine ⟨a,by omega,c,by omega,e,by omega⟩
def z9j (ga za:Int) (ba:LN):Nat→Int→Int→Int→Int→Int→LN→Int×Int×LN
 | 0,_,_,_,_,_,_=>(0,0,[])
 | μ+1,i,q1_1,q1_2,q1_4,q1_5,q1_6=>(bif decide ((i:Int)<(ga*za)) then (z9j ga za ba μ (i+1) q1_1 q1_2 q1_4 q1_5 ((q1_6++[(((ba).getD (((((Int.tmod i za)*ga))+(Int.tdiv i za)):Int).toNat 0))]))) else (q1_4,q1_5,q1_6))
def zan:=fun ga za ba μ i q1_1 q1_2 q1_4 q1_5 q1_6=>@z9j.eq_2 ga za ba i q1_1 q1_2 q1_4 q1_5 q1_6 μ
def z1v (ga za:Int) (ba:LN):Int×Int×LN:=(z9j ga za ba (Int.toNat ((ga*za)-(0:Int))+1) (0:Int) 0 0 za ga ([]:LN))
def zli:=@z1v.eq_1
def zg6 (p:Nat) (H:zn) (K:Int→Int→OA→Nat→Nat→zn→Prop):Prop:=∃(ga za:Int),∃eb:OA,∃(ib nb:Nat),∃ba:LN,rdN H p 0 3=some [.int .i64 ga,.int .i64 za,.slice eb ib nb]∧IsL fF H eb ib ba∧ba.length<1073741824∧1≤ga∧ga≤16∧1≤za∧za≤16∧(ba.length:Int)=ga*za∧((∀(ta:OA) (xa ua:Nat),∀H':zn,Grow H H'→OwnS fF H' H.length ta xa ua ((z1v ga za ba).2.2)→K ((z1v ga za ba).1) ((z1v ga za ba).2.1) ta xa ua H'))
theorem zol {p:Nat} {H:zn} {K:Int→Int→OA→Nat→Nat→zn→Prop} (h:∃(ga za:Int),∃eb:OA,∃(ib nb:Nat),∃ba:LN,rdN H p 0 3=some [.int .i64 ga,.int .i64 za,.slice eb ib nb]∧IsL fF H eb ib ba∧ba.length<1073741824∧1≤ga∧ga≤16∧1≤za∧za≤16∧(ba.length:Int)=ga*za∧((∀(ta:OA) (xa ua:Nat),∀H':zn,Grow H H'→OwnS fF H' H.length ta xa ua ((z1v ga za ba).2.2)→K ((z1v ga za ba).1) ((z1v ga za ba).2.1) ta xa ua H'))):zg6 p H K:=h
def zj0 (l:LN) (W x y:Int):Nat:=l.getD (x*W+y).toNat 0
theorem zrc (W H:Int) (L:LN) (w h:Nat) (hw:W=w) (hh:H=h) (hh0:0<h):∀(μ i:Nat) (a b:Int),i≤w*h→w*h-i≤μ→
  ∀o,o=(List.range i).map (fun i:Nat=>zj0 L W ((i % h:Nat):Int) ((i / h:Nat):Int))→
  z9j W H L (μ+1) (i:Int) a b H W o=(H,W,picL h w (zj0 L W)):=by
 have hm:W*H=((w*h:Nat):Int):=by rw [hw,hh,Int.natCast_mul]
 intro μ
 induction μ with
 | zero=>
  intro i a b h1 h2 o ho
  rw [zan,hm,dcf ω2,cond_false,ho,show i=w*h by omega,z9o hh0]
 | succ μ ih=>
  intro i a b h1 h2 o ho
  rw [zan,hm]
  by_cases hlt:i<w*h
  ·rw [dct ω2,cond_true,show (i:Int)+1=((i+1:Nat):Int) by omega]
   refine ih (i+1) a b ω2 ω2 _ ?_
   rw [ho,List.range_succ,List.map_append]
   congr 1
   have e1:Int.tdiv (i:Int) H=((i / h:Nat):Int):=by rw [hh];rfl
   have e2:Int.tmod (i:Int) H=((i % h:Nat):Int):=by rw [hh];rfl
   rw [e1,e2];rfl
  ·rw [dcf ω2,cond_false,ho,show i=w*h by omega,z9o hh0]
theorem zgh (W H:Int) (L:LN) (hw:1≤W) (hh:1≤H):z1v W H L=(H,W,picL H.toNat W.toNat (zj0 L W)):=by
 rw [zli]
 have hm:W*H=((W.toNat*H.toNat:Nat):Int):=by rw [Int.natCast_mul,Int.toNat_of_nonneg ω2,Int.toNat_of_nonneg ω2]
 exact zrc W H L W.toNat H.toNat ω2 ω2 ω2 _ 0 0 0 (Nat.zero_le _) ω2 [] rfl
theorem ze3 (W H:Int) (L:LN) (hw:1≤W) (hh:1≤H):(z1v W H L).1=H∧(z1v W H L).2.1=W∧((z1v W H L).2.2.length:Int)=W*H:=by
 rw [zgh W H L hw hh]
 refine ⟨rfl,rfl,?_⟩
 show ((picL H.toNat W.toNat (zj0 L W)).length:Int)=_
 rw [z2u,Int.natCast_mul,Int.toNat_of_nonneg ω2,Int.toNat_of_nonneg ω2]
def zaz:Env:=envOf []
def z17u (args:List Value) (H:zn):(Value→zn→Prop)→Prop:=match args with
 | [.pointer (some ⟨p,0,none⟩)]=>fun K=>zg6 p H fun (xc:Int) (vc:Int) (ta:OA) (xa:Nat) (ua:Nat) (H':zn)=>K (.agg #[.int .i64 xc,.int .i64 vc,.slice ta xa ua]) H'
 | _=>fun _=>False
def z19b:FSpec:={F:=z17u,quiet:=false,tame:=true}
theorem z1dn (p:Nat) (H:zn) (K:KT):zt Tryz.prog zaz Tryz.f126 [.pointer (some ⟨p,0,none⟩)] H K=
 (Al [.int .i64 0,.int .i64 0,.slice none 0 0] H fun b1 H1=>∃x1:Int,  rdC H1 p 0=some (.int .i64 x1)∧∃x2:Int,  rdC H1 p 1=some (.int .i64 x2)∧Al [] H1 fun b2 H2=>Al [.int .i64 0,.int .i64 0,.slice none 0 0] H2 fun b3 H3=>isOwn H3 b3∧(∃l,rdN H3 b3 0 3=some l)∧Lt (setN H3 b3 0 [.int .i64 x2,.int .i64 x1,.slice (some ⟨b2,0,none⟩) 0 1]) fun H4=>z1j (exL Tryz.prog zaz (cl (cl (cr (cl (cr (cr (zo Tryz.f126))))))) 29 4 [(0,12)]) (.pointer (some ⟨p,0,none⟩)::ud::.pointer (some ⟨b1,0,none⟩)::.pointer (some ⟨b3,0,none⟩)::.int .i64 0::ud53 []) H4 (zu 0 (seqQ (exL Tryz.prog zaz (cr (cr (cr (zo Tryz.f126)))) 4 4 []) (retK Tryz.prog Tryz.f126 K)))):=by kernel_rfl
abbrev zds (b1 b3 p:Nat) (i:Int)  :List Value:=(.pointer (some ⟨p,0,none⟩)::ud::.pointer (some ⟨b1,0,none⟩)::.pointer (some ⟨b3,0,none⟩)::.int .i64 i::ud53 [])
theorem z1dm (b1 b3 p:Nat) (i:Int)  (H:zn) (R:Post):exL Tryz.prog zaz (cl (cl (cr (cl (cr (cr (zo Tryz.f126))))))) 29 4 [(0,12)] (zds b1 b3 p i) H R=
 (∃x3:Int,  rdC H p 0=some (.int .i64 x3)∧∃x4:Int,  rdC H p 1=some (.int .i64 x4)∧Br (decide ((i:Int)<IntKind.wrap .i64 (x3*x4))) (∃gj:OA,∃(cj ak:Nat),  rdC H b3 2=some (.slice gj cj ak)∧∃ii:OA,∃(ai ni:Nat),  rdC H p 2=some (.slice ii ai ni)∧∃x7:Int,  rdC H p 1=some (.int .i64 x7)∧x7≠(0:Int)∧∃x8:Int,  rdC H p 0=some (.int .i64 x8)∧∃x9:Int,  rdC H p 1=some (.int .i64 x9)∧x9≠(0:Int)∧(0:Int)≤IntKind.wrap .i64 ((IntKind.wrap .i64 ((Int.tmod i x7)*x8))+(IntKind.wrap .i64 (Int.tdiv i x9)))∧IntKind.wrap .i64 ((IntKind.wrap .i64 ((Int.tmod i x7)*x8))+(IntKind.wrap .i64 (Int.tdiv i x9)))<(ai:Int)∧∃b4 f1,(ii:OA)=some ⟨b4,f1,none⟩∧∃x10:Nat,  rdC H b4 (f1+(IntKind.wrap .i64 ((IntKind.wrap .i64 ((Int.tmod i x7)*x8))+(IntKind.wrap .i64 (Int.tdiv i x9))):Int).toNat*1)=some (.float .f32 x10)∧Al [.float .f32 x10] H fun b5 H5=>∃o1 w1:List Value,ownB H5 gj cj ak 1=some o1∧rdS H5 (some ⟨b5,0,none⟩) (1*1)=some w1∧((gj:OA)=none→0<(1:Nat))∧(cj:Nat)+1<most∧Ap H5 (z2s H5 gj++[some ⟨o1++w1,true⟩]) fun b6 H6=>isOwn H6 b3∧(∃l,rdN H6 b3 2 1=some l)∧Lt (setC H6 b3 2 (.slice (some ⟨b6,0,none⟩) (cj+1) 1)) fun H7=>R .normal (.pointer (some ⟨p,0,none⟩)::ud::.pointer (some ⟨b1,0,none⟩)::.pointer (some ⟨b3,0,none⟩)::.int .i64 (IntKind.wrap .i64 (i+1))::ud53 []) H7) (R (.exit 0) (ud2 (.pointer (some ⟨b1,0,none⟩)::.pointer (some ⟨b3,0,none⟩)::ud54 [])) H)):=by kernel_rfl
def zn3 (b1 b3 p:Nat) (Inv:Nat→Int→zn→Prop):Nat→List Value→zn→Prop:=fun μ tm H=>∃i:Int,tm=(zds b1 b3 p i)∧Inv μ i H
theorem z1dj (b1 b3 p:Nat) {Q:Post} (Inv:Nat→Int→zn→Prop) (ν:Nat) (i:Int)  (H:zn) (h0:Inv ν i H)
  (hs:∀(μ:Nat) (i:Int)  (H:zn),Inv μ i H→exL Tryz.prog zaz (cl (cl (cr (cl (cr (cr (zo Tryz.f126))))))) 29 4 [(0,12)] (zds b1 b3 p i) H (zx (zn3 b1 b3 p Inv) μ Q)):z1j (exL Tryz.prog zaz (cl (cl (cr (cl (cr (cr (zo Tryz.f126))))))) 29 4 [(0,12)]) (zds b1 b3 p i) H Q:=
 ⟨zn3 b1 b3 p Inv,ν,⟨i,rfl,h0⟩,fun μ tm H h=>by obtain ⟨i,rfl,hI⟩:=h;exact hs μ i  H hI⟩
theorem z1dk {b1 b3 p:Nat} {Q:Post} {Inv:Nat→Int→zn→Prop} {μ:Nat} (μ':Nat) {i:Int}  {H:zn} (hm:μ'<μ) (hI:Inv μ' i H):zx (zn3 b1 b3 p Inv) μ Q .normal (zds b1 b3 p i) H:=⟨μ',hm,i,rfl,hI⟩
theorem zwi (b1 b3:Nat) (H:zn) (K:KT)  {I:Nat→List Value→zn→Prop} {μ:Nat}:zx I μ (zu 0 (seqQ (exL Tryz.prog zaz (cr (cr (cr (zo Tryz.f126)))) 4 4 []) (retK Tryz.prog Tryz.f126 K))) (.exit 0) (ud2 (.pointer (some ⟨b1,0,none⟩)::.pointer (some ⟨b3,0,none⟩)::ud54 [])) H=
 (∃(c1 c2:Int),∃dh:OA,∃(fh eh:Nat),  rdN H b3 0 3=some [.int .i64 c1,.int .i64 c2,.slice dh fh eh]∧isOwn H b1∧(∃l,rdN H b1 0 3=some l)∧Lt (setN H b1 0 [.int .i64 c1,.int .i64 c2,.slice dh fh eh]) fun H8=>∃(c4 c5:Int),∃qh:OA,∃(th sh:Nat),  rdN H8 b1 0 3=some [.int .i64 c4,.int .i64 c5,.slice qh th sh]∧K (.agg #[.int .i64 c4,.int .i64 c5,.slice qh th sh]) H8):=by kernel_rfl
theorem ztu:∀g,FnOk Tryz.prog g (zaz g):=FnOk.envOf (by
 intro x hx;cases hx)
theorem zwh (p:Nat) (H:zn) (K:KT) (h:zg6 p H fun (xc:Int) (vc:Int) (ta:OA) (xa:Nat) (ua:Nat) (H':zn)=>K (.agg #[.int .i64 xc,.int .i64 vc,.slice ta xa ua]) H'):zt Tryz.prog zaz Tryz.f126 [.pointer (some ⟨p,0,none⟩)] H K:=by
 rw [z1dn]
 obtain ⟨ga,za,eb,ib,nb,ba,i_p,wb,bd_128,pr0,pr1,pr2,pr3,pr4,hk⟩:=h
 obtain rfl:=wb.eqn
 have zz:=z4u (W:=ga) (H:=za) ω2 ω2 ω2 ω2
 have e:(z1v ga za ba)=_:=rfl
 have e:=e.trans (zli ga za ba)
 have g0:=Grow.refl H
 refine Al.intro (fun b_1 H_1 hb_2 hl_3 g_4 o_5=>?_)
 have l_7:=g_4.1
 have g_8:=g0.trans g_4
 have l_9:=g_8.1
 have w127:=o_5.lt
 refine ⟨ga,(z1g (zq g_8 i_p) 0 (nbl rfl)).trans rfl,?_⟩
 refine ⟨za,(z1g (zq g_8 i_p) 1 (nbl rfl)).trans rfl,?_⟩
 refine Al.intro (fun b_10 H_2 hb_11 hl_12 g_13 o_14=>?_)
 have o_14:Own H_2 b_10 ((([]:LN)).map fF):=o_14
 have l_16:=g_13.1
 have g_17:=g_8.trans g_13
 have l_18:=g_17.1
 have o_19:=o_5.grow g_13
 have w20:=o_19.lt
 have w126:=o_14.lt
 refine Al.intro (fun b_21 H_3 hb_22 hl_23 g24 o25=>?_)
 have l27:=g24.1
 have g28:=g_17.trans g24
 have l29:=g28.1
 have o30:=o_19.grow g24
 have w31:=o30.lt
 have o32:=o_14.grow g24
 have w33:=o32.lt
 have w125:=o25.lt
 refine Lt.setN (n:=3) o25 (nbl rfl) rfl (fun H_4 hl_34 o36 k35=>?_)
 have o36:Own H_4 b_21 [.int .i64 za,.int .i64 ga,.slice (some ⟨b_10,0,none⟩) 0 1]:=o36
 have l37:=k35.1
 have g38:=g28.keep (b:=b_21) ω2 k35
 have l39:=g38.1
 have o40:=o30.keep ω2 k35
 have w41:=o40.lt
 have o42:=o32.keep ω2 k35
 have w43:=o42.lt
 have w124:=o36.lt
 refine z1dj _ _ _ (fun (μ:Nat) (i:Int) (H_5:zn)=>∃(q1_1 q1_2 q1_4 q1_5:Int),∃q1_6:LN,∃b46:Nat,Own H_5 b_1 [.int .i64 q1_1,.int .i64 q1_2,.slice none 0 0]∧Own H_5 b46 (q1_6.map fF)∧Own H_5 b_21 [.int .i64 q1_4,.int .i64 q1_5,.slice (some ⟨b46,0,none⟩) q1_6.length 1]∧(b_21≠b_1)∧(b46≠b_1)∧(b46≠b_21)∧Grow H H_5∧H.length≤b46∧(0:Int)≤i∧((i≤(ga*za)∨i≤(0:Int)))∧(q1_6.length:Int)≤i-(0:Int)+0∧(q1_6.length:Int)≤i∧(ga*za)-i≤(μ:Int)∧z1v ga za ba=z9j ga za ba (μ+1) i q1_1 q1_2 q1_4 q1_5 q1_6) (Int.toNat ((ga*za)-(0:Int))) _ H_4 ?_ ?_
 ·exact ⟨_,_,_,_,_,_,ω18,o42,ω19,ω2,ω2,ω2,g38,ω2,ω7,ω7,ω7,ω7,ω2,e⟩
 ·intro μ i  H_5 hI
  obtain ⟨q1_1,q1_2,q1_4,q1_5,q1_6,b46,o44,o47,o45,n48,n49,n50,g51,l52,v_53,v_54,v_55,v_56,hμ,e⟩:=hI
  rw [z1dm]
  have e:=e.trans (zan ga za ba μ i q1_1 q1_2 q1_4 q1_5 q1_6)
  have zy:=z1fb (W:=ga) (H:=za) (i:=i) ω2 ω2 ω2
  have w57:=o44.lt
  have w58:=o45.lt
  have w59:=o47.lt
  have l60:=g51.1
  refine ⟨ga,(z1g (zq g51 i_p) 0 (nbl rfl)).trans rfl,?_⟩
  refine ⟨za,(z1g (zq g51 i_p) 1 (nbl rfl)).trans rfl,?_⟩
  rw [show IntKind.wrap .i64 (ga*za)=(ga*za) from zp ω2 ω2]
  refine Br.intro (fun c61=>?_) (fun c61=>?_)
  ·have e:=e.trans (zw c61)
   have c_61':=odt c61
   refine ⟨some ⟨b46,0,none⟩,q1_6.length,1,(o45.rdC _).trans rfl,?_⟩
   refine ⟨eb,ba.length,nb,(z1g (zq g51 i_p) 2 (nbl rfl)).trans rfl,?_⟩
   refine ⟨za,(z1g (zq g51 i_p) 1 (nbl rfl)).trans rfl,?_⟩
   refine ⟨ω22,?_⟩
   have z62:=za1 i za
   have z63:=zcb i za
   refine ⟨ga,(z1g (zq g51 i_p) 0 (nbl rfl)).trans rfl,?_⟩
   rw [show IntKind.wrap .i64 ((Int.tmod i za)*ga)=((Int.tmod i za)*ga) from zp ω2 ω2]
   refine ⟨za,(z1g (zq g51 i_p) 1 (nbl rfl)).trans rfl,?_⟩
   have z64:=zca i za
   refine ⟨ω22,?_⟩
   rw [show IntKind.wrap .i64 (Int.tdiv i za)=(Int.tdiv i za) from zp ω2 ω2]
   rw [show IntKind.wrap .i64 ((((Int.tmod i za)*ga))+(Int.tdiv i za))=((((Int.tmod i za)*ga))+(Int.tdiv i za)) from zp ω2 ω2]
   obtain ⟨b65,f66,q67⟩:=((wb.grow g51)).pos ω0
   refine ⟨by omega,by omega,b65,f66,q67,?_⟩
   refine ⟨((ba).getD (((((Int.tmod i za)*ga))+(Int.tdiv i za)):Int).toNat 0),(wb).rd g51 q67 ω2 _,?_⟩
   refine Al.intro (fun b68 H_6 hb_69 hl_70 g71 o72=>?_)
   have o72:Own H_6 b68 (([(((ba).getD (((((Int.tmod i za)*ga))+(Int.tdiv i za)):Int).toNat 0))]).map fF):=o72
   have l74:=g71.1
   have g75:=g51.trans g71
   have l76:=g75.1
   have o77:=o44.grow g71
   have w78:=o77.lt
   have o79:=o45.grow g71
   have w80:=o79.lt
   have o81:=o47.grow g71
   have w82:=o81.lt
   have w112:=o72.lt
   refine ⟨_,_,o81.ownB ω3 rfl,(z2h (o72.isL ω5)),(fun h=>by cases h),ω25,?_⟩
   refine Ap.app o81 rfl rfl (fun b87 H_7 q110 hl_83 o84 k85=>?_)
   have o84:=z2a o84
   have l88:=k85.1
   have g89:=g75.keep (b:=b46) ω2 k85
   have l90:=g89.1
   have o91:=o77.keep ω2 k85
   have w92:=o91.lt
   have o93:=o79.keep ω2 k85
   have w94:=o93.lt
   have o95:=o72.keep ω2 k85
   have w96:=o95.lt
   have w111:=o84.lt
   refine Lt.set o93 (nbl rfl) (fun H_8 hl_97 o99 k98=>?_)
   have o99:Own H_8 b_21 [.int .i64 q1_4,.int .i64 q1_5,.slice (some ⟨b87,0,none⟩) (q1_6.length+1) 1]:=o99
   have l100:=k98.1
   have g101:=g89.keep (b:=b_21) ω2 k98
   have l102:=g101.1
   have o103:=o91.keep ω2 k98
   have w104:=o103.lt
   have o105:=o95.keep ω2 k98
   have w106:=o105.lt
   have o107:=o84.keep ω2 k98
   have w108:=o107.lt
   have w109:=o99.lt
   rw [show IntKind.wrap .i64 (i+1)=(i+1) from zp ω2 ω2]
   refine z1dk (μ-1) ω16 ⟨_,_,_,_,_,_,ω26,o107,ω27,ω2,ω2,ω2,g101,ω2,ω1,ω1,ω1,ω1,ω16,ω13⟩
  ·have e:=e.trans (zv c61)
   have c_61':=odf c61
   rw [zwi]
   refine ⟨q1_4,q1_5,some ⟨b46,0,none⟩,q1_6.length,1,(o45.rdN (nbl rfl)).trans rfl,?_⟩
   refine Lt.setN (n:=3) o44 (nbl rfl) rfl (fun H_9 hl_113 o115 k114=>?_)
   have o115:Own H_9 b_1 [.int .i64 q1_4,.int .i64 q1_5,.slice (some ⟨b46,0,none⟩) q1_6.length 1]:=o115
   have l116:=k114.1
   have g117:=g51.keep (b:=b_1) ω2 k114
   have l118:=g117.1
   have o119:=o45.keep ω2 k114
   have w120:=o119.lt
   have o121:=o47.keep ω2 k114
   have w122:=o121.lt
   have w123:=o115.lt
   refine ⟨q1_4,q1_5,some ⟨b46,0,none⟩,q1_6.length,1,(o115.rdN (nbl rfl)).trans rfl,?_⟩
   rw [e] at hk
   exact hk _ _ _ H_9 g117 (o121.ownS ω5 ω2)
theorem z1dl:FnOk Tryz.prog 126 z19b:=FnOk.bodyF mix_ok ztu Tryz.func126 rfl ω9 ω9 fun args H=>by
 unfold z17u
 split
 ·refine ⟨?_,?_,?_,?_,fun K hk=>zwh _ H K hk⟩
  ·intro K K' h hk;obtain ⟨ga,za,eb,ib,nb,ba,i_p,wb,bd_128,pr0,pr1,pr2,pr3,pr4,k⟩:=hk;exact ⟨ga,za,eb,ib,nb,ba,i_p,wb,bd_128,pr0,pr1,pr2,pr3,pr4,(fun ta xa ua H' gg ow0=>h _ _ (k ta xa ua H' gg ow0))⟩
  ·nofun
  ·intro K hk;obtain ⟨ga,za,eb,ib,nb,ba,i_p,wb,bd_128,pr0,pr1,pr2,pr3,pr4,k⟩:=hk;exact z5q fun a n e H1 g o=>⟨_,_,k a n e H1 g o⟩
  ·intro _ K hk;obtain ⟨ga,za,eb,ib,nb,ba,i_p,wb,bd_128,pr0,pr1,pr2,pr3,pr4,k⟩:=hk;exact ⟨ga,za,eb,ib,nb,ba,i_p,wb,bd_128,pr0,pr1,pr2,pr3,pr4,(fun ta xa ua H' gg ow0=>⟨gg,k ta xa ua H' gg ow0⟩)⟩
 ·exact Nice.no

def za4 (ab:LN) (i:Int):Nat:=((ab).getD ((if ((if (i:Int)<((ab.length:Int)-1) then i else ((ab.length:Int)-1)):Int) > 0 then (if (i:Int)<((ab.length:Int)-1) then i else ((ab.length:Int)-1)) else 0):Int).toNat 0)
def zd2:=@za4.eq_1
def zqd (tb:OA) (qb bc:Nat) (i:Int) (H:zn) (K:Nat→zn→Prop):Prop:=∃ab:LN,IsL fF H tb qb ab∧ab.length<1073741824∧1≤ab.length∧K (za4 ab i) H
theorem zmn {tb:OA} {qb bc:Nat} {i:Int} {H:zn} {K:Nat→zn→Prop} (h:∃ab:LN,IsL fF H tb qb ab∧ab.length<1073741824∧1≤ab.length∧K (za4 ab i) H):zqd tb qb bc i H K:=h

def E_fxz:Env:=envOf []
def F_fxz (args:List Value) (H:zn):(Value→zn→Prop)→Prop:=match args with
 | [.slice tb qb bc,.int .i64 i]=>fun K=>zqd tb qb bc i H fun (r1:Nat) (H':zn)=>K (.float .f32 r1) H'
 | _=>fun _=>False
def S_fxz:FSpec:={F:=F_fxz,quiet:=true,tame:=false}
theorem z1jy (tb:OA) (qb bc:Nat) (i:Int) (H:zn) (K:KT):zt Tryz.prog E_fxz Tryz.f180 [.slice tb qb bc,.int .i64 i] H K=
 ((0:Int)≤(if ((if (i:Int)<IntKind.wrap .i64 ((qb:Int)-1) then i else IntKind.wrap .i64 ((qb:Int)-1)):Int) > 0 then (if (i:Int)<IntKind.wrap .i64 ((qb:Int)-1) then i else IntKind.wrap .i64 ((qb:Int)-1)) else 0)∧(if ((if (i:Int)<IntKind.wrap .i64 ((qb:Int)-1) then i else IntKind.wrap .i64 ((qb:Int)-1)):Int) > 0 then (if (i:Int)<IntKind.wrap .i64 ((qb:Int)-1) then i else IntKind.wrap .i64 ((qb:Int)-1)) else 0)<(qb:Int)∧∃b1 f1,(tb:OA)=some ⟨b1,f1,none⟩∧∃x1:Nat,  rdC H b1 (f1+((if ((if (i:Int)<IntKind.wrap .i64 ((qb:Int)-1) then i else IntKind.wrap .i64 ((qb:Int)-1)):Int) > 0 then (if (i:Int)<IntKind.wrap .i64 ((qb:Int)-1) then i else IntKind.wrap .i64 ((qb:Int)-1)) else 0):Int).toNat*1)=some (.float .f32 x1)∧K (.float .f32 x1) H):=by kernel_rfl
theorem z10m:∀g,FnOk Tryz.prog g (E_fxz g):=FnOk.envOf (by
 intro x hx;cases hx)
theorem z14u (tb:OA) (qb bc:Nat) (i:Int) (H:zn) (K:KT) (h:zqd tb qb bc i H fun (r1:Nat) (H':zn)=>K (.float .f32 r1) H'):zt Tryz.prog E_fxz Tryz.f180 [.slice tb qb bc,.int .i64 i] H K:=by
 rw [z1jy]
 obtain ⟨ab,i_list,bd_4,pr0,hk⟩:=h
 obtain rfl:=i_list.eqn
 have e:(za4 ab i)=_:=rfl
 have e:=e.trans (zd2 ab i)
 have g0:=Grow.refl H
 rw [show IntKind.wrap .i64 ((ab.length:Int)-1)=((ab.length:Int)-1) from zp ω2 ω2]
 obtain ⟨b_1,f_2,q_3⟩:=((i_list.grow g0)).pos ω0
 refine ⟨by omega,by omega,b_1,f_2,q_3,?_⟩
 refine ⟨((ab).getD ((if ((if (i:Int)<((ab.length:Int)-1) then i else ((ab.length:Int)-1)):Int) > 0 then (if (i:Int)<((ab.length:Int)-1) then i else ((ab.length:Int)-1)) else 0):Int).toNat 0),(i_list).rd g0 q_3 ω2 _,?_⟩
 rw [e] at hk
 exact hk
theorem z1jx:FnOk Tryz.prog 180 S_fxz:=FnOk.bodyF mix_ok z10m Tryz.func180 rfl ω9 ω9 fun args H=>by
 unfold F_fxz
 split
 ·refine ⟨?_,?_,?_,?_,fun K hk=>z14u _ _ _ _ H K hk⟩
  ·intro K K' h hk;obtain ⟨ab,i_list,bd_4,pr0,k⟩:=hk;exact ⟨ab,i_list,bd_4,pr0,h _ _ k⟩
  ·intro _ K hk;obtain ⟨ab,i_list,bd_4,pr0,k⟩:=hk;exact ⟨_,k,fun K' k'=>⟨ab,i_list,bd_4,pr0,k'⟩⟩
  ·intro K hk;obtain ⟨ab,i_list,bd_4,pr0,k⟩:=hk;exact ⟨_,_,k⟩
  ·nofun
 ·exact Nice.no
def z6p (k:Int) (w:Nat) (low high:LN):LN:=bif Int.tmod k 2==0 then high.mapIdx (fun i x=>fadd .f32 x (fmul .f32 w (fadd .f32 (low.getD i 0) (za4 low ((i:Int)+1))))) else high
def zav (k:Int) (w:Nat) (low high:LN):LN:=bif Int.tmod k 2==0 then low else low.mapIdx (fun i x=>fadd .f32 x (fmul .f32 w (fadd .f32 (za4 high ((i:Int)-1)) (za4 high (i:Int)))))
@[simp] theorem z2w (k:Int) (w:Nat) (low high:LN):(z6p k w low high).length=high.length:=by
 unfold z6p;cases (Int.tmod k 2==0)<;>simp
@[simp] theorem z4h (k:Int) (w:Nat) (low high:LN):(zav k w low high).length=low.length:=by
 unfold zav;cases (Int.tmod k 2==0)<;>simp
def z9g (je uc:LN) (k:Int) (w:Nat):Nat→Int→LN→LN×LN
 | 0,_,_=>([],[])
 | μ+1,i,y1_1=>(bif decide ((i:Int)<(uc.length:Int)) then (z9g je uc k w μ (i+1) (((y1_1).set (i:Int).toNat ((fadd .f32 (((y1_1).getD (i:Int).toNat 0)) (fmul .f32 w (fadd .f32 (((je).getD (i:Int).toNat 0)) ((za4 je (i+1)))))))))) else (je,y1_1))
def zel:=fun je uc k w μ i y1_1=>@z9g.eq_2 je uc k w i y1_1 μ
def z9h (je uc:LN) (k:Int) (w:Nat):Nat→Int→LN→LN×LN
 | 0,_,_=>([],[])
 | μ+1,i9,y2_1=>(bif decide ((i9:Int)<(je.length:Int)) then (z9h je uc k w μ (i9+1) (((y2_1).set (i9:Int).toNat ((fadd .f32 (((y2_1).getD (i9:Int).toNat 0)) (fmul .f32 w (fadd .f32 ((za4 uc (i9-1))) (za4 uc i9)))))))) else (y2_1,uc))
def zem:=fun je uc k w μ i9 y2_1=>@z9h.eq_2 je uc k w i9 y2_1 μ
def zek (je uc:LN) (k:Int) (w:Nat):LN×LN:=((bif (Int.tmod k 2:Int)==0 then (z9g je uc k w (Int.toNat ((uc.length:Int)-(0:Int))+1) (0:Int) uc) else (z9h je uc k w (Int.toNat ((je.length:Int)-(0:Int))+1) (0:Int) je)))
def zld:=@zek.eq_1
def zjc (jc:OA) (tc zc:Nat) (vb:OA) (xb ac:Nat) (k:Int) (w:Nat) (H:zn) (K:zn→Prop):Prop:=∃(lo lob:Nat),∃(je uc:LN),OwnS fF H lo jc tc zc je∧OwnS fF H lob vb xb ac uc∧SepA jc vb∧je.length<1073741824∧uc.length<1073741824∧uc.length≤je.length∧1≤uc.length∧((∀H':zn,z2x jc vb H H'→OwnS fF H' lo jc tc zc (zav k w je uc)→OwnS fF H' lob vb xb ac (z6p k w je uc)→K  H'))
theorem zoc {jc:OA} {tc zc:Nat} {vb:OA} {xb ac:Nat} {k:Int} {w:Nat} {H:zn} {K:zn→Prop} (h:∃(lo lob:Nat),∃(je uc:LN),OwnS fF H lo jc tc zc je∧OwnS fF H lob vb xb ac uc∧SepA jc vb∧je.length<1073741824∧uc.length<1073741824∧uc.length≤je.length∧1≤uc.length∧((∀H':zn,z2x jc vb H H'→OwnS fF H' lo jc tc zc (zav k w je uc)→OwnS fF H' lob vb xb ac (z6p k w je uc)→K  H'))):zjc jc tc zc vb xb ac k w H K:=h
theorem z7m (W ys:LN) (i:Nat) (hi:i<ys.length) (hl:W.length=ys.length):(W.take i++ys.drop i).getD i 0=ys.getD i 0:=by
 rw [List.getD_eq_getElem?_getD,List.getD_eq_getElem?_getD,List.getElem?_append_right (by simp;omega)]
 have:(W.take i).length=i:=by simp;omega
 rw [this,Nat.sub_self,List.getElem?_drop,Nat.add_zero]
theorem z12t (low high:LN) (k:Int) (w:Nat) (W:LN) (hW:W=high.mapIdx (fun i x=>fadd .f32 x (fmul .f32 w (fadd .f32 (low.getD i 0) (za4 low ((i:Int)+1)))))):
  ∀(μ i:Nat),i≤high.length→high.length-i<μ→z9g low high k w μ (i:Int) (W.take i++high.drop i)=(low,W):=by
 have hl:W.length=high.length:=by rw [hW];simp
 intro μ
 induction μ with
 | zero=>intro i _ h;omega
 | succ μ ih=>
  intro i hi hm
  rw [zel]
  by_cases h:i<high.length
  ·rw [dct (show (i:Int)<(high.length:Int) by omega),cond_true,Int.toNat_natCast]
   have:=ih (i+1) ω2 ω2
   rw [←this,z3m W high i h hl]
   ·rfl
   ·rw [z7m W high i h hl,hW]
    simp [List.getD_eq_getElem?_getD,h]
  ·have e:i=high.length:=by omega
   rw [dcf (show ¬(i:Int)<(high.length:Int) by omega),cond_false,e]
   simp [←hl]
theorem z12u (low high:LN) (k:Int) (w:Nat) (W:LN) (hW:W=low.mapIdx (fun i x=>fadd .f32 x (fmul .f32 w (fadd .f32 (za4 high ((i:Int)-1)) (za4 high (i:Int)))))):
  ∀(μ i:Nat),i≤low.length→low.length-i<μ→z9h low high k w μ (i:Int) (W.take i++low.drop i)=(W,high):=by
 have hl:W.length=low.length:=by rw [hW];simp
 intro μ
 induction μ with
 | zero=>intro i _ h;omega
 | succ μ ih=>
  intro i hi hm
  rw [zem]
  by_cases h:i<low.length
  ·rw [dct (show (i:Int)<(low.length:Int) by omega),cond_true,Int.toNat_natCast]
   have:=ih (i+1) ω2 ω2
   rw [←this,z3m W low i h hl]
   ·rfl
   ·rw [z7m W low i h hl,hW]
    simp [List.getD_eq_getElem?_getD,h]
  ·have e:i=low.length:=by omega
   rw [dcf (show ¬(i:Int)<(low.length:Int) by omega),cond_false,e]
   simp [←hl]
theorem z12v (low high:LN) (k:Int) (w:Nat):zek low high k w=(zav k w low high,z6p k w low high):=by
 rw [zld]
 unfold zav z6p
 cases h:(Int.tmod k 2==0)
 ·rw [cond_false,cond_false,cond_false]
  have:=z12u low high k w _ rfl (Int.toNat ((low.length:Int)-0)+1) 0 ω2 ω2
  simpa using this
 ·rw [cond_true,cond_true,cond_true]
  have:=z12t low high k w _ rfl (Int.toNat ((high.length:Int)-0)+1) 0 ω2 ω2
  simpa using this
def z6f:Env:=envOf [(180,S_fxz)]
def z17k (args:List Value) (H:zn):(Value→zn→Prop)→Prop:=match args with
 | [.slice jc tc zc,.slice vb xb ac,.int .i64 k,.float .f32 w]=>fun K=>zjc jc tc zc vb xb ac k w H fun  (H':zn)=>K (.tuple #[]) H'
 | _=>fun _=>False
def zur:FSpec:={F:=z17k,quiet:=false,tame:=false}
theorem z1co (jc:OA) (tc zc:Nat) (vb:OA) (xb ac:Nat) (k:Int) (w:Nat) (H:zn) (K:KT):zt Tryz.prog z6f Tryz.f175 [.slice jc tc zc,.slice vb xb ac,.int .i64 k,.float .f32 w] H K=
 (2≠(0:Int)∧Br ((Int.tmod k 2:Int)==0) (z1j (exL Tryz.prog z6f (cl (cl (cr (cl (cl (cr (cl (zo Tryz.f175)))))))) 267 0 [(0,0)]) (.slice jc tc zc::.slice vb xb ac::ud::.float .f32 w::ud4 (.int .i64 0::ud53 [])) H (zu 0 (seqQ (exL Tryz.prog z6f (cr (cl (cr (cl (zo Tryz.f175))))) 11 0 []) (seqQ (exL Tryz.prog z6f (cr (zo Tryz.f175)) 0 0 []) (retK Tryz.prog Tryz.f175 K))))) (z1j (exL Tryz.prog z6f (cl (cl (cr (cr (zo Tryz.f175))))) 523 0 [(2,0)]) (.slice jc tc zc::.slice vb xb ac::ud::.float .f32 w::ud5 (.int .i64 0::ud52 [])) H (zu 2 (retK Tryz.prog Tryz.f175 K)))):=by kernel_rfl
abbrev zdl (vb:OA) (ac xb:Nat) (jc:OA) (zc tc w:Nat) (i:Int)  :List Value:=(.slice jc tc zc::.slice vb xb ac::ud::.float .f32 w::ud4 (.int .i64 i::ud53 []))
theorem z1cm (vb:OA) (ac xb:Nat) (jc:OA) (zc tc w:Nat) (i:Int)  (H:zn) (R:Post):exL Tryz.prog z6f (cl (cl (cr (cl (cl (cr (cl (zo Tryz.f175)))))))) 267 0 [(0,0)] (zdl vb ac xb jc zc tc w i) H R=
 (Br (decide ((i:Int)<(xb:Int))) ((0:Int)≤i∧i<(xb:Int)∧∃b1 f1,(vb:OA)=some ⟨b1,f1,none⟩∧∃x1:Nat,  rdC H b1 (f1+(i:Int).toNat*1)=some (.float .f32 x1)∧(0:Int)≤i∧i<(tc:Int)∧∃b2 f2,(jc:OA)=some ⟨b2,f2,none⟩∧∃x2:Nat,  rdC H b2 (f2+(i:Int).toNat*1)=some (.float .f32 x2)∧zqd jc tc zc (IntKind.wrap .i64 (i+1)) H fun (r1:Nat) (H1:zn)=>(0:Int)≤i∧i<(xb:Int)∧∃b3 f3,(vb:OA)=some ⟨b3,f3,none⟩∧isOwn H1 b3∧(∃l,rdN H1 b3 (f3+(i:Int).toNat*1) 1=some l)∧Lt (setC H1 b3 (f3+(i:Int).toNat*1) (.float .f32 (fadd .f32 x1 (fmul .f32 w (fadd .f32 x2 r1))))) fun H2=>R .normal (.slice jc tc zc::.slice vb xb ac::ud::.float .f32 w::ud4 (.int .i64 (IntKind.wrap .i64 (i+1))::ud53 [])) H2) (R (.exit 0) (ud62 []) H)):=by kernel_rfl
def zmu (vb:OA) (ac xb:Nat) (jc:OA) (zc tc w:Nat) (Inv:Nat→Int→zn→Prop):Nat→List Value→zn→Prop:=fun μ tm H=>∃i:Int,tm=(zdl vb ac xb jc zc tc w i)∧Inv μ i H
theorem z1ci (vb:OA) (ac xb:Nat) (jc:OA) (zc tc w:Nat) {Q:Post} (Inv:Nat→Int→zn→Prop) (ν:Nat) (i:Int)  (H:zn) (h0:Inv ν i H)
  (hs:∀(μ:Nat) (i:Int)  (H:zn),Inv μ i H→exL Tryz.prog z6f (cl (cl (cr (cl (cl (cr (cl (zo Tryz.f175)))))))) 267 0 [(0,0)] (zdl vb ac xb jc zc tc w i) H (zx (zmu vb ac xb jc zc tc w Inv) μ Q)):z1j (exL Tryz.prog z6f (cl (cl (cr (cl (cl (cr (cl (zo Tryz.f175)))))))) 267 0 [(0,0)]) (zdl vb ac xb jc zc tc w i) H Q:=
 ⟨zmu vb ac xb jc zc tc w Inv,ν,⟨i,rfl,h0⟩,fun μ tm H h=>by obtain ⟨i,rfl,hI⟩:=h;exact hs μ i  H hI⟩
theorem z1ck {vb:OA} {ac xb:Nat} {jc:OA} {zc tc w:Nat} {Q:Post} {Inv:Nat→Int→zn→Prop} {μ:Nat} (μ':Nat) {i:Int}  {H:zn} (hm:μ'<μ) (hI:Inv μ' i H):zx (zmu vb ac xb jc zc tc w Inv) μ Q .normal (zdl vb ac xb jc zc tc w i) H:=⟨μ',hm,i,rfl,hI⟩
theorem zw1  (H:zn) (K:KT)  {I:Nat→List Value→zn→Prop} {μ:Nat}:zx I μ (zu 0 (seqQ (exL Tryz.prog z6f (cr (cl (cr (cl (zo Tryz.f175))))) 11 0 []) (seqQ (exL Tryz.prog z6f (cr (zo Tryz.f175)) 0 0 []) (retK Tryz.prog Tryz.f175 K)))) (.exit 0) (ud62 []) H=
 (K (.tuple #[]) H):=by kernel_rfl
abbrev zdm (vb:OA) (ac xb:Nat) (jc:OA) (zc tc w:Nat) (i9:Int)  :List Value:=(.slice jc tc zc::.slice vb xb ac::ud::.float .f32 w::ud5 (.int .i64 i9::ud52 []))
theorem z1cn (vb:OA) (ac xb:Nat) (jc:OA) (zc tc w:Nat) (i9:Int)  (H:zn) (R:Post):exL Tryz.prog z6f (cl (cl (cr (cr (zo Tryz.f175))))) 523 0 [(2,0)] (zdm vb ac xb jc zc tc w i9) H R=
 (Br (decide ((i9:Int)<(tc:Int))) ((0:Int)≤i9∧i9<(tc:Int)∧∃b4 f4,(jc:OA)=some ⟨b4,f4,none⟩∧∃x3:Nat,  rdC H b4 (f4+(i9:Int).toNat*1)=some (.float .f32 x3)∧zqd vb xb ac (IntKind.wrap .i64 (i9-1)) H fun (r2:Nat) (H3:zn)=>zqd vb xb ac i9 H3 fun (r3:Nat) (H4:zn)=>(0:Int)≤i9∧i9<(tc:Int)∧∃b5 f5,(jc:OA)=some ⟨b5,f5,none⟩∧isOwn H4 b5∧(∃l,rdN H4 b5 (f5+(i9:Int).toNat*1) 1=some l)∧Lt (setC H4 b5 (f5+(i9:Int).toNat*1) (.float .f32 (fadd .f32 x3 (fmul .f32 w (fadd .f32 r2 r3))))) fun H5=>R .normal (.slice jc tc zc::.slice vb xb ac::ud::.float .f32 w::ud5 (.int .i64 (IntKind.wrap .i64 (i9+1))::ud52 [])) H5) (R (.exit 2) (ud62 []) H)):=by kernel_rfl
def zmv (vb:OA) (ac xb:Nat) (jc:OA) (zc tc w:Nat) (Inv:Nat→Int→zn→Prop):Nat→List Value→zn→Prop:=fun μ tm H=>∃i9:Int,tm=(zdm vb ac xb jc zc tc w i9)∧Inv μ i9 H
theorem z1cj (vb:OA) (ac xb:Nat) (jc:OA) (zc tc w:Nat) {Q:Post} (Inv:Nat→Int→zn→Prop) (ν:Nat) (i9:Int)  (H:zn) (h0:Inv ν i9 H)
  (hs:∀(μ:Nat) (i9:Int)  (H:zn),Inv μ i9 H→exL Tryz.prog z6f (cl (cl (cr (cr (zo Tryz.f175))))) 523 0 [(2,0)] (zdm vb ac xb jc zc tc w i9) H (zx (zmv vb ac xb jc zc tc w Inv) μ Q)):z1j (exL Tryz.prog z6f (cl (cl (cr (cr (zo Tryz.f175))))) 523 0 [(2,0)]) (zdm vb ac xb jc zc tc w i9) H Q:=
 ⟨zmv vb ac xb jc zc tc w Inv,ν,⟨i9,rfl,h0⟩,fun μ tm H h=>by obtain ⟨i9,rfl,hI⟩:=h;exact hs μ i9  H hI⟩
theorem z1cl {vb:OA} {ac xb:Nat} {jc:OA} {zc tc w:Nat} {Q:Post} {Inv:Nat→Int→zn→Prop} {μ:Nat} (μ':Nat) {i9:Int}  {H:zn} (hm:μ'<μ) (hI:Inv μ' i9 H):zx (zmv vb ac xb jc zc tc w Inv) μ Q .normal (zdm vb ac xb jc zc tc w i9) H:=⟨μ',hm,i9,rfl,hI⟩
theorem zw2  (H:zn) (K:KT)  {I:Nat→List Value→zn→Prop} {μ:Nat}:zx I μ (zu 2 (retK Tryz.prog Tryz.f175 K)) (.exit 2) (ud62 []) H=
 (K (.tuple #[]) H):=by kernel_rfl
theorem ztg:∀g,FnOk Tryz.prog g (z6f g):=FnOk.envOf (by
 intro x hx
 simp only [List.mem_cons,List.not_mem_nil,or_false] at hx
 subst hx;exact z1jx)
theorem ω10 {P:Prop} (h:P:=by first | assumption | omega | (simp;omega)):P:=h
theorem ω8 {P:Prop} (h:P:=by first | omega | (simp only [List.length_set];(first | omega | (simp only [List.length_set,List.length_replicate,List.length_append,List.length_cons,List.length_nil,List.length_take,List.length_drop,z4g];done) | (simp only [List.length_set,List.length_replicate,List.length_append,List.length_cons,List.length_nil,List.length_take,List.length_drop,z4g];omega)))):P:=h
theorem zvz (jc:OA) (tc zc:Nat) (vb:OA) (xb ac:Nat) (k:Int) (w:Nat) (H:zn) (K:KT) (h:zjc jc tc zc vb xb ac k w H fun  (H':zn)=>K (.tuple #[]) H'):zt Tryz.prog z6f Tryz.f175 [.slice jc tc zc,.slice vb xb ac,.int .i64 k,.float .f32 w] H K:=by
 rw [z1co]
 obtain ⟨lo,lob,je,uc,i_low,i_high,sp_m,bd_53,bd_54,pr0,pr1,hk⟩:=h
 have hk:(∀H':zn,z2x jc vb H H'→OwnS fF H' lo jc tc zc ((zek je uc k w).1)→OwnS fF H' lob vb xb ac ((zek je uc k w).2)→(fun  (H':zn)=>K (.tuple #[]) H')  H'):=by rw [z12v je uc k w];exact hk
 obtain rfl:=i_low.len
 obtain rfl:=i_high.len
 have up_p:=i_low.up
 have lo_p:=i_low.lo
 have up_q:=i_high.up
 have lo_q:=i_high.lo
 have e:(zek je uc k w)=_:=rfl
 have e:=e.trans (zld je uc k w)
 have g0:=z2x.refl jc vb H
 refine ⟨ω22,?_⟩
 have z_1:=za1 k 2
 have z_2:=zcb k 2
 refine Br.intro (fun c_3=>?_) (fun c_3=>?_)
 ·have e:=e.trans (zw c_3)
  have c_3':=zbc c_3
  refine z1ci _ _ _ _ _ _ _ (fun (μ:Nat) (i:Int) (H_1:zn)=>∃y1_1:LN,OwnS fF H_1 lo jc je.length zc je∧OwnS fF H_1 lob vb uc.length ac y1_1∧y1_1.length=(uc).length∧H.length≤H_1.length∧H.length≤H_1.length∧z2x jc vb H H_1∧(0:Int)≤i∧i≤(uc.length:Int)∧(uc.length:Int)-i≤(μ:Int)∧zek je uc k w=z9g je uc k w (μ+1) i y1_1) (Int.toNat ((uc.length:Int)-(0:Int))) _ H ?_ ?_
  ·exact ⟨_,i_low,i_high,ω17,ω2,ω2,g0,ω7,ω7,ω2,e⟩
  ·intro μ i  H_1 hI
   obtain ⟨y1_1,r_4,r_5,y6,n_7,n8,g_9,v_10,v_11,hμ,e⟩:=hI
   rw [z1cm]
   have e:=e.trans (zel je uc k w μ i y1_1)
   have l_12:=g_9.1
   refine Br.intro (fun c_13=>?_) (fun c_13=>?_)
   ·have e:=e.trans (zw c_13)
    have c_13':=odt c_13
    obtain ⟨b_14,f_15,q16⟩:=(r_5.isL).pos ω0
    refine ⟨by omega,by omega,b_14,f_15,q16,?_⟩
    refine ⟨((y1_1).getD (i:Int).toNat 0),(r_5.isL).rd (Grow.refl _) q16 ω2 _,?_⟩
    obtain ⟨b_17,f18,q19⟩:=(r_4.isL).pos ω0
    refine ⟨by omega,by omega,b_17,f18,q19,?_⟩
    refine ⟨((je).getD (i:Int).toNat 0),(r_4.isL).rd (Grow.refl _) q19 ω2 _,?_⟩
    rw [show IntKind.wrap .i64 (i+1)=(i+1) from zp ω2 ω2]
    refine zmn ⟨_,r_4.isL,ω0,ω10,?_⟩
    obtain ⟨b20,f_21,q_22⟩:=(r_5.isL).pos ω0
    refine ⟨by omega,by omega,b20,f_21,q_22,?_⟩
    refine Lt.setS r_5 q_22 ω8 (fun H_2 hl_23 o25 k24=>?_)
    have l26:=k24.1
    have g27:=g_9.transB k24
    have l28:=g27.1
    have r_29:=r_4.keepA (sp_m).symm k24
    refine z1ck (μ-1) ω16 ⟨_,r_29,o25,ω23,ω2,ω2,ω2,ω1,ω1,ω16,ω13⟩
   ·have e:=e.trans (zv c_13)
    have c_13':=odf c_13
    rw [zw1]
    rw [e] at hk
    exact hk H_1 g_9 r_4 r_5
 ·have e:=e.trans (zv c_3)
  have c_3':=zbb c_3
  refine z1cj _ _ _ _ _ _ _ (fun (μ:Nat) (i9:Int) (H_3:zn)=>∃y2_1:LN,OwnS fF H_3 lo jc je.length zc y2_1∧y2_1.length=(je).length∧OwnS fF H_3 lob vb uc.length ac uc∧H.length≤H_3.length∧H.length≤H_3.length∧z2x jc vb H H_3∧(0:Int)≤i9∧i9≤(je.length:Int)∧(je.length:Int)-i9≤(μ:Int)∧zek je uc k w=z9h je uc k w (μ+1) i9 y2_1) (Int.toNat ((je.length:Int)-(0:Int))) _ H ?_ ?_
  ·exact ⟨_,i_low,ω17,i_high,ω2,ω2,g0,ω7,ω7,ω2,e⟩
  ·intro μ i9  H_3 hI
   obtain ⟨y2_1,r30,y31,r32,n33,n34,g35,v_36,v_37,hμ,e⟩:=hI
   rw [z1cn]
   have e:=e.trans (zem je uc k w μ i9 y2_1)
   have l38:=g35.1
   refine Br.intro (fun c39=>?_) (fun c39=>?_)
   ·have e:=e.trans (zw c39)
    have c_39':=odt c39
    obtain ⟨b40,f_41,q42⟩:=(r30.isL).pos ω0
    refine ⟨by omega,by omega,b40,f_41,q42,?_⟩
    refine ⟨((y2_1).getD (i9:Int).toNat 0),(r30.isL).rd (Grow.refl _) q42 ω2 _,?_⟩
    rw [show IntKind.wrap .i64 (i9-1)=(i9-1) from zp ω2 ω2]
    refine zmn ⟨_,r32.isL,ω0,ω10,?_⟩
    refine zmn ⟨_,r32.isL,ω0,ω10,?_⟩
    obtain ⟨b43,f_44,q45⟩:=(r30.isL).pos ω0
    refine ⟨by omega,by omega,b43,f_44,q45,?_⟩
    refine Lt.setS r30 q45 ω8 (fun H_4 hl_46 o48 k47=>?_)
    have l49:=k47.1
    have g50:=g35.transA k47
    have l51:=g50.1
    have r52:=r32.keepA (sp_m) k47
    rw [show IntKind.wrap .i64 (i9+1)=(i9+1) from zp ω2 ω2]
    refine z1cl (μ-1) ω16 ⟨_,o48,ω23,r52,ω2,ω2,ω2,ω1,ω1,ω16,ω13⟩
   ·have e:=e.trans (zv c39)
    have c_39':=odf c39
    rw [zw2]
    rw [e] at hk
    exact hk H_3 g35 r30 r32
theorem zw0:FnOk Tryz.prog 175 zur:=FnOk.bodyF mix_ok ztg Tryz.func175 rfl ω9 ω9 fun args H=>by
 unfold z17k
 split
 ·refine ⟨?_,?_,?_,?_,fun K hk=>zvz _ _ _ _ _ _ _ _ H K hk⟩
  ·intro K K' h hk;obtain ⟨lo,lob,je,uc,i_low,i_high,sp_m,bd_53,bd_54,pr0,pr1,k⟩:=hk;exact ⟨lo,lob,je,uc,i_low,i_high,sp_m,bd_53,bd_54,pr0,pr1,(fun H' gg ow ow2=>h _ _ (k H' gg ow ow2))⟩
  ·nofun
  ·intro K hk;obtain ⟨lo,lob,je,uc,i_low,i_high,sp_m,bd_53,bd_54,pr0,pr1,k⟩:=hk;exact (i_low.put2 i_high sp_m _ _ (by rw [z4h]) (by rw [z2w])).elim fun H1 h=>⟨_,_,k H1 h.1 h.2.1 h.2.2⟩
  ·nofun
 ·exact Nice.no

def z5v (ab:LN):LN×Bool:=(bif !(z3e ab) then ([],false) else (ab,true))
def zbj:=@z5v.eq_1
def zof (tb:OA) (qb bc:Nat) (H:zn) (K:OA→Nat→Nat→Bool→zn→Prop):Prop:=∃ab:LN,IsL fF H tb qb ab∧ab.length<1073741824∧((∀H':zn,Grow H H'→Br ((z5v ab).2) (K tb qb bc true H') (K none 0 0 false H')))
theorem zog {tb:OA} {qb bc:Nat} {H:zn} {K:OA→Nat→Nat→Bool→zn→Prop} (h:∃ab:LN,IsL fF H tb qb ab∧ab.length<1073741824∧((∀H':zn,Grow H H'→Br ((z5v ab).2) (K tb qb bc true H') (K none 0 0 false H')))):zof tb qb bc H K:=h

def ztm:Env:=envOf [(124,zuy)]
def z17o (args:List Value) (H:zn):(Value→zn→Prop)→Prop:=match args with
 | [.slice tb qb bc]=>fun K=>zof tb qb bc H fun (jd:OA) (pd:Nat) (od:Nat) (r2:Bool) (H':zn)=>K (.tuple #[.slice jd pd od,.bool r2]) H'
 | _=>fun _=>False
def z18v:FSpec:={F:=z17o,quiet:=false,tame:=true}
theorem z1cx (tb:OA) (qb bc:Nat) (H:zn) (K:KT):zt Tryz.prog ztm Tryz.f176 [.slice tb qb bc] H K=
 (zjj tb qb bc H fun (r1:Bool) (H1:zn)=>Br (!r1) (K (.tuple #[.slice none 0 0,.bool false]) H1) (K (.tuple #[.slice tb qb bc,.bool true]) H1)):=by kernel_rfl
theorem ztn:∀g,FnOk Tryz.prog g (ztm g):=FnOk.envOf (by
 intro x hx
 simp only [List.mem_cons,List.not_mem_nil,or_false] at hx
 subst hx;exact zp8)
theorem zw6 (tb:OA) (qb bc:Nat) (H:zn) (K:KT) (h:zof tb qb bc H fun (jd:OA) (pd:Nat) (od:Nat) (r2:Bool) (H':zn)=>K (.tuple #[.slice jd pd od,.bool r2]) H'):zt Tryz.prog ztm Tryz.f176 [.slice tb qb bc] H K:=by
 rw [z1cx]
 obtain ⟨ab,i_list,bd_2,hk⟩:=h
 obtain rfl:=i_list.eqn
 have e:(z5v ab)=_:=rfl
 have e:=e.trans (zbj ab)
 have g0:=Grow.refl H
 refine zdf ⟨_,(i_list.grow g0),ω0,?_⟩
 refine Br.intro (fun c_1=>?_) (fun c_1=>?_)
 ·have e:=e.trans (zw c_1)
  have c_1n:=z1e c_1
  have q:=hk H g0
  rw [e] at q
  exact q
 ·have e:=e.trans (zv c_1)
  have c_1n:=z1a c_1
  have q:=hk H g0
  rw [e] at q
  exact q
theorem z1cw:FnOk Tryz.prog 176 z18v:=FnOk.bodyF mix_ok ztn Tryz.func176 rfl ω9 ω9 fun args H=>by
 unfold z17o
 split
 ·refine ⟨?_,?_,?_,?_,fun K hk=>zw6 _ _ _ H K hk⟩
  ·intro K K' h hk;obtain ⟨ab,i_list,bd_2,k⟩:=hk;exact ⟨ab,i_list,bd_2,(fun H' gg=>zhn (h _ _) (h _ _) (k H' gg))⟩
  ·nofun
  ·intro K hk;obtain ⟨ab,i_list,bd_2,k⟩:=hk;exact zss (k H (Grow.refl H))
  ·intro _ K hk;obtain ⟨ab,i_list,bd_2,k⟩:=hk;exact ⟨ab,i_list,bd_2,(fun H' gg=>zhn (fun q=>⟨gg,q⟩) (fun q=>⟨gg,q⟩) (k H' gg))⟩
 ·exact Nice.no

def z5h (aa:LN) (oa:Nat) (nd df:LN) (i:Int) (y1_1 y1_2:LN) (ze:Int) (y2_1 y2_2:LN) (k:Int) (y3_1 y3_2:LN) (k4_6:LN→Int→(LN×Bool)):Nat→LN→Int→LN×Bool
 | 0,_,_=>([],false)
 | μ4+1,kg,qg=>(bif decide ((qg:Int)<(0+nd.length:Int)) then (bif decide ((qg:Int)<(0+df.length:Int)) then (z5h aa oa nd df i y1_1 y1_2 ze y2_1 y2_2 k y3_1 y3_2 k4_6 μ4 (((kg++[(((y3_1).getD (qg:Int).toNat 0))])++[(((y3_2).getD (qg:Int).toNat 0))])) (qg+1)) else (z5h aa oa nd df i y1_1 y1_2 ze y2_1 y2_2 k y3_1 y3_2 k4_6 μ4 ((kg++[(((y3_1).getD (qg:Int).toNat 0))])) (qg+1))) else (k4_6 kg qg))
def zgs:=fun aa oa nd df i y1_1 y1_2 ze y2_1 y2_2 k y3_1 y3_2 k4_6 μ4 kg qg=>@z5h.eq_2 aa oa nd df i y1_1 y1_2 ze y2_1 y2_2 k y3_1 y3_2 k4_6 kg qg μ4
def z8i (aa:LN) (oa:Nat) (nd df:LN) (i:Int) (y1_1 y1_2:LN) (ze:Int) (y2_1 y2_2:LN) (k3_4:Int→LN→LN→(LN×Bool)):Nat→Int→LN→LN→LN×Bool
 | 0,_,_,_=>([],false)
 | μ3+1,k,y3_1,y3_2=>(bif decide ((0:Int)≤k) then (z8i aa oa nd df i y1_1 y1_2 ze y2_1 y2_2 k3_4 μ3 (k-1) ((zav k (fneg .f32 (((aa).getD (k:Int).toNat 0))) y3_1 y3_2)) ((z6p k (fneg .f32 (((aa).getD (k:Int).toNat 0))) y3_1 y3_2))) else (k3_4 k y3_1 y3_2))
def zgr:=fun aa oa nd df i y1_1 y1_2 ze y2_1 y2_2 k3_4 μ3 k y3_1 y3_2=>@z8i.eq_2 aa oa nd df i y1_1 y1_2 ze y2_1 y2_2 k3_4 k y3_1 y3_2 μ3
def zbn (aa:LN) (oa:Nat) (nd df:LN) (i:Int) (y1_1 y1_2:LN) (k2_2:Int→LN→LN→(LN×Bool)):Nat→Int→LN→LN→LN×Bool
 | 0,_,_,_=>([],false)
 | μ2+1,ze,y2_1,y2_2=>(bif decide ((ze:Int)<(0+df.length:Int)) then (zbn aa oa nd df i y1_1 y1_2 k2_2 μ2 (ze+1) y2_1 (((y2_2).set (ze:Int).toNat ((fmul .f32 (((y2_2).getD (ze:Int).toNat 0)) oa))))) else (k2_2 ze y2_1 y2_2))
def zgq:=fun aa oa nd df i y1_1 y1_2 k2_2 μ2 ze y2_1 y2_2=>@zbn.eq_2 aa oa nd df i y1_1 y1_2 k2_2 ze y2_1 y2_2 μ2
def z8h (aa:LN) (oa:Nat) (nd df:LN):Nat→Int→LN→LN→LN×Bool
 | 0,_,_,_=>([],false)
 | μ+1,i,y1_1,y1_2=>(bif decide ((i:Int)<(0+nd.length:Int)) then (z8h aa oa nd df μ (i+1) (((y1_1).set (i:Int).toNat ((fdiv .f32 (((y1_1).getD (i:Int).toNat 0)) oa)))) y1_2) else (zbn aa oa nd df i y1_1 y1_2 (fun (ze:Int) (y2_1:LN) (y2_2:LN)=>(z8i aa oa nd df i y1_1 y1_2 ze y2_1 y2_2 (fun (k:Int) (y3_1:LN) (y3_2:LN)=>(z5h aa oa nd df i y1_1 y1_2 ze y2_1 y2_2 k y3_1 y3_2 (fun (kg:LN) (qg:Int)=>(bif (z5v kg).2 then (kg,true) else ([],false))) (Int.toNat ((0+nd.length:Int)-(0:Int))+1) ([]:LN) (0:Int))) (Int.toNat (((((aa.length:Int)-1)))-0+1)+1) ((((aa.length:Int)-1))) y2_1 y2_2)) (Int.toNat ((0+df.length:Int)-(0:Int))+1) (0:Int) y1_1 y1_2))
def z9z:=fun aa oa nd df μ i y1_1 y1_2=>@z8h.eq_2 aa oa nd df i y1_1 y1_2 μ
def z7r (aa:LN) (oa:Nat) (nd df:LN):Nat→LN→Int→LN×Bool
 | 0,_,_=>([],false)
 | μ+1,kg,qg=>(bif decide ((qg:Int)<(0+nd.length:Int)) then (bif decide ((qg:Int)<(0+df.length:Int)) then (z7r aa oa nd df μ (((kg++[((((([]:LN)++nd)).getD (qg:Int).toNat 0))])++[((((([]:LN)++df)).getD (qg:Int).toNat 0))])) (qg+1)) else (z7r aa oa nd df μ ((kg++[((((([]:LN)++nd)).getD (qg:Int).toNat 0))])) (qg+1))) else (bif (z5v kg).2 then (kg,true) else ([],false)))
def zeu:=fun aa oa nd df μ kg qg=>@z7r.eq_2 aa oa nd df kg qg μ
def z8g (aa:LN) (oa:Nat) (nd df:LN):LN×Bool:=(bif decide ((0:Int)<(0+df.length:Int)) then (z8h aa oa nd df (Int.toNat ((0+nd.length:Int)-(0:Int))+1) (0:Int) ((([]:LN)++nd)) ((([]:LN)++df))) else (z7r aa oa nd df (Int.toNat ((0+nd.length:Int)-(0:Int))+1) ([]:LN) (0:Int)))
def zpo:=@z8g.eq_1
def T_fez (s:Nat) (yi:OA) (td bj:Nat) (dj:OA) (te xj:Nat) (H:zn) (K:OA→Nat→Nat→Bool→zn→Prop):Prop:=∃db:OA,∃(jb lb oa:Nat),∃(aa nd df:LN),rdN H s 0 2=some [.slice db jb lb,.float .f32 oa]∧IsL fF H db jb aa∧IsL fF H yi td nd∧IsL fF H dj te df∧aa.length<1073741824∧nd.length<1073741824∧df.length<1073741824∧df.length≤nd.length∧nd.length≤df.length+1∧nd.length≤128∧((∀(jd:OA) (pd od:Nat),∀H':zn,Grow H H'→OwnS fF H' H.length jd pd od ((z8g aa oa nd df).1)→K jd pd od ((z8g aa oa nd df).2) H'))
theorem z1bn {s:Nat} {yi:OA} {td bj:Nat} {dj:OA} {te xj:Nat} {H:zn} {K:OA→Nat→Nat→Bool→zn→Prop} (h:∃db:OA,∃(jb lb oa:Nat),∃(aa nd df:LN),rdN H s 0 2=some [.slice db jb lb,.float .f32 oa]∧IsL fF H db jb aa∧IsL fF H yi td nd∧IsL fF H dj te df∧aa.length<1073741824∧nd.length<1073741824∧df.length<1073741824∧df.length≤nd.length∧nd.length≤df.length+1∧nd.length≤128∧((∀(jd:OA) (pd od:Nat),∀H':zn,Grow H H'→OwnS fF H' H.length jd pd od ((z8g aa oa nd df).1)→K jd pd od ((z8g aa oa nd df).2) H'))):T_fez s yi td bj dj te xj H K:=h
def wvF (e o:LN) (i:Nat):LN:=if i<o.length then [e.getD i 0,o.getD i 0] else [e.getD i 0]
def wv (e o:LN) (k:Nat):LN:=(List.range k).flatMap (wvF e o)
theorem zo0 (e o:LN) (k:Nat):wv e o (k+1)=wv e o k++wvF e o k:=by
 unfold wv
 rw [List.range_succ,List.flatMap_append]
 simp
theorem z1af (e o:LN):∀k,(wv e o k).length=k+min k o.length:=by
 intro k
 induction k with
 | zero=>simp [wv]
 | succ k ih=>
  rw [zo0,List.length_append,ih]
  unfold wvF
  split<;>simp<;>omega
def dfS (ws:LN):Nat→LN→LN→LN×LN
 | 0,lo,hi=>(lo,hi)
 | k+1,lo,hi=>dfS ws k (zav (k:Int) (fneg .f32 (ws.getD k 0)) lo hi) (z6p (k:Int) (fneg .f32 (ws.getD k 0)) lo hi)
theorem zgd (ws:LN):∀(k:Nat) (lo hi:LN),(dfS ws k lo hi).1.length=lo.length∧(dfS ws k lo hi).2.length=hi.length:=by
 intro k
 induction k with
 | zero=>intro lo hi;exact ⟨rfl,rfl⟩
 | succ k ih=>
  intro lo hi
  obtain ⟨h1,h2⟩:=ih (zav (k:Int) (fneg .f32 (ws.getD k 0)) lo hi) (z6p (k:Int) (fneg .f32 (ws.getD k 0)) lo hi)
  exact ⟨h1.trans (z4h _ _ _ _),h2.trans (z2w _ _ _ _)⟩
theorem zsa (ws:LN) (sc:Nat) (l1 l2:LN) (i:Int) (a b:LN) (i2:Int) (c d:LN) (K:Int→LN→LN→LN×Bool):∀(μ k:Nat) (y1 y2:LN),k<μ→
  z8i ws sc l1 l2 i a b i2 c d K μ ((k:Int)-1) y1 y2=K (-1) (dfS ws k y1 y2).1 (dfS ws k y1 y2).2:=by
 intro μ
 induction μ with
 | zero=>intro k y1 y2 h;omega
 | succ μ ih=>
  intro k y1 y2 hm
  rw [zgr]
  cases k with
  | zero=>rfl
  | succ k=>
   have e:((k+1:Nat):Int)-1=(k:Int):=by omega
   rw [e,dct (show (0:Int)≤(k:Int) by omega),cond_true,Int.toNat_natCast]
   exact ih k _ _ ω2
theorem zs8 (ws:LN) (sc:Nat) (l1 l2 y2:LN) (K:Int→LN→LN→LN×Bool)
  (hK:∀(k:Int) (y1 y2:LN),z8h ws sc l1 l2 1 k y1 y2=bif decide (k<(0+l1.length:Int)) then z8h ws sc l1 l2 0 (k+1) (y1.set k.toNat (fdiv .f32 (y1.getD k.toNat 0) sc)) y2 else K k y1 y2) (A:LN) (hA:A.length=l1.length):∀(μ j:Nat),j≤l1.length→l1.length-j<μ→
  z8h ws sc l1 l2 μ (j:Int) ((A.map fun x=>fdiv .f32 x sc).take j++A.drop j) y2=K (l1.length:Int) (A.map fun x=>fdiv .f32 x sc) y2:=by
 intro μ
 induction μ with
 | zero=>intro k _ h;omega
 | succ μ ih=>
  intro j hj hm
  by_cases h:j<l1.length
  ·rw [z9z]
   rw [dct (show (j:Int)<(0+l1.length:Int) by omega),cond_true,Int.toNat_natCast,z7m _ _ _ ω2 ω32]
   have:=ih (j+1) ω2 ω2
   rw [z3m (A.map fun x=>fdiv .f32 x sc) A j ω2 ω32 _ (by simp [List.getD_eq_getElem?_getD,show j<A.length by omega])]
   exact this
  ·have e:j=l1.length:=by omega
   have h1:=hK (j:Int) ((A.map fun x=>fdiv .f32 x sc).take j++A.drop j) y2
   rw [z9z] at h1 ⊢
   rw [dcf (show ¬(j:Int)<(0+l1.length:Int) by omega),cond_false,cond_false] at h1
   rw [dcf (show ¬(j:Int)<(0+l1.length:Int) by omega),cond_false]
   refine h1.trans ?_
   rw [e,List.take_of_length_le (by simp [hA]),List.drop_of_length_le ω2,List.append_nil]
theorem zs9 (ws:LN) (sc:Nat) (l1 l2:LN) (i:Int) (a b y1:LN) (K:Int→LN→LN→LN×Bool) (A:LN) (hA:A.length=l2.length):∀(μ j:Nat),j≤l2.length→l2.length-j<μ→
  zbn ws sc l1 l2 i a b K μ (j:Int) y1 ((A.map fun x=>fmul .f32 x sc).take j++A.drop j)=K (l2.length:Int) y1 (A.map fun x=>fmul .f32 x sc):=by
 intro μ
 induction μ with
 | zero=>intro k _ h;omega
 | succ μ ih=>
  intro j hj hm
  rw [zgq]
  by_cases h:j<l2.length
  ·rw [dct (show (j:Int)<(0+l2.length:Int) by omega),cond_true,Int.toNat_natCast,z7m _ _ _ ω2 ω32]
   have:=ih (j+1) ω2 ω2
   rw [z3m (A.map fun x=>fmul .f32 x sc) A j ω2 ω32 _ (by simp [List.getD_eq_getElem?_getD,show j<A.length by omega])]
   exact this
  ·have e:j=l2.length:=by omega
   rw [dcf (show ¬(j:Int)<(0+l2.length:Int) by omega),cond_false,e,List.take_of_length_le (by simp [hA]),List.drop_of_length_le ω2,List.append_nil]
theorem zsb (ws:LN) (sc:Nat) (l1 l2:LN) (i:Int) (a b:LN) (i2:Int) (c d:LN) (k0:Int) (E O:LN) (hE:E.length=l1.length) (hO:O.length=l2.length) (K:LN→Int→LN×Bool):∀(μ k:Nat),k≤l1.length→l1.length-k<μ→
  z5h ws sc l1 l2 i a b i2 c d k0 E O K μ (wv E O k) (k:Int)=K (wv E O l1.length) (l1.length:Int):=by
 intro μ
 induction μ with
 | zero=>intro k _ h;omega
 | succ μ ih=>
  intro k hk hm
  rw [zgs]
  by_cases h:k<l1.length
  ·rw [dct (show (k:Int)<(0+l1.length:Int) by omega),cond_true,Int.toNat_natCast]
   have:=ih (k+1) ω2 ω2
   rw [zo0] at this
   by_cases h2:k<l2.length
   ·rw [dct (show (k:Int)<(0+l2.length:Int) by omega),cond_true]
    rw [show wvF E O k=[E.getD k 0,O.getD k 0] from if_pos ω2] at this
    rw [List.append_assoc]
    exact this
   ·rw [dcf (show ¬(k:Int)<(0+l2.length:Int) by omega),cond_false]
    rw [show wvF E O k=[E.getD k 0] from if_neg ω2] at this
    exact this
  ·obtain rfl:k=l1.length:=by omega
   rw [dcf (show ¬((l1.length:Nat):Int)<(0+l1.length:Int) by omega),cond_false]
theorem znt (ws:LN) (sc:Nat) (l1 l2:LN):∀(μ k:Nat),k≤l1.length→l1.length-k<μ→
  z7r ws sc l1 l2 μ (wv l1 l2 k) (k:Int)=bif (z5v (wv l1 l2 l1.length)).2 then (wv l1 l2 l1.length,true) else ([],false):=by
 intro μ
 induction μ with
 | zero=>intro k _ h;omega
 | succ μ ih=>
  intro k hk hm
  rw [zeu,List.nil_append,List.nil_append]
  by_cases h:k<l1.length
  ·rw [dct (show (k:Int)<(0+l1.length:Int) by omega),cond_true,Int.toNat_natCast]
   have:=ih (k+1) ω2 ω2
   rw [zo0] at this
   by_cases h2:k<l2.length
   ·rw [dct (show (k:Int)<(0+l2.length:Int) by omega),cond_true]
    rw [show wvF l1 l2 k=[l1.getD k 0,l2.getD k 0] from if_pos ω2] at this
    rw [List.append_assoc]
    exact this
   ·rw [dcf (show ¬(k:Int)<(0+l2.length:Int) by omega),cond_false]
    rw [show wvF l1 l2 k=[l1.getD k 0] from if_neg ω2] at this
    exact this
  ·obtain rfl:k=l1.length:=by omega
   rw [dcf (show ¬((l1.length:Nat):Int)<(0+l1.length:Int) by omega),cond_false]
theorem zbv (v:LN):(bif (z5v v).2 then (v,true) else ([],false))=z5v v:=by
 rw [zbj]
 cases z3e v<;>rfl
def dropE (ws:LN) (sc:Nat) (e o:LN):LN:=(dfS ws ws.length (e.map fun x=>fdiv .f32 x sc) (o.map fun x=>fmul .f32 x sc)).1
def dropO (ws:LN) (sc:Nat) (e o:LN):LN:=(dfS ws ws.length (e.map fun x=>fdiv .f32 x sc) (o.map fun x=>fmul .f32 x sc)).2
def zhy (ws:LN) (sc:Nat) (e o:LN):LN:=bif decide ((0:Int)<(0+o.length:Int)) then wv (dropE ws sc e o) (dropO ws sc e o) e.length else wv e o e.length
theorem z7s (ws:LN) (sc:Nat) (e o:LN):z8g ws sc e o=z5v (zhy ws sc e o):=by
 rw [zpo]
 unfold zhy
 cases decide ((0:Int)<(0+o.length:Int)) with
 | false=>
  rw [cond_false,cond_false,←zbv]
  exact znt ws sc e o (Int.toNat ((0+e.length:Int)-(0:Int))+1) 0 ω2 ω2
 | true=>
  rw [cond_true,cond_true,List.nil_append,List.nil_append]
  have h1:=zs8 ws sc e o o _ (fun k y1 y2=>z9z ws sc e o 0 k y1 y2) e rfl (Int.toNat ((0+e.length:Int)-(0:Int))+1) 0 ω2 ω2
  simp only [List.take_zero,List.drop_zero,List.nil_append] at h1
  refine Eq.trans h1 ?_
  have h2:=fun i a b y1 K=>zs9 ws sc e o i a b y1 K o rfl (Int.toNat ((0+o.length:Int)-(0:Int))+1) 0 ω2 ω2
  simp only [List.take_zero,List.drop_zero,List.nil_append] at h2
  refine Eq.trans (h2 _ _ _ _ _) ?_
  refine Eq.trans (zsa ws sc e o _ _ _ _ _ _ _ (Int.toNat (((((ws.length:Int)-1)))-0+1)+1) ws.length _ _ ω2) ?_
  obtain ⟨g1,g2⟩:=zgd ws ws.length (e.map fun x=>fdiv .f32 x sc) (o.map fun x=>fmul .f32 x sc)
  refine Eq.trans (zsb ws sc e o _ _ _ _ _ _ _ _ _ (g1.trans (List.length_map ..)) (g2.trans (List.length_map ..)) _ (Int.toNat ((0+e.length:Int)-(0:Int))+1) 0 ω2 ω2) ?_
  exact zbv _
theorem zjw (ws:LN) (sc:Nat) (e o:LN):(zhy ws sc e o).length=e.length+min e.length o.length:=by
 unfold zhy dropE dropO
 obtain ⟨g1,g2⟩:=zgd ws ws.length (e.map fun x=>fdiv .f32 x sc) (o.map fun x=>fmul .f32 x sc)
 cases decide ((0:Int)<(0+o.length:Int)) with
 | false=>rw [cond_false,z1af]
 | true=>rw [cond_true,z1af,g2,List.length_map]
theorem zsc (ws:LN) (sc:Nat) (e o:LN) (h:(z8g ws sc e o).2=true):(z8g ws sc e o).1=zhy ws sc e o∧z3e (zhy ws sc e o)=true:=by
 rw [z7s,zbj] at h ⊢
 cases hf:z3e (zhy ws sc e o) with
 | true=>exact ⟨rfl,rfl⟩
 | false=>rw [hf] at h;cases h
theorem znu (ws:LN) (sc:Nat) (e o:LN):(z8g ws sc e o).1.length≤2*e.length:=by
 rw [z7s,zbj]
 have:=zjw ws sc e o
 cases z3e (zhy ws sc e o) with
 | true=>show (zhy ws sc e o).length≤_;omega
 | false=>exact Nat.zero_le _
def z3t:Env:=envOf [(175,zur),(176,z18v)]
def F_fez (args:List Value) (H:zn):(Value→zn→Prop)→Prop:=match args with
 | [.pointer (some ⟨s,0,none⟩),.slice yi td bj,.slice dj te xj]=>fun K=>T_fez s yi td bj dj te xj H fun (jd:OA) (pd:Nat) (od:Nat) (r2:Bool) (H':zn)=>K (.tuple #[.slice jd pd od,.bool r2]) H'
 | _=>fun _=>False
def S_fez:FSpec:={F:=F_fez,quiet:=false,tame:=true}
theorem z1hz (s:Nat) (yi:OA) (td bj:Nat) (dj:OA) (te xj:Nat) (H:zn) (K:KT):zt Tryz.prog z3t Tryz.f167 [.pointer (some ⟨s,0,none⟩),.slice yi td bj,.slice dj te xj] H K=
 (Al [] H fun b1 H1=>∃o1 w1:List Value,ownB H1 (some ⟨b1,0,none⟩) 0 1 1=some o1∧rdS H1 yi (td*1)=some w1∧((some ⟨b1,0,none⟩:OA)=none→0<(td:Nat))∧(0:Nat)+td<most∧Ap H1 (z2s H1 (some ⟨b1,0,none⟩)++[some ⟨o1++w1,true⟩]) fun b2 H2=>Al [] H2 fun b3 H3=>∃o2 w2:List Value,ownB H3 (some ⟨b3,0,none⟩) 0 1 1=some o2∧rdS H3 dj (te*1)=some w2∧((some ⟨b3,0,none⟩:OA)=none→0<(te:Nat))∧(0:Nat)+te<most∧Ap H3 (z2s H3 (some ⟨b3,0,none⟩)++[some ⟨o2++w2,true⟩]) fun b4 H4=>Br (decide ((0:Int)<(0+te:Int))) (z1j (exL Tryz.prog z3t (cl (cl (cr (cl (cl (cr (cl (cr (cr (cr (zo Tryz.f167))))))))))) 1793 192 [(0,769)]) (.pointer (some ⟨s,0,none⟩)::ud7 (.slice (some ⟨b2,0,none⟩) (0+td) 1::.slice (some ⟨b4,0,none⟩) (0+te) 1::.int .i64 0::ud100 [])) H4 (zu 0 (seqQ (exL Tryz.prog z3t (cr (cl (cr (cl (cr (cr (cr (zo Tryz.f167)))))))) 768 192 []) (seqQ (exL Tryz.prog z3t (cr (cr (cr (cr (zo Tryz.f167))))) 192 192 []) (retK Tryz.prog Tryz.f167 K))))) (Al [] H4 fun b17 H14=>z1j (exL Tryz.prog z3t (cl (cl (cr (cl (cr (cr (cr (cr (cr (zo Tryz.f167)))))))))) 25344 192 [(6,8192)]) (ud8 (.slice (some ⟨b2,0,none⟩) (0+td) 1::.slice (some ⟨b4,0,none⟩) (0+te) 1::ud3 (.slice (some ⟨b17,0,none⟩) 0 1::.int .i64 0::ud96 []))) H14 (zu 6 (seqQ (exL Tryz.prog z3t (cr (cr (cr (cr (cr (cr (zo Tryz.f167))))))) 192 192 []) (retK Tryz.prog Tryz.f167 K))))):=by kernel_rfl
abbrev zk2 (b2 b4 td te s:Nat) (i:Int)  :List Value:=(.pointer (some ⟨s,0,none⟩)::ud7 (.slice (some ⟨b2,0,none⟩) (0+td) 1::.slice (some ⟨b4,0,none⟩) (0+te) 1::.int .i64 i::ud100 []))
theorem z1hw (b2 b4 td te s:Nat) (i:Int)  (H:zn) (R:Post):exL Tryz.prog z3t (cl (cl (cr (cl (cl (cr (cl (cr (cr (cr (zo Tryz.f167))))))))))) 1793 192 [(0,769)] (zk2 b2 b4 td te s i) H R=
 (Br (decide ((i:Int)<(0+td:Int))) ((0:Int)≤i∧i<(0+td:Int)∧∃b5 f1,(some ⟨b2,0,none⟩:OA)=some ⟨b5,f1,none⟩∧∃x1:Nat,  rdC H b5 (f1+(i:Int).toNat*1)=some (.float .f32 x1)∧∃x2:Nat,  rdC H s 1=some (.float .f32 x2)∧(0:Int)≤i∧i<(0+td:Int)∧∃b6 f2,(some ⟨b2,0,none⟩:OA)=some ⟨b6,f2,none⟩∧isOwn H b6∧(∃l,rdN H b6 (f2+(i:Int).toNat*1) 1=some l)∧Lt (setC H b6 (f2+(i:Int).toNat*1) (.float .f32 (fdiv .f32 x1 x2))) fun H5=>R .normal (.pointer (some ⟨s,0,none⟩)::ud7 (.slice (some ⟨b2,0,none⟩) (0+td) 1::.slice (some ⟨b4,0,none⟩) (0+te) 1::.int .i64 (IntKind.wrap .i64 (i+1))::ud100 [])) H5) (R (.exit 0) (.pointer (some ⟨s,0,none⟩)::ud7 (.slice (some ⟨b2,0,none⟩) (0+td) 1::.slice (some ⟨b4,0,none⟩) (0+te) 1::ud101 [])) H)):=by kernel_rfl
def zwz (b2 b4 td te s:Nat) (Inv:Nat→Int→zn→Prop):Nat→List Value→zn→Prop:=fun μ tm H=>∃i:Int,tm=(zk2 b2 b4 td te s i)∧Inv μ i H
theorem z1hp (b2 b4 td te s:Nat) {Q:Post} (Inv:Nat→Int→zn→Prop) (ν:Nat) (i:Int)  (H:zn) (h0:Inv ν i H)
  (hs:∀(μ:Nat) (i:Int)  (H:zn),Inv μ i H→exL Tryz.prog z3t (cl (cl (cr (cl (cl (cr (cl (cr (cr (cr (zo Tryz.f167))))))))))) 1793 192 [(0,769)] (zk2 b2 b4 td te s i) H (zx (zwz b2 b4 td te s Inv) μ Q)):z1j (exL Tryz.prog z3t (cl (cl (cr (cl (cl (cr (cl (cr (cr (cr (zo Tryz.f167))))))))))) 1793 192 [(0,769)]) (zk2 b2 b4 td te s i) H Q:=
 ⟨zwz b2 b4 td te s Inv,ν,⟨i,rfl,h0⟩,fun μ tm H h=>by obtain ⟨i,rfl,hI⟩:=h;exact hs μ i  H hI⟩
theorem z1hs {b2 b4 td te s:Nat} {Q:Post} {Inv:Nat→Int→zn→Prop} {μ:Nat} (μ':Nat) {i:Int}  {H:zn} (hm:μ'<μ) (hI:Inv μ' i H):zx (zwz b2 b4 td te s Inv) μ Q .normal (zk2 b2 b4 td te s i) H:=⟨μ',hm,i,rfl,hI⟩
theorem z13f (b2 b4 td te s:Nat) (H:zn) (K:KT)  {I:Nat→List Value→zn→Prop} {μ:Nat}:zx I μ (zu 0 (seqQ (exL Tryz.prog z3t (cr (cl (cr (cl (cr (cr (cr (zo Tryz.f167)))))))) 768 192 []) (seqQ (exL Tryz.prog z3t (cr (cr (cr (cr (zo Tryz.f167))))) 192 192 []) (retK Tryz.prog Tryz.f167 K)))) (.exit 0) (.pointer (some ⟨s,0,none⟩)::ud7 (.slice (some ⟨b2,0,none⟩) (0+td) 1::.slice (some ⟨b4,0,none⟩) (0+te) 1::ud101 [])) H=
 (z1j (exL Tryz.prog z3t (cl (cl (cr (cl (cr (cl (cr (cl (cr (cr (cr (zo Tryz.f167)))))))))))) 2817 192 [(2,769)]) (.pointer (some ⟨s,0,none⟩)::ud7 (.slice (some ⟨b2,0,none⟩) (0+td) 1::.slice (some ⟨b4,0,none⟩) (0+te) 1::ud::.int .i64 0::ud99 [])) H (zu 2 (seqQ (exL Tryz.prog z3t (cr (cr (cl (cr (cl (cr (cr (cr (zo Tryz.f167))))))))) 768 192 []) (seqQ (exL Tryz.prog z3t (cr (cr (cr (cr (zo Tryz.f167))))) 192 192 []) (retK Tryz.prog Tryz.f167 K))))):=by kernel_rfl
abbrev zk3 (b2 b4 td te s:Nat) (ze:Int)  :List Value:=(.pointer (some ⟨s,0,none⟩)::ud7 (.slice (some ⟨b2,0,none⟩) (0+td) 1::.slice (some ⟨b4,0,none⟩) (0+te) 1::ud::.int .i64 ze::ud99 []))
theorem z1hx (b2 b4 td te s:Nat) (ze:Int)  (H:zn) (R:Post):exL Tryz.prog z3t (cl (cl (cr (cl (cr (cl (cr (cl (cr (cr (cr (zo Tryz.f167)))))))))))) 2817 192 [(2,769)] (zk3 b2 b4 td te s ze) H R=
 (Br (decide ((ze:Int)<(0+te:Int))) ((0:Int)≤ze∧ze<(0+te:Int)∧∃b7 f3,(some ⟨b4,0,none⟩:OA)=some ⟨b7,f3,none⟩∧∃x3:Nat,  rdC H b7 (f3+(ze:Int).toNat*1)=some (.float .f32 x3)∧∃x4:Nat,  rdC H s 1=some (.float .f32 x4)∧(0:Int)≤ze∧ze<(0+te:Int)∧∃b8 f4,(some ⟨b4,0,none⟩:OA)=some ⟨b8,f4,none⟩∧isOwn H b8∧(∃l,rdN H b8 (f4+(ze:Int).toNat*1) 1=some l)∧Lt (setC H b8 (f4+(ze:Int).toNat*1) (.float .f32 (fmul .f32 x3 x4))) fun H6=>R .normal (.pointer (some ⟨s,0,none⟩)::ud7 (.slice (some ⟨b2,0,none⟩) (0+td) 1::.slice (some ⟨b4,0,none⟩) (0+te) 1::ud::.int .i64 (IntKind.wrap .i64 (ze+1))::ud99 [])) H6) (R (.exit 2) (.pointer (some ⟨s,0,none⟩)::ud7 (.slice (some ⟨b2,0,none⟩) (0+td) 1::.slice (some ⟨b4,0,none⟩) (0+te) 1::ud101 [])) H)):=by kernel_rfl
def zx0 (b2 b4 td te s:Nat) (Inv:Nat→Int→zn→Prop):Nat→List Value→zn→Prop:=fun μ tm H=>∃ze:Int,tm=(zk3 b2 b4 td te s ze)∧Inv μ ze H
theorem z1hq (b2 b4 td te s:Nat) {Q:Post} (Inv:Nat→Int→zn→Prop) (ν:Nat) (ze:Int)  (H:zn) (h0:Inv ν ze H)
  (hs:∀(μ:Nat) (ze:Int)  (H:zn),Inv μ ze H→exL Tryz.prog z3t (cl (cl (cr (cl (cr (cl (cr (cl (cr (cr (cr (zo Tryz.f167)))))))))))) 2817 192 [(2,769)] (zk3 b2 b4 td te s ze) H (zx (zx0 b2 b4 td te s Inv) μ Q)):z1j (exL Tryz.prog z3t (cl (cl (cr (cl (cr (cl (cr (cl (cr (cr (cr (zo Tryz.f167)))))))))))) 2817 192 [(2,769)]) (zk3 b2 b4 td te s ze) H Q:=
 ⟨zx0 b2 b4 td te s Inv,ν,⟨ze,rfl,h0⟩,fun μ tm H h=>by obtain ⟨ze,rfl,hI⟩:=h;exact hs μ ze  H hI⟩
theorem z1ht {b2 b4 td te s:Nat} {Q:Post} {Inv:Nat→Int→zn→Prop} {μ:Nat} (μ':Nat) {ze:Int}  {H:zn} (hm:μ'<μ) (hI:Inv μ' ze H):zx (zx0 b2 b4 td te s Inv) μ Q .normal (zk3 b2 b4 td te s ze) H:=⟨μ',hm,ze,rfl,hI⟩
theorem z13g (b2 b4 td te s:Nat) (H:zn) (K:KT)  {I:Nat→List Value→zn→Prop} {μ:Nat}:zx I μ (zu 2 (seqQ (exL Tryz.prog z3t (cr (cr (cl (cr (cl (cr (cr (cr (zo Tryz.f167))))))))) 768 192 []) (seqQ (exL Tryz.prog z3t (cr (cr (cr (cr (zo Tryz.f167))))) 192 192 []) (retK Tryz.prog Tryz.f167 K)))) (.exit 2) (.pointer (some ⟨s,0,none⟩)::ud7 (.slice (some ⟨b2,0,none⟩) (0+td) 1::.slice (some ⟨b4,0,none⟩) (0+te) 1::ud101 [])) H=
 (∃gj:OA,∃(cj ak:Nat),  rdC H s 0=some (.slice gj cj ak)∧z1j (exL Tryz.prog z3t (cl (cl (cr (cr (cr (cl (cr (cl (cr (cr (cr (zo Tryz.f167)))))))))))) 4865 192 [(4,768)]) (.pointer (some ⟨s,0,none⟩)::ud7 (.slice (some ⟨b2,0,none⟩) (0+td) 1::.slice (some ⟨b4,0,none⟩) (0+te) 1::ud2 (.int .i64 (IntKind.wrap .i64 ((cj:Int)-1))::ud98 []))) H (zu 4 (seqQ (exL Tryz.prog z3t (cr (cr (cr (cr (zo Tryz.f167))))) 192 192 []) (retK Tryz.prog Tryz.f167 K)))):=by kernel_rfl
abbrev zk4 (b2 b4 td te s:Nat) (k:Int)  :List Value:=(.pointer (some ⟨s,0,none⟩)::ud7 (.slice (some ⟨b2,0,none⟩) (0+td) 1::.slice (some ⟨b4,0,none⟩) (0+te) 1::ud2 (.int .i64 k::ud98 [])))
theorem z1hy (b2 b4 td te s:Nat) (k:Int)  (H:zn) (R:Post):exL Tryz.prog z3t (cl (cl (cr (cr (cr (cl (cr (cl (cr (cr (cr (zo Tryz.f167)))))))))))) 4865 192 [(4,768)] (zk4 b2 b4 td te s k) H R=
 (Br (decide ((0:Int)≤k)) (∃ii:OA,∃(ai ni:Nat),  rdC H s 0=some (.slice ii ai ni)∧(0:Int)≤k∧k<(ai:Int)∧∃b9 f5,(ii:OA)=some ⟨b9,f5,none⟩∧∃x7:Nat,  rdC H b9 (f5+(k:Int).toNat*1)=some (.float .f32 x7)∧zjc (some ⟨b2,0,none⟩) (0+td) 1 (some ⟨b4,0,none⟩) (0+te) 1 k (fneg .f32 x7) H fun  (H7:zn)=>R .normal (.pointer (some ⟨s,0,none⟩)::ud7 (.slice (some ⟨b2,0,none⟩) (0+td) 1::.slice (some ⟨b4,0,none⟩) (0+te) 1::ud2 (.int .i64 (IntKind.wrap .i64 (k-1))::ud98 []))) H7) (R (.exit 4) (ud8 (.slice (some ⟨b2,0,none⟩) (0+td) 1::.slice (some ⟨b4,0,none⟩) (0+te) 1::ud101 [])) H)):=by kernel_rfl
def zx1 (b2 b4 td te s:Nat) (Inv:Nat→Int→zn→Prop):Nat→List Value→zn→Prop:=fun μ tm H=>∃k:Int,tm=(zk4 b2 b4 td te s k)∧Inv μ k H
theorem z1hr (b2 b4 td te s:Nat) {Q:Post} (Inv:Nat→Int→zn→Prop) (ν:Nat) (k:Int)  (H:zn) (h0:Inv ν k H)
  (hs:∀(μ:Nat) (k:Int)  (H:zn),Inv μ k H→exL Tryz.prog z3t (cl (cl (cr (cr (cr (cl (cr (cl (cr (cr (cr (zo Tryz.f167)))))))))))) 4865 192 [(4,768)] (zk4 b2 b4 td te s k) H (zx (zx1 b2 b4 td te s Inv) μ Q)):z1j (exL Tryz.prog z3t (cl (cl (cr (cr (cr (cl (cr (cl (cr (cr (cr (zo Tryz.f167)))))))))))) 4865 192 [(4,768)]) (zk4 b2 b4 td te s k) H Q:=
 ⟨zx1 b2 b4 td te s Inv,ν,⟨k,rfl,h0⟩,fun μ tm H h=>by obtain ⟨k,rfl,hI⟩:=h;exact hs μ k  H hI⟩
theorem z1hu {b2 b4 td te s:Nat} {Q:Post} {Inv:Nat→Int→zn→Prop} {μ:Nat} (μ':Nat) {k:Int}  {H:zn} (hm:μ'<μ) (hI:Inv μ' k H):zx (zx1 b2 b4 td te s Inv) μ Q .normal (zk4 b2 b4 td te s k) H:=⟨μ',hm,k,rfl,hI⟩
theorem z13h (b2 b4 td te:Nat) (H:zn) (K:KT)  {I:Nat→List Value→zn→Prop} {μ:Nat}:zx I μ (zu 4 (seqQ (exL Tryz.prog z3t (cr (cr (cr (cr (zo Tryz.f167))))) 192 192 []) (retK Tryz.prog Tryz.f167 K))) (.exit 4) (ud8 (.slice (some ⟨b2,0,none⟩) (0+td) 1::.slice (some ⟨b4,0,none⟩) (0+te) 1::ud101 [])) H=
 (Al [] H fun b10 H8=>z1j (exL Tryz.prog z3t (cl (cl (cr (cl (cr (cr (cr (cr (cr (zo Tryz.f167)))))))))) 25344 192 [(6,8192)]) (ud8 (.slice (some ⟨b2,0,none⟩) (0+td) 1::.slice (some ⟨b4,0,none⟩) (0+te) 1::ud3 (.slice (some ⟨b10,0,none⟩) 0 1::.int .i64 0::ud96 []))) H8 (zu 6 (seqQ (exL Tryz.prog z3t (cr (cr (cr (cr (cr (cr (zo Tryz.f167))))))) 192 192 []) (retK Tryz.prog Tryz.f167 K)))):=by kernel_rfl
abbrev zk5 (b2 b4 td te:Nat) (tf:OA) (mf ag:Nat) (qg:Int)  :List Value:=(ud8 (.slice (some ⟨b2,0,none⟩) (0+td) 1::.slice (some ⟨b4,0,none⟩) (0+te) 1::ud3 (.slice tf mf ag::.int .i64 qg::ud96 [])))
theorem z19w (b2 b4 td te:Nat) (tf:OA) (mf ag:Nat) (qg:Int)  (H:zn) (R:Post):exL Tryz.prog z3t (cl (cl (cr (cl (cr (cr (cr (cr (cr (zo Tryz.f167)))))))))) 25344 192 [(6,8192)] (zk5 b2 b4 td te tf mf ag qg) H R=
 (Br (decide ((qg:Int)<(0+td:Int))) ((0:Int)≤qg∧qg<(0+td:Int)∧∃b11 f6,(some ⟨b2,0,none⟩:OA)=some ⟨b11,f6,none⟩∧∃x8:Nat,  rdC H b11 (f6+(qg:Int).toNat*1)=some (.float .f32 x8)∧Al [.float .f32 x8] H fun b12 H9=>∃o3 w3:List Value,ownB H9 tf mf ag 1=some o3∧rdS H9 (some ⟨b12,0,none⟩) (1*1)=some w3∧((tf:OA)=none→0<(1:Nat))∧(mf:Nat)+1<most∧Ap H9 (z2s H9 tf++[some ⟨o3++w3,true⟩]) fun b13 H10=>Br (decide ((qg:Int)<(0+te:Int))) ((0:Int)≤qg∧qg<(0+te:Int)∧∃b14 f7,(some ⟨b4,0,none⟩:OA)=some ⟨b14,f7,none⟩∧∃x9:Nat,  rdC H10 b14 (f7+(qg:Int).toNat*1)=some (.float .f32 x9)∧Al [.float .f32 x9] H10 fun b15 H11=>∃o4 w4:List Value,ownB H11 (some ⟨b13,0,none⟩) (mf+1) 1 1=some o4∧rdS H11 (some ⟨b15,0,none⟩) (1*1)=some w4∧((some ⟨b13,0,none⟩:OA)=none→0<(1:Nat))∧(mf+1:Nat)+1<most∧Ap H11 (z2s H11 (some ⟨b13,0,none⟩)++[some ⟨o4++w4,true⟩]) fun b16 H12=>R .normal (ud8 (.slice (some ⟨b2,0,none⟩) (0+td) 1::.slice (some ⟨b4,0,none⟩) (0+te) 1::ud3 (.slice (some ⟨b16,0,none⟩) ((mf+1)+1) 1::.int .i64 (IntKind.wrap .i64 (qg+1))::ud96 []))) H12) (R .normal (ud8 (.slice (some ⟨b2,0,none⟩) (0+td) 1::.slice (some ⟨b4,0,none⟩) (0+te) 1::ud3 (.slice (some ⟨b13,0,none⟩) (mf+1) 1::.int .i64 (IntKind.wrap .i64 (qg+1))::ud96 []))) H10)) (R (.exit 6) (ud13 (.slice tf mf ag::ud97 [])) H)):=by kernel_rfl
def zx2 (b2 b4 td te:Nat) (Inv:Nat→OA→Nat→Nat→Int→zn→Prop):Nat→List Value→zn→Prop:=fun μ tm H=>∃tf:OA,∃(mf ag:Nat),∃qg:Int,tm=(zk5 b2 b4 td te tf mf ag qg)∧Inv μ tf mf ag qg H
theorem z19v (b2 b4 td te:Nat) {Q:Post} (Inv:Nat→OA→Nat→Nat→Int→zn→Prop) (ν:Nat) (tf:OA) (mf ag:Nat) (qg:Int)  (H:zn) (h0:Inv ν tf mf ag qg H)
  (hs:∀(μ:Nat) (tf:OA) (mf:Nat) (ag:Nat) (qg:Int)  (H:zn),Inv μ tf mf ag qg H→exL Tryz.prog z3t (cl (cl (cr (cl (cr (cr (cr (cr (cr (zo Tryz.f167)))))))))) 25344 192 [(6,8192)] (zk5 b2 b4 td te tf mf ag qg) H (zx (zx2 b2 b4 td te Inv) μ Q)):z1j (exL Tryz.prog z3t (cl (cl (cr (cl (cr (cr (cr (cr (cr (zo Tryz.f167)))))))))) 25344 192 [(6,8192)]) (zk5 b2 b4 td te tf mf ag qg) H Q:=
 ⟨zx2 b2 b4 td te Inv,ν,⟨tf,mf,ag,qg,rfl,h0⟩,fun μ tm H h=>by obtain ⟨tf,mf,ag,qg,rfl,hI⟩:=h;exact hs μ tf mf ag qg  H hI⟩
theorem zp2 {b2 b4 td te:Nat} {Q:Post} {Inv:Nat→OA→Nat→Nat→Int→zn→Prop} {μ:Nat} (μ':Nat) {tf:OA} {mf ag:Nat} {qg:Int}  {H:zn} (hm:μ'<μ) (hI:Inv μ' tf mf ag qg H):zx (zx2 b2 b4 td te Inv) μ Q .normal (zk5 b2 b4 td te tf mf ag qg) H:=⟨μ',hm,tf,mf,ag,qg,rfl,hI⟩
theorem zp3 (tf:OA) (mf ag:Nat) (H:zn) (K:KT)  {I:Nat→List Value→zn→Prop} {μ:Nat}:zx I μ (zu 6 (seqQ (exL Tryz.prog z3t (cr (cr (cr (cr (cr (cr (zo Tryz.f167))))))) 192 192 []) (retK Tryz.prog Tryz.f167 K))) (.exit 6) (ud13 (.slice tf mf ag::ud97 [])) H=
 (zof tf mf ag H fun (a1:OA) (r1:Nat) (r2:Nat) (r3:Bool) (H13:zn)=>K (.tuple #[.slice a1 r1 r2,.bool r3]) H13):=by kernel_rfl
theorem zzu:∀g,FnOk Tryz.prog g (z3t g):=FnOk.envOf (by
 intro x hx
 simp only [List.mem_cons,List.not_mem_nil,or_false] at hx
 rcases hx with rfl | rfl
 ·exact zw0
 ·exact z1cw)
theorem ω14 {P:Prop} (h:P:=by first | assumption | omega | (simp only [List.length_set,z4h,z2w];first | rfl | assumption | omega)):P:=h
theorem ω28 {P:Prop} (h:P:=by rw [show μ2-1+1=μ2 from by first | omega];exact e):P:=h
theorem ω29 {P:Prop} (h:P:=by rw [show μ3-1+1=μ3 from by first | omega];exact e):P:=h
theorem ω30 {P:Prop} (h:P:=by rw [show μ4-1+1=μ4 from by first | omega];exact e):P:=h
theorem ω21 {P:Prop} (h:P:=by first | exact OwnS.nil _ _ _ _ | exact OwnT.nil _ _ _ | exact z4w.nil _ _ _ _):P:=h
theorem z13e (s:Nat) (yi:OA) (td bj:Nat) (dj:OA) (te xj:Nat) (H:zn) (K:KT) (h:T_fez s yi td bj dj te xj H fun (jd:OA) (pd:Nat) (od:Nat) (r2:Bool) (H':zn)=>K (.tuple #[.slice jd pd od,.bool r2]) H'):zt Tryz.prog z3t Tryz.f167 [.pointer (some ⟨s,0,none⟩),.slice yi td bj,.slice dj te xj] H K:=by
 rw [z1hz]
 obtain ⟨db,jb,lb,oa,aa,nd,df,i_s,yb,i_even,i_odd,bd_351,bd_352,bd_353,pr0,pr1,pr2,hk⟩:=h
 obtain rfl:=yb.eqn
 obtain rfl:=i_even.eqn
 obtain rfl:=i_odd.eqn
 have e:(z8g aa oa nd df)=_:=rfl
 have e:=e.trans (zpo aa oa nd df)
 have g0:=Grow.refl H
 refine Al.intro (fun b_1 H_1 hb_2 hl_3 g_4 o_5=>?_)
 have o_5:Own H_1 b_1 ((([]:LN)).map fF):=o_5
 have l_7:=g_4.1
 have g_8:=g0.trans g_4
 have l_9:=g_8.1
 have w350:=o_5.lt
 refine ⟨_,_,o_5.ownB ω3 rfl,(z2h (i_even.grow g_8)),(fun h=>by cases h),ω25,?_⟩
 refine Ap.app o_5 rfl rfl (fun b_14 H_2 q348 hl_10 o_11 k_12=>?_)
 have o_11:=z2a o_11
 have l_15:=k_12.1
 have g16:=g_8.keep (b:=b_1) ω2 k_12
 have l_17:=g16.1
 have w349:=o_11.lt
 refine Al.intro (fun b18 H_3 hb_19 hl_20 g21 o22=>?_)
 have o22:Own H_3 b18 ((([]:LN)).map fF):=o22
 have l24:=g21.1
 have g_25:=g16.trans g21
 have l26:=g_25.1
 have o27:=o_11.grow g21
 have w28:=o27.lt
 have w347:=o22.lt
 refine ⟨_,_,o22.ownB ω3 rfl,(z2h (i_odd.grow g_25)),(fun h=>by cases h),ω25,?_⟩
 refine Ap.app o22 rfl rfl (fun b33 H_4 q345 hl_29 o30 k31=>?_)
 have o30:=z2a o30
 have l34:=k31.1
 have g35:=g_25.keep (b:=b18) ω2 k31
 have l36:=g35.1
 have o37:=o27.keep ω2 k31
 have w38:=o37.lt
 have w346:=o30.lt
 refine Br.intro (fun c39=>?_) (fun c39=>?_)
 ·have e:=e.trans (zw c39)
  have c_39':=odt c39
  refine z1hp _ _ _ _ _ (fun (μ:Nat) (i:Int) (H_5:zn)=>∃(y1_1 y1_2:LN),Own H_5 b_14 (y1_1.map fF)∧y1_1.length=(0+(nd).length)∧Own H_5 b33 (y1_2.map fF)∧y1_2.length=(0+(df).length)∧(b33≠b_14)∧Grow H H_5∧(0:Int)≤i∧i≤(0+nd.length:Int)∧(0+nd.length:Int)-i≤(μ:Int)∧z8g aa oa nd df=z8h aa oa nd df (μ+1) i y1_1 y1_2) (Int.toNat ((0+nd.length:Int)-(0:Int))) _ H_4 ?_ ?_
  ·exact ⟨_,_,o37,ω17,o30,ω17,ω2,g35,ω7,ω7,ω2,e⟩
  ·intro μ i  H_5 hI
   obtain ⟨y1_1,y1_2,o40,y41,o42,y43,n44,g45,v_46,v_47,hμ,e⟩:=hI
   rw [z1hw]
   have e:=e.trans (z9z aa oa nd df μ i y1_1 y1_2)
   have w48:=o40.lt
   have w49:=o42.lt
   have l50:=g45.1
   refine Br.intro (fun c51=>?_) (fun c51=>?_)
   ·have e:=e.trans (zw c51)
    have c_51':=odt c51
    refine ⟨by omega,ω2,_,_,rfl,?_⟩
    refine ⟨((y1_1).getD (i:Int).toNat 0),o40.rd ω0 _,?_⟩
    refine ⟨oa,(z1g (zq g45 i_s) 1 (nbl rfl)).trans rfl,?_⟩
    refine ⟨by omega,ω2,_,_,rfl,?_⟩
    refine Lt.set o40 ω11 (fun H_6 hl_52 o54 k53=>?_)
    have o54:=map_set o54
    have l55:=k53.1
    have g56:=g45.keep (b:=b_14) ω2 k53
    have l57:=g56.1
    have o58:=o42.keep ω2 k53
    have w59:=o58.lt
    have w60:=o54.lt
    rw [show IntKind.wrap .i64 (i+1)=(i+1) from zp ω2 ω2]
    refine z1hs (μ-1) ω16 ⟨_,_,o54,ω14,o58,ω14,ω2,g56,ω1,ω1,ω16,ω13⟩
   ·have e:=e.trans (zv c51)
    have c_51':=odf c51
    rw [z13f]
    refine z1hq _ _ _ _ _ (fun (μ2:Nat) (ze:Int) (H_7:zn)=>∃(y2_1 y2_2:LN),Own H_7 b_14 (y2_1.map fF)∧y2_1.length=(0+(nd).length)∧Own H_7 b33 (y2_2.map fF)∧y2_2.length=(0+(df).length)∧(b33≠b_14)∧Grow H H_7∧(0:Int)≤ze∧ze≤(0+df.length:Int)∧(0+df.length:Int)-ze≤(μ2:Int)∧z8g aa oa nd df=zbn aa oa nd df i y1_1 y1_2 (fun (ze:Int) (y2_1:LN) (y2_2:LN)=>(z8i aa oa nd df i y1_1 y1_2 ze y2_1 y2_2 (fun (k:Int) (y3_1:LN) (y3_2:LN)=>(z5h aa oa nd df i y1_1 y1_2 ze y2_1 y2_2 k y3_1 y3_2 (fun (kg:LN) (qg:Int)=>(bif (z5v kg).2 then (kg,true) else ([],false))) (Int.toNat ((0+nd.length:Int)-(0:Int))+1) ([]:LN) (0:Int))) (Int.toNat (((((aa.length:Int)-1)))-0+1)+1) ((((aa.length:Int)-1))) y2_1 y2_2)) (μ2+1) ze y2_1 y2_2) (Int.toNat ((0+df.length:Int)-(0:Int))) _ H_5 ?_ ?_
    ·exact ⟨_,_,o40,ω17,o42,ω17,ω2,g45,ω7,ω7,ω2,e⟩
    ·intro μ2 ze  H_7 hI
     obtain ⟨y2_1,y2_2,o61,y62,o63,y64,n65,g66,v_67,v_68,hμ,e⟩:=hI
     rw [z1hx]
     have e:=e.trans (zgq aa oa nd df i y1_1 y1_2 (fun (ze:Int) (y2_1:LN) (y2_2:LN)=>(z8i aa oa nd df i y1_1 y1_2 ze y2_1 y2_2 (fun (k:Int) (y3_1:LN) (y3_2:LN)=>(z5h aa oa nd df i y1_1 y1_2 ze y2_1 y2_2 k y3_1 y3_2 (fun (kg:LN) (qg:Int)=>(bif (z5v kg).2 then (kg,true) else ([],false))) (Int.toNat ((0+nd.length:Int)-(0:Int))+1) ([]:LN) (0:Int))) (Int.toNat (((((aa.length:Int)-1)))-0+1)+1) ((((aa.length:Int)-1))) y2_1 y2_2)) μ2 ze y2_1 y2_2)
     have w69:=o61.lt
     have w70:=o63.lt
     have l71:=g66.1
     refine Br.intro (fun c72=>?_) (fun c72=>?_)
     ·have e:=e.trans (zw c72)
      have c_72':=odt c72
      refine ⟨by omega,ω2,_,_,rfl,?_⟩
      refine ⟨((y2_2).getD (ze:Int).toNat 0),o63.rd ω0 _,?_⟩
      refine ⟨oa,(z1g (zq g66 i_s) 1 (nbl rfl)).trans rfl,?_⟩
      refine ⟨by omega,ω2,_,_,rfl,?_⟩
      refine Lt.set o63 ω11 (fun H_8 hl_73 o75 k74=>?_)
      have o75:=map_set o75
      have l76:=k74.1
      have g77:=g66.keep (b:=b33) ω2 k74
      have l78:=g77.1
      have o79:=o61.keep ω2 k74
      have w80:=o79.lt
      have w81:=o75.lt
      rw [show IntKind.wrap .i64 (ze+1)=(ze+1) from zp ω2 ω2]
      refine z1ht (μ2-1) ω16 ⟨_,_,o79,ω14,o75,ω14,ω2,g77,ω1,ω1,ω16,ω28⟩
     ·have e:=e.trans (zv c72)
      have c_72':=odf c72
      rw [z13g]
      refine ⟨db,aa.length,lb,(z1g (zq g66 i_s) 0 (nbl rfl)).trans rfl,?_⟩
      rw [show IntKind.wrap .i64 ((aa.length:Int)-1)=((aa.length:Int)-1) from zp ω2 ω2]
      refine z1hr _ _ _ _ _ (fun (μ3:Nat) (k:Int) (H_9:zn)=>∃(y3_1 y3_2:LN),Own H_9 b_14 (y3_1.map fF)∧y3_1.length=(0+(nd).length)∧Own H_9 b33 (y3_2.map fF)∧y3_2.length=(0+(df).length)∧(b33≠b_14)∧Grow H H_9∧k≤(((aa.length:Int)-1))∧k-0+1≤(μ3:Int)∧z8g aa oa nd df=z8i aa oa nd df i y1_1 y1_2 ze y2_1 y2_2 (fun (k:Int) (y3_1:LN) (y3_2:LN)=>(z5h aa oa nd df i y1_1 y1_2 ze y2_1 y2_2 k y3_1 y3_2 (fun (kg:LN) (qg:Int)=>(bif (z5v kg).2 then (kg,true) else ([],false))) (Int.toNat ((0+nd.length:Int)-(0:Int))+1) ([]:LN) (0:Int))) (μ3+1) k y3_1 y3_2) (Int.toNat (((((aa.length:Int)-1)))-0+1)) _ H_7 ?_ ?_
      ·exact ⟨_,_,o61,ω17,o63,ω17,ω2,g66,ω7,ω2,e⟩
      ·intro μ3 k  H_9 hI
       obtain ⟨y3_1,y3_2,o82,y83,o84,y85,n86,g87,v88,hμ,e⟩:=hI
       rw [z1hy]
       have e:=e.trans (zgr aa oa nd df i y1_1 y1_2 ze y2_1 y2_2 (fun (k:Int) (y3_1:LN) (y3_2:LN)=>(z5h aa oa nd df i y1_1 y1_2 ze y2_1 y2_2 k y3_1 y3_2 (fun (kg:LN) (qg:Int)=>(bif (z5v kg).2 then (kg,true) else ([],false))) (Int.toNat ((0+nd.length:Int)-(0:Int))+1) ([]:LN) (0:Int))) μ3 k y3_1 y3_2)
       have w89:=o82.lt
       have w90:=o84.lt
       have l91:=g87.1
       refine Br.intro (fun c92=>?_) (fun c92=>?_)
       ·have e:=e.trans (zw c92)
        have c_92':=odt c92
        refine ⟨db,aa.length,lb,(z1g (zq g87 i_s) 0 (nbl rfl)).trans rfl,?_⟩
        obtain ⟨b93,f_94,q95⟩:=((yb.grow g87)).pos ω0
        refine ⟨by omega,by omega,b93,f_94,q95,?_⟩
        refine ⟨((aa).getD (k:Int).toNat 0),(yb).rd g87 q95 ω2 _,?_⟩
        refine zoc ⟨_,_,_,_,(o82.ownS ω6 (Nat.le_refl _)),(o84.ownS ω6 (Nat.le_refl _)),(fun x y hx hy=>by cases hx;cases hy;intro hh;dsimp only at hh;omega),ω0,ω0,ω10,ω10,(fun H_11 k96 o97 o98=>?_)⟩
        obtain ⟨H_10,k99,k100⟩:=k96.split
        have k101:=k99.keep1
        have l102:=k101.1
        have g103:=g87.keep (b:=b_14) ω2 k101
        have l104:=g103.1
        have o105:=o84.keep ω2 k101
        have w106:=o105.lt
        have k107:=k100.keep1
        have l108:=k107.1
        have g109:=g103.keep (b:=b33) ω2 k107
        have l110:=g109.1
        have o111:=o97.own1
        have w112:=o111.lt
        have o113:=o98.own1
        have w114:=o113.lt
        rw [show IntKind.wrap .i64 (k-1)=(k-1) from zp ω2 ω2]
        refine z1hu (μ3-1) ω16 ⟨_,_,o111,ω14,o113,ω14,ω2,g109,ω1,ω16,ω29⟩
       ·have e:=e.trans (zv c92)
        have c_92':=odf c92
        rw [z13h]
        refine Al.intro (fun b115 H_12 hb_116 hl_117 g118 o119=>?_)
        have o119:Own H_12 b115 ((([]:LN)).map fF):=o119
        have l121:=g118.1
        have g122:=g87.trans g118
        have l123:=g122.1
        have o124:=o82.grow g118
        have w125:=o124.lt
        have o126:=o84.grow g118
        have w127:=o126.lt
        have w229:=o119.lt
        refine z19v _ _ _ _ (fun (μ4:Nat) (tf:OA) (mf:Nat) (ag:Nat) (qg:Int) (H_13:zn)=>∃kg:LN,∃b128:Nat,tf=some ⟨b128,0,none⟩∧mf=kg.length∧ag=1∧Own H_13 b128 (kg.map fF)∧Own H_13 b_14 ((y3_1).map fF)∧Own H_13 b33 ((y3_2).map fF)∧(b33≠b_14)∧(b128≠b_14)∧(b128≠b33)∧Grow H H_13∧H.length≤b128∧(0:Int)≤qg∧qg≤(0+nd.length:Int)∧(kg.length:Int)≤2*(qg)∧(0+nd.length:Int)-qg≤(μ4:Int)∧z8g aa oa nd df=z5h aa oa nd df i y1_1 y1_2 ze y2_1 y2_2 k y3_1 y3_2 (fun (kg:LN) (qg:Int)=>(bif (z5v kg).2 then (kg,true) else ([],false))) (μ4+1) kg qg) (Int.toNat ((0+nd.length:Int)-(0:Int))) _ _ _ _ H_12 ?_ ?_
        ·exact ⟨_,_,rfl,ω5,rfl,o119,o124,o126,ω2,ω2,ω2,g122,ω2,ω7,ω7,ω7,ω2,e⟩
        ·intro μ4 tf mf ag qg  H_13 hI
         obtain ⟨kg,b128,rfl,rfl,rfl,o129,o130,o131,n132,n133,n134,g135,l136,v137,v138,v139,hμ,e⟩:=hI
         rw [z19w]
         have e:=e.trans (zgs aa oa nd df i y1_1 y1_2 ze y2_1 y2_2 k y3_1 y3_2 (fun (kg:LN) (qg:Int)=>(bif (z5v kg).2 then (kg,true) else ([],false))) μ4 kg qg)
         have w140:=o130.lt
         have w141:=o131.lt
         have w142:=o129.lt
         have l143:=g135.1
         refine Br.intro (fun c144=>?_) (fun c144=>?_)
         ·have e:=e.trans (zw c144)
          have c_144':=odt c144
          refine ⟨by omega,ω2,_,_,rfl,?_⟩
          refine ⟨((y3_1).getD (qg:Int).toNat 0),o130.rd ω0 _,?_⟩
          refine Al.intro (fun b145 H_14 hb_146 hl_147 g148 o149=>?_)
          have o149:Own H_14 b145 (([(((y3_1).getD (qg:Int).toNat 0))]).map fF):=o149
          have l151:=g148.1
          have g152:=g135.trans g148
          have l153:=g152.1
          have o154:=o130.grow g148
          have w155:=o154.lt
          have o156:=o131.grow g148
          have w157:=o156.lt
          have o158:=o129.grow g148
          have w159:=o158.lt
          have w213:=o149.lt
          refine ⟨_,_,o158.ownB ω3 rfl,(z2h (o149.isL ω5)),(fun h=>by cases h),ω25,?_⟩
          refine Ap.app o158 rfl rfl (fun b164 H_15 q211 hl_160 o161 k162=>?_)
          have o161:=z2a o161
          have l165:=k162.1
          have g166:=g152.keep (b:=b128) ω2 k162
          have l167:=g166.1
          have o168:=o154.keep ω2 k162
          have w169:=o168.lt
          have o170:=o156.keep ω2 k162
          have w171:=o170.lt
          have o172:=o149.keep ω2 k162
          have w173:=o172.lt
          have w212:=o161.lt
          refine Br.intro (fun c174=>?_) (fun c174=>?_)
          ·have e:=e.trans (zw c174)
           have c_174':=odt c174
           refine ⟨by omega,ω2,_,_,rfl,?_⟩
           refine ⟨((y3_2).getD (qg:Int).toNat 0),o170.rd ω0 _,?_⟩
           refine Al.intro (fun b175 H_16 hb_176 hl_177 g178 o179=>?_)
           have o179:Own H_16 b175 (([(((y3_2).getD (qg:Int).toNat 0))]).map fF):=o179
           have l181:=g178.1
           have g182:=g166.trans g178
           have l183:=g182.1
           have o184:=o168.grow g178
           have w185:=o184.lt
           have o186:=o170.grow g178
           have w187:=o186.lt
           have o188:=o172.grow g178
           have w189:=o188.lt
           have o190:=o161.grow g178
           have w191:=o190.lt
           have w210:=o179.lt
           refine ⟨_,_,o190.ownB ω3 rfl,(z2h (o179.isL ω5)),(fun h=>by cases h),ω25,?_⟩
           refine Ap.app o190 rfl rfl (fun b196 H_17 q208 hl_192 o193 k194=>?_)
           have o193:=z2a o193
           have l197:=k194.1
           have g198:=g182.keep (b:=b164) ω2 k194
           have l199:=g198.1
           have o200:=o184.keep ω2 k194
           have w201:=o200.lt
           have o202:=o186.keep ω2 k194
           have w203:=o202.lt
           have o204:=o188.keep ω2 k194
           have w205:=o204.lt
           have o206:=o179.keep ω2 k194
           have w207:=o206.lt
           have w209:=o193.lt
           rw [show IntKind.wrap .i64 (qg+1)=(qg+1) from zp ω2 ω2]
           refine zp2 (μ4-1) ω16 ⟨_,_,rfl,ω6,rfl,o193,o200,o202,ω2,ω2,ω2,g198,ω2,ω1,ω1,ω1,ω16,ω30⟩
          ·have e:=e.trans (zv c174)
           have c_174':=odf c174
           rw [show IntKind.wrap .i64 (qg+1)=(qg+1) from zp ω2 ω2]
           refine zp2 (μ4-1) ω16 ⟨_,_,rfl,ω6,rfl,o161,o168,o170,ω2,ω2,ω2,g166,ω2,ω1,ω1,ω1,ω16,ω30⟩
         ·have e:=e.trans (zv c144)
          have c_144':=odf c144
          rw [zp3]
          refine zog ⟨_,(o129.isL ω5),ω0,(fun H_18 g218=>?_)⟩
          have l220:=g218.1
          have g221:=g135.trans g218
          have l222:=g221.1
          have o223:=o130.grow g218
          have w224:=o223.lt
          have o225:=o131.grow g218
          have w226:=o225.lt
          have o227:=o129.grow g218
          have w228:=o227.lt
          refine Br.intro (fun c219=>?_) (fun c219=>?_)
          ·have e:=e.trans (zw c219)
           rw [e] at hk
           exact hk _ _ _ H_18 g221 (o227.ownS ω5 ω2)
          ·have e:=e.trans (zv c219)
           rw [e] at hk
           exact hk _ _ _ H_18 g221 ω21
 ·have e:=e.trans (zv c39)
  have c_39':=odf c39
  refine Al.intro (fun b230 H_19 hb_231 hl_232 g233 o234=>?_)
  have o234:Own H_19 b230 ((([]:LN)).map fF):=o234
  have l236:=g233.1
  have g237:=g35.trans g233
  have l238:=g237.1
  have o239:=o37.grow g233
  have w240:=o239.lt
  have o241:=o30.grow g233
  have w242:=o241.lt
  have w344:=o234.lt
  refine z19v _ _ _ _ (fun (μ:Nat) (tf:OA) (mf:Nat) (ag:Nat) (qg:Int) (H_20:zn)=>∃kg:LN,∃b243:Nat,tf=some ⟨b243,0,none⟩∧mf=kg.length∧ag=1∧Own H_20 b243 (kg.map fF)∧Own H_20 b_14 (((([]:LN)++nd)).map fF)∧Own H_20 b33 (((([]:LN)++df)).map fF)∧(b33≠b_14)∧(b243≠b_14)∧(b243≠b33)∧Grow H H_20∧H.length≤b243∧(0:Int)≤qg∧qg≤(0+nd.length:Int)∧(kg.length:Int)≤2*(qg)∧(0+nd.length:Int)-qg≤(μ:Int)∧z8g aa oa nd df=z7r aa oa nd df (μ+1) kg qg) (Int.toNat ((0+nd.length:Int)-(0:Int))) _ _ _ _ H_19 ?_ ?_
  ·exact ⟨_,_,rfl,ω5,rfl,o234,o239,o241,ω2,ω2,ω2,g237,ω2,ω7,ω7,ω7,ω2,e⟩
  ·intro μ tf mf ag qg  H_20 hI
   obtain ⟨kg,b243,rfl,rfl,rfl,o244,o245,o246,n247,n248,n249,g250,l251,v252,v253,v254,hμ,e⟩:=hI
   rw [z19w]
   have e:=e.trans (zeu aa oa nd df μ kg qg)
   have w255:=o245.lt
   have w256:=o246.lt
   have w257:=o244.lt
   have l258:=g250.1
   refine Br.intro (fun c259=>?_) (fun c259=>?_)
   ·have e:=e.trans (zw c259)
    have c_259':=odt c259
    refine ⟨by omega,ω2,_,_,rfl,?_⟩
    refine ⟨(((([]:LN)++nd)).getD (qg:Int).toNat 0),o245.rd ω0 _,?_⟩
    refine Al.intro (fun b260 H_21 hb_261 hl_262 g263 o264=>?_)
    have o264:Own H_21 b260 (([((((([]:LN)++nd)).getD (qg:Int).toNat 0))]).map fF):=o264
    have l266:=g263.1
    have g267:=g250.trans g263
    have l268:=g267.1
    have o269:=o245.grow g263
    have w270:=o269.lt
    have o271:=o246.grow g263
    have w272:=o271.lt
    have o273:=o244.grow g263
    have w274:=o273.lt
    have w328:=o264.lt
    refine ⟨_,_,o273.ownB ω3 rfl,(z2h (o264.isL ω5)),(fun h=>by cases h),ω25,?_⟩
    refine Ap.app o273 rfl rfl (fun b279 H_22 q326 hl_275 o276 k277=>?_)
    have o276:=z2a o276
    have l280:=k277.1
    have g281:=g267.keep (b:=b243) ω2 k277
    have l282:=g281.1
    have o283:=o269.keep ω2 k277
    have w284:=o283.lt
    have o285:=o271.keep ω2 k277
    have w286:=o285.lt
    have o287:=o264.keep ω2 k277
    have w288:=o287.lt
    have w327:=o276.lt
    refine Br.intro (fun c289=>?_) (fun c289=>?_)
    ·have e:=e.trans (zw c289)
     have c_289':=odt c289
     refine ⟨by omega,ω2,_,_,rfl,?_⟩
     refine ⟨(((([]:LN)++df)).getD (qg:Int).toNat 0),o285.rd ω0 _,?_⟩
     refine Al.intro (fun b290 H_23 hb_291 hl_292 g293 o294=>?_)
     have o294:Own H_23 b290 (([((((([]:LN)++df)).getD (qg:Int).toNat 0))]).map fF):=o294
     have l296:=g293.1
     have g297:=g281.trans g293
     have l298:=g297.1
     have o299:=o283.grow g293
     have w300:=o299.lt
     have o301:=o285.grow g293
     have w302:=o301.lt
     have o303:=o287.grow g293
     have w304:=o303.lt
     have o305:=o276.grow g293
     have w306:=o305.lt
     have w325:=o294.lt
     refine ⟨_,_,o305.ownB ω3 rfl,(z2h (o294.isL ω5)),(fun h=>by cases h),ω25,?_⟩
     refine Ap.app o305 rfl rfl (fun b311 H_24 q323 hl_307 o308 k309=>?_)
     have o308:=z2a o308
     have l312:=k309.1
     have g313:=g297.keep (b:=b279) ω2 k309
     have l314:=g313.1
     have o315:=o299.keep ω2 k309
     have w316:=o315.lt
     have o317:=o301.keep ω2 k309
     have w318:=o317.lt
     have o319:=o303.keep ω2 k309
     have w320:=o319.lt
     have o321:=o294.keep ω2 k309
     have w322:=o321.lt
     have w324:=o308.lt
     rw [show IntKind.wrap .i64 (qg+1)=(qg+1) from zp ω2 ω2]
     refine zp2 (μ-1) ω16 ⟨_,_,rfl,ω6,rfl,o308,o315,o317,ω2,ω2,ω2,g313,ω2,ω1,ω1,ω1,ω16,ω13⟩
    ·have e:=e.trans (zv c289)
     have c_289':=odf c289
     rw [show IntKind.wrap .i64 (qg+1)=(qg+1) from zp ω2 ω2]
     refine zp2 (μ-1) ω16 ⟨_,_,rfl,ω6,rfl,o276,o283,o285,ω2,ω2,ω2,g281,ω2,ω1,ω1,ω1,ω16,ω13⟩
   ·have e:=e.trans (zv c259)
    have c_259':=odf c259
    rw [zp3]
    refine zog ⟨_,(o244.isL ω5),ω0,(fun H_25 g333=>?_)⟩
    have l335:=g333.1
    have g336:=g250.trans g333
    have l337:=g336.1
    have o338:=o245.grow g333
    have w339:=o338.lt
    have o340:=o246.grow g333
    have w341:=o340.lt
    have o342:=o244.grow g333
    have w343:=o342.lt
    refine Br.intro (fun c334=>?_) (fun c334=>?_)
    ·have e:=e.trans (zw c334)
     rw [e] at hk
     exact hk _ _ _ H_25 g336 (o342.ownS ω5 ω2)
    ·have e:=e.trans (zv c334)
     rw [e] at hk
     exact hk _ _ _ H_25 g336 ω21
theorem z1hv:FnOk Tryz.prog 167 S_fez:=FnOk.bodyF mix_ok zzu Tryz.func167 rfl ω9 ω9 fun args H=>by
 unfold F_fez
 split
 ·refine ⟨?_,?_,?_,?_,fun K hk=>z13e _ _ _ _ _ _ _ H K hk⟩
  ·intro K K' h hk;obtain ⟨db,jb,lb,oa,aa,nd,df,i_s,yb,i_even,i_odd,bd_351,bd_352,bd_353,pr0,pr1,pr2,k⟩:=hk;exact ⟨db,jb,lb,oa,aa,nd,df,i_s,yb,i_even,i_odd,bd_351,bd_352,bd_353,pr0,pr1,pr2,(fun jd pd od H' gg ow0=>h _ _ (k jd pd od H' gg ow0))⟩
  ·nofun
  ·intro K hk;obtain ⟨db,jb,lb,oa,aa,nd,df,i_s,yb,i_even,i_odd,bd_351,bd_352,bd_353,pr0,pr1,pr2,k⟩:=hk;exact z5q fun a n e H1 g o=>⟨_,_,k a n e H1 g o⟩
  ·intro _ K hk;obtain ⟨db,jb,lb,oa,aa,nd,df,i_s,yb,i_even,i_odd,bd_351,bd_352,bd_353,pr0,pr1,pr2,k⟩:=hk;exact ⟨db,jb,lb,oa,aa,nd,df,i_s,yb,i_even,i_odd,bd_351,bd_352,bd_353,pr0,pr1,pr2,(fun jd pd od H' gg ow0=>⟨gg,k jd pd od H' gg ow0⟩)⟩
 ·exact Nice.no
end Go.Proofs.YthheoefadijhdaaGreat.Ai
