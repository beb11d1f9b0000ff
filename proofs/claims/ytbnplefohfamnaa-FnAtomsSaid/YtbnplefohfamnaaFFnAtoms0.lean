/- What functions of the program come to on the abstract machine, and that they do so; printed by a program of mine around proofs of mine. -/
import Derived.Test.YtbnplefohfamnaaProg
import Derived.Test.YtbnplefohfamnaaFFnAtomsLv
import Derived.Test.YtbnplefohfamnaaFFnAtomsOl
import Derived.Test.YtbnplefohfamnaaFFnAtomsRa
import Derived.Test.YtbnplefohfamnaaFFnAtomsSo
import Derived.Test.YtbnplefohfamnaaFFnAtomsSt
set_option linter.unusedVariables false
set_option linter.unusedSimpArgs false
set_option linter.defProp false
set_option maxRecDepth 100000
set_option maxHeartbeats 1000000
namespace Go.Proofs.Ytbnplefohfamnaa.Ai
open Go
attribute [local irreducible] z1a zk
theorem mix_ok:Try.prog.follows .mixedOrders=true:=by kernel_rfl
theorem nbl {a b:Nat} (h:Nat.ble a b=true):a≤b:=Nat.le_of_ble_eq_true h
theorem dct {p:Prop} [Decidable p] (h:p):decide p=true:=decide_eq_true h
theorem dcf {p:Prop} [Decidable p] (h:¬p):decide p=false:=decide_eq_false h
theorem odt {p:Prop} [Decidable p] (h:decide p=true):p:=of_decide_eq_true h
theorem odf {p:Prop} [Decidable p] (h:decide p=false):¬p:=of_decide_eq_false h
abbrev OA:=Option Addr
abbrev LN:=List Nat
abbrev KT:=Value→zd→Prop
abbrev ud2 (l:List Value):List Value:=ud::ud::l
abbrev ud3 (l:List Value):List Value:=ud::ud::ud::l
abbrev ud4 (l:List Value):List Value:=ud::ud::ud::ud::l
abbrev ud5 (l:List Value):List Value:=ud::ud::ud::ud::ud::l
abbrev ud6 (l:List Value):List Value:=ud::ud::ud::ud::ud::ud::l
abbrev ud7 (l:List Value):List Value:=ud::ud::ud::ud::ud::ud::ud::l
abbrev ud8 (l:List Value):List Value:=ud::ud::ud::ud::ud::ud::ud::ud::l
abbrev ud9 (l:List Value):List Value:=ud::ud::ud::ud::ud::ud::ud::ud::ud::l
abbrev ud10 (l:List Value):List Value:=ud::ud::ud::ud::ud::ud::ud::ud::ud::ud::l
abbrev ud11 (l:List Value):List Value:=ud::ud::ud::ud::ud::ud::ud::ud::ud::ud::ud::l
abbrev ud12 (l:List Value):List Value:=ud::ud::ud::ud::ud::ud::ud::ud::ud::ud::ud::ud::l
abbrev ud13 (l:List Value):List Value:=ud::ud::ud::ud::ud::ud::ud::ud::ud::ud::ud::ud::ud::l
abbrev ud14 (l:List Value):List Value:=ud::ud::ud::ud::ud::ud::ud::ud::ud::ud::ud::ud::ud::ud::l
abbrev ud15 (l:List Value):List Value:=ud::ud::ud::ud::ud::ud::ud::ud::ud::ud::ud::ud::ud::ud::ud::l
abbrev ud16 (l:List Value):List Value:=ud::ud::ud::ud::ud::ud::ud::ud::ud::ud::ud::ud::ud::ud::ud::ud::l
abbrev ud17 (l:List Value):List Value:=ud::ud::ud::ud::ud::ud::ud::ud::ud::ud::ud::ud::ud::ud::ud::ud::ud::l
abbrev ud18 (l:List Value):List Value:=ud::ud::ud::ud::ud::ud::ud::ud::ud::ud::ud::ud::ud::ud::ud::ud::ud::ud::l
abbrev ud19 (l:List Value):List Value:=ud::ud::ud::ud::ud::ud::ud::ud::ud::ud::ud::ud::ud::ud::ud::ud::ud::ud::ud::l
abbrev ud20 (l:List Value):List Value:=ud::ud::ud::ud::ud::ud::ud::ud::ud::ud::ud::ud::ud::ud::ud::ud::ud::ud::ud::ud::l
abbrev ud21 (l:List Value):List Value:=ud::ud::ud::ud::ud::ud::ud::ud::ud::ud::ud::ud::ud::ud::ud::ud::ud::ud::ud::ud::ud::l
abbrev ud22 (l:List Value):List Value:=ud::ud::ud::ud::ud::ud::ud::ud::ud::ud::ud::ud::ud::ud::ud::ud::ud::ud::ud::ud::ud::ud::l
abbrev ud24 (l:List Value):List Value:=ud::ud::ud::ud::ud::ud::ud::ud::ud::ud::ud::ud::ud::ud::ud::ud::ud::ud::ud::ud::ud::ud::ud::ud::l
abbrev ud26 (l:List Value):List Value:=ud::ud::ud::ud::ud::ud::ud::ud::ud::ud::ud::ud::ud::ud::ud::ud::ud::ud::ud::ud::ud::ud::ud::ud::ud::ud::l
abbrev ud27 (l:List Value):List Value:=ud::ud::ud::ud::ud::ud::ud::ud::ud::ud::ud::ud::ud::ud::ud::ud::ud::ud::ud::ud::ud::ud::ud::ud::ud::ud::ud::l
abbrev ud30 (l:List Value):List Value:=ud::ud::ud::ud::ud::ud::ud::ud::ud::ud::ud::ud::ud::ud::ud::ud::ud::ud::ud::ud::ud::ud::ud::ud::ud::ud::ud::ud::ud::ud::l
abbrev ud31 (l:List Value):List Value:=ud::ud::ud::ud::ud::ud::ud::ud::ud::ud::ud::ud::ud::ud::ud::ud::ud::ud::ud::ud::ud::ud::ud::ud::ud::ud::ud::ud::ud::ud::ud::l
abbrev ud33 (l:List Value):List Value:=ud::ud::ud::ud::ud::ud::ud::ud::ud::ud::ud::ud::ud::ud::ud::ud::ud::ud::ud::ud::ud::ud::ud::ud::ud::ud::ud::ud::ud::ud::ud::ud::ud::l
abbrev ud37 (l:List Value):List Value:=ud::ud::ud::ud::ud::ud::ud::ud::ud::ud::ud::ud::ud::ud::ud::ud::ud::ud::ud::ud::ud::ud::ud::ud::ud::ud::ud::ud::ud::ud::ud::ud::ud::ud::ud::ud::ud::l
abbrev ud38 (l:List Value):List Value:=ud::ud::ud::ud::ud::ud::ud::ud::ud::ud::ud::ud::ud::ud::ud::ud::ud::ud::ud::ud::ud::ud::ud::ud::ud::ud::ud::ud::ud::ud::ud::ud::ud::ud::ud::ud::ud::ud::l
abbrev ud39 (l:List Value):List Value:=ud::ud::ud::ud::ud::ud::ud::ud::ud::ud::ud::ud::ud::ud::ud::ud::ud::ud::ud::ud::ud::ud::ud::ud::ud::ud::ud::ud::ud::ud::ud::ud::ud::ud::ud::ud::ud::ud::ud::l
abbrev ud40 (l:List Value):List Value:=ud::ud::ud::ud::ud::ud::ud::ud::ud::ud::ud::ud::ud::ud::ud::ud::ud::ud::ud::ud::ud::ud::ud::ud::ud::ud::ud::ud::ud::ud::ud::ud::ud::ud::ud::ud::ud::ud::ud::ud::l
abbrev ud41 (l:List Value):List Value:=ud::ud::ud::ud::ud::ud::ud::ud::ud::ud::ud::ud::ud::ud::ud::ud::ud::ud::ud::ud::ud::ud::ud::ud::ud::ud::ud::ud::ud::ud::ud::ud::ud::ud::ud::ud::ud::ud::ud::ud::ud::l
abbrev ud43 (l:List Value):List Value:=ud::ud::ud::ud::ud::ud::ud::ud::ud::ud::ud::ud::ud::ud::ud::ud::ud::ud::ud::ud::ud::ud::ud::ud::ud::ud::ud::ud::ud::ud::ud::ud::ud::ud::ud::ud::ud::ud::ud::ud::ud::ud::ud::l
abbrev ud45 (l:List Value):List Value:=ud::ud::ud::ud::ud::ud::ud::ud::ud::ud::ud::ud::ud::ud::ud::ud::ud::ud::ud::ud::ud::ud::ud::ud::ud::ud::ud::ud::ud::ud::ud::ud::ud::ud::ud::ud::ud::ud::ud::ud::ud::ud::ud::ud::ud::l
abbrev ud48 (l:List Value):List Value:=ud::ud::ud::ud::ud::ud::ud::ud::ud::ud::ud::ud::ud::ud::ud::ud::ud::ud::ud::ud::ud::ud::ud::ud::ud::ud::ud::ud::ud::ud::ud::ud::ud::ud::ud::ud::ud::ud::ud::ud::ud::ud::ud::ud::ud::ud::ud::ud::l
abbrev ud50 (l:List Value):List Value:=ud::ud::ud::ud::ud::ud::ud::ud::ud::ud::ud::ud::ud::ud::ud::ud::ud::ud::ud::ud::ud::ud::ud::ud::ud::ud::ud::ud::ud::ud::ud::ud::ud::ud::ud::ud::ud::ud::ud::ud::ud::ud::ud::ud::ud::ud::ud::ud::ud::ud::l
abbrev ud51 (l:List Value):List Value:=ud::ud::ud::ud::ud::ud::ud::ud::ud::ud::ud::ud::ud::ud::ud::ud::ud::ud::ud::ud::ud::ud::ud::ud::ud::ud::ud::ud::ud::ud::ud::ud::ud::ud::ud::ud::ud::ud::ud::ud::ud::ud::ud::ud::ud::ud::ud::ud::ud::ud::ud::l
abbrev ud53 (l:List Value):List Value:=ud::ud::ud::ud::ud::ud::ud::ud::ud::ud::ud::ud::ud::ud::ud::ud::ud::ud::ud::ud::ud::ud::ud::ud::ud::ud::ud::ud::ud::ud::ud::ud::ud::ud::ud::ud::ud::ud::ud::ud::ud::ud::ud::ud::ud::ud::ud::ud::ud::ud::ud::ud::ud::l
abbrev ud54 (l:List Value):List Value:=ud::ud::ud::ud::ud::ud::ud::ud::ud::ud::ud::ud::ud::ud::ud::ud::ud::ud::ud::ud::ud::ud::ud::ud::ud::ud::ud::ud::ud::ud::ud::ud::ud::ud::ud::ud::ud::ud::ud::ud::ud::ud::ud::ud::ud::ud::ud::ud::ud::ud::ud::ud::ud::ud::l
abbrev ud56 (l:List Value):List Value:=ud::ud::ud::ud::ud::ud::ud::ud::ud::ud::ud::ud::ud::ud::ud::ud::ud::ud::ud::ud::ud::ud::ud::ud::ud::ud::ud::ud::ud::ud::ud::ud::ud::ud::ud::ud::ud::ud::ud::ud::ud::ud::ud::ud::ud::ud::ud::ud::ud::ud::ud::ud::ud::ud::ud::ud::l
abbrev ud57 (l:List Value):List Value:=ud::ud::ud::ud::ud::ud::ud::ud::ud::ud::ud::ud::ud::ud::ud::ud::ud::ud::ud::ud::ud::ud::ud::ud::ud::ud::ud::ud::ud::ud::ud::ud::ud::ud::ud::ud::ud::ud::ud::ud::ud::ud::ud::ud::ud::ud::ud::ud::ud::ud::ud::ud::ud::ud::ud::ud::ud::l
abbrev ud60 (l:List Value):List Value:=ud::ud::ud::ud::ud::ud::ud::ud::ud::ud::ud::ud::ud::ud::ud::ud::ud::ud::ud::ud::ud::ud::ud::ud::ud::ud::ud::ud::ud::ud::ud::ud::ud::ud::ud::ud::ud::ud::ud::ud::ud::ud::ud::ud::ud::ud::ud::ud::ud::ud::ud::ud::ud::ud::ud::ud::ud::ud::ud::ud::l
abbrev ud64 (l:List Value):List Value:=ud::ud::ud::ud::ud::ud::ud::ud::ud::ud::ud::ud::ud::ud::ud::ud::ud::ud::ud::ud::ud::ud::ud::ud::ud::ud::ud::ud::ud::ud::ud::ud::ud::ud::ud::ud::ud::ud::ud::ud::ud::ud::ud::ud::ud::ud::ud::ud::ud::ud::ud::ud::ud::ud::ud::ud::ud::ud::ud::ud::ud::ud::ud::ud::l
abbrev ud74 (l:List Value):List Value:=ud::ud::ud::ud::ud::ud::ud::ud::ud::ud::ud::ud::ud::ud::ud::ud::ud::ud::ud::ud::ud::ud::ud::ud::ud::ud::ud::ud::ud::ud::ud::ud::ud::ud::ud::ud::ud::ud::ud::ud::ud::ud::ud::ud::ud::ud::ud::ud::ud::ud::ud::ud::ud::ud::ud::ud::ud::ud::ud::ud::ud::ud::ud::ud::ud::ud::ud::ud::ud::ud::ud::ud::ud::ud::l
abbrev ud81 (l:List Value):List Value:=ud::ud::ud::ud::ud::ud::ud::ud::ud::ud::ud::ud::ud::ud::ud::ud::ud::ud::ud::ud::ud::ud::ud::ud::ud::ud::ud::ud::ud::ud::ud::ud::ud::ud::ud::ud::ud::ud::ud::ud::ud::ud::ud::ud::ud::ud::ud::ud::ud::ud::ud::ud::ud::ud::ud::ud::ud::ud::ud::ud::ud::ud::ud::ud::ud::ud::ud::ud::ud::ud::ud::ud::ud::ud::ud::ud::ud::ud::ud::ud::ud::l
abbrev ud89 (l:List Value):List Value:=ud::ud::ud::ud::ud::ud::ud::ud::ud::ud::ud::ud::ud::ud::ud::ud::ud::ud::ud::ud::ud::ud::ud::ud::ud::ud::ud::ud::ud::ud::ud::ud::ud::ud::ud::ud::ud::ud::ud::ud::ud::ud::ud::ud::ud::ud::ud::ud::ud::ud::ud::ud::ud::ud::ud::ud::ud::ud::ud::ud::ud::ud::ud::ud::ud::ud::ud::ud::ud::ud::ud::ud::ud::ud::ud::ud::ud::ud::ud::ud::ud::ud::ud::ud::ud::ud::ud::ud::ud::l
abbrev ud97 (l:List Value):List Value:=ud::ud::ud::ud::ud::ud::ud::ud::ud::ud::ud::ud::ud::ud::ud::ud::ud::ud::ud::ud::ud::ud::ud::ud::ud::ud::ud::ud::ud::ud::ud::ud::ud::ud::ud::ud::ud::ud::ud::ud::ud::ud::ud::ud::ud::ud::ud::ud::ud::ud::ud::ud::ud::ud::ud::ud::ud::ud::ud::ud::ud::ud::ud::ud::ud::ud::ud::ud::ud::ud::ud::ud::ud::ud::ud::ud::ud::ud::ud::ud::ud::ud::ud::ud::ud::ud::ud::ud::ud::ud::ud::ud::ud::ud::ud::ud::ud::l
abbrev ud105 (l:List Value):List Value:=ud::ud::ud::ud::ud::ud::ud::ud::ud::ud::ud::ud::ud::ud::ud::ud::ud::ud::ud::ud::ud::ud::ud::ud::ud::ud::ud::ud::ud::ud::ud::ud::ud::ud::ud::ud::ud::ud::ud::ud::ud::ud::ud::ud::ud::ud::ud::ud::ud::ud::ud::ud::ud::ud::ud::ud::ud::ud::ud::ud::ud::ud::ud::ud::ud::ud::ud::ud::ud::ud::ud::ud::ud::ud::ud::ud::ud::ud::ud::ud::ud::ud::ud::ud::ud::ud::ud::ud::ud::ud::ud::ud::ud::ud::ud::ud::ud::ud::ud::ud::ud::ud::ud::ud::ud::l
abbrev ud117 (l:List Value):List Value:=ud::ud::ud::ud::ud::ud::ud::ud::ud::ud::ud::ud::ud::ud::ud::ud::ud::ud::ud::ud::ud::ud::ud::ud::ud::ud::ud::ud::ud::ud::ud::ud::ud::ud::ud::ud::ud::ud::ud::ud::ud::ud::ud::ud::ud::ud::ud::ud::ud::ud::ud::ud::ud::ud::ud::ud::ud::ud::ud::ud::ud::ud::ud::ud::ud::ud::ud::ud::ud::ud::ud::ud::ud::ud::ud::ud::ud::ud::ud::ud::ud::ud::ud::ud::ud::ud::ud::ud::ud::ud::ud::ud::ud::ud::ud::ud::ud::ud::ud::ud::ud::ud::ud::ud::ud::ud::ud::ud::ud::ud::ud::ud::ud::ud::ud::ud::ud::l
abbrev ud118 (l:List Value):List Value:=ud::ud::ud::ud::ud::ud::ud::ud::ud::ud::ud::ud::ud::ud::ud::ud::ud::ud::ud::ud::ud::ud::ud::ud::ud::ud::ud::ud::ud::ud::ud::ud::ud::ud::ud::ud::ud::ud::ud::ud::ud::ud::ud::ud::ud::ud::ud::ud::ud::ud::ud::ud::ud::ud::ud::ud::ud::ud::ud::ud::ud::ud::ud::ud::ud::ud::ud::ud::ud::ud::ud::ud::ud::ud::ud::ud::ud::ud::ud::ud::ud::ud::ud::ud::ud::ud::ud::ud::ud::ud::ud::ud::ud::ud::ud::ud::ud::ud::ud::ud::ud::ud::ud::ud::ud::ud::ud::ud::ud::ud::ud::ud::ud::ud::ud::ud::ud::ud::l
abbrev ud141 (l:List Value):List Value:=ud::ud::ud::ud::ud::ud::ud::ud::ud::ud::ud::ud::ud::ud::ud::ud::ud::ud::ud::ud::ud::ud::ud::ud::ud::ud::ud::ud::ud::ud::ud::ud::ud::ud::ud::ud::ud::ud::ud::ud::ud::ud::ud::ud::ud::ud::ud::ud::ud::ud::ud::ud::ud::ud::ud::ud::ud::ud::ud::ud::ud::ud::ud::ud::ud::ud::ud::ud::ud::ud::ud::ud::ud::ud::ud::ud::ud::ud::ud::ud::ud::ud::ud::ud::ud::ud::ud::ud::ud::ud::ud::ud::ud::ud::ud::ud::ud::ud::ud::ud::ud::ud::ud::ud::ud::ud::ud::ud::ud::ud::ud::ud::ud::ud::ud::ud::ud::ud::ud::ud::ud::ud::ud::ud::ud::ud::ud::ud::ud::ud::ud::ud::ud::ud::ud::ud::ud::ud::ud::ud::ud::l
abbrev ud242 (l:List Value):List Value:=ud::ud::ud::ud::ud::ud::ud::ud::ud::ud::ud::ud::ud::ud::ud::ud::ud::ud::ud::ud::ud::ud::ud::ud::ud::ud::ud::ud::ud::ud::ud::ud::ud::ud::ud::ud::ud::ud::ud::ud::ud::ud::ud::ud::ud::ud::ud::ud::ud::ud::ud::ud::ud::ud::ud::ud::ud::ud::ud::ud::ud::ud::ud::ud::ud::ud::ud::ud::ud::ud::ud::ud::ud::ud::ud::ud::ud::ud::ud::ud::ud::ud::ud::ud::ud::ud::ud::ud::ud::ud::ud::ud::ud::ud::ud::ud::ud::ud::ud::ud::ud::ud::ud::ud::ud::ud::ud::ud::ud::ud::ud::ud::ud::ud::ud::ud::ud::ud::ud::ud::ud::ud::ud::ud::ud::ud::ud::ud::ud::ud::ud::ud::ud::ud::ud::ud::ud::ud::ud::ud::ud::ud::ud::ud::ud::ud::ud::ud::ud::ud::ud::ud::ud::ud::ud::ud::ud::ud::ud::ud::ud::ud::ud::ud::ud::ud::ud::ud::ud::ud::ud::ud::ud::ud::ud::ud::ud::ud::ud::ud::ud::ud::ud::ud::ud::ud::ud::ud::ud::ud::ud::ud::ud::ud::ud::ud::ud::ud::ud::ud::ud::ud::ud::ud::ud::ud::ud::ud::ud::ud::ud::ud::ud::ud::ud::ud::ud::ud::ud::ud::ud::ud::ud::ud::ud::ud::ud::ud::ud::ud::ud::ud::ud::ud::ud::ud::ud::ud::ud::ud::ud::ud::l
abbrev ud255 (l:List Value):List Value:=ud::ud::ud::ud::ud::ud::ud::ud::ud::ud::ud::ud::ud::ud::ud::ud::ud::ud::ud::ud::ud::ud::ud::ud::ud::ud::ud::ud::ud::ud::ud::ud::ud::ud::ud::ud::ud::ud::ud::ud::ud::ud::ud::ud::ud::ud::ud::ud::ud::ud::ud::ud::ud::ud::ud::ud::ud::ud::ud::ud::ud::ud::ud::ud::ud::ud::ud::ud::ud::ud::ud::ud::ud::ud::ud::ud::ud::ud::ud::ud::ud::ud::ud::ud::ud::ud::ud::ud::ud::ud::ud::ud::ud::ud::ud::ud::ud::ud::ud::ud::ud::ud::ud::ud::ud::ud::ud::ud::ud::ud::ud::ud::ud::ud::ud::ud::ud::ud::ud::ud::ud::ud::ud::ud::ud::ud::ud::ud::ud::ud::ud::ud::ud::ud::ud::ud::ud::ud::ud::ud::ud::ud::ud::ud::ud::ud::ud::ud::ud::ud::ud::ud::ud::ud::ud::ud::ud::ud::ud::ud::ud::ud::ud::ud::ud::ud::ud::ud::ud::ud::ud::ud::ud::ud::ud::ud::ud::ud::ud::ud::ud::ud::ud::ud::ud::ud::ud::ud::ud::ud::ud::ud::ud::ud::ud::ud::ud::ud::ud::ud::ud::ud::ud::ud::ud::ud::ud::ud::ud::ud::ud::ud::ud::ud::ud::ud::ud::ud::ud::ud::ud::ud::ud::ud::ud::ud::ud::ud::ud::ud::ud::ud::ud::ud::ud::ud::ud::ud::ud::ud::ud::ud::ud::ud::ud::ud::ud::ud::ud::ud::ud::ud::ud::ud::ud::l
set_option maxHeartbeats 1000000

def zmr (ja:List UInt8) (da:List UInt8):Bool:=(bif decide ((1048576:Int)<(ja.length:Int)) then true else decide ((1048576:Int)<(da.length:Int)))
def zph:=@zmr.eq_1
def zym (wa:OA) (ya kb:Nat) (rb:OA) (qb tb:Nat) (H:zd) (K:Bool→zd→Prop):Prop:=∃(ja:List UInt8),∃(da:List UInt8),IsL fU H wa ya ja∧IsL fU H rb qb da∧K (zmr ja da) H
theorem z14d {wa:OA} {ya kb:Nat} {rb:OA} {qb tb:Nat} {H:zd} {K:Bool→zd→Prop} (h:∃(ja:List UInt8),∃(da:List UInt8),IsL fU H wa ya ja∧IsL fU H rb qb da∧K (zmr ja da) H):zym wa ya kb rb qb tb H K:=h
theorem fzz_f {a b:List UInt8} (h:zmr a b=false):a.length≤1048576∧b.length≤1048576:=by
 rw [zph] at h
 by_cases h1:(1048576:Int)<(a.length:Int)
 ·rw [dct h1] at h;cases h
 ·rw [dcf h1,cond_false] at h
  have:=odf h;omega
def zqi:Env:=envOf []
def ztg:List Value→zd→(Value→zd→Prop)→Prop
 | [.slice wa ya kb,.slice rb qb tb],H,K=>zym wa ya kb rb qb tb H fun (r1:Bool) (H':zd)=>K (.bool r1) H'
 | _,_,_=>False
def zr3:FSpec:={F:=ztg,quiet:=true,tame:=false}
theorem z1cl (wa:OA) (ya kb:Nat) (rb:OA) (qb tb:Nat) (H:zd) (K:KT):zk Try.prog zqi Try.f43 [.slice wa ya kb,.slice rb qb tb] H K=
 (Br (decide ((1048576:Int)<(ya:Int))) (K (.bool true) H) (K (.bool (decide ((1048576:Int)<(qb:Int)))) H)):=by kernel_rfl
theorem zo0:∀g,FnOk Try.prog g (zqi g):=FnOk.envOf (by
 intro x hx;cases hx)
theorem z10t (wa:OA) (ya kb:Nat) (rb:OA) (qb tb:Nat) (H:zd) (K:KT) (h:zym wa ya kb rb qb tb H fun (r1:Bool) (H':zd)=>K (.bool r1) H'):zk Try.prog zqi Try.f43 [.slice wa ya kb,.slice rb qb tb] H K:=by
 rw [z1cl]
 obtain ⟨ja,da,i_code,i_more,hk⟩:=h
 obtain rfl:=i_code.eqn
 obtain rfl:=i_more.eqn
 have e:(zmr ja da)=_:=rfl
 have e:=e.trans (zph ja da)
 have g0:=Grow.refl H
 refine Br.intro (fun c_1=>?_) (fun c_1=>?_)
 ·have e:=e.trans (zj c_1)
  have c_1':=odt c_1
  rw [e] at hk
  exact hk
 ·have e:=e.trans (zi c_1)
  have c_1':=odf c_1
  rw [e] at hk
  exact hk
theorem ω5 {P:Prop} (h:P:=by kernel_rfl):P:=h
theorem z1ck:FnOk Try.prog 43 zr3:=by
 refine FnOk.body mix_ok zo0 Try.func43 rfl ω5 ω5 ?_ ?_ ?_ ?_ ?_
 ·intro args H K K' h hk
  simp only [zr3] at *
  unfold ztg at *
  split at hk
  ·obtain ⟨ja,da,i_code,i_more,k⟩:=hk
   exact ⟨ja,da,i_code,i_more,h _ _ k⟩
  ·exact hk.elim
 ·intro _ args H K hk
  simp only [zr3] at *
  unfold ztg at *
  split at hk
  ·obtain ⟨ja,da,i_code,i_more,k⟩:=hk
   exact ⟨_,k,fun K' k'=>⟨ja,da,i_code,i_more,k'⟩⟩
  ·exact hk.elim
 ·intro args H K hk
  simp only [zr3] at *
  unfold ztg at *
  split at hk
  ·obtain ⟨ja,da,i_code,i_more,k⟩:=hk
   exact ⟨_,_,k⟩
  ·exact hk.elim
 ·intro hq;cases hq
 ·have mm:=@z10t
  have ml:=fun (args:List Value) (H:zd) (K:KT)=>zf (P:=Try.prog) (env:=zqi) (fn:=Try.f43) (args:=args) (H:=H) (K:=K) zo0 
  revert mm ml
  generalize z1a Try.prog zqi Try.f43=Q
  generalize zk Try.prog zqi Try.f43=QL
  intro mm ml args H K hk
  simp only [zr3] at *
  unfold ztg at *
  split at hk
  ·exact ml _ H K (mm _ _ _ _ _ _ H K hk)
  ·exact hk.elim

def ze (ja:List UInt8) (i n:Int):Int:=(bif decide ((n:Int)≤1) then (0:Int) else (bif decide ((i:Int)<(ja.length:Int)) then Int.tmod (IntKind.wrap .i64 (((((ja).getD (i:Int).toNat 0)).toNat:Int))) n else Int.tmod (IntKind.wrap .i64 ((IntKind.wrap .i64 (i*37))+11)) n))
def zkm:=@ze.eq_1
def zer (wa:OA) (ya kb:Nat) (i n:Int) (H:zd) (K:Int→zd→Prop):Prop:=∃(ja:List UInt8),IsL fU H wa ya ja∧ja.length<1073741824∧0≤i∧i≤1073741824∧K (ze ja i n) H
theorem zfu {wa:OA} {ya kb:Nat} {i n:Int} {H:zd} {K:Int→zd→Prop} (h:∃(ja:List UInt8),IsL fU H wa ya ja∧ja.length<1073741824∧0≤i∧i≤1073741824∧K (ze ja i n) H):zer wa ya kb i n H K:=h
theorem ω2 {P:Prop} (h:P:=by omega):P:=h
theorem z7p (l:List UInt8) (i n:Int) (h0:0≤i) (h1:i≤1073741824):0≤ze l i n∧(ze l i n<n∨(n≤1∧ze l i n=0)):=by
 rw [zkm]
 refine cnb (P:=fun r:Int=>0≤r∧(r<n∨(n≤1∧r=0))) (fun hc=>?_) (fun hc=>?_)
 ·have:=odt hc;omega
 ·have hn:=odf hc
  refine cnb (P:=fun r:Int=>0≤r∧(r<n∨(n≤1∧r=0))) (fun hc=>?_) (fun hc=>?_)
  ·have hb:(l.getD i.toNat 0).toNat<256:=UInt8.toNat_lt _
   rw [zy ω2 ω2]
   have:=z8i ((l.getD i.toNat 0).toNat:Int) n ω2 ω2;omega
  ·rw [zy (n:=i*37) ω2 ω2,zy (n:=i*37+11) ω2 ω2]
   have:=z8i (i*37+11) n ω2 ω2;omega
def ze2:Env:=envOf []
def zib:List Value→zd→(Value→zd→Prop)→Prop
 | [.slice wa ya kb,.int .i64 i,.int .i64 n],H,K=>zer wa ya kb i n H fun (r1:Int) (H':zd)=>K (.int .i64 r1) H'
 | _,_,_=>False
def zej:FSpec:={F:=zib,quiet:=true,tame:=false}
theorem z15g (wa:OA) (ya kb:Nat) (i n:Int) (H:zd) (K:KT):zk Try.prog ze2 Try.f44 [.slice wa ya kb,.int .i64 i,.int .i64 n] H K=
 (Br (decide ((n:Int)≤1)) (K (.int .i64 0) H) (Br (decide ((i:Int)<(ya:Int))) ((0:Int)≤i∧i<(ya:Int)∧∃b1 f1,(wa:OA)=some ⟨b1,f1,none⟩∧∃x1:Int,  rdC H b1 (f1+(i:Int).toNat*1)=some (.int .u8 x1)∧n≠(0:Int)∧K (.int .i64 (Int.tmod (IntKind.wrap .i64 x1) n)) H) (n≠(0:Int)∧K (.int .i64 (Int.tmod (IntKind.wrap .i64 ((IntKind.wrap .i64 (i*37))+11)) n)) H))):=by kernel_rfl
theorem zhp:∀g,FnOk Try.prog g (ze2 g):=FnOk.envOf (by
 intro x hx;cases hx)
theorem ω0 {P:Prop} (h:P:=by first | omega | (simp only [List.length_set,List.length_replicate,List.length_append,List.length_cons,List.length_nil,List.length_take,List.length_drop,z5b];done) | (simp only [List.length_set,List.length_replicate,List.length_append,List.length_cons,List.length_nil,List.length_take,List.length_drop,z5b];omega)):P:=h
theorem zuw (wa:OA) (ya kb:Nat) (i n:Int) (H:zd) (K:KT) (h:zer wa ya kb i n H fun (r1:Int) (H':zd)=>K (.int .i64 r1) H'):zk Try.prog ze2 Try.f44 [.slice wa ya kb,.int .i64 i,.int .i64 n] H K:=by
 rw [z15g]
 obtain ⟨ja,i_code,bd_11,pr0,pr1,hk⟩:=h
 obtain rfl:=i_code.eqn
 have e:(ze ja i n)=_:=rfl
 have e:=e.trans (zkm ja i n)
 have g0:=Grow.refl H
 refine Br.intro (fun c_1=>?_) (fun c_1=>?_)
 ·have e:=e.trans (zj c_1)
  have c_1':=odt c_1
  rw [e] at hk
  exact hk
 ·have e:=e.trans (zi c_1)
  have c_1':=odf c_1
  refine Br.intro (fun c_2=>?_) (fun c_2=>?_)
  ·have e:=e.trans (zj c_2)
   have c_2':=odt c_2
   obtain ⟨b_3,f_4,q_5⟩:=((i_code.grow g0)).pos ω0
   refine ⟨by omega,by omega,b_3,f_4,q_5,?_⟩
   refine ⟨((((ja).getD (i:Int).toNat 0)).toNat:Int),(i_code).rd g0 q_5 ω2 _,?_⟩
   have z8:(((ja).getD (i:Int).toNat 0)).toNat<256:=UInt8.toNat_lt _
   refine ⟨(by first | omega | decide | (simp;done) | (simp;omega)),?_⟩
   have z6:=z8i (IntKind.wrap .i64 (((((ja).getD (i:Int).toNat 0)).toNat:Int))) n
   have z7:=zxq (IntKind.wrap .i64 (((((ja).getD (i:Int).toNat 0)).toNat:Int))) n
   rw [e] at hk
   exact hk
  ·have e:=e.trans (zi c_2)
   have c_2':=odf c_2
   refine ⟨(by first | omega | decide | (simp;done) | (simp;omega)),?_⟩
   have z9:=z8i (IntKind.wrap .i64 ((IntKind.wrap .i64 (i*37))+11)) n
   have z10:=zxq (IntKind.wrap .i64 ((IntKind.wrap .i64 (i*37))+11)) n
   rw [e] at hk
   exact hk
theorem z15f:FnOk Try.prog 44 zej:=by
 refine FnOk.body mix_ok zhp Try.func44 rfl ω5 ω5 ?_ ?_ ?_ ?_ ?_
 ·intro args H K K' h hk
  simp only [zej] at *
  unfold zib at *
  split at hk
  ·obtain ⟨ja,i_code,bd_11,pr0,pr1,k⟩:=hk
   exact ⟨ja,i_code,bd_11,pr0,pr1,h _ _ k⟩
  ·exact hk.elim
 ·intro _ args H K hk
  simp only [zej] at *
  unfold zib at *
  split at hk
  ·obtain ⟨ja,i_code,bd_11,pr0,pr1,k⟩:=hk
   exact ⟨_,k,fun K' k'=>⟨ja,i_code,bd_11,pr0,pr1,k'⟩⟩
  ·exact hk.elim
 ·intro args H K hk
  simp only [zej] at *
  unfold zib at *
  split at hk
  ·obtain ⟨ja,i_code,bd_11,pr0,pr1,k⟩:=hk
   exact ⟨_,_,k⟩
  ·exact hk.elim
 ·intro hq;cases hq
 ·have mm:=@zuw
  have ml:=fun (args:List Value) (H:zd) (K:KT)=>zf (P:=Try.prog) (env:=ze2) (fn:=Try.f44) (args:=args) (H:=H) (K:=K) zhp 
  revert mm ml
  generalize z1a Try.prog ze2 Try.f44=Q
  generalize zk Try.prog ze2 Try.f44=QL
  intro mm ml args H K hk
  simp only [zej] at *
  unfold zib at *
  split at hk
  ·exact ml _ H K (mm _ _ _ _ _ H K hk)
  ·exact hk.elim
def zo3 (wa:OA) (ya kb:Nat) (H:zd) (K:Nat→zd→Prop):Prop:=∀(b:Nat) (H':zd),b=H.length→H'.length=H.length+1→Grow H H'→Own H' b [.slice wa ya kb,.int .i64 0,.int .u64 0]→K b H'
theorem zy1 {wa:OA} {ya kb:Nat} {H:zd} {K:Nat→zd→Prop} (h:∀(b:Nat) (H':zd),b=H.length→H'.length=H.length+1→Grow H H'→Own H' b [.slice wa ya kb,.int .i64 0,.int .u64 0]→K b H'):zo3 wa ya kb H K:=h
def zdr:Env:=envOf []
def zo1:List Value→zd→(Value→zd→Prop)→Prop
 | [.slice wa ya kb],H,K=>zo3 wa ya kb H fun (r1:Nat) (H':zd)=>K (.pointer (some ⟨r1,0,none⟩)) H'
 | _,_,_=>False
def zik:FSpec:={F:=zo1,quiet:=false,tame:=false}
theorem f10z_vc (wa:OA) (ya kb:Nat) (H:zd) (K:KT):zk Try.prog zdr Try.f130 [.slice wa ya kb] H K=
 (Al [.slice wa ya kb,.int .i64 0,.int .u64 0] H fun b1 H1=>K (.pointer (some ⟨b1,0,none⟩)) H1):=by kernel_rfl
theorem zha:∀g,FnOk Try.prog g (zdr g):=FnOk.envOf (by
 intro x hx;cases hx)
theorem f10z_main (wa:OA) (ya kb:Nat) (H:zd) (K:KT) (h:zo3 wa ya kb H fun (r1:Nat) (H':zd)=>K (.pointer (some ⟨r1,0,none⟩)) H'):zk Try.prog zdr Try.f130 [.slice wa ya kb] H K:=by
 rw [f10z_vc]
 exact Al.intro (fun b H' h1 h2 g o=>h b H' h1 h2 g o)
theorem f10z_ok:FnOk Try.prog 130 zik:=by
 refine FnOk.body mix_ok zha Try.func130 rfl ω5 ω5 ?_ ?_ ?_ ?_ ?_
 ·intro args H K K' h hk
  simp only [zik] at *
  unfold zo1 at *
  split at hk
  ·have k:=hk
   exact fun b H' e1 e2 gg o=>h _ _ (k b H' e1 e2 gg o)
  ·exact hk.elim
 ·intro hq;cases hq
 ·intro args H K hk
  simp only [zik] at *
  unfold zo1 at *
  split at hk
  ·have k:=hk
   exact ⟨_,_,k _ (H++[some ⟨_,true⟩]) rfl (by simp) (Grow.app _ _) (Own.new _ _)⟩
  ·exact hk.elim
 ·intro hq;cases hq
 ·have mm:=@f10z_main
  have ml:=fun (args:List Value) (H:zd) (K:KT)=>zf (P:=Try.prog) (env:=zdr) (fn:=Try.f130) (args:=args) (H:=H) (K:=K) zha 
  revert mm ml
  generalize z1a Try.prog zdr Try.f130=Q
  generalize zk Try.prog zdr Try.f130=QL
  intro mm ml args H K hk
  simp only [zik] at *
  unfold zo1 at *
  split at hk
  ·exact ml _ H K (mm _ _ _ H K hk)
  ·exact hk.elim
def z3n (l:List UInt8) (at_ sd:Int):Int:=IntKind.wrap .u64 ((IntKind.wrap .u64 ((IntKind.wrap .u64 (sd*6364136223846793005))+(bif decide (at_<(l.length:Int)) then ((l.getD at_.toNat 0).toNat:Int) else 0)))+1442695040888963407)
def z8v (l:List UInt8) (at_ sd:Int):Int:=bif decide (at_+1≤(l.length:Int)) then (bif decide (at_<(l.length:Int)) then ((l.getD at_.toNat 0).toNat:Int) else 0) else ((BitVec.ofInt (IntKind.bits .u64) (Int.fdiv (z3n l at_ sd) (2 ^ (min (40:Int).toNat (IntKind.bits .u64)))) &&& BitVec.ofInt (IntKind.bits .u64) 255).toNat:Int)
def z2h (l:List UInt8) (at_ sd:Int):Int×Int×Int:=(z8v l at_ sd,at_+1,z3n l at_ sd)
theorem ω11 {P:Prop} (h:P:=by decide):P:=h
theorem z19b (x:Int):((BitVec.ofInt (IntKind.bits .u64) x &&& BitVec.ofInt (IntKind.bits .u64) 255).toNat:Int)≤255:=by
 have:(BitVec.ofInt (IntKind.bits .u64) x &&& BitVec.ofInt (IntKind.bits .u64) 255).toNat≤255:=by
  rw [BitVec.toNat_and]
  exact Nat.le_trans Nat.and_le_right ω11
 omega
theorem zat (l:List UInt8) (at_ sd:Int):0≤z8v l at_ sd∧z8v l at_ sd≤255:=by
 unfold z8v
 have h1:=z19b (Int.fdiv (z3n l at_ sd) (2 ^ (min (40:Int).toNat (IntKind.bits .u64))))
 have h2:(l.getD at_.toNat 0).toNat<256:=UInt8.toNat_lt _
 cases decide (at_+1≤(l.length:Int))<;>cases decide (at_<(l.length:Int))<;>simp only [cond_true,cond_false]<;>omega
theorem f5z_rng (l:List UInt8) (at_ sd:Int):0≤(z2h l at_ sd).1∧(z2h l at_ sd).1≤255∧(z2h l at_ sd).2.1=at_+1:=⟨(zat l at_ sd).1,(zat l at_ sd).2,rfl⟩
abbrev SrcB (a:OA) (n e:Nat) (at_ sd:Int):List Value:=[.slice a n e,.int .i64 at_,.int .u64 sd]
theorem Own.putB {H:zd} {b:Nat} {cs:List Value} (h:Own H b cs) (ds:List Value):Own (H.set b (some {cells:=ds,own:=true})) b ds∧z5q b H (H.set b (some {cells:=ds,own:=true})):=
 ⟨by unfold Own;rw [List.getElem?_set];simp [h.lt],by simp,fun i hi hn=>by rw [List.getElem?_set,if_neg (fun e=>hn e.symm)]⟩
def ztp (s:Nat) (H:zd) (K:Int→zd→Prop):Prop:=∃(H0:zd) (a:OA) (n e:Nat) (l:List UInt8) (at_ sd:Int),Own H s (SrcB a n e at_ sd)∧IsL fU H0 a n l∧Grow H0 H∧H0.length≤s∧0≤at_∧at_<4611686018427387904∧
 (∀H':zd,z5q s H H'→Own H' s (SrcB a n e (z2h l at_ sd).2.1 (z2h l at_ sd).2.2)→K (z2h l at_ sd).1 H')
theorem ztq {s:Nat} {H:zd} {K:Int→zd→Prop} (h:∃(H0:zd) (a:OA) (n e:Nat) (l:List UInt8) (at_ sd:Int),Own H s (SrcB a n e at_ sd)∧IsL fU H0 a n l∧Grow H0 H∧H0.length≤s∧0≤at_∧at_<4611686018427387904∧
 (∀H':zd,z5q s H H'→Own H' s (SrcB a n e (z2h l at_ sd).2.1 (z2h l at_ sd).2.2)→K (z2h l at_ sd).1 H')):ztp s H K:=h
def zq2:Env:=envOf []
def zxy:List Value→zd→(Value→zd→Prop)→Prop
 | [.pointer (some ⟨s,0,none⟩)],H,K=>ztp s H fun (r1:Int) (H':zd)=>K (.int .i64 r1) H'
 | _,_,_=>False
def zti:FSpec:={F:=zxy,quiet:=false,tame:=false}
theorem f5z_vc (s:Nat) (H:zd) (K:KT):zk Try.prog zq2 Try.f181 [.pointer (some ⟨s,0,none⟩)] H K=
 (∃x1:Int,  rdC H s 1=some (.int .i64 x1)∧∃bd:OA,∃(wc cd:Nat),  rdC H s 0=some (.slice bd wc cd)∧Br (decide ((x1:Int)<(wc:Int))) (∃xc:OA,∃(yc dd:Nat),  rdC H s 0=some (.slice xc yc dd)∧∃x4:Int,  rdC H s 1=some (.int .i64 x4)∧(0:Int)≤x4∧x4<(yc:Int)∧∃b1 f1,(xc:OA)=some ⟨b1,f1,none⟩∧∃x5:Int,  rdC H b1 (f1+(x4:Int).toNat*1)=some (.int .u8 x5)∧∃x6:Int,  rdC H s 1=some (.int .i64 x6)∧isOwn H s∧(∃l,rdN H s 1 1=some l)∧Lt (setC H s 1 (.int .i64 (IntKind.wrap .i64 (x6+1)))) fun H1=>∃x7:Int,  rdC H1 s 2=some (.int .u64 x7)∧isOwn H1 s∧(∃l,rdN H1 s 2 1=some l)∧Lt (setC H1 s 2 (.int .u64 (IntKind.wrap .u64 ((IntKind.wrap .u64 ((IntKind.wrap .u64 (x7*6364136223846793005))+(IntKind.wrap .u64 (IntKind.wrap .i64 x5))))+1442695040888963407)))) fun H2=>∃x8:Int,  rdC H2 s 1=some (.int .i64 x8)∧∃gd:OA,∃(zc jd:Nat),  rdC H2 s 0=some (.slice gd zc jd)∧Br (decide ((x8:Int)≤(zc:Int))) (K (.int .i64 (IntKind.wrap .i64 x5)) H2) (∃x10:Int,  rdC H2 s 2=some (.int .u64 x10)∧(0:Int)≤40∧K (.int .i64 (IntKind.wrap .i64 (IntKind.wrap .u64 (((BitVec.ofInt (IntKind.bits .u64) (Int.fdiv x10 (2 ^ (min (40:Int).toNat (IntKind.bits .u64)))) &&& BitVec.ofInt (IntKind.bits .u64) 255).toNat:Int))))) H2)) (∃x11:Int,  rdC H s 1=some (.int .i64 x11)∧isOwn H s∧(∃l,rdN H s 1 1=some l)∧Lt (setC H s 1 (.int .i64 (IntKind.wrap .i64 (x11+1)))) fun H3=>∃x12:Int,  rdC H3 s 2=some (.int .u64 x12)∧isOwn H3 s∧(∃l,rdN H3 s 2 1=some l)∧Lt (setC H3 s 2 (.int .u64 (IntKind.wrap .u64 ((IntKind.wrap .u64 ((IntKind.wrap .u64 (x12*6364136223846793005))+(IntKind.wrap .u64 0)))+1442695040888963407)))) fun H4=>∃x13:Int,  rdC H4 s 1=some (.int .i64 x13)∧∃uc:OA,∃(lc vc:Nat),  rdC H4 s 0=some (.slice uc lc vc)∧Br (decide ((x13:Int)≤(lc:Int))) (K (.int .i64 0) H4) (∃x15:Int,  rdC H4 s 2=some (.int .u64 x15)∧(0:Int)≤40∧K (.int .i64 (IntKind.wrap .i64 (IntKind.wrap .u64 (((BitVec.ofInt (IntKind.bits .u64) (Int.fdiv x15 (2 ^ (min (40:Int).toNat (IntKind.bits .u64)))) &&& BitVec.ofInt (IntKind.bits .u64) 255).toNat:Int))))) H4))):=by kernel_rfl
theorem zn7:∀g,FnOk Try.prog g (zq2 g):=FnOk.envOf (by
 intro x hx;cases hx)
theorem f5z_main (s:Nat) (H:zd) (K:KT) (h:ztp s H fun (r1:Int) (H':zd)=>K (.int .i64 r1) H'):zk Try.prog zq2 Try.f181 [.pointer (some ⟨s,0,none⟩)] H K:=by
 rw [f5z_vc]
 obtain ⟨H0,a,n,e,l,at_,sd,o,il,g,hb,h0,h1,hk⟩:=h
 have hn:=il.len
 refine ⟨at_,(o.rdC 1).trans rfl,a,n,e,(o.rdC 0).trans rfl,?_⟩
 refine Br.intro (fun hc=>?_) (fun hc=>?_)
 ·have hc':=odt hc
  refine ⟨a,n,e,(o.rdC 0).trans rfl,at_,(o.rdC 1).trans rfl,h0,hc',?_⟩
  obtain ⟨b1,f1,ea,hcell⟩:=il.cell ω2
  have hx:l[at_.toNat]? =some (l.getD at_.toNat 0):=by rw [List.getD_eq_getElem?_getD,List.getElem?_eq_getElem ω2];rfl
  have hby:(l.getD at_.toNat 0).toNat<256:=UInt8.toNat_lt _
  refine ⟨b1,f1,ea,((l.getD at_.toNat 0).toNat:Int),zoq g (hcell _ _ hx),at_,(o.rdC 1).trans rfl,o.isOwn,⟨_,o.rdN (nbl rfl)⟩,?_⟩
  rw [zy (n:=at_+1) ω2 ω2,zy (n:=((l.getD at_.toNat 0).toNat:Int)) ω2 ω2,zc0 (n:=((l.getD at_.toNat 0).toNat:Int)) ω2 ω2]
  unfold Lt
  have o1:=o.setC_own 1 (.int .i64 (at_+1))
  refine ⟨sd,(o1.rdC 2).trans rfl,o1.isOwn,⟨_,o1.rdN (nbl rfl)⟩,?_⟩
  have o2:=o1.setC_own 2 (.int .u64 (IntKind.wrap .u64 ((IntKind.wrap .u64 ((IntKind.wrap .u64 (sd*6364136223846793005))+((l.getD at_.toNat 0).toNat:Int)))+1442695040888963407)))
  have es:z3n l at_ sd=IntKind.wrap .u64 ((IntKind.wrap .u64 ((IntKind.wrap .u64 (sd*6364136223846793005))+((l.getD at_.toNat 0).toNat:Int)))+1442695040888963407):=by
   unfold z3n;rw [dct (show at_<(l.length:Int) by omega),cond_true]
  rw [←es] at o2 ⊢
  have ev:z8v l at_ sd=((l.getD at_.toNat 0).toNat:Int):=by
   unfold z8v;rw [dct (show at_+1≤(l.length:Int) by omega),cond_true,dct (show at_<(l.length:Int) by omega),cond_true]
  have kk:z5q s H (setC (setC H s 1 (.int .i64 (at_+1))) s 2 (.int .u64 (z3n l at_ sd))):=⟨by rw [z2x,z2x];exact Nat.le_refl _,fun i hi hne=>by rw [z4e hne,z4e hne]⟩
  have fin:=hk _ kk o2
  refine ⟨at_+1,(o2.rdC 1).trans rfl,a,n,e,(o2.rdC 0).trans rfl,?_⟩
  rw [dct (show at_+1≤(n:Int) by omega)]
  rw [show (z2h l at_ sd).1=z8v l at_ sd from rfl,ev] at fin
  exact fin
 ·have hc':=odf hc
  refine ⟨at_,(o.rdC 1).trans rfl,o.isOwn,⟨_,o.rdN (nbl rfl)⟩,?_⟩
  rw [zy (n:=at_+1) ω2 ω2,zc0 (n:=0) ω2 ω2]
  unfold Lt
  have o1:=o.setC_own 1 (.int .i64 (at_+1))
  refine ⟨sd,(o1.rdC 2).trans rfl,o1.isOwn,⟨_,o1.rdN (nbl rfl)⟩,?_⟩
  have o2:=o1.setC_own 2 (.int .u64 (IntKind.wrap .u64 ((IntKind.wrap .u64 ((IntKind.wrap .u64 (sd*6364136223846793005))+0))+1442695040888963407)))
  have es:z3n l at_ sd=IntKind.wrap .u64 ((IntKind.wrap .u64 ((IntKind.wrap .u64 (sd*6364136223846793005))+0))+1442695040888963407):=by
   unfold z3n;rw [dcf (show ¬at_<(l.length:Int) by omega),cond_false]
  rw [←es] at o2 ⊢
  have ev:z8v l at_ sd=((BitVec.ofInt (IntKind.bits .u64) (Int.fdiv (z3n l at_ sd) (2 ^ (min (40:Int).toNat (IntKind.bits .u64)))) &&& BitVec.ofInt (IntKind.bits .u64) 255).toNat:Int):=by
   unfold z8v;rw [dcf (show ¬at_+1≤(l.length:Int) by omega),cond_false]
  have kk:z5q s H (setC (setC H s 1 (.int .i64 (at_+1))) s 2 (.int .u64 (z3n l at_ sd))):=⟨by rw [z2x,z2x];exact Nat.le_refl _,fun i hi hne=>by rw [z4e hne,z4e hne]⟩
  have fin:=hk _ kk o2
  have hr:=zat l at_ sd
  refine ⟨at_+1,(o2.rdC 1).trans rfl,a,n,e,(o2.rdC 0).trans rfl,?_⟩
  rw [dcf (show ¬at_+1≤(n:Int) by omega)]
  refine ⟨z3n l at_ sd,(o2.rdC 2).trans rfl,by decide,?_⟩
  rw [show (z2h l at_ sd).1=z8v l at_ sd from rfl,ev] at fin
  rw [ev] at hr
  rw [zc0 (n:=((BitVec.ofInt (IntKind.bits .u64) (Int.fdiv (z3n l at_ sd) (2 ^ (min (40:Int).toNat (IntKind.bits .u64)))) &&& BitVec.ofInt (IntKind.bits .u64) 255).toNat:Int)) ω2 ω2,zy (n:=((BitVec.ofInt (IntKind.bits .u64) (Int.fdiv (z3n l at_ sd) (2 ^ (min (40:Int).toNat (IntKind.bits .u64)))) &&& BitVec.ofInt (IntKind.bits .u64) 255).toNat:Int)) ω2 ω2]
  exact fin
theorem f5z_ok:FnOk Try.prog 181 zti:=by
 refine FnOk.body mix_ok zn7 Try.func181 rfl ω5 ω5 ?_ ?_ ?_ ?_ ?_
 ·intro args H K K' h hk
  simp only [zti] at *
  unfold zxy at *
  split at hk
  ·obtain ⟨H0,a,n,e,l,at_,sd,o,il,g,hb,h0,h1,k⟩:=hk
   exact ⟨H0,a,n,e,l,at_,sd,o,il,g,hb,h0,h1,(fun H' k1 o1=>h _ _ (k H' k1 o1))⟩
  ·exact hk.elim
 ·intro hq;cases hq
 ·intro args H K hk
  simp only [zti] at *
  unfold zxy at *
  split at hk
  ·obtain ⟨H0,a,n,e,l,at_,sd,o,il,g,hb,h0,h1,k⟩:=hk
   exact ⟨_,_,k _ (Own.putB o _).2 (Own.putB o _).1⟩
  ·exact hk.elim
 ·intro hq;cases hq
 ·have mm:=@f5z_main
  have ml:=fun (args:List Value) (H:zd) (K:KT)=>zf (P:=Try.prog) (env:=zq2) (fn:=Try.f181) (args:=args) (H:=H) (K:=K) zn7 
  revert mm ml
  generalize z1a Try.prog zq2 Try.f181=Q
  generalize zk Try.prog zq2 Try.f181=QL
  intro mm ml args H K hk
  simp only [zti] at *
  unfold zxy at *
  split at hk
  ·exact ml _ H K (mm _ H K hk)
  ·exact hk.elim
def z3y (l:List UInt8) (at_ sd n:Int):Int×Int×Int:=
 bif decide (n≤1) then (0,at_,sd) else bif decide ((200:Int)<n) then
  (Int.tmod ((z2h l at_ sd).1*256+(z2h l (z2h l at_ sd).2.1 (z2h l at_ sd).2.2).1) n,(z2h l (z2h l at_ sd).2.1 (z2h l at_ sd).2.2).2)
 else (Int.tmod (z2h l at_ sd).1 n,(z2h l at_ sd).2)
theorem f6z_rng (l:List UInt8) (at_ sd n:Int):0≤(z3y l at_ sd n).1∧((z3y l at_ sd n).1<n∨(n≤1∧(z3y l at_ sd n).1=0))∧at_≤(z3y l at_ sd n).2.1∧(z3y l at_ sd n).2.1≤at_+2:=by
 unfold z3y
 by_cases h:n≤1
 ·rw [dct h,cond_true]
  refine ⟨Int.le_refl 0,.inr ⟨h,rfl⟩,Int.le_refl _,?_⟩
  show at_≤at_+2
  omega
 ·rw [dcf h,cond_false]
  have q:=f5z_rng l at_ sd
  by_cases h2:(200:Int)<n
  ·rw [dct h2,cond_true]
   have q2:=f5z_rng l (z2h l at_ sd).2.1 (z2h l at_ sd).2.2
   have m:=z8i ((z2h l at_ sd).1*256+(z2h l (z2h l at_ sd).2.1 (z2h l at_ sd).2.2).1) n ω2 ω2
   exact ⟨m.1,.inl m.2,by show at_≤(z2h l _ _).2.1;omega,by show (z2h l _ _).2.1≤_;omega⟩
  ·rw [dcf h2,cond_false]
   have m:=z8i (z2h l at_ sd).1 n ω2 ω2
   exact ⟨m.1,.inl m.2,by show at_≤(z2h l _ _).2.1;omega,by show (z2h l _ _).2.1≤_;omega⟩
def zyd (s:Nat) (n:Int) (H:zd) (K:Int→zd→Prop):Prop:=∃(H0:zd) (a:OA) (m e:Nat) (l:List UInt8) (at_ sd:Int),Own H s (SrcB a m e at_ sd)∧IsL fU H0 a m l∧Grow H0 H∧H0.length≤s∧0≤at_∧at_<4611686018427387900∧
 (∀H':zd,z5q s H H'→Own H' s (SrcB a m e (z3y l at_ sd n).2.1 (z3y l at_ sd n).2.2)→K (z3y l at_ sd n).1 H')
theorem z13n {s:Nat} {n:Int} {H:zd} {K:Int→zd→Prop} (h:∃(H0:zd) (a:OA) (m e:Nat) (l:List UInt8) (at_ sd:Int),Own H s (SrcB a m e at_ sd)∧IsL fU H0 a m l∧Grow H0 H∧H0.length≤s∧0≤at_∧at_<4611686018427387900∧
 (∀H':zd,z5q s H H'→Own H' s (SrcB a m e (z3y l at_ sd n).2.1 (z3y l at_ sd n).2.2)→K (z3y l at_ sd n).1 H')):zyd s n H K:=h
def zq3:Env:=envOf [(181,zti)]
def zxz:List Value→zd→(Value→zd→Prop)→Prop
 | [.pointer (some ⟨s,0,none⟩),.int .i64 n],H,K=>zyd s n H fun (r1:Int) (H':zd)=>K (.int .i64 r1) H'
 | _,_,_=>False
def ztj:FSpec:={F:=zxz,quiet:=false,tame:=false}
theorem f6z_vc (s:Nat) (n:Int) (H:zd) (K:KT):zk Try.prog zq3 Try.f131 [.pointer (some ⟨s,0,none⟩),.int .i64 n] H K=
 (Br (decide ((n:Int)≤1)) (K (.int .i64 0) H) (ztp s H fun (r1:Int) (H1:zd)=>Br (decide ((200:Int)<n)) (ztp s H1 fun (r2:Int) (H2:zd)=>n≠(0:Int)∧K (.int .i64 (Int.tmod (IntKind.wrap .i64 ((IntKind.wrap .i64 (r1*256))+r2)) n)) H2) (n≠(0:Int)∧K (.int .i64 (Int.tmod r1 n)) H1))):=by kernel_rfl
theorem zn8:∀g,FnOk Try.prog g (zq3 g):=FnOk.envOf (by
 intro x hx
 simp only [List.mem_cons,List.not_mem_nil,or_false] at hx
 subst hx;exact f5z_ok)
theorem f6z_main (s:Nat) (n:Int) (H:zd) (K:KT) (h:zyd s n H fun (r1:Int) (H':zd)=>K (.int .i64 r1) H'):zk Try.prog zq3 Try.f131 [.pointer (some ⟨s,0,none⟩),.int .i64 n] H K:=by
 rw [f6z_vc]
 obtain ⟨H0,a,m,e,l,at_,sd,o,il,g,hb,h0,h1,hk⟩:=h
 unfold z3y at hk
 refine Br.intro (fun hc=>?_) (fun hc=>?_)
 ·rw [hc] at hk
  exact hk H ⟨Nat.le_refl _,fun _ _ _=>rfl⟩ o
 ·rw [hc] at hk
  have hn:=odf hc
  have q:=f5z_rng l at_ sd
  refine ztq ⟨H0,a,m,e,l,at_,sd,o,il,g,hb,h0,by omega,fun H1 k1 o1=>?_⟩
  refine Br.intro (fun hc2=>?_) (fun hc2=>?_)
  ·rw [hc2] at hk
   have q2:=f5z_rng l (z2h l at_ sd).2.1 (z2h l at_ sd).2.2
   refine ztq ⟨H0,a,m,e,l,_,_,o1,il,g.keep hb k1,hb,by omega,by omega,fun H2 k2 o2=>⟨by omega,?_⟩⟩
   have fin:=hk H2 ⟨Nat.le_trans k1.1 k2.1,fun i hi hne=>(k2.2 i (Nat.lt_of_lt_of_le hi k1.1) hne).trans (k1.2 i hi hne)⟩ o2
   rw [zy (n:=(z2h l at_ sd).1*256) ω2 ω2,zy (n:=(z2h l at_ sd).1*256+_) ω2 ω2]
   exact fin
  ·rw [hc2] at hk
   exact ⟨by omega,hk H1 k1 o1⟩
theorem f6z_ok:FnOk Try.prog 131 ztj:=by
 refine FnOk.body mix_ok zn8 Try.func131 rfl ω5 ω5 ?_ ?_ ?_ ?_ ?_
 ·intro args H K K' h hk
  simp only [ztj] at *
  unfold zxz at *
  split at hk
  ·obtain ⟨H0,a,n,e,l,at_,sd,o,il,g,hb,h0,h1,k⟩:=hk
   exact ⟨H0,a,n,e,l,at_,sd,o,il,g,hb,h0,h1,(fun H' k1 o1=>h _ _ (k H' k1 o1))⟩
  ·exact hk.elim
 ·intro hq;cases hq
 ·intro args H K hk
  simp only [ztj] at *
  unfold zxz at *
  split at hk
  ·obtain ⟨H0,a,n,e,l,at_,sd,o,il,g,hb,h0,h1,k⟩:=hk
   exact ⟨_,_,k _ (Own.putB o _).2 (Own.putB o _).1⟩
  ·exact hk.elim
 ·intro hq;cases hq
 ·have mm:=@f6z_main
  have ml:=fun (args:List Value) (H:zd) (K:KT)=>zf (P:=Try.prog) (env:=zq3) (fn:=Try.f131) (args:=args) (H:=H) (K:=K) zn8 
  revert mm ml
  generalize z1a Try.prog zq3 Try.f131=Q
  generalize zk Try.prog zq3 Try.f131=QL
  intro mm ml args H K hk
  simp only [ztj] at *
  unfold zxz at *
  split at hk
  ·exact ml _ H K (mm _ _ H K hk)
  ·exact hk.elim

def z8a (ja:List UInt8) (n:Int):Nat→Int→LN→Int→Int→LN
 | 0,_,_,_,_=>[]
 | μ+1,n_1,nb,q1_2,q1_3=>(bif decide ((0:Int)<n_1) then (z8a ja n μ (n_1-1) ((nb++[(fdiv .f32 (FloatKind.nearest .f32 (IntKind.wrap .i64 (((z3y ja q1_2 q1_3 (65:Int)).1)-32))) 1082130432)])) ((z3y ja q1_2 q1_3 (65:Int)).2.1) ((z3y ja q1_2 q1_3 (65:Int)).2.2)) else nb)
def zfc:=fun ja n μ n_1 nb q1_2 q1_3=>@z8a.eq_2 ja n n_1 nb q1_2 q1_3 μ
def zm (ja:List UInt8) (n:Int):LN:=(z8a ja n (Int.toNat (n-0)+1) n ([]:LN) (0:Int) (0:Int))
def zpb:=@zm.eq_1
def zyi (wa:OA) (ya kb:Nat) (n:Int) (H:zd) (K:OA→Nat→Nat→zd→Prop):Prop:=∃(ja:List UInt8),IsL fU H wa ya ja∧ja.length<1073741824∧n≤1073741824∧((∀(za:OA) (db cb:Nat),∀H':zd,Grow H H'→OwnS fF H' H.length za db cb (zm ja n)→K za db cb H'))
theorem z13v {wa:OA} {ya kb:Nat} {n:Int} {H:zd} {K:OA→Nat→Nat→zd→Prop} (h:∃(ja:List UInt8),IsL fU H wa ya ja∧ja.length<1073741824∧n≤1073741824∧((∀(za:OA) (db cb:Nat),∀H':zd,Grow H H'→OwnS fF H' H.length za db cb (zm ja n)→K za db cb H'))):zyi wa ya kb n H K:=h
def Qt (y:Nat):Prop:=∃k:Nat,k<65∧y=fdiv .f32 (FloatKind.nearest .f32 ((k:Int)-32)) 1082130432
theorem z1ba (l:List UInt8) (n:Int):∀(μ:Nat) (m:Int) (o:LN) (a b:Int),m.toNat<μ→(∀y ∈ o,Qt y)→
  (z8a l n μ m o a b).length=o.length+m.toNat∧∀y ∈ z8a l n μ m o a b,Qt y:=by
 intro μ
 induction μ with
 | zero=>intro m o a b h;omega
 | succ μ ih=>
  intro m o a b h ho
  rw [zfc]
  by_cases hm:(0:Int)<m
  ·rw [dct hm,cond_true]
   have q:=f6z_rng l a b 65
   obtain ⟨k,hk⟩:∃k:Nat,(z3y l a b 65).1=k:=⟨(z3y l a b 65).1.toNat,by omega⟩
   have r:=ih (m-1) (o++[fdiv .f32 (FloatKind.nearest .f32 (IntKind.wrap .i64 ((z3y l a b 65).1-32))) 1082130432]) (z3y l a b 65).2.1 (z3y l a b 65).2.2 ω2 (fun y hy=>by
    rcases List.mem_append.1 hy with hy | hy
    ·exact ho y hy
    ·rw [List.mem_singleton.1 hy,hk,zy ω2 ω2];exact ⟨k,by omega,rfl⟩)
   refine ⟨?_,r.2⟩
   rw [r.1,List.length_append,List.length_singleton];omega
  ·rw [dcf hm,cond_false]
   exact ⟨by omega,ho⟩
theorem zvo (l:List UInt8) (n:Int):(zm l n).length=n.toNat∧∀y ∈ zm l n,Qt y:=by
 rw [zpb]
 have:=z1ba l n (Int.toNat (n-0)+1) n [] 0 0 ω2 (by simp)
 simpa using this
theorem z15z (l:List UInt8) (n:Int):(zm l n).length=n.toNat:=(zvo l n).1
def zbh:Env:=envOf [(130,zik),(131,ztj)]
def zt2:List Value→zd→(Value→zd→Prop)→Prop
 | [.slice wa ya kb,.int .i64 n],H,K=>zyi wa ya kb n H fun (za:OA) (db:Nat) (cb:Nat) (H':zd)=>K (.slice za db cb) H'
 | _,_,_=>False
def zqw:FSpec:={F:=zt2,quiet:=false,tame:=true}
theorem z1be (wa:OA) (ya kb:Nat) (n:Int) (H:zd) (K:KT):zk Try.prog zbh Try.f45 [.slice wa ya kb,.int .i64 n] H K=
 (zo3 wa ya kb H fun (r1:Nat) (H1:zd)=>Al [] H1 fun b1 H2=>z1b (exL Try.prog zbh (cl (cl (cl (cr (cr (cr (zg Try.f45))))))) 98 16 [(0,64)]) (ud::.int .i64 n::ud3 (.pointer (some ⟨r1,0,none⟩)::.slice (some ⟨b1,0,none⟩) 0 1::ud16 [])) H2 (zn 0 (seqQ (exL Try.prog zbh (cr (cr (cr (cr (zg Try.f45))))) 16 16 []) (retK Try.prog Try.f45 K)))):=by kernel_rfl
abbrev zjr (r1:Nat) (n_1:Int) (sa:OA) (ta ua:Nat)  :List Value:=(ud::.int .i64 n_1::ud3 (.pointer (some ⟨r1,0,none⟩)::.slice sa ta ua::ud16 []))
theorem z1bd (r1:Nat) (n_1:Int) (sa:OA) (ta ua:Nat)  (H:zd) (R:Post):exL Try.prog zbh (cl (cl (cl (cr (cr (cr (zg Try.f45))))))) 98 16 [(0,64)] (zjr r1 n_1 sa ta ua) H R=
 (Br (decide ((0:Int)<n_1)) (zyd r1 65 H fun (r2:Int) (H3:zd)=>Al [.float .f32 (fdiv .f32 (FloatKind.nearest .f32 (IntKind.wrap .i64 (r2-32))) 1082130432)] H3 fun b2 H4=>∃o1 w1:List Value,ownB H4 sa ta ua 1=some o1∧rdS H4 (some ⟨b2,0,none⟩) (1*1)=some w1∧((sa:OA)=none→0<(1:Nat))∧(ta:Nat)+1<most∧Ap H4 (z5l H4 sa++[some ⟨o1++w1,true⟩]) fun b3 H5=>R .normal (ud::.int .i64 (IntKind.wrap .i64 (n_1-1))::ud3 (.pointer (some ⟨r1,0,none⟩)::.slice (some ⟨b3,0,none⟩) (ta+1) 1::ud16 [])) H5) (R (.exit 0) (ud6 (.slice sa ta ua::ud16 [])) H)):=by kernel_rfl
def zvn (r1:Nat) (Inv:Nat→Int→OA→Nat→Nat→zd→Prop):Nat→List Value→zd→Prop:=fun μ tm H=>∃n_1:Int,∃sa:OA,∃(ta ua:Nat),tm=(zjr r1 n_1 sa ta ua)∧Inv μ n_1 sa ta ua H
theorem z1b9 (r1:Nat) {Q:Post} (Inv:Nat→Int→OA→Nat→Nat→zd→Prop) (ν:Nat) (n_1:Int) (sa:OA) (ta ua:Nat)  (H:zd) (h0:Inv ν n_1 sa ta ua H)
  (hs:∀(μ:Nat) (n_1:Int) (sa:OA) (ta:Nat) (ua:Nat)  (H:zd),Inv μ n_1 sa ta ua H→exL Try.prog zbh (cl (cl (cl (cr (cr (cr (zg Try.f45))))))) 98 16 [(0,64)] (zjr r1 n_1 sa ta ua) H (zp (zvn r1 Inv) μ Q)):z1b (exL Try.prog zbh (cl (cl (cl (cr (cr (cr (zg Try.f45))))))) 98 16 [(0,64)]) (zjr r1 n_1 sa ta ua) H Q:=
 ⟨zvn r1 Inv,ν,⟨n_1,sa,ta,ua,rfl,h0⟩,fun μ tm H h=>by obtain ⟨n_1,sa,ta,ua,rfl,hI⟩:=h;exact hs μ n_1 sa ta ua  H hI⟩
theorem z1bb {r1:Nat} {Q:Post} {Inv:Nat→Int→OA→Nat→Nat→zd→Prop} {μ:Nat} (μ':Nat) {n_1:Int} {sa:OA} {ta ua:Nat}  {H:zd} (hm:μ'<μ) (hI:Inv μ' n_1 sa ta ua H):zp (zvn r1 Inv) μ Q .normal (zjr r1 n_1 sa ta ua) H:=⟨μ',hm,n_1,sa,ta,ua,rfl,hI⟩
theorem zzv (sa:OA) (ta ua:Nat) (H:zd) (K:KT)  {I:Nat→List Value→zd→Prop} {μ:Nat}:zp I μ (zn 0 (seqQ (exL Try.prog zbh (cr (cr (cr (cr (zg Try.f45))))) 16 16 []) (retK Try.prog Try.f45 K))) (.exit 0) (ud6 (.slice sa ta ua::ud16 [])) H=
 (K (.slice sa ta ua) H):=by kernel_rfl
theorem znm:∀g,FnOk Try.prog g (zbh g):=FnOk.envOf (by
 intro x hx
 simp only [List.mem_cons,List.not_mem_nil,or_false] at hx
 rcases hx with rfl | rfl
 ·exact f10z_ok
 ·exact f6z_ok)
theorem ω4 {P:Prop} (h:P:=by first | rfl | omega | (simp only [List.length_set];done) | (simp only [List.length_set,List.length_replicate];omega)):P:=h
theorem ω3 {P:Prop} (h:P:=by first | omega | (simp;done) | (simp;omega)):P:=h
theorem ω9 {P:Prop} (h:P:=by first | (simp only [List.length_map,List.length_cons,List.length_nil,List.length_append];done) | (simp only [List.length_map,List.length_cons,List.length_nil,List.length_append];omega) | (simp only [List.length_map,List.length_cons,List.length_nil,List.length_append,List.length_take,List.length_drop];omega)):P:=h
theorem ω40 {P:Prop} (h:P:=by have:=z17f;omega):P:=h
theorem ω18 {P:Prop} (h:P:=by first | omega):P:=h
theorem ω8 {P:Prop} (h:P:=by first | omega | (simp only [List.length_append,List.length_cons,List.length_nil];done) | (simp only [List.length_append,List.length_cons,List.length_nil];omega) | (simp only [List.length_append,List.length_cons,List.length_nil,List.length_take,List.length_drop];omega)):P:=h
theorem ω1 {P:Prop} (h:P:=by first | omega | (simp only [List.length_append,List.length_cons,List.length_nil,List.length_set];done) | (simp only [List.length_append,List.length_cons,List.length_nil,List.length_set];omega)):P:=h
theorem ω19 {P:Prop} (h:P:=by rw [show μ-1+1=μ from by first | omega];exact e):P:=h
theorem zzu (wa:OA) (ya kb:Nat) (n:Int) (H:zd) (K:KT) (h:zyi wa ya kb n H fun (za:OA) (db:Nat) (cb:Nat) (H':zd)=>K (.slice za db cb) H'):zk Try.prog zbh Try.f45 [.slice wa ya kb,.int .i64 n] H K:=by
 rw [z1be]
 obtain ⟨ja,i_code,bd_75,pr0,hk⟩:=h
 obtain rfl:=i_code.eqn
 have e:(zm ja n)=_:=rfl
 have e:=e.trans (zpb ja n)
 have g0:=Grow.refl H
 refine zy1 (fun b_1 H_1 hb_2 hl_3 g_4 o5=>?_)
 have o5:Own H_1 b_1 [.slice wa ja.length kb,.int .i64 (0:Int),.int .u64 (0:Int)]:=o5
 have l_7:=g_4.1
 have g8:=g0.trans g_4
 have l_9:=g8.1
 have w74:=o5.lt
 refine Al.intro (fun b_10 H_2 hb_11 hl_12 g13 o14=>?_)
 have o14:Own H_2 b_10 ((([]:LN)).map fF):=o14
 have l16:=g13.1
 have g17:=g8.trans g13
 have l18:=g17.1
 have o19:=o5.grow g13
 have w20:=o19.lt
 have w73:=o14.lt
 refine z1b9 _ (fun (μ:Nat) (n_1:Int) (sa:OA) (ta:Nat) (ua:Nat) (H_3:zd)=>∃nb:LN,∃b21:Nat,∃(q1_2 q1_3:Int),sa=some ⟨b21,0,none⟩∧ta=nb.length∧ua=1∧Own H_3 b21 (nb.map fF)∧Own H_3 b_1 [.slice wa ja.length kb,.int .i64 q1_2,.int .u64 q1_3]∧(b21≠b_1)∧Grow H H_3∧H.length≤b21∧(n_1≤n∨0≤n_1)∧0≤q1_2∧  q1_2≤2*(n-n_1)+2∧  (nb.length:Int)≤n-n_1∧  n_1≤n∧n_1-0≤(μ:Int)∧zm ja n=z8a ja n (μ+1) n_1 nb q1_2 q1_3) (Int.toNat (n-0)) _ _ _ _ H_2 ?_ ?_
 ·exact ⟨_,_,_,_,rfl,ω4,rfl,o14,(by first | exact o19 | (have hbx:=o19;(try simp only [List.length_append,List.length_cons,List.length_nil,Nat.zero_add] at hbx);(try simp only [List.length_append,List.length_cons,List.length_nil,Nat.zero_add]);exact hbx)),ω2,g17,ω2,ω3,ω3,ω3,ω3,ω3,ω2,e⟩
 ·intro μ n_1 sa ta ua  H_3 hI
  obtain ⟨nb,b21,q1_2,q1_3,rfl,rfl,rfl,o22,o23,n24,g25,l26,v27,v28,v29,v30,v31,hμ,e⟩:=hI
  rw [z1bd]
  have e:=e.trans (zfc ja n μ n_1 nb q1_2 q1_3)
  have w32:=o23.lt
  have w33:=o22.lt
  have l34:=g25.1
  refine Br.intro (fun c35=>?_) (fun c35=>?_)
  ·have e:=e.trans (zj c35)
   have c_35':=odt c35
   refine z13n ⟨H,_,_,_,ja,q1_2,q1_3,o23,i_code,g25,ω2,ω2,ω2,(fun H_4 k36 o37=>?_)⟩
   have o37:Own H_4 b_1 [.slice wa ja.length kb,.int .i64 ((z3y ja q1_2 q1_3 (65:Int)).2.1),.int .u64 ((z3y ja q1_2 q1_3 (65:Int)).2.2)]:=o37
   have z43:=f6z_rng ja q1_2 q1_3 (65:Int)
   have l38:=k36.1
   have g39:=g25.keep (b:=b_1) ω2 k36
   have l40:=g39.1
   have o41:=o22.keep ω2 k36
   have w42:=o41.lt
   have w72:=o37.lt
   refine Al.intro (fun b44 H_5 hb_45 hl_46 g47 o48=>?_)
   have o48:Own H_5 b44 (([(fdiv .f32 (FloatKind.nearest .f32 (IntKind.wrap .i64 (((z3y ja q1_2 q1_3 (65:Int)).1)-32))) 1082130432)]).map fF):=o48
   have l50:=g47.1
   have g51:=g39.trans g47
   have l52:=g51.1
   have o53:=o37.grow g47
   have w54:=o53.lt
   have o55:=o41.grow g47
   have w56:=o55.lt
   have w71:=o48.lt
   refine ⟨_,_,o55.ownB ω9 rfl,(zch (o48.isL ω4)),(fun h=>by cases h),ω40,?_⟩
   refine Ap.app o55 rfl rfl (fun b61 H_6 q69 hl_57 o58 k59=>?_)
   have o58:=z9t o58
   have l62:=k59.1
   have g63:=g51.keep (b:=b21) ω2 k59
   have l_64:=g63.1
   have o65:=o53.keep ω2 k59
   have w66:=o65.lt
   have o67:=o48.keep ω2 k59
   have w68:=o67.lt
   have w70:=o58.lt
   rw [show IntKind.wrap .i64 (n_1-1)=(n_1-1) from zy ω2 ω2]
   refine z1bb (μ-1) ω18 ⟨_,_,_,_,rfl,ω8,rfl,o58,(by first | exact o65 | (have hbx:=o65;(try simp only [List.length_append,List.length_cons,List.length_nil,Nat.zero_add] at hbx);(try simp only [List.length_append,List.length_cons,List.length_nil,Nat.zero_add]);exact hbx)),ω2,g63,ω2,ω1,ω1,ω1,ω1,ω1,ω18,ω19⟩
  ·have e:=e.trans (zi c35)
   have c_35':=odf c35
   rw [zzv]
   rw [e] at hk
   exact hk _ _ _ H_3 g25 (o22.ownS ω4 ω2)
theorem z1bc:FnOk Try.prog 45 zqw:=by
 refine FnOk.body mix_ok znm Try.func45 rfl ω5 ω5 ?_ ?_ ?_ ?_ ?_
 ·intro args H K K' h hk
  simp only [zqw] at *
  unfold zt2 at *
  split at hk
  ·obtain ⟨ja,i_code,bd_75,pr0,k⟩:=hk
   exact ⟨ja,i_code,bd_75,pr0,(fun za db cb H' gg ow0=>h _ _ (k za db cb H' gg ow0))⟩
  ·exact hk.elim
 ·intro hq;cases hq
 ·intro args H K hk
  simp only [zqw] at *
  unfold zt2 at *
  split at hk
  ·obtain ⟨ja,i_code,bd_75,pr0,k⟩:=hk
   exact zk5 fun a n e H1 g o=>⟨_,_,k a n e H1 g o⟩
  ·exact hk.elim
 ·intro _ args H K hk
  simp only [zqw] at *
  unfold zt2 at *
  split at hk
  ·obtain ⟨ja,i_code,bd_75,pr0,k⟩:=hk
   exact ⟨ja,i_code,bd_75,pr0,(fun za db cb H' gg ow0=>⟨gg,k za db cb H' gg ow0⟩)⟩
  ·exact hk.elim
 ·have mm:=@zzu
  have ml:=fun (args:List Value) (H:zd) (K:KT)=>zf (P:=Try.prog) (env:=zbh) (fn:=Try.f45) (args:=args) (H:=H) (K:=K) znm 
  revert mm ml
  generalize z1a Try.prog zbh Try.f45=Q
  generalize zk Try.prog zbh Try.f45=QL
  intro mm ml args H K hk
  simp only [zqw] at *
  unfold zt2 at *
  split at hk
  ·exact ml _ H K (mm _ _ _ _ H K hk)
  ·exact hk.elim
def z1n (n low high:Int):Bool:=(bif decide ((low:Int)≤n) then decide ((n:Int)≤high) else false)
def z7a (n low high:Int) (H:zd) (K:Bool→zd→Prop):Prop:=K (z1n n low high) H
theorem zb3 {n a b:Int} (h:z1n n a b=true):a≤n∧n≤b:=by
 unfold z1n at h
 by_cases h1:a≤n
 ·rw [dct h1,cond_true] at h;exact ⟨h1,odt h⟩
 ·rw [dcf h1] at h;cases h
theorem z6f {n low high:Int} {H:zd} {K:Bool→zd→Prop} (h:K (z1n n low high) H):z7a n low high H K:=h
def zdy:Env:=envOf []
def zi7:List Value→zd→(Value→zd→Prop)→Prop
 | [.int .i64 n,.int .i64 low,.int .i64 high],H,K=>z7a n low high H fun (r1:Bool) (H':zd)=>K (.bool r1) H'
 | _,_,_=>False
def z8n:FSpec:={F:=zi7,quiet:=true,tame:=false}
theorem z14y (n low high:Int) (H:zd) (K:KT):zk Try.prog zdy Try.f96 [.int .i64 n,.int .i64 low,.int .i64 high] H K=
 (Br (decide ((low:Int)≤n)) (K (.bool (decide ((n:Int)≤high))) H) (K (.bool false) H)):=by kernel_rfl
theorem zhl:∀g,FnOk Try.prog g (zdy g):=FnOk.envOf (by
 intro x hx;cases hx)
theorem zus (n low high:Int) (H:zd) (K:KT) (h:z7a n low high H fun (r1:Bool) (H':zd)=>K (.bool r1) H'):zk Try.prog zdy Try.f96 [.int .i64 n,.int .i64 low,.int .i64 high] H K:=by
 rw [z14y]
 unfold z7a z1n at h
 repeat' (first | exact h | (exfalso;simp_all;done) | (refine ⟨by decide,?_⟩) | (refine Br.intro (fun hb=>?_) (fun hb=>?_)<;>(try simp only [hb,cond_true,cond_false,Bool.not_true,Bool.not_false] at h)))
theorem zcc:FnOk Try.prog 96 z8n:=by
 refine FnOk.body mix_ok zhl Try.func96 rfl ω5 ω5 ?_ ?_ ?_ ?_ ?_
 ·intro args H K K' h hk
  simp only [z8n] at *
  unfold zi7 at *
  split at hk
  ·have k:=hk
   exact h _ _ k
  ·exact hk.elim
 ·intro _ args H K hk
  simp only [z8n] at *
  unfold zi7 at *
  split at hk
  ·have k:=hk
   exact ⟨_,k,fun K' k'=>k'⟩
  ·exact hk.elim
 ·intro args H K hk
  simp only [z8n] at *
  unfold zi7 at *
  split at hk
  ·have k:=hk
   exact ⟨_,_,k⟩
  ·exact hk.elim
 ·intro hq;cases hq
 ·have mm:=@zus
  have ml:=fun (args:List Value) (H:zd) (K:KT)=>zf (P:=Try.prog) (env:=zdy) (fn:=Try.f96) (args:=args) (H:=H) (K:=K) zhl 
  revert mm ml
  generalize z1a Try.prog zdy Try.f96=Q
  generalize zk Try.prog zdy Try.f96=QL
  intro mm ml args H K hk
  simp only [z8n] at *
  unfold zi7 at *
  split at hk
  ·exact ml _ H K (mm _ _ _ H K hk)
  ·exact hk.elim
def zdq (x:Nat):Bool:=feq .f32 (fsub .f32 x x) 0
def zfy (x:Nat) (H:zd) (K:Bool→zd→Prop):Prop:=K (zdq x) H

theorem zll {x:Nat} {H:zd} {K:Bool→zd→Prop} (h:K (zdq x) H):zfy x H K:=h
def zqe:Env:=envOf []
def zt9:List Value→zd→(Value→zd→Prop)→Prop
 | [.float .f32 x],H,K=>zfy x H fun (r1:Bool) (H':zd)=>K (.bool r1) H'
 | _,_,_=>False
def zft:FSpec:={F:=zt9,quiet:=true,tame:=false}
theorem z1bx (x:Nat) (H:zd) (K:KT):zk Try.prog zqe Try.f133 [.float .f32 x] H K=
 (K (.bool (feq .f32 (fsub .f32 x x) 0)) H):=by kernel_rfl
theorem znt:∀g,FnOk Try.prog g (zqe g):=FnOk.envOf (by
 intro x hx;cases hx)
theorem z10g (x:Nat) (H:zd) (K:KT) (h:zfy x H fun (r1:Bool) (H':zd)=>K (.bool r1) H'):zk Try.prog zqe Try.f133 [.float .f32 x] H K:=by
 rw [z1bx]
 unfold zfy zdq at h
 repeat' (first | exact h | (exfalso;simp_all;done) | (refine ⟨by decide,?_⟩) | (refine Br.intro (fun hb=>?_) (fun hb=>?_)<;>(try simp only [hb,cond_true,cond_false,Bool.not_true,Bool.not_false] at h)))
theorem zon:FnOk Try.prog 133 zft:=by
 refine FnOk.body mix_ok znt Try.func133 rfl ω5 ω5 ?_ ?_ ?_ ?_ ?_
 ·intro args H K K' h hk
  simp only [zft] at *
  unfold zt9 at *
  split at hk
  ·have k:=hk
   exact h _ _ k
  ·exact hk.elim
 ·intro _ args H K hk
  simp only [zft] at *
  unfold zt9 at *
  split at hk
  ·have k:=hk
   exact ⟨_,k,fun K' k'=>k'⟩
  ·exact hk.elim
 ·intro args H K hk
  simp only [zft] at *
  unfold zt9 at *
  split at hk
  ·have k:=hk
   exact ⟨_,_,k⟩
  ·exact hk.elim
 ·intro hq;cases hq
 ·have mm:=@z10g
  have ml:=fun (args:List Value) (H:zd) (K:KT)=>zf (P:=Try.prog) (env:=zqe) (fn:=Try.f133) (args:=args) (H:=H) (K:=K) znt 
  revert mm ml
  generalize z1a Try.prog zqe Try.f133=Q
  generalize zk Try.prog zqe Try.f133=QL
  intro mm ml args H K hk
  simp only [zft] at *
  unfold zt9 at *
  split at hk
  ·exact ml _ H K (mm _ H K hk)
  ·exact hk.elim

def za5 (ab:List LN) (t2:Bool) (t9:Int) (k2_2:Bool→Int→Bool):Nat→Bool→Int→Bool
 | 0,_,_=>false
 | μ2+1,t2_2,t15=>(bif decide ((t15:Int)<((((ab).getD (t9:Int).toNat [])).length:Int)) then (bif !((zdq (((((ab).getD (t9:Int).toNat [])).getD (t15:Int).toNat 0)))) then false else (za5 ab t2 t9 k2_2 μ2 t2_2 (t15+1))) else (k2_2 t2_2 t15))
def zfb:=fun ab t2 t9 k2_2 μ2 t2_2 t15=>@za5.eq_2 ab t2 t9 k2_2 t2_2 t15 μ2
def z5g (ab:List LN):Nat→Bool→Int→Bool
 | 0,_,_=>false
 | μ+1,t2,t9=>(bif decide ((t9:Int)<(ab.length:Int)) then (za5 ab t2 t9 (fun (t2_2:Bool) (t15:Int)=>(z5g ab μ t2_2 (t9+1))) (Int.toNat (((((ab).getD (t9:Int).toNat [])).length:Int)-(0:Int))+1) t2 (0:Int)) else true)
def zfa:=fun ab μ t2 t9=>@z5g.eq_2 ab t2 t9 μ
def zaq (ab:List LN):Bool:=(z5g ab (Int.toNat ((ab.length:Int)-(0:Int))+1) false (0:Int))
def zpa:=@zaq.eq_1
def zr5 (gb:OA) (va mb:Nat) (H:zd) (K:Bool→zd→Prop):Prop:=∃(ab:List LN),IsLL fF H gb va ab∧ab.length<1073741824∧(∀y ∈ ab,y.length<1073741824)∧K (zaq ab) H
theorem zli {gb:OA} {va mb:Nat} {H:zd} {K:Bool→zd→Prop} (h:∃(ab:List LN),IsLL fF H gb va ab∧ab.length<1073741824∧(∀y ∈ ab,y.length<1073741824)∧K (zaq ab) H):zr5 gb va mb H K:=h

def z5p:Env:=envOf [(133,zft)]
def zt1:List Value→zd→(Value→zd→Prop)→Prop
 | [.slice gb va mb],H,K=>zr5 gb va mb H fun (r1:Bool) (H':zd)=>K (.bool r1) H'
 | _,_,_=>False
def zim:FSpec:={F:=zt1,quiet:=true,tame:=false}
theorem z1b8 (gb:OA) (va mb:Nat) (H:zd) (K:KT):zk Try.prog z5p Try.f166 [.slice gb va mb] H K=
 (z1b (exL Try.prog z5p (cl (cl (cr (cl (cr (zg Try.f166)))))) 896 4 [(0,0)]) (ud7 (.slice gb va mb::.int .i64 (va:Int)::.int .i64 0::ud14 [])) H (zn 0 (seqQ (exL Try.prog z5p (cr (cr (zg Try.f166))) 4 4 []) (retK Try.prog Try.f166 K)))):=by kernel_rfl
abbrev zjp (gb:OA) (mb va:Nat) (t9:Int)  :List Value:=(ud7 (.slice gb va mb::.int .i64 (va:Int)::.int .i64 t9::ud14 []))
theorem z1b6 (gb:OA) (mb va:Nat) (t9:Int)  (H:zd) (R:Post):exL Try.prog z5p (cl (cl (cr (cl (cr (zg Try.f166)))))) 896 4 [(0,0)] (zjp gb mb va t9) H R=
 (Br (decide ((t9:Int)<(va:Int))) ((0:Int)≤t9∧t9<(va:Int)∧∃b1 f1,(gb:OA)=some ⟨b1,f1,none⟩∧∃yb:OA,∃(xb zb:Nat),  rdC H b1 (f1+(t9:Int).toNat*1)=some (.slice yb xb zb)∧z1b (exL Try.prog z5p (cl (cl (cr (cr (cl (cl (cr (cr (cl (cl (cr (cl (cr (zg Try.f166)))))))))))))) 58240 4 [(2,896),(1,896),(0,0)]) (ud7 (.slice gb va mb::.int .i64 (va:Int)::.int .i64 t9::ud3 (.slice yb xb zb::.int .i64 (xb:Int)::.int .i64 0::ud8 []))) H (zn 2 (zn 1 (seqQ (exL Try.prog z5p (cr (cr (cr (cl (cl (cr (cl (cr (zg Try.f166))))))))) 896 4 [(0,0)]) (R))))) (R (.exit 0) (ud24 []) H)):=by kernel_rfl
def zvk (gb:OA) (mb va:Nat) (Inv:Nat→Int→zd→Prop):Nat→List Value→zd→Prop:=fun μ tm H=>∃t9:Int,tm=(zjp gb mb va t9)∧Inv μ t9 H
theorem z1b2 (gb:OA) (mb va:Nat) {Q:Post} (Inv:Nat→Int→zd→Prop) (ν:Nat) (t9:Int)  (H:zd) (h0:Inv ν t9 H)
  (hs:∀(μ:Nat) (t9:Int)  (H:zd),Inv μ t9 H→exL Try.prog z5p (cl (cl (cr (cl (cr (zg Try.f166)))))) 896 4 [(0,0)] (zjp gb mb va t9) H (zp (zvk gb mb va Inv) μ Q)):z1b (exL Try.prog z5p (cl (cl (cr (cl (cr (zg Try.f166)))))) 896 4 [(0,0)]) (zjp gb mb va t9) H Q:=
 ⟨zvk gb mb va Inv,ν,⟨t9,rfl,h0⟩,fun μ tm H h=>by obtain ⟨t9,rfl,hI⟩:=h;exact hs μ t9  H hI⟩
theorem z1b4 {gb:OA} {mb va:Nat} {Q:Post} {Inv:Nat→Int→zd→Prop} {μ:Nat} (μ':Nat) {t9:Int}  {H:zd} (hm:μ'<μ) (hI:Inv μ' t9 H):zp (zvk gb mb va Inv) μ Q .normal (zjp gb mb va t9) H:=⟨μ',hm,t9,rfl,hI⟩
theorem zzs  (H:zd) (K:KT)  {I:Nat→List Value→zd→Prop} {μ:Nat}:zp I μ (zn 0 (seqQ (exL Try.prog z5p (cr (cr (zg Try.f166))) 4 4 []) (retK Try.prog Try.f166 K))) (.exit 0) (ud24 []) H=
 (K (.bool true) H):=by kernel_rfl
theorem zrk (t2:Bool) (H:zd) (K:KT)  {I:Nat→List Value→zd→Prop} {μ:Nat}:zp I μ (zn 0 (seqQ (exL Try.prog z5p (cr (cr (zg Try.f166))) 4 4 []) (retK Try.prog Try.f166 K))) .ret (ud2 (.bool t2::ud21 [])) H=
 (K (.bool t2) H):=by kernel_rfl
abbrev zjq (gb:OA) (mb va:Nat) (t9:Int) (yb:OA) (zb xb:Nat) (t15:Int)  :List Value:=(ud7 (.slice gb va mb::.int .i64 (va:Int)::.int .i64 t9::ud3 (.slice yb xb zb::.int .i64 (xb:Int)::.int .i64 t15::ud8 [])))
theorem z1b7 (gb:OA) (mb va:Nat) (t9:Int) (yb:OA) (zb xb:Nat) (t15:Int)  (H:zd) (R:Post):exL Try.prog z5p (cl (cl (cr (cr (cl (cl (cr (cr (cl (cl (cr (cl (cr (zg Try.f166)))))))))))))) 58240 4 [(2,896),(1,896),(0,0)] (zjq gb mb va t9 yb zb xb t15) H R=
 (Br (decide ((t15:Int)<(xb:Int))) ((0:Int)≤t15∧t15<(xb:Int)∧∃b2 f2,(yb:OA)=some ⟨b2,f2,none⟩∧∃x2:Nat,  rdC H b2 (f2+(t15:Int).toNat*1)=some (.float .f32 x2)∧zfy x2 H fun (r1:Bool) (H1:zd)=>Br (!r1) (R .ret (ud2 (.bool false::ud21 [])) H1) (R .normal (ud7 (.slice gb va mb::.int .i64 (va:Int)::.int .i64 t9::ud3 (.slice yb xb zb::.int .i64 (xb:Int)::.int .i64 (IntKind.wrap .i64 (t15+1))::ud8 []))) H1)) (R (.exit 2) (ud7 (.slice gb va mb::.int .i64 (va:Int)::.int .i64 t9::ud14 [])) H)):=by kernel_rfl
def zvl (gb:OA) (mb va:Nat) (t9:Int) (yb:OA) (zb xb:Nat) (Inv:Nat→Int→zd→Prop):Nat→List Value→zd→Prop:=fun μ tm H=>∃t15:Int,tm=(zjq gb mb va t9 yb zb xb t15)∧Inv μ t15 H
theorem z1b3 (gb:OA) (mb va:Nat) (t9:Int) (yb:OA) (zb xb:Nat) {Q:Post} (Inv:Nat→Int→zd→Prop) (ν:Nat) (t15:Int)  (H:zd) (h0:Inv ν t15 H)
  (hs:∀(μ:Nat) (t15:Int)  (H:zd),Inv μ t15 H→exL Try.prog z5p (cl (cl (cr (cr (cl (cl (cr (cr (cl (cl (cr (cl (cr (zg Try.f166)))))))))))))) 58240 4 [(2,896),(1,896),(0,0)] (zjq gb mb va t9 yb zb xb t15) H (zp (zvl gb mb va t9 yb zb xb Inv) μ Q)):z1b (exL Try.prog z5p (cl (cl (cr (cr (cl (cl (cr (cr (cl (cl (cr (cl (cr (zg Try.f166)))))))))))))) 58240 4 [(2,896),(1,896),(0,0)]) (zjq gb mb va t9 yb zb xb t15) H Q:=
 ⟨zvl gb mb va t9 yb zb xb Inv,ν,⟨t15,rfl,h0⟩,fun μ tm H h=>by obtain ⟨t15,rfl,hI⟩:=h;exact hs μ t15  H hI⟩
theorem z1b5 {gb:OA} {mb va:Nat} {t9:Int} {yb:OA} {zb xb:Nat} {Q:Post} {Inv:Nat→Int→zd→Prop} {μ:Nat} (μ':Nat) {t15:Int}  {H:zd} (hm:μ'<μ) (hI:Inv μ' t15 H):zp (zvl gb mb va t9 yb zb xb Inv) μ Q .normal (zjq gb mb va t9 yb zb xb t15) H:=⟨μ',hm,t15,rfl,hI⟩
theorem zzt (gb:OA) (mb va:Nat) (t9:Int) (H:zd)  (R:Post) {I:Nat→List Value→zd→Prop} {μ:Nat}:zp I μ (zn 2 (zn 1 (seqQ (exL Try.prog z5p (cr (cr (cr (cl (cl (cr (cl (cr (zg Try.f166))))))))) 896 4 [(0,0)]) (R)))) (.exit 2) (ud7 (.slice gb va mb::.int .i64 (va:Int)::.int .i64 t9::ud14 [])) H=
 (R .normal (ud7 (.slice gb va mb::.int .i64 (va:Int)::.int .i64 (IntKind.wrap .i64 (t9+1))::ud14 [])) H):=by kernel_rfl
theorem zrl (t2_2:Bool) (H:zd)  (R:Post) {I:Nat→List Value→zd→Prop} {μ:Nat}:zp I μ (zn 2 (zn 1 (seqQ (exL Try.prog z5p (cr (cr (cr (cl (cl (cr (cl (cr (zg Try.f166))))))))) 896 4 [(0,0)]) (R)))) .ret (ud2 (.bool t2_2::ud21 [])) H=
 (R .ret (ud2 (.bool t2_2::ud21 [])) H):=by kernel_rfl
theorem znl:∀g,FnOk Try.prog g (z5p g):=FnOk.envOf (by
 intro x hx
 simp only [List.mem_cons,List.not_mem_nil,or_false] at hx
 subst hx;exact zon)
theorem ω30 {P:Prop} (h:P:=by rw [show μ2-1+1=μ2 from by first | omega];exact e):P:=h
theorem zzr (gb:OA) (va mb:Nat) (H:zd) (K:KT) (h:zr5 gb va mb H fun (r1:Bool) (H':zd)=>K (.bool r1) H'):zk Try.prog z5p Try.f166 [.slice gb va mb] H K:=by
 rw [z1b8]
 obtain ⟨ab,i_lists,bd_22,bb_l_lists,hk⟩:=h
 obtain rfl:=i_lists.eqn
 have e:(zaq ab)=_:=rfl
 have e:=e.trans (zpa ab)
 have g0:=Grow.refl H
 refine z1b2 _ _ _ (fun (μ:Nat) (t9:Int) (H_1:zd)=>∃t2:Bool,H=H_1∧(0:Int)≤t9∧t9≤(ab.length:Int)∧(ab.length:Int)-t9≤(μ:Int)∧zaq ab=z5g ab (μ+1) t2 t9) (Int.toNat ((ab.length:Int)-(0:Int))) _ H ?_ ?_
 ·exact ⟨_,rfl,ω3,ω3,ω2,e⟩
 ·intro μ t9  H_1 hI
  obtain ⟨t2,rfl,v_1,v_2,hμ,e⟩:=hI
  rw [z1b6]
  have e:=e.trans (zfa ab μ t2 t9)
  have l3:=g0.1
  refine Br.intro (fun c_4=>?_) (fun c_4=>?_)
  ·have e:=e.trans (zj c_4)
   have c_4':=odt c_4
   obtain ⟨b_5,f6,q_7⟩:=((i_lists.grow g0)).pos ω0
   refine ⟨by omega,by omega,b_5,f6,q_7,?_⟩
   obtain ⟨a8,n_9,e10,r_11,i12⟩:=(i_lists).rd (i:=(t9:Int).toNat) g0 q_7 ω2
   obtain rfl:=i12.eqn
   refine ⟨a8,_,e10,r_11,?_⟩
   have z13:=z10u bb_l_lists (t9:Int).toNat
   refine z1b3 _ _ _ _ _ _ _ (fun (μ2:Nat) (t15:Int) (H_2:zd)=>∃t2_2:Bool,H=H_2∧(0:Int)≤t15∧t15≤((((ab).getD (t9:Int).toNat [])).length:Int)∧((((ab).getD (t9:Int).toNat [])).length:Int)-t15≤(μ2:Int)∧zaq ab=za5 ab t2 t9 (fun (t2_2:Bool) (t15:Int)=>(z5g ab μ t2_2 (t9+1))) (μ2+1) t2_2 t15) (Int.toNat (((((ab).getD (t9:Int).toNat [])).length:Int)-(0:Int))) _ H ?_ ?_
   ·exact ⟨_,rfl,ω3,ω3,ω2,e⟩
   ·intro μ2 t15  H_2 hI
    obtain ⟨t2_2,rfl,v14,v15,hμ,e⟩:=hI
    rw [z1b7]
    have e:=e.trans (zfb ab t2 t9 (fun (t2_2:Bool) (t15:Int)=>(z5g ab μ t2_2 (t9+1))) μ2 t2_2 t15)
    have l16:=g0.1
    refine Br.intro (fun c_17=>?_) (fun c_17=>?_)
    ·have e:=e.trans (zj c_17)
     have c_17':=odt c_17
     obtain ⟨b18,f19,q20⟩:=((i12.grow g0)).pos ω0
     refine ⟨by omega,by omega,b18,f19,q20,?_⟩
     refine ⟨((((ab).getD (t9:Int).toNat [])).getD (t15:Int).toNat 0),(i12).rd g0 q20 ω2 _,?_⟩
     refine zll ?_
     refine Br.intro (fun c_21=>?_) (fun c_21=>?_)
     ·have e:=e.trans (zj c_21)
      have c_21n:=zv c_21
      rw [zrl]
      rw [zrk]
      rw [e] at hk
      exact hk
     ·have e:=e.trans (zi c_21)
      have c_21n:=zr c_21
      rw [show IntKind.wrap .i64 (t15+1)=(t15+1) from zy ω2 ω2]
      refine z1b5 (μ2-1) ω18 ⟨_,rfl,ω1,ω1,ω18,ω30⟩
    ·have e:=e.trans (zi c_17)
     have c_17':=odf c_17
     rw [zzt]
     rw [show IntKind.wrap .i64 (t9+1)=(t9+1) from zy ω2 ω2]
     refine z1b4 (μ-1) ω18 ⟨_,rfl,ω1,ω1,ω18,ω19⟩
  ·have e:=e.trans (zi c_4)
   have c_4':=odf c_4
   rw [zzs]
   rw [e] at hk
   exact hk
theorem zvm:FnOk Try.prog 166 zim:=by
 refine FnOk.body mix_ok znl Try.func166 rfl ω5 ω5 ?_ ?_ ?_ ?_ ?_
 ·intro args H K K' h hk
  simp only [zim] at *
  unfold zt1 at *
  split at hk
  ·obtain ⟨ab,i_lists,bd_22,bb_l_lists,k⟩:=hk
   exact ⟨ab,i_lists,bd_22,bb_l_lists,h _ _ k⟩
  ·exact hk.elim
 ·intro _ args H K hk
  simp only [zim] at *
  unfold zt1 at *
  split at hk
  ·obtain ⟨ab,i_lists,bd_22,bb_l_lists,k⟩:=hk
   exact ⟨_,k,fun K' k'=>⟨ab,i_lists,bd_22,bb_l_lists,k'⟩⟩
  ·exact hk.elim
 ·intro args H K hk
  simp only [zim] at *
  unfold zt1 at *
  split at hk
  ·obtain ⟨ab,i_lists,bd_22,bb_l_lists,k⟩:=hk
   exact ⟨_,_,k⟩
  ·exact hk.elim
 ·intro hq;cases hq
 ·have mm:=@zzr
  have ml:=fun (args:List Value) (H:zd) (K:KT)=>zf (P:=Try.prog) (env:=z5p) (fn:=Try.f166) (args:=args) (H:=H) (K:=K) znl 
  revert mm ml
  generalize z1a Try.prog z5p Try.f166=Q
  generalize zk Try.prog z5p Try.f166=QL
  intro mm ml args H K hk
  simp only [zim] at *
  unfold zt1 at *
  split at hk
  ·exact ml _ H K (mm _ _ _ H K hk)
  ·exact hk.elim

def z6x (aa:LN):Bool:=(bif (z1n (aa.length:Int) (1:Int) (128:Int)) then (zaq ([aa])) else false)
def z7i:=@z6x.eq_1
def zc5 (ca:OA) (ba ga:Nat) (H:zd) (K:Bool→zd→Prop):Prop:=∃aa:LN,IsL fF H ca ba aa∧aa.length<1073741824∧((∀H':zd,Grow H H'→K (z6x aa) H'))
theorem zbr {ca:OA} {ba ga:Nat} {H:zd} {K:Bool→zd→Prop} (h:∃aa:LN,IsL fF H ca ba aa∧aa.length<1073741824∧((∀H':zd,Grow H H'→K (z6x aa) H'))):zc5 ca ba ga H K:=h
theorem f19z_t {l:LN} (h:z6x l=true):1≤(l.length:Int)∧(l.length:Int)≤128:=by
 rw [z7i] at h
 cases h1:z1n (l.length:Int) 1 128
 ·rw [h1] at h;cases h
 ·exact zb3 h1
def zdx:Env:=envOf [(96,z8n),(166,zim)]
def zi5:List Value→zd→(Value→zd→Prop)→Prop
 | [.slice ca ba ga],H,K=>zc5 ca ba ga H fun (r1:Bool) (H':zd)=>K (.bool r1) H'
 | _,_,_=>False
def zaz:FSpec:={F:=zi5,quiet:=false,tame:=true}
theorem f19z_vc (ca:OA) (ba ga:Nat) (H:zd) (K:KT):zk Try.prog zdx Try.f105 [.slice ca ba ga] H K=
 (z7a (ba:Int) 1 128 H fun (r1:Bool) (H1:zd)=>Br r1 (Al [.slice ca ba ga] H1 fun b1 H2=>zr5 (some ⟨b1,0,none⟩) 1 1 H2 fun (r2:Bool) (H3:zd)=>K (.bool r2) H3) (K (.bool false) H1)):=by kernel_rfl
theorem zhj:∀g,FnOk Try.prog g (zdx g):=FnOk.envOf (by
 intro x hx
 simp only [List.mem_cons,List.not_mem_nil,or_false] at hx
 rcases hx with rfl | rfl
 ·exact zcc
 ·exact zvm)
theorem ω20 {P:Prop} (h:P:=by first | assumption | exact zp0 (by assumption) (by omega) | exact zp0 (by assumption:_∧(_∨_)).2 (by omega) | (intro y hy;simp only [List.mem_cons,List.not_mem_nil,or_false] at hy;first | omega | (subst hy;omega) | (rcases hy with rfl | rfl<;>omega) | (rcases hy with rfl | rfl | rfl<;>omega))):P:=h
theorem f19z_main (ca:OA) (ba ga:Nat) (H:zd) (K:KT) (h:zc5 ca ba ga H fun (r1:Bool) (H':zd)=>K (.bool r1) H'):zk Try.prog zdx Try.f105 [.slice ca ba ga] H K:=by
 rw [f19z_vc]
 obtain ⟨aa,i_list,bd_12,hk⟩:=h
 obtain rfl:=i_list.eqn
 have e:(z6x aa)=_:=rfl
 have e:=e.trans (z7i aa)
 have g0:=Grow.refl H
 refine z6f ?_
 refine Br.intro (fun c_1=>?_) (fun c_1=>?_)
 ·have e:=e.trans (zj c_1)
  have c_1':=zb3 c_1
  refine Al.intro (fun b_2 H_1 hb_3 hl_4 g_5 o6=>?_)
  have l8:=g_5.1
  have g9:=g0.trans g_5
  have l_10:=g9.1
  have w11:=o6.lt
  refine zli ⟨[aa],⟨_,o6.rdAll rfl,LLc.cons (i_list.grow g9) (LLc.nil _ _)⟩,ω0,ω20,?_⟩
  rw [e] at hk
  exact hk  H_1 g9 
 ·have e:=e.trans (zi c_1)
  rw [e] at hk
  exact hk  H g0 
theorem f19z_ok:FnOk Try.prog 105 zaz:=by
 refine FnOk.body mix_ok zhj Try.func105 rfl ω5 ω5 ?_ ?_ ?_ ?_ ?_
 ·intro args H K K' h hk
  simp only [zaz] at *
  unfold zi5 at *
  split at hk
  ·obtain ⟨aa,i_list,bd_12,k⟩:=hk
   exact ⟨aa,i_list,bd_12,(fun  H' gg  =>h _ _ (k  H' gg))⟩
  ·exact hk.elim
 ·intro hq;cases hq
 ·intro args H K hk
  simp only [zaz] at *
  unfold zi5 at *
  split at hk
  ·obtain ⟨aa,i_list,bd_12,k⟩:=hk
   exact ⟨_,_,k H (Grow.refl H)⟩
  ·exact hk.elim
 ·intro _ args H K hk
  simp only [zaz] at *
  unfold zi5 at *
  split at hk
  ·obtain ⟨aa,i_list,bd_12,k⟩:=hk
   exact ⟨aa,i_list,bd_12,(fun  H' gg  =>⟨gg,k  H' gg⟩)⟩
  ·exact hk.elim
 ·have mm:=@f19z_main
  have ml:=fun (args:List Value) (H:zd) (K:KT)=>zf (P:=Try.prog) (env:=zdx) (fn:=Try.f105) (args:=args) (H:=H) (K:=K) zhj 
  revert mm ml
  generalize z1a Try.prog zdx Try.f105=Q
  generalize zk Try.prog zdx Try.f105=QL
  intro mm ml args H K hk
  simp only [zaz] at *
  unfold zi5 at *
  split at hk
  ·exact ml _ H K (mm _ _ _ H K hk)
  ·exact hk.elim
def z8l (x:Nat):Bool:=(bif fle .f32 1056964608 x then fle .f32 x 1098907648 else false)
def zlm (x:Nat) (H:zd) (K:Bool→zd→Prop):Prop:=K (z8l x) H

theorem zln {x:Nat} {H:zd} {K:Bool→zd→Prop} (h:K (z8l x) H):zlm x H K:=h
def zqh:Env:=envOf []
def zte:List Value→zd→(Value→zd→Prop)→Prop
 | [.float .f32 x],H,K=>zlm x H fun (r1:Bool) (H':zd)=>K (.bool r1) H'
 | _,_,_=>False
def ziq:FSpec:={F:=zte,quiet:=true,tame:=false}
theorem z1cf (x:Nat) (H:zd) (K:KT):zk Try.prog zqh Try.f163 [.float .f32 x] H K=
 (Br (fle .f32 1056964608 x) (K (.bool (fle .f32 x 1098907648)) H) (K (.bool false) H)):=by kernel_rfl
theorem zny:∀g,FnOk Try.prog g (zqh g):=FnOk.envOf (by
 intro x hx;cases hx)
theorem z10q (x:Nat) (H:zd) (K:KT) (h:zlm x H fun (r1:Bool) (H':zd)=>K (.bool r1) H'):zk Try.prog zqh Try.f163 [.float .f32 x] H K:=by
 rw [z1cf]
 unfold zlm z8l at h
 repeat' (first | exact h | (exfalso;simp_all;done) | (refine ⟨by decide,?_⟩) | (refine Br.intro (fun hb=>?_) (fun hb=>?_)<;>(try simp only [hb,cond_true,cond_false,Bool.not_true,Bool.not_false] at h)))
theorem zw5:FnOk Try.prog 163 ziq:=by
 refine FnOk.body mix_ok zny Try.func163 rfl ω5 ω5 ?_ ?_ ?_ ?_ ?_
 ·intro args H K K' h hk
  simp only [ziq] at *
  unfold zte at *
  split at hk
  ·have k:=hk
   exact h _ _ k
  ·exact hk.elim
 ·intro _ args H K hk
  simp only [ziq] at *
  unfold zte at *
  split at hk
  ·have k:=hk
   exact ⟨_,k,fun K' k'=>k'⟩
  ·exact hk.elim
 ·intro args H K hk
  simp only [ziq] at *
  unfold zte at *
  split at hk
  ·have k:=hk
   exact ⟨_,_,k⟩
  ·exact hk.elim
 ·intro hq;cases hq
 ·have mm:=@z10q
  have ml:=fun (args:List Value) (H:zd) (K:KT)=>zf (P:=Try.prog) (env:=zqh) (fn:=Try.f163) (args:=args) (H:=H) (K:=K) zny 
  revert mm ml
  generalize z1a Try.prog zqh Try.f163=Q
  generalize zk Try.prog zqh Try.f163=QL
  intro mm ml args H K hk
  simp only [ziq] at *
  unfold zte at *
  split at hk
  ·exact ml _ H K (mm _ H K hk)
  ·exact hk.elim
def z4s (x:Nat):Nat:=fint .up x
def z4g (x:Nat) (H:zd) (K:Nat→zd→Prop):Prop:=K (z4s x) H
def z6z:List Value→zd→(Value→zd→Prop)→Prop
 | [.float .f64 x],H,K=>z4g x H fun r1 H'=>K (.float .f64 r1) H'
 | _,_,_=>False
def z4f:FSpec:={F:=z6z,quiet:=true}
theorem zbn:FnOk Try.prog 235 z4f:=by
 refine FnOk.ext1 (f:=z4s) (e:=Extern.MathFloor.toIntegral "math.archCeil" .up) rfl ?_ (fun x H K h=>h) Try.func235 ω5 ω5 ω5 ω5 (fun b w=>z14r _ _ b w)
 intro args H K h
 simp only [z4f] at h
 unfold z6z at h
 split at h
 ·exact ⟨_,rfl,h⟩
 ·exact h.elim

def z1g (x:Nat):Nat:=(z4s x)
def ziy (x:Nat) (H:zd) (K:Nat→zd→Prop):Prop:=K (z1g x) H

theorem zy9 {x:Nat} {H:zd} {K:Nat→zd→Prop} (h:K (z1g x) H):ziy x H K:=h
def ze5:Env:=envOf [(235,z4f)]
def zif:List Value→zd→(Value→zd→Prop)→Prop
 | [.float .f64 x],H,K=>ziy x H fun (r1:Nat) (H':zd)=>K (.float .f64 r1) H'
 | _,_,_=>False
def zen:FSpec:={F:=zif,quiet:=true,tame:=false}
theorem z15o (x:Nat) (H:zd) (K:KT):zk Try.prog ze5 Try.f222 [.float .f64 x] H K=
 (z4g x H fun (r1:Nat) (H1:zd)=>K (.float .f64 r1) H1):=by kernel_rfl
theorem zht:∀g,FnOk Try.prog g (ze5 g):=FnOk.envOf (by
 intro x hx
 simp only [List.mem_cons,List.not_mem_nil,or_false] at hx
 subst hx;exact zbn)
theorem zv1 (x:Nat) (H:zd) (K:KT) (h:ziy x H fun (r1:Nat) (H':zd)=>K (.float .f64 r1) H'):zk Try.prog ze5 Try.f222 [.float .f64 x] H K:=by
 rw [z15o]
 simp only [z4g]
 unfold ziy z1g at h
 repeat' (first | exact h | (exfalso;simp_all;done) | (refine ⟨by decide,?_⟩) | (refine Br.intro (fun hb=>?_) (fun hb=>?_)<;>(try simp only [hb,cond_true,cond_false,Bool.not_true,Bool.not_false] at h)))
theorem z15n:FnOk Try.prog 222 zen:=by
 refine FnOk.body mix_ok zht Try.func222 rfl ω5 ω5 ?_ ?_ ?_ ?_ ?_
 ·intro args H K K' h hk
  simp only [zen] at *
  unfold zif at *
  split at hk
  ·have k:=hk
   exact h _ _ k
  ·exact hk.elim
 ·intro _ args H K hk
  simp only [zen] at *
  unfold zif at *
  split at hk
  ·have k:=hk
   exact ⟨_,k,fun K' k'=>k'⟩
  ·exact hk.elim
 ·intro args H K hk
  simp only [zen] at *
  unfold zif at *
  split at hk
  ·have k:=hk
   exact ⟨_,_,k⟩
  ·exact hk.elim
 ·intro hq;cases hq
 ·have mm:=@zv1
  have ml:=fun (args:List Value) (H:zd) (K:KT)=>zf (P:=Try.prog) (env:=ze5) (fn:=Try.f222) (args:=args) (H:=H) (K:=K) zht 
  revert mm ml
  generalize z1a Try.prog ze5 Try.f222=Q
  generalize zk Try.prog ze5 Try.f222=QL
  intro mm ml args H K hk
  simp only [zen] at *
  unfold zif at *
  split at hk
  ·exact ml _ H K (mm _ H K hk)
  ·exact hk.elim
def z1h (x:Int):Nat:=cn .f64 x.toNat
def zz (x:Int) (H:zd) (K:Nat→zd→Prop):Prop:=K (z1h x) H
def z3h:List Value→zd→(Value→zd→Prop)→Prop
 | [.int .u64 b],H,K=>zz b H fun r1 H'=>K (.float .f64 r1) H'
 | _,_,_=>False
def z1c:FSpec:={F:=z3h,quiet:=true}
theorem z1k {args:List Value} {H:zd} {K:KT} (h:z1c.F args H K):∃x,args=[.int .u64 x]∧K (.float .f64 (z1h x)) H:=by
 simp only [z1c] at h
 unfold z3h at h
 split at h
 ·exact ⟨_,rfl,h⟩
 ·exact h.elim
theorem z1w:FnOk Try.prog 209 z1c:=by
 refine FnOk.ext rfl ?_ ?_ ?_ ?_
 ·intro args H K K' h hk
  obtain ⟨x,rfl,k⟩:=z1k hk
  exact h _ _ k
 ·intro _ args H K hk
  obtain ⟨x,rfl,k⟩:=z1k hk
  exact ⟨_,k,fun K' k'=>k'⟩
 ·intro args H K hk
  obtain ⟨x,rfl,k⟩:=z1k hk
  exact ⟨_,_,k⟩
 ·intro ρ w args args' H K ha hk
  obtain ⟨x,rfl,k⟩:=z1k hk
  obtain ⟨y,ys,rfl,h3,h4⟩:=ha.uncons
  obtain rfl:=h4.unnil
  cases h3
  refine ⟨_,.float .f64 x.toNat,w,?_,.refl w,.float .f64 _ _ rfl,k⟩
  have:=run_callFunc_extern (e:=Extern.MathFloatBits.float64frombits) Try.func209 ω5 ω5 ω5 ω5 #[.int .u64 x] w
  rw [this];rfl

def zd1 (sign:Int):Nat:=(bif decide ((0:Int)≤sign) then (z1h 9218868437227405312) else (z1h 18442240474082181120))
def zc6 (sign:Int) (H:zd) (K:Nat→zd→Prop):Prop:=K (zd1 sign) H

theorem zfv {sign:Int} {H:zd} {K:Nat→zd→Prop} (h:K (zd1 sign) H):zc6 sign H K:=h
def ze8:Env:=envOf [(209,z1c)]
def zii:List Value→zd→(Value→zd→Prop)→Prop
 | [.int .i64 sign],H,K=>zc6 sign H fun (r1:Nat) (H':zd)=>K (.float .f64 r1) H'
 | _,_,_=>False
def zb0:FSpec:={F:=zii,quiet:=true,tame:=false}
theorem z15s (sign:Int) (H:zd) (K:KT):zk Try.prog ze8 Try.f186 [.int .i64 sign] H K=
 (Br (decide ((0:Int)≤sign)) (zz 9218868437227405312 H fun (r1:Nat) (H1:zd)=>K (.float .f64 r1) H1) (zz 18442240474082181120 H fun (r2:Nat) (H2:zd)=>K (.float .f64 r2) H2)):=by kernel_rfl
theorem zhw:∀g,FnOk Try.prog g (ze8 g):=FnOk.envOf (by
 intro x hx
 simp only [List.mem_cons,List.not_mem_nil,or_false] at hx
 subst hx;exact z1w)
theorem zv5 (sign:Int) (H:zd) (K:KT) (h:zc6 sign H fun (r1:Nat) (H':zd)=>K (.float .f64 r1) H'):zk Try.prog ze8 Try.f186 [.int .i64 sign] H K:=by
 rw [z15s]
 simp only [zz]
 unfold zc6 zd1 at h
 repeat' (first | exact h | (exfalso;simp_all;done) | (refine ⟨by decide,?_⟩) | (refine Br.intro (fun hb=>?_) (fun hb=>?_)<;>(try simp only [hb,cond_true,cond_false,Bool.not_true,Bool.not_false] at h)))
theorem zm2:FnOk Try.prog 186 zb0:=by
 refine FnOk.body mix_ok zhw Try.func186 rfl ω5 ω5 ?_ ?_ ?_ ?_ ?_
 ·intro args H K K' h hk
  simp only [zb0] at *
  unfold zii at *
  split at hk
  ·have k:=hk
   exact h _ _ k
  ·exact hk.elim
 ·intro _ args H K hk
  simp only [zb0] at *
  unfold zii at *
  split at hk
  ·have k:=hk
   exact ⟨_,k,fun K' k'=>k'⟩
  ·exact hk.elim
 ·intro args H K hk
  simp only [zb0] at *
  unfold zii at *
  split at hk
  ·have k:=hk
   exact ⟨_,_,k⟩
  ·exact hk.elim
 ·intro hq;cases hq
 ·have mm:=@zv5
  have ml:=fun (args:List Value) (H:zd) (K:KT)=>zf (P:=Try.prog) (env:=ze8) (fn:=Try.f186) (args:=args) (H:=H) (K:=K) zhw 
  revert mm ml
  generalize z1a Try.prog ze8 Try.f186=Q
  generalize zk Try.prog ze8 Try.f186=QL
  intro mm ml args H K hk
  simp only [zb0] at *
  unfold zii at *
  split at hk
  ·exact ml _ H K (mm _ H K hk)
  ·exact hk.elim

def z8c (x p k:Nat) (k2_3:Nat→Int→Nat):Nat→Nat→Int→Nat
 | 0,_,_=>0
 | μ2+1,p_4,t25=>(bif decide ((t25:Int)<8) then (z8c x p k k2_3 μ2 (fmul .f64 p_4 p_4) (t25+1)) else (k2_3 p_4 t25))
def zfg:=fun x p k k2_3 μ2 p_4 t25=>@z8c.eq_2 x p k k2_3 p_4 t25 μ2
def za7 (x:Nat):Nat→Nat→Nat→Nat
 | 0,_,_=>0
 | μ+1,p,k=>(bif fle .f64 4607182418800017408 k then (za7 x μ (fadd .f64 4607182418800017408 (fdiv .f64 (fmul .f64 (fdiv .f64 x 4643211215818981376) p) k)) (fsub .f64 k 4607182418800017408)) else (z8c x p k (fun (p_4:Nat) (t25:Int)=>p_4) (Int.toNat (8-(0:Int))+1) p (0:Int)))
def zff:=fun x μ p k=>@za7.eq_2 x p k μ
def zks (x:Nat):Nat:=(bif flt .f64 4641240890982006784 x then (zd1 (1:Int)) else (bif flt .f64 x 13864612927836782592 then 0 else (za7 x (Int.toNat (cnt 4622945017495814144)+1) 4607182418800017408 4622945017495814144)))
def zpf:=@zks.eq_1
def zu6 (x:Nat) (H:zd) (K:Nat→zd→Prop):Prop:=K (zks x) H
theorem z14c {x:Nat} {H:zd} {K:Nat→zd→Prop} (h:K (zks x) H):zu6 x H K:=h
theorem z1cd {y P K:Nat} {k:Int}:∀(μ p:Nat) (i:Int),Bd .f64 1074 p→(FloatKind.f64.format.read p).neg=false→Bd .f64 1074 (z8c y P K (fun (p:Nat) (t:Int)=>p) μ p i)∧(FloatKind.f64.format.read (z8c y P K (fun (p:Nat) (t:Int)=>p) μ p i)).neg=false:=by
 intro μ
 induction μ with
 | zero=>intro p i _ _;exact ⟨⟨zx _,by show (sv .f64 0).natAbs≤_;rw [z1m];exact Nat.zero_le _⟩,by show (FloatKind.f64.format.read 0).neg=false;rw [zaa];rfl⟩
 | succ μ ih=>
  intro p i hp hs
  rw [zfg]
  cases decide (i<(8:Int))
  ·exact ⟨hp,hs⟩
  ·have:=Bd.mul (T:=1022) hp hp (z2i ω11) (by rw [fb64,lp64];decide)
   rw [fb64,hs] at this
   exact ih _ _ this.1 this.2
theorem ω39 {P:Prop} (h:P:=by decide+kernel):P:=h
theorem z16j {y:Nat} (hy:Bd .f64 (8+1074) y) (hn:(FloatKind.f64.format.read y).neg=true):∀(μ p:Nat) (n:Int),n≤12→-1≤n→Bd .f64 1074 p→(FloatKind.f64.format.read p).neg=false→Bd .f64 1074 (za7 y μ p (FloatKind.nearest .f64 n)):=by
 intro μ
 induction μ with
 | zero=>intro p n _ _ _ _;exact ⟨zx _,by show (sv .f64 0).natAbs≤_;rw [z1m];exact Nat.zero_le _⟩
 | succ μ ih=>
  intro p n h1 h0 hp hs
  rw [zff]
  rw [(z8q (n:=n) ω2 ω2).2.1]
  by_cases hc:(1:Int)≤n
  ·rw [dct hc,cond_true]
   have t1:=Bd.div (T:=1022) (B:=1082) hy (y:=4643211215818981376) ω39 ω39 (z2i ω11) (by rw [fb64,lp64];decide)
   rw [fb64,hn,show (FloatKind.f64.format.read 4643211215818981376).neg=false from by decide+kernel] at t1
   have t2:=Bd.mul (T:=1022) t1.1 hp (z2i ω11) (by rw [fb64,lp64];decide)
   rw [fb64,t1.2,hs] at t2
   have c:=z12r hc ω2
   have t3:=Bd.div (T:=1022) (B:=1074) t2.1 c.1 c.2.1 (z2i ω11) (by rw [fb64,lp64];decide)
   rw [fb64,t2.2,c.2.2,show 52+1022=1074 from rfl] at t3
   have hz:=zfp t3.2
   have hone:sv .f64 4607182418800017408=2 ^ 1074:=by decide+kernel
   have habs:=t3.1.2
   generalize hq:fdiv .f64 (fmul .f64 (fdiv .f64 y 4643211215818981376) p) (FloatKind.nearest .f64 n)=q at *
   have hpow:=zpj 1074
   have hsum:(sv .f64 4607182418800017408+sv .f64 q).natAbs≤2 ^ (FloatKind.f64.format.fractionBits+1022):=by
    rw [hone,fb64,←hpow,show 52+1022=1074 from rfl]
    obtain ⟨W,hW⟩:∃W:Nat,W=2 ^ 1074:=⟨_,rfl⟩
    rw [←hW] at habs ⊢
    clear hpow hW
    omega
   have t4:=Bd.add (T:=1022) (x:=4607182418800017408) (y:=q) ω39 t3.1.1 (z2i ω11) hsum
   rw [fb64] at t4
   have hneg:(FloatKind.f64.format.read (fadd .f64 4607182418800017408 q)).neg=false:=by
    rw [t4.2]
    split
    ·rw [show (FloatKind.f64.format.read 4607182418800017408).neg=false from by decide+kernel];rfl
    ·refine dcf ?_
     rw [hone,←hpow]
     generalize (2 ^ 1074:Nat)=W at *
     omega
   rw [(z8q (n:=n) ω2 ω2).2.2.1];exact ih _ (n-1) ω2 ω2 t4.1 hneg
  ·rw [dcf hc,cond_false]
   exact (z1cd (k:=0) _ _ _ hp hs).1
theorem z16i {x:Nat} (hx:(FloatKind.f32.format.read x).isNaN=true∨(FloatKind.f32.format.read x).neg=true):zl (zks (zh x))≠none:=by
 cases hr:FloatKind.f32.format.read x with
 | nan s t=>
  have e:zh x=qnan .f64:=by
   unfold zh
   rw [show FloatKind.f32.decode x=FloatKind.f32.format.read x from rfl,hr]
  rw [e];decide+kernel
 | infinity s=>
  have hs:s=true:=by
   rw [hr] at hx
   rcases hx with h | h
   ·cases h
   ·exact h
  have e:zh x=FloatKind.f64.encode (.infinity true):=by
   unfold zh
   rw [show FloatKind.f32.decode x=FloatKind.f32.format.read x from rfl,hr,hs]
  rw [e];decide+kernel
 | number s m i=>
  have hf:fin .f32 x=true:=by unfold fin;rw [hr]
  have hs:(FloatKind.f32.format.read x).neg=true:=by
   rcases hx with h | h
   ·rw [hr] at h;cases h
   ·exact h
  have wf:=z8k hf
  have wn:=z12k (x:=x) (z4z hf)
  rw [hs] at wn
  have z:=zfp wn
  rw [zpf]
  
  rw [z2g ω39 wf,z2g wf ω39]
  have e1:sv .f64 4641240890982006784=200*2 ^ 1074:=by decide+kernel
  have e2:sv .f64 13864612927836782592=-200*2 ^ 1074:=by decide+kernel
  have hpow:=zpj 1074
  rw [e1,e2,←hpow]
  have hp:=Nat.two_pow_pos 1074
  rw [dcf (by generalize (2 ^ 1074:Nat)=W at *;omega),cond_false]
  by_cases hc:sv .f64 (zh x)< -200*((2 ^ 1074:Nat):Int)
  ·rw [dct hc,cond_true];decide+kernel
  ·rw [dcf hc,cond_false]
   have hy:Bd .f64 (8+1074) (zh x):=by
    refine ⟨wf,?_⟩
    have e3:(2:Nat) ^ (8+1074)=2 ^ 8*2 ^ 1074:=Nat.pow_add 2 8 1074
    rw [e3]
    generalize (2 ^ 1074:Nat)=W at *
    omega
   have one:Bd .f64 1074 4607182418800017408:=⟨by decide+kernel,by decide+kernel⟩
   have e5:(4622945017495814144:Nat)=FloatKind.nearest .f64 12:=by decide+kernel
   have b:=z16j hy wn (Int.toNat (cnt 4622945017495814144)+1) 4607182418800017408 12 ω11 ω11 one ω39
   rw [←e5] at b
   exact z4k (b.mono ω11)
def z6y:Env:=envOf [(186,zb0)]
def ztd:List Value→zd→(Value→zd→Prop)→Prop
 | [.float .f64 x],H,K=>zu6 x H fun (r1:Nat) (H':zd)=>K (.float .f64 r1) H'
 | _,_,_=>False
def zr2:FSpec:={F:=ztd,quiet:=true,tame:=false}
theorem z1ce (x:Nat) (H:zd) (K:KT):zk Try.prog z6y Try.f206 [.float .f64 x] H K=
 (Br (flt .f64 4641240890982006784 x) (zc6 1 H fun (r1:Nat) (H1:zd)=>K (.float .f64 r1) H1) (Br (flt .f64 x 13864612927836782592) (K (.float .f64 0) H) (z1b (exL Try.prog z6y (cl (cl (cr (cl (cr (cr (cr (cr (zg Try.f206))))))))) 56 4 [(1,16)]) (ud3 (.float .f64 (fdiv .f64 x 4643211215818981376)::.float .f64 4607182418800017408::.float .f64 4622945017495814144::ud26 [])) H (zn 1 (seqQ (exL Try.prog z6y (cr (cr (cr (cr (cr (zg Try.f206)))))) 4 4 []) (retK Try.prog Try.f206 K)))))):=by kernel_rfl
abbrev zjw (x p k:Nat)  :List Value:=(ud3 (.float .f64 (fdiv .f64 x 4643211215818981376)::.float .f64 p::.float .f64 k::ud26 []))
theorem z1cb (x p k:Nat)  (H:zd) (R:Post):exL Try.prog z6y (cl (cl (cr (cl (cr (cr (cr (cr (zg Try.f206))))))))) 56 4 [(1,16)] (zjw x p k) H R=
 (Br (fle .f64 4607182418800017408 k) (R .normal (ud3 (.float .f64 (fdiv .f64 x 4643211215818981376)::.float .f64 (fadd .f64 4607182418800017408 (fdiv .f64 (fmul .f64 (fdiv .f64 x 4643211215818981376) p) k))::.float .f64 (fsub .f64 k 4607182418800017408)::ud26 [])) H) (R (.exit 1) (ud4 (.float .f64 p::ud27 [])) H)):=by kernel_rfl
def zw3 (x:Nat) (Inv:Nat→Nat→Nat→zd→Prop):Nat→List Value→zd→Prop:=fun μ tm H=>∃(p k:Nat),tm=(zjw x p k)∧Inv μ p k H
theorem z1c6 (x:Nat) {Q:Post} (Inv:Nat→Nat→Nat→zd→Prop) (ν p k:Nat)  (H:zd) (h0:Inv ν p k H)
  (hs:∀(μ:Nat) (p:Nat) (k:Nat)  (H:zd),Inv μ p k H→exL Try.prog z6y (cl (cl (cr (cl (cr (cr (cr (cr (zg Try.f206))))))))) 56 4 [(1,16)] (zjw x p k) H (zp (zw3 x Inv) μ Q)):z1b (exL Try.prog z6y (cl (cl (cr (cl (cr (cr (cr (cr (zg Try.f206))))))))) 56 4 [(1,16)]) (zjw x p k) H Q:=
 ⟨zw3 x Inv,ν,⟨p,k,rfl,h0⟩,fun μ tm H h=>by obtain ⟨p,k,rfl,hI⟩:=h;exact hs μ p k  H hI⟩
theorem z1c8 {x:Nat} {Q:Post} {Inv:Nat→Nat→Nat→zd→Prop} {μ:Nat} (μ':Nat) {p k:Nat}  {H:zd} (hm:μ'<μ) (hI:Inv μ' p k H):zp (zw3 x Inv) μ Q .normal (zjw x p k) H:=⟨μ',hm,p,k,rfl,hI⟩
theorem z10o (p:Nat) (H:zd) (K:KT)  {I:Nat→List Value→zd→Prop} {μ:Nat}:zp I μ (zn 1 (seqQ (exL Try.prog z6y (cr (cr (cr (cr (cr (zg Try.f206)))))) 4 4 []) (retK Try.prog Try.f206 K))) (.exit 1) (ud4 (.float .f64 p::ud27 [])) H=
 (z1b (exL Try.prog z6y (cl (cl (cr (cl (cr (cr (cr (cr (cr (zg Try.f206)))))))))) 33554448 4 [(3,16)]) (ud4 (.float .f64 p::ud20 (.int .i64 0::ud6 []))) H (zn 3 (seqQ (exL Try.prog z6y (cr (cr (cr (cr (cr (cr (zg Try.f206))))))) 4 4 []) (retK Try.prog Try.f206 K)))):=by kernel_rfl
abbrev zjx  (p_4:Nat) (t25:Int)  :List Value:=(ud4 (.float .f64 p_4::ud20 (.int .i64 t25::ud6 [])))
theorem z1cc  (p_4:Nat) (t25:Int)  (H:zd) (R:Post):exL Try.prog z6y (cl (cl (cr (cl (cr (cr (cr (cr (cr (zg Try.f206)))))))))) 33554448 4 [(3,16)] (zjx p_4 t25) H R=
 (Br (decide ((t25:Int)<8)) (R .normal (ud4 (.float .f64 (fmul .f64 p_4 p_4)::ud20 (.int .i64 (IntKind.wrap .i64 (t25+1))::ud6 []))) H) (R (.exit 3) (ud4 (.float .f64 p_4::ud27 [])) H)):=by kernel_rfl
def zw4  (Inv:Nat→Nat→Int→zd→Prop):Nat→List Value→zd→Prop:=fun μ tm H=>∃p_4:Nat,∃t25:Int,tm=(zjx p_4 t25)∧Inv μ p_4 t25 H
theorem z1c7  {Q:Post} (Inv:Nat→Nat→Int→zd→Prop) (ν:Nat) (p_4:Nat) (t25:Int)  (H:zd) (h0:Inv ν p_4 t25 H)
  (hs:∀(μ:Nat) (p_4:Nat) (t25:Int)  (H:zd),Inv μ p_4 t25 H→exL Try.prog z6y (cl (cl (cr (cl (cr (cr (cr (cr (cr (zg Try.f206)))))))))) 33554448 4 [(3,16)] (zjx p_4 t25) H (zp (zw4  Inv) μ Q)):z1b (exL Try.prog z6y (cl (cl (cr (cl (cr (cr (cr (cr (cr (zg Try.f206)))))))))) 33554448 4 [(3,16)]) (zjx p_4 t25) H Q:=
 ⟨zw4  Inv,ν,⟨p_4,t25,rfl,h0⟩,fun μ tm H h=>by obtain ⟨p_4,t25,rfl,hI⟩:=h;exact hs μ p_4 t25  H hI⟩
theorem z1c9  {Q:Post} {Inv:Nat→Nat→Int→zd→Prop} {μ:Nat} (μ':Nat) {p_4:Nat} {t25:Int}  {H:zd} (hm:μ'<μ) (hI:Inv μ' p_4 t25 H):zp (zw4  Inv) μ Q .normal (zjx p_4 t25) H:=⟨μ',hm,p_4,t25,rfl,hI⟩
theorem z10p (p_4:Nat) (H:zd) (K:KT)  {I:Nat→List Value→zd→Prop} {μ:Nat}:zp I μ (zn 3 (seqQ (exL Try.prog z6y (cr (cr (cr (cr (cr (cr (zg Try.f206))))))) 4 4 []) (retK Try.prog Try.f206 K))) (.exit 3) (ud4 (.float .f64 p_4::ud27 [])) H=
 (K (.float .f64 p_4) H):=by kernel_rfl
theorem znx:∀g,FnOk Try.prog g (z6y g):=FnOk.envOf (by
 intro x hx
 simp only [List.mem_cons,List.not_mem_nil,or_false] at hx
 subst hx;exact zm2)
theorem ω23 {P:Prop} (h:P:=by first | omega | (have:=zrc (by assumption) (by assumption);omega)):P:=h
theorem ω26 {P:Prop} (h:P:=by rw [show μ-1+1=μ from by first | omega | (have:=zrc (by assumption) (by assumption);omega)];exact e):P:=h
theorem z10n (x:Nat) (H:zd) (K:KT) (h:zu6 x H fun (r1:Nat) (H':zd)=>K (.float .f64 r1) H'):zk Try.prog z6y Try.f206 [.float .f64 x] H K:=by
 rw [z1ce]
 have hk:=h
 unfold zu6 at hk
 have e:(zks x)=_:=rfl
 have e:=e.trans (zpf x)
 have g0:=Grow.refl H
 refine Br.intro (fun c_1=>?_) (fun c_1=>?_)
 ·have e:=e.trans (zj c_1)
  refine zfv ?_
  rw [e] at hk
  exact hk
 ·have e:=e.trans (zi c_1)
  refine Br.intro (fun c_2=>?_) (fun c_2=>?_)
  ·have e:=e.trans (zj c_2)
   rw [e] at hk
   exact hk
  ·have e:=e.trans (zi c_2)
   refine z1c6 _ (fun (μ:Nat) (p:Nat) (k:Nat) (H_1:zd)=>H=H_1∧z5t k∧cnt k≤(μ:Int)∧zks x=za7 x (μ+1) p k) (Int.toNat (cnt 4622945017495814144)) _ _ H ?_ ?_
   ·exact ⟨rfl,(by first | omega | (simp;done) | (simp;omega) | (first | exact z5t.of (n:=12) (by decide) (by decide) | exact (zrc (by assumption) (by assumption)).1)),ω2,e⟩
   ·intro μ p k  H_1 hI
    obtain ⟨rfl,v_3,hμ,e⟩:=hI
    rw [z1cb]
    have e:=e.trans (zff x μ p k)
    have l_4:=g0.1
    refine Br.intro (fun c_5=>?_) (fun c_5=>?_)
    ·have e:=e.trans (zj c_5)
     refine z1c8 (μ-1) ω23 ⟨rfl,(by first | omega | (first | exact z5t.of (n:=12) (by decide) (by decide) | exact (zrc (by assumption) (by assumption)).1) | (simp only [List.length_append,List.length_cons,List.length_nil,List.length_set];done) | (simp only [List.length_append,List.length_cons,List.length_nil,List.length_set];omega)),ω23,ω26⟩
    ·have e:=e.trans (zi c_5)
     rw [z10o]
     refine z1c7  (fun (μ2:Nat) (p_4:Nat) (t25:Int) (H_2:zd)=>H=H_2∧(0:Int)≤t25∧((t25≤8∨t25≤(0:Int)))∧8-t25≤(μ2:Int)∧zks x=z8c x p k (fun (p_4:Nat) (t25:Int)=>p_4) (μ2+1) p_4 t25) (Int.toNat (8-(0:Int))) _ _ H ?_ ?_
     ·exact ⟨rfl,ω3,ω3,ω2,e⟩
     ·intro μ2 p_4 t25  H_2 hI
      obtain ⟨rfl,v6,v7,hμ,e⟩:=hI
      rw [z1cc]
      have e:=e.trans (zfg x p k (fun (p_4:Nat) (t25:Int)=>p_4) μ2 p_4 t25)
      have l8:=g0.1
      refine Br.intro (fun c_9=>?_) (fun c_9=>?_)
      ·have e:=e.trans (zj c_9)
       have c_9':=odt c_9
       rw [show IntKind.wrap .i64 (t25+1)=(t25+1) from zy ω2 ω2]
       refine z1c9 (μ2-1) ω18 ⟨rfl,ω1,ω1,ω18,ω30⟩
      ·have e:=e.trans (zi c_9)
       have c_9':=odf c_9
       rw [z10p]
       rw [e] at hk
       exact hk
theorem z1ca:FnOk Try.prog 206 zr2:=by
 refine FnOk.body mix_ok znx Try.func206 rfl ω5 ω5 ?_ ?_ ?_ ?_ ?_
 ·intro args H K K' h hk
  simp only [zr2] at *
  unfold ztd at *
  split at hk
  ·have k:=hk
   exact h _ _ k
  ·exact hk.elim
 ·intro _ args H K hk
  simp only [zr2] at *
  unfold ztd at *
  split at hk
  ·have k:=hk
   exact ⟨_,k,fun K' k'=>k'⟩
  ·exact hk.elim
 ·intro args H K hk
  simp only [zr2] at *
  unfold ztd at *
  split at hk
  ·have k:=hk
   exact ⟨_,_,k⟩
  ·exact hk.elim
 ·intro hq;cases hq
 ·have mm:=@z10n
  have ml:=fun (args:List Value) (H:zd) (K:KT)=>zf (P:=Try.prog) (env:=z6y) (fn:=Try.f206) (args:=args) (H:=H) (K:=K) znx 
  revert mm ml
  generalize z1a Try.prog z6y Try.f206=Q
  generalize zk Try.prog z6y Try.f206=QL
  intro mm ml args H K hk
  simp only [zr2] at *
  unfold ztd at *
  split at hk
  ·exact ml _ H K (mm _ H K hk)
  ·exact hk.elim

def zcz (x:Nat):Nat:=(zks (zh x))
def zwv:=@zcz.eq_1
def ziv (x:Nat) (H:zd) (K:Nat→zd→Prop):Prop:=K (zcz x) H
theorem zy7 {x:Nat} {H:zd} {K:Nat→zd→Prop} (h:K (zcz x) H):ziv x H K:=h

def ze1:Env:=envOf [(206,zr2)]
def zia:List Value→zd→(Value→zd→Prop)→Prop
 | [.float .f32 x],H,K=>ziv x H fun (r1:Nat) (H':zd)=>K (.float .f64 r1) H'
 | _,_,_=>False
def zei:FSpec:={F:=zia,quiet:=true,tame:=false}
theorem z15e (x:Nat) (H:zd) (K:KT):zk Try.prog ze1 Try.f183 [.float .f32 x] H K=
 (zu6 (zh x) H fun (r1:Nat) (H1:zd)=>K (.float .f64 r1) H1):=by kernel_rfl
theorem zho:∀g,FnOk Try.prog g (ze1 g):=FnOk.envOf (by
 intro x hx
 simp only [List.mem_cons,List.not_mem_nil,or_false] at hx
 subst hx;exact z1ca)
theorem zuv (x:Nat) (H:zd) (K:KT) (h:ziv x H fun (r1:Nat) (H':zd)=>K (.float .f64 r1) H'):zk Try.prog ze1 Try.f183 [.float .f32 x] H K:=by
 rw [z15e]
 have hk:=h
 unfold ziv at hk
 have e:(zcz x)=_:=rfl
 have e:=e.trans (zwv x)
 have g0:=Grow.refl H
 refine z14c ?_
 rw [e] at hk
 exact hk
theorem z15d:FnOk Try.prog 183 zei:=by
 refine FnOk.body mix_ok zho Try.func183 rfl ω5 ω5 ?_ ?_ ?_ ?_ ?_
 ·intro args H K K' h hk
  simp only [zei] at *
  unfold zia at *
  split at hk
  ·have k:=hk
   exact h _ _ k
  ·exact hk.elim
 ·intro _ args H K hk
  simp only [zei] at *
  unfold zia at *
  split at hk
  ·have k:=hk
   exact ⟨_,k,fun K' k'=>k'⟩
  ·exact hk.elim
 ·intro args H K hk
  simp only [zei] at *
  unfold zia at *
  split at hk
  ·have k:=hk
   exact ⟨_,_,k⟩
  ·exact hk.elim
 ·intro hq;cases hq
 ·have mm:=@zuv
  have ml:=fun (args:List Value) (H:zd) (K:KT)=>zf (P:=Try.prog) (env:=ze1) (fn:=Try.f183) (args:=args) (H:=H) (K:=K) zho 
  revert mm ml
  generalize z1a Try.prog ze1 Try.f183=Q
  generalize zk Try.prog ze1 Try.f183=QL
  intro mm ml args H K hk
  simp only [zei] at *
  unfold zia at *
  split at hk
  ·exact ml _ H K (mm _ H K hk)
  ·exact hk.elim

def zkq (x:Nat):Nat:=((zl (zcz x)).getD 0)
def z11n:=@zkq.eq_1
def zyg (x:Nat) (H:zd) (K:Nat→zd→Prop):Prop:=zl (zcz x)≠none∧K (zkq x) H
theorem z13s {x:Nat} {H:zd} {K:Nat→zd→Prop} (h:zl (zcz x)≠none∧K (zkq x) H):zyg x H K:=h

def zq8:Env:=envOf [(183,zei)]
def zsy:List Value→zd→(Value→zd→Prop)→Prop
 | [.float .f32 x],H,K=>zyg x H fun (r1:Nat) (H':zd)=>K (.float .f32 r1) H'
 | _,_,_=>False
def zqt:FSpec:={F:=zsy,quiet:=true,tame:=false}
theorem z1aq (x:Nat) (H:zd) (K:KT):zk Try.prog zq8 Try.f135 [.float .f32 x] H K=
 (ziv x H fun (r1:Nat) (H1:zd)=>∃x1:Nat,zl r1=some x1∧K (.float .f32 x1) H1):=by kernel_rfl
theorem zni:∀g,FnOk Try.prog g (zq8 g):=FnOk.envOf (by
 intro x hx
 simp only [List.mem_cons,List.not_mem_nil,or_false] at hx
 subst hx;exact z15d)
theorem zzk (x:Nat) (H:zd) (K:KT) (h:zyg x H fun (r1:Nat) (H':zd)=>K (.float .f32 r1) H'):zk Try.prog zq8 Try.f135 [.float .f32 x] H K:=by
 rw [z1aq]
 obtain ⟨pr0,hk⟩:=h
 have e:(zkq x)=_:=rfl
 have e:=e.trans (z11n x)
 have g0:=Grow.refl H
 refine zy7 ?_
 refine ⟨_,z2c (d:=0) (by assumption),?_⟩
 rw [e] at hk
 exact hk
theorem z1ap:FnOk Try.prog 135 zqt:=by
 refine FnOk.body mix_ok zni Try.func135 rfl ω5 ω5 ?_ ?_ ?_ ?_ ?_
 ·intro args H K K' h hk
  simp only [zqt] at *
  unfold zsy at *
  split at hk
  ·obtain ⟨pr0,k⟩:=hk
   exact ⟨pr0,h _ _ k⟩
  ·exact hk.elim
 ·intro _ args H K hk
  simp only [zqt] at *
  unfold zsy at *
  split at hk
  ·obtain ⟨pr0,k⟩:=hk
   exact ⟨_,k,fun K' k'=>⟨pr0,k'⟩⟩
  ·exact hk.elim
 ·intro args H K hk
  simp only [zqt] at *
  unfold zsy at *
  split at hk
  ·obtain ⟨pr0,k⟩:=hk
   exact ⟨_,_,k⟩
  ·exact hk.elim
 ·intro hq;cases hq
 ·have mm:=@zzk
  have ml:=fun (args:List Value) (H:zd) (K:KT)=>zf (P:=Try.prog) (env:=zq8) (fn:=Try.f135) (args:=args) (H:=H) (K:=K) zni 
  revert mm ml
  generalize z1a Try.prog zq8 Try.f135=Q
  generalize zk Try.prog zq8 Try.f135=QL
  intro mm ml args H K hk
  simp only [zqt] at *
  unfold zsy at *
  split at hk
  ·exact ml _ H K (mm _ H K hk)
  ·exact hk.elim
def zww (x:Nat):Bool:=feq .f64 (fsub .f64 x x) 0
def ztw (x:Nat) (H:zd) (K:Bool→zd→Prop):Prop:=K (zww x) H

theorem z13p {x:Nat} {H:zd} {K:Bool→zd→Prop} (h:K (zww x) H):ztw x H K:=h
def zq6:Env:=envOf []
def zss:List Value→zd→(Value→zd→Prop)→Prop
 | [.float .f64 x],H,K=>ztw x H fun (r1:Bool) (H':zd)=>K (.bool r1) H'
 | _,_,_=>False
def zqo:FSpec:={F:=zss,quiet:=true,tame:=false}
theorem z19r (x:Nat) (H:zd) (K:KT):zk Try.prog zq6 Try.f237 [.float .f64 x] H K=
 (K (.bool (feq .f64 (fsub .f64 x x) 0)) H):=by kernel_rfl
theorem znc:∀g,FnOk Try.prog g (zq6 g):=FnOk.envOf (by
 intro x hx;cases hx)
theorem zz6 (x:Nat) (H:zd) (K:KT) (h:ztw x H fun (r1:Bool) (H':zd)=>K (.bool r1) H'):zk Try.prog zq6 Try.f237 [.float .f64 x] H K:=by
 rw [z19r]
 unfold ztw zww at h
 repeat' (first | exact h | (exfalso;simp_all;done) | (refine ⟨by decide,?_⟩) | (refine Br.intro (fun hb=>?_) (fun hb=>?_)<;>(try simp only [hb,cond_true,cond_false,Bool.not_true,Bool.not_false] at h)))
theorem z19q:FnOk Try.prog 237 zqo:=by
 refine FnOk.body mix_ok znc Try.func237 rfl ω5 ω5 ?_ ?_ ?_ ?_ ?_
 ·intro args H K K' h hk
  simp only [zqo] at *
  unfold zss at *
  split at hk
  ·have k:=hk
   exact h _ _ k
  ·exact hk.elim
 ·intro _ args H K hk
  simp only [zqo] at *
  unfold zss at *
  split at hk
  ·have k:=hk
   exact ⟨_,k,fun K' k'=>k'⟩
  ·exact hk.elim
 ·intro args H K hk
  simp only [zqo] at *
  unfold zss at *
  split at hk
  ·have k:=hk
   exact ⟨_,_,k⟩
  ·exact hk.elim
 ·intro hq;cases hq
 ·have mm:=@zz6
  have ml:=fun (args:List Value) (H:zd) (K:KT)=>zf (P:=Try.prog) (env:=zq6) (fn:=Try.f237) (args:=args) (H:=H) (K:=K) znc 
  revert mm ml
  generalize z1a Try.prog zq6 Try.f237=Q
  generalize zk Try.prog zq6 Try.f237=QL
  intro mm ml args H K hk
  simp only [zqo] at *
  unfold zss at *
  split at hk
  ·exact ml _ H K (mm _ H K hk)
  ·exact hk.elim
def z5d  :Nat:=(z1h 9221120237041090561)
def z9j  (H:zd) (K:Nat→zd→Prop):Prop:=K (z5d) H

theorem z9k  {H:zd} {K:Nat→zd→Prop} (h:K (z5d) H):z9j  H K:=h
def ze9:Env:=envOf [(209,z1c)]
def zij:List Value→zd→(Value→zd→Prop)→Prop
 | [],H,K=>z9j  H fun (r1:Nat) (H':zd)=>K (.float .f64 r1) H'
 | _,_,_=>False
def zb1:FSpec:={F:=zij,quiet:=true,tame:=false}
theorem z15t  (H:zd) (K:KT):zk Try.prog ze9 Try.f187 [] H K=
 (zz 9221120237041090561 H fun (r1:Nat) (H1:zd)=>K (.float .f64 r1) H1):=by kernel_rfl
theorem zhx:∀g,FnOk Try.prog g (ze9 g):=FnOk.envOf (by
 intro x hx
 simp only [List.mem_cons,List.not_mem_nil,or_false] at hx
 subst hx;exact z1w)
theorem zv6  (H:zd) (K:KT) (h:z9j  H fun (r1:Nat) (H':zd)=>K (.float .f64 r1) H'):zk Try.prog ze9 Try.f187 [] H K:=by
 rw [z15t]
 simp only [zz]
 unfold z9j z5d at h
 repeat' (first | exact h | (exfalso;simp_all;done) | (refine ⟨by decide,?_⟩) | (refine Br.intro (fun hb=>?_) (fun hb=>?_)<;>(try simp only [hb,cond_true,cond_false,Bool.not_true,Bool.not_false] at h)))
theorem zm3:FnOk Try.prog 187 zb1:=by
 refine FnOk.body mix_ok zhx Try.func187 rfl ω5 ω5 ?_ ?_ ?_ ?_ ?_
 ·intro args H K K' h hk
  simp only [zb1] at *
  unfold zij at *
  split at hk
  ·have k:=hk
   exact h _ _ k
  ·exact hk.elim
 ·intro _ args H K hk
  simp only [zb1] at *
  unfold zij at *
  split at hk
  ·have k:=hk
   exact ⟨_,k,fun K' k'=>k'⟩
  ·exact hk.elim
 ·intro args H K hk
  simp only [zb1] at *
  unfold zij at *
  split at hk
  ·have k:=hk
   exact ⟨_,_,k⟩
  ·exact hk.elim
 ·intro hq;cases hq
 ·have mm:=@zv6
  have ml:=fun (args:List Value) (H:zd) (K:KT)=>zf (P:=Try.prog) (env:=ze9) (fn:=Try.f187) (args:=args) (H:=H) (K:=K) zhx 
  revert mm ml
  generalize z1a Try.prog ze9 Try.f187=Q
  generalize zk Try.prog ze9 Try.f187=QL
  intro mm ml args H K hk
  simp only [zb1] at *
  unfold zij at *
  split at hk
  ·exact ml _ H K (mm  H K hk)
  ·exact hk.elim
def z4x (x:Nat) (H:zd) (K:Int→zd→Prop):Prop:=∀b:Nat,cn .f64 b=cn .f64 x→K (b:Int) H
def z4v:List Value→zd→(Value→zd→Prop)→Prop
 | [.float .f64 x],H,K=>z4x x H fun r1 H'=>K (.int .u64 r1) H'
 | _,_,_=>False
def z2e:FSpec:={F:=z4v,quiet:=false}
theorem z2s {args:List Value} {H:zd} {K:KT} (h:z2e.F args H K):∃x,args=[.float .f64 x]∧∀b:Nat,cn .f64 b=cn .f64 x→K (.int .u64 (b:Int)) H:=by
 simp only [z2e] at h
 unfold z4v at h
 split at h
 ·exact ⟨_,rfl,h⟩
 ·exact h.elim
theorem z9d:FnOk Try.prog 228 z2e:=by
 refine FnOk.ext rfl ?_ ?_ ?_ ?_
 ·intro args H K K' h hk
  obtain ⟨x,rfl,k⟩:=z2s hk
  exact fun b hb=>h _ _ (k b hb)
 ·intro h;cases h
 ·intro args H K hk
  obtain ⟨x,rfl,k⟩:=z2s hk
  exact ⟨_,_,k x rfl⟩
 ·intro ρ w args args' H K ha hk
  obtain ⟨x,rfl,k⟩:=z2s hk
  obtain ⟨y,ys,rfl,h3,h4⟩:=ha.uncons
  obtain rfl:=h4.unnil
  cases h3 with
  | float k0 a b hab=>
   refine ⟨_,.int .u64 b,w,?_,.refl w,.int .u64 _,k b (by rw [hab,cn_cn])⟩
   have:=run_callFunc_extern (e:=Extern.MathFloatBits.float64bits) Try.func228 ω5 ω5 ω5 ω5 #[.float .f64 b] w
   rw [this];rfl

def zf6 (x:Nat):Nat:=cn .f64 (cn .f64 x % 9223372036854775808)
def zet (x:Nat) (H:zd) (K:Nat→zd→Prop):Prop:=K (zf6 x) H
theorem zyb {x:Nat} {H:zd} {K:Nat→zd→Prop} (h:K (zf6 x) H):zet x H K:=h
def ze7:Env:=envOf [(228,z2e),(209,z1c)]
def zih:List Value→zd→(Value→zd→Prop)→Prop
 | [.float .f64 x],H,K=>zet x H fun (r1:Nat) (H':zd)=>K (.float .f64 r1) H'
 | _,_,_=>False
def zc4:FSpec:={F:=zih,quiet:=true,tame:=false}
theorem z15r (x:Nat) (H:zd) (K:KT):zk Try.prog ze7 Try.f238 [.float .f64 x] H K=
 (z4x x H fun (r1:Int) (H1:zd)=>zz (IntKind.wrap .u64 (((BitVec.ofInt (IntKind.bits .u64) r1 &&& ~~~(BitVec.ofInt (IntKind.bits .u64) 9223372036854775808)).toNat:Int))) H1 fun (r2:Nat) (H2:zd)=>K (.float .f64 r2) H2):=by kernel_rfl
theorem zhv:∀g,FnOk Try.prog g (ze7 g):=FnOk.envOf (by
 intro x hx
 simp only [List.mem_cons,List.not_mem_nil,or_false] at hx
 rcases hx with rfl | rfl
 ·exact z9d
 ·exact z1w)
theorem zyn (b:Nat):(IntKind.wrap .u64 (((BitVec.ofInt (IntKind.bits .u64) (b:Int) &&& ~~~(BitVec.ofInt (IntKind.bits .u64) 9223372036854775808)).toNat:Int))).toNat=b % 9223372036854775808:=by
 have e:(BitVec.ofInt (IntKind.bits .u64) (b:Int) &&& ~~~(BitVec.ofInt (IntKind.bits .u64) 9223372036854775808)).toNat=b % 9223372036854775808:=by
  show (BitVec.ofInt 64 (b:Int) &&& ~~~(BitVec.ofInt 64 9223372036854775808)).toNat=_
  have h1:(~~~(BitVec.ofInt 64 9223372036854775808)).toNat=2 ^ 63-1:=by decide
  have h2:(BitVec.ofInt 64 (b:Int)).toNat=b % 2 ^ 64:=by simp
  rw [BitVec.toNat_and,h1,h2,Nat.and_two_pow_sub_one_eq_mod]
  omega
 rw [e,zc0 ω2 ω2]
 omega
theorem z18z {b x:Nat} (h:cn .f64 b=cn .f64 x):cn .f64 (b % 9223372036854775808)=cn .f64 (cn .f64 x % 9223372036854775808):=by
 rw [←h]
 cases hn:(FloatKind.f64.decode b).isNaN
 ·rw [zo hn]
 ·rw [z1f hn]
  have:(FloatKind.f64.decode (b % 9223372036854775808)).isNaN=true:=by
   rw [zmo] at hn ⊢
   have e1:FloatKind.f64.format.signWeight=9223372036854775808:=by decide
   rw [e1] at hn ⊢
   rw [Nat.mod_mod];exact hn
  rw [z1f this]
  decide+kernel
theorem zv3 (x:Nat) (H:zd) (K:KT) (h:zet x H fun (r1:Nat) (H':zd)=>K (.float .f64 r1) H'):zk Try.prog ze7 Try.f238 [.float .f64 x] H K:=by
 rw [z15r]
 intro b hb
 show K (.float .f64 (cn .f64 (IntKind.wrap .u64 (((BitVec.ofInt (IntKind.bits .u64) (b:Int) &&& ~~~(BitVec.ofInt (IntKind.bits .u64) 9223372036854775808)).toNat:Int))).toNat)) H
 rw [zyn,z18z hb]
 exact h
theorem zv4:FnOk Try.prog 238 zc4:=by
 refine FnOk.body mix_ok zhv Try.func238 rfl ω5 ω5 ?_ ?_ ?_ ?_ ?_
 ·intro args H K K' h hk
  simp only [zc4] at *
  unfold zih at *
  split at hk
  ·have k:=hk
   exact h _ _ k
  ·exact hk.elim
 ·intro _ args H K hk
  simp only [zc4] at *
  unfold zih at *
  split at hk
  ·have k:=hk
   exact ⟨_,k,fun K' k'=>k'⟩
  ·exact hk.elim
 ·intro args H K hk
  simp only [zc4] at *
  unfold zih at *
  split at hk
  ·have k:=hk
   exact ⟨_,_,k⟩
  ·exact hk.elim
 ·intro hq;cases hq
 ·have mm:=@zv3
  have ml:=fun (args:List Value) (H:zd) (K:KT)=>zf (P:=Try.prog) (env:=ze7) (fn:=Try.f238) (args:=args) (H:=H) (K:=K) zhv 
  revert mm ml
  generalize z1a Try.prog ze7 Try.f238=Q
  generalize zk Try.prog ze7 Try.f238=QL
  intro mm ml args H K hk
  simp only [zc4] at *
  unfold zih at *
  split at hk
  ·exact ml _ H K (mm _ H K hk)
  ·exact hk.elim

def z1t (x:Nat):Nat:=(bif flt .f64 (fsub .f64 x (FloatKind.nearest .f64 (((ftoi .f64 x .i64).getD 0)))) 0 then fadd .f64 (fsub .f64 x (FloatKind.nearest .f64 (((ftoi .f64 x .i64).getD 0)))) 4607182418800017408 else fsub .f64 x (FloatKind.nearest .f64 (((ftoi .f64 x .i64).getD 0))))
def zpe:=@z1t.eq_1
def zu3 (x:Nat) (H:zd) (K:Nat→zd→Prop):Prop:=Bd .f64 (52+lp .f64) x∧K (z1t x) H
theorem zu4 {x:Nat} {H:zd} {K:Nat→zd→Prop} (h:Bd .f64 (52+lp .f64) x∧K (z1t x) H):zu3 x H K:=h
theorem zw2 (x:Nat) (h:Bd .f64 (52+lp .f64) x):Bd .f64 (lp .f64) (z1t x):=by
 rw [zpe]
 obtain ⟨n,hn,h1,h2⟩:=fract h
 rw [hn]
 show Bd .f64 (lp .f64) (bif flt .f64 (fsub .f64 x (FloatKind.nearest .f64 n)) 0 then _ else _)
 cases hc:flt .f64 (fsub .f64 x (FloatKind.nearest .f64 n)) 0
 ·exact h1
 ·exact h2 hc
def zqf:Env:=envOf []
def ztb:List Value→zd→(Value→zd→Prop)→Prop
 | [.float .f64 x],H,K=>zu3 x H fun (r1:Nat) (H':zd)=>K (.float .f64 r1) H'
 | _,_,_=>False
def zlf:FSpec:={F:=ztb,quiet:=true,tame:=false}
theorem z1c3 (x:Nat) (H:zd) (K:KT):zk Try.prog zqf Try.f239 [.float .f64 x] H K=
 (∃n1:Int,ftoi .f64 x .i64=some n1∧Br (flt .f64 (fsub .f64 x (FloatKind.nearest .f64 n1)) 0) (K (.float .f64 (fadd .f64 (fsub .f64 x (FloatKind.nearest .f64 n1)) 4607182418800017408)) H) (K (.float .f64 (fsub .f64 x (FloatKind.nearest .f64 n1))) H)):=by kernel_rfl
theorem znv:∀g,FnOk Try.prog g (zqf g):=FnOk.envOf (by
 intro x hx;cases hx)
theorem z10l (x:Nat) (H:zd) (K:KT) (h:zu3 x H fun (r1:Nat) (H':zd)=>K (.float .f64 r1) H'):zk Try.prog zqf Try.f239 [.float .f64 x] H K:=by
 rw [z1c3]
 obtain ⟨pr0,hk⟩:=h
 have e:(z1t x)=_:=rfl
 have e:=e.trans (zpe x)
 have g0:=Grow.refl H
 refine ⟨_,z2c (d:=0) (by exact z10e (by assumption)),?_⟩
 refine Br.intro (fun c_1=>?_) (fun c_1=>?_)
 ·have e:=e.trans (zj c_1)
  rw [e] at hk
  exact hk
 ·have e:=e.trans (zi c_1)
  rw [e] at hk
  exact hk
theorem z12z:FnOk Try.prog 239 zlf:=by
 refine FnOk.body mix_ok znv Try.func239 rfl ω5 ω5 ?_ ?_ ?_ ?_ ?_
 ·intro args H K K' h hk
  simp only [zlf] at *
  unfold ztb at *
  split at hk
  ·obtain ⟨pr0,k⟩:=hk
   exact ⟨pr0,h _ _ k⟩
  ·exact hk.elim
 ·intro _ args H K hk
  simp only [zlf] at *
  unfold ztb at *
  split at hk
  ·obtain ⟨pr0,k⟩:=hk
   exact ⟨_,k,fun K' k'=>⟨pr0,k'⟩⟩
  ·exact hk.elim
 ·intro args H K hk
  simp only [zlf] at *
  unfold ztb at *
  split at hk
  ·obtain ⟨pr0,k⟩:=hk
   exact ⟨_,_,k⟩
  ·exact hk.elim
 ·intro hq;cases hq
 ·have mm:=@z10l
  have ml:=fun (args:List Value) (H:zd) (K:KT)=>zf (P:=Try.prog) (env:=zqf) (fn:=Try.f239) (args:=args) (H:=H) (K:=K) znv 
  revert mm ml
  generalize z1a Try.prog zqf Try.f239=Q
  generalize zk Try.prog zqf Try.f239=QL
  intro mm ml args H K hk
  simp only [zlf] at *
  unfold ztb at *
  split at hk
  ·exact ml _ H K (mm _ H K hk)
  ·exact hk.elim

def z7j (x:Nat):Nat→Nat→Nat→Nat
 | 0,_,_=>0
 | μ+1,p,k=>(bif fle .f64 4607182418800017408 k then (z7j x μ (fsub .f64 4607182418800017408 (fdiv .f64 (fmul .f64 (fmul .f64 (fmul .f64 (fsub .f64 4602678819172646912 (fsub .f64 (z1t x) 4602678819172646912)) 4618760256179416344) (fmul .f64 (fsub .f64 4602678819172646912 (fsub .f64 (z1t x) 4602678819172646912)) 4618760256179416344)) p) (fmul .f64 (fmul .f64 4611686018427387904 k) (fadd .f64 (fmul .f64 4611686018427387904 k) 4607182418800017408)))) (fsub .f64 k 4607182418800017408)) else (bif fle .f64 4602678819172646912 (z1t x) then fneg .f64 (fmul .f64 (fmul .f64 (fsub .f64 4602678819172646912 (fsub .f64 (z1t x) 4602678819172646912)) 4618760256179416344) p) else fmul .f64 (fmul .f64 (fsub .f64 4602678819172646912 (fsub .f64 (z1t x) 4602678819172646912)) 4618760256179416344) p))
def zd0:=fun x μ p k=>@z7j.eq_2 x p k μ
def z5w (x:Nat):Nat→Nat→Nat→Nat
 | 0,_,_=>0
 | μ+1,p,k=>(bif fle .f64 4607182418800017408 k then (z5w x μ (fsub .f64 4607182418800017408 (fdiv .f64 (fmul .f64 (fmul .f64 (fmul .f64 (fsub .f64 (z1t x) 4602678819172646912) 4618760256179416344) (fmul .f64 (fsub .f64 (z1t x) 4602678819172646912) 4618760256179416344)) p) (fmul .f64 (fmul .f64 4611686018427387904 k) (fadd .f64 (fmul .f64 4611686018427387904 k) 4607182418800017408)))) (fsub .f64 k 4607182418800017408)) else (bif fle .f64 4602678819172646912 (z1t x) then fneg .f64 (fmul .f64 (fmul .f64 (fsub .f64 (z1t x) 4602678819172646912) 4618760256179416344) p) else fmul .f64 (fmul .f64 (fsub .f64 (z1t x) 4602678819172646912) 4618760256179416344) p))
def zb7:=fun x μ p k=>@z5w.eq_2 x p k μ
def z5x (x:Nat):Nat→Nat→Nat→Nat
 | 0,_,_=>0
 | μ+1,p,k=>(bif fle .f64 4607182418800017408 k then (z5x x μ (fsub .f64 4607182418800017408 (fdiv .f64 (fmul .f64 (fmul .f64 (fmul .f64 (fsub .f64 4602678819172646912 (z1t x)) 4618760256179416344) (fmul .f64 (fsub .f64 4602678819172646912 (z1t x)) 4618760256179416344)) p) (fmul .f64 (fmul .f64 4611686018427387904 k) (fadd .f64 (fmul .f64 4611686018427387904 k) 4607182418800017408)))) (fsub .f64 k 4607182418800017408)) else (bif fle .f64 4602678819172646912 (z1t x) then fneg .f64 (fmul .f64 (fmul .f64 (fsub .f64 4602678819172646912 (z1t x)) 4618760256179416344) p) else fmul .f64 (fmul .f64 (fsub .f64 4602678819172646912 (z1t x)) 4618760256179416344) p))
def zb8:=fun x μ p k=>@z5x.eq_2 x p k μ
def z5y (x:Nat):Nat→Nat→Nat→Nat
 | 0,_,_=>0
 | μ+1,p,k=>(bif fle .f64 4607182418800017408 k then (z5y x μ (fsub .f64 4607182418800017408 (fdiv .f64 (fmul .f64 (fmul .f64 (fmul .f64 (z1t x) 4618760256179416344) (fmul .f64 (z1t x) 4618760256179416344)) p) (fmul .f64 (fmul .f64 4611686018427387904 k) (fadd .f64 (fmul .f64 4611686018427387904 k) 4607182418800017408)))) (fsub .f64 k 4607182418800017408)) else (bif fle .f64 4602678819172646912 (z1t x) then fneg .f64 (fmul .f64 (fmul .f64 (z1t x) 4618760256179416344) p) else fmul .f64 (fmul .f64 (z1t x) 4618760256179416344) p))
def zb9:=fun x μ p k=>@z5y.eq_2 x p k μ
def z3i (x:Nat):Nat:=(bif fle .f64 4602678819172646912 (z1t x) then (bif flt .f64 4598175219545276416 (fsub .f64 (z1t x) 4602678819172646912) then (z7j x (Int.toNat (cnt 4620693217682128896)+1) 4607182418800017408 4620693217682128896) else (z5w x (Int.toNat (cnt 4620693217682128896)+1) 4607182418800017408 4620693217682128896)) else (bif flt .f64 4598175219545276416 (z1t x) then (z5x x (Int.toNat (cnt 4620693217682128896)+1) 4607182418800017408 4620693217682128896) else (z5y x (Int.toNat (cnt 4620693217682128896)+1) 4607182418800017408 4620693217682128896)))
def zkn:=@z3i.eq_1
def zix (x:Nat) (H:zd) (K:Nat→zd→Prop):Prop:=Bd .f64 (52+lp .f64) x∧K (z3i x) H
theorem zob {x:Nat} {H:zd} {K:Nat→zd→Prop} (h:Bd .f64 (52+lp .f64) x∧K (z3i x) H):zix x H K:=h
theorem zre (x:Nat):∀μ p k:Nat,z7j x μ p k=sinG (fmul .f64 (fsub .f64 4602678819172646912 (fsub .f64 (z1t x) 4602678819172646912)) 4618760256179416344) (fle .f64 4602678819172646912 (z1t x)) μ p k:=by
 intro μ;induction μ with
 | zero=>intro p k;rfl
 | succ μ ih=>intro p k;rw [zd0,sinG,ih]
theorem zlz (x:Nat):∀μ p k:Nat,z5w x μ p k=sinG (fmul .f64 (fsub .f64 (z1t x) 4602678819172646912) 4618760256179416344) (fle .f64 4602678819172646912 (z1t x)) μ p k:=by
 intro μ;induction μ with
 | zero=>intro p k;rfl
 | succ μ ih=>intro p k;rw [zb7,sinG,ih]
theorem zm0 (x:Nat):∀μ p k:Nat,z5x x μ p k=sinG (fmul .f64 (fsub .f64 4602678819172646912 (z1t x)) 4618760256179416344) (fle .f64 4602678819172646912 (z1t x)) μ p k:=by
 intro μ;induction μ with
 | zero=>intro p k;rfl
 | succ μ ih=>intro p k;rw [zb8,sinG,ih]
theorem zm1 (x:Nat):∀μ p k:Nat,z5y x μ p k=sinG (fmul .f64 (z1t x) 4618760256179416344) (fle .f64 4602678819172646912 (z1t x)) μ p k:=by
 intro μ;induction μ with
 | zero=>intro p k;rfl
 | succ μ ih=>intro p k;rw [zb9,sinG,ih]
theorem cnt8:Int.toNat (cnt 4620693217682128896)+1=9:=by decide+kernel
theorem zz5 (x:Nat):z3i x=zkx (z1t x):=by
 rw [zkn,cnt8,zrd,zre,zlz,zm0,zm1]
 simp only [z18g _ _ _ _ 8 ω11 ω11]
 exact zsd _
theorem zuy (x:Nat) (h:Bd .f64 (52+lp .f64) x):Bd .f64 1140 (z3i x):=by
 rw [zz5];exact zxg (zw2 x h)
def z3g:Env:=envOf [(239,zlf)]
def zid:List Value→zd→(Value→zd→Prop)→Prop
 | [.float .f64 x],H,K=>zix x H fun (r1:Nat) (H':zd)=>K (.float .f64 r1) H'
 | _,_,_=>False
def zel:FSpec:={F:=zid,quiet:=true,tame:=false}
theorem z15k (x:Nat) (H:zd) (K:KT):zk Try.prog z3g Try.f240 [.float .f64 x] H K=
 (zu3 x H fun (r1:Nat) (H1:zd)=>Br (fle .f64 4602678819172646912 r1) (Br (flt .f64 4598175219545276416 (fsub .f64 r1 4602678819172646912)) (z1b (exL Try.prog z3g (cl (cl (cr (cl (cr (cr (cr (cr (cr (cr (cr (cr (zg Try.f240))))))))))))) 496 4 [(0,176)]) (ud4 (.bool (fle .f64 4602678819172646912 r1)::.float .f64 (fmul .f64 (fsub .f64 4602678819172646912 (fsub .f64 r1 4602678819172646912)) 4618760256179416344)::.float .f64 (fmul .f64 (fmul .f64 (fsub .f64 4602678819172646912 (fsub .f64 r1 4602678819172646912)) 4618760256179416344) (fmul .f64 (fsub .f64 4602678819172646912 (fsub .f64 r1 4602678819172646912)) 4618760256179416344))::.float .f64 4607182418800017408::.float .f64 4620693217682128896::ud39 [])) H1 (zn 0 (seqQ (exL Try.prog z3g (cr (cr (cr (cr (cr (cr (cr (cr (cr (zg Try.f240)))))))))) 4 4 []) (retK Try.prog Try.f240 K)))) (z1b (exL Try.prog z3g (cl (cl (cr (cl (cr (cr (cr (cr (cr (cr (cr (cr (zg Try.f240))))))))))))) 496 4 [(0,176)]) (ud4 (.bool (fle .f64 4602678819172646912 r1)::.float .f64 (fmul .f64 (fsub .f64 r1 4602678819172646912) 4618760256179416344)::.float .f64 (fmul .f64 (fmul .f64 (fsub .f64 r1 4602678819172646912) 4618760256179416344) (fmul .f64 (fsub .f64 r1 4602678819172646912) 4618760256179416344))::.float .f64 4607182418800017408::.float .f64 4620693217682128896::ud39 [])) H1 (zn 0 (seqQ (exL Try.prog z3g (cr (cr (cr (cr (cr (cr (cr (cr (cr (zg Try.f240)))))))))) 4 4 []) (retK Try.prog Try.f240 K))))) (Br (flt .f64 4598175219545276416 r1) (z1b (exL Try.prog z3g (cl (cl (cr (cl (cr (cr (cr (cr (cr (cr (cr (cr (zg Try.f240))))))))))))) 496 4 [(0,176)]) (ud4 (.bool (fle .f64 4602678819172646912 r1)::.float .f64 (fmul .f64 (fsub .f64 4602678819172646912 r1) 4618760256179416344)::.float .f64 (fmul .f64 (fmul .f64 (fsub .f64 4602678819172646912 r1) 4618760256179416344) (fmul .f64 (fsub .f64 4602678819172646912 r1) 4618760256179416344))::.float .f64 4607182418800017408::.float .f64 4620693217682128896::ud39 [])) H1 (zn 0 (seqQ (exL Try.prog z3g (cr (cr (cr (cr (cr (cr (cr (cr (cr (zg Try.f240)))))))))) 4 4 []) (retK Try.prog Try.f240 K)))) (z1b (exL Try.prog z3g (cl (cl (cr (cl (cr (cr (cr (cr (cr (cr (cr (cr (zg Try.f240))))))))))))) 496 4 [(0,176)]) (ud4 (.bool (fle .f64 4602678819172646912 r1)::.float .f64 (fmul .f64 r1 4618760256179416344)::.float .f64 (fmul .f64 (fmul .f64 r1 4618760256179416344) (fmul .f64 r1 4618760256179416344))::.float .f64 4607182418800017408::.float .f64 4620693217682128896::ud39 [])) H1 (zn 0 (seqQ (exL Try.prog z3g (cr (cr (cr (cr (cr (cr (cr (cr (cr (zg Try.f240)))))))))) 4 4 []) (retK Try.prog Try.f240 K)))))):=by kernel_rfl
abbrev zcd (r1 z1_5 z1_6 p k:Nat)  :List Value:=(ud4 (.bool (fle .f64 4602678819172646912 r1)::.float .f64 z1_5::.float .f64 z1_6::.float .f64 p::.float .f64 k::ud39 []))
theorem zg5 (r1 z1_5 z1_6 p k:Nat)  (H:zd) (R:Post):exL Try.prog z3g (cl (cl (cr (cl (cr (cr (cr (cr (cr (cr (cr (cr (zg Try.f240))))))))))))) 496 4 [(0,176)] (zcd r1 z1_5 z1_6 p k) H R=
 (Br (fle .f64 4607182418800017408 k) (R .normal (ud4 (.bool (fle .f64 4602678819172646912 r1)::.float .f64 z1_5::.float .f64 z1_6::.float .f64 (fsub .f64 4607182418800017408 (fdiv .f64 (fmul .f64 z1_6 p) (fmul .f64 (fmul .f64 4611686018427387904 k) (fadd .f64 (fmul .f64 4611686018427387904 k) 4607182418800017408))))::.float .f64 (fsub .f64 k 4607182418800017408)::ud39 [])) H) (R (.exit 0) (ud4 (.bool (fle .f64 4602678819172646912 r1)::.float .f64 z1_5::ud::.float .f64 p::ud40 [])) H)):=by kernel_rfl
def zly (r1 z1_5 z1_6:Nat) (Inv:Nat→Nat→Nat→zd→Prop):Nat→List Value→zd→Prop:=fun μ tm H=>∃(p k:Nat),tm=(zcd r1 z1_5 z1_6 p k)∧Inv μ p k H
theorem zg3 (r1 z1_5 z1_6:Nat) {Q:Post} (Inv:Nat→Nat→Nat→zd→Prop) (ν p k:Nat)  (H:zd) (h0:Inv ν p k H)
  (hs:∀(μ:Nat) (p:Nat) (k:Nat)  (H:zd),Inv μ p k H→exL Try.prog z3g (cl (cl (cr (cl (cr (cr (cr (cr (cr (cr (cr (cr (zg Try.f240))))))))))))) 496 4 [(0,176)] (zcd r1 z1_5 z1_6 p k) H (zp (zly r1 z1_5 z1_6 Inv) μ Q)):z1b (exL Try.prog z3g (cl (cl (cr (cl (cr (cr (cr (cr (cr (cr (cr (cr (zg Try.f240))))))))))))) 496 4 [(0,176)]) (zcd r1 z1_5 z1_6 p k) H Q:=
 ⟨zly r1 z1_5 z1_6 Inv,ν,⟨p,k,rfl,h0⟩,fun μ tm H h=>by obtain ⟨p,k,rfl,hI⟩:=h;exact hs μ p k  H hI⟩
theorem zg4 {r1 z1_5 z1_6:Nat} {Q:Post} {Inv:Nat→Nat→Nat→zd→Prop} {μ:Nat} (μ':Nat) {p k:Nat}  {H:zd} (hm:μ'<μ) (hI:Inv μ' p k H):zp (zly r1 z1_5 z1_6 Inv) μ Q .normal (zcd r1 z1_5 z1_6 p k) H:=⟨μ',hm,p,k,rfl,hI⟩
theorem z9n (r1 z1_5 p:Nat) (H:zd) (K:KT)  {I:Nat→List Value→zd→Prop} {μ:Nat}:zp I μ (zn 0 (seqQ (exL Try.prog z3g (cr (cr (cr (cr (cr (cr (cr (cr (cr (zg Try.f240)))))))))) 4 4 []) (retK Try.prog Try.f240 K))) (.exit 0) (ud4 (.bool (fle .f64 4602678819172646912 r1)::.float .f64 z1_5::ud::.float .f64 p::ud40 [])) H=
 (Br (fle .f64 4602678819172646912 r1) (K (.float .f64 (fneg .f64 (fmul .f64 z1_5 p))) H) (K (.float .f64 (fmul .f64 z1_5 p)) H)):=by kernel_rfl
theorem zhr:∀g,FnOk Try.prog g (z3g g):=FnOk.envOf (by
 intro x hx
 simp only [List.mem_cons,List.not_mem_nil,or_false] at hx
 subst hx;exact z12z)
theorem ω16 {P:Prop} (h:P:=by first | assumption | omega | (simp;omega)):P:=h
theorem ω24 {P:Prop} (h:P:=by first | omega | (simp;done) | (simp;omega) | (first | exact z5t.of (n:=8) (by decide) (by decide) | exact (zrc (by assumption) (by assumption)).1)):P:=h
theorem ω12 {P:Prop} (h:P:=by first | omega | (first | exact z5t.of (n:=8) (by decide) (by decide) | exact (zrc (by assumption) (by assumption)).1) | (simp only [List.length_append,List.length_cons,List.length_nil,List.length_set];done) | (simp only [List.length_append,List.length_cons,List.length_nil,List.length_set];omega)):P:=h
theorem zuz (x:Nat) (H:zd) (K:KT) (h:zix x H fun (r1:Nat) (H':zd)=>K (.float .f64 r1) H'):zk Try.prog z3g Try.f240 [.float .f64 x] H K:=by
 rw [z15k]
 obtain ⟨pr0,hk⟩:=h
 have e:(z3i x)=_:=rfl
 have e:=e.trans (zkn x)
 have g0:=Grow.refl H
 refine zu4 ⟨ω16,?_⟩
 have z_1:=zw2 x (by first | assumption | exact zu9 (by assumption) (by assumption))
 refine Br.intro (fun c_2=>?_) (fun c_2=>?_)
 ·have e:=e.trans (zj c_2)
  refine Br.intro (fun c_3=>?_) (fun c_3=>?_)
  ·have e:=e.trans (zj c_3)
   refine zg3 _ _ _ (fun (μ:Nat) (p:Nat) (k:Nat) (H_1:zd)=>H=H_1∧z5t k∧cnt k≤(μ:Int)∧z3i x=z7j x (μ+1) p k) (Int.toNat (cnt 4620693217682128896)) _ _ H ?_ ?_
   ·exact ⟨rfl,ω24,ω2,e⟩
   ·intro μ p k  H_1 hI
    obtain ⟨rfl,v4,hμ,e⟩:=hI
    rw [zg5]
    have e:=e.trans (zd0 x μ p k)
    have l5:=g0.1
    refine Br.intro (fun c_6=>?_) (fun c_6=>?_)
    ·have e:=e.trans (zj c_6)
     refine zg4 (μ-1) ω23 ⟨rfl,ω12,ω23,ω26⟩
    ·have e:=e.trans (zi c_6)
     rw [z9n]
     refine Br.intro (fun c_7=>?_) (fun c_7=>?_)
     ·have e:=e.trans (zj c_7)
      rw [e] at hk
      exact hk
     ·have e:=e.trans (zi c_7)
      rw [e] at hk
      exact hk
  ·have e:=e.trans (zi c_3)
   refine zg3 _ _ _ (fun (μ:Nat) (p:Nat) (k:Nat) (H_2:zd)=>H=H_2∧z5t k∧cnt k≤(μ:Int)∧z3i x=z5w x (μ+1) p k) (Int.toNat (cnt 4620693217682128896)) _ _ H ?_ ?_
   ·exact ⟨rfl,ω24,ω2,e⟩
   ·intro μ p k  H_2 hI
    obtain ⟨rfl,v8,hμ,e⟩:=hI
    rw [zg5]
    have e:=e.trans (zb7 x μ p k)
    have l_9:=g0.1
    refine Br.intro (fun c_10=>?_) (fun c_10=>?_)
    ·have e:=e.trans (zj c_10)
     refine zg4 (μ-1) ω23 ⟨rfl,ω12,ω23,ω26⟩
    ·have e:=e.trans (zi c_10)
     rw [z9n]
     refine Br.intro (fun c_11=>?_) (fun c_11=>?_)
     ·have e:=e.trans (zj c_11)
      rw [e] at hk
      exact hk
     ·have e:=e.trans (zi c_11)
      rw [e] at hk
      exact hk
 ·have e:=e.trans (zi c_2)
  refine Br.intro (fun c_12=>?_) (fun c_12=>?_)
  ·have e:=e.trans (zj c_12)
   refine zg3 _ _ _ (fun (μ:Nat) (p:Nat) (k:Nat) (H_3:zd)=>H=H_3∧z5t k∧cnt k≤(μ:Int)∧z3i x=z5x x (μ+1) p k) (Int.toNat (cnt 4620693217682128896)) _ _ H ?_ ?_
   ·exact ⟨rfl,ω24,ω2,e⟩
   ·intro μ p k  H_3 hI
    obtain ⟨rfl,v13,hμ,e⟩:=hI
    rw [zg5]
    have e:=e.trans (zb8 x μ p k)
    have l14:=g0.1
    refine Br.intro (fun c_15=>?_) (fun c_15=>?_)
    ·have e:=e.trans (zj c_15)
     refine zg4 (μ-1) ω23 ⟨rfl,ω12,ω23,ω26⟩
    ·have e:=e.trans (zi c_15)
     rw [z9n]
     refine Br.intro (fun c_16=>?_) (fun c_16=>?_)
     ·have e:=e.trans (zj c_16)
      rw [e] at hk
      exact hk
     ·have e:=e.trans (zi c_16)
      rw [e] at hk
      exact hk
  ·have e:=e.trans (zi c_12)
   refine zg3 _ _ _ (fun (μ:Nat) (p:Nat) (k:Nat) (H_4:zd)=>H=H_4∧z5t k∧cnt k≤(μ:Int)∧z3i x=z5y x (μ+1) p k) (Int.toNat (cnt 4620693217682128896)) _ _ H ?_ ?_
   ·exact ⟨rfl,ω24,ω2,e⟩
   ·intro μ p k  H_4 hI
    obtain ⟨rfl,v17,hμ,e⟩:=hI
    rw [zg5]
    have e:=e.trans (zb9 x μ p k)
    have l18:=g0.1
    refine Br.intro (fun c_19=>?_) (fun c_19=>?_)
    ·have e:=e.trans (zj c_19)
     refine zg4 (μ-1) ω23 ⟨rfl,ω12,ω23,ω26⟩
    ·have e:=e.trans (zi c_19)
     rw [z9n]
     refine Br.intro (fun c_20=>?_) (fun c_20=>?_)
     ·have e:=e.trans (zj c_20)
      rw [e] at hk
      exact hk
     ·have e:=e.trans (zi c_20)
      rw [e] at hk
      exact hk
theorem z15j:FnOk Try.prog 240 zel:=by
 refine FnOk.body mix_ok zhr Try.func240 rfl ω5 ω5 ?_ ?_ ?_ ?_ ?_
 ·intro args H K K' h hk
  simp only [zel] at *
  unfold zid at *
  split at hk
  ·obtain ⟨pr0,k⟩:=hk
   exact ⟨pr0,h _ _ k⟩
  ·exact hk.elim
 ·intro _ args H K hk
  simp only [zel] at *
  unfold zid at *
  split at hk
  ·obtain ⟨pr0,k⟩:=hk
   exact ⟨_,k,fun K' k'=>⟨pr0,k'⟩⟩
  ·exact hk.elim
 ·intro args H K hk
  simp only [zel] at *
  unfold zid at *
  split at hk
  ·obtain ⟨pr0,k⟩:=hk
   exact ⟨_,_,k⟩
  ·exact hk.elim
 ·intro hq;cases hq
 ·have mm:=@zuz
  have ml:=fun (args:List Value) (H:zd) (K:KT)=>zf (P:=Try.prog) (env:=z3g) (fn:=Try.f240) (args:=args) (H:=H) (K:=K) zhr 
  revert mm ml
  generalize z1a Try.prog z3g Try.f240=Q
  generalize zk Try.prog z3g Try.f240=QL
  intro mm ml args H K hk
  simp only [zel] at *
  unfold zid at *
  split at hk
  ·exact ml _ H K (mm _ H K hk)
  ·exact hk.elim

def zbw (turns:Nat):Nat→Nat→Int→Nat×Nat
 | 0,_,_=>(0,0)
 | μ+1,f,q=>(bif fle .f64 4598175219545276416 f then (zbw turns μ (fsub .f64 f 4598175219545276416) (q+1)) else (bif (q:Int)==1 then (((zl (fsub .f64 0 (z3i f))).getD 0),((zl ((z3i (fsub .f64 4598175219545276416 f)))).getD 0)) else (bif (q:Int)==2 then (((zl (fsub .f64 0 ((z3i (fsub .f64 4598175219545276416 f))))).getD 0),((zl (fsub .f64 0 (z3i f))).getD 0)) else (bif (q:Int)==3 then (((zl (z3i f)).getD 0),((zl (fsub .f64 0 ((z3i (fsub .f64 4598175219545276416 f))))).getD 0)) else (((zl ((z3i (fsub .f64 4598175219545276416 f)))).getD 0),((zl (z3i f)).getD 0))))))
def zs8:=fun turns μ f q=>@zbw.eq_2 turns f q μ
def z9f (turns:Nat):Nat×Nat:=(bif !(zww turns) then (((zl z5d).getD 0),((zl z5d).getD 0)) else (bif fle .f64 4841369599423283200 (zf6 turns) then (1065353216,0) else (zbw turns (Int.toNat (qm (z1t turns))+1) (z1t turns) (0:Int))))
def z11p:=@z9f.eq_1
def zu2 (turns:Nat) (H:zd) (K:Nat→Nat→zd→Prop):Prop:=K ((z9f turns).1) ((z9f turns).2) H
theorem z14a {turns:Nat} {H:zd} {K:Nat→Nat→zd→Prop} (h:K ((z9f turns).1) ((z9f turns).2) H):zu2 turns H K:=h
theorem z17k:zl z5d≠none:=by decide+kernel
theorem zu9 {x:Nat} (h0:zww x=true) (h1:fle .f64 4841369599423283200 (zf6 x)=false):Bd .f64 (52+lp .f64) x:=by
 have h0:feq .f64 (fsub .f64 x x) 0=true:=h0
 rw [z7d] at h0
 refine z14e h0 ?_
 unfold zf6 at h1
 rw [zo (z4z h0)] at h1
 obtain ⟨s,m,e,hr⟩:=zu h0
 have hm:=zpn hr
 rw [show FloatKind.f64.format.signWeight=9223372036854775808 by decide] at hm
 rwa [zo (show (FloatKind.f64.decode _).isNaN=false from by show (FloatKind.f64.format.read _).isNaN=false;rw [hm];rfl)] at h1
def zbj:Env:=envOf [(237,zqo),(187,zb1),(238,zc4),(239,zlf),(240,zel)]
def zta:List Value→zd→(Value→zd→Prop)→Prop
 | [.float .f64 turns],H,K=>zu2 turns H fun (r1_r:Nat) (r1_i:Nat) (H':zd)=>K (.complex .f32 r1_r r1_i) H'
 | _,_,_=>False
def zr0:FSpec:={F:=zta,quiet:=true,tame:=false}
theorem z1c2 (turns:Nat) (H:zd) (K:KT):zk Try.prog zbj Try.f224 [.float .f64 turns] H K=
 (ztw turns H fun (r1:Bool) (H1:zd)=>Br (!r1) (z9j  H1 fun (r2:Nat) (H2:zd)=>∃x1:Nat,zl r2=some x1∧K (.complex .f32 x1 x1) H2) (zet turns H1 fun (r3:Nat) (H3:zd)=>Br (fle .f64 4841369599423283200 r3) (K (.complex .f32 1065353216 0) H3) (zu3 turns H3 fun (r4:Nat) (H4:zd)=>z1b (exL Try.prog zbj (cl (cl (cl (cr (cr (cr (cr (cr (zg Try.f224))))))))) 48 4 [(0,48)]) (ud4 (.float .f64 r4::.int .i64 0::ud48 [])) H4 (zn 0 (seqQ (exL Try.prog zbj (cr (cr (cr (cr (cr (cr (zg Try.f224))))))) 4 4 []) (retK Try.prog Try.f224 K)))))):=by kernel_rfl
abbrev zjv  (f:Nat) (q:Int)  :List Value:=(ud4 (.float .f64 f::.int .i64 q::ud48 []))
theorem z1c1  (f:Nat) (q:Int)  (H:zd) (R:Post):exL Try.prog zbj (cl (cl (cl (cr (cr (cr (cr (cr (zg Try.f224))))))))) 48 4 [(0,48)] (zjv f q) H R=
 (Br (fle .f64 4598175219545276416 f) (R .normal (ud4 (.float .f64 (fsub .f64 f 4598175219545276416)::.int .i64 (IntKind.wrap .i64 (q+1))::ud48 [])) H) (R (.exit 0) (ud4 (.float .f64 f::.int .i64 q::ud48 [])) H)):=by kernel_rfl
def zvz  (Inv:Nat→Nat→Int→zd→Prop):Nat→List Value→zd→Prop:=fun μ tm H=>∃f:Nat,∃q:Int,tm=(zjv f q)∧Inv μ f q H
theorem z1by  {Q:Post} (Inv:Nat→Nat→Int→zd→Prop) (ν:Nat) (f:Nat) (q:Int)  (H:zd) (h0:Inv ν f q H)
  (hs:∀(μ:Nat) (f:Nat) (q:Int)  (H:zd),Inv μ f q H→exL Try.prog zbj (cl (cl (cl (cr (cr (cr (cr (cr (zg Try.f224))))))))) 48 4 [(0,48)] (zjv f q) H (zp (zvz  Inv) μ Q)):z1b (exL Try.prog zbj (cl (cl (cl (cr (cr (cr (cr (cr (zg Try.f224))))))))) 48 4 [(0,48)]) (zjv f q) H Q:=
 ⟨zvz  Inv,ν,⟨f,q,rfl,h0⟩,fun μ tm H h=>by obtain ⟨f,q,rfl,hI⟩:=h;exact hs μ f q  H hI⟩
theorem z1bz  {Q:Post} {Inv:Nat→Nat→Int→zd→Prop} {μ:Nat} (μ':Nat) {f:Nat} {q:Int}  {H:zd} (hm:μ'<μ) (hI:Inv μ' f q H):zp (zvz  Inv) μ Q .normal (zjv f q) H:=⟨μ',hm,f,q,rfl,hI⟩
theorem z10i (f:Nat) (q:Int) (H:zd) (K:KT)  {I:Nat→List Value→zd→Prop} {μ:Nat}:zp I μ (zn 0 (seqQ (exL Try.prog zbj (cr (cr (cr (cr (cr (cr (zg Try.f224))))))) 4 4 []) (retK Try.prog Try.f224 K))) (.exit 0) (ud4 (.float .f64 f::.int .i64 q::ud48 [])) H=
 (zix (fsub .f64 4598175219545276416 f) H fun (r5:Nat) (H5:zd)=>zix f H5 fun (r6:Nat) (H6:zd)=>Br ((q:Int)==1) (∃x2:Nat,zl (fsub .f64 0 r6)=some x2∧∃x3:Nat,zl r5=some x3∧K (.complex .f32 x2 x3) H6) (Br ((q:Int)==2) (∃x4:Nat,zl (fsub .f64 0 r5)=some x4∧∃x5:Nat,zl (fsub .f64 0 r6)=some x5∧K (.complex .f32 x4 x5) H6) (Br ((q:Int)==3) (∃x6:Nat,zl r6=some x6∧∃x7:Nat,zl (fsub .f64 0 r5)=some x7∧K (.complex .f32 x6 x7) H6) (∃x8:Nat,zl r5=some x8∧∃x9:Nat,zl r6=some x9∧K (.complex .f32 x8 x9) H6)))):=by kernel_rfl
theorem znu:∀g,FnOk Try.prog g (zbj g):=FnOk.envOf (by
 intro x hx
 simp only [List.mem_cons,List.not_mem_nil,or_false] at hx
 rcases hx with rfl | rfl | rfl | rfl | rfl
 ·exact z19q
 ·exact zm3
 ·exact zv4
 ·exact z12z
 ·exact z15j)
theorem ω22 {P:Prop} (h:P:=by first | exact z17k | exact z19d (by assumption) | exact z14h (by assumption)):P:=h
theorem ω10 {P:Prop} (h:P:=by first | omega | (simp;done) | (simp;omega) | (first | omega | assumption | with_reducible exact (z6o (by assumption) (by assumption)).1 | (have:=(z6o (by assumption) (by assumption));have:=qm_le (z6o (by assumption) (by assumption)).1;omega) | (have:=qm_le (by assumption:Bd .f64 (lp .f64) (z1t turns));omega))):P:=h
theorem ω6 {P:Prop} (h:P:=by first | omega | (first | omega | assumption | with_reducible exact (z6o (by assumption) (by assumption)).1 | (have:=(z6o (by assumption) (by assumption));have:=qm_le (z6o (by assumption) (by assumption)).1;omega) | (have:=qm_le (by assumption:Bd .f64 (lp .f64) (z1t turns));omega)) | (simp only [List.length_append,List.length_cons,List.length_nil,List.length_set];done) | (simp only [List.length_append,List.length_cons,List.length_nil,List.length_set];omega)):P:=h
theorem ω38 {P:Prop} (h:P:=by first | assumption | omega | (simp;omega) | (first | exact lp_up (by assumption) | exact zmt (by assumption))):P:=h
theorem z10h (turns:Nat) (H:zd) (K:KT) (h:zu2 turns H fun (r1_r:Nat) (r1_i:Nat) (H':zd)=>K (.complex .f32 r1_r r1_i) H'):zk Try.prog zbj Try.f224 [.float .f64 turns] H K:=by
 rw [z1c2]
 have hk:=h
 unfold zu2 at hk
 have e:(z9f turns)=_:=rfl
 have e:=e.trans (z11p turns)
 have g0:=Grow.refl H
 refine z13p ?_
 refine Br.intro (fun c_1=>?_) (fun c_1=>?_)
 ·have e:=e.trans (zj c_1)
  have c_1n:=zv c_1
  refine z9k ?_
  refine ⟨_,z2c (d:=0) ω22,?_⟩
  rw [e] at hk
  exact hk
 ·have e:=e.trans (zi c_1)
  have c_1n:=zr c_1
  refine zyb ?_
  refine Br.intro (fun c_2=>?_) (fun c_2=>?_)
  ·have e:=e.trans (zj c_2)
   rw [e] at hk
   exact hk
  ·have e:=e.trans (zi c_2)
   refine zu4 ⟨(by first | assumption | omega | (simp;omega) | (exact zu9 (by assumption) (by assumption))),?_⟩
   have z_3:=zw2 turns (by first | assumption | exact zu9 (by assumption) (by assumption))
   refine z1by  (fun (μ:Nat) (f:Nat) (q:Int) (H_1:zd)=>H=H_1∧Bd .f64 (lp .f64) f∧0≤q∧q+qm f≤4∧-4≤qm f∧qm f≤(μ:Int)∧z9f turns=zbw turns (μ+1) f q) (Int.toNat (qm (z1t turns))) _ _ H ?_ ?_
   ·exact ⟨rfl,ω10,ω10,ω10,ω10,ω2,e⟩
   ·intro μ f q  H_1 hI
    obtain ⟨rfl,v4,v5,v6,v7,hμ,e⟩:=hI
    rw [z1c1]
    have e:=e.trans (zs8 turns μ f q)
    have l8:=g0.1
    refine Br.intro (fun c_9=>?_) (fun c_9=>?_)
    ·have e:=e.trans (zj c_9)
     rw [show IntKind.wrap .i64 (q+1)=(q+1) from zy ω2 ω2]
     refine z1bz (μ-1) (by first | omega | (have:=z6o (by assumption) (by assumption);omega)) ⟨rfl,ω6,ω6,ω6,ω6,(by first | omega | (have:=z6o (by assumption) (by assumption);omega)),(by rw [show μ-1+1=μ from by first | omega | (have:=z6o (by assumption) (by assumption);omega)];exact e)⟩
    ·have e:=e.trans (zi c_9)
     rw [z10i]
     refine zob ⟨ω38,?_⟩
     have z10:=zuy (fsub .f64 4598175219545276416 f) (by first | exact lp_up (by assumption) | exact zmt (by assumption))
     refine zob ⟨ω38,?_⟩
     have z11:=zuy f (by first | exact lp_up (by assumption) | exact zmt (by assumption))
     refine Br.intro (fun c_12=>?_) (fun c_12=>?_)
     ·have e:=e.trans (zj c_12)
      have c_12':=ieq_t c_12
      refine ⟨_,z2c (d:=0) ω22,?_⟩
      refine ⟨_,z2c (d:=0) ω22,?_⟩
      rw [e] at hk
      exact hk
     ·have e:=e.trans (zi c_12)
      have c_12':=ieq_f c_12
      refine Br.intro (fun c_13=>?_) (fun c_13=>?_)
      ·have e:=e.trans (zj c_13)
       have c_13':=ieq_t c_13
       refine ⟨_,z2c (d:=0) ω22,?_⟩
       refine ⟨_,z2c (d:=0) ω22,?_⟩
       rw [e] at hk
       exact hk
      ·have e:=e.trans (zi c_13)
       have c_13':=ieq_f c_13
       refine Br.intro (fun c_14=>?_) (fun c_14=>?_)
       ·have e:=e.trans (zj c_14)
        have c_14':=ieq_t c_14
        refine ⟨_,z2c (d:=0) ω22,?_⟩
        refine ⟨_,z2c (d:=0) ω22,?_⟩
        rw [e] at hk
        exact hk
       ·have e:=e.trans (zi c_14)
        have c_14':=ieq_f c_14
        refine ⟨_,z2c (d:=0) ω22,?_⟩
        refine ⟨_,z2c (d:=0) ω22,?_⟩
        rw [e] at hk
        exact hk
theorem z1c0:FnOk Try.prog 224 zr0:=by
 refine FnOk.body mix_ok znu Try.func224 rfl ω5 ω5 ?_ ?_ ?_ ?_ ?_
 ·intro args H K K' h hk
  simp only [zr0] at *
  unfold zta at *
  split at hk
  ·have k:=hk
   exact h _ _ k
  ·exact hk.elim
 ·intro _ args H K hk
  simp only [zr0] at *
  unfold zta at *
  split at hk
  ·have k:=hk
   exact ⟨_,k,fun K' k'=>k'⟩
  ·exact hk.elim
 ·intro args H K hk
  simp only [zr0] at *
  unfold zta at *
  split at hk
  ·have k:=hk
   exact ⟨_,_,k⟩
  ·exact hk.elim
 ·intro hq;cases hq
 ·have mm:=@z10h
  have ml:=fun (args:List Value) (H:zd) (K:KT)=>zf (P:=Try.prog) (env:=zbj) (fn:=Try.f224) (args:=args) (H:=H) (K:=K) znu 
  revert mm ml
  generalize z1a Try.prog zbj Try.f224=Q
  generalize zk Try.prog zbj Try.f224=QL
  intro mm ml args H K hk
  simp only [zr0] at *
  unfold zta at *
  split at hk
  ·exact ml _ H K (mm _ H K hk)
  ·exact hk.elim
def zgn (x_r x_i vby:Nat):Nat×Nat:=(fmul .f32 x_r vby,fmul .f32 x_i vby)
def ztk (x_r x_i vby:Nat) (H:zd) (K:Nat→Nat→zd→Prop):Prop:=K (zgn x_r x_i vby).1 (zgn x_r x_i vby).2 H

theorem z13l {x_r x_i vby:Nat} {H:zd} {K:Nat→Nat→zd→Prop} (h:K (zgn x_r x_i vby).1 (zgn x_r x_i vby).2 H):ztk x_r x_i vby H K:=h
def zpy:Env:=envOf []
def zsk:List Value→zd→(Value→zd→Prop)→Prop
 | [.complex .f32 x_r x_i,.float .f32 vby],H,K=>ztk x_r x_i vby H fun (r1_r:Nat) (r1_i:Nat) (H':zd)=>K (.complex .f32 r1_r r1_i) H'
 | _,_,_=>False
def zqj:FSpec:={F:=zsk,quiet:=true,tame:=false}
theorem f0z_vc (x_r x_i vby:Nat) (H:zd) (K:KT):zk Try.prog zpy Try.f223 [.complex .f32 x_r x_i,.float .f32 vby] H K=
 (K (.complex .f32 (fmul .f32 x_r vby) (fmul .f32 x_i vby)) H):=by kernel_rfl
theorem zn2:∀g,FnOk Try.prog g (zpy g):=FnOk.envOf (by
 intro x hx;cases hx)
theorem f0z_main (x_r x_i vby:Nat) (H:zd) (K:KT) (h:ztk x_r x_i vby H fun (r1_r:Nat) (r1_i:Nat) (H':zd)=>K (.complex .f32 r1_r r1_i) H'):zk Try.prog zpy Try.f223 [.complex .f32 x_r x_i,.float .f32 vby] H K:=by
 rw [f0z_vc]
 unfold ztk zgn at h
 repeat' (first | exact h | (exfalso;simp_all;done) | (refine ⟨by decide,?_⟩) | (refine Br.intro (fun hb=>?_) (fun hb=>?_)<;>(try simp only [hb,cond_true,cond_false,Bool.not_true,Bool.not_false] at h)))
theorem f0z_ok:FnOk Try.prog 223 zqj:=by
 refine FnOk.body mix_ok zn2 Try.func223 rfl ω5 ω5 ?_ ?_ ?_ ?_ ?_
 ·intro args H K K' h hk
  simp only [zqj] at *
  unfold zsk at *
  split at hk
  ·have k:=hk
   exact h _ _ k
  ·exact hk.elim
 ·intro _ args H K hk
  simp only [zqj] at *
  unfold zsk at *
  split at hk
  ·have k:=hk
   exact ⟨_,k,fun K' k'=>k'⟩
  ·exact hk.elim
 ·intro args H K hk
  simp only [zqj] at *
  unfold zsk at *
  split at hk
  ·have k:=hk
   exact ⟨_,_,k⟩
  ·exact hk.elim
 ·intro hq;cases hq
 ·have mm:=@f0z_main
  have ml:=fun (args:List Value) (H:zd) (K:KT)=>zf (P:=Try.prog) (env:=zpy) (fn:=Try.f223) (args:=args) (H:=H) (K:=K) zn2 
  revert mm ml
  generalize z1a Try.prog zpy Try.f223=Q
  generalize zk Try.prog zpy Try.f223=QL
  intro mm ml args H K hk
  simp only [zqj] at *
  unfold zsk at *
  split at hk
  ·exact ml _ H K (mm _ _ _ H K hk)
  ·exact hk.elim

def z4p (scale:Nat):Nat→(List (Nat×Nat))→Int→(List (Nat×Nat))×Int
 | 0,_,_=>([],0)
 | μ+1,nb,t18=>(bif decide ((t18:Int)<(((2*(((ftoi .f64 ((z1g (zh (fmul .f32 1077936128 scale)))) .i64).getD 0))))+1)) then (z4p scale μ ((nb++[((zgn ((z9f (zh (fdiv .f32 (FloatKind.nearest .f32 ((t18-(((ftoi .f64 ((z1g (zh (fmul .f32 1077936128 scale)))) .i64).getD 0))))) scale))).1) ((z9f (zh (fdiv .f32 (FloatKind.nearest .f32 ((t18-(((ftoi .f64 ((z1g (zh (fmul .f32 1077936128 scale)))) .i64).getD 0))))) scale))).2) (fdiv .f32 ((zkq (fmul .f32 (fmul .f32 3204448256 (fdiv .f32 (FloatKind.nearest .f32 ((t18-(((ftoi .f64 ((z1g (zh (fmul .f32 1077936128 scale)))) .i64).getD 0))))) scale)) (fdiv .f32 (FloatKind.nearest .f32 ((t18-(((ftoi .f64 ((z1g (zh (fmul .f32 1077936128 scale)))) .i64).getD 0))))) scale)))) scale)).1,(zgn ((z9f (zh (fdiv .f32 (FloatKind.nearest .f32 ((t18-(((ftoi .f64 ((z1g (zh (fmul .f32 1077936128 scale)))) .i64).getD 0))))) scale))).1) ((z9f (zh (fdiv .f32 (FloatKind.nearest .f32 ((t18-(((ftoi .f64 ((z1g (zh (fmul .f32 1077936128 scale)))) .i64).getD 0))))) scale))).2) (fdiv .f32 ((zkq (fmul .f32 (fmul .f32 3204448256 (fdiv .f32 (FloatKind.nearest .f32 ((t18-(((ftoi .f64 ((z1g (zh (fmul .f32 1077936128 scale)))) .i64).getD 0))))) scale)) (fdiv .f32 (FloatKind.nearest .f32 ((t18-(((ftoi .f64 ((z1g (zh (fmul .f32 1077936128 scale)))) .i64).getD 0))))) scale)))) scale)).2)])) (t18+1)) else (nb,((ftoi .f64 ((z1g (zh (fmul .f32 1077936128 scale)))) .i64).getD 0)))
def zcy:=fun scale μ nb t18=>@z4p.eq_2 scale nb t18 μ
def z1p (scale:Nat):(List (Nat×Nat))×Int:=(z4p scale (Int.toNat ((((2*(((ftoi .f64 ((z1g (zh (fmul .f32 1077936128 scale)))) .i64).getD 0))))+1)-(0:Int))+1) (([]:List (Nat×Nat))) (0:Int))
def zkk:=@z1p.eq_1
def zoa (scale:Nat) (H:zd) (K:OA→Nat→Nat→Int→zd→Prop):Prop:=(bif fle .f32 1056964608 scale then fle .f32 scale 1098907648 else false)=true∧((∀(za:OA) (db cb:Nat),∀H':zd,Grow H H'→OwnS fC H' H.length za db cb ((z1p scale).1)→K za db cb ((z1p scale).2) H'))
theorem zy5 {scale:Nat} {H:zd} {K:OA→Nat→Nat→Int→zd→Prop} (h:(bif fle .f32 1056964608 scale then fle .f32 scale 1098907648 else false)=true∧((∀(za:OA) (db cb:Nat),∀H':zd,Grow H H'→OwnS fC H' H.length za db cb ((z1p scale).1)→K za db cb ((z1p scale).2) H'))):zoa scale H K:=h
theorem zlx (x:Nat):∀(μ:Nat) (o:List (Nat×Nat)) (k:Int),(z4p x μ o k).1.length≤o.length+μ∧((z4p x μ o k).2=0∨(z4p x μ o k).2=(ftoi .f64 (z1g (zh (fmul .f32 1077936128 x))) .i64).getD 0):=by
 intro μ
 induction μ with
 | zero=>intro o k;exact ⟨Nat.zero_le _,.inl rfl⟩
 | succ μ ih=>
  intro o k
  rw [zcy]
  cases decide (k<(((2*(((ftoi .f64 ((z1g (zh (fmul .f32 1077936128 x)))) .i64).getD 0))))+1))
  ·exact ⟨by show o.length≤_;omega,.inr rfl⟩
  ·simp only [cond_true]
   refine ⟨Nat.le_trans (ih _ _).1 ?_,(ih _ _).2⟩
   rw [List.length_append,List.length_singleton];omega
theorem zoh (x:Nat) (h:(bif fle .f32 1056964608 x then fle .f32 x 1098907648 else false)=true):(z1p x).1.length≤1000∧-256≤(z1p x).2∧(z1p x).2≤256:=by
 have hr:-256≤(ftoi .f64 (z1g (zh (fmul .f32 1077936128 x))) .i64).getD 0∧(ftoi .f64 (z1g (zh (fmul .f32 1077936128 x))) .i64).getD 0≤256:=z13f h
 rw [zkk]
 obtain ⟨a,b⟩:=zlx x (Int.toNat ((((2*(((ftoi .f64 ((z1g (zh (fmul .f32 1077936128 x)))) .i64).getD 0))))+1)-(0:Int))+1) (([]:List (Nat×Nat))) (0:Int)
 rw [List.length_nil] at a
 rcases b with b | b<;>rw [b]<;>exact ⟨by omega,by omega,by omega⟩
def z6v:Env:=envOf [(222,zen),(135,zqt),(224,zr0),(223,zqj)]
def zi6:List Value→zd→(Value→zd→Prop)→Prop
 | [.float .f32 scale],H,K=>zoa scale H fun (za:OA) (db:Nat) (cb:Nat) (r2:Int) (H':zd)=>K (.tuple #[.slice za db cb,.int .i64 r2]) H'
 | _,_,_=>False
def zef:FSpec:={F:=zi6,quiet:=false,tame:=true}
theorem z14x (scale:Nat) (H:zd) (K:KT):zk Try.prog z6v Try.f196 [.float .f32 scale] H K=
 (ziy (zh (fmul .f32 1077936128 scale)) H fun (r1:Nat) (H1:zd)=>∃n1:Int,ftoi .f64 r1 .i64=some n1∧Al [] H1 fun b1 H2=>z1b (exL Try.prog z6v (cl (cl (cr (cl (cr (cr (cr (zg Try.f196)))))))) 393265 12 [(0,48)]) (.float .f32 scale::ud3 (.int .i64 n1::.slice (some ⟨b1,0,none⟩) 0 1::ud11 (.int .i64 (IntKind.wrap .i64 ((IntKind.wrap .i64 (2*n1))+1))::.int .i64 0::ud26 []))) H2 (zn 0 (seqQ (exL Try.prog z6v (cr (cr (cr (cr (zg Try.f196))))) 12 12 []) (retK Try.prog Try.f196 K)))):=by kernel_rfl
abbrev zcb (n1:Int) (scale:Nat) (z1_17:Int) (sa:OA) (ta ua:Nat) (t18:Int)  :List Value:=(.float .f32 scale::ud3 (.int .i64 n1::.slice sa ta ua::ud11 (.int .i64 z1_17::.int .i64 t18::ud26 [])))
theorem z14w (n1:Int) (scale:Nat) (z1_17:Int) (sa:OA) (ta ua:Nat) (t18:Int)  (H:zd) (R:Post):exL Try.prog z6v (cl (cl (cr (cl (cr (cr (cr (zg Try.f196)))))))) 393265 12 [(0,48)] (zcb n1 scale z1_17 sa ta ua t18) H R=
 (Br (decide ((t18:Int)<z1_17)) (zyg (fmul .f32 (fmul .f32 3204448256 (fdiv .f32 (FloatKind.nearest .f32 (IntKind.wrap .i64 (t18-n1))) scale)) (fdiv .f32 (FloatKind.nearest .f32 (IntKind.wrap .i64 (t18-n1))) scale)) H fun (r2:Nat) (H3:zd)=>zu2 (zh (fdiv .f32 (FloatKind.nearest .f32 (IntKind.wrap .i64 (t18-n1))) scale)) H3 fun (r3:Nat) (r4:Nat) (H4:zd)=>ztk r3 r4 (fdiv .f32 r2 scale) H4 fun (r5:Nat) (r6:Nat) (H5:zd)=>Al [.complex .f32 r5 r6] H5 fun b2 H6=>∃o1 w1:List Value,ownB H6 sa ta ua 1=some o1∧rdS H6 (some ⟨b2,0,none⟩) (1*1)=some w1∧((sa:OA)=none→0<(1:Nat))∧(ta:Nat)+1<most∧Ap H6 (z5l H6 sa++[some ⟨o1++w1,true⟩]) fun b3 H7=>R .normal (.float .f32 scale::ud3 (.int .i64 n1::.slice (some ⟨b3,0,none⟩) (ta+1) 1::ud11 (.int .i64 z1_17::.int .i64 (IntKind.wrap .i64 (t18+1))::ud26 []))) H7) (R (.exit 0) (ud4 (.int .i64 n1::.slice sa ta ua::ud39 [])) H)):=by kernel_rfl
def zlw (n1:Int) (scale:Nat) (z1_17:Int) (Inv:Nat→OA→Nat→Nat→Int→zd→Prop):Nat→List Value→zd→Prop:=fun μ tm H=>∃sa:OA,∃(ta ua:Nat),∃t18:Int,tm=(zcb n1 scale z1_17 sa ta ua t18)∧Inv μ sa ta ua t18 H
theorem z14t (n1:Int) (scale:Nat) (z1_17:Int) {Q:Post} (Inv:Nat→OA→Nat→Nat→Int→zd→Prop) (ν:Nat) (sa:OA) (ta ua:Nat) (t18:Int)  (H:zd) (h0:Inv ν sa ta ua t18 H)
  (hs:∀(μ:Nat) (sa:OA) (ta:Nat) (ua:Nat) (t18:Int)  (H:zd),Inv μ sa ta ua t18 H→exL Try.prog z6v (cl (cl (cr (cl (cr (cr (cr (zg Try.f196)))))))) 393265 12 [(0,48)] (zcb n1 scale z1_17 sa ta ua t18) H (zp (zlw n1 scale z1_17 Inv) μ Q)):z1b (exL Try.prog z6v (cl (cl (cr (cl (cr (cr (cr (zg Try.f196)))))))) 393265 12 [(0,48)]) (zcb n1 scale z1_17 sa ta ua t18) H Q:=
 ⟨zlw n1 scale z1_17 Inv,ν,⟨sa,ta,ua,t18,rfl,h0⟩,fun μ tm H h=>by obtain ⟨sa,ta,ua,t18,rfl,hI⟩:=h;exact hs μ sa ta ua t18  H hI⟩
theorem z14u {n1:Int} {scale:Nat} {z1_17:Int} {Q:Post} {Inv:Nat→OA→Nat→Nat→Int→zd→Prop} {μ:Nat} (μ':Nat) {sa:OA} {ta ua:Nat} {t18:Int}  {H:zd} (hm:μ'<μ) (hI:Inv μ' sa ta ua t18 H):zp (zlw n1 scale z1_17 Inv) μ Q .normal (zcb n1 scale z1_17 sa ta ua t18) H:=⟨μ',hm,sa,ta,ua,t18,rfl,hI⟩
theorem zur (n1:Int) (sa:OA) (ta ua:Nat) (H:zd) (K:KT)  {I:Nat→List Value→zd→Prop} {μ:Nat}:zp I μ (zn 0 (seqQ (exL Try.prog z6v (cr (cr (cr (cr (zg Try.f196))))) 12 12 []) (retK Try.prog Try.f196 K))) (.exit 0) (ud4 (.int .i64 n1::.slice sa ta ua::ud39 [])) H=
 (K (.tuple #[.slice sa ta ua,.int .i64 n1]) H):=by kernel_rfl
theorem zhk:∀g,FnOk Try.prog g (z6v g):=FnOk.envOf (by
 intro x hx
 simp only [List.mem_cons,List.not_mem_nil,or_false] at hx
 rcases hx with rfl | rfl | rfl | rfl
 ·exact z15n
 ·exact z1ap
 ·exact z1c0
 ·exact f0z_ok)
theorem zuq (scale:Nat) (H:zd) (K:KT) (h:zoa scale H fun (za:OA) (db:Nat) (cb:Nat) (r2:Int) (H':zd)=>K (.tuple #[.slice za db cb,.int .i64 r2]) H'):zk Try.prog z6v Try.f196 [.float .f32 scale] H K:=by
 rw [z14x]
 obtain ⟨pr0,hk⟩:=h
 have hr:-256≤(ftoi .f64 (z1g (zh (fmul .f32 1077936128 scale))) .i64).getD 0∧(ftoi .f64 (z1g (zh (fmul .f32 1077936128 scale))) .i64).getD 0≤256:=z13f (by assumption)
 have e:(z1p scale)=_:=rfl
 have e:=e.trans (zkk scale)
 have g0:=Grow.refl H
 refine zy9 ?_
 refine ⟨_,z2c (d:=0) (by exact z1df (by assumption)),?_⟩
 refine Al.intro (fun b_1 H_1 hb_2 hl_3 g_4 o5=>?_)
 have o5:Own H_1 b_1 ((([]:List (Nat×Nat))).map fC):=o5
 have l_7:=g_4.1
 have g8:=g0.trans g_4
 have l_9:=g8.1
 have w45:=o5.lt
 rw [show IntKind.wrap .i64 (2*(((ftoi .f64 ((z1g (zh (fmul .f32 1077936128 scale)))) .i64).getD 0)))=(2*(((ftoi .f64 ((z1g (zh (fmul .f32 1077936128 scale)))) .i64).getD 0))) from zy ω2 ω2]
 rw [show IntKind.wrap .i64 (((2*(((ftoi .f64 ((z1g (zh (fmul .f32 1077936128 scale)))) .i64).getD 0))))+1)=(((2*(((ftoi .f64 ((z1g (zh (fmul .f32 1077936128 scale)))) .i64).getD 0))))+1) from zy ω2 ω2]
 refine z14t _ _ _ (fun (μ:Nat) (sa:OA) (ta:Nat) (ua:Nat) (t18:Int) (H_2:zd)=>∃(nb:List (Nat×Nat)),∃b_10:Nat,sa=some ⟨b_10,0,none⟩∧ta=nb.length∧ua=1∧Own H_2 b_10 (nb.map fC)∧Grow H H_2∧H.length≤b_10∧(0:Int)≤t18∧((t18≤(((2*(((ftoi .f64 ((z1g (zh (fmul .f32 1077936128 scale)))) .i64).getD 0))))+1)∨t18≤(0:Int)))∧(nb.length:Int)≤t18-(0:Int)+0∧(nb.length:Int)≤t18∧(((2*(((ftoi .f64 ((z1g (zh (fmul .f32 1077936128 scale)))) .i64).getD 0))))+1)-t18≤(μ:Int)∧z1p scale=z4p scale (μ+1) nb t18) (Int.toNat ((((2*(((ftoi .f64 ((z1g (zh (fmul .f32 1077936128 scale)))) .i64).getD 0))))+1)-(0:Int))) _ _ _ _ H_1 ?_ ?_
 ·exact ⟨_,_,rfl,ω4,rfl,o5,g8,ω2,ω3,ω3,ω3,ω3,ω2,e⟩
 ·intro μ sa ta ua t18  H_2 hI
  obtain ⟨nb,b_10,rfl,rfl,rfl,o11,g12,l13,v14,v15,v16,v17,hμ,e⟩:=hI
  rw [z14w]
  have e:=e.trans (zcy scale μ nb t18)
  have w18:=o11.lt
  have l19:=g12.1
  refine Br.intro (fun c_20=>?_) (fun c_20=>?_)
  ·have e:=e.trans (zj c_20)
   have c_20':=odt c_20
   rw [show IntKind.wrap .i64 (t18-(((ftoi .f64 ((z1g (zh (fmul .f32 1077936128 scale)))) .i64).getD 0)))=(t18-(((ftoi .f64 ((z1g (zh (fmul .f32 1077936128 scale)))) .i64).getD 0))) from zy ω2 ω2]
   refine z13s ⟨(by first | assumption | omega | (simp;omega) | (exact z16i (z1dk (by decide+kernel)))),?_⟩
   refine z14a ?_
   refine z13l ?_
   refine Al.intro (fun b21 H_3 hb_22 hl_23 g24 o25=>?_)
   have o25:Own H_3 b21 (([((zgn ((z9f (zh (fdiv .f32 (FloatKind.nearest .f32 ((t18-(((ftoi .f64 ((z1g (zh (fmul .f32 1077936128 scale)))) .i64).getD 0))))) scale))).1) ((z9f (zh (fdiv .f32 (FloatKind.nearest .f32 ((t18-(((ftoi .f64 ((z1g (zh (fmul .f32 1077936128 scale)))) .i64).getD 0))))) scale))).2) (fdiv .f32 ((zkq (fmul .f32 (fmul .f32 3204448256 (fdiv .f32 (FloatKind.nearest .f32 ((t18-(((ftoi .f64 ((z1g (zh (fmul .f32 1077936128 scale)))) .i64).getD 0))))) scale)) (fdiv .f32 (FloatKind.nearest .f32 ((t18-(((ftoi .f64 ((z1g (zh (fmul .f32 1077936128 scale)))) .i64).getD 0))))) scale)))) scale)).1,(zgn ((z9f (zh (fdiv .f32 (FloatKind.nearest .f32 ((t18-(((ftoi .f64 ((z1g (zh (fmul .f32 1077936128 scale)))) .i64).getD 0))))) scale))).1) ((z9f (zh (fdiv .f32 (FloatKind.nearest .f32 ((t18-(((ftoi .f64 ((z1g (zh (fmul .f32 1077936128 scale)))) .i64).getD 0))))) scale))).2) (fdiv .f32 ((zkq (fmul .f32 (fmul .f32 3204448256 (fdiv .f32 (FloatKind.nearest .f32 ((t18-(((ftoi .f64 ((z1g (zh (fmul .f32 1077936128 scale)))) .i64).getD 0))))) scale)) (fdiv .f32 (FloatKind.nearest .f32 ((t18-(((ftoi .f64 ((z1g (zh (fmul .f32 1077936128 scale)))) .i64).getD 0))))) scale)))) scale)).2)]).map fC):=o25
   have l27:=g24.1
   have g28:=g12.trans g24
   have l29:=g28.1
   have o30:=o11.grow g24
   have w31:=o30.lt
   have w44:=o25.lt
   refine ⟨_,_,o30.ownB ω9 rfl,(zch (o25.isL ω4)),(fun h=>by cases h),ω40,?_⟩
   refine Ap.app o30 rfl rfl (fun b36 H_4 q42 hl_32 o33 k34=>?_)
   have o33:=z9t o33
   have l37:=k34.1
   have g38:=g28.keep (b:=b_10) ω2 k34
   have l39:=g38.1
   have o40:=o25.keep ω2 k34
   have w41:=o40.lt
   have w43:=o33.lt
   rw [show IntKind.wrap .i64 (t18+1)=(t18+1) from zy ω2 ω2]
   refine z14u (μ-1) ω18 ⟨_,_,rfl,ω8,rfl,o33,g38,ω2,ω1,ω1,ω1,ω1,ω18,ω19⟩
  ·have e:=e.trans (zi c_20)
   have c_20':=odf c_20
   rw [zur]
   rw [e] at hk
   exact hk _ _ _ H_2 g12 (o11.ownS ω4 ω2)
theorem z14v:FnOk Try.prog 196 zef:=by
 refine FnOk.body mix_ok zhk Try.func196 rfl ω5 ω5 ?_ ?_ ?_ ?_ ?_
 ·intro args H K K' h hk
  simp only [zef] at *
  unfold zi6 at *
  split at hk
  ·obtain ⟨pr0,k⟩:=hk
   exact ⟨pr0,(fun za db cb H' gg ow0=>h _ _ (k za db cb H' gg ow0))⟩
  ·exact hk.elim
 ·intro hq;cases hq
 ·intro args H K hk
  simp only [zef] at *
  unfold zi6 at *
  split at hk
  ·obtain ⟨pr0,k⟩:=hk
   exact zk5 fun a n e H1 g o=>⟨_,_,k a n e H1 g o⟩
  ·exact hk.elim
 ·intro _ args H K hk
  simp only [zef] at *
  unfold zi6 at *
  split at hk
  ·obtain ⟨pr0,k⟩:=hk
   exact ⟨pr0,(fun za db cb H' gg ow0=>⟨gg,k za db cb H' gg ow0⟩)⟩
  ·exact hk.elim
 ·have mm:=@zuq
  have ml:=fun (args:List Value) (H:zd) (K:KT)=>zf (P:=Try.prog) (env:=z6v) (fn:=Try.f196) (args:=args) (H:=H) (K:=K) zhk 
  revert mm ml
  generalize z1a Try.prog z6v Try.f196=Q
  generalize zk Try.prog z6v Try.f196=QL
  intro mm ml args H K hk
  simp only [zef] at *
  unfold zi6 at *
  split at hk
  ·exact ml _ H K (mm _ H K hk)
  ·exact hk.elim

def za3 (scale:Nat):Nat→LN→Int→LN×Int
 | 0,_,_=>([],0)
 | μ+1,nb,t17=>(bif decide ((t17:Int)<(((z1p scale).1).length:Int)) then (za3 scale μ ((nb++[(((((z1p scale).1).getD (t17:Int).toNat (0,0))).1)])) (t17+1)) else (nb,(z1p scale).2))
def zf8:=fun scale μ nb t17=>@za3.eq_2 scale nb t17 μ
def z1j (scale:Nat):LN×Int:=(za3 scale (Int.toNat ((((z1p scale).1).length:Int)-(0:Int))+1) ([]:LN) (0:Int))
def zp7:=@z1j.eq_1
def ztx (scale:Nat) (H:zd) (K:OA→Nat→Nat→Int→zd→Prop):Prop:=(bif fle .f32 1056964608 scale then fle .f32 scale 1098907648 else false)=true∧((∀(za:OA) (db cb:Nat),∀H':zd,Grow H H'→OwnS fF H' H.length za db cb ((z1j scale).1)→K za db cb ((z1j scale).2) H'))
theorem zty {scale:Nat} {H:zd} {K:OA→Nat→Nat→Int→zd→Prop} (h:(bif fle .f32 1056964608 scale then fle .f32 scale 1098907648 else false)=true∧((∀(za:OA) (db cb:Nat),∀H':zd,Grow H H'→OwnS fF H' H.length za db cb ((z1j scale).1)→K za db cb ((z1j scale).2) H'))):ztx scale H K:=h
theorem zrf (x:Nat):∀(μ:Nat) (o:LN) (k:Int),0≤k→((z1p x).1.length-k).toNat<μ→za3 x μ o k=(o++((z1p x).1.drop k.toNat).map Prod.fst,(z1p x).2):=by
 intro μ
 induction μ with
 | zero=>intro o k h0 h;omega
 | succ μ ih=>
  intro o k h0 h
  rw [zf8]
  by_cases hk:k<((z1p x).1.length:Int)
  ·rw [dct hk,cond_true,ih _ _ ω2 ω2]
   have hk':k.toNat<(z1p x).1.length:=by omega
   rw [show (k+1).toNat=k.toNat+1 by omega,List.append_assoc,List.getD_eq_getElem?_getD,List.getElem?_eq_getElem hk',List.drop_eq_getElem_cons hk'];rfl
  ·rw [dcf hk,cond_false,List.drop_eq_nil_of_le ω2,List.map_nil,List.append_nil]
theorem z15w (x:Nat):z1j x=((z1p x).1.map Prod.fst,(z1p x).2):=by
 rw [zp7,zrf _ _ _ _ ω11 ω2];rfl
theorem zvc (x:Nat) (h:(bif fle .f32 1056964608 x then fle .f32 x 1098907648 else false)=true):(z1j x).1.length≤1000∧-256≤(z1j x).2∧(z1j x).2≤256:=by
 rw [z15w];simp only [List.length_map];exact zoh x h
def zbf:Env:=envOf [(196,zef)]
def zsu:List Value→zd→(Value→zd→Prop)→Prop
 | [.float .f32 scale],H,K=>ztx scale H fun (za:OA) (db:Nat) (cb:Nat) (r2:Int) (H':zd)=>K (.tuple #[.slice za db cb,.int .i64 r2]) H'
 | _,_,_=>False
def zld:FSpec:={F:=zsu,quiet:=false,tame:=true}
theorem z1a6 (scale:Nat) (H:zd) (K:KT):zk Try.prog zbf Try.f164 [.float .f32 scale] H K=
 (zoa scale H fun (a1:OA) (r1:Nat) (r2:Nat) (r3:Int) (H1:zd)=>Al [] H1 fun b1 H2=>z1b (exL Try.prog zbf (cl (cl (cr (cl (cr (cr (cr (zg Try.f164)))))))) 229472 12 [(0,96)]) (ud5 (.int .i64 r3::.slice (some ⟨b1,0,none⟩) 0 1::ud8 (.slice a1 r1 r2::.int .i64 (r1:Int)::.int .i64 0::ud11 []))) H2 (zn 0 (seqQ (exL Try.prog zbf (cr (cr (cr (cr (zg Try.f164))))) 12 12 []) (retK Try.prog Try.f164 K)))):=by kernel_rfl
abbrev zjh (a1:OA) (r1 r2:Nat) (r3:Int) (sa:OA) (ta ua:Nat) (t17:Int)  :List Value:=(ud5 (.int .i64 r3::.slice sa ta ua::ud8 (.slice a1 r1 r2::.int .i64 (r1:Int)::.int .i64 t17::ud11 [])))
theorem z1a5 (a1:OA) (r1 r2:Nat) (r3:Int) (sa:OA) (ta ua:Nat) (t17:Int)  (H:zd) (R:Post):exL Try.prog zbf (cl (cl (cr (cl (cr (cr (cr (zg Try.f164)))))))) 229472 12 [(0,96)] (zjh a1 r1 r2 r3 sa ta ua t17) H R=
 (Br (decide ((t17:Int)<(r1:Int))) ((0:Int)≤t17∧t17<(r1:Int)∧∃b2 f1,(a1:OA)=some ⟨b2,f1,none⟩∧∃(x1_r x1_i:Nat),  rdC H b2 (f1+(t17:Int).toNat*1)=some (.complex .f32 x1_r x1_i)∧Al [.float .f32 x1_r] H fun b3 H3=>∃o1 w1:List Value,ownB H3 sa ta ua 1=some o1∧rdS H3 (some ⟨b3,0,none⟩) (1*1)=some w1∧((sa:OA)=none→0<(1:Nat))∧(ta:Nat)+1<most∧Ap H3 (z5l H3 sa++[some ⟨o1++w1,true⟩]) fun b4 H4=>R .normal (ud5 (.int .i64 r3::.slice (some ⟨b4,0,none⟩) (ta+1) 1::ud8 (.slice a1 r1 r2::.int .i64 (r1:Int)::.int .i64 (IntKind.wrap .i64 (t17+1))::ud11 []))) H4) (R (.exit 0) (ud5 (.int .i64 r3::.slice sa ta ua::ud22 [])) H)):=by kernel_rfl
def zvb (a1:OA) (r1 r2:Nat) (r3:Int) (Inv:Nat→OA→Nat→Nat→Int→zd→Prop):Nat→List Value→zd→Prop:=fun μ tm H=>∃sa:OA,∃(ta ua:Nat),∃t17:Int,tm=(zjh a1 r1 r2 r3 sa ta ua t17)∧Inv μ sa ta ua t17 H
theorem z1a3 (a1:OA) (r1 r2:Nat) (r3:Int) {Q:Post} (Inv:Nat→OA→Nat→Nat→Int→zd→Prop) (ν:Nat) (sa:OA) (ta ua:Nat) (t17:Int)  (H:zd) (h0:Inv ν sa ta ua t17 H)
  (hs:∀(μ:Nat) (sa:OA) (ta:Nat) (ua:Nat) (t17:Int)  (H:zd),Inv μ sa ta ua t17 H→exL Try.prog zbf (cl (cl (cr (cl (cr (cr (cr (zg Try.f164)))))))) 229472 12 [(0,96)] (zjh a1 r1 r2 r3 sa ta ua t17) H (zp (zvb a1 r1 r2 r3 Inv) μ Q)):z1b (exL Try.prog zbf (cl (cl (cr (cl (cr (cr (cr (zg Try.f164)))))))) 229472 12 [(0,96)]) (zjh a1 r1 r2 r3 sa ta ua t17) H Q:=
 ⟨zvb a1 r1 r2 r3 Inv,ν,⟨sa,ta,ua,t17,rfl,h0⟩,fun μ tm H h=>by obtain ⟨sa,ta,ua,t17,rfl,hI⟩:=h;exact hs μ sa ta ua t17  H hI⟩
theorem z1a4 {a1:OA} {r1 r2:Nat} {r3:Int} {Q:Post} {Inv:Nat→OA→Nat→Nat→Int→zd→Prop} {μ:Nat} (μ':Nat) {sa:OA} {ta ua:Nat} {t17:Int}  {H:zd} (hm:μ'<μ) (hI:Inv μ' sa ta ua t17 H):zp (zvb a1 r1 r2 r3 Inv) μ Q .normal (zjh a1 r1 r2 r3 sa ta ua t17) H:=⟨μ',hm,sa,ta,ua,t17,rfl,hI⟩
theorem zzc (r3:Int) (sa:OA) (ta ua:Nat) (H:zd) (K:KT)  {I:Nat→List Value→zd→Prop} {μ:Nat}:zp I μ (zn 0 (seqQ (exL Try.prog zbf (cr (cr (cr (cr (zg Try.f164))))) 12 12 []) (retK Try.prog Try.f164 K))) (.exit 0) (ud5 (.int .i64 r3::.slice sa ta ua::ud22 [])) H=
 (K (.tuple #[.slice sa ta ua,.int .i64 r3]) H):=by kernel_rfl
theorem zne:∀g,FnOk Try.prog g (zbf g):=FnOk.envOf (by
 intro x hx
 simp only [List.mem_cons,List.not_mem_nil,or_false] at hx
 subst hx;exact z14v)
theorem zzb (scale:Nat) (H:zd) (K:KT) (h:ztx scale H fun (za:OA) (db:Nat) (cb:Nat) (r2:Int) (H':zd)=>K (.tuple #[.slice za db cb,.int .i64 r2]) H'):zk Try.prog zbf Try.f164 [.float .f32 scale] H K:=by
 rw [z1a6]
 obtain ⟨pr0,hk⟩:=h
 have e:(z1j scale)=_:=rfl
 have e:=e.trans (zp7 scale)
 have g0:=Grow.refl H
 refine zy5 ⟨ω16,fun a_1 n_2 e_3 H_1 g_6 r_4=>?_⟩
 have z5:=zoh scale (by first | assumption | omega)
 have l_7:=g_6.1
 have g8:=g0.trans g_6
 have l_9:=g8.1
 obtain rfl:=r_4.isL.eqn
 have u10:=r_4.up
 have u11:=r_4.lo
 refine Al.intro (fun b13 H_2 hb_14 hl_15 g16 o17=>?_)
 have o17:Own H_2 b13 ((([]:LN)).map fF):=o17
 have l19:=g16.1
 have g20:=g8.trans g16
 have l21:=g20.1
 have r_22:=r_4.grow g16
 have w66:=o17.lt
 refine z1a3 _ _ _ _ (fun (μ:Nat) (sa:OA) (ta:Nat) (ua:Nat) (t17:Int) (H_3:zd)=>∃nb:LN,∃b23:Nat,sa=some ⟨b23,0,none⟩∧ta=nb.length∧ua=1∧Own H_3 b23 (nb.map fF)∧OwnS fC H_3 H.length a_1 (((z1p scale).1).length) e_3 ((z1p scale).1)∧H_1.length≤H_3.length∧(b23<H.length∨H_1.length≤b23)∧Grow H H_3∧H.length≤b23∧(0:Int)≤t17∧t17≤(((z1p scale).1).length:Int)∧(nb.length:Int)≤t17-(0:Int)+0∧(nb.length:Int)≤t17∧(((z1p scale).1).length:Int)-t17≤(μ:Int)∧z1j scale=za3 scale (μ+1) nb t17) (Int.toNat ((((z1p scale).1).length:Int)-(0:Int))) _ _ _ _ H_2 ?_ ?_
 ·exact ⟨_,_,rfl,ω4,rfl,o17,r_22,ω2,ω2,g20,ω2,ω3,ω3,ω3,ω3,ω2,e⟩
 ·intro μ sa ta ua t17  H_3 hI
  obtain ⟨nb,b23,rfl,rfl,rfl,o24,r_25,n26,n27,g28,l29,v30,v31,v32,v33,hμ,e⟩:=hI
  rw [z1a5]
  have e:=e.trans (zf8 scale μ nb t17)
  have w34:=o24.lt
  have l35:=g28.1
  refine Br.intro (fun c36=>?_) (fun c36=>?_)
  ·have e:=e.trans (zj c36)
   have c_36':=odt c36
   obtain ⟨b37,f38,q39⟩:=(r_25.isL).pos ω0
   refine ⟨by omega,by omega,b37,f38,q39,?_⟩
   refine ⟨((((z1p scale).1).getD (t17:Int).toNat (0,0))).1,((((z1p scale).1).getD (t17:Int).toNat (0,0))).2,(r_25.isL).rd (Grow.refl _) q39 ω2 _,?_⟩
   refine Al.intro (fun b40 H_4 hb_41 hl_42 g43 o44=>?_)
   have o44:Own H_4 b40 (([(((((z1p scale).1).getD (t17:Int).toNat (0,0))).1)]).map fF):=o44
   have l46:=g43.1
   have g47:=g28.trans g43
   have l48:=g47.1
   have o49:=o24.grow g43
   have w50:=o49.lt
   have r_51:=r_25.grow g43
   have w65:=o44.lt
   refine ⟨_,_,o49.ownB ω9 rfl,(zch (o44.isL ω4)),(fun h=>by cases h),ω40,?_⟩
   refine Ap.app o49 rfl rfl (fun b56 H_5 q63 hl_52 o53 k54=>?_)
   have o53:=z9t o53
   have l57:=k54.1
   have g58:=g47.keep (b:=b23) ω2 k54
   have l59:=g58.1
   have o60:=o44.keep ω2 k54
   have w61:=o60.lt
   have r62:=r_51.keep u10 ω2 k54
   have w64:=o53.lt
   rw [show IntKind.wrap .i64 (t17+1)=(t17+1) from zy ω2 ω2]
   refine z1a4 (μ-1) ω18 ⟨_,_,rfl,ω8,rfl,o53,r62,ω2,ω2,g58,ω2,ω1,ω1,ω1,ω1,ω18,ω19⟩
  ·have e:=e.trans (zi c36)
   have c_36':=odf c36
   rw [zzc]
   rw [e] at hk
   exact hk _ _ _ H_3 g28 (o24.ownS ω4 ω2)
theorem z12x:FnOk Try.prog 164 zld:=by
 refine FnOk.body mix_ok zne Try.func164 rfl ω5 ω5 ?_ ?_ ?_ ?_ ?_
 ·intro args H K K' h hk
  simp only [zld] at *
  unfold zsu at *
  split at hk
  ·obtain ⟨pr0,k⟩:=hk
   exact ⟨pr0,(fun za db cb H' gg ow0=>h _ _ (k za db cb H' gg ow0))⟩
  ·exact hk.elim
 ·intro hq;cases hq
 ·intro args H K hk
  simp only [zld] at *
  unfold zsu at *
  split at hk
  ·obtain ⟨pr0,k⟩:=hk
   exact zk5 fun a n e H1 g o=>⟨_,_,k a n e H1 g o⟩
  ·exact hk.elim
 ·intro _ args H K hk
  simp only [zld] at *
  unfold zsu at *
  split at hk
  ·obtain ⟨pr0,k⟩:=hk
   exact ⟨pr0,(fun za db cb H' gg ow0=>⟨gg,k za db cb H' gg ow0⟩)⟩
  ·exact hk.elim
 ·have mm:=@zzb
  have ml:=fun (args:List Value) (H:zd) (K:KT)=>zf (P:=Try.prog) (env:=zbf) (fn:=Try.f164) (args:=args) (H:=H) (K:=K) zne 
  revert mm ml
  generalize z1a Try.prog zbf Try.f164=Q
  generalize zk Try.prog zbf Try.f164=QL
  intro mm ml args H K hk
  simp only [zld] at *
  unfold zsu at *
  split at hk
  ·exact ml _ H K (mm _ H K hk)
  ·exact hk.elim

def z8d (aa:LN):Nat→Nat→Int→Nat
 | 0,_,_=>0
 | μ+1,sum,t8=>(bif decide ((t8:Int)<(aa.length:Int)) then (z8d aa μ (fadd .f32 sum (fmul .f32 (((aa).getD (t8:Int).toNat 0)) (((aa).getD (t8:Int).toNat 0)))) (t8+1)) else sum)
def zfh:=fun aa μ sum t8=>@z8d.eq_2 aa sum t8 μ
def zar (aa:LN):Nat:=(z8d aa (Int.toNat ((aa.length:Int)-(0:Int))+1) 0 (0:Int))
def zpg:=@zar.eq_1
def zu7 (ca:OA) (ba ga:Nat) (H:zd) (K:Nat→zd→Prop):Prop:=∃aa:LN,IsL fF H ca ba aa∧aa.length<1073741824∧K (zar aa) H
theorem zu8 {ca:OA} {ba ga:Nat} {H:zd} {K:Nat→zd→Prop} (h:∃aa:LN,IsL fF H ca ba aa∧aa.length<1073741824∧K (zar aa) H):zu7 ca ba ga H K:=h

def zbk:Env:=envOf []
def ztf:List Value→zd→(Value→zd→Prop)→Prop
 | [.slice ca ba ga],H,K=>zu7 ca ba ga H fun (r1:Nat) (H':zd)=>K (.float .f32 r1) H'
 | _,_,_=>False
def zlg:FSpec:={F:=ztf,quiet:=true,tame:=false}
theorem z1cj (ca:OA) (ba ga:Nat) (H:zd) (K:KT):zk Try.prog zbk Try.f108 [.slice ca ba ga] H K=
 (z1b (exL Try.prog zbk (cl (cl (cr (cl (cr (cr (zg Try.f108))))))) 456 4 [(0,8)]) (ud3 (.float .f32 0::ud2 (.slice ca ba ga::.int .i64 (ba:Int)::.int .i64 0::ud10 []))) H (zn 0 (seqQ (exL Try.prog zbk (cr (cr (cr (zg Try.f108)))) 4 4 []) (retK Try.prog Try.f108 K)))):=by kernel_rfl
abbrev zjy (ca:OA) (ga ba sum:Nat) (t8:Int)  :List Value:=(ud3 (.float .f32 sum::ud2 (.slice ca ba ga::.int .i64 (ba:Int)::.int .i64 t8::ud10 [])))
theorem z1ci (ca:OA) (ga ba sum:Nat) (t8:Int)  (H:zd) (R:Post):exL Try.prog zbk (cl (cl (cr (cl (cr (cr (zg Try.f108))))))) 456 4 [(0,8)] (zjy ca ga ba sum t8) H R=
 (Br (decide ((t8:Int)<(ba:Int))) ((0:Int)≤t8∧t8<(ba:Int)∧∃b1 f1,(ca:OA)=some ⟨b1,f1,none⟩∧∃x1:Nat,  rdC H b1 (f1+(t8:Int).toNat*1)=some (.float .f32 x1)∧R .normal (ud3 (.float .f32 (fadd .f32 sum (fmul .f32 x1 x1))::ud2 (.slice ca ba ga::.int .i64 (ba:Int)::.int .i64 (IntKind.wrap .i64 (t8+1))::ud10 []))) H) (R (.exit 0) (ud3 (.float .f32 sum::ud15 [])) H)):=by kernel_rfl
def zw6 (ca:OA) (ga ba:Nat) (Inv:Nat→Nat→Int→zd→Prop):Nat→List Value→zd→Prop:=fun μ tm H=>∃sum:Nat,∃t8:Int,tm=(zjy ca ga ba sum t8)∧Inv μ sum t8 H
theorem z1cg (ca:OA) (ga ba:Nat) {Q:Post} (Inv:Nat→Nat→Int→zd→Prop) (ν sum:Nat) (t8:Int)  (H:zd) (h0:Inv ν sum t8 H)
  (hs:∀(μ:Nat) (sum:Nat) (t8:Int)  (H:zd),Inv μ sum t8 H→exL Try.prog zbk (cl (cl (cr (cl (cr (cr (zg Try.f108))))))) 456 4 [(0,8)] (zjy ca ga ba sum t8) H (zp (zw6 ca ga ba Inv) μ Q)):z1b (exL Try.prog zbk (cl (cl (cr (cl (cr (cr (zg Try.f108))))))) 456 4 [(0,8)]) (zjy ca ga ba sum t8) H Q:=
 ⟨zw6 ca ga ba Inv,ν,⟨sum,t8,rfl,h0⟩,fun μ tm H h=>by obtain ⟨sum,t8,rfl,hI⟩:=h;exact hs μ sum t8  H hI⟩
theorem z1ch {ca:OA} {ga ba:Nat} {Q:Post} {Inv:Nat→Nat→Int→zd→Prop} {μ:Nat} (μ':Nat) {sum:Nat} {t8:Int}  {H:zd} (hm:μ'<μ) (hI:Inv μ' sum t8 H):zp (zw6 ca ga ba Inv) μ Q .normal (zjy ca ga ba sum t8) H:=⟨μ',hm,sum,t8,rfl,hI⟩
theorem z10s (sum:Nat) (H:zd) (K:KT)  {I:Nat→List Value→zd→Prop} {μ:Nat}:zp I μ (zn 0 (seqQ (exL Try.prog zbk (cr (cr (cr (zg Try.f108)))) 4 4 []) (retK Try.prog Try.f108 K))) (.exit 0) (ud3 (.float .f32 sum::ud15 [])) H=
 (K (.float .f32 sum) H):=by kernel_rfl
theorem znz:∀g,FnOk Try.prog g (zbk g):=FnOk.envOf (by
 intro x hx;cases hx)
theorem z10r (ca:OA) (ba ga:Nat) (H:zd) (K:KT) (h:zu7 ca ba ga H fun (r1:Nat) (H':zd)=>K (.float .f32 r1) H'):zk Try.prog zbk Try.f108 [.slice ca ba ga] H K:=by
 rw [z1cj]
 obtain ⟨aa,i_list,bd_8,hk⟩:=h
 obtain rfl:=i_list.eqn
 have e:(zar aa)=_:=rfl
 have e:=e.trans (zpg aa)
 have g0:=Grow.refl H
 refine z1cg _ _ _ (fun (μ:Nat) (sum:Nat) (t8:Int) (H_1:zd)=>H=H_1∧(0:Int)≤t8∧t8≤(aa.length:Int)∧(aa.length:Int)-t8≤(μ:Int)∧zar aa=z8d aa (μ+1) sum t8) (Int.toNat ((aa.length:Int)-(0:Int))) _ _ H ?_ ?_
 ·exact ⟨rfl,ω3,ω3,ω2,e⟩
 ·intro μ sum t8  H_1 hI
  obtain ⟨rfl,v_1,v_2,hμ,e⟩:=hI
  rw [z1ci]
  have e:=e.trans (zfh aa μ sum t8)
  have l3:=g0.1
  refine Br.intro (fun c_4=>?_) (fun c_4=>?_)
  ·have e:=e.trans (zj c_4)
   have c_4':=odt c_4
   obtain ⟨b_5,f6,q_7⟩:=((i_list.grow g0)).pos ω0
   refine ⟨by omega,by omega,b_5,f6,q_7,?_⟩
   refine ⟨((aa).getD (t8:Int).toNat 0),(i_list).rd g0 q_7 ω2 _,?_⟩
   rw [show IntKind.wrap .i64 (t8+1)=(t8+1) from zy ω2 ω2]
   refine z1ch (μ-1) ω18 ⟨rfl,ω1,ω1,ω18,ω19⟩
  ·have e:=e.trans (zi c_4)
   have c_4':=odf c_4
   rw [z10s]
   rw [e] at hk
   exact hk
theorem z13a:FnOk Try.prog 108 zlg:=by
 refine FnOk.body mix_ok znz Try.func108 rfl ω5 ω5 ?_ ?_ ?_ ?_ ?_
 ·intro args H K K' h hk
  simp only [zlg] at *
  unfold ztf at *
  split at hk
  ·obtain ⟨aa,i_list,bd_8,k⟩:=hk
   exact ⟨aa,i_list,bd_8,h _ _ k⟩
  ·exact hk.elim
 ·intro _ args H K hk
  simp only [zlg] at *
  unfold ztf at *
  split at hk
  ·obtain ⟨aa,i_list,bd_8,k⟩:=hk
   exact ⟨_,k,fun K' k'=>⟨aa,i_list,bd_8,k'⟩⟩
  ·exact hk.elim
 ·intro args H K hk
  simp only [zlg] at *
  unfold ztf at *
  split at hk
  ·obtain ⟨aa,i_list,bd_8,k⟩:=hk
   exact ⟨_,_,k⟩
  ·exact hk.elim
 ·intro hq;cases hq
 ·have mm:=@z10r
  have ml:=fun (args:List Value) (H:zd) (K:KT)=>zf (P:=Try.prog) (env:=zbk) (fn:=Try.f108) (args:=args) (H:=H) (K:=K) znz 
  revert mm ml
  generalize z1a Try.prog zbk Try.f108=Q
  generalize zk Try.prog zbk Try.f108=QL
  intro mm ml args H K hk
  simp only [zlg] at *
  unfold ztf at *
  split at hk
  ·exact ml _ H K (mm _ _ _ H K hk)
  ·exact hk.elim
def z9g (x:Nat):Nat:=zdi .f64 x
def z8y (x:Nat) (H:zd) (K:Nat→zd→Prop):Prop:=K (z9g x) H
def zc1:List Value→zd→(Value→zd→Prop)→Prop
 | [.float .f64 x],H,K=>z8y x H fun r1 H'=>K (.float .f64 r1) H'
 | _,_,_=>False
def z8x:FSpec:={F:=zc1,quiet:=true}
theorem zkb:FnOk Try.prog 207 z8x:=by
 refine FnOk.ext1 (f:=z9g) (e:=Extern.MathSqrt.sqrt) rfl ?_ (fun x H K h=>h) Try.func207 ω5 ω5 ω5 ω5 (fun b w=>zz4 b w)
 intro args H K h
 simp only [z8x] at h
 unfold zc1 at h
 split at h
 ·exact ⟨_,rfl,h⟩
 ·exact h.elim

def zp4 (x:Nat):Nat:=(z9g x)
def ziz (x:Nat) (H:zd) (K:Nat→zd→Prop):Prop:=K (zp4 x) H

theorem zya {x:Nat} {H:zd} {K:Nat→zd→Prop} (h:K (zp4 x) H):ziz x H K:=h
def ze6:Env:=envOf [(207,z8x)]
def zig:List Value→zd→(Value→zd→Prop)→Prop
 | [.float .f64 x],H,K=>ziz x H fun (r1:Nat) (H':zd)=>K (.float .f64 r1) H'
 | _,_,_=>False
def zeo:FSpec:={F:=zig,quiet:=true,tame:=false}
theorem z15q (x:Nat) (H:zd) (K:KT):zk Try.prog ze6 Try.f184 [.float .f64 x] H K=
 (z8y x H fun (r1:Nat) (H1:zd)=>K (.float .f64 r1) H1):=by kernel_rfl
theorem zhu:∀g,FnOk Try.prog g (ze6 g):=FnOk.envOf (by
 intro x hx
 simp only [List.mem_cons,List.not_mem_nil,or_false] at hx
 subst hx;exact zkb)
theorem zv2 (x:Nat) (H:zd) (K:KT) (h:ziz x H fun (r1:Nat) (H':zd)=>K (.float .f64 r1) H'):zk Try.prog ze6 Try.f184 [.float .f64 x] H K:=by
 rw [z15q]
 simp only [z8y]
 unfold ziz zp4 at h
 repeat' (first | exact h | (exfalso;simp_all;done) | (refine ⟨by decide,?_⟩) | (refine Br.intro (fun hb=>?_) (fun hb=>?_)<;>(try simp only [hb,cond_true,cond_false,Bool.not_true,Bool.not_false] at h)))
theorem z15p:FnOk Try.prog 184 zeo:=by
 refine FnOk.body mix_ok zhu Try.func184 rfl ω5 ω5 ?_ ?_ ?_ ?_ ?_
 ·intro args H K K' h hk
  simp only [zeo] at *
  unfold zig at *
  split at hk
  ·have k:=hk
   exact h _ _ k
  ·exact hk.elim
 ·intro _ args H K hk
  simp only [zeo] at *
  unfold zig at *
  split at hk
  ·have k:=hk
   exact ⟨_,k,fun K' k'=>k'⟩
  ·exact hk.elim
 ·intro args H K hk
  simp only [zeo] at *
  unfold zig at *
  split at hk
  ·have k:=hk
   exact ⟨_,_,k⟩
  ·exact hk.elim
 ·intro hq;cases hq
 ·have mm:=@zv2
  have ml:=fun (args:List Value) (H:zd) (K:KT)=>zf (P:=Try.prog) (env:=ze6) (fn:=Try.f184) (args:=args) (H:=H) (K:=K) zhu 
  revert mm ml
  generalize z1a Try.prog ze6 Try.f184=Q
  generalize zk Try.prog ze6 Try.f184=QL
  intro mm ml args H K hk
  simp only [zeo] at *
  unfold zig at *
  split at hk
  ·exact ml _ H K (mm _ H K hk)
  ·exact hk.elim

def zko (x:Nat):Nat:=((zl ((zp4 (zh x)))).getD 0)
def z11m:=@zko.eq_1
def ztt (x:Nat) (H:zd) (K:Nat→zd→Prop):Prop:=K (zko x) H
theorem z13o {x:Nat} {H:zd} {K:Nat→zd→Prop} (h:K (zko x) H):ztt x H K:=h

def zq4:Env:=envOf [(184,zeo)]
def zsq:List Value→zd→(Value→zd→Prop)→Prop
 | [.float .f32 x],H,K=>ztt x H fun (r1:Nat) (H':zd)=>K (.float .f32 r1) H'
 | _,_,_=>False
def zqn:FSpec:={F:=zsq,quiet:=true,tame:=false}
theorem f8z_vc (x:Nat) (H:zd) (K:KT):zk Try.prog zq4 Try.f145 [.float .f32 x] H K=
 (ziz (zh x) H fun (r1:Nat) (H1:zd)=>∃x1:Nat,zl r1=some x1∧K (.float .f32 x1) H1):=by kernel_rfl
theorem zna:∀g,FnOk Try.prog g (zq4 g):=FnOk.envOf (by
 intro x hx
 simp only [List.mem_cons,List.not_mem_nil,or_false] at hx
 subst hx;exact z15p)
theorem f8z_main (x:Nat) (H:zd) (K:KT) (h:ztt x H fun (r1:Nat) (H':zd)=>K (.float .f32 r1) H'):zk Try.prog zq4 Try.f145 [.float .f32 x] H K:=by
 rw [f8z_vc]
 have hk:=h
 unfold ztt at hk
 have e:(zko x)=_:=rfl
 have e:=e.trans (z11m x)
 have g0:=Grow.refl H
 refine zya ?_
 refine ⟨_,z2c (d:=0) (by exact z12e _),?_⟩
 rw [e] at hk
 exact hk
theorem f8z_ok:FnOk Try.prog 145 zqn:=by
 refine FnOk.body mix_ok zna Try.func145 rfl ω5 ω5 ?_ ?_ ?_ ?_ ?_
 ·intro args H K K' h hk
  simp only [zqn] at *
  unfold zsq at *
  split at hk
  ·have k:=hk
   exact h _ _ k
  ·exact hk.elim
 ·intro _ args H K hk
  simp only [zqn] at *
  unfold zsq at *
  split at hk
  ·have k:=hk
   exact ⟨_,k,fun K' k'=>k'⟩
  ·exact hk.elim
 ·intro args H K hk
  simp only [zqn] at *
  unfold zsq at *
  split at hk
  ·have k:=hk
   exact ⟨_,_,k⟩
  ·exact hk.elim
 ·intro hq;cases hq
 ·have mm:=@f8z_main
  have ml:=fun (args:List Value) (H:zd) (K:KT)=>zf (P:=Try.prog) (env:=zq4) (fn:=Try.f145) (args:=args) (H:=H) (K:=K) zna 
  revert mm ml
  generalize z1a Try.prog zq4 Try.f145=Q
  generalize zk Try.prog zq4 Try.f145=QL
  intro mm ml args H K hk
  simp only [zqn] at *
  unfold zsq at *
  split at hk
  ·exact ml _ H K (mm _ H K hk)
  ·exact hk.elim

def z4n (aa:LN) (r count place:Int) (size:Nat) (t21:Int) (y1_1:LN) (k2_2:Int→LN→LN):Nat→Int→LN→LN
 | 0,_,_=>[]
 | μ2+1,t50,y2_1=>(bif decide ((t50:Int)<((count).toNat:Int)) then (z4n aa r count place size t21 y1_1 k2_2 μ2 (t50+1) (((y2_1).set (t50:Int).toNat ((fmul .f32 (fdiv .f32 (((y2_1).getD (t50:Int).toNat 0)) ((zko (zar y1_1)))) size))))) else (k2_2 t50 y2_1))
def z4o:=fun aa r count place size t21 y1_1 k2_2 μ2 t50 y2_1=>@z4n.eq_2 aa r count place size t21 y1_1 k2_2 t50 y2_1 μ2
def z2v (aa:LN) (r count place:Int) (size:Nat):Nat→Int→LN→LN
 | 0,_,_=>[]
 | μ+1,t21,y1_1=>(bif decide ((t21:Int)<((count).toNat:Int)) then (bif decide ((0:Int)≤((t21-place)+r)) then (bif decide ((((t21-place)+r):Int)<(aa.length:Int)) then (z2v aa r count place size μ (t21+1) (((y1_1).set (t21:Int).toNat ((((aa).getD (((t21-place)+r):Int).toNat 0)))))) else (z2v aa r count place size μ (t21+1) y1_1)) else (z2v aa r count place size μ (t21+1) y1_1)) else (z4n aa r count place size t21 y1_1 (fun (t50:Int) (y2_1:LN)=>y2_1) (Int.toNat (((count).toNat:Int)-(0:Int))+1) (0:Int) y1_1))
def z4m:=fun aa r count place size μ t21 y1_1=>@z2v.eq_2 aa r count place size t21 y1_1 μ
def z2o (aa:LN) (r count place:Int) (size:Nat):LN:=(z2v aa r count place size (Int.toNat (((count).toNat:Int)-(0:Int))+1) (0:Int) (List.replicate ((count).toNat) 0))
def za0:=@z2o.eq_1
def zit (ca:OA) (ba ga:Nat) (r count place:Int) (size:Nat) (H:zd) (K:OA→Nat→Nat→zd→Prop):Prop:=∃aa:LN,IsL fF H ca ba aa∧aa.length<1073741824∧0≤count∧count≤1000∧0≤place∧place≤1000∧-256≤r∧r≤256∧((∀(za:OA) (db cb:Nat),∀H':zd,Grow H H'→OwnS fF H' H.length za db cb (z2o aa r count place size)→K za db cb H'))
theorem zo7 {ca:OA} {ba ga:Nat} {r count place:Int} {size:Nat} {H:zd} {K:OA→Nat→Nat→zd→Prop} (h:∃aa:LN,IsL fF H ca ba aa∧aa.length<1073741824∧0≤count∧count≤1000∧0≤place∧place≤1000∧-256≤r∧r≤256∧((∀(za:OA) (db cb:Nat),∀H':zd,Grow H H'→OwnS fF H' H.length za db cb (z2o aa r count place size)→K za db cb H'))):zit ca ba ga r count place size H K:=h
theorem f16z_l2_len (l:LN) (r c p:Int) (z:Nat) (t:Int) (y1:LN):∀(μ:Nat) (i:Int) (y:LN),(z4n l r c p z t y1 (fun (t50:Int) (y2_1:LN)=>y2_1) μ i y).length≤y.length:=by
 intro μ
 induction μ with
 | zero=>intro i y;exact Nat.zero_le _
 | succ μ ih=>
  intro i y
  rw [z4o]
  cases decide (i<((c).toNat:Int))
  ·exact Nat.le_refl _
  ·exact Nat.le_trans (ih _ _) (by rw [List.length_set];exact Nat.le_refl _)
theorem f16z_l1_len (l:LN) (r c p:Int) (z:Nat):∀(μ:Nat) (i:Int) (y:LN),(z2v l r c p z μ i y).length≤y.length:=by
 intro μ
 induction μ with
 | zero=>intro i y;exact Nat.zero_le _
 | succ μ ih=>
  intro i y
  rw [z4m]
  cases decide (i<((c).toNat:Int))
  ·exact f16z_l2_len _ _ _ _ _ _ _ _ _ _
  ·simp only [cond_true]
   refine cnb (P:=fun r:LN=>r.length≤y.length) (fun h=>?_) (fun h=>ih _ _)
   refine cnb (P:=fun r:LN=>r.length≤y.length) (fun h=>?_) (fun h=>ih _ _)
   refine Nat.le_trans (ih _ _) ?_;rw [List.length_set];exact Nat.le_refl _
theorem f16z_len (l:LN) (r c p:Int) (z:Nat):(z2o l r c p z).length≤c.toNat:=by
 rw [za0]
 exact Nat.le_trans (f16z_l1_len _ _ _ _ _ _ _ _) (by rw [List.length_replicate];exact Nat.le_refl _)
theorem f16z_l2_full (l:LN) (r c p:Int) (z:Nat) (t:Int) (y1:LN):∀(μ:Nat) (i:Int) (y:LN),(((c).toNat:Int)-i).toNat<μ→(z4n l r c p z t y1 (fun (t50:Int) (y2_1:LN)=>y2_1) μ i y).length=y.length:=by
 intro μ
 induction μ with
 | zero=>intro i y h;omega
 | succ μ ih=>
  intro i y h
  rw [z4o]
  by_cases hi:i<((c).toNat:Int)
  ·rw [dct hi,cond_true,ih _ _ ω2,List.length_set]
  ·rw [dcf hi,cond_false]
theorem f16z_l1_full (l:LN) (r c p:Int) (z:Nat):∀(μ:Nat) (i:Int) (y:LN),(((c).toNat:Int)-i).toNat<μ→(z2v l r c p z μ i y).length=y.length:=by
 intro μ
 induction μ with
 | zero=>intro i y h;omega
 | succ μ ih=>
  intro i y h
  rw [z4m]
  by_cases hi:i<((c).toNat:Int)
  ·rw [dct hi,cond_true]
   refine cnb (P:=fun r:LN=>r.length=y.length) (fun h2=>?_) (fun h2=>ih _ _ ω2)
   refine cnb (P:=fun r:LN=>r.length=y.length) (fun h3=>?_) (fun h3=>ih _ _ ω2)
   rw [ih _ _ ω2,List.length_set]
  ·rw [dcf hi,cond_false]
   exact f16z_l2_full _ _ _ _ _ _ _ _ _ _ ω2
theorem f16z_full (l:LN) (r c p:Int) (z:Nat):(z2o l r c p z).length=c.toNat:=by
 rw [za0,f16z_l1_full _ _ _ _ _ _ _ _ ω2,List.length_replicate]
def z3f:Env:=envOf [(108,zlg),(145,zqn)]
def zi2:List Value→zd→(Value→zd→Prop)→Prop
 | [.slice ca ba ga,.int .i64 r,.int .i64 count,.int .i64 place,.float .f32 size],H,K=>zit ca ba ga r count place size H fun (za:OA) (db:Nat) (cb:Nat) (H':zd)=>K (.slice za db cb) H'
 | _,_,_=>False
def zc2:FSpec:={F:=zi2,quiet:=false,tame:=true}
theorem f16z_vc (ca:OA) (ba ga:Nat) (r count place:Int) (size:Nat) (H:zd) (K:KT):zk Try.prog z3f Try.f165 [.slice ca ba ga,.int .i64 r,.int .i64 count,.int .i64 place,.float .f32 size] H K=
 ((0:Int)≤count∧count=count∧count<(most:Int)∧Al (z2k (.float .f32 0) (count).toNat) H fun b1 H1=>z1b (exL Try.prog z3f (cl (cl (cr (cl (cr (cr (zg Try.f165))))))) 3147803 1024 [(0,2064)]) (.slice ca ba ga::.int .i64 r::ud::.int .i64 place::.float .f32 size::ud6 (.slice (some ⟨b1,0,none⟩) ((count).toNat) 1::ud8 (.int .i64 (((count).toNat:Int))::.int .i64 0::ud43 []))) H1 (zn 0 (seqQ (exL Try.prog z3f (cr (cr (cr (zg Try.f165)))) 1024 1024 []) (retK Try.prog Try.f165 K)))):=by kernel_rfl
abbrev f16z_P1 (b1:Nat) (count:Int) (ca:OA) (ga ba:Nat) (place r:Int) (size:Nat) (t21:Int)  :List Value:=(.slice ca ba ga::.int .i64 r::ud::.int .i64 place::.float .f32 size::ud6 (.slice (some ⟨b1,0,none⟩) ((count).toNat) 1::ud8 (.int .i64 (((count).toNat:Int))::.int .i64 t21::ud43 [])))
theorem f16z_r1 (b1:Nat) (count:Int) (ca:OA) (ga ba:Nat) (place r:Int) (size:Nat) (t21:Int)  (H:zd) (R:Post):exL Try.prog z3f (cl (cl (cr (cl (cr (cr (zg Try.f165))))))) 3147803 1024 [(0,2064)] (f16z_P1 b1 count ca ga ba place r size t21) H R=
 (Br (decide ((t21:Int)<((count).toNat:Int))) (Br (decide ((0:Int)≤IntKind.wrap .i64 ((IntKind.wrap .i64 (t21-place))+r))) (Br (decide ((IntKind.wrap .i64 ((IntKind.wrap .i64 (t21-place))+r):Int)<(ba:Int))) ((0:Int)≤IntKind.wrap .i64 ((IntKind.wrap .i64 (t21-place))+r)∧IntKind.wrap .i64 ((IntKind.wrap .i64 (t21-place))+r)<(ba:Int)∧∃b2 f1,(ca:OA)=some ⟨b2,f1,none⟩∧∃x1:Nat,  rdC H b2 (f1+(IntKind.wrap .i64 ((IntKind.wrap .i64 (t21-place))+r):Int).toNat*1)=some (.float .f32 x1)∧(0:Int)≤t21∧t21<((count).toNat:Int)∧∃b3 f2,(some ⟨b1,0,none⟩:OA)=some ⟨b3,f2,none⟩∧isOwn H b3∧(∃l,rdN H b3 (f2+(t21:Int).toNat*1) 1=some l)∧Lt (setC H b3 (f2+(t21:Int).toNat*1) (.float .f32 x1)) fun H2=>R .normal (.slice ca ba ga::.int .i64 r::ud::.int .i64 place::.float .f32 size::ud6 (.slice (some ⟨b1,0,none⟩) ((count).toNat) 1::ud8 (.int .i64 (((count).toNat:Int))::.int .i64 (IntKind.wrap .i64 (t21+1))::ud43 []))) H2) (R .normal (.slice ca ba ga::.int .i64 r::ud::.int .i64 place::.float .f32 size::ud6 (.slice (some ⟨b1,0,none⟩) ((count).toNat) 1::ud8 (.int .i64 (((count).toNat:Int))::.int .i64 (IntKind.wrap .i64 (t21+1))::ud43 []))) H)) (R .normal (.slice ca ba ga::.int .i64 r::ud::.int .i64 place::.float .f32 size::ud6 (.slice (some ⟨b1,0,none⟩) ((count).toNat) 1::ud8 (.int .i64 (((count).toNat:Int))::.int .i64 (IntKind.wrap .i64 (t21+1))::ud43 []))) H)) (R (.exit 0) (ud4 (.float .f32 size::ud6 (.slice (some ⟨b1,0,none⟩) ((count).toNat) 1::ud53 []))) H)):=by kernel_rfl
def f16z_I1 (b1:Nat) (count:Int) (ca:OA) (ga ba:Nat) (place r:Int) (size:Nat) (Inv:Nat→Int→zd→Prop):Nat→List Value→zd→Prop:=fun μ tm H=>∃t21:Int,tm=(f16z_P1 b1 count ca ga ba place r size t21)∧Inv μ t21 H
theorem f16z_L1 (b1:Nat) (count:Int) (ca:OA) (ga ba:Nat) (place r:Int) (size:Nat) {Q:Post} (Inv:Nat→Int→zd→Prop) (ν:Nat) (t21:Int)  (H:zd) (h0:Inv ν t21 H)
  (hs:∀(μ:Nat) (t21:Int)  (H:zd),Inv μ t21 H→exL Try.prog z3f (cl (cl (cr (cl (cr (cr (zg Try.f165))))))) 3147803 1024 [(0,2064)] (f16z_P1 b1 count ca ga ba place r size t21) H (zp (f16z_I1 b1 count ca ga ba place r size Inv) μ Q)):z1b (exL Try.prog z3f (cl (cl (cr (cl (cr (cr (zg Try.f165))))))) 3147803 1024 [(0,2064)]) (f16z_P1 b1 count ca ga ba place r size t21) H Q:=
 ⟨f16z_I1 b1 count ca ga ba place r size Inv,ν,⟨t21,rfl,h0⟩,fun μ tm H h=>by obtain ⟨t21,rfl,hI⟩:=h;exact hs μ t21  H hI⟩
theorem f16z_n1 {b1:Nat} {count:Int} {ca:OA} {ga ba:Nat} {place r:Int} {size:Nat} {Q:Post} {Inv:Nat→Int→zd→Prop} {μ:Nat} (μ':Nat) {t21:Int}  {H:zd} (hm:μ'<μ) (hI:Inv μ' t21 H):zp (f16z_I1 b1 count ca ga ba place r size Inv) μ Q .normal (f16z_P1 b1 count ca ga ba place r size t21) H:=⟨μ',hm,t21,rfl,hI⟩
theorem f16z_x1_0 (b1:Nat) (count:Int) (size:Nat) (H:zd) (K:KT)  {I:Nat→List Value→zd→Prop} {μ:Nat}:zp I μ (zn 0 (seqQ (exL Try.prog z3f (cr (cr (cr (zg Try.f165)))) 1024 1024 []) (retK Try.prog Try.f165 K))) (.exit 0) (ud4 (.float .f32 size::ud6 (.slice (some ⟨b1,0,none⟩) ((count).toNat) 1::ud53 []))) H=
 (zu7 (some ⟨b1,0,none⟩) ((count).toNat) 1 H fun (r1:Nat) (H3:zd)=>ztt r1 H3 fun (r2:Nat) (H4:zd)=>z1b (exL Try.prog z3f (cl (cl (cr (cl (cr (cr (cr (cr (zg Try.f165))))))))) 1970324836993040 1024 [(2,2048)]) (ud4 (.float .f32 size::ud6 (.slice (some ⟨b1,0,none⟩) ((count).toNat) 1::ud2 (.float .f32 r2::ud33 (.slice (some ⟨b1,0,none⟩) ((count).toNat) 1::.int .i64 (((count).toNat:Int))::.int .i64 0::ud14 []))))) H4 (zn 2 (seqQ (exL Try.prog z3f (cr (cr (cr (cr (cr (zg Try.f165)))))) 1024 1024 []) (retK Try.prog Try.f165 K)))):=by kernel_rfl
abbrev f16z_P2 (b1:Nat) (count:Int) (r2 size:Nat) (t50:Int)  :List Value:=(ud4 (.float .f32 size::ud6 (.slice (some ⟨b1,0,none⟩) ((count).toNat) 1::ud2 (.float .f32 r2::ud33 (.slice (some ⟨b1,0,none⟩) ((count).toNat) 1::.int .i64 (((count).toNat:Int))::.int .i64 t50::ud14 [])))))
theorem f16z_r2 (b1:Nat) (count:Int) (r2 size:Nat) (t50:Int)  (H:zd) (R:Post):exL Try.prog z3f (cl (cl (cr (cl (cr (cr (cr (cr (zg Try.f165))))))))) 1970324836993040 1024 [(2,2048)] (f16z_P2 b1 count r2 size t50) H R=
 (Br (decide ((t50:Int)<((count).toNat:Int))) ((0:Int)≤t50∧t50<((count).toNat:Int)∧∃b4 f3,(some ⟨b1,0,none⟩:OA)=some ⟨b4,f3,none⟩∧∃x2:Nat,  rdC H b4 (f3+(t50:Int).toNat*1)=some (.float .f32 x2)∧(0:Int)≤t50∧t50<((count).toNat:Int)∧∃b5 f4,(some ⟨b1,0,none⟩:OA)=some ⟨b5,f4,none⟩∧isOwn H b5∧(∃l,rdN H b5 (f4+(t50:Int).toNat*1) 1=some l)∧Lt (setC H b5 (f4+(t50:Int).toNat*1) (.float .f32 (fmul .f32 (fdiv .f32 x2 r2) size))) fun H5=>R .normal (ud4 (.float .f32 size::ud6 (.slice (some ⟨b1,0,none⟩) ((count).toNat) 1::ud2 (.float .f32 r2::ud33 (.slice (some ⟨b1,0,none⟩) ((count).toNat) 1::.int .i64 (((count).toNat:Int))::.int .i64 (IntKind.wrap .i64 (t50+1))::ud14 []))))) H5) (R (.exit 2) (ud11 (.slice (some ⟨b1,0,none⟩) ((count).toNat) 1::ud53 [])) H)):=by kernel_rfl
def f16z_I2 (b1:Nat) (count:Int) (r2 size:Nat) (Inv:Nat→Int→zd→Prop):Nat→List Value→zd→Prop:=fun μ tm H=>∃t50:Int,tm=(f16z_P2 b1 count r2 size t50)∧Inv μ t50 H
theorem f16z_L2 (b1:Nat) (count:Int) (r2 size:Nat) {Q:Post} (Inv:Nat→Int→zd→Prop) (ν:Nat) (t50:Int)  (H:zd) (h0:Inv ν t50 H)
  (hs:∀(μ:Nat) (t50:Int)  (H:zd),Inv μ t50 H→exL Try.prog z3f (cl (cl (cr (cl (cr (cr (cr (cr (zg Try.f165))))))))) 1970324836993040 1024 [(2,2048)] (f16z_P2 b1 count r2 size t50) H (zp (f16z_I2 b1 count r2 size Inv) μ Q)):z1b (exL Try.prog z3f (cl (cl (cr (cl (cr (cr (cr (cr (zg Try.f165))))))))) 1970324836993040 1024 [(2,2048)]) (f16z_P2 b1 count r2 size t50) H Q:=
 ⟨f16z_I2 b1 count r2 size Inv,ν,⟨t50,rfl,h0⟩,fun μ tm H h=>by obtain ⟨t50,rfl,hI⟩:=h;exact hs μ t50  H hI⟩
theorem f16z_n2 {b1:Nat} {count:Int} {r2 size:Nat} {Q:Post} {Inv:Nat→Int→zd→Prop} {μ:Nat} (μ':Nat) {t50:Int}  {H:zd} (hm:μ'<μ) (hI:Inv μ' t50 H):zp (f16z_I2 b1 count r2 size Inv) μ Q .normal (f16z_P2 b1 count r2 size t50) H:=⟨μ',hm,t50,rfl,hI⟩
theorem f16z_x2_2 (b1:Nat) (count:Int) (H:zd) (K:KT)  {I:Nat→List Value→zd→Prop} {μ:Nat}:zp I μ (zn 2 (seqQ (exL Try.prog z3f (cr (cr (cr (cr (cr (zg Try.f165)))))) 1024 1024 []) (retK Try.prog Try.f165 K))) (.exit 2) (ud11 (.slice (some ⟨b1,0,none⟩) ((count).toNat) 1::ud53 [])) H=
 (K (.slice (some ⟨b1,0,none⟩) ((count).toNat) 1) H):=by kernel_rfl
theorem zhg:∀g,FnOk Try.prog g (z3f g):=FnOk.envOf (by
 intro x hx
 simp only [List.mem_cons,List.not_mem_nil,or_false] at hx
 rcases hx with rfl | rfl
 ·exact z13a
 ·exact f8z_ok)
theorem ω41 {P:Prop} (h:P:=by first | rfl | assumption | omega | (simp;done)):P:=h
theorem ω14 {P:Prop} (h:P:=by simp only [List.length_map];(first | omega | (simp only [List.length_set,List.length_replicate,List.length_append,List.length_cons,List.length_nil,List.length_take,List.length_drop,z5b];done) | (simp only [List.length_set,List.length_replicate,List.length_append,List.length_cons,List.length_nil,List.length_take,List.length_drop,z5b];omega))):P:=h
theorem ω25 {P:Prop} (h:P:=by first | assumption | omega | (simp only [List.length_set];first | rfl | assumption | omega)):P:=h
theorem ω34 {P:Prop} (h:P:=by first | (simp only [List.length_replicate];done) | omega | (simp;omega)):P:=h
theorem f16z_main (ca:OA) (ba ga:Nat) (r count place:Int) (size:Nat) (H:zd) (K:KT) (h:zit ca ba ga r count place size H fun (za:OA) (db:Nat) (cb:Nat) (H':zd)=>K (.slice za db cb) H'):zk Try.prog z3f Try.f165 [.slice ca ba ga,.int .i64 r,.int .i64 count,.int .i64 place,.float .f32 size] H K:=by
 rw [f16z_vc]
 obtain ⟨aa,i_list,bd_46,pr0,pr1,pr2,pr3,pr4,pr5,hk⟩:=h
 obtain rfl:=i_list.eqn
 have e:(z2o aa r count place size)=_:=rfl
 have e:=e.trans (za0 aa r count place size)
 have g0:=Grow.refl H
 refine ⟨by omega,rfl,ω40,?_⟩
 refine Al.intro (fun b_1 H_1 hb_2 hl_3 g_4 o5=>?_)
 rw [zl9 fF 0 _ rfl] at o5
 have l_7:=g_4.1
 have g8:=g0.trans g_4
 have l_9:=g8.1
 have w45:=o5.lt
 refine f16z_L1 _ _ _ _ _ _ _ _ (fun (μ:Nat) (t21:Int) (H_2:zd)=>∃y1_1:LN,Own H_2 b_1 (y1_1.map fF)∧y1_1.length=(count).toNat∧Grow H H_2∧(0:Int)≤t21∧((t21≤((count).toNat:Int)∨t21≤(0:Int)))∧((count).toNat:Int)-t21≤(μ:Int)∧z2o aa r count place size=z2v aa r count place size (μ+1) t21 y1_1) (Int.toNat (((count).toNat:Int)-(0:Int))) _ H_1 ?_ ?_
 ·exact ⟨_,o5,ω41,g8,ω3,ω3,ω2,e⟩
 ·intro μ t21  H_2 hI
  obtain ⟨y1_1,o10,y11,g12,v13,v14,hμ,e⟩:=hI
  rw [f16z_r1]
  have e:=e.trans (z4m aa r count place size μ t21 y1_1)
  have w15:=o10.lt
  have l16:=g12.1
  refine Br.intro (fun c_17=>?_) (fun c_17=>?_)
  ·have e:=e.trans (zj c_17)
   have c_17':=odt c_17
   rw [show IntKind.wrap .i64 (t21-place)=(t21-place) from zy ω2 ω2]
   rw [show IntKind.wrap .i64 ((t21-place)+r)=((t21-place)+r) from zy ω2 ω2]
   refine Br.intro (fun c_18=>?_) (fun c_18=>?_)
   ·have e:=e.trans (zj c_18)
    have c_18':=odt c_18
    refine Br.intro (fun c_19=>?_) (fun c_19=>?_)
    ·have e:=e.trans (zj c_19)
     have c_19':=odt c_19
     obtain ⟨b20,f21,q22⟩:=((i_list.grow g12)).pos ω0
     refine ⟨by omega,by omega,b20,f21,q22,?_⟩
     refine ⟨((aa).getD (((t21-place)+r):Int).toNat 0),(i_list).rd g12 q22 ω2 _,?_⟩
     refine ⟨by omega,ω2,_,_,rfl,?_⟩
     refine Lt.set o10 ω14 (fun H_3 hl_23 o25 k24=>?_)
     have o25:=map_set o25
     have l26:=k24.1
     have g27:=g12.keep (b:=b_1) ω2 k24
     have l28:=g27.1
     have w29:=o25.lt
     rw [show IntKind.wrap .i64 (t21+1)=(t21+1) from zy ω2 ω2]
     refine f16z_n1 (μ-1) ω18 ⟨_,o25,ω25,g27,ω1,ω1,ω18,ω19⟩
    ·have e:=e.trans (zi c_19)
     have c_19':=odf c_19
     rw [show IntKind.wrap .i64 (t21+1)=(t21+1) from zy ω2 ω2]
     refine f16z_n1 (μ-1) ω18 ⟨_,o10,ω25,g12,ω1,ω1,ω18,ω19⟩
   ·have e:=e.trans (zi c_18)
    have c_18':=odf c_18
    rw [show IntKind.wrap .i64 (t21+1)=(t21+1) from zy ω2 ω2]
    refine f16z_n1 (μ-1) ω18 ⟨_,o10,ω25,g12,ω1,ω1,ω18,ω19⟩
  ·have e:=e.trans (zi c_17)
   have c_17':=odf c_17
   rw [f16z_x1_0]
   refine zu8 ⟨_,(o10.isL ω34),ω0,?_⟩
   refine z13o ?_
   refine f16z_L2 _ _ _ _ (fun (μ2:Nat) (t50:Int) (H_4:zd)=>∃y2_1:LN,Own H_4 b_1 (y2_1.map fF)∧y2_1.length=(count).toNat∧Grow H H_4∧(0:Int)≤t50∧((t50≤((count).toNat:Int)∨t50≤(0:Int)))∧((count).toNat:Int)-t50≤(μ2:Int)∧z2o aa r count place size=z4n aa r count place size t21 y1_1 (fun (t50:Int) (y2_1:LN)=>y2_1) (μ2+1) t50 y2_1) (Int.toNat (((count).toNat:Int)-(0:Int))) _ H_2 ?_ ?_
   ·exact ⟨_,o10,ω41,g12,ω3,ω3,ω2,e⟩
   ·intro μ2 t50  H_4 hI
    obtain ⟨y2_1,o30,y31,g32,v33,v34,hμ,e⟩:=hI
    rw [f16z_r2]
    have e:=e.trans (z4o aa r count place size t21 y1_1 (fun (t50:Int) (y2_1:LN)=>y2_1) μ2 t50 y2_1)
    have w35:=o30.lt
    have l36:=g32.1
    refine Br.intro (fun c37=>?_) (fun c37=>?_)
    ·have e:=e.trans (zj c37)
     have c_37':=odt c37
     refine ⟨by omega,ω2,_,_,rfl,?_⟩
     refine ⟨((y2_1).getD (t50:Int).toNat 0),o30.rd ω0 _,?_⟩
     refine ⟨by omega,ω2,_,_,rfl,?_⟩
     refine Lt.set o30 ω14 (fun H_5 hl_38 o40 k39=>?_)
     have o40:=map_set o40
     have l41:=k39.1
     have g42:=g32.keep (b:=b_1) ω2 k39
     have l43:=g42.1
     have w44:=o40.lt
     rw [show IntKind.wrap .i64 (t50+1)=(t50+1) from zy ω2 ω2]
     refine f16z_n2 (μ2-1) ω18 ⟨_,o40,ω25,g42,ω1,ω1,ω18,ω30⟩
    ·have e:=e.trans (zi c37)
     have c_37':=odf c37
     rw [f16z_x2_2]
     rw [e] at hk
     exact hk _ _ _ H_4 g32 (o30.ownS ω34 ω2)
theorem f16z_ok:FnOk Try.prog 165 zc2:=by
 refine FnOk.body mix_ok zhg Try.func165 rfl ω5 ω5 ?_ ?_ ?_ ?_ ?_
 ·intro args H K K' h hk
  simp only [zc2] at *
  unfold zi2 at *
  split at hk
  ·obtain ⟨aa,i_list,bd_46,pr0,pr1,pr2,pr3,pr4,pr5,k⟩:=hk
   exact ⟨aa,i_list,bd_46,pr0,pr1,pr2,pr3,pr4,pr5,(fun za db cb H' gg ow0=>h _ _ (k za db cb H' gg ow0))⟩
  ·exact hk.elim
 ·intro hq;cases hq
 ·intro args H K hk
  simp only [zc2] at *
  unfold zi2 at *
  split at hk
  ·obtain ⟨aa,i_list,bd_46,pr0,pr1,pr2,pr3,pr4,pr5,k⟩:=hk
   exact zk5 fun a n e H1 g o=>⟨_,_,k a n e H1 g o⟩
  ·exact hk.elim
 ·intro _ args H K hk
  simp only [zc2] at *
  unfold zi2 at *
  split at hk
  ·obtain ⟨aa,i_list,bd_46,pr0,pr1,pr2,pr3,pr4,pr5,k⟩:=hk
   exact ⟨aa,i_list,bd_46,pr0,pr1,pr2,pr3,pr4,pr5,(fun za db cb H' gg ow0=>⟨gg,k za db cb H' gg ow0⟩)⟩
  ·exact hk.elim
 ·have mm:=@f16z_main
  have ml:=fun (args:List Value) (H:zd) (K:KT)=>zf (P:=Try.prog) (env:=z3f) (fn:=Try.f165) (args:=args) (H:=H) (K:=K) zhg 
  revert mm ml
  generalize z1a Try.prog z3f Try.f165=Q
  generalize zk Try.prog z3f Try.f165=QL
  intro mm ml args H K hk
  simp only [zc2] at *
  unfold zi2 at *
  split at hk
  ·exact ml _ H K (mm _ _ _ _ _ _ _ H K hk)
  ·exact hk.elim
def z5z (x:Nat):Nat:=(bif flt .f32 x 0 then fneg .f32 x else (bif feq .f32 x 0 then 0 else x))
def zes (x:Nat) (H:zd) (K:Nat→zd→Prop):Prop:=K (z5z x) H

theorem zoc {x:Nat} {H:zd} {K:Nat→zd→Prop} (h:K (z5z x) H):zes x H K:=h
def ze4:Env:=envOf []
def zie:List Value→zd→(Value→zd→Prop)→Prop
 | [.float .f32 x],H,K=>zes x H fun (r1:Nat) (H':zd)=>K (.float .f32 r1) H'
 | _,_,_=>False
def zem:FSpec:={F:=zie,quiet:=true,tame:=false}
theorem z15m (x:Nat) (H:zd) (K:KT):zk Try.prog ze4 Try.f150 [.float .f32 x] H K=
 (Br (flt .f32 x 0) (K (.float .f32 (fneg .f32 x)) H) (Br (feq .f32 x 0) (K (.float .f32 0) H) (K (.float .f32 x) H))):=by kernel_rfl
theorem zhs:∀g,FnOk Try.prog g (ze4 g):=FnOk.envOf (by
 intro x hx;cases hx)
theorem zv0 (x:Nat) (H:zd) (K:KT) (h:zes x H fun (r1:Nat) (H':zd)=>K (.float .f32 r1) H'):zk Try.prog ze4 Try.f150 [.float .f32 x] H K:=by
 rw [z15m]
 unfold zes z5z at h
 repeat' (first | exact h | (exfalso;simp_all;done) | (refine ⟨by decide,?_⟩) | (refine Br.intro (fun hb=>?_) (fun hb=>?_)<;>(try simp only [hb,cond_true,cond_false,Bool.not_true,Bool.not_false] at h)))
theorem z15l:FnOk Try.prog 150 zem:=by
 refine FnOk.body mix_ok zhs Try.func150 rfl ω5 ω5 ?_ ?_ ?_ ?_ ?_
 ·intro args H K K' h hk
  simp only [zem] at *
  unfold zie at *
  split at hk
  ·have k:=hk
   exact h _ _ k
  ·exact hk.elim
 ·intro _ args H K hk
  simp only [zem] at *
  unfold zie at *
  split at hk
  ·have k:=hk
   exact ⟨_,k,fun K' k'=>k'⟩
  ·exact hk.elim
 ·intro args H K hk
  simp only [zem] at *
  unfold zie at *
  split at hk
  ·have k:=hk
   exact ⟨_,_,k⟩
  ·exact hk.elim
 ·intro hq;cases hq
 ·have mm:=@zv0
  have ml:=fun (args:List Value) (H:zd) (K:KT)=>zf (P:=Try.prog) (env:=ze4) (fn:=Try.f150) (args:=args) (H:=H) (K:=K) zhs 
  revert mm ml
  generalize z1a Try.prog ze4 Try.f150=Q
  generalize zk Try.prog ze4 Try.f150=QL
  intro mm ml args H K hk
  simp only [zem] at *
  unfold zie at *
  split at hk
  ·exact ml _ H K (mm _ H K hk)
  ·exact hk.elim

def zs7 (aa:LN):LN×Bool:=(bif !((zaq ([aa]))) then ([],false) else (aa,true))
def zgq:=@zs7.eq_1
def ztu (ca:OA) (ba ga:Nat) (H:zd) (K:OA→Nat→Nat→Bool→zd→Prop):Prop:=∃aa:LN,IsL fF H ca ba aa∧aa.length<1073741824∧((∀H':zd,Grow H H'→Br ((zs7 aa).2) (K ca ba ga true H') (K none 0 0 false H')))
theorem ztv {ca:OA} {ba ga:Nat} {H:zd} {K:OA→Nat→Nat→Bool→zd→Prop} (h:∃aa:LN,IsL fF H ca ba aa∧aa.length<1073741824∧((∀H':zd,Grow H H'→Br ((zs7 aa).2) (K ca ba ga true H') (K none 0 0 false H')))):ztu ca ba ga H K:=h

def zq5:Env:=envOf [(166,zim)]
def zsr:List Value→zd→(Value→zd→Prop)→Prop
 | [.slice ca ba ga],H,K=>ztu ca ba ga H fun (za:OA) (db:Nat) (cb:Nat) (r2:Bool) (H':zd)=>K (.tuple #[.slice za db cb,.bool r2]) H'
 | _,_,_=>False
def zlc:FSpec:={F:=zsr,quiet:=false,tame:=true}
theorem f9z_vc (ca:OA) (ba ga:Nat) (H:zd) (K:KT):zk Try.prog zq5 Try.f109 [.slice ca ba ga] H K=
 (Al [.slice ca ba ga] H fun b1 H1=>zr5 (some ⟨b1,0,none⟩) 1 1 H1 fun (r1:Bool) (H2:zd)=>Br (!r1) (K (.tuple #[.slice none 0 0,.bool false]) H2) (K (.tuple #[.slice ca ba ga,.bool true]) H2)):=by kernel_rfl
theorem znb:∀g,FnOk Try.prog g (zq5 g):=FnOk.envOf (by
 intro x hx
 simp only [List.mem_cons,List.not_mem_nil,or_false] at hx
 subst hx;exact zvm)
theorem f9z_main (ca:OA) (ba ga:Nat) (H:zd) (K:KT) (h:ztu ca ba ga H fun (za:OA) (db:Nat) (cb:Nat) (r2:Bool) (H':zd)=>K (.tuple #[.slice za db cb,.bool r2]) H'):zk Try.prog zq5 Try.f109 [.slice ca ba ga] H K:=by
 rw [f9z_vc]
 obtain ⟨aa,i_list,bd_12,hk⟩:=h
 obtain rfl:=i_list.eqn
 have e:(zs7 aa)=_:=rfl
 have e:=e.trans (zgq aa)
 have g0:=Grow.refl H
 refine Al.intro (fun b_1 H_1 hb_2 hl_3 g_4 o5=>?_)
 have l_7:=g_4.1
 have g8:=g0.trans g_4
 have l_9:=g8.1
 have w11:=o5.lt
 refine zli ⟨[aa],⟨_,o5.rdAll rfl,LLc.cons (i_list.grow g8) (LLc.nil _ _)⟩,ω0,ω20,?_⟩
 refine Br.intro (fun c_10=>?_) (fun c_10=>?_)
 ·have e:=e.trans (zj c_10)
  have c_10n:=zv c_10
  have q:=hk H_1 g8
  rw [e] at q
  exact q
 ·have e:=e.trans (zi c_10)
  have c_10n:=zr c_10
  have q:=hk H_1 g8
  rw [e] at q
  exact q
theorem f9z_ok:FnOk Try.prog 109 zlc:=by
 refine FnOk.body mix_ok znb Try.func109 rfl ω5 ω5 ?_ ?_ ?_ ?_ ?_
 ·intro args H K K' h hk
  simp only [zlc] at *
  unfold zsr at *
  split at hk
  ·obtain ⟨aa,i_list,bd_12,k⟩:=hk
   exact ⟨aa,i_list,bd_12,(fun H' gg=>zsj (h _ _) (h _ _) (k H' gg))⟩
  ·exact hk.elim
 ·intro hq;cases hq
 ·intro args H K hk
  simp only [zlc] at *
  unfold zsr at *
  split at hk
  ·obtain ⟨aa,i_list,bd_12,k⟩:=hk
   exact z13k (k H (Grow.refl H))
  ·exact hk.elim
 ·intro _ args H K hk
  simp only [zlc] at *
  unfold zsr at *
  split at hk
  ·obtain ⟨aa,i_list,bd_12,k⟩:=hk
   exact ⟨aa,i_list,bd_12,(fun H' gg=>zsj (fun q=>⟨gg,q⟩) (fun q=>⟨gg,q⟩) (k H' gg))⟩
  ·exact hk.elim
 ·have mm:=@f9z_main
  have ml:=fun (args:List Value) (H:zd) (K:KT)=>zf (P:=Try.prog) (env:=zq5) (fn:=Try.f109) (args:=args) (H:=H) (K:=K) znb 
  revert mm ml
  generalize z1a Try.prog zq5 Try.f109=Q
  generalize zk Try.prog zq5 Try.f109=QL
  intro mm ml args H K hk
  simp only [zlc] at *
  unfold zsr at *
  split at hk
  ·exact ml _ H K (mm _ _ _ H K hk)
  ·exact hk.elim
end Go.Proofs.Ytbnplefohfamnaa.Ai
