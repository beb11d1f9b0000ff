/- rowsBy with one worker: its end with what is no more read struck out. Function values that are loaded. -/
import Derived.Test.YthheoefadijhdaaGreatFFnExactReadMarksRc
import Derived.Test.YthheoefadijhdaaGreatFFnExactReadMarksKt
import Derived.Test.YthheoefadijhdaaGreatFFnExactReadMarksKt
import Derived.Test.YthheoefadijhdaaGreatFFnExactReadMarksAiM
set_option linter.unusedVariables false
set_option linter.unusedSectionVars false
set_option linter.unusedSimpArgs false
namespace Go.Proofs.YthheoefadijhdaaGreat.Ai
open Go Go.RowKit Go.Conc

def zfj (env:Env) (x:Value) (args:List Value) (H:zn) (K:Value→zn→Prop):Prop:=match x with
 | .func (.func g) first cap=>(env g).F (first.toList++args++cap.toList) H K
 | _=>False
def valT (env:Env) (x:Value):Bool:=match x with
 | .func (.func g) _ _=>(env g).tame
 | _=>true
def extV (x:Value) (i:Nat) (K:Value→Prop):Prop:=match x with
 | .tuple vs=>match vs[i]? with
  | some v=>K v
  | none=>False
 | _=>False

def stV (v:Value) (H:zn) (b off:Nat) (K:zn→Prop):Prop:=chk (Nat.beq v.cells.size 1 && v.cells.toList.all isCell) (isOwn H b∧(∃l,rdN H b off 1=some l)∧K (match v with | .agg cs=>setN H b off cs.toList | v=>setC H b off v))
theorem zf3 {a:Option Addr} {n e:Nat} {H:zn} {b off:Nat} {K:zn→Prop}:stV (.slice a n e) H b off K=(isOwn H b∧(∃l,rdN H b off 1=some l)∧Lt (setC H b off (.slice a n e)) K):=rfl
theorem z16m {t:Bool} {H:zn} {b off:Nat} {K:zn→Prop}:stV (.bool t) H b off K=(isOwn H b∧(∃l,rdN H b off 1=some l)∧Lt (setC H b off (.bool t)) K):=rfl

def valQ (env:Env) (x:Value):Bool:=match x with
 | .func (.func g) _ _=>(env g).quiet
 | _=>true
def stN (n:Nat) (v:Value) (H:zn) (b off:Nat) (K:zn→Prop):Prop:=chk (Nat.beq v.cells.size n && v.cells.toList.all isCell) (isOwn H b∧(∃l,rdN H b off n=some l)∧K (match v with | .agg cs=>setN H b off cs.toList | v=>setC H b off v))
theorem zix {x y:Int} {a:Option Addr} {n e:Nat} {H:zn} {b off:Nat} {K:zn→Prop}:stN 3 (.agg #[.int .i64 x,.int .i64 y,.slice a n e]) H b off K=(isOwn H b∧(∃l,rdN H b off 3=some l)∧Lt (setN H b off [.int .i64 x,.int .i64 y,.slice a n e]) K):=rfl
def bsV (z v:Value) (H:zn) (K:Nat→zn→Prop):Prop:=
 match Instr.fill (fun i=>some (i*(0+1),0+1)) (z1k z 1).toArray [(0,v)] with
 | some cells=>chk (cells.toList.all isCell) (Al cells.toList H K)
 | none=>False
theorem z1c1 {z x:Nat} {H:zn} {K:Nat→zn→Prop}:bsV (.float .f32 z) (.float .f32 x) H K=Al [.float .f32 x] H K:=rfl

def rbM (P:Program) (env:Env) (args:List Value) (H:zn) (K:Value→zn→Prop):Prop:=
 exK P env (cl rbB) (args++List.replicate (Tryz.f69.ntmps-args.length) undef) H <| nrm fun tm H=>
 exK P env (cl rb1) tm H <| nrm fun tm H=>
 exK P zy2 (cl (cl rb3)) (tm.set 10 (.pointer (some ⟨H.length,0,none⟩))) (H++[none]) <| nrm fun tm2 H2=>
 (tm2.length=57∧tm2.getD 21 undef=.int .i64 1∧tm2.getD 22 undef=.int .i64 0)∧
 (exK P zy2 (cl rbI) (tm2.set 23 (.bool true)) H2 <| nrm fun tm3 H3=>
 (tm3.length=57∧tm3.getD 10 undef=.pointer (some ⟨H.length,0,none⟩)∧tm3.getD 21 undef=.int .i64 1∧tm3.getD 22 undef=.int .i64 0)∧
 (env 111).F ([11,3,4,5,8,9].map fun t=>tm3.getD t undef) H3 fun _ H4=>
 exL P env (cr rb4) (zir Tryz.f69.results.toList) (zir Tryz.f69.results.toList) [] (rbEnd tm3) H4 (retK P Tryz.f69 K))

theorem zd0 {f g:List Value→zn→Prop} (h:∀tm H,f tm H→g tm H):∀e tm H,nrm f e tm H→nrm g e tm H:=by
 intro e tm H hk
 cases e with
 | normal=>exact h tm H hk
 | ret=>exact hk.elim
 | exit id=>exact hk.elim
theorem zpf {P:Program} {X:Cls P}:∀g,FnOkX P X g (zy2 g):=fun g=>FnOkX.none _ _ g
theorem z1f6 {P:Program} {X:Cls P} {env:Env} (henv:∀g,FnOkX P X g (env g)) {args:List Value} {H:zn} {K:Value→zn→Prop} (h:rbM P env args H K):rbK P env args H K:=by
 unfold rbM at h
 unfold rbK
 refine zb6 henv _ _ _ _ _ (zd0 fun tm H h=>?_) h
 refine zb6 henv _ _ _ _ _ (zd0 fun tm H h=>?_) h
 refine zb6 (X:=X) zpf _ _ _ _ _ (zd0 fun tm2 H2 h=>⟨h.1,?_⟩) h
 refine zb6 (X:=X) zpf _ _ _ _ _ (zd0 fun tm3 H3 h=>⟨h.1,?_⟩) h.2
 refine (henv 111).mono _ _ _ _ (fun v H4 h=>?_) h.2
 have ret:∀s s' H,Agr (zir Tryz.f69.results.toList) s s'→resK P Tryz.f69.results.toList s H (fun l=>K (zft l) H)→resK P Tryz.f69.results.toList s' H (fun l=>K (zft l) H):=fun s s' H ha hk=>by rw [←zq4 ha];exact hk
 exact zjy henv _ _ _ _ _ _ _ _ _ ⟨rfl,fun _ _=>rfl⟩ ⟨ret,ret,fun id s s' H ha hk=>hk.elim⟩ h
end Go.Proofs.YthheoefadijhdaaGreat.Ai
