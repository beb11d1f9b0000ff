/- impl.rowsBy with one worker: goroutine 0 starts it, waits, and goes on. -/
import Derived.Test.YthheoefadijhdaaGreatFFnExactReadMarksGg
set_option linter.unusedVariables false
set_option linter.unusedSectionVars false
set_option linter.unusedSimpArgs false
namespace Go.Proofs.YthheoefadijhdaaGreat.Ai
open Go Go.RowKit Go.Conc Go.Conc.Lib Go.ConcX.Gen
open Go.ConcX (stA smA OfWg KK WgAt DC0 rd wr mk AtR0 RCa KCa DCs EvS AtMkS Full Shy Payload)

noncomputable def rbB:Code:=zo Tryz.f69
noncomputable def rb1:Code:=cr rbB
noncomputable def rb2:Code:=cr rb1
noncomputable def rb3:Code:=cr rb2
noncomputable def rb4:Code:=cr rb3
noncomputable def rbBlk:Code:=cr (cl rb3)
noncomputable def rbL:Code:=cl (cl rbBlk)
noncomputable def rbX:Code:=cr (cr rbL)
noncomputable def rbI:Code:=cl (cl rbX)

theorem z1kv:rbB=.seq (cl rbB) rb1:=rfl
theorem z1kr:rb1=.seq (cl rb1) rb2:=rfl
theorem z1ks:rb2=.seq (.region 2 (z1z (cl rb2)) false) rb3:=rfl
theorem z1kt:rb3=.seq (.seq (cl (cl rb3)) (.block 0 (.loop rbL))) rb4:=rfl
theorem z1ku:rb4=.seq (.region 8 (z1z (cl rb4)) false) (cr rb4):=rfl
theorem zyp:rbL=.seq (.region 4 (z1z (cl rbL)) false) (.seq (.cond (.tmp 23) .skip (.exit 0)) rbX):=rfl
theorem z1ky:rbX=.seq (.block 1 rbI) (.region 7 (z1z (cr rbX)) false):=rfl
theorem z1kx:rbI=.seq (cl rbI) (.region 6 (z1z (cr rbI)) false):=rfl

def nrm (f:List Value→zn→Prop):Post:=fun e tm H=>match e with
 | .normal=>f tm H
 | _=>False
def zy2:Env:=fun _=>zy3
def unit0:Value:=.tuple #[]
def rbEnd (tm:List Value):List Value:=
 ((((((tm.set 25 (.func (.func 111) #[] (#[11,3,4,5,8,9].map fun t=>tm.getD t undef))).set 26 unit0).set 27 (.int .i64 1)).set 22 (.int .i64 1)).set 23 (.bool false)).set 28 unit0)
def rbK (P:Program) (env:Env) (args:List Value) (H:zn) (K:Value→zn→Prop):Prop:=
 exK P env (cl rbB) (args++List.replicate (Tryz.f69.ntmps-args.length) undef) H <| nrm fun tm H=>
 exK P env (cl rb1) tm H <| nrm fun tm H=>
 exK P zy2 (cl (cl rb3)) (tm.set 10 (.pointer (some ⟨H.length,0,none⟩))) (H++[none]) <| nrm fun tm2 H2=>
 (tm2.length=57∧tm2.getD 21 undef=.int .i64 1∧tm2.getD 22 undef=.int .i64 0)∧
 (exK P zy2 (cl rbI) (tm2.set 23 (.bool true)) H2 <| nrm fun tm3 H3=>
 (tm3.length=57∧tm3.getD 10 undef=.pointer (some ⟨H.length,0,none⟩)∧tm3.getD 21 undef=.int .i64 1∧tm3.getD 22 undef=.int .i64 0)∧
 (env 111).F ([11,3,4,5,8,9].map fun t=>tm3.getD t undef) H3 fun _ H4=>
 exK P env (cr rb4) (rbEnd tm3) H4 (retK P Tryz.f69 K))

theorem znr {a:Act} {o:Oper} {w:World} (hop:o.op=.alloc link.tWg):(execOp a.eval o).run Tryz.prog w=.ok (.value (.pointer (some ⟨w.heap.size,0,none⟩))) (w.alloc (ConcX.wgBlock link.tWg 0 0)):=by
 have:=wgLib.zeroValue_tWg w
 unfold execOp;simp [hop,Instr.alloc,newVar,newRow,this,Value.cells,ConcX.wgBlock]
theorem zqk {a:Act} {o:Oper} {w:World} (hop:o.op=.alloc link.tWg) (fn:FuncId):listed Tryz.prog fn a o w=#[]:=by
 unfold listed
 have h1:=wgLib.zeroValue_tWg w
 have:(execOp a.eval o).events Tryz.prog w #[]=#[]:=by
  unfold execOp;simp [hop,Instr.alloc,newVar,newRow,h1]
 rw [this];exact seen_none _ _

theorem z2k {a:Act} {d t:Nat} {v:Value}:(a.put (some d) v).eval (.tmp t)=if t=d∧d<a.tmps.size then v else a.eval (.tmp t):=by
 simp only [Act.put,Act.eval,Array.getD_eq_getD_getElem?,Array.getElem?_setIfInBounds]
 by_cases h:d=t
 ·subst h
  by_cases h2:d<a.tmps.size
  ·simp [h2]
  ·simp [h2]
 ·simp [h,Ne.symm h]
theorem zd7 (a:Act) (d:Option Nat) (v:Value):(a.put d v).tmps.size=a.tmps.size:=by cases d<;>simp [Act.put]
theorem zyw {P:Program} {a:Act} {o:Oper} {x y:Operand} {t t':TypeId} {m n:Int} {w:World} (hop:o.op=.binOp .lss t x y t') (hx:a.eval x=.int .i64 m) (hy:a.eval y=.int .i64 n):
  (execOp a.eval o).run P w=.ok (.value (.bool (decide (m<n)))) w:=by
 unfold execOp;simp [hop,hx,hy,binOp,Op.intCmp,eqGuard]
theorem z19t {P:Program} {a:Act} {o:Oper} {x y:Operand} {t t':TypeId} {m n:Int} {w:World} (hop:o.op=.binOp .lss t x y t') (hx:a.eval x=.int .i64 m) (hy:a.eval y=.int .i64 n) (fn:FuncId):listed P fn a o w=#[]:=by
 unfold listed
 have:(execOp a.eval o).events P w #[]=#[]:=by unfold execOp;simp [hop,hx,hy,binOp,Op.intCmp,eqGuard]
 rw [this];exact seen_none _ _
theorem z1f9 {P:Program} {a:Act} {o:Oper} {x y:Operand} {t t':TypeId} {m n:Int} {w:World} (hop:o.op=.binOp .add t x y t') (hx:a.eval x=.int .i64 m) (hy:a.eval y=.int .i64 n):
  (execOp a.eval o).run P w=.ok (.value (.int .i64 (IntKind.i64.wrap (m+n)))) w:=by
 unfold execOp;simp [hop,hx,hy,binOp,Op.intArith,eqGuard]
theorem z1hc {P:Program} {a:Act} {o:Oper} {x y:Operand} {t t':TypeId} {m n:Int} {w:World} (hop:o.op=.binOp .add t x y t') (hx:a.eval x=.int .i64 m) (hy:a.eval y=.int .i64 n) (fn:FuncId):listed P fn a o w=#[]:=by
 unfold listed
 have:(execOp a.eval o).events P w #[]=#[]:=by unfold execOp;simp [hop,hx,hy,binOp,Op.intArith,eqGuard]
 rw [this];exact seen_none _ _
theorem z16g {P:Program} {a:Act} {o:Oper} {x:Operand} {w:World} (hop:o.op=.move x):(execOp a.eval o).run P w=.ok (.value (a.eval x)) w:=by unfold execOp;simp [hop]
theorem z1c7 {P:Program} {a:Act} {o:Oper} {x:Operand} {w:World} (hop:o.op=.move x) (fn:FuncId):listed P fn a o w=#[]:=by
 unfold listed
 have:(execOp a.eval o).events P w #[]=#[]:=by unfold execOp;simp [hop]
 rw [this];exact seen_none _ _

theorem z2l {P:Program} {R:World→World→Prop} {Stop:Goroutine→World→Prop} {n:Nat} {g g':Goroutine} {w:World} (hRt:∀a b c,R a b→R b c→R a c) (hg:g.status=.running) (h:∀w,stepG P true g w=.go g' w #[]) (H:Goes P true R DC0 Stop n g' w):Goes P true R DC0 Stop (n+1) g w:=by
 refine Goes.step hg fun w₁ h₁=>?_
 rw [h]
 simp only [goes_go]
 exact ⟨⟨rfl,rfl⟩,Goes.rely hRt H h₁⟩
theorem val0 {P:Program} {main:Bool} {b:Frame} {a:Act} {k:List Item} {cs:List Frame} {ops:Array Oper} {i:Nat} {rest:List Nat} {o:Oper} {v:Value} (ho:ops[i]? =some o) (hg:o.guard=none) (hk:b.kind≠.early) (hr:∀w,(execOp a.eval o).run P w=.ok (.value v) w) (he:∀w,listed P b.fn a o w=#[]) (w:World):
  stepG P main (G (b.at a (.inRegion ops (i::rest)::k)) cs) w=.go (G (b.at (a.put o.dst v) (.inRegion ops rest::k)) cs) w #[]:=by
 rw [stepG_value ho (by simp [Region.wanted,hg]) hk (hr w),he]

noncomputable def rbAct (a:Act):Act:=((((a.put (some 26) (.tuple #[])).put (some 27) (.int .i64 1)).put (some 22) (.int .i64 1)).put (some 23) (.bool false))
theorem rep84 (v:Value):#[v]++Array.replicate ((waitFn link).ntmps-(#[v]:Array Value).size) undef=#[v,undef,undef,undef,undef,undef,undef,undef,undef,undef,undef,undef,undef,undef,undef,undef,undef,undef,undef,undef,undef,undef,undef,undef,undef,undef,undef,undef,undef,undef,undef,undef,undef,undef,undef,undef,undef,undef,undef,undef,undef,undef,undef,undef,undef,undef,undef,undef,undef,undef,undef,undef,undef,undef,undef,undef,undef,undef,undef,undef,undef,undef,undef,undef,undef,undef,undef,undef,undef,undef,undef,undef,undef,undef,undef,undef,undef,undef,undef,undef,undef,undef,undef,undef]:=by
 have e:(waitFn link).ntmps-(#[v]:Array Value).size=83:=by kernel_rfl
 rw [e]
 apply Array.ext'
 rw [Array.toList_append,Array.toList_replicate]
 rfl
set_option maxRecDepth 100000 in
theorem rbMid {Wg:Nat} {cs:List Frame} {a:Act} (hsz:a.tmps.size=57) (h10:a.eval (.tmp 10)=.pointer (some ⟨Wg,0,none⟩)) (h21:a.eval (.tmp 21)=.int .i64 1) (h22:a.eval (.tmp 22)=.int .i64 0)
  (Fu:World→Prop) (hFu:∀w d,Fu w→Fu (w.at d)) (w₁:World) (hF:KA link.tWg Wg Fu w₁):
  Goes Tryz.prog true (RMa link.tWg Wg Fu) DC0 (MKd Tryz.prog link.tWg Wg Fu (zmo link Fu Wg ((base 69).at (rbAct a) [.inRegion (z1z (cl rb4)) [0],.code (cr rb4)]) cs)) 30
   (G ((base 69).at (a.put (some 26) (.tuple #[])) [.inRegion (z1z (cr rbI)) [],.inBlock 1,.code (.region 7 (z1z (cr rbX)) false),.inLoop rbL,.inBlock 0,.code rb4]) cs) w₁:=by
 have hw1:IntKind.i64.wrap (0+1)=1:=by decide
 have g22:(a.put (some 26) (.tuple #[])).eval (.tmp 22)=.int .i64 0:=by rw [z2k];simp [h22]
 have b22:(((a.put (some 26) (.tuple #[])).put (some 27) (.int .i64 1)).put (some 22) (.int .i64 1)).eval (.tmp 22)=.int .i64 1:=by rw [z2k];simp [zd7,hsz]
 have b21:(((a.put (some 26) (.tuple #[])).put (some 27) (.int .i64 1)).put (some 22) (.int .i64 1)).eval (.tmp 21)=.int .i64 1:=by rw [z2k,z2k,z2k];simp [h21]
 have b27:((a.put (some 26) (.tuple #[])).put (some 27) (.int .i64 1)).eval (.tmp 27)=.int .i64 1:=by rw [z2k];simp [zd7,hsz]
 have b23:(rbAct a).eval (.tmp 23)=.bool false:=by unfold rbAct;rw [z2k];simp [zd7,hsz]
 have c10:(rbAct a).eval (.tmp 10)=.pointer (some ⟨Wg,0,none⟩):=by unfold rbAct;rw [z2k,z2k,z2k,z2k];simp [h10]
 refine z2l RMa.tr rfl (fun w=>stepG_region_end) ?_
 refine z2l RMa.tr rfl (fun w=>stepG_inBlock) ?_
 refine z2l RMa.tr rfl (fun w=>stepG_region) ?_
 refine z2l (g':=G ((base 69).at ((a.put (some 26) (.tuple #[])).put (some 27) (.int .i64 1)) [.inRegion (z1z (cr rbX)) [1],.inLoop rbL,.inBlock 0,.code rb4]) cs) RMa.tr rfl
  (fun w=>val0 (v:=.int .i64 1) (ops:=z1z (cr rbX)) (i:=0) (rest:=[1]) rfl rfl (by k_ne) (fun w=>by rw [←hw1];exact z1f9 (x:=.tmp 22) (y:=.const (.int .i64 1)) (m:=0) (n:=1) rfl g22 rfl) (fun w=>z1hc (x:=.tmp 22) (y:=.const (.int .i64 1)) (m:=0) (n:=1) rfl g22 rfl _) w) ?_
 refine z2l (g':=G ((base 69).at (((a.put (some 26) (.tuple #[])).put (some 27) (.int .i64 1)).put (some 22) (.int .i64 1)) [.inRegion (z1z (cr rbX)) [],.inLoop rbL,.inBlock 0,.code rb4]) cs) RMa.tr rfl
  (fun w=>val0 (v:=.int .i64 1) (ops:=z1z (cr rbX)) (i:=1) (rest:=[]) rfl rfl (by k_ne) (fun w=>(z16g (x:=.tmp 27) rfl).trans (by rw [b27])) (fun w=>z1c7 (x:=.tmp 27) rfl _) w) ?_
 refine z2l RMa.tr rfl (fun w=>stepG_region_end) ?_
 refine z2l RMa.tr rfl (fun w=>stepG_inLoop) ?_
 rw [zyp]
 refine z2l RMa.tr rfl (fun w=>stepG_seq) ?_
 refine z2l RMa.tr rfl (fun w=>stepG_region) ?_
 refine z2l (g':=G ((base 69).at (rbAct a) [.inRegion (z1z (cl rbL)) [],.code (.seq (.cond (.tmp 23) .skip (.exit 0)) rbX),.inLoop rbL,.inBlock 0,.code rb4]) cs) RMa.tr rfl
  (fun w=>val0 (v:=.bool false) (ops:=z1z (cl rbL)) (i:=0) (rest:=[]) rfl rfl (by k_ne) (fun w=>zyw (x:=.tmp 22) (y:=.tmp 21) (m:=1) (n:=1) rfl b22 b21) (fun w=>z19t (x:=.tmp 22) (y:=.tmp 21) (m:=1) (n:=1) rfl b22 b21 _) w) ?_
 refine z2l RMa.tr rfl (fun w=>stepG_region_end) ?_
 refine z2l RMa.tr rfl (fun w=>stepG_seq) ?_
 refine z2l RMa.tr rfl (fun w=>stepG_cond (t:=false) b23) ?_
 refine z2l RMa.tr rfl (fun w=>stepG_exit rfl) ?_
 rw [z1ku]
 refine z2l RMa.tr rfl (fun w=>stepG_seq) ?_
 refine z2l RMa.tr rfl (fun w=>stepG_region) ?_
 u_in z1f hF
 refine goes_call rfl rfl (by k_ne) rfl wgLib.f_wait (nm_wait link) rfl ⟨by u_nil,?_⟩
 have hT:(Array.map (rbAct a).eval #[Operand.tmp 10]++Array.replicate ((waitFn link).ntmps-(Array.map (rbAct a).eval #[Operand.tmp 10]).size) undef:Array Value)=#[.pointer (some ⟨Wg,0,none⟩),undef,undef,undef,undef,undef,undef,undef,undef,undef,undef,undef,undef,undef,undef,undef,undef,undef,undef,undef,undef,undef,undef,undef,undef,undef,undef,undef,undef,undef,undef,undef,undef,undef,undef,undef,undef,undef,undef,undef,undef,undef,undef,undef,undef,undef,undef,undef,undef,undef,undef,undef,undef,undef,undef,undef,undef,undef,undef,undef,undef,undef,undef,undef,undef,undef,undef,undef,undef,undef,undef,undef,undef,undef,undef,undef,undef,undef,undef,undef,undef,undef,undef,undef]:=by
  rw [show Array.map (rbAct a).eval #[Operand.tmp 10]=#[.pointer (some ⟨Wg,0,none⟩)] from by simp [c10]]
  exact rep84 _
 have key:=z1l8 (b₀:=base 69) (a₀:=rbAct a) (ops₀:=z1z (cl rb4)) (i₀:=0) (rest₀:=[]) (k₀:=[.code (cr rb4)]) (cs:=cs) wgLib _ hF
 rw [←hT] at key
 exact Goes.mono (n:=3) key (by decide)
end Go.Proofs.YthheoefadijhdaaGreat.Ai
