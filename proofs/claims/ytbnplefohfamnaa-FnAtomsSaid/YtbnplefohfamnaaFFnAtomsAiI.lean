/- The abstract machine and the world: regions in the order of the text, code, functions. -/
import Derived.Test.YtbnplefohfamnaaFFnAtomsAiH
set_option linter.unusedSimpArgs false
set_option linter.unusedVariables false
namespace Go.Proofs.Ytbnplefohfamnaa.Ai
open Go Go.RowKit

def zcu:Operand→Bool
 | .tmp _=>true
 | .const v=>zg2 v
 | .global _=>false
 | .func _=>true
def zkh (o:Oper):Bool:=o.op.operands.toList.all zcu

section
variable {P:Program} {ρ:Ren} {w:World} {B0:Nat} {H:zd} {env:Env}

theorem VRs.getD {xs ys:List Value} (h:VRs ρ xs ys) (i:Nat):VR ρ (xs.getD i undef) (ys.getD i undef):=by
 rw [List.getD_eq_getElem?_getD,List.getD_eq_getElem?_getD]
 cases hx:xs[i]? with
 | none=>
  have:ys[i]? =none:=by rw [List.getElem?_eq_none_iff] at *;rw [←h.1];exact hx
  rw [this];exact z8j
 | some x=>obtain ⟨y,hy,hv⟩:=h.get hx;rw [hy];exact hv

theorem z12w {tm:List Value} {a:Act} (hf:VRs ρ tm a.tmps.toList) {x:Operand} (hx:zcu x=true):VR ρ (evT tm x) (a.eval x):=by
 cases x with
 | tmp t=>
  have:=hf.getD t
  simpa [evT,Act.eval,List.getD_eq_getElem?_getD] using this
 | const v=>exact .const1 hx
 | global g=>cases hx
 | func f=>exact .func _ _ _ _ _ rfl (fun i x y h _=>by simp at h) rfl (fun i x y h _=>by simp at h)

theorem zgv {tm:List Value} {a:Act} (hf:VRs ρ tm a.tmps.toList) (d:Option Tmp) {v v':Value} (hv:VR ρ v v'):VRs ρ (putT tm d v) (a.put d v').tmps.toList:=by
 cases d with
 | none=>exact hf
 | some d=>simp only [putT,Act.put,Array.toList_setIfInBounds];exact hf.set d hv

theorem zsi {ops:Array Oper} {tm:List Value} {tmps:Array Value} (hf:VRs ρ tm tmps.toList) {j d:Nat} {x1 x2 x3 x4 x5} (hj:ops.toList[j]? =some ⟨some d,x1,x2,x3,x4,x5⟩) {t:Bool}
  (ht:tm.getD d undef=.bool t):yielded ops tmps j=some t:=by
 have hv:=hf.getD d
 rw [ht] at hv
 have hj':ops[j]? =some ⟨some d,x1,x2,x3,x4,x5⟩:=by rw [←Array.getElem?_toList];exact hj
 unfold yielded
 rw [hj']
 simp only [Option.bind_some]
 rw [List.getD_eq_getElem?_getD] at hv
 cases hx:tmps[d]? with
 | none=>
  rw [Array.getElem?_toList,hx] at hv
  simp [undef] at hv
  cases hv
 | some x=>
  rw [Array.getElem?_toList,hx] at hv
  simp only [Option.getD_some] at hv
  cases hv;rfl

theorem zl7 {ops:Array Oper} {tm:List Value} {tmps:Array Value} (hf:VRs ρ tm tmps.toList) {j d:Nat} {x1 x2 x3 x4 x5} (hj:ops.toList[j]? =some ⟨some d,x1,x2,x3,x4,x5⟩) {cs:Array Value}
  (ht:tm.getD d undef=.tuple cs):yielded ops tmps j=none:=by
 have hv:=hf.getD d
 rw [ht] at hv
 have hj':ops[j]? =some ⟨some d,x1,x2,x3,x4,x5⟩:=by rw [←Array.getElem?_toList];exact hj
 unfold yielded
 rw [hj']
 simp only [Option.bind_some]
 rw [List.getD_eq_getElem?_getD] at hv
 cases hx:tmps[d]? with
 | none=>rfl
 | some x=>
  rw [Array.getElem?_toList,hx] at hv
  simp only [Option.getD_some] at hv
  cases hv;rfl

theorem zps {ops:Array Oper} {o:Oper} {tm:List Value} {a:Act} {K:List Value→zd→Prop} (hr:HR B0 ρ H w) (hf:VRs ρ tm a.tmps.toList) (hok:zkh o=true) (henv:∀g,FnOk P g (env g))
  (h:z6s P env ops.toList o tm H K) {next:Act→World→Prop} {Q:Exit→Act→World→Prop}
  (hn:∀tm' H',K tm' H'→∀ρ' w' a',ρ <+:ρ'→HR B0 ρ' H' w'→VRs ρ' tm' a'.tmps.toList→a'.defers=a.defers→Below B0 w w'→next a' w'):
  if Region.wanted o (yielded ops a.tmps) then o.wp P a w next Q else next (a.put o.dst undef) w:=by
 have hev:∀tm:List Value,VRs ρ tm a.tmps.toList→∀x ∈ o.op.operands,VR ρ (evT tm x) (a.eval x):=fun tm hf x hx=>z12w hf (List.all_eq_true.1 hok x (by simpa using hx))
 have dput:∀d v,(a.put d v).defers=a.defers:=fun d v=>by cases d<;>rfl
 have go:∀tm:List Value,VRs ρ tm a.tmps.toList→(opS P env ops.toList o (evT tm) H fun v H'=>K (putT tm o.dst v) H')→o.wp P a w next Q:=fun tm hf h=>
  z1d7 hr (hev tm hf) henv (z1d h).2 fun v H' hk ρ' w' v' h1 h2 h3 h4=>hn _ H' hk ρ' w' _ h1 h2 (zgv (hf.mono h1) o.dst h3) (dput _ _) h4
 unfold z6s at h
 split at h
 ·rename_i hg
  rw [if_pos (by simp [Region.wanted,hg])]
  exact go tm hf h
 ·rename_i j want hg
  split at h
  case h_2=>exact h.elim
  rename_i d x1 x2 x3 x4 x5 hj
  split at h
  case h_3=>exact h.elim
  case h_2=>
   rename_i cs ht
   have hy:=zl7 hf hj ht
   have hw:Region.wanted o (yielded ops a.tmps)=false:=by simp [Region.wanted,hg,hy]
   rw [hw]
   exact hn _ H h ρ w _ (List.prefix_refl _) hr (zgv hf o.dst z8j) (dput _ _) (.refl _ _)
  rename_i t ht
  have hy:=zsi hf hj ht
  have hset:VRs ρ (tm.set d (.bool t)) a.tmps.toList:=by
   have:tm.set d (.bool t)=tm:=by
    apply List.ext_getElem?
    intro i
    rw [List.getElem?_set]
    split
    ·rename_i e;subst e
     split
     ·rename_i hlt
      rw [List.getD_eq_getElem?_getD,List.getElem?_eq_getElem hlt] at ht
      rw [List.getElem?_eq_getElem hlt];simpa using ht.symm
     ·rename_i hlt;rw [List.getElem?_eq_none (by omega)]
    ·rfl
   rw [this];exact hf
  have hw:Region.wanted o (yielded ops a.tmps)=(t==want):=by
   simp only [Region.wanted,hg,hy]
   cases t<;>cases want<;>rfl
  rw [hw]
  unfold z8u at h
  cases t<;>cases want<;>simp only [cond_true,cond_false,Bool.not_false,Bool.not_true] at h
  ·exact go _ hset h
  ·exact hn _ H h ρ w _ (List.prefix_refl _) hr (zgv hset o.dst z8j) (dput _ _) (.refl _ _)
  ·exact hn _ H h ρ w _ (List.prefix_refl _) hr (zgv hset o.dst z8j) (dput _ _) (.refl _ _)
  ·exact go _ hset h

theorem z18d {ops:Array Oper} (henv:∀g,FnOk P g (env g)) {Q:Exit→Act→World→Prop}:∀(l:List Oper) (ρ:Ren) (H:zd) (w:World) (tm:List Value) (a:Act) (K:List Value→zd→Prop),
  HR B0 ρ H w→VRs ρ tm a.tmps.toList→l.all zkh=true→seqK P env ops.toList l tm H K→
  (∀tm' H',K tm' H'→∀ρ' w' a',ρ <+:ρ'→HR B0 ρ' H' w'→VRs ρ' tm' a'.tmps.toList→a'.defers=a.defers→Below B0 w w'→Q .normal a' w')→wpList P ops Q l a w:=by
 intro l
 induction l with
 | nil=>intro ρ H w tm a K hr hf _ h hq;exact hq tm H h ρ w a (List.prefix_refl _) hr hf rfl (.refl _ _)
 | cons o l ih=>
  intro ρ H w tm a K hr hf hok h hq
  simp only [List.all_cons,Bool.and_eq_true] at hok
  refine wpList_step fun K' hK'=>?_
  exact zps hr hf hok.1 henv h fun tm' H' hk ρ' w' a' h1 h2 h3 h4 h5=>hK' a' w' (ih ρ' H' w' tm' a' K h2 h3 hok.2 hk
   fun tm'' H'' hk' ρ'' w'' a'' g1 g2 g3 g4 g5=>hq tm'' H'' hk' ρ'' w'' a'' (h1.trans g1) g2 g3 (g4.trans h4) (h5.trans g5))
end
end Go.Proofs.Ytbnplefohfamnaa.Ai
