/- The library's WaitGroup.Go: goroutine 0, up to the go statement. -/
import Derived.Test.YthheoefadijhdaaGreatFFnExactReadMarksGd
import Derived.Conc.Own2
set_option linter.unusedVariables false
set_option linter.unusedSectionVars false
set_option linter.unusedSimpArgs false
namespace Go.Proofs.YthheoefadijhdaaGreat.Ai
open Go Go.RowKit Go.Conc Go.Conc.Lib Go.ConcX.Gen
open Go.ConcX (stA smA OfWg KK WgAt DC0 rd wr mk AtR0 RCa KCa DCs Full Shy Payload)

def DN (w w':World) (es:Array Event):Prop:=w.heap.size≤w'.heap.size∧es=#[]
theorem z8y {w:World} {es:Array Event} (h:∀e ∈ es,False):DN w w es:=⟨Nat.le_refl _,Array.eq_empty_iff_forall_not_mem.2 h⟩

theorem z3w.silent {P:Program} {Post:Value→World→Prop} {Z:Zone}:∀n g w,Goes P true AtRel DN (fun g w=>z3w P Post 0 Z g w) n g w→z3w P Post 0 Z g w:=by
 intro n
 induction n with
 | zero=>intro g w h;exact h w (atRel_refl w)
 | succ n ih=>
  intro g w h
  rcases h with h | ⟨hg,h⟩
  ·exact h w (atRel_refl w)
  refine z3w.step hg fun dd=>?_
  have hs:=h (w.at dd) (z6q w dd)
  cases hgo:stepG P true g (w.at dd) with
  | go g' w' es=>
   rw [hgo,goes_go] at hs
   obtain ⟨⟨h1,rfl⟩,hG'⟩:=hs
   exact ⟨g',w',#[],rfl,h1,fun _ _ e he=>by simp at he,by rw [show deafBehind 0 (#[]:Array Event)=0 from rfl];exact ih g' w' hG'⟩
  | _=>rw [hgo] at hs;exact hs.elim
theorem z3w.of0 {P:Program} {Post:Value→World→Prop} {Z:Zone} {d:Nat} {g:Goroutine} {w:World} (h:∀(Shun:Loc→Prop) (M:Nat) (t:Trace),Off Z Shun→Tr Shun w.heap.size d t→z2i P Post M g w t):z3w P Post d Z g w:=
 fun gs sl t q Shun B h0 hL hlt hT hB hO=>h Shun (ConcN.sumTo gs.size q) t hO (hT.mono hB) gs sl q (Nat.le_refl _) h0 hL hlt

theorem zyv {P:Program} {a:Act} {o:Oper} {e:TypeId} {x:Operand} {w:World} (hop:o.op=.box e x):(execOp a.eval o).run P w=.ok (.value (.pointer (some ⟨w.heap.size,0,none⟩))) (w.alloc (.cells (a.eval x).cells e)):=by
 unfold execOp;simp [hop,Instr.box,newVar,newRow]
theorem z19s {P:Program} {a:Act} {o:Oper} {e:TypeId} {x:Operand} {w:World} (hop:o.op=.box e x) (fn:FuncId):listed P fn a o w=#[]:=by
 unfold listed
 have:(execOp a.eval o).events P w #[]=#[]:=by unfold execOp;simp [hop,Instr.box,newVar,newRow]
 rw [this];exact seen_none _ _

noncomputable def bodyG:Code:=Tryz.f110.body.getD .skip
theorem nmG:(Tryz.f110.name== "runtime.NumGoroutine")=false:=by kernel_rfl

section
variable {Wg:Nat} {fv:Value} {c:Frame} {cs:List Frame} {Stop:Goroutine→World→Prop}
def two (Wg:Nat) (fv:Value) (w:World):World:=(w.alloc (.cells #[.pointer (some ⟨Wg,0,none⟩)] 142)).alloc (.cells fv.cells 1)
theorem z3o (w:World) (o:Obj):(w.alloc o).heap=w.heap.push o:=rfl
theorem zq8 (w:World):(two Wg fv w).heap.size=w.heap.size+2:=by simp [two,z3o]
theorem zza (w:World) {k:Nat} (h:k<w.heap.size):(two Wg fv w).heap[k]? =w.heap[k]? :=by
 simp [two,z3o,Array.getElem?_push]
 split
 ·omega
 ·split
  ·omega
  ·rfl
theorem two_w (w:World):(two Wg fv w).heap[w.heap.size]? =some (.cells #[.pointer (some ⟨Wg,0,none⟩)] 142):=by simp [two,z3o,Array.getElem?_push]
theorem two_f (w:World):(two Wg fv w).heap[w.heap.size+1]? =some (.cells fv.cells 1):=by simp only [two,z3o];rw [Array.getElem?_push];simp

noncomputable def frAdd (Wg:Nat) (fv:Value) (n:Nat):Act:=⟨#[.pointer (some ⟨Wg,0,none⟩),fv,.pointer (some ⟨n,0,none⟩),.pointer (some ⟨n+1,0,none⟩),.pointer (some ⟨Wg,0,none⟩),undef,undef],[]⟩
noncomputable def atAdd (Wg:Nat) (fv:Value) (n:Nat) (c:Frame) (cs:List Frame):Goroutine:=
 G ((base 110).at ⟨#[.pointer (some ⟨Wg,0,none⟩),fv,.pointer (some ⟨n,0,none⟩),.pointer (some ⟨n+1,0,none⟩),.pointer (some ⟨Wg,0,none⟩),undef,undef],[]⟩ [.inRegion (z1z (cl (cr bodyG))) [1],.code (cr (cr bodyG))]) (c::cs)

set_option maxRecDepth 100000 in
set_option maxHeartbeats 800000 in
theorem z1ke (w:World) (hS:∀d,Stop (atAdd Wg fv w.heap.size c cs) ((two Wg fv w).at d)):
  Goes Tryz.prog true AtRel DN Stop 20 (G ((base 110).at ⟨#[.pointer (some ⟨Wg,0,none⟩),fv,undef,undef,undef,undef,undef],[]⟩ [.code bodyG]) (c::cs)) w:=by
 unfold atAdd at hS
 simp only [bodyG,Tryz.f110,Option.getD_some,cl,cr,z1z] at hS ⊢
 refine Goes.step rfl (fun wq hq=>?_)
 obtain ⟨dq,hdq⟩:=hq
 subst hdq
 try simp only [setCell_at,at_at]
 rw [stepG_seq]
 simp only [goes_go]
 refine ⟨z8y (by intro e he;simp at he),?_⟩
 refine Goes.step rfl (fun wq hq=>?_)
 obtain ⟨dq,hdq⟩:=hq
 subst hdq
 try simp only [setCell_at,at_at]
 rw [stepG_region]
 simp only [goes_go,List.size_toArray,List.length_cons,List.length_nil,Nat.reduceAdd,Nat.zero_add,List.range,List.range.loop]
 refine ⟨z8y (by intro e he;simp at he),?_⟩
 refine Goes.step rfl (fun w₁ h₁=>?_)
 obtain ⟨d1,rfl⟩:=h₁
 rw [stepG_value rfl rfl (by k_ne) (zyv rfl),z19s rfl]
 simp only [goes_go]
 refine ⟨⟨by rw [z3o];simp,rfl⟩,?_⟩
 walk_nrm
 refine Goes.step rfl (fun w₁ h₁=>?_)
 obtain ⟨d2,rfl⟩:=h₁
 rw [stepG_value rfl rfl (by k_ne) (zyv rfl),z19s rfl]
 simp only [goes_go]
 refine ⟨⟨by rw [z3o];simp,rfl⟩,?_⟩
 walk_nrm
 have z1:∀d d',((w.at d).at d').heap.size=w.heap.size:=fun _ _=>rfl
 have z2:∀d d' d'',((((w.at d).at d').alloc (.cells (Value.pointer (some ⟨Wg,0,none⟩)).cells 142)).at d'').heap.size=w.heap.size+1:=by intros;show (w.heap.push _).size=_;simp
 have z3:∀d d' d'',((((w.at d).at d').alloc (.cells (Value.pointer (some ⟨Wg,0,none⟩)).cells 142)).at d'').alloc (Obj.cells fv.cells 1)=(two Wg fv w).at d'':=fun _ _ _=>rfl
 rw [z1,z2,z3]
 clear z1 z2 z3
 refine Goes.step rfl (fun wq hq=>?_)
 obtain ⟨dq,hdq⟩:=hq
 subst hdq
 try simp only [setCell_at,at_at]
 rw [stepG_region_end]
 simp only [goes_go]
 refine ⟨z8y (by intro e he;simp at he),?_⟩
 refine Goes.step rfl (fun wq hq=>?_)
 obtain ⟨dq,hdq⟩:=hq
 subst hdq
 try simp only [setCell_at,at_at]
 rw [stepG_seq]
 simp only [goes_go]
 refine ⟨z8y (by intro e he;simp at he),?_⟩
 refine Goes.step rfl (fun wq hq=>?_)
 obtain ⟨dq,hdq⟩:=hq
 subst hdq
 try simp only [setCell_at,at_at]
 rw [stepG_region]
 simp only [goes_go,List.size_toArray,List.length_cons,List.length_nil,Nat.reduceAdd,Nat.zero_add,List.range,List.range.loop]
 refine ⟨z8y (by intro e he;simp at he),?_⟩
 refine Goes.step rfl (fun w₁ h₁=>?_)
 obtain ⟨d3,rfl⟩:=h₁
 simp only [at_at]
 refine goes_oper_k rfl rfl (by k_ne) (fun K hK=>?_)
 have hbw:((two Wg fv w).at d3).cell? ⟨w.heap.size,0,none⟩=some (.pointer (some ⟨Wg,0,none⟩)):=by
  show (two Wg fv w).cell? ⟨w.heap.size,0,none⟩=_
  simp [World.cell?,two_w]
 have lf0:=Tryz.isAgg142
 have lf1:=Tryz.runUnderlying142
 have lf2:=Tryz.sizeOf142
 rw [cell?_at] at hbw
 go_simp
 refine hK _ _ ⟨⟨Nat.le_refl _,?_⟩,?_⟩
 ·unfold listed
  simp [go_sem, *]
  exact zar _ (by rfl)
 clear hK K
 exact Goes.stop fun w₁ ⟨d4,e⟩=>e ▸ hS d4

theorem makeG {P:Program} {a:Act} {o:Oper} {g:Nat} {x y:Operand} {w:World} (hop:o.op=.makeFunc (.func g) #[] #[x,y]):(execOp a.eval o).run P w=.ok (.value (.func (.func g) #[] #[a.eval x,a.eval y])) w:=by
 unfold execOp;simp [hop,Instr.makeFunc]
theorem z12r {P:Program} {a:Act} {o:Oper} {g:Nat} {x y:Operand} {w:World} (hop:o.op=.makeFunc (.func g) #[] #[x,y]) (fn:FuncId):listed P fn a o w=#[]:=by
 unfold listed
 have:(execOp a.eval o).events P w #[]=#[]:=by unfold execOp;simp [hop,Instr.makeFunc]
 rw [this];exact seen_none _ _

noncomputable def atGo (Wg:Nat) (fv:Value) (n:Nat) (v5:Value) (c:Frame) (cs:List Frame):Goroutine:=
 G ((base 110).at ⟨#[.pointer (some ⟨Wg,0,none⟩),fv,.pointer (some ⟨n,0,none⟩),.pointer (some ⟨n+1,0,none⟩),.pointer (some ⟨Wg,0,none⟩),v5,.func (.func 131) #[] #[.pointer (some ⟨n,0,none⟩),.pointer (some ⟨n+1,0,none⟩)]],[]⟩ [.inRegion (z1z (cr (cr bodyG))) [1]]) (c::cs)

set_option maxRecDepth 100000 in
theorem z1kf (n:Nat) (v5:Value) (w:World) (hS:∀d,Stop (atGo Wg fv n v5 c cs) (w.at d)):
  Goes Tryz.prog true AtRel DN Stop 20 (G ((base 110).at ⟨#[.pointer (some ⟨Wg,0,none⟩),fv,.pointer (some ⟨n,0,none⟩),.pointer (some ⟨n+1,0,none⟩),.pointer (some ⟨Wg,0,none⟩),v5,undef],[]⟩ [.inRegion (z1z (cl (cr bodyG))) [],.code (cr (cr bodyG))]) (c::cs)) w:=by
 unfold atGo at hS
 simp only [bodyG,Tryz.f110,Option.getD_some,cl,cr,z1z] at hS ⊢
 refine Goes.step rfl (fun wq hq=>?_)
 obtain ⟨dq,hdq⟩:=hq
 subst hdq
 try simp only [setCell_at,at_at]
 rw [stepG_region_end]
 simp only [goes_go]
 refine ⟨z8y (by intro e he;simp at he),?_⟩
 refine Goes.step rfl (fun wq hq=>?_)
 obtain ⟨dq,hdq⟩:=hq
 subst hdq
 try simp only [setCell_at,at_at]
 rw [stepG_region]
 simp only [goes_go,List.size_toArray,List.length_cons,List.length_nil,Nat.reduceAdd,Nat.zero_add,List.range,List.range.loop]
 refine ⟨z8y (by intro e he;simp at he),?_⟩
 refine Goes.step rfl (fun w₁ h₁=>?_)
 obtain ⟨d1,rfl⟩:=h₁
 rw [stepG_value rfl rfl (by k_ne) (makeG rfl),z12r rfl]
 simp only [goes_go]
 refine ⟨⟨Nat.le_refl _,rfl⟩,?_⟩
 walk_nrm
 exact Goes.stop fun w₁ ⟨d4,e⟩=>e ▸ hS d4

theorem goRun {P:Program} {a:Act} {o:Oper} {f:Operand} {ts:Array TypeId} {g:Nat} {cap:Array Value} {w:World} (hop:o.op=.go {callee:=.value f,args:=#[],argTypes:=ts}) (hv:a.eval f=.func (.func g) #[] cap):
  (execOp a.eval o).run P w=.ok (.spawn {target:=.fn (.func g) cap,args:=#[]}) w:=by
 unfold execOp;simp [hop,resolve,Deferred.ofValue,hv]
theorem goEv {P:Program} {a:Act} {o:Oper} {f:Operand} {ts:Array TypeId} {g:Nat} {cap:Array Value} {w:World} {fn:FuncId} (hop:o.op=.go {callee:=.value f,args:=#[],argTypes:=ts}) (hv:a.eval f=.func (.func g) #[] cap):listed P fn a o w=#[]:=by
 unfold listed
 have:(execOp a.eval o).events P w #[]=#[]:=by unfold execOp;simp [hop,resolve,Deferred.ofValue,hv]
 rw [this];exact seen_none _ _

theorem z1k7 (n:Nat) (v5:Value) (w:World):stepG Tryz.prog true (atGo Wg fv n v5 c cs) w=
  .spawn (G ((base 110).at ⟨#[.pointer (some ⟨Wg,0,none⟩),fv,.pointer (some ⟨n,0,none⟩),.pointer (some ⟨n+1,0,none⟩),.pointer (some ⟨Wg,0,none⟩),v5,.func (.func 131) #[] #[.pointer (some ⟨n,0,none⟩),.pointer (some ⟨n+1,0,none⟩)]],[]⟩ [.inRegion (z1z (cr (cr bodyG))) []]) (c::cs)) (Ai.born n (n+1)) w #[]:=by
 unfold atGo
 have e:∀a ops i rest o (hi:ops[i]? =some o),listed Tryz.prog (base 110).fn a o w=#[]→(∃ts,o.op=.go {callee:=.value (.tmp 6),args:=#[],argTypes:=ts})→a.eval (.tmp 6)=.func (.func 131) #[] #[.pointer (some ⟨n,0,none⟩),.pointer (some ⟨n+1,0,none⟩)]→Region.wanted o (yielded ops a.tmps)=true→
   stepG Tryz.prog true (G ((base 110).at a [.inRegion ops (i::rest)]) (c::cs)) w=.spawn (G ((base 110).at (a.put o.dst undef) [.inRegion ops rest]) (c::cs)) (Ai.born n (n+1)) w #[]:=by
  intro a ops i rest o hi hl ⟨ts,hop⟩ hv hw
  have:=stepG_spawn (P:=Tryz.prog) (main:=true) (b:=base 110) (k:=[]) (cs:=c::cs) (w:=w) (d:=call1 n (n+1)) (rest:=rest) hi hw (by k_ne) (goRun hop hv) rfl
  rw [hl] at this
  exact this
 have h:=e ⟨#[.pointer (some ⟨Wg,0,none⟩),fv,.pointer (some ⟨n,0,none⟩),.pointer (some ⟨n+1,0,none⟩),.pointer (some ⟨Wg,0,none⟩),v5,.func (.func 131) #[] #[.pointer (some ⟨n,0,none⟩),.pointer (some ⟨n+1,0,none⟩)]],[]⟩ (z1z (cr (cr bodyG))) 1 [] _ rfl
  (goEv (f:=.tmp 6) (ts:=#[]) (g:=131) (cap:=#[.pointer (some ⟨n,0,none⟩),.pointer (some ⟨n+1,0,none⟩)]) rfl rfl) ⟨_,rfl⟩ rfl rfl
 exact h

set_option maxRecDepth 100000 in
theorem z1kg {R:World→World→Prop} {D:Nat} {T:Array Value} {b:Frame} {a:Act} {ops:Array Oper} {i:Nat} {rest:List Nat} {k:List Item} {cs:List Frame} {w:World} {ops2:Array Oper}
  (h:Goes Tryz.prog true R DC0 Stop D (G (b.at (a.put ((ops[i]?).bind (·.dst)) (.tuple #[])) (.inRegion ops rest::k)) cs) w) (hR:∀w w₁,R w w₁→R w w₁) (hRt:∀a b c,R a b→R b c→R a c):
  Goes Tryz.prog true R DC0 Stop (D+3) (G ((base 110).at ⟨T,[]⟩ [.inRegion ops2 []]) (b.at a (.inRegion ops (i::rest)::k)::cs)) w:=by
 have hF:True:=trivial
 refine Goes.step rfl fun w₁ h₁=>?_
 rw [stepG_region_end];simp only [goes_go];refine ⟨by u_nil,?_⟩
 refine Goes.step rfl fun w₂ h₂=>?_
 rw [stepG_end];simp only [goes_go];refine ⟨by u_nil,?_⟩
 refine Goes.step rfl fun w₃ h₃=>?_
 refine goes_leave0 rfl rfl Tryz.func110 rfl ⟨by u_nil,?_⟩
 exact Goes.rely hRt h (hRt _ _ _ (hRt _ _ _ h₁ h₂) h₃)
end
end Go.Proofs.YthheoefadijhdaaGreat.Ai
