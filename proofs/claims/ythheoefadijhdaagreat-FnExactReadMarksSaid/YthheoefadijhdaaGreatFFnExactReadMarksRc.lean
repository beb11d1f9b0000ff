/- impl.rowsBy with one worker, in goroutine 0 beside leavers: it does what is said of it. -/
import Derived.Test.YthheoefadijhdaaGreatFFnExactReadMarksRb
set_option linter.unusedVariables false
set_option linter.unusedSectionVars false
set_option linter.unusedSimpArgs false
namespace Go.Proofs.YthheoefadijhdaaGreat.Ai
open Go Go.RowKit Go.Conc Go.Conc.Lib Go.ConcX.Gen
open Go.ConcX (stA smA OfWg KK WgAt DC0 rd wr mk AtR0 RCa KCa DCs EvS AtMkS Full Shy Payload)

theorem HR.growDead {Z:Zone} {ρ:Ren} {H:zn} {w:World} (h:HR Z ρ H w) (o:Obj) (n:Nat):HR (Z.off w.heap.size) (ρ++[(w.heap.size,0,n)]) (H++[none]) (w.alloc o):=by
 have hg:=h.grow o
 have get:∀b blk,(H++[none])[b]? =some (some blk)→H[b]? =some (some blk)∧b<H.length:=by
  intro b blk hb
  by_cases hlt:b<H.length
  ·rw [List.getElem?_append_left hlt] at hb;exact ⟨hb,hlt⟩
  ·rw [List.getElem?_append_right (by omega)] at hb
   cases hd:b-H.length with
   | zero=>rw [hd] at hb;simp at hb
   | succ k=>rw [hd] at hb;simp at hb
 have getρ:∀b x,b<H.length→(ρ++[(w.heap.size,0,n)])[b]? =some x→ρ[b]? =some x:=fun b x hlt hx=>by rwa [List.getElem?_append_left (by rw [←h.len];exact hlt)] at hx
 have hp:ρ <+:ρ++[(w.heap.size,0,n)]:=List.prefix_append _ _
 refine ⟨by simp [h.len],hg.fresh,fun b blk hb c base sz hc=>?_,fun b1 b2 blk1 blk2 hb1 hb2 hne ho c1 p1 s1 c2 p2 s2 g1 g2=>?_⟩
 ·obtain ⟨hb',hlt⟩:=get b blk hb
  obtain ⟨arr,e,fz,q1,q2,q3,q4,q5⟩:=hg.live b blk hb' c base sz (getρ b _ hlt hc)
  exact ⟨arr,e,fz,q1,q2,q3,fun i v hv=>by obtain ⟨v',e1,e2,e3⟩:=q4 i v hv;exact ⟨v',e1,e2.mono hp,e3⟩,q5⟩
 ·obtain ⟨hb1',hl1⟩:=get b1 blk1 hb1
  obtain ⟨hb2',hl2⟩:=get b2 blk2 hb2
  exact hg.sep b1 b2 blk1 blk2 hb1' hb2' hne ho c1 p1 s1 c2 p2 s2 (getρ b1 _ hl1 g1) (getρ b2 _ hl2 g2)

theorem z1r.narrow {Post:Value→World→Prop} {U:Nat→Prop} {Z:Zone} {n:Nat} {g:Goroutine} {w:World} (h:(z1r Tryz.prog Post fun c=>U c∨c=n).Will (Z.off n) g w) (hz:Z.rd n) (hn:n<w.heap.size):(z1r Tryz.prog Post U).Will Z g w:=by
 intro hU dd
 refine (h (fun c hc=>hc.elim (hU c) fun e=>e ▸ hn) dd).zone fun c hc=>?_
 rcases hc with hc | hc | hc
 ·exact .inl hc.1
 ·exact .inr hc
 ·exact .inl (hc ▸ hz)
theorem Kept.toW {Z:Zone} {Wg:Nat} {w0 w w':World} (h:Kept Z w0 w) {Z':Zone} (hz:Zle Z' Z) (k:KeptW Wg Z' w w') (hW:w0.heap.size≤Wg):Kept Z w0 w':=
 ⟨k.os.trans h.os,k.tape.trans h.tape,k.output.trans h.output,Nat.le_trans h.size k.size,fun x hx hw=>(k.block x (Nat.lt_of_lt_of_le hx h.size) (by omega) fun e=>hw ((hz _).1 e)).trans (h.block x hx hw)⟩

theorem z12k {P:Program} {main:Bool} {b:Frame} {a:Act} {k:List Item} {cs:List Frame} {ops:Array Oper} {i:Nat} {rest:List Nat} {o:Oper} {f:FuncId} {fn:Func} {c:Code} {args:Array Operand} {ats:Array TypeId}
  (ho:ops[i]? =some o) (hg:o.guard=none) (hk:b.kind≠.early) (hop:o.op=.call {callee:=.value (.func f),args,argTypes:=ats})
  (hf:P.funcs[f]? =some fn) (hname:(fn.name== "runtime.NumGoroutine")=false) (hb:fn.body=some c) {T:Array Value} (hT:args.map a.eval++Array.replicate (fn.ntmps-(args.map a.eval).size) undef=T) (w:World):
  stepG P main (G (b.at a (.inRegion ops (i::rest)::k)) cs) w=.go (G ((base f).at ⟨T,[]⟩ [.code c]) (b.at a (.inRegion ops (i::rest)::k)::cs)) w #[]:=by
 have hb':fn.body.isNone=false:=by rw [hb];rfl
 have:listed P b.fn a o w=#[]:=by unfold listed;rw [events_call_body hop hf hname hb'];exact seen_none P _
 rw [stepG_enter ho (by simp [Region.wanted,hg]) hk (run_call_body hop hf hname hb'),enter_at _ hf hb,this,hT]
theorem z6c (a:Act) (d:Option Nat) (v:Value):(a.put d v).defers=a.defers:=by cases d<;>rfl
theorem z1l0 {P:Program} {a:Act} {o:Oper} {g:Nat} {xs:Array Operand} {w:World} (hop:o.op=.makeFunc (.func g) #[] xs):(execOp a.eval o).run P w=.ok (.value (.func (.func g) #[] (xs.map a.eval))) w:=by
 unfold execOp;simp [hop,Instr.makeFunc]
theorem ev_mk {P:Program} {a:Act} {o:Oper} {g:Nat} {xs:Array Operand} {w:World} (hop:o.op=.makeFunc (.func g) #[] xs) (fn:FuncId):listed P fn a o w=#[]:=by
 unfold listed
 have:(execOp a.eval o).events P w #[]=#[]:=by unfold execOp;simp [hop,Instr.makeFunc]
 rw [this];exact seen_none _ _

section
variable {Post:Value→World→Prop} {U:Nat→Prop} {env:Env}

set_option maxRecDepth 100000 in
set_option maxHeartbeats 1000000 in
theorem z1kw (hm:Tryz.prog.follows .mixedOrders=true) (henv:∀g,FnOkX Tryz.prog (MainCls Tryz.prog) g (env g)) (hcl:FnOk Tryz.prog 111 (env 111))
  (h0:z3k (fun g=>((env g).quiet,(env g).tame)) (cl rbB)=true) (h1:z3k (fun g=>((env g).quiet,(env g).tame)) (cl rb1)=true) (h4:z3k (fun g=>((env g).quiet,(env g).tame)) (cr rb4)=true)
  {Z:Zone} {ρ:Ren} {H:zn} {w:World} {args args':List Value} {K:Value→zn→Prop} (hr:HR Z ρ H w) (ha:VRs ρ args args') (h:rbK Tryz.prog env args H K)
  {c:Frame} {cs:List Frame} (hn:Nexts (z1r Tryz.prog Post U) Z ρ w K fun Z' v' w'=>(z1r Tryz.prog Post U).Will Z' (G (c.finish v') cs) w'):(z1r Tryz.prog Post U).Will Z (G (Frame.enter Tryz.prog 69 args'.toArray .normal) (c::cs)) w:=by
 by_cases hUU:∀c,U c→c<w.heap.size
 case neg=>intro hU;exact absurd hU hUU
 have hbody:Tryz.f69.body=some rbB:=rfl
 have henter:Frame.enter Tryz.prog 69 args'.toArray .normal=(base 69).atR {tmps:=args'.toArray++Array.replicate (Tryz.f69.ntmps-args'.toArray.size) undef,defers:=[]} [.code rbB]:=by
  simp [Frame.enter,Frame.atR,Tryz.func69,hbody,base]
  rfl
 rw [henter]
 have hargs:VRs ρ (args++List.replicate (Tryz.f69.ntmps-args.length) undef) (args'.toArray++Array.replicate (Tryz.f69.ntmps-args'.toArray.size) undef).toList:=by
  have hl:=ha.1
  have e:(args'.toArray++Array.replicate (Tryz.f69.ntmps-args'.toArray.size) undef).toList=args'++List.replicate (Tryz.f69.ntmps-args.length) undef:=by simp [hl]
  rw [e]
  refine ha.append ?_
  have:∀n,VRs ρ (List.replicate n undef) (List.replicate n undef):=by
   intro n
   induction n with
   | zero=>exact .nil ρ
   | succ n ih=>exact .cons z7d ih
  exact this _
 unfold rbK at h
 rw [z1kv]
 refine Car.still (fun _=>z3z) ?_
 refine zaf (MainCls.mk Post U) hm henv (fun _=>z3h) (cl rbB) Z ρ H w _ _ _ (base 69) [.code rb1] (c::cs) (by k_ne) hr hargs h0 h ?_
 intro e tm1 H1 hq Z1 ρ1 w1 a1 z1 p1 r1 f1 d1 t1
 cases e with
 | ret=>exact hq.elim
 | exit _=>exact hq.elim
 | normal=>
 show (z1r Tryz.prog Post U).Will Z1 (G ((base 69).atR a1 [.code rb1]) (c::cs)) w1
 rw [z1kr]
 refine Car.still (fun _=>z3z) ?_
 refine zaf (MainCls.mk Post U) hm henv (fun _=>z3h) (cl rb1) Z1 ρ1 H1 w1 _ _ _ (base 69) [.code rb2] (c::cs) (by k_ne) r1 f1 h1 hq ?_
 intro e tm2 H2 hq Z2 ρ2 w2 a2 z2 p2 r2 f2 d2 t2
 cases e with
 | ret=>exact hq.elim
 | exit _=>exact hq.elim
 | normal=>
 show (z1r Tryz.prog Post U).Will Z2 (G ((base 69).atR a2 [.code rb2]) (c::cs)) w2
 rw [z1ks]
 refine Car.still (fun _=>z3z) ?_
 refine Car.still (fun _=>z7a) ?_
 dsimp only [nrm] at hq
 refine Car.step _ fun w3 hw3=>?_
 have r3:=(z1r Tryz.prog Post U).keep hw3 r2
 refine ⟨(base 69).atR (a2.put (some 10) (.pointer (some ⟨w3.heap.size,0,none⟩))) [.inRegion (z1z (cl rb2)) [],.code rb3],c::cs,w3.alloc (ConcX.wgBlock link.tWg 0 0),#[],?_,Kept.alloc (.refl _ _) _,by simp,?_⟩
 ·have:=stepR_value (P:=Tryz.prog) (main:=true) (b:=base 69) (a:=a2) (k:=[.code rb3]) (cs:=c::cs) (w:=w3) (ops:=z1z (cl rb2)) (i:=0) (rest:=[]) (o:=_) rfl rfl (fun c hc=>by cases hc) (by k_ne) (.inl (znr rfl))
  rw [zqk rfl] at this
  exact this
 generalize hWg:w3.heap.size=Wg
 have hrdW:Z2.rd Wg:=by rw [←hWg];exact (r3.fresh _ (Nat.le_refl _)).1
 refine z1r.narrow ?_ hrdW (by rw [←hWg,z3o];simp)
 have rD:=r3.growDead (ConcX.wgBlock link.tWg 0 0) 2
 rw [hWg] at rD
 have hWA:WgAt link.tWg Wg (w3.alloc (ConcX.wgBlock link.tWg 0 0)) 0 0:=by
  unfold ConcX.WgAt
  rw [←hWg,z3o]
  simp
 have hpre:ρ2 <+:ρ2++[(Wg,0,2)]:=List.prefix_append _ _
 have fD:VRs (ρ2++[(Wg,0,2)]) (tm2.set 10 (.pointer (some ⟨H2.length,0,none⟩))) (a2.put (some 10) (.pointer (some ⟨Wg,0,none⟩))).tmps.toList:=by
  have hv:VR (ρ2++[(Wg,0,2)]) (.pointer (some ⟨H2.length,0,none⟩)) (.pointer (some ⟨Wg,0,none⟩)):=by
   have:=VR.ptr (ρ:=ρ2++[(Wg,0,2)]) H2.length 0 Wg 0 2 (by rw [r2.len];simp)
   simpa using this
  exact z5t (f2.mono hpre) (some 10) hv
 have tD:Kept Z w (w3.alloc (ConcX.wgBlock link.tWg 0 0)):=by
  have e1:Kept Z w w2:=Kept.trans t1 (t2.mono fun c hc=>(z1 c).1 hc)
  have e2:Kept Z w w3:=e1.trans ((z1r Tryz.prog Post U).rT hw3 |>.mono fun c hc=>(z1 c).1 ((z2 c).1 hc))
  exact e2.alloc _
 have hWge:w.heap.size≤Wg:=by
  have e1:Kept Z w w2:=Kept.trans t1 (t2.mono fun c hc=>(z1 c).1 hc)
  have e2:Kept Z w w3:=e1.trans ((z1r Tryz.prog Post U).rT hw3 |>.mono fun c hc=>(z1 c).1 ((z2 c).1 hc))
  rw [←hWg];exact e2.size
 have hρD:(ρ2++[(Wg,0,2)])[H2.length]? =some (Wg,0,2):=by rw [r2.len];simp
 generalize w3.alloc (ConcX.wgBlock link.tWg 0 0)=wD at rD hWA tD ⊢
 have zD:Zle (Z2.off Wg) Z:=(Z2.off_le Wg).trans (z2.trans z1)
 have pD:ρ <+:ρ2++[(Wg,0,2)]:=p1.trans (p2.trans hpre)
 have dD:(a2.put (some 10) (.pointer (some ⟨Wg,0,none⟩))).defers=[]:=d2.trans d1
 generalize a2.put (some 10) (.pointer (some ⟨Wg,0,none⟩))=aD at fD dD ⊢
 generalize ρ2++[(Wg,0,2)]=ρD at rD fD pD hρD
 have hZr:¬(Z2.off Wg).rd Wg:=fun h=>h.2 rfl
 have hZw:¬(Z2.off Wg).wr Wg:=fun h=>h.2 rfl
 generalize Z2.off Wg=ZD at rD zD hZr hZw ⊢
 generalize tm2.set 10 (.pointer (some ⟨H2.length,0,none⟩))=tmD at hq fD
 refine Car.still (fun _=>z1w) ?_
 rw [z1kt]
 refine Car.still (fun _=>z3z) ?_
 refine Car.still (fun _=>z3z) ?_
 refine zaf (X:=zg9 _) trivial hm (fun g=>FnOkX.none _ _ g) (z8v.no rfl) (cl (cl rb3)) ZD ρD _ wD _ _ _ (base 69) [.code (.block 0 (.loop rbL)),.code rb4] (c::cs) (by k_ne) rD fD rfl hq ?_
 intro e tm4 H4 hq4 Z4 ρ4 w4 a4 z4 p4 r4 f4 d4 t4
 cases e with
 | ret=>exact hq4.elim
 | exit _=>exact hq4.elim
 | normal=>
 obtain ⟨⟨hlen,h21,h22⟩,hq⟩:=hq4
 show (z1r Tryz.prog Post fun c=>U c∨c=Wg).Will Z4 (G ((base 69).atR a4 [.code (.block 0 (.loop rbL)),.code rb4]) (c::cs)) w4
 have ev:∀{ρ:Ren} {tm:List Value} {a:Act} (hf:VRs ρ tm a.tmps.toList) (t:Nat),VR ρ (tm.getD t undef) (a.eval (.tmp t)):=fun {ρ tm a} hf t=>by
  have:=hf.getD t
  simpa [Act.eval,List.getD_eq_getElem?_getD] using this
 have int1:∀{ρ:Ren} {v:Value} {n:Int},VR ρ (.int .i64 n) v→v=.int .i64 n:=fun h=>by cases h;rfl
 have b21:a4.eval (.tmp 21)=.int .i64 1:=int1 (h21 ▸ ev f4 21)
 have b22:a4.eval (.tmp 22)=.int .i64 0:=int1 (h22 ▸ ev f4 22)
 have sz4:a4.tmps.size=57:=by have:=f4.1;simp at this;omega
 have b23:(a4.put (some 23) (.bool true)).eval (.tmp 23)=.bool true:=by rw [z2k];simp [sz4]
 refine Car.still (fun _=>zau) ?_
 refine Car.still (fun _=>zhf) ?_
 rw [zyp]
 refine Car.still (fun _=>z3z) ?_
 refine Car.still (fun _=>z7a) ?_
 refine Car.still (fr':=(base 69).atR (a4.put (some 23) (.bool true)) [.inRegion (z1z (cl rbL)) [],.code (.seq (.cond (.tmp 23) .skip (.exit 0)) rbX),.inLoop (.seq (.region 4 (z1z (cl rbL)) false) (.seq (.cond (.tmp 23) .skip (.exit 0)) rbX)),.inBlock 0,.code rb4]) (cs':=c::cs)
  (fun w=>val0 (main:=true) (b:=base 69) (a:=a4) (cs:=c::cs) (v:=.bool true) (ops:=z1z (cl rbL)) (i:=0) (rest:=[]) rfl rfl (by k_ne) (fun w=>zyw (x:=.tmp 22) (y:=.tmp 21) (m:=0) (n:=1) rfl b22 b21) (fun w=>z19t (x:=.tmp 22) (y:=.tmp 21) (m:=0) (n:=1) rfl b22 b21 _) w) ?_
 refine Car.still (fun _=>z1w) ?_
 refine Car.still (fun _=>z3z) ?_
 refine Car.still (fun _=>zhe (t:=true) b23) ?_
 refine Car.still (fun _=>zhg) ?_
 rw [←zyp,z1ky]
 refine Car.still (fun _=>z3z) ?_
 refine Car.still (fun _=>zau) ?_
 rw [z1kx]
 refine Car.still (fun _=>z3z) ?_
 refine zaf (X:=zg9 _) trivial hm (fun g=>FnOkX.none _ _ g) (z8v.no rfl) (cl rbI) Z4 ρ4 _ w4 (tm4.set 23 (.bool true)) _ _ (base 69) [.code (.region 6 (z1z (cr rbI)) false),.inBlock 1,.code (.region 7 (z1z (cr rbX)) false),.inLoop rbL,.inBlock 0,.code rb4] (c::cs) (by k_ne) r4 (z5t f4 (some 23) (.bool true)) rfl hq ?_
 intro e tm5 H5 hq5 Z5 ρ5 w5 a5 z5 p5 r5 f5 d5 t5
 cases e with
 | ret=>exact hq5.elim
 | exit _=>exact hq5.elim
 | normal=>
 obtain ⟨⟨hlen5,h10,h21,h22⟩,hq⟩:=hq5
 show (z1r Tryz.prog Post fun c=>U c∨c=Wg).Will Z5 (G ((base 69).atR a5 [.code (.region 6 (z1z (cr rbI)) false),.inBlock 1,.code (.region 7 (z1z (cr rbX)) false),.inLoop rbL,.inBlock 0,.code rb4]) (c::cs)) w5
 have sz5:a5.tmps.size=57:=by have:=f5.1;simp at this;omega
 have c21:a5.eval (.tmp 21)=.int .i64 1:=int1 (h21 ▸ ev f5 21)
 have c22:a5.eval (.tmp 22)=.int .i64 0:=int1 (h22 ▸ ev f5 22)
 have hρ5:ρ5[H2.length]? =some (Wg,0,2):=by
  obtain ⟨x,hx⟩:=p4.trans p5
  rw [←hx,List.getElem?_append_left (List.getElem?_eq_some_iff.1 hρD).1]
  exact hρD
 have c10:a5.eval (.tmp 10)=.pointer (some ⟨Wg,0,none⟩):=by
  have:=ev f5 10
  rw [h10] at this
  generalize a5.eval (.tmp 10)=q at this
  cases this with
  | ptr _ _ c' base' sz' hb=>rw [hρ5] at hb;cases hb;rfl
 have hW4:WgAt link.tWg Wg w4 0 0:=hWA.of_block (Kept.block t4 Wg hWA.lt hZw)
 have hW5:WgAt link.tWg Wg w5 0 0:=hW4.of_block (Kept.block t5 Wg hW4.lt fun h=>hZw ((z4 _).1 h))
 have t05:Kept Z w w5:=(Kept.trans tD (Kept.mono t4 fun c hc=>(zD c).1 hc)).trans (Kept.mono t5 fun c hc=>(zD c).1 ((z4 c).1 hc))
 have z05:Zle Z5 Z:=z5.trans (z4.trans zD)
 have p05:ρ <+:ρ5:=pD.trans (p4.trans p5)
 have hZr5:¬Z5.rd Wg:=fun h=>hZr ((z4 _).2 ((z5 _).2 h))
 have hZw5:¬Z5.wr Wg:=fun h=>hZw ((z4 _).1 ((z5 _).1 h))
 have d5':a5.defers=[]:=d5.trans (d4.trans dD)
 let fv:Value:=.func (.func 111) #[] ((#[.tmp 11,.tmp 3,.tmp 4,.tmp 5,.tmp 8,.tmp 9]:Array Operand).map a5.eval)
 refine Car.still (fun _=>z7a) ?_
 refine Car.still (fr':=(base 69).atR (a5.put (some 25) fv) [.inRegion (z1z (cr rbI)) [1],.inBlock 1,.code (.region 7 (z1z (cr rbX)) false),.inLoop rbL,.inBlock 0,.code rb4]) (cs':=c::cs)
  (fun w=>val0 (main:=true) (b:=base 69) (a:=a5) (cs:=c::cs) (v:=fv) (ops:=z1z (cr rbI)) (i:=0) (rest:=[1]) rfl rfl (by k_ne) (fun w=>z1l0 rfl) (fun w=>ev_mk (g:=111) (xs:=#[.tmp 11,.tmp 3,.tmp 4,.tmp 5,.tmp 8,.tmp 9]) rfl _) w) ?_
 have g10:(a5.put (some 25) fv).eval (.tmp 10)=.pointer (some ⟨Wg,0,none⟩):=by rw [z2k];simp [c10]
 have g25:(a5.put (some 25) fv).eval (.tmp 25)=fv:=by rw [z2k];simp [sz5]
 have hT:(#[.tmp 10,.tmp 25]:Array Operand).map (a5.put (some 25) fv).eval++Array.replicate (Tryz.f110.ntmps-((#[.tmp 10,.tmp 25]:Array Operand).map (a5.put (some 25) fv).eval).size) undef=#[.pointer (some ⟨Wg,0,none⟩),fv,undef,undef,undef,undef,undef]:=by
  have e:(#[.tmp 10,.tmp 25]:Array Operand).map (a5.put (some 25) fv).eval=#[.pointer (some ⟨Wg,0,none⟩),fv]:=by simp [g10,g25]
  rw [e]
  rfl
 refine Car.still (fr':=(base 110).at ⟨#[.pointer (some ⟨Wg,0,none⟩),fv,undef,undef,undef,undef,undef],[]⟩ [.code bodyG]) (cs':=(base 69).at (a5.put (some 25) fv) [.inRegion (z1z (cr rbI)) [1],.inBlock 1,.code (.region 7 (z1z (cr rbX)) false),.inLoop rbL,.inBlock 0,.code rb4]::c::cs)
  (fun w=>z12k (main:=true) (b:=base 69) (a:=a5.put (some 25) fv) (cs:=c::cs) (ops:=z1z (cr rbI)) (i:=1) (rest:=[]) (f:=110) (fn:=Tryz.f110) (c:=bodyG) rfl rfl (by k_ne) rfl Tryz.func110 nmG rfl hT w) ?_
 intro hU5 dd
 have r5':HR Z5 ρ5 H5 (w5.at dd):=r5.drew (zhx w5 dd)
 have hUW:¬U Wg:=fun h=>by have:=hUU _ h;omega
 refine z1k5 hUW (S:=env 111) hcl (args:=[11,3,4,5,8,9].map fun t=>tm5.getD t undef) ?_ hq hZr5 hZw5 r5' hW5 (b:=base 69) (a:=a5.put (some 25) fv) (ops:=z1z (cr rbI)) (i:=1) (rest:=[]) (b2:=base 69) (a2:=rbAct (a5.put (some 25) fv)) (ops2:=z1z (cl rb4)) (i2:=0) (rest2:=[]) (k2:=[.code (cr rb4)]) (cs2:=c::cs) (D:=30)
  (fun Fu hFu w₁ hKA=>rbMid (by rw [zd7];exact sz5) g10 (by rw [z2k];simp [c21]) (by rw [z2k];simp [c22]) Fu hFu w₁ hKA) ?_
 ·have e:((#[]:Array Value)++(#[.tmp 11,.tmp 3,.tmp 4,.tmp 5,.tmp 8,.tmp 9]:Array Operand).map a5.eval).toList=[a5.eval (.tmp 11),a5.eval (.tmp 3),a5.eval (.tmp 4),a5.eval (.tmp 5),a5.eval (.tmp 8),a5.eval (.tmp 9)]:=by simp
  rw [e]
  exact .cons (ev f5 11) (.cons (ev f5 3) (.cons (ev f5 4) (.cons (ev f5 5) (.cons (ev f5 8) (.cons (ev f5 9) (.nil _))))))
 ·intro w₁ Z' ρ' H' v hK hz hp hr' hkw dd
  let aF:Act:=(rbAct (a5.put (some 25) fv)).put (some 28) (.tuple #[])
  have hU1:∀c,U c→c<w₁.heap.size:=fun c hc=>by have h1:=hUU c hc;have h2:=t05.size;have h3:w5.heap.size≤w₁.heap.size:=hkw.size;omega
  have fvR:VR ρ' (.func (.func 111) #[] (#[11,3,4,5,8,9].map fun t=>tm5.getD t undef)) fv:=by
   refine .func _ _ _ _ _ rfl (fun i x y hx _=>by simp at hx) (by simp) (fun i x y hx hy=>?_)
   simp only [Array.getElem?_map] at hx hy
   obtain ⟨t,ht,rfl⟩:=Option.map_eq_some_iff.1 hx
   obtain ⟨u,hu,rfl⟩:=Option.map_eq_some_iff.1 hy
   have hu':u=.tmp t:=by
    have hi:i<6:=by have:=(Array.getElem?_eq_some_iff.1 ht).1;simpa using this
    match i,hi with
    | 0,_=>simp at ht hu;subst ht hu;rfl
    | 1,_=>simp at ht hu;subst ht hu;rfl
    | 2,_=>simp at ht hu;subst ht hu;rfl
    | 3,_=>simp at ht hu;subst ht hu;rfl
    | 4,_=>simp at ht hu;subst ht hu;rfl
    | 5,_=>simp at ht hu;subst ht hu;rfl
   rw [hu']
   exact (ev f5 t).mono hp
  have uR:VR ρ' unit0 (.tuple #[]):=z7d
  have fE:VRs ρ' (rbEnd tm5) aF.tmps.toList:=
   z5t (z5t (z5t (z5t (z5t (z5t (f5.mono hp) (some 25) fvR) (some 26) uR) (some 27) (.int .i64 1)) (some 22) (.int .i64 1)) (some 23) (.bool false)) (some 28) uR
  have dF:aF.defers=[]:=by
   show ((rbAct (a5.put (some 25) fv)).put (some 28) (.tuple #[])).defers=[]
   unfold rbAct
   rw [z6c,z6c,z6c,z6c,z6c,z6c]
   exact d5'
  refine (?_:(z1r Tryz.prog Post U).Will Z' (G ((base 69).atR aF [.inRegion (z1z (cl rb4)) [],.code (cr rb4)]) (c::cs)) w₁) hU1 dd
  have tF:Kept Z w w₁:=Kept.toW t05 z05 (⟨hkw.os,hkw.tape,hkw.output,hkw.size,hkw.block⟩:KeptW Wg Z5 w5 w₁) hWge
  refine Car.still (fun _=>z1w) ?_
  refine zaf (MainCls.mk Post U) hm henv (fun _=>z3h) (cr rb4) Z' ρ' H' w₁ (rbEnd tm5) aF _ (base 69) [] (c::cs) (by k_ne) hr' fE h4 hK ?_
  intro e tm6 H6 hq6 Z6 ρ6 w6 a6 z6 p6 r6 f6 d6 t6
  have fin:resK Tryz.prog Tryz.f69.results.toList tm6 H6 (fun l=>K (zft l) H6)→∀todo,(z1r Tryz.prog Post U).Will Z6 (G {(base 69).atR a6 todo with mode:=.returning} (c::cs)) w6:=by
   intro hk todo
   exact zkv (fn:=Tryz.f69) r6 f6 rfl (d6.trans dF) Tryz.func69 rfl hk (fun l hl w7 v' q1 q2 q3=>hn _ H6 hl Z6 ρ6 w7 v' (z6.trans (hz.trans z05)) (p05.trans (hp.trans p6)) q1 q2 (Kept.trans tF ((Kept.trans t6 (Kept.mono q3 fun c hc=>(z6 c).1 hc)).mono fun c hc=>(z05 c).1 ((hz c).1 hc)))) todo
  cases e with
  | normal=>exact Car.still (fun _=>zf4 rfl) (fin hq6 [])
  | ret=>exact fun todo=>Car.still (fun _=>zf5 rfl) (fin hq6 (.code .ret::todo))
  | exit id=>exact hq6.elim

theorem rbOk (hm:Tryz.prog.follows .mixedOrders=true) (henv:∀g,FnOkX Tryz.prog (MainCls Tryz.prog) g (env g)) (hcl:FnOk Tryz.prog 111 (env 111))
  (h0:z3k (fun g=>((env g).quiet,(env g).tame)) (cl rbB)=true) (h1:z3k (fun g=>((env g).quiet,(env g).tame)) (cl rb1)=true) (h4:z3k (fun g=>((env g).quiet,(env g).tame)) (cr rb4)=true)
  {S:FSpec} (mono:∀(args:List Value) (H:zn) (K K':Value→zn→Prop),(∀v H',K v H'→K' v H')→S.F args H K→S.F args H K')
  (quiet:S.quiet=true→∀(args:List Value) (H:zn) (K:Value→zn→Prop),S.F args H K→∃v,K v H∧∀K':Value→zn→Prop,K' v H→S.F args H K')
  (live:∀(args:List Value) (H:zn) (K:Value→zn→Prop),S.F args H K→∃v H',K v H')
  (tame:S.tame=true→∀(args:List Value) (H:zn) (K:Value→zn→Prop),S.F args H K→S.F args H fun v H'=>Grow H H'∧K v H')
  (h:∀(args:List Value) (H:zn) (K:Value→zn→Prop),S.F args H K→rbK Tryz.prog env args H K):FnOkX Tryz.prog (MainCls Tryz.prog) 69 S:=by
 refine ⟨mono,quiet,live,tame,?_⟩
 intro main C hX Z ρ H w args args' K hr ha hk b a k cs ops i rest o ho hw hkd hdf hex hnext
 cases hX with
 | mk Post U=>
 refine Car.step _ fun w₁ h₁=>?_
 have hrun:=zm8 Tryz.func69 (c:=rbB) rfl (by kernel_rfl) args'.toArray w₁
 refine ⟨_,_,w₁,#[],zf6 ho hw hdf hkd (by rw [hex];exact hrun.1) (by rw [hex];exact hrun.2 _),.refl _ _,by simp,?_⟩
 refine z1kw hm henv hcl h0 h1 h4 ((z1r Tryz.prog Post U).keep h₁ hr) ha (h args H K hk) ?_
 intro v H' hk' Z' ρ' w' v' q0 q1 q2 q3 q4
 have hfin:(b.atR a (.inRegion ops (i::rest)::k)).finish v'=b.atR (a.put o.dst v') (.inRegion ops rest::k):=by rw [Frame.finish_atR,ho];rfl
 rw [hfin]
 exact hnext v H' hk' Z' ρ' w' v' q0 q1 q2 q3 (Kept.trans ((z1r Tryz.prog Post U).rT h₁) q4)
end
end Go.Proofs.YthheoefadijhdaaGreat.Ai
