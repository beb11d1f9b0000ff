/- The library's WaitGroup.Go: what the child does around the function it was given. -/
import Derived.Test.YthheoefadijhdaaGreatFFnExactReadMarksWl
set_option linter.unusedVariables false
set_option linter.unusedSectionVars false
set_option linter.unusedSimpArgs false
namespace Go.Proofs.YthheoefadijhdaaGreat.Ai
open Go Go.RowKit Go.Conc Go.Conc.Lib Go.ConcX.Gen
open Go.ConcX (stA smA OfWg KK WgAt DC0 rd wr mk AtR0 RCa KCa DCs Full Shy Payload)

noncomputable def bot:Frame:={(default:Frame) with fn:=Tryz.prog.funcs.size,defers:=[],mode:=.panicking [goexitEntry]}
def call1 (cw cf:Nat):Deferred:={target:=.fn (.func 131) #[.pointer (some ⟨cw,0,none⟩),.pointer (some ⟨cf,0,none⟩)],args:=#[]}
def zvk (cw:Nat):Deferred:={target:=.fn (.func 132) #[.pointer (some ⟨cw,0,none⟩)],args:=#[]}
noncomputable def born (cw cf:Nat):Goroutine:={frame:={(default:Frame) with fn:=Tryz.prog.funcs.size,defers:=[call1 cw cf],mode:=.panicking [goexitEntry]},callers:=[],status:=.running,dying:=none}
noncomputable def body1:Code:=Tryz.f131.body.getD .skip
noncomputable def body2:Code:=Tryz.f132.body.getD .skip
def z1z:Code→Array Oper
 | .region _ ops _=>ops
 | _=>#[]
noncomputable def atCall (cw cf:Nat) (fv:Value):Goroutine:=
 G ((baseD 131).at ⟨#[.pointer (some ⟨cw,0,none⟩),.pointer (some ⟨cf,0,none⟩),.func (.func 132) #[] #[.pointer (some ⟨cw,0,none⟩)],fv,undef],[zvk cw]⟩ [.inRegion (z1z (cr body1)) [1]]) [bot]
noncomputable def behind (cw cf:Nat) (fv v:Value):Goroutine:=
 G ((baseD 131).at ⟨#[.pointer (some ⟨cw,0,none⟩),.pointer (some ⟨cf,0,none⟩),.func (.func 132) #[] #[.pointer (some ⟨cw,0,none⟩)],fv,v],[zvk cw]⟩ [.inRegion (z1z (cr body1)) []]) [bot]

theorem nm1:(Tryz.f131.name== "runtime.NumGoroutine")=false:=by kernel_rfl
theorem nm2:(Tryz.f132.name== "runtime.NumGoroutine")=false:=by kernel_rfl
theorem zyn (a2:Act) (ha2:a2.defers=[]) (ops2:Array Oper) (T:Array Value):QuitsD Tryz.prog 5 0 (G ((baseD 132).at a2 [.inRegion ops2 []]) [{(baseD 131).at ⟨T,[]⟩ [] with mode:=.returning},bot]):=by
 q_c stepG_region_end
 q_c stepG_end
 refine QuitsD.leaveD rfl ha2 Tryz.func132 rfl rfl ?_
 refine QuitsD.ctl (g':=G bot []) rfl (fun w=>?_) ?_
 ·simp [G,stepG,unwind,doReturn,results,Frame.at,baseD,bot,Tryz.func131,Tryz.f131,seen,GStep.after,goexitEntry]
 refine QuitsD.ctl (g':={G bot [] with status:=.finished}) rfl (fun w=>?_) ⟨rfl,rfl⟩
 simp [G,stepG,unwind,bot,goexitEntry,Frame.catches]
 rfl

theorem zar {P:Program} {fn:FuncId} (ad:Addr) {wr:Bool} (h:(P.funcs[fn]?).any (·.norace)=true):seen P fn #[⟨.cell ad,wr,false⟩]=#[]:=by simp [seen,h]
theorem zmb {P:Program} {main:Bool} {b:Frame} {a:Act} {k:List Item} {cs:List Frame} {w:World} {ops:Array Oper} {i:Nat} {rest:List Nat} {o:Oper} {f:Operand} {g:Nat} {cap:Array Value} {ats:Array TypeId} (ho:ops[i]? =some o) (hw:Region.wanted o (yielded ops a.tmps)=true) (hk:b.kind≠.early)
  (hop:o.op=.defer {callee:=.value f,args:=#[],argTypes:=ats}) (ef:a.eval f=.func (.func g) #[] cap):
  stepG P main (G (b.at a (.inRegion ops (i::rest)::k)) cs) w=.go (G (b.at (Act.put ⟨a.tmps,{target:=.fn (.func g) cap,args:=#[]}::a.defers⟩ o.dst undef) (.inRegion ops rest::k)) cs) w #[]:=by
 have hr:(execOp a.eval o).run P w=.ok (.defer {target:=.fn (.func g) cap,args:=#[]}) w:=by
  unfold execOp
  simp [hop,resolve,Deferred.ofValue,ef]
 have he:(execOp a.eval o).events P w #[]=#[]:=by
  unfold execOp
  simp [hop,resolve,Deferred.ofValue,ef]
 have hfin:(b.at ⟨a.tmps,{target:=.fn (.func g) cap,args:=#[]}::a.defers⟩ (.inRegion ops (i::rest)::k)).finish undef=b.at (Act.put ⟨a.tmps,{target:=.fn (.func g) cap,args:=#[]}::a.defers⟩ o.dst undef) (.inRegion ops rest::k):=by rw [Frame.finish_at,ho];rfl
 have hk':(b.kind==CallKind.early)=false:=by simpa using hk
 rw [stepG_oper ho hw,←hfin]
 simp [stepG.apply,hr,he,G,Frame.at,hk',GStep.after,seen_none]

section
variable {Wg cw cf:Nat} {fv:Value}
structure KBx (Wg cw cf:Nat) (fv:Value) (w:World):Prop where
 bw:w.cell? ⟨cw,0,none⟩=some (.pointer (some ⟨Wg,0,none⟩))
 bf:w.cell? ⟨cf,0,none⟩=some fv
theorem KBx.rc {ty:TypeId} (h1:cw≠Wg) (h2:cf≠Wg) {w w₁:World} (h:KBx Wg cw cf fv w) (r:RC ty Wg w w₁):KBx Wg cw cf fv w₁:=
 ⟨(World.cell?_of_block (r.block cw h1)).trans h.bw,(World.cell?_of_block (r.block cf h2)).trans h.bf⟩

set_option maxRecDepth 100000 in
theorem z1h5 {ty:TypeId} (h1:cw≠Wg) (h2:cf≠Wg) {Stop:Goroutine→World→Prop} (w:World) (hF₀:KBx Wg cw cf fv w) (hS:∀w₁,RC ty Wg w w₁→Stop (atCall cw cf fv) w₁):Goes Tryz.prog false (RC ty Wg) DC0 Stop 12 (born cw cf) w:=by
 have e1:∀w₁,stepG Tryz.prog false (born cw cf) w₁=.go (G ((baseD 131).at ⟨#[.pointer (some ⟨cw,0,none⟩),.pointer (some ⟨cf,0,none⟩),undef,undef,undef],[]⟩ [.code body1]) [bot]) w₁ #[]:=by
  intro w₁
  have h1:¬Tryz.f131.name= "runtime.NumGoroutine" :=by simpa using nm1
  have hb:Tryz.f131.body=some body1:=rfl
  have he:=enter_atD (P:=Tryz.prog) #[.pointer (some ⟨cw,0,none⟩),.pointer (some ⟨cf,0,none⟩)] Tryz.func131 hb
  have e2:(#[.pointer (some ⟨cw,0,none⟩),.pointer (some ⟨cf,0,none⟩)]++Array.replicate (Tryz.f131.ntmps-(#[.pointer (some ⟨cw,0,none⟩),.pointer (some ⟨cf,0,none⟩)]:Array Value).size) undef:Array Value)=#[.pointer (some ⟨cw,0,none⟩),.pointer (some ⟨cf,0,none⟩),undef,undef,undef]:=rfl
  rw [e2] at he
  rw [←he]
  simp [born,G,stepG,unwind,callDeferred,call1,bot,invoke,callFunc,Tryz.func131,h1,hb,GStep.after,seen_none]
 have hF:KBx Wg cw cf fv w∧RC ty Wg w w:=⟨hF₀,.refl _ _ _⟩
 generalize hw0:w=w0 at hF hS ⊢
 have hF':KBx Wg cw cf fv w0∧RC ty Wg w w0:=by rw [hw0];exact hF
 have hS':∀w₁,RC ty Wg w w₁→Stop (atCall cw cf fv) w₁:=by rw [hw0];exact hS
 clear hF hS
 have hF:=hF'
 clear hF'
 have rl:∀{w1 w₁:World},KBx Wg cw cf fv w1∧RC ty Wg w w1→RC ty Wg w1 w₁→KBx Wg cw cf fv w₁∧RC ty Wg w w₁:=fun h r=>⟨h.1.rc h1 h2 r,h.2.trans r⟩
 clear hw0
 u_in rl hF
 rw [e1]
 simp only [goes_go]
 refine ⟨by u_nil,?_⟩
 have lf0:=Tryz.isAgg1
 have lf1:=Tryz.runUnderlying1
 have lf2:=Tryz.sizeOf1
 simp only [body1,Tryz.f131,Option.getD_some]
 u_c stepG_seq rl hF
 u_reg rl hF
 u_op rl hF
 u_in rl hF
 rw [zmb (g:=132) (cap:=#[.pointer (some ⟨cw,0,none⟩)]) rfl rfl (by k_ne) rfl (by simp [Act.eval])]
 simp only [goes_go]
 refine ⟨by u_nil,?_⟩
 walk_nrm
 u_c stepG_region_end rl hF
 u_reg rl hF
 u_in rl hF
 refine goes_oper_k rfl rfl (by k_ne) (fun K hK=>?_)
 have hbf:=hF.1.bf
 go_simp
 refine hK _ _ ⟨⟨rfl,?_⟩,?_⟩
 ·unfold listed
  simp [go_sem, *]
  exact zar _ (by rfl)
 clear hK K
 exact Goes.stop fun w₂ h₂=>hS' w₂ (hF.2.trans h₂)

theorem zfx {P:Program} {main:Bool} {b c:Frame} {a:Act} {k:List Item} {cs:List Frame} {w:World} {ops:Array Oper} {i:Nat} {rest:List Nat} {o:Oper} {ats:Array TypeId} (ho:ops[i]? =some o) (hw:Region.wanted o (yielded ops a.tmps)=true) (hk:b.kind=.deferred)
  (hop:o.op=.call {callee:=.builtin .recover,args:=#[],argTypes:=ats}) (hc:c.mode=.returning):
  stepG P main (G (b.at a (.inRegion ops (i::rest)::k)) (c::cs)) w=.go (G (b.at (a.put o.dst .nilIface) (.inRegion ops rest::k)) (c::cs)) w #[]:=by
 have hr:(execOp a.eval o).run P w=.ok .recover w:=by
  unfold execOp
  simp [hop,resolve,invoke,builtin]
 have he:(execOp a.eval o).events P w #[]=#[]:=by
  unfold execOp
  simp [hop,resolve,invoke,builtin]
 have hfin:(b.at a (.inRegion ops (i::rest)::k)).finish .nilIface=b.at (a.put o.dst .nilIface) (.inRegion ops rest::k):=by rw [Frame.finish_at,ho];rfl
 have hk':(b.kind==CallKind.early)=false:=by rw [hk];rfl
 rw [stepG_oper ho hw,←hfin]
 simp [stepG.apply,hr,he,G,Frame.at,hk,hk',GStep.after,seen_none,tryRecover,hc]

theorem zxi [Payload] {vals:List Value} {x:Value} (hv:vals[0]? =some x) {w:World} (h:Full cw vals w):w.cell? ⟨cw,0,none⟩=some x:=by
 have:=h rfl
 unfold World.cell?
 rw [this]
 simp [hv]

theorem zqj {P:Program} {t:TypeId} {ms:Array String} (h:P.underlying t=some (.interface #[])) (w:World) (d:Nat) (es:Array Event):Sem.events P (Op.equalIn (d+1) t .nilIface .nilIface) w es=es:=by
 have:=run_underlying (P:=P) (w:=w) h
 simp [Op.equalIn,this,go_sem]
theorem z1km (w:World) (es:Array Event):Sem.events Tryz.prog (binOp .neq 20 .nilIface .nilIface) w es=es:=by
 have h:Tryz.prog.underlying 20=some (.interface #[]):=Tryz.underlying20
 have e:=fun es=>zqj (ms:=#[]) h w 9999 es
 have r:=run_equalIn_nil_nil (P:=Tryz.prog) w 9999 20 (by rw [h];simp [Program.methodsAt,h])
 have e2:binOp .neq 20 .nilIface .nilIface=(do pure (.bool (!(←Op.equalIn 10000 20 .nilIface .nilIface))):Sem Value):=rfl
 rw [e2]
 simp only [Sem.events_bind,r,Result.evThen_ok,Sem.events_pure,e]

set_option maxRecDepth 100000 in
set_option maxHeartbeats 800000 in
theorem z1h6 [Payload] {Mine:Loc→Prop} {Low:Nat} [Shy Wg cw] {vals:List Value} (hW:Wg<Low) (hC:cw<Low) (hCW:cw≠Wg) (hv:vals[0]? =some (.pointer (some ⟨Wg,0,none⟩))) (v:Value) (w:World) (hK:KCa link.tWg Wg w∧Full cw vals w):
  Goes Tryz.prog false (RCa link.tWg Wg Low) (DCs Mine Wg cw) (AtR0 Tryz.prog link.tWg Wg cw Low vals) 60 (behind cw cf fv v) w:=by
 have H:=wgLib
 have hA:=@addNeg _ link Tryz.prog H Mine Wg cw Low _ vals hW hC hCW
 unfold behind
 simp only [body1,Tryz.f131,Option.getD_some,cr,z1z]
 u_c stepG_region_end (ka_rely hC hCW) hK
 u_c stepG_end (ka_rely hC hCW) hK
 have e2:∀(T:Array Value) w₁,stepG Tryz.prog false (G {(baseD 131).at ⟨T,[zvk cw]⟩ [] with mode:=.returning} [bot]) w₁=.go (G ((baseD 132).at ⟨#[.pointer (some ⟨cw,0,none⟩),undef,undef,undef,undef,undef,undef,undef],[]⟩ [.code body2]) [{(baseD 131).at ⟨T,[]⟩ [] with mode:=.returning},bot]) w₁ #[]:=by
  intro T w₁
  have h1:¬Tryz.f132.name= "runtime.NumGoroutine" :=by simpa using nm2
  have hb:Tryz.f132.body=some body2:=rfl
  have he:=enter_atD (P:=Tryz.prog) #[.pointer (some ⟨cw,0,none⟩)] Tryz.func132 hb
  have e2:(#[.pointer (some ⟨cw,0,none⟩)]++Array.replicate (Tryz.f132.ntmps-(#[.pointer (some ⟨cw,0,none⟩)]:Array Value).size) undef:Array Value)=#[.pointer (some ⟨cw,0,none⟩),undef,undef,undef,undef,undef,undef,undef]:=rfl
  rw [e2] at he
  rw [←he]
  simp [G,Frame.at,baseD,stepG,unwind,callDeferred,zvk,bot,invoke,callFunc,Tryz.func132,h1,hb,GStep.after,seen_none]
 u_in (ka_rely hC hCW) hK
 rw [e2]
 simp only [goes_go]
 refine ⟨by u_nil,?_⟩
 simp only [body2,Tryz.f132,Option.getD_some]
 u_c stepG_seq (ka_rely hC hCW) hK
 u_c stepG_seq (ka_rely hC hCW) hK
 u_reg (ka_rely hC hCW) hK
 u_in (ka_rely hC hCW) hK
 rw [zfx rfl rfl rfl rfl rfl]
 simp only [goes_go]
 refine ⟨by u_nil,?_⟩
 walk_nrm
 u_op (ka_rely hC hCW) hK
 u_c stepG_region_end (ka_rely hC hCW) hK
 u_c stepG_seq (ka_rely hC hCW) hK
 u_reg (ka_rely hC hCW) hK
 u_op (ka_rely hC hCW) hK
 have hb2:=z1km
 u_op (ka_rely hC hCW) hK
 clear hb2
 u_c stepG_region_end (ka_rely hC hCW) hK
 u_cond false (ka_rely hC hCW) hK
 u_c stepG_skip (ka_rely hC hCW) hK
 u_reg (ka_rely hC hCW) hK
 have lf0:=Tryz.isAgg142
 have lf1:=Tryz.runUnderlying142
 have lf2:=Tryz.sizeOf142
 u_in (ka_rely hC hCW) hK
 refine goes_oper_k rfl rfl (by k_ne) (fun K hK'=>?_)
 have hbw:=zxi hv hK.2
 go_simp
 refine hK' _ _ ⟨⟨Aside.refl _ _,fun e he=>?_⟩,?_⟩
 ·unfold listed at he
  simp [go_sem,hbw,lf0,lf1,lf2] at he
  exact absurd he (by rw [show (Mode.plain==Mode.atomic)=false from rfl,zar _ (by rfl)];simp)
 clear hK' K
 u_call H.f_done (nm_done link) doneFn (ka_rely hC hCW) hK
 simp only [body_add,addFn,Option.getD_some] at hA ⊢
 u_reg (ka_rely hC hCW) hK
 u_op (ka_rely hC hCW) hK
 u_in (ka_rely hC hCW) hK
 refine goes_call rfl rfl (by k_ne) rfl H.f_add (nm_add link) rfl ⟨by u_nil,?_⟩
 walk_nrmf addFn
 refine Goes.mono (n:=20) (hA (qt:=8) ?_ _ hK) (by decide)
 q_c stepG_region_end
 q_c stepG_end
 q_leave0 H.f_done
 exact zyn _ rfl _ _
end
end Go.Proofs.YthheoefadijhdaaGreat.Ai
