/- Goroutine 0 through the library's Wait, whatever its child does besides. -/
import Derived.Test.YthheoefadijhdaaGreatFFnExactReadMarksTr
set_option linter.unusedVariables false
set_option linter.unusedSectionVars false
set_option linter.unusedSimpArgs false
namespace Go.Proofs.YthheoefadijhdaaGreat.Ai
open Go Go.RowKit Go.Conc Go.Conc.Lib Go.ConcX.Gen
open Go.ConcX (stA smA OfWg KK WgAt DC0 rd wr mk)

section
variable {Wg:Nat} {Fu:World→Prop} {L:WgLink}
theorem z15d {ty:TypeId} {w:World} (h:KB ty Wg Fu w):∃v,w.cell? ⟨Wg,1,none⟩=some v:=by
 rcases h with x | x | x | x
 ·exact ⟨_,x.cellSm⟩
 ·exact ⟨_,x.cellSm⟩
 ·exact ⟨_,x.cellSm⟩
 ·exact ⟨_,x.1.cellSm⟩
theorem z1f {ty:TypeId} {w w₁:World} (h:KA ty Wg Fu w) (r:RMa ty Wg Fu w w₁):KA ty Wg Fu w₁:=r.ka h
theorem z2d {ty:TypeId} {w w₁:World} (h:KB ty Wg Fu w) (r:RMb ty Wg Fu w w₁):KB ty Wg Fu w₁:=r.kb h
theorem z1d (hFu:∀w d,Fu w→Fu (w.at d)) {ty:TypeId} {w w₁:World} (h:KC ty Wg Fu w) (r:AtRel w w₁):KC ty Wg Fu w₁:=by
 obtain ⟨d,rfl⟩:=r
 exact ⟨h.1,hFu _ _ h.2⟩

def zmo (L:WgLink) (Fu:World→Prop) (Wg:Nat) (c:Frame) (cs:List Frame) (g:Goroutine) (w:World):Prop:=
 ∃T:Array Value,g=G ((base L.wait).at ⟨T,[]⟩ [.code (L7 L),.inLoop (L7 L),.inBlock 0]) (c::cs)∧T.size=84∧T[0]? =some (.pointer (some ⟨Wg,0,none⟩))∧KA L.tWg Wg Fu w
def WNext (P:Program) (L:WgLink) (Fu:World→Prop) (Wg:Nat) (g' g:Goroutine) (w:World):Prop:=(∃m,Goes P true AtRel DC0 (fun x _=>x=g') m g w)∧KC L.tWg Wg Fu w

variable {b₀:Frame} {a₀:Act} {ops₀:Array Oper} {i₀:Nat} {rest₀:List Nat} {k₀:List Item} {cs:List Frame}

set_option maxRecDepth 100000 in
set_option maxHeartbeats 8000000 in
theorem z1l7 {P:Program} (H:WgLib P L) (hFu:∀w d,Fu w→Fu (w.at d)) (hFc:∀w v,Fu w→Fu (w.setCell (smA Wg) v))
  (g:Goroutine) (w:World) (h:zmo L Fu Wg (b₀.at a₀ (.inRegion ops₀ (i₀::rest₀)::k₀)) cs g w):
  ∃m,Goes P true (RMa L.tWg Wg Fu) DC0 (MW1 P L.tWg Wg Fu (WNext P L Fu Wg (G (b₀.at (a₀.put ((ops₀[i₀]?).bind (·.dst)) (.tuple #[])) (.inRegion ops₀ rest₀::k₀)) cs)) (zmo L Fu Wg (b₀.at a₀ (.inRegion ops₀ (i₀::rest₀)::k₀)) cs)) m g w:=by
 lib_facts
 obtain ⟨T,rfl,hT84,t0,hF⟩:=h
 obtain ⟨v0,v1,v2,v3,v4,v5,v6,v7,v8,v9,v10,v11,v12,v13,v14,v15,v16,v17,v18,v19,v20,v21,v22,v23,v24,v25,v26,v27,v28,v29,v30,v31,v32,v33,v34,v35,v36,v37,v38,v39,v40,v41,v42,v43,v44,v45,v46,v47,v48,v49,v50,v51,v52,v53,v54,v55,v56,v57,v58,v59,v60,v61,v62,v63,v64,v65,v66,v67,v68,v69,v70,v71,v72,v73,v74,v75,v76,v77,v78,v79,v80,v81,v82,v83,rfl⟩:=array84 T hT84
 simp only [List.getElem?_toArray,List.getElem?_cons_zero,Option.some.injEq] at t0
 subst t0
 refine ⟨30,?_⟩
 simp only [L7,body_wait,waitFn,Option.getD_some]
 u_c stepG_block z1f hF
 u_c stepG_seq z1f hF
 u_reg z1f hF
 u_op z1f hF
 u_op z1f hF
 u_op z1f hF
 u_call H.f_uLoad (nm_uLoad L) uLoadFn z1f hF
 u_c stepG_seq z1f hF
 u_reg z1f hF
 u_op z1f hF
 u_c stepG_region_end z1f hF
 u_c stepG_seq z1f hF
 u_reg z1f hF
 u_op z1f hF
 u_op z1f hF
 u_op z1f hF
 refine Goes.stop (fun w₁ h₁=>?_)
 replace hF:=z1f hF h₁
 clear h₁
 rcases id hF with hw | hc
 ·-- W1 READS 2^32
  refine ⟨rfl,_,stepG_load_atomic (v:=4294967296) rfl rfl (by k_ne) rfl H.f_loadU64 (x_loadU64_n L) (x_loadU64_b L) (x_loadU64_x L) .u64 (x_loadU64_f L) rfl hw.cellSt,fun _=>⟨60,?_⟩,fun hc=>absurd (hw.unique hc.1).1 kk0⟩
  clear hw
  walk_nrm
  u_op z1f hF
  u_c stepG_region_end z1f hF
  u_c stepG_ret' z1f hF
  u_leave1 H.f_uLoad z1f hF
  u_op z1f hF
  u_c stepG_region_end z1f hF
  u_c stepG_seq z1f hF
  u_reg z1f hF
  u_op z1f hF
  u_op z1f hF
  u_op z1f hF
  u_op z1f hF
  u_c stepG_region_end z1f hF
  u_c stepG_seq z1f hF
  u_reg z1f hF
  u_op z1f hF
  u_op z1f hF
  u_op z1f hF
  u_op z1f hF
  u_c stepG_region_end z1f hF
  u_c stepG_seq z1f hF
  u_c stepG_seq z1f hF
  u_reg z1f hF
  u_op z1f hF
  u_op z1f hF
  u_c stepG_region_end z1f hF
  u_cond false z1f hF
  u_c stepG_skip z1f hF
  u_c stepG_seq z1f hF
  u_reg z1f hF
  u_op z1f hF
  u_op z1f hF
  u_op z1f hF
  u_op z1f hF
  u_op z1f hF
  u_op z1f hF
  u_call H.f_uCas (nm_uCas L) uCasFn z1f hF
  u_c stepG_seq z1f hF
  u_reg z1f hF
  u_op z1f hF
  u_c stepG_region_end z1f hF
  u_c stepG_seq z1f hF
  u_reg z1f hF
  u_op z1f hF
  u_op z1f hF
  u_op z1f hF
  u_op z1f hF
  u_op z1f hF
  refine Goes.stop (fun w₂ h₂=>?_)
  replace hF:=z1f hF h₂
  clear h₂
  refine ⟨rfl,fun hw=>?_,fun hc=>?_⟩
  ·-- W2 HITS: REGISTERED
   refine ⟨_,(stepG_cas_hit (v:=4294967296) (n:=4294967297) rfl rfl (by k_ne) rfl H.f_casU64 (x_casU64_n L) (x_casU64_b L) (x_casU64_x L) .u64 (x_casU64_f L) rfl rfl rfl hw.cellSt (hw.thaw 0)).trans (by rfl),70,?_⟩
   replace hF:KB L.tWg Wg Fu (w₂.setCell (stA Wg) (.int .u64 (KK+1))):=.inl (hw.setSt _)
   clear hw
   walk_nrm
   u_op z2d hF
   u_c stepG_region_end z2d hF
   u_c stepG_ret' z2d hF
   u_leave1 H.f_uCas z2d hF
   u_c stepG_region_end z2d hF
   u_cond true z2d hF
   u_c stepG_seq z2d hF
   u_c stepG_seq z2d hF
   u_reg z2d hF
   u_op z2d hF
   u_op z2d hF
   u_op z2d hF
   u_op z2d hF
   u_c stepG_region_end z2d hF
   u_cond true z2d hF
   u_reg z2d hF
   u_op z2d hF
   u_op z2d hF
   u_op z2d hF
   u_conv H.underlying_tPU32 H.room_tU32 (z15d hF).choose_spec z2d hF
   refine Goes.stop (fun w₉ h₉=>?_)
   replace hF:=z2d hF h₉
   clear h₉
   refine ⟨rfl,_,stepG_markAt .write (by simp) rfl rfl (by k_ne) rfl H.f_raceWrite (x_raceWrite_n L) (x_raceWrite_b L) (x_raceWrite_x L) (x_raceWrite_f L) (by simp [Act.eval,smA]),40,?_⟩
   walk_nrm
   u_c stepG_region_end z2d hF
   u_c stepG_seq z2d hF
   u_reg z2d hF
   u_op z2d hF
   u_c stepG_region_end z2d hF
   u_c stepG_seq z2d hF
   u_c stepG_seq z2d hF
   u_reg z2d hF
   u_op z2d hF
   u_op z2d hF
   u_op z2d hF
   u_op z2d hF
   u_skip z2d hF
   u_op z2d hF
   u_c stepG_region_end z2d hF
   u_cond false z2d hF
   u_c stepG_skip z2d hF
   u_c stepG_seq z2d hF
   u_reg z2d hF
   u_op z2d hF
   u_op z2d hF
   u_op z2d hF
   u_op z2d hF
   refine Goes.stop (fun w₃ h₃=>?_)
   replace hF:=z2d hF h₃
   clear h₃
   refine ⟨rfl,rfl,fun ⟨st,hw⟩=>stepG_semacquire_wait rfl rfl rfl H.f_semacquire (x_semacquire_n L) (x_semacquire_b L) (x_semacquire_x L) (x_semacquire_f L) (by simp [Act.eval,smA]) hw.cellSm,fun hf=>?_⟩
   refine ⟨_,(stepG_semacquire (n:=1) rfl rfl (by k_ne) rfl H.f_semacquire (x_semacquire_n L) (x_semacquire_b L) (x_semacquire_x L) (x_semacquire_f L) (by simp [Act.eval,smA]) hf.1.cellSm (by decide) (hf.1.thaw 1)).trans (by rfl),30,?_⟩
   replace hF:KC L.tWg Wg Fu (w₃.setCell (smA Wg) (.int .u32 0)):=⟨hf.1.setSm 0,hFc _ _ hf.2⟩
   clear hf
   walk_nrm
   u_c stepG_region_end (z1d hFu) hF
   u_c stepG_seq (z1d hFu) hF
   u_reg (z1d hFu) hF
   u_op (z1d hFu) hF
   u_op (z1d hFu) hF
   u_op (z1d hFu) hF
   u_call H.f_uLoad (nm_uLoad L) uLoadFn (z1d hFu) hF
   u_c stepG_seq (z1d hFu) hF
   u_reg (z1d hFu) hF
   u_op (z1d hFu) hF
   u_c stepG_region_end (z1d hFu) hF
   u_c stepG_seq (z1d hFu) hF
   u_reg (z1d hFu) hF
   u_op (z1d hFu) hF
   u_op (z1d hFu) hF
   u_op (z1d hFu) hF
   refine Goes.stop (fun w₄ h₄=>?_)
   replace hF:=z1d hFu hF h₄
   clear h₄
   refine ⟨rfl,_,stepG_load_atomic (v:=0) rfl rfl (by k_ne) rfl H.f_loadU64 (x_loadU64_n L) (x_loadU64_b L) (x_loadU64_x L) .u64 (x_loadU64_f L) rfl hF.1.cellSt,30,?_⟩
   walk_nrm
   u_op (z1d hFu) hF
   u_c stepG_region_end (z1d hFu) hF
   u_c stepG_ret' (z1d hFu) hF
   u_leave1 H.f_uLoad (z1d hFu) hF
   u_op (z1d hFu) hF
   u_op (z1d hFu) hF
   u_c stepG_region_end (z1d hFu) hF
   u_c stepG_seq (z1d hFu) hF
   u_cond true (z1d hFu) hF
   u_c stepG_seq (z1d hFu) hF
   u_reg (z1d hFu) hF
   refine Goes.stop (fun w₅ h₅=>?_)
   replace hF:=z1d hFu hF h₅
   clear h₅
   refine ⟨rfl,_,stepG_mark0 .enable (by simp) rfl rfl (by k_ne) rfl H.f_enable (x_enable_n L) (x_enable_b L) (x_enable_x L) (x_enable_f L),12,?_⟩
   walk_nrm
   u_c stepG_region_end (z1d hFu) hF
   u_reg (z1d hFu) hF
   u_op (z1d hFu) hF
   u_conv H.underlying_tWgP H.room_tWg (show World.cell? _ ⟨Wg,0,none⟩=some _ from hF.1.cellSt) (z1d hFu) hF
   refine Goes.stop (fun w₆ h₆=>?_)
   replace hF:=z1d hFu hF h₆
   clear h₆
   refine ⟨rfl,_,stepG_markAt .acquire (by simp) rfl rfl (by k_ne) rfl H.f_acquire (x_acquire_n L) (x_acquire_b L) (x_acquire_x L) (x_acquire_f L) (by simp [Act.eval,stA]),⟨10,?_⟩,hF⟩
   walk_nrm
   u_c stepG_region_end (z1d hFu) hF
   u_c stepG_seq (z1d hFu) hF
   u_c stepG_seq (z1d hFu) hF
   u_reg (z1d hFu) hF
   u_op (z1d hFu) hF
   u_c stepG_region_end (z1d hFu) hF
   u_cond false (z1d hFu) hF
   u_c stepG_skip (z1d hFu) hF
   u_c stepG_ret' (z1d hFu) hF
   u_leave0 H.f_wait (z1d hFu) hF
   exact Goes.stop (fun w₇ h₇=>rfl)
  ·-- W2 MISSES: BACK TO THE LOOP's HEAD
   refine ⟨_,stepG_cas_miss (v:=0) (old:=4294967296) (n:=4294967297) rfl rfl (by k_ne) rfl H.f_casU64 (x_casU64_n L) (x_casU64_b L) (x_casU64_x L) .u64 (x_casU64_f L) rfl rfl rfl hc.1.cellSt (hc.1.thaw 0) (by decide),20,?_⟩
   clear hc
   walk_nrm
   u_op z1f hF
   u_c stepG_region_end z1f hF
   u_c stepG_ret' z1f hF
   u_leave1 H.f_uCas z1f hF
   u_c stepG_region_end z1f hF
   u_cond false z1f hF
   u_c stepG_skip z1f hF
   u_c stepG_inBlock z1f hF
   u_c stepG_inLoop z1f hF
   refine Goes.stop (fun w₃ h₃=>?_)
   replace hF:=z1f hF h₃
   exact ⟨_,rfl,by simp,by simp,hF⟩
 ·-- W1 READS 0: THE JOIN IS SEEN
  refine ⟨rfl,_,stepG_load_atomic (v:=0) rfl rfl (by k_ne) rfl H.f_loadU64 (x_loadU64_n L) (x_loadU64_b L) (x_loadU64_x L) .u64 (x_loadU64_f L) rfl hc.1.cellSt,fun hw=>absurd (hw.unique hc.1).1 kk0,fun _=>⟨50,?_⟩⟩
  replace hF:KC L.tWg Wg Fu w₁:=hc
  clear hc
  walk_nrm
  u_op (z1d hFu) hF
  u_c stepG_region_end (z1d hFu) hF
  u_c stepG_ret' (z1d hFu) hF
  u_leave1 H.f_uLoad (z1d hFu) hF
  u_op (z1d hFu) hF
  u_c stepG_region_end (z1d hFu) hF
  u_c stepG_seq (z1d hFu) hF
  u_reg (z1d hFu) hF
  u_op (z1d hFu) hF
  u_op (z1d hFu) hF
  u_op (z1d hFu) hF
  u_op (z1d hFu) hF
  u_c stepG_region_end (z1d hFu) hF
  u_c stepG_seq (z1d hFu) hF
  u_reg (z1d hFu) hF
  u_op (z1d hFu) hF
  u_op (z1d hFu) hF
  u_op (z1d hFu) hF
  u_op (z1d hFu) hF
  u_c stepG_region_end (z1d hFu) hF
  u_c stepG_seq (z1d hFu) hF
  u_c stepG_seq (z1d hFu) hF
  u_reg (z1d hFu) hF
  u_op (z1d hFu) hF
  u_op (z1d hFu) hF
  u_c stepG_region_end (z1d hFu) hF
  u_cond true (z1d hFu) hF
  u_c stepG_seq (z1d hFu) hF
  u_cond true (z1d hFu) hF
  u_c stepG_seq (z1d hFu) hF
  u_reg (z1d hFu) hF
  refine Goes.stop (fun w₅ h₅=>?_)
  replace hF:=z1d hFu hF h₅
  clear h₅
  refine ⟨rfl,_,stepG_mark0 .enable (by simp) rfl rfl (by k_ne) rfl H.f_enable (x_enable_n L) (x_enable_b L) (x_enable_x L) (x_enable_f L),12,?_⟩
  walk_nrm
  u_c stepG_region_end (z1d hFu) hF
  u_reg (z1d hFu) hF
  u_op (z1d hFu) hF
  u_conv H.underlying_tWgP H.room_tWg (show World.cell? _ ⟨Wg,0,none⟩=some _ from hF.1.cellSt) (z1d hFu) hF
  refine Goes.stop (fun w₆ h₆=>?_)
  replace hF:=z1d hFu hF h₆
  clear h₆
  refine ⟨rfl,_,stepG_markAt .acquire (by simp) rfl rfl (by k_ne) rfl H.f_acquire (x_acquire_n L) (x_acquire_b L) (x_acquire_x L) (x_acquire_f L) (by simp [Act.eval,stA]),⟨20,?_⟩,hF⟩
  walk_nrm
  u_c stepG_region_end (z1d hFu) hF
  u_c stepG_seq (z1d hFu) hF
  u_c stepG_seq (z1d hFu) hF
  u_reg (z1d hFu) hF
  u_op (z1d hFu) hF
  u_op (z1d hFu) hF
  u_op (z1d hFu) hF
  u_op (z1d hFu) hF
  u_op (z1d hFu) hF
  u_op (z1d hFu) hF
  u_op (z1d hFu) hF
  u_op (z1d hFu) hF
  u_skip (z1d hFu) hF
  u_skip (z1d hFu) hF
  u_op (z1d hFu) hF
  u_c stepG_region_end (z1d hFu) hF
  u_cond false (z1d hFu) hF
  u_c stepG_skip (z1d hFu) hF
  u_c stepG_ret' (z1d hFu) hF
  u_leave0 H.f_wait (z1d hFu) hF
  exact Goes.stop (fun w₇ h₇=>rfl)


set_option maxRecDepth 100000 in
theorem z1l8 {P:Program} (H:WgLib P L) (w:World) (hF:KA L.tWg Wg Fu w):
  Goes P true (RMa L.tWg Wg Fu) DC0 (MKd P L.tWg Wg Fu (zmo L Fu Wg (b₀.at a₀ (.inRegion ops₀ (i₀::rest₀)::k₀)) cs)) 3
   (G ((base L.wait).at ⟨#[.pointer (some ⟨Wg,0,none⟩),undef,undef,undef,undef,undef,undef,undef,undef,undef,undef,undef,undef,undef,undef,undef,undef,undef,undef,undef,undef,undef,undef,undef,undef,undef,undef,undef,undef,undef,undef,undef,undef,undef,undef,undef,undef,undef,undef,undef,undef,undef,undef,undef,undef,undef,undef,undef,undef,undef,undef,undef,undef,undef,undef,undef,undef,undef,undef,undef,undef,undef,undef,undef,undef,undef,undef,undef,undef,undef,undef,undef,undef,undef,undef,undef,undef,undef,undef,undef,undef,undef,undef,undef],[]⟩ [.code (body_wait L)]) (b₀.at a₀ (.inRegion ops₀ (i₀::rest₀)::k₀)::cs)) w:=by
 simp only [body_wait,waitFn,Option.getD_some]
 u_c stepG_seq z1f hF
 u_cond true z1f hF
 u_reg z1f hF
 refine Goes.stop (fun w₁ h₁=>?_)
 replace hF:=z1f hF h₁
 clear h₁
 refine ⟨rfl,_,stepG_mark0 .disable (by simp) rfl rfl (by k_ne) rfl H.f_disable (x_disable_n L) (x_disable_b L) (x_disable_x L) (x_disable_f L),3,?_⟩
 walk_nrm
 u_c stepG_region_end z1f hF
 u_c stepG_block z1f hF
 u_c stepG_loop z1f hF
 exact Goes.stop (fun w₂ h₂=>⟨_,rfl,by simp,by simp,z1f hF h₂⟩)
end
end Go.Proofs.YthheoefadijhdaaGreat.Ai
