/- The library's WaitGroup.Go and Wait, one child: goroutine 0's walk, carried. -/
import Derived.Test.YthheoefadijhdaaGreatFFnExactReadMarksGe
set_option linter.unusedVariables false
set_option linter.unusedSectionVars false
set_option linter.unusedSimpArgs false
namespace Go.Proofs.YthheoefadijhdaaGreat.Ai
open Go Go.RowKit Go.Conc Go.Conc.Lib Go.ConcX.Gen
open Go.ConcX (stA smA OfWg KK WgAt DC0 rd wr mk AtR0 RCa KCa DCs EvS AtMkS Full Shy Payload)

def Zone.kid (Z:Zone) (n:Nat):Zone:=(Z.off n).off (n+1)

section
variable {Post:Value→World→Prop} {U:Nat→Prop} {Wg:Nat} {Z:Zone} {ρ:Ren} {H:zn} {w:World} {K:Value→zn→Prop} {b b2:Frame} {a a2:Act} {ops ops2:Array Oper} {i i2:Nat} {rest rest2:List Nat} {k k2:List Item} {cs cs2:List Frame} {g D:Nat} {fs cap:Array Value}

theorem z1k6 (hUW:¬U Wg) {S:FSpec} (hS:FnOk Tryz.prog g S) {args:List Value} (hv:VRs ρ args (fs++cap).toList) (hF:S.F args H K) (hZr:¬Z.rd Wg) (hZw:¬Z.wr Wg) {n:Nat} (hn:n=w.heap.size) (hWl:Wg<n) (hr:HR Z ρ H w)
  {w3:World} (hK3:WgAt link.tWg Wg w3 KK 0) (hR:Rest Wg Wg (two Wg (.func (.func g) fs cap) w) w3)
  (hmid:∀(Fu:World→Prop),(∀w d,Fu w→Fu (w.at d))→∀w₁,KA link.tWg Wg Fu w₁→Goes Tryz.prog true (RMa link.tWg Wg Fu) DC0 (MKd Tryz.prog link.tWg Wg Fu (zmo link Fu Wg (b2.at a2 (.inRegion ops2 (i2::rest2)::k2)) cs2)) D (G (b.at (a.put ((ops[i]?).bind (·.dst)) (.tuple #[])) (.inRegion ops rest::k)) cs) w₁)
  (hnext:∀w₁ Z' ρ' H' v,K v H'→Zle Z' Z→ρ <+:ρ'→HR Z' ρ' H' w₁→KeptW Wg Z w w₁→∀dd,z3w Tryz.prog Post 0 (Z'.also U) (G (b2.at (a2.put ((ops2[i2]?).bind (·.dst)) (.tuple #[])) (.inRegion ops2 rest2::k2)) cs2) (w₁.at dd)) (v5:Value):
  z3w Tryz.prog Post 0 (Z.also fun c=>U c∨c=Wg) (atGo Wg (.func (.func g) fs cap) n v5 (b.at a (.inRegion ops (i::rest)::k)) cs) w3:=by
 subst hn
 refine z3w.fork rfl fun dd c Shun hc0 hO=>?_
 have hOff:∀a:Addr,a.block=Wg∨a.block=w.heap.size→¬Shun (.cell a):=by
  intro a ha hs
  rcases ha with ha | ha
  ·exact (hO _ hs).1 a rfl (.inr (.inr ha))
  ·exact (hO _ hs).1 a rfl (.inl (ha ▸ (hr.fresh _ (Nat.le_refl _)).1))
 have hOZ:∀Z',Zle Z' Z→Off Z' Shun:=fun Z' hz=>hO.le fun c=>⟨fun h=>(hz c).1 h,fun h=>.inl ((hz c).2 h)⟩
 have hle:Zle (Z.kid w.heap.size) Z:=((Z.off w.heap.size).off_le _).trans (Z.off_le _)
 have hsz3:(w3.at dd).heap.size=w.heap.size+2:=by show w3.heap.size=_;rw [hR.size,zq8]
 have hblk:∀k,k≠Wg→(w3.at dd).heap[k]? =(two Wg (.func (.func g) fs cap) w).heap[k]? :=fun k hk=>hR.block k hk hk
 have hr3:HR (Z.kid w.heap.size) ρ H (w3.at dd):=by
  have h1:=hr.grow (.cells #[.pointer (some ⟨Wg,0,none⟩)] 142)
  have h2:=h1.grow (.cells (Value.func (.func g) fs cap).cells 1)
  have e:(w.alloc (.cells #[.pointer (some ⟨Wg,0,none⟩)] 142)).heap.size=w.heap.size+1:=by rw [z3o];simp
  rw [e] at h2
  have h3:Rest Wg Wg (two Wg (.func (.func g) fs cap) w) (w3.at dd):=hR.trans ⟨rfl,rfl,rfl,rfl,fun _ _ _=>rfl⟩
  exact h3.hr (fun h=>hZr h.1.1) (fun h=>hZr h.1.1) h2
 let Fu:=Done (Z.kid w.heap.size) ρ Wg w.heap.size K (w3.at dd)
 have hkr:¬(Z.kid w.heap.size).rd Wg:=fun h=>hZr h.1.1
 have hkc:¬(Z.kid w.heap.size).rd w.heap.size:=fun h=>h.1.2 rfl
 have hFrest:∀w₁ w₂:World,Rest Wg w.heap.size w₁ w₂→Fu w₁→Fu w₂:=fun w₁ w₂ k h=>h.rest hkr hkc k
 have hFat:∀(w:World) (d:Nat),Fu w→Fu (w.at d):=fun w₁ d h=>hFrest w₁ _ ⟨rfl,rfl,rfl,rfl,fun _ _ _=>rfl⟩ h
 have hFc:∀(w₁:World) (v:Value),Fu w₁→Fu (w₁.setCell (smA Wg) v):=fun w₁ v h=>hFrest w₁ _ (RC.cell link.tWg Wg w₁ (smA Wg) rfl v).rest h
 have J:Jn Tryz.prog Post link.tWg Wg c Fu Shun (WNext Tryz.prog link Fu Wg (G (b2.at (a2.put ((ops2[i2]?).bind (·.dst)) (.tuple #[])) (.inRegion ops2 rest2::k2)) cs2)) (zmo link Fu Wg (b2.at a2 (.inRegion ops2 (i2::rest2)::k2)) cs2):=by
  refine ⟨hc0,fun w₁ w₂ h1 h2 h3 h4 h5=>hFrest w₁ w₂ ⟨h1,h2,h3,h4,fun k hk _=>h5 k hk⟩,?_,?_,fun x w₁ h=>z1l7 wgLib hFat hFc x w₁ h⟩
  ·intro x w₁ t ⟨⟨m,hg⟩,hkc⟩ hT M
   refine zz1 z6q atRel_trans (Cd:=Fu) (T:=fun w t=>Tr (fun l=>Shun l∨OfWg Wg l) w.heap.size 0 t) hFat (fun w d t g fn pos es h hg hm=>h.mute hg hm) (fun w d t h=>h) (fun M x w₁ t h1 h2 h3=>?_) M m x w₁ t hg hkc.2 hT
   have hx:=h1 w₁ (atRel_refl w₁)
   subst hx
   obtain ⟨v,H',Z',ρ',w',q1,q2,q3,q4,q5,q6⟩:=h2
   have hkept:KeptW Wg Z w w₁:=by
    refine ⟨q6.os.trans (q5.os.trans hR.os),q6.tape.trans (q5.tape.trans hR.tape),q6.output.trans (q5.output.trans hR.output),?_,fun k hk h1 h2=>?_⟩
    ·have:=q5.size;have:=q6.size;omega
    ·rw [q6.block k h1 (by omega),q5.block k (by omega) h1 (fun h=>h2 (hle k |>.1 h)),hblk k h1,zza w hk]
   have:=hnext w₁ Z' ρ' H' v q1 (q2.trans hle) q3 q4 hkept w₁.drawn
   rw [zb2] at this
   refine this.from0 h3 (Nat.le_refl _) (fun l hl=>?_) M
   rcases hl with hl | ⟨y,rfl,hy⟩
   ·exact ⟨fun a e hr=>hr.elim ((hOZ Z' (q2.trans hle) l hl).1 a e) fun hu=>(hO l hl).1 a e (.inr (.inl hu)),(hO l hl).2⟩
   ·exact ⟨fun z hz hrd=>by cases hz;exact hrd.elim (fun hrd=>hkr ((q2 _).2 (hy ▸ hrd))) fun hu=>hUW (hy ▸ hu),fun r h=>by cases h⟩
  ·rintro x w₁ ⟨T,rfl,_⟩
   rfl
 refine ⟨_,_,z1k7 _ v5 (w3.at dd),link.tWg,Wg,Fu,_,_,J,.kd (n:=D+3) (z1kg (hmid Fu hFat (w3.at dd) (.inl hK3)) (fun _ _ h=>h) RMa.tr),hK3,RC link.tWg Wg (w3.at dd),RC.refl _ _ _,?_⟩
 refine J.child (X:=zg9 _) trivial hS ⟨hkr,fun h=>hZw h.1.1,hOZ _ hle⟩ hr3 hkc (fun h=>h.1.2 rfl) (by omega) (by omega) hOff (by omega) hv hF ?_ ?_
 ·rw [hblk _ (by omega),two_w]
 ·have:=hblk (w.heap.size+1) (by omega)
  rw [two_f] at this
  unfold World.cell?
  rw [this]
  simp [Value.cells]

set_option maxRecDepth 100000 in
set_option maxHeartbeats 800000 in
theorem goAdd {fv:Value} {c:Frame} {cs:List Frame} {n:Nat} {w2:World} (hw:WgAt link.tWg Wg w2 0 0) (hn:n<w2.heap.size) (hrd:Z.rd n)
  (hnext:∀d,z3w Tryz.prog Post 0 (Z.also fun c=>U c∨c=Wg) (G ((base 110).at ⟨#[.pointer (some ⟨Wg,0,none⟩),fv,.pointer (some ⟨n,0,none⟩),.pointer (some ⟨n+1,0,none⟩),.pointer (some ⟨Wg,0,none⟩),.tuple #[],undef],[]⟩ [.inRegion (z1z (cl (cr bodyG))) [],.code (cr (cr bodyG))]) (c::cs)) ((w2.setCell (stA Wg) (.int .u64 KK)).at d)):
  z3w Tryz.prog Post 0 (Z.also fun c=>U c∨c=Wg) (atAdd Wg fv n c cs) w2:=by
 refine z3w.silent 1 _ _ ?_
 have ha:=fun (S:Shy Wg n) (St:Goroutine→World→Prop) (m:Nat) (w2:World) (hw:WgAt link.tWg Wg w2 0 0) hT=>@Go.ConcX.Gen.addPos link Wg n S (base 110) ⟨#[.pointer (some ⟨Wg,0,none⟩),fv,.pointer (some ⟨n,0,none⟩),.pointer (some ⟨n+1,0,none⟩),.pointer (some ⟨Wg,0,none⟩),undef,undef],[]⟩ (z1z (cl (cr bodyG))) 1 [] [.code (cr (cr bodyG))] (c::cs) St m Tryz.prog wgLib w2 hw hT
 unfold atAdd
 refine Goes.step rfl (fun w₁ h₁=>?_)
 obtain ⟨d1,rfl⟩:=h₁
 simp only [body_add,addFn,Option.getD_some] at ha
 refine goes_call rfl rfl (by k_ne) rfl wgLib.f_add (nm_add link) rfl ⟨z8y (by intro e he;simp at he),?_⟩
 walk_nrmf addFn
 refine Goes.stop fun w₁ ⟨d4,e⟩=>?_
 subst e
 refine z3w.of0 fun Shun M t hO hT=>?_
 have hOff:∀a:Addr,a.block=Wg∨a.block=n→¬Shun (.cell a):=by
  intro a ha hs
  rcases ha with ha | ha
  ·exact (hO _ hs).1 a rfl (.inr (.inr ha))
  ·exact (hO _ hs).1 a rfl (.inl (ha ▸ hrd))
 refine z2i.addPos wgLib (Wg:=Wg) (C:=n) (B:=w2.heap.size) (w:=(w2.at d1).at d4) hOff hw.lt hn hw (b₀:=base 110) (a₀:=⟨#[.pointer (some ⟨Wg,0,none⟩),fv,.pointer (some ⟨n,0,none⟩),.pointer (some ⟨n+1,0,none⟩),.pointer (some ⟨Wg,0,none⟩),undef,undef],[]⟩) (ops₀:=z1z (cl (cr bodyG))) (i₀:=1) (rest₀:=[])
  (k₀:=[.code (cr (cr bodyG))]) (cs:=c::cs) (fun S St m hT=>⟨12,ha S St m _ hw hT⟩) (fun M d' t hT=>?_) M t hT
 exact (hnext d').from0 hT (by rw [show (((w2.setCell (stA Wg) (.int .u64 KK)).at d').heap.size=w2.heap.size) from World.size_setCell _ _ _];exact Nat.le_refl _) hO M

theorem z16s (w:World) (v:Value) (d:Nat):Rest Wg Wg w ((w.setCell (stA Wg) v).at d):=(RC.cell link.tWg Wg w (stA Wg) rfl v).rest.trans ⟨rfl,rfl,rfl,rfl,fun _ _ _=>rfl⟩

theorem z1k5 (hUW:¬U Wg) {S:FSpec} (hS:FnOk Tryz.prog g S) {args:List Value} (hv:VRs ρ args (fs++cap).toList) (hF:S.F args H K) (hZr:¬Z.rd Wg) (hZw:¬Z.wr Wg) (hr:HR Z ρ H w) (hWg:WgAt link.tWg Wg w 0 0)
  (hmid:∀(Fu:World→Prop),(∀w d,Fu w→Fu (w.at d))→∀w₁,KA link.tWg Wg Fu w₁→Goes Tryz.prog true (RMa link.tWg Wg Fu) DC0 (MKd Tryz.prog link.tWg Wg Fu (zmo link Fu Wg (b2.at a2 (.inRegion ops2 (i2::rest2)::k2)) cs2)) D (G (b.at (a.put ((ops[i]?).bind (·.dst)) (.tuple #[])) (.inRegion ops rest::k)) cs) w₁)
  (hnext:∀w₁ Z' ρ' H' v,K v H'→Zle Z' Z→ρ <+:ρ'→HR Z' ρ' H' w₁→KeptW Wg Z w w₁→∀dd,z3w Tryz.prog Post 0 (Z'.also U) (G (b2.at (a2.put ((ops2[i2]?).bind (·.dst)) (.tuple #[])) (.inRegion ops2 rest2::k2)) cs2) (w₁.at dd)):
  z3w Tryz.prog Post 0 (Z.also fun c=>U c∨c=Wg) (G ((base 110).at ⟨#[.pointer (some ⟨Wg,0,none⟩),.func (.func g) fs cap,undef,undef,undef,undef,undef],[]⟩ [.code bodyG]) (b.at a (.inRegion ops (i::rest)::k)::cs)) w:=by
 have hlt:=hWg.lt
 refine z3w.silent 20 _ _ (z1ke w fun d=>?_)
 have hw2:WgAt link.tWg Wg ((two Wg (.func (.func g) fs cap) w).at d) 0 0:=hWg.of_block (zza w hlt)
 refine goAdd hw2 (by show _<(two Wg (.func (.func g) fs cap) w).heap.size;rw [zq8];omega) (hr.fresh _ (Nat.le_refl _)).1 fun d2=>?_
 refine z3w.silent 20 _ _ (z1kf _ _ _ fun d3=>?_)
 have h1:Rest Wg Wg (two Wg (.func (.func g) fs cap) w) ((two Wg (.func (.func g) fs cap) w).at d):=⟨rfl,rfl,rfl,rfl,fun _ _ _=>rfl⟩
 exact z1k6 hUW hS hv hF hZr hZw rfl hlt hr (w3:=((((two Wg (.func (.func g) fs cap) w).at d).setCell (stA Wg) (.int .u64 KK)).at d2).at d3) (hw2.setSt KK) (h1.trans (z16s (Wg:=Wg) _ _ d3)) hmid hnext _
end
end Go.Proofs.YthheoefadijhdaaGreat.Ai
