/- What functions of the program come to on the abstract machine, and that they do so; printed by a program of mine around proofs of mine. -/
import Derived.Test.YthheoefadijhdaaGreatFFnExactDropPicture2
set_option linter.unusedVariables false
set_option linter.unusedSimpArgs false
set_option linter.defProp false
set_option maxRecDepth 100000
set_option maxHeartbeats 1000000
namespace Go.Proofs.YthheoefadijhdaaGreat.Ai
open Go
attribute [local irreducible] z5y z1a
def zfc (xs:LN) (off:Nat):LN→LN
 | []=>xs
 | y::r=>zfc (xs.set off y) (off+1) r
@[simp] theorem zl1:∀(ys:LN) (xs:LN) (off:Nat),(zfc xs off ys).length=xs.length:=by
 intro ys
 induction ys with
 | nil=>intro xs off;rfl
 | cons y r ih=>intro xs off;exact (ih _ _).trans (List.length_set ..)
theorem zr2 (ys:LN):∀(xs:LN) (off:Nat),zl0 (xs.map fF) off (ys.map fF)=(zfc xs off ys).map fF:=by
 induction ys with
 | nil=>intro xs off;rfl
 | cons y r ih=>
  intro xs off
  show zl0 ((xs.map fF).set off (fF y)) (off+1) (r.map fF)=_
  rw [←List.map_set]
  exact ih _ _
def z9a (l part:LN) (W pw x y:Int):Nat→LN
 | 0=>l
 | v+1=>zfc (z9a l part W pw x y v) ((y+(v:Int))*W+x).toNat ((part.drop ((v:Int)*pw).toNat).take pw.toNat)
@[simp] theorem z6x (l part:LN) (W pw x y:Int):∀v,(z9a l part W pw x y v).length=l.length:=by
 intro v
 induction v with
 | zero=>rfl
 | succ v ih=>exact (zl1 _ _ _).trans ih
def zag (ua va:Int) (ga:LN) (nd te:Int) (vg:LN) (x y:Int):Int×Int×LN×Bool:=bif z1p nd te vg then (bif z8d ua va ga x y nd te then (ua,va,z9a ga vg ua nd x y te.toNat,true) else (0,0,[],false)) else (0,0,[],false)
def zzz (ua va:Int) (ta:OA) (xa ya:Nat) (nd te:Int) (gf:OA) (vf uf:Nat) (x y:Int) (H:zq) (K:Int→Int→OA→Nat→Nat→Bool→zq→Prop):Prop:=
 ∃(ga vg:LN),IsL fF H ta xa ga∧IsL fF H gf vf vg∧ga.length<1073741824∧vg.length<1073741824∧
  (∀(td:OA) (yd xd:Nat),∀H':zq,Grow H H'→OwnS fF H' H.length td yd xd ((zag ua va ga nd te vg x y).2.2.1)→K ((zag ua va ga nd te vg x y).1) ((zag ua va ga nd te vg x y).2.1) td yd xd ((zag ua va ga nd te vg x y).2.2.2) H')
theorem z19w {ua va:Int} {ta:OA} {xa ya:Nat} {nd te:Int} {gf:OA} {vf uf:Nat} {x y:Int} {H:zq} {K:Int→Int→OA→Nat→Nat→Bool→zq→Prop} (h:∃(ga vg:LN),IsL fF H ta xa ga∧IsL fF H gf vf vg∧ga.length<1073741824∧vg.length<1073741824∧
  (∀(td:OA) (yd xd:Nat),∀H':zq,Grow H H'→OwnS fF H' H.length td yd xd ((zag ua va ga nd te vg x y).2.2.1)→K ((zag ua va ga nd te vg x y).1) ((zag ua va ga nd te vg x y).2.1) td yd xd ((zag ua va ga nd te vg x y).2.2.2) H')):zzz ua va ta xa ya nd te gf vf uf x y H K:=h
theorem z1cj (W Hi:Int) (l:LN) (pw ph:Int) (part:LN) (x y:Int):((zag W Hi l pw ph part x y).2.2.1.length:Int)≤256:=by
 unfold zag
 cases z1p pw ph part with
 | false=>show ((0:Nat):Int)≤256;omega
 | true=>
  cases h:z8d W Hi l x y pw ph with
  | false=>show ((0:Nat):Int)≤256;omega
  | true=>
   have:=f19z_t h
   show ((z9a l part W pw x y ph.toNat).length:Int)≤256
   rw [z6x]
   omega
/-! fkz: function 105 -/
def zh4:Env:=envOf [(999996,z9r),(50,zll),(81,ztd),(53,zna)]
def F_fkz (args:List Value) (H:zq):(Value→zq→Prop)→Prop:=match args with
 | [.agg ⟨[.int .i64 ua,.int .i64 va,.slice ta xa ya]⟩,.agg ⟨[.int .i64 nd,.int .i64 te,.slice gf vf uf]⟩,.int .i64 x,.int .i64 y]=>fun K=>zzz ua va ta xa ya nd te gf vf uf x y H fun (sd:Int) (pd:Int) (ja:OA) (oa:Nat) (ma:Nat) (r2:Bool) (H':zq)=>K (.tuple #[.agg #[.int .i64 sd,.int .i64 pd,.slice ja oa ma],.bool r2]) H'
 | _=>fun _=>False
def S_fkz:FSpec:={F:=F_fkz,quiet:=false,tame:=false}
theorem z1gm (ua va:Int) (ta:OA) (xa ya:Nat) (nd te:Int) (gf:OA) (vf uf:Nat) (x y:Int) (H:zq) (K:KT):z1a Tryz.prog zh4 Tryz.f105 [.agg #[.int .i64 ua,.int .i64 va,.slice ta xa ya],.agg #[.int .i64 nd,.int .i64 te,.slice gf vf uf],.int .i64 x,.int .i64 y] H K=
 (Al [.int .i64 ua,.int .i64 va,.slice ta xa ya] H fun b1 H1=>Al [.int .i64 nd,.int .i64 te,.slice gf vf uf] H1 fun b2 H2=>Al [.int .i64 0,.int .i64 0,.slice none 0 0] H2 fun b3 H3=>∃c1:Int,∃c2:Int,∃kh:OA,∃mh:Nat,∃lh:Nat,  rdN H3 b2 0 3=some [.int .i64 c1,.int .i64 c2,.slice kh mh lh]∧zh7 c1 c2 kh mh lh H3 fun (r1:Bool) (H4:zq)=>Br (!r1) (isOwn H4 b3∧(∃l,rdN H4 b3 0 3=some l)∧Lt (setN H4 b3 0 [.int .i64 0,.int .i64 0,.slice none 0 0]) fun H5=>∃c4:Int,∃c5:Int,∃th:OA,∃vh:Nat,∃uh:Nat,  rdN H5 b3 0 3=some [.int .i64 c4,.int .i64 c5,.slice th vh uh]∧K (.tuple #[.agg #[.int .i64 c4,.int .i64 c5,.slice th vh uh],.bool false]) H5) (∃c7:Int,∃c8:Int,∃fi:OA,∃ii:Nat,∃gi:Nat,  rdN H4 b1 0 3=some [.int .i64 c7,.int .i64 c8,.slice fi ii gi]∧∃x1:Int,  rdC H4 b2 0=some (.int .i64 x1)∧∃x2:Int,  rdC H4 b2 1=some (.int .i64 x2)∧zim c7 c8 fi ii gi x y x1 x2 H4 fun (r2:Bool) (H6:zq)=>Br (!r2) (isOwn H6 b3∧(∃l,rdN H6 b3 0 3=some l)∧Lt (setN H6 b3 0 [.int .i64 0,.int .i64 0,.slice none 0 0]) fun H7=>∃c10:Int,∃c11:Int,∃ti:OA,∃vi:Nat,∃ui:Nat,  rdN H7 b3 0 3=some [.int .i64 c10,.int .i64 c11,.slice ti vi ui]∧K (.tuple #[.agg #[.int .i64 c10,.int .i64 c11,.slice ti vi ui],.bool false]) H7) (∃rj:OA,∃mj:Nat,∃wj:Nat,  rdC H6 b1 2=some (.slice rj mj wj)∧∃x4:Int,  rdC H6 b1 1=some (.int .i64 x4)∧∃x5:Int,  rdC H6 b1 0=some (.int .i64 x5)∧zat rj mj wj H6 fun (a1:OA) (r3:Nat) (r4:Nat) (H8:zq)=>Al [.int .i64 0,.int .i64 0,.slice none 0 0] H8 fun b4 H9=>isOwn H9 b4∧(∃l,rdN H9 b4 0 3=some l)∧Lt (setN H9 b4 0 [.int .i64 x5,.int .i64 x4,.slice a1 r3 r4]) fun H10=>∃x6:Int,  rdC H10 b2 1=some (.int .i64 x6)∧z1j (exL Tryz.prog zh4 (cl (cl (cr (cl (cr (cr (cr (zr Tryz.f105)))))))) 206158431548 768 [(0,1280)]) (ud2 (.int .i64 x::.int .i64 y::.pointer (some ⟨b1,0,none⟩)::.pointer (some ⟨b2,0,none⟩)::ud2 (.pointer (some ⟨b3,0,none⟩)::ud::.pointer (some ⟨b4,0,none⟩)::ud25 (.int .i64 x6::.int .i64 0::ud28 [])))) H10 (zx 0 (seqQ (exL Tryz.prog zh4 (cr (cr (cr (cr (zr Tryz.f105))))) 768 768 []) (retK Tryz.prog Tryz.f105 K)))))):=by kernel_rfl
abbrev zjj (b1 b2 b3 b4:Nat) (x x6 y t37:Int)  :List Value:=(ud2 (.int .i64 x::.int .i64 y::.pointer (some ⟨b1,0,none⟩)::.pointer (some ⟨b2,0,none⟩)::ud2 (.pointer (some ⟨b3,0,none⟩)::ud::.pointer (some ⟨b4,0,none⟩)::ud25 (.int .i64 x6::.int .i64 t37::ud28 []))))
theorem z1gl (b1 b2 b3 b4:Nat) (x x6 y t37:Int)  (H:zq) (R:Post):exL Tryz.prog zh4 (cl (cl (cr (cl (cr (cr (cr (zr Tryz.f105)))))))) 206158431548 768 [(0,1280)] (zjj b1 b2 b3 b4 x x6 y t37) H R=
 (Br (decide ((t37:Int)<x6)) (∃nj:OA,∃xi:Nat,∃tk:Nat,  rdC H b4 2=some (.slice nj xi tk)∧∃x8:Int,  rdC H b1 0=some (.int .i64 x8)∧(0:Int)≤IntKind.wrap .i64 ((IntKind.wrap .i64 ((IntKind.wrap .i64 (y+t37))*x8))+x)∧IntKind.wrap .i64 ((IntKind.wrap .i64 ((IntKind.wrap .i64 (y+t37))*x8))+x)≤(xi:Int)∧(xi:Int)≤(xi:Int)∧∃wp:OA,∃xp:Nat,∃zp:Nat,  rdC H b2 2=some (.slice wp xp zp)∧∃x10:Int,  rdC H b2 0=some (.int .i64 x10)∧∃x11:Int,  rdC H b2 0=some (.int .i64 x11)∧(0:Int)≤IntKind.wrap .i64 (t37*x10)∧IntKind.wrap .i64 (t37*x10)≤IntKind.wrap .i64 ((IntKind.wrap .i64 (t37+1))*x11)∧IntKind.wrap .i64 ((IntKind.wrap .i64 (t37+1))*x11)≤(xp:Int)∧∃w1:List Value,rdS H ((wp:OA).map fun a=>⟨a.block,a.off+(IntKind.wrap .i64 (t37*x10):Int).toNat*1,none⟩) (min (((IntKind.wrap .i64 ((IntKind.wrap .i64 (t37+1))*x11):Int)-IntKind.wrap .i64 (t37*x10)).toNat:Nat) ((((xi:Int):Int)-IntKind.wrap .i64 ((IntKind.wrap .i64 ((IntKind.wrap .i64 (y+t37))*x8))+x)).toNat))=some w1∧∃b5 f1,((nj:OA).map fun a=>⟨a.block,a.off+(IntKind.wrap .i64 ((IntKind.wrap .i64 ((IntKind.wrap .i64 (y+t37))*x8))+x):Int).toNat*1,none⟩:OA)=some ⟨b5,f1,none⟩∧isOwn H b5∧(∃l,rdN H b5 f1 ((((xi:Int):Int)-IntKind.wrap .i64 ((IntKind.wrap .i64 ((IntKind.wrap .i64 (y+t37))*x8))+x)).toNat)=some l)∧Lt (setN H b5 f1 w1) fun H11=>R .normal (ud2 (.int .i64 x::.int .i64 y::.pointer (some ⟨b1,0,none⟩)::.pointer (some ⟨b2,0,none⟩)::ud2 (.pointer (some ⟨b3,0,none⟩)::ud::.pointer (some ⟨b4,0,none⟩)::ud25 (.int .i64 x6::.int .i64 (IntKind.wrap .i64 (t37+1))::ud28 [])))) H11) (R (.exit 0) (ud8 (.pointer (some ⟨b3,0,none⟩)::ud::.pointer (some ⟨b4,0,none⟩)::ud55 [])) H)):=by kernel_rfl
def zw5 (b1 b2 b3 b4:Nat) (x x6 y:Int) (Inv:Nat→Int→zq→Prop):Nat→List Value→zq→Prop:=fun μ tm H=>∃(t37:Int),tm=(zjj b1 b2 b3 b4 x x6 y t37)∧Inv μ t37 H
theorem z1gi (b1 b2 b3 b4:Nat) (x x6 y:Int) {Q:Post} (Inv:Nat→Int→zq→Prop) (ν:Nat) (t37:Int)  (H:zq) (h0:Inv ν t37 H)
  (hs:∀(μ:Nat) (t37:Int)  (H:zq),Inv μ t37 H→exL Tryz.prog zh4 (cl (cl (cr (cl (cr (cr (cr (zr Tryz.f105)))))))) 206158431548 768 [(0,1280)] (zjj b1 b2 b3 b4 x x6 y t37) H (z1b (zw5 b1 b2 b3 b4 x x6 y Inv) μ Q)):z1j (exL Tryz.prog zh4 (cl (cl (cr (cl (cr (cr (cr (zr Tryz.f105)))))))) 206158431548 768 [(0,1280)]) (zjj b1 b2 b3 b4 x x6 y t37) H Q:=
 ⟨zw5 b1 b2 b3 b4 x x6 y Inv,ν,⟨t37,rfl,h0⟩,fun μ tm H h=>by obtain ⟨t37,rfl,hI⟩:=h;exact hs μ t37  H hI⟩
theorem z1gj {b1 b2 b3 b4:Nat} {x x6 y:Int} {Q:Post} {Inv:Nat→Int→zq→Prop} {μ:Nat} (μ':Nat) {t37:Int}  {H:zq} (hm:μ'<μ) (hI:Inv μ' t37 H):z1b (zw5 b1 b2 b3 b4 x x6 y Inv) μ Q .normal (zjj b1 b2 b3 b4 x x6 y t37) H:=⟨μ',hm,t37,rfl,hI⟩
theorem z11q (b3 b4:Nat) (H:zq) (K:KT)  {I:Nat→List Value→zq→Prop} {μ:Nat}:z1b I μ (zx 0 (seqQ (exL Tryz.prog zh4 (cr (cr (cr (cr (zr Tryz.f105))))) 768 768 []) (retK Tryz.prog Tryz.f105 K))) (.exit 0) (ud8 (.pointer (some ⟨b3,0,none⟩)::ud::.pointer (some ⟨b4,0,none⟩)::ud55 [])) H=
 (∃c13:Int,∃c14:Int,∃ij:OA,∃kj:Nat,∃jj:Nat,  rdN H b4 0 3=some [.int .i64 c13,.int .i64 c14,.slice ij kj jj]∧isOwn H b3∧(∃l,rdN H b3 0 3=some l)∧Lt (setN H b3 0 [.int .i64 c13,.int .i64 c14,.slice ij kj jj]) fun H12=>∃c16:Int,∃c17:Int,∃ck:OA,∃fk:Nat,∃dk:Nat,  rdN H12 b3 0 3=some [.int .i64 c16,.int .i64 c17,.slice ck fk dk]∧K (.tuple #[.agg #[.int .i64 c16,.int .i64 c17,.slice ck fk dk],.bool true]) H12):=by kernel_rfl
theorem zyp:∀g,FnOkX Tryz.prog (MainCls Tryz.prog) g (zh4 g):=FnOkX.envOf (by
 intro x hx
 simp only [List.mem_cons,List.not_mem_nil,or_false] at hx
 rcases hx with rfl | rfl | rfl | rfl
 ·exact z6q _ _
 ·exact f6z_ok.le fun _ _ _=>trivial
 ·exact f19z_ok.le fun _ _ _=>trivial
 ·exact zm8.le fun _ _ _=>trivial)
theorem z1d3 {x y v W H pw ph:Int} (hx:0≤x) (hy:0≤y) (hv:0≤v) (h1:1≤pw) (h2:x+pw≤W) (h3:y+ph≤H) (hv2:v<ph) (hW:W≤16) (hH:H≤16):
  0≤(y+v)*W∧(y+v)*W+x+pw≤W*H∧W*H≤256∧0≤v*pw∧(v+1)*pw=v*pw+pw∧(v+1)*pw≤pw*ph:=by
 have a:0≤(y+v)*W:=Int.mul_nonneg ω2 ω2
 have b:(y+v+1)*W≤H*W:=Int.mul_le_mul_of_nonneg_right ω2 ω2
 have c:(y+v+1)*W=(y+v)*W+W:=by rw [Int.add_mul,Int.one_mul]
 have d:H*W≤16*16:=Int.mul_le_mul ω2 ω2 ω2 ω23
 have e:H*W=W*H:=Int.mul_comm _ _
 have f:0≤v*pw:=Int.mul_nonneg hv ω2
 have g:(v+1)*pw=v*pw+pw:=by rw [Int.add_mul,Int.one_mul]
 have h:(v+1)*pw≤ph*pw:=Int.mul_le_mul_of_nonneg_right ω2 ω2
 have i:ph*pw=pw*ph:=Int.mul_comm _ _
 exact ⟨a,by omega,by omega,f,g,by omega⟩
theorem z11p (ua va:Int) (ta:OA) (xa ya:Nat) (nd te:Int) (gf:OA) (vf uf:Nat) (x y:Int) (H:zq) (K:KT) (h:zzz ua va ta xa ya nd te gf vf uf x y H fun (sd:Int) (pd:Int) (ja:OA) (oa:Nat) (ma:Nat) (r2:Bool) (H':zq)=>K (.tuple #[.agg #[.int .i64 sd,.int .i64 pd,.slice ja oa ma],.bool r2]) H'):z1a Tryz.prog zh4 Tryz.f105 [.agg #[.int .i64 ua,.int .i64 va,.slice ta xa ya],.agg #[.int .i64 nd,.int .i64 te,.slice gf vf uf],.int .i64 x,.int .i64 y] H K:=by
 rw [z1gm]
 obtain ⟨l,q,il,iq,bl,bq,hk⟩:=h
 obtain rfl:=il.eqn
 obtain rfl:=iq.eqn
 have ep:zag ua va l nd te q x y=(bif z1p nd te q then (bif z8d ua va l x y nd te then (ua,va,z9a l q ua nd x y te.toNat,true) else (0,0,[],false)) else (0,0,[],false)):=rfl
 rw [ep] at hk
 refine Al.intro fun b1 H1 e1 l1 g1 o1=>Al.intro fun b2 H2 e2 l2 g2 o2=>Al.intro fun b3 H3 e3 l3 g3 o3=>?_
 have p1:=(o1.grow g2).grow g3
 have p2:=o2.grow g3
 have G3:Grow H H3:=(g1.trans g2).trans g3
 refine ⟨nd,te,gf,q.length,uf,(p2.rdN (Nat.le_of_ble_eq_true rfl)).trans rfl,zbo ⟨q,iq.grow G3,bq,fun H4 g4=>?_⟩⟩
 have q3:=o3.grow g4
 refine Br.intro (fun hp=>?_) (fun hp=>?_)
 ·refine Lt.setN q3 (n:=3) ω23 rfl fun H5 l5 q5 k5=>⟨0,0,none,0,0,(q5.rdN (Nat.le_of_ble_eq_true rfl)).trans rfl,?_⟩
  rw [z1f hp,cond_false] at hk
  exact hk none 0 0 H5 ((G3.trans g4).keep ω2 k5) (OwnS.nil _ _ _ _)
 have hpv:=z1e hp
 rw [hpv,cond_true] at hk
 have G4:Grow H H4:=G3.trans g4
 have q1:=p1.grow g4
 have q2:=p2.grow g4
 refine ⟨ua,va,ta,l.length,ya,(q1.rdN (Nat.le_of_ble_eq_true rfl)).trans rfl,nd,(q2.rdC 0).trans rfl,te,(q2.rdC 1).trans rfl,zng ⟨l,il.grow G4,bl,fun H6 g6=>?_⟩⟩
 have r3:=q3.grow g6
 refine Br.intro (fun hp=>?_) (fun hp=>?_)
 ·refine Lt.setN r3 (n:=3) ω23 rfl fun H7 l7 q7 k7=>⟨0,0,none,0,0,(q7.rdN (Nat.le_of_ble_eq_true rfl)).trans rfl,?_⟩
  rw [z1f hp,cond_false] at hk
  exact hk none 0 0 H7 ((G4.trans g6).keep ω2 k7) (OwnS.nil _ _ _ _)
 have hpt:=z1e hp
 rw [hpt,cond_true] at hk
 obtain ⟨w1,w2,w3,w4,w5,w6,x0,y0,pw1,ph1,hx,hy⟩:=f19z_t hpt
 obtain ⟨v1,v2,v3,v4,v5,v6,v7⟩:=f6z_t hpv
 have G6:Grow H H6:=G4.trans g6
 have r1:=q1.grow g6
 have r2:=q2.grow g6
 refine ⟨ta,l.length,ya,(r1.rdC 2).trans rfl,va,(r1.rdC 1).trans rfl,ua,(r1.rdC 0).trans rfl,z9i ⟨l,il.grow G6,bl,fun a n e H8 g8 o8=>?_⟩⟩
 refine Al.intro fun b4 H9 e9 l9 g9 o9=>Lt.setN o9 (n:=3) ω23 rfl fun H10 l10 q10 k10=>?_
 have lo:=o8.lo
 have up:=o8.up
 have s1:=((r1.grow g8).grow g9).keep (b':=b4) (by have:=r1.lt;have:=g8.1;omega) k10
 have s2:=((r2.grow g8).grow g9).keep (b':=b4) (by have:=r2.lt;have:=g8.1;omega) k10
 have s3:=((r3.grow g8).grow g9).keep (b':=b4) (by have:=r3.lt;have:=g8.1;omega) k10
 have s8:=(o8.grow g9).keepA (fun x y hx hy=>by cases hx;have:=up y hy;show b4≠_;omega) (OwnS.keep1 k10)
 have G10:Grow H H10:=((G6.trans g8).trans g9).keep (by have:=G6.1;have:=g8.1;omega) k10
 refine ⟨te,(s2.rdC 1).trans rfl,?_⟩
 obtain ⟨hn8,⟨ea,hx0⟩ | ⟨c,rfl,hc,he,hlc⟩⟩:=s8
 ·rw [hx0] at w5
  have:=z5l (W:=ua) (H:=va) w1 w2 w3 w4
  simp at w5
  omega
 subst he
 subst hn8
 obtain ⟨m,rfl⟩:∃m:Nat,te=(m:Int):=⟨te.toNat,by omega⟩
 have hcb:c≠b4:=by have:=up _ rfl;have:c<H8.length:=this;omega
 have c10:=hc.lt
 refine z1gi b1 b2 b3 b4 x (m:Int) y (fun μ t H'=>∃k:Nat,t=(k:Int)∧k≤m∧μ=m-k∧z3a c H10 H'∧Own H' c ((z9a l q ua nd x y k).map fF)) m 0 H10
  ⟨0,rfl,Nat.zero_le _,rfl,⟨Nat.le_refl _,fun _ _ _=>rfl⟩,hc⟩ ?_
 intro μ t H' hI
 obtain ⟨k,rfl,hkm,rfl,kp,oc⟩:=hI
 have lkp:=kp.1
 have t1:=s1.keep (b':=c) (by have:=r1.lt;have:=hlc;omega) kp
 have t2:=s2.keep (b':=c) (by have:=r2.lt;have:=hlc;omega) kp
 have t3:=s3.keep (b':=c) (by have:=r3.lt;have:=hlc;omega) kp
 have t4:=q10.keep (b':=c) (Ne.symm hcb) kp
 have GG:Grow H H':=G10.keep (by have:=G6.1;omega) kp
 rw [z1gl]
 refine Br.intro (fun hd=>?_) (fun hd=>?_)
 ·have hd':=of_decide_eq_true hd
  obtain ⟨i1,i2,i3,i4,i5,i6⟩:=z1d3 (x:=x) (y:=y) (v:=(k:Int)) (W:=ua) (H:=va) (pw:=nd) (ph:=(m:Int)) x0 y0 ω2 pw1 hx hy hd' w2 w4
  rw [show IntKind.wrap .i64 (y+(k:Int))=y+(k:Int) from zu ω2 ω2,show IntKind.wrap .i64 ((k:Int)+1)=(k:Int)+1 from zu ω2 ω2]
  refine ⟨some ⟨c,0,none⟩,l.length,1,(t4.rdC 2).trans rfl,ua,(t1.rdC 0).trans rfl,?_⟩
  rw [show IntKind.wrap .i64 ((y+(k:Int))*ua)=(y+(k:Int))*ua from zu ω2 ω2,show IntKind.wrap .i64 ((y+(k:Int))*ua+x)=(y+(k:Int))*ua+x from zu ω2 ω2]
  refine ⟨by omega,by omega,by omega,gf,q.length,uf,(t2.rdC 2).trans rfl,nd,(t2.rdC 0).trans rfl,nd,(t2.rdC 0).trans rfl,?_⟩
  rw [show IntKind.wrap .i64 ((k:Int)*nd)=(k:Int)*nd from zu ω2 ω2,show IntKind.wrap .i64 (((k:Int)+1)*nd)=((k:Int)+1)*nd from zu ω2 ω2]
  refine ⟨by omega,by omega,by omega,(((q.drop ((k:Int)*nd).toNat).take (nd).toNat)).map fF,?_,c,0+((y+(k:Int))*ua+x).toNat*1,rfl,oc.isOwn,⟨_,oc.rdN (by rw [List.length_map,z6x];omega)⟩,?_⟩
  ·have hs:=z9d (iq.grow GG) (lo:=(k:Int)*nd) (hi:=((k:Int)+1)*nd) ω2 ω2 ω2
   have e1:(((k:Int)+1)*nd-(k:Int)*nd).toNat=nd.toNat:=by omega
   have e2:min ((((k:Int)+1)*nd-(k:Int)*nd).toNat) (((l.length:Int)-((y+(k:Int))*ua+x)).toNat)=nd.toNat:=by omega
   rw [e1] at hs
   rw [e2]
   exact (z2q hs).symm ▸ congrArg (rdS H' _) (Nat.mul_one _).symm
  ·obtain ⟨u1,u2,u3⟩:=zpa (((q.drop ((k:Int)*nd).toNat).take (nd).toNat).map fF) (0+((y+(k:Int))*ua+x).toNat*1) oc
   rw [zr2] at u1
   unfold Lt
   refine z1gj (m-(k+1)) ω2 ⟨k+1,by omega,by omega,rfl,⟨by rw [u2];exact lkp,fun i hi hne=>(u3 i hne).trans (kp.2 i hi hne)⟩,?_⟩
   have e3:0+((y+(k:Int))*ua+x).toNat*1=((y+(k:Int))*ua+x).toNat:=by omega
   rw [e3] at u1
   rw [e3]
   exact u1
 ·have hd':=of_decide_eq_false hd
  obtain rfl:k=m:=by omega
  rw [z11q]
  refine ⟨ua,va,some ⟨c,0,none⟩,l.length,1,(t4.rdN (Nat.le_of_ble_eq_true rfl)).trans rfl,Lt.setN t3 (n:=3) (Nat.le_of_ble_eq_true rfl) rfl fun H12 l12 q12 k12=>⟨ua,va,some ⟨c,0,none⟩,l.length,1,(q12.rdN (Nat.le_of_ble_eq_true rfl)).trans rfl,?_⟩⟩
  rw [Int.toNat_natCast] at hk
  refine hk _ _ _ H12 (GG.keep ω2 k12) ((oc.keep (b':=b3) (by have:=r3.lt;have:=hlc;omega) k12).ownS (by rw [z6x]) (by have:=G6.1;omega))
theorem z1gk:FnOkX Tryz.prog (MainCls Tryz.prog) 105 S_fkz:=FnOkX.bodyF (hLt:=fun _=>z3y) mix_ok zyp Tryz.func105 rfl ω9 ω9 fun args H=>by
 unfold F_fkz
 split
 ·refine ⟨?_,?_,?_,?_,fun K hk=>z11p _ _ _ _ _ _ _ _ _ _ _ _ H K hk⟩
  ·intro K K' h hk;obtain ⟨l,q,i,i2,b,b2,k⟩:=hk;exact ⟨l,q,i,i2,b,b2,(fun td yd xd H' gg ow0=>h _ _ (k td yd xd H' gg ow0))⟩
  ·nofun
  ·intro K hk;obtain ⟨l,q,i,i2,b,b2,k⟩:=hk;exact z4m fun a n e H1 g o=>⟨_,_,k a n e H1 g o⟩
  ·nofun
 ·exact Nice.no


def z5h (ch:Int→Int→LN→PicT) (W Hi:Int) (l:LN) (wide high:Int):PicT:=z5n (z8w W Hi l 0 0 wide high) fun a b c=>z5n (ch a b c) fun a b c=>zag W Hi l a b c 0 0
theorem zo7 (ch:Int→Int→LN→PicT) (W Hi:Int) (l:LN) (wide high:Int):(z5h ch W Hi l wide high).2.2.1.length≤1024:=by
 unfold z5h
 generalize z8w W Hi l 0 0 wide high=q
 cases h:q.2.2.2 with
 | false=>rw [z3q h];exact Nat.zero_le _
 | true=>
  rw [z1r h]
  generalize ch q.1 q.2.1 q.2.2.1=r
  cases h2:r.2.2.2 with
  | false=>rw [z3q h2];exact Nat.zero_le _
  | true=>
   rw [z1r h2]
   have:=z1cj W Hi l r.1 r.2.1 r.2.2.1 0 0
   omega
/-! f1sz: function 54 -/
def zcv:Env:=envOf [(36,S_faz),(56,S_f4z),(105,S_fkz)]
def znu (ua va:Int) (ta:OA) (xa ya:Nat) (wide high:Int) (change_f:Fn) (change_x:Array Value) (change_y:Array Value) (H:zq) (K:Int→Int→OA→Nat→Nat→Bool→zq→Prop):Prop:=
 ∃(l:LN) (ch:Int→Int→LN→PicT),IsL fF H ta xa l∧l.length<1073741824∧(∀W Hi l,(ch W Hi l).2.2.1.length≤1024)∧zch zcv (.func change_f change_x change_y) H ch∧
  (∀(td:OA) (yd xd:Nat),∀H':zq,Grow H H'→OwnS fF H' H.length td yd xd ((z5h ch ua va l wide high).2.2.1)→K ((z5h ch ua va l wide high).1) ((z5h ch ua va l wide high).2.1) td yd xd ((z5h ch ua va l wide high).2.2.2) H')
theorem zzm {ua va:Int} {ta:OA} {xa ya:Nat} {wide high:Int} {change_f:Fn} {change_x:Array Value} {change_y:Array Value} {H:zq} {K:Int→Int→OA→Nat→Nat→Bool→zq→Prop} (h:∃(l:LN) (ch:Int→Int→LN→PicT),IsL fF H ta xa l∧l.length<1073741824∧(∀W Hi l,(ch W Hi l).2.2.1.length≤1024)∧zch zcv (.func change_f change_x change_y) H ch∧
  (∀(td:OA) (yd xd:Nat),∀H':zq,Grow H H'→OwnS fF H' H.length td yd xd ((z5h ch ua va l wide high).2.2.1)→K ((z5h ch ua va l wide high).1) ((z5h ch ua va l wide high).2.1) td yd xd ((z5h ch ua va l wide high).2.2.2) H')):znu ua va ta xa ya wide high change_f change_x change_y H K:=h
def z15s (args:List Value) (H:zq):(Value→zq→Prop)→Prop:=match args with
 | [.agg ⟨[.int .i64 ua,.int .i64 va,.slice ta xa ya]⟩,.int .i64 wide,.int .i64 high,.func change_f change_x change_y]=>fun K=>znu ua va ta xa ya wide high change_f change_x change_y H fun (sd:Int) (pd:Int) (ja:OA) (oa:Nat) (ma:Nat) (r2:Bool) (H':zq)=>K (.tuple #[.agg #[.int .i64 sd,.int .i64 pd,.slice ja oa ma],.bool r2]) H'
 | _=>fun _=>False
def z16v:FSpec:={F:=z15s,quiet:=false,tame:=false}
theorem z1bw (ua va:Int) (ta:OA) (xa ya:Nat) (wide high:Int) (change_f:Fn) (change_x:Array Value) (change_y:Array Value) (H:zq) (K:KT):z1a Tryz.prog zcv Tryz.f54 [.agg #[.int .i64 ua,.int .i64 va,.slice ta xa ya],.int .i64 wide,.int .i64 high,.func change_f change_x change_y] H K=
 (Al [.int .i64 ua,.int .i64 va,.slice ta xa ya] H fun b1 H1=>Al [.int .i64 0,.int .i64 0,.slice none 0 0] H1 fun b2 H2=>∃c1:Int,∃c2:Int,∃kh:OA,∃mh:Nat,∃lh:Nat,  rdN H2 b1 0 3=some [.int .i64 c1,.int .i64 c2,.slice kh mh lh]∧zzv c1 c2 kh mh lh 0 0 wide high H2 fun (r1:Int) (r2:Int) (a1:OA) (r3:Nat) (r4:Nat) (r5:Bool) (H3:zq)=>Al [.int .i64 0,.int .i64 0,.slice none 0 0] H3 fun b3 H4=>isOwn H4 b3∧(∃l,rdN H4 b3 0 3=some l)∧Lt (setN H4 b3 0 [.int .i64 r1,.int .i64 r2,.slice a1 r3 r4]) fun H5=>Br (!r5) (isOwn H5 b2∧(∃l,rdN H5 b2 0 3=some l)∧Lt (setN H5 b2 0 [.int .i64 0,.int .i64 0,.slice none 0 0]) fun H6=>∃c4:Int,∃c5:Int,∃th:OA,∃vh:Nat,∃uh:Nat,  rdN H6 b2 0 3=some [.int .i64 c4,.int .i64 c5,.slice th vh uh]∧K (.tuple #[.agg #[.int .i64 c4,.int .i64 c5,.slice th vh uh],.bool false]) H6) (∃c7:Int,∃c8:Int,∃fi:OA,∃ii:Nat,∃gi:Nat,  rdN H5 b3 0 3=some [.int .i64 c7,.int .i64 c8,.slice fi ii gi]∧zf1 zcv (.func change_f change_x change_y) [.agg #[.int .i64 c7,.int .i64 c8,.slice fi ii gi]] H5 fun (w1:Value) (H7:zq)=>extV w1 0 fun (w2:Value)=>extV w1 1 fun (w3:Value)=>stN 3 w2 H7 b3 0 fun (H8:zq)=>unK .not w3 fun (w4:Value)=>za4 w4 fun (t1:Bool)=>Br t1 (isOwn H8 b2∧(∃l,rdN H8 b2 0 3=some l)∧Lt (setN H8 b2 0 [.int .i64 0,.int .i64 0,.slice none 0 0]) fun H9=>∃c10:Int,∃c11:Int,∃ti:OA,∃vi:Nat,∃ui:Nat,  rdN H9 b2 0 3=some [.int .i64 c10,.int .i64 c11,.slice ti vi ui]∧K (.tuple #[.agg #[.int .i64 c10,.int .i64 c11,.slice ti vi ui],.bool false]) H9) (∃c13:Int,∃c14:Int,∃ij:OA,∃kj:Nat,∃jj:Nat,  rdN H8 b1 0 3=some [.int .i64 c13,.int .i64 c14,.slice ij kj jj]∧∃c16:Int,∃c17:Int,∃ck:OA,∃fk:Nat,∃dk:Nat,  rdN H8 b3 0 3=some [.int .i64 c16,.int .i64 c17,.slice ck fk dk]∧zzz c13 c14 ij kj jj c16 c17 ck fk dk 0 0 H8 fun (r6:Int) (r7:Int) (a2:OA) (r8:Nat) (r9:Nat) (r10:Bool) (H10:zq)=>isOwn H10 b2∧(∃l,rdN H10 b2 0 3=some l)∧Lt (setN H10 b2 0 [.int .i64 r6,.int .i64 r7,.slice a2 r8 r9]) fun H11=>∃c19:Int,∃c20:Int,∃lm:OA,∃nm:Nat,∃mm:Nat,  rdN H11 b2 0 3=some [.int .i64 c19,.int .i64 c20,.slice lm nm mm]∧K (.tuple #[.agg #[.int .i64 c19,.int .i64 c20,.slice lm nm mm],.bool r10]) H11))):=by kernel_rfl
theorem zsw:∀g,FnOkX Tryz.prog (MainCls Tryz.prog) g (zcv g):=FnOkX.envOf (by
 intro x hx
 simp only [List.mem_cons,List.not_mem_nil,or_false] at hx
 rcases hx with rfl | rfl | rfl
 ·exact z1fc.le fun _ _ _=>trivial
 ·exact f4z_ok
 ·exact z1gk)
theorem zvj (ua va:Int) (ta:OA) (xa ya:Nat) (wide high:Int) (change_f:Fn) (change_x:Array Value) (change_y:Array Value) (H:zq) (K:KT) (h:znu ua va ta xa ya wide high change_f change_x change_y H fun (sd:Int) (pd:Int) (ja:OA) (oa:Nat) (ma:Nat) (r2:Bool) (H':zq)=>K (.tuple #[.agg #[.int .i64 sd,.int .i64 pd,.slice ja oa ma],.bool r2]) H'):z1a Tryz.prog zcv Tryz.f54 [.agg #[.int .i64 ua,.int .i64 va,.slice ta xa ya],.int .i64 wide,.int .i64 high,.func change_f change_x change_y] H K:=by
 rw [z1bw]
 obtain ⟨l,ch,il,bl,hlen,hch,hk⟩:=h
 obtain rfl:=il.eqn
 have ep:z5h ch ua va l wide high=z5n (z8w ua va l 0 0 wide high) fun a b c=>z5n (ch a b c) fun a b c=>zag ua va l a b c 0 0:=rfl
 rw [ep] at hk
 refine Al.intro fun b1 H1 e1 l1 g1 o1=>Al.intro fun b2 H2 e2 l2 g2 o2=>?_
 have G2:Grow H H2:=g1.trans g2
 refine ⟨ua,va,ta,l.length,ya,((o1.grow g2).rdN (Nat.le_of_ble_eq_true rfl)).trans rfl,z19q ⟨l,il.grow G2,bl,fun a n e H3 g3 w3=>?_⟩⟩
 have sl:=z1cf ua va l 0 0 wide high
 generalize z8w ua va l 0 0 wide high=q at *
 refine Al.intro fun b3 H4 e4 l4 g4 o4=>Lt.setN o4 (n:=3) ω23 rfl fun H5 l5 o5 k5=>?_
 have up3:=w3.up
 have lo3:=w3.lo
 have s3:=(w3.grow g4).keepA (fun x y hx hy=>by cases hx;have:=up3 y hy;show b3≠_;omega) (OwnS.keep1 k5)
 have c1:=(((o1.grow g2).grow g3).grow g4).keep (b':=b3) (by have:=o1.lt;have:=g3.1;omega) k5
 have c2:=((o2.grow g3).grow g4).keep (b':=b3) ω31 k5
 have G5:Grow H H5:=((G2.trans g3).trans g4).keep ω32 k5
 refine Br.intro (fun hp=>?_) (fun hp=>?_)
 ·refine Lt.setN c2 (n:=3) ω23 rfl fun H6 l6 q6 k6=>⟨0,0,none,0,0,(q6.rdN (Nat.le_of_ble_eq_true rfl)).trans rfl,?_⟩
  rw [z3q (z1f hp)] at hk
  exact hk none 0 0 H6 (G5.keep ω2 k6) (OwnS.nil _ _ _ _)
 rw [z1r (z1e hp)] at hk
 refine ⟨q.1,q.2.1,a,n,e,(o5.rdN (Nat.le_of_ble_eq_true rfl)).trans rfl,?_⟩
 refine hch q.1 q.2.1 a n e q.2.2.1 H5 G5 s3.isL ω2 _ fun a7 n7 e7 H7 g7 w7=>?_
 rw [ext0,ext1,zib]
 have hl2:=hlen q.1 q.2.1 q.2.2.1
 generalize ch q.1 q.2.1 q.2.2.1=r at *
 refine Lt.setN (o5.grow g7) (n:=3) (Nat.le_of_ble_eq_true rfl) rfl fun H8 l8 o8 k8=>?_
 rw [zy0]
 have up7:=w7.up
 have lo7:=w7.lo
 have s7:=w7.keepA (fun x y hx hy=>by cases hx;have:=lo7 y hy;have:=o5.lt;show b3≠_;omega) (OwnS.keep1 k8)
 have d1:=(c1.grow g7).keep (b':=b3) (by have:=o1.lt;have:=g3.1;omega) k8
 have d2:=(c2.grow g7).keep (b':=b3) ω31 k8
 have G8:Grow H H8:=(G5.trans g7).keep ω32 k8
 refine Br.intro (fun hp2=>?_) (fun hp2=>?_)
 ·refine Lt.setN d2 (n:=3) ω23 rfl fun H9 l9 q9 k9=>⟨0,0,none,0,0,(q9.rdN (Nat.le_of_ble_eq_true rfl)).trans rfl,?_⟩
  rw [z3q (z1f hp2)] at hk
  exact hk none 0 0 H9 (G8.keep ω2 k9) (OwnS.nil _ _ _ _)
 rw [z1r (z1e hp2)] at hk
 refine ⟨ua,va,ta,l.length,ya,(d1.rdN (Nat.le_of_ble_eq_true rfl)).trans rfl,r.1,r.2.1,a7,n7,e7,(o8.rdN (Nat.le_of_ble_eq_true rfl)).trans rfl,z19w ⟨l,r.2.2.1,il.grow G8,s7.isL,bl,by omega,fun a9 n9 e9 H10 g10 w10=>?_⟩⟩
 refine Lt.setN (d2.grow g10) (n:=3) ω23 rfl fun H11 l11 q11 k11=>⟨_,_,a9,n9,e9,(q11.rdN (Nat.le_of_ble_eq_true rfl)).trans rfl,?_⟩
 have lo10:=w10.lo
 have hle:=G8.1
 exact hk a9 n9 e9 H11 ((G8.trans g10).keep ω2 k11) ((w10.keepA (fun x y hx hy=>by cases hx;have:=lo10 y hy;have:=d2.lt;show b2≠_;omega) (OwnS.keep1 k11)).weak hle)
theorem z1bv:FnOkX Tryz.prog (MainCls Tryz.prog) 54 z16v:=FnOkX.bodyF (hLt:=fun _=>z3y) mix_ok zsw Tryz.func54 rfl ω9 ω9 fun args H=>by
 unfold z15s
 split
 ·refine ⟨?_,?_,?_,?_,fun K hk=>zvj _ _ _ _ _ _ _ _ _ _ H K hk⟩
  ·intro K K' h hk;obtain ⟨l,ch,i,b,hlen,hch,k⟩:=hk;exact ⟨l,ch,i,b,hlen,hch,(fun td yd xd H' gg ow0=>h _ _ (k td yd xd H' gg ow0))⟩
  ·nofun
  ·intro K hk;obtain ⟨l,ch,i,b,hlen,hch,k⟩:=hk;exact z4m fun a n e H1 g o=>⟨_,_,k a n e H1 g o⟩
  ·nofun
 ·exact Nice.no
def z2c (ws:LN) (sc:Nat) (W Hi:Int) (l:LN):PicT:=z2n ws sc W Hi l
def z6p (ws:LN) (sc:Nat) (W Hi levels:Int) (k:Nat) (a b:Int) (l:LN):PicT:=z5h (zbw (z2c ws sc)) a b l (z7h W (levels-1-(k:Int))) (z7h Hi (levels-1-(k:Int)))
def z1o (ia:LN) (gb:Nat) (ua va:Int) (ga:LN) (levels:Int):PicT:=
 bif z5k ia gb then (bif z1p ua va ga then (bif zqt levels then z2f (z6p ia gb ua va levels) levels.toNat 0 ua va ga else (0,0,[],false)) else (0,0,[],false)) else (0,0,[],false)
def ztp (sb:OA) (fc xb gb:Nat) (ua va:Int) (ta:OA) (xa ya:Nat) (levels:Int) (H:zq) (K:Int→Int→OA→Nat→Nat→Bool→zq→Prop):Prop:=
 ∃(ia ga:LN),IsL fF H sb fc ia∧IsL fF H ta xa ga∧ia.length<1073741824∧ga.length<1073741824∧
  (∀(td:OA) (yd xd:Nat),∀H':zq,Grow H H'→OwnS fF H' H.length td yd xd ((z1o ia gb ua va ga levels).2.2.1)→K ((z1o ia gb ua va ga levels).1) ((z1o ia gb ua va ga levels).2.1) td yd xd ((z1o ia gb ua va ga levels).2.2.2) H')
theorem ztq {sb:OA} {fc xb gb:Nat} {ua va:Int} {ta:OA} {xa ya:Nat} {levels:Int} {H:zq} {K:Int→Int→OA→Nat→Nat→Bool→zq→Prop} (h:∃(ia ga:LN),IsL fF H sb fc ia∧IsL fF H ta xa ga∧ia.length<1073741824∧ga.length<1073741824∧
  (∀(td:OA) (yd xd:Nat),∀H':zq,Grow H H'→OwnS fF H' H.length td yd xd ((z1o ia gb ua va ga levels).2.2.1)→K ((z1o ia gb ua va ga levels).1) ((z1o ia gb ua va ga levels).2.1) td yd xd ((z1o ia gb ua va ga levels).2.2.2) H')):ztp sb fc xb gb ua va ta xa ya levels H K:=h
theorem zvt (ws:LN) (sc:Nat) (W Hi:Int) (l:LN) (levels:Int):(z1o ws sc W Hi l levels).2.2.1.length≤1024:=by
 unfold z1o
 cases z5k ws sc with
 | false=>exact Nat.zero_le _
 | true=>
  cases h:z1p W Hi l with
  | false=>exact Nat.zero_le _
  | true=>
   cases zqt levels with
   | false=>exact Nat.zero_le _
   | true=>
    rw [cond_true,cond_true,cond_true]
    obtain ⟨h1,h2,h3,h4,h5,h6,_⟩:=f6z_t h
    exact zxc (fun k a b l=>zo7 _ _ _ _ _ _) _ _ _ _ _ ω2
/-! fbz: function 14 -/
def zex:Env:=envOf [(999996,z9r),(49,zz6),(50,zll),(51,S_ftz),(53,zna),(55,z16u),(54,z16v)]
def F_fbz (args:List Value) (H:zq):(Value→zq→Prop)→Prop:=match args with
 | [.agg ⟨[.slice sb fc xb,.float .f32 gb]⟩,.agg ⟨[.int .i64 ua,.int .i64 va,.slice ta xa ya]⟩,.int .i64 levels]=>fun K=>ztp sb fc xb gb ua va ta xa ya levels H fun (sd:Int) (pd:Int) (ja:OA) (oa:Nat) (ma:Nat) (r2:Bool) (H':zq)=>K (.tuple #[.agg #[.int .i64 sd,.int .i64 pd,.slice ja oa ma],.bool r2]) H'
 | _=>fun _=>False
def S_fbz:FSpec:={F:=F_fbz,quiet:=false,tame:=false}
theorem z1fi (sb:OA) (fc xb gb:Nat) (ua va:Int) (ta:OA) (xa ya:Nat) (levels:Int) (H:zq) (K:KT):z1a Tryz.prog zex Tryz.f14 [.agg #[.slice sb fc xb,.float .f32 gb],.agg #[.int .i64 ua,.int .i64 va,.slice ta xa ya],.int .i64 levels] H K=
 (Al [.slice sb fc xb,.float .f32 gb] H fun b1 H1=>Al [.int .i64 ua,.int .i64 va,.slice ta xa ya] H1 fun b2 H2=>Al [.int .i64 0,.int .i64 0,.slice none 0 0] H2 fun b3 H3=>∃zi:OA,∃bj:Nat,∃aj:Nat,∃c2:Nat,  rdN H3 b1 0 2=some [.slice zi bj aj,.float .f32 c2]∧zpg zi bj aj c2 H3 fun (r1:Bool) (H4:zq)=>Br (!r1) (isOwn H4 b3∧(∃l,rdN H4 b3 0 3=some l)∧Lt (setN H4 b3 0 [.int .i64 0,.int .i64 0,.slice none 0 0]) fun H5=>∃c3:Int,∃c4:Int,∃gk:OA,∃jk:Nat,∃ik:Nat,  rdN H5 b3 0 3=some [.int .i64 c3,.int .i64 c4,.slice gk jk ik]∧K (.tuple #[.agg #[.int .i64 c3,.int .i64 c4,.slice gk jk ik],.bool false]) H5) (∃c6:Int,∃c7:Int,∃lk:OA,∃pk:Nat,∃nk:Nat,  rdN H4 b2 0 3=some [.int .i64 c6,.int .i64 c7,.slice lk pk nk]∧zh7 c6 c7 lk pk nk H4 fun (r2:Bool) (H6:zq)=>Br (!r2) (isOwn H6 b3∧(∃l,rdN H6 b3 0 3=some l)∧Lt (setN H6 b3 0 [.int .i64 0,.int .i64 0,.slice none 0 0]) fun H7=>∃c9:Int,∃c10:Int,∃zj:OA,∃bk:Nat,∃ak:Nat,  rdN H7 b3 0 3=some [.int .i64 c9,.int .i64 c10,.slice zj bk ak]∧K (.tuple #[.agg #[.int .i64 c9,.int .i64 c10,.slice zj bk ak],.bool false]) H7) (zu4 levels H6 fun (r3:Bool) (H8:zq)=>Br (!r3) (isOwn H8 b3∧(∃l,rdN H8 b3 0 3=some l)∧Lt (setN H8 b3 0 [.int .i64 0,.int .i64 0,.slice none 0 0]) fun H9=>∃c12:Int,∃c13:Int,∃xk:OA,∃dl:Nat,∃yk:Nat,  rdN H9 b3 0 3=some [.int .i64 c12,.int .i64 c13,.slice xk dl yk]∧K (.tuple #[.agg #[.int .i64 c12,.int .i64 c13,.slice xk dl yk],.bool false]) H9) (Al [.nilFunc] H8 fun b4 H10=>isOwn H10 b4∧(∃l,rdN H10 b4 0 1=some l)∧Lt (setC H10 b4 0 (.func (.func 52) #[] #[.pointer (some ⟨b1,0,none⟩)])) fun H11=>∃fh:OA,∃bh:Nat,∃qh:Nat,  rdC H11 b2 2=some (.slice fh bh qh)∧∃x2:Int,  rdC H11 b2 1=some (.int .i64 x2)∧∃x3:Int,  rdC H11 b2 0=some (.int .i64 x3)∧zat fh bh qh H11 fun (a1:OA) (r4:Nat) (r5:Nat) (H12:zq)=>Al [.int .i64 0,.int .i64 0,.slice none 0 0] H12 fun b5 H13=>isOwn H13 b5∧(∃l,rdN H13 b5 0 3=some l)∧Lt (setN H13 b5 0 [.int .i64 x3,.int .i64 x2,.slice a1 r4 r5]) fun H14=>z1j (exL Tryz.prog zex (cl (cl (cr (cl (cr (cr (cr (cr (zr Tryz.f14))))))))) 1872 192 [(0,576)]) (ud4 (.pointer (some ⟨b2,0,none⟩)::ud::.pointer (some ⟨b3,0,none⟩)::ud::.pointer (some ⟨b4,0,none⟩)::.pointer (some ⟨b5,0,none⟩)::.int .i64 (IntKind.wrap .i64 (levels-1))::ud50 [])) H14 (zx 0 (seqQ (exL Tryz.prog zex (cr (cr (cr (cr (cr (zr Tryz.f14)))))) 192 192 []) (retK Tryz.prog Tryz.f14 K))))))):=by kernel_rfl
abbrev zj8 (b2 b3 b4 b5:Nat) (k:Int)  :List Value:=(ud4 (.pointer (some ⟨b2,0,none⟩)::ud::.pointer (some ⟨b3,0,none⟩)::ud::.pointer (some ⟨b4,0,none⟩)::.pointer (some ⟨b5,0,none⟩)::.int .i64 k::ud50 []))
theorem z1fh (b2 b3 b4 b5:Nat) (k:Int)  (H:zq) (R:Post):exL Tryz.prog zex (cl (cl (cr (cl (cr (cr (cr (cr (zr Tryz.f14))))))))) 1872 192 [(0,576)] (zj8 b2 b3 b4 b5 k) H R=
 (Br (decide ((0:Int)≤k)) (∃x4:Int,  rdC H b2 1=some (.int .i64 x4)∧∃x5:Int,  rdC H b2 0=some (.int .i64 x5)∧∃c15:Int,∃c16:Int,∃fl:OA,∃jl:Nat,∃gl:Nat,  rdN H b5 0 3=some [.int .i64 c15,.int .i64 c16,.slice fl jl gl]∧znt x5 k H fun (r6:Int) (H15:zq)=>znt x4 k H15 fun (r7:Int) (H16:zq)=>znu c15 c16 fl jl gl r6 r7 (.func 56) #[] #[.pointer (some ⟨b4,0,none⟩)] H16 fun (r8:Int) (r9:Int) (a2:OA) (r10:Nat) (r11:Nat) (r12:Bool) (H17:zq)=>Al [.int .i64 0,.int .i64 0,.slice none 0 0] H17 fun b6 H18=>isOwn H18 b6∧(∃l,rdN H18 b6 0 3=some l)∧Lt (setN H18 b6 0 [.int .i64 r8,.int .i64 r9,.slice a2 r10 r11]) fun H19=>Br (!r12) (isOwn H19 b3∧(∃l,rdN H19 b3 0 3=some l)∧Lt (setN H19 b3 0 [.int .i64 0,.int .i64 0,.slice none 0 0]) fun H20=>R .ret (ud6 (.pointer (some ⟨b3,0,none⟩)::.bool false::ud53 [])) H20) (∃c18:Int,∃c19:Int,∃kl:OA,∃ol:Nat,∃ml:Nat,  rdN H19 b6 0 3=some [.int .i64 c18,.int .i64 c19,.slice kl ol ml]∧isOwn H19 b5∧(∃l,rdN H19 b5 0 3=some l)∧Lt (setN H19 b5 0 [.int .i64 c18,.int .i64 c19,.slice kl ol ml]) fun H21=>R .normal (ud4 (.pointer (some ⟨b2,0,none⟩)::ud::.pointer (some ⟨b3,0,none⟩)::ud::.pointer (some ⟨b4,0,none⟩)::.pointer (some ⟨b5,0,none⟩)::.int .i64 (IntKind.wrap .i64 (k-1))::ud50 [])) H21)) (R (.exit 0) (ud6 (.pointer (some ⟨b3,0,none⟩)::ud2 (.pointer (some ⟨b5,0,none⟩)::ud51 []))) H)):=by kernel_rfl
def zvs (b2 b3 b4 b5:Nat) (Inv:Nat→Int→zq→Prop):Nat→List Value→zq→Prop:=fun μ tm H=>∃(k:Int),tm=(zj8 b2 b3 b4 b5 k)∧Inv μ k H
theorem z1fe (b2 b3 b4 b5:Nat) {Q:Post} (Inv:Nat→Int→zq→Prop) (ν:Nat) (k:Int)  (H:zq) (h0:Inv ν k H)
  (hs:∀(μ:Nat) (k:Int)  (H:zq),Inv μ k H→exL Tryz.prog zex (cl (cl (cr (cl (cr (cr (cr (cr (zr Tryz.f14))))))))) 1872 192 [(0,576)] (zj8 b2 b3 b4 b5 k) H (z1b (zvs b2 b3 b4 b5 Inv) μ Q)):z1j (exL Tryz.prog zex (cl (cl (cr (cl (cr (cr (cr (cr (zr Tryz.f14))))))))) 1872 192 [(0,576)]) (zj8 b2 b3 b4 b5 k) H Q:=
 ⟨zvs b2 b3 b4 b5 Inv,ν,⟨k,rfl,h0⟩,fun μ tm H h=>by obtain ⟨k,rfl,hI⟩:=h;exact hs μ k  H hI⟩
theorem z1ff {b2 b3 b4 b5:Nat} {Q:Post} {Inv:Nat→Int→zq→Prop} {μ:Nat} (μ':Nat) {k:Int}  {H:zq} (hm:μ'<μ) (hI:Inv μ' k H):z1b (zvs b2 b3 b4 b5 Inv) μ Q .normal (zj8 b2 b3 b4 b5 k) H:=⟨μ',hm,k,rfl,hI⟩
theorem z10x (b3 b5:Nat) (H:zq) (K:KT)  {I:Nat→List Value→zq→Prop} {μ:Nat}:z1b I μ (zx 0 (seqQ (exL Tryz.prog zex (cr (cr (cr (cr (cr (zr Tryz.f14)))))) 192 192 []) (retK Tryz.prog Tryz.f14 K))) (.exit 0) (ud6 (.pointer (some ⟨b3,0,none⟩)::ud2 (.pointer (some ⟨b5,0,none⟩)::ud51 []))) H=
 (∃c21:Int,∃c22:Int,∃ql:OA,∃ul:Nat,∃tl:Nat,  rdN H b5 0 3=some [.int .i64 c21,.int .i64 c22,.slice ql ul tl]∧isOwn H b3∧(∃l,rdN H b3 0 3=some l)∧Lt (setN H b3 0 [.int .i64 c21,.int .i64 c22,.slice ql ul tl]) fun H22=>∃c24:Int,∃c25:Int,∃wl:OA,∃yl:Nat,∃xl:Nat,  rdN H22 b3 0 3=some [.int .i64 c24,.int .i64 c25,.slice wl yl xl]∧K (.tuple #[.agg #[.int .i64 c24,.int .i64 c25,.slice wl yl xl],.bool true]) H22):=by kernel_rfl
theorem zpt (b3:Nat) (t7:Bool) (H:zq) (K:KT)  {I:Nat→List Value→zq→Prop} {μ:Nat}:z1b I μ (zx 0 (seqQ (exL Tryz.prog zex (cr (cr (cr (cr (cr (zr Tryz.f14)))))) 192 192 []) (retK Tryz.prog Tryz.f14 K))) .ret (ud6 (.pointer (some ⟨b3,0,none⟩)::.bool t7::ud53 [])) H=
 (∃c27:Int,∃c28:Int,∃am:OA,∃dm:Nat,∃bm:Nat,  rdN H b3 0 3=some [.int .i64 c27,.int .i64 c28,.slice am dm bm]∧K (.tuple #[.agg #[.int .i64 c27,.int .i64 c28,.slice am dm bm],.bool t7]) H):=by kernel_rfl
theorem zyg:∀g,FnOkX Tryz.prog (MainCls Tryz.prog) g (zex g):=FnOkX.envOf (by
 intro x hx
 simp only [List.mem_cons,List.not_mem_nil,or_false] at hx
 rcases hx with rfl | rfl | rfl | rfl | rfl | rfl | rfl
 ·exact z6q _ _
 ·exact zvu.le fun _ _ _=>trivial
 ·exact f6z_ok.le fun _ _ _=>trivial
 ·exact z1hc.le fun _ _ _=>trivial
 ·exact zm8.le fun _ _ _=>trivial
 ·exact z1bs.le fun _ _ _=>trivial
 ·exact z1bv)
theorem zcd (ws:LN) (sc:Nat) (W Hi:Int) (l:LN):(z2c ws sc W Hi l).2.2.1.length≤1024:=f17z_len ws sc W Hi l
theorem zgl {H:zq} {c:Nat} {wa:OA} {wn we sc:Nat} {ws:LN} (o:Own H c [.slice wa wn we,.float .f32 sc]) (iw:IsL fF H wa wn ws) (bw:ws.length<1073741824) (W Hi:Int) (la:OA) (ln le:Nat) (l:LN) (H1:zq) (g:Grow H H1) (il:IsL fF H1 la ln l) (bl:l.length<1073741824) (K:KT)
  (hK:∀(a:OA) (n e:Nat) (H2:zq),Grow H1 H2→OwnS fF H2 H1.length a n e (z2c ws sc W Hi l).2.2.1→K (.tuple #[.agg #[.int .i64 (z2c ws sc W Hi l).1,.int .i64 (z2c ws sc W Hi l).2.1,.slice a n e],.bool (z2c ws sc W Hi l).2.2.2]) H2):
  T_f3z W Hi la ln le c H1 fun r1 r2 a n e r H'=>K (.tuple #[.agg #[.int .i64 r1,.int .i64 r2,.slice a n e],.bool r]) H':=
 ⟨wa,wn,we,sc,l,ws,((o.grow g).rdN (Nat.le_of_ble_eq_true rfl)).trans rfl,il,iw.grow g,bl,bw,fun a n e H2 g2 w2=>hK a n e H2 g2 w2⟩
theorem zl9 {H:zq} {c:Nat} {wa:OA} {wn we sc:Nat} {ws:LN} (o:Own H c [.slice wa wn we,.float .f32 sc]) (iw:IsL fF H wa wn ws) (bw:ws.length<1073741824):zch zpf (.func (.func 52) #[] #[.pointer (some ⟨c,0,none⟩)]) H (z2c ws sc):=
 fun W Hi la ln le l H1 g il bl K hK=>zgl o iw bw W Hi la ln le l H1 g il bl K hK
theorem zla {H:zq} {c:Nat} {wa:OA} {wn we sc:Nat} {ws:LN} (o:Own H c [.slice wa wn we,.float .f32 sc]) (iw:IsL fF H wa wn ws) (bw:ws.length<1073741824):zch zc2 (.func (.func 52) #[] #[.pointer (some ⟨c,0,none⟩)]) H (z2c ws sc):=
 fun W Hi la ln le l H1 g il bl K hK=>zgl o iw bw W Hi la ln le l H1 g il bl K hK
theorem zlr {H:zq} {c d:Nat} {wa:OA} {wn we sc:Nat} {ws:LN} (o:Own H c [.slice wa wn we,.float .f32 sc]) (o2:Own H d [.func (.func 52) #[] #[.pointer (some ⟨c,0,none⟩)]]) (iw:IsL fF H wa wn ws) (bw:ws.length<1073741824):zch zcv (.func (.func 56) #[] #[.pointer (some ⟨d,0,none⟩)]) H (zbw (z2c ws sc)):=by
 intro W Hi la ln le l H1 g il bl K hK
 refine (?_:T_f4z W Hi la ln le d H1 fun r1 r2 a n e r H'=>K (.tuple #[.agg #[.int .i64 r1,.int .i64 r2,.slice a n e],.bool r]) H')
 exact ⟨l,_,_,_,z2c ws sc,il,bl,((o2.grow g).rdC 0).trans rfl,zcd ws sc,(zl9 o iw bw).grow g,(zla o iw bw).grow g,fun a n e H2 g2 w2=>hK a n e H2 g2 w2⟩
theorem z10w (sb:OA) (fc xb gb:Nat) (ua va:Int) (ta:OA) (xa ya:Nat) (levels:Int) (H:zq) (K:KT) (h:ztp sb fc xb gb ua va ta xa ya levels H fun (sd:Int) (pd:Int) (ja:OA) (oa:Nat) (ma:Nat) (r2:Bool) (H':zq)=>K (.tuple #[.agg #[.int .i64 sd,.int .i64 pd,.slice ja oa ma],.bool r2]) H'):z1a Tryz.prog zex Tryz.f14 [.agg #[.slice sb fc xb,.float .f32 gb],.agg #[.int .i64 ua,.int .i64 va,.slice ta xa ya],.int .i64 levels] H K:=by
 rw [z1fi]
 obtain ⟨ws,l,iw,il,bw,bl,hk⟩:=h
 obtain rfl:=iw.eqn
 obtain rfl:=il.eqn
 have e:z1o ws gb ua va l levels=(bif z5k ws gb then (bif z1p ua va l then (bif zqt levels then z2f (z6p ws gb ua va levels) levels.toNat 0 ua va l else (0,0,[],false)) else (0,0,[],false)) else (0,0,[],false)):=rfl
 rw [e] at hk
 refine Al.intro fun b1 H1 e1 l1 g1 o1=>Al.intro fun b2 H2 e2 l2 g2 o2=>Al.intro fun b3 H3 e3 l3 g3 o3=>?_
 have G3:Grow H H3:=(g1.trans g2).trans g3
 have p1:=(o1.grow g2).grow g3
 have p2:=o2.grow g3
 refine ⟨sb,ws.length,xb,gb,(p1.rdN (Nat.le_of_ble_eq_true rfl)).trans rfl,zlm ⟨ws,iw.grow G3,bw,fun H4 g4=>?_⟩⟩
 refine Br.intro (fun hv=>?_) (fun hv=>?_)
 ·refine Lt.setN (o3.grow g4) (n:=3) ω23 rfl fun H5 l5 q5 k5=>⟨0,0,none,0,0,(q5.rdN (Nat.le_of_ble_eq_true rfl)).trans rfl,?_⟩
  rw [z1f hv,cond_false] at hk
  exact hk none 0 0 H5 ((G3.trans g4).keep ω2 k5) (OwnS.nil _ _ _ _)
 rw [z1e hv,cond_true] at hk
 refine ⟨ua,va,ta,l.length,ya,((p2.grow g4).rdN (Nat.le_of_ble_eq_true rfl)).trans rfl,zbo ⟨l,il.grow (G3.trans g4),bl,fun H6 g6=>?_⟩⟩
 have q3:=(o3.grow g4).grow g6
 refine Br.intro (fun hp=>?_) (fun hp=>?_)
 ·refine Lt.setN q3 (n:=3) ω23 rfl fun H7 l7 q7 k7=>⟨0,0,none,0,0,(q7.rdN (Nat.le_of_ble_eq_true rfl)).trans rfl,?_⟩
  rw [z1f hp,cond_false] at hk
  exact hk none 0 0 H7 (((G3.trans g4).trans g6).keep ω2 k7) (OwnS.nil _ _ _ _)
 have hpv:=z1e hp
 rw [hpv,cond_true] at hk
 obtain ⟨w1,w2,w3,w4,w5,w6,w7⟩:=f6z_t hpv
 have G6:Grow H H6:=(G3.trans g4).trans g6
 unfold zu4
 refine Br.intro (fun hp=>?_) (fun hp=>?_)
 ·refine Lt.setN q3 (n:=3) ω23 rfl fun H7 l7 q7 k7=>⟨0,0,none,0,0,(q7.rdN (Nat.le_of_ble_eq_true rfl)).trans rfl,?_⟩
  rw [z1f hp,cond_false] at hk
  exact hk none 0 0 H7 (G6.keep ω2 k7) (OwnS.nil _ _ _ _)
 have hlv:=z1e hp
 rw [hlv,cond_true] at hk
 obtain ⟨v1,v2⟩:1≤levels∧levels≤4:=z4v hlv
 obtain ⟨m,rfl⟩:∃m:Nat,levels=(m:Int):=⟨levels.toNat,by omega⟩
 rw [Int.toNat_natCast] at hk
 have q1:=(p1.grow g4).grow g6
 have q2:=(p2.grow g4).grow g6
 refine Al.intro fun b4 H10 e10 l10 g10 o10=>Lt.set o10 ω23 fun H11 l11 o11 k11=>?_
 have G11:Grow H H11:=(G6.trans g10).keep (by have:=G6.1;omega) k11
 have r1:=(q1.grow g10).keep (b':=b4) (by have:=q1.lt;omega) k11
 have r2:=(q2.grow g10).keep (b':=b4) (by have:=q2.lt;omega) k11
 have r3:=(q3.grow g10).keep (b':=b4) (by have:=q3.lt;omega) k11
 refine ⟨ta,l.length,ya,(r2.rdC 2).trans rfl,va,(r2.rdC 1).trans rfl,ua,(r2.rdC 0).trans rfl,z9i ⟨l,il.grow G11,bl,fun a n e H12 g12 w12=>?_⟩⟩
 refine Al.intro fun b5 H13 e13 l13 g13 o13=>Lt.setN o13 (n:=3) ω23 rfl fun H14 l14 o14 k14=>?_
 have g1113:Grow H11 H13:=g12.trans g13
 have up12:=w12.up
 have lo12:=w12.lo
 have le12:=g12.1
 have G14:Grow H H14:=(G11.trans g1113).keep (by have:=G11.1;omega) k14
 have s1:=(r1.grow g1113).keep (b':=b5) (by have:=r1.lt;omega) k14
 have s2:=(r2.grow g1113).keep (b':=b5) (by have:=r2.lt;omega) k14
 have s3:=(r3.grow g1113).keep (b':=b5) (by have:=r3.lt;omega) k14
 have s4:=(o11.grow g1113).keep (b':=b5) (by have:=o11.lt;omega) k14
 have ow:=(w12.grow g13).keepA (fun x y hx hy=>by cases hx;have:=up12 y hy;show b5≠_;omega) (OwnS.keep1 k14)
 have hle:H.length≤H11.length:=G11.1
 have h5:H11.length≤b5:=by omega
 have L3:=r3.lt
 have L2:=r2.lt
 have L1:=r1.lt
 have L4:=o11.lt
 refine z1fe b2 b3 b4 b5 (fun μ t H'=>∃(k:Nat) (a b:Int) (nl:LN),t=(m:Int)-1-(k:Int)∧k≤m∧μ=m-k∧nl.length≤1024∧z2f (z6p ws gb ua va (m:Int)) (m-k) k a b nl=z2f (z6p ws gb ua va (m:Int)) m 0 ua va l∧z3a b5 H14 H'∧∃(na:OA) (nn ne:Nat),Own H' b5 [.int .i64 a,.int .i64 b,.slice na nn ne]∧OwnS fF H' H11.length na nn ne nl) m (IntKind.wrap .i64 ((m:Int)-1)) H14
  ⟨0,ua,va,l,by rw [zu ω2 ω2];omega,Nat.zero_le _,rfl,by omega,rfl,⟨Nat.le_refl _,fun _ _ _=>rfl⟩,a,n,e,o14,ow⟩ ?_
 intro μ t H' hI
 obtain ⟨k,ca,cb,nl,rfl,hkm,rfl,hnl,hit,kp,na,nn,ne,ob,os⟩:=hI
 have lkp:=kp.1
 have t1:=s1.keep (b':=b5) ω2 kp
 have t2:=s2.keep (b':=b5) ω2 kp
 have t3:=s3.keep (b':=b5) ω2 kp
 have t4:=s4.keep (b':=b5) ω2 kp
 have GG:Grow H H':=G14.keep ω2 kp
 have os2:=os.len
 subst os2
 rw [z1fh]
 refine Br.intro (fun hd=>?_) (fun hd=>?_)
 ·have hd':=of_decide_eq_true hd
  have hkm':k<m:=by omega
  obtain ⟨j,hj⟩:∃j,m-k=j+1:=⟨m-k-1,by omega⟩
  rw [hj] at hit
  rw [z5p] at hit
  refine ⟨va,(t2.rdC 1).trans rfl,ua,(t2.rdC 0).trans rfl,ca,cb,na,nl.length,ne,(ob.rdN (Nat.le_of_ble_eq_true rfl)).trans rfl,?_⟩
  refine ⟨w1,w2,by omega,w3,w4,by omega,?_⟩
  refine zzm ⟨nl,zbw (z2c ws gb),os.isL,by omega,fun W Hi l=>f4z_len _ (zcd ws gb) W Hi l,zlr t1 t4 (iw.grow GG) bw,fun a17 n17 e17 H17 g17 w17=>?_⟩
  have eq:z5h (zbw (z2c ws gb)) ca cb nl (z7h ua ((m:Int)-1-(k:Int))) (z7h va ((m:Int)-1-(k:Int)))=z6p ws gb ua va (m:Int) k ca cb nl:=rfl
  rw [eq] at w17
  rw [eq]
  have hlq:(z6p ws gb ua va (m:Int) k ca cb nl).2.2.1.length≤1024:=zo7 _ _ _ _ _ _
  generalize z6p ws gb ua va (m:Int) k ca cb nl=q at *
  have up17:=w17.up
  have lo17:=w17.lo
  have le17:=g17.1
  refine Al.intro fun b6 H18 e18 l18 g18 o18=>Lt.setN o18 (n:=3) ω23 rfl fun H19 l19 o19 k19=>?_
  have g1718:Grow H' H18:=g17.trans g18
  have w19:=(w17.grow g18).keepA (fun x y hx hy=>by cases hx;have:=up17 y hy;show b6≠_;omega) (OwnS.keep1 k19)
  have G19:Grow H H19:=(GG.trans g1718).keep ω2 k19
  have u3:=(t3.grow g1718).keep (b':=b6) ω2 k19
  have ub:=(ob.grow g1718).keep (b':=b6) (by have:=ob.lt;omega) k19
  refine Br.intro (fun hp=>?_) (fun hp=>?_)
  ·refine Lt.setN u3 (n:=3) ω23 rfl fun H20 l20 q20 k20=>?_
   rw [zpt]
   refine ⟨0,0,none,0,0,(q20.rdN (Nat.le_of_ble_eq_true rfl)).trans rfl,?_⟩
   rw [z3q (z1f hp)] at hit
   rw [←hit] at hk
   exact hk none 0 0 H20 (G19.keep ω2 k20) (OwnS.nil _ _ _ _)
  ·rw [z1r (z1e hp)] at hit
   refine ⟨q.1,q.2.1,a17,n17,e17,(o19.rdN (Nat.le_of_ble_eq_true rfl)).trans rfl,?_⟩
   refine Lt.setN ub (n:=3) (Nat.le_of_ble_eq_true rfl) rfl fun H21 l21 q21 k21=>?_
   refine z1ff (m-(k+1)) ω2 ⟨k+1,q.1,q.2.1,q.2.2.1,by rw [zu ω2 ω2];omega,by omega,rfl,hlq,by rw [show m-(k+1)=j by omega];exact hit,?_,a17,n17,e17,q21,?_⟩
   ·refine ⟨by omega,fun i hi hne=>?_⟩
    rw [k21.2 i ω2 hne,k19.2 i ω2 ω2,g1718.2 i ω2,kp.2 i hi hne]
   ·exact (w19.keepA (fun x y hx hy=>by cases hx;have:=lo17 y hy;have:=ob.lt;show b5≠_;omega) (OwnS.keep1 k21)).weak ω2
 ·have hd':=of_decide_eq_false hd
  obtain rfl:k=m:=by omega
  rw [Nat.sub_self] at hit
  rw [←hit] at hk
  rw [z10x]
  have lo:=os.lo
  refine ⟨ca,cb,na,nl.length,ne,(ob.rdN (Nat.le_of_ble_eq_true rfl)).trans rfl,Lt.setN t3 (n:=3) (Nat.le_of_ble_eq_true rfl) rfl fun H22 l22 q22 k22=>⟨ca,cb,na,nl.length,ne,(q22.rdN (Nat.le_of_ble_eq_true rfl)).trans rfl,?_⟩⟩
  exact hk na nl.length ne H22 (GG.keep ω2 k22) ((os.keepA (fun x y hx hy=>by cases hx;have:=lo y hy;show b3≠_;omega) (OwnS.keep1 k22)).weak ω2)
theorem z1fg:FnOkX Tryz.prog (MainCls Tryz.prog) 14 S_fbz:=FnOkX.bodyF (hLt:=fun _=>z3y) mix_ok zyg Tryz.func14 rfl ω9 ω9 fun args H=>by
 unfold F_fbz
 split
 ·refine ⟨?_,?_,?_,?_,fun K hk=>z10w _ _ _ _ _ _ _ _ _ _ H K hk⟩
  ·intro K K' h hk;obtain ⟨ws,l,i1,i2,b1,b2,k⟩:=hk;exact ⟨ws,l,i1,i2,b1,b2,(fun td yd xd H' gg ow0=>h _ _ (k td yd xd H' gg ow0))⟩
  ·nofun
  ·intro K hk;obtain ⟨ws,l,i1,i2,b1,b2,k⟩:=hk;exact z4m fun a n e H1 g o=>⟨_,_,k a n e H1 g o⟩
  ·nofun
 ·exact Nice.no
def zmu (a b:Nat):Bool:=((bif !(feq .f64 a a) then (bif !(feq .f64 a a) then !(feq .f64 b b) else false) else (bif !(feq .f64 b b) then (bif !(feq .f64 a a) then !(feq .f64 b b) else false) else (bif feq .f64 a 0 then (bif feq .f64 b 0 then (flt .f64 0 (fdiv .f64 4607182418800017408 a))==(flt .f64 0 (fdiv .f64 4607182418800017408 b)) else feq .f64 a b) else feq .f64 a b))))
def z13n:=@zmu.eq_1
def zph (a b:Nat) (H:zq) (K:Bool→zq→Prop):Prop:=K (zmu a b) H

theorem zu7 {a b:Nat} {H:zq} {K:Bool→zq→Prop} (h:K (zmu a b) H):zph a b H K:=h
/-! fwz: function 59 -/
def E_fwz:Env:=envOf []
def F_fwz (args:List Value) (H:zq):(Value→zq→Prop)→Prop:=match args with
 | [.float .f64 a,.float .f64 b]=>fun K=>zph a b H fun (r1:Bool) (H':zq)=>K (.bool r1) H'
 | _=>fun _=>False
def S_fwz:FSpec:={F:=F_fwz,quiet:=true,tame:=false}
theorem z1hn (a b:Nat) (H:zq) (K:KT):z1a Tryz.prog E_fwz Tryz.f59 [.float .f64 a,.float .f64 b] H K=
 (Br (!(feq .f64 a a)) (Br (!(feq .f64 a a)) (K (.bool (!(feq .f64 b b))) H) (K (.bool false) H)) (Br (!(feq .f64 b b)) (Br (!(feq .f64 a a)) (K (.bool (!(feq .f64 b b))) H) (K (.bool false) H)) (Br (feq .f64 a 0) (Br (feq .f64 b 0) (K (.bool ((flt .f64 0 (fdiv .f64 4607182418800017408 a))==(flt .f64 0 (fdiv .f64 4607182418800017408 b)))) H) (K (.bool (feq .f64 a b)) H)) (K (.bool (feq .f64 a b)) H)))):=by kernel_rfl
theorem zz0:∀g,FnOk Tryz.prog g (E_fwz g):=FnOk.envOf (by
 intro x hx;cases hx)
theorem z12o (a b:Nat) (H:zq) (K:KT) (h:zph a b H fun (r1:Bool) (H':zq)=>K (.bool r1) H'):z1a Tryz.prog E_fwz Tryz.f59 [.float .f64 a,.float .f64 b] H K:=by
 rw [z1hn]
 unfold zph zmu at h
 repeat' (first | exact h | (exfalso;simp_all;done) | (refine ⟨by decide,?_⟩) | (refine Br.intro (fun hb=>?_) (fun hb=>?_)<;>(try simp only [hb,cond_true,cond_false,Bool.not_true,Bool.not_false] at h)))
theorem z17r:FnOk Tryz.prog 59 S_fwz:=FnOk.bodyF mix_ok zz0 Tryz.func59 rfl ω9 ω9 fun args H=>by
 unfold F_fwz
 split
 ·refine ⟨?_,?_,?_,?_,fun K hk=>z12o _ _ H K hk⟩
  ·intro K K' h hk;have k:=hk;exact h _ _ k
  ·intro _ K hk;have k:=hk;exact ⟨_,k,fun K' k'=>k'⟩
  ·intro K hk;have k:=hk;exact ⟨_,_,k⟩
  ·nofun
 ·exact Nice.no

def zbg (l_a l_b:LN):Nat→Bool→Int→Bool
 | 0,_,_=>false
 | μ+1,t4,i=>(bif decide ((i:Int)<(l_a.length:Int)) then (bif !((zmu (z8g (((l_a).getD (i:Int).toNat 0))) (z8g (((l_b).getD (i:Int).toNat 0))))) then false else (zbg l_a l_b μ t4 (i+1))) else true)
def zgc:=fun l_a l_b μ t4 i=>@zbg.eq_2 l_a l_b t4 i μ
def zkw (l_a l_b:LN):Bool:=((bif ((l_a.length:Int):Int) != (l_b.length:Int) then false else (zbg l_a l_b (Int.toNat ((l_a.length:Int)-(0:Int))+1) false (0:Int))))
def zoy:=@zkw.eq_1
def ztw (a_a:OA) (a_n a_e:Nat) (b_a:OA) (b_n b_e:Nat) (H:zq) (K:Bool→zq→Prop):Prop:=∃(l_a l_b:LN),IsL fF H a_a a_n l_a∧IsL fF H b_a b_n l_b∧l_a.length<1073741824∧l_b.length<1073741824∧K (zkw l_a l_b) H
theorem ztx {a_a:OA} {a_n a_e:Nat} {b_a:OA} {b_n b_e:Nat} {H:zq} {K:Bool→zq→Prop} (h:∃(l_a l_b:LN),IsL fF H a_a a_n l_a∧IsL fF H b_a b_n l_b∧l_a.length<1073741824∧l_b.length<1073741824∧K (zkw l_a l_b) H):ztw a_a a_n a_e b_a b_n b_e H K:=h
theorem zoe (y:Nat):zmu y y=true:=by
 rw [z13n]
 cases feq .f64 y y<;>simp
theorem z1gq (l:LN):∀(μ:Nat) (t:Bool) (i:Nat),l.length-i<μ→zbg l l μ t (i:Int)=true:=by
 intro μ
 induction μ with
 | zero=>intro t i h;omega
 | succ μ ih=>
  intro t i hm
  rw [zgc]
  by_cases h:i<l.length
  ·rw [decide_eq_true (show (i:Int)<(l.length:Int) by omega),cond_true,zoe]
   simp only [Bool.not_true,cond_false]
   exact ih t (i+1) ω2
  ·rw [decide_eq_false (show ¬(i:Int)<(l.length:Int) by omega),cond_false]
theorem zoc (l:LN):zkw l l=true:=by
 rw [zoy]
 have h0:((l.length:Int) != (l.length:Int))=false:=by simp
 rw [h0,cond_false]
 exact z1gq l _ false 0 ω2
/-! fmz: function 58 -/
def zey:Env:=envOf [(59,S_fwz)]
def F_fmz (args:List Value) (H:zq):(Value→zq→Prop)→Prop:=match args with
 | [.slice a_a a_n a_e,.slice b_a b_n b_e]=>fun K=>ztw a_a a_n a_e b_a b_n b_e H fun (r1:Bool) (H':zq)=>K (.bool r1) H'
 | _=>fun _=>False
def S_fmz:FSpec:={F:=F_fmz,quiet:=true,tame:=false}
theorem z1gt (a_a:OA) (a_n a_e:Nat) (b_a:OA) (b_n b_e:Nat) (H:zq) (K:KT):z1a Tryz.prog zey Tryz.f58 [.slice a_a a_n a_e,.slice b_a b_n b_e] H K=
 (Br (((a_n:Int):Int) != (b_n:Int)) (K (.bool false) H) (z1j (exL Tryz.prog zey (cl (cl (cr (cl (cr (cr (zr Tryz.f58))))))) 35 16 [(0,0)]) (.slice a_a a_n a_e::.slice b_a b_n b_e::ud3 (.int .i64 0::ud23 [])) H (zx 0 (seqQ (exL Tryz.prog zey (cr (cr (cr (zr Tryz.f58)))) 16 16 []) (retK Tryz.prog Tryz.f58 K))))):=by kernel_rfl
abbrev zjm (a_a:OA) (a_e a_n:Nat) (b_a:OA) (b_e b_n:Nat) (i:Int)  :List Value:=(.slice a_a a_n a_e::.slice b_a b_n b_e::ud3 (.int .i64 i::ud23 []))
theorem z1gs (a_a:OA) (a_e a_n:Nat) (b_a:OA) (b_e b_n:Nat) (i:Int)  (H:zq) (R:Post):exL Tryz.prog zey (cl (cl (cr (cl (cr (cr (zr Tryz.f58))))))) 35 16 [(0,0)] (zjm a_a a_e a_n b_a b_e b_n i) H R=
 (Br (decide ((i:Int)<(a_n:Int))) ((0:Int)≤i∧i<(a_n:Int)∧∃b1 f1,(a_a:OA)=some ⟨b1,f1,none⟩∧∃x1:Nat,  rdC H b1 (f1+(i:Int).toNat*1)=some (.float .f32 x1)∧(0:Int)≤i∧i<(b_n:Int)∧∃b2 f2,(b_a:OA)=some ⟨b2,f2,none⟩∧∃x2:Nat,  rdC H b2 (f2+(i:Int).toNat*1)=some (.float .f32 x2)∧zph (z8g x1) (z8g x2) H fun (r1:Bool) (H1:zq)=>Br (!r1) (R .ret (ud4 (.bool false::ud24 [])) H1) (R .normal (.slice a_a a_n a_e::.slice b_a b_n b_e::ud3 (.int .i64 (IntKind.wrap .i64 (i+1))::ud23 [])) H1)) (R (.exit 0) (ud29 []) H)):=by kernel_rfl
def zw9 (a_a:OA) (a_e a_n:Nat) (b_a:OA) (b_e b_n:Nat) (Inv:Nat→Int→zq→Prop):Nat→List Value→zq→Prop:=fun μ tm H=>∃(i:Int),tm=(zjm a_a a_e a_n b_a b_e b_n i)∧Inv μ i H
theorem z1gp (a_a:OA) (a_e a_n:Nat) (b_a:OA) (b_e b_n:Nat) {Q:Post} (Inv:Nat→Int→zq→Prop) (ν:Nat) (i:Int)  (H:zq) (h0:Inv ν i H)
  (hs:∀(μ:Nat) (i:Int)  (H:zq),Inv μ i H→exL Tryz.prog zey (cl (cl (cr (cl (cr (cr (zr Tryz.f58))))))) 35 16 [(0,0)] (zjm a_a a_e a_n b_a b_e b_n i) H (z1b (zw9 a_a a_e a_n b_a b_e b_n Inv) μ Q)):z1j (exL Tryz.prog zey (cl (cl (cr (cl (cr (cr (zr Tryz.f58))))))) 35 16 [(0,0)]) (zjm a_a a_e a_n b_a b_e b_n i) H Q:=
 ⟨zw9 a_a a_e a_n b_a b_e b_n Inv,ν,⟨i,rfl,h0⟩,fun μ tm H h=>by obtain ⟨i,rfl,hI⟩:=h;exact hs μ i  H hI⟩
theorem z1gr {a_a:OA} {a_e a_n:Nat} {b_a:OA} {b_e b_n:Nat} {Q:Post} {Inv:Nat→Int→zq→Prop} {μ:Nat} (μ':Nat) {i:Int}  {H:zq} (hm:μ'<μ) (hI:Inv μ' i H):z1b (zw9 a_a a_e a_n b_a b_e b_n Inv) μ Q .normal (zjm a_a a_e a_n b_a b_e b_n i) H:=⟨μ',hm,i,rfl,hI⟩
theorem z11u  (H:zq) (K:KT)  {I:Nat→List Value→zq→Prop} {μ:Nat}:z1b I μ (zx 0 (seqQ (exL Tryz.prog zey (cr (cr (cr (zr Tryz.f58)))) 16 16 []) (retK Tryz.prog Tryz.f58 K))) (.exit 0) (ud29 []) H=
 (K (.bool true) H):=by kernel_rfl
theorem zpy (t4:Bool) (H:zq) (K:KT)  {I:Nat→List Value→zq→Prop} {μ:Nat}:z1b I μ (zx 0 (seqQ (exL Tryz.prog zey (cr (cr (cr (zr Tryz.f58)))) 16 16 []) (retK Tryz.prog Tryz.f58 K))) .ret (ud4 (.bool t4::ud24 [])) H=
 (K (.bool t4) H):=by kernel_rfl
theorem zyr:∀g,FnOk Tryz.prog g (zey g):=FnOk.envOf (by
 intro x hx
 simp only [List.mem_cons,List.not_mem_nil,or_false] at hx
 subst hx;exact z17r)
theorem z11t (a_a:OA) (a_n a_e:Nat) (b_a:OA) (b_n b_e:Nat) (H:zq) (K:KT) (h:ztw a_a a_n a_e b_a b_n b_e H fun (r1:Bool) (H':zq)=>K (.bool r1) H'):z1a Tryz.prog zey Tryz.f58 [.slice a_a a_n a_e,.slice b_a b_n b_e] H K:=by
 rw [z1gt]
 obtain ⟨l_a,l_b,i_a,i_b,bd_13,bd_14,hk⟩:=h
 obtain rfl:=i_a.eqn
 obtain rfl:=i_b.eqn
 have e:(zkw l_a l_b)=_:=rfl
 have e:=e.trans (zoy l_a l_b)
 have g0:=Grow.refl H
 refine Br.intro (fun c_1=>?_) (fun c_1=>?_)
 ·have e:=e.trans (zw c_1)
  have c_1':=zmk c_1
  rw [e] at hk
  exact hk
 ·have e:=e.trans (zv c_1)
  have c_1':=zmj c_1
  refine z1gp _ _ _ _ _ _ (fun (μ:Nat) (i:Int) (H_1:zq)=>∃(t4:Bool),H=H_1∧(0:Int)≤i∧i≤(l_a.length:Int)∧(l_a.length:Int)-i≤(μ:Int)∧zkw l_a l_b=zbg l_a l_b (μ+1) t4 i) (Int.toNat ((l_a.length:Int)-(0:Int))) _ H ?_ ?_
  ·exact ⟨_,rfl,ω7,ω7,ω2,e⟩
  ·intro μ i  H_1 hI
   obtain ⟨t4,rfl,v_2,v_3,hμ,e⟩:=hI
   rw [z1gs]
   have e:=e.trans (zgc l_a l_b μ t4 i)
   have l_4:=g0.1
   refine Br.intro (fun c_5=>?_) (fun c_5=>?_)
   ·have e:=e.trans (zw c_5)
    have c_5':=of_decide_eq_true c_5
    obtain ⟨b_6,f_7,q_8⟩:=((i_a.grow g0)).pos ω0
    refine ⟨by omega,by omega,b_6,f_7,q_8,?_⟩
    refine ⟨((l_a).getD (i:Int).toNat 0),(i_a).rd g0 q_8 ω2 _,?_⟩
    obtain ⟨b_9,f_10,q_11⟩:=((i_b.grow g0)).pos ω0
    refine ⟨by omega,by omega,b_9,f_10,q_11,?_⟩
    refine ⟨((l_b).getD (i:Int).toNat 0),(i_b).rd g0 q_11 ω2 _,?_⟩
    refine zu7 ?_
    refine Br.intro (fun c_12=>?_) (fun c_12=>?_)
    ·have e:=e.trans (zw c_12)
     have c_12n:=z1f c_12
     rw [zpy]
     rw [e] at hk
     exact hk
    ·have e:=e.trans (zv c_12)
     have c_12n:=z1e c_12
     rw [show IntKind.wrap .i64 (i+1)=(i+1) from zu ω2 ω2]
     refine z1gr (μ-1) ω17 ⟨_,rfl,ω1,ω1,ω17,ω13⟩
   ·have e:=e.trans (zv c_5)
    have c_5':=of_decide_eq_false c_5
    rw [z11u]
    rw [e] at hk
    exact hk
theorem z17n:FnOk Tryz.prog 58 S_fmz:=FnOk.bodyF mix_ok zyr Tryz.func58 rfl ω9 ω9 fun args H=>by
 unfold F_fmz
 split
 ·refine ⟨?_,?_,?_,?_,fun K hk=>z11t _ _ _ _ _ _ H K hk⟩
  ·intro K K' h hk;obtain ⟨l_a,l_b,i_a,i_b,bd_13,bd_14,k⟩:=hk;exact ⟨l_a,l_b,i_a,i_b,bd_13,bd_14,h _ _ k⟩
  ·intro _ K hk;obtain ⟨l_a,l_b,i_a,i_b,bd_13,bd_14,k⟩:=hk;exact ⟨_,k,fun K' k'=>⟨l_a,l_b,i_a,i_b,bd_13,bd_14,k'⟩⟩
  ·intro K hk;obtain ⟨l_a,l_b,i_a,i_b,bd_13,bd_14,k⟩:=hk;exact ⟨_,_,k⟩
  ·nofun
 ·exact Nice.no

def zhx (je me:Int) (eb:LN) (mi li:Int) (zg:LN):Bool:=((bif (je:Int) != mi then false else (bif (me:Int) != li then false else (bif !(zkw eb zg) then false else true))))
def zp2:=@zhx.eq_1
def zln (je me:Int) (ac:OA) (mc vc:Nat) (mi li:Int) (rh:OA) (wh yh:Nat) (H:zq) (K:Bool→zq→Prop):Prop:=∃(eb zg:LN),IsL fF H ac mc eb∧IsL fF H rh wh zg∧eb.length<1073741824∧zg.length<1073741824∧((∀H':zq,Grow H H'→K (zhx je me eb mi li zg) H'))
theorem zh8 {je me:Int} {ac:OA} {mc vc:Nat} {mi li:Int} {rh:OA} {wh yh:Nat} {H:zq} {K:Bool→zq→Prop} (h:∃(eb zg:LN),IsL fF H ac mc eb∧IsL fF H rh wh zg∧eb.length<1073741824∧zg.length<1073741824∧((∀H':zq,Grow H H'→K (zhx je me eb mi li zg) H'))):zln je me ac mc vc mi li rh wh yh H K:=h
theorem z12n (a b:Int) (l:LN):zhx a b l a b l=true:=by
 rw [zp2,zoc]
 simp
/-! fvz: function 15 -/
def E_fvz:Env:=envOf [(58,S_fmz)]
def F_fvz (args:List Value) (H:zq):(Value→zq→Prop)→Prop:=match args with
 | [.agg ⟨[.int .i64 je,.int .i64 me,.slice ac mc vc]⟩,.agg ⟨[.int .i64 mi,.int .i64 li,.slice rh wh yh]⟩]=>fun K=>zln je me ac mc vc mi li rh wh yh H fun (r1:Bool) (H':zq)=>K (.bool r1) H'
 | _=>fun _=>False
def S_fvz:FSpec:={F:=F_fvz,quiet:=false,tame:=true}
theorem z1hm (je me:Int) (ac:OA) (mc vc:Nat) (mi li:Int) (rh:OA) (wh yh:Nat) (H:zq) (K:KT):z1a Tryz.prog E_fvz Tryz.f15 [.agg #[.int .i64 je,.int .i64 me,.slice ac mc vc],.agg #[.int .i64 mi,.int .i64 li,.slice rh wh yh]] H K=
 (Al [.int .i64 je,.int .i64 me,.slice ac mc vc] H fun b1 H1=>Al [.int .i64 mi,.int .i64 li,.slice rh wh yh] H1 fun b2 H2=>∃x1:Int,  rdC H2 b1 0=some (.int .i64 x1)∧∃x2:Int,  rdC H2 b2 0=some (.int .i64 x2)∧Br ((x1:Int) != x2) (K (.bool false) H2) (∃x3:Int,  rdC H2 b1 1=some (.int .i64 x3)∧∃x4:Int,  rdC H2 b2 1=some (.int .i64 x4)∧Br ((x3:Int) != x4) (K (.bool false) H2) (∃dj:OA,∃yi:Nat,∃sj:Nat,  rdC H2 b1 2=some (.slice dj yi sj)∧∃ji:OA,∃ei:Nat,∃qi:Nat,  rdC H2 b2 2=some (.slice ji ei qi)∧ztw dj yi sj ji ei qi H2 fun (r1:Bool) (H3:zq)=>Br (!r1) (K (.bool false) H3) (K (.bool true) H3)))):=by kernel_rfl
theorem zyz:∀g,FnOk Tryz.prog g (E_fvz g):=FnOk.envOf (by
 intro x hx
 simp only [List.mem_cons,List.not_mem_nil,or_false] at hx
 subst hx;exact z17n)
theorem z12m (je me:Int) (ac:OA) (mc vc:Nat) (mi li:Int) (rh:OA) (wh yh:Nat) (H:zq) (K:KT) (h:zln je me ac mc vc mi li rh wh yh H fun (r1:Bool) (H':zq)=>K (.bool r1) H'):z1a Tryz.prog E_fvz Tryz.f15 [.agg #[.int .i64 je,.int .i64 me,.slice ac mc vc],.agg #[.int .i64 mi,.int .i64 li,.slice rh wh yh]] H K:=by
 rw [z1hm]
 obtain ⟨eb,zg,ve,ri,bd_26,bd_27,hk⟩:=h
 obtain rfl:=ve.eqn
 obtain rfl:=ri.eqn
 have e:(zhx je me eb mi li zg)=_:=rfl
 have e:=e.trans (zp2 je me eb mi li zg)
 have g0:=Grow.refl H
 refine Al.intro (fun b_1 H_1 hb_2 hl_3 g_4 o_5=>?_)
 have l_7:=g_4.1
 have g_8:=g0.trans g_4
 have l_9:=g_8.1
 have w25:=o_5.lt
 refine Al.intro (fun b_10 H_2 hb_11 hl_12 g_13 o_14=>?_)
 have l_16:=g_13.1
 have g_17:=g_8.trans g_13
 have l_18:=g_17.1
 have o_19:=o_5.grow g_13
 have w20:=o_19.lt
 have w24:=o_14.lt
 refine ⟨je,(o_19.rdC _).trans rfl,?_⟩
 refine ⟨mi,(o_14.rdC _).trans rfl,?_⟩
 refine Br.intro (fun c_21=>?_) (fun c_21=>?_)
 ·have e:=e.trans (zw c_21)
  have c_21':=zmk c_21
  rw [e] at hk
  exact hk  H_2 g_17 
 ·have e:=e.trans (zv c_21)
  have c_21':=zmj c_21
  refine ⟨me,(o_19.rdC _).trans rfl,?_⟩
  refine ⟨li,(o_14.rdC _).trans rfl,?_⟩
  refine Br.intro (fun c_22=>?_) (fun c_22=>?_)
  ·have e:=e.trans (zw c_22)
   have c_22':=zmk c_22
   rw [e] at hk
   exact hk  H_2 g_17 
  ·have e:=e.trans (zv c_22)
   have c_22':=zmj c_22
   refine ⟨ac,eb.length,vc,(o_19.rdC _).trans rfl,?_⟩
   refine ⟨rh,zg.length,yh,(o_14.rdC _).trans rfl,?_⟩
   refine ztx ⟨_,_,(ve.grow g_17),(ri.grow g_17),ω0,ω0,?_⟩
   refine Br.intro (fun c23=>?_) (fun c23=>?_)
   ·have e:=e.trans (zw c23)
    have c_23n:=z1f c23
    rw [e] at hk
    exact hk  H_2 g_17 
   ·have e:=e.trans (zv c23)
    have c_23n:=z1e c23
    rw [e] at hk
    exact hk  H_2 g_17 
theorem z1hl:FnOk Tryz.prog 15 S_fvz:=FnOk.bodyF mix_ok zyz Tryz.func15 rfl ω9 ω9 fun args H=>by
 unfold F_fvz
 split
 ·refine ⟨?_,?_,?_,?_,fun K hk=>z12m _ _ _ _ _ _ _ _ _ _ H K hk⟩
  ·intro K K' h hk;obtain ⟨eb,zg,ve,ri,bd_26,bd_27,k⟩:=hk;exact ⟨eb,zg,ve,ri,bd_26,bd_27,(fun  H' gg  =>h _ _ (k  H' gg))⟩
  ·nofun
  ·intro K hk;obtain ⟨eb,zg,ve,ri,bd_26,bd_27,k⟩:=hk;exact ⟨_,_,k H (Grow.refl H)⟩
  ·intro _ K hk;obtain ⟨eb,zg,ve,ri,bd_26,bd_27,k⟩:=hk;exact ⟨eb,zg,ve,ri,bd_26,bd_27,(fun  H' gg  =>⟨gg,k  H' gg⟩)⟩
 ·exact Nice.no

def zg0 (lb:LN) (ie:Nat) (yg:LN) (ai:Nat):Bool:=(bif !(zkw lb yg) then false else (bif !((zmu (z8g ie) (z8g ai))) then false else true))
def zkh:=@zg0.eq_1
def znh (gc:OA) (zc jd ie:Nat) (jh:OA) (oh sh ai:Nat) (H:zq) (K:Bool→zq→Prop):Prop:=∃(lb yg:LN),IsL fF H gc zc lb∧IsL fF H jh oh yg∧lb.length<1073741824∧yg.length<1073741824∧((∀H':zq,Grow H H'→K (zg0 lb ie yg ai) H'))
theorem zzd {gc:OA} {zc jd ie:Nat} {jh:OA} {oh sh ai:Nat} {H:zq} {K:Bool→zq→Prop} (h:∃(lb yg:LN),IsL fF H gc zc lb∧IsL fF H jh oh yg∧lb.length<1073741824∧yg.length<1073741824∧((∀H':zq,Grow H H'→K (zg0 lb ie yg ai) H'))):znh gc zc jd ie jh oh sh ai H K:=h

/-! f1bz: function 16 -/
def zs8:Env:=envOf [(58,S_fmz),(59,S_fwz)]
def z15c (args:List Value) (H:zq):(Value→zq→Prop)→Prop:=match args with
 | [.agg ⟨[.slice gc zc jd,.float .f32 ie]⟩,.agg ⟨[.slice jh oh sh,.float .f32 ai]⟩]=>fun K=>znh gc zc jd ie jh oh sh ai H fun (r1:Bool) (H':zq)=>K (.bool r1) H'
 | _=>fun _=>False
def z16i:FSpec:={F:=z15c,quiet:=false,tame:=true}
theorem z1ab (gc:OA) (zc jd ie:Nat) (jh:OA) (oh sh ai:Nat) (H:zq) (K:KT):z1a Tryz.prog zs8 Tryz.f16 [.agg #[.slice gc zc jd,.float .f32 ie],.agg #[.slice jh oh sh,.float .f32 ai]] H K=
 (Al [.slice gc zc jd,.float .f32 ie] H fun b1 H1=>Al [.slice jh oh sh,.float .f32 ai] H1 fun b2 H2=>∃fh:OA,∃bh:Nat,∃qh:Nat,  rdC H2 b1 0=some (.slice fh bh qh)∧∃sk:OA,∃rk:Nat,∃uk:Nat,  rdC H2 b2 0=some (.slice sk rk uk)∧ztw fh bh qh sk rk uk H2 fun (r1:Bool) (H3:zq)=>Br (!r1) (K (.bool false) H3) (∃x3:Nat,  rdC H3 b1 1=some (.float .f32 x3)∧∃x4:Nat,  rdC H3 b2 1=some (.float .f32 x4)∧zph (z8g x3) (z8g x4) H3 fun (r2:Bool) (H4:zq)=>Br (!r2) (K (.bool false) H4) (K (.bool true) H4))):=by kernel_rfl
theorem zs9:∀g,FnOk Tryz.prog g (zs8 g):=FnOk.envOf (by
 intro x hx
 simp only [List.mem_cons,List.not_mem_nil,or_false] at hx
 rcases hx with rfl | rfl
 ·exact z17n
 ·exact z17r)
theorem zur (gc:OA) (zc jd ie:Nat) (jh:OA) (oh sh ai:Nat) (H:zq) (K:KT) (h:znh gc zc jd ie jh oh sh ai H fun (r1:Bool) (H':zq)=>K (.bool r1) H'):z1a Tryz.prog zs8 Tryz.f16 [.agg #[.slice gc zc jd,.float .f32 ie],.agg #[.slice jh oh sh,.float .f32 ai]] H K:=by
 rw [z1ab]
 obtain ⟨lb,yg,af,ni,bd_25,bd_26,hk⟩:=h
 obtain rfl:=af.eqn
 obtain rfl:=ni.eqn
 have e:(zg0 lb ie yg ai)=_:=rfl
 have e:=e.trans (zkh lb ie yg ai)
 have g0:=Grow.refl H
 refine Al.intro (fun b_1 H_1 hb_2 hl_3 g_4 o_5=>?_)
 have l_7:=g_4.1
 have g_8:=g0.trans g_4
 have l_9:=g_8.1
 have w24:=o_5.lt
 refine Al.intro (fun b_10 H_2 hb_11 hl_12 g_13 o_14=>?_)
 have l_16:=g_13.1
 have g_17:=g_8.trans g_13
 have l_18:=g_17.1
 have o_19:=o_5.grow g_13
 have w20:=o_19.lt
 have w23:=o_14.lt
 refine ⟨gc,lb.length,jd,(o_19.rdC _).trans rfl,?_⟩
 refine ⟨jh,yg.length,sh,(o_14.rdC _).trans rfl,?_⟩
 refine ztx ⟨_,_,(af.grow g_17),(ni.grow g_17),ω0,ω0,?_⟩
 refine Br.intro (fun c_21=>?_) (fun c_21=>?_)
 ·have e:=e.trans (zw c_21)
  have c_21n:=z1f c_21
  rw [e] at hk
  exact hk  H_2 g_17 
 ·have e:=e.trans (zv c_21)
  have c_21n:=z1e c_21
  refine ⟨ie,(o_19.rdC _).trans rfl,?_⟩
  refine ⟨ai,(o_14.rdC _).trans rfl,?_⟩
  refine zu7 ?_
  refine Br.intro (fun c_22=>?_) (fun c_22=>?_)
  ·have e:=e.trans (zw c_22)
   have c_22n:=z1f c_22
   rw [e] at hk
   exact hk  H_2 g_17 
  ·have e:=e.trans (zv c_22)
   have c_22n:=z1e c_22
   rw [e] at hk
   exact hk  H_2 g_17 
theorem z1aa:FnOk Tryz.prog 16 z16i:=FnOk.bodyF mix_ok zs9 Tryz.func16 rfl ω9 ω9 fun args H=>by
 unfold z15c
 split
 ·refine ⟨?_,?_,?_,?_,fun K hk=>zur _ _ _ _ _ _ _ _ H K hk⟩
  ·intro K K' h hk;obtain ⟨lb,yg,af,ni,bd_25,bd_26,k⟩:=hk;exact ⟨lb,yg,af,ni,bd_25,bd_26,(fun  H' gg  =>h _ _ (k  H' gg))⟩
  ·nofun
  ·intro K hk;obtain ⟨lb,yg,af,ni,bd_25,bd_26,k⟩:=hk;exact ⟨_,_,k H (Grow.refl H)⟩
  ·intro _ K hk;obtain ⟨lb,yg,af,ni,bd_25,bd_26,k⟩:=hk;exact ⟨lb,yg,af,ni,bd_25,bd_26,(fun  H' gg  =>⟨gg,k  H' gg⟩)⟩
 ·exact Nice.no

def zbd (l_a:LN) (k:Int):Nat→Int→Int→LN→Int×LN
 | 0,_,_,_=>(0,[])
 | μ+1,k_1,i,y1_1=>(bif decide ((i:Int)<(l_a.length:Int)) then (zbd l_a k μ (IntKind.wrap .i64 (k_1+1)) (i+1) (((y1_1).set (i:Int).toNat (FloatKind.nearest .f32 k_1)))) else (k_1,y1_1))
def zg4:=fun l_a k μ k_1 i y1_1=>@zbd.eq_2 l_a k k_1 i y1_1 μ
def zqs (l_a:LN) (k:Int):Int×LN:=(zbd l_a k (Int.toNat ((l_a.length:Int)-(0:Int))+1) k (0:Int) l_a)
def zot:=@zqs.eq_1
def ztn (a_a:OA) (a_n a_e:Nat) (k:Int) (H:zq) (K:Int→zq→Prop):Prop:=∃lo:Nat,∃(l_a:LN),OwnS fF H lo a_a a_n a_e l_a∧l_a.length<1073741824∧((∀H':zq,z1q a_a H H'→OwnS fF H' lo a_a a_n a_e (z4d (FloatKind.nearest .f32) k l_a.length)→K (wk k l_a.length) H'))
theorem zto {a_a:OA} {a_n a_e:Nat} {k:Int} {H:zq} {K:Int→zq→Prop} (h:∃lo:Nat,∃(l_a:LN),OwnS fF H lo a_a a_n a_e l_a∧l_a.length<1073741824∧((∀H':zq,z1q a_a H H'→OwnS fF H' lo a_a a_n a_e (z4d (FloatKind.nearest .f32) k l_a.length)→K (wk k l_a.length) H'))):ztn a_a a_n a_e k H K:=h
theorem f9z_go (l:LN) (k0:Int):∀(μ:Nat) (k:Int) (i:Nat) (ys:LN),ys.length=l.length→i≤l.length→l.length-i<μ→
  zbd l k0 μ k (i:Int) ys=(wk k (l.length-i),ys.take i++z4d (FloatKind.nearest .f32) k (l.length-i)):=by
 intro μ
 induction μ with
 | zero=>intro k i ys _ _ h;omega
 | succ μ ih=>
  intro k i ys hy hi hm
  rw [zg4]
  by_cases h:i<l.length
  ·rw [decide_eq_true (show (i:Int)<(l.length:Int) by omega),cond_true,Int.toNat_natCast]
   have:=ih (IntKind.wrap .i64 (k+1)) (i+1) (ys.set i ((FloatKind.nearest .f32) k)) (by simp [hy]) ω2 ω2
   obtain ⟨d,hd⟩:∃d,l.length-i=d+1:=⟨l.length-i-1,by omega⟩
   rw [show l.length-(i+1)=d by omega] at this
   rw [hd,wk,z4d]
   refine Eq.trans this ?_
   rw [List.take_add_one,List.getElem?_set_self ω2,List.take_set_of_le (Nat.le_refl i)]
   simp
  ·rw [decide_eq_false (show ¬(i:Int)<(l.length:Int) by omega),cond_false]
   rw [show l.length-i=0 by omega,wk,z4d,List.append_nil,List.take_of_length_le ω2]
theorem f9z_val (l:LN) (k:Int):zqs l k=(wk k l.length,z4d (FloatKind.nearest .f32) k l.length):=by
 rw [zot]
 have:=f9z_go l k (Int.toNat ((l.length:Int)-0)+1) k 0 l rfl ω2 ω2
 simpa using this
/-! f9z: function 60 -/
def zh3:Env:=envOf []
def F_f9z (args:List Value) (H:zq):(Value→zq→Prop)→Prop:=match args with
 | [.slice a_a a_n a_e,.int .i64 k]=>fun K=>ztn a_a a_n a_e k H fun (r1:Int) (H':zq)=>K (.int .i64 r1) H'
 | _=>fun _=>False
def S_f9z:FSpec:={F:=F_f9z,quiet:=false,tame:=false}
theorem f9z_vc (a_a:OA) (a_n a_e:Nat) (k:Int) (H:zq) (K:KT):z1a Tryz.prog zh3 Tryz.f60 [.slice a_a a_n a_e,.int .i64 k] H K=
 (z1j (exL Tryz.prog zh3 (cl (cl (cr (cl (cr (zr Tryz.f60)))))) 35 16 [(0,2)]) (.slice a_a a_n a_e::.int .i64 k::ud3 (.int .i64 0::ud14 [])) H (zx 0 (seqQ (exL Tryz.prog zh3 (cr (cr (zr Tryz.f60))) 16 16 []) (retK Tryz.prog Tryz.f60 K)))):=by kernel_rfl
abbrev f9z_P1 (a_a:OA) (a_e a_n:Nat) (k_1 i:Int)  :List Value:=(.slice a_a a_n a_e::.int .i64 k_1::ud3 (.int .i64 i::ud14 []))
theorem f9z_r1 (a_a:OA) (a_e a_n:Nat) (k_1 i:Int)  (H:zq) (R:Post):exL Tryz.prog zh3 (cl (cl (cr (cl (cr (zr Tryz.f60)))))) 35 16 [(0,2)] (f9z_P1 a_a a_e a_n k_1 i) H R=
 (Br (decide ((i:Int)<(a_n:Int))) ((0:Int)≤i∧i<(a_n:Int)∧∃b1 f1,(a_a:OA)=some ⟨b1,f1,none⟩∧isOwn H b1∧(∃l,rdN H b1 (f1+(i:Int).toNat*1) 1=some l)∧Lt (setC H b1 (f1+(i:Int).toNat*1) (.float .f32 (FloatKind.nearest .f32 k_1))) fun H1=>R .normal (.slice a_a a_n a_e::.int .i64 (IntKind.wrap .i64 (k_1+1))::ud3 (.int .i64 (IntKind.wrap .i64 (i+1))::ud14 [])) H1) (R (.exit 0) (ud::.int .i64 k_1::ud18 []) H)):=by kernel_rfl
def f9z_I1 (a_a:OA) (a_e a_n:Nat) (Inv:Nat→Int→Int→zq→Prop):Nat→List Value→zq→Prop:=fun μ tm H=>∃(k_1 i:Int),tm=(f9z_P1 a_a a_e a_n k_1 i)∧Inv μ k_1 i H
theorem f9z_L1 (a_a:OA) (a_e a_n:Nat) {Q:Post} (Inv:Nat→Int→Int→zq→Prop) (ν:Nat) (k_1 i:Int)  (H:zq) (h0:Inv ν k_1 i H)
  (hs:∀(μ:Nat) (k_1:Int) (i:Int)  (H:zq),Inv μ k_1 i H→exL Tryz.prog zh3 (cl (cl (cr (cl (cr (zr Tryz.f60)))))) 35 16 [(0,2)] (f9z_P1 a_a a_e a_n k_1 i) H (z1b (f9z_I1 a_a a_e a_n Inv) μ Q)):z1j (exL Tryz.prog zh3 (cl (cl (cr (cl (cr (zr Tryz.f60)))))) 35 16 [(0,2)]) (f9z_P1 a_a a_e a_n k_1 i) H Q:=
 ⟨f9z_I1 a_a a_e a_n Inv,ν,⟨k_1,i,rfl,h0⟩,fun μ tm H h=>by obtain ⟨k_1,i,rfl,hI⟩:=h;exact hs μ k_1 i  H hI⟩
theorem f9z_n1 {a_a:OA} {a_e a_n:Nat} {Q:Post} {Inv:Nat→Int→Int→zq→Prop} {μ:Nat} (μ':Nat) {k_1 i:Int}  {H:zq} (hm:μ'<μ) (hI:Inv μ' k_1 i H):z1b (f9z_I1 a_a a_e a_n Inv) μ Q .normal (f9z_P1 a_a a_e a_n k_1 i) H:=⟨μ',hm,k_1,i,rfl,hI⟩
theorem f9z_x1_0 (k_1:Int) (H:zq) (K:KT)  {I:Nat→List Value→zq→Prop} {μ:Nat}:z1b I μ (zx 0 (seqQ (exL Tryz.prog zh3 (cr (cr (zr Tryz.f60))) 16 16 []) (retK Tryz.prog Tryz.f60 K))) (.exit 0) (ud::.int .i64 k_1::ud18 []) H=
 (K (.int .i64 k_1) H):=by kernel_rfl
theorem zye:∀g,FnOk Tryz.prog g (zh3 g):=FnOk.envOf (by
 intro x hx;cases hx)
theorem f9z_main (a_a:OA) (a_n a_e:Nat) (k:Int) (H:zq) (K:KT) (h:ztn a_a a_n a_e k H fun (r1:Int) (H':zq)=>K (.int .i64 r1) H'):z1a Tryz.prog zh3 Tryz.f60 [.slice a_a a_n a_e,.int .i64 k] H K:=by
 rw [f9z_vc]
 obtain ⟨lo,l_a,i_a,bd_18,hk⟩:=h
 have hk:(∀H':zq,z1q a_a H H'→OwnS fF H' lo a_a a_n a_e ((zqs l_a k).2)→(fun (r1:Int) (H':zq)=>K (.int .i64 r1) H') ((zqs l_a k).1) H'):=by rw [f9z_val l_a k];exact hk
 obtain rfl:=i_a.len
 have up_p:=i_a.up
 have lo_p:=i_a.lo
 have e:(zqs l_a k)=_:=rfl
 have e:=e.trans (zot l_a k)
 have g0:=z1q.refl a_a H
 refine f9z_L1 _ _ _ (fun (μ:Nat) (k_1:Int) (i:Int) (H_1:zq)=>∃(y1_1:LN),OwnS fF H_1 lo a_a l_a.length a_e y1_1∧y1_1.length=(l_a).length∧H.length≤H_1.length∧z1q a_a H H_1∧(0:Int)≤i∧i≤(l_a.length:Int)∧(l_a.length:Int)-i≤(μ:Int)∧zqs l_a k=zbd l_a k (μ+1) k_1 i y1_1) (Int.toNat ((l_a.length:Int)-(0:Int))) _ _ H ?_ ?_
 ·exact ⟨_,i_a,ω15,ω2,g0,ω7,ω7,ω2,e⟩
 ·intro μ k_1 i  H_1 hI
  obtain ⟨y1_1,r_1,y_2,n3,g_4,v_5,v_6,hμ,e⟩:=hI
  rw [f9z_r1]
  have e:=e.trans (zg4 l_a k μ k_1 i y1_1)
  have l_7:=g_4.1
  refine Br.intro (fun c_8=>?_) (fun c_8=>?_)
  ·have e:=e.trans (zw c_8)
   have c_8':=of_decide_eq_true c_8
   obtain ⟨b_9,f_10,q_11⟩:=(r_1.isL).pos ω0
   refine ⟨by omega,by omega,b_9,f_10,q_11,?_⟩
   refine Lt.setS r_1 q_11 ω6 (fun H_2 hl_12 o_14 k13=>?_)
   have l_15:=k13.1
   have g16:=g_4.transA k13
   have l_17:=g16.1
   rw [show IntKind.wrap .i64 (i+1)=(i+1) from zu ω2 ω2]
   refine f9z_n1 (μ-1) ω17 ⟨_,o_14,ω22,ω2,g16,ω1,ω1,ω17,ω13⟩
  ·have e:=e.trans (zv c_8)
   have c_8':=of_decide_eq_false c_8
   rw [f9z_x1_0]
   rw [e] at hk
   exact hk H_1 g_4 r_1
theorem f9z_ok:FnOk Tryz.prog 60 S_f9z:=FnOk.bodyF mix_ok zye Tryz.func60 rfl ω9 ω9 fun args H=>by
 unfold F_f9z
 split
 ·refine ⟨?_,?_,?_,?_,fun K hk=>f9z_main _ _ _ _ H K hk⟩
  ·intro K K' h hk;obtain ⟨lo,l_a,i_a,bd_18,k⟩:=hk;exact ⟨lo,l_a,i_a,bd_18,(fun H' gg ow=>h _ _ (k H' gg ow))⟩
  ·nofun
  ·intro K hk;obtain ⟨lo,l_a,i_a,bd_18,k⟩:=hk;exact (i_a.put _ (by rw [z1t])).elim fun H1 h=>⟨_,_,k H1 h.1 h.2⟩
  ·nofun
 ·exact Nice.no

def zx4 (lb:LN) (ie:Nat) (k:Int):Int×LN:=((wk k lb.length),(z4d (FloatKind.nearest .f32) k lb.length))
def z13m:=@zx4.eq_1
def T_fnz (gc:OA) (zc jd ie:Nat) (k:Int) (H:zq) (K:Int→zq→Prop):Prop:=∃lo:Nat,∃(lb:LN),OwnS fF H lo gc zc jd lb∧lb.length<1073741824∧((∀H':zq,z1q gc H H'→OwnS fF H' lo gc zc jd (z4d (FloatKind.nearest .f32) k lb.length)→K (wk k lb.length) H'))
theorem z19x {gc:OA} {zc jd ie:Nat} {k:Int} {H:zq} {K:Int→zq→Prop} (h:∃lo:Nat,∃(lb:LN),OwnS fF H lo gc zc jd lb∧lb.length<1073741824∧((∀H':zq,z1q gc H H'→OwnS fF H' lo gc zc jd (z4d (FloatKind.nearest .f32) k lb.length)→K (wk k lb.length) H'))):T_fnz gc zc jd ie k H K:=h
theorem z1cn (lb:LN) (ie:Nat) (k:Int):zx4 lb ie k=(wk k lb.length,z4d (FloatKind.nearest .f32) k lb.length):=rfl
/-! fnz: function 17 -/
def E_fnz:Env:=envOf [(60,S_f9z)]
def F_fnz (args:List Value) (H:zq):(Value→zq→Prop)→Prop:=match args with
 | [.agg ⟨[.slice gc zc jd,.float .f32 ie]⟩,.int .i64 k]=>fun K=>T_fnz gc zc jd ie k H fun (r1:Int) (H':zq)=>K (.int .i64 r1) H'
 | _=>fun _=>False
def S_fnz:FSpec:={F:=F_fnz,quiet:=false,tame:=false}
theorem z1gv (gc:OA) (zc jd ie:Nat) (k:Int) (H:zq) (K:KT):z1a Tryz.prog E_fnz Tryz.f17 [.agg #[.slice gc zc jd,.float .f32 ie],.int .i64 k] H K=
 (Al [.slice gc zc jd,.float .f32 ie] H fun b1 H1=>∃fh:OA,∃bh:Nat,∃qh:Nat,  rdC H1 b1 0=some (.slice fh bh qh)∧ztn fh bh qh k H1 fun (r1:Int) (H2:zq)=>K (.int .i64 r1) H2):=by kernel_rfl
theorem zys:∀g,FnOk Tryz.prog g (E_fnz g):=FnOk.envOf (by
 intro x hx
 simp only [List.mem_cons,List.not_mem_nil,or_false] at hx
 subst hx;exact f9z_ok)
theorem z11v (gc:OA) (zc jd ie:Nat) (k:Int) (H:zq) (K:KT) (h:T_fnz gc zc jd ie k H fun (r1:Int) (H':zq)=>K (.int .i64 r1) H'):z1a Tryz.prog E_fnz Tryz.f17 [.agg #[.slice gc zc jd,.float .f32 ie],.int .i64 k] H K:=by
 rw [z1gv]
 obtain ⟨lo,lb,af,bd_19,hk⟩:=h
 have hk:(∀H':zq,z1q gc H H'→OwnS fF H' lo gc zc jd ((zx4 lb ie k).2)→(fun (r1:Int) (H':zq)=>K (.int .i64 r1) H') ((zx4 lb ie k).1) H'):=by rw [z1cn lb ie k];exact hk
 obtain rfl:=af.len
 have up_p:=af.up
 have lo_p:=af.lo
 have e:(zx4 lb ie k)=_:=rfl
 have e:=e.trans (z13m lb ie k)
 have g0:=z1q.refl gc H
 refine Al.intro (fun b_1 H_1 hb_2 hl_3 g_4 o_5=>?_)
 have l_7:=g_4.1
 have g_8:=g0.trans g_4
 have l_9:=g_8.1
 have r_10:=af.grow g_4
 have w18:=o_5.lt
 refine ⟨gc,lb.length,jd,(o_5.rdC _).trans rfl,?_⟩
 refine zto ⟨_,_,r_10,ω0,(fun H_2 k_11 o12=>?_)⟩
 have l_13:=k_11.1
 have g_14:=g_8.transA k_11
 have l_15:=g_14.1
 have o16:=o_5.keepA (fun x hx=>by have:=lo_p x hx;have:=up_p x hx;omega) k_11
 have w_17:=o16.lt
 rw [e] at hk
 exact hk H_2 g_14 o12
theorem z1gu:FnOk Tryz.prog 17 S_fnz:=FnOk.bodyF mix_ok zys Tryz.func17 rfl ω9 ω9 fun args H=>by
 unfold F_fnz
 split
 ·refine ⟨?_,?_,?_,?_,fun K hk=>z11v _ _ _ _ _ H K hk⟩
  ·intro K K' h hk;obtain ⟨lo,lb,af,bd_19,k⟩:=hk;exact ⟨lo,lb,af,bd_19,(fun H' gg ow=>h _ _ (k H' gg ow))⟩
  ·nofun
  ·intro K hk;obtain ⟨lo,lb,af,bd_19,k⟩:=hk;exact (af.put _ (by rw [z1t])).elim fun H1 h=>⟨_,_,k H1 h.1 h.2⟩
  ·nofun
 ·exact Nice.no

def zx3 (je me:Int) (eb:LN) (k:Int):Int×LN:=((wk k eb.length),(z4d (FloatKind.nearest .f32) k eb.length))
def z13l:=@zx3.eq_1
def ztt (je me:Int) (ac:OA) (mc vc:Nat) (k:Int) (H:zq) (K:Int→zq→Prop):Prop:=∃lo:Nat,∃(eb:LN),OwnS fF H lo ac mc vc eb∧eb.length<1073741824∧((∀H':zq,z1q ac H H'→OwnS fF H' lo ac mc vc (z4d (FloatKind.nearest .f32) k eb.length)→K (wk k eb.length) H'))
theorem ztu {je me:Int} {ac:OA} {mc vc:Nat} {k:Int} {H:zq} {K:Int→zq→Prop} (h:∃lo:Nat,∃(eb:LN),OwnS fF H lo ac mc vc eb∧eb.length<1073741824∧((∀H':zq,z1q ac H H'→OwnS fF H' lo ac mc vc (z4d (FloatKind.nearest .f32) k eb.length)→K (wk k eb.length) H'))):ztt je me ac mc vc k H K:=h
theorem z1ch (je me:Int) (eb:LN) (k:Int):zx3 je me eb k=(wk k eb.length,z4d (FloatKind.nearest .f32) k eb.length):=rfl
/-! ffz: function 18 -/
def E_ffz:Env:=envOf [(60,S_f9z)]
def F_ffz (args:List Value) (H:zq):(Value→zq→Prop)→Prop:=match args with
 | [.agg ⟨[.int .i64 je,.int .i64 me,.slice ac mc vc]⟩,.int .i64 k]=>fun K=>ztt je me ac mc vc k H fun (r1:Int) (H':zq)=>K (.int .i64 r1) H'
 | _=>fun _=>False
def S_ffz:FSpec:={F:=F_ffz,quiet:=false,tame:=false}
theorem z1fp (je me:Int) (ac:OA) (mc vc:Nat) (k:Int) (H:zq) (K:KT):z1a Tryz.prog E_ffz Tryz.f18 [.agg #[.int .i64 je,.int .i64 me,.slice ac mc vc],.int .i64 k] H K=
 (Al [.int .i64 je,.int .i64 me,.slice ac mc vc] H fun b1 H1=>∃fh:OA,∃bh:Nat,∃qh:Nat,  rdC H1 b1 2=some (.slice fh bh qh)∧ztn fh bh qh k H1 fun (r1:Int) (H2:zq)=>K (.int .i64 r1) H2):=by kernel_rfl
theorem zyk:∀g,FnOk Tryz.prog g (E_ffz g):=FnOk.envOf (by
 intro x hx
 simp only [List.mem_cons,List.not_mem_nil,or_false] at hx
 subst hx;exact f9z_ok)
theorem z11c (je me:Int) (ac:OA) (mc vc:Nat) (k:Int) (H:zq) (K:KT) (h:ztt je me ac mc vc k H fun (r1:Int) (H':zq)=>K (.int .i64 r1) H'):z1a Tryz.prog E_ffz Tryz.f18 [.agg #[.int .i64 je,.int .i64 me,.slice ac mc vc],.int .i64 k] H K:=by
 rw [z1fp]
 obtain ⟨lo,eb,ve,bd_19,hk⟩:=h
 have hk:(∀H':zq,z1q ac H H'→OwnS fF H' lo ac mc vc ((zx3 je me eb k).2)→(fun (r1:Int) (H':zq)=>K (.int .i64 r1) H') ((zx3 je me eb k).1) H'):=by rw [z1ch je me eb k];exact hk
 obtain rfl:=ve.len
 have up_p:=ve.up
 have lo_p:=ve.lo
 have e:(zx3 je me eb k)=_:=rfl
 have e:=e.trans (z13l je me eb k)
 have g0:=z1q.refl ac H
 refine Al.intro (fun b_1 H_1 hb_2 hl_3 g_4 o_5=>?_)
 have l_7:=g_4.1
 have g_8:=g0.trans g_4
 have l_9:=g_8.1
 have r_10:=ve.grow g_4
 have w18:=o_5.lt
 refine ⟨ac,eb.length,vc,(o_5.rdC _).trans rfl,?_⟩
 refine zto ⟨_,_,r_10,ω0,(fun H_2 k_11 o12=>?_)⟩
 have l_13:=k_11.1
 have g_14:=g_8.transA k_11
 have l_15:=g_14.1
 have o16:=o_5.keepA (fun x hx=>by have:=lo_p x hx;have:=up_p x hx;omega) k_11
 have w_17:=o16.lt
 rw [e] at hk
 exact hk H_2 g_14 o12
theorem z1fo:FnOk Tryz.prog 18 S_ffz:=FnOk.bodyF mix_ok zyk Tryz.func18 rfl ω9 ω9 fun args H=>by
 unfold F_ffz
 split
 ·refine ⟨?_,?_,?_,?_,fun K hk=>z11c _ _ _ _ _ _ H K hk⟩
  ·intro K K' h hk;obtain ⟨lo,eb,ve,bd_19,k⟩:=hk;exact ⟨lo,eb,ve,bd_19,(fun H' gg ow=>h _ _ (k H' gg ow))⟩
  ·nofun
  ·intro K hk;obtain ⟨lo,eb,ve,bd_19,k⟩:=hk;exact (ve.put _ (by rw [z1t])).elim fun H1 h=>⟨_,_,k H1 h.1 h.2⟩
  ·nofun
 ·exact Nice.no

def zbc (l_a:LN) (k:Int):Nat→Int→Int→Int→Int
 | 0,_,_,_=>0
 | μ+1,k_1,t4,i=>(bif decide ((i:Int)<(l_a.length:Int)) then (bif !(feq .f32 (((l_a).getD (i:Int).toNat 0)) (FloatKind.nearest .f32 k_1)) then ((-1):Int) else (zbc l_a k μ (IntKind.wrap .i64 (k_1+1)) t4 (i+1))) else k_1)
def zg3:=fun l_a k μ k_1 t4 i=>@zbc.eq_2 l_a k k_1 t4 i μ
def zkv (l_a:LN) (k:Int):Int:=(zbc l_a k (Int.toNat ((l_a.length:Int)-(0:Int))+1) k (0:Int) (0:Int))
def zos:=@zkv.eq_1
def zzu (a_a:OA) (a_n a_e:Nat) (k:Int) (H:zq) (K:Int→zq→Prop):Prop:=∃(l_a:LN),IsL fF H a_a a_n l_a∧l_a.length<1073741824∧K (zkv l_a k) H
theorem z19p {a_a:OA} {a_n a_e:Nat} {k:Int} {H:zq} {K:Int→zq→Prop} (h:∃(l_a:LN),IsL fF H a_a a_n l_a∧l_a.length<1073741824∧K (zkv l_a k) H):zzu a_a a_n a_e k H K:=h
theorem f8z_go (k0:Int):∀(μ:Nat) (i:Nat) (pre:LN) (k t:Int) (n:Nat),pre.length=i→n<μ→
  zbc (pre++z4d (FloatKind.nearest .f32) k n) k0 μ k t (i:Int)=wk k n:=by
 intro μ
 induction μ with
 | zero=>intro i pre k t n _ h;omega
 | succ μ ih=>
  intro i pre k t n hp hm
  rw [zg3]
  have hl:(pre++z4d (FloatKind.nearest .f32) k n).length=i+n:=by rw [List.length_append,hp,z1t]
  rw [hl]
  cases n with
  | zero=>rw [decide_eq_false (show ¬(i:Int)<((i+0:Nat):Int) by omega),cond_false];rfl
  | succ n=>
   rw [decide_eq_true (show (i:Int)<((i+(n+1):Nat):Int) by omega),cond_true,Int.toNat_natCast]
   have hx:(pre++z4d (FloatKind.nearest .f32) k (n+1)).getD i 0=(FloatKind.nearest .f32) k:=by
    rw [List.getD_eq_getElem?_getD,List.getElem?_append_right ω2,hp,Nat.sub_self];rfl
   rw [hx]
   have hq:(!(feq .f32 (FloatKind.nearest .f32 k) (FloatKind.nearest .f32 k)))=false:=by rw [zmd];rfl
   simp only [hq,cond_false]
   have:=ih (i+1) (pre++[(FloatKind.nearest .f32) k]) (IntKind.wrap .i64 (k+1)) t n (by simp [hp]) ω2
   rw [List.append_assoc] at this
   rw [wk];exact this
theorem f8z_marks (k:Int) (n:Nat):zkv (z4d (FloatKind.nearest .f32) k n) k=wk k n:=by
 rw [zos]
 have:=f8z_go k (Int.toNat (((z4d (FloatKind.nearest .f32) k n).length:Int)-0)+1) 0 [] k 0 n rfl (by rw [z1t];omega)
 simpa using this
/-! f8z: function 61 -/
def zew:Env:=envOf []
def F_f8z (args:List Value) (H:zq):(Value→zq→Prop)→Prop:=match args with
 | [.slice a_a a_n a_e,.int .i64 k]=>fun K=>zzu a_a a_n a_e k H fun (r1:Int) (H':zq)=>K (.int .i64 r1) H'
 | _=>fun _=>False
def S_f8z:FSpec:={F:=F_f8z,quiet:=true,tame:=false}
theorem f8z_vc (a_a:OA) (a_n a_e:Nat) (k:Int) (H:zq) (K:KT):z1a Tryz.prog zew Tryz.f61 [.slice a_a a_n a_e,.int .i64 k] H K=
 (z1j (exL Tryz.prog zew (cl (cl (cr (cl (cr (zr Tryz.f61)))))) 35 16 [(0,2)]) (.slice a_a a_n a_e::.int .i64 k::ud3 (.int .i64 0::ud16 [])) H (zx 0 (seqQ (exL Tryz.prog zew (cr (cr (zr Tryz.f61))) 16 16 []) (retK Tryz.prog Tryz.f61 K)))):=by kernel_rfl
abbrev f8z_P1 (a_a:OA) (a_e a_n:Nat) (k_1 i:Int)  :List Value:=(.slice a_a a_n a_e::.int .i64 k_1::ud3 (.int .i64 i::ud16 []))
theorem f8z_r1 (a_a:OA) (a_e a_n:Nat) (k_1 i:Int)  (H:zq) (R:Post):exL Tryz.prog zew (cl (cl (cr (cl (cr (zr Tryz.f61)))))) 35 16 [(0,2)] (f8z_P1 a_a a_e a_n k_1 i) H R=
 (Br (decide ((i:Int)<(a_n:Int))) ((0:Int)≤i∧i<(a_n:Int)∧∃b1 f1,(a_a:OA)=some ⟨b1,f1,none⟩∧∃x1:Nat,  rdC H b1 (f1+(i:Int).toNat*1)=some (.float .f32 x1)∧Br (!(feq .f32 x1 (FloatKind.nearest .f32 k_1))) (R .ret (ud4 (.int .i64 (-1)::ud17 [])) H) (R .normal (.slice a_a a_n a_e::.int .i64 (IntKind.wrap .i64 (k_1+1))::ud3 (.int .i64 (IntKind.wrap .i64 (i+1))::ud16 [])) H)) (R (.exit 0) (ud::.int .i64 k_1::ud20 []) H)):=by kernel_rfl
def f8z_I1 (a_a:OA) (a_e a_n:Nat) (Inv:Nat→Int→Int→zq→Prop):Nat→List Value→zq→Prop:=fun μ tm H=>∃(k_1 i:Int),tm=(f8z_P1 a_a a_e a_n k_1 i)∧Inv μ k_1 i H
theorem f8z_L1 (a_a:OA) (a_e a_n:Nat) {Q:Post} (Inv:Nat→Int→Int→zq→Prop) (ν:Nat) (k_1 i:Int)  (H:zq) (h0:Inv ν k_1 i H)
  (hs:∀(μ:Nat) (k_1:Int) (i:Int)  (H:zq),Inv μ k_1 i H→exL Tryz.prog zew (cl (cl (cr (cl (cr (zr Tryz.f61)))))) 35 16 [(0,2)] (f8z_P1 a_a a_e a_n k_1 i) H (z1b (f8z_I1 a_a a_e a_n Inv) μ Q)):z1j (exL Tryz.prog zew (cl (cl (cr (cl (cr (zr Tryz.f61)))))) 35 16 [(0,2)]) (f8z_P1 a_a a_e a_n k_1 i) H Q:=
 ⟨f8z_I1 a_a a_e a_n Inv,ν,⟨k_1,i,rfl,h0⟩,fun μ tm H h=>by obtain ⟨k_1,i,rfl,hI⟩:=h;exact hs μ k_1 i  H hI⟩
theorem f8z_n1 {a_a:OA} {a_e a_n:Nat} {Q:Post} {Inv:Nat→Int→Int→zq→Prop} {μ:Nat} (μ':Nat) {k_1 i:Int}  {H:zq} (hm:μ'<μ) (hI:Inv μ' k_1 i H):z1b (f8z_I1 a_a a_e a_n Inv) μ Q .normal (f8z_P1 a_a a_e a_n k_1 i) H:=⟨μ',hm,k_1,i,rfl,hI⟩
theorem f8z_x1_0 (k_1:Int) (H:zq) (K:KT)  {I:Nat→List Value→zq→Prop} {μ:Nat}:z1b I μ (zx 0 (seqQ (exL Tryz.prog zew (cr (cr (zr Tryz.f61))) 16 16 []) (retK Tryz.prog Tryz.f61 K))) (.exit 0) (ud::.int .i64 k_1::ud20 []) H=
 (K (.int .i64 k_1) H):=by kernel_rfl
theorem f8z_x1_ret (t4:Int) (H:zq) (K:KT)  {I:Nat→List Value→zq→Prop} {μ:Nat}:z1b I μ (zx 0 (seqQ (exL Tryz.prog zew (cr (cr (zr Tryz.f61))) 16 16 []) (retK Tryz.prog Tryz.f61 K))) .ret (ud4 (.int .i64 t4::ud17 [])) H=
 (K (.int .i64 t4) H):=by kernel_rfl
theorem zyd:∀g,FnOk Tryz.prog g (zew g):=FnOk.envOf (by
 intro x hx;cases hx)
theorem f8z_main (a_a:OA) (a_n a_e:Nat) (k:Int) (H:zq) (K:KT) (h:zzu a_a a_n a_e k H fun (r1:Int) (H':zq)=>K (.int .i64 r1) H'):z1a Tryz.prog zew Tryz.f61 [.slice a_a a_n a_e,.int .i64 k] H K:=by
 rw [f8z_vc]
 obtain ⟨l_a,i_a,bd_9,hk⟩:=h
 obtain rfl:=i_a.eqn
 have e:(zkv l_a k)=_:=rfl
 have e:=e.trans (zos l_a k)
 have g0:=Grow.refl H
 refine f8z_L1 _ _ _ (fun (μ:Nat) (k_1:Int) (i:Int) (H_1:zq)=>∃(t4:Int),H=H_1∧(0:Int)≤i∧i≤(l_a.length:Int)∧(l_a.length:Int)-i≤(μ:Int)∧zkv l_a k=zbc l_a k (μ+1) k_1 t4 i) (Int.toNat ((l_a.length:Int)-(0:Int))) _ _ H ?_ ?_
 ·exact ⟨_,rfl,ω7,ω7,ω2,e⟩
 ·intro μ k_1 i  H_1 hI
  obtain ⟨t4,rfl,v_1,v_2,hμ,e⟩:=hI
  rw [f8z_r1]
  have e:=e.trans (zg3 l_a k μ k_1 t4 i)
  have l_3:=g0.1
  refine Br.intro (fun c_4=>?_) (fun c_4=>?_)
  ·have e:=e.trans (zw c_4)
   have c_4':=of_decide_eq_true c_4
   obtain ⟨b_5,f_6,q_7⟩:=((i_a.grow g0)).pos ω0
   refine ⟨by omega,by omega,b_5,f_6,q_7,?_⟩
   refine ⟨((l_a).getD (i:Int).toNat 0),(i_a).rd g0 q_7 ω2 _,?_⟩
   refine Br.intro (fun c_8=>?_) (fun c_8=>?_)
   ·have e:=e.trans (zw c_8)
    have c_8n:=z1f c_8
    rw [f8z_x1_ret]
    rw [e] at hk
    exact hk
   ·have e:=e.trans (zv c_8)
    have c_8n:=z1e c_8
    rw [show IntKind.wrap .i64 (i+1)=(i+1) from zu ω2 ω2]
    refine f8z_n1 (μ-1) ω17 ⟨_,rfl,ω1,ω1,ω17,ω13⟩
  ·have e:=e.trans (zv c_4)
   have c_4':=of_decide_eq_false c_4
   rw [f8z_x1_0]
   rw [e] at hk
   exact hk
theorem f8z_ok:FnOk Tryz.prog 61 S_f8z:=FnOk.bodyF mix_ok zyd Tryz.func61 rfl ω9 ω9 fun args H=>by
 unfold F_f8z
 split
 ·refine ⟨?_,?_,?_,?_,fun K hk=>f8z_main _ _ _ _ H K hk⟩
  ·intro K K' h hk;obtain ⟨l_a,i_a,bd_9,k⟩:=hk;exact ⟨l_a,i_a,bd_9,h _ _ k⟩
  ·intro _ K hk;obtain ⟨l_a,i_a,bd_9,k⟩:=hk;exact ⟨_,k,fun K' k'=>⟨l_a,i_a,bd_9,k'⟩⟩
  ·intro K hk;obtain ⟨l_a,i_a,bd_9,k⟩:=hk;exact ⟨_,_,k⟩
  ·nofun
 ·exact Nice.no

def zhu (je me:Int) (eb:LN) (k:Int):Int:=(bif decide (((zkv eb k):Int)<0) then ((-1):Int) else (zkv eb k))
def zou:=@zhu.eq_1
def ztr (je me:Int) (ac:OA) (mc vc:Nat) (k:Int) (H:zq) (K:Int→zq→Prop):Prop:=∃(eb:LN),IsL fF H ac mc eb∧eb.length<1073741824∧((∀H':zq,Grow H H'→K (zhu je me eb k) H'))
theorem zts {je me:Int} {ac:OA} {mc vc:Nat} {k:Int} {H:zq} {K:Int→zq→Prop} (h:∃(eb:LN),IsL fF H ac mc eb∧eb.length<1073741824∧((∀H':zq,Grow H H'→K (zhu je me eb k) H'))):ztr je me ac mc vc k H K:=h

/-! fez: function 19 -/
def E_fez:Env:=envOf [(61,S_f8z)]
def F_fez (args:List Value) (H:zq):(Value→zq→Prop)→Prop:=match args with
 | [.agg ⟨[.int .i64 je,.int .i64 me,.slice ac mc vc]⟩,.int .i64 k]=>fun K=>ztr je me ac mc vc k H fun (r1:Int) (H':zq)=>K (.int .i64 r1) H'
 | _=>fun _=>False
def S_fez:FSpec:={F:=F_fez,quiet:=false,tame:=true}
theorem z1fn (je me:Int) (ac:OA) (mc vc:Nat) (k:Int) (H:zq) (K:KT):z1a Tryz.prog E_fez Tryz.f19 [.agg #[.int .i64 je,.int .i64 me,.slice ac mc vc],.int .i64 k] H K=
 (Al [.int .i64 je,.int .i64 me,.slice ac mc vc] H fun b1 H1=>∃fh:OA,∃bh:Nat,∃qh:Nat,  rdC H1 b1 2=some (.slice fh bh qh)∧zzu fh bh qh k H1 fun (r1:Int) (H2:zq)=>Br (decide ((r1:Int)<0)) (K (.int .i64 (-1)) H2) (K (.int .i64 r1) H2)):=by kernel_rfl
theorem zyj:∀g,FnOk Tryz.prog g (E_fez g):=FnOk.envOf (by
 intro x hx
 simp only [List.mem_cons,List.not_mem_nil,or_false] at hx
 subst hx;exact f8z_ok)
theorem z11b (je me:Int) (ac:OA) (mc vc:Nat) (k:Int) (H:zq) (K:KT) (h:ztr je me ac mc vc k H fun (r1:Int) (H':zq)=>K (.int .i64 r1) H'):z1a Tryz.prog E_fez Tryz.f19 [.agg #[.int .i64 je,.int .i64 me,.slice ac mc vc],.int .i64 k] H K:=by
 rw [z1fn]
 obtain ⟨eb,ve,bd_12,hk⟩:=h
 obtain rfl:=ve.eqn
 have e:(zhu je me eb k)=_:=rfl
 have e:=e.trans (zou je me eb k)
 have g0:=Grow.refl H
 refine Al.intro (fun b_1 H_1 hb_2 hl_3 g_4 o_5=>?_)
 have l_7:=g_4.1
 have g_8:=g0.trans g_4
 have l_9:=g_8.1
 have w11:=o_5.lt
 refine ⟨ac,eb.length,vc,(o_5.rdC _).trans rfl,?_⟩
 refine z19p ⟨_,(ve.grow g_8),ω0,?_⟩
 refine Br.intro (fun c_10=>?_) (fun c_10=>?_)
 ·have e:=e.trans (zw c_10)
  have c_10':=of_decide_eq_true c_10
  rw [e] at hk
  exact hk  H_1 g_8 
 ·have e:=e.trans (zv c_10)
  have c_10':=of_decide_eq_false c_10
  rw [e] at hk
  exact hk  H_1 g_8 
theorem z1fm:FnOk Tryz.prog 19 S_fez:=FnOk.bodyF mix_ok zyj Tryz.func19 rfl ω9 ω9 fun args H=>by
 unfold F_fez
 split
 ·refine ⟨?_,?_,?_,?_,fun K hk=>z11b _ _ _ _ _ _ H K hk⟩
  ·intro K K' h hk;obtain ⟨eb,ve,bd_12,k⟩:=hk;exact ⟨eb,ve,bd_12,(fun  H' gg  =>h _ _ (k  H' gg))⟩
  ·nofun
  ·intro K hk;obtain ⟨eb,ve,bd_12,k⟩:=hk;exact ⟨_,_,k H (Grow.refl H)⟩
  ·intro _ K hk;obtain ⟨eb,ve,bd_12,k⟩:=hk;exact ⟨eb,ve,bd_12,(fun  H' gg  =>⟨gg,k  H' gg⟩)⟩
 ·exact Nice.no

def z2e (za:LN) (vb:Nat) (jc ic:Int) (ab:LN) (aLevels:Int):Bool:=((bif decide (((z8e za vb (1048576:Int)):Int)<0) then true else (bif decide (((zkx jc ic ab ((z8e za vb (1048576:Int)))):Int)<0) then true else (bif !((zhx ((z1o za vb jc ic ab aLevels).1) ((z1o za vb jc ic ab aLevels).2.1) ((z1o za vb jc ic ab aLevels).2.2.1) ((z2v za vb jc ic ab aLevels).1) ((z2v za vb jc ic ab aLevels).2.1) ((z2v za vb jc ic ab aLevels).2.2.1))) then false else (bif !(((z1o za vb jc ic ab aLevels).2.2.2)==((z2v za vb jc ic ab aLevels).2.2.2)) then false else (bif !(zg0 za vb za vb) then false else (bif !(zhx jc ic ab jc ic ab) then false else (bif decide (((wk ((wk (1:Int) za.length)) ab.length):Int)<0) then false else (bif !((zhx ((z1o za vb jc ic ab aLevels).1) ((z1o za vb jc ic ab aLevels).2.1) ((z1o za vb jc ic ab aLevels).2.2.1) ((z2v za vb jc ic ab aLevels).1) ((z2v za vb jc ic ab aLevels).2.1) ((z2v za vb jc ic ab aLevels).2.2.1))) then false else (bif !(((z1o za vb jc ic ab aLevels).2.2.2)==((z2v za vb jc ic ab aLevels).2.2.2)) then false else (bif decide (((zhu ((z1o za vb jc ic ab aLevels).1) ((z1o za vb jc ic ab aLevels).2.1) ((z4d (FloatKind.nearest .f32) (1:Int) ((z1o za vb jc ic ab aLevels).2.2.1).length)) (1:Int)):Int)<0) then false else (bif ((zhu ((z1o za vb jc ic ab aLevels).1) ((z1o za vb jc ic ab aLevels).2.1) ((z4d (FloatKind.nearest .f32) (1:Int) ((z1o za vb jc ic ab aLevels).2.2.1).length)) (1:Int)):Int) != (wk (1:Int) ((z1o za vb jc ic ab aLevels).2.2.1).length) then false else (bif !((zhx ((z1o za vb jc ic ab aLevels).1) ((z1o za vb jc ic ab aLevels).2.1) ((z1o za vb jc ic ab aLevels).2.2.1) ((z2v za vb jc ic ab aLevels).1) ((z2v za vb jc ic ab aLevels).2.1) ((z2v za vb jc ic ab aLevels).2.2.1))) then false else (bif !(((z1o za vb jc ic ab aLevels).2.2.2)==((z2v za vb jc ic ab aLevels).2.2.2)) then false else (bif decide (((zhu ((z1o za vb jc ic ab aLevels).1) ((z1o za vb jc ic ab aLevels).2.1) ((z4d (FloatKind.nearest .f32) (1:Int) ((z1o za vb jc ic ab aLevels).2.2.1).length)) (1:Int)):Int)<0) then false else (bif ((zhu ((z1o za vb jc ic ab aLevels).1) ((z1o za vb jc ic ab aLevels).2.1) ((z4d (FloatKind.nearest .f32) (1:Int) ((z1o za vb jc ic ab aLevels).2.2.1).length)) (1:Int)):Int) != (wk (1:Int) ((z1o za vb jc ic ab aLevels).2.2.1).length) then false else true))))))))))))))))
def z2z:=@z2e.eq_1
def z3s (ah:OA) (xh dh vb:Nat) (jc ic:Int) (eh:OA) (zh gh:Nat) (aLevels:Int) (H:zq) (K:Bool→zq→Prop):Prop:=∃za:LN,∃ab:LN,IsL fF H ah xh za∧(∀y ∈ za,W32 y)∧za.length≤9223372036854775807∧W32 vb∧I64 jc∧I64 ic∧IsL fF H eh zh ab∧(∀y ∈ ab,W32 y)∧ab.length≤9223372036854775807∧I64 aLevels∧∀H':zq,K true H'
theorem z14h (x:Nat):zqv x=fin .f32 x:=zje x
theorem z12v (x:Nat):zfz x=fin .f32 x:=zje x
theorem zjz (l:LN):∀(μ:Nat) (t:Bool) (i:Nat),l.length-i<μ→z8o l μ t (i:Int)=(l.drop i).all (fin .f32):=by
 intro μ
 induction μ with
 | zero=>intro t i h;omega
 | succ μ ih=>
  intro t i hm
  rw [zdz]
  by_cases h:i<l.length
  ·rw [decide_eq_true (show (i:Int)<(l.length:Int) by omega),cond_true,Int.toNat_natCast,z14h]
   rw [List.drop_eq_getElem_cons h,List.all_cons,List.getD_eq_getElem?_getD,List.getElem?_eq_getElem h,Option.getD_some]
   have:=ih t (i+1) ω2
   cases fin .f32 l[i]
   ·rfl
   ·simp only [Bool.not_true,cond_false,Bool.true_and];exact this
  ·rw [decide_eq_false (show ¬(i:Int)<(l.length:Int) by omega),cond_false,List.drop_eq_nil_of_le ω2];rfl
theorem z5j (l:LN):z1w l=l.all (fin .f32):=by
 rw [zke]
 have:=zjz l (Int.toNat ((l.length:Int)-(0:Int))+1) false 0 ω2
 simpa using this
theorem ziw (ls:List LN) (t2:Bool) (t9:Int) (k:Bool→Int→Bool):∀(μ:Nat) (t:Bool) (i:Nat),i≤(ls.getD t9.toNat []).length→(ls.getD t9.toNat []).length-i<μ→
  zbi ls t2 t9 k μ t (i:Int)=bif ((ls.getD t9.toNat []).drop i).all (fin .f32) then k t ((ls.getD t9.toNat []).length:Int) else false:=by
 intro μ
 generalize hl:ls.getD t9.toNat []=l
 induction μ with
 | zero=>intro t i _ h;omega
 | succ μ ih=>
  intro t i hi hm
  rw [zgf,hl]
  by_cases h:i<l.length
  ·rw [decide_eq_true (show (i:Int)<(l.length:Int) by omega),cond_true,Int.toNat_natCast,z12v]
   rw [List.drop_eq_getElem_cons h,List.all_cons,List.getD_eq_getElem?_getD,List.getElem?_eq_getElem h,Option.getD_some]
   have:=ih t (i+1) ω2 ω2
   cases fin .f32 l[i]
   ·rfl
   ·simp only [Bool.not_true,cond_false,Bool.true_and];exact this
  ·rw [decide_eq_false (show ¬(i:Int)<(l.length:Int) by omega),cond_false,List.drop_eq_nil_of_le ω2,show i=l.length by omega];rfl
theorem ziv (ls:List LN):∀(μ:Nat) (t:Bool) (i:Nat),ls.length-i<μ→z6n ls μ t (i:Int)=(ls.drop i).all (fun l=>l.all (fin .f32)):=by
 intro μ
 induction μ with
 | zero=>intro t i h;omega
 | succ μ ih=>
  intro t i hm
  rw [zge]
  by_cases h:i<ls.length
  ·rw [decide_eq_true (show (i:Int)<(ls.length:Int) by omega),cond_true]
   have:=ziw ls t (i:Int) (fun t2 t15=>z6n ls μ t2 ((i:Int)+1)) (Int.toNat ((((ls).getD ((i:Int):Int).toNat []).length:Int)-(0:Int))+1) t 0 (Nat.zero_le _) ω2
   refine Eq.trans this ?_
   rw [Int.toNat_natCast,List.drop_zero,List.drop_eq_getElem_cons h,List.all_cons,List.getD_eq_getElem?_getD,List.getElem?_eq_getElem h,Option.getD_some]
   have:=ih t (i+1) ω2
   cases ls[i].all (fin .f32)
   ·rfl
   ·simp only [cond_true,Bool.true_and];exact this
  ·rw [decide_eq_false (show ¬(i:Int)<(ls.length:Int) by omega),cond_false,List.drop_eq_nil_of_le ω2];rfl
theorem z3k (ls:List LN):z4y ls=ls.all (fun l=>l.all (fin .f32)):=by
 rw [zp1]
 have:=ziv ls (Int.toNat ((ls.length:Int)-(0:Int))+1) false 0 ω2
 simpa using this
theorem zdn (l:LN):z4y [l]=z1w l:=by rw [z3k,z5j];simp
theorem zdm {l:LN} (h:l.all (fin .f32)=true) (i:Nat):fin .f32 (l.getD i 0)=true:=by
 rw [List.getD_eq_getElem?_getD]
 cases hx:l[i]? with
 | none=>exact z11i _
 | some x=>exact List.all_eq_true.1 h x (List.mem_of_getElem? hx)
theorem zn6 (w h:Int) (l:LN):z1p w h l=zeb w h l:=by
 rw [zbb,zec,zkn,zdn]
 show (bif z8f w 1 16 then (bif z8f h 1 16 then _ else false) else false)=_
 cases z8f w 1 16<;>rfl
theorem z3i {n a b:Int} (h1:a≤n) (h2:n≤b):z3f n a b=true:=by
 unfold z3f;rw [decide_eq_true h1,decide_eq_true h2];rfl
theorem zie {w h:Int} {l:LN} (h1:1≤w) (h2:w≤16) (h3:1≤h) (h4:h≤16) (hl:(l.length:Int)=w*h) (hf:l.all (fin .f32)=true):z1p w h l=true:=by
 have hm:=z5l (W:=w) (H:=h) h1 h2 h3 h4
 rw [zbb,z3i h1 h2,z3i h3 h4,cond_true,cond_true,z3k,zu (n:=w*h) ω2 ω2,hl]
 simp [hf]
theorem z9e {w h:Int} {l:LN} (hh:z1p w h l=true):l.all (fin .f32)=true:=by
 rw [zbb,z3k] at hh
 simp only [Bool.cond_false_right,Bool.and_eq_true] at hh
 simpa using hh.2.2.2
theorem zmz (ws:LN) (sc:Nat):z5k ws sc=zca ws sc:=by
 rw [zht,ze0,zdn]
 unfold z3f
 have e:zkt sc=zkk sc:=rfl
 rw [e]
 cases decide ((1:Int)≤(ws.length:Int))<;>cases decide (((ws.length:Int):Int)≤8)<;>rfl
theorem zez (low:LN) (j:Nat) (hj:j<low.length):z8v low (j:Int)=(low.getD j 0,z5f low ((j:Int)+1)):=by
 rw [zoq,zb7,Int.toNat_natCast]
 have e:(if (((low.length:Int)-1):Int)<((j:Int)+1) then ((low.length:Int)-1) else ((j:Int)+1)).toNat=(if (if ((j:Int)+1)<((low.length:Int)-1) then ((j:Int)+1) else ((low.length:Int)-1)) > 0 then (if ((j:Int)+1)<((low.length:Int)-1) then ((j:Int)+1) else ((low.length:Int)-1)) else 0).toNat:=by
  split<;>split<;>(try split at *)<;>omega
 exact congrArg (fun n=>(low.getD j 0,low.getD n 0)) e
theorem zd2 (high:LN) (j:Nat) (h1:1≤high.length) (hj:j≤high.length):z8n high (j:Int)=(z5f high ((j:Int)-1),z5f high (j:Int)):=by
 rw [zoo,zb7,zb7]
 have e1:(if (0:Int) > ((j:Int)-1) then 0 else ((j:Int)-1)).toNat=(if (if ((j:Int)-1)<((high.length:Int)-1) then ((j:Int)-1) else ((high.length:Int)-1)) > 0 then (if ((j:Int)-1)<((high.length:Int)-1) then ((j:Int)-1) else ((high.length:Int)-1)) else 0).toNat:=by
  split<;>split<;>(try split at *)<;>omega
 have e2:(if (((high.length:Int)-1):Int)<(j:Int) then ((high.length:Int)-1) else (j:Int)).toNat=(if (if (j:Int)<((high.length:Int)-1) then (j:Int) else ((high.length:Int)-1)) > 0 then (if (j:Int)<((high.length:Int)-1) then (j:Int) else ((high.length:Int)-1)) else 0).toNat:=by
  split<;>split<;>(try split at *)<;>omega
 exact (congrArg (fun n=>(high.getD n 0,_)) e1).trans (congrArg (fun n=>(_,high.getD n 0)) e2)
theorem zmg {g g':Nat→LN×Bool}:∀k,(∀i,i<k→(g i).1=(g' i).1)→z5b g k=z5b g' k:=by
 intro k
 induction k with
 | zero=>intro _;rfl
 | succ k ih=>intro h;rw [z4k,z4k,ih fun i hi=>h i ω2,h k ω2]
theorem zpx {g:Nat→LN×Bool} {W:Int}:∀k:Nat,(∀i,i<k→((g i).1.length:Int)=W)→((z5b g k).length:Int)=W*(k:Int):=by
 intro k
 induction k with
 | zero=>intro _;simp [z5b]
 | succ k ih=>
  intro h
  rw [z4k,List.length_append,Int.natCast_add,ih fun i hi=>h i ω2,h k ω2]
  rw [show ((k+1:Nat):Int)=(k:Int)+1 by omega,Int.mul_add,Int.mul_one]
theorem zw6 {g:Nat→LN×Bool}:∀k:Nat,(∀i,i<k→(g i).1.all (fin .f32)=true)→(z5b g k).all (fin .f32)=true:=by
 intro k
 induction k with
 | zero=>intro _;rfl
 | succ k ih=>intro h;rw [z4k,List.all_append,ih fun i hi=>h i ω2,h k ω2];rfl
theorem zr0 {l:LN} (hf:l.all (fin .f32)=true) (W:Int) (y:Nat):(z3n l W y).all (fin .f32)=true:=by
 rw [List.all_eq_true]
 intro x hx
 exact List.all_eq_true.1 hf x (List.mem_of_mem_drop (List.mem_of_mem_take hx))
theorem zjn (k:FloatKind):fneg k (qnan k)=qnan k:=by cases k<;>decide+kernel
theorem zw8 {k:FloatKind} {w:Nat} (hw:fin k w=true) (y:Nat):fmul k (fneg k w) y=fneg k (fmul k w y):=by
 obtain ⟨s,m,e,hr⟩:=z6t hw
 have hn:k.format.read (fneg k w)=.number (!s) m e:=by rw [zei (z17l hw),hr];rfl
 unfold fmul Ieee.Format.mul
 rw [hn,hr]
 cases hd:k.format.read y with
 | nan t p=>exact (zjn k).symm
 | number t n j=>
  show k.format.write (.number ((!s) ^^ t) (m*n) (e+j))=fneg k (k.format.write (.number (s ^^ t) (m*n) (e+j)))
  rw [zk9 (d:=.number (s ^^ t) (m*n) (e+j)) rfl]
  show k.format.write (.number ((!s) ^^ t) (m*n) (e+j))=k.format.write (.number (!(s ^^ t)) (m*n) (e+j))
  rw [Bool.not_xor]
 | infinity t=>
  show ((if m=0 then none else some (Ieee.Datum.infinity (t ^^ (!s)))).map k.format.write).getD (qnan k)=fneg k (((if m=0 then none else some (Ieee.Datum.infinity (t ^^ s))).map k.format.write).getD (qnan k))
  by_cases h:m=0
  ·rw [if_pos h,if_pos h];exact (zjn k).symm
  ·rw [if_neg h,if_neg h]
   show k.format.write (.infinity (t ^^ (!s)))=fneg k (k.format.write (.infinity (t ^^ s)))
   rw [zk9 (d:=.infinity (t ^^ s)) rfl]
   show k.format.write (.infinity (t ^^ (!s)))=k.format.write (.infinity (!(t ^^ s)))
   rw [Bool.xor_not]
theorem zxh (k:FloatKind):(k.format.read (qnan k)).isNaN=true:=by cases k<;>decide+kernel
theorem zxu (d d':Ieee.Datum) (h:d'.isNaN=true):Ieee.Datum.sum d d'=none:=by
 cases d' with
 | nan t p=>cases d<;>rfl
 | number _ _ _=>cases h
 | infinity _=>cases h
theorem zjr {k:FloatKind} {w:Nat} (hw:fin k w=true) (x y:Nat):fsub k x (fmul k w y)=fadd k x (fmul k (fneg k w) y):=by
 rw [zw8 hw]
 generalize fmul k w y=z
 cases hz:(k.format.read z).isNaN with
 | false=>exact z12f hz
 | true=>
  have e:fneg k z=qnan k:=by
   unfold fneg
   rw [show (k.decode z).isNaN=true from hz];rfl
  rw [e]
  unfold fsub fadd Ieee.Format.sub Ieee.Format.add
  rw [zxu _ _ (zxh k),zxu]
  cases hd:k.format.read z with
  | nan t p=>rfl
  | number _ _ _=>rw [hd] at hz;cases hz
  | infinity _=>rw [hd] at hz;cases hz
theorem zrp (k:Int) {w:Nat} (hw:fin .f32 w=true) (low high:LN) (h:high.length≤low.length):z9f k w true low high=z6f k (fneg .f32 w) low high:=by
 unfold z9f z6f
 cases (Int.tmod k 2==0) with
 | false=>rfl
 | true=>
  rw [cond_true,cond_true]
  apply List.ext_getElem (by simp)
  intro i h1 h2
  have hi:i<high.length:=by simpa using h1
  rw [List.getElem_mapIdx,List.getElem_mapIdx,zez low i ω2]
  exact zjr hw _ _
theorem zy2 (k:Int) {w:Nat} (hw:fin .f32 w=true) (low high:LN) (h1:1≤high.length) (h:low.length≤high.length+1):zet k w true low high=zam k (fneg .f32 w) low high:=by
 unfold zet zam
 cases (Int.tmod k 2==0) with
 | true=>rfl
 | false=>
  rw [cond_false,cond_false]
  apply List.ext_getElem (by simp)
  intro i h2 h3
  have hi:i<low.length:=by simpa using h2
  rw [List.getElem_mapIdx,List.getElem_mapIdx,zd2 high i h1 ω2]
  exact zjr hw _ _
theorem z1a3 (ws:LN) (hw:∀k,k<ws.length→fin .f32 (ws.getD k 0)=true):∀(k:Nat) (lo hi:LN),k≤ws.length→1≤hi.length→hi.length≤lo.length→lo.length≤hi.length+1→dfI ws k lo hi=dfS ws k lo hi:=by
 intro k
 induction k with
 | zero=>intro lo hi _ _ _ _;rfl
 | succ k ih=>
  intro lo hi hk h1 h2 h3
  unfold dfI dfS
  rw [zy2 _ (hw k ω2) lo hi h1 h3,zrp _ (hw k ω2) lo hi h2]
  exact ih _ _ ω2 (by rw [z2s];exact h1) (by rw [z2s,z4b];exact h2) (by rw [z2s,z4b];exact h3)
theorem zr5 {ws:LN} {sc:Nat} (h:z5k ws sc=true) (k:Nat) (hk:k<ws.length):fin .f32 (ws.getD k 0)=true:=by
 rw [zht] at h
 cases h1:z3f (ws.length:Int) (1:Int) (8:Int) with
 | false=>rw [h1] at h;cases h
 | true=>
  rw [h1,cond_true] at h
  cases h2:z4y [ws] with
  | false=>rw [h2] at h;cases h
  | true=>
   rw [z3k] at h2
   simp only [List.all_cons,List.all_nil,Bool.and_true] at h2
   rw [List.getD_eq_getElem?_getD,List.getElem?_eq_getElem hk]
   exact List.all_eq_true.1 h2 _ (List.getElem_mem hk)
theorem z1iz (e:LN):∀k,k≤e.length→wv e [] k=e.take k:=by
 intro k
 induction k with
 | zero=>intro _;simp [wv]
 | succ k ih=>
  intro hk
  rw [zeu,ih ω2,List.take_add_one,List.getElem?_eq_getElem (show k<e.length by omega)]
  simp [wvF,List.getD_eq_getElem?_getD,List.getElem?_eq_getElem (show k<e.length by omega)]
theorem zun (ws:LN) (sc:Nat) (e o:LN) (hv:z5k ws sc=true) (h1:1≤e.length) (h2:o.length≤e.length) (h3:e.length≤o.length+1) (h4:e.length+o.length≤128) (he:e.all (fin .f32)=true) (ho:o.all (fin .f32)=true):z3e ws sc e o=z6h ws sc e o:=by
 rw [za6,z4p,hv,decide_eq_true h1,decide_eq_true h4]
 have ef:z4y [e,o]=true:=by rw [z3k];simp [he,ho]
 have e3:(decide (o.length=e.length) || decide (o.length+1=e.length))=true:=by
  by_cases c:o.length=e.length
  ·rw [decide_eq_true c];rfl
  ·rw [decide_eq_true (show o.length+1=e.length by omega),Bool.or_true]
 rw [ef,e3]
 simp only [Bool.and_true,cond_true]
 unfold zf2
 by_cases h0:o.length=0
 ·have eo:o=[]:=List.length_eq_zero_iff.1 h0
  rw [decide_eq_true h0,cond_true,decide_eq_false (show ¬(0:Int)<(0+o.length:Int) by omega),cond_false,eo,z1iz e _ (Nat.le_refl _),List.take_length,z7g,z5j,he]
  rfl
 ·rw [decide_eq_false h0,cond_false,decide_eq_true (show (0:Int)<(0+o.length:Int) by omega),cond_true]
  have hd:=z1a3 ws (zr5 hv) ws.length (e.map fun x=>fdiv .f32 x sc) (o.map fun x=>fmul .f32 x sc) (Nat.le_refl _) (by rw [List.length_map];omega) (by rw [List.length_map,List.length_map];exact h2) (by rw [List.length_map,List.length_map];exact h3)
  have ew:z6z ws sc e o=wv (zul ws sc e o) (zum ws sc e o) e.length:=by
   unfold z6z zd7 zfr zul zum
   rw [hd]
  rw [ew,z7g,z3k,z5j]
  simp only [List.all_cons,List.all_nil,Bool.and_true]
  cases List.all (wv (zul ws sc e o) (zum ws sc e o) e.length) (fin .f32)<;>rfl
def z7s (ws:LN) (sc:Nat) (l:LN) (W:Int) (y:Nat):LN×Bool:=z6h ws sc
 (((((l.drop (((y:Int)*W):Int).toNat).take (((((y:Int)+1)*W):Int)-((y:Int)*W)).toNat).drop (0:Int).toNat).take (((Int.tdiv (W+1) 2):Int)-0).toNat))
 ((((l.drop (((y:Int)*W):Int).toNat).take (((((y:Int)+1)*W):Int)-((y:Int)*W)).toNat).drop ((Int.tdiv (W+1) 2):Int).toNat).take ((((((((y:Int)+1)*W):Int)-((y:Int)*W)).toNat:Int):Int)-(Int.tdiv (W+1) 2)).toNat)
theorem zk2 (ws:LN) (sc:Nat) (W:Int) (m:Nat) (l:LN) (t5:Bool) (q1 q2 q4 q5:Int):∀(μ k:Nat),k≤m→m-k<μ→(∀i,i<k→(z7s ws sc l W i).2=true)→
  z3d ws sc W (m:Int) l μ t5 (k:Int) q1 q2 q4 q5 (z5b (z7s ws sc l W) k)=bif (List.range m).all (fun i=>(z7s ws sc l W i).2) then (q4,q5,z5b (z7s ws sc l W) m,true) else (0,0,[],false):=by
 intro μ
 induction μ with
 | zero=>intro k _ h;omega
 | succ μ ih=>
  intro k hk hm hall
  rw [za9]
  by_cases h:k<m
  ·rw [decide_eq_true (show (k:Int)<(m:Int) by omega),cond_true]
   show (bif !((z7s ws sc l W k).2) then ((0:Int),(0:Int),[],false) else z3d ws sc W (m:Int) l μ t5 ((k:Int)+1) q1 q2 q4 q5 (z5b (z7s ws sc l W) k++(z7s ws sc l W k).1))=_
   cases hg:(z7s ws sc l W k).2 with
   | false=>
    rw [Bool.not_false,cond_true]
    have:(List.range m).all (fun i=>(z7s ws sc l W i).2)=false:=by
     rw [List.all_eq_false]
     exact ⟨k,List.mem_range.2 h,by rw [hg];simp⟩
    rw [this,cond_false]
   | true=>
    rw [Bool.not_true,cond_false]
    have:=ih (k+1) ω2 ω2 (fun i hi=>by
     rcases Nat.lt_succ_iff_lt_or_eq.1 hi with hi | rfl
     ·exact hall i hi
     ·exact hg)
    rw [z4k] at this
    exact this
  ·obtain rfl:k=m:=by omega
   rw [decide_eq_false (show ¬(k:Int)<(k:Int) by omega),cond_false]
   have:(List.range k).all (fun i=>(z7s ws sc l W i).2)=true:=by
    rw [List.all_eq_true]
    exact fun i hi=>hall i (List.mem_range.1 hi)
   rw [this,cond_true]
theorem zo1 {l:LN} (hf:l.all (fin .f32)=true) (a b:Nat):((l.drop a).take b).all (fin .f32)=true:=by
 rw [List.all_eq_true]
 intro x hx
 exact List.all_eq_true.1 hf x (List.mem_of_mem_drop (List.mem_of_mem_take hx))
theorem zq6 {ws:LN} {sc:Nat} {l:LN} {W Hi:Int} {i:Nat} (hv:z5k ws sc=true) (h1:1≤W) (h2:W≤16) (h3:Hi≤16) (hl:(l.length:Int)=W*Hi) (hf:l.all (fin .f32)=true) (hi:(i:Int)<Hi):
  zaf (z3n l W i) ws sc (Int.tdiv (W+1) 2)=z7s ws sc l W i∧((z7s ws sc l W i).2=true→((z7s ws sc l W i).1.length:Int)=W∧(z7s ws sc l W i).1.all (fin .f32)=true):=by
 obtain ⟨f1,f2,f3,f4⟩:=z8z h1 h2 h3 hl hi
 have hh:=z7m h1
 have e1:((((((i:Int)+1)*W):Int)-((i:Int)*W)).toNat:Int)=W:=by
  have e2:((i:Int)+1)*W=(i:Int)*W+W:=by rw [Int.add_mul,Int.one_mul]
  omega
 have eg:z7s ws sc l W i=z6h ws sc (((z3n l W i).drop (0:Int).toNat).take (((Int.tdiv (W+1) 2):Int)-0).toNat) (((z3n l W i).drop ((Int.tdiv (W+1) 2):Int).toNat).take ((((((((i:Int)+1)*W):Int)-((i:Int)*W)).toNat:Int):Int)-(Int.tdiv (W+1) 2)).toNat):=rfl
 rw [zhw,eg,e1,f4]
 have pf:=zr0 hf W i
 generalize hA:((z3n l W i).drop (0:Int).toNat).take (((Int.tdiv (W+1) 2):Int)-0).toNat=A
 generalize hB:((z3n l W i).drop ((Int.tdiv (W+1) 2):Int).toNat).take (W-(Int.tdiv (W+1) 2)).toNat=B
 have lA:(A.length:Int)=(W+1) / 2:=by rw [←hA,List.length_take,List.length_drop];omega
 have lB:(B.length:Int)=W-(W+1) / 2:=by rw [←hB,List.length_take,List.length_drop];omega
 have fA:A.all (fin .f32)=true:=by rw [←hA];exact zo1 pf _ _
 have fB:B.all (fin .f32)=true:=by rw [←hB];exact zo1 pf _ _
 refine ⟨zun ws sc A B hv ω2 ω2 ω2 ω2 fA fB,fun h=>?_⟩
 obtain ⟨g1,g2⟩:=zgp ws sc A B h
 have g3:=zd8 ws sc A B
 rw [g1]
 refine ⟨by omega,?_⟩
 rw [←z5j];exact g2
theorem zlv {ws:LN} {sc:Nat} {W Hi:Int} {l:LN} (hv:z5k ws sc=true) (hp:z1p W Hi l=true):z2n ws sc W Hi l=z2m ws sc W Hi l:=by
 unfold z2n
 rw [hv,hp,cond_true,cond_true]
 obtain ⟨h1,h2,h3,h4,h5,_⟩:=f6z_t hp
 have hf:=z9e hp
 obtain ⟨m,rfl⟩:∃m:Nat,Hi=(m:Int):=⟨Hi.toNat,by omega⟩
 have em:((m:Int)).toNat=m:=Int.toNat_natCast m
 show _=z2m ws sc W (m:Int) l
 rw [em,ze1]
 have hs:=zk2 ws sc W m l false 0 0 W (m:Int) (Int.toNat ((m:Int)-(0:Int))+1) 0 ω2 ω2 (fun i hi=>absurd hi (Nat.not_lt_zero _))
 refine Eq.trans ?_ hs.symm
 have rows:=fun (i:Nat) (hi:i<m)=>zq6 (i:=i) hv h1 h2 h4 h5 hf ω2
 have eall:(List.range m).all (fun i=>(zaf (z3n l W i) ws sc (Int.tdiv (W+1) 2)).2)=(List.range m).all (fun i=>(z7s ws sc l W i).2):=by
  rw [Bool.eq_iff_iff,List.all_eq_true,List.all_eq_true]
  exact ⟨fun h i hi=>by rw [←(rows i (List.mem_range.1 hi)).1];exact h i hi,fun h i hi=>by rw [(rows i (List.mem_range.1 hi)).1];exact h i hi⟩
 unfold z3g
 rw [eall]
 cases hall:(List.range m).all (fun i=>(z7s ws sc l W i).2) with
 | false=>rfl
 | true=>
  rw [cond_true,cond_true]
  have ok:∀i,i<m→(z7s ws sc l W i).2=true:=fun i hi=>List.all_eq_true.1 hall i (List.mem_range.2 hi)
  rw [zmg m fun i hi=>congrArg Prod.fst (rows i hi).1]
  have hvp:z1p W (m:Int) (z5b (z7s ws sc l W) m)=true:=
   zie h1 h2 h3 h4 (zpx m fun i hi=>((rows i hi).2 (ok i hi)).1) (zw6 m fun i hi=>((rows i hi).2 (ok i hi)).2)
  rw [z4g,hvp]
  rfl
theorem zr3 (ys:LN):∀(xs:LN) (off z:Nat),zfc xs off (ys++[z])=(zfc xs off ys).set (off+ys.length) z:=by
 induction ys with
 | nil=>intro xs off z;rfl
 | cons y r ih=>
  intro xs off z
  show zfc (xs.set off y) (off+1) (r++[z])=_
  rw [ih]
  show _=(zfc (xs.set off y) (off+1) r).set (off+(r.length+1)) z
  rw [show off+1+r.length=off+(r.length+1) by omega]
theorem z13v {l q:LN} {W x y:Int} {n v:Nat} (hn:0<n) (h0:0≤(y+(v:Int))*W+x):∀u,u≤n→v*n+u≤q.length→zfc (putS l q W (n:Int) x y (v*n)) ((y+(v:Int))*W+x).toNat ((q.drop (v*n)).take u)=putS l q W (n:Int) x y (v*n+u):=by
 intro u
 induction u with
 | zero=>intro _ _;rw [List.take_zero];rfl
 | succ u ih=>
  intro hu hl
  have hg:(q.drop (v*n)).take (u+1)=(q.drop (v*n)).take u++[q.getD (v*n+u) 0]:=by
   rw [List.take_succ_eq_append_getElem (by rw [List.length_drop];omega),List.getElem_drop,List.getD_eq_getElem?_getD,List.getElem?_eq_getElem (show v*n+u<q.length by omega)];rfl
  have ll:((q.drop (v*n)).take u).length=u:=by rw [List.length_take,List.length_drop];omega
  rw [hg,zr3,ih ω2 ω2,ll]
  show _=(putS l q W (n:Int) x y (v*n+u)).set ((y+Int.tdiv ((v*n+u:Nat):Int) (n:Int))*W+x+Int.tmod ((v*n+u:Nat):Int) (n:Int)).toNat (q.getD (v*n+u) 0)
  have e1:Int.tdiv ((v*n+u:Nat):Int) (n:Int)=(v:Int):=by
   show ((((v*n+u) / n:Nat)):Int)=_
   rw [Nat.add_comm,Nat.mul_comm,Nat.add_mul_div_left _ _ hn,Nat.div_eq_of_lt ω2];omega
  have e2:Int.tmod ((v*n+u:Nat):Int) (n:Int)=(u:Int):=by
   show ((((v*n+u) % n:Nat)):Int)=_
   rw [Nat.add_comm,Nat.mul_comm,Nat.add_mul_mod_self_left,Nat.mod_eq_of_lt ω2]
  rw [e1,e2]
  have e3:((y+(v:Int))*W+x).toNat+u=((y+(v:Int))*W+x+(u:Int)).toNat:=by
   generalize (y+(v:Int))*W+x=a at *
   omega
  rw [e3]
theorem z13x {l q:LN} {W x y:Int} {n m:Nat} (hn:0<n) (hx:0≤x) (hy:0≤y) (hW:0≤W) (hq:q.length=m*n):∀v,v≤m→z9a l q W (n:Int) x y v=putS l q W (n:Int) x y (v*n):=by
 intro v
 induction v with
 | zero=>intro _;rw [Nat.zero_mul];rfl
 | succ v ih=>
  intro hv
  show zfc (z9a l q W (n:Int) x y v) ((y+(v:Int))*W+x).toNat ((q.drop ((v:Int)*(n:Int)).toNat).take ((n:Int)).toNat)=_
  have hm:(v+1)*n≤m*n:=Nat.mul_le_mul_right _ hv
  have hs:(v+1)*n=v*n+n:=Nat.succ_mul _ _
  have h0:0≤(y+(v:Int))*W+x:=Int.add_nonneg (Int.mul_nonneg ω2 hW) hx
  rw [ih ω2,←Int.natCast_mul,Int.toNat_natCast,Int.toNat_natCast,z13v hn h0 n (Nat.le_refl _) ω2,hs]
theorem z1d9 {l:LN} (hf:l.all (fin .f32)=true) {x:Nat} (hx:fin .f32 x=true) (i:Nat):(l.set i x).all (fin .f32)=true:=by
 rw [List.all_eq_true] at hf ⊢
 intro y hy
 rcases List.mem_or_eq_of_mem_set hy with h | rfl
 ·exact hf y h
 ·exact hx
theorem z13u {l q:LN} (hl:l.all (fin .f32)=true) (hq:q.all (fin .f32)=true) (W pw x y:Int):∀i,(putS l q W pw x y i).all (fin .f32)=true:=by
 intro i
 induction i with
 | zero=>exact hl
 | succ i ih=>exact z1d9 ih (zdm hq i) _
theorem zfg {w h:Int} {l:LN} (hh:(z9s w h l).2.2.2=true):z1p (z9s w h l).1 (z9s w h l).2.1 (z9s w h l).2.2.1=true:=by
 rw [z4g] at hh ⊢
 cases hv:z1p w h l with
 | false=>rw [hv] at hh;cases hh
 | true=>exact hv
theorem zky {W Hi:Int} {m:Nat} {g:Nat→LN×Bool} (hh:(z3g W Hi m g).2.2.2=true):z1p (z3g W Hi m g).1 (z3g W Hi m g).2.1 (z3g W Hi m g).2.2.1=true:=by
 unfold z3g at hh ⊢
 cases ha:(List.range m).all (fun i=>(g i).2) with
 | false=>rw [ha] at hh;cases hh
 | true=>rw [ha,cond_true] at hh;rw [cond_true];exact zfg hh
theorem zmv {W Hi:Int} {m:Nat} {g:Nat→LN×Bool} (hh:(z3g W Hi m g).2.2.2=false):z3g W Hi m g=(0,0,[],false):=by
 unfold z3g at hh ⊢
 cases ha:(List.range m).all (fun i=>(g i).2) with
 | false=>rfl
 | true=>
  rw [ha,cond_true] at hh;rw [cond_true]
  rw [z4g] at hh ⊢
  cases hv:z1p W Hi (z5b g m) with
  | false=>rfl
  | true=>rw [hv] at hh;cases hh
theorem z14m {q:PicT} (h:q.2.2.2=false→q=(0,0,[],false)):z5n q (fun a b l=>(a,b,l,true))=q:=by
 obtain ⟨q1,q2,q3,q4⟩:=q
 cases q4 with
 | false=>exact (h rfl).symm
 | true=>rfl
theorem zcc {w h:Int} {g:Int→Int→Nat} (h1:1≤w) (h2:w≤16) (h3:1≤h) (h4:h≤16) (hg:∀u v:Int,fin .f32 (g u v)=true):z8x w h g=(w,h,picL w.toNat h.toNat g,true)∧z1p w h (picL w.toNat h.toNat g)=true:=by
 have hf:(picL w.toNat h.toNat g).all (fin .f32)=true:=List.all_eq_true.2 fun z hz=>by
  obtain ⟨u,v,_,_,rfl⟩:=z13s hz
  exact hg _ _
 have e3:z1p w h (picL w.toNat h.toNat g)=true:=by
  refine zie h1 h2 h3 h4 ?_ hf
  rw [z2r,Int.natCast_mul,Int.toNat_of_nonneg ω2,Int.toNat_of_nonneg ω2,Int.mul_comm]
 refine ⟨?_,e3⟩
 unfold z8x
 rw [z3i h1 h2,z3i h3 h4,cond_true,cond_true,z4g,e3]
 rfl
theorem zxv {W Hi:Int} {l:LN} (hv:z1p W Hi l=true):z1u W Hi l=(Hi,W,picL Hi.toNat W.toNat (zid l W))∧z7y W Hi l=(Hi,W,picL Hi.toNat W.toNat (zid l W),true)∧z1p Hi W (picL Hi.toNat W.toNat (zid l W))=true:=by
 obtain ⟨h1,h2,h3,h4,h5,_⟩:=f6z_t hv
 have hf:=z9e hv
 obtain ⟨a,b⟩:=zcc (w:=Hi) (h:=W) (g:=zid l W) h3 h4 h1 h2 fun u v=>zdm hf _
 refine ⟨zfu W Hi l h1 h3,?_,b⟩
 unfold z7y
 rw [hv,cond_true]
 exact a
theorem zjy {W Hi:Int} {l:LN} (hv:z1p W Hi l=true) {x y w h:Int} (h1:0≤x) (h2:0≤y) (h3:1≤w) (h4:1≤h) (h5:x+w≤W) (h6:y+h≤Hi):z8d W Hi l x y w h=true:=by
 have hb:=f6z_t hv
 rw [ze2,hv,cond_true,z3i h1 ω2,cond_true,z3i h2 ω2,cond_true,zu (n:=W-x) ω2 ω2,zu (n:=Hi-y) ω2 ω2,z3i h3 ω2,cond_true,z3i h4 ω2]
theorem z10k {W Hi:Int} {l:LN} (hv:z1p W Hi l=true) {x y w h:Int} (h1:0≤x) (h2:0≤y) (h3:1≤w) (h4:1≤h) (h5:x+w≤W) (h6:y+h≤Hi):
  z8w W Hi l x y w h=(w,h,picL w.toNat h.toNat (z5a l x y W),true)∧z1p w h (picL w.toNat h.toNat (z5a l x y W))=true:=by
 have hb:=f6z_t hv
 have hf:=z9e hv
 obtain ⟨a,b⟩:=zcc (w:=w) (h:=h) (g:=z5a l x y W) h3 ω2 h4 ω2 fun u v=>zdm hf _
 refine ⟨?_,b⟩
 unfold z8w
 rw [zjy hv h1 h2 h3 h4 h5 h6,cond_true]
 exact a
theorem z1ig {W Hi:Int} {l:LN} (hv:z1p W Hi l=true) {w h:Int} {q:LN} (hq:z1p w h q=true) (h5:w≤W) (h6:h≤Hi):
  zag W Hi l w h q 0 0=(W,Hi,putS l q W w 0 0 (w*h).toNat,true)∧z1p W Hi (putS l q W w 0 0 (w*h).toNat)=true:=by
 obtain ⟨h1,h2,h3,h4,hl,_⟩:=f6z_t hv
 obtain ⟨g1,g2,g3,g4,hql,_⟩:=f6z_t hq
 refine ⟨?_,zie h1 h2 h3 h4 (by rw [z7z];exact hl) (z13u (z9e hv) (z9e hq) _ _ _ _ _)⟩
 unfold zag
 rw [hq,zjy hv (Int.le_refl 0) (Int.le_refl 0) g1 g3 ω2 ω2,cond_true,cond_true]
 obtain ⟨n,rfl⟩:∃n:Nat,w=(n:Int):=⟨w.toNat,by omega⟩
 obtain ⟨m,rfl⟩:∃m:Nat,h=(m:Int):=⟨h.toNat,by omega⟩
 have hql':q.length=m*n:=by rw [Nat.mul_comm];rw [←Int.natCast_mul] at hql;omega
 rw [Int.toNat_natCast,z13x ω2 (Int.le_refl 0) (Int.le_refl 0) ω2 hql' m (Nat.le_refl _),←Int.natCast_mul,Int.toNat_natCast,Nat.mul_comm m n]
def z3x (R M:Int→Int→LN→PicT):Prop:=∀W Hi l,z1p W Hi l=true→R W Hi l=M W Hi l∧((M W Hi l).2.2.2=false→M W Hi l=(0,0,[],false))∧((M W Hi l).2.2.2=true→(M W Hi l).1=W∧(M W Hi l).2.1=Hi∧z1p W Hi (M W Hi l).2.2.1=true)
theorem z3x.congr {R M M':Int→Int→LN→PicT} (h:z3x R M) (e:∀W Hi l,z1p W Hi l=true→M' W Hi l=M W Hi l):z3x R M':=fun W Hi l hv=>by rw [e W Hi l hv];exact h W Hi l hv
def zue (M:Int→Int→LN→PicT) (W Hi:Int) (l:LN):PicT:=z5n (M (z1u W Hi l).1 (z1u W Hi l).2.1 (z1u W Hi l).2.2) fun a b c=>((z1u a b c).1,(z1u a b c).2.1,(z1u a b c).2.2,true)
theorem zj1 {R M:Int→Int→LN→PicT} (h:z3x R M):z3x (z4w R) (zue M):=by
 intro W Hi l hv
 obtain ⟨s1,s2,s3⟩:=zxv hv
 obtain ⟨r1,r2,r3⟩:=h _ _ _ s3
 unfold z4w zue
 rw [s1,s2,z1r rfl]
 dsimp only
 rw [r1]
 generalize hq:M Hi W (picL Hi.toNat W.toNat (zid l W))=q at *
 obtain ⟨q1,q2,q3,q4⟩:=q
 dsimp only at r2 r3 ⊢
 cases q4 with
 | false=>exact ⟨rfl,fun _=>rfl,fun h=>by cases h⟩
 | true=>
  obtain ⟨d1,d2,d3⟩:=r3 rfl
  subst d1 d2
  obtain ⟨t1,t2,t3⟩:=zxv d3
  rw [z1r rfl,z1r rfl]
  dsimp only
  rw [t1,t2]
  refine ⟨rfl,?_,?_⟩
  ·intro h;cases h
  ·intro _;exact ⟨rfl,rfl,t3⟩
theorem zxy {R M R' M':Int→Int→LN→PicT} (h:z3x R M) (h':z3x R' M'):z3x (fun W Hi l=>z5n (R W Hi l) R') (fun W Hi l=>z5n (M W Hi l) M'):=by
 intro W Hi l hv
 obtain ⟨r1,r2,r3⟩:=h _ _ _ hv
 dsimp only
 rw [r1]
 generalize M W Hi l=q at *
 obtain ⟨q1,q2,q3,q4⟩:=q
 dsimp only at r2 r3 ⊢
 cases q4 with
 | false=>exact ⟨rfl,fun _=>rfl,fun h=>by cases h⟩
 | true=>
  obtain ⟨d1,d2,d3⟩:=r3 rfl
  subst d1 d2
  rw [z1r rfl,z1r rfl]
  exact h' _ _ _ d3
theorem zxa {ch Q:Int→Int→LN→PicT} (hc:z3x ch Q) {W Hi w h:Int} {l:LN} (hv:z1p W Hi l=true) (h1:1≤w) (h2:w≤W) (h3:1≤h) (h4:h≤Hi):
  z5h ch W Hi l w h=z9t Q W Hi l w h∧((z9t Q W Hi l w h).2.2.2=true→(z9t Q W Hi l w h).1=W∧(z9t Q W Hi l w h).2.1=Hi∧z1p W Hi (z9t Q W Hi l w h).2.2.1=true):=by
 obtain ⟨c1,c2⟩:=z10k hv (x:=0) (y:=0) (w:=w) (h:=h) (Int.le_refl 0) (Int.le_refl 0) h1 h3 ω2 ω2
 obtain ⟨r1,r2,r3⟩:=hc _ _ _ c2
 unfold z5h z9t
 rw [c1,z1r rfl]
 dsimp only
 rw [r1]
 generalize Q w h (picL w.toNat h.toNat (z5a l 0 0 W))=q at *
 obtain ⟨q1,q2,q3,q4⟩:=q
 dsimp only at r2 r3 ⊢
 cases q4 with
 | false=>exact ⟨rfl,fun h=>by cases h⟩
 | true=>
  obtain ⟨d1,d2,d3⟩:=r3 rfl
  subst d1 d2
  rw [z1r rfl]
  dsimp only
  obtain ⟨p1,p2⟩:=z1ig hv d3 h2 h4
  exact ⟨p1,fun _=>⟨rfl,rfl,p2⟩⟩
theorem zqz {f g:Nat→Int→Int→LN→PicT} {W Hi:Int} (h:∀k l,z1p W Hi l=true→f k W Hi l=g k W Hi l∧((g k W Hi l).2.2.2=true→(g k W Hi l).1=W∧(g k W Hi l).2.1=Hi∧z1p W Hi (g k W Hi l).2.2.1=true)):∀(n k:Nat) (l:LN),z1p W Hi l=true→z2f f n k W Hi l=z2f g n k W Hi l∧((z2f g n k W Hi l).2.2.2=true→(z2f g n k W Hi l).1=W∧(z2f g n k W Hi l).2.1=Hi∧z1p W Hi (z2f g n k W Hi l).2.2.1=true):=by
 intro n
 induction n with
 | zero=>intro k l hv;exact ⟨rfl,fun _=>⟨rfl,rfl,hv⟩⟩
 | succ n ih=>
  intro k l hv
  obtain ⟨a,b⟩:=h k l hv
  rw [z5p,z5p,a]
  generalize g k W Hi l=q at *
  obtain ⟨q1,q2,q3,q4⟩:=q
  dsimp only at b
  cases q4 with
  | false=>exact ⟨rfl,fun h=>by cases h⟩
  | true=>
   obtain ⟨d1,d2,d3⟩:=b rfl
   subst d1 d2
   rw [z1r rfl,z1r rfl]
   exact ih _ _ d3
theorem z7q {ws:LN} {sc:Nat} (hs:z5k ws sc=true):z3x (z2c ws sc) (fun W Hi l=>z2o ws sc W Hi l true):=by
 intro W Hi l hv
 obtain ⟨h1,h2,h3,h4,h5,_⟩:=f6z_t hv
 have e1:z2c ws sc W Hi l=z2o ws sc W Hi l true:=by
  show z2n ws sc W Hi l=_
  rw [zlv hs hv,ze6]
  rfl
 have e2:z2c ws sc W Hi l=z3g W Hi Hi.toNat (fun y=>zaf (z3n l W y) ws sc (Int.tdiv (W+1) 2)):=by
  show z2n ws sc W Hi l=_
  unfold z2n
  rw [hs,hv];rfl
 dsimp only
 refine ⟨e1,?_,fun h=>?_⟩
 ·rw [←e1,e2];exact zmv
 ·obtain ⟨d1,d2,d3⟩:=z7t h1 h3 h5 h
  refine ⟨d1,d2,?_⟩
  have hq:(z3g W Hi Hi.toNat (fun y=>zaf (z3n l W y) ws sc (Int.tdiv (W+1) 2))).2.2.2=true:=by rw [←e2,e1];exact h
  have v:=zky hq
  rw [←e2,e1,d1,d2] at v
  exact v
theorem zxb {ws:LN} {sc:Nat} {R:Int→Int→LN→PicT} (h:z3x R (fun W Hi l=>z2o ws sc W Hi l true)) {W Hi:Int} {l:LN} (hv:z1p W Hi l=true):z2f (z6e ws sc true) 2 0 W Hi l=z5n (zue (fun W Hi l=>z2o ws sc W Hi l true) W Hi l) (fun W Hi l=>z2o ws sc W Hi l true):=by
 obtain ⟨_,_,r3⟩:=(zj1 h) _ _ _ hv
 rw [z5p,show z6e ws sc true 0 W Hi l=zue (fun W Hi l=>z2o ws sc W Hi l true) W Hi l from rfl]
 generalize zue (fun W Hi l=>z2o ws sc W Hi l true) W Hi l=q at *
 obtain ⟨q1,q2,q3,q4⟩:=q
 cases q4 with
 | false=>rfl
 | true=>
  obtain ⟨d1,d2,d3⟩:=r3 rfl
  dsimp only at d1 d2 d3
  subst d1 d2
  rw [z1r rfl,z1r rfl]
  exact z14m (h _ _ _ d3).2.1
theorem zpo {ws:LN} {sc:Nat} (hs:z5k ws sc=true):z3x (zbw (z2c ws sc)) (fun W Hi l=>z2f (z6e ws sc true) 2 0 W Hi l):=
 (zxy (zj1 (z7q hs)) (z7q hs)).congr fun _ _ _ hv=>zxb (z7q hs) hv
theorem zlw {ws:LN} {sc:Nat} {W Hi:Int} {l:LN} {levels:Int} (hs:z5k ws sc=true) (hv:z1p W Hi l=true):z2f (z6p ws sc W Hi levels) levels.toNat 0 W Hi l=z4x ws sc W Hi l levels∧((z4x ws sc W Hi l levels).2.2.2=true→(z4x ws sc W Hi l levels).1=W∧(z4x ws sc W Hi l levels).2.1=Hi∧z1p W Hi (z4x ws sc W Hi l levels).2.2.1=true):=by
 obtain ⟨h1,h2,h3,h4,h5,_⟩:=f6z_t hv
 refine zqz (g:=fun (k:Nat) a b l=>zrl ws sc W Hi true (levels-1-(k:Int)) a b l) (fun k l hv=>?_) levels.toNat 0 l hv
 have rw1:=z7c (levels-1-(k:Int)).toNat W h1 h2
 have rh1:=z7c (levels-1-(k:Int)).toNat Hi h3 h4
 have e1:z7h W (levels-1-(k:Int))=z6a (levels-1-(k:Int)).toNat W:=by rw [zvg W _ h1 h2]
 have e2:z7h Hi (levels-1-(k:Int))=z6a (levels-1-(k:Int)).toNat Hi:=by rw [zvg Hi _ h3 h4]
 have e3:z2l W Hi (levels-1-(k:Int))=(z6a (levels-1-(k:Int)).toNat W,z6a (levels-1-(k:Int)).toNat Hi):=by rw [zc7 W Hi _ h1 h2 h3 h4]
 have:=zxa (zpo hs) hv rw1.1 rw1.2 rh1.1 rh1.2
 show z5h (zbw (z2c ws sc)) W Hi l (z7h W (levels-1-(k:Int))) (z7h Hi (levels-1-(k:Int)))=z9t (fun W Hi l=>z2f (z6e ws sc true) 2 0 W Hi l) W Hi l (z2l W Hi (levels-1-(k:Int))).1 (z2l W Hi (levels-1-(k:Int))).2∧((z9t (fun W Hi l=>z2f (z6e ws sc true) 2 0 W Hi l) W Hi l (z2l W Hi (levels-1-(k:Int))).1 (z2l W Hi (levels-1-(k:Int))).2).2.2.2=true→(z9t (fun W Hi l=>z2f (z6e ws sc true) 2 0 W Hi l) W Hi l (z2l W Hi (levels-1-(k:Int))).1 (z2l W Hi (levels-1-(k:Int))).2).1=W∧(z9t (fun W Hi l=>z2f (z6e ws sc true) 2 0 W Hi l) W Hi l (z2l W Hi (levels-1-(k:Int))).1 (z2l W Hi (levels-1-(k:Int))).2).2.1=Hi∧z1p W Hi (z9t (fun W Hi l=>z2f (z6e ws sc true) 2 0 W Hi l) W Hi l (z2l W Hi (levels-1-(k:Int))).1 (z2l W Hi (levels-1-(k:Int))).2).2.2.1=true)
 rw [e1,e2,e3]
 exact this
theorem zcj (ws:LN) (sc:Nat) (W Hi:Int) (l:LN) (levels:Int):z1o ws sc W Hi l levels=z2v ws sc W Hi l levels:=by
 rw [zhv,zb9,←zmz,←zn6,zx0]
 unfold z1o
 cases hs:z5k ws sc with
 | false=>rfl
 | true=>
  cases hv:z1p W Hi l with
  | false=>rfl
  | true=>
   cases hl:zqt levels with
   | false=>
    have hl':z8f levels 1 4=false:=hl
    rw [hl'];rfl
   | true=>
    have hl':z8f levels 1 4=true:=hl
    rw [hl']
    simp only [cond_true,Bool.not_true,cond_false]
    exact (zlw hs hv).1
theorem zus (l:LN) (sc:Nat):zg0 l sc l sc=true:=by
 rw [zkh,zoc,zoe];rfl
theorem zvv (a b k:Int) (n:Nat) (h:0≤wk k n):zhu a b (z4d (FloatKind.nearest .f32) k n) k=wk k n:=by
 rw [zou,f8z_marks,decide_eq_false ω2,cond_false]
theorem laws_FnExactDropPicture_true (za:LN) (vb:Nat) (jc ic:Int) (ab:LN) (aLevels:Int) (q0:(∀y ∈ za,W32 y)) (q0':za.length≤9223372036854775807) (q1:W32 vb) (q2:I64 jc) (q3:I64 ic) (q4:(∀y ∈ ab,W32 y)) (q4':ab.length≤9223372036854775807) (q5:I64 aLevels):z2e za vb jc ic ab aLevels=true:=by
 rw [z2z]
 rcases z17h za vb 1048576 ω23 ω23 q0' with h | ⟨h,h'⟩
 ·rw [decide_eq_true h];rfl
 ·rw [decide_eq_false (show ¬z8e za vb 1048576<0 by omega),cond_false]
  rcases fxz_f jc ic ab (z8e za vb 1048576) ω2 ω2 q4' with g | ⟨g,g'⟩
  ·rw [decide_eq_true g];rfl
  ·rw [decide_eq_false (show ¬zkx jc ic ab (z8e za vb 1048576)<0 by omega),cond_false]
   rw [zcj]
   have hr:=zvw za vb jc ic ab aLevels
   have hw:=wk_eq za.length 1 ω2 ω2
   have hv:=wk_eq ab.length (wk 1 za.length) ω2 ω2
   have hu:=wk_eq (z2v za vb jc ic ab aLevels).2.2.1.length 1 ω2 ω2
   simp only [z12n,zus,zvv _ _ 1 (z2v za vb jc ic ab aLevels).2.2.1.length ω2,Bool.not_true,cond_false,beq_self_eq_true,bne_self_eq_false,decide_eq_false (show ¬wk (wk 1 za.length) ab.length<(0:Int) by omega),decide_eq_false (show ¬wk 1 (z2v za vb jc ic ab aLevels).2.2.1.length<(0:Int) by omega)]
/-! laws_FnExactDropPicture: function 3 -/
def E_laws_FnExactDropPicture:Env:=envOf [(999996,z9r),(9,z16j),(10,S_fxz),(12,z16k),(13,S_fyz),(11,S_fgz),(14,S_fbz),(15,S_fvz),(16,z16i),(17,S_fnz),(18,S_ffz),(19,S_fez)]
def z3r (args:List Value) (H:zq):(Value→zq→Prop)→Prop:=match args with
 | [.agg ⟨[.slice ah xh dh,.float .f32 vb]⟩,.agg ⟨[.int .i64 jc,.int .i64 ic,.slice eh zh gh]⟩,.int .i64 aLevels]=>fun K=>z3s ah xh dh vb jc ic eh zh gh aLevels H fun (r1:Bool) (H':zq)=>K (.bool r1) H'
 | _=>fun _=>False
def z6s:FSpec:={F:=z3r,quiet:=false,tame:=false}
theorem laws_FnExactDropPicture_vc (ah:OA) (xh dh vb:Nat) (jc ic:Int) (eh:OA) (zh gh:Nat) (aLevels:Int) (H:zq) (K:KT):z1a Tryz.prog E_laws_FnExactDropPicture Tryz.f3 [.agg #[.slice ah xh dh,.float .f32 vb],.agg #[.int .i64 jc,.int .i64 ic,.slice eh zh gh],.int .i64 aLevels] H K=
 (Al [.slice ah xh dh,.float .f32 vb] H fun b1 H1=>Al [.int .i64 jc,.int .i64 ic,.slice eh zh gh] H1 fun b2 H2=>∃zi:OA,∃bj:Nat,∃aj:Nat,∃c2:Nat,  rdN H2 b1 0 2=some [.slice zi bj aj,.float .f32 c2]∧zni zi bj aj c2 1048576 H2 fun (r1:Int) (H3:zq)=>Br (decide ((r1:Int)<0)) (K (.bool true) H3) (∃c3:Int,∃c4:Int,∃gk:OA,∃jk:Nat,∃ik:Nat,  rdN H3 b2 0 3=some [.int .i64 c3,.int .i64 c4,.slice gk jk ik]∧T_fxz c3 c4 gk jk ik r1 H3 fun (r2:Int) (H4:zq)=>Br (decide ((r2:Int)<0)) (K (.bool true) H4) (∃c6:Int,∃c7:Int,∃lk:OA,∃pk:Nat,∃nk:Nat,  rdN H4 b2 0 3=some [.int .i64 c6,.int .i64 c7,.slice lk pk nk]∧∃fi:OA,∃ii:Nat,∃gi:Nat,∃c10:Nat,  rdN H4 b1 0 2=some [.slice fi ii gi,.float .f32 c10]∧zcz fi ii gi c10 H4 fun (a1:OA) (r3:Nat) (r4:Nat) (r5:Nat) (H5:zq)=>zlo c6 c7 lk pk nk H5 fun (r6:Int) (r7:Int) (a2:OA) (r8:Nat) (r9:Nat) (H6:zq)=>zzw a1 r3 r4 r5 r6 r7 a2 r8 r9 aLevels H6 fun (r10:Int) (r11:Int) (a3:OA) (r12:Nat) (r13:Nat) (r14:Bool) (H7:zq)=>Al [.int .i64 0,.int .i64 0,.slice none 0 0] H7 fun b3 H8=>isOwn H8 b3∧(∃l,rdN H8 b3 0 3=some l)∧Lt (setN H8 b3 0 [.int .i64 r10,.int .i64 r11,.slice a3 r12 r13]) fun H9=>∃zj:OA,∃bk:Nat,∃ak:Nat,∃c12:Nat,  rdN H9 b1 0 2=some [.slice zj bk ak,.float .f32 c12]∧zcz zj bk ak c12 H9 fun (a4:OA) (r15:Nat) (r16:Nat) (r17:Nat) (H10:zq)=>Al [.slice none 0 0,.float .f32 0] H10 fun b4 H11=>isOwn H11 b4∧(∃l,rdN H11 b4 0 2=some l)∧Lt (setN H11 b4 0 [.slice a4 r15 r16,.float .f32 r17]) fun H12=>∃c13:Int,∃c14:Int,∃ij:OA,∃kj:Nat,∃jj:Nat,  rdN H12 b2 0 3=some [.int .i64 c13,.int .i64 c14,.slice ij kj jj]∧zlo c13 c14 ij kj jj H12 fun (r18:Int) (r19:Int) (a5:OA) (r20:Nat) (r21:Nat) (H13:zq)=>Al [.int .i64 0,.int .i64 0,.slice none 0 0] H13 fun b5 H14=>isOwn H14 b5∧(∃l,rdN H14 b5 0 3=some l)∧Lt (setN H14 b5 0 [.int .i64 r18,.int .i64 r19,.slice a5 r20 r21]) fun H15=>∃im:OA,∃km:Nat,∃jm:Nat,∃c17:Nat,  rdN H15 b4 0 2=some [.slice im km jm,.float .f32 c17]∧∃c18:Int,∃c19:Int,∃kl:OA,∃ol:Nat,∃ml:Nat,  rdN H15 b5 0 3=some [.int .i64 c18,.int .i64 c19,.slice kl ol ml]∧ztp im km jm c17 c18 c19 kl ol ml aLevels H15 fun (r22:Int) (r23:Int) (a6:OA) (r24:Nat) (r25:Nat) (r26:Bool) (H16:zq)=>Al [.int .i64 0,.int .i64 0,.slice none 0 0] H16 fun b6 H17=>isOwn H17 b6∧(∃l,rdN H17 b6 0 3=some l)∧Lt (setN H17 b6 0 [.int .i64 r22,.int .i64 r23,.slice a6 r24 r25]) fun H18=>∃c21:Int,∃c22:Int,∃ql:OA,∃ul:Nat,∃tl:Nat,  rdN H18 b6 0 3=some [.int .i64 c21,.int .i64 c22,.slice ql ul tl]∧∃c24:Int,∃c25:Int,∃wl:OA,∃yl:Nat,∃xl:Nat,  rdN H18 b3 0 3=some [.int .i64 c24,.int .i64 c25,.slice wl yl xl]∧zln c21 c22 ql ul tl c24 c25 wl yl xl H18 fun (r27:Bool) (H19:zq)=>Br (!r27) (K (.bool false) H19) (Br (!(r26==r14)) (K (.bool false) H19) (∃om:OA,∃um:Nat,∃rm:Nat,∃c28:Nat,  rdN H19 b1 0 2=some [.slice om um rm,.float .f32 c28]∧∃am:OA,∃dm:Nat,∃bm:Nat,∃c30:Nat,  rdN H19 b4 0 2=some [.slice am dm bm,.float .f32 c30]∧zcz om um rm c28 H19 fun (a7:OA) (r28:Nat) (r29:Nat) (r30:Nat) (H20:zq)=>znh am dm bm c30 a7 r28 r29 r30 H20 fun (r31:Bool) (H21:zq)=>Br (!r31) (K (.bool false) H21) (∃c31:Int,∃c32:Int,∃vm:OA,∃xm:Nat,∃wm:Nat,  rdN H21 b2 0 3=some [.int .i64 c31,.int .i64 c32,.slice vm xm wm]∧∃c34:Int,∃c35:Int,∃ym:OA,∃bn:Nat,∃zm:Nat,  rdN H21 b5 0 3=some [.int .i64 c34,.int .i64 c35,.slice ym bn zm]∧zlo c31 c32 vm xm wm H21 fun (r32:Int) (r33:Int) (a8:OA) (r34:Nat) (r35:Nat) (H22:zq)=>zln c34 c35 ym bn zm r32 r33 a8 r34 r35 H22 fun (r36:Bool) (H23:zq)=>Br (!r36) (K (.bool false) H23) (∃gn:OA,∃mn:Nat,∃jn:Nat,∃c38:Nat,  rdN H23 b4 0 2=some [.slice gn mn jn,.float .f32 c38]∧T_fnz gn mn jn c38 1 H23 fun (r37:Int) (H24:zq)=>∃c39:Int,∃c40:Int,∃sn:OA,∃xn:Nat,∃vn:Nat,  rdN H24 b5 0 3=some [.int .i64 c39,.int .i64 c40,.slice sn xn vn]∧ztt c39 c40 sn xn vn r37 H24 fun (r38:Int) (H25:zq)=>Br (decide ((r38:Int)<0)) (K (.bool false) H25) (∃c42:Int,∃c43:Int,∃yn:OA,∃ao:Nat,∃zn:Nat,  rdN H25 b6 0 3=some [.int .i64 c42,.int .i64 c43,.slice yn ao zn]∧∃c45:Int,∃c46:Int,∃bo:OA,∃fo:Nat,∃co:Nat,  rdN H25 b3 0 3=some [.int .i64 c45,.int .i64 c46,.slice bo fo co]∧zln c42 c43 yn ao zn c45 c46 bo fo co H25 fun (r39:Bool) (H26:zq)=>Br (!r39) (K (.bool false) H26) (Br (!(r26==r14)) (K (.bool false) H26) (∃c48:Int,∃c49:Int,∃io:OA,∃ko:Nat,∃jo:Nat,  rdN H26 b6 0 3=some [.int .i64 c48,.int .i64 c49,.slice io ko jo]∧ztt c48 c49 io ko jo 1 H26 fun (r40:Int) (H27:zq)=>∃c51:Int,∃c52:Int,∃oo:OA,∃qo:Nat,∃po:Nat,  rdN H27 b6 0 3=some [.int .i64 c51,.int .i64 c52,.slice oo qo po]∧ztr c51 c52 oo qo po 1 H27 fun (r41:Int) (H28:zq)=>Br (decide ((r41:Int)<0)) (K (.bool false) H28) (Br ((r41:Int) != r40) (K (.bool false) H28) (∃c54:Int,∃c55:Int,∃ro:OA,∃vo:Nat,∃uo:Nat,  rdN H28 b2 0 3=some [.int .i64 c54,.int .i64 c55,.slice ro vo uo]∧∃xo:OA,∃zo:Nat,∃yo:Nat,∃c58:Nat,  rdN H28 b1 0 2=some [.slice xo zo yo,.float .f32 c58]∧zcz xo zo yo c58 H28 fun (a9:OA) (r42:Nat) (r43:Nat) (r44:Nat) (H29:zq)=>zlo c54 c55 ro vo uo H29 fun (r45:Int) (r46:Int) (a10:OA) (r47:Nat) (r48:Nat) (H30:zq)=>ztp a9 r42 r43 r44 r45 r46 a10 r47 r48 aLevels H30 fun (r49:Int) (r50:Int) (a11:OA) (r51:Nat) (r52:Nat) (r53:Bool) (H31:zq)=>Al [.int .i64 0,.int .i64 0,.slice none 0 0] H31 fun b7 H32=>isOwn H32 b7∧(∃l,rdN H32 b7 0 3=some l)∧Lt (setN H32 b7 0 [.int .i64 r49,.int .i64 r50,.slice a11 r51 r52]) fun H33=>∃c59:Int,∃c60:Int,∃ap:OA,∃cp:Nat,∃bp:Nat,  rdN H33 b7 0 3=some [.int .i64 c59,.int .i64 c60,.slice ap cp bp]∧∃c62:Int,∃c63:Int,∃dp:OA,∃gp:Nat,∃fp:Nat,  rdN H33 b3 0 3=some [.int .i64 c62,.int .i64 c63,.slice dp gp fp]∧zln c59 c60 ap cp bp c62 c63 dp gp fp H33 fun (r54:Bool) (H34:zq)=>Br (!r54) (K (.bool false) H34) (Br (!(r53==r14)) (K (.bool false) H34) (∃c65:Int,∃c66:Int,∃ip:OA,∃np:Nat,∃jp:Nat,  rdN H34 b6 0 3=some [.int .i64 c65,.int .i64 c66,.slice ip np jp]∧ztr c65 c66 ip np jp 1 H34 fun (r55:Int) (H35:zq)=>Br (decide ((r55:Int)<0)) (K (.bool false) H35) (Br ((r55:Int) != r40) (K (.bool false) H35) (K (.bool true) H35)))))))))))))))):=by kernel_rfl
theorem E_laws_FnExactDropPicture_ok:∀g,FnOkX Tryz.prog (MainCls Tryz.prog) g (E_laws_FnExactDropPicture g):=FnOkX.envOf (by
 intro x hx
 simp only [List.mem_cons,List.not_mem_nil,or_false] at hx
 rcases hx with rfl | rfl | rfl | rfl | rfl | rfl | rfl | rfl | rfl | rfl | rfl | rfl
 ·exact z6q _ _
 ·exact z1ac.le fun _ _ _=>trivial
 ·exact z1hp.le fun _ _ _=>trivial
 ·exact z1af.le fun _ _ _=>trivial
 ·exact z1hs.le fun _ _ _=>trivial
 ·exact z1fq.le fun _ _ _=>trivial
 ·exact z1fg
 ·exact z1hl.le fun _ _ _=>trivial
 ·exact z1aa.le fun _ _ _=>trivial
 ·exact z1gu.le fun _ _ _=>trivial
 ·exact z1fo.le fun _ _ _=>trivial
 ·exact z1fm.le fun _ _ _=>trivial)
theorem laws_FnExactDropPicture_main (ah:OA) (xh dh vb:Nat) (jc ic:Int) (eh:OA) (zh gh:Nat) (aLevels:Int) (H:zq) (K:KT) (h:z3s ah xh dh vb jc ic eh zh gh aLevels H fun (r1:Bool) (H':zq)=>K (.bool r1) H'):z1a Tryz.prog E_laws_FnExactDropPicture Tryz.f3 [.agg #[.slice ah xh dh,.float .f32 vb],.agg #[.int .i64 jc,.int .i64 ic,.slice eh zh gh],.int .i64 aLevels] H K:=by
 rw [laws_FnExactDropPicture_vc]
 obtain ⟨za,ab,h_0,h_1,h_2,h_3,h_4,h_5,h_6,h_7,h_8,h_9,hk⟩:=h
 have oi:=h_0
 obtain rfl:=oi.eqn
 have si:=h_6
 obtain rfl:=si.eqn
 have hl:=laws_FnExactDropPicture_true za vb jc ic ab aLevels h_1 h_2 h_3 h_4 h_5 h_7 h_8 h_9
 have e:z2e za vb jc ic ab aLevels=_:=rfl
 have e:=e.trans (z2z za vb jc ic ab aLevels)
 have e:=hl.symm.trans e
 have g0:=Grow.refl H
 refine Al.intro (fun b_1 H_1 hb_2 hl_3 g_4 o_5=>?_)
 have l_7:=g_4.1
 have g_8:=g0.trans g_4
 have l_9:=g_8.1
 have w800:=o_5.lt
 refine Al.intro (fun b_10 H_2 hb_11 hl_12 g_13 o_14=>?_)
 have l_16:=g_13.1
 have g_17:=g_8.trans g_13
 have l_18:=g_17.1
 have o_19:=o_5.grow g_13
 have w20:=o_19.lt
 have w799:=o_14.lt
 refine ⟨ah,za.length,dh,vb,(o_19.rdN (Nat.le_of_ble_eq_true rfl)).trans rfl,?_⟩
 refine zze ⟨_,(oi.grow g_17),fun  H_3 g_22  =>?_⟩
 have z21:=z17h za vb (1048576:Int)
 have l23:=g_22.1
 have g24:=g_17.trans g_22
 have l25:=g24.1
 have o26:=o_19.grow g_22
 have w27:=o26.lt
 have o28:=o_14.grow g_22
 have w29:=o28.lt
 refine Br.intro (fun c_30=>?_) (fun c_30=>?_)
 ·have e:=e.trans (zw c_30)
  have c_30':=of_decide_eq_true c_30
  first | exact hk _ | (exfalso;cases e;done) | (rw [←e];exact hk _)
 ·have e:=e.trans (zv c_30)
  have c_30':=of_decide_eq_false c_30
  refine ⟨jc,ic,eh,ab.length,gh,(o28.rdN (Nat.le_of_ble_eq_true rfl)).trans rfl,?_⟩
  refine z19y ⟨_,(si.grow g24),fun  H_4 g32  =>?_⟩
  have z31:=fxz_f jc ic ab ((z8e za vb (1048576:Int)))
  have l33:=g32.1
  have g34:=g24.trans g32
  have l35:=g34.1
  have o36:=o26.grow g32
  have w37:=o36.lt
  have o38:=o28.grow g32
  have w39:=o38.lt
  refine Br.intro (fun c_40=>?_) (fun c_40=>?_)
  ·have e:=e.trans (zw c_40)
   have c_40':=of_decide_eq_true c_40
   first | exact hk _ | (exfalso;cases e;done) | (rw [←e];exact hk _)
  ·have e:=e.trans (zv c_40)
   have c_40':=of_decide_eq_false c_40
   refine ⟨jc,ic,eh,ab.length,gh,(o38.rdN (Nat.le_of_ble_eq_true rfl)).trans rfl,?_⟩
   refine ⟨ah,za.length,dh,vb,(o36.rdN (Nat.le_of_ble_eq_true rfl)).trans rfl,?_⟩
   refine zcm ⟨_,(oi.grow g34),ω0,fun a41 n42 e43 H_5 g45 r_44=>?_⟩
   have l46:=g45.1
   have g47:=g34.trans g45
   have l48:=g47.1
   have o49:=o36.grow g45
   have w50:=o49.lt
   have o51:=o38.grow g45
   have w52:=o51.lt
   obtain rfl:=r_44.isL.eqn
   have u53:=r_44.up
   have u54:=r_44.lo
   refine zh9 ⟨_,(si.grow g47),ω0,fun a56 n57 e58 H_6 g60 r59=>?_⟩
   have l61:=g60.1
   have g62:=g47.trans g60
   have l63:=g62.1
   have o64:=o49.grow g60
   have w65:=o64.lt
   have o66:=o51.grow g60
   have w67:=o66.lt
   have r68:=r_44.grow g60
   obtain rfl:=r59.isL.eqn
   have u69:=r59.up
   have u70:=r59.lo
   refine z19s ⟨_,_,r68.isL,r59.isL,ω0,ω0,fun a72 n73 e74 H_7 g77 r75=>?_⟩
   have z76:=zvw za vb jc ic ab aLevels
   have l78:=g77.1
   have g79:=g62.trans g77
   have l80:=g79.1
   have o81:=o64.grow g77
   have w82:=o81.lt
   have o83:=o66.grow g77
   have w84:=o83.lt
   have r85:=r68.grow g77
   have r86:=r59.grow g77
   obtain rfl:=r75.isL.eqn
   have u87:=r75.up
   have u88:=r75.lo
   refine Al.intro (fun b90 H_8 hb_91 hl_92 g93 o94=>?_)
   have l96:=g93.1
   have g97:=g79.trans g93
   have l98:=g97.1
   have o99:=o81.grow g93
   have w100:=o99.lt
   have o101:=o83.grow g93
   have w102:=o101.lt
   have r103:=r85.grow g93
   have r104:=r86.grow g93
   have r105:=r75.grow g93
   have w798:=o94.lt
   refine Lt.setN (n:=3) o94 (Nat.le_of_ble_eq_true rfl) rfl (fun H_9 hl_106 o108 k107=>?_)
   have o108:Own H_9 b90 [.int .i64 ((z2v za vb jc ic ab aLevels).1),.int .i64 ((z2v za vb jc ic ab aLevels).2.1),.slice a72 (((z2v za vb jc ic ab aLevels).2.2.1).length) e74]:=o108
   have l109:=k107.1
   have g110:=g97.keep (b:=b90) ω2 k107
   have l111:=g110.1
   have o112:=o99.keep ω2 k107
   have w113:=o112.lt
   have o114:=o101.keep ω2 k107
   have w115:=o114.lt
   have r116:=r103.keep u53 ω2 k107
   have r117:=r104.keep u69 ω2 k107
   have r118:=r105.keep u87 ω2 k107
   have w797:=o108.lt
   refine ⟨ah,za.length,dh,vb,(o112.rdN (Nat.le_of_ble_eq_true rfl)).trans rfl,?_⟩
   refine zcm ⟨_,(oi.grow g110),ω0,fun a119 n120 e121 H_10 g123 r122=>?_⟩
   have l124:=g123.1
   have g125:=g110.trans g123
   have l126:=g125.1
   have o127:=o112.grow g123
   have w128:=o127.lt
   have o129:=o114.grow g123
   have w130:=o129.lt
   have o131:=o108.grow g123
   have w132:=o131.lt
   have r133:=r116.grow g123
   have r134:=r117.grow g123
   have r135:=r118.grow g123
   obtain rfl:=r122.isL.eqn
   have u136:=r122.up
   have u137:=r122.lo
   refine Al.intro (fun b139 H_11 hb_140 hl_141 g142 o143=>?_)
   have l145:=g142.1
   have g146:=g125.trans g142
   have l147:=g146.1
   have o148:=o127.grow g142
   have w149:=o148.lt
   have o150:=o129.grow g142
   have w151:=o150.lt
   have o152:=o131.grow g142
   have w153:=o152.lt
   have r154:=r133.grow g142
   have r155:=r134.grow g142
   have r156:=r135.grow g142
   have r157:=r122.grow g142
   have w796:=o143.lt
   refine Lt.setN (n:=2) o143 (Nat.le_of_ble_eq_true rfl) rfl (fun H_12 hl_158 o160 k159=>?_)
   have o160:Own H_12 b139 [.slice a119 ((za).length) e121,.float .f32 vb]:=o160
   have l161:=k159.1
   have g162:=g146.keep (b:=b139) ω2 k159
   have l163:=g162.1
   have o164:=o148.keep ω2 k159
   have w165:=o164.lt
   have o166:=o150.keep ω2 k159
   have w167:=o166.lt
   have o168:=o152.keep ω2 k159
   have w169:=o168.lt
   have r170:=r154.keep u53 ω2 k159
   have r171:=r155.keep u69 ω2 k159
   have r172:=r156.keep u87 ω2 k159
   have r173:=r157.keep u136 ω2 k159
   have w795:=o160.lt
   refine ⟨jc,ic,eh,ab.length,gh,(o166.rdN (Nat.le_of_ble_eq_true rfl)).trans rfl,?_⟩
   refine zh9 ⟨_,(si.grow g162),ω0,fun a174 n175 e176 H_13 g178 r177=>?_⟩
   have l179:=g178.1
   have g180:=g162.trans g178
   have l181:=g180.1
   have o182:=o164.grow g178
   have w183:=o182.lt
   have o184:=o166.grow g178
   have w185:=o184.lt
   have o186:=o168.grow g178
   have w187:=o186.lt
   have o188:=o160.grow g178
   have w189:=o188.lt
   have r190:=r170.grow g178
   have r191:=r171.grow g178
   have r192:=r172.grow g178
   have r193:=r173.grow g178
   obtain rfl:=r177.isL.eqn
   have u194:=r177.up
   have u195:=r177.lo
   refine Al.intro (fun b197 H_14 hb_198 hl_199 g200 o201=>?_)
   have l203:=g200.1
   have g204:=g180.trans g200
   have l205:=g204.1
   have o206:=o182.grow g200
   have w207:=o206.lt
   have o208:=o184.grow g200
   have w209:=o208.lt
   have o210:=o186.grow g200
   have w211:=o210.lt
   have o212:=o188.grow g200
   have w213:=o212.lt
   have r214:=r190.grow g200
   have r215:=r191.grow g200
   have r216:=r192.grow g200
   have r217:=r193.grow g200
   have r218:=r177.grow g200
   have w794:=o201.lt
   refine Lt.setN (n:=3) o201 (Nat.le_of_ble_eq_true rfl) rfl (fun H_15 hl_219 o221 k220=>?_)
   have o221:Own H_15 b197 [.int .i64 jc,.int .i64 ic,.slice a174 ((ab).length) e176]:=o221
   have l222:=k220.1
   have g223:=g204.keep (b:=b197) ω2 k220
   have l224:=g223.1
   have o225:=o206.keep ω2 k220
   have w226:=o225.lt
   have o227:=o208.keep ω2 k220
   have w228:=o227.lt
   have o229:=o210.keep ω2 k220
   have w230:=o229.lt
   have o231:=o212.keep ω2 k220
   have w232:=o231.lt
   have r233:=r214.keep u53 ω2 k220
   have r234:=r215.keep u69 ω2 k220
   have r235:=r216.keep u87 ω2 k220
   have r236:=r217.keep u136 ω2 k220
   have r237:=r218.keep u194 ω2 k220
   have w793:=o221.lt
   refine ⟨a119,(za).length,e121,vb,(o231.rdN (Nat.le_of_ble_eq_true rfl)).trans rfl,?_⟩
   refine ⟨jc,ic,a174,(ab).length,e176,(o221.rdN (Nat.le_of_ble_eq_true rfl)).trans rfl,?_⟩
   refine ztq ⟨_,_,r236.isL,r237.isL,ω0,ω0,fun a238 n239 e240 H_16 g243 r241=>?_⟩
   have z242:=zvt za vb jc ic ab aLevels
   have l244:=g243.1
   have g245:=g223.trans g243
   have l246:=g245.1
   have o247:=o225.grow g243
   have w248:=o247.lt
   have o249:=o227.grow g243
   have w250:=o249.lt
   have o251:=o229.grow g243
   have w252:=o251.lt
   have o253:=o231.grow g243
   have w254:=o253.lt
   have o255:=o221.grow g243
   have w256:=o255.lt
   have r257:=r233.grow g243
   have r258:=r234.grow g243
   have r259:=r235.grow g243
   have r260:=r236.grow g243
   have r261:=r237.grow g243
   obtain rfl:=r241.isL.eqn
   have u262:=r241.up
   have u263:=r241.lo
   refine Al.intro (fun b265 H_17 hb_266 hl_267 g268 o269=>?_)
   have l271:=g268.1
   have g272:=g245.trans g268
   have l273:=g272.1
   have o274:=o247.grow g268
   have w275:=o274.lt
   have o276:=o249.grow g268
   have w277:=o276.lt
   have o278:=o251.grow g268
   have w279:=o278.lt
   have o280:=o253.grow g268
   have w281:=o280.lt
   have o282:=o255.grow g268
   have w283:=o282.lt
   have r284:=r257.grow g268
   have r285:=r258.grow g268
   have r286:=r259.grow g268
   have r287:=r260.grow g268
   have r288:=r261.grow g268
   have r289:=r241.grow g268
   have w792:=o269.lt
   refine Lt.setN (n:=3) o269 (Nat.le_of_ble_eq_true rfl) rfl (fun H_18 hl_290 o292 k291=>?_)
   have o292:Own H_18 b265 [.int .i64 ((z1o za vb jc ic ab aLevels).1),.int .i64 ((z1o za vb jc ic ab aLevels).2.1),.slice a238 (((z1o za vb jc ic ab aLevels).2.2.1).length) e240]:=o292
   have l293:=k291.1
   have g294:=g272.keep (b:=b265) ω2 k291
   have l295:=g294.1
   have o296:=o274.keep ω2 k291
   have w297:=o296.lt
   have o298:=o276.keep ω2 k291
   have w299:=o298.lt
   have o300:=o278.keep ω2 k291
   have w301:=o300.lt
   have o302:=o280.keep ω2 k291
   have w303:=o302.lt
   have o304:=o282.keep ω2 k291
   have w305:=o304.lt
   have r306:=r284.keep u53 ω2 k291
   have r307:=r285.keep u69 ω2 k291
   have r308:=r286.keep u87 ω2 k291
   have r309:=r287.keep u136 ω2 k291
   have r310:=r288.keep u194 ω2 k291
   have r311:=r289.keep u262 ω2 k291
   have w791:=o292.lt
   refine ⟨(z1o za vb jc ic ab aLevels).1,(z1o za vb jc ic ab aLevels).2.1,a238,((z1o za vb jc ic ab aLevels).2.2.1).length,e240,(o292.rdN (Nat.le_of_ble_eq_true rfl)).trans rfl,?_⟩
   refine ⟨(z2v za vb jc ic ab aLevels).1,(z2v za vb jc ic ab aLevels).2.1,a72,((z2v za vb jc ic ab aLevels).2.2.1).length,e74,(o300.rdN (Nat.le_of_ble_eq_true rfl)).trans rfl,?_⟩
   refine zh8 ⟨_,_,r311.isL,r308.isL,ω0,ω0,fun  H_19 g312  =>?_⟩
   have l313:=g312.1
   have g314:=g294.trans g312
   have l315:=g314.1
   have o316:=o296.grow g312
   have w317:=o316.lt
   have o318:=o298.grow g312
   have w319:=o318.lt
   have o320:=o300.grow g312
   have w321:=o320.lt
   have o322:=o302.grow g312
   have w323:=o322.lt
   have o324:=o304.grow g312
   have w325:=o324.lt
   have o326:=o292.grow g312
   have w327:=o326.lt
   have r328:=r306.grow g312
   have r329:=r307.grow g312
   have r330:=r308.grow g312
   have r331:=r309.grow g312
   have r332:=r310.grow g312
   have r333:=r311.grow g312
   refine Br.intro (fun c334=>?_) (fun c334=>?_)
   ·have e:=e.trans (zw c334)
    have c_334n:=z1f c334
    first | exact hk _ | (exfalso;cases e;done) | (rw [←e];exact hk _)
   ·have e:=e.trans (zv c334)
    have c_334n:=z1e c334
    refine Br.intro (fun c335=>?_) (fun c335=>?_)
    ·have e:=e.trans (zw c335)
     have c_335n:=z1f c335
     first | exact hk _ | (exfalso;cases e;done) | (rw [←e];exact hk _)
    ·have e:=e.trans (zv c335)
     have c_335n:=z1e c335
     refine ⟨ah,za.length,dh,vb,(o316.rdN (Nat.le_of_ble_eq_true rfl)).trans rfl,?_⟩
     refine ⟨a119,(za).length,e121,vb,(o322.rdN (Nat.le_of_ble_eq_true rfl)).trans rfl,?_⟩
     refine zcm ⟨_,(oi.grow g314),ω0,fun a336 n337 e338 H_20 g340 r339=>?_⟩
     have l341:=g340.1
     have g342:=g314.trans g340
     have l343:=g342.1
     have o344:=o316.grow g340
     have w345:=o344.lt
     have o346:=o318.grow g340
     have w347:=o346.lt
     have o348:=o320.grow g340
     have w349:=o348.lt
     have o350:=o322.grow g340
     have w351:=o350.lt
     have o352:=o324.grow g340
     have w353:=o352.lt
     have o354:=o326.grow g340
     have w355:=o354.lt
     have r356:=r328.grow g340
     have r357:=r329.grow g340
     have r358:=r330.grow g340
     have r359:=r331.grow g340
     have r360:=r332.grow g340
     have r361:=r333.grow g340
     obtain rfl:=r339.isL.eqn
     have u362:=r339.up
     have u363:=r339.lo
     refine zzd ⟨_,_,r359.isL,r339.isL,ω0,ω0,fun  H_21 g365  =>?_⟩
     have l366:=g365.1
     have g367:=g342.trans g365
     have l368:=g367.1
     have o369:=o344.grow g365
     have w370:=o369.lt
     have o371:=o346.grow g365
     have w372:=o371.lt
     have o373:=o348.grow g365
     have w374:=o373.lt
     have o375:=o350.grow g365
     have w376:=o375.lt
     have o377:=o352.grow g365
     have w378:=o377.lt
     have o379:=o354.grow g365
     have w380:=o379.lt
     have r381:=r356.grow g365
     have r382:=r357.grow g365
     have r383:=r358.grow g365
     have r384:=r359.grow g365
     have r385:=r360.grow g365
     have r386:=r361.grow g365
     have r387:=r339.grow g365
     refine Br.intro (fun c388=>?_) (fun c388=>?_)
     ·have e:=e.trans (zw c388)
      have c_388n:=z1f c388
      first | exact hk _ | (exfalso;cases e;done) | (rw [←e];exact hk _)
     ·have e:=e.trans (zv c388)
      have c_388n:=z1e c388
      refine ⟨jc,ic,eh,ab.length,gh,(o371.rdN (Nat.le_of_ble_eq_true rfl)).trans rfl,?_⟩
      refine ⟨jc,ic,a174,(ab).length,e176,(o377.rdN (Nat.le_of_ble_eq_true rfl)).trans rfl,?_⟩
      refine zh9 ⟨_,(si.grow g367),ω0,fun a389 n390 e391 H_22 g393 r392=>?_⟩
      have l394:=g393.1
      have g395:=g367.trans g393
      have l396:=g395.1
      have o397:=o369.grow g393
      have w398:=o397.lt
      have o399:=o371.grow g393
      have w400:=o399.lt
      have o401:=o373.grow g393
      have w402:=o401.lt
      have o403:=o375.grow g393
      have w404:=o403.lt
      have o405:=o377.grow g393
      have w406:=o405.lt
      have o407:=o379.grow g393
      have w408:=o407.lt
      have r409:=r381.grow g393
      have r410:=r382.grow g393
      have r411:=r383.grow g393
      have r412:=r384.grow g393
      have r413:=r385.grow g393
      have r414:=r386.grow g393
      have r415:=r387.grow g393
      obtain rfl:=r392.isL.eqn
      have u416:=r392.up
      have u417:=r392.lo
      refine zh8 ⟨_,_,r413.isL,r392.isL,ω0,ω0,fun  H_23 g419  =>?_⟩
      have l420:=g419.1
      have g421:=g395.trans g419
      have l422:=g421.1
      have o423:=o397.grow g419
      have w424:=o423.lt
      have o425:=o399.grow g419
      have w426:=o425.lt
      have o427:=o401.grow g419
      have w428:=o427.lt
      have o429:=o403.grow g419
      have w430:=o429.lt
      have o431:=o405.grow g419
      have w432:=o431.lt
      have o433:=o407.grow g419
      have w434:=o433.lt
      have r435:=r409.grow g419
      have r436:=r410.grow g419
      have r437:=r411.grow g419
      have r438:=r412.grow g419
      have r439:=r413.grow g419
      have r440:=r414.grow g419
      have r441:=r415.grow g419
      have r442:=r392.grow g419
      refine Br.intro (fun c443=>?_) (fun c443=>?_)
      ·have e:=e.trans (zw c443)
       have c_443n:=z1f c443
       first | exact hk _ | (exfalso;cases e;done) | (rw [←e];exact hk _)
      ·have e:=e.trans (zv c443)
       have c_443n:=z1e c443
       refine ⟨a119,(za).length,e121,vb,(o429.rdN (Nat.le_of_ble_eq_true rfl)).trans rfl,?_⟩
       refine z19x ⟨_,_,r438,ω0,(fun H_24 k444 o445=>?_)⟩
       have l446:=k444.1
       have g447:=g421.keepA (fun x hx=>by have:=u137 x hx;omega) k444
       have l448:=g447.1
       have o449:=o423.keepA (fun x hx=>by have:=u137 x hx;have:=u136 x hx;omega) k444
       have w450:=o449.lt
       have o451:=o425.keepA (fun x hx=>by have:=u137 x hx;have:=u136 x hx;omega) k444
       have w452:=o451.lt
       have o453:=o427.keepA (fun x hx=>by have:=u137 x hx;have:=u136 x hx;omega) k444
       have w454:=o453.lt
       have o455:=o429.keepA (fun x hx=>by have:=u137 x hx;have:=u136 x hx;omega) k444
       have w456:=o455.lt
       have o457:=o431.keepA (fun x hx=>by have:=u137 x hx;have:=u136 x hx;omega) k444
       have w458:=o457.lt
       have o459:=o433.keepA (fun x hx=>by have:=u137 x hx;have:=u136 x hx;omega) k444
       have w460:=o459.lt
       have r461:=r435.keepA (fun x y hx hy=>by have:=u137 x hx;have:=u136 x hx;have:=u54 y hy;have:=u53 y hy;omega) k444
       have r462:=r436.keepA (fun x y hx hy=>by have:=u137 x hx;have:=u136 x hx;have:=u70 y hy;have:=u69 y hy;omega) k444
       have r463:=r437.keepA (fun x y hx hy=>by have:=u137 x hx;have:=u136 x hx;have:=u88 y hy;have:=u87 y hy;omega) k444
       have r464:=r439.keepA (fun x y hx hy=>by have:=u137 x hx;have:=u136 x hx;have:=u195 y hy;have:=u194 y hy;omega) k444
       have r465:=r440.keepA (fun x y hx hy=>by have:=u137 x hx;have:=u136 x hx;have:=u263 y hy;have:=u262 y hy;omega) k444
       have r466:=r441.keepA (fun x y hx hy=>by have:=u137 x hx;have:=u136 x hx;have:=u363 y hy;have:=u362 y hy;omega) k444
       have r467:=r442.keepA (fun x y hx hy=>by have:=u137 x hx;have:=u136 x hx;have:=u417 y hy;have:=u416 y hy;omega) k444
       refine ⟨jc,ic,a174,(ab).length,e176,(o457.rdN (Nat.le_of_ble_eq_true rfl)).trans rfl,?_⟩
       refine ztu ⟨_,_,r464,ω0,(fun H_25 k468 o469=>?_)⟩
       have l470:=k468.1
       have g471:=g447.keepA (fun x hx=>by have:=u195 x hx;omega) k468
       have l472:=g471.1
       have o473:=o449.keepA (fun x hx=>by have:=u195 x hx;have:=u194 x hx;omega) k468
       have w474:=o473.lt
       have o475:=o451.keepA (fun x hx=>by have:=u195 x hx;have:=u194 x hx;omega) k468
       have w476:=o475.lt
       have o477:=o453.keepA (fun x hx=>by have:=u195 x hx;have:=u194 x hx;omega) k468
       have w478:=o477.lt
       have o479:=o455.keepA (fun x hx=>by have:=u195 x hx;have:=u194 x hx;omega) k468
       have w480:=o479.lt
       have o481:=o457.keepA (fun x hx=>by have:=u195 x hx;have:=u194 x hx;omega) k468
       have w482:=o481.lt
       have o483:=o459.keepA (fun x hx=>by have:=u195 x hx;have:=u194 x hx;omega) k468
       have w484:=o483.lt
       have r485:=r461.keepA (fun x y hx hy=>by have:=u195 x hx;have:=u194 x hx;have:=u54 y hy;have:=u53 y hy;omega) k468
       have r486:=r462.keepA (fun x y hx hy=>by have:=u195 x hx;have:=u194 x hx;have:=u70 y hy;have:=u69 y hy;omega) k468
       have r487:=r463.keepA (fun x y hx hy=>by have:=u195 x hx;have:=u194 x hx;have:=u88 y hy;have:=u87 y hy;omega) k468
       have r488:=o445.keepA (fun x y hx hy=>by have:=u195 x hx;have:=u194 x hx;have:=u137 y hy;have:=u136 y hy;omega) k468
       have r489:=r465.keepA (fun x y hx hy=>by have:=u195 x hx;have:=u194 x hx;have:=u263 y hy;have:=u262 y hy;omega) k468
       have r490:=r466.keepA (fun x y hx hy=>by have:=u195 x hx;have:=u194 x hx;have:=u363 y hy;have:=u362 y hy;omega) k468
       have r491:=r467.keepA (fun x y hx hy=>by have:=u195 x hx;have:=u194 x hx;have:=u417 y hy;have:=u416 y hy;omega) k468
       refine Br.intro (fun c492=>?_) (fun c492=>?_)
       ·have e:=e.trans (zw c492)
        have c_492':=of_decide_eq_true c492
        first | exact hk _ | (exfalso;cases e;done) | (rw [←e];exact hk _)
       ·have e:=e.trans (zv c492)
        have c_492':=of_decide_eq_false c492
        refine ⟨(z1o za vb jc ic ab aLevels).1,(z1o za vb jc ic ab aLevels).2.1,a238,((z1o za vb jc ic ab aLevels).2.2.1).length,e240,(o483.rdN (Nat.le_of_ble_eq_true rfl)).trans rfl,?_⟩
        refine ⟨(z2v za vb jc ic ab aLevels).1,(z2v za vb jc ic ab aLevels).2.1,a72,((z2v za vb jc ic ab aLevels).2.2.1).length,e74,(o477.rdN (Nat.le_of_ble_eq_true rfl)).trans rfl,?_⟩
        refine zh8 ⟨_,_,r489.isL,r487.isL,ω0,ω0,fun  H_26 g493  =>?_⟩
        have l494:=g493.1
        have g495:=g471.trans g493
        have l496:=g495.1
        have o497:=o473.grow g493
        have w498:=o497.lt
        have o499:=o475.grow g493
        have w500:=o499.lt
        have o501:=o477.grow g493
        have w502:=o501.lt
        have o503:=o479.grow g493
        have w504:=o503.lt
        have o505:=o481.grow g493
        have w506:=o505.lt
        have o507:=o483.grow g493
        have w508:=o507.lt
        have r509:=r485.grow g493
        have r510:=r486.grow g493
        have r511:=r487.grow g493
        have r512:=r488.grow g493
        have r513:=o469.grow g493
        have r514:=r489.grow g493
        have r515:=r490.grow g493
        have r516:=r491.grow g493
        refine Br.intro (fun c517=>?_) (fun c517=>?_)
        ·have e:=e.trans (zw c517)
         have c_517n:=z1f c517
         first | exact hk _ | (exfalso;cases e;done) | (rw [←e];exact hk _)
        ·have e:=e.trans (zv c517)
         have c_517n:=z1e c517
         refine Br.intro (fun c518=>?_) (fun c518=>?_)
         ·have e:=e.trans (zw c518)
          have c_518n:=z1f c518
          first | exact hk _ | (exfalso;cases e;done) | (rw [←e];exact hk _)
         ·have e:=e.trans (zv c518)
          have c_518n:=z1e c518
          refine ⟨(z1o za vb jc ic ab aLevels).1,(z1o za vb jc ic ab aLevels).2.1,a238,((z1o za vb jc ic ab aLevels).2.2.1).length,e240,(o507.rdN (Nat.le_of_ble_eq_true rfl)).trans rfl,?_⟩
          refine ztu ⟨_,_,r514,ω0,(fun H_27 k519 o520=>?_)⟩
          have l521:=k519.1
          have g522:=g495.keepA (fun x hx=>by have:=u263 x hx;omega) k519
          have l523:=g522.1
          have o524:=o497.keepA (fun x hx=>by have:=u263 x hx;have:=u262 x hx;omega) k519
          have w525:=o524.lt
          have o526:=o499.keepA (fun x hx=>by have:=u263 x hx;have:=u262 x hx;omega) k519
          have w527:=o526.lt
          have o528:=o501.keepA (fun x hx=>by have:=u263 x hx;have:=u262 x hx;omega) k519
          have w529:=o528.lt
          have o530:=o503.keepA (fun x hx=>by have:=u263 x hx;have:=u262 x hx;omega) k519
          have w531:=o530.lt
          have o532:=o505.keepA (fun x hx=>by have:=u263 x hx;have:=u262 x hx;omega) k519
          have w533:=o532.lt
          have o534:=o507.keepA (fun x hx=>by have:=u263 x hx;have:=u262 x hx;omega) k519
          have w535:=o534.lt
          have r536:=r509.keepA (fun x y hx hy=>by have:=u263 x hx;have:=u262 x hx;have:=u54 y hy;have:=u53 y hy;omega) k519
          have r537:=r510.keepA (fun x y hx hy=>by have:=u263 x hx;have:=u262 x hx;have:=u70 y hy;have:=u69 y hy;omega) k519
          have r538:=r511.keepA (fun x y hx hy=>by have:=u263 x hx;have:=u262 x hx;have:=u88 y hy;have:=u87 y hy;omega) k519
          have r539:=r512.keepA (fun x y hx hy=>by have:=u263 x hx;have:=u262 x hx;have:=u137 y hy;have:=u136 y hy;omega) k519
          have r540:=r513.keepA (fun x y hx hy=>by have:=u263 x hx;have:=u262 x hx;have:=u195 y hy;have:=u194 y hy;omega) k519
          have r541:=r515.keepA (fun x y hx hy=>by have:=u263 x hx;have:=u262 x hx;have:=u363 y hy;have:=u362 y hy;omega) k519
          have r542:=r516.keepA (fun x y hx hy=>by have:=u263 x hx;have:=u262 x hx;have:=u417 y hy;have:=u416 y hy;omega) k519
          refine ⟨(z1o za vb jc ic ab aLevels).1,(z1o za vb jc ic ab aLevels).2.1,a238,((z1o za vb jc ic ab aLevels).2.2.1).length,e240,(o534.rdN (Nat.le_of_ble_eq_true rfl)).trans rfl,?_⟩
          refine zts ⟨_,o520.isL,ω0,fun  H_28 g543  =>?_⟩
          have l544:=g543.1
          have g545:=g522.trans g543
          have l546:=g545.1
          have o547:=o524.grow g543
          have w548:=o547.lt
          have o549:=o526.grow g543
          have w550:=o549.lt
          have o551:=o528.grow g543
          have w552:=o551.lt
          have o553:=o530.grow g543
          have w554:=o553.lt
          have o555:=o532.grow g543
          have w556:=o555.lt
          have o557:=o534.grow g543
          have w558:=o557.lt
          have r559:=r536.grow g543
          have r560:=r537.grow g543
          have r561:=r538.grow g543
          have r562:=r539.grow g543
          have r563:=r540.grow g543
          have r564:=o520.grow g543
          have r565:=r541.grow g543
          have r566:=r542.grow g543
          refine Br.intro (fun c567=>?_) (fun c567=>?_)
          ·have e:=e.trans (zw c567)
           have c_567':=of_decide_eq_true c567
           first | exact hk _ | (exfalso;cases e;done) | (rw [←e];exact hk _)
          ·have e:=e.trans (zv c567)
           have c_567':=of_decide_eq_false c567
           refine Br.intro (fun c568=>?_) (fun c568=>?_)
           ·have e:=e.trans (zw c568)
            have c_568':=zmk c568
            first | exact hk _ | (exfalso;cases e;done) | (rw [←e];exact hk _)
           ·have e:=e.trans (zv c568)
            have c_568':=zmj c568
            refine ⟨jc,ic,eh,ab.length,gh,(o549.rdN (Nat.le_of_ble_eq_true rfl)).trans rfl,?_⟩
            refine ⟨ah,za.length,dh,vb,(o547.rdN (Nat.le_of_ble_eq_true rfl)).trans rfl,?_⟩
            refine zcm ⟨_,(oi.grow g545),ω0,fun a569 n570 e571 H_29 g573 r572=>?_⟩
            have l574:=g573.1
            have g575:=g545.trans g573
            have l576:=g575.1
            have o577:=o547.grow g573
            have w578:=o577.lt
            have o579:=o549.grow g573
            have w580:=o579.lt
            have o581:=o551.grow g573
            have w582:=o581.lt
            have o583:=o553.grow g573
            have w584:=o583.lt
            have o585:=o555.grow g573
            have w586:=o585.lt
            have o587:=o557.grow g573
            have w588:=o587.lt
            have r589:=r559.grow g573
            have r590:=r560.grow g573
            have r591:=r561.grow g573
            have r592:=r562.grow g573
            have r593:=r563.grow g573
            have r594:=r564.grow g573
            have r595:=r565.grow g573
            have r596:=r566.grow g573
            obtain rfl:=r572.isL.eqn
            have u597:=r572.up
            have u598:=r572.lo
            refine zh9 ⟨_,(si.grow g575),ω0,fun a600 n601 e602 H_30 g604 r603=>?_⟩
            have l605:=g604.1
            have g606:=g575.trans g604
            have l607:=g606.1
            have o608:=o577.grow g604
            have w609:=o608.lt
            have o610:=o579.grow g604
            have w611:=o610.lt
            have o612:=o581.grow g604
            have w613:=o612.lt
            have o614:=o583.grow g604
            have w615:=o614.lt
            have o616:=o585.grow g604
            have w617:=o616.lt
            have o618:=o587.grow g604
            have w619:=o618.lt
            have r620:=r589.grow g604
            have r621:=r590.grow g604
            have r622:=r591.grow g604
            have r623:=r592.grow g604
            have r624:=r593.grow g604
            have r625:=r594.grow g604
            have r626:=r595.grow g604
            have r627:=r596.grow g604
            have r628:=r572.grow g604
            obtain rfl:=r603.isL.eqn
            have u629:=r603.up
            have u630:=r603.lo
            refine ztq ⟨_,_,r628.isL,r603.isL,ω0,ω0,fun a632 n633 e634 H_31 g637 r635=>?_⟩
            have z636:=zvt za vb jc ic ab aLevels
            have l638:=g637.1
            have g639:=g606.trans g637
            have l640:=g639.1
            have o641:=o608.grow g637
            have w642:=o641.lt
            have o643:=o610.grow g637
            have w644:=o643.lt
            have o645:=o612.grow g637
            have w646:=o645.lt
            have o647:=o614.grow g637
            have w648:=o647.lt
            have o649:=o616.grow g637
            have w650:=o649.lt
            have o651:=o618.grow g637
            have w652:=o651.lt
            have r653:=r620.grow g637
            have r654:=r621.grow g637
            have r655:=r622.grow g637
            have r656:=r623.grow g637
            have r657:=r624.grow g637
            have r658:=r625.grow g637
            have r659:=r626.grow g637
            have r660:=r627.grow g637
            have r661:=r628.grow g637
            have r662:=r603.grow g637
            obtain rfl:=r635.isL.eqn
            have u663:=r635.up
            have u664:=r635.lo
            refine Al.intro (fun b666 H_32 hb_667 hl_668 g669 o670=>?_)
            have l672:=g669.1
            have g673:=g639.trans g669
            have l674:=g673.1
            have o675:=o641.grow g669
            have w676:=o675.lt
            have o677:=o643.grow g669
            have w678:=o677.lt
            have o679:=o645.grow g669
            have w680:=o679.lt
            have o681:=o647.grow g669
            have w682:=o681.lt
            have o683:=o649.grow g669
            have w684:=o683.lt
            have o685:=o651.grow g669
            have w686:=o685.lt
            have r687:=r653.grow g669
            have r688:=r654.grow g669
            have r689:=r655.grow g669
            have r690:=r656.grow g669
            have r691:=r657.grow g669
            have r692:=r658.grow g669
            have r693:=r659.grow g669
            have r694:=r660.grow g669
            have r695:=r661.grow g669
            have r696:=r662.grow g669
            have r697:=r635.grow g669
            have w790:=o670.lt
            refine Lt.setN (n:=3) o670 (Nat.le_of_ble_eq_true rfl) rfl (fun H_33 hl_698 o700 k699=>?_)
            have o700:Own H_33 b666 [.int .i64 ((z1o za vb jc ic ab aLevels).1),.int .i64 ((z1o za vb jc ic ab aLevels).2.1),.slice a632 (((z1o za vb jc ic ab aLevels).2.2.1).length) e634]:=o700
            have l701:=k699.1
            have g702:=g673.keep (b:=b666) ω2 k699
            have l703:=g702.1
            have o704:=o675.keep ω2 k699
            have w705:=o704.lt
            have o706:=o677.keep ω2 k699
            have w707:=o706.lt
            have o708:=o679.keep ω2 k699
            have w709:=o708.lt
            have o710:=o681.keep ω2 k699
            have w711:=o710.lt
            have o712:=o683.keep ω2 k699
            have w713:=o712.lt
            have o714:=o685.keep ω2 k699
            have w715:=o714.lt
            have r716:=r687.keep u53 ω2 k699
            have r717:=r688.keep u69 ω2 k699
            have r718:=r689.keep u87 ω2 k699
            have r719:=r690.keep u136 ω2 k699
            have r720:=r691.keep u194 ω2 k699
            have r721:=r692.keep u262 ω2 k699
            have r722:=r693.keep u362 ω2 k699
            have r723:=r694.keep u416 ω2 k699
            have r724:=r695.keep u597 ω2 k699
            have r725:=r696.keep u629 ω2 k699
            have r726:=r697.keep u663 ω2 k699
            have w789:=o700.lt
            refine ⟨(z1o za vb jc ic ab aLevels).1,(z1o za vb jc ic ab aLevels).2.1,a632,((z1o za vb jc ic ab aLevels).2.2.1).length,e634,(o700.rdN (Nat.le_of_ble_eq_true rfl)).trans rfl,?_⟩
            refine ⟨(z2v za vb jc ic ab aLevels).1,(z2v za vb jc ic ab aLevels).2.1,a72,((z2v za vb jc ic ab aLevels).2.2.1).length,e74,(o708.rdN (Nat.le_of_ble_eq_true rfl)).trans rfl,?_⟩
            refine zh8 ⟨_,_,r726.isL,r718.isL,ω0,ω0,fun  H_34 g727  =>?_⟩
            have l728:=g727.1
            have g729:=g702.trans g727
            have l730:=g729.1
            have o731:=o704.grow g727
            have w732:=o731.lt
            have o733:=o706.grow g727
            have w734:=o733.lt
            have o735:=o708.grow g727
            have w736:=o735.lt
            have o737:=o710.grow g727
            have w738:=o737.lt
            have o739:=o712.grow g727
            have w740:=o739.lt
            have o741:=o714.grow g727
            have w742:=o741.lt
            have o743:=o700.grow g727
            have w744:=o743.lt
            have r745:=r716.grow g727
            have r746:=r717.grow g727
            have r747:=r718.grow g727
            have r748:=r719.grow g727
            have r749:=r720.grow g727
            have r750:=r721.grow g727
            have r751:=r722.grow g727
            have r752:=r723.grow g727
            have r753:=r724.grow g727
            have r754:=r725.grow g727
            have r755:=r726.grow g727
            refine Br.intro (fun c756=>?_) (fun c756=>?_)
            ·have e:=e.trans (zw c756)
             have c_756n:=z1f c756
             first | exact hk _ | (exfalso;cases e;done) | (rw [←e];exact hk _)
            ·have e:=e.trans (zv c756)
             have c_756n:=z1e c756
             refine Br.intro (fun c757=>?_) (fun c757=>?_)
             ·have e:=e.trans (zw c757)
              have c_757n:=z1f c757
              first | exact hk _ | (exfalso;cases e;done) | (rw [←e];exact hk _)
             ·have e:=e.trans (zv c757)
              have c_757n:=z1e c757
              refine ⟨(z1o za vb jc ic ab aLevels).1,(z1o za vb jc ic ab aLevels).2.1,a238,((z1o za vb jc ic ab aLevels).2.2.1).length,e240,(o741.rdN (Nat.le_of_ble_eq_true rfl)).trans rfl,?_⟩
              refine zts ⟨_,r750.isL,ω0,fun  H_35 g758  =>?_⟩
              have l759:=g758.1
              have g760:=g729.trans g758
              have l761:=g760.1
              have o762:=o731.grow g758
              have w763:=o762.lt
              have o764:=o733.grow g758
              have w765:=o764.lt
              have o766:=o735.grow g758
              have w767:=o766.lt
              have o768:=o737.grow g758
              have w769:=o768.lt
              have o770:=o739.grow g758
              have w771:=o770.lt
              have o772:=o741.grow g758
              have w773:=o772.lt
              have o774:=o743.grow g758
              have w775:=o774.lt
              have r776:=r745.grow g758
              have r777:=r746.grow g758
              have r778:=r747.grow g758
              have r779:=r748.grow g758
              have r780:=r749.grow g758
              have r781:=r750.grow g758
              have r782:=r751.grow g758
              have r783:=r752.grow g758
              have r784:=r753.grow g758
              have r785:=r754.grow g758
              have r786:=r755.grow g758
              refine Br.intro (fun c787=>?_) (fun c787=>?_)
              ·have e:=e.trans (zw c787)
               have c_787':=of_decide_eq_true c787
               first | exact hk _ | (exfalso;cases e;done) | (rw [←e];exact hk _)
              ·have e:=e.trans (zv c787)
               have c_787':=of_decide_eq_false c787
               refine Br.intro (fun c788=>?_) (fun c788=>?_)
               ·have e:=e.trans (zw c788)
                have c_788':=zmk c788
                first | exact hk _ | (exfalso;cases e;done) | (rw [←e];exact hk _)
               ·have e:=e.trans (zv c788)
                have c_788':=zmj c788
                first | exact hk _ | (exfalso;cases e;done) | (rw [←e];exact hk _)
theorem laws_FnExactDropPicture_ok:FnOkX Tryz.prog (MainCls Tryz.prog) 3 z6s:=FnOkX.bodyF (hLt:=fun _=>z3y) mix_ok E_laws_FnExactDropPicture_ok Tryz.func3 rfl ω9 ω9 fun args H=>by
 unfold z3r
 split
 ·refine ⟨?_,?_,?_,?_,fun K hk=>laws_FnExactDropPicture_main _ _ _ _ _ _ _ _ _ _ H K hk⟩
  ·intro K K' h hk;obtain ⟨za,ab,h_0,h_1,h_2,h_3,h_4,h_5,h_6,h_7,h_8,h_9,k⟩:=hk;exact ⟨za,ab,h_0,h_1,h_2,h_3,h_4,h_5,h_6,h_7,h_8,h_9,(fun H'=>h _ _ (k H'))⟩
  ·nofun
  ·intro K hk;obtain ⟨za,ab,h_0,h_1,h_2,h_3,h_4,h_5,h_6,h_7,h_8,h_9,k⟩:=hk;exact ⟨_,_,k []⟩
  ·nofun
 ·exact Nice.no
end Go.Proofs.YthheoefadijhdaaGreat.Ai
