/- What functions of the program come to on the abstract machine, and that they do so; printed by a program of mine around proofs of mine. -/
import Derived.Test.YthheoefadijhdaaGreatFFnExactThumbOf2
set_option linter.unusedVariables false
set_option linter.unusedSimpArgs false
set_option linter.defProp false
set_option maxRecDepth 100000
set_option maxHeartbeats 1000000
namespace Go.Proofs.YthheoefadijhdaaGreat.Ai
open Go
attribute [local irreducible] z6i zw


def zc6 (rows:Int→Int→LN→PicT) (W Hi:Int) (l:LN):PicT:=z5y (rows W Hi l) fun a b c=>z6n rows a b c
theorem f6z_len (rows:Int→Int→LN→PicT) (hr:∀W Hi l,(rows W Hi l).2.2.1.length≤1024) (W Hi:Int) (l:LN):(zc6 rows W Hi l).2.2.1.length≤1024:=by
 unfold zc6
 generalize rows W Hi l=q
 unfold z5y
 cases q.2.2.2 with
 | false=>exact Nat.zero_le _
 | true=>exact z12i rows _ _ _
def zpz:Env:=envOf [(63,S_f5z),(57,znq)]
def T_f6z (cd te:Int) (df:OA) (rf mf cap0:Nat) (H:zp) (K:Int→Int→OA→Nat→Nat→Bool→zp→Prop):Prop:=
 ∃(l:LN) (f:Fn) (cx cy:Array Value) (rows:Int→Int→LN→PicT),IsL fF H df rf l∧l.length<1073741824∧rdC H cap0 0=some (.func f cx cy)∧(∀W Hi l,(rows W Hi l).2.2.1.length≤1024)∧zct zpz (.func f cx cy) H rows∧zct zce (.func f cx cy) H rows∧
  (∀(od:OA) (xd vd:Nat),∀H':zp,Grow H H'→OwnS fF H' H.length od xd vd ((zc6 rows cd te l).2.2.1)→K ((zc6 rows cd te l).1) ((zc6 rows cd te l).2.1) od xd vd ((zc6 rows cd te l).2.2.2) H')
def F_f6z (args:List Value) (H:zp):(Value→zp→Prop)→Prop:=match args with
 | [.agg ⟨[.int .i64 cd,.int .i64 te,.slice df rf mf]⟩,.pointer (some ⟨cap0,0,none⟩)]=>fun K=>T_f6z cd te df rf mf cap0 H fun (tc:Int) (nc:Int) (ma:OA) (sa:Nat) (oa:Nat) (r2:Bool) (H':zp)=>K (.tuple #[.agg #[.int .i64 tc,.int .i64 nc,.slice ma sa oa],.bool r2]) H'
 | _=>fun _=>False
def S_f6z:FSpec:={F:=F_f6z,quiet:=false,tame:=false}
theorem f6z_vc (cd te:Int) (df:OA) (rf mf cap0:Nat) (H:zp) (K:KT):zw Tryz.prog zpz Tryz.f64 [.agg #[.int .i64 cd,.int .i64 te,.slice df rf mf],.pointer (some ⟨cap0,0,none⟩)] H K=
 (Al [.int .i64 cd,.int .i64 te,.slice df rf mf] H fun b1 H1=>Al [.int .i64 0,.int .i64 0,.slice none 0 0] H1 fun b2 H2=>∃x1:Value,  rdC H2 cap0 0=some (x1)∧∃(c1 c2:Int),∃vg:OA,∃(xg wg:Nat),  rdN H2 b1 0 3=some [.int .i64 c1,.int .i64 c2,.slice vg xg wg]∧zff zpz x1 [.agg #[.int .i64 c1,.int .i64 c2,.slice vg xg wg]] H2 fun (w1:Value) (H3:zp)=>extV w1 0 fun (w2:Value)=>extV w1 1 fun (w3:Value)=>stN 3 w2 H3 b1 0 fun (H4:zp)=>unK .not w3 fun (w4:Value)=>zac w4 fun (t1:Bool)=>Br t1 (isOwn H4 b2∧(∃l,rdN H4 b2 0 3=some l)∧Lt (setN H4 b2 0 [.int .i64 0,.int .i64 0,.slice none 0 0]) fun H5=>∃(c4 c5:Int),∃eh:OA,∃(gh fh:Nat),  rdN H5 b2 0 3=some [.int .i64 c4,.int .i64 c5,.slice eh gh fh]∧K (.tuple #[.agg #[.int .i64 c4,.int .i64 c5,.slice eh gh fh],.bool false]) H5) (∃(c7 c8:Int),∃sh:OA,∃(uh th:Nat),  rdN H4 b1 0 3=some [.int .i64 c7,.int .i64 c8,.slice sh uh th]∧∃x2:Value,  rdC H4 cap0 0=some (x2)∧znq.F [.agg #[.int .i64 c7,.int .i64 c8,.slice sh uh th],x2] H4 fun (w5:Value) (H6:zp)=>extV w5 0 fun (w6:Value)=>extV w5 1 fun (w7:Value)=>stN 3 w6 H6 b2 0 fun (H7:zp)=>∃(c10 c11:Int),∃ri:OA,∃(ti si:Nat),  rdN H7 b2 0 3=some [.int .i64 c10,.int .i64 c11,.slice ri ti si]∧K (.tuple #[.agg #[.int .i64 c10,.int .i64 c11,.slice ri ti si],w7]) H7)):=by kernel_rfl
theorem zzb:∀g,FnOkX Tryz.prog (MainCls Tryz.prog) g (zpz g):=FnOkX.envOf (by
 intro x hx
 simp only [List.mem_cons,List.not_mem_nil,or_false] at hx
 rcases hx with rfl | rfl
 ·exact f5z_ok
 ·exact z1ck)
theorem zyw {W Hi:Int} {a:OA} {n e:Nat} {f:Fn} {x y:Array Value} {H:zp} {K:KT}:znq.F [.agg #[.int .i64 W,.int .i64 Hi,.slice a n e],.func f x y] H K=
  zo4 W Hi a n e f x y H (fun r1 r2 a n e r H'=>K (.tuple #[.agg #[.int .i64 r1,.int .i64 r2,.slice a n e],.bool r]) H'):=rfl
theorem f6z_main (cd te:Int) (df:OA) (rf mf cap0:Nat) (H:zp) (K:KT) (h:T_f6z cd te df rf mf cap0 H fun (tc:Int) (nc:Int) (ma:OA) (sa:Nat) (oa:Nat) (r2:Bool) (H':zp)=>K (.tuple #[.agg #[.int .i64 tc,.int .i64 nc,.slice ma sa oa],.bool r2]) H'):zw Tryz.prog zpz Tryz.f64 [.agg #[.int .i64 cd,.int .i64 te,.slice df rf mf],.pointer (some ⟨cap0,0,none⟩)] H K:=by
 rw [f6z_vc]
 obtain ⟨l,f,cx,cy,rows,il,bl,hc,hlen,h1,h2,hk⟩:=h
 obtain rfl:=il.eqn
 have ep:zc6 rows cd te l=z5y (rows cd te l) fun a b c=>z6n rows a b c:=rfl
 rw [ep] at hk
 refine Al.intro fun b1 H1 e1 l1 g1 o1=>Al.intro fun b2 H2 e2 l2 g2 o2=>?_
 have G2:Grow H H2:=g1.trans g2
 have cap:∀H',Grow H H'→rdC H' cap0 0=some (.func f cx cy):=fun H' g=>zps g hc
 refine ⟨.func f cx cy,cap H2 G2,cd,te,df,l.length,mf,((o1.grow g2).rdN (nbl rfl)).trans rfl,?_⟩
 refine h1 cd te df l.length mf l H2 G2 (il.grow G2) bl _ fun a n e H3 g3 w3=>?_
 rw [ext0,ext1,zit]
 have hl:=hlen cd te l
 generalize rows cd te l=q at *
 refine Lt.setN ((o1.grow g2).grow g3) (n:=3) (nbl rfl) rfl fun H4 l4 o4 k4=>?_
 rw [zz0]
 have up3:=w3.up
 have lo3:=w3.lo
 have s3:=w3.keepA (fun x y hx hy=>by cases hx;have:=lo3 y hy;have:=o1.lt;show b1≠_;omega) (OwnS.keep1 k4)
 have c2:=(o2.grow g3).keep (b':=b1) ω2 k4
 have G4:Grow H H4:=(G2.trans g3).keep ω2 k4
 refine Br.intro (fun hp=>?_) (fun hp=>?_)
 ·refine Lt.setN c2 (n:=3) ω22 rfl fun H5 l5 q5 k5=>⟨0,0,none,0,0,(q5.rdN (nbl rfl)).trans rfl,?_⟩
  rw [z3u (z1g hp)] at hk
  exact hk none 0 0 H5 (G4.keep ω2 k5) (OwnS.nil _ _ _ _)
 rw [z1w (z1d hp)] at hk
 refine ⟨q.1,q.2.1,a,n,e,(o4.rdN (nbl rfl)).trans rfl,.func f cx cy,cap H4 G4,?_⟩
 rw [zyw]
 refine z10t ⟨q.2.2.1,rows,s3.isL,by omega,hlen,h2.grow G4,fun a6 n6 e6 H6 g6 w6=>?_⟩
 rw [ext0,ext1,zit]
 refine Lt.setN (c2.grow g6) (n:=3) ω22 rfl fun H7 l7 q7 k7=>⟨_,_,a6,n6,e6,(q7.rdN (nbl rfl)).trans rfl,?_⟩
 have lo6:=w6.lo
 have hle:=G4.1
 exact hk a6 n6 e6 H7 ((G4.trans g6).keep ω2 k7) ((w6.keepA (fun x y hx hy=>by cases hx;have:=lo6 y hy;have:=c2.lt;show b2≠_;omega) (OwnS.keep1 k7)).weak hle)
theorem f6z_ok:FnOkX Tryz.prog (MainCls Tryz.prog) 64 S_f6z:=FnOkX.bodyF (hLt:=fun _=>z3h) mix_ok zzb Tryz.func64 rfl ω10 ω10 fun args H=>by
 unfold F_f6z
 split
 ·refine ⟨?_,?_,?_,?_,fun K hk=>f6z_main _ _ _ _ _ _ H K hk⟩
  ·intro K K' h hk;obtain ⟨l,f,cx,cy,rows,i,b,hc,hlen,h1,h2,k⟩:=hk;exact ⟨l,f,cx,cy,rows,i,b,hc,hlen,h1,h2,(fun od xd vd H' gg ow0=>h _ _ (k od xd vd H' gg ow0))⟩
  ·nofun
  ·intro K hk;obtain ⟨l,f,cx,cy,rows,i,b,hc,hlen,h1,h2,k⟩:=hk;exact z4i fun a n e H1 g o=>⟨_,_,k a n e H1 g o⟩
  ·nofun
 ·exact Nice.no
def zfs (xs:LN) (off:Nat):LN→LN
 | []=>xs
 | y::r=>zfs (xs.set off y) (off+1) r
@[simp] theorem zlm:∀(ys:LN) (xs:LN) (off:Nat),(zfs xs off ys).length=xs.length:=by
 intro ys
 induction ys with
 | nil=>intro xs off;rfl
 | cons y r ih=>intro xs off;exact (ih _ _).trans (List.length_set ..)
theorem zrn (ys:LN):∀(xs:LN) (off:Nat),zll (xs.map fF) off (ys.map fF)=(zfs xs off ys).map fF:=by
 induction ys with
 | nil=>intro xs off;rfl
 | cons y r ih=>
  intro xs off
  show zll ((xs.map fF).set off (fF y)) (off+1) (r.map fF)=_
  rw [←List.map_set]
  exact ih _ _
def z9n (l part:LN) (W pw x y:Int):Nat→LN
 | 0=>l
 | v+1=>zfs (z9n l part W pw x y v) ((y+(v:Int))*W+x).toNat ((part.drop ((v:Int)*pw).toNat).take pw.toNat)
@[simp] theorem z7i (l part:LN) (W pw x y:Int):∀v,(z9n l part W pw x y v).length=l.length:=by
 intro v
 induction v with
 | zero=>rfl
 | succ v ih=>exact (zlm _ _ _).trans ih
def zam (ga ja:Int) (ba:LN) (cd te:Int) (lg:LN) (x y:Int):Int×Int×LN×Bool:=bif z1s cd te lg then (bif z8p ga ja ba x y cd te then (ga,ja,z9n ba lg ga cd x y te.toNat,true) else (0,0,[],false)) else (0,0,[],false)
def T_flz (ga ja:Int) (ta:OA) (va ya:Nat) (cd te:Int) (df:OA) (rf mf:Nat) (x y:Int) (H:zp) (K:Int→Int→OA→Nat→Nat→Bool→zp→Prop):Prop:=
 ∃(ba lg:LN),IsL fF H ta va ba∧IsL fF H df rf lg∧ba.length<1073741824∧lg.length<1073741824∧
  (∀(od:OA) (xd vd:Nat),∀H':zp,Grow H H'→OwnS fF H' H.length od xd vd ((zam ga ja ba cd te lg x y).2.2.1)→K ((zam ga ja ba cd te lg x y).1) ((zam ga ja ba cd te lg x y).2.1) od xd vd ((zam ga ja ba cd te lg x y).2.2.2) H')
theorem z1bg {ga ja:Int} {ta:OA} {va ya:Nat} {cd te:Int} {df:OA} {rf mf:Nat} {x y:Int} {H:zp} {K:Int→Int→OA→Nat→Nat→Bool→zp→Prop} (h:∃(ba lg:LN),IsL fF H ta va ba∧IsL fF H df rf lg∧ba.length<1073741824∧lg.length<1073741824∧
  (∀(od:OA) (xd vd:Nat),∀H':zp,Grow H H'→OwnS fF H' H.length od xd vd ((zam ga ja ba cd te lg x y).2.2.1)→K ((zam ga ja ba cd te lg x y).1) ((zam ga ja ba cd te lg x y).2.1) od xd vd ((zam ga ja ba cd te lg x y).2.2.2) H')):T_flz ga ja ta va ya cd te df rf mf x y H K:=h
theorem z1dx (W Hi:Int) (l:LN) (pw ph:Int) (part:LN) (x y:Int):((zam W Hi l pw ph part x y).2.2.1.length:Int)≤256:=by
 unfold zam
 cases z1s pw ph part with
 | false=>show ((0:Nat):Int)≤256;omega
 | true=>
  cases h:z8p W Hi l x y pw ph with
  | false=>show ((0:Nat):Int)≤256;omega
  | true=>
   have:=zvo h
   show ((z9n l part W pw x y ph.toNat).length:Int)≤256
   rw [z7i]
   omega
def zhk:Env:=envOf [(999996,z8l),(50,zm4),(81,zue),(53,zui)]
def F_flz (args:List Value) (H:zp):(Value→zp→Prop)→Prop:=match args with
 | [.agg ⟨[.int .i64 ga,.int .i64 ja,.slice ta va ya]⟩,.agg ⟨[.int .i64 cd,.int .i64 te,.slice df rf mf]⟩,.int .i64 x,.int .i64 y]=>fun K=>T_flz ga ja ta va ya cd te df rf mf x y H fun (tc:Int) (nc:Int) (ma:OA) (sa:Nat) (oa:Nat) (r2:Bool) (H':zp)=>K (.tuple #[.agg #[.int .i64 tc,.int .i64 nc,.slice ma sa oa],.bool r2]) H'
 | _=>fun _=>False
def S_flz:FSpec:={F:=F_flz,quiet:=false,tame:=false}
theorem z1i8 (ga ja:Int) (ta:OA) (va ya:Nat) (cd te:Int) (df:OA) (rf mf:Nat) (x y:Int) (H:zp) (K:KT):zw Tryz.prog zhk Tryz.f105 [.agg #[.int .i64 ga,.int .i64 ja,.slice ta va ya],.agg #[.int .i64 cd,.int .i64 te,.slice df rf mf],.int .i64 x,.int .i64 y] H K=
 (Al [.int .i64 ga,.int .i64 ja,.slice ta va ya] H fun b1 H1=>Al [.int .i64 cd,.int .i64 te,.slice df rf mf] H1 fun b2 H2=>Al [.int .i64 0,.int .i64 0,.slice none 0 0] H2 fun b3 H3=>∃(c1 c2:Int),∃vg:OA,∃(xg wg:Nat),  rdN H3 b2 0 3=some [.int .i64 c1,.int .i64 c2,.slice vg xg wg]∧zhn c1 c2 vg xg wg H3 fun (r1:Bool) (H4:zp)=>Br (!r1) (isOwn H4 b3∧(∃l,rdN H4 b3 0 3=some l)∧Lt (setN H4 b3 0 [.int .i64 0,.int .i64 0,.slice none 0 0]) fun H5=>∃(c4 c5:Int),∃eh:OA,∃(gh fh:Nat),  rdN H5 b3 0 3=some [.int .i64 c4,.int .i64 c5,.slice eh gh fh]∧K (.tuple #[.agg #[.int .i64 c4,.int .i64 c5,.slice eh gh fh],.bool false]) H5) (∃(c7 c8:Int),∃sh:OA,∃(uh th:Nat),  rdN H4 b1 0 3=some [.int .i64 c7,.int .i64 c8,.slice sh uh th]∧∃x1:Int,  rdC H4 b2 0=some (.int .i64 x1)∧∃x2:Int,  rdC H4 b2 1=some (.int .i64 x2)∧zj5 c7 c8 sh uh th x y x1 x2 H4 fun (r2:Bool) (H6:zp)=>Br (!r2) (isOwn H6 b3∧(∃l,rdN H6 b3 0 3=some l)∧Lt (setN H6 b3 0 [.int .i64 0,.int .i64 0,.slice none 0 0]) fun H7=>∃(c10 c11:Int),∃ri:OA,∃(ti si:Nat),  rdN H7 b3 0 3=some [.int .i64 c10,.int .i64 c11,.slice ri ti si]∧K (.tuple #[.agg #[.int .i64 c10,.int .i64 c11,.slice ri ti si],.bool false]) H7) (∃sj:OA,∃(qj yj:Nat),  rdC H6 b1 2=some (.slice sj qj yj)∧∃x4:Int,  rdC H6 b1 1=some (.int .i64 x4)∧∃x5:Int,  rdC H6 b1 0=some (.int .i64 x5)∧zjc sj qj yj H6 fun (a1:OA) (r3:Nat) (r4:Nat) (H8:zp)=>Al [.int .i64 0,.int .i64 0,.slice none 0 0] H8 fun b4 H9=>isOwn H9 b4∧(∃l,rdN H9 b4 0 3=some l)∧Lt (setN H9 b4 0 [.int .i64 x5,.int .i64 x4,.slice a1 r3 r4]) fun H10=>∃x6:Int,  rdC H10 b2 1=some (.int .i64 x6)∧z1n (exL Tryz.prog zhk (cl (cl (cr (cl (cr (cr (cr (zq Tryz.f105)))))))) 206158431548 768 [(0,1280)]) (ud2 (.int .i64 x::.int .i64 y::.pointer (some ⟨b1,0,none⟩)::.pointer (some ⟨b2,0,none⟩)::ud2 (.pointer (some ⟨b3,0,none⟩)::ud::.pointer (some ⟨b4,0,none⟩)::ud25 (.int .i64 x6::.int .i64 0::ud28 [])))) H10 (z1a 0 (seqQ (exL Tryz.prog zhk (cr (cr (cr (cr (zq Tryz.f105))))) 768 768 []) (retK Tryz.prog Tryz.f105 K)))))):=by kernel_rfl
abbrev zk8 (b1 b2 b3 b4:Nat) (x x6 y t37:Int)  :List Value:=(ud2 (.int .i64 x::.int .i64 y::.pointer (some ⟨b1,0,none⟩)::.pointer (some ⟨b2,0,none⟩)::ud2 (.pointer (some ⟨b3,0,none⟩)::ud::.pointer (some ⟨b4,0,none⟩)::ud25 (.int .i64 x6::.int .i64 t37::ud28 []))))
theorem z1i7 (b1 b2 b3 b4:Nat) (x x6 y t37:Int)  (H:zp) (R:Post):exL Tryz.prog zhk (cl (cl (cr (cl (cr (cr (cr (zq Tryz.f105)))))))) 206158431548 768 [(0,1280)] (zk8 b1 b2 b3 b4 x x6 y t37) H R=
 (Br (decide ((t37:Int)<x6)) (∃rj:OA,∃(vi rk:Nat),  rdC H b4 2=some (.slice rj vi rk)∧∃x8:Int,  rdC H b1 0=some (.int .i64 x8)∧(0:Int)≤IntKind.wrap .i64 ((IntKind.wrap .i64 ((IntKind.wrap .i64 (y+t37))*x8))+x)∧IntKind.wrap .i64 ((IntKind.wrap .i64 ((IntKind.wrap .i64 (y+t37))*x8))+x)≤(vi:Int)∧(vi:Int)≤(vi:Int)∧∃fp:OA,∃(gp jp:Nat),  rdC H b2 2=some (.slice fp gp jp)∧∃x10:Int,  rdC H b2 0=some (.int .i64 x10)∧∃x11:Int,  rdC H b2 0=some (.int .i64 x11)∧(0:Int)≤IntKind.wrap .i64 (t37*x10)∧IntKind.wrap .i64 (t37*x10)≤IntKind.wrap .i64 ((IntKind.wrap .i64 (t37+1))*x11)∧IntKind.wrap .i64 ((IntKind.wrap .i64 (t37+1))*x11)≤(gp:Int)∧∃w1:List Value,rdS H ((fp:OA).map fun a=>⟨a.block,a.off+(IntKind.wrap .i64 (t37*x10):Int).toNat*1,none⟩) (min (((IntKind.wrap .i64 ((IntKind.wrap .i64 (t37+1))*x11):Int)-IntKind.wrap .i64 (t37*x10)).toNat:Nat) ((((vi:Int):Int)-IntKind.wrap .i64 ((IntKind.wrap .i64 ((IntKind.wrap .i64 (y+t37))*x8))+x)).toNat))=some w1∧∃b5 f1,((rj:OA).map fun a=>⟨a.block,a.off+(IntKind.wrap .i64 ((IntKind.wrap .i64 ((IntKind.wrap .i64 (y+t37))*x8))+x):Int).toNat*1,none⟩:OA)=some ⟨b5,f1,none⟩∧isOwn H b5∧(∃l,rdN H b5 f1 ((((vi:Int):Int)-IntKind.wrap .i64 ((IntKind.wrap .i64 ((IntKind.wrap .i64 (y+t37))*x8))+x)).toNat)=some l)∧Lt (setN H b5 f1 w1) fun H11=>R .normal (ud2 (.int .i64 x::.int .i64 y::.pointer (some ⟨b1,0,none⟩)::.pointer (some ⟨b2,0,none⟩)::ud2 (.pointer (some ⟨b3,0,none⟩)::ud::.pointer (some ⟨b4,0,none⟩)::ud25 (.int .i64 x6::.int .i64 (IntKind.wrap .i64 (t37+1))::ud28 [])))) H11) (R (.exit 0) (ud8 (.pointer (some ⟨b3,0,none⟩)::ud::.pointer (some ⟨b4,0,none⟩)::ud55 [])) H)):=by kernel_rfl
def zx5 (b1 b2 b3 b4:Nat) (x x6 y:Int) (Inv:Nat→Int→zp→Prop):Nat→List Value→zp→Prop:=fun μ tm H=>∃t37:Int,tm=(zk8 b1 b2 b3 b4 x x6 y t37)∧Inv μ t37 H
theorem z1i4 (b1 b2 b3 b4:Nat) (x x6 y:Int) {Q:Post} (Inv:Nat→Int→zp→Prop) (ν:Nat) (t37:Int)  (H:zp) (h0:Inv ν t37 H)
  (hs:∀(μ:Nat) (t37:Int)  (H:zp),Inv μ t37 H→exL Tryz.prog zhk (cl (cl (cr (cl (cr (cr (cr (zq Tryz.f105)))))))) 206158431548 768 [(0,1280)] (zk8 b1 b2 b3 b4 x x6 y t37) H (z1b (zx5 b1 b2 b3 b4 x x6 y Inv) μ Q)):z1n (exL Tryz.prog zhk (cl (cl (cr (cl (cr (cr (cr (zq Tryz.f105)))))))) 206158431548 768 [(0,1280)]) (zk8 b1 b2 b3 b4 x x6 y t37) H Q:=
 ⟨zx5 b1 b2 b3 b4 x x6 y Inv,ν,⟨t37,rfl,h0⟩,fun μ tm H h=>by obtain ⟨t37,rfl,hI⟩:=h;exact hs μ t37  H hI⟩
theorem z1i5 {b1 b2 b3 b4:Nat} {x x6 y:Int} {Q:Post} {Inv:Nat→Int→zp→Prop} {μ:Nat} (μ':Nat) {t37:Int}  {H:zp} (hm:μ'<μ) (hI:Inv μ' t37 H):z1b (zx5 b1 b2 b3 b4 x x6 y Inv) μ Q .normal (zk8 b1 b2 b3 b4 x x6 y t37) H:=⟨μ',hm,t37,rfl,hI⟩
theorem z13i (b3 b4:Nat) (H:zp) (K:KT)  {I:Nat→List Value→zp→Prop} {μ:Nat}:z1b I μ (z1a 0 (seqQ (exL Tryz.prog zhk (cr (cr (cr (cr (zq Tryz.f105))))) 768 768 []) (retK Tryz.prog Tryz.f105 K))) (.exit 0) (ud8 (.pointer (some ⟨b3,0,none⟩)::ud::.pointer (some ⟨b4,0,none⟩)::ud55 [])) H=
 (∃(c13 c14:Int),∃lj:OA,∃(nj mj:Nat),  rdN H b4 0 3=some [.int .i64 c13,.int .i64 c14,.slice lj nj mj]∧isOwn H b3∧(∃l,rdN H b3 0 3=some l)∧Lt (setN H b3 0 [.int .i64 c13,.int .i64 c14,.slice lj nj mj]) fun H12=>∃(c16 c17:Int),∃dk:OA,∃(gk fk:Nat),  rdN H12 b3 0 3=some [.int .i64 c16,.int .i64 c17,.slice dk gk fk]∧K (.tuple #[.agg #[.int .i64 c16,.int .i64 c17,.slice dk gk fk],.bool true]) H12):=by kernel_rfl
theorem zzq:∀g,FnOkX Tryz.prog (MainCls Tryz.prog) g (zhk g):=FnOkX.envOf (by
 intro x hx
 simp only [List.mem_cons,List.not_mem_nil,or_false] at hx
 rcases hx with rfl | rfl | rfl | rfl
 ·exact z7c _ _
 ·exact f8z_ok.le fun _ _ _=>trivial
 ·exact zvn.le fun _ _ _=>trivial
 ·exact zwm.le fun _ _ _=>trivial)
theorem z1eg {x y v W H pw ph:Int} (hx:0≤x) (hy:0≤y) (hv:0≤v) (h1:1≤pw) (h2:x+pw≤W) (h3:y+ph≤H) (hv2:v<ph) (hW:W≤16) (hH:H≤16):
  0≤(y+v)*W∧(y+v)*W+x+pw≤W*H∧W*H≤256∧0≤v*pw∧(v+1)*pw=v*pw+pw∧(v+1)*pw≤pw*ph:=by
 have a:0≤(y+v)*W:=Int.mul_nonneg ω2 ω2
 have b:(y+v+1)*W≤H*W:=Int.mul_le_mul_of_nonneg_right ω2 ω2
 have c:(y+v+1)*W=(y+v)*W+W:=by rw [Int.add_mul,Int.one_mul]
 have d:H*W≤16*16:=Int.mul_le_mul ω2 ω2 ω2 ω22
 have e:H*W=W*H:=Int.mul_comm _ _
 have f:0≤v*pw:=Int.mul_nonneg hv ω2
 have g:(v+1)*pw=v*pw+pw:=by rw [Int.add_mul,Int.one_mul]
 have h:(v+1)*pw≤ph*pw:=Int.mul_le_mul_of_nonneg_right ω2 ω2
 have i:ph*pw=pw*ph:=Int.mul_comm _ _
 exact ⟨a,by omega,by omega,f,g,by omega⟩
theorem z13h (ga ja:Int) (ta:OA) (va ya:Nat) (cd te:Int) (df:OA) (rf mf:Nat) (x y:Int) (H:zp) (K:KT) (h:T_flz ga ja ta va ya cd te df rf mf x y H fun (tc:Int) (nc:Int) (ma:OA) (sa:Nat) (oa:Nat) (r2:Bool) (H':zp)=>K (.tuple #[.agg #[.int .i64 tc,.int .i64 nc,.slice ma sa oa],.bool r2]) H'):zw Tryz.prog zhk Tryz.f105 [.agg #[.int .i64 ga,.int .i64 ja,.slice ta va ya],.agg #[.int .i64 cd,.int .i64 te,.slice df rf mf],.int .i64 x,.int .i64 y] H K:=by
 rw [z1i8]
 obtain ⟨l,q,il,iq,bl,bq,hk⟩:=h
 obtain rfl:=il.eqn
 obtain rfl:=iq.eqn
 have ep:zam ga ja l cd te q x y=(bif z1s cd te q then (bif z8p ga ja l x y cd te then (ga,ja,z9n l q ga cd x y te.toNat,true) else (0,0,[],false)) else (0,0,[],false)):=rfl
 rw [ep] at hk
 refine Al.intro fun b1 H1 e1 l1 g1 o1=>Al.intro fun b2 H2 e2 l2 g2 o2=>Al.intro fun b3 H3 e3 l3 g3 o3=>?_
 have p1:=(o1.grow g2).grow g3
 have p2:=o2.grow g3
 have G3:Grow H H3:=(g1.trans g2).trans g3
 refine ⟨cd,te,df,q.length,mf,(p2.rdN (nbl rfl)).trans rfl,zbx ⟨q,iq.grow G3,bq,fun H4 g4=>?_⟩⟩
 have q3:=o3.grow g4
 refine Br.intro (fun hp=>?_) (fun hp=>?_)
 ·refine Lt.setN q3 (n:=3) ω22 rfl fun H5 l5 q5 k5=>⟨0,0,none,0,0,(q5.rdN (nbl rfl)).trans rfl,?_⟩
  rw [z1g hp,cond_false] at hk
  exact hk none 0 0 H5 ((G3.trans g4).keep ω2 k5) (OwnS.nil _ _ _ _)
 have hpv:=z1d hp
 rw [hpv,cond_true] at hk
 have G4:Grow H H4:=G3.trans g4
 have q1:=p1.grow g4
 have q2:=p2.grow g4
 refine ⟨ga,ja,ta,l.length,ya,(q1.rdN (nbl rfl)).trans rfl,cd,(q2.rdC 0).trans rfl,te,(q2.rdC 1).trans rfl,zny ⟨l,il.grow G4,bl,fun H6 g6=>?_⟩⟩
 have r3:=q3.grow g6
 refine Br.intro (fun hp=>?_) (fun hp=>?_)
 ·refine Lt.setN r3 (n:=3) ω22 rfl fun H7 l7 q7 k7=>⟨0,0,none,0,0,(q7.rdN (nbl rfl)).trans rfl,?_⟩
  rw [z1g hp,cond_false] at hk
  exact hk none 0 0 H7 ((G4.trans g6).keep ω2 k7) (OwnS.nil _ _ _ _)
 have hpt:=z1d hp
 rw [hpt,cond_true] at hk
 obtain ⟨w1,w2,w3,w4,w5,w6,x0,y0,pw1,ph1,hx,hy⟩:=zvo hpt
 obtain ⟨v1,v2,v3,v4,v5,v6,v7⟩:=f8z_t hpv
 have G6:Grow H H6:=G4.trans g6
 have r1:=q1.grow g6
 have r2:=q2.grow g6
 refine ⟨ta,l.length,ya,(r1.rdC 2).trans rfl,ja,(r1.rdC 1).trans rfl,ga,(r1.rdC 0).trans rfl,zog ⟨l,il.grow G6,bl,fun a n e H8 g8 o8=>?_⟩⟩
 refine Al.intro fun b4 H9 e9 l9 g9 o9=>Lt.setN o9 (n:=3) ω22 rfl fun H10 l10 q10 k10=>?_
 have lo:=o8.lo
 have up:=o8.up
 have s1:=((r1.grow g8).grow g9).keep (b':=b4) (by have:=r1.lt;have:=g8.1;omega) k10
 have s2:=((r2.grow g8).grow g9).keep (b':=b4) (by have:=r2.lt;have:=g8.1;omega) k10
 have s3:=((r3.grow g8).grow g9).keep (b':=b4) (by have:=r3.lt;have:=g8.1;omega) k10
 have s8:=(o8.grow g9).keepA (fun x y hx hy=>by cases hx;have:=up y hy;show b4≠_;omega) (OwnS.keep1 k10)
 have G10:Grow H H10:=((G6.trans g8).trans g9).keep (by have:=G6.1;have:=g8.1;omega) k10
 refine ⟨te,(s2.rdC 1).trans rfl,?_⟩
 obtain ⟨hn8,⟨ea,hx0⟩ | ⟨c,rfl,hc,he,hlc⟩⟩:=s8
 ·rw [hx0] at w5
  have:=z5h (W:=ga) (H:=ja) w1 w2 w3 w4
  simp at w5
  omega
 subst he
 subst hn8
 obtain ⟨m,rfl⟩:∃m:Nat,te=(m:Int):=⟨te.toNat,by omega⟩
 have hcb:c≠b4:=by have:=up _ rfl;have:c<H8.length:=this;omega
 have c10:=hc.lt
 refine z1i4 b1 b2 b3 b4 x (m:Int) y (fun μ t H'=>∃k:Nat,t=(k:Int)∧k≤m∧μ=m-k∧z3i c H10 H'∧Own H' c ((z9n l q ga cd x y k).map fF)) m 0 H10
  ⟨0,rfl,Nat.zero_le _,rfl,⟨Nat.le_refl _,fun _ _ _=>rfl⟩,hc⟩ ?_
 intro μ t H' hI
 obtain ⟨k,rfl,hkm,rfl,kp,oc⟩:=hI
 have lkp:=kp.1
 have t1:=s1.keep (b':=c) (by have:=r1.lt;have:=hlc;omega) kp
 have t2:=s2.keep (b':=c) (by have:=r2.lt;have:=hlc;omega) kp
 have t3:=s3.keep (b':=c) (by have:=r3.lt;have:=hlc;omega) kp
 have t4:=q10.keep (b':=c) (Ne.symm hcb) kp
 have GG:Grow H H':=G10.keep (by have:=G6.1;omega) kp
 rw [z1i7]
 refine Br.intro (fun hd=>?_) (fun hd=>?_)
 ·have hd':=odt hd
  obtain ⟨i1,i2,i3,i4,i5,i6⟩:=z1eg (x:=x) (y:=y) (v:=(k:Int)) (W:=ga) (H:=ja) (pw:=cd) (ph:=(m:Int)) x0 y0 ω2 pw1 hx hy hd' w2 w4
  rw [show IntKind.wrap .i64 (y+(k:Int))=y+(k:Int) from zt ω2 ω2,show IntKind.wrap .i64 ((k:Int)+1)=(k:Int)+1 from zt ω2 ω2]
  refine ⟨some ⟨c,0,none⟩,l.length,1,(t4.rdC 2).trans rfl,ga,(t1.rdC 0).trans rfl,?_⟩
  rw [show IntKind.wrap .i64 ((y+(k:Int))*ga)=(y+(k:Int))*ga from zt ω2 ω2,show IntKind.wrap .i64 ((y+(k:Int))*ga+x)=(y+(k:Int))*ga+x from zt ω2 ω2]
  refine ⟨by omega,by omega,by omega,df,q.length,mf,(t2.rdC 2).trans rfl,cd,(t2.rdC 0).trans rfl,cd,(t2.rdC 0).trans rfl,?_⟩
  rw [show IntKind.wrap .i64 ((k:Int)*cd)=(k:Int)*cd from zt ω2 ω2,show IntKind.wrap .i64 (((k:Int)+1)*cd)=((k:Int)+1)*cd from zt ω2 ω2]
  refine ⟨by omega,by omega,by omega,(((q.drop ((k:Int)*cd).toNat).take (cd).toNat)).map fF,?_,c,0+((y+(k:Int))*ga+x).toNat*1,rfl,oc.isOwn,⟨_,oc.rdN (by rw [List.length_map,z7i];omega)⟩,?_⟩
  ·have hs:=zc9 (iq.grow GG) (lo:=(k:Int)*cd) (hi:=((k:Int)+1)*cd) ω2 ω2 ω2
   have e1:(((k:Int)+1)*cd-(k:Int)*cd).toNat=cd.toNat:=by omega
   have e2:min ((((k:Int)+1)*cd-(k:Int)*cd).toNat) (((l.length:Int)-((y+(k:Int))*ga+x)).toNat)=cd.toNat:=by omega
   rw [e1] at hs
   rw [e2]
   exact (z2t hs).symm ▸ congrArg (rdS H' _) (Nat.mul_one _).symm
  ·obtain ⟨u1,u2,u3⟩:=zpx (((q.drop ((k:Int)*cd).toNat).take (cd).toNat).map fF) (0+((y+(k:Int))*ga+x).toNat*1) oc
   rw [zrn] at u1
   unfold Lt
   refine z1i5 (m-(k+1)) ω2 ⟨k+1,by omega,by omega,rfl,⟨by rw [u2];exact lkp,fun i hi hne=>(u3 i hne).trans (kp.2 i hi hne)⟩,?_⟩
   have e3:0+((y+(k:Int))*ga+x).toNat*1=((y+(k:Int))*ga+x).toNat:=by omega
   rw [e3] at u1
   rw [e3]
   exact u1
 ·have hd':=odf hd
  obtain rfl:k=m:=by omega
  rw [z13i]
  refine ⟨ga,ja,some ⟨c,0,none⟩,l.length,1,(t4.rdN (nbl rfl)).trans rfl,Lt.setN t3 (n:=3) (nbl rfl) rfl fun H12 l12 q12 k12=>⟨ga,ja,some ⟨c,0,none⟩,l.length,1,(q12.rdN (nbl rfl)).trans rfl,?_⟩⟩
  rw [Int.toNat_natCast] at hk
  refine hk _ _ _ H12 (GG.keep ω2 k12) ((oc.keep (b':=b3) (by have:=r3.lt;have:=hlc;omega) k12).ownS (by rw [z7i]) (by have:=G6.1;omega))
theorem z1i6:FnOkX Tryz.prog (MainCls Tryz.prog) 105 S_flz:=FnOkX.bodyF (hLt:=fun _=>z3h) mix_ok zzq Tryz.func105 rfl ω10 ω10 fun args H=>by
 unfold F_flz
 split
 ·refine ⟨?_,?_,?_,?_,fun K hk=>z13h _ _ _ _ _ _ _ _ _ _ _ _ H K hk⟩
  ·intro K K' h hk;obtain ⟨l,q,i,i2,b,b2,k⟩:=hk;exact ⟨l,q,i,i2,b,b2,(fun od xd vd H' gg ow0=>h _ _ (k od xd vd H' gg ow0))⟩
  ·nofun
  ·intro K hk;obtain ⟨l,q,i,i2,b,b2,k⟩:=hk;exact z4i fun a n e H1 g o=>⟨_,_,k a n e H1 g o⟩
  ·nofun
 ·exact Nice.no


def z5s (ch:Int→Int→LN→PicT) (W Hi:Int) (l:LN) (wide high:Int):PicT:=z5y (z4z W Hi l 0 0 wide high) fun a b c=>z5y (ch a b c) fun a b c=>zam W Hi l a b c 0 0
theorem f1zz_len (ch:Int→Int→LN→PicT) (W Hi:Int) (l:LN) (wide high:Int):(z5s ch W Hi l wide high).2.2.1.length≤1024:=by
 unfold z5s
 generalize z4z W Hi l 0 0 wide high=q
 cases h:q.2.2.2 with
 | false=>rw [z3u h];exact Nat.zero_le _
 | true=>
  rw [z1w h]
  generalize ch q.1 q.2.1 q.2.2.1=r
  cases h2:r.2.2.2 with
  | false=>rw [z3u h2];exact Nat.zero_le _
  | true=>
   rw [z1w h2]
   have:=z1dx W Hi l r.1 r.2.1 r.2.2.1 0 0
   omega
def zd9:Env:=envOf [(36,S_fcz),(64,S_f6z),(105,S_flz)]
def zoh (ga ja:Int) (ta:OA) (va ya:Nat) (wide high:Int) (change_f:Fn) (change_x:Array Value) (change_y:Array Value) (H:zp) (K:Int→Int→OA→Nat→Nat→Bool→zp→Prop):Prop:=
 ∃(l:LN) (ch:Int→Int→LN→PicT),IsL fF H ta va l∧l.length<1073741824∧(∀W Hi l,(ch W Hi l).2.2.1.length≤1024)∧zct zd9 (.func change_f change_x change_y) H ch∧
  (∀(od:OA) (xd vd:Nat),∀H':zp,Grow H H'→OwnS fF H' H.length od xd vd ((z5s ch ga ja l wide high).2.2.1)→K ((z5s ch ga ja l wide high).1) ((z5s ch ga ja l wide high).2.1) od xd vd ((z5s ch ga ja l wide high).2.2.2) H')
theorem z11c {ga ja:Int} {ta:OA} {va ya:Nat} {wide high:Int} {change_f:Fn} {change_x:Array Value} {change_y:Array Value} {H:zp} {K:Int→Int→OA→Nat→Nat→Bool→zp→Prop} (h:∃(l:LN) (ch:Int→Int→LN→PicT),IsL fF H ta va l∧l.length<1073741824∧(∀W Hi l,(ch W Hi l).2.2.1.length≤1024)∧zct zd9 (.func change_f change_x change_y) H ch∧
  (∀(od:OA) (xd vd:Nat),∀H':zp,Grow H H'→OwnS fF H' H.length od xd vd ((z5s ch ga ja l wide high).2.2.1)→K ((z5s ch ga ja l wide high).1) ((z5s ch ga ja l wide high).2.1) od xd vd ((z5s ch ga ja l wide high).2.2.2) H')):zoh ga ja ta va ya wide high change_f change_x change_y H K:=h
def z17m (args:List Value) (H:zp):(Value→zp→Prop)→Prop:=match args with
 | [.agg ⟨[.int .i64 ga,.int .i64 ja,.slice ta va ya]⟩,.int .i64 wide,.int .i64 high,.func change_f change_x change_y]=>fun K=>zoh ga ja ta va ya wide high change_f change_x change_y H fun (tc:Int) (nc:Int) (ma:OA) (sa:Nat) (oa:Nat) (r2:Bool) (H':zp)=>K (.tuple #[.agg #[.int .i64 tc,.int .i64 nc,.slice ma sa oa],.bool r2]) H'
 | _=>fun _=>False
def z18t:FSpec:={F:=z17m,quiet:=false,tame:=false}
theorem f1zz_vc (ga ja:Int) (ta:OA) (va ya:Nat) (wide high:Int) (change_f:Fn) (change_x:Array Value) (change_y:Array Value) (H:zp) (K:KT):zw Tryz.prog zd9 Tryz.f54 [.agg #[.int .i64 ga,.int .i64 ja,.slice ta va ya],.int .i64 wide,.int .i64 high,.func change_f change_x change_y] H K=
 (Al [.int .i64 ga,.int .i64 ja,.slice ta va ya] H fun b1 H1=>Al [.int .i64 0,.int .i64 0,.slice none 0 0] H1 fun b2 H2=>∃(c1 c2:Int),∃vg:OA,∃(xg wg:Nat),  rdN H2 b1 0 3=some [.int .i64 c1,.int .i64 c2,.slice vg xg wg]∧zur c1 c2 vg xg wg 0 0 wide high H2 fun (r1:Int) (r2:Int) (a1:OA) (r3:Nat) (r4:Nat) (r5:Bool) (H3:zp)=>Al [.int .i64 0,.int .i64 0,.slice none 0 0] H3 fun b3 H4=>isOwn H4 b3∧(∃l,rdN H4 b3 0 3=some l)∧Lt (setN H4 b3 0 [.int .i64 r1,.int .i64 r2,.slice a1 r3 r4]) fun H5=>Br (!r5) (isOwn H5 b2∧(∃l,rdN H5 b2 0 3=some l)∧Lt (setN H5 b2 0 [.int .i64 0,.int .i64 0,.slice none 0 0]) fun H6=>∃(c4 c5:Int),∃eh:OA,∃(gh fh:Nat),  rdN H6 b2 0 3=some [.int .i64 c4,.int .i64 c5,.slice eh gh fh]∧K (.tuple #[.agg #[.int .i64 c4,.int .i64 c5,.slice eh gh fh],.bool false]) H6) (∃(c7 c8:Int),∃sh:OA,∃(uh th:Nat),  rdN H5 b3 0 3=some [.int .i64 c7,.int .i64 c8,.slice sh uh th]∧zff zd9 (.func change_f change_x change_y) [.agg #[.int .i64 c7,.int .i64 c8,.slice sh uh th]] H5 fun (w1:Value) (H7:zp)=>extV w1 0 fun (w2:Value)=>extV w1 1 fun (w3:Value)=>stN 3 w2 H7 b3 0 fun (H8:zp)=>unK .not w3 fun (w4:Value)=>zac w4 fun (t1:Bool)=>Br t1 (isOwn H8 b2∧(∃l,rdN H8 b2 0 3=some l)∧Lt (setN H8 b2 0 [.int .i64 0,.int .i64 0,.slice none 0 0]) fun H9=>∃(c10 c11:Int),∃ri:OA,∃(ti si:Nat),  rdN H9 b2 0 3=some [.int .i64 c10,.int .i64 c11,.slice ri ti si]∧K (.tuple #[.agg #[.int .i64 c10,.int .i64 c11,.slice ri ti si],.bool false]) H9) (∃(c13 c14:Int),∃lj:OA,∃(nj mj:Nat),  rdN H8 b1 0 3=some [.int .i64 c13,.int .i64 c14,.slice lj nj mj]∧∃(c16 c17:Int),∃dk:OA,∃(gk fk:Nat),  rdN H8 b3 0 3=some [.int .i64 c16,.int .i64 c17,.slice dk gk fk]∧T_flz c13 c14 lj nj mj c16 c17 dk gk fk 0 0 H8 fun (r6:Int) (r7:Int) (a2:OA) (r8:Nat) (r9:Nat) (r10:Bool) (H10:zp)=>isOwn H10 b2∧(∃l,rdN H10 b2 0 3=some l)∧Lt (setN H10 b2 0 [.int .i64 r6,.int .i64 r7,.slice a2 r8 r9]) fun H11=>∃(c19 c20:Int),∃am:OA,∃(dm bm:Nat),  rdN H11 b2 0 3=some [.int .i64 c19,.int .i64 c20,.slice am dm bm]∧K (.tuple #[.agg #[.int .i64 c19,.int .i64 c20,.slice am dm bm],.bool r10]) H11))):=by kernel_rfl
theorem ztw:∀g,FnOkX Tryz.prog (MainCls Tryz.prog) g (zd9 g):=FnOkX.envOf (by
 intro x hx
 simp only [List.mem_cons,List.not_mem_nil,or_false] at hx
 rcases hx with rfl | rfl | rfl
 ·exact z19h.le fun _ _ _=>trivial
 ·exact f6z_ok
 ·exact z1i6)
theorem f1zz_main (ga ja:Int) (ta:OA) (va ya:Nat) (wide high:Int) (change_f:Fn) (change_x:Array Value) (change_y:Array Value) (H:zp) (K:KT) (h:zoh ga ja ta va ya wide high change_f change_x change_y H fun (tc:Int) (nc:Int) (ma:OA) (sa:Nat) (oa:Nat) (r2:Bool) (H':zp)=>K (.tuple #[.agg #[.int .i64 tc,.int .i64 nc,.slice ma sa oa],.bool r2]) H'):zw Tryz.prog zd9 Tryz.f54 [.agg #[.int .i64 ga,.int .i64 ja,.slice ta va ya],.int .i64 wide,.int .i64 high,.func change_f change_x change_y] H K:=by
 rw [f1zz_vc]
 obtain ⟨l,ch,il,bl,hlen,hch,hk⟩:=h
 obtain rfl:=il.eqn
 have ep:z5s ch ga ja l wide high=z5y (z4z ga ja l 0 0 wide high) fun a b c=>z5y (ch a b c) fun a b c=>zam ga ja l a b c 0 0:=rfl
 rw [ep] at hk
 refine Al.intro fun b1 H1 e1 l1 g1 o1=>Al.intro fun b2 H2 e2 l2 g2 o2=>?_
 have G2:Grow H H2:=g1.trans g2
 refine ⟨ga,ja,ta,l.length,ya,((o1.grow g2).rdN (nbl rfl)).trans rfl,zus ⟨l,il.grow G2,bl,fun a n e H3 g3 w3=>?_⟩⟩
 have sl:=zms ga ja l 0 0 wide high
 generalize z4z ga ja l 0 0 wide high=q at *
 refine Al.intro fun b3 H4 e4 l4 g4 o4=>Lt.setN o4 (n:=3) ω22 rfl fun H5 l5 o5 k5=>?_
 have up3:=w3.up
 have lo3:=w3.lo
 have s3:=(w3.grow g4).keepA (fun x y hx hy=>by cases hx;have:=up3 y hy;show b3≠_;omega) (OwnS.keep1 k5)
 have c1:=(((o1.grow g2).grow g3).grow g4).keep (b':=b3) (by have:=o1.lt;have:=g3.1;omega) k5
 have c2:=((o2.grow g3).grow g4).keep (b':=b3) ω31 k5
 have G5:Grow H H5:=((G2.trans g3).trans g4).keep ω32 k5
 refine Br.intro (fun hp=>?_) (fun hp=>?_)
 ·refine Lt.setN c2 (n:=3) ω22 rfl fun H6 l6 q6 k6=>⟨0,0,none,0,0,(q6.rdN (nbl rfl)).trans rfl,?_⟩
  rw [z3u (z1g hp)] at hk
  exact hk none 0 0 H6 (G5.keep ω2 k6) (OwnS.nil _ _ _ _)
 rw [z1w (z1d hp)] at hk
 refine ⟨q.1,q.2.1,a,n,e,(o5.rdN (nbl rfl)).trans rfl,?_⟩
 refine hch q.1 q.2.1 a n e q.2.2.1 H5 G5 s3.isL ω2 _ fun a7 n7 e7 H7 g7 w7=>?_
 rw [ext0,ext1,zit]
 have hl2:=hlen q.1 q.2.1 q.2.2.1
 generalize ch q.1 q.2.1 q.2.2.1=r at *
 refine Lt.setN (o5.grow g7) (n:=3) (nbl rfl) rfl fun H8 l8 o8 k8=>?_
 rw [zz0]
 have up7:=w7.up
 have lo7:=w7.lo
 have s7:=w7.keepA (fun x y hx hy=>by cases hx;have:=lo7 y hy;have:=o5.lt;show b3≠_;omega) (OwnS.keep1 k8)
 have d1:=(c1.grow g7).keep (b':=b3) (by have:=o1.lt;have:=g3.1;omega) k8
 have d2:=(c2.grow g7).keep (b':=b3) ω31 k8
 have G8:Grow H H8:=(G5.trans g7).keep ω32 k8
 refine Br.intro (fun hp2=>?_) (fun hp2=>?_)
 ·refine Lt.setN d2 (n:=3) ω22 rfl fun H9 l9 q9 k9=>⟨0,0,none,0,0,(q9.rdN (nbl rfl)).trans rfl,?_⟩
  rw [z3u (z1g hp2)] at hk
  exact hk none 0 0 H9 (G8.keep ω2 k9) (OwnS.nil _ _ _ _)
 rw [z1w (z1d hp2)] at hk
 refine ⟨ga,ja,ta,l.length,ya,(d1.rdN (nbl rfl)).trans rfl,r.1,r.2.1,a7,n7,e7,(o8.rdN (nbl rfl)).trans rfl,z1bg ⟨l,r.2.2.1,il.grow G8,s7.isL,bl,by omega,fun a9 n9 e9 H10 g10 w10=>?_⟩⟩
 refine Lt.setN (d2.grow g10) (n:=3) ω22 rfl fun H11 l11 q11 k11=>⟨_,_,a9,n9,e9,(q11.rdN (nbl rfl)).trans rfl,?_⟩
 have lo10:=w10.lo
 have hle:=G8.1
 exact hk a9 n9 e9 H11 ((G8.trans g10).keep ω2 k11) ((w10.keepA (fun x y hx hy=>by cases hx;have:=lo10 y hy;have:=d2.lt;show b2≠_;omega) (OwnS.keep1 k11)).weak hle)
theorem f1zz_ok:FnOkX Tryz.prog (MainCls Tryz.prog) 54 z18t:=FnOkX.bodyF (hLt:=fun _=>z3h) mix_ok ztw Tryz.func54 rfl ω10 ω10 fun args H=>by
 unfold z17m
 split
 ·refine ⟨?_,?_,?_,?_,fun K hk=>f1zz_main _ _ _ _ _ _ _ _ _ _ H K hk⟩
  ·intro K K' h hk;obtain ⟨l,ch,i,b,hlen,hch,k⟩:=hk;exact ⟨l,ch,i,b,hlen,hch,(fun od xd vd H' gg ow0=>h _ _ (k od xd vd H' gg ow0))⟩
  ·nofun
  ·intro K hk;obtain ⟨l,ch,i,b,hlen,hch,k⟩:=hk;exact z4i fun a n e H1 g o=>⟨_,_,k a n e H1 g o⟩
  ·nofun
 ·exact Nice.no
def z2m (ws:LN) (sc:Nat) (W Hi:Int) (l:LN):PicT:=z3e ws sc W Hi l
def z7b (ws:LN) (sc:Nat) (W Hi levels:Int) (k:Nat) (a b:Int) (l:LN):PicT:=z5s (zc6 (z2m ws sc)) a b l (z1e W (k:Int)) (z1e Hi (k:Int))
def z1z (fa:LN) (za:Nat) (ga ja:Int) (ba:LN) (levels:Int):PicT:=
 bif z6r fa za then (bif z1s ga ja ba then (bif zfr levels then z2k (z7b fa za ga ja levels) levels.toNat 0 ga ja ba else (0,0,[],false)) else (0,0,[],false)) else (0,0,[],false)
def T_fdz (eb:OA) (lb mb za:Nat) (ga ja:Int) (ta:OA) (va ya:Nat) (levels:Int) (H:zp) (K:Int→Int→OA→Nat→Nat→Bool→zp→Prop):Prop:=
 ∃(fa ba:LN),IsL fF H eb lb fa∧IsL fF H ta va ba∧fa.length<1073741824∧ba.length<1073741824∧
  (∀(od:OA) (xd vd:Nat),∀H':zp,Grow H H'→OwnS fF H' H.length od xd vd ((z1z fa za ga ja ba levels).2.2.1)→K ((z1z fa za ga ja ba levels).1) ((z1z fa za ga ja ba levels).2.1) od xd vd ((z1z fa za ga ja ba levels).2.2.2) H')
theorem z1bb {eb:OA} {lb mb za:Nat} {ga ja:Int} {ta:OA} {va ya:Nat} {levels:Int} {H:zp} {K:Int→Int→OA→Nat→Nat→Bool→zp→Prop} (h:∃(fa ba:LN),IsL fF H eb lb fa∧IsL fF H ta va ba∧fa.length<1073741824∧ba.length<1073741824∧
  (∀(od:OA) (xd vd:Nat),∀H':zp,Grow H H'→OwnS fF H' H.length od xd vd ((z1z fa za ga ja ba levels).2.2.1)→K ((z1z fa za ga ja ba levels).1) ((z1z fa za ga ja ba levels).2.1) od xd vd ((z1z fa za ga ja ba levels).2.2.2) H')):T_fdz eb lb mb za ga ja ta va ya levels H K:=h
theorem z1du (ws:LN) (sc:Nat) (W Hi:Int) (l:LN) (levels:Int):(z1z ws sc W Hi l levels).2.2.1.length≤1024:=by
 unfold z1z
 cases z6r ws sc with
 | false=>exact Nat.zero_le _
 | true=>
  cases h:z1s W Hi l with
  | false=>exact Nat.zero_le _
  | true=>
   cases zfr levels with
   | false=>exact Nat.zero_le _
   | true=>
    rw [cond_true,cond_true,cond_true]
    obtain ⟨h1,h2,h3,h4,h5,h6,_⟩:=f8z_t h
    exact zyb (fun k a b l=>f1zz_len _ _ _ _ _ _) _ _ _ _ _ ω2
def zfb:Env:=envOf [(999996,z8l),(49,S_ffz),(50,zm4),(51,S_ftz),(53,zui),(55,zuj),(54,z18t)]
def F_fdz (args:List Value) (H:zp):(Value→zp→Prop)→Prop:=match args with
 | [.agg ⟨[.slice eb lb mb,.float .f32 za]⟩,.agg ⟨[.int .i64 ga,.int .i64 ja,.slice ta va ya]⟩,.int .i64 levels]=>fun K=>T_fdz eb lb mb za ga ja ta va ya levels H fun (tc:Int) (nc:Int) (ma:OA) (sa:Nat) (oa:Nat) (r2:Bool) (H':zp)=>K (.tuple #[.agg #[.int .i64 tc,.int .i64 nc,.slice ma sa oa],.bool r2]) H'
 | _=>fun _=>False
def S_fdz:FSpec:={F:=F_fdz,quiet:=false,tame:=false}
theorem z1h5 (eb:OA) (lb mb za:Nat) (ga ja:Int) (ta:OA) (va ya:Nat) (levels:Int) (H:zp) (K:KT):zw Tryz.prog zfb Tryz.f21 [.agg #[.slice eb lb mb,.float .f32 za],.agg #[.int .i64 ga,.int .i64 ja,.slice ta va ya],.int .i64 levels] H K=
 (Al [.slice eb lb mb,.float .f32 za] H fun b1 H1=>Al [.int .i64 ga,.int .i64 ja,.slice ta va ya] H1 fun b2 H2=>Al [.int .i64 0,.int .i64 0,.slice none 0 0] H2 fun b3 H3=>∃ni:OA,∃(qi oi c2:Nat),  rdN H3 b1 0 2=some [.slice ni qi oi,.float .f32 c2]∧zq0 ni qi oi c2 H3 fun (r1:Bool) (H4:zp)=>Br (!r1) (isOwn H4 b3∧(∃l,rdN H4 b3 0 3=some l)∧Lt (setN H4 b3 0 [.int .i64 0,.int .i64 0,.slice none 0 0]) fun H5=>∃(c3 c4:Int),∃zi:OA,∃(bj aj:Nat),  rdN H5 b3 0 3=some [.int .i64 c3,.int .i64 c4,.slice zi bj aj]∧K (.tuple #[.agg #[.int .i64 c3,.int .i64 c4,.slice zi bj aj],.bool false]) H5) (∃(c6 c7:Int),∃cj:OA,∃(fj dj:Nat),  rdN H4 b2 0 3=some [.int .i64 c6,.int .i64 c7,.slice cj fj dj]∧zhn c6 c7 cj fj dj H4 fun (r2:Bool) (H6:zp)=>Br (!r2) (isOwn H6 b3∧(∃l,rdN H6 b3 0 3=some l)∧Lt (setN H6 b3 0 [.int .i64 0,.int .i64 0,.slice none 0 0]) fun H7=>∃(c9 c10:Int),∃wi:OA,∃(yi xi:Nat),  rdN H7 b3 0 3=some [.int .i64 c9,.int .i64 c10,.slice wi yi xi]∧K (.tuple #[.agg #[.int .i64 c9,.int .i64 c10,.slice wi yi xi],.bool false]) H7) (zm7 levels H6 fun (r3:Bool) (H8:zp)=>Br (!r3) (isOwn H8 b3∧(∃l,rdN H8 b3 0 3=some l)∧Lt (setN H8 b3 0 [.int .i64 0,.int .i64 0,.slice none 0 0]) fun H9=>∃(c12 c13:Int),∃ak:OA,∃(ck bk:Nat),  rdN H9 b3 0 3=some [.int .i64 c12,.int .i64 c13,.slice ak ck bk]∧K (.tuple #[.agg #[.int .i64 c12,.int .i64 c13,.slice ak ck bk],.bool false]) H9) (Al [.nilFunc] H8 fun b4 H10=>isOwn H10 b4∧(∃l,rdN H10 b4 0 1=some l)∧Lt (setC H10 b4 0 (.func (.func 63) #[] #[.pointer (some ⟨b1,0,none⟩)])) fun H11=>∃og:OA,∃(eg qg:Nat),  rdC H11 b2 2=some (.slice og eg qg)∧∃x2:Int,  rdC H11 b2 1=some (.int .i64 x2)∧∃x3:Int,  rdC H11 b2 0=some (.int .i64 x3)∧zjc og eg qg H11 fun (a1:OA) (r4:Nat) (r5:Nat) (H12:zp)=>Al [.int .i64 0,.int .i64 0,.slice none 0 0] H12 fun b5 H13=>isOwn H13 b5∧(∃l,rdN H13 b5 0 3=some l)∧Lt (setN H13 b5 0 [.int .i64 x3,.int .i64 x2,.slice a1 r4 r5]) fun H14=>z1n (exL Tryz.prog zfb (cl (cl (cr (cl (cr (cr (cr (cr (zq Tryz.f21))))))))) 206158431056 192 [(0,576)]) (ud4 (.pointer (some ⟨b2,0,none⟩)::ud::.pointer (some ⟨b3,0,none⟩)::ud::.pointer (some ⟨b4,0,none⟩)::.pointer (some ⟨b5,0,none⟩)::ud26 (.int .i64 levels::.int .i64 0::ud22 []))) H14 (z1a 0 (seqQ (exL Tryz.prog zfb (cr (cr (cr (cr (cr (zq Tryz.f21)))))) 192 192 []) (retK Tryz.prog Tryz.f21 K))))))):=by kernel_rfl
abbrev zjv (b2 b3 b4 b5:Nat) (levels t37:Int)  :List Value:=(ud4 (.pointer (some ⟨b2,0,none⟩)::ud::.pointer (some ⟨b3,0,none⟩)::ud::.pointer (some ⟨b4,0,none⟩)::.pointer (some ⟨b5,0,none⟩)::ud26 (.int .i64 levels::.int .i64 t37::ud22 [])))
theorem z1h4 (b2 b3 b4 b5:Nat) (levels t37:Int)  (H:zp) (R:Post):exL Tryz.prog zfb (cl (cl (cr (cl (cr (cr (cr (cr (zq Tryz.f21))))))))) 206158431056 192 [(0,576)] (zjv b2 b3 b4 b5 levels t37) H R=
 (Br (decide ((t37:Int)<levels)) (∃x4:Int,  rdC H b2 1=some (.int .i64 x4)∧∃x5:Int,  rdC H b2 0=some (.int .i64 x5)∧∃(c15 c16:Int),∃uk:OA,∃(xk vk:Nat),  rdN H b5 0 3=some [.int .i64 c15,.int .i64 c16,.slice uk xk vk]∧zb0 x5 t37 H fun (r6:Int) (H15:zp)=>zb0 x4 t37 H15 fun (r7:Int) (H16:zp)=>zoh c15 c16 uk xk vk r6 r7 (.func 64) #[] #[.pointer (some ⟨b4,0,none⟩)] H16 fun (r8:Int) (r9:Int) (a2:OA) (r10:Nat) (r11:Nat) (r12:Bool) (H17:zp)=>Al [.int .i64 0,.int .i64 0,.slice none 0 0] H17 fun b6 H18=>isOwn H18 b6∧(∃l,rdN H18 b6 0 3=some l)∧Lt (setN H18 b6 0 [.int .i64 r8,.int .i64 r9,.slice a2 r10 r11]) fun H19=>Br (!r12) (isOwn H19 b3∧(∃l,rdN H19 b3 0 3=some l)∧Lt (setN H19 b3 0 [.int .i64 0,.int .i64 0,.slice none 0 0]) fun H20=>R .ret (ud6 (.pointer (some ⟨b3,0,none⟩)::.bool false::ud52 [])) H20) (∃(c18 c19:Int),∃ik:OA,∃(lk jk:Nat),  rdN H19 b6 0 3=some [.int .i64 c18,.int .i64 c19,.slice ik lk jk]∧isOwn H19 b5∧(∃l,rdN H19 b5 0 3=some l)∧Lt (setN H19 b5 0 [.int .i64 c18,.int .i64 c19,.slice ik lk jk]) fun H21=>R .normal (ud4 (.pointer (some ⟨b2,0,none⟩)::ud::.pointer (some ⟨b3,0,none⟩)::ud::.pointer (some ⟨b4,0,none⟩)::.pointer (some ⟨b5,0,none⟩)::ud26 (.int .i64 levels::.int .i64 (IntKind.wrap .i64 (t37+1))::ud22 []))) H21)) (R (.exit 0) (ud6 (.pointer (some ⟨b3,0,none⟩)::ud2 (.pointer (some ⟨b5,0,none⟩)::ud50 []))) H)):=by kernel_rfl
def zwt (b2 b3 b4 b5:Nat) (levels:Int) (Inv:Nat→Int→zp→Prop):Nat→List Value→zp→Prop:=fun μ tm H=>∃t37:Int,tm=(zjv b2 b3 b4 b5 levels t37)∧Inv μ t37 H
theorem z1h1 (b2 b3 b4 b5:Nat) (levels:Int) {Q:Post} (Inv:Nat→Int→zp→Prop) (ν:Nat) (t37:Int)  (H:zp) (h0:Inv ν t37 H)
  (hs:∀(μ:Nat) (t37:Int)  (H:zp),Inv μ t37 H→exL Tryz.prog zfb (cl (cl (cr (cl (cr (cr (cr (cr (zq Tryz.f21))))))))) 206158431056 192 [(0,576)] (zjv b2 b3 b4 b5 levels t37) H (z1b (zwt b2 b3 b4 b5 levels Inv) μ Q)):z1n (exL Tryz.prog zfb (cl (cl (cr (cl (cr (cr (cr (cr (zq Tryz.f21))))))))) 206158431056 192 [(0,576)]) (zjv b2 b3 b4 b5 levels t37) H Q:=
 ⟨zwt b2 b3 b4 b5 levels Inv,ν,⟨t37,rfl,h0⟩,fun μ tm H h=>by obtain ⟨t37,rfl,hI⟩:=h;exact hs μ t37  H hI⟩
theorem z1h2 {b2 b3 b4 b5:Nat} {levels:Int} {Q:Post} {Inv:Nat→Int→zp→Prop} {μ:Nat} (μ':Nat) {t37:Int}  {H:zp} (hm:μ'<μ) (hI:Inv μ' t37 H):z1b (zwt b2 b3 b4 b5 levels Inv) μ Q .normal (zjv b2 b3 b4 b5 levels t37) H:=⟨μ',hm,t37,rfl,hI⟩
theorem z12q (b3 b5:Nat) (H:zp) (K:KT)  {I:Nat→List Value→zp→Prop} {μ:Nat}:z1b I μ (z1a 0 (seqQ (exL Tryz.prog zfb (cr (cr (cr (cr (cr (zq Tryz.f21)))))) 192 192 []) (retK Tryz.prog Tryz.f21 K))) (.exit 0) (ud6 (.pointer (some ⟨b3,0,none⟩)::ud2 (.pointer (some ⟨b5,0,none⟩)::ud50 []))) H=
 (∃(c21 c22:Int),∃yk:OA,∃(fl dl:Nat),  rdN H b5 0 3=some [.int .i64 c21,.int .i64 c22,.slice yk fl dl]∧isOwn H b3∧(∃l,rdN H b3 0 3=some l)∧Lt (setN H b3 0 [.int .i64 c21,.int .i64 c22,.slice yk fl dl]) fun H22=>∃(c24 c25:Int),∃gl:OA,∃(kl jl:Nat),  rdN H22 b3 0 3=some [.int .i64 c24,.int .i64 c25,.slice gl kl jl]∧K (.tuple #[.agg #[.int .i64 c24,.int .i64 c25,.slice gl kl jl],.bool true]) H22):=by kernel_rfl
theorem zqc (b3:Nat) (t7:Bool) (H:zp) (K:KT)  {I:Nat→List Value→zp→Prop} {μ:Nat}:z1b I μ (z1a 0 (seqQ (exL Tryz.prog zfb (cr (cr (cr (cr (cr (zq Tryz.f21)))))) 192 192 []) (retK Tryz.prog Tryz.f21 K))) .ret (ud6 (.pointer (some ⟨b3,0,none⟩)::.bool t7::ud52 [])) H=
 (∃(c27 c28:Int),∃ml:OA,∃(ql ol:Nat),  rdN H b3 0 3=some [.int .i64 c27,.int .i64 c28,.slice ml ql ol]∧K (.tuple #[.agg #[.int .i64 c27,.int .i64 c28,.slice ml ql ol],.bool t7]) H):=by kernel_rfl
theorem zzi:∀g,FnOkX Tryz.prog (MainCls Tryz.prog) g (zfb g):=FnOkX.envOf (by
 intro x hx
 simp only [List.mem_cons,List.not_mem_nil,or_false] at hx
 rcases hx with rfl | rfl | rfl | rfl | rfl | rfl | rfl
 ·exact z7c _ _
 ·exact zwu.le fun _ _ _=>trivial
 ·exact f8z_ok.le fun _ _ _=>trivial
 ·exact z19o.le fun _ _ _=>trivial
 ·exact zwm.le fun _ _ _=>trivial
 ·exact zwo.le fun _ _ _=>trivial
 ·exact f1zz_ok)
theorem zcp (ws:LN) (sc:Nat) (W Hi:Int) (l:LN):(z2m ws sc W Hi l).2.2.1.length≤1024:=f19z_len ws sc W Hi l
theorem zh1 {H:zp} {c:Nat} {wa:OA} {wn we sc:Nat} {ws:LN} (o:Own H c [.slice wa wn we,.float .f32 sc]) (iw:IsL fF H wa wn ws) (bw:ws.length<1073741824) (W Hi:Int) (la:OA) (ln le:Nat) (l:LN) (H1:zp) (g:Grow H H1) (il:IsL fF H1 la ln l) (bl:l.length<1073741824) (K:KT)
  (hK:∀(a:OA) (n e:Nat) (H2:zp),Grow H1 H2→OwnS fF H2 H1.length a n e (z2m ws sc W Hi l).2.2.1→K (.tuple #[.agg #[.int .i64 (z2m ws sc W Hi l).1,.int .i64 (z2m ws sc W Hi l).2.1,.slice a n e],.bool (z2m ws sc W Hi l).2.2.2]) H2):
  T_f5z W Hi la ln le c H1 fun r1 r2 a n e r H'=>K (.tuple #[.agg #[.int .i64 r1,.int .i64 r2,.slice a n e],.bool r]) H':=
 ⟨wa,wn,we,sc,l,ws,((o.grow g).rdN (nbl rfl)).trans rfl,il,iw.grow g,bl,bw,fun a n e H2 g2 w2=>hK a n e H2 g2 w2⟩
theorem zlu {H:zp} {c:Nat} {wa:OA} {wn we sc:Nat} {ws:LN} (o:Own H c [.slice wa wn we,.float .f32 sc]) (iw:IsL fF H wa wn ws) (bw:ws.length<1073741824):zct zpz (.func (.func 63) #[] #[.pointer (some ⟨c,0,none⟩)]) H (z2m ws sc):=
 fun W Hi la ln le l H1 g il bl K hK=>zh1 o iw bw W Hi la ln le l H1 g il bl K hK
theorem zlv {H:zp} {c:Nat} {wa:OA} {wn we sc:Nat} {ws:LN} (o:Own H c [.slice wa wn we,.float .f32 sc]) (iw:IsL fF H wa wn ws) (bw:ws.length<1073741824):zct zce (.func (.func 63) #[] #[.pointer (some ⟨c,0,none⟩)]) H (z2m ws sc):=
 fun W Hi la ln le l H1 g il bl K hK=>zh1 o iw bw W Hi la ln le l H1 g il bl K hK
theorem zmc {H:zp} {c d:Nat} {wa:OA} {wn we sc:Nat} {ws:LN} (o:Own H c [.slice wa wn we,.float .f32 sc]) (o2:Own H d [.func (.func 63) #[] #[.pointer (some ⟨c,0,none⟩)]]) (iw:IsL fF H wa wn ws) (bw:ws.length<1073741824):zct zd9 (.func (.func 64) #[] #[.pointer (some ⟨d,0,none⟩)]) H (zc6 (z2m ws sc)):=by
 intro W Hi la ln le l H1 g il bl K hK
 refine (?_:T_f6z W Hi la ln le d H1 fun r1 r2 a n e r H'=>K (.tuple #[.agg #[.int .i64 r1,.int .i64 r2,.slice a n e],.bool r]) H')
 exact ⟨l,_,_,_,z2m ws sc,il,bl,((o2.grow g).rdC 0).trans rfl,zcp ws sc,(zlu o iw bw).grow g,(zlv o iw bw).grow g,fun a n e H2 g2 w2=>hK a n e H2 g2 w2⟩
theorem z12p (eb:OA) (lb mb za:Nat) (ga ja:Int) (ta:OA) (va ya:Nat) (levels:Int) (H:zp) (K:KT) (h:T_fdz eb lb mb za ga ja ta va ya levels H fun (tc:Int) (nc:Int) (ma:OA) (sa:Nat) (oa:Nat) (r2:Bool) (H':zp)=>K (.tuple #[.agg #[.int .i64 tc,.int .i64 nc,.slice ma sa oa],.bool r2]) H'):zw Tryz.prog zfb Tryz.f21 [.agg #[.slice eb lb mb,.float .f32 za],.agg #[.int .i64 ga,.int .i64 ja,.slice ta va ya],.int .i64 levels] H K:=by
 rw [z1h5]
 obtain ⟨ws,l,iw,il,bw,bl,hk⟩:=h
 obtain rfl:=iw.eqn
 obtain rfl:=il.eqn
 have e:z1z ws za ga ja l levels=(bif z6r ws za then (bif z1s ga ja l then (bif zfr levels then z2k (z7b ws za ga ja levels) levels.toNat 0 ga ja l else (0,0,[],false)) else (0,0,[],false)) else (0,0,[],false)):=rfl
 rw [e] at hk
 refine Al.intro fun b1 H1 e1 l1 g1 o1=>Al.intro fun b2 H2 e2 l2 g2 o2=>Al.intro fun b3 H3 e3 l3 g3 o3=>?_
 have G3:Grow H H3:=(g1.trans g2).trans g3
 have p1:=(o1.grow g2).grow g3
 have p2:=o2.grow g3
 refine ⟨eb,ws.length,mb,za,(p1.rdN (nbl rfl)).trans rfl,zm5 ⟨ws,iw.grow G3,bw,fun H4 g4=>?_⟩⟩
 refine Br.intro (fun hv=>?_) (fun hv=>?_)
 ·refine Lt.setN (o3.grow g4) (n:=3) ω22 rfl fun H5 l5 q5 k5=>⟨0,0,none,0,0,(q5.rdN (nbl rfl)).trans rfl,?_⟩
  rw [z1g hv,cond_false] at hk
  exact hk none 0 0 H5 ((G3.trans g4).keep ω2 k5) (OwnS.nil _ _ _ _)
 rw [z1d hv,cond_true] at hk
 refine ⟨ga,ja,ta,l.length,ya,((p2.grow g4).rdN (nbl rfl)).trans rfl,zbx ⟨l,il.grow (G3.trans g4),bl,fun H6 g6=>?_⟩⟩
 have q3:=(o3.grow g4).grow g6
 refine Br.intro (fun hp=>?_) (fun hp=>?_)
 ·refine Lt.setN q3 (n:=3) ω22 rfl fun H7 l7 q7 k7=>⟨0,0,none,0,0,(q7.rdN (nbl rfl)).trans rfl,?_⟩
  rw [z1g hp,cond_false] at hk
  exact hk none 0 0 H7 (((G3.trans g4).trans g6).keep ω2 k7) (OwnS.nil _ _ _ _)
 have hpv:=z1d hp
 rw [hpv,cond_true] at hk
 obtain ⟨w1,w2,w3,w4,w5,w6,w7⟩:=f8z_t hpv
 have G6:Grow H H6:=(G3.trans g4).trans g6
 unfold zm7
 refine Br.intro (fun hp=>?_) (fun hp=>?_)
 ·refine Lt.setN q3 (n:=3) ω22 rfl fun H7 l7 q7 k7=>⟨0,0,none,0,0,(q7.rdN (nbl rfl)).trans rfl,?_⟩
  rw [z1g hp,cond_false] at hk
  exact hk none 0 0 H7 (G6.keep ω2 k7) (OwnS.nil _ _ _ _)
 have hlv:=z1d hp
 rw [hlv,cond_true] at hk
 obtain ⟨v1,v2⟩:1≤levels∧levels≤4:=f22z_t hlv
 obtain ⟨m,rfl⟩:∃m:Nat,levels=(m:Int):=⟨levels.toNat,by omega⟩
 rw [Int.toNat_natCast] at hk
 have q1:=(p1.grow g4).grow g6
 have q2:=(p2.grow g4).grow g6
 refine Al.intro fun b4 H10 e10 l10 g10 o10=>Lt.set o10 ω22 fun H11 l11 o11 k11=>?_
 have G11:Grow H H11:=(G6.trans g10).keep (by have:=G6.1;omega) k11
 have r1:=(q1.grow g10).keep (b':=b4) (by have:=q1.lt;omega) k11
 have r2:=(q2.grow g10).keep (b':=b4) (by have:=q2.lt;omega) k11
 have r3:=(q3.grow g10).keep (b':=b4) (by have:=q3.lt;omega) k11
 refine ⟨ta,l.length,ya,(r2.rdC 2).trans rfl,ja,(r2.rdC 1).trans rfl,ga,(r2.rdC 0).trans rfl,zog ⟨l,il.grow G11,bl,fun a n e H12 g12 w12=>?_⟩⟩
 refine Al.intro fun b5 H13 e13 l13 g13 o13=>Lt.setN o13 (n:=3) ω22 rfl fun H14 l14 o14 k14=>?_
 have g1113:Grow H11 H13:=g12.trans g13
 have up12:=w12.up
 have lo12:=w12.lo
 have le12:=g12.1
 have G14:Grow H H14:=(G11.trans g1113).keep (by have:=G11.1;omega) k14
 have s1:=(r1.grow g1113).keep (b':=b5) (by have:=r1.lt;omega) k14
 have s2:=(r2.grow g1113).keep (b':=b5) (by have:=r2.lt;omega) k14
 have s3:=(r3.grow g1113).keep (b':=b5) (by have:=r3.lt;omega) k14
 have s4:=(o11.grow g1113).keep (b':=b5) (by have:=o11.lt;omega) k14
 have ow:=(w12.grow g13).keepA (fun x y hx hy=>by cases hx;have:=up12 y hy;show b5≠_;omega) (OwnS.keep1 k14)
 have hle:H.length≤H11.length:=G11.1
 have h5:H11.length≤b5:=by omega
 have L3:=r3.lt
 have L2:=r2.lt
 have L1:=r1.lt
 have L4:=o11.lt
 refine z1h1 b2 b3 b4 b5 (m:Int) (fun μ t H'=>∃(k:Nat) (a b:Int) (nl:LN),t=(k:Int)∧k≤m∧μ=m-k∧nl.length≤1024∧z2k (z7b ws za ga ja (m:Int)) (m-k) k a b nl=z2k (z7b ws za ga ja (m:Int)) m 0 ga ja l∧z3i b5 H14 H'∧∃(na:OA) (nn ne:Nat),Own H' b5 [.int .i64 a,.int .i64 b,.slice na nn ne]∧OwnS fF H' H11.length na nn ne nl) m 0 H14
  ⟨0,ga,ja,l,rfl,Nat.zero_le _,rfl,by omega,rfl,⟨Nat.le_refl _,fun _ _ _=>rfl⟩,a,n,e,o14,ow⟩ ?_
 intro μ t H' hI
 obtain ⟨k,ca,cb,nl,rfl,hkm,rfl,hnl,hit,kp,na,nn,ne,ob,os⟩:=hI
 have lkp:=kp.1
 have t1:=s1.keep (b':=b5) ω2 kp
 have t2:=s2.keep (b':=b5) ω2 kp
 have t3:=s3.keep (b':=b5) ω2 kp
 have t4:=s4.keep (b':=b5) ω2 kp
 have GG:Grow H H':=G14.keep ω2 kp
 have os2:=os.len
 subst os2
 rw [z1h4]
 refine Br.intro (fun hd=>?_) (fun hd=>?_)
 ·have hd':=odt hd
  have hkm':k<m:=by omega
  obtain ⟨j,hj⟩:∃j,m-k=j+1:=⟨m-k-1,by omega⟩
  rw [hj] at hit
  rw [z5a] at hit
  refine ⟨ja,(t2.rdC 1).trans rfl,ga,(t2.rdC 0).trans rfl,ca,cb,na,nl.length,ne,(ob.rdN (nbl rfl)).trans rfl,?_⟩
  refine ⟨w1,w2,by omega,w3,w4,by omega,?_⟩
  refine z11c ⟨nl,zc6 (z2m ws za),os.isL,by omega,fun W Hi l=>f6z_len _ (zcp ws za) W Hi l,zmc t1 t4 (iw.grow GG) bw,fun a17 n17 e17 H17 g17 w17=>?_⟩
  have eq:z5s (zc6 (z2m ws za)) ca cb nl (z1e ga (k:Int)) (z1e ja (k:Int))=z7b ws za ga ja (m:Int) k ca cb nl:=rfl
  rw [eq] at w17
  rw [eq]
  have hlq:(z7b ws za ga ja (m:Int) k ca cb nl).2.2.1.length≤1024:=f1zz_len _ _ _ _ _ _
  generalize z7b ws za ga ja (m:Int) k ca cb nl=q at *
  have up17:=w17.up
  have lo17:=w17.lo
  have le17:=g17.1
  refine Al.intro fun b6 H18 e18 l18 g18 o18=>Lt.setN o18 (n:=3) ω22 rfl fun H19 l19 o19 k19=>?_
  have g1718:Grow H' H18:=g17.trans g18
  have w19:=(w17.grow g18).keepA (fun x y hx hy=>by cases hx;have:=up17 y hy;show b6≠_;omega) (OwnS.keep1 k19)
  have G19:Grow H H19:=(GG.trans g1718).keep ω2 k19
  have u3:=(t3.grow g1718).keep (b':=b6) ω2 k19
  have ub:=(ob.grow g1718).keep (b':=b6) (by have:=ob.lt;omega) k19
  refine Br.intro (fun hp=>?_) (fun hp=>?_)
  ·refine Lt.setN u3 (n:=3) ω22 rfl fun H20 l20 q20 k20=>?_
   rw [zqc]
   refine ⟨0,0,none,0,0,(q20.rdN (nbl rfl)).trans rfl,?_⟩
   rw [z3u (z1g hp)] at hit
   rw [←hit] at hk
   exact hk none 0 0 H20 (G19.keep ω2 k20) (OwnS.nil _ _ _ _)
  ·rw [z1w (z1d hp)] at hit
   refine ⟨q.1,q.2.1,a17,n17,e17,(o19.rdN (nbl rfl)).trans rfl,?_⟩
   refine Lt.setN ub (n:=3) (nbl rfl) rfl fun H21 l21 q21 k21=>?_
   refine z1h2 (m-(k+1)) ω2 ⟨k+1,q.1,q.2.1,q.2.2.1,by rw [zt ω2 ω2];omega,by omega,rfl,hlq,by rw [show m-(k+1)=j by omega];exact hit,?_,a17,n17,e17,q21,?_⟩
   ·refine ⟨by omega,fun i hi hne=>?_⟩
    rw [k21.2 i ω2 hne,k19.2 i ω2 ω2,g1718.2 i ω2,kp.2 i hi hne]
   ·exact (w19.keepA (fun x y hx hy=>by cases hx;have:=lo17 y hy;have:=ob.lt;show b5≠_;omega) (OwnS.keep1 k21)).weak ω2
 ·have hd':=odf hd
  obtain rfl:k=m:=by omega
  rw [Nat.sub_self] at hit
  rw [←hit] at hk
  rw [z12q]
  have lo:=os.lo
  refine ⟨ca,cb,na,nl.length,ne,(ob.rdN (nbl rfl)).trans rfl,Lt.setN t3 (n:=3) (nbl rfl) rfl fun H22 l22 q22 k22=>⟨ca,cb,na,nl.length,ne,(q22.rdN (nbl rfl)).trans rfl,?_⟩⟩
  exact hk na nl.length ne H22 (GG.keep ω2 k22) ((os.keepA (fun x y hx hy=>by cases hx;have:=lo y hy;show b3≠_;omega) (OwnS.keep1 k22)).weak ω2)
theorem z1h3:FnOkX Tryz.prog (MainCls Tryz.prog) 21 S_fdz:=FnOkX.bodyF (hLt:=fun _=>z3h) mix_ok zzi Tryz.func21 rfl ω10 ω10 fun args H=>by
 unfold F_fdz
 split
 ·refine ⟨?_,?_,?_,?_,fun K hk=>z12p _ _ _ _ _ _ _ _ _ _ H K hk⟩
  ·intro K K' h hk;obtain ⟨ws,l,i1,i2,b1,b2,k⟩:=hk;exact ⟨ws,l,i1,i2,b1,b2,(fun od xd vd H' gg ow0=>h _ _ (k od xd vd H' gg ow0))⟩
  ·nofun
  ·intro K hk;obtain ⟨ws,l,i1,i2,b1,b2,k⟩:=hk;exact z4i fun a n e H1 g o=>⟨_,_,k a n e H1 g o⟩
  ·nofun
 ·exact Nice.no

def z1j (wide high level band:Int):Int×Int×Int×Int×Bool:=((bif !((z2w wide (1:Int) (16:Int))) then ((0:Int),(0:Int),(0:Int),(0:Int),false) else (bif !((z2w high (1:Int) (16:Int))) then ((0:Int),(0:Int),(0:Int),(0:Int),false) else (bif !(zfr level) then ((0:Int),(0:Int),(0:Int),(0:Int),false) else (bif !((z2w band (0:Int) (3:Int))) then ((0:Int),(0:Int),(0:Int),(0:Int),false) else (bif (band:Int)==0 then ((0:Int),(0:Int),(z1e ((z1e wide (level-1))) (1:Int)),(z1e ((z1e high (level-1))) (1:Int)),true) else (bif (band:Int)==1 then ((z1e ((z1e wide (level-1))) (1:Int)),(0:Int),(((z1e wide (level-1)))-((z1e ((z1e wide (level-1))) (1:Int)))),(z1e ((z1e high (level-1))) (1:Int)),true) else (bif (band:Int)==2 then ((0:Int),(z1e ((z1e high (level-1))) (1:Int)),(z1e ((z1e wide (level-1))) (1:Int)),(((z1e high (level-1)))-((z1e ((z1e high (level-1))) (1:Int)))),true) else ((z1e ((z1e wide (level-1))) (1:Int)),(z1e ((z1e high (level-1))) (1:Int)),(((z1e wide (level-1)))-((z1e ((z1e wide (level-1))) (1:Int)))),(((z1e high (level-1)))-((z1e ((z1e high (level-1))) (1:Int)))),true)))))))))
def zl0:=@z1j.eq_1
def zj4 (wide high level band:Int) (H:zp) (K:Int→Int→Int→Int→Bool→zp→Prop):Prop:=K ((z1j wide high level band).1) ((z1j wide high level band).2.1) ((z1j wide high level band).2.2.1) ((z1j wide high level band).2.2.2.1) ((z1j wide high level band).2.2.2.2) H
theorem z10o {wide high level band:Int} {H:zp} {K:Int→Int→Int→Int→Bool→zp→Prop} (h:K ((z1j wide high level band).1) ((z1j wide high level band).2.1) ((z1j wide high level band).2.2.1) ((z1j wide high level band).2.2.2.1) ((z1j wide high level band).2.2.2.2) H):zj4 wide high level band H K:=h

def zsu:Env:=envOf [(68,zay),(51,S_ftz),(55,zuj)]
def z16p (args:List Value) (H:zp):(Value→zp→Prop)→Prop:=match args with
 | [.int .i64 wide,.int .i64 high,.int .i64 level,.int .i64 band]=>fun K=>zj4 wide high level band H fun (r1:Int) (r2:Int) (r3:Int) (r4:Int) (r5:Bool) (H':zp)=>K (.tuple #[.int .i64 r1,.int .i64 r2,.int .i64 r3,.int .i64 r4,.bool r5]) H'
 | _=>fun _=>False
def z18c:FSpec:={F:=z16p,quiet:=true,tame:=false}
theorem z1br (wide high level band:Int) (H:zp) (K:KT):zw Tryz.prog zsu Tryz.f34 [.int .i64 wide,.int .i64 high,.int .i64 level,.int .i64 band] H K=
 (z3j wide 1 16 H fun (r1:Bool) (H1:zp)=>Br (!r1) (K (.tuple #[.int .i64 0,.int .i64 0,.int .i64 0,.int .i64 0,.bool false]) H1) (z3j high 1 16 H1 fun (r2:Bool) (H2:zp)=>Br (!r2) (K (.tuple #[.int .i64 0,.int .i64 0,.int .i64 0,.int .i64 0,.bool false]) H2) (zm7 level H2 fun (r3:Bool) (H3:zp)=>Br (!r3) (K (.tuple #[.int .i64 0,.int .i64 0,.int .i64 0,.int .i64 0,.bool false]) H3) (z3j band 0 3 H3 fun (r4:Bool) (H4:zp)=>Br (!r4) (K (.tuple #[.int .i64 0,.int .i64 0,.int .i64 0,.int .i64 0,.bool false]) H4) (zb0 wide (IntKind.wrap .i64 (level-1)) H4 fun (r5:Int) (H5:zp)=>zb0 high (IntKind.wrap .i64 (level-1)) H5 fun (r6:Int) (H6:zp)=>zb0 r5 1 H6 fun (r7:Int) (H7:zp)=>zb0 r6 1 H7 fun (r8:Int) (H8:zp)=>Br ((band:Int)==0) (K (.tuple #[.int .i64 0,.int .i64 0,.int .i64 r7,.int .i64 r8,.bool true]) H8) (Br ((band:Int)==1) (K (.tuple #[.int .i64 r7,.int .i64 0,.int .i64 (IntKind.wrap .i64 (r5-r7)),.int .i64 r8,.bool true]) H8) (Br ((band:Int)==2) (K (.tuple #[.int .i64 0,.int .i64 r8,.int .i64 r7,.int .i64 (IntKind.wrap .i64 (r6-r8)),.bool true]) H8) (K (.tuple #[.int .i64 r7,.int .i64 r8,.int .i64 (IntKind.wrap .i64 (r5-r7)),.int .i64 (IntKind.wrap .i64 (r6-r8)),.bool true]) H8)))))))):=by kernel_rfl
theorem zsv:∀g,FnOk Tryz.prog g (zsu g):=FnOk.envOf (by
 intro x hx
 simp only [List.mem_cons,List.not_mem_nil,or_false] at hx
 rcases hx with rfl | rfl | rfl
 ·exact f22z_ok
 ·exact z19o
 ·exact zwo)
theorem zvl (wide high level band:Int) (H:zp) (K:KT) (h:zj4 wide high level band H fun (r1:Int) (r2:Int) (r3:Int) (r4:Int) (r5:Bool) (H':zp)=>K (.tuple #[.int .i64 r1,.int .i64 r2,.int .i64 r3,.int .i64 r4,.bool r5]) H'):zw Tryz.prog zsu Tryz.f34 [.int .i64 wide,.int .i64 high,.int .i64 level,.int .i64 band] H K:=by
 rw [z1br]
 have hk:=h
 unfold zj4 at hk
 have e:(z1j wide high level band)=_:=rfl
 have e:=e.trans (zl0 wide high level band)
 have g0:=Grow.refl H
 refine z4j ?_
 refine Br.intro (fun c_1=>?_) (fun c_1=>?_)
 ·have e:=e.trans (zv c_1)
  have c_1n:=z1g c_1
  rw [e] at hk
  exact hk
 ·have e:=e.trans (zu c_1)
  have c_1n:=z1d c_1
  have c_1n':=f22z_t c_1n
  refine z4j ?_
  refine Br.intro (fun c_2=>?_) (fun c_2=>?_)
  ·have e:=e.trans (zv c_2)
   have c_2n:=z1g c_2
   rw [e] at hk
   exact hk
  ·have e:=e.trans (zu c_2)
   have c_2n:=z1d c_2
   have c_2n':=f22z_t c_2n
   refine z1bi ?_
   refine Br.intro (fun c_3=>?_) (fun c_3=>?_)
   ·have e:=e.trans (zv c_3)
    have c_3n:=z1g c_3
    rw [e] at hk
    exact hk
   ·have e:=e.trans (zu c_3)
    have c_3n:=z1d c_3
    have c_3n':=ftz_t c_3n
    refine z4j ?_
    refine Br.intro (fun c_4=>?_) (fun c_4=>?_)
    ·have e:=e.trans (zv c_4)
     have c_4n:=z1g c_4
     rw [e] at hk
     exact hk
    ·have e:=e.trans (zu c_4)
     have c_4n:=z1d c_4
     have c_4n':=f22z_t c_4n
     rw [show IntKind.wrap .i64 (level-1)=(level-1) from zt ω2 ω2]
     refine zcz ⟨ω9,ω9,ω9,?_⟩
     have z_5:=zd1 wide (level-1)
     refine zcz ⟨ω9,ω9,ω9,?_⟩
     have z_6:=zd1 high (level-1)
     refine zcz ⟨ω9,ω9,ω9,?_⟩
     have z7:=zd1 ((z1e wide (level-1))) (1:Int)
     refine zcz ⟨ω9,ω9,ω9,?_⟩
     have z8:=zd1 ((z1e high (level-1))) (1:Int)
     refine Br.intro (fun c_9=>?_) (fun c_9=>?_)
     ·have e:=e.trans (zv c_9)
      have c_9':=za1 c_9
      rw [e] at hk
      exact hk
     ·have e:=e.trans (zu c_9)
      have c_9':=z8s c_9
      refine Br.intro (fun c_10=>?_) (fun c_10=>?_)
      ·have e:=e.trans (zv c_10)
       have c_10':=za1 c_10
       rw [show IntKind.wrap .i64 (((z1e wide (level-1)))-((z1e ((z1e wide (level-1))) (1:Int))))=(((z1e wide (level-1)))-((z1e ((z1e wide (level-1))) (1:Int)))) from zt ω2 ω2]
       rw [e] at hk
       exact hk
      ·have e:=e.trans (zu c_10)
       have c_10':=z8s c_10
       refine Br.intro (fun c_11=>?_) (fun c_11=>?_)
       ·have e:=e.trans (zv c_11)
        have c_11':=za1 c_11
        rw [show IntKind.wrap .i64 (((z1e high (level-1)))-((z1e ((z1e high (level-1))) (1:Int))))=(((z1e high (level-1)))-((z1e ((z1e high (level-1))) (1:Int)))) from zt ω2 ω2]
        rw [e] at hk
        exact hk
       ·have e:=e.trans (zu c_11)
        have c_11':=z8s c_11
        rw [show IntKind.wrap .i64 (((z1e wide (level-1)))-((z1e ((z1e wide (level-1))) (1:Int))))=(((z1e wide (level-1)))-((z1e ((z1e wide (level-1))) (1:Int)))) from zt ω2 ω2]
        rw [show IntKind.wrap .i64 (((z1e high (level-1)))-((z1e ((z1e high (level-1))) (1:Int))))=(((z1e high (level-1)))-((z1e ((z1e high (level-1))) (1:Int)))) from zt ω2 ω2]
        rw [e] at hk
        exact hk
theorem z1bq:FnOk Tryz.prog 34 z18c:=FnOk.bodyF mix_ok zsv Tryz.func34 rfl ω10 ω10 fun args H=>by
 unfold z16p
 split
 ·refine ⟨?_,?_,?_,?_,fun K hk=>zvl _ _ _ _ H K hk⟩
  ·intro K K' h hk;have k:=hk;exact h _ _ k
  ·intro _ K hk;have k:=hk;exact ⟨_,k,fun K' k'=>k'⟩
  ·intro K hk;have k:=hk;exact ⟨_,_,k⟩
  ·nofun
 ·exact Nice.no

def z3l (ga ja:Int) (ba:LN) (level band:Int):Int×Int×LN×Bool:=(bif !((z1j ga ja level band).2.2.2.2) then ((0:Int),(0:Int),[],false) else ((z4z ga ja ba ((z1j ga ja level band).1) ((z1j ga ja level band).2.1) ((z1j ga ja level band).2.2.1) ((z1j ga ja level band).2.2.2.1)).1,(z4z ga ja ba ((z1j ga ja level band).1) ((z1j ga ja level band).2.1) ((z1j ga ja level band).2.2.1) ((z1j ga ja level band).2.2.2.1)).2.1,(z4z ga ja ba ((z1j ga ja level band).1) ((z1j ga ja level band).2.1) ((z1j ga ja level band).2.2.1) ((z1j ga ja level band).2.2.2.1)).2.2.1,(z4z ga ja ba ((z1j ga ja level band).1) ((z1j ga ja level band).2.1) ((z1j ga ja level band).2.2.1) ((z1j ga ja level band).2.2.2.1)).2.2.2))
def zem:=@z3l.eq_1
def zoe (ga ja:Int) (ta:OA) (va ya:Nat) (level band:Int) (H:zp) (K:Int→Int→OA→Nat→Nat→Bool→zp→Prop):Prop:=∃ba:LN,IsL fF H ta va ba∧ba.length<1073741824∧((∀(ma:OA) (sa oa:Nat),∀H':zp,Grow H H'→OwnS fF H' H.length ma sa oa ((z3l ga ja ba level band).2.2.1)→K ((z3l ga ja ba level band).1) ((z3l ga ja ba level band).2.1) ma sa oa ((z3l ga ja ba level band).2.2.2) H'))
theorem z10z {ga ja:Int} {ta:OA} {va ya:Nat} {level band:Int} {H:zp} {K:Int→Int→OA→Nat→Nat→Bool→zp→Prop} (h:∃ba:LN,IsL fF H ta va ba∧ba.length<1073741824∧((∀(ma:OA) (sa oa:Nat),∀H':zp,Grow H H'→OwnS fF H' H.length ma sa oa ((z3l ga ja ba level band).2.2.1)→K ((z3l ga ja ba level band).1) ((z3l ga ja ba level band).2.1) ma sa oa ((z3l ga ja ba level band).2.2.2) H'))):zoe ga ja ta va ya level band H K:=h
theorem zou (W H:Int) (L:LN) (level band:Int):((z3l W H L level band).2.2.1.length:Int)≤256:=by
 rw [zem]
 cases (z1j W H level band).2.2.2.2 with
 | false=>show ((0:Nat):Int)≤256;omega
 | true=>exact zms _ _ _ _ _ _ _
def ztp:Env:=envOf [(34,z18c),(36,S_fcz)]
def z17i (args:List Value) (H:zp):(Value→zp→Prop)→Prop:=match args with
 | [.agg ⟨[.int .i64 ga,.int .i64 ja,.slice ta va ya]⟩,.int .i64 level,.int .i64 band]=>fun K=>zoe ga ja ta va ya level band H fun (tc:Int) (nc:Int) (ma:OA) (sa:Nat) (oa:Nat) (r2:Bool) (H':zp)=>K (.tuple #[.agg #[.int .i64 tc,.int .i64 nc,.slice ma sa oa],.bool r2]) H'
 | _=>fun _=>False
def z18r:FSpec:={F:=z17i,quiet:=false,tame:=true}
theorem z1dh (ga ja:Int) (ta:OA) (va ya:Nat) (level band:Int) (H:zp) (K:KT):zw Tryz.prog ztp Tryz.f35 [.agg #[.int .i64 ga,.int .i64 ja,.slice ta va ya],.int .i64 level,.int .i64 band] H K=
 (Al [.int .i64 ga,.int .i64 ja,.slice ta va ya] H fun b1 H1=>Al [.int .i64 0,.int .i64 0,.slice none 0 0] H1 fun b2 H2=>∃x1:Int,  rdC H2 b1 0=some (.int .i64 x1)∧∃x2:Int,  rdC H2 b1 1=some (.int .i64 x2)∧zj4 x1 x2 level band H2 fun (r1:Int) (r2:Int) (r3:Int) (r4:Int) (r5:Bool) (H3:zp)=>Br (!r5) (isOwn H3 b2∧(∃l,rdN H3 b2 0 3=some l)∧Lt (setN H3 b2 0 [.int .i64 0,.int .i64 0,.slice none 0 0]) fun H4=>∃(c1 c2:Int),∃vg:OA,∃(xg wg:Nat),  rdN H4 b2 0 3=some [.int .i64 c1,.int .i64 c2,.slice vg xg wg]∧K (.tuple #[.agg #[.int .i64 c1,.int .i64 c2,.slice vg xg wg],.bool false]) H4) (∃(c4 c5:Int),∃eh:OA,∃(gh fh:Nat),  rdN H3 b1 0 3=some [.int .i64 c4,.int .i64 c5,.slice eh gh fh]∧zur c4 c5 eh gh fh r1 r2 r3 r4 H3 fun (r6:Int) (r7:Int) (a1:OA) (r8:Nat) (r9:Nat) (r10:Bool) (H5:zp)=>isOwn H5 b2∧(∃l,rdN H5 b2 0 3=some l)∧Lt (setN H5 b2 0 [.int .i64 r6,.int .i64 r7,.slice a1 r8 r9]) fun H6=>∃(c7 c8:Int),∃sh:OA,∃(uh th:Nat),  rdN H6 b2 0 3=some [.int .i64 c7,.int .i64 c8,.slice sh uh th]∧K (.tuple #[.agg #[.int .i64 c7,.int .i64 c8,.slice sh uh th],.bool r10]) H6)):=by kernel_rfl
theorem ztq:∀g,FnOk Tryz.prog g (ztp g):=FnOk.envOf (by
 intro x hx
 simp only [List.mem_cons,List.not_mem_nil,or_false] at hx
 rcases hx with rfl | rfl
 ·exact z1bq
 ·exact z19h)
theorem zwj (ga ja:Int) (ta:OA) (va ya:Nat) (level band:Int) (H:zp) (K:KT) (h:zoe ga ja ta va ya level band H fun (tc:Int) (nc:Int) (ma:OA) (sa:Nat) (oa:Nat) (r2:Bool) (H':zp)=>K (.tuple #[.agg #[.int .i64 tc,.int .i64 nc,.slice ma sa oa],.bool r2]) H'):zw Tryz.prog ztp Tryz.f35 [.agg #[.int .i64 ga,.int .i64 ja,.slice ta va ya],.int .i64 level,.int .i64 band] H K:=by
 rw [z1dh]
 obtain ⟨ba,nd,bd_59,hk⟩:=h
 obtain rfl:=nd.eqn
 have e:(z3l ga ja ba level band)=_:=rfl
 have e:=e.trans (zem ga ja ba level band)
 have g0:=Grow.refl H
 refine Al.intro (fun b_1 H_1 hb_2 hl_3 g_4 o_5=>?_)
 have l_7:=g_4.1
 have g_8:=g0.trans g_4
 have l_9:=g_8.1
 have w58:=o_5.lt
 refine Al.intro (fun b_10 H_2 hb_11 hl_12 g_13 o_14=>?_)
 have l_16:=g_13.1
 have g_17:=g_8.trans g_13
 have l_18:=g_17.1
 have o_19:=o_5.grow g_13
 have w20:=o_19.lt
 have w57:=o_14.lt
 refine ⟨ga,(o_19.rdC _).trans rfl,?_⟩
 refine ⟨ja,(o_19.rdC _).trans rfl,?_⟩
 refine z10o ?_
 refine Br.intro (fun c_21=>?_) (fun c_21=>?_)
 ·have e:=e.trans (zv c_21)
  have c_21n:=z1g c_21
  refine Lt.setN (n:=3) o_14 (nbl rfl) rfl (fun H_3 hl_22 o24 k23=>?_)
  have o24:Own H_3 b_10 [.int .i64 0,.int .i64 0,.slice none 0 0]:=o24
  have l25:=k23.1
  have g26:=g_17.keep (b:=b_10) ω2 k23
  have l27:=g26.1
  have o28:=o_19.keep ω2 k23
  have w29:=o28.lt
  have w30:=o24.lt
  refine ⟨0,0,none,0,0,(o24.rdN (nbl rfl)).trans rfl,?_⟩
  rw [e] at hk
  exact hk _ _ _ H_3 g26 ω17
 ·have e:=e.trans (zu c_21)
  have c_21n:=z1d c_21
  refine ⟨ga,ja,ta,ba.length,ya,(o_19.rdN (nbl rfl)).trans rfl,?_⟩
  refine zus ⟨_,(nd.grow g_17),ω0,fun a31 n32 e33 H_4 g36 r_34=>?_⟩
  have z35:=zms ga ja ba ((z1j ga ja level band).1) ((z1j ga ja level band).2.1) ((z1j ga ja level band).2.2.1) ((z1j ga ja level band).2.2.2.1)
  have l37:=g36.1
  have g38:=g_17.trans g36
  have l39:=g38.1
  have o40:=o_19.grow g36
  have w41:=o40.lt
  have o42:=o_14.grow g36
  have w43:=o42.lt
  obtain rfl:=r_34.isL.eqn
  have u44:=r_34.up
  have u45:=r_34.lo
  refine Lt.setN (n:=3) o42 (nbl rfl) rfl (fun H_5 hl_47 o49 k48=>?_)
  have o49:Own H_5 b_10 [.int .i64 ((z4z ga ja ba ((z1j ga ja level band).1) ((z1j ga ja level band).2.1) ((z1j ga ja level band).2.2.1) ((z1j ga ja level band).2.2.2.1)).1),.int .i64 ((z4z ga ja ba ((z1j ga ja level band).1) ((z1j ga ja level band).2.1) ((z1j ga ja level band).2.2.1) ((z1j ga ja level band).2.2.2.1)).2.1),.slice a31 (((z4z ga ja ba ((z1j ga ja level band).1) ((z1j ga ja level band).2.1) ((z1j ga ja level band).2.2.1) ((z1j ga ja level band).2.2.2.1)).2.2.1).length) e33]:=o49
  have l50:=k48.1
  have g51:=g38.keep (b:=b_10) ω2 k48
  have l52:=g51.1
  have o53:=o40.keep ω2 k48
  have w54:=o53.lt
  have r_55:=r_34.keep u44 ω2 k48
  have w56:=o49.lt
  refine ⟨(z4z ga ja ba ((z1j ga ja level band).1) ((z1j ga ja level band).2.1) ((z1j ga ja level band).2.2.1) ((z1j ga ja level band).2.2.2.1)).1,(z4z ga ja ba ((z1j ga ja level band).1) ((z1j ga ja level band).2.1) ((z1j ga ja level band).2.2.1) ((z1j ga ja level band).2.2.2.1)).2.1,a31,((z4z ga ja ba ((z1j ga ja level band).1) ((z1j ga ja level band).2.1) ((z1j ga ja level band).2.2.1) ((z1j ga ja level band).2.2.2.1)).2.2.1).length,e33,(o49.rdN (nbl rfl)).trans rfl,?_⟩
  rw [e] at hk
  exact hk _ _ _ H_5 g51 (r_55.weak ω2)
theorem z1dg:FnOk Tryz.prog 35 z18r:=FnOk.bodyF mix_ok ztq Tryz.func35 rfl ω10 ω10 fun args H=>by
 unfold z17i
 split
 ·refine ⟨?_,?_,?_,?_,fun K hk=>zwj _ _ _ _ _ _ _ H K hk⟩
  ·intro K K' h hk;obtain ⟨ba,nd,bd_59,k⟩:=hk;exact ⟨ba,nd,bd_59,(fun ma sa oa H' gg ow0=>h _ _ (k ma sa oa H' gg ow0))⟩
  ·nofun
  ·intro K hk;obtain ⟨ba,nd,bd_59,k⟩:=hk;exact z4i fun a n e H1 g o=>⟨_,_,k a n e H1 g o⟩
  ·intro _ K hk;obtain ⟨ba,nd,bd_59,k⟩:=hk;exact ⟨ba,nd,bd_59,(fun ma sa oa H' gg ow0=>⟨gg,k ma sa oa H' gg ow0⟩)⟩
 ·exact Nice.no

def z1i (fa:LN) (za:Nat) (ga ja:Int) (ba:LN) (levels:Int):Int×Int×LN×Bool:=(bif !((z1z fa za ga ja ba levels).2.2.2) then ((0:Int),(0:Int),[],false) else ((z3l ((z1z fa za ga ja ba levels).1) ((z1z fa za ga ja ba levels).2.1) ((z1z fa za ga ja ba levels).2.2.1) levels (0:Int)).1,(z3l ((z1z fa za ga ja ba levels).1) ((z1z fa za ga ja ba levels).2.1) ((z1z fa za ga ja ba levels).2.2.1) levels (0:Int)).2.1,(z3l ((z1z fa za ga ja ba levels).1) ((z1z fa za ga ja ba levels).2.1) ((z1z fa za ga ja ba levels).2.2.1) levels (0:Int)).2.2.1,(z3l ((z1z fa za ga ja ba levels).1) ((z1z fa za ga ja ba levels).2.1) ((z1z fa za ga ja ba levels).2.2.1) levels (0:Int)).2.2.2))
def zej:=@z1i.eq_1
def zja (eb:OA) (lb mb za:Nat) (ga ja:Int) (ta:OA) (va ya:Nat) (levels:Int) (H:zp) (K:Int→Int→OA→Nat→Nat→Bool→zp→Prop):Prop:=∃(fa ba:LN),IsL fF H eb lb fa∧IsL fF H ta va ba∧fa.length<1073741824∧ba.length<1073741824∧((∀(ma:OA) (sa oa:Nat),∀H':zp,Grow H H'→OwnS fF H' H.length ma sa oa ((z1i fa za ga ja ba levels).2.2.1)→K ((z1i fa za ga ja ba levels).1) ((z1i fa za ga ja ba levels).2.1) ma sa oa ((z1i fa za ga ja ba levels).2.2.2) H'))
theorem zo3 {eb:OA} {lb mb za:Nat} {ga ja:Int} {ta:OA} {va ya:Nat} {levels:Int} {H:zp} {K:Int→Int→OA→Nat→Nat→Bool→zp→Prop} (h:∃(fa ba:LN),IsL fF H eb lb fa∧IsL fF H ta va ba∧fa.length<1073741824∧ba.length<1073741824∧((∀(ma:OA) (sa oa:Nat),∀H':zp,Grow H H'→OwnS fF H' H.length ma sa oa ((z1i fa za ga ja ba levels).2.2.1)→K ((z1i fa za ga ja ba levels).1) ((z1i fa za ga ja ba levels).2.1) ma sa oa ((z1i fa za ga ja ba levels).2.2.2) H'))):zja eb lb mb za ga ja ta va ya levels H K:=h
theorem zos (ws:LN) (sc:Nat) (W Hi:Int) (l:LN) (levels:Int):(z1i ws sc W Hi l levels).2.2.1.length≤1024:=by
 rw [zej]
 generalize z1z ws sc W Hi l levels=q
 cases q.2.2.2 with
 | false=>exact Nat.zero_le _
 | true=>
  have:=zou q.1 q.2.1 q.2.2.1 levels 0
  rw [Bool.not_true,cond_false]
  show (z3l q.1 q.2.1 q.2.2.1 levels 0).2.2.1.length≤1024
  omega
def ztb:Env:=envOf [(21,S_fdz),(35,z18r)]
def z16y (args:List Value) (H:zp):(Value→zp→Prop)→Prop:=match args with
 | [.agg ⟨[.slice eb lb mb,.float .f32 za]⟩,.agg ⟨[.int .i64 ga,.int .i64 ja,.slice ta va ya]⟩,.int .i64 levels]=>fun K=>zja eb lb mb za ga ja ta va ya levels H fun (tc:Int) (nc:Int) (ma:OA) (sa:Nat) (oa:Nat) (r2:Bool) (H':zp)=>K (.tuple #[.agg #[.int .i64 tc,.int .i64 nc,.slice ma sa oa],.bool r2]) H'
 | _=>fun _=>False
def z18j:FSpec:={F:=z16y,quiet:=false,tame:=true}
theorem z1cj (eb:OA) (lb mb za:Nat) (ga ja:Int) (ta:OA) (va ya:Nat) (levels:Int) (H:zp) (K:KT):zw Tryz.prog ztb Tryz.f37 [.agg #[.slice eb lb mb,.float .f32 za],.agg #[.int .i64 ga,.int .i64 ja,.slice ta va ya],.int .i64 levels] H K=
 (Al [.slice eb lb mb,.float .f32 za] H fun b1 H1=>Al [.int .i64 ga,.int .i64 ja,.slice ta va ya] H1 fun b2 H2=>Al [.int .i64 0,.int .i64 0,.slice none 0 0] H2 fun b3 H3=>∃ni:OA,∃(qi oi c2:Nat),  rdN H3 b1 0 2=some [.slice ni qi oi,.float .f32 c2]∧∃(c3 c4:Int),∃zi:OA,∃(bj aj:Nat),  rdN H3 b2 0 3=some [.int .i64 c3,.int .i64 c4,.slice zi bj aj]∧T_fdz ni qi oi c2 c3 c4 zi bj aj levels H3 fun (r1:Int) (r2:Int) (a1:OA) (r3:Nat) (r4:Nat) (r5:Bool) (H4:zp)=>Al [.int .i64 0,.int .i64 0,.slice none 0 0] H4 fun b4 H5=>isOwn H5 b4∧(∃l,rdN H5 b4 0 3=some l)∧Lt (setN H5 b4 0 [.int .i64 r1,.int .i64 r2,.slice a1 r3 r4]) fun H6=>Br (!r5) (isOwn H6 b3∧(∃l,rdN H6 b3 0 3=some l)∧Lt (setN H6 b3 0 [.int .i64 0,.int .i64 0,.slice none 0 0]) fun H7=>∃(c6 c7:Int),∃cj:OA,∃(fj dj:Nat),  rdN H7 b3 0 3=some [.int .i64 c6,.int .i64 c7,.slice cj fj dj]∧K (.tuple #[.agg #[.int .i64 c6,.int .i64 c7,.slice cj fj dj],.bool false]) H7) (∃(c9 c10:Int),∃wi:OA,∃(yi xi:Nat),  rdN H6 b4 0 3=some [.int .i64 c9,.int .i64 c10,.slice wi yi xi]∧zoe c9 c10 wi yi xi levels 0 H6 fun (r6:Int) (r7:Int) (a2:OA) (r8:Nat) (r9:Nat) (r10:Bool) (H8:zp)=>isOwn H8 b3∧(∃l,rdN H8 b3 0 3=some l)∧Lt (setN H8 b3 0 [.int .i64 r6,.int .i64 r7,.slice a2 r8 r9]) fun H9=>∃(c12 c13:Int),∃ak:OA,∃(ck bk:Nat),  rdN H9 b3 0 3=some [.int .i64 c12,.int .i64 c13,.slice ak ck bk]∧K (.tuple #[.agg #[.int .i64 c12,.int .i64 c13,.slice ak ck bk],.bool r10]) H9)):=by kernel_rfl
theorem ztc:∀g,FnOkX Tryz.prog (MainCls Tryz.prog) g (ztb g):=FnOkX.envOf (by
 intro x hx
 simp only [List.mem_cons,List.not_mem_nil,or_false] at hx
 rcases hx with rfl | rfl
 ·exact z1h3
 ·exact z1dg.le fun _ _ _=>trivial)
theorem zw2 (eb:OA) (lb mb za:Nat) (ga ja:Int) (ta:OA) (va ya:Nat) (levels:Int) (H:zp) (K:KT) (h:zja eb lb mb za ga ja ta va ya levels H fun (tc:Int) (nc:Int) (ma:OA) (sa:Nat) (oa:Nat) (r2:Bool) (H':zp)=>K (.tuple #[.agg #[.int .i64 tc,.int .i64 nc,.slice ma sa oa],.bool r2]) H'):zw Tryz.prog ztb Tryz.f37 [.agg #[.slice eb lb mb,.float .f32 za],.agg #[.int .i64 ga,.int .i64 ja,.slice ta va ya],.int .i64 levels] H K:=by
 rw [z1cj]
 obtain ⟨fa,ba,ze,nd,bd_137,bd_138,hk⟩:=h
 obtain rfl:=ze.eqn
 obtain rfl:=nd.eqn
 have e:(z1i fa za ga ja ba levels)=_:=rfl
 have e:=e.trans (zej fa za ga ja ba levels)
 have g0:=Grow.refl H
 refine Al.intro (fun b_1 H_1 hb_2 hl_3 g_4 o_5=>?_)
 have l_7:=g_4.1
 have g_8:=g0.trans g_4
 have l_9:=g_8.1
 have w136:=o_5.lt
 refine Al.intro (fun b_10 H_2 hb_11 hl_12 g_13 o_14=>?_)
 have l_16:=g_13.1
 have g_17:=g_8.trans g_13
 have l_18:=g_17.1
 have o_19:=o_5.grow g_13
 have w20:=o_19.lt
 have w135:=o_14.lt
 refine Al.intro (fun b_21 H_3 hb_22 hl_23 g24 o25=>?_)
 have l27:=g24.1
 have g28:=g_17.trans g24
 have l29:=g28.1
 have o30:=o_19.grow g24
 have w31:=o30.lt
 have o32:=o_14.grow g24
 have w33:=o32.lt
 have w134:=o25.lt
 refine ⟨eb,fa.length,mb,za,(o30.rdN (nbl rfl)).trans rfl,?_⟩
 refine ⟨ga,ja,ta,ba.length,ya,(o32.rdN (nbl rfl)).trans rfl,?_⟩
 refine z1bb ⟨_,_,(ze.grow g28),(nd.grow g28),ω0,ω0,fun a34 n35 e36 H_4 g39 r_37=>?_⟩
 have z38:=z1du fa za ga ja ba levels
 have l40:=g39.1
 have g41:=g28.trans g39
 have l42:=g41.1
 have o43:=o30.grow g39
 have w44:=o43.lt
 have o45:=o32.grow g39
 have w46:=o45.lt
 have o47:=o25.grow g39
 have w48:=o47.lt
 obtain rfl:=r_37.isL.eqn
 have u49:=r_37.up
 have u50:=r_37.lo
 refine Al.intro (fun b52 H_5 hb_53 hl_54 g55 o56=>?_)
 have l58:=g55.1
 have g59:=g41.trans g55
 have l60:=g59.1
 have o61:=o43.grow g55
 have w62:=o61.lt
 have o63:=o45.grow g55
 have w64:=o63.lt
 have o65:=o47.grow g55
 have w66:=o65.lt
 have r67:=r_37.grow g55
 have w133:=o56.lt
 refine Lt.setN (n:=3) o56 (nbl rfl) rfl (fun H_6 hl_68 o70 k69=>?_)
 have o70:Own H_6 b52 [.int .i64 ((z1z fa za ga ja ba levels).1),.int .i64 ((z1z fa za ga ja ba levels).2.1),.slice a34 (((z1z fa za ga ja ba levels).2.2.1).length) e36]:=o70
 have l71:=k69.1
 have g72:=g59.keep (b:=b52) ω2 k69
 have l73:=g72.1
 have o74:=o61.keep ω2 k69
 have w75:=o74.lt
 have o76:=o63.keep ω2 k69
 have w77:=o76.lt
 have o78:=o65.keep ω2 k69
 have w79:=o78.lt
 have r80:=r67.keep u49 ω2 k69
 have w132:=o70.lt
 refine Br.intro (fun c81=>?_) (fun c81=>?_)
 ·have e:=e.trans (zv c81)
  have c_81n:=z1g c81
  refine Lt.setN (n:=3) o78 (nbl rfl) rfl (fun H_7 hl_82 o84 k83=>?_)
  have o84:Own H_7 b_21 [.int .i64 0,.int .i64 0,.slice none 0 0]:=o84
  have l85:=k83.1
  have g86:=g72.keep (b:=b_21) ω2 k83
  have l87:=g86.1
  have o88:=o74.keep ω2 k83
  have w89:=o88.lt
  have o90:=o76.keep ω2 k83
  have w91:=o90.lt
  have o92:=o70.keep ω2 k83
  have w93:=o92.lt
  have r94:=r80.keep u49 ω2 k83
  have w95:=o84.lt
  refine ⟨0,0,none,0,0,(o84.rdN (nbl rfl)).trans rfl,?_⟩
  rw [e] at hk
  exact hk _ _ _ H_7 g86 ω17
 ·have e:=e.trans (zu c81)
  have c_81n:=z1d c81
  refine ⟨(z1z fa za ga ja ba levels).1,(z1z fa za ga ja ba levels).2.1,a34,((z1z fa za ga ja ba levels).2.2.1).length,e36,(o70.rdN (nbl rfl)).trans rfl,?_⟩
  refine z10z ⟨_,r80.isL,ω0,fun a96 n97 e98 H_8 g101 r99=>?_⟩
  have z100:=zou ((z1z fa za ga ja ba levels).1) ((z1z fa za ga ja ba levels).2.1) ((z1z fa za ga ja ba levels).2.2.1) levels (0:Int)
  have l102:=g101.1
  have g103:=g72.trans g101
  have l104:=g103.1
  have o105:=o74.grow g101
  have w106:=o105.lt
  have o107:=o76.grow g101
  have w108:=o107.lt
  have o109:=o78.grow g101
  have w110:=o109.lt
  have o111:=o70.grow g101
  have w112:=o111.lt
  have r113:=r80.grow g101
  obtain rfl:=r99.isL.eqn
  have u114:=r99.up
  have u115:=r99.lo
  refine Lt.setN (n:=3) o109 (nbl rfl) rfl (fun H_9 hl_117 o119 k118=>?_)
  have o119:Own H_9 b_21 [.int .i64 ((z3l ((z1z fa za ga ja ba levels).1) ((z1z fa za ga ja ba levels).2.1) ((z1z fa za ga ja ba levels).2.2.1) levels (0:Int)).1),.int .i64 ((z3l ((z1z fa za ga ja ba levels).1) ((z1z fa za ga ja ba levels).2.1) ((z1z fa za ga ja ba levels).2.2.1) levels (0:Int)).2.1),.slice a96 (((z3l ((z1z fa za ga ja ba levels).1) ((z1z fa za ga ja ba levels).2.1) ((z1z fa za ga ja ba levels).2.2.1) levels (0:Int)).2.2.1).length) e98]:=o119
  have l120:=k118.1
  have g121:=g103.keep (b:=b_21) ω2 k118
  have l122:=g121.1
  have o123:=o105.keep ω2 k118
  have w124:=o123.lt
  have o125:=o107.keep ω2 k118
  have w126:=o125.lt
  have o127:=o111.keep ω2 k118
  have w128:=o127.lt
  have r129:=r113.keep u49 ω2 k118
  have r130:=r99.keep u114 ω2 k118
  have w131:=o119.lt
  refine ⟨(z3l ((z1z fa za ga ja ba levels).1) ((z1z fa za ga ja ba levels).2.1) ((z1z fa za ga ja ba levels).2.2.1) levels (0:Int)).1,(z3l ((z1z fa za ga ja ba levels).1) ((z1z fa za ga ja ba levels).2.1) ((z1z fa za ga ja ba levels).2.2.1) levels (0:Int)).2.1,a96,((z3l ((z1z fa za ga ja ba levels).1) ((z1z fa za ga ja ba levels).2.1) ((z1z fa za ga ja ba levels).2.2.1) levels (0:Int)).2.2.1).length,e98,(o119.rdN (nbl rfl)).trans rfl,?_⟩
  rw [e] at hk
  exact hk _ _ _ H_9 g121 (r130.weak ω2)
theorem z1ci:FnOkX Tryz.prog (MainCls Tryz.prog) 37 z18j:=FnOkX.bodyF (hLt:=fun _=>z3h) mix_ok ztc Tryz.func37 rfl ω10 ω10 fun args H=>by
 unfold z16y
 split
 ·refine ⟨?_,?_,?_,?_,fun K hk=>zw2 _ _ _ _ _ _ _ _ _ _ H K hk⟩
  ·intro K K' h hk;obtain ⟨fa,ba,ze,nd,bd_137,bd_138,k⟩:=hk;exact ⟨fa,ba,ze,nd,bd_137,bd_138,(fun ma sa oa H' gg ow0=>h _ _ (k ma sa oa H' gg ow0))⟩
  ·nofun
  ·intro K hk;obtain ⟨fa,ba,ze,nd,bd_137,bd_138,k⟩:=hk;exact z4i fun a n e H1 g o=>⟨_,_,k a n e H1 g o⟩
  ·intro _ K hk;obtain ⟨fa,ba,ze,nd,bd_137,bd_138,k⟩:=hk;exact ⟨fa,ba,ze,nd,bd_137,bd_138,(fun ma sa oa H' gg ow0=>⟨gg,k ma sa oa H' gg ow0⟩)⟩
 ·exact Nice.no
def znb (a b:Nat):Bool:=((bif !(feq .f64 a a) then (bif !(feq .f64 a a) then !(feq .f64 b b) else false) else (bif !(feq .f64 b b) then (bif !(feq .f64 a a) then !(feq .f64 b b) else false) else (bif feq .f64 a 0 then (bif feq .f64 b 0 then (flt .f64 0 (fdiv .f64 4607182418800017408 a))==(flt .f64 0 (fdiv .f64 4607182418800017408 b)) else feq .f64 a b) else feq .f64 a b))))
def z15c:=@znb.eq_1
def zq1 (a b:Nat) (H:zp) (K:Bool→zp→Prop):Prop:=K (znb a b) H

theorem zv7 {a b:Nat} {H:zp} {K:Bool→zp→Prop} (h:K (znb a b) H):zq1 a b H K:=h
def E_fwz:Env:=envOf []
def F_fwz (args:List Value) (H:zp):(Value→zp→Prop)→Prop:=match args with
 | [.float .f64 a,.float .f64 b]=>fun K=>zq1 a b H fun (r1:Bool) (H':zp)=>K (.bool r1) H'
 | _=>fun _=>False
def S_fwz:FSpec:={F:=F_fwz,quiet:=true,tame:=false}
theorem z1j6 (a b:Nat) (H:zp) (K:KT):zw Tryz.prog E_fwz Tryz.f59 [.float .f64 a,.float .f64 b] H K=
 (Br (!(feq .f64 a a)) (Br (!(feq .f64 a a)) (K (.bool (!(feq .f64 b b))) H) (K (.bool false) H)) (Br (!(feq .f64 b b)) (Br (!(feq .f64 a a)) (K (.bool (!(feq .f64 b b))) H) (K (.bool false) H)) (Br (feq .f64 a 0) (Br (feq .f64 b 0) (K (.bool ((flt .f64 0 (fdiv .f64 4607182418800017408 a))==(flt .f64 0 (fdiv .f64 4607182418800017408 b)))) H) (K (.bool (feq .f64 a b)) H)) (K (.bool (feq .f64 a b)) H)))):=by kernel_rfl
theorem z10a:∀g,FnOk Tryz.prog g (E_fwz g):=FnOk.envOf (by
 intro x hx;cases hx)
theorem z14e (a b:Nat) (H:zp) (K:KT) (h:zq1 a b H fun (r1:Bool) (H':zp)=>K (.bool r1) H'):zw Tryz.prog E_fwz Tryz.f59 [.float .f64 a,.float .f64 b] H K:=by
 rw [z1j6]
 unfold zq1 znb at h
 repeat' (first | exact h | (exfalso;simp_all;done) | (refine ⟨by decide,?_⟩) | (refine Br.intro (fun hb=>?_) (fun hb=>?_)<;>(try simp only [hb,cond_true,cond_false,Bool.not_true,Bool.not_false] at h)))
theorem z19q:FnOk Tryz.prog 59 S_fwz:=FnOk.bodyF mix_ok z10a Tryz.func59 rfl ω10 ω10 fun args H=>by
 unfold F_fwz
 split
 ·refine ⟨?_,?_,?_,?_,fun K hk=>z14e _ _ H K hk⟩
  ·intro K K' h hk;have k:=hk;exact h _ _ k
  ·intro _ K hk;have k:=hk;exact ⟨_,k,fun K' k'=>k'⟩
  ·intro K hk;have k:=hk;exact ⟨_,_,k⟩
  ·nofun
 ·exact Nice.no

def zbq (l_a l_b:LN):Nat→Bool→Int→Bool
 | 0,_,_=>false
 | μ+1,t4,i=>(bif decide ((i:Int)<(l_a.length:Int)) then (bif !((znb (z8r (((l_a).getD (i:Int).toNat 0))) (z8r (((l_b).getD (i:Int).toNat 0))))) then false else (zbq l_a l_b μ t4 (i+1))) else true)
def zgr:=fun l_a l_b μ t4 i=>@zbq.eq_2 l_a l_b t4 i μ
def zlh (l_a l_b:LN):Bool:=((bif ((l_a.length:Int):Int) != (l_b.length:Int) then false else (zbq l_a l_b (Int.toNat ((l_a.length:Int)-(0:Int))+1) false (0:Int))))
def zpk:=@zlh.eq_1
def zux (a_a:OA) (a_n a_e:Nat) (b_a:OA) (b_n b_e:Nat) (H:zp) (K:Bool→zp→Prop):Prop:=∃(l_a l_b:LN),IsL fF H a_a a_n l_a∧IsL fF H b_a b_n l_b∧l_a.length<1073741824∧l_b.length<1073741824∧K (zlh l_a l_b) H
theorem zuy {a_a:OA} {a_n a_e:Nat} {b_a:OA} {b_n b_e:Nat} {H:zp} {K:Bool→zp→Prop} (h:∃(l_a l_b:LN),IsL fF H a_a a_n l_a∧IsL fF H b_a b_n l_b∧l_a.length<1073741824∧l_b.length<1073741824∧K (zlh l_a l_b) H):zux a_a a_n a_e b_a b_n b_e H K:=h
theorem zp1 (y:Nat):znb y y=true:=by
 rw [z15c]
 cases feq .f64 y y<;>simp
theorem z1ia (l:LN):∀(μ:Nat) (t:Bool) (i:Nat),l.length-i<μ→zbq l l μ t (i:Int)=true:=by
 intro μ
 induction μ with
 | zero=>intro t i h;omega
 | succ μ ih=>
  intro t i hm
  rw [zgr]
  by_cases h:i<l.length
  ·rw [dct (show (i:Int)<(l.length:Int) by omega),cond_true,zp1]
   simp only [Bool.not_true,cond_false]
   exact ih t (i+1) ω2
  ·rw [dcf (show ¬(i:Int)<(l.length:Int) by omega),cond_false]
theorem zoz (l:LN):zlh l l=true:=by
 rw [zpk]
 have h0:((l.length:Int) != (l.length:Int))=false:=by simp
 rw [h0,cond_false]
 exact z1ia l _ false 0 ω2
def zfc:Env:=envOf [(59,S_fwz)]
def F_fmz (args:List Value) (H:zp):(Value→zp→Prop)→Prop:=match args with
 | [.slice a_a a_n a_e,.slice b_a b_n b_e]=>fun K=>zux a_a a_n a_e b_a b_n b_e H fun (r1:Bool) (H':zp)=>K (.bool r1) H'
 | _=>fun _=>False
def S_fmz:FSpec:={F:=F_fmz,quiet:=true,tame:=false}
theorem z1id (a_a:OA) (a_n a_e:Nat) (b_a:OA) (b_n b_e:Nat) (H:zp) (K:KT):zw Tryz.prog zfc Tryz.f58 [.slice a_a a_n a_e,.slice b_a b_n b_e] H K=
 (Br (((a_n:Int):Int) != (b_n:Int)) (K (.bool false) H) (z1n (exL Tryz.prog zfc (cl (cl (cr (cl (cr (cr (zq Tryz.f58))))))) 35 16 [(0,0)]) (.slice a_a a_n a_e::.slice b_a b_n b_e::ud3 (.int .i64 0::ud23 [])) H (z1a 0 (seqQ (exL Tryz.prog zfc (cr (cr (cr (zq Tryz.f58)))) 16 16 []) (retK Tryz.prog Tryz.f58 K))))):=by kernel_rfl
abbrev zk9 (a_a:OA) (a_e a_n:Nat) (b_a:OA) (b_e b_n:Nat) (i:Int)  :List Value:=(.slice a_a a_n a_e::.slice b_a b_n b_e::ud3 (.int .i64 i::ud23 []))
theorem z1ic (a_a:OA) (a_e a_n:Nat) (b_a:OA) (b_e b_n:Nat) (i:Int)  (H:zp) (R:Post):exL Tryz.prog zfc (cl (cl (cr (cl (cr (cr (zq Tryz.f58))))))) 35 16 [(0,0)] (zk9 a_a a_e a_n b_a b_e b_n i) H R=
 (Br (decide ((i:Int)<(a_n:Int))) ((0:Int)≤i∧i<(a_n:Int)∧∃b1 f1,(a_a:OA)=some ⟨b1,f1,none⟩∧∃x1:Nat,  rdC H b1 (f1+(i:Int).toNat*1)=some (.float .f32 x1)∧(0:Int)≤i∧i<(b_n:Int)∧∃b2 f2,(b_a:OA)=some ⟨b2,f2,none⟩∧∃x2:Nat,  rdC H b2 (f2+(i:Int).toNat*1)=some (.float .f32 x2)∧zq1 (z8r x1) (z8r x2) H fun (r1:Bool) (H1:zp)=>Br (!r1) (R .ret (ud4 (.bool false::ud24 [])) H1) (R .normal (.slice a_a a_n a_e::.slice b_a b_n b_e::ud3 (.int .i64 (IntKind.wrap .i64 (i+1))::ud23 [])) H1)) (R (.exit 0) (ud29 []) H)):=by kernel_rfl
def zx6 (a_a:OA) (a_e a_n:Nat) (b_a:OA) (b_e b_n:Nat) (Inv:Nat→Int→zp→Prop):Nat→List Value→zp→Prop:=fun μ tm H=>∃i:Int,tm=(zk9 a_a a_e a_n b_a b_e b_n i)∧Inv μ i H
theorem z1i9 (a_a:OA) (a_e a_n:Nat) (b_a:OA) (b_e b_n:Nat) {Q:Post} (Inv:Nat→Int→zp→Prop) (ν:Nat) (i:Int)  (H:zp) (h0:Inv ν i H)
  (hs:∀(μ:Nat) (i:Int)  (H:zp),Inv μ i H→exL Tryz.prog zfc (cl (cl (cr (cl (cr (cr (zq Tryz.f58))))))) 35 16 [(0,0)] (zk9 a_a a_e a_n b_a b_e b_n i) H (z1b (zx6 a_a a_e a_n b_a b_e b_n Inv) μ Q)):z1n (exL Tryz.prog zfc (cl (cl (cr (cl (cr (cr (zq Tryz.f58))))))) 35 16 [(0,0)]) (zk9 a_a a_e a_n b_a b_e b_n i) H Q:=
 ⟨zx6 a_a a_e a_n b_a b_e b_n Inv,ν,⟨i,rfl,h0⟩,fun μ tm H h=>by obtain ⟨i,rfl,hI⟩:=h;exact hs μ i  H hI⟩
theorem z1ib {a_a:OA} {a_e a_n:Nat} {b_a:OA} {b_e b_n:Nat} {Q:Post} {Inv:Nat→Int→zp→Prop} {μ:Nat} (μ':Nat) {i:Int}  {H:zp} (hm:μ'<μ) (hI:Inv μ' i H):z1b (zx6 a_a a_e a_n b_a b_e b_n Inv) μ Q .normal (zk9 a_a a_e a_n b_a b_e b_n i) H:=⟨μ',hm,i,rfl,hI⟩
theorem z13l  (H:zp) (K:KT)  {I:Nat→List Value→zp→Prop} {μ:Nat}:z1b I μ (z1a 0 (seqQ (exL Tryz.prog zfc (cr (cr (cr (zq Tryz.f58)))) 16 16 []) (retK Tryz.prog Tryz.f58 K))) (.exit 0) (ud29 []) H=
 (K (.bool true) H):=by kernel_rfl
theorem zqh (t4:Bool) (H:zp) (K:KT)  {I:Nat→List Value→zp→Prop} {μ:Nat}:z1b I μ (z1a 0 (seqQ (exL Tryz.prog zfc (cr (cr (cr (zq Tryz.f58)))) 16 16 []) (retK Tryz.prog Tryz.f58 K))) .ret (ud4 (.bool t4::ud24 [])) H=
 (K (.bool t4) H):=by kernel_rfl
theorem zzr:∀g,FnOk Tryz.prog g (zfc g):=FnOk.envOf (by
 intro x hx
 simp only [List.mem_cons,List.not_mem_nil,or_false] at hx
 subst hx;exact z19q)
theorem z13k (a_a:OA) (a_n a_e:Nat) (b_a:OA) (b_n b_e:Nat) (H:zp) (K:KT) (h:zux a_a a_n a_e b_a b_n b_e H fun (r1:Bool) (H':zp)=>K (.bool r1) H'):zw Tryz.prog zfc Tryz.f58 [.slice a_a a_n a_e,.slice b_a b_n b_e] H K:=by
 rw [z1id]
 obtain ⟨l_a,l_b,i_a,i_b,bd_13,bd_14,hk⟩:=h
 obtain rfl:=i_a.eqn
 obtain rfl:=i_b.eqn
 have e:(zlh l_a l_b)=_:=rfl
 have e:=e.trans (zpk l_a l_b)
 have g0:=Grow.refl H
 refine Br.intro (fun c_1=>?_) (fun c_1=>?_)
 ·have e:=e.trans (zv c_1)
  have c_1':=zxh c_1
  rw [e] at hk
  exact hk
 ·have e:=e.trans (zu c_1)
  have c_1':=zxg c_1
  refine z1i9 _ _ _ _ _ _ (fun (μ:Nat) (i:Int) (H_1:zp)=>∃t4:Bool,H=H_1∧(0:Int)≤i∧i≤(l_a.length:Int)∧(l_a.length:Int)-i≤(μ:Int)∧zlh l_a l_b=zbq l_a l_b (μ+1) t4 i) (Int.toNat ((l_a.length:Int)-(0:Int))) _ H ?_ ?_
  ·exact ⟨_,rfl,ω7,ω7,ω2,e⟩
  ·intro μ i  H_1 hI
   obtain ⟨t4,rfl,v_2,v_3,hμ,e⟩:=hI
   rw [z1ic]
   have e:=e.trans (zgr l_a l_b μ t4 i)
   have l_4:=g0.1
   refine Br.intro (fun c_5=>?_) (fun c_5=>?_)
   ·have e:=e.trans (zv c_5)
    have c_5':=odt c_5
    obtain ⟨b_6,f_7,q_8⟩:=((i_a.grow g0)).pos ω0
    refine ⟨by omega,by omega,b_6,f_7,q_8,?_⟩
    refine ⟨((l_a).getD (i:Int).toNat 0),(i_a).rd g0 q_8 ω2 _,?_⟩
    obtain ⟨b_9,f_10,q_11⟩:=((i_b.grow g0)).pos ω0
    refine ⟨by omega,by omega,b_9,f_10,q_11,?_⟩
    refine ⟨((l_b).getD (i:Int).toNat 0),(i_b).rd g0 q_11 ω2 _,?_⟩
    refine zv7 ?_
    refine Br.intro (fun c_12=>?_) (fun c_12=>?_)
    ·have e:=e.trans (zv c_12)
     have c_12n:=z1g c_12
     rw [zqh]
     rw [e] at hk
     exact hk
    ·have e:=e.trans (zu c_12)
     have c_12n:=z1d c_12
     rw [show IntKind.wrap .i64 (i+1)=(i+1) from zt ω2 ω2]
     refine z1ib (μ-1) ω15 ⟨_,rfl,ω1,ω1,ω15,ω13⟩
   ·have e:=e.trans (zu c_5)
    have c_5':=odf c_5
    rw [z13l]
    rw [e] at hk
    exact hk
theorem z19l:FnOk Tryz.prog 58 S_fmz:=FnOk.bodyF mix_ok zzr Tryz.func58 rfl ω10 ω10 fun args H=>by
 unfold F_fmz
 split
 ·refine ⟨?_,?_,?_,?_,fun K hk=>z13k _ _ _ _ _ _ H K hk⟩
  ·intro K K' h hk;obtain ⟨l_a,l_b,i_a,i_b,bd_13,bd_14,k⟩:=hk;exact ⟨l_a,l_b,i_a,i_b,bd_13,bd_14,h _ _ k⟩
  ·intro _ K hk;obtain ⟨l_a,l_b,i_a,i_b,bd_13,bd_14,k⟩:=hk;exact ⟨_,k,fun K' k'=>⟨l_a,l_b,i_a,i_b,bd_13,bd_14,k'⟩⟩
  ·intro K hk;obtain ⟨l_a,l_b,i_a,i_b,bd_13,bd_14,k⟩:=hk;exact ⟨_,_,k⟩
  ·nofun
 ·exact Nice.no

def zie (je me:Int) (pb:LN) (fi ei:Int) (pg:LN):Bool:=((bif (je:Int) != fi then false else (bif (me:Int) != ei then false else (bif !(zlh pb pg) then false else true))))
def zpo:=@zie.eq_1
def zm8 (je me:Int) (bc:OA) (mc uc:Nat) (fi ei:Int) (lh:OA) (oh rh:Nat) (H:zp) (K:Bool→zp→Prop):Prop:=∃(pb pg:LN),IsL fF H bc mc pb∧IsL fF H lh oh pg∧pb.length<1073741824∧pg.length<1073741824∧((∀H':zp,Grow H H'→K (zie je me pb fi ei pg) H'))
theorem zhp {je me:Int} {bc:OA} {mc uc:Nat} {fi ei:Int} {lh:OA} {oh rh:Nat} {H:zp} {K:Bool→zp→Prop} (h:∃(pb pg:LN),IsL fF H bc mc pb∧IsL fF H lh oh pg∧pb.length<1073741824∧pg.length<1073741824∧((∀H':zp,Grow H H'→K (zie je me pb fi ei pg) H'))):zm8 je me bc mc uc fi ei lh oh rh H K:=h
theorem z14d (a b:Int) (l:LN):zie a b l a b l=true:=by
 rw [zpo,zoz]
 simp
def E_fvz:Env:=envOf [(58,S_fmz)]
def F_fvz (args:List Value) (H:zp):(Value→zp→Prop)→Prop:=match args with
 | [.agg ⟨[.int .i64 je,.int .i64 me,.slice bc mc uc]⟩,.agg ⟨[.int .i64 fi,.int .i64 ei,.slice lh oh rh]⟩]=>fun K=>zm8 je me bc mc uc fi ei lh oh rh H fun (r1:Bool) (H':zp)=>K (.bool r1) H'
 | _=>fun _=>False
def S_fvz:FSpec:={F:=F_fvz,quiet:=false,tame:=true}
theorem z1j5 (je me:Int) (bc:OA) (mc uc:Nat) (fi ei:Int) (lh:OA) (oh rh:Nat) (H:zp) (K:KT):zw Tryz.prog E_fvz Tryz.f15 [.agg #[.int .i64 je,.int .i64 me,.slice bc mc uc],.agg #[.int .i64 fi,.int .i64 ei,.slice lh oh rh]] H K=
 (Al [.int .i64 je,.int .i64 me,.slice bc mc uc] H fun b1 H1=>Al [.int .i64 fi,.int .i64 ei,.slice lh oh rh] H1 fun b2 H2=>∃x1:Int,  rdC H2 b1 0=some (.int .i64 x1)∧∃x2:Int,  rdC H2 b2 0=some (.int .i64 x2)∧Br ((x1:Int) != x2) (K (.bool false) H2) (∃x3:Int,  rdC H2 b1 1=some (.int .i64 x3)∧∃x4:Int,  rdC H2 b2 1=some (.int .i64 x4)∧Br ((x3:Int) != x4) (K (.bool false) H2) (∃kj:OA,∃(ij zj:Nat),  rdC H2 b1 2=some (.slice kj ij zj)∧∃ai:OA,∃(zh ki:Nat),  rdC H2 b2 2=some (.slice ai zh ki)∧zux kj ij zj ai zh ki H2 fun (r1:Bool) (H3:zp)=>Br (!r1) (K (.bool false) H3) (K (.bool true) H3)))):=by kernel_rfl
theorem zzz:∀g,FnOk Tryz.prog g (E_fvz g):=FnOk.envOf (by
 intro x hx
 simp only [List.mem_cons,List.not_mem_nil,or_false] at hx
 subst hx;exact z19l)
theorem z14c (je me:Int) (bc:OA) (mc uc:Nat) (fi ei:Int) (lh:OA) (oh rh:Nat) (H:zp) (K:KT) (h:zm8 je me bc mc uc fi ei lh oh rh H fun (r1:Bool) (H':zp)=>K (.bool r1) H'):zw Tryz.prog E_fvz Tryz.f15 [.agg #[.int .i64 je,.int .i64 me,.slice bc mc uc],.agg #[.int .i64 fi,.int .i64 ei,.slice lh oh rh]] H K:=by
 rw [z1j5]
 obtain ⟨pb,pg,ve,li,bd_26,bd_27,hk⟩:=h
 obtain rfl:=ve.eqn
 obtain rfl:=li.eqn
 have e:(zie je me pb fi ei pg)=_:=rfl
 have e:=e.trans (zpo je me pb fi ei pg)
 have g0:=Grow.refl H
 refine Al.intro (fun b_1 H_1 hb_2 hl_3 g_4 o_5=>?_)
 have l_7:=g_4.1
 have g_8:=g0.trans g_4
 have l_9:=g_8.1
 have w25:=o_5.lt
 refine Al.intro (fun b_10 H_2 hb_11 hl_12 g_13 o_14=>?_)
 have l_16:=g_13.1
 have g_17:=g_8.trans g_13
 have l_18:=g_17.1
 have o_19:=o_5.grow g_13
 have w20:=o_19.lt
 have w24:=o_14.lt
 refine ⟨je,(o_19.rdC _).trans rfl,?_⟩
 refine ⟨fi,(o_14.rdC _).trans rfl,?_⟩
 refine Br.intro (fun c_21=>?_) (fun c_21=>?_)
 ·have e:=e.trans (zv c_21)
  have c_21':=zxh c_21
  rw [e] at hk
  exact hk  H_2 g_17 
 ·have e:=e.trans (zu c_21)
  have c_21':=zxg c_21
  refine ⟨me,(o_19.rdC _).trans rfl,?_⟩
  refine ⟨ei,(o_14.rdC _).trans rfl,?_⟩
  refine Br.intro (fun c_22=>?_) (fun c_22=>?_)
  ·have e:=e.trans (zv c_22)
   have c_22':=zxh c_22
   rw [e] at hk
   exact hk  H_2 g_17 
  ·have e:=e.trans (zu c_22)
   have c_22':=zxg c_22
   refine ⟨bc,pb.length,uc,(o_19.rdC _).trans rfl,?_⟩
   refine ⟨lh,pg.length,rh,(o_14.rdC _).trans rfl,?_⟩
   refine zuy ⟨_,_,(ve.grow g_17),(li.grow g_17),ω0,ω0,?_⟩
   refine Br.intro (fun c23=>?_) (fun c23=>?_)
   ·have e:=e.trans (zv c23)
    have c_23n:=z1g c23
    rw [e] at hk
    exact hk  H_2 g_17 
   ·have e:=e.trans (zu c23)
    have c_23n:=z1d c23
    rw [e] at hk
    exact hk  H_2 g_17 
theorem z1j4:FnOk Tryz.prog 15 S_fvz:=FnOk.bodyF mix_ok zzz Tryz.func15 rfl ω10 ω10 fun args H=>by
 unfold F_fvz
 split
 ·refine ⟨?_,?_,?_,?_,fun K hk=>z14c _ _ _ _ _ _ _ _ _ _ H K hk⟩
  ·intro K K' h hk;obtain ⟨pb,pg,ve,li,bd_26,bd_27,k⟩:=hk;exact ⟨pb,pg,ve,li,bd_26,bd_27,(fun  H' gg  =>h _ _ (k  H' gg))⟩
  ·nofun
  ·intro K hk;obtain ⟨pb,pg,ve,li,bd_26,bd_27,k⟩:=hk;exact ⟨_,_,k H (Grow.refl H)⟩
  ·intro _ K hk;obtain ⟨pb,pg,ve,li,bd_26,bd_27,k⟩:=hk;exact ⟨pb,pg,ve,li,bd_26,bd_27,(fun  H' gg  =>⟨gg,k  H' gg⟩)⟩
 ·exact Nice.no

def zgf (sb:LN) (ie:Nat) (ng:LN) (yh:Nat):Bool:=(bif !(zlh sb ng) then false else (bif !((znb (z8r ie) (z8r yh))) then false else true))
def zl1:=@zgf.eq_1
def znz (ec:OA) (zc bd ie:Nat) (bh:OA) (kh mh yh:Nat) (H:zp) (K:Bool→zp→Prop):Prop:=∃(sb ng:LN),IsL fF H ec zc sb∧IsL fF H bh kh ng∧sb.length<1073741824∧ng.length<1073741824∧((∀H':zp,Grow H H'→K (zgf sb ie ng yh) H'))
theorem z10p {ec:OA} {zc bd ie:Nat} {bh:OA} {kh mh yh:Nat} {H:zp} {K:Bool→zp→Prop} (h:∃(sb ng:LN),IsL fF H ec zc sb∧IsL fF H bh kh ng∧sb.length<1073741824∧ng.length<1073741824∧((∀H':zp,Grow H H'→K (zgf sb ie ng yh) H'))):znz ec zc bd ie bh kh mh yh H K:=h

def zsy:Env:=envOf [(58,S_fmz),(59,S_fwz)]
def z16r (args:List Value) (H:zp):(Value→zp→Prop)→Prop:=match args with
 | [.agg ⟨[.slice ec zc bd,.float .f32 ie]⟩,.agg ⟨[.slice bh kh mh,.float .f32 yh]⟩]=>fun K=>znz ec zc bd ie bh kh mh yh H fun (r1:Bool) (H':zp)=>K (.bool r1) H'
 | _=>fun _=>False
def z18d:FSpec:={F:=z16r,quiet:=false,tame:=true}
theorem z1bz (ec:OA) (zc bd ie:Nat) (bh:OA) (kh mh yh:Nat) (H:zp) (K:KT):zw Tryz.prog zsy Tryz.f16 [.agg #[.slice ec zc bd,.float .f32 ie],.agg #[.slice bh kh mh,.float .f32 yh]] H K=
 (Al [.slice ec zc bd,.float .f32 ie] H fun b1 H1=>Al [.slice bh kh mh,.float .f32 yh] H1 fun b2 H2=>∃og:OA,∃(eg qg:Nat),  rdC H2 b1 0=some (.slice og eg qg)∧∃qk:OA,∃(pk sk:Nat),  rdC H2 b2 0=some (.slice qk pk sk)∧zux og eg qg qk pk sk H2 fun (r1:Bool) (H3:zp)=>Br (!r1) (K (.bool false) H3) (∃x3:Nat,  rdC H3 b1 1=some (.float .f32 x3)∧∃x4:Nat,  rdC H3 b2 1=some (.float .f32 x4)∧zq1 (z8r x3) (z8r x4) H3 fun (r2:Bool) (H4:zp)=>Br (!r2) (K (.bool false) H4) (K (.bool true) H4))):=by kernel_rfl
theorem zsz:∀g,FnOk Tryz.prog g (zsy g):=FnOk.envOf (by
 intro x hx
 simp only [List.mem_cons,List.not_mem_nil,or_false] at hx
 rcases hx with rfl | rfl
 ·exact z19l
 ·exact z19q)
theorem zvr (ec:OA) (zc bd ie:Nat) (bh:OA) (kh mh yh:Nat) (H:zp) (K:KT) (h:znz ec zc bd ie bh kh mh yh H fun (r1:Bool) (H':zp)=>K (.bool r1) H'):zw Tryz.prog zsy Tryz.f16 [.agg #[.slice ec zc bd,.float .f32 ie],.agg #[.slice bh kh mh,.float .f32 yh]] H K:=by
 rw [z1bz]
 obtain ⟨sb,ng,af,gi,bd_25,bd_26,hk⟩:=h
 obtain rfl:=af.eqn
 obtain rfl:=gi.eqn
 have e:(zgf sb ie ng yh)=_:=rfl
 have e:=e.trans (zl1 sb ie ng yh)
 have g0:=Grow.refl H
 refine Al.intro (fun b_1 H_1 hb_2 hl_3 g_4 o_5=>?_)
 have l_7:=g_4.1
 have g_8:=g0.trans g_4
 have l_9:=g_8.1
 have w24:=o_5.lt
 refine Al.intro (fun b_10 H_2 hb_11 hl_12 g_13 o_14=>?_)
 have l_16:=g_13.1
 have g_17:=g_8.trans g_13
 have l_18:=g_17.1
 have o_19:=o_5.grow g_13
 have w20:=o_19.lt
 have w23:=o_14.lt
 refine ⟨ec,sb.length,bd,(o_19.rdC _).trans rfl,?_⟩
 refine ⟨bh,ng.length,mh,(o_14.rdC _).trans rfl,?_⟩
 refine zuy ⟨_,_,(af.grow g_17),(gi.grow g_17),ω0,ω0,?_⟩
 refine Br.intro (fun c_21=>?_) (fun c_21=>?_)
 ·have e:=e.trans (zv c_21)
  have c_21n:=z1g c_21
  rw [e] at hk
  exact hk  H_2 g_17 
 ·have e:=e.trans (zu c_21)
  have c_21n:=z1d c_21
  refine ⟨ie,(o_19.rdC _).trans rfl,?_⟩
  refine ⟨yh,(o_14.rdC _).trans rfl,?_⟩
  refine zv7 ?_
  refine Br.intro (fun c_22=>?_) (fun c_22=>?_)
  ·have e:=e.trans (zv c_22)
   have c_22n:=z1g c_22
   rw [e] at hk
   exact hk  H_2 g_17 
  ·have e:=e.trans (zu c_22)
   have c_22n:=z1d c_22
   rw [e] at hk
   exact hk  H_2 g_17 
theorem z1by:FnOk Tryz.prog 16 z18d:=FnOk.bodyF mix_ok zsz Tryz.func16 rfl ω10 ω10 fun args H=>by
 unfold z16r
 split
 ·refine ⟨?_,?_,?_,?_,fun K hk=>zvr _ _ _ _ _ _ _ _ H K hk⟩
  ·intro K K' h hk;obtain ⟨sb,ng,af,gi,bd_25,bd_26,k⟩:=hk;exact ⟨sb,ng,af,gi,bd_25,bd_26,(fun  H' gg  =>h _ _ (k  H' gg))⟩
  ·nofun
  ·intro K hk;obtain ⟨sb,ng,af,gi,bd_25,bd_26,k⟩:=hk;exact ⟨_,_,k H (Grow.refl H)⟩
  ·intro _ K hk;obtain ⟨sb,ng,af,gi,bd_25,bd_26,k⟩:=hk;exact ⟨sb,ng,af,gi,bd_25,bd_26,(fun  H' gg  =>⟨gg,k  H' gg⟩)⟩
 ·exact Nice.no

def zbn (l_a:LN) (k:Int):Nat→Int→Int→LN→Int×LN
 | 0,_,_,_=>(0,[])
 | μ+1,k_1,i,y1_1=>(bif decide ((i:Int)<(l_a.length:Int)) then (zbn l_a k μ (IntKind.wrap .i64 (k_1+1)) (i+1) (((y1_1).set (i:Int).toNat (FloatKind.nearest .f32 k_1)))) else (k_1,y1_1))
def zgj:=fun l_a k μ k_1 i y1_1=>@zbn.eq_2 l_a k k_1 i y1_1 μ
def zrd (l_a:LN) (k:Int):Int×LN:=(zbn l_a k (Int.toNat ((l_a.length:Int)-(0:Int))+1) k (0:Int) l_a)
def zpf:=@zrd.eq_1
def zup (a_a:OA) (a_n a_e:Nat) (k:Int) (H:zp) (K:Int→zp→Prop):Prop:=∃lo:Nat,∃l_a:LN,OwnS fF H lo a_a a_n a_e l_a∧l_a.length<1073741824∧((∀H':zp,z2a a_a H H'→OwnS fF H' lo a_a a_n a_e (z4n (FloatKind.nearest .f32) k l_a.length)→K (wk k l_a.length) H'))
theorem zuq {a_a:OA} {a_n a_e:Nat} {k:Int} {H:zp} {K:Int→zp→Prop} (h:∃lo:Nat,∃l_a:LN,OwnS fF H lo a_a a_n a_e l_a∧l_a.length<1073741824∧((∀H':zp,z2a a_a H H'→OwnS fF H' lo a_a a_n a_e (z4n (FloatKind.nearest .f32) k l_a.length)→K (wk k l_a.length) H'))):zup a_a a_n a_e k H K:=h
theorem z1gw (l:LN) (k0:Int):∀(μ:Nat) (k:Int) (i:Nat) (ys:LN),ys.length=l.length→i≤l.length→l.length-i<μ→
  zbn l k0 μ k (i:Int) ys=(wk k (l.length-i),ys.take i++z4n (FloatKind.nearest .f32) k (l.length-i)):=by
 intro μ
 induction μ with
 | zero=>intro k i ys _ _ h;omega
 | succ μ ih=>
  intro k i ys hy hi hm
  rw [zgj]
  by_cases h:i<l.length
  ·rw [dct (show (i:Int)<(l.length:Int) by omega),cond_true,Int.toNat_natCast]
   have:=ih (IntKind.wrap .i64 (k+1)) (i+1) (ys.set i ((FloatKind.nearest .f32) k)) (by simp [hy]) ω2 ω2
   obtain ⟨d,hd⟩:∃d,l.length-i=d+1:=⟨l.length-i-1,by omega⟩
   rw [show l.length-(i+1)=d by omega] at this
   rw [hd,wk,z4n]
   refine Eq.trans this ?_
   rw [List.take_add_one,List.getElem?_set_self ω2,List.take_set_of_le (Nat.le_refl i)]
   simp
  ·rw [dcf (show ¬(i:Int)<(l.length:Int) by omega),cond_false]
   rw [show l.length-i=0 by omega,wk,z4n,List.append_nil,List.take_of_length_le ω2]
theorem z1ds (l:LN) (k:Int):zrd l k=(wk k l.length,z4n (FloatKind.nearest .f32) k l.length):=by
 rw [zpf]
 have:=z1gw l k (Int.toNat ((l.length:Int)-0)+1) k 0 l rfl ω2 ω2
 simpa using this
def zhj:Env:=envOf []
def F_fbz (args:List Value) (H:zp):(Value→zp→Prop)→Prop:=match args with
 | [.slice a_a a_n a_e,.int .i64 k]=>fun K=>zup a_a a_n a_e k H fun (r1:Int) (H':zp)=>K (.int .i64 r1) H'
 | _=>fun _=>False
def S_fbz:FSpec:={F:=F_fbz,quiet:=false,tame:=false}
theorem z1gz (a_a:OA) (a_n a_e:Nat) (k:Int) (H:zp) (K:KT):zw Tryz.prog zhj Tryz.f60 [.slice a_a a_n a_e,.int .i64 k] H K=
 (z1n (exL Tryz.prog zhj (cl (cl (cr (cl (cr (zq Tryz.f60)))))) 35 16 [(0,2)]) (.slice a_a a_n a_e::.int .i64 k::ud3 (.int .i64 0::ud14 [])) H (z1a 0 (seqQ (exL Tryz.prog zhj (cr (cr (zq Tryz.f60))) 16 16 []) (retK Tryz.prog Tryz.f60 K)))):=by kernel_rfl
abbrev zju (a_a:OA) (a_e a_n:Nat) (k_1 i:Int)  :List Value:=(.slice a_a a_n a_e::.int .i64 k_1::ud3 (.int .i64 i::ud14 []))
theorem z1gy (a_a:OA) (a_e a_n:Nat) (k_1 i:Int)  (H:zp) (R:Post):exL Tryz.prog zhj (cl (cl (cr (cl (cr (zq Tryz.f60)))))) 35 16 [(0,2)] (zju a_a a_e a_n k_1 i) H R=
 (Br (decide ((i:Int)<(a_n:Int))) ((0:Int)≤i∧i<(a_n:Int)∧∃b1 f1,(a_a:OA)=some ⟨b1,f1,none⟩∧isOwn H b1∧(∃l,rdN H b1 (f1+(i:Int).toNat*1) 1=some l)∧Lt (setC H b1 (f1+(i:Int).toNat*1) (.float .f32 (FloatKind.nearest .f32 k_1))) fun H1=>R .normal (.slice a_a a_n a_e::.int .i64 (IntKind.wrap .i64 (k_1+1))::ud3 (.int .i64 (IntKind.wrap .i64 (i+1))::ud14 [])) H1) (R (.exit 0) (ud::.int .i64 k_1::ud18 []) H)):=by kernel_rfl
def zws (a_a:OA) (a_e a_n:Nat) (Inv:Nat→Int→Int→zp→Prop):Nat→List Value→zp→Prop:=fun μ tm H=>∃(k_1 i:Int),tm=(zju a_a a_e a_n k_1 i)∧Inv μ k_1 i H
theorem z1gv (a_a:OA) (a_e a_n:Nat) {Q:Post} (Inv:Nat→Int→Int→zp→Prop) (ν:Nat) (k_1 i:Int)  (H:zp) (h0:Inv ν k_1 i H)
  (hs:∀(μ:Nat) (k_1:Int) (i:Int)  (H:zp),Inv μ k_1 i H→exL Tryz.prog zhj (cl (cl (cr (cl (cr (zq Tryz.f60)))))) 35 16 [(0,2)] (zju a_a a_e a_n k_1 i) H (z1b (zws a_a a_e a_n Inv) μ Q)):z1n (exL Tryz.prog zhj (cl (cl (cr (cl (cr (zq Tryz.f60)))))) 35 16 [(0,2)]) (zju a_a a_e a_n k_1 i) H Q:=
 ⟨zws a_a a_e a_n Inv,ν,⟨k_1,i,rfl,h0⟩,fun μ tm H h=>by obtain ⟨k_1,i,rfl,hI⟩:=h;exact hs μ k_1 i  H hI⟩
theorem z1gx {a_a:OA} {a_e a_n:Nat} {Q:Post} {Inv:Nat→Int→Int→zp→Prop} {μ:Nat} (μ':Nat) {k_1 i:Int}  {H:zp} (hm:μ'<μ) (hI:Inv μ' k_1 i H):z1b (zws a_a a_e a_n Inv) μ Q .normal (zju a_a a_e a_n k_1 i) H:=⟨μ',hm,k_1,i,rfl,hI⟩
theorem z12n (k_1:Int) (H:zp) (K:KT)  {I:Nat→List Value→zp→Prop} {μ:Nat}:z1b I μ (z1a 0 (seqQ (exL Tryz.prog zhj (cr (cr (zq Tryz.f60))) 16 16 []) (retK Tryz.prog Tryz.f60 K))) (.exit 0) (ud::.int .i64 k_1::ud18 []) H=
 (K (.int .i64 k_1) H):=by kernel_rfl
theorem zzg:∀g,FnOk Tryz.prog g (zhj g):=FnOk.envOf (by
 intro x hx;cases hx)
theorem z12m (a_a:OA) (a_n a_e:Nat) (k:Int) (H:zp) (K:KT) (h:zup a_a a_n a_e k H fun (r1:Int) (H':zp)=>K (.int .i64 r1) H'):zw Tryz.prog zhj Tryz.f60 [.slice a_a a_n a_e,.int .i64 k] H K:=by
 rw [z1gz]
 obtain ⟨lo,l_a,i_a,bd_18,hk⟩:=h
 have hk:(∀H':zp,z2a a_a H H'→OwnS fF H' lo a_a a_n a_e ((zrd l_a k).2)→(fun (r1:Int) (H':zp)=>K (.int .i64 r1) H') ((zrd l_a k).1) H'):=by rw [z1ds l_a k];exact hk
 obtain rfl:=i_a.len
 have up_p:=i_a.up
 have lo_p:=i_a.lo
 have e:(zrd l_a k)=_:=rfl
 have e:=e.trans (zpf l_a k)
 have g0:=z2a.refl a_a H
 refine z1gv _ _ _ (fun (μ:Nat) (k_1:Int) (i:Int) (H_1:zp)=>∃y1_1:LN,OwnS fF H_1 lo a_a l_a.length a_e y1_1∧y1_1.length=(l_a).length∧H.length≤H_1.length∧z2a a_a H H_1∧(0:Int)≤i∧i≤(l_a.length:Int)∧(l_a.length:Int)-i≤(μ:Int)∧zrd l_a k=zbn l_a k (μ+1) k_1 i y1_1) (Int.toNat ((l_a.length:Int)-(0:Int))) _ _ H ?_ ?_
 ·exact ⟨_,i_a,ω18,ω2,g0,ω7,ω7,ω2,e⟩
 ·intro μ k_1 i  H_1 hI
  obtain ⟨y1_1,r_1,y_2,n3,g_4,v_5,v_6,hμ,e⟩:=hI
  rw [z1gy]
  have e:=e.trans (zgj l_a k μ k_1 i y1_1)
  have l_7:=g_4.1
  refine Br.intro (fun c_8=>?_) (fun c_8=>?_)
  ·have e:=e.trans (zv c_8)
   have c_8':=odt c_8
   obtain ⟨b_9,f_10,q_11⟩:=(r_1.isL).pos ω0
   refine ⟨by omega,by omega,b_9,f_10,q_11,?_⟩
   refine Lt.setS r_1 q_11 ω6 (fun H_2 hl_12 o_14 k13=>?_)
   have l_15:=k13.1
   have g16:=g_4.transA k13
   have l_17:=g16.1
   rw [show IntKind.wrap .i64 (i+1)=(i+1) from zt ω2 ω2]
   refine z1gx (μ-1) ω15 ⟨_,o_14,ω21,ω2,g16,ω1,ω1,ω15,ω13⟩
  ·have e:=e.trans (zu c_8)
   have c_8':=odf c_8
   rw [z12n]
   rw [e] at hk
   exact hk H_1 g_4 r_1
theorem z19g:FnOk Tryz.prog 60 S_fbz:=FnOk.bodyF mix_ok zzg Tryz.func60 rfl ω10 ω10 fun args H=>by
 unfold F_fbz
 split
 ·refine ⟨?_,?_,?_,?_,fun K hk=>z12m _ _ _ _ H K hk⟩
  ·intro K K' h hk;obtain ⟨lo,l_a,i_a,bd_18,k⟩:=hk;exact ⟨lo,l_a,i_a,bd_18,(fun H' gg ow=>h _ _ (k H' gg ow))⟩
  ·nofun
  ·intro K hk;obtain ⟨lo,l_a,i_a,bd_18,k⟩:=hk;exact (i_a.put _ (by rw [z2b])).elim fun H1 h=>⟨_,_,k H1 h.1 h.2⟩
  ·nofun
 ·exact Nice.no

def zy3 (sb:LN) (ie:Nat) (k:Int):Int×LN:=((wk k sb.length),(z4n (FloatKind.nearest .f32) k sb.length))
def z15b:=@zy3.eq_1
def T_fnz (ec:OA) (zc bd ie:Nat) (k:Int) (H:zp) (K:Int→zp→Prop):Prop:=∃lo:Nat,∃sb:LN,OwnS fF H lo ec zc bd sb∧sb.length<1073741824∧((∀H':zp,z2a ec H H'→OwnS fF H' lo ec zc bd (z4n (FloatKind.nearest .f32) k sb.length)→K (wk k sb.length) H'))
theorem z1bh {ec:OA} {zc bd ie:Nat} {k:Int} {H:zp} {K:Int→zp→Prop} (h:∃lo:Nat,∃sb:LN,OwnS fF H lo ec zc bd sb∧sb.length<1073741824∧((∀H':zp,z2a ec H H'→OwnS fF H' lo ec zc bd (z4n (FloatKind.nearest .f32) k sb.length)→K (wk k sb.length) H'))):T_fnz ec zc bd ie k H K:=h
theorem z1dz (sb:LN) (ie:Nat) (k:Int):zy3 sb ie k=(wk k sb.length,z4n (FloatKind.nearest .f32) k sb.length):=rfl
def E_fnz:Env:=envOf [(60,S_fbz)]
def F_fnz (args:List Value) (H:zp):(Value→zp→Prop)→Prop:=match args with
 | [.agg ⟨[.slice ec zc bd,.float .f32 ie]⟩,.int .i64 k]=>fun K=>T_fnz ec zc bd ie k H fun (r1:Int) (H':zp)=>K (.int .i64 r1) H'
 | _=>fun _=>False
def S_fnz:FSpec:={F:=F_fnz,quiet:=false,tame:=false}
theorem z1if (ec:OA) (zc bd ie:Nat) (k:Int) (H:zp) (K:KT):zw Tryz.prog E_fnz Tryz.f17 [.agg #[.slice ec zc bd,.float .f32 ie],.int .i64 k] H K=
 (Al [.slice ec zc bd,.float .f32 ie] H fun b1 H1=>∃og:OA,∃(eg qg:Nat),  rdC H1 b1 0=some (.slice og eg qg)∧zup og eg qg k H1 fun (r1:Int) (H2:zp)=>K (.int .i64 r1) H2):=by kernel_rfl
theorem zzs:∀g,FnOk Tryz.prog g (E_fnz g):=FnOk.envOf (by
 intro x hx
 simp only [List.mem_cons,List.not_mem_nil,or_false] at hx
 subst hx;exact z19g)
theorem z13m (ec:OA) (zc bd ie:Nat) (k:Int) (H:zp) (K:KT) (h:T_fnz ec zc bd ie k H fun (r1:Int) (H':zp)=>K (.int .i64 r1) H'):zw Tryz.prog E_fnz Tryz.f17 [.agg #[.slice ec zc bd,.float .f32 ie],.int .i64 k] H K:=by
 rw [z1if]
 obtain ⟨lo,sb,af,bd_19,hk⟩:=h
 have hk:(∀H':zp,z2a ec H H'→OwnS fF H' lo ec zc bd ((zy3 sb ie k).2)→(fun (r1:Int) (H':zp)=>K (.int .i64 r1) H') ((zy3 sb ie k).1) H'):=by rw [z1dz sb ie k];exact hk
 obtain rfl:=af.len
 have up_p:=af.up
 have lo_p:=af.lo
 have e:(zy3 sb ie k)=_:=rfl
 have e:=e.trans (z15b sb ie k)
 have g0:=z2a.refl ec H
 refine Al.intro (fun b_1 H_1 hb_2 hl_3 g_4 o_5=>?_)
 have l_7:=g_4.1
 have g_8:=g0.trans g_4
 have l_9:=g_8.1
 have r_10:=af.grow g_4
 have w18:=o_5.lt
 refine ⟨ec,sb.length,bd,(o_5.rdC _).trans rfl,?_⟩
 refine zuq ⟨_,_,r_10,ω0,(fun H_2 k_11 o12=>?_)⟩
 have l_13:=k_11.1
 have g_14:=g_8.transA k_11
 have l_15:=g_14.1
 have o16:=o_5.keepA (fun x hx=>by have:=lo_p x hx;have:=up_p x hx;omega) k_11
 have w_17:=o16.lt
 rw [e] at hk
 exact hk H_2 g_14 o12
theorem z1ie:FnOk Tryz.prog 17 S_fnz:=FnOk.bodyF mix_ok zzs Tryz.func17 rfl ω10 ω10 fun args H=>by
 unfold F_fnz
 split
 ·refine ⟨?_,?_,?_,?_,fun K hk=>z13m _ _ _ _ _ H K hk⟩
  ·intro K K' h hk;obtain ⟨lo,sb,af,bd_19,k⟩:=hk;exact ⟨lo,sb,af,bd_19,(fun H' gg ow=>h _ _ (k H' gg ow))⟩
  ·nofun
  ·intro K hk;obtain ⟨lo,sb,af,bd_19,k⟩:=hk;exact (af.put _ (by rw [z2b])).elim fun H1 h=>⟨_,_,k H1 h.1 h.2⟩
  ·nofun
 ·exact Nice.no

def zy2 (je me:Int) (pb:LN) (k:Int):Int×LN:=((wk k pb.length),(z4n (FloatKind.nearest .f32) k pb.length))
def z15a:=@zy2.eq_1
def zuv (je me:Int) (bc:OA) (mc uc:Nat) (k:Int) (H:zp) (K:Int→zp→Prop):Prop:=∃lo:Nat,∃pb:LN,OwnS fF H lo bc mc uc pb∧pb.length<1073741824∧((∀H':zp,z2a bc H H'→OwnS fF H' lo bc mc uc (z4n (FloatKind.nearest .f32) k pb.length)→K (wk k pb.length) H'))
theorem zuw {je me:Int} {bc:OA} {mc uc:Nat} {k:Int} {H:zp} {K:Int→zp→Prop} (h:∃lo:Nat,∃pb:LN,OwnS fF H lo bc mc uc pb∧pb.length<1073741824∧((∀H':zp,z2a bc H H'→OwnS fF H' lo bc mc uc (z4n (FloatKind.nearest .f32) k pb.length)→K (wk k pb.length) H'))):zuv je me bc mc uc k H K:=h
theorem z1dv (je me:Int) (pb:LN) (k:Int):zy2 je me pb k=(wk k pb.length,z4n (FloatKind.nearest .f32) k pb.length):=rfl
def E_fhz:Env:=envOf [(60,S_fbz)]
def F_fhz (args:List Value) (H:zp):(Value→zp→Prop)→Prop:=match args with
 | [.agg ⟨[.int .i64 je,.int .i64 me,.slice bc mc uc]⟩,.int .i64 k]=>fun K=>zuv je me bc mc uc k H fun (r1:Int) (H':zp)=>K (.int .i64 r1) H'
 | _=>fun _=>False
def S_fhz:FSpec:={F:=F_fhz,quiet:=false,tame:=false}
theorem z1hc (je me:Int) (bc:OA) (mc uc:Nat) (k:Int) (H:zp) (K:KT):zw Tryz.prog E_fhz Tryz.f18 [.agg #[.int .i64 je,.int .i64 me,.slice bc mc uc],.int .i64 k] H K=
 (Al [.int .i64 je,.int .i64 me,.slice bc mc uc] H fun b1 H1=>∃og:OA,∃(eg qg:Nat),  rdC H1 b1 2=some (.slice og eg qg)∧zup og eg qg k H1 fun (r1:Int) (H2:zp)=>K (.int .i64 r1) H2):=by kernel_rfl
theorem zzm:∀g,FnOk Tryz.prog g (E_fhz g):=FnOk.envOf (by
 intro x hx
 simp only [List.mem_cons,List.not_mem_nil,or_false] at hx
 subst hx;exact z19g)
theorem z12v (je me:Int) (bc:OA) (mc uc:Nat) (k:Int) (H:zp) (K:KT) (h:zuv je me bc mc uc k H fun (r1:Int) (H':zp)=>K (.int .i64 r1) H'):zw Tryz.prog E_fhz Tryz.f18 [.agg #[.int .i64 je,.int .i64 me,.slice bc mc uc],.int .i64 k] H K:=by
 rw [z1hc]
 obtain ⟨lo,pb,ve,bd_19,hk⟩:=h
 have hk:(∀H':zp,z2a bc H H'→OwnS fF H' lo bc mc uc ((zy2 je me pb k).2)→(fun (r1:Int) (H':zp)=>K (.int .i64 r1) H') ((zy2 je me pb k).1) H'):=by rw [z1dv je me pb k];exact hk
 obtain rfl:=ve.len
 have up_p:=ve.up
 have lo_p:=ve.lo
 have e:(zy2 je me pb k)=_:=rfl
 have e:=e.trans (z15a je me pb k)
 have g0:=z2a.refl bc H
 refine Al.intro (fun b_1 H_1 hb_2 hl_3 g_4 o_5=>?_)
 have l_7:=g_4.1
 have g_8:=g0.trans g_4
 have l_9:=g_8.1
 have r_10:=ve.grow g_4
 have w18:=o_5.lt
 refine ⟨bc,pb.length,uc,(o_5.rdC _).trans rfl,?_⟩
 refine zuq ⟨_,_,r_10,ω0,(fun H_2 k_11 o12=>?_)⟩
 have l_13:=k_11.1
 have g_14:=g_8.transA k_11
 have l_15:=g_14.1
 have o16:=o_5.keepA (fun x hx=>by have:=lo_p x hx;have:=up_p x hx;omega) k_11
 have w_17:=o16.lt
 rw [e] at hk
 exact hk H_2 g_14 o12
theorem z1hb:FnOk Tryz.prog 18 S_fhz:=FnOk.bodyF mix_ok zzm Tryz.func18 rfl ω10 ω10 fun args H=>by
 unfold F_fhz
 split
 ·refine ⟨?_,?_,?_,?_,fun K hk=>z12v _ _ _ _ _ _ H K hk⟩
  ·intro K K' h hk;obtain ⟨lo,pb,ve,bd_19,k⟩:=hk;exact ⟨lo,pb,ve,bd_19,(fun H' gg ow=>h _ _ (k H' gg ow))⟩
  ·nofun
  ·intro K hk;obtain ⟨lo,pb,ve,bd_19,k⟩:=hk;exact (ve.put _ (by rw [z2b])).elim fun H1 h=>⟨_,_,k H1 h.1 h.2⟩
  ·nofun
 ·exact Nice.no

def zbm (l_a:LN) (k:Int):Nat→Int→Int→Int→Int
 | 0,_,_,_=>0
 | μ+1,k_1,t4,i=>(bif decide ((i:Int)<(l_a.length:Int)) then (bif !(feq .f32 (((l_a).getD (i:Int).toNat 0)) (FloatKind.nearest .f32 k_1)) then ((-1):Int) else (zbm l_a k μ (IntKind.wrap .i64 (k_1+1)) t4 (i+1))) else k_1)
def zgi:=fun l_a k μ k_1 t4 i=>@zbm.eq_2 l_a k k_1 t4 i μ
def zlg (l_a:LN) (k:Int):Int:=(zbm l_a k (Int.toNat ((l_a.length:Int)-(0:Int))+1) k (0:Int) (0:Int))
def zpe:=@zlg.eq_1
def T_faz (a_a:OA) (a_n a_e:Nat) (k:Int) (H:zp) (K:Int→zp→Prop):Prop:=∃l_a:LN,IsL fF H a_a a_n l_a∧l_a.length<1073741824∧K (zlg l_a k) H
theorem z1ba {a_a:OA} {a_n a_e:Nat} {k:Int} {H:zp} {K:Int→zp→Prop} (h:∃l_a:LN,IsL fF H a_a a_n l_a∧l_a.length<1073741824∧K (zlg l_a k) H):T_faz a_a a_n a_e k H K:=h
theorem z1gq (k0:Int):∀(μ:Nat) (i:Nat) (pre:LN) (k t:Int) (n:Nat),pre.length=i→n<μ→
  zbm (pre++z4n (FloatKind.nearest .f32) k n) k0 μ k t (i:Int)=wk k n:=by
 intro μ
 induction μ with
 | zero=>intro i pre k t n _ h;omega
 | succ μ ih=>
  intro i pre k t n hp hm
  rw [zgi]
  have hl:(pre++z4n (FloatKind.nearest .f32) k n).length=i+n:=by rw [List.length_append,hp,z2b]
  rw [hl]
  cases n with
  | zero=>rw [dcf (show ¬(i:Int)<((i+0:Nat):Int) by omega),cond_false];rfl
  | succ n=>
   rw [dct (show (i:Int)<((i+(n+1):Nat):Int) by omega),cond_true,Int.toNat_natCast]
   have hx:(pre++z4n (FloatKind.nearest .f32) k (n+1)).getD i 0=(FloatKind.nearest .f32) k:=by
    rw [List.getD_eq_getElem?_getD,List.getElem?_append_right ω2,hp,Nat.sub_self];rfl
   rw [hx]
   have hq:(!(feq .f32 (FloatKind.nearest .f32 k) (FloatKind.nearest .f32 k)))=false:=by rw [zmt];rfl
   simp only [hq,cond_false]
   have:=ih (i+1) (pre++[(FloatKind.nearest .f32) k]) (IntKind.wrap .i64 (k+1)) t n (by simp [hp]) ω2
   rw [List.append_assoc] at this
   rw [wk];exact this
theorem zwr (k:Int) (n:Nat):zlg (z4n (FloatKind.nearest .f32) k n) k=wk k n:=by
 rw [zpe]
 have:=z1gq k (Int.toNat (((z4n (FloatKind.nearest .f32) k n).length:Int)-0)+1) 0 [] k 0 n rfl (by rw [z2b];omega)
 simpa using this
def zfa:Env:=envOf []
def F_faz (args:List Value) (H:zp):(Value→zp→Prop)→Prop:=match args with
 | [.slice a_a a_n a_e,.int .i64 k]=>fun K=>T_faz a_a a_n a_e k H fun (r1:Int) (H':zp)=>K (.int .i64 r1) H'
 | _=>fun _=>False
def S_faz:FSpec:={F:=F_faz,quiet:=true,tame:=false}
theorem z1gu (a_a:OA) (a_n a_e:Nat) (k:Int) (H:zp) (K:KT):zw Tryz.prog zfa Tryz.f61 [.slice a_a a_n a_e,.int .i64 k] H K=
 (z1n (exL Tryz.prog zfa (cl (cl (cr (cl (cr (zq Tryz.f61)))))) 35 16 [(0,2)]) (.slice a_a a_n a_e::.int .i64 k::ud3 (.int .i64 0::ud16 [])) H (z1a 0 (seqQ (exL Tryz.prog zfa (cr (cr (zq Tryz.f61))) 16 16 []) (retK Tryz.prog Tryz.f61 K)))):=by kernel_rfl
abbrev zjt (a_a:OA) (a_e a_n:Nat) (k_1 i:Int)  :List Value:=(.slice a_a a_n a_e::.int .i64 k_1::ud3 (.int .i64 i::ud16 []))
theorem z1gt (a_a:OA) (a_e a_n:Nat) (k_1 i:Int)  (H:zp) (R:Post):exL Tryz.prog zfa (cl (cl (cr (cl (cr (zq Tryz.f61)))))) 35 16 [(0,2)] (zjt a_a a_e a_n k_1 i) H R=
 (Br (decide ((i:Int)<(a_n:Int))) ((0:Int)≤i∧i<(a_n:Int)∧∃b1 f1,(a_a:OA)=some ⟨b1,f1,none⟩∧∃x1:Nat,  rdC H b1 (f1+(i:Int).toNat*1)=some (.float .f32 x1)∧Br (!(feq .f32 x1 (FloatKind.nearest .f32 k_1))) (R .ret (ud4 (.int .i64 (-1)::ud17 [])) H) (R .normal (.slice a_a a_n a_e::.int .i64 (IntKind.wrap .i64 (k_1+1))::ud3 (.int .i64 (IntKind.wrap .i64 (i+1))::ud16 [])) H)) (R (.exit 0) (ud::.int .i64 k_1::ud20 []) H)):=by kernel_rfl
def zwq (a_a:OA) (a_e a_n:Nat) (Inv:Nat→Int→Int→zp→Prop):Nat→List Value→zp→Prop:=fun μ tm H=>∃(k_1 i:Int),tm=(zjt a_a a_e a_n k_1 i)∧Inv μ k_1 i H
theorem z1gp (a_a:OA) (a_e a_n:Nat) {Q:Post} (Inv:Nat→Int→Int→zp→Prop) (ν:Nat) (k_1 i:Int)  (H:zp) (h0:Inv ν k_1 i H)
  (hs:∀(μ:Nat) (k_1:Int) (i:Int)  (H:zp),Inv μ k_1 i H→exL Tryz.prog zfa (cl (cl (cr (cl (cr (zq Tryz.f61)))))) 35 16 [(0,2)] (zjt a_a a_e a_n k_1 i) H (z1b (zwq a_a a_e a_n Inv) μ Q)):z1n (exL Tryz.prog zfa (cl (cl (cr (cl (cr (zq Tryz.f61)))))) 35 16 [(0,2)]) (zjt a_a a_e a_n k_1 i) H Q:=
 ⟨zwq a_a a_e a_n Inv,ν,⟨k_1,i,rfl,h0⟩,fun μ tm H h=>by obtain ⟨k_1,i,rfl,hI⟩:=h;exact hs μ k_1 i  H hI⟩
theorem z1gr {a_a:OA} {a_e a_n:Nat} {Q:Post} {Inv:Nat→Int→Int→zp→Prop} {μ:Nat} (μ':Nat) {k_1 i:Int}  {H:zp} (hm:μ'<μ) (hI:Inv μ' k_1 i H):z1b (zwq a_a a_e a_n Inv) μ Q .normal (zjt a_a a_e a_n k_1 i) H:=⟨μ',hm,k_1,i,rfl,hI⟩
theorem z12l (k_1:Int) (H:zp) (K:KT)  {I:Nat→List Value→zp→Prop} {μ:Nat}:z1b I μ (z1a 0 (seqQ (exL Tryz.prog zfa (cr (cr (zq Tryz.f61))) 16 16 []) (retK Tryz.prog Tryz.f61 K))) (.exit 0) (ud::.int .i64 k_1::ud20 []) H=
 (K (.int .i64 k_1) H):=by kernel_rfl
theorem zqb (t4:Int) (H:zp) (K:KT)  {I:Nat→List Value→zp→Prop} {μ:Nat}:z1b I μ (z1a 0 (seqQ (exL Tryz.prog zfa (cr (cr (zq Tryz.f61))) 16 16 []) (retK Tryz.prog Tryz.f61 K))) .ret (ud4 (.int .i64 t4::ud17 [])) H=
 (K (.int .i64 t4) H):=by kernel_rfl
theorem zzf:∀g,FnOk Tryz.prog g (zfa g):=FnOk.envOf (by
 intro x hx;cases hx)
theorem z12k (a_a:OA) (a_n a_e:Nat) (k:Int) (H:zp) (K:KT) (h:T_faz a_a a_n a_e k H fun (r1:Int) (H':zp)=>K (.int .i64 r1) H'):zw Tryz.prog zfa Tryz.f61 [.slice a_a a_n a_e,.int .i64 k] H K:=by
 rw [z1gu]
 obtain ⟨l_a,i_a,bd_9,hk⟩:=h
 obtain rfl:=i_a.eqn
 have e:(zlg l_a k)=_:=rfl
 have e:=e.trans (zpe l_a k)
 have g0:=Grow.refl H
 refine z1gp _ _ _ (fun (μ:Nat) (k_1:Int) (i:Int) (H_1:zp)=>∃t4:Int,H=H_1∧(0:Int)≤i∧i≤(l_a.length:Int)∧(l_a.length:Int)-i≤(μ:Int)∧zlg l_a k=zbm l_a k (μ+1) k_1 t4 i) (Int.toNat ((l_a.length:Int)-(0:Int))) _ _ H ?_ ?_
 ·exact ⟨_,rfl,ω7,ω7,ω2,e⟩
 ·intro μ k_1 i  H_1 hI
  obtain ⟨t4,rfl,v_1,v_2,hμ,e⟩:=hI
  rw [z1gt]
  have e:=e.trans (zgi l_a k μ k_1 t4 i)
  have l_3:=g0.1
  refine Br.intro (fun c_4=>?_) (fun c_4=>?_)
  ·have e:=e.trans (zv c_4)
   have c_4':=odt c_4
   obtain ⟨b_5,f_6,q_7⟩:=((i_a.grow g0)).pos ω0
   refine ⟨by omega,by omega,b_5,f_6,q_7,?_⟩
   refine ⟨((l_a).getD (i:Int).toNat 0),(i_a).rd g0 q_7 ω2 _,?_⟩
   refine Br.intro (fun c_8=>?_) (fun c_8=>?_)
   ·have e:=e.trans (zv c_8)
    have c_8n:=z1g c_8
    rw [zqb]
    rw [e] at hk
    exact hk
   ·have e:=e.trans (zu c_8)
    have c_8n:=z1d c_8
    rw [show IntKind.wrap .i64 (i+1)=(i+1) from zt ω2 ω2]
    refine z1gr (μ-1) ω15 ⟨_,rfl,ω1,ω1,ω15,ω13⟩
  ·have e:=e.trans (zu c_4)
   have c_4':=odf c_4
   rw [z12l]
   rw [e] at hk
   exact hk
theorem z1gs:FnOk Tryz.prog 61 S_faz:=FnOk.bodyF mix_ok zzf Tryz.func61 rfl ω10 ω10 fun args H=>by
 unfold F_faz
 split
 ·refine ⟨?_,?_,?_,?_,fun K hk=>z12k _ _ _ _ H K hk⟩
  ·intro K K' h hk;obtain ⟨l_a,i_a,bd_9,k⟩:=hk;exact ⟨l_a,i_a,bd_9,h _ _ k⟩
  ·intro _ K hk;obtain ⟨l_a,i_a,bd_9,k⟩:=hk;exact ⟨_,k,fun K' k'=>⟨l_a,i_a,bd_9,k'⟩⟩
  ·intro K hk;obtain ⟨l_a,i_a,bd_9,k⟩:=hk;exact ⟨_,_,k⟩
  ·nofun
 ·exact Nice.no

def zid (je me:Int) (pb:LN) (k:Int):Int:=(bif decide (((zlg pb k):Int)<0) then ((-1):Int) else (zlg pb k))
def zph:=@zid.eq_1
def zut (je me:Int) (bc:OA) (mc uc:Nat) (k:Int) (H:zp) (K:Int→zp→Prop):Prop:=∃pb:LN,IsL fF H bc mc pb∧pb.length<1073741824∧((∀H':zp,Grow H H'→K (zid je me pb k) H'))
theorem zuu {je me:Int} {bc:OA} {mc uc:Nat} {k:Int} {H:zp} {K:Int→zp→Prop} (h:∃pb:LN,IsL fF H bc mc pb∧pb.length<1073741824∧((∀H':zp,Grow H H'→K (zid je me pb k) H'))):zut je me bc mc uc k H K:=h

def E_fgz:Env:=envOf [(61,S_faz)]
def F_fgz (args:List Value) (H:zp):(Value→zp→Prop)→Prop:=match args with
 | [.agg ⟨[.int .i64 je,.int .i64 me,.slice bc mc uc]⟩,.int .i64 k]=>fun K=>zut je me bc mc uc k H fun (r1:Int) (H':zp)=>K (.int .i64 r1) H'
 | _=>fun _=>False
def S_fgz:FSpec:={F:=F_fgz,quiet:=false,tame:=true}
theorem z1ha (je me:Int) (bc:OA) (mc uc:Nat) (k:Int) (H:zp) (K:KT):zw Tryz.prog E_fgz Tryz.f19 [.agg #[.int .i64 je,.int .i64 me,.slice bc mc uc],.int .i64 k] H K=
 (Al [.int .i64 je,.int .i64 me,.slice bc mc uc] H fun b1 H1=>∃og:OA,∃(eg qg:Nat),  rdC H1 b1 2=some (.slice og eg qg)∧T_faz og eg qg k H1 fun (r1:Int) (H2:zp)=>Br (decide ((r1:Int)<0)) (K (.int .i64 (-1)) H2) (K (.int .i64 r1) H2)):=by kernel_rfl
theorem zzl:∀g,FnOk Tryz.prog g (E_fgz g):=FnOk.envOf (by
 intro x hx
 simp only [List.mem_cons,List.not_mem_nil,or_false] at hx
 subst hx;exact z1gs)
theorem z12u (je me:Int) (bc:OA) (mc uc:Nat) (k:Int) (H:zp) (K:KT) (h:zut je me bc mc uc k H fun (r1:Int) (H':zp)=>K (.int .i64 r1) H'):zw Tryz.prog E_fgz Tryz.f19 [.agg #[.int .i64 je,.int .i64 me,.slice bc mc uc],.int .i64 k] H K:=by
 rw [z1ha]
 obtain ⟨pb,ve,bd_12,hk⟩:=h
 obtain rfl:=ve.eqn
 have e:(zid je me pb k)=_:=rfl
 have e:=e.trans (zph je me pb k)
 have g0:=Grow.refl H
 refine Al.intro (fun b_1 H_1 hb_2 hl_3 g_4 o_5=>?_)
 have l_7:=g_4.1
 have g_8:=g0.trans g_4
 have l_9:=g_8.1
 have w11:=o_5.lt
 refine ⟨bc,pb.length,uc,(o_5.rdC _).trans rfl,?_⟩
 refine z1ba ⟨_,(ve.grow g_8),ω0,?_⟩
 refine Br.intro (fun c_10=>?_) (fun c_10=>?_)
 ·have e:=e.trans (zv c_10)
  have c_10':=odt c_10
  rw [e] at hk
  exact hk  H_1 g_8 
 ·have e:=e.trans (zu c_10)
  have c_10':=odf c_10
  rw [e] at hk
  exact hk  H_1 g_8 
theorem z1h9:FnOk Tryz.prog 19 S_fgz:=FnOk.bodyF mix_ok zzl Tryz.func19 rfl ω10 ω10 fun args H=>by
 unfold F_fgz
 split
 ·refine ⟨?_,?_,?_,?_,fun K hk=>z12u _ _ _ _ _ _ H K hk⟩
  ·intro K K' h hk;obtain ⟨pb,ve,bd_12,k⟩:=hk;exact ⟨pb,ve,bd_12,(fun  H' gg  =>h _ _ (k  H' gg))⟩
  ·nofun
  ·intro K hk;obtain ⟨pb,ve,bd_12,k⟩:=hk;exact ⟨_,_,k H (Grow.refl H)⟩
  ·intro _ K hk;obtain ⟨pb,ve,bd_12,k⟩:=hk;exact ⟨pb,ve,bd_12,(fun  H' gg  =>⟨gg,k  H' gg⟩)⟩
 ·exact Nice.no

def z3m (bb:LN) (wb:Nat) (gc fc:Int) (gb:LN) (aLevels:Int):Bool:=((bif decide (((z8q bb wb (1048576:Int)):Int)<0) then true else (bif decide (((zli gc fc gb ((z8q bb wb (1048576:Int)))):Int)<0) then true else (bif !((zie ((z1i bb wb gc fc gb aLevels).1) ((z1i bb wb gc fc gb aLevels).2.1) ((z1i bb wb gc fc gb aLevels).2.2.1) ((z1u bb wb gc fc gb aLevels).1) ((z1u bb wb gc fc gb aLevels).2.1) ((z1u bb wb gc fc gb aLevels).2.2.1))) then false else (bif !(((z1i bb wb gc fc gb aLevels).2.2.2)==((z1u bb wb gc fc gb aLevels).2.2.2)) then false else (bif !(zgf bb wb bb wb) then false else (bif !(zie gc fc gb gc fc gb) then false else (bif decide (((wk ((wk (1:Int) bb.length)) gb.length):Int)<0) then false else (bif !((zie ((z1i bb wb gc fc gb aLevels).1) ((z1i bb wb gc fc gb aLevels).2.1) ((z1i bb wb gc fc gb aLevels).2.2.1) ((z1u bb wb gc fc gb aLevels).1) ((z1u bb wb gc fc gb aLevels).2.1) ((z1u bb wb gc fc gb aLevels).2.2.1))) then false else (bif !(((z1i bb wb gc fc gb aLevels).2.2.2)==((z1u bb wb gc fc gb aLevels).2.2.2)) then false else (bif decide (((zid ((z1i bb wb gc fc gb aLevels).1) ((z1i bb wb gc fc gb aLevels).2.1) ((z4n (FloatKind.nearest .f32) (1:Int) ((z1i bb wb gc fc gb aLevels).2.2.1).length)) (1:Int)):Int)<0) then false else (bif ((zid ((z1i bb wb gc fc gb aLevels).1) ((z1i bb wb gc fc gb aLevels).2.1) ((z4n (FloatKind.nearest .f32) (1:Int) ((z1i bb wb gc fc gb aLevels).2.2.1).length)) (1:Int)):Int) != (wk (1:Int) ((z1i bb wb gc fc gb aLevels).2.2.1).length) then false else (bif !((zie ((z1i bb wb gc fc gb aLevels).1) ((z1i bb wb gc fc gb aLevels).2.1) ((z1i bb wb gc fc gb aLevels).2.2.1) ((z1u bb wb gc fc gb aLevels).1) ((z1u bb wb gc fc gb aLevels).2.1) ((z1u bb wb gc fc gb aLevels).2.2.1))) then false else (bif !(((z1i bb wb gc fc gb aLevels).2.2.2)==((z1u bb wb gc fc gb aLevels).2.2.2)) then false else (bif decide (((zid ((z1i bb wb gc fc gb aLevels).1) ((z1i bb wb gc fc gb aLevels).2.1) ((z4n (FloatKind.nearest .f32) (1:Int) ((z1i bb wb gc fc gb aLevels).2.2.1).length)) (1:Int)):Int)<0) then false else (bif ((zid ((z1i bb wb gc fc gb aLevels).1) ((z1i bb wb gc fc gb aLevels).2.1) ((z4n (FloatKind.nearest .f32) (1:Int) ((z1i bb wb gc fc gb aLevels).2.2.1).length)) (1:Int)):Int) != (wk (1:Int) ((z1i bb wb gc fc gb aLevels).2.2.1).length) then false else true))))))))))))))))
def z4g:=@z3m.eq_1
def z5j (rg:OA) (qh ug wb:Nat) (gc fc:Int) (yg:OA) (xh ah:Nat) (aLevels:Int) (H:zp) (K:Bool→zp→Prop):Prop:=∃(bb gb:LN),IsL fF H rg qh bb∧(∀y ∈ bb,W32 y)∧bb.length≤9223372036854775807∧W32 wb∧I64 gc∧I64 fc∧IsL fF H yg xh gb∧(∀y ∈ gb,W32 y)∧gb.length≤9223372036854775807∧I64 aLevels∧∀H':zp,K true H'
theorem z15u (x:Nat):zrf x=fin .f32 x:=zjx x
theorem z14l (x:Nat):zge x=fin .f32 x:=zjx x
theorem zki (l:LN):∀(μ:Nat) (t:Bool) (i:Nat),l.length-i<μ→z9b l μ t (i:Int)=(l.drop i).all (fin .f32):=by
 intro μ
 induction μ with
 | zero=>intro t i h;omega
 | succ μ ih=>
  intro t i hm
  rw [ze9]
  by_cases h:i<l.length
  ·rw [dct (show (i:Int)<(l.length:Int) by omega),cond_true,Int.toNat_natCast,z15u]
   rw [List.drop_eq_getElem_cons h,List.all_cons,List.getD_eq_getElem?_getD,List.getElem?_eq_getElem h,Option.getD_some]
   have:=ih t (i+1) ω2
   cases fin .f32 l[i]
   ·rfl
   ·simp only [Bool.not_true,cond_false,Bool.true_and];exact this
  ·rw [dcf (show ¬(i:Int)<(l.length:Int) by omega),cond_false,List.drop_eq_nil_of_le ω2];rfl
theorem z4l (l:LN):z1v l=l.all (fin .f32):=by
 rw [zkv]
 have:=zki l (Int.toNat ((l.length:Int)-(0:Int))+1) false 0 ω2
 simpa using this
theorem zjg (ls:List LN) (t2:Bool) (t9:Int) (k:Bool→Int→Bool):∀(μ:Nat) (t:Bool) (i:Nat),i≤(ls.getD t9.toNat []).length→(ls.getD t9.toNat []).length-i<μ→
  zbs ls t2 t9 k μ t (i:Int)=bif ((ls.getD t9.toNat []).drop i).all (fin .f32) then k t ((ls.getD t9.toNat []).length:Int) else false:=by
 intro μ
 generalize hl:ls.getD t9.toNat []=l
 induction μ with
 | zero=>intro t i _ h;omega
 | succ μ ih=>
  intro t i hi hm
  rw [zgu,hl]
  by_cases h:i<l.length
  ·rw [dct (show (i:Int)<(l.length:Int) by omega),cond_true,Int.toNat_natCast,z14l]
   rw [List.drop_eq_getElem_cons h,List.all_cons,List.getD_eq_getElem?_getD,List.getElem?_eq_getElem h,Option.getD_some]
   have:=ih t (i+1) ω2 ω2
   cases fin .f32 l[i]
   ·rfl
   ·simp only [Bool.not_true,cond_false,Bool.true_and];exact this
  ·rw [dcf (show ¬(i:Int)<(l.length:Int) by omega),cond_false,List.drop_eq_nil_of_le ω2,show i=l.length by omega];rfl
theorem zjf (ls:List LN):∀(μ:Nat) (t:Bool) (i:Nat),ls.length-i<μ→z6y ls μ t (i:Int)=(ls.drop i).all (fun l=>l.all (fin .f32)):=by
 intro μ
 induction μ with
 | zero=>intro t i h;omega
 | succ μ ih=>
  intro t i hm
  rw [zgt]
  by_cases h:i<ls.length
  ·rw [dct (show (i:Int)<(ls.length:Int) by omega),cond_true]
   have:=zjg ls t (i:Int) (fun t2 t15=>z6y ls μ t2 ((i:Int)+1)) (Int.toNat ((((ls).getD ((i:Int):Int).toNat []).length:Int)-(0:Int))+1) t 0 (Nat.zero_le _) ω2
   refine Eq.trans this ?_
   rw [Int.toNat_natCast,List.drop_zero,List.drop_eq_getElem_cons h,List.all_cons,List.getD_eq_getElem?_getD,List.getElem?_eq_getElem h,Option.getD_some]
   have:=ih t (i+1) ω2
   cases ls[i].all (fin .f32)
   ·rfl
   ·simp only [cond_true,Bool.true_and];exact this
  ·rw [dcf (show ¬(i:Int)<(ls.length:Int) by omega),cond_false,List.drop_eq_nil_of_le ω2];rfl
theorem z4k (ls:List LN):z7h ls=ls.all (fun l=>l.all (fin .f32)):=by
 rw [zpn]
 have:=zjf ls (Int.toNat ((ls.length:Int)-(0:Int))+1) false 0 ω2
 simpa using this
theorem zdv (l:LN):z7h [l]=z1v l:=by rw [z4k,z4l];simp
theorem zdu {l:LN} (h:l.all (fin .f32)=true) (i:Nat):fin .f32 (l.getD i 0)=true:=by
 rw [List.getD_eq_getElem?_getD]
 cases hx:l[i]? with
 | none=>exact z12w _
 | some x=>exact List.all_eq_true.1 h x (List.mem_of_getElem? hx)
theorem zf8 (w h:Int) (l:LN):z1s w h l=zeq w h l:=by
 rw [zbl,zer,zl7,zdv]
 show (bif z7q w 1 16 then (bif z7q h 1 16 then _ else false) else false)=_
 cases z7q w 1 16<;>rfl
theorem z1x {n a b:Int} (h1:a≤n) (h2:n≤b):z2w n a b=true:=by
 unfold z2w;rw [dct h1,dct h2];rfl
theorem ziw {w h:Int} {l:LN} (h1:1≤w) (h2:w≤16) (h3:1≤h) (h4:h≤16) (hl:(l.length:Int)=w*h) (hf:l.all (fin .f32)=true):z1s w h l=true:=by
 have hm:=z5h (W:=w) (H:=h) h1 h2 h3 h4
 rw [zbl,z1x h1 h2,z1x h3 h4,cond_true,cond_true,z4k,zt (n:=w*h) ω2 ω2,hl]
 simp [hf]
theorem z9q {w h:Int} {l:LN} (hh:z1s w h l=true):l.all (fin .f32)=true:=by
 rw [zbl,z4k] at hh
 simp only [Bool.cond_false_right,Bool.and_eq_true] at hh
 simpa using hh.2.2.2
theorem zne {W H level band:Int} (h1:1≤W) (h2:W≤16) (h3:1≤H) (h4:H≤16) (h5:1≤level) (h6:level≤4) (h7:0≤band) (h8:band≤3):
  z1j W H level band=((z1c W H level band).1,(z1c W H level band).2.1,(z1c W H level band).2.2.1,(z1c W H level band).2.2.2,true):=by
 have r1:=z4d (level-1).toNat W h1 h2
 have r2:=z4d (level-1).toNat H h3 h4
 rw [zl0,zbg,z1x h1 h2,z1x h3 h4,z1x h7 h8,show zfr level=true from z1x h5 h6]
 rw [z6u W H _ h1 h2 h3 h4,zae W _ h1 h2,zae H _ h3 h4]
 simp only [Bool.not_true,cond_false]
 rw [z6u _ _ 1 r1.1 ω2 r2.1 ω2,zae _ 1 r1.1 ω2,zae _ 1 r2.1 ω2]
 cases ((band:Int)==0)<;>cases ((band:Int)==1)<;>cases ((band:Int)==2)<;>rfl
theorem zez (ws:LN) (sc:Nat):z6r ws sc=zcm ws sc:=by
 rw [zpg,zea,zdv]
 unfold z2w
 have e:zle sc=zl4 sc:=rfl
 rw [e]
 cases decide ((1:Int)≤(ws.length:Int))<;>cases decide (((ws.length:Int):Int)≤8)<;>rfl
theorem zfd (low:LN) (j:Nat) (hj:j<low.length):z9j low (j:Int)=(low.getD j 0,z5p low ((j:Int)+1)):=by
 rw [zpc,zbf,Int.toNat_natCast]
 have e:(if (((low.length:Int)-1):Int)<((j:Int)+1) then ((low.length:Int)-1) else ((j:Int)+1)).toNat=(if (if ((j:Int)+1)<((low.length:Int)-1) then ((j:Int)+1) else ((low.length:Int)-1)) > 0 then (if ((j:Int)+1)<((low.length:Int)-1) then ((j:Int)+1) else ((low.length:Int)-1)) else 0).toNat:=by
  split<;>split<;>(try split at *)<;>omega
 exact congrArg (fun n=>(low.getD j 0,low.getD n 0)) e
theorem zdf (high:LN) (j:Nat) (h1:1≤high.length) (hj:j≤high.length):z9a high (j:Int)=(z5p high ((j:Int)-1),z5p high (j:Int)):=by
 rw [zpa,zbf,zbf]
 have e1:(if (0:Int) > ((j:Int)-1) then 0 else ((j:Int)-1)).toNat=(if (if ((j:Int)-1)<((high.length:Int)-1) then ((j:Int)-1) else ((high.length:Int)-1)) > 0 then (if ((j:Int)-1)<((high.length:Int)-1) then ((j:Int)-1) else ((high.length:Int)-1)) else 0).toNat:=by
  split<;>split<;>(try split at *)<;>omega
 have e2:(if (((high.length:Int)-1):Int)<(j:Int) then ((high.length:Int)-1) else (j:Int)).toNat=(if (if (j:Int)<((high.length:Int)-1) then (j:Int) else ((high.length:Int)-1)) > 0 then (if (j:Int)<((high.length:Int)-1) then (j:Int) else ((high.length:Int)-1)) else 0).toNat:=by
  split<;>split<;>(try split at *)<;>omega
 exact (congrArg (fun n=>(high.getD n 0,_)) e1).trans (congrArg (fun n=>(_,high.getD n 0)) e2)
theorem zmw {g g':Nat→LN×Bool}:∀k,(∀i,i<k→(g i).1=(g' i).1)→z5u g k=z5u g' k:=by
 intro k
 induction k with
 | zero=>intro _;rfl
 | succ k ih=>intro h;rw [z4v,z4v,ih fun i hi=>h i ω2,h k ω2]
theorem zqg {g:Nat→LN×Bool} {W:Int}:∀k:Nat,(∀i,i<k→((g i).1.length:Int)=W)→((z5u g k).length:Int)=W*(k:Int):=by
 intro k
 induction k with
 | zero=>intro _;simp [z5u]
 | succ k ih=>
  intro h
  rw [z4v,List.length_append,Int.natCast_add,ih fun i hi=>h i ω2,h k ω2]
  rw [show ((k+1:Nat):Int)=(k:Int)+1 by omega,Int.mul_add,Int.mul_one]
theorem zx4 {g:Nat→LN×Bool}:∀k:Nat,(∀i,i<k→(g i).1.all (fin .f32)=true)→(z5u g k).all (fin .f32)=true:=by
 intro k
 induction k with
 | zero=>intro _;rfl
 | succ k ih=>intro h;rw [z4v,List.all_append,ih fun i hi=>h i ω2,h k ω2];rfl
theorem zqv {l:LN} (h1:1≤l.length) (h2:l.length≤128) (hf:l.all (fin .f32)=true):zaa l=true:=by
 rw [zlb,z1x ω2 ω2,cond_true,z4k]
 simp [hf]
theorem zgv {l:LN} (hf:l.all (fin .f32)=true) (W:Int) (y:Nat):(z2c l W y).all (fin .f32)=true:=by
 rw [List.all_eq_true]
 intro x hx
 exact List.all_eq_true.1 hf x (List.mem_of_mem_drop (List.mem_of_mem_take hx))
theorem zsa (k:Int) (w:Nat) (low high:LN) (h:high.length≤low.length):z7u k w false low high=z6p k w low high:=by
 unfold z7u z6p
 cases (Int.tmod k 2==0) with
 | false=>rfl
 | true=>
  rw [cond_true,cond_true]
  apply List.ext_getElem (by simp)
  intro i h1 h2
  have hi:i<high.length:=by simpa using h1
  rw [List.getElem_mapIdx,List.getElem_mapIdx,zfd low i ω2]
  rfl
theorem zz2 (k:Int) (w:Nat) (low high:LN) (h1:1≤high.length) (h:low.length≤high.length+1):zcc k w false low high=zas k w low high:=by
 unfold zcc zas
 cases (Int.tmod k 2==0) with
 | true=>rfl
 | false=>
  rw [cond_false,cond_false]
  apply List.ext_getElem (by simp)
  intro i h2 h3
  have hi:i<low.length:=by simpa using h2
  rw [List.getElem_mapIdx,List.getElem_mapIdx,zdf high i h1 ω2]
  rfl
theorem z1eq:∀(ws:LN) (k:Int) (lo hi:LN),1≤hi.length→hi.length≤lo.length→lo.length≤hi.length+1→wfI ws k lo hi=wfS ws k lo hi:=by
 intro ws
 induction ws with
 | nil=>intro k lo hi _ _ _;rfl
 | cons w ws ih=>
  intro k lo hi h1 h2 h3
  unfold wfI wfS
  rw [zz2 k w lo hi h1 h3,zsa k w lo hi h2]
  exact ih (k+1) _ _ (by rw [z3a];exact h1) (by rw [z3a,z4h];exact h2) (by rw [z3a,z4h];exact h3)
theorem z14u {l:LN} (h:(((ods l).length:Int)==0)=false):1≤(ods l).length:=by
 have:¬((ods l).length:Int)=0:=by simpa using h
 omega
theorem zxl (ws:LN) (sc:Nat) (l:LN) (hv:z6r ws sc=true) (hl:zaa l=true):(z1t ws sc l).2.2=(z3g ws sc l).2.2∧
  ((z1t ws sc l).2.2=true→(z1t ws sc l).1=(z3g ws sc l).1∧(z1t ws sc l).2.1=(z3g ws sc l).2.1):=by
 rw [zaf,z5c,hv,hl]
 unfold zr0
 simp only [Bool.not_true,cond_false]
 cases hz:(((ods l).length:Int)==0) with
 | true=>simp only [cond_true];exact ⟨trivial,fun _=>⟨trivial,trivial⟩⟩
 | false=>
  have h1:=z14u hz
  have h2:=z4u l
  have h3:=z4y l
  have e:=z1eq ws 0 (evs l) (ods l) h1 ω2 ω2
  have eE:z8n ws sc l=zi4 ws sc l:=by unfold z8n zi4;rw [e]
  have eO:z8o ws sc l=zi5 ws sc l:=by unfold z8o zi5;rw [e]
  rw [eE,eO]
  have ef:z7h [zi4 ws sc l,zi5 ws sc l]=(z1v (zi4 ws sc l) && z1v (zi5 ws sc l)):=by
   rw [z4k,z4l,z4l];simp
  rw [ef]
  simp only [cond_false]
  cases (z1v (zi4 ws sc l) && z1v (zi5 ws sc l)) with
  | true=>exact ⟨rfl,fun _=>⟨rfl,rfl⟩⟩
  | false=>exact ⟨rfl,fun h=>by cases h⟩
theorem z14q (ws:LN) (sc:Nat) (l:LN) (hl:l.all (fin .f32)=true) (h:(z3g ws sc l).2.2=true):(z3g ws sc l).1.all (fin .f32)=true∧(z3g ws sc l).2.1.all (fin .f32)=true:=by
 rw [z5c] at h ⊢
 unfold zr0 at h ⊢
 cases hz:(((ods l).length:Int)==0) with
 | true=>
  simp only [cond_true]
  have part:∀p:Nat→Nat→Option Nat,(∀x i y,p x i=some y→y=x)→(l.zipIdx.filterMap fun q=>p q.1 q.2).all (fin .f32)=true:=by
   intro p hp
   rw [List.all_eq_true]
   intro y hy
   obtain ⟨q,hq,h2⟩:=List.mem_filterMap.1 hy
   rw [hp _ _ _ h2]
   exact List.all_eq_true.1 hl _ (List.fst_mem_of_mem_zipIdx hq)
  constructor
  ·exact part (fun x i=>if i % 2=0 then some x else none) (fun x i y h=>by split at h<;>simp_all)
  ·exact part (fun x i=>if i % 2=0 then none else some x) (fun x i y h=>by split at h<;>simp_all)
 | false=>
  rw [hz] at h
  simp only [cond_false] at h ⊢
  simp only [Bool.and_eq_true] at h
  rw [←z4l,←z4l]
  exact h
def zb7 (ws:LN) (sc:Nat) (l:LN) (W:Int) (y:Nat):LN×Bool:=((z3g ws sc (z2c l W y)).1++(z3g ws sc (z2c l W y)).2.1,(z3g ws sc (z2c l W y)).2.2)
theorem zqx (ws:LN) (sc:Nat) (W:Int) (m:Nat) (l:LN) (t5:Bool) (q1 q2 q4 q5:Int):∀(μ k:Nat),k≤m→m-k<μ→(∀i,i<k→(zb7 ws sc l W i).2=true)→
  z3x ws sc W (m:Int) l μ t5 (k:Int) q1 q2 q4 q5 (z5u (zb7 ws sc l W) k)=bif (List.range m).all (fun i=>(zb7 ws sc l W i).2) then (q4,q5,z5u (zb7 ws sc l W) m,true) else (0,0,[],false):=by
 intro μ
 induction μ with
 | zero=>intro k _ h;omega
 | succ μ ih=>
  intro k hk hm hall
  rw [zaj]
  by_cases h:k<m
  ·rw [dct (show (k:Int)<(m:Int) by omega),cond_true]
   cases hg:(z3g ws sc ((((l).drop (((k:Int)*W):Int).toNat).take (((((k:Int)+1)*W):Int)-((k:Int)*W)).toNat))).2.2 with
   | false=>
    rw [Bool.not_false,cond_true]
    have:(List.range m).all (fun i=>(zb7 ws sc l W i).2)=false:=by
     rw [List.all_eq_false]
     exact ⟨k,List.mem_range.2 h,by rw [show (zb7 ws sc l W k).2=false from hg];simp⟩
    rw [this,cond_false]
   | true=>
    rw [Bool.not_true,cond_false]
    have:=ih (k+1) ω2 ω2 (fun i hi=>by
     rcases Nat.lt_succ_iff_lt_or_eq.1 hi with hi | rfl
     ·exact hall i hi
     ·exact hg)
    rw [z4v] at this
    rw [List.append_assoc]
    exact this
  ·obtain rfl:k=m:=by omega
   rw [dcf (show ¬(k:Int)<(k:Int) by omega),cond_false]
   have:(List.range k).all (fun i=>(zb7 ws sc l W i).2)=true:=by
    rw [List.all_eq_true]
    exact fun i hi=>hall i (List.mem_range.1 hi)
   rw [this,cond_true]
theorem zn4 {ws:LN} {sc:Nat} {W Hi:Int} {l:LN} (hv:z6r ws sc=true) (hp:z1s W Hi l=true):z3e ws sc W Hi l=z2v ws sc W Hi l:=by
 rw [zbh]
 show z5m ws sc W Hi l 1=_
 unfold z5m
 rw [hv,hp,cond_true,cond_true]
 obtain ⟨h1,h2,h3,h4,h5,_⟩:=f8z_t hp
 have hf:=z9q hp
 obtain ⟨m,rfl⟩:∃m:Nat,Hi=(m:Int):=⟨Hi.toNat,by omega⟩
 have em:((m:Int)).toNat=m:=Int.toNat_natCast m
 show _=z2v ws sc W (m:Int) l
 rw [em,zel]
 have hs:=zqx ws sc W m l false 0 0 W (m:Int) (Int.toNat ((m:Int)-(0:Int))+1) 0 ω2 ω2 (fun i hi=>absurd hi (Nat.not_lt_zero _))
 refine Eq.trans ?_ hs.symm
 have rows:∀i,i<m→(za2 (z2c l W i) ws sc).2=(zb7 ws sc l W i).2∧((zb7 ws sc l W i).2=true→(za2 (z2c l W i) ws sc).1=(zb7 ws sc l W i).1):=by
  intro i hi
  obtain ⟨f1,f2,f3,f4⟩:=z6z h1 h2 h4 h5 (show (i:Int)<(m:Int) by omega)
  obtain ⟨a1,a2⟩:=zxl ws sc (z2c l W i) hv (zqv ω2 ω2 (zgv hf W i))
  refine ⟨a1,fun h=>?_⟩
  obtain ⟨b1,b2⟩:=a2 (a1.trans h)
  show (z1t ws sc (z2c l W i)).1++(z1t ws sc (z2c l W i)).2.1=_
  rw [b1,b2];rfl
 have eall:(List.range m).all (fun i=>(za2 (z2c l W i) ws sc).2)=(List.range m).all (fun i=>(zb7 ws sc l W i).2):=by
  rw [Bool.eq_iff_iff,List.all_eq_true,List.all_eq_true]
  exact ⟨fun h i hi=>by rw [←(rows i (List.mem_range.1 hi)).1];exact h i hi,fun h i hi=>by rw [(rows i (List.mem_range.1 hi)).1];exact h i hi⟩
 unfold z3n
 rw [eall]
 cases hall:(List.range m).all (fun i=>(zb7 ws sc l W i).2) with
 | false=>rfl
 | true=>
  rw [cond_true,cond_true]
  have ok:∀i,i<m→(zb7 ws sc l W i).2=true:=fun i hi=>List.all_eq_true.1 hall i (List.mem_range.2 hi)
  rw [zmw m fun i hi=>(rows i hi).2 (ok i hi)]
  have hvp:z1s W (m:Int) (z5u (zb7 ws sc l W) m)=true:=by
   refine ziw h1 h2 h3 h4 (zqg m fun i hi=>?_) (zx4 m fun i hi=>?_)
   ·obtain ⟨f1,f2,f3,f4⟩:=z6z h1 h2 h4 h5 (show (i:Int)<(m:Int) by omega)
    obtain ⟨c1,c2⟩:=zaq ws sc (z2c l W i)
    show (((z3g ws sc (z2c l W i)).1++(z3g ws sc (z2c l W i)).2.1).length:Int)=W
    rw [List.length_append]
    omega
   ·obtain ⟨c1,c2⟩:=z14q ws sc (z2c l W i) (zgv hf W i) (ok i hi)
    show ((z3g ws sc (z2c l W i)).1++(z3g ws sc (z2c l W i)).2.1).all (fin .f32)=true
    rw [List.all_append,c1,c2];rfl
  rw [z4q,hvp]
  rfl
theorem zro (ys:LN):∀(xs:LN) (off z:Nat),zfs xs off (ys++[z])=(zfs xs off ys).set (off+ys.length) z:=by
 induction ys with
 | nil=>intro xs off z;rfl
 | cons y r ih=>
  intro xs off z
  show zfs (xs.set off y) (off+1) (r++[z])=_
  rw [ih]
  show _=(zfs (xs.set off y) (off+1) r).set (off+(r.length+1)) z
  rw [show off+1+r.length=off+(r.length+1) by omega]
theorem z15i {l q:LN} {W x y:Int} {n v:Nat} (hn:0<n) (h0:0≤(y+(v:Int))*W+x):∀u,u≤n→v*n+u≤q.length→zfs (putS l q W (n:Int) x y (v*n)) ((y+(v:Int))*W+x).toNat ((q.drop (v*n)).take u)=putS l q W (n:Int) x y (v*n+u):=by
 intro u
 induction u with
 | zero=>intro _ _;rw [List.take_zero];rfl
 | succ u ih=>
  intro hu hl
  have hg:(q.drop (v*n)).take (u+1)=(q.drop (v*n)).take u++[q.getD (v*n+u) 0]:=by
   rw [List.take_succ_eq_append_getElem (by rw [List.length_drop];omega),List.getElem_drop,List.getD_eq_getElem?_getD,List.getElem?_eq_getElem (show v*n+u<q.length by omega)];rfl
  have ll:((q.drop (v*n)).take u).length=u:=by rw [List.length_take,List.length_drop];omega
  rw [hg,zro,ih ω2 ω2,ll]
  show _=(putS l q W (n:Int) x y (v*n+u)).set ((y+Int.tdiv ((v*n+u:Nat):Int) (n:Int))*W+x+Int.tmod ((v*n+u:Nat):Int) (n:Int)).toNat (q.getD (v*n+u) 0)
  have e1:Int.tdiv ((v*n+u:Nat):Int) (n:Int)=(v:Int):=by
   show ((((v*n+u) / n:Nat)):Int)=_
   rw [Nat.add_comm,Nat.mul_comm,Nat.add_mul_div_left _ _ hn,Nat.div_eq_of_lt ω2];omega
  have e2:Int.tmod ((v*n+u:Nat):Int) (n:Int)=(u:Int):=by
   show ((((v*n+u) % n:Nat)):Int)=_
   rw [Nat.add_comm,Nat.mul_comm,Nat.add_mul_mod_self_left,Nat.mod_eq_of_lt ω2]
  rw [e1,e2]
  have e3:((y+(v:Int))*W+x).toNat+u=((y+(v:Int))*W+x+(u:Int)).toNat:=by
   generalize (y+(v:Int))*W+x=a at *
   omega
  rw [e3]
theorem z15k {l q:LN} {W x y:Int} {n m:Nat} (hn:0<n) (hx:0≤x) (hy:0≤y) (hW:0≤W) (hq:q.length=m*n):∀v,v≤m→z9n l q W (n:Int) x y v=putS l q W (n:Int) x y (v*n):=by
 intro v
 induction v with
 | zero=>intro _;rw [Nat.zero_mul];rfl
 | succ v ih=>
  intro hv
  show zfs (z9n l q W (n:Int) x y v) ((y+(v:Int))*W+x).toNat ((q.drop ((v:Int)*(n:Int)).toNat).take ((n:Int)).toNat)=_
  have hm:(v+1)*n≤m*n:=Nat.mul_le_mul_right _ hv
  have hs:(v+1)*n=v*n+n:=Nat.succ_mul _ _
  have h0:0≤(y+(v:Int))*W+x:=Int.add_nonneg (Int.mul_nonneg ω2 hW) hx
  rw [ih ω2,←Int.natCast_mul,Int.toNat_natCast,Int.toNat_natCast,z15i hn h0 n (Nat.le_refl _) ω2,hs]
theorem z1em {l:LN} (hf:l.all (fin .f32)=true) {x:Nat} (hx:fin .f32 x=true) (i:Nat):(l.set i x).all (fin .f32)=true:=by
 rw [List.all_eq_true] at hf ⊢
 intro y hy
 rcases List.mem_or_eq_of_mem_set hy with h | rfl
 ·exact hf y h
 ·exact hx
theorem z15h {l q:LN} (hl:l.all (fin .f32)=true) (hq:q.all (fin .f32)=true) (W pw x y:Int):∀i,(putS l q W pw x y i).all (fin .f32)=true:=by
 intro i
 induction i with
 | zero=>exact hl
 | succ i ih=>exact z1em ih (zdu hq i) _
theorem zfw {w h:Int} {l:LN} (hh:(za3 w h l).2.2.2=true):z1s (za3 w h l).1 (za3 w h l).2.1 (za3 w h l).2.2.1=true:=by
 rw [z4q] at hh ⊢
 cases hv:z1s w h l with
 | false=>rw [hv] at hh;cases hh
 | true=>exact hv
theorem zlj {W Hi:Int} {m:Nat} {g:Nat→LN×Bool} (hh:(z3n W Hi m g).2.2.2=true):z1s (z3n W Hi m g).1 (z3n W Hi m g).2.1 (z3n W Hi m g).2.2.1=true:=by
 unfold z3n at hh ⊢
 cases ha:(List.range m).all (fun i=>(g i).2) with
 | false=>rw [ha] at hh;cases hh
 | true=>rw [ha,cond_true] at hh;rw [cond_true];exact zfw hh
theorem znc {W Hi:Int} {m:Nat} {g:Nat→LN×Bool} (hh:(z3n W Hi m g).2.2.2=false):z3n W Hi m g=(0,0,[],false):=by
 unfold z3n at hh ⊢
 cases ha:(List.range m).all (fun i=>(g i).2) with
 | false=>rfl
 | true=>
  rw [ha,cond_true] at hh;rw [cond_true]
  rw [z4q] at hh ⊢
  cases hv:z1s W Hi (z5u g m) with
  | false=>rfl
  | true=>rw [hv] at hh;cases hh
theorem z15z {q:PicT} (h:q.2.2.2=false→q=(0,0,[],false)):z5y q (fun a b l=>(a,b,l,true))=q:=by
 obtain ⟨q1,q2,q3,q4⟩:=q
 cases q4 with
 | false=>exact (h rfl).symm
 | true=>rfl
theorem zco {w h:Int} {g:Int→Int→Nat} (h1:1≤w) (h2:w≤16) (h3:1≤h) (h4:h≤16) (hg:∀u v:Int,fin .f32 (g u v)=true):z9l w h g=(w,h,picL w.toNat h.toNat g,true)∧z1s w h (picL w.toNat h.toNat g)=true:=by
 have hf:(picL w.toNat h.toNat g).all (fin .f32)=true:=List.all_eq_true.2 fun z hz=>by
  obtain ⟨u,v,_,_,rfl⟩:=z15f hz
  exact hg _ _
 have e3:z1s w h (picL w.toNat h.toNat g)=true:=by
  refine ziw h1 h2 h3 h4 ?_ hf
  rw [z2h,Int.natCast_mul,Int.toNat_of_nonneg ω2,Int.toNat_of_nonneg ω2,Int.mul_comm]
 refine ⟨?_,e3⟩
 unfold z9l
 rw [z1x h1 h2,z1x h3 h4,cond_true,cond_true,z4q,e3]
 rfl
theorem zyv {W Hi:Int} {l:LN} (hv:z1s W Hi l=true):z2d W Hi l=(Hi,W,picL Hi.toNat W.toNat (ziv l W))∧z8h W Hi l=(Hi,W,picL Hi.toNat W.toNat (ziv l W),true)∧z1s Hi W (picL Hi.toNat W.toNat (ziv l W))=true:=by
 obtain ⟨h1,h2,h3,h4,h5,_⟩:=f8z_t hv
 have hf:=z9q hv
 obtain ⟨a,b⟩:=zco (w:=Hi) (h:=W) (g:=ziv l W) h3 h4 h1 h2 fun u v=>zdu hf _
 refine ⟨zga W Hi l h1 h3,?_,b⟩
 unfold z8h
 rw [hv,cond_true]
 exact a
theorem zkh {W Hi:Int} {l:LN} (hv:z1s W Hi l=true) {x y w h:Int} (h1:0≤x) (h2:0≤y) (h3:1≤w) (h4:1≤h) (h5:x+w≤W) (h6:y+h≤Hi):z8p W Hi l x y w h=true:=by
 have hb:=f8z_t hv
 rw [zee,hv,cond_true,z1x h1 ω2,cond_true,z1x h2 ω2,cond_true,zt (n:=W-x) ω2 ω2,zt (n:=Hi-y) ω2 ω2,z1x h3 ω2,cond_true,z1x h4 ω2]
theorem zoq {W Hi:Int} {l:LN} (hv:z1s W Hi l=true) {x y w h:Int} (h1:0≤x) (h2:0≤y) (h3:1≤w) (h4:1≤h) (h5:x+w≤W) (h6:y+h≤Hi):
  z4z W Hi l x y w h=(w,h,picL w.toNat h.toNat (z4r l x y W),true)∧z1s w h (picL w.toNat h.toNat (z4r l x y W))=true:=by
 have hb:=f8z_t hv
 have hf:=z9q hv
 obtain ⟨a,b⟩:=zco (w:=w) (h:=h) (g:=z4r l x y W) h3 ω2 h4 ω2 fun u v=>zdu hf _
 refine ⟨?_,b⟩
 unfold z4z
 rw [zkh hv h1 h2 h3 h4 h5 h6,cond_true]
 exact a
theorem z1jx {W Hi:Int} {l:LN} (hv:z1s W Hi l=true) {w h:Int} {q:LN} (hq:z1s w h q=true) (h5:w≤W) (h6:h≤Hi):
  zam W Hi l w h q 0 0=(W,Hi,putS l q W w 0 0 (w*h).toNat,true)∧z1s W Hi (putS l q W w 0 0 (w*h).toNat)=true:=by
 obtain ⟨h1,h2,h3,h4,hl,_⟩:=f8z_t hv
 obtain ⟨g1,g2,g3,g4,hql,_⟩:=f8z_t hq
 refine ⟨?_,ziw h1 h2 h3 h4 (by rw [z8j];exact hl) (z15h (z9q hv) (z9q hq) _ _ _ _ _)⟩
 unfold zam
 rw [hq,zkh hv (Int.le_refl 0) (Int.le_refl 0) g1 g3 ω2 ω2,cond_true,cond_true]
 obtain ⟨n,rfl⟩:∃n:Nat,w=(n:Int):=⟨w.toNat,by omega⟩
 obtain ⟨m,rfl⟩:∃m:Nat,h=(m:Int):=⟨h.toNat,by omega⟩
 have hql':q.length=m*n:=by rw [Nat.mul_comm];rw [←Int.natCast_mul] at hql;omega
 rw [Int.toNat_natCast,z15k ω2 (Int.le_refl 0) (Int.le_refl 0) ω2 hql' m (Nat.le_refl _),←Int.natCast_mul,Int.toNat_natCast,Nat.mul_comm m n]
def z4a (R M:Int→Int→LN→PicT):Prop:=∀W Hi l,z1s W Hi l=true→R W Hi l=M W Hi l∧((M W Hi l).2.2.2=false→M W Hi l=(0,0,[],false))∧((M W Hi l).2.2.2=true→(M W Hi l).1=W∧(M W Hi l).2.1=Hi∧z1s W Hi (M W Hi l).2.2.1=true)
theorem z4a.congr {R M M':Int→Int→LN→PicT} (h:z4a R M) (e:∀W Hi l,z1s W Hi l=true→M' W Hi l=M W Hi l):z4a R M':=fun W Hi l hv=>by rw [e W Hi l hv];exact h W Hi l hv
def colsS (M:Int→Int→LN→PicT) (W Hi:Int) (l:LN):PicT:=z5y (M (z2d W Hi l).1 (z2d W Hi l).2.1 (z2d W Hi l).2.2) fun a b c=>((z2d a b c).1,(z2d a b c).2.1,(z2d a b c).2.2,true)
theorem zjl {R M:Int→Int→LN→PicT} (h:z4a R M):z4a (z6n R) (colsS M):=by
 intro W Hi l hv
 obtain ⟨s1,s2,s3⟩:=zyv hv
 obtain ⟨r1,r2,r3⟩:=h _ _ _ s3
 unfold z6n colsS
 rw [s1,s2,z1w rfl]
 dsimp only
 rw [r1]
 generalize hq:M Hi W (picL Hi.toNat W.toNat (ziv l W))=q at *
 obtain ⟨q1,q2,q3,q4⟩:=q
 dsimp only at r2 r3 ⊢
 cases q4 with
 | false=>exact ⟨rfl,fun _=>rfl,fun h=>by cases h⟩
 | true=>
  obtain ⟨d1,d2,d3⟩:=r3 rfl
  subst d1 d2
  obtain ⟨t1,t2,t3⟩:=zyv d3
  rw [z1w rfl,z1w rfl]
  dsimp only
  rw [t1,t2]
  refine ⟨rfl,?_,?_⟩
  ·intro h;cases h
  ·intro _;exact ⟨rfl,rfl,t3⟩
theorem zyy {R M R' M':Int→Int→LN→PicT} (h:z4a R M) (h':z4a R' M'):z4a (fun W Hi l=>z5y (R W Hi l) R') (fun W Hi l=>z5y (M W Hi l) M'):=by
 intro W Hi l hv
 obtain ⟨r1,r2,r3⟩:=h _ _ _ hv
 dsimp only
 rw [r1]
 generalize M W Hi l=q at *
 obtain ⟨q1,q2,q3,q4⟩:=q
 dsimp only at r2 r3 ⊢
 cases q4 with
 | false=>exact ⟨rfl,fun _=>rfl,fun h=>by cases h⟩
 | true=>
  obtain ⟨d1,d2,d3⟩:=r3 rfl
  subst d1 d2
  rw [z1w rfl,z1w rfl]
  exact h' _ _ _ d3
theorem zy9 {ch Q:Int→Int→LN→PicT} (hc:z4a ch Q) {W Hi w h:Int} {l:LN} (hv:z1s W Hi l=true) (h1:1≤w) (h2:w≤W) (h3:1≤h) (h4:h≤Hi):
  z5s ch W Hi l w h=z8i Q W Hi l w h∧((z8i Q W Hi l w h).2.2.2=true→(z8i Q W Hi l w h).1=W∧(z8i Q W Hi l w h).2.1=Hi∧z1s W Hi (z8i Q W Hi l w h).2.2.1=true):=by
 obtain ⟨c1,c2⟩:=zoq hv (x:=0) (y:=0) (w:=w) (h:=h) (Int.le_refl 0) (Int.le_refl 0) h1 h3 ω2 ω2
 obtain ⟨r1,r2,r3⟩:=hc _ _ _ c2
 unfold z5s z8i
 rw [c1,z1w rfl]
 dsimp only
 rw [r1]
 generalize Q w h (picL w.toNat h.toNat (z4r l 0 0 W))=q at *
 obtain ⟨q1,q2,q3,q4⟩:=q
 dsimp only at r2 r3 ⊢
 cases q4 with
 | false=>exact ⟨rfl,fun h=>by cases h⟩
 | true=>
  obtain ⟨d1,d2,d3⟩:=r3 rfl
  subst d1 d2
  rw [z1w rfl]
  dsimp only
  obtain ⟨p1,p2⟩:=z1jx hv d3 h2 h4
  exact ⟨p1,fun _=>⟨rfl,rfl,p2⟩⟩
theorem zrl {f g:Nat→Int→Int→LN→PicT} {W Hi:Int} (h:∀k l,z1s W Hi l=true→f k W Hi l=g k W Hi l∧((g k W Hi l).2.2.2=true→(g k W Hi l).1=W∧(g k W Hi l).2.1=Hi∧z1s W Hi (g k W Hi l).2.2.1=true)):∀(n k:Nat) (l:LN),z1s W Hi l=true→z2k f n k W Hi l=z2k g n k W Hi l∧((z2k g n k W Hi l).2.2.2=true→(z2k g n k W Hi l).1=W∧(z2k g n k W Hi l).2.1=Hi∧z1s W Hi (z2k g n k W Hi l).2.2.1=true):=by
 intro n
 induction n with
 | zero=>intro k l hv;exact ⟨rfl,fun _=>⟨rfl,rfl,hv⟩⟩
 | succ n ih=>
  intro k l hv
  obtain ⟨a,b⟩:=h k l hv
  rw [z5a,z5a,a]
  generalize g k W Hi l=q at *
  obtain ⟨q1,q2,q3,q4⟩:=q
  dsimp only at b
  cases q4 with
  | false=>exact ⟨rfl,fun h=>by cases h⟩
  | true=>
   obtain ⟨d1,d2,d3⟩:=b rfl
   subst d1 d2
   rw [z1w rfl,z1w rfl]
   exact ih _ _ d3
theorem z8b {ws:LN} {sc:Nat} (hs:z6r ws sc=true):z4a (z2m ws sc) (fun W Hi l=>z2u ws sc W Hi l false):=by
 intro W Hi l hv
 obtain ⟨h1,h2,h3,h4,h5,_⟩:=f8z_t hv
 have e1:z2m ws sc W Hi l=z2u ws sc W Hi l false:=by
  show z3e ws sc W Hi l=_
  rw [zn4 hs hv,zei]
  rfl
 have e2:z2m ws sc W Hi l=z3n W Hi Hi.toNat (fun y=>za2 (z2c l W y) ws sc):=by
  show z3e ws sc W Hi l=_
  rw [zbh]
  show z5m ws sc W Hi l 1=_
  unfold z5m
  rw [hs,hv];rfl
 dsimp only
 refine ⟨e1,?_,fun h=>?_⟩
 ·rw [←e1,e2];exact znc
 ·obtain ⟨d1,d2,d3⟩:=z7z h1 h3 h5 h
  refine ⟨d1,d2,?_⟩
  have hq:(z3n W Hi Hi.toNat (fun y=>za2 (z2c l W y) ws sc)).2.2.2=true:=by rw [←e2,e1];exact h
  have v:=zlj hq
  rw [←e2,e1,d1,d2] at v
  exact v
theorem zya {ws:LN} {sc:Nat} {R:Int→Int→LN→PicT} (h:z4a R (fun W Hi l=>z2u ws sc W Hi l false)) {W Hi:Int} {l:LN} (hv:z1s W Hi l=true):z2k (z6o ws sc false) 2 0 W Hi l=z5y (z2u ws sc W Hi l false) (colsS (fun W Hi l=>z2u ws sc W Hi l false)):=by
 obtain ⟨_,_,r3⟩:=h _ _ _ hv
 dsimp only at r3
 rw [z5a,show z6o ws sc false 0 W Hi l=z2u ws sc W Hi l false from rfl]
 generalize z2u ws sc W Hi l false=q at *
 obtain ⟨q1,q2,q3,q4⟩:=q
 cases q4 with
 | false=>rfl
 | true=>
  obtain ⟨d1,d2,d3⟩:=r3 rfl
  dsimp only at d1 d2 d3
  subst d1 d2
  rw [z1w rfl,z1w rfl]
  exact z15z ((zjl h) _ _ _ d3).2.1
theorem zqz {ws:LN} {sc:Nat} (hs:z6r ws sc=true):z4a (zc6 (z2m ws sc)) (fun W Hi l=>z2k (z6o ws sc false) 2 0 W Hi l):=
 (zyy (z8b hs) (zjl (z8b hs))).congr fun _ _ _ hv=>zya (z8b hs) hv
theorem ze2 {ws:LN} {sc:Nat} {W Hi:Int} {l:LN} {levels:Int} (hs:z6r ws sc=true) (hv:z1s W Hi l=true):z2k (z7b ws sc W Hi levels) levels.toNat 0 W Hi l=z5r ws sc W Hi l levels∧((z5r ws sc W Hi l levels).2.2.2=true→(z5r ws sc W Hi l levels).1=W∧(z5r ws sc W Hi l levels).2.1=Hi∧z1s W Hi (z5r ws sc W Hi l levels).2.2.1=true):=by
 obtain ⟨h1,h2,h3,h4,h5,_⟩:=f8z_t hv
 refine zrl (g:=fun (k:Nat) a b l=>znk ws sc W Hi false (k:Int) a b l) (fun k l hv=>?_) levels.toNat 0 l hv
 have rw1:=z4d k W h1 h2
 have rh1:=z4d k Hi h3 h4
 have e1:z1e W (k:Int)=z6k k W:=by rw [zae W _ h1 h2,Int.toNat_natCast]
 have e2:z1e Hi (k:Int)=z6k k Hi:=by rw [zae Hi _ h3 h4,Int.toNat_natCast]
 have e3:zx W Hi (k:Int)=(z6k k W,z6k k Hi):=by rw [z6u W Hi _ h1 h2 h3 h4,Int.toNat_natCast]
 have:=zy9 (zqz hs) hv rw1.1 rw1.2 rh1.1 rh1.2
 show z5s (zc6 (z2m ws sc)) W Hi l (z1e W (k:Int)) (z1e Hi (k:Int))=z8i (fun W Hi l=>z2k (z6o ws sc false) 2 0 W Hi l) W Hi l (zx W Hi (k:Int)).1 (zx W Hi (k:Int)).2∧((z8i (fun W Hi l=>z2k (z6o ws sc false) 2 0 W Hi l) W Hi l (zx W Hi (k:Int)).1 (zx W Hi (k:Int)).2).2.2.2=true→(z8i (fun W Hi l=>z2k (z6o ws sc false) 2 0 W Hi l) W Hi l (zx W Hi (k:Int)).1 (zx W Hi (k:Int)).2).1=W∧(z8i (fun W Hi l=>z2k (z6o ws sc false) 2 0 W Hi l) W Hi l (zx W Hi (k:Int)).1 (zx W Hi (k:Int)).2).2.1=Hi∧z1s W Hi (z8i (fun W Hi l=>z2k (z6o ws sc false) 2 0 W Hi l) W Hi l (zx W Hi (k:Int)).1 (zx W Hi (k:Int)).2).2.2.1=true)
 rw [e1,e2,e3]
 exact this
theorem zcv (ws:LN) (sc:Nat) (W Hi:Int) (l:LN) (levels:Int):z1z ws sc W Hi l levels=z2x ws sc W Hi l levels:=by
 rw [zd4,z9k,←zez,←zf8,zkx]
 unfold z1z
 cases hs:z6r ws sc with
 | false=>rfl
 | true=>
  cases hv:z1s W Hi l with
  | false=>rfl
  | true=>
   cases hl:zfr levels with
   | false=>
    have hl':z7q levels 1 4=false:=hl
    rw [hl'];rfl
   | true=>
    have hl':z7q levels 1 4=true:=hl
    rw [hl']
    simp only [cond_true,Bool.not_true,cond_false]
    exact (ze2 hs hv).1
theorem zfn (ws:LN) (sc:Nat) (W Hi:Int) (l:LN) (levels:Int):(z2x ws sc W Hi l levels).2.2.2=true→z1s (z2x ws sc W Hi l levels).1 (z2x ws sc W Hi l levels).2.1 (z2x ws sc W Hi l levels).2.2.1=true∧1≤levels∧levels≤4:=by
 rw [zd4,z9k,←zez,←zf8,zkx]
 cases hs:z6r ws sc with
 | false=>intro h;cases h
 | true=>
  cases hv:z1s W Hi l with
  | false=>intro h;cases h
  | true=>
   cases hl:z7q levels 1 4 with
   | false=>intro h;cases h
   | true=>
    simp only [cond_true,Bool.not_true,cond_false]
    intro h
    obtain ⟨a,b,c⟩:=(ze2 hs hv).2 h
    rw [a,b]
    exact ⟨c,f27z_t hl⟩
theorem zq2 {W H:Int} {L:LN} (hv:z1s W H L=true) {level:Int} (h5:1≤level) (h6:level≤4):
  z3l W H L level 0=((z4e W H L level 0).1,(z4e W H L level 0).2.1,(z4e W H L level 0).2.2,true):=by
 obtain ⟨h1,h2,h3,h4,hl,_,_⟩:=f8z_t hv
 have z:=z5v W H level 0 ⟨h1,h2,h3,h4⟩
 have a:=z2z W H (level-1) ⟨h1,h2,h3,h4⟩
 have z0:1≤(z1c W H level 0).2.2.1∧1≤(z1c W H level 0).2.2.2:=by
  have b:=z2z (zx W H (level-1)).1 (zx W H (level-1)).2 1 ω2
  rw [zbg]
  exact ⟨b.1,b.2.2.1⟩
 rw [zem,zne h1 h2 h3 h4 h5 h6 ω22 ω22,zg9 W H L level 0 h1 h2 h3 h4]
 generalize (z1c W H level 0)=r at *
 simp only [Bool.not_true,cond_false]
 rw [(zoq hv z.1 z.2.1 ω2 ω2 z.2.2.2.2.1 z.2.2.2.2.2).1]
 have n1:(r.2.2.1==(0:Int))=false:=by
  have:¬r.2.2.1=0:=by omega
  simpa using this
 have n2:(r.2.2.2==(0:Int))=false:=by
  have:¬r.2.2.2=0:=by omega
  simpa using this
 rw [n1,n2];rfl
theorem zs8 (ws:LN) (sc:Nat) (W Hi:Int) (l:LN) (levels:Int):z1i ws sc W Hi l levels=z1u ws sc W Hi l levels:=by
 rw [zej,zek,zcv]
 have hv:=zfn ws sc W Hi l levels
 generalize z2x ws sc W Hi l levels=q at *
 cases hq:q.2.2.2 with
 | false=>rfl
 | true=>
  obtain ⟨v,v1,v2⟩:=hv hq
  rw [Bool.not_true,cond_false,cond_false,zq2 v v1 v2]
theorem zvs (l:LN) (sc:Nat):zgf l sc l sc=true:=by
 rw [zl1,zoz,zp1];rfl
theorem zwv (a b k:Int) (n:Nat) (h:0≤wk k n):zid a b (z4n (FloatKind.nearest .f32) k n) k=wk k n:=by
 rw [zph,zwr,dcf ω2,cond_false]
theorem laws_FnExactThumbOf_true (bb:LN) (wb:Nat) (gc fc:Int) (gb:LN) (aLevels:Int) (q0:(∀y ∈ bb,W32 y)) (q0':bb.length≤9223372036854775807) (q1:W32 wb) (q2:I64 gc) (q3:I64 fc) (q4:(∀y ∈ gb,W32 y)) (q4':gb.length≤9223372036854775807) (q5:I64 aLevels):z3m bb wb gc fc gb aLevels=true:=by
 rw [z4g]
 rcases z19f bb wb 1048576 ω22 ω22 q0' with h | ⟨h,h'⟩
 ·rw [dct h];rfl
 ·rw [dcf (show ¬z8q bb wb 1048576<0 by omega),cond_false]
  rcases fxz_f gc fc gb (z8q bb wb 1048576) ω2 ω2 q4' with g | ⟨g,g'⟩
  ·rw [dct g];rfl
  ·rw [dcf (show ¬zli gc fc gb (z8q bb wb 1048576)<0 by omega),cond_false]
   rw [zs8]
   have hr:=zot bb wb gc fc gb aLevels
   have hw:=wk_eq bb.length 1 ω2 ω2
   have hv:=wk_eq gb.length (wk 1 bb.length) ω2 ω2
   have hu:=wk_eq (z1u bb wb gc fc gb aLevels).2.2.1.length 1 ω2 ω2
   simp only [z14d,zvs,zwv _ _ 1 (z1u bb wb gc fc gb aLevels).2.2.1.length ω2,Bool.not_true,cond_false,beq_self_eq_true,bne_self_eq_false,dcf (show ¬wk (wk 1 bb.length) gb.length<(0:Int) by omega),dcf (show ¬wk 1 (z1u bb wb gc fc gb aLevels).2.2.1.length<(0:Int) by omega)]
def E_laws_FnExactThumbOf:Env:=envOf [(999996,z8l),(9,z18e),(10,S_fxz),(12,z18f),(13,S_fyz),(39,z18k),(37,z18j),(15,S_fvz),(16,z18d),(17,S_fnz),(18,S_fhz),(19,S_fgz)]
def z5i (args:List Value) (H:zp):(Value→zp→Prop)→Prop:=match args with
 | [.agg ⟨[.slice rg qh ug,.float .f32 wb]⟩,.agg ⟨[.int .i64 gc,.int .i64 fc,.slice yg xh ah]⟩,.int .i64 aLevels]=>fun K=>z5j rg qh ug wb gc fc yg xh ah aLevels H fun (r1:Bool) (H':zp)=>K (.bool r1) H'
 | _=>fun _=>False
def z8v:FSpec:={F:=z5i,quiet:=false,tame:=false}
theorem laws_FnExactThumbOf_vc (rg:OA) (qh ug wb:Nat) (gc fc:Int) (yg:OA) (xh ah:Nat) (aLevels:Int) (H:zp) (K:KT):zw Tryz.prog E_laws_FnExactThumbOf Tryz.f6 [.agg #[.slice rg qh ug,.float .f32 wb],.agg #[.int .i64 gc,.int .i64 fc,.slice yg xh ah],.int .i64 aLevels] H K=
 (Al [.slice rg qh ug,.float .f32 wb] H fun b1 H1=>Al [.int .i64 gc,.int .i64 fc,.slice yg xh ah] H1 fun b2 H2=>∃ni:OA,∃(qi oi c2:Nat),  rdN H2 b1 0 2=some [.slice ni qi oi,.float .f32 c2]∧zo0 ni qi oi c2 1048576 H2 fun (r1:Int) (H3:zp)=>Br (decide ((r1:Int)<0)) (K (.bool true) H3) (∃(c3 c4:Int),∃zi:OA,∃(bj aj:Nat),  rdN H3 b2 0 3=some [.int .i64 c3,.int .i64 c4,.slice zi bj aj]∧T_fxz c3 c4 zi bj aj r1 H3 fun (r2:Int) (H4:zp)=>Br (decide ((r2:Int)<0)) (K (.bool true) H4) (∃(c6 c7:Int),∃cj:OA,∃(fj dj:Nat),  rdN H4 b2 0 3=some [.int .i64 c6,.int .i64 c7,.slice cj fj dj]∧∃sh:OA,∃(uh th c10:Nat),  rdN H4 b1 0 2=some [.slice sh uh th,.float .f32 c10]∧zdd sh uh th c10 H4 fun (a1:OA) (r3:Nat) (r4:Nat) (r5:Nat) (H5:zp)=>zm9 c6 c7 cj fj dj H5 fun (r6:Int) (r7:Int) (a2:OA) (r8:Nat) (r9:Nat) (H6:zp)=>zo5 a1 r3 r4 r5 r6 r7 a2 r8 r9 aLevels H6 fun (r10:Int) (r11:Int) (a3:OA) (r12:Nat) (r13:Nat) (r14:Bool) (H7:zp)=>Al [.int .i64 0,.int .i64 0,.slice none 0 0] H7 fun b3 H8=>isOwn H8 b3∧(∃l,rdN H8 b3 0 3=some l)∧Lt (setN H8 b3 0 [.int .i64 r10,.int .i64 r11,.slice a3 r12 r13]) fun H9=>∃wi:OA,∃(yi xi c12:Nat),  rdN H9 b1 0 2=some [.slice wi yi xi,.float .f32 c12]∧zdd wi yi xi c12 H9 fun (a4:OA) (r15:Nat) (r16:Nat) (r17:Nat) (H10:zp)=>Al [.slice none 0 0,.float .f32 0] H10 fun b4 H11=>isOwn H11 b4∧(∃l,rdN H11 b4 0 2=some l)∧Lt (setN H11 b4 0 [.slice a4 r15 r16,.float .f32 r17]) fun H12=>∃(c13 c14:Int),∃lj:OA,∃(nj mj:Nat),  rdN H12 b2 0 3=some [.int .i64 c13,.int .i64 c14,.slice lj nj mj]∧zm9 c13 c14 lj nj mj H12 fun (r18:Int) (r19:Int) (a5:OA) (r20:Nat) (r21:Nat) (H13:zp)=>Al [.int .i64 0,.int .i64 0,.slice none 0 0] H13 fun b5 H14=>isOwn H14 b5∧(∃l,rdN H14 b5 0 3=some l)∧Lt (setN H14 b5 0 [.int .i64 r18,.int .i64 r19,.slice a5 r20 r21]) fun H15=>∃wl:OA,∃(yl xl c17:Nat),  rdN H15 b4 0 2=some [.slice wl yl xl,.float .f32 c17]∧∃(c18 c19:Int),∃ik:OA,∃(lk jk:Nat),  rdN H15 b5 0 3=some [.int .i64 c18,.int .i64 c19,.slice ik lk jk]∧zja wl yl xl c17 c18 c19 ik lk jk aLevels H15 fun (r22:Int) (r23:Int) (a6:OA) (r24:Nat) (r25:Nat) (r26:Bool) (H16:zp)=>Al [.int .i64 0,.int .i64 0,.slice none 0 0] H16 fun b6 H17=>isOwn H17 b6∧(∃l,rdN H17 b6 0 3=some l)∧Lt (setN H17 b6 0 [.int .i64 r22,.int .i64 r23,.slice a6 r24 r25]) fun H18=>∃(c21 c22:Int),∃yk:OA,∃(fl dl:Nat),  rdN H18 b6 0 3=some [.int .i64 c21,.int .i64 c22,.slice yk fl dl]∧∃(c24 c25:Int),∃gl:OA,∃(kl jl:Nat),  rdN H18 b3 0 3=some [.int .i64 c24,.int .i64 c25,.slice gl kl jl]∧zm8 c21 c22 yk fl dl c24 c25 gl kl jl H18 fun (r27:Bool) (H19:zp)=>Br (!r27) (K (.bool false) H19) (Br (!(r26==r14)) (K (.bool false) H19) (∃fm:OA,∃(im gm c28:Nat),  rdN H19 b1 0 2=some [.slice fm im gm,.float .f32 c28]∧∃ml:OA,∃(ql ol c30:Nat),  rdN H19 b4 0 2=some [.slice ml ql ol,.float .f32 c30]∧zdd fm im gm c28 H19 fun (a7:OA) (r28:Nat) (r29:Nat) (r30:Nat) (H20:zp)=>znz ml ql ol c30 a7 r28 r29 r30 H20 fun (r31:Bool) (H21:zp)=>Br (!r31) (K (.bool false) H21) (∃(c31 c32:Int),∃jm:OA,∃(lm km:Nat),  rdN H21 b2 0 3=some [.int .i64 c31,.int .i64 c32,.slice jm lm km]∧∃(c34 c35:Int),∃mm:OA,∃(om nm:Nat),  rdN H21 b5 0 3=some [.int .i64 c34,.int .i64 c35,.slice mm om nm]∧zm9 c31 c32 jm lm km H21 fun (r32:Int) (r33:Int) (a8:OA) (r34:Nat) (r35:Nat) (H22:zp)=>zm8 c34 c35 mm om nm r32 r33 a8 r34 r35 H22 fun (r36:Bool) (H23:zp)=>Br (!r36) (K (.bool false) H23) (∃rm:OA,∃(vm um c38:Nat),  rdN H23 b4 0 2=some [.slice rm vm um,.float .f32 c38]∧T_fnz rm vm um c38 1 H23 fun (r37:Int) (H24:zp)=>∃(c39 c40:Int),∃wm:OA,∃(ym xm:Nat),  rdN H24 b5 0 3=some [.int .i64 c39,.int .i64 c40,.slice wm ym xm]∧zuv c39 c40 wm ym xm r37 H24 fun (r38:Int) (H25:zp)=>Br (decide ((r38:Int)<0)) (K (.bool false) H25) (∃(c42 c43:Int),∃zm:OA,∃(gn bn:Nat),  rdN H25 b6 0 3=some [.int .i64 c42,.int .i64 c43,.slice zm gn bn]∧∃(c45 c46:Int),∃jn:OA,∃(sn mn:Nat),  rdN H25 b3 0 3=some [.int .i64 c45,.int .i64 c46,.slice jn sn mn]∧zm8 c42 c43 zm gn bn c45 c46 jn sn mn H25 fun (r39:Bool) (H26:zp)=>Br (!r39) (K (.bool false) H26) (Br (!(r26==r14)) (K (.bool false) H26) (∃(c48 c49:Int),∃vn:OA,∃(yn xn:Nat),  rdN H26 b6 0 3=some [.int .i64 c48,.int .i64 c49,.slice vn yn xn]∧zuv c48 c49 vn yn xn 1 H26 fun (r40:Int) (H27:zp)=>∃(c51 c52:Int),∃zn:OA,∃(bo ao:Nat),  rdN H27 b6 0 3=some [.int .i64 c51,.int .i64 c52,.slice zn bo ao]∧zut c51 c52 zn bo ao 1 H27 fun (r41:Int) (H28:zp)=>Br (decide ((r41:Int)<0)) (K (.bool false) H28) (Br ((r41:Int) != r40) (K (.bool false) H28) (∃(c54 c55:Int),∃co:OA,∃(io fo:Nat),  rdN H28 b2 0 3=some [.int .i64 c54,.int .i64 c55,.slice co io fo]∧∃jo:OA,∃(oo ko c58:Nat),  rdN H28 b1 0 2=some [.slice jo oo ko,.float .f32 c58]∧zdd jo oo ko c58 H28 fun (a9:OA) (r42:Nat) (r43:Nat) (r44:Nat) (H29:zp)=>zm9 c54 c55 co io fo H29 fun (r45:Int) (r46:Int) (a10:OA) (r47:Nat) (r48:Nat) (H30:zp)=>zja a9 r42 r43 r44 r45 r46 a10 r47 r48 aLevels H30 fun (r49:Int) (r50:Int) (a11:OA) (r51:Nat) (r52:Nat) (r53:Bool) (H31:zp)=>Al [.int .i64 0,.int .i64 0,.slice none 0 0] H31 fun b7 H32=>isOwn H32 b7∧(∃l,rdN H32 b7 0 3=some l)∧Lt (setN H32 b7 0 [.int .i64 r49,.int .i64 r50,.slice a11 r51 r52]) fun H33=>∃(c59 c60:Int),∃po:OA,∃(ro qo:Nat),  rdN H33 b7 0 3=some [.int .i64 c59,.int .i64 c60,.slice po ro qo]∧∃(c62 c63:Int),∃uo:OA,∃(xo vo:Nat),  rdN H33 b3 0 3=some [.int .i64 c62,.int .i64 c63,.slice uo xo vo]∧zm8 c59 c60 po ro qo c62 c63 uo xo vo H33 fun (r54:Bool) (H34:zp)=>Br (!r54) (K (.bool false) H34) (Br (!(r53==r14)) (K (.bool false) H34) (∃(c65 c66:Int),∃yo:OA,∃(ap zo:Nat),  rdN H34 b6 0 3=some [.int .i64 c65,.int .i64 c66,.slice yo ap zo]∧zut c65 c66 yo ap zo 1 H34 fun (r55:Int) (H35:zp)=>Br (decide ((r55:Int)<0)) (K (.bool false) H35) (Br ((r55:Int) != r40) (K (.bool false) H35) (K (.bool true) H35)))))))))))))))):=by kernel_rfl
theorem E_laws_FnExactThumbOf_ok:∀g,FnOkX Tryz.prog (MainCls Tryz.prog) g (E_laws_FnExactThumbOf g):=FnOkX.envOf (by
 intro x hx
 simp only [List.mem_cons,List.not_mem_nil,or_false] at hx
 rcases hx with rfl | rfl | rfl | rfl | rfl | rfl | rfl | rfl | rfl | rfl | rfl | rfl
 ·exact z7c _ _
 ·exact z1c0.le fun _ _ _=>trivial
 ·exact z1j8.le fun _ _ _=>trivial
 ·exact z1c3.le fun _ _ _=>trivial
 ·exact z1jb.le fun _ _ _=>trivial
 ·exact z1cn.le fun _ _ _=>trivial
 ·exact z1ci
 ·exact z1j4.le fun _ _ _=>trivial
 ·exact z1by.le fun _ _ _=>trivial
 ·exact z1ie.le fun _ _ _=>trivial
 ·exact z1hb.le fun _ _ _=>trivial
 ·exact z1h9.le fun _ _ _=>trivial)
theorem laws_FnExactThumbOf_main (rg:OA) (qh ug wb:Nat) (gc fc:Int) (yg:OA) (xh ah:Nat) (aLevels:Int) (H:zp) (K:KT) (h:z5j rg qh ug wb gc fc yg xh ah aLevels H fun (r1:Bool) (H':zp)=>K (.bool r1) H'):zw Tryz.prog E_laws_FnExactThumbOf Tryz.f6 [.agg #[.slice rg qh ug,.float .f32 wb],.agg #[.int .i64 gc,.int .i64 fc,.slice yg xh ah],.int .i64 aLevels] H K:=by
 rw [laws_FnExactThumbOf_vc]
 obtain ⟨bb,gb,h_0,h_1,h_2,h_3,h_4,h_5,h_6,h_7,h_8,h_9,hk⟩:=h
 have ji:=h_0
 obtain rfl:=ji.eqn
 have mi:=h_6
 obtain rfl:=mi.eqn
 have hl:=laws_FnExactThumbOf_true bb wb gc fc gb aLevels h_1 h_2 h_3 h_4 h_5 h_7 h_8 h_9
 have e:z3m bb wb gc fc gb aLevels=_:=rfl
 have e:=e.trans (z4g bb wb gc fc gb aLevels)
 have e:=hl.symm.trans e
 have g0:=Grow.refl H
 refine Al.intro (fun b_1 H_1 hb_2 hl_3 g_4 o_5=>?_)
 have l_7:=g_4.1
 have g_8:=g0.trans g_4
 have l_9:=g_8.1
 have w800:=o_5.lt
 refine Al.intro (fun b_10 H_2 hb_11 hl_12 g_13 o_14=>?_)
 have l_16:=g_13.1
 have g_17:=g_8.trans g_13
 have l_18:=g_17.1
 have o_19:=o_5.grow g_13
 have w20:=o_19.lt
 have w799:=o_14.lt
 refine ⟨rg,bb.length,ug,wb,(o_19.rdN (nbl rfl)).trans rfl,?_⟩
 refine z10q ⟨_,(ji.grow g_17),fun  H_3 g_22  =>?_⟩
 have z21:=z19f bb wb (1048576:Int)
 have l23:=g_22.1
 have g24:=g_17.trans g_22
 have l25:=g24.1
 have o26:=o_19.grow g_22
 have w27:=o26.lt
 have o28:=o_14.grow g_22
 have w29:=o28.lt
 refine Br.intro (fun c_30=>?_) (fun c_30=>?_)
 ·have e:=e.trans (zv c_30)
  have c_30':=odt c_30
  first | exact hk _ | (exfalso;cases e;done) | (rw [←e];exact hk _)
 ·have e:=e.trans (zu c_30)
  have c_30':=odf c_30
  refine ⟨gc,fc,yg,gb.length,ah,(o28.rdN (nbl rfl)).trans rfl,?_⟩
  refine z1bj ⟨_,(mi.grow g24),fun  H_4 g32  =>?_⟩
  have z31:=fxz_f gc fc gb ((z8q bb wb (1048576:Int)))
  have l33:=g32.1
  have g34:=g24.trans g32
  have l35:=g34.1
  have o36:=o26.grow g32
  have w37:=o36.lt
  have o38:=o28.grow g32
  have w39:=o38.lt
  refine Br.intro (fun c_40=>?_) (fun c_40=>?_)
  ·have e:=e.trans (zv c_40)
   have c_40':=odt c_40
   first | exact hk _ | (exfalso;cases e;done) | (rw [←e];exact hk _)
  ·have e:=e.trans (zu c_40)
   have c_40':=odf c_40
   refine ⟨gc,fc,yg,gb.length,ah,(o38.rdN (nbl rfl)).trans rfl,?_⟩
   refine ⟨rg,bb.length,ug,wb,(o36.rdN (nbl rfl)).trans rfl,?_⟩
   refine zcy ⟨_,(ji.grow g34),ω0,fun a41 n42 e43 H_5 g45 r_44=>?_⟩
   have l46:=g45.1
   have g47:=g34.trans g45
   have l48:=g47.1
   have o49:=o36.grow g45
   have w50:=o49.lt
   have o51:=o38.grow g45
   have w52:=o51.lt
   obtain rfl:=r_44.isL.eqn
   have u53:=r_44.up
   have u54:=r_44.lo
   refine zhq ⟨_,(mi.grow g47),ω0,fun a56 n57 e58 H_6 g60 r59=>?_⟩
   have l61:=g60.1
   have g62:=g47.trans g60
   have l63:=g62.1
   have o64:=o49.grow g60
   have w65:=o64.lt
   have o66:=o51.grow g60
   have w67:=o66.lt
   have r68:=r_44.grow g60
   obtain rfl:=r59.isL.eqn
   have u69:=r59.up
   have u70:=r59.lo
   refine z10u ⟨_,_,r68.isL,r59.isL,ω0,ω0,fun a72 n73 e74 H_7 g77 r75=>?_⟩
   have z76:=zot bb wb gc fc gb aLevels
   have l78:=g77.1
   have g79:=g62.trans g77
   have l80:=g79.1
   have o81:=o64.grow g77
   have w82:=o81.lt
   have o83:=o66.grow g77
   have w84:=o83.lt
   have r85:=r68.grow g77
   have r86:=r59.grow g77
   obtain rfl:=r75.isL.eqn
   have u87:=r75.up
   have u88:=r75.lo
   refine Al.intro (fun b90 H_8 hb_91 hl_92 g93 o94=>?_)
   have l96:=g93.1
   have g97:=g79.trans g93
   have l98:=g97.1
   have o99:=o81.grow g93
   have w100:=o99.lt
   have o101:=o83.grow g93
   have w102:=o101.lt
   have r103:=r85.grow g93
   have r104:=r86.grow g93
   have r105:=r75.grow g93
   have w798:=o94.lt
   refine Lt.setN (n:=3) o94 (nbl rfl) rfl (fun H_9 hl_106 o108 k107=>?_)
   have o108:Own H_9 b90 [.int .i64 ((z1u bb wb gc fc gb aLevels).1),.int .i64 ((z1u bb wb gc fc gb aLevels).2.1),.slice a72 (((z1u bb wb gc fc gb aLevels).2.2.1).length) e74]:=o108
   have l109:=k107.1
   have g110:=g97.keep (b:=b90) ω2 k107
   have l111:=g110.1
   have o112:=o99.keep ω2 k107
   have w113:=o112.lt
   have o114:=o101.keep ω2 k107
   have w115:=o114.lt
   have r116:=r103.keep u53 ω2 k107
   have r117:=r104.keep u69 ω2 k107
   have r118:=r105.keep u87 ω2 k107
   have w797:=o108.lt
   refine ⟨rg,bb.length,ug,wb,(o112.rdN (nbl rfl)).trans rfl,?_⟩
   refine zcy ⟨_,(ji.grow g110),ω0,fun a119 n120 e121 H_10 g123 r122=>?_⟩
   have l124:=g123.1
   have g125:=g110.trans g123
   have l126:=g125.1
   have o127:=o112.grow g123
   have w128:=o127.lt
   have o129:=o114.grow g123
   have w130:=o129.lt
   have o131:=o108.grow g123
   have w132:=o131.lt
   have r133:=r116.grow g123
   have r134:=r117.grow g123
   have r135:=r118.grow g123
   obtain rfl:=r122.isL.eqn
   have u136:=r122.up
   have u137:=r122.lo
   refine Al.intro (fun b139 H_11 hb_140 hl_141 g142 o143=>?_)
   have l145:=g142.1
   have g146:=g125.trans g142
   have l147:=g146.1
   have o148:=o127.grow g142
   have w149:=o148.lt
   have o150:=o129.grow g142
   have w151:=o150.lt
   have o152:=o131.grow g142
   have w153:=o152.lt
   have r154:=r133.grow g142
   have r155:=r134.grow g142
   have r156:=r135.grow g142
   have r157:=r122.grow g142
   have w796:=o143.lt
   refine Lt.setN (n:=2) o143 (nbl rfl) rfl (fun H_12 hl_158 o160 k159=>?_)
   have o160:Own H_12 b139 [.slice a119 ((bb).length) e121,.float .f32 wb]:=o160
   have l161:=k159.1
   have g162:=g146.keep (b:=b139) ω2 k159
   have l163:=g162.1
   have o164:=o148.keep ω2 k159
   have w165:=o164.lt
   have o166:=o150.keep ω2 k159
   have w167:=o166.lt
   have o168:=o152.keep ω2 k159
   have w169:=o168.lt
   have r170:=r154.keep u53 ω2 k159
   have r171:=r155.keep u69 ω2 k159
   have r172:=r156.keep u87 ω2 k159
   have r173:=r157.keep u136 ω2 k159
   have w795:=o160.lt
   refine ⟨gc,fc,yg,gb.length,ah,(o166.rdN (nbl rfl)).trans rfl,?_⟩
   refine zhq ⟨_,(mi.grow g162),ω0,fun a174 n175 e176 H_13 g178 r177=>?_⟩
   have l179:=g178.1
   have g180:=g162.trans g178
   have l181:=g180.1
   have o182:=o164.grow g178
   have w183:=o182.lt
   have o184:=o166.grow g178
   have w185:=o184.lt
   have o186:=o168.grow g178
   have w187:=o186.lt
   have o188:=o160.grow g178
   have w189:=o188.lt
   have r190:=r170.grow g178
   have r191:=r171.grow g178
   have r192:=r172.grow g178
   have r193:=r173.grow g178
   obtain rfl:=r177.isL.eqn
   have u194:=r177.up
   have u195:=r177.lo
   refine Al.intro (fun b197 H_14 hb_198 hl_199 g200 o201=>?_)
   have l203:=g200.1
   have g204:=g180.trans g200
   have l205:=g204.1
   have o206:=o182.grow g200
   have w207:=o206.lt
   have o208:=o184.grow g200
   have w209:=o208.lt
   have o210:=o186.grow g200
   have w211:=o210.lt
   have o212:=o188.grow g200
   have w213:=o212.lt
   have r214:=r190.grow g200
   have r215:=r191.grow g200
   have r216:=r192.grow g200
   have r217:=r193.grow g200
   have r218:=r177.grow g200
   have w794:=o201.lt
   refine Lt.setN (n:=3) o201 (nbl rfl) rfl (fun H_15 hl_219 o221 k220=>?_)
   have o221:Own H_15 b197 [.int .i64 gc,.int .i64 fc,.slice a174 ((gb).length) e176]:=o221
   have l222:=k220.1
   have g223:=g204.keep (b:=b197) ω2 k220
   have l224:=g223.1
   have o225:=o206.keep ω2 k220
   have w226:=o225.lt
   have o227:=o208.keep ω2 k220
   have w228:=o227.lt
   have o229:=o210.keep ω2 k220
   have w230:=o229.lt
   have o231:=o212.keep ω2 k220
   have w232:=o231.lt
   have r233:=r214.keep u53 ω2 k220
   have r234:=r215.keep u69 ω2 k220
   have r235:=r216.keep u87 ω2 k220
   have r236:=r217.keep u136 ω2 k220
   have r237:=r218.keep u194 ω2 k220
   have w793:=o221.lt
   refine ⟨a119,(bb).length,e121,wb,(o231.rdN (nbl rfl)).trans rfl,?_⟩
   refine ⟨gc,fc,a174,(gb).length,e176,(o221.rdN (nbl rfl)).trans rfl,?_⟩
   refine zo3 ⟨_,_,r236.isL,r237.isL,ω0,ω0,fun a238 n239 e240 H_16 g243 r241=>?_⟩
   have z242:=zos bb wb gc fc gb aLevels
   have l244:=g243.1
   have g245:=g223.trans g243
   have l246:=g245.1
   have o247:=o225.grow g243
   have w248:=o247.lt
   have o249:=o227.grow g243
   have w250:=o249.lt
   have o251:=o229.grow g243
   have w252:=o251.lt
   have o253:=o231.grow g243
   have w254:=o253.lt
   have o255:=o221.grow g243
   have w256:=o255.lt
   have r257:=r233.grow g243
   have r258:=r234.grow g243
   have r259:=r235.grow g243
   have r260:=r236.grow g243
   have r261:=r237.grow g243
   obtain rfl:=r241.isL.eqn
   have u262:=r241.up
   have u263:=r241.lo
   refine Al.intro (fun b265 H_17 hb_266 hl_267 g268 o269=>?_)
   have l271:=g268.1
   have g272:=g245.trans g268
   have l273:=g272.1
   have o274:=o247.grow g268
   have w275:=o274.lt
   have o276:=o249.grow g268
   have w277:=o276.lt
   have o278:=o251.grow g268
   have w279:=o278.lt
   have o280:=o253.grow g268
   have w281:=o280.lt
   have o282:=o255.grow g268
   have w283:=o282.lt
   have r284:=r257.grow g268
   have r285:=r258.grow g268
   have r286:=r259.grow g268
   have r287:=r260.grow g268
   have r288:=r261.grow g268
   have r289:=r241.grow g268
   have w792:=o269.lt
   refine Lt.setN (n:=3) o269 (nbl rfl) rfl (fun H_18 hl_290 o292 k291=>?_)
   have o292:Own H_18 b265 [.int .i64 ((z1i bb wb gc fc gb aLevels).1),.int .i64 ((z1i bb wb gc fc gb aLevels).2.1),.slice a238 (((z1i bb wb gc fc gb aLevels).2.2.1).length) e240]:=o292
   have l293:=k291.1
   have g294:=g272.keep (b:=b265) ω2 k291
   have l295:=g294.1
   have o296:=o274.keep ω2 k291
   have w297:=o296.lt
   have o298:=o276.keep ω2 k291
   have w299:=o298.lt
   have o300:=o278.keep ω2 k291
   have w301:=o300.lt
   have o302:=o280.keep ω2 k291
   have w303:=o302.lt
   have o304:=o282.keep ω2 k291
   have w305:=o304.lt
   have r306:=r284.keep u53 ω2 k291
   have r307:=r285.keep u69 ω2 k291
   have r308:=r286.keep u87 ω2 k291
   have r309:=r287.keep u136 ω2 k291
   have r310:=r288.keep u194 ω2 k291
   have r311:=r289.keep u262 ω2 k291
   have w791:=o292.lt
   refine ⟨(z1i bb wb gc fc gb aLevels).1,(z1i bb wb gc fc gb aLevels).2.1,a238,((z1i bb wb gc fc gb aLevels).2.2.1).length,e240,(o292.rdN (nbl rfl)).trans rfl,?_⟩
   refine ⟨(z1u bb wb gc fc gb aLevels).1,(z1u bb wb gc fc gb aLevels).2.1,a72,((z1u bb wb gc fc gb aLevels).2.2.1).length,e74,(o300.rdN (nbl rfl)).trans rfl,?_⟩
   refine zhp ⟨_,_,r311.isL,r308.isL,ω0,ω0,fun  H_19 g312  =>?_⟩
   have l313:=g312.1
   have g314:=g294.trans g312
   have l315:=g314.1
   have o316:=o296.grow g312
   have w317:=o316.lt
   have o318:=o298.grow g312
   have w319:=o318.lt
   have o320:=o300.grow g312
   have w321:=o320.lt
   have o322:=o302.grow g312
   have w323:=o322.lt
   have o324:=o304.grow g312
   have w325:=o324.lt
   have o326:=o292.grow g312
   have w327:=o326.lt
   have r328:=r306.grow g312
   have r329:=r307.grow g312
   have r330:=r308.grow g312
   have r331:=r309.grow g312
   have r332:=r310.grow g312
   have r333:=r311.grow g312
   refine Br.intro (fun c334=>?_) (fun c334=>?_)
   ·have e:=e.trans (zv c334)
    have c_334n:=z1g c334
    first | exact hk _ | (exfalso;cases e;done) | (rw [←e];exact hk _)
   ·have e:=e.trans (zu c334)
    have c_334n:=z1d c334
    refine Br.intro (fun c335=>?_) (fun c335=>?_)
    ·have e:=e.trans (zv c335)
     have c_335n:=z1g c335
     first | exact hk _ | (exfalso;cases e;done) | (rw [←e];exact hk _)
    ·have e:=e.trans (zu c335)
     have c_335n:=z1d c335
     refine ⟨rg,bb.length,ug,wb,(o316.rdN (nbl rfl)).trans rfl,?_⟩
     refine ⟨a119,(bb).length,e121,wb,(o322.rdN (nbl rfl)).trans rfl,?_⟩
     refine zcy ⟨_,(ji.grow g314),ω0,fun a336 n337 e338 H_20 g340 r339=>?_⟩
     have l341:=g340.1
     have g342:=g314.trans g340
     have l343:=g342.1
     have o344:=o316.grow g340
     have w345:=o344.lt
     have o346:=o318.grow g340
     have w347:=o346.lt
     have o348:=o320.grow g340
     have w349:=o348.lt
     have o350:=o322.grow g340
     have w351:=o350.lt
     have o352:=o324.grow g340
     have w353:=o352.lt
     have o354:=o326.grow g340
     have w355:=o354.lt
     have r356:=r328.grow g340
     have r357:=r329.grow g340
     have r358:=r330.grow g340
     have r359:=r331.grow g340
     have r360:=r332.grow g340
     have r361:=r333.grow g340
     obtain rfl:=r339.isL.eqn
     have u362:=r339.up
     have u363:=r339.lo
     refine z10p ⟨_,_,r359.isL,r339.isL,ω0,ω0,fun  H_21 g365  =>?_⟩
     have l366:=g365.1
     have g367:=g342.trans g365
     have l368:=g367.1
     have o369:=o344.grow g365
     have w370:=o369.lt
     have o371:=o346.grow g365
     have w372:=o371.lt
     have o373:=o348.grow g365
     have w374:=o373.lt
     have o375:=o350.grow g365
     have w376:=o375.lt
     have o377:=o352.grow g365
     have w378:=o377.lt
     have o379:=o354.grow g365
     have w380:=o379.lt
     have r381:=r356.grow g365
     have r382:=r357.grow g365
     have r383:=r358.grow g365
     have r384:=r359.grow g365
     have r385:=r360.grow g365
     have r386:=r361.grow g365
     have r387:=r339.grow g365
     refine Br.intro (fun c388=>?_) (fun c388=>?_)
     ·have e:=e.trans (zv c388)
      have c_388n:=z1g c388
      first | exact hk _ | (exfalso;cases e;done) | (rw [←e];exact hk _)
     ·have e:=e.trans (zu c388)
      have c_388n:=z1d c388
      refine ⟨gc,fc,yg,gb.length,ah,(o371.rdN (nbl rfl)).trans rfl,?_⟩
      refine ⟨gc,fc,a174,(gb).length,e176,(o377.rdN (nbl rfl)).trans rfl,?_⟩
      refine zhq ⟨_,(mi.grow g367),ω0,fun a389 n390 e391 H_22 g393 r392=>?_⟩
      have l394:=g393.1
      have g395:=g367.trans g393
      have l396:=g395.1
      have o397:=o369.grow g393
      have w398:=o397.lt
      have o399:=o371.grow g393
      have w400:=o399.lt
      have o401:=o373.grow g393
      have w402:=o401.lt
      have o403:=o375.grow g393
      have w404:=o403.lt
      have o405:=o377.grow g393
      have w406:=o405.lt
      have o407:=o379.grow g393
      have w408:=o407.lt
      have r409:=r381.grow g393
      have r410:=r382.grow g393
      have r411:=r383.grow g393
      have r412:=r384.grow g393
      have r413:=r385.grow g393
      have r414:=r386.grow g393
      have r415:=r387.grow g393
      obtain rfl:=r392.isL.eqn
      have u416:=r392.up
      have u417:=r392.lo
      refine zhp ⟨_,_,r413.isL,r392.isL,ω0,ω0,fun  H_23 g419  =>?_⟩
      have l420:=g419.1
      have g421:=g395.trans g419
      have l422:=g421.1
      have o423:=o397.grow g419
      have w424:=o423.lt
      have o425:=o399.grow g419
      have w426:=o425.lt
      have o427:=o401.grow g419
      have w428:=o427.lt
      have o429:=o403.grow g419
      have w430:=o429.lt
      have o431:=o405.grow g419
      have w432:=o431.lt
      have o433:=o407.grow g419
      have w434:=o433.lt
      have r435:=r409.grow g419
      have r436:=r410.grow g419
      have r437:=r411.grow g419
      have r438:=r412.grow g419
      have r439:=r413.grow g419
      have r440:=r414.grow g419
      have r441:=r415.grow g419
      have r442:=r392.grow g419
      refine Br.intro (fun c443=>?_) (fun c443=>?_)
      ·have e:=e.trans (zv c443)
       have c_443n:=z1g c443
       first | exact hk _ | (exfalso;cases e;done) | (rw [←e];exact hk _)
      ·have e:=e.trans (zu c443)
       have c_443n:=z1d c443
       refine ⟨a119,(bb).length,e121,wb,(o429.rdN (nbl rfl)).trans rfl,?_⟩
       refine z1bh ⟨_,_,r438,ω0,(fun H_24 k444 o445=>?_)⟩
       have l446:=k444.1
       have g447:=g421.keepA (fun x hx=>by have:=u137 x hx;omega) k444
       have l448:=g447.1
       have o449:=o423.keepA (fun x hx=>by have:=u137 x hx;have:=u136 x hx;omega) k444
       have w450:=o449.lt
       have o451:=o425.keepA (fun x hx=>by have:=u137 x hx;have:=u136 x hx;omega) k444
       have w452:=o451.lt
       have o453:=o427.keepA (fun x hx=>by have:=u137 x hx;have:=u136 x hx;omega) k444
       have w454:=o453.lt
       have o455:=o429.keepA (fun x hx=>by have:=u137 x hx;have:=u136 x hx;omega) k444
       have w456:=o455.lt
       have o457:=o431.keepA (fun x hx=>by have:=u137 x hx;have:=u136 x hx;omega) k444
       have w458:=o457.lt
       have o459:=o433.keepA (fun x hx=>by have:=u137 x hx;have:=u136 x hx;omega) k444
       have w460:=o459.lt
       have r461:=r435.keepA (fun x y hx hy=>by have:=u137 x hx;have:=u136 x hx;have:=u54 y hy;have:=u53 y hy;omega) k444
       have r462:=r436.keepA (fun x y hx hy=>by have:=u137 x hx;have:=u136 x hx;have:=u70 y hy;have:=u69 y hy;omega) k444
       have r463:=r437.keepA (fun x y hx hy=>by have:=u137 x hx;have:=u136 x hx;have:=u88 y hy;have:=u87 y hy;omega) k444
       have r464:=r439.keepA (fun x y hx hy=>by have:=u137 x hx;have:=u136 x hx;have:=u195 y hy;have:=u194 y hy;omega) k444
       have r465:=r440.keepA (fun x y hx hy=>by have:=u137 x hx;have:=u136 x hx;have:=u263 y hy;have:=u262 y hy;omega) k444
       have r466:=r441.keepA (fun x y hx hy=>by have:=u137 x hx;have:=u136 x hx;have:=u363 y hy;have:=u362 y hy;omega) k444
       have r467:=r442.keepA (fun x y hx hy=>by have:=u137 x hx;have:=u136 x hx;have:=u417 y hy;have:=u416 y hy;omega) k444
       refine ⟨gc,fc,a174,(gb).length,e176,(o457.rdN (nbl rfl)).trans rfl,?_⟩
       refine zuw ⟨_,_,r464,ω0,(fun H_25 k468 o469=>?_)⟩
       have l470:=k468.1
       have g471:=g447.keepA (fun x hx=>by have:=u195 x hx;omega) k468
       have l472:=g471.1
       have o473:=o449.keepA (fun x hx=>by have:=u195 x hx;have:=u194 x hx;omega) k468
       have w474:=o473.lt
       have o475:=o451.keepA (fun x hx=>by have:=u195 x hx;have:=u194 x hx;omega) k468
       have w476:=o475.lt
       have o477:=o453.keepA (fun x hx=>by have:=u195 x hx;have:=u194 x hx;omega) k468
       have w478:=o477.lt
       have o479:=o455.keepA (fun x hx=>by have:=u195 x hx;have:=u194 x hx;omega) k468
       have w480:=o479.lt
       have o481:=o457.keepA (fun x hx=>by have:=u195 x hx;have:=u194 x hx;omega) k468
       have w482:=o481.lt
       have o483:=o459.keepA (fun x hx=>by have:=u195 x hx;have:=u194 x hx;omega) k468
       have w484:=o483.lt
       have r485:=r461.keepA (fun x y hx hy=>by have:=u195 x hx;have:=u194 x hx;have:=u54 y hy;have:=u53 y hy;omega) k468
       have r486:=r462.keepA (fun x y hx hy=>by have:=u195 x hx;have:=u194 x hx;have:=u70 y hy;have:=u69 y hy;omega) k468
       have r487:=r463.keepA (fun x y hx hy=>by have:=u195 x hx;have:=u194 x hx;have:=u88 y hy;have:=u87 y hy;omega) k468
       have r488:=o445.keepA (fun x y hx hy=>by have:=u195 x hx;have:=u194 x hx;have:=u137 y hy;have:=u136 y hy;omega) k468
       have r489:=r465.keepA (fun x y hx hy=>by have:=u195 x hx;have:=u194 x hx;have:=u263 y hy;have:=u262 y hy;omega) k468
       have r490:=r466.keepA (fun x y hx hy=>by have:=u195 x hx;have:=u194 x hx;have:=u363 y hy;have:=u362 y hy;omega) k468
       have r491:=r467.keepA (fun x y hx hy=>by have:=u195 x hx;have:=u194 x hx;have:=u417 y hy;have:=u416 y hy;omega) k468
       refine Br.intro (fun c492=>?_) (fun c492=>?_)
       ·have e:=e.trans (zv c492)
        have c_492':=odt c492
        first | exact hk _ | (exfalso;cases e;done) | (rw [←e];exact hk _)
       ·have e:=e.trans (zu c492)
        have c_492':=odf c492
        refine ⟨(z1i bb wb gc fc gb aLevels).1,(z1i bb wb gc fc gb aLevels).2.1,a238,((z1i bb wb gc fc gb aLevels).2.2.1).length,e240,(o483.rdN (nbl rfl)).trans rfl,?_⟩
        refine ⟨(z1u bb wb gc fc gb aLevels).1,(z1u bb wb gc fc gb aLevels).2.1,a72,((z1u bb wb gc fc gb aLevels).2.2.1).length,e74,(o477.rdN (nbl rfl)).trans rfl,?_⟩
        refine zhp ⟨_,_,r489.isL,r487.isL,ω0,ω0,fun  H_26 g493  =>?_⟩
        have l494:=g493.1
        have g495:=g471.trans g493
        have l496:=g495.1
        have o497:=o473.grow g493
        have w498:=o497.lt
        have o499:=o475.grow g493
        have w500:=o499.lt
        have o501:=o477.grow g493
        have w502:=o501.lt
        have o503:=o479.grow g493
        have w504:=o503.lt
        have o505:=o481.grow g493
        have w506:=o505.lt
        have o507:=o483.grow g493
        have w508:=o507.lt
        have r509:=r485.grow g493
        have r510:=r486.grow g493
        have r511:=r487.grow g493
        have r512:=r488.grow g493
        have r513:=o469.grow g493
        have r514:=r489.grow g493
        have r515:=r490.grow g493
        have r516:=r491.grow g493
        refine Br.intro (fun c517=>?_) (fun c517=>?_)
        ·have e:=e.trans (zv c517)
         have c_517n:=z1g c517
         first | exact hk _ | (exfalso;cases e;done) | (rw [←e];exact hk _)
        ·have e:=e.trans (zu c517)
         have c_517n:=z1d c517
         refine Br.intro (fun c518=>?_) (fun c518=>?_)
         ·have e:=e.trans (zv c518)
          have c_518n:=z1g c518
          first | exact hk _ | (exfalso;cases e;done) | (rw [←e];exact hk _)
         ·have e:=e.trans (zu c518)
          have c_518n:=z1d c518
          refine ⟨(z1i bb wb gc fc gb aLevels).1,(z1i bb wb gc fc gb aLevels).2.1,a238,((z1i bb wb gc fc gb aLevels).2.2.1).length,e240,(o507.rdN (nbl rfl)).trans rfl,?_⟩
          refine zuw ⟨_,_,r514,ω0,(fun H_27 k519 o520=>?_)⟩
          have l521:=k519.1
          have g522:=g495.keepA (fun x hx=>by have:=u263 x hx;omega) k519
          have l523:=g522.1
          have o524:=o497.keepA (fun x hx=>by have:=u263 x hx;have:=u262 x hx;omega) k519
          have w525:=o524.lt
          have o526:=o499.keepA (fun x hx=>by have:=u263 x hx;have:=u262 x hx;omega) k519
          have w527:=o526.lt
          have o528:=o501.keepA (fun x hx=>by have:=u263 x hx;have:=u262 x hx;omega) k519
          have w529:=o528.lt
          have o530:=o503.keepA (fun x hx=>by have:=u263 x hx;have:=u262 x hx;omega) k519
          have w531:=o530.lt
          have o532:=o505.keepA (fun x hx=>by have:=u263 x hx;have:=u262 x hx;omega) k519
          have w533:=o532.lt
          have o534:=o507.keepA (fun x hx=>by have:=u263 x hx;have:=u262 x hx;omega) k519
          have w535:=o534.lt
          have r536:=r509.keepA (fun x y hx hy=>by have:=u263 x hx;have:=u262 x hx;have:=u54 y hy;have:=u53 y hy;omega) k519
          have r537:=r510.keepA (fun x y hx hy=>by have:=u263 x hx;have:=u262 x hx;have:=u70 y hy;have:=u69 y hy;omega) k519
          have r538:=r511.keepA (fun x y hx hy=>by have:=u263 x hx;have:=u262 x hx;have:=u88 y hy;have:=u87 y hy;omega) k519
          have r539:=r512.keepA (fun x y hx hy=>by have:=u263 x hx;have:=u262 x hx;have:=u137 y hy;have:=u136 y hy;omega) k519
          have r540:=r513.keepA (fun x y hx hy=>by have:=u263 x hx;have:=u262 x hx;have:=u195 y hy;have:=u194 y hy;omega) k519
          have r541:=r515.keepA (fun x y hx hy=>by have:=u263 x hx;have:=u262 x hx;have:=u363 y hy;have:=u362 y hy;omega) k519
          have r542:=r516.keepA (fun x y hx hy=>by have:=u263 x hx;have:=u262 x hx;have:=u417 y hy;have:=u416 y hy;omega) k519
          refine ⟨(z1i bb wb gc fc gb aLevels).1,(z1i bb wb gc fc gb aLevels).2.1,a238,((z1i bb wb gc fc gb aLevels).2.2.1).length,e240,(o534.rdN (nbl rfl)).trans rfl,?_⟩
          refine zuu ⟨_,o520.isL,ω0,fun  H_28 g543  =>?_⟩
          have l544:=g543.1
          have g545:=g522.trans g543
          have l546:=g545.1
          have o547:=o524.grow g543
          have w548:=o547.lt
          have o549:=o526.grow g543
          have w550:=o549.lt
          have o551:=o528.grow g543
          have w552:=o551.lt
          have o553:=o530.grow g543
          have w554:=o553.lt
          have o555:=o532.grow g543
          have w556:=o555.lt
          have o557:=o534.grow g543
          have w558:=o557.lt
          have r559:=r536.grow g543
          have r560:=r537.grow g543
          have r561:=r538.grow g543
          have r562:=r539.grow g543
          have r563:=r540.grow g543
          have r564:=o520.grow g543
          have r565:=r541.grow g543
          have r566:=r542.grow g543
          refine Br.intro (fun c567=>?_) (fun c567=>?_)
          ·have e:=e.trans (zv c567)
           have c_567':=odt c567
           first | exact hk _ | (exfalso;cases e;done) | (rw [←e];exact hk _)
          ·have e:=e.trans (zu c567)
           have c_567':=odf c567
           refine Br.intro (fun c568=>?_) (fun c568=>?_)
           ·have e:=e.trans (zv c568)
            have c_568':=zxh c568
            first | exact hk _ | (exfalso;cases e;done) | (rw [←e];exact hk _)
           ·have e:=e.trans (zu c568)
            have c_568':=zxg c568
            refine ⟨gc,fc,yg,gb.length,ah,(o549.rdN (nbl rfl)).trans rfl,?_⟩
            refine ⟨rg,bb.length,ug,wb,(o547.rdN (nbl rfl)).trans rfl,?_⟩
            refine zcy ⟨_,(ji.grow g545),ω0,fun a569 n570 e571 H_29 g573 r572=>?_⟩
            have l574:=g573.1
            have g575:=g545.trans g573
            have l576:=g575.1
            have o577:=o547.grow g573
            have w578:=o577.lt
            have o579:=o549.grow g573
            have w580:=o579.lt
            have o581:=o551.grow g573
            have w582:=o581.lt
            have o583:=o553.grow g573
            have w584:=o583.lt
            have o585:=o555.grow g573
            have w586:=o585.lt
            have o587:=o557.grow g573
            have w588:=o587.lt
            have r589:=r559.grow g573
            have r590:=r560.grow g573
            have r591:=r561.grow g573
            have r592:=r562.grow g573
            have r593:=r563.grow g573
            have r594:=r564.grow g573
            have r595:=r565.grow g573
            have r596:=r566.grow g573
            obtain rfl:=r572.isL.eqn
            have u597:=r572.up
            have u598:=r572.lo
            refine zhq ⟨_,(mi.grow g575),ω0,fun a600 n601 e602 H_30 g604 r603=>?_⟩
            have l605:=g604.1
            have g606:=g575.trans g604
            have l607:=g606.1
            have o608:=o577.grow g604
            have w609:=o608.lt
            have o610:=o579.grow g604
            have w611:=o610.lt
            have o612:=o581.grow g604
            have w613:=o612.lt
            have o614:=o583.grow g604
            have w615:=o614.lt
            have o616:=o585.grow g604
            have w617:=o616.lt
            have o618:=o587.grow g604
            have w619:=o618.lt
            have r620:=r589.grow g604
            have r621:=r590.grow g604
            have r622:=r591.grow g604
            have r623:=r592.grow g604
            have r624:=r593.grow g604
            have r625:=r594.grow g604
            have r626:=r595.grow g604
            have r627:=r596.grow g604
            have r628:=r572.grow g604
            obtain rfl:=r603.isL.eqn
            have u629:=r603.up
            have u630:=r603.lo
            refine zo3 ⟨_,_,r628.isL,r603.isL,ω0,ω0,fun a632 n633 e634 H_31 g637 r635=>?_⟩
            have z636:=zos bb wb gc fc gb aLevels
            have l638:=g637.1
            have g639:=g606.trans g637
            have l640:=g639.1
            have o641:=o608.grow g637
            have w642:=o641.lt
            have o643:=o610.grow g637
            have w644:=o643.lt
            have o645:=o612.grow g637
            have w646:=o645.lt
            have o647:=o614.grow g637
            have w648:=o647.lt
            have o649:=o616.grow g637
            have w650:=o649.lt
            have o651:=o618.grow g637
            have w652:=o651.lt
            have r653:=r620.grow g637
            have r654:=r621.grow g637
            have r655:=r622.grow g637
            have r656:=r623.grow g637
            have r657:=r624.grow g637
            have r658:=r625.grow g637
            have r659:=r626.grow g637
            have r660:=r627.grow g637
            have r661:=r628.grow g637
            have r662:=r603.grow g637
            obtain rfl:=r635.isL.eqn
            have u663:=r635.up
            have u664:=r635.lo
            refine Al.intro (fun b666 H_32 hb_667 hl_668 g669 o670=>?_)
            have l672:=g669.1
            have g673:=g639.trans g669
            have l674:=g673.1
            have o675:=o641.grow g669
            have w676:=o675.lt
            have o677:=o643.grow g669
            have w678:=o677.lt
            have o679:=o645.grow g669
            have w680:=o679.lt
            have o681:=o647.grow g669
            have w682:=o681.lt
            have o683:=o649.grow g669
            have w684:=o683.lt
            have o685:=o651.grow g669
            have w686:=o685.lt
            have r687:=r653.grow g669
            have r688:=r654.grow g669
            have r689:=r655.grow g669
            have r690:=r656.grow g669
            have r691:=r657.grow g669
            have r692:=r658.grow g669
            have r693:=r659.grow g669
            have r694:=r660.grow g669
            have r695:=r661.grow g669
            have r696:=r662.grow g669
            have r697:=r635.grow g669
            have w790:=o670.lt
            refine Lt.setN (n:=3) o670 (nbl rfl) rfl (fun H_33 hl_698 o700 k699=>?_)
            have o700:Own H_33 b666 [.int .i64 ((z1i bb wb gc fc gb aLevels).1),.int .i64 ((z1i bb wb gc fc gb aLevels).2.1),.slice a632 (((z1i bb wb gc fc gb aLevels).2.2.1).length) e634]:=o700
            have l701:=k699.1
            have g702:=g673.keep (b:=b666) ω2 k699
            have l703:=g702.1
            have o704:=o675.keep ω2 k699
            have w705:=o704.lt
            have o706:=o677.keep ω2 k699
            have w707:=o706.lt
            have o708:=o679.keep ω2 k699
            have w709:=o708.lt
            have o710:=o681.keep ω2 k699
            have w711:=o710.lt
            have o712:=o683.keep ω2 k699
            have w713:=o712.lt
            have o714:=o685.keep ω2 k699
            have w715:=o714.lt
            have r716:=r687.keep u53 ω2 k699
            have r717:=r688.keep u69 ω2 k699
            have r718:=r689.keep u87 ω2 k699
            have r719:=r690.keep u136 ω2 k699
            have r720:=r691.keep u194 ω2 k699
            have r721:=r692.keep u262 ω2 k699
            have r722:=r693.keep u362 ω2 k699
            have r723:=r694.keep u416 ω2 k699
            have r724:=r695.keep u597 ω2 k699
            have r725:=r696.keep u629 ω2 k699
            have r726:=r697.keep u663 ω2 k699
            have w789:=o700.lt
            refine ⟨(z1i bb wb gc fc gb aLevels).1,(z1i bb wb gc fc gb aLevels).2.1,a632,((z1i bb wb gc fc gb aLevels).2.2.1).length,e634,(o700.rdN (nbl rfl)).trans rfl,?_⟩
            refine ⟨(z1u bb wb gc fc gb aLevels).1,(z1u bb wb gc fc gb aLevels).2.1,a72,((z1u bb wb gc fc gb aLevels).2.2.1).length,e74,(o708.rdN (nbl rfl)).trans rfl,?_⟩
            refine zhp ⟨_,_,r726.isL,r718.isL,ω0,ω0,fun  H_34 g727  =>?_⟩
            have l728:=g727.1
            have g729:=g702.trans g727
            have l730:=g729.1
            have o731:=o704.grow g727
            have w732:=o731.lt
            have o733:=o706.grow g727
            have w734:=o733.lt
            have o735:=o708.grow g727
            have w736:=o735.lt
            have o737:=o710.grow g727
            have w738:=o737.lt
            have o739:=o712.grow g727
            have w740:=o739.lt
            have o741:=o714.grow g727
            have w742:=o741.lt
            have o743:=o700.grow g727
            have w744:=o743.lt
            have r745:=r716.grow g727
            have r746:=r717.grow g727
            have r747:=r718.grow g727
            have r748:=r719.grow g727
            have r749:=r720.grow g727
            have r750:=r721.grow g727
            have r751:=r722.grow g727
            have r752:=r723.grow g727
            have r753:=r724.grow g727
            have r754:=r725.grow g727
            have r755:=r726.grow g727
            refine Br.intro (fun c756=>?_) (fun c756=>?_)
            ·have e:=e.trans (zv c756)
             have c_756n:=z1g c756
             first | exact hk _ | (exfalso;cases e;done) | (rw [←e];exact hk _)
            ·have e:=e.trans (zu c756)
             have c_756n:=z1d c756
             refine Br.intro (fun c757=>?_) (fun c757=>?_)
             ·have e:=e.trans (zv c757)
              have c_757n:=z1g c757
              first | exact hk _ | (exfalso;cases e;done) | (rw [←e];exact hk _)
             ·have e:=e.trans (zu c757)
              have c_757n:=z1d c757
              refine ⟨(z1i bb wb gc fc gb aLevels).1,(z1i bb wb gc fc gb aLevels).2.1,a238,((z1i bb wb gc fc gb aLevels).2.2.1).length,e240,(o741.rdN (nbl rfl)).trans rfl,?_⟩
              refine zuu ⟨_,r750.isL,ω0,fun  H_35 g758  =>?_⟩
              have l759:=g758.1
              have g760:=g729.trans g758
              have l761:=g760.1
              have o762:=o731.grow g758
              have w763:=o762.lt
              have o764:=o733.grow g758
              have w765:=o764.lt
              have o766:=o735.grow g758
              have w767:=o766.lt
              have o768:=o737.grow g758
              have w769:=o768.lt
              have o770:=o739.grow g758
              have w771:=o770.lt
              have o772:=o741.grow g758
              have w773:=o772.lt
              have o774:=o743.grow g758
              have w775:=o774.lt
              have r776:=r745.grow g758
              have r777:=r746.grow g758
              have r778:=r747.grow g758
              have r779:=r748.grow g758
              have r780:=r749.grow g758
              have r781:=r750.grow g758
              have r782:=r751.grow g758
              have r783:=r752.grow g758
              have r784:=r753.grow g758
              have r785:=r754.grow g758
              have r786:=r755.grow g758
              refine Br.intro (fun c787=>?_) (fun c787=>?_)
              ·have e:=e.trans (zv c787)
               have c_787':=odt c787
               first | exact hk _ | (exfalso;cases e;done) | (rw [←e];exact hk _)
              ·have e:=e.trans (zu c787)
               have c_787':=odf c787
               refine Br.intro (fun c788=>?_) (fun c788=>?_)
               ·have e:=e.trans (zv c788)
                have c_788':=zxh c788
                first | exact hk _ | (exfalso;cases e;done) | (rw [←e];exact hk _)
               ·have e:=e.trans (zu c788)
                have c_788':=zxg c788
                first | exact hk _ | (exfalso;cases e;done) | (rw [←e];exact hk _)
theorem laws_FnExactThumbOf_ok:FnOkX Tryz.prog (MainCls Tryz.prog) 6 z8v:=FnOkX.bodyF (hLt:=fun _=>z3h) mix_ok E_laws_FnExactThumbOf_ok Tryz.func6 rfl ω10 ω10 fun args H=>by
 unfold z5i
 split
 ·refine ⟨?_,?_,?_,?_,fun K hk=>laws_FnExactThumbOf_main _ _ _ _ _ _ _ _ _ _ H K hk⟩
  ·intro K K' h hk;obtain ⟨bb,gb,h_0,h_1,h_2,h_3,h_4,h_5,h_6,h_7,h_8,h_9,k⟩:=hk;exact ⟨bb,gb,h_0,h_1,h_2,h_3,h_4,h_5,h_6,h_7,h_8,h_9,(fun H'=>h _ _ (k H'))⟩
  ·nofun
  ·intro K hk;obtain ⟨bb,gb,h_0,h_1,h_2,h_3,h_4,h_5,h_6,h_7,h_8,h_9,k⟩:=hk;exact ⟨_,_,k []⟩
  ·nofun
 ·exact Nice.no
end Go.Proofs.YthheoefadijhdaaGreat.Ai
