/- What functions of the program come to on the abstract machine, and that they do so; printed by a program of mine around proofs of mine. -/
import Derived.Test.YthheoefadijhdaaGreatFFnExactReadMarks2
set_option linter.unusedVariables false
set_option linter.unusedSimpArgs false
set_option linter.defProp false
set_option maxRecDepth 100000
set_option maxHeartbeats 1000000
namespace Go.Proofs.YthheoefadijhdaaGreat.Ai
open Go
attribute [local irreducible] z6j zt

def zcr (env:Env) (x:Value) (H:zn) (ch:Int→Int→LN→PicT):Prop:=
 ∀(W Hi:Int) (la:OA) (ln le:Nat) (l:LN) (H1:zn),Grow H H1→IsL fF H1 la ln l→l.length<1073741824→∀K:Value→zn→Prop,
  (∀(a:OA) (n e:Nat) (H2:zn),Grow H1 H2→OwnS fF H2 H1.length a n e (ch W Hi l).2.2.1→K (.tuple #[.agg #[.int .i64 (ch W Hi l).1,.int .i64 (ch W Hi l).2.1,.slice a n e],.bool (ch W Hi l).2.2.2]) H2)→
  zfj env x [.agg #[.int .i64 W,.int .i64 Hi,.slice la ln le]] H1 K
theorem zcr.grow {env:Env} {x:Value} {H H':zn} {ch:Int→Int→LN→PicT} (h:zcr env x H ch) (g:Grow H H'):zcr env x H' ch:=
 fun W Hi la ln le l H1 g1=>h W Hi la ln le l H1 (g.trans g1)
theorem ext0 {u v:Value} {K:Value→Prop}:extV (.tuple #[u,v]) 0 K=K u:=rfl
theorem ext1 {u v:Value} {K:Value→Prop}:extV (.tuple #[u,v]) 1 K=K v:=rfl
theorem zzb {r:Bool} {F:Bool→Prop}:(unK .not (.bool r) fun w=>zae w F)=F (!r):=rfl
def z6n (ch:Int→Int→LN→PicT) (W Hi:Int) (l:LN):PicT:=z6a (z8j W Hi l) fun a b c=>z6a (ch a b c) fun a b c=>z8j a b c
theorem z12w (ch:Int→Int→LN→PicT) (W Hi:Int) (l:LN):(z6n ch W Hi l).2.2.1.length≤1024:=by
 unfold z6n
 generalize z8j W Hi l=q
 cases h:q.2.2.2 with
 | false=>rw [z4e h];exact Nat.zero_le _
 | true=>
  rw [z1u h]
  generalize ch q.1 q.2.1 q.2.2.1=r
  cases h2:r.2.2.2 with
  | false=>rw [z4e h2];exact Nat.zero_le _
  | true=>
   rw [z1u h2]
   have:=zxd r.1 r.2.1 r.2.2.1
   omega
def zce:Env:=envOf [(38,S_fmz),(63,S_f5z)]
def zoe (fa ia:Int) (ja:OA) (sa ya:Nat) (change_f:Fn) (change_x:Array Value) (change_y:Array Value) (H:zn) (K:Int→Int→OA→Nat→Nat→Bool→zn→Prop):Prop:=
 ∃(l:LN) (ch:Int→Int→LN→PicT),IsL fF H ja sa l∧l.length<1073741824∧(∀W Hi l,(ch W Hi l).2.2.1.length≤1024)∧zcr zce (.func change_f change_x change_y) H ch∧
  (∀(jd:OA) (pd od:Nat),∀H':zn,Grow H H'→OwnS fF H' H.length jd pd od ((z6n ch fa ia l).2.2.1)→K ((z6n ch fa ia l).1) ((z6n ch fa ia l).2.1) jd pd od ((z6n ch fa ia l).2.2.2) H')
theorem z11d {fa ia:Int} {ja:OA} {sa ya:Nat} {change_f:Fn} {change_x:Array Value} {change_y:Array Value} {H:zn} {K:Int→Int→OA→Nat→Nat→Bool→zn→Prop} (h:∃(l:LN) (ch:Int→Int→LN→PicT),IsL fF H ja sa l∧l.length<1073741824∧(∀W Hi l,(ch W Hi l).2.2.1.length≤1024)∧zcr zce (.func change_f change_x change_y) H ch∧
  (∀(jd:OA) (pd od:Nat),∀H':zn,Grow H H'→OwnS fF H' H.length jd pd od ((z6n ch fa ia l).2.2.1)→K ((z6n ch fa ia l).1) ((z6n ch fa ia l).2.1) jd pd od ((z6n ch fa ia l).2.2.2) H')):zoe fa ia ja sa ya change_f change_x change_y H K:=h
def z17n (args:List Value) (H:zn):(Value→zn→Prop)→Prop:=match args with
 | [.agg ⟨[.int .i64 fa,.int .i64 ia,.slice ja sa ya]⟩,.func change_f change_x change_y]=>fun K=>zoe fa ia ja sa ya change_f change_x change_y H fun (xc:Int) (vc:Int) (ta:OA) (xa:Nat) (ua:Nat) (r2:Bool) (H':zn)=>K (.tuple #[.agg #[.int .i64 xc,.int .i64 vc,.slice ta xa ua],.bool r2]) H'
 | _=>fun _=>False
def zo3:FSpec:={F:=z17n,quiet:=false,tame:=false}
theorem z1cu (fa ia:Int) (ja:OA) (sa ya:Nat) (change_f:Fn) (change_x:Array Value) (change_y:Array Value) (H:zn) (K:KT):zt Tryz.prog zce Tryz.f57 [.agg #[.int .i64 fa,.int .i64 ia,.slice ja sa ya],.func change_f change_x change_y] H K=
 (Al [.int .i64 fa,.int .i64 ia,.slice ja sa ya] H fun b1 H1=>Al [.int .i64 0,.int .i64 0,.slice none 0 0] H1 fun b2 H2=>∃(c1 c2:Int),∃dh:OA,∃(fh eh:Nat),  rdN H2 b1 0 3=some [.int .i64 c1,.int .i64 c2,.slice dh fh eh]∧zva c1 c2 dh fh eh H2 fun (r1:Int) (r2:Int) (a1:OA) (r3:Nat) (r4:Nat) (r5:Bool) (H3:zn)=>Al [.int .i64 0,.int .i64 0,.slice none 0 0] H3 fun b3 H4=>isOwn H4 b3∧(∃l,rdN H4 b3 0 3=some l)∧Lt (setN H4 b3 0 [.int .i64 r1,.int .i64 r2,.slice a1 r3 r4]) fun H5=>Br (!r5) (isOwn H5 b2∧(∃l,rdN H5 b2 0 3=some l)∧Lt (setN H5 b2 0 [.int .i64 0,.int .i64 0,.slice none 0 0]) fun H6=>∃(c4 c5:Int),∃qh:OA,∃(th sh:Nat),  rdN H6 b2 0 3=some [.int .i64 c4,.int .i64 c5,.slice qh th sh]∧K (.tuple #[.agg #[.int .i64 c4,.int .i64 c5,.slice qh th sh],.bool false]) H6) (∃(c7 c8:Int),∃ei:OA,∃(gi fi:Nat),  rdN H5 b3 0 3=some [.int .i64 c7,.int .i64 c8,.slice ei gi fi]∧zfj zce (.func change_f change_x change_y) [.agg #[.int .i64 c7,.int .i64 c8,.slice ei gi fi]] H5 fun (w1:Value) (H7:zn)=>extV w1 0 fun (w2:Value)=>extV w1 1 fun (w3:Value)=>stN 3 w2 H7 b3 0 fun (H8:zn)=>unK .not w3 fun (w4:Value)=>zae w4 fun (t1:Bool)=>Br t1 (isOwn H8 b2∧(∃l,rdN H8 b2 0 3=some l)∧Lt (setN H8 b2 0 [.int .i64 0,.int .i64 0,.slice none 0 0]) fun H9=>∃(c10 c11:Int),∃ri:OA,∃(ti si:Nat),  rdN H9 b2 0 3=some [.int .i64 c10,.int .i64 c11,.slice ri ti si]∧K (.tuple #[.agg #[.int .i64 c10,.int .i64 c11,.slice ri ti si],.bool false]) H9) (∃(c13 c14:Int),∃ij:OA,∃(kj jj:Nat),  rdN H8 b3 0 3=some [.int .i64 c13,.int .i64 c14,.slice ij kj jj]∧zva c13 c14 ij kj jj H8 fun (r6:Int) (r7:Int) (a2:OA) (r8:Nat) (r9:Nat) (r10:Bool) (H10:zn)=>isOwn H10 b2∧(∃l,rdN H10 b2 0 3=some l)∧Lt (setN H10 b2 0 [.int .i64 r6,.int .i64 r7,.slice a2 r8 r9]) fun H11=>∃(c16 c17:Int),∃gk:OA,∃(jk ik:Nat),  rdN H11 b2 0 3=some [.int .i64 c16,.int .i64 c17,.slice gk jk ik]∧K (.tuple #[.agg #[.int .i64 c16,.int .i64 c17,.slice gk jk ik],.bool r10]) H11))):=by kernel_rfl
theorem ztl:∀g,FnOkX Tryz.prog (MainCls Tryz.prog) g (zce g):=FnOkX.envOf (by
 intro x hx
 simp only [List.mem_cons,List.not_mem_nil,or_false] at hx
 rcases hx with rfl | rfl
 ·exact z1j2.le fun _ _ _=>trivial
 ·exact f5z_ok)
theorem ω31 {P:Prop} (h:P:=by have:=o2.lt;have:=g3.1;omega):P:=h
theorem ω33 {P:Prop} (h:P:=by have:=G2.1;have:=g3.1;omega):P:=h
theorem zw5 (fa ia:Int) (ja:OA) (sa ya:Nat) (change_f:Fn) (change_x:Array Value) (change_y:Array Value) (H:zn) (K:KT) (h:zoe fa ia ja sa ya change_f change_x change_y H fun (xc:Int) (vc:Int) (ta:OA) (xa:Nat) (ua:Nat) (r2:Bool) (H':zn)=>K (.tuple #[.agg #[.int .i64 xc,.int .i64 vc,.slice ta xa ua],.bool r2]) H'):zt Tryz.prog zce Tryz.f57 [.agg #[.int .i64 fa,.int .i64 ia,.slice ja sa ya],.func change_f change_x change_y] H K:=by
 rw [z1cu]
 obtain ⟨l,ch,il,bl,hlen,hch,hk⟩:=h
 obtain rfl:=il.eqn
 have ep:z6n ch fa ia l=z6a (z8j fa ia l) fun a b c=>z6a (ch a b c) fun a b c=>z8j a b c:=rfl
 rw [ep] at hk
 refine Al.intro fun b1 H1 e1 l1 g1 o1=>Al.intro fun b2 H2 e2 l2 g2 o2=>?_
 have G2:Grow H H2:=g1.trans g2
 refine ⟨fa,ia,ja,l.length,ya,((o1.grow g2).rdN (nbl rfl)).trans rfl,zvb ⟨l,il.grow G2,bl,fun a n e H3 g3 w3=>?_⟩⟩
 have sl:=zxd fa ia l
 generalize z8j fa ia l=q at *
 refine Al.intro fun b3 H4 e4 l4 g4 o4=>Lt.setN o4 (n:=3) ω20 rfl fun H5 l5 o5 k5=>?_
 have up3:=w3.up
 have lo3:=w3.lo
 have s3:=(w3.grow g4).keepA (fun x y hx hy=>by cases hx;have:=up3 y hy;show b3≠_;omega) (OwnS.keep1 k5)
 have c2:=((o2.grow g3).grow g4).keep (b':=b3) ω31 k5
 have G5:Grow H H5:=((G2.trans g3).trans g4).keep ω33 k5
 refine Br.intro (fun hp=>?_) (fun hp=>?_)
 ·refine Lt.setN c2 (n:=3) ω20 rfl fun H6 l6 q6 k6=>⟨0,0,none,0,0,(q6.rdN (nbl rfl)).trans rfl,?_⟩
  rw [z4e (z1e hp)] at hk
  exact hk none 0 0 H6 (G5.keep ω2 k6) (OwnS.nil _ _ _ _)
 rw [z1u (z1a hp)] at hk
 refine ⟨q.1,q.2.1,a,n,e,(o5.rdN (nbl rfl)).trans rfl,?_⟩
 refine hch q.1 q.2.1 a n e q.2.2.1 H5 G5 s3.isL ω2 _ fun a7 n7 e7 H7 g7 w7=>?_
 rw [ext0,ext1,zix]
 have hl2:=hlen q.1 q.2.1 q.2.2.1
 generalize ch q.1 q.2.1 q.2.2.1=r at *
 refine Lt.setN (o5.grow g7) (n:=3) (nbl rfl) rfl fun H8 l8 o8 k8=>?_
 rw [zzb]
 have up7:=w7.up
 have lo7:=w7.lo
 have s7:=w7.keepA (fun x y hx hy=>by cases hx;have:=lo7 y hy;have:=o5.lt;show b3≠_;omega) (OwnS.keep1 k8)
 have d2:=(c2.grow g7).keep (b':=b3) ω31 k8
 have G8:Grow H H8:=(G5.trans g7).keep ω33 k8
 refine Br.intro (fun hp2=>?_) (fun hp2=>?_)
 ·refine Lt.setN d2 (n:=3) ω20 rfl fun H9 l9 q9 k9=>⟨0,0,none,0,0,(q9.rdN (nbl rfl)).trans rfl,?_⟩
  rw [z4e (z1e hp2)] at hk
  exact hk none 0 0 H9 (G8.keep ω2 k9) (OwnS.nil _ _ _ _)
 rw [z1u (z1a hp2)] at hk
 refine ⟨r.1,r.2.1,a7,n7,e7,(o8.rdN (nbl rfl)).trans rfl,zvb ⟨r.2.2.1,s7.isL,by omega,fun a9 n9 e9 H10 g10 w10=>?_⟩⟩
 refine Lt.setN (d2.grow g10) (n:=3) ω20 rfl fun H11 l11 q11 k11=>⟨_,_,a9,n9,e9,(q11.rdN (nbl rfl)).trans rfl,?_⟩
 have lo10:=w10.lo
 have hle:=G8.1
 exact hk a9 n9 e9 H11 ((G8.trans g10).keep ω2 k11) ((w10.keepA (fun x y hx hy=>by cases hx;have:=lo10 y hy;have:=d2.lt;show b2≠_;omega) (OwnS.keep1 k11)).weak hle)
theorem z1ct:FnOkX Tryz.prog (MainCls Tryz.prog) 57 zo3:=FnOkX.bodyF (hLt:=fun _=>z3h) mix_ok ztl Tryz.func57 rfl ω9 ω9 fun args H=>by
 unfold z17n
 split
 ·refine ⟨?_,?_,?_,?_,fun K hk=>zw5 _ _ _ _ _ _ _ _ H K hk⟩
  ·intro K K' h hk;obtain ⟨l,ch,i,b,hlen,hch,k⟩:=hk;exact ⟨l,ch,i,b,hlen,hch,(fun jd pd od H' gg ow0=>h _ _ (k jd pd od H' gg ow0))⟩
  ·nofun
  ·intro K hk;obtain ⟨l,ch,i,b,hlen,hch,k⟩:=hk;exact z5q fun a n e H1 g o=>⟨_,_,k a n e H1 g o⟩
  ·nofun
 ·exact Nice.no


def zc5 (rows:Int→Int→LN→PicT) (W Hi:Int) (l:LN):PicT:=z6a (rows W Hi l) fun a b c=>z6n rows a b c
theorem f6z_len (rows:Int→Int→LN→PicT) (hr:∀W Hi l,(rows W Hi l).2.2.1.length≤1024) (W Hi:Int) (l:LN):(zc5 rows W Hi l).2.2.1.length≤1024:=by
 unfold zc5
 generalize rows W Hi l=q
 unfold z6a
 cases q.2.2.2 with
 | false=>exact Nat.zero_le _
 | true=>exact z12w rows _ _ _
def zq9:Env:=envOf [(63,S_f5z),(57,zo3)]
def T_f6z (ic zd:Int) (oe:OA) (jf af cap0:Nat) (H:zn) (K:Int→Int→OA→Nat→Nat→Bool→zn→Prop):Prop:=
 ∃(l:LN) (f:Fn) (cx cy:Array Value) (rows:Int→Int→LN→PicT),IsL fF H oe jf l∧l.length<1073741824∧rdC H cap0 0=some (.func f cx cy)∧(∀W Hi l,(rows W Hi l).2.2.1.length≤1024)∧zcr zq9 (.func f cx cy) H rows∧zcr zce (.func f cx cy) H rows∧
  (∀(jd:OA) (pd od:Nat),∀H':zn,Grow H H'→OwnS fF H' H.length jd pd od ((zc5 rows ic zd l).2.2.1)→K ((zc5 rows ic zd l).1) ((zc5 rows ic zd l).2.1) jd pd od ((zc5 rows ic zd l).2.2.2) H')
def F_f6z (args:List Value) (H:zn):(Value→zn→Prop)→Prop:=match args with
 | [.agg ⟨[.int .i64 ic,.int .i64 zd,.slice oe jf af]⟩,.pointer (some ⟨cap0,0,none⟩)]=>fun K=>T_f6z ic zd oe jf af cap0 H fun (xc:Int) (vc:Int) (ta:OA) (xa:Nat) (ua:Nat) (r2:Bool) (H':zn)=>K (.tuple #[.agg #[.int .i64 xc,.int .i64 vc,.slice ta xa ua],.bool r2]) H'
 | _=>fun _=>False
def S_f6z:FSpec:={F:=F_f6z,quiet:=false,tame:=false}
theorem f6z_vc (ic zd:Int) (oe:OA) (jf af cap0:Nat) (H:zn) (K:KT):zt Tryz.prog zq9 Tryz.f64 [.agg #[.int .i64 ic,.int .i64 zd,.slice oe jf af],.pointer (some ⟨cap0,0,none⟩)] H K=
 (Al [.int .i64 ic,.int .i64 zd,.slice oe jf af] H fun b1 H1=>Al [.int .i64 0,.int .i64 0,.slice none 0 0] H1 fun b2 H2=>∃x1:Value,  rdC H2 cap0 0=some (x1)∧∃(c1 c2:Int),∃dh:OA,∃(fh eh:Nat),  rdN H2 b1 0 3=some [.int .i64 c1,.int .i64 c2,.slice dh fh eh]∧zfj zq9 x1 [.agg #[.int .i64 c1,.int .i64 c2,.slice dh fh eh]] H2 fun (w1:Value) (H3:zn)=>extV w1 0 fun (w2:Value)=>extV w1 1 fun (w3:Value)=>stN 3 w2 H3 b1 0 fun (H4:zn)=>unK .not w3 fun (w4:Value)=>zae w4 fun (t1:Bool)=>Br t1 (isOwn H4 b2∧(∃l,rdN H4 b2 0 3=some l)∧Lt (setN H4 b2 0 [.int .i64 0,.int .i64 0,.slice none 0 0]) fun H5=>∃(c4 c5:Int),∃qh:OA,∃(th sh:Nat),  rdN H5 b2 0 3=some [.int .i64 c4,.int .i64 c5,.slice qh th sh]∧K (.tuple #[.agg #[.int .i64 c4,.int .i64 c5,.slice qh th sh],.bool false]) H5) (∃(c7 c8:Int),∃ei:OA,∃(gi fi:Nat),  rdN H4 b1 0 3=some [.int .i64 c7,.int .i64 c8,.slice ei gi fi]∧∃x2:Value,  rdC H4 cap0 0=some (x2)∧zo3.F [.agg #[.int .i64 c7,.int .i64 c8,.slice ei gi fi],x2] H4 fun (w5:Value) (H6:zn)=>extV w5 0 fun (w6:Value)=>extV w5 1 fun (w7:Value)=>stN 3 w6 H6 b2 0 fun (H7:zn)=>∃(c10 c11:Int),∃ri:OA,∃(ti si:Nat),  rdN H7 b2 0 3=some [.int .i64 c10,.int .i64 c11,.slice ri ti si]∧K (.tuple #[.agg #[.int .i64 c10,.int .i64 c11,.slice ri ti si],w7]) H7)):=by kernel_rfl
theorem zzm:∀g,FnOkX Tryz.prog (MainCls Tryz.prog) g (zq9 g):=FnOkX.envOf (by
 intro x hx
 simp only [List.mem_cons,List.not_mem_nil,or_false] at hx
 rcases hx with rfl | rfl
 ·exact f5z_ok
 ·exact z1ct)
theorem zz7 {W Hi:Int} {a:OA} {n e:Nat} {f:Fn} {x y:Array Value} {H:zn} {K:KT}:zo3.F [.agg #[.int .i64 W,.int .i64 Hi,.slice a n e],.func f x y] H K=
  zoe W Hi a n e f x y H (fun r1 r2 a n e r H'=>K (.tuple #[.agg #[.int .i64 r1,.int .i64 r2,.slice a n e],.bool r]) H'):=rfl
theorem f6z_main (ic zd:Int) (oe:OA) (jf af cap0:Nat) (H:zn) (K:KT) (h:T_f6z ic zd oe jf af cap0 H fun (xc:Int) (vc:Int) (ta:OA) (xa:Nat) (ua:Nat) (r2:Bool) (H':zn)=>K (.tuple #[.agg #[.int .i64 xc,.int .i64 vc,.slice ta xa ua],.bool r2]) H'):zt Tryz.prog zq9 Tryz.f64 [.agg #[.int .i64 ic,.int .i64 zd,.slice oe jf af],.pointer (some ⟨cap0,0,none⟩)] H K:=by
 rw [f6z_vc]
 obtain ⟨l,f,cx,cy,rows,il,bl,hc,hlen,h1,h2,hk⟩:=h
 obtain rfl:=il.eqn
 have ep:zc5 rows ic zd l=z6a (rows ic zd l) fun a b c=>z6n rows a b c:=rfl
 rw [ep] at hk
 refine Al.intro fun b1 H1 e1 l1 g1 o1=>Al.intro fun b2 H2 e2 l2 g2 o2=>?_
 have G2:Grow H H2:=g1.trans g2
 have cap:∀H',Grow H H'→rdC H' cap0 0=some (.func f cx cy):=fun H' g=>zq1 g hc
 refine ⟨.func f cx cy,cap H2 G2,ic,zd,oe,l.length,af,((o1.grow g2).rdN (nbl rfl)).trans rfl,?_⟩
 refine h1 ic zd oe l.length af l H2 G2 (il.grow G2) bl _ fun a n e H3 g3 w3=>?_
 rw [ext0,ext1,zix]
 have hl:=hlen ic zd l
 generalize rows ic zd l=q at *
 refine Lt.setN ((o1.grow g2).grow g3) (n:=3) (nbl rfl) rfl fun H4 l4 o4 k4=>?_
 rw [zzb]
 have up3:=w3.up
 have lo3:=w3.lo
 have s3:=w3.keepA (fun x y hx hy=>by cases hx;have:=lo3 y hy;have:=o1.lt;show b1≠_;omega) (OwnS.keep1 k4)
 have c2:=(o2.grow g3).keep (b':=b1) ω2 k4
 have G4:Grow H H4:=(G2.trans g3).keep ω2 k4
 refine Br.intro (fun hp=>?_) (fun hp=>?_)
 ·refine Lt.setN c2 (n:=3) ω20 rfl fun H5 l5 q5 k5=>⟨0,0,none,0,0,(q5.rdN (nbl rfl)).trans rfl,?_⟩
  rw [z4e (z1e hp)] at hk
  exact hk none 0 0 H5 (G4.keep ω2 k5) (OwnS.nil _ _ _ _)
 rw [z1u (z1a hp)] at hk
 refine ⟨q.1,q.2.1,a,n,e,(o4.rdN (nbl rfl)).trans rfl,.func f cx cy,cap H4 G4,?_⟩
 rw [zz7]
 refine z11d ⟨q.2.2.1,rows,s3.isL,by omega,hlen,h2.grow G4,fun a6 n6 e6 H6 g6 w6=>?_⟩
 rw [ext0,ext1,zix]
 refine Lt.setN (c2.grow g6) (n:=3) ω20 rfl fun H7 l7 q7 k7=>⟨_,_,a6,n6,e6,(q7.rdN (nbl rfl)).trans rfl,?_⟩
 have lo6:=w6.lo
 have hle:=G4.1
 exact hk a6 n6 e6 H7 ((G4.trans g6).keep ω2 k7) ((w6.keepA (fun x y hx hy=>by cases hx;have:=lo6 y hy;have:=c2.lt;show b2≠_;omega) (OwnS.keep1 k7)).weak hle)
theorem f6z_ok:FnOkX Tryz.prog (MainCls Tryz.prog) 64 S_f6z:=FnOkX.bodyF (hLt:=fun _=>z3h) mix_ok zzm Tryz.func64 rfl ω9 ω9 fun args H=>by
 unfold F_f6z
 split
 ·refine ⟨?_,?_,?_,?_,fun K hk=>f6z_main _ _ _ _ _ _ H K hk⟩
  ·intro K K' h hk;obtain ⟨l,f,cx,cy,rows,i,b,hc,hlen,h1,h2,k⟩:=hk;exact ⟨l,f,cx,cy,rows,i,b,hc,hlen,h1,h2,(fun jd pd od H' gg ow0=>h _ _ (k jd pd od H' gg ow0))⟩
  ·nofun
  ·intro K hk;obtain ⟨l,f,cx,cy,rows,i,b,hc,hlen,h1,h2,k⟩:=hk;exact z5q fun a n e H1 g o=>⟨_,_,k a n e H1 g o⟩
  ·nofun
 ·exact Nice.no
def zfv (xs:LN) (off:Nat):LN→LN
 | []=>xs
 | y::r=>zfv (xs.set off y) (off+1) r
@[simp] theorem zlw:∀(ys:LN) (xs:LN) (off:Nat),(zfv xs off ys).length=xs.length:=by
 intro ys
 induction ys with
 | nil=>intro xs off;rfl
 | cons y r ih=>intro xs off;exact (ih _ _).trans (List.length_set ..)
theorem zs3 (ys:LN):∀(xs:LN) (off:Nat),zlv (xs.map fF) off (ys.map fF)=(zfv xs off ys).map fF:=by
 induction ys with
 | nil=>intro xs off;rfl
 | cons y r ih=>
  intro xs off
  show zlv ((xs.map fF).set off (fF y)) (off+1) (r.map fF)=_
  rw [←List.map_set]
  exact ih _ _
def z9p (l part:LN) (W pw x y:Int):Nat→LN
 | 0=>l
 | v+1=>zfv (z9p l part W pw x y v) ((y+(v:Int))*W+x).toNat ((part.drop ((v:Int)*pw).toNat).take pw.toNat)
@[simp] theorem z7j (l part:LN) (W pw x y:Int):∀v,(z9p l part W pw x y v).length=l.length:=by
 intro v
 induction v with
 | zero=>rfl
 | succ v ih=>exact (zlw _ _ _).trans ih
def zap (fa ia:Int) (da:LN) (ic zd:Int) (og:LN) (x y:Int):Int×Int×LN×Bool:=bif z1o ic zd og then (bif z8s fa ia da x y ic zd then (fa,ia,z9p da og fa ic x y zd.toNat,true) else (0,0,[],false)) else (0,0,[],false)
def T_fgz (fa ia:Int) (ja:OA) (sa ya:Nat) (ic zd:Int) (oe:OA) (jf af:Nat) (x y:Int) (H:zn) (K:Int→Int→OA→Nat→Nat→Bool→zn→Prop):Prop:=
 ∃(da og:LN),IsL fF H ja sa da∧IsL fF H oe jf og∧da.length<1073741824∧og.length<1073741824∧
  (∀(jd:OA) (pd od:Nat),∀H':zn,Grow H H'→OwnS fF H' H.length jd pd od ((zap fa ia da ic zd og x y).2.2.1)→K ((zap fa ia da ic zd og x y).1) ((zap fa ia da ic zd og x y).2.1) jd pd od ((zap fa ia da ic zd og x y).2.2.2) H')
theorem z1bp {fa ia:Int} {ja:OA} {sa ya:Nat} {ic zd:Int} {oe:OA} {jf af:Nat} {x y:Int} {H:zn} {K:Int→Int→OA→Nat→Nat→Bool→zn→Prop} (h:∃(da og:LN),IsL fF H ja sa da∧IsL fF H oe jf og∧da.length<1073741824∧og.length<1073741824∧
  (∀(jd:OA) (pd od:Nat),∀H':zn,Grow H H'→OwnS fF H' H.length jd pd od ((zap fa ia da ic zd og x y).2.2.1)→K ((zap fa ia da ic zd og x y).1) ((zap fa ia da ic zd og x y).2.1) jd pd od ((zap fa ia da ic zd og x y).2.2.2) H')):T_fgz fa ia ja sa ya ic zd oe jf af x y H K:=h
theorem z1ee (W Hi:Int) (l:LN) (pw ph:Int) (part:LN) (x y:Int):((zap W Hi l pw ph part x y).2.2.1.length:Int)≤256:=by
 unfold zap
 cases z1o pw ph part with
 | false=>show ((0:Nat):Int)≤256;omega
 | true=>
  cases h:z8s W Hi l x y pw ph with
  | false=>show ((0:Nat):Int)≤256;omega
  | true=>
   have:=f17z_t h
   show ((z9p l part W pw x y ph.toNat).length:Int)≤256
   rw [z7j]
   omega
def zhq:Env:=envOf [(999996,z8n),(50,zmh),(81,zuo),(53,zus)]
def F_fgz (args:List Value) (H:zn):(Value→zn→Prop)→Prop:=match args with
 | [.agg ⟨[.int .i64 fa,.int .i64 ia,.slice ja sa ya]⟩,.agg ⟨[.int .i64 ic,.int .i64 zd,.slice oe jf af]⟩,.int .i64 x,.int .i64 y]=>fun K=>T_fgz fa ia ja sa ya ic zd oe jf af x y H fun (xc:Int) (vc:Int) (ta:OA) (xa:Nat) (ua:Nat) (r2:Bool) (H':zn)=>K (.tuple #[.agg #[.int .i64 xc,.int .i64 vc,.slice ta xa ua],.bool r2]) H'
 | _=>fun _=>False
def S_fgz:FSpec:={F:=F_fgz,quiet:=false,tame:=false}
theorem z1ih (fa ia:Int) (ja:OA) (sa ya:Nat) (ic zd:Int) (oe:OA) (jf af:Nat) (x y:Int) (H:zn) (K:KT):zt Tryz.prog zhq Tryz.f105 [.agg #[.int .i64 fa,.int .i64 ia,.slice ja sa ya],.agg #[.int .i64 ic,.int .i64 zd,.slice oe jf af],.int .i64 x,.int .i64 y] H K=
 (Al [.int .i64 fa,.int .i64 ia,.slice ja sa ya] H fun b1 H1=>Al [.int .i64 ic,.int .i64 zd,.slice oe jf af] H1 fun b2 H2=>Al [.int .i64 0,.int .i64 0,.slice none 0 0] H2 fun b3 H3=>∃(c1 c2:Int),∃dh:OA,∃(fh eh:Nat),  rdN H3 b2 0 3=some [.int .i64 c1,.int .i64 c2,.slice dh fh eh]∧zht c1 c2 dh fh eh H3 fun (r1:Bool) (H4:zn)=>Br (!r1) (isOwn H4 b3∧(∃l,rdN H4 b3 0 3=some l)∧Lt (setN H4 b3 0 [.int .i64 0,.int .i64 0,.slice none 0 0]) fun H5=>∃(c4 c5:Int),∃qh:OA,∃(th sh:Nat),  rdN H5 b3 0 3=some [.int .i64 c4,.int .i64 c5,.slice qh th sh]∧K (.tuple #[.agg #[.int .i64 c4,.int .i64 c5,.slice qh th sh],.bool false]) H5) (∃(c7 c8:Int),∃ei:OA,∃(gi fi:Nat),  rdN H4 b1 0 3=some [.int .i64 c7,.int .i64 c8,.slice ei gi fi]∧∃x1:Int,  rdC H4 b2 0=some (.int .i64 x1)∧∃x2:Int,  rdC H4 b2 1=some (.int .i64 x2)∧zjb c7 c8 ei gi fi x y x1 x2 H4 fun (r2:Bool) (H6:zn)=>Br (!r2) (isOwn H6 b3∧(∃l,rdN H6 b3 0 3=some l)∧Lt (setN H6 b3 0 [.int .i64 0,.int .i64 0,.slice none 0 0]) fun H7=>∃(c10 c11:Int),∃ri:OA,∃(ti si:Nat),  rdN H7 b3 0 3=some [.int .i64 c10,.int .i64 c11,.slice ri ti si]∧K (.tuple #[.agg #[.int .i64 c10,.int .i64 c11,.slice ri ti si],.bool false]) H7) (∃fj:OA,∃(aj tj:Nat),  rdC H6 b1 2=some (.slice fj aj tj)∧∃x4:Int,  rdC H6 b1 1=some (.int .i64 x4)∧∃x5:Int,  rdC H6 b1 0=some (.int .i64 x5)∧zjg fj aj tj H6 fun (a1:OA) (r3:Nat) (r4:Nat) (H8:zn)=>Al [.int .i64 0,.int .i64 0,.slice none 0 0] H8 fun b4 H9=>isOwn H9 b4∧(∃l,rdN H9 b4 0 3=some l)∧Lt (setN H9 b4 0 [.int .i64 x5,.int .i64 x4,.slice a1 r3 r4]) fun H10=>∃x6:Int,  rdC H10 b2 1=some (.int .i64 x6)∧z1j (exL Tryz.prog zhq (cl (cl (cr (cl (cr (cr (cr (zo Tryz.f105)))))))) 206158431548 768 [(0,1280)]) (ud2 (.int .i64 x::.int .i64 y::.pointer (some ⟨b1,0,none⟩)::.pointer (some ⟨b2,0,none⟩)::ud2 (.pointer (some ⟨b3,0,none⟩)::ud::.pointer (some ⟨b4,0,none⟩)::ud25 (.int .i64 x6::.int .i64 0::ud28 [])))) H10 (zu 0 (seqQ (exL Tryz.prog zhq (cr (cr (cr (cr (zo Tryz.f105))))) 768 768 []) (retK Tryz.prog Tryz.f105 K)))))):=by kernel_rfl
abbrev zka (b1 b2 b3 b4:Nat) (x x6 y t37:Int)  :List Value:=(ud2 (.int .i64 x::.int .i64 y::.pointer (some ⟨b1,0,none⟩)::.pointer (some ⟨b2,0,none⟩)::ud2 (.pointer (some ⟨b3,0,none⟩)::ud::.pointer (some ⟨b4,0,none⟩)::ud25 (.int .i64 x6::.int .i64 t37::ud28 []))))
theorem z1ig (b1 b2 b3 b4:Nat) (x x6 y t37:Int)  (H:zn) (R:Post):exL Tryz.prog zhq (cl (cl (cr (cl (cr (cr (cr (zo Tryz.f105)))))))) 206158431548 768 [(0,1280)] (zka b1 b2 b3 b4 x x6 y t37) H R=
 (Br (decide ((t37:Int)<x6)) (∃uj:OA,∃(zi tk:Nat),  rdC H b4 2=some (.slice uj zi tk)∧∃x8:Int,  rdC H b1 0=some (.int .i64 x8)∧(0:Int)≤IntKind.wrap .i64 ((IntKind.wrap .i64 ((IntKind.wrap .i64 (y+t37))*x8))+x)∧IntKind.wrap .i64 ((IntKind.wrap .i64 ((IntKind.wrap .i64 (y+t37))*x8))+x)≤(zi:Int)∧(zi:Int)≤(zi:Int)∧∃zm:OA,∃(bn jn:Nat),  rdC H b2 2=some (.slice zm bn jn)∧∃x10:Int,  rdC H b2 0=some (.int .i64 x10)∧∃x11:Int,  rdC H b2 0=some (.int .i64 x11)∧(0:Int)≤IntKind.wrap .i64 (t37*x10)∧IntKind.wrap .i64 (t37*x10)≤IntKind.wrap .i64 ((IntKind.wrap .i64 (t37+1))*x11)∧IntKind.wrap .i64 ((IntKind.wrap .i64 (t37+1))*x11)≤(bn:Int)∧∃w1:List Value,rdS H ((zm:OA).map fun a=>⟨a.block,a.off+(IntKind.wrap .i64 (t37*x10):Int).toNat*1,none⟩) (min (((IntKind.wrap .i64 ((IntKind.wrap .i64 (t37+1))*x11):Int)-IntKind.wrap .i64 (t37*x10)).toNat:Nat) ((((zi:Int):Int)-IntKind.wrap .i64 ((IntKind.wrap .i64 ((IntKind.wrap .i64 (y+t37))*x8))+x)).toNat))=some w1∧∃b5 f1,((uj:OA).map fun a=>⟨a.block,a.off+(IntKind.wrap .i64 ((IntKind.wrap .i64 ((IntKind.wrap .i64 (y+t37))*x8))+x):Int).toNat*1,none⟩:OA)=some ⟨b5,f1,none⟩∧isOwn H b5∧(∃l,rdN H b5 f1 ((((zi:Int):Int)-IntKind.wrap .i64 ((IntKind.wrap .i64 ((IntKind.wrap .i64 (y+t37))*x8))+x)).toNat)=some l)∧Lt (setN H b5 f1 w1) fun H11=>R .normal (ud2 (.int .i64 x::.int .i64 y::.pointer (some ⟨b1,0,none⟩)::.pointer (some ⟨b2,0,none⟩)::ud2 (.pointer (some ⟨b3,0,none⟩)::ud::.pointer (some ⟨b4,0,none⟩)::ud25 (.int .i64 x6::.int .i64 (IntKind.wrap .i64 (t37+1))::ud28 [])))) H11) (R (.exit 0) (ud8 (.pointer (some ⟨b3,0,none⟩)::ud::.pointer (some ⟨b4,0,none⟩)::ud55 [])) H)):=by kernel_rfl
def zx7 (b1 b2 b3 b4:Nat) (x x6 y:Int) (Inv:Nat→Int→zn→Prop):Nat→List Value→zn→Prop:=fun μ tm H=>∃t37:Int,tm=(zka b1 b2 b3 b4 x x6 y t37)∧Inv μ t37 H
theorem z1id (b1 b2 b3 b4:Nat) (x x6 y:Int) {Q:Post} (Inv:Nat→Int→zn→Prop) (ν:Nat) (t37:Int)  (H:zn) (h0:Inv ν t37 H)
  (hs:∀(μ:Nat) (t37:Int)  (H:zn),Inv μ t37 H→exL Tryz.prog zhq (cl (cl (cr (cl (cr (cr (cr (zo Tryz.f105)))))))) 206158431548 768 [(0,1280)] (zka b1 b2 b3 b4 x x6 y t37) H (zx (zx7 b1 b2 b3 b4 x x6 y Inv) μ Q)):z1j (exL Tryz.prog zhq (cl (cl (cr (cl (cr (cr (cr (zo Tryz.f105)))))))) 206158431548 768 [(0,1280)]) (zka b1 b2 b3 b4 x x6 y t37) H Q:=
 ⟨zx7 b1 b2 b3 b4 x x6 y Inv,ν,⟨t37,rfl,h0⟩,fun μ tm H h=>by obtain ⟨t37,rfl,hI⟩:=h;exact hs μ t37  H hI⟩
theorem z1ie {b1 b2 b3 b4:Nat} {x x6 y:Int} {Q:Post} {Inv:Nat→Int→zn→Prop} {μ:Nat} (μ':Nat) {t37:Int}  {H:zn} (hm:μ'<μ) (hI:Inv μ' t37 H):zx (zx7 b1 b2 b3 b4 x x6 y Inv) μ Q .normal (zka b1 b2 b3 b4 x x6 y t37) H:=⟨μ',hm,t37,rfl,hI⟩
theorem z13o (b3 b4:Nat) (H:zn) (K:KT)  {I:Nat→List Value→zn→Prop} {μ:Nat}:zx I μ (zu 0 (seqQ (exL Tryz.prog zhq (cr (cr (cr (cr (zo Tryz.f105))))) 768 768 []) (retK Tryz.prog Tryz.f105 K))) (.exit 0) (ud8 (.pointer (some ⟨b3,0,none⟩)::ud::.pointer (some ⟨b4,0,none⟩)::ud55 [])) H=
 (∃(c13 c14:Int),∃ij:OA,∃(kj jj:Nat),  rdN H b4 0 3=some [.int .i64 c13,.int .i64 c14,.slice ij kj jj]∧isOwn H b3∧(∃l,rdN H b3 0 3=some l)∧Lt (setN H b3 0 [.int .i64 c13,.int .i64 c14,.slice ij kj jj]) fun H12=>∃(c16 c17:Int),∃gk:OA,∃(jk ik:Nat),  rdN H12 b3 0 3=some [.int .i64 c16,.int .i64 c17,.slice gk jk ik]∧K (.tuple #[.agg #[.int .i64 c16,.int .i64 c17,.slice gk jk ik],.bool true]) H12):=by kernel_rfl
theorem zzw:∀g,FnOkX Tryz.prog (MainCls Tryz.prog) g (zhq g):=FnOkX.envOf (by
 intro x hx
 simp only [List.mem_cons,List.not_mem_nil,or_false] at hx
 rcases hx with rfl | rfl | rfl | rfl
 ·exact z7c _ _
 ·exact f8z_ok.le fun _ _ _=>trivial
 ·exact f17z_ok.le fun _ _ _=>trivial
 ·exact zwl.le fun _ _ _=>trivial)
theorem z1f4 {x y v W H pw ph:Int} (hx:0≤x) (hy:0≤y) (hv:0≤v) (h1:1≤pw) (h2:x+pw≤W) (h3:y+ph≤H) (hv2:v<ph) (hW:W≤16) (hH:H≤16):
  0≤(y+v)*W∧(y+v)*W+x+pw≤W*H∧W*H≤256∧0≤v*pw∧(v+1)*pw=v*pw+pw∧(v+1)*pw≤pw*ph:=by
 have a:0≤(y+v)*W:=Int.mul_nonneg ω2 ω2
 have b:(y+v+1)*W≤H*W:=Int.mul_le_mul_of_nonneg_right ω2 ω2
 have c:(y+v+1)*W=(y+v)*W+W:=by rw [Int.add_mul,Int.one_mul]
 have d:H*W≤16*16:=Int.mul_le_mul ω2 ω2 ω2 ω20
 have e:H*W=W*H:=Int.mul_comm _ _
 have f:0≤v*pw:=Int.mul_nonneg hv ω2
 have g:(v+1)*pw=v*pw+pw:=by rw [Int.add_mul,Int.one_mul]
 have h:(v+1)*pw≤ph*pw:=Int.mul_le_mul_of_nonneg_right ω2 ω2
 have i:ph*pw=pw*ph:=Int.mul_comm _ _
 exact ⟨a,by omega,by omega,f,g,by omega⟩
theorem z13n (fa ia:Int) (ja:OA) (sa ya:Nat) (ic zd:Int) (oe:OA) (jf af:Nat) (x y:Int) (H:zn) (K:KT) (h:T_fgz fa ia ja sa ya ic zd oe jf af x y H fun (xc:Int) (vc:Int) (ta:OA) (xa:Nat) (ua:Nat) (r2:Bool) (H':zn)=>K (.tuple #[.agg #[.int .i64 xc,.int .i64 vc,.slice ta xa ua],.bool r2]) H'):zt Tryz.prog zhq Tryz.f105 [.agg #[.int .i64 fa,.int .i64 ia,.slice ja sa ya],.agg #[.int .i64 ic,.int .i64 zd,.slice oe jf af],.int .i64 x,.int .i64 y] H K:=by
 rw [z1ih]
 obtain ⟨l,q,il,iq,bl,bq,hk⟩:=h
 obtain rfl:=il.eqn
 obtain rfl:=iq.eqn
 have ep:zap fa ia l ic zd q x y=(bif z1o ic zd q then (bif z8s fa ia l x y ic zd then (fa,ia,z9p l q fa ic x y zd.toNat,true) else (0,0,[],false)) else (0,0,[],false)):=rfl
 rw [ep] at hk
 refine Al.intro fun b1 H1 e1 l1 g1 o1=>Al.intro fun b2 H2 e2 l2 g2 o2=>Al.intro fun b3 H3 e3 l3 g3 o3=>?_
 have p1:=(o1.grow g2).grow g3
 have p2:=o2.grow g3
 have G3:Grow H H3:=(g1.trans g2).trans g3
 refine ⟨ic,zd,oe,q.length,af,(p2.rdN (nbl rfl)).trans rfl,zbx ⟨q,iq.grow G3,bq,fun H4 g4=>?_⟩⟩
 have q3:=o3.grow g4
 refine Br.intro (fun hp=>?_) (fun hp=>?_)
 ·refine Lt.setN q3 (n:=3) ω20 rfl fun H5 l5 q5 k5=>⟨0,0,none,0,0,(q5.rdN (nbl rfl)).trans rfl,?_⟩
  rw [z1e hp,cond_false] at hk
  exact hk none 0 0 H5 ((G3.trans g4).keep ω2 k5) (OwnS.nil _ _ _ _)
 have hpv:=z1a hp
 rw [hpv,cond_true] at hk
 have G4:Grow H H4:=G3.trans g4
 have q1:=p1.grow g4
 have q2:=p2.grow g4
 refine ⟨fa,ia,ja,l.length,ya,(q1.rdN (nbl rfl)).trans rfl,ic,(q2.rdC 0).trans rfl,zd,(q2.rdC 1).trans rfl,zo8 ⟨l,il.grow G4,bl,fun H6 g6=>?_⟩⟩
 have r3:=q3.grow g6
 refine Br.intro (fun hp=>?_) (fun hp=>?_)
 ·refine Lt.setN r3 (n:=3) ω20 rfl fun H7 l7 q7 k7=>⟨0,0,none,0,0,(q7.rdN (nbl rfl)).trans rfl,?_⟩
  rw [z1e hp,cond_false] at hk
  exact hk none 0 0 H7 ((G4.trans g6).keep ω2 k7) (OwnS.nil _ _ _ _)
 have hpt:=z1a hp
 rw [hpt,cond_true] at hk
 obtain ⟨w1,w2,w3,w4,w5,w6,x0,y0,pw1,ph1,hx,hy⟩:=f17z_t hpt
 obtain ⟨v1,v2,v3,v4,v5,v6,v7⟩:=f8z_t hpv
 have G6:Grow H H6:=G4.trans g6
 have r1:=q1.grow g6
 have r2:=q2.grow g6
 refine ⟨ja,l.length,ya,(r1.rdC 2).trans rfl,ia,(r1.rdC 1).trans rfl,fa,(r1.rdC 0).trans rfl,zon ⟨l,il.grow G6,bl,fun a n e H8 g8 o8=>?_⟩⟩
 refine Al.intro fun b4 H9 e9 l9 g9 o9=>Lt.setN o9 (n:=3) ω20 rfl fun H10 l10 q10 k10=>?_
 have lo:=o8.lo
 have up:=o8.up
 have s1:=((r1.grow g8).grow g9).keep (b':=b4) (by have:=r1.lt;have:=g8.1;omega) k10
 have s2:=((r2.grow g8).grow g9).keep (b':=b4) (by have:=r2.lt;have:=g8.1;omega) k10
 have s3:=((r3.grow g8).grow g9).keep (b':=b4) (by have:=r3.lt;have:=g8.1;omega) k10
 have s8:=(o8.grow g9).keepA (fun x y hx hy=>by cases hx;have:=up y hy;show b4≠_;omega) (OwnS.keep1 k10)
 have G10:Grow H H10:=((G6.trans g8).trans g9).keep (by have:=G6.1;have:=g8.1;omega) k10
 refine ⟨zd,(s2.rdC 1).trans rfl,?_⟩
 obtain ⟨hn8,⟨ea,hx0⟩ | ⟨c,rfl,hc,he,hlc⟩⟩:=s8
 ·rw [hx0] at w5
  have:=z4u (W:=fa) (H:=ia) w1 w2 w3 w4
  simp at w5
  omega
 subst he
 subst hn8
 obtain ⟨m,rfl⟩:∃m:Nat,zd=(m:Int):=⟨zd.toNat,by omega⟩
 have hcb:c≠b4:=by have:=up _ rfl;have:c<H8.length:=this;omega
 have c10:=hc.lt
 refine z1id b1 b2 b3 b4 x (m:Int) y (fun μ t H'=>∃k:Nat,t=(k:Int)∧k≤m∧μ=m-k∧z3j c H10 H'∧Own H' c ((z9p l q fa ic x y k).map fF)) m 0 H10
  ⟨0,rfl,Nat.zero_le _,rfl,⟨Nat.le_refl _,fun _ _ _=>rfl⟩,hc⟩ ?_
 intro μ t H' hI
 obtain ⟨k,rfl,hkm,rfl,kp,oc⟩:=hI
 have lkp:=kp.1
 have t1:=s1.keep (b':=c) (by have:=r1.lt;have:=hlc;omega) kp
 have t2:=s2.keep (b':=c) (by have:=r2.lt;have:=hlc;omega) kp
 have t3:=s3.keep (b':=c) (by have:=r3.lt;have:=hlc;omega) kp
 have t4:=q10.keep (b':=c) (Ne.symm hcb) kp
 have GG:Grow H H':=G10.keep (by have:=G6.1;omega) kp
 rw [z1ig]
 refine Br.intro (fun hd=>?_) (fun hd=>?_)
 ·have hd':=odt hd
  obtain ⟨i1,i2,i3,i4,i5,i6⟩:=z1f4 (x:=x) (y:=y) (v:=(k:Int)) (W:=fa) (H:=ia) (pw:=ic) (ph:=(m:Int)) x0 y0 ω2 pw1 hx hy hd' w2 w4
  rw [show IntKind.wrap .i64 (y+(k:Int))=y+(k:Int) from zp ω2 ω2,show IntKind.wrap .i64 ((k:Int)+1)=(k:Int)+1 from zp ω2 ω2]
  refine ⟨some ⟨c,0,none⟩,l.length,1,(t4.rdC 2).trans rfl,fa,(t1.rdC 0).trans rfl,?_⟩
  rw [show IntKind.wrap .i64 ((y+(k:Int))*fa)=(y+(k:Int))*fa from zp ω2 ω2,show IntKind.wrap .i64 ((y+(k:Int))*fa+x)=(y+(k:Int))*fa+x from zp ω2 ω2]
  refine ⟨by omega,by omega,by omega,oe,q.length,af,(t2.rdC 2).trans rfl,ic,(t2.rdC 0).trans rfl,ic,(t2.rdC 0).trans rfl,?_⟩
  rw [show IntKind.wrap .i64 ((k:Int)*ic)=(k:Int)*ic from zp ω2 ω2,show IntKind.wrap .i64 (((k:Int)+1)*ic)=((k:Int)+1)*ic from zp ω2 ω2]
  refine ⟨by omega,by omega,by omega,(((q.drop ((k:Int)*ic).toNat).take (ic).toNat)).map fF,?_,c,0+((y+(k:Int))*fa+x).toNat*1,rfl,oc.isOwn,⟨_,oc.rdN (by rw [List.length_map,z7j];omega)⟩,?_⟩
  ·have hs:=zc9 (iq.grow GG) (lo:=(k:Int)*ic) (hi:=((k:Int)+1)*ic) ω2 ω2 ω2
   have e1:(((k:Int)+1)*ic-(k:Int)*ic).toNat=ic.toNat:=by omega
   have e2:min ((((k:Int)+1)*ic-(k:Int)*ic).toNat) (((l.length:Int)-((y+(k:Int))*fa+x)).toNat)=ic.toNat:=by omega
   rw [e1] at hs
   rw [e2]
   exact (z2h hs).symm ▸ congrArg (rdS H' _) (Nat.mul_one _).symm
  ·obtain ⟨u1,u2,u3⟩:=zq6 (((q.drop ((k:Int)*ic).toNat).take (ic).toNat).map fF) (0+((y+(k:Int))*fa+x).toNat*1) oc
   rw [zs3] at u1
   unfold Lt
   refine z1ie (m-(k+1)) ω2 ⟨k+1,by omega,by omega,rfl,⟨by rw [u2];exact lkp,fun i hi hne=>(u3 i hne).trans (kp.2 i hi hne)⟩,?_⟩
   have e3:0+((y+(k:Int))*fa+x).toNat*1=((y+(k:Int))*fa+x).toNat:=by omega
   rw [e3] at u1
   rw [e3]
   exact u1
 ·have hd':=odf hd
  obtain rfl:k=m:=by omega
  rw [z13o]
  refine ⟨fa,ia,some ⟨c,0,none⟩,l.length,1,(t4.rdN (nbl rfl)).trans rfl,Lt.setN t3 (n:=3) (nbl rfl) rfl fun H12 l12 q12 k12=>⟨fa,ia,some ⟨c,0,none⟩,l.length,1,(q12.rdN (nbl rfl)).trans rfl,?_⟩⟩
  rw [Int.toNat_natCast] at hk
  refine hk _ _ _ H12 (GG.keep ω2 k12) ((oc.keep (b':=b3) (by have:=r3.lt;have:=hlc;omega) k12).ownS (by rw [z7j]) (by have:=G6.1;omega))
theorem z1if:FnOkX Tryz.prog (MainCls Tryz.prog) 105 S_fgz:=FnOkX.bodyF (hLt:=fun _=>z3h) mix_ok zzw Tryz.func105 rfl ω9 ω9 fun args H=>by
 unfold F_fgz
 split
 ·refine ⟨?_,?_,?_,?_,fun K hk=>z13n _ _ _ _ _ _ _ _ _ _ _ _ H K hk⟩
  ·intro K K' h hk;obtain ⟨l,q,i,i2,b,b2,k⟩:=hk;exact ⟨l,q,i,i2,b,b2,(fun jd pd od H' gg ow0=>h _ _ (k jd pd od H' gg ow0))⟩
  ·nofun
  ·intro K hk;obtain ⟨l,q,i,i2,b,b2,k⟩:=hk;exact z5q fun a n e H1 g o=>⟨_,_,k a n e H1 g o⟩
  ·nofun
 ·exact Nice.no


def z5w (ch:Int→Int→LN→PicT) (W Hi:Int) (l:LN) (wide high:Int):PicT:=z6a (z9m W Hi l 0 0 wide high) fun a b c=>z6a (ch a b c) fun a b c=>zap W Hi l a b c 0 0
theorem z12x (ch:Int→Int→LN→PicT) (W Hi:Int) (l:LN) (wide high:Int):(z5w ch W Hi l wide high).2.2.1.length≤1024:=by
 unfold z5w
 generalize z9m W Hi l 0 0 wide high=q
 cases h:q.2.2.2 with
 | false=>rw [z4e h];exact Nat.zero_le _
 | true=>
  rw [z1u h]
  generalize ch q.1 q.2.1 q.2.2.1=r
  cases h2:r.2.2.2 with
  | false=>rw [z4e h2];exact Nat.zero_le _
  | true=>
   rw [z1u h2]
   have:=z1ee W Hi l r.1 r.2.1 r.2.2.1 0 0
   omega
def zda:Env:=envOf [(36,S_faz),(64,S_f6z),(105,S_fgz)]
def zoo (fa ia:Int) (ja:OA) (sa ya:Nat) (wide high:Int) (change_f:Fn) (change_x:Array Value) (change_y:Array Value) (H:zn) (K:Int→Int→OA→Nat→Nat→Bool→zn→Prop):Prop:=
 ∃(l:LN) (ch:Int→Int→LN→PicT),IsL fF H ja sa l∧l.length<1073741824∧(∀W Hi l,(ch W Hi l).2.2.1.length≤1024)∧zcr zda (.func change_f change_x change_y) H ch∧
  (∀(jd:OA) (pd od:Nat),∀H':zn,Grow H H'→OwnS fF H' H.length jd pd od ((z5w ch fa ia l wide high).2.2.1)→K ((z5w ch fa ia l wide high).1) ((z5w ch fa ia l wide high).2.1) jd pd od ((z5w ch fa ia l wide high).2.2.2) H')
theorem z11k {fa ia:Int} {ja:OA} {sa ya:Nat} {wide high:Int} {change_f:Fn} {change_x:Array Value} {change_y:Array Value} {H:zn} {K:Int→Int→OA→Nat→Nat→Bool→zn→Prop} (h:∃(l:LN) (ch:Int→Int→LN→PicT),IsL fF H ja sa l∧l.length<1073741824∧(∀W Hi l,(ch W Hi l).2.2.1.length≤1024)∧zcr zda (.func change_f change_x change_y) H ch∧
  (∀(jd:OA) (pd od:Nat),∀H':zn,Grow H H'→OwnS fF H' H.length jd pd od ((z5w ch fa ia l wide high).2.2.1)→K ((z5w ch fa ia l wide high).1) ((z5w ch fa ia l wide high).2.1) jd pd od ((z5w ch fa ia l wide high).2.2.2) H')):zoo fa ia ja sa ya wide high change_f change_x change_y H K:=h
def z17y (args:List Value) (H:zn):(Value→zn→Prop)→Prop:=match args with
 | [.agg ⟨[.int .i64 fa,.int .i64 ia,.slice ja sa ya]⟩,.int .i64 wide,.int .i64 high,.func change_f change_x change_y]=>fun K=>zoo fa ia ja sa ya wide high change_f change_x change_y H fun (xc:Int) (vc:Int) (ta:OA) (xa:Nat) (ua:Nat) (r2:Bool) (H':zn)=>K (.tuple #[.agg #[.int .i64 xc,.int .i64 vc,.slice ta xa ua],.bool r2]) H'
 | _=>fun _=>False
def z19d:FSpec:={F:=z17y,quiet:=false,tame:=false}
theorem z1dy (fa ia:Int) (ja:OA) (sa ya:Nat) (wide high:Int) (change_f:Fn) (change_x:Array Value) (change_y:Array Value) (H:zn) (K:KT):zt Tryz.prog zda Tryz.f54 [.agg #[.int .i64 fa,.int .i64 ia,.slice ja sa ya],.int .i64 wide,.int .i64 high,.func change_f change_x change_y] H K=
 (Al [.int .i64 fa,.int .i64 ia,.slice ja sa ya] H fun b1 H1=>Al [.int .i64 0,.int .i64 0,.slice none 0 0] H1 fun b2 H2=>∃(c1 c2:Int),∃dh:OA,∃(fh eh:Nat),  rdN H2 b1 0 3=some [.int .i64 c1,.int .i64 c2,.slice dh fh eh]∧T_faz c1 c2 dh fh eh 0 0 wide high H2 fun (r1:Int) (r2:Int) (a1:OA) (r3:Nat) (r4:Nat) (r5:Bool) (H3:zn)=>Al [.int .i64 0,.int .i64 0,.slice none 0 0] H3 fun b3 H4=>isOwn H4 b3∧(∃l,rdN H4 b3 0 3=some l)∧Lt (setN H4 b3 0 [.int .i64 r1,.int .i64 r2,.slice a1 r3 r4]) fun H5=>Br (!r5) (isOwn H5 b2∧(∃l,rdN H5 b2 0 3=some l)∧Lt (setN H5 b2 0 [.int .i64 0,.int .i64 0,.slice none 0 0]) fun H6=>∃(c4 c5:Int),∃qh:OA,∃(th sh:Nat),  rdN H6 b2 0 3=some [.int .i64 c4,.int .i64 c5,.slice qh th sh]∧K (.tuple #[.agg #[.int .i64 c4,.int .i64 c5,.slice qh th sh],.bool false]) H6) (∃(c7 c8:Int),∃ei:OA,∃(gi fi:Nat),  rdN H5 b3 0 3=some [.int .i64 c7,.int .i64 c8,.slice ei gi fi]∧zfj zda (.func change_f change_x change_y) [.agg #[.int .i64 c7,.int .i64 c8,.slice ei gi fi]] H5 fun (w1:Value) (H7:zn)=>extV w1 0 fun (w2:Value)=>extV w1 1 fun (w3:Value)=>stN 3 w2 H7 b3 0 fun (H8:zn)=>unK .not w3 fun (w4:Value)=>zae w4 fun (t1:Bool)=>Br t1 (isOwn H8 b2∧(∃l,rdN H8 b2 0 3=some l)∧Lt (setN H8 b2 0 [.int .i64 0,.int .i64 0,.slice none 0 0]) fun H9=>∃(c10 c11:Int),∃ri:OA,∃(ti si:Nat),  rdN H9 b2 0 3=some [.int .i64 c10,.int .i64 c11,.slice ri ti si]∧K (.tuple #[.agg #[.int .i64 c10,.int .i64 c11,.slice ri ti si],.bool false]) H9) (∃(c13 c14:Int),∃ij:OA,∃(kj jj:Nat),  rdN H8 b1 0 3=some [.int .i64 c13,.int .i64 c14,.slice ij kj jj]∧∃(c16 c17:Int),∃gk:OA,∃(jk ik:Nat),  rdN H8 b3 0 3=some [.int .i64 c16,.int .i64 c17,.slice gk jk ik]∧T_fgz c13 c14 ij kj jj c16 c17 gk jk ik 0 0 H8 fun (r6:Int) (r7:Int) (a2:OA) (r8:Nat) (r9:Nat) (r10:Bool) (H10:zn)=>isOwn H10 b2∧(∃l,rdN H10 b2 0 3=some l)∧Lt (setN H10 b2 0 [.int .i64 r6,.int .i64 r7,.slice a2 r8 r9]) fun H11=>∃(c19 c20:Int),∃ml:OA,∃(ql ol:Nat),  rdN H11 b2 0 3=some [.int .i64 c19,.int .i64 c20,.slice ml ql ol]∧K (.tuple #[.agg #[.int .i64 c19,.int .i64 c20,.slice ml ql ol],.bool r10]) H11))):=by kernel_rfl
theorem zu0:∀g,FnOkX Tryz.prog (MainCls Tryz.prog) g (zda g):=FnOkX.envOf (by
 intro x hx
 simp only [List.mem_cons,List.not_mem_nil,or_false] at hx
 rcases hx with rfl | rfl | rfl
 ·exact z1hf.le fun _ _ _=>trivial
 ·exact f6z_ok
 ·exact z1if)
theorem zwp (fa ia:Int) (ja:OA) (sa ya:Nat) (wide high:Int) (change_f:Fn) (change_x:Array Value) (change_y:Array Value) (H:zn) (K:KT) (h:zoo fa ia ja sa ya wide high change_f change_x change_y H fun (xc:Int) (vc:Int) (ta:OA) (xa:Nat) (ua:Nat) (r2:Bool) (H':zn)=>K (.tuple #[.agg #[.int .i64 xc,.int .i64 vc,.slice ta xa ua],.bool r2]) H'):zt Tryz.prog zda Tryz.f54 [.agg #[.int .i64 fa,.int .i64 ia,.slice ja sa ya],.int .i64 wide,.int .i64 high,.func change_f change_x change_y] H K:=by
 rw [z1dy]
 obtain ⟨l,ch,il,bl,hlen,hch,hk⟩:=h
 obtain rfl:=il.eqn
 have ep:z5w ch fa ia l wide high=z6a (z9m fa ia l 0 0 wide high) fun a b c=>z6a (ch a b c) fun a b c=>zap fa ia l a b c 0 0:=rfl
 rw [ep] at hk
 refine Al.intro fun b1 H1 e1 l1 g1 o1=>Al.intro fun b2 H2 e2 l2 g2 o2=>?_
 have G2:Grow H H2:=g1.trans g2
 refine ⟨fa,ia,ja,l.length,ya,((o1.grow g2).rdN (nbl rfl)).trans rfl,z1bk ⟨l,il.grow G2,bl,fun a n e H3 g3 w3=>?_⟩⟩
 have sl:=z1eb fa ia l 0 0 wide high
 generalize z9m fa ia l 0 0 wide high=q at *
 refine Al.intro fun b3 H4 e4 l4 g4 o4=>Lt.setN o4 (n:=3) ω20 rfl fun H5 l5 o5 k5=>?_
 have up3:=w3.up
 have lo3:=w3.lo
 have s3:=(w3.grow g4).keepA (fun x y hx hy=>by cases hx;have:=up3 y hy;show b3≠_;omega) (OwnS.keep1 k5)
 have c1:=(((o1.grow g2).grow g3).grow g4).keep (b':=b3) (by have:=o1.lt;have:=g3.1;omega) k5
 have c2:=((o2.grow g3).grow g4).keep (b':=b3) ω31 k5
 have G5:Grow H H5:=((G2.trans g3).trans g4).keep ω33 k5
 refine Br.intro (fun hp=>?_) (fun hp=>?_)
 ·refine Lt.setN c2 (n:=3) ω20 rfl fun H6 l6 q6 k6=>⟨0,0,none,0,0,(q6.rdN (nbl rfl)).trans rfl,?_⟩
  rw [z4e (z1e hp)] at hk
  exact hk none 0 0 H6 (G5.keep ω2 k6) (OwnS.nil _ _ _ _)
 rw [z1u (z1a hp)] at hk
 refine ⟨q.1,q.2.1,a,n,e,(o5.rdN (nbl rfl)).trans rfl,?_⟩
 refine hch q.1 q.2.1 a n e q.2.2.1 H5 G5 s3.isL ω2 _ fun a7 n7 e7 H7 g7 w7=>?_
 rw [ext0,ext1,zix]
 have hl2:=hlen q.1 q.2.1 q.2.2.1
 generalize ch q.1 q.2.1 q.2.2.1=r at *
 refine Lt.setN (o5.grow g7) (n:=3) (nbl rfl) rfl fun H8 l8 o8 k8=>?_
 rw [zzb]
 have up7:=w7.up
 have lo7:=w7.lo
 have s7:=w7.keepA (fun x y hx hy=>by cases hx;have:=lo7 y hy;have:=o5.lt;show b3≠_;omega) (OwnS.keep1 k8)
 have d1:=(c1.grow g7).keep (b':=b3) (by have:=o1.lt;have:=g3.1;omega) k8
 have d2:=(c2.grow g7).keep (b':=b3) ω31 k8
 have G8:Grow H H8:=(G5.trans g7).keep ω33 k8
 refine Br.intro (fun hp2=>?_) (fun hp2=>?_)
 ·refine Lt.setN d2 (n:=3) ω20 rfl fun H9 l9 q9 k9=>⟨0,0,none,0,0,(q9.rdN (nbl rfl)).trans rfl,?_⟩
  rw [z4e (z1e hp2)] at hk
  exact hk none 0 0 H9 (G8.keep ω2 k9) (OwnS.nil _ _ _ _)
 rw [z1u (z1a hp2)] at hk
 refine ⟨fa,ia,ja,l.length,ya,(d1.rdN (nbl rfl)).trans rfl,r.1,r.2.1,a7,n7,e7,(o8.rdN (nbl rfl)).trans rfl,z1bp ⟨l,r.2.2.1,il.grow G8,s7.isL,bl,by omega,fun a9 n9 e9 H10 g10 w10=>?_⟩⟩
 refine Lt.setN (d2.grow g10) (n:=3) ω20 rfl fun H11 l11 q11 k11=>⟨_,_,a9,n9,e9,(q11.rdN (nbl rfl)).trans rfl,?_⟩
 have lo10:=w10.lo
 have hle:=G8.1
 exact hk a9 n9 e9 H11 ((G8.trans g10).keep ω2 k11) ((w10.keepA (fun x y hx hy=>by cases hx;have:=lo10 y hy;have:=d2.lt;show b2≠_;omega) (OwnS.keep1 k11)).weak hle)
theorem z1dx:FnOkX Tryz.prog (MainCls Tryz.prog) 54 z19d:=FnOkX.bodyF (hLt:=fun _=>z3h) mix_ok zu0 Tryz.func54 rfl ω9 ω9 fun args H=>by
 unfold z17y
 split
 ·refine ⟨?_,?_,?_,?_,fun K hk=>zwp _ _ _ _ _ _ _ _ _ _ H K hk⟩
  ·intro K K' h hk;obtain ⟨l,ch,i,b,hlen,hch,k⟩:=hk;exact ⟨l,ch,i,b,hlen,hch,(fun jd pd od H' gg ow0=>h _ _ (k jd pd od H' gg ow0))⟩
  ·nofun
  ·intro K hk;obtain ⟨l,ch,i,b,hlen,hch,k⟩:=hk;exact z5q fun a n e H1 g o=>⟨_,_,k a n e H1 g o⟩
  ·nofun
 ·exact Nice.no
def z2f (ws:LN) (sc:Nat) (W Hi:Int) (l:LN):PicT:=z2z ws sc W Hi l
def z7b (ws:LN) (sc:Nat) (W Hi levels:Int) (k:Nat) (a b:Int) (l:LN):PicT:=z5w (zc5 (z2f ws sc)) a b l (z1b W (k:Int)) (z1b Hi (k:Int))
def z5c (ma:LN) (bb:Nat) (fa ia:Int) (da:LN) (levels:Int):PicT:=
 bif z7h ma bb then (bif z1o fa ia da then (bif zfu levels then z2e (z7b ma bb fa ia levels) levels.toNat 0 fa ia da else (0,0,[],false)) else (0,0,[],false)) else (0,0,[],false)
def T_fbz (gb:OA) (mb pb bb:Nat) (fa ia:Int) (ja:OA) (sa ya:Nat) (levels:Int) (H:zn) (K:Int→Int→OA→Nat→Nat→Bool→zn→Prop):Prop:=
 ∃(ma da:LN),IsL fF H gb mb ma∧IsL fF H ja sa da∧ma.length<1073741824∧da.length<1073741824∧
  (∀(jd:OA) (pd od:Nat),∀H':zn,Grow H H'→OwnS fF H' H.length jd pd od ((z5c ma bb fa ia da levels).2.2.1)→K ((z5c ma bb fa ia da levels).1) ((z5c ma bb fa ia da levels).2.1) jd pd od ((z5c ma bb fa ia da levels).2.2.2) H')
theorem z1bl {gb:OA} {mb pb bb:Nat} {fa ia:Int} {ja:OA} {sa ya:Nat} {levels:Int} {H:zn} {K:Int→Int→OA→Nat→Nat→Bool→zn→Prop} (h:∃(ma da:LN),IsL fF H gb mb ma∧IsL fF H ja sa da∧ma.length<1073741824∧da.length<1073741824∧
  (∀(jd:OA) (pd od:Nat),∀H':zn,Grow H H'→OwnS fF H' H.length jd pd od ((z5c ma bb fa ia da levels).2.2.1)→K ((z5c ma bb fa ia da levels).1) ((z5c ma bb fa ia da levels).2.1) jd pd od ((z5c ma bb fa ia da levels).2.2.2) H')):T_fbz gb mb pb bb fa ia ja sa ya levels H K:=h
def zfc:Env:=envOf [(999996,z8n),(49,S_fdz),(50,zmh),(51,S_foz),(53,zus),(55,zut),(54,z19d)]
def F_fbz (args:List Value) (H:zn):(Value→zn→Prop)→Prop:=match args with
 | [.agg ⟨[.slice gb mb pb,.float .f32 bb]⟩,.agg ⟨[.int .i64 fa,.int .i64 ia,.slice ja sa ya]⟩,.int .i64 levels]=>fun K=>T_fbz gb mb pb bb fa ia ja sa ya levels H fun (xc:Int) (vc:Int) (ta:OA) (xa:Nat) (ua:Nat) (r2:Bool) (H':zn)=>K (.tuple #[.agg #[.int .i64 xc,.int .i64 vc,.slice ta xa ua],.bool r2]) H'
 | _=>fun _=>False
def S_fbz:FSpec:={F:=F_fbz,quiet:=false,tame:=false}
theorem z1hl (gb:OA) (mb pb bb:Nat) (fa ia:Int) (ja:OA) (sa ya:Nat) (levels:Int) (H:zn) (K:KT):zt Tryz.prog zfc Tryz.f21 [.agg #[.slice gb mb pb,.float .f32 bb],.agg #[.int .i64 fa,.int .i64 ia,.slice ja sa ya],.int .i64 levels] H K=
 (Al [.slice gb mb pb,.float .f32 bb] H fun b1 H1=>Al [.int .i64 fa,.int .i64 ia,.slice ja sa ya] H1 fun b2 H2=>Al [.int .i64 0,.int .i64 0,.slice none 0 0] H2 fun b3 H3=>∃ui:OA,∃(wi vi c2:Nat),  rdN H3 b1 0 2=some [.slice ui wi vi,.float .f32 c2]∧zqa ui wi vi c2 H3 fun (r1:Bool) (H4:zn)=>Br (!r1) (isOwn H4 b3∧(∃l,rdN H4 b3 0 3=some l)∧Lt (setN H4 b3 0 [.int .i64 0,.int .i64 0,.slice none 0 0]) fun H5=>∃(c3 c4:Int),∃lj:OA,∃(nj mj:Nat),  rdN H5 b3 0 3=some [.int .i64 c3,.int .i64 c4,.slice lj nj mj]∧K (.tuple #[.agg #[.int .i64 c3,.int .i64 c4,.slice lj nj mj],.bool false]) H5) (∃(c6 c7:Int),∃pj:OA,∃(rj qj:Nat),  rdN H4 b2 0 3=some [.int .i64 c6,.int .i64 c7,.slice pj rj qj]∧zht c6 c7 pj rj qj H4 fun (r2:Bool) (H6:zn)=>Br (!r2) (isOwn H6 b3∧(∃l,rdN H6 b3 0 3=some l)∧Lt (setN H6 b3 0 [.int .i64 0,.int .i64 0,.slice none 0 0]) fun H7=>∃(c9 c10:Int),∃ck:OA,∃(fk dk:Nat),  rdN H7 b3 0 3=some [.int .i64 c9,.int .i64 c10,.slice ck fk dk]∧K (.tuple #[.agg #[.int .i64 c9,.int .i64 c10,.slice ck fk dk],.bool false]) H7) (zmk levels H6 fun (r3:Bool) (H8:zn)=>Br (!r3) (isOwn H8 b3∧(∃l,rdN H8 b3 0 3=some l)∧Lt (setN H8 b3 0 [.int .i64 0,.int .i64 0,.slice none 0 0]) fun H9=>∃(c12 c13:Int),∃xk:OA,∃(dl yk:Nat),  rdN H9 b3 0 3=some [.int .i64 c12,.int .i64 c13,.slice xk dl yk]∧K (.tuple #[.agg #[.int .i64 c12,.int .i64 c13,.slice xk dl yk],.bool false]) H9) (Al [.nilFunc] H8 fun b4 H10=>isOwn H10 b4∧(∃l,rdN H10 b4 0 1=some l)∧Lt (setC H10 b4 0 (.func (.func 63) #[] #[.pointer (some ⟨b1,0,none⟩)])) fun H11=>∃vg:OA,∃(pg yg:Nat),  rdC H11 b2 2=some (.slice vg pg yg)∧∃x2:Int,  rdC H11 b2 1=some (.int .i64 x2)∧∃x3:Int,  rdC H11 b2 0=some (.int .i64 x3)∧zjg vg pg yg H11 fun (a1:OA) (r4:Nat) (r5:Nat) (H12:zn)=>Al [.int .i64 0,.int .i64 0,.slice none 0 0] H12 fun b5 H13=>isOwn H13 b5∧(∃l,rdN H13 b5 0 3=some l)∧Lt (setN H13 b5 0 [.int .i64 x3,.int .i64 x2,.slice a1 r4 r5]) fun H14=>z1j (exL Tryz.prog zfc (cl (cl (cr (cl (cr (cr (cr (cr (zo Tryz.f21))))))))) 206158431056 192 [(0,576)]) (ud4 (.pointer (some ⟨b2,0,none⟩)::ud::.pointer (some ⟨b3,0,none⟩)::ud::.pointer (some ⟨b4,0,none⟩)::.pointer (some ⟨b5,0,none⟩)::ud26 (.int .i64 levels::.int .i64 0::ud22 []))) H14 (zu 0 (seqQ (exL Tryz.prog zfc (cr (cr (cr (cr (cr (zo Tryz.f21)))))) 192 192 []) (retK Tryz.prog Tryz.f21 K))))))):=by kernel_rfl
abbrev zk1 (b2 b3 b4 b5:Nat) (levels t37:Int)  :List Value:=(ud4 (.pointer (some ⟨b2,0,none⟩)::ud::.pointer (some ⟨b3,0,none⟩)::ud::.pointer (some ⟨b4,0,none⟩)::.pointer (some ⟨b5,0,none⟩)::ud26 (.int .i64 levels::.int .i64 t37::ud22 [])))
theorem z1hk (b2 b3 b4 b5:Nat) (levels t37:Int)  (H:zn) (R:Post):exL Tryz.prog zfc (cl (cl (cr (cl (cr (cr (cr (cr (zo Tryz.f21))))))))) 206158431056 192 [(0,576)] (zk1 b2 b3 b4 b5 levels t37) H R=
 (Br (decide ((t37:Int)<levels)) (∃x4:Int,  rdC H b2 1=some (.int .i64 x4)∧∃x5:Int,  rdC H b2 0=some (.int .i64 x5)∧∃(c15 c16:Int),∃fl:OA,∃(kl jl:Nat),  rdN H b5 0 3=some [.int .i64 c15,.int .i64 c16,.slice fl kl jl]∧zb1 x5 t37 H fun (r6:Int) (H15:zn)=>zb1 x4 t37 H15 fun (r7:Int) (H16:zn)=>zoo c15 c16 fl kl jl r6 r7 (.func 64) #[] #[.pointer (some ⟨b4,0,none⟩)] H16 fun (r8:Int) (r9:Int) (a2:OA) (r10:Nat) (r11:Nat) (r12:Bool) (H17:zn)=>Al [.int .i64 0,.int .i64 0,.slice none 0 0] H17 fun b6 H18=>isOwn H18 b6∧(∃l,rdN H18 b6 0 3=some l)∧Lt (setN H18 b6 0 [.int .i64 r8,.int .i64 r9,.slice a2 r10 r11]) fun H19=>Br (!r12) (isOwn H19 b3∧(∃l,rdN H19 b3 0 3=some l)∧Lt (setN H19 b3 0 [.int .i64 0,.int .i64 0,.slice none 0 0]) fun H20=>R .ret (ud6 (.pointer (some ⟨b3,0,none⟩)::.bool false::ud52 [])) H20) (∃(c18 c19:Int),∃lk:OA,∃(pk nk:Nat),  rdN H19 b6 0 3=some [.int .i64 c18,.int .i64 c19,.slice lk pk nk]∧isOwn H19 b5∧(∃l,rdN H19 b5 0 3=some l)∧Lt (setN H19 b5 0 [.int .i64 c18,.int .i64 c19,.slice lk pk nk]) fun H21=>R .normal (ud4 (.pointer (some ⟨b2,0,none⟩)::ud::.pointer (some ⟨b3,0,none⟩)::ud::.pointer (some ⟨b4,0,none⟩)::.pointer (some ⟨b5,0,none⟩)::ud26 (.int .i64 levels::.int .i64 (IntKind.wrap .i64 (t37+1))::ud22 []))) H21)) (R (.exit 0) (ud6 (.pointer (some ⟨b3,0,none⟩)::ud2 (.pointer (some ⟨b5,0,none⟩)::ud50 []))) H)):=by kernel_rfl
def zwx (b2 b3 b4 b5:Nat) (levels:Int) (Inv:Nat→Int→zn→Prop):Nat→List Value→zn→Prop:=fun μ tm H=>∃t37:Int,tm=(zk1 b2 b3 b4 b5 levels t37)∧Inv μ t37 H
theorem z1hh (b2 b3 b4 b5:Nat) (levels:Int) {Q:Post} (Inv:Nat→Int→zn→Prop) (ν:Nat) (t37:Int)  (H:zn) (h0:Inv ν t37 H)
  (hs:∀(μ:Nat) (t37:Int)  (H:zn),Inv μ t37 H→exL Tryz.prog zfc (cl (cl (cr (cl (cr (cr (cr (cr (zo Tryz.f21))))))))) 206158431056 192 [(0,576)] (zk1 b2 b3 b4 b5 levels t37) H (zx (zwx b2 b3 b4 b5 levels Inv) μ Q)):z1j (exL Tryz.prog zfc (cl (cl (cr (cl (cr (cr (cr (cr (zo Tryz.f21))))))))) 206158431056 192 [(0,576)]) (zk1 b2 b3 b4 b5 levels t37) H Q:=
 ⟨zwx b2 b3 b4 b5 levels Inv,ν,⟨t37,rfl,h0⟩,fun μ tm H h=>by obtain ⟨t37,rfl,hI⟩:=h;exact hs μ t37  H hI⟩
theorem z1hi {b2 b3 b4 b5:Nat} {levels:Int} {Q:Post} {Inv:Nat→Int→zn→Prop} {μ:Nat} (μ':Nat) {t37:Int}  {H:zn} (hm:μ'<μ) (hI:Inv μ' t37 H):zx (zwx b2 b3 b4 b5 levels Inv) μ Q .normal (zk1 b2 b3 b4 b5 levels t37) H:=⟨μ',hm,t37,rfl,hI⟩
theorem z13b (b3 b5:Nat) (H:zn) (K:KT)  {I:Nat→List Value→zn→Prop} {μ:Nat}:zx I μ (zu 0 (seqQ (exL Tryz.prog zfc (cr (cr (cr (cr (cr (zo Tryz.f21)))))) 192 192 []) (retK Tryz.prog Tryz.f21 K))) (.exit 0) (ud6 (.pointer (some ⟨b3,0,none⟩)::ud2 (.pointer (some ⟨b5,0,none⟩)::ud50 []))) H=
 (∃(c21 c22:Int),∃tl:OA,∃(wl ul:Nat),  rdN H b5 0 3=some [.int .i64 c21,.int .i64 c22,.slice tl wl ul]∧isOwn H b3∧(∃l,rdN H b3 0 3=some l)∧Lt (setN H b3 0 [.int .i64 c21,.int .i64 c22,.slice tl wl ul]) fun H22=>∃(c24 c25:Int),∃fm:OA,∃(im gm:Nat),  rdN H22 b3 0 3=some [.int .i64 c24,.int .i64 c25,.slice fm im gm]∧K (.tuple #[.agg #[.int .i64 c24,.int .i64 c25,.slice fm im gm],.bool true]) H22):=by kernel_rfl
theorem zql (b3:Nat) (t7:Bool) (H:zn) (K:KT)  {I:Nat→List Value→zn→Prop} {μ:Nat}:zx I μ (zu 0 (seqQ (exL Tryz.prog zfc (cr (cr (cr (cr (cr (zo Tryz.f21)))))) 192 192 []) (retK Tryz.prog Tryz.f21 K))) .ret (ud6 (.pointer (some ⟨b3,0,none⟩)::.bool t7::ud52 [])) H=
 (∃(c27 c28:Int),∃mm:OA,∃(om nm:Nat),  rdN H b3 0 3=some [.int .i64 c27,.int .i64 c28,.slice mm om nm]∧K (.tuple #[.agg #[.int .i64 c27,.int .i64 c28,.slice mm om nm],.bool t7]) H):=by kernel_rfl
theorem zzr:∀g,FnOkX Tryz.prog (MainCls Tryz.prog) g (zfc g):=FnOkX.envOf (by
 intro x hx
 simp only [List.mem_cons,List.not_mem_nil,or_false] at hx
 rcases hx with rfl | rfl | rfl | rfl | rfl | rfl | rfl
 ·exact z7c _ _
 ·exact zwy.le fun _ _ _=>trivial
 ·exact f8z_ok.le fun _ _ _=>trivial
 ·exact z1a1.le fun _ _ _=>trivial
 ·exact zwl.le fun _ _ _=>trivial
 ·exact zwn.le fun _ _ _=>trivial
 ·exact z1dx)
theorem zco (ws:LN) (sc:Nat) (W Hi:Int) (l:LN):(z2f ws sc W Hi l).2.2.1.length≤1024:=f15z_len ws sc W Hi l
theorem zh8 {H:zn} {c:Nat} {wa:OA} {wn we sc:Nat} {ws:LN} (o:Own H c [.slice wa wn we,.float .f32 sc]) (iw:IsL fF H wa wn ws) (bw:ws.length<1073741824) (W Hi:Int) (la:OA) (ln le:Nat) (l:LN) (H1:zn) (g:Grow H H1) (il:IsL fF H1 la ln l) (bl:l.length<1073741824) (K:KT)
  (hK:∀(a:OA) (n e:Nat) (H2:zn),Grow H1 H2→OwnS fF H2 H1.length a n e (z2f ws sc W Hi l).2.2.1→K (.tuple #[.agg #[.int .i64 (z2f ws sc W Hi l).1,.int .i64 (z2f ws sc W Hi l).2.1,.slice a n e],.bool (z2f ws sc W Hi l).2.2.2]) H2):
  T_f5z W Hi la ln le c H1 fun r1 r2 a n e r H'=>K (.tuple #[.agg #[.int .i64 r1,.int .i64 r2,.slice a n e],.bool r]) H':=
 ⟨wa,wn,we,sc,l,ws,((o.grow g).rdN (nbl rfl)).trans rfl,il,iw.grow g,bl,bw,fun a n e H2 g2 w2=>hK a n e H2 g2 w2⟩
theorem zm6 {H:zn} {c:Nat} {wa:OA} {wn we sc:Nat} {ws:LN} (o:Own H c [.slice wa wn we,.float .f32 sc]) (iw:IsL fF H wa wn ws) (bw:ws.length<1073741824):zcr zq9 (.func (.func 63) #[] #[.pointer (some ⟨c,0,none⟩)]) H (z2f ws sc):=
 fun W Hi la ln le l H1 g il bl K hK=>zh8 o iw bw W Hi la ln le l H1 g il bl K hK
theorem zm7 {H:zn} {c:Nat} {wa:OA} {wn we sc:Nat} {ws:LN} (o:Own H c [.slice wa wn we,.float .f32 sc]) (iw:IsL fF H wa wn ws) (bw:ws.length<1073741824):zcr zce (.func (.func 63) #[] #[.pointer (some ⟨c,0,none⟩)]) H (z2f ws sc):=
 fun W Hi la ln le l H1 g il bl K hK=>zh8 o iw bw W Hi la ln le l H1 g il bl K hK
theorem zmp {H:zn} {c d:Nat} {wa:OA} {wn we sc:Nat} {ws:LN} (o:Own H c [.slice wa wn we,.float .f32 sc]) (o2:Own H d [.func (.func 63) #[] #[.pointer (some ⟨c,0,none⟩)]]) (iw:IsL fF H wa wn ws) (bw:ws.length<1073741824):zcr zda (.func (.func 64) #[] #[.pointer (some ⟨d,0,none⟩)]) H (zc5 (z2f ws sc)):=by
 intro W Hi la ln le l H1 g il bl K hK
 refine (?_:T_f6z W Hi la ln le d H1 fun r1 r2 a n e r H'=>K (.tuple #[.agg #[.int .i64 r1,.int .i64 r2,.slice a n e],.bool r]) H')
 exact ⟨l,_,_,_,z2f ws sc,il,bl,((o2.grow g).rdC 0).trans rfl,zco ws sc,(zm6 o iw bw).grow g,(zm7 o iw bw).grow g,fun a n e H2 g2 w2=>hK a n e H2 g2 w2⟩
theorem z13a (gb:OA) (mb pb bb:Nat) (fa ia:Int) (ja:OA) (sa ya:Nat) (levels:Int) (H:zn) (K:KT) (h:T_fbz gb mb pb bb fa ia ja sa ya levels H fun (xc:Int) (vc:Int) (ta:OA) (xa:Nat) (ua:Nat) (r2:Bool) (H':zn)=>K (.tuple #[.agg #[.int .i64 xc,.int .i64 vc,.slice ta xa ua],.bool r2]) H'):zt Tryz.prog zfc Tryz.f21 [.agg #[.slice gb mb pb,.float .f32 bb],.agg #[.int .i64 fa,.int .i64 ia,.slice ja sa ya],.int .i64 levels] H K:=by
 rw [z1hl]
 obtain ⟨ws,l,iw,il,bw,bl,hk⟩:=h
 obtain rfl:=iw.eqn
 obtain rfl:=il.eqn
 have e:z5c ws bb fa ia l levels=(bif z7h ws bb then (bif z1o fa ia l then (bif zfu levels then z2e (z7b ws bb fa ia levels) levels.toNat 0 fa ia l else (0,0,[],false)) else (0,0,[],false)) else (0,0,[],false)):=rfl
 rw [e] at hk
 refine Al.intro fun b1 H1 e1 l1 g1 o1=>Al.intro fun b2 H2 e2 l2 g2 o2=>Al.intro fun b3 H3 e3 l3 g3 o3=>?_
 have G3:Grow H H3:=(g1.trans g2).trans g3
 have p1:=(o1.grow g2).grow g3
 have p2:=o2.grow g3
 refine ⟨gb,ws.length,pb,bb,(p1.rdN (nbl rfl)).trans rfl,zmi ⟨ws,iw.grow G3,bw,fun H4 g4=>?_⟩⟩
 refine Br.intro (fun hv=>?_) (fun hv=>?_)
 ·refine Lt.setN (o3.grow g4) (n:=3) ω20 rfl fun H5 l5 q5 k5=>⟨0,0,none,0,0,(q5.rdN (nbl rfl)).trans rfl,?_⟩
  rw [z1e hv,cond_false] at hk
  exact hk none 0 0 H5 ((G3.trans g4).keep ω2 k5) (OwnS.nil _ _ _ _)
 rw [z1a hv,cond_true] at hk
 refine ⟨fa,ia,ja,l.length,ya,((p2.grow g4).rdN (nbl rfl)).trans rfl,zbx ⟨l,il.grow (G3.trans g4),bl,fun H6 g6=>?_⟩⟩
 have q3:=(o3.grow g4).grow g6
 refine Br.intro (fun hp=>?_) (fun hp=>?_)
 ·refine Lt.setN q3 (n:=3) ω20 rfl fun H7 l7 q7 k7=>⟨0,0,none,0,0,(q7.rdN (nbl rfl)).trans rfl,?_⟩
  rw [z1e hp,cond_false] at hk
  exact hk none 0 0 H7 (((G3.trans g4).trans g6).keep ω2 k7) (OwnS.nil _ _ _ _)
 have hpv:=z1a hp
 rw [hpv,cond_true] at hk
 obtain ⟨w1,w2,w3,w4,w5,w6,w7⟩:=f8z_t hpv
 have G6:Grow H H6:=(G3.trans g4).trans g6
 unfold zmk
 refine Br.intro (fun hp=>?_) (fun hp=>?_)
 ·refine Lt.setN q3 (n:=3) ω20 rfl fun H7 l7 q7 k7=>⟨0,0,none,0,0,(q7.rdN (nbl rfl)).trans rfl,?_⟩
  rw [z1e hp,cond_false] at hk
  exact hk none 0 0 H7 (G6.keep ω2 k7) (OwnS.nil _ _ _ _)
 have hlv:=z1a hp
 rw [hlv,cond_true] at hk
 obtain ⟨v1,v2⟩:1≤levels∧levels≤4:=z3g hlv
 obtain ⟨m,rfl⟩:∃m:Nat,levels=(m:Int):=⟨levels.toNat,by omega⟩
 rw [Int.toNat_natCast] at hk
 have q1:=(p1.grow g4).grow g6
 have q2:=(p2.grow g4).grow g6
 refine Al.intro fun b4 H10 e10 l10 g10 o10=>Lt.set o10 ω20 fun H11 l11 o11 k11=>?_
 have G11:Grow H H11:=(G6.trans g10).keep (by have:=G6.1;omega) k11
 have r1:=(q1.grow g10).keep (b':=b4) (by have:=q1.lt;omega) k11
 have r2:=(q2.grow g10).keep (b':=b4) (by have:=q2.lt;omega) k11
 have r3:=(q3.grow g10).keep (b':=b4) (by have:=q3.lt;omega) k11
 refine ⟨ja,l.length,ya,(r2.rdC 2).trans rfl,ia,(r2.rdC 1).trans rfl,fa,(r2.rdC 0).trans rfl,zon ⟨l,il.grow G11,bl,fun a n e H12 g12 w12=>?_⟩⟩
 refine Al.intro fun b5 H13 e13 l13 g13 o13=>Lt.setN o13 (n:=3) ω20 rfl fun H14 l14 o14 k14=>?_
 have g1113:Grow H11 H13:=g12.trans g13
 have up12:=w12.up
 have lo12:=w12.lo
 have le12:=g12.1
 have G14:Grow H H14:=(G11.trans g1113).keep (by have:=G11.1;omega) k14
 have s1:=(r1.grow g1113).keep (b':=b5) (by have:=r1.lt;omega) k14
 have s2:=(r2.grow g1113).keep (b':=b5) (by have:=r2.lt;omega) k14
 have s3:=(r3.grow g1113).keep (b':=b5) (by have:=r3.lt;omega) k14
 have s4:=(o11.grow g1113).keep (b':=b5) (by have:=o11.lt;omega) k14
 have ow:=(w12.grow g13).keepA (fun x y hx hy=>by cases hx;have:=up12 y hy;show b5≠_;omega) (OwnS.keep1 k14)
 have hle:H.length≤H11.length:=G11.1
 have h5:H11.length≤b5:=by omega
 have L3:=r3.lt
 have L2:=r2.lt
 have L1:=r1.lt
 have L4:=o11.lt
 refine z1hh b2 b3 b4 b5 (m:Int) (fun μ t H'=>∃(k:Nat) (a b:Int) (nl:LN),t=(k:Int)∧k≤m∧μ=m-k∧nl.length≤1024∧z2e (z7b ws bb fa ia (m:Int)) (m-k) k a b nl=z2e (z7b ws bb fa ia (m:Int)) m 0 fa ia l∧z3j b5 H14 H'∧∃(na:OA) (nn ne:Nat),Own H' b5 [.int .i64 a,.int .i64 b,.slice na nn ne]∧OwnS fF H' H11.length na nn ne nl) m 0 H14
  ⟨0,fa,ia,l,rfl,Nat.zero_le _,rfl,by omega,rfl,⟨Nat.le_refl _,fun _ _ _=>rfl⟩,a,n,e,o14,ow⟩ ?_
 intro μ t H' hI
 obtain ⟨k,ca,cb,nl,rfl,hkm,rfl,hnl,hit,kp,na,nn,ne,ob,os⟩:=hI
 have lkp:=kp.1
 have t1:=s1.keep (b':=b5) ω2 kp
 have t2:=s2.keep (b':=b5) ω2 kp
 have t3:=s3.keep (b':=b5) ω2 kp
 have t4:=s4.keep (b':=b5) ω2 kp
 have GG:Grow H H':=G14.keep ω2 kp
 have os2:=os.len
 subst os2
 rw [z1hk]
 refine Br.intro (fun hd=>?_) (fun hd=>?_)
 ·have hd':=odt hd
  have hkm':k<m:=by omega
  obtain ⟨j,hj⟩:∃j,m-k=j+1:=⟨m-k-1,by omega⟩
  rw [hj] at hit
  rw [z5d] at hit
  refine ⟨ia,(t2.rdC 1).trans rfl,fa,(t2.rdC 0).trans rfl,ca,cb,na,nl.length,ne,(ob.rdN (nbl rfl)).trans rfl,?_⟩
  refine ⟨w1,w2,by omega,w3,w4,by omega,?_⟩
  refine z11k ⟨nl,zc5 (z2f ws bb),os.isL,by omega,fun W Hi l=>f6z_len _ (zco ws bb) W Hi l,zmp t1 t4 (iw.grow GG) bw,fun a17 n17 e17 H17 g17 w17=>?_⟩
  have eq:z5w (zc5 (z2f ws bb)) ca cb nl (z1b fa (k:Int)) (z1b ia (k:Int))=z7b ws bb fa ia (m:Int) k ca cb nl:=rfl
  rw [eq] at w17
  rw [eq]
  have hlq:(z7b ws bb fa ia (m:Int) k ca cb nl).2.2.1.length≤1024:=z12x _ _ _ _ _ _
  generalize z7b ws bb fa ia (m:Int) k ca cb nl=q at *
  have up17:=w17.up
  have lo17:=w17.lo
  have le17:=g17.1
  refine Al.intro fun b6 H18 e18 l18 g18 o18=>Lt.setN o18 (n:=3) ω20 rfl fun H19 l19 o19 k19=>?_
  have g1718:Grow H' H18:=g17.trans g18
  have w19:=(w17.grow g18).keepA (fun x y hx hy=>by cases hx;have:=up17 y hy;show b6≠_;omega) (OwnS.keep1 k19)
  have G19:Grow H H19:=(GG.trans g1718).keep ω2 k19
  have u3:=(t3.grow g1718).keep (b':=b6) ω2 k19
  have ub:=(ob.grow g1718).keep (b':=b6) (by have:=ob.lt;omega) k19
  refine Br.intro (fun hp=>?_) (fun hp=>?_)
  ·refine Lt.setN u3 (n:=3) ω20 rfl fun H20 l20 q20 k20=>?_
   rw [zql]
   refine ⟨0,0,none,0,0,(q20.rdN (nbl rfl)).trans rfl,?_⟩
   rw [z4e (z1e hp)] at hit
   rw [←hit] at hk
   exact hk none 0 0 H20 (G19.keep ω2 k20) (OwnS.nil _ _ _ _)
  ·rw [z1u (z1a hp)] at hit
   refine ⟨q.1,q.2.1,a17,n17,e17,(o19.rdN (nbl rfl)).trans rfl,?_⟩
   refine Lt.setN ub (n:=3) (nbl rfl) rfl fun H21 l21 q21 k21=>?_
   refine z1hi (m-(k+1)) ω2 ⟨k+1,q.1,q.2.1,q.2.2.1,by rw [zp ω2 ω2];omega,by omega,rfl,hlq,by rw [show m-(k+1)=j by omega];exact hit,?_,a17,n17,e17,q21,?_⟩
   ·refine ⟨by omega,fun i hi hne=>?_⟩
    rw [k21.2 i ω2 hne,k19.2 i ω2 ω2,g1718.2 i ω2,kp.2 i hi hne]
   ·exact (w19.keepA (fun x y hx hy=>by cases hx;have:=lo17 y hy;have:=ob.lt;show b5≠_;omega) (OwnS.keep1 k21)).weak ω2
 ·have hd':=odf hd
  obtain rfl:k=m:=by omega
  rw [Nat.sub_self] at hit
  rw [←hit] at hk
  rw [z13b]
  have lo:=os.lo
  refine ⟨ca,cb,na,nl.length,ne,(ob.rdN (nbl rfl)).trans rfl,Lt.setN t3 (n:=3) (nbl rfl) rfl fun H22 l22 q22 k22=>⟨ca,cb,na,nl.length,ne,(q22.rdN (nbl rfl)).trans rfl,?_⟩⟩
  exact hk na nl.length ne H22 (GG.keep ω2 k22) ((os.keepA (fun x y hx hy=>by cases hx;have:=lo y hy;show b3≠_;omega) (OwnS.keep1 k22)).weak ω2)
theorem z1hj:FnOkX Tryz.prog (MainCls Tryz.prog) 21 S_fbz:=FnOkX.bodyF (hLt:=fun _=>z3h) mix_ok zzr Tryz.func21 rfl ω9 ω9 fun args H=>by
 unfold F_fbz
 split
 ·refine ⟨?_,?_,?_,?_,fun K hk=>z13a _ _ _ _ _ _ _ _ _ _ H K hk⟩
  ·intro K K' h hk;obtain ⟨ws,l,i1,i2,b1,b2,k⟩:=hk;exact ⟨ws,l,i1,i2,b1,b2,(fun jd pd od H' gg ow0=>h _ _ (k jd pd od H' gg ow0))⟩
  ·nofun
  ·intro K hk;obtain ⟨ws,l,i1,i2,b1,b2,k⟩:=hk;exact z5q fun a n e H1 g o=>⟨_,_,k a n e H1 g o⟩
  ·nofun
 ·exact Nice.no

def z3r (wide high level band:Int):Int×Int×Int×Int×Bool:=((bif !((z2c wide (1:Int) (16:Int))) then ((0:Int),(0:Int),(0:Int),(0:Int),false) else (bif !((z2c high (1:Int) (16:Int))) then ((0:Int),(0:Int),(0:Int),(0:Int),false) else (bif !(zfu level) then ((0:Int),(0:Int),(0:Int),(0:Int),false) else (bif !((z2c band (0:Int) (3:Int))) then ((0:Int),(0:Int),(0:Int),(0:Int),false) else (bif (band:Int)==0 then ((0:Int),(0:Int),(z1b ((z1b wide (level-1))) (1:Int)),(z1b ((z1b high (level-1))) (1:Int)),true) else (bif (band:Int)==1 then ((z1b ((z1b wide (level-1))) (1:Int)),(0:Int),(((z1b wide (level-1)))-((z1b ((z1b wide (level-1))) (1:Int)))),(z1b ((z1b high (level-1))) (1:Int)),true) else (bif (band:Int)==2 then ((0:Int),(z1b ((z1b high (level-1))) (1:Int)),(z1b ((z1b wide (level-1))) (1:Int)),(((z1b high (level-1)))-((z1b ((z1b high (level-1))) (1:Int)))),true) else ((z1b ((z1b wide (level-1))) (1:Int)),(z1b ((z1b high (level-1))) (1:Int)),(((z1b wide (level-1)))-((z1b ((z1b wide (level-1))) (1:Int)))),(((z1b high (level-1)))-((z1b ((z1b high (level-1))) (1:Int)))),true)))))))))
def zl9:=@z3r.eq_1
def zja (wide high level band:Int) (H:zn) (K:Int→Int→Int→Int→Bool→zn→Prop):Prop:=K ((z3r wide high level band).1) ((z3r wide high level band).2.1) ((z3r wide high level band).2.2.1) ((z3r wide high level band).2.2.2.1) ((z3r wide high level band).2.2.2.2) H
theorem z10x {wide high level band:Int} {H:zn} {K:Int→Int→Int→Int→Bool→zn→Prop} (h:K ((z3r wide high level band).1) ((z3r wide high level band).2.1) ((z3r wide high level band).2.2.1) ((z3r wide high level band).2.2.2.1) ((z3r wide high level band).2.2.2.2) H):zja wide high level band H K:=h

def zt2:Env:=envOf [(68,zaa),(51,S_foz),(55,zut)]
def z17d (args:List Value) (H:zn):(Value→zn→Prop)→Prop:=match args with
 | [.int .i64 wide,.int .i64 high,.int .i64 level,.int .i64 band]=>fun K=>zja wide high level band H fun (r1:Int) (r2:Int) (r3:Int) (r4:Int) (r5:Bool) (H':zn)=>K (.tuple #[.int .i64 r1,.int .i64 r2,.int .i64 r3,.int .i64 r4,.bool r5]) H'
 | _=>fun _=>False
def z18o:FSpec:={F:=z17d,quiet:=true,tame:=false}
theorem f16z_vc (wide high level band:Int) (H:zn) (K:KT):zt Tryz.prog zt2 Tryz.f34 [.int .i64 wide,.int .i64 high,.int .i64 level,.int .i64 band] H K=
 (z3f wide 1 16 H fun (r1:Bool) (H1:zn)=>Br (!r1) (K (.tuple #[.int .i64 0,.int .i64 0,.int .i64 0,.int .i64 0,.bool false]) H1) (z3f high 1 16 H1 fun (r2:Bool) (H2:zn)=>Br (!r2) (K (.tuple #[.int .i64 0,.int .i64 0,.int .i64 0,.int .i64 0,.bool false]) H2) (zmk level H2 fun (r3:Bool) (H3:zn)=>Br (!r3) (K (.tuple #[.int .i64 0,.int .i64 0,.int .i64 0,.int .i64 0,.bool false]) H3) (z3f band 0 3 H3 fun (r4:Bool) (H4:zn)=>Br (!r4) (K (.tuple #[.int .i64 0,.int .i64 0,.int .i64 0,.int .i64 0,.bool false]) H4) (zb1 wide (IntKind.wrap .i64 (level-1)) H4 fun (r5:Int) (H5:zn)=>zb1 high (IntKind.wrap .i64 (level-1)) H5 fun (r6:Int) (H6:zn)=>zb1 r5 1 H6 fun (r7:Int) (H7:zn)=>zb1 r6 1 H7 fun (r8:Int) (H8:zn)=>Br ((band:Int)==0) (K (.tuple #[.int .i64 0,.int .i64 0,.int .i64 r7,.int .i64 r8,.bool true]) H8) (Br ((band:Int)==1) (K (.tuple #[.int .i64 r7,.int .i64 0,.int .i64 (IntKind.wrap .i64 (r5-r7)),.int .i64 r8,.bool true]) H8) (Br ((band:Int)==2) (K (.tuple #[.int .i64 0,.int .i64 r8,.int .i64 r7,.int .i64 (IntKind.wrap .i64 (r6-r8)),.bool true]) H8) (K (.tuple #[.int .i64 r7,.int .i64 r8,.int .i64 (IntKind.wrap .i64 (r5-r7)),.int .i64 (IntKind.wrap .i64 (r6-r8)),.bool true]) H8)))))))):=by kernel_rfl
theorem zt3:∀g,FnOk Tryz.prog g (zt2 g):=FnOk.envOf (by
 intro x hx
 simp only [List.mem_cons,List.not_mem_nil,or_false] at hx
 rcases hx with rfl | rfl | rfl
 ·exact z7z
 ·exact z1a1
 ·exact zwn)
theorem f16z_main (wide high level band:Int) (H:zn) (K:KT) (h:zja wide high level band H fun (r1:Int) (r2:Int) (r3:Int) (r4:Int) (r5:Bool) (H':zn)=>K (.tuple #[.int .i64 r1,.int .i64 r2,.int .i64 r3,.int .i64 r4,.bool r5]) H'):zt Tryz.prog zt2 Tryz.f34 [.int .i64 wide,.int .i64 high,.int .i64 level,.int .i64 band] H K:=by
 rw [f16z_vc]
 have hk:=h
 unfold zja at hk
 have e:(z3r wide high level band)=_:=rfl
 have e:=e.trans (zl9 wide high level band)
 have g0:=Grow.refl H
 refine z4b ?_
 refine Br.intro (fun c_1=>?_) (fun c_1=>?_)
 ·have e:=e.trans (zw c_1)
  have c_1n:=z1e c_1
  rw [e] at hk
  exact hk
 ·have e:=e.trans (zv c_1)
  have c_1n:=z1a c_1
  have c_1n':=z3g c_1n
  refine z4b ?_
  refine Br.intro (fun c_2=>?_) (fun c_2=>?_)
  ·have e:=e.trans (zw c_2)
   have c_2n:=z1e c_2
   rw [e] at hk
   exact hk
  ·have e:=e.trans (zv c_2)
   have c_2n:=z1a c_2
   have c_2n':=z3g c_2n
   refine z1bs ?_
   refine Br.intro (fun c_3=>?_) (fun c_3=>?_)
   ·have e:=e.trans (zw c_3)
    have c_3n:=z1e c_3
    rw [e] at hk
    exact hk
   ·have e:=e.trans (zv c_3)
    have c_3n:=z1a c_3
    have c_3n':=foz_t c_3n
    refine z4b ?_
    refine Br.intro (fun c_4=>?_) (fun c_4=>?_)
    ·have e:=e.trans (zw c_4)
     have c_4n:=z1e c_4
     rw [e] at hk
     exact hk
    ·have e:=e.trans (zv c_4)
     have c_4n:=z1a c_4
     have c_4n':=z3g c_4n
     rw [show IntKind.wrap .i64 (level-1)=(level-1) from zp ω2 ω2]
     refine zcw ⟨ω10,ω10,ω10,?_⟩
     have z_5:=zcy wide (level-1)
     refine zcw ⟨ω10,ω10,ω10,?_⟩
     have z_6:=zcy high (level-1)
     refine zcw ⟨ω10,ω10,ω10,?_⟩
     have z7:=zcy ((z1b wide (level-1))) (1:Int)
     refine zcw ⟨ω10,ω10,ω10,?_⟩
     have z8:=zcy ((z1b high (level-1))) (1:Int)
     refine Br.intro (fun c_9=>?_) (fun c_9=>?_)
     ·have e:=e.trans (zw c_9)
      have c_9':=zbc c_9
      rw [e] at hk
      exact hk
     ·have e:=e.trans (zv c_9)
      have c_9':=zbb c_9
      refine Br.intro (fun c_10=>?_) (fun c_10=>?_)
      ·have e:=e.trans (zw c_10)
       have c_10':=zbc c_10
       rw [show IntKind.wrap .i64 (((z1b wide (level-1)))-((z1b ((z1b wide (level-1))) (1:Int))))=(((z1b wide (level-1)))-((z1b ((z1b wide (level-1))) (1:Int)))) from zp ω2 ω2]
       rw [e] at hk
       exact hk
      ·have e:=e.trans (zv c_10)
       have c_10':=zbb c_10
       refine Br.intro (fun c_11=>?_) (fun c_11=>?_)
       ·have e:=e.trans (zw c_11)
        have c_11':=zbc c_11
        rw [show IntKind.wrap .i64 (((z1b high (level-1)))-((z1b ((z1b high (level-1))) (1:Int))))=(((z1b high (level-1)))-((z1b ((z1b high (level-1))) (1:Int)))) from zp ω2 ω2]
        rw [e] at hk
        exact hk
       ·have e:=e.trans (zv c_11)
        have c_11':=zbb c_11
        rw [show IntKind.wrap .i64 (((z1b wide (level-1)))-((z1b ((z1b wide (level-1))) (1:Int))))=(((z1b wide (level-1)))-((z1b ((z1b wide (level-1))) (1:Int)))) from zp ω2 ω2]
        rw [show IntKind.wrap .i64 (((z1b high (level-1)))-((z1b ((z1b high (level-1))) (1:Int))))=(((z1b high (level-1)))-((z1b ((z1b high (level-1))) (1:Int)))) from zp ω2 ω2]
        rw [e] at hk
        exact hk
theorem f16z_ok:FnOk Tryz.prog 34 z18o:=FnOk.bodyF mix_ok zt3 Tryz.func34 rfl ω9 ω9 fun args H=>by
 unfold z17d
 split
 ·refine ⟨?_,?_,?_,?_,fun K hk=>f16z_main _ _ _ _ H K hk⟩
  ·intro K K' h hk;have k:=hk;exact h _ _ k
  ·intro _ K hk;have k:=hk;exact ⟨_,k,fun K' k'=>k'⟩
  ·intro K hk;have k:=hk;exact ⟨_,_,k⟩
  ·nofun
 ·exact Nice.no

def z3a (fa ia:Int) (da:LN) (count:Int):Int×Int×Bool:=(bif (z3r fa ia (1:Int) (1:Int)).2.2.2.2 then (bif (z2c count (1:Int) (16:Int)) then ((z3r fa ia (1:Int) (1:Int)).1,(z3r fa ia (1:Int) (1:Int)).2.2.1,decide ((count:Int)≤IntKind.wrap .i64 (((z3r fa ia (1:Int) (1:Int)).2.2.1)*((z3r fa ia (1:Int) (1:Int)).2.2.2.1)))) else ((z3r fa ia (1:Int) (1:Int)).1,(z3r fa ia (1:Int) (1:Int)).2.2.1,false)) else ((z3r fa ia (1:Int) (1:Int)).1,(z3r fa ia (1:Int) (1:Int)).2.2.1,false))
def zej:=@z3a.eq_1
def zo9 (fa ia:Int) (ja:OA) (sa ya:Nat) (count:Int) (H:zn) (K:Int→Int→Bool→zn→Prop):Prop:=∃da:LN,IsL fF H ja sa da∧da.length<1073741824∧((∀H':zn,Grow H H'→K ((z3a fa ia da count).1) ((z3a fa ia da count).2.1) ((z3a fa ia da count).2.2) H'))
theorem z10y {fa ia:Int} {ja:OA} {sa ya:Nat} {count:Int} {H:zn} {K:Int→Int→Bool→zn→Prop} (h:∃da:LN,IsL fF H ja sa da∧da.length<1073741824∧((∀H':zn,Grow H H'→K ((z3a fa ia da count).1) ((z3a fa ia da count).2.1) ((z3a fa ia da count).2.2) H'))):zo9 fa ia ja sa ya count H K:=h

def zt6:Env:=envOf [(34,z18o),(68,zaa)]
def z17f (args:List Value) (H:zn):(Value→zn→Prop)→Prop:=match args with
 | [.agg ⟨[.int .i64 fa,.int .i64 ia,.slice ja sa ya]⟩,.int .i64 count]=>fun K=>zo9 fa ia ja sa ya count H fun (r1:Int) (r2:Int) (r3:Bool) (H':zn)=>K (.tuple #[.int .i64 r1,.int .i64 r2,.bool r3]) H'
 | _=>fun _=>False
def z18p:FSpec:={F:=z17f,quiet:=false,tame:=true}
theorem f18z_vc (fa ia:Int) (ja:OA) (sa ya:Nat) (count:Int) (H:zn) (K:KT):zt Tryz.prog zt6 Tryz.f90 [.agg #[.int .i64 fa,.int .i64 ia,.slice ja sa ya],.int .i64 count] H K=
 (Al [.int .i64 fa,.int .i64 ia,.slice ja sa ya] H fun b1 H1=>∃x1:Int,  rdC H1 b1 0=some (.int .i64 x1)∧∃x2:Int,  rdC H1 b1 1=some (.int .i64 x2)∧zja x1 x2 1 1 H1 fun (r1:Int) (r2:Int) (r3:Int) (r4:Int) (r5:Bool) (H2:zn)=>Br r5 (z3f count 1 16 H2 fun (r6:Bool) (H3:zn)=>Br r6 (K (.tuple #[.int .i64 r1,.int .i64 r3,.bool (decide ((count:Int)≤IntKind.wrap .i64 (r3*r4)))]) H3) (K (.tuple #[.int .i64 r1,.int .i64 r3,.bool false]) H3)) (K (.tuple #[.int .i64 r1,.int .i64 r3,.bool false]) H2)):=by kernel_rfl
theorem zt7:∀g,FnOk Tryz.prog g (zt6 g):=FnOk.envOf (by
 intro x hx
 simp only [List.mem_cons,List.not_mem_nil,or_false] at hx
 rcases hx with rfl | rfl
 ·exact f16z_ok
 ·exact z7z)
theorem f18z_main (fa ia:Int) (ja:OA) (sa ya:Nat) (count:Int) (H:zn) (K:KT) (h:zo9 fa ia ja sa ya count H fun (r1:Int) (r2:Int) (r3:Bool) (H':zn)=>K (.tuple #[.int .i64 r1,.int .i64 r2,.bool r3]) H'):zt Tryz.prog zt6 Tryz.f90 [.agg #[.int .i64 fa,.int .i64 ia,.slice ja sa ya],.int .i64 count] H K:=by
 rw [f18z_vc]
 obtain ⟨da,xd,bd_13,hk⟩:=h
 obtain rfl:=xd.eqn
 have e:(z3a fa ia da count)=_:=rfl
 have e:=e.trans (zej fa ia da count)
 have g0:=Grow.refl H
 refine Al.intro (fun b_1 H_1 hb_2 hl_3 g_4 o_5=>?_)
 have l_7:=g_4.1
 have g_8:=g0.trans g_4
 have l_9:=g_8.1
 have w_12:=o_5.lt
 refine ⟨fa,(o_5.rdC _).trans rfl,?_⟩
 refine ⟨ia,(o_5.rdC _).trans rfl,?_⟩
 refine z10x ?_
 refine Br.intro (fun c_10=>?_) (fun c_10=>?_)
 ·have e:=e.trans (zw c_10)
  refine z4b ?_
  refine Br.intro (fun c_11=>?_) (fun c_11=>?_)
  ·have e:=e.trans (zw c_11)
   have c_11':=z3g c_11
   rw [e] at hk
   exact hk  H_1 g_8 
  ·have e:=e.trans (zv c_11)
   rw [e] at hk
   exact hk  H_1 g_8 
 ·have e:=e.trans (zv c_10)
  rw [e] at hk
  exact hk  H_1 g_8 
theorem f18z_ok:FnOk Tryz.prog 90 z18p:=FnOk.bodyF mix_ok zt7 Tryz.func90 rfl ω9 ω9 fun args H=>by
 unfold z17f
 split
 ·refine ⟨?_,?_,?_,?_,fun K hk=>f18z_main _ _ _ _ _ _ H K hk⟩
  ·intro K K' h hk;obtain ⟨da,xd,bd_13,k⟩:=hk;exact ⟨da,xd,bd_13,(fun  H' gg  =>h _ _ (k  H' gg))⟩
  ·nofun
  ·intro K hk;obtain ⟨da,xd,bd_13,k⟩:=hk;exact ⟨_,_,k H (Grow.refl H)⟩
  ·intro _ K hk;obtain ⟨da,xd,bd_13,k⟩:=hk;exact ⟨da,xd,bd_13,(fun  H' gg  =>⟨gg,k  H' gg⟩)⟩
 ·exact Nice.no
def zln (x:Nat):Nat:=(bif flt .f32 x 0 then fneg .f32 x else (bif feq .f32 x 0 then 0 else x))
def zji (x:Nat) (H:zn) (K:Nat→zn→Prop):Prop:=K (zln x) H

def zuj:Env:=envOf []
def z18j (args:List Value) (H:zn):(Value→zn→Prop)→Prop:=match args with
 | [.float .f32 x]=>fun K=>zji x H fun (r1:Nat) (H':zn)=>K (.float .f32 r1) H'
 | _=>fun _=>False
def z19k:FSpec:={F:=z18j,quiet:=true,tame:=false}
theorem f25z_vc (x:Nat) (H:zn) (K:KT):zt Tryz.prog zuj Tryz.f100 [.float .f32 x] H K=
 (Br (flt .f32 x 0) (K (.float .f32 (fneg .f32 x)) H) (Br (feq .f32 x 0) (K (.float .f32 0) H) (K (.float .f32 x) H))):=by kernel_rfl
theorem zuk:∀g,FnOk Tryz.prog g (zuj g):=FnOk.envOf (by
 intro x hx;cases hx)
theorem f25z_main (x:Nat) (H:zn) (K:KT) (h:zji x H fun (r1:Nat) (H':zn)=>K (.float .f32 r1) H'):zt Tryz.prog zuj Tryz.f100 [.float .f32 x] H K:=by
 rw [f25z_vc]
 unfold zji zln at h
 repeat' (first | exact h | (exfalso;simp_all;done) | (refine ⟨by decide,?_⟩) | (refine Br.intro (fun hb=>?_) (fun hb=>?_)<;>(try simp only [hb,cond_true,cond_false,Bool.not_true,Bool.not_false] at h)))
theorem f25z_ok:FnOk Tryz.prog 100 z19k:=FnOk.bodyF mix_ok zuk Tryz.func100 rfl ω9 ω9 fun args H=>by
 unfold z18j
 split
 ·refine ⟨?_,?_,?_,?_,fun K hk=>f25z_main _ H K hk⟩
  ·intro K K' h hk;have k:=hk;exact h _ _ k
  ·intro _ K hk;have k:=hk;exact ⟨_,k,fun K' k'=>k'⟩
  ·intro K hk;have k:=hk;exact ⟨_,_,k⟩
  ·nofun
 ·exact Nice.no
def p_fhz (x:Nat):Bool:=fle .f32 (zln x) 1232348160
def zv3 (x:Nat) (H:zn) (K:Bool→zn→Prop):Prop:=K (p_fhz x) H

theorem z1bq {x:Nat} {H:zn} {K:Bool→zn→Prop} (h:K (p_fhz x) H):zv3 x H K:=h
def E_fhz:Env:=envOf [(100,z19k)]
def F_fhz (args:List Value) (H:zn):(Value→zn→Prop)→Prop:=match args with
 | [.float .f32 x]=>fun K=>zv3 x H fun (r1:Bool) (H':zn)=>K (.bool r1) H'
 | _=>fun _=>False
def S_fhz:FSpec:={F:=F_fhz,quiet:=true,tame:=false}
theorem z1ij (x:Nat) (H:zn) (K:KT):zt Tryz.prog E_fhz Tryz.f92 [.float .f32 x] H K=
 (zji x H fun (r1:Nat) (H1:zn)=>K (.bool (fle .f32 r1 1232348160)) H1):=by kernel_rfl
theorem zzx:∀g,FnOk Tryz.prog g (E_fhz g):=FnOk.envOf (by
 intro x hx
 simp only [List.mem_cons,List.not_mem_nil,or_false] at hx
 subst hx;exact f25z_ok)
theorem z13p (x:Nat) (H:zn) (K:KT) (h:zv3 x H fun (r1:Bool) (H':zn)=>K (.bool r1) H'):zt Tryz.prog E_fhz Tryz.f92 [.float .f32 x] H K:=by
 rw [z1ij]
 simp only [zji]
 unfold zv3 p_fhz at h
 repeat' (first | exact h | (exfalso;simp_all;done) | (refine ⟨by decide,?_⟩) | (refine Br.intro (fun hb=>?_) (fun hb=>?_)<;>(try simp only [hb,cond_true,cond_false,Bool.not_true,Bool.not_false] at h)))
theorem z1ii:FnOk Tryz.prog 92 S_fhz:=FnOk.bodyF mix_ok zzx Tryz.func92 rfl ω9 ω9 fun args H=>by
 unfold F_fhz
 split
 ·refine ⟨?_,?_,?_,?_,fun K hk=>z13p _ H K hk⟩
  ·intro K K' h hk;have k:=hk;exact h _ _ k
  ·intro _ K hk;have k:=hk;exact ⟨_,k,fun K' k'=>k'⟩
  ·intro K hk;have k:=hk;exact ⟨_,_,k⟩
  ·nofun
 ·exact Nice.no

def zpl (x:Nat):Nat:=((z1x ((zgo (z2m x)))).getD 0)
def zyd:=@zpl.eq_1
def zjh (x:Nat) (H:zn) (K:Nat→zn→Prop):Prop:=K (zpl x) H
theorem z11r {x:Nat} {H:zn} {K:Nat→zn→Prop} (h:K (zpl x) H):zjh x H K:=h

def zub:Env:=envOf [(123,zuv)]
def z18f (args:List Value) (H:zn):(Value→zn→Prop)→Prop:=match args with
 | [.float .f32 x]=>fun K=>zjh x H fun (r1:Nat) (H':zn)=>K (.float .f32 r1) H'
 | _=>fun _=>False
def z19i:FSpec:={F:=z18f,quiet:=true,tame:=false}
theorem f21z_vc (x:Nat) (H:zn) (K:KT):zt Tryz.prog zub Tryz.f93 [.float .f32 x] H K=
 (zg8 (z2m x) H fun (r1:Nat) (H1:zn)=>∃x1:Nat,z1x r1=some x1∧K (.float .f32 x1) H1):=by kernel_rfl
theorem zuc:∀g,FnOk Tryz.prog g (zub g):=FnOk.envOf (by
 intro x hx
 simp only [List.mem_cons,List.not_mem_nil,or_false] at hx
 subst hx;exact f22z_ok)
theorem f21z_main (x:Nat) (H:zn) (K:KT) (h:zjh x H fun (r1:Nat) (H':zn)=>K (.float .f32 r1) H'):zt Tryz.prog zub Tryz.f93 [.float .f32 x] H K:=by
 rw [f21z_vc]
 have hk:=h
 unfold zjh at hk
 have e:(zpl x)=_:=rfl
 have e:=e.trans (zyd x)
 have g0:=Grow.refl H
 refine zot ?_
 refine ⟨_,zy9 (d:=0) (by exact zkh _),?_⟩
 rw [e] at hk
 exact hk
theorem f21z_ok:FnOk Tryz.prog 93 z19i:=FnOk.bodyF mix_ok zuc Tryz.func93 rfl ω9 ω9 fun args H=>by
 unfold z18f
 split
 ·refine ⟨?_,?_,?_,?_,fun K hk=>f21z_main _ H K hk⟩
  ·intro K K' h hk;have k:=hk;exact h _ _ k
  ·intro _ K hk;have k:=hk;exact ⟨_,k,fun K' k'=>k'⟩
  ·intro K hk;have k:=hk;exact ⟨_,_,k⟩
  ·nofun
 ·exact Nice.no
theorem z16l (x:Nat):zrv x=fin .f32 x:=zkc x
theorem z15b (x:Nat):zgl x=fin .f32 x:=zkc x
theorem zks (l:LN):∀(μ:Nat) (t:Bool) (i:Nat),l.length-i<μ→zbs l μ t (i:Int)=(l.drop i).all (fin .f32):=by
 intro μ
 induction μ with
 | zero=>intro t i h;omega
 | succ μ ih=>
  intro t i hm
  rw [zh1]
  by_cases h:i<l.length
  ·rw [dct (show (i:Int)<(l.length:Int) by omega),cond_true,Int.toNat_natCast,z16l]
   rw [List.drop_eq_getElem_cons h,List.all_cons,List.getD_eq_getElem?_getD,List.getElem?_eq_getElem h,Option.getD_some]
   have:=ih t (i+1) ω2
   cases fin .f32 l[i]
   ·rfl
   ·simp only [Bool.not_true,cond_false,Bool.true_and];exact this
  ·rw [dcf (show ¬(i:Int)<(l.length:Int) by omega),cond_false,List.drop_eq_nil_of_le ω2];rfl
theorem z4m (l:LN):z3e l=l.all (fin .f32):=by
 rw [zpy]
 have:=zks l (Int.toNat ((l.length:Int)-(0:Int))+1) false 0 ω2
 simpa using this
theorem zjm (ls:List LN) (t2:Bool) (t9:Int) (k:Bool→Int→Bool):∀(μ:Nat) (t:Bool) (i:Nat),i≤(ls.getD t9.toNat []).length→(ls.getD t9.toNat []).length-i<μ→
  zbr ls t2 t9 k μ t (i:Int)=bif ((ls.getD t9.toNat []).drop i).all (fin .f32) then k t ((ls.getD t9.toNat []).length:Int) else false:=by
 intro μ
 generalize hl:ls.getD t9.toNat []=l
 induction μ with
 | zero=>intro t i _ h;omega
 | succ μ ih=>
  intro t i hi hm
  rw [zh0,hl]
  by_cases h:i<l.length
  ·rw [dct (show (i:Int)<(l.length:Int) by omega),cond_true,Int.toNat_natCast,z15b]
   rw [List.drop_eq_getElem_cons h,List.all_cons,List.getD_eq_getElem?_getD,List.getElem?_eq_getElem h,Option.getD_some]
   have:=ih t (i+1) ω2 ω2
   cases fin .f32 l[i]
   ·rfl
   ·simp only [Bool.not_true,cond_false,Bool.true_and];exact this
  ·rw [dcf (show ¬(i:Int)<(l.length:Int) by omega),cond_false,List.drop_eq_nil_of_le ω2,show i=l.length by omega];rfl
theorem zjl (ls:List LN):∀(μ:Nat) (t:Bool) (i:Nat),ls.length-i<μ→z6x ls μ t (i:Int)=(ls.drop i).all (fun l=>l.all (fin .f32)):=by
 intro μ
 induction μ with
 | zero=>intro t i h;omega
 | succ μ ih=>
  intro t i hm
  rw [zgz]
  by_cases h:i<ls.length
  ·rw [dct (show (i:Int)<(ls.length:Int) by omega),cond_true]
   have:=zjm ls t (i:Int) (fun t2 t15=>z6x ls μ t2 ((i:Int)+1)) (Int.toNat ((((ls).getD ((i:Int):Int).toNat []).length:Int)-(0:Int))+1) t 0 (Nat.zero_le _) ω2
   refine Eq.trans this ?_
   rw [Int.toNat_natCast,List.drop_zero,List.drop_eq_getElem_cons h,List.all_cons,List.getD_eq_getElem?_getD,List.getElem?_eq_getElem h,Option.getD_some]
   have:=ih t (i+1) ω2
   cases ls[i].all (fin .f32)
   ·rfl
   ·simp only [cond_true,Bool.true_and];exact this
  ·rw [dcf (show ¬(i:Int)<(ls.length:Int) by omega),cond_false,List.drop_eq_nil_of_le ω2];rfl
theorem z4l (ls:List LN):z7i ls=ls.all (fun l=>l.all (fin .f32)):=by
 rw [zpu]
 have:=zjl ls (Int.toNat ((ls.length:Int)-(0:Int))+1) false 0 ω2
 simpa using this
theorem zdx (l:LN):z7i [l]=z3e l:=by rw [z4l,z4m];simp
theorem zdw {l:LN} (h:l.all (fin .f32)=true) (i:Nat):fin .f32 (l.getD i 0)=true:=by
 rw [List.getD_eq_getElem?_getD]
 cases hx:l[i]? with
 | none=>exact zb7 _
 | some x=>exact List.all_eq_true.1 h x (List.mem_of_getElem? hx)
theorem znz (w h:Int) (l:LN):z1o w h l=zes w h l:=by
 rw [zbm,zet,zlf,zdx]
 show (bif z6v w 1 16 then (bif z6v h 1 16 then _ else false) else false)=_
 cases z6v w 1 16<;>rfl
theorem z1q {n a b:Int} (h1:a≤n) (h2:n≤b):z2c n a b=true:=by
 unfold z2c;rw [dct h1,dct h2];rfl
theorem zj1 {w h:Int} {l:LN} (h1:1≤w) (h2:w≤16) (h3:1≤h) (h4:h≤16) (hl:(l.length:Int)=w*h) (hf:l.all (fin .f32)=true):z1o w h l=true:=by
 have hm:=z4u (W:=w) (H:=h) h1 h2 h3 h4
 rw [zbm,z1q h1 h2,z1q h3 h4,cond_true,cond_true,z4l,zp (n:=w*h) ω2 ω2,hl]
 simp [hf]
theorem z9s {w h:Int} {l:LN} (hh:z1o w h l=true):l.all (fin .f32)=true:=by
 rw [zbm,z4l] at hh
 simp only [Bool.cond_false_right,Bool.and_eq_true] at hh
 simpa using hh.2.2.2
theorem zf0 {W H level band:Int} (h1:1≤W) (h2:W≤16) (h3:1≤H) (h4:H≤16) (h5:1≤level) (h6:level≤4) (h7:0≤band) (h8:band≤3):
  z3r W H level band=((z1p W H level band).1,(z1p W H level band).2.1,(z1p W H level band).2.2.1,(z1p W H level band).2.2.2,true):=by
 have r1:=z4f (level-1).toNat W h1 h2
 have r2:=z4f (level-1).toNat H h3 h4
 rw [zl9,zbh,z1q h1 h2,z1q h3 h4,z1q h7 h8,show zfu level=true from z1q h5 h6]
 rw [z6s W H _ h1 h2 h3 h4,zag W _ h1 h2,zag H _ h3 h4]
 simp only [Bool.not_true,cond_false]
 rw [z6s _ _ 1 r1.1 ω2 r2.1 ω2,zag _ 1 r1.1 ω2,zag _ 1 r2.1 ω2]
 cases ((band:Int)==0)<;>cases ((band:Int)==1)<;>cases ((band:Int)==2)<;>rfl
theorem zns (ws:LN) (sc:Nat):z7h ws sc=zls ws sc:=by
 rw [zpn,zij,zdx]
 unfold z2c
 have e:zck sc=z9f sc:=rfl
 rw [e]
 cases decide ((1:Int)≤(ws.length:Int))<;>cases decide (((ws.length:Int):Int)≤8)<;>rfl
theorem zfh (low:LN) (j:Nat) (hj:j<low.length):z9l low (j:Int)=(low.getD j 0,za4 low ((j:Int)+1)):=by
 rw [zpk,zd2,Int.toNat_natCast]
 have e:(if (((low.length:Int)-1):Int)<((j:Int)+1) then ((low.length:Int)-1) else ((j:Int)+1)).toNat=(if (if ((j:Int)+1)<((low.length:Int)-1) then ((j:Int)+1) else ((low.length:Int)-1)) > 0 then (if ((j:Int)+1)<((low.length:Int)-1) then ((j:Int)+1) else ((low.length:Int)-1)) else 0).toNat:=by
  split<;>split<;>(try split at *)<;>omega
 exact congrArg (fun n=>(low.getD j 0,low.getD n 0)) e
theorem zdh (high:LN) (j:Nat) (h1:1≤high.length) (hj:j≤high.length):z9c high (j:Int)=(za4 high ((j:Int)-1),za4 high (j:Int)):=by
 rw [zpi,zd2,zd2]
 have e1:(if (0:Int) > ((j:Int)-1) then 0 else ((j:Int)-1)).toNat=(if (if ((j:Int)-1)<((high.length:Int)-1) then ((j:Int)-1) else ((high.length:Int)-1)) > 0 then (if ((j:Int)-1)<((high.length:Int)-1) then ((j:Int)-1) else ((high.length:Int)-1)) else 0).toNat:=by
  split<;>split<;>(try split at *)<;>omega
 have e2:(if (((high.length:Int)-1):Int)<(j:Int) then ((high.length:Int)-1) else (j:Int)).toNat=(if (if (j:Int)<((high.length:Int)-1) then (j:Int) else ((high.length:Int)-1)) > 0 then (if (j:Int)<((high.length:Int)-1) then (j:Int) else ((high.length:Int)-1)) else 0).toNat:=by
  split<;>split<;>(try split at *)<;>omega
 exact (congrArg (fun n=>(high.getD n 0,_)) e1).trans (congrArg (fun n=>(_,high.getD n 0)) e2)
theorem zna {g g':Nat→LN×Bool}:∀k,(∀i,i<k→(g i).1=(g' i).1)→z5y g k=z5y g' k:=by
 intro k
 induction k with
 | zero=>intro _;rfl
 | succ k ih=>intro h;rw [z4y,z4y,ih fun i hi=>h i ω2,h k ω2]
theorem zqq {g:Nat→LN×Bool} {W:Int}:∀k:Nat,(∀i,i<k→((g i).1.length:Int)=W)→((z5y g k).length:Int)=W*(k:Int):=by
 intro k
 induction k with
 | zero=>intro _;simp [z5y]
 | succ k ih=>
  intro h
  rw [z4y,List.length_append,Int.natCast_add,ih fun i hi=>h i ω2,h k ω2]
  rw [show ((k+1:Nat):Int)=(k:Int)+1 by omega,Int.mul_add,Int.mul_one]
theorem zxb {g:Nat→LN×Bool}:∀k:Nat,(∀i,i<k→(g i).1.all (fin .f32)=true)→(z5y g k).all (fin .f32)=true:=by
 intro k
 induction k with
 | zero=>intro _;rfl
 | succ k ih=>intro h;rw [z4y,List.all_append,ih fun i hi=>h i ω2,h k ω2];rfl
theorem zr8 {l:LN} (h1:1≤l.length) (h2:l.length≤128) (hf:l.all (fin .f32)=true):zac l=true:=by
 rw [zlj,z1q ω2 ω2,cond_true,z4l]
 simp [hf]
theorem zh2 {l:LN} (hf:l.all (fin .f32)=true) (W:Int) (y:Nat):(z1t l W y).all (fin .f32)=true:=by
 rw [List.all_eq_true]
 intro x hx
 exact List.all_eq_true.1 hf x (List.mem_of_mem_drop (List.mem_of_mem_take hx))
theorem zsp (k:Int) (w:Nat) (low high:LN) (h:high.length≤low.length):z7u k w false low high=z6p k w low high:=by
 unfold z7u z6p
 cases (Int.tmod k 2==0) with
 | false=>rfl
 | true=>
  rw [cond_true,cond_true]
  apply List.ext_getElem ω32
  intro i h1 h2
  have hi:i<high.length:=by simpa using h1
  rw [List.getElem_mapIdx,List.getElem_mapIdx,zfh low i ω2]
  rfl
theorem zzd (k:Int) (w:Nat) (low high:LN) (h1:1≤high.length) (h:low.length≤high.length+1):zcc k w false low high=zav k w low high:=by
 unfold zcc zav
 cases (Int.tmod k 2==0) with
 | true=>rfl
 | false=>
  rw [cond_false,cond_false]
  apply List.ext_getElem ω32
  intro i h2 h3
  have hi:i<low.length:=by simpa using h2
  rw [List.getElem_mapIdx,List.getElem_mapIdx,zdh high i h1 ω2]
  rfl
theorem z1fe:∀(ws:LN) (k:Int) (lo hi:LN),1≤hi.length→hi.length≤lo.length→lo.length≤hi.length+1→wfI ws k lo hi=wfS ws k lo hi:=by
 intro ws
 induction ws with
 | nil=>intro k lo hi _ _ _;rfl
 | cons w ws ih=>
  intro k lo hi h1 h2 h3
  unfold wfI wfS
  rw [zzd k w lo hi h1 h3,zsp k w lo hi h2]
  exact ih (k+1) _ _ (by rw [z2w];exact h1) (by rw [z2w,z4h];exact h2) (by rw [z2w,z4h];exact h3)
theorem z15m {l:LN} (h:(((ods l).length:Int)==0)=false):1≤(ods l).length:=by
 have:¬((ods l).length:Int)=0:=by simpa using h
 omega
theorem zxq (ws:LN) (sc:Nat) (l:LN) (hv:z7h ws sc=true) (hl:zac l=true):(z1n ws sc l).2.2=(z3d ws sc l).2.2∧
  ((z1n ws sc l).2.2=true→(z1n ws sc l).1=(z3d ws sc l).1∧(z1n ws sc l).2.1=(z3d ws sc l).2.1):=by
 rw [zai,z5f,hv,hl]
 unfold zre
 simp only [Bool.not_true,cond_false]
 cases hz:(((ods l).length:Int)==0) with
 | true=>simp only [cond_true];exact ⟨trivial,fun _=>⟨trivial,trivial⟩⟩
 | false=>
  have h1:=z15m hz
  have h2:=z4x l
  have h3:=z5b l
  have e:=z1fe ws 0 (evs l) (ods l) h1 ω2 ω2
  have eE:z8q ws sc l=zi8 ws sc l:=by unfold z8q zi8;rw [e]
  have eO:z8r ws sc l=zi9 ws sc l:=by unfold z8r zi9;rw [e]
  rw [eE,eO]
  have ef:z7i [zi8 ws sc l,zi9 ws sc l]=(z3e (zi8 ws sc l) && z3e (zi9 ws sc l)):=by
   rw [z4l,z4m,z4m];simp
  rw [ef]
  simp only [cond_false]
  cases (z3e (zi8 ws sc l) && z3e (zi9 ws sc l)) with
  | true=>exact ⟨rfl,fun _=>⟨rfl,rfl⟩⟩
  | false=>exact ⟨rfl,fun h=>by cases h⟩
theorem z15g (ws:LN) (sc:Nat) (l:LN) (hl:l.all (fin .f32)=true) (h:(z3d ws sc l).2.2=true):(z3d ws sc l).1.all (fin .f32)=true∧(z3d ws sc l).2.1.all (fin .f32)=true:=by
 rw [z5f] at h ⊢
 unfold zre at h ⊢
 cases hz:(((ods l).length:Int)==0) with
 | true=>
  simp only [cond_true]
  have part:∀p:Nat→Nat→Option Nat,(∀x i y,p x i=some y→y=x)→(l.zipIdx.filterMap fun q=>p q.1 q.2).all (fin .f32)=true:=by
   intro p hp
   rw [List.all_eq_true]
   intro y hy
   obtain ⟨q,hq,h2⟩:=List.mem_filterMap.1 hy
   rw [hp _ _ _ h2]
   exact List.all_eq_true.1 hl _ (List.fst_mem_of_mem_zipIdx hq)
  constructor
  ·exact part (fun x i=>if i % 2=0 then some x else none) (fun x i y h=>by split at h<;>simp_all)
  ·exact part (fun x i=>if i % 2=0 then none else some x) (fun x i y h=>by split at h<;>simp_all)
 | false=>
  rw [hz] at h
  simp only [cond_false] at h ⊢
  simp only [Bool.and_eq_true] at h
  rw [←z4m,←z4m]
  exact h
def zb9 (ws:LN) (sc:Nat) (l:LN) (W:Int) (y:Nat):LN×Bool:=((z3d ws sc (z1t l W y)).1++(z3d ws sc (z1t l W y)).2.1,(z3d ws sc (z1t l W y)).2.2)
theorem zrb (ws:LN) (sc:Nat) (W:Int) (m:Nat) (l:LN) (t5:Bool) (q1 q2 q4 q5:Int):∀(μ k:Nat),k≤m→m-k<μ→(∀i,i<k→(zb9 ws sc l W i).2=true)→
  z3x ws sc W (m:Int) l μ t5 (k:Int) q1 q2 q4 q5 (z5y (zb9 ws sc l W) k)=bif (List.range m).all (fun i=>(zb9 ws sc l W i).2) then (q4,q5,z5y (zb9 ws sc l W) m,true) else (0,0,[],false):=by
 intro μ
 induction μ with
 | zero=>intro k _ h;omega
 | succ μ ih=>
  intro k hk hm hall
  rw [zam]
  by_cases h:k<m
  ·rw [dct (show (k:Int)<(m:Int) by omega),cond_true]
   cases hg:(z3d ws sc ((((l).drop (((k:Int)*W):Int).toNat).take (((((k:Int)+1)*W):Int)-((k:Int)*W)).toNat))).2.2 with
   | false=>
    rw [Bool.not_false,cond_true]
    have:(List.range m).all (fun i=>(zb9 ws sc l W i).2)=false:=by
     rw [List.all_eq_false]
     exact ⟨k,List.mem_range.2 h,by rw [show (zb9 ws sc l W k).2=false from hg];simp⟩
    rw [this,cond_false]
   | true=>
    rw [Bool.not_true,cond_false]
    have:=ih (k+1) ω2 ω2 (fun i hi=>by
     rcases Nat.lt_succ_iff_lt_or_eq.1 hi with hi | rfl
     ·exact hall i hi
     ·exact hg)
    rw [z4y] at this
    rw [List.append_assoc]
    exact this
  ·obtain rfl:k=m:=by omega
   rw [dcf (show ¬(k:Int)<(k:Int) by omega),cond_false]
   have:(List.range k).all (fun i=>(zb9 ws sc l W i).2)=true:=by
    rw [List.all_eq_true]
    exact fun i hi=>hall i (List.mem_range.1 hi)
   rw [this,cond_true]
theorem zng {ws:LN} {sc:Nat} {W Hi:Int} {l:LN} (hv:z7h ws sc=true) (hp:z1o W Hi l=true):z2z ws sc W Hi l=z2o ws sc W Hi l:=by
 rw [zbi]
 show z5r ws sc W Hi l 1=_
 unfold z5r
 rw [hv,hp,cond_true,cond_true]
 obtain ⟨h1,h2,h3,h4,h5,_⟩:=f8z_t hp
 have hf:=z9s hp
 obtain ⟨m,rfl⟩:∃m:Nat,Hi=(m:Int):=⟨Hi.toNat,by omega⟩
 have em:((m:Int)).toNat=m:=Int.toNat_natCast m
 show _=z2o ws sc W (m:Int) l
 rw [em,zeo]
 have hs:=zrb ws sc W m l false 0 0 W (m:Int) (Int.toNat ((m:Int)-(0:Int))+1) 0 ω2 ω2 (fun i hi=>absurd hi (Nat.not_lt_zero _))
 refine Eq.trans ?_ hs.symm
 have rows:∀i,i<m→(za2 (z1t l W i) ws sc).2=(zb9 ws sc l W i).2∧((zb9 ws sc l W i).2=true→(za2 (z1t l W i) ws sc).1=(zb9 ws sc l W i).1):=by
  intro i hi
  obtain ⟨f1,f2,f3,f4⟩:=z6y h1 h2 h4 h5 (show (i:Int)<(m:Int) by omega)
  obtain ⟨a1,a2⟩:=zxq ws sc (z1t l W i) hv (zr8 ω2 ω2 (zh2 hf W i))
  refine ⟨a1,fun h=>?_⟩
  obtain ⟨b1,b2⟩:=a2 (a1.trans h)
  show (z1n ws sc (z1t l W i)).1++(z1n ws sc (z1t l W i)).2.1=_
  rw [b1,b2];rfl
 have eall:(List.range m).all (fun i=>(za2 (z1t l W i) ws sc).2)=(List.range m).all (fun i=>(zb9 ws sc l W i).2):=by
  rw [Bool.eq_iff_iff,List.all_eq_true,List.all_eq_true]
  exact ⟨fun h i hi=>by rw [←(rows i (List.mem_range.1 hi)).1];exact h i hi,fun h i hi=>by rw [(rows i (List.mem_range.1 hi)).1];exact h i hi⟩
 unfold z3l
 rw [eall]
 cases hall:(List.range m).all (fun i=>(zb9 ws sc l W i).2) with
 | false=>rfl
 | true=>
  rw [cond_true,cond_true]
  have ok:∀i,i<m→(zb9 ws sc l W i).2=true:=fun i hi=>List.all_eq_true.1 hall i (List.mem_range.2 hi)
  rw [zna m fun i hi=>(rows i hi).2 (ok i hi)]
  have hvp:z1o W (m:Int) (z5y (zb9 ws sc l W) m)=true:=by
   refine zj1 h1 h2 h3 h4 (zqq m fun i hi=>?_) (zxb m fun i hi=>?_)
   ·obtain ⟨f1,f2,f3,f4⟩:=z6y h1 h2 h4 h5 (show (i:Int)<(m:Int) by omega)
    obtain ⟨c1,c2⟩:=zat ws sc (z1t l W i)
    show (((z3d ws sc (z1t l W i)).1++(z3d ws sc (z1t l W i)).2.1).length:Int)=W
    rw [List.length_append]
    omega
   ·obtain ⟨c1,c2⟩:=z15g ws sc (z1t l W i) (zh2 hf W i) (ok i hi)
    show ((z3d ws sc (z1t l W i)).1++(z3d ws sc (z1t l W i)).2.1).all (fin .f32)=true
    rw [List.all_append,c1,c2];rfl
  rw [z4t,hvp]
  rfl
theorem zs4 (ys:LN):∀(xs:LN) (off z:Nat),zfv xs off (ys++[z])=(zfv xs off ys).set (off+ys.length) z:=by
 induction ys with
 | nil=>intro xs off z;rfl
 | cons y r ih=>
  intro xs off z
  show zfv (xs.set off y) (off+1) (r++[z])=_
  rw [ih]
  show _=(zfv (xs.set off y) (off+1) r).set (off+(r.length+1)) z
  rw [show off+1+r.length=off+(r.length+1) by omega]
theorem z15z {l q:LN} {W x y:Int} {n v:Nat} (hn:0<n) (h0:0≤(y+(v:Int))*W+x):∀u,u≤n→v*n+u≤q.length→zfv (putS l q W (n:Int) x y (v*n)) ((y+(v:Int))*W+x).toNat ((q.drop (v*n)).take u)=putS l q W (n:Int) x y (v*n+u):=by
 intro u
 induction u with
 | zero=>intro _ _;rw [List.take_zero];rfl
 | succ u ih=>
  intro hu hl
  have hg:(q.drop (v*n)).take (u+1)=(q.drop (v*n)).take u++[q.getD (v*n+u) 0]:=by
   rw [List.take_succ_eq_append_getElem (by rw [List.length_drop];omega),List.getElem_drop,List.getD_eq_getElem?_getD,List.getElem?_eq_getElem (show v*n+u<q.length by omega)];rfl
  have ll:((q.drop (v*n)).take u).length=u:=by rw [List.length_take,List.length_drop];omega
  rw [hg,zs4,ih ω2 ω2,ll]
  show _=(putS l q W (n:Int) x y (v*n+u)).set ((y+Int.tdiv ((v*n+u:Nat):Int) (n:Int))*W+x+Int.tmod ((v*n+u:Nat):Int) (n:Int)).toNat (q.getD (v*n+u) 0)
  have e1:Int.tdiv ((v*n+u:Nat):Int) (n:Int)=(v:Int):=by
   show ((((v*n+u) / n:Nat)):Int)=_
   rw [Nat.add_comm,Nat.mul_comm,Nat.add_mul_div_left _ _ hn,Nat.div_eq_of_lt ω2];omega
  have e2:Int.tmod ((v*n+u:Nat):Int) (n:Int)=(u:Int):=by
   show ((((v*n+u) % n:Nat)):Int)=_
   rw [Nat.add_comm,Nat.mul_comm,Nat.add_mul_mod_self_left,Nat.mod_eq_of_lt ω2]
  rw [e1,e2]
  have e3:((y+(v:Int))*W+x).toNat+u=((y+(v:Int))*W+x+(u:Int)).toNat:=by
   generalize (y+(v:Int))*W+x=a at *
   omega
  rw [e3]
theorem z16b {l q:LN} {W x y:Int} {n m:Nat} (hn:0<n) (hx:0≤x) (hy:0≤y) (hW:0≤W) (hq:q.length=m*n):∀v,v≤m→z9p l q W (n:Int) x y v=putS l q W (n:Int) x y (v*n):=by
 intro v
 induction v with
 | zero=>intro _;rw [Nat.zero_mul];rfl
 | succ v ih=>
  intro hv
  show zfv (z9p l q W (n:Int) x y v) ((y+(v:Int))*W+x).toNat ((q.drop ((v:Int)*(n:Int)).toNat).take ((n:Int)).toNat)=_
  have hm:(v+1)*n≤m*n:=Nat.mul_le_mul_right _ hv
  have hs:(v+1)*n=v*n+n:=Nat.succ_mul _ _
  have h0:0≤(y+(v:Int))*W+x:=Int.add_nonneg (Int.mul_nonneg ω2 hW) hx
  rw [ih ω2,←Int.natCast_mul,Int.toNat_natCast,Int.toNat_natCast,z15z hn h0 n (Nat.le_refl _) ω2,hs]
theorem z1fa {l:LN} (hf:l.all (fin .f32)=true) {x:Nat} (hx:fin .f32 x=true) (i:Nat):(l.set i x).all (fin .f32)=true:=by
 rw [List.all_eq_true] at hf ⊢
 intro y hy
 rcases List.mem_or_eq_of_mem_set hy with h | rfl
 ·exact hf y h
 ·exact hx
theorem z15y {l q:LN} (hl:l.all (fin .f32)=true) (hq:q.all (fin .f32)=true) (W pw x y:Int):∀i,(putS l q W pw x y i).all (fin .f32)=true:=by
 intro i
 induction i with
 | zero=>exact hl
 | succ i ih=>exact z1fa ih (zdw hq i) _
theorem zg0 {w h:Int} {l:LN} (hh:(za3 w h l).2.2.2=true):z1o (za3 w h l).1 (za3 w h l).2.1 (za3 w h l).2.2.1=true:=by
 rw [z4t] at hh ⊢
 cases hv:z1o w h l with
 | false=>rw [hv] at hh;cases hh
 | true=>exact hv
theorem zlt {W Hi:Int} {m:Nat} {g:Nat→LN×Bool} (hh:(z3l W Hi m g).2.2.2=true):z1o (z3l W Hi m g).1 (z3l W Hi m g).2.1 (z3l W Hi m g).2.2.1=true:=by
 unfold z3l at hh ⊢
 cases ha:(List.range m).all (fun i=>(g i).2) with
 | false=>rw [ha] at hh;cases hh
 | true=>rw [ha,cond_true] at hh;rw [cond_true];exact zg0 hh
theorem zno {W Hi:Int} {m:Nat} {g:Nat→LN×Bool} (hh:(z3l W Hi m g).2.2.2=false):z3l W Hi m g=(0,0,[],false):=by
 unfold z3l at hh ⊢
 cases ha:(List.range m).all (fun i=>(g i).2) with
 | false=>rfl
 | true=>
  rw [ha,cond_true] at hh;rw [cond_true]
  rw [z4t] at hh ⊢
  cases hv:z1o W Hi (z5y g m) with
  | false=>rfl
  | true=>rw [hv] at hh;cases hh
theorem z16q {q:PicT} (h:q.2.2.2=false→q=(0,0,[],false)):z6a q (fun a b l=>(a,b,l,true))=q:=by
 obtain ⟨q1,q2,q3,q4⟩:=q
 cases q4 with
 | false=>exact (h rfl).symm
 | true=>rfl
theorem zcn {w h:Int} {g:Int→Int→Nat} (h1:1≤w) (h2:w≤16) (h3:1≤h) (h4:h≤16) (hg:∀u v:Int,fin .f32 (g u v)=true):z9n w h g=(w,h,picL w.toNat h.toNat g,true)∧z1o w h (picL w.toNat h.toNat g)=true:=by
 have hf:(picL w.toNat h.toNat g).all (fin .f32)=true:=List.all_eq_true.2 fun z hz=>by
  obtain ⟨u,v,_,_,rfl⟩:=z15w hz
  exact hg _ _
 have e3:z1o w h (picL w.toNat h.toNat g)=true:=by
  refine zj1 h1 h2 h3 h4 ?_ hf
  rw [z2u,Int.natCast_mul,Int.toNat_of_nonneg ω2,Int.toNat_of_nonneg ω2,Int.mul_comm]
 refine ⟨?_,e3⟩
 unfold z9n
 rw [z1q h1 h2,z1q h3 h4,cond_true,cond_true,z4t,e3]
 rfl
theorem zz6 {W Hi:Int} {l:LN} (hv:z1o W Hi l=true):z1v W Hi l=(Hi,W,picL Hi.toNat W.toNat (zj0 l W))∧z8j W Hi l=(Hi,W,picL Hi.toNat W.toNat (zj0 l W),true)∧z1o Hi W (picL Hi.toNat W.toNat (zj0 l W))=true:=by
 obtain ⟨h1,h2,h3,h4,h5,_⟩:=f8z_t hv
 have hf:=z9s hv
 obtain ⟨a,b⟩:=zcn (w:=Hi) (h:=W) (g:=zj0 l W) h3 h4 h1 h2 fun u v=>zdw hf _
 refine ⟨zgh W Hi l h1 h3,?_,b⟩
 unfold z8j
 rw [hv,cond_true]
 exact a
theorem zkr {W Hi:Int} {l:LN} (hv:z1o W Hi l=true) {x y w h:Int} (h1:0≤x) (h2:0≤y) (h3:1≤w) (h4:1≤h) (h5:x+w≤W) (h6:y+h≤Hi):z8s W Hi l x y w h=true:=by
 have hb:=f8z_t hv
 rw [zei,hv,cond_true,z1q h1 ω2,cond_true,z1q h2 ω2,cond_true,zp (n:=W-x) ω2 ω2,zp (n:=Hi-y) ω2 ω2,z1q h3 ω2,cond_true,z1q h4 ω2]
theorem z12m {W Hi:Int} {l:LN} (hv:z1o W Hi l=true) {x y w h:Int} (h1:0≤x) (h2:0≤y) (h3:1≤w) (h4:1≤h) (h5:x+w≤W) (h6:y+h≤Hi):
  z9m W Hi l x y w h=(w,h,picL w.toNat h.toNat (z5p l x y W),true)∧z1o w h (picL w.toNat h.toNat (z5p l x y W))=true:=by
 have hb:=f8z_t hv
 have hf:=z9s hv
 obtain ⟨a,b⟩:=zcn (w:=w) (h:=h) (g:=z5p l x y W) h3 ω2 h4 ω2 fun u v=>zdw hf _
 refine ⟨?_,b⟩
 unfold z9m
 rw [zkr hv h1 h2 h3 h4 h5 h6,cond_true]
 exact a
theorem z1kp {W Hi:Int} {l:LN} (hv:z1o W Hi l=true) {w h:Int} {q:LN} (hq:z1o w h q=true) (h5:w≤W) (h6:h≤Hi):
  zap W Hi l w h q 0 0=(W,Hi,putS l q W w 0 0 (w*h).toNat,true)∧z1o W Hi (putS l q W w 0 0 (w*h).toNat)=true:=by
 obtain ⟨h1,h2,h3,h4,hl,_⟩:=f8z_t hv
 obtain ⟨g1,g2,g3,g4,hql,_⟩:=f8z_t hq
 refine ⟨?_,zj1 h1 h2 h3 h4 (by rw [z8l];exact hl) (z15y (z9s hv) (z9s hq) _ _ _ _ _)⟩
 unfold zap
 rw [hq,zkr hv (Int.le_refl 0) (Int.le_refl 0) g1 g3 ω2 ω2,cond_true,cond_true]
 obtain ⟨n,rfl⟩:∃n:Nat,w=(n:Int):=⟨w.toNat,by omega⟩
 obtain ⟨m,rfl⟩:∃m:Nat,h=(m:Int):=⟨h.toNat,by omega⟩
 have hql':q.length=m*n:=by rw [Nat.mul_comm];rw [←Int.natCast_mul] at hql;omega
 rw [Int.toNat_natCast,z16b ω2 (Int.le_refl 0) (Int.le_refl 0) ω2 hql' m (Nat.le_refl _),←Int.natCast_mul,Int.toNat_natCast,Nat.mul_comm m n]
def z4a (R M:Int→Int→LN→PicT):Prop:=∀W Hi l,z1o W Hi l=true→R W Hi l=M W Hi l∧((M W Hi l).2.2.2=false→M W Hi l=(0,0,[],false))∧((M W Hi l).2.2.2=true→(M W Hi l).1=W∧(M W Hi l).2.1=Hi∧z1o W Hi (M W Hi l).2.2.1=true)
theorem z4a.congr {R M M':Int→Int→LN→PicT} (h:z4a R M) (e:∀W Hi l,z1o W Hi l=true→M' W Hi l=M W Hi l):z4a R M':=fun W Hi l hv=>by rw [e W Hi l hv];exact h W Hi l hv
def colsS (M:Int→Int→LN→PicT) (W Hi:Int) (l:LN):PicT:=z6a (M (z1v W Hi l).1 (z1v W Hi l).2.1 (z1v W Hi l).2.2) fun a b c=>((z1v a b c).1,(z1v a b c).2.1,(z1v a b c).2.2,true)
theorem zjr {R M:Int→Int→LN→PicT} (h:z4a R M):z4a (z6n R) (colsS M):=by
 intro W Hi l hv
 obtain ⟨s1,s2,s3⟩:=zz6 hv
 obtain ⟨r1,r2,r3⟩:=h _ _ _ s3
 unfold z6n colsS
 rw [s1,s2,z1u rfl]
 dsimp only
 rw [r1]
 generalize hq:M Hi W (picL Hi.toNat W.toNat (zj0 l W))=q at *
 obtain ⟨q1,q2,q3,q4⟩:=q
 dsimp only at r2 r3 ⊢
 cases q4 with
 | false=>exact ⟨rfl,fun _=>rfl,fun h=>by cases h⟩
 | true=>
  obtain ⟨d1,d2,d3⟩:=r3 rfl
  subst d1 d2
  obtain ⟨t1,t2,t3⟩:=zz6 d3
  rw [z1u rfl,z1u rfl]
  dsimp only
  rw [t1,t2]
  refine ⟨rfl,?_,?_⟩
  ·intro h;cases h
  ·intro _;exact ⟨rfl,rfl,t3⟩
theorem zz9 {R M R' M':Int→Int→LN→PicT} (h:z4a R M) (h':z4a R' M'):z4a (fun W Hi l=>z6a (R W Hi l) R') (fun W Hi l=>z6a (M W Hi l) M'):=by
 intro W Hi l hv
 obtain ⟨r1,r2,r3⟩:=h _ _ _ hv
 dsimp only
 rw [r1]
 generalize M W Hi l=q at *
 obtain ⟨q1,q2,q3,q4⟩:=q
 dsimp only at r2 r3 ⊢
 cases q4 with
 | false=>exact ⟨rfl,fun _=>rfl,fun h=>by cases h⟩
 | true=>
  obtain ⟨d1,d2,d3⟩:=r3 rfl
  subst d1 d2
  rw [z1u rfl,z1u rfl]
  exact h' _ _ _ d3
theorem zyj {ch Q:Int→Int→LN→PicT} (hc:z4a ch Q) {W Hi w h:Int} {l:LN} (hv:z1o W Hi l=true) (h1:1≤w) (h2:w≤W) (h3:1≤h) (h4:h≤Hi):
  z5w ch W Hi l w h=z8k Q W Hi l w h∧((z8k Q W Hi l w h).2.2.2=true→(z8k Q W Hi l w h).1=W∧(z8k Q W Hi l w h).2.1=Hi∧z1o W Hi (z8k Q W Hi l w h).2.2.1=true):=by
 obtain ⟨c1,c2⟩:=z12m hv (x:=0) (y:=0) (w:=w) (h:=h) (Int.le_refl 0) (Int.le_refl 0) h1 h3 ω2 ω2
 obtain ⟨r1,r2,r3⟩:=hc _ _ _ c2
 unfold z5w z8k
 rw [c1,z1u rfl]
 dsimp only
 rw [r1]
 generalize Q w h (picL w.toNat h.toNat (z5p l 0 0 W))=q at *
 obtain ⟨q1,q2,q3,q4⟩:=q
 dsimp only at r2 r3 ⊢
 cases q4 with
 | false=>exact ⟨rfl,fun h=>by cases h⟩
 | true=>
  obtain ⟨d1,d2,d3⟩:=r3 rfl
  subst d1 d2
  rw [z1u rfl]
  dsimp only
  obtain ⟨p1,p2⟩:=z1kp hv d3 h2 h4
  exact ⟨p1,fun _=>⟨rfl,rfl,p2⟩⟩
theorem zs1 {f g:Nat→Int→Int→LN→PicT} {W Hi:Int} (h:∀k l,z1o W Hi l=true→f k W Hi l=g k W Hi l∧((g k W Hi l).2.2.2=true→(g k W Hi l).1=W∧(g k W Hi l).2.1=Hi∧z1o W Hi (g k W Hi l).2.2.1=true)):∀(n k:Nat) (l:LN),z1o W Hi l=true→z2e f n k W Hi l=z2e g n k W Hi l∧((z2e g n k W Hi l).2.2.2=true→(z2e g n k W Hi l).1=W∧(z2e g n k W Hi l).2.1=Hi∧z1o W Hi (z2e g n k W Hi l).2.2.1=true):=by
 intro n
 induction n with
 | zero=>intro k l hv;exact ⟨rfl,fun _=>⟨rfl,rfl,hv⟩⟩
 | succ n ih=>
  intro k l hv
  obtain ⟨a,b⟩:=h k l hv
  rw [z5d,z5d,a]
  generalize g k W Hi l=q at *
  obtain ⟨q1,q2,q3,q4⟩:=q
  dsimp only at b
  cases q4 with
  | false=>exact ⟨rfl,fun h=>by cases h⟩
  | true=>
   obtain ⟨d1,d2,d3⟩:=b rfl
   subst d1 d2
   rw [z1u rfl,z1u rfl]
   exact ih _ _ d3
theorem z8d {ws:LN} {sc:Nat} (hs:z7h ws sc=true):z4a (z2f ws sc) (fun W Hi l=>z2n ws sc W Hi l false):=by
 intro W Hi l hv
 obtain ⟨h1,h2,h3,h4,h5,_⟩:=f8z_t hv
 have e1:z2f ws sc W Hi l=z2n ws sc W Hi l false:=by
  show z2z ws sc W Hi l=_
  rw [zng hs hv,zen]
  rfl
 have e2:z2f ws sc W Hi l=z3l W Hi Hi.toNat (fun y=>za2 (z1t l W y) ws sc):=by
  show z2z ws sc W Hi l=_
  rw [zbi]
  show z5r ws sc W Hi l 1=_
  unfold z5r
  rw [hs,hv];rfl
 dsimp only
 refine ⟨e1,?_,fun h=>?_⟩
 ·rw [←e1,e2];exact zno
 ·obtain ⟨d1,d2,d3⟩:=z8b h1 h3 h5 h
  refine ⟨d1,d2,?_⟩
  have hq:(z3l W Hi Hi.toNat (fun y=>za2 (z1t l W y) ws sc)).2.2.2=true:=by rw [←e2,e1];exact h
  have v:=zlt hq
  rw [←e2,e1,d1,d2] at v
  exact v
theorem zyk {ws:LN} {sc:Nat} {R:Int→Int→LN→PicT} (h:z4a R (fun W Hi l=>z2n ws sc W Hi l false)) {W Hi:Int} {l:LN} (hv:z1o W Hi l=true):z2e (z6o ws sc false) 2 0 W Hi l=z6a (z2n ws sc W Hi l false) (colsS (fun W Hi l=>z2n ws sc W Hi l false)):=by
 obtain ⟨_,_,r3⟩:=h _ _ _ hv
 dsimp only at r3
 rw [z5d,show z6o ws sc false 0 W Hi l=z2n ws sc W Hi l false from rfl]
 generalize z2n ws sc W Hi l false=q at *
 obtain ⟨q1,q2,q3,q4⟩:=q
 cases q4 with
 | false=>rfl
 | true=>
  obtain ⟨d1,d2,d3⟩:=r3 rfl
  dsimp only at d1 d2 d3
  subst d1 d2
  rw [z1u rfl,z1u rfl]
  exact z16q ((zjr h) _ _ _ d3).2.1
theorem zrd {ws:LN} {sc:Nat} (hs:z7h ws sc=true):z4a (zc5 (z2f ws sc)) (fun W Hi l=>z2e (z6o ws sc false) 2 0 W Hi l):=
 (zz9 (z8d hs) (zjr (z8d hs))).congr fun _ _ _ hv=>zyk (z8d hs) hv
theorem ze4 {ws:LN} {sc:Nat} {W Hi:Int} {l:LN} {levels:Int} (hs:z7h ws sc=true) (hv:z1o W Hi l=true):z2e (z7b ws sc W Hi levels) levels.toNat 0 W Hi l=z3i ws sc W Hi l levels∧((z3i ws sc W Hi l levels).2.2.2=true→(z3i ws sc W Hi l levels).1=W∧(z3i ws sc W Hi l levels).2.1=Hi∧z1o W Hi (z3i ws sc W Hi l levels).2.2.1=true):=by
 obtain ⟨h1,h2,h3,h4,h5,_⟩:=f8z_t hv
 refine zs1 (g:=fun (k:Nat) a b l=>zmc ws sc W Hi false (k:Int) a b l) (fun k l hv=>?_) levels.toNat 0 l hv
 have rw1:=z4f k W h1 h2
 have rh1:=z4f k Hi h3 h4
 have e1:z1b W (k:Int)=z6k k W:=by rw [zag W _ h1 h2,Int.toNat_natCast]
 have e2:z1b Hi (k:Int)=z6k k Hi:=by rw [zag Hi _ h3 h4,Int.toNat_natCast]
 have e3:zr W Hi (k:Int)=(z6k k W,z6k k Hi):=by rw [z6s W Hi _ h1 h2 h3 h4,Int.toNat_natCast]
 have:=zyj (zrd hs) hv rw1.1 rw1.2 rh1.1 rh1.2
 show z5w (zc5 (z2f ws sc)) W Hi l (z1b W (k:Int)) (z1b Hi (k:Int))=z8k (fun W Hi l=>z2e (z6o ws sc false) 2 0 W Hi l) W Hi l (zr W Hi (k:Int)).1 (zr W Hi (k:Int)).2∧((z8k (fun W Hi l=>z2e (z6o ws sc false) 2 0 W Hi l) W Hi l (zr W Hi (k:Int)).1 (zr W Hi (k:Int)).2).2.2.2=true→(z8k (fun W Hi l=>z2e (z6o ws sc false) 2 0 W Hi l) W Hi l (zr W Hi (k:Int)).1 (zr W Hi (k:Int)).2).1=W∧(z8k (fun W Hi l=>z2e (z6o ws sc false) 2 0 W Hi l) W Hi l (zr W Hi (k:Int)).1 (zr W Hi (k:Int)).2).2.1=Hi∧z1o W Hi (z8k (fun W Hi l=>z2e (z6o ws sc false) 2 0 W Hi l) W Hi l (zr W Hi (k:Int)).1 (zr W Hi (k:Int)).2).2.2.1=true)
 rw [e1,e2,e3]
 exact this
theorem zr5 {ws:LN} {sc:Nat} {W Hi:Int} {l:LN} (hh:(z5c ws sc W Hi l 1).2.2.2=true):1≤W∧W≤16∧1≤Hi∧Hi≤16∧(l.length:Int)=W*Hi∧(z5c ws sc W Hi l 1).1=W∧(z5c ws sc W Hi l 1).2.1=Hi∧(z5c ws sc W Hi l 1).2.2.1.length=l.length:=by
 unfold z5c at hh ⊢
 cases hs:z7h ws sc with
 | false=>rw [hs] at hh;cases hh
 | true=>
  cases hv:z1o W Hi l with
  | false=>rw [hs,hv] at hh;cases hh
  | true=>
   have e:zfu 1=true:=rfl
   rw [hs,hv,e,cond_true,cond_true,cond_true] at hh
   rw [e,cond_true,cond_true,cond_true]
   obtain ⟨h1,h2,h3,h4,h5,_⟩:=f8z_t hv
   obtain ⟨a,b⟩:=ze4 (levels:=1) hs hv
   rw [a] at hh ⊢
   obtain ⟨c,d,f⟩:=b hh
   obtain ⟨_,_,_,_,g5,_⟩:=f8z_t f
   refine ⟨h1,h2,h3,h4,h5,c,d,?_⟩
   omega
theorem zl0 {W Hi:Int} {l:LN} {count:Int} (h1:1≤W) (h2:W≤16) (h3:1≤Hi) (h4:Hi≤16) (hh:(z3a W Hi l count).2.2=true):∃rh:Int,1≤count∧count≤16∧0≤(z3a W Hi l count).1∧1≤(z3a W Hi l count).2.1∧1≤rh∧(z3a W Hi l count).1+(z3a W Hi l count).2.1≤W∧rh≤Hi∧count≤(z3a W Hi l count).2.1*rh:=by
 have z:=z8c W Hi 1 1 ⟨h1,h2,h3,h4⟩
 rw [zej,zf0 h1 h2 h3 h4 ω20 ω20 ω20 ω20] at hh ⊢
 generalize z1p W Hi 1 1=r at *
 obtain ⟨rx,ry,rw_,rh⟩:=r
 dsimp only at z hh ⊢
 rw [cond_true] at hh ⊢
 cases hw:z2c count 1 16 with
 | false=>rw [hw] at hh;cases hh
 | true=>
  rw [hw,cond_true] at hh
  rw [cond_true]
  have v:=z3g hw
  have m1:0≤rw_*rh:=Int.mul_nonneg z.2.2.1 z.2.2.2.1
  have m2:rw_*rh≤16*16:=Int.mul_le_mul ω2 ω2 z.2.2.2.1 ω20
  dsimp only at hh ⊢
  rw [zp (n:=rw_*rh) ω2 ω2] at hh
  have hc:=odt hh
  have hw1:1≤rw_:=by
   by_cases h0:rw_=0
   ·rw [h0,Int.zero_mul] at hc;omega
   ·omega
  have hh1:1≤rh:=by
   by_cases h0:rh=0
   ·rw [h0,Int.mul_zero] at hc;omega
   ·omega
  exact ⟨rh,v.1,v.2,z.1,hw1,hh1,z.2.2.2.2.1,by omega,hc⟩
theorem zyo {x:Nat} (hw:Wd .f32 x):p_fhz x=okQ x:=by
 show fle .f32 (zln x) 1232348160=okQ x
 unfold zln okQ
 rcases hw.cases with hf | rfl | rfl | rfl
 ·have hc:fin .f32 1232348160=true:=by decide+kernel
  have hn:sv .f32 3379831808=- sv .f32 1232348160:=by
   have:=zz4 hc
   rwa [show fneg .f32 1232348160=3379831808 by decide+kernel] at this
  have hnf:fin .f32 3379831808=true:=by decide+kernel
  have hp:0<sv .f32 1232348160:=by decide+kernel
  generalize hA:sv .f32 1232348160=A at *
  rw [z1ef hf (zb7 _),z1ed hf (zb7 _),znx,zah hf hc,zah hnf hf,hn,hA]
  by_cases c1:sv .f32 x<0
  ·rw [dct c1,cond_true,zah (zx8 hf) hc,zz4 hf,hA]
   rw [dct (show sv .f32 x≤A by omega)]
   by_cases c3:- A≤sv .f32 x
   ·rw [dct c3,cond_true,dct (show-sv .f32 x≤A by omega)]
   ·rw [dcf c3,cond_false,dcf (show ¬- sv .f32 x≤A by omega)]
  ·rw [dcf c1,cond_false]
   by_cases c2:sv .f32 x=0
   ·rw [dct c2,cond_true,zah (zb7 _) hc,znx,c2,hA]
    rw [dct (show (0:Int)≤A by omega),dct (show-A≤0 by omega),cond_true]
   ·rw [dcf c2,cond_false,zah hf hc,hA,dct (show-A≤sv .f32 x by omega),cond_true]
 ·decide+kernel
 ·decide+kernel
 ·decide+kernel
def zlp (ma:LN) (bb:Nat) (fa ia:Int) (da:LN) (count:Int) (size:Nat):ByteArray×Bool:=
 bif !((z5c ma bb fa ia da 1).2.2.2) then ((⟨#[]⟩:ByteArray),false) else (bif !((z3a fa ia da count).2.2) then ((⟨#[]⟩:ByteArray),false) else (bif !(zck size) then ((⟨#[]⟩:ByteArray),false) else z8z count.toNat (fun k=>okQ (fdiv .f32 (z4i (z5c ma bb fa ia da 1).2.2.1 fa (z3a fa ia da count).1 0 (z3a fa ia da count).2.1 k) size)) (fun k=>bitS (numS (fdiv .f32 (z4i (z5c ma bb fa ia da 1).2.2.1 fa (z3a fa ia da count).1 0 (z3a fa ia da count).2.1 k) size)))))
theorem zpt (ma:LN) (bb:Nat) (fa ia:Int) (da:LN) (count:Int) (size:Nat):zlp ma bb fa ia da count size=
 (bif !((z5c ma bb fa ia da 1).2.2.2) then ((⟨#[]⟩:ByteArray),false) else (bif !((z3a fa ia da count).2.2) then ((⟨#[]⟩:ByteArray),false) else (bif !(zck size) then ((⟨#[]⟩:ByteArray),false) else z8z count.toNat (fun k=>okQ (fdiv .f32 (z4i (z5c ma bb fa ia da 1).2.2.1 fa (z3a fa ia da count).1 0 (z3a fa ia da count).2.1 k) size)) (fun k=>bitS (numS (fdiv .f32 (z4i (z5c ma bb fa ia da 1).2.2.1 fa (z3a fa ia da count).1 0 (z3a fa ia da count).2.1 k) size)))))):=rfl
def T_flz (gb:OA) (mb pb bb:Nat) (fa ia:Int) (ja:OA) (sa ya:Nat) (count:Int) (size:Nat) (H:zn) (K:ByteArray→Bool→zn→Prop):Prop:=
 ∃(ma da:LN),IsL fF H gb mb ma∧IsL fF H ja sa da∧ma.length<1073741824∧da.length<1073741824∧
  (∀H':zn,Grow H H'→K (zlp ma bb fa ia da count size).1 (zlp ma bb fa ia da count size).2 H')
theorem z1br {gb:OA} {mb pb bb:Nat} {fa ia:Int} {ja:OA} {sa ya:Nat} {count:Int} {size:Nat} {H:zn} {K:ByteArray→Bool→zn→Prop} (h:∃(ma da:LN),IsL fF H gb mb ma∧IsL fF H ja sa da∧ma.length<1073741824∧da.length<1073741824∧
  (∀H':zn,Grow H H'→K (zlp ma bb fa ia da count size).1 (zlp ma bb fa ia da count size).2 H')):T_flz gb mb pb bb fa ia ja sa ya count size H K:=h
def zfe:Env:=envOf [(21,S_fbz),(90,z18p),(91,zuu),(92,S_fhz),(93,z19i)]
def F_flz (args:List Value) (H:zn):(Value→zn→Prop)→Prop:=match args with
 | [.agg ⟨[.slice gb mb pb,.float .f32 bb]⟩,.agg ⟨[.int .i64 fa,.int .i64 ia,.slice ja sa ya]⟩,.int .i64 count,.float .f32 size]=>fun K=>T_flz gb mb pb bb fa ia ja sa ya count size H fun (r1:ByteArray) (r2:Bool) (H':zn)=>K (.tuple #[.string r1,.bool r2]) H'
 | _=>fun _=>False
def S_flz:FSpec:={F:=F_flz,quiet:=false,tame:=false}
theorem z1j1 (gb:OA) (mb pb bb:Nat) (fa ia:Int) (ja:OA) (sa ya:Nat) (count:Int) (size:Nat) (H:zn) (K:KT):zt Tryz.prog zfe Tryz.f41 [.agg #[.slice gb mb pb,.float .f32 bb],.agg #[.int .i64 fa,.int .i64 ia,.slice ja sa ya],.int .i64 count,.float .f32 size] H K=
 (Al [.slice gb mb pb,.float .f32 bb] H fun b1 H1=>Al [.int .i64 fa,.int .i64 ia,.slice ja sa ya] H1 fun b2 H2=>∃ui:OA,∃(wi vi c2:Nat),  rdN H2 b1 0 2=some [.slice ui wi vi,.float .f32 c2]∧∃(c3 c4:Int),∃lj:OA,∃(nj mj:Nat),  rdN H2 b2 0 3=some [.int .i64 c3,.int .i64 c4,.slice lj nj mj]∧T_fbz ui wi vi c2 c3 c4 lj nj mj 1 H2 fun (r1:Int) (r2:Int) (a1:OA) (r3:Nat) (r4:Nat) (r5:Bool) (H3:zn)=>Al [.int .i64 0,.int .i64 0,.slice none 0 0] H3 fun b3 H4=>isOwn H4 b3∧(∃l,rdN H4 b3 0 3=some l)∧Lt (setN H4 b3 0 [.int .i64 r1,.int .i64 r2,.slice a1 r3 r4]) fun H5=>∃(c6 c7:Int),∃pj:OA,∃(rj qj:Nat),  rdN H5 b2 0 3=some [.int .i64 c6,.int .i64 c7,.slice pj rj qj]∧zo9 c6 c7 pj rj qj count H5 fun (r6:Int) (r7:Int) (r8:Bool) (H6:zn)=>Br (!r5) (K (.tuple #[.string (⟨#[]⟩:ByteArray),.bool false]) H6) (Br (!r8) (K (.tuple #[.string (⟨#[]⟩:ByteArray),.bool false]) H6) (zg7 size H6 fun (r9:Bool) (H7:zn)=>Br (!r9) (K (.tuple #[.string (⟨#[]⟩:ByteArray),.bool false]) H7) (Al [] H7 fun b4 H8=>z1j (exL Tryz.prog zfe (cl (cl (cr (cl (cr (cr (cr (cr (cr (zo Tryz.f41)))))))))) 26388279112744 768 [(0,32768)]) (ud3 (.float .f32 size::ud::.pointer (some ⟨b2,0,none⟩)::ud4 (.pointer (some ⟨b3,0,none⟩)::ud::.int .i64 r6::.int .i64 r7::ud::.slice (some ⟨b4,0,none⟩) 0 1::ud27 (.int .i64 count::.int .i64 0::ud36 [])))) H8 (zu 0 (seqQ (exL Tryz.prog zfe (cr (cr (cr (cr (cr (cr (zo Tryz.f41))))))) 768 768 []) (retK Tryz.prog Tryz.f41 K))))))):=by kernel_rfl
abbrev zki (b2 b3:Nat) (count r6 r7:Int) (size:Nat) (tf:OA) (mf ag:Nat) (t44:Int)  :List Value:=(ud3 (.float .f32 size::ud::.pointer (some ⟨b2,0,none⟩)::ud4 (.pointer (some ⟨b3,0,none⟩)::ud::.int .i64 r6::.int .i64 r7::ud::.slice tf mf ag::ud27 (.int .i64 count::.int .i64 t44::ud36 []))))
theorem z1j0 (b2 b3:Nat) (count r6 r7:Int) (size:Nat) (tf:OA) (mf ag:Nat) (t44:Int)  (H:zn) (R:Post):exL Tryz.prog zfe (cl (cl (cr (cl (cr (cr (cr (cr (cr (zo Tryz.f41)))))))))) 26388279112744 768 [(0,32768)] (zki b2 b3 count r6 r7 size tf mf ag t44) H R=
 (Br (decide ((t44:Int)<count)) (∃vg:OA,∃(pg yg:Nat),  rdC H b3 2=some (.slice vg pg yg)∧r7≠(0:Int)∧∃x2:Int,  rdC H b2 0=some (.int .i64 x2)∧r7≠(0:Int)∧(0:Int)≤IntKind.wrap .i64 ((IntKind.wrap .i64 ((IntKind.wrap .i64 ((IntKind.wrap .i64 (Int.tdiv t44 r7))*x2))+r6))+(Int.tmod t44 r7))∧IntKind.wrap .i64 ((IntKind.wrap .i64 ((IntKind.wrap .i64 ((IntKind.wrap .i64 (Int.tdiv t44 r7))*x2))+r6))+(Int.tmod t44 r7))<(pg:Int)∧∃b5 f1,(vg:OA)=some ⟨b5,f1,none⟩∧∃x3:Nat,  rdC H b5 (f1+(IntKind.wrap .i64 ((IntKind.wrap .i64 ((IntKind.wrap .i64 ((IntKind.wrap .i64 (Int.tdiv t44 r7))*x2))+r6))+(Int.tmod t44 r7)):Int).toNat*1)=some (.float .f32 x3)∧zv3 (fdiv .f32 x3 size) H fun (r10:Bool) (H9:zn)=>Br (!r10) (R .ret (ud8 (.string (⟨#[]⟩:ByteArray)::.bool false::ud71 [])) H9) (zjh (fadd .f32 (fdiv .f32 x3 size) 1056964608) H9 fun (r11:Nat) (H10:zn)=>∃n1:Int,ftoi .f32 r11 .i64=some n1∧Al [.int .u8 (IntKind.wrap .u8 (IntKind.wrap .i64 (48+(IntKind.wrap .i64 (((BitVec.ofInt (IntKind.bits .i64) n1 &&& BitVec.ofInt (IntKind.bits .i64) 1).toNat:Int))))))] H10 fun b6 H11=>∃o1 w1:List Value,ownB H11 tf mf ag 1=some o1∧rdS H11 (some ⟨b6,0,none⟩) (1*1)=some w1∧((tf:OA)=none→0<(1:Nat))∧(mf:Nat)+1<most∧Ap H11 (z2s H11 tf++[some ⟨o1++w1,true⟩]) fun b7 H12=>R .normal (ud3 (.float .f32 size::ud::.pointer (some ⟨b2,0,none⟩)::ud4 (.pointer (some ⟨b3,0,none⟩)::ud::.int .i64 r6::.int .i64 r7::ud::.slice (some ⟨b7,0,none⟩) (mf+1) 1::ud27 (.int .i64 count::.int .i64 (IntKind.wrap .i64 (t44+1))::ud36 [])))) H12)) (R (.exit 0) (ud15 (.slice tf mf ag::ud65 [])) H)):=by kernel_rfl
def zxc (b2 b3:Nat) (count r6 r7:Int) (size:Nat) (Inv:Nat→OA→Nat→Nat→Int→zn→Prop):Nat→List Value→zn→Prop:=fun μ tm H=>∃tf:OA,∃(mf ag:Nat),∃t44:Int,tm=(zki b2 b3 count r6 r7 size tf mf ag t44)∧Inv μ tf mf ag t44 H
theorem z1ix (b2 b3:Nat) (count r6 r7:Int) (size:Nat) {Q:Post} (Inv:Nat→OA→Nat→Nat→Int→zn→Prop) (ν:Nat) (tf:OA) (mf ag:Nat) (t44:Int)  (H:zn) (h0:Inv ν tf mf ag t44 H)
  (hs:∀(μ:Nat) (tf:OA) (mf:Nat) (ag:Nat) (t44:Int)  (H:zn),Inv μ tf mf ag t44 H→exL Tryz.prog zfe (cl (cl (cr (cl (cr (cr (cr (cr (cr (zo Tryz.f41)))))))))) 26388279112744 768 [(0,32768)] (zki b2 b3 count r6 r7 size tf mf ag t44) H (zx (zxc b2 b3 count r6 r7 size Inv) μ Q)):z1j (exL Tryz.prog zfe (cl (cl (cr (cl (cr (cr (cr (cr (cr (zo Tryz.f41)))))))))) 26388279112744 768 [(0,32768)]) (zki b2 b3 count r6 r7 size tf mf ag t44) H Q:=
 ⟨zxc b2 b3 count r6 r7 size Inv,ν,⟨tf,mf,ag,t44,rfl,h0⟩,fun μ tm H h=>by obtain ⟨tf,mf,ag,t44,rfl,hI⟩:=h;exact hs μ tf mf ag t44  H hI⟩
theorem z1iy {b2 b3:Nat} {count r6 r7:Int} {size:Nat} {Q:Post} {Inv:Nat→OA→Nat→Nat→Int→zn→Prop} {μ:Nat} (μ':Nat) {tf:OA} {mf ag:Nat} {t44:Int}  {H:zn} (hm:μ'<μ) (hI:Inv μ' tf mf ag t44 H):zx (zxc b2 b3 count r6 r7 size Inv) μ Q .normal (zki b2 b3 count r6 r7 size tf mf ag t44) H:=⟨μ',hm,tf,mf,ag,t44,rfl,hI⟩
theorem z13y (tf:OA) (mf ag:Nat) (H:zn) (K:KT)  {I:Nat→List Value→zn→Prop} {μ:Nat}:zx I μ (zu 0 (seqQ (exL Tryz.prog zfe (cr (cr (cr (cr (cr (cr (zo Tryz.f41))))))) 768 768 []) (retK Tryz.prog Tryz.f41 K))) (.exit 0) (ud15 (.slice tf mf ag::ud65 [])) H=
 (∃l1:List UInt8,rdS H tf mf=some (l1.map fun c=>Value.int .u8 c.toNat)∧K (.tuple #[.string ⟨l1.toArray⟩,.bool true]) H):=by kernel_rfl
theorem zqr (t8:ByteArray) (t9:Bool) (H:zn) (K:KT)  {I:Nat→List Value→zn→Prop} {μ:Nat}:zx I μ (zu 0 (seqQ (exL Tryz.prog zfe (cr (cr (cr (cr (cr (cr (zo Tryz.f41))))))) 768 768 []) (retK Tryz.prog Tryz.f41 K))) .ret (ud8 (.string t8::.bool t9::ud71 [])) H=
 (K (.tuple #[.string t8,.bool t9]) H):=by kernel_rfl
theorem z10b:∀g,FnOkX Tryz.prog (MainCls Tryz.prog) g (zfe g):=FnOkX.envOf (by
 intro x hx
 simp only [List.mem_cons,List.not_mem_nil,or_false] at hx
 rcases hx with rfl | rfl | rfl | rfl | rfl
 ·exact z1hj
 ·exact f18z_ok.le fun _ _ _=>trivial
 ·exact zwr.le fun _ _ _=>trivial
 ·exact z1ii.le fun _ _ _=>trivial
 ·exact f21z_ok.le fun _ _ _=>trivial)
theorem z13x (gb:OA) (mb pb bb:Nat) (fa ia:Int) (ja:OA) (sa ya:Nat) (count:Int) (size:Nat) (H:zn) (K:KT) (h:T_flz gb mb pb bb fa ia ja sa ya count size H fun (r1:ByteArray) (r2:Bool) (H':zn)=>K (.tuple #[.string r1,.bool r2]) H'):zt Tryz.prog zfe Tryz.f41 [.agg #[.slice gb mb pb,.float .f32 bb],.agg #[.int .i64 fa,.int .i64 ia,.slice ja sa ya],.int .i64 count,.float .f32 size] H K:=by
 rw [z1j1]
 obtain ⟨ws,l,iw,il,bw,bl,hk⟩:=h
 obtain rfl:=iw.eqn
 obtain rfl:=il.eqn
 rw [zpt] at hk
 refine Al.intro fun b1 H1 e1 l1 g1 o1=>Al.intro fun b2 H2 e2 l2 g2 o2=>?_
 have G2:Grow H H2:=g1.trans g2
 have p1:=o1.grow g2
 refine ⟨gb,ws.length,pb,bb,(p1.rdN (nbl rfl)).trans rfl,fa,ia,ja,l.length,ya,(o2.rdN (nbl rfl)).trans rfl,?_⟩
 refine z1bl ⟨ws,l,iw.grow G2,il.grow G2,bw,bl,fun a n ne H3 g3 w3=>?_⟩
 have hd:=zr5 (ws:=ws) (sc:=bb) (W:=fa) (Hi:=ia) (l:=l)
 generalize z5c ws bb fa ia l 1=L at *
 have up3:=w3.up
 have gg2:=G2.1
 have gg3:=g3.1
 refine Al.intro fun b3 H4 e4 l4 g4 o4=>Lt.setN o4 (n:=3) ω20 rfl fun H5 l5 o5 k5=>?_
 have G5:Grow H H5:=((G2.trans g3).trans g4).keep ω2 k5
 have p2:=((o2.grow g3).grow g4).keep (b':=b3) (by have:=o2.lt;omega) k5
 have wL:=(w3.grow g4).keepA (fun x y hx hy=>by cases hx;have:=up3 y hy;show b3≠_;omega) (OwnS.keep1 k5)
 refine ⟨fa,ia,ja,l.length,ya,(p2.rdN (nbl rfl)).trans rfl,?_⟩
 refine z10y ⟨l,il.grow G5,bl,fun H6 g6=>?_⟩
 have hm:=fun (h1:1≤fa) (h2:fa≤16) (h3:1≤ia) (h4:ia≤16)=>zl0 (l:=l) (count:=count) h1 h2 h3 h4
 generalize z3a fa ia l count=M at *
 have G6:Grow H H6:=G5.trans g6
 refine Br.intro (fun hp=>?_) (fun hp=>?_)
 ·rw [z1e hp,Bool.not_false,cond_true] at hk
  exact hk H6 G6
 obtain ⟨w1,w2,w3',w4,hll,d1,d2,d3⟩:=hd (z1a hp)
 rw [z1a hp,Bool.not_true,cond_false] at hk
 refine Br.intro (fun hp=>?_) (fun hp=>?_)
 ·rw [z1e hp,Bool.not_false,cond_true] at hk
  exact hk H6 G6
 obtain ⟨rh,v1,v2,z1,z2,z3,z4,z5⟩:=hm w1 w2 w3' w4 (z1a hp)
 rw [z1a hp,Bool.not_true,cond_false] at hk
 refine (?_:Br _ _ _)
 refine Br.intro (fun hp=>?_) (fun hp=>?_)
 ·rw [z1e hp,Bool.not_false,cond_true] at hk
  exact hk H6 G6
 rw [z1a hp,Bool.not_true,cond_false] at hk
 obtain ⟨m,rfl⟩:∃m:Nat,count=(m:Int):=⟨count.toNat,by omega⟩
 rw [Int.toNat_natCast] at hk
 obtain ⟨rx,rw_,mt⟩:=M
 dsimp only at z1 z2 z3 z4 z5 hk ⊢
 have hsm:=z4u (W:=fa) (H:=ia) w1 w2 w3' w4
 have p2':=p2.grow g6
 have o5':=o5.grow g6
 have iL:=(wL.grow g6).isL
 have eL:=wL.len
 subst eL
 refine Al.intro fun b4 H8 e8 l8 g8 o8=>?_
 have o8':Own H8 b4 ((([]:List UInt8)).map (fun c:UInt8=>Value.int .u8 c.toNat)):=o8
 refine z1ix b2 b3 (m:Int) rx rw_ size (fun μ va vn ve t H'=>∃(k bk:Nat),t=(k:Int)∧k≤m∧μ=m-k∧va=some ⟨bk,0,none⟩∧k=vn∧ve=1∧Grow H6 H'∧H6.length≤bk∧Own H' bk (((List.range k).map fun k=>bitS (numS (fdiv .f32 (z4i L.2.2.1 fa rx 0 rw_ k) size))).map (fun c:UInt8=>Value.int .u8 c.toNat))∧∀j,j<k→okQ (fdiv .f32 (z4i L.2.2.1 fa rx 0 rw_ j) size)=true) m _ _ _ 0 H8
  ⟨0,b4,rfl,Nat.zero_le _,rfl,rfl,rfl,rfl,g8,by omega,o8',fun j hj=>absurd hj (Nat.not_lt_zero _)⟩ ?_
 intro μ va vn ve t H' hI
 obtain ⟨k,bk,rfl,hkn,rfl,rfl,rfl,rfl,gH,hbk,ob,hok⟩:=hI
 have G':Grow H H':=G6.trans gH
 have q2:=p2'.grow gH
 have q5:=o5'.grow gH
 rw [z1j0]
 refine Br.intro (fun hd=>?_) (fun hd=>?_)
 ·have hd':=odt hd
  obtain ⟨c1,c2,c3,c4,c5,c6,c7⟩:=zhw (x:=rx) (y:=0) (W:=fa) (H:=ia) (w:=rw_) (h:=rh) (i:=(k:Int)) z1 (Int.le_refl 0) z2 z3 z4 ω2 w2 w4 ω2 ω2
  rw [Int.zero_add] at c5 c6
  rw [show IntKind.wrap .i64 ((k:Int)+1)=(k:Int)+1 from zp ω2 ω2]
  obtain ⟨bq,oq,eq⟩:=iL.pos ω2
  refine ⟨_,_,_,(q5.rdC 2).trans rfl,by omega,fa,(q2.rdC 0).trans rfl,by omega,?_⟩
  rw [show IntKind.wrap .i64 (Int.tdiv (k:Int) rw_)=Int.tdiv (k:Int) rw_ from zp ω2 ω2,show IntKind.wrap .i64 (Int.tdiv (k:Int) rw_*fa)=Int.tdiv (k:Int) rw_*fa from zp ω2 ω2,show IntKind.wrap .i64 (Int.tdiv (k:Int) rw_*fa+rx)=Int.tdiv (k:Int) rw_*fa+rx from zp ω2 ω2,show IntKind.wrap .i64 (Int.tdiv (k:Int) rw_*fa+rx+Int.tmod (k:Int) rw_)=Int.tdiv (k:Int) rw_*fa+rx+Int.tmod (k:Int) rw_ from zp ω2 ω2]
  have em:z4i L.2.2.1 fa rx 0 rw_ k=L.2.2.1.getD (Int.tdiv (k:Int) rw_*fa+rx+Int.tmod (k:Int) rw_).toNat 0:=by unfold z4i;rw [Int.zero_add]
  refine ⟨by omega,by omega,bq,oq,eq,z4i L.2.2.1 fa rx 0 rw_ k,by rw [em];exact iL.rd gH eq ω2 0,?_⟩
  refine z1bq ?_
  rw [zyo (Wd.div _ _ _)]
  cases ho:okQ (fdiv .f32 (z4i L.2.2.1 fa rx 0 rw_ k) size) with
  | false=>
   refine Br.intro (fun _=>?_) (fun h=>by cases h)
   rw [zqr]
   rw [zgj (k:=k) ω2 ho] at hk
   exact hk _ G'
  | true=>
   refine Br.intro (fun h=>by cases h) (fun _=>?_)
   refine z11r ?_
   refine ⟨numS (fdiv .f32 (z4i L.2.2.1 fa rx 0 rw_ k) size),zy4 ho,?_⟩
   rw [zvh]
   have nx:∀j,j<k+1→okQ (fdiv .f32 (z4i L.2.2.1 fa rx 0 rw_ j) size)=true:=fun j hj=>by
    rcases Nat.lt_succ_iff_lt_or_eq.1 hj with h | rfl
    ·exact hok j h
    ·exact ho
   refine Al.intro fun b6 H11 e11 l11 g11 o11=>?_
   have o11':Own H11 b6 ([bitS (numS (fdiv .f32 (z4i L.2.2.1 fa rx 0 rw_ k) size))].map (fun c:UInt8=>Value.int .u8 c.toNat)):=o11
   have ob1:=ob.grow g11
   refine ⟨_,_,ob1.ownB ω32 rfl,z2h (o11'.isL rfl),(fun h=>by cases h),Nat.lt_of_lt_of_le (show k+1<18 by omega) ω20,?_⟩
   refine Ap.app ob1 rfl rfl (fun b7 H12 e12 l12 o12 k12=>?_)
   have o12':=z2a o12
   have gg11:=(gH.trans g11)
   have gl:=gg11.1
   have es:(List.range (k+1)).map (fun k=>bitS (numS (fdiv .f32 (z4i L.2.2.1 fa rx 0 rw_ k) size)))=(List.range k).map (fun k=>bitS (numS (fdiv .f32 (z4i L.2.2.1 fa rx 0 rw_ k) size)))++[bitS (numS (fdiv .f32 (z4i L.2.2.1 fa rx 0 rw_ k) size))]:=by rw [List.range_succ,List.map_append];rfl
   rw [←es] at o12'
   exact z1iy (m-(k+1)) ω2 ⟨k+1,b7,by omega,by omega,rfl,rfl,rfl,rfl,gg11.keep hbk k12,by omega,o12',nx⟩
 ·have hd':=odf hd
  obtain rfl:k=m:=by omega
  rw [z13y]
  rw [ze6 hok] at hk
  exact ⟨_,ob.isL ω32,hk _ G'⟩
theorem z1iz:FnOkX Tryz.prog (MainCls Tryz.prog) 41 S_flz:=FnOkX.bodyF (hLt:=fun _=>z3h) mix_ok z10b Tryz.func41 rfl ω9 ω9 fun args H=>by
 unfold F_flz
 split
 ·refine ⟨?_,?_,?_,?_,fun K hk=>z13x _ _ _ _ _ _ _ _ _ _ _ H K hk⟩
  ·intro K K' h hk;obtain ⟨ws,l,i1,i2,b1,b2,k⟩:=hk;exact ⟨ws,l,i1,i2,b1,b2,(fun H' gg=>h _ _ (k H' gg))⟩
  ·nofun
  ·intro K hk;obtain ⟨ws,l,i1,i2,b1,b2,k⟩:=hk;exact ⟨_,_,k _ (Grow.refl _)⟩
  ·nofun
 ·exact Nice.no
def znn (a b:Nat):Bool:=((bif !(feq .f64 a a) then (bif !(feq .f64 a a) then !(feq .f64 b b) else false) else (bif !(feq .f64 b b) then (bif !(feq .f64 a a) then !(feq .f64 b b) else false) else (bif feq .f64 a 0 then (bif feq .f64 b 0 then (flt .f64 0 (fdiv .f64 4607182418800017408 a))==(flt .f64 0 (fdiv .f64 4607182418800017408 b)) else feq .f64 a b) else feq .f64 a b))))
def z15t:=@znn.eq_1
def zqb (a b:Nat) (H:zn) (K:Bool→zn→Prop):Prop:=K (znn a b) H

theorem zve {a b:Nat} {H:zn} {K:Bool→zn→Prop} (h:K (znn a b) H):zqb a b H K:=h
def E_frz:Env:=envOf []
def F_frz (args:List Value) (H:zn):(Value→zn→Prop)→Prop:=match args with
 | [.float .f64 a,.float .f64 b]=>fun K=>zqb a b H fun (r1:Bool) (H':zn)=>K (.bool r1) H'
 | _=>fun _=>False
def S_frz:FSpec:={F:=F_frz,quiet:=true,tame:=false}
theorem z1jl (a b:Nat) (H:zn) (K:KT):zt Tryz.prog E_frz Tryz.f59 [.float .f64 a,.float .f64 b] H K=
 (Br (!(feq .f64 a a)) (Br (!(feq .f64 a a)) (K (.bool (!(feq .f64 b b))) H) (K (.bool false) H)) (Br (!(feq .f64 b b)) (Br (!(feq .f64 a a)) (K (.bool (!(feq .f64 b b))) H) (K (.bool false) H)) (Br (feq .f64 a 0) (Br (feq .f64 b 0) (K (.bool ((flt .f64 0 (fdiv .f64 4607182418800017408 a))==(flt .f64 0 (fdiv .f64 4607182418800017408 b)))) H) (K (.bool (feq .f64 a b)) H)) (K (.bool (feq .f64 a b)) H)))):=by kernel_rfl
theorem z10h:∀g,FnOk Tryz.prog g (E_frz g):=FnOk.envOf (by
 intro x hx;cases hx)
theorem z14l (a b:Nat) (H:zn) (K:KT) (h:zqb a b H fun (r1:Bool) (H':zn)=>K (.bool r1) H'):zt Tryz.prog E_frz Tryz.f59 [.float .f64 a,.float .f64 b] H K:=by
 rw [z1jl]
 unfold zqb znn at h
 repeat' (first | exact h | (exfalso;simp_all;done) | (refine ⟨by decide,?_⟩) | (refine Br.intro (fun hb=>?_) (fun hb=>?_)<;>(try simp only [hb,cond_true,cond_false,Bool.not_true,Bool.not_false] at h)))
theorem z1a3:FnOk Tryz.prog 59 S_frz:=FnOk.bodyF mix_ok z10h Tryz.func59 rfl ω9 ω9 fun args H=>by
 unfold F_frz
 split
 ·refine ⟨?_,?_,?_,?_,fun K hk=>z14l _ _ H K hk⟩
  ·intro K K' h hk;have k:=hk;exact h _ _ k
  ·intro _ K hk;have k:=hk;exact ⟨_,k,fun K' k'=>k'⟩
  ·intro K hk;have k:=hk;exact ⟨_,_,k⟩
  ·nofun
 ·exact Nice.no

def zbp (l_a l_b:LN):Nat→Bool→Int→Bool
 | 0,_,_=>false
 | μ+1,t4,i=>(bif decide ((i:Int)<(l_a.length:Int)) then (bif !((znn (z2m (((l_a).getD (i:Int).toNat 0))) (z2m (((l_b).getD (i:Int).toNat 0))))) then false else (zbp l_a l_b μ t4 (i+1))) else true)
def zgx:=fun l_a l_b μ t4 i=>@zbp.eq_2 l_a l_b t4 i μ
def zlo (l_a l_b:LN):Bool:=((bif ((l_a.length:Int):Int) != (l_b.length:Int) then false else (zbp l_a l_b (Int.toNat ((l_a.length:Int)-(0:Int))+1) false (0:Int))))
def zpq:=@zlo.eq_1
def zv4 (a_a:OA) (a_n a_e:Nat) (b_a:OA) (b_n b_e:Nat) (H:zn) (K:Bool→zn→Prop):Prop:=∃(l_a l_b:LN),IsL fF H a_a a_n l_a∧IsL fF H b_a b_n l_b∧l_a.length<1073741824∧l_b.length<1073741824∧K (zlo l_a l_b) H
theorem zv5 {a_a:OA} {a_n a_e:Nat} {b_a:OA} {b_n b_e:Nat} {H:zn} {K:Bool→zn→Prop} (h:∃(l_a l_b:LN),IsL fF H a_a a_n l_a∧IsL fF H b_a b_n l_b∧l_a.length<1073741824∧l_b.length<1073741824∧K (zlo l_a l_b) H):zv4 a_a a_n a_e b_a b_n b_e H K:=h
theorem zp7 (y:Nat):znn y y=true:=by
 rw [z15t]
 cases feq .f64 y y<;>simp
theorem z1im (l:LN):∀(μ:Nat) (t:Bool) (i:Nat),l.length-i<μ→zbp l l μ t (i:Int)=true:=by
 intro μ
 induction μ with
 | zero=>intro t i h;omega
 | succ μ ih=>
  intro t i hm
  rw [zgx]
  by_cases h:i<l.length
  ·rw [dct (show (i:Int)<(l.length:Int) by omega),cond_true,zp7]
   simp only [Bool.not_true,cond_false]
   exact ih t (i+1) ω2
  ·rw [dcf (show ¬(i:Int)<(l.length:Int) by omega),cond_false]
theorem zp5 (l:LN):zlo l l=true:=by
 rw [zpq]
 have h0:((l.length:Int) != (l.length:Int))=false:=by simp
 rw [h0,cond_false]
 exact z1im l _ false 0 ω2
def zfd:Env:=envOf [(59,S_frz)]
def F_fiz (args:List Value) (H:zn):(Value→zn→Prop)→Prop:=match args with
 | [.slice a_a a_n a_e,.slice b_a b_n b_e]=>fun K=>zv4 a_a a_n a_e b_a b_n b_e H fun (r1:Bool) (H':zn)=>K (.bool r1) H'
 | _=>fun _=>False
def S_fiz:FSpec:={F:=F_fiz,quiet:=true,tame:=false}
theorem z1ip (a_a:OA) (a_n a_e:Nat) (b_a:OA) (b_n b_e:Nat) (H:zn) (K:KT):zt Tryz.prog zfd Tryz.f58 [.slice a_a a_n a_e,.slice b_a b_n b_e] H K=
 (Br (((a_n:Int):Int) != (b_n:Int)) (K (.bool false) H) (z1j (exL Tryz.prog zfd (cl (cl (cr (cl (cr (cr (zo Tryz.f58))))))) 35 16 [(0,0)]) (.slice a_a a_n a_e::.slice b_a b_n b_e::ud3 (.int .i64 0::ud23 [])) H (zu 0 (seqQ (exL Tryz.prog zfd (cr (cr (cr (zo Tryz.f58)))) 16 16 []) (retK Tryz.prog Tryz.f58 K))))):=by kernel_rfl
abbrev zkd (a_a:OA) (a_e a_n:Nat) (b_a:OA) (b_e b_n:Nat) (i:Int)  :List Value:=(.slice a_a a_n a_e::.slice b_a b_n b_e::ud3 (.int .i64 i::ud23 []))
theorem z1io (a_a:OA) (a_e a_n:Nat) (b_a:OA) (b_e b_n:Nat) (i:Int)  (H:zn) (R:Post):exL Tryz.prog zfd (cl (cl (cr (cl (cr (cr (zo Tryz.f58))))))) 35 16 [(0,0)] (zkd a_a a_e a_n b_a b_e b_n i) H R=
 (Br (decide ((i:Int)<(a_n:Int))) ((0:Int)≤i∧i<(a_n:Int)∧∃b1 f1,(a_a:OA)=some ⟨b1,f1,none⟩∧∃x1:Nat,  rdC H b1 (f1+(i:Int).toNat*1)=some (.float .f32 x1)∧(0:Int)≤i∧i<(b_n:Int)∧∃b2 f2,(b_a:OA)=some ⟨b2,f2,none⟩∧∃x2:Nat,  rdC H b2 (f2+(i:Int).toNat*1)=some (.float .f32 x2)∧zqb (z2m x1) (z2m x2) H fun (r1:Bool) (H1:zn)=>Br (!r1) (R .ret (ud4 (.bool false::ud24 [])) H1) (R .normal (.slice a_a a_n a_e::.slice b_a b_n b_e::ud3 (.int .i64 (IntKind.wrap .i64 (i+1))::ud23 [])) H1)) (R (.exit 0) (ud29 []) H)):=by kernel_rfl
def zx9 (a_a:OA) (a_e a_n:Nat) (b_a:OA) (b_e b_n:Nat) (Inv:Nat→Int→zn→Prop):Nat→List Value→zn→Prop:=fun μ tm H=>∃i:Int,tm=(zkd a_a a_e a_n b_a b_e b_n i)∧Inv μ i H
theorem z1il (a_a:OA) (a_e a_n:Nat) (b_a:OA) (b_e b_n:Nat) {Q:Post} (Inv:Nat→Int→zn→Prop) (ν:Nat) (i:Int)  (H:zn) (h0:Inv ν i H)
  (hs:∀(μ:Nat) (i:Int)  (H:zn),Inv μ i H→exL Tryz.prog zfd (cl (cl (cr (cl (cr (cr (zo Tryz.f58))))))) 35 16 [(0,0)] (zkd a_a a_e a_n b_a b_e b_n i) H (zx (zx9 a_a a_e a_n b_a b_e b_n Inv) μ Q)):z1j (exL Tryz.prog zfd (cl (cl (cr (cl (cr (cr (zo Tryz.f58))))))) 35 16 [(0,0)]) (zkd a_a a_e a_n b_a b_e b_n i) H Q:=
 ⟨zx9 a_a a_e a_n b_a b_e b_n Inv,ν,⟨i,rfl,h0⟩,fun μ tm H h=>by obtain ⟨i,rfl,hI⟩:=h;exact hs μ i  H hI⟩
theorem z1in {a_a:OA} {a_e a_n:Nat} {b_a:OA} {b_e b_n:Nat} {Q:Post} {Inv:Nat→Int→zn→Prop} {μ:Nat} (μ':Nat) {i:Int}  {H:zn} (hm:μ'<μ) (hI:Inv μ' i H):zx (zx9 a_a a_e a_n b_a b_e b_n Inv) μ Q .normal (zkd a_a a_e a_n b_a b_e b_n i) H:=⟨μ',hm,i,rfl,hI⟩
theorem z13s  (H:zn) (K:KT)  {I:Nat→List Value→zn→Prop} {μ:Nat}:zx I μ (zu 0 (seqQ (exL Tryz.prog zfd (cr (cr (cr (zo Tryz.f58)))) 16 16 []) (retK Tryz.prog Tryz.f58 K))) (.exit 0) (ud29 []) H=
 (K (.bool true) H):=by kernel_rfl
theorem zqp (t4:Bool) (H:zn) (K:KT)  {I:Nat→List Value→zn→Prop} {μ:Nat}:zx I μ (zu 0 (seqQ (exL Tryz.prog zfd (cr (cr (cr (zo Tryz.f58)))) 16 16 []) (retK Tryz.prog Tryz.f58 K))) .ret (ud4 (.bool t4::ud24 [])) H=
 (K (.bool t4) H):=by kernel_rfl
theorem zzy:∀g,FnOk Tryz.prog g (zfd g):=FnOk.envOf (by
 intro x hx
 simp only [List.mem_cons,List.not_mem_nil,or_false] at hx
 subst hx;exact z1a3)
theorem z13r (a_a:OA) (a_n a_e:Nat) (b_a:OA) (b_n b_e:Nat) (H:zn) (K:KT) (h:zv4 a_a a_n a_e b_a b_n b_e H fun (r1:Bool) (H':zn)=>K (.bool r1) H'):zt Tryz.prog zfd Tryz.f58 [.slice a_a a_n a_e,.slice b_a b_n b_e] H K:=by
 rw [z1ip]
 obtain ⟨l_a,l_b,i_a,i_b,bd_13,bd_14,hk⟩:=h
 obtain rfl:=i_a.eqn
 obtain rfl:=i_b.eqn
 have e:(zlo l_a l_b)=_:=rfl
 have e:=e.trans (zpq l_a l_b)
 have g0:=Grow.refl H
 refine Br.intro (fun c_1=>?_) (fun c_1=>?_)
 ·have e:=e.trans (zw c_1)
  have c_1':=ine_t c_1
  rw [e] at hk
  exact hk
 ·have e:=e.trans (zv c_1)
  have c_1':=ine_f c_1
  refine z1il _ _ _ _ _ _ (fun (μ:Nat) (i:Int) (H_1:zn)=>∃t4:Bool,H=H_1∧(0:Int)≤i∧i≤(l_a.length:Int)∧(l_a.length:Int)-i≤(μ:Int)∧zlo l_a l_b=zbp l_a l_b (μ+1) t4 i) (Int.toNat ((l_a.length:Int)-(0:Int))) _ H ?_ ?_
  ·exact ⟨_,rfl,ω7,ω7,ω2,e⟩
  ·intro μ i  H_1 hI
   obtain ⟨t4,rfl,v_2,v_3,hμ,e⟩:=hI
   rw [z1io]
   have e:=e.trans (zgx l_a l_b μ t4 i)
   have l_4:=g0.1
   refine Br.intro (fun c_5=>?_) (fun c_5=>?_)
   ·have e:=e.trans (zw c_5)
    have c_5':=odt c_5
    obtain ⟨b_6,f_7,q_8⟩:=((i_a.grow g0)).pos ω0
    refine ⟨by omega,by omega,b_6,f_7,q_8,?_⟩
    refine ⟨((l_a).getD (i:Int).toNat 0),(i_a).rd g0 q_8 ω2 _,?_⟩
    obtain ⟨b_9,f_10,q_11⟩:=((i_b.grow g0)).pos ω0
    refine ⟨by omega,by omega,b_9,f_10,q_11,?_⟩
    refine ⟨((l_b).getD (i:Int).toNat 0),(i_b).rd g0 q_11 ω2 _,?_⟩
    refine zve ?_
    refine Br.intro (fun c_12=>?_) (fun c_12=>?_)
    ·have e:=e.trans (zw c_12)
     have c_12n:=z1e c_12
     rw [zqp]
     rw [e] at hk
     exact hk
    ·have e:=e.trans (zv c_12)
     have c_12n:=z1a c_12
     rw [show IntKind.wrap .i64 (i+1)=(i+1) from zp ω2 ω2]
     refine z1in (μ-1) ω16 ⟨_,rfl,ω1,ω1,ω16,ω13⟩
   ·have e:=e.trans (zv c_5)
    have c_5':=odf c_5
    rw [z13s]
    rw [e] at hk
    exact hk
theorem z19y:FnOk Tryz.prog 58 S_fiz:=FnOk.bodyF mix_ok zzy Tryz.func58 rfl ω9 ω9 fun args H=>by
 unfold F_fiz
 split
 ·refine ⟨?_,?_,?_,?_,fun K hk=>z13r _ _ _ _ _ _ H K hk⟩
  ·intro K K' h hk;obtain ⟨l_a,l_b,i_a,i_b,bd_13,bd_14,k⟩:=hk;exact ⟨l_a,l_b,i_a,i_b,bd_13,bd_14,h _ _ k⟩
  ·intro _ K hk;obtain ⟨l_a,l_b,i_a,i_b,bd_13,bd_14,k⟩:=hk;exact ⟨_,k,fun K' k'=>⟨l_a,l_b,i_a,i_b,bd_13,bd_14,k'⟩⟩
  ·intro K hk;obtain ⟨l_a,l_b,i_a,i_b,bd_13,bd_14,k⟩:=hk;exact ⟨_,_,k⟩
  ·nofun
 ·exact Nice.no

def zgm (zb:LN) (se:Nat) (rg:LN) (zh:Nat):Bool:=(bif !(zlo zb rg) then false else (bif !((znn (z2m se) (z2m zh))) then false else true))
def zla:=@zgm.eq_1
def zoa (vd:OA) (de fe se:Nat) (bh:OA) (kh mh zh:Nat) (H:zn) (K:Bool→zn→Prop):Prop:=∃(zb rg:LN),IsL fF H vd de zb∧IsL fF H bh kh rg∧zb.length<1073741824∧rg.length<1073741824∧((∀H':zn,Grow H H'→K (zgm zb se rg zh) H'))
theorem z10z {vd:OA} {de fe se:Nat} {bh:OA} {kh mh zh:Nat} {H:zn} {K:Bool→zn→Prop} (h:∃(zb rg:LN),IsL fF H vd de zb∧IsL fF H bh kh rg∧zb.length<1073741824∧rg.length<1073741824∧((∀H':zn,Grow H H'→K (zgm zb se rg zh) H'))):zoa vd de fe se bh kh mh zh H K:=h

def zt8:Env:=envOf [(58,S_fiz),(59,S_frz)]
def z17g (args:List Value) (H:zn):(Value→zn→Prop)→Prop:=match args with
 | [.agg ⟨[.slice vd de fe,.float .f32 se]⟩,.agg ⟨[.slice bh kh mh,.float .f32 zh]⟩]=>fun K=>zoa vd de fe se bh kh mh zh H fun (r1:Bool) (H':zn)=>K (.bool r1) H'
 | _=>fun _=>False
def z18q:FSpec:={F:=z17g,quiet:=false,tame:=true}
theorem z1cb (vd:OA) (de fe se:Nat) (bh:OA) (kh mh zh:Nat) (H:zn) (K:KT):zt Tryz.prog zt8 Tryz.f16 [.agg #[.slice vd de fe,.float .f32 se],.agg #[.slice bh kh mh,.float .f32 zh]] H K=
 (Al [.slice vd de fe,.float .f32 se] H fun b1 H1=>Al [.slice bh kh mh,.float .f32 zh] H1 fun b2 H2=>∃vg:OA,∃(pg yg:Nat),  rdC H2 b1 0=some (.slice vg pg yg)∧∃sk:OA,∃(rk uk:Nat),  rdC H2 b2 0=some (.slice sk rk uk)∧zv4 vg pg yg sk rk uk H2 fun (r1:Bool) (H3:zn)=>Br (!r1) (K (.bool false) H3) (∃x3:Nat,  rdC H3 b1 1=some (.float .f32 x3)∧∃x4:Nat,  rdC H3 b2 1=some (.float .f32 x4)∧zqb (z2m x3) (z2m x4) H3 fun (r2:Bool) (H4:zn)=>Br (!r2) (K (.bool false) H4) (K (.bool true) H4))):=by kernel_rfl
theorem zt9:∀g,FnOk Tryz.prog g (zt8 g):=FnOk.envOf (by
 intro x hx
 simp only [List.mem_cons,List.not_mem_nil,or_false] at hx
 rcases hx with rfl | rfl
 ·exact z19y
 ·exact z1a3)
theorem zvt (vd:OA) (de fe se:Nat) (bh:OA) (kh mh zh:Nat) (H:zn) (K:KT) (h:zoa vd de fe se bh kh mh zh H fun (r1:Bool) (H':zn)=>K (.bool r1) H'):zt Tryz.prog zt8 Tryz.f16 [.agg #[.slice vd de fe,.float .f32 se],.agg #[.slice bh kh mh,.float .f32 zh]] H K:=by
 rw [z1cb]
 obtain ⟨zb,rg,eg,li,bd_25,bd_26,hk⟩:=h
 obtain rfl:=eg.eqn
 obtain rfl:=li.eqn
 have e:(zgm zb se rg zh)=_:=rfl
 have e:=e.trans (zla zb se rg zh)
 have g0:=Grow.refl H
 refine Al.intro (fun b_1 H_1 hb_2 hl_3 g_4 o_5=>?_)
 have l_7:=g_4.1
 have g_8:=g0.trans g_4
 have l_9:=g_8.1
 have w24:=o_5.lt
 refine Al.intro (fun b_10 H_2 hb_11 hl_12 g_13 o_14=>?_)
 have l_16:=g_13.1
 have g_17:=g_8.trans g_13
 have l_18:=g_17.1
 have o_19:=o_5.grow g_13
 have w20:=o_19.lt
 have w23:=o_14.lt
 refine ⟨vd,zb.length,fe,(o_19.rdC _).trans rfl,?_⟩
 refine ⟨bh,rg.length,mh,(o_14.rdC _).trans rfl,?_⟩
 refine zv5 ⟨_,_,(eg.grow g_17),(li.grow g_17),ω0,ω0,?_⟩
 refine Br.intro (fun c_21=>?_) (fun c_21=>?_)
 ·have e:=e.trans (zw c_21)
  have c_21n:=z1e c_21
  rw [e] at hk
  exact hk  H_2 g_17 
 ·have e:=e.trans (zv c_21)
  have c_21n:=z1a c_21
  refine ⟨se,(o_19.rdC _).trans rfl,?_⟩
  refine ⟨zh,(o_14.rdC _).trans rfl,?_⟩
  refine zve ?_
  refine Br.intro (fun c_22=>?_) (fun c_22=>?_)
  ·have e:=e.trans (zw c_22)
   have c_22n:=z1e c_22
   rw [e] at hk
   exact hk  H_2 g_17 
  ·have e:=e.trans (zv c_22)
   have c_22n:=z1a c_22
   rw [e] at hk
   exact hk  H_2 g_17 
theorem z1ca:FnOk Tryz.prog 16 z18q:=FnOk.bodyF mix_ok zt9 Tryz.func16 rfl ω9 ω9 fun args H=>by
 unfold z17g
 split
 ·refine ⟨?_,?_,?_,?_,fun K hk=>zvt _ _ _ _ _ _ _ _ H K hk⟩
  ·intro K K' h hk;obtain ⟨zb,rg,eg,li,bd_25,bd_26,k⟩:=hk;exact ⟨zb,rg,eg,li,bd_25,bd_26,(fun  H' gg  =>h _ _ (k  H' gg))⟩
  ·nofun
  ·intro K hk;obtain ⟨zb,rg,eg,li,bd_25,bd_26,k⟩:=hk;exact ⟨_,_,k H (Grow.refl H)⟩
  ·intro _ K hk;obtain ⟨zb,rg,eg,li,bd_25,bd_26,k⟩:=hk;exact ⟨zb,rg,eg,li,bd_25,bd_26,(fun  H' gg  =>⟨gg,k  H' gg⟩)⟩
 ·exact Nice.no

def zrt (nf qf:Int) (fc:LN) (ki ji:Int) (wg:LN):Bool:=((bif (nf:Int) != ki then false else (bif (qf:Int) != ji then false else (bif !(zlo fc wg) then false else true))))
def zpv:=@zrt.eq_1
def T_fqz (nf qf:Int) (ee:OA) (ie ue:Nat) (ki ji:Int) (lh:OA) (oh vh:Nat) (H:zn) (K:Bool→zn→Prop):Prop:=∃(fc wg:LN),IsL fF H ee ie fc∧IsL fF H lh oh wg∧fc.length<1073741824∧wg.length<1073741824∧((∀H':zn,Grow H H'→K (zrt nf qf fc ki ji wg) H'))
theorem z1bt {nf qf:Int} {ee:OA} {ie ue:Nat} {ki ji:Int} {lh:OA} {oh vh:Nat} {H:zn} {K:Bool→zn→Prop} (h:∃(fc wg:LN),IsL fF H ee ie fc∧IsL fF H lh oh wg∧fc.length<1073741824∧wg.length<1073741824∧((∀H':zn,Grow H H'→K (zrt nf qf fc ki ji wg) H'))):T_fqz nf qf ee ie ue ki ji lh oh vh H K:=h
theorem z14k (a b:Int) (l:LN):zrt a b l a b l=true:=by
 rw [zpv,zp5]
 simp
def E_fqz:Env:=envOf [(58,S_fiz)]
def F_fqz (args:List Value) (H:zn):(Value→zn→Prop)→Prop:=match args with
 | [.agg ⟨[.int .i64 nf,.int .i64 qf,.slice ee ie ue]⟩,.agg ⟨[.int .i64 ki,.int .i64 ji,.slice lh oh vh]⟩]=>fun K=>T_fqz nf qf ee ie ue ki ji lh oh vh H fun (r1:Bool) (H':zn)=>K (.bool r1) H'
 | _=>fun _=>False
def S_fqz:FSpec:={F:=F_fqz,quiet:=false,tame:=true}
theorem z1jk (nf qf:Int) (ee:OA) (ie ue:Nat) (ki ji:Int) (lh:OA) (oh vh:Nat) (H:zn) (K:KT):zt Tryz.prog E_fqz Tryz.f15 [.agg #[.int .i64 nf,.int .i64 qf,.slice ee ie ue],.agg #[.int .i64 ki,.int .i64 ji,.slice lh oh vh]] H K=
 (Al [.int .i64 nf,.int .i64 qf,.slice ee ie ue] H fun b1 H1=>Al [.int .i64 ki,.int .i64 ji,.slice lh oh vh] H1 fun b2 H2=>∃x1:Int,  rdC H2 b1 0=some (.int .i64 x1)∧∃x2:Int,  rdC H2 b2 0=some (.int .i64 x2)∧Br ((x1:Int) != x2) (K (.bool false) H2) (∃x3:Int,  rdC H2 b1 1=some (.int .i64 x3)∧∃x4:Int,  rdC H2 b2 1=some (.int .i64 x4)∧Br ((x3:Int) != x4) (K (.bool false) H2) (∃gj:OA,∃(cj ak:Nat),  rdC H2 b1 2=some (.slice gj cj ak)∧∃ii:OA,∃(ai ni:Nat),  rdC H2 b2 2=some (.slice ii ai ni)∧zv4 gj cj ak ii ai ni H2 fun (r1:Bool) (H3:zn)=>Br (!r1) (K (.bool false) H3) (K (.bool true) H3)))):=by kernel_rfl
theorem z10g:∀g,FnOk Tryz.prog g (E_fqz g):=FnOk.envOf (by
 intro x hx
 simp only [List.mem_cons,List.not_mem_nil,or_false] at hx
 subst hx;exact z19y)
theorem z14j (nf qf:Int) (ee:OA) (ie ue:Nat) (ki ji:Int) (lh:OA) (oh vh:Nat) (H:zn) (K:KT) (h:T_fqz nf qf ee ie ue ki ji lh oh vh H fun (r1:Bool) (H':zn)=>K (.bool r1) H'):zt Tryz.prog E_fqz Tryz.f15 [.agg #[.int .i64 nf,.int .i64 qf,.slice ee ie ue],.agg #[.int .i64 ki,.int .i64 ji,.slice lh oh vh]] H K:=by
 rw [z1jk]
 obtain ⟨fc,wg,jg,oi,bd_26,bd_27,hk⟩:=h
 obtain rfl:=jg.eqn
 obtain rfl:=oi.eqn
 have e:(zrt nf qf fc ki ji wg)=_:=rfl
 have e:=e.trans (zpv nf qf fc ki ji wg)
 have g0:=Grow.refl H
 refine Al.intro (fun b_1 H_1 hb_2 hl_3 g_4 o_5=>?_)
 have l_7:=g_4.1
 have g_8:=g0.trans g_4
 have l_9:=g_8.1
 have w25:=o_5.lt
 refine Al.intro (fun b_10 H_2 hb_11 hl_12 g_13 o_14=>?_)
 have l_16:=g_13.1
 have g_17:=g_8.trans g_13
 have l_18:=g_17.1
 have o_19:=o_5.grow g_13
 have w20:=o_19.lt
 have w24:=o_14.lt
 refine ⟨nf,(o_19.rdC _).trans rfl,?_⟩
 refine ⟨ki,(o_14.rdC _).trans rfl,?_⟩
 refine Br.intro (fun c_21=>?_) (fun c_21=>?_)
 ·have e:=e.trans (zw c_21)
  have c_21':=ine_t c_21
  rw [e] at hk
  exact hk  H_2 g_17 
 ·have e:=e.trans (zv c_21)
  have c_21':=ine_f c_21
  refine ⟨qf,(o_19.rdC _).trans rfl,?_⟩
  refine ⟨ji,(o_14.rdC _).trans rfl,?_⟩
  refine Br.intro (fun c_22=>?_) (fun c_22=>?_)
  ·have e:=e.trans (zw c_22)
   have c_22':=ine_t c_22
   rw [e] at hk
   exact hk  H_2 g_17 
  ·have e:=e.trans (zv c_22)
   have c_22':=ine_f c_22
   refine ⟨ee,fc.length,ue,(o_19.rdC _).trans rfl,?_⟩
   refine ⟨lh,wg.length,vh,(o_14.rdC _).trans rfl,?_⟩
   refine zv5 ⟨_,_,(jg.grow g_17),(oi.grow g_17),ω0,ω0,?_⟩
   refine Br.intro (fun c23=>?_) (fun c23=>?_)
   ·have e:=e.trans (zw c23)
    have c_23n:=z1e c23
    rw [e] at hk
    exact hk  H_2 g_17 
   ·have e:=e.trans (zv c23)
    have c_23n:=z1a c23
    rw [e] at hk
    exact hk  H_2 g_17 
theorem z1jj:FnOk Tryz.prog 15 S_fqz:=FnOk.bodyF mix_ok z10g Tryz.func15 rfl ω9 ω9 fun args H=>by
 unfold F_fqz
 split
 ·refine ⟨?_,?_,?_,?_,fun K hk=>z14j _ _ _ _ _ _ _ _ _ _ H K hk⟩
  ·intro K K' h hk;obtain ⟨fc,wg,jg,oi,bd_26,bd_27,k⟩:=hk;exact ⟨fc,wg,jg,oi,bd_26,bd_27,(fun  H' gg  =>h _ _ (k  H' gg))⟩
  ·nofun
  ·intro K hk;obtain ⟨fc,wg,jg,oi,bd_26,bd_27,k⟩:=hk;exact ⟨_,_,k H (Grow.refl H)⟩
  ·intro _ K hk;obtain ⟨fc,wg,jg,oi,bd_26,bd_27,k⟩:=hk;exact ⟨fc,wg,jg,oi,bd_26,bd_27,(fun  H' gg  =>⟨gg,k  H' gg⟩)⟩
 ·exact Nice.no

def z2t (yd:LN) (yf:Nat) (ug tg:Int) (me:LN) (aCount:Int) (aSize:Nat):Bool:=((bif decide (((z8t yd yf (1048576:Int)):Int)<0) then true else (bif decide (((zlq ug tg me ((z8t yd yf (1048576:Int)))):Int)<0) then true else (bif !(((zlp yd yf ug tg me aCount aSize).1:ByteArray).toList==((zlr yd yf ug tg me aCount aSize).1:ByteArray).toList) then false else (bif !(((zlp yd yf ug tg me aCount aSize).2)==((zlr yd yf ug tg me aCount aSize).2)) then false else (bif !(zgm yd yf yd yf) then false else (bif !(zrt ug tg me ug tg me) then false else true)))))))
def z3s:=@z2t.eq_1
def z4k (xg:OA) (uh zg yf:Nat) (ug tg:Int) (ah:OA) (yh jh:Nat) (aCount:Int) (aSize:Nat) (H:zn) (K:Bool→zn→Prop):Prop:=∃(yd me:LN),IsL fF H xg uh yd∧(∀y ∈ yd,W32 y)∧yd.length≤9223372036854775807∧W32 yf∧I64 ug∧I64 tg∧IsL fF H ah yh me∧(∀y ∈ me,W32 y)∧me.length≤9223372036854775807∧I64 aCount∧W32 aSize∧∀H':zn,K true H'










theorem zfw (ws:LN) (sc:Nat) (W Hi:Int) (l:LN) (count:Int) (size:Nat):zlp ws sc W Hi l count size=zlr ws sc W Hi l count size:=by
 rw [zpt,zpx,zbk,←zns,←znz]
 cases hs:z7h ws sc with
 | false=>
  have e:z5c ws sc W Hi l 1=(0,0,[],false):=by unfold z5c;rw [hs];rfl
  rw [e];rfl
 | true=>
  cases hv:z1o W Hi l with
  | false=>
   have e:z5c ws sc W Hi l 1=(0,0,[],false):=by unfold z5c;rw [hs,hv];rfl
   rw [e];rfl
  | true=>
   obtain ⟨h1,h2,h3,h4,h5,_⟩:=f8z_t hv
   have e:z5c ws sc W Hi l 1=z3i ws sc W Hi l 1:=by
    unfold z5c
    rw [hs,hv,show zfu 1=true from rfl,cond_true,cond_true,cond_true]
    exact (ze4 hs hv).1
   have z:=z8c W Hi 1 1 ⟨h1,h2,h3,h4⟩
   have zy:(z1p W Hi 1 1).2.1=0:=by rw [zbh];rfl
   rw [e,zej,zf0 h1 h2 h3 h4 ω20 ω20 ω20 ω20]
   rw [show zck size=z9f size from rfl]
   generalize z3i ws sc W Hi l 1=L at *
   generalize z1p W Hi 1 1=r at *
   obtain ⟨rx,ry,rw_,rh⟩:=r
   dsimp only at z zy ⊢
   subst zy
   have m1:0≤rw_*rh:=Int.mul_nonneg z.2.2.1 z.2.2.2.1
   have m2:rw_*rh≤16*16:=Int.mul_le_mul ω2 ω2 z.2.2.2.1 ω20
   rw [cond_true,cond_true,zp (n:=rw_*rh) ω2 ω2]
   rw [show z2c count 1 16=z6v count 1 16 from rfl]
   cases hL:L.2.2.2 with
   | false=>
    cases z6v count 1 16<;>cases z9f size<;>rfl
   | true=>
    cases hc:z6v count 1 16 with
    | false=>rfl
    | true=>
     try dsimp only
     rw [cond_true]
     try dsimp only
     by_cases hm:count≤rw_*rh
     ·rw [dct hm,dcf (show ¬rw_*rh<count by omega)]
      cases z9f size<;>rfl
     ·rw [dcf hm,dct (show rw_*rh<count by omega)]
      cases z9f size<;>rfl
theorem zvu (l:LN) (sc:Nat):zgm l sc l sc=true:=by
 rw [zla,zp5,zp7];rfl
theorem laws_FnExactReadMarks_true (yd:LN) (yf:Nat) (ug tg:Int) (me:LN) (aCount:Int) (aSize:Nat) (q0:(∀y ∈ yd,W32 y)) (q0':yd.length≤9223372036854775807) (q1:W32 yf) (q2:I64 ug) (q3:I64 tg) (q4:(∀y ∈ me,W32 y)) (q4':me.length≤9223372036854775807) (q5:I64 aCount) (q6:W32 aSize):z2t yd yf ug tg me aCount aSize=true:=by
 rw [z3s]
 rcases z19u yd yf 1048576 ω20 ω20 q0' with h | ⟨h,h'⟩
 ·rw [dct h];rfl
 ·rw [dcf (show ¬z8t yd yf 1048576<0 by omega),cond_false]
  rcases ftz_f ug tg me (z8t yd yf 1048576) ω2 ω2 q4' with g | ⟨g,g'⟩
  ·rw [dct g];rfl
  ·rw [dcf (show ¬zlq ug tg me (z8t yd yf 1048576)<0 by omega),cond_false]
   rw [zfw]
   simp only [z14k,zvu,Bool.not_true,cond_false,beq_self_eq_true]
def E_laws_FnExactReadMarks:Env:=envOf [(999996,z8n),(9,z18r),(10,S_ftz),(12,z18s),(13,S_fuz),(40,S_fvz),(41,S_flz),(16,z18q),(15,S_fqz)]
def z4j (args:List Value) (H:zn):(Value→zn→Prop)→Prop:=match args with
 | [.agg ⟨[.slice xg uh zg,.float .f32 yf]⟩,.agg ⟨[.int .i64 ug,.int .i64 tg,.slice ah yh jh]⟩,.int .i64 aCount,.float .f32 aSize]=>fun K=>z4k xg uh zg yf ug tg ah yh jh aCount aSize H fun (r1:Bool) (H':zn)=>K (.bool r1) H'
 | _=>fun _=>False
def z7w:FSpec:={F:=z4j,quiet:=false,tame:=false}
theorem laws_FnExactReadMarks_vc (xg:OA) (uh zg yf:Nat) (ug tg:Int) (ah:OA) (yh jh:Nat) (aCount:Int) (aSize:Nat) (H:zn) (K:KT):zt Tryz.prog E_laws_FnExactReadMarks Tryz.f7 [.agg #[.slice xg uh zg,.float .f32 yf],.agg #[.int .i64 ug,.int .i64 tg,.slice ah yh jh],.int .i64 aCount,.float .f32 aSize] H K=
 (Al [.slice xg uh zg,.float .f32 yf] H fun b1 H1=>Al [.int .i64 ug,.int .i64 tg,.slice ah yh jh] H1 fun b2 H2=>∃ui:OA,∃(wi vi c2:Nat),  rdN H2 b1 0 2=some [.slice ui wi vi,.float .f32 c2]∧zob ui wi vi c2 1048576 H2 fun (r1:Int) (H3:zn)=>Br (decide ((r1:Int)<0)) (K (.bool true) H3) (∃(c3 c4:Int),∃lj:OA,∃(nj mj:Nat),  rdN H3 b2 0 3=some [.int .i64 c3,.int .i64 c4,.slice lj nj mj]∧T_ftz c3 c4 lj nj mj r1 H3 fun (r2:Int) (H4:zn)=>Br (decide ((r2:Int)<0)) (K (.bool true) H4) (∃(c6 c7:Int),∃pj:OA,∃(rj qj:Nat),  rdN H4 b2 0 3=some [.int .i64 c6,.int .i64 c7,.slice pj rj qj]∧∃ei:OA,∃(gi fi c10:Nat),  rdN H4 b1 0 2=some [.slice ei gi fi,.float .f32 c10]∧zg3 ei gi fi c10 H4 fun (a1:OA) (r3:Nat) (r4:Nat) (r5:Nat) (H5:zn)=>zqc c6 c7 pj rj qj H5 fun (r6:Int) (r7:Int) (a2:OA) (r8:Nat) (r9:Nat) (H6:zn)=>T_fvz a1 r3 r4 r5 r6 r7 a2 r8 r9 aCount aSize H6 fun (r10:ByteArray) (r11:Bool) (H7:zn)=>∃ck:OA,∃(fk dk c12:Nat),  rdN H7 b1 0 2=some [.slice ck fk dk,.float .f32 c12]∧zg3 ck fk dk c12 H7 fun (a3:OA) (r12:Nat) (r13:Nat) (r14:Nat) (H8:zn)=>Al [.slice none 0 0,.float .f32 0] H8 fun b3 H9=>isOwn H9 b3∧(∃l,rdN H9 b3 0 2=some l)∧Lt (setN H9 b3 0 [.slice a3 r12 r13,.float .f32 r14]) fun H10=>∃(c13 c14:Int),∃ij:OA,∃(kj jj:Nat),  rdN H10 b2 0 3=some [.int .i64 c13,.int .i64 c14,.slice ij kj jj]∧zqc c13 c14 ij kj jj H10 fun (r15:Int) (r16:Int) (a4:OA) (r17:Nat) (r18:Nat) (H11:zn)=>Al [.int .i64 0,.int .i64 0,.slice none 0 0] H11 fun b4 H12=>isOwn H12 b4∧(∃l,rdN H12 b4 0 3=some l)∧Lt (setN H12 b4 0 [.int .i64 r15,.int .i64 r16,.slice a4 r17 r18]) fun H13=>∃am:OA,∃(dm bm c17:Nat),  rdN H13 b3 0 2=some [.slice am dm bm,.float .f32 c17]∧∃(c18 c19:Int),∃lk:OA,∃(pk nk:Nat),  rdN H13 b4 0 3=some [.int .i64 c18,.int .i64 c19,.slice lk pk nk]∧T_flz am dm bm c17 c18 c19 lk pk nk aCount aSize H13 fun (r19:ByteArray) (r20:Bool) (H14:zn)=>Br (!((r19:ByteArray).toList==(r10:ByteArray).toList)) (K (.bool false) H14) (Br (!(r20==r11)) (K (.bool false) H14) (∃ml:OA,∃(ql ol c22:Nat),  rdN H14 b1 0 2=some [.slice ml ql ol,.float .f32 c22]∧∃tl:OA,∃(wl ul c24:Nat),  rdN H14 b3 0 2=some [.slice tl wl ul,.float .f32 c24]∧zg3 ml ql ol c22 H14 fun (a5:OA) (r21:Nat) (r22:Nat) (r23:Nat) (H15:zn)=>zoa tl wl ul c24 a5 r21 r22 r23 H15 fun (r24:Bool) (H16:zn)=>Br (!r24) (K (.bool false) H16) (∃(c25 c26:Int),∃jm:OA,∃(lm km:Nat),  rdN H16 b2 0 3=some [.int .i64 c25,.int .i64 c26,.slice jm lm km]∧∃(c28 c29:Int),∃rm:OA,∃(vm um:Nat),  rdN H16 b4 0 3=some [.int .i64 c28,.int .i64 c29,.slice rm vm um]∧zqc c25 c26 jm lm km H16 fun (r25:Int) (r26:Int) (a6:OA) (r27:Nat) (r28:Nat) (H17:zn)=>T_fqz c28 c29 rm vm um r25 r26 a6 r27 r28 H17 fun (r29:Bool) (H18:zn)=>Br (!r29) (K (.bool false) H18) (K (.bool true) H18))))))):=by kernel_rfl
theorem E_laws_FnExactReadMarks_ok:∀g,FnOkX Tryz.prog (MainCls Tryz.prog) g (E_laws_FnExactReadMarks g):=FnOkX.envOf (by
 intro x hx
 simp only [List.mem_cons,List.not_mem_nil,or_false] at hx
 rcases hx with rfl | rfl | rfl | rfl | rfl | rfl | rfl | rfl | rfl
 ·exact z7c _ _
 ·exact z1cc.le fun _ _ _=>trivial
 ·exact z1jn.le fun _ _ _=>trivial
 ·exact z1cf.le fun _ _ _=>trivial
 ·exact z1jq.le fun _ _ _=>trivial
 ·exact z1jt.le fun _ _ _=>trivial
 ·exact z1iz
 ·exact z1ca.le fun _ _ _=>trivial
 ·exact z1jj.le fun _ _ _=>trivial)
theorem laws_FnExactReadMarks_main (xg:OA) (uh zg yf:Nat) (ug tg:Int) (ah:OA) (yh jh:Nat) (aCount:Int) (aSize:Nat) (H:zn) (K:KT) (h:z4k xg uh zg yf ug tg ah yh jh aCount aSize H fun (r1:Bool) (H':zn)=>K (.bool r1) H'):zt Tryz.prog E_laws_FnExactReadMarks Tryz.f7 [.agg #[.slice xg uh zg,.float .f32 yf],.agg #[.int .i64 ug,.int .i64 tg,.slice ah yh jh],.int .i64 aCount,.float .f32 aSize] H K:=by
 rw [laws_FnExactReadMarks_vc]
 obtain ⟨yd,me,h_0,h_1,h_2,h_3,h_4,h_5,h_6,h_7,h_8,h_9,h_10,hk⟩:=h
 have qi:=h_0
 obtain rfl:=qi.eqn
 have xi:=h_6
 obtain rfl:=xi.eqn
 have hl:=laws_FnExactReadMarks_true yd yf ug tg me aCount aSize h_1 h_2 h_3 h_4 h_5 h_7 h_8 h_9 h_10
 have e:z2t yd yf ug tg me aCount aSize=_:=rfl
 have e:=e.trans (z3s yd yf ug tg me aCount aSize)
 have e:=hl.symm.trans e
 have g0:=Grow.refl H
 refine Al.intro (fun b_1 H_1 hb_2 hl_3 g_4 o_5=>?_)
 have l_7:=g_4.1
 have g_8:=g0.trans g_4
 have l_9:=g_8.1
 have w290:=o_5.lt
 refine Al.intro (fun b_10 H_2 hb_11 hl_12 g_13 o_14=>?_)
 have l_16:=g_13.1
 have g_17:=g_8.trans g_13
 have l_18:=g_17.1
 have o_19:=o_5.grow g_13
 have w20:=o_19.lt
 have w289:=o_14.lt
 refine ⟨xg,yd.length,zg,yf,(o_19.rdN (nbl rfl)).trans rfl,?_⟩
 refine z11a ⟨_,(qi.grow g_17),fun  H_3 g_22  =>?_⟩
 have z21:=z19u yd yf (1048576:Int)
 have l23:=g_22.1
 have g24:=g_17.trans g_22
 have l25:=g24.1
 have o26:=o_19.grow g_22
 have w27:=o26.lt
 have o28:=o_14.grow g_22
 have w29:=o28.lt
 refine Br.intro (fun c30=>?_) (fun c30=>?_)
 ·have e:=e.trans (zw c30)
  have c_30':=odt c30
  first | exact hk _ | (exfalso;cases e;done) | (rw [←e];exact hk _)
 ·have e:=e.trans (zv c30)
  have c_30':=odf c30
  refine ⟨ug,tg,ah,me.length,jh,(o28.rdN (nbl rfl)).trans rfl,?_⟩
  refine z1bu ⟨_,(xi.grow g24),fun  H_4 g32  =>?_⟩
  have z31:=ftz_f ug tg me ((z8t yd yf (1048576:Int)))
  have l33:=g32.1
  have g34:=g24.trans g32
  have l35:=g34.1
  have o36:=o26.grow g32
  have w37:=o36.lt
  have o38:=o28.grow g32
  have w39:=o38.lt
  refine Br.intro (fun c40=>?_) (fun c40=>?_)
  ·have e:=e.trans (zw c40)
   have c_40':=odt c40
   first | exact hk _ | (exfalso;cases e;done) | (rw [←e];exact hk _)
  ·have e:=e.trans (zv c40)
   have c_40':=odf c40
   refine ⟨ug,tg,ah,me.length,jh,(o38.rdN (nbl rfl)).trans rfl,?_⟩
   refine ⟨xg,yd.length,zg,yf,(o36.rdN (nbl rfl)).trans rfl,?_⟩
   refine zhs ⟨_,(qi.grow g34),ω0,fun a41 n42 e43 H_5 g45 r44=>?_⟩
   have l46:=g45.1
   have g47:=g34.trans g45
   have l48:=g47.1
   have o49:=o36.grow g45
   have w50:=o49.lt
   have o51:=o38.grow g45
   have w52:=o51.lt
   obtain rfl:=r44.isL.eqn
   have u53:=r44.up
   have u54:=r44.lo
   refine zml ⟨_,(xi.grow g47),ω0,fun a56 n57 e58 H_6 g60 r59=>?_⟩
   have l61:=g60.1
   have g62:=g47.trans g60
   have l63:=g62.1
   have o64:=o49.grow g60
   have w65:=o64.lt
   have o66:=o51.grow g60
   have w67:=o66.lt
   have r68:=r44.grow g60
   obtain rfl:=r59.isL.eqn
   have u69:=r59.up
   have u70:=r59.lo
   refine z1bv ⟨_,_,r68.isL,r59.isL,ω0,ω0,fun  H_7 g72  =>?_⟩
   have l73:=g72.1
   have g74:=g62.trans g72
   have l75:=g74.1
   have o76:=o64.grow g72
   have w77:=o76.lt
   have o78:=o66.grow g72
   have w79:=o78.lt
   have r80:=r68.grow g72
   have r81:=r59.grow g72
   refine ⟨xg,yd.length,zg,yf,(o76.rdN (nbl rfl)).trans rfl,?_⟩
   refine zhs ⟨_,(qi.grow g74),ω0,fun a82 n83 e84 H_8 g86 r85=>?_⟩
   have l87:=g86.1
   have g88:=g74.trans g86
   have l89:=g88.1
   have o90:=o76.grow g86
   have w91:=o90.lt
   have o92:=o78.grow g86
   have w93:=o92.lt
   have r94:=r80.grow g86
   have r95:=r81.grow g86
   obtain rfl:=r85.isL.eqn
   have u96:=r85.up
   have u97:=r85.lo
   refine Al.intro (fun b99 H_9 hb_100 hl_101 g102 o103=>?_)
   have l105:=g102.1
   have g106:=g88.trans g102
   have l107:=g106.1
   have o108:=o90.grow g102
   have w109:=o108.lt
   have o110:=o92.grow g102
   have w111:=o110.lt
   have r112:=r94.grow g102
   have r113:=r95.grow g102
   have r114:=r85.grow g102
   have w288:=o103.lt
   refine Lt.setN (n:=2) o103 (nbl rfl) rfl (fun H_10 hl_115 o117 k116=>?_)
   have o117:Own H_10 b99 [.slice a82 ((yd).length) e84,.float .f32 yf]:=o117
   have l118:=k116.1
   have g119:=g106.keep (b:=b99) ω2 k116
   have l120:=g119.1
   have o121:=o108.keep ω2 k116
   have w122:=o121.lt
   have o123:=o110.keep ω2 k116
   have w124:=o123.lt
   have r125:=r112.keep u53 ω2 k116
   have r126:=r113.keep u69 ω2 k116
   have r127:=r114.keep u96 ω2 k116
   have w287:=o117.lt
   refine ⟨ug,tg,ah,me.length,jh,(o123.rdN (nbl rfl)).trans rfl,?_⟩
   refine zml ⟨_,(xi.grow g119),ω0,fun a128 n129 e130 H_11 g132 r131=>?_⟩
   have l133:=g132.1
   have g134:=g119.trans g132
   have l135:=g134.1
   have o136:=o121.grow g132
   have w137:=o136.lt
   have o138:=o123.grow g132
   have w139:=o138.lt
   have o140:=o117.grow g132
   have w141:=o140.lt
   have r142:=r125.grow g132
   have r143:=r126.grow g132
   have r144:=r127.grow g132
   obtain rfl:=r131.isL.eqn
   have u145:=r131.up
   have u146:=r131.lo
   refine Al.intro (fun b148 H_12 hb_149 hl_150 g151 o152=>?_)
   have l154:=g151.1
   have g155:=g134.trans g151
   have l156:=g155.1
   have o157:=o136.grow g151
   have w158:=o157.lt
   have o159:=o138.grow g151
   have w160:=o159.lt
   have o161:=o140.grow g151
   have w162:=o161.lt
   have r163:=r142.grow g151
   have r164:=r143.grow g151
   have r165:=r144.grow g151
   have r166:=r131.grow g151
   have w286:=o152.lt
   refine Lt.setN (n:=3) o152 (nbl rfl) rfl (fun H_13 hl_167 o169 k168=>?_)
   have o169:Own H_13 b148 [.int .i64 ug,.int .i64 tg,.slice a128 ((me).length) e130]:=o169
   have l170:=k168.1
   have g171:=g155.keep (b:=b148) ω2 k168
   have l172:=g171.1
   have o173:=o157.keep ω2 k168
   have w174:=o173.lt
   have o175:=o159.keep ω2 k168
   have w176:=o175.lt
   have o177:=o161.keep ω2 k168
   have w178:=o177.lt
   have r179:=r163.keep u53 ω2 k168
   have r180:=r164.keep u69 ω2 k168
   have r181:=r165.keep u96 ω2 k168
   have r182:=r166.keep u145 ω2 k168
   have w285:=o169.lt
   refine ⟨a82,(yd).length,e84,yf,(o177.rdN (nbl rfl)).trans rfl,?_⟩
   refine ⟨ug,tg,a128,(me).length,e130,(o169.rdN (nbl rfl)).trans rfl,?_⟩
   refine z1br ⟨_,_,r181.isL,r182.isL,ω0,ω0,fun  H_14 g183  =>?_⟩
   have l184:=g183.1
   have g185:=g171.trans g183
   have l186:=g185.1
   have o187:=o173.grow g183
   have w188:=o187.lt
   have o189:=o175.grow g183
   have w190:=o189.lt
   have o191:=o177.grow g183
   have w192:=o191.lt
   have o193:=o169.grow g183
   have w194:=o193.lt
   have r195:=r179.grow g183
   have r196:=r180.grow g183
   have r197:=r181.grow g183
   have r198:=r182.grow g183
   refine Br.intro (fun c199=>?_) (fun c199=>?_)
   ·have e:=e.trans (zw c199)
    have c_199n:=z1e c199
    first | exact hk _ | (exfalso;cases e;done) | (rw [←e];exact hk _)
   ·have e:=e.trans (zv c199)
    have c_199n:=z1a c199
    refine Br.intro (fun c200=>?_) (fun c200=>?_)
    ·have e:=e.trans (zw c200)
     have c_200n:=z1e c200
     first | exact hk _ | (exfalso;cases e;done) | (rw [←e];exact hk _)
    ·have e:=e.trans (zv c200)
     have c_200n:=z1a c200
     refine ⟨xg,yd.length,zg,yf,(o187.rdN (nbl rfl)).trans rfl,?_⟩
     refine ⟨a82,(yd).length,e84,yf,(o191.rdN (nbl rfl)).trans rfl,?_⟩
     refine zhs ⟨_,(qi.grow g185),ω0,fun a201 n202 e203 H_15 g205 r204=>?_⟩
     have l206:=g205.1
     have g207:=g185.trans g205
     have l208:=g207.1
     have o209:=o187.grow g205
     have w210:=o209.lt
     have o211:=o189.grow g205
     have w212:=o211.lt
     have o213:=o191.grow g205
     have w214:=o213.lt
     have o215:=o193.grow g205
     have w216:=o215.lt
     have r217:=r195.grow g205
     have r218:=r196.grow g205
     have r219:=r197.grow g205
     have r220:=r198.grow g205
     obtain rfl:=r204.isL.eqn
     have u221:=r204.up
     have u222:=r204.lo
     refine z10z ⟨_,_,r219.isL,r204.isL,ω0,ω0,fun  H_16 g224  =>?_⟩
     have l225:=g224.1
     have g226:=g207.trans g224
     have l227:=g226.1
     have o228:=o209.grow g224
     have w229:=o228.lt
     have o230:=o211.grow g224
     have w231:=o230.lt
     have o232:=o213.grow g224
     have w233:=o232.lt
     have o234:=o215.grow g224
     have w235:=o234.lt
     have r236:=r217.grow g224
     have r237:=r218.grow g224
     have r238:=r219.grow g224
     have r239:=r220.grow g224
     have r240:=r204.grow g224
     refine Br.intro (fun c241=>?_) (fun c241=>?_)
     ·have e:=e.trans (zw c241)
      have c_241n:=z1e c241
      first | exact hk _ | (exfalso;cases e;done) | (rw [←e];exact hk _)
     ·have e:=e.trans (zv c241)
      have c_241n:=z1a c241
      refine ⟨ug,tg,ah,me.length,jh,(o230.rdN (nbl rfl)).trans rfl,?_⟩
      refine ⟨ug,tg,a128,(me).length,e130,(o234.rdN (nbl rfl)).trans rfl,?_⟩
      refine zml ⟨_,(xi.grow g226),ω0,fun a242 n243 e244 H_17 g246 r245=>?_⟩
      have l247:=g246.1
      have g248:=g226.trans g246
      have l249:=g248.1
      have o250:=o228.grow g246
      have w251:=o250.lt
      have o252:=o230.grow g246
      have w253:=o252.lt
      have o254:=o232.grow g246
      have w255:=o254.lt
      have o256:=o234.grow g246
      have w257:=o256.lt
      have r258:=r236.grow g246
      have r259:=r237.grow g246
      have r260:=r238.grow g246
      have r261:=r239.grow g246
      have r262:=r240.grow g246
      obtain rfl:=r245.isL.eqn
      have u263:=r245.up
      have u264:=r245.lo
      refine z1bt ⟨_,_,r261.isL,r245.isL,ω0,ω0,fun  H_18 g266  =>?_⟩
      have l267:=g266.1
      have g268:=g248.trans g266
      have l269:=g268.1
      have o270:=o250.grow g266
      have w271:=o270.lt
      have o272:=o252.grow g266
      have w273:=o272.lt
      have o274:=o254.grow g266
      have w275:=o274.lt
      have o276:=o256.grow g266
      have w277:=o276.lt
      have r278:=r258.grow g266
      have r279:=r259.grow g266
      have r280:=r260.grow g266
      have r281:=r261.grow g266
      have r282:=r262.grow g266
      have r283:=r245.grow g266
      refine Br.intro (fun c284=>?_) (fun c284=>?_)
      ·have e:=e.trans (zw c284)
       have c_284n:=z1e c284
       first | exact hk _ | (exfalso;cases e;done) | (rw [←e];exact hk _)
      ·have e:=e.trans (zv c284)
       have c_284n:=z1a c284
       first | exact hk _ | (exfalso;cases e;done) | (rw [←e];exact hk _)
theorem laws_FnExactReadMarks_ok:FnOkX Tryz.prog (MainCls Tryz.prog) 7 z7w:=FnOkX.bodyF (hLt:=fun _=>z3h) mix_ok E_laws_FnExactReadMarks_ok Tryz.func7 rfl ω9 ω9 fun args H=>by
 unfold z4j
 split
 ·refine ⟨?_,?_,?_,?_,fun K hk=>laws_FnExactReadMarks_main _ _ _ _ _ _ _ _ _ _ _ H K hk⟩
  ·intro K K' h hk;obtain ⟨yd,me,h_0,h_1,h_2,h_3,h_4,h_5,h_6,h_7,h_8,h_9,h_10,k⟩:=hk;exact ⟨yd,me,h_0,h_1,h_2,h_3,h_4,h_5,h_6,h_7,h_8,h_9,h_10,(fun H'=>h _ _ (k H'))⟩
  ·nofun
  ·intro K hk;obtain ⟨yd,me,h_0,h_1,h_2,h_3,h_4,h_5,h_6,h_7,h_8,h_9,h_10,k⟩:=hk;exact ⟨_,_,k []⟩
  ·nofun
 ·exact Nice.no
end Go.Proofs.YthheoefadijhdaaGreat.Ai
