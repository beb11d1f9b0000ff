/- The abstract machine and the world: operations on values. -/
import Derived.Test.YtbnplefohfamnaaFFnAtomsAiB
set_option linter.unusedSimpArgs false
set_option linter.unusedVariables false
namespace Go.Proofs.Ytbnplefohfamnaa.Ai
open Go Go.RowKit

def VOut (P:Program) (ρ:Ren) (s:Sem Value) (w:World) (K:Value→Prop):Prop:=
 ∃v,K v∧∃v' w',s.run P w=.ok v' w'∧VR ρ v v'∧Drew w w'

theorem VOut.plain {P:Program} {ρ:Ren} {s:Sem Value} {w:World} {K:Value→Prop} {v v':Value} (hk:K v) (hr:s.run P w=.ok v' w) (hv:VR ρ v v'):VOut P ρ s w K:=
 ⟨v,hk,v',w,hr,hv,.refl w⟩

section
variable {P:Program} {ρ:Ren} {w:World}

theorem zwa {a b:IntKind} (h:ikEq a b=true):a=b:=by cases a<;>cases b<;>first | rfl | cases h
theorem zg8 {a b:FloatKind} (h:fkEq a b=true):a=b:=by cases a<;>cases b<;>first | rfl | cases h
theorem z1d {b:Bool} {p:Prop} (h:chk b p):b=true∧p:=by cases b<;>first | exact h.elim | exact ⟨rfl,h⟩

theorem zd6 (k:FloatKind) (x y:Nat) (o:Option Nat) (ho:∀r,o=some r→cn k r=r) (w:World):
  ∃r w',((match o with | some r=>pure (.float k r) | none=>do pure (.float k (←choose (.nanBits k x y))):Sem Value).run P w=.ok (.float k r) w')∧cn k r=o.getD (qnan k)∧Drew w w':=by
 cases o with
 | some r=>exact ⟨r,w,rfl,ho r rfl,.refl w⟩
 | none=>exact ⟨_,w.drew,rfl,zlr k x y _,.drew w⟩

theorem zdh (op:BinOp) (k:FloatKind) (x y:Nat) (w:World) (o:Option Nat)
  (h:(op=.add∧o=k.format.add x y)∨(op=.sub∧o=k.format.sub x y)∨(op=.mul∧o=k.format.mul x y)∨(op=.quo∧o=k.format.div x y)):
  ∃r w',(Op.floatArith op k x y).run P w=.ok (.float k r) w'∧cn k r=o.getD (qnan k)∧Drew w w':=by
 rcases h with ⟨rfl,rfl⟩ | ⟨rfl,rfl⟩ | ⟨rfl,rfl⟩ | ⟨rfl,rfl⟩
 ·exact zd6 k x y _ (fun r h=>zyo h) w
 ·exact zd6 k x y _ (fun r h=>z12f h) w
 ·exact zd6 k x y _ (fun r h=>z11e h) w
 ·exact zd6 k x y _ (fun r h=>zz1 h) w

theorem z3q {op:BinOp} {k:FloatKind} {x y:Nat} {f:FloatKind→Nat→Nat→Nat} {o:Option Nat} (hf:f k (cn k x) (cn k y)=o.getD (qnan k))
  (h:(op=.add∧o=k.format.add x y)∨(op=.sub∧o=k.format.sub x y)∨(op=.mul∧o=k.format.mul x y)∨(op=.quo∧o=k.format.div x y))
  {K:Value→Prop} (hk:K (.float k (f k (cn k x) (cn k y)))):VOut P ρ (Op.floatArith op k x y) w K:=by
 obtain ⟨r,w',h1,h2,h3⟩:=zdh (P:=P) op k x y w o h
 exact ⟨_,hk,_,w',h1,.float k _ r (by rw [hf,h2]),h3⟩

theorem zw8 (o:Option Ordering):(o.map Ordering.swap==some .lt)=(o==some .gt):=by cases o with | none=>rfl | some x=>cases x<;>rfl
theorem z14q (o:Option Ordering):(o.map Ordering.swap==some .eq)=(o==some .eq):=by cases o with | none=>rfl | some x=>cases x<;>rfl

def z5a (op:BinOp) (k:FloatKind) (x y:Nat):Sem Value:=
 match op with
 | .add | .sub | .mul | .quo=>Op.floatArith op k x y
 | _=>Op.floatCmp op k x y
def zos (op:BinOp) (k:IntKind) (x y:Int):Sem Value:=
 match op with
 | .add | .sub | .mul=>Op.intArith op k x y
 | .quo | .rem=>Op.intDiv op k x y
 | .and | .or | .xor | .andNot=>Op.intBits op k x y
 | _=>Op.intCmp op x y
def zun:Value→Bool
 | .nilIface | .agg _=>false
 | _=>true

theorem zjs {op:BinOp} {k:FloatKind} {x y:Nat} {K:Value→Prop} (h:z9p op k (cn k x) (cn k y) K):
  VOut P ρ (z5a op k x y) w K:=by
 unfold z9p at h
 split at h
 ·exact z3q (f:=fadd) (z15u k x y) (.inl ⟨rfl,rfl⟩) h
 ·exact z3q (f:=fsub) (z16f k x y) (.inr (.inl ⟨rfl,rfl⟩)) h
 ·exact z3q (f:=fmul) (z16b k x y) (.inr (.inr (.inl ⟨rfl,rfl⟩))) h
 ·exact z3q (f:=fdiv) (z15x k x y) (.inr (.inr (.inr ⟨rfl,rfl⟩))) h
 ·exact .plain h (by simp [z5a,Op.floatCmp,feq,z5c]<;>rfl) (.bool _)
 ·exact .plain h (by simp [z5a,Op.floatCmp,feq,z5c]<;>rfl) (.bool _)
 ·exact .plain h (by simp [z5a,Op.floatCmp,flt,z5c]) (.bool _)
 ·exact .plain h (by simp [z5a,Op.floatCmp,fle,z5c]) (.bool _)
 ·exact .plain h (by simp [z5a,Op.floatCmp,flt,z5c,zf5 k x y,zw8]) (.bool _)
 ·exact .plain h (by simp [z5a,Op.floatCmp,fle,z5c,zf5 k x y,zw8,z14q]) (.bool _)
 ·exact h.elim

theorem zry {op:BinOp} {k:IntKind} {x y:Int} {K:Value→Prop} (h:zge op k x y K) (hl:op≠.shl) (hr:op≠.shr):
  VOut P ρ (zos op k x y) w K:=by
 cases op<;>simp only [zge] at h
 case add=>exact .plain h rfl (.int _ _)
 case sub=>exact .plain h rfl (.int _ _)
 case mul=>exact .plain h rfl (.int _ _)
 case quo=>exact .plain h.2 (by simp [zos,Op.intDiv,h.1]) (.int _ _)
 case rem=>exact .plain h.2 (by simp [zos,Op.intDiv,h.1]) (.int _ _)
 case and=>exact .plain h rfl (.int _ _)
 case or=>exact .plain h rfl (.int _ _)
 case xor=>exact .plain h rfl (.int _ _)
 case andNot=>exact .plain h rfl (.int _ _)
 case eql=>exact .plain h rfl (.bool _)
 case neq=>exact .plain h rfl (.bool _)
 case lss=>exact .plain h rfl (.bool _)
 case leq=>exact .plain h rfl (.bool _)
 case gtr=>exact .plain h rfl (.bool _)
 case geq=>exact .plain h rfl (.bool _)

theorem zz3 {d:Nat} {xs ys xs' ys':Array Value} (hx:VRs ρ xs.toList xs'.toList) (hy:VRs ρ ys.toList ys'.toList):∀(fs:List Field) (r:Bool) (K:Bool→Prop),(∀f ∈ fs,f.name≠ "_")→zja P xs ys fs r K→
  ∃b,K (r && b)∧(Op.eqFields (d+1) xs' ys' fs).run P w=.ok b w:=by
 intro fs
 induction fs with
 | nil=>intro r K _ h;exact ⟨true,by rw [Bool.and_true];exact h,rfl⟩
 | cons f fs ih=>
  intro r K hn h
  have at_:∀{zs zs':Array Value} {v v':Value},VRs ρ zs.toList zs'.toList→zs[f.offset]? =some v→zs'[f.offset]? =some v'→VR ρ v v':=fun hz a b=>hz.2 f.offset _ _ (by simpa using a) (by simpa using b)
  have get_:∀{zs zs':Array Value} {v:Value},VRs ρ zs.toList zs'.toList→zs[f.offset]? =some v→∃v',zs'[f.offset]? =some v'∧VR ρ v v':=fun hz a=>by
   obtain ⟨v',b,c⟩:=hz.get (i:=f.offset) (by simpa using a)
   exact ⟨v',by simpa using b,c⟩
  have go:∀(a b:Value) (c:Bool),(part f.type xs' f.offset).run P w=.ok a w→(part f.type ys' f.offset).run P w=.ok b w→(Op.equalIn (d+1) f.type a b).run P w=.ok c w→zja P xs ys fs (r && c) K→
    ∃b,K (r && b)∧(Op.eqFields (d+1) xs' ys' (f::fs)).run P w=.ok b w:=by
   intro a b c h1 h2 h3 h4
   obtain ⟨s,k,e⟩:=ih _ K (fun g hg=>hn g (List.mem_cons_of_mem _ hg)) h4
   refine ⟨c && s,by rw [←Bool.and_assoc];exact k,?_⟩
   unfold Op.eqFields
   rw [if_pos (hn f (List.mem_cons_self ..))]
   simp only [Sem.run_bind,h1,h2,h3,Result.andThen_ok,Sem.run_ite]
   cases c
   ·rfl
   ·exact e
  unfold zja at h
  split at h
  ·rename_i k0 k a k' b hu e1 e2
   obtain ⟨hk,h9⟩:=z1d h
   obtain rfl:=zwa hk
   obtain ⟨v1,g1,r1⟩:=get_ hx e1
   obtain ⟨v2,g2,r2⟩:=get_ hy e2
   cases r1;cases r2
   exact go _ _ _ (by simp [part,isAgg,run_underlying hu,g1]) (by simp [part,isAgg,run_underlying hu,g2]) (run_equalIn_int w d f.type k k0 a b hu) h9
  ·rename_i k0 k a k' b hu e1 e2
   obtain ⟨hk,h9⟩:=z1d h
   obtain rfl:=zg8 hk
   obtain ⟨v1,g1,r1⟩:=get_ hx e1
   obtain ⟨v2,g2,r2⟩:=get_ hy e2
   cases r1 with
   | float _ _ a' ea=>
   cases r2 with
   | float _ _ b' eb=>
   subst ea;subst eb
   refine go (.float k a') (.float k b') (feq k (cn k a') (cn k b')) (by simp [part,isAgg,run_underlying hu,g1]) (by simp [part,isAgg,run_underlying hu,g2]) ?_ h9
   simp [Op.equalIn,run_underlying hu,Op.floatEq,feq,z5c]
  ·exact h.elim
theorem zj1 {t:TypeId} {xs ys xs' ys':Array Value} (hx:VRs ρ xs.toList xs'.toList) (hy:VRs ρ ys.toList ys'.toList) {K:Bool→Prop} (h:zeu P t xs ys K):
  P.eqGuardType P.depth t=false∧∃b,K b∧(Op.equalIn 10000 t (.agg xs') (.agg ys')).run P w=.ok b w:=by
 unfold zeu at h
 split at h
 ·rename_i fs hu
  obtain ⟨hc,h⟩:=z1d h
  unfold zx0 at hc
  rw [Bool.and_eq_true,Bool.and_eq_true,List.all_eq_true] at hc
  obtain ⟨⟨c1,c2⟩,c3⟩:=hc
  have hf:P.fieldsOf t=fs:=by unfold Program.fieldsOf;rw [hu]
  obtain ⟨b,hb,e⟩:=zz3 (d:=9998) (w:=w) hx hy fs.toList true K (fun f hm=>by simpa using c3 f hm) h
  refine ⟨by simpa using c1,b,by simpa using hb,?_⟩
  have:=run_equalIn_struct w 9999 t xs' ys' (by rw [hf];exact hu) (by simpa using c2)
  rw [hf] at this
  exact this.trans e
 ·exact h.elim
theorem zys {op:BinOp} {t:TypeId} {x y x' y':Value} (ox oy:Operand) {K:Value→Prop} (h:binK P op t x y K) (hx:VR ρ x x') (hy:VR ρ y y'):
  VOut P ρ (do eqGuard op t ox oy x' y';binOp op t x' y') w K:=by
 have guard:∀a b:Value,zun a=true→(eqGuard op t ox oy a b).run P w=.ok () w:=by
  intro a b hab
  unfold eqGuard
  cases op<;>simp only [Bool.not_true,Bool.not_false,if_true,Bool.false_eq_true,if_false]<;>first | rfl | skip
  all_goals (split<;>first | cases hab | rfl)
 have go:VOut P ρ (binOp op t x' y') w K→zun x'=true→VOut P ρ (do eqGuard op t ox oy x' y';binOp op t x' y') w K:=by
  rintro ⟨v,hk,v',w',hr,hv⟩ hg
  refine ⟨v,hk,v',w',?_,hv⟩
  rw [Sem.run_bind,guard _ _ hg]
  exact hr
 cases hx with
 | int k a=>
  cases hy with
  | int k' b=>
   refine go ?_ rfl
   simp only [binK] at h
   split at h
   ·have hb:¬b<0:=by omega
    exact .plain h.2 (by simp [binOp,Op.shift,hb]) (.int _ _)
   ·have hb:¬b<0:=by omega
    exact .plain h.2 (by simp [binOp,Op.shift,hb]) (.int _ _)
   ·rename_i h1 h2
    obtain ⟨hk,h9⟩:=z1d h
    obtain rfl:=zwa hk
    obtain ⟨v,hkv,v',w',hr,hv⟩:=zry (P:=P) (ρ:=ρ) (w:=w) h9 h1 h2
    refine ⟨v,hkv,v',w',?_,hv⟩
    rw [←hr]
    cases op<;>first | exact (h1 rfl).elim | exact (h2 rfl).elim | simp [binOp,zos]
  | _=>exact h.elim
 | float k a b e=>
  cases hy with
  | float k' a' b' e'=>
   refine go ?_ rfl
   simp only [binK] at h
   obtain ⟨hk,h9⟩:=z1d h
   obtain rfl:=zg8 hk
   subst e;subst e'
   obtain ⟨v,hkv,v',w',hr,hv⟩:=zjs (P:=P) (ρ:=ρ) (w:=w) h9
   refine ⟨v,hkv,v',w',?_,hv⟩
   rw [←hr]
   cases op<;>simp [binOp,z5a]
  | _=>exact h.elim
 | bool a=>
  cases hy with
  | bool b=>
   refine go ?_ rfl
   simp only [binK] at h
   have key:P.underlying t=some .bool→(Op.equal t (.bool a) (.bool b)).run P w=.ok (a==b) w:=by
    intro hu
    have:∀d,(Op.equalIn (d+1) t (.bool a) (.bool b)).run P w=.ok (a==b) w:=fun d=>by simp [Op.equalIn,run_underlying hu]
    exact this 9999
   split at h
   ·rename_i hu
    exact .plain h (by simp [binOp,key hu]) (.bool _)
   ·rename_i hu
    exact .plain h (by simp [binOp,key hu]) (.bool _)
   ·exact h.elim
  | _=>exact h.elim
 | string a=>
  cases hy with
  | string b=>
   refine go ?_ rfl
   simp only [binK] at h
   split at h
   ·refine .plain h.2 ?_ (.string _)
    have h1:¬(((a.size+b.size:Nat):Int) > IntKind.i64.max):=by
     have:IntKind.i64.max=2 ^ 63-1:=rfl
     omega
    simp only [binOp,Op.stringOp,if_neg h1];rfl
   ·exact .plain h (by simp [binOp,Op.stringOp]) (.bool _)
   ·exact .plain h (by simp [binOp,Op.stringOp]) (.bool _)
   ·exact h.elim
  | _=>exact h.elim
 | agg xs xs' x1 x2=>
  cases hy with
  | agg ys ys' y1 y2=>
   simp only [binK] at h
   split at h
   ·obtain ⟨g,b,hb,e⟩:=zj1 (w:=w) (VRs.arr x1 x2) (VRs.arr y1 y2) h
    refine .plain hb ?_ (.bool _)
    rw [Sem.run_bind,run_eqGuard_agg (w:=w) _ t ox oy xs' ys' g,Result.andThen_ok,run_eql_struct,e];rfl
   ·obtain ⟨g,b,hb,e⟩:=zj1 (w:=w) (VRs.arr x1 x2) (VRs.arr y1 y2) h
    refine .plain hb ?_ (.bool _)
    rw [Sem.run_bind,run_eqGuard_agg (w:=w) _ t ox oy xs' ys' g,Result.andThen_ok,run_neq_struct,e];rfl
   ·exact h.elim
  | _=>exact h.elim
 | _=>exact h.elim

theorem z18t {op:UnOp} {x x':Value} {K:Value→Prop} (h:unK op x K) (hx:VR ρ x x'):VOut P ρ (Op.unary op x') w K:=by
 cases hx<;>cases op<;>simp only [unK] at h<;>first | exact h.elim | skip
 ·exact .plain h (by simp [Op.unary]) (.bool _)
 ·exact .plain h (by simp [Op.unary,Op.intArith]) (.int _ _)
 ·rename_i k a b e
  exact .plain h (by simp [Op.unary];rfl) (.float k _ _ (by rw [e,zlq]))
 ·rename_i k a a' b b' e e'
  exact .plain h (by simp [Op.unary];exact ⟨rfl,rfl⟩) (.complex k _ _ _ _ (by rw [e,zlq]) (by rw [e',zlq]))

theorem zh8 (b:Nat) (w:World):∃r w',(Conv.floatToFloat .f32 b .f64).run P w=.ok (.float .f64 r) w'∧cn .f64 r=zh (cn .f32 b)∧Drew w w':=by
 unfold Conv.floatToFloat
 rw [if_neg (by decide)]
 cases h:FloatKind.f32.decode b with
 | nan s t=>
  refine ⟨_,w.drew,rfl,?_,.drew w⟩
  rw [zca,z1f (by rw [h];rfl)]
  have:∀s t,FloatKind.f32.decode (qnan .f32)=.nan s t→qnan .f64=zh (qnan .f32):=fun s t e=>by unfold zh;rw [e]
  obtain ⟨s',t',e⟩:=z1i _ (z5h .f32)
  exact this s' t' e
 | infinity s=>
  refine ⟨_,w,rfl,?_,.refl w⟩
  rw [zo (k:=.f32) (by rw [h];rfl),z3b .f64 rfl]
  unfold zh;rw [h]
 | number s m e=>
  refine ⟨FloatKind.f64.encode (.number s m e),w,?_,?_,.refl w⟩
  ·simp only [z7m b s m e h,Bool.false_eq_true,if_false];rfl
  ·rw [zo (k:=.f32) (by rw [h];rfl),z3b .f64 rfl]
   unfold zh;rw [h]

theorem zai (b r:Nat) (w:World) (hr:zl (cn .f64 b)=some r):∃r' w',(Conv.floatToFloat .f64 b .f32).run P w=.ok (.float .f32 r') w'∧r=cn .f32 r'∧Drew w w':=by
 unfold Conv.floatToFloat
 rw [if_neg (by decide)]
 cases h:FloatKind.f64.decode b with
 | nan s t=>
  refine ⟨_,w.drew,rfl,?_,.drew w⟩
  rw [zca]
  obtain ⟨s',t',e⟩:=z1i (FloatKind.f64.decode (cn .f64 b)) ((zf0 .f64 b).trans (by rw [h];rfl))
  unfold zl at hr;rw [e] at hr
  exact (Option.some.inj hr).symm
 | infinity s=>
  refine ⟨_,w,rfl,?_,.refl w⟩
  rw [zo (k:=.f64) (by rw [h];rfl)] at hr
  unfold zl at hr;rw [h] at hr
  rw [z3b .f32 rfl];exact (Option.some.inj hr).symm
 | number s m e=>
  rw [zo (k:=.f64) (by rw [h];rfl)] at hr
  unfold zl at hr;rw [h] at hr
  simp only [] at hr
  split at hr
  ·cases hr
  ·rename_i hi
   refine ⟨FloatKind.f32.encode (.number s m e),w,?_,?_,.refl w⟩
   ·simp only [hi,Bool.false_eq_true,if_false];rfl
   ·rw [z3b .f32 rfl];exact (Option.some.inj hr).symm

end
end Go.Proofs.Ytbnplefohfamnaa.Ai
