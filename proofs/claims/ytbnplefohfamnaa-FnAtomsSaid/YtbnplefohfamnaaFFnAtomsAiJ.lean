/- A region whose order is drawn: one walk in the order of the text serves every order, where what is not ordered does not z8m. -/
import Derived.Test.YtbnplefohfamnaaFFnAtomsAiI
set_option linter.unusedSimpArgs false
set_option linter.unusedVariables false
namespace Go.Proofs.Ytbnplefohfamnaa.Ai
open Go Go.RowKit

def Det (f:(Value→Prop)→Prop):Prop:=∀K,f K→∃v,K v∧∀K2:Value→Prop,K2 v→f K2

theorem Det.pure (v:Value):Det fun K=>K v:=fun K h=>⟨v,h,fun _ h=>h⟩
theorem Det.fail:Det fun _=>False:=fun _ h=>h.elim
theorem Det.and {p:Prop} {f:(Value→Prop)→Prop} (hf:Det f):Det fun K=>p∧f K:=fun K h=>let ⟨v,h1,h2⟩:=hf K h.2;⟨v,h1,fun K2 k=>⟨h.1,h2 K2 k⟩⟩
theorem Det.chk {b:Bool} {f:(Value→Prop)→Prop} (hf:Det f):Det fun K=>Ai.chk b (f K):=fun K h=>by
 cases b
 ·exact h.elim
 ·exact hf K h
theorem Det.ex {α:Type} {p:α→Prop} {g:α→Value}:Det fun K=>∃x,p x∧K (g x):=fun K h=>let ⟨x,h1,h2⟩:=h;⟨g x,h2,fun K2 k=>⟨x,h1,k⟩⟩
theorem Det.ex22 {α β:Type} {p:α→β→Prop} {q:α→β→Prop} {g:α→β→Value}:Det fun K=>∃x y,p x y∧q x y∧K (g x y):=fun K h=>let ⟨x,y,h1,h2,h3⟩:=h;⟨g x y,h3,fun K2 k=>⟨x,y,h1,h2,k⟩⟩
theorem Det.mono {f:(Value→Prop)→Prop} (hf:Det f) {K K':Value→Prop} (h:∀v,K v→K' v) (hk:f K):f K':=let ⟨v,h1,h2⟩:=hf K hk;h2 K' (h v h1)

def Fun1 (f:(Value→Prop)→Prop):Prop:=∀K,f K→∃v,∀K2:Value→Prop,f K2↔K2 v
theorem Fun1.det {f:(Value→Prop)→Prop} (hf:Fun1 f):Det f:=fun K h=>let ⟨v,h1⟩:=hf K h;⟨v,(h1 K).1 h,fun K2 k=>(h1 K2).2 k⟩
theorem Fun1.pure (v:Value):Fun1 fun K=>K v:=fun K h=>⟨v,fun K2=>Iff.rfl⟩
theorem Fun1.fail:Fun1 fun _=>False:=fun _ h=>h.elim
theorem Fun1.and {p:Prop} {f:(Value→Prop)→Prop} (hf:Fun1 f):Fun1 fun K=>p∧f K:=fun K h=>let ⟨v,h1⟩:=hf K h.2;⟨v,fun K2=>⟨fun k=>(h1 K2).1 k.2,fun k=>⟨h.1,(h1 K2).2 k⟩⟩⟩
theorem Fun1.chk {b:Bool} {f:(Value→Prop)→Prop} (hf:Fun1 f):Fun1 fun K=>Ai.chk b (f K):=fun K h=>by
 cases b
 ·exact h.elim
 ·exact hf K h
theorem Fun1.bind {f:(Value→Prop)→Prop} {g:Value→(Value→Prop)→Prop} (hf:Fun1 f) (hg:∀v,Fun1 (g v)):Fun1 fun K=>f fun v=>g v K:=fun K h=>by
 obtain ⟨v,h1⟩:=hf _ h
 obtain ⟨u,g1⟩:=hg v K ((h1 _).1 h)
 exact ⟨u,fun K2=>(h1 _).trans (g1 K2)⟩

theorem zag {z:Value} {K K':Value→Prop} (h:∀v,K v→K' v) (hk:zdm z K):zdm z K':=by
 unfold zdm at hk ⊢
 split at hk
 ·obtain ⟨a,hk⟩:=hk;exact ⟨a,h _ hk⟩
 ·obtain ⟨a,hk⟩:=hk;exact ⟨a,h _ hk⟩
 ·obtain ⟨a,hk⟩:=hk;exact ⟨a,h _ hk⟩
 ·obtain ⟨a,b,hk⟩:=hk;exact ⟨a,b,h _ hk⟩
 ·obtain ⟨a,hk⟩:=hk;exact ⟨a,h _ hk⟩
 ·obtain ⟨a,hk⟩:=hk;exact ⟨a,h _ hk⟩
 ·obtain ⟨a,b,c,hk⟩:=hk;exact ⟨a,b,c,h _ hk⟩
 ·obtain ⟨a,hk⟩:=hk;exact ⟨a,h _ hk⟩
theorem zou {z:Value} {K:Value→Prop} (hk:zdm z K):∃v,K v∧∀K2:Value→Prop,K2 v→zdm z K2:=by
 unfold zdm at hk ⊢
 split at hk
 ·obtain ⟨a,hk⟩:=hk;exact ⟨_,hk,fun K2 k=>⟨a,k⟩⟩
 ·obtain ⟨a,hk⟩:=hk;exact ⟨_,hk,fun K2 k=>⟨a,k⟩⟩
 ·obtain ⟨a,hk⟩:=hk;exact ⟨_,hk,fun K2 k=>⟨a,k⟩⟩
 ·obtain ⟨a,b,hk⟩:=hk;exact ⟨_,hk,fun K2 k=>⟨a,b,k⟩⟩
 ·obtain ⟨a,hk⟩:=hk;exact ⟨_,hk,fun K2 k=>⟨a,k⟩⟩
 ·obtain ⟨a,hk⟩:=hk;exact ⟨_,hk,fun K2 k=>⟨a,k⟩⟩
 ·obtain ⟨a,b,c,hk⟩:=hk;exact ⟨_,hk,fun K2 k=>⟨a,b,c,k⟩⟩
 ·obtain ⟨a,hk⟩:=hk;exact ⟨_,hk,fun K2 k=>⟨a,k⟩⟩
theorem zwc {zs:List Value}:∀{K:List Value→Prop},zco zs K→∃l,K l∧∀K2:List Value→Prop,K2 l→zco zs K2:=by
 induction zs with
 | nil=>intro K h;exact ⟨[],h,fun K2 k=>k⟩
 | cons z zs ih=>
  intro K h
  obtain ⟨v,h1,h2⟩:=zou h
  obtain ⟨l,g1,g2⟩:=ih h1
  exact ⟨v::l,g1,fun K2 k=>h2 _ (g2 _ k)⟩

section
variable {P:Program} {H:zd} {env:Env}

theorem zm7 (op:BinOp) (k:IntKind) (x y:Int):Fun1 (zge op k x y):=by
 cases op<;>first | exact .pure _ | exact .fail | exact .and (.pure _)
theorem zgb (op:BinOp) (k:FloatKind) (x y:Nat):Fun1 (z9p op k x y):=by
 cases op<;>first | exact .pure _ | exact .fail
theorem zw0 (xs ys:Array Value) (g:Bool→Value):∀(fs:List Field) (r:Bool),Fun1 (fun K=>zja P xs ys fs r fun b=>K (g b)):=by
 intro fs
 induction fs with
 | nil=>intro r;exact .pure _
 | cons f fs ih=>
  intro r
  unfold zja
  split
  ·exact .chk (ih _)
  ·exact .chk (ih _)
  ·exact .fail
theorem zew (t:TypeId) (xs ys:Array Value) (g:Bool→Value):Fun1 (fun K=>zeu P t xs ys fun b=>K (g b)):=by
 unfold zeu
 split
 ·exact .chk (zw0 _ _ g _ _)
 ·exact .fail
theorem z10j (op:BinOp) (t:TypeId) (x y:Value):Fun1 (binK P op t x y):=by
 unfold binK
 split
 ·split
  ·exact .and (.pure _)
  ·exact .and (.pure _)
  ·exact .chk (zm7 _ _ _ _)
 ·exact .chk (zgb _ _ _ _)
 ·split
  ·exact .pure _
  ·exact .pure _
  ·exact .fail
 ·split
  ·exact .and (.pure _)
  ·exact .pure _
  ·exact .pure _
  ·exact .fail
 ·split
  ·exact zew _ _ _ _
  ·exact zew _ _ _ fun r=>.bool (!r)
  ·exact .fail
 ·exact .fail
theorem z16h (op:UnOp) (x:Value):Fun1 (unK op x):=by
 unfold unK
 split<;>first | exact .pure _ | exact .fail
theorem zj8 (s d:TypeId) (x:Value):Det (zug P s d x H):=by
 unfold zug
 split
 ·exact .pure _
 ·exact .pure _
 ·split
  ·exact .pure _
  ·exact .ex
  ·exact .pure _
  ·exact .pure _
 ·exact .ex
 ·exact .pure _
 ·exact .pure _
 ·exact .pure _
 ·exact .ex22
 ·exact .pure _
 ·split
  ·exact .ex
  ·exact .fail
 ·exact .fail
theorem zj9 (t:TypeId) (x:Value):Det (z9b P t x H):=by
 unfold z9b
 split
 ·split
  ·intro K h
   obtain ⟨l,h1,h2⟩:=zwc h
   exact ⟨_,h1.2,fun K2 k=>h2 _ ⟨h1.1,k⟩⟩
  ·intro K h
   obtain ⟨l,h1,h2⟩:=zou h
   exact ⟨_,h1.2,fun K2 k=>h2 _ ⟨h1.1,k⟩⟩
  ·exact .fail
 ·exact .fail
theorem zdj (s:TypeId) (x:Value) (f:Nat):Fun1 (z5r P s x f):=by
 unfold z5r
 split
 ·split
  ·split
   ·exact .pure _
   ·exact .fail
  ·exact .fail
 ·exact .fail
theorem zw1 (t:TypeId) (cs:Array Value) (off:Nat):Fun1 (zwy P t cs off):=by
 unfold zwy
 split
 ·exact .pure _
 ·split
  ·exact .pure _
  ·exact .fail
 ·exact .fail
theorem zrp (s:TypeId) (x:Value) (f:Nat):Fun1 (zjo P s x f):=by
 unfold zjo
 split
 ·split
  ·exact zw1 _ _ _
  ·exact .fail
 ·exact .fail
theorem zdk (t:TypeId) (x i:Value):Fun1 (z5s P t x i):=by
 unfold z5s
 split
 ·split
  ·exact .and (.and fun K h=>by
    obtain ⟨b,off,rfl,hk⟩:=h
    exact ⟨_,fun K2=>⟨fun ⟨b',off',e,k⟩=>by cases e;exact k,fun k=>⟨b,off,rfl,k⟩⟩⟩)
  ·exact .fail
 ·split
  ·exact .and (.and (.pure _))
  ·exact .fail
 ·exact .fail
theorem zrq (t:TypeId) (x i:Value):Fun1 (zk0 P t x i):=by
 unfold zk0
 split
 ·intro K h;obtain ⟨c,h1,h2,h3⟩:=h;exact ⟨_,fun K2=>⟨fun ⟨c',_,e,k⟩=>by rw [h2] at e;cases e;exact k,fun k=>⟨c,h1,h2,k⟩⟩⟩
 ·exact .fail
theorem z7q (v:Option Value) (d:Int) {f:Int→(Value→Prop)→Prop} (hf:∀j,Fun1 (f j)):Fun1 fun K=>zb2 v d fun j=>f j K:=by
 unfold zb2
 split
 ·exact hf _
 ·exact hf _
 ·exact .fail
theorem zrr (t:TypeId) (x:Value) (lo hi mx:Option Value):Fun1 (zky P t x lo hi mx):=by
 unfold zky
 split
 ·split
  ·exact z7q _ _ fun l=>z7q _ _ fun h=>.and (.and (.and (.pure _)))
  ·exact .fail
 ·exact z7q _ _ fun l=>z7q _ _ fun h=>.and (.and (.and (.pure _)))
 ·exact .fail
theorem zro (t:TypeId) (ps:List (Nat×Value)):Fun1 (zj5 P t ps):=by
 unfold zj5
 split
 ·refine .chk ?_
  split
  ·exact .pure _
  ·exact .fail
 ·exact .fail
theorem z10k (t:TypeId) (x:Value):Fun1 (lenK P t x):=by
 unfold lenK
 split<;>first | exact .pure _ | exact .fail
theorem z3l (mx:Bool) (x y:Value):Fun1 (z5m mx x y):=by
 unfold z5m
 split
 ·exact .pure _
 ·exact .chk (.pure _)
 ·exact .fail
theorem Det.bind {f:(Value→Prop)→Prop} {g:Value→(Value→Prop)→Prop} (hf:Det f) (hg:∀v,Det (g v)):Det fun K=>f fun v=>g v K:=fun K h=>by
 obtain ⟨v,h1,h2⟩:=hf _ h
 obtain ⟨u,g1,g2⟩:=hg v K h1
 exact ⟨u,g1,fun K2 k=>h2 _ (g2 K2 k)⟩

inductive Touch where
 | free | quiet | loud
 deriving DecidableEq

def z8m (q:Nat→Bool×Bool) (o:Oper):Touch:=
 match o.op with
 | .move _ | .assign _ | .pick .. | .build .. | .nilCheck _ | .binOp .. | .unOp .. | .makeFunc .. | .slice .. | .fieldAddr .. | .field .. | .indexAddr .. | .index .. | .extract ..=>.free
 | .load .. | .convert ..=>.quiet
 | .call c=>match c.callee with
  | .builtin .len | .builtin .min | .builtin .max | .builtin .real | .builtin .imag | .builtin .complex=>.free
  | .value (.func g)=>cond (q g).1 .quiet .loud
  | .value (.tmp _)=>cond (q markV).2 .quiet .loud
  | _=>.loud
 | _=>.loud

theorem z8h (t:Bool) (F:Bool→Prop):z8u t F↔F t:=by cases t<;>exact Iff.rfl

theorem zj6 {b:Builtin} (hb:b=.len∨b=.min∨b=.max∨b=.real∨b=.imag∨b=.complex) {ts:Array TypeId} {args:List Value} {K:Value→zd→Prop} (h:z4y P b ts args H K):
  ∃v,∀(H2:zd) (K2:Value→zd→Prop),z4y P b ts args H2 K2↔K2 v H2:=by
 have det:∀(f:(Value→Prop)→Prop),Fun1 f→f (K · H)→∃v,∀(H2:zd) (K2:Value→zd→Prop),f (K2 · H2)↔K2 v H2:=fun f hf h=>
  let ⟨v,h1⟩:=hf _ h;⟨v,fun H2 K2=>h1 (K2 · H2)⟩
 unfold z4y at h ⊢
 split at h
 ·simp at hb
 ·simp at hb
 ·exact det _ (z10k _ _) h
 ·exact det _ (z3l _ _ _) h
 ·exact det _ (z3l _ _ _) h
 ·exact det _ ((z3l _ _ _).bind fun v=>z3l _ _ _) h
 ·exact det _ ((z3l _ _ _).bind fun v=>z3l _ _ _) h
 ·exact ⟨_,fun _ _=>Iff.rfl⟩
 ·exact ⟨_,fun _ _=>Iff.rfl⟩
 ·exact det _ (.chk (.pure _)) h
 ·exact h.elim

theorem zbt {q:Nat→Bool×Bool} {o:Oper} (ht:z8m q o=.free) {ev:Operand→Value} {K:Value→zd→Prop} (h:opK P env o ev H K):
  ∃v,∀(H2:zd) (K2:Value→zd→Prop),opK P env o ev H2 K2↔K2 v H2:=by
 have det:∀(f:(Value→Prop)→Prop),Fun1 f→f (K · H)→∃v,∀(H2:zd) (K2:Value→zd→Prop),f (K2 · H2)↔K2 v H2:=fun f hf h=>
  let ⟨v,h1⟩:=hf _ h;⟨v,fun H2 K2=>h1 (K2 · H2)⟩
 unfold z8m at ht
 unfold opK at h ⊢
 split at ht<;>(try cases ht)<;>(rename_i hop;simp only [hop] at h ⊢)
 ·exact ⟨_,fun _ _=>Iff.rfl⟩
 ·exact ⟨_,fun _ _=>Iff.rfl⟩
 ·unfold zg0 at *
  split at h
  ·rename_i t ht
   rw [z8h] at h
   exact ⟨_,fun H2 K2=>z8h t _⟩
  ·exact h.elim
 ·exact det _ (zro _ _) h
 ·split at h
  ·exact ⟨_,fun _ _=>Iff.rfl⟩
  ·exact ⟨_,fun _ _=>Iff.rfl⟩
  ·exact h.elim
 ·exact det _ (z10j _ _ _ _) h
 ·exact det _ (z16h _ _) h
 ·exact ⟨_,fun _ _=>Iff.rfl⟩
 ·exact det _ (zrr _ _ _ _ _) h
 ·exact det _ (zdj _ _ _) h
 ·exact det _ (zrp _ _ _) h
 ·exact det _ (zdk _ _ _) h
 ·exact det _ (zrq _ _ _) h
 ·split at h
  ·split at h
   ·exact ⟨_,fun _ _=>Iff.rfl⟩
   ·exact h.elim
  ·exact h.elim
 ·rename_i c
  obtain ⟨callee,args,argTypes⟩:=c
  cases callee with
  | invoke r m=>simp at ht
  | value f=>
   cases f with
   | func g=>simp only at ht;cases hq:(q g).1<;>rw [hq] at ht<;>cases ht
   | tmp g=>simp only at ht;cases hq:(q markV).2<;>rw [hq] at ht<;>cases ht
   | _=>simp at ht
  | builtin b=>
   have hb:b=.len∨b=.min∨b=.max∨b=.real∨b=.imag∨b=.complex:=by
    cases b<;>simp at ht<;>simp
   simp only [] at h ⊢
   exact zj6 hb h
theorem zct {o:Oper} (henv:∀g,FnOk P g (env g)) (ht:z8m (fun g=>((env g).quiet,(env g).tame)) o≠.loud) {tm:List Value} (hv:zh6 env o (evT tm)=true) {K:Value→zd→Prop} (h:opK P env o (evT tm) H K):
  ∃v,K v H∧∀(K2:Value→zd→Prop),K2 v H→opK P env o (evT tm) H K2:=by
 cases hf:z8m (fun g=>((env g).quiet,(env g).tame)) o with
 | loud=>exact absurd hf ht
 | free=>obtain ⟨v,h1⟩:=zbt hf h;exact ⟨v,(h1 H K).1 h,fun K2 k=>(h1 H K2).2 k⟩
 | quiet=>
  have det:∀(f:(Value→Prop)→Prop),Det f→f (K · H)→∃v,K v H∧∀(K2:Value→zd→Prop),K2 v H→f (K2 · H):=fun f hf h=>
   let ⟨v,h1,h2⟩:=hf _ h;⟨v,h1,fun K2 k=>h2 (K2 · H) k⟩
  unfold z8m at hf
  unfold opK at h ⊢
  split at hf<;>(try cases hf)<;>(rename_i hop;simp only [hop] at h ⊢)
  ·exact det _ (zj9 _ _) h
  ·exact det _ (zj8 _ _ _) h
  ·rename_i c
   obtain ⟨callee,args,argTypes⟩:=c
   cases callee with
   | invoke r m=>simp at hf
   | builtin b=>cases b<;>simp at hf
   | value f=>
    cases f with
    | func g=>
     simp only at hf
     cases hq:(env g).quiet with
     | false=>rw [hq] at hf;cases hf
     | true=>
      exact (henv g).quiet hq _ _ _ h
    | tmp t=>
     simp only at hf
     cases hq:(env markV).tame with
     | false=>rw [hq] at hf;cases hf
     | true=>
      simp only [zh6,hop,hq,cond_true] at hv
      dsimp only at h hv ⊢
      generalize evT tm (.tmp t)=q at h hv ⊢
      cases q with
      | func f first cap=>cases f with
       | func g=>exact (henv g).quiet hv _ _ _ h
       | _=>exact h.elim
      | _=>exact h.elim
    | _=>simp at hf

theorem zs4 {f:(Value→zd→Prop)→Prop} {K K':Value→zd→Prop} (hf:∀K,f K→∃v H',K v H'∧∀K2:Value→zd→Prop,K2 v H'→f K2) (h:∀v H',K v H'→K' v H') (hk:f K):f K':=
 let ⟨v,H',h1,h2⟩:=hf K hk;h2 K' (h v H' h1)

theorem z13e {o:Oper} {ev:Operand→Value} (hc:∀f args ts,o.op≠.call ⟨.value f,args,ts⟩) {K:Value→zd→Prop} (h:opK P env o ev H K):
  ∃v H',K v H'∧∀K2:Value→zd→Prop,K2 v H'→opK P env o ev H K2:=by
 cases hf:z8m (fun _=>(false,false)) o with
 | free=>obtain ⟨v,h1⟩:=zbt hf h;exact ⟨v,H,(h1 H K).1 h,fun K2 k=>(h1 H K2).2 k⟩
 | quiet=>
  have det:∀(f:(Value→Prop)→Prop),Det f→f (K · H)→∃v H',K v H'∧∀(K2:Value→zd→Prop),K2 v H'→f (K2 · H):=fun f hf h=>
   let ⟨v,h1,h2⟩:=hf _ h;⟨v,H,h1,fun K2 k=>h2 (K2 · H) k⟩
  unfold z8m at hf
  unfold opK at h ⊢
  split at hf<;>(try cases hf)<;>(rename_i hop;simp only [hop] at h ⊢)
  ·exact det _ (zj9 _ _) h
  ·exact det _ (zj8 _ _ _) h
  ·rename_i c
   obtain ⟨callee,args,argTypes⟩:=c
   cases callee with
   | invoke r m=>simp at hf
   | builtin b=>cases b<;>simp at hf
   | value f=>exact absurd hop (hc _ _ _)
 | loud=>
  have new:∀cells,newK cells H K→∃v H',K v H'∧∀K2:Value→zd→Prop,K2 v H'→newK cells H K2:=by
   intro cells h
   unfold newK at h ⊢
   obtain ⟨hb,h⟩:=z1d h
   rw [hb]
   exact ⟨_,_,h,fun K2 k=>k⟩
  unfold opK at h ⊢
  obtain ⟨dst,op,type,pos,after,guard⟩:=o
  cases op<;>simp only [z8m] at hf<;>(try (cases hf;done))<;>simp only [] at h ⊢
  case alloc e=>
   split at h
   ·obtain ⟨hb,h⟩:=z1d h
    obtain ⟨v,H',h1,h2⟩:=new _ h
    exact ⟨v,H',h1,fun K2 k=>by rw [hb];exact h2 K2 k⟩
   ·exact h.elim
  case box e x=>exact new _ h
  case buildSlice t n ps=>
   unfold z4i at h ⊢
   split at h
   ·split at h
    ·obtain ⟨hb,h⟩:=z1d h
     rw [hb]
     split at h
     ·rename_i hfill
      obtain ⟨hb2,h⟩:=z1d h
      exact ⟨_,_,h,fun K2 k=>by simp only [chk,cond_true,hb2];exact k⟩
     ·exact h.elim
    ·exact h.elim
   ·exact h.elim
  case store t x y=>
   unfold zpt at h ⊢
   split at h
   ·split at h
    ·obtain ⟨hb,h1,h2,h⟩:=z1d h
     exact ⟨_,_,h,fun K2 k=>by rw [hb];exact ⟨h1,h2,k⟩⟩
    ·exact h.elim
   ·exact h.elim
  case makeSlice t n c=>
   unfold z5u at h ⊢
   split at h
   ·split at h
    ·obtain ⟨hb,h1,h2,h3,h⟩:=z1d h
     exact ⟨_,_,h,fun K2 k=>by rw [hb];exact ⟨h1,h2,h3,k⟩⟩
    ·exact h.elim
   ·exact h.elim
  case call c=>
   obtain ⟨callee,args,argTypes⟩:=c
   cases callee with
   | invoke r m=>exact h.elim
   | value f=>exact absurd rfl (hc _ _ _)
   | builtin b=>
    simp only [] at h ⊢
    unfold z4y at h ⊢
    split at h
    ·obtain ⟨hb,h⟩:=z1d h
     unfold zc8 at h ⊢
     rw [hb]
     split at h
     ·split at h
      ·obtain ⟨hb2,old,new,h1,h2,h3,h4,h⟩:=z1d h
       exact ⟨_,_,h,fun K2 k=>by simp only [chk,cond_true,hb2];exact ⟨old,new,h1,h2,h3,h4,k⟩⟩
      ·exact h.elim
     ·exact h.elim
    ·unfold zyy at h ⊢
     split at h
     ·split at h
      ·obtain ⟨new,h1,b,off,h2,h3,h4,h⟩:=h
       exact ⟨_,_,h,fun K2 k=>⟨new,h1,b,off,h2,h3,h4,k⟩⟩
      ·exact h.elim
     ·exact h.elim
    ·simp at hf
    ·simp at hf
    ·simp at hf
    ·simp at hf
    ·simp at hf
    ·simp at hf
    ·simp at hf
    ·simp at hf
    ·exact h.elim

theorem z9x {o:Oper} {ev:Operand→Value} (henv:∀g,FnOk P g (env g)) {K K':Value→zd→Prop} (h:∀v H',K v H'→K' v H') (hk:opK P env o ev H K):opK P env o ev H K':=by
 by_cases hc:∃f args ts,o.op=.call ⟨.value f,args,ts⟩
 ·obtain ⟨f,args,ts,hop⟩:=hc
  unfold opK at hk ⊢
  simp only [hop] at hk ⊢
  split at hk
  ·exact (henv _).mono _ _ _ _ h hk
  ·exact hk.elim
 ·exact zs4 (fun K=>z13e fun f args ts e=>hc ⟨f,args,ts,e⟩) h hk

theorem zoz {o:Oper} {ev:Operand→Value} (henv:∀g,FnOk P g (env g)) {K:Value→zd→Prop} (hk:opK P env o ev H K):∃v H',K v H':=by
 by_cases hc:∃f args ts,o.op=.call ⟨.value f,args,ts⟩
 ·obtain ⟨f,args,ts,hop⟩:=hc
  unfold opK at hk
  simp only [hop] at hk
  split at hk
  ·exact (henv _).live _ _ _ hk
  ·exact hk.elim
 ·obtain ⟨v,H',h1,h2⟩:=z13e (fun f args ts e=>hc ⟨f,args,ts,e⟩) hk
  exact ⟨v,H',h1⟩

theorem zws {o:Oper} {ev ev':Operand→Value} (h:∀x ∈ o.op.operands,ev x=ev' x) (K:Value→zd→Prop):opK P env o ev H K=opK P env o ev' H K:=by
 obtain ⟨dst,op,type,pos,after,guard⟩:=o
 have mp:∀xs:Array Operand,(∀x ∈ xs,ev x=ev' x)→xs.toList.map ev=xs.toList.map ev':=fun xs hx=>List.map_congr_left fun x h=>hx x (by simpa using h)
 have pm:∀ps:Array (Nat×Operand),(∀x ∈ (ps.toList.map (·.2)).toArray,ev x=ev' x)→(ps.toList.map fun (i,x)=>(i,ev x))=ps.toList.map fun (i,x)=>(i,ev' x):=fun ps hx=>
  List.map_congr_left fun p hp=>by
   obtain ⟨i,x⟩:=p
   simp only [hx x (by simpa using ⟨i,by simpa using hp⟩)]
 cases op<;>simp only [Op.operands] at h<;>simp only [opK]
 case build t ps=>rw [pm ps h]
 case buildSlice t n ps=>rw [pm ps h]
 case makeFunc fn first cap=>
  rw [mp first fun x hx=>h x (by simp [hx]),mp cap fun x hx=>h x (by simp [hx])]
 case slice t x lo hi mx=>
  have hx:=h x (by simp)
  cases lo<;>cases hi<;>cases mx<;>simp_all
 case call c=>
  obtain ⟨callee,args,argTypes⟩:=c
  have ha:=mp args fun x hx=>h x (by simp [Call.operands,hx])
  cases callee with
  | invoke r m=>rfl
  | value f=>
   have hf:=h f (by simp [Call.operands])
   simp only [hf,ha]
  | builtin b=>simp only [ha]
 all_goals (simp at h;simp_all)
theorem zmh {ops:List Oper} {o:Oper} {ev ev':Operand→Value} (h:∀x ∈ o.op.operands,ev x=ev' x):zgg ops o ev=zgg ops o ev':=by
 obtain ⟨dst,op,type,pos,after,guard⟩:=o
 cases op<;>try rfl
 rename_i c
 obtain ⟨callee,args,argTypes⟩:=c
 cases callee with
 | invoke r m=>rfl
 | value f=>rfl
 | builtin b=>
  cases b<;>try rfl
  simp only [zgg]
  cases ha:args.toList with
  | nil=>rfl
  | cons x l=>
   have:ev x=ev' x:=h x (by have q:x ∈ args:=(by rw [←Array.mem_toList_iff,ha];simp);simp only [Op.operands,Call.operands];simp [q])
   simp only [this]
theorem zn0 {o:Oper} {ev ev':Operand→Value} (h:∀x ∈ o.op.operands,ev x=ev' x):zh6 env o ev=zh6 env o ev':=by
 obtain ⟨dst,op,type,pos,after,guard⟩:=o
 cases op<;>try rfl
 rename_i c
 obtain ⟨callee,args,argTypes⟩:=c
 cases callee with
 | invoke r m=>rfl
 | builtin b=>rfl
 | value f=>
  cases f<;>try rfl
  rename_i t
  simp only [zh6]
  rw [h (.tmp t) (by simp [Op.operands,Call.operands])]
theorem zkg {ops:List Oper} {o:Oper} {ev ev':Operand→Value} (h:∀x ∈ o.op.operands,ev x=ev' x) (K:Value→zd→Prop):opS P env ops o ev H K=opS P env ops o ev' H K:=by
 unfold opS
 rw [zws h,zmh h,zn0 h]
theorem zbu {ops:List Oper} {o:Oper} {ev:Operand→Value} (henv:∀g,FnOk P g (env g)) {K K':Value→zd→Prop} (h:∀v H',K v H'→K' v H') (hk:opS P env ops o ev H K):opS P env ops o ev H K':=by
 obtain ⟨h1,h2⟩:=z1d hk
 unfold opS
 rw [h1]
 exact z9x henv h h2
theorem z11k {ops:List Oper} {o:Oper} {ev:Operand→Value} (henv:∀g,FnOk P g (env g)) {K:Value→zd→Prop} (hk:opS P env ops o ev H K):∃v H',K v H':=zoz henv (z1d hk).2
end
end Go.Proofs.Ytbnplefohfamnaa.Ai
