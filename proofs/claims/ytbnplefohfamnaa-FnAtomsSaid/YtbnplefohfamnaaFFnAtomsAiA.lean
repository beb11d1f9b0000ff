/- An abstract machine for straight Go: words of floats up to the bits of a NaN, blocks of cells, and what a piece of code comes to there. -/
import Derived.Calls
import Derived.Orders
import Derived.Below
import Derived.KernelRfl
namespace Go.Proofs.Ytbnplefohfamnaa.Ai
open Go

def qnan:FloatKind→Nat
 | .f32=>2143289344
 | .f64=>9221120237041090560

def cn (k:FloatKind) (b:Nat):Nat:=if (k.decode b).isNaN then qnan k else b

def fadd (k:FloatKind) (x y:Nat):Nat:=(k.format.add x y).getD (qnan k)
def fsub (k:FloatKind) (x y:Nat):Nat:=(k.format.sub x y).getD (qnan k)
def fmul (k:FloatKind) (x y:Nat):Nat:=(k.format.mul x y).getD (qnan k)
def fdiv (k:FloatKind) (x y:Nat):Nat:=(k.format.div x y).getD (qnan k)
def zdi (k:FloatKind) (x:Nat):Nat:=(k.format.sqrt x).getD (qnan k)
def feq (k:FloatKind) (x y:Nat):Bool:=k.format.order x y==some .eq
def flt (k:FloatKind) (x y:Nat):Bool:=k.format.order x y==some .lt
def fle (k:FloatKind) (x y:Nat):Bool:=k.format.order x y==some .lt || k.format.order x y==some .eq
def fneg (k:FloatKind) (x:Nat):Nat:=if (k.decode x).isNaN then qnan k else Op.negFloat k x
def fmin (k:FloatKind) (x y:Nat):Nat:=
 match k.format.order x y with
 | none=>qnan k
 | some .lt=>x
 | some .gt=>y
 | some .eq=>if (k.decode x).neg then x else y
def fmax (k:FloatKind) (x y:Nat):Nat:=
 match k.format.order x y with
 | none=>qnan k
 | some .lt=>y
 | some .gt=>x
 | some .eq=>if (k.decode x).neg then y else x
def zh (x:Nat):Nat:=
 match FloatKind.f32.decode x with
 | .nan _ _=>qnan .f64
 | d=>FloatKind.f64.encode d
def zl (x:Nat):Option Nat:=
 match FloatKind.f64.decode x with
 | .nan _ _=>some (qnan .f32)
 | .infinity s=>some (FloatKind.f32.encode (.infinity s))
 | .number s m e=>if (FloatKind.f32.decode (FloatKind.f32.encode (.number s m e))).isInfinity then none else some (FloatKind.f32.encode (.number s m e))
def ftoi (s:FloatKind) (b:Nat) (k:IntKind):Option Int:=
 match (s.decode b).toInt .zero with
 | some n=>if k.min≤n∧n≤k.max then some n else none
 | none=>none

abbrev Ren:=List (Nat×Nat×Nat)

inductive VR (ρ:Ren):Value→Value→Prop
 | bool (b:Bool):VR ρ (.bool b) (.bool b)
 | int (k:IntKind) (n:Int):VR ρ (.int k n) (.int k n)
 | float (k:FloatKind) (a b:Nat):a=cn k b→VR ρ (.float k a) (.float k b)
 | complex (k:FloatKind) (a a' b b':Nat):a=cn k a'→b=cn k b'→VR ρ (.complex k a b) (.complex k a' b')
 | string (s:ByteArray):VR ρ (.string s) (.string s)
 | pnil:VR ρ (.pointer none) (.pointer none)
 | ptr (b off c base sz:Nat):ρ[b]? =some (c,base,sz)→VR ρ (.pointer (some ⟨b,off,none⟩)) (.pointer (some ⟨c,base+off,none⟩))
 | snil:VR ρ (.slice none 0 0) (.slice none 0 0)
 | slice (b off len esz c base sz cap:Nat):ρ[b]? =some (c,base,sz)→len≤cap→(0<esz→off+cap*esz≤sz)→
   VR ρ (.slice (some ⟨b,off,none⟩) len esz) (.slice (some ⟨c,base+off,none⟩) len cap)
 | sempty (b off:Nat) (a:Addr) (cap:Nat):VR ρ (.slice (some ⟨b,off,none⟩) 0 0) (.slice (some a) 0 cap)
 | nilFunc:VR ρ .nilFunc .nilFunc
 | nilIface:VR ρ .nilIface .nilIface
 | func (fn:Fn) (xs ys as bs:Array Value):xs.size=ys.size→(∀(i:Nat) (x y:Value),xs[i]? =some x→ys[i]? =some y→VR ρ x y)→
   as.size=bs.size→(∀(i:Nat) (x y:Value),as[i]? =some x→bs[i]? =some y→VR ρ x y)→VR ρ (.func fn xs as) (.func fn ys bs)
 | agg (xs ys:Array Value):xs.size=ys.size→(∀(i:Nat) (x y:Value),xs[i]? =some x→ys[i]? =some y→VR ρ x y)→VR ρ (.agg xs) (.agg ys)
 | tuple (xs ys:Array Value):xs.size=ys.size→(∀(i:Nat) (x y:Value),xs[i]? =some x→ys[i]? =some y→VR ρ x y)→VR ρ (.tuple xs) (.tuple ys)

structure Blk where
 cells:List Value
 own:Bool

abbrev zd:=List (Option Blk)

def isCell:Value→Bool
 | .agg _ | .tuple _=>false
 | _=>true

structure HR (B0:Nat) (ρ:Ren) (H:zd) (w:World):Prop where
 len:H.length=ρ.length
 base0:B0≤w.heap.size
 live:∀(b:Nat) (blk:Blk),H[b]? =some (some blk)→∀c base sz,ρ[b]? =some (c,base,sz)→∃arr e fz,w.heap[c]? =some (.cells arr e fz)∧
  blk.cells.length≤sz∧base+sz≤arr.size∧
  (∀i v,blk.cells[i]? =some v→∃v',arr[base+i]? =some v'∧VR ρ v v'∧isCell v=true)∧
  (blk.own=true→B0≤c∧fz=(0,0))
 sep:∀(b1 b2:Nat) (blk1 blk2:Blk),H[b1]? =some (some blk1)→H[b2]? =some (some blk2)→b1≠b2→blk1.own=true→
  ∀c1 p1 s1 c2 p2 s2,ρ[b1]? =some (c1,p1,s1)→ρ[b2]? =some (c2,p2,s2)→c1≠c2

def VRs (ρ:Ren) (xs ys:List Value):Prop:=xs.length=ys.length∧∀(i:Nat) (x y:Value),xs[i]? =some x→ys[i]? =some y→VR ρ x y


abbrev Pt:=(Value→zd→Prop)→Prop

structure FSpec where
 F:List Value→zd→Pt
 quiet:Bool
 tame:Bool:=false

abbrev Env:=Nat→FSpec

def z13d:FSpec:={F:=fun _ _ _=>False,quiet:=true}

def envOf:List (Nat×FSpec)→Env
 | [],_=>z13d
 | (g,s)::r,f=>cond (Nat.beq g f) s (envOf r f)

def rdB (H:zd) (b:Nat):Option (List Value):=
 match H[b]? with
 | some (some blk)=>some blk.cells
 | _=>none
def rdC (H:zd) (b off:Nat):Option Value:=(rdB H b).bind fun cs=>cs[off]?
def rdN (H:zd) (b off n:Nat):Option (List Value):=(rdB H b).bind fun cs=>if off+n≤cs.length then some ((cs.drop off).take n) else none
def rdS (H:zd) (a:Option Addr) (n:Nat):Option (List Value):=
 cond (Nat.beq n 0) (some []) (match a with
  | some ⟨b,off,none⟩=>rdN H b off n
  | _=>none)
def ownB (H:zd) (a:Option Addr) (n e:Nat) (esz:Nat):Option (List Value):=
 match a with
 | none=>cond (Nat.beq n 0) (some []) none
 | some ⟨b,off,none⟩=>
  match H[b]? with
  | some (some blk)=>if off=0∧blk.own=true∧blk.cells.length=n*esz∧e=esz then some blk.cells else none
  | _=>none
 | _=>none
def z5l (H:zd) (a:Option Addr):zd:=
 match a with
 | none=>H
 | some a=>H.set a.block none
def setC (H:zd) (b off:Nat) (v:Value):zd:=
 match H[b]? with
 | some (some blk)=>H.set b (some {blk with cells:=blk.cells.set off v})
 | _=>H
def setN (H:zd) (b off:Nat):List Value→zd
 | []=>H
 | v::r=>setN (setC H b off v) b (off+1) r
def isOwn (H:zd) (b:Nat):Prop:=∃blk,H[b]? =some (some blk)∧blk.own=true

def zdm (z:Value) (K:Value→Prop):Prop:=
 match z with
 | .bool _=>∃b,K (.bool b)
 | .int k _=>∃n,K (.int k n)
 | .float k _=>∃x,K (.float k x)
 | .complex k _ _=>∃x y,K (.complex k x y)
 | .string _=>∃s,K (.string s)
 | .pointer _=>∃a,K (.pointer a)
 | .slice _ _ _=>∃a n e,K (.slice a n e)
 | _=>∃v,K v
def zco:List Value→(List Value→Prop)→Prop
 | [],K=>K []
 | z::r,K=>zdm z fun v=>zco r fun l=>K (v::l)

def z3c:Value→Bool
 | .bool _ | .int _ _ | .string _ | .pointer none | .slice none 0 0 | .nilFunc | .nilIface=>true
 | .float k b=>Nat.beq (cn k b) b
 | .complex k a b=>Nat.beq (cn k a) a && Nat.beq (cn k b) b
 | _=>false
def zg2:Value→Bool
 | .agg cs | .tuple cs=>cs.toList.all z3c
 | v=>z3c v

section
variable (P:Program)

def z8w (t:TypeId):Option Value:=(P.info? t).bind (·.zero)
def z6q (t:TypeId):Option Nat:=(P.info? t).map (·.size)
def zoe (t:TypeId):Option Nat:=(P.info? t).map (·.bytes)
def zot (t:TypeId):Option Bool:=
 match P.underlying t with
 | some (.struct _) | some (.array _ _)=>some true
 | some _=>some false
 | none=>none

def ikEq:IntKind→IntKind→Bool
 | .i8,.i8 | .i16,.i16 | .i32,.i32 | .i64,.i64 | .u8,.u8 | .u16,.u16 | .u32,.u32 | .u64,.u64=>true
 | _,_=>false
def fkEq:FloatKind→FloatKind→Bool
 | .f32,.f32 | .f64,.f64=>true
 | _,_=>false
def chk (b:Bool) (p:Prop):Prop:=cond b p False

def zg0 (v:Value) (K:Bool→Prop):Prop:=
 match v with
 | .bool b=>K b
 | _=>False
def z8u (t:Bool) (F:Bool→Prop):Prop:=cond t (F true) (F false)

def zge (op:BinOp) (k:IntKind) (x y:Int) (K:Value→Prop):Prop:=
 match op with
 | .add=>K (.int k (k.wrap (x+y)))
 | .sub=>K (.int k (k.wrap (x-y)))
 | .mul=>K (.int k (k.wrap (x*y)))
 | .quo=>y≠0∧K (.int k (k.wrap (x.tdiv y)))
 | .rem=>y≠0∧K (.int k (x.tmod y))
 | .and=>K (.int k (k.wrap (BitVec.ofInt k.bits x &&& BitVec.ofInt k.bits y).toNat))
 | .or=>K (.int k (k.wrap (BitVec.ofInt k.bits x ||| BitVec.ofInt k.bits y).toNat))
 | .xor=>K (.int k (k.wrap (BitVec.ofInt k.bits x ^^^ BitVec.ofInt k.bits y).toNat))
 | .andNot=>K (.int k (k.wrap (BitVec.ofInt k.bits x &&& ~~~(BitVec.ofInt k.bits y)).toNat))
 | .eql=>K (.bool (x==y))
 | .neq=>K (.bool (x != y))
 | .lss=>K (.bool (decide (x<y)))
 | .leq=>K (.bool (decide (x≤y)))
 | .gtr=>K (.bool (decide (y<x)))
 | .geq=>K (.bool (decide (y≤x)))
 | _=>False
def z9p (op:BinOp) (k:FloatKind) (x y:Nat) (K:Value→Prop):Prop:=
 match op with
 | .add=>K (.float k (fadd k x y))
 | .sub=>K (.float k (fsub k x y))
 | .mul=>K (.float k (fmul k x y))
 | .quo=>K (.float k (fdiv k x y))
 | .eql=>K (.bool (feq k x y))
 | .neq=>K (.bool (!(feq k x y)))
 | .lss=>K (.bool (flt k x y))
 | .leq=>K (.bool (fle k x y))
 | .gtr=>K (.bool (flt k y x))
 | .geq=>K (.bool (fle k y x))
 | _=>False
def zja (xs ys:Array Value):List Field→Bool→(Bool→Prop)→Prop
 | [],r,K=>K r
 | f::fs,r,K=>
  match P.underlying f.type,xs[f.offset]?,ys[f.offset]? with
  | some (.int _),some (.int k a),some (.int k' b)=>chk (ikEq k k') (zja xs ys fs (r && (a==b)) K)
  | some (.float _),some (.float k a),some (.float k' b)=>chk (fkEq k k') (zja xs ys fs (r && feq k a b) K)
  | _,_,_=>False
def zx0 (t:TypeId) (fs:List Field):Bool:=!(P.eqGuardType P.depth t) && !(P.stoodInHeld t) && fs.all fun f=>!(decide (f.name= "_"))
def zeu (t:TypeId) (xs ys:Array Value) (K:Bool→Prop):Prop:=
 match P.underlying t with
 | some (.struct fs)=>chk (zx0 P t fs.toList) (zja P xs ys fs.toList true K)
 | _=>False
def binK (op:BinOp) (t:TypeId) (x y:Value) (K:Value→Prop):Prop:=
 match x,y with
 | .int k a,.int k' b=>
  match op with
  | .shl=>0≤b∧K (.int k (k.wrap (a*2 ^ min b.toNat k.bits)))
  | .shr=>0≤b∧K (.int k (a.fdiv (2 ^ min b.toNat k.bits)))
  | _=>chk (ikEq k k') (zge op k a b K)
 | .float k a,.float k' b=>chk (fkEq k k') (z9p op k a b K)
 | .bool a,.bool b=>
  match op,P.underlying t with
  | .eql,some .bool=>K (.bool (a==b))
  | .neq,some .bool=>K (.bool (!(a==b)))
  | _,_=>False
 | .string a,.string b=>
  match op with
  | .add=>a.size+b.size<2 ^ 63∧K (.string (a++b))
  | .eql=>K (.bool (a.toList==b.toList))
  | .neq=>K (.bool (!(a.toList==b.toList)))
  | _=>False
 | .agg xs,.agg ys=>
  match op with
  | .eql=>zeu P t xs ys fun r=>K (.bool r)
  | .neq=>zeu P t xs ys fun r=>K (.bool (!r))
  | _=>False
 | _,_=>False
def unK (op:UnOp) (x:Value) (K:Value→Prop):Prop:=
 match op,x with
 | .neg,.int k n=>K (.int k (k.wrap (0-n)))
 | .neg,.float k b=>K (.float k (fneg k b))
 | .neg,.complex k a b=>K (.complex k (fneg k a) (fneg k b))
 | .not,.bool b=>K (.bool (!b))
 | _,_=>False
def zug (src dst:TypeId) (x:Value) (H:zd) (K:Value→Prop):Prop:=
 match P.underlying src,P.underlying dst,x with
 | some _,some (.int k),.int _ n=>K (.int k (k.wrap n))
 | some _,some (.float k),.int _ n=>K (.float k (k.nearest n))
 | some _,some (.float k),.float s b=>
  match s,k with
  | .f32,.f64=>K (.float .f64 (zh b))
  | .f64,.f32=>∃r,zl b=some r∧K (.float .f32 r)
  | .f32,.f32=>K (.float .f32 b)
  | .f64,.f64=>K (.float .f64 b)
 | some _,some (.int k),.float s b=>∃n,ftoi s b k=some n∧K (.int k n)
 | some (.complex .f32),some (.complex .f64),.complex .f32 a b=>K (.complex .f64 (zh a) (zh b))
 | some (.complex .f32),some (.complex .f32),.complex .f32 a b=>K (.complex .f32 a b)
 | some (.complex .f64),some (.complex .f64),.complex .f64 a b=>K (.complex .f64 a b)
 | some (.complex .f64),some (.complex .f32),.complex .f64 a b=>∃r s,zl a=some r∧zl b=some s∧K (.complex .f32 r s)
 | some .string,some .string,.string s=>K (.string s)
 | some (.slice e),some .string,.slice a n _=>
  match P.underlying e with
  | some (.int .u8)=>∃l:List UInt8,rdS H a n=some (l.map fun c=>Value.int .u8 c.toNat)∧K (.string ⟨l.toArray⟩)
  | _=>False
 | _,_,_=>False
def z9b (t:TypeId) (x:Value) (H:zd) (K:Value→Prop):Prop:=
 match x with
 | .pointer (some ⟨b,off,none⟩)=>
  match zot P t,z6q P t,z8w P t with
  | some true,some (n+1),some (.agg z)=>zco z.toList fun l=>rdN H b off (n+1)=some l∧K (.agg l.toArray)
  | some false,some 1,some z=>zdm z fun v=>rdC H b off=some v∧K v
  | _,_,_=>False
 | _=>False
def zpt (t:TypeId) (x v:Value) (H:zd) (K:zd→Prop):Prop:=
 match x with
 | .pointer (some ⟨b,off,none⟩)=>
  match z6q P t with
  | some n=>chk (Nat.beq v.cells.size n && v.cells.toList.all isCell) (isOwn H b∧(∃l,rdN H b off n=some l)∧
   K (match v with | .agg cs=>setN H b off cs.toList | v=>setC H b off v))
  | none=>False
 | _=>False
def newK (cells:List Value) (H:zd) (K:Value→zd→Prop):Prop:=
 chk (cells.all isCell) (K (.pointer (some ⟨H.length,0,none⟩)) (H++[some {cells:=cells,own:=true}]))
def z5r (s:TypeId) (x:Value) (f:Nat) (K:Value→Prop):Prop:=
 match P.underlying s,x with
 | some (.struct fields),.pointer (some ⟨b,off,none⟩)=>
  match fields[f]? with
  | some fd=>match z6q P fd.type with
   | some (_+1)=>K (.pointer (some ⟨b,off+fd.offset,none⟩))
   | _=>False
  | none=>False
 | _,_=>False
def zwy (t:TypeId) (cs:Array Value) (off:Nat) (K:Value→Prop):Prop:=
 match zot P t,z6q P t with
 | some true,some n=>K (.agg (cs.extract off (off+n)))
 | some false,_=>match cs[off]? with
  | some v=>K v
  | none=>False
 | _,_=>False
def zjo (s:TypeId) (x:Value) (f:Nat) (K:Value→Prop):Prop:=
 match P.underlying s,x with
 | some (.struct fields),.agg cs=>
  match fields[f]? with
  | some fd=>zwy P fd.type cs fd.offset K
  | none=>False
 | _,_=>False
def z5s (t:TypeId) (x i:Value) (K:Value→Prop):Prop:=
 match P.underlying t,x,i with
 | some (.slice e),.slice a n _,.int _ j=>
  match z6q P e with
  | some sz=>0≤j∧j<n∧∃b off,a=some ⟨b,off,none⟩∧K (.pointer (some ⟨b,off+j.toNat*sz,none⟩))
  | none=>False
 | some (.array n e),.pointer (some ⟨b,off,none⟩),.int _ j=>
  match z6q P e with
  | some sz=>0≤j∧j<n∧K (.pointer (some ⟨b,off+j.toNat*sz,none⟩))
  | none=>False
 | _,_,_=>False
def zk0 (t:TypeId) (x i:Value) (K:Value→Prop):Prop:=
 match P.underlying t,x,i with
 | some .string,.string s,.int _ j=>∃c,0≤j∧s[j.toNat]? =some c∧K (.int .u8 c.toNat)
 | _,_,_=>False
def zb2 (v:Option Value) (d:Int) (K:Int→Prop):Prop:=
 match v with
 | none=>K d
 | some (.int _ j)=>K j
 | _=>False
def zky (t:TypeId) (x:Value) (lo hi mx:Option Value) (K:Value→Prop):Prop:=
 match P.underlying t,x,mx with
 | some (.slice e),.slice a n _,none=>
  match z6q P e with
  | some sz=>zb2 lo 0 fun l=>zb2 hi n fun h=>0≤l∧l≤h∧h≤n∧K (.slice (a.map fun a=>⟨a.block,a.off+l.toNat*sz,none⟩) (h-l).toNat 0)
  | none=>False
 | some .string,.string s,none=>zb2 lo 0 fun l=>zb2 hi s.size fun h=>0≤l∧l≤h∧h≤s.size∧K (.string (s.extract l.toNat h.toNat))
 | _,_,_=>False
def most:Nat:=2 ^ 32
def z2k (z:Value) (n:Nat):List Value:=(List.replicate n z.cells.toList).flatten
def z5u (t:TypeId) (n c:Value) (H:zd) (K:Value→zd→Prop):Prop:=
 match P.underlying t,n,c with
 | some (.slice e),.int _ n,.int _ c=>
  match z6q P e,zoe P e,z8w P e with
  | some (sz+1),some by_,some z=>chk (Nat.ble by_ 1024 && Nat.beq z.cells.size (sz+1) && z.cells.toList.all z3c) (0≤n∧n=c∧n<most∧
    K (.slice (some ⟨H.length,0,none⟩) n.toNat (sz+1)) (H++[some {cells:=z2k z n.toNat,own:=true}]))
  | _,_,_=>False
 | _,_,_=>False
def z4i (t:TypeId) (len:Nat) (parts:List (Nat×Value)) (H:zd) (K:Value→zd→Prop):Prop:=
 match P.underlying t with
 | some (.slice e)=>
  match z6q P e,z8w P e with
  | some (sz+1),some z=>
   chk (Nat.ble (len*(sz+1)) 1024 && Nat.beq z.cells.size (sz+1) && z.cells.toList.all z3c) (
   match Instr.fill (fun i=>some (i*(sz+1),sz+1)) (z2k z len).toArray parts with
   | some cells=>chk (cells.toList.all isCell) (K (.slice (some ⟨H.length,0,none⟩) len (sz+1)) (H++[some {cells:=cells.toList,own:=true}]))
   | none=>False)
  | _,_=>False
 | _=>False
def fieldAt (fields:Array Field) (i:Nat):Option (Nat×Nat):=
 match fields[i]? with
 | some f=>(z6q P f.type).map fun n=>(f.offset,n)
 | none=>none
def zj5 (t:TypeId) (parts:List (Nat×Value)) (K:Value→Prop):Prop:=
 match P.underlying t,z8w P t with
 | some (.struct fields),some (.agg z)=>
  chk ((fields.toList.all fun f=>(z6q P f.type).isSome) && z.toList.all z3c) (
  match Instr.fill (fieldAt P fields) z parts with
  | some cells=>K (.agg cells)
  | none=>False)
 | _,_=>False
def zc8 (t:TypeId) (s x:Value) (H:zd) (K:Value→zd→Prop):Prop:=
 match P.underlying t,s,x with
 | some (.slice e),.slice a n c,.slice a' m _=>
  match z6q P e,zoe P e,z8w P e with
  | some (sz+1),some by_,some z=>chk (Nat.ble by_ 1024 && Nat.beq z.cells.size (sz+1)) (∃old new,ownB H a n c (sz+1)=some old∧rdS H a' (m*(sz+1))=some new∧(a=none→0<m)∧n+m<most∧
    K (.slice (some ⟨H.length,0,none⟩) (n+m) (sz+1)) (z5l H a++[some {cells:=old++new,own:=true}]))
  | _,_,_=>False
 | _,_,_=>False
def zyy (t:TypeId) (d s:Value) (H:zd) (K:Value→zd→Prop):Prop:=
 match P.underlying t,d,s with
 | some (.slice e),.slice a n _,.slice a' m _=>
  match z6q P e with
  | some 1=>∃new,rdS H a' (min m n)=some new∧∃b off,a=some ⟨b,off,none⟩∧isOwn H b∧(∃l,rdN H b off n=some l)∧K (.int .i64 (min m n:Nat)) (setN H b off new)
  | _=>False
 | _,_,_=>False
def lenK (t:TypeId) (x:Value) (K:Value→Prop):Prop:=
 match P.underlying t,x with
 | some .string,.string s=>K (.int .i64 s.size)
 | some (.slice _),.slice _ n _=>K (.int .i64 n)
 | _,_=>False
def z5m (mx:Bool) (x y:Value) (K:Value→Prop):Prop:=
 match x,y with
 | .int k a,.int _ b=>K (.int k (bif mx then (if b > a then b else a) else (if b<a then b else a)))
 | .float k a,.float k' b=>chk (fkEq k k') (K (.float k (bif mx then fmax k a b else fmin k a b)))
 | _,_=>False
def z4y (b:Builtin) (ts:Array TypeId) (args:List Value) (H:zd) (K:Value→zd→Prop):Prop:=
 match b,ts.toList,args with
 | .append,[t,t'],[s,x]=>chk (Nat.beq t t') (zc8 P t s x H K)
 | .copy,t::_,[d,s]=>zyy P t d s H K
 | .len,t::_,[x]=>lenK P t x (K · H)
 | .min,_,[x,y]=>z5m false x y (K · H)
 | .max,_,[x,y]=>z5m true x y (K · H)
 | .min,_,[x,y,z]=>z5m false x y fun v=>z5m false v z (K · H)
 | .max,_,[x,y,z]=>z5m true x y fun v=>z5m true v z (K · H)
 | .real,_,[.complex k a _]=>K (.float k a) H
 | .imag,_,[.complex k _ b]=>K (.float k b) H
 | .complex,_,[.float k a,.float k' b]=>chk (fkEq k k') (K (.complex k a b) H)
 | _,_,_=>False

def opK (env:Env) (o:Oper) (ev:Operand→Value) (H:zd) (K:Value→zd→Prop):Prop:=
 match o.op with
 | .move x | .assign x=>K (ev x) H
 | .pick c a b=>zg0 (ev c) fun t=>z8u t fun t=>K (cond t (ev a) (ev b)) H
 | .alloc e=>match z8w P e with
  | some z=>chk (z.cells.toList.all z3c) (newK z.cells.toList H K)
  | none=>False
 | .box _ x=>newK (ev x).cells.toList H K
 | .build t parts=>zj5 P t (parts.toList.map fun (i,x)=>(i,ev x)) (K · H)
 | .buildSlice t n parts=>z4i P t n (parts.toList.map fun (i,x)=>(i,ev x)) H K
 | .load t a=>z9b P t (ev a) H (K · H)
 | .store t a x=>zpt P t (ev a) (ev x) H (K undef)
 | .nilCheck x=>match ev x with
  | .pointer (some a)=>K (.pointer (some a)) H
  | .func (.func f) xs ys=>K (.func (.func f) xs ys) H
  | _=>False
 | .binOp op t x y _=>binK P op t (ev x) (ev y) (K · H)
 | .unOp op _ x=>unK op (ev x) (K · H)
 | .convert s d x=>zug P s d (ev x) H (K · H)
 | .makeFunc fn first cap=>K (.func fn (first.toList.map ev).toArray (cap.toList.map ev).toArray) H
 | .makeSlice t n c=>z5u P t (ev n) (ev c) H K
 | .slice t x lo hi mx=>zky P t (ev x) (lo.map ev) (hi.map ev) (mx.map ev) (K · H)
 | .fieldAddr s x f=>z5r P s (ev x) f (K · H)
 | .field s x f=>zjo P s (ev x) f (K · H)
 | .indexAddr t x i=>z5s P t (ev x) (ev i) (K · H)
 | .index t x i=>zk0 P t (ev x) (ev i) (K · H)
 | .extract t i=>match ev t with
  | .tuple vs=>match vs[i]? with
   | some v=>K v H
   | none=>False
  | _=>False
 | .call c=>match c.callee with
  | .builtin b=>z4y P b c.argTypes (c.args.toList.map ev) H K
  | .value f=>match ev f with
   | .func (.func g) first cap=>(env g).F (first.toList++c.args.toList.map ev++cap.toList) H K
   | _=>False
  | _=>False
 | _=>False


def evT (tm:List Value):Operand→Value
 | .tmp t=>tm.getD t undef
 | .const v=>v
 | .global g=>.pointer (some ⟨g,0,none⟩)
 | .func f=>.func (.func f) #[] #[]
def putT (tm:List Value) (d:Option Tmp) (v:Value):List Value:=
 match d with
 | some t=>tm.set t v
 | none=>tm

def zz2 (t:Tmp) (o:Oper):Bool:=
 match o.dst,o.op with
 | some d,.buildSlice _ 0 _=>Nat.beq d t
 | _,_=>false
def isLit (ops:List Oper) (x:Operand):Bool:=
 match x with
 | .tmp t=>ops.any (zz2 t)
 | _=>false
def z18x (v:Value):Bool:=
 match v with
 | .slice _ n _=>Nat.beq n 0
 | _=>false
def zov (ops:List Oper) (o:Oper):Bool:=
 match o.op with
 | .call c=>match c.callee,c.args.toList with
  | .builtin .append,x::_=>isLit ops x
  | _,_=>false
 | _=>false
def zgg (ops:List Oper) (o:Oper) (ev:Operand→Value):Bool:=
 match o.op with
 | .call c=>match c.callee,c.args.toList with
  | .builtin .append,x::_=>cond (isLit ops x) (z18x (ev x)) true
  | _,_=>true
 | _=>true
def markV:Nat:=999999
def z1de:FSpec:={F:=fun _ _ _=>False,quiet:=true,tame:=true}
def zh6 (env:Env) (o:Oper) (ev:Operand→Value):Bool:=
 match o.op with
 | .call c=>match c.callee with
  | .value (.tmp t)=>cond (env markV).tame (match ev (.tmp t) with
   | .func (.func g) _ _=>(env g).quiet
   | _=>true) true
  | _=>true
 | _=>true
def opS (env:Env) (ops:List Oper) (o:Oper) (ev:Operand→Value) (H:zd) (K:Value→zd→Prop):Prop:=chk (zgg ops o ev && zh6 env o ev) (opK P env o ev H K)
def z6s (env:Env) (ops:List Oper) (o:Oper) (tm:List Value) (H:zd) (K:List Value→zd→Prop):Prop:=
 match o.guard with
 | none=>opS P env ops o (evT tm) H fun v H'=>K (putT tm o.dst v) H'
 | some (j,want)=>
  match ops[j]? with
  | some ⟨some d,_,_,_,_,_⟩=>
   match tm.getD d undef with
   | .bool t=>z8u t fun t=>
    let tm':=tm.set d (.bool t)
    cond (cond want t (not t)) (opS P env ops o (evT tm') H fun v H'=>K (putT tm' o.dst v) H') (K (putT tm' o.dst undef) H)
   | .tuple _=>K (putT tm o.dst undef) H
   | _=>False
  | _=>False

def seqK (env:Env) (ops:List Oper):List Oper→List Value→zd→(List Value→zd→Prop)→Prop
 | [],tm,H,K=>K tm H
 | o::r,tm,H,K=>z6s P env ops o tm H fun tm' H'=>seqK env ops r tm' H' K

inductive Ex where
 | normal
 | ret
 | exit (id:Nat)

def Ex.toExit:Ex→Exit
 | .normal=>.normal
 | .ret=>.ret
 | .exit id=>.exit id

abbrev Post:=Ex→List Value→zd→Prop

def seqQ (f:List Value→zd→Post→Prop) (Q:Post):Post:=fun e tm H=>
 match e with
 | .normal=>f tm H Q
 | .ret=>Q .ret tm H
 | .exit id=>Q (.exit id) tm H
def zn (id:Nat) (Q:Post):Post:=fun e tm H=>
 match e with
 | .normal=>Q .normal tm H
 | .ret=>Q .ret tm H
 | .exit id'=>cond (Nat.beq id' id) (Q .normal tm H) (Q (.exit id') tm H)
def zp (I:Nat→List Value→zd→Prop) (m:Nat) (Q:Post):Post:=fun e tm H=>
 match e with
 | .normal=>∃m',m'<m∧I m' tm H
 | .ret=>Q .ret tm H
 | .exit id=>Q (.exit id) tm H
def z1b (body:List Value→zd→Post→Prop) (tm:List Value) (H:zd) (Q:Post):Prop:=
 ∃(I:Nat→List Value→zd→Prop) (n:Nat),I n tm H∧∀m tm H,I m tm H→body tm H (zp I m Q)

def Grow (H H':zd):Prop:=H.length≤H'.length∧∀b,b<H.length→H'[b]? =H[b]?

def zk2 (o:Oper):Bool:=match o.op with
 | .load ..=>true
 | _=>false
def z1cp (o:Oper):Bool:=match o.op with
 | .fieldAddr ..=>true
 | _=>false
def z1cq (o:Oper):Bool:=match o.op with
 | .call c=>match c.callee with
  | .value _=>true
  | _=>false
 | _=>false
def waits (o:Oper) (j:Nat):Bool:=(o.after.toList.any fun e=>Nat.beq e.on j) || (match o.guard with | some (g,_)=>Nat.beq g j | none=>false)
def putIn (o:Oper) (i:Nat):List Nat→List Nat
 | []=>[i]
 | j::r=>cond (waits o j) (i::j::r) (j::putIn o i r)
def zki (i:Nat) (acc:List Nat):List Oper→List Nat
 | []=>acc
 | o::r=>zki (i+1) (cond (zk2 o || z1cp o) (putIn o i acc) (i::acc)) r
def z16u (o:Oper):Bool:=match o.op with
 | .alloc _ | .box .. | .makeSlice .. | .buildSlice ..=>true
 | _=>false
def twoAl (ops:List Oper):Bool:=Nat.ble 2 (ops.filter z16u).length
def z7f (ops:List Oper):List Nat:=cond (ops.any z1cq || ops.any (zov ops) || twoAl ops) (zki 0 [] ops).reverse (List.range ops.length)
def zgm (ops:List Oper) (l:List Nat):List Oper:=l.filterMap (ops[·]?)
def zmd (draw:Bool) (ops:List Oper):List Oper:=cond draw (zgm ops (z7f ops)) ops

def exK (env:Env):Code→List Value→zd→Post→Prop
 | .skip,tm,H,Q=>Q .normal tm H
 | .region _ ops draw,tm,H,Q=>seqK P env ops.toList (zmd draw ops.toList) tm H fun tm' H'=>Q .normal tm' H'
 | .seq a b,tm,H,Q=>exK env a tm H (seqQ (exK env b) Q)
 | .cond c a b,tm,H,Q=>zg0 (evT tm c) fun t=>z8u t fun t=>cond t (exK env a tm H Q) (exK env b tm H Q)
 | .block id c,tm,H,Q=>exK env c tm H (zn id Q)
 | .loop c,tm,H,Q=>z1b (exK env c) tm H Q
 | .exit id,tm,H,Q=>Q (.exit id) tm H
 | .ret,tm,H,Q=>Q .ret tm H
 | _,_,_,_=>False

def cl:Code→Code
 | .seq a _=>a
 | .cond _ a _=>a
 | .block _ c=>c
 | .loop c=>c
 | c=>c
def cr:Code→Code
 | .seq _ b=>b
 | .cond _ _ b=>b
 | c=>c
def zg (fn:Func):Code:=fn.body.getD .skip

def Br (b:Bool) (A B:Prop):Prop:=cond b A B
def Al (cells:List Value) (H:zd) (K:Nat→zd→Prop):Prop:=K H.length (H++[some {cells:=cells,own:=true}])
def Lt (H:zd) (K:zd→Prop):Prop:=K H
def Ap (H H':zd) (K:Nat→zd→Prop):Prop:=K H.length H'

def resK:List ResultVar→List Value→zd→(List Value→Prop)→Prop
 | [],_,_,K=>K []
 | .tmp t::r,tm,H,K=>resK r tm H fun l=>K (tm.getD t undef::l)
 | .cell a t::r,tm,H,K=>z9b P t (tm.getD a undef) H fun v=>resK r tm H fun l=>K (v::l)
def zwq:List Value→Value
 | [v]=>v
 | l=>.tuple l.toArray
def retK (fn:Func) (K:Value→zd→Prop):Post:=fun e tm H=>
 match e with
 | .normal | .ret=>resK P fn.results.toList tm H fun l=>K (zwq l) H
 | .exit _=>False

def z1a (env:Env) (fn:Func) (args:List Value) (H:zd) (K:Value→zd→Prop):Prop:=
 match fn.body with
 | some c=>exK P env c (args++List.replicate (fn.ntmps-args.length) undef) H (retK P fn K)
 | none=>False

end
end Go.Proofs.Ytbnplefohfamnaa.Ai
