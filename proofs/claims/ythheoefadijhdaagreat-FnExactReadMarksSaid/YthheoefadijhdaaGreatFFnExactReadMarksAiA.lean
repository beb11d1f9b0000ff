/- An abstract machine for straight Go: words of floats up to the bits of a NaN, blocks of cells, and what a piece of code comes to there. -/
import Derived.Calls
import Derived.Orders
import Derived.Below
import Derived.KernelRfl
import Derived.Laws.FloatArith
import Derived.WalkKit
import Derived.Conc.AppendEvents3
import Derived.Conc.AppendWalk
namespace Go.Proofs.YthheoefadijhdaaGreat.Ai
open Go

def qnan:FloatKind→Nat
 | .f32=>2143289344
 | .f64=>9221120237041090560

def cn (k:FloatKind) (b:Nat):Nat:=if (k.decode b).isNaN then qnan k else b

def fadd (k:FloatKind) (x y:Nat):Nat:=(k.format.add x y).getD (qnan k)
def fsub (k:FloatKind) (x y:Nat):Nat:=(k.format.sub x y).getD (qnan k)
def fmul (k:FloatKind) (x y:Nat):Nat:=(k.format.mul x y).getD (qnan k)
def fdiv (k:FloatKind) (x y:Nat):Nat:=(k.format.div x y).getD (qnan k)
def fsqrt (k:FloatKind) (x:Nat):Nat:=(k.format.sqrt x).getD (qnan k)
def feq (k:FloatKind) (x y:Nat):Bool:=k.format.order x y==some .eq
def flt (k:FloatKind) (x y:Nat):Bool:=k.format.order x y==some .lt
def fle (k:FloatKind) (x y:Nat):Bool:=k.format.order x y==some .lt || k.format.order x y==some .eq
def fneg (k:FloatKind) (x:Nat):Nat:=if (k.decode x).isNaN then qnan k else Op.negFloat k x
def fmin (k:FloatKind) (x y:Nat):Nat:=
 match k.format.order x y with
 | none=>qnan k
 | some .lt=>x
 | some .gt=>y
 | some .eq=>if (k.decode x).neg then x else y
def fmax (k:FloatKind) (x y:Nat):Nat:=
 match k.format.order x y with
 | none=>qnan k
 | some .lt=>y
 | some .gt=>x
 | some .eq=>if (k.decode x).neg then y else x
def z2m (x:Nat):Nat:=
 match FloatKind.f32.decode x with
 | .nan _ _=>qnan .f64
 | d=>FloatKind.f64.encode d
def z1x (x:Nat):Option Nat:=
 match FloatKind.f64.decode x with
 | .nan _ _=>some (qnan .f32)
 | .infinity s=>some (FloatKind.f32.encode (.infinity s))
 | .number s m e=>if (FloatKind.f32.decode (FloatKind.f32.encode (.number s m e))).isInfinity then none else some (FloatKind.f32.encode (.number s m e))
def ftoi (s:FloatKind) (b:Nat) (k:IntKind):Option Int:=
 match (s.decode b).toInt .zero with
 | some n=>if k.min≤n∧n≤k.max then some n else none
 | none=>none

abbrev Ren:=List (Nat×Nat×Nat)

inductive VR (ρ:Ren):Value→Value→Prop
 | bool (b:Bool):VR ρ (.bool b) (.bool b)
 | int (k:IntKind) (n:Int):VR ρ (.int k n) (.int k n)
 | float (k:FloatKind) (a b:Nat):a=cn k b→VR ρ (.float k a) (.float k b)
 | complex (k:FloatKind) (a a' b b':Nat):a=cn k a'→b=cn k b'→VR ρ (.complex k a b) (.complex k a' b')
 | string (s:ByteArray):VR ρ (.string s) (.string s)
 | pnil:VR ρ (.pointer none) (.pointer none)
 | ptr (b off c base sz:Nat):ρ[b]? =some (c,base,sz)→VR ρ (.pointer (some ⟨b,off,none⟩)) (.pointer (some ⟨c,base+off,none⟩))
 | snil:VR ρ (.slice none 0 0) (.slice none 0 0)
 | slice (b off len esz c base sz cap:Nat):ρ[b]? =some (c,base,sz)→len≤cap→(0<esz→off+cap*esz≤sz)→
   VR ρ (.slice (some ⟨b,off,none⟩) len esz) (.slice (some ⟨c,base+off,none⟩) len cap)
 | sempty (b off:Nat) (a:Addr) (cap:Nat):VR ρ (.slice (some ⟨b,off,none⟩) 0 0) (.slice (some a) 0 cap)
 | nilFunc:VR ρ .nilFunc .nilFunc
 | nilIface:VR ρ .nilIface .nilIface
 | func (fn:Fn) (xs ys as bs:Array Value):xs.size=ys.size→(∀(i:Nat) (x y:Value),xs[i]? =some x→ys[i]? =some y→VR ρ x y)→
   as.size=bs.size→(∀(i:Nat) (x y:Value),as[i]? =some x→bs[i]? =some y→VR ρ x y)→VR ρ (.func fn xs as) (.func fn ys bs)
 | agg (xs ys:Array Value):xs.size=ys.size→(∀(i:Nat) (x y:Value),xs[i]? =some x→ys[i]? =some y→VR ρ x y)→VR ρ (.agg xs) (.agg ys)
 | tuple (xs ys:Array Value):xs.size=ys.size→(∀(i:Nat) (x y:Value),xs[i]? =some x→ys[i]? =some y→VR ρ x y)→VR ρ (.tuple xs) (.tuple ys)

structure Blk where
 cells:List Value
 own:Bool

abbrev zn:=List (Option Blk)

def isCell:Value→Bool
 | .agg _ | .tuple _=>false
 | _=>true

structure Zone where
 rd:Nat→Prop
 wr:Nat→Prop

structure HR (Z:Zone) (ρ:Ren) (H:zn) (w:World):Prop where
 len:H.length=ρ.length
 fresh:∀c,w.heap.size≤c→Z.rd c∧Z.wr c
 live:∀(b:Nat) (blk:Blk),H[b]? =some (some blk)→∀c base sz,ρ[b]? =some (c,base,sz)→∃arr e fz,w.heap[c]? =some (.cells arr e fz)∧
  blk.cells.length≤sz∧base+sz≤arr.size∧
  (∀i v,blk.cells[i]? =some v→∃v',arr[base+i]? =some v'∧VR ρ v v'∧isCell v=true)∧
  (Z.rd c∧(blk.own=true→Z.wr c∧fz=(0,0)))
 sep:∀(b1 b2:Nat) (blk1 blk2:Blk),H[b1]? =some (some blk1)→H[b2]? =some (some blk2)→b1≠b2→blk1.own=true→
  ∀c1 p1 s1 c2 p2 s2,ρ[b1]? =some (c1,p1,s1)→ρ[b2]? =some (c2,p2,s2)→c1≠c2

structure Kept (Z:Zone) (w w':World):Prop where
 os:w'.os=w.os
 tape:w'.tape=w.tape
 output:w'.output=w.output
 size:w.heap.size≤w'.heap.size
 block:∀k,k<w.heap.size→¬Z.wr k→w'.heap[k]? =w.heap[k]?

def zjk (B:Nat):Zone:=⟨fun _=>True,fun c=>B≤c⟩

theorem Kept.refl (Z:Zone) (w:World):Kept Z w w:=⟨rfl,rfl,rfl,Nat.le_refl _,fun _ _ _=>rfl⟩
theorem Kept.trans {Z:Zone} {a b c:World} (h:Kept Z a b) (k:Kept Z b c):Kept Z a c:=
 ⟨k.os.trans h.os,k.tape.trans h.tape,k.output.trans h.output,Nat.le_trans h.size k.size,fun i hi hz=>(k.block i (Nat.lt_of_lt_of_le hi h.size) hz).trans (h.block i hi hz)⟩
theorem Kept.alloc {Z:Zone} {a w:World} (h:Kept Z a w) (o:Obj):Kept Z a (w.alloc o):=
 h.trans ⟨rfl,rfl,rfl,by simp,fun k hk _=>RowKit.Below.heap_alloc _ _ _ hk⟩
theorem Kept.setCell {Z:Zone} {a w:World} (h:Kept Z a w) {p:Addr} (hp:Z.wr p.block) (u:Value):Kept Z a (w.setCell p u):=
 h.trans ⟨rfl,rfl,rfl,by simp [World.setCell],fun k _ hz=>RowKit.Below.heap_setCell _ _ _ _ (fun e=>hz (e ▸ hp))⟩
theorem Kept.mono {Z Z':Zone} {w w':World} (h:Kept Z' w w') (hz:∀c,Z'.wr c→Z.wr c):Kept Z w w':=
 ⟨h.os,h.tape,h.output,h.size,fun k hk hn=>h.block k hk fun x=>hn (hz k x)⟩

def VRs (ρ:Ren) (xs ys:List Value):Prop:=xs.length=ys.length∧∀(i:Nat) (x y:Value),xs[i]? =some x→ys[i]? =some y→VR ρ x y


abbrev Pt:=(Value→zn→Prop)→Prop

structure FSpec where
 F:List Value→zn→Pt
 quiet:Bool
 tame:Bool:=false

abbrev Env:=Nat→FSpec

def zy3:FSpec:={F:=fun _ _ _=>False,quiet:=true}

def envOf:List (Nat×FSpec)→Env
 | [],_=>zy3
 | (g,s)::r,f=>cond (Nat.beq g f) s (envOf r f)

def rdB (H:zn) (b:Nat):Option (List Value):=
 match H[b]? with
 | some (some blk)=>some blk.cells
 | _=>none
def rdC (H:zn) (b off:Nat):Option Value:=(rdB H b).bind fun cs=>cs[off]?
def rdN (H:zn) (b off n:Nat):Option (List Value):=(rdB H b).bind fun cs=>if off+n≤cs.length then some ((cs.drop off).take n) else none
def rdS (H:zn) (a:Option Addr) (n:Nat):Option (List Value):=
 cond (Nat.beq n 0) (some []) (match a with
  | some ⟨b,off,none⟩=>rdN H b off n
  | _=>none)
def ownB (H:zn) (a:Option Addr) (n e:Nat) (esz:Nat):Option (List Value):=
 match a with
 | none=>cond (Nat.beq n 0) (some []) none
 | some ⟨b,off,none⟩=>
  match H[b]? with
  | some (some blk)=>if off=0∧blk.own=true∧blk.cells.length=n*esz∧e=esz then some blk.cells else none
  | _=>none
 | _=>none
def z2s (H:zn) (a:Option Addr):zn:=
 match a with
 | none=>H
 | some a=>H.set a.block none
def setC (H:zn) (b off:Nat) (v:Value):zn:=
 match H[b]? with
 | some (some blk)=>H.set b (some {blk with cells:=blk.cells.set off v})
 | _=>H
def setN (H:zn) (b off:Nat):List Value→zn
 | []=>H
 | v::r=>setN (setC H b off v) b (off+1) r
def isOwn (H:zn) (b:Nat):Prop:=∃blk,H[b]? =some (some blk)∧blk.own=true

def zfr (z:Value) (K:Value→Prop):Prop:=
 match z with
 | .bool _=>∃b,K (.bool b)
 | .int k _=>∃n,K (.int k n)
 | .float k _=>∃x,K (.float k x)
 | .complex k _ _=>∃x y,K (.complex k x y)
 | .string _=>∃s,K (.string s)
 | .pointer _=>∃a,K (.pointer a)
 | .slice _ _ _=>∃a n e,K (.slice a n e)
 | _=>∃v,K v
def ze5:List Value→(List Value→Prop)→Prop
 | [],K=>K []
 | z::r,K=>zfr z fun v=>ze5 r fun l=>K (v::l)

def z3u:Value→Bool
 | .bool _ | .int _ _ | .string _ | .pointer none | .slice none 0 0 | .nilFunc | .nilIface=>true
 | .float k b=>Nat.beq (cn k b) b
 | .complex k a b=>Nat.beq (cn k a) a && Nat.beq (cn k b) b
 | _=>false
def zhv:Value→Bool
 | .agg cs | .tuple cs=>cs.toList.all z3u
 | v=>z3u v

section
variable (P:Program)

def z9u (t:TypeId):Option Value:=(P.info? t).bind (·.zero)
def z5m (t:TypeId):Option Nat:=(P.info? t).map (·.size)
def zjq (t:TypeId):Option Nat:=(P.info? t).map (·.bytes)
def zpb (t:TypeId):Option Bool:=
 match P.underlying t with
 | some (.struct _) | some (.array _ _)=>some true
 | some _=>some false
 | none=>none

def ikEq:IntKind→IntKind→Bool
 | .i8,.i8 | .i16,.i16 | .i32,.i32 | .i64,.i64 | .u8,.u8 | .u16,.u16 | .u32,.u32 | .u64,.u64=>true
 | _,_=>false
def fkEq:FloatKind→FloatKind→Bool
 | .f32,.f32 | .f64,.f64=>true
 | _,_=>false
def chk (b:Bool) (p:Prop):Prop:=cond b p False

def zae (v:Value) (K:Bool→Prop):Prop:=
 match v with
 | .bool b=>K b
 | _=>False
def zad (t:Bool) (F:Bool→Prop):Prop:=cond t (F true) (F false)

def zi6 (op:BinOp) (k:IntKind) (x y:Int) (K:Value→Prop):Prop:=
 match op with
 | .add=>K (.int k (k.wrap (x+y)))
 | .sub=>K (.int k (k.wrap (x-y)))
 | .mul=>K (.int k (k.wrap (x*y)))
 | .quo=>y≠0∧K (.int k (k.wrap (x.tdiv y)))
 | .rem=>y≠0∧K (.int k (x.tmod y))
 | .and=>K (.int k (k.wrap (BitVec.ofInt k.bits x &&& BitVec.ofInt k.bits y).toNat))
 | .or=>K (.int k (k.wrap (BitVec.ofInt k.bits x ||| BitVec.ofInt k.bits y).toNat))
 | .xor=>K (.int k (k.wrap (BitVec.ofInt k.bits x ^^^ BitVec.ofInt k.bits y).toNat))
 | .andNot=>K (.int k (k.wrap (BitVec.ofInt k.bits x &&& ~~~(BitVec.ofInt k.bits y)).toNat))
 | .eql=>K (.bool (x==y))
 | .neq=>K (.bool (x != y))
 | .lss=>K (.bool (decide (x<y)))
 | .leq=>K (.bool (decide (x≤y)))
 | .gtr=>K (.bool (decide (y<x)))
 | .geq=>K (.bool (decide (y≤x)))
 | _=>False
def zb8 (op:BinOp) (k:FloatKind) (x y:Nat) (K:Value→Prop):Prop:=
 match op with
 | .add=>K (.float k (fadd k x y))
 | .sub=>K (.float k (fsub k x y))
 | .mul=>K (.float k (fmul k x y))
 | .quo=>K (.float k (fdiv k x y))
 | .eql=>K (.bool (feq k x y))
 | .neq=>K (.bool (!(feq k x y)))
 | .lss=>K (.bool (flt k x y))
 | .leq=>K (.bool (fle k x y))
 | .gtr=>K (.bool (flt k y x))
 | .geq=>K (.bool (fle k y x))
 | _=>False
def binK (op:BinOp) (t:TypeId) (x y:Value) (K:Value→Prop):Prop:=
 match x,y with
 | .int k a,.int k' b=>
  match op with
  | .shl=>0≤b∧K (.int k (k.wrap (a*2 ^ min b.toNat k.bits)))
  | .shr=>0≤b∧K (.int k (a.fdiv (2 ^ min b.toNat k.bits)))
  | _=>chk (ikEq k k') (zi6 op k a b K)
 | .float k a,.float k' b=>chk (fkEq k k') (zb8 op k a b K)
 | .bool a,.bool b=>
  match op,P.underlying t with
  | .eql,some .bool=>K (.bool (a==b))
  | .neq,some .bool=>K (.bool (!(a==b)))
  | _,_=>False
 | .string a,.string b=>
  match op with
  | .add=>a.size+b.size<2 ^ 63∧K (.string (a++b))
  | .eql=>K (.bool (a.toList==b.toList))
  | .neq=>K (.bool (!(a.toList==b.toList)))
  | _=>False
 | _,_=>False
def unK (op:UnOp) (x:Value) (K:Value→Prop):Prop:=
 match op,x with
 | .neg,.int k n=>K (.int k (k.wrap (0-n)))
 | .neg,.float k b=>K (.float k (fneg k b))
 | .neg,.complex k a b=>K (.complex k (fneg k a) (fneg k b))
 | .not,.bool b=>K (.bool (!b))
 | _,_=>False
def zvn (src dst:TypeId) (x:Value) (H:zn) (K:Value→Prop):Prop:=
 match P.underlying src,P.underlying dst,x with
 | some _,some (.int k),.int _ n=>K (.int k (k.wrap n))
 | some _,some (.float k),.int _ n=>K (.float k (k.nearest n))
 | some _,some (.float k),.float s b=>
  match s,k with
  | .f32,.f64=>K (.float .f64 (z2m b))
  | .f64,.f32=>∃r,z1x b=some r∧K (.float .f32 r)
  | .f32,.f32=>K (.float .f32 b)
  | .f64,.f64=>K (.float .f64 b)
 | some _,some (.int k),.float s b=>∃n,ftoi s b k=some n∧K (.int k n)
 | some (.complex .f32),some (.complex .f64),.complex .f32 a b=>K (.complex .f64 (z2m a) (z2m b))
 | some (.complex .f32),some (.complex .f32),.complex .f32 a b=>K (.complex .f32 a b)
 | some (.complex .f64),some (.complex .f64),.complex .f64 a b=>K (.complex .f64 a b)
 | some (.complex .f64),some (.complex .f32),.complex .f64 a b=>∃r s,z1x a=some r∧z1x b=some s∧K (.complex .f32 r s)
 | some .string,some .string,.string s=>K (.string s)
 | some (.slice e),some .string,.slice a n _=>
  match P.underlying e with
  | some (.int .u8)=>∃l:List UInt8,rdS H a n=some (l.map fun c=>Value.int .u8 c.toNat)∧K (.string ⟨l.toArray⟩)
  | _=>False
 | _,_,_=>False
def z8e (t:TypeId) (x:Value) (H:zn) (K:Value→Prop):Prop:=
 match x with
 | .pointer (some ⟨b,off,none⟩)=>
  match zpb P t,z5m P t,z9u P t with
  | some true,some (n+1),some (.agg z)=>ze5 z.toList fun l=>rdN H b off (n+1)=some l∧K (.agg l.toArray)
  | some false,some 1,some z=>zfr z fun v=>rdC H b off=some v∧K v
  | _,_,_=>False
 | _=>False
def zcp (t:TypeId) (x v:Value) (H:zn) (K:zn→Prop):Prop:=
 match x with
 | .pointer (some ⟨b,off,none⟩)=>
  match z5m P t with
  | some n=>chk (Nat.beq v.cells.size n && v.cells.toList.all isCell) (isOwn H b∧(∃l,rdN H b off n=some l)∧
   K (match v with | .agg cs=>setN H b off cs.toList | v=>setC H b off v))
  | none=>False
 | _=>False
def newK (cells:List Value) (H:zn) (K:Value→zn→Prop):Prop:=
 chk (cells.all isCell) (K (.pointer (some ⟨H.length,0,none⟩)) (H++[some {cells:=cells,own:=true}]))
def z7l (s:TypeId) (x:Value) (f:Nat) (K:Value→Prop):Prop:=
 match P.underlying s,x with
 | some (.struct fields),.pointer (some ⟨b,off,none⟩)=>
  match fields[f]? with
  | some fd=>match z5m P fd.type with
   | some (_+1)=>K (.pointer (some ⟨b,off+fd.offset,none⟩))
   | _=>False
  | none=>False
 | _,_=>False
def zyh (t:TypeId) (cs:Array Value) (off:Nat) (K:Value→Prop):Prop:=
 match zpb P t,z5m P t with
 | some true,some n=>K (.agg (cs.extract off (off+n)))
 | some false,_=>match cs[off]? with
  | some v=>K v
  | none=>False
 | _,_=>False
def zkb (s:TypeId) (x:Value) (f:Nat) (K:Value→Prop):Prop:=
 match P.underlying s,x with
 | some (.struct fields),.agg cs=>
  match fields[f]? with
  | some fd=>zyh P fd.type cs fd.offset K
  | none=>False
 | _,_=>False
def z7n (t:TypeId) (x i:Value) (K:Value→Prop):Prop:=
 match P.underlying t,x,i with
 | some (.slice e),.slice a n _,.int _ j=>
  match z5m P e with
  | some sz=>0≤j∧j<n∧∃b off,a=some ⟨b,off,none⟩∧K (.pointer (some ⟨b,off+j.toNat*sz,none⟩))
  | none=>False
 | some (.array n e),.pointer (some ⟨b,off,none⟩),.int _ j=>
  match z5m P e with
  | some sz=>0≤j∧j<n∧K (.pointer (some ⟨b,off+j.toNat*sz,none⟩))
  | none=>False
 | _,_,_=>False
def zkp (t:TypeId) (x i:Value) (K:Value→Prop):Prop:=
 match P.underlying t,x,i with
 | some .string,.string s,.int _ j=>∃c,0≤j∧s[j.toNat]? =some c∧K (.int .u8 c.toNat)
 | _,_,_=>False
def zcg (v:Option Value) (d:Int) (K:Int→Prop):Prop:=
 match v with
 | none=>K d
 | some (.int _ j)=>K j
 | _=>False
def zm9 (t:TypeId) (x:Value) (lo hi mx:Option Value) (K:Value→Prop):Prop:=
 match P.underlying t,x,mx with
 | some (.slice e),.slice a n _,none=>
  match z5m P e with
  | some sz=>zcg lo 0 fun l=>zcg hi n fun h=>0≤l∧l≤h∧h≤n∧K (.slice (a.map fun a=>⟨a.block,a.off+l.toNat*sz,none⟩) (h-l).toNat 0)
  | none=>False
 | some .string,.string s,none=>zcg lo 0 fun l=>zcg hi s.size fun h=>0≤l∧l≤h∧h≤s.size∧K (.string (s.extract l.toNat h.toNat))
 | _,_,_=>False
def most:Nat:=2 ^ 32
def z1k (z:Value) (n:Nat):List Value:=(List.replicate n z.cells.toList).flatten
def z3b (t:TypeId) (n c:Value) (H:zn) (K:Value→zn→Prop):Prop:=
 match P.underlying t,n,c with
 | some (.slice e),.int _ n,.int _ c=>
  match z5m P e,zjq P e,z9u P e with
  | some (sz+1),some by_,some z=>chk (Nat.ble by_ 1024 && Nat.beq z.cells.size (sz+1) && z.cells.toList.all z3u) (0≤n∧n=c∧n<most∧
    K (.slice (some ⟨H.length,0,none⟩) n.toNat (sz+1)) (H++[some {cells:=z1k z n.toNat,own:=true}]))
  | _,_,_=>False
 | _,_,_=>False
def z2g (t:TypeId) (len:Nat) (parts:List (Nat×Value)) (H:zn) (K:Value→zn→Prop):Prop:=
 match P.underlying t with
 | some (.slice e)=>
  match z5m P e,z9u P e with
  | some (sz+1),some z=>
   chk (Nat.ble (len*(sz+1)) 1024 && Nat.beq z.cells.size (sz+1) && z.cells.toList.all z3u) (
   match Instr.fill (fun i=>some (i*(sz+1),sz+1)) (z1k z len).toArray parts with
   | some cells=>chk (cells.toList.all isCell) (K (.slice (some ⟨H.length,0,none⟩) len (sz+1)) (H++[some {cells:=cells.toList,own:=true}]))
   | none=>False)
  | _,_=>False
 | _=>False
def fieldAt (fields:Array Field) (i:Nat):Option (Nat×Nat):=
 match fields[i]? with
 | some f=>(z5m P f.type).map fun n=>(f.offset,n)
 | none=>none
def zjn (t:TypeId) (parts:List (Nat×Value)) (K:Value→Prop):Prop:=
 match P.underlying t,z9u P t with
 | some (.struct fields),some (.agg z)=>
  chk ((fields.toList.all fun f=>(z5m P f.type).isSome) && z.toList.all z3u) (
  match Instr.fill (fieldAt P fields) z parts with
  | some cells=>K (.agg cells)
  | none=>False)
 | _,_=>False
def z7x (t:TypeId) (s x:Value) (H:zn) (K:Value→zn→Prop):Prop:=
 match P.underlying t,s,x with
 | some (.slice e),.slice a n c,.slice a' m _=>
  match z5m P e,zjq P e,z9u P e with
  | some (sz+1),some by_,some z=>chk (Nat.ble by_ 1024 && Nat.beq z.cells.size (sz+1)) (∃old new,ownB H a n c (sz+1)=some old∧rdS H a' (m*(sz+1))=some new∧(a=none→0<m)∧n+m<most∧
    K (.slice (some ⟨H.length,0,none⟩) (n+m) (sz+1)) (z2s H a++[some {cells:=old++new,own:=true}]))
  | _,_,_=>False
 | _,_,_=>False
def copyK (t:TypeId) (d s:Value) (H:zn) (K:Value→zn→Prop):Prop:=
 match P.underlying t,d,s with
 | some (.slice e),.slice a n _,.slice a' m _=>
  match z5m P e with
  | some 1=>∃new,rdS H a' (min m n)=some new∧∃b off,a=some ⟨b,off,none⟩∧isOwn H b∧(∃l,rdN H b off n=some l)∧K (.int .i64 (min m n:Nat)) (setN H b off new)
  | _=>False
 | _,_,_=>False
def lenK (t:TypeId) (x:Value) (K:Value→Prop):Prop:=
 match P.underlying t,x with
 | some .string,.string s=>K (.int .i64 s.size)
 | some (.slice _),.slice _ n _=>K (.int .i64 n)
 | _,_=>False
def z7f (mx:Bool) (x y:Value) (K:Value→Prop):Prop:=
 match x,y with
 | .int k a,.int _ b=>K (.int k (bif mx then (if b > a then b else a) else (if b<a then b else a)))
 | .float k a,.float k' b=>chk (fkEq k k') (K (.float k (bif mx then fmax k a b else fmin k a b)))
 | _,_=>False
def ze9 (t:TypeId) (s x:Value) (H:zn) (K:Value→zn→Prop):Prop:=
 match P.underlying t,s,x with
 | some (.slice e),.slice none 0 _,.slice _ 0 _=>cond (z5m P e).isSome (K (.slice none 0 0) H) False
 | _,_,_=>False
def orNil (t:Bool) (q p:Prop):Prop:=cond t (q∨p) p
def z6r (nl:Bool) (b:Builtin) (ts:Array TypeId) (args:List Value) (H:zn) (K:Value→zn→Prop):Prop:=
 match b,ts.toList,args with
 | .append,[t,t'],[s,x]=>chk (Nat.beq t t') (orNil nl (ze9 P t s x H K) (z7x P t s x H K))
 | .copy,t::_,[d,s]=>copyK P t d s H K
 | .len,t::_,[x]=>lenK P t x (K · H)
 | .min,_,[x,y]=>z7f false x y (K · H)
 | .max,_,[x,y]=>z7f true x y (K · H)
 | .min,_,[x,y,z]=>z7f false x y fun v=>z7f false v z (K · H)
 | .max,_,[x,y,z]=>z7f true x y fun v=>z7f true v z (K · H)
 | .real,_,[.complex k a _]=>K (.float k a) H
 | .imag,_,[.complex k _ b]=>K (.float k b) H
 | .complex,_,[.float k a,.float k' b]=>chk (fkEq k k') (K (.complex k a b) H)
 | _,_,_=>False

def opK (env:Env) (o:Oper) (ev:Operand→Value) (H:zn) (K:Value→zn→Prop):Prop:=
 match o.op with
 | .move x | .assign x=>K (ev x) H
 | .pick c a b=>zae (ev c) fun t=>zad t fun t=>K (cond t (ev a) (ev b)) H
 | .alloc e=>match z9u P e with
  | some z=>chk (z.cells.toList.all z3u) (newK z.cells.toList H K)
  | none=>False
 | .box _ x=>newK (ev x).cells.toList H K
 | .build t parts=>zjn P t (parts.toList.map fun (i,x)=>(i,ev x)) (K · H)
 | .buildSlice t n parts=>z2g P t n (parts.toList.map fun (i,x)=>(i,ev x)) H K
 | .load t a=>z8e P t (ev a) H (K · H)
 | .store t a x=>zcp P t (ev a) (ev x) H (K undef)
 | .nilCheck x=>match ev x with
  | .pointer (some a)=>K (.pointer (some a)) H
  | .func (.func f) xs ys=>K (.func (.func f) xs ys) H
  | _=>False
 | .binOp op t x y _=>binK P op t (ev x) (ev y) (K · H)
 | .unOp op _ x=>unK op (ev x) (K · H)
 | .convert s d x=>zvn P s d (ev x) H (K · H)
 | .makeFunc fn first cap=>K (.func fn (first.toList.map ev).toArray (cap.toList.map ev).toArray) H
 | .makeSlice t n c=>z3b P t (ev n) (ev c) H K
 | .slice t x lo hi mx=>zm9 P t (ev x) (lo.map ev) (hi.map ev) (mx.map ev) (K · H)
 | .fieldAddr s x f=>z7l P s (ev x) f (K · H)
 | .field s x f=>zkb P s (ev x) f (K · H)
 | .indexAddr t x i=>z7n P t (ev x) (ev i) (K · H)
 | .index t x i=>zkp P t (ev x) (ev i) (K · H)
 | .extract t i=>match ev t with
  | .tuple vs=>match vs[i]? with
   | some v=>K v H
   | none=>False
  | _=>False
 | .call c=>match c.callee with
  | .builtin b=>z6r P (env 999997).tame b c.argTypes (c.args.toList.map ev) H K
  | .value f=>match ev f with
   | .func (.func g) first cap=>(env g).F (first.toList++c.args.toList.map ev++cap.toList) H K
   | _=>False
  | _=>False
 | _=>False


def evT (tm:List Value):Operand→Value
 | .tmp t=>tm.getD t undef
 | .const v=>v
 | .global g=>.pointer (some ⟨g,0,none⟩)
 | .func f=>.func (.func f) #[] #[]
def putT (tm:List Value) (d:Option Tmp) (v:Value):List Value:=
 match d with
 | some t=>tm.set t v
 | none=>tm

def z12p (t:Tmp) (o:Oper):Bool:=
 match o.dst,o.op with
 | some d,.buildSlice _ 0 _=>Nat.beq d t
 | _,_=>false
def isLit (ops:List Oper) (x:Operand):Bool:=
 match x with
 | .tmp t=>ops.any (z12p t)
 | _=>false
def z1fg (v:Value):Bool:=
 match v with
 | .slice _ n _=>Nat.beq n 0
 | _=>false
def zpc (ops:List Oper) (o:Oper):Bool:=
 match o.op with
 | .call c=>match c.callee,c.args.toList with
  | .builtin .append,x::_=>isLit ops x
  | _,_=>false
 | _=>false
def zib (ops:List Oper) (o:Oper) (ev:Operand→Value):Bool:=
 match o.op with
 | .call c=>match c.callee,c.args.toList with
  | .builtin .append,x::_=>cond (isLit ops x) (z1fg (ev x)) true
  | _,_=>true
 | _=>true
def zkz:Nat:=999999
def zex:FSpec:={F:=fun _ _ _=>False,quiet:=true,tame:=true}
def markT:Nat:=999998
def z8n:FSpec:={F:=fun _ _ _=>False,quiet:=false,tame:=true}
def zf9 (env:Env) (o:Oper) (ev:Operand→Value):Bool:=
 match o.op with
 | .call c=>match c.callee with
  | .value (.tmp t)=>cond (env zkz).tame (match ev (.tmp t) with
   | .func (.func g) _ _=>(env g).quiet
   | _=>true) (cond (env markT).tame (match ev (.tmp t) with
   | .func (.func g) _ _=>(env g).tame
   | _=>true) true)
  | _=>true
 | _=>true
def opS (env:Env) (ops:List Oper) (o:Oper) (ev:Operand→Value) (H:zn) (K:Value→zn→Prop):Prop:=chk (zib ops o ev && zf9 env o ev) (opK P env o ev H K)
def z5u (env:Env) (ops:List Oper) (o:Oper) (tm:List Value) (H:zn) (K:List Value→zn→Prop):Prop:=
 match o.guard with
 | none=>opS P env ops o (evT tm) H fun v H'=>K (putT tm o.dst v) H'
 | some (j,want)=>
  match ops[j]? with
  | some ⟨some d,_,_,_,_,_⟩=>
   match tm.getD d undef with
   | .bool t=>zad t fun t=>
    let tm':=tm.set d (.bool t)
    cond (cond want t (not t)) (opS P env ops o (evT tm') H fun v H'=>K (putT tm' o.dst v) H') (K (putT tm' o.dst undef) H)
   | .tuple _=>K (putT tm o.dst undef) H
   | _=>False
  | _=>False

def seqK (env:Env) (ops:List Oper):List Oper→List Value→zn→(List Value→zn→Prop)→Prop
 | [],tm,H,K=>K tm H
 | o::r,tm,H,K=>z5u P env ops o tm H fun tm' H'=>seqK env ops r tm' H' K

inductive Ex where
 | normal
 | ret
 | exit (id:Nat)

def Ex.toExit:Ex→Exit
 | .normal=>.normal
 | .ret=>.ret
 | .exit id=>.exit id

abbrev Post:=Ex→List Value→zn→Prop

def seqQ (f:List Value→zn→Post→Prop) (Q:Post):Post:=fun e tm H=>
 match e with
 | .normal=>f tm H Q
 | .ret=>Q .ret tm H
 | .exit id=>Q (.exit id) tm H
def zu (id:Nat) (Q:Post):Post:=fun e tm H=>
 match e with
 | .normal=>Q .normal tm H
 | .ret=>Q .ret tm H
 | .exit id'=>cond (Nat.beq id' id) (Q .normal tm H) (Q (.exit id') tm H)
def zx (I:Nat→List Value→zn→Prop) (m:Nat) (Q:Post):Post:=fun e tm H=>
 match e with
 | .normal=>∃m',m'<m∧I m' tm H
 | .ret=>Q .ret tm H
 | .exit id=>Q (.exit id) tm H
def z1j (body:List Value→zn→Post→Prop) (tm:List Value) (H:zn) (Q:Post):Prop:=
 ∃(I:Nat→List Value→zn→Prop) (n:Nat),I n tm H∧∀m tm H,I m tm H→body tm H (zx I m Q)

def Grow (H H':zn):Prop:=H.length≤H'.length∧∀b,b<H.length→H'[b]? =H[b]?

def zkq (o:Oper):Bool:=match o.op with
 | .load ..=>true
 | _=>false
def z1k9 (o:Oper):Bool:=match o.op with
 | .fieldAddr .. | .nilCheck _ | .move _=>true
 | _=>false
def z1ka (o:Oper):Bool:=match o.op with
 | .call c=>match c.callee with
  | .value _=>true
  | _=>false
 | _=>false
def waits (o:Oper) (j:Nat):Bool:=(o.after.toList.any fun e=>Nat.beq e.on j) || (match o.guard with | some (g,_)=>Nat.beq g j | none=>false)
def putIn (o:Oper) (i:Nat):List Nat→List Nat
 | []=>[i]
 | j::r=>cond (waits o j) (i::j::r) (j::putIn o i r)
def zl5 (i:Nat) (acc:List Nat):List Oper→List Nat
 | []=>acc
 | o::r=>zl5 (i+1) (cond (zkq o || z1k9 o) (putIn o i acc) (i::acc)) r
def z1en (o:Oper):Bool:=match o.op with
 | .alloc _ | .box .. | .makeSlice .. | .buildSlice ..=>true
 | _=>false
def twoAl (ops:List Oper):Bool:=Nat.ble 2 (ops.filter z1en).length
def z1l (ops:List Oper):List Nat:=cond (ops.any z1ka || ops.any (zpc ops) || twoAl ops) (zl5 0 [] ops).reverse (List.range ops.length)
def z1y (ops:List Oper) (l:List Nat):List Oper:=l.filterMap (ops[·]?)
def znc (draw:Bool) (ops:List Oper):List Oper:=cond draw (z1y ops (z1l ops)) ops

def exK (env:Env):Code→List Value→zn→Post→Prop
 | .skip,tm,H,Q=>Q .normal tm H
 | .region _ ops draw,tm,H,Q=>seqK P env ops.toList (znc draw ops.toList) tm H fun tm' H'=>Q .normal tm' H'
 | .seq a b,tm,H,Q=>exK env a tm H (seqQ (exK env b) Q)
 | .cond c a b,tm,H,Q=>zae (evT tm c) fun t=>zad t fun t=>cond t (exK env a tm H Q) (exK env b tm H Q)
 | .block id c,tm,H,Q=>exK env c tm H (zu id Q)
 | .loop c,tm,H,Q=>z1j (exK env c) tm H Q
 | .exit id,tm,H,Q=>Q (.exit id) tm H
 | .ret,tm,H,Q=>Q .ret tm H
 | _,_,_,_=>False

def cl:Code→Code
 | .seq a _=>a
 | .cond _ a _=>a
 | .block _ c=>c
 | .loop c=>c
 | c=>c
def cr:Code→Code
 | .seq _ b=>b
 | .cond _ _ b=>b
 | c=>c
def zo (fn:Func):Code:=fn.body.getD .skip

def Br (b:Bool) (A B:Prop):Prop:=cond b A B
def Al (cells:List Value) (H:zn) (K:Nat→zn→Prop):Prop:=K H.length (H++[some {cells:=cells,own:=true}])
def Lt (H:zn) (K:zn→Prop):Prop:=K H
def Ap (H H':zn) (K:Nat→zn→Prop):Prop:=K H.length H'

def resK:List ResultVar→List Value→zn→(List Value→Prop)→Prop
 | [],_,_,K=>K []
 | .tmp t::r,tm,H,K=>resK r tm H fun l=>K (tm.getD t undef::l)
 | .cell a t::r,tm,H,K=>z8e P t (tm.getD a undef) H fun v=>resK r tm H fun l=>K (v::l)
def zft:List Value→Value
 | [v]=>v
 | l=>.tuple l.toArray
def retK (fn:Func) (K:Value→zn→Prop):Post:=fun e tm H=>
 match e with
 | .normal | .ret=>resK P fn.results.toList tm H fun l=>K (zft l) H
 | .exit _=>False

def z6j (env:Env) (fn:Func) (args:List Value) (H:zn) (K:Value→zn→Prop):Prop:=
 match fn.body with
 | some c=>exK P env c (args++List.replicate (fn.ntmps-args.length) undef) H (retK P fn K)
 | none=>False

end
end Go.Proofs.YthheoefadijhdaaGreat.Ai
namespace Go.Proofs.YthheoefadijhdaaGreat.Ai
open Go

theorem z5e (f:Ieee.Format) (s:Bool) {r:Nat} (h:r≤f.infRung):(f.read (f.word s r)).isNaN=false:=by
 have hlt:=f.infRung_lt
 have e:f.word s r % f.signWeight=r:=by
  unfold Ieee.Format.word
  split
  ·rw [Nat.add_mod_left];exact Nat.mod_eq_of_lt (by omega)
  ·exact Nat.mod_eq_of_lt (by omega)
 unfold Ieee.Format.read
 simp only [e]
 split
 ·rfl
 ·split
  ·rfl
  ·split
   ·rfl
   ·exfalso;omega

theorem zj4 (f:Ieee.Format) {d:Ieee.Datum} (h:d.isNaN=false):(f.read (f.write d)).isNaN=false:=by
 cases d with
 | number s m e=>
  unfold Ieee.Format.write Ieee.Format.nearest
  simp only []
  split
  ·exact z5e f s (Nat.zero_le _)
  ·exact z5e f s (Nat.min_le_right _ _)
 | infinity s=>exact z5e f s (Nat.le_refl _)
 | nan s t=>cases h

theorem z1i {k:FloatKind} {b:Nat} (h:(k.decode b).isNaN=false):cn k b=b:=by simp [cn,h]
theorem z1s {k:FloatKind} {b:Nat} (h:(k.decode b).isNaN=true):cn k b=qnan k:=by simp [cn,h]
theorem zd3 (k:FloatKind):(k.decode (qnan k)).isNaN=true:=by cases k<;>decide+kernel
theorem zvm (k:FloatKind):cn k (qnan k)=qnan k:=z1s (zd3 k)
theorem zl1 (k:FloatKind) (b:Nat):(k.decode (cn k b)).isNaN=(k.decode b).isNaN:=by
 cases h:(k.decode b).isNaN
 ·rw [z1i h,h]
 ·rw [z1s h,zd3]
theorem cn_cn (k:FloatKind) (b:Nat):cn k (cn k b)=cn k b:=by
 cases h:(k.decode b).isNaN
 ·rw [z1i h,z1i h]
 ·rw [z1s h,zvm]
theorem z5k (k:FloatKind) {d:Ieee.Datum} (h:d.isNaN=false):cn k (k.encode d)=k.encode d:=z1i (zj4 k.format h)

theorem z3p (d:Ieee.Datum) (h:d.isNaN=true):∃s t,d=.nan s t:=by
 cases d with
 | nan s t=>exact ⟨s,t,rfl⟩
 | number s m e=>cases h
 | infinity s=>cases h

structure Sound2 (op:Ieee.Datum→Ieee.Datum→Option Ieee.Datum):Prop where
 left:∀s t d,op (.nan s t) d=none
 right:∀s t d,op d (.nan s t)=none
 not_nan:∀d e r,op d e=some r→r.isNaN=false

theorem z9r:Sound2 Ieee.Datum.sum where
 left s t d:=by cases d<;>rfl
 right s t d:=by cases d<;>rfl
 not_nan d e r h:=by
  cases d<;>cases e<;>simp only [Ieee.Datum.sum] at h
  all_goals (first | (cases h;done) | (cases h;rfl) | (split at h<;>cases h;rfl))
theorem zhb:Sound2 (fun d e=>Ieee.Datum.sum d e.opposite) where
 left s t d:=by cases d<;>rfl
 right s t d:=by cases d<;>rfl
 not_nan d e r h:=z9r.not_nan _ _ r h
theorem z8m:Sound2 Ieee.Datum.product where
 left s t d:=by cases d<;>rfl
 right s t d:=by cases d<;>rfl
 not_nan d e r h:=by
  cases d<;>cases e<;>simp only [Ieee.Datum.product] at h
  all_goals (first | (cases h;done) | (cases h;rfl) | (split at h<;>cases h;rfl))
theorem z7k (n:Nat):Sound2 (Ieee.Datum.quotient n) where
 left s t d:=by cases d<;>rfl
 right s t d:=by cases d<;>rfl
 not_nan d e r h:=by
  cases d<;>cases e<;>simp only [Ieee.Datum.quotient] at h
  all_goals (first | (cases h;done) | (cases h;rfl) | skip)
  split at h
  ·split at h
   ·cases h
   ·cases h;rfl
  ·cases h;rfl

theorem op_cn {op:Ieee.Datum→Ieee.Datum→Option Ieee.Datum} (ho:Sound2 op) (k:FloatKind) (x y:Nat):
  (op (k.format.read (cn k x)) (k.format.read (cn k y))).map k.format.write=(op (k.format.read x) (k.format.read y)).map k.format.write:=by
 have key:∀x,(∃s t,k.format.read x=.nan s t)∧(∃s t,k.format.read (cn k x)=.nan s t)∨cn k x=x:=by
  intro x
  cases h:(k.decode x).isNaN
  ·exact .inr (z1i h)
  ·exact .inl ⟨z3p _ h,z3p _ (by rw [←h];exact zl1 k x)⟩
 rcases key x with ⟨⟨s,t,e1⟩,s',t',e2⟩ | e
 ·rw [e1,e2,ho.left,ho.left]
 ·rw [e]
  rcases key y with ⟨⟨s,t,e1⟩,s',t',e2⟩ | e
  ·rw [e1,e2,ho.right,ho.right]
  ·rw [e]

theorem z1h3 (k:FloatKind) (x y:Nat):k.format.add (cn k x) (cn k y)=k.format.add x y:=op_cn z9r k x y
theorem z1l2 (k:FloatKind) (x y:Nat):k.format.sub (cn k x) (cn k y)=k.format.sub x y:=op_cn zhb k x y
theorem z1kj (k:FloatKind) (x y:Nat):k.format.mul (cn k x) (cn k y)=k.format.mul x y:=op_cn z8m k x y
theorem z1h9 (k:FloatKind) (x y:Nat):k.format.div (cn k x) (cn k y)=k.format.div x y:=op_cn (z7k _) k x y

theorem ziw {op:Ieee.Datum→Ieee.Datum→Option Ieee.Datum} (ho:Sound2 op) {k:FloatKind} {x y r:Nat}
  (h:(op (k.format.read x) (k.format.read y)).map k.format.write=some r):cn k r=r:=by
 cases hd:op (k.format.read x) (k.format.read y) with
 | none=>rw [hd] at h;cases h
 | some d=>rw [hd] at h;cases h;exact z5k k (ho.not_nan _ _ _ hd)
theorem z12f {k:FloatKind} {x y r:Nat} (h:k.format.add x y=some r):cn k r=r:=ziw z9r h
theorem z16n {k:FloatKind} {x y r:Nat} (h:k.format.sub x y=some r):cn k r=r:=ziw zhb h
theorem z15j {k:FloatKind} {x y r:Nat} (h:k.format.mul x y=some r):cn k r=r:=ziw z8m h
theorem z12o {k:FloatKind} {x y r:Nat} (h:k.format.div x y=some r):cn k r=r:=ziw (z7k _) h

theorem z1ea (k:FloatKind) (x y:Nat):fadd k (cn k x) (cn k y)=fadd k x y:=by unfold fadd;rw [z1h3]
theorem z1eh (k:FloatKind) (x y:Nat):fsub k (cn k x) (cn k y)=fsub k x y:=by unfold fsub;rw [z1l2]
theorem z1eg (k:FloatKind) (x y:Nat):fmul k (cn k x) (cn k y)=fmul k x y:=by unfold fmul;rw [z1kj]
theorem z1ec (k:FloatKind) (x y:Nat):fdiv k (cn k x) (cn k y)=fdiv k x y:=by unfold fdiv;rw [z1h9]

theorem z7g (s:Bool) (t:Nat) (d:Ieee.Datum):Ieee.Datum.order (.nan s t) d=none:=by cases d<;>rfl
theorem z9b (s:Bool) (t:Nat) (d:Ieee.Datum):Ieee.Datum.order d (.nan s t)=none:=by cases d<;>rfl
theorem z3q (k:FloatKind) (x y:Nat):k.format.order (cn k x) (cn k y)=k.format.order x y:=by
 have key:∀x,(∃s t,k.format.read x=.nan s t)∧(∃s t,k.format.read (cn k x)=.nan s t)∨cn k x=x:=by
  intro x
  cases h:(k.decode x).isNaN
  ·exact .inr (z1i h)
  ·exact .inl ⟨z3p _ h,z3p _ (by rw [←h];exact zl1 k x)⟩
 unfold Ieee.Format.order
 rcases key x with ⟨⟨s,t,e1⟩,s',t',e2⟩ | e
 ·rw [e1,e2,z7g,z7g]
 ·rw [e]
  rcases key y with ⟨⟨s,t,e1⟩,s',t',e2⟩ | e
  ·rw [e1,e2,z9b,z9b]
  ·rw [e]

theorem z9x (k:FloatKind) (x y:Nat):k.format.order y x=(k.format.order x y).map Ordering.swap:=by
 have csw:∀a b:Int,compare a b=(compare b a).swap:=fun a b=>by
  rw [Int.compare_swap]
 have nsw:∀a b:Nat,compare a b=(compare b a).swap:=fun a b=>by rw [Nat.compare_swap]
 unfold Ieee.Format.order
 generalize k.format.read x=d
 generalize k.format.read y=e
 cases d<;>cases e<;>simp only [Ieee.Datum.order,Option.map_some,Option.map_none]
 ·rename_i s m i t n j
  rw [csw,Int.min_comm]
 ·rename_i s;cases s<;>rfl
 ·rename_i s _ _ t;cases s<;>rfl
 ·rename_i s t;rw [nsw]

theorem nan32 (t:Nat):(FloatKind.f32.decode ((t % 2)*2 ^ 31+0x7f800000+1+(t / 2) % (2 ^ 23-1))).isNaN=true:=by
 have h1:t / 2 % (2 ^ 23-1)<2 ^ 23-1:=Nat.mod_lt _ (by decide)
 have h2:t % 2<2:=Nat.mod_lt _ (by decide)
 generalize t / 2 % (2 ^ 23-1)=q at *
 generalize t % 2=s at *
 show (Ieee.Format.read Ieee.single _).isNaN=true
 unfold Ieee.Format.read
 have e:(s*2 ^ 31+0x7f800000+1+q) % Ieee.single.signWeight=0x7f800001+q:=by
  show _ % 2 ^ 31=_
  omega
 have b:Ieee.single.binade=2 ^ 23:=rfl
 have i:Ieee.single.infRung=0x7f800000:=rfl
 simp only [e,b,i]
 rw [if_neg (by omega),if_neg (by omega),if_neg (by omega)]
 rfl
theorem nan64 (t:Nat):(FloatKind.f64.decode ((t % 2)*2 ^ 63+0x7ff0000000000000+1+(t / 2) % (2 ^ 52-1))).isNaN=true:=by
 have h1:t / 2 % (2 ^ 52-1)<2 ^ 52-1:=Nat.mod_lt _ (by decide)
 have h2:t % 2<2:=Nat.mod_lt _ (by decide)
 generalize t / 2 % (2 ^ 52-1)=q at *
 generalize t % 2=s at *
 show (Ieee.Format.read Ieee.double _).isNaN=true
 unfold Ieee.Format.read
 have e:(s*2 ^ 63+0x7ff0000000000000+1+q) % Ieee.double.signWeight=0x7ff0000000000001+q:=by
  show _ % 2 ^ 63=_
  omega
 have b:Ieee.double.binade=2 ^ 52:=rfl
 have i:Ieee.double.infRung=0x7ff0000000000000:=rfl
 simp only [e,b,i]
 rw [if_neg (by omega),if_neg (by omega),if_neg (by omega)]
 rfl

theorem zmr (k:FloatKind) (x y t:Nat):cn k ((Question.nanBits k x y).cut t)=qnan k:=by
 cases k
 ·exact z1s (nan32 t)
 ·exact z1s (nan64 t)
theorem zdj (k:FloatKind) (x t:Nat):cn k ((Question.nanConv k x).cut t)=qnan k:=by
 cases k
 ·exact z1s (nan32 t)
 ·exact z1s (nan64 t)
theorem zb4 (k:FloatKind) (m:Bool) (x y t:Nat):cn k ((Question.nanMinMax k m x y).cut t)=qnan k:=by
 cases k
 ·exact z1s (nan32 t)
 ·exact z1s (nan64 t)

theorem zzf (b n:Nat):(b ^^^ 2 ^ n) % 2 ^ n=b % 2 ^ n:=by
 rw [Nat.xor_mod_two_pow];simp
theorem zxx (k:FloatKind) (b:Nat):(k.decode b).isNaN=decide (k.format.infRung<b % k.format.signWeight):=by
 have hb:k.format.binade≤k.format.infRung:=by cases k<;>decide
 show (k.format.read b).isNaN=_
 generalize k.format=f at *
 unfold Ieee.Format.read
 simp only []
 split
 ·simp [Ieee.Datum.isNaN];omega
 ·split
  ·simp [Ieee.Datum.isNaN];omega
  ·split
   ·simp [Ieee.Datum.isNaN];omega
   ·simp [Ieee.Datum.isNaN];omega
theorem zxy (k:FloatKind) (b:Nat):(k.decode (Op.negFloat k b)).isNaN=(k.decode b).isNaN:=by
 rw [zxx,zxx]
 have:Op.negFloat k b % k.format.signWeight=b % k.format.signWeight:=zzf b _
 rw [this]
theorem zmq (k:FloatKind) (b:Nat):cn k (Op.negFloat k b)=fneg k (cn k b):=by
 unfold fneg
 rw [zl1]
 cases h:(k.decode b).isNaN
 ·rw [z1i (by rw [zxy,h]),z1i h];rfl
 ·rw [z1s (by rw [zxy,h])];rfl

theorem z1h8 (way:Ieee.Toward) (s:Bool) (n d:Nat):way.cut s n d≤n+1:=by
 unfold Ieee.Toward.cut
 simp only []
 have hb:∀c:Bool,c.toNat≤1:=fun c=>by cases c<;>decide
 exact Nat.add_le_add (Nat.div_le_self _ _) (hb _)
theorem zcq (b:Nat) (s:Bool) (m:Nat) (e:Int) (h:FloatKind.f32.decode b=.number s m e):
  (FloatKind.f64.decode (FloatKind.f64.encode (.number s m e))).isInfinity=false:=by
 have hm:m<2 ^ 24∧e≤200:=by
  revert h
  show Ieee.Format.read Ieee.single b=_→_
  unfold Ieee.Format.read
  have bi:Ieee.single.binade=2 ^ 23:=rfl
  have ir:Ieee.single.infRung=255*2 ^ 23:=rfl
  have lp:Ieee.single.leastPlace=-149:=rfl
  simp only [bi,ir,lp]
  generalize b % Ieee.single.signWeight=r
  split
  ·intro h;cases h;omega
  ·split
   ·intro h;cases h
    have:=Nat.mod_lt r (y:=2 ^ 23) (by decide)
    constructor
    ·omega
    ·have:r / 2 ^ 23<255:=Nat.div_lt_of_lt_mul (by omega)
     omega
   ·split
    ·intro h;cases h
    ·intro h;cases h
 obtain ⟨hm,he⟩:=hm
 have key:∀r,r<Ieee.double.infRung→(Ieee.double.read (Ieee.double.word s r)).isInfinity=false:=by
  intro r hr
  have hlt:=Ieee.double.infRung_lt
  have e:Ieee.double.word s r % Ieee.double.signWeight=r:=by
   unfold Ieee.Format.word
   split
   ·rw [Nat.add_mod_left];exact Nat.mod_eq_of_lt (by omega)
   ·exact Nat.mod_eq_of_lt (by omega)
  unfold Ieee.Format.read
  simp only [e]
  split
  ·rfl
  ·rfl
 show (Ieee.double.read (Ieee.double.nearest s m e)).isInfinity=false
 unfold Ieee.Format.nearest
 split
 ·exact key 0 (by decide)
 ·rename_i hm0
  simp only []
  refine key _ ?_
  have lp:Ieee.double.leastPlace=-1074:=rfl
  have fb:(Ieee.double.fractionBits:Int)=52:=rfl
  have bi:Ieee.double.binade=2 ^ 52:=rfl
  have ir:Ieee.double.infRung=2047*2 ^ 52:=rfl
  rw [lp,fb,bi,ir]
  have hl:m.log2<24:=(Nat.log2_lt hm0).2 hm
  generalize hlast:max (e+(m.log2:Int)-52) (-1074)=last
  have h1:last≤172:=by omega
  have h2:-1074≤last:=by omega
  have h3:e+(m.log2:Int)-52≤last:=by omega
  -- the kept part
  have hkept:Ieee.Toward.even.cut s (m <<< (e-last).toNat) (last-e).toNat≤2 ^ 53:=by
   have hs:m <<< (e-last).toNat<2 ^ 53:=by
    rw [Nat.shiftLeft_eq]
    have a1:m<2 ^ (m.log2+1):=Nat.lt_log2_self
    have a2:m*2 ^ (e-last).toNat<2 ^ (m.log2+1)*2 ^ (e-last).toNat:=Nat.mul_lt_mul_of_pos_right a1 (Nat.two_pow_pos _)
    rw [←Nat.pow_add] at a2
    exact Nat.lt_of_lt_of_le a2 (Nat.pow_le_pow_right (by decide) (by omega))
   exact Nat.le_trans (z1h8 _ _ _ _) hs
  have hq:(last- -1074).toNat≤1246:=by omega
  have:(last- -1074).toNat*2 ^ 52≤1246*2 ^ 52:=Nat.mul_le_mul_right _ hq
  have h9:1246*2 ^ 52+2 ^ 53<2047*2 ^ 52:=by decide
  exact Nat.lt_of_le_of_lt (Nat.min_le_left _ _) (Nat.lt_of_le_of_lt (Nat.add_le_add this hkept) h9)
theorem zqi (k:FloatKind) (n:Int):cn k (k.nearest n)=k.nearest n:=z5k k rfl
theorem z1ei (s:FloatKind) (b:Nat) (k:IntKind):ftoi s (cn s b) k=ftoi s b k:=by
 cases h:(s.decode b).isNaN
 ·rw [z1i h]
 ·obtain ⟨x,y,e1⟩:=z3p _ h
  obtain ⟨x',y',e2⟩:=z3p (s.decode (cn s b)) ((zl1 s b).trans h)
  unfold ftoi
  rw [e1,e2]
  rfl
end Go.Proofs.YthheoefadijhdaaGreat.Ai
namespace Go.Proofs.YthheoefadijhdaaGreat.Ai
open Go Go.RowKit

theorem zh3 {ρ ρ':Ren} (hp:ρ <+:ρ') {b:Nat} {x:Nat×Nat×Nat} (h:ρ[b]? =some x):ρ'[b]? =some x:=by
 obtain ⟨t,rfl⟩:=hp
 have hb:b<ρ.length:=(List.getElem?_eq_some_iff.1 h).1
 rw [List.getElem?_append_left hb];exact h

theorem VR.mono {ρ ρ':Ren} (hp:ρ <+:ρ') {v v':Value} (h:VR ρ v v'):VR ρ' v v':=by
 induction h with
 | bool b=>exact .bool b
 | int k n=>exact .int k n
 | float k a b e=>exact .float k a b e
 | complex k a a' b b' e e'=>exact .complex k a a' b b' e e'
 | string s=>exact .string s
 | pnil=>exact .pnil
 | ptr b off c base sz hb=>exact .ptr b off c base sz (zh3 hp hb)
 | snil=>exact .snil
 | slice b off len esz c base sz cap hb h1 h2=>exact .slice b off len esz c base sz cap (zh3 hp hb) h1 h2
 | sempty b off a cap=>exact .sempty b off a cap
 | nilFunc=>exact .nilFunc
 | nilIface=>exact .nilIface
 | func fn xs ys as bs h1 _ h2 _ ih1 ih2=>exact .func fn xs ys as bs h1 ih1 h2 ih2
 | agg xs ys h1 _ ih=>exact .agg xs ys h1 ih
 | tuple xs ys h1 _ ih=>exact .tuple xs ys h1 ih

theorem VRs.mono {ρ ρ':Ren} (hp:ρ <+:ρ') {v v':List Value} (h:VRs ρ v v'):VRs ρ' v v':=⟨h.1,fun i x y a b=>(h.2 i x y a b).mono hp⟩

theorem VRs.nil (ρ:Ren):VRs ρ [] []:=⟨rfl,fun i x y h _=>by simp at h⟩
theorem VRs.cons {ρ:Ren} {x y:Value} {xs ys:List Value} (h:VR ρ x y) (hs:VRs ρ xs ys):VRs ρ (x::xs) (y::ys):=
 ⟨by simp [hs.1],fun i a b ha hb=>by
  cases i with
  | zero=>simp at ha hb;subst ha;subst hb;exact h
  | succ i=>exact hs.2 i a b (by simpa using ha) (by simpa using hb)⟩
theorem VRs.uncons {ρ:Ren} {x:Value} {xs l:List Value} (h:VRs ρ (x::xs) l):∃y ys,l=y::ys∧VR ρ x y∧VRs ρ xs ys:=by
 cases l with
 | nil=>exact absurd h.1 (by simp)
 | cons y ys=>exact ⟨y,ys,rfl,h.2 0 x y rfl rfl,by simpa using h.1,fun i a b ha hb=>h.2 (i+1) a b (by simpa using ha) (by simpa using hb)⟩
theorem VRs.unnil {ρ:Ren} {l:List Value} (h:VRs ρ [] l):l=[]:=List.length_eq_zero_iff.1 h.1.symm
theorem VRs.append {ρ:Ren} {a a' b b':List Value} (h:VRs ρ a a') (k:VRs ρ b b'):VRs ρ (a++b) (a'++b'):=by
 induction a generalizing a' with
 | nil=>rw [h.unnil];exact k
 | cons x a ih=>obtain ⟨y,ys,rfl,h1,h2⟩:=h.uncons;exact .cons h1 (ih h2)
theorem VRs.get {ρ:Ren} {xs ys:List Value} (h:VRs ρ xs ys) {i:Nat} {x:Value} (hx:xs[i]? =some x):∃y,ys[i]? =some y∧VR ρ x y:=by
 have hi:i<xs.length:=(List.getElem?_eq_some_iff.1 hx).1
 have hi':i<ys.length:=h.1 ▸ hi
 exact ⟨ys[i],List.getElem?_eq_getElem hi',h.2 i _ _ hx (List.getElem?_eq_getElem hi')⟩
theorem VRs.take {ρ:Ren} {xs ys:List Value} (h:VRs ρ xs ys) (n:Nat):VRs ρ (xs.take n) (ys.take n):=
 ⟨by simp [h.1],fun i x y hx hy=>by
  rw [List.getElem?_take] at hx hy
  split at hx
  ·rw [if_pos ‹_›] at hy;exact h.2 i x y hx hy
  ·cases hx⟩
theorem VRs.drop {ρ:Ren} {xs ys:List Value} (h:VRs ρ xs ys) (n:Nat):VRs ρ (xs.drop n) (ys.drop n):=
 ⟨by simp [h.1],fun i x y hx hy=>by
  rw [List.getElem?_drop] at hx hy
  exact h.2 _ x y hx hy⟩
theorem VRs.set {ρ:Ren} {xs ys:List Value} (h:VRs ρ xs ys) (n:Nat) {x y:Value} (hv:VR ρ x y):VRs ρ (xs.set n x) (ys.set n y):=
 ⟨by simp [h.1],fun i a b ha hb=>by
  rw [List.getElem?_set] at ha hb
  split at ha
  ·rename_i e
   rw [if_pos e] at hb
   split at ha
   ·rw [if_pos (by rw [←h.1];assumption)] at hb;cases ha;cases hb;exact hv
   ·cases ha
  ·rename_i e
   rw [if_neg e] at hb;exact h.2 i a b ha hb⟩
theorem VRs.arr {ρ:Ren} {xs ys:Array Value} (h1:xs.size=ys.size) (h2:∀(i:Nat) (x y:Value),xs[i]? =some x→ys[i]? =some y→VR ρ x y):VRs ρ xs.toList ys.toList:=
 ⟨by simpa using h1,fun i x y a b=>h2 i x y (by simpa using a) (by simpa using b)⟩
theorem VRs.agg {ρ:Ren} {xs ys:Array Value} (h:VRs ρ xs.toList ys.toList):VR ρ (.agg xs) (.agg ys):=
 .agg xs ys (by simpa using h.1) fun i x y a b=>h.2 i x y (by simpa using a) (by simpa using b)
theorem VRs.tuple {ρ:Ren} {xs ys:Array Value} (h:VRs ρ xs.toList ys.toList):VR ρ (.tuple xs) (.tuple ys):=
 .tuple xs ys (by simpa using h.1) fun i x y a b=>h.2 i x y (by simpa using a) (by simpa using b)
theorem VRs.map {ρ:Ren} {α:Type} (f g:α→Value) (h:∀x,VR ρ (f x) (g x)) (l:List α):VRs ρ (l.map f) (l.map g):=by
 induction l with
 | nil=>exact .nil ρ
 | cons x l ih=>exact .cons (h x) ih
theorem VRs.map_mem {ρ:Ren} {α:Type} (f g:α→Value) (l:List α) (h:∀x ∈ l,VR ρ (f x) (g x)):VRs ρ (l.map f) (l.map g):=by
 induction l with
 | nil=>exact .nil ρ
 | cons x l ih=>exact .cons (h x (by simp)) (ih fun y hy=>h y (by simp [hy]))

theorem VR.const {ρ:Ren} {v:Value} (h:z3u v=true):VR ρ v v:=by
 unfold z3u at h
 split at h
 ·exact .bool _
 ·exact .int _ _
 ·exact .string _
 ·exact .pnil
 ·exact .snil
 ·exact .nilFunc
 ·exact .nilIface
 ·exact .float _ _ _ (Nat.eq_of_beq_eq_true h).symm
 ·simp only [Bool.and_eq_true] at h
  exact .complex _ _ _ _ _ (Nat.eq_of_beq_eq_true h.1).symm (Nat.eq_of_beq_eq_true h.2).symm
 ·cases h
theorem VRs.const {ρ:Ren} {l:List Value} (h:l.all z3u=true):VRs ρ l l:=by
 induction l with
 | nil=>exact .nil ρ
 | cons x l ih=>simp only [List.all_cons,Bool.and_eq_true] at h;exact .cons (.const h.1) (ih h.2)
theorem VR.const1 {ρ:Ren} {v:Value} (h:zhv v=true):VR ρ v v:=by
 unfold zhv at h
 split at h
 ·exact VRs.agg (.const h)
 ·exact VRs.tuple (.const h)
 ·exact .const h
theorem zch {v:Value} (h:z3u v=true):isCell v=true:=by
 cases v<;>first | rfl | (simp [z3u] at h)

theorem VR.isCell {ρ:Ren} {v v':Value} (h:VR ρ v v'):isCell v'=Ai.isCell v:=by cases h<;>rfl
theorem zea (v:Value):v.oneCell'=isCell v:=by cases v<;>rfl
theorem VR.cells {ρ:Ren} {v v':Value} (h:VR ρ v v'):VRs ρ v.cells.toList v'.cells.toList:=by
 cases h with
 | agg xs ys h1 h2=>exact .arr h1 h2
 | tuple xs ys h1 h2=>exact .cons (.tuple xs ys h1 h2) (.nil ρ)
 | func fn xs ys as bs h1 h2 h3 h4=>exact .cons (.func fn xs ys as bs h1 h2 h3 h4) (.nil ρ)
 | bool b=>exact .cons (.bool b) (.nil ρ)
 | int k n=>exact .cons (.int k n) (.nil ρ)
 | float k a b e=>exact .cons (.float k a b e) (.nil ρ)
 | complex k a a' b b' e e'=>exact .cons (.complex k a a' b b' e e') (.nil ρ)
 | string s=>exact .cons (.string s) (.nil ρ)
 | pnil=>exact .cons .pnil (.nil ρ)
 | ptr b off c base sz hb=>exact .cons (.ptr b off c base sz hb) (.nil ρ)
 | snil=>exact .cons .snil (.nil ρ)
 | slice b off len esz c base sz cap hb h1 h2=>exact .cons (.slice b off len esz c base sz cap hb h1 h2) (.nil ρ)
 | sempty b off a cap=>exact .cons (.sempty b off a cap) (.nil ρ)
 | nilFunc=>exact .cons .nilFunc (.nil ρ)
 | nilIface=>exact .cons .nilIface (.nil ρ)


structure Drew (w w':World):Prop where
 heap:w'.heap=w.heap
 os:w'.os=w.os
 tape:w'.tape=w.tape
 output:w'.output=w.output
theorem Drew.refl (w:World):Drew w w:=⟨rfl,rfl,rfl,rfl⟩
theorem Drew.drew (w:World):Drew w w.drew:=⟨rfl,rfl,rfl,rfl⟩
theorem Drew.trans {a b c:World} (h:Drew a b) (k:Drew b c):Drew a c:=⟨k.heap.trans h.heap,k.os.trans h.os,k.tape.trans h.tape,k.output.trans h.output⟩
theorem Drew.below {w w':World} (h:Drew w w') (Z:Zone):Kept Z w w':=⟨h.os,h.tape,h.output,by rw [h.heap];exact Nat.le_refl _,fun k _ _=>by rw [h.heap]⟩

theorem HR.drew {Z:Zone} {ρ:Ren} {H:zn} {w w':World} (h:HR Z ρ H w) (d:Drew w w'):HR Z ρ H w':=
 ⟨h.len,by rw [d.heap];exact h.fresh,by rw [d.heap];exact h.live,h.sep⟩

theorem HR.blk {Z:Zone} {ρ:Ren} {H:zn} {w:World} (h:HR Z ρ H w) {b:Nat} {blk:Blk} (hb:H[b]? =some (some blk)):
  ∃c base sz arr e fz,ρ[b]? =some (c,base,sz)∧w.heap[c]? =some (.cells arr e fz)∧blk.cells.length≤sz∧base+sz≤arr.size∧
  (∀i v,blk.cells[i]? =some v→∃v',arr[base+i]? =some v'∧VR ρ v v'∧isCell v=true)∧(Z.rd c∧(blk.own=true→Z.wr c∧fz=(0,0))):=by
 have hl:b<ρ.length:=h.len ▸ (List.getElem?_eq_some_iff.1 hb).1
 obtain ⟨⟨c,base,sz⟩,hr⟩:∃x,ρ[b]? =some x:=⟨_,List.getElem?_eq_getElem hl⟩
 obtain ⟨arr,e,fz,h1,h2,h3,h4,h5⟩:=h.live b blk hb c base sz hr
 exact ⟨c,base,sz,arr,e,fz,hr,h1,h2,h3,h4,h5⟩

theorem zd4 {H:zn} {b:Nat} {cs:List Value} (h:rdB H b=some cs):∃blk:Blk,H[b]? =some (some blk)∧blk.cells=cs:=by
 unfold rdB at h
 split at h
 ·rename_i blk hb;cases h;exact ⟨blk,hb,rfl⟩
 ·cases h

theorem HR.cell {Z:Zone} {ρ:Ren} {H:zn} {w:World} (h:HR Z ρ H w) {b off:Nat} {v:Value} (hv:rdC H b off=some v)
  {c base sz:Nat} (hr:ρ[b]? =some (c,base,sz)):∃v',w.cell? ⟨c,base+off,none⟩=some v'∧VR ρ v v':=by
 unfold rdC at hv
 obtain ⟨cs,h1,h2⟩:=Option.bind_eq_some_iff.1 hv
 obtain ⟨blk,hb,rfl⟩:=zd4 h1
 obtain ⟨arr,e,fz,hh,_,_,hc,_⟩:=h.live b blk hb c base sz hr
 obtain ⟨v',hv',hvr,_⟩:=hc off v h2
 exact ⟨v',by simp [World.cell?,hh,hv'],hvr⟩

theorem z5z {H:zn} {b off n:Nat} {l:List Value} (h:rdN H b off n=some l):
  ∃blk:Blk,H[b]? =some (some blk)∧off+n≤blk.cells.length∧l=(blk.cells.drop off).take n:=by
 unfold rdN at h
 obtain ⟨cs,h1,h2⟩:=Option.bind_eq_some_iff.1 h
 obtain ⟨blk,hb,rfl⟩:=zd4 h1
 split at h2
 ·rename_i hn;cases h2;exact ⟨blk,hb,hn,rfl⟩
 ·cases h2

theorem HR.cells {Z:Zone} {ρ:Ren} {H:zn} {w:World} (h:HR Z ρ H w) {b off n:Nat} {l:List Value} (hl:rdN H b off n=some l)
  {c base sz:Nat} (hr:ρ[b]? =some (c,base,sz)):∃l',VRs ρ l l'∧l'.length=n∧∀j v,l'[j]? =some v→w.cell? ⟨c,base+off+j,none⟩=some v:=by
 obtain ⟨blk,hb,hn,rfl⟩:=z5z hl
 obtain ⟨arr,e,fz,hh,h1,h2,hc,_⟩:=h.live b blk hb c base sz hr
 refine ⟨(arr.toList.drop (base+off)).take n,⟨?_,?_⟩,?_,?_⟩
 ·simp;omega
 ·intro i x y hx hy
  rw [List.getElem?_take] at hx hy
  split at hx
  ·rename_i hi
   rw [if_pos hi,List.getElem?_drop] at hy
   rw [List.getElem?_drop] at hx
   obtain ⟨v',hv',hvr,_⟩:=hc _ _ hx
   rw [Array.getElem?_toList] at hy
   rw [show base+off+i=base+(off+i) by omega,hv'] at hy
   cases hy;exact hvr
  ·cases hx
 ·simp;omega
 ·intro j v hj
  rw [List.getElem?_take] at hj
  split at hj
  ·rw [List.getElem?_drop,Array.getElem?_toList] at hj
   simp [World.cell?,hh,hj]
  ·cases hj
theorem zh4 {H:zn} {b off n:Nat} {l:List Value} (h:rdN H b off n=some l):l.length=n:=by
 obtain ⟨blk,hb,hn,rfl⟩:=z5z h
 simp;omega

theorem HR.alloc {Z:Zone} {ρ:Ren} {H:zn} {w:World} (h:HR Z ρ H w) {cells:List Value} {arr:Array Value} {e:TypeId}
  (hle:cells.length≤arr.size) (hv:VRs ρ cells (arr.toList.take cells.length)) (hc:cells.all isCell=true):
  HR Z (ρ++[(w.heap.size,0,arr.size)]) (H++[some {cells:=cells,own:=true}]) (w.alloc (.cells arr e)):=by
 have hp:ρ <+:ρ++[(w.heap.size,0,arr.size)]:=List.prefix_append _ _
 have old:∀k,k<w.heap.size→(w.alloc (.cells arr e)).heap[k]? =w.heap[k]? :=fun k hk=>Below.heap_alloc _ _ _ hk
 have lt:∀(b:Nat) (blk:Blk) (c base sz:Nat),H[b]? =some (some blk)→ρ[b]? =some (c,base,sz)→c<w.heap.size:=by
  intro b blk c base sz hb hr
  obtain ⟨arr',e',fz,hh,_⟩:=h.live b blk hb c base sz hr
  exact (Array.getElem?_eq_some_iff.1 hh).1
 refine ⟨by simp [h.len],fun c hc=>h.fresh c (by rw [World.size_alloc] at hc;omega),?_,?_⟩
 ·intro b blk hb c base sz hr
  by_cases hlt:b<H.length
  ·rw [List.getElem?_append_left hlt] at hb
   rw [List.getElem?_append_left (h.len ▸ hlt)] at hr
   obtain ⟨arr',e',fz,hh,h1,h2,h3,h4⟩:=h.live b blk hb c base sz hr
   refine ⟨arr',e',fz,by rw [old _ (lt _ _ _ _ _ hb hr)];exact hh,h1,h2,fun i v hi=>?_,h4⟩
   obtain ⟨v',a1,a2,a3⟩:=h3 i v hi
   exact ⟨v',a1,a2.mono hp,a3⟩
  ·rw [List.getElem?_append_right (by omega)] at hb
   rw [List.getElem?_append_right (by rw [←h.len];omega)] at hr
   have hb0:b-H.length=0:=by
    cases hd:b-H.length with
    | zero=>rfl
    | succ n=>rw [hd] at hb;simp at hb
   rw [←h.len,hb0] at hr
   rw [hb0] at hb
   simp at hb hr
   obtain ⟨rfl,rfl,rfl⟩:=hr
   subst hb
   refine ⟨arr,e,(0,0),by show (w.heap.push _)[w.heap.size]? =_;simp,hle,by simp,fun i v hi=>?_,(h.fresh _ (Nat.le_refl _)).1,fun _=>⟨(h.fresh _ (Nat.le_refl _)).2,rfl⟩⟩
   obtain ⟨v',a1,a2⟩:=hv.get hi
   have hi':i<cells.length:=(List.getElem?_eq_some_iff.1 hi).1
   rw [List.getElem?_take,if_pos hi',Array.getElem?_toList] at a1
   refine ⟨v',by rw [Nat.zero_add];exact a1,a2.mono hp,?_⟩
   exact List.all_eq_true.1 hc v (List.mem_of_getElem? hi)
 ·intro b1 b2 blk1 blk2 hb1 hb2 hne ho c1 p1 s1 c2 p2 s2 hr1 hr2
  by_cases l1:b1<H.length
  ·rw [List.getElem?_append_left l1] at hb1
   rw [List.getElem?_append_left (h.len ▸ l1)] at hr1
   by_cases l2:b2<H.length
   ·rw [List.getElem?_append_left l2] at hb2
    rw [List.getElem?_append_left (h.len ▸ l2)] at hr2
    exact h.sep b1 b2 blk1 blk2 hb1 hb2 hne ho c1 p1 s1 c2 p2 s2 hr1 hr2
   ·rw [List.getElem?_append_right (by rw [←h.len];omega)] at hr2
    have:c2=w.heap.size:=by
     cases hd:b2-ρ.length with
     | zero=>rw [hd] at hr2;simp at hr2;exact hr2.1.symm
     | succ n=>rw [hd] at hr2;simp at hr2
    have:=lt _ _ _ _ _ hb1 hr1
    omega
  ·rw [List.getElem?_append_right (by rw [←h.len];omega)] at hr1
   have e1:c1=w.heap.size∧b1=H.length:=by
    cases hd:b1-ρ.length with
    | zero=>rw [hd] at hr1;simp at hr1;exact ⟨hr1.1.symm,by have:=h.len;omega⟩
    | succ n=>rw [hd] at hr1;simp at hr1
   by_cases l2:b2<H.length
   ·rw [List.getElem?_append_left l2] at hb2
    rw [List.getElem?_append_left (h.len ▸ l2)] at hr2
    have:=lt _ _ _ _ _ hb2 hr2
    omega
   ·rw [List.getElem?_append_right (by rw [←h.len];omega)] at hr2
    cases hd:b2-ρ.length with
    | zero=>have:=h.len;omega
    | succ n=>rw [hd] at hr2;simp at hr2

theorem Kept.alloc' {Z:Zone} {ρ:Ren} {H:zn} {w:World} (_h:HR Z ρ H w) (o:Obj):Kept Z w (w.alloc o):=(Kept.refl Z w).alloc o

theorem HR.kill {Z:Zone} {ρ:Ren} {H:zn} {w:World} (h:HR Z ρ H w) (b:Nat):HR Z ρ (H.set b none) w:=by
 have get:∀(b':Nat) (blk:Blk),(H.set b none)[b']? =some (some blk)→H[b']? =some (some blk):=by
  intro b' blk hb
  rw [List.getElem?_set] at hb
  split at hb
  ·split at hb<;>simp at hb
  ·exact hb
 exact ⟨by simp [h.len],h.fresh,fun b' blk hb=>h.live b' blk (get _ _ hb),fun b1 b2 blk1 blk2 h1 h2=>h.sep b1 b2 blk1 blk2 (get _ _ h1) (get _ _ h2)⟩

theorem HR.store {Z:Zone} {ρ:Ren} {H:zn} {w:World} (h:HR Z ρ H w) {b off:Nat} {blk:Blk} (hb:H[b]? =some (some blk)) (ho:blk.own=true)
  (hoff:off<blk.cells.length) {c base sz:Nat} (hr:ρ[b]? =some (c,base,sz)) {v v':Value} (hv:VR ρ v v') (hc:isCell v=true):
  HR Z ρ (setC H b off v) (w.setCell ⟨c,base+off,none⟩ v')∧(∃u,w.cell? ⟨c,base+off,none⟩=some u)∧w.frozen? ⟨c,base+off,none⟩=false∧
   Kept Z w (w.setCell ⟨c,base+off,none⟩ v'):=by
 obtain ⟨arr,e,fz,hh,h1,h2,h3,h4⟩:=h.live b blk hb c base sz hr
 obtain ⟨hB,rfl⟩:=h4.2 ho
 have hbl:b<H.length:=(List.getElem?_eq_some_iff.1 hb).1
 have hs:setC H b off v=H.set b (some {blk with cells:=blk.cells.set off v}):=by simp [setC,hb]
 have heap_c:(w.setCell ⟨c,base+off,none⟩ v').heap[c]? =some (.cells (arr.setIfInBounds (base+off) v') e (0,0)):=by
  simp only [World.setCell,Array.getElem?_modify,if_true,hh,Option.map_some];rfl
 have heap_o:∀k,k≠c→(w.setCell ⟨c,base+off,none⟩ v').heap[k]? =w.heap[k]? :=fun k hk=>Below.heap_setCell _ _ _ _ hk
 refine ⟨⟨by rw [hs];simp [h.len],by rw [World.size_setCell];exact h.fresh,?_,?_⟩,?_,?_,?_⟩
 ·intro b' blk' hb' c' base' sz' hr'
  rw [hs,List.getElem?_set] at hb'
  split at hb'
  ·rename_i e';subst e'
   try rw [if_pos hbl] at hb'
   cases hb'
   rw [hr] at hr';cases hr'
   refine ⟨_,_,_,heap_c,by simpa using h1,by simpa using h2,fun i x hi=>?_,h4.1,fun _=>⟨hB,rfl⟩⟩
   simp only [List.getElem?_set] at hi
   split at hi
   ·rename_i e';subst e'
    (try rw [if_pos hoff] at hi);cases hi
    refine ⟨v',?_,hv,hc⟩
    rw [Array.getElem?_setIfInBounds,if_pos rfl,if_pos (by omega)]
   ·rename_i e'
    obtain ⟨x',a1,a2,a3⟩:=h3 i x hi
    refine ⟨x',?_,a2,a3⟩
    rw [Array.getElem?_setIfInBounds,if_neg (by omega)];exact a1
  ·rename_i e'
   have hne:=h.sep b b' blk blk' hb hb' e' ho c base sz c' base' sz' hr hr'
   obtain ⟨arr',e'',fz',g1,g2⟩:=h.live b' blk' hb' c' base' sz' hr'
   exact ⟨arr',e'',fz',by rw [heap_o _ (Ne.symm hne)];exact g1,g2⟩
 ·have get:∀(b':Nat) (blk':Blk),(setC H b off v)[b']? =some (some blk')→∃blk'':Blk,H[b']? =some (some blk'')∧blk''.own=blk'.own:=by
   intro b' blk' hb'
   rw [hs,List.getElem?_set] at hb'
   split at hb'
   ·rename_i e';subst e';(try rw [if_pos hbl] at hb');cases hb';exact ⟨blk,hb,rfl⟩
   ·exact ⟨blk',hb',rfl⟩
  intro b1 b2 blk1 blk2 g1 g2 hne ho1
  obtain ⟨k1,q1,q2⟩:=get _ _ g1
  obtain ⟨k2,q3,q4⟩:=get _ _ g2
  exact h.sep b1 b2 k1 k2 q1 q3 hne (q2.trans ho1)
 ·have:base+off<arr.size:=by omega
  exact ⟨arr[base+off],by simp [World.cell?,hh,this]⟩
 ·simp [World.frozen?,hh]
 ·exact (Kept.refl Z w).setCell (p:=⟨c,base+off,none⟩) hB v'
end Go.Proofs.YthheoefadijhdaaGreat.Ai
set_option linter.unusedSimpArgs false
set_option linter.unusedVariables false
namespace Go.Proofs.YthheoefadijhdaaGreat.Ai
open Go Go.RowKit

def EvOk (Z:Zone) (n:Nat) (e:Event):Prop:=(∃a,e.loc=.cell a∧a.block<n∧Z.rd a.block∧(e.write=true→Z.wr a.block))∨(∃r,e.loc=.obj r∧r<n∧Z.rd r∧Z.wr r)∨∃m,e.loc=.mark m∧(m=.noRoom∨∃f,m=.extern f)
def Evs (P:Program) (Z:Zone) {α:Type} (s:Sem α) (w w':World):Prop:=∀e ∈ s.events P w #[],EvOk Z w'.heap.size e
theorem EvOk.mono {Z:Zone} {n n':Nat} {e:Event} (h:EvOk Z n e) (hn:n≤n'):EvOk Z n' e:=
 h.imp (fun ⟨a,h1,h2,h3⟩=>⟨a,h1,Nat.lt_of_lt_of_le h2 hn,h3⟩) (Or.imp (fun ⟨a,h1,h2,h3⟩=>⟨a,h1,Nat.lt_of_lt_of_le h2 hn,h3⟩) id)
theorem Evs.none {P:Program} {Z:Zone} {α:Type} {s:Sem α} {w w':World} (h:∀es,s.events P w es=es):Evs P Z s w w':=fun e he=>by rw [h] at he;simp at he

def VOut (P:Program) (Z:Zone) (ρ:Ren) (s:Sem Value) (w:World) (K:Value→Prop):Prop:=
 ∃v,K v∧∃v' w',s.run P w=.ok v' w'∧VR ρ v v'∧Drew w w'∧Evs P Z s w w'

theorem VOut.plain {P:Program} {Z:Zone} {ρ:Ren} {s:Sem Value} {w:World} {K:Value→Prop} {v v':Value} (hk:K v) (hr:s.run P w=.ok v' w) (he:∀es,s.events P w es=es) (hv:VR ρ v v'):VOut P Z ρ s w K:=
 ⟨v,hk,v',w,hr,hv,.refl w,.none he⟩

section
variable {P:Program} {Z:Zone} {ρ:Ren} {w:World}

theorem z1ek {a b:IntKind} (h:ikEq a b=true):a=b:=by cases a<;>cases b<;>first | rfl | cases h
theorem zn9 {a b:FloatKind} (h:fkEq a b=true):a=b:=by cases a<;>cases b<;>first | rfl | cases h
theorem z1c {b:Bool} {p:Prop} (h:chk b p):b=true∧p:=by cases b<;>first | exact h.elim | exact ⟨rfl,h⟩

theorem ziu (k:FloatKind) (x y:Nat) (o:Option Nat) (ho:∀r,o=some r→cn k r=r) (w:World):
  ∃r w',((match o with | some r=>pure (.float k r) | none=>do pure (.float k (←choose (.nanBits k x y))):Sem Value).run P w=.ok (.float k r) w')∧cn k r=o.getD (qnan k)∧Drew w w'∧(∀es,((match o with | some r=>pure (.float k r) | none=>do pure (.float k (←choose (.nanBits k x y))):Sem Value).events P w es)=es):=by
 cases o with
 | some r=>exact ⟨r,w,rfl,ho r rfl,.refl w,fun _=>rfl⟩
 | none=>exact ⟨_,w.drew,rfl,zmr k x y _,.drew w,fun _=>rfl⟩

theorem zfl (op:BinOp) (k:FloatKind) (x y:Nat) (w:World) (o:Option Nat)
  (h:(op=.add∧o=k.format.add x y)∨(op=.sub∧o=k.format.sub x y)∨(op=.mul∧o=k.format.mul x y)∨(op=.quo∧o=k.format.div x y)):
  ∃r w',(Op.floatArith op k x y).run P w=.ok (.float k r) w'∧cn k r=o.getD (qnan k)∧Drew w w'∧(∀es,(Op.floatArith op k x y).events P w es=es):=by
 rcases h with ⟨rfl,rfl⟩ | ⟨rfl,rfl⟩ | ⟨rfl,rfl⟩ | ⟨rfl,rfl⟩
 ·exact ziu k x y _ (fun r h=>z12f h) w
 ·exact ziu k x y _ (fun r h=>z16n h) w
 ·exact ziu k x y _ (fun r h=>z15j h) w
 ·exact ziu k x y _ (fun r h=>z12o h) w

theorem z5g {op:BinOp} {k:FloatKind} {x y:Nat} {f:FloatKind→Nat→Nat→Nat} {o:Option Nat} (hf:f k (cn k x) (cn k y)=o.getD (qnan k))
  (h:(op=.add∧o=k.format.add x y)∨(op=.sub∧o=k.format.sub x y)∨(op=.mul∧o=k.format.mul x y)∨(op=.quo∧o=k.format.div x y))
  {K:Value→Prop} (hk:K (.float k (f k (cn k x) (cn k y)))):VOut P Z ρ (Op.floatArith op k x y) w K:=by
 obtain ⟨r,w',h1,h2,h3,h4⟩:=zfl (P:=P) op k x y w o h
 exact ⟨_,hk,_,w',h1,.float k _ r (by rw [hf,h2]),h3,.none h4⟩

theorem zi3 (o:Option Ordering):(o.map Ordering.swap==some .lt)=(o==some .gt):=by cases o with | none=>rfl | some x=>cases x<;>rfl
theorem zvs (o:Option Ordering):(o.map Ordering.swap==some .eq)=(o==some .eq):=by cases o with | none=>rfl | some x=>cases x<;>rfl

def z2r (op:BinOp) (k:FloatKind) (x y:Nat):Sem Value:=
 match op with
 | .add | .sub | .mul | .quo=>Op.floatArith op k x y
 | _=>Op.floatCmp op k x y
def ze1 (op:BinOp) (k:IntKind) (x y:Int):Sem Value:=
 match op with
 | .add | .sub | .mul=>Op.intArith op k x y
 | .quo | .rem=>Op.intDiv op k x y
 | .and | .or | .xor | .andNot=>Op.intBits op k x y
 | _=>Op.intCmp op x y
def zmt:Value→Bool
 | .nilIface | .agg _=>false
 | _=>true

theorem zkg {op:BinOp} {k:FloatKind} {x y:Nat} {K:Value→Prop} (h:zb8 op k (cn k x) (cn k y) K):
  VOut P Z ρ (z2r op k x y) w K:=by
 unfold zb8 at h
 split at h
 ·exact z5g (f:=fadd) (z1ea k x y) (.inl ⟨rfl,rfl⟩) h
 ·exact z5g (f:=fsub) (z1eh k x y) (.inr (.inl ⟨rfl,rfl⟩)) h
 ·exact z5g (f:=fmul) (z1eg k x y) (.inr (.inr (.inl ⟨rfl,rfl⟩))) h
 ·exact z5g (f:=fdiv) (z1ec k x y) (.inr (.inr (.inr ⟨rfl,rfl⟩))) h
 ·exact .plain h (by simp [z2r,Op.floatCmp,feq,z3q]<;>rfl) (by intro es;simp [z2r,Op.floatCmp,feq,z3q]) (.bool _)
 ·exact .plain h (by simp [z2r,Op.floatCmp,feq,z3q]<;>rfl) (by intro es;simp [z2r,Op.floatCmp,feq,z3q]) (.bool _)
 ·exact .plain h (by simp [z2r,Op.floatCmp,flt,z3q]) (by intro es;simp [z2r,Op.floatCmp,flt,z3q]) (.bool _)
 ·exact .plain h (by simp [z2r,Op.floatCmp,fle,z3q]) (by intro es;simp [z2r,Op.floatCmp,fle,z3q]) (.bool _)
 ·exact .plain h (by simp [z2r,Op.floatCmp,flt,z3q,z9x k x y,zi3]) (by intro es;simp [z2r,Op.floatCmp,flt,z3q,z9x k x y,zi3]) (.bool _)
 ·exact .plain h (by simp [z2r,Op.floatCmp,fle,z3q,z9x k x y,zi3,zvs]) (by intro es;simp [z2r,Op.floatCmp,fle,z3q,z9x k x y,zi3,zvs]) (.bool _)
 ·exact h.elim

theorem zr7 {op:BinOp} {k:IntKind} {x y:Int} {K:Value→Prop} (h:zi6 op k x y K) (hl:op≠.shl) (hr:op≠.shr):
  VOut P Z ρ (ze1 op k x y) w K:=by
 cases op<;>simp only [zi6] at h
 case add=>exact .plain h rfl (fun _=>rfl) (.int _ _)
 case sub=>exact .plain h rfl (fun _=>rfl) (.int _ _)
 case mul=>exact .plain h rfl (fun _=>rfl) (.int _ _)
 case quo=>exact .plain h.2 (by simp [ze1,Op.intDiv,h.1]) (by intro es;simp [ze1,Op.intDiv,h.1]) (.int _ _)
 case rem=>exact .plain h.2 (by simp [ze1,Op.intDiv,h.1]) (by intro es;simp [ze1,Op.intDiv,h.1]) (.int _ _)
 case and=>exact .plain h rfl (fun _=>rfl) (.int _ _)
 case or=>exact .plain h rfl (fun _=>rfl) (.int _ _)
 case xor=>exact .plain h rfl (fun _=>rfl) (.int _ _)
 case andNot=>exact .plain h rfl (fun _=>rfl) (.int _ _)
 case eql=>exact .plain h rfl (fun _=>rfl) (.bool _)
 case neq=>exact .plain h rfl (fun _=>rfl) (.bool _)
 case lss=>exact .plain h rfl (fun _=>rfl) (.bool _)
 case leq=>exact .plain h rfl (fun _=>rfl) (.bool _)
 case gtr=>exact .plain h rfl (fun _=>rfl) (.bool _)
 case geq=>exact .plain h rfl (fun _=>rfl) (.bool _)

theorem z12i {op:BinOp} {t:TypeId} {x y x' y':Value} (ox oy:Operand) {K:Value→Prop} (h:binK P op t x y K) (hx:VR ρ x x') (hy:VR ρ y y'):
  VOut P Z ρ (do eqGuard op t ox oy x' y';binOp op t x' y') w K:=by
 have guard:∀a b:Value,zmt a=true→(eqGuard op t ox oy a b).run P w=.ok () w:=by
  intro a b hab
  unfold eqGuard
  cases op<;>simp only [Bool.not_true,Bool.not_false,if_true,Bool.false_eq_true,if_false]<;>first | rfl | skip
  all_goals (split<;>first | cases hab | rfl)
 have guardE:∀a b:Value,zmt a=true→∀es,(eqGuard op t ox oy a b).events P w es=es:=by
  intro a b hab es
  unfold eqGuard
  cases op<;>simp only [Bool.not_true,Bool.not_false,if_true,Bool.false_eq_true,if_false]<;>first | rfl | skip
  all_goals (split<;>first | cases hab | rfl)
 have go:VOut P Z ρ (binOp op t x' y') w K→zmt x'=true→VOut P Z ρ (do eqGuard op t ox oy x' y';binOp op t x' y') w K:=by
  rintro ⟨v,hk,v',w',hr,hv,hd,he⟩ hg
  refine ⟨v,hk,v',w',?_,hv,hd,?_⟩
  ·rw [Sem.run_bind,guard _ _ hg]
   exact hr
  ·unfold Evs at he ⊢
   rw [Sem.events_bind,guard _ _ hg,guardE _ _ hg]
   exact he
 cases hx with
 | int k a=>
  cases hy with
  | int k' b=>
   refine go ?_ rfl
   simp only [binK] at h
   split at h
   ·have hb:¬b<0:=by omega
    exact .plain h.2 (by simp [binOp,Op.shift,hb]) (by intro es;simp [binOp,Op.shift,hb]) (.int _ _)
   ·have hb:¬b<0:=by omega
    exact .plain h.2 (by simp [binOp,Op.shift,hb]) (by intro es;simp [binOp,Op.shift,hb]) (.int _ _)
   ·rename_i h1 h2
    obtain ⟨hk,h9⟩:=z1c h
    obtain rfl:=z1ek hk
    obtain ⟨v,hkv,v',w',hr,hv⟩:=zr7 (P:=P) (Z:=Z) (ρ:=ρ) (w:=w) h9 h1 h2
    have hsem:binOp op t (.int k a) (.int k b)=ze1 op k a b:=by cases op<;>first | exact (h1 rfl).elim | exact (h2 rfl).elim | simp [binOp,ze1]
    rw [hsem]
    exact ⟨v,hkv,v',w',hr,hv⟩
  | _=>exact h.elim
 | float k a b e=>
  cases hy with
  | float k' a' b' e'=>
   refine go ?_ rfl
   simp only [binK] at h
   obtain ⟨hk,h9⟩:=z1c h
   obtain rfl:=zn9 hk
   subst e;subst e'
   obtain ⟨v,hkv,v',w',hr,hv⟩:=zkg (P:=P) (Z:=Z) (ρ:=ρ) (w:=w) h9
   have hsem:binOp op t (.float k b) (.float k b')=z2r op k b b':=by cases op<;>simp [binOp,z2r]
   rw [hsem]
   exact ⟨v,hkv,v',w',hr,hv⟩
  | _=>exact h.elim
 | bool a=>
  cases hy with
  | bool b=>
   refine go ?_ rfl
   simp only [binK] at h
   have key:P.underlying t=some .bool→(Op.equal t (.bool a) (.bool b)).run P w=.ok (a==b) w:=by
    intro hu
    have:∀d,(Op.equalIn (d+1) t (.bool a) (.bool b)).run P w=.ok (a==b) w:=fun d=>by simp [Op.equalIn,run_underlying hu]
    exact this 9999
   have keyE:P.underlying t=some .bool→∀es,(Op.equal t (.bool a) (.bool b)).events P w es=es:=by
    intro hu es
    have:∀d,(Op.equalIn (d+1) t (.bool a) (.bool b)).events P w es=es:=fun d=>by simp [Op.equalIn,run_underlying hu]
    exact this 9999
   split at h
   ·rename_i hu
    exact .plain h (by simp [binOp,key hu]) (by intro es;simp [binOp,key hu,keyE hu]) (.bool _)
   ·rename_i hu
    exact .plain h (by simp [binOp,key hu]) (by intro es;simp [binOp,key hu,keyE hu]) (.bool _)
   ·exact h.elim
  | _=>exact h.elim
 | string a=>
  cases hy with
  | string b=>
   refine go ?_ rfl
   simp only [binK] at h
   split at h
   ·have h1:¬(((a.size+b.size:Nat):Int) > IntKind.i64.max):=by
     have:IntKind.i64.max=2 ^ 63-1:=rfl
     omega
    refine .plain h.2 ?_ (fun es=>?_) (.string _)
    ·simp only [binOp,Op.stringOp,if_neg h1];rfl
    ·simp only [binOp,Op.stringOp,if_neg h1];rfl
   ·exact .plain h (by simp [binOp,Op.stringOp]) (by intro es;simp [binOp,Op.stringOp]) (.bool _)
   ·exact .plain h (by simp [binOp,Op.stringOp]) (by intro es;simp [binOp,Op.stringOp]) (.bool _)
   ·exact h.elim
  | _=>exact h.elim
 | _=>exact h.elim

theorem z1fc {op:UnOp} {x x':Value} {K:Value→Prop} (h:unK op x K) (hx:VR ρ x x'):VOut P Z ρ (Op.unary op x') w K:=by
 cases hx<;>cases op<;>simp only [unK] at h<;>first | exact h.elim | skip
 ·exact .plain h (by simp [Op.unary]) (by intro es;simp [Op.unary]) (.bool _)
 ·exact .plain h (by simp [Op.unary,Op.intArith]) (by intro es;simp [Op.unary,Op.intArith]) (.int _ _)
 ·rename_i k a b e
  exact .plain h (by simp [Op.unary];rfl) (by intro es;simp [Op.unary]) (.float k _ _ (by rw [e,zmq]))
 ·rename_i k a a' b b' e e'
  exact .plain h (by simp [Op.unary];exact ⟨rfl,rfl⟩) (by intro es;simp [Op.unary]) (.complex k _ _ _ _ (by rw [e,zmq]) (by rw [e',zmq]))

theorem zj2 (b:Nat) (w:World):∃r w',(Conv.floatToFloat .f32 b .f64).run P w=.ok (.float .f64 r) w'∧cn .f64 r=z2m (cn .f32 b)∧Drew w w'∧(∀es,(Conv.floatToFloat .f32 b .f64).events P w es=es):=by
 unfold Conv.floatToFloat
 rw [if_neg (by decide)]
 cases h:FloatKind.f32.decode b with
 | nan s t=>
  refine ⟨_,w.drew,rfl,?_,.drew w,fun _=>rfl⟩
  rw [zdj,z1s (by rw [h];rfl)]
  have:∀s t,FloatKind.f32.decode (qnan .f32)=.nan s t→qnan .f64=z2m (qnan .f32):=fun s t e=>by unfold z2m;rw [e]
  obtain ⟨s',t',e⟩:=z3p _ (zd3 .f32)
  exact this s' t' e
 | infinity s=>
  refine ⟨_,w,rfl,?_,.refl w,fun _=>rfl⟩
  rw [z1i (k:=.f32) (by rw [h];rfl),z5k .f64 rfl]
  unfold z2m;rw [h]
 | number s m e=>
  refine ⟨FloatKind.f64.encode (.number s m e),w,?_,?_,.refl w,fun es=>?_⟩
  rotate_left 2
  ·simp only [zcq b s m e h,Bool.false_eq_true,if_false];rfl
  ·simp only [zcq b s m e h,Bool.false_eq_true,if_false];rfl
  ·rw [z1i (k:=.f32) (by rw [h];rfl),z5k .f64 rfl]
   unfold z2m;rw [h]

theorem zc4 (b r:Nat) (w:World) (hr:z1x (cn .f64 b)=some r):∃r' w',(Conv.floatToFloat .f64 b .f32).run P w=.ok (.float .f32 r') w'∧r=cn .f32 r'∧Drew w w'∧(∀es,(Conv.floatToFloat .f64 b .f32).events P w es=es):=by
 unfold Conv.floatToFloat
 rw [if_neg (by decide)]
 cases h:FloatKind.f64.decode b with
 | nan s t=>
  refine ⟨_,w.drew,rfl,?_,.drew w,fun _=>rfl⟩
  rw [zdj]
  obtain ⟨s',t',e⟩:=z3p (FloatKind.f64.decode (cn .f64 b)) ((zl1 .f64 b).trans (by rw [h];rfl))
  unfold z1x at hr;rw [e] at hr
  exact (Option.some.inj hr).symm
 | infinity s=>
  refine ⟨_,w,rfl,?_,.refl w,fun _=>rfl⟩
  rw [z1i (k:=.f64) (by rw [h];rfl)] at hr
  unfold z1x at hr;rw [h] at hr
  rw [z5k .f32 rfl];exact (Option.some.inj hr).symm
 | number s m e=>
  rw [z1i (k:=.f64) (by rw [h];rfl)] at hr
  unfold z1x at hr;rw [h] at hr
  simp only [] at hr
  split at hr
  ·cases hr
  ·rename_i hi
   refine ⟨FloatKind.f32.encode (.number s m e),w,?_,?_,.refl w,fun es=>?_⟩
   rotate_left 2
   ·simp only [hi,Bool.false_eq_true,if_false];rfl
   ·simp only [hi,Bool.false_eq_true,if_false];rfl
   ·rw [z5k .f32 rfl];exact (Option.some.inj hr).symm

end
end Go.Proofs.YthheoefadijhdaaGreat.Ai
set_option linter.unusedSimpArgs false
set_option linter.unusedVariables false
namespace Go.Proofs.YthheoefadijhdaaGreat.Ai
open Go Go.RowKit

def HOut (P:Program) (Z:Zone) (ρ:Ren) (s:Sem Value) (w:World) (K:Value→zn→Prop):Prop:=
 ∃v H',K v H'∧∃v' w' ρ',s.run P w=.ok v' w'∧ρ <+:ρ'∧HR Z ρ' H' w'∧VR ρ' v v'∧Kept Z w w'∧Evs P Z s w w'

theorem HOut.of {P:Program} {Z:Zone} {ρ:Ren} {s:Sem Value} {w:World} {H:zn} {K:Value→zn→Prop} (hr:HR Z ρ H w) (h:VOut P Z ρ s w (K · H)):HOut P Z ρ s w K:=by
 obtain ⟨v,hk,v',w',h1,h2,h3,h4⟩:=h
 exact ⟨v,H,hk,v',w',ρ,h1,List.prefix_refl _,hr.drew h3,h2,h3.below _,h4⟩

section
variable {P:Program} {ρ:Ren} {w:World} {Z:Zone} {H:zn}

theorem zq5 {t:TypeId} {i:TypeInfo} (h:P.info? t=some i) (w:World):(typeInfo t).run P w=.ok i w:=by
 simp [typeInfo,h]
theorem z1h {t:TypeId} {n:Nat} (h:z5m P t=some n) (w:World):(sizeOf t).run P w=.ok n w:=by
 unfold z5m at h
 obtain ⟨i,hi,rfl⟩:=Option.map_eq_some_iff.1 h
 simp [sizeOf,zq5 hi]
theorem z5j {t:TypeId} {z:Value} (h:z9u P t=some z) (w:World):(zeroValue t).run P w=.ok z w:=by
 unfold z9u at h
 obtain ⟨i,hi,hz⟩:=Option.bind_eq_some_iff.1 h
 simp [zeroValue,zq5 hi,hz]
theorem z9q {t:TypeId} {b:Bool} (h:zpb P t=some b) (w:World):(isAgg t).run P w=.ok b w:=by
 unfold zpb at h
 unfold isAgg
 split at h
 ·rename_i fs hu;cases h;simp [run_underlying hu]
 ·rename_i n e hu;cases h;simp [run_underlying hu]
 ·rename_i d h1 h2 hu;cases h
  rw [Sem.run_bind,run_underlying hu]
  simp only [Result.andThen_ok]
  rfl
 ·cases h

theorem HR.rdOk (h:HR Z ρ H w) {b:Nat} {blk:Blk} (hb:H[b]? =some (some blk)) {c base sz:Nat} (hr:ρ[b]? =some (c,base,sz)):c<w.heap.size∧Z.rd c:=by
 obtain ⟨arr,e,fz,h1,_,_,_,h4⟩:=h.live b blk hb c base sz hr
 exact ⟨(Array.getElem?_eq_some_iff.1 h1).1,h4.1⟩
theorem z1f7 {b off:Nat} {v:Value} (h:rdC H b off=some v):∃blk:Blk,H[b]? =some (some blk):=by
 unfold rdC at h
 obtain ⟨cs,h1,_⟩:=Option.bind_eq_some_iff.1 h
 obtain ⟨blk,hb,_⟩:=zd4 h1
 exact ⟨blk,hb⟩
theorem EvOk.read {e:Event} {c n:Nat} (h:e.readsIn (·=c)) (hc:c<n∧Z.rd c):EvOk Z n e:=by
 obtain ⟨ad,h1,h2,h3⟩:=h
 exact .inl ⟨ad,h1,by rw [h3];exact hc.1,by rw [h3];exact hc.2,fun h4=>by rw [h2] at h4;cases h4⟩
theorem zjx {c o n:Nat} (hc:c<w.heap.size∧Z.rd c) {l:List Value} (hl:l.length=n) (h:∀j v,l[j]? =some v→w.cell? ⟨c,o+j,none⟩=some v):
  ∀e ∈ (loadCells ⟨c,o,none⟩ n).events P w #[],EvOk Z w.heap.size e:=by
 intro e he
 rcases events_loadCellsFrom_at (P:=P) ⟨c,o,none⟩ (·=c) rfl n 0 #[] w #[] (fun j hj=>by
  rw [Nat.zero_add,show Addr.add ⟨c,o,none⟩ j=⟨c,o+j,none⟩ from by unfold Addr.add;split<;>simp_all]
  rw [h j l[j] (List.getElem?_eq_getElem (by omega))];rfl) e he with h1 | h1
 ·simp at h1
 ·exact .read h1 hc

theorem zkw {z:Value} {K:Value→Prop} (h:zfr z K):∃v,K v:=by
 unfold zfr at h
 split at h
 ·obtain ⟨a,h⟩:=h;exact ⟨_,h⟩
 ·obtain ⟨a,h⟩:=h;exact ⟨_,h⟩
 ·obtain ⟨a,h⟩:=h;exact ⟨_,h⟩
 ·obtain ⟨a,b,h⟩:=h;exact ⟨_,h⟩
 ·obtain ⟨a,h⟩:=h;exact ⟨_,h⟩
 ·obtain ⟨a,h⟩:=h;exact ⟨_,h⟩
 ·obtain ⟨a,b,c,h⟩:=h;exact ⟨_,h⟩
 ·exact h
theorem zrf {zs:List Value} {K:List Value→Prop} (h:ze5 zs K):∃l,K l:=by
 induction zs generalizing K with
 | nil=>exact ⟨[],h⟩
 | cons z zs ih=>
  obtain ⟨v,h⟩:=zkw h
  obtain ⟨l,h⟩:=ih h
  exact ⟨_,h⟩

theorem z2j (b off n:Nat):Addr.add ⟨b,off,none⟩ n=⟨b,off+n,none⟩:=by
 unfold Addr.add;split
 ·rename_i h;subst h;rfl
 ·rfl

theorem zky {t:TypeId} {x x':Value} {K:Value→Prop} (hr:HR Z ρ H w) (h:z8e P t x H K) (hx:VR ρ x x'):
  ∃v,K v∧∃c v',x'=.pointer (some c)∧(loadVar t c).run P w=.ok v' w∧VR ρ v v'∧Evs P Z (loadVar t c) w w:=by
 cases hx<;>simp only [z8e] at h<;>try exact h.elim
 rename_i b off c base sz hb
 split at h
 ·rename_i n z h1 h2 h3
  obtain ⟨l,hl,hk⟩:=zrf h
  obtain ⟨l',hv,hlen,hc⟩:=hr.cells hl hb
  refine ⟨_,hk,_,.agg l'.toArray,rfl,?_,VRs.agg (xs:=l.toArray) (ys:=l'.toArray) (by simpa using hv),?_⟩
  rotate_left
  ·obtain ⟨blk,hbk,_,_⟩:=z5z hl
   have hee:=zjx (P:=P) (n:=n+1) (hr.rdOk hbk hb) hlen (fun j v hj=>hc j v hj)
   simp only [Nat.succ_eq_add_one] at h2
   unfold Evs
   simpa [loadVar,z9q h1,z1h h2] using hee
  have hcs:(loadCells ⟨c,base+off,none⟩ (n+1)).run P w=.ok l'.toArray w:=by
   rw [←hlen]
   exact run_loadCells_list w _ _ fun j v hj=>by rw [z2j];exact hc j v hj
  simp only [Nat.succ_eq_add_one] at h2
  simp [loadVar,z9q h1,z1h h2,hcs]
 ·rename_i z h1 h2 h3
  obtain ⟨v,hl,hk⟩:=zkw h
  obtain ⟨v',hc,hv⟩:=hr.cell hl hb
  refine ⟨_,hk,_,v',rfl,?_,hv,?_⟩
  ·simp [loadVar,z9q h1,hc]
  ·obtain ⟨blk,hbk⟩:=z1f7 hl
   unfold Evs
   intro e he
   simp [loadVar,z9q h1,hc] at he
   subst he
   exact .inl ⟨_,rfl,(hr.rdOk hbk hb).1,(hr.rdOk hbk hb).2,fun h=>by cases h⟩
 ·exact h.elim
theorem zxu {t:TypeId} {x x':Value} {K:Value→Prop} (hr:HR Z ρ H w) (h:z8e P t x H K) (hx:VR ρ x x'):VOut P Z ρ (Instr.loadAt t x') w K:=by
 obtain ⟨v,hk,c,v',rfl,h1,h2,h3⟩:=zky (P:=P) hr h hx
 refine ⟨v,hk,v',w,by simp [Instr.loadAt,Instr.sureAddr,h1],h2,.refl w,?_⟩
 unfold Evs at h3 ⊢
 simpa [Instr.loadAt,Instr.sureAddr] using h3

theorem zhj (cs cs':List Value):∀(off:Nat) (H:zn) (w:World) (b:Nat),HR Z ρ H w→isOwn H b→(∃l,rdN H b off cs.length=some l)→VRs ρ cs cs'→cs.all isCell=true→
  ∀c base sz,ρ[b]? =some (c,base,sz)→∀i a,Addr.add a i=⟨c,base+off,none⟩→(∀j,Addr.add a (i+j)=⟨c,base+off+j,none⟩)→
  ∃w',(storeCells a cs' i).run P w=.ok () w'∧HR Z ρ (setN H b off cs) w'∧Kept Z w w'∧w'.heap.size=w.heap.size∧∀es,∀e ∈ (storeCells a cs' i).events P w es,e ∈ es∨EvOk Z w.heap.size e:=by
 induction cs generalizing cs' with
 | nil=>
  intro off H w b hr ho hl hv hc c base sz hb i a ha haj
  rw [hv.unnil]
  exact ⟨w,rfl,hr,.refl _ _,rfl,fun es e he=>.inl he⟩
 | cons x cs ih=>
  intro off H w b hr ho hl hv hc c base sz hb i a ha haj
  obtain ⟨y,ys,rfl,h1,h2⟩:=hv.uncons
  obtain ⟨l,hl⟩:=hl
  obtain ⟨blk,hbk,hn,rfl⟩:=z5z hl
  obtain ⟨blk',hbk',hown⟩:=ho
  rw [hbk] at hbk';cases hbk'
  simp only [List.all_cons,Bool.and_eq_true] at hc
  simp only [List.length_cons] at hn
  obtain ⟨hr2,⟨u,hu⟩,hfz,hbel⟩:=hr.store hbk hown (show off<blk.cells.length by omega) hb h1 hc.1
  have hset:setC H b off x=H.set b (some {blk with cells:=blk.cells.set off x}):=by simp [setC,hbk]
  have hlt:b<H.length:=(List.getElem?_eq_some_iff.1 hbk).1
  have hnew:(setC H b off x)[b]? =some (some {blk with cells:=blk.cells.set off x}):=by
   rw [hset,List.getElem?_set];simp [hlt]
  obtain ⟨w',e1,e2,e3,e4,e5⟩:=ih ys (off+1) (setC H b off x) (w.setCell ⟨c,base+off,none⟩ y) b hr2 ⟨_,hnew,hown⟩
   ⟨_,by simp only [rdN,rdB,hnew,Option.bind_some,List.length_set];rw [if_pos (by omega)]⟩ h2 hc.2 c base sz hb (i+1) a
   (by have:=haj 1;rw [show base+(off+1)=base+off+1 by omega];exact this)
   (fun j=>by have:=haj (1+j);rw [show i+1+j=i+(1+j) by omega,this];congr 1;omega)
  have hcell:y.oneCell'=true:=by rw [zea,h1.isCell];exact hc.1
  have hrun1:(store (Addr.add a i) y).run P w=.ok () (w.setCell ⟨c,base+off,none⟩ y):=by rw [ha,run_store P w _ y _ hcell,hu];simp only [hfz,Bool.false_eq_true,if_false]
  have hlive:=hr.live b blk hbk c base sz hb
  obtain ⟨arr0,e0,fz0,q1,_,_,_,q5⟩:=hlive
  refine ⟨w',?_,by simpa [setN] using e2,hbel.trans e3,by rw [e4,World.size_setCell],?_⟩
  ·simp only [storeCells,Sem.run_bind,hrun1,Result.andThen_ok,e1]
  ·intro es e he
   simp only [storeCells,Sem.events_bind,hrun1,Result.evThen_ok] at he
   rcases e5 _ e he with he | he
   ·rw [ha,events_store P w es _ y _ hcell,hu] at he
    simp only [hfz,Bool.false_eq_true,if_false] at he
    rcases Array.mem_push.1 he with he | rfl
    ·exact .inl he
    ·exact .inr (.inl ⟨_,rfl,(Array.getElem?_eq_some_iff.1 q1).1,q5.1,fun _=>(q5.2 hown).1⟩)
   ·rw [World.size_setCell] at he;exact .inr he

theorem zsn {t:TypeId} {x x' v v':Value} {K:zn→Prop} (hr:HR Z ρ H w) (h:zcp P t x v H K) (hx:VR ρ x x') (hv:VR ρ v v'):
  ∃H' w',K H'∧(Instr.storeAt t x' v').run P w=.ok () w'∧HR Z ρ H' w'∧Kept Z w w'∧Evs P Z (Instr.storeAt t x' v') w w':=by
 cases hx<;>simp only [zcp] at h<;>try exact h.elim
 rename_i b off c base sz hb
 split at h
 ·rename_i n hn
  obtain ⟨hchk,ho,⟨l,hl⟩,hk⟩:=z1c h
  simp only [Bool.and_eq_true] at hchk
  have hsz:v.cells.size=n:=Nat.eq_of_beq_eq_true hchk.1
  have hcs:=hv.cells
  have hsz':v'.cells.size=n:=by have:=hcs.1;simp at this;omega
  obtain ⟨w',e1,e2,e3,e4,e5⟩:=zhj (P:=P) v.cells.toList v'.cells.toList off H w b hr ho ⟨l,by simpa [hsz] using hl⟩ hcs hchk.2 c base sz hb 0 ⟨c,base+off,none⟩ rfl
   (fun j=>by rw [z2j,Nat.zero_add])
  refine ⟨setN H b off v.cells.toList,w',?_,?_,e2,e3,?_⟩
  ·cases v<;>first | exact hk | (simpa [setN,Value.cells] using hk)
  ·simp [Instr.storeAt,Instr.sureAddr,storeVar,z1h hn,hsz',e1]
  ·intro e he
   have he':e ∈ (storeCells ⟨c,base+off,none⟩ v'.cells.toList 0).events P w #[]:=by simpa [Instr.storeAt,Instr.sureAddr,storeVar,z1h hn,hsz'] using he
   rcases e5 _ e he' with he | he
   ·simp at he
   ·rw [e4];exact he
 ·exact h.elim

theorem zpe {e:TypeId} {cells:List Value} {arr:Array Value} {K:Value→zn→Prop} (hr:HR Z ρ H w) (h:newK cells H K) (hv:VRs ρ cells arr.toList):
  HOut P Z ρ (do pure (.pointer (some (←newRow e arr)))) w K:=by
 obtain ⟨hc,hk⟩:=z1c h
 have hlen:cells.length=arr.size:=by simpa using hv.1
 refine ⟨_,_,hk,.pointer (some ⟨w.heap.size,0,none⟩),w.alloc (.cells arr e),_,by simp [newRow],List.prefix_append _ _,hr.alloc (by omega) ?_ hc,?_,Kept.alloc' hr _,.none (fun es=>by simp [newRow])⟩
 ·rw [List.take_of_length_le (by simp;omega)];exact hv
 ·have:=VR.ptr (ρ:=ρ++[(w.heap.size,0,arr.size)]) H.length 0 w.heap.size 0 arr.size (by rw [hr.len];simp)
  simpa using this

theorem zfk {s:TypeId} {x x':Value} {f:Nat} {K:Value→Prop} (h:z7l P s x f K) (hx:VR ρ x x'):VOut P Z ρ (Instr.fieldAt s x' f) w K:=by
 unfold z7l at h
 split at h
 ·rename_i fields b off hu
  split at h
  ·rename_i fd hf
   split at h
   ·rename_i n hn
    cases hx with
    | ptr _ _ c base sz hb=>
     refine .plain h ?_ (fun es=>?_) (.ptr b (off+fd.offset) c base sz hb)
     ·rw [←Nat.add_assoc]
      simp [Instr.fieldAt,run_underlying hu,hf,Instr.sureAddr,fieldPlace,z1h hn,z2j]
     ·simp [Instr.fieldAt,run_underlying hu,hf,Instr.sureAddr,fieldPlace,z1h hn,z2j]
   ·exact h.elim
  ·exact h.elim
 ·exact h.elim

theorem zyi {t:TypeId} {cs cs':Array Value} {off:Nat} {K:Value→Prop} (h:zyh P t cs off K) (hv:VRs ρ cs.toList cs'.toList):VOut P Z ρ (part t cs' off) w K:=by
 unfold zyh at h
 split at h
 ·rename_i n h1 h2
  refine .plain h (v':=.agg (cs'.extract off (off+n))) (by simp [part,z9q h1,z1h h2]) (by intro es;simp [part,z9q h1,z1h h2]) ?_
  refine VRs.agg ?_
  rw [Array.toList_extract,Array.toList_extract]
  exact (hv.drop _).take _
 ·rename_i n h1
  split at h
  ·rename_i v hc
   obtain ⟨v',a1,a2⟩:=hv.get (i:=off) (x:=v) (by simpa using hc)
   have a1':cs'[off]? =some v':=by simpa using a1
   exact .plain h (by simp [part,z9q h1,a1']) (by intro es;simp [part,z9q h1,a1']) a2
  ·exact h.elim
 ·exact h.elim

theorem zqm {s:TypeId} {x x':Value} {f:Nat} {K:Value→Prop} (h:zkb P s x f K) (hx:VR ρ x x'):VOut P Z ρ (Instr.field s x' f) w K:=by
 unfold zkb at h
 split at h
 ·rename_i fields cs hu
  split at h
  ·rename_i fd hf
   cases hx with
   | agg _ ys h1 h2=>
    obtain ⟨v,hk,v',w',a1,a2,a3,a4⟩:=zyi (w:=w) h (VRs.arr h1 h2)
    refine ⟨v,hk,v',w',?_,a2,a3,?_⟩
    ·simp [Instr.field,run_underlying hu,hf,asAgg,a1]
    ·unfold Evs at a4 ⊢
     simpa [Instr.field,run_underlying hu,hf,asAgg] using a4
  ·exact h.elim
 ·exact h.elim

theorem zfp {t:TypeId} {x x' i i':Value} {K:Value→Prop} (h:z7n P t x i K) (hx:VR ρ x x') (hi:VR ρ i i'):VOut P Z ρ (Instr.indexAt t x' i') w K:=by
 unfold z7n at h
 split at h
 ·rename_i e a n esz k j hu
  split at h
  ·rename_i sz hs
   obtain ⟨h0,hlt,b,off,rfl,hk⟩:=h
   cases hi
   cases hx with
   | slice _ _ _ _ c base s cap hb h1 h2=>
    refine .plain hk ?_ (fun es=>?_) (.ptr b (off+j.toNat*sz) c base s hb)
    ·rw [←Nat.add_assoc]
     simp [Instr.indexAt,asIntOf,run_underlying hu,h0,hlt,z1h hs,z2j]
    ·simp [Instr.indexAt,asIntOf,run_underlying hu,h0,hlt,z1h hs,z2j]
   | sempty _ _ a' cap=>exact absurd hlt (by simp;omega)
  ·exact h.elim
 ·rename_i n e b off k j hu
  split at h
  ·rename_i sz hs
   obtain ⟨h0,hlt,hk⟩:=h
   cases hi
   cases hx with
   | ptr _ _ c base s hb=>
    refine .plain hk ?_ (fun es=>?_) (.ptr b (off+j.toNat*sz) c base s hb)
    ·rw [←Nat.add_assoc]
     simp [Instr.indexAt,asIntOf,run_underlying hu,h0,hlt,z1h hs,z2j,Instr.sureAddr]
    ·simp [Instr.indexAt,asIntOf,run_underlying hu,h0,hlt,z1h hs,z2j,Instr.sureAddr]
  ·exact h.elim
 ·exact h.elim

theorem zr6 {t:TypeId} {x x' i i':Value} {K:Value→Prop} (h:zkp P t x i K) (hx:VR ρ x x') (hi:VR ρ i i'):VOut P Z ρ (Instr.index t x' i') w K:=by
 unfold zkp at h
 split at h
 ·rename_i s k j hu
  obtain ⟨c,h0,hc,hk⟩:=h
  cases hi;cases hx
  exact .plain hk (by simp [Instr.index,asIntOf,run_underlying hu,h0,hc]) (by intro es;simp [Instr.index,asIntOf,run_underlying hu,h0,hc]) (.int _ _)
 ·exact h.elim

theorem z15f {t:TypeId} {x x':Value} {ts:Array TypeId} {ty:TypeId} {K:Value→Prop} (h:lenK P t x K) (hx:VR ρ x x') (ht:ts[0]? =some t):VOut P Z ρ (Builtin.len_ ts ty #[x']) w K:=by
 unfold lenK at h
 split at h
 ·rename_i s hu
  cases hx
  exact .plain h (by simp [Builtin.len_,ht,run_underlying hu,goInt]) (by intro es;simp [Builtin.len_,ht,run_underlying hu,goInt]) (.int _ _)
 ·rename_i e a n c hu
  cases hx with
  | snil=>exact .plain h (by simp [Builtin.len_,ht,run_underlying hu,goInt]) (by intro es;simp [Builtin.len_,ht,run_underlying hu,goInt]) (.int _ _)
  | slice=>exact .plain h (by simp [Builtin.len_,ht,run_underlying hu,goInt]) (by intro es;simp [Builtin.len_,ht,run_underlying hu,goInt]) (.int _ _)
  | sempty=>exact .plain h (by simp [Builtin.len_,ht,run_underlying hu,goInt]) (by intro es;simp [Builtin.len_,ht,run_underlying hu,goInt]) (.int _ _)
 ·exact h.elim

theorem z5a {mx:Bool} {x x' y y':Value} {K:Value→Prop} (h:z7f mx x y K) (hx:VR ρ x x') (hy:VR ρ y y'):
  VOut P Z ρ (bif mx then Builtin.max2 x' y' else Builtin.min2 x' y') w K:=by
 unfold z7f at h
 split at h
 ·cases hx;cases hy
  cases mx
  ·exact .plain h rfl (fun _=>rfl) (.int _ _)
  ·exact .plain h rfl (fun _=>rfl) (.int _ _)
 ·rename_i k a k' b
  obtain ⟨hk,h9⟩:=z1c h
  obtain rfl:=zn9 hk
  cases hx with
  | float _ _ a' e=>
  cases hy with
  | float _ _ b' e'=>
  subst e;subst e'
  have ho:=z3q k a' b'
  cases hord:k.format.order a' b' with
  | none=>
   rw [hord] at ho
   cases mx
   ·refine ⟨_,h9,.float k _,w.drew,by simp [Builtin.min2,hord,Question.forced];rfl,.float k _ _ ?_,.drew w,.none (fun es=>by simp [Builtin.min2,hord,Question.forced])⟩
    simp only [cond_false,fmin,ho];exact (zb4 _ _ _ _ _).symm
   ·refine ⟨_,h9,.float k _,w.drew,by simp [Builtin.max2,hord,Question.forced];rfl,.float k _ _ ?_,.drew w,.none (fun es=>by simp [Builtin.max2,hord,Question.forced])⟩
    simp only [cond_true,fmax,ho];exact (zb4 _ _ _ _ _).symm
  | some o=>
   rw [hord] at ho
   have hneg:(k.decode (cn k a')).neg=(k.decode a').neg:=by
    have:(k.decode a').isNaN=false:=by
     cases hn:(k.decode a').isNaN
     ·rfl
     ·obtain ⟨s,t,e⟩:=z3p _ hn
      have e':k.format.read a'=.nan s t:=e
      simp [Ieee.Format.order,e',z7g] at hord
    rw [z1i this]
   cases mx
   ·cases o
    ·exact .plain h9 (by simp [Builtin.min2,hord];rfl) (by intro es;simp [Builtin.min2,hord]) (.float k _ _ (by simp [fmin,ho]))
    ·exact .plain h9 (by simp [Builtin.min2,hord];rfl) (by intro es;simp [Builtin.min2,hord]) (.float k _ _ (by simp only [cond_false,fmin,ho,hneg];split<;>rfl))
    ·exact .plain h9 (by simp [Builtin.min2,hord];rfl) (by intro es;simp [Builtin.min2,hord]) (.float k _ _ (by simp [fmin,ho]))
   ·cases o
    ·exact .plain h9 (by simp [Builtin.max2,hord];rfl) (by intro es;simp [Builtin.max2,hord]) (.float k _ _ (by simp [fmax,ho]))
    ·exact .plain h9 (by simp [Builtin.max2,hord];rfl) (by intro es;simp [Builtin.max2,hord]) (.float k _ _ (by simp only [cond_true,fmax,ho,hneg];split<;>rfl))
    ·exact .plain h9 (by simp [Builtin.max2,hord];rfl) (by intro es;simp [Builtin.max2,hord]) (.float k _ _ (by simp [fmax,ho]))
 ·exact h.elim

end
end Go.Proofs.YthheoefadijhdaaGreat.Ai
set_option linter.unusedSimpArgs false
set_option linter.unusedVariables false
namespace Go.Proofs.YthheoefadijhdaaGreat.Ai
open Go Go.RowKit

section
variable {P:Program} {ρ:Ren} {w:World} {Z:Zone} {H:zn}

theorem HR.rename (h:HR Z ρ H w) {b:Nat} {blk:Blk} (hb:H[b]? =some (some blk)) {x:Nat×Nat×Nat} (hx:ρ[b]? =some x):
  HR Z (ρ++[x]) (H.set b none++[some blk]) w:=by
 have hp:ρ <+:ρ++[x]:=List.prefix_append _ _
 have get:∀(b':Nat) (blk':Blk),(H.set b none++[some blk])[b']? =some (some blk')→∃b'':Nat,H[b'']? =some (some blk')∧(ρ++[x])[b']? =ρ[b'']? ∧(b'=H.length∧b''=b∨b'=b''∧b'≠b∧b'<H.length):=by
  intro b' blk' hb'
  by_cases hlt:b'<H.length
  ·rw [List.getElem?_append_left (by simpa using hlt),List.getElem?_set] at hb'
   split at hb'
   ·split at hb'<;>simp at hb'
   ·rename_i hne
    exact ⟨b',hb',by rw [List.getElem?_append_left (h.len ▸ hlt)],.inr ⟨rfl,fun e=>hne e.symm,hlt⟩⟩
  ·rw [List.getElem?_append_right (by simp;omega)] at hb'
   simp only [List.length_set] at hb'
   cases hd:b'-H.length with
   | zero=>
    rw [hd] at hb';simp at hb';subst hb'
    have e:b'=H.length:=by omega
    exact ⟨b,hb,by rw [e,h.len,hx];simp,.inl ⟨e,rfl⟩⟩
   | succ n=>rw [hd] at hb';simp at hb'
 refine ⟨by simp [h.len],h.fresh,?_,?_⟩
 ·intro b' blk' hb' c base sz hr
  obtain ⟨b'',h1,h2,_⟩:=get _ _ hb'
  obtain ⟨arr,e,fz,g1,g2,g3,g4,g5⟩:=h.live b'' blk' h1 c base sz (h2 ▸ hr)
  refine ⟨arr,e,fz,g1,g2,g3,fun i v hi=>?_,g5⟩
  obtain ⟨v',q1,q2,q3⟩:=g4 i v hi
  exact ⟨v',q1,q2.mono hp,q3⟩
 ·intro b1 b2 blk1 blk2 h1 h2 hne ho c1 p1 s1 c2 p2 s2 hr1 hr2
  obtain ⟨x1,u1,u2,u3⟩:=get _ _ h1
  obtain ⟨x2,v1,v2,v3⟩:=get _ _ h2
  refine h.sep x1 x2 blk1 blk2 u1 v1 ?_ ho c1 p1 s1 c2 p2 s2 (u2 ▸ hr1) (v2 ▸ hr2)
  rcases u3 with ⟨e1,e2⟩ | ⟨e1,e2,e3⟩<;>rcases v3 with ⟨f1,f2⟩ | ⟨f1,f2,f3⟩<;>omega

theorem HR.push (h:HR Z ρ H w) {b:Nat} {blk:Blk} (hb:H[b]? =some (some blk)) (ho:blk.own=true)
  {c base sz:Nat} (hr:ρ[b]? =some (c,base,sz)) (hlt:blk.cells.length<sz) {v v':Value} (hv:VR ρ v v') (hc:isCell v=true):
  HR Z ρ (H.set b (some {blk with cells:=blk.cells++[v]})) (w.setCell ⟨c,base+blk.cells.length,none⟩ v')∧
   (∃u,w.cell? ⟨c,base+blk.cells.length,none⟩=some u)∧w.frozen? ⟨c,base+blk.cells.length,none⟩=false∧
   Kept Z w (w.setCell ⟨c,base+blk.cells.length,none⟩ v'):=by
 obtain ⟨arr,e,fz,hh,h1,h2,h3,h4⟩:=h.live b blk hb c base sz hr
 obtain ⟨hB,rfl⟩:=h4.2 ho
 have hbl:b<H.length:=(List.getElem?_eq_some_iff.1 hb).1
 have heap_c:(w.setCell ⟨c,base+blk.cells.length,none⟩ v').heap[c]? =some (.cells (arr.setIfInBounds (base+blk.cells.length) v') e (0,0)):=by
  simp only [World.setCell,Array.getElem?_modify,if_true,hh,Option.map_some];rfl
 have heap_o:∀k,k≠c→(w.setCell ⟨c,base+blk.cells.length,none⟩ v').heap[k]? =w.heap[k]? :=fun k hk=>Below.heap_setCell _ _ _ _ hk
 refine ⟨⟨by simp [h.len],by rw [World.size_setCell];exact h.fresh,?_,?_⟩,?_,?_,?_⟩
 ·intro b' blk' hb' c' base' sz' hr'
  rw [List.getElem?_set] at hb'
  split at hb'
  ·rename_i e';subst e'
   try rw [if_pos hbl] at hb'
   cases hb'
   rw [hr] at hr';cases hr'
   refine ⟨_,_,_,heap_c,by simp;omega,by simpa using h2,fun i x hi=>?_,h4.1,fun _=>⟨hB,rfl⟩⟩
   by_cases hi':i<blk.cells.length
   ·simp only [List.getElem?_append_left hi'] at hi
    obtain ⟨x',a1,a2,a3⟩:=h3 i x hi
    refine ⟨x',?_,a2,a3⟩
    rw [Array.getElem?_setIfInBounds,if_neg (by omega)];exact a1
   ·have:i=blk.cells.length:=by
     have:=(List.getElem?_eq_some_iff.1 hi).1
     simp at this;omega
    subst this
    simp at hi;subst hi
    refine ⟨v',?_,hv,hc⟩
    rw [Array.getElem?_setIfInBounds,if_pos rfl,if_pos (by omega)]
  ·rename_i e'
   have hne:=h.sep b b' blk blk' hb hb' e' ho c base sz c' base' sz' hr hr'
   obtain ⟨arr',e'',fz',g1,g2⟩:=h.live b' blk' hb' c' base' sz' hr'
   exact ⟨arr',e'',fz',by rw [heap_o _ (Ne.symm hne)];exact g1,g2⟩
 ·have get:∀(b':Nat) (blk':Blk),(H.set b (some {blk with cells:=blk.cells++[v]}))[b']? =some (some blk')→∃blk'':Blk,H[b']? =some (some blk'')∧blk''.own=blk'.own:=by
   intro b' blk' hb'
   rw [List.getElem?_set] at hb'
   split at hb'
   ·rename_i e';subst e';(try rw [if_pos hbl] at hb');cases hb';exact ⟨blk,hb,rfl⟩
   ·exact ⟨blk',hb',rfl⟩
  intro b1 b2 blk1 blk2 g1 g2 hne ho1
  obtain ⟨k1,q1,q2⟩:=get _ _ g1
  obtain ⟨k2,q3,q4⟩:=get _ _ g2
  exact h.sep b1 b2 k1 k2 q1 q3 hne (q2.trans ho1)
 ·have:base+blk.cells.length<arr.size:=by omega
  exact ⟨arr[base+blk.cells.length],by simp [World.cell?,hh,this]⟩
 ·simp [World.frozen?,hh]
 ·exact (Kept.refl Z w).setCell (p:=⟨c,base+blk.cells.length,none⟩) hB v'

theorem zyl (cs cs':List Value):∀(H:zn) (w:World) (b:Nat) (blk:Blk),HR Z ρ H w→H[b]? =some (some blk)→blk.own=true→VRs ρ cs cs'→cs.all isCell=true→
  ∀c base sz,ρ[b]? =some (c,base,sz)→blk.cells.length+cs.length≤sz→∀i a,(∀j,Addr.add a (i+j)=⟨c,base+blk.cells.length+j,none⟩)→
  ∃w',(storeCells a cs' i).run P w=.ok () w'∧HR Z ρ (H.set b (some {blk with cells:=blk.cells++cs})) w'∧Kept Z w w'∧w'.heap.size=w.heap.size∧∀es,∀e ∈ (storeCells a cs' i).events P w es,e ∈ es∨EvOk Z w.heap.size e:=by
 induction cs generalizing cs' with
 | nil=>
  intro H w b blk hr hb ho hv hc c base sz hx hle i a ha
  rw [hv.unnil]
  refine ⟨w,rfl,?_,.refl _ _,rfl,fun es e he=>.inl he⟩
  have:H.set b (some {blk with cells:=blk.cells++[]})=H:=by
   rw [List.append_nil]
   apply List.ext_getElem?
   intro k
   rw [List.getElem?_set]
   split
   ·rename_i e;subst e
    have hl:=(List.getElem?_eq_some_iff.1 hb).1
    rw [if_pos hl,hb]
   ·rfl
  rw [this];exact hr
 | cons x cs ih=>
  intro H w b blk hr hb ho hv hc c base sz hx hle i a ha
  obtain ⟨y,ys,rfl,h1,h2⟩:=hv.uncons
  simp only [List.all_cons,Bool.and_eq_true] at hc
  simp only [List.length_cons] at hle
  obtain ⟨hr2,⟨u,hu⟩,hfz,hbel⟩:=hr.push hb ho hx (by omega) h1 hc.1
  have hl:=(List.getElem?_eq_some_iff.1 hb).1
  obtain ⟨w',e1,e2,e3,e4,e5⟩:=ih ys _ _ b {blk with cells:=blk.cells++[x]} hr2 (by rw [List.getElem?_set];simp [hl]) ho h2 hc.2 c base sz hx
   (by simp;omega) (i+1) a (fun j=>by have:=ha (1+j);rw [show i+1+j=i+(1+j) by omega,this];simp;omega)
  have hcell:y.oneCell'=true:=by rw [zea,h1.isCell];exact hc.1
  have ha0:=ha 0
  simp only [Nat.add_zero] at ha0
  have hrun1:(store (Addr.add a i) y).run P w=.ok () (w.setCell ⟨c,base+blk.cells.length,none⟩ y):=by rw [ha0,run_store P w _ y _ hcell,hu];simp only [hfz,Bool.false_eq_true,if_false]
  obtain ⟨arr0,e0,fz0,q1,_,_,_,q5⟩:=hr.live b blk hb c base sz hx
  refine ⟨w',?_,?_,hbel.trans e3,by rw [e4,World.size_setCell],?_⟩
  ·simp only [storeCells,Sem.run_bind,hrun1,Result.andThen_ok,e1]
  ·simpa [List.append_assoc] using e2
  ·intro es e he
   simp only [storeCells,Sem.events_bind,hrun1,Result.evThen_ok] at he
   rcases e5 _ e he with he | he
   ·rw [ha0,events_store P w es _ y _ hcell,hu] at he
    simp only [hfz,Bool.false_eq_true,if_false] at he
    rcases Array.mem_push.1 he with he | rfl
    ·exact .inl he
    ·exact .inr (.inl ⟨_,rfl,(Array.getElem?_eq_some_iff.1 q1).1,q5.1,fun _=>(q5.2 ho).1⟩)
   ·rw [World.size_setCell] at he;exact .inr he

theorem z3y {a:Option Addr} {n:Nat} {l:List Value} (h:rdS H a n=some l):(n=0∧l=[])∨(0<n∧∃b off,a=some ⟨b,off,none⟩∧rdN H b off n=some l):=by
 unfold rdS at h
 cases hb:Nat.beq n 0 with
 | true=>rw [hb] at h;exact .inl ⟨Nat.eq_of_beq_eq_true hb,(Option.some.inj h).symm⟩
 | false=>
  rw [hb] at h
  have hn:0<n:=by
   rcases Nat.eq_zero_or_pos n with h0 | h0
   ·subst h0;cases hb
   ·exact h0
  simp only [cond_false] at h
  split at h
  ·rename_i b off;exact .inr ⟨hn,b,off,rfl,h⟩
  ·cases h
theorem zey (hr:HR Z ρ H w) {a:Option Addr} {n m e:Nat} {l:List Value} (hl:rdS H a m=some l) {v':Value} (hv:VR ρ (.slice a n e) v'):
  (∃c k cap l',v'=.slice (some c) k cap∧k=n∧VRs ρ l l'∧l'.length=m∧(∀j v,l'[j]? =some v→w.cell? (c.add j)=some v)∧(0<m→c.block<w.heap.size∧Z.rd c.block))∨(v'=.slice none 0 0∧a=none∧l=[]∧m=0∧n=0)∨
   (∃c cap,v'=.slice (some c) 0 cap∧n=0∧e=0):=by
 cases hv with
 | snil=>
  refine .inr (.inl ⟨rfl,rfl,?_⟩)
  rcases z3y hl with ⟨h1,h2⟩ | ⟨_,_,_,h,_⟩
  ·exact ⟨h2,h1,rfl⟩
  ·cases h
 | slice b off _ _ c base sz cap hb h1 h2=>
  refine .inl ?_
  rcases z3y hl with ⟨q1,q2⟩ | ⟨_,b',off',e,hl⟩
  ·subst q1;subst q2
   exact ⟨_,_,_,[],rfl,rfl,.nil ρ,rfl,fun j v hj=>by simp at hj,fun h=>by omega⟩
  ·cases e
   obtain ⟨l',a1,a2,a3⟩:=hr.cells hl hb
   obtain ⟨blk,hbk,_,_⟩:=z5z hl
   exact ⟨_,_,_,l',rfl,rfl,a1,a2,fun j v hj=>by rw [z2j];exact a3 j v hj,fun _=>hr.rdOk hbk hb⟩
 | sempty b off a' cap=>exact .inr (.inr ⟨a',cap,rfl,rfl,rfl⟩)

theorem zis {a:Option Addr} {l:List Value} (hl:rdS H a 0=some l):l=[]:=by
 rcases z3y hl with ⟨_,h⟩ | ⟨h,_⟩
 ·exact h
 ·omega

theorem zh5 (hr:HR Z ρ H w) {a:Option Addr} {n:Nat} {l:List Value} (hl:rdS H a n=some l):l.all isCell=true:=by
 rw [List.all_eq_true]
 intro v hvm
 rcases z3y hl with ⟨_,rfl⟩ | ⟨_,b,off,_,h⟩
 ·simp at hvm
 ·obtain ⟨blk,hb,hn,rfl⟩:=z5z h
  obtain ⟨c,base,sz',arr,e',fz,q1,q2,q3,q4,q5,q6⟩:=hr.blk hb
  obtain ⟨j,hj⟩:=List.getElem?_of_mem (List.mem_of_mem_drop (List.mem_of_mem_take hvm))
  exact (q5 j v hj).choose_spec.2.2

theorem EvOk.note {e:Event} {n:Nat} (h:∃m,e=⟨.mark m,false,true⟩∧Conc.Neutral m):EvOk Z n e:=by
 obtain ⟨m,rfl,h⟩:=h
 unfold Conc.Neutral at h
 exact .inr (.inr ⟨m,rfl,.inl h⟩)
theorem z5x {size n:Nat} {x:Value} {N:Nat} (es:Array Event) (hx:∀a l c,x=.slice (some a) l c→(0<n*size→a.block<N∧Z.rd a.block)∧∀j,j<n*size→(w.cell? (a.add j)).isSome):
  ∀e ∈ (Builtin.firstCells size n x).events P w es,e ∈ es∨EvOk Z N e:=by
 intro e he
 by_cases h0:0<n*size
 ·rcases events_firstCells_in (P:=P) (fun g=>g<N∧Z.rd g) size n x w es (fun a l c e=>⟨(hx a l c e).1 h0,(hx a l c e).2⟩) e he with h | ⟨ad,h1,h2,h3,h4⟩
  ·exact .inl h
  ·exact .inr (.inl ⟨ad,h1,h3,h4,fun h5=>by rw [h2] at h5;cases h5⟩)
 ·have h1:n*size=0:=by omega
  unfold Builtin.firstCells at he
  split at he
  ·rw [h1] at he;exact .inl (by simpa [loadCells,loadCellsFrom] using he)
  ·exact .inl he
  ·exact .inl he
  ·exact .inl he

theorem zdg {t:TypeId} {s s' x x':Value} {ty:TypeId} {K:Value→zn→Prop} (hr:HR Z ρ H w) (h:z7x P t s x H K) (hs:VR ρ s s') (hx:VR ρ x x'):
  HOut P Z ρ (Builtin.append_ #[t,t] ty #[s',x']) w K:=by
 unfold z7x at h
 split at h
 case h_2=>exact h.elim
 rename_i e a n ce a' m cm ht
 split at h
 case h_2=>exact h.elim
 rename_i sz by_ z hsz hby hz
 obtain ⟨hchk,old,new,hold,hnew,hne,hmost,hk⟩:=z1c h
 simp only [Bool.and_eq_true] at hchk
 have hby1:by_≤1024:=Nat.le_of_ble_eq_true hchk.1
 have hzs:z.cells.size=sz+1:=Nat.eq_of_beq_eq_true hchk.2
 obtain ⟨i,hi,hisz⟩:∃i,P.info? e=some i∧i.size=sz+1:=by
  unfold z5m at hsz;obtain ⟨i,hi,h2⟩:=Option.map_eq_some_iff.1 hsz;exact ⟨i,hi,h2⟩
 have hib:i.bytes=by_:=by unfold zjq at hby;rw [hi] at hby;simpa using hby
 have hiz:i.zero=some z:=by unfold z9u at hz;rw [hi] at hz;simpa using hz
 have hmost':n+m<4294967296:=hmost
 -- what is appended
 obtain ⟨new',hnv,hnl,hxs⟩:∃new',VRs ρ new new'∧new'.length=m*(sz+1)∧
   ((∃c cap,x'=.slice (some c) m cap∧(∀j v,new'[j]? =some v→w.cell? (c.add j)=some v)∧(0<m*(sz+1)→c.block<w.heap.size∧Z.rd c.block))∨(x'=.slice none 0 0∧m=0)):=by
  rcases zey hr hnew hx with ⟨c,k,cap,l',rfl,rfl,h1,h2,h3,h4⟩ | ⟨rfl,rfl,rfl,h1,h2⟩ | ⟨c,cap,rfl,rfl,h2⟩
  ·exact ⟨l',h1,h2,.inl ⟨c,cap,rfl,h3,h4⟩⟩
  ·exact ⟨[],.nil ρ,by simp [h2],.inr ⟨rfl,h2⟩⟩
  ·rw [Nat.zero_mul] at hnew
   rw [zis hnew]
   exact ⟨[],.nil ρ,by simp,.inl ⟨c,cap,rfl,by simp,fun h=>by omega⟩⟩
 have hnewlen:new.length=m*(sz+1):=by rw [hnv.1];exact hnl
 have hnewcell:new.all isCell=true:=zh5 hr hnew
 -- what is listed
 have hdr:∀a,w.drew.cell? a=w.cell? a:=fun _=>rfl
 have srcE:∀(w₁:World),(∀a,w₁.cell? a=w.cell? a)→∀es,∀e ∈ (Builtin.firstCells (sz+1) m x').events P w₁ es,e ∈ es∨EvOk Z w.heap.size e:=by
  intro w₁ hw₁ es
  refine z5x (Z:=Z) es ?_
  intro a l c0 e0
  rcases hxs with ⟨c,cap,rfl,h1,h2⟩ | ⟨rfl,_⟩
  ·cases e0
   exact ⟨h2,fun j hj=>by rw [hw₁,h1 j new'[j] (List.getElem?_eq_getElem (by rw [hnl];exact hj))];rfl⟩
  ·cases e0
 -- a new array
 have grow:∀(old':List Value) (sCap:Nat),(∃A,s'=.slice A n sCap∧∀(w₁:World),(∀a,w₁.cell? a=w.cell? a)→((Builtin.firstCells (sz+1) n s').run P w₁=.ok old'.toArray w₁)∧∀es,∀e ∈ (Builtin.firstCells (sz+1) n s').events P w₁ es,e ∈ es∨EvOk Z w.heap.size e)→
   (∀w₁:World,(∀a,w₁.cell? a=w.cell? a)→(Builtin.firstCells (sz+1) m x').run P w₁=.ok new'.toArray w₁)→Builtin.nextslicecap (n+m) sCap*i.bytes≤281474976710656→VRs ρ old old'→old.all isCell=true→old'.length=n*(sz+1)→sCap<n+m→∀H',H'.length=H.length→
   HR Z ρ H' w→K (.slice (some ⟨H.length,0,none⟩) (n+m) (sz+1)) (H'++[some {cells:=old++new,own:=true}])→
   (Builtin.append_ #[t,t] ty #[s',x']).run P w=.ok (.slice (some ⟨w.heap.size,0,none⟩) (n+m) (grownCap w (n+m) sCap e))
    (w.drew.alloc (.cells (old'.toArray++new'.toArray++Builtin.zeroCells z.cells (grownCap w (n+m) sCap e-(n+m))) e))→HOut P Z ρ (Builtin.append_ #[t,t] ty #[s',x']) w K:=by
  intro old' sCap hold2 hnew2 hfit2 hov hoc hol hcap H' hlen hr' hk' hrun
  have hevs:Evs P Z (Builtin.append_ #[t,t] ty #[s',x']) w w:=by
   intro ev hev
   obtain ⟨A,hA,hold3⟩:=hold2
   have hX:∃B c,x'=.slice B m c:=by
    rcases hxs with ⟨c,cap,rfl,_⟩ | ⟨rfl,rfl⟩
    ·exact ⟨_,_,rfl⟩
    ·exact ⟨_,_,rfl⟩
   obtain ⟨B,cB,hX⟩:=hX
   have hn1:¬(n+m≤sCap):=by omega
   have h63':¬(9223372036854775807<((n:Int)+(m:Int))):=by omega
   have h48':¬(281474976710656<Builtin.nextslicecap (n+m) sCap*i.bytes):=by omega
   have r1:=hold3 w.drew hdr
   have r2:=hnew2 w.drew hdr
   rw [hA] at r1
   rw [hX] at r2
   have r3:=srcE w.drew hdr
   rw [hX] at r3
   rw [hA,hX] at hev
   have hev':ev ∈ (Builtin.firstCells (sz+1) m (.slice B m cB)).events P w.drew ((Builtin.firstCells (sz+1) n (.slice A n sCap)).events P w.drew ((askRoom ((Question.appendCap (n+m) sCap e).cut (w.tape w.drawn (Question.appendCap (n+m) sCap e))*i.bytes)).events P w.drew #[])):=by
    simpa [Builtin.append_,run_underlying ht,sizeOf,typeInfo,zeroValue,hi,hiz,Builtin.lenOf,hn1,h63',h48',Question.forced,hisz,r1.1,r2,newRow] using hev
   rcases r3 _ ev hev' with h | h
   ·rcases r1.2 _ ev h with h | h
    ·rcases Conc.events_askRoom _ _ _ ev h with h | h
     ·simp at h
     ·exact .note h
    ·exact h
   ·exact h
  have hge:=grownCap_ge w (n+m) sCap e
  generalize grownCap w (n+m) sCap e=cap at *
  have hsize:(old'.toArray++new'.toArray++Builtin.zeroCells z.cells (cap-(n+m))).size=cap*(sz+1):=by
   simp only [Array.size_append,List.size_toArray,size_zeroCells,hzs,hol,hnl,←Nat.add_mul]
   congr 1;omega
  have htake:((old'.toArray++new'.toArray++Builtin.zeroCells z.cells (cap-(n+m))).toList.take (old++new).length)=old'++new':=by
   simp only [Array.toList_append,List.append_assoc]
   rw [←List.append_assoc,List.length_append,hov.1,hnv.1,←List.length_append]
   exact List.take_left
  generalize (old'.toArray++new'.toArray++Builtin.zeroCells z.cells (cap-(n+m)))=A at *
  refine ⟨_,_,hk',_,_,ρ++[(w.drew.heap.size,0,A.size)],hrun,List.prefix_append _ _,(hr'.drew (.drew w)).alloc ?_ ?_ ?_,?_,?_,fun ev hev=>(hevs ev hev).mono (by rw [World.size_alloc];exact Nat.le_succ _)⟩
  ·rw [hsize,List.length_append,hov.1,hol,hnewlen,←Nat.add_mul];exact Nat.mul_le_mul_right _ hge
  ·rw [htake];exact hov.append hnv
  ·simp [hoc,hnewcell]
  ·have:=VR.slice (ρ:=ρ++[(w.drew.heap.size,0,A.size)]) H.length 0 (n+m) (sz+1) w.drew.heap.size 0 A.size cap
    (by rw [←hlen,hr'.len];simp) hge (fun _=>by rw [hsize];omega)
   simpa using this
  ·exact ((Drew.drew w).below Z).trans (Kept.alloc' (hr'.drew (.drew w)) _)
 -- the block that grows
 unfold ownB at hold
 split at hold
 ·-- nothing yet
  cases hn0:Nat.beq n 0<;>simp [hn0] at hold
  subst hold
  have hn:n=0:=Nat.eq_of_beq_eq_true hn0
  subst hn
  have hm:0<m:=hne rfl
  cases hs with
  | snil=>
   rcases hxs with ⟨c,cap,rfl,hc,hcb⟩ | ⟨rfl,h0⟩
   ·refine grow [] 0 ⟨none,rfl,fun w₁ _=>⟨rfl,fun es e he=>.inl he⟩⟩ (fun w₁ hw₁=>run_firstCells_some w₁ (sz+1) m c m cap new' hnl (fun j v hj=>by rw [hw₁];exact hc j v hj)) ?_ (.nil ρ) rfl (by simp) (by omega) H rfl hr (by simpa [z2s] using hk) ?_
    ·rw [nextslicecap_zero (by omega),hib]
     have:(0+m)*by_≤4294967296*1024:=Nat.mul_le_mul (by omega) hby1
     omega
    have:=run_append_nil (P:=P) w t ty e i z ht hi hiz c m cap new' (by rw [hnl,hisz]) hc hm (by omega)
     (by rw [hib];have:m*by_≤4294967296*1024:=Nat.mul_le_mul (by omega) hby1;omega)
    simpa using this
   ·omega
 ·rename_i b off
  split at hold
  case h_2=>cases hold
  rename_i blk hb
  split at hold
  case isFalse=>cases hold
  rename_i hcond
  cases hold
  obtain ⟨rfl,hown,hlen,rfl⟩:=hcond
  cases hs with
  | slice _ _ _ _ c base s cap hρ h1 h2=>
   have hfit:cap*(sz+1)≤s:=by have:=h2 (by omega);omega
   have hkill:HR Z (ρ++[(c,base,s)]) (H.set b none++[some blk]) w:=hr.rename hb hρ
   have hoc:blk.cells.all isCell=true:=by
    obtain ⟨c',base',sz',arr,e',fz,q1,q2,q3,q4,q5,q6⟩:=hr.blk hb
    rw [List.all_eq_true]
    intro v hv
    obtain ⟨j,hj⟩:=List.getElem?_of_mem hv
    exact (q5 j v hj).choose_spec.2.2
   have hold':=hr.cells (b:=b) (off:=0) (n:=n*(sz+1)) (l:=blk.cells) (by simp only [rdN,rdB,hb,Option.bind_some];rw [if_pos (by omega),←hlen];simp) hρ
   obtain ⟨old',o1,o2,o3⟩:=hold'
   by_cases hroom:n+m≤cap
   ·-- in place
    have hpre:ρ <+:ρ++[(c,base,s)]:=List.prefix_append _ _
    obtain ⟨w',e1,e2,e3,e4,e5⟩:=zyl (P:=P) new new' _ w H.length blk hkill (by simp) hown (hnv.mono hpre) hnewcell c base s (by rw [hr.len];simp)
     (by rw [hlen,hnewlen,←Nat.add_mul];exact Nat.le_trans (Nat.mul_le_mul_right _ hroom) hfit) 0 (Addr.add ⟨c,base+0,none⟩ (n*(sz+1)))
     (fun j=>by simp only [z2j,hlen];simp)
    refine ⟨_,_,hk,.slice (some ⟨c,base+0,none⟩) (n+m) cap,w',ρ++[(c,base,s)],?_,hpre,?_,?_,e3,?_⟩
    ·rcases hxs with ⟨cx,capx,rfl,hc,hcb⟩ | ⟨rfl,rfl⟩
     ·have hf:=run_firstCells_some (P:=P) w i.size m cx m capx new' (by rw [hnl,hisz]) hc
      rw [hisz] at hf
      simp [Builtin.append_,run_underlying ht,sizeOf,typeInfo,hi,Builtin.lenOf,hroom,hisz,hf]
      simpa using congrArg (fun r=>r.andThen fun (_:Unit) w'=>Result.ok (Value.slice (some ⟨c,base,none⟩) (n+m) cap) w') e1
     ·have hn0:new'=[]:=List.length_eq_zero_iff.1 (by simpa using hnl)
      subst hn0
      have e1':w'=w:=by simp [storeCells] at e1;exact e1.symm
      subst e1'
      have hroom':n≤cap:=by omega
      simp [Builtin.append_,run_underlying ht,sizeOf,typeInfo,hi,Builtin.lenOf,hroom',hisz,Builtin.firstCells,storeCells]
    ·have:(H.set b none++[some blk]).set H.length (some {blk with cells:=blk.cells++new})=z2s H (some ⟨b,0,none⟩)++[some {cells:=blk.cells++new,own:=true}]:=by
      rw [List.set_append_right _ _ (by simp)]
      simp [z2s,hown]
     rw [←this];exact e2
    ·exact VR.slice H.length 0 (n+m) (sz+1) c base s cap (by rw [hr.len];simp) hroom (fun _=>by omega)
    ·intro ev hev
     have hX:∃B c,x'=.slice B m c:=by
      rcases hxs with ⟨c,cap,rfl,_⟩ | ⟨rfl,rfl⟩
      ·exact ⟨_,_,rfl⟩
      ·exact ⟨_,_,rfl⟩
     obtain ⟨B,cB,hX⟩:=hX
     have r2:(Builtin.firstCells (sz+1) m x').run P w=.ok new'.toArray w:=by
      rcases hxs with ⟨cx,capx,rfl,hc,hcb⟩ | ⟨rfl,rfl⟩
      ·exact run_firstCells_some w (sz+1) m cx m capx new' hnl hc
      ·have hn0:new'=[]:=List.length_eq_zero_iff.1 (by simpa using hnl)
       rw [hn0];rfl
     have r3:=srcE w (fun _=>rfl)
     rw [hX] at r2 r3 hev
     have hev':ev ∈ (storeCells (Addr.add ⟨c,base+0,none⟩ (n*(sz+1))) new' 0).events P w ((Builtin.firstCells (sz+1) m (.slice B m cB)).events P w #[]):=by
      simpa [Builtin.append_,run_underlying ht,sizeOf,typeInfo,hi,Builtin.lenOf,hroom,hisz,r2] using hev
     rcases e5 _ ev hev' with h | h
     ·rcases r3 _ ev h with h | h
      ·simp at h
      ·rw [e4];exact h
     ·rw [e4];exact h
   ·rcases hxs with ⟨cx,capx,rfl,hc,hcb⟩ | ⟨rfl,rfl⟩
    ·have hfits:Builtin.nextslicecap (n+m) cap*i.bytes≤281474976710656:=by
      have a1:=nextslicecap_le (need:=n+m) (old:=cap) (by omega)
      have:Builtin.nextslicecap (n+m) cap*i.bytes≤(2*4294967296)*1024:=Nat.mul_le_mul (by omega) (by rw [hib];exact hby1)
      omega
     refine grow old' cap ⟨_,rfl,fun w₁ hw₁=>⟨run_firstCells_some w₁ (sz+1) n ⟨c,base+0,none⟩ n cap old' o2 (fun j v hj=>by rw [hw₁,z2j];exact o3 j v hj),fun es=>z5x (Z:=Z) es (fun a l c0 e0=>by
       cases e0
       exact ⟨fun _=>hr.rdOk hb hρ,fun j hj=>by rw [hw₁,z2j,o3 j old'[j] (List.getElem?_eq_getElem (by rw [o2];exact hj))];rfl⟩)⟩⟩
      (fun w₁ hw₁=>run_firstCells_some w₁ (sz+1) m cx m capx new' hnl (fun j v hj=>by rw [hw₁];exact hc j v hj)) hfits o1 hoc (by rw [o2]) (by omega) (z2s H (some ⟨b,0,none⟩)) (by simp [z2s]) (hr.kill b) hk ?_
     have:=run_append_grow (P:=P) w t ty e i z ht hi hiz ⟨c,base+0,none⟩ n cap old' (by rw [o2,hisz]) (fun j v hj=>by rw [z2j];exact o3 j v hj) cx m capx new' (by rw [hnl,hisz]) hc (by omega) (by omega) hfits
     exact this
    ·omega
 ·cases hold

theorem z6t (z:Array Value) (n:Nat) (hz:0<z.size):(madeCells z (n*z.size)).toList=(List.replicate n z.toList).flatten:=by
 have key:∀n,(List.range (n*z.size)).map (fun i=>z[i % z.size]!)=(List.replicate n z.toList).flatten:=by
  intro n
  induction n with
  | zero=>simp
  | succ n ih=>
   rw [List.replicate_succ,List.flatten_cons,←ih,Nat.succ_mul,Nat.add_comm,List.range_add,List.map_append,List.map_map]
   congr 1
   ·apply List.ext_getElem?
    intro i
    by_cases hi:i<z.size
    ·rw [List.getElem?_map,List.getElem?_range hi]
     simp [Nat.mod_eq_of_lt hi,hi]
    ·rw [List.getElem?_eq_none (by simp;omega),List.getElem?_eq_none (by simp;omega)]
   ·apply List.map_congr_left
    intro i _
    simp
 simpa [madeCells] using key n

theorem zfs {t:TypeId} {n n' c c':Value} {K:Value→zn→Prop} (hr:HR Z ρ H w) (h:z3b P t n c H K) (hn:VR ρ n n') (hc:VR ρ c c'):
  HOut P Z ρ (Instr.makeSlice t n' c') w K:=by
 unfold z3b at h
 split at h
 case h_2=>exact h.elim
 rename_i e k n k' c ht
 split at h
 case h_2=>exact h.elim
 rename_i sz by_ z hsz hby hz
 obtain ⟨hchk,h0,rfl,hmost,hk⟩:=z1c h
 cases hn;cases hc
 simp only [Bool.and_eq_true] at hchk
 have hby1:by_≤1024:=Nat.le_of_ble_eq_true hchk.1.1
 have hzs:z.cells.size=sz+1:=Nat.eq_of_beq_eq_true hchk.1.2
 obtain ⟨i,hi,hisz⟩:∃i,P.info? e=some i∧i.size=sz+1:=by
  unfold z5m at hsz;obtain ⟨i,hi,h2⟩:=Option.map_eq_some_iff.1 hsz;exact ⟨i,hi,h2⟩
 have hib:i.bytes=by_:=by unfold zjq at hby;rw [hi] at hby;simpa using hby
 have hiz:i.zero=some z:=by unfold z9u at hz;rw [hi] at hz;simpa using hz
 have hmost':n<4294967296:=hmost
 have hb:(i.bytes:Int)*n≤281474976710656:=by
  have h1:(i.bytes:Int)≤1024:=by omega
  have:(i.bytes:Int)*n≤1024*n:=Int.mul_le_mul_of_nonneg_right h1 h0
  omega
 have hrun:=run_make (P:=P) w t e i z ht hi hiz k k' n n h0 (Int.le_refl _) hb (by omega)
 have hcells:(madeCells z.cells (n.toNat*i.size)).toList=z1k z n.toNat:=by
  rw [hisz,←hzs];exact z6t z.cells n.toNat (by omega)
 have hall:(z1k z n.toNat).all z3u=true:=by
  unfold z1k
  rw [List.all_eq_true]
  intro v hv
  obtain ⟨l,hl,hv⟩:=List.mem_flatten.1 hv
  rw [List.mem_replicate] at hl
  rw [hl.2] at hv
  exact List.all_eq_true.1 hchk.2 v hv
 have hlen:(z1k z n.toNat).length=(madeCells z.cells (n.toNat*i.size)).size:=by rw [←hcells];simp
 refine ⟨_,_,hk,_,_,_,hrun,List.prefix_append _ _,hr.alloc (by omega) ?_ ?_,?_,Kept.alloc' hr _,.none (fun es=>Conc.events_make w t e i z ht hi hiz k k' n n h0 (Int.le_refl _) hb (by omega) ?_ es)⟩
 ·rw [hcells,List.take_length];exact .const hall
 ·rw [List.all_eq_true];intro v hv;exact zch (List.all_eq_true.1 hall v hv)
 ·have:=VR.slice (ρ:=ρ++[(w.heap.size,0,(madeCells z.cells (n.toNat*i.size)).size)]) H.length 0 n.toNat (sz+1) w.heap.size 0 _ n.toNat
   (by rw [hr.len,List.getElem?_append_right (Nat.le_refl _),Nat.sub_self];rfl) (Nat.le_refl _) (fun _=>by rw [size_madeCells,hisz];omega)
  simpa using this
 ·rw [hib]
  have:n.toNat*by_≤4294967296*1024:=Nat.mul_le_mul (by omega) hby1
  omega

theorem zn7 {place:Nat→Option (Nat×Nat)}:∀(parts parts':List (Nat×Value)) (cells cells' out:Array Value),VRs ρ cells.toList cells'.toList→
  parts.length=parts'.length→(∀(j:Nat) (x y:Nat×Value),parts[j]? =some x→parts'[j]? =some y→x.1=y.1∧VR ρ x.2 y.2)→
  Instr.fill place cells parts=some out→∃out',Instr.fill place cells' parts'=some out'∧VRs ρ out.toList out'.toList:=by
 intro parts
 induction parts with
 | nil=>
  intro parts' cells cells' out hv hl hp hf
  cases parts' with
  | nil=>simp [Instr.fill] at hf;subst hf;exact ⟨cells',rfl,hv⟩
  | cons y ys=>simp at hl
 | cons p parts ih=>
  intro parts' cells cells' out hv hl hp hf
  cases parts' with
  | nil=>simp at hl
  | cons p' parts'=>
   obtain ⟨i,v⟩:=p
   obtain ⟨i',v'⟩:=p'
   obtain ⟨hii,hvv⟩:=hp 0 (i,v) (i',v') rfl rfl
   simp only at hii hvv
   subst hii
   simp only [Instr.fill] at hf ⊢
   split at hf
   ·cases hf
   ·rename_i off size hpl
    split at hf
    ·cases hf
    ·rename_i hcond
     have hcl:=hvv.cells
     have hsz:v.cells.size=v'.cells.size:=by simpa using hcl.1
     have hcs:cells.size=cells'.size:=by simpa using hv.1
     rw [if_neg (by rw [←hsz,←hcs];exact hcond)]
     refine ih parts' _ _ out ?_ (by simpa using hl) (fun j x y hx hy=>hp (j+1) x y (by simpa using hx) (by simpa using hy)) hf
     -- the cells put in
     have put:∀(l l':List Value) (k:Nat) (A A':Array Value),VRs ρ l l'→VRs ρ A.toList A'.toList→
       VRs ρ ((l.zipIdx k).foldl (fun cs (x:Value×Nat)=>cs.setIfInBounds (off+x.2) x.1) A).toList ((l'.zipIdx k).foldl (fun cs (x:Value×Nat)=>cs.setIfInBounds (off+x.2) x.1) A').toList:=by
      intro l
      induction l with
      | nil=>intro l' k A A' h1 h2;rw [h1.unnil];exact h2
      | cons a l ih2=>
       intro l' k A A' h1 h2
       obtain ⟨b,l'',rfl,g1,g2⟩:=h1.uncons
       simp only [List.zipIdx_cons,List.foldl_cons]
       refine ih2 l'' (k+1) _ _ g2 ?_
       rw [Array.toList_setIfInBounds,Array.toList_setIfInBounds]
       exact h2.set _ g1
     have:=put v.cells.toList v'.cells.toList 0 cells cells' hcl hv
     rw [←Array.foldl_toList,←Array.foldl_toList]
     simpa [Array.toList_zipIdx] using this

theorem zim {ev ev':Operand→Value} (ps:Array (Nat×Operand)) (h:∀x ∈ ps.toList.map (·.2),VR ρ (ev x) (ev' x)):
  (ps.toList.map fun (i,x)=>(i,ev x)).length=(ps.map fun (i,x)=>(i,ev' x)).toList.length∧
  ∀(j:Nat) (x y:Nat×Value),(ps.toList.map fun (i,x)=>(i,ev x))[j]? =some x→(ps.map fun (i,x)=>(i,ev' x)).toList[j]? =some y→x.1=y.1∧VR ρ x.2 y.2:=by
 refine ⟨by simp,fun j x y hx hy=>?_⟩
 rw [Array.toList_map] at hy
 rw [List.getElem?_map] at hx hy
 cases hp:ps.toList[j]? with
 | none=>rw [hp] at hx;cases hx
 | some p=>
  rw [hp] at hx hy
  cases hx;cases hy
  exact ⟨rfl,h p.2 (List.mem_map.2 ⟨p,List.mem_of_getElem? hp,rfl⟩)⟩

theorem zdi {t:TypeId} {len:Nat} {ps ps':List (Nat×Value)} {K:Value→zn→Prop} (hr:HR Z ρ H w) (h:z2g P t len ps H K)
  (hl:ps.length=ps'.length) (hp:∀(j:Nat) (x y:Nat×Value),ps[j]? =some x→ps'[j]? =some y→x.1=y.1∧VR ρ x.2 y.2):
  HOut P Z ρ (Instr.buildSlice t len ps'.toArray) w K:=by
 unfold z2g at h
 split at h
 case h_2=>exact h.elim
 rename_i e ht
 split at h
 case h_2=>exact h.elim
 rename_i sz z hsz hz
 obtain ⟨hchk,h⟩:=z1c h
 simp only [Bool.and_eq_true] at hchk
 split at h
 case h_2=>exact h.elim
 rename_i cells hf
 obtain ⟨hcell,hk⟩:=z1c h
 have hlim:len*(sz+1)≤1024:=Nat.le_of_ble_eq_true hchk.1.1
 have hzs:z.cells.size=sz+1:=Nat.eq_of_beq_eq_true hchk.1.2
 have hall:(z1k z len).all z3u=true:=by
  unfold z1k
  rw [List.all_eq_true]
  intro v hv
  obtain ⟨l,hl,hv⟩:=List.mem_flatten.1 hv
  rw [List.mem_replicate] at hl
  rw [hl.2] at hv
  exact List.all_eq_true.1 hchk.2 v hv
 have hmade:((Array.range (len*(sz+1))).map (z.cells[· % z.cells.size]!))=(z1k z len).toArray:=by
  have:=z6t z.cells len (by omega)
  apply Array.ext'
  rw [hzs] at this
  simpa [madeCells,z1k,hzs] using this
 obtain ⟨cells',hf',hv'⟩:=zn7 (ρ:=ρ) ps ps' (z1k z len).toArray (z1k z len).toArray cells (.const (by simpa using hall)) hl hp hf
 have hlen:cells.size=cells'.size:=by simpa using hv'.1
 have hsize:cells.size=len*(sz+1):=by
  have fsz:∀(ps:List (Nat×Value)) (A B:Array Value) (place:Nat→Option (Nat×Nat)),Instr.fill place A ps=some B→B.size=A.size:=by
   intro ps
   induction ps with
   | nil=>intro A B place h;simp [Instr.fill] at h;rw [h]
   | cons p ps ih=>
    intro A B place h
    obtain ⟨i,v⟩:=p
    simp only [Instr.fill] at h
    split at h
    ·cases h
    ·split at h
     ·cases h
     ·rw [ih _ _ _ h]
      have:∀(l:List (Value×Nat)) (A:Array Value) (off:Nat),(l.foldl (fun cs (x:Value×Nat)=>cs.setIfInBounds (off+x.2) x.1) A).size=A.size:=by
       intro l
       induction l with
       | nil=>intros;rfl
       | cons a l ih2=>intro A off;rw [List.foldl_cons,ih2];simp
      rw [←Array.foldl_toList]
      exact this _ _ _
  rw [fsz _ _ _ _ hf]
  rw [←hmade];simp
 have hrun:(Instr.buildSlice t len ps'.toArray).run P w=.ok (.slice (some ⟨w.heap.size,0,none⟩) len len) (w.alloc (.cells cells' e)):=by
  have hlim':¬(len*(sz+1) > 2 ^ 24):=by omega
  by_cases hn:len*(sz+1)=0
  ·have:len=0:=by rcases Nat.mul_eq_zero.1 hn with h | h<;>omega
   subst this
   have hz0:z1k z 0=[]:=rfl
   rw [hz0] at hf'
   simp [Instr.buildSlice,run_underlying ht,z1h hsz,hf',newRow,Array.range_zero']
  ·have hlim2:¬(16777216<len*(sz+1)):=by omega
   simp only [Instr.buildSlice,Sem.run_bind,run_underlying ht,Result.andThen_ok,z1h hsz,if_neg hlim',Sem.run_pure,if_neg hn,z5j hz,hmade,hf',newRow,run_newObj_alloc]
 have hev:∀es,(Instr.buildSlice t len ps'.toArray).events P w es=es:=by
  intro es
  have hlim':¬(len*(sz+1) > 2 ^ 24):=by omega
  by_cases hn:len*(sz+1)=0
  ·have:len=0:=by rcases Nat.mul_eq_zero.1 hn with h | h<;>omega
   subst this
   have hz0:z1k z 0=[]:=rfl
   rw [hz0] at hf'
   simp [Instr.buildSlice,run_underlying ht,z1h hsz,hf',newRow,Array.range_zero']
  ·simp only [Instr.buildSlice,Sem.run_bind,Sem.events_bind,run_underlying ht,events_underlying,Result.andThen_ok,Result.evThen_ok,z1h hsz,events_sizeOf,if_neg hlim',Sem.run_pure,Sem.events_pure,if_neg hn,z5j hz,events_zeroValue,hmade,hf',newRow,run_newObj_alloc,events_newObj]
 refine ⟨_,_,hk,_,_,_,hrun,List.prefix_append _ _,hr.alloc (by simp;omega) ?_ hcell,?_,Kept.alloc' hr _,.none hev⟩
 ·rw [List.take_of_length_le (by simp;omega)];exact hv'
 ·have:=VR.slice (ρ:=ρ++[(w.heap.size,0,cells'.size)]) H.length 0 len (sz+1) w.heap.size 0 cells'.size len
   (by rw [hr.len,List.getElem?_append_right (Nat.le_refl _),Nat.sub_self];rfl) (Nat.le_refl _) (fun _=>by omega)
  simpa using this

theorem zqg {t:TypeId} {ps ps':List (Nat×Value)} {K:Value→Prop} (h:zjn P t ps K)
  (hl:ps.length=ps'.length) (hp:∀(j:Nat) (x y:Nat×Value),ps[j]? =some x→ps'[j]? =some y→x.1=y.1∧VR ρ x.2 y.2):
  VOut P Z ρ (Instr.build t ps'.toArray) w K:=by
 unfold zjn at h
 split at h
 case h_2=>exact h.elim
 rename_i fields z ht hz
 obtain ⟨hchk,h⟩:=z1c h
 simp only [Bool.and_eq_true] at hchk
 split at h
 case h_2=>exact h.elim
 rename_i cells hf
 -- the places
 have hplaces:∃places:Array (Nat×Nat),(fields.mapM (fun (f:Field)=>do pure (f.offset,←sizeOf f.type)):Sem (Array (Nat×Nat))).run P w=.ok places w∧(∀es,(fields.mapM (fun (f:Field)=>do pure (f.offset,←sizeOf f.type)):Sem (Array (Nat×Nat))).events P w es=es)∧(fun i=>places[i]?)=fieldAt P fields:=by
  have key:∀(l:List Field),(l.all fun f=>(z5m P f.type).isSome)=true→∃pl:List (Nat×Nat),(l.mapM (fun (f:Field)=>do pure (f.offset,←sizeOf f.type)):Sem (List (Nat×Nat))).run P w=.ok pl w∧(∀es,(l.mapM (fun (f:Field)=>do pure (f.offset,←sizeOf f.type)):Sem (List (Nat×Nat))).events P w es=es)∧
    ∀(i:Nat),pl[i]? =(l[i]?).bind fun (f:Field)=>(z5m P f.type).map fun n=>(f.offset,n):=by
   intro l
   induction l with
   | nil=>intro _;exact ⟨[],by simp,by simp,by simp⟩
   | cons f l ih=>
    intro h
    simp only [List.all_cons,Bool.and_eq_true] at h
    obtain ⟨n,hn⟩:=Option.isSome_iff_exists.1 h.1
    obtain ⟨pl,h1,h1e,h2⟩:=ih h.2
    refine ⟨(f.offset,n)::pl,by simp only [List.mapM_cons,Sem.run_bind,z1h hn,Result.andThen_ok,Sem.run_pure,h1],fun es=>by simp only [List.mapM_cons,Sem.events_bind,Sem.run_bind,z1h hn,events_sizeOf,Result.andThen_ok,Result.evThen_ok,Sem.run_pure,Sem.events_pure,h1,h1e],fun i=>?_⟩
    cases i with
    | zero=>simp [hn]
    | succ i=>simpa using h2 i
  obtain ⟨pl,h1,h1e,h2⟩:=key fields.toList hchk.1
  refine ⟨pl.toArray,?_,fun es=>?_,?_⟩
  ·rw [←Array.toArray_toList (xs:=fields),List.mapM_toArray]
   simp only [Sem.run_map,h1,Result.andThen_ok]
  ·rw [←Array.toArray_toList (xs:=fields),List.mapM_toArray]
   simp only [Sem.events_map,h1e]
  ·funext i
   unfold fieldAt
   have:=h2 i
   simp only [List.getElem?_toArray]
   rw [this,Array.getElem?_toList]
   cases fields[i]?<;>rfl
 obtain ⟨places,hpr,hpe,hpl⟩:=hplaces
 rw [←hpl] at hf
 obtain ⟨cells',hf',hv'⟩:=zn7 (ρ:=ρ) ps ps' z z cells (.const hchk.2) hl hp hf
 refine .plain h ?_ (fun es=>?_) (VRs.agg hv')
 ·simp only [Instr.build,Sem.run_bind,z5j hz,Result.andThen_ok,run_underlying ht,hpr,Value.cells,hf',Sem.run_pure]
 ·simp only [Instr.build,Sem.events_bind,Sem.run_bind,z5j hz,events_zeroValue,events_underlying,Result.andThen_ok,Result.evThen_ok,run_underlying ht,hpr,hpe,Value.cells,hf',Sem.run_pure,Sem.events_pure]

def zy8 (ρ:Ren) (v v':Option Value):Prop:=match v,v' with | none,none=>True | some a,some b=>VR ρ a b | _,_=>False

theorem z6b {v v':Option Value} {d:Int} {K:Int→Prop} (h:zcg v d K) (hv:zy8 ρ v v'):
  (v'=none∧K d)∨∃k j,v'=some (.int k j)∧K j:=by
 unfold zcg at h
 split at h
 ·cases v' with
  | none=>exact .inl ⟨rfl,h⟩
  | some b=>exact hv.elim
 ·cases v' with
  | none=>exact hv.elim
  | some b=>cases hv;exact .inr ⟨_,_,rfl,h⟩
 ·exact h.elim


theorem zs7 {t:TypeId} {x x':Value} {lo lo' hi hi' mx mx':Option Value} {K:Value→Prop} (h:zm9 P t x lo hi mx K) (hx:VR ρ x x') (hlo:zy8 ρ lo lo') (hhi:zy8 ρ hi hi') (hmx:zy8 ρ mx mx'):
  VOut P Z ρ (Instr.sliceAt t x' lo' hi' mx') w K:=by
 unfold zm9 at h
 split at h
 ·rename_i e a n ce hu
  obtain rfl:mx'=none:=by cases mx' with | none=>rfl | some b=>exact hmx.elim
  split at h
  case h_2=>exact h.elim
  rename_i sz hsz
  have cases2:∃l hh:Int,0≤l∧l≤hh∧hh≤n∧K (.slice (a.map fun a=>⟨a.block,a.off+l.toNat*sz,none⟩) (hh-l).toNat 0)∧
    ((lo'=none∧l=0)∨∃k,lo'=some (.int k l))∧((hi'=none∧hh=n)∨∃k,hi'=some (.int k hh)):=by
   rcases z6b h hlo with ⟨e1,h⟩ | ⟨k,j,e1,h⟩
   ·rcases z6b h hhi with ⟨e2,h⟩ | ⟨k',j',e2,h⟩
    ·exact ⟨0,n,h.1,h.2.1,h.2.2.1,h.2.2.2,.inl ⟨e1,rfl⟩,.inl ⟨e2,rfl⟩⟩
    ·exact ⟨0,j',h.1,h.2.1,h.2.2.1,h.2.2.2,.inl ⟨e1,rfl⟩,.inr ⟨k',e2⟩⟩
   ·rcases z6b h hhi with ⟨e2,h⟩ | ⟨k',j',e2,h⟩
    ·exact ⟨j,n,h.1,h.2.1,h.2.2.1,h.2.2.2,.inr ⟨k,e1⟩,.inl ⟨e2,rfl⟩⟩
    ·exact ⟨j,j',h.1,h.2.1,h.2.2.1,h.2.2.2,.inr ⟨k,e1⟩,.inr ⟨k',e2⟩⟩
  obtain ⟨l,hh,h0,h1,h2,hk,hlo',hhi'⟩:=cases2
  obtain ⟨l,rfl⟩:=Int.eq_ofNat_of_zero_le h0
  obtain ⟨hh,rfl⟩:=Int.eq_ofNat_of_zero_le (show 0≤hh by omega)
  have hlh:l≤hh:=by omega
  have hhn:hh≤n:=by omega
  have go:∀(A:Option Addr) (cap:Nat),n≤cap→x'=.slice A n cap→
    (Instr.sliceAt t x' lo' hi' none).run P w=.ok (.slice (if cap=l then A else A.map (·.add (l*sz))) (hh-l) (cap-l)) w∧∀es,(Instr.sliceAt t x' lo' hi' none).events P w es=es:=by
   intro A cap hcap hx'
   subst hx'
   have c1:hh≤cap:=by omega
   have c2:(hh:Int)≤(cap:Int):=by omega
   have c3:(l:Int)≤(hh:Int):=by omega
   rcases hlo' with ⟨rfl,e1⟩ | ⟨k,rfl⟩<;>rcases hhi' with ⟨rfl,e2⟩ | ⟨k',rfl⟩
   ·obtain rfl:l=0:=by omega
    obtain rfl:hh=n:=by omega
    refine ⟨?_,fun es=>?_⟩<;>simp [Instr.sliceAt,Instr.slice,run_underlying hu,Instr.sliceBounds,z1h hsz]
   ·obtain rfl:l=0:=by omega
    refine ⟨?_,fun es=>?_⟩<;>simp [Instr.sliceAt,Instr.slice,run_underlying hu,Instr.sliceBounds,Instr.sliceBound,asIntOf,z1h hsz,c1,c2]
   ·obtain rfl:hh=n:=by omega
    refine ⟨?_,fun es=>?_⟩<;>simp [Instr.sliceAt,Instr.slice,run_underlying hu,Instr.sliceBounds,Instr.sliceBound,asIntOf,z1h hsz,c3,hlh]
   ·refine ⟨?_,fun es=>?_⟩<;>simp [Instr.sliceAt,Instr.slice,run_underlying hu,Instr.sliceBounds,Instr.sliceBound,asIntOf,z1h hsz,c1,c2,c3,hlh]
  have hsub:((hh:Int)-(l:Int)).toNat=hh-l:=by omega
  rw [hsub] at hk
  simp only [Int.toNat_natCast] at hk
  cases hx with
  | snil=>
   have:=go none 0 (Nat.le_refl _) rfl
   refine .plain hk this.1 this.2 ?_
   obtain rfl:hh=0:=by omega
   obtain rfl:l=0:=by omega
   exact .snil
  | slice b off _ _ c base s cap hb g1 g2=>
   have:=go (some ⟨c,base+off,none⟩) cap g1 rfl
   refine .plain hk this.1 this.2 ?_
   by_cases hc:cap=l
   ·rw [if_pos hc]
    have:hh-l=0:=by omega
    rw [this]
    exact .sempty _ _ _ _
   ·rw [if_neg hc]
    simp only [Option.map_some,z2j,Nat.add_assoc]
    exact .slice b (off+l*sz) (hh-l) 0 c base s (cap-l) hb (by omega) (fun h=>absurd h (by omega))
  | sempty b off a' cap=>
   have:=go (some a') cap (Nat.zero_le _) rfl
   refine .plain hk this.1 this.2 ?_
   obtain rfl:hh=0:=by omega
   obtain rfl:l=0:=by omega
   have:∀(A:Option Addr),(if cap=0 then some a' else A)=A∨(if cap=0 then some a' else A)=some a':=by intro A;split<;>simp
   simp only [Option.map_some]
   split
   ·exact .sempty _ _ _ _
   ·exact .sempty _ _ _ _
 ·rename_i s hu
  obtain rfl:mx'=none:=by cases mx' with | none=>rfl | some b=>exact hmx.elim
  cases hx
  have cases2:∃l hh:Int,0≤l∧l≤hh∧hh≤s.size∧K (.string (s.extract l.toNat hh.toNat))∧
    ((lo'=none∧l=0)∨∃k,lo'=some (.int k l))∧((hi'=none∧hh=s.size)∨∃k,hi'=some (.int k hh)):=by
   rcases z6b h hlo with ⟨e1,h⟩ | ⟨k,j,e1,h⟩
   ·rcases z6b h hhi with ⟨e2,h⟩ | ⟨k',j',e2,h⟩
    ·exact ⟨0,_,h.1,h.2.1,h.2.2.1,h.2.2.2,.inl ⟨e1,rfl⟩,.inl ⟨e2,rfl⟩⟩
    ·exact ⟨0,j',h.1,h.2.1,h.2.2.1,h.2.2.2,.inl ⟨e1,rfl⟩,.inr ⟨k',e2⟩⟩
   ·rcases z6b h hhi with ⟨e2,h⟩ | ⟨k',j',e2,h⟩
    ·exact ⟨j,_,h.1,h.2.1,h.2.2.1,h.2.2.2,.inr ⟨k,e1⟩,.inl ⟨e2,rfl⟩⟩
    ·exact ⟨j,j',h.1,h.2.1,h.2.2.1,h.2.2.2,.inr ⟨k,e1⟩,.inr ⟨k',e2⟩⟩
  obtain ⟨l,hh,h0,h1,h2,hk,hlo',hhi'⟩:=cases2
  obtain ⟨l,rfl⟩:=Int.eq_ofNat_of_zero_le h0
  obtain ⟨hh,rfl⟩:=Int.eq_ofNat_of_zero_le (show 0≤hh by omega)
  simp only [Int.toNat_natCast] at hk
  have c1:hh≤s.size:=by omega
  have c2:l≤hh:=by omega
  rcases hlo' with ⟨rfl,e1⟩ | ⟨k,rfl⟩<;>rcases hhi' with ⟨rfl,e2⟩ | ⟨k',rfl⟩
  ·obtain rfl:l=0:=by omega
   obtain rfl:hh=s.size:=by omega
   exact .plain hk (by simp [Instr.sliceAt,Instr.slice,run_underlying hu,Instr.sliceBounds]) (by intro es;simp [Instr.sliceAt,Instr.slice,run_underlying hu,Instr.sliceBounds]) (.string _)
  ·obtain rfl:l=0:=by omega
   exact .plain hk (by simp [Instr.sliceAt,Instr.slice,run_underlying hu,Instr.sliceBounds,Instr.sliceBound,asIntOf,c1]) (by intro es;simp [Instr.sliceAt,Instr.slice,run_underlying hu,Instr.sliceBounds,Instr.sliceBound,asIntOf,c1]) (.string _)
  ·obtain rfl:hh=s.size:=by omega
   exact .plain hk (by simp [Instr.sliceAt,Instr.slice,run_underlying hu,Instr.sliceBounds,Instr.sliceBound,asIntOf,c2]) (by intro es;simp [Instr.sliceAt,Instr.slice,run_underlying hu,Instr.sliceBounds,Instr.sliceBound,asIntOf,c2]) (.string _)
  ·exact .plain hk (by simp [Instr.sliceAt,Instr.slice,run_underlying hu,Instr.sliceBounds,Instr.sliceBound,asIntOf,c1,c2]) (by intro es;simp [Instr.sliceAt,Instr.slice,run_underlying hu,Instr.sliceBounds,Instr.sliceBound,asIntOf,c1,c2]) (.string _)
 ·exact h.elim
end
end Go.Proofs.YthheoefadijhdaaGreat.Ai
