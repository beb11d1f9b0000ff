/- The abstract machine and the world: conversions, copies, and any operation of a region. -/
import Derived.Test.YthheoefadijhdaaGreatFFnExactReadMarksAiA
import Derived.Conc.Listed
import Derived.AtR
set_option linter.unusedSimpArgs false
set_option linter.unusedVariables false
namespace Go.Proofs.YthheoefadijhdaaGreat.Ai
open Go Go.RowKit

section
variable {P:Program} {ρ:Ren} {w:World} {Z:Zone} {H:zn}

theorem zit {s d:TypeId} {us:TypeDesc} (hs:P.underlying s=some us) (hd:P.underlying d=some (.float .f64)) (b:Nat) (w:World):
  ∃r w',(convert s d (.float .f32 b)).run P w=.ok (.float .f64 r) w'∧cn .f64 r=z2m (cn .f32 b)∧Drew w w'∧(∀es,(convert s d (.float .f32 b)).events P w es=es):=by
 obtain ⟨r,w',h1,h2,h3,h4⟩:=zj2 (P:=P) b w
 exact ⟨r,w',by cases us<;>simp [convert,run_underlying hs,run_underlying hd,h1],h2,h3,fun es=>by cases us<;>simp [convert,run_underlying hs,run_underlying hd,h4]⟩
theorem zf2 {s d:TypeId} {us:TypeDesc} (hs:P.underlying s=some us) (hd:P.underlying d=some (.float .f32)) (b r:Nat) (hr:z1x (cn .f64 b)=some r) (w:World):
  ∃r' w',(convert s d (.float .f64 b)).run P w=.ok (.float .f32 r') w'∧r=cn .f32 r'∧Drew w w'∧(∀es,(convert s d (.float .f64 b)).events P w es=es):=by
 obtain ⟨r',w',h1,h2,h3,h4⟩:=zc4 (P:=P) b r w hr
 exact ⟨r',w',by cases us<;>simp [convert,run_underlying hs,run_underlying hd,h1],h2,h3,fun es=>by cases us<;>simp [convert,run_underlying hs,run_underlying hd,h4]⟩

theorem zqh (l:List UInt8):∀(s:ByteArray),(l.map fun c=>(c.toNat:Int)).foldl (fun r n=>r.push (UInt8.ofNat n.toNat)) s=⟨s.data++l.toArray⟩:=by
 induction l with
 | nil=>intro s;simp
 | cons c l ih=>
  intro s
  rw [List.map_cons,List.foldl_cons,ih]
  congr 1
  apply Array.ext'
  simp [ByteArray.push]

theorem z12q {β:Type} {f:Value→β→Sem (ForInStep β)}:∀(l:List Value) (s:β) (w:World) (es:Array Event),(∀v ∈ l,∀s,∃s',f v s=pure (.yield s'))→(forIn l s f:Sem β).events P w es=es:=by
 intro l
 induction l with
 | nil=>intro s w es _;simp
 | cons v l ih=>
  intro s w es h
  obtain ⟨s',e⟩:=h v (by simp) s
  simp only [List.forIn_cons,Sem.events_bind,e,Sem.run_pure,Sem.events_pure,Result.evThen_ok]
  exact ih s' w es fun u hu=>h u (by simp [hu])
set_option maxHeartbeats 1000000 in
theorem zvo {src dst:TypeId} {x x':Value} {K:Value→Prop} (hr:HR Z ρ H w) (h:zvn P src dst x H K) (hx:VR ρ x x'):VOut P Z ρ (convert src dst x') w K:=by
 unfold zvn at h
 split at h
 ·rename_i u k k' n hs hd
  cases hx
  exact .plain h (by cases u<;>simp [convert,run_underlying hs,run_underlying hd,Conv.intToInt]) (by intro es;cases u<;>simp [convert,run_underlying hs,run_underlying hd,Conv.intToInt]) (.int _ _)
 ·rename_i u k k' n hs hd
  cases hx
  exact .plain h (by cases u<;>simp [convert,run_underlying hs,run_underlying hd,Conv.intToFloat]) (by intro es;cases u<;>simp [convert,run_underlying hs,run_underlying hd,Conv.intToFloat]) (.float k _ _ (zqi k n).symm)
 ·rename_i u k s b hs hd
  cases hx with
  | float _ _ b' e=>
   subst e
   cases s<;>cases k<;>simp only [] at h
   ·exact .plain h (v':=.float .f32 b') (by cases u<;>simp [convert,run_underlying hs,run_underlying hd,Conv.floatToFloat]) (by intro es;cases u<;>simp [convert,run_underlying hs,run_underlying hd,Conv.floatToFloat]) (.float _ _ _ rfl)
   ·obtain ⟨r,w',h1,h2,h3,h4⟩:=zit hs hd b' w
    exact ⟨_,h,_,w',h1,.float _ _ _ h2.symm,h3,.none h4⟩
   ·obtain ⟨r,hr',hk⟩:=h
    obtain ⟨r',w',h1,h2,h3,h4⟩:=zf2 hs hd b' r hr' w
    exact ⟨_,hk,_,w',h1,.float _ _ _ h2,h3,.none h4⟩
   ·exact .plain h (v':=.float .f64 b') (by cases u<;>simp [convert,run_underlying hs,run_underlying hd,Conv.floatToFloat]) (by intro es;cases u<;>simp [convert,run_underlying hs,run_underlying hd,Conv.floatToFloat]) (.float _ _ _ rfl)
 ·rename_i u k s b hs hd
  obtain ⟨n,hn,hk⟩:=h
  cases hx with
  | float _ _ b' e=>
   subst e
   rw [z1ei] at hn
   refine .plain hk ?_ (fun es=>by cases u<;>simp [convert,run_underlying hs,run_underlying hd,Conv.floatToInt]<;>(repeat' split)<;>simp) (.int _ _)
   exact run_convert_float_int (P:=P) w src dst s k b' n (by rw [hs];rfl) hd hn
 ·rename_i a b hs hd
  cases hx with
  | complex _ _ a' _ b' e1 e2=>
   subst e1;subst e2
   obtain ⟨r,w1,h1,h2,h3,h4⟩:=zj2 (P:=P) a' w
   obtain ⟨s,w2,g1,g2,g3,g4⟩:=zj2 (P:=P) b' w1
   exact ⟨_,h,.complex .f64 r s,w2,by simp [convert,run_underlying hs,run_underlying hd,Conv.complexToComplex,h1,g1],.complex _ _ _ _ _ h2.symm g2.symm,h3.trans g3,.none (fun es=>by simp [convert,run_underlying hs,run_underlying hd,Conv.complexToComplex,h1,h4,g1,g4])⟩
 ·rename_i a b hs hd
  cases hx with
  | complex _ _ a' _ b' e1 e2=>
   exact .plain h (v':=.complex .f32 a' b') (by simp [convert,run_underlying hs,run_underlying hd,Conv.complexToComplex,Conv.floatToFloat]) (by intro es;simp [convert,run_underlying hs,run_underlying hd,Conv.complexToComplex,Conv.floatToFloat]) (.complex _ _ _ _ _ e1 e2)
 ·rename_i a b hs hd
  cases hx with
  | complex _ _ a' _ b' e1 e2=>
   exact .plain h (v':=.complex .f64 a' b') (by simp [convert,run_underlying hs,run_underlying hd,Conv.complexToComplex,Conv.floatToFloat]) (by intro es;simp [convert,run_underlying hs,run_underlying hd,Conv.complexToComplex,Conv.floatToFloat]) (.complex _ _ _ _ _ e1 e2)
 ·rename_i a b hs hd
  obtain ⟨r,s,hr1,hr2,hk⟩:=h
  cases hx with
  | complex _ _ a' _ b' e1 e2=>
   subst e1;subst e2
   obtain ⟨r',w1,h1,h2,h3,h4⟩:=zc4 (P:=P) a' r w hr1
   obtain ⟨s',w2,g1,g2,g3,g4⟩:=zc4 (P:=P) b' s w1 hr2
   exact ⟨_,hk,.complex .f32 r' s',w2,by simp [convert,run_underlying hs,run_underlying hd,Conv.complexToComplex,h1,g1],.complex _ _ _ _ _ h2 g2,h3.trans g3,.none (fun es=>by simp [convert,run_underlying hs,run_underlying hd,Conv.complexToComplex,h1,h4,g1,g4])⟩
 ·rename_i s hs hd
  cases hx
  exact .plain h (by simp [convert,run_underlying hs,run_underlying hd]) (by intro es;simp [convert,run_underlying hs,run_underlying hd]) (.string _)
 ·rename_i e a n c hs hd
  split at h
  case h_2=>exact h.elim
  rename_i he
  obtain ⟨l,hl,hk⟩:=h
  have hconv:∀A cap,x'=.slice A n cap→(convert src dst x').run P w=(Conv.bytesToString (.slice A n cap)).run P w:=by
   intro A cap e;subst e;exact run_convert_bytes_string w src dst e _ _ _ hs he hd
  have hconvE:∀A cap,x'=.slice A n cap→∀es,(convert src dst x').events P w es=(Conv.bytesToString (.slice A n cap)).events P w es:=by
   intro A cap e1 es
   subst e1
   simp [convert,run_underlying hs,run_underlying hd,run_underlying he]
  rcases zey hr hl hx with ⟨c',k,cap,l',rfl,rfl,h1,h2,h3,h4⟩ | ⟨rfl,rfl,hl0,h1,h2⟩ | ⟨c',cap,rfl,rfl,h2⟩
  ·have hl':l'=(l.map fun c=>(c.toNat:Int)).map (Value.int .u8):=by
    rw [List.map_map]
    apply List.ext_getElem?
    intro i
    cases hi:l'[i]? with
    | none=>
     have:l'.length≤i:=by simpa using hi
     rw [List.getElem?_eq_none (by have:=h1.1;simp at this ⊢;omega)]
    | some v=>
     have hlt:i<l.length:=by have:=h1.1;have:=(List.getElem?_eq_some_iff.1 hi).1;simp at *;omega
     have hx':=h1.2 i _ v (by rw [List.getElem?_map,List.getElem?_eq_getElem hlt];rfl) hi
     cases hx'
     rw [List.getElem?_map,List.getElem?_eq_getElem hlt];rfl
   refine ⟨_,hk,_,w,?_,.string _,.refl w,?_⟩
   rotate_left
   ·clear hconv
    intro ev hev
    rw [hconvE _ _ rfl] at hev
    have hlc:(loadCells c' k).run P w=.ok l'.toArray w:=by rw [←h2];exact run_loadCells_list w c' l' h3
    have hev':ev ∈ (loadCells c' k).events P w #[]:=by
     simp [Conv.bytesToString,hlc] at hev
     rw [z12q l' _ w _ (fun v hv s=>by
      obtain ⟨i,hi⟩:=List.getElem?_of_mem hv
      rw [hl',List.getElem?_map] at hi
      cases hx:(l.map fun c=>(c.toNat:Int))[i]? with
      | none=>rw [hx] at hi;cases hi
      | some n=>rw [hx] at hi;cases hi;exact ⟨_,rfl⟩)] at hev
     exact hev
    rcases z5x (P:=P) (Z:=Z) (size:=1) (n:=k) (x:=.slice (some c') k cap) (N:=w.heap.size) #[] (fun a l0 c0 e0=>by
     cases e0
     exact ⟨fun h0=>h4 (by omega),fun j hj=>by rw [h3 j l'[j] (List.getElem?_eq_getElem (by omega))];rfl⟩) ev (by simpa [Builtin.firstCells] using hev') with h5 | h5
    ·simp at h5
    ·exact h5
   rw [hconv _ _ rfl]
   have hlc:(loadCells c' k).run P w=.ok ((l.map fun c=>(c.toNat:Int)).map (Value.int .u8)).toArray w:=by
    rw [←hl',←h2];exact run_loadCells_list w c' l' h3
   rw [run_bytesToString w c' k cap _ hlc,zqh]
   simp [ByteArray.empty,ByteArray.emptyWithCapacity]<;>rfl
  ·have:l=[]:=by simpa using hl0
   subst this
   rw [h2] at hconv hconvE
   refine .plain hk ?_ (fun es=>?_) (.string _)
   ·rw [hconv none 0 rfl]
    rfl
   ·rw [hconvE none 0 rfl]
    rfl
  ·have:l=[]:=by have:=zis hl;simpa using this
   subst this
   refine .plain hk ?_ (fun es=>?_) (.string _)
   ·rw [hconv _ _ rfl]
    simp [Conv.bytesToString,loadCells,loadCellsFrom];rfl
   ·rw [hconvE _ _ rfl]
    simp [Conv.bytesToString,loadCells,loadCellsFrom]
 ·exact h.elim

theorem zvp {t:TypeId} {d d' s s':Value} {ts:Array TypeId} {ty:TypeId} {K:Value→zn→Prop} (hr:HR Z ρ H w) (h:copyK P t d s H K) (hd:VR ρ d d') (hs:VR ρ s s') (ht:ts[0]? =some t):
  HOut P Z ρ (Builtin.copy_ ts ty #[d',s']) w K:=by
 unfold copyK at h
 split at h
 case h_2=>exact h.elim
 rename_i e a n ce a' m cm hu
 split at h
 case h_2=>exact h.elim
 rename_i hsz
 obtain ⟨new,hnew,b,off,rfl,hown,⟨l,hl⟩,hk⟩:=h
 obtain ⟨new',hnv,hnl,hxs⟩:∃new',VRs ρ new new'∧new'.length=min m n∧
   ((∃c cap,s'=.slice (some c) m cap∧(∀j v,new'[j]? =some v→w.cell? (c.add j)=some v)∧(0<min m n→c.block<w.heap.size∧Z.rd c.block))∨(s'=.slice none 0 0∧m=0)):=by
  rcases zey hr hnew hs with ⟨c,k,cap,l',rfl,rfl,h1,h2,h3,h4⟩ | ⟨rfl,rfl,rfl,h1,h2⟩ | ⟨c,cap,rfl,rfl,h2⟩
  ·exact ⟨l',h1,h2,.inl ⟨c,cap,rfl,h3,h4⟩⟩
  ·exact ⟨[],.nil ρ,by simp [h1],.inr ⟨rfl,h2⟩⟩
  ·rw [Nat.zero_min] at hnew
   rw [zis hnew]
   exact ⟨[],.nil ρ,by simp,.inl ⟨c,cap,rfl,by simp,fun h=>by omega⟩⟩
 have hlen:new.length=min m n:=by rw [hnv.1,hnl]
 have hcell:new.all isCell=true:=zh5 hr hnew
 obtain ⟨blk,hb,hn,rfl⟩:=z5z hl
 have hrd:∃l,rdN H b off new.length=some l:=by
  refine ⟨(blk.cells.drop off).take new.length,?_⟩
  simp only [rdN,rdB,hb,Option.bind_some]
  rw [if_pos (by rw [hlen];omega)]
 have srcE:∀es,∀e ∈ (Builtin.firstCells 1 (min m n) s').events P w es,e ∈ es∨EvOk Z w.heap.size e:=by
  intro es
  refine z5x (Z:=Z) es ?_
  intro a l c0 e0
  rcases hxs with ⟨c,cap,rfl,h1,h2⟩ | ⟨rfl,_⟩
  ·cases e0
   exact ⟨fun h=>h2 (by omega),fun j hj=>by rw [h1 j new'[j] (List.getElem?_eq_getElem (by rw [hnl];omega))];rfl⟩
  ·cases e0
 have srcR:(Builtin.firstCells 1 (min m n) s').run P w=.ok new'.toArray w:=by
  rcases hxs with ⟨cx,capx,rfl,hc,hcb⟩ | ⟨rfl,rfl⟩
  ·exact run_firstCells_some w 1 (min m n) cx m capx new' (by rw [hnl];omega) hc
  ·have hn0:new'=[]:=List.length_eq_zero_iff.1 (by simpa using hnl)
   rw [hn0];rfl
 have hS:∃B c,s'=.slice B m c:=by
  rcases hxs with ⟨c,cap,rfl,_⟩ | ⟨rfl,rfl⟩
  ·exact ⟨_,_,rfl⟩
  ·exact ⟨_,_,rfl⟩
 cases hd with
 | slice _ _ _ _ c base sz cap hρ h1 h2=>
  obtain ⟨w',e1,e2,e3,e4,e5⟩:=zhj (P:=P) new new' off H w b hr hown hrd hnv hcell c base sz hρ 0 ⟨c,base+off,none⟩ rfl (fun j=>by rw [z2j,Nat.zero_add])
  refine ⟨_,_,hk,.int .i64 (min m n:Nat),w',ρ,?_,List.prefix_refl _,e2,.int _ _,e3,?_⟩
  rotate_left
  ·intro ev hev
   obtain ⟨B,cB,hS⟩:=hS
   rw [hS] at hev srcE srcR
   have hmin:Nat.min m n=min m n:=rfl
   have hev':ev ∈ (storeCells ⟨c,base+off,none⟩ new' 0).events P w ((Builtin.firstCells 1 (min m n) (.slice B m cB)).events P w #[]):=by
    simpa [Builtin.copy_,ht,run_underlying hu,Builtin.lenOf,z1h hsz,hmin,srcR,e1,goInt] using hev
   rcases e5 _ ev hev' with h | h
   ·rcases srcE _ ev h with h | h
    ·simp at h
    ·rw [e4];exact h
   ·rw [e4];exact h
  rcases hxs with ⟨cx,capx,rfl,hc,hcb⟩ | ⟨rfl,rfl⟩
  ·have hf:(Builtin.firstCells 1 (min m n) (.slice (some cx) m capx)).run P w=.ok new'.toArray w:=run_firstCells_some w 1 (min m n) cx m capx new' (by rw [hnl];omega) hc
   have hmin:Nat.min m n=min m n:=rfl
   simp [Builtin.copy_,ht,run_underlying hu,Builtin.lenOf,z1h hsz,hmin,hf,e1,goInt]
  ·have hn0:new'=[]:=List.length_eq_zero_iff.1 (by simpa using hnl)
   subst hn0
   have e1':w'=w:=by simp [storeCells] at e1;exact e1.symm
   subst e1'
   have hmin:Nat.min 0 n=0:=by show min 0 n=0;simp
   simp [Builtin.copy_,ht,run_underlying hu,Builtin.lenOf,z1h hsz,hmin,Builtin.firstCells,storeCells,goInt]
 | sempty _ _ a'' cap=>
  have hmin0:min m 0=0:=by simp
  have hn0:new'=[]:=List.length_eq_zero_iff.1 (by rw [hnl];simp)
  subst hn0
  have hnew0:new=[]:=List.length_eq_zero_iff.1 (by rw [hlen];simp)
  subst hnew0
  have hz:Nat.min m 0=0:=by show min m 0=0;simp
  refine ⟨_,_,hk,.int .i64 (min m 0:Nat),w,ρ,?_,List.prefix_refl _,hr,.int _ _,.refl _ _,?_⟩
  rotate_left
  ·intro ev hev
   obtain ⟨B,cB,hS⟩:=hS
   rw [hS] at hev srcE srcR
   rw [hmin0] at srcE srcR
   have hev':ev ∈ (Builtin.firstCells 1 0 (.slice B m cB)).events P w #[]:=by
    simpa [Builtin.copy_,ht,run_underlying hu,Builtin.lenOf,z1h hsz,hz,srcR,goInt,storeCells] using hev
   rcases srcE _ ev hev' with h | h
   ·simp at h
   ·exact h
  rcases hxs with ⟨cx,capx,rfl,hc,hcb⟩ | ⟨rfl,rfl⟩
  ·have hf:(Builtin.firstCells 1 0 (.slice (some cx) m capx)).run P w=.ok #[] w:=by simp [Builtin.firstCells,loadCells,loadCellsFrom]
   simp [Builtin.copy_,ht,run_underlying hu,Builtin.lenOf,z1h hsz,hz,hf,goInt,storeCells]
  ·simp [Builtin.copy_,ht,run_underlying hu,Builtin.lenOf,z1h hsz,hz,Builtin.firstCells,goInt,storeCells]
end
end Go.Proofs.YthheoefadijhdaaGreat.Ai
set_option linter.unusedSimpArgs false
set_option linter.unusedVariables false
namespace Go.Proofs.YthheoefadijhdaaGreat.Ai
open Go Go.RowKit Go.Conc


def Zle (Z' Z:Zone):Prop:=∀c,(Z'.wr c→Z.wr c)∧(Z'.rd c→Z.rd c)
theorem Zle.refl (Z:Zone):Zle Z Z:=fun _=>⟨id,id⟩
theorem Zle.trans {A B C:Zone} (h:Zle A B) (k:Zle B C):Zle A C:=fun c=>⟨fun x=>(k c).1 ((h c).1 x),fun x=>(k c).2 ((h c).2 x)⟩

structure Car (P:Program) (main:Bool) where
 Will:Zone→Goroutine→World→Prop
 R:Zone→World→World→Prop
 T:Zone→World→World→Prop
 refl:∀Z w,R Z w w
 keep:∀{Z:Zone} {ρ:Ren} {H:zn} {w w₁:World},R Z w w₁→HR Z ρ H w→HR Z ρ H w₁
 rT:∀{Z:Zone} {w w₁:World},R Z w w₁→T Z w w₁
 kT:∀{Z:Zone} {w w₁:World},Kept Z w w₁→T Z w w₁
 tT:∀{Z:Zone} {a b c:World},T Z a b→T Z b c→T Z a c
 mT:∀{Z Z':Zone} {a b:World},Zle Z' Z→T Z' a b→T Z a b
 step:∀{Z:Zone} {fr:Frame} {cs:List Frame} {w:World},
  (∀w₁,R Z w w₁→∃(fr':Frame) (cs':List Frame) (w':World) (es:Array Event),stepG P main (G fr cs) w₁=.go (G fr' cs') w' es∧Kept Z w₁ w'∧(∀e ∈ es,EvOk Z w'.heap.size e)∧Will Z (G fr' cs') w')→Will Z (G fr cs) w
 calm:∀{Z:Zone} {fr:Frame} {cs:List Frame} {w w₁:World},R Z w w₁→Will Z (G fr cs) w→Will Z (G fr cs) w₁
abbrev Cls (P:Program):=(main:Bool)→Car P main→Prop
def zg9 (P:Program):Cls P:=fun _ _=>True

section
variable {P:Program} {main:Bool} {C:Car P main} {Z:Zone} {b:Frame} {a:Act} {k:List Item} {cs:List Frame} {w:World}
theorem Car.still {fr fr':Frame} {cs cs':List Frame} (h:∀w₁,stepG P main (G fr cs) w₁=.go (G fr' cs') w₁) (hw:C.Will Z (G fr' cs') w):C.Will Z (G fr cs) w:=
 C.step fun w₁ h₁=>⟨fr',cs',w₁,#[],h w₁,.refl _ _,by simp,C.calm h₁ hw⟩
end

structure FnOkX (P:Program) (X:Cls P) (g:Nat) (S:FSpec):Prop where
 mono:∀(args:List Value) (H:zn) (K K':Value→zn→Prop),(∀v H',K v H'→K' v H')→S.F args H K→S.F args H K'
 quiet:S.quiet=true→∀(args:List Value) (H:zn) (K:Value→zn→Prop),S.F args H K→∃v,K v H∧∀K':Value→zn→Prop,K' v H→S.F args H K'
 live:∀(args:List Value) (H:zn) (K:Value→zn→Prop),S.F args H K→∃v H',K v H'
 tame:S.tame=true→∀(args:List Value) (H:zn) (K:Value→zn→Prop),S.F args H K→S.F args H fun v H'=>Grow H H'∧K v H'
 sound:∀(main:Bool) (C:Car P main),X main C→∀(Z:Zone) (ρ:Ren) (H:zn) (w:World) (args args':List Value) (K:Value→zn→Prop),HR Z ρ H w→VRs ρ args args'→S.F args H K→
  ∀(b:Frame) (a:Act) (k:List Item) (cs:List Frame) (ops:Array Oper) (i:Nat) (rest:List Nat) (o:Oper),ops[i]? =some o→Region.wanted o (yielded ops a.tmps)=true→b.kind≠.early→(∀c,o.op≠.defer c)→execOp a.eval o=callFunc g args'.toArray→
   (∀v H',K v H'→∀Z' ρ' w' v',Zle Z' Z→ρ <+:ρ'→HR Z' ρ' H' w'→VR ρ' v v'→C.T Z w w'→C.Will Z' (G (b.atR (a.put o.dst v') (.inRegion ops rest::k)) cs) w')→
   C.Will Z (G (b.atR a (.inRegion ops (i::rest)::k)) cs) w
abbrev FnOk (P:Program) (g:Nat) (S:FSpec):Prop:=FnOkX P (zg9 P) g S
theorem FnOkX.le {P:Program} {X Y:Cls P} {g:Nat} {S:FSpec} (h:FnOkX P X g S) (hxy:∀main C,Y main C→X main C):FnOkX P Y g S:=
 ⟨h.mono,h.quiet,h.live,h.tame,fun main C hC=>h.sound main C (hxy main C hC)⟩

theorem FnOkX.none (P:Program) (X:Cls P) (g:Nat):FnOkX P X g zy3:=⟨fun _ _ _ _ _ h=>h.elim,fun _ _ _ _ h=>h.elim,fun _ _ _ h=>h.elim,fun _ _ _ _ h=>h.elim,fun _ _ _ _ _ _ _ _ _ _ _ _ h=>h.elim⟩
theorem zin (P:Program) (X:Cls P):FnOkX P X zkz zex:=⟨fun _ _ _ _ _ h=>h.elim,fun _ _ _ _ h=>h.elim,fun _ _ _ h=>h.elim,fun _ _ _ _ h=>h.elim,fun _ _ _ _ _ _ _ _ _ _ _ _ h=>h.elim⟩
theorem z7c (P:Program) (X:Cls P) {g:Nat}:FnOkX P X g z8n:=⟨fun _ _ _ _ _ h=>h.elim,fun _ _ _ _ h=>h.elim,fun _ _ _ h=>h.elim,fun _ _ _ _ h=>h.elim,fun _ _ _ _ _ _ _ _ _ _ _ _ h=>h.elim⟩
theorem zf8 (P:Program) {g:Nat}:FnOk P g z8n:=z7c P _
theorem zly (P:Program):FnOk P zkz zex:=zin P _
theorem FnOkX.envOf {P:Program} {X:Cls P} {l:List (Nat×FSpec)} (h:∀x ∈ l,FnOkX P X x.1 x.2) (g:Nat):FnOkX P X g (envOf l g):=by
 induction l with
 | nil=>exact .none P X g
 | cons x l ih=>
  obtain ⟨k,S⟩:=x
  unfold Ai.envOf
  cases e:Nat.beq k g
  ·exact ih fun y hy=>h y (List.mem_cons_of_mem _ hy)
  ·have:=h (k,S) List.mem_cons_self
   rw [Nat.eq_of_beq_eq_true e] at this
   exact this
theorem FnOk.envOf {P:Program} {l:List (Nat×FSpec)} (h:∀x ∈ l,FnOk P x.1 x.2) (g:Nat):FnOk P g (envOf l g):=FnOkX.envOf h g

section
variable {P:Program} {ρ:Ren} {w:World} {Z:Zone} {H:zn} {env:Env}

def NOut (P:Program) (Z:Zone) (ρ:Ren) (s:Sem Next) (w:World) (K:Value→zn→Prop):Prop:=
 ∃v H',K v H'∧∃v' w' ρ',(s.run P w=.ok (.value v') w'∨(s.run P w=.ok .skip w'∧v'=undef))∧ρ <+:ρ'∧HR Z ρ' H' w'∧VR ρ' v v'∧Kept Z w w'∧Evs P Z s w w'

theorem HOut.next {s:Sem Value} {K:Value→zn→Prop} (h:HOut P Z ρ s w K):NOut P Z ρ (do pure (Next.value (←s))) w K:=by
 obtain ⟨v,H',hk,v',w',ρ',h1,h2,h3,h4,h5,h6⟩:=h
 refine ⟨v,H',hk,v',w',ρ',.inl (by rw [Sem.run_bind,h1];rfl),h2,h3,h4,h5,?_⟩
 intro e he
 rw [Sem.events_bind,h1] at he
 exact h6 e he
theorem NOut.here {K:Value→zn→Prop} {s:Sem Next} (hr:HR Z ρ H w) {v v':Value} (hk:K v H) (hv:VR ρ v v') (h1:s.run P w=.ok (.value v') w) (h2:∀es,s.events P w es=es):NOut P Z ρ s w K:=
 ⟨v,H,hk,v',w,ρ,.inl h1,List.prefix_refl _,hr,hv,.refl _ _,.none h2⟩

theorem z7d:VR ρ undef undef:=VRs.tuple (xs:=#[]) (ys:=#[]) (.nil ρ)
theorem zed {ev ev':Operand→Value} (x:Option Operand) (h:∀y ∈ x.toArray,VR ρ (ev y) (ev' y)):zy8 ρ (x.map ev) (x.map ev'):=by
 cases x with
 | none=>trivial
 | some y=>exact h y (by simp)

theorem ev2 {s:Sem Value} {s':Sem Value} {w1 w2 w3:World} (h:Evs P Z s w w1) (g:Evs P Z s' w2 w3) (hs:w3.heap.size=w1.heap.size) {e:Event} (he:e ∈ s'.events P w2 (s.events P w #[])):EvOk Z w3.heap.size e:=by
 have hacc:=s'.events_acc P w2 (s.events P w #[])
 rw [hacc] at he
 rcases Array.mem_append.1 he with he | he
 ·rw [hs];exact h e he
 ·exact g e he
theorem zro {t:TypeId} {s s' x x':Value} {ty:TypeId} {K:Value→zn→Prop} (hr:HR Z ρ H w) (h:ze9 P t s x H K) (hs:VR ρ s s') (hx:VR ρ x x'):
  HOut P Z ρ (Builtin.append_ #[t,t] ty #[s',x']) w K:=by
 unfold ze9 at h
 split at h
 case h_2=>exact h.elim
 rename_i e c a' cm ht
 cases hz:z5m P e with
 | none=>rw [hz] at h;exact h.elim
 | some sz=>
  rw [hz] at h
  obtain ⟨i,hi,hisz⟩:∃i,P.info? e=some i∧i.size=sz:=by
   unfold z5m at hz;obtain ⟨i,hi,h2⟩:=Option.map_eq_some_iff.1 hz;exact ⟨i,hi,h2⟩
  obtain ⟨rfl,rfl⟩:s'=.slice none 0 0∧c=0:=by cases hs;exact ⟨rfl,rfl⟩
  have hX:(∃B,x'=.slice (some B) 0 cm∨∃c,x'=.slice (some B) 0 c)∨x'=.slice none 0 0:=by
   cases hx with
   | snil=>exact .inr rfl
   | slice=>exact .inl ⟨_,.inr ⟨_,rfl⟩⟩
   | _=>exact .inl ⟨_,.inr ⟨_,rfl⟩⟩
  have hl:∀w₁:World,(Builtin.firstCells sz 0 x').run P w₁=.ok #[] w₁∧∀es,(Builtin.firstCells sz 0 x').events P w₁ es=es:=by
   intro w₁
   rcases hX with ⟨B,h | ⟨c,h⟩⟩ | h<;>subst h<;>refine ⟨?_,fun es=>?_⟩<;>simp [Builtin.firstCells,loadCells,loadCellsFrom]
  have hlen:∃B c,x'=.slice B 0 c:=by
   rcases hX with ⟨B,h | ⟨c,h⟩⟩ | h<;>exact ⟨_,_,h⟩
  obtain ⟨B,cB,rfl⟩:=hlen
  refine ⟨_,H,h,.slice none 0 0,w,ρ,?_,List.prefix_refl _,hr,.snil,.refl _ _,?_⟩
  ·simp [Builtin.append_,run_underlying ht,sizeOf,typeInfo,hi,Builtin.lenOf,hisz,(hl w).1]
  ·intro ev hev
   simp [Builtin.append_,run_underlying ht,sizeOf,typeInfo,hi,Builtin.lenOf,hisz,(hl w).1,(hl w).2] at hev
theorem zjo {b:Builtin} {ts:Array TypeId} {ty:TypeId} {consts:Array Bool} {args args':List Value} {K:Value→zn→Prop} (hr:HR Z ρ H w) {nl:Bool} (h:z6r P nl b ts args H K) (hv:VRs ρ args args')
  :NOut P Z ρ (builtin b ts ty consts args'.toArray) w K:=by
 unfold z6r at h
 split at h
 ·rename_i t t' s x hts
  obtain ⟨he,h9⟩:=z1c h
  obtain rfl:=Nat.eq_of_beq_eq_true he
  obtain ⟨s',l,rfl,hs,hl⟩:=hv.uncons
  obtain ⟨x',l,rfl,hx,hl⟩:=hl.uncons
  rw [hl.unnil]
  obtain rfl:ts=#[t,t]:=by rw [←Array.toArray_toList (xs:=ts),hts]
  cases nl with
  | false=>exact (zdg hr h9 hs hx).next
  | true=>
   rcases h9 with h9 | h9
   ·exact (zro hr h9 hs hx).next
   ·exact (zdg hr h9 hs hx).next
 ·rename_i t r d s hts
  obtain ⟨s',l,rfl,hs,hl⟩:=hv.uncons
  obtain ⟨x',l,rfl,hx,hl⟩:=hl.uncons
  rw [hl.unnil]
  have ht:ts[0]? =some t:=by rw [←Array.getElem?_toList,hts];rfl
  exact (zvp hr h hs hx ht).next
 ·rename_i t r x hts
  obtain ⟨x',l,rfl,hx,hl⟩:=hv.uncons
  rw [hl.unnil]
  have ht:ts[0]? =some t:=by rw [←Array.getElem?_toList,hts];rfl
  exact (HOut.of hr (z15f h hx ht)).next
 ·rename_i x y
  obtain ⟨x',l,rfl,hx,hl⟩:=hv.uncons
  obtain ⟨y',l,rfl,hy,hl⟩:=hl.uncons
  rw [hl.unnil]
  have:=(HOut.of hr (z5a (P:=P) (mx:=false) (w:=w) h hx hy)).next
  simpa [builtin,Builtin.min_] using this
 ·rename_i x y
  obtain ⟨x',l,rfl,hx,hl⟩:=hv.uncons
  obtain ⟨y',l,rfl,hy,hl⟩:=hl.uncons
  rw [hl.unnil]
  have:=(HOut.of hr (z5a (P:=P) (mx:=true) (w:=w) h hx hy)).next
  simpa [builtin,Builtin.max_] using this
 ·rename_i x y z
  obtain ⟨x',l,rfl,hx,hl⟩:=hv.uncons
  obtain ⟨y',l,rfl,hy,hl⟩:=hl.uncons
  obtain ⟨z',l,rfl,hz,hl⟩:=hl.uncons
  rw [hl.unnil]
  obtain ⟨v,hk,v',w',h1,h2,h3,h4⟩:=z5a (P:=P) (Z:=Z) (mx:=false) (w:=w) h hx hy
  obtain ⟨u,hk',u',w'',g1,g2,g3,g4⟩:=z5a (P:=P) (Z:=Z) (mx:=false) (w:=w') hk h2 hz
  have hdd:w''.heap=w'.heap:=g3.heap
  simp only [cond_false] at h1 g1 h4 g4
  have d:=h3.trans g3
  have e:(builtin .min ts ty consts #[x',y',z']).run P w=.ok (.value u') w'':=by simp [builtin,Builtin.min_,h1,g1]
  refine ⟨u,H,hk',u',w'',ρ,.inl e,List.prefix_refl _,hr.drew d,g2,d.below _,?_⟩
  intro ev hev
  have hev':ev ∈ (Builtin.min2 v' z').events P w' ((Builtin.min2 x' y').events P w #[]):=by simpa [builtin,Builtin.min_,h1,g1] using hev
  exact ev2 h4 g4 (by rw [hdd]) hev'
 ·rename_i x y z
  obtain ⟨x',l,rfl,hx,hl⟩:=hv.uncons
  obtain ⟨y',l,rfl,hy,hl⟩:=hl.uncons
  obtain ⟨z',l,rfl,hz,hl⟩:=hl.uncons
  rw [hl.unnil]
  obtain ⟨v,hk,v',w',h1,h2,h3,h4⟩:=z5a (P:=P) (Z:=Z) (mx:=true) (w:=w) h hx hy
  obtain ⟨u,hk',u',w'',g1,g2,g3,g4⟩:=z5a (P:=P) (Z:=Z) (mx:=true) (w:=w') hk h2 hz
  have hdd:w''.heap=w'.heap:=g3.heap
  simp only [cond_true] at h1 g1 h4 g4
  have d:=h3.trans g3
  have e:(builtin .max ts ty consts #[x',y',z']).run P w=.ok (.value u') w'':=by simp [builtin,Builtin.max_,h1,g1]
  refine ⟨u,H,hk',u',w'',ρ,.inl e,List.prefix_refl _,hr.drew d,g2,d.below _,?_⟩
  intro ev hev
  have hev':ev ∈ (Builtin.max2 v' z').events P w' ((Builtin.max2 x' y').events P w #[]):=by simpa [builtin,Builtin.max_,h1,g1] using hev
  exact ev2 h4 g4 (by rw [hdd]) hev'
 ·rename_i k x y
  obtain ⟨x',l,rfl,hx,hl⟩:=hv.uncons
  rw [hl.unnil]
  cases hx with
  | complex _ _ x'' _ y'' e1 e2=>exact .here hr h (.float k _ x'' e1) rfl (fun _=>rfl)
 ·rename_i k x y
  obtain ⟨x',l,rfl,hx,hl⟩:=hv.uncons
  rw [hl.unnil]
  cases hx with
  | complex _ _ x'' _ y'' e1 e2=>exact .here hr h (.float k _ y'' e2) rfl (fun _=>rfl)
 ·rename_i k x k' y
  obtain ⟨he,h9⟩:=z1c h
  obtain rfl:=zn9 he
  obtain ⟨x',l,rfl,hx,hl⟩:=hv.uncons
  obtain ⟨y',l,rfl,hy,hl⟩:=hl.uncons
  rw [hl.unnil]
  cases hx with
  | float _ _ x'' e1=>
   cases hy with
   | float _ _ y'' e2=>
    have e:(builtin .complex ts ty consts #[.float k x'',.float k y'']).run P w=.ok (.value (.complex k x'' y'')) w:=by cases k<;>rfl
    exact .here hr h9 (.complex k _ x'' _ y'' e1 e2) e (fun _=>by cases k<;>rfl)
 ·exact h.elim


theorem VRs.evs {ev ev':Operand→Value} (xs:Array Operand) (h:∀x ∈ xs,VR ρ (ev x) (ev' x)):VRs ρ (xs.toList.map ev) (xs.map ev').toList:=by
 rw [Array.toList_map]
 exact .map_mem _ _ _ fun x hx=>h x (by simpa using hx)

theorem zy6 {o:Oper} {a:Act} {ev:Operand→Value} {K:Value→zn→Prop} (hr:HR Z ρ H w) (hev:∀x ∈ o.op.operands,VR ρ (ev x) (a.eval x)) (hc:∀f args ts,o.op≠.call ⟨.value f,args,ts⟩)
  (h:opK P env o ev H K):NOut P Z ρ (execOp a.eval o) w K:=by
 obtain ⟨dst,op,type,pos,after,guard⟩:=o
 cases op<;>simp only [opK] at h<;>simp only [Op.operands] at hev
 case move x=>exact .here hr h (hev x (by simp)) rfl (fun _=>rfl)
 case assign x=>exact .here hr h (hev x (by simp)) rfl (fun _=>rfl)
 case pick c x y=>
  have hc:=hev c (by simp)
  unfold zae at h
  split at h
  ·rename_i t ht
   rw [ht] at hc
   have hc':a.eval c=.bool t:=by generalize a.eval c=q at hc;cases hc;rfl
   cases t
   ·exact .here hr h (hev y (by simp)) (by simp [execOp,hc',asBool]) (fun es=>by simp [execOp,hc',asBool])
   ·exact .here hr h (hev x (by simp)) (by simp [execOp,hc',asBool]) (fun es=>by simp [execOp,hc',asBool])
  ·exact h.elim
 case alloc e=>
  split at h
  ·rename_i z hz
   obtain ⟨hc,h⟩:=z1c h
   have:=(zpe (P:=P) (e:=e) (arr:=z.cells) hr h (.const hc)).next
   have e1:∀(A:Sem Value),A=(do let v ←zeroValue e;pure (.pointer (some (←newVar e v))))→(do pure (Next.value (←A)):Sem Next)=(do pure (Next.value (←A))):=fun _ _=>rfl
   obtain ⟨v,H',hk,v',w',ρ',h1,h2,h3,h4,h5,h6⟩:=this
   refine ⟨v,H',hk,v',w',ρ',?_,h2,h3,h4,h5,?_⟩
   ·simpa [execOp,Instr.alloc,z5j hz,newVar] using h1
   ·unfold Evs at h6 ⊢
    simpa [execOp,Instr.alloc,z5j hz,newVar] using h6
  ·exact h.elim
 case box e x=>
  have:=(zpe (P:=P) (e:=e) (arr:=(a.eval x).cells) hr h (hev x (by simp)).cells).next
  obtain ⟨v,H',hk,v',w',ρ',h1,h2,h3,h4,h5,h6⟩:=this
  refine ⟨v,H',hk,v',w',ρ',?_,h2,h3,h4,h5,?_⟩
  ·simpa [execOp,Instr.box,newVar] using h1
  ·unfold Evs at h6 ⊢
   simpa [execOp,Instr.box,newVar] using h6
 case build t ps=>
  have hp:=zim (ρ:=ρ) (ev:=ev) (ev':=a.eval) ps (fun x hx=>hev x (by simpa using hx))
  have:=(HOut.of hr (zqg (w:=w) h hp.1 hp.2)).next
  rw [Array.toArray_toList] at this
  exact this
 case buildSlice t n ps=>
  have hp:=zim (ρ:=ρ) (ev:=ev) (ev':=a.eval) ps (fun x hx=>hev x (by simpa using hx))
  have:=(zdi hr h hp.1 hp.2).next
  rw [Array.toArray_toList] at this
  exact this
 case load t x=>
  exact (HOut.of hr (zxu hr h (hev x (by simp)))).next
 case store t x y=>
  obtain ⟨H',w',h1,h2,h3,h4,h5⟩:=zsn hr h (hev x (by simp)) (hev y (by simp))
  refine ⟨undef,H',h1,undef,w',ρ,.inr ⟨by simp only [execOp,Sem.run_bind,h2,Result.andThen_ok,Sem.run_pure],rfl⟩,List.prefix_refl _,h3,z7d,h4,?_⟩
  intro e he
  simp only [execOp,Sem.events_bind,h2,Result.evThen_ok,Sem.events_pure] at he
  exact h5 e he
 case nilCheck x=>
  have hx:=hev x (by simp)
  split at h
  ·rename_i p hp
   rw [hp] at hx
   generalize hq:a.eval x=q at hx
   cases hx
   exact .here hr h (.ptr _ _ _ _ _ ‹_›) (by simp only [execOp,hq,Sem.run_pure]) (fun es=>by simp only [execOp,hq,Sem.events_pure])
  ·rename_i f xs ys hp
   rw [hp] at hx
   generalize hq:a.eval x=q at hx
   cases hx
   exact .here hr h (.func _ _ _ _ _ ‹_› ‹_› ‹_› ‹_›) (by simp only [execOp,hq,Sem.run_pure]) (fun es=>by simp only [execOp,hq,Sem.events_pure])
  ·exact h.elim
 case binOp op t x y ty=>
  have:=(HOut.of hr (z12i (w:=w) x y h (hev x (by simp)) (hev y (by simp)))).next
  obtain ⟨v,H',hk,v',w',ρ',h1,h2,h3,h4,h5,h6⟩:=this
  refine ⟨v,H',hk,v',w',ρ',?_,h2,h3,h4,h5,?_⟩
  ·simpa [execOp] using h1
  ·unfold Evs at h6 ⊢
   simpa [execOp] using h6
 case unOp op t x=>exact (HOut.of hr (z1fc h (hev x (by simp)))).next
 case convert s d x=>exact (HOut.of hr (zvo hr h (hev x (by simp)))).next
 case makeFunc fn first cap=>
  have h1:=VRs.evs (ρ:=ρ) (ev:=ev) (ev':=a.eval) first (fun x hx=>hev x (by simp [hx]))
  have h2:=VRs.evs (ρ:=ρ) (ev:=ev) (ev':=a.eval) cap (fun x hx=>hev x (by simp [hx]))
  have hv:VR ρ (.func fn (first.toList.map ev).toArray (cap.toList.map ev).toArray) (.func fn (first.map a.eval) (cap.map a.eval)):=
   .func fn _ _ _ _ (by simp) (fun i x y hx hy=>h1.2 i x y (by simpa using hx) (by simpa using hy)) (by simp) (fun i x y hx hy=>h2.2 i x y (by simpa using hx) (by simpa using hy))
  exact .here hr h hv rfl (fun _=>rfl)
 case makeSlice t n c=>exact (zfs hr h (hev n (by simp)) (hev c (by simp))).next
 case slice t x lo hi mx=>
  exact (HOut.of hr (zs7 h (hev x (by simp)) (zed lo fun y hy=>hev y (by simp_all)) (zed hi fun y hy=>hev y (by simp_all)) (zed mx fun y hy=>hev y (by simp_all)))).next
 case fieldAddr s x f=>exact (HOut.of hr (zfk h (hev x (by simp)))).next
 case field s x f=>exact (HOut.of hr (zqm h (hev x (by simp)))).next
 case indexAddr t x i=>exact (HOut.of hr (zfp h (hev x (by simp)) (hev i (by simp)))).next
 case index t x i=>exact (HOut.of hr (zr6 h (hev x (by simp)) (hev i (by simp)))).next
 case extract t i=>
  have hx:=hev t (by simp)
  split at h
  ·rename_i vs hvs
   rw [hvs] at hx
   split at h
   ·rename_i v hv
    generalize hq:a.eval t=q at hx
    cases hx with
    | tuple _ ys h1 h2=>
     obtain ⟨v',a1,a2⟩:=(VRs.arr h1 h2).get (i:=i) (x:=v) (by simpa using hv)
     have a1':ys[i]? =some v':=by simpa using a1
     exact .here hr h a2 (by simp only [execOp,hq,Instr.extract,a1',Sem.run_bind,Sem.run_pure,Result.andThen_ok]) (fun es=>by simp only [execOp,hq,Instr.extract,a1',Sem.run_bind,Sem.events_bind,Sem.run_pure,Sem.events_pure,Result.evThen_ok])
   ·exact h.elim
  ·exact h.elim
 case call c=>
  obtain ⟨callee,args,argTypes⟩:=c
  cases callee<;>simp only [] at h
  case value f=>exact absurd rfl (hc _ _ _)
  case builtin b=>
   have hargs:=VRs.evs (ρ:=ρ) (ev:=ev) (ev':=a.eval) args (fun x hx=>hev x (by simp [Call.operands,hx]))
   have:=fun consts=>zjo (b:=b) (ty:=type) (consts:=consts) hr h hargs
   simp only [Array.toArray_toList] at this
   exact this _

end
end Go.Proofs.YthheoefadijhdaaGreat.Ai
set_option linter.unusedSimpArgs false
set_option linter.unusedVariables false
namespace Go.Proofs.YthheoefadijhdaaGreat.Ai
open Go Go.RowKit Go.Conc

def zbf:Operand→Bool
 | .tmp _=>true
 | .const v=>zhv v
 | .global _=>false
 | .func _=>true
def z6l (o:Oper):Bool:=o.op.operands.toList.all zbf

section
variable {P:Program} {ρ:Ren} {w:World} {Z:Zone} {H:zn} {env:Env} {X:Cls P} {main:Bool} {C:Car P main}

theorem VRs.getD {xs ys:List Value} (h:VRs ρ xs ys) (i:Nat):VR ρ (xs.getD i undef) (ys.getD i undef):=by
 rw [List.getD_eq_getElem?_getD,List.getD_eq_getElem?_getD]
 cases hx:xs[i]? with
 | none=>
  have:ys[i]? =none:=by rw [List.getElem?_eq_none_iff] at *;rw [←h.1];exact hx
  rw [this];exact z7d
 | some x=>obtain ⟨y,hy,hv⟩:=h.get hx;rw [hy];exact hv

theorem zge {tm:List Value} {a:Act} (hf:VRs ρ tm a.tmps.toList) {x:Operand} (hx:zbf x=true):VR ρ (evT tm x) (a.eval x):=by
 cases x with
 | tmp t=>
  have:=hf.getD t
  simpa [evT,Act.eval,List.getD_eq_getElem?_getD] using this
 | const v=>exact .const1 hx
 | global g=>cases hx
 | func f=>exact .func _ _ _ _ _ rfl (fun i x y h _=>by simp at h) rfl (fun i x y h _=>by simp at h)

theorem z5t {tm:List Value} {a:Act} (hf:VRs ρ tm a.tmps.toList) (d:Option Tmp) {v v':Value} (hv:VR ρ v v'):VRs ρ (putT tm d v) (a.put d v').tmps.toList:=by
 cases d with
 | none=>exact hf
 | some d=>simp only [putT,Act.put,Array.toList_setIfInBounds];exact hf.set d hv

theorem zsr {ops:Array Oper} {tm:List Value} {tmps:Array Value} (hf:VRs ρ tm tmps.toList) {j d:Nat} {x1 x2 x3 x4 x5} (hj:ops.toList[j]? =some ⟨some d,x1,x2,x3,x4,x5⟩) {t:Bool}
  (ht:tm.getD d undef=.bool t):yielded ops tmps j=some t:=by
 have hv:=hf.getD d
 rw [ht] at hv
 have hj':ops[j]? =some ⟨some d,x1,x2,x3,x4,x5⟩:=by rw [←Array.getElem?_toList];exact hj
 unfold yielded
 rw [hj']
 simp only [Option.bind_some]
 rw [List.getD_eq_getElem?_getD] at hv
 cases hx:tmps[d]? with
 | none=>
  rw [Array.getElem?_toList,hx] at hv
  simp [undef] at hv
  cases hv
 | some x=>
  rw [Array.getElem?_toList,hx] at hv
  simp only [Option.getD_some] at hv
  cases hv;rfl

theorem zmd {ops:Array Oper} {tm:List Value} {tmps:Array Value} (hf:VRs ρ tm tmps.toList) {j d:Nat} {x1 x2 x3 x4 x5} (hj:ops.toList[j]? =some ⟨some d,x1,x2,x3,x4,x5⟩) {cs:Array Value}
  (ht:tm.getD d undef=.tuple cs):yielded ops tmps j=none:=by
 have hv:=hf.getD d
 rw [ht] at hv
 have hj':ops[j]? =some ⟨some d,x1,x2,x3,x4,x5⟩:=by rw [←Array.getElem?_toList];exact hj
 unfold yielded
 rw [hj']
 simp only [Option.bind_some]
 rw [List.getD_eq_getElem?_getD] at hv
 cases hx:tmps[d]? with
 | none=>rfl
 | some x=>
  rw [Array.getElem?_toList,hx] at hv
  simp only [Option.getD_some] at hv
  cases hv;rfl


def Nexts (C:Car P main) (Z:Zone) (ρ:Ren) (w:World) (K:Value→zn→Prop) (N:Zone→Value→World→Prop):Prop:=
 ∀v H',K v H'→∀Z' ρ' w' v',Zle Z' Z→ρ <+:ρ'→HR Z' ρ' H' w'→VR ρ' v v'→C.T Z w w'→N Z' v' w'

theorem zhi {b:Frame} {a:Act} {k:List Item} {cs:List Frame} {ops:Array Oper} {i:Nat} {rest:List Nat} {o:Oper} (ho:ops[i]? =some o) (hw:Region.wanted o (yielded ops a.tmps)=true) (hd:∀c,o.op≠.defer c):
  stepG P main (G (b.atR a (.inRegion ops (i::rest)::k)) cs) w=stepG.apply P true (b.atR a (.inRegion ops (i::rest)::k)) cs none (execOp a.eval o) w:=by
 have he:=Frame.eval_atR b a (.inRegion ops (i::rest)::k)
 have hop:stepG.oper P true (b.atR a (.inRegion ops (i::rest)::k)) cs none w=stepG.apply P true (b.atR a (.inRegion ops (i::rest)::k)) cs none (execOp a.eval o) w:=by
  unfold stepG.oper
  have:(b.atR a (.inRegion ops (i::rest)::k)).oper? =some o:=by simp [Frame.oper?,Frame.atR,ho]
  rw [this]
  simp only []
  split
  ·exact absurd ‹_› (hd _)
  ·rw [he]
 rw [←hop]
 simp only [Frame.atR] at *
 simp [G,stepG,stepG.exec,ho,hw]
theorem stepR_value {b:Frame} {a:Act} {k:List Item} {cs:List Frame} {ops:Array Oper} {i:Nat} {rest:List Nat} {o:Oper} {v:Value} {w':World} (ho:ops[i]? =some o) (hw:Region.wanted o (yielded ops a.tmps)=true) (hd:∀c,o.op≠.defer c)
  (hk:b.kind≠.early) (hr:(execOp a.eval o).run P w=.ok (.value v) w'∨((execOp a.eval o).run P w=.ok .skip w'∧v=undef)):
  stepG P main (G (b.atR a (.inRegion ops (i::rest)::k)) cs) w=.go (G (b.atR (a.put o.dst v) (.inRegion ops rest::k)) cs) w' (listed P b.fn a o w):=by
 have hfin:(b.atR a (.inRegion ops (i::rest)::k)).finish v=b.atR (a.put o.dst v) (.inRegion ops rest::k):=by rw [Frame.finish_atR,ho];rfl
 have hk':(b.kind==CallKind.early)=false:=by simpa using hk
 rw [zhi ho hw hd,←hfin]
 rcases hr with hr | ⟨hr,rfl⟩
 ·simp [stepG.apply,hr,G,Frame.atR,hk',GStep.after,listed]
 ·simp [stepG.apply,hr,G,Frame.atR,hk',GStep.after,listed]
theorem zfz {b:Frame} {a:Act} {k:List Item} {cs:List Frame} {ops:Array Oper} {i:Nat} {rest:List Nat} {o:Oper} (ho:ops[i]? =some o) (hw:Region.wanted o (yielded ops a.tmps)=false):
  stepG P main (G (b.atR a (.inRegion ops (i::rest)::k)) cs) w=.go (G (b.atR (a.put o.dst undef) (.inRegion ops rest::k)) cs) w:=by
 have hfin:(b.atR a (.inRegion ops (i::rest)::k)).finish undef=b.atR (a.put o.dst undef) (.inRegion ops rest::k):=by rw [Frame.finish_atR,ho];rfl
 rw [←hfin]
 simp [G,stepG,stepG.exec,Frame.atR,ho,hw]
theorem zf6 {b:Frame} {a:Act} {k:List Item} {cs:List Frame} {ops:Array Oper} {i:Nat} {rest:List Nat} {o:Oper} {g:Nat} {args:Array Value} (ho:ops[i]? =some o) (hw:Region.wanted o (yielded ops a.tmps)=true) (hd:∀c,o.op≠.defer c)
  (hk:b.kind≠.early) (hr:(execOp a.eval o).run P w=.ok (.enter g args) w) (he:(execOp a.eval o).events P w #[]=#[]):
  stepG P main (G (b.atR a (.inRegion ops (i::rest)::k)) cs) w=.go (G (Frame.enter P g args .normal) (b.atR a (.inRegion ops (i::rest)::k)::cs)) w:=by
 have hk':(b.kind==CallKind.early)=false:=by simpa using hk
 rw [zhi ho hw hd]
 simp [stepG.apply,hr,he,G,Frame.atR,hk',GStep.after,seen]

theorem HR.zone (h:HR Z ρ H w) {w':World} {ρ':Ren} {H':zn} (h':HR Z ρ' H' w'):Zle Z Z:=.refl Z

theorem NOut.car {b:Frame} {a:Act} {k:List Item} {cs:List Frame} {ops:Array Oper} {i:Nat} {rest:List Nat} {o:Oper} {K:Value→zn→Prop} (hr:HR Z ρ H w) (ho:ops[i]? =some o) (hw:Region.wanted o (yielded ops a.tmps)=true) (hd:∀c,o.op≠.defer c) (hk:b.kind≠.early)
  (h:∀w₁,HR Z ρ H w₁→NOut P Z ρ (execOp a.eval o) w₁ K)
  (hn:Nexts C Z ρ w K fun Z' v' w'=>C.Will Z' (G (b.atR (a.put o.dst v') (.inRegion ops rest::k)) cs) w'):C.Will Z (G (b.atR a (.inRegion ops (i::rest)::k)) cs) w:=by
 refine C.step fun w₁ h₁=>?_
 obtain ⟨v,H',hkv,v',w',ρ',h1,h2,h3,h4,h5,h6⟩:=h w₁ (C.keep h₁ hr)
 exact ⟨_,_,w',_,stepR_value ho hw hd hk h1,h5,fun e he=>h6 e (mem_listed he),hn v H' hkv Z ρ' w' v' (.refl Z) h2 h3 h4 (C.tT (C.rT h₁) (C.kT h5))⟩

theorem zl2 {o:Oper} {ev:Operand→Value} {K:Value→zn→Prop} (h:opK P env o ev H K):∀c,o.op≠.defer c:=by
 intro c hc
 unfold opK at h
 rw [hc] at h
 exact h

theorem zy5 (hX:X main C) {o:Oper} {a:Act} {ev:Operand→Value} {K:Value→zn→Prop} (hr:HR Z ρ H w) (hev:∀x ∈ o.op.operands,VR ρ (ev x) (a.eval x)) (henv:∀g,FnOkX P X g (env g)) (h:opK P env o ev H K)
  {b:Frame} {k:List Item} {cs:List Frame} {ops:Array Oper} {i:Nat} {rest:List Nat} (ho:ops[i]? =some o) (hw:Region.wanted o (yielded ops a.tmps)=true) (hk:b.kind≠.early)
  (hn:Nexts C Z ρ w K fun Z' v' w'=>C.Will Z' (G (b.atR (a.put o.dst v') (.inRegion ops rest::k)) cs) w'):C.Will Z (G (b.atR a (.inRegion ops (i::rest)::k)) cs) w:=by
 have hd:=zl2 h
 by_cases hc:∃f args ts,o.op=.call ⟨.value f,args,ts⟩
 ·obtain ⟨f,args,ts,hop⟩:=hc
  unfold opK at h
  simp only [hop] at h
  have hf:=hev f (by rw [hop];simp [Op.operands,Call.operands])
  split at h
  ·rename_i g first cap hfv
   rw [hfv] at hf
   generalize hq:a.eval f=q at hf
   cases hf with
   | func _ _ ys _ bs h1 h2 h3 h4=>
    have hargs:=VRs.evs (ρ:=ρ) (ev:=ev) (ev':=a.eval) args (fun x hx=>hev x (by rw [hop];simp [Op.operands,Call.operands,hx]))
    have hall:=((VRs.arr h1 h2).append hargs).append (VRs.arr h3 h4)
    refine (henv g).sound main C hX Z ρ H w _ _ K hr hall h b a k cs ops i rest o ho hw hk hd ?_ hn
    have e:(ys.toList++(args.map a.eval).toList++bs.toList).toArray=ys++args.map a.eval++bs:=by apply Array.ext';simp
    rw [e]
    unfold execOp
    simp only [hop,resolve,hq,Deferred.ofValue]
    rfl
  ·exact h.elim
 ·have hc':∀f args ts,o.op≠.call ⟨.value f,args,ts⟩:=fun f args ts e=>hc ⟨f,args,ts,e⟩
  exact NOut.car hr ho hw hd hk (fun w₁ hr₁=>zy6 hr₁ hev hc' h) hn

theorem zbw (hX:X main C) {ops:Array Oper} {i:Nat} {rest:List Nat} {o:Oper} {tm:List Value} {a:Act} {K:List Value→zn→Prop} (hr:HR Z ρ H w) (hf:VRs ρ tm a.tmps.toList) (hok:z6l o=true) (henv:∀g,FnOkX P X g (env g))
  (h:z5u P env ops.toList o tm H K) {b:Frame} {k:List Item} {cs:List Frame} (ho:ops[i]? =some o) (hk:b.kind≠.early)
  (hn:∀tm' H',K tm' H'→∀Z' ρ' w' a',Zle Z' Z→ρ <+:ρ'→HR Z' ρ' H' w'→VRs ρ' tm' a'.tmps.toList→a'.defers=a.defers→C.T Z w w'→C.Will Z' (G (b.atR a' (.inRegion ops rest::k)) cs) w'):
  C.Will Z (G (b.atR a (.inRegion ops (i::rest)::k)) cs) w:=by
 have hev:∀tm:List Value,VRs ρ tm a.tmps.toList→∀x ∈ o.op.operands,VR ρ (evT tm x) (a.eval x):=fun tm hf x hx=>zge hf (List.all_eq_true.1 hok x (by simpa using hx))
 have dput:∀d v,(a.put d v).defers=a.defers:=fun d v=>by cases d<;>rfl
 have go:∀tm:List Value,VRs ρ tm a.tmps.toList→Region.wanted o (yielded ops a.tmps)=true→(opS P env ops.toList o (evT tm) H fun v H'=>K (putT tm o.dst v) H')→C.Will Z (G (b.atR a (.inRegion ops (i::rest)::k)) cs) w:=fun tm hf hw h=>
  zy5 hX hr (hev tm hf) henv (z1c h).2 ho hw hk fun v H' hkv Z' ρ' w' v' h0 h1 h2 h3 h4=>hn _ H' hkv Z' ρ' w' _ h0 h1 h2 (z5t (hf.mono h1) o.dst h3) (dput _ _) h4
 have un:∀tm:List Value,VRs ρ tm a.tmps.toList→Region.wanted o (yielded ops a.tmps)=false→K (putT tm o.dst undef) H→C.Will Z (G (b.atR a (.inRegion ops (i::rest)::k)) cs) w:=fun tm hf hw h=>
  C.still (fun w₁=>zfz ho hw) (hn _ H h Z ρ w _ (.refl Z) (List.prefix_refl _) hr (z5t hf o.dst z7d) (dput _ _) (C.rT (C.refl Z w)))
 unfold z5u at h
 split at h
 ·rename_i hg
  exact go tm hf (by simp [Region.wanted,hg]) h
 ·rename_i j want hg
  split at h
  case h_2=>exact h.elim
  rename_i d x1 x2 x3 x4 x5 hj
  split at h
  case h_3=>exact h.elim
  case h_2=>
   rename_i cs ht
   have hy:=zmd hf hj ht
   have hw:Region.wanted o (yielded ops a.tmps)=false:=by simp [Region.wanted,hg,hy]
   exact un tm hf hw h
  rename_i t ht
  have hy:=zsr hf hj ht
  have hset:VRs ρ (tm.set d (.bool t)) a.tmps.toList:=by
   have:tm.set d (.bool t)=tm:=by
    apply List.ext_getElem?
    intro i
    rw [List.getElem?_set]
    split
    ·rename_i e;subst e
     split
     ·rename_i hlt
      rw [List.getD_eq_getElem?_getD,List.getElem?_eq_getElem hlt] at ht
      rw [List.getElem?_eq_getElem hlt];simpa using ht.symm
     ·rename_i hlt;rw [List.getElem?_eq_none (by omega)]
    ·rfl
   rw [this];exact hf
  have hw:Region.wanted o (yielded ops a.tmps)=(t==want):=by
   simp only [Region.wanted,hg,hy]
   cases t<;>cases want<;>rfl
  unfold zad at h
  cases t<;>cases want<;>simp only [cond_true,cond_false,Bool.not_false,Bool.not_true] at h
  ·exact go _ hset hw h
  ·exact un _ hset hw h
  ·exact un _ hset hw h
  ·exact go _ hset hw h

theorem z1w {b:Frame} {a:Act} {k:List Item} {cs:List Frame} {ops:Array Oper}:stepG P main (G (b.atR a (.inRegion ops []::k)) cs) w=.go (G (b.atR a k) cs) w:=by simp [G,stepG,stepG.exec,Frame.atR]

theorem z16i (hX:X main C) {ops:Array Oper} (henv:∀g,FnOkX P X g (env g)) (hok:ops.toList.all z6l=true) {b:Frame} {k:List Item} {cs:List Frame} (hk:b.kind≠.early):∀(l:List Nat) (Z:Zone) (ρ:Ren) (H:zn) (w:World) (tm:List Value) (a:Act) (K:List Value→zn→Prop),
  (∀i ∈ l,i<ops.size)→HR Z ρ H w→VRs ρ tm a.tmps.toList→seqK P env ops.toList (z1y ops.toList l) tm H K→
  (∀tm' H',K tm' H'→∀Z' ρ' w' a',Zle Z' Z→ρ <+:ρ'→HR Z' ρ' H' w'→VRs ρ' tm' a'.tmps.toList→a'.defers=a.defers→C.T Z w w'→C.Will Z' (G (b.atR a' k) cs) w')→C.Will Z (G (b.atR a (.inRegion ops l::k)) cs) w:=by
 intro l
 induction l with
 | nil=>
  intro Z ρ H w tm a K _ hr hf h hq
  exact C.still (fun w₁=>z1w) (hq tm H h Z ρ w a (.refl Z) (List.prefix_refl _) hr hf rfl (C.rT (C.refl Z w)))
 | cons i l ih=>
  intro Z ρ H w tm a K hl hr hf h hq
  have hi:i<ops.size:=hl i (by simp)
  have ho:ops[i]? =some ops[i]:=Array.getElem?_eq_getElem hi
  have e:z1y ops.toList (i::l)=ops[i]::z1y ops.toList l:=by
   have:ops.toList[i]? =some ops[i]:=by rw [Array.getElem?_toList];exact ho
   unfold z1y
   rw [List.filterMap_cons_some this]
  rw [e] at h
  refine zbw hX hr hf (List.all_eq_true.1 hok _ (List.mem_of_getElem? (by rw [Array.getElem?_toList];exact ho))) henv h ho hk fun tm' H' hk' Z' ρ' w' a' h0 h1 h2 h3 h4 h5=>?_
  exact ih Z' ρ' H' w' tm' a' K (fun j hj=>hl j (by simp [hj])) h2 h3 hk' fun tm'' H'' hk'' Z'' ρ'' w'' a'' g0 g1 g2 g3 g4 g5=>hq tm'' H'' hk'' Z'' ρ'' w'' a'' (g0.trans h0) (h1.trans g1) g2 g3 (g4.trans h4) (C.tT h5 (C.mT h0 g5))
end
end Go.Proofs.YthheoefadijhdaaGreat.Ai
set_option linter.unusedSimpArgs false
set_option linter.unusedVariables false
namespace Go.Proofs.YthheoefadijhdaaGreat.Ai
open Go Go.RowKit

def Det (f:(Value→Prop)→Prop):Prop:=∀K,f K→∃v,K v∧∀K2:Value→Prop,K2 v→f K2

theorem Det.pure (v:Value):Det fun K=>K v:=fun K h=>⟨v,h,fun _ h=>h⟩
theorem Det.fail:Det fun _=>False:=fun _ h=>h.elim
theorem Det.and {p:Prop} {f:(Value→Prop)→Prop} (hf:Det f):Det fun K=>p∧f K:=fun K h=>let ⟨v,h1,h2⟩:=hf K h.2;⟨v,h1,fun K2 k=>⟨h.1,h2 K2 k⟩⟩
theorem Det.chk {b:Bool} {f:(Value→Prop)→Prop} (hf:Det f):Det fun K=>Ai.chk b (f K):=fun K h=>by
 cases b
 ·exact h.elim
 ·exact hf K h
theorem Det.ex {α:Type} {p:α→Prop} {g:α→Value}:Det fun K=>∃x,p x∧K (g x):=fun K h=>let ⟨x,h1,h2⟩:=h;⟨g x,h2,fun K2 k=>⟨x,h1,k⟩⟩
theorem Det.ex22 {α β:Type} {p:α→β→Prop} {q:α→β→Prop} {g:α→β→Value}:Det fun K=>∃x y,p x y∧q x y∧K (g x y):=fun K h=>let ⟨x,y,h1,h2,h3⟩:=h;⟨g x y,h3,fun K2 k=>⟨x,y,h1,h2,k⟩⟩
theorem Det.mono {f:(Value→Prop)→Prop} (hf:Det f) {K K':Value→Prop} (h:∀v,K v→K' v) (hk:f K):f K':=let ⟨v,h1,h2⟩:=hf K hk;h2 K' (h v h1)

def Fun1 (f:(Value→Prop)→Prop):Prop:=∀K,f K→∃v,∀K2:Value→Prop,f K2↔K2 v
theorem Fun1.det {f:(Value→Prop)→Prop} (hf:Fun1 f):Det f:=fun K h=>let ⟨v,h1⟩:=hf K h;⟨v,(h1 K).1 h,fun K2 k=>(h1 K2).2 k⟩
theorem Fun1.pure (v:Value):Fun1 fun K=>K v:=fun K h=>⟨v,fun K2=>Iff.rfl⟩
theorem Fun1.fail:Fun1 fun _=>False:=fun _ h=>h.elim
theorem Fun1.and {p:Prop} {f:(Value→Prop)→Prop} (hf:Fun1 f):Fun1 fun K=>p∧f K:=fun K h=>let ⟨v,h1⟩:=hf K h.2;⟨v,fun K2=>⟨fun k=>(h1 K2).1 k.2,fun k=>⟨h.1,(h1 K2).2 k⟩⟩⟩
theorem Fun1.chk {b:Bool} {f:(Value→Prop)→Prop} (hf:Fun1 f):Fun1 fun K=>Ai.chk b (f K):=fun K h=>by
 cases b
 ·exact h.elim
 ·exact hf K h
theorem Fun1.bind {f:(Value→Prop)→Prop} {g:Value→(Value→Prop)→Prop} (hf:Fun1 f) (hg:∀v,Fun1 (g v)):Fun1 fun K=>f fun v=>g v K:=fun K h=>by
 obtain ⟨v,h1⟩:=hf _ h
 obtain ⟨u,g1⟩:=hg v K ((h1 _).1 h)
 exact ⟨u,fun K2=>(h1 _).trans (g1 K2)⟩

theorem zc1 {z:Value} {K K':Value→Prop} (h:∀v,K v→K' v) (hk:zfr z K):zfr z K':=by
 unfold zfr at hk ⊢
 split at hk
 ·obtain ⟨a,hk⟩:=hk;exact ⟨a,h _ hk⟩
 ·obtain ⟨a,hk⟩:=hk;exact ⟨a,h _ hk⟩
 ·obtain ⟨a,hk⟩:=hk;exact ⟨a,h _ hk⟩
 ·obtain ⟨a,b,hk⟩:=hk;exact ⟨a,b,h _ hk⟩
 ·obtain ⟨a,hk⟩:=hk;exact ⟨a,h _ hk⟩
 ·obtain ⟨a,hk⟩:=hk;exact ⟨a,h _ hk⟩
 ·obtain ⟨a,b,c,hk⟩:=hk;exact ⟨a,b,c,h _ hk⟩
 ·obtain ⟨a,hk⟩:=hk;exact ⟨a,h _ hk⟩
theorem zia {z:Value} {K:Value→Prop} (hk:zfr z K):∃v,K v∧∀K2:Value→Prop,K2 v→zfr z K2:=by
 unfold zfr at hk ⊢
 split at hk
 ·obtain ⟨a,hk⟩:=hk;exact ⟨_,hk,fun K2 k=>⟨a,k⟩⟩
 ·obtain ⟨a,hk⟩:=hk;exact ⟨_,hk,fun K2 k=>⟨a,k⟩⟩
 ·obtain ⟨a,hk⟩:=hk;exact ⟨_,hk,fun K2 k=>⟨a,k⟩⟩
 ·obtain ⟨a,b,hk⟩:=hk;exact ⟨_,hk,fun K2 k=>⟨a,b,k⟩⟩
 ·obtain ⟨a,hk⟩:=hk;exact ⟨_,hk,fun K2 k=>⟨a,k⟩⟩
 ·obtain ⟨a,hk⟩:=hk;exact ⟨_,hk,fun K2 k=>⟨a,k⟩⟩
 ·obtain ⟨a,b,c,hk⟩:=hk;exact ⟨_,hk,fun K2 k=>⟨a,b,c,k⟩⟩
 ·obtain ⟨a,hk⟩:=hk;exact ⟨_,hk,fun K2 k=>⟨a,k⟩⟩
theorem zkx {zs:List Value}:∀{K:List Value→Prop},ze5 zs K→∃l,K l∧∀K2:List Value→Prop,K2 l→ze5 zs K2:=by
 induction zs with
 | nil=>intro K h;exact ⟨[],h,fun K2 k=>k⟩
 | cons z zs ih=>
  intro K h
  obtain ⟨v,h1,h2⟩:=zia h
  obtain ⟨l,g1,g2⟩:=ih h1
  exact ⟨v::l,g1,fun K2 k=>h2 _ (g2 _ k)⟩

section
variable {P:Program} {H:zn} {env:Env} {X:Cls P}

theorem znb (op:BinOp) (k:IntKind) (x y:Int):Fun1 (zi6 op k x y):=by
 cases op<;>first | exact .pure _ | exact .fail | exact .and (.pure _)
theorem zi1 (op:BinOp) (k:FloatKind) (x y:Nat):Fun1 (zb8 op k x y):=by
 cases op<;>first | exact .pure _ | exact .fail
theorem z14o (op:BinOp) (t:TypeId) (x y:Value):Fun1 (binK P op t x y):=by
 unfold binK
 split
 ·split
  ·exact .and (.pure _)
  ·exact .and (.pure _)
  ·exact .chk (znb _ _ _ _)
 ·exact .chk (zi1 _ _ _ _)
 ·split
  ·exact .pure _
  ·exact .pure _
  ·exact .fail
 ·split
  ·exact .and (.pure _)
  ·exact .pure _
  ·exact .pure _
  ·exact .fail
 ·exact .fail
theorem z1ej (op:UnOp) (x:Value):Fun1 (unK op x):=by
 unfold unK
 split<;>first | exact .pure _ | exact .fail
theorem zju (s d:TypeId) (x:Value):Det (zvn P s d x H):=by
 unfold zvn
 split
 ·exact .pure _
 ·exact .pure _
 ·split
  ·exact .pure _
  ·exact .ex
  ·exact .pure _
  ·exact .pure _
 ·exact .ex
 ·exact .pure _
 ·exact .pure _
 ·exact .pure _
 ·exact .ex22
 ·exact .pure _
 ·split
  ·exact .ex
  ·exact .fail
 ·exact .fail
theorem zb5 (t:TypeId) (x:Value):Det (z8e P t x H):=by
 unfold z8e
 split
 ·split
  ·intro K h
   obtain ⟨l,h1,h2⟩:=zkx h
   exact ⟨_,h1.2,fun K2 k=>h2 _ ⟨h1.1,k⟩⟩
  ·intro K h
   obtain ⟨l,h1,h2⟩:=zia h
   exact ⟨_,h1.2,fun K2 k=>h2 _ ⟨h1.1,k⟩⟩
  ·exact .fail
 ·exact .fail
theorem zfm (s:TypeId) (x:Value) (f:Nat):Fun1 (z7l P s x f):=by
 unfold z7l
 split
 ·split
  ·split
   ·exact .pure _
   ·exact .fail
  ·exact .fail
 ·exact .fail
theorem zxj (t:TypeId) (cs:Array Value) (off:Nat):Fun1 (zyh P t cs off):=by
 unfold zyh
 split
 ·exact .pure _
 ·split
  ·exact .pure _
  ·exact .fail
 ·exact .fail
theorem zqw (s:TypeId) (x:Value) (f:Nat):Fun1 (zkb P s x f):=by
 unfold zkb
 split
 ·split
  ·exact zxj _ _ _
  ·exact .fail
 ·exact .fail
theorem zfn (t:TypeId) (x i:Value):Fun1 (z7n P t x i):=by
 unfold z7n
 split
 ·split
  ·exact .and (.and fun K h=>by
    obtain ⟨b,off,rfl,hk⟩:=h
    exact ⟨_,fun K2=>⟨fun ⟨b',off',e,k⟩=>by cases e;exact k,fun k=>⟨b,off,rfl,k⟩⟩⟩)
  ·exact .fail
 ·split
  ·exact .and (.and (.pure _))
  ·exact .fail
 ·exact .fail
theorem zqx (t:TypeId) (x i:Value):Fun1 (zkp P t x i):=by
 unfold zkp
 split
 ·intro K h;obtain ⟨c,h1,h2,h3⟩:=h;exact ⟨_,fun K2=>⟨fun ⟨c',_,e,k⟩=>by rw [h2] at e;cases e;exact k,fun k=>⟨c,h1,h2,k⟩⟩⟩
 ·exact .fail
theorem z9v (v:Option Value) (d:Int) {f:Int→(Value→Prop)→Prop} (hf:∀j,Fun1 (f j)):Fun1 fun K=>zcg v d fun j=>f j K:=by
 unfold zcg
 split
 ·exact hf _
 ·exact hf _
 ·exact .fail
theorem zqy (t:TypeId) (x:Value) (lo hi mx:Option Value):Fun1 (zm9 P t x lo hi mx):=by
 unfold zm9
 split
 ·split
  ·exact z9v _ _ fun l=>z9v _ _ fun h=>.and (.and (.and (.pure _)))
  ·exact .fail
 ·exact z9v _ _ fun l=>z9v _ _ fun h=>.and (.and (.and (.pure _)))
 ·exact .fail
theorem zqv (t:TypeId) (ps:List (Nat×Value)):Fun1 (zjn P t ps):=by
 unfold zjn
 split
 ·refine .chk ?_
  split
  ·exact .pure _
  ·exact .fail
 ·exact .fail
theorem z14p (t:TypeId) (x:Value):Fun1 (lenK P t x):=by
 unfold lenK
 split<;>first | exact .pure _ | exact .fail
theorem z4z (mx:Bool) (x y:Value):Fun1 (z7f mx x y):=by
 unfold z7f
 split
 ·exact .pure _
 ·exact .chk (.pure _)
 ·exact .fail
theorem Det.bind {f:(Value→Prop)→Prop} {g:Value→(Value→Prop)→Prop} (hf:Det f) (hg:∀v,Det (g v)):Det fun K=>f fun v=>g v K:=fun K h=>by
 obtain ⟨v,h1,h2⟩:=hf _ h
 obtain ⟨u,g1,g2⟩:=hg v K h1
 exact ⟨u,g1,fun K2 k=>h2 _ (g2 K2 k)⟩

inductive Touch where
 | free | quiet | loud
 deriving DecidableEq

def touch (q:Nat→Bool×Bool) (o:Oper):Touch:=
 match o.op with
 | .move _ | .assign _ | .pick .. | .build .. | .nilCheck _ | .binOp .. | .unOp .. | .makeFunc .. | .slice .. | .fieldAddr .. | .field .. | .indexAddr .. | .index .. | .extract ..=>.free
 | .load .. | .convert ..=>.quiet
 | .call c=>match c.callee with
  | .builtin .len | .builtin .min | .builtin .max | .builtin .real | .builtin .imag | .builtin .complex=>.free
  | .value (.func g)=>cond (q g).1 .quiet .loud
  | .value (.tmp _)=>cond (q zkz).2 .quiet .loud
  | _=>.loud
 | _=>.loud

theorem z6d (t:Bool) (F:Bool→Prop):zad t F↔F t:=by cases t<;>exact Iff.rfl

theorem zjp {b:Builtin} (hb:b=.len∨b=.min∨b=.max∨b=.real∨b=.imag∨b=.complex) {ts:Array TypeId} {args:List Value} {nl:Bool} {K:Value→zn→Prop} (h:z6r P nl b ts args H K):
  ∃v,∀(H2:zn) (K2:Value→zn→Prop),z6r P nl b ts args H2 K2↔K2 v H2:=by
 have det:∀(f:(Value→Prop)→Prop),Fun1 f→f (K · H)→∃v,∀(H2:zn) (K2:Value→zn→Prop),f (K2 · H2)↔K2 v H2:=fun f hf h=>
  let ⟨v,h1⟩:=hf _ h;⟨v,fun H2 K2=>h1 (K2 · H2)⟩
 unfold z6r at h ⊢
 split at h
 ·simp at hb
 ·simp at hb
 ·exact det _ (z14p _ _) h
 ·exact det _ (z4z _ _ _) h
 ·exact det _ (z4z _ _ _) h
 ·exact det _ ((z4z _ _ _).bind fun v=>z4z _ _ _) h
 ·exact det _ ((z4z _ _ _).bind fun v=>z4z _ _ _) h
 ·exact ⟨_,fun _ _=>Iff.rfl⟩
 ·exact ⟨_,fun _ _=>Iff.rfl⟩
 ·exact det _ (.chk (.pure _)) h
 ·exact h.elim

theorem zbd {q:Nat→Bool×Bool} {o:Oper} (ht:touch q o=.free) {ev:Operand→Value} {K:Value→zn→Prop} (h:opK P env o ev H K):
  ∃v,∀(H2:zn) (K2:Value→zn→Prop),opK P env o ev H2 K2↔K2 v H2:=by
 have det:∀(f:(Value→Prop)→Prop),Fun1 f→f (K · H)→∃v,∀(H2:zn) (K2:Value→zn→Prop),f (K2 · H2)↔K2 v H2:=fun f hf h=>
  let ⟨v,h1⟩:=hf _ h;⟨v,fun H2 K2=>h1 (K2 · H2)⟩
 unfold touch at ht
 unfold opK at h ⊢
 split at ht<;>(try cases ht)<;>(rename_i hop;simp only [hop] at h ⊢)
 ·exact ⟨_,fun _ _=>Iff.rfl⟩
 ·exact ⟨_,fun _ _=>Iff.rfl⟩
 ·unfold zae at *
  split at h
  ·rename_i t ht
   rw [z6d] at h
   exact ⟨_,fun H2 K2=>z6d t _⟩
  ·exact h.elim
 ·exact det _ (zqv _ _) h
 ·split at h
  ·exact ⟨_,fun _ _=>Iff.rfl⟩
  ·exact ⟨_,fun _ _=>Iff.rfl⟩
  ·exact h.elim
 ·exact det _ (z14o _ _ _ _) h
 ·exact det _ (z1ej _ _) h
 ·exact ⟨_,fun _ _=>Iff.rfl⟩
 ·exact det _ (zqy _ _ _ _ _) h
 ·exact det _ (zfm _ _ _) h
 ·exact det _ (zqw _ _ _) h
 ·exact det _ (zfn _ _ _) h
 ·exact det _ (zqx _ _ _) h
 ·split at h
  ·split at h
   ·exact ⟨_,fun _ _=>Iff.rfl⟩
   ·exact h.elim
  ·exact h.elim
 ·rename_i c
  obtain ⟨callee,args,argTypes⟩:=c
  cases callee with
  | invoke r m=>simp at ht
  | value f=>
   cases f with
   | func g=>simp only at ht;cases hq:(q g).1<;>rw [hq] at ht<;>cases ht
   | tmp g=>simp only at ht;cases hq:(q zkz).2<;>rw [hq] at ht<;>cases ht
   | _=>simp at ht
  | builtin b=>
   have hb:b=.len∨b=.min∨b=.max∨b=.real∨b=.imag∨b=.complex:=by
    cases b<;>simp at ht<;>simp
   simp only [] at h ⊢
   exact zjp hb h
theorem zec {o:Oper} (henv:∀g,FnOkX P X g (env g)) (ht:touch (fun g=>((env g).quiet,(env g).tame)) o≠.loud) {tm:List Value} (hv:zf9 env o (evT tm)=true) {K:Value→zn→Prop} (h:opK P env o (evT tm) H K):
  ∃v,K v H∧∀(K2:Value→zn→Prop),K2 v H→opK P env o (evT tm) H K2:=by
 cases hf:touch (fun g=>((env g).quiet,(env g).tame)) o with
 | loud=>exact absurd hf ht
 | free=>obtain ⟨v,h1⟩:=zbd hf h;exact ⟨v,(h1 H K).1 h,fun K2 k=>(h1 H K2).2 k⟩
 | quiet=>
  have det:∀(f:(Value→Prop)→Prop),Det f→f (K · H)→∃v,K v H∧∀(K2:Value→zn→Prop),K2 v H→f (K2 · H):=fun f hf h=>
   let ⟨v,h1,h2⟩:=hf _ h;⟨v,h1,fun K2 k=>h2 (K2 · H) k⟩
  unfold touch at hf
  unfold opK at h ⊢
  split at hf<;>(try cases hf)<;>(rename_i hop;simp only [hop] at h ⊢)
  ·exact det _ (zb5 _ _) h
  ·exact det _ (zju _ _ _) h
  ·rename_i c
   obtain ⟨callee,args,argTypes⟩:=c
   cases callee with
   | invoke r m=>simp at hf
   | builtin b=>cases b<;>simp at hf
   | value f=>
    cases f with
    | func g=>
     simp only at hf
     cases hq:(env g).quiet with
     | false=>rw [hq] at hf;cases hf
     | true=>
      exact (henv g).quiet hq _ _ _ h
    | tmp t=>
     simp only at hf
     cases hq:(env zkz).tame with
     | false=>rw [hq] at hf;cases hf
     | true=>
      simp only [zf9,hop,hq,cond_true] at hv
      dsimp only at h hv ⊢
      generalize evT tm (.tmp t)=q at h hv ⊢
      cases q with
      | func f first cap=>cases f with
       | func g=>exact (henv g).quiet hv _ _ _ h
       | _=>exact h.elim
      | _=>exact h.elim
    | _=>simp at hf

theorem zri {f:(Value→zn→Prop)→Prop} {K K':Value→zn→Prop} (hf:∀K,f K→∃v H',K v H'∧∀K2:Value→zn→Prop,K2 v H'→f K2) (h:∀v H',K v H'→K' v H') (hk:f K):f K':=
 let ⟨v,H',h1,h2⟩:=hf K hk;h2 K' (h v H' h1)

theorem z1a8 {o:Oper} {ev:Operand→Value} (hc:∀f args ts,o.op≠.call ⟨.value f,args,ts⟩) {K:Value→zn→Prop} (h:opK P env o ev H K):
  ∃v H',K v H'∧∀K2:Value→zn→Prop,K2 v H'→opK P env o ev H K2:=by
 cases hf:touch (fun _=>(false,false)) o with
 | free=>obtain ⟨v,h1⟩:=zbd hf h;exact ⟨v,H,(h1 H K).1 h,fun K2 k=>(h1 H K2).2 k⟩
 | quiet=>
  have det:∀(f:(Value→Prop)→Prop),Det f→f (K · H)→∃v H',K v H'∧∀(K2:Value→zn→Prop),K2 v H'→f (K2 · H):=fun f hf h=>
   let ⟨v,h1,h2⟩:=hf _ h;⟨v,H,h1,fun K2 k=>h2 (K2 · H) k⟩
  unfold touch at hf
  unfold opK at h ⊢
  split at hf<;>(try cases hf)<;>(rename_i hop;simp only [hop] at h ⊢)
  ·exact det _ (zb5 _ _) h
  ·exact det _ (zju _ _ _) h
  ·rename_i c
   obtain ⟨callee,args,argTypes⟩:=c
   cases callee with
   | invoke r m=>simp at hf
   | builtin b=>cases b<;>simp at hf
   | value f=>exact absurd hop (hc _ _ _)
 | loud=>
  have new:∀cells,newK cells H K→∃v H',K v H'∧∀K2:Value→zn→Prop,K2 v H'→newK cells H K2:=by
   intro cells h
   unfold newK at h ⊢
   obtain ⟨hb,h⟩:=z1c h
   rw [hb]
   exact ⟨_,_,h,fun K2 k=>k⟩
  unfold opK at h ⊢
  obtain ⟨dst,op,type,pos,after,guard⟩:=o
  cases op<;>simp only [touch] at hf<;>(try (cases hf;done))<;>simp only [] at h ⊢
  case alloc e=>
   split at h
   ·obtain ⟨hb,h⟩:=z1c h
    obtain ⟨v,H',h1,h2⟩:=new _ h
    exact ⟨v,H',h1,fun K2 k=>by rw [hb];exact h2 K2 k⟩
   ·exact h.elim
  case box e x=>exact new _ h
  case buildSlice t n ps=>
   unfold z2g at h ⊢
   split at h
   ·split at h
    ·obtain ⟨hb,h⟩:=z1c h
     rw [hb]
     split at h
     ·rename_i hfill
      obtain ⟨hb2,h⟩:=z1c h
      exact ⟨_,_,h,fun K2 k=>by simp only [chk,cond_true,hb2];exact k⟩
     ·exact h.elim
    ·exact h.elim
   ·exact h.elim
  case store t x y=>
   unfold zcp at h ⊢
   split at h
   ·split at h
    ·obtain ⟨hb,h1,h2,h⟩:=z1c h
     exact ⟨_,_,h,fun K2 k=>by rw [hb];exact ⟨h1,h2,k⟩⟩
    ·exact h.elim
   ·exact h.elim
  case makeSlice t n c=>
   unfold z3b at h ⊢
   split at h
   ·split at h
    ·obtain ⟨hb,h1,h2,h3,h⟩:=z1c h
     exact ⟨_,_,h,fun K2 k=>by rw [hb];exact ⟨h1,h2,h3,k⟩⟩
    ·exact h.elim
   ·exact h.elim
  case call c=>
   obtain ⟨callee,args,argTypes⟩:=c
   cases callee with
   | invoke r m=>exact h.elim
   | value f=>exact absurd rfl (hc _ _ _)
   | builtin b=>
    simp only [] at h ⊢
    unfold z6r at h ⊢
    split at h
    ·obtain ⟨hb,h⟩:=z1c h
     rw [hb]
     have app:∀{t:TypeId} {s x:Value} {K:Value→zn→Prop},z7x P t s x H K→∃v H',K v H'∧∀K2:Value→zn→Prop,K2 v H'→z7x P t s x H K2:=by
      intro t s x K h
      unfold z7x at h ⊢
      split at h
      ·split at h
       ·obtain ⟨hb2,old,new,h1,h2,h3,h4,h⟩:=z1c h
        exact ⟨_,_,h,fun K2 k=>by simp only [chk,cond_true,hb2];exact ⟨old,new,h1,h2,h3,h4,k⟩⟩
       ·exact h.elim
      ·exact h.elim
     cases hnl:(env 999997).tame with
     | false=>
      rw [hnl] at h
      obtain ⟨v,H',h1,h2⟩:=app h
      exact ⟨v,H',h1,fun K2 k=>h2 K2 k⟩
     | true=>
      rw [hnl] at h
      rcases h with h | h
      ·refine ⟨.slice none 0 0,H,?_,fun K2 k=>.inl ?_⟩
       ·unfold ze9 at h
        split at h
        ·revert h
         cases (z5m P _).isSome with
         | true=>exact id
         | false=>exact fun h=>h.elim
        ·exact h.elim
       ·unfold ze9 at h ⊢
        split at h
        ·revert h
         cases (z5m P _).isSome with
         | true=>exact fun _=>k
         | false=>exact fun h=>h.elim
        ·exact h.elim
      ·obtain ⟨v,H',h1,h2⟩:=app h
       exact ⟨v,H',h1,fun K2 k=>.inr (h2 K2 k)⟩
    ·unfold copyK at h ⊢
     split at h
     ·split at h
      ·obtain ⟨new,h1,b,off,h2,h3,h4,h⟩:=h
       exact ⟨_,_,h,fun K2 k=>⟨new,h1,b,off,h2,h3,h4,k⟩⟩
      ·exact h.elim
     ·exact h.elim
    ·simp at hf
    ·simp at hf
    ·simp at hf
    ·simp at hf
    ·simp at hf
    ·simp at hf
    ·simp at hf
    ·simp at hf
    ·exact h.elim

theorem zbe {o:Oper} {ev:Operand→Value} (henv:∀g,FnOkX P X g (env g)) {K K':Value→zn→Prop} (h:∀v H',K v H'→K' v H') (hk:opK P env o ev H K):opK P env o ev H K':=by
 by_cases hc:∃f args ts,o.op=.call ⟨.value f,args,ts⟩
 ·obtain ⟨f,args,ts,hop⟩:=hc
  unfold opK at hk ⊢
  simp only [hop] at hk ⊢
  split at hk
  ·exact (henv _).mono _ _ _ _ h hk
  ·exact hk.elim
 ·exact zri (fun K=>z1a8 fun f args ts e=>hc ⟨f,args,ts,e⟩) h hk

theorem zpg {o:Oper} {ev:Operand→Value} (henv:∀g,FnOkX P X g (env g)) {K:Value→zn→Prop} (hk:opK P env o ev H K):∃v H',K v H':=by
 by_cases hc:∃f args ts,o.op=.call ⟨.value f,args,ts⟩
 ·obtain ⟨f,args,ts,hop⟩:=hc
  unfold opK at hk
  simp only [hop] at hk
  split at hk
  ·exact (henv _).live _ _ _ hk
  ·exact hk.elim
 ·obtain ⟨v,H',h1,h2⟩:=z1a8 (fun f args ts e=>hc ⟨f,args,ts,e⟩) hk
  exact ⟨v,H',h1⟩

theorem zeb {o:Oper} {ev ev':Operand→Value} (h:∀x ∈ o.op.operands,ev x=ev' x) (K:Value→zn→Prop):opK P env o ev H K=opK P env o ev' H K:=by
 obtain ⟨dst,op,type,pos,after,guard⟩:=o
 have mp:∀xs:Array Operand,(∀x ∈ xs,ev x=ev' x)→xs.toList.map ev=xs.toList.map ev':=fun xs hx=>List.map_congr_left fun x h=>hx x (by simpa using h)
 have pm:∀ps:Array (Nat×Operand),(∀x ∈ (ps.toList.map (·.2)).toArray,ev x=ev' x)→(ps.toList.map fun (i,x)=>(i,ev x))=ps.toList.map fun (i,x)=>(i,ev' x):=fun ps hx=>
  List.map_congr_left fun p hp=>by
   obtain ⟨i,x⟩:=p
   simp only [hx x (by simpa using ⟨i,by simpa using hp⟩)]
 cases op<;>simp only [Op.operands] at h<;>simp only [opK]
 case build t ps=>rw [pm ps h]
 case buildSlice t n ps=>rw [pm ps h]
 case makeFunc fn first cap=>
  rw [mp first fun x hx=>h x (by simp [hx]),mp cap fun x hx=>h x (by simp [hx])]
 case slice t x lo hi mx=>
  have hx:=h x (by simp)
  cases lo<;>cases hi<;>cases mx<;>simp_all
 case call c=>
  obtain ⟨callee,args,argTypes⟩:=c
  have ha:=mp args fun x hx=>h x (by simp [Call.operands,hx])
  cases callee with
  | invoke r m=>rfl
  | value f=>
   have hf:=h f (by simp [Call.operands])
   simp only [hf,ha]
  | builtin b=>simp only [ha]
 all_goals (simp at h;simp_all)
theorem znh {ops:List Oper} {o:Oper} {ev ev':Operand→Value} (h:∀x ∈ o.op.operands,ev x=ev' x):zib ops o ev=zib ops o ev':=by
 obtain ⟨dst,op,type,pos,after,guard⟩:=o
 cases op<;>try rfl
 rename_i c
 obtain ⟨callee,args,argTypes⟩:=c
 cases callee with
 | invoke r m=>rfl
 | value f=>rfl
 | builtin b=>
  cases b<;>try rfl
  simp only [zib]
  cases ha:args.toList with
  | nil=>rfl
  | cons x l=>
   have:ev x=ev' x:=h x (by have q:x ∈ args:=(by rw [←Array.mem_toList_iff,ha];simp);simp only [Op.operands,Call.operands];simp [q])
   simp only [this]
theorem zny {o:Oper} {ev ev':Operand→Value} (h:∀x ∈ o.op.operands,ev x=ev' x):zf9 env o ev=zf9 env o ev':=by
 obtain ⟨dst,op,type,pos,after,guard⟩:=o
 cases op<;>try rfl
 rename_i c
 obtain ⟨callee,args,argTypes⟩:=c
 cases callee with
 | invoke r m=>rfl
 | builtin b=>rfl
 | value f=>
  cases f<;>try rfl
  rename_i t
  simp only [zf9]
  rw [h (.tmp t) (by simp [Op.operands,Call.operands])]
theorem zl4 {ops:List Oper} {o:Oper} {ev ev':Operand→Value} (h:∀x ∈ o.op.operands,ev x=ev' x) (K:Value→zn→Prop):opS P env ops o ev H K=opS P env ops o ev' H K:=by
 unfold opS
 rw [zeb h,znh h,zny h]
theorem zd1 {ops:List Oper} {o:Oper} {ev:Operand→Value} (henv:∀g,FnOkX P X g (env g)) {K K':Value→zn→Prop} (h:∀v H',K v H'→K' v H') (hk:opS P env ops o ev H K):opS P env ops o ev H K':=by
 obtain ⟨h1,h2⟩:=z1c hk
 unfold opS
 rw [h1]
 exact zbe henv h h2
theorem zii {ops:List Oper} {o:Oper} {ev:Operand→Value} (henv:∀g,FnOkX P X g (env g)) {K:Value→zn→Prop} (hk:opS P env ops o ev H K):∃v H',K v H':=zpg henv (z1c hk).2
end
end Go.Proofs.YthheoefadijhdaaGreat.Ai
set_option linter.unusedSimpArgs false
set_option linter.unusedVariables false
namespace Go.Proofs.YthheoefadijhdaaGreat.Ai
open Go Go.RowKit

def zcv (ops:List Oper) (o:Oper) (tm:List Value):Option Bool:=
 match o.guard with
 | none=>some true
 | some (j,w)=>
  match ops[j]? with
  | some ⟨some d,_,_,_,_,_⟩=>
   match tm.getD d undef with
   | .bool t=>some (t==w)
   | .tuple _=>some false
   | _=>none
  | _=>none

section
variable {P:Program} {env:Env} {X:Cls P}

theorem z16k {tm:List Value} {d:Nat} {t:Bool} (ht:tm.getD d undef=.bool t):tm.set d (.bool t)=tm:=by
 apply List.ext_getElem?
 intro i
 rw [List.getElem?_set]
 split
 ·rename_i e;subst e
  split
  ·rename_i hlt
   rw [List.getD_eq_getElem?_getD,List.getElem?_eq_getElem hlt] at ht
   rw [List.getElem?_eq_getElem hlt];simpa using ht.symm
  ·rename_i hlt;rw [List.getElem?_eq_none (by omega)]
 ·rfl

theorem z7t (ops:List Oper) (o:Oper) (tm:List Value) (H:zn) (K:List Value→zn→Prop):
  z5u P env ops o tm H K↔match zcv ops o tm with
   | some true=>opS P env ops o (evT tm) H fun v H'=>K (putT tm o.dst v) H'
   | some false=>K (putT tm o.dst undef) H
   | none=>False:=by
 unfold z5u zcv
 cases o.guard with
 | none=>exact Iff.rfl
 | some g=>
  obtain ⟨j,w⟩:=g
  simp only []
  cases hj:ops[j]? with
  | none=>exact Iff.rfl
  | some oj=>
   obtain ⟨dst,x1,x2,x3,x4,x5⟩:=oj
   cases dst with
   | none=>exact Iff.rfl
   | some d=>
    simp only []
    generalize hv:tm.getD d undef=v
    cases v<;>try exact Iff.rfl
    rename_i t
    simp only [z6d,z16k hv]
    cases t<;>cases w<;>exact Iff.rfl

def zz8 (q:Nat→Bool×Bool) (o:Oper):Bool:=
 match o.op with
 | .alloc _ | .box .. | .buildSlice .. | .makeSlice ..=>true
 | .call c=>match c.callee with
  | .value (.func g)=>(q g).2
  | .value (.tmp _)=>cond (q zkz).2 false (q markT).2
  | _=>false
 | _=>false
def com (q:Nat→Bool×Bool) (ops:List Oper) (x y:Oper):Bool:=
 x.apart ops.toArray y && (decide (touch q x=.free) || decide (touch q y=.free) || (!decide (touch q x=.loud) && !decide (touch q y=.loud)) || (zkq x && (zz8 q y || zpc ops y)))

theorem zdy {tm:List Value} {d:Option Tmp} {v:Value} {t:Nat} (h:∀x,d=some x→x≠t):(putT tm d v).getD t undef=tm.getD t undef:=by
 cases d with
 | none=>rfl
 | some d=>simp only [putT,List.getD_eq_getElem?_getD,List.getElem?_set_ne (h d rfl)]

theorem zcx {o:Oper} {tm:List Value} {d:Option Tmp} {v:Value} {ops:Array Oper} (h:∀x,d=some x→x ∉ o.looksAt ops):∀x ∈ o.op.operands,evT (putT tm d v) x=evT tm x:=by
 intro x hx
 cases x with
 | tmp t=>
  refine zdy fun y hy e=>h y hy ?_
  subst e
  exact List.mem_append_left _ (List.mem_filterMap.2 ⟨.tmp y,by simpa using hx,rfl⟩)
 | _=>rfl

theorem zhk {o:Oper} {tm:List Value} {d:Option Tmp} {v:Value} {ops:List Oper} (h:∀x,d=some x→x ∉ o.looksAt ops.toArray):zcv ops o (putT tm d v)=zcv ops o tm:=by
 unfold zcv
 cases hg:o.guard with
 | none=>rfl
 | some g=>
  obtain ⟨j,w⟩:=g
  simp only []
  cases hj:ops[j]? with
  | none=>rfl
  | some oj=>
   obtain ⟨dst,x1,x2,x3,x4,x5⟩:=oj
   cases dst with
   | none=>rfl
   | some t=>
    simp only []
    rw [zdy fun x hx e=>h x hx (by subst e;simp [Oper.looksAt,hg,hj])]

theorem zlx (tm:List Value) {d e:Option Tmp} (h:∀x,d=some x→e≠some x) (v u:Value):putT (putT tm d v) e u=putT (putT tm e u) d v:=by
 cases d with
 | none=>rfl
 | some d=>
  cases e with
  | none=>rfl
  | some e=>
   have:d≠e:=fun hd=>h d rfl (by rw [hd])
   simp only [putT]
   exact List.set_comm _ _ this

theorem zhh {ops:List Oper} {o:Oper} {tm:List Value} {H:zn} (henv:∀g,FnOkX P X g (env g)) {K K':List Value→zn→Prop} (h:∀tm' H',K tm' H'→K' tm' H') (hk:z5u P env ops o tm H K):
  z5u P env ops o tm H K':=by
 rw [z7t] at hk ⊢
 split at hk
 ·exact zd1 henv (fun v H'=>h _ _) hk
 ·exact h _ _ hk
 ·exact hk.elim
theorem zyy {ops l:List Oper} (henv:∀g,FnOkX P X g (env g)) {K K':List Value→zn→Prop} (h:∀tm' H',K tm' H'→K' tm' H'):∀{tm:List Value} {H:zn},seqK P env ops l tm H K→seqK P env ops l tm H K':=by
 induction l with
 | nil=>intro tm H hk;exact h _ _ hk
 | cons o l ih=>intro tm H hk;exact zhh henv (fun tm' H'=>ih) hk

theorem zi2 (H:zn) (x:Option Blk):Grow H (H++[x]):=⟨by simp,fun b hb=>List.getElem?_append_left hb⟩
theorem zp9 {H H':zn} (g:Grow H H') {b:Nat} {l:List Value} (h:rdB H b=some l):rdB H' b=some l:=by
 unfold rdB at *
 split at h
 ·rename_i blk hb
  rw [g.2 b (List.getElem?_eq_some_iff.1 hb).1,hb];exact h
 ·cases h
theorem z14z {H H':zn} (g:Grow H H') {b i:Nat} {v:Value} (h:rdC H b i=some v):rdC H' b i=some v:=by
 unfold rdC at *
 obtain ⟨cs,h1,h2⟩:=Option.bind_eq_some_iff.1 h
 rw [zp9 g h1];exact h2
theorem z15a {H H':zn} (g:Grow H H') {b i n:Nat} {v:List Value} (h:rdN H b i n=some v):rdN H' b i n=some v:=by
 unfold rdN at *
 obtain ⟨cs,h1,h2⟩:=Option.bind_eq_some_iff.1 h
 rw [zp9 g h1];exact h2
theorem zaj:∀{z:List Value} {K K':List Value→Prop},(∀v,K v→K' v)→ze5 z K→ze5 z K'
 | [],_,_,h,hk=>h _ hk
 | _::_,_,_,h,hk=>zc1 (fun _ k=>zaj (fun _ k2=>h _ k2) k) hk
theorem zrg {t:TypeId} {x:Value} {H H':zn} (g:Grow H H') {K:Value→Prop} (h:z8e P t x H K):z8e P t x H' K:=by
 unfold z8e at *
 split at h
 ·split at h
  ·exact zaj (fun l k=>⟨z15a g k.1,k.2⟩) h
  ·exact zc1 (fun l k=>⟨z14z g k.1,k.2⟩) h
  ·exact h.elim
 ·exact h.elim
theorem z15n (henv:∀g,FnOkX P X g (env g)) {o:Oper} (ht:zz8 (fun g=>((env g).quiet,(env g).tame)) o=true) {tm:List Value} (hv:zf9 env o (evT tm)=true) {H:zn} {K:Value→zn→Prop} (h:opK P env o (evT tm) H K):
  opK P env o (evT tm) H fun v H'=>Grow H H'∧K v H':=by
 have new:∀cells,newK cells H K→newK cells H fun v H'=>Grow H H'∧K v H':=by
  intro cells hk
  unfold newK chk at *
  cases hc:cells.all isCell with
  | true=>rw [hc] at hk;exact ⟨zi2 H _,hk⟩
  | false=>rw [hc] at hk;exact hk.elim
 unfold zz8 at ht
 unfold opK at h ⊢
 split at ht<;>(try cases ht)<;>(rename_i hop;simp only [hop] at h ⊢)
 ·split at h
  ·rename_i z hz
   unfold chk at *
   cases hc:z.cells.toList.all z3u with
   | true=>rw [hc] at h;exact new _ h
   | false=>rw [hc] at h;exact h.elim
  ·exact h.elim
 ·exact new _ h
 ·unfold z2g at *
  split at h
  ·split at h
   ·unfold chk at *
    split at h
    ·rename_i c1 cells hf
     revert h
     cases hb:(Nat.ble _ 1024 && _ && _:Bool) with
     | true=> 
      simp only [cond_true]
      cases hc:cells.toList.all isCell with
      | true=>intro h;exact ⟨zi2 H _,h⟩
      | false=>intro h;exact h.elim
     | false=>intro h;exact h.elim
    ·revert h
     cases hb:(Nat.ble _ 1024 && _ && _:Bool) with
     | true=>intro h;exact h.elim
     | false=>intro h;exact h.elim
   ·exact h.elim
  ·exact h.elim
 ·unfold z3b at *
  split at h
  ·split at h
   ·unfold chk at *
    revert h
    cases hb:(Nat.ble _ 1024 && _ && _:Bool) with
    | true=>intro h;exact ⟨h.1,h.2.1,h.2.2.1,zi2 H _,h.2.2.2⟩
    | false=>intro h;exact h.elim
   ·exact h.elim
  ·exact h.elim
 ·rename_i c
  obtain ⟨callee,args,argTypes⟩:=c
  cases callee with
  | value f=>cases f with
   | func g=>exact (henv g).tame ht _ _ _ h
   | tmp t=>
    dsimp only at ht
    cases hm:(env zkz).tame with
    | true=>rw [hm] at ht;cases ht
    | false=>
     rw [hm] at ht
     cases ht2:(env markT).tame with
     | false=>rw [ht2] at ht;cases ht
     | true=>
      simp only [zf9,hop,hm,ht2,cond_true,cond_false] at hv
      dsimp only at h hv ⊢
      generalize evT tm (.tmp t)=q at h hv ⊢
      cases q with
      | func f first cap=>cases f with
       | func g=>exact (henv g).tame hv _ _ _ h
       | _=>exact h.elim
      | _=>exact h.elim
   | _=>cases ht
  | _=>cases ht

def Used (H H':zn):Prop:=∀b c l,rdB H b=some (c::l)→rdB H' b=some (c::l)
theorem zrh {t:TypeId} {x:Value} {H H':zn} (g:Used H H') {K:Value→Prop} (h:z8e P t x H K):z8e P t x H' K:=by
 have hb:∀{b:Nat} {cs:List Value},rdB H b=some cs→0<cs.length→rdB H' b=some cs:=fun {b cs} h1 h2=>by
  cases cs with
  | nil=>exact absurd h2 (by simp)
  | cons c l=>exact g b c l h1
 unfold z8e at *
 split at h
 ·split at h
  ·refine zaj (fun l k=>⟨?_,k.2⟩) h
   have k1:=k.1
   unfold rdN at k1 ⊢
   obtain ⟨cs,e1,e2⟩:=Option.bind_eq_some_iff.1 k1
   have hlt:0<cs.length:=by
    split at e2
    ·omega
    ·cases e2
   rw [hb e1 hlt];exact e2
  ·refine zc1 (fun l k=>⟨?_,k.2⟩) h
   have k1:=k.1
   unfold rdC at k1 ⊢
   obtain ⟨cs,e1,e2⟩:=Option.bind_eq_some_iff.1 k1
   have hlt:0<cs.length:=by have:=(List.getElem?_eq_some_iff.1 e2).1;omega
   rw [hb e1 hlt];exact e2
  ·exact h.elim
 ·exact h.elim
theorem z1ez {ops:List Oper} {o:Oper} {ev:Operand→Value} (ht:zpc ops o=true) (hz:zib ops o ev=true) {H:zn} {K:Value→zn→Prop} (h:opK P env o ev H K):
  opK P env o ev H fun v H'=>Used H H'∧K v H':=by
 obtain ⟨dst,op,type,pos,after,guard⟩:=o
 cases op<;>simp only [zpc] at ht<;>(try (cases ht;done))
 rename_i c
 obtain ⟨callee,args,argTypes⟩:=c
 simp only [zib] at hz
 simp only [opK] at h ⊢
 cases callee with
 | invoke r m=>cases ht
 | value f=>cases ht
 | builtin b=>
  cases b<;>(try (cases ht;done))
  cases ha:args.toList with
  | nil=>rw [ha] at ht;cases ht
  | cons x l=>
   rw [ha] at ht hz
   simp only [] at ht hz
   rw [ht] at hz
   simp only [cond_true] at hz
   simp only [ha,List.map_cons,z6r] at h ⊢
   split at h
   ·rename_i t t' s y hb hts heq
    obtain ⟨hc,h⟩:=z1c h
    rw [hc]
    simp only [chk,cond_true]
    have app:z7x P t s y H K→z7x P t s y H fun v H'=>Used H H'∧K v H':=by
     intro h
     unfold z7x at h ⊢
     split at h
     ·rename_i e a n c a' m cm_ hu h9_ h10_
      split at h
      ·obtain ⟨hc2,old,new,h1,h2,h3,h4,h⟩:=z1c h
       simp only [chk,hc2,cond_true]
       refine ⟨old,new,h1,h2,h3,h4,?_,h⟩
       have hn:n=0:=by
        have:ev x=.slice a n c:=by simp at heq;exact heq.1
        rw [this] at hz
        exact Nat.eq_of_beq_eq_true hz
       subst hn
       intro b c0 l0 hb
       cases a with
       | none=>
        simp only [z2s]
        unfold rdB at hb ⊢
        split at hb
        ·rename_i blk hbb
         rw [List.getElem?_append_left (List.getElem?_eq_some_iff.1 hbb).1,hbb];exact hb
        ·cases hb
       | some ad=>
        obtain ⟨b1,off,spot⟩:=ad
        have hne:b1≠b:=by
         intro e;subst e
         cases spot with
         | some _=>simp [ownB] at h1
         | none=>
          simp only [ownB] at h1
          split at h1
          ·rename_i blk hbb
           split at h1
           ·rename_i hc3
            unfold rdB at hb
            rw [hbb] at hb
            have h7:=hc3.2.2.1
            simp only [Option.some.injEq] at hb
            rw [hb] at h7
            simp at h7
           ·cases h1
          ·cases h1
        simp only [z2s]
        unfold rdB at hb ⊢
        split at hb
        ·rename_i blk hbb
         have hlt:=(List.getElem?_eq_some_iff.1 hbb).1
         rw [List.getElem?_append_left (by simpa using hlt),List.getElem?_set_ne hne,hbb];exact hb
        ·cases hb
      ·exact h.elim
     ·exact h.elim
    revert h
    cases (env 999997).tame with
    | false=>exact app
    | true=>
     rintro (h | h)
     ·refine .inl ?_
      unfold ze9 at h ⊢
      split at h
      ·revert h
       cases (z5m P _).isSome with
       | true=>exact fun h=>⟨fun b c l hb=>hb,h⟩
       | false=>exact fun h=>h.elim
      ·exact h.elim
     ·exact .inr (app h)
   all_goals first | (cases ‹Builtin.append=_›;done) | (exfalso;simp_all;done) | exact h.elim

theorem swap {ops:List Oper} {x y:Oper} (henv:∀g,FnOkX P X g (env g)) (hc:com (fun g=>((env g).quiet,(env g).tame)) ops x y=true) {tm:List Value} {H:zn} {K:List Value→zn→Prop}
  (h:z5u P env ops x tm H fun tm1 H1=>z5u P env ops y tm1 H1 K):z5u P env ops y tm H fun tm2 H2=>z5u P env ops x tm2 H2 K:=by
 simp only [com,Bool.and_eq_true,Bool.or_eq_true,decide_eq_true_eq,Bool.not_eq_true',decide_eq_false_iff_not] at hc
 obtain ⟨hap,ht⟩:=hc
 obtain ⟨a1,a2,a3⟩:=Oper.apart_spec hap
 -- y behind x's result, and x behind y's
 have yx:∀v H' K,z5u P env ops y (putT tm x.dst v) H' K↔match zcv ops y tm with
   | some true=>opS P env ops y (evT tm) H' fun u H'=>K (putT (putT tm x.dst v) y.dst u) H'
   | some false=>K (putT (putT tm x.dst v) y.dst undef) H'
   | none=>False:=by
  intro v H' K
  rw [z7t,zhk a1]
  cases zcv ops y tm with
  | none=>exact Iff.rfl
  | some b=>exact (match b with
   | false=>Iff.rfl
   | true=>(by simp only [];rw [zl4 (zcx a1)]))
 have xy:∀v H' K,z5u P env ops x (putT tm y.dst v) H' K↔match zcv ops x tm with
   | some true=>opS P env ops x (evT tm) H' fun u H'=>K (putT (putT tm y.dst v) x.dst u) H'
   | some false=>K (putT (putT tm y.dst v) x.dst undef) H'
   | none=>False:=by
  intro v H' K
  rw [z7t,zhk a3]
  cases zcv ops x tm with
  | none=>exact Iff.rfl
  | some b=>exact (match b with
   | false=>Iff.rfl
   | true=>(by simp only [];rw [zl4 (zcx a3)]))
 have pc:=fun v u=>zlx tm a2 v u
 rw [z7t] at h ⊢
 simp only [yx] at h
 simp only [xy]
 cases hx:zcv ops x tm with
 | none=>rw [hx] at h;exact h.elim
 | some bx=>
  rw [hx] at h
  cases bx with
  | false=>
   simp only [] at h ⊢
   cases hy:zcv ops y tm with
   | none=>rw [hy] at h;exact h.elim
   | some by_=>
    rw [hy] at h
    cases by_ with
    | false=>simp only [] at h ⊢;rw [←pc];exact h
    | true=>
     simp only [] at h ⊢
     exact zd1 henv (fun v H' k=>by rw [←pc];exact k) h
  | true=>
   simp only [] at h ⊢
   cases hy:zcv ops y tm with
   | none=>
    rw [hy] at h
    obtain ⟨v,H',hf⟩:=zii henv h
    exact hf.elim
   | some by_=>
    rw [hy] at h
    cases by_ with
    | false=>
     simp only [] at h ⊢
     exact zd1 henv (fun v H' k=>by rw [←pc];exact k) h
    | true=>
     simp only [] at h ⊢
     obtain ⟨lx,h⟩:=z1c h
     obtain ⟨v0,H0,h0⟩:=zpg henv h
     obtain ⟨ly,h0⟩:=z1c h0
     unfold opS at h ⊢
     simp only [ly,lx,chk,cond_true] at h ⊢
     have vx:=(Bool.and_eq_true_iff.1 lx).2
     have vy:=(Bool.and_eq_true_iff.1 ly).2
     have ly:=(Bool.and_eq_true_iff.1 ly).1
     rcases ht with ((ht | ht) | ⟨ht1,ht2⟩) | ⟨ht1,ht2⟩
     ·-- x has nothing to do with memory
      obtain ⟨v,h2⟩:=zbd ht h
      exact zbe henv (fun u H' k=>(h2 H' _).2 (by rw [←pc];exact k)) ((h2 H _).1 h)
     ·-- y has nothing to do with memory
      obtain ⟨u,h2⟩:=zbd ht h0
      exact (h2 H _).2 (zbe henv (fun v H' k=>by rw [←pc];exact (h2 H' _).1 k) h)
     ·obtain ⟨v,h1,h2⟩:=zec henv ht1 vx h
      obtain ⟨u,g1,g2⟩:=zec henv ht2 vy h1
      exact g2 _ (h2 _ (by rw [←pc];exact g1))
     ·-- x loads, y makes new blocks, or uses up an empty one
      have hl:touch (fun g=>((env g).quiet,(env g).tame)) x≠.loud:=by
       unfold zkq at ht1;unfold touch
       split at ht1
       ·rename_i hop;rw [hop];simp
       ·cases ht1
      obtain ⟨v,h1,h2⟩:=zec henv hl vx h
      rcases ht2 with ht2 | ht2
      ·refine zbe henv (fun u H' k=>?_) (z15n henv ht2 vy h1)
       obtain ⟨g,k⟩:=k
       have h3:=h2 (fun v' _=>K (putT (putT tm y.dst u) x.dst v') H') (by rw [←pc];exact k)
       unfold zkq at ht1
       split at ht1
       ·rename_i hop
        unfold opK at h3 ⊢
        simp only [hop] at h3 ⊢
        exact zrg g h3
       ·cases ht1
      ·refine zbe henv (fun u H' k=>?_) (z1ez ht2 ly h1)
       obtain ⟨g,k⟩:=k
       have h3:=h2 (fun v' _=>K (putT (putT tm y.dst u) x.dst v') H') (by rw [←pc];exact k)
       unfold zkq at ht1
       split at ht1
       ·rename_i hop
        unfold opK at h3 ⊢
        simp only [hop] at h3 ⊢
        exact zrh g h3
       ·cases ht1
end
end Go.Proofs.YthheoefadijhdaaGreat.Ai
set_option linter.unusedSimpArgs false
set_option linter.unusedVariables false
namespace Go.Proofs.YthheoefadijhdaaGreat.Ai
open Go Go.RowKit Go.Conc


def zdk (e:Edge) (m:Nat→Nat) (j:Nat):Bool:=Region.binds .any e && (Nat.beq e.on j || (m e.on).testBit j)
def z4q (ops:List Oper) (m:Nat→Nat):Bool:=
 (List.range ops.length).all fun i=>match ops[i]? with
  | some o=>(List.range ops.length).all fun j=>!((m i).testBit j) || o.after.toList.any fun e=>zdk e m j
  | none=>true
def z4c (ops:List Oper):Bool:=
 (List.range ops.length).all fun i=>match ops[i]? with
  | some o=>o.after.toList.all fun e=>!(Region.binds .any e) || Nat.blt e.on i
  | none=>true
def zik (q:Nat→Bool×Bool) (ops:List Oper) (m:Nat→Nat) (pre:List Nat):List Nat→Bool
 | []=>true
 | i::r=>!(pre.any fun j=>Nat.beq j i) && (match ops[i]? with
  | some o=>pre.all fun j=>match ops[j]? with
   | some o'=>(m i).testBit j || com q ops o' o
   | none=>true
  | none=>true) && zik q ops m (i::pre) r
def force {α:Type} (n:Nat) (f:Nat→α):α:=
 match n with
 | 0=>f 0
 | k+1=>f (k+1)
def z1ki (ms:List Nat) (o:Oper):Nat:=o.after.toList.foldl (fun s e=>cond (Region.binds .any e) (s ||| 2 ^ e.on ||| ms.getD e.on 0) s) 0
def z7o (ms:List Nat):List Oper→(List Nat→Bool)→Bool
 | [],k=>k ms
 | o::r,k=>force (z1ki ms o) fun n=>z7o (ms++[n]) r k
def z19r (q:Nat→Bool×Bool) (ops:List Oper):Bool:=z7o [] ops fun ms=>z4q ops (fun i=>ms.getD i 0) && z4c ops && Nat.ble (z1l ops).length ops.length && (z1l ops).all (Nat.blt · ops.length) && ((List.range ops.length).all fun i=>(z1l ops).any fun j=>Nat.beq j i) && zik q ops (fun i=>ms.getD i 0) [] (z1l ops)

theorem z7e {k:List Nat→Bool}:∀{l:List Oper} {ms:List Nat},z7o ms l k=true→∃ms',k ms'=true:=by
 intro l
 induction l with
 | nil=>intro ms h;exact ⟨ms,h⟩
 | cons o l ih=>
  intro ms h
  unfold z7o force at h
  split at h
  ·exact ih h
  ·exact ih h
structure PiOk (q:Nat→Bool×Bool) (ops:List Oper) (m:Nat→Nat) (π:List Nat):Prop where
 len:π.length≤ops.length
 lt:∀i ∈ π,i<ops.length
 mem:∀i,i<ops.length→i ∈ π
 split:∀L i R,π=L++i::R→i ∉ L∧i ∉ R∧∀j ∈ L,∀o o',ops[i]? =some o→ops[j]? =some o'→(m i).testBit j=false→com q ops o' o=true
theorem zcm {q:Nat→Bool×Bool} {ops:List Oper} {m:Nat→Nat}:∀{l pre:List Nat},zik q ops m pre l=true→∀L i R,l=L++i::R→(∀j,j ∈ pre∨j ∈ L→j≠i)∧
  ∀j,j ∈ pre∨j ∈ L→∀o o',ops[i]? =some o→ops[j]? =some o'→(m i).testBit j=false→com q ops o' o=true:=by
 intro l
 induction l with
 | nil=>intro pre _ L i R h;cases L<;>cases h
 | cons k l ih=>
  intro pre h L i R e
  simp only [zik,Bool.and_eq_true,Bool.not_eq_true'] at h
  obtain ⟨⟨h1,h2⟩,h3⟩:=h
  cases L with
  | nil=>
   simp only [List.nil_append,List.cons.injEq] at e
   obtain ⟨rfl,rfl⟩:=e
   refine ⟨fun j hj hji=>?_,fun j hj o o' ho ho' hb=>?_⟩
   ·subst hji
    rcases hj with hj | hj
    ·have:=List.any_eq_false.1 h1 j hj
     rw [Nat.beq_refl] at this;exact this rfl
    ·cases hj
   ·rcases hj with hj | hj
    ·simp only [ho] at h2
     have:=List.all_eq_true.1 h2 j hj
     simp only [ho',hb,Bool.false_or] at this
     exact this
    ·cases hj
  | cons k' L=>
   simp only [List.cons_append,List.cons.injEq] at e
   obtain ⟨rfl,rfl⟩:=e
   obtain ⟨g1,g2⟩:=ih h3 L i R rfl
   have conv:∀j,(j ∈ pre∨j ∈ k::L)→(j ∈ k::pre∨j ∈ L):=by
    intro j hj
    rcases hj with hj | hj
    ·exact .inl (List.mem_cons_of_mem _ hj)
    ·rcases List.mem_cons.1 hj with rfl | hj
     ·exact .inl List.mem_cons_self
     ·exact .inr hj
   exact ⟨fun j hj=>g1 j (conv j hj),fun j hj=>g2 j (conv j hj)⟩
theorem zms {q:Nat→Bool×Bool} {ops:List Oper} (h:z19r q ops=true):∃m:Nat→Nat,z4q ops m=true∧z4c ops=true∧PiOk q ops m (z1l ops):=by
 obtain ⟨ms,h⟩:=z7e h
 simp only [Bool.and_eq_true] at h
 obtain ⟨⟨⟨⟨⟨h1,h2⟩,h0⟩,h3⟩,h4⟩,h5⟩:=h
 refine ⟨_,h1,h2,⟨Nat.le_of_ble_eq_true h0,fun i hi=>Nat.le_of_ble_eq_true (List.all_eq_true.1 h3 i hi),fun i hi=>?_,fun L i R e=>?_⟩⟩
 ·obtain ⟨j,hj,hb⟩:=List.any_eq_true.1 (List.all_eq_true.1 h4 i (List.mem_range.2 hi))
  rw [←Nat.eq_of_beq_eq_true hb];exact hj
 ·obtain ⟨g1,g2⟩:=zcm h5 L i R e
  refine ⟨fun hi=>g1 i (.inr hi) rfl,fun hi=>?_,fun j hj=>g2 j (.inr hj)⟩
  obtain ⟨R1,R2,rfl⟩:=List.append_of_mem hi
  have:=(zcm h5 (L++i::R1) i R2 (by rw [e];simp)).1 i (.inr (by simp))
  exact this rfl

section
variable {P:Program} {env:Env} {X:Cls P} {main:Bool} {C:Car P main}

def rem (π:List Nat) (listed:Array Bool):List Nat:=π.filter fun i=>!listed.getD i true

def zaw (m:Nat→Nat) (listed:Array Bool):Prop:=∀i,listed.getD i true=true→i<listed.size→∀j,(m i).testBit j=true→j<listed.size→listed.getD j true=true

theorem pull {ops:List Oper} {y:Oper} (henv:∀g,FnOkX P X g (env g)):∀(R1 R2:List Oper),(∀x ∈ R1,com (fun g=>((env g).quiet,(env g).tame)) ops x y=true)→∀{tm:List Value} {H:zn} {K:List Value→zn→Prop},
  seqK P env ops (R1++y::R2) tm H K→z5u P env ops y tm H fun tm' H'=>seqK P env ops (R1++R2) tm' H' K:=by
 intro R1
 induction R1 with
 | nil=>intro R2 _ tm H K h;exact h
 | cons x R1 ih=>
  intro R2 hc tm H K h
  have h1:z5u P env ops x tm H fun tm' H'=>z5u P env ops y tm' H' fun tm'' H''=>seqK P env ops (R1++R2) tm'' H'' K:=
   zhh henv (fun tm' H' k=>ih R2 (fun z hz=>hc z (List.mem_cons_of_mem _ hz)) k) h
  exact swap henv (hc x List.mem_cons_self) h1

theorem zdv {q:Nat→Bool×Bool} {ops:List Oper} {m:Nat→Nat} {π:List Nat} (hπ:PiOk q ops m π) {i:Nat} {o:Oper} (p:Nat→Bool) (hi:i<ops.length) (hp:p i=true) (ho:ops[i]? =some o):
  ∃R1 R2,z1y ops (π.filter p)=R1++o::R2∧(∀x ∈ R1,∃j,j<ops.length∧p j=true∧ops[j]? =some x∧((m i).testBit j=false→com q ops x o=true))∧
   z1y ops (π.filter fun j=>p j && !(Nat.beq j i))=R1++R2:=by
 obtain ⟨L,R,e⟩:=List.append_of_mem (hπ.mem i hi)
 obtain ⟨n1,n2,hc⟩:=hπ.split L i R e
 refine ⟨z1y ops (L.filter p),z1y ops (R.filter p),?_,?_,?_⟩
 ·rw [e,List.filter_append,List.filter_cons_of_pos hp]
  simp [z1y,List.filterMap_append,List.filterMap_cons,ho]
 ·intro x hx
  obtain ⟨j,hj,hx⟩:=List.mem_filterMap.1 hx
  obtain ⟨h1,h2⟩:=List.mem_filter.1 hj
  exact ⟨j,hπ.lt j (by rw [e];simp [h1]),h2,hx,fun hb=>hc j h1 o x ho hx hb⟩
 ·rw [e,List.filter_append]
  have hpi:¬((p i && !(Nat.beq i i))=true):=by rw [Nat.beq_refl];simp
  rw [List.filter_cons_of_neg (p:=fun j=>p j && !(Nat.beq j i)) hpi]
  have ne:∀l:List Nat,i ∉ l→l.filter (fun j=>p j && !(Nat.beq j i))=l.filter p:=by
   intro l hl
   apply List.filter_congr
   intro j hj
   have hb:Nat.beq j i=false:=by
    cases hbq:Nat.beq j i with
    | false=>rfl
    | true=>have:=Nat.eq_of_beq_eq_true hbq;subst this;exact absurd hj hl
   rw [hb];simp
  rw [ne L n1,ne R n2]
  simp [z1y,List.filterMap_append]

theorem z12g (hX:X main C) {ops:Array Oper} (henv:∀g,FnOkX P X g (env g)) {m:Nat→Nat} (hm:z4q ops.toList m=true) (hed:z4c ops.toList=true) {π:List Nat} (hπ:PiOk (fun g=>((env g).quiet,(env g).tame)) ops.toList m π) (hok:ops.toList.all z6l=true)
  {b:Frame} {k:List Item} {cs:List Frame} (hkd:b.kind≠.early):∀(fuel t:Nat) (listed:Array Bool) (Z:Zone) (ρ:Ren) (H:zn) (w:World) (tm:List Value) (a:Act) (K:List Value→zn→Prop),
  listed.size=ops.size→zaw m listed→(rem π listed).length≤fuel→HR Z ρ H w→VRs ρ tm a.tmps.toList→seqK P env ops.toList (z1y ops.toList (rem π listed)) tm H K→
  (∀tm' H',K tm' H'→∀Z' ρ' w' a',Zle Z' Z→ρ <+:ρ'→HR Z' ρ' H' w'→VRs ρ' tm' a'.tmps.toList→a'.defers=a.defers→C.T Z w w'→C.Will Z' (G (b.atR a' k) cs) w')→
  C.Will Z (G (b.atR a (.inRegion ops (Region.linearise.go .any ops fuel t listed [])::k)) cs) w:=by
 have hlt:∀i o,ops.toList[i]? =some o→∀e ∈ o.after,Region.binds .any e=true→e.on<i:=by
  intro i o ho e he hb
  have h1:=List.all_eq_true.1 hed i (List.mem_range.2 (List.getElem?_eq_some_iff.1 ho).1)
  simp only [ho] at h1
  have h2:=List.all_eq_true.1 h1 e (by simpa using he)
  rw [hb] at h2
  simp only [Bool.not_true,Bool.false_or] at h2
  exact Nat.le_of_ble_eq_true h2
 have hanc:∀i j o,ops.toList[i]? =some o→j<ops.size→(m i).testBit j=true→∃e ∈ o.after,Region.binds .any e=true∧(e.on=j∨(m e.on).testBit j=true):=by
  intro i j o ho hj hb
  have h1:=List.all_eq_true.1 hm i (List.mem_range.2 (List.getElem?_eq_some_iff.1 ho).1)
  simp only [ho] at h1
  have h2:=List.all_eq_true.1 h1 j (List.mem_range.2 (by simpa using hj))
  rw [hb] at h2
  simp only [Bool.not_true,Bool.false_or] at h2
  obtain ⟨e,he,hd⟩:=List.any_eq_true.1 h2
  simp only [zdk,Bool.and_eq_true,Bool.or_eq_true] at hd
  exact ⟨e,by simpa using he,hd.1,hd.2.imp Nat.eq_of_beq_eq_true id⟩
 have final:∀(listed:Array Bool) (Z:Zone) (ρ:Ren) (H:zn) (w:World) (tm:List Value) (a:Act) (K:List Value→zn→Prop),listed.size=ops.size→rem π listed=[]→HR Z ρ H w→VRs ρ tm a.tmps.toList→
   seqK P env ops.toList (z1y ops.toList (rem π listed)) tm H K→
   (∀tm' H',K tm' H'→∀Z' ρ' w' a',Zle Z' Z→ρ <+:ρ'→HR Z' ρ' H' w'→VRs ρ' tm' a'.tmps.toList→a'.defers=a.defers→C.T Z w w'→C.Will Z' (G (b.atR a' k) cs) w')→C.Will Z (G (b.atR a (.inRegion ops []::k)) cs) w:=by
  intro listed Z ρ H w tm a K hs hrem hr hf hk hq
  rw [hrem] at hk
  exact C.still (fun w₁=>z1w) (hq tm H hk Z ρ w a (.refl Z) (List.prefix_refl _) hr hf rfl (C.rT (C.refl Z w)))
 have stuck:∀(listed:Array Bool),listed.size=ops.size→Region.ready .any ops listed=[]→rem π listed=[]:=by
  intro listed hs hready
  apply Classical.byContradiction
  intro hne
  -- the least number that has not come up
  have hex:∃i,i<ops.size∧listed.getD i true=false:=by
   obtain ⟨i,hi⟩:=List.exists_mem_of_ne_nil _ hne
   obtain ⟨h1,h2⟩:=List.mem_filter.1 hi
   exact ⟨i,by simpa using hπ.lt i h1,by simpa using h2⟩
  have hmin:∃i,(i<ops.size∧listed.getD i true=false)∧∀j,j<i→¬(j<ops.size∧listed.getD j true=false):=by
   obtain ⟨i,hi⟩:=hex
   induction i using Nat.strongRecOn with
   | _ i ih=>
    by_cases h:∃j,j<i∧(j<ops.size∧listed.getD j true=false)
    ·obtain ⟨j,hj,h2⟩:=h;exact ih j hj h2
    ·exact ⟨i,hi,fun j hj h2=>h ⟨j,hj,h2⟩⟩
  obtain ⟨i,⟨hi,hun⟩,hleast⟩:=hmin
  have ho:ops[i]? =some ops[i]:=Array.getElem?_eq_getElem hi
  have:i ∈ Region.ready .any ops listed:=by
   rw [mem_ready]
   refine ⟨hun,ops[i],ho,fun e he hb=>?_⟩
   have hl:=hlt i ops[i] (by rw [Array.getElem?_toList];exact ho) e he hb
   have h3:=hleast e.on hl
   have hsz:e.on<ops.size:=by omega
   cases hv:listed.getD e.on true with
   | true=>
    rw [Array.getD_eq_getD_getElem?] at hv ⊢
    rw [Array.getElem?_eq_getElem (by omega)] at hv ⊢
    simpa using hv
   | false=>exact absurd ⟨hsz,hv⟩ h3
  rw [hready] at this
  cases this
 intro fuel
 induction fuel with
 | zero=>
  intro t listed Z ρ H w tm a K hs hcl hfu hr hf hk hq
  have hrem:rem π listed=[]:=List.length_eq_zero_iff.1 (by omega)
  simp only [Region.linearise.go,List.reverse_nil]
  exact final listed Z ρ H w tm a K hs hrem hr hf hk hq
 | succ fuel ih=>
  intro t listed Z ρ H w tm a K hs hcl hfu hr hf hk hq
  simp only [Region.linearise.go]
  change C.Will Z (G (b.atR a (.inRegion ops (match (Region.ready .any ops listed)[t % (Region.ready .any ops listed).length]? with
   | some i=>Region.linearise.go .any ops fuel (t / (Region.ready .any ops listed).length) (listed.setIfInBounds i true) [i]
   | none=>[].reverse)::k)) cs) w
  cases hsel:(Region.ready .any ops listed)[t % (Region.ready .any ops listed).length]? with
  | none=>
   have hnil:Region.ready .any ops listed=[]:=by
    cases hrd:Region.ready .any ops listed with
    | nil=>rfl
    | cons x xs=>
     rw [hrd] at hsel
     have hlt':t % (x::xs).length<(x::xs).length:=Nat.mod_lt _ (by simp)
     simp at hsel
     simp at hlt'
     omega
   simp only [List.reverse_nil]
   exact final listed Z ρ H w tm a K hs (stuck listed hs hnil) hr hf hk hq
  | some i=>
  simp only []
  rw [linearise_go_acc,List.reverse_singleton,List.singleton_append]
  have hi:i ∈ Region.ready .any ops listed:=List.mem_of_getElem? hsel
  obtain ⟨h0,o,ho,hall⟩:=mem_ready.1 hi
  have hil:i<ops.size:=(Array.getElem?_eq_some_iff.1 ho).1
  have ho':ops.toList[i]? =some o:=by rw [Array.getElem?_toList];exact ho
  obtain ⟨R1,R2,e1,e2,e3⟩:=zdv hπ (i:=i) (o:=o) (fun j=>!listed.getD j true) (by simpa using hil) (by simp only [h0];rfl) ho'
  have hlisted:∀j,j<ops.size→(m i).testBit j=true→listed.getD j true=true:=by
   intro j hj hb
   obtain ⟨e,he,hbe,hor⟩:=hanc i j o ho' hj hb
   have hle:=hall e he hbe
   have hlt':=hlt i o ho' e he hbe
   have hle':listed.getD e.on true=true:=by
    rw [Array.getD_eq_getD_getElem?] at hle ⊢
    rw [Array.getElem?_eq_getElem (by omega)] at hle ⊢
    simpa using hle
   rcases hor with rfl | hb2
   ·exact hle'
   ·exact hcl e.on hle' (by omega) j hb2 (by omega)
  have hk2:seqK P env ops.toList (R1++o::R2) tm H K:=by rw [←e1];exact hk
  have hstep:=pull henv R1 R2 (fun x hx=>by
   obtain ⟨j,hj,hun,hxj,hcm⟩:=e2 x hx
   refine hcm ?_
   cases hb:(m i).testBit j with
   | false=>rfl
   | true=>have:=hlisted j (by simpa using hj) hb;simp [this] at hun) hk2
  have hopok:z6l o=true:=List.all_eq_true.1 hok o (List.mem_of_getElem? ho')
  -- what is left
  have hrem':∀listed',listed'=listed.setIfInBounds i true→rem π listed'=π.filter fun j=>!listed.getD j true && !(Nat.beq j i):=by
   rintro _ rfl
   unfold rem
   apply List.filter_congr
   intro j hj
   by_cases hji:j=i
   ·subst hji
    rw [Nat.beq_refl]
    simp [hs,hil]
   ·have hb:Nat.beq j i=false:=by cases hbq:Nat.beq j i;rfl;exact absurd (Nat.eq_of_beq_eq_true hbq) hji
    rw [getD_set_ne true (Ne.symm hji),hb];simp
  have hnext:∀tm' H',seqK P env ops.toList (R1++R2) tm' H' K→∀Z' ρ' w' a',Zle Z' Z→ρ <+:ρ'→HR Z' ρ' H' w'→VRs ρ' tm' a'.tmps.toList→a'.defers=a.defers→C.T Z w w'→
    C.Will Z' (G (b.atR a' (.inRegion ops (Region.linearise.go .any ops fuel (t / (Region.ready .any ops listed).length) (listed.setIfInBounds i true) [])::k)) cs) w':=by
   intro tm' H' hk' Z' ρ' w' a' g0 g1 g2 g3 g4 g5
   refine ih _ (listed.setIfInBounds i true) Z' ρ' H' w' tm' a' K (by simpa using hs) ?_ ?_ g2 g3 ?_ fun tm'' H'' hk'' Z'' ρ'' w'' a'' q0 q1 q2 q3 q4 q5=>hq tm'' H'' hk'' Z'' ρ'' w'' a'' (q0.trans g0) (g1.trans q1) q2 q3 (q4.trans g4) (C.tT g5 (C.mT g0 q5))
   ·intro k hk1 hk2 j hb hj
    simp only [Array.size_setIfInBounds] at hk2 hj
    by_cases hkj:j=i
    ·subst hkj;simp [hs,hil]
    ·rw [getD_set_ne true (Ne.symm hkj)]
     by_cases hki:k=i
     ·subst hki;exact hlisted j (by omega) hb
     ·rw [getD_set_ne true (Ne.symm hki)] at hk1
      exact hcl k hk1 hk2 j hb hj
   ·rw [hrem' _ rfl]
    have hlen:(π.filter fun j=>!listed.getD j true && !(Nat.beq j i)).length<(rem π listed).length:=by
     have h1:i ∈ rem π listed:=List.mem_filter.2 ⟨hπ.mem i (by simpa using hil),by simp [h0]⟩
     have h2:(π.filter fun j=>!listed.getD j true && !(Nat.beq j i))=(rem π listed).filter fun j=>!(Nat.beq j i):=by
      unfold rem;rw [List.filter_filter];congr 1;funext j;exact Bool.and_comm _ _
     rw [h2]
     exact List.length_filter_lt_length_iff_exists.2 ⟨i,h1,by rw [Nat.beq_refl];simp⟩
    omega
   ·rw [hrem' _ rfl,e3];exact hk'
  exact zbw hX hr hf hopok henv hstep ho hkd hnext
end
end Go.Proofs.YthheoefadijhdaaGreat.Ai
