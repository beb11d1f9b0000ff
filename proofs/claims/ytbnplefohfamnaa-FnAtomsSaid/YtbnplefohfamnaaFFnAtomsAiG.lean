/- The abstract machine and the world: conversions, copies, and any operation of a region. -/
import Derived.Test.YtbnplefohfamnaaFFnAtomsAiE
set_option linter.unusedSimpArgs false
set_option linter.unusedVariables false
namespace Go.Proofs.Ytbnplefohfamnaa.Ai
open Go Go.RowKit

section
variable {P:Program} {ρ:Ren} {w:World} {B0:Nat} {H:zd}

theorem zh1 {s d:TypeId} {us:TypeDesc} (hs:P.underlying s=some us) (hd:P.underlying d=some (.float .f64)) (b:Nat) (w:World):
  ∃r w',(convert s d (.float .f32 b)).run P w=.ok (.float .f64 r) w'∧cn .f64 r=zh (cn .f32 b)∧Drew w w':=by
 obtain ⟨r,w',h1,h2,h3⟩:=zh8 (P:=P) b w
 exact ⟨r,w',by cases us<;>simp [convert,run_underlying hs,run_underlying hd,h1],h2,h3⟩
theorem zd5 {s d:TypeId} {us:TypeDesc} (hs:P.underlying s=some us) (hd:P.underlying d=some (.float .f32)) (b r:Nat) (hr:zl (cn .f64 b)=some r) (w:World):
  ∃r' w',(convert s d (.float .f64 b)).run P w=.ok (.float .f32 r') w'∧r=cn .f32 r'∧Drew w w':=by
 obtain ⟨r',w',h1,h2,h3⟩:=zai (P:=P) b r w hr
 exact ⟨r',w',by cases us<;>simp [convert,run_underlying hs,run_underlying hd,h1],h2,h3⟩

theorem zr9 (l:List UInt8):∀(s:ByteArray),(l.map fun c=>(c.toNat:Int)).foldl (fun r n=>r.push (UInt8.ofNat n.toNat)) s=⟨s.data++l.toArray⟩:=by
 induction l with
 | nil=>intro s;simp
 | cons c l ih=>
  intro s
  rw [List.map_cons,List.foldl_cons,ih]
  congr 1
  apply Array.ext'
  simp [ByteArray.push]

theorem zuh {src dst:TypeId} {x x':Value} {K:Value→Prop} (hr:HR B0 ρ H w) (h:zug P src dst x H K) (hx:VR ρ x x'):VOut P ρ (convert src dst x') w K:=by
 unfold zug at h
 split at h
 ·rename_i u k k' n hs hd
  cases hx
  exact .plain h (by cases u<;>simp [convert,run_underlying hs,run_underlying hd,Conv.intToInt]) (.int _ _)
 ·rename_i u k k' n hs hd
  cases hx
  exact .plain h (by cases u<;>simp [convert,run_underlying hs,run_underlying hd,Conv.intToFloat]) (.float k _ _ (zrb k n).symm)
 ·rename_i u k s b hs hd
  cases hx with
  | float _ _ b' e=>
   subst e
   cases s<;>cases k<;>simp only [] at h
   ·exact .plain h (v':=.float .f32 b') (by cases u<;>simp [convert,run_underlying hs,run_underlying hd,Conv.floatToFloat]) (.float _ _ _ rfl)
   ·obtain ⟨r,w',h1,h2,h3⟩:=zh1 hs hd b' w
    exact ⟨_,h,_,w',h1,.float _ _ _ h2.symm,h3⟩
   ·obtain ⟨r,hr',hk⟩:=h
    obtain ⟨r',w',h1,h2,h3⟩:=zd5 hs hd b' r hr' w
    exact ⟨_,hk,_,w',h1,.float _ _ _ h2,h3⟩
   ·exact .plain h (v':=.float .f64 b') (by cases u<;>simp [convert,run_underlying hs,run_underlying hd,Conv.floatToFloat]) (.float _ _ _ rfl)
 ·rename_i u k s b hs hd
  obtain ⟨n,hn,hk⟩:=h
  cases hx with
  | float _ _ b' e=>
   subst e
   rw [z16g] at hn
   refine .plain hk ?_ (.int _ _)
   exact run_convert_float_int (P:=P) w src dst s k b' n (by rw [hs];rfl) hd hn
 ·rename_i a b hs hd
  cases hx with
  | complex _ _ a' _ b' e1 e2=>
   subst e1;subst e2
   obtain ⟨r,w1,h1,h2,h3⟩:=zh8 (P:=P) a' w
   obtain ⟨s,w2,g1,g2,g3⟩:=zh8 (P:=P) b' w1
   exact ⟨_,h,.complex .f64 r s,w2,by simp [convert,run_underlying hs,run_underlying hd,Conv.complexToComplex,h1,g1],.complex _ _ _ _ _ h2.symm g2.symm,h3.trans g3⟩
 ·rename_i a b hs hd
  cases hx with
  | complex _ _ a' _ b' e1 e2=>
   exact .plain h (v':=.complex .f32 a' b') (by simp [convert,run_underlying hs,run_underlying hd,Conv.complexToComplex,Conv.floatToFloat]) (.complex _ _ _ _ _ e1 e2)
 ·rename_i a b hs hd
  cases hx with
  | complex _ _ a' _ b' e1 e2=>
   exact .plain h (v':=.complex .f64 a' b') (by simp [convert,run_underlying hs,run_underlying hd,Conv.complexToComplex,Conv.floatToFloat]) (.complex _ _ _ _ _ e1 e2)
 ·rename_i a b hs hd
  obtain ⟨r,s,hr1,hr2,hk⟩:=h
  cases hx with
  | complex _ _ a' _ b' e1 e2=>
   subst e1;subst e2
   obtain ⟨r',w1,h1,h2,h3⟩:=zai (P:=P) a' r w hr1
   obtain ⟨s',w2,g1,g2,g3⟩:=zai (P:=P) b' s w1 hr2
   exact ⟨_,hk,.complex .f32 r' s',w2,by simp [convert,run_underlying hs,run_underlying hd,Conv.complexToComplex,h1,g1],.complex _ _ _ _ _ h2 g2,h3.trans g3⟩
 ·rename_i s hs hd
  cases hx
  exact .plain h (by simp [convert,run_underlying hs,run_underlying hd]) (.string _)
 ·rename_i e a n c hs hd
  split at h
  case h_2=>exact h.elim
  rename_i he
  obtain ⟨l,hl,hk⟩:=h
  have hconv:∀A cap,x'=.slice A n cap→(convert src dst x').run P w=(Conv.bytesToString (.slice A n cap)).run P w:=by
   intro A cap e;subst e;exact run_convert_bytes_string w src dst e _ _ _ hs he hd
  rcases zd4 hr hl hx with ⟨c',k,cap,l',rfl,rfl,h1,h2,h3⟩ | ⟨rfl,rfl,hl0,h1,h2⟩ | ⟨c',cap,rfl,rfl,h2⟩
  ·have hl':l'=(l.map fun c=>(c.toNat:Int)).map (Value.int .u8):=by
    rw [List.map_map]
    apply List.ext_getElem?
    intro i
    cases hi:l'[i]? with
    | none=>
     have:l'.length≤i:=by simpa using hi
     rw [List.getElem?_eq_none (by have:=h1.1;simp at this ⊢;omega)]
    | some v=>
     have hlt:i<l.length:=by have:=h1.1;have:=(List.getElem?_eq_some_iff.1 hi).1;simp at *;omega
     have hx':=h1.2 i _ v (by rw [List.getElem?_map,List.getElem?_eq_getElem hlt];rfl) hi
     cases hx'
     rw [List.getElem?_map,List.getElem?_eq_getElem hlt];rfl
   refine .plain hk ?_ (.string _)
   rw [hconv _ _ rfl]
   have hlc:(loadCells c' k).run P w=.ok ((l.map fun c=>(c.toNat:Int)).map (Value.int .u8)).toArray w:=by
    rw [←hl',←h2];exact run_loadCells_list w c' l' h3
   rw [run_bytesToString w c' k cap _ hlc,zr9]
   simp [ByteArray.empty,ByteArray.emptyWithCapacity]<;>rfl
  ·refine .plain hk ?_ (.string _)
   have:l=[]:=by simpa using hl0
   subst this
   rw [h2] at hconv
   rw [hconv none 0 rfl]
   rfl
  ·have:l=[]:=by have:=zgz hl;simpa using this
   subst this
   refine .plain hk ?_ (.string _)
   rw [hconv _ _ rfl]
   simp [Conv.bytesToString,loadCells,loadCellsFrom];rfl
 ·exact h.elim

theorem zui {t:TypeId} {d d' s s':Value} {ts:Array TypeId} {ty:TypeId} {K:Value→zd→Prop} (hr:HR B0 ρ H w) (h:zyy P t d s H K) (hd:VR ρ d d') (hs:VR ρ s s') (ht:ts[0]? =some t):
  HOut P B0 ρ (Builtin.copy_ ts ty #[d',s']) w K:=by
 unfold zyy at h
 split at h
 case h_2=>exact h.elim
 rename_i e a n ce a' m cm hu
 split at h
 case h_2=>exact h.elim
 rename_i hsz
 obtain ⟨new,hnew,b,off,rfl,hown,⟨l,hl⟩,hk⟩:=h
 obtain ⟨new',hnv,hnl,hxs⟩:∃new',VRs ρ new new'∧new'.length=min m n∧
   ((∃c cap,s'=.slice (some c) m cap∧∀j v,new'[j]? =some v→w.cell? (c.add j)=some v)∨(s'=.slice none 0 0∧m=0)):=by
  rcases zd4 hr hnew hs with ⟨c,k,cap,l',rfl,rfl,h1,h2,h3⟩ | ⟨rfl,rfl,rfl,h1,h2⟩ | ⟨c,cap,rfl,rfl,h2⟩
  ·exact ⟨l',h1,h2,.inl ⟨c,cap,rfl,h3⟩⟩
  ·exact ⟨[],.nil ρ,by simp [h1],.inr ⟨rfl,h2⟩⟩
  ·rw [Nat.zero_min] at hnew
   rw [zgz hnew]
   exact ⟨[],.nil ρ,by simp,.inl ⟨c,cap,rfl,by simp⟩⟩
 have hlen:new.length=min m n:=by rw [hnv.1,hnl]
 have hcell:new.all isCell=true:=zfk hr hnew
 obtain ⟨blk,hb,hn,rfl⟩:=z5i hl
 have hrd:∃l,rdN H b off new.length=some l:=by
  refine ⟨(blk.cells.drop off).take new.length,?_⟩
  simp only [rdN,rdB,hb,Option.bind_some]
  rw [if_pos (by rw [hlen];omega)]
 cases hd with
 | slice _ _ _ _ c base sz cap hρ h1 h2=>
  obtain ⟨w',e1,e2,e3⟩:=zfo (P:=P) new new' off H w b hr hown hrd hnv hcell c base sz hρ 0 ⟨c,base+off,none⟩ rfl (fun j=>by rw [z3a,Nat.zero_add])
  refine ⟨_,_,hk,.int .i64 (min m n:Nat),w',ρ,?_,List.prefix_refl _,e2,.int _ _,e3⟩
  rcases hxs with ⟨cx,capx,rfl,hc⟩ | ⟨rfl,rfl⟩
  ·have hf:(Builtin.firstCells 1 (min m n) (.slice (some cx) m capx)).run P w=.ok new'.toArray w:=run_firstCells_some w 1 (min m n) cx m capx new' (by rw [hnl];omega) hc
   have hmin:Nat.min m n=min m n:=rfl
   simp [Builtin.copy_,ht,run_underlying hu,Builtin.lenOf,z1r hsz,hmin,hf,e1,goInt]
  ·have hn0:new'=[]:=List.length_eq_zero_iff.1 (by simpa using hnl)
   subst hn0
   have e1':w'=w:=by simp [storeCells] at e1;exact e1.symm
   subst e1'
   have hmin:Nat.min 0 n=0:=by show min 0 n=0;simp
   simp [Builtin.copy_,ht,run_underlying hu,Builtin.lenOf,z1r hsz,hmin,Builtin.firstCells,storeCells,goInt]
 | sempty _ _ a'' cap=>
  have hmin0:min m 0=0:=by simp
  have hn0:new'=[]:=List.length_eq_zero_iff.1 (by rw [hnl];simp)
  subst hn0
  have hnew0:new=[]:=List.length_eq_zero_iff.1 (by rw [hlen];simp)
  subst hnew0
  have hz:Nat.min m 0=0:=by show min m 0=0;simp
  refine ⟨_,_,hk,.int .i64 (min m 0:Nat),w,ρ,?_,List.prefix_refl _,hr,.int _ _,.refl _ _⟩
  rcases hxs with ⟨cx,capx,rfl,hc⟩ | ⟨rfl,rfl⟩
  ·have hf:(Builtin.firstCells 1 0 (.slice (some cx) m capx)).run P w=.ok #[] w:=by simp [Builtin.firstCells,loadCells,loadCellsFrom]
   simp [Builtin.copy_,ht,run_underlying hu,Builtin.lenOf,z1r hsz,hz,hf,goInt,storeCells]
  ·simp [Builtin.copy_,ht,run_underlying hu,Builtin.lenOf,z1r hsz,hz,Builtin.firstCells,goInt,storeCells]
end
end Go.Proofs.Ytbnplefohfamnaa.Ai
