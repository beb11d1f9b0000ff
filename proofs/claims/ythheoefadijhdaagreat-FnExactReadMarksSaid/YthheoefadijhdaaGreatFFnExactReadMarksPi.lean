/- Pictures as lists of lights: rows, parts, z6k of sides. -/
import Derived.Test.YthheoefadijhdaaGreatFFnExactReadMarksAiM
set_option linter.unusedVariables false
namespace Go.Proofs.YthheoefadijhdaaGreat.Ai
open Go
def rowL (w:Nat) (F:Int→Nat):List Nat:=(List.range w).map fun i:Nat=>F (i:Int)
def picL (w h:Nat) (F:Int→Int→Nat):List Nat:=((List.range h).map fun v:Nat=>rowL w fun u=>F u (v:Int)).flatten
theorem zaq (w:Nat) (F:Int→Nat):(rowL w F).length=w:=by simp [rowL]
theorem zew (w h:Nat) (F:Int→Int→Nat):picL w (h+1) F=picL w h F++rowL w fun u=>F u h:=by
 unfold picL;rw [List.range_succ,List.map_append,List.flatten_append];simp
theorem z2u (w:Nat) (F:Int→Int→Nat):∀h,(picL w h F).length=h*w
 | 0=>by simp [picL]
 | h+1=>by rw [zew,List.length_append,z2u w F h,zaq,Nat.succ_mul]
theorem range_add (a b:Nat):List.range (a+b)=List.range a++(List.range b).map (a+·):=by
 rw [List.range_eq_range',List.range_eq_range',List.range_eq_range',List.range'_append_1.symm,List.map_add_range'];simp
theorem z9o {w:Nat} (hw:0<w) (F:Int→Int→Nat):∀h,(List.range (h*w)).map (fun i:Nat=>F ((i % w:Nat):Int) ((i / w:Nat):Int))=picL w h F
 | 0=>by simp [picL]
 | h+1=>by
  rw [Nat.succ_mul,range_add,List.map_append,z9o hw F h,zew]
  congr 1
  unfold rowL
  rw [List.map_map]
  apply List.map_congr_left
  intro i hi
  have hi:=List.mem_range.1 hi
  have e1:(h*w+i) % w=i:=by rw [Nat.add_comm,Nat.mul_comm,Nat.add_mul_mod_self_left];exact Nat.mod_eq_of_lt hi
  have e2:(h*w+i) / w=h:=by rw [Nat.add_comm,Nat.mul_comm,Nat.add_mul_div_left _ _ hw,Nat.div_eq_of_lt hi];omega
  show F (((h*w+i) % w:Nat):Int) (((h*w+i) / w:Nat):Int)=F i h
  rw [e1,e2]
theorem z15w {w h:Nat} {F:Int→Int→Nat} {z:Nat} (hz:z ∈ picL w h F):∃u v:Nat,u<w∧v<h∧z=F u v:=by
 obtain ⟨r,hr,hz⟩:=List.mem_flatten.1 hz
 obtain ⟨v,hv,rfl⟩:=List.mem_map.1 hr
 obtain ⟨u,hu,rfl⟩:=List.mem_map.1 hz
 exact ⟨u,v,List.mem_range.1 hu,List.mem_range.1 hv,rfl⟩
def zi4 (n:Int):Int:=(n+1) / 2
theorem zdz {n:Int} (h1:1≤n):Int.tdiv (n+1) 2=zi4 n:=Int.tdiv_eq_ediv_of_nonneg (by omega)
theorem zba {n:Int} (h1:1≤n) (h2:n≤16):1≤zi4 n∧zi4 n≤n:=by unfold zi4;omega
def z6k:Nat→Int→Int
 | 0,n=>n
 | k+1,n=>z6k k (zi4 n)
theorem z4f:∀(k:Nat) (n:Int),1≤n→n≤16→1≤z6k k n∧z6k k n≤n
 | 0,n,h1,h2=>⟨h1,Int.le_refl _⟩
 | k+1,n,h1,h2=>by
  have r:=zba h1 h2
  have:=z4f k (zi4 n) r.1 (by omega)
  unfold z6k;omega
def z5p (L:List Nat) (x y W:Int) (u v:Int):Nat:=L.getD ((y+v)*W+x+u).toNat 0
end Go.Proofs.YthheoefadijhdaaGreat.Ai
