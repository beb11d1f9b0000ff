/- What functions of the program come to on the abstract machine, and that they do so; printed by a program of mine around proofs of mine. -/
import Derived.Test.YtghkkclonabpkaaFFnExactEnergiesIn0
set_option linter.unusedVariables false
set_option linter.unusedSimpArgs false
set_option maxRecDepth 100000
namespace Go.Proofs.Ytghkkclonabpkaa.Ai
open Go
attribute [local irreducible] bodyK

def p_impl_areFinite_l2 (l_lists : List (List Nat)) (t2 : Bool) (t9 : Int) (k2_2 : Bool → Int → Bool) : Nat → Bool → Int → Bool
  | 0, _, _ => false
  | μ2 + 1, t2_2, t15 => (bif decide ((t15 : Int) < ((((l_lists).getD (t9 : Int).toNat [])).length : Int)) then (bif !((p_impl_IsFinite (((((l_lists).getD (t9 : Int).toNat [])).getD (t15 : Int).toNat 0)))) then false else (p_impl_areFinite_l2 l_lists t2 t9 k2_2 μ2 t2_2 (t15 + 1))) else (k2_2 t2_2 t15))
theorem p_impl_areFinite_l2_s (l_lists : List (List Nat)) (t2 : Bool) (t9 : Int) (k2_2 : Bool → Int → Bool) (μ2 : Nat) (t2_2 : Bool) (t15 : Int) : p_impl_areFinite_l2 l_lists t2 t9 k2_2 (μ2 + 1) t2_2 t15 = (bif decide ((t15 : Int) < ((((l_lists).getD (t9 : Int).toNat [])).length : Int)) then (bif !((p_impl_IsFinite (((((l_lists).getD (t9 : Int).toNat [])).getD (t15 : Int).toNat 0)))) then false else (p_impl_areFinite_l2 l_lists t2 t9 k2_2 μ2 t2_2 (t15 + 1))) else (k2_2 t2_2 t15)) := rfl
def p_impl_areFinite_l1 (l_lists : List (List Nat)) : Nat → Bool → Int → Bool
  | 0, _, _ => false
  | μ + 1, t2, t9 => (bif decide ((t9 : Int) < (l_lists.length : Int)) then (p_impl_areFinite_l2 l_lists t2 t9 (fun (t2_2 : Bool) (t15 : Int) => (p_impl_areFinite_l1 l_lists μ t2_2 (t9 + 1))) (Int.toNat (((((l_lists).getD (t9 : Int).toNat [])).length : Int) - (0 : Int)) + 1) t2 (0 : Int)) else true)
theorem p_impl_areFinite_l1_s (l_lists : List (List Nat)) (μ : Nat) (t2 : Bool) (t9 : Int) : p_impl_areFinite_l1 l_lists (μ + 1) t2 t9 = (bif decide ((t9 : Int) < (l_lists.length : Int)) then (p_impl_areFinite_l2 l_lists t2 t9 (fun (t2_2 : Bool) (t15 : Int) => (p_impl_areFinite_l1 l_lists μ t2_2 (t9 + 1))) (Int.toNat (((((l_lists).getD (t9 : Int).toNat [])).length : Int) - (0 : Int)) + 1) t2 (0 : Int)) else true) := rfl
def p_impl_areFinite (l_lists : List (List Nat)) : Bool := (p_impl_areFinite_l1 l_lists (Int.toNat ((l_lists.length : Int) - (0 : Int)) + 1) false (0 : Int))
theorem p_impl_areFinite_eq (l_lists : List (List Nat)) : p_impl_areFinite l_lists = (p_impl_areFinite_l1 l_lists (Int.toNat ((l_lists.length : Int) - (0 : Int)) + 1) false (0 : Int)) := rfl
def T_impl_areFinite (lists_a : Option Addr) (lists_n : Nat) (lists_e : Nat) (H : AHeap) (K : Bool → AHeap → Prop) : Prop := ∃ (l_lists : List (List Nat)), IsLL fF H lists_a lists_n l_lists ∧ l_lists.length < 1073741824 ∧ (∀ y ∈ l_lists, y.length < 1073741824) ∧ K (p_impl_areFinite l_lists) H
theorem T_impl_areFinite_i {lists_a : Option Addr} {lists_n : Nat} {lists_e : Nat} {H : AHeap} {K : Bool → AHeap → Prop} (h : ∃ (l_lists : List (List Nat)), IsLL fF H lists_a lists_n l_lists ∧ l_lists.length < 1073741824 ∧ (∀ y ∈ l_lists, y.length < 1073741824) ∧ K (p_impl_areFinite l_lists) H) : T_impl_areFinite lists_a lists_n lists_e H K := h

/-! impl_areFinite: function 115 -/
def E_impl_areFinite : Env := envOf [(62, S_impl_IsFinite)]
def F_impl_areFinite : List Value → AHeap → (Value → AHeap → Prop) → Prop
  | [.slice lists_a lists_n lists_e], H, K => T_impl_areFinite lists_a lists_n lists_e H fun (r1 : Bool) (H' : AHeap) => K (.bool r1) H'
  | _, _, _ => False
def S_impl_areFinite : FSpec := { F := F_impl_areFinite, quiet := true, tame := false }
theorem impl_areFinite_vc (lists_a : Option Addr) (lists_n : Nat) (lists_e : Nat) (H : AHeap) (K : Value → AHeap → Prop) : bodyK Try.prog E_impl_areFinite Try.f115 [.slice lists_a lists_n lists_e] H K =
  (loopK (exK Try.prog E_impl_areFinite (cl (cl (cr (cl (cr (bodyC Try.f115))))))) [.slice lists_a lists_n lists_e, undef, .bool false, undef, undef, undef, undef, .slice lists_a lists_n lists_e, .int .i64 (lists_n : Int), .int .i64 0, undef, undef, undef, undef, undef, undef, undef, undef, undef, undef, undef, undef, undef, undef] H (blockQ 0 (seqQ (exK Try.prog E_impl_areFinite (cr (cr (bodyC Try.f115)))) (retK Try.prog Try.f115 K)))) := by kernel_rfl
theorem impl_areFinite_r1 (lists_a : Option Addr) (lists_e : Nat) (lists_n : Nat) (t2 : Bool) (t9 : Int) (g4 g6 g10 g11 g12 g13 g14 g15 g16 g17 g18 g19 g20 g21 g22 g23 : Value) (H : AHeap) (R : Post) : exK Try.prog E_impl_areFinite (cl (cl (cr (cl (cr (bodyC Try.f115)))))) [.slice lists_a lists_n lists_e, undef, .bool t2, undef, g4, undef, g6, .slice lists_a lists_n lists_e, .int .i64 (lists_n : Int), .int .i64 t9, g10, g11, g12, g13, g14, g15, g16, g17, g18, g19, g20, g21, g22, g23] H R =
  (Br (decide ((t9 : Int) < (lists_n : Int))) ((0 : Int) ≤ t9 ∧ t9 < (lists_n : Int) ∧ ∃ b1 f1, (lists_a : Option Addr) = some ⟨b1, f1, none⟩ ∧ ∃ x1_a : Option Addr, ∃ x1_n : Nat, ∃ x1_e : Nat,  rdC H b1 (f1 + (t9 : Int).toNat * 1) = some (.slice x1_a x1_n x1_e) ∧ loopK (exK Try.prog E_impl_areFinite (cl (cl (cr (cr (cl (cl (cr (cr (cl (cl (cr (cl (cr (bodyC Try.f115))))))))))))))) [.slice lists_a lists_n lists_e, undef, .bool t2, undef, .slice x1_a x1_n x1_e, undef, g6, .slice lists_a lists_n lists_e, .int .i64 (lists_n : Int), .int .i64 t9, .bool (decide ((t9 : Int) < (lists_n : Int))), .pointer (some ⟨b1, f1 + (t9 : Int).toNat * 1, none⟩), .slice x1_a x1_n x1_e, .slice x1_a x1_n x1_e, .int .i64 (x1_n : Int), .int .i64 0, g16, g17, g18, g19, g20, g21, g22, g23] H (blockQ 2 (blockQ 1 (seqQ (exK Try.prog E_impl_areFinite (cr (cr (cr (cl (cl (cr (cl (cr (bodyC Try.f115)))))))))) (R))))) (R (.exit 0) [.slice lists_a lists_n lists_e, undef, .bool t2, undef, g4, undef, g6, .slice lists_a lists_n lists_e, .int .i64 (lists_n : Int), .int .i64 t9, .bool (decide ((t9 : Int) < (lists_n : Int))), g11, g12, g13, g14, g15, g16, g17, g18, g19, g20, g21, g22, g23] H)) := by kernel_rfl
def impl_areFinite_I1 (lists_a : Option Addr) (lists_e : Nat) (lists_n : Nat) (Inv : Nat → Bool → Int → AHeap → Prop) : Nat → List Value → AHeap → Prop := fun μ tm H => ∃ (t2 : Bool), ∃ (t9 : Int), ∃ g4 g6 g10 g11 g12 g13 g14 g15 g16 g17 g18 g19 g20 g21 g22 g23, tm = [.slice lists_a lists_n lists_e, undef, .bool t2, undef, g4, undef, g6, .slice lists_a lists_n lists_e, .int .i64 (lists_n : Int), .int .i64 t9, g10, g11, g12, g13, g14, g15, g16, g17, g18, g19, g20, g21, g22, g23] ∧ Inv μ t2 t9 H
theorem impl_areFinite_L1 (lists_a : Option Addr) (lists_e : Nat) (lists_n : Nat) {Q : Post} (Inv : Nat → Bool → Int → AHeap → Prop) (ν : Nat) (t2 : Bool) (t9 : Int) (g4 g6 g10 g11 g12 g13 g14 g15 g16 g17 g18 g19 g20 g21 g22 g23 : Value) (H : AHeap) (h0 : Inv ν t2 t9 H)
    (hs : ∀ (μ : Nat) (t2 : Bool) (t9 : Int) (g4 g6 g10 g11 g12 g13 g14 g15 g16 g17 g18 g19 g20 g21 g22 g23 : Value) (H : AHeap), Inv μ t2 t9 H → exK Try.prog E_impl_areFinite (cl (cl (cr (cl (cr (bodyC Try.f115)))))) [.slice lists_a lists_n lists_e, undef, .bool t2, undef, g4, undef, g6, .slice lists_a lists_n lists_e, .int .i64 (lists_n : Int), .int .i64 t9, g10, g11, g12, g13, g14, g15, g16, g17, g18, g19, g20, g21, g22, g23] H (loopQ (impl_areFinite_I1 lists_a lists_e lists_n Inv) μ Q)) : loopK (exK Try.prog E_impl_areFinite (cl (cl (cr (cl (cr (bodyC Try.f115))))))) [.slice lists_a lists_n lists_e, undef, .bool t2, undef, g4, undef, g6, .slice lists_a lists_n lists_e, .int .i64 (lists_n : Int), .int .i64 t9, g10, g11, g12, g13, g14, g15, g16, g17, g18, g19, g20, g21, g22, g23] H Q :=
  ⟨impl_areFinite_I1 lists_a lists_e lists_n Inv, ν, ⟨t2, t9, g4, g6, g10, g11, g12, g13, g14, g15, g16, g17, g18, g19, g20, g21, g22, g23, rfl, h0⟩, fun μ tm H h => by obtain ⟨t2, t9, g4, g6, g10, g11, g12, g13, g14, g15, g16, g17, g18, g19, g20, g21, g22, g23, rfl, hI⟩ := h; exact hs μ t2 t9 g4 g6 g10 g11 g12 g13 g14 g15 g16 g17 g18 g19 g20 g21 g22 g23 H hI⟩
theorem impl_areFinite_n1 {lists_a : Option Addr} {lists_e : Nat} {lists_n : Nat} {Q : Post} {Inv : Nat → Bool → Int → AHeap → Prop} {μ : Nat} (μ' : Nat) {t2 : Bool} {t9 : Int} {g4 g6 g10 g11 g12 g13 g14 g15 g16 g17 g18 g19 g20 g21 g22 g23 : Value} {H : AHeap} (hm : μ' < μ) (hI : Inv μ' t2 t9 H) : loopQ (impl_areFinite_I1 lists_a lists_e lists_n Inv) μ Q .normal [.slice lists_a lists_n lists_e, undef, .bool t2, undef, g4, undef, g6, .slice lists_a lists_n lists_e, .int .i64 (lists_n : Int), .int .i64 t9, g10, g11, g12, g13, g14, g15, g16, g17, g18, g19, g20, g21, g22, g23] H := ⟨μ', hm, t2, t9, g4, g6, g10, g11, g12, g13, g14, g15, g16, g17, g18, g19, g20, g21, g22, g23, rfl, hI⟩
theorem impl_areFinite_x1_0 (lists_a : Option Addr) (lists_e : Nat) (lists_n : Nat) (t2 : Bool) (t9 : Int) (g4 g6 g10 g11 g12 g13 g14 g15 g16 g17 g18 g19 g20 g21 g22 g23 : Value) (H : AHeap) (K : Value → AHeap → Prop)  {I : Nat → List Value → AHeap → Prop} {μ : Nat} : loopQ I μ (blockQ 0 (seqQ (exK Try.prog E_impl_areFinite (cr (cr (bodyC Try.f115)))) (retK Try.prog Try.f115 K))) (.exit 0) [.slice lists_a lists_n lists_e, undef, .bool t2, undef, g4, undef, g6, .slice lists_a lists_n lists_e, .int .i64 (lists_n : Int), .int .i64 t9, g10, g11, g12, g13, g14, g15, g16, g17, g18, g19, g20, g21, g22, g23] H =
  (K (.bool true) H) := by kernel_rfl
theorem impl_areFinite_x1_ret (lists_a : Option Addr) (lists_e : Nat) (lists_n : Nat) (t2 : Bool) (t9 : Int) (g4 g6 g10 g11 g12 g13 g14 g15 g16 g17 g18 g19 g20 g21 g22 g23 : Value) (H : AHeap) (K : Value → AHeap → Prop)  {I : Nat → List Value → AHeap → Prop} {μ : Nat} : loopQ I μ (blockQ 0 (seqQ (exK Try.prog E_impl_areFinite (cr (cr (bodyC Try.f115)))) (retK Try.prog Try.f115 K))) .ret [.slice lists_a lists_n lists_e, undef, .bool t2, undef, g4, undef, g6, .slice lists_a lists_n lists_e, .int .i64 (lists_n : Int), .int .i64 t9, g10, g11, g12, g13, g14, g15, g16, g17, g18, g19, g20, g21, g22, g23] H =
  (K (.bool t2) H) := by kernel_rfl
theorem impl_areFinite_r2 (b1 : Nat) (f1 : Nat) (g23 : Value) (lists_a : Option Addr) (lists_e : Nat) (lists_n : Nat) (t9 : Int) (x1_a : Option Addr) (x1_e : Nat) (x1_n : Nat) (t2_2 : Bool) (t15 : Int) (g6 g16 g17 g18 g19 g20 g21 g22 : Value) (H : AHeap) (R : Post) : exK Try.prog E_impl_areFinite (cl (cl (cr (cr (cl (cl (cr (cr (cl (cl (cr (cl (cr (bodyC Try.f115)))))))))))))) [.slice lists_a lists_n lists_e, undef, .bool t2_2, undef, .slice x1_a x1_n x1_e, undef, g6, .slice lists_a lists_n lists_e, .int .i64 (lists_n : Int), .int .i64 t9, .bool (decide ((t9 : Int) < (lists_n : Int))), .pointer (some ⟨b1, f1 + (t9 : Int).toNat * 1, none⟩), .slice x1_a x1_n x1_e, .slice x1_a x1_n x1_e, .int .i64 (x1_n : Int), .int .i64 t15, g16, g17, g18, g19, g20, g21, g22, g23] H R =
  (Br (decide ((t15 : Int) < (x1_n : Int))) ((0 : Int) ≤ t15 ∧ t15 < (x1_n : Int) ∧ ∃ b2 f2, (x1_a : Option Addr) = some ⟨b2, f2, none⟩ ∧ ∃ x2 : Nat,  rdC H b2 (f2 + (t15 : Int).toNat * 1) = some (.float .f32 x2) ∧ T_impl_IsFinite x2 H fun (r1 : Bool) (H1 : AHeap) => Br (!r1) (R .ret [.slice lists_a lists_n lists_e, undef, .bool false, undef, .slice x1_a x1_n x1_e, undef, .float .f32 x2, .slice lists_a lists_n lists_e, .int .i64 (lists_n : Int), .int .i64 t9, .bool (decide ((t9 : Int) < (lists_n : Int))), .pointer (some ⟨b1, f1 + (t9 : Int).toNat * 1, none⟩), .slice x1_a x1_n x1_e, .slice x1_a x1_n x1_e, .int .i64 (x1_n : Int), .int .i64 t15, .bool (decide ((t15 : Int) < (x1_n : Int))), .pointer (some ⟨b2, f2 + (t15 : Int).toNat * 1, none⟩), .float .f32 x2, .float .f32 x2, .bool r1, .bool (!r1), g22, g23] H1) (R .normal [.slice lists_a lists_n lists_e, undef, .bool t2_2, undef, .slice x1_a x1_n x1_e, undef, .float .f32 x2, .slice lists_a lists_n lists_e, .int .i64 (lists_n : Int), .int .i64 t9, .bool (decide ((t9 : Int) < (lists_n : Int))), .pointer (some ⟨b1, f1 + (t9 : Int).toNat * 1, none⟩), .slice x1_a x1_n x1_e, .slice x1_a x1_n x1_e, .int .i64 (x1_n : Int), .int .i64 (IntKind.wrap .i64 (t15 + 1)), .bool (decide ((t15 : Int) < (x1_n : Int))), .pointer (some ⟨b2, f2 + (t15 : Int).toNat * 1, none⟩), .float .f32 x2, .float .f32 x2, .bool r1, .bool (!r1), .int .i64 (IntKind.wrap .i64 (t15 + 1)), g23] H1)) (R (.exit 2) [.slice lists_a lists_n lists_e, undef, .bool t2_2, undef, .slice x1_a x1_n x1_e, undef, g6, .slice lists_a lists_n lists_e, .int .i64 (lists_n : Int), .int .i64 t9, .bool (decide ((t9 : Int) < (lists_n : Int))), .pointer (some ⟨b1, f1 + (t9 : Int).toNat * 1, none⟩), .slice x1_a x1_n x1_e, .slice x1_a x1_n x1_e, .int .i64 (x1_n : Int), .int .i64 t15, .bool (decide ((t15 : Int) < (x1_n : Int))), g17, g18, g19, g20, g21, g22, g23] H)) := by kernel_rfl
def impl_areFinite_I2 (b1 : Nat) (f1 : Nat) (g23 : Value) (lists_a : Option Addr) (lists_e : Nat) (lists_n : Nat) (t9 : Int) (x1_a : Option Addr) (x1_e : Nat) (x1_n : Nat) (Inv : Nat → Bool → Int → AHeap → Prop) : Nat → List Value → AHeap → Prop := fun μ tm H => ∃ (t2_2 : Bool), ∃ (t15 : Int), ∃ g6 g16 g17 g18 g19 g20 g21 g22, tm = [.slice lists_a lists_n lists_e, undef, .bool t2_2, undef, .slice x1_a x1_n x1_e, undef, g6, .slice lists_a lists_n lists_e, .int .i64 (lists_n : Int), .int .i64 t9, .bool (decide ((t9 : Int) < (lists_n : Int))), .pointer (some ⟨b1, f1 + (t9 : Int).toNat * 1, none⟩), .slice x1_a x1_n x1_e, .slice x1_a x1_n x1_e, .int .i64 (x1_n : Int), .int .i64 t15, g16, g17, g18, g19, g20, g21, g22, g23] ∧ Inv μ t2_2 t15 H
theorem impl_areFinite_L2 (b1 : Nat) (f1 : Nat) (g23 : Value) (lists_a : Option Addr) (lists_e : Nat) (lists_n : Nat) (t9 : Int) (x1_a : Option Addr) (x1_e : Nat) (x1_n : Nat) {Q : Post} (Inv : Nat → Bool → Int → AHeap → Prop) (ν : Nat) (t2_2 : Bool) (t15 : Int) (g6 g16 g17 g18 g19 g20 g21 g22 : Value) (H : AHeap) (h0 : Inv ν t2_2 t15 H)
    (hs : ∀ (μ : Nat) (t2_2 : Bool) (t15 : Int) (g6 g16 g17 g18 g19 g20 g21 g22 : Value) (H : AHeap), Inv μ t2_2 t15 H → exK Try.prog E_impl_areFinite (cl (cl (cr (cr (cl (cl (cr (cr (cl (cl (cr (cl (cr (bodyC Try.f115)))))))))))))) [.slice lists_a lists_n lists_e, undef, .bool t2_2, undef, .slice x1_a x1_n x1_e, undef, g6, .slice lists_a lists_n lists_e, .int .i64 (lists_n : Int), .int .i64 t9, .bool (decide ((t9 : Int) < (lists_n : Int))), .pointer (some ⟨b1, f1 + (t9 : Int).toNat * 1, none⟩), .slice x1_a x1_n x1_e, .slice x1_a x1_n x1_e, .int .i64 (x1_n : Int), .int .i64 t15, g16, g17, g18, g19, g20, g21, g22, g23] H (loopQ (impl_areFinite_I2 b1 f1 g23 lists_a lists_e lists_n t9 x1_a x1_e x1_n Inv) μ Q)) : loopK (exK Try.prog E_impl_areFinite (cl (cl (cr (cr (cl (cl (cr (cr (cl (cl (cr (cl (cr (bodyC Try.f115))))))))))))))) [.slice lists_a lists_n lists_e, undef, .bool t2_2, undef, .slice x1_a x1_n x1_e, undef, g6, .slice lists_a lists_n lists_e, .int .i64 (lists_n : Int), .int .i64 t9, .bool (decide ((t9 : Int) < (lists_n : Int))), .pointer (some ⟨b1, f1 + (t9 : Int).toNat * 1, none⟩), .slice x1_a x1_n x1_e, .slice x1_a x1_n x1_e, .int .i64 (x1_n : Int), .int .i64 t15, g16, g17, g18, g19, g20, g21, g22, g23] H Q :=
  ⟨impl_areFinite_I2 b1 f1 g23 lists_a lists_e lists_n t9 x1_a x1_e x1_n Inv, ν, ⟨t2_2, t15, g6, g16, g17, g18, g19, g20, g21, g22, rfl, h0⟩, fun μ tm H h => by obtain ⟨t2_2, t15, g6, g16, g17, g18, g19, g20, g21, g22, rfl, hI⟩ := h; exact hs μ t2_2 t15 g6 g16 g17 g18 g19 g20 g21 g22 H hI⟩
theorem impl_areFinite_n2 {b1 : Nat} {f1 : Nat} {g23 : Value} {lists_a : Option Addr} {lists_e : Nat} {lists_n : Nat} {t9 : Int} {x1_a : Option Addr} {x1_e : Nat} {x1_n : Nat} {Q : Post} {Inv : Nat → Bool → Int → AHeap → Prop} {μ : Nat} (μ' : Nat) {t2_2 : Bool} {t15 : Int} {g6 g16 g17 g18 g19 g20 g21 g22 : Value} {H : AHeap} (hm : μ' < μ) (hI : Inv μ' t2_2 t15 H) : loopQ (impl_areFinite_I2 b1 f1 g23 lists_a lists_e lists_n t9 x1_a x1_e x1_n Inv) μ Q .normal [.slice lists_a lists_n lists_e, undef, .bool t2_2, undef, .slice x1_a x1_n x1_e, undef, g6, .slice lists_a lists_n lists_e, .int .i64 (lists_n : Int), .int .i64 t9, .bool (decide ((t9 : Int) < (lists_n : Int))), .pointer (some ⟨b1, f1 + (t9 : Int).toNat * 1, none⟩), .slice x1_a x1_n x1_e, .slice x1_a x1_n x1_e, .int .i64 (x1_n : Int), .int .i64 t15, g16, g17, g18, g19, g20, g21, g22, g23] H := ⟨μ', hm, t2_2, t15, g6, g16, g17, g18, g19, g20, g21, g22, rfl, hI⟩
theorem impl_areFinite_x2_2 (b1 : Nat) (f1 : Nat) (g23 : Value) (lists_a : Option Addr) (lists_e : Nat) (lists_n : Nat) (t9 : Int) (x1_a : Option Addr) (x1_e : Nat) (x1_n : Nat) (t2_2 : Bool) (t15 : Int) (g6 g16 g17 g18 g19 g20 g21 g22 : Value) (H : AHeap)  (R : Post) {I : Nat → List Value → AHeap → Prop} {μ : Nat} : loopQ I μ (blockQ 2 (blockQ 1 (seqQ (exK Try.prog E_impl_areFinite (cr (cr (cr (cl (cl (cr (cl (cr (bodyC Try.f115)))))))))) (R)))) (.exit 2) [.slice lists_a lists_n lists_e, undef, .bool t2_2, undef, .slice x1_a x1_n x1_e, undef, g6, .slice lists_a lists_n lists_e, .int .i64 (lists_n : Int), .int .i64 t9, .bool (decide ((t9 : Int) < (lists_n : Int))), .pointer (some ⟨b1, f1 + (t9 : Int).toNat * 1, none⟩), .slice x1_a x1_n x1_e, .slice x1_a x1_n x1_e, .int .i64 (x1_n : Int), .int .i64 t15, g16, g17, g18, g19, g20, g21, g22, g23] H =
  (R .normal [.slice lists_a lists_n lists_e, undef, .bool t2_2, undef, .slice x1_a x1_n x1_e, undef, g6, .slice lists_a lists_n lists_e, .int .i64 (lists_n : Int), .int .i64 (IntKind.wrap .i64 (t9 + 1)), .bool (decide ((t9 : Int) < (lists_n : Int))), .pointer (some ⟨b1, f1 + (t9 : Int).toNat * 1, none⟩), .slice x1_a x1_n x1_e, .slice x1_a x1_n x1_e, .int .i64 (x1_n : Int), .int .i64 t15, g16, g17, g18, g19, g20, g21, g22, .int .i64 (IntKind.wrap .i64 (t9 + 1))] H) := by kernel_rfl
theorem impl_areFinite_x2_ret (b1 : Nat) (f1 : Nat) (g23 : Value) (lists_a : Option Addr) (lists_e : Nat) (lists_n : Nat) (t9 : Int) (x1_a : Option Addr) (x1_e : Nat) (x1_n : Nat) (t2_2 : Bool) (t15 : Int) (g6 g16 g17 g18 g19 g20 g21 g22 : Value) (H : AHeap)  (R : Post) {I : Nat → List Value → AHeap → Prop} {μ : Nat} : loopQ I μ (blockQ 2 (blockQ 1 (seqQ (exK Try.prog E_impl_areFinite (cr (cr (cr (cl (cl (cr (cl (cr (bodyC Try.f115)))))))))) (R)))) .ret [.slice lists_a lists_n lists_e, undef, .bool t2_2, undef, .slice x1_a x1_n x1_e, undef, g6, .slice lists_a lists_n lists_e, .int .i64 (lists_n : Int), .int .i64 t9, .bool (decide ((t9 : Int) < (lists_n : Int))), .pointer (some ⟨b1, f1 + (t9 : Int).toNat * 1, none⟩), .slice x1_a x1_n x1_e, .slice x1_a x1_n x1_e, .int .i64 (x1_n : Int), .int .i64 t15, g16, g17, g18, g19, g20, g21, g22, g23] H =
  (R .ret [.slice lists_a lists_n lists_e, undef, .bool t2_2, undef, .slice x1_a x1_n x1_e, undef, g6, .slice lists_a lists_n lists_e, .int .i64 (lists_n : Int), .int .i64 t9, .bool (decide ((t9 : Int) < (lists_n : Int))), .pointer (some ⟨b1, f1 + (t9 : Int).toNat * 1, none⟩), .slice x1_a x1_n x1_e, .slice x1_a x1_n x1_e, .int .i64 (x1_n : Int), .int .i64 t15, g16, g17, g18, g19, g20, g21, g22, g23] H) := by kernel_rfl
theorem E_impl_areFinite_ok : ∀ g, FnOk Try.prog g (E_impl_areFinite g) := FnOk.envOf (by
  intro x hx
  simp only [List.mem_cons, List.not_mem_nil, or_false] at hx
  subst hx; exact impl_IsFinite_ok)
set_option maxHeartbeats 1000000 in
theorem impl_areFinite_main (lists_a : Option Addr) (lists_n : Nat) (lists_e : Nat) (H : AHeap) (K : Value → AHeap → Prop) (h : T_impl_areFinite lists_a lists_n lists_e H fun (r1 : Bool) (H' : AHeap) => K (.bool r1) H') : bodyK Try.prog E_impl_areFinite Try.f115 [.slice lists_a lists_n lists_e] H K := by
  rw [impl_areFinite_vc]
  obtain ⟨l_lists, i_lists, bd_22, bb_l_lists, hk⟩ := h
  obtain rfl := i_lists.eqn
  have e : (p_impl_areFinite l_lists) = _ := rfl
  have e := e.trans (p_impl_areFinite_eq l_lists)
  have g0 := Grow.refl H
  refine impl_areFinite_L1 _ _ _ (fun (μ : Nat) (t2 : Bool) (t9 : Int) (H_1 : AHeap) => H = H_1 ∧ (0 : Int) ≤ t9 ∧ t9 ≤ (l_lists.length : Int) ∧ (l_lists.length : Int) - t9 ≤ (μ : Int) ∧ p_impl_areFinite l_lists = p_impl_areFinite_l1 l_lists (μ + 1) t2 t9) (Int.toNat ((l_lists.length : Int) - (0 : Int))) _ _ _ _ _ _ _ _ _ _ _ _ _ _ _ _ _ _ H ?_ ?_
  · exact ⟨rfl, (by first | omega | (simp; done) | (simp; omega)), (by first | omega | (simp; done) | (simp; omega)), (by omega), e⟩
  · intro μ t2 t9 g4 g6 g10 g11 g12 g13 g14 g15 g16 g17 g18 g19 g20 g21 g22 g23 H_1 hI
    obtain ⟨rfl, v_1, v_2, hμ, e⟩ := hI
    rw [impl_areFinite_r1]
    have e := e.trans (p_impl_areFinite_l1_s l_lists μ t2 t9)
    have l_3 := g0.1
    refine Br.intro (fun c_4 => ?_) (fun c_4 => ?_)
    · have e := e.trans (cond_t c_4)
      have c_4' := of_decide_eq_true c_4
      obtain ⟨b_5, f_6, q_7⟩ := ((i_lists.grow g0)).pos (by first | omega | (simp only [List.length_set, List.length_replicate, List.length_append, List.length_cons, List.length_nil, List.length_take, List.length_drop, marks_length]; done) | (simp only [List.length_set, List.length_replicate, List.length_append, List.length_cons, List.length_nil, List.length_take, List.length_drop, marks_length]; omega))
      refine ⟨by omega, by omega, b_5, f_6, q_7, ?_⟩
      obtain ⟨a_8, n_9, e_10, r_11, i_12⟩ := (i_lists).rd (i := (t9 : Int).toNat) g0 q_7 (by omega)
      obtain rfl := i_12.eqn
      refine ⟨a_8, _, e_10, r_11, ?_⟩
      have z_13 := getD_len bb_l_lists (t9 : Int).toNat
      refine impl_areFinite_L2 _ _ _ _ _ _ _ _ _ _ (fun (μ2 : Nat) (t2_2 : Bool) (t15 : Int) (H_2 : AHeap) => H = H_2 ∧ (0 : Int) ≤ t15 ∧ t15 ≤ ((((l_lists).getD (t9 : Int).toNat [])).length : Int) ∧ ((((l_lists).getD (t9 : Int).toNat [])).length : Int) - t15 ≤ (μ2 : Int) ∧ p_impl_areFinite l_lists = p_impl_areFinite_l2 l_lists t2 t9 (fun (t2_2 : Bool) (t15 : Int) => (p_impl_areFinite_l1 l_lists μ t2_2 (t9 + 1))) (μ2 + 1) t2_2 t15) (Int.toNat (((((l_lists).getD (t9 : Int).toNat [])).length : Int) - (0 : Int))) _ _ _ _ _ _ _ _ _ _ H ?_ ?_
      · exact ⟨rfl, (by first | omega | (simp; done) | (simp; omega)), (by first | omega | (simp; done) | (simp; omega)), (by omega), e⟩
      · intro μ2 t2_2 t15 g6 g16 g17 g18 g19 g20 g21 g22 H_2 hI
        obtain ⟨rfl, v_14, v_15, hμ, e⟩ := hI
        rw [impl_areFinite_r2]
        have e := e.trans (p_impl_areFinite_l2_s l_lists t2 t9 (fun (t2_2 : Bool) (t15 : Int) => (p_impl_areFinite_l1 l_lists μ t2_2 (t9 + 1))) μ2 t2_2 t15)
        have l_16 := g0.1
        refine Br.intro (fun c_17 => ?_) (fun c_17 => ?_)
        · have e := e.trans (cond_t c_17)
          have c_17' := of_decide_eq_true c_17
          obtain ⟨b_18, f_19, q_20⟩ := ((i_12.grow g0)).pos (by first | omega | (simp only [List.length_set, List.length_replicate, List.length_append, List.length_cons, List.length_nil, List.length_take, List.length_drop, marks_length]; done) | (simp only [List.length_set, List.length_replicate, List.length_append, List.length_cons, List.length_nil, List.length_take, List.length_drop, marks_length]; omega))
          refine ⟨by omega, by omega, b_18, f_19, q_20, ?_⟩
          refine ⟨((((l_lists).getD (t9 : Int).toNat [])).getD (t15 : Int).toNat 0), (i_12).rd g0 q_20 (by omega) _, ?_⟩
          refine T_impl_IsFinite_i ?_
          refine Br.intro (fun c_21 => ?_) (fun c_21 => ?_)
          · have e := e.trans (cond_t c_21)
            have c_21n := nf_of_t c_21
            rw [impl_areFinite_x2_ret]
            rw [impl_areFinite_x1_ret]
            rw [e] at hk
            exact hk
          · have e := e.trans (cond_f c_21)
            have c_21n := nt_of_f c_21
            rw [show IntKind.wrap .i64 (t15 + 1) = (t15 + 1) from wrap64 (by omega) (by omega)]
            refine impl_areFinite_n2 (μ2 - 1) (by first | omega) ⟨rfl, (by first | omega | (simp only [List.length_append, List.length_cons, List.length_nil, List.length_set]; done) | (simp only [List.length_append, List.length_cons, List.length_nil, List.length_set]; omega)), (by first | omega | (simp only [List.length_append, List.length_cons, List.length_nil, List.length_set]; done) | (simp only [List.length_append, List.length_cons, List.length_nil, List.length_set]; omega)), (by first | omega), (by rw [show μ2 - 1 + 1 = μ2 from by first | omega]; exact e)⟩
        · have e := e.trans (cond_f c_17)
          have c_17' := of_decide_eq_false c_17
          rw [impl_areFinite_x2_2]
          rw [show IntKind.wrap .i64 (t9 + 1) = (t9 + 1) from wrap64 (by omega) (by omega)]
          refine impl_areFinite_n1 (μ - 1) (by first | omega) ⟨rfl, (by first | omega | (simp only [List.length_append, List.length_cons, List.length_nil, List.length_set]; done) | (simp only [List.length_append, List.length_cons, List.length_nil, List.length_set]; omega)), (by first | omega | (simp only [List.length_append, List.length_cons, List.length_nil, List.length_set]; done) | (simp only [List.length_append, List.length_cons, List.length_nil, List.length_set]; omega)), (by first | omega), (by rw [show μ - 1 + 1 = μ from by first | omega]; exact e)⟩
    · have e := e.trans (cond_f c_4)
      have c_4' := of_decide_eq_false c_4
      rw [impl_areFinite_x1_0]
      rw [e] at hk
      exact hk
theorem impl_areFinite_ok : FnOk Try.prog 115 S_impl_areFinite := by
  refine FnOk.body mix_ok E_impl_areFinite_ok Try.func115 rfl (by kernel_rfl) (by kernel_rfl) ?_ ?_ ?_ ?_ ?_
  · intro args H K K' h hk
    simp only [S_impl_areFinite] at *
    unfold F_impl_areFinite at *
    split at hk
    · obtain ⟨l_lists, i_lists, bd_22, bb_l_lists, k⟩ := hk
      exact ⟨l_lists, i_lists, bd_22, bb_l_lists, h _ _ k⟩
    · exact hk.elim
  · intro _ args H K hk
    simp only [S_impl_areFinite] at *
    unfold F_impl_areFinite at *
    split at hk
    · obtain ⟨l_lists, i_lists, bd_22, bb_l_lists, k⟩ := hk
      exact ⟨_, k, fun K' k' => ⟨l_lists, i_lists, bd_22, bb_l_lists, k'⟩⟩
    · exact hk.elim
  · intro args H K hk
    simp only [S_impl_areFinite] at *
    unfold F_impl_areFinite at *
    split at hk
    · obtain ⟨l_lists, i_lists, bd_22, bb_l_lists, k⟩ := hk
      exact ⟨_, _, k⟩
    · exact hk.elim
  · intro hq; cases hq
  · have mm := @impl_areFinite_main
    revert mm
    generalize bodyK Try.prog E_impl_areFinite Try.f115 = Q
    intro mm args H K hk
    simp only [S_impl_areFinite] at *
    unfold F_impl_areFinite at *
    split at hk
    · exact mm _ _ _ H K hk
    · exact hk.elim

def p_impl_ValidPicture (p_Wide : Int) (p_High : Int) (l_p_Lights : List Nat) : Bool := ((bif (p_impl_within p_Wide (1 : Int) (16 : Int)) then (bif (p_impl_within p_High (1 : Int) (16 : Int)) then (bif ((l_p_Lights.length : Int) : Int) == IntKind.wrap .i64 (p_Wide * p_High) then (p_impl_areFinite ([l_p_Lights])) else false) else false) else false))
theorem p_impl_ValidPicture_eq (p_Wide : Int) (p_High : Int) (l_p_Lights : List Nat) : p_impl_ValidPicture p_Wide p_High l_p_Lights = ((bif (p_impl_within p_Wide (1 : Int) (16 : Int)) then (bif (p_impl_within p_High (1 : Int) (16 : Int)) then (bif ((l_p_Lights.length : Int) : Int) == IntKind.wrap .i64 (p_Wide * p_High) then (p_impl_areFinite ([l_p_Lights])) else false) else false) else false)) := rfl
def T_impl_ValidPicture (p_Wide : Int) (p_High : Int) (p_Lights_a : Option Addr) (p_Lights_n : Nat) (p_Lights_e : Nat) (H : AHeap) (K : Bool → AHeap → Prop) : Prop := ∃ (l_p_Lights : List Nat), IsL fF H p_Lights_a p_Lights_n l_p_Lights ∧ l_p_Lights.length < 1073741824 ∧ ((∀ H' : AHeap, Grow H H' → K (p_impl_ValidPicture p_Wide p_High l_p_Lights) H'))
theorem T_impl_ValidPicture_i {p_Wide : Int} {p_High : Int} {p_Lights_a : Option Addr} {p_Lights_n : Nat} {p_Lights_e : Nat} {H : AHeap} {K : Bool → AHeap → Prop} (h : ∃ (l_p_Lights : List Nat), IsL fF H p_Lights_a p_Lights_n l_p_Lights ∧ l_p_Lights.length < 1073741824 ∧ ((∀ H' : AHeap, Grow H H' → K (p_impl_ValidPicture p_Wide p_High l_p_Lights) H'))) : T_impl_ValidPicture p_Wide p_High p_Lights_a p_Lights_n p_Lights_e H K := h
theorem impl_ValidPicture_t {w h : Int} {l : List Nat} (hh : p_impl_ValidPicture w h l = true) : 1 ≤ w ∧ w ≤ 16 ∧ 1 ≤ h ∧ h ≤ 16 ∧ (l.length : Int) = w * h ∧ (l.length : Int) ≤ 256 ∧ 1 ≤ (l.length : Int) := by
  rw [p_impl_ValidPicture_eq] at hh
  simp only [Bool.cond_false_right, Bool.and_eq_true] at hh
  obtain ⟨a, b, c, -⟩ := hh
  have a := impl_within_t a
  have b := impl_within_t b
  have h1 : w * h ≤ 16 * 16 := Int.mul_le_mul (by omega) (by omega) (by omega) (by decide)
  have h2 : 1 * 1 ≤ w * h := Int.mul_le_mul (by omega) (by omega) (by omega) (by omega)
  have c := eq_of_beq c
  rw [wrap64 (by omega) (by omega)] at c
  exact ⟨a.1, a.2, b.1, b.2, c, by omega, by omega⟩
/-! impl_ValidPicture: function 94 -/
def E_impl_ValidPicture : Env := envOf [(72, S_impl_within), (115, S_impl_areFinite)]
def F_impl_ValidPicture : List Value → AHeap → (Value → AHeap → Prop) → Prop
  | [.agg ⟨[.int .i64 p_Wide, .int .i64 p_High, .slice p_Lights_a p_Lights_n p_Lights_e]⟩], H, K => T_impl_ValidPicture p_Wide p_High p_Lights_a p_Lights_n p_Lights_e H fun (r1 : Bool) (H' : AHeap) => K (.bool r1) H'
  | _, _, _ => False
def S_impl_ValidPicture : FSpec := { F := F_impl_ValidPicture, quiet := false, tame := true }
theorem impl_ValidPicture_vc (p_Wide : Int) (p_High : Int) (p_Lights_a : Option Addr) (p_Lights_n : Nat) (p_Lights_e : Nat) (H : AHeap) (K : Value → AHeap → Prop) : bodyK Try.prog E_impl_ValidPicture Try.f94 [.agg #[.int .i64 p_Wide, .int .i64 p_High, .slice p_Lights_a p_Lights_n p_Lights_e]] H K =
  (Al [.int .i64 p_Wide, .int .i64 p_High, .slice p_Lights_a p_Lights_n p_Lights_e] H fun b1 H1 => ∃ x1 : Int,  rdC H1 b1 0 = some (.int .i64 x1) ∧ T_impl_within x1 1 16 H1 fun (r1 : Bool) (H2 : AHeap) => Br r1 (∃ x2 : Int,  rdC H2 b1 1 = some (.int .i64 x2) ∧ T_impl_within x2 1 16 H2 fun (r2 : Bool) (H3 : AHeap) => Br r2 (∃ x3_a : Option Addr, ∃ x3_n : Nat, ∃ x3_e : Nat,  rdC H3 b1 2 = some (.slice x3_a x3_n x3_e) ∧ ∃ x4 : Int,  rdC H3 b1 0 = some (.int .i64 x4) ∧ ∃ x5 : Int,  rdC H3 b1 1 = some (.int .i64 x5) ∧ Br (((x3_n : Int) : Int) == IntKind.wrap .i64 (x4 * x5)) (∃ x6_a : Option Addr, ∃ x6_n : Nat, ∃ x6_e : Nat,  rdC H3 b1 2 = some (.slice x6_a x6_n x6_e) ∧ Al [.slice x6_a x6_n x6_e] H3 fun b2 H4 => T_impl_areFinite (some ⟨b2, 0, none⟩) 1 1 H4 fun (r3 : Bool) (H5 : AHeap) => K (.bool r3) H5) (K (.bool false) H3)) (K (.bool false) H3)) (K (.bool false) H2)) := by kernel_rfl
theorem E_impl_ValidPicture_ok : ∀ g, FnOk Try.prog g (E_impl_ValidPicture g) := FnOk.envOf (by
  intro x hx
  simp only [List.mem_cons, List.not_mem_nil, or_false] at hx
  rcases hx with rfl | rfl
  · exact impl_within_ok
  · exact impl_areFinite_ok)
set_option maxHeartbeats 1000000 in
theorem impl_ValidPicture_main (p_Wide : Int) (p_High : Int) (p_Lights_a : Option Addr) (p_Lights_n : Nat) (p_Lights_e : Nat) (H : AHeap) (K : Value → AHeap → Prop) (h : T_impl_ValidPicture p_Wide p_High p_Lights_a p_Lights_n p_Lights_e H fun (r1 : Bool) (H' : AHeap) => K (.bool r1) H') : bodyK Try.prog E_impl_ValidPicture Try.f94 [.agg #[.int .i64 p_Wide, .int .i64 p_High, .slice p_Lights_a p_Lights_n p_Lights_e]] H K := by
  rw [impl_ValidPicture_vc]
  obtain ⟨l_p_Lights, i_p_Lights, bd_26, hk⟩ := h
  obtain rfl := i_p_Lights.eqn
  have e : (p_impl_ValidPicture p_Wide p_High l_p_Lights) = _ := rfl
  have e := e.trans (p_impl_ValidPicture_eq p_Wide p_High l_p_Lights)
  have g0 := Grow.refl H
  refine Al.intro (fun b_1 H_1 hb_2 hl_3 g_4 o_5 => ?_)
  have l_7 := g_4.1
  have g_8 := g0.trans g_4
  have l_9 := g_8.1
  have w_25 := o_5.lt
  refine ⟨p_Wide, (o_5.rdC _).trans rfl, ?_⟩
  refine T_impl_within_i ?_
  refine Br.intro (fun c_10 => ?_) (fun c_10 => ?_)
  · have e := e.trans (cond_t c_10)
    have c_10' := impl_within_t c_10
    refine ⟨p_High, (o_5.rdC _).trans rfl, ?_⟩
    refine T_impl_within_i ?_
    refine Br.intro (fun c_11 => ?_) (fun c_11 => ?_)
    · have e := e.trans (cond_t c_11)
      have c_11' := impl_within_t c_11
      refine ⟨p_Lights_a, l_p_Lights.length, p_Lights_e, (o_5.rdC _).trans rfl, ?_⟩
      refine ⟨p_Wide, (o_5.rdC _).trans rfl, ?_⟩
      refine ⟨p_High, (o_5.rdC _).trans rfl, ?_⟩
      refine Br.intro (fun c_12 => ?_) (fun c_12 => ?_)
      · have e := e.trans (cond_t c_12)
        have c_12' := ieq_t c_12
        refine ⟨p_Lights_a, l_p_Lights.length, p_Lights_e, (o_5.rdC _).trans rfl, ?_⟩
        refine Al.intro (fun b_13 H_2 hb_14 hl_15 g_16 o_17 => ?_)
        have l_19 := g_16.1
        have g_20 := g_8.trans g_16
        have l_21 := g_20.1
        have o_22 := o_5.grow g_16
        have w_23 := o_22.lt
        have w_24 := o_17.lt
        refine T_impl_areFinite_i ⟨[l_p_Lights], ⟨_, o_17.rdAll rfl, LLc.cons (i_p_Lights.grow g_20) (LLc.nil _ _)⟩, (by first | omega | (simp only [List.length_set, List.length_replicate, List.length_append, List.length_cons, List.length_nil, List.length_take, List.length_drop, marks_length]; done) | (simp only [List.length_set, List.length_replicate, List.length_append, List.length_cons, List.length_nil, List.length_take, List.length_drop, marks_length]; omega)), (by first | assumption | (intro y hy; simp only [List.mem_cons, List.not_mem_nil, or_false] at hy; first | omega | (subst hy; omega) | (rcases hy with rfl | rfl <;> omega) | (rcases hy with rfl | rfl | rfl <;> omega))), ?_⟩
        rw [e] at hk
        exact hk  H_2 g_20 
      · have e := e.trans (cond_f c_12)
        have c_12' := ieq_f c_12
        rw [e] at hk
        exact hk  H_1 g_8 
    · have e := e.trans (cond_f c_11)
      rw [e] at hk
      exact hk  H_1 g_8 
  · have e := e.trans (cond_f c_10)
    rw [e] at hk
    exact hk  H_1 g_8 
theorem impl_ValidPicture_ok : FnOk Try.prog 94 S_impl_ValidPicture := by
  refine FnOk.body mix_ok E_impl_ValidPicture_ok Try.func94 rfl (by kernel_rfl) (by kernel_rfl) ?_ ?_ ?_ ?_ ?_
  · intro args H K K' h hk
    simp only [S_impl_ValidPicture] at *
    unfold F_impl_ValidPicture at *
    split at hk
    · obtain ⟨l_p_Lights, i_p_Lights, bd_26, k⟩ := hk
      exact ⟨l_p_Lights, i_p_Lights, bd_26, (fun  H' gg  => h _ _ (k  H' gg ))⟩
    · exact hk.elim
  · intro hq; cases hq
  · intro args H K hk
    simp only [S_impl_ValidPicture] at *
    unfold F_impl_ValidPicture at *
    split at hk
    · obtain ⟨l_p_Lights, i_p_Lights, bd_26, k⟩ := hk
      exact ⟨_, _, k H (Grow.refl H)⟩
    · exact hk.elim
  · intro _ args H K hk
    simp only [S_impl_ValidPicture] at *
    unfold F_impl_ValidPicture at *
    split at hk
    · obtain ⟨l_p_Lights, i_p_Lights, bd_26, k⟩ := hk
      exact ⟨l_p_Lights, i_p_Lights, bd_26, (fun  H' gg  => ⟨gg, k  H' gg ⟩)⟩
    · exact hk.elim
  · have mm := @impl_ValidPicture_main
    revert mm
    generalize bodyK Try.prog E_impl_ValidPicture Try.f94 = Q
    intro mm args H K hk
    simp only [S_impl_ValidPicture] at *
    unfold F_impl_ValidPicture at *
    split at hk
    · exact mm _ _ _ _ _ H K hk
    · exact hk.elim
def p_impl_areLevels (levels : Int) : Bool := (p_impl_within levels 1 4)
theorem p_impl_areLevels_eq (levels : Int) : p_impl_areLevels levels = (p_impl_within levels 1 4) := rfl
def T_impl_areLevels (levels : Int) (H : AHeap) (K : Bool → AHeap → Prop) : Prop := K (p_impl_areLevels levels) H
theorem impl_areLevels_t {n : Int} (h : p_impl_areLevels n = true) : 1 ≤ n ∧ n ≤ 4 := impl_within_t h
theorem T_impl_areLevels_i {levels : Int} {H : AHeap} {K : Bool → AHeap → Prop} (h : K (p_impl_areLevels levels) H) : T_impl_areLevels levels H K := h
/-! impl_areLevels: function 95 -/
def E_impl_areLevels : Env := envOf [(72, S_impl_within)]
def F_impl_areLevels : List Value → AHeap → (Value → AHeap → Prop) → Prop
  | [.int .i64 levels], H, K => T_impl_areLevels levels H fun (r1 : Bool) (H' : AHeap) => K (.bool r1) H'
  | _, _, _ => False
def S_impl_areLevels : FSpec := { F := F_impl_areLevels, quiet := true, tame := false }
theorem impl_areLevels_vc (levels : Int) (H : AHeap) (K : Value → AHeap → Prop) : bodyK Try.prog E_impl_areLevels Try.f95 [.int .i64 levels] H K =
  (T_impl_within levels 1 4 H fun (r1 : Bool) (H1 : AHeap) => K (.bool r1) H1) := by kernel_rfl
theorem E_impl_areLevels_ok : ∀ g, FnOk Try.prog g (E_impl_areLevels g) := FnOk.envOf (by
  intro x hx
  simp only [List.mem_cons, List.not_mem_nil, or_false] at hx
  subst hx; exact impl_within_ok)
set_option maxHeartbeats 1000000 in
theorem impl_areLevels_main (levels : Int) (H : AHeap) (K : Value → AHeap → Prop) (h : T_impl_areLevels levels H fun (r1 : Bool) (H' : AHeap) => K (.bool r1) H') : bodyK Try.prog E_impl_areLevels Try.f95 [.int .i64 levels] H K := by
  rw [impl_areLevels_vc]
  simp only [T_impl_within]
  unfold T_impl_areLevels p_impl_areLevels at h
  repeat' (first | exact h | (exfalso; simp_all; done) | (refine ⟨by decide, ?_⟩) | (refine Br.intro (fun hb => ?_) (fun hb => ?_) <;> (try simp only [hb, cond_true, cond_false, Bool.not_true, Bool.not_false] at h)))
theorem impl_areLevels_ok : FnOk Try.prog 95 S_impl_areLevels := by
  refine FnOk.body mix_ok E_impl_areLevels_ok Try.func95 rfl (by kernel_rfl) (by kernel_rfl) ?_ ?_ ?_ ?_ ?_
  · intro args H K K' h hk
    simp only [S_impl_areLevels] at *
    unfold F_impl_areLevels at *
    split at hk
    · have k := hk
      exact h _ _ k
    · exact hk.elim
  · intro _ args H K hk
    simp only [S_impl_areLevels] at *
    unfold F_impl_areLevels at *
    split at hk
    · have k := hk
      exact ⟨_, k, fun K' k' => k'⟩
    · exact hk.elim
  · intro args H K hk
    simp only [S_impl_areLevels] at *
    unfold F_impl_areLevels at *
    split at hk
    · have k := hk
      exact ⟨_, _, k⟩
    · exact hk.elim
  · intro hq; cases hq
  · have mm := @impl_areLevels_main
    revert mm
    generalize bodyK Try.prog E_impl_areLevels Try.f95 = Q
    intro mm args H K hk
    simp only [S_impl_areLevels] at *
    unfold F_impl_areLevels at *
    split at hk
    · exact mm _ H K hk
    · exact hk.elim

def p_impl_halfOf_l1 (n : Int) (times : Int) : Nat → Int → Int → Int
  | 0, _, _ => 0
  | μ + 1, n_0, t6 => (bif decide ((t6 : Int) < times) then (p_impl_halfOf_l1 n times μ ((Int.tdiv (n_0 + 1) 2)) (t6 + 1)) else n_0)
theorem p_impl_halfOf_l1_s (n : Int) (times : Int) (μ : Nat) (n_0 : Int) (t6 : Int) : p_impl_halfOf_l1 n times (μ + 1) n_0 t6 = (bif decide ((t6 : Int) < times) then (p_impl_halfOf_l1 n times μ ((Int.tdiv (n_0 + 1) 2)) (t6 + 1)) else n_0) := rfl
def p_impl_halfOf (n : Int) (times : Int) : Int := (p_impl_halfOf_l1 n times (Int.toNat (times - (0 : Int)) + 1) n (0 : Int))
theorem p_impl_halfOf_eq (n : Int) (times : Int) : p_impl_halfOf n times = (p_impl_halfOf_l1 n times (Int.toNat (times - (0 : Int)) + 1) n (0 : Int)) := rfl
def T_impl_halfOf (n : Int) (times : Int) (H : AHeap) (K : Int → AHeap → Prop) : Prop := 1 ≤ n ∧ n ≤ 16 ∧ times ≤ 1000 ∧ K (p_impl_halfOf n times) H
theorem T_impl_halfOf_i {n : Int} {times : Int} {H : AHeap} {K : Int → AHeap → Prop} (h : 1 ≤ n ∧ n ≤ 16 ∧ times ≤ 1000 ∧ K (p_impl_halfOf n times) H) : T_impl_halfOf n times H K := h
theorem impl_halfOf_go (n times : Int) : ∀ (μ : Nat) (a k : Int), 1 ≤ a → a ≤ 16 → times - k ≤ μ → p_impl_halfOf_l1 n times (μ + 1) a k = halves (times - k).toNat a := by
  intro μ
  induction μ with
  | zero =>
    intro a k h1 h2 hm
    rw [p_impl_halfOf_l1_s, decide_eq_false (by omega), cond_false, show (times - k).toNat = 0 by omega]; rfl
  | succ μ ih =>
    intro a k h1 h2 hm
    rw [p_impl_halfOf_l1_s]
    by_cases h : k < times
    · rw [decide_eq_true h, cond_true, halfI_div h1]
      have ra := halfI_rng h1 h2
      obtain ⟨j, hj⟩ : ∃ j, (times - k).toNat = j + 1 := ⟨(times - k).toNat - 1, by omega⟩
      rw [ih (halfI a) (k + 1) (by omega) (by omega) (by omega), hj, show (times - (k + 1)).toNat = j by omega]; rfl
    · rw [decide_eq_false h, cond_false, show (times - k).toNat = 0 by omega]; rfl
theorem impl_halfOf_is (n times : Int) (h1 : 1 ≤ n) (h2 : n ≤ 16) : p_impl_halfOf n times = halves times.toNat n := by
  rw [p_impl_halfOf_eq, impl_halfOf_go n times _ n 0 h1 h2 (by omega), show times - 0 = times by omega]
theorem impl_halfOf_rng (n times : Int) : 1 ≤ n ∧ n ≤ 16 → 1 ≤ p_impl_halfOf n times ∧ p_impl_halfOf n times ≤ n := fun ⟨h1, h2⟩ => by
  rw [impl_halfOf_is n times h1 h2]; exact halves_rng _ _ h1 h2
/-! impl_halfOf: function 152 -/
def E_impl_halfOf : Env := envOf []
def F_impl_halfOf : List Value → AHeap → (Value → AHeap → Prop) → Prop
  | [.int .i64 n, .int .i64 times], H, K => T_impl_halfOf n times H fun (r1 : Int) (H' : AHeap) => K (.int .i64 r1) H'
  | _, _, _ => False
def S_impl_halfOf : FSpec := { F := F_impl_halfOf, quiet := true, tame := false }
theorem impl_halfOf_vc (n : Int) (times : Int) (H : AHeap) (K : Value → AHeap → Prop) : bodyK Try.prog E_impl_halfOf Try.f152 [.int .i64 n, .int .i64 times] H K =
  (loopK (exK Try.prog E_impl_halfOf (cl (cl (cr (cl (cr (bodyC Try.f152))))))) [.int .i64 n, .int .i64 times, undef, undef, .int .i64 0, .int .i64 times, .int .i64 0, undef, undef, undef, undef, undef, undef] H (blockQ 0 (seqQ (exK Try.prog E_impl_halfOf (cr (cr (bodyC Try.f152)))) (retK Try.prog Try.f152 K)))) := by kernel_rfl
theorem impl_halfOf_r1 (times : Int) (n_0 : Int) (t6 : Int) (g7 g8 g9 g10 g11 : Value) (H : AHeap) (R : Post) : exK Try.prog E_impl_halfOf (cl (cl (cr (cl (cr (bodyC Try.f152)))))) [.int .i64 n_0, .int .i64 times, undef, undef, .int .i64 0, .int .i64 times, .int .i64 t6, g7, g8, g9, g10, g11, undef] H R =
  (Br (decide ((t6 : Int) < times)) (2 ≠ (0 : Int) ∧ R .normal [.int .i64 (IntKind.wrap .i64 (Int.tdiv (IntKind.wrap .i64 (n_0 + 1)) 2)), .int .i64 times, undef, undef, .int .i64 0, .int .i64 times, .int .i64 (IntKind.wrap .i64 (t6 + 1)), .bool (decide ((t6 : Int) < times)), .int .i64 n_0, .int .i64 (IntKind.wrap .i64 (n_0 + 1)), .int .i64 (IntKind.wrap .i64 (Int.tdiv (IntKind.wrap .i64 (n_0 + 1)) 2)), .int .i64 (IntKind.wrap .i64 (t6 + 1)), undef] H) (R (.exit 0) [.int .i64 n_0, .int .i64 times, undef, undef, .int .i64 0, .int .i64 times, .int .i64 t6, .bool (decide ((t6 : Int) < times)), g8, g9, g10, g11, undef] H)) := by kernel_rfl
def impl_halfOf_I1 (times : Int) (Inv : Nat → Int → Int → AHeap → Prop) : Nat → List Value → AHeap → Prop := fun μ tm H => ∃ (n_0 : Int), ∃ (t6 : Int), ∃ g7 g8 g9 g10 g11, tm = [.int .i64 n_0, .int .i64 times, undef, undef, .int .i64 0, .int .i64 times, .int .i64 t6, g7, g8, g9, g10, g11, undef] ∧ Inv μ n_0 t6 H
theorem impl_halfOf_L1 (times : Int) {Q : Post} (Inv : Nat → Int → Int → AHeap → Prop) (ν : Nat) (n_0 : Int) (t6 : Int) (g7 g8 g9 g10 g11 : Value) (H : AHeap) (h0 : Inv ν n_0 t6 H)
    (hs : ∀ (μ : Nat) (n_0 : Int) (t6 : Int) (g7 g8 g9 g10 g11 : Value) (H : AHeap), Inv μ n_0 t6 H → exK Try.prog E_impl_halfOf (cl (cl (cr (cl (cr (bodyC Try.f152)))))) [.int .i64 n_0, .int .i64 times, undef, undef, .int .i64 0, .int .i64 times, .int .i64 t6, g7, g8, g9, g10, g11, undef] H (loopQ (impl_halfOf_I1 times Inv) μ Q)) : loopK (exK Try.prog E_impl_halfOf (cl (cl (cr (cl (cr (bodyC Try.f152))))))) [.int .i64 n_0, .int .i64 times, undef, undef, .int .i64 0, .int .i64 times, .int .i64 t6, g7, g8, g9, g10, g11, undef] H Q :=
  ⟨impl_halfOf_I1 times Inv, ν, ⟨n_0, t6, g7, g8, g9, g10, g11, rfl, h0⟩, fun μ tm H h => by obtain ⟨n_0, t6, g7, g8, g9, g10, g11, rfl, hI⟩ := h; exact hs μ n_0 t6 g7 g8 g9 g10 g11 H hI⟩
theorem impl_halfOf_n1 {times : Int} {Q : Post} {Inv : Nat → Int → Int → AHeap → Prop} {μ : Nat} (μ' : Nat) {n_0 : Int} {t6 : Int} {g7 g8 g9 g10 g11 : Value} {H : AHeap} (hm : μ' < μ) (hI : Inv μ' n_0 t6 H) : loopQ (impl_halfOf_I1 times Inv) μ Q .normal [.int .i64 n_0, .int .i64 times, undef, undef, .int .i64 0, .int .i64 times, .int .i64 t6, g7, g8, g9, g10, g11, undef] H := ⟨μ', hm, n_0, t6, g7, g8, g9, g10, g11, rfl, hI⟩
theorem impl_halfOf_x1_0 (times : Int) (n_0 : Int) (t6 : Int) (g7 g8 g9 g10 g11 : Value) (H : AHeap) (K : Value → AHeap → Prop)  {I : Nat → List Value → AHeap → Prop} {μ : Nat} : loopQ I μ (blockQ 0 (seqQ (exK Try.prog E_impl_halfOf (cr (cr (bodyC Try.f152)))) (retK Try.prog Try.f152 K))) (.exit 0) [.int .i64 n_0, .int .i64 times, undef, undef, .int .i64 0, .int .i64 times, .int .i64 t6, g7, g8, g9, g10, g11, undef] H =
  (K (.int .i64 n_0) H) := by kernel_rfl
theorem E_impl_halfOf_ok : ∀ g, FnOk Try.prog g (E_impl_halfOf g) := FnOk.envOf (by
  intro x hx; cases hx)
set_option maxHeartbeats 1000000 in
theorem impl_halfOf_main (n : Int) (times : Int) (H : AHeap) (K : Value → AHeap → Prop) (h : T_impl_halfOf n times H fun (r1 : Int) (H' : AHeap) => K (.int .i64 r1) H') : bodyK Try.prog E_impl_halfOf Try.f152 [.int .i64 n, .int .i64 times] H K := by
  rw [impl_halfOf_vc]
  obtain ⟨pr0, pr1, pr2, hk⟩ := h
  have e : (p_impl_halfOf n times) = _ := rfl
  have e := e.trans (p_impl_halfOf_eq n times)
  have g0 := Grow.refl H
  refine impl_halfOf_L1 _ (fun (μ : Nat) (n_0 : Int) (t6 : Int) (H_1 : AHeap) => H = H_1 ∧ (0 : Int) ≤ t6 ∧ ((t6 ≤ times ∨ t6 ≤ (0 : Int))) ∧ 1 ≤ n_0 ∧ n_0 ≤ 16 ∧ times - t6 ≤ (μ : Int) ∧ p_impl_halfOf n times = p_impl_halfOf_l1 n times (μ + 1) n_0 t6) (Int.toNat (times - (0 : Int))) _ _ _ _ _ _ _ H ?_ ?_
  · exact ⟨rfl, (by first | omega | (simp; done) | (simp; omega)), (by first | omega | (simp; done) | (simp; omega)), (by first | omega | (simp; done) | (simp; omega)), (by first | omega | (simp; done) | (simp; omega)), (by omega), e⟩
  · intro μ n_0 t6 g7 g8 g9 g10 g11 H_1 hI
    obtain ⟨rfl, v_1, v_2, v_3, v_4, hμ, e⟩ := hI
    rw [impl_halfOf_r1]
    have e := e.trans (p_impl_halfOf_l1_s n times μ n_0 t6)
    have l_5 := g0.1
    refine Br.intro (fun c_6 => ?_) (fun c_6 => ?_)
    · have e := e.trans (cond_t c_6)
      have c_6' := of_decide_eq_true c_6
      rw [show IntKind.wrap .i64 (n_0 + 1) = (n_0 + 1) from wrap64 (by omega) (by omega)]
      have z_7 := tdiv_nn (n_0 + 1) 2
      refine ⟨(by first | omega | decide | (simp; done) | (simp; omega)), ?_⟩
      rw [show IntKind.wrap .i64 (Int.tdiv (n_0 + 1) 2) = (Int.tdiv (n_0 + 1) 2) from wrap64 (by omega) (by omega)]
      rw [show IntKind.wrap .i64 (t6 + 1) = (t6 + 1) from wrap64 (by omega) (by omega)]
      refine impl_halfOf_n1 (μ - 1) (by first | omega) ⟨rfl, (by first | omega | (simp only [List.length_append, List.length_cons, List.length_nil, List.length_set]; done) | (simp only [List.length_append, List.length_cons, List.length_nil, List.length_set]; omega)), (by first | omega | (simp only [List.length_append, List.length_cons, List.length_nil, List.length_set]; done) | (simp only [List.length_append, List.length_cons, List.length_nil, List.length_set]; omega)), (by first | omega | (simp only [List.length_append, List.length_cons, List.length_nil, List.length_set]; done) | (simp only [List.length_append, List.length_cons, List.length_nil, List.length_set]; omega)), (by first | omega | (simp only [List.length_append, List.length_cons, List.length_nil, List.length_set]; done) | (simp only [List.length_append, List.length_cons, List.length_nil, List.length_set]; omega)), (by first | omega), (by rw [show μ - 1 + 1 = μ from by first | omega]; exact e)⟩
    · have e := e.trans (cond_f c_6)
      have c_6' := of_decide_eq_false c_6
      rw [impl_halfOf_x1_0]
      rw [e] at hk
      exact hk
theorem impl_halfOf_ok : FnOk Try.prog 152 S_impl_halfOf := by
  refine FnOk.body mix_ok E_impl_halfOf_ok Try.func152 rfl (by kernel_rfl) (by kernel_rfl) ?_ ?_ ?_ ?_ ?_
  · intro args H K K' h hk
    simp only [S_impl_halfOf] at *
    unfold F_impl_halfOf at *
    split at hk
    · obtain ⟨pr0, pr1, pr2, k⟩ := hk
      exact ⟨pr0, pr1, pr2, h _ _ k⟩
    · exact hk.elim
  · intro _ args H K hk
    simp only [S_impl_halfOf] at *
    unfold F_impl_halfOf at *
    split at hk
    · obtain ⟨pr0, pr1, pr2, k⟩ := hk
      exact ⟨_, k, fun K' k' => ⟨pr0, pr1, pr2, k'⟩⟩
    · exact hk.elim
  · intro args H K hk
    simp only [S_impl_halfOf] at *
    unfold F_impl_halfOf at *
    split at hk
    · obtain ⟨pr0, pr1, pr2, k⟩ := hk
      exact ⟨_, _, k⟩
    · exact hk.elim
  · intro hq; cases hq
  · have mm := @impl_halfOf_main
    revert mm
    generalize bodyK Try.prog E_impl_halfOf Try.f152 = Q
    intro mm args H K hk
    simp only [S_impl_halfOf] at *
    unfold F_impl_halfOf at *
    split at hk
    · exact mm _ _ H K hk
    · exact hk.elim

def p_impl_RegionOf (wide : Int) (high : Int) (level : Int) (band : Int) : Int × Int × Int × Int × Bool := ((bif !((p_impl_within wide (1 : Int) (16 : Int))) then ((0 : Int), (0 : Int), (0 : Int), (0 : Int), false) else (bif !((p_impl_within high (1 : Int) (16 : Int))) then ((0 : Int), (0 : Int), (0 : Int), (0 : Int), false) else (bif !(p_impl_areLevels level) then ((0 : Int), (0 : Int), (0 : Int), (0 : Int), false) else (bif !((p_impl_within band (0 : Int) (3 : Int))) then ((0 : Int), (0 : Int), (0 : Int), (0 : Int), false) else (bif (band : Int) == 0 then ((0 : Int), (0 : Int), (p_impl_halfOf ((p_impl_halfOf wide (level - 1))) (1 : Int)), (p_impl_halfOf ((p_impl_halfOf high (level - 1))) (1 : Int)), true) else (bif (band : Int) == 1 then ((p_impl_halfOf ((p_impl_halfOf wide (level - 1))) (1 : Int)), (0 : Int), (((p_impl_halfOf wide (level - 1))) - ((p_impl_halfOf ((p_impl_halfOf wide (level - 1))) (1 : Int)))), (p_impl_halfOf ((p_impl_halfOf high (level - 1))) (1 : Int)), true) else (bif (band : Int) == 2 then ((0 : Int), (p_impl_halfOf ((p_impl_halfOf high (level - 1))) (1 : Int)), (p_impl_halfOf ((p_impl_halfOf wide (level - 1))) (1 : Int)), (((p_impl_halfOf high (level - 1))) - ((p_impl_halfOf ((p_impl_halfOf high (level - 1))) (1 : Int)))), true) else ((p_impl_halfOf ((p_impl_halfOf wide (level - 1))) (1 : Int)), (p_impl_halfOf ((p_impl_halfOf high (level - 1))) (1 : Int)), (((p_impl_halfOf wide (level - 1))) - ((p_impl_halfOf ((p_impl_halfOf wide (level - 1))) (1 : Int)))), (((p_impl_halfOf high (level - 1))) - ((p_impl_halfOf ((p_impl_halfOf high (level - 1))) (1 : Int)))), true)))))))))
theorem p_impl_RegionOf_eq (wide : Int) (high : Int) (level : Int) (band : Int) : p_impl_RegionOf wide high level band = ((bif !((p_impl_within wide (1 : Int) (16 : Int))) then ((0 : Int), (0 : Int), (0 : Int), (0 : Int), false) else (bif !((p_impl_within high (1 : Int) (16 : Int))) then ((0 : Int), (0 : Int), (0 : Int), (0 : Int), false) else (bif !(p_impl_areLevels level) then ((0 : Int), (0 : Int), (0 : Int), (0 : Int), false) else (bif !((p_impl_within band (0 : Int) (3 : Int))) then ((0 : Int), (0 : Int), (0 : Int), (0 : Int), false) else (bif (band : Int) == 0 then ((0 : Int), (0 : Int), (p_impl_halfOf ((p_impl_halfOf wide (level - 1))) (1 : Int)), (p_impl_halfOf ((p_impl_halfOf high (level - 1))) (1 : Int)), true) else (bif (band : Int) == 1 then ((p_impl_halfOf ((p_impl_halfOf wide (level - 1))) (1 : Int)), (0 : Int), (((p_impl_halfOf wide (level - 1))) - ((p_impl_halfOf ((p_impl_halfOf wide (level - 1))) (1 : Int)))), (p_impl_halfOf ((p_impl_halfOf high (level - 1))) (1 : Int)), true) else (bif (band : Int) == 2 then ((0 : Int), (p_impl_halfOf ((p_impl_halfOf high (level - 1))) (1 : Int)), (p_impl_halfOf ((p_impl_halfOf wide (level - 1))) (1 : Int)), (((p_impl_halfOf high (level - 1))) - ((p_impl_halfOf ((p_impl_halfOf high (level - 1))) (1 : Int)))), true) else ((p_impl_halfOf ((p_impl_halfOf wide (level - 1))) (1 : Int)), (p_impl_halfOf ((p_impl_halfOf high (level - 1))) (1 : Int)), (((p_impl_halfOf wide (level - 1))) - ((p_impl_halfOf ((p_impl_halfOf wide (level - 1))) (1 : Int)))), (((p_impl_halfOf high (level - 1))) - ((p_impl_halfOf ((p_impl_halfOf high (level - 1))) (1 : Int)))), true))))))))) := rfl
def T_impl_RegionOf (wide : Int) (high : Int) (level : Int) (band : Int) (H : AHeap) (K : Int → Int → Int → Int → Bool → AHeap → Prop) : Prop := K ((p_impl_RegionOf wide high level band).1) ((p_impl_RegionOf wide high level band).2.1) ((p_impl_RegionOf wide high level band).2.2.1) ((p_impl_RegionOf wide high level band).2.2.2.1) ((p_impl_RegionOf wide high level band).2.2.2.2) H
theorem T_impl_RegionOf_i {wide : Int} {high : Int} {level : Int} {band : Int} {H : AHeap} {K : Int → Int → Int → Int → Bool → AHeap → Prop} (h : K ((p_impl_RegionOf wide high level band).1) ((p_impl_RegionOf wide high level band).2.1) ((p_impl_RegionOf wide high level band).2.2.1) ((p_impl_RegionOf wide high level band).2.2.2.1) ((p_impl_RegionOf wide high level band).2.2.2.2) H) : T_impl_RegionOf wide high level band H K := h

/-! impl_RegionOf: function 146 -/
def E_impl_RegionOf : Env := envOf [(72, S_impl_within), (95, S_impl_areLevels), (152, S_impl_halfOf)]
def F_impl_RegionOf : List Value → AHeap → (Value → AHeap → Prop) → Prop
  | [.int .i64 wide, .int .i64 high, .int .i64 level, .int .i64 band], H, K => T_impl_RegionOf wide high level band H fun (r1 : Int) (r2 : Int) (r3 : Int) (r4 : Int) (r5 : Bool) (H' : AHeap) => K (.tuple #[.int .i64 r1, .int .i64 r2, .int .i64 r3, .int .i64 r4, .bool r5]) H'
  | _, _, _ => False
def S_impl_RegionOf : FSpec := { F := F_impl_RegionOf, quiet := true, tame := false }
theorem impl_RegionOf_vc (wide : Int) (high : Int) (level : Int) (band : Int) (H : AHeap) (K : Value → AHeap → Prop) : bodyK Try.prog E_impl_RegionOf Try.f146 [.int .i64 wide, .int .i64 high, .int .i64 level, .int .i64 band] H K =
  (T_impl_within wide 1 16 H fun (r1 : Bool) (H1 : AHeap) => Br (!r1) (K (.tuple #[.int .i64 0, .int .i64 0, .int .i64 0, .int .i64 0, .bool false]) H1) (T_impl_within high 1 16 H1 fun (r2 : Bool) (H2 : AHeap) => Br (!r2) (K (.tuple #[.int .i64 0, .int .i64 0, .int .i64 0, .int .i64 0, .bool false]) H2) (T_impl_areLevels level H2 fun (r3 : Bool) (H3 : AHeap) => Br (!r3) (K (.tuple #[.int .i64 0, .int .i64 0, .int .i64 0, .int .i64 0, .bool false]) H3) (T_impl_within band 0 3 H3 fun (r4 : Bool) (H4 : AHeap) => Br (!r4) (K (.tuple #[.int .i64 0, .int .i64 0, .int .i64 0, .int .i64 0, .bool false]) H4) (T_impl_halfOf wide (IntKind.wrap .i64 (level - 1)) H4 fun (r5 : Int) (H5 : AHeap) => T_impl_halfOf high (IntKind.wrap .i64 (level - 1)) H5 fun (r6 : Int) (H6 : AHeap) => T_impl_halfOf r5 1 H6 fun (r7 : Int) (H7 : AHeap) => T_impl_halfOf r6 1 H7 fun (r8 : Int) (H8 : AHeap) => Br ((band : Int) == 0) (K (.tuple #[.int .i64 0, .int .i64 0, .int .i64 r7, .int .i64 r8, .bool true]) H8) (Br ((band : Int) == 1) (K (.tuple #[.int .i64 r7, .int .i64 0, .int .i64 (IntKind.wrap .i64 (r5 - r7)), .int .i64 r8, .bool true]) H8) (Br ((band : Int) == 2) (K (.tuple #[.int .i64 0, .int .i64 r8, .int .i64 r7, .int .i64 (IntKind.wrap .i64 (r6 - r8)), .bool true]) H8) (K (.tuple #[.int .i64 r7, .int .i64 r8, .int .i64 (IntKind.wrap .i64 (r5 - r7)), .int .i64 (IntKind.wrap .i64 (r6 - r8)), .bool true]) H8)))))))) := by kernel_rfl
theorem E_impl_RegionOf_ok : ∀ g, FnOk Try.prog g (E_impl_RegionOf g) := FnOk.envOf (by
  intro x hx
  simp only [List.mem_cons, List.not_mem_nil, or_false] at hx
  rcases hx with rfl | rfl | rfl
  · exact impl_within_ok
  · exact impl_areLevels_ok
  · exact impl_halfOf_ok)
set_option maxHeartbeats 1000000 in
theorem impl_RegionOf_main (wide : Int) (high : Int) (level : Int) (band : Int) (H : AHeap) (K : Value → AHeap → Prop) (h : T_impl_RegionOf wide high level band H fun (r1 : Int) (r2 : Int) (r3 : Int) (r4 : Int) (r5 : Bool) (H' : AHeap) => K (.tuple #[.int .i64 r1, .int .i64 r2, .int .i64 r3, .int .i64 r4, .bool r5]) H') : bodyK Try.prog E_impl_RegionOf Try.f146 [.int .i64 wide, .int .i64 high, .int .i64 level, .int .i64 band] H K := by
  rw [impl_RegionOf_vc]
  have hk := h
  unfold T_impl_RegionOf at hk
  have e : (p_impl_RegionOf wide high level band) = _ := rfl
  have e := e.trans (p_impl_RegionOf_eq wide high level band)
  have g0 := Grow.refl H
  refine T_impl_within_i ?_
  refine Br.intro (fun c_1 => ?_) (fun c_1 => ?_)
  · have e := e.trans (cond_t c_1)
    have c_1n := nf_of_t c_1
    rw [e] at hk
    exact hk
  · have e := e.trans (cond_f c_1)
    have c_1n := nt_of_f c_1
    have c_1n' := impl_within_t c_1n
    refine T_impl_within_i ?_
    refine Br.intro (fun c_2 => ?_) (fun c_2 => ?_)
    · have e := e.trans (cond_t c_2)
      have c_2n := nf_of_t c_2
      rw [e] at hk
      exact hk
    · have e := e.trans (cond_f c_2)
      have c_2n := nt_of_f c_2
      have c_2n' := impl_within_t c_2n
      refine T_impl_areLevels_i ?_
      refine Br.intro (fun c_3 => ?_) (fun c_3 => ?_)
      · have e := e.trans (cond_t c_3)
        have c_3n := nf_of_t c_3
        rw [e] at hk
        exact hk
      · have e := e.trans (cond_f c_3)
        have c_3n := nt_of_f c_3
        have c_3n' := impl_areLevels_t c_3n
        refine T_impl_within_i ?_
        refine Br.intro (fun c_4 => ?_) (fun c_4 => ?_)
        · have e := e.trans (cond_t c_4)
          have c_4n := nf_of_t c_4
          rw [e] at hk
          exact hk
        · have e := e.trans (cond_f c_4)
          have c_4n := nt_of_f c_4
          have c_4n' := impl_within_t c_4n
          rw [show IntKind.wrap .i64 (level - 1) = (level - 1) from wrap64 (by omega) (by omega)]
          refine T_impl_halfOf_i ⟨(by first | assumption | omega | (simp; omega)), (by first | assumption | omega | (simp; omega)), (by first | assumption | omega | (simp; omega)), ?_⟩
          have z_5 := impl_halfOf_rng wide (level - 1)
          refine T_impl_halfOf_i ⟨(by first | assumption | omega | (simp; omega)), (by first | assumption | omega | (simp; omega)), (by first | assumption | omega | (simp; omega)), ?_⟩
          have z_6 := impl_halfOf_rng high (level - 1)
          refine T_impl_halfOf_i ⟨(by first | assumption | omega | (simp; omega)), (by first | assumption | omega | (simp; omega)), (by first | assumption | omega | (simp; omega)), ?_⟩
          have z_7 := impl_halfOf_rng ((p_impl_halfOf wide (level - 1))) (1 : Int)
          refine T_impl_halfOf_i ⟨(by first | assumption | omega | (simp; omega)), (by first | assumption | omega | (simp; omega)), (by first | assumption | omega | (simp; omega)), ?_⟩
          have z_8 := impl_halfOf_rng ((p_impl_halfOf high (level - 1))) (1 : Int)
          refine Br.intro (fun c_9 => ?_) (fun c_9 => ?_)
          · have e := e.trans (cond_t c_9)
            have c_9' := ieq_t c_9
            rw [e] at hk
            exact hk
          · have e := e.trans (cond_f c_9)
            have c_9' := ieq_f c_9
            refine Br.intro (fun c_10 => ?_) (fun c_10 => ?_)
            · have e := e.trans (cond_t c_10)
              have c_10' := ieq_t c_10
              rw [show IntKind.wrap .i64 (((p_impl_halfOf wide (level - 1))) - ((p_impl_halfOf ((p_impl_halfOf wide (level - 1))) (1 : Int)))) = (((p_impl_halfOf wide (level - 1))) - ((p_impl_halfOf ((p_impl_halfOf wide (level - 1))) (1 : Int)))) from wrap64 (by omega) (by omega)]
              rw [e] at hk
              exact hk
            · have e := e.trans (cond_f c_10)
              have c_10' := ieq_f c_10
              refine Br.intro (fun c_11 => ?_) (fun c_11 => ?_)
              · have e := e.trans (cond_t c_11)
                have c_11' := ieq_t c_11
                rw [show IntKind.wrap .i64 (((p_impl_halfOf high (level - 1))) - ((p_impl_halfOf ((p_impl_halfOf high (level - 1))) (1 : Int)))) = (((p_impl_halfOf high (level - 1))) - ((p_impl_halfOf ((p_impl_halfOf high (level - 1))) (1 : Int)))) from wrap64 (by omega) (by omega)]
                rw [e] at hk
                exact hk
              · have e := e.trans (cond_f c_11)
                have c_11' := ieq_f c_11
                rw [show IntKind.wrap .i64 (((p_impl_halfOf wide (level - 1))) - ((p_impl_halfOf ((p_impl_halfOf wide (level - 1))) (1 : Int)))) = (((p_impl_halfOf wide (level - 1))) - ((p_impl_halfOf ((p_impl_halfOf wide (level - 1))) (1 : Int)))) from wrap64 (by omega) (by omega)]
                rw [show IntKind.wrap .i64 (((p_impl_halfOf high (level - 1))) - ((p_impl_halfOf ((p_impl_halfOf high (level - 1))) (1 : Int)))) = (((p_impl_halfOf high (level - 1))) - ((p_impl_halfOf ((p_impl_halfOf high (level - 1))) (1 : Int)))) from wrap64 (by omega) (by omega)]
                rw [e] at hk
                exact hk
theorem impl_RegionOf_ok : FnOk Try.prog 146 S_impl_RegionOf := by
  refine FnOk.body mix_ok E_impl_RegionOf_ok Try.func146 rfl (by kernel_rfl) (by kernel_rfl) ?_ ?_ ?_ ?_ ?_
  · intro args H K K' h hk
    simp only [S_impl_RegionOf] at *
    unfold F_impl_RegionOf at *
    split at hk
    · have k := hk
      exact h _ _ k
    · exact hk.elim
  · intro _ args H K hk
    simp only [S_impl_RegionOf] at *
    unfold F_impl_RegionOf at *
    split at hk
    · have k := hk
      exact ⟨_, k, fun K' k' => k'⟩
    · exact hk.elim
  · intro args H K hk
    simp only [S_impl_RegionOf] at *
    unfold F_impl_RegionOf at *
    split at hk
    · have k := hk
      exact ⟨_, _, k⟩
    · exact hk.elim
  · intro hq; cases hq
  · have mm := @impl_RegionOf_main
    revert mm
    generalize bodyK Try.prog E_impl_RegionOf Try.f146 = Q
    intro mm args H K hk
    simp only [S_impl_RegionOf] at *
    unfold F_impl_RegionOf at *
    split at hk
    · exact mm _ _ _ _ H K hk
    · exact hk.elim

def p_impl_isPartAt (p_Wide : Int) (p_High : Int) (l_p_Lights : List Nat) (x : Int) (y : Int) (wide : Int) (high : Int) : Bool := (bif (p_impl_ValidPicture p_Wide p_High l_p_Lights) then (bif (p_impl_within x (0 : Int) (p_Wide - 1)) then (bif (p_impl_within y (0 : Int) (p_High - 1)) then (bif (p_impl_within wide (1 : Int) (IntKind.wrap .i64 (p_Wide - x))) then (p_impl_within high (1 : Int) (IntKind.wrap .i64 (p_High - y))) else false) else false) else false) else false)
theorem p_impl_isPartAt_eq (p_Wide : Int) (p_High : Int) (l_p_Lights : List Nat) (x : Int) (y : Int) (wide : Int) (high : Int) : p_impl_isPartAt p_Wide p_High l_p_Lights x y wide high = (bif (p_impl_ValidPicture p_Wide p_High l_p_Lights) then (bif (p_impl_within x (0 : Int) (p_Wide - 1)) then (bif (p_impl_within y (0 : Int) (p_High - 1)) then (bif (p_impl_within wide (1 : Int) (IntKind.wrap .i64 (p_Wide - x))) then (p_impl_within high (1 : Int) (IntKind.wrap .i64 (p_High - y))) else false) else false) else false) else false) := rfl
def T_impl_isPartAt (p_Wide : Int) (p_High : Int) (p_Lights_a : Option Addr) (p_Lights_n : Nat) (p_Lights_e : Nat) (x : Int) (y : Int) (wide : Int) (high : Int) (H : AHeap) (K : Bool → AHeap → Prop) : Prop := ∃ (l_p_Lights : List Nat), IsL fF H p_Lights_a p_Lights_n l_p_Lights ∧ l_p_Lights.length < 1073741824 ∧ ((∀ H' : AHeap, Grow H H' → K (p_impl_isPartAt p_Wide p_High l_p_Lights x y wide high) H'))
theorem T_impl_isPartAt_i {p_Wide : Int} {p_High : Int} {p_Lights_a : Option Addr} {p_Lights_n : Nat} {p_Lights_e : Nat} {x : Int} {y : Int} {wide : Int} {high : Int} {H : AHeap} {K : Bool → AHeap → Prop} (h : ∃ (l_p_Lights : List Nat), IsL fF H p_Lights_a p_Lights_n l_p_Lights ∧ l_p_Lights.length < 1073741824 ∧ ((∀ H' : AHeap, Grow H H' → K (p_impl_isPartAt p_Wide p_High l_p_Lights x y wide high) H'))) : T_impl_isPartAt p_Wide p_High p_Lights_a p_Lights_n p_Lights_e x y wide high H K := h
theorem impl_isPartAt_t {W H : Int} {l : List Nat} {x y w h : Int} (hh : p_impl_isPartAt W H l x y w h = true) :
    1 ≤ W ∧ W ≤ 16 ∧ 1 ≤ H ∧ H ≤ 16 ∧ (l.length : Int) = W * H ∧ (l.length : Int) ≤ 256 ∧ 0 ≤ x ∧ 0 ≤ y ∧ 1 ≤ w ∧ 1 ≤ h ∧ x + w ≤ W ∧ y + h ≤ H := by
  rw [p_impl_isPartAt_eq] at hh
  simp only [Bool.cond_false_right, Bool.and_eq_true] at hh
  obtain ⟨a, b, c, d, e⟩ := hh
  have a := impl_ValidPicture_t a
  have b := impl_within_t b
  have c := impl_within_t c
  have d := impl_within_t d
  have e := impl_within_t e
  rw [wrap64 (by omega) (by omega)] at d e
  omega
/-! impl_isPartAt: function 153 -/
def E_impl_isPartAt : Env := envOf [(94, S_impl_ValidPicture), (72, S_impl_within)]
def F_impl_isPartAt : List Value → AHeap → (Value → AHeap → Prop) → Prop
  | [.agg ⟨[.int .i64 p_Wide, .int .i64 p_High, .slice p_Lights_a p_Lights_n p_Lights_e]⟩, .int .i64 x, .int .i64 y, .int .i64 wide, .int .i64 high], H, K => T_impl_isPartAt p_Wide p_High p_Lights_a p_Lights_n p_Lights_e x y wide high H fun (r1 : Bool) (H' : AHeap) => K (.bool r1) H'
  | _, _, _ => False
def S_impl_isPartAt : FSpec := { F := F_impl_isPartAt, quiet := false, tame := true }
theorem impl_isPartAt_vc (p_Wide : Int) (p_High : Int) (p_Lights_a : Option Addr) (p_Lights_n : Nat) (p_Lights_e : Nat) (x : Int) (y : Int) (wide : Int) (high : Int) (H : AHeap) (K : Value → AHeap → Prop) : bodyK Try.prog E_impl_isPartAt Try.f153 [.agg #[.int .i64 p_Wide, .int .i64 p_High, .slice p_Lights_a p_Lights_n p_Lights_e], .int .i64 x, .int .i64 y, .int .i64 wide, .int .i64 high] H K =
  (Al [.int .i64 p_Wide, .int .i64 p_High, .slice p_Lights_a p_Lights_n p_Lights_e] H fun b1 H1 => ∃ c1 : Int, ∃ c2 : Int, ∃ c3_a : Option Addr, ∃ c3_n : Nat, ∃ c3_e : Nat,  rdN H1 b1 0 3 = some [.int .i64 c1, .int .i64 c2, .slice c3_a c3_n c3_e] ∧ T_impl_ValidPicture c1 c2 c3_a c3_n c3_e H1 fun (r1 : Bool) (H2 : AHeap) => Br r1 (∃ x1 : Int,  rdC H2 b1 0 = some (.int .i64 x1) ∧ T_impl_within x 0 (IntKind.wrap .i64 (x1 - 1)) H2 fun (r2 : Bool) (H3 : AHeap) => Br r2 (∃ x2 : Int,  rdC H3 b1 1 = some (.int .i64 x2) ∧ T_impl_within y 0 (IntKind.wrap .i64 (x2 - 1)) H3 fun (r3 : Bool) (H4 : AHeap) => Br r3 (∃ x3 : Int,  rdC H4 b1 0 = some (.int .i64 x3) ∧ T_impl_within wide 1 (IntKind.wrap .i64 (x3 - x)) H4 fun (r4 : Bool) (H5 : AHeap) => Br r4 (∃ x4 : Int,  rdC H5 b1 1 = some (.int .i64 x4) ∧ T_impl_within high 1 (IntKind.wrap .i64 (x4 - y)) H5 fun (r5 : Bool) (H6 : AHeap) => K (.bool r5) H6) (K (.bool false) H5)) (K (.bool false) H4)) (K (.bool false) H3)) (K (.bool false) H2)) := by kernel_rfl
theorem E_impl_isPartAt_ok : ∀ g, FnOk Try.prog g (E_impl_isPartAt g) := FnOk.envOf (by
  intro x hx
  simp only [List.mem_cons, List.not_mem_nil, or_false] at hx
  rcases hx with rfl | rfl
  · exact impl_ValidPicture_ok
  · exact impl_within_ok)
set_option maxHeartbeats 1000000 in
theorem impl_isPartAt_main (p_Wide : Int) (p_High : Int) (p_Lights_a : Option Addr) (p_Lights_n : Nat) (p_Lights_e : Nat) (x : Int) (y : Int) (wide : Int) (high : Int) (H : AHeap) (K : Value → AHeap → Prop) (h : T_impl_isPartAt p_Wide p_High p_Lights_a p_Lights_n p_Lights_e x y wide high H fun (r1 : Bool) (H' : AHeap) => K (.bool r1) H') : bodyK Try.prog E_impl_isPartAt Try.f153 [.agg #[.int .i64 p_Wide, .int .i64 p_High, .slice p_Lights_a p_Lights_n p_Lights_e], .int .i64 x, .int .i64 y, .int .i64 wide, .int .i64 high] H K := by
  rw [impl_isPartAt_vc]
  obtain ⟨l_p_Lights, i_p_Lights, bd_21, hk⟩ := h
  obtain rfl := i_p_Lights.eqn
  have e : (p_impl_isPartAt p_Wide p_High l_p_Lights x y wide high) = _ := rfl
  have e := e.trans (p_impl_isPartAt_eq p_Wide p_High l_p_Lights x y wide high)
  have g0 := Grow.refl H
  refine Al.intro (fun b_1 H_1 hb_2 hl_3 g_4 o_5 => ?_)
  have l_7 := g_4.1
  have g_8 := g0.trans g_4
  have l_9 := g_8.1
  have w_20 := o_5.lt
  refine ⟨p_Wide, p_High, p_Lights_a, l_p_Lights.length, p_Lights_e, (o_5.rdN (Nat.le_of_ble_eq_true rfl)).trans rfl, ?_⟩
  refine T_impl_ValidPicture_i ⟨_, (i_p_Lights.grow g_8), (by first | omega | (simp only [List.length_set, List.length_replicate, List.length_append, List.length_cons, List.length_nil, List.length_take, List.length_drop, marks_length]; done) | (simp only [List.length_set, List.length_replicate, List.length_append, List.length_cons, List.length_nil, List.length_take, List.length_drop, marks_length]; omega)), fun  H_2 g_10  => ?_⟩
  have l_11 := g_10.1
  have g_12 := g_8.trans g_10
  have l_13 := g_12.1
  have o_14 := o_5.grow g_10
  have w_15 := o_14.lt
  refine Br.intro (fun c_16 => ?_) (fun c_16 => ?_)
  · have e := e.trans (cond_t c_16)
    have c_16' := impl_ValidPicture_t c_16
    refine ⟨p_Wide, (o_14.rdC _).trans rfl, ?_⟩
    rw [show IntKind.wrap .i64 (p_Wide - 1) = (p_Wide - 1) from wrap64 (by omega) (by omega)]
    refine T_impl_within_i ?_
    refine Br.intro (fun c_17 => ?_) (fun c_17 => ?_)
    · have e := e.trans (cond_t c_17)
      have c_17' := impl_within_t c_17
      refine ⟨p_High, (o_14.rdC _).trans rfl, ?_⟩
      rw [show IntKind.wrap .i64 (p_High - 1) = (p_High - 1) from wrap64 (by omega) (by omega)]
      refine T_impl_within_i ?_
      refine Br.intro (fun c_18 => ?_) (fun c_18 => ?_)
      · have e := e.trans (cond_t c_18)
        have c_18' := impl_within_t c_18
        refine ⟨p_Wide, (o_14.rdC _).trans rfl, ?_⟩
        refine T_impl_within_i ?_
        refine Br.intro (fun c_19 => ?_) (fun c_19 => ?_)
        · have e := e.trans (cond_t c_19)
          have c_19' := impl_within_t c_19
          refine ⟨p_High, (o_14.rdC _).trans rfl, ?_⟩
          refine T_impl_within_i ?_
          rw [e] at hk
          exact hk  H_2 g_12 
        · have e := e.trans (cond_f c_19)
          rw [e] at hk
          exact hk  H_2 g_12 
      · have e := e.trans (cond_f c_18)
        rw [e] at hk
        exact hk  H_2 g_12 
    · have e := e.trans (cond_f c_17)
      rw [e] at hk
      exact hk  H_2 g_12 
  · have e := e.trans (cond_f c_16)
    rw [e] at hk
    exact hk  H_2 g_12 
theorem impl_isPartAt_ok : FnOk Try.prog 153 S_impl_isPartAt := by
  refine FnOk.body mix_ok E_impl_isPartAt_ok Try.func153 rfl (by kernel_rfl) (by kernel_rfl) ?_ ?_ ?_ ?_ ?_
  · intro args H K K' h hk
    simp only [S_impl_isPartAt] at *
    unfold F_impl_isPartAt at *
    split at hk
    · obtain ⟨l_p_Lights, i_p_Lights, bd_21, k⟩ := hk
      exact ⟨l_p_Lights, i_p_Lights, bd_21, (fun  H' gg  => h _ _ (k  H' gg ))⟩
    · exact hk.elim
  · intro hq; cases hq
  · intro args H K hk
    simp only [S_impl_isPartAt] at *
    unfold F_impl_isPartAt at *
    split at hk
    · obtain ⟨l_p_Lights, i_p_Lights, bd_21, k⟩ := hk
      exact ⟨_, _, k H (Grow.refl H)⟩
    · exact hk.elim
  · intro _ args H K hk
    simp only [S_impl_isPartAt] at *
    unfold F_impl_isPartAt at *
    split at hk
    · obtain ⟨l_p_Lights, i_p_Lights, bd_21, k⟩ := hk
      exact ⟨l_p_Lights, i_p_Lights, bd_21, (fun  H' gg  => ⟨gg, k  H' gg ⟩)⟩
    · exact hk.elim
  · have mm := @impl_isPartAt_main
    revert mm
    generalize bodyK Try.prog E_impl_isPartAt Try.f153 = Q
    intro mm args H K hk
    simp only [S_impl_isPartAt] at *
    unfold F_impl_isPartAt at *
    split at hk
    · exact mm _ _ _ _ _ _ _ _ _ H K hk
    · exact hk.elim

def p_impl_CropPicture_1 (u : Int) (v : Int) (cap0p_Wide : Int) (cap0p_High : Int) (l_cap0p_Lights : List Nat) (cap1p : Int) (cap2p : Int) : Nat := ((l_cap0p_Lights).getD (((((((cap1p + v) * cap0p_Wide)) + cap2p)) + u) : Int).toNat 0)
theorem p_impl_CropPicture_1_eq (u : Int) (v : Int) (cap0p_Wide : Int) (cap0p_High : Int) (l_cap0p_Lights : List Nat) (cap1p : Int) (cap2p : Int) : p_impl_CropPicture_1 u v cap0p_Wide cap0p_High l_cap0p_Lights cap1p cap2p = ((l_cap0p_Lights).getD (((((((cap1p + v) * cap0p_Wide)) + cap2p)) + u) : Int).toNat 0) := rfl
def T_impl_CropPicture_1 (u : Int) (v : Int) (cap0 : Nat) (cap1 : Nat) (cap2 : Nat) (H : AHeap) (K : Nat → AHeap → Prop) : Prop := ∃ (cap0p_Wide : Int), ∃ (cap0p_High : Int), ∃ (cap0p_Lights_a : Option Addr), ∃ (cap0p_Lights_n : Nat), ∃ (cap0p_Lights_e : Nat), ∃ (cap1p : Int), ∃ (cap2p : Int), ∃ (l_cap0p_Lights : List Nat), rdN H cap0 0 3 = some [.int .i64 cap0p_Wide, .int .i64 cap0p_High, .slice cap0p_Lights_a cap0p_Lights_n cap0p_Lights_e] ∧ rdN H cap1 0 1 = some [.int .i64 cap1p] ∧ rdN H cap2 0 1 = some [.int .i64 cap2p] ∧ IsL fF H cap0p_Lights_a cap0p_Lights_n l_cap0p_Lights ∧ l_cap0p_Lights.length < 1073741824 ∧ 0 ≤ u ∧ 0 ≤ v ∧ 0 ≤ cap1p ∧ 0 ≤ cap2p ∧ cap2p + u < cap0p_Wide ∧ cap1p + v < cap0p_High ∧ cap0p_Wide ≤ 16 ∧ cap0p_High ≤ 16 ∧ (l_cap0p_Lights.length : Int) = cap0p_Wide * cap0p_High ∧ K (p_impl_CropPicture_1 u v cap0p_Wide cap0p_High l_cap0p_Lights cap1p cap2p) H
theorem T_impl_CropPicture_1_i {u : Int} {v : Int} {cap0 : Nat} {cap1 : Nat} {cap2 : Nat} {H : AHeap} {K : Nat → AHeap → Prop} (h : ∃ (cap0p_Wide : Int), ∃ (cap0p_High : Int), ∃ (cap0p_Lights_a : Option Addr), ∃ (cap0p_Lights_n : Nat), ∃ (cap0p_Lights_e : Nat), ∃ (cap1p : Int), ∃ (cap2p : Int), ∃ (l_cap0p_Lights : List Nat), rdN H cap0 0 3 = some [.int .i64 cap0p_Wide, .int .i64 cap0p_High, .slice cap0p_Lights_a cap0p_Lights_n cap0p_Lights_e] ∧ rdN H cap1 0 1 = some [.int .i64 cap1p] ∧ rdN H cap2 0 1 = some [.int .i64 cap2p] ∧ IsL fF H cap0p_Lights_a cap0p_Lights_n l_cap0p_Lights ∧ l_cap0p_Lights.length < 1073741824 ∧ 0 ≤ u ∧ 0 ≤ v ∧ 0 ≤ cap1p ∧ 0 ≤ cap2p ∧ cap2p + u < cap0p_Wide ∧ cap1p + v < cap0p_High ∧ cap0p_Wide ≤ 16 ∧ cap0p_High ≤ 16 ∧ (l_cap0p_Lights.length : Int) = cap0p_Wide * cap0p_High ∧ K (p_impl_CropPicture_1 u v cap0p_Wide cap0p_High l_cap0p_Lights cap1p cap2p) H) : T_impl_CropPicture_1 u v cap0 cap1 cap2 H K := h
theorem impl_CropPicture_1_is (u v W H : Int) (L : List Nat) (y x : Int) : p_impl_CropPicture_1 u v W H L y x = cropF L x y W u v := by rw [p_impl_CropPicture_1_eq]; rfl
/-! impl_CropPicture_1: function 155 -/
def E_impl_CropPicture_1 : Env := envOf []
def F_impl_CropPicture_1 : List Value → AHeap → (Value → AHeap → Prop) → Prop
  | [.int .i64 u, .int .i64 v, .pointer (some ⟨cap0, 0, none⟩), .pointer (some ⟨cap1, 0, none⟩), .pointer (some ⟨cap2, 0, none⟩)], H, K => T_impl_CropPicture_1 u v cap0 cap1 cap2 H fun (r1 : Nat) (H' : AHeap) => K (.float .f32 r1) H'
  | _, _, _ => False
def S_impl_CropPicture_1 : FSpec := { F := F_impl_CropPicture_1, quiet := true, tame := false }
theorem impl_CropPicture_1_vc (u : Int) (v : Int) (cap0 : Nat) (cap1 : Nat) (cap2 : Nat) (H : AHeap) (K : Value → AHeap → Prop) : bodyK Try.prog E_impl_CropPicture_1 Try.f155 [.int .i64 u, .int .i64 v, .pointer (some ⟨cap0, 0, none⟩), .pointer (some ⟨cap1, 0, none⟩), .pointer (some ⟨cap2, 0, none⟩)] H K =
  (∃ x1_a : Option Addr, ∃ x1_n : Nat, ∃ x1_e : Nat,  rdC H cap0 2 = some (.slice x1_a x1_n x1_e) ∧ ∃ x2 : Int,  rdC H cap1 0 = some (.int .i64 x2) ∧ ∃ x3 : Int,  rdC H cap0 0 = some (.int .i64 x3) ∧ ∃ x4 : Int,  rdC H cap2 0 = some (.int .i64 x4) ∧ (0 : Int) ≤ IntKind.wrap .i64 ((IntKind.wrap .i64 ((IntKind.wrap .i64 ((IntKind.wrap .i64 (x2 + v)) * x3)) + x4)) + u) ∧ IntKind.wrap .i64 ((IntKind.wrap .i64 ((IntKind.wrap .i64 ((IntKind.wrap .i64 (x2 + v)) * x3)) + x4)) + u) < (x1_n : Int) ∧ ∃ b1 f1, (x1_a : Option Addr) = some ⟨b1, f1, none⟩ ∧ ∃ x5 : Nat,  rdC H b1 (f1 + (IntKind.wrap .i64 ((IntKind.wrap .i64 ((IntKind.wrap .i64 ((IntKind.wrap .i64 (x2 + v)) * x3)) + x4)) + u) : Int).toNat * 1) = some (.float .f32 x5) ∧ K (.float .f32 x5) H) := by kernel_rfl
theorem E_impl_CropPicture_1_ok : ∀ g, FnOk Try.prog g (E_impl_CropPicture_1 g) := FnOk.envOf (by
  intro x hx; cases hx)
set_option maxHeartbeats 1000000 in
theorem impl_CropPicture_1_main (u : Int) (v : Int) (cap0 : Nat) (cap1 : Nat) (cap2 : Nat) (H : AHeap) (K : Value → AHeap → Prop) (h : T_impl_CropPicture_1 u v cap0 cap1 cap2 H fun (r1 : Nat) (H' : AHeap) => K (.float .f32 r1) H') : bodyK Try.prog E_impl_CropPicture_1 Try.f155 [.int .i64 u, .int .i64 v, .pointer (some ⟨cap0, 0, none⟩), .pointer (some ⟨cap1, 0, none⟩), .pointer (some ⟨cap2, 0, none⟩)] H K := by
  rw [impl_CropPicture_1_vc]
  obtain ⟨cap0p_Wide, cap0p_High, cap0p_Lights_a, cap0p_Lights_n, cap0p_Lights_e, cap1p, cap2p, l_cap0p_Lights, i_cap0, i_cap1, i_cap2, i_cap0p_Lights, bd_4, pr0, pr1, pr2, pr3, pr4, pr5, pr6, pr7, pr8, hk⟩ := h
  obtain rfl := i_cap0p_Lights.eqn
  have zz := crop_idx (x := cap2p) (y := cap1p) (u := u) (v := v) (W := cap0p_Wide) (H := cap0p_High) (by omega) (by omega) (by omega) (by omega) (by omega) (by omega)
  have e : (p_impl_CropPicture_1 u v cap0p_Wide cap0p_High l_cap0p_Lights cap1p cap2p) = _ := rfl
  have e := e.trans (p_impl_CropPicture_1_eq u v cap0p_Wide cap0p_High l_cap0p_Lights cap1p cap2p)
  have g0 := Grow.refl H
  refine ⟨cap0p_Lights_a, l_cap0p_Lights.length, cap0p_Lights_e, (rdN_at (rdN_grow g0 i_cap0) 2 (Nat.le_of_ble_eq_true rfl)).trans rfl, ?_⟩
  refine ⟨cap1p, (rdN_at (rdN_grow g0 i_cap1) 0 (Nat.le_of_ble_eq_true rfl)).trans rfl, ?_⟩
  rw [show IntKind.wrap .i64 (cap1p + v) = (cap1p + v) from wrap64 (by omega) (by omega)]
  refine ⟨cap0p_Wide, (rdN_at (rdN_grow g0 i_cap0) 0 (Nat.le_of_ble_eq_true rfl)).trans rfl, ?_⟩
  rw [show IntKind.wrap .i64 ((cap1p + v) * cap0p_Wide) = ((cap1p + v) * cap0p_Wide) from wrap64 (by omega) (by omega)]
  refine ⟨cap2p, (rdN_at (rdN_grow g0 i_cap2) 0 (Nat.le_of_ble_eq_true rfl)).trans rfl, ?_⟩
  rw [show IntKind.wrap .i64 ((((cap1p + v) * cap0p_Wide)) + cap2p) = ((((cap1p + v) * cap0p_Wide)) + cap2p) from wrap64 (by omega) (by omega)]
  rw [show IntKind.wrap .i64 ((((((cap1p + v) * cap0p_Wide)) + cap2p)) + u) = ((((((cap1p + v) * cap0p_Wide)) + cap2p)) + u) from wrap64 (by omega) (by omega)]
  obtain ⟨b_1, f_2, q_3⟩ := ((i_cap0p_Lights.grow g0)).pos (by first | omega | (simp only [List.length_set, List.length_replicate, List.length_append, List.length_cons, List.length_nil, List.length_take, List.length_drop, marks_length]; done) | (simp only [List.length_set, List.length_replicate, List.length_append, List.length_cons, List.length_nil, List.length_take, List.length_drop, marks_length]; omega))
  refine ⟨by omega, by omega, b_1, f_2, q_3, ?_⟩
  refine ⟨((l_cap0p_Lights).getD (((((((cap1p + v) * cap0p_Wide)) + cap2p)) + u) : Int).toNat 0), (i_cap0p_Lights).rd g0 q_3 (by omega) _, ?_⟩
  rw [e] at hk
  exact hk
theorem impl_CropPicture_1_ok : FnOk Try.prog 155 S_impl_CropPicture_1 := by
  refine FnOk.body mix_ok E_impl_CropPicture_1_ok Try.func155 rfl (by kernel_rfl) (by kernel_rfl) ?_ ?_ ?_ ?_ ?_
  · intro args H K K' h hk
    simp only [S_impl_CropPicture_1] at *
    unfold F_impl_CropPicture_1 at *
    split at hk
    · obtain ⟨cap0p_Wide, cap0p_High, cap0p_Lights_a, cap0p_Lights_n, cap0p_Lights_e, cap1p, cap2p, l_cap0p_Lights, i_cap0, i_cap1, i_cap2, i_cap0p_Lights, bd_4, pr0, pr1, pr2, pr3, pr4, pr5, pr6, pr7, pr8, k⟩ := hk
      exact ⟨cap0p_Wide, cap0p_High, cap0p_Lights_a, cap0p_Lights_n, cap0p_Lights_e, cap1p, cap2p, l_cap0p_Lights, i_cap0, i_cap1, i_cap2, i_cap0p_Lights, bd_4, pr0, pr1, pr2, pr3, pr4, pr5, pr6, pr7, pr8, h _ _ k⟩
    · exact hk.elim
  · intro _ args H K hk
    simp only [S_impl_CropPicture_1] at *
    unfold F_impl_CropPicture_1 at *
    split at hk
    · obtain ⟨cap0p_Wide, cap0p_High, cap0p_Lights_a, cap0p_Lights_n, cap0p_Lights_e, cap1p, cap2p, l_cap0p_Lights, i_cap0, i_cap1, i_cap2, i_cap0p_Lights, bd_4, pr0, pr1, pr2, pr3, pr4, pr5, pr6, pr7, pr8, k⟩ := hk
      exact ⟨_, k, fun K' k' => ⟨cap0p_Wide, cap0p_High, cap0p_Lights_a, cap0p_Lights_n, cap0p_Lights_e, cap1p, cap2p, l_cap0p_Lights, i_cap0, i_cap1, i_cap2, i_cap0p_Lights, bd_4, pr0, pr1, pr2, pr3, pr4, pr5, pr6, pr7, pr8, k'⟩⟩
    · exact hk.elim
  · intro args H K hk
    simp only [S_impl_CropPicture_1] at *
    unfold F_impl_CropPicture_1 at *
    split at hk
    · obtain ⟨cap0p_Wide, cap0p_High, cap0p_Lights_a, cap0p_Lights_n, cap0p_Lights_e, cap1p, cap2p, l_cap0p_Lights, i_cap0, i_cap1, i_cap2, i_cap0p_Lights, bd_4, pr0, pr1, pr2, pr3, pr4, pr5, pr6, pr7, pr8, k⟩ := hk
      exact ⟨_, _, k⟩
    · exact hk.elim
  · intro hq; cases hq
  · have mm := @impl_CropPicture_1_main
    revert mm
    generalize bodyK Try.prog E_impl_CropPicture_1 Try.f155 = Q
    intro mm args H K hk
    simp only [S_impl_CropPicture_1] at *
    unfold F_impl_CropPicture_1 at *
    split at hk
    · exact mm _ _ _ _ _ H K hk
    · exact hk.elim

def p_impl_validPicture (p_Wide : Int) (p_High : Int) (l_p_Lights : List Nat) : Int × Int × (List Nat) × Bool := (bif !(p_impl_ValidPicture p_Wide p_High l_p_Lights) then ((0 : Int), (0 : Int), [], false) else (p_Wide, p_High, l_p_Lights, true))
theorem p_impl_validPicture_eq (p_Wide : Int) (p_High : Int) (l_p_Lights : List Nat) : p_impl_validPicture p_Wide p_High l_p_Lights = (bif !(p_impl_ValidPicture p_Wide p_High l_p_Lights) then ((0 : Int), (0 : Int), [], false) else (p_Wide, p_High, l_p_Lights, true)) := rfl
def T_impl_validPicture (p_Wide : Int) (p_High : Int) (p_Lights_a : Option Addr) (p_Lights_n : Nat) (p_Lights_e : Nat) (H : AHeap) (K : Int → Int → (Option Addr) → Nat → Nat → Bool → AHeap → Prop) : Prop := ∃ (l_p_Lights : List Nat), IsL fF H p_Lights_a p_Lights_n l_p_Lights ∧ l_p_Lights.length < 1073741824 ∧ ((∀ H' : AHeap, Grow H H' → Br ((p_impl_validPicture p_Wide p_High l_p_Lights).2.2.2) (K p_Wide p_High p_Lights_a p_Lights_n p_Lights_e true H') (K 0 0 none 0 0 false H')))
theorem T_impl_validPicture_i {p_Wide : Int} {p_High : Int} {p_Lights_a : Option Addr} {p_Lights_n : Nat} {p_Lights_e : Nat} {H : AHeap} {K : Int → Int → (Option Addr) → Nat → Nat → Bool → AHeap → Prop} (h : ∃ (l_p_Lights : List Nat), IsL fF H p_Lights_a p_Lights_n l_p_Lights ∧ l_p_Lights.length < 1073741824 ∧ ((∀ H' : AHeap, Grow H H' → Br ((p_impl_validPicture p_Wide p_High l_p_Lights).2.2.2) (K p_Wide p_High p_Lights_a p_Lights_n p_Lights_e true H') (K 0 0 none 0 0 false H')))) : T_impl_validPicture p_Wide p_High p_Lights_a p_Lights_n p_Lights_e H K := h

/-! impl_validPicture: function 158 -/
def E_impl_validPicture : Env := envOf [(94, S_impl_ValidPicture)]
def F_impl_validPicture : List Value → AHeap → (Value → AHeap → Prop) → Prop
  | [.agg ⟨[.int .i64 p_Wide, .int .i64 p_High, .slice p_Lights_a p_Lights_n p_Lights_e]⟩], H, K => T_impl_validPicture p_Wide p_High p_Lights_a p_Lights_n p_Lights_e H fun (r1_Wide : Int) (r1_High : Int) (r1_Lights_a : Option Addr) (r1_Lights_n : Nat) (r1_Lights_e : Nat) (r2 : Bool) (H' : AHeap) => K (.tuple #[.agg #[.int .i64 r1_Wide, .int .i64 r1_High, .slice r1_Lights_a r1_Lights_n r1_Lights_e], .bool r2]) H'
  | _, _, _ => False
def S_impl_validPicture : FSpec := { F := F_impl_validPicture, quiet := false, tame := true }
theorem impl_validPicture_vc (p_Wide : Int) (p_High : Int) (p_Lights_a : Option Addr) (p_Lights_n : Nat) (p_Lights_e : Nat) (H : AHeap) (K : Value → AHeap → Prop) : bodyK Try.prog E_impl_validPicture Try.f158 [.agg #[.int .i64 p_Wide, .int .i64 p_High, .slice p_Lights_a p_Lights_n p_Lights_e]] H K =
  (Al [.int .i64 p_Wide, .int .i64 p_High, .slice p_Lights_a p_Lights_n p_Lights_e] H fun b1 H1 => Al [.int .i64 0, .int .i64 0, .slice none 0 0] H1 fun b2 H2 => ∃ c1 : Int, ∃ c2 : Int, ∃ c3_a : Option Addr, ∃ c3_n : Nat, ∃ c3_e : Nat,  rdN H2 b1 0 3 = some [.int .i64 c1, .int .i64 c2, .slice c3_a c3_n c3_e] ∧ T_impl_ValidPicture c1 c2 c3_a c3_n c3_e H2 fun (r1 : Bool) (H3 : AHeap) => Br (!r1) (isOwn H3 b2 ∧ (∃ l, rdN H3 b2 0 3 = some l) ∧ Lt (setN H3 b2 0 [.int .i64 0, .int .i64 0, .slice none 0 0]) fun H4 => ∃ c4 : Int, ∃ c5 : Int, ∃ c6_a : Option Addr, ∃ c6_n : Nat, ∃ c6_e : Nat,  rdN H4 b2 0 3 = some [.int .i64 c4, .int .i64 c5, .slice c6_a c6_n c6_e] ∧ K (.tuple #[.agg #[.int .i64 c4, .int .i64 c5, .slice c6_a c6_n c6_e], .bool false]) H4) (∃ c7 : Int, ∃ c8 : Int, ∃ c9_a : Option Addr, ∃ c9_n : Nat, ∃ c9_e : Nat,  rdN H3 b1 0 3 = some [.int .i64 c7, .int .i64 c8, .slice c9_a c9_n c9_e] ∧ isOwn H3 b2 ∧ (∃ l, rdN H3 b2 0 3 = some l) ∧ Lt (setN H3 b2 0 [.int .i64 c7, .int .i64 c8, .slice c9_a c9_n c9_e]) fun H5 => ∃ c10 : Int, ∃ c11 : Int, ∃ c12_a : Option Addr, ∃ c12_n : Nat, ∃ c12_e : Nat,  rdN H5 b2 0 3 = some [.int .i64 c10, .int .i64 c11, .slice c12_a c12_n c12_e] ∧ K (.tuple #[.agg #[.int .i64 c10, .int .i64 c11, .slice c12_a c12_n c12_e], .bool true]) H5)) := by kernel_rfl
theorem E_impl_validPicture_ok : ∀ g, FnOk Try.prog g (E_impl_validPicture g) := FnOk.envOf (by
  intro x hx
  simp only [List.mem_cons, List.not_mem_nil, or_false] at hx
  subst hx; exact impl_ValidPicture_ok)
set_option maxHeartbeats 1000000 in
theorem impl_validPicture_main (p_Wide : Int) (p_High : Int) (p_Lights_a : Option Addr) (p_Lights_n : Nat) (p_Lights_e : Nat) (H : AHeap) (K : Value → AHeap → Prop) (h : T_impl_validPicture p_Wide p_High p_Lights_a p_Lights_n p_Lights_e H fun (r1_Wide : Int) (r1_High : Int) (r1_Lights_a : Option Addr) (r1_Lights_n : Nat) (r1_Lights_e : Nat) (r2 : Bool) (H' : AHeap) => K (.tuple #[.agg #[.int .i64 r1_Wide, .int .i64 r1_High, .slice r1_Lights_a r1_Lights_n r1_Lights_e], .bool r2]) H') : bodyK Try.prog E_impl_validPicture Try.f158 [.agg #[.int .i64 p_Wide, .int .i64 p_High, .slice p_Lights_a p_Lights_n p_Lights_e]] H K := by
  rw [impl_validPicture_vc]
  obtain ⟨l_p_Lights, i_p_Lights, bd_50, hk⟩ := h
  obtain rfl := i_p_Lights.eqn
  have e : (p_impl_validPicture p_Wide p_High l_p_Lights) = _ := rfl
  have e := e.trans (p_impl_validPicture_eq p_Wide p_High l_p_Lights)
  have g0 := Grow.refl H
  refine Al.intro (fun b_1 H_1 hb_2 hl_3 g_4 o_5 => ?_)
  have l_7 := g_4.1
  have g_8 := g0.trans g_4
  have l_9 := g_8.1
  have w_49 := o_5.lt
  refine Al.intro (fun b_10 H_2 hb_11 hl_12 g_13 o_14 => ?_)
  have l_16 := g_13.1
  have g_17 := g_8.trans g_13
  have l_18 := g_17.1
  have o_19 := o_5.grow g_13
  have w_20 := o_19.lt
  have w_48 := o_14.lt
  refine ⟨p_Wide, p_High, p_Lights_a, l_p_Lights.length, p_Lights_e, (o_19.rdN (Nat.le_of_ble_eq_true rfl)).trans rfl, ?_⟩
  refine T_impl_ValidPicture_i ⟨_, (i_p_Lights.grow g_17), (by first | omega | (simp only [List.length_set, List.length_replicate, List.length_append, List.length_cons, List.length_nil, List.length_take, List.length_drop, marks_length]; done) | (simp only [List.length_set, List.length_replicate, List.length_append, List.length_cons, List.length_nil, List.length_take, List.length_drop, marks_length]; omega)), fun  H_3 g_21  => ?_⟩
  have l_22 := g_21.1
  have g_23 := g_17.trans g_21
  have l_24 := g_23.1
  have o_25 := o_19.grow g_21
  have w_26 := o_25.lt
  have o_27 := o_14.grow g_21
  have w_28 := o_27.lt
  refine Br.intro (fun c_29 => ?_) (fun c_29 => ?_)
  · have e := e.trans (cond_t c_29)
    have c_29n := nf_of_t c_29
    refine Lt.setN (n := 3) o_27 (Nat.le_of_ble_eq_true rfl) rfl (fun H_4 hl_30 o_32 k_31 => ?_)
    have o_32 : Own H_4 b_10 [.int .i64 0, .int .i64 0, .slice none 0 0] := o_32
    have l_33 := k_31.1
    have g_34 := g_23.keep (b := b_10) (by omega) k_31
    have l_35 := g_34.1
    have o_36 := o_25.keep (by omega) k_31
    have w_37 := o_36.lt
    have w_38 := o_32.lt
    refine ⟨0, 0, none, 0, 0, (o_32.rdN (Nat.le_of_ble_eq_true rfl)).trans rfl, ?_⟩
    have q := hk H_4 g_34
    rw [e] at q
    exact q
  · have e := e.trans (cond_f c_29)
    have c_29n := nt_of_f c_29
    have c_29n' := impl_ValidPicture_t c_29n
    refine ⟨p_Wide, p_High, p_Lights_a, l_p_Lights.length, p_Lights_e, (o_25.rdN (Nat.le_of_ble_eq_true rfl)).trans rfl, ?_⟩
    refine Lt.setN (n := 3) o_27 (Nat.le_of_ble_eq_true rfl) rfl (fun H_5 hl_39 o_41 k_40 => ?_)
    have o_41 : Own H_5 b_10 [.int .i64 p_Wide, .int .i64 p_High, .slice p_Lights_a l_p_Lights.length p_Lights_e] := o_41
    have l_42 := k_40.1
    have g_43 := g_23.keep (b := b_10) (by omega) k_40
    have l_44 := g_43.1
    have o_45 := o_25.keep (by omega) k_40
    have w_46 := o_45.lt
    have w_47 := o_41.lt
    refine ⟨p_Wide, p_High, p_Lights_a, l_p_Lights.length, p_Lights_e, (o_41.rdN (Nat.le_of_ble_eq_true rfl)).trans rfl, ?_⟩
    have q := hk H_5 g_43
    rw [e] at q
    exact q
theorem impl_validPicture_ok : FnOk Try.prog 158 S_impl_validPicture := by
  refine FnOk.body mix_ok E_impl_validPicture_ok Try.func158 rfl (by kernel_rfl) (by kernel_rfl) ?_ ?_ ?_ ?_ ?_
  · intro args H K K' h hk
    simp only [S_impl_validPicture] at *
    unfold F_impl_validPicture at *
    split at hk
    · obtain ⟨l_p_Lights, i_p_Lights, bd_50, k⟩ := hk
      exact ⟨l_p_Lights, i_p_Lights, bd_50, (fun H' gg => Br_mono (h _ _) (h _ _) (k H' gg))⟩
    · exact hk.elim
  · intro hq; cases hq
  · intro args H K hk
    simp only [S_impl_validPicture] at *
    unfold F_impl_validPicture at *
    split at hk
    · obtain ⟨l_p_Lights, i_p_Lights, bd_50, k⟩ := hk
      exact Br_live (k H (Grow.refl H))
    · exact hk.elim
  · intro _ args H K hk
    simp only [S_impl_validPicture] at *
    unfold F_impl_validPicture at *
    split at hk
    · obtain ⟨l_p_Lights, i_p_Lights, bd_50, k⟩ := hk
      exact ⟨l_p_Lights, i_p_Lights, bd_50, (fun H' gg => Br_mono (fun q => ⟨gg, q⟩) (fun q => ⟨gg, q⟩) (k H' gg))⟩
    · exact hk.elim
  · have mm := @impl_validPicture_main
    revert mm
    generalize bodyK Try.prog E_impl_validPicture Try.f158 = Q
    intro mm args H K hk
    simp only [S_impl_validPicture] at *
    unfold F_impl_validPicture at *
    split at hk
    · exact mm _ _ _ _ _ H K hk
    · exact hk.elim

def p_impl_pictureBy_l2 (wide : Int) (high : Int) (light_c0p_Wide : Int) (light_c0p_High : Int) (l_light_c0p_Lights : List Nat) (light_c1p : Int) (light_c2p : Int) (t24 : Int) (q1_1 : Int) (q1_2 : Int) (q1_4 : Int) (q1_5 : Int) (q1_6 : List Nat) (k2_2 : Int → Int → Int → (List Nat) → (Int × Int × (List Nat) × Bool)) : Nat → Int → Int → Int → (List Nat) → Int × Int × (List Nat) × Bool
  | 0, _, _, _, _ => (0, 0, [], false)
  | μ2 + 1, t28, q2_1, q2_2, q2_3 => (bif decide ((t28 : Int) < wide) then (p_impl_pictureBy_l2 wide high light_c0p_Wide light_c0p_High l_light_c0p_Lights light_c1p light_c2p t24 q1_1 q1_2 q1_4 q1_5 q1_6 k2_2 μ2 (t28 + 1) q2_1 q2_2 ((q2_3 ++ [(p_impl_CropPicture_1 t28 t24 light_c0p_Wide light_c0p_High l_light_c0p_Lights light_c1p light_c2p)]))) else (k2_2 t28 q2_1 q2_2 q2_3))
theorem p_impl_pictureBy_l2_s (wide : Int) (high : Int) (light_c0p_Wide : Int) (light_c0p_High : Int) (l_light_c0p_Lights : List Nat) (light_c1p : Int) (light_c2p : Int) (t24 : Int) (q1_1 : Int) (q1_2 : Int) (q1_4 : Int) (q1_5 : Int) (q1_6 : List Nat) (k2_2 : Int → Int → Int → (List Nat) → (Int × Int × (List Nat) × Bool)) (μ2 : Nat) (t28 : Int) (q2_1 : Int) (q2_2 : Int) (q2_3 : List Nat) : p_impl_pictureBy_l2 wide high light_c0p_Wide light_c0p_High l_light_c0p_Lights light_c1p light_c2p t24 q1_1 q1_2 q1_4 q1_5 q1_6 k2_2 (μ2 + 1) t28 q2_1 q2_2 q2_3 = (bif decide ((t28 : Int) < wide) then (p_impl_pictureBy_l2 wide high light_c0p_Wide light_c0p_High l_light_c0p_Lights light_c1p light_c2p t24 q1_1 q1_2 q1_4 q1_5 q1_6 k2_2 μ2 (t28 + 1) q2_1 q2_2 ((q2_3 ++ [(p_impl_CropPicture_1 t28 t24 light_c0p_Wide light_c0p_High l_light_c0p_Lights light_c1p light_c2p)]))) else (k2_2 t28 q2_1 q2_2 q2_3)) := rfl
def p_impl_pictureBy_l1 (wide : Int) (high : Int) (light_c0p_Wide : Int) (light_c0p_High : Int) (l_light_c0p_Lights : List Nat) (light_c1p : Int) (light_c2p : Int) : Nat → Int → Int → Int → Int → Int → (List Nat) → Int × Int × (List Nat) × Bool
  | 0, _, _, _, _, _, _ => (0, 0, [], false)
  | μ + 1, t24, q1_1, q1_2, q1_4, q1_5, q1_6 => (bif decide ((t24 : Int) < high) then (p_impl_pictureBy_l2 wide high light_c0p_Wide light_c0p_High l_light_c0p_Lights light_c1p light_c2p t24 q1_1 q1_2 q1_4 q1_5 q1_6 (fun (t28 : Int) (q2_1 : Int) (q2_2 : Int) (q2_3 : List Nat) => (p_impl_pictureBy_l1 wide high light_c0p_Wide light_c0p_High l_light_c0p_Lights light_c1p light_c2p μ (t24 + 1) q1_1 q1_2 q2_1 q2_2 q2_3)) (Int.toNat (wide - (0 : Int)) + 1) (0 : Int) q1_4 q1_5 q1_6) else (bif (p_impl_validPicture q1_4 q1_5 q1_6).2.2.2 then (q1_4, q1_5, q1_6, true) else (0, 0, [], false)))
theorem p_impl_pictureBy_l1_s (wide : Int) (high : Int) (light_c0p_Wide : Int) (light_c0p_High : Int) (l_light_c0p_Lights : List Nat) (light_c1p : Int) (light_c2p : Int) (μ : Nat) (t24 : Int) (q1_1 : Int) (q1_2 : Int) (q1_4 : Int) (q1_5 : Int) (q1_6 : List Nat) : p_impl_pictureBy_l1 wide high light_c0p_Wide light_c0p_High l_light_c0p_Lights light_c1p light_c2p (μ + 1) t24 q1_1 q1_2 q1_4 q1_5 q1_6 = (bif decide ((t24 : Int) < high) then (p_impl_pictureBy_l2 wide high light_c0p_Wide light_c0p_High l_light_c0p_Lights light_c1p light_c2p t24 q1_1 q1_2 q1_4 q1_5 q1_6 (fun (t28 : Int) (q2_1 : Int) (q2_2 : Int) (q2_3 : List Nat) => (p_impl_pictureBy_l1 wide high light_c0p_Wide light_c0p_High l_light_c0p_Lights light_c1p light_c2p μ (t24 + 1) q1_1 q1_2 q2_1 q2_2 q2_3)) (Int.toNat (wide - (0 : Int)) + 1) (0 : Int) q1_4 q1_5 q1_6) else (bif (p_impl_validPicture q1_4 q1_5 q1_6).2.2.2 then (q1_4, q1_5, q1_6, true) else (0, 0, [], false))) := rfl
def p_impl_pictureBy (wide : Int) (high : Int) (light_c0p_Wide : Int) (light_c0p_High : Int) (l_light_c0p_Lights : List Nat) (light_c1p : Int) (light_c2p : Int) : Int × Int × (List Nat) × Bool := (bif !((p_impl_within wide (1 : Int) (16 : Int))) then ((0 : Int), (0 : Int), [], false) else (bif !((p_impl_within high (1 : Int) (16 : Int))) then ((0 : Int), (0 : Int), [], false) else (p_impl_pictureBy_l1 wide high light_c0p_Wide light_c0p_High l_light_c0p_Lights light_c1p light_c2p (Int.toNat (high - (0 : Int)) + 1) (0 : Int) 0 0 wide high ([]))))
theorem p_impl_pictureBy_eq (wide : Int) (high : Int) (light_c0p_Wide : Int) (light_c0p_High : Int) (l_light_c0p_Lights : List Nat) (light_c1p : Int) (light_c2p : Int) : p_impl_pictureBy wide high light_c0p_Wide light_c0p_High l_light_c0p_Lights light_c1p light_c2p = (bif !((p_impl_within wide (1 : Int) (16 : Int))) then ((0 : Int), (0 : Int), [], false) else (bif !((p_impl_within high (1 : Int) (16 : Int))) then ((0 : Int), (0 : Int), [], false) else (p_impl_pictureBy_l1 wide high light_c0p_Wide light_c0p_High l_light_c0p_Lights light_c1p light_c2p (Int.toNat (high - (0 : Int)) + 1) (0 : Int) 0 0 wide high ([])))) := rfl
def T_impl_pictureBy (wide : Int) (high : Int) (light_c0 : Nat) (light_c1 : Nat) (light_c2 : Nat) (H : AHeap) (K : Int → Int → (Option Addr) → Nat → Nat → Bool → AHeap → Prop) : Prop := ∃ (light_c0p_Wide : Int), ∃ (light_c0p_High : Int), ∃ (light_c0p_Lights_a : Option Addr), ∃ (light_c0p_Lights_n : Nat), ∃ (light_c0p_Lights_e : Nat), ∃ (light_c1p : Int), ∃ (light_c2p : Int), ∃ (l_light_c0p_Lights : List Nat), rdN H light_c0 0 3 = some [.int .i64 light_c0p_Wide, .int .i64 light_c0p_High, .slice light_c0p_Lights_a light_c0p_Lights_n light_c0p_Lights_e] ∧ rdN H light_c1 0 1 = some [.int .i64 light_c1p] ∧ rdN H light_c2 0 1 = some [.int .i64 light_c2p] ∧ IsL fF H light_c0p_Lights_a light_c0p_Lights_n l_light_c0p_Lights ∧ l_light_c0p_Lights.length < 1073741824 ∧ 0 ≤ light_c1p ∧ 0 ≤ light_c2p ∧ light_c2p + wide ≤ light_c0p_Wide ∧ light_c1p + high ≤ light_c0p_High ∧ light_c0p_Wide ≤ 16 ∧ light_c0p_High ≤ 16 ∧ (l_light_c0p_Lights.length : Int) = light_c0p_Wide * light_c0p_High ∧ ((∀ (r1_Lights_a : Option Addr) (r1_Lights_n r1_Lights_e : Nat), ∀ H' : AHeap, Grow H H' → OwnS fF H' H.length r1_Lights_a r1_Lights_n r1_Lights_e ((p_impl_pictureBy wide high light_c0p_Wide light_c0p_High l_light_c0p_Lights light_c1p light_c2p).2.2.1) → K ((p_impl_pictureBy wide high light_c0p_Wide light_c0p_High l_light_c0p_Lights light_c1p light_c2p).1) ((p_impl_pictureBy wide high light_c0p_Wide light_c0p_High l_light_c0p_Lights light_c1p light_c2p).2.1) r1_Lights_a r1_Lights_n r1_Lights_e ((p_impl_pictureBy wide high light_c0p_Wide light_c0p_High l_light_c0p_Lights light_c1p light_c2p).2.2.2) H'))
theorem T_impl_pictureBy_i {wide : Int} {high : Int} {light_c0 : Nat} {light_c1 : Nat} {light_c2 : Nat} {H : AHeap} {K : Int → Int → (Option Addr) → Nat → Nat → Bool → AHeap → Prop} (h : ∃ (light_c0p_Wide : Int), ∃ (light_c0p_High : Int), ∃ (light_c0p_Lights_a : Option Addr), ∃ (light_c0p_Lights_n : Nat), ∃ (light_c0p_Lights_e : Nat), ∃ (light_c1p : Int), ∃ (light_c2p : Int), ∃ (l_light_c0p_Lights : List Nat), rdN H light_c0 0 3 = some [.int .i64 light_c0p_Wide, .int .i64 light_c0p_High, .slice light_c0p_Lights_a light_c0p_Lights_n light_c0p_Lights_e] ∧ rdN H light_c1 0 1 = some [.int .i64 light_c1p] ∧ rdN H light_c2 0 1 = some [.int .i64 light_c2p] ∧ IsL fF H light_c0p_Lights_a light_c0p_Lights_n l_light_c0p_Lights ∧ l_light_c0p_Lights.length < 1073741824 ∧ 0 ≤ light_c1p ∧ 0 ≤ light_c2p ∧ light_c2p + wide ≤ light_c0p_Wide ∧ light_c1p + high ≤ light_c0p_High ∧ light_c0p_Wide ≤ 16 ∧ light_c0p_High ≤ 16 ∧ (l_light_c0p_Lights.length : Int) = light_c0p_Wide * light_c0p_High ∧ ((∀ (r1_Lights_a : Option Addr) (r1_Lights_n r1_Lights_e : Nat), ∀ H' : AHeap, Grow H H' → OwnS fF H' H.length r1_Lights_a r1_Lights_n r1_Lights_e ((p_impl_pictureBy wide high light_c0p_Wide light_c0p_High l_light_c0p_Lights light_c1p light_c2p).2.2.1) → K ((p_impl_pictureBy wide high light_c0p_Wide light_c0p_High l_light_c0p_Lights light_c1p light_c2p).1) ((p_impl_pictureBy wide high light_c0p_Wide light_c0p_High l_light_c0p_Lights light_c1p light_c2p).2.1) r1_Lights_a r1_Lights_n r1_Lights_e ((p_impl_pictureBy wide high light_c0p_Wide light_c0p_High l_light_c0p_Lights light_c1p light_c2p).2.2.2) H'))) : T_impl_pictureBy wide high light_c0 light_c1 light_c2 H K := h
theorem picBy_in (wide high W H : Int) (L : List Nat) (y x t24 a b c d : Int) (o : List Nat) (g : Int → Int → List Nat → Int × Int × List Nat × Bool) (w : Nat) (hw : wide = w) : ∀ (μ i : Nat) (q1 q2 : Int), i ≤ w → w - i ≤ μ →
    ∀ o', o' = o ++ rowL i (fun u => p_impl_CropPicture_1 u t24 W H L y x) →
    p_impl_pictureBy_l2 wide high W H L y x t24 a b c d o (fun _ p q r => g p q r) (μ + 1) (i : Int) q1 q2 o' = g q1 q2 (o ++ rowL w (fun u => p_impl_CropPicture_1 u t24 W H L y x)) := by
  intro μ
  induction μ with
  | zero =>
    intro i q1 q2 h1 h2 o' ho
    rw [p_impl_pictureBy_l2_s, decide_eq_false (by omega), cond_false, ho, show i = w by omega]
  | succ μ ih =>
    intro i q1 q2 h1 h2 o' ho
    rw [p_impl_pictureBy_l2_s]
    by_cases h : i < w
    · rw [decide_eq_true (by omega), cond_true, show (i : Int) + 1 = ((i + 1 : Nat) : Int) by omega]
      refine ih (i + 1) q1 q2 (by omega) (by omega) _ ?_
      rw [ho]
      unfold rowL
      rw [List.range_succ, List.map_append, List.append_assoc]; rfl
    · rw [decide_eq_false (by omega), cond_false, ho, show i = w by omega]
theorem picBy_out (wide high W H : Int) (L : List Nat) (y x : Int) (w h : Nat) (hw : wide = w) (hh : high = h) : ∀ (μ j : Nat) (a b : Int), j ≤ h → h - j ≤ μ →
    ∀ o, o = picL w j (fun u v => p_impl_CropPicture_1 u v W H L y x) →
    p_impl_pictureBy_l1 wide high W H L y x (μ + 1) (j : Int) a b wide high o =
      (bif (p_impl_validPicture wide high (picL w h (fun u v => p_impl_CropPicture_1 u v W H L y x))).2.2.2 then (wide, high, picL w h (fun u v => p_impl_CropPicture_1 u v W H L y x), true) else (0, 0, [], false)) := by
  intro μ
  induction μ with
  | zero =>
    intro j a b h1 h2 o ho
    rw [p_impl_pictureBy_l1_s, decide_eq_false (by omega), cond_false, ho, show j = h by omega]
  | succ μ ih =>
    intro j a b h1 h2 o ho
    rw [p_impl_pictureBy_l1_s]
    by_cases hlt : j < h
    · rw [decide_eq_true (by omega), cond_true]
      have := picBy_in wide high W H L y x j a b wide high o (fun q1 q2 q3 => p_impl_pictureBy_l1 wide high W H L y x (μ + 1) ((j : Int) + 1) a b q1 q2 q3) w hw (Int.toNat (wide - (0 : Int))) 0 wide high (by omega) (by omega) o (by simp [rowL])
      refine Eq.trans this ?_
      rw [show (j : Int) + 1 = ((j + 1 : Nat) : Int) by omega]
      exact ih (j + 1) a b (by omega) (by omega) _ (by rw [picL_succ, ho])
    · rw [decide_eq_false (by omega), cond_false, ho, show j = h by omega]
theorem impl_pictureBy_is (wide high W H : Int) (L : List Nat) (y x : Int) : p_impl_pictureBy wide high W H L y x =
    (bif p_impl_within wide 1 16 && p_impl_within high 1 16 && (p_impl_validPicture wide high (picL wide.toNat high.toNat (fun u v => p_impl_CropPicture_1 u v W H L y x))).2.2.2
      then (wide, high, picL wide.toNat high.toNat (fun u v => p_impl_CropPicture_1 u v W H L y x), true) else (0, 0, [], false)) := by
  rw [p_impl_pictureBy_eq]
  cases h1 : p_impl_within wide 1 16 with
  | false => rfl
  | true =>
    cases h2 : p_impl_within high 1 16 with
    | false => rfl
    | true =>
      have w1 := impl_within_t h1
      have w2 := impl_within_t h2
      have := picBy_out wide high W H L y x wide.toNat high.toNat (by omega) (by omega) (Int.toNat (high - (0 : Int))) 0 0 0 (by omega) (by omega) [] (by simp [picL])
      refine Eq.trans this ?_
      rfl
theorem impl_pictureBy_len (wide high W H : Int) (L : List Nat) (y x : Int) : ((p_impl_pictureBy wide high W H L y x).2.2.1.length : Int) ≤ 256 := by
  rw [impl_pictureBy_is]
  cases h1 : p_impl_within wide 1 16 with
  | false => show ((0 : Nat) : Int) ≤ 256; omega
  | true =>
    cases h2 : p_impl_within high 1 16 with
    | false => show ((0 : Nat) : Int) ≤ 256; omega
    | true =>
      have w1 := impl_within_t h1
      have w2 := impl_within_t h2
      rw [Bool.true_and, Bool.true_and]
      cases (p_impl_validPicture wide high (picL wide.toNat high.toNat (fun u v => p_impl_CropPicture_1 u v W H L y x))).2.2.2 with
      | false => show ((0 : Nat) : Int) ≤ 256; omega
      | true =>
        show ((picL wide.toNat high.toNat (fun u v => p_impl_CropPicture_1 u v W H L y x)).length : Int) ≤ 256
        rw [picL_length]
        have : high.toNat * wide.toNat ≤ 16 * 16 := Nat.mul_le_mul (by omega) (by omega)
        omega
/-! impl_pictureBy: function 154 -/
def E_impl_pictureBy : Env := envOf [(999999, quietMark), (72, S_impl_within), (155, S_impl_CropPicture_1), (158, S_impl_validPicture)]
def F_impl_pictureBy : List Value → AHeap → (Value → AHeap → Prop) → Prop
  | [.int .i64 wide, .int .i64 high, .func (.func 155) ⟨[]⟩ ⟨[.pointer (some ⟨light_c0, 0, none⟩), .pointer (some ⟨light_c1, 0, none⟩), .pointer (some ⟨light_c2, 0, none⟩)]⟩], H, K => T_impl_pictureBy wide high light_c0 light_c1 light_c2 H fun (r1_Wide : Int) (r1_High : Int) (r1_Lights_a : Option Addr) (r1_Lights_n : Nat) (r1_Lights_e : Nat) (r2 : Bool) (H' : AHeap) => K (.tuple #[.agg #[.int .i64 r1_Wide, .int .i64 r1_High, .slice r1_Lights_a r1_Lights_n r1_Lights_e], .bool r2]) H'
  | _, _, _ => False
def S_impl_pictureBy : FSpec := { F := F_impl_pictureBy, quiet := false, tame := true }
theorem impl_pictureBy_vc (wide : Int) (high : Int) (light_c0 : Nat) (light_c1 : Nat) (light_c2 : Nat) (H : AHeap) (K : Value → AHeap → Prop) : bodyK Try.prog E_impl_pictureBy Try.f154 [.int .i64 wide, .int .i64 high, .func (.func 155) #[] #[.pointer (some ⟨light_c0, 0, none⟩), .pointer (some ⟨light_c1, 0, none⟩), .pointer (some ⟨light_c2, 0, none⟩)]] H K =
  (Al [.int .i64 0, .int .i64 0, .slice none 0 0] H fun b1 H1 => T_impl_within wide 1 16 H1 fun (r1 : Bool) (H2 : AHeap) => Br (!r1) (isOwn H2 b1 ∧ (∃ l, rdN H2 b1 0 3 = some l) ∧ Lt (setN H2 b1 0 [.int .i64 0, .int .i64 0, .slice none 0 0]) fun H3 => ∃ c1 : Int, ∃ c2 : Int, ∃ c3_a : Option Addr, ∃ c3_n : Nat, ∃ c3_e : Nat,  rdN H3 b1 0 3 = some [.int .i64 c1, .int .i64 c2, .slice c3_a c3_n c3_e] ∧ K (.tuple #[.agg #[.int .i64 c1, .int .i64 c2, .slice c3_a c3_n c3_e], .bool false]) H3) (T_impl_within high 1 16 H2 fun (r2 : Bool) (H4 : AHeap) => Br (!r2) (isOwn H4 b1 ∧ (∃ l, rdN H4 b1 0 3 = some l) ∧ Lt (setN H4 b1 0 [.int .i64 0, .int .i64 0, .slice none 0 0]) fun H5 => ∃ c4 : Int, ∃ c5 : Int, ∃ c6_a : Option Addr, ∃ c6_n : Nat, ∃ c6_e : Nat,  rdN H5 b1 0 3 = some [.int .i64 c4, .int .i64 c5, .slice c6_a c6_n c6_e] ∧ K (.tuple #[.agg #[.int .i64 c4, .int .i64 c5, .slice c6_a c6_n c6_e], .bool false]) H5) (Al [.int .i64 0, .int .i64 0, .slice none 0 0] H4 fun b2 H6 => isOwn H6 b2 ∧ (∃ l, rdN H6 b2 0 3 = some l) ∧ Lt (setN H6 b2 0 [.int .i64 wide, .int .i64 high, .slice none 0 0]) fun H7 => loopK (exK Try.prog E_impl_pictureBy (cl (cl (cr (cl (cr (cr (cr (bodyC Try.f154))))))))) [.int .i64 wide, .int .i64 high, .func (.func 155) #[] #[.pointer (some ⟨light_c0, 0, none⟩), .pointer (some ⟨light_c1, 0, none⟩), .pointer (some ⟨light_c2, 0, none⟩)], undef, undef, undef, .pointer (some ⟨b1, 0, none⟩), .bool false, .pointer (some ⟨b2, 0, none⟩), undef, undef, .int .i64 wide, .bool r1, .bool (!r1), .bool false, .int .i64 high, .bool r2, .bool (!r2), .bool (!r2), undef, .int .i64 wide, .int .i64 high, .agg #[.int .i64 wide, .int .i64 high, .slice none 0 0], .int .i64 high, .int .i64 0, undef, undef, undef, undef, undef, undef, undef, undef, undef, undef, undef, undef, undef, undef, undef, undef, undef, undef, undef, undef, undef] H7 (blockQ 0 (seqQ (exK Try.prog E_impl_pictureBy (cr (cr (cr (cr (bodyC Try.f154)))))) (retK Try.prog Try.f154 K)))))) := by kernel_rfl
theorem impl_pictureBy_r1 (b1 : Nat) (b2 : Nat) (high : Int) (light_c0 : Nat) (light_c1 : Nat) (light_c2 : Nat) (r1 : Bool) (r2 : Bool) (wide : Int) (t24 : Int) (g9 g10 g25 g26 g27 g28 g29 g30 g31 g32 g33 g34 g35 g36 g37 g38 g39 g40 g41 : Value) (H : AHeap) (R : Post) : exK Try.prog E_impl_pictureBy (cl (cl (cr (cl (cr (cr (cr (bodyC Try.f154)))))))) [.int .i64 wide, .int .i64 high, .func (.func 155) #[] #[.pointer (some ⟨light_c0, 0, none⟩), .pointer (some ⟨light_c1, 0, none⟩), .pointer (some ⟨light_c2, 0, none⟩)], undef, undef, undef, .pointer (some ⟨b1, 0, none⟩), .bool false, .pointer (some ⟨b2, 0, none⟩), g9, g10, .int .i64 wide, .bool r1, .bool (!r1), .bool false, .int .i64 high, .bool r2, .bool (!r2), .bool (!r2), undef, .int .i64 wide, .int .i64 high, .agg #[.int .i64 wide, .int .i64 high, .slice none 0 0], .int .i64 high, .int .i64 t24, g25, g26, g27, g28, g29, g30, g31, g32, g33, g34, g35, g36, g37, g38, g39, g40, g41, undef, undef, undef, undef] H R =
  (Br (decide ((t24 : Int) < high)) (loopK (exK Try.prog E_impl_pictureBy (cl (cl (cr (cr (cl (cl (cr (cr (cl (cl (cr (cl (cr (cr (cr (bodyC Try.f154))))))))))))))))) [.int .i64 wide, .int .i64 high, .func (.func 155) #[] #[.pointer (some ⟨light_c0, 0, none⟩), .pointer (some ⟨light_c1, 0, none⟩), .pointer (some ⟨light_c2, 0, none⟩)], undef, undef, undef, .pointer (some ⟨b1, 0, none⟩), .bool false, .pointer (some ⟨b2, 0, none⟩), .int .i64 t24, g10, .int .i64 wide, .bool r1, .bool (!r1), .bool false, .int .i64 high, .bool r2, .bool (!r2), .bool (!r2), undef, .int .i64 wide, .int .i64 high, .agg #[.int .i64 wide, .int .i64 high, .slice none 0 0], .int .i64 high, .int .i64 t24, .bool (decide ((t24 : Int) < high)), .int .i64 t24, .int .i64 wide, .int .i64 0, g29, g30, g31, g32, g33, g34, g35, g36, g37, g38, g39, g40, g41, undef, undef, undef, undef] H (blockQ 2 (blockQ 1 (seqQ (exK Try.prog E_impl_pictureBy (cr (cr (cr (cl (cl (cr (cl (cr (cr (cr (bodyC Try.f154)))))))))))) (R))))) (R (.exit 0) [.int .i64 wide, .int .i64 high, .func (.func 155) #[] #[.pointer (some ⟨light_c0, 0, none⟩), .pointer (some ⟨light_c1, 0, none⟩), .pointer (some ⟨light_c2, 0, none⟩)], undef, undef, undef, .pointer (some ⟨b1, 0, none⟩), .bool false, .pointer (some ⟨b2, 0, none⟩), g9, g10, .int .i64 wide, .bool r1, .bool (!r1), .bool false, .int .i64 high, .bool r2, .bool (!r2), .bool (!r2), undef, .int .i64 wide, .int .i64 high, .agg #[.int .i64 wide, .int .i64 high, .slice none 0 0], .int .i64 high, .int .i64 t24, .bool (decide ((t24 : Int) < high)), g26, g27, g28, g29, g30, g31, g32, g33, g34, g35, g36, g37, g38, g39, g40, g41, undef, undef, undef, undef] H)) := by kernel_rfl
def impl_pictureBy_I1 (b1 : Nat) (b2 : Nat) (high : Int) (light_c0 : Nat) (light_c1 : Nat) (light_c2 : Nat) (r1 : Bool) (r2 : Bool) (wide : Int) (Inv : Nat → Int → AHeap → Prop) : Nat → List Value → AHeap → Prop := fun μ tm H => ∃ (t24 : Int), ∃ g9 g10 g25 g26 g27 g28 g29 g30 g31 g32 g33 g34 g35 g36 g37 g38 g39 g40 g41, tm = [.int .i64 wide, .int .i64 high, .func (.func 155) #[] #[.pointer (some ⟨light_c0, 0, none⟩), .pointer (some ⟨light_c1, 0, none⟩), .pointer (some ⟨light_c2, 0, none⟩)], undef, undef, undef, .pointer (some ⟨b1, 0, none⟩), .bool false, .pointer (some ⟨b2, 0, none⟩), g9, g10, .int .i64 wide, .bool r1, .bool (!r1), .bool false, .int .i64 high, .bool r2, .bool (!r2), .bool (!r2), undef, .int .i64 wide, .int .i64 high, .agg #[.int .i64 wide, .int .i64 high, .slice none 0 0], .int .i64 high, .int .i64 t24, g25, g26, g27, g28, g29, g30, g31, g32, g33, g34, g35, g36, g37, g38, g39, g40, g41, undef, undef, undef, undef] ∧ Inv μ t24 H
theorem impl_pictureBy_L1 (b1 : Nat) (b2 : Nat) (high : Int) (light_c0 : Nat) (light_c1 : Nat) (light_c2 : Nat) (r1 : Bool) (r2 : Bool) (wide : Int) {Q : Post} (Inv : Nat → Int → AHeap → Prop) (ν : Nat) (t24 : Int) (g9 g10 g25 g26 g27 g28 g29 g30 g31 g32 g33 g34 g35 g36 g37 g38 g39 g40 g41 : Value) (H : AHeap) (h0 : Inv ν t24 H)
    (hs : ∀ (μ : Nat) (t24 : Int) (g9 g10 g25 g26 g27 g28 g29 g30 g31 g32 g33 g34 g35 g36 g37 g38 g39 g40 g41 : Value) (H : AHeap), Inv μ t24 H → exK Try.prog E_impl_pictureBy (cl (cl (cr (cl (cr (cr (cr (bodyC Try.f154)))))))) [.int .i64 wide, .int .i64 high, .func (.func 155) #[] #[.pointer (some ⟨light_c0, 0, none⟩), .pointer (some ⟨light_c1, 0, none⟩), .pointer (some ⟨light_c2, 0, none⟩)], undef, undef, undef, .pointer (some ⟨b1, 0, none⟩), .bool false, .pointer (some ⟨b2, 0, none⟩), g9, g10, .int .i64 wide, .bool r1, .bool (!r1), .bool false, .int .i64 high, .bool r2, .bool (!r2), .bool (!r2), undef, .int .i64 wide, .int .i64 high, .agg #[.int .i64 wide, .int .i64 high, .slice none 0 0], .int .i64 high, .int .i64 t24, g25, g26, g27, g28, g29, g30, g31, g32, g33, g34, g35, g36, g37, g38, g39, g40, g41, undef, undef, undef, undef] H (loopQ (impl_pictureBy_I1 b1 b2 high light_c0 light_c1 light_c2 r1 r2 wide Inv) μ Q)) : loopK (exK Try.prog E_impl_pictureBy (cl (cl (cr (cl (cr (cr (cr (bodyC Try.f154))))))))) [.int .i64 wide, .int .i64 high, .func (.func 155) #[] #[.pointer (some ⟨light_c0, 0, none⟩), .pointer (some ⟨light_c1, 0, none⟩), .pointer (some ⟨light_c2, 0, none⟩)], undef, undef, undef, .pointer (some ⟨b1, 0, none⟩), .bool false, .pointer (some ⟨b2, 0, none⟩), g9, g10, .int .i64 wide, .bool r1, .bool (!r1), .bool false, .int .i64 high, .bool r2, .bool (!r2), .bool (!r2), undef, .int .i64 wide, .int .i64 high, .agg #[.int .i64 wide, .int .i64 high, .slice none 0 0], .int .i64 high, .int .i64 t24, g25, g26, g27, g28, g29, g30, g31, g32, g33, g34, g35, g36, g37, g38, g39, g40, g41, undef, undef, undef, undef] H Q :=
  ⟨impl_pictureBy_I1 b1 b2 high light_c0 light_c1 light_c2 r1 r2 wide Inv, ν, ⟨t24, g9, g10, g25, g26, g27, g28, g29, g30, g31, g32, g33, g34, g35, g36, g37, g38, g39, g40, g41, rfl, h0⟩, fun μ tm H h => by obtain ⟨t24, g9, g10, g25, g26, g27, g28, g29, g30, g31, g32, g33, g34, g35, g36, g37, g38, g39, g40, g41, rfl, hI⟩ := h; exact hs μ t24 g9 g10 g25 g26 g27 g28 g29 g30 g31 g32 g33 g34 g35 g36 g37 g38 g39 g40 g41 H hI⟩
theorem impl_pictureBy_n1 {b1 : Nat} {b2 : Nat} {high : Int} {light_c0 : Nat} {light_c1 : Nat} {light_c2 : Nat} {r1 : Bool} {r2 : Bool} {wide : Int} {Q : Post} {Inv : Nat → Int → AHeap → Prop} {μ : Nat} (μ' : Nat) {t24 : Int} {g9 g10 g25 g26 g27 g28 g29 g30 g31 g32 g33 g34 g35 g36 g37 g38 g39 g40 g41 : Value} {H : AHeap} (hm : μ' < μ) (hI : Inv μ' t24 H) : loopQ (impl_pictureBy_I1 b1 b2 high light_c0 light_c1 light_c2 r1 r2 wide Inv) μ Q .normal [.int .i64 wide, .int .i64 high, .func (.func 155) #[] #[.pointer (some ⟨light_c0, 0, none⟩), .pointer (some ⟨light_c1, 0, none⟩), .pointer (some ⟨light_c2, 0, none⟩)], undef, undef, undef, .pointer (some ⟨b1, 0, none⟩), .bool false, .pointer (some ⟨b2, 0, none⟩), g9, g10, .int .i64 wide, .bool r1, .bool (!r1), .bool false, .int .i64 high, .bool r2, .bool (!r2), .bool (!r2), undef, .int .i64 wide, .int .i64 high, .agg #[.int .i64 wide, .int .i64 high, .slice none 0 0], .int .i64 high, .int .i64 t24, g25, g26, g27, g28, g29, g30, g31, g32, g33, g34, g35, g36, g37, g38, g39, g40, g41, undef, undef, undef, undef] H := ⟨μ', hm, t24, g9, g10, g25, g26, g27, g28, g29, g30, g31, g32, g33, g34, g35, g36, g37, g38, g39, g40, g41, rfl, hI⟩
theorem impl_pictureBy_x1_0 (b1 : Nat) (b2 : Nat) (high : Int) (light_c0 : Nat) (light_c1 : Nat) (light_c2 : Nat) (r1 : Bool) (r2 : Bool) (wide : Int) (t24 : Int) (g9 g10 g25 g26 g27 g28 g29 g30 g31 g32 g33 g34 g35 g36 g37 g38 g39 g40 g41 : Value) (H : AHeap) (K : Value → AHeap → Prop)  {I : Nat → List Value → AHeap → Prop} {μ : Nat} : loopQ I μ (blockQ 0 (seqQ (exK Try.prog E_impl_pictureBy (cr (cr (cr (cr (bodyC Try.f154)))))) (retK Try.prog Try.f154 K))) (.exit 0) [.int .i64 wide, .int .i64 high, .func (.func 155) #[] #[.pointer (some ⟨light_c0, 0, none⟩), .pointer (some ⟨light_c1, 0, none⟩), .pointer (some ⟨light_c2, 0, none⟩)], undef, undef, undef, .pointer (some ⟨b1, 0, none⟩), .bool false, .pointer (some ⟨b2, 0, none⟩), g9, g10, .int .i64 wide, .bool r1, .bool (!r1), .bool false, .int .i64 high, .bool r2, .bool (!r2), .bool (!r2), undef, .int .i64 wide, .int .i64 high, .agg #[.int .i64 wide, .int .i64 high, .slice none 0 0], .int .i64 high, .int .i64 t24, g25, g26, g27, g28, g29, g30, g31, g32, g33, g34, g35, g36, g37, g38, g39, g40, g41, undef, undef, undef, undef] H =
  (∃ c7 : Int, ∃ c8 : Int, ∃ c9_a : Option Addr, ∃ c9_n : Nat, ∃ c9_e : Nat,  rdN H b2 0 3 = some [.int .i64 c7, .int .i64 c8, .slice c9_a c9_n c9_e] ∧ T_impl_validPicture c7 c8 c9_a c9_n c9_e H fun (r4 : Int) (r5 : Int) (a1 : Option Addr) (r6 : Nat) (r7 : Nat) (r8 : Bool) (H12 : AHeap) => isOwn H12 b1 ∧ (∃ l, rdN H12 b1 0 3 = some l) ∧ Lt (setN H12 b1 0 [.int .i64 r4, .int .i64 r5, .slice a1 r6 r7]) fun H13 => ∃ c10 : Int, ∃ c11 : Int, ∃ c12_a : Option Addr, ∃ c12_n : Nat, ∃ c12_e : Nat,  rdN H13 b1 0 3 = some [.int .i64 c10, .int .i64 c11, .slice c12_a c12_n c12_e] ∧ K (.tuple #[.agg #[.int .i64 c10, .int .i64 c11, .slice c12_a c12_n c12_e], .bool r8]) H13) := by kernel_rfl
theorem impl_pictureBy_r2 (b1 : Nat) (b2 : Nat) (g41 : Value) (high : Int) (light_c0 : Nat) (light_c1 : Nat) (light_c2 : Nat) (r1 : Bool) (r2 : Bool) (t24 : Int) (wide : Int) (t28 : Int) (g10 g29 g30 g31 g32 g33 g34 g35 g36 g37 g38 g39 g40 : Value) (H : AHeap) (R : Post) : exK Try.prog E_impl_pictureBy (cl (cl (cr (cr (cl (cl (cr (cr (cl (cl (cr (cl (cr (cr (cr (bodyC Try.f154)))))))))))))))) [.int .i64 wide, .int .i64 high, .func (.func 155) #[] #[.pointer (some ⟨light_c0, 0, none⟩), .pointer (some ⟨light_c1, 0, none⟩), .pointer (some ⟨light_c2, 0, none⟩)], undef, undef, undef, .pointer (some ⟨b1, 0, none⟩), .bool false, .pointer (some ⟨b2, 0, none⟩), .int .i64 t24, g10, .int .i64 wide, .bool r1, .bool (!r1), .bool false, .int .i64 high, .bool r2, .bool (!r2), .bool (!r2), undef, .int .i64 wide, .int .i64 high, .agg #[.int .i64 wide, .int .i64 high, .slice none 0 0], .int .i64 high, .int .i64 t24, .bool (decide ((t24 : Int) < high)), .int .i64 t24, .int .i64 wide, .int .i64 t28, g29, g30, g31, g32, g33, g34, g35, g36, g37, g38, g39, g40, g41, undef, undef, undef, undef] H R =
  (Br (decide ((t28 : Int) < wide)) (∃ x1_a : Option Addr, ∃ x1_n : Nat, ∃ x1_e : Nat,  rdC H b2 2 = some (.slice x1_a x1_n x1_e) ∧ T_impl_CropPicture_1 t28 t24 light_c0 light_c1 light_c2 H fun (r3 : Nat) (H8 : AHeap) => Al [.float .f32 r3] H8 fun b3 H9 => ∃ o1 w1 : List Value, ownB H9 x1_a x1_n x1_e 1 = some o1 ∧ rdS H9 (some ⟨b3, 0, none⟩) (1 * 1) = some w1 ∧ ((x1_a : Option Addr) = none → 0 < (1 : Nat)) ∧ (x1_n : Nat) + 1 < most ∧ Ap H9 (killB H9 x1_a ++ [some ⟨o1 ++ w1, true⟩]) fun b4 H10 => isOwn H10 b2 ∧ (∃ l, rdN H10 b2 2 1 = some l) ∧ Lt (setC H10 b2 2 (.slice (some ⟨b4, 0, none⟩) (x1_n + 1) 1)) fun H11 => R .normal [.int .i64 wide, .int .i64 high, .func (.func 155) #[] #[.pointer (some ⟨light_c0, 0, none⟩), .pointer (some ⟨light_c1, 0, none⟩), .pointer (some ⟨light_c2, 0, none⟩)], undef, undef, undef, .pointer (some ⟨b1, 0, none⟩), .bool false, .pointer (some ⟨b2, 0, none⟩), .int .i64 t24, .int .i64 t28, .int .i64 wide, .bool r1, .bool (!r1), .bool false, .int .i64 high, .bool r2, .bool (!r2), .bool (!r2), undef, .int .i64 wide, .int .i64 high, .agg #[.int .i64 wide, .int .i64 high, .slice none 0 0], .int .i64 high, .int .i64 t24, .bool (decide ((t24 : Int) < high)), .int .i64 t24, .int .i64 wide, .int .i64 (IntKind.wrap .i64 (t28 + 1)), .bool (decide ((t28 : Int) < wide)), .int .i64 t28, .pointer (some ⟨b2, 2, none⟩), .slice x1_a x1_n x1_e, .func (.func 155) #[] #[.pointer (some ⟨light_c0, 0, none⟩), .pointer (some ⟨light_c1, 0, none⟩), .pointer (some ⟨light_c2, 0, none⟩)], .int .i64 t28, .int .i64 t24, .float .f32 r3, .slice (some ⟨b3, 0, none⟩) 1 1, .slice (some ⟨b4, 0, none⟩) (x1_n + 1) 1, .pointer (some ⟨b2, 2, none⟩), .int .i64 (IntKind.wrap .i64 (t28 + 1)), g41, undef, undef, undef, undef] H11) (R (.exit 2) [.int .i64 wide, .int .i64 high, .func (.func 155) #[] #[.pointer (some ⟨light_c0, 0, none⟩), .pointer (some ⟨light_c1, 0, none⟩), .pointer (some ⟨light_c2, 0, none⟩)], undef, undef, undef, .pointer (some ⟨b1, 0, none⟩), .bool false, .pointer (some ⟨b2, 0, none⟩), .int .i64 t24, g10, .int .i64 wide, .bool r1, .bool (!r1), .bool false, .int .i64 high, .bool r2, .bool (!r2), .bool (!r2), undef, .int .i64 wide, .int .i64 high, .agg #[.int .i64 wide, .int .i64 high, .slice none 0 0], .int .i64 high, .int .i64 t24, .bool (decide ((t24 : Int) < high)), .int .i64 t24, .int .i64 wide, .int .i64 t28, .bool (decide ((t28 : Int) < wide)), g30, g31, g32, g33, g34, g35, g36, g37, g38, g39, g40, g41, undef, undef, undef, undef] H)) := by kernel_rfl
def impl_pictureBy_I2 (b1 : Nat) (b2 : Nat) (g41 : Value) (high : Int) (light_c0 : Nat) (light_c1 : Nat) (light_c2 : Nat) (r1 : Bool) (r2 : Bool) (t24 : Int) (wide : Int) (Inv : Nat → Int → AHeap → Prop) : Nat → List Value → AHeap → Prop := fun μ tm H => ∃ (t28 : Int), ∃ g10 g29 g30 g31 g32 g33 g34 g35 g36 g37 g38 g39 g40, tm = [.int .i64 wide, .int .i64 high, .func (.func 155) #[] #[.pointer (some ⟨light_c0, 0, none⟩), .pointer (some ⟨light_c1, 0, none⟩), .pointer (some ⟨light_c2, 0, none⟩)], undef, undef, undef, .pointer (some ⟨b1, 0, none⟩), .bool false, .pointer (some ⟨b2, 0, none⟩), .int .i64 t24, g10, .int .i64 wide, .bool r1, .bool (!r1), .bool false, .int .i64 high, .bool r2, .bool (!r2), .bool (!r2), undef, .int .i64 wide, .int .i64 high, .agg #[.int .i64 wide, .int .i64 high, .slice none 0 0], .int .i64 high, .int .i64 t24, .bool (decide ((t24 : Int) < high)), .int .i64 t24, .int .i64 wide, .int .i64 t28, g29, g30, g31, g32, g33, g34, g35, g36, g37, g38, g39, g40, g41, undef, undef, undef, undef] ∧ Inv μ t28 H
theorem impl_pictureBy_L2 (b1 : Nat) (b2 : Nat) (g41 : Value) (high : Int) (light_c0 : Nat) (light_c1 : Nat) (light_c2 : Nat) (r1 : Bool) (r2 : Bool) (t24 : Int) (wide : Int) {Q : Post} (Inv : Nat → Int → AHeap → Prop) (ν : Nat) (t28 : Int) (g10 g29 g30 g31 g32 g33 g34 g35 g36 g37 g38 g39 g40 : Value) (H : AHeap) (h0 : Inv ν t28 H)
    (hs : ∀ (μ : Nat) (t28 : Int) (g10 g29 g30 g31 g32 g33 g34 g35 g36 g37 g38 g39 g40 : Value) (H : AHeap), Inv μ t28 H → exK Try.prog E_impl_pictureBy (cl (cl (cr (cr (cl (cl (cr (cr (cl (cl (cr (cl (cr (cr (cr (bodyC Try.f154)))))))))))))))) [.int .i64 wide, .int .i64 high, .func (.func 155) #[] #[.pointer (some ⟨light_c0, 0, none⟩), .pointer (some ⟨light_c1, 0, none⟩), .pointer (some ⟨light_c2, 0, none⟩)], undef, undef, undef, .pointer (some ⟨b1, 0, none⟩), .bool false, .pointer (some ⟨b2, 0, none⟩), .int .i64 t24, g10, .int .i64 wide, .bool r1, .bool (!r1), .bool false, .int .i64 high, .bool r2, .bool (!r2), .bool (!r2), undef, .int .i64 wide, .int .i64 high, .agg #[.int .i64 wide, .int .i64 high, .slice none 0 0], .int .i64 high, .int .i64 t24, .bool (decide ((t24 : Int) < high)), .int .i64 t24, .int .i64 wide, .int .i64 t28, g29, g30, g31, g32, g33, g34, g35, g36, g37, g38, g39, g40, g41, undef, undef, undef, undef] H (loopQ (impl_pictureBy_I2 b1 b2 g41 high light_c0 light_c1 light_c2 r1 r2 t24 wide Inv) μ Q)) : loopK (exK Try.prog E_impl_pictureBy (cl (cl (cr (cr (cl (cl (cr (cr (cl (cl (cr (cl (cr (cr (cr (bodyC Try.f154))))))))))))))))) [.int .i64 wide, .int .i64 high, .func (.func 155) #[] #[.pointer (some ⟨light_c0, 0, none⟩), .pointer (some ⟨light_c1, 0, none⟩), .pointer (some ⟨light_c2, 0, none⟩)], undef, undef, undef, .pointer (some ⟨b1, 0, none⟩), .bool false, .pointer (some ⟨b2, 0, none⟩), .int .i64 t24, g10, .int .i64 wide, .bool r1, .bool (!r1), .bool false, .int .i64 high, .bool r2, .bool (!r2), .bool (!r2), undef, .int .i64 wide, .int .i64 high, .agg #[.int .i64 wide, .int .i64 high, .slice none 0 0], .int .i64 high, .int .i64 t24, .bool (decide ((t24 : Int) < high)), .int .i64 t24, .int .i64 wide, .int .i64 t28, g29, g30, g31, g32, g33, g34, g35, g36, g37, g38, g39, g40, g41, undef, undef, undef, undef] H Q :=
  ⟨impl_pictureBy_I2 b1 b2 g41 high light_c0 light_c1 light_c2 r1 r2 t24 wide Inv, ν, ⟨t28, g10, g29, g30, g31, g32, g33, g34, g35, g36, g37, g38, g39, g40, rfl, h0⟩, fun μ tm H h => by obtain ⟨t28, g10, g29, g30, g31, g32, g33, g34, g35, g36, g37, g38, g39, g40, rfl, hI⟩ := h; exact hs μ t28 g10 g29 g30 g31 g32 g33 g34 g35 g36 g37 g38 g39 g40 H hI⟩
theorem impl_pictureBy_n2 {b1 : Nat} {b2 : Nat} {g41 : Value} {high : Int} {light_c0 : Nat} {light_c1 : Nat} {light_c2 : Nat} {r1 : Bool} {r2 : Bool} {t24 : Int} {wide : Int} {Q : Post} {Inv : Nat → Int → AHeap → Prop} {μ : Nat} (μ' : Nat) {t28 : Int} {g10 g29 g30 g31 g32 g33 g34 g35 g36 g37 g38 g39 g40 : Value} {H : AHeap} (hm : μ' < μ) (hI : Inv μ' t28 H) : loopQ (impl_pictureBy_I2 b1 b2 g41 high light_c0 light_c1 light_c2 r1 r2 t24 wide Inv) μ Q .normal [.int .i64 wide, .int .i64 high, .func (.func 155) #[] #[.pointer (some ⟨light_c0, 0, none⟩), .pointer (some ⟨light_c1, 0, none⟩), .pointer (some ⟨light_c2, 0, none⟩)], undef, undef, undef, .pointer (some ⟨b1, 0, none⟩), .bool false, .pointer (some ⟨b2, 0, none⟩), .int .i64 t24, g10, .int .i64 wide, .bool r1, .bool (!r1), .bool false, .int .i64 high, .bool r2, .bool (!r2), .bool (!r2), undef, .int .i64 wide, .int .i64 high, .agg #[.int .i64 wide, .int .i64 high, .slice none 0 0], .int .i64 high, .int .i64 t24, .bool (decide ((t24 : Int) < high)), .int .i64 t24, .int .i64 wide, .int .i64 t28, g29, g30, g31, g32, g33, g34, g35, g36, g37, g38, g39, g40, g41, undef, undef, undef, undef] H := ⟨μ', hm, t28, g10, g29, g30, g31, g32, g33, g34, g35, g36, g37, g38, g39, g40, rfl, hI⟩
theorem impl_pictureBy_x2_2 (b1 : Nat) (b2 : Nat) (g41 : Value) (high : Int) (light_c0 : Nat) (light_c1 : Nat) (light_c2 : Nat) (r1 : Bool) (r2 : Bool) (t24 : Int) (wide : Int) (t28 : Int) (g10 g29 g30 g31 g32 g33 g34 g35 g36 g37 g38 g39 g40 : Value) (H : AHeap)  (R : Post) {I : Nat → List Value → AHeap → Prop} {μ : Nat} : loopQ I μ (blockQ 2 (blockQ 1 (seqQ (exK Try.prog E_impl_pictureBy (cr (cr (cr (cl (cl (cr (cl (cr (cr (cr (bodyC Try.f154)))))))))))) (R)))) (.exit 2) [.int .i64 wide, .int .i64 high, .func (.func 155) #[] #[.pointer (some ⟨light_c0, 0, none⟩), .pointer (some ⟨light_c1, 0, none⟩), .pointer (some ⟨light_c2, 0, none⟩)], undef, undef, undef, .pointer (some ⟨b1, 0, none⟩), .bool false, .pointer (some ⟨b2, 0, none⟩), .int .i64 t24, g10, .int .i64 wide, .bool r1, .bool (!r1), .bool false, .int .i64 high, .bool r2, .bool (!r2), .bool (!r2), undef, .int .i64 wide, .int .i64 high, .agg #[.int .i64 wide, .int .i64 high, .slice none 0 0], .int .i64 high, .int .i64 t24, .bool (decide ((t24 : Int) < high)), .int .i64 t24, .int .i64 wide, .int .i64 t28, g29, g30, g31, g32, g33, g34, g35, g36, g37, g38, g39, g40, g41, undef, undef, undef, undef] H =
  (R .normal [.int .i64 wide, .int .i64 high, .func (.func 155) #[] #[.pointer (some ⟨light_c0, 0, none⟩), .pointer (some ⟨light_c1, 0, none⟩), .pointer (some ⟨light_c2, 0, none⟩)], undef, undef, undef, .pointer (some ⟨b1, 0, none⟩), .bool false, .pointer (some ⟨b2, 0, none⟩), .int .i64 t24, g10, .int .i64 wide, .bool r1, .bool (!r1), .bool false, .int .i64 high, .bool r2, .bool (!r2), .bool (!r2), undef, .int .i64 wide, .int .i64 high, .agg #[.int .i64 wide, .int .i64 high, .slice none 0 0], .int .i64 high, .int .i64 (IntKind.wrap .i64 (t24 + 1)), .bool (decide ((t24 : Int) < high)), .int .i64 t24, .int .i64 wide, .int .i64 t28, g29, g30, g31, g32, g33, g34, g35, g36, g37, g38, g39, g40, .int .i64 (IntKind.wrap .i64 (t24 + 1)), undef, undef, undef, undef] H) := by kernel_rfl
theorem E_impl_pictureBy_ok : ∀ g, FnOk Try.prog g (E_impl_pictureBy g) := FnOk.envOf (by
  intro x hx
  simp only [List.mem_cons, List.not_mem_nil, or_false] at hx
  rcases hx with rfl | rfl | rfl | rfl
  · exact quietMark_ok _
  · exact impl_within_ok
  · exact impl_CropPicture_1_ok
  · exact impl_validPicture_ok)
set_option maxHeartbeats 1000000 in
theorem impl_pictureBy_main (wide : Int) (high : Int) (light_c0 : Nat) (light_c1 : Nat) (light_c2 : Nat) (H : AHeap) (K : Value → AHeap → Prop) (h : T_impl_pictureBy wide high light_c0 light_c1 light_c2 H fun (r1_Wide : Int) (r1_High : Int) (r1_Lights_a : Option Addr) (r1_Lights_n : Nat) (r1_Lights_e : Nat) (r2 : Bool) (H' : AHeap) => K (.tuple #[.agg #[.int .i64 r1_Wide, .int .i64 r1_High, .slice r1_Lights_a r1_Lights_n r1_Lights_e], .bool r2]) H') : bodyK Try.prog E_impl_pictureBy Try.f154 [.int .i64 wide, .int .i64 high, .func (.func 155) #[] #[.pointer (some ⟨light_c0, 0, none⟩), .pointer (some ⟨light_c1, 0, none⟩), .pointer (some ⟨light_c2, 0, none⟩)]] H K := by
  rw [impl_pictureBy_vc]
  obtain ⟨light_c0p_Wide, light_c0p_High, light_c0p_Lights_a, light_c0p_Lights_n, light_c0p_Lights_e, light_c1p, light_c2p, l_light_c0p_Lights, i_light_c0, i_light_c1, i_light_c2, i_light_c0p_Lights, bd_156, pr0, pr1, pr2, pr3, pr4, pr5, pr6, hk⟩ := h
  obtain rfl := i_light_c0p_Lights.eqn
  have e : (p_impl_pictureBy wide high light_c0p_Wide light_c0p_High l_light_c0p_Lights light_c1p light_c2p) = _ := rfl
  have e := e.trans (p_impl_pictureBy_eq wide high light_c0p_Wide light_c0p_High l_light_c0p_Lights light_c1p light_c2p)
  have g0 := Grow.refl H
  refine Al.intro (fun b_1 H_1 hb_2 hl_3 g_4 o_5 => ?_)
  have l_7 := g_4.1
  have g_8 := g0.trans g_4
  have l_9 := g_8.1
  have w_155 := o_5.lt
  refine T_impl_within_i ?_
  refine Br.intro (fun c_10 => ?_) (fun c_10 => ?_)
  · have e := e.trans (cond_t c_10)
    have c_10n := nf_of_t c_10
    refine Lt.setN (n := 3) o_5 (Nat.le_of_ble_eq_true rfl) rfl (fun H_2 hl_11 o_13 k_12 => ?_)
    have o_13 : Own H_2 b_1 [.int .i64 0, .int .i64 0, .slice none 0 0] := o_13
    have l_14 := k_12.1
    have g_15 := g_8.keep (b := b_1) (by omega) k_12
    have l_16 := g_15.1
    have w_17 := o_13.lt
    refine ⟨0, 0, none, 0, 0, (o_13.rdN (Nat.le_of_ble_eq_true rfl)).trans rfl, ?_⟩
    rw [e] at hk
    exact hk _ _ _ H_2 g_15 (OwnS.nil _ _ _ _)
  · have e := e.trans (cond_f c_10)
    have c_10n := nt_of_f c_10
    have c_10n' := impl_within_t c_10n
    refine T_impl_within_i ?_
    refine Br.intro (fun c_18 => ?_) (fun c_18 => ?_)
    · have e := e.trans (cond_t c_18)
      have c_18n := nf_of_t c_18
      refine Lt.setN (n := 3) o_5 (Nat.le_of_ble_eq_true rfl) rfl (fun H_3 hl_19 o_21 k_20 => ?_)
      have o_21 : Own H_3 b_1 [.int .i64 0, .int .i64 0, .slice none 0 0] := o_21
      have l_22 := k_20.1
      have g_23 := g_8.keep (b := b_1) (by omega) k_20
      have l_24 := g_23.1
      have w_25 := o_21.lt
      refine ⟨0, 0, none, 0, 0, (o_21.rdN (Nat.le_of_ble_eq_true rfl)).trans rfl, ?_⟩
      rw [e] at hk
      exact hk _ _ _ H_3 g_23 (OwnS.nil _ _ _ _)
    · have e := e.trans (cond_f c_18)
      have c_18n := nt_of_f c_18
      have c_18n' := impl_within_t c_18n
      refine Al.intro (fun b_26 H_4 hb_27 hl_28 g_29 o_30 => ?_)
      have l_32 := g_29.1
      have g_33 := g_8.trans g_29
      have l_34 := g_33.1
      have o_35 := o_5.grow g_29
      have w_36 := o_35.lt
      have w_154 := o_30.lt
      refine Lt.setN (n := 3) o_30 (Nat.le_of_ble_eq_true rfl) rfl (fun H_5 hl_37 o_39 k_38 => ?_)
      have o_39 : Own H_5 b_26 [.int .i64 wide, .int .i64 high, .slice none 0 0] := o_39
      have l_40 := k_38.1
      have g_41 := g_33.keep (b := b_26) (by omega) k_38
      have l_42 := g_41.1
      have o_43 := o_35.keep (by omega) k_38
      have w_44 := o_43.lt
      have w_153 := o_39.lt
      refine impl_pictureBy_L1 _ _ _ _ _ _ _ _ _ (fun (μ : Nat) (t24 : Int) (H_6 : AHeap) => ∃ (q1_1 : Int), ∃ (q1_2 : Int), ∃ (q1_4 : Int), ∃ (q1_5 : Int), ∃ (q1_6 : List Nat), ∃ (q1_6_a : Option Addr), ∃ (q1_6_e : Nat), Own H_6 b_1 [.int .i64 q1_1, .int .i64 q1_2, .slice none 0 0] ∧ OwnS fF H_6 H_5.length q1_6_a q1_6.length q1_6_e q1_6 ∧ Own H_6 b_26 [.int .i64 q1_4, .int .i64 q1_5, .slice q1_6_a q1_6.length q1_6_e] ∧ (b_26 ≠ b_1) ∧ Grow H H_6 ∧ (0 : Int) ≤ t24 ∧ ((t24 ≤ high ∨ t24 ≤ (0 : Int))) ∧ (q1_6.length : Int) ≤ 16 * t24 ∧ high - t24 ≤ (μ : Int) ∧ p_impl_pictureBy wide high light_c0p_Wide light_c0p_High l_light_c0p_Lights light_c1p light_c2p = p_impl_pictureBy_l1 wide high light_c0p_Wide light_c0p_High l_light_c0p_Lights light_c1p light_c2p (μ + 1) t24 q1_1 q1_2 q1_4 q1_5 q1_6) (Int.toNat (high - (0 : Int))) _ _ _ _ _ _ _ _ _ _ _ _ _ _ _ _ _ _ _ _ H_5 ?_ ?_
      · exact ⟨_, _, _, _, _, _, _, (by first | exact o_43 | (simp only [List.length_append, List.length_cons, List.length_nil, Nat.zero_add]; exact o_43)), (OwnS.nil _ _ _ _), (by first | exact o_39 | (simp only [List.length_append, List.length_cons, List.length_nil, Nat.zero_add]; exact o_39)), (by omega), g_41, (by first | omega | (simp; done) | (simp; omega)), (by first | omega | (simp; done) | (simp; omega)), (by first | omega | (simp; done) | (simp; omega)), (by omega), e⟩
      · intro μ t24 g9 g10 g25 g26 g27 g28 g29 g30 g31 g32 g33 g34 g35 g36 g37 g38 g39 g40 g41 H_6 hI
        obtain ⟨q1_1, q1_2, q1_4, q1_5, q1_6, q1_6_a, q1_6_e, o_45, r_48, o_46, n_51, g_52, v_53, v_54, v_55, hμ, e⟩ := hI
        rw [impl_pictureBy_r1]
        have e := e.trans (p_impl_pictureBy_l1_s wide high light_c0p_Wide light_c0p_High l_light_c0p_Lights light_c1p light_c2p μ t24 q1_1 q1_2 q1_4 q1_5 q1_6)
        have u_49 := r_48.up
        have u_50 := r_48.lo
        have w_56 := o_45.lt
        have w_57 := o_46.lt
        have l_58 := g_52.1
        refine Br.intro (fun c_59 => ?_) (fun c_59 => ?_)
        · have e := e.trans (cond_t c_59)
          have c_59' := of_decide_eq_true c_59
          refine impl_pictureBy_L2 _ _ _ _ _ _ _ _ _ _ _ (fun (μ2 : Nat) (t28 : Int) (H_7 : AHeap) => ∃ (q2_1 : Int), ∃ (q2_2 : Int), ∃ (q2_3 : List Nat), ∃ (q2_3_a : Option Addr), ∃ (q2_3_e : Nat), Own H_7 b_1 ([.int .i64 q1_1, .int .i64 q1_2, .slice none 0 0]) ∧ OwnS fF H_7 H_5.length q2_3_a q2_3.length q2_3_e q2_3 ∧ Own H_7 b_26 [.int .i64 q2_1, .int .i64 q2_2, .slice q2_3_a q2_3.length q2_3_e] ∧ (b_26 ≠ b_1) ∧ Grow H H_7 ∧ (0 : Int) ≤ t28 ∧ ((t28 ≤ wide ∨ t28 ≤ (0 : Int))) ∧ (q2_3.length : Int) ≤ 16 * t24 + t28 ∧ wide - t28 ≤ (μ2 : Int) ∧ p_impl_pictureBy wide high light_c0p_Wide light_c0p_High l_light_c0p_Lights light_c1p light_c2p = p_impl_pictureBy_l2 wide high light_c0p_Wide light_c0p_High l_light_c0p_Lights light_c1p light_c2p t24 q1_1 q1_2 q1_4 q1_5 q1_6 (fun (t28 : Int) (q2_1 : Int) (q2_2 : Int) (q2_3 : List Nat) => (p_impl_pictureBy_l1 wide high light_c0p_Wide light_c0p_High l_light_c0p_Lights light_c1p light_c2p μ (t24 + 1) q1_1 q1_2 q2_1 q2_2 q2_3)) (μ2 + 1) t28 q2_1 q2_2 q2_3) (Int.toNat (wide - (0 : Int))) _ _ _ _ _ _ _ _ _ _ _ _ _ _ H_6 ?_ ?_
          · exact ⟨_, _, _, _, _, o_45, r_48, (by first | exact o_46 | (simp only [List.length_append, List.length_cons, List.length_nil, Nat.zero_add]; exact o_46)), (by omega), g_52, (by first | omega | (simp; done) | (simp; omega)), (by first | omega | (simp; done) | (simp; omega)), (by first | omega | (simp; done) | (simp; omega)), (by omega), e⟩
          · intro μ2 t28 g10 g29 g30 g31 g32 g33 g34 g35 g36 g37 g38 g39 g40 H_7 hI
            obtain ⟨q2_1, q2_2, q2_3, q2_3_a, q2_3_e, o_60, r_63, o_61, n_66, g_67, v_68, v_69, v_70, hμ, e⟩ := hI
            rw [impl_pictureBy_r2]
            have e := e.trans (p_impl_pictureBy_l2_s wide high light_c0p_Wide light_c0p_High l_light_c0p_Lights light_c1p light_c2p t24 q1_1 q1_2 q1_4 q1_5 q1_6 (fun (t28 : Int) (q2_1 : Int) (q2_2 : Int) (q2_3 : List Nat) => (p_impl_pictureBy_l1 wide high light_c0p_Wide light_c0p_High l_light_c0p_Lights light_c1p light_c2p μ (t24 + 1) q1_1 q1_2 q2_1 q2_2 q2_3)) μ2 t28 q2_1 q2_2 q2_3)
            have u_64 := r_63.up
            have u_65 := r_63.lo
            have w_71 := o_60.lt
            have w_72 := o_61.lt
            have l_73 := g_67.1
            refine Br.intro (fun c_74 => ?_) (fun c_74 => ?_)
            · have e := e.trans (cond_t c_74)
              have c_74' := of_decide_eq_true c_74
              refine ⟨q2_3_a, q2_3.length, q2_3_e, (o_61.rdC _).trans rfl, ?_⟩
              refine T_impl_CropPicture_1_i ⟨light_c0p_Wide, light_c0p_High, light_c0p_Lights_a, l_light_c0p_Lights.length, light_c0p_Lights_e, light_c1p, light_c2p, _, (rdN_grow g_67 i_light_c0), (rdN_grow g_67 i_light_c1), (rdN_grow g_67 i_light_c2), (i_light_c0p_Lights.grow g_67), (by first | omega | (simp only [List.length_set, List.length_replicate, List.length_append, List.length_cons, List.length_nil, List.length_take, List.length_drop, marks_length]; done) | (simp only [List.length_set, List.length_replicate, List.length_append, List.length_cons, List.length_nil, List.length_take, List.length_drop, marks_length]; omega)), (by first | assumption | omega | (simp; omega)), (by first | assumption | omega | (simp; omega)), (by first | assumption | omega | (simp; omega)), (by first | assumption | omega | (simp; omega)), (by first | assumption | omega | (simp; omega)), (by first | assumption | omega | (simp; omega)), (by first | assumption | omega | (simp; omega)), (by first | assumption | omega | (simp; omega)), (by first | assumption | omega | (simp; omega)), ?_⟩
              refine Al.intro (fun b_75 H_8 hb_76 hl_77 g_78 o_79 => ?_)
              have o_79 : Own H_8 b_75 (([(p_impl_CropPicture_1 t28 t24 light_c0p_Wide light_c0p_High l_light_c0p_Lights light_c1p light_c2p)]).map fF) := o_79
              have l_81 := g_78.1
              have g_82 := g_67.trans g_78
              have l_83 := g_82.1
              have o_84 := o_60.grow g_78
              have w_85 := o_84.lt
              have o_86 := o_61.grow g_78
              have w_87 := o_86.lt
              have r_88 := r_63.grow g_78
              have w_118 := o_79.lt
              refine ⟨_, _, r_88.ownB, (isl_rdS (o_79.isL (by first | rfl | omega | (simp only [List.length_set]; done) | (simp only [List.length_set, List.length_replicate]; omega)))), (by first | (intro _; decide) | (intro h; cases h; done) | (intro _; omega)), (by have := most_eq; omega), ?_⟩
              refine Ap.appS r_88 rfl rfl (fun b_93 H_9 q_116 hl_89 o_90 k_91 => ?_)
              have l_94 := k_91.1
              have g_95 := g_82.keepA (fun x hx => by have := u_65 x hx; omega) k_91
              have l_96 := g_95.1
              have o_97 := o_84.keepA (fun x hx => by have := u_65 x hx; have := u_64 x hx; omega) k_91
              have w_98 := o_97.lt
              have o_99 := o_86.keepA (fun x hx => by have := u_65 x hx; have := u_64 x hx; omega) k_91
              have w_100 := o_99.lt
              have o_101 := o_79.keepA (fun x hx => by have := u_65 x hx; have := u_64 x hx; omega) k_91
              have w_102 := o_101.lt
              have w_117 := o_90.lt
              refine Lt.set o_99 (Nat.le_of_ble_eq_true rfl) (fun H_10 hl_103 o_105 k_104 => ?_)
              have o_105 : Own H_10 b_26 [.int .i64 q2_1, .int .i64 q2_2, .slice (some ⟨b_93, 0, none⟩) (q2_3.length + 1) 1] := o_105
              have l_106 := k_104.1
              have g_107 := g_95.keep (b := b_26) (by omega) k_104
              have l_108 := g_107.1
              have o_109 := o_97.keep (by omega) k_104
              have w_110 := o_109.lt
              have o_111 := o_101.keep (by omega) k_104
              have w_112 := o_111.lt
              have o_113 := o_90.keep (by omega) k_104
              have w_114 := o_113.lt
              have w_115 := o_105.lt
              rw [show IntKind.wrap .i64 (t28 + 1) = (t28 + 1) from wrap64 (by omega) (by omega)]
              refine impl_pictureBy_n2 (μ2 - 1) (by first | omega) ⟨_, _, _, _, _, o_109, (o_113.ownS rfl (by omega)), (by first | exact o_105 | (simp only [List.length_append, List.length_cons, List.length_nil, Nat.zero_add]; exact o_105)), (by omega), g_107, (by first | omega | (simp only [List.length_append, List.length_cons, List.length_nil, List.length_set]; done) | (simp only [List.length_append, List.length_cons, List.length_nil, List.length_set]; omega)), (by first | omega | (simp only [List.length_append, List.length_cons, List.length_nil, List.length_set]; done) | (simp only [List.length_append, List.length_cons, List.length_nil, List.length_set]; omega)), (by first | omega | (simp only [List.length_append, List.length_cons, List.length_nil, List.length_set]; done) | (simp only [List.length_append, List.length_cons, List.length_nil, List.length_set]; omega)), (by first | omega), (by rw [show μ2 - 1 + 1 = μ2 from by first | omega]; exact e)⟩
            · have e := e.trans (cond_f c_74)
              have c_74' := of_decide_eq_false c_74
              rw [impl_pictureBy_x2_2]
              rw [show IntKind.wrap .i64 (t24 + 1) = (t24 + 1) from wrap64 (by omega) (by omega)]
              refine impl_pictureBy_n1 (μ - 1) (by first | omega) ⟨_, _, _, _, _, _, _, (by first | exact o_60 | (simp only [List.length_append, List.length_cons, List.length_nil, Nat.zero_add]; exact o_60)), (r_63.weak (by omega)), (by first | exact o_61 | (simp only [List.length_append, List.length_cons, List.length_nil, Nat.zero_add]; exact o_61)), (by omega), g_67, (by first | omega | (simp only [List.length_append, List.length_cons, List.length_nil, List.length_set]; done) | (simp only [List.length_append, List.length_cons, List.length_nil, List.length_set]; omega)), (by first | omega | (simp only [List.length_append, List.length_cons, List.length_nil, List.length_set]; done) | (simp only [List.length_append, List.length_cons, List.length_nil, List.length_set]; omega)), (by first | omega | (simp only [List.length_append, List.length_cons, List.length_nil, List.length_set]; done) | (simp only [List.length_append, List.length_cons, List.length_nil, List.length_set]; omega)), (by first | omega), (by rw [show μ - 1 + 1 = μ from by first | omega]; exact e)⟩
        · have e := e.trans (cond_f c_59)
          have c_59' := of_decide_eq_false c_59
          rw [impl_pictureBy_x1_0]
          refine ⟨q1_4, q1_5, q1_6_a, q1_6.length, q1_6_e, (o_46.rdN (Nat.le_of_ble_eq_true rfl)).trans rfl, ?_⟩
          refine T_impl_validPicture_i ⟨_, r_48.isL, (by first | omega | (simp only [List.length_set, List.length_replicate, List.length_append, List.length_cons, List.length_nil, List.length_take, List.length_drop, marks_length]; done) | (simp only [List.length_set, List.length_replicate, List.length_append, List.length_cons, List.length_nil, List.length_take, List.length_drop, marks_length]; omega)), (fun H_11 g_123 => ?_)⟩
          have l_125 := g_123.1
          have g_126 := g_52.trans g_123
          have l_127 := g_126.1
          have o_128 := o_45.grow g_123
          have w_129 := o_128.lt
          have o_130 := o_46.grow g_123
          have w_131 := o_130.lt
          have r_132 := r_48.grow g_123
          refine Br.intro (fun c_124 => ?_) (fun c_124 => ?_)
          · have e := e.trans (cond_t c_124)
            refine Lt.setN (n := 3) o_128 (Nat.le_of_ble_eq_true rfl) rfl (fun H_12 hl_133 o_135 k_134 => ?_)
            have o_135 : Own H_12 b_1 [.int .i64 q1_4, .int .i64 q1_5, .slice q1_6_a q1_6.length q1_6_e] := o_135
            have l_136 := k_134.1
            have g_137 := g_126.keep (b := b_1) (by omega) k_134
            have l_138 := g_137.1
            have o_139 := o_130.keep (by omega) k_134
            have w_140 := o_139.lt
            have r_141 := r_132.keep u_49 (by omega) k_134
            have w_142 := o_135.lt
            refine ⟨q1_4, q1_5, q1_6_a, q1_6.length, q1_6_e, (o_135.rdN (Nat.le_of_ble_eq_true rfl)).trans rfl, ?_⟩
            rw [e] at hk
            exact hk _ _ _ H_12 g_137 (r_141.weak (by omega))
          · have e := e.trans (cond_f c_124)
            refine Lt.setN (n := 3) o_128 (Nat.le_of_ble_eq_true rfl) rfl (fun H_13 hl_143 o_145 k_144 => ?_)
            have o_145 : Own H_13 b_1 [.int .i64 0, .int .i64 0, .slice none 0 0] := o_145
            have l_146 := k_144.1
            have g_147 := g_126.keep (b := b_1) (by omega) k_144
            have l_148 := g_147.1
            have o_149 := o_130.keep (by omega) k_144
            have w_150 := o_149.lt
            have r_151 := r_132.keep u_49 (by omega) k_144
            have w_152 := o_145.lt
            refine ⟨0, 0, none, 0, 0, (o_145.rdN (Nat.le_of_ble_eq_true rfl)).trans rfl, ?_⟩
            rw [e] at hk
            exact hk _ _ _ H_13 g_147 (OwnS.nil _ _ _ _)
theorem impl_pictureBy_ok : FnOk Try.prog 154 S_impl_pictureBy := by
  refine FnOk.body mix_ok E_impl_pictureBy_ok Try.func154 rfl (by kernel_rfl) (by kernel_rfl) ?_ ?_ ?_ ?_ ?_
  · intro args H K K' h hk
    simp only [S_impl_pictureBy] at *
    unfold F_impl_pictureBy at *
    split at hk
    · obtain ⟨light_c0p_Wide, light_c0p_High, light_c0p_Lights_a, light_c0p_Lights_n, light_c0p_Lights_e, light_c1p, light_c2p, l_light_c0p_Lights, i_light_c0, i_light_c1, i_light_c2, i_light_c0p_Lights, bd_156, pr0, pr1, pr2, pr3, pr4, pr5, pr6, k⟩ := hk
      exact ⟨light_c0p_Wide, light_c0p_High, light_c0p_Lights_a, light_c0p_Lights_n, light_c0p_Lights_e, light_c1p, light_c2p, l_light_c0p_Lights, i_light_c0, i_light_c1, i_light_c2, i_light_c0p_Lights, bd_156, pr0, pr1, pr2, pr3, pr4, pr5, pr6, (fun r1_Lights_a r1_Lights_n r1_Lights_e H' gg ow0 => h _ _ (k r1_Lights_a r1_Lights_n r1_Lights_e H' gg ow0))⟩
    · exact hk.elim
  · intro hq; cases hq
  · intro args H K hk
    simp only [S_impl_pictureBy] at *
    unfold F_impl_pictureBy at *
    split at hk
    · obtain ⟨light_c0p_Wide, light_c0p_High, light_c0p_Lights_a, light_c0p_Lights_n, light_c0p_Lights_e, light_c1p, light_c2p, l_light_c0p_Lights, i_light_c0, i_light_c1, i_light_c2, i_light_c0p_Lights, bd_156, pr0, pr1, pr2, pr3, pr4, pr5, pr6, k⟩ := hk
      exact liveS fun a n e H1 g o => ⟨_, _, k a n e H1 g o⟩
    · exact hk.elim
  · intro _ args H K hk
    simp only [S_impl_pictureBy] at *
    unfold F_impl_pictureBy at *
    split at hk
    · obtain ⟨light_c0p_Wide, light_c0p_High, light_c0p_Lights_a, light_c0p_Lights_n, light_c0p_Lights_e, light_c1p, light_c2p, l_light_c0p_Lights, i_light_c0, i_light_c1, i_light_c2, i_light_c0p_Lights, bd_156, pr0, pr1, pr2, pr3, pr4, pr5, pr6, k⟩ := hk
      exact ⟨light_c0p_Wide, light_c0p_High, light_c0p_Lights_a, light_c0p_Lights_n, light_c0p_Lights_e, light_c1p, light_c2p, l_light_c0p_Lights, i_light_c0, i_light_c1, i_light_c2, i_light_c0p_Lights, bd_156, pr0, pr1, pr2, pr3, pr4, pr5, pr6, (fun r1_Lights_a r1_Lights_n r1_Lights_e H' gg ow0 => ⟨gg, k r1_Lights_a r1_Lights_n r1_Lights_e H' gg ow0⟩)⟩
    · exact hk.elim
  · have mm := @impl_pictureBy_main
    revert mm
    generalize bodyK Try.prog E_impl_pictureBy Try.f154 = Q
    intro mm args H K hk
    simp only [S_impl_pictureBy] at *
    unfold F_impl_pictureBy at *
    split at hk
    · exact mm _ _ _ _ _ H K hk
    · exact hk.elim

def p_impl_CropPicture (p_Wide : Int) (p_High : Int) (l_p_Lights : List Nat) (x : Int) (y : Int) (wide : Int) (high : Int) : Int × Int × (List Nat) × Bool := (bif !(p_impl_isPartAt p_Wide p_High l_p_Lights x y wide high) then ((0 : Int), (0 : Int), [], false) else ((p_impl_pictureBy wide high p_Wide p_High l_p_Lights y x).1, (p_impl_pictureBy wide high p_Wide p_High l_p_Lights y x).2.1, (p_impl_pictureBy wide high p_Wide p_High l_p_Lights y x).2.2.1, (p_impl_pictureBy wide high p_Wide p_High l_p_Lights y x).2.2.2))
theorem p_impl_CropPicture_eq (p_Wide : Int) (p_High : Int) (l_p_Lights : List Nat) (x : Int) (y : Int) (wide : Int) (high : Int) : p_impl_CropPicture p_Wide p_High l_p_Lights x y wide high = (bif !(p_impl_isPartAt p_Wide p_High l_p_Lights x y wide high) then ((0 : Int), (0 : Int), [], false) else ((p_impl_pictureBy wide high p_Wide p_High l_p_Lights y x).1, (p_impl_pictureBy wide high p_Wide p_High l_p_Lights y x).2.1, (p_impl_pictureBy wide high p_Wide p_High l_p_Lights y x).2.2.1, (p_impl_pictureBy wide high p_Wide p_High l_p_Lights y x).2.2.2)) := rfl
def T_impl_CropPicture (p_Wide : Int) (p_High : Int) (p_Lights_a : Option Addr) (p_Lights_n : Nat) (p_Lights_e : Nat) (x : Int) (y : Int) (wide : Int) (high : Int) (H : AHeap) (K : Int → Int → (Option Addr) → Nat → Nat → Bool → AHeap → Prop) : Prop := ∃ (l_p_Lights : List Nat), IsL fF H p_Lights_a p_Lights_n l_p_Lights ∧ l_p_Lights.length < 1073741824 ∧ ((∀ (r1_Lights_a : Option Addr) (r1_Lights_n r1_Lights_e : Nat), ∀ H' : AHeap, Grow H H' → OwnS fF H' H.length r1_Lights_a r1_Lights_n r1_Lights_e ((p_impl_CropPicture p_Wide p_High l_p_Lights x y wide high).2.2.1) → K ((p_impl_CropPicture p_Wide p_High l_p_Lights x y wide high).1) ((p_impl_CropPicture p_Wide p_High l_p_Lights x y wide high).2.1) r1_Lights_a r1_Lights_n r1_Lights_e ((p_impl_CropPicture p_Wide p_High l_p_Lights x y wide high).2.2.2) H'))
theorem T_impl_CropPicture_i {p_Wide : Int} {p_High : Int} {p_Lights_a : Option Addr} {p_Lights_n : Nat} {p_Lights_e : Nat} {x : Int} {y : Int} {wide : Int} {high : Int} {H : AHeap} {K : Int → Int → (Option Addr) → Nat → Nat → Bool → AHeap → Prop} (h : ∃ (l_p_Lights : List Nat), IsL fF H p_Lights_a p_Lights_n l_p_Lights ∧ l_p_Lights.length < 1073741824 ∧ ((∀ (r1_Lights_a : Option Addr) (r1_Lights_n r1_Lights_e : Nat), ∀ H' : AHeap, Grow H H' → OwnS fF H' H.length r1_Lights_a r1_Lights_n r1_Lights_e ((p_impl_CropPicture p_Wide p_High l_p_Lights x y wide high).2.2.1) → K ((p_impl_CropPicture p_Wide p_High l_p_Lights x y wide high).1) ((p_impl_CropPicture p_Wide p_High l_p_Lights x y wide high).2.1) r1_Lights_a r1_Lights_n r1_Lights_e ((p_impl_CropPicture p_Wide p_High l_p_Lights x y wide high).2.2.2) H'))) : T_impl_CropPicture p_Wide p_High p_Lights_a p_Lights_n p_Lights_e x y wide high H K := h
theorem impl_CropPicture_len (W H : Int) (L : List Nat) (x y wide high : Int) : ((p_impl_CropPicture W H L x y wide high).2.2.1.length : Int) ≤ 256 := by
  rw [p_impl_CropPicture_eq]
  cases p_impl_isPartAt W H L x y wide high with
  | false => show ((0 : Nat) : Int) ≤ 256; omega
  | true => exact impl_pictureBy_len _ _ _ _ _ _ _
/-! impl_CropPicture: function 147 -/
def E_impl_CropPicture : Env := envOf [(153, S_impl_isPartAt), (154, S_impl_pictureBy)]
def F_impl_CropPicture : List Value → AHeap → (Value → AHeap → Prop) → Prop
  | [.agg ⟨[.int .i64 p_Wide, .int .i64 p_High, .slice p_Lights_a p_Lights_n p_Lights_e]⟩, .int .i64 x, .int .i64 y, .int .i64 wide, .int .i64 high], H, K => T_impl_CropPicture p_Wide p_High p_Lights_a p_Lights_n p_Lights_e x y wide high H fun (r1_Wide : Int) (r1_High : Int) (r1_Lights_a : Option Addr) (r1_Lights_n : Nat) (r1_Lights_e : Nat) (r2 : Bool) (H' : AHeap) => K (.tuple #[.agg #[.int .i64 r1_Wide, .int .i64 r1_High, .slice r1_Lights_a r1_Lights_n r1_Lights_e], .bool r2]) H'
  | _, _, _ => False
def S_impl_CropPicture : FSpec := { F := F_impl_CropPicture, quiet := false, tame := true }
theorem impl_CropPicture_vc (p_Wide : Int) (p_High : Int) (p_Lights_a : Option Addr) (p_Lights_n : Nat) (p_Lights_e : Nat) (x : Int) (y : Int) (wide : Int) (high : Int) (H : AHeap) (K : Value → AHeap → Prop) : bodyK Try.prog E_impl_CropPicture Try.f147 [.agg #[.int .i64 p_Wide, .int .i64 p_High, .slice p_Lights_a p_Lights_n p_Lights_e], .int .i64 x, .int .i64 y, .int .i64 wide, .int .i64 high] H K =
  (Al [.int .i64 p_Wide, .int .i64 p_High, .slice p_Lights_a p_Lights_n p_Lights_e] H fun b1 H1 => Al [.int .i64 x] H1 fun b2 H2 => Al [.int .i64 y] H2 fun b3 H3 => Al [.int .i64 0, .int .i64 0, .slice none 0 0] H3 fun b4 H4 => ∃ c1 : Int, ∃ c2 : Int, ∃ c3_a : Option Addr, ∃ c3_n : Nat, ∃ c3_e : Nat,  rdN H4 b1 0 3 = some [.int .i64 c1, .int .i64 c2, .slice c3_a c3_n c3_e] ∧ ∃ x1 : Int,  rdC H4 b2 0 = some (.int .i64 x1) ∧ ∃ x2 : Int,  rdC H4 b3 0 = some (.int .i64 x2) ∧ T_impl_isPartAt c1 c2 c3_a c3_n c3_e x1 x2 wide high H4 fun (r1 : Bool) (H5 : AHeap) => Br (!r1) (isOwn H5 b4 ∧ (∃ l, rdN H5 b4 0 3 = some l) ∧ Lt (setN H5 b4 0 [.int .i64 0, .int .i64 0, .slice none 0 0]) fun H6 => ∃ c4 : Int, ∃ c5 : Int, ∃ c6_a : Option Addr, ∃ c6_n : Nat, ∃ c6_e : Nat,  rdN H6 b4 0 3 = some [.int .i64 c4, .int .i64 c5, .slice c6_a c6_n c6_e] ∧ K (.tuple #[.agg #[.int .i64 c4, .int .i64 c5, .slice c6_a c6_n c6_e], .bool false]) H6) (T_impl_pictureBy wide high b1 b3 b2 H5 fun (r2 : Int) (r3 : Int) (a1 : Option Addr) (r4 : Nat) (r5 : Nat) (r6 : Bool) (H7 : AHeap) => isOwn H7 b4 ∧ (∃ l, rdN H7 b4 0 3 = some l) ∧ Lt (setN H7 b4 0 [.int .i64 r2, .int .i64 r3, .slice a1 r4 r5]) fun H8 => ∃ c7 : Int, ∃ c8 : Int, ∃ c9_a : Option Addr, ∃ c9_n : Nat, ∃ c9_e : Nat,  rdN H8 b4 0 3 = some [.int .i64 c7, .int .i64 c8, .slice c9_a c9_n c9_e] ∧ K (.tuple #[.agg #[.int .i64 c7, .int .i64 c8, .slice c9_a c9_n c9_e], .bool r6]) H8)) := by kernel_rfl
theorem E_impl_CropPicture_ok : ∀ g, FnOk Try.prog g (E_impl_CropPicture g) := FnOk.envOf (by
  intro x hx
  simp only [List.mem_cons, List.not_mem_nil, or_false] at hx
  rcases hx with rfl | rfl
  · exact impl_isPartAt_ok
  · exact impl_pictureBy_ok)
set_option maxHeartbeats 1000000 in
theorem impl_CropPicture_main (p_Wide : Int) (p_High : Int) (p_Lights_a : Option Addr) (p_Lights_n : Nat) (p_Lights_e : Nat) (x : Int) (y : Int) (wide : Int) (high : Int) (H : AHeap) (K : Value → AHeap → Prop) (h : T_impl_CropPicture p_Wide p_High p_Lights_a p_Lights_n p_Lights_e x y wide high H fun (r1_Wide : Int) (r1_High : Int) (r1_Lights_a : Option Addr) (r1_Lights_n : Nat) (r1_Lights_e : Nat) (r2 : Bool) (H' : AHeap) => K (.tuple #[.agg #[.int .i64 r1_Wide, .int .i64 r1_High, .slice r1_Lights_a r1_Lights_n r1_Lights_e], .bool r2]) H') : bodyK Try.prog E_impl_CropPicture Try.f147 [.agg #[.int .i64 p_Wide, .int .i64 p_High, .slice p_Lights_a p_Lights_n p_Lights_e], .int .i64 x, .int .i64 y, .int .i64 wide, .int .i64 high] H K := by
  rw [impl_CropPicture_vc]
  obtain ⟨l_p_Lights, i_p_Lights, bd_113, hk⟩ := h
  obtain rfl := i_p_Lights.eqn
  have e : (p_impl_CropPicture p_Wide p_High l_p_Lights x y wide high) = _ := rfl
  have e := e.trans (p_impl_CropPicture_eq p_Wide p_High l_p_Lights x y wide high)
  have g0 := Grow.refl H
  refine Al.intro (fun b_1 H_1 hb_2 hl_3 g_4 o_5 => ?_)
  have l_7 := g_4.1
  have g_8 := g0.trans g_4
  have l_9 := g_8.1
  have w_112 := o_5.lt
  refine Al.intro (fun b_10 H_2 hb_11 hl_12 g_13 o_14 => ?_)
  have l_16 := g_13.1
  have g_17 := g_8.trans g_13
  have l_18 := g_17.1
  have o_19 := o_5.grow g_13
  have w_20 := o_19.lt
  have w_111 := o_14.lt
  refine Al.intro (fun b_21 H_3 hb_22 hl_23 g_24 o_25 => ?_)
  have l_27 := g_24.1
  have g_28 := g_17.trans g_24
  have l_29 := g_28.1
  have o_30 := o_19.grow g_24
  have w_31 := o_30.lt
  have o_32 := o_14.grow g_24
  have w_33 := o_32.lt
  have w_110 := o_25.lt
  refine Al.intro (fun b_34 H_4 hb_35 hl_36 g_37 o_38 => ?_)
  have l_40 := g_37.1
  have g_41 := g_28.trans g_37
  have l_42 := g_41.1
  have o_43 := o_30.grow g_37
  have w_44 := o_43.lt
  have o_45 := o_32.grow g_37
  have w_46 := o_45.lt
  have o_47 := o_25.grow g_37
  have w_48 := o_47.lt
  have w_109 := o_38.lt
  refine ⟨p_Wide, p_High, p_Lights_a, l_p_Lights.length, p_Lights_e, (o_43.rdN (Nat.le_of_ble_eq_true rfl)).trans rfl, ?_⟩
  refine ⟨x, (o_45.rdC _).trans rfl, ?_⟩
  refine ⟨y, (o_47.rdC _).trans rfl, ?_⟩
  refine T_impl_isPartAt_i ⟨_, (i_p_Lights.grow g_41), (by first | omega | (simp only [List.length_set, List.length_replicate, List.length_append, List.length_cons, List.length_nil, List.length_take, List.length_drop, marks_length]; done) | (simp only [List.length_set, List.length_replicate, List.length_append, List.length_cons, List.length_nil, List.length_take, List.length_drop, marks_length]; omega)), fun  H_5 g_49  => ?_⟩
  have l_50 := g_49.1
  have g_51 := g_41.trans g_49
  have l_52 := g_51.1
  have o_53 := o_43.grow g_49
  have w_54 := o_53.lt
  have o_55 := o_45.grow g_49
  have w_56 := o_55.lt
  have o_57 := o_47.grow g_49
  have w_58 := o_57.lt
  have o_59 := o_38.grow g_49
  have w_60 := o_59.lt
  refine Br.intro (fun c_61 => ?_) (fun c_61 => ?_)
  · have e := e.trans (cond_t c_61)
    have c_61n := nf_of_t c_61
    refine Lt.setN (n := 3) o_59 (Nat.le_of_ble_eq_true rfl) rfl (fun H_6 hl_62 o_64 k_63 => ?_)
    have o_64 : Own H_6 b_34 [.int .i64 0, .int .i64 0, .slice none 0 0] := o_64
    have l_65 := k_63.1
    have g_66 := g_51.keep (b := b_34) (by omega) k_63
    have l_67 := g_66.1
    have o_68 := o_53.keep (by omega) k_63
    have w_69 := o_68.lt
    have o_70 := o_55.keep (by omega) k_63
    have w_71 := o_70.lt
    have o_72 := o_57.keep (by omega) k_63
    have w_73 := o_72.lt
    have w_74 := o_64.lt
    refine ⟨0, 0, none, 0, 0, (o_64.rdN (Nat.le_of_ble_eq_true rfl)).trans rfl, ?_⟩
    rw [e] at hk
    exact hk _ _ _ H_6 g_66 (OwnS.nil _ _ _ _)
  · have e := e.trans (cond_f c_61)
    have c_61n := nt_of_f c_61
    have c_61n' := impl_isPartAt_t c_61n
    refine T_impl_pictureBy_i ⟨p_Wide, p_High, p_Lights_a, l_p_Lights.length, p_Lights_e, y, x, _, ((o_53.rdN (Nat.le_of_ble_eq_true rfl)).trans rfl), ((o_57.rdN (Nat.le_of_ble_eq_true rfl)).trans rfl), ((o_55.rdN (Nat.le_of_ble_eq_true rfl)).trans rfl), (i_p_Lights.grow g_51), (by first | omega | (simp only [List.length_set, List.length_replicate, List.length_append, List.length_cons, List.length_nil, List.length_take, List.length_drop, marks_length]; done) | (simp only [List.length_set, List.length_replicate, List.length_append, List.length_cons, List.length_nil, List.length_take, List.length_drop, marks_length]; omega)), (by first | assumption | omega | (simp; omega)), (by first | assumption | omega | (simp; omega)), (by first | assumption | omega | (simp; omega)), (by first | assumption | omega | (simp; omega)), (by first | assumption | omega | (simp; omega)), (by first | assumption | omega | (simp; omega)), (by first | assumption | omega | (simp; omega)), fun a_75 n_76 e_77 H_7 g_80 r_78 => ?_⟩
    have z_79 := impl_pictureBy_len wide high p_Wide p_High l_p_Lights y x
    have l_81 := g_80.1
    have g_82 := g_51.trans g_80
    have l_83 := g_82.1
    have o_84 := o_53.grow g_80
    have w_85 := o_84.lt
    have o_86 := o_55.grow g_80
    have w_87 := o_86.lt
    have o_88 := o_57.grow g_80
    have w_89 := o_88.lt
    have o_90 := o_59.grow g_80
    have w_91 := o_90.lt
    obtain rfl := r_78.isL.eqn
    have u_92 := r_78.up
    have u_93 := r_78.lo
    refine Lt.setN (n := 3) o_90 (Nat.le_of_ble_eq_true rfl) rfl (fun H_8 hl_95 o_97 k_96 => ?_)
    have o_97 : Own H_8 b_34 [.int .i64 ((p_impl_pictureBy wide high p_Wide p_High l_p_Lights y x).1), .int .i64 ((p_impl_pictureBy wide high p_Wide p_High l_p_Lights y x).2.1), .slice a_75 (((p_impl_pictureBy wide high p_Wide p_High l_p_Lights y x).2.2.1).length) e_77] := o_97
    have l_98 := k_96.1
    have g_99 := g_82.keep (b := b_34) (by omega) k_96
    have l_100 := g_99.1
    have o_101 := o_84.keep (by omega) k_96
    have w_102 := o_101.lt
    have o_103 := o_86.keep (by omega) k_96
    have w_104 := o_103.lt
    have o_105 := o_88.keep (by omega) k_96
    have w_106 := o_105.lt
    have r_107 := r_78.keep u_92 (by omega) k_96
    have w_108 := o_97.lt
    refine ⟨(p_impl_pictureBy wide high p_Wide p_High l_p_Lights y x).1, (p_impl_pictureBy wide high p_Wide p_High l_p_Lights y x).2.1, a_75, ((p_impl_pictureBy wide high p_Wide p_High l_p_Lights y x).2.2.1).length, e_77, (o_97.rdN (Nat.le_of_ble_eq_true rfl)).trans rfl, ?_⟩
    rw [e] at hk
    exact hk _ _ _ H_8 g_99 (r_107.weak (by omega))
theorem impl_CropPicture_ok : FnOk Try.prog 147 S_impl_CropPicture := by
  refine FnOk.body mix_ok E_impl_CropPicture_ok Try.func147 rfl (by kernel_rfl) (by kernel_rfl) ?_ ?_ ?_ ?_ ?_
  · intro args H K K' h hk
    simp only [S_impl_CropPicture] at *
    unfold F_impl_CropPicture at *
    split at hk
    · obtain ⟨l_p_Lights, i_p_Lights, bd_113, k⟩ := hk
      exact ⟨l_p_Lights, i_p_Lights, bd_113, (fun r1_Lights_a r1_Lights_n r1_Lights_e H' gg ow0 => h _ _ (k r1_Lights_a r1_Lights_n r1_Lights_e H' gg ow0))⟩
    · exact hk.elim
  · intro hq; cases hq
  · intro args H K hk
    simp only [S_impl_CropPicture] at *
    unfold F_impl_CropPicture at *
    split at hk
    · obtain ⟨l_p_Lights, i_p_Lights, bd_113, k⟩ := hk
      exact liveS fun a n e H1 g o => ⟨_, _, k a n e H1 g o⟩
    · exact hk.elim
  · intro _ args H K hk
    simp only [S_impl_CropPicture] at *
    unfold F_impl_CropPicture at *
    split at hk
    · obtain ⟨l_p_Lights, i_p_Lights, bd_113, k⟩ := hk
      exact ⟨l_p_Lights, i_p_Lights, bd_113, (fun r1_Lights_a r1_Lights_n r1_Lights_e H' gg ow0 => ⟨gg, k r1_Lights_a r1_Lights_n r1_Lights_e H' gg ow0⟩)⟩
    · exact hk.elim
  · have mm := @impl_CropPicture_main
    revert mm
    generalize bodyK Try.prog E_impl_CropPicture Try.f147 = Q
    intro mm args H K hk
    simp only [S_impl_CropPicture] at *
    unfold F_impl_CropPicture at *
    split at hk
    · exact mm _ _ _ _ _ _ _ _ _ H K hk
    · exact hk.elim

def p_impl_BandOf (p_Wide : Int) (p_High : Int) (l_p_Lights : List Nat) (level : Int) (band : Int) : Int × Int × (List Nat) × Bool := (bif !((p_impl_RegionOf p_Wide p_High level band).2.2.2.2) then ((0 : Int), (0 : Int), [], false) else ((p_impl_CropPicture p_Wide p_High l_p_Lights ((p_impl_RegionOf p_Wide p_High level band).1) ((p_impl_RegionOf p_Wide p_High level band).2.1) ((p_impl_RegionOf p_Wide p_High level band).2.2.1) ((p_impl_RegionOf p_Wide p_High level band).2.2.2.1)).1, (p_impl_CropPicture p_Wide p_High l_p_Lights ((p_impl_RegionOf p_Wide p_High level band).1) ((p_impl_RegionOf p_Wide p_High level band).2.1) ((p_impl_RegionOf p_Wide p_High level band).2.2.1) ((p_impl_RegionOf p_Wide p_High level band).2.2.2.1)).2.1, (p_impl_CropPicture p_Wide p_High l_p_Lights ((p_impl_RegionOf p_Wide p_High level band).1) ((p_impl_RegionOf p_Wide p_High level band).2.1) ((p_impl_RegionOf p_Wide p_High level band).2.2.1) ((p_impl_RegionOf p_Wide p_High level band).2.2.2.1)).2.2.1, (p_impl_CropPicture p_Wide p_High l_p_Lights ((p_impl_RegionOf p_Wide p_High level band).1) ((p_impl_RegionOf p_Wide p_High level band).2.1) ((p_impl_RegionOf p_Wide p_High level band).2.2.1) ((p_impl_RegionOf p_Wide p_High level band).2.2.2.1)).2.2.2))
theorem p_impl_BandOf_eq (p_Wide : Int) (p_High : Int) (l_p_Lights : List Nat) (level : Int) (band : Int) : p_impl_BandOf p_Wide p_High l_p_Lights level band = (bif !((p_impl_RegionOf p_Wide p_High level band).2.2.2.2) then ((0 : Int), (0 : Int), [], false) else ((p_impl_CropPicture p_Wide p_High l_p_Lights ((p_impl_RegionOf p_Wide p_High level band).1) ((p_impl_RegionOf p_Wide p_High level band).2.1) ((p_impl_RegionOf p_Wide p_High level band).2.2.1) ((p_impl_RegionOf p_Wide p_High level band).2.2.2.1)).1, (p_impl_CropPicture p_Wide p_High l_p_Lights ((p_impl_RegionOf p_Wide p_High level band).1) ((p_impl_RegionOf p_Wide p_High level band).2.1) ((p_impl_RegionOf p_Wide p_High level band).2.2.1) ((p_impl_RegionOf p_Wide p_High level band).2.2.2.1)).2.1, (p_impl_CropPicture p_Wide p_High l_p_Lights ((p_impl_RegionOf p_Wide p_High level band).1) ((p_impl_RegionOf p_Wide p_High level band).2.1) ((p_impl_RegionOf p_Wide p_High level band).2.2.1) ((p_impl_RegionOf p_Wide p_High level band).2.2.2.1)).2.2.1, (p_impl_CropPicture p_Wide p_High l_p_Lights ((p_impl_RegionOf p_Wide p_High level band).1) ((p_impl_RegionOf p_Wide p_High level band).2.1) ((p_impl_RegionOf p_Wide p_High level band).2.2.1) ((p_impl_RegionOf p_Wide p_High level band).2.2.2.1)).2.2.2)) := rfl
def T_impl_BandOf (p_Wide : Int) (p_High : Int) (p_Lights_a : Option Addr) (p_Lights_n : Nat) (p_Lights_e : Nat) (level : Int) (band : Int) (H : AHeap) (K : Int → Int → (Option Addr) → Nat → Nat → Bool → AHeap → Prop) : Prop := ∃ (l_p_Lights : List Nat), IsL fF H p_Lights_a p_Lights_n l_p_Lights ∧ l_p_Lights.length < 1073741824 ∧ ((∀ (r1_Lights_a : Option Addr) (r1_Lights_n r1_Lights_e : Nat), ∀ H' : AHeap, Grow H H' → OwnS fF H' H.length r1_Lights_a r1_Lights_n r1_Lights_e ((p_impl_BandOf p_Wide p_High l_p_Lights level band).2.2.1) → K ((p_impl_BandOf p_Wide p_High l_p_Lights level band).1) ((p_impl_BandOf p_Wide p_High l_p_Lights level band).2.1) r1_Lights_a r1_Lights_n r1_Lights_e ((p_impl_BandOf p_Wide p_High l_p_Lights level band).2.2.2) H'))
theorem T_impl_BandOf_i {p_Wide : Int} {p_High : Int} {p_Lights_a : Option Addr} {p_Lights_n : Nat} {p_Lights_e : Nat} {level : Int} {band : Int} {H : AHeap} {K : Int → Int → (Option Addr) → Nat → Nat → Bool → AHeap → Prop} (h : ∃ (l_p_Lights : List Nat), IsL fF H p_Lights_a p_Lights_n l_p_Lights ∧ l_p_Lights.length < 1073741824 ∧ ((∀ (r1_Lights_a : Option Addr) (r1_Lights_n r1_Lights_e : Nat), ∀ H' : AHeap, Grow H H' → OwnS fF H' H.length r1_Lights_a r1_Lights_n r1_Lights_e ((p_impl_BandOf p_Wide p_High l_p_Lights level band).2.2.1) → K ((p_impl_BandOf p_Wide p_High l_p_Lights level band).1) ((p_impl_BandOf p_Wide p_High l_p_Lights level band).2.1) r1_Lights_a r1_Lights_n r1_Lights_e ((p_impl_BandOf p_Wide p_High l_p_Lights level band).2.2.2) H'))) : T_impl_BandOf p_Wide p_High p_Lights_a p_Lights_n p_Lights_e level band H K := h
theorem impl_BandOf_len (W H : Int) (L : List Nat) (level band : Int) : ((p_impl_BandOf W H L level band).2.2.1.length : Int) ≤ 256 := by
  rw [p_impl_BandOf_eq]
  cases (p_impl_RegionOf W H level band).2.2.2.2 with
  | false => show ((0 : Nat) : Int) ≤ 256; omega
  | true => exact impl_CropPicture_len _ _ _ _ _ _ _
/-! impl_BandOf: function 132 -/
def E_impl_BandOf : Env := envOf [(146, S_impl_RegionOf), (147, S_impl_CropPicture)]
def F_impl_BandOf : List Value → AHeap → (Value → AHeap → Prop) → Prop
  | [.agg ⟨[.int .i64 p_Wide, .int .i64 p_High, .slice p_Lights_a p_Lights_n p_Lights_e]⟩, .int .i64 level, .int .i64 band], H, K => T_impl_BandOf p_Wide p_High p_Lights_a p_Lights_n p_Lights_e level band H fun (r1_Wide : Int) (r1_High : Int) (r1_Lights_a : Option Addr) (r1_Lights_n : Nat) (r1_Lights_e : Nat) (r2 : Bool) (H' : AHeap) => K (.tuple #[.agg #[.int .i64 r1_Wide, .int .i64 r1_High, .slice r1_Lights_a r1_Lights_n r1_Lights_e], .bool r2]) H'
  | _, _, _ => False
def S_impl_BandOf : FSpec := { F := F_impl_BandOf, quiet := false, tame := true }
theorem impl_BandOf_vc (p_Wide : Int) (p_High : Int) (p_Lights_a : Option Addr) (p_Lights_n : Nat) (p_Lights_e : Nat) (level : Int) (band : Int) (H : AHeap) (K : Value → AHeap → Prop) : bodyK Try.prog E_impl_BandOf Try.f132 [.agg #[.int .i64 p_Wide, .int .i64 p_High, .slice p_Lights_a p_Lights_n p_Lights_e], .int .i64 level, .int .i64 band] H K =
  (Al [.int .i64 p_Wide, .int .i64 p_High, .slice p_Lights_a p_Lights_n p_Lights_e] H fun b1 H1 => Al [.int .i64 0, .int .i64 0, .slice none 0 0] H1 fun b2 H2 => ∃ x1 : Int,  rdC H2 b1 0 = some (.int .i64 x1) ∧ ∃ x2 : Int,  rdC H2 b1 1 = some (.int .i64 x2) ∧ T_impl_RegionOf x1 x2 level band H2 fun (r1 : Int) (r2 : Int) (r3 : Int) (r4 : Int) (r5 : Bool) (H3 : AHeap) => Br (!r5) (isOwn H3 b2 ∧ (∃ l, rdN H3 b2 0 3 = some l) ∧ Lt (setN H3 b2 0 [.int .i64 0, .int .i64 0, .slice none 0 0]) fun H4 => ∃ c1 : Int, ∃ c2 : Int, ∃ c3_a : Option Addr, ∃ c3_n : Nat, ∃ c3_e : Nat,  rdN H4 b2 0 3 = some [.int .i64 c1, .int .i64 c2, .slice c3_a c3_n c3_e] ∧ K (.tuple #[.agg #[.int .i64 c1, .int .i64 c2, .slice c3_a c3_n c3_e], .bool false]) H4) (∃ c4 : Int, ∃ c5 : Int, ∃ c6_a : Option Addr, ∃ c6_n : Nat, ∃ c6_e : Nat,  rdN H3 b1 0 3 = some [.int .i64 c4, .int .i64 c5, .slice c6_a c6_n c6_e] ∧ T_impl_CropPicture c4 c5 c6_a c6_n c6_e r1 r2 r3 r4 H3 fun (r6 : Int) (r7 : Int) (a1 : Option Addr) (r8 : Nat) (r9 : Nat) (r10 : Bool) (H5 : AHeap) => isOwn H5 b2 ∧ (∃ l, rdN H5 b2 0 3 = some l) ∧ Lt (setN H5 b2 0 [.int .i64 r6, .int .i64 r7, .slice a1 r8 r9]) fun H6 => ∃ c7 : Int, ∃ c8 : Int, ∃ c9_a : Option Addr, ∃ c9_n : Nat, ∃ c9_e : Nat,  rdN H6 b2 0 3 = some [.int .i64 c7, .int .i64 c8, .slice c9_a c9_n c9_e] ∧ K (.tuple #[.agg #[.int .i64 c7, .int .i64 c8, .slice c9_a c9_n c9_e], .bool r10]) H6)) := by kernel_rfl
theorem E_impl_BandOf_ok : ∀ g, FnOk Try.prog g (E_impl_BandOf g) := FnOk.envOf (by
  intro x hx
  simp only [List.mem_cons, List.not_mem_nil, or_false] at hx
  rcases hx with rfl | rfl
  · exact impl_RegionOf_ok
  · exact impl_CropPicture_ok)
set_option maxHeartbeats 1000000 in
theorem impl_BandOf_main (p_Wide : Int) (p_High : Int) (p_Lights_a : Option Addr) (p_Lights_n : Nat) (p_Lights_e : Nat) (level : Int) (band : Int) (H : AHeap) (K : Value → AHeap → Prop) (h : T_impl_BandOf p_Wide p_High p_Lights_a p_Lights_n p_Lights_e level band H fun (r1_Wide : Int) (r1_High : Int) (r1_Lights_a : Option Addr) (r1_Lights_n : Nat) (r1_Lights_e : Nat) (r2 : Bool) (H' : AHeap) => K (.tuple #[.agg #[.int .i64 r1_Wide, .int .i64 r1_High, .slice r1_Lights_a r1_Lights_n r1_Lights_e], .bool r2]) H') : bodyK Try.prog E_impl_BandOf Try.f132 [.agg #[.int .i64 p_Wide, .int .i64 p_High, .slice p_Lights_a p_Lights_n p_Lights_e], .int .i64 level, .int .i64 band] H K := by
  rw [impl_BandOf_vc]
  obtain ⟨l_p_Lights, i_p_Lights, bd_59, hk⟩ := h
  obtain rfl := i_p_Lights.eqn
  have e : (p_impl_BandOf p_Wide p_High l_p_Lights level band) = _ := rfl
  have e := e.trans (p_impl_BandOf_eq p_Wide p_High l_p_Lights level band)
  have g0 := Grow.refl H
  refine Al.intro (fun b_1 H_1 hb_2 hl_3 g_4 o_5 => ?_)
  have l_7 := g_4.1
  have g_8 := g0.trans g_4
  have l_9 := g_8.1
  have w_58 := o_5.lt
  refine Al.intro (fun b_10 H_2 hb_11 hl_12 g_13 o_14 => ?_)
  have l_16 := g_13.1
  have g_17 := g_8.trans g_13
  have l_18 := g_17.1
  have o_19 := o_5.grow g_13
  have w_20 := o_19.lt
  have w_57 := o_14.lt
  refine ⟨p_Wide, (o_19.rdC _).trans rfl, ?_⟩
  refine ⟨p_High, (o_19.rdC _).trans rfl, ?_⟩
  refine T_impl_RegionOf_i ?_
  refine Br.intro (fun c_21 => ?_) (fun c_21 => ?_)
  · have e := e.trans (cond_t c_21)
    have c_21n := nf_of_t c_21
    refine Lt.setN (n := 3) o_14 (Nat.le_of_ble_eq_true rfl) rfl (fun H_3 hl_22 o_24 k_23 => ?_)
    have o_24 : Own H_3 b_10 [.int .i64 0, .int .i64 0, .slice none 0 0] := o_24
    have l_25 := k_23.1
    have g_26 := g_17.keep (b := b_10) (by omega) k_23
    have l_27 := g_26.1
    have o_28 := o_19.keep (by omega) k_23
    have w_29 := o_28.lt
    have w_30 := o_24.lt
    refine ⟨0, 0, none, 0, 0, (o_24.rdN (Nat.le_of_ble_eq_true rfl)).trans rfl, ?_⟩
    rw [e] at hk
    exact hk _ _ _ H_3 g_26 (OwnS.nil _ _ _ _)
  · have e := e.trans (cond_f c_21)
    have c_21n := nt_of_f c_21
    refine ⟨p_Wide, p_High, p_Lights_a, l_p_Lights.length, p_Lights_e, (o_19.rdN (Nat.le_of_ble_eq_true rfl)).trans rfl, ?_⟩
    refine T_impl_CropPicture_i ⟨_, (i_p_Lights.grow g_17), (by first | omega | (simp only [List.length_set, List.length_replicate, List.length_append, List.length_cons, List.length_nil, List.length_take, List.length_drop, marks_length]; done) | (simp only [List.length_set, List.length_replicate, List.length_append, List.length_cons, List.length_nil, List.length_take, List.length_drop, marks_length]; omega)), fun a_31 n_32 e_33 H_4 g_36 r_34 => ?_⟩
    have z_35 := impl_CropPicture_len p_Wide p_High l_p_Lights ((p_impl_RegionOf p_Wide p_High level band).1) ((p_impl_RegionOf p_Wide p_High level band).2.1) ((p_impl_RegionOf p_Wide p_High level band).2.2.1) ((p_impl_RegionOf p_Wide p_High level band).2.2.2.1)
    have l_37 := g_36.1
    have g_38 := g_17.trans g_36
    have l_39 := g_38.1
    have o_40 := o_19.grow g_36
    have w_41 := o_40.lt
    have o_42 := o_14.grow g_36
    have w_43 := o_42.lt
    obtain rfl := r_34.isL.eqn
    have u_44 := r_34.up
    have u_45 := r_34.lo
    refine Lt.setN (n := 3) o_42 (Nat.le_of_ble_eq_true rfl) rfl (fun H_5 hl_47 o_49 k_48 => ?_)
    have o_49 : Own H_5 b_10 [.int .i64 ((p_impl_CropPicture p_Wide p_High l_p_Lights ((p_impl_RegionOf p_Wide p_High level band).1) ((p_impl_RegionOf p_Wide p_High level band).2.1) ((p_impl_RegionOf p_Wide p_High level band).2.2.1) ((p_impl_RegionOf p_Wide p_High level band).2.2.2.1)).1), .int .i64 ((p_impl_CropPicture p_Wide p_High l_p_Lights ((p_impl_RegionOf p_Wide p_High level band).1) ((p_impl_RegionOf p_Wide p_High level band).2.1) ((p_impl_RegionOf p_Wide p_High level band).2.2.1) ((p_impl_RegionOf p_Wide p_High level band).2.2.2.1)).2.1), .slice a_31 (((p_impl_CropPicture p_Wide p_High l_p_Lights ((p_impl_RegionOf p_Wide p_High level band).1) ((p_impl_RegionOf p_Wide p_High level band).2.1) ((p_impl_RegionOf p_Wide p_High level band).2.2.1) ((p_impl_RegionOf p_Wide p_High level band).2.2.2.1)).2.2.1).length) e_33] := o_49
    have l_50 := k_48.1
    have g_51 := g_38.keep (b := b_10) (by omega) k_48
    have l_52 := g_51.1
    have o_53 := o_40.keep (by omega) k_48
    have w_54 := o_53.lt
    have r_55 := r_34.keep u_44 (by omega) k_48
    have w_56 := o_49.lt
    refine ⟨(p_impl_CropPicture p_Wide p_High l_p_Lights ((p_impl_RegionOf p_Wide p_High level band).1) ((p_impl_RegionOf p_Wide p_High level band).2.1) ((p_impl_RegionOf p_Wide p_High level band).2.2.1) ((p_impl_RegionOf p_Wide p_High level band).2.2.2.1)).1, (p_impl_CropPicture p_Wide p_High l_p_Lights ((p_impl_RegionOf p_Wide p_High level band).1) ((p_impl_RegionOf p_Wide p_High level band).2.1) ((p_impl_RegionOf p_Wide p_High level band).2.2.1) ((p_impl_RegionOf p_Wide p_High level band).2.2.2.1)).2.1, a_31, ((p_impl_CropPicture p_Wide p_High l_p_Lights ((p_impl_RegionOf p_Wide p_High level band).1) ((p_impl_RegionOf p_Wide p_High level band).2.1) ((p_impl_RegionOf p_Wide p_High level band).2.2.1) ((p_impl_RegionOf p_Wide p_High level band).2.2.2.1)).2.2.1).length, e_33, (o_49.rdN (Nat.le_of_ble_eq_true rfl)).trans rfl, ?_⟩
    rw [e] at hk
    exact hk _ _ _ H_5 g_51 (r_55.weak (by omega))
theorem impl_BandOf_ok : FnOk Try.prog 132 S_impl_BandOf := by
  refine FnOk.body mix_ok E_impl_BandOf_ok Try.func132 rfl (by kernel_rfl) (by kernel_rfl) ?_ ?_ ?_ ?_ ?_
  · intro args H K K' h hk
    simp only [S_impl_BandOf] at *
    unfold F_impl_BandOf at *
    split at hk
    · obtain ⟨l_p_Lights, i_p_Lights, bd_59, k⟩ := hk
      exact ⟨l_p_Lights, i_p_Lights, bd_59, (fun r1_Lights_a r1_Lights_n r1_Lights_e H' gg ow0 => h _ _ (k r1_Lights_a r1_Lights_n r1_Lights_e H' gg ow0))⟩
    · exact hk.elim
  · intro hq; cases hq
  · intro args H K hk
    simp only [S_impl_BandOf] at *
    unfold F_impl_BandOf at *
    split at hk
    · obtain ⟨l_p_Lights, i_p_Lights, bd_59, k⟩ := hk
      exact liveS fun a n e H1 g o => ⟨_, _, k a n e H1 g o⟩
    · exact hk.elim
  · intro _ args H K hk
    simp only [S_impl_BandOf] at *
    unfold F_impl_BandOf at *
    split at hk
    · obtain ⟨l_p_Lights, i_p_Lights, bd_59, k⟩ := hk
      exact ⟨l_p_Lights, i_p_Lights, bd_59, (fun r1_Lights_a r1_Lights_n r1_Lights_e H' gg ow0 => ⟨gg, k r1_Lights_a r1_Lights_n r1_Lights_e H' gg ow0⟩)⟩
    · exact hk.elim
  · have mm := @impl_BandOf_main
    revert mm
    generalize bodyK Try.prog E_impl_BandOf Try.f132 = Q
    intro mm args H K hk
    simp only [S_impl_BandOf] at *
    unfold F_impl_BandOf at *
    split at hk
    · exact mm _ _ _ _ _ _ _ H K hk
    · exact hk.elim

def p_impl_squares_l1 (l_list : List Nat) : Nat → Nat → Int → Nat
  | 0, _, _ => 0
  | μ + 1, sum, t8 => (bif decide ((t8 : Int) < (l_list.length : Int)) then (p_impl_squares_l1 l_list μ (fadd .f32 sum (fmul .f32 (((l_list).getD (t8 : Int).toNat 0)) (((l_list).getD (t8 : Int).toNat 0)))) (t8 + 1)) else sum)
theorem p_impl_squares_l1_s (l_list : List Nat) (μ : Nat) (sum : Nat) (t8 : Int) : p_impl_squares_l1 l_list (μ + 1) sum t8 = (bif decide ((t8 : Int) < (l_list.length : Int)) then (p_impl_squares_l1 l_list μ (fadd .f32 sum (fmul .f32 (((l_list).getD (t8 : Int).toNat 0)) (((l_list).getD (t8 : Int).toNat 0)))) (t8 + 1)) else sum) := rfl
def p_impl_squares (l_list : List Nat) : Nat := (p_impl_squares_l1 l_list (Int.toNat ((l_list.length : Int) - (0 : Int)) + 1) 0 (0 : Int))
theorem p_impl_squares_eq (l_list : List Nat) : p_impl_squares l_list = (p_impl_squares_l1 l_list (Int.toNat ((l_list.length : Int) - (0 : Int)) + 1) 0 (0 : Int)) := rfl
def T_impl_squares (list_a : Option Addr) (list_n : Nat) (list_e : Nat) (H : AHeap) (K : Nat → AHeap → Prop) : Prop := ∃ (l_list : List Nat), IsL fF H list_a list_n l_list ∧ l_list.length < 1073741824 ∧ K (p_impl_squares l_list) H
theorem T_impl_squares_i {list_a : Option Addr} {list_n : Nat} {list_e : Nat} {H : AHeap} {K : Nat → AHeap → Prop} (h : ∃ (l_list : List Nat), IsL fF H list_a list_n l_list ∧ l_list.length < 1073741824 ∧ K (p_impl_squares l_list) H) : T_impl_squares list_a list_n list_e H K := h

/-! impl_squares: function 79 -/
def E_impl_squares : Env := envOf []
def F_impl_squares : List Value → AHeap → (Value → AHeap → Prop) → Prop
  | [.slice list_a list_n list_e], H, K => T_impl_squares list_a list_n list_e H fun (r1 : Nat) (H' : AHeap) => K (.float .f32 r1) H'
  | _, _, _ => False
def S_impl_squares : FSpec := { F := F_impl_squares, quiet := true, tame := false }
theorem impl_squares_vc (list_a : Option Addr) (list_n : Nat) (list_e : Nat) (H : AHeap) (K : Value → AHeap → Prop) : bodyK Try.prog E_impl_squares Try.f79 [.slice list_a list_n list_e] H K =
  (loopK (exK Try.prog E_impl_squares (cl (cl (cr (cl (cr (cr (bodyC Try.f79)))))))) [.slice list_a list_n list_e, undef, .float .f32 0, .float .f32 0, undef, undef, .slice list_a list_n list_e, .int .i64 (list_n : Int), .int .i64 0, undef, undef, undef, undef, undef, undef, undef, undef, undef, undef] H (blockQ 0 (seqQ (exK Try.prog E_impl_squares (cr (cr (cr (bodyC Try.f79))))) (retK Try.prog Try.f79 K)))) := by kernel_rfl
theorem impl_squares_r1 (list_a : Option Addr) (list_e : Nat) (list_n : Nat) (sum : Nat) (t8 : Int) (g5 g9 g10 g11 g12 g13 g14 g15 g16 g17 : Value) (H : AHeap) (R : Post) : exK Try.prog E_impl_squares (cl (cl (cr (cl (cr (cr (bodyC Try.f79))))))) [.slice list_a list_n list_e, undef, .float .f32 0, .float .f32 sum, undef, g5, .slice list_a list_n list_e, .int .i64 (list_n : Int), .int .i64 t8, g9, g10, g11, g12, g13, g14, g15, g16, g17, undef] H R =
  (Br (decide ((t8 : Int) < (list_n : Int))) ((0 : Int) ≤ t8 ∧ t8 < (list_n : Int) ∧ ∃ b1 f1, (list_a : Option Addr) = some ⟨b1, f1, none⟩ ∧ ∃ x1 : Nat,  rdC H b1 (f1 + (t8 : Int).toNat * 1) = some (.float .f32 x1) ∧ R .normal [.slice list_a list_n list_e, undef, .float .f32 0, .float .f32 (fadd .f32 sum (fmul .f32 x1 x1)), undef, .float .f32 x1, .slice list_a list_n list_e, .int .i64 (list_n : Int), .int .i64 (IntKind.wrap .i64 (t8 + 1)), .bool (decide ((t8 : Int) < (list_n : Int))), .pointer (some ⟨b1, f1 + (t8 : Int).toNat * 1, none⟩), .float .f32 x1, .float .f32 sum, .float .f32 x1, .float .f32 x1, .float .f32 (fmul .f32 x1 x1), .float .f32 (fadd .f32 sum (fmul .f32 x1 x1)), .int .i64 (IntKind.wrap .i64 (t8 + 1)), undef] H) (R (.exit 0) [.slice list_a list_n list_e, undef, .float .f32 0, .float .f32 sum, undef, g5, .slice list_a list_n list_e, .int .i64 (list_n : Int), .int .i64 t8, .bool (decide ((t8 : Int) < (list_n : Int))), g10, g11, g12, g13, g14, g15, g16, g17, undef] H)) := by kernel_rfl
def impl_squares_I1 (list_a : Option Addr) (list_e : Nat) (list_n : Nat) (Inv : Nat → Nat → Int → AHeap → Prop) : Nat → List Value → AHeap → Prop := fun μ tm H => ∃ (sum : Nat), ∃ (t8 : Int), ∃ g5 g9 g10 g11 g12 g13 g14 g15 g16 g17, tm = [.slice list_a list_n list_e, undef, .float .f32 0, .float .f32 sum, undef, g5, .slice list_a list_n list_e, .int .i64 (list_n : Int), .int .i64 t8, g9, g10, g11, g12, g13, g14, g15, g16, g17, undef] ∧ Inv μ sum t8 H
theorem impl_squares_L1 (list_a : Option Addr) (list_e : Nat) (list_n : Nat) {Q : Post} (Inv : Nat → Nat → Int → AHeap → Prop) (ν : Nat) (sum : Nat) (t8 : Int) (g5 g9 g10 g11 g12 g13 g14 g15 g16 g17 : Value) (H : AHeap) (h0 : Inv ν sum t8 H)
    (hs : ∀ (μ : Nat) (sum : Nat) (t8 : Int) (g5 g9 g10 g11 g12 g13 g14 g15 g16 g17 : Value) (H : AHeap), Inv μ sum t8 H → exK Try.prog E_impl_squares (cl (cl (cr (cl (cr (cr (bodyC Try.f79))))))) [.slice list_a list_n list_e, undef, .float .f32 0, .float .f32 sum, undef, g5, .slice list_a list_n list_e, .int .i64 (list_n : Int), .int .i64 t8, g9, g10, g11, g12, g13, g14, g15, g16, g17, undef] H (loopQ (impl_squares_I1 list_a list_e list_n Inv) μ Q)) : loopK (exK Try.prog E_impl_squares (cl (cl (cr (cl (cr (cr (bodyC Try.f79)))))))) [.slice list_a list_n list_e, undef, .float .f32 0, .float .f32 sum, undef, g5, .slice list_a list_n list_e, .int .i64 (list_n : Int), .int .i64 t8, g9, g10, g11, g12, g13, g14, g15, g16, g17, undef] H Q :=
  ⟨impl_squares_I1 list_a list_e list_n Inv, ν, ⟨sum, t8, g5, g9, g10, g11, g12, g13, g14, g15, g16, g17, rfl, h0⟩, fun μ tm H h => by obtain ⟨sum, t8, g5, g9, g10, g11, g12, g13, g14, g15, g16, g17, rfl, hI⟩ := h; exact hs μ sum t8 g5 g9 g10 g11 g12 g13 g14 g15 g16 g17 H hI⟩
theorem impl_squares_n1 {list_a : Option Addr} {list_e : Nat} {list_n : Nat} {Q : Post} {Inv : Nat → Nat → Int → AHeap → Prop} {μ : Nat} (μ' : Nat) {sum : Nat} {t8 : Int} {g5 g9 g10 g11 g12 g13 g14 g15 g16 g17 : Value} {H : AHeap} (hm : μ' < μ) (hI : Inv μ' sum t8 H) : loopQ (impl_squares_I1 list_a list_e list_n Inv) μ Q .normal [.slice list_a list_n list_e, undef, .float .f32 0, .float .f32 sum, undef, g5, .slice list_a list_n list_e, .int .i64 (list_n : Int), .int .i64 t8, g9, g10, g11, g12, g13, g14, g15, g16, g17, undef] H := ⟨μ', hm, sum, t8, g5, g9, g10, g11, g12, g13, g14, g15, g16, g17, rfl, hI⟩
theorem impl_squares_x1_0 (list_a : Option Addr) (list_e : Nat) (list_n : Nat) (sum : Nat) (t8 : Int) (g5 g9 g10 g11 g12 g13 g14 g15 g16 g17 : Value) (H : AHeap) (K : Value → AHeap → Prop)  {I : Nat → List Value → AHeap → Prop} {μ : Nat} : loopQ I μ (blockQ 0 (seqQ (exK Try.prog E_impl_squares (cr (cr (cr (bodyC Try.f79))))) (retK Try.prog Try.f79 K))) (.exit 0) [.slice list_a list_n list_e, undef, .float .f32 0, .float .f32 sum, undef, g5, .slice list_a list_n list_e, .int .i64 (list_n : Int), .int .i64 t8, g9, g10, g11, g12, g13, g14, g15, g16, g17, undef] H =
  (K (.float .f32 sum) H) := by kernel_rfl
theorem E_impl_squares_ok : ∀ g, FnOk Try.prog g (E_impl_squares g) := FnOk.envOf (by
  intro x hx; cases hx)
set_option maxHeartbeats 1000000 in
theorem impl_squares_main (list_a : Option Addr) (list_n : Nat) (list_e : Nat) (H : AHeap) (K : Value → AHeap → Prop) (h : T_impl_squares list_a list_n list_e H fun (r1 : Nat) (H' : AHeap) => K (.float .f32 r1) H') : bodyK Try.prog E_impl_squares Try.f79 [.slice list_a list_n list_e] H K := by
  rw [impl_squares_vc]
  obtain ⟨l_list, i_list, bd_8, hk⟩ := h
  obtain rfl := i_list.eqn
  have e : (p_impl_squares l_list) = _ := rfl
  have e := e.trans (p_impl_squares_eq l_list)
  have g0 := Grow.refl H
  refine impl_squares_L1 _ _ _ (fun (μ : Nat) (sum : Nat) (t8 : Int) (H_1 : AHeap) => H = H_1 ∧ (0 : Int) ≤ t8 ∧ t8 ≤ (l_list.length : Int) ∧ (l_list.length : Int) - t8 ≤ (μ : Int) ∧ p_impl_squares l_list = p_impl_squares_l1 l_list (μ + 1) sum t8) (Int.toNat ((l_list.length : Int) - (0 : Int))) _ _ _ _ _ _ _ _ _ _ _ _ H ?_ ?_
  · exact ⟨rfl, (by first | omega | (simp; done) | (simp; omega)), (by first | omega | (simp; done) | (simp; omega)), (by omega), e⟩
  · intro μ sum t8 g5 g9 g10 g11 g12 g13 g14 g15 g16 g17 H_1 hI
    obtain ⟨rfl, v_1, v_2, hμ, e⟩ := hI
    rw [impl_squares_r1]
    have e := e.trans (p_impl_squares_l1_s l_list μ sum t8)
    have l_3 := g0.1
    refine Br.intro (fun c_4 => ?_) (fun c_4 => ?_)
    · have e := e.trans (cond_t c_4)
      have c_4' := of_decide_eq_true c_4
      obtain ⟨b_5, f_6, q_7⟩ := ((i_list.grow g0)).pos (by first | omega | (simp only [List.length_set, List.length_replicate, List.length_append, List.length_cons, List.length_nil, List.length_take, List.length_drop, marks_length]; done) | (simp only [List.length_set, List.length_replicate, List.length_append, List.length_cons, List.length_nil, List.length_take, List.length_drop, marks_length]; omega))
      refine ⟨by omega, by omega, b_5, f_6, q_7, ?_⟩
      refine ⟨((l_list).getD (t8 : Int).toNat 0), (i_list).rd g0 q_7 (by omega) _, ?_⟩
      rw [show IntKind.wrap .i64 (t8 + 1) = (t8 + 1) from wrap64 (by omega) (by omega)]
      refine impl_squares_n1 (μ - 1) (by first | omega) ⟨rfl, (by first | omega | (simp only [List.length_append, List.length_cons, List.length_nil, List.length_set]; done) | (simp only [List.length_append, List.length_cons, List.length_nil, List.length_set]; omega)), (by first | omega | (simp only [List.length_append, List.length_cons, List.length_nil, List.length_set]; done) | (simp only [List.length_append, List.length_cons, List.length_nil, List.length_set]; omega)), (by first | omega), (by rw [show μ - 1 + 1 = μ from by first | omega]; exact e)⟩
    · have e := e.trans (cond_f c_4)
      have c_4' := of_decide_eq_false c_4
      rw [impl_squares_x1_0]
      rw [e] at hk
      exact hk
theorem impl_squares_ok : FnOk Try.prog 79 S_impl_squares := by
  refine FnOk.body mix_ok E_impl_squares_ok Try.func79 rfl (by kernel_rfl) (by kernel_rfl) ?_ ?_ ?_ ?_ ?_
  · intro args H K K' h hk
    simp only [S_impl_squares] at *
    unfold F_impl_squares at *
    split at hk
    · obtain ⟨l_list, i_list, bd_8, k⟩ := hk
      exact ⟨l_list, i_list, bd_8, h _ _ k⟩
    · exact hk.elim
  · intro _ args H K hk
    simp only [S_impl_squares] at *
    unfold F_impl_squares at *
    split at hk
    · obtain ⟨l_list, i_list, bd_8, k⟩ := hk
      exact ⟨_, k, fun K' k' => ⟨l_list, i_list, bd_8, k'⟩⟩
    · exact hk.elim
  · intro args H K hk
    simp only [S_impl_squares] at *
    unfold F_impl_squares at *
    split at hk
    · obtain ⟨l_list, i_list, bd_8, k⟩ := hk
      exact ⟨_, _, k⟩
    · exact hk.elim
  · intro hq; cases hq
  · have mm := @impl_squares_main
    revert mm
    generalize bodyK Try.prog E_impl_squares Try.f79 = Q
    intro mm args H K hk
    simp only [S_impl_squares] at *
    unfold F_impl_squares at *
    split at hk
    · exact mm _ _ _ H K hk
    · exact hk.elim

def p_impl_energyIn (p_Wide : Int) (p_High : Int) (l_p_Lights : List Nat) (level : Int) (band : Int) : Nat := (p_impl_squares ((p_impl_BandOf p_Wide p_High l_p_Lights level band).2.2.1))
theorem p_impl_energyIn_eq (p_Wide : Int) (p_High : Int) (l_p_Lights : List Nat) (level : Int) (band : Int) : p_impl_energyIn p_Wide p_High l_p_Lights level band = (p_impl_squares ((p_impl_BandOf p_Wide p_High l_p_Lights level band).2.2.1)) := rfl
def T_impl_energyIn (p_Wide : Int) (p_High : Int) (p_Lights_a : Option Addr) (p_Lights_n : Nat) (p_Lights_e : Nat) (level : Int) (band : Int) (H : AHeap) (K : Nat → AHeap → Prop) : Prop := ∃ (l_p_Lights : List Nat), IsL fF H p_Lights_a p_Lights_n l_p_Lights ∧ l_p_Lights.length < 1073741824 ∧ ((∀ H' : AHeap, Grow H H' → K (p_impl_energyIn p_Wide p_High l_p_Lights level band) H'))
theorem T_impl_energyIn_i {p_Wide : Int} {p_High : Int} {p_Lights_a : Option Addr} {p_Lights_n : Nat} {p_Lights_e : Nat} {level : Int} {band : Int} {H : AHeap} {K : Nat → AHeap → Prop} (h : ∃ (l_p_Lights : List Nat), IsL fF H p_Lights_a p_Lights_n l_p_Lights ∧ l_p_Lights.length < 1073741824 ∧ ((∀ H' : AHeap, Grow H H' → K (p_impl_energyIn p_Wide p_High l_p_Lights level band) H'))) : T_impl_energyIn p_Wide p_High p_Lights_a p_Lights_n p_Lights_e level band H K := h

/-! impl_energyIn: function 96 -/
def E_impl_energyIn : Env := envOf [(132, S_impl_BandOf), (79, S_impl_squares)]
def F_impl_energyIn : List Value → AHeap → (Value → AHeap → Prop) → Prop
  | [.agg ⟨[.int .i64 p_Wide, .int .i64 p_High, .slice p_Lights_a p_Lights_n p_Lights_e]⟩, .int .i64 level, .int .i64 band], H, K => T_impl_energyIn p_Wide p_High p_Lights_a p_Lights_n p_Lights_e level band H fun (r1 : Nat) (H' : AHeap) => K (.float .f32 r1) H'
  | _, _, _ => False
def S_impl_energyIn : FSpec := { F := F_impl_energyIn, quiet := false, tame := true }
theorem impl_energyIn_vc (p_Wide : Int) (p_High : Int) (p_Lights_a : Option Addr) (p_Lights_n : Nat) (p_Lights_e : Nat) (level : Int) (band : Int) (H : AHeap) (K : Value → AHeap → Prop) : bodyK Try.prog E_impl_energyIn Try.f96 [.agg #[.int .i64 p_Wide, .int .i64 p_High, .slice p_Lights_a p_Lights_n p_Lights_e], .int .i64 level, .int .i64 band] H K =
  (Al [.int .i64 p_Wide, .int .i64 p_High, .slice p_Lights_a p_Lights_n p_Lights_e] H fun b1 H1 => ∃ c1 : Int, ∃ c2 : Int, ∃ c3_a : Option Addr, ∃ c3_n : Nat, ∃ c3_e : Nat,  rdN H1 b1 0 3 = some [.int .i64 c1, .int .i64 c2, .slice c3_a c3_n c3_e] ∧ T_impl_BandOf c1 c2 c3_a c3_n c3_e level band H1 fun (r1 : Int) (r2 : Int) (a1 : Option Addr) (r3 : Nat) (r4 : Nat) (r5 : Bool) (H2 : AHeap) => Al [.int .i64 0, .int .i64 0, .slice none 0 0] H2 fun b2 H3 => isOwn H3 b2 ∧ (∃ l, rdN H3 b2 0 3 = some l) ∧ Lt (setN H3 b2 0 [.int .i64 r1, .int .i64 r2, .slice a1 r3 r4]) fun H4 => ∃ x1_a : Option Addr, ∃ x1_n : Nat, ∃ x1_e : Nat,  rdC H4 b2 2 = some (.slice x1_a x1_n x1_e) ∧ T_impl_squares x1_a x1_n x1_e H4 fun (r6 : Nat) (H5 : AHeap) => K (.float .f32 r6) H5) := by kernel_rfl
theorem E_impl_energyIn_ok : ∀ g, FnOk Try.prog g (E_impl_energyIn g) := FnOk.envOf (by
  intro x hx
  simp only [List.mem_cons, List.not_mem_nil, or_false] at hx
  rcases hx with rfl | rfl
  · exact impl_BandOf_ok
  · exact impl_squares_ok)
set_option maxHeartbeats 1000000 in
theorem impl_energyIn_main (p_Wide : Int) (p_High : Int) (p_Lights_a : Option Addr) (p_Lights_n : Nat) (p_Lights_e : Nat) (level : Int) (band : Int) (H : AHeap) (K : Value → AHeap → Prop) (h : T_impl_energyIn p_Wide p_High p_Lights_a p_Lights_n p_Lights_e level band H fun (r1 : Nat) (H' : AHeap) => K (.float .f32 r1) H') : bodyK Try.prog E_impl_energyIn Try.f96 [.agg #[.int .i64 p_Wide, .int .i64 p_High, .slice p_Lights_a p_Lights_n p_Lights_e], .int .i64 level, .int .i64 band] H K := by
  rw [impl_energyIn_vc]
  obtain ⟨l_p_Lights, i_p_Lights, bd_48, hk⟩ := h
  obtain rfl := i_p_Lights.eqn
  have e : (p_impl_energyIn p_Wide p_High l_p_Lights level band) = _ := rfl
  have e := e.trans (p_impl_energyIn_eq p_Wide p_High l_p_Lights level band)
  have g0 := Grow.refl H
  refine Al.intro (fun b_1 H_1 hb_2 hl_3 g_4 o_5 => ?_)
  have l_7 := g_4.1
  have g_8 := g0.trans g_4
  have l_9 := g_8.1
  have w_47 := o_5.lt
  refine ⟨p_Wide, p_High, p_Lights_a, l_p_Lights.length, p_Lights_e, (o_5.rdN (Nat.le_of_ble_eq_true rfl)).trans rfl, ?_⟩
  refine T_impl_BandOf_i ⟨_, (i_p_Lights.grow g_8), (by first | omega | (simp only [List.length_set, List.length_replicate, List.length_append, List.length_cons, List.length_nil, List.length_take, List.length_drop, marks_length]; done) | (simp only [List.length_set, List.length_replicate, List.length_append, List.length_cons, List.length_nil, List.length_take, List.length_drop, marks_length]; omega)), fun a_10 n_11 e_12 H_2 g_15 r_13 => ?_⟩
  have z_14 := impl_BandOf_len p_Wide p_High l_p_Lights level band
  have l_16 := g_15.1
  have g_17 := g_8.trans g_15
  have l_18 := g_17.1
  have o_19 := o_5.grow g_15
  have w_20 := o_19.lt
  obtain rfl := r_13.isL.eqn
  have u_21 := r_13.up
  have u_22 := r_13.lo
  refine Al.intro (fun b_24 H_3 hb_25 hl_26 g_27 o_28 => ?_)
  have l_30 := g_27.1
  have g_31 := g_17.trans g_27
  have l_32 := g_31.1
  have o_33 := o_19.grow g_27
  have w_34 := o_33.lt
  have r_35 := r_13.grow g_27
  have w_46 := o_28.lt
  refine Lt.setN (n := 3) o_28 (Nat.le_of_ble_eq_true rfl) rfl (fun H_4 hl_36 o_38 k_37 => ?_)
  have o_38 : Own H_4 b_24 [.int .i64 ((p_impl_BandOf p_Wide p_High l_p_Lights level band).1), .int .i64 ((p_impl_BandOf p_Wide p_High l_p_Lights level band).2.1), .slice a_10 (((p_impl_BandOf p_Wide p_High l_p_Lights level band).2.2.1).length) e_12] := o_38
  have l_39 := k_37.1
  have g_40 := g_31.keep (b := b_24) (by omega) k_37
  have l_41 := g_40.1
  have o_42 := o_33.keep (by omega) k_37
  have w_43 := o_42.lt
  have r_44 := r_35.keep u_21 (by omega) k_37
  have w_45 := o_38.lt
  refine ⟨a_10, ((p_impl_BandOf p_Wide p_High l_p_Lights level band).2.2.1).length, e_12, (o_38.rdC _).trans rfl, ?_⟩
  refine T_impl_squares_i ⟨_, r_44.isL, (by first | omega | (simp only [List.length_set, List.length_replicate, List.length_append, List.length_cons, List.length_nil, List.length_take, List.length_drop, marks_length]; done) | (simp only [List.length_set, List.length_replicate, List.length_append, List.length_cons, List.length_nil, List.length_take, List.length_drop, marks_length]; omega)), ?_⟩
  rw [e] at hk
  exact hk  H_4 g_40 
theorem impl_energyIn_ok : FnOk Try.prog 96 S_impl_energyIn := by
  refine FnOk.body mix_ok E_impl_energyIn_ok Try.func96 rfl (by kernel_rfl) (by kernel_rfl) ?_ ?_ ?_ ?_ ?_
  · intro args H K K' h hk
    simp only [S_impl_energyIn] at *
    unfold F_impl_energyIn at *
    split at hk
    · obtain ⟨l_p_Lights, i_p_Lights, bd_48, k⟩ := hk
      exact ⟨l_p_Lights, i_p_Lights, bd_48, (fun  H' gg  => h _ _ (k  H' gg ))⟩
    · exact hk.elim
  · intro hq; cases hq
  · intro args H K hk
    simp only [S_impl_energyIn] at *
    unfold F_impl_energyIn at *
    split at hk
    · obtain ⟨l_p_Lights, i_p_Lights, bd_48, k⟩ := hk
      exact ⟨_, _, k H (Grow.refl H)⟩
    · exact hk.elim
  · intro _ args H K hk
    simp only [S_impl_energyIn] at *
    unfold F_impl_energyIn at *
    split at hk
    · obtain ⟨l_p_Lights, i_p_Lights, bd_48, k⟩ := hk
      exact ⟨l_p_Lights, i_p_Lights, bd_48, (fun  H' gg  => ⟨gg, k  H' gg ⟩)⟩
    · exact hk.elim
  · have mm := @impl_energyIn_main
    revert mm
    generalize bodyK Try.prog E_impl_energyIn Try.f96 = Q
    intro mm args H K hk
    simp only [S_impl_energyIn] at *
    unfold F_impl_energyIn at *
    split at hk
    · exact mm _ _ _ _ _ _ _ H K hk
    · exact hk.elim

def p_impl_finiteList (l_list : List Nat) : (List Nat) × Bool := (bif !((p_impl_areFinite ([l_list]))) then ([], false) else (l_list, true))
theorem p_impl_finiteList_eq (l_list : List Nat) : p_impl_finiteList l_list = (bif !((p_impl_areFinite ([l_list]))) then ([], false) else (l_list, true)) := rfl
def T_impl_finiteList (list_a : Option Addr) (list_n : Nat) (list_e : Nat) (H : AHeap) (K : (Option Addr) → Nat → Nat → Bool → AHeap → Prop) : Prop := ∃ (l_list : List Nat), IsL fF H list_a list_n l_list ∧ l_list.length < 1073741824 ∧ ((∀ H' : AHeap, Grow H H' → Br ((p_impl_finiteList l_list).2) (K list_a list_n list_e true H') (K none 0 0 false H')))
theorem T_impl_finiteList_i {list_a : Option Addr} {list_n : Nat} {list_e : Nat} {H : AHeap} {K : (Option Addr) → Nat → Nat → Bool → AHeap → Prop} (h : ∃ (l_list : List Nat), IsL fF H list_a list_n l_list ∧ l_list.length < 1073741824 ∧ ((∀ H' : AHeap, Grow H H' → Br ((p_impl_finiteList l_list).2) (K list_a list_n list_e true H') (K none 0 0 false H')))) : T_impl_finiteList list_a list_n list_e H K := h

/-! impl_finiteList: function 69 -/
def E_impl_finiteList : Env := envOf [(115, S_impl_areFinite)]
def F_impl_finiteList : List Value → AHeap → (Value → AHeap → Prop) → Prop
  | [.slice list_a list_n list_e], H, K => T_impl_finiteList list_a list_n list_e H fun (r1_a : Option Addr) (r1_n : Nat) (r1_e : Nat) (r2 : Bool) (H' : AHeap) => K (.tuple #[.slice r1_a r1_n r1_e, .bool r2]) H'
  | _, _, _ => False
def S_impl_finiteList : FSpec := { F := F_impl_finiteList, quiet := false, tame := true }
theorem impl_finiteList_vc (list_a : Option Addr) (list_n : Nat) (list_e : Nat) (H : AHeap) (K : Value → AHeap → Prop) : bodyK Try.prog E_impl_finiteList Try.f69 [.slice list_a list_n list_e] H K =
  (Al [.slice list_a list_n list_e] H fun b1 H1 => T_impl_areFinite (some ⟨b1, 0, none⟩) 1 1 H1 fun (r1 : Bool) (H2 : AHeap) => Br (!r1) (K (.tuple #[.slice none 0 0, .bool false]) H2) (K (.tuple #[.slice list_a list_n list_e, .bool true]) H2)) := by kernel_rfl
theorem E_impl_finiteList_ok : ∀ g, FnOk Try.prog g (E_impl_finiteList g) := FnOk.envOf (by
  intro x hx
  simp only [List.mem_cons, List.not_mem_nil, or_false] at hx
  subst hx; exact impl_areFinite_ok)
set_option maxHeartbeats 1000000 in
theorem impl_finiteList_main (list_a : Option Addr) (list_n : Nat) (list_e : Nat) (H : AHeap) (K : Value → AHeap → Prop) (h : T_impl_finiteList list_a list_n list_e H fun (r1_a : Option Addr) (r1_n : Nat) (r1_e : Nat) (r2 : Bool) (H' : AHeap) => K (.tuple #[.slice r1_a r1_n r1_e, .bool r2]) H') : bodyK Try.prog E_impl_finiteList Try.f69 [.slice list_a list_n list_e] H K := by
  rw [impl_finiteList_vc]
  obtain ⟨l_list, i_list, bd_12, hk⟩ := h
  obtain rfl := i_list.eqn
  have e : (p_impl_finiteList l_list) = _ := rfl
  have e := e.trans (p_impl_finiteList_eq l_list)
  have g0 := Grow.refl H
  refine Al.intro (fun b_1 H_1 hb_2 hl_3 g_4 o_5 => ?_)
  have l_7 := g_4.1
  have g_8 := g0.trans g_4
  have l_9 := g_8.1
  have w_11 := o_5.lt
  refine T_impl_areFinite_i ⟨[l_list], ⟨_, o_5.rdAll rfl, LLc.cons (i_list.grow g_8) (LLc.nil _ _)⟩, (by first | omega | (simp only [List.length_set, List.length_replicate, List.length_append, List.length_cons, List.length_nil, List.length_take, List.length_drop, marks_length]; done) | (simp only [List.length_set, List.length_replicate, List.length_append, List.length_cons, List.length_nil, List.length_take, List.length_drop, marks_length]; omega)), (by first | assumption | (intro y hy; simp only [List.mem_cons, List.not_mem_nil, or_false] at hy; first | omega | (subst hy; omega) | (rcases hy with rfl | rfl <;> omega) | (rcases hy with rfl | rfl | rfl <;> omega))), ?_⟩
  refine Br.intro (fun c_10 => ?_) (fun c_10 => ?_)
  · have e := e.trans (cond_t c_10)
    have c_10n := nf_of_t c_10
    have q := hk H_1 g_8
    rw [e] at q
    exact q
  · have e := e.trans (cond_f c_10)
    have c_10n := nt_of_f c_10
    have q := hk H_1 g_8
    rw [e] at q
    exact q
theorem impl_finiteList_ok : FnOk Try.prog 69 S_impl_finiteList := by
  refine FnOk.body mix_ok E_impl_finiteList_ok Try.func69 rfl (by kernel_rfl) (by kernel_rfl) ?_ ?_ ?_ ?_ ?_
  · intro args H K K' h hk
    simp only [S_impl_finiteList] at *
    unfold F_impl_finiteList at *
    split at hk
    · obtain ⟨l_list, i_list, bd_12, k⟩ := hk
      exact ⟨l_list, i_list, bd_12, (fun H' gg => Br_mono (h _ _) (h _ _) (k H' gg))⟩
    · exact hk.elim
  · intro hq; cases hq
  · intro args H K hk
    simp only [S_impl_finiteList] at *
    unfold F_impl_finiteList at *
    split at hk
    · obtain ⟨l_list, i_list, bd_12, k⟩ := hk
      exact Br_live (k H (Grow.refl H))
    · exact hk.elim
  · intro _ args H K hk
    simp only [S_impl_finiteList] at *
    unfold F_impl_finiteList at *
    split at hk
    · obtain ⟨l_list, i_list, bd_12, k⟩ := hk
      exact ⟨l_list, i_list, bd_12, (fun H' gg => Br_mono (fun q => ⟨gg, q⟩) (fun q => ⟨gg, q⟩) (k H' gg))⟩
    · exact hk.elim
  · have mm := @impl_finiteList_main
    revert mm
    generalize bodyK Try.prog E_impl_finiteList Try.f69 = Q
    intro mm args H K hk
    simp only [S_impl_finiteList] at *
    unfold F_impl_finiteList at *
    split at hk
    · exact mm _ _ _ H K hk
    · exact hk.elim
end Go.Proofs.Ytghkkclonabpkaa.Ai
