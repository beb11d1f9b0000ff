/- What functions of the program come to on the abstract machine, and that they do so; printed by a program of mine around proofs of mine. -/
import Derived.Test.YtghkkclonabpkaaFFnExactPeakRatio0
set_option linter.unusedVariables false
set_option linter.unusedSimpArgs false
set_option maxRecDepth 100000
namespace Go.Proofs.Ytghkkclonabpkaa.Ai
open Go
attribute [local irreducible] bodyK
def p_impl_areFinite_l2 (l_lists : List (List Nat)) (t2 : Bool) (t9 : Int) (k2_2 : Bool → Int → Bool) : Nat → Bool → Int → Bool
  | 0, _, _ => false
  | μ2 + 1, t2_2, t15 => (bif decide ((t15 : Int) < ((((l_lists).getD (t9 : Int).toNat [])).length : Int)) then (bif !((p_impl_IsFinite (((((l_lists).getD (t9 : Int).toNat [])).getD (t15 : Int).toNat 0)))) then false else (p_impl_areFinite_l2 l_lists t2 t9 k2_2 μ2 t2_2 (t15 + 1))) else (k2_2 t2_2 t15))
theorem p_impl_areFinite_l2_s (l_lists : List (List Nat)) (t2 : Bool) (t9 : Int) (k2_2 : Bool → Int → Bool) (μ2 : Nat) (t2_2 : Bool) (t15 : Int) : p_impl_areFinite_l2 l_lists t2 t9 k2_2 (μ2 + 1) t2_2 t15 = (bif decide ((t15 : Int) < ((((l_lists).getD (t9 : Int).toNat [])).length : Int)) then (bif !((p_impl_IsFinite (((((l_lists).getD (t9 : Int).toNat [])).getD (t15 : Int).toNat 0)))) then false else (p_impl_areFinite_l2 l_lists t2 t9 k2_2 μ2 t2_2 (t15 + 1))) else (k2_2 t2_2 t15)) := rfl
def p_impl_areFinite_l1 (l_lists : List (List Nat)) : Nat → Bool → Int → Bool
  | 0, _, _ => false
  | μ + 1, t2, t9 => (bif decide ((t9 : Int) < (l_lists.length : Int)) then (p_impl_areFinite_l2 l_lists t2 t9 (fun (t2_2 : Bool) (t15 : Int) => (p_impl_areFinite_l1 l_lists μ t2_2 (t9 + 1))) (Int.toNat (((((l_lists).getD (t9 : Int).toNat [])).length : Int) - (0 : Int)) + 1) t2 (0 : Int)) else true)
theorem p_impl_areFinite_l1_s (l_lists : List (List Nat)) (μ : Nat) (t2 : Bool) (t9 : Int) : p_impl_areFinite_l1 l_lists (μ + 1) t2 t9 = (bif decide ((t9 : Int) < (l_lists.length : Int)) then (p_impl_areFinite_l2 l_lists t2 t9 (fun (t2_2 : Bool) (t15 : Int) => (p_impl_areFinite_l1 l_lists μ t2_2 (t9 + 1))) (Int.toNat (((((l_lists).getD (t9 : Int).toNat [])).length : Int) - (0 : Int)) + 1) t2 (0 : Int)) else true) := rfl
def p_impl_areFinite (l_lists : List (List Nat)) : Bool := (p_impl_areFinite_l1 l_lists (Int.toNat ((l_lists.length : Int) - (0 : Int)) + 1) false (0 : Int))
theorem p_impl_areFinite_eq (l_lists : List (List Nat)) : p_impl_areFinite l_lists = (p_impl_areFinite_l1 l_lists (Int.toNat ((l_lists.length : Int) - (0 : Int)) + 1) false (0 : Int)) := rfl
def T_impl_areFinite (lists_a : Option Addr) (lists_n : Nat) (lists_e : Nat) (H : AHeap) (K : Bool → AHeap → Prop) : Prop := ∃ (l_lists : List (List Nat)), IsLL fF H lists_a lists_n l_lists ∧ l_lists.length < 1073741824 ∧ (∀ y ∈ l_lists, y.length < 1073741824) ∧ K (p_impl_areFinite l_lists) H
theorem T_impl_areFinite_i {lists_a : Option Addr} {lists_n : Nat} {lists_e : Nat} {H : AHeap} {K : Bool → AHeap → Prop} (h : ∃ (l_lists : List (List Nat)), IsLL fF H lists_a lists_n l_lists ∧ l_lists.length < 1073741824 ∧ (∀ y ∈ l_lists, y.length < 1073741824) ∧ K (p_impl_areFinite l_lists) H) : T_impl_areFinite lists_a lists_n lists_e H K := h

/-! impl_areFinite: function 115 -/
def E_impl_areFinite : Env := envOf [(62, S_impl_IsFinite)]
def F_impl_areFinite : List Value → AHeap → (Value → AHeap → Prop) → Prop
  | [.slice lists_a lists_n lists_e], H, K => T_impl_areFinite lists_a lists_n lists_e H fun (r1 : Bool) (H' : AHeap) => K (.bool r1) H'
  | _, _, _ => False
def S_impl_areFinite : FSpec := { F := F_impl_areFinite, quiet := true, tame := false }
theorem impl_areFinite_vc (lists_a : Option Addr) (lists_n : Nat) (lists_e : Nat) (H : AHeap) (K : Value → AHeap → Prop) : bodyK Try.prog E_impl_areFinite Try.f115 [.slice lists_a lists_n lists_e] H K =
  (loopK (exK Try.prog E_impl_areFinite (cl (cl (cr (cl (cr (bodyC Try.f115))))))) [.slice lists_a lists_n lists_e, undef, .bool false, undef, undef, undef, undef, .slice lists_a lists_n lists_e, .int .i64 (lists_n : Int), .int .i64 0, undef, undef, undef, undef, undef, undef, undef, undef, undef, undef, undef, undef, undef, undef] H (blockQ 0 (seqQ (exK Try.prog E_impl_areFinite (cr (cr (bodyC Try.f115)))) (retK Try.prog Try.f115 K)))) := by kernel_rfl
theorem impl_areFinite_r1 (lists_a : Option Addr) (lists_e : Nat) (lists_n : Nat) (t2 : Bool) (t9 : Int) (g4 g6 g10 g11 g12 g13 g14 g15 g16 g17 g18 g19 g20 g21 g22 g23 : Value) (H : AHeap) (R : Post) : exK Try.prog E_impl_areFinite (cl (cl (cr (cl (cr (bodyC Try.f115)))))) [.slice lists_a lists_n lists_e, undef, .bool t2, undef, g4, undef, g6, .slice lists_a lists_n lists_e, .int .i64 (lists_n : Int), .int .i64 t9, g10, g11, g12, g13, g14, g15, g16, g17, g18, g19, g20, g21, g22, g23] H R =
  (Br (decide ((t9 : Int) < (lists_n : Int))) ((0 : Int) ≤ t9 ∧ t9 < (lists_n : Int) ∧ ∃ b1 f1, (lists_a : Option Addr) = some ⟨b1, f1, none⟩ ∧ ∃ x1_a : Option Addr, ∃ x1_n : Nat, ∃ x1_e : Nat,  rdC H b1 (f1 + (t9 : Int).toNat * 1) = some (.slice x1_a x1_n x1_e) ∧ loopK (exK Try.prog E_impl_areFinite (cl (cl (cr (cr (cl (cl (cr (cr (cl (cl (cr (cl (cr (bodyC Try.f115))))))))))))))) [.slice lists_a lists_n lists_e, undef, .bool t2, undef, .slice x1_a x1_n x1_e, undef, g6, .slice lists_a lists_n lists_e, .int .i64 (lists_n : Int), .int .i64 t9, .bool (decide ((t9 : Int) < (lists_n : Int))), .pointer (some ⟨b1, f1 + (t9 : Int).toNat * 1, none⟩), .slice x1_a x1_n x1_e, .slice x1_a x1_n x1_e, .int .i64 (x1_n : Int), .int .i64 0, g16, g17, g18, g19, g20, g21, g22, g23] H (blockQ 2 (blockQ 1 (seqQ (exK Try.prog E_impl_areFinite (cr (cr (cr (cl (cl (cr (cl (cr (bodyC Try.f115)))))))))) (R))))) (R (.exit 0) [.slice lists_a lists_n lists_e, undef, .bool t2, undef, g4, undef, g6, .slice lists_a lists_n lists_e, .int .i64 (lists_n : Int), .int .i64 t9, .bool (decide ((t9 : Int) < (lists_n : Int))), g11, g12, g13, g14, g15, g16, g17, g18, g19, g20, g21, g22, g23] H)) := by kernel_rfl
def impl_areFinite_I1 (lists_a : Option Addr) (lists_e : Nat) (lists_n : Nat) (Inv : Nat → Bool → Int → AHeap → Prop) : Nat → List Value → AHeap → Prop := fun μ tm H => ∃ (t2 : Bool), ∃ (t9 : Int), ∃ g4 g6 g10 g11 g12 g13 g14 g15 g16 g17 g18 g19 g20 g21 g22 g23, tm = [.slice lists_a lists_n lists_e, undef, .bool t2, undef, g4, undef, g6, .slice lists_a lists_n lists_e, .int .i64 (lists_n : Int), .int .i64 t9, g10, g11, g12, g13, g14, g15, g16, g17, g18, g19, g20, g21, g22, g23] ∧ Inv μ t2 t9 H
theorem impl_areFinite_L1 (lists_a : Option Addr) (lists_e : Nat) (lists_n : Nat) {Q : Post} (Inv : Nat → Bool → Int → AHeap → Prop) (ν : Nat) (t2 : Bool) (t9 : Int) (g4 g6 g10 g11 g12 g13 g14 g15 g16 g17 g18 g19 g20 g21 g22 g23 : Value) (H : AHeap) (h0 : Inv ν t2 t9 H)
    (hs : ∀ (μ : Nat) (t2 : Bool) (t9 : Int) (g4 g6 g10 g11 g12 g13 g14 g15 g16 g17 g18 g19 g20 g21 g22 g23 : Value) (H : AHeap), Inv μ t2 t9 H → exK Try.prog E_impl_areFinite (cl (cl (cr (cl (cr (bodyC Try.f115)))))) [.slice lists_a lists_n lists_e, undef, .bool t2, undef, g4, undef, g6, .slice lists_a lists_n lists_e, .int .i64 (lists_n : Int), .int .i64 t9, g10, g11, g12, g13, g14, g15, g16, g17, g18, g19, g20, g21, g22, g23] H (loopQ (impl_areFinite_I1 lists_a lists_e lists_n Inv) μ Q)) : loopK (exK Try.prog E_impl_areFinite (cl (cl (cr (cl (cr (bodyC Try.f115))))))) [.slice lists_a lists_n lists_e, undef, .bool t2, undef, g4, undef, g6, .slice lists_a lists_n lists_e, .int .i64 (lists_n : Int), .int .i64 t9, g10, g11, g12, g13, g14, g15, g16, g17, g18, g19, g20, g21, g22, g23] H Q :=
  ⟨impl_areFinite_I1 lists_a lists_e lists_n Inv, ν, ⟨t2, t9, g4, g6, g10, g11, g12, g13, g14, g15, g16, g17, g18, g19, g20, g21, g22, g23, rfl, h0⟩, fun μ tm H h => by obtain ⟨t2, t9, g4, g6, g10, g11, g12, g13, g14, g15, g16, g17, g18, g19, g20, g21, g22, g23, rfl, hI⟩ := h; exact hs μ t2 t9 g4 g6 g10 g11 g12 g13 g14 g15 g16 g17 g18 g19 g20 g21 g22 g23 H hI⟩
theorem impl_areFinite_n1 {lists_a : Option Addr} {lists_e : Nat} {lists_n : Nat} {Q : Post} {Inv : Nat → Bool → Int → AHeap → Prop} {μ : Nat} (μ' : Nat) {t2 : Bool} {t9 : Int} {g4 g6 g10 g11 g12 g13 g14 g15 g16 g17 g18 g19 g20 g21 g22 g23 : Value} {H : AHeap} (hm : μ' < μ) (hI : Inv μ' t2 t9 H) : loopQ (impl_areFinite_I1 lists_a lists_e lists_n Inv) μ Q .normal [.slice lists_a lists_n lists_e, undef, .bool t2, undef, g4, undef, g6, .slice lists_a lists_n lists_e, .int .i64 (lists_n : Int), .int .i64 t9, g10, g11, g12, g13, g14, g15, g16, g17, g18, g19, g20, g21, g22, g23] H := ⟨μ', hm, t2, t9, g4, g6, g10, g11, g12, g13, g14, g15, g16, g17, g18, g19, g20, g21, g22, g23, rfl, hI⟩
theorem impl_areFinite_x1_0 (lists_a : Option Addr) (lists_e : Nat) (lists_n : Nat) (t2 : Bool) (t9 : Int) (g4 g6 g10 g11 g12 g13 g14 g15 g16 g17 g18 g19 g20 g21 g22 g23 : Value) (H : AHeap) (K : Value → AHeap → Prop)  {I : Nat → List Value → AHeap → Prop} {μ : Nat} : loopQ I μ (blockQ 0 (seqQ (exK Try.prog E_impl_areFinite (cr (cr (bodyC Try.f115)))) (retK Try.prog Try.f115 K))) (.exit 0) [.slice lists_a lists_n lists_e, undef, .bool t2, undef, g4, undef, g6, .slice lists_a lists_n lists_e, .int .i64 (lists_n : Int), .int .i64 t9, g10, g11, g12, g13, g14, g15, g16, g17, g18, g19, g20, g21, g22, g23] H =
  (K (.bool true) H) := by kernel_rfl
theorem impl_areFinite_x1_ret (lists_a : Option Addr) (lists_e : Nat) (lists_n : Nat) (t2 : Bool) (t9 : Int) (g4 g6 g10 g11 g12 g13 g14 g15 g16 g17 g18 g19 g20 g21 g22 g23 : Value) (H : AHeap) (K : Value → AHeap → Prop)  {I : Nat → List Value → AHeap → Prop} {μ : Nat} : loopQ I μ (blockQ 0 (seqQ (exK Try.prog E_impl_areFinite (cr (cr (bodyC Try.f115)))) (retK Try.prog Try.f115 K))) .ret [.slice lists_a lists_n lists_e, undef, .bool t2, undef, g4, undef, g6, .slice lists_a lists_n lists_e, .int .i64 (lists_n : Int), .int .i64 t9, g10, g11, g12, g13, g14, g15, g16, g17, g18, g19, g20, g21, g22, g23] H =
  (K (.bool t2) H) := by kernel_rfl
theorem impl_areFinite_r2 (b1 : Nat) (f1 : Nat) (g23 : Value) (lists_a : Option Addr) (lists_e : Nat) (lists_n : Nat) (t9 : Int) (x1_a : Option Addr) (x1_e : Nat) (x1_n : Nat) (t2_2 : Bool) (t15 : Int) (g6 g16 g17 g18 g19 g20 g21 g22 : Value) (H : AHeap) (R : Post) : exK Try.prog E_impl_areFinite (cl (cl (cr (cr (cl (cl (cr (cr (cl (cl (cr (cl (cr (bodyC Try.f115)))))))))))))) [.slice lists_a lists_n lists_e, undef, .bool t2_2, undef, .slice x1_a x1_n x1_e, undef, g6, .slice lists_a lists_n lists_e, .int .i64 (lists_n : Int), .int .i64 t9, .bool (decide ((t9 : Int) < (lists_n : Int))), .pointer (some ⟨b1, f1 + (t9 : Int).toNat * 1, none⟩), .slice x1_a x1_n x1_e, .slice x1_a x1_n x1_e, .int .i64 (x1_n : Int), .int .i64 t15, g16, g17, g18, g19, g20, g21, g22, g23] H R =
  (Br (decide ((t15 : Int) < (x1_n : Int))) ((0 : Int) ≤ t15 ∧ t15 < (x1_n : Int) ∧ ∃ b2 f2, (x1_a : Option Addr) = some ⟨b2, f2, none⟩ ∧ ∃ x2 : Nat,  rdC H b2 (f2 + (t15 : Int).toNat * 1) = some (.float .f32 x2) ∧ T_impl_IsFinite x2 H fun (r1 : Bool) (H1 : AHeap) => Br (!r1) (R .ret [.slice lists_a lists_n lists_e, undef, .bool false, undef, .slice x1_a x1_n x1_e, undef, .float .f32 x2, .slice lists_a lists_n lists_e, .int .i64 (lists_n : Int), .int .i64 t9, .bool (decide ((t9 : Int) < (lists_n : Int))), .pointer (some ⟨b1, f1 + (t9 : Int).toNat * 1, none⟩), .slice x1_a x1_n x1_e, .slice x1_a x1_n x1_e, .int .i64 (x1_n : Int), .int .i64 t15, .bool (decide ((t15 : Int) < (x1_n : Int))), .pointer (some ⟨b2, f2 + (t15 : Int).toNat * 1, none⟩), .float .f32 x2, .float .f32 x2, .bool r1, .bool (!r1), g22, g23] H1) (R .normal [.slice lists_a lists_n lists_e, undef, .bool t2_2, undef, .slice x1_a x1_n x1_e, undef, .float .f32 x2, .slice lists_a lists_n lists_e, .int .i64 (lists_n : Int), .int .i64 t9, .bool (decide ((t9 : Int) < (lists_n : Int))), .pointer (some ⟨b1, f1 + (t9 : Int).toNat * 1, none⟩), .slice x1_a x1_n x1_e, .slice x1_a x1_n x1_e, .int .i64 (x1_n : Int), .int .i64 (IntKind.wrap .i64 (t15 + 1)), .bool (decide ((t15 : Int) < (x1_n : Int))), .pointer (some ⟨b2, f2 + (t15 : Int).toNat * 1, none⟩), .float .f32 x2, .float .f32 x2, .bool r1, .bool (!r1), .int .i64 (IntKind.wrap .i64 (t15 + 1)), g23] H1)) (R (.exit 2) [.slice lists_a lists_n lists_e, undef, .bool t2_2, undef, .slice x1_a x1_n x1_e, undef, g6, .slice lists_a lists_n lists_e, .int .i64 (lists_n : Int), .int .i64 t9, .bool (decide ((t9 : Int) < (lists_n : Int))), .pointer (some ⟨b1, f1 + (t9 : Int).toNat * 1, none⟩), .slice x1_a x1_n x1_e, .slice x1_a x1_n x1_e, .int .i64 (x1_n : Int), .int .i64 t15, .bool (decide ((t15 : Int) < (x1_n : Int))), g17, g18, g19, g20, g21, g22, g23] H)) := by kernel_rfl
def impl_areFinite_I2 (b1 : Nat) (f1 : Nat) (g23 : Value) (lists_a : Option Addr) (lists_e : Nat) (lists_n : Nat) (t9 : Int) (x1_a : Option Addr) (x1_e : Nat) (x1_n : Nat) (Inv : Nat → Bool → Int → AHeap → Prop) : Nat → List Value → AHeap → Prop := fun μ tm H => ∃ (t2_2 : Bool), ∃ (t15 : Int), ∃ g6 g16 g17 g18 g19 g20 g21 g22, tm = [.slice lists_a lists_n lists_e, undef, .bool t2_2, undef, .slice x1_a x1_n x1_e, undef, g6, .slice lists_a lists_n lists_e, .int .i64 (lists_n : Int), .int .i64 t9, .bool (decide ((t9 : Int) < (lists_n : Int))), .pointer (some ⟨b1, f1 + (t9 : Int).toNat * 1, none⟩), .slice x1_a x1_n x1_e, .slice x1_a x1_n x1_e, .int .i64 (x1_n : Int), .int .i64 t15, g16, g17, g18, g19, g20, g21, g22, g23] ∧ Inv μ t2_2 t15 H
theorem impl_areFinite_L2 (b1 : Nat) (f1 : Nat) (g23 : Value) (lists_a : Option Addr) (lists_e : Nat) (lists_n : Nat) (t9 : Int) (x1_a : Option Addr) (x1_e : Nat) (x1_n : Nat) {Q : Post} (Inv : Nat → Bool → Int → AHeap → Prop) (ν : Nat) (t2_2 : Bool) (t15 : Int) (g6 g16 g17 g18 g19 g20 g21 g22 : Value) (H : AHeap) (h0 : Inv ν t2_2 t15 H)
    (hs : ∀ (μ : Nat) (t2_2 : Bool) (t15 : Int) (g6 g16 g17 g18 g19 g20 g21 g22 : Value) (H : AHeap), Inv μ t2_2 t15 H → exK Try.prog E_impl_areFinite (cl (cl (cr (cr (cl (cl (cr (cr (cl (cl (cr (cl (cr (bodyC Try.f115)))))))))))))) [.slice lists_a lists_n lists_e, undef, .bool t2_2, undef, .slice x1_a x1_n x1_e, undef, g6, .slice lists_a lists_n lists_e, .int .i64 (lists_n : Int), .int .i64 t9, .bool (decide ((t9 : Int) < (lists_n : Int))), .pointer (some ⟨b1, f1 + (t9 : Int).toNat * 1, none⟩), .slice x1_a x1_n x1_e, .slice x1_a x1_n x1_e, .int .i64 (x1_n : Int), .int .i64 t15, g16, g17, g18, g19, g20, g21, g22, g23] H (loopQ (impl_areFinite_I2 b1 f1 g23 lists_a lists_e lists_n t9 x1_a x1_e x1_n Inv) μ Q)) : loopK (exK Try.prog E_impl_areFinite (cl (cl (cr (cr (cl (cl (cr (cr (cl (cl (cr (cl (cr (bodyC Try.f115))))))))))))))) [.slice lists_a lists_n lists_e, undef, .bool t2_2, undef, .slice x1_a x1_n x1_e, undef, g6, .slice lists_a lists_n lists_e, .int .i64 (lists_n : Int), .int .i64 t9, .bool (decide ((t9 : Int) < (lists_n : Int))), .pointer (some ⟨b1, f1 + (t9 : Int).toNat * 1, none⟩), .slice x1_a x1_n x1_e, .slice x1_a x1_n x1_e, .int .i64 (x1_n : Int), .int .i64 t15, g16, g17, g18, g19, g20, g21, g22, g23] H Q :=
  ⟨impl_areFinite_I2 b1 f1 g23 lists_a lists_e lists_n t9 x1_a x1_e x1_n Inv, ν, ⟨t2_2, t15, g6, g16, g17, g18, g19, g20, g21, g22, rfl, h0⟩, fun μ tm H h => by obtain ⟨t2_2, t15, g6, g16, g17, g18, g19, g20, g21, g22, rfl, hI⟩ := h; exact hs μ t2_2 t15 g6 g16 g17 g18 g19 g20 g21 g22 H hI⟩
theorem impl_areFinite_n2 {b1 : Nat} {f1 : Nat} {g23 : Value} {lists_a : Option Addr} {lists_e : Nat} {lists_n : Nat} {t9 : Int} {x1_a : Option Addr} {x1_e : Nat} {x1_n : Nat} {Q : Post} {Inv : Nat → Bool → Int → AHeap → Prop} {μ : Nat} (μ' : Nat) {t2_2 : Bool} {t15 : Int} {g6 g16 g17 g18 g19 g20 g21 g22 : Value} {H : AHeap} (hm : μ' < μ) (hI : Inv μ' t2_2 t15 H) : loopQ (impl_areFinite_I2 b1 f1 g23 lists_a lists_e lists_n t9 x1_a x1_e x1_n Inv) μ Q .normal [.slice lists_a lists_n lists_e, undef, .bool t2_2, undef, .slice x1_a x1_n x1_e, undef, g6, .slice lists_a lists_n lists_e, .int .i64 (lists_n : Int), .int .i64 t9, .bool (decide ((t9 : Int) < (lists_n : Int))), .pointer (some ⟨b1, f1 + (t9 : Int).toNat * 1, none⟩), .slice x1_a x1_n x1_e, .slice x1_a x1_n x1_e, .int .i64 (x1_n : Int), .int .i64 t15, g16, g17, g18, g19, g20, g21, g22, g23] H := ⟨μ', hm, t2_2, t15, g6, g16, g17, g18, g19, g20, g21, g22, rfl, hI⟩
theorem impl_areFinite_x2_2 (b1 : Nat) (f1 : Nat) (g23 : Value) (lists_a : Option Addr) (lists_e : Nat) (lists_n : Nat) (t9 : Int) (x1_a : Option Addr) (x1_e : Nat) (x1_n : Nat) (t2_2 : Bool) (t15 : Int) (g6 g16 g17 g18 g19 g20 g21 g22 : Value) (H : AHeap)  (R : Post) {I : Nat → List Value → AHeap → Prop} {μ : Nat} : loopQ I μ (blockQ 2 (blockQ 1 (seqQ (exK Try.prog E_impl_areFinite (cr (cr (cr (cl (cl (cr (cl (cr (bodyC Try.f115)))))))))) (R)))) (.exit 2) [.slice lists_a lists_n lists_e, undef, .bool t2_2, undef, .slice x1_a x1_n x1_e, undef, g6, .slice lists_a lists_n lists_e, .int .i64 (lists_n : Int), .int .i64 t9, .bool (decide ((t9 : Int) < (lists_n : Int))), .pointer (some ⟨b1, f1 + (t9 : Int).toNat * 1, none⟩), .slice x1_a x1_n x1_e, .slice x1_a x1_n x1_e, .int .i64 (x1_n : Int), .int .i64 t15, g16, g17, g18, g19, g20, g21, g22, g23] H =
  (R .normal [.slice lists_a lists_n lists_e, undef, .bool t2_2, undef, .slice x1_a x1_n x1_e, undef, g6, .slice lists_a lists_n lists_e, .int .i64 (lists_n : Int), .int .i64 (IntKind.wrap .i64 (t9 + 1)), .bool (decide ((t9 : Int) < (lists_n : Int))), .pointer (some ⟨b1, f1 + (t9 : Int).toNat * 1, none⟩), .slice x1_a x1_n x1_e, .slice x1_a x1_n x1_e, .int .i64 (x1_n : Int), .int .i64 t15, g16, g17, g18, g19, g20, g21, g22, .int .i64 (IntKind.wrap .i64 (t9 + 1))] H) := by kernel_rfl
theorem impl_areFinite_x2_ret (b1 : Nat) (f1 : Nat) (g23 : Value) (lists_a : Option Addr) (lists_e : Nat) (lists_n : Nat) (t9 : Int) (x1_a : Option Addr) (x1_e : Nat) (x1_n : Nat) (t2_2 : Bool) (t15 : Int) (g6 g16 g17 g18 g19 g20 g21 g22 : Value) (H : AHeap)  (R : Post) {I : Nat → List Value → AHeap → Prop} {μ : Nat} : loopQ I μ (blockQ 2 (blockQ 1 (seqQ (exK Try.prog E_impl_areFinite (cr (cr (cr (cl (cl (cr (cl (cr (bodyC Try.f115)))))))))) (R)))) .ret [.slice lists_a lists_n lists_e, undef, .bool t2_2, undef, .slice x1_a x1_n x1_e, undef, g6, .slice lists_a lists_n lists_e, .int .i64 (lists_n : Int), .int .i64 t9, .bool (decide ((t9 : Int) < (lists_n : Int))), .pointer (some ⟨b1, f1 + (t9 : Int).toNat * 1, none⟩), .slice x1_a x1_n x1_e, .slice x1_a x1_n x1_e, .int .i64 (x1_n : Int), .int .i64 t15, g16, g17, g18, g19, g20, g21, g22, g23] H =
  (R .ret [.slice lists_a lists_n lists_e, undef, .bool t2_2, undef, .slice x1_a x1_n x1_e, undef, g6, .slice lists_a lists_n lists_e, .int .i64 (lists_n : Int), .int .i64 t9, .bool (decide ((t9 : Int) < (lists_n : Int))), .pointer (some ⟨b1, f1 + (t9 : Int).toNat * 1, none⟩), .slice x1_a x1_n x1_e, .slice x1_a x1_n x1_e, .int .i64 (x1_n : Int), .int .i64 t15, g16, g17, g18, g19, g20, g21, g22, g23] H) := by kernel_rfl
theorem E_impl_areFinite_ok : ∀ g, FnOk Try.prog g (E_impl_areFinite g) := FnOk.envOf (by
  intro x hx
  simp only [List.mem_cons, List.not_mem_nil, or_false] at hx
  subst hx; exact impl_IsFinite_ok)
set_option maxHeartbeats 1000000 in
theorem impl_areFinite_main (lists_a : Option Addr) (lists_n : Nat) (lists_e : Nat) (H : AHeap) (K : Value → AHeap → Prop) (h : T_impl_areFinite lists_a lists_n lists_e H fun (r1 : Bool) (H' : AHeap) => K (.bool r1) H') : bodyK Try.prog E_impl_areFinite Try.f115 [.slice lists_a lists_n lists_e] H K := by
  rw [impl_areFinite_vc]
  obtain ⟨l_lists, i_lists, bd_22, bb_l_lists, hk⟩ := h
  obtain rfl := i_lists.eqn
  have e : (p_impl_areFinite l_lists) = _ := rfl
  have e := e.trans (p_impl_areFinite_eq l_lists)
  have g0 := Grow.refl H
  refine impl_areFinite_L1 _ _ _ (fun (μ : Nat) (t2 : Bool) (t9 : Int) (H_1 : AHeap) => H = H_1 ∧ (0 : Int) ≤ t9 ∧ t9 ≤ (l_lists.length : Int) ∧ (l_lists.length : Int) - t9 ≤ (μ : Int) ∧ p_impl_areFinite l_lists = p_impl_areFinite_l1 l_lists (μ + 1) t2 t9) (Int.toNat ((l_lists.length : Int) - (0 : Int))) _ _ _ _ _ _ _ _ _ _ _ _ _ _ _ _ _ _ H ?_ ?_
  · exact ⟨rfl, (by first | omega | (simp; done) | (simp; omega)), (by first | omega | (simp; done) | (simp; omega)), (by omega), e⟩
  · intro μ t2 t9 g4 g6 g10 g11 g12 g13 g14 g15 g16 g17 g18 g19 g20 g21 g22 g23 H_1 hI
    obtain ⟨rfl, v_1, v_2, hμ, e⟩ := hI
    rw [impl_areFinite_r1]
    have e := e.trans (p_impl_areFinite_l1_s l_lists μ t2 t9)
    have l_3 := g0.1
    refine Br.intro (fun c_4 => ?_) (fun c_4 => ?_)
    · have e := e.trans (cond_t c_4)
      have c_4' := of_decide_eq_true c_4
      obtain ⟨b_5, f_6, q_7⟩ := ((i_lists.grow g0)).pos (by first | omega | (simp only [List.length_set, List.length_replicate, List.length_append, List.length_cons, List.length_nil, List.length_take, List.length_drop, marks_length]; done) | (simp only [List.length_set, List.length_replicate, List.length_append, List.length_cons, List.length_nil, List.length_take, List.length_drop, marks_length]; omega))
      refine ⟨by omega, by omega, b_5, f_6, q_7, ?_⟩
      obtain ⟨a_8, n_9, e_10, r_11, i_12⟩ := (i_lists).rd (i := (t9 : Int).toNat) g0 q_7 (by omega)
      obtain rfl := i_12.eqn
      refine ⟨a_8, _, e_10, r_11, ?_⟩
      have z_13 := getD_len bb_l_lists (t9 : Int).toNat
      refine impl_areFinite_L2 _ _ _ _ _ _ _ _ _ _ (fun (μ2 : Nat) (t2_2 : Bool) (t15 : Int) (H_2 : AHeap) => H = H_2 ∧ (0 : Int) ≤ t15 ∧ t15 ≤ ((((l_lists).getD (t9 : Int).toNat [])).length : Int) ∧ ((((l_lists).getD (t9 : Int).toNat [])).length : Int) - t15 ≤ (μ2 : Int) ∧ p_impl_areFinite l_lists = p_impl_areFinite_l2 l_lists t2 t9 (fun (t2_2 : Bool) (t15 : Int) => (p_impl_areFinite_l1 l_lists μ t2_2 (t9 + 1))) (μ2 + 1) t2_2 t15) (Int.toNat (((((l_lists).getD (t9 : Int).toNat [])).length : Int) - (0 : Int))) _ _ _ _ _ _ _ _ _ _ H ?_ ?_
      · exact ⟨rfl, (by first | omega | (simp; done) | (simp; omega)), (by first | omega | (simp; done) | (simp; omega)), (by omega), e⟩
      · intro μ2 t2_2 t15 g6 g16 g17 g18 g19 g20 g21 g22 H_2 hI
        obtain ⟨rfl, v_14, v_15, hμ, e⟩ := hI
        rw [impl_areFinite_r2]
        have e := e.trans (p_impl_areFinite_l2_s l_lists t2 t9 (fun (t2_2 : Bool) (t15 : Int) => (p_impl_areFinite_l1 l_lists μ t2_2 (t9 + 1))) μ2 t2_2 t15)
        have l_16 := g0.1
        refine Br.intro (fun c_17 => ?_) (fun c_17 => ?_)
        · have e := e.trans (cond_t c_17)
          have c_17' := of_decide_eq_true c_17
          obtain ⟨b_18, f_19, q_20⟩ := ((i_12.grow g0)).pos (by first | omega | (simp only [List.length_set, List.length_replicate, List.length_append, List.length_cons, List.length_nil, List.length_take, List.length_drop, marks_length]; done) | (simp only [List.length_set, List.length_replicate, List.length_append, List.length_cons, List.length_nil, List.length_take, List.length_drop, marks_length]; omega))
          refine ⟨by omega, by omega, b_18, f_19, q_20, ?_⟩
          refine ⟨((((l_lists).getD (t9 : Int).toNat [])).getD (t15 : Int).toNat 0), (i_12).rd g0 q_20 (by omega) _, ?_⟩
          refine T_impl_IsFinite_i ?_
          refine Br.intro (fun c_21 => ?_) (fun c_21 => ?_)
          · have e := e.trans (cond_t c_21)
            have c_21n := nf_of_t c_21
            rw [impl_areFinite_x2_ret]
            rw [impl_areFinite_x1_ret]
            rw [e] at hk
            exact hk
          · have e := e.trans (cond_f c_21)
            have c_21n := nt_of_f c_21
            rw [show IntKind.wrap .i64 (t15 + 1) = (t15 + 1) from wrap64 (by omega) (by omega)]
            refine impl_areFinite_n2 (μ2 - 1) (by first | omega) ⟨rfl, (by first | omega | (simp only [List.length_append, List.length_cons, List.length_nil, List.length_set]; done) | (simp only [List.length_append, List.length_cons, List.length_nil, List.length_set]; omega)), (by first | omega | (simp only [List.length_append, List.length_cons, List.length_nil, List.length_set]; done) | (simp only [List.length_append, List.length_cons, List.length_nil, List.length_set]; omega)), (by first | omega), (by rw [show μ2 - 1 + 1 = μ2 from by first | omega]; exact e)⟩
        · have e := e.trans (cond_f c_17)
          have c_17' := of_decide_eq_false c_17
          rw [impl_areFinite_x2_2]
          rw [show IntKind.wrap .i64 (t9 + 1) = (t9 + 1) from wrap64 (by omega) (by omega)]
          refine impl_areFinite_n1 (μ - 1) (by first | omega) ⟨rfl, (by first | omega | (simp only [List.length_append, List.length_cons, List.length_nil, List.length_set]; done) | (simp only [List.length_append, List.length_cons, List.length_nil, List.length_set]; omega)), (by first | omega | (simp only [List.length_append, List.length_cons, List.length_nil, List.length_set]; done) | (simp only [List.length_append, List.length_cons, List.length_nil, List.length_set]; omega)), (by first | omega), (by rw [show μ - 1 + 1 = μ from by first | omega]; exact e)⟩
    · have e := e.trans (cond_f c_4)
      have c_4' := of_decide_eq_false c_4
      rw [impl_areFinite_x1_0]
      rw [e] at hk
      exact hk
theorem impl_areFinite_ok : FnOk Try.prog 115 S_impl_areFinite := by
  refine FnOk.body mix_ok E_impl_areFinite_ok Try.func115 rfl (by kernel_rfl) (by kernel_rfl) ?_ ?_ ?_ ?_ ?_
  · intro args H K K' h hk
    simp only [S_impl_areFinite] at *
    unfold F_impl_areFinite at *
    split at hk
    · obtain ⟨l_lists, i_lists, bd_22, bb_l_lists, k⟩ := hk
      exact ⟨l_lists, i_lists, bd_22, bb_l_lists, h _ _ k⟩
    · exact hk.elim
  · intro _ args H K hk
    simp only [S_impl_areFinite] at *
    unfold F_impl_areFinite at *
    split at hk
    · obtain ⟨l_lists, i_lists, bd_22, bb_l_lists, k⟩ := hk
      exact ⟨_, k, fun K' k' => ⟨l_lists, i_lists, bd_22, bb_l_lists, k'⟩⟩
    · exact hk.elim
  · intro args H K hk
    simp only [S_impl_areFinite] at *
    unfold F_impl_areFinite at *
    split at hk
    · obtain ⟨l_lists, i_lists, bd_22, bb_l_lists, k⟩ := hk
      exact ⟨_, _, k⟩
    · exact hk.elim
  · intro hq; cases hq
  · have mm := @impl_areFinite_main
    revert mm
    generalize bodyK Try.prog E_impl_areFinite Try.f115 = Q
    intro mm args H K hk
    simp only [S_impl_areFinite] at *
    unfold F_impl_areFinite at *
    split at hk
    · exact mm _ _ _ H K hk
    · exact hk.elim
def p_impl_ValidPicture (p_Wide : Int) (p_High : Int) (l_p_Lights : List Nat) : Bool := ((bif (p_impl_within p_Wide (1 : Int) (16 : Int)) then (bif (p_impl_within p_High (1 : Int) (16 : Int)) then (bif ((l_p_Lights.length : Int) : Int) == IntKind.wrap .i64 (p_Wide * p_High) then (p_impl_areFinite ([l_p_Lights])) else false) else false) else false))
theorem p_impl_ValidPicture_eq (p_Wide : Int) (p_High : Int) (l_p_Lights : List Nat) : p_impl_ValidPicture p_Wide p_High l_p_Lights = ((bif (p_impl_within p_Wide (1 : Int) (16 : Int)) then (bif (p_impl_within p_High (1 : Int) (16 : Int)) then (bif ((l_p_Lights.length : Int) : Int) == IntKind.wrap .i64 (p_Wide * p_High) then (p_impl_areFinite ([l_p_Lights])) else false) else false) else false)) := rfl
def T_impl_ValidPicture (p_Wide : Int) (p_High : Int) (p_Lights_a : Option Addr) (p_Lights_n : Nat) (p_Lights_e : Nat) (H : AHeap) (K : Bool → AHeap → Prop) : Prop := ∃ (l_p_Lights : List Nat), IsL fF H p_Lights_a p_Lights_n l_p_Lights ∧ l_p_Lights.length < 1073741824 ∧ ((∀ H' : AHeap, Grow H H' → K (p_impl_ValidPicture p_Wide p_High l_p_Lights) H'))
theorem T_impl_ValidPicture_i {p_Wide : Int} {p_High : Int} {p_Lights_a : Option Addr} {p_Lights_n : Nat} {p_Lights_e : Nat} {H : AHeap} {K : Bool → AHeap → Prop} (h : ∃ (l_p_Lights : List Nat), IsL fF H p_Lights_a p_Lights_n l_p_Lights ∧ l_p_Lights.length < 1073741824 ∧ ((∀ H' : AHeap, Grow H H' → K (p_impl_ValidPicture p_Wide p_High l_p_Lights) H'))) : T_impl_ValidPicture p_Wide p_High p_Lights_a p_Lights_n p_Lights_e H K := h
theorem impl_ValidPicture_t {w h : Int} {l : List Nat} (hh : p_impl_ValidPicture w h l = true) : 1 ≤ w ∧ w ≤ 16 ∧ 1 ≤ h ∧ h ≤ 16 ∧ (l.length : Int) = w * h ∧ (l.length : Int) ≤ 256 ∧ 1 ≤ (l.length : Int) := by
  rw [p_impl_ValidPicture_eq] at hh
  simp only [Bool.cond_false_right, Bool.and_eq_true] at hh
  obtain ⟨a, b, c, -⟩ := hh
  have a := impl_within_t a
  have b := impl_within_t b
  have h1 : w * h ≤ 16 * 16 := Int.mul_le_mul (by omega) (by omega) (by omega) (by decide)
  have h2 : 1 * 1 ≤ w * h := Int.mul_le_mul (by omega) (by omega) (by omega) (by omega)
  have c := eq_of_beq c
  rw [wrap64 (by omega) (by omega)] at c
  exact ⟨a.1, a.2, b.1, b.2, c, by omega, by omega⟩
/-! impl_ValidPicture: function 94 -/
def E_impl_ValidPicture : Env := envOf [(72, S_impl_within), (115, S_impl_areFinite)]
def F_impl_ValidPicture : List Value → AHeap → (Value → AHeap → Prop) → Prop
  | [.agg ⟨[.int .i64 p_Wide, .int .i64 p_High, .slice p_Lights_a p_Lights_n p_Lights_e]⟩], H, K => T_impl_ValidPicture p_Wide p_High p_Lights_a p_Lights_n p_Lights_e H fun (r1 : Bool) (H' : AHeap) => K (.bool r1) H'
  | _, _, _ => False
def S_impl_ValidPicture : FSpec := { F := F_impl_ValidPicture, quiet := false, tame := true }
theorem impl_ValidPicture_vc (p_Wide : Int) (p_High : Int) (p_Lights_a : Option Addr) (p_Lights_n : Nat) (p_Lights_e : Nat) (H : AHeap) (K : Value → AHeap → Prop) : bodyK Try.prog E_impl_ValidPicture Try.f94 [.agg #[.int .i64 p_Wide, .int .i64 p_High, .slice p_Lights_a p_Lights_n p_Lights_e]] H K =
  (Al [.int .i64 p_Wide, .int .i64 p_High, .slice p_Lights_a p_Lights_n p_Lights_e] H fun b1 H1 => ∃ x1 : Int,  rdC H1 b1 0 = some (.int .i64 x1) ∧ T_impl_within x1 1 16 H1 fun (r1 : Bool) (H2 : AHeap) => Br r1 (∃ x2 : Int,  rdC H2 b1 1 = some (.int .i64 x2) ∧ T_impl_within x2 1 16 H2 fun (r2 : Bool) (H3 : AHeap) => Br r2 (∃ x3_a : Option Addr, ∃ x3_n : Nat, ∃ x3_e : Nat,  rdC H3 b1 2 = some (.slice x3_a x3_n x3_e) ∧ ∃ x4 : Int,  rdC H3 b1 0 = some (.int .i64 x4) ∧ ∃ x5 : Int,  rdC H3 b1 1 = some (.int .i64 x5) ∧ Br (((x3_n : Int) : Int) == IntKind.wrap .i64 (x4 * x5)) (∃ x6_a : Option Addr, ∃ x6_n : Nat, ∃ x6_e : Nat,  rdC H3 b1 2 = some (.slice x6_a x6_n x6_e) ∧ Al [.slice x6_a x6_n x6_e] H3 fun b2 H4 => T_impl_areFinite (some ⟨b2, 0, none⟩) 1 1 H4 fun (r3 : Bool) (H5 : AHeap) => K (.bool r3) H5) (K (.bool false) H3)) (K (.bool false) H3)) (K (.bool false) H2)) := by kernel_rfl
theorem E_impl_ValidPicture_ok : ∀ g, FnOk Try.prog g (E_impl_ValidPicture g) := FnOk.envOf (by
  intro x hx
  simp only [List.mem_cons, List.not_mem_nil, or_false] at hx
  rcases hx with rfl | rfl
  · exact impl_within_ok
  · exact impl_areFinite_ok)
set_option maxHeartbeats 1000000 in
theorem impl_ValidPicture_main (p_Wide : Int) (p_High : Int) (p_Lights_a : Option Addr) (p_Lights_n : Nat) (p_Lights_e : Nat) (H : AHeap) (K : Value → AHeap → Prop) (h : T_impl_ValidPicture p_Wide p_High p_Lights_a p_Lights_n p_Lights_e H fun (r1 : Bool) (H' : AHeap) => K (.bool r1) H') : bodyK Try.prog E_impl_ValidPicture Try.f94 [.agg #[.int .i64 p_Wide, .int .i64 p_High, .slice p_Lights_a p_Lights_n p_Lights_e]] H K := by
  rw [impl_ValidPicture_vc]
  obtain ⟨l_p_Lights, i_p_Lights, bd_26, hk⟩ := h
  obtain rfl := i_p_Lights.eqn
  have e : (p_impl_ValidPicture p_Wide p_High l_p_Lights) = _ := rfl
  have e := e.trans (p_impl_ValidPicture_eq p_Wide p_High l_p_Lights)
  have g0 := Grow.refl H
  refine Al.intro (fun b_1 H_1 hb_2 hl_3 g_4 o_5 => ?_)
  have l_7 := g_4.1
  have g_8 := g0.trans g_4
  have l_9 := g_8.1
  have w_25 := o_5.lt
  refine ⟨p_Wide, (o_5.rdC _).trans rfl, ?_⟩
  refine T_impl_within_i ?_
  refine Br.intro (fun c_10 => ?_) (fun c_10 => ?_)
  · have e := e.trans (cond_t c_10)
    have c_10' := impl_within_t c_10
    refine ⟨p_High, (o_5.rdC _).trans rfl, ?_⟩
    refine T_impl_within_i ?_
    refine Br.intro (fun c_11 => ?_) (fun c_11 => ?_)
    · have e := e.trans (cond_t c_11)
      have c_11' := impl_within_t c_11
      refine ⟨p_Lights_a, l_p_Lights.length, p_Lights_e, (o_5.rdC _).trans rfl, ?_⟩
      refine ⟨p_Wide, (o_5.rdC _).trans rfl, ?_⟩
      refine ⟨p_High, (o_5.rdC _).trans rfl, ?_⟩
      refine Br.intro (fun c_12 => ?_) (fun c_12 => ?_)
      · have e := e.trans (cond_t c_12)
        have c_12' := ieq_t c_12
        refine ⟨p_Lights_a, l_p_Lights.length, p_Lights_e, (o_5.rdC _).trans rfl, ?_⟩
        refine Al.intro (fun b_13 H_2 hb_14 hl_15 g_16 o_17 => ?_)
        have l_19 := g_16.1
        have g_20 := g_8.trans g_16
        have l_21 := g_20.1
        have o_22 := o_5.grow g_16
        have w_23 := o_22.lt
        have w_24 := o_17.lt
        refine T_impl_areFinite_i ⟨[l_p_Lights], ⟨_, o_17.rdAll rfl, LLc.cons (i_p_Lights.grow g_20) (LLc.nil _ _)⟩, (by first | omega | (simp only [List.length_set, List.length_replicate, List.length_append, List.length_cons, List.length_nil, List.length_take, List.length_drop, marks_length]; done) | (simp only [List.length_set, List.length_replicate, List.length_append, List.length_cons, List.length_nil, List.length_take, List.length_drop, marks_length]; omega)), (by first | assumption | (intro y hy; simp only [List.mem_cons, List.not_mem_nil, or_false] at hy; first | omega | (subst hy; omega) | (rcases hy with rfl | rfl <;> omega) | (rcases hy with rfl | rfl | rfl <;> omega))), ?_⟩
        rw [e] at hk
        exact hk  H_2 g_20 
      · have e := e.trans (cond_f c_12)
        have c_12' := ieq_f c_12
        rw [e] at hk
        exact hk  H_1 g_8 
    · have e := e.trans (cond_f c_11)
      rw [e] at hk
      exact hk  H_1 g_8 
  · have e := e.trans (cond_f c_10)
    rw [e] at hk
    exact hk  H_1 g_8 
theorem impl_ValidPicture_ok : FnOk Try.prog 94 S_impl_ValidPicture := by
  refine FnOk.body mix_ok E_impl_ValidPicture_ok Try.func94 rfl (by kernel_rfl) (by kernel_rfl) ?_ ?_ ?_ ?_ ?_
  · intro args H K K' h hk
    simp only [S_impl_ValidPicture] at *
    unfold F_impl_ValidPicture at *
    split at hk
    · obtain ⟨l_p_Lights, i_p_Lights, bd_26, k⟩ := hk
      exact ⟨l_p_Lights, i_p_Lights, bd_26, (fun  H' gg  => h _ _ (k  H' gg ))⟩
    · exact hk.elim
  · intro hq; cases hq
  · intro args H K hk
    simp only [S_impl_ValidPicture] at *
    unfold F_impl_ValidPicture at *
    split at hk
    · obtain ⟨l_p_Lights, i_p_Lights, bd_26, k⟩ := hk
      exact ⟨_, _, k H (Grow.refl H)⟩
    · exact hk.elim
  · intro _ args H K hk
    simp only [S_impl_ValidPicture] at *
    unfold F_impl_ValidPicture at *
    split at hk
    · obtain ⟨l_p_Lights, i_p_Lights, bd_26, k⟩ := hk
      exact ⟨l_p_Lights, i_p_Lights, bd_26, (fun  H' gg  => ⟨gg, k  H' gg ⟩)⟩
    · exact hk.elim
  · have mm := @impl_ValidPicture_main
    revert mm
    generalize bodyK Try.prog E_impl_ValidPicture Try.f94 = Q
    intro mm args H K hk
    simp only [S_impl_ValidPicture] at *
    unfold F_impl_ValidPicture at *
    split at hk
    · exact mm _ _ _ _ _ H K hk
    · exact hk.elim
def p_impl_areAlike (a_Wide : Int) (a_High : Int) (l_a_Lights : List Nat) (b_Wide : Int) (b_High : Int) (l_b_Lights : List Nat) : Bool := ((bif (p_impl_ValidPicture a_Wide a_High l_a_Lights) then (bif (p_impl_ValidPicture b_Wide b_High l_b_Lights) then (bif (a_Wide : Int) == b_Wide then (a_High : Int) == b_High else false) else false) else false))
theorem p_impl_areAlike_eq (a_Wide : Int) (a_High : Int) (l_a_Lights : List Nat) (b_Wide : Int) (b_High : Int) (l_b_Lights : List Nat) : p_impl_areAlike a_Wide a_High l_a_Lights b_Wide b_High l_b_Lights = ((bif (p_impl_ValidPicture a_Wide a_High l_a_Lights) then (bif (p_impl_ValidPicture b_Wide b_High l_b_Lights) then (bif (a_Wide : Int) == b_Wide then (a_High : Int) == b_High else false) else false) else false)) := rfl
def T_impl_areAlike (a_Wide : Int) (a_High : Int) (a_Lights_a : Option Addr) (a_Lights_n : Nat) (a_Lights_e : Nat) (b_Wide : Int) (b_High : Int) (b_Lights_a : Option Addr) (b_Lights_n : Nat) (b_Lights_e : Nat) (H : AHeap) (K : Bool → AHeap → Prop) : Prop := ∃ (l_a_Lights : List Nat), ∃ (l_b_Lights : List Nat), IsL fF H a_Lights_a a_Lights_n l_a_Lights ∧ IsL fF H b_Lights_a b_Lights_n l_b_Lights ∧ l_a_Lights.length < 1073741824 ∧ l_b_Lights.length < 1073741824 ∧ ((∀ H' : AHeap, Grow H H' → K (p_impl_areAlike a_Wide a_High l_a_Lights b_Wide b_High l_b_Lights) H'))
theorem T_impl_areAlike_i {a_Wide : Int} {a_High : Int} {a_Lights_a : Option Addr} {a_Lights_n : Nat} {a_Lights_e : Nat} {b_Wide : Int} {b_High : Int} {b_Lights_a : Option Addr} {b_Lights_n : Nat} {b_Lights_e : Nat} {H : AHeap} {K : Bool → AHeap → Prop} (h : ∃ (l_a_Lights : List Nat), ∃ (l_b_Lights : List Nat), IsL fF H a_Lights_a a_Lights_n l_a_Lights ∧ IsL fF H b_Lights_a b_Lights_n l_b_Lights ∧ l_a_Lights.length < 1073741824 ∧ l_b_Lights.length < 1073741824 ∧ ((∀ H' : AHeap, Grow H H' → K (p_impl_areAlike a_Wide a_High l_a_Lights b_Wide b_High l_b_Lights) H'))) : T_impl_areAlike a_Wide a_High a_Lights_a a_Lights_n a_Lights_e b_Wide b_High b_Lights_a b_Lights_n b_Lights_e H K := h
theorem impl_areAlike_t {aw ah : Int} {la : List Nat} {bw bh : Int} {lb : List Nat} (hh : p_impl_areAlike aw ah la bw bh lb = true) : (la.length : Int) = (lb.length : Int) ∧ (la.length : Int) ≤ 256 ∧ 1 ≤ (la.length : Int) := by
  rw [p_impl_areAlike_eq] at hh
  simp only [Bool.cond_false_right, Bool.and_eq_true] at hh
  obtain ⟨a, b, c, d⟩ := hh
  have a := impl_ValidPicture_t a
  have b := impl_ValidPicture_t b
  have c := eq_of_beq c
  have d := eq_of_beq d
  subst c; subst d
  omega
/-! impl_areAlike: function 138 -/
def E_impl_areAlike : Env := envOf [(94, S_impl_ValidPicture)]
def F_impl_areAlike : List Value → AHeap → (Value → AHeap → Prop) → Prop
  | [.agg ⟨[.int .i64 a_Wide, .int .i64 a_High, .slice a_Lights_a a_Lights_n a_Lights_e]⟩, .agg ⟨[.int .i64 b_Wide, .int .i64 b_High, .slice b_Lights_a b_Lights_n b_Lights_e]⟩], H, K => T_impl_areAlike a_Wide a_High a_Lights_a a_Lights_n a_Lights_e b_Wide b_High b_Lights_a b_Lights_n b_Lights_e H fun (r1 : Bool) (H' : AHeap) => K (.bool r1) H'
  | _, _, _ => False
def S_impl_areAlike : FSpec := { F := F_impl_areAlike, quiet := false, tame := true }
theorem impl_areAlike_vc (a_Wide : Int) (a_High : Int) (a_Lights_a : Option Addr) (a_Lights_n : Nat) (a_Lights_e : Nat) (b_Wide : Int) (b_High : Int) (b_Lights_a : Option Addr) (b_Lights_n : Nat) (b_Lights_e : Nat) (H : AHeap) (K : Value → AHeap → Prop) : bodyK Try.prog E_impl_areAlike Try.f138 [.agg #[.int .i64 a_Wide, .int .i64 a_High, .slice a_Lights_a a_Lights_n a_Lights_e], .agg #[.int .i64 b_Wide, .int .i64 b_High, .slice b_Lights_a b_Lights_n b_Lights_e]] H K =
  (Al [.int .i64 a_Wide, .int .i64 a_High, .slice a_Lights_a a_Lights_n a_Lights_e] H fun b1 H1 => Al [.int .i64 b_Wide, .int .i64 b_High, .slice b_Lights_a b_Lights_n b_Lights_e] H1 fun b2 H2 => ∃ c1 : Int, ∃ c2 : Int, ∃ c3_a : Option Addr, ∃ c3_n : Nat, ∃ c3_e : Nat,  rdN H2 b1 0 3 = some [.int .i64 c1, .int .i64 c2, .slice c3_a c3_n c3_e] ∧ T_impl_ValidPicture c1 c2 c3_a c3_n c3_e H2 fun (r1 : Bool) (H3 : AHeap) => Br r1 (∃ c4 : Int, ∃ c5 : Int, ∃ c6_a : Option Addr, ∃ c6_n : Nat, ∃ c6_e : Nat,  rdN H3 b2 0 3 = some [.int .i64 c4, .int .i64 c5, .slice c6_a c6_n c6_e] ∧ T_impl_ValidPicture c4 c5 c6_a c6_n c6_e H3 fun (r2 : Bool) (H4 : AHeap) => Br r2 (∃ x1 : Int,  rdC H4 b1 0 = some (.int .i64 x1) ∧ ∃ x2 : Int,  rdC H4 b2 0 = some (.int .i64 x2) ∧ Br ((x1 : Int) == x2) (∃ x3 : Int,  rdC H4 b1 1 = some (.int .i64 x3) ∧ ∃ x4 : Int,  rdC H4 b2 1 = some (.int .i64 x4) ∧ K (.bool ((x3 : Int) == x4)) H4) (K (.bool false) H4)) (K (.bool false) H4)) (K (.bool false) H3)) := by kernel_rfl
theorem E_impl_areAlike_ok : ∀ g, FnOk Try.prog g (E_impl_areAlike g) := FnOk.envOf (by
  intro x hx
  simp only [List.mem_cons, List.not_mem_nil, or_false] at hx
  subst hx; exact impl_ValidPicture_ok)
set_option maxHeartbeats 1000000 in
theorem impl_areAlike_main (a_Wide : Int) (a_High : Int) (a_Lights_a : Option Addr) (a_Lights_n : Nat) (a_Lights_e : Nat) (b_Wide : Int) (b_High : Int) (b_Lights_a : Option Addr) (b_Lights_n : Nat) (b_Lights_e : Nat) (H : AHeap) (K : Value → AHeap → Prop) (h : T_impl_areAlike a_Wide a_High a_Lights_a a_Lights_n a_Lights_e b_Wide b_High b_Lights_a b_Lights_n b_Lights_e H fun (r1 : Bool) (H' : AHeap) => K (.bool r1) H') : bodyK Try.prog E_impl_areAlike Try.f138 [.agg #[.int .i64 a_Wide, .int .i64 a_High, .slice a_Lights_a a_Lights_n a_Lights_e], .agg #[.int .i64 b_Wide, .int .i64 b_High, .slice b_Lights_a b_Lights_n b_Lights_e]] H K := by
  rw [impl_areAlike_vc]
  obtain ⟨l_a_Lights, l_b_Lights, i_a_Lights, i_b_Lights, bd_42, bd_43, hk⟩ := h
  obtain rfl := i_a_Lights.eqn
  obtain rfl := i_b_Lights.eqn
  have e : (p_impl_areAlike a_Wide a_High l_a_Lights b_Wide b_High l_b_Lights) = _ := rfl
  have e := e.trans (p_impl_areAlike_eq a_Wide a_High l_a_Lights b_Wide b_High l_b_Lights)
  have g0 := Grow.refl H
  refine Al.intro (fun b_1 H_1 hb_2 hl_3 g_4 o_5 => ?_)
  have l_7 := g_4.1
  have g_8 := g0.trans g_4
  have l_9 := g_8.1
  have w_41 := o_5.lt
  refine Al.intro (fun b_10 H_2 hb_11 hl_12 g_13 o_14 => ?_)
  have l_16 := g_13.1
  have g_17 := g_8.trans g_13
  have l_18 := g_17.1
  have o_19 := o_5.grow g_13
  have w_20 := o_19.lt
  have w_40 := o_14.lt
  refine ⟨a_Wide, a_High, a_Lights_a, l_a_Lights.length, a_Lights_e, (o_19.rdN (Nat.le_of_ble_eq_true rfl)).trans rfl, ?_⟩
  refine T_impl_ValidPicture_i ⟨_, (i_a_Lights.grow g_17), (by first | omega | (simp only [List.length_set, List.length_replicate, List.length_append, List.length_cons, List.length_nil, List.length_take, List.length_drop, marks_length]; done) | (simp only [List.length_set, List.length_replicate, List.length_append, List.length_cons, List.length_nil, List.length_take, List.length_drop, marks_length]; omega)), fun  H_3 g_21  => ?_⟩
  have l_22 := g_21.1
  have g_23 := g_17.trans g_21
  have l_24 := g_23.1
  have o_25 := o_19.grow g_21
  have w_26 := o_25.lt
  have o_27 := o_14.grow g_21
  have w_28 := o_27.lt
  refine Br.intro (fun c_29 => ?_) (fun c_29 => ?_)
  · have e := e.trans (cond_t c_29)
    have c_29' := impl_ValidPicture_t c_29
    refine ⟨b_Wide, b_High, b_Lights_a, l_b_Lights.length, b_Lights_e, (o_27.rdN (Nat.le_of_ble_eq_true rfl)).trans rfl, ?_⟩
    refine T_impl_ValidPicture_i ⟨_, (i_b_Lights.grow g_23), (by first | omega | (simp only [List.length_set, List.length_replicate, List.length_append, List.length_cons, List.length_nil, List.length_take, List.length_drop, marks_length]; done) | (simp only [List.length_set, List.length_replicate, List.length_append, List.length_cons, List.length_nil, List.length_take, List.length_drop, marks_length]; omega)), fun  H_4 g_30  => ?_⟩
    have l_31 := g_30.1
    have g_32 := g_23.trans g_30
    have l_33 := g_32.1
    have o_34 := o_25.grow g_30
    have w_35 := o_34.lt
    have o_36 := o_27.grow g_30
    have w_37 := o_36.lt
    refine Br.intro (fun c_38 => ?_) (fun c_38 => ?_)
    · have e := e.trans (cond_t c_38)
      have c_38' := impl_ValidPicture_t c_38
      refine ⟨a_Wide, (o_34.rdC _).trans rfl, ?_⟩
      refine ⟨b_Wide, (o_36.rdC _).trans rfl, ?_⟩
      refine Br.intro (fun c_39 => ?_) (fun c_39 => ?_)
      · have e := e.trans (cond_t c_39)
        have c_39' := ieq_t c_39
        refine ⟨a_High, (o_34.rdC _).trans rfl, ?_⟩
        refine ⟨b_High, (o_36.rdC _).trans rfl, ?_⟩
        rw [e] at hk
        exact hk  H_4 g_32 
      · have e := e.trans (cond_f c_39)
        have c_39' := ieq_f c_39
        rw [e] at hk
        exact hk  H_4 g_32 
    · have e := e.trans (cond_f c_38)
      rw [e] at hk
      exact hk  H_4 g_32 
  · have e := e.trans (cond_f c_29)
    rw [e] at hk
    exact hk  H_3 g_23 
theorem impl_areAlike_ok : FnOk Try.prog 138 S_impl_areAlike := by
  refine FnOk.body mix_ok E_impl_areAlike_ok Try.func138 rfl (by kernel_rfl) (by kernel_rfl) ?_ ?_ ?_ ?_ ?_
  · intro args H K K' h hk
    simp only [S_impl_areAlike] at *
    unfold F_impl_areAlike at *
    split at hk
    · obtain ⟨l_a_Lights, l_b_Lights, i_a_Lights, i_b_Lights, bd_42, bd_43, k⟩ := hk
      exact ⟨l_a_Lights, l_b_Lights, i_a_Lights, i_b_Lights, bd_42, bd_43, (fun  H' gg  => h _ _ (k  H' gg ))⟩
    · exact hk.elim
  · intro hq; cases hq
  · intro args H K hk
    simp only [S_impl_areAlike] at *
    unfold F_impl_areAlike at *
    split at hk
    · obtain ⟨l_a_Lights, l_b_Lights, i_a_Lights, i_b_Lights, bd_42, bd_43, k⟩ := hk
      exact ⟨_, _, k H (Grow.refl H)⟩
    · exact hk.elim
  · intro _ args H K hk
    simp only [S_impl_areAlike] at *
    unfold F_impl_areAlike at *
    split at hk
    · obtain ⟨l_a_Lights, l_b_Lights, i_a_Lights, i_b_Lights, bd_42, bd_43, k⟩ := hk
      exact ⟨l_a_Lights, l_b_Lights, i_a_Lights, i_b_Lights, bd_42, bd_43, (fun  H' gg  => ⟨gg, k  H' gg ⟩)⟩
    · exact hk.elim
  · have mm := @impl_areAlike_main
    revert mm
    generalize bodyK Try.prog E_impl_areAlike Try.f138 = Q
    intro mm args H K hk
    simp only [S_impl_areAlike] at *
    unfold F_impl_areAlike at *
    split at hk
    · exact mm _ _ _ _ _ _ _ _ _ _ H K hk
    · exact hk.elim
def p_impl_RootNumber (x : Nat) : Nat := ((fnarrow ((p_math_Sqrt (fwide x)))).getD 0)
theorem p_impl_RootNumber_eq (x : Nat) : p_impl_RootNumber x = ((fnarrow ((p_math_Sqrt (fwide x)))).getD 0) := rfl
def T_impl_RootNumber (x : Nat) (H : AHeap) (K : Nat → AHeap → Prop) : Prop := K (p_impl_RootNumber x) H
theorem T_impl_RootNumber_i {x : Nat} {H : AHeap} {K : Nat → AHeap → Prop} (h : K (p_impl_RootNumber x) H) : T_impl_RootNumber x H K := h

/-! impl_RootNumber: function 82 -/
def E_impl_RootNumber : Env := envOf [(120, S_math_Sqrt)]
def F_impl_RootNumber : List Value → AHeap → (Value → AHeap → Prop) → Prop
  | [.float .f32 x], H, K => T_impl_RootNumber x H fun (r1 : Nat) (H' : AHeap) => K (.float .f32 r1) H'
  | _, _, _ => False
def S_impl_RootNumber : FSpec := { F := F_impl_RootNumber, quiet := true, tame := false }
theorem impl_RootNumber_vc (x : Nat) (H : AHeap) (K : Value → AHeap → Prop) : bodyK Try.prog E_impl_RootNumber Try.f82 [.float .f32 x] H K =
  (T_math_Sqrt (fwide x) H fun (r1 : Nat) (H1 : AHeap) => ∃ x1 : Nat, fnarrow r1 = some x1 ∧ K (.float .f32 x1) H1) := by kernel_rfl
theorem E_impl_RootNumber_ok : ∀ g, FnOk Try.prog g (E_impl_RootNumber g) := FnOk.envOf (by
  intro x hx
  simp only [List.mem_cons, List.not_mem_nil, or_false] at hx
  subst hx; exact math_Sqrt_ok)
set_option maxHeartbeats 1000000 in
theorem impl_RootNumber_main (x : Nat) (H : AHeap) (K : Value → AHeap → Prop) (h : T_impl_RootNumber x H fun (r1 : Nat) (H' : AHeap) => K (.float .f32 r1) H') : bodyK Try.prog E_impl_RootNumber Try.f82 [.float .f32 x] H K := by
  rw [impl_RootNumber_vc]
  have hk := h
  unfold T_impl_RootNumber at hk
  have e : (p_impl_RootNumber x) = _ := rfl
  have e := e.trans (p_impl_RootNumber_eq x)
  have g0 := Grow.refl H
  refine T_math_Sqrt_i ?_
  refine ⟨_, opt_get (d := 0) (by exact sqrt_nar _), ?_⟩
  rw [e] at hk
  exact hk
theorem impl_RootNumber_ok : FnOk Try.prog 82 S_impl_RootNumber := by
  refine FnOk.body mix_ok E_impl_RootNumber_ok Try.func82 rfl (by kernel_rfl) (by kernel_rfl) ?_ ?_ ?_ ?_ ?_
  · intro args H K K' h hk
    simp only [S_impl_RootNumber] at *
    unfold F_impl_RootNumber at *
    split at hk
    · have k := hk
      exact h _ _ k
    · exact hk.elim
  · intro _ args H K hk
    simp only [S_impl_RootNumber] at *
    unfold F_impl_RootNumber at *
    split at hk
    · have k := hk
      exact ⟨_, k, fun K' k' => k'⟩
    · exact hk.elim
  · intro args H K hk
    simp only [S_impl_RootNumber] at *
    unfold F_impl_RootNumber at *
    split at hk
    · have k := hk
      exact ⟨_, _, k⟩
    · exact hk.elim
  · intro hq; cases hq
  · have mm := @impl_RootNumber_main
    revert mm
    generalize bodyK Try.prog E_impl_RootNumber Try.f82 = Q
    intro mm args H K hk
    simp only [S_impl_RootNumber] at *
    unfold F_impl_RootNumber at *
    split at hk
    · exact mm _ H K hk
    · exact hk.elim
def p_impl_finite (x : Nat) : Nat × Bool := (bif !(p_impl_IsFinite x) then (0, false) else (x, true))
theorem p_impl_finite_eq (x : Nat) : p_impl_finite x = (bif !(p_impl_IsFinite x) then (0, false) else (x, true)) := rfl
def T_impl_finite (x : Nat) (H : AHeap) (K : Nat → Bool → AHeap → Prop) : Prop := K (p_impl_finite x).1 (p_impl_finite x).2 H

theorem T_impl_finite_i {x : Nat} {H : AHeap} {K : Nat → Bool → AHeap → Prop} (h : K (p_impl_finite x).1 (p_impl_finite x).2 H) : T_impl_finite x H K := h
/-! impl_finite: function 65 -/
def E_impl_finite : Env := envOf [(62, S_impl_IsFinite)]
def F_impl_finite : List Value → AHeap → (Value → AHeap → Prop) → Prop
  | [.float .f32 x], H, K => T_impl_finite x H fun (r1 : Nat) (r2 : Bool) (H' : AHeap) => K (.tuple #[.float .f32 r1, .bool r2]) H'
  | _, _, _ => False
def S_impl_finite : FSpec := { F := F_impl_finite, quiet := true, tame := false }
theorem impl_finite_vc (x : Nat) (H : AHeap) (K : Value → AHeap → Prop) : bodyK Try.prog E_impl_finite Try.f65 [.float .f32 x] H K =
  (T_impl_IsFinite x H fun (r1 : Bool) (H1 : AHeap) => Br (!r1) (K (.tuple #[.float .f32 0, .bool false]) H1) (K (.tuple #[.float .f32 x, .bool true]) H1)) := by kernel_rfl
theorem E_impl_finite_ok : ∀ g, FnOk Try.prog g (E_impl_finite g) := FnOk.envOf (by
  intro x hx
  simp only [List.mem_cons, List.not_mem_nil, or_false] at hx
  subst hx; exact impl_IsFinite_ok)
set_option maxHeartbeats 1000000 in
theorem impl_finite_main (x : Nat) (H : AHeap) (K : Value → AHeap → Prop) (h : T_impl_finite x H fun (r1 : Nat) (r2 : Bool) (H' : AHeap) => K (.tuple #[.float .f32 r1, .bool r2]) H') : bodyK Try.prog E_impl_finite Try.f65 [.float .f32 x] H K := by
  rw [impl_finite_vc]
  simp only [T_impl_IsFinite]
  unfold T_impl_finite p_impl_finite at h
  repeat' (first | exact h | (exfalso; simp_all; done) | (refine ⟨by decide, ?_⟩) | (refine Br.intro (fun hb => ?_) (fun hb => ?_) <;> (try simp only [hb, cond_true, cond_false, Bool.not_true, Bool.not_false] at h)))
theorem impl_finite_ok : FnOk Try.prog 65 S_impl_finite := by
  refine FnOk.body mix_ok E_impl_finite_ok Try.func65 rfl (by kernel_rfl) (by kernel_rfl) ?_ ?_ ?_ ?_ ?_
  · intro args H K K' h hk
    simp only [S_impl_finite] at *
    unfold F_impl_finite at *
    split at hk
    · have k := hk
      exact h _ _ k
    · exact hk.elim
  · intro _ args H K hk
    simp only [S_impl_finite] at *
    unfold F_impl_finite at *
    split at hk
    · have k := hk
      exact ⟨_, k, fun K' k' => k'⟩
    · exact hk.elim
  · intro args H K hk
    simp only [S_impl_finite] at *
    unfold F_impl_finite at *
    split at hk
    · have k := hk
      exact ⟨_, _, k⟩
    · exact hk.elim
  · intro hq; cases hq
  · have mm := @impl_finite_main
    revert mm
    generalize bodyK Try.prog E_impl_finite Try.f65 = Q
    intro mm args H K hk
    simp only [S_impl_finite] at *
    unfold F_impl_finite at *
    split at hk
    · exact mm _ H K hk
    · exact hk.elim
def p_impl_DistanceOf_l1 (a_Wide : Int) (a_High : Int) (l_a_Lights : List Nat) (b_Wide : Int) (b_High : Int) (l_b_Lights : List Nat) : Nat → Nat → Int → Nat × Bool
  | 0, _, _ => (0, false)
  | μ + 1, sum, t17 => (bif decide ((t17 : Int) < (l_a_Lights.length : Int)) then (p_impl_DistanceOf_l1 a_Wide a_High l_a_Lights b_Wide b_High l_b_Lights μ (fadd .f32 sum (fmul .f32 (fsub .f32 (((l_a_Lights).getD (t17 : Int).toNat 0)) (((l_b_Lights).getD (t17 : Int).toNat 0))) (fsub .f32 (((l_a_Lights).getD (t17 : Int).toNat 0)) (((l_b_Lights).getD (t17 : Int).toNat 0))))) (t17 + 1)) else ((p_impl_finite ((p_impl_RootNumber (fdiv .f32 sum (FloatKind.nearest .f32 (l_a_Lights.length : Int)))))).1, (p_impl_finite ((p_impl_RootNumber (fdiv .f32 sum (FloatKind.nearest .f32 (l_a_Lights.length : Int)))))).2))
theorem p_impl_DistanceOf_l1_s (a_Wide : Int) (a_High : Int) (l_a_Lights : List Nat) (b_Wide : Int) (b_High : Int) (l_b_Lights : List Nat) (μ : Nat) (sum : Nat) (t17 : Int) : p_impl_DistanceOf_l1 a_Wide a_High l_a_Lights b_Wide b_High l_b_Lights (μ + 1) sum t17 = (bif decide ((t17 : Int) < (l_a_Lights.length : Int)) then (p_impl_DistanceOf_l1 a_Wide a_High l_a_Lights b_Wide b_High l_b_Lights μ (fadd .f32 sum (fmul .f32 (fsub .f32 (((l_a_Lights).getD (t17 : Int).toNat 0)) (((l_b_Lights).getD (t17 : Int).toNat 0))) (fsub .f32 (((l_a_Lights).getD (t17 : Int).toNat 0)) (((l_b_Lights).getD (t17 : Int).toNat 0))))) (t17 + 1)) else ((p_impl_finite ((p_impl_RootNumber (fdiv .f32 sum (FloatKind.nearest .f32 (l_a_Lights.length : Int)))))).1, (p_impl_finite ((p_impl_RootNumber (fdiv .f32 sum (FloatKind.nearest .f32 (l_a_Lights.length : Int)))))).2)) := rfl
def p_impl_DistanceOf (a_Wide : Int) (a_High : Int) (l_a_Lights : List Nat) (b_Wide : Int) (b_High : Int) (l_b_Lights : List Nat) : Nat × Bool := (bif !(p_impl_areAlike a_Wide a_High l_a_Lights b_Wide b_High l_b_Lights) then (0, false) else (p_impl_DistanceOf_l1 a_Wide a_High l_a_Lights b_Wide b_High l_b_Lights (Int.toNat ((l_a_Lights.length : Int) - (0 : Int)) + 1) 0 (0 : Int)))
theorem p_impl_DistanceOf_eq (a_Wide : Int) (a_High : Int) (l_a_Lights : List Nat) (b_Wide : Int) (b_High : Int) (l_b_Lights : List Nat) : p_impl_DistanceOf a_Wide a_High l_a_Lights b_Wide b_High l_b_Lights = (bif !(p_impl_areAlike a_Wide a_High l_a_Lights b_Wide b_High l_b_Lights) then (0, false) else (p_impl_DistanceOf_l1 a_Wide a_High l_a_Lights b_Wide b_High l_b_Lights (Int.toNat ((l_a_Lights.length : Int) - (0 : Int)) + 1) 0 (0 : Int))) := rfl
def T_impl_DistanceOf (a_Wide : Int) (a_High : Int) (a_Lights_a : Option Addr) (a_Lights_n : Nat) (a_Lights_e : Nat) (b_Wide : Int) (b_High : Int) (b_Lights_a : Option Addr) (b_Lights_n : Nat) (b_Lights_e : Nat) (H : AHeap) (K : Nat → Bool → AHeap → Prop) : Prop := ∃ (l_a_Lights : List Nat), ∃ (l_b_Lights : List Nat), IsL fF H a_Lights_a a_Lights_n l_a_Lights ∧ IsL fF H b_Lights_a b_Lights_n l_b_Lights ∧ l_a_Lights.length < 1073741824 ∧ l_b_Lights.length < 1073741824 ∧ ((∀ H' : AHeap, Grow H H' → K ((p_impl_DistanceOf a_Wide a_High l_a_Lights b_Wide b_High l_b_Lights).1) ((p_impl_DistanceOf a_Wide a_High l_a_Lights b_Wide b_High l_b_Lights).2) H'))
theorem T_impl_DistanceOf_i {a_Wide : Int} {a_High : Int} {a_Lights_a : Option Addr} {a_Lights_n : Nat} {a_Lights_e : Nat} {b_Wide : Int} {b_High : Int} {b_Lights_a : Option Addr} {b_Lights_n : Nat} {b_Lights_e : Nat} {H : AHeap} {K : Nat → Bool → AHeap → Prop} (h : ∃ (l_a_Lights : List Nat), ∃ (l_b_Lights : List Nat), IsL fF H a_Lights_a a_Lights_n l_a_Lights ∧ IsL fF H b_Lights_a b_Lights_n l_b_Lights ∧ l_a_Lights.length < 1073741824 ∧ l_b_Lights.length < 1073741824 ∧ ((∀ H' : AHeap, Grow H H' → K ((p_impl_DistanceOf a_Wide a_High l_a_Lights b_Wide b_High l_b_Lights).1) ((p_impl_DistanceOf a_Wide a_High l_a_Lights b_Wide b_High l_b_Lights).2) H'))) : T_impl_DistanceOf a_Wide a_High a_Lights_a a_Lights_n a_Lights_e b_Wide b_High b_Lights_a b_Lights_n b_Lights_e H K := h

/-! impl_DistanceOf: function 110 -/
def E_impl_DistanceOf : Env := envOf [(138, S_impl_areAlike), (82, S_impl_RootNumber), (65, S_impl_finite)]
def F_impl_DistanceOf : List Value → AHeap → (Value → AHeap → Prop) → Prop
  | [.agg ⟨[.int .i64 a_Wide, .int .i64 a_High, .slice a_Lights_a a_Lights_n a_Lights_e]⟩, .agg ⟨[.int .i64 b_Wide, .int .i64 b_High, .slice b_Lights_a b_Lights_n b_Lights_e]⟩], H, K => T_impl_DistanceOf a_Wide a_High a_Lights_a a_Lights_n a_Lights_e b_Wide b_High b_Lights_a b_Lights_n b_Lights_e H fun (r1 : Nat) (r2 : Bool) (H' : AHeap) => K (.tuple #[.float .f32 r1, .bool r2]) H'
  | _, _, _ => False
def S_impl_DistanceOf : FSpec := { F := F_impl_DistanceOf, quiet := false, tame := true }
theorem impl_DistanceOf_vc (a_Wide : Int) (a_High : Int) (a_Lights_a : Option Addr) (a_Lights_n : Nat) (a_Lights_e : Nat) (b_Wide : Int) (b_High : Int) (b_Lights_a : Option Addr) (b_Lights_n : Nat) (b_Lights_e : Nat) (H : AHeap) (K : Value → AHeap → Prop) : bodyK Try.prog E_impl_DistanceOf Try.f110 [.agg #[.int .i64 a_Wide, .int .i64 a_High, .slice a_Lights_a a_Lights_n a_Lights_e], .agg #[.int .i64 b_Wide, .int .i64 b_High, .slice b_Lights_a b_Lights_n b_Lights_e]] H K =
  (Al [.int .i64 a_Wide, .int .i64 a_High, .slice a_Lights_a a_Lights_n a_Lights_e] H fun b1 H1 => Al [.int .i64 b_Wide, .int .i64 b_High, .slice b_Lights_a b_Lights_n b_Lights_e] H1 fun b2 H2 => ∃ c1 : Int, ∃ c2 : Int, ∃ c3_a : Option Addr, ∃ c3_n : Nat, ∃ c3_e : Nat,  rdN H2 b1 0 3 = some [.int .i64 c1, .int .i64 c2, .slice c3_a c3_n c3_e] ∧ ∃ c4 : Int, ∃ c5 : Int, ∃ c6_a : Option Addr, ∃ c6_n : Nat, ∃ c6_e : Nat,  rdN H2 b2 0 3 = some [.int .i64 c4, .int .i64 c5, .slice c6_a c6_n c6_e] ∧ T_impl_areAlike c1 c2 c3_a c3_n c3_e c4 c5 c6_a c6_n c6_e H2 fun (r1 : Bool) (H3 : AHeap) => Br (!r1) (K (.tuple #[.float .f32 0, .bool false]) H3) (∃ x1_a : Option Addr, ∃ x1_n : Nat, ∃ x1_e : Nat,  rdC H3 b1 2 = some (.slice x1_a x1_n x1_e) ∧ loopK (exK Try.prog E_impl_DistanceOf (cl (cl (cr (cl (cr (cr (cr (bodyC Try.f110))))))))) [.agg #[.int .i64 a_Wide, .int .i64 a_High, .slice a_Lights_a a_Lights_n a_Lights_e], .agg #[.int .i64 b_Wide, .int .i64 b_High, .slice b_Lights_a b_Lights_n b_Lights_e], .pointer (some ⟨b1, 0, none⟩), .pointer (some ⟨b2, 0, none⟩), .float .f32 0, .bool false, .float .f32 0, undef, undef, undef, .agg #[.int .i64 c1, .int .i64 c2, .slice c3_a c3_n c3_e], .agg #[.int .i64 c4, .int .i64 c5, .slice c6_a c6_n c6_e], .bool r1, .bool (!r1), .pointer (some ⟨b1, 2, none⟩), .slice x1_a x1_n x1_e, .int .i64 (x1_n : Int), .int .i64 0, undef, undef, undef, undef, undef, undef, undef, undef, undef, undef, undef, undef, undef, undef, undef, undef, undef, undef, undef, undef, undef, undef, undef, undef, undef, undef, undef] H3 (blockQ 0 (seqQ (exK Try.prog E_impl_DistanceOf (cr (cr (cr (cr (bodyC Try.f110)))))) (retK Try.prog Try.f110 K))))) := by kernel_rfl
theorem impl_DistanceOf_r1 (a_High : Int) (a_Lights_a : Option Addr) (a_Lights_e : Nat) (a_Lights_n : Nat) (a_Wide : Int) (b1 : Nat) (b2 : Nat) (b_High : Int) (b_Lights_a : Option Addr) (b_Lights_e : Nat) (b_Lights_n : Nat) (b_Wide : Int) (c1 : Int) (c2 : Int) (c3_a : Option Addr) (c3_e : Nat) (c3_n : Nat) (c4 : Int) (c5 : Int) (c6_a : Option Addr) (c6_e : Nat) (c6_n : Nat) (r1 : Bool) (x1_a : Option Addr) (x1_e : Nat) (x1_n : Nat) (sum : Nat) (t17 : Int) (g7 g8 g9 g18 g19 g20 g21 g22 g23 g24 g25 g26 g27 g28 g29 g30 g31 g32 g33 g34 : Value) (H : AHeap) (R : Post) : exK Try.prog E_impl_DistanceOf (cl (cl (cr (cl (cr (cr (cr (bodyC Try.f110)))))))) [.agg #[.int .i64 a_Wide, .int .i64 a_High, .slice a_Lights_a a_Lights_n a_Lights_e], .agg #[.int .i64 b_Wide, .int .i64 b_High, .slice b_Lights_a b_Lights_n b_Lights_e], .pointer (some ⟨b1, 0, none⟩), .pointer (some ⟨b2, 0, none⟩), .float .f32 0, .bool false, .float .f32 sum, g7, g8, g9, .agg #[.int .i64 c1, .int .i64 c2, .slice c3_a c3_n c3_e], .agg #[.int .i64 c4, .int .i64 c5, .slice c6_a c6_n c6_e], .bool r1, .bool (!r1), .pointer (some ⟨b1, 2, none⟩), .slice x1_a x1_n x1_e, .int .i64 (x1_n : Int), .int .i64 t17, g18, g19, g20, g21, g22, g23, g24, g25, g26, g27, g28, g29, g30, g31, g32, g33, g34, undef, undef, undef, undef, undef, undef, undef, undef, undef, undef] H R =
  (Br (decide ((t17 : Int) < (x1_n : Int))) ((0 : Int) ≤ t17 ∧ t17 < (x1_n : Int) ∧ ∃ b3 f1, (x1_a : Option Addr) = some ⟨b3, f1, none⟩ ∧ ∃ x2 : Nat,  rdC H b3 (f1 + (t17 : Int).toNat * 1) = some (.float .f32 x2) ∧ ∃ x3_a : Option Addr, ∃ x3_n : Nat, ∃ x3_e : Nat,  rdC H b2 2 = some (.slice x3_a x3_n x3_e) ∧ (0 : Int) ≤ t17 ∧ t17 < (x3_n : Int) ∧ ∃ b4 f2, (x3_a : Option Addr) = some ⟨b4, f2, none⟩ ∧ ∃ x4 : Nat,  rdC H b4 (f2 + (t17 : Int).toNat * 1) = some (.float .f32 x4) ∧ R .normal [.agg #[.int .i64 a_Wide, .int .i64 a_High, .slice a_Lights_a a_Lights_n a_Lights_e], .agg #[.int .i64 b_Wide, .int .i64 b_High, .slice b_Lights_a b_Lights_n b_Lights_e], .pointer (some ⟨b1, 0, none⟩), .pointer (some ⟨b2, 0, none⟩), .float .f32 0, .bool false, .float .f32 (fadd .f32 sum (fmul .f32 (fsub .f32 x2 x4) (fsub .f32 x2 x4))), .int .i64 t17, .float .f32 x2, .float .f32 (fsub .f32 x2 x4), .agg #[.int .i64 c1, .int .i64 c2, .slice c3_a c3_n c3_e], .agg #[.int .i64 c4, .int .i64 c5, .slice c6_a c6_n c6_e], .bool r1, .bool (!r1), .pointer (some ⟨b1, 2, none⟩), .slice x1_a x1_n x1_e, .int .i64 (x1_n : Int), .int .i64 (IntKind.wrap .i64 (t17 + 1)), .bool (decide ((t17 : Int) < (x1_n : Int))), .int .i64 t17, .pointer (some ⟨b3, f1 + (t17 : Int).toNat * 1, none⟩), .float .f32 x2, .float .f32 x2, .pointer (some ⟨b2, 2, none⟩), .slice x3_a x3_n x3_e, .int .i64 t17, .pointer (some ⟨b4, f2 + (t17 : Int).toNat * 1, none⟩), .float .f32 x4, .float .f32 (fsub .f32 x2 x4), .float .f32 sum, .float .f32 (fsub .f32 x2 x4), .float .f32 (fsub .f32 x2 x4), .float .f32 (fmul .f32 (fsub .f32 x2 x4) (fsub .f32 x2 x4)), .float .f32 (fadd .f32 sum (fmul .f32 (fsub .f32 x2 x4) (fsub .f32 x2 x4))), .int .i64 (IntKind.wrap .i64 (t17 + 1)), undef, undef, undef, undef, undef, undef, undef, undef, undef, undef] H) (R (.exit 0) [.agg #[.int .i64 a_Wide, .int .i64 a_High, .slice a_Lights_a a_Lights_n a_Lights_e], .agg #[.int .i64 b_Wide, .int .i64 b_High, .slice b_Lights_a b_Lights_n b_Lights_e], .pointer (some ⟨b1, 0, none⟩), .pointer (some ⟨b2, 0, none⟩), .float .f32 0, .bool false, .float .f32 sum, g7, g8, g9, .agg #[.int .i64 c1, .int .i64 c2, .slice c3_a c3_n c3_e], .agg #[.int .i64 c4, .int .i64 c5, .slice c6_a c6_n c6_e], .bool r1, .bool (!r1), .pointer (some ⟨b1, 2, none⟩), .slice x1_a x1_n x1_e, .int .i64 (x1_n : Int), .int .i64 t17, .bool (decide ((t17 : Int) < (x1_n : Int))), g19, g20, g21, g22, g23, g24, g25, g26, g27, g28, g29, g30, g31, g32, g33, g34, undef, undef, undef, undef, undef, undef, undef, undef, undef, undef] H)) := by kernel_rfl
def impl_DistanceOf_I1 (a_High : Int) (a_Lights_a : Option Addr) (a_Lights_e : Nat) (a_Lights_n : Nat) (a_Wide : Int) (b1 : Nat) (b2 : Nat) (b_High : Int) (b_Lights_a : Option Addr) (b_Lights_e : Nat) (b_Lights_n : Nat) (b_Wide : Int) (c1 : Int) (c2 : Int) (c3_a : Option Addr) (c3_e : Nat) (c3_n : Nat) (c4 : Int) (c5 : Int) (c6_a : Option Addr) (c6_e : Nat) (c6_n : Nat) (r1 : Bool) (x1_a : Option Addr) (x1_e : Nat) (x1_n : Nat) (Inv : Nat → Nat → Int → AHeap → Prop) : Nat → List Value → AHeap → Prop := fun μ tm H => ∃ (sum : Nat), ∃ (t17 : Int), ∃ g7 g8 g9 g18 g19 g20 g21 g22 g23 g24 g25 g26 g27 g28 g29 g30 g31 g32 g33 g34, tm = [.agg #[.int .i64 a_Wide, .int .i64 a_High, .slice a_Lights_a a_Lights_n a_Lights_e], .agg #[.int .i64 b_Wide, .int .i64 b_High, .slice b_Lights_a b_Lights_n b_Lights_e], .pointer (some ⟨b1, 0, none⟩), .pointer (some ⟨b2, 0, none⟩), .float .f32 0, .bool false, .float .f32 sum, g7, g8, g9, .agg #[.int .i64 c1, .int .i64 c2, .slice c3_a c3_n c3_e], .agg #[.int .i64 c4, .int .i64 c5, .slice c6_a c6_n c6_e], .bool r1, .bool (!r1), .pointer (some ⟨b1, 2, none⟩), .slice x1_a x1_n x1_e, .int .i64 (x1_n : Int), .int .i64 t17, g18, g19, g20, g21, g22, g23, g24, g25, g26, g27, g28, g29, g30, g31, g32, g33, g34, undef, undef, undef, undef, undef, undef, undef, undef, undef, undef] ∧ Inv μ sum t17 H
theorem impl_DistanceOf_L1 (a_High : Int) (a_Lights_a : Option Addr) (a_Lights_e : Nat) (a_Lights_n : Nat) (a_Wide : Int) (b1 : Nat) (b2 : Nat) (b_High : Int) (b_Lights_a : Option Addr) (b_Lights_e : Nat) (b_Lights_n : Nat) (b_Wide : Int) (c1 : Int) (c2 : Int) (c3_a : Option Addr) (c3_e : Nat) (c3_n : Nat) (c4 : Int) (c5 : Int) (c6_a : Option Addr) (c6_e : Nat) (c6_n : Nat) (r1 : Bool) (x1_a : Option Addr) (x1_e : Nat) (x1_n : Nat) {Q : Post} (Inv : Nat → Nat → Int → AHeap → Prop) (ν : Nat) (sum : Nat) (t17 : Int) (g7 g8 g9 g18 g19 g20 g21 g22 g23 g24 g25 g26 g27 g28 g29 g30 g31 g32 g33 g34 : Value) (H : AHeap) (h0 : Inv ν sum t17 H)
    (hs : ∀ (μ : Nat) (sum : Nat) (t17 : Int) (g7 g8 g9 g18 g19 g20 g21 g22 g23 g24 g25 g26 g27 g28 g29 g30 g31 g32 g33 g34 : Value) (H : AHeap), Inv μ sum t17 H → exK Try.prog E_impl_DistanceOf (cl (cl (cr (cl (cr (cr (cr (bodyC Try.f110)))))))) [.agg #[.int .i64 a_Wide, .int .i64 a_High, .slice a_Lights_a a_Lights_n a_Lights_e], .agg #[.int .i64 b_Wide, .int .i64 b_High, .slice b_Lights_a b_Lights_n b_Lights_e], .pointer (some ⟨b1, 0, none⟩), .pointer (some ⟨b2, 0, none⟩), .float .f32 0, .bool false, .float .f32 sum, g7, g8, g9, .agg #[.int .i64 c1, .int .i64 c2, .slice c3_a c3_n c3_e], .agg #[.int .i64 c4, .int .i64 c5, .slice c6_a c6_n c6_e], .bool r1, .bool (!r1), .pointer (some ⟨b1, 2, none⟩), .slice x1_a x1_n x1_e, .int .i64 (x1_n : Int), .int .i64 t17, g18, g19, g20, g21, g22, g23, g24, g25, g26, g27, g28, g29, g30, g31, g32, g33, g34, undef, undef, undef, undef, undef, undef, undef, undef, undef, undef] H (loopQ (impl_DistanceOf_I1 a_High a_Lights_a a_Lights_e a_Lights_n a_Wide b1 b2 b_High b_Lights_a b_Lights_e b_Lights_n b_Wide c1 c2 c3_a c3_e c3_n c4 c5 c6_a c6_e c6_n r1 x1_a x1_e x1_n Inv) μ Q)) : loopK (exK Try.prog E_impl_DistanceOf (cl (cl (cr (cl (cr (cr (cr (bodyC Try.f110))))))))) [.agg #[.int .i64 a_Wide, .int .i64 a_High, .slice a_Lights_a a_Lights_n a_Lights_e], .agg #[.int .i64 b_Wide, .int .i64 b_High, .slice b_Lights_a b_Lights_n b_Lights_e], .pointer (some ⟨b1, 0, none⟩), .pointer (some ⟨b2, 0, none⟩), .float .f32 0, .bool false, .float .f32 sum, g7, g8, g9, .agg #[.int .i64 c1, .int .i64 c2, .slice c3_a c3_n c3_e], .agg #[.int .i64 c4, .int .i64 c5, .slice c6_a c6_n c6_e], .bool r1, .bool (!r1), .pointer (some ⟨b1, 2, none⟩), .slice x1_a x1_n x1_e, .int .i64 (x1_n : Int), .int .i64 t17, g18, g19, g20, g21, g22, g23, g24, g25, g26, g27, g28, g29, g30, g31, g32, g33, g34, undef, undef, undef, undef, undef, undef, undef, undef, undef, undef] H Q :=
  ⟨impl_DistanceOf_I1 a_High a_Lights_a a_Lights_e a_Lights_n a_Wide b1 b2 b_High b_Lights_a b_Lights_e b_Lights_n b_Wide c1 c2 c3_a c3_e c3_n c4 c5 c6_a c6_e c6_n r1 x1_a x1_e x1_n Inv, ν, ⟨sum, t17, g7, g8, g9, g18, g19, g20, g21, g22, g23, g24, g25, g26, g27, g28, g29, g30, g31, g32, g33, g34, rfl, h0⟩, fun μ tm H h => by obtain ⟨sum, t17, g7, g8, g9, g18, g19, g20, g21, g22, g23, g24, g25, g26, g27, g28, g29, g30, g31, g32, g33, g34, rfl, hI⟩ := h; exact hs μ sum t17 g7 g8 g9 g18 g19 g20 g21 g22 g23 g24 g25 g26 g27 g28 g29 g30 g31 g32 g33 g34 H hI⟩
theorem impl_DistanceOf_n1 {a_High : Int} {a_Lights_a : Option Addr} {a_Lights_e : Nat} {a_Lights_n : Nat} {a_Wide : Int} {b1 : Nat} {b2 : Nat} {b_High : Int} {b_Lights_a : Option Addr} {b_Lights_e : Nat} {b_Lights_n : Nat} {b_Wide : Int} {c1 : Int} {c2 : Int} {c3_a : Option Addr} {c3_e : Nat} {c3_n : Nat} {c4 : Int} {c5 : Int} {c6_a : Option Addr} {c6_e : Nat} {c6_n : Nat} {r1 : Bool} {x1_a : Option Addr} {x1_e : Nat} {x1_n : Nat} {Q : Post} {Inv : Nat → Nat → Int → AHeap → Prop} {μ : Nat} (μ' : Nat) {sum : Nat} {t17 : Int} {g7 g8 g9 g18 g19 g20 g21 g22 g23 g24 g25 g26 g27 g28 g29 g30 g31 g32 g33 g34 : Value} {H : AHeap} (hm : μ' < μ) (hI : Inv μ' sum t17 H) : loopQ (impl_DistanceOf_I1 a_High a_Lights_a a_Lights_e a_Lights_n a_Wide b1 b2 b_High b_Lights_a b_Lights_e b_Lights_n b_Wide c1 c2 c3_a c3_e c3_n c4 c5 c6_a c6_e c6_n r1 x1_a x1_e x1_n Inv) μ Q .normal [.agg #[.int .i64 a_Wide, .int .i64 a_High, .slice a_Lights_a a_Lights_n a_Lights_e], .agg #[.int .i64 b_Wide, .int .i64 b_High, .slice b_Lights_a b_Lights_n b_Lights_e], .pointer (some ⟨b1, 0, none⟩), .pointer (some ⟨b2, 0, none⟩), .float .f32 0, .bool false, .float .f32 sum, g7, g8, g9, .agg #[.int .i64 c1, .int .i64 c2, .slice c3_a c3_n c3_e], .agg #[.int .i64 c4, .int .i64 c5, .slice c6_a c6_n c6_e], .bool r1, .bool (!r1), .pointer (some ⟨b1, 2, none⟩), .slice x1_a x1_n x1_e, .int .i64 (x1_n : Int), .int .i64 t17, g18, g19, g20, g21, g22, g23, g24, g25, g26, g27, g28, g29, g30, g31, g32, g33, g34, undef, undef, undef, undef, undef, undef, undef, undef, undef, undef] H := ⟨μ', hm, sum, t17, g7, g8, g9, g18, g19, g20, g21, g22, g23, g24, g25, g26, g27, g28, g29, g30, g31, g32, g33, g34, rfl, hI⟩
theorem impl_DistanceOf_x1_0 (a_High : Int) (a_Lights_a : Option Addr) (a_Lights_e : Nat) (a_Lights_n : Nat) (a_Wide : Int) (b1 : Nat) (b2 : Nat) (b_High : Int) (b_Lights_a : Option Addr) (b_Lights_e : Nat) (b_Lights_n : Nat) (b_Wide : Int) (c1 : Int) (c2 : Int) (c3_a : Option Addr) (c3_e : Nat) (c3_n : Nat) (c4 : Int) (c5 : Int) (c6_a : Option Addr) (c6_e : Nat) (c6_n : Nat) (r1 : Bool) (x1_a : Option Addr) (x1_e : Nat) (x1_n : Nat) (sum : Nat) (t17 : Int) (g7 g8 g9 g18 g19 g20 g21 g22 g23 g24 g25 g26 g27 g28 g29 g30 g31 g32 g33 g34 : Value) (H : AHeap) (K : Value → AHeap → Prop)  {I : Nat → List Value → AHeap → Prop} {μ : Nat} : loopQ I μ (blockQ 0 (seqQ (exK Try.prog E_impl_DistanceOf (cr (cr (cr (cr (bodyC Try.f110)))))) (retK Try.prog Try.f110 K))) (.exit 0) [.agg #[.int .i64 a_Wide, .int .i64 a_High, .slice a_Lights_a a_Lights_n a_Lights_e], .agg #[.int .i64 b_Wide, .int .i64 b_High, .slice b_Lights_a b_Lights_n b_Lights_e], .pointer (some ⟨b1, 0, none⟩), .pointer (some ⟨b2, 0, none⟩), .float .f32 0, .bool false, .float .f32 sum, g7, g8, g9, .agg #[.int .i64 c1, .int .i64 c2, .slice c3_a c3_n c3_e], .agg #[.int .i64 c4, .int .i64 c5, .slice c6_a c6_n c6_e], .bool r1, .bool (!r1), .pointer (some ⟨b1, 2, none⟩), .slice x1_a x1_n x1_e, .int .i64 (x1_n : Int), .int .i64 t17, g18, g19, g20, g21, g22, g23, g24, g25, g26, g27, g28, g29, g30, g31, g32, g33, g34, undef, undef, undef, undef, undef, undef, undef, undef, undef, undef] H =
  (∃ x5_a : Option Addr, ∃ x5_n : Nat, ∃ x5_e : Nat,  rdC H b1 2 = some (.slice x5_a x5_n x5_e) ∧ T_impl_RootNumber (fdiv .f32 sum (FloatKind.nearest .f32 (x5_n : Int))) H fun (r2 : Nat) (H4 : AHeap) => T_impl_finite r2 H4 fun (r3 : Nat) (r4 : Bool) (H5 : AHeap) => K (.tuple #[.float .f32 r3, .bool r4]) H5) := by kernel_rfl
theorem E_impl_DistanceOf_ok : ∀ g, FnOk Try.prog g (E_impl_DistanceOf g) := FnOk.envOf (by
  intro x hx
  simp only [List.mem_cons, List.not_mem_nil, or_false] at hx
  rcases hx with rfl | rfl | rfl
  · exact impl_areAlike_ok
  · exact impl_RootNumber_ok
  · exact impl_finite_ok)
set_option maxHeartbeats 1000000 in
theorem impl_DistanceOf_main (a_Wide : Int) (a_High : Int) (a_Lights_a : Option Addr) (a_Lights_n : Nat) (a_Lights_e : Nat) (b_Wide : Int) (b_High : Int) (b_Lights_a : Option Addr) (b_Lights_n : Nat) (b_Lights_e : Nat) (H : AHeap) (K : Value → AHeap → Prop) (h : T_impl_DistanceOf a_Wide a_High a_Lights_a a_Lights_n a_Lights_e b_Wide b_High b_Lights_a b_Lights_n b_Lights_e H fun (r1 : Nat) (r2 : Bool) (H' : AHeap) => K (.tuple #[.float .f32 r1, .bool r2]) H') : bodyK Try.prog E_impl_DistanceOf Try.f110 [.agg #[.int .i64 a_Wide, .int .i64 a_High, .slice a_Lights_a a_Lights_n a_Lights_e], .agg #[.int .i64 b_Wide, .int .i64 b_High, .slice b_Lights_a b_Lights_n b_Lights_e]] H K := by
  rw [impl_DistanceOf_vc]
  obtain ⟨l_a_Lights, l_b_Lights, i_a_Lights, i_b_Lights, bd_44, bd_45, hk⟩ := h
  obtain rfl := i_a_Lights.eqn
  obtain rfl := i_b_Lights.eqn
  have e : (p_impl_DistanceOf a_Wide a_High l_a_Lights b_Wide b_High l_b_Lights) = _ := rfl
  have e := e.trans (p_impl_DistanceOf_eq a_Wide a_High l_a_Lights b_Wide b_High l_b_Lights)
  have g0 := Grow.refl H
  refine Al.intro (fun b_1 H_1 hb_2 hl_3 g_4 o_5 => ?_)
  have l_7 := g_4.1
  have g_8 := g0.trans g_4
  have l_9 := g_8.1
  have w_43 := o_5.lt
  refine Al.intro (fun b_10 H_2 hb_11 hl_12 g_13 o_14 => ?_)
  have l_16 := g_13.1
  have g_17 := g_8.trans g_13
  have l_18 := g_17.1
  have o_19 := o_5.grow g_13
  have w_20 := o_19.lt
  have w_42 := o_14.lt
  refine ⟨a_Wide, a_High, a_Lights_a, l_a_Lights.length, a_Lights_e, (o_19.rdN (Nat.le_of_ble_eq_true rfl)).trans rfl, ?_⟩
  refine ⟨b_Wide, b_High, b_Lights_a, l_b_Lights.length, b_Lights_e, (o_14.rdN (Nat.le_of_ble_eq_true rfl)).trans rfl, ?_⟩
  refine T_impl_areAlike_i ⟨_, _, (i_a_Lights.grow g_17), (i_b_Lights.grow g_17), (by first | omega | (simp only [List.length_set, List.length_replicate, List.length_append, List.length_cons, List.length_nil, List.length_take, List.length_drop, marks_length]; done) | (simp only [List.length_set, List.length_replicate, List.length_append, List.length_cons, List.length_nil, List.length_take, List.length_drop, marks_length]; omega)), (by first | omega | (simp only [List.length_set, List.length_replicate, List.length_append, List.length_cons, List.length_nil, List.length_take, List.length_drop, marks_length]; done) | (simp only [List.length_set, List.length_replicate, List.length_append, List.length_cons, List.length_nil, List.length_take, List.length_drop, marks_length]; omega)), fun  H_3 g_21  => ?_⟩
  have l_22 := g_21.1
  have g_23 := g_17.trans g_21
  have l_24 := g_23.1
  have o_25 := o_19.grow g_21
  have w_26 := o_25.lt
  have o_27 := o_14.grow g_21
  have w_28 := o_27.lt
  refine Br.intro (fun c_29 => ?_) (fun c_29 => ?_)
  · have e := e.trans (cond_t c_29)
    have c_29n := nf_of_t c_29
    rw [e] at hk
    exact hk  H_3 g_23 
  · have e := e.trans (cond_f c_29)
    have c_29n := nt_of_f c_29
    have c_29n' := impl_areAlike_t c_29n
    refine ⟨a_Lights_a, l_a_Lights.length, a_Lights_e, (o_25.rdC _).trans rfl, ?_⟩
    refine impl_DistanceOf_L1 _ _ _ _ _ _ _ _ _ _ _ _ _ _ _ _ _ _ _ _ _ _ _ _ _ _ (fun (μ : Nat) (sum : Nat) (t17 : Int) (H_4 : AHeap) => H_3 = H_4 ∧ (0 : Int) ≤ t17 ∧ t17 ≤ (l_a_Lights.length : Int) ∧ (l_a_Lights.length : Int) - t17 ≤ (μ : Int) ∧ p_impl_DistanceOf a_Wide a_High l_a_Lights b_Wide b_High l_b_Lights = p_impl_DistanceOf_l1 a_Wide a_High l_a_Lights b_Wide b_High l_b_Lights (μ + 1) sum t17) (Int.toNat ((l_a_Lights.length : Int) - (0 : Int))) _ _ _ _ _ _ _ _ _ _ _ _ _ _ _ _ _ _ _ _ _ _ H_3 ?_ ?_
    · exact ⟨rfl, (by first | omega | (simp; done) | (simp; omega)), (by first | omega | (simp; done) | (simp; omega)), (by omega), e⟩
    · intro μ sum t17 g7 g8 g9 g18 g19 g20 g21 g22 g23 g24 g25 g26 g27 g28 g29 g30 g31 g32 g33 g34 H_4 hI
      obtain ⟨rfl, v_30, v_31, hμ, e⟩ := hI
      rw [impl_DistanceOf_r1]
      have e := e.trans (p_impl_DistanceOf_l1_s a_Wide a_High l_a_Lights b_Wide b_High l_b_Lights μ sum t17)
      have w_32 := o_25.lt
      have w_33 := o_27.lt
      have l_34 := g_23.1
      refine Br.intro (fun c_35 => ?_) (fun c_35 => ?_)
      · have e := e.trans (cond_t c_35)
        have c_35' := of_decide_eq_true c_35
        obtain ⟨b_36, f_37, q_38⟩ := ((i_a_Lights.grow g_23)).pos (by first | omega | (simp only [List.length_set, List.length_replicate, List.length_append, List.length_cons, List.length_nil, List.length_take, List.length_drop, marks_length]; done) | (simp only [List.length_set, List.length_replicate, List.length_append, List.length_cons, List.length_nil, List.length_take, List.length_drop, marks_length]; omega))
        refine ⟨by omega, by omega, b_36, f_37, q_38, ?_⟩
        refine ⟨((l_a_Lights).getD (t17 : Int).toNat 0), (i_a_Lights).rd g_23 q_38 (by omega) _, ?_⟩
        refine ⟨b_Lights_a, l_b_Lights.length, b_Lights_e, (o_27.rdC _).trans rfl, ?_⟩
        obtain ⟨b_39, f_40, q_41⟩ := ((i_b_Lights.grow g_23)).pos (by first | omega | (simp only [List.length_set, List.length_replicate, List.length_append, List.length_cons, List.length_nil, List.length_take, List.length_drop, marks_length]; done) | (simp only [List.length_set, List.length_replicate, List.length_append, List.length_cons, List.length_nil, List.length_take, List.length_drop, marks_length]; omega))
        refine ⟨by omega, by omega, b_39, f_40, q_41, ?_⟩
        refine ⟨((l_b_Lights).getD (t17 : Int).toNat 0), (i_b_Lights).rd g_23 q_41 (by omega) _, ?_⟩
        rw [show IntKind.wrap .i64 (t17 + 1) = (t17 + 1) from wrap64 (by omega) (by omega)]
        refine impl_DistanceOf_n1 (μ - 1) (by first | omega) ⟨rfl, (by first | omega | (simp only [List.length_append, List.length_cons, List.length_nil, List.length_set]; done) | (simp only [List.length_append, List.length_cons, List.length_nil, List.length_set]; omega)), (by first | omega | (simp only [List.length_append, List.length_cons, List.length_nil, List.length_set]; done) | (simp only [List.length_append, List.length_cons, List.length_nil, List.length_set]; omega)), (by first | omega), (by rw [show μ - 1 + 1 = μ from by first | omega]; exact e)⟩
      · have e := e.trans (cond_f c_35)
        have c_35' := of_decide_eq_false c_35
        rw [impl_DistanceOf_x1_0]
        refine ⟨a_Lights_a, l_a_Lights.length, a_Lights_e, (o_25.rdC _).trans rfl, ?_⟩
        refine T_impl_RootNumber_i ?_
        refine T_impl_finite_i ?_
        rw [e] at hk
        exact hk  H_3 g_23 
theorem impl_DistanceOf_ok : FnOk Try.prog 110 S_impl_DistanceOf := by
  refine FnOk.body mix_ok E_impl_DistanceOf_ok Try.func110 rfl (by kernel_rfl) (by kernel_rfl) ?_ ?_ ?_ ?_ ?_
  · intro args H K K' h hk
    simp only [S_impl_DistanceOf] at *
    unfold F_impl_DistanceOf at *
    split at hk
    · obtain ⟨l_a_Lights, l_b_Lights, i_a_Lights, i_b_Lights, bd_44, bd_45, k⟩ := hk
      exact ⟨l_a_Lights, l_b_Lights, i_a_Lights, i_b_Lights, bd_44, bd_45, (fun  H' gg  => h _ _ (k  H' gg ))⟩
    · exact hk.elim
  · intro hq; cases hq
  · intro args H K hk
    simp only [S_impl_DistanceOf] at *
    unfold F_impl_DistanceOf at *
    split at hk
    · obtain ⟨l_a_Lights, l_b_Lights, i_a_Lights, i_b_Lights, bd_44, bd_45, k⟩ := hk
      exact ⟨_, _, k H (Grow.refl H)⟩
    · exact hk.elim
  · intro _ args H K hk
    simp only [S_impl_DistanceOf] at *
    unfold F_impl_DistanceOf at *
    split at hk
    · obtain ⟨l_a_Lights, l_b_Lights, i_a_Lights, i_b_Lights, bd_44, bd_45, k⟩ := hk
      exact ⟨l_a_Lights, l_b_Lights, i_a_Lights, i_b_Lights, bd_44, bd_45, (fun  H' gg  => ⟨gg, k  H' gg ⟩)⟩
    · exact hk.elim
  · have mm := @impl_DistanceOf_main
    revert mm
    generalize bodyK Try.prog E_impl_DistanceOf Try.f110 = Q
    intro mm args H K hk
    simp only [S_impl_DistanceOf] at *
    unfold F_impl_DistanceOf at *
    split at hk
    · exact mm _ _ _ _ _ _ _ _ _ _ H K hk
    · exact hk.elim
def p_impl_isOver (x : Nat) : Bool := (bif (p_impl_IsFinite x) then flt .f32 0 x else false)
theorem p_impl_isOver_eq (x : Nat) : p_impl_isOver x = (bif (p_impl_IsFinite x) then flt .f32 0 x else false) := rfl
def T_impl_isOver (x : Nat) (H : AHeap) (K : Bool → AHeap → Prop) : Prop := K (p_impl_isOver x) H

theorem T_impl_isOver_i {x : Nat} {H : AHeap} {K : Bool → AHeap → Prop} (h : K (p_impl_isOver x) H) : T_impl_isOver x H K := h
/-! impl_isOver: function 63 -/
def E_impl_isOver : Env := envOf [(62, S_impl_IsFinite)]
def F_impl_isOver : List Value → AHeap → (Value → AHeap → Prop) → Prop
  | [.float .f32 x], H, K => T_impl_isOver x H fun (r1 : Bool) (H' : AHeap) => K (.bool r1) H'
  | _, _, _ => False
def S_impl_isOver : FSpec := { F := F_impl_isOver, quiet := true, tame := false }
theorem impl_isOver_vc (x : Nat) (H : AHeap) (K : Value → AHeap → Prop) : bodyK Try.prog E_impl_isOver Try.f63 [.float .f32 x] H K =
  (T_impl_IsFinite x H fun (r1 : Bool) (H1 : AHeap) => Br r1 (K (.bool (flt .f32 0 x)) H1) (K (.bool false) H1)) := by kernel_rfl
theorem E_impl_isOver_ok : ∀ g, FnOk Try.prog g (E_impl_isOver g) := FnOk.envOf (by
  intro x hx
  simp only [List.mem_cons, List.not_mem_nil, or_false] at hx
  subst hx; exact impl_IsFinite_ok)
set_option maxHeartbeats 1000000 in
theorem impl_isOver_main (x : Nat) (H : AHeap) (K : Value → AHeap → Prop) (h : T_impl_isOver x H fun (r1 : Bool) (H' : AHeap) => K (.bool r1) H') : bodyK Try.prog E_impl_isOver Try.f63 [.float .f32 x] H K := by
  rw [impl_isOver_vc]
  simp only [T_impl_IsFinite]
  unfold T_impl_isOver p_impl_isOver at h
  repeat' (first | exact h | (exfalso; simp_all; done) | (refine ⟨by decide, ?_⟩) | (refine Br.intro (fun hb => ?_) (fun hb => ?_) <;> (try simp only [hb, cond_true, cond_false, Bool.not_true, Bool.not_false] at h)))
theorem impl_isOver_ok : FnOk Try.prog 63 S_impl_isOver := by
  refine FnOk.body mix_ok E_impl_isOver_ok Try.func63 rfl (by kernel_rfl) (by kernel_rfl) ?_ ?_ ?_ ?_ ?_
  · intro args H K K' h hk
    simp only [S_impl_isOver] at *
    unfold F_impl_isOver at *
    split at hk
    · have k := hk
      exact h _ _ k
    · exact hk.elim
  · intro _ args H K hk
    simp only [S_impl_isOver] at *
    unfold F_impl_isOver at *
    split at hk
    · have k := hk
      exact ⟨_, k, fun K' k' => k'⟩
    · exact hk.elim
  · intro args H K hk
    simp only [S_impl_isOver] at *
    unfold F_impl_isOver at *
    split at hk
    · have k := hk
      exact ⟨_, _, k⟩
    · exact hk.elim
  · intro hq; cases hq
  · have mm := @impl_isOver_main
    revert mm
    generalize bodyK Try.prog E_impl_isOver Try.f63 = Q
    intro mm args H K hk
    simp only [S_impl_isOver] at *
    unfold F_impl_isOver at *
    split at hk
    · exact mm _ H K hk
    · exact hk.elim
def p_impl_naturalLog_l3 (x : Nat) (x_0 : Nat) (ve : Nat) (x_0' : Nat) (ve_3 : Nat) (k3_4 : Nat → Nat → Nat) : Nat → Nat → Nat → Nat
  | 0, _, _ => 0
  | μ3 + 1, q, k => (bif fle .f64 4607182418800017408 k then (p_impl_naturalLog_l3 x x_0 ve x_0' ve_3 k3_4 μ3 (fadd .f64 (fdiv .f64 4607182418800017408 k) (fmul .f64 (fmul .f64 (fdiv .f64 (fsub .f64 x_0' 4607182418800017408) (fadd .f64 x_0' 4607182418800017408)) (fdiv .f64 (fsub .f64 x_0' 4607182418800017408) (fadd .f64 x_0' 4607182418800017408))) q)) (fsub .f64 k 4611686018427387904)) else (k3_4 q k))
theorem p_impl_naturalLog_l3_s (x : Nat) (x_0 : Nat) (ve : Nat) (x_0' : Nat) (ve_3 : Nat) (k3_4 : Nat → Nat → Nat) (μ3 : Nat) (q : Nat) (k : Nat) : p_impl_naturalLog_l3 x x_0 ve x_0' ve_3 k3_4 (μ3 + 1) q k = (bif fle .f64 4607182418800017408 k then (p_impl_naturalLog_l3 x x_0 ve x_0' ve_3 k3_4 μ3 (fadd .f64 (fdiv .f64 4607182418800017408 k) (fmul .f64 (fmul .f64 (fdiv .f64 (fsub .f64 x_0' 4607182418800017408) (fadd .f64 x_0' 4607182418800017408)) (fdiv .f64 (fsub .f64 x_0' 4607182418800017408) (fadd .f64 x_0' 4607182418800017408))) q)) (fsub .f64 k 4611686018427387904)) else (k3_4 q k)) := rfl
def p_impl_naturalLog_l2 (x : Nat) (x_0 : Nat) (ve : Nat) (k2_2 : Nat → Nat → Nat) : Nat → Nat → Nat → Nat
  | 0, _, _ => 0
  | μ2 + 1, x_0', ve_3 => (bif flt .f64 x_0' 4604930618986332160 then (p_impl_naturalLog_l2 x x_0 ve k2_2 μ2 (fmul .f64 x_0' 4611686018427387904) (fsub .f64 ve_3 4607182418800017408)) else (k2_2 x_0' ve_3))
theorem p_impl_naturalLog_l2_s (x : Nat) (x_0 : Nat) (ve : Nat) (k2_2 : Nat → Nat → Nat) (μ2 : Nat) (x_0' : Nat) (ve_3 : Nat) : p_impl_naturalLog_l2 x x_0 ve k2_2 (μ2 + 1) x_0' ve_3 = (bif flt .f64 x_0' 4604930618986332160 then (p_impl_naturalLog_l2 x x_0 ve k2_2 μ2 (fmul .f64 x_0' 4611686018427387904) (fsub .f64 ve_3 4607182418800017408)) else (k2_2 x_0' ve_3)) := rfl
def p_impl_naturalLog_l1 (x : Nat) : Nat → Nat → Nat → Nat
  | 0, _, _ => 0
  | μ + 1, x_0, ve => (bif fle .f64 4609434218613702656 x_0 then (p_impl_naturalLog_l1 x μ (fdiv .f64 x_0 4611686018427387904) (fadd .f64 ve 4607182418800017408)) else (p_impl_naturalLog_l2 x x_0 ve (fun (x_0' : Nat) (ve_3 : Nat) => (p_impl_naturalLog_l3 x x_0 ve x_0' ve_3 (fun (q : Nat) (k : Nat) => fadd .f64 (fmul .f64 4611686018427387904 (fmul .f64 (fdiv .f64 (fsub .f64 x_0' 4607182418800017408) (fadd .f64 x_0' 4607182418800017408)) q)) (fmul .f64 ve_3 4604418534313441775)) (Int.toNat (cnt 4627730092099895296) + 1) 0 4627730092099895296)) (Int.toNat ((4604930618986332160 : Int) - x_0) + 1) x_0 ve))
theorem p_impl_naturalLog_l1_s (x : Nat) (μ : Nat) (x_0 : Nat) (ve : Nat) : p_impl_naturalLog_l1 x (μ + 1) x_0 ve = (bif fle .f64 4609434218613702656 x_0 then (p_impl_naturalLog_l1 x μ (fdiv .f64 x_0 4611686018427387904) (fadd .f64 ve 4607182418800017408)) else (p_impl_naturalLog_l2 x x_0 ve (fun (x_0' : Nat) (ve_3 : Nat) => (p_impl_naturalLog_l3 x x_0 ve x_0' ve_3 (fun (q : Nat) (k : Nat) => fadd .f64 (fmul .f64 4611686018427387904 (fmul .f64 (fdiv .f64 (fsub .f64 x_0' 4607182418800017408) (fadd .f64 x_0' 4607182418800017408)) q)) (fmul .f64 ve_3 4604418534313441775)) (Int.toNat (cnt 4627730092099895296) + 1) 0 4627730092099895296)) (Int.toNat ((4604930618986332160 : Int) - x_0) + 1) x_0 ve)) := rfl
def p_impl_naturalLog (x : Nat) : Nat := (p_impl_naturalLog_l1 x (Int.toNat ((x : Int)) + 1) x 0)
theorem p_impl_naturalLog_eq (x : Nat) : p_impl_naturalLog x = (p_impl_naturalLog_l1 x (Int.toNat ((x : Int)) + 1) x 0) := rfl
def T_impl_naturalLog (x : Nat) (H : AHeap) (K : Nat → AHeap → Prop) : Prop := 4503599627370496 ≤ x ∧ x < 9218868437227405312 ∧ K (p_impl_naturalLog x) H
theorem T_impl_naturalLog_i {x : Nat} {H : AHeap} {K : Nat → AHeap → Prop} (h : 4503599627370496 ≤ x ∧ x < 9218868437227405312 ∧ K (p_impl_naturalLog x) H) : T_impl_naturalLog x H K := h
theorem impl_l3_nar {x x_0 ve x' ve_3 : Nat} {K : Nat → Nat → Nat} (h0 : 4604930618986332160 ≤ x') (h1 : x' < 4609434218613702656) (hK : ∀ q k, Bd .f64 1160 q → fnarrow (K q k) ≠ none) :
    ∀ (μ : Nat) (n : Int) (A q : Nat), Bd .f64 A q → 1074 ≤ A → (A : Int) ≤ 1155 - 3 * n → n ≤ 25 → -1 ≤ n → fnarrow (p_impl_naturalLog_l3 x x_0 ve x' ve_3 K μ q (FloatKind.nearest .f64 n)) ≠ none := by
  intro μ
  induction μ with
  | zero => intro n A q _ _ _ _ _; exact (by decide +kernel : fnarrow 0 ≠ none)
  | succ μ ih =>
    intro n A q hq hA hA2 hn hn1
    rw [p_impl_naturalLog_l3_s]
    have hc := cnt_at (n := n) (by omega) (by omega)
    rw [hc.2.1]
    by_cases h : (1 : Int) ≤ n
    · rw [decide_eq_true h, cond_true, hc.2.2.2]
      exact ih (n - 2) (A + 6) _ (log_step' (log_square h0 h1) h (by omega) hq hA (by omega)) (by omega) (by omega) (by omega) (by omega)
    · rw [decide_eq_false h, cond_false]
      exact hK _ _ (hq.mono (by omega))
theorem impl_l2_nar {x x_0 ve : Nat} {K : Nat → Nat → Nat} (hK : ∀ x' (e : Int), 4604930618986332160 ≤ x' → x' < 4609434218613702656 → e.natAbs ≤ 4000 → fnarrow (K x' (FloatKind.nearest .f64 e)) ≠ none) :
    ∀ (μ : Nat) (x' : Nat) (e : Int), 4503599627370496 ≤ x' → x' < 4609434218613702656 → (4609434218613702656 : Int) - x' ≤ (e + 3000) * 4503599627370496 → e ≤ 2100 →
      fnarrow (p_impl_naturalLog_l2 x x_0 ve K μ x' (FloatKind.nearest .f64 e)) ≠ none := by
  intro μ
  induction μ with
  | zero => intro x' e _ _ _ _; exact (by decide +kernel : fnarrow 0 ≠ none)
  | succ μ ih =>
    intro x' e h0 h1 h2 h3
    rw [p_impl_naturalLog_l2_s]
    cases hc : flt .f64 x' 4604930618986332160 with
    | true =>
      have := twice_step h0 (by omega) hc
      rw [cond_true, near_down (by omega), this.1]
      exact ih _ _ (by omega) (by omega) (by omega) (by omega)
    | false =>
      rw [cond_false]
      rw [pos_lt h0 (by omega) (by decide) (by decide)] at hc
      have := of_decide_eq_false hc
      exact hK _ _ (by omega) h1 (by omega)
theorem impl_l1_nar {x : Nat} :
    ∀ (μ : Nat) (x_0 : Nat) (e : Int), 4503599627370496 ≤ x_0 → x_0 < 9218868437227405312 → e * 4503599627370496 + x_0 ≤ 9218868437227405312 → 0 ≤ e →
      fnarrow (p_impl_naturalLog_l1 x μ x_0 (FloatKind.nearest .f64 e)) ≠ none := by
  intro μ
  induction μ with
  | zero => intro x_0 e _ _ _ _; exact (by decide +kernel : fnarrow 0 ≠ none)
  | succ μ ih =>
    intro x_0 e h0 h1 h2 h3
    rw [p_impl_naturalLog_l1_s]
    cases hc : fle .f64 4609434218613702656 x_0 with
    | true =>
      have := half_step h0 h1 hc
      rw [cond_true, near_up (by omega), this.1]
      exact ih _ _ (by omega) (by omega) (by omega) (by omega)
    | false =>
      rw [cond_false]
      rw [pos_le (by decide) (by decide) h0 h1] at hc
      have := of_decide_eq_false hc
      refine impl_l2_nar ?_ _ _ _ h0 (by omega) (by omega) (by omega)
      intro x' e' a0 a1 a2
      have e25 : (4627730092099895296 : Nat) = FloatKind.nearest .f64 25 := by decide +kernel
      rw [e25]
      refine impl_l3_nar a0 a1 ?_ _ 25 1074 0 (bd_zero _) (by decide) (by decide) (by decide) (by decide)
      intro q k hq
      exact log_sum' (log_quot a0 a1) hq (by decide) (by decide) a2
theorem impl_naturalLog_nar {x : Nat} (h : 4503599627370496 ≤ x ∧ x < 9218868437227405312) : fnarrow (p_impl_naturalLog x) ≠ none := by
  rw [p_impl_naturalLog_eq]
  have g := impl_l1_nar (x := x) (Int.toNat ((x : Int)) + 1) x 0 h.1 h.2 (by omega) (by decide)
  rw [show FloatKind.nearest .f64 0 = 0 by decide +kernel] at g
  exact g
/-! impl_naturalLog: function 124 -/
def E_impl_naturalLog : Env := envOf []
def F_impl_naturalLog : List Value → AHeap → (Value → AHeap → Prop) → Prop
  | [.float .f64 x], H, K => T_impl_naturalLog x H fun (r1 : Nat) (H' : AHeap) => K (.float .f64 r1) H'
  | _, _, _ => False
def S_impl_naturalLog : FSpec := { F := F_impl_naturalLog, quiet := true, tame := false }
theorem impl_naturalLog_vc (x : Nat) (H : AHeap) (K : Value → AHeap → Prop) : bodyK Try.prog E_impl_naturalLog Try.f124 [.float .f64 x] H K =
  (loopK (exK Try.prog E_impl_naturalLog (cl (cl (cl (cr (cr (bodyC Try.f124))))))) [.float .f64 x, undef, .float .f64 0, .float .f64 0, undef, undef, undef, undef, undef, undef, undef, undef, undef, undef, undef, undef, undef, undef, undef, undef, undef, undef, undef, undef, undef, undef, undef, undef, undef, undef, undef, undef, undef, undef, undef, undef, undef, undef, undef, undef, undef, undef, undef, undef, undef] H (blockQ 0 (seqQ (exK Try.prog E_impl_naturalLog (cr (cr (cr (bodyC Try.f124))))) (retK Try.prog Try.f124 K)))) := by kernel_rfl
theorem impl_naturalLog_r1  (x_0 : Nat) (ve : Nat) (g8 g9 g10 g11 g12 g13 : Value) (H : AHeap) (R : Post) : exK Try.prog E_impl_naturalLog (cl (cl (cl (cr (cr (bodyC Try.f124)))))) [.float .f64 x_0, undef, .float .f64 0, .float .f64 ve, undef, undef, undef, undef, g8, g9, g10, g11, g12, g13, undef, undef, undef, undef, undef, undef, undef, undef, undef, undef, undef, undef, undef, undef, undef, undef, undef, undef, undef, undef, undef, undef, undef, undef, undef, undef, undef, undef, undef, undef, undef] H R =
  (Br (fle .f64 4609434218613702656 x_0) (R .normal [.float .f64 (fdiv .f64 x_0 4611686018427387904), undef, .float .f64 0, .float .f64 (fadd .f64 ve 4607182418800017408), undef, undef, undef, undef, .float .f64 x_0, .bool (fle .f64 4609434218613702656 x_0), .float .f64 x_0, .float .f64 (fdiv .f64 x_0 4611686018427387904), .float .f64 ve, .float .f64 (fadd .f64 ve 4607182418800017408), undef, undef, undef, undef, undef, undef, undef, undef, undef, undef, undef, undef, undef, undef, undef, undef, undef, undef, undef, undef, undef, undef, undef, undef, undef, undef, undef, undef, undef, undef, undef] H) (R (.exit 0) [.float .f64 x_0, undef, .float .f64 0, .float .f64 ve, undef, undef, undef, undef, .float .f64 x_0, .bool (fle .f64 4609434218613702656 x_0), g10, g11, g12, g13, undef, undef, undef, undef, undef, undef, undef, undef, undef, undef, undef, undef, undef, undef, undef, undef, undef, undef, undef, undef, undef, undef, undef, undef, undef, undef, undef, undef, undef, undef, undef] H)) := by kernel_rfl
def impl_naturalLog_I1  (Inv : Nat → Nat → Nat → AHeap → Prop) : Nat → List Value → AHeap → Prop := fun μ tm H => ∃ (x_0 : Nat), ∃ (ve : Nat), ∃ g8 g9 g10 g11 g12 g13, tm = [.float .f64 x_0, undef, .float .f64 0, .float .f64 ve, undef, undef, undef, undef, g8, g9, g10, g11, g12, g13, undef, undef, undef, undef, undef, undef, undef, undef, undef, undef, undef, undef, undef, undef, undef, undef, undef, undef, undef, undef, undef, undef, undef, undef, undef, undef, undef, undef, undef, undef, undef] ∧ Inv μ x_0 ve H
theorem impl_naturalLog_L1  {Q : Post} (Inv : Nat → Nat → Nat → AHeap → Prop) (ν : Nat) (x_0 : Nat) (ve : Nat) (g8 g9 g10 g11 g12 g13 : Value) (H : AHeap) (h0 : Inv ν x_0 ve H)
    (hs : ∀ (μ : Nat) (x_0 : Nat) (ve : Nat) (g8 g9 g10 g11 g12 g13 : Value) (H : AHeap), Inv μ x_0 ve H → exK Try.prog E_impl_naturalLog (cl (cl (cl (cr (cr (bodyC Try.f124)))))) [.float .f64 x_0, undef, .float .f64 0, .float .f64 ve, undef, undef, undef, undef, g8, g9, g10, g11, g12, g13, undef, undef, undef, undef, undef, undef, undef, undef, undef, undef, undef, undef, undef, undef, undef, undef, undef, undef, undef, undef, undef, undef, undef, undef, undef, undef, undef, undef, undef, undef, undef] H (loopQ (impl_naturalLog_I1  Inv) μ Q)) : loopK (exK Try.prog E_impl_naturalLog (cl (cl (cl (cr (cr (bodyC Try.f124))))))) [.float .f64 x_0, undef, .float .f64 0, .float .f64 ve, undef, undef, undef, undef, g8, g9, g10, g11, g12, g13, undef, undef, undef, undef, undef, undef, undef, undef, undef, undef, undef, undef, undef, undef, undef, undef, undef, undef, undef, undef, undef, undef, undef, undef, undef, undef, undef, undef, undef, undef, undef] H Q :=
  ⟨impl_naturalLog_I1  Inv, ν, ⟨x_0, ve, g8, g9, g10, g11, g12, g13, rfl, h0⟩, fun μ tm H h => by obtain ⟨x_0, ve, g8, g9, g10, g11, g12, g13, rfl, hI⟩ := h; exact hs μ x_0 ve g8 g9 g10 g11 g12 g13 H hI⟩
theorem impl_naturalLog_n1  {Q : Post} {Inv : Nat → Nat → Nat → AHeap → Prop} {μ : Nat} (μ' : Nat) {x_0 : Nat} {ve : Nat} {g8 g9 g10 g11 g12 g13 : Value} {H : AHeap} (hm : μ' < μ) (hI : Inv μ' x_0 ve H) : loopQ (impl_naturalLog_I1  Inv) μ Q .normal [.float .f64 x_0, undef, .float .f64 0, .float .f64 ve, undef, undef, undef, undef, g8, g9, g10, g11, g12, g13, undef, undef, undef, undef, undef, undef, undef, undef, undef, undef, undef, undef, undef, undef, undef, undef, undef, undef, undef, undef, undef, undef, undef, undef, undef, undef, undef, undef, undef, undef, undef] H := ⟨μ', hm, x_0, ve, g8, g9, g10, g11, g12, g13, rfl, hI⟩
theorem impl_naturalLog_x1_0  (x_0 : Nat) (ve : Nat) (g8 g9 g10 g11 g12 g13 : Value) (H : AHeap) (K : Value → AHeap → Prop)  {I : Nat → List Value → AHeap → Prop} {μ : Nat} : loopQ I μ (blockQ 0 (seqQ (exK Try.prog E_impl_naturalLog (cr (cr (cr (bodyC Try.f124))))) (retK Try.prog Try.f124 K))) (.exit 0) [.float .f64 x_0, undef, .float .f64 0, .float .f64 ve, undef, undef, undef, undef, g8, g9, g10, g11, g12, g13, undef, undef, undef, undef, undef, undef, undef, undef, undef, undef, undef, undef, undef, undef, undef, undef, undef, undef, undef, undef, undef, undef, undef, undef, undef, undef, undef, undef, undef, undef, undef] H =
  (loopK (exK Try.prog E_impl_naturalLog (cl (cl (cl (cr (cr (cr (bodyC Try.f124)))))))) [.float .f64 x_0, undef, .float .f64 0, .float .f64 ve, undef, undef, undef, undef, g8, g9, g10, g11, g12, g13, undef, undef, undef, undef, undef, undef, undef, undef, undef, undef, undef, undef, undef, undef, undef, undef, undef, undef, undef, undef, undef, undef, undef, undef, undef, undef, undef, undef, undef, undef, undef] H (blockQ 2 (seqQ (exK Try.prog E_impl_naturalLog (cr (cr (cr (cr (bodyC Try.f124)))))) (retK Try.prog Try.f124 K)))) := by kernel_rfl
theorem impl_naturalLog_r2 (g10 : Value) (g11 : Value) (g12 : Value) (g13 : Value) (g8 : Value) (g9 : Value) (x_0' : Nat) (ve_3 : Nat) (g14 g15 g16 g17 g18 g19 : Value) (H : AHeap) (R : Post) : exK Try.prog E_impl_naturalLog (cl (cl (cl (cr (cr (cr (bodyC Try.f124))))))) [.float .f64 x_0', undef, .float .f64 0, .float .f64 ve_3, undef, undef, undef, undef, g8, g9, g10, g11, g12, g13, g14, g15, g16, g17, g18, g19, undef, undef, undef, undef, undef, undef, undef, undef, undef, undef, undef, undef, undef, undef, undef, undef, undef, undef, undef, undef, undef, undef, undef, undef, undef] H R =
  (Br (flt .f64 x_0' 4604930618986332160) (R .normal [.float .f64 (fmul .f64 x_0' 4611686018427387904), undef, .float .f64 0, .float .f64 (fsub .f64 ve_3 4607182418800017408), undef, undef, undef, undef, g8, g9, g10, g11, g12, g13, .float .f64 x_0', .bool (flt .f64 x_0' 4604930618986332160), .float .f64 x_0', .float .f64 (fmul .f64 x_0' 4611686018427387904), .float .f64 ve_3, .float .f64 (fsub .f64 ve_3 4607182418800017408), undef, undef, undef, undef, undef, undef, undef, undef, undef, undef, undef, undef, undef, undef, undef, undef, undef, undef, undef, undef, undef, undef, undef, undef, undef] H) (R (.exit 2) [.float .f64 x_0', undef, .float .f64 0, .float .f64 ve_3, undef, undef, undef, undef, g8, g9, g10, g11, g12, g13, .float .f64 x_0', .bool (flt .f64 x_0' 4604930618986332160), g16, g17, g18, g19, undef, undef, undef, undef, undef, undef, undef, undef, undef, undef, undef, undef, undef, undef, undef, undef, undef, undef, undef, undef, undef, undef, undef, undef, undef] H)) := by kernel_rfl
def impl_naturalLog_I2 (g10 : Value) (g11 : Value) (g12 : Value) (g13 : Value) (g8 : Value) (g9 : Value) (Inv : Nat → Nat → Nat → AHeap → Prop) : Nat → List Value → AHeap → Prop := fun μ tm H => ∃ (x_0' : Nat), ∃ (ve_3 : Nat), ∃ g14 g15 g16 g17 g18 g19, tm = [.float .f64 x_0', undef, .float .f64 0, .float .f64 ve_3, undef, undef, undef, undef, g8, g9, g10, g11, g12, g13, g14, g15, g16, g17, g18, g19, undef, undef, undef, undef, undef, undef, undef, undef, undef, undef, undef, undef, undef, undef, undef, undef, undef, undef, undef, undef, undef, undef, undef, undef, undef] ∧ Inv μ x_0' ve_3 H
theorem impl_naturalLog_L2 (g10 : Value) (g11 : Value) (g12 : Value) (g13 : Value) (g8 : Value) (g9 : Value) {Q : Post} (Inv : Nat → Nat → Nat → AHeap → Prop) (ν : Nat) (x_0' : Nat) (ve_3 : Nat) (g14 g15 g16 g17 g18 g19 : Value) (H : AHeap) (h0 : Inv ν x_0' ve_3 H)
    (hs : ∀ (μ : Nat) (x_0' : Nat) (ve_3 : Nat) (g14 g15 g16 g17 g18 g19 : Value) (H : AHeap), Inv μ x_0' ve_3 H → exK Try.prog E_impl_naturalLog (cl (cl (cl (cr (cr (cr (bodyC Try.f124))))))) [.float .f64 x_0', undef, .float .f64 0, .float .f64 ve_3, undef, undef, undef, undef, g8, g9, g10, g11, g12, g13, g14, g15, g16, g17, g18, g19, undef, undef, undef, undef, undef, undef, undef, undef, undef, undef, undef, undef, undef, undef, undef, undef, undef, undef, undef, undef, undef, undef, undef, undef, undef] H (loopQ (impl_naturalLog_I2 g10 g11 g12 g13 g8 g9 Inv) μ Q)) : loopK (exK Try.prog E_impl_naturalLog (cl (cl (cl (cr (cr (cr (bodyC Try.f124)))))))) [.float .f64 x_0', undef, .float .f64 0, .float .f64 ve_3, undef, undef, undef, undef, g8, g9, g10, g11, g12, g13, g14, g15, g16, g17, g18, g19, undef, undef, undef, undef, undef, undef, undef, undef, undef, undef, undef, undef, undef, undef, undef, undef, undef, undef, undef, undef, undef, undef, undef, undef, undef] H Q :=
  ⟨impl_naturalLog_I2 g10 g11 g12 g13 g8 g9 Inv, ν, ⟨x_0', ve_3, g14, g15, g16, g17, g18, g19, rfl, h0⟩, fun μ tm H h => by obtain ⟨x_0', ve_3, g14, g15, g16, g17, g18, g19, rfl, hI⟩ := h; exact hs μ x_0' ve_3 g14 g15 g16 g17 g18 g19 H hI⟩
theorem impl_naturalLog_n2 {g10 : Value} {g11 : Value} {g12 : Value} {g13 : Value} {g8 : Value} {g9 : Value} {Q : Post} {Inv : Nat → Nat → Nat → AHeap → Prop} {μ : Nat} (μ' : Nat) {x_0' : Nat} {ve_3 : Nat} {g14 g15 g16 g17 g18 g19 : Value} {H : AHeap} (hm : μ' < μ) (hI : Inv μ' x_0' ve_3 H) : loopQ (impl_naturalLog_I2 g10 g11 g12 g13 g8 g9 Inv) μ Q .normal [.float .f64 x_0', undef, .float .f64 0, .float .f64 ve_3, undef, undef, undef, undef, g8, g9, g10, g11, g12, g13, g14, g15, g16, g17, g18, g19, undef, undef, undef, undef, undef, undef, undef, undef, undef, undef, undef, undef, undef, undef, undef, undef, undef, undef, undef, undef, undef, undef, undef, undef, undef] H := ⟨μ', hm, x_0', ve_3, g14, g15, g16, g17, g18, g19, rfl, hI⟩
theorem impl_naturalLog_x2_2 (g10 : Value) (g11 : Value) (g12 : Value) (g13 : Value) (g8 : Value) (g9 : Value) (x_0' : Nat) (ve_3 : Nat) (g14 g15 g16 g17 g18 g19 : Value) (H : AHeap) (K : Value → AHeap → Prop)  {I : Nat → List Value → AHeap → Prop} {μ : Nat} : loopQ I μ (blockQ 2 (seqQ (exK Try.prog E_impl_naturalLog (cr (cr (cr (cr (bodyC Try.f124)))))) (retK Try.prog Try.f124 K))) (.exit 2) [.float .f64 x_0', undef, .float .f64 0, .float .f64 ve_3, undef, undef, undef, undef, g8, g9, g10, g11, g12, g13, g14, g15, g16, g17, g18, g19, undef, undef, undef, undef, undef, undef, undef, undef, undef, undef, undef, undef, undef, undef, undef, undef, undef, undef, undef, undef, undef, undef, undef, undef, undef] H =
  (loopK (exK Try.prog E_impl_naturalLog (cl (cl (cr (cl (cr (cr (cr (cr (cr (cr (cr (bodyC Try.f124))))))))))))) [.float .f64 x_0', undef, .float .f64 0, .float .f64 ve_3, .float .f64 (fdiv .f64 (fsub .f64 x_0' 4607182418800017408) (fadd .f64 x_0' 4607182418800017408)), .float .f64 (fmul .f64 (fdiv .f64 (fsub .f64 x_0' 4607182418800017408) (fadd .f64 x_0' 4607182418800017408)) (fdiv .f64 (fsub .f64 x_0' 4607182418800017408) (fadd .f64 x_0' 4607182418800017408))), .float .f64 0, .float .f64 4627730092099895296, g8, g9, g10, g11, g12, g13, g14, g15, g16, g17, g18, g19, .float .f64 x_0', .float .f64 (fsub .f64 x_0' 4607182418800017408), .float .f64 x_0', .float .f64 (fadd .f64 x_0' 4607182418800017408), .float .f64 (fdiv .f64 (fsub .f64 x_0' 4607182418800017408) (fadd .f64 x_0' 4607182418800017408)), .float .f64 (fdiv .f64 (fsub .f64 x_0' 4607182418800017408) (fadd .f64 x_0' 4607182418800017408)), .float .f64 (fdiv .f64 (fsub .f64 x_0' 4607182418800017408) (fadd .f64 x_0' 4607182418800017408)), .float .f64 (fmul .f64 (fdiv .f64 (fsub .f64 x_0' 4607182418800017408) (fadd .f64 x_0' 4607182418800017408)) (fdiv .f64 (fsub .f64 x_0' 4607182418800017408) (fadd .f64 x_0' 4607182418800017408))), undef, undef, undef, undef, undef, undef, undef, undef, undef, undef, undef, undef, undef, undef, undef, undef, undef] H (blockQ 4 (seqQ (exK Try.prog E_impl_naturalLog (cr (cr (cr (cr (cr (cr (cr (cr (bodyC Try.f124)))))))))) (retK Try.prog Try.f124 K)))) := by kernel_rfl
theorem impl_naturalLog_r3 (g10 : Value) (g11 : Value) (g12 : Value) (g13 : Value) (g14 : Value) (g15 : Value) (g16 : Value) (g17 : Value) (g18 : Value) (g19 : Value) (g8 : Value) (g9 : Value) (ve_3 : Nat) (x_0' : Nat) (q : Nat) (k : Nat) (g28 g29 g30 g31 g32 g33 g34 g35 g36 g37 : Value) (H : AHeap) (R : Post) : exK Try.prog E_impl_naturalLog (cl (cl (cr (cl (cr (cr (cr (cr (cr (cr (cr (bodyC Try.f124)))))))))))) [.float .f64 x_0', undef, .float .f64 0, .float .f64 ve_3, .float .f64 (fdiv .f64 (fsub .f64 x_0' 4607182418800017408) (fadd .f64 x_0' 4607182418800017408)), .float .f64 (fmul .f64 (fdiv .f64 (fsub .f64 x_0' 4607182418800017408) (fadd .f64 x_0' 4607182418800017408)) (fdiv .f64 (fsub .f64 x_0' 4607182418800017408) (fadd .f64 x_0' 4607182418800017408))), .float .f64 q, .float .f64 k, g8, g9, g10, g11, g12, g13, g14, g15, g16, g17, g18, g19, .float .f64 x_0', .float .f64 (fsub .f64 x_0' 4607182418800017408), .float .f64 x_0', .float .f64 (fadd .f64 x_0' 4607182418800017408), .float .f64 (fdiv .f64 (fsub .f64 x_0' 4607182418800017408) (fadd .f64 x_0' 4607182418800017408)), .float .f64 (fdiv .f64 (fsub .f64 x_0' 4607182418800017408) (fadd .f64 x_0' 4607182418800017408)), .float .f64 (fdiv .f64 (fsub .f64 x_0' 4607182418800017408) (fadd .f64 x_0' 4607182418800017408)), .float .f64 (fmul .f64 (fdiv .f64 (fsub .f64 x_0' 4607182418800017408) (fadd .f64 x_0' 4607182418800017408)) (fdiv .f64 (fsub .f64 x_0' 4607182418800017408) (fadd .f64 x_0' 4607182418800017408))), g28, g29, g30, g31, g32, g33, g34, g35, g36, g37, undef, undef, undef, undef, undef, undef, undef] H R =
  (Br (fle .f64 4607182418800017408 k) (R .normal [.float .f64 x_0', undef, .float .f64 0, .float .f64 ve_3, .float .f64 (fdiv .f64 (fsub .f64 x_0' 4607182418800017408) (fadd .f64 x_0' 4607182418800017408)), .float .f64 (fmul .f64 (fdiv .f64 (fsub .f64 x_0' 4607182418800017408) (fadd .f64 x_0' 4607182418800017408)) (fdiv .f64 (fsub .f64 x_0' 4607182418800017408) (fadd .f64 x_0' 4607182418800017408))), .float .f64 (fadd .f64 (fdiv .f64 4607182418800017408 k) (fmul .f64 (fmul .f64 (fdiv .f64 (fsub .f64 x_0' 4607182418800017408) (fadd .f64 x_0' 4607182418800017408)) (fdiv .f64 (fsub .f64 x_0' 4607182418800017408) (fadd .f64 x_0' 4607182418800017408))) q)), .float .f64 (fsub .f64 k 4611686018427387904), g8, g9, g10, g11, g12, g13, g14, g15, g16, g17, g18, g19, .float .f64 x_0', .float .f64 (fsub .f64 x_0' 4607182418800017408), .float .f64 x_0', .float .f64 (fadd .f64 x_0' 4607182418800017408), .float .f64 (fdiv .f64 (fsub .f64 x_0' 4607182418800017408) (fadd .f64 x_0' 4607182418800017408)), .float .f64 (fdiv .f64 (fsub .f64 x_0' 4607182418800017408) (fadd .f64 x_0' 4607182418800017408)), .float .f64 (fdiv .f64 (fsub .f64 x_0' 4607182418800017408) (fadd .f64 x_0' 4607182418800017408)), .float .f64 (fmul .f64 (fdiv .f64 (fsub .f64 x_0' 4607182418800017408) (fadd .f64 x_0' 4607182418800017408)) (fdiv .f64 (fsub .f64 x_0' 4607182418800017408) (fadd .f64 x_0' 4607182418800017408))), .float .f64 k, .bool (fle .f64 4607182418800017408 k), .float .f64 k, .float .f64 (fsub .f64 k 4611686018427387904), .float .f64 k, .float .f64 (fdiv .f64 4607182418800017408 k), .float .f64 (fmul .f64 (fdiv .f64 (fsub .f64 x_0' 4607182418800017408) (fadd .f64 x_0' 4607182418800017408)) (fdiv .f64 (fsub .f64 x_0' 4607182418800017408) (fadd .f64 x_0' 4607182418800017408))), .float .f64 q, .float .f64 (fmul .f64 (fmul .f64 (fdiv .f64 (fsub .f64 x_0' 4607182418800017408) (fadd .f64 x_0' 4607182418800017408)) (fdiv .f64 (fsub .f64 x_0' 4607182418800017408) (fadd .f64 x_0' 4607182418800017408))) q), .float .f64 (fadd .f64 (fdiv .f64 4607182418800017408 k) (fmul .f64 (fmul .f64 (fdiv .f64 (fsub .f64 x_0' 4607182418800017408) (fadd .f64 x_0' 4607182418800017408)) (fdiv .f64 (fsub .f64 x_0' 4607182418800017408) (fadd .f64 x_0' 4607182418800017408))) q)), undef, undef, undef, undef, undef, undef, undef] H) (R (.exit 4) [.float .f64 x_0', undef, .float .f64 0, .float .f64 ve_3, .float .f64 (fdiv .f64 (fsub .f64 x_0' 4607182418800017408) (fadd .f64 x_0' 4607182418800017408)), .float .f64 (fmul .f64 (fdiv .f64 (fsub .f64 x_0' 4607182418800017408) (fadd .f64 x_0' 4607182418800017408)) (fdiv .f64 (fsub .f64 x_0' 4607182418800017408) (fadd .f64 x_0' 4607182418800017408))), .float .f64 q, .float .f64 k, g8, g9, g10, g11, g12, g13, g14, g15, g16, g17, g18, g19, .float .f64 x_0', .float .f64 (fsub .f64 x_0' 4607182418800017408), .float .f64 x_0', .float .f64 (fadd .f64 x_0' 4607182418800017408), .float .f64 (fdiv .f64 (fsub .f64 x_0' 4607182418800017408) (fadd .f64 x_0' 4607182418800017408)), .float .f64 (fdiv .f64 (fsub .f64 x_0' 4607182418800017408) (fadd .f64 x_0' 4607182418800017408)), .float .f64 (fdiv .f64 (fsub .f64 x_0' 4607182418800017408) (fadd .f64 x_0' 4607182418800017408)), .float .f64 (fmul .f64 (fdiv .f64 (fsub .f64 x_0' 4607182418800017408) (fadd .f64 x_0' 4607182418800017408)) (fdiv .f64 (fsub .f64 x_0' 4607182418800017408) (fadd .f64 x_0' 4607182418800017408))), .float .f64 k, .bool (fle .f64 4607182418800017408 k), g30, g31, g32, g33, g34, g35, g36, g37, undef, undef, undef, undef, undef, undef, undef] H)) := by kernel_rfl
def impl_naturalLog_I3 (g10 : Value) (g11 : Value) (g12 : Value) (g13 : Value) (g14 : Value) (g15 : Value) (g16 : Value) (g17 : Value) (g18 : Value) (g19 : Value) (g8 : Value) (g9 : Value) (ve_3 : Nat) (x_0' : Nat) (Inv : Nat → Nat → Nat → AHeap → Prop) : Nat → List Value → AHeap → Prop := fun μ tm H => ∃ (q : Nat), ∃ (k : Nat), ∃ g28 g29 g30 g31 g32 g33 g34 g35 g36 g37, tm = [.float .f64 x_0', undef, .float .f64 0, .float .f64 ve_3, .float .f64 (fdiv .f64 (fsub .f64 x_0' 4607182418800017408) (fadd .f64 x_0' 4607182418800017408)), .float .f64 (fmul .f64 (fdiv .f64 (fsub .f64 x_0' 4607182418800017408) (fadd .f64 x_0' 4607182418800017408)) (fdiv .f64 (fsub .f64 x_0' 4607182418800017408) (fadd .f64 x_0' 4607182418800017408))), .float .f64 q, .float .f64 k, g8, g9, g10, g11, g12, g13, g14, g15, g16, g17, g18, g19, .float .f64 x_0', .float .f64 (fsub .f64 x_0' 4607182418800017408), .float .f64 x_0', .float .f64 (fadd .f64 x_0' 4607182418800017408), .float .f64 (fdiv .f64 (fsub .f64 x_0' 4607182418800017408) (fadd .f64 x_0' 4607182418800017408)), .float .f64 (fdiv .f64 (fsub .f64 x_0' 4607182418800017408) (fadd .f64 x_0' 4607182418800017408)), .float .f64 (fdiv .f64 (fsub .f64 x_0' 4607182418800017408) (fadd .f64 x_0' 4607182418800017408)), .float .f64 (fmul .f64 (fdiv .f64 (fsub .f64 x_0' 4607182418800017408) (fadd .f64 x_0' 4607182418800017408)) (fdiv .f64 (fsub .f64 x_0' 4607182418800017408) (fadd .f64 x_0' 4607182418800017408))), g28, g29, g30, g31, g32, g33, g34, g35, g36, g37, undef, undef, undef, undef, undef, undef, undef] ∧ Inv μ q k H
theorem impl_naturalLog_L3 (g10 : Value) (g11 : Value) (g12 : Value) (g13 : Value) (g14 : Value) (g15 : Value) (g16 : Value) (g17 : Value) (g18 : Value) (g19 : Value) (g8 : Value) (g9 : Value) (ve_3 : Nat) (x_0' : Nat) {Q : Post} (Inv : Nat → Nat → Nat → AHeap → Prop) (ν : Nat) (q : Nat) (k : Nat) (g28 g29 g30 g31 g32 g33 g34 g35 g36 g37 : Value) (H : AHeap) (h0 : Inv ν q k H)
    (hs : ∀ (μ : Nat) (q : Nat) (k : Nat) (g28 g29 g30 g31 g32 g33 g34 g35 g36 g37 : Value) (H : AHeap), Inv μ q k H → exK Try.prog E_impl_naturalLog (cl (cl (cr (cl (cr (cr (cr (cr (cr (cr (cr (bodyC Try.f124)))))))))))) [.float .f64 x_0', undef, .float .f64 0, .float .f64 ve_3, .float .f64 (fdiv .f64 (fsub .f64 x_0' 4607182418800017408) (fadd .f64 x_0' 4607182418800017408)), .float .f64 (fmul .f64 (fdiv .f64 (fsub .f64 x_0' 4607182418800017408) (fadd .f64 x_0' 4607182418800017408)) (fdiv .f64 (fsub .f64 x_0' 4607182418800017408) (fadd .f64 x_0' 4607182418800017408))), .float .f64 q, .float .f64 k, g8, g9, g10, g11, g12, g13, g14, g15, g16, g17, g18, g19, .float .f64 x_0', .float .f64 (fsub .f64 x_0' 4607182418800017408), .float .f64 x_0', .float .f64 (fadd .f64 x_0' 4607182418800017408), .float .f64 (fdiv .f64 (fsub .f64 x_0' 4607182418800017408) (fadd .f64 x_0' 4607182418800017408)), .float .f64 (fdiv .f64 (fsub .f64 x_0' 4607182418800017408) (fadd .f64 x_0' 4607182418800017408)), .float .f64 (fdiv .f64 (fsub .f64 x_0' 4607182418800017408) (fadd .f64 x_0' 4607182418800017408)), .float .f64 (fmul .f64 (fdiv .f64 (fsub .f64 x_0' 4607182418800017408) (fadd .f64 x_0' 4607182418800017408)) (fdiv .f64 (fsub .f64 x_0' 4607182418800017408) (fadd .f64 x_0' 4607182418800017408))), g28, g29, g30, g31, g32, g33, g34, g35, g36, g37, undef, undef, undef, undef, undef, undef, undef] H (loopQ (impl_naturalLog_I3 g10 g11 g12 g13 g14 g15 g16 g17 g18 g19 g8 g9 ve_3 x_0' Inv) μ Q)) : loopK (exK Try.prog E_impl_naturalLog (cl (cl (cr (cl (cr (cr (cr (cr (cr (cr (cr (bodyC Try.f124))))))))))))) [.float .f64 x_0', undef, .float .f64 0, .float .f64 ve_3, .float .f64 (fdiv .f64 (fsub .f64 x_0' 4607182418800017408) (fadd .f64 x_0' 4607182418800017408)), .float .f64 (fmul .f64 (fdiv .f64 (fsub .f64 x_0' 4607182418800017408) (fadd .f64 x_0' 4607182418800017408)) (fdiv .f64 (fsub .f64 x_0' 4607182418800017408) (fadd .f64 x_0' 4607182418800017408))), .float .f64 q, .float .f64 k, g8, g9, g10, g11, g12, g13, g14, g15, g16, g17, g18, g19, .float .f64 x_0', .float .f64 (fsub .f64 x_0' 4607182418800017408), .float .f64 x_0', .float .f64 (fadd .f64 x_0' 4607182418800017408), .float .f64 (fdiv .f64 (fsub .f64 x_0' 4607182418800017408) (fadd .f64 x_0' 4607182418800017408)), .float .f64 (fdiv .f64 (fsub .f64 x_0' 4607182418800017408) (fadd .f64 x_0' 4607182418800017408)), .float .f64 (fdiv .f64 (fsub .f64 x_0' 4607182418800017408) (fadd .f64 x_0' 4607182418800017408)), .float .f64 (fmul .f64 (fdiv .f64 (fsub .f64 x_0' 4607182418800017408) (fadd .f64 x_0' 4607182418800017408)) (fdiv .f64 (fsub .f64 x_0' 4607182418800017408) (fadd .f64 x_0' 4607182418800017408))), g28, g29, g30, g31, g32, g33, g34, g35, g36, g37, undef, undef, undef, undef, undef, undef, undef] H Q :=
  ⟨impl_naturalLog_I3 g10 g11 g12 g13 g14 g15 g16 g17 g18 g19 g8 g9 ve_3 x_0' Inv, ν, ⟨q, k, g28, g29, g30, g31, g32, g33, g34, g35, g36, g37, rfl, h0⟩, fun μ tm H h => by obtain ⟨q, k, g28, g29, g30, g31, g32, g33, g34, g35, g36, g37, rfl, hI⟩ := h; exact hs μ q k g28 g29 g30 g31 g32 g33 g34 g35 g36 g37 H hI⟩
theorem impl_naturalLog_n3 {g10 : Value} {g11 : Value} {g12 : Value} {g13 : Value} {g14 : Value} {g15 : Value} {g16 : Value} {g17 : Value} {g18 : Value} {g19 : Value} {g8 : Value} {g9 : Value} {ve_3 : Nat} {x_0' : Nat} {Q : Post} {Inv : Nat → Nat → Nat → AHeap → Prop} {μ : Nat} (μ' : Nat) {q : Nat} {k : Nat} {g28 g29 g30 g31 g32 g33 g34 g35 g36 g37 : Value} {H : AHeap} (hm : μ' < μ) (hI : Inv μ' q k H) : loopQ (impl_naturalLog_I3 g10 g11 g12 g13 g14 g15 g16 g17 g18 g19 g8 g9 ve_3 x_0' Inv) μ Q .normal [.float .f64 x_0', undef, .float .f64 0, .float .f64 ve_3, .float .f64 (fdiv .f64 (fsub .f64 x_0' 4607182418800017408) (fadd .f64 x_0' 4607182418800017408)), .float .f64 (fmul .f64 (fdiv .f64 (fsub .f64 x_0' 4607182418800017408) (fadd .f64 x_0' 4607182418800017408)) (fdiv .f64 (fsub .f64 x_0' 4607182418800017408) (fadd .f64 x_0' 4607182418800017408))), .float .f64 q, .float .f64 k, g8, g9, g10, g11, g12, g13, g14, g15, g16, g17, g18, g19, .float .f64 x_0', .float .f64 (fsub .f64 x_0' 4607182418800017408), .float .f64 x_0', .float .f64 (fadd .f64 x_0' 4607182418800017408), .float .f64 (fdiv .f64 (fsub .f64 x_0' 4607182418800017408) (fadd .f64 x_0' 4607182418800017408)), .float .f64 (fdiv .f64 (fsub .f64 x_0' 4607182418800017408) (fadd .f64 x_0' 4607182418800017408)), .float .f64 (fdiv .f64 (fsub .f64 x_0' 4607182418800017408) (fadd .f64 x_0' 4607182418800017408)), .float .f64 (fmul .f64 (fdiv .f64 (fsub .f64 x_0' 4607182418800017408) (fadd .f64 x_0' 4607182418800017408)) (fdiv .f64 (fsub .f64 x_0' 4607182418800017408) (fadd .f64 x_0' 4607182418800017408))), g28, g29, g30, g31, g32, g33, g34, g35, g36, g37, undef, undef, undef, undef, undef, undef, undef] H := ⟨μ', hm, q, k, g28, g29, g30, g31, g32, g33, g34, g35, g36, g37, rfl, hI⟩
theorem impl_naturalLog_x3_4 (g10 : Value) (g11 : Value) (g12 : Value) (g13 : Value) (g14 : Value) (g15 : Value) (g16 : Value) (g17 : Value) (g18 : Value) (g19 : Value) (g8 : Value) (g9 : Value) (ve_3 : Nat) (x_0' : Nat) (q : Nat) (k : Nat) (g28 g29 g30 g31 g32 g33 g34 g35 g36 g37 : Value) (H : AHeap) (K : Value → AHeap → Prop)  {I : Nat → List Value → AHeap → Prop} {μ : Nat} : loopQ I μ (blockQ 4 (seqQ (exK Try.prog E_impl_naturalLog (cr (cr (cr (cr (cr (cr (cr (cr (bodyC Try.f124)))))))))) (retK Try.prog Try.f124 K))) (.exit 4) [.float .f64 x_0', undef, .float .f64 0, .float .f64 ve_3, .float .f64 (fdiv .f64 (fsub .f64 x_0' 4607182418800017408) (fadd .f64 x_0' 4607182418800017408)), .float .f64 (fmul .f64 (fdiv .f64 (fsub .f64 x_0' 4607182418800017408) (fadd .f64 x_0' 4607182418800017408)) (fdiv .f64 (fsub .f64 x_0' 4607182418800017408) (fadd .f64 x_0' 4607182418800017408))), .float .f64 q, .float .f64 k, g8, g9, g10, g11, g12, g13, g14, g15, g16, g17, g18, g19, .float .f64 x_0', .float .f64 (fsub .f64 x_0' 4607182418800017408), .float .f64 x_0', .float .f64 (fadd .f64 x_0' 4607182418800017408), .float .f64 (fdiv .f64 (fsub .f64 x_0' 4607182418800017408) (fadd .f64 x_0' 4607182418800017408)), .float .f64 (fdiv .f64 (fsub .f64 x_0' 4607182418800017408) (fadd .f64 x_0' 4607182418800017408)), .float .f64 (fdiv .f64 (fsub .f64 x_0' 4607182418800017408) (fadd .f64 x_0' 4607182418800017408)), .float .f64 (fmul .f64 (fdiv .f64 (fsub .f64 x_0' 4607182418800017408) (fadd .f64 x_0' 4607182418800017408)) (fdiv .f64 (fsub .f64 x_0' 4607182418800017408) (fadd .f64 x_0' 4607182418800017408))), g28, g29, g30, g31, g32, g33, g34, g35, g36, g37, undef, undef, undef, undef, undef, undef, undef] H =
  (K (.float .f64 (fadd .f64 (fmul .f64 4611686018427387904 (fmul .f64 (fdiv .f64 (fsub .f64 x_0' 4607182418800017408) (fadd .f64 x_0' 4607182418800017408)) q)) (fmul .f64 ve_3 4604418534313441775))) H) := by kernel_rfl
theorem E_impl_naturalLog_ok : ∀ g, FnOk Try.prog g (E_impl_naturalLog g) := FnOk.envOf (by
  intro x hx; cases hx)
set_option maxHeartbeats 1000000 in
theorem impl_naturalLog_main (x : Nat) (H : AHeap) (K : Value → AHeap → Prop) (h : T_impl_naturalLog x H fun (r1 : Nat) (H' : AHeap) => K (.float .f64 r1) H') : bodyK Try.prog E_impl_naturalLog Try.f124 [.float .f64 x] H K := by
  rw [impl_naturalLog_vc]
  obtain ⟨pr0, pr1, hk⟩ := h
  have e : (p_impl_naturalLog x) = _ := rfl
  have e := e.trans (p_impl_naturalLog_eq x)
  have g0 := Grow.refl H
  refine impl_naturalLog_L1  (fun (μ : Nat) (x_0 : Nat) (ve : Nat) (H_1 : AHeap) => H = H_1 ∧ 4503599627370496 ≤ x_0 ∧ x_0 < 9218868437227405312 ∧ (x_0 : Int) ≤ (μ : Int) ∧ p_impl_naturalLog x = p_impl_naturalLog_l1 x (μ + 1) x_0 ve) (Int.toNat ((x : Int))) _ _ _ _ _ _ _ _ H ?_ ?_
  · exact ⟨rfl, (by first | omega | (simp; done) | (simp; omega) | (have := half_step (by assumption) (by assumption) (by assumption); omega)), (by first | omega | (simp; done) | (simp; omega) | (have := half_step (by assumption) (by assumption) (by assumption); omega)), (by omega), e⟩
  · intro μ x_0 ve g8 g9 g10 g11 g12 g13 H_1 hI
    obtain ⟨rfl, v_1, v_2, hμ, e⟩ := hI
    rw [impl_naturalLog_r1]
    have e := e.trans (p_impl_naturalLog_l1_s x μ x_0 ve)
    have l_3 := g0.1
    refine Br.intro (fun c_4 => ?_) (fun c_4 => ?_)
    · have e := e.trans (cond_t c_4)
      refine impl_naturalLog_n1 (μ - 1) (by first | omega | (have := half_step (by assumption) (by assumption) (by assumption); omega)) ⟨rfl, (by first | omega | (have := half_step (by assumption) (by assumption) (by assumption); omega) | (simp only [List.length_append, List.length_cons, List.length_nil, List.length_set]; done) | (simp only [List.length_append, List.length_cons, List.length_nil, List.length_set]; omega)), (by first | omega | (have := half_step (by assumption) (by assumption) (by assumption); omega) | (simp only [List.length_append, List.length_cons, List.length_nil, List.length_set]; done) | (simp only [List.length_append, List.length_cons, List.length_nil, List.length_set]; omega)), (by first | omega | (have := half_step (by assumption) (by assumption) (by assumption); omega)), (by rw [show μ - 1 + 1 = μ from by first | omega | (have := half_step (by assumption) (by assumption) (by assumption); omega)]; exact e)⟩
    · have e := e.trans (cond_f c_4)
      rw [impl_naturalLog_x1_0]
      refine impl_naturalLog_L2 _ _ _ _ _ _ (fun (μ2 : Nat) (x_0' : Nat) (ve_3 : Nat) (H_2 : AHeap) => H = H_2 ∧ 4503599627370496 ≤ x_0' ∧ x_0' < 9218868437227405312 ∧ (4604930618986332160 : Int) - x_0' ≤ (μ2 : Int) ∧ p_impl_naturalLog x = p_impl_naturalLog_l2 x x_0 ve (fun (x_0' : Nat) (ve_3 : Nat) => (p_impl_naturalLog_l3 x x_0 ve x_0' ve_3 (fun (q : Nat) (k : Nat) => fadd .f64 (fmul .f64 4611686018427387904 (fmul .f64 (fdiv .f64 (fsub .f64 x_0' 4607182418800017408) (fadd .f64 x_0' 4607182418800017408)) q)) (fmul .f64 ve_3 4604418534313441775)) (Int.toNat (cnt 4627730092099895296) + 1) 0 4627730092099895296)) (μ2 + 1) x_0' ve_3) (Int.toNat ((4604930618986332160 : Int) - x_0)) _ _ _ _ _ _ _ _ H ?_ ?_
      · exact ⟨rfl, (by first | omega | (simp; done) | (simp; omega) | (have := twice_step (by assumption) (by assumption) (by assumption); omega)), (by first | omega | (simp; done) | (simp; omega) | (have := twice_step (by assumption) (by assumption) (by assumption); omega)), (by omega), e⟩
      · intro μ2 x_0' ve_3 g14 g15 g16 g17 g18 g19 H_2 hI
        obtain ⟨rfl, v_5, v_6, hμ, e⟩ := hI
        rw [impl_naturalLog_r2]
        have e := e.trans (p_impl_naturalLog_l2_s x x_0 ve (fun (x_0' : Nat) (ve_3 : Nat) => (p_impl_naturalLog_l3 x x_0 ve x_0' ve_3 (fun (q : Nat) (k : Nat) => fadd .f64 (fmul .f64 4611686018427387904 (fmul .f64 (fdiv .f64 (fsub .f64 x_0' 4607182418800017408) (fadd .f64 x_0' 4607182418800017408)) q)) (fmul .f64 ve_3 4604418534313441775)) (Int.toNat (cnt 4627730092099895296) + 1) 0 4627730092099895296)) μ2 x_0' ve_3)
        have l_7 := g0.1
        refine Br.intro (fun c_8 => ?_) (fun c_8 => ?_)
        · have e := e.trans (cond_t c_8)
          refine impl_naturalLog_n2 (μ2 - 1) (by first | omega | (have := twice_step (by assumption) (by assumption) (by assumption); omega)) ⟨rfl, (by first | omega | (have := twice_step (by assumption) (by assumption) (by assumption); omega) | (simp only [List.length_append, List.length_cons, List.length_nil, List.length_set]; done) | (simp only [List.length_append, List.length_cons, List.length_nil, List.length_set]; omega)), (by first | omega | (have := twice_step (by assumption) (by assumption) (by assumption); omega) | (simp only [List.length_append, List.length_cons, List.length_nil, List.length_set]; done) | (simp only [List.length_append, List.length_cons, List.length_nil, List.length_set]; omega)), (by first | omega | (have := twice_step (by assumption) (by assumption) (by assumption); omega)), (by rw [show μ2 - 1 + 1 = μ2 from by first | omega | (have := twice_step (by assumption) (by assumption) (by assumption); omega)]; exact e)⟩
        · have e := e.trans (cond_f c_8)
          rw [impl_naturalLog_x2_2]
          refine impl_naturalLog_L3 _ _ _ _ _ _ _ _ _ _ _ _ _ _ (fun (μ3 : Nat) (q : Nat) (k : Nat) (H_3 : AHeap) => H = H_3 ∧ isCnt k ∧ cnt k ≤ (μ3 : Int) ∧ p_impl_naturalLog x = p_impl_naturalLog_l3 x x_0 ve x_0' ve_3 (fun (q : Nat) (k : Nat) => fadd .f64 (fmul .f64 4611686018427387904 (fmul .f64 (fdiv .f64 (fsub .f64 x_0' 4607182418800017408) (fadd .f64 x_0' 4607182418800017408)) q)) (fmul .f64 ve_3 4604418534313441775)) (μ3 + 1) q k) (Int.toNat (cnt 4627730092099895296)) _ _ _ _ _ _ _ _ _ _ _ _ H ?_ ?_
          · exact ⟨rfl, (by first | omega | (simp; done) | (simp; omega) | (first | exact isCnt.of (n := 25) (by decide) (by decide) | exact (down2 (by assumption) (by assumption)).1)), (by omega), e⟩
          · intro μ3 q k g28 g29 g30 g31 g32 g33 g34 g35 g36 g37 H_3 hI
            obtain ⟨rfl, v_9, hμ, e⟩ := hI
            rw [impl_naturalLog_r3]
            have e := e.trans (p_impl_naturalLog_l3_s x x_0 ve x_0' ve_3 (fun (q : Nat) (k : Nat) => fadd .f64 (fmul .f64 4611686018427387904 (fmul .f64 (fdiv .f64 (fsub .f64 x_0' 4607182418800017408) (fadd .f64 x_0' 4607182418800017408)) q)) (fmul .f64 ve_3 4604418534313441775)) μ3 q k)
            have l_10 := g0.1
            refine Br.intro (fun c_11 => ?_) (fun c_11 => ?_)
            · have e := e.trans (cond_t c_11)
              refine impl_naturalLog_n3 (μ3 - 1) (by first | omega | (have := down2 (by assumption) (by assumption); omega)) ⟨rfl, (by first | omega | (first | exact isCnt.of (n := 25) (by decide) (by decide) | exact (down2 (by assumption) (by assumption)).1) | (simp only [List.length_append, List.length_cons, List.length_nil, List.length_set]; done) | (simp only [List.length_append, List.length_cons, List.length_nil, List.length_set]; omega)), (by first | omega | (have := down2 (by assumption) (by assumption); omega)), (by rw [show μ3 - 1 + 1 = μ3 from by first | omega | (have := down2 (by assumption) (by assumption); omega)]; exact e)⟩
            · have e := e.trans (cond_f c_11)
              rw [impl_naturalLog_x3_4]
              rw [e] at hk
              exact hk
theorem impl_naturalLog_ok : FnOk Try.prog 124 S_impl_naturalLog := by
  refine FnOk.body mix_ok E_impl_naturalLog_ok Try.func124 rfl (by kernel_rfl) (by kernel_rfl) ?_ ?_ ?_ ?_ ?_
  · intro args H K K' h hk
    simp only [S_impl_naturalLog] at *
    unfold F_impl_naturalLog at *
    split at hk
    · obtain ⟨pr0, pr1, k⟩ := hk
      exact ⟨pr0, pr1, h _ _ k⟩
    · exact hk.elim
  · intro _ args H K hk
    simp only [S_impl_naturalLog] at *
    unfold F_impl_naturalLog at *
    split at hk
    · obtain ⟨pr0, pr1, k⟩ := hk
      exact ⟨_, k, fun K' k' => ⟨pr0, pr1, k'⟩⟩
    · exact hk.elim
  · intro args H K hk
    simp only [S_impl_naturalLog] at *
    unfold F_impl_naturalLog at *
    split at hk
    · obtain ⟨pr0, pr1, k⟩ := hk
      exact ⟨_, _, k⟩
    · exact hk.elim
  · intro hq; cases hq
  · have mm := @impl_naturalLog_main
    revert mm
    generalize bodyK Try.prog E_impl_naturalLog Try.f124 = Q
    intro mm args H K hk
    simp only [S_impl_naturalLog] at *
    unfold F_impl_naturalLog at *
    split at hk
    · exact mm _ H K hk
    · exact hk.elim
def p_impl_LogNumber (x : Nat) : Nat := (bif feq .f32 x 0 then ((fnarrow ((p_math_Inf ((-1) : Int)))).getD 0) else (bif flt .f32 x 0 then ((fnarrow p_math_NaN).getD 0) else (bif !(feq .f32 x x) then ((fnarrow p_math_NaN).getD 0) else (bif !(p_impl_IsFinite x) then x else ((fnarrow ((p_impl_naturalLog (fwide x)))).getD 0)))))
theorem p_impl_LogNumber_eq (x : Nat) : p_impl_LogNumber x = (bif feq .f32 x 0 then ((fnarrow ((p_math_Inf ((-1) : Int)))).getD 0) else (bif flt .f32 x 0 then ((fnarrow p_math_NaN).getD 0) else (bif !(feq .f32 x x) then ((fnarrow p_math_NaN).getD 0) else (bif !(p_impl_IsFinite x) then x else ((fnarrow ((p_impl_naturalLog (fwide x)))).getD 0))))) := rfl
def T_impl_LogNumber (x : Nat) (H : AHeap) (K : Nat → AHeap → Prop) : Prop := K (p_impl_LogNumber x) H
theorem T_impl_LogNumber_i {x : Nat} {H : AHeap} {K : Nat → AHeap → Prop} (h : K (p_impl_LogNumber x) H) : T_impl_LogNumber x H K := h
theorem log_pre {x : Nat} (h0 : feq .f32 x 0 = false) (h1 : flt .f32 x 0 = false) (h2 : p_impl_IsFinite x = true) : 4503599627370496 ≤ fwide x ∧ fwide x < 9218868437227405312 :=
  log_pre' h0 h1 (by rw [← fin_asked x]; exact h2)
/-! impl_LogNumber: function 83 -/
def E_impl_LogNumber : Env := envOf [(122, S_math_Inf), (123, S_math_NaN), (62, S_impl_IsFinite), (124, S_impl_naturalLog)]
def F_impl_LogNumber : List Value → AHeap → (Value → AHeap → Prop) → Prop
  | [.float .f32 x], H, K => T_impl_LogNumber x H fun (r1 : Nat) (H' : AHeap) => K (.float .f32 r1) H'
  | _, _, _ => False
def S_impl_LogNumber : FSpec := { F := F_impl_LogNumber, quiet := true, tame := false }
theorem impl_LogNumber_vc (x : Nat) (H : AHeap) (K : Value → AHeap → Prop) : bodyK Try.prog E_impl_LogNumber Try.f83 [.float .f32 x] H K =
  (Br (feq .f32 x 0) (T_math_Inf (-1) H fun (r1 : Nat) (H1 : AHeap) => ∃ x1 : Nat, fnarrow r1 = some x1 ∧ K (.float .f32 x1) H1) (Br (flt .f32 x 0) (T_math_NaN  H fun (r2 : Nat) (H2 : AHeap) => ∃ x2 : Nat, fnarrow r2 = some x2 ∧ K (.float .f32 x2) H2) (Br (!(feq .f32 x x)) (T_math_NaN  H fun (r3 : Nat) (H3 : AHeap) => ∃ x3 : Nat, fnarrow r3 = some x3 ∧ K (.float .f32 x3) H3) (T_impl_IsFinite x H fun (r4 : Bool) (H4 : AHeap) => Br (!r4) (K (.float .f32 x) H4) (T_impl_naturalLog (fwide x) H4 fun (r5 : Nat) (H5 : AHeap) => ∃ x4 : Nat, fnarrow r5 = some x4 ∧ K (.float .f32 x4) H5))))) := by kernel_rfl
theorem E_impl_LogNumber_ok : ∀ g, FnOk Try.prog g (E_impl_LogNumber g) := FnOk.envOf (by
  intro x hx
  simp only [List.mem_cons, List.not_mem_nil, or_false] at hx
  rcases hx with rfl | rfl | rfl | rfl
  · exact math_Inf_ok
  · exact math_NaN_ok
  · exact impl_IsFinite_ok
  · exact impl_naturalLog_ok)
set_option maxHeartbeats 1000000 in
theorem impl_LogNumber_main (x : Nat) (H : AHeap) (K : Value → AHeap → Prop) (h : T_impl_LogNumber x H fun (r1 : Nat) (H' : AHeap) => K (.float .f32 r1) H') : bodyK Try.prog E_impl_LogNumber Try.f83 [.float .f32 x] H K := by
  rw [impl_LogNumber_vc]
  have hk := h
  unfold T_impl_LogNumber at hk
  have e : (p_impl_LogNumber x) = _ := rfl
  have e := e.trans (p_impl_LogNumber_eq x)
  have g0 := Grow.refl H
  refine Br.intro (fun c_1 => ?_) (fun c_1 => ?_)
  · have e := e.trans (cond_t c_1)
    refine T_math_Inf_i ?_
    refine ⟨_, opt_get (d := 0) (by decide +kernel), ?_⟩
    rw [e] at hk
    exact hk
  · have e := e.trans (cond_f c_1)
    refine Br.intro (fun c_2 => ?_) (fun c_2 => ?_)
    · have e := e.trans (cond_t c_2)
      refine T_math_NaN_i ?_
      refine ⟨_, opt_get (d := 0) (by decide +kernel), ?_⟩
      rw [e] at hk
      exact hk
    · have e := e.trans (cond_f c_2)
      refine Br.intro (fun c_3 => ?_) (fun c_3 => ?_)
      · have e := e.trans (cond_t c_3)
        have c_3n := nf_of_t c_3
        refine T_math_NaN_i ?_
        refine ⟨_, opt_get (d := 0) (by decide +kernel), ?_⟩
        rw [e] at hk
        exact hk
      · have e := e.trans (cond_f c_3)
        have c_3n := nt_of_f c_3
        refine T_impl_IsFinite_i ?_
        refine Br.intro (fun c_4 => ?_) (fun c_4 => ?_)
        · have e := e.trans (cond_t c_4)
          have c_4n := nf_of_t c_4
          rw [e] at hk
          exact hk
        · have e := e.trans (cond_f c_4)
          have c_4n := nt_of_f c_4
          refine T_impl_naturalLog_i ⟨(by first | assumption | omega | (simp; omega) | (first | exact (log_pre (by assumption) (by assumption) (by assumption)).1 | exact (log_pre (by assumption) (by assumption) (by assumption)).2)), (by first | assumption | omega | (simp; omega) | (first | exact (log_pre (by assumption) (by assumption) (by assumption)).1 | exact (log_pre (by assumption) (by assumption) (by assumption)).2)), ?_⟩
          refine ⟨_, opt_get (d := 0) (by exact impl_naturalLog_nar (log_pre (by assumption) (by assumption) (by assumption))), ?_⟩
          rw [e] at hk
          exact hk
theorem impl_LogNumber_ok : FnOk Try.prog 83 S_impl_LogNumber := by
  refine FnOk.body mix_ok E_impl_LogNumber_ok Try.func83 rfl (by kernel_rfl) (by kernel_rfl) ?_ ?_ ?_ ?_ ?_
  · intro args H K K' h hk
    simp only [S_impl_LogNumber] at *
    unfold F_impl_LogNumber at *
    split at hk
    · have k := hk
      exact h _ _ k
    · exact hk.elim
  · intro _ args H K hk
    simp only [S_impl_LogNumber] at *
    unfold F_impl_LogNumber at *
    split at hk
    · have k := hk
      exact ⟨_, k, fun K' k' => k'⟩
    · exact hk.elim
  · intro args H K hk
    simp only [S_impl_LogNumber] at *
    unfold F_impl_LogNumber at *
    split at hk
    · have k := hk
      exact ⟨_, _, k⟩
    · exact hk.elim
  · intro hq; cases hq
  · have mm := @impl_LogNumber_main
    revert mm
    generalize bodyK Try.prog E_impl_LogNumber Try.f83 = Q
    intro mm args H K hk
    simp only [S_impl_LogNumber] at *
    unfold F_impl_LogNumber at *
    split at hk
    · exact mm _ H K hk
    · exact hk.elim
def p_impl_PeakRatio (a_Wide : Int) (a_High : Int) (l_a_Lights : List Nat) (b_Wide : Int) (b_High : Int) (l_b_Lights : List Nat) (peak : Nat) : Nat × Bool := (bif !((p_impl_DistanceOf a_Wide a_High l_a_Lights b_Wide b_High l_b_Lights).2) then (0, false) else (bif !(p_impl_isOver peak) then (0, false) else (bif feq .f32 ((p_impl_DistanceOf a_Wide a_High l_a_Lights b_Wide b_High l_b_Lights).1) 0 then (0, false) else ((p_impl_finite (fdiv .f32 (fmul .f32 1101004800 ((p_impl_LogNumber (fdiv .f32 peak ((p_impl_DistanceOf a_Wide a_High l_a_Lights b_Wide b_High l_b_Lights).1))))) 1075010958)).1, (p_impl_finite (fdiv .f32 (fmul .f32 1101004800 ((p_impl_LogNumber (fdiv .f32 peak ((p_impl_DistanceOf a_Wide a_High l_a_Lights b_Wide b_High l_b_Lights).1))))) 1075010958)).2))))
theorem p_impl_PeakRatio_eq (a_Wide : Int) (a_High : Int) (l_a_Lights : List Nat) (b_Wide : Int) (b_High : Int) (l_b_Lights : List Nat) (peak : Nat) : p_impl_PeakRatio a_Wide a_High l_a_Lights b_Wide b_High l_b_Lights peak = (bif !((p_impl_DistanceOf a_Wide a_High l_a_Lights b_Wide b_High l_b_Lights).2) then (0, false) else (bif !(p_impl_isOver peak) then (0, false) else (bif feq .f32 ((p_impl_DistanceOf a_Wide a_High l_a_Lights b_Wide b_High l_b_Lights).1) 0 then (0, false) else ((p_impl_finite (fdiv .f32 (fmul .f32 1101004800 ((p_impl_LogNumber (fdiv .f32 peak ((p_impl_DistanceOf a_Wide a_High l_a_Lights b_Wide b_High l_b_Lights).1))))) 1075010958)).1, (p_impl_finite (fdiv .f32 (fmul .f32 1101004800 ((p_impl_LogNumber (fdiv .f32 peak ((p_impl_DistanceOf a_Wide a_High l_a_Lights b_Wide b_High l_b_Lights).1))))) 1075010958)).2)))) := rfl
def T_impl_PeakRatio (a_Wide : Int) (a_High : Int) (a_Lights_a : Option Addr) (a_Lights_n : Nat) (a_Lights_e : Nat) (b_Wide : Int) (b_High : Int) (b_Lights_a : Option Addr) (b_Lights_n : Nat) (b_Lights_e : Nat) (peak : Nat) (H : AHeap) (K : Nat → Bool → AHeap → Prop) : Prop := ∃ (l_a_Lights : List Nat), ∃ (l_b_Lights : List Nat), IsL fF H a_Lights_a a_Lights_n l_a_Lights ∧ IsL fF H b_Lights_a b_Lights_n l_b_Lights ∧ l_a_Lights.length < 1073741824 ∧ l_b_Lights.length < 1073741824 ∧ ((∀ H' : AHeap, Grow H H' → K ((p_impl_PeakRatio a_Wide a_High l_a_Lights b_Wide b_High l_b_Lights peak).1) ((p_impl_PeakRatio a_Wide a_High l_a_Lights b_Wide b_High l_b_Lights peak).2) H'))
theorem T_impl_PeakRatio_i {a_Wide : Int} {a_High : Int} {a_Lights_a : Option Addr} {a_Lights_n : Nat} {a_Lights_e : Nat} {b_Wide : Int} {b_High : Int} {b_Lights_a : Option Addr} {b_Lights_n : Nat} {b_Lights_e : Nat} {peak : Nat} {H : AHeap} {K : Nat → Bool → AHeap → Prop} (h : ∃ (l_a_Lights : List Nat), ∃ (l_b_Lights : List Nat), IsL fF H a_Lights_a a_Lights_n l_a_Lights ∧ IsL fF H b_Lights_a b_Lights_n l_b_Lights ∧ l_a_Lights.length < 1073741824 ∧ l_b_Lights.length < 1073741824 ∧ ((∀ H' : AHeap, Grow H H' → K ((p_impl_PeakRatio a_Wide a_High l_a_Lights b_Wide b_High l_b_Lights peak).1) ((p_impl_PeakRatio a_Wide a_High l_a_Lights b_Wide b_High l_b_Lights peak).2) H'))) : T_impl_PeakRatio a_Wide a_High a_Lights_a a_Lights_n a_Lights_e b_Wide b_High b_Lights_a b_Lights_n b_Lights_e peak H K := h

/-! impl_PeakRatio: function 53 -/
def E_impl_PeakRatio : Env := envOf [(110, S_impl_DistanceOf), (63, S_impl_isOver), (83, S_impl_LogNumber), (65, S_impl_finite)]
def F_impl_PeakRatio : List Value → AHeap → (Value → AHeap → Prop) → Prop
  | [.agg ⟨[.int .i64 a_Wide, .int .i64 a_High, .slice a_Lights_a a_Lights_n a_Lights_e]⟩, .agg ⟨[.int .i64 b_Wide, .int .i64 b_High, .slice b_Lights_a b_Lights_n b_Lights_e]⟩, .float .f32 peak], H, K => T_impl_PeakRatio a_Wide a_High a_Lights_a a_Lights_n a_Lights_e b_Wide b_High b_Lights_a b_Lights_n b_Lights_e peak H fun (r1 : Nat) (r2 : Bool) (H' : AHeap) => K (.tuple #[.float .f32 r1, .bool r2]) H'
  | _, _, _ => False
def S_impl_PeakRatio : FSpec := { F := F_impl_PeakRatio, quiet := false, tame := true }
theorem impl_PeakRatio_vc (a_Wide : Int) (a_High : Int) (a_Lights_a : Option Addr) (a_Lights_n : Nat) (a_Lights_e : Nat) (b_Wide : Int) (b_High : Int) (b_Lights_a : Option Addr) (b_Lights_n : Nat) (b_Lights_e : Nat) (peak : Nat) (H : AHeap) (K : Value → AHeap → Prop) : bodyK Try.prog E_impl_PeakRatio Try.f53 [.agg #[.int .i64 a_Wide, .int .i64 a_High, .slice a_Lights_a a_Lights_n a_Lights_e], .agg #[.int .i64 b_Wide, .int .i64 b_High, .slice b_Lights_a b_Lights_n b_Lights_e], .float .f32 peak] H K =
  (Al [.int .i64 a_Wide, .int .i64 a_High, .slice a_Lights_a a_Lights_n a_Lights_e] H fun b1 H1 => Al [.int .i64 b_Wide, .int .i64 b_High, .slice b_Lights_a b_Lights_n b_Lights_e] H1 fun b2 H2 => ∃ c1 : Int, ∃ c2 : Int, ∃ c3_a : Option Addr, ∃ c3_n : Nat, ∃ c3_e : Nat,  rdN H2 b1 0 3 = some [.int .i64 c1, .int .i64 c2, .slice c3_a c3_n c3_e] ∧ ∃ c4 : Int, ∃ c5 : Int, ∃ c6_a : Option Addr, ∃ c6_n : Nat, ∃ c6_e : Nat,  rdN H2 b2 0 3 = some [.int .i64 c4, .int .i64 c5, .slice c6_a c6_n c6_e] ∧ T_impl_DistanceOf c1 c2 c3_a c3_n c3_e c4 c5 c6_a c6_n c6_e H2 fun (r1 : Nat) (r2 : Bool) (H3 : AHeap) => Br (!r2) (K (.tuple #[.float .f32 0, .bool false]) H3) (T_impl_isOver peak H3 fun (r3 : Bool) (H4 : AHeap) => Br (!r3) (K (.tuple #[.float .f32 0, .bool false]) H4) (Br (feq .f32 r1 0) (K (.tuple #[.float .f32 0, .bool false]) H4) (T_impl_LogNumber (fdiv .f32 peak r1) H4 fun (r4 : Nat) (H5 : AHeap) => T_impl_finite (fdiv .f32 (fmul .f32 1101004800 r4) 1075010958) H5 fun (r5 : Nat) (r6 : Bool) (H6 : AHeap) => K (.tuple #[.float .f32 r5, .bool r6]) H6)))) := by kernel_rfl
theorem E_impl_PeakRatio_ok : ∀ g, FnOk Try.prog g (E_impl_PeakRatio g) := FnOk.envOf (by
  intro x hx
  simp only [List.mem_cons, List.not_mem_nil, or_false] at hx
  rcases hx with rfl | rfl | rfl | rfl
  · exact impl_DistanceOf_ok
  · exact impl_isOver_ok
  · exact impl_LogNumber_ok
  · exact impl_finite_ok)
set_option maxHeartbeats 1000000 in
theorem impl_PeakRatio_main (a_Wide : Int) (a_High : Int) (a_Lights_a : Option Addr) (a_Lights_n : Nat) (a_Lights_e : Nat) (b_Wide : Int) (b_High : Int) (b_Lights_a : Option Addr) (b_Lights_n : Nat) (b_Lights_e : Nat) (peak : Nat) (H : AHeap) (K : Value → AHeap → Prop) (h : T_impl_PeakRatio a_Wide a_High a_Lights_a a_Lights_n a_Lights_e b_Wide b_High b_Lights_a b_Lights_n b_Lights_e peak H fun (r1 : Nat) (r2 : Bool) (H' : AHeap) => K (.tuple #[.float .f32 r1, .bool r2]) H') : bodyK Try.prog E_impl_PeakRatio Try.f53 [.agg #[.int .i64 a_Wide, .int .i64 a_High, .slice a_Lights_a a_Lights_n a_Lights_e], .agg #[.int .i64 b_Wide, .int .i64 b_High, .slice b_Lights_a b_Lights_n b_Lights_e], .float .f32 peak] H K := by
  rw [impl_PeakRatio_vc]
  obtain ⟨l_a_Lights, l_b_Lights, i_a_Lights, i_b_Lights, bd_34, bd_35, hk⟩ := h
  obtain rfl := i_a_Lights.eqn
  obtain rfl := i_b_Lights.eqn
  have e : (p_impl_PeakRatio a_Wide a_High l_a_Lights b_Wide b_High l_b_Lights peak) = _ := rfl
  have e := e.trans (p_impl_PeakRatio_eq a_Wide a_High l_a_Lights b_Wide b_High l_b_Lights peak)
  have g0 := Grow.refl H
  refine Al.intro (fun b_1 H_1 hb_2 hl_3 g_4 o_5 => ?_)
  have l_7 := g_4.1
  have g_8 := g0.trans g_4
  have l_9 := g_8.1
  have w_33 := o_5.lt
  refine Al.intro (fun b_10 H_2 hb_11 hl_12 g_13 o_14 => ?_)
  have l_16 := g_13.1
  have g_17 := g_8.trans g_13
  have l_18 := g_17.1
  have o_19 := o_5.grow g_13
  have w_20 := o_19.lt
  have w_32 := o_14.lt
  refine ⟨a_Wide, a_High, a_Lights_a, l_a_Lights.length, a_Lights_e, (o_19.rdN (Nat.le_of_ble_eq_true rfl)).trans rfl, ?_⟩
  refine ⟨b_Wide, b_High, b_Lights_a, l_b_Lights.length, b_Lights_e, (o_14.rdN (Nat.le_of_ble_eq_true rfl)).trans rfl, ?_⟩
  refine T_impl_DistanceOf_i ⟨_, _, (i_a_Lights.grow g_17), (i_b_Lights.grow g_17), (by first | omega | (simp only [List.length_set, List.length_replicate, List.length_append, List.length_cons, List.length_nil, List.length_take, List.length_drop, marks_length]; done) | (simp only [List.length_set, List.length_replicate, List.length_append, List.length_cons, List.length_nil, List.length_take, List.length_drop, marks_length]; omega)), (by first | omega | (simp only [List.length_set, List.length_replicate, List.length_append, List.length_cons, List.length_nil, List.length_take, List.length_drop, marks_length]; done) | (simp only [List.length_set, List.length_replicate, List.length_append, List.length_cons, List.length_nil, List.length_take, List.length_drop, marks_length]; omega)), fun  H_3 g_21  => ?_⟩
  have l_22 := g_21.1
  have g_23 := g_17.trans g_21
  have l_24 := g_23.1
  have o_25 := o_19.grow g_21
  have w_26 := o_25.lt
  have o_27 := o_14.grow g_21
  have w_28 := o_27.lt
  refine Br.intro (fun c_29 => ?_) (fun c_29 => ?_)
  · have e := e.trans (cond_t c_29)
    have c_29n := nf_of_t c_29
    rw [e] at hk
    exact hk  H_3 g_23 
  · have e := e.trans (cond_f c_29)
    have c_29n := nt_of_f c_29
    refine T_impl_isOver_i ?_
    refine Br.intro (fun c_30 => ?_) (fun c_30 => ?_)
    · have e := e.trans (cond_t c_30)
      have c_30n := nf_of_t c_30
      rw [e] at hk
      exact hk  H_3 g_23 
    · have e := e.trans (cond_f c_30)
      have c_30n := nt_of_f c_30
      refine Br.intro (fun c_31 => ?_) (fun c_31 => ?_)
      · have e := e.trans (cond_t c_31)
        rw [e] at hk
        exact hk  H_3 g_23 
      · have e := e.trans (cond_f c_31)
        refine T_impl_LogNumber_i ?_
        refine T_impl_finite_i ?_
        rw [e] at hk
        exact hk  H_3 g_23 
theorem impl_PeakRatio_ok : FnOk Try.prog 53 S_impl_PeakRatio := by
  refine FnOk.body mix_ok E_impl_PeakRatio_ok Try.func53 rfl (by kernel_rfl) (by kernel_rfl) ?_ ?_ ?_ ?_ ?_
  · intro args H K K' h hk
    simp only [S_impl_PeakRatio] at *
    unfold F_impl_PeakRatio at *
    split at hk
    · obtain ⟨l_a_Lights, l_b_Lights, i_a_Lights, i_b_Lights, bd_34, bd_35, k⟩ := hk
      exact ⟨l_a_Lights, l_b_Lights, i_a_Lights, i_b_Lights, bd_34, bd_35, (fun  H' gg  => h _ _ (k  H' gg ))⟩
    · exact hk.elim
  · intro hq; cases hq
  · intro args H K hk
    simp only [S_impl_PeakRatio] at *
    unfold F_impl_PeakRatio at *
    split at hk
    · obtain ⟨l_a_Lights, l_b_Lights, i_a_Lights, i_b_Lights, bd_34, bd_35, k⟩ := hk
      exact ⟨_, _, k H (Grow.refl H)⟩
    · exact hk.elim
  · intro _ args H K hk
    simp only [S_impl_PeakRatio] at *
    unfold F_impl_PeakRatio at *
    split at hk
    · obtain ⟨l_a_Lights, l_b_Lights, i_a_Lights, i_b_Lights, bd_34, bd_35, k⟩ := hk
      exact ⟨l_a_Lights, l_b_Lights, i_a_Lights, i_b_Lights, bd_34, bd_35, (fun  H' gg  => ⟨gg, k  H' gg ⟩)⟩
    · exact hk.elim
  · have mm := @impl_PeakRatio_main
    revert mm
    generalize bodyK Try.prog E_impl_PeakRatio Try.f53 = Q
    intro mm args H K hk
    simp only [S_impl_PeakRatio] at *
    unfold F_impl_PeakRatio at *
    split at hk
    · exact mm _ _ _ _ _ _ _ _ _ _ _ H K hk
    · exact hk.elim
def p_laws_sameFloat (a : Nat) (b : Nat) : Bool := ((bif !(feq .f64 a a) then (bif !(feq .f64 a a) then !(feq .f64 b b) else false) else (bif !(feq .f64 b b) then (bif !(feq .f64 a a) then !(feq .f64 b b) else false) else (bif feq .f64 a 0 then (bif feq .f64 b 0 then (flt .f64 0 (fdiv .f64 4607182418800017408 a)) == (flt .f64 0 (fdiv .f64 4607182418800017408 b)) else feq .f64 a b) else feq .f64 a b))))
theorem p_laws_sameFloat_eq (a : Nat) (b : Nat) : p_laws_sameFloat a b = ((bif !(feq .f64 a a) then (bif !(feq .f64 a a) then !(feq .f64 b b) else false) else (bif !(feq .f64 b b) then (bif !(feq .f64 a a) then !(feq .f64 b b) else false) else (bif feq .f64 a 0 then (bif feq .f64 b 0 then (flt .f64 0 (fdiv .f64 4607182418800017408 a)) == (flt .f64 0 (fdiv .f64 4607182418800017408 b)) else feq .f64 a b) else feq .f64 a b)))) := rfl
def T_laws_sameFloat (a : Nat) (b : Nat) (H : AHeap) (K : Bool → AHeap → Prop) : Prop := K (p_laws_sameFloat a b) H

theorem T_laws_sameFloat_i {a : Nat} {b : Nat} {H : AHeap} {K : Bool → AHeap → Prop} (h : K (p_laws_sameFloat a b) H) : T_laws_sameFloat a b H K := h
/-! laws_sameFloat: function 18 -/
def E_laws_sameFloat : Env := envOf []
def F_laws_sameFloat : List Value → AHeap → (Value → AHeap → Prop) → Prop
  | [.float .f64 a, .float .f64 b], H, K => T_laws_sameFloat a b H fun (r1 : Bool) (H' : AHeap) => K (.bool r1) H'
  | _, _, _ => False
def S_laws_sameFloat : FSpec := { F := F_laws_sameFloat, quiet := true, tame := false }
theorem laws_sameFloat_vc (a : Nat) (b : Nat) (H : AHeap) (K : Value → AHeap → Prop) : bodyK Try.prog E_laws_sameFloat Try.f18 [.float .f64 a, .float .f64 b] H K =
  (Br (!(feq .f64 a a)) (Br (!(feq .f64 a a)) (K (.bool (!(feq .f64 b b))) H) (K (.bool false) H)) (Br (!(feq .f64 b b)) (Br (!(feq .f64 a a)) (K (.bool (!(feq .f64 b b))) H) (K (.bool false) H)) (Br (feq .f64 a 0) (Br (feq .f64 b 0) (K (.bool ((flt .f64 0 (fdiv .f64 4607182418800017408 a)) == (flt .f64 0 (fdiv .f64 4607182418800017408 b)))) H) (K (.bool (feq .f64 a b)) H)) (K (.bool (feq .f64 a b)) H)))) := by kernel_rfl
theorem E_laws_sameFloat_ok : ∀ g, FnOk Try.prog g (E_laws_sameFloat g) := FnOk.envOf (by
  intro x hx; cases hx)
set_option maxHeartbeats 1000000 in
theorem laws_sameFloat_main (a : Nat) (b : Nat) (H : AHeap) (K : Value → AHeap → Prop) (h : T_laws_sameFloat a b H fun (r1 : Bool) (H' : AHeap) => K (.bool r1) H') : bodyK Try.prog E_laws_sameFloat Try.f18 [.float .f64 a, .float .f64 b] H K := by
  rw [laws_sameFloat_vc]
  unfold T_laws_sameFloat p_laws_sameFloat at h
  repeat' (first | exact h | (exfalso; simp_all; done) | (refine ⟨by decide, ?_⟩) | (refine Br.intro (fun hb => ?_) (fun hb => ?_) <;> (try simp only [hb, cond_true, cond_false, Bool.not_true, Bool.not_false] at h)))
theorem laws_sameFloat_ok : FnOk Try.prog 18 S_laws_sameFloat := by
  refine FnOk.body mix_ok E_laws_sameFloat_ok Try.func18 rfl (by kernel_rfl) (by kernel_rfl) ?_ ?_ ?_ ?_ ?_
  · intro args H K K' h hk
    simp only [S_laws_sameFloat] at *
    unfold F_laws_sameFloat at *
    split at hk
    · have k := hk
      exact h _ _ k
    · exact hk.elim
  · intro _ args H K hk
    simp only [S_laws_sameFloat] at *
    unfold F_laws_sameFloat at *
    split at hk
    · have k := hk
      exact ⟨_, k, fun K' k' => k'⟩
    · exact hk.elim
  · intro args H K hk
    simp only [S_laws_sameFloat] at *
    unfold F_laws_sameFloat at *
    split at hk
    · have k := hk
      exact ⟨_, _, k⟩
    · exact hk.elim
  · intro hq; cases hq
  · have mm := @laws_sameFloat_main
    revert mm
    generalize bodyK Try.prog E_laws_sameFloat Try.f18 = Q
    intro mm args H K hk
    simp only [S_laws_sameFloat] at *
    unfold F_laws_sameFloat at *
    split at hk
    · exact mm _ _ H K hk
    · exact hk.elim
def p_laws_eqFloat32S_l1 (l_a : List Nat) (l_b : List Nat) : Nat → Bool → Int → Bool
  | 0, _, _ => false
  | μ + 1, t4, i => (bif decide ((i : Int) < (l_a.length : Int)) then (bif !((p_laws_sameFloat (fwide (((l_a).getD (i : Int).toNat 0))) (fwide (((l_b).getD (i : Int).toNat 0))))) then false else (p_laws_eqFloat32S_l1 l_a l_b μ t4 (i + 1))) else true)
theorem p_laws_eqFloat32S_l1_s (l_a : List Nat) (l_b : List Nat) (μ : Nat) (t4 : Bool) (i : Int) : p_laws_eqFloat32S_l1 l_a l_b (μ + 1) t4 i = (bif decide ((i : Int) < (l_a.length : Int)) then (bif !((p_laws_sameFloat (fwide (((l_a).getD (i : Int).toNat 0))) (fwide (((l_b).getD (i : Int).toNat 0))))) then false else (p_laws_eqFloat32S_l1 l_a l_b μ t4 (i + 1))) else true) := rfl
def p_laws_eqFloat32S (l_a : List Nat) (l_b : List Nat) : Bool := ((bif ((l_a.length : Int) : Int) != (l_b.length : Int) then false else (p_laws_eqFloat32S_l1 l_a l_b (Int.toNat ((l_a.length : Int) - (0 : Int)) + 1) false (0 : Int))))
theorem p_laws_eqFloat32S_eq (l_a : List Nat) (l_b : List Nat) : p_laws_eqFloat32S l_a l_b = ((bif ((l_a.length : Int) : Int) != (l_b.length : Int) then false else (p_laws_eqFloat32S_l1 l_a l_b (Int.toNat ((l_a.length : Int) - (0 : Int)) + 1) false (0 : Int)))) := rfl
def T_laws_eqFloat32S (a_a : Option Addr) (a_n : Nat) (a_e : Nat) (b_a : Option Addr) (b_n : Nat) (b_e : Nat) (H : AHeap) (K : Bool → AHeap → Prop) : Prop := ∃ (l_a : List Nat), ∃ (l_b : List Nat), IsL fF H a_a a_n l_a ∧ IsL fF H b_a b_n l_b ∧ l_a.length < 1073741824 ∧ l_b.length < 1073741824 ∧ K (p_laws_eqFloat32S l_a l_b) H
theorem T_laws_eqFloat32S_i {a_a : Option Addr} {a_n : Nat} {a_e : Nat} {b_a : Option Addr} {b_n : Nat} {b_e : Nat} {H : AHeap} {K : Bool → AHeap → Prop} (h : ∃ (l_a : List Nat), ∃ (l_b : List Nat), IsL fF H a_a a_n l_a ∧ IsL fF H b_a b_n l_b ∧ l_a.length < 1073741824 ∧ l_b.length < 1073741824 ∧ K (p_laws_eqFloat32S l_a l_b) H) : T_laws_eqFloat32S a_a a_n a_e b_a b_n b_e H K := h
theorem laws_sameFloat_self (y : Nat) : p_laws_sameFloat y y = true := by
  rw [p_laws_sameFloat_eq]
  cases feq .f64 y y <;> simp
theorem laws_eqFloat32S_go (l : List Nat) : ∀ (μ : Nat) (t : Bool) (i : Nat), l.length - i < μ → p_laws_eqFloat32S_l1 l l μ t (i : Int) = true := by
  intro μ
  induction μ with
  | zero => intro t i h; omega
  | succ μ ih =>
    intro t i hm
    rw [p_laws_eqFloat32S_l1_s]
    by_cases h : i < l.length
    · rw [decide_eq_true (show (i : Int) < (l.length : Int) by omega), cond_true, laws_sameFloat_self]
      simp only [Bool.not_true, cond_false]
      exact ih t (i + 1) (by omega)
    · rw [decide_eq_false (show ¬ (i : Int) < (l.length : Int) by omega), cond_false]
theorem laws_eqFloat32S_self (l : List Nat) : p_laws_eqFloat32S l l = true := by
  rw [p_laws_eqFloat32S_eq]
  have h0 : ((l.length : Int) != (l.length : Int)) = false := by simp
  rw [h0, cond_false]
  exact laws_eqFloat32S_go l _ false 0 (by omega)
/-! laws_eqFloat32S: function 19 -/
def E_laws_eqFloat32S : Env := envOf [(18, S_laws_sameFloat)]
def F_laws_eqFloat32S : List Value → AHeap → (Value → AHeap → Prop) → Prop
  | [.slice a_a a_n a_e, .slice b_a b_n b_e], H, K => T_laws_eqFloat32S a_a a_n a_e b_a b_n b_e H fun (r1 : Bool) (H' : AHeap) => K (.bool r1) H'
  | _, _, _ => False
def S_laws_eqFloat32S : FSpec := { F := F_laws_eqFloat32S, quiet := true, tame := false }
theorem laws_eqFloat32S_vc (a_a : Option Addr) (a_n : Nat) (a_e : Nat) (b_a : Option Addr) (b_n : Nat) (b_e : Nat) (H : AHeap) (K : Value → AHeap → Prop) : bodyK Try.prog E_laws_eqFloat32S Try.f19 [.slice a_a a_n a_e, .slice b_a b_n b_e] H K =
  (Br (((a_n : Int) : Int) != (b_n : Int)) (K (.bool false) H) (loopK (exK Try.prog E_laws_eqFloat32S (cl (cl (cr (cl (cr (cr (bodyC Try.f19)))))))) [.slice a_a a_n a_e, .slice b_a b_n b_e, undef, undef, .bool false, .int .i64 0, .slice a_a a_n a_e, .int .i64 (a_n : Int), .slice b_a b_n b_e, .int .i64 (b_n : Int), .bool (((a_n : Int) : Int) != (b_n : Int)), undef, undef, undef, undef, undef, undef, undef, undef, undef, undef, undef, undef, undef, undef, undef, undef, undef, undef] H (blockQ 0 (seqQ (exK Try.prog E_laws_eqFloat32S (cr (cr (cr (bodyC Try.f19))))) (retK Try.prog Try.f19 K))))) := by kernel_rfl
theorem laws_eqFloat32S_r1 (a_a : Option Addr) (a_e : Nat) (a_n : Nat) (b_a : Option Addr) (b_e : Nat) (b_n : Nat) (t4 : Bool) (i : Int) (g11 g12 g13 g14 g15 g16 g17 g18 g19 g20 g21 g22 g23 g24 g25 g26 g27 g28 : Value) (H : AHeap) (R : Post) : exK Try.prog E_laws_eqFloat32S (cl (cl (cr (cl (cr (cr (bodyC Try.f19))))))) [.slice a_a a_n a_e, .slice b_a b_n b_e, undef, undef, .bool t4, .int .i64 i, .slice a_a a_n a_e, .int .i64 (a_n : Int), .slice b_a b_n b_e, .int .i64 (b_n : Int), .bool (((a_n : Int) : Int) != (b_n : Int)), g11, g12, g13, g14, g15, g16, g17, g18, g19, g20, g21, g22, g23, g24, g25, g26, g27, g28] H R =
  (Br (decide ((i : Int) < (a_n : Int))) ((0 : Int) ≤ i ∧ i < (a_n : Int) ∧ ∃ b1 f1, (a_a : Option Addr) = some ⟨b1, f1, none⟩ ∧ ∃ x1 : Nat,  rdC H b1 (f1 + (i : Int).toNat * 1) = some (.float .f32 x1) ∧ (0 : Int) ≤ i ∧ i < (b_n : Int) ∧ ∃ b2 f2, (b_a : Option Addr) = some ⟨b2, f2, none⟩ ∧ ∃ x2 : Nat,  rdC H b2 (f2 + (i : Int).toNat * 1) = some (.float .f32 x2) ∧ T_laws_sameFloat (fwide x1) (fwide x2) H fun (r1 : Bool) (H1 : AHeap) => Br (!r1) (R .ret [.slice a_a a_n a_e, .slice b_a b_n b_e, undef, undef, .bool false, .int .i64 i, .slice a_a a_n a_e, .int .i64 (a_n : Int), .slice b_a b_n b_e, .int .i64 (b_n : Int), .bool (((a_n : Int) : Int) != (b_n : Int)), .int .i64 i, .slice a_a a_n a_e, .int .i64 (a_n : Int), .bool (decide ((i : Int) < (a_n : Int))), g15, g16, .slice a_a a_n a_e, .int .i64 i, .pointer (some ⟨b1, f1 + (i : Int).toNat * 1, none⟩), .float .f32 x1, .float .f64 (fwide x1), .slice b_a b_n b_e, .int .i64 i, .pointer (some ⟨b2, f2 + (i : Int).toNat * 1, none⟩), .float .f32 x2, .float .f64 (fwide x2), .bool r1, .bool (!r1)] H1) (R .normal [.slice a_a a_n a_e, .slice b_a b_n b_e, undef, undef, .bool t4, .int .i64 (IntKind.wrap .i64 (i + 1)), .slice a_a a_n a_e, .int .i64 (a_n : Int), .slice b_a b_n b_e, .int .i64 (b_n : Int), .bool (((a_n : Int) : Int) != (b_n : Int)), .int .i64 i, .slice a_a a_n a_e, .int .i64 (a_n : Int), .bool (decide ((i : Int) < (a_n : Int))), .int .i64 i, .int .i64 (IntKind.wrap .i64 (i + 1)), .slice a_a a_n a_e, .int .i64 i, .pointer (some ⟨b1, f1 + (i : Int).toNat * 1, none⟩), .float .f32 x1, .float .f64 (fwide x1), .slice b_a b_n b_e, .int .i64 i, .pointer (some ⟨b2, f2 + (i : Int).toNat * 1, none⟩), .float .f32 x2, .float .f64 (fwide x2), .bool r1, .bool (!r1)] H1)) (R (.exit 0) [.slice a_a a_n a_e, .slice b_a b_n b_e, undef, undef, .bool t4, .int .i64 i, .slice a_a a_n a_e, .int .i64 (a_n : Int), .slice b_a b_n b_e, .int .i64 (b_n : Int), .bool (((a_n : Int) : Int) != (b_n : Int)), .int .i64 i, .slice a_a a_n a_e, .int .i64 (a_n : Int), .bool (decide ((i : Int) < (a_n : Int))), g15, g16, g17, g18, g19, g20, g21, g22, g23, g24, g25, g26, g27, g28] H)) := by kernel_rfl
def laws_eqFloat32S_I1 (a_a : Option Addr) (a_e : Nat) (a_n : Nat) (b_a : Option Addr) (b_e : Nat) (b_n : Nat) (Inv : Nat → Bool → Int → AHeap → Prop) : Nat → List Value → AHeap → Prop := fun μ tm H => ∃ (t4 : Bool), ∃ (i : Int), ∃ g11 g12 g13 g14 g15 g16 g17 g18 g19 g20 g21 g22 g23 g24 g25 g26 g27 g28, tm = [.slice a_a a_n a_e, .slice b_a b_n b_e, undef, undef, .bool t4, .int .i64 i, .slice a_a a_n a_e, .int .i64 (a_n : Int), .slice b_a b_n b_e, .int .i64 (b_n : Int), .bool (((a_n : Int) : Int) != (b_n : Int)), g11, g12, g13, g14, g15, g16, g17, g18, g19, g20, g21, g22, g23, g24, g25, g26, g27, g28] ∧ Inv μ t4 i H
theorem laws_eqFloat32S_L1 (a_a : Option Addr) (a_e : Nat) (a_n : Nat) (b_a : Option Addr) (b_e : Nat) (b_n : Nat) {Q : Post} (Inv : Nat → Bool → Int → AHeap → Prop) (ν : Nat) (t4 : Bool) (i : Int) (g11 g12 g13 g14 g15 g16 g17 g18 g19 g20 g21 g22 g23 g24 g25 g26 g27 g28 : Value) (H : AHeap) (h0 : Inv ν t4 i H)
    (hs : ∀ (μ : Nat) (t4 : Bool) (i : Int) (g11 g12 g13 g14 g15 g16 g17 g18 g19 g20 g21 g22 g23 g24 g25 g26 g27 g28 : Value) (H : AHeap), Inv μ t4 i H → exK Try.prog E_laws_eqFloat32S (cl (cl (cr (cl (cr (cr (bodyC Try.f19))))))) [.slice a_a a_n a_e, .slice b_a b_n b_e, undef, undef, .bool t4, .int .i64 i, .slice a_a a_n a_e, .int .i64 (a_n : Int), .slice b_a b_n b_e, .int .i64 (b_n : Int), .bool (((a_n : Int) : Int) != (b_n : Int)), g11, g12, g13, g14, g15, g16, g17, g18, g19, g20, g21, g22, g23, g24, g25, g26, g27, g28] H (loopQ (laws_eqFloat32S_I1 a_a a_e a_n b_a b_e b_n Inv) μ Q)) : loopK (exK Try.prog E_laws_eqFloat32S (cl (cl (cr (cl (cr (cr (bodyC Try.f19)))))))) [.slice a_a a_n a_e, .slice b_a b_n b_e, undef, undef, .bool t4, .int .i64 i, .slice a_a a_n a_e, .int .i64 (a_n : Int), .slice b_a b_n b_e, .int .i64 (b_n : Int), .bool (((a_n : Int) : Int) != (b_n : Int)), g11, g12, g13, g14, g15, g16, g17, g18, g19, g20, g21, g22, g23, g24, g25, g26, g27, g28] H Q :=
  ⟨laws_eqFloat32S_I1 a_a a_e a_n b_a b_e b_n Inv, ν, ⟨t4, i, g11, g12, g13, g14, g15, g16, g17, g18, g19, g20, g21, g22, g23, g24, g25, g26, g27, g28, rfl, h0⟩, fun μ tm H h => by obtain ⟨t4, i, g11, g12, g13, g14, g15, g16, g17, g18, g19, g20, g21, g22, g23, g24, g25, g26, g27, g28, rfl, hI⟩ := h; exact hs μ t4 i g11 g12 g13 g14 g15 g16 g17 g18 g19 g20 g21 g22 g23 g24 g25 g26 g27 g28 H hI⟩
theorem laws_eqFloat32S_n1 {a_a : Option Addr} {a_e : Nat} {a_n : Nat} {b_a : Option Addr} {b_e : Nat} {b_n : Nat} {Q : Post} {Inv : Nat → Bool → Int → AHeap → Prop} {μ : Nat} (μ' : Nat) {t4 : Bool} {i : Int} {g11 g12 g13 g14 g15 g16 g17 g18 g19 g20 g21 g22 g23 g24 g25 g26 g27 g28 : Value} {H : AHeap} (hm : μ' < μ) (hI : Inv μ' t4 i H) : loopQ (laws_eqFloat32S_I1 a_a a_e a_n b_a b_e b_n Inv) μ Q .normal [.slice a_a a_n a_e, .slice b_a b_n b_e, undef, undef, .bool t4, .int .i64 i, .slice a_a a_n a_e, .int .i64 (a_n : Int), .slice b_a b_n b_e, .int .i64 (b_n : Int), .bool (((a_n : Int) : Int) != (b_n : Int)), g11, g12, g13, g14, g15, g16, g17, g18, g19, g20, g21, g22, g23, g24, g25, g26, g27, g28] H := ⟨μ', hm, t4, i, g11, g12, g13, g14, g15, g16, g17, g18, g19, g20, g21, g22, g23, g24, g25, g26, g27, g28, rfl, hI⟩
theorem laws_eqFloat32S_x1_0 (a_a : Option Addr) (a_e : Nat) (a_n : Nat) (b_a : Option Addr) (b_e : Nat) (b_n : Nat) (t4 : Bool) (i : Int) (g11 g12 g13 g14 g15 g16 g17 g18 g19 g20 g21 g22 g23 g24 g25 g26 g27 g28 : Value) (H : AHeap) (K : Value → AHeap → Prop)  {I : Nat → List Value → AHeap → Prop} {μ : Nat} : loopQ I μ (blockQ 0 (seqQ (exK Try.prog E_laws_eqFloat32S (cr (cr (cr (bodyC Try.f19))))) (retK Try.prog Try.f19 K))) (.exit 0) [.slice a_a a_n a_e, .slice b_a b_n b_e, undef, undef, .bool t4, .int .i64 i, .slice a_a a_n a_e, .int .i64 (a_n : Int), .slice b_a b_n b_e, .int .i64 (b_n : Int), .bool (((a_n : Int) : Int) != (b_n : Int)), g11, g12, g13, g14, g15, g16, g17, g18, g19, g20, g21, g22, g23, g24, g25, g26, g27, g28] H =
  (K (.bool true) H) := by kernel_rfl
theorem laws_eqFloat32S_x1_ret (a_a : Option Addr) (a_e : Nat) (a_n : Nat) (b_a : Option Addr) (b_e : Nat) (b_n : Nat) (t4 : Bool) (i : Int) (g11 g12 g13 g14 g15 g16 g17 g18 g19 g20 g21 g22 g23 g24 g25 g26 g27 g28 : Value) (H : AHeap) (K : Value → AHeap → Prop)  {I : Nat → List Value → AHeap → Prop} {μ : Nat} : loopQ I μ (blockQ 0 (seqQ (exK Try.prog E_laws_eqFloat32S (cr (cr (cr (bodyC Try.f19))))) (retK Try.prog Try.f19 K))) .ret [.slice a_a a_n a_e, .slice b_a b_n b_e, undef, undef, .bool t4, .int .i64 i, .slice a_a a_n a_e, .int .i64 (a_n : Int), .slice b_a b_n b_e, .int .i64 (b_n : Int), .bool (((a_n : Int) : Int) != (b_n : Int)), g11, g12, g13, g14, g15, g16, g17, g18, g19, g20, g21, g22, g23, g24, g25, g26, g27, g28] H =
  (K (.bool t4) H) := by kernel_rfl
theorem E_laws_eqFloat32S_ok : ∀ g, FnOk Try.prog g (E_laws_eqFloat32S g) := FnOk.envOf (by
  intro x hx
  simp only [List.mem_cons, List.not_mem_nil, or_false] at hx
  subst hx; exact laws_sameFloat_ok)
set_option maxHeartbeats 1000000 in
theorem laws_eqFloat32S_main (a_a : Option Addr) (a_n : Nat) (a_e : Nat) (b_a : Option Addr) (b_n : Nat) (b_e : Nat) (H : AHeap) (K : Value → AHeap → Prop) (h : T_laws_eqFloat32S a_a a_n a_e b_a b_n b_e H fun (r1 : Bool) (H' : AHeap) => K (.bool r1) H') : bodyK Try.prog E_laws_eqFloat32S Try.f19 [.slice a_a a_n a_e, .slice b_a b_n b_e] H K := by
  rw [laws_eqFloat32S_vc]
  obtain ⟨l_a, l_b, i_a, i_b, bd_13, bd_14, hk⟩ := h
  obtain rfl := i_a.eqn
  obtain rfl := i_b.eqn
  have e : (p_laws_eqFloat32S l_a l_b) = _ := rfl
  have e := e.trans (p_laws_eqFloat32S_eq l_a l_b)
  have g0 := Grow.refl H
  refine Br.intro (fun c_1 => ?_) (fun c_1 => ?_)
  · have e := e.trans (cond_t c_1)
    have c_1' := ine_t c_1
    rw [e] at hk
    exact hk
  · have e := e.trans (cond_f c_1)
    have c_1' := ine_f c_1
    refine laws_eqFloat32S_L1 _ _ _ _ _ _ (fun (μ : Nat) (t4 : Bool) (i : Int) (H_1 : AHeap) => H = H_1 ∧ (0 : Int) ≤ i ∧ i ≤ (l_a.length : Int) ∧ (l_a.length : Int) - i ≤ (μ : Int) ∧ p_laws_eqFloat32S l_a l_b = p_laws_eqFloat32S_l1 l_a l_b (μ + 1) t4 i) (Int.toNat ((l_a.length : Int) - (0 : Int))) _ _ _ _ _ _ _ _ _ _ _ _ _ _ _ _ _ _ _ _ H ?_ ?_
    · exact ⟨rfl, (by first | omega | (simp; done) | (simp; omega)), (by first | omega | (simp; done) | (simp; omega)), (by omega), e⟩
    · intro μ t4 i g11 g12 g13 g14 g15 g16 g17 g18 g19 g20 g21 g22 g23 g24 g25 g26 g27 g28 H_1 hI
      obtain ⟨rfl, v_2, v_3, hμ, e⟩ := hI
      rw [laws_eqFloat32S_r1]
      have e := e.trans (p_laws_eqFloat32S_l1_s l_a l_b μ t4 i)
      have l_4 := g0.1
      refine Br.intro (fun c_5 => ?_) (fun c_5 => ?_)
      · have e := e.trans (cond_t c_5)
        have c_5' := of_decide_eq_true c_5
        obtain ⟨b_6, f_7, q_8⟩ := ((i_a.grow g0)).pos (by first | omega | (simp only [List.length_set, List.length_replicate, List.length_append, List.length_cons, List.length_nil, List.length_take, List.length_drop, marks_length]; done) | (simp only [List.length_set, List.length_replicate, List.length_append, List.length_cons, List.length_nil, List.length_take, List.length_drop, marks_length]; omega))
        refine ⟨by omega, by omega, b_6, f_7, q_8, ?_⟩
        refine ⟨((l_a).getD (i : Int).toNat 0), (i_a).rd g0 q_8 (by omega) _, ?_⟩
        obtain ⟨b_9, f_10, q_11⟩ := ((i_b.grow g0)).pos (by first | omega | (simp only [List.length_set, List.length_replicate, List.length_append, List.length_cons, List.length_nil, List.length_take, List.length_drop, marks_length]; done) | (simp only [List.length_set, List.length_replicate, List.length_append, List.length_cons, List.length_nil, List.length_take, List.length_drop, marks_length]; omega))
        refine ⟨by omega, by omega, b_9, f_10, q_11, ?_⟩
        refine ⟨((l_b).getD (i : Int).toNat 0), (i_b).rd g0 q_11 (by omega) _, ?_⟩
        refine T_laws_sameFloat_i ?_
        refine Br.intro (fun c_12 => ?_) (fun c_12 => ?_)
        · have e := e.trans (cond_t c_12)
          have c_12n := nf_of_t c_12
          rw [laws_eqFloat32S_x1_ret]
          rw [e] at hk
          exact hk
        · have e := e.trans (cond_f c_12)
          have c_12n := nt_of_f c_12
          rw [show IntKind.wrap .i64 (i + 1) = (i + 1) from wrap64 (by omega) (by omega)]
          refine laws_eqFloat32S_n1 (μ - 1) (by first | omega) ⟨rfl, (by first | omega | (simp only [List.length_append, List.length_cons, List.length_nil, List.length_set]; done) | (simp only [List.length_append, List.length_cons, List.length_nil, List.length_set]; omega)), (by first | omega | (simp only [List.length_append, List.length_cons, List.length_nil, List.length_set]; done) | (simp only [List.length_append, List.length_cons, List.length_nil, List.length_set]; omega)), (by first | omega), (by rw [show μ - 1 + 1 = μ from by first | omega]; exact e)⟩
      · have e := e.trans (cond_f c_5)
        have c_5' := of_decide_eq_false c_5
        rw [laws_eqFloat32S_x1_0]
        rw [e] at hk
        exact hk
theorem laws_eqFloat32S_ok : FnOk Try.prog 19 S_laws_eqFloat32S := by
  refine FnOk.body mix_ok E_laws_eqFloat32S_ok Try.func19 rfl (by kernel_rfl) (by kernel_rfl) ?_ ?_ ?_ ?_ ?_
  · intro args H K K' h hk
    simp only [S_laws_eqFloat32S] at *
    unfold F_laws_eqFloat32S at *
    split at hk
    · obtain ⟨l_a, l_b, i_a, i_b, bd_13, bd_14, k⟩ := hk
      exact ⟨l_a, l_b, i_a, i_b, bd_13, bd_14, h _ _ k⟩
    · exact hk.elim
  · intro _ args H K hk
    simp only [S_laws_eqFloat32S] at *
    unfold F_laws_eqFloat32S at *
    split at hk
    · obtain ⟨l_a, l_b, i_a, i_b, bd_13, bd_14, k⟩ := hk
      exact ⟨_, k, fun K' k' => ⟨l_a, l_b, i_a, i_b, bd_13, bd_14, k'⟩⟩
    · exact hk.elim
  · intro args H K hk
    simp only [S_laws_eqFloat32S] at *
    unfold F_laws_eqFloat32S at *
    split at hk
    · obtain ⟨l_a, l_b, i_a, i_b, bd_13, bd_14, k⟩ := hk
      exact ⟨_, _, k⟩
    · exact hk.elim
  · intro hq; cases hq
  · have mm := @laws_eqFloat32S_main
    revert mm
    generalize bodyK Try.prog E_laws_eqFloat32S Try.f19 = Q
    intro mm args H K hk
    simp only [S_laws_eqFloat32S] at *
    unfold F_laws_eqFloat32S at *
    split at hk
    · exact mm _ _ _ _ _ _ H K hk
    · exact hk.elim
def p_laws_eqPicture (a_Wide : Int) (a_High : Int) (l_a_Lights : List Nat) (b_Wide : Int) (b_High : Int) (l_b_Lights : List Nat) : Bool := ((bif (a_Wide : Int) != b_Wide then false else (bif (a_High : Int) != b_High then false else (bif !(p_laws_eqFloat32S l_a_Lights l_b_Lights) then false else true))))
theorem p_laws_eqPicture_eq (a_Wide : Int) (a_High : Int) (l_a_Lights : List Nat) (b_Wide : Int) (b_High : Int) (l_b_Lights : List Nat) : p_laws_eqPicture a_Wide a_High l_a_Lights b_Wide b_High l_b_Lights = ((bif (a_Wide : Int) != b_Wide then false else (bif (a_High : Int) != b_High then false else (bif !(p_laws_eqFloat32S l_a_Lights l_b_Lights) then false else true)))) := rfl
def T_laws_eqPicture (a_Wide : Int) (a_High : Int) (a_Lights_a : Option Addr) (a_Lights_n : Nat) (a_Lights_e : Nat) (b_Wide : Int) (b_High : Int) (b_Lights_a : Option Addr) (b_Lights_n : Nat) (b_Lights_e : Nat) (H : AHeap) (K : Bool → AHeap → Prop) : Prop := ∃ (l_a_Lights : List Nat), ∃ (l_b_Lights : List Nat), IsL fF H a_Lights_a a_Lights_n l_a_Lights ∧ IsL fF H b_Lights_a b_Lights_n l_b_Lights ∧ l_a_Lights.length < 1073741824 ∧ l_b_Lights.length < 1073741824 ∧ ((∀ H' : AHeap, Grow H H' → K (p_laws_eqPicture a_Wide a_High l_a_Lights b_Wide b_High l_b_Lights) H'))
theorem T_laws_eqPicture_i {a_Wide : Int} {a_High : Int} {a_Lights_a : Option Addr} {a_Lights_n : Nat} {a_Lights_e : Nat} {b_Wide : Int} {b_High : Int} {b_Lights_a : Option Addr} {b_Lights_n : Nat} {b_Lights_e : Nat} {H : AHeap} {K : Bool → AHeap → Prop} (h : ∃ (l_a_Lights : List Nat), ∃ (l_b_Lights : List Nat), IsL fF H a_Lights_a a_Lights_n l_a_Lights ∧ IsL fF H b_Lights_a b_Lights_n l_b_Lights ∧ l_a_Lights.length < 1073741824 ∧ l_b_Lights.length < 1073741824 ∧ ((∀ H' : AHeap, Grow H H' → K (p_laws_eqPicture a_Wide a_High l_a_Lights b_Wide b_High l_b_Lights) H'))) : T_laws_eqPicture a_Wide a_High a_Lights_a a_Lights_n a_Lights_e b_Wide b_High b_Lights_a b_Lights_n b_Lights_e H K := h
theorem laws_eqPicture_self (a b : Int) (l : List Nat) : p_laws_eqPicture a b l a b l = true := by
  rw [p_laws_eqPicture_eq, laws_eqFloat32S_self]
  simp
/-! laws_eqPicture: function 41 -/
def E_laws_eqPicture : Env := envOf [(19, S_laws_eqFloat32S)]
def F_laws_eqPicture : List Value → AHeap → (Value → AHeap → Prop) → Prop
  | [.agg ⟨[.int .i64 a_Wide, .int .i64 a_High, .slice a_Lights_a a_Lights_n a_Lights_e]⟩, .agg ⟨[.int .i64 b_Wide, .int .i64 b_High, .slice b_Lights_a b_Lights_n b_Lights_e]⟩], H, K => T_laws_eqPicture a_Wide a_High a_Lights_a a_Lights_n a_Lights_e b_Wide b_High b_Lights_a b_Lights_n b_Lights_e H fun (r1 : Bool) (H' : AHeap) => K (.bool r1) H'
  | _, _, _ => False
def S_laws_eqPicture : FSpec := { F := F_laws_eqPicture, quiet := false, tame := true }
theorem laws_eqPicture_vc (a_Wide : Int) (a_High : Int) (a_Lights_a : Option Addr) (a_Lights_n : Nat) (a_Lights_e : Nat) (b_Wide : Int) (b_High : Int) (b_Lights_a : Option Addr) (b_Lights_n : Nat) (b_Lights_e : Nat) (H : AHeap) (K : Value → AHeap → Prop) : bodyK Try.prog E_laws_eqPicture Try.f41 [.agg #[.int .i64 a_Wide, .int .i64 a_High, .slice a_Lights_a a_Lights_n a_Lights_e], .agg #[.int .i64 b_Wide, .int .i64 b_High, .slice b_Lights_a b_Lights_n b_Lights_e]] H K =
  (Al [.int .i64 a_Wide, .int .i64 a_High, .slice a_Lights_a a_Lights_n a_Lights_e] H fun b1 H1 => Al [.int .i64 b_Wide, .int .i64 b_High, .slice b_Lights_a b_Lights_n b_Lights_e] H1 fun b2 H2 => ∃ x1 : Int,  rdC H2 b1 0 = some (.int .i64 x1) ∧ ∃ x2 : Int,  rdC H2 b2 0 = some (.int .i64 x2) ∧ Br ((x1 : Int) != x2) (K (.bool false) H2) (∃ x3 : Int,  rdC H2 b1 1 = some (.int .i64 x3) ∧ ∃ x4 : Int,  rdC H2 b2 1 = some (.int .i64 x4) ∧ Br ((x3 : Int) != x4) (K (.bool false) H2) (∃ x5_a : Option Addr, ∃ x5_n : Nat, ∃ x5_e : Nat,  rdC H2 b1 2 = some (.slice x5_a x5_n x5_e) ∧ ∃ x6_a : Option Addr, ∃ x6_n : Nat, ∃ x6_e : Nat,  rdC H2 b2 2 = some (.slice x6_a x6_n x6_e) ∧ T_laws_eqFloat32S x5_a x5_n x5_e x6_a x6_n x6_e H2 fun (r1 : Bool) (H3 : AHeap) => Br (!r1) (K (.bool false) H3) (K (.bool true) H3)))) := by kernel_rfl
theorem E_laws_eqPicture_ok : ∀ g, FnOk Try.prog g (E_laws_eqPicture g) := FnOk.envOf (by
  intro x hx
  simp only [List.mem_cons, List.not_mem_nil, or_false] at hx
  subst hx; exact laws_eqFloat32S_ok)
set_option maxHeartbeats 1000000 in
theorem laws_eqPicture_main (a_Wide : Int) (a_High : Int) (a_Lights_a : Option Addr) (a_Lights_n : Nat) (a_Lights_e : Nat) (b_Wide : Int) (b_High : Int) (b_Lights_a : Option Addr) (b_Lights_n : Nat) (b_Lights_e : Nat) (H : AHeap) (K : Value → AHeap → Prop) (h : T_laws_eqPicture a_Wide a_High a_Lights_a a_Lights_n a_Lights_e b_Wide b_High b_Lights_a b_Lights_n b_Lights_e H fun (r1 : Bool) (H' : AHeap) => K (.bool r1) H') : bodyK Try.prog E_laws_eqPicture Try.f41 [.agg #[.int .i64 a_Wide, .int .i64 a_High, .slice a_Lights_a a_Lights_n a_Lights_e], .agg #[.int .i64 b_Wide, .int .i64 b_High, .slice b_Lights_a b_Lights_n b_Lights_e]] H K := by
  rw [laws_eqPicture_vc]
  obtain ⟨l_a_Lights, l_b_Lights, i_a_Lights, i_b_Lights, bd_26, bd_27, hk⟩ := h
  obtain rfl := i_a_Lights.eqn
  obtain rfl := i_b_Lights.eqn
  have e : (p_laws_eqPicture a_Wide a_High l_a_Lights b_Wide b_High l_b_Lights) = _ := rfl
  have e := e.trans (p_laws_eqPicture_eq a_Wide a_High l_a_Lights b_Wide b_High l_b_Lights)
  have g0 := Grow.refl H
  refine Al.intro (fun b_1 H_1 hb_2 hl_3 g_4 o_5 => ?_)
  have l_7 := g_4.1
  have g_8 := g0.trans g_4
  have l_9 := g_8.1
  have w_25 := o_5.lt
  refine Al.intro (fun b_10 H_2 hb_11 hl_12 g_13 o_14 => ?_)
  have l_16 := g_13.1
  have g_17 := g_8.trans g_13
  have l_18 := g_17.1
  have o_19 := o_5.grow g_13
  have w_20 := o_19.lt
  have w_24 := o_14.lt
  refine ⟨a_Wide, (o_19.rdC _).trans rfl, ?_⟩
  refine ⟨b_Wide, (o_14.rdC _).trans rfl, ?_⟩
  refine Br.intro (fun c_21 => ?_) (fun c_21 => ?_)
  · have e := e.trans (cond_t c_21)
    have c_21' := ine_t c_21
    rw [e] at hk
    exact hk  H_2 g_17 
  · have e := e.trans (cond_f c_21)
    have c_21' := ine_f c_21
    refine ⟨a_High, (o_19.rdC _).trans rfl, ?_⟩
    refine ⟨b_High, (o_14.rdC _).trans rfl, ?_⟩
    refine Br.intro (fun c_22 => ?_) (fun c_22 => ?_)
    · have e := e.trans (cond_t c_22)
      have c_22' := ine_t c_22
      rw [e] at hk
      exact hk  H_2 g_17 
    · have e := e.trans (cond_f c_22)
      have c_22' := ine_f c_22
      refine ⟨a_Lights_a, l_a_Lights.length, a_Lights_e, (o_19.rdC _).trans rfl, ?_⟩
      refine ⟨b_Lights_a, l_b_Lights.length, b_Lights_e, (o_14.rdC _).trans rfl, ?_⟩
      refine T_laws_eqFloat32S_i ⟨_, _, (i_a_Lights.grow g_17), (i_b_Lights.grow g_17), (by first | omega | (simp only [List.length_set, List.length_replicate, List.length_append, List.length_cons, List.length_nil, List.length_take, List.length_drop, marks_length]; done) | (simp only [List.length_set, List.length_replicate, List.length_append, List.length_cons, List.length_nil, List.length_take, List.length_drop, marks_length]; omega)), (by first | omega | (simp only [List.length_set, List.length_replicate, List.length_append, List.length_cons, List.length_nil, List.length_take, List.length_drop, marks_length]; done) | (simp only [List.length_set, List.length_replicate, List.length_append, List.length_cons, List.length_nil, List.length_take, List.length_drop, marks_length]; omega)), ?_⟩
      refine Br.intro (fun c_23 => ?_) (fun c_23 => ?_)
      · have e := e.trans (cond_t c_23)
        have c_23n := nf_of_t c_23
        rw [e] at hk
        exact hk  H_2 g_17 
      · have e := e.trans (cond_f c_23)
        have c_23n := nt_of_f c_23
        rw [e] at hk
        exact hk  H_2 g_17 
theorem laws_eqPicture_ok : FnOk Try.prog 41 S_laws_eqPicture := by
  refine FnOk.body mix_ok E_laws_eqPicture_ok Try.func41 rfl (by kernel_rfl) (by kernel_rfl) ?_ ?_ ?_ ?_ ?_
  · intro args H K K' h hk
    simp only [S_laws_eqPicture] at *
    unfold F_laws_eqPicture at *
    split at hk
    · obtain ⟨l_a_Lights, l_b_Lights, i_a_Lights, i_b_Lights, bd_26, bd_27, k⟩ := hk
      exact ⟨l_a_Lights, l_b_Lights, i_a_Lights, i_b_Lights, bd_26, bd_27, (fun  H' gg  => h _ _ (k  H' gg ))⟩
    · exact hk.elim
  · intro hq; cases hq
  · intro args H K hk
    simp only [S_laws_eqPicture] at *
    unfold F_laws_eqPicture at *
    split at hk
    · obtain ⟨l_a_Lights, l_b_Lights, i_a_Lights, i_b_Lights, bd_26, bd_27, k⟩ := hk
      exact ⟨_, _, k H (Grow.refl H)⟩
    · exact hk.elim
  · intro _ args H K hk
    simp only [S_laws_eqPicture] at *
    unfold F_laws_eqPicture at *
    split at hk
    · obtain ⟨l_a_Lights, l_b_Lights, i_a_Lights, i_b_Lights, bd_26, bd_27, k⟩ := hk
      exact ⟨l_a_Lights, l_b_Lights, i_a_Lights, i_b_Lights, bd_26, bd_27, (fun  H' gg  => ⟨gg, k  H' gg ⟩)⟩
    · exact hk.elim
  · have mm := @laws_eqPicture_main
    revert mm
    generalize bodyK Try.prog E_laws_eqPicture Try.f41 = Q
    intro mm args H K hk
    simp only [S_laws_eqPicture] at *
    unfold F_laws_eqPicture at *
    split at hk
    · exact mm _ _ _ _ _ _ _ _ _ _ H K hk
    · exact hk.elim
def p_laws_FnExactPeakRatio (aA_Wide : Int) (aA_High : Int) (l_aA_Lights : List Nat) (aB_Wide : Int) (aB_High : Int) (l_aB_Lights : List Nat) (aPeak : Nat) : Bool := ((bif decide (((p_laws_szPicture aA_Wide aA_High l_aA_Lights (1048576 : Int)) : Int) < 0) then true else (bif decide (((p_laws_szPicture aB_Wide aB_High l_aB_Lights ((p_laws_szPicture aA_Wide aA_High l_aA_Lights (1048576 : Int)))) : Int) < 0) then true else (bif !((p_laws_sameFloat (fwide ((p_impl_PeakRatio aA_Wide aA_High l_aA_Lights aB_Wide aB_High l_aB_Lights aPeak).1)) (fwide ((p_spec_PeakRatio aA_Wide aA_High l_aA_Lights aB_Wide aB_High l_aB_Lights aPeak).1)))) then false else (bif !(((p_impl_PeakRatio aA_Wide aA_High l_aA_Lights aB_Wide aB_High l_aB_Lights aPeak).2) == ((p_spec_PeakRatio aA_Wide aA_High l_aA_Lights aB_Wide aB_High l_aB_Lights aPeak).2)) then false else (bif !(p_laws_eqPicture aA_Wide aA_High l_aA_Lights aA_Wide aA_High l_aA_Lights) then false else (bif !(p_laws_eqPicture aB_Wide aB_High l_aB_Lights aB_Wide aB_High l_aB_Lights) then false else true)))))))
theorem p_laws_FnExactPeakRatio_eq (aA_Wide : Int) (aA_High : Int) (l_aA_Lights : List Nat) (aB_Wide : Int) (aB_High : Int) (l_aB_Lights : List Nat) (aPeak : Nat) : p_laws_FnExactPeakRatio aA_Wide aA_High l_aA_Lights aB_Wide aB_High l_aB_Lights aPeak = ((bif decide (((p_laws_szPicture aA_Wide aA_High l_aA_Lights (1048576 : Int)) : Int) < 0) then true else (bif decide (((p_laws_szPicture aB_Wide aB_High l_aB_Lights ((p_laws_szPicture aA_Wide aA_High l_aA_Lights (1048576 : Int)))) : Int) < 0) then true else (bif !((p_laws_sameFloat (fwide ((p_impl_PeakRatio aA_Wide aA_High l_aA_Lights aB_Wide aB_High l_aB_Lights aPeak).1)) (fwide ((p_spec_PeakRatio aA_Wide aA_High l_aA_Lights aB_Wide aB_High l_aB_Lights aPeak).1)))) then false else (bif !(((p_impl_PeakRatio aA_Wide aA_High l_aA_Lights aB_Wide aB_High l_aB_Lights aPeak).2) == ((p_spec_PeakRatio aA_Wide aA_High l_aA_Lights aB_Wide aB_High l_aB_Lights aPeak).2)) then false else (bif !(p_laws_eqPicture aA_Wide aA_High l_aA_Lights aA_Wide aA_High l_aA_Lights) then false else (bif !(p_laws_eqPicture aB_Wide aB_High l_aB_Lights aB_Wide aB_High l_aB_Lights) then false else true))))))) := rfl
def T_laws_FnExactPeakRatio (aA_Wide : Int) (aA_High : Int) (aA_Lights_a : Option Addr) (aA_Lights_n : Nat) (aA_Lights_e : Nat) (aB_Wide : Int) (aB_High : Int) (aB_Lights_a : Option Addr) (aB_Lights_n : Nat) (aB_Lights_e : Nat) (aPeak : Nat) (H : AHeap) (K : Bool → AHeap → Prop) : Prop := ∃ l_aA_Lights : List Nat, ∃ l_aB_Lights : List Nat, I64 aA_Wide ∧ I64 aA_High ∧ IsL fF H aA_Lights_a aA_Lights_n l_aA_Lights ∧ (∀ y ∈ l_aA_Lights, W32 y) ∧ l_aA_Lights.length ≤ 9223372036854775807 ∧ I64 aB_Wide ∧ I64 aB_High ∧ IsL fF H aB_Lights_a aB_Lights_n l_aB_Lights ∧ (∀ y ∈ l_aB_Lights, W32 y) ∧ l_aB_Lights.length ≤ 9223372036854775807 ∧ W32 aPeak ∧ ∀ H' : AHeap, K true H'
theorem spec_fin (x : Nat) : p_spec_l01Finite x = fin .f32 x := fin_asked x
theorem impl_fin (x : Nat) : p_impl_IsFinite x = fin .f32 x := fin_asked x
theorem w32_wd {x : Nat} (h : W32 x) : Wd .f32 x := ⟨h.1, h.2⟩
theorem wd_w32 {x : Nat} (h : Wd .f32 x) : W32 x := ⟨h.1, h.2⟩
theorem log_l3_eq {x x_0 ve x' ve_3 : Nat} {y y_0 : Nat} {we we_3 : Int} {Ki : Nat → Nat → Nat} {Ks : Nat → Int → Nat} (hK : ∀ q k n, Ki q k = Ks q n) :
    ∀ (μ ν : Nat) (n : Int) (q : Nat), n < μ → n < ν → 0 < μ → 0 < ν → n ≤ 25 → -1 ≤ n → p_impl_naturalLog_l3 x x_0 ve x' ve_3 Ki μ q (FloatKind.nearest .f64 n) = p_spec_l01LogWide_l3 y y_0 we x' we_3 Ks ν q n := by
  intro μ
  induction μ with
  | zero => intro ν n q _ _ h _ _ _; exact absurd h (Nat.lt_irrefl 0)
  | succ μ ih =>
    intro ν n q hm hv _ hv0 hn hn1
    obtain ⟨ν, rfl⟩ : ∃ j, ν = j + 1 := ⟨ν - 1, by omega⟩
    rw [p_impl_naturalLog_l3_s, p_spec_l01LogWide_l3_s]
    have hc := cnt_at (n := n) (by omega) (by omega)
    rw [hc.2.1]
    by_cases h : (1 : Int) ≤ n
    · rw [decide_eq_true h, cond_true, cond_true, hc.2.2.2]
      exact ih ν (n - 2) _ (by omega) (by omega) (by omega) (by omega) (by omega) (by omega)
    · rw [decide_eq_false h, cond_false, cond_false]
      exact hK _ _ _
theorem log_l2_eq {x x_0 ve : Nat} {y y_0 : Nat} {we : Int} {Ki : Nat → Nat → Nat} {Ks : Nat → Int → Nat} (hK : ∀ x' (e : Int), Ki x' (FloatKind.nearest .f64 e) = Ks x' e) :
    ∀ (μ : Nat) (x' : Nat) (e : Int), 4503599627370496 ≤ x' → x' < 4609434218613702656 → (4609434218613702656 : Int) - x' ≤ (e + 3000) * 4503599627370496 → e ≤ 2100 →
      p_impl_naturalLog_l2 x x_0 ve Ki μ x' (FloatKind.nearest .f64 e) = p_spec_l01LogWide_l2 y y_0 we Ks μ x' e := by
  intro μ
  induction μ with
  | zero => intro x' e _ _ _ _; unfold p_impl_naturalLog_l2 p_spec_l01LogWide_l2; rfl
  | succ μ ih =>
    intro x' e h0 h1 h2 h3
    rw [p_impl_naturalLog_l2_s, p_spec_l01LogWide_l2_s]
    cases hc : flt .f64 x' 4604930618986332160 with
    | true =>
      have := twice_step h0 (by omega) hc
      rw [cond_true, cond_true, near_down (by omega), wrap64 (n := e - 1) (by omega) (by omega), this.1]
      exact ih _ _ (by omega) (by omega) (by omega) (by omega)
    | false =>
      rw [cond_false, cond_false]
      exact hK _ _
theorem log_l1_eq {x : Nat} :
    ∀ (μ : Nat) (x_0 : Nat) (e : Int), 4503599627370496 ≤ x_0 → x_0 < 9218868437227405312 → e * 4503599627370496 + x_0 ≤ 9218868437227405312 → 0 ≤ e →
      p_impl_naturalLog_l1 x μ x_0 (FloatKind.nearest .f64 e) = p_spec_l01LogWide_l1 x μ x_0 e := by
  intro μ
  induction μ with
  | zero => intro x_0 e _ _ _ _; unfold p_impl_naturalLog_l1 p_spec_l01LogWide_l1; rfl
  | succ μ ih =>
    intro x_0 e h0 h1 h2 h3
    rw [p_impl_naturalLog_l1_s, p_spec_l01LogWide_l1_s]
    cases hc : fle .f64 4609434218613702656 x_0 with
    | true =>
      have := half_step h0 h1 hc
      rw [cond_true, cond_true, near_up (by omega), wrap64 (n := e + 1) (by omega) (by omega), this.1]
      exact ih _ _ (by omega) (by omega) (by omega) (by omega)
    | false =>
      rw [cond_false, cond_false]
      rw [pos_le (by decide) (by decide) h0 h1] at hc
      have := of_decide_eq_false hc
      refine log_l2_eq ?_ _ _ _ h0 (by omega) (by omega) (by omega)
      intro x' e'
      have e25 : (4627730092099895296 : Nat) = FloatKind.nearest .f64 25 := by decide +kernel
      have c25 : cnt 4627730092099895296 = 25 := by rw [e25]; exact (cnt_at (n := 25) (by decide) (by decide)).1
      rw [c25, e25]
      refine log_l3_eq ?_ _ _ 25 0 ?_ ?_ ?_ ?_ (by decide) (by decide)
      · intro q k n; rfl
      · decide
      · decide
      · decide
      · decide
theorem log_wide_eq {x : Nat} (h0 : 4503599627370496 ≤ x) (h1 : x < 9218868437227405312) : p_impl_naturalLog x = p_spec_l01LogWide_l1 x (Int.toNat ((x : Int)) + 1) x (0 : Int) := by
  have g := log_l1_eq (x := x) (Int.toNat ((x : Int)) + 1) x 0 h0 h1 (by omega) (by decide)
  rw [show FloatKind.nearest .f64 0 = 0 by decide +kernel] at g
  rw [p_impl_naturalLog_eq]
  exact g
theorem log_at_zero : p_impl_LogNumber 0 = p_spec_l01Log 0 := by decide +kernel
theorem log_at_nzero : p_impl_LogNumber 2147483648 = p_spec_l01Log 2147483648 := by decide +kernel
theorem log_at_inf : p_impl_LogNumber 2139095040 = p_spec_l01Log 2139095040 := by decide +kernel
theorem log_at_ninf : p_impl_LogNumber 4286578688 = p_spec_l01Log 4286578688 := by decide +kernel
theorem log_at_nan : p_impl_LogNumber (qnan .f32) = p_spec_l01Log (qnan .f32) := by decide +kernel
theorem log_eq {x : Nat} (h : Wd .f32 x) : p_impl_LogNumber x = p_spec_l01Log x := by
  rcases h.cases with hf | rfl | rfl | rfl
  · cases h0 : feq .f32 x 0 with
    | true =>
      rw [feq_fin hf (fin_zero _), sv_zero] at h0
      rcases zero_of_sv h.1 hf (of_decide_eq_true h0) with rfl | rfl
      · exact log_at_zero
      · exact log_at_nzero
    | false =>
      have w0 := wide_feq hf
      have w1 := wide_flt hf
      rw [p_impl_LogNumber_eq, p_spec_l01Log_eq, p_spec_l01LogWide_eq, wide_self hf, w0, w1, h0, Bool.not_true, cond_false, cond_false, cond_false]
      cases h1 : flt .f32 x 0 with
      | true => rw [cond_true, cond_true]; rfl
      | false =>
        have hp := log_pre' h0 h1 hf
        have hi : p_math_IsInf (fwide x) 1 = false := by
          show flt .f64 9218868437227405311 (fwide x) = false
          rw [pos_lt (by decide) (by decide) hp.1 hp.2]
          exact decide_eq_false (by omega)
        have hi2 : p_impl_IsFinite x = true := (fin_asked x).trans hf
        rw [cond_false, cond_false, hi, cond_false, feq_self (fin_nn hf), hi2, Bool.not_true, cond_false, cond_false, ← log_wide_eq hp.1 hp.2]
        rfl
  · exact log_at_inf
  · exact log_at_ninf
  · exact log_at_nan
theorem l02Finite_go (l : List Nat) : ∀ (μ : Nat) (t : Bool) (i : Nat), l.length - i < μ → p_spec_l02Finite_l1 l μ t (i : Int) = (l.drop i).all (fin .f32) := by
  intro μ
  induction μ with
  | zero => intro t i h; omega
  | succ μ ih =>
    intro t i hm
    rw [p_spec_l02Finite_l1_s]
    by_cases h : i < l.length
    · rw [decide_eq_true (show (i : Int) < (l.length : Int) by omega), cond_true, Int.toNat_natCast, spec_fin]
      rw [List.drop_eq_getElem_cons h, List.all_cons, List.getD_eq_getElem?_getD, List.getElem?_eq_getElem h, Option.getD_some]
      have := ih t (i + 1) (by omega)
      cases fin .f32 l[i]
      · rfl
      · simp only [Bool.not_true, cond_false, Bool.true_and]; exact this
    · rw [decide_eq_false (show ¬ (i : Int) < (l.length : Int) by omega), cond_false, List.drop_eq_nil_of_le (by omega)]; rfl
theorem l02Finite_all (l : List Nat) : p_spec_l02Finite l = l.all (fin .f32) := by
  rw [p_spec_l02Finite_eq]
  have := l02Finite_go l (Int.toNat ((l.length : Int) - (0 : Int)) + 1) false 0 (by omega)
  simpa using this
theorem areFinite_in (ls : List (List Nat)) (t2 : Bool) (t9 : Int) (k : Bool → Int → Bool) : ∀ (μ : Nat) (t : Bool) (i : Nat), i ≤ (ls.getD t9.toNat []).length → (ls.getD t9.toNat []).length - i < μ →
    p_impl_areFinite_l2 ls t2 t9 k μ t (i : Int) = bif ((ls.getD t9.toNat []).drop i).all (fin .f32) then k t ((ls.getD t9.toNat []).length : Int) else false := by
  intro μ
  generalize hl : ls.getD t9.toNat [] = l
  induction μ with
  | zero => intro t i _ h; omega
  | succ μ ih =>
    intro t i hi hm
    rw [p_impl_areFinite_l2_s, hl]
    by_cases h : i < l.length
    · rw [decide_eq_true (show (i : Int) < (l.length : Int) by omega), cond_true, Int.toNat_natCast, impl_fin]
      rw [List.drop_eq_getElem_cons h, List.all_cons, List.getD_eq_getElem?_getD, List.getElem?_eq_getElem h, Option.getD_some]
      have := ih t (i + 1) (by omega) (by omega)
      cases fin .f32 l[i]
      · rfl
      · simp only [Bool.not_true, cond_false, Bool.true_and]; exact this
    · rw [decide_eq_false (show ¬ (i : Int) < (l.length : Int) by omega), cond_false, List.drop_eq_nil_of_le (by omega), show i = l.length by omega]; rfl
theorem areFinite_go (ls : List (List Nat)) : ∀ (μ : Nat) (t : Bool) (i : Nat), ls.length - i < μ → p_impl_areFinite_l1 ls μ t (i : Int) = (ls.drop i).all (fun l => l.all (fin .f32)) := by
  intro μ
  induction μ with
  | zero => intro t i h; omega
  | succ μ ih =>
    intro t i hm
    rw [p_impl_areFinite_l1_s]
    by_cases h : i < ls.length
    · rw [decide_eq_true (show (i : Int) < (ls.length : Int) by omega), cond_true]
      have := areFinite_in ls t (i : Int) (fun t2 t15 => p_impl_areFinite_l1 ls μ t2 ((i : Int) + 1)) (Int.toNat ((((ls).getD ((i : Int) : Int).toNat []).length : Int) - (0 : Int)) + 1) t 0 (Nat.zero_le _) (by omega)
      refine Eq.trans this ?_
      rw [Int.toNat_natCast, List.drop_zero, List.drop_eq_getElem_cons h, List.all_cons, List.getD_eq_getElem?_getD, List.getElem?_eq_getElem h, Option.getD_some]
      have := ih t (i + 1) (by omega)
      cases ls[i].all (fin .f32)
      · rfl
      · simp only [cond_true, Bool.true_and]; exact this
    · rw [decide_eq_false (show ¬ (i : Int) < (ls.length : Int) by omega), cond_false, List.drop_eq_nil_of_le (by omega)]; rfl
theorem areFinite_all (ls : List (List Nat)) : p_impl_areFinite ls = ls.all (fun l => l.all (fin .f32)) := by
  rw [p_impl_areFinite_eq]
  have := areFinite_go ls (Int.toNat ((ls.length : Int) - (0 : Int)) + 1) false 0 (by omega)
  simpa using this
theorem finite_same (l : List Nat) : p_impl_areFinite [l] = p_spec_l02Finite l := by rw [areFinite_all, l02Finite_all]; simp
theorem sqrt_eq (x : Nat) : p_impl_RootNumber x = p_spec_l01Sqrt x := rfl
def sqs (s x : Nat) : Nat := fadd .f32 s (fmul .f32 x x)
theorem l02Energy_go (l : List Nat) : ∀ (μ : Nat) (s i : Nat), l.length - i < μ → p_spec_l02Energy_l1 l μ s (i : Int) = (l.drop i).foldl sqs s := by
  intro μ
  induction μ with
  | zero => intro s i h; omega
  | succ μ ih =>
    intro s i hm
    rw [p_spec_l02Energy_l1_s]
    by_cases h : i < l.length
    · rw [decide_eq_true (show (i : Int) < (l.length : Int) by omega), cond_true]
      have := ih (fadd .f32 s (fmul .f32 (l.getD (i : Int).toNat 0) (l.getD (i : Int).toNat 0))) (i + 1) (by omega)
      rw [show ((i + 1 : Nat) : Int) = (i : Int) + 1 by omega] at this
      rw [this, List.drop_eq_getElem_cons h, List.foldl_cons, Int.toNat_natCast, List.getD_eq_getElem?_getD, List.getElem?_eq_getElem h]
      rfl
    · rw [decide_eq_false (show ¬ (i : Int) < (l.length : Int) by omega), cond_false, List.drop_eq_nil_of_le (by omega)]
      rfl
theorem l02Energy_fold (l : List Nat) : p_spec_l02Energy l = l.foldl sqs 0 := by
  rw [p_spec_l02Energy_eq]
  have := l02Energy_go l (Int.toNat ((l.length : Int) - (0 : Int)) + 1) 0 0 (by omega)
  rw [List.drop_zero] at this
  exact this
def difs (a b : List Nat) (i : Nat) : List Nat := (List.range' i (a.length - i)).map (fun k => fsub .f32 (a.getD k 0) (b.getD k 0))
theorem difs_cons {a b : List Nat} {i : Nat} (h : i < a.length) : difs a b i = fsub .f32 (a.getD i 0) (b.getD i 0) :: difs a b (i + 1) := by
  unfold difs
  rw [show a.length - i = (a.length - (i + 1)) + 1 by omega, List.range'_succ, List.map_cons]
theorem difs_nil {a b : List Nat} {i : Nat} (h : a.length ≤ i) : difs a b i = [] := by
  unfold difs
  rw [show a.length - i = 0 by omega]; rfl
theorem difs_len (a b : List Nat) (i : Nat) : (difs a b i).length = a.length - i := by simp [difs]
theorem far_go (aw ah : Int) (a : List Nat) (bw bh : Int) (b : List Nat) : ∀ (μ : Nat) (l : List Nat) (i : Nat), a.length - i < μ → l.length = i → i ≤ a.length →
    p_spec_l04Far_l1 aw ah a bw bh b μ l (i : Int) = p_spec_l01Sqrt (fdiv .f32 ((l ++ difs a b i).foldl sqs 0) (FloatKind.nearest .f32 (a.length : Int))) := by
  intro μ
  induction μ with
  | zero => intro l i h; omega
  | succ μ ih =>
    intro l i hm hl hi
    rw [p_spec_l04Far_l1_s]
    by_cases h : i < a.length
    · rw [decide_eq_true (show (i : Int) < (a.length : Int) by omega), cond_true, Int.toNat_natCast]
      have := ih (l ++ [fsub .f32 (a.getD i 0) (b.getD i 0)]) (i + 1) (by omega) (by rw [List.length_append]; simp [hl]) (by omega)
      rw [show ((i + 1 : Nat) : Int) = (i : Int) + 1 by omega] at this
      rw [this, difs_cons h, List.append_assoc]; rfl
    · rw [decide_eq_false (show ¬ (i : Int) < (a.length : Int) by omega), cond_false, difs_nil (by omega), List.append_nil, l02Energy_fold, show l.length = a.length by omega]
theorem far_val (aw ah : Int) (a : List Nat) (bw bh : Int) (b : List Nat) : p_spec_l04Far aw ah a bw bh b = p_spec_l01Sqrt (fdiv .f32 ((difs a b 0).foldl sqs 0) (FloatKind.nearest .f32 (a.length : Int))) := by
  rw [p_spec_l04Far_eq]
  exact far_go aw ah a bw bh b (Int.toNat ((a.length : Int) - (0 : Int)) + 1) [] 0 (by omega) rfl (by omega)
theorem dist_go (aw ah : Int) (a : List Nat) (bw bh : Int) (b : List Nat) : ∀ (μ : Nat) (s i : Nat), a.length - i < μ →
    p_impl_DistanceOf_l1 aw ah a bw bh b μ s (i : Int) = p_impl_finite (p_impl_RootNumber (fdiv .f32 ((difs a b i).foldl sqs s) (FloatKind.nearest .f32 (a.length : Int)))) := by
  intro μ
  induction μ with
  | zero => intro s i h; omega
  | succ μ ih =>
    intro s i hm
    rw [p_impl_DistanceOf_l1_s]
    by_cases h : i < a.length
    · rw [decide_eq_true (show (i : Int) < (a.length : Int) by omega), cond_true, Int.toNat_natCast]
      have := ih (sqs s (fsub .f32 (a.getD i 0) (b.getD i 0))) (i + 1) (by omega)
      rw [show ((i + 1 : Nat) : Int) = (i : Int) + 1 by omega] at this
      rw [difs_cons h, List.foldl_cons, ← this]; rfl
    · rw [decide_eq_false (show ¬ (i : Int) < (a.length : Int) by omega), cond_false, difs_nil (by omega)]; rfl
theorem valid_same (w h : Int) (l : List Nat) : p_impl_ValidPicture w h l = p_spec_l04Is w h l := by
  rw [p_impl_ValidPicture_eq, p_spec_l04Is_eq, p_spec_l04Sides_eq, finite_same]
  show (bif p_spec_l00In w 1 16 then (bif p_spec_l00In h 1 16 then _ else false) else false) = _
  cases p_spec_l00In w 1 16 <;> rfl
theorem alike_same (aw ah : Int) (a : List Nat) (bw bh : Int) (b : List Nat) : p_impl_areAlike aw ah a bw bh b = p_spec_l04Both aw ah a bw bh b := by
  rw [p_impl_areAlike_eq, p_spec_l04Both_eq, valid_same, valid_same]
theorem dist_same (aw ah : Int) (a : List Nat) (bw bh : Int) (b : List Nat) : p_impl_DistanceOf aw ah a bw bh b = p_spec_DistanceOf aw ah a bw bh b := by
  rw [p_impl_DistanceOf_eq, p_spec_DistanceOf_eq, alike_same, far_val]
  have := dist_go aw ah a bw bh b (Int.toNat ((a.length : Int) - (0 : Int)) + 1) 0 0 (by omega)
  rw [show ((0 : Nat) : Int) = 0 from rfl] at this
  rw [this, sqrt_eq]
  rfl
theorem peak_same (aw ah : Int) (a : List Nat) (bw bh : Int) (b : List Nat) (p : Nat) : p_impl_PeakRatio aw ah a bw bh b p = p_spec_PeakRatio aw ah a bw bh b p := by
  rw [p_impl_PeakRatio_eq, p_spec_PeakRatio_eq, dist_same, log_eq (Wd.div _ _ _)]
  rfl
theorem laws_FnExactPeakRatio_true (aA_Wide : Int) (aA_High : Int) (l_aA_Lights : List Nat) (aB_Wide : Int) (aB_High : Int) (l_aB_Lights : List Nat) (aPeak : Nat) (q0 : I64 aA_Wide) (q1 : I64 aA_High) (q2 : (∀ y ∈ l_aA_Lights, W32 y)) (q3 : I64 aB_Wide) (q4 : I64 aB_High) (q5 : (∀ y ∈ l_aB_Lights, W32 y)) (q6 : W32 aPeak) : p_laws_FnExactPeakRatio aA_Wide aA_High l_aA_Lights aB_Wide aB_High l_aB_Lights aPeak = true := by
  rw [p_laws_FnExactPeakRatio_eq, peak_same, laws_sameFloat_self, laws_eqPicture_self, laws_eqPicture_self, beq_self_eq_true]
  cases decide (p_laws_szPicture aA_Wide aA_High l_aA_Lights (1048576 : Int) < 0) <;> simp
/-! laws_FnExactPeakRatio: function 13 -/
def E_laws_FnExactPeakRatio : Env := envOf [(37, S_laws_szPicture), (39, S_laws_toPicture), (52, S_spec_PeakRatio), (53, S_impl_PeakRatio), (18, S_laws_sameFloat), (41, S_laws_eqPicture)]
def F_laws_FnExactPeakRatio : List Value → AHeap → (Value → AHeap → Prop) → Prop
  | [.agg ⟨[.int .i64 aA_Wide, .int .i64 aA_High, .slice aA_Lights_a aA_Lights_n aA_Lights_e]⟩, .agg ⟨[.int .i64 aB_Wide, .int .i64 aB_High, .slice aB_Lights_a aB_Lights_n aB_Lights_e]⟩, .float .f32 aPeak], H, K => T_laws_FnExactPeakRatio aA_Wide aA_High aA_Lights_a aA_Lights_n aA_Lights_e aB_Wide aB_High aB_Lights_a aB_Lights_n aB_Lights_e aPeak H fun (r1 : Bool) (H' : AHeap) => K (.bool r1) H'
  | _, _, _ => False
def S_laws_FnExactPeakRatio : FSpec := { F := F_laws_FnExactPeakRatio, quiet := false, tame := false }
theorem laws_FnExactPeakRatio_vc (aA_Wide : Int) (aA_High : Int) (aA_Lights_a : Option Addr) (aA_Lights_n : Nat) (aA_Lights_e : Nat) (aB_Wide : Int) (aB_High : Int) (aB_Lights_a : Option Addr) (aB_Lights_n : Nat) (aB_Lights_e : Nat) (aPeak : Nat) (H : AHeap) (K : Value → AHeap → Prop) : bodyK Try.prog E_laws_FnExactPeakRatio Try.f13 [.agg #[.int .i64 aA_Wide, .int .i64 aA_High, .slice aA_Lights_a aA_Lights_n aA_Lights_e], .agg #[.int .i64 aB_Wide, .int .i64 aB_High, .slice aB_Lights_a aB_Lights_n aB_Lights_e], .float .f32 aPeak] H K =
  (Al [.int .i64 aA_Wide, .int .i64 aA_High, .slice aA_Lights_a aA_Lights_n aA_Lights_e] H fun b1 H1 => Al [.int .i64 aB_Wide, .int .i64 aB_High, .slice aB_Lights_a aB_Lights_n aB_Lights_e] H1 fun b2 H2 => ∃ c1 : Int, ∃ c2 : Int, ∃ c3_a : Option Addr, ∃ c3_n : Nat, ∃ c3_e : Nat,  rdN H2 b1 0 3 = some [.int .i64 c1, .int .i64 c2, .slice c3_a c3_n c3_e] ∧ T_laws_szPicture c1 c2 c3_a c3_n c3_e 1048576 H2 fun (r1 : Int) (H3 : AHeap) => Br (decide ((r1 : Int) < 0)) (K (.bool true) H3) (∃ c4 : Int, ∃ c5 : Int, ∃ c6_a : Option Addr, ∃ c6_n : Nat, ∃ c6_e : Nat,  rdN H3 b2 0 3 = some [.int .i64 c4, .int .i64 c5, .slice c6_a c6_n c6_e] ∧ T_laws_szPicture c4 c5 c6_a c6_n c6_e r1 H3 fun (r2 : Int) (H4 : AHeap) => Br (decide ((r2 : Int) < 0)) (K (.bool true) H4) (∃ c7 : Int, ∃ c8 : Int, ∃ c9_a : Option Addr, ∃ c9_n : Nat, ∃ c9_e : Nat,  rdN H4 b2 0 3 = some [.int .i64 c7, .int .i64 c8, .slice c9_a c9_n c9_e] ∧ ∃ c10 : Int, ∃ c11 : Int, ∃ c12_a : Option Addr, ∃ c12_n : Nat, ∃ c12_e : Nat,  rdN H4 b1 0 3 = some [.int .i64 c10, .int .i64 c11, .slice c12_a c12_n c12_e] ∧ T_laws_toPicture c10 c11 c12_a c12_n c12_e H4 fun (r3 : Int) (r4 : Int) (a1 : Option Addr) (r5 : Nat) (r6 : Nat) (H5 : AHeap) => T_laws_toPicture c7 c8 c9_a c9_n c9_e H5 fun (r7 : Int) (r8 : Int) (a2 : Option Addr) (r9 : Nat) (r10 : Nat) (H6 : AHeap) => T_spec_PeakRatio r3 r4 a1 r5 r6 r7 r8 a2 r9 r10 aPeak H6 fun (r11 : Nat) (r12 : Bool) (H7 : AHeap) => ∃ c13 : Int, ∃ c14 : Int, ∃ c15_a : Option Addr, ∃ c15_n : Nat, ∃ c15_e : Nat,  rdN H7 b1 0 3 = some [.int .i64 c13, .int .i64 c14, .slice c15_a c15_n c15_e] ∧ T_laws_toPicture c13 c14 c15_a c15_n c15_e H7 fun (r13 : Int) (r14 : Int) (a3 : Option Addr) (r15 : Nat) (r16 : Nat) (H8 : AHeap) => Al [.int .i64 0, .int .i64 0, .slice none 0 0] H8 fun b3 H9 => isOwn H9 b3 ∧ (∃ l, rdN H9 b3 0 3 = some l) ∧ Lt (setN H9 b3 0 [.int .i64 r13, .int .i64 r14, .slice a3 r15 r16]) fun H10 => ∃ c16 : Int, ∃ c17 : Int, ∃ c18_a : Option Addr, ∃ c18_n : Nat, ∃ c18_e : Nat,  rdN H10 b2 0 3 = some [.int .i64 c16, .int .i64 c17, .slice c18_a c18_n c18_e] ∧ T_laws_toPicture c16 c17 c18_a c18_n c18_e H10 fun (r17 : Int) (r18 : Int) (a4 : Option Addr) (r19 : Nat) (r20 : Nat) (H11 : AHeap) => Al [.int .i64 0, .int .i64 0, .slice none 0 0] H11 fun b4 H12 => isOwn H12 b4 ∧ (∃ l, rdN H12 b4 0 3 = some l) ∧ Lt (setN H12 b4 0 [.int .i64 r17, .int .i64 r18, .slice a4 r19 r20]) fun H13 => ∃ c19 : Int, ∃ c20 : Int, ∃ c21_a : Option Addr, ∃ c21_n : Nat, ∃ c21_e : Nat,  rdN H13 b3 0 3 = some [.int .i64 c19, .int .i64 c20, .slice c21_a c21_n c21_e] ∧ ∃ c22 : Int, ∃ c23 : Int, ∃ c24_a : Option Addr, ∃ c24_n : Nat, ∃ c24_e : Nat,  rdN H13 b4 0 3 = some [.int .i64 c22, .int .i64 c23, .slice c24_a c24_n c24_e] ∧ T_impl_PeakRatio c19 c20 c21_a c21_n c21_e c22 c23 c24_a c24_n c24_e aPeak H13 fun (r21 : Nat) (r22 : Bool) (H14 : AHeap) => T_laws_sameFloat (fwide r21) (fwide r11) H14 fun (r23 : Bool) (H15 : AHeap) => Br (!r23) (K (.bool false) H15) (Br (!(r22 == r12)) (K (.bool false) H15) (∃ c25 : Int, ∃ c26 : Int, ∃ c27_a : Option Addr, ∃ c27_n : Nat, ∃ c27_e : Nat,  rdN H15 b1 0 3 = some [.int .i64 c25, .int .i64 c26, .slice c27_a c27_n c27_e] ∧ ∃ c28 : Int, ∃ c29 : Int, ∃ c30_a : Option Addr, ∃ c30_n : Nat, ∃ c30_e : Nat,  rdN H15 b3 0 3 = some [.int .i64 c28, .int .i64 c29, .slice c30_a c30_n c30_e] ∧ T_laws_toPicture c25 c26 c27_a c27_n c27_e H15 fun (r24 : Int) (r25 : Int) (a5 : Option Addr) (r26 : Nat) (r27 : Nat) (H16 : AHeap) => T_laws_eqPicture c28 c29 c30_a c30_n c30_e r24 r25 a5 r26 r27 H16 fun (r28 : Bool) (H17 : AHeap) => Br (!r28) (K (.bool false) H17) (∃ c31 : Int, ∃ c32 : Int, ∃ c33_a : Option Addr, ∃ c33_n : Nat, ∃ c33_e : Nat,  rdN H17 b2 0 3 = some [.int .i64 c31, .int .i64 c32, .slice c33_a c33_n c33_e] ∧ ∃ c34 : Int, ∃ c35 : Int, ∃ c36_a : Option Addr, ∃ c36_n : Nat, ∃ c36_e : Nat,  rdN H17 b4 0 3 = some [.int .i64 c34, .int .i64 c35, .slice c36_a c36_n c36_e] ∧ T_laws_toPicture c31 c32 c33_a c33_n c33_e H17 fun (r29 : Int) (r30 : Int) (a6 : Option Addr) (r31 : Nat) (r32 : Nat) (H18 : AHeap) => T_laws_eqPicture c34 c35 c36_a c36_n c36_e r29 r30 a6 r31 r32 H18 fun (r33 : Bool) (H19 : AHeap) => Br (!r33) (K (.bool false) H19) (K (.bool true) H19))))))) := by kernel_rfl
theorem E_laws_FnExactPeakRatio_ok : ∀ g, FnOk Try.prog g (E_laws_FnExactPeakRatio g) := FnOk.envOf (by
  intro x hx
  simp only [List.mem_cons, List.not_mem_nil, or_false] at hx
  rcases hx with rfl | rfl | rfl | rfl | rfl | rfl
  · exact laws_szPicture_ok
  · exact laws_toPicture_ok
  · exact spec_PeakRatio_ok
  · exact impl_PeakRatio_ok
  · exact laws_sameFloat_ok
  · exact laws_eqPicture_ok)
set_option maxHeartbeats 1000000 in
theorem laws_FnExactPeakRatio_main (aA_Wide : Int) (aA_High : Int) (aA_Lights_a : Option Addr) (aA_Lights_n : Nat) (aA_Lights_e : Nat) (aB_Wide : Int) (aB_High : Int) (aB_Lights_a : Option Addr) (aB_Lights_n : Nat) (aB_Lights_e : Nat) (aPeak : Nat) (H : AHeap) (K : Value → AHeap → Prop) (h : T_laws_FnExactPeakRatio aA_Wide aA_High aA_Lights_a aA_Lights_n aA_Lights_e aB_Wide aB_High aB_Lights_a aB_Lights_n aB_Lights_e aPeak H fun (r1 : Bool) (H' : AHeap) => K (.bool r1) H') : bodyK Try.prog E_laws_FnExactPeakRatio Try.f13 [.agg #[.int .i64 aA_Wide, .int .i64 aA_High, .slice aA_Lights_a aA_Lights_n aA_Lights_e], .agg #[.int .i64 aB_Wide, .int .i64 aB_High, .slice aB_Lights_a aB_Lights_n aB_Lights_e], .float .f32 aPeak] H K := by
  rw [laws_FnExactPeakRatio_vc]
  obtain ⟨l_aA_Lights, l_aB_Lights, h_0, h_1, h_2, h_3, h_4, h_5, h_6, h_7, h_8, h_9, h_10, hk⟩ := h
  have i_aA_Lights := h_2
  obtain rfl := i_aA_Lights.eqn
  have i_aB_Lights := h_7
  obtain rfl := i_aB_Lights.eqn
  have hl := laws_FnExactPeakRatio_true aA_Wide aA_High l_aA_Lights aB_Wide aB_High l_aB_Lights aPeak h_0 h_1 h_3 h_5 h_6 h_8 h_10
  have e : p_laws_FnExactPeakRatio aA_Wide aA_High l_aA_Lights aB_Wide aB_High l_aB_Lights aPeak = _ := rfl
  have e := e.trans (p_laws_FnExactPeakRatio_eq aA_Wide aA_High l_aA_Lights aB_Wide aB_High l_aB_Lights aPeak)
  have e := hl.symm.trans e
  have g0 := Grow.refl H
  refine Al.intro (fun b_1 H_1 hb_2 hl_3 g_4 o_5 => ?_)
  have l_7 := g_4.1
  have g_8 := g0.trans g_4
  have l_9 := g_8.1
  have w_290 := o_5.lt
  refine Al.intro (fun b_10 H_2 hb_11 hl_12 g_13 o_14 => ?_)
  have l_16 := g_13.1
  have g_17 := g_8.trans g_13
  have l_18 := g_17.1
  have o_19 := o_5.grow g_13
  have w_20 := o_19.lt
  have w_289 := o_14.lt
  refine ⟨aA_Wide, aA_High, aA_Lights_a, l_aA_Lights.length, aA_Lights_e, (o_19.rdN (Nat.le_of_ble_eq_true rfl)).trans rfl, ?_⟩
  refine T_laws_szPicture_i ⟨_, (i_aA_Lights.grow g_17), fun  H_3 g_22  => ?_⟩
  have z_21 := laws_szPicture_f aA_Wide aA_High l_aA_Lights (1048576 : Int)
  have l_23 := g_22.1
  have g_24 := g_17.trans g_22
  have l_25 := g_24.1
  have o_26 := o_19.grow g_22
  have w_27 := o_26.lt
  have o_28 := o_14.grow g_22
  have w_29 := o_28.lt
  refine Br.intro (fun c_30 => ?_) (fun c_30 => ?_)
  · have e := e.trans (cond_t c_30)
    have c_30' := of_decide_eq_true c_30
    first | exact hk _ | (exfalso; cases e; done) | (rw [← e]; exact hk _)
  · have e := e.trans (cond_f c_30)
    have c_30' := of_decide_eq_false c_30
    refine ⟨aB_Wide, aB_High, aB_Lights_a, l_aB_Lights.length, aB_Lights_e, (o_28.rdN (Nat.le_of_ble_eq_true rfl)).trans rfl, ?_⟩
    refine T_laws_szPicture_i ⟨_, (i_aB_Lights.grow g_24), fun  H_4 g_32  => ?_⟩
    have z_31 := laws_szPicture_f aB_Wide aB_High l_aB_Lights ((p_laws_szPicture aA_Wide aA_High l_aA_Lights (1048576 : Int)))
    have l_33 := g_32.1
    have g_34 := g_24.trans g_32
    have l_35 := g_34.1
    have o_36 := o_26.grow g_32
    have w_37 := o_36.lt
    have o_38 := o_28.grow g_32
    have w_39 := o_38.lt
    refine Br.intro (fun c_40 => ?_) (fun c_40 => ?_)
    · have e := e.trans (cond_t c_40)
      have c_40' := of_decide_eq_true c_40
      first | exact hk _ | (exfalso; cases e; done) | (rw [← e]; exact hk _)
    · have e := e.trans (cond_f c_40)
      have c_40' := of_decide_eq_false c_40
      refine ⟨aB_Wide, aB_High, aB_Lights_a, l_aB_Lights.length, aB_Lights_e, (o_38.rdN (Nat.le_of_ble_eq_true rfl)).trans rfl, ?_⟩
      refine ⟨aA_Wide, aA_High, aA_Lights_a, l_aA_Lights.length, aA_Lights_e, (o_36.rdN (Nat.le_of_ble_eq_true rfl)).trans rfl, ?_⟩
      refine T_laws_toPicture_i ⟨_, (i_aA_Lights.grow g_34), (by first | omega | (simp only [List.length_set, List.length_replicate, List.length_append, List.length_cons, List.length_nil, List.length_take, List.length_drop, marks_length]; done) | (simp only [List.length_set, List.length_replicate, List.length_append, List.length_cons, List.length_nil, List.length_take, List.length_drop, marks_length]; omega)), fun a_41 n_42 e_43 H_5 g_45 r_44 => ?_⟩
      have l_46 := g_45.1
      have g_47 := g_34.trans g_45
      have l_48 := g_47.1
      have o_49 := o_36.grow g_45
      have w_50 := o_49.lt
      have o_51 := o_38.grow g_45
      have w_52 := o_51.lt
      obtain rfl := r_44.isL.eqn
      have u_53 := r_44.up
      have u_54 := r_44.lo
      refine T_laws_toPicture_i ⟨_, (i_aB_Lights.grow g_47), (by first | omega | (simp only [List.length_set, List.length_replicate, List.length_append, List.length_cons, List.length_nil, List.length_take, List.length_drop, marks_length]; done) | (simp only [List.length_set, List.length_replicate, List.length_append, List.length_cons, List.length_nil, List.length_take, List.length_drop, marks_length]; omega)), fun a_56 n_57 e_58 H_6 g_60 r_59 => ?_⟩
      have l_61 := g_60.1
      have g_62 := g_47.trans g_60
      have l_63 := g_62.1
      have o_64 := o_49.grow g_60
      have w_65 := o_64.lt
      have o_66 := o_51.grow g_60
      have w_67 := o_66.lt
      have r_68 := r_44.grow g_60
      obtain rfl := r_59.isL.eqn
      have u_69 := r_59.up
      have u_70 := r_59.lo
      refine T_spec_PeakRatio_i ⟨_, _, r_68.isL, r_59.isL, (by first | omega | (simp only [List.length_set, List.length_replicate, List.length_append, List.length_cons, List.length_nil, List.length_take, List.length_drop, marks_length]; done) | (simp only [List.length_set, List.length_replicate, List.length_append, List.length_cons, List.length_nil, List.length_take, List.length_drop, marks_length]; omega)), (by first | omega | (simp only [List.length_set, List.length_replicate, List.length_append, List.length_cons, List.length_nil, List.length_take, List.length_drop, marks_length]; done) | (simp only [List.length_set, List.length_replicate, List.length_append, List.length_cons, List.length_nil, List.length_take, List.length_drop, marks_length]; omega)), fun  H_7 g_72  => ?_⟩
      have l_73 := g_72.1
      have g_74 := g_62.trans g_72
      have l_75 := g_74.1
      have o_76 := o_64.grow g_72
      have w_77 := o_76.lt
      have o_78 := o_66.grow g_72
      have w_79 := o_78.lt
      have r_80 := r_68.grow g_72
      have r_81 := r_59.grow g_72
      refine ⟨aA_Wide, aA_High, aA_Lights_a, l_aA_Lights.length, aA_Lights_e, (o_76.rdN (Nat.le_of_ble_eq_true rfl)).trans rfl, ?_⟩
      refine T_laws_toPicture_i ⟨_, (i_aA_Lights.grow g_74), (by first | omega | (simp only [List.length_set, List.length_replicate, List.length_append, List.length_cons, List.length_nil, List.length_take, List.length_drop, marks_length]; done) | (simp only [List.length_set, List.length_replicate, List.length_append, List.length_cons, List.length_nil, List.length_take, List.length_drop, marks_length]; omega)), fun a_82 n_83 e_84 H_8 g_86 r_85 => ?_⟩
      have l_87 := g_86.1
      have g_88 := g_74.trans g_86
      have l_89 := g_88.1
      have o_90 := o_76.grow g_86
      have w_91 := o_90.lt
      have o_92 := o_78.grow g_86
      have w_93 := o_92.lt
      have r_94 := r_80.grow g_86
      have r_95 := r_81.grow g_86
      obtain rfl := r_85.isL.eqn
      have u_96 := r_85.up
      have u_97 := r_85.lo
      refine Al.intro (fun b_99 H_9 hb_100 hl_101 g_102 o_103 => ?_)
      have l_105 := g_102.1
      have g_106 := g_88.trans g_102
      have l_107 := g_106.1
      have o_108 := o_90.grow g_102
      have w_109 := o_108.lt
      have o_110 := o_92.grow g_102
      have w_111 := o_110.lt
      have r_112 := r_94.grow g_102
      have r_113 := r_95.grow g_102
      have r_114 := r_85.grow g_102
      have w_288 := o_103.lt
      refine Lt.setN (n := 3) o_103 (Nat.le_of_ble_eq_true rfl) rfl (fun H_10 hl_115 o_117 k_116 => ?_)
      have o_117 : Own H_10 b_99 [.int .i64 aA_Wide, .int .i64 aA_High, .slice a_82 ((l_aA_Lights).length) e_84] := o_117
      have l_118 := k_116.1
      have g_119 := g_106.keep (b := b_99) (by omega) k_116
      have l_120 := g_119.1
      have o_121 := o_108.keep (by omega) k_116
      have w_122 := o_121.lt
      have o_123 := o_110.keep (by omega) k_116
      have w_124 := o_123.lt
      have r_125 := r_112.keep u_53 (by omega) k_116
      have r_126 := r_113.keep u_69 (by omega) k_116
      have r_127 := r_114.keep u_96 (by omega) k_116
      have w_287 := o_117.lt
      refine ⟨aB_Wide, aB_High, aB_Lights_a, l_aB_Lights.length, aB_Lights_e, (o_123.rdN (Nat.le_of_ble_eq_true rfl)).trans rfl, ?_⟩
      refine T_laws_toPicture_i ⟨_, (i_aB_Lights.grow g_119), (by first | omega | (simp only [List.length_set, List.length_replicate, List.length_append, List.length_cons, List.length_nil, List.length_take, List.length_drop, marks_length]; done) | (simp only [List.length_set, List.length_replicate, List.length_append, List.length_cons, List.length_nil, List.length_take, List.length_drop, marks_length]; omega)), fun a_128 n_129 e_130 H_11 g_132 r_131 => ?_⟩
      have l_133 := g_132.1
      have g_134 := g_119.trans g_132
      have l_135 := g_134.1
      have o_136 := o_121.grow g_132
      have w_137 := o_136.lt
      have o_138 := o_123.grow g_132
      have w_139 := o_138.lt
      have o_140 := o_117.grow g_132
      have w_141 := o_140.lt
      have r_142 := r_125.grow g_132
      have r_143 := r_126.grow g_132
      have r_144 := r_127.grow g_132
      obtain rfl := r_131.isL.eqn
      have u_145 := r_131.up
      have u_146 := r_131.lo
      refine Al.intro (fun b_148 H_12 hb_149 hl_150 g_151 o_152 => ?_)
      have l_154 := g_151.1
      have g_155 := g_134.trans g_151
      have l_156 := g_155.1
      have o_157 := o_136.grow g_151
      have w_158 := o_157.lt
      have o_159 := o_138.grow g_151
      have w_160 := o_159.lt
      have o_161 := o_140.grow g_151
      have w_162 := o_161.lt
      have r_163 := r_142.grow g_151
      have r_164 := r_143.grow g_151
      have r_165 := r_144.grow g_151
      have r_166 := r_131.grow g_151
      have w_286 := o_152.lt
      refine Lt.setN (n := 3) o_152 (Nat.le_of_ble_eq_true rfl) rfl (fun H_13 hl_167 o_169 k_168 => ?_)
      have o_169 : Own H_13 b_148 [.int .i64 aB_Wide, .int .i64 aB_High, .slice a_128 ((l_aB_Lights).length) e_130] := o_169
      have l_170 := k_168.1
      have g_171 := g_155.keep (b := b_148) (by omega) k_168
      have l_172 := g_171.1
      have o_173 := o_157.keep (by omega) k_168
      have w_174 := o_173.lt
      have o_175 := o_159.keep (by omega) k_168
      have w_176 := o_175.lt
      have o_177 := o_161.keep (by omega) k_168
      have w_178 := o_177.lt
      have r_179 := r_163.keep u_53 (by omega) k_168
      have r_180 := r_164.keep u_69 (by omega) k_168
      have r_181 := r_165.keep u_96 (by omega) k_168
      have r_182 := r_166.keep u_145 (by omega) k_168
      have w_285 := o_169.lt
      refine ⟨aA_Wide, aA_High, a_82, (l_aA_Lights).length, e_84, (o_177.rdN (Nat.le_of_ble_eq_true rfl)).trans rfl, ?_⟩
      refine ⟨aB_Wide, aB_High, a_128, (l_aB_Lights).length, e_130, (o_169.rdN (Nat.le_of_ble_eq_true rfl)).trans rfl, ?_⟩
      refine T_impl_PeakRatio_i ⟨_, _, r_181.isL, r_182.isL, (by first | omega | (simp only [List.length_set, List.length_replicate, List.length_append, List.length_cons, List.length_nil, List.length_take, List.length_drop, marks_length]; done) | (simp only [List.length_set, List.length_replicate, List.length_append, List.length_cons, List.length_nil, List.length_take, List.length_drop, marks_length]; omega)), (by first | omega | (simp only [List.length_set, List.length_replicate, List.length_append, List.length_cons, List.length_nil, List.length_take, List.length_drop, marks_length]; done) | (simp only [List.length_set, List.length_replicate, List.length_append, List.length_cons, List.length_nil, List.length_take, List.length_drop, marks_length]; omega)), fun  H_14 g_183  => ?_⟩
      have l_184 := g_183.1
      have g_185 := g_171.trans g_183
      have l_186 := g_185.1
      have o_187 := o_173.grow g_183
      have w_188 := o_187.lt
      have o_189 := o_175.grow g_183
      have w_190 := o_189.lt
      have o_191 := o_177.grow g_183
      have w_192 := o_191.lt
      have o_193 := o_169.grow g_183
      have w_194 := o_193.lt
      have r_195 := r_179.grow g_183
      have r_196 := r_180.grow g_183
      have r_197 := r_181.grow g_183
      have r_198 := r_182.grow g_183
      refine T_laws_sameFloat_i ?_
      refine Br.intro (fun c_199 => ?_) (fun c_199 => ?_)
      · have e := e.trans (cond_t c_199)
        have c_199n := nf_of_t c_199
        first | exact hk _ | (exfalso; cases e; done) | (rw [← e]; exact hk _)
      · have e := e.trans (cond_f c_199)
        have c_199n := nt_of_f c_199
        refine Br.intro (fun c_200 => ?_) (fun c_200 => ?_)
        · have e := e.trans (cond_t c_200)
          have c_200n := nf_of_t c_200
          first | exact hk _ | (exfalso; cases e; done) | (rw [← e]; exact hk _)
        · have e := e.trans (cond_f c_200)
          have c_200n := nt_of_f c_200
          refine ⟨aA_Wide, aA_High, aA_Lights_a, l_aA_Lights.length, aA_Lights_e, (o_187.rdN (Nat.le_of_ble_eq_true rfl)).trans rfl, ?_⟩
          refine ⟨aA_Wide, aA_High, a_82, (l_aA_Lights).length, e_84, (o_191.rdN (Nat.le_of_ble_eq_true rfl)).trans rfl, ?_⟩
          refine T_laws_toPicture_i ⟨_, (i_aA_Lights.grow g_185), (by first | omega | (simp only [List.length_set, List.length_replicate, List.length_append, List.length_cons, List.length_nil, List.length_take, List.length_drop, marks_length]; done) | (simp only [List.length_set, List.length_replicate, List.length_append, List.length_cons, List.length_nil, List.length_take, List.length_drop, marks_length]; omega)), fun a_201 n_202 e_203 H_15 g_205 r_204 => ?_⟩
          have l_206 := g_205.1
          have g_207 := g_185.trans g_205
          have l_208 := g_207.1
          have o_209 := o_187.grow g_205
          have w_210 := o_209.lt
          have o_211 := o_189.grow g_205
          have w_212 := o_211.lt
          have o_213 := o_191.grow g_205
          have w_214 := o_213.lt
          have o_215 := o_193.grow g_205
          have w_216 := o_215.lt
          have r_217 := r_195.grow g_205
          have r_218 := r_196.grow g_205
          have r_219 := r_197.grow g_205
          have r_220 := r_198.grow g_205
          obtain rfl := r_204.isL.eqn
          have u_221 := r_204.up
          have u_222 := r_204.lo
          refine T_laws_eqPicture_i ⟨_, _, r_219.isL, r_204.isL, (by first | omega | (simp only [List.length_set, List.length_replicate, List.length_append, List.length_cons, List.length_nil, List.length_take, List.length_drop, marks_length]; done) | (simp only [List.length_set, List.length_replicate, List.length_append, List.length_cons, List.length_nil, List.length_take, List.length_drop, marks_length]; omega)), (by first | omega | (simp only [List.length_set, List.length_replicate, List.length_append, List.length_cons, List.length_nil, List.length_take, List.length_drop, marks_length]; done) | (simp only [List.length_set, List.length_replicate, List.length_append, List.length_cons, List.length_nil, List.length_take, List.length_drop, marks_length]; omega)), fun  H_16 g_224  => ?_⟩
          have l_225 := g_224.1
          have g_226 := g_207.trans g_224
          have l_227 := g_226.1
          have o_228 := o_209.grow g_224
          have w_229 := o_228.lt
          have o_230 := o_211.grow g_224
          have w_231 := o_230.lt
          have o_232 := o_213.grow g_224
          have w_233 := o_232.lt
          have o_234 := o_215.grow g_224
          have w_235 := o_234.lt
          have r_236 := r_217.grow g_224
          have r_237 := r_218.grow g_224
          have r_238 := r_219.grow g_224
          have r_239 := r_220.grow g_224
          have r_240 := r_204.grow g_224
          refine Br.intro (fun c_241 => ?_) (fun c_241 => ?_)
          · have e := e.trans (cond_t c_241)
            have c_241n := nf_of_t c_241
            first | exact hk _ | (exfalso; cases e; done) | (rw [← e]; exact hk _)
          · have e := e.trans (cond_f c_241)
            have c_241n := nt_of_f c_241
            refine ⟨aB_Wide, aB_High, aB_Lights_a, l_aB_Lights.length, aB_Lights_e, (o_230.rdN (Nat.le_of_ble_eq_true rfl)).trans rfl, ?_⟩
            refine ⟨aB_Wide, aB_High, a_128, (l_aB_Lights).length, e_130, (o_234.rdN (Nat.le_of_ble_eq_true rfl)).trans rfl, ?_⟩
            refine T_laws_toPicture_i ⟨_, (i_aB_Lights.grow g_226), (by first | omega | (simp only [List.length_set, List.length_replicate, List.length_append, List.length_cons, List.length_nil, List.length_take, List.length_drop, marks_length]; done) | (simp only [List.length_set, List.length_replicate, List.length_append, List.length_cons, List.length_nil, List.length_take, List.length_drop, marks_length]; omega)), fun a_242 n_243 e_244 H_17 g_246 r_245 => ?_⟩
            have l_247 := g_246.1
            have g_248 := g_226.trans g_246
            have l_249 := g_248.1
            have o_250 := o_228.grow g_246
            have w_251 := o_250.lt
            have o_252 := o_230.grow g_246
            have w_253 := o_252.lt
            have o_254 := o_232.grow g_246
            have w_255 := o_254.lt
            have o_256 := o_234.grow g_246
            have w_257 := o_256.lt
            have r_258 := r_236.grow g_246
            have r_259 := r_237.grow g_246
            have r_260 := r_238.grow g_246
            have r_261 := r_239.grow g_246
            have r_262 := r_240.grow g_246
            obtain rfl := r_245.isL.eqn
            have u_263 := r_245.up
            have u_264 := r_245.lo
            refine T_laws_eqPicture_i ⟨_, _, r_261.isL, r_245.isL, (by first | omega | (simp only [List.length_set, List.length_replicate, List.length_append, List.length_cons, List.length_nil, List.length_take, List.length_drop, marks_length]; done) | (simp only [List.length_set, List.length_replicate, List.length_append, List.length_cons, List.length_nil, List.length_take, List.length_drop, marks_length]; omega)), (by first | omega | (simp only [List.length_set, List.length_replicate, List.length_append, List.length_cons, List.length_nil, List.length_take, List.length_drop, marks_length]; done) | (simp only [List.length_set, List.length_replicate, List.length_append, List.length_cons, List.length_nil, List.length_take, List.length_drop, marks_length]; omega)), fun  H_18 g_266  => ?_⟩
            have l_267 := g_266.1
            have g_268 := g_248.trans g_266
            have l_269 := g_268.1
            have o_270 := o_250.grow g_266
            have w_271 := o_270.lt
            have o_272 := o_252.grow g_266
            have w_273 := o_272.lt
            have o_274 := o_254.grow g_266
            have w_275 := o_274.lt
            have o_276 := o_256.grow g_266
            have w_277 := o_276.lt
            have r_278 := r_258.grow g_266
            have r_279 := r_259.grow g_266
            have r_280 := r_260.grow g_266
            have r_281 := r_261.grow g_266
            have r_282 := r_262.grow g_266
            have r_283 := r_245.grow g_266
            refine Br.intro (fun c_284 => ?_) (fun c_284 => ?_)
            · have e := e.trans (cond_t c_284)
              have c_284n := nf_of_t c_284
              first | exact hk _ | (exfalso; cases e; done) | (rw [← e]; exact hk _)
            · have e := e.trans (cond_f c_284)
              have c_284n := nt_of_f c_284
              first | exact hk _ | (exfalso; cases e; done) | (rw [← e]; exact hk _)
theorem laws_FnExactPeakRatio_ok : FnOk Try.prog 13 S_laws_FnExactPeakRatio := by
  refine FnOk.body mix_ok E_laws_FnExactPeakRatio_ok Try.func13 rfl (by kernel_rfl) (by kernel_rfl) ?_ ?_ ?_ ?_ ?_
  · intro args H K K' h hk
    simp only [S_laws_FnExactPeakRatio] at *
    unfold F_laws_FnExactPeakRatio at *
    split at hk
    · obtain ⟨l_aA_Lights, l_aB_Lights, h_0, h_1, h_2, h_3, h_4, h_5, h_6, h_7, h_8, h_9, h_10, k⟩ := hk
      exact ⟨l_aA_Lights, l_aB_Lights, h_0, h_1, h_2, h_3, h_4, h_5, h_6, h_7, h_8, h_9, h_10, (fun H' => h _ _ (k H'))⟩
    · exact hk.elim
  · intro hq; cases hq
  · intro args H K hk
    simp only [S_laws_FnExactPeakRatio] at *
    unfold F_laws_FnExactPeakRatio at *
    split at hk
    · obtain ⟨l_aA_Lights, l_aB_Lights, h_0, h_1, h_2, h_3, h_4, h_5, h_6, h_7, h_8, h_9, h_10, k⟩ := hk
      exact ⟨_, _, k []⟩
    · exact hk.elim
  · intro hq; cases hq
  · have mm := @laws_FnExactPeakRatio_main
    revert mm
    generalize bodyK Try.prog E_laws_FnExactPeakRatio Try.f13 = Q
    intro mm args H K hk
    simp only [S_laws_FnExactPeakRatio] at *
    unfold F_laws_FnExactPeakRatio at *
    split at hk
    · exact mm _ _ _ _ _ _ _ _ _ _ _ H K hk
    · exact hk.elim
end Go.Proofs.Ytghkkclonabpkaa.Ai
