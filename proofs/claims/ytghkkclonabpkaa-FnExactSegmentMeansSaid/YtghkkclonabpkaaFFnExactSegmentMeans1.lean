/- What functions of the program come to on the abstract machine, and that they do so; printed by a program of mine around proofs of mine. -/
import Derived.Test.YtghkkclonabpkaaFFnExactSegmentMeans0
set_option linter.unusedVariables false
set_option linter.unusedSimpArgs false
set_option maxRecDepth 100000
namespace Go.Proofs.Ytghkkclonabpkaa.Ai
open Go
attribute [local irreducible] bodyK
def p_impl_areFinite_l2 (l_lists : List (List Nat)) (t2 : Bool) (t9 : Int) (k2_2 : Bool → Int → Bool) : Nat → Bool → Int → Bool
  | 0, _, _ => false
  | μ2 + 1, t2_2, t15 => (bif decide ((t15 : Int) < ((((l_lists).getD (t9 : Int).toNat [])).length : Int)) then (bif !((p_impl_IsFinite (((((l_lists).getD (t9 : Int).toNat [])).getD (t15 : Int).toNat 0)))) then false else (p_impl_areFinite_l2 l_lists t2 t9 k2_2 μ2 t2_2 (t15 + 1))) else (k2_2 t2_2 t15))
theorem p_impl_areFinite_l2_s (l_lists : List (List Nat)) (t2 : Bool) (t9 : Int) (k2_2 : Bool → Int → Bool) (μ2 : Nat) (t2_2 : Bool) (t15 : Int) : p_impl_areFinite_l2 l_lists t2 t9 k2_2 (μ2 + 1) t2_2 t15 = (bif decide ((t15 : Int) < ((((l_lists).getD (t9 : Int).toNat [])).length : Int)) then (bif !((p_impl_IsFinite (((((l_lists).getD (t9 : Int).toNat [])).getD (t15 : Int).toNat 0)))) then false else (p_impl_areFinite_l2 l_lists t2 t9 k2_2 μ2 t2_2 (t15 + 1))) else (k2_2 t2_2 t15)) := rfl
def p_impl_areFinite_l1 (l_lists : List (List Nat)) : Nat → Bool → Int → Bool
  | 0, _, _ => false
  | μ + 1, t2, t9 => (bif decide ((t9 : Int) < (l_lists.length : Int)) then (p_impl_areFinite_l2 l_lists t2 t9 (fun (t2_2 : Bool) (t15 : Int) => (p_impl_areFinite_l1 l_lists μ t2_2 (t9 + 1))) (Int.toNat (((((l_lists).getD (t9 : Int).toNat [])).length : Int) - (0 : Int)) + 1) t2 (0 : Int)) else true)
theorem p_impl_areFinite_l1_s (l_lists : List (List Nat)) (μ : Nat) (t2 : Bool) (t9 : Int) : p_impl_areFinite_l1 l_lists (μ + 1) t2 t9 = (bif decide ((t9 : Int) < (l_lists.length : Int)) then (p_impl_areFinite_l2 l_lists t2 t9 (fun (t2_2 : Bool) (t15 : Int) => (p_impl_areFinite_l1 l_lists μ t2_2 (t9 + 1))) (Int.toNat (((((l_lists).getD (t9 : Int).toNat [])).length : Int) - (0 : Int)) + 1) t2 (0 : Int)) else true) := rfl
def p_impl_areFinite (l_lists : List (List Nat)) : Bool := (p_impl_areFinite_l1 l_lists (Int.toNat ((l_lists.length : Int) - (0 : Int)) + 1) false (0 : Int))
theorem p_impl_areFinite_eq (l_lists : List (List Nat)) : p_impl_areFinite l_lists = (p_impl_areFinite_l1 l_lists (Int.toNat ((l_lists.length : Int) - (0 : Int)) + 1) false (0 : Int)) := rfl
def T_impl_areFinite (lists_a : Option Addr) (lists_n : Nat) (lists_e : Nat) (H : AHeap) (K : Bool → AHeap → Prop) : Prop := ∃ (l_lists : List (List Nat)), IsLL fF H lists_a lists_n l_lists ∧ l_lists.length < 1073741824 ∧ (∀ y ∈ l_lists, y.length < 1073741824) ∧ K (p_impl_areFinite l_lists) H
theorem T_impl_areFinite_i {lists_a : Option Addr} {lists_n : Nat} {lists_e : Nat} {H : AHeap} {K : Bool → AHeap → Prop} (h : ∃ (l_lists : List (List Nat)), IsLL fF H lists_a lists_n l_lists ∧ l_lists.length < 1073741824 ∧ (∀ y ∈ l_lists, y.length < 1073741824) ∧ K (p_impl_areFinite l_lists) H) : T_impl_areFinite lists_a lists_n lists_e H K := h

/-! impl_areFinite: function 115 -/
def E_impl_areFinite : Env := envOf [(62, S_impl_IsFinite)]
def F_impl_areFinite : List Value → AHeap → (Value → AHeap → Prop) → Prop
  | [.slice lists_a lists_n lists_e], H, K => T_impl_areFinite lists_a lists_n lists_e H fun (r1 : Bool) (H' : AHeap) => K (.bool r1) H'
  | _, _, _ => False
def S_impl_areFinite : FSpec := { F := F_impl_areFinite, quiet := true, tame := false }
theorem impl_areFinite_vc (lists_a : Option Addr) (lists_n : Nat) (lists_e : Nat) (H : AHeap) (K : Value → AHeap → Prop) : bodyK Try.prog E_impl_areFinite Try.f115 [.slice lists_a lists_n lists_e] H K =
  (loopK (exK Try.prog E_impl_areFinite (cl (cl (cr (cl (cr (bodyC Try.f115))))))) [.slice lists_a lists_n lists_e, undef, .bool false, undef, undef, undef, undef, .slice lists_a lists_n lists_e, .int .i64 (lists_n : Int), .int .i64 0, undef, undef, undef, undef, undef, undef, undef, undef, undef, undef, undef, undef, undef, undef] H (blockQ 0 (seqQ (exK Try.prog E_impl_areFinite (cr (cr (bodyC Try.f115)))) (retK Try.prog Try.f115 K)))) := by kernel_rfl
theorem impl_areFinite_r1 (lists_a : Option Addr) (lists_e : Nat) (lists_n : Nat) (t2 : Bool) (t9 : Int) (g4 g6 g10 g11 g12 g13 g14 g15 g16 g17 g18 g19 g20 g21 g22 g23 : Value) (H : AHeap) (R : Post) : exK Try.prog E_impl_areFinite (cl (cl (cr (cl (cr (bodyC Try.f115)))))) [.slice lists_a lists_n lists_e, undef, .bool t2, undef, g4, undef, g6, .slice lists_a lists_n lists_e, .int .i64 (lists_n : Int), .int .i64 t9, g10, g11, g12, g13, g14, g15, g16, g17, g18, g19, g20, g21, g22, g23] H R =
  (Br (decide ((t9 : Int) < (lists_n : Int))) ((0 : Int) ≤ t9 ∧ t9 < (lists_n : Int) ∧ ∃ b1 f1, (lists_a : Option Addr) = some ⟨b1, f1, none⟩ ∧ ∃ x1_a : Option Addr, ∃ x1_n : Nat, ∃ x1_e : Nat,  rdC H b1 (f1 + (t9 : Int).toNat * 1) = some (.slice x1_a x1_n x1_e) ∧ loopK (exK Try.prog E_impl_areFinite (cl (cl (cr (cr (cl (cl (cr (cr (cl (cl (cr (cl (cr (bodyC Try.f115))))))))))))))) [.slice lists_a lists_n lists_e, undef, .bool t2, undef, .slice x1_a x1_n x1_e, undef, g6, .slice lists_a lists_n lists_e, .int .i64 (lists_n : Int), .int .i64 t9, .bool (decide ((t9 : Int) < (lists_n : Int))), .pointer (some ⟨b1, f1 + (t9 : Int).toNat * 1, none⟩), .slice x1_a x1_n x1_e, .slice x1_a x1_n x1_e, .int .i64 (x1_n : Int), .int .i64 0, g16, g17, g18, g19, g20, g21, g22, g23] H (blockQ 2 (blockQ 1 (seqQ (exK Try.prog E_impl_areFinite (cr (cr (cr (cl (cl (cr (cl (cr (bodyC Try.f115)))))))))) (R))))) (R (.exit 0) [.slice lists_a lists_n lists_e, undef, .bool t2, undef, g4, undef, g6, .slice lists_a lists_n lists_e, .int .i64 (lists_n : Int), .int .i64 t9, .bool (decide ((t9 : Int) < (lists_n : Int))), g11, g12, g13, g14, g15, g16, g17, g18, g19, g20, g21, g22, g23] H)) := by kernel_rfl
def impl_areFinite_I1 (lists_a : Option Addr) (lists_e : Nat) (lists_n : Nat) (Inv : Nat → Bool → Int → AHeap → Prop) : Nat → List Value → AHeap → Prop := fun μ tm H => ∃ (t2 : Bool), ∃ (t9 : Int), ∃ g4 g6 g10 g11 g12 g13 g14 g15 g16 g17 g18 g19 g20 g21 g22 g23, tm = [.slice lists_a lists_n lists_e, undef, .bool t2, undef, g4, undef, g6, .slice lists_a lists_n lists_e, .int .i64 (lists_n : Int), .int .i64 t9, g10, g11, g12, g13, g14, g15, g16, g17, g18, g19, g20, g21, g22, g23] ∧ Inv μ t2 t9 H
theorem impl_areFinite_L1 (lists_a : Option Addr) (lists_e : Nat) (lists_n : Nat) {Q : Post} (Inv : Nat → Bool → Int → AHeap → Prop) (ν : Nat) (t2 : Bool) (t9 : Int) (g4 g6 g10 g11 g12 g13 g14 g15 g16 g17 g18 g19 g20 g21 g22 g23 : Value) (H : AHeap) (h0 : Inv ν t2 t9 H)
    (hs : ∀ (μ : Nat) (t2 : Bool) (t9 : Int) (g4 g6 g10 g11 g12 g13 g14 g15 g16 g17 g18 g19 g20 g21 g22 g23 : Value) (H : AHeap), Inv μ t2 t9 H → exK Try.prog E_impl_areFinite (cl (cl (cr (cl (cr (bodyC Try.f115)))))) [.slice lists_a lists_n lists_e, undef, .bool t2, undef, g4, undef, g6, .slice lists_a lists_n lists_e, .int .i64 (lists_n : Int), .int .i64 t9, g10, g11, g12, g13, g14, g15, g16, g17, g18, g19, g20, g21, g22, g23] H (loopQ (impl_areFinite_I1 lists_a lists_e lists_n Inv) μ Q)) : loopK (exK Try.prog E_impl_areFinite (cl (cl (cr (cl (cr (bodyC Try.f115))))))) [.slice lists_a lists_n lists_e, undef, .bool t2, undef, g4, undef, g6, .slice lists_a lists_n lists_e, .int .i64 (lists_n : Int), .int .i64 t9, g10, g11, g12, g13, g14, g15, g16, g17, g18, g19, g20, g21, g22, g23] H Q :=
  ⟨impl_areFinite_I1 lists_a lists_e lists_n Inv, ν, ⟨t2, t9, g4, g6, g10, g11, g12, g13, g14, g15, g16, g17, g18, g19, g20, g21, g22, g23, rfl, h0⟩, fun μ tm H h => by obtain ⟨t2, t9, g4, g6, g10, g11, g12, g13, g14, g15, g16, g17, g18, g19, g20, g21, g22, g23, rfl, hI⟩ := h; exact hs μ t2 t9 g4 g6 g10 g11 g12 g13 g14 g15 g16 g17 g18 g19 g20 g21 g22 g23 H hI⟩
theorem impl_areFinite_n1 {lists_a : Option Addr} {lists_e : Nat} {lists_n : Nat} {Q : Post} {Inv : Nat → Bool → Int → AHeap → Prop} {μ : Nat} (μ' : Nat) {t2 : Bool} {t9 : Int} {g4 g6 g10 g11 g12 g13 g14 g15 g16 g17 g18 g19 g20 g21 g22 g23 : Value} {H : AHeap} (hm : μ' < μ) (hI : Inv μ' t2 t9 H) : loopQ (impl_areFinite_I1 lists_a lists_e lists_n Inv) μ Q .normal [.slice lists_a lists_n lists_e, undef, .bool t2, undef, g4, undef, g6, .slice lists_a lists_n lists_e, .int .i64 (lists_n : Int), .int .i64 t9, g10, g11, g12, g13, g14, g15, g16, g17, g18, g19, g20, g21, g22, g23] H := ⟨μ', hm, t2, t9, g4, g6, g10, g11, g12, g13, g14, g15, g16, g17, g18, g19, g20, g21, g22, g23, rfl, hI⟩
theorem impl_areFinite_x1_0 (lists_a : Option Addr) (lists_e : Nat) (lists_n : Nat) (t2 : Bool) (t9 : Int) (g4 g6 g10 g11 g12 g13 g14 g15 g16 g17 g18 g19 g20 g21 g22 g23 : Value) (H : AHeap) (K : Value → AHeap → Prop)  {I : Nat → List Value → AHeap → Prop} {μ : Nat} : loopQ I μ (blockQ 0 (seqQ (exK Try.prog E_impl_areFinite (cr (cr (bodyC Try.f115)))) (retK Try.prog Try.f115 K))) (.exit 0) [.slice lists_a lists_n lists_e, undef, .bool t2, undef, g4, undef, g6, .slice lists_a lists_n lists_e, .int .i64 (lists_n : Int), .int .i64 t9, g10, g11, g12, g13, g14, g15, g16, g17, g18, g19, g20, g21, g22, g23] H =
  (K (.bool true) H) := by kernel_rfl
theorem impl_areFinite_x1_ret (lists_a : Option Addr) (lists_e : Nat) (lists_n : Nat) (t2 : Bool) (t9 : Int) (g4 g6 g10 g11 g12 g13 g14 g15 g16 g17 g18 g19 g20 g21 g22 g23 : Value) (H : AHeap) (K : Value → AHeap → Prop)  {I : Nat → List Value → AHeap → Prop} {μ : Nat} : loopQ I μ (blockQ 0 (seqQ (exK Try.prog E_impl_areFinite (cr (cr (bodyC Try.f115)))) (retK Try.prog Try.f115 K))) .ret [.slice lists_a lists_n lists_e, undef, .bool t2, undef, g4, undef, g6, .slice lists_a lists_n lists_e, .int .i64 (lists_n : Int), .int .i64 t9, g10, g11, g12, g13, g14, g15, g16, g17, g18, g19, g20, g21, g22, g23] H =
  (K (.bool t2) H) := by kernel_rfl
theorem impl_areFinite_r2 (b1 : Nat) (f1 : Nat) (g23 : Value) (lists_a : Option Addr) (lists_e : Nat) (lists_n : Nat) (t9 : Int) (x1_a : Option Addr) (x1_e : Nat) (x1_n : Nat) (t2_2 : Bool) (t15 : Int) (g6 g16 g17 g18 g19 g20 g21 g22 : Value) (H : AHeap) (R : Post) : exK Try.prog E_impl_areFinite (cl (cl (cr (cr (cl (cl (cr (cr (cl (cl (cr (cl (cr (bodyC Try.f115)))))))))))))) [.slice lists_a lists_n lists_e, undef, .bool t2_2, undef, .slice x1_a x1_n x1_e, undef, g6, .slice lists_a lists_n lists_e, .int .i64 (lists_n : Int), .int .i64 t9, .bool (decide ((t9 : Int) < (lists_n : Int))), .pointer (some ⟨b1, f1 + (t9 : Int).toNat * 1, none⟩), .slice x1_a x1_n x1_e, .slice x1_a x1_n x1_e, .int .i64 (x1_n : Int), .int .i64 t15, g16, g17, g18, g19, g20, g21, g22, g23] H R =
  (Br (decide ((t15 : Int) < (x1_n : Int))) ((0 : Int) ≤ t15 ∧ t15 < (x1_n : Int) ∧ ∃ b2 f2, (x1_a : Option Addr) = some ⟨b2, f2, none⟩ ∧ ∃ x2 : Nat,  rdC H b2 (f2 + (t15 : Int).toNat * 1) = some (.float .f32 x2) ∧ T_impl_IsFinite x2 H fun (r1 : Bool) (H1 : AHeap) => Br (!r1) (R .ret [.slice lists_a lists_n lists_e, undef, .bool false, undef, .slice x1_a x1_n x1_e, undef, .float .f32 x2, .slice lists_a lists_n lists_e, .int .i64 (lists_n : Int), .int .i64 t9, .bool (decide ((t9 : Int) < (lists_n : Int))), .pointer (some ⟨b1, f1 + (t9 : Int).toNat * 1, none⟩), .slice x1_a x1_n x1_e, .slice x1_a x1_n x1_e, .int .i64 (x1_n : Int), .int .i64 t15, .bool (decide ((t15 : Int) < (x1_n : Int))), .pointer (some ⟨b2, f2 + (t15 : Int).toNat * 1, none⟩), .float .f32 x2, .float .f32 x2, .bool r1, .bool (!r1), g22, g23] H1) (R .normal [.slice lists_a lists_n lists_e, undef, .bool t2_2, undef, .slice x1_a x1_n x1_e, undef, .float .f32 x2, .slice lists_a lists_n lists_e, .int .i64 (lists_n : Int), .int .i64 t9, .bool (decide ((t9 : Int) < (lists_n : Int))), .pointer (some ⟨b1, f1 + (t9 : Int).toNat * 1, none⟩), .slice x1_a x1_n x1_e, .slice x1_a x1_n x1_e, .int .i64 (x1_n : Int), .int .i64 (IntKind.wrap .i64 (t15 + 1)), .bool (decide ((t15 : Int) < (x1_n : Int))), .pointer (some ⟨b2, f2 + (t15 : Int).toNat * 1, none⟩), .float .f32 x2, .float .f32 x2, .bool r1, .bool (!r1), .int .i64 (IntKind.wrap .i64 (t15 + 1)), g23] H1)) (R (.exit 2) [.slice lists_a lists_n lists_e, undef, .bool t2_2, undef, .slice x1_a x1_n x1_e, undef, g6, .slice lists_a lists_n lists_e, .int .i64 (lists_n : Int), .int .i64 t9, .bool (decide ((t9 : Int) < (lists_n : Int))), .pointer (some ⟨b1, f1 + (t9 : Int).toNat * 1, none⟩), .slice x1_a x1_n x1_e, .slice x1_a x1_n x1_e, .int .i64 (x1_n : Int), .int .i64 t15, .bool (decide ((t15 : Int) < (x1_n : Int))), g17, g18, g19, g20, g21, g22, g23] H)) := by kernel_rfl
def impl_areFinite_I2 (b1 : Nat) (f1 : Nat) (g23 : Value) (lists_a : Option Addr) (lists_e : Nat) (lists_n : Nat) (t9 : Int) (x1_a : Option Addr) (x1_e : Nat) (x1_n : Nat) (Inv : Nat → Bool → Int → AHeap → Prop) : Nat → List Value → AHeap → Prop := fun μ tm H => ∃ (t2_2 : Bool), ∃ (t15 : Int), ∃ g6 g16 g17 g18 g19 g20 g21 g22, tm = [.slice lists_a lists_n lists_e, undef, .bool t2_2, undef, .slice x1_a x1_n x1_e, undef, g6, .slice lists_a lists_n lists_e, .int .i64 (lists_n : Int), .int .i64 t9, .bool (decide ((t9 : Int) < (lists_n : Int))), .pointer (some ⟨b1, f1 + (t9 : Int).toNat * 1, none⟩), .slice x1_a x1_n x1_e, .slice x1_a x1_n x1_e, .int .i64 (x1_n : Int), .int .i64 t15, g16, g17, g18, g19, g20, g21, g22, g23] ∧ Inv μ t2_2 t15 H
theorem impl_areFinite_L2 (b1 : Nat) (f1 : Nat) (g23 : Value) (lists_a : Option Addr) (lists_e : Nat) (lists_n : Nat) (t9 : Int) (x1_a : Option Addr) (x1_e : Nat) (x1_n : Nat) {Q : Post} (Inv : Nat → Bool → Int → AHeap → Prop) (ν : Nat) (t2_2 : Bool) (t15 : Int) (g6 g16 g17 g18 g19 g20 g21 g22 : Value) (H : AHeap) (h0 : Inv ν t2_2 t15 H)
    (hs : ∀ (μ : Nat) (t2_2 : Bool) (t15 : Int) (g6 g16 g17 g18 g19 g20 g21 g22 : Value) (H : AHeap), Inv μ t2_2 t15 H → exK Try.prog E_impl_areFinite (cl (cl (cr (cr (cl (cl (cr (cr (cl (cl (cr (cl (cr (bodyC Try.f115)))))))))))))) [.slice lists_a lists_n lists_e, undef, .bool t2_2, undef, .slice x1_a x1_n x1_e, undef, g6, .slice lists_a lists_n lists_e, .int .i64 (lists_n : Int), .int .i64 t9, .bool (decide ((t9 : Int) < (lists_n : Int))), .pointer (some ⟨b1, f1 + (t9 : Int).toNat * 1, none⟩), .slice x1_a x1_n x1_e, .slice x1_a x1_n x1_e, .int .i64 (x1_n : Int), .int .i64 t15, g16, g17, g18, g19, g20, g21, g22, g23] H (loopQ (impl_areFinite_I2 b1 f1 g23 lists_a lists_e lists_n t9 x1_a x1_e x1_n Inv) μ Q)) : loopK (exK Try.prog E_impl_areFinite (cl (cl (cr (cr (cl (cl (cr (cr (cl (cl (cr (cl (cr (bodyC Try.f115))))))))))))))) [.slice lists_a lists_n lists_e, undef, .bool t2_2, undef, .slice x1_a x1_n x1_e, undef, g6, .slice lists_a lists_n lists_e, .int .i64 (lists_n : Int), .int .i64 t9, .bool (decide ((t9 : Int) < (lists_n : Int))), .pointer (some ⟨b1, f1 + (t9 : Int).toNat * 1, none⟩), .slice x1_a x1_n x1_e, .slice x1_a x1_n x1_e, .int .i64 (x1_n : Int), .int .i64 t15, g16, g17, g18, g19, g20, g21, g22, g23] H Q :=
  ⟨impl_areFinite_I2 b1 f1 g23 lists_a lists_e lists_n t9 x1_a x1_e x1_n Inv, ν, ⟨t2_2, t15, g6, g16, g17, g18, g19, g20, g21, g22, rfl, h0⟩, fun μ tm H h => by obtain ⟨t2_2, t15, g6, g16, g17, g18, g19, g20, g21, g22, rfl, hI⟩ := h; exact hs μ t2_2 t15 g6 g16 g17 g18 g19 g20 g21 g22 H hI⟩
theorem impl_areFinite_n2 {b1 : Nat} {f1 : Nat} {g23 : Value} {lists_a : Option Addr} {lists_e : Nat} {lists_n : Nat} {t9 : Int} {x1_a : Option Addr} {x1_e : Nat} {x1_n : Nat} {Q : Post} {Inv : Nat → Bool → Int → AHeap → Prop} {μ : Nat} (μ' : Nat) {t2_2 : Bool} {t15 : Int} {g6 g16 g17 g18 g19 g20 g21 g22 : Value} {H : AHeap} (hm : μ' < μ) (hI : Inv μ' t2_2 t15 H) : loopQ (impl_areFinite_I2 b1 f1 g23 lists_a lists_e lists_n t9 x1_a x1_e x1_n Inv) μ Q .normal [.slice lists_a lists_n lists_e, undef, .bool t2_2, undef, .slice x1_a x1_n x1_e, undef, g6, .slice lists_a lists_n lists_e, .int .i64 (lists_n : Int), .int .i64 t9, .bool (decide ((t9 : Int) < (lists_n : Int))), .pointer (some ⟨b1, f1 + (t9 : Int).toNat * 1, none⟩), .slice x1_a x1_n x1_e, .slice x1_a x1_n x1_e, .int .i64 (x1_n : Int), .int .i64 t15, g16, g17, g18, g19, g20, g21, g22, g23] H := ⟨μ', hm, t2_2, t15, g6, g16, g17, g18, g19, g20, g21, g22, rfl, hI⟩
theorem impl_areFinite_x2_2 (b1 : Nat) (f1 : Nat) (g23 : Value) (lists_a : Option Addr) (lists_e : Nat) (lists_n : Nat) (t9 : Int) (x1_a : Option Addr) (x1_e : Nat) (x1_n : Nat) (t2_2 : Bool) (t15 : Int) (g6 g16 g17 g18 g19 g20 g21 g22 : Value) (H : AHeap)  (R : Post) {I : Nat → List Value → AHeap → Prop} {μ : Nat} : loopQ I μ (blockQ 2 (blockQ 1 (seqQ (exK Try.prog E_impl_areFinite (cr (cr (cr (cl (cl (cr (cl (cr (bodyC Try.f115)))))))))) (R)))) (.exit 2) [.slice lists_a lists_n lists_e, undef, .bool t2_2, undef, .slice x1_a x1_n x1_e, undef, g6, .slice lists_a lists_n lists_e, .int .i64 (lists_n : Int), .int .i64 t9, .bool (decide ((t9 : Int) < (lists_n : Int))), .pointer (some ⟨b1, f1 + (t9 : Int).toNat * 1, none⟩), .slice x1_a x1_n x1_e, .slice x1_a x1_n x1_e, .int .i64 (x1_n : Int), .int .i64 t15, g16, g17, g18, g19, g20, g21, g22, g23] H =
  (R .normal [.slice lists_a lists_n lists_e, undef, .bool t2_2, undef, .slice x1_a x1_n x1_e, undef, g6, .slice lists_a lists_n lists_e, .int .i64 (lists_n : Int), .int .i64 (IntKind.wrap .i64 (t9 + 1)), .bool (decide ((t9 : Int) < (lists_n : Int))), .pointer (some ⟨b1, f1 + (t9 : Int).toNat * 1, none⟩), .slice x1_a x1_n x1_e, .slice x1_a x1_n x1_e, .int .i64 (x1_n : Int), .int .i64 t15, g16, g17, g18, g19, g20, g21, g22, .int .i64 (IntKind.wrap .i64 (t9 + 1))] H) := by kernel_rfl
theorem impl_areFinite_x2_ret (b1 : Nat) (f1 : Nat) (g23 : Value) (lists_a : Option Addr) (lists_e : Nat) (lists_n : Nat) (t9 : Int) (x1_a : Option Addr) (x1_e : Nat) (x1_n : Nat) (t2_2 : Bool) (t15 : Int) (g6 g16 g17 g18 g19 g20 g21 g22 : Value) (H : AHeap)  (R : Post) {I : Nat → List Value → AHeap → Prop} {μ : Nat} : loopQ I μ (blockQ 2 (blockQ 1 (seqQ (exK Try.prog E_impl_areFinite (cr (cr (cr (cl (cl (cr (cl (cr (bodyC Try.f115)))))))))) (R)))) .ret [.slice lists_a lists_n lists_e, undef, .bool t2_2, undef, .slice x1_a x1_n x1_e, undef, g6, .slice lists_a lists_n lists_e, .int .i64 (lists_n : Int), .int .i64 t9, .bool (decide ((t9 : Int) < (lists_n : Int))), .pointer (some ⟨b1, f1 + (t9 : Int).toNat * 1, none⟩), .slice x1_a x1_n x1_e, .slice x1_a x1_n x1_e, .int .i64 (x1_n : Int), .int .i64 t15, g16, g17, g18, g19, g20, g21, g22, g23] H =
  (R .ret [.slice lists_a lists_n lists_e, undef, .bool t2_2, undef, .slice x1_a x1_n x1_e, undef, g6, .slice lists_a lists_n lists_e, .int .i64 (lists_n : Int), .int .i64 t9, .bool (decide ((t9 : Int) < (lists_n : Int))), .pointer (some ⟨b1, f1 + (t9 : Int).toNat * 1, none⟩), .slice x1_a x1_n x1_e, .slice x1_a x1_n x1_e, .int .i64 (x1_n : Int), .int .i64 t15, g16, g17, g18, g19, g20, g21, g22, g23] H) := by kernel_rfl
theorem E_impl_areFinite_ok : ∀ g, FnOk Try.prog g (E_impl_areFinite g) := FnOk.envOf (by
  intro x hx
  simp only [List.mem_cons, List.not_mem_nil, or_false] at hx
  subst hx; exact impl_IsFinite_ok)
set_option maxHeartbeats 1000000 in
theorem impl_areFinite_main (lists_a : Option Addr) (lists_n : Nat) (lists_e : Nat) (H : AHeap) (K : Value → AHeap → Prop) (h : T_impl_areFinite lists_a lists_n lists_e H fun (r1 : Bool) (H' : AHeap) => K (.bool r1) H') : bodyK Try.prog E_impl_areFinite Try.f115 [.slice lists_a lists_n lists_e] H K := by
  rw [impl_areFinite_vc]
  obtain ⟨l_lists, i_lists, bd_22, bb_l_lists, hk⟩ := h
  obtain rfl := i_lists.eqn
  have e : (p_impl_areFinite l_lists) = _ := rfl
  have e := e.trans (p_impl_areFinite_eq l_lists)
  have g0 := Grow.refl H
  refine impl_areFinite_L1 _ _ _ (fun (μ : Nat) (t2 : Bool) (t9 : Int) (H_1 : AHeap) => H = H_1 ∧ (0 : Int) ≤ t9 ∧ t9 ≤ (l_lists.length : Int) ∧ (l_lists.length : Int) - t9 ≤ (μ : Int) ∧ p_impl_areFinite l_lists = p_impl_areFinite_l1 l_lists (μ + 1) t2 t9) (Int.toNat ((l_lists.length : Int) - (0 : Int))) _ _ _ _ _ _ _ _ _ _ _ _ _ _ _ _ _ _ H ?_ ?_
  · exact ⟨rfl, (by first | omega | (simp; done) | (simp; omega)), (by first | omega | (simp; done) | (simp; omega)), (by omega), e⟩
  · intro μ t2 t9 g4 g6 g10 g11 g12 g13 g14 g15 g16 g17 g18 g19 g20 g21 g22 g23 H_1 hI
    obtain ⟨rfl, v_1, v_2, hμ, e⟩ := hI
    rw [impl_areFinite_r1]
    have e := e.trans (p_impl_areFinite_l1_s l_lists μ t2 t9)
    have l_3 := g0.1
    refine Br.intro (fun c_4 => ?_) (fun c_4 => ?_)
    · have e := e.trans (cond_t c_4)
      have c_4' := of_decide_eq_true c_4
      obtain ⟨b_5, f_6, q_7⟩ := ((i_lists.grow g0)).pos (by first | omega | (simp only [List.length_set, List.length_replicate, List.length_append, List.length_cons, List.length_nil, List.length_take, List.length_drop, marks_length]; done) | (simp only [List.length_set, List.length_replicate, List.length_append, List.length_cons, List.length_nil, List.length_take, List.length_drop, marks_length]; omega))
      refine ⟨by omega, by omega, b_5, f_6, q_7, ?_⟩
      obtain ⟨a_8, n_9, e_10, r_11, i_12⟩ := (i_lists).rd (i := (t9 : Int).toNat) g0 q_7 (by omega)
      obtain rfl := i_12.eqn
      refine ⟨a_8, _, e_10, r_11, ?_⟩
      have z_13 := getD_len bb_l_lists (t9 : Int).toNat
      refine impl_areFinite_L2 _ _ _ _ _ _ _ _ _ _ (fun (μ2 : Nat) (t2_2 : Bool) (t15 : Int) (H_2 : AHeap) => H = H_2 ∧ (0 : Int) ≤ t15 ∧ t15 ≤ ((((l_lists).getD (t9 : Int).toNat [])).length : Int) ∧ ((((l_lists).getD (t9 : Int).toNat [])).length : Int) - t15 ≤ (μ2 : Int) ∧ p_impl_areFinite l_lists = p_impl_areFinite_l2 l_lists t2 t9 (fun (t2_2 : Bool) (t15 : Int) => (p_impl_areFinite_l1 l_lists μ t2_2 (t9 + 1))) (μ2 + 1) t2_2 t15) (Int.toNat (((((l_lists).getD (t9 : Int).toNat [])).length : Int) - (0 : Int))) _ _ _ _ _ _ _ _ _ _ H ?_ ?_
      · exact ⟨rfl, (by first | omega | (simp; done) | (simp; omega)), (by first | omega | (simp; done) | (simp; omega)), (by omega), e⟩
      · intro μ2 t2_2 t15 g6 g16 g17 g18 g19 g20 g21 g22 H_2 hI
        obtain ⟨rfl, v_14, v_15, hμ, e⟩ := hI
        rw [impl_areFinite_r2]
        have e := e.trans (p_impl_areFinite_l2_s l_lists t2 t9 (fun (t2_2 : Bool) (t15 : Int) => (p_impl_areFinite_l1 l_lists μ t2_2 (t9 + 1))) μ2 t2_2 t15)
        have l_16 := g0.1
        refine Br.intro (fun c_17 => ?_) (fun c_17 => ?_)
        · have e := e.trans (cond_t c_17)
          have c_17' := of_decide_eq_true c_17
          obtain ⟨b_18, f_19, q_20⟩ := ((i_12.grow g0)).pos (by first | omega | (simp only [List.length_set, List.length_replicate, List.length_append, List.length_cons, List.length_nil, List.length_take, List.length_drop, marks_length]; done) | (simp only [List.length_set, List.length_replicate, List.length_append, List.length_cons, List.length_nil, List.length_take, List.length_drop, marks_length]; omega))
          refine ⟨by omega, by omega, b_18, f_19, q_20, ?_⟩
          refine ⟨((((l_lists).getD (t9 : Int).toNat [])).getD (t15 : Int).toNat 0), (i_12).rd g0 q_20 (by omega) _, ?_⟩
          refine T_impl_IsFinite_i ?_
          refine Br.intro (fun c_21 => ?_) (fun c_21 => ?_)
          · have e := e.trans (cond_t c_21)
            have c_21n := nf_of_t c_21
            rw [impl_areFinite_x2_ret]
            rw [impl_areFinite_x1_ret]
            rw [e] at hk
            exact hk
          · have e := e.trans (cond_f c_21)
            have c_21n := nt_of_f c_21
            rw [show IntKind.wrap .i64 (t15 + 1) = (t15 + 1) from wrap64 (by omega) (by omega)]
            refine impl_areFinite_n2 (μ2 - 1) (by first | omega) ⟨rfl, (by first | omega | (simp only [List.length_append, List.length_cons, List.length_nil, List.length_set]; done) | (simp only [List.length_append, List.length_cons, List.length_nil, List.length_set]; omega)), (by first | omega | (simp only [List.length_append, List.length_cons, List.length_nil, List.length_set]; done) | (simp only [List.length_append, List.length_cons, List.length_nil, List.length_set]; omega)), (by first | omega), (by rw [show μ2 - 1 + 1 = μ2 from by first | omega]; exact e)⟩
        · have e := e.trans (cond_f c_17)
          have c_17' := of_decide_eq_false c_17
          rw [impl_areFinite_x2_2]
          rw [show IntKind.wrap .i64 (t9 + 1) = (t9 + 1) from wrap64 (by omega) (by omega)]
          refine impl_areFinite_n1 (μ - 1) (by first | omega) ⟨rfl, (by first | omega | (simp only [List.length_append, List.length_cons, List.length_nil, List.length_set]; done) | (simp only [List.length_append, List.length_cons, List.length_nil, List.length_set]; omega)), (by first | omega | (simp only [List.length_append, List.length_cons, List.length_nil, List.length_set]; done) | (simp only [List.length_append, List.length_cons, List.length_nil, List.length_set]; omega)), (by first | omega), (by rw [show μ - 1 + 1 = μ from by first | omega]; exact e)⟩
    · have e := e.trans (cond_f c_4)
      have c_4' := of_decide_eq_false c_4
      rw [impl_areFinite_x1_0]
      rw [e] at hk
      exact hk
theorem impl_areFinite_ok : FnOk Try.prog 115 S_impl_areFinite := by
  refine FnOk.body mix_ok E_impl_areFinite_ok Try.func115 rfl (by kernel_rfl) (by kernel_rfl) ?_ ?_ ?_ ?_ ?_
  · intro args H K K' h hk
    simp only [S_impl_areFinite] at *
    unfold F_impl_areFinite at *
    split at hk
    · obtain ⟨l_lists, i_lists, bd_22, bb_l_lists, k⟩ := hk
      exact ⟨l_lists, i_lists, bd_22, bb_l_lists, h _ _ k⟩
    · exact hk.elim
  · intro _ args H K hk
    simp only [S_impl_areFinite] at *
    unfold F_impl_areFinite at *
    split at hk
    · obtain ⟨l_lists, i_lists, bd_22, bb_l_lists, k⟩ := hk
      exact ⟨_, k, fun K' k' => ⟨l_lists, i_lists, bd_22, bb_l_lists, k'⟩⟩
    · exact hk.elim
  · intro args H K hk
    simp only [S_impl_areFinite] at *
    unfold F_impl_areFinite at *
    split at hk
    · obtain ⟨l_lists, i_lists, bd_22, bb_l_lists, k⟩ := hk
      exact ⟨_, _, k⟩
    · exact hk.elim
  · intro hq; cases hq
  · have mm := @impl_areFinite_main
    revert mm
    generalize bodyK Try.prog E_impl_areFinite Try.f115 = Q
    intro mm args H K hk
    simp only [S_impl_areFinite] at *
    unfold F_impl_areFinite at *
    split at hk
    · exact mm _ _ _ H K hk
    · exact hk.elim
def p_impl_isLong (l_list : List Nat) : Bool := (bif (p_impl_within (l_list.length : Int) (1 : Int) (128 : Int)) then (p_impl_areFinite ([l_list])) else false)
theorem p_impl_isLong_eq (l_list : List Nat) : p_impl_isLong l_list = (bif (p_impl_within (l_list.length : Int) (1 : Int) (128 : Int)) then (p_impl_areFinite ([l_list])) else false) := rfl
def T_impl_isLong (list_a : Option Addr) (list_n : Nat) (list_e : Nat) (H : AHeap) (K : Bool → AHeap → Prop) : Prop := ∃ (l_list : List Nat), IsL fF H list_a list_n l_list ∧ l_list.length < 1073741824 ∧ ((∀ H' : AHeap, Grow H H' → K (p_impl_isLong l_list) H'))
theorem T_impl_isLong_i {list_a : Option Addr} {list_n : Nat} {list_e : Nat} {H : AHeap} {K : Bool → AHeap → Prop} (h : ∃ (l_list : List Nat), IsL fF H list_a list_n l_list ∧ l_list.length < 1073741824 ∧ ((∀ H' : AHeap, Grow H H' → K (p_impl_isLong l_list) H'))) : T_impl_isLong list_a list_n list_e H K := h
theorem impl_isLong_t {l : List Nat} (h : p_impl_isLong l = true) : 1 ≤ (l.length : Int) ∧ (l.length : Int) ≤ 128 := by
  rw [p_impl_isLong_eq] at h
  cases h1 : p_impl_within (l.length : Int) 1 128
  · rw [h1] at h; cases h
  · exact impl_within_t h1
/-! impl_isLong: function 61 -/
def E_impl_isLong : Env := envOf [(72, S_impl_within), (115, S_impl_areFinite)]
def F_impl_isLong : List Value → AHeap → (Value → AHeap → Prop) → Prop
  | [.slice list_a list_n list_e], H, K => T_impl_isLong list_a list_n list_e H fun (r1 : Bool) (H' : AHeap) => K (.bool r1) H'
  | _, _, _ => False
def S_impl_isLong : FSpec := { F := F_impl_isLong, quiet := false, tame := true }
theorem impl_isLong_vc (list_a : Option Addr) (list_n : Nat) (list_e : Nat) (H : AHeap) (K : Value → AHeap → Prop) : bodyK Try.prog E_impl_isLong Try.f61 [.slice list_a list_n list_e] H K =
  (T_impl_within (list_n : Int) 1 128 H fun (r1 : Bool) (H1 : AHeap) => Br r1 (Al [.slice list_a list_n list_e] H1 fun b1 H2 => T_impl_areFinite (some ⟨b1, 0, none⟩) 1 1 H2 fun (r2 : Bool) (H3 : AHeap) => K (.bool r2) H3) (K (.bool false) H1)) := by kernel_rfl
theorem E_impl_isLong_ok : ∀ g, FnOk Try.prog g (E_impl_isLong g) := FnOk.envOf (by
  intro x hx
  simp only [List.mem_cons, List.not_mem_nil, or_false] at hx
  rcases hx with rfl | rfl
  · exact impl_within_ok
  · exact impl_areFinite_ok)
set_option maxHeartbeats 1000000 in
theorem impl_isLong_main (list_a : Option Addr) (list_n : Nat) (list_e : Nat) (H : AHeap) (K : Value → AHeap → Prop) (h : T_impl_isLong list_a list_n list_e H fun (r1 : Bool) (H' : AHeap) => K (.bool r1) H') : bodyK Try.prog E_impl_isLong Try.f61 [.slice list_a list_n list_e] H K := by
  rw [impl_isLong_vc]
  obtain ⟨l_list, i_list, bd_12, hk⟩ := h
  obtain rfl := i_list.eqn
  have e : (p_impl_isLong l_list) = _ := rfl
  have e := e.trans (p_impl_isLong_eq l_list)
  have g0 := Grow.refl H
  refine T_impl_within_i ?_
  refine Br.intro (fun c_1 => ?_) (fun c_1 => ?_)
  · have e := e.trans (cond_t c_1)
    have c_1' := impl_within_t c_1
    refine Al.intro (fun b_2 H_1 hb_3 hl_4 g_5 o_6 => ?_)
    have l_8 := g_5.1
    have g_9 := g0.trans g_5
    have l_10 := g_9.1
    have w_11 := o_6.lt
    refine T_impl_areFinite_i ⟨[l_list], ⟨_, o_6.rdAll rfl, LLc.cons (i_list.grow g_9) (LLc.nil _ _)⟩, (by first | omega | (simp only [List.length_set, List.length_replicate, List.length_append, List.length_cons, List.length_nil, List.length_take, List.length_drop, marks_length]; done) | (simp only [List.length_set, List.length_replicate, List.length_append, List.length_cons, List.length_nil, List.length_take, List.length_drop, marks_length]; omega)), (by first | assumption | (intro y hy; simp only [List.mem_cons, List.not_mem_nil, or_false] at hy; first | omega | (subst hy; omega) | (rcases hy with rfl | rfl <;> omega) | (rcases hy with rfl | rfl | rfl <;> omega))), ?_⟩
    rw [e] at hk
    exact hk  H_1 g_9 
  · have e := e.trans (cond_f c_1)
    rw [e] at hk
    exact hk  H g0 
theorem impl_isLong_ok : FnOk Try.prog 61 S_impl_isLong := by
  refine FnOk.body mix_ok E_impl_isLong_ok Try.func61 rfl (by kernel_rfl) (by kernel_rfl) ?_ ?_ ?_ ?_ ?_
  · intro args H K K' h hk
    simp only [S_impl_isLong] at *
    unfold F_impl_isLong at *
    split at hk
    · obtain ⟨l_list, i_list, bd_12, k⟩ := hk
      exact ⟨l_list, i_list, bd_12, (fun  H' gg  => h _ _ (k  H' gg ))⟩
    · exact hk.elim
  · intro hq; cases hq
  · intro args H K hk
    simp only [S_impl_isLong] at *
    unfold F_impl_isLong at *
    split at hk
    · obtain ⟨l_list, i_list, bd_12, k⟩ := hk
      exact ⟨_, _, k H (Grow.refl H)⟩
    · exact hk.elim
  · intro _ args H K hk
    simp only [S_impl_isLong] at *
    unfold F_impl_isLong at *
    split at hk
    · obtain ⟨l_list, i_list, bd_12, k⟩ := hk
      exact ⟨l_list, i_list, bd_12, (fun  H' gg  => ⟨gg, k  H' gg ⟩)⟩
    · exact hk.elim
  · have mm := @impl_isLong_main
    revert mm
    generalize bodyK Try.prog E_impl_isLong Try.f61 = Q
    intro mm args H K hk
    simp only [S_impl_isLong] at *
    unfold F_impl_isLong at *
    split at hk
    · exact mm _ _ _ H K hk
    · exact hk.elim
def p_impl_added_l1 (l_list : List Nat) : Nat → Nat → Int → Nat
  | 0, _, _ => 0
  | μ + 1, sum, t8 => (bif decide ((t8 : Int) < (l_list.length : Int)) then (p_impl_added_l1 l_list μ (fadd .f32 sum (((l_list).getD (t8 : Int).toNat 0))) (t8 + 1)) else sum)
theorem p_impl_added_l1_s (l_list : List Nat) (μ : Nat) (sum : Nat) (t8 : Int) : p_impl_added_l1 l_list (μ + 1) sum t8 = (bif decide ((t8 : Int) < (l_list.length : Int)) then (p_impl_added_l1 l_list μ (fadd .f32 sum (((l_list).getD (t8 : Int).toNat 0))) (t8 + 1)) else sum) := rfl
def p_impl_added (l_list : List Nat) : Nat := (p_impl_added_l1 l_list (Int.toNat ((l_list.length : Int) - (0 : Int)) + 1) 0 (0 : Int))
theorem p_impl_added_eq (l_list : List Nat) : p_impl_added l_list = (p_impl_added_l1 l_list (Int.toNat ((l_list.length : Int) - (0 : Int)) + 1) 0 (0 : Int)) := rfl
def T_impl_added (list_a : Option Addr) (list_n : Nat) (list_e : Nat) (H : AHeap) (K : Nat → AHeap → Prop) : Prop := ∃ (l_list : List Nat), IsL fF H list_a list_n l_list ∧ l_list.length < 1073741824 ∧ K (p_impl_added l_list) H
theorem T_impl_added_i {list_a : Option Addr} {list_n : Nat} {list_e : Nat} {H : AHeap} {K : Nat → AHeap → Prop} (h : ∃ (l_list : List Nat), IsL fF H list_a list_n l_list ∧ l_list.length < 1073741824 ∧ K (p_impl_added l_list) H) : T_impl_added list_a list_n list_e H K := h

/-! impl_added: function 118 -/
def E_impl_added : Env := envOf []
def F_impl_added : List Value → AHeap → (Value → AHeap → Prop) → Prop
  | [.slice list_a list_n list_e], H, K => T_impl_added list_a list_n list_e H fun (r1 : Nat) (H' : AHeap) => K (.float .f32 r1) H'
  | _, _, _ => False
def S_impl_added : FSpec := { F := F_impl_added, quiet := true, tame := false }
theorem impl_added_vc (list_a : Option Addr) (list_n : Nat) (list_e : Nat) (H : AHeap) (K : Value → AHeap → Prop) : bodyK Try.prog E_impl_added Try.f118 [.slice list_a list_n list_e] H K =
  (loopK (exK Try.prog E_impl_added (cl (cl (cr (cl (cr (cr (bodyC Try.f118)))))))) [.slice list_a list_n list_e, undef, .float .f32 0, .float .f32 0, undef, undef, .slice list_a list_n list_e, .int .i64 (list_n : Int), .int .i64 0, undef, undef, undef, undef, undef, undef, undef, undef] H (blockQ 0 (seqQ (exK Try.prog E_impl_added (cr (cr (cr (bodyC Try.f118))))) (retK Try.prog Try.f118 K)))) := by kernel_rfl
theorem impl_added_r1 (list_a : Option Addr) (list_e : Nat) (list_n : Nat) (sum : Nat) (t8 : Int) (g5 g9 g10 g11 g12 g13 g14 g15 : Value) (H : AHeap) (R : Post) : exK Try.prog E_impl_added (cl (cl (cr (cl (cr (cr (bodyC Try.f118))))))) [.slice list_a list_n list_e, undef, .float .f32 0, .float .f32 sum, undef, g5, .slice list_a list_n list_e, .int .i64 (list_n : Int), .int .i64 t8, g9, g10, g11, g12, g13, g14, g15, undef] H R =
  (Br (decide ((t8 : Int) < (list_n : Int))) ((0 : Int) ≤ t8 ∧ t8 < (list_n : Int) ∧ ∃ b1 f1, (list_a : Option Addr) = some ⟨b1, f1, none⟩ ∧ ∃ x1 : Nat,  rdC H b1 (f1 + (t8 : Int).toNat * 1) = some (.float .f32 x1) ∧ R .normal [.slice list_a list_n list_e, undef, .float .f32 0, .float .f32 (fadd .f32 sum x1), undef, .float .f32 x1, .slice list_a list_n list_e, .int .i64 (list_n : Int), .int .i64 (IntKind.wrap .i64 (t8 + 1)), .bool (decide ((t8 : Int) < (list_n : Int))), .pointer (some ⟨b1, f1 + (t8 : Int).toNat * 1, none⟩), .float .f32 x1, .float .f32 sum, .float .f32 x1, .float .f32 (fadd .f32 sum x1), .int .i64 (IntKind.wrap .i64 (t8 + 1)), undef] H) (R (.exit 0) [.slice list_a list_n list_e, undef, .float .f32 0, .float .f32 sum, undef, g5, .slice list_a list_n list_e, .int .i64 (list_n : Int), .int .i64 t8, .bool (decide ((t8 : Int) < (list_n : Int))), g10, g11, g12, g13, g14, g15, undef] H)) := by kernel_rfl
def impl_added_I1 (list_a : Option Addr) (list_e : Nat) (list_n : Nat) (Inv : Nat → Nat → Int → AHeap → Prop) : Nat → List Value → AHeap → Prop := fun μ tm H => ∃ (sum : Nat), ∃ (t8 : Int), ∃ g5 g9 g10 g11 g12 g13 g14 g15, tm = [.slice list_a list_n list_e, undef, .float .f32 0, .float .f32 sum, undef, g5, .slice list_a list_n list_e, .int .i64 (list_n : Int), .int .i64 t8, g9, g10, g11, g12, g13, g14, g15, undef] ∧ Inv μ sum t8 H
theorem impl_added_L1 (list_a : Option Addr) (list_e : Nat) (list_n : Nat) {Q : Post} (Inv : Nat → Nat → Int → AHeap → Prop) (ν : Nat) (sum : Nat) (t8 : Int) (g5 g9 g10 g11 g12 g13 g14 g15 : Value) (H : AHeap) (h0 : Inv ν sum t8 H)
    (hs : ∀ (μ : Nat) (sum : Nat) (t8 : Int) (g5 g9 g10 g11 g12 g13 g14 g15 : Value) (H : AHeap), Inv μ sum t8 H → exK Try.prog E_impl_added (cl (cl (cr (cl (cr (cr (bodyC Try.f118))))))) [.slice list_a list_n list_e, undef, .float .f32 0, .float .f32 sum, undef, g5, .slice list_a list_n list_e, .int .i64 (list_n : Int), .int .i64 t8, g9, g10, g11, g12, g13, g14, g15, undef] H (loopQ (impl_added_I1 list_a list_e list_n Inv) μ Q)) : loopK (exK Try.prog E_impl_added (cl (cl (cr (cl (cr (cr (bodyC Try.f118)))))))) [.slice list_a list_n list_e, undef, .float .f32 0, .float .f32 sum, undef, g5, .slice list_a list_n list_e, .int .i64 (list_n : Int), .int .i64 t8, g9, g10, g11, g12, g13, g14, g15, undef] H Q :=
  ⟨impl_added_I1 list_a list_e list_n Inv, ν, ⟨sum, t8, g5, g9, g10, g11, g12, g13, g14, g15, rfl, h0⟩, fun μ tm H h => by obtain ⟨sum, t8, g5, g9, g10, g11, g12, g13, g14, g15, rfl, hI⟩ := h; exact hs μ sum t8 g5 g9 g10 g11 g12 g13 g14 g15 H hI⟩
theorem impl_added_n1 {list_a : Option Addr} {list_e : Nat} {list_n : Nat} {Q : Post} {Inv : Nat → Nat → Int → AHeap → Prop} {μ : Nat} (μ' : Nat) {sum : Nat} {t8 : Int} {g5 g9 g10 g11 g12 g13 g14 g15 : Value} {H : AHeap} (hm : μ' < μ) (hI : Inv μ' sum t8 H) : loopQ (impl_added_I1 list_a list_e list_n Inv) μ Q .normal [.slice list_a list_n list_e, undef, .float .f32 0, .float .f32 sum, undef, g5, .slice list_a list_n list_e, .int .i64 (list_n : Int), .int .i64 t8, g9, g10, g11, g12, g13, g14, g15, undef] H := ⟨μ', hm, sum, t8, g5, g9, g10, g11, g12, g13, g14, g15, rfl, hI⟩
theorem impl_added_x1_0 (list_a : Option Addr) (list_e : Nat) (list_n : Nat) (sum : Nat) (t8 : Int) (g5 g9 g10 g11 g12 g13 g14 g15 : Value) (H : AHeap) (K : Value → AHeap → Prop)  {I : Nat → List Value → AHeap → Prop} {μ : Nat} : loopQ I μ (blockQ 0 (seqQ (exK Try.prog E_impl_added (cr (cr (cr (bodyC Try.f118))))) (retK Try.prog Try.f118 K))) (.exit 0) [.slice list_a list_n list_e, undef, .float .f32 0, .float .f32 sum, undef, g5, .slice list_a list_n list_e, .int .i64 (list_n : Int), .int .i64 t8, g9, g10, g11, g12, g13, g14, g15, undef] H =
  (K (.float .f32 sum) H) := by kernel_rfl
theorem E_impl_added_ok : ∀ g, FnOk Try.prog g (E_impl_added g) := FnOk.envOf (by
  intro x hx; cases hx)
set_option maxHeartbeats 1000000 in
theorem impl_added_main (list_a : Option Addr) (list_n : Nat) (list_e : Nat) (H : AHeap) (K : Value → AHeap → Prop) (h : T_impl_added list_a list_n list_e H fun (r1 : Nat) (H' : AHeap) => K (.float .f32 r1) H') : bodyK Try.prog E_impl_added Try.f118 [.slice list_a list_n list_e] H K := by
  rw [impl_added_vc]
  obtain ⟨l_list, i_list, bd_8, hk⟩ := h
  obtain rfl := i_list.eqn
  have e : (p_impl_added l_list) = _ := rfl
  have e := e.trans (p_impl_added_eq l_list)
  have g0 := Grow.refl H
  refine impl_added_L1 _ _ _ (fun (μ : Nat) (sum : Nat) (t8 : Int) (H_1 : AHeap) => H = H_1 ∧ (0 : Int) ≤ t8 ∧ t8 ≤ (l_list.length : Int) ∧ (l_list.length : Int) - t8 ≤ (μ : Int) ∧ p_impl_added l_list = p_impl_added_l1 l_list (μ + 1) sum t8) (Int.toNat ((l_list.length : Int) - (0 : Int))) _ _ _ _ _ _ _ _ _ _ H ?_ ?_
  · exact ⟨rfl, (by first | omega | (simp; done) | (simp; omega)), (by first | omega | (simp; done) | (simp; omega)), (by omega), e⟩
  · intro μ sum t8 g5 g9 g10 g11 g12 g13 g14 g15 H_1 hI
    obtain ⟨rfl, v_1, v_2, hμ, e⟩ := hI
    rw [impl_added_r1]
    have e := e.trans (p_impl_added_l1_s l_list μ sum t8)
    have l_3 := g0.1
    refine Br.intro (fun c_4 => ?_) (fun c_4 => ?_)
    · have e := e.trans (cond_t c_4)
      have c_4' := of_decide_eq_true c_4
      obtain ⟨b_5, f_6, q_7⟩ := ((i_list.grow g0)).pos (by first | omega | (simp only [List.length_set, List.length_replicate, List.length_append, List.length_cons, List.length_nil, List.length_take, List.length_drop, marks_length]; done) | (simp only [List.length_set, List.length_replicate, List.length_append, List.length_cons, List.length_nil, List.length_take, List.length_drop, marks_length]; omega))
      refine ⟨by omega, by omega, b_5, f_6, q_7, ?_⟩
      refine ⟨((l_list).getD (t8 : Int).toNat 0), (i_list).rd g0 q_7 (by omega) _, ?_⟩
      rw [show IntKind.wrap .i64 (t8 + 1) = (t8 + 1) from wrap64 (by omega) (by omega)]
      refine impl_added_n1 (μ - 1) (by first | omega) ⟨rfl, (by first | omega | (simp only [List.length_append, List.length_cons, List.length_nil, List.length_set]; done) | (simp only [List.length_append, List.length_cons, List.length_nil, List.length_set]; omega)), (by first | omega | (simp only [List.length_append, List.length_cons, List.length_nil, List.length_set]; done) | (simp only [List.length_append, List.length_cons, List.length_nil, List.length_set]; omega)), (by first | omega), (by rw [show μ - 1 + 1 = μ from by first | omega]; exact e)⟩
    · have e := e.trans (cond_f c_4)
      have c_4' := of_decide_eq_false c_4
      rw [impl_added_x1_0]
      rw [e] at hk
      exact hk
theorem impl_added_ok : FnOk Try.prog 118 S_impl_added := by
  refine FnOk.body mix_ok E_impl_added_ok Try.func118 rfl (by kernel_rfl) (by kernel_rfl) ?_ ?_ ?_ ?_ ?_
  · intro args H K K' h hk
    simp only [S_impl_added] at *
    unfold F_impl_added at *
    split at hk
    · obtain ⟨l_list, i_list, bd_8, k⟩ := hk
      exact ⟨l_list, i_list, bd_8, h _ _ k⟩
    · exact hk.elim
  · intro _ args H K hk
    simp only [S_impl_added] at *
    unfold F_impl_added at *
    split at hk
    · obtain ⟨l_list, i_list, bd_8, k⟩ := hk
      exact ⟨_, k, fun K' k' => ⟨l_list, i_list, bd_8, k'⟩⟩
    · exact hk.elim
  · intro args H K hk
    simp only [S_impl_added] at *
    unfold F_impl_added at *
    split at hk
    · obtain ⟨l_list, i_list, bd_8, k⟩ := hk
      exact ⟨_, _, k⟩
    · exact hk.elim
  · intro hq; cases hq
  · have mm := @impl_added_main
    revert mm
    generalize bodyK Try.prog E_impl_added Try.f118 = Q
    intro mm args H K hk
    simp only [S_impl_added] at *
    unfold F_impl_added at *
    split at hk
    · exact mm _ _ _ H K hk
    · exact hk.elim
def p_impl_mean (l_list : List Nat) : Nat := fdiv .f32 (p_impl_added l_list) (FloatKind.nearest .f32 (l_list.length : Int))
theorem p_impl_mean_eq (l_list : List Nat) : p_impl_mean l_list = fdiv .f32 (p_impl_added l_list) (FloatKind.nearest .f32 (l_list.length : Int)) := rfl
def T_impl_mean (list_a : Option Addr) (list_n : Nat) (list_e : Nat) (H : AHeap) (K : Nat → AHeap → Prop) : Prop := ∃ (l_list : List Nat), IsL fF H list_a list_n l_list ∧ l_list.length < 1073741824 ∧ K (p_impl_mean l_list) H
theorem T_impl_mean_i {list_a : Option Addr} {list_n : Nat} {list_e : Nat} {H : AHeap} {K : Nat → AHeap → Prop} (h : ∃ (l_list : List Nat), IsL fF H list_a list_n l_list ∧ l_list.length < 1073741824 ∧ K (p_impl_mean l_list) H) : T_impl_mean list_a list_n list_e H K := h

/-! impl_mean: function 73 -/
def E_impl_mean : Env := envOf [(118, S_impl_added)]
def F_impl_mean : List Value → AHeap → (Value → AHeap → Prop) → Prop
  | [.slice list_a list_n list_e], H, K => T_impl_mean list_a list_n list_e H fun (r1 : Nat) (H' : AHeap) => K (.float .f32 r1) H'
  | _, _, _ => False
def S_impl_mean : FSpec := { F := F_impl_mean, quiet := true, tame := false }
theorem impl_mean_vc (list_a : Option Addr) (list_n : Nat) (list_e : Nat) (H : AHeap) (K : Value → AHeap → Prop) : bodyK Try.prog E_impl_mean Try.f73 [.slice list_a list_n list_e] H K =
  (T_impl_added list_a list_n list_e H fun (r1 : Nat) (H1 : AHeap) => K (.float .f32 (fdiv .f32 r1 (FloatKind.nearest .f32 (list_n : Int)))) H1) := by kernel_rfl
theorem E_impl_mean_ok : ∀ g, FnOk Try.prog g (E_impl_mean g) := FnOk.envOf (by
  intro x hx
  simp only [List.mem_cons, List.not_mem_nil, or_false] at hx
  subst hx; exact impl_added_ok)
set_option maxHeartbeats 1000000 in
theorem impl_mean_main (list_a : Option Addr) (list_n : Nat) (list_e : Nat) (H : AHeap) (K : Value → AHeap → Prop) (h : T_impl_mean list_a list_n list_e H fun (r1 : Nat) (H' : AHeap) => K (.float .f32 r1) H') : bodyK Try.prog E_impl_mean Try.f73 [.slice list_a list_n list_e] H K := by
  rw [impl_mean_vc]
  obtain ⟨l_list, i_list, bd_1, hk⟩ := h
  obtain rfl := i_list.eqn
  have e : (p_impl_mean l_list) = _ := rfl
  have e := e.trans (p_impl_mean_eq l_list)
  have g0 := Grow.refl H
  refine T_impl_added_i ⟨_, (i_list.grow g0), (by first | omega | (simp only [List.length_set, List.length_replicate, List.length_append, List.length_cons, List.length_nil, List.length_take, List.length_drop, marks_length]; done) | (simp only [List.length_set, List.length_replicate, List.length_append, List.length_cons, List.length_nil, List.length_take, List.length_drop, marks_length]; omega)), ?_⟩
  rw [e] at hk
  exact hk
theorem impl_mean_ok : FnOk Try.prog 73 S_impl_mean := by
  refine FnOk.body mix_ok E_impl_mean_ok Try.func73 rfl (by kernel_rfl) (by kernel_rfl) ?_ ?_ ?_ ?_ ?_
  · intro args H K K' h hk
    simp only [S_impl_mean] at *
    unfold F_impl_mean at *
    split at hk
    · obtain ⟨l_list, i_list, bd_1, k⟩ := hk
      exact ⟨l_list, i_list, bd_1, h _ _ k⟩
    · exact hk.elim
  · intro _ args H K hk
    simp only [S_impl_mean] at *
    unfold F_impl_mean at *
    split at hk
    · obtain ⟨l_list, i_list, bd_1, k⟩ := hk
      exact ⟨_, k, fun K' k' => ⟨l_list, i_list, bd_1, k'⟩⟩
    · exact hk.elim
  · intro args H K hk
    simp only [S_impl_mean] at *
    unfold F_impl_mean at *
    split at hk
    · obtain ⟨l_list, i_list, bd_1, k⟩ := hk
      exact ⟨_, _, k⟩
    · exact hk.elim
  · intro hq; cases hq
  · have mm := @impl_mean_main
    revert mm
    generalize bodyK Try.prog E_impl_mean Try.f73 = Q
    intro mm args H K hk
    simp only [S_impl_mean] at *
    unfold F_impl_mean at *
    split at hk
    · exact mm _ _ _ H K hk
    · exact hk.elim
def p_impl_finiteList (l_list : List Nat) : (List Nat) × Bool := (bif !((p_impl_areFinite ([l_list]))) then ([], false) else (l_list, true))
theorem p_impl_finiteList_eq (l_list : List Nat) : p_impl_finiteList l_list = (bif !((p_impl_areFinite ([l_list]))) then ([], false) else (l_list, true)) := rfl
def T_impl_finiteList (list_a : Option Addr) (list_n : Nat) (list_e : Nat) (H : AHeap) (K : (Option Addr) → Nat → Nat → Bool → AHeap → Prop) : Prop := ∃ (l_list : List Nat), IsL fF H list_a list_n l_list ∧ l_list.length < 1073741824 ∧ ((∀ H' : AHeap, Grow H H' → Br ((p_impl_finiteList l_list).2) (K list_a list_n list_e true H') (K none 0 0 false H')))
theorem T_impl_finiteList_i {list_a : Option Addr} {list_n : Nat} {list_e : Nat} {H : AHeap} {K : (Option Addr) → Nat → Nat → Bool → AHeap → Prop} (h : ∃ (l_list : List Nat), IsL fF H list_a list_n l_list ∧ l_list.length < 1073741824 ∧ ((∀ H' : AHeap, Grow H H' → Br ((p_impl_finiteList l_list).2) (K list_a list_n list_e true H') (K none 0 0 false H')))) : T_impl_finiteList list_a list_n list_e H K := h

/-! impl_finiteList: function 69 -/
def E_impl_finiteList : Env := envOf [(115, S_impl_areFinite)]
def F_impl_finiteList : List Value → AHeap → (Value → AHeap → Prop) → Prop
  | [.slice list_a list_n list_e], H, K => T_impl_finiteList list_a list_n list_e H fun (r1_a : Option Addr) (r1_n : Nat) (r1_e : Nat) (r2 : Bool) (H' : AHeap) => K (.tuple #[.slice r1_a r1_n r1_e, .bool r2]) H'
  | _, _, _ => False
def S_impl_finiteList : FSpec := { F := F_impl_finiteList, quiet := false, tame := true }
theorem impl_finiteList_vc (list_a : Option Addr) (list_n : Nat) (list_e : Nat) (H : AHeap) (K : Value → AHeap → Prop) : bodyK Try.prog E_impl_finiteList Try.f69 [.slice list_a list_n list_e] H K =
  (Al [.slice list_a list_n list_e] H fun b1 H1 => T_impl_areFinite (some ⟨b1, 0, none⟩) 1 1 H1 fun (r1 : Bool) (H2 : AHeap) => Br (!r1) (K (.tuple #[.slice none 0 0, .bool false]) H2) (K (.tuple #[.slice list_a list_n list_e, .bool true]) H2)) := by kernel_rfl
theorem E_impl_finiteList_ok : ∀ g, FnOk Try.prog g (E_impl_finiteList g) := FnOk.envOf (by
  intro x hx
  simp only [List.mem_cons, List.not_mem_nil, or_false] at hx
  subst hx; exact impl_areFinite_ok)
set_option maxHeartbeats 1000000 in
theorem impl_finiteList_main (list_a : Option Addr) (list_n : Nat) (list_e : Nat) (H : AHeap) (K : Value → AHeap → Prop) (h : T_impl_finiteList list_a list_n list_e H fun (r1_a : Option Addr) (r1_n : Nat) (r1_e : Nat) (r2 : Bool) (H' : AHeap) => K (.tuple #[.slice r1_a r1_n r1_e, .bool r2]) H') : bodyK Try.prog E_impl_finiteList Try.f69 [.slice list_a list_n list_e] H K := by
  rw [impl_finiteList_vc]
  obtain ⟨l_list, i_list, bd_12, hk⟩ := h
  obtain rfl := i_list.eqn
  have e : (p_impl_finiteList l_list) = _ := rfl
  have e := e.trans (p_impl_finiteList_eq l_list)
  have g0 := Grow.refl H
  refine Al.intro (fun b_1 H_1 hb_2 hl_3 g_4 o_5 => ?_)
  have l_7 := g_4.1
  have g_8 := g0.trans g_4
  have l_9 := g_8.1
  have w_11 := o_5.lt
  refine T_impl_areFinite_i ⟨[l_list], ⟨_, o_5.rdAll rfl, LLc.cons (i_list.grow g_8) (LLc.nil _ _)⟩, (by first | omega | (simp only [List.length_set, List.length_replicate, List.length_append, List.length_cons, List.length_nil, List.length_take, List.length_drop, marks_length]; done) | (simp only [List.length_set, List.length_replicate, List.length_append, List.length_cons, List.length_nil, List.length_take, List.length_drop, marks_length]; omega)), (by first | assumption | (intro y hy; simp only [List.mem_cons, List.not_mem_nil, or_false] at hy; first | omega | (subst hy; omega) | (rcases hy with rfl | rfl <;> omega) | (rcases hy with rfl | rfl | rfl <;> omega))), ?_⟩
  refine Br.intro (fun c_10 => ?_) (fun c_10 => ?_)
  · have e := e.trans (cond_t c_10)
    have c_10n := nf_of_t c_10
    have q := hk H_1 g_8
    rw [e] at q
    exact q
  · have e := e.trans (cond_f c_10)
    have c_10n := nt_of_f c_10
    have q := hk H_1 g_8
    rw [e] at q
    exact q
theorem impl_finiteList_ok : FnOk Try.prog 69 S_impl_finiteList := by
  refine FnOk.body mix_ok E_impl_finiteList_ok Try.func69 rfl (by kernel_rfl) (by kernel_rfl) ?_ ?_ ?_ ?_ ?_
  · intro args H K K' h hk
    simp only [S_impl_finiteList] at *
    unfold F_impl_finiteList at *
    split at hk
    · obtain ⟨l_list, i_list, bd_12, k⟩ := hk
      exact ⟨l_list, i_list, bd_12, (fun H' gg => Br_mono (h _ _) (h _ _) (k H' gg))⟩
    · exact hk.elim
  · intro hq; cases hq
  · intro args H K hk
    simp only [S_impl_finiteList] at *
    unfold F_impl_finiteList at *
    split at hk
    · obtain ⟨l_list, i_list, bd_12, k⟩ := hk
      exact Br_live (k H (Grow.refl H))
    · exact hk.elim
  · intro _ args H K hk
    simp only [S_impl_finiteList] at *
    unfold F_impl_finiteList at *
    split at hk
    · obtain ⟨l_list, i_list, bd_12, k⟩ := hk
      exact ⟨l_list, i_list, bd_12, (fun H' gg => Br_mono (fun q => ⟨gg, q⟩) (fun q => ⟨gg, q⟩) (k H' gg))⟩
    · exact hk.elim
  · have mm := @impl_finiteList_main
    revert mm
    generalize bodyK Try.prog E_impl_finiteList Try.f69 = Q
    intro mm args H K hk
    simp only [S_impl_finiteList] at *
    unfold F_impl_finiteList at *
    split at hk
    · exact mm _ _ _ H K hk
    · exact hk.elim
def p_impl_SegmentMeans_l2 (l_list : List Nat) (l_breaks : List Int) (t5 : Bool) (l_vout : List Nat) (vfrom : Int) (t28 : Int) (k2_2 : (List Nat) → Int → ((List Nat) × Bool)) : Nat → (List Nat) → Int → (List Nat) × Bool
  | 0, _, _ => ([], false)
  | μ2 + 1, l_vout_2, t47 => (bif decide ((t47 : Int) < ((((((([] : List Int) ++ l_breaks) ++ [((l_list.length : Int) : Int)])).getD (t28 : Int).toNat 0)) - vfrom)) then (p_impl_SegmentMeans_l2 l_list l_breaks t5 l_vout vfrom t28 k2_2 μ2 ((l_vout_2 ++ [((p_impl_mean ((((l_list).drop (vfrom : Int).toNat).take ((((((([] : List Int) ++ l_breaks) ++ [((l_list.length : Int) : Int)])).getD (t28 : Int).toNat 0) : Int) - vfrom).toNat))))])) (t47 + 1)) else (k2_2 l_vout_2 t47))
theorem p_impl_SegmentMeans_l2_s (l_list : List Nat) (l_breaks : List Int) (t5 : Bool) (l_vout : List Nat) (vfrom : Int) (t28 : Int) (k2_2 : (List Nat) → Int → ((List Nat) × Bool)) (μ2 : Nat) (l_vout_2 : List Nat) (t47 : Int) : p_impl_SegmentMeans_l2 l_list l_breaks t5 l_vout vfrom t28 k2_2 (μ2 + 1) l_vout_2 t47 = (bif decide ((t47 : Int) < ((((((([] : List Int) ++ l_breaks) ++ [((l_list.length : Int) : Int)])).getD (t28 : Int).toNat 0)) - vfrom)) then (p_impl_SegmentMeans_l2 l_list l_breaks t5 l_vout vfrom t28 k2_2 μ2 ((l_vout_2 ++ [((p_impl_mean ((((l_list).drop (vfrom : Int).toNat).take ((((((([] : List Int) ++ l_breaks) ++ [((l_list.length : Int) : Int)])).getD (t28 : Int).toNat 0) : Int) - vfrom).toNat))))])) (t47 + 1)) else (k2_2 l_vout_2 t47)) := rfl
def p_impl_SegmentMeans_l1 (l_list : List Nat) (l_breaks : List Int) : Nat → Bool → (List Nat) → Int → Int → (List Nat) × Bool
  | 0, _, _, _, _ => ([], false)
  | μ + 1, t5, l_vout, vfrom, t28 => (bif decide ((t28 : Int) < ((0 + l_breaks.length) + 1 : Int)) then (bif !((p_impl_within (((((([] : List Int) ++ l_breaks) ++ [((l_list.length : Int) : Int)])).getD (t28 : Int).toNat 0)) (vfrom + 1) (l_list.length : Int))) then ([], false) else (p_impl_SegmentMeans_l2 l_list l_breaks t5 l_vout vfrom t28 (fun (l_vout_2 : List Nat) (t47 : Int) => (p_impl_SegmentMeans_l1 l_list l_breaks μ t5 l_vout_2 (((((([] : List Int) ++ l_breaks) ++ [((l_list.length : Int) : Int)])).getD (t28 : Int).toNat 0)) (t28 + 1))) (Int.toNat (((((((([] : List Int) ++ l_breaks) ++ [((l_list.length : Int) : Int)])).getD (t28 : Int).toNat 0)) - vfrom) - (0 : Int)) + 1) l_vout (0 : Int))) else (bif (p_impl_finiteList l_vout).2 then (l_vout, true) else ([], false)))
theorem p_impl_SegmentMeans_l1_s (l_list : List Nat) (l_breaks : List Int) (μ : Nat) (t5 : Bool) (l_vout : List Nat) (vfrom : Int) (t28 : Int) : p_impl_SegmentMeans_l1 l_list l_breaks (μ + 1) t5 l_vout vfrom t28 = (bif decide ((t28 : Int) < ((0 + l_breaks.length) + 1 : Int)) then (bif !((p_impl_within (((((([] : List Int) ++ l_breaks) ++ [((l_list.length : Int) : Int)])).getD (t28 : Int).toNat 0)) (vfrom + 1) (l_list.length : Int))) then ([], false) else (p_impl_SegmentMeans_l2 l_list l_breaks t5 l_vout vfrom t28 (fun (l_vout_2 : List Nat) (t47 : Int) => (p_impl_SegmentMeans_l1 l_list l_breaks μ t5 l_vout_2 (((((([] : List Int) ++ l_breaks) ++ [((l_list.length : Int) : Int)])).getD (t28 : Int).toNat 0)) (t28 + 1))) (Int.toNat (((((((([] : List Int) ++ l_breaks) ++ [((l_list.length : Int) : Int)])).getD (t28 : Int).toNat 0)) - vfrom) - (0 : Int)) + 1) l_vout (0 : Int))) else (bif (p_impl_finiteList l_vout).2 then (l_vout, true) else ([], false))) := rfl
def p_impl_SegmentMeans (l_list : List Nat) (l_breaks : List Int) : (List Nat) × Bool := (bif !(p_impl_isLong l_list) then ([], false) else (bif decide ((16 : Int) < (l_breaks.length : Int)) then ([], false) else (p_impl_SegmentMeans_l1 l_list l_breaks (Int.toNat (((0 + l_breaks.length) + 1 : Int) - (0 : Int)) + 1) false ([] : List Nat) (0 : Int) (0 : Int))))
theorem p_impl_SegmentMeans_eq (l_list : List Nat) (l_breaks : List Int) : p_impl_SegmentMeans l_list l_breaks = (bif !(p_impl_isLong l_list) then ([], false) else (bif decide ((16 : Int) < (l_breaks.length : Int)) then ([], false) else (p_impl_SegmentMeans_l1 l_list l_breaks (Int.toNat (((0 + l_breaks.length) + 1 : Int) - (0 : Int)) + 1) false ([] : List Nat) (0 : Int) (0 : Int)))) := rfl
def T_impl_SegmentMeans (list_a : Option Addr) (list_n : Nat) (list_e : Nat) (breaks_a : Option Addr) (breaks_n : Nat) (breaks_e : Nat) (H : AHeap) (K : (Option Addr) → Nat → Nat → Bool → AHeap → Prop) : Prop := ∃ (l_list : List Nat), ∃ (l_breaks : List Int), IsL fF H list_a list_n l_list ∧ IsL fI H breaks_a breaks_n l_breaks ∧ l_list.length < 1073741824 ∧ l_breaks.length < 1073741824 ∧ ((∀ (r1_a : Option Addr) (r1_n r1_e : Nat), ∀ H' : AHeap, Grow H H' → OwnS fF H' H.length r1_a r1_n r1_e ((p_impl_SegmentMeans l_list l_breaks).1) → K r1_a r1_n r1_e ((p_impl_SegmentMeans l_list l_breaks).2) H'))
theorem T_impl_SegmentMeans_i {list_a : Option Addr} {list_n : Nat} {list_e : Nat} {breaks_a : Option Addr} {breaks_n : Nat} {breaks_e : Nat} {H : AHeap} {K : (Option Addr) → Nat → Nat → Bool → AHeap → Prop} (h : ∃ (l_list : List Nat), ∃ (l_breaks : List Int), IsL fF H list_a list_n l_list ∧ IsL fI H breaks_a breaks_n l_breaks ∧ l_list.length < 1073741824 ∧ l_breaks.length < 1073741824 ∧ ((∀ (r1_a : Option Addr) (r1_n r1_e : Nat), ∀ H' : AHeap, Grow H H' → OwnS fF H' H.length r1_a r1_n r1_e ((p_impl_SegmentMeans l_list l_breaks).1) → K r1_a r1_n r1_e ((p_impl_SegmentMeans l_list l_breaks).2) H'))) : T_impl_SegmentMeans list_a list_n list_e breaks_a breaks_n breaks_e H K := h
theorem impl_seg_l2 (l : List Nat) (b : List Int) (t5 : Bool) (vo : List Nat) (f t28 : Int) (K : List Nat → Int → List Nat × Bool) (F : List Nat → List Nat × Bool) (hK : ∀ o k, K o k = F o)
    (E : List Int) (hE : (([] : List Int) ++ b) ++ [((l.length : Int) : Int)] = E) (e : Int) (he : E.getD (t28 : Int).toNat 0 = e) (m : Nat) (hm : p_impl_mean ((l.drop (f : Int).toNat).take ((e : Int) - f).toNat) = m) :
    ∀ (μ : Nat) (o : List Nat) (k : Int), (e - f - k).toNat < μ → p_impl_SegmentMeans_l2 l b t5 vo f t28 K μ o k = F (o ++ List.replicate (e - f - k).toNat m) := by
  intro μ
  induction μ with
  | zero => intro o k h; omega
  | succ μ ih =>
    intro o k h
    rw [p_impl_SegmentMeans_l2_s, hE, he, hm]
    by_cases c : k < e - f
    · rw [decide_eq_true c, cond_true, ih _ _ (by omega), rep_succ _ _ _ _ c]
    · rw [decide_eq_false c, cond_false, rep_zero _ _ _ _ c, hK]
theorem impl_seg_l1 (l : List Nat) (b : List Int) (t5 : Bool) (hn : (l.length : Int) ≤ 128) (E : List Int) (hE : (([] : List Int) ++ b) ++ [((l.length : Int) : Int)] = E) : ∀ (μ : Nat) (o : List Nat) (f : Int) (t : Nat), E.length - t < μ → 0 ≤ f →
    p_impl_SegmentMeans_l1 l b μ t5 o f (t : Int) = bif okc (l.length : Int) f (E.drop t) then segF (fun o => (p_impl_finiteList o).2) (o ++ seg p_impl_mean l f (E.drop t)) else ([], false) := by
  have hl : E.length = b.length + 1 := by rw [← hE, List.length_append, List.nil_append]; rfl
  intro μ
  induction μ with
  | zero => intro o f t h; omega
  | succ μ ih =>
    intro o f t h hf
    rw [p_impl_SegmentMeans_l1_s]
    by_cases c : t < E.length
    · have e0 : E.drop t = E.getD t 0 :: E.drop (t + 1) := by
        rw [List.drop_eq_getElem_cons c, List.getD_eq_getElem?_getD, List.getElem?_eq_getElem c]; rfl
      rw [decide_eq_true (show (t : Int) < (0 + ((b.length : Nat) : Int)) + 1 by omega), cond_true, hE, Int.toNat_natCast, e0]
      unfold okc p_impl_within
      by_cases c1 : f + 1 ≤ E.getD t 0
      · rw [decide_eq_true c1, cond_true, cond_true]
        by_cases c2 : E.getD t 0 ≤ (l.length : Int)
        · rw [decide_eq_true c2, Bool.not_true, cond_false, cond_true]
          rw [impl_seg_l2 l b t5 o f (t : Int) _ (fun o => p_impl_SegmentMeans_l1 l b μ t5 o (E.getD t 0) ((t : Int) + 1)) (fun o k => rfl) E hE (E.getD t 0) (by rw [Int.toNat_natCast]) _ rfl _ _ _ (Nat.lt_succ_self _), Int.sub_zero]
          have := ih (o ++ List.replicate (E.getD t 0 - f).toNat (p_impl_mean ((l.drop (f : Int).toNat).take ((E.getD t 0 : Int) - f).toNat))) (E.getD t 0) (t + 1) (by omega) (by omega)
          rw [show ((t + 1 : Nat) : Int) = (t : Int) + 1 by omega] at this
          rw [this, List.append_assoc]
          rfl
        · rw [decide_eq_false c2]; rfl
      · rw [decide_eq_false c1]; rfl
    · rw [decide_eq_false (show ¬ (t : Int) < (0 + ((b.length : Nat) : Int)) + 1 by omega), cond_false, List.drop_eq_nil_of_le (by omega)]
      unfold seg okc segF
      rw [List.append_nil, cond_true]
      show _ = bif !((p_impl_finiteList o).2) then _ else _
      cases (p_impl_finiteList o).2 <;> rfl
theorem impl_seg_val (l : List Nat) (b : List Int) : p_impl_SegmentMeans l b = segV p_impl_mean (fun o => (p_impl_finiteList o).2) (p_impl_isLong l) l b := by
  rw [p_impl_SegmentMeans_eq]
  unfold segV
  cases hl : p_impl_isLong l with
  | false => rfl
  | true =>
    rw [Bool.not_true, cond_false, cond_false]
    have hn := impl_isLong_t hl
    have := impl_seg_l1 l b false (by omega) _ rfl (Int.toNat (((0 + b.length) + 1 : Int) - (0 : Int)) + 1) [] 0 0 (by rw [List.length_append, List.nil_append, List.length_singleton]; omega) (Int.le_refl 0)
    rw [show ((0 : Nat) : Int) = 0 from rfl] at this
    rw [this, List.drop_zero, List.nil_append, List.nil_append]
theorem impl_SegmentMeans_len (l : List Nat) (b : List Int) : (p_impl_SegmentMeans l b).1.length ≤ l.length := by
  rw [impl_seg_val]; exact segV_len _ _ _ _ _
/-! impl_SegmentMeans: function 26 -/
def E_impl_SegmentMeans : Env := envOf [(61, S_impl_isLong), (72, S_impl_within), (73, S_impl_mean), (69, S_impl_finiteList)]
def F_impl_SegmentMeans : List Value → AHeap → (Value → AHeap → Prop) → Prop
  | [.slice list_a list_n list_e, .slice breaks_a breaks_n breaks_e], H, K => T_impl_SegmentMeans list_a list_n list_e breaks_a breaks_n breaks_e H fun (r1_a : Option Addr) (r1_n : Nat) (r1_e : Nat) (r2 : Bool) (H' : AHeap) => K (.tuple #[.slice r1_a r1_n r1_e, .bool r2]) H'
  | _, _, _ => False
def S_impl_SegmentMeans : FSpec := { F := F_impl_SegmentMeans, quiet := false, tame := true }
theorem impl_SegmentMeans_vc (list_a : Option Addr) (list_n : Nat) (list_e : Nat) (breaks_a : Option Addr) (breaks_n : Nat) (breaks_e : Nat) (H : AHeap) (K : Value → AHeap → Prop) : bodyK Try.prog E_impl_SegmentMeans Try.f26 [.slice list_a list_n list_e, .slice breaks_a breaks_n breaks_e] H K =
  (T_impl_isLong list_a list_n list_e H fun (r1 : Bool) (H1 : AHeap) => Br (!r1) (K (.tuple #[.slice none 0 0, .bool false]) H1) (Br (decide ((16 : Int) < (breaks_n : Int))) (K (.tuple #[.slice none 0 0, .bool false]) H1) (Al [] H1 fun b1 H2 => Al [] H2 fun b2 H3 => ∃ o1 w1 : List Value, ownB H3 (some ⟨b2, 0, none⟩) 0 1 1 = some o1 ∧ rdS H3 breaks_a (breaks_n * 1) = some w1 ∧ ((some ⟨b2, 0, none⟩ : Option Addr) = none → 0 < (breaks_n : Nat)) ∧ (0 : Nat) + breaks_n < most ∧ Ap H3 (killB H3 (some ⟨b2, 0, none⟩) ++ [some ⟨o1 ++ w1, true⟩]) fun b3 H4 => Al [.int .i64 (list_n : Int)] H4 fun b4 H5 => ∃ o2 w2 : List Value, ownB H5 (some ⟨b3, 0, none⟩) (0 + breaks_n) 1 1 = some o2 ∧ rdS H5 (some ⟨b4, 0, none⟩) (1 * 1) = some w2 ∧ ((some ⟨b3, 0, none⟩ : Option Addr) = none → 0 < (1 : Nat)) ∧ (0 + breaks_n : Nat) + 1 < most ∧ Ap H5 (killB H5 (some ⟨b3, 0, none⟩) ++ [some ⟨o2 ++ w2, true⟩]) fun b5 H6 => loopK (exK Try.prog E_impl_SegmentMeans (cl (cl (cr (cl (cr (cr (cr (bodyC Try.f26))))))))) [.slice list_a list_n list_e, .slice breaks_a breaks_n breaks_e, undef, undef, .slice none 0 0, .bool false, .slice (some ⟨b1, 0, none⟩) 0 1, .int .i64 0, undef, undef, undef, .slice list_a list_n list_e, .bool r1, .bool (!r1), .bool false, .slice breaks_a breaks_n breaks_e, .int .i64 (breaks_n : Int), .bool (decide ((16 : Int) < (breaks_n : Int))), .bool (decide ((16 : Int) < (breaks_n : Int))), .slice (some ⟨b1, 0, none⟩) 0 1, .slice (some ⟨b2, 0, none⟩) 0 1, .slice breaks_a breaks_n breaks_e, .slice (some ⟨b3, 0, none⟩) (0 + breaks_n) 1, .slice list_a list_n list_e, .int .i64 (list_n : Int), .slice (some ⟨b4, 0, none⟩) 1 1, .slice (some ⟨b5, 0, none⟩) ((0 + breaks_n) + 1) 1, .int .i64 (((0 + breaks_n) + 1 : Int)), .int .i64 0, undef, undef, undef, undef, undef, undef, undef, undef, undef, undef, undef, undef, undef, undef, undef, undef, undef, undef, undef, undef, undef, undef, undef, undef, undef, undef, undef, undef, undef, undef, undef] H6 (blockQ 0 (seqQ (exK Try.prog E_impl_SegmentMeans (cr (cr (cr (cr (bodyC Try.f26)))))) (retK Try.prog Try.f26 K)))))) := by kernel_rfl
theorem impl_SegmentMeans_r1 (b1 : Nat) (b2 : Nat) (b3 : Nat) (b4 : Nat) (b5 : Nat) (breaks_a : Option Addr) (breaks_e : Nat) (breaks_n : Nat) (list_a : Option Addr) (list_e : Nat) (list_n : Nat) (r1 : Bool) (t4_a : Option Addr) (t4_n : Nat) (t4_e : Nat) (t5 : Bool) (vout_a : Option Addr) (vout_n : Nat) (vout_e : Nat) (vfrom : Int) (t28 : Int) (g9 g10 g29 g30 g31 g32 g33 g34 g35 g36 g37 g38 g39 g40 g41 g42 g43 g44 g45 g46 g47 g48 g49 g50 g51 g52 g53 g54 g55 : Value) (H : AHeap) (R : Post) : exK Try.prog E_impl_SegmentMeans (cl (cl (cr (cl (cr (cr (cr (bodyC Try.f26)))))))) [.slice list_a list_n list_e, .slice breaks_a breaks_n breaks_e, undef, undef, .slice t4_a t4_n t4_e, .bool t5, .slice vout_a vout_n vout_e, .int .i64 vfrom, undef, g9, g10, .slice list_a list_n list_e, .bool r1, .bool (!r1), .bool false, .slice breaks_a breaks_n breaks_e, .int .i64 (breaks_n : Int), .bool (decide ((16 : Int) < (breaks_n : Int))), .bool (decide ((16 : Int) < (breaks_n : Int))), .slice (some ⟨b1, 0, none⟩) 0 1, .slice (some ⟨b2, 0, none⟩) 0 1, .slice breaks_a breaks_n breaks_e, .slice (some ⟨b3, 0, none⟩) (0 + breaks_n) 1, .slice list_a list_n list_e, .int .i64 (list_n : Int), .slice (some ⟨b4, 0, none⟩) 1 1, .slice (some ⟨b5, 0, none⟩) ((0 + breaks_n) + 1) 1, .int .i64 (((0 + breaks_n) + 1 : Int)), .int .i64 t28, g29, g30, g31, g32, g33, g34, g35, g36, g37, g38, g39, g40, g41, g42, g43, g44, g45, g46, g47, g48, g49, g50, g51, g52, g53, g54, g55, undef, undef, undef, undef] H R =
  (Br (decide ((t28 : Int) < ((0 + breaks_n) + 1 : Int))) ((0 : Int) ≤ t28 ∧ t28 < ((0 + breaks_n) + 1 : Int) ∧ ∃ b6 f1, (some ⟨b5, 0, none⟩ : Option Addr) = some ⟨b6, f1, none⟩ ∧ ∃ x1 : Int,  rdC H b6 (f1 + (t28 : Int).toNat * 1) = some (.int .i64 x1) ∧ T_impl_within x1 (IntKind.wrap .i64 (vfrom + 1)) (list_n : Int) H fun (r2 : Bool) (H7 : AHeap) => Br (!r2) (R .ret [.slice list_a list_n list_e, .slice breaks_a breaks_n breaks_e, undef, undef, .slice none 0 0, .bool false, .slice vout_a vout_n vout_e, .int .i64 vfrom, undef, .int .i64 x1, g10, .slice list_a list_n list_e, .bool r1, .bool (!r1), .bool false, .slice breaks_a breaks_n breaks_e, .int .i64 (breaks_n : Int), .bool (decide ((16 : Int) < (breaks_n : Int))), .bool (decide ((16 : Int) < (breaks_n : Int))), .slice (some ⟨b1, 0, none⟩) 0 1, .slice (some ⟨b2, 0, none⟩) 0 1, .slice breaks_a breaks_n breaks_e, .slice (some ⟨b3, 0, none⟩) (0 + breaks_n) 1, .slice list_a list_n list_e, .int .i64 (list_n : Int), .slice (some ⟨b4, 0, none⟩) 1 1, .slice (some ⟨b5, 0, none⟩) ((0 + breaks_n) + 1) 1, .int .i64 (((0 + breaks_n) + 1 : Int)), .int .i64 t28, .bool (decide ((t28 : Int) < ((0 + breaks_n) + 1 : Int))), .pointer (some ⟨b6, f1 + (t28 : Int).toNat * 1, none⟩), .int .i64 x1, .int .i64 x1, .int .i64 vfrom, .int .i64 (IntKind.wrap .i64 (vfrom + 1)), .slice list_a list_n list_e, .int .i64 (list_n : Int), .bool r2, .bool (!r2), g39, g40, g41, g42, g43, g44, g45, g46, g47, g48, g49, g50, g51, g52, g53, g54, g55, undef, undef, undef, undef] H7) ((0 : Int) ≤ vfrom ∧ vfrom ≤ x1 ∧ x1 ≤ (list_n : Int) ∧ T_impl_mean ((list_a : Option Addr).map fun a => ⟨a.block, a.off + (vfrom : Int).toNat * 1, none⟩) (((x1 : Int) - vfrom).toNat) 0 H7 fun (r3 : Nat) (H8 : AHeap) => loopK (exK Try.prog E_impl_SegmentMeans (cl (cl (cr (cl (cr (cr (cr (cl (cl (cr (cr (cl (cl (cr (cl (cr (cr (cr (bodyC Try.f26)))))))))))))))))))) [.slice list_a list_n list_e, .slice breaks_a breaks_n breaks_e, undef, undef, .slice t4_a t4_n t4_e, .bool t5, .slice vout_a vout_n vout_e, .int .i64 vfrom, undef, .int .i64 x1, .float .f32 r3, .slice list_a list_n list_e, .bool r1, .bool (!r1), .bool false, .slice breaks_a breaks_n breaks_e, .int .i64 (breaks_n : Int), .bool (decide ((16 : Int) < (breaks_n : Int))), .bool (decide ((16 : Int) < (breaks_n : Int))), .slice (some ⟨b1, 0, none⟩) 0 1, .slice (some ⟨b2, 0, none⟩) 0 1, .slice breaks_a breaks_n breaks_e, .slice (some ⟨b3, 0, none⟩) (0 + breaks_n) 1, .slice list_a list_n list_e, .int .i64 (list_n : Int), .slice (some ⟨b4, 0, none⟩) 1 1, .slice (some ⟨b5, 0, none⟩) ((0 + breaks_n) + 1) 1, .int .i64 (((0 + breaks_n) + 1 : Int)), .int .i64 t28, .bool (decide ((t28 : Int) < ((0 + breaks_n) + 1 : Int))), .pointer (some ⟨b6, f1 + (t28 : Int).toNat * 1, none⟩), .int .i64 x1, .int .i64 x1, .int .i64 vfrom, .int .i64 (IntKind.wrap .i64 (vfrom + 1)), .slice list_a list_n list_e, .int .i64 (list_n : Int), .bool r2, .bool (!r2), .slice list_a list_n list_e, .int .i64 vfrom, .int .i64 x1, .slice ((list_a : Option Addr).map fun a => ⟨a.block, a.off + (vfrom : Int).toNat * 1, none⟩) (((x1 : Int) - vfrom).toNat) 0, .float .f32 r3, .int .i64 x1, .int .i64 vfrom, .int .i64 (IntKind.wrap .i64 (x1 - vfrom)), .int .i64 0, g48, g49, g50, g51, g52, g53, g54, g55, undef, undef, undef, undef] H8 (blockQ 2 (seqQ (exK Try.prog E_impl_SegmentMeans (cr (cr (cr (cr (cl (cl (cr (cr (cl (cl (cr (cl (cr (cr (cr (bodyC Try.f26))))))))))))))))) (blockQ 1 (seqQ (exK Try.prog E_impl_SegmentMeans (cr (cr (cr (cl (cl (cr (cl (cr (cr (cr (bodyC Try.f26)))))))))))) (R))))))) (R (.exit 0) [.slice list_a list_n list_e, .slice breaks_a breaks_n breaks_e, undef, undef, .slice t4_a t4_n t4_e, .bool t5, .slice vout_a vout_n vout_e, .int .i64 vfrom, undef, g9, g10, .slice list_a list_n list_e, .bool r1, .bool (!r1), .bool false, .slice breaks_a breaks_n breaks_e, .int .i64 (breaks_n : Int), .bool (decide ((16 : Int) < (breaks_n : Int))), .bool (decide ((16 : Int) < (breaks_n : Int))), .slice (some ⟨b1, 0, none⟩) 0 1, .slice (some ⟨b2, 0, none⟩) 0 1, .slice breaks_a breaks_n breaks_e, .slice (some ⟨b3, 0, none⟩) (0 + breaks_n) 1, .slice list_a list_n list_e, .int .i64 (list_n : Int), .slice (some ⟨b4, 0, none⟩) 1 1, .slice (some ⟨b5, 0, none⟩) ((0 + breaks_n) + 1) 1, .int .i64 (((0 + breaks_n) + 1 : Int)), .int .i64 t28, .bool (decide ((t28 : Int) < ((0 + breaks_n) + 1 : Int))), g30, g31, g32, g33, g34, g35, g36, g37, g38, g39, g40, g41, g42, g43, g44, g45, g46, g47, g48, g49, g50, g51, g52, g53, g54, g55, undef, undef, undef, undef] H)) := by kernel_rfl
def impl_SegmentMeans_I1 (b1 : Nat) (b2 : Nat) (b3 : Nat) (b4 : Nat) (b5 : Nat) (breaks_a : Option Addr) (breaks_e : Nat) (breaks_n : Nat) (list_a : Option Addr) (list_e : Nat) (list_n : Nat) (r1 : Bool) (Inv : Nat → (Option Addr) → Nat → Nat → Bool → (Option Addr) → Nat → Nat → Int → Int → AHeap → Prop) : Nat → List Value → AHeap → Prop := fun μ tm H => ∃ (t4_a : Option Addr), ∃ (t4_n : Nat), ∃ (t4_e : Nat), ∃ (t5 : Bool), ∃ (vout_a : Option Addr), ∃ (vout_n : Nat), ∃ (vout_e : Nat), ∃ (vfrom : Int), ∃ (t28 : Int), ∃ g9 g10 g29 g30 g31 g32 g33 g34 g35 g36 g37 g38 g39 g40 g41 g42 g43 g44 g45 g46 g47 g48 g49 g50 g51 g52 g53 g54 g55, tm = [.slice list_a list_n list_e, .slice breaks_a breaks_n breaks_e, undef, undef, .slice t4_a t4_n t4_e, .bool t5, .slice vout_a vout_n vout_e, .int .i64 vfrom, undef, g9, g10, .slice list_a list_n list_e, .bool r1, .bool (!r1), .bool false, .slice breaks_a breaks_n breaks_e, .int .i64 (breaks_n : Int), .bool (decide ((16 : Int) < (breaks_n : Int))), .bool (decide ((16 : Int) < (breaks_n : Int))), .slice (some ⟨b1, 0, none⟩) 0 1, .slice (some ⟨b2, 0, none⟩) 0 1, .slice breaks_a breaks_n breaks_e, .slice (some ⟨b3, 0, none⟩) (0 + breaks_n) 1, .slice list_a list_n list_e, .int .i64 (list_n : Int), .slice (some ⟨b4, 0, none⟩) 1 1, .slice (some ⟨b5, 0, none⟩) ((0 + breaks_n) + 1) 1, .int .i64 (((0 + breaks_n) + 1 : Int)), .int .i64 t28, g29, g30, g31, g32, g33, g34, g35, g36, g37, g38, g39, g40, g41, g42, g43, g44, g45, g46, g47, g48, g49, g50, g51, g52, g53, g54, g55, undef, undef, undef, undef] ∧ Inv μ t4_a t4_n t4_e t5 vout_a vout_n vout_e vfrom t28 H
theorem impl_SegmentMeans_L1 (b1 : Nat) (b2 : Nat) (b3 : Nat) (b4 : Nat) (b5 : Nat) (breaks_a : Option Addr) (breaks_e : Nat) (breaks_n : Nat) (list_a : Option Addr) (list_e : Nat) (list_n : Nat) (r1 : Bool) {Q : Post} (Inv : Nat → (Option Addr) → Nat → Nat → Bool → (Option Addr) → Nat → Nat → Int → Int → AHeap → Prop) (ν : Nat) (t4_a : Option Addr) (t4_n : Nat) (t4_e : Nat) (t5 : Bool) (vout_a : Option Addr) (vout_n : Nat) (vout_e : Nat) (vfrom : Int) (t28 : Int) (g9 g10 g29 g30 g31 g32 g33 g34 g35 g36 g37 g38 g39 g40 g41 g42 g43 g44 g45 g46 g47 g48 g49 g50 g51 g52 g53 g54 g55 : Value) (H : AHeap) (h0 : Inv ν t4_a t4_n t4_e t5 vout_a vout_n vout_e vfrom t28 H)
    (hs : ∀ (μ : Nat) (t4_a : Option Addr) (t4_n : Nat) (t4_e : Nat) (t5 : Bool) (vout_a : Option Addr) (vout_n : Nat) (vout_e : Nat) (vfrom : Int) (t28 : Int) (g9 g10 g29 g30 g31 g32 g33 g34 g35 g36 g37 g38 g39 g40 g41 g42 g43 g44 g45 g46 g47 g48 g49 g50 g51 g52 g53 g54 g55 : Value) (H : AHeap), Inv μ t4_a t4_n t4_e t5 vout_a vout_n vout_e vfrom t28 H → exK Try.prog E_impl_SegmentMeans (cl (cl (cr (cl (cr (cr (cr (bodyC Try.f26)))))))) [.slice list_a list_n list_e, .slice breaks_a breaks_n breaks_e, undef, undef, .slice t4_a t4_n t4_e, .bool t5, .slice vout_a vout_n vout_e, .int .i64 vfrom, undef, g9, g10, .slice list_a list_n list_e, .bool r1, .bool (!r1), .bool false, .slice breaks_a breaks_n breaks_e, .int .i64 (breaks_n : Int), .bool (decide ((16 : Int) < (breaks_n : Int))), .bool (decide ((16 : Int) < (breaks_n : Int))), .slice (some ⟨b1, 0, none⟩) 0 1, .slice (some ⟨b2, 0, none⟩) 0 1, .slice breaks_a breaks_n breaks_e, .slice (some ⟨b3, 0, none⟩) (0 + breaks_n) 1, .slice list_a list_n list_e, .int .i64 (list_n : Int), .slice (some ⟨b4, 0, none⟩) 1 1, .slice (some ⟨b5, 0, none⟩) ((0 + breaks_n) + 1) 1, .int .i64 (((0 + breaks_n) + 1 : Int)), .int .i64 t28, g29, g30, g31, g32, g33, g34, g35, g36, g37, g38, g39, g40, g41, g42, g43, g44, g45, g46, g47, g48, g49, g50, g51, g52, g53, g54, g55, undef, undef, undef, undef] H (loopQ (impl_SegmentMeans_I1 b1 b2 b3 b4 b5 breaks_a breaks_e breaks_n list_a list_e list_n r1 Inv) μ Q)) : loopK (exK Try.prog E_impl_SegmentMeans (cl (cl (cr (cl (cr (cr (cr (bodyC Try.f26))))))))) [.slice list_a list_n list_e, .slice breaks_a breaks_n breaks_e, undef, undef, .slice t4_a t4_n t4_e, .bool t5, .slice vout_a vout_n vout_e, .int .i64 vfrom, undef, g9, g10, .slice list_a list_n list_e, .bool r1, .bool (!r1), .bool false, .slice breaks_a breaks_n breaks_e, .int .i64 (breaks_n : Int), .bool (decide ((16 : Int) < (breaks_n : Int))), .bool (decide ((16 : Int) < (breaks_n : Int))), .slice (some ⟨b1, 0, none⟩) 0 1, .slice (some ⟨b2, 0, none⟩) 0 1, .slice breaks_a breaks_n breaks_e, .slice (some ⟨b3, 0, none⟩) (0 + breaks_n) 1, .slice list_a list_n list_e, .int .i64 (list_n : Int), .slice (some ⟨b4, 0, none⟩) 1 1, .slice (some ⟨b5, 0, none⟩) ((0 + breaks_n) + 1) 1, .int .i64 (((0 + breaks_n) + 1 : Int)), .int .i64 t28, g29, g30, g31, g32, g33, g34, g35, g36, g37, g38, g39, g40, g41, g42, g43, g44, g45, g46, g47, g48, g49, g50, g51, g52, g53, g54, g55, undef, undef, undef, undef] H Q :=
  ⟨impl_SegmentMeans_I1 b1 b2 b3 b4 b5 breaks_a breaks_e breaks_n list_a list_e list_n r1 Inv, ν, ⟨t4_a, t4_n, t4_e, t5, vout_a, vout_n, vout_e, vfrom, t28, g9, g10, g29, g30, g31, g32, g33, g34, g35, g36, g37, g38, g39, g40, g41, g42, g43, g44, g45, g46, g47, g48, g49, g50, g51, g52, g53, g54, g55, rfl, h0⟩, fun μ tm H h => by obtain ⟨t4_a, t4_n, t4_e, t5, vout_a, vout_n, vout_e, vfrom, t28, g9, g10, g29, g30, g31, g32, g33, g34, g35, g36, g37, g38, g39, g40, g41, g42, g43, g44, g45, g46, g47, g48, g49, g50, g51, g52, g53, g54, g55, rfl, hI⟩ := h; exact hs μ t4_a t4_n t4_e t5 vout_a vout_n vout_e vfrom t28 g9 g10 g29 g30 g31 g32 g33 g34 g35 g36 g37 g38 g39 g40 g41 g42 g43 g44 g45 g46 g47 g48 g49 g50 g51 g52 g53 g54 g55 H hI⟩
theorem impl_SegmentMeans_n1 {b1 : Nat} {b2 : Nat} {b3 : Nat} {b4 : Nat} {b5 : Nat} {breaks_a : Option Addr} {breaks_e : Nat} {breaks_n : Nat} {list_a : Option Addr} {list_e : Nat} {list_n : Nat} {r1 : Bool} {Q : Post} {Inv : Nat → (Option Addr) → Nat → Nat → Bool → (Option Addr) → Nat → Nat → Int → Int → AHeap → Prop} {μ : Nat} (μ' : Nat) {t4_a : Option Addr} {t4_n : Nat} {t4_e : Nat} {t5 : Bool} {vout_a : Option Addr} {vout_n : Nat} {vout_e : Nat} {vfrom : Int} {t28 : Int} {g9 g10 g29 g30 g31 g32 g33 g34 g35 g36 g37 g38 g39 g40 g41 g42 g43 g44 g45 g46 g47 g48 g49 g50 g51 g52 g53 g54 g55 : Value} {H : AHeap} (hm : μ' < μ) (hI : Inv μ' t4_a t4_n t4_e t5 vout_a vout_n vout_e vfrom t28 H) : loopQ (impl_SegmentMeans_I1 b1 b2 b3 b4 b5 breaks_a breaks_e breaks_n list_a list_e list_n r1 Inv) μ Q .normal [.slice list_a list_n list_e, .slice breaks_a breaks_n breaks_e, undef, undef, .slice t4_a t4_n t4_e, .bool t5, .slice vout_a vout_n vout_e, .int .i64 vfrom, undef, g9, g10, .slice list_a list_n list_e, .bool r1, .bool (!r1), .bool false, .slice breaks_a breaks_n breaks_e, .int .i64 (breaks_n : Int), .bool (decide ((16 : Int) < (breaks_n : Int))), .bool (decide ((16 : Int) < (breaks_n : Int))), .slice (some ⟨b1, 0, none⟩) 0 1, .slice (some ⟨b2, 0, none⟩) 0 1, .slice breaks_a breaks_n breaks_e, .slice (some ⟨b3, 0, none⟩) (0 + breaks_n) 1, .slice list_a list_n list_e, .int .i64 (list_n : Int), .slice (some ⟨b4, 0, none⟩) 1 1, .slice (some ⟨b5, 0, none⟩) ((0 + breaks_n) + 1) 1, .int .i64 (((0 + breaks_n) + 1 : Int)), .int .i64 t28, g29, g30, g31, g32, g33, g34, g35, g36, g37, g38, g39, g40, g41, g42, g43, g44, g45, g46, g47, g48, g49, g50, g51, g52, g53, g54, g55, undef, undef, undef, undef] H := ⟨μ', hm, t4_a, t4_n, t4_e, t5, vout_a, vout_n, vout_e, vfrom, t28, g9, g10, g29, g30, g31, g32, g33, g34, g35, g36, g37, g38, g39, g40, g41, g42, g43, g44, g45, g46, g47, g48, g49, g50, g51, g52, g53, g54, g55, rfl, hI⟩
theorem impl_SegmentMeans_x1_0 (b1 : Nat) (b2 : Nat) (b3 : Nat) (b4 : Nat) (b5 : Nat) (breaks_a : Option Addr) (breaks_e : Nat) (breaks_n : Nat) (list_a : Option Addr) (list_e : Nat) (list_n : Nat) (r1 : Bool) (t4_a : Option Addr) (t4_n : Nat) (t4_e : Nat) (t5 : Bool) (vout_a : Option Addr) (vout_n : Nat) (vout_e : Nat) (vfrom : Int) (t28 : Int) (g9 g10 g29 g30 g31 g32 g33 g34 g35 g36 g37 g38 g39 g40 g41 g42 g43 g44 g45 g46 g47 g48 g49 g50 g51 g52 g53 g54 g55 : Value) (H : AHeap) (K : Value → AHeap → Prop)  {I : Nat → List Value → AHeap → Prop} {μ : Nat} : loopQ I μ (blockQ 0 (seqQ (exK Try.prog E_impl_SegmentMeans (cr (cr (cr (cr (bodyC Try.f26)))))) (retK Try.prog Try.f26 K))) (.exit 0) [.slice list_a list_n list_e, .slice breaks_a breaks_n breaks_e, undef, undef, .slice t4_a t4_n t4_e, .bool t5, .slice vout_a vout_n vout_e, .int .i64 vfrom, undef, g9, g10, .slice list_a list_n list_e, .bool r1, .bool (!r1), .bool false, .slice breaks_a breaks_n breaks_e, .int .i64 (breaks_n : Int), .bool (decide ((16 : Int) < (breaks_n : Int))), .bool (decide ((16 : Int) < (breaks_n : Int))), .slice (some ⟨b1, 0, none⟩) 0 1, .slice (some ⟨b2, 0, none⟩) 0 1, .slice breaks_a breaks_n breaks_e, .slice (some ⟨b3, 0, none⟩) (0 + breaks_n) 1, .slice list_a list_n list_e, .int .i64 (list_n : Int), .slice (some ⟨b4, 0, none⟩) 1 1, .slice (some ⟨b5, 0, none⟩) ((0 + breaks_n) + 1) 1, .int .i64 (((0 + breaks_n) + 1 : Int)), .int .i64 t28, g29, g30, g31, g32, g33, g34, g35, g36, g37, g38, g39, g40, g41, g42, g43, g44, g45, g46, g47, g48, g49, g50, g51, g52, g53, g54, g55, undef, undef, undef, undef] H =
  (T_impl_finiteList vout_a vout_n vout_e H fun (a1 : Option Addr) (r4 : Nat) (r5 : Nat) (r6 : Bool) (H11 : AHeap) => K (.tuple #[.slice a1 r4 r5, .bool r6]) H11) := by kernel_rfl
theorem impl_SegmentMeans_x1_ret (b1 : Nat) (b2 : Nat) (b3 : Nat) (b4 : Nat) (b5 : Nat) (breaks_a : Option Addr) (breaks_e : Nat) (breaks_n : Nat) (list_a : Option Addr) (list_e : Nat) (list_n : Nat) (r1 : Bool) (t4_a : Option Addr) (t4_n : Nat) (t4_e : Nat) (t5 : Bool) (vout_a : Option Addr) (vout_n : Nat) (vout_e : Nat) (vfrom : Int) (t28 : Int) (g9 g10 g29 g30 g31 g32 g33 g34 g35 g36 g37 g38 g39 g40 g41 g42 g43 g44 g45 g46 g47 g48 g49 g50 g51 g52 g53 g54 g55 : Value) (H : AHeap) (K : Value → AHeap → Prop)  {I : Nat → List Value → AHeap → Prop} {μ : Nat} : loopQ I μ (blockQ 0 (seqQ (exK Try.prog E_impl_SegmentMeans (cr (cr (cr (cr (bodyC Try.f26)))))) (retK Try.prog Try.f26 K))) .ret [.slice list_a list_n list_e, .slice breaks_a breaks_n breaks_e, undef, undef, .slice t4_a t4_n t4_e, .bool t5, .slice vout_a vout_n vout_e, .int .i64 vfrom, undef, g9, g10, .slice list_a list_n list_e, .bool r1, .bool (!r1), .bool false, .slice breaks_a breaks_n breaks_e, .int .i64 (breaks_n : Int), .bool (decide ((16 : Int) < (breaks_n : Int))), .bool (decide ((16 : Int) < (breaks_n : Int))), .slice (some ⟨b1, 0, none⟩) 0 1, .slice (some ⟨b2, 0, none⟩) 0 1, .slice breaks_a breaks_n breaks_e, .slice (some ⟨b3, 0, none⟩) (0 + breaks_n) 1, .slice list_a list_n list_e, .int .i64 (list_n : Int), .slice (some ⟨b4, 0, none⟩) 1 1, .slice (some ⟨b5, 0, none⟩) ((0 + breaks_n) + 1) 1, .int .i64 (((0 + breaks_n) + 1 : Int)), .int .i64 t28, g29, g30, g31, g32, g33, g34, g35, g36, g37, g38, g39, g40, g41, g42, g43, g44, g45, g46, g47, g48, g49, g50, g51, g52, g53, g54, g55, undef, undef, undef, undef] H =
  (K (.tuple #[.slice t4_a t4_n t4_e, .bool t5]) H) := by kernel_rfl
theorem impl_SegmentMeans_r2 (b1 : Nat) (b2 : Nat) (b3 : Nat) (b4 : Nat) (b5 : Nat) (b6 : Nat) (breaks_a : Option Addr) (breaks_e : Nat) (breaks_n : Nat) (f1 : Nat) (g54 : Value) (g55 : Value) (list_a : Option Addr) (list_e : Nat) (list_n : Nat) (r1 : Bool) (r2 : Bool) (r3 : Nat) (t28 : Int) (t4_a : Option Addr) (t4_e : Nat) (t4_n : Nat) (t5 : Bool) (vfrom : Int) (x1 : Int) (z2_34 : Int) (z2_46 : Int) (vout_a : Option Addr) (vout_n : Nat) (vout_e : Nat) (t47 : Int) (g48 g49 g50 g51 g52 g53 : Value) (H : AHeap) (R : Post) : exK Try.prog E_impl_SegmentMeans (cl (cl (cr (cl (cr (cr (cr (cl (cl (cr (cr (cl (cl (cr (cl (cr (cr (cr (bodyC Try.f26))))))))))))))))))) [.slice list_a list_n list_e, .slice breaks_a breaks_n breaks_e, undef, undef, .slice t4_a t4_n t4_e, .bool t5, .slice vout_a vout_n vout_e, .int .i64 vfrom, undef, .int .i64 x1, .float .f32 r3, .slice list_a list_n list_e, .bool r1, .bool (!r1), .bool false, .slice breaks_a breaks_n breaks_e, .int .i64 (breaks_n : Int), .bool (decide ((16 : Int) < (breaks_n : Int))), .bool (decide ((16 : Int) < (breaks_n : Int))), .slice (some ⟨b1, 0, none⟩) 0 1, .slice (some ⟨b2, 0, none⟩) 0 1, .slice breaks_a breaks_n breaks_e, .slice (some ⟨b3, 0, none⟩) (0 + breaks_n) 1, .slice list_a list_n list_e, .int .i64 (list_n : Int), .slice (some ⟨b4, 0, none⟩) 1 1, .slice (some ⟨b5, 0, none⟩) ((0 + breaks_n) + 1) 1, .int .i64 (((0 + breaks_n) + 1 : Int)), .int .i64 t28, .bool (decide ((t28 : Int) < ((0 + breaks_n) + 1 : Int))), .pointer (some ⟨b6, f1 + (t28 : Int).toNat * 1, none⟩), .int .i64 x1, .int .i64 x1, .int .i64 vfrom, .int .i64 z2_34, .slice list_a list_n list_e, .int .i64 (list_n : Int), .bool r2, .bool (!r2), .slice list_a list_n list_e, .int .i64 vfrom, .int .i64 x1, .slice ((list_a : Option Addr).map fun a => ⟨a.block, a.off + (vfrom : Int).toNat * 1, none⟩) (((x1 : Int) - vfrom).toNat) 0, .float .f32 r3, .int .i64 x1, .int .i64 vfrom, .int .i64 z2_46, .int .i64 t47, g48, g49, g50, g51, g52, g53, g54, g55, undef, undef, undef, undef] H R =
  (Br (decide ((t47 : Int) < z2_46)) (Al [.float .f32 r3] H fun b7 H9 => ∃ o3 w3 : List Value, ownB H9 vout_a vout_n vout_e 1 = some o3 ∧ rdS H9 (some ⟨b7, 0, none⟩) (1 * 1) = some w3 ∧ ((vout_a : Option Addr) = none → 0 < (1 : Nat)) ∧ (vout_n : Nat) + 1 < most ∧ Ap H9 (killB H9 vout_a ++ [some ⟨o3 ++ w3, true⟩]) fun b8 H10 => R .normal [.slice list_a list_n list_e, .slice breaks_a breaks_n breaks_e, undef, undef, .slice t4_a t4_n t4_e, .bool t5, .slice (some ⟨b8, 0, none⟩) (vout_n + 1) 1, .int .i64 vfrom, undef, .int .i64 x1, .float .f32 r3, .slice list_a list_n list_e, .bool r1, .bool (!r1), .bool false, .slice breaks_a breaks_n breaks_e, .int .i64 (breaks_n : Int), .bool (decide ((16 : Int) < (breaks_n : Int))), .bool (decide ((16 : Int) < (breaks_n : Int))), .slice (some ⟨b1, 0, none⟩) 0 1, .slice (some ⟨b2, 0, none⟩) 0 1, .slice breaks_a breaks_n breaks_e, .slice (some ⟨b3, 0, none⟩) (0 + breaks_n) 1, .slice list_a list_n list_e, .int .i64 (list_n : Int), .slice (some ⟨b4, 0, none⟩) 1 1, .slice (some ⟨b5, 0, none⟩) ((0 + breaks_n) + 1) 1, .int .i64 (((0 + breaks_n) + 1 : Int)), .int .i64 t28, .bool (decide ((t28 : Int) < ((0 + breaks_n) + 1 : Int))), .pointer (some ⟨b6, f1 + (t28 : Int).toNat * 1, none⟩), .int .i64 x1, .int .i64 x1, .int .i64 vfrom, .int .i64 z2_34, .slice list_a list_n list_e, .int .i64 (list_n : Int), .bool r2, .bool (!r2), .slice list_a list_n list_e, .int .i64 vfrom, .int .i64 x1, .slice ((list_a : Option Addr).map fun a => ⟨a.block, a.off + (vfrom : Int).toNat * 1, none⟩) (((x1 : Int) - vfrom).toNat) 0, .float .f32 r3, .int .i64 x1, .int .i64 vfrom, .int .i64 z2_46, .int .i64 (IntKind.wrap .i64 (t47 + 1)), .bool (decide ((t47 : Int) < z2_46)), .slice vout_a vout_n vout_e, .float .f32 r3, .slice (some ⟨b7, 0, none⟩) 1 1, .slice (some ⟨b8, 0, none⟩) (vout_n + 1) 1, .int .i64 (IntKind.wrap .i64 (t47 + 1)), g54, g55, undef, undef, undef, undef] H10) (R (.exit 2) [.slice list_a list_n list_e, .slice breaks_a breaks_n breaks_e, undef, undef, .slice t4_a t4_n t4_e, .bool t5, .slice vout_a vout_n vout_e, .int .i64 vfrom, undef, .int .i64 x1, .float .f32 r3, .slice list_a list_n list_e, .bool r1, .bool (!r1), .bool false, .slice breaks_a breaks_n breaks_e, .int .i64 (breaks_n : Int), .bool (decide ((16 : Int) < (breaks_n : Int))), .bool (decide ((16 : Int) < (breaks_n : Int))), .slice (some ⟨b1, 0, none⟩) 0 1, .slice (some ⟨b2, 0, none⟩) 0 1, .slice breaks_a breaks_n breaks_e, .slice (some ⟨b3, 0, none⟩) (0 + breaks_n) 1, .slice list_a list_n list_e, .int .i64 (list_n : Int), .slice (some ⟨b4, 0, none⟩) 1 1, .slice (some ⟨b5, 0, none⟩) ((0 + breaks_n) + 1) 1, .int .i64 (((0 + breaks_n) + 1 : Int)), .int .i64 t28, .bool (decide ((t28 : Int) < ((0 + breaks_n) + 1 : Int))), .pointer (some ⟨b6, f1 + (t28 : Int).toNat * 1, none⟩), .int .i64 x1, .int .i64 x1, .int .i64 vfrom, .int .i64 z2_34, .slice list_a list_n list_e, .int .i64 (list_n : Int), .bool r2, .bool (!r2), .slice list_a list_n list_e, .int .i64 vfrom, .int .i64 x1, .slice ((list_a : Option Addr).map fun a => ⟨a.block, a.off + (vfrom : Int).toNat * 1, none⟩) (((x1 : Int) - vfrom).toNat) 0, .float .f32 r3, .int .i64 x1, .int .i64 vfrom, .int .i64 z2_46, .int .i64 t47, .bool (decide ((t47 : Int) < z2_46)), g49, g50, g51, g52, g53, g54, g55, undef, undef, undef, undef] H)) := by kernel_rfl
def impl_SegmentMeans_I2 (b1 : Nat) (b2 : Nat) (b3 : Nat) (b4 : Nat) (b5 : Nat) (b6 : Nat) (breaks_a : Option Addr) (breaks_e : Nat) (breaks_n : Nat) (f1 : Nat) (g54 : Value) (g55 : Value) (list_a : Option Addr) (list_e : Nat) (list_n : Nat) (r1 : Bool) (r2 : Bool) (r3 : Nat) (t28 : Int) (t4_a : Option Addr) (t4_e : Nat) (t4_n : Nat) (t5 : Bool) (vfrom : Int) (x1 : Int) (z2_34 : Int) (z2_46 : Int) (Inv : Nat → (Option Addr) → Nat → Nat → Int → AHeap → Prop) : Nat → List Value → AHeap → Prop := fun μ tm H => ∃ (vout_a : Option Addr), ∃ (vout_n : Nat), ∃ (vout_e : Nat), ∃ (t47 : Int), ∃ g48 g49 g50 g51 g52 g53, tm = [.slice list_a list_n list_e, .slice breaks_a breaks_n breaks_e, undef, undef, .slice t4_a t4_n t4_e, .bool t5, .slice vout_a vout_n vout_e, .int .i64 vfrom, undef, .int .i64 x1, .float .f32 r3, .slice list_a list_n list_e, .bool r1, .bool (!r1), .bool false, .slice breaks_a breaks_n breaks_e, .int .i64 (breaks_n : Int), .bool (decide ((16 : Int) < (breaks_n : Int))), .bool (decide ((16 : Int) < (breaks_n : Int))), .slice (some ⟨b1, 0, none⟩) 0 1, .slice (some ⟨b2, 0, none⟩) 0 1, .slice breaks_a breaks_n breaks_e, .slice (some ⟨b3, 0, none⟩) (0 + breaks_n) 1, .slice list_a list_n list_e, .int .i64 (list_n : Int), .slice (some ⟨b4, 0, none⟩) 1 1, .slice (some ⟨b5, 0, none⟩) ((0 + breaks_n) + 1) 1, .int .i64 (((0 + breaks_n) + 1 : Int)), .int .i64 t28, .bool (decide ((t28 : Int) < ((0 + breaks_n) + 1 : Int))), .pointer (some ⟨b6, f1 + (t28 : Int).toNat * 1, none⟩), .int .i64 x1, .int .i64 x1, .int .i64 vfrom, .int .i64 z2_34, .slice list_a list_n list_e, .int .i64 (list_n : Int), .bool r2, .bool (!r2), .slice list_a list_n list_e, .int .i64 vfrom, .int .i64 x1, .slice ((list_a : Option Addr).map fun a => ⟨a.block, a.off + (vfrom : Int).toNat * 1, none⟩) (((x1 : Int) - vfrom).toNat) 0, .float .f32 r3, .int .i64 x1, .int .i64 vfrom, .int .i64 z2_46, .int .i64 t47, g48, g49, g50, g51, g52, g53, g54, g55, undef, undef, undef, undef] ∧ Inv μ vout_a vout_n vout_e t47 H
theorem impl_SegmentMeans_L2 (b1 : Nat) (b2 : Nat) (b3 : Nat) (b4 : Nat) (b5 : Nat) (b6 : Nat) (breaks_a : Option Addr) (breaks_e : Nat) (breaks_n : Nat) (f1 : Nat) (g54 : Value) (g55 : Value) (list_a : Option Addr) (list_e : Nat) (list_n : Nat) (r1 : Bool) (r2 : Bool) (r3 : Nat) (t28 : Int) (t4_a : Option Addr) (t4_e : Nat) (t4_n : Nat) (t5 : Bool) (vfrom : Int) (x1 : Int) (z2_34 : Int) (z2_46 : Int) {Q : Post} (Inv : Nat → (Option Addr) → Nat → Nat → Int → AHeap → Prop) (ν : Nat) (vout_a : Option Addr) (vout_n : Nat) (vout_e : Nat) (t47 : Int) (g48 g49 g50 g51 g52 g53 : Value) (H : AHeap) (h0 : Inv ν vout_a vout_n vout_e t47 H)
    (hs : ∀ (μ : Nat) (vout_a : Option Addr) (vout_n : Nat) (vout_e : Nat) (t47 : Int) (g48 g49 g50 g51 g52 g53 : Value) (H : AHeap), Inv μ vout_a vout_n vout_e t47 H → exK Try.prog E_impl_SegmentMeans (cl (cl (cr (cl (cr (cr (cr (cl (cl (cr (cr (cl (cl (cr (cl (cr (cr (cr (bodyC Try.f26))))))))))))))))))) [.slice list_a list_n list_e, .slice breaks_a breaks_n breaks_e, undef, undef, .slice t4_a t4_n t4_e, .bool t5, .slice vout_a vout_n vout_e, .int .i64 vfrom, undef, .int .i64 x1, .float .f32 r3, .slice list_a list_n list_e, .bool r1, .bool (!r1), .bool false, .slice breaks_a breaks_n breaks_e, .int .i64 (breaks_n : Int), .bool (decide ((16 : Int) < (breaks_n : Int))), .bool (decide ((16 : Int) < (breaks_n : Int))), .slice (some ⟨b1, 0, none⟩) 0 1, .slice (some ⟨b2, 0, none⟩) 0 1, .slice breaks_a breaks_n breaks_e, .slice (some ⟨b3, 0, none⟩) (0 + breaks_n) 1, .slice list_a list_n list_e, .int .i64 (list_n : Int), .slice (some ⟨b4, 0, none⟩) 1 1, .slice (some ⟨b5, 0, none⟩) ((0 + breaks_n) + 1) 1, .int .i64 (((0 + breaks_n) + 1 : Int)), .int .i64 t28, .bool (decide ((t28 : Int) < ((0 + breaks_n) + 1 : Int))), .pointer (some ⟨b6, f1 + (t28 : Int).toNat * 1, none⟩), .int .i64 x1, .int .i64 x1, .int .i64 vfrom, .int .i64 z2_34, .slice list_a list_n list_e, .int .i64 (list_n : Int), .bool r2, .bool (!r2), .slice list_a list_n list_e, .int .i64 vfrom, .int .i64 x1, .slice ((list_a : Option Addr).map fun a => ⟨a.block, a.off + (vfrom : Int).toNat * 1, none⟩) (((x1 : Int) - vfrom).toNat) 0, .float .f32 r3, .int .i64 x1, .int .i64 vfrom, .int .i64 z2_46, .int .i64 t47, g48, g49, g50, g51, g52, g53, g54, g55, undef, undef, undef, undef] H (loopQ (impl_SegmentMeans_I2 b1 b2 b3 b4 b5 b6 breaks_a breaks_e breaks_n f1 g54 g55 list_a list_e list_n r1 r2 r3 t28 t4_a t4_e t4_n t5 vfrom x1 z2_34 z2_46 Inv) μ Q)) : loopK (exK Try.prog E_impl_SegmentMeans (cl (cl (cr (cl (cr (cr (cr (cl (cl (cr (cr (cl (cl (cr (cl (cr (cr (cr (bodyC Try.f26)))))))))))))))))))) [.slice list_a list_n list_e, .slice breaks_a breaks_n breaks_e, undef, undef, .slice t4_a t4_n t4_e, .bool t5, .slice vout_a vout_n vout_e, .int .i64 vfrom, undef, .int .i64 x1, .float .f32 r3, .slice list_a list_n list_e, .bool r1, .bool (!r1), .bool false, .slice breaks_a breaks_n breaks_e, .int .i64 (breaks_n : Int), .bool (decide ((16 : Int) < (breaks_n : Int))), .bool (decide ((16 : Int) < (breaks_n : Int))), .slice (some ⟨b1, 0, none⟩) 0 1, .slice (some ⟨b2, 0, none⟩) 0 1, .slice breaks_a breaks_n breaks_e, .slice (some ⟨b3, 0, none⟩) (0 + breaks_n) 1, .slice list_a list_n list_e, .int .i64 (list_n : Int), .slice (some ⟨b4, 0, none⟩) 1 1, .slice (some ⟨b5, 0, none⟩) ((0 + breaks_n) + 1) 1, .int .i64 (((0 + breaks_n) + 1 : Int)), .int .i64 t28, .bool (decide ((t28 : Int) < ((0 + breaks_n) + 1 : Int))), .pointer (some ⟨b6, f1 + (t28 : Int).toNat * 1, none⟩), .int .i64 x1, .int .i64 x1, .int .i64 vfrom, .int .i64 z2_34, .slice list_a list_n list_e, .int .i64 (list_n : Int), .bool r2, .bool (!r2), .slice list_a list_n list_e, .int .i64 vfrom, .int .i64 x1, .slice ((list_a : Option Addr).map fun a => ⟨a.block, a.off + (vfrom : Int).toNat * 1, none⟩) (((x1 : Int) - vfrom).toNat) 0, .float .f32 r3, .int .i64 x1, .int .i64 vfrom, .int .i64 z2_46, .int .i64 t47, g48, g49, g50, g51, g52, g53, g54, g55, undef, undef, undef, undef] H Q :=
  ⟨impl_SegmentMeans_I2 b1 b2 b3 b4 b5 b6 breaks_a breaks_e breaks_n f1 g54 g55 list_a list_e list_n r1 r2 r3 t28 t4_a t4_e t4_n t5 vfrom x1 z2_34 z2_46 Inv, ν, ⟨vout_a, vout_n, vout_e, t47, g48, g49, g50, g51, g52, g53, rfl, h0⟩, fun μ tm H h => by obtain ⟨vout_a, vout_n, vout_e, t47, g48, g49, g50, g51, g52, g53, rfl, hI⟩ := h; exact hs μ vout_a vout_n vout_e t47 g48 g49 g50 g51 g52 g53 H hI⟩
theorem impl_SegmentMeans_n2 {b1 : Nat} {b2 : Nat} {b3 : Nat} {b4 : Nat} {b5 : Nat} {b6 : Nat} {breaks_a : Option Addr} {breaks_e : Nat} {breaks_n : Nat} {f1 : Nat} {g54 : Value} {g55 : Value} {list_a : Option Addr} {list_e : Nat} {list_n : Nat} {r1 : Bool} {r2 : Bool} {r3 : Nat} {t28 : Int} {t4_a : Option Addr} {t4_e : Nat} {t4_n : Nat} {t5 : Bool} {vfrom : Int} {x1 : Int} {z2_34 : Int} {z2_46 : Int} {Q : Post} {Inv : Nat → (Option Addr) → Nat → Nat → Int → AHeap → Prop} {μ : Nat} (μ' : Nat) {vout_a : Option Addr} {vout_n : Nat} {vout_e : Nat} {t47 : Int} {g48 g49 g50 g51 g52 g53 : Value} {H : AHeap} (hm : μ' < μ) (hI : Inv μ' vout_a vout_n vout_e t47 H) : loopQ (impl_SegmentMeans_I2 b1 b2 b3 b4 b5 b6 breaks_a breaks_e breaks_n f1 g54 g55 list_a list_e list_n r1 r2 r3 t28 t4_a t4_e t4_n t5 vfrom x1 z2_34 z2_46 Inv) μ Q .normal [.slice list_a list_n list_e, .slice breaks_a breaks_n breaks_e, undef, undef, .slice t4_a t4_n t4_e, .bool t5, .slice vout_a vout_n vout_e, .int .i64 vfrom, undef, .int .i64 x1, .float .f32 r3, .slice list_a list_n list_e, .bool r1, .bool (!r1), .bool false, .slice breaks_a breaks_n breaks_e, .int .i64 (breaks_n : Int), .bool (decide ((16 : Int) < (breaks_n : Int))), .bool (decide ((16 : Int) < (breaks_n : Int))), .slice (some ⟨b1, 0, none⟩) 0 1, .slice (some ⟨b2, 0, none⟩) 0 1, .slice breaks_a breaks_n breaks_e, .slice (some ⟨b3, 0, none⟩) (0 + breaks_n) 1, .slice list_a list_n list_e, .int .i64 (list_n : Int), .slice (some ⟨b4, 0, none⟩) 1 1, .slice (some ⟨b5, 0, none⟩) ((0 + breaks_n) + 1) 1, .int .i64 (((0 + breaks_n) + 1 : Int)), .int .i64 t28, .bool (decide ((t28 : Int) < ((0 + breaks_n) + 1 : Int))), .pointer (some ⟨b6, f1 + (t28 : Int).toNat * 1, none⟩), .int .i64 x1, .int .i64 x1, .int .i64 vfrom, .int .i64 z2_34, .slice list_a list_n list_e, .int .i64 (list_n : Int), .bool r2, .bool (!r2), .slice list_a list_n list_e, .int .i64 vfrom, .int .i64 x1, .slice ((list_a : Option Addr).map fun a => ⟨a.block, a.off + (vfrom : Int).toNat * 1, none⟩) (((x1 : Int) - vfrom).toNat) 0, .float .f32 r3, .int .i64 x1, .int .i64 vfrom, .int .i64 z2_46, .int .i64 t47, g48, g49, g50, g51, g52, g53, g54, g55, undef, undef, undef, undef] H := ⟨μ', hm, vout_a, vout_n, vout_e, t47, g48, g49, g50, g51, g52, g53, rfl, hI⟩
theorem impl_SegmentMeans_x2_2 (b1 : Nat) (b2 : Nat) (b3 : Nat) (b4 : Nat) (b5 : Nat) (b6 : Nat) (breaks_a : Option Addr) (breaks_e : Nat) (breaks_n : Nat) (f1 : Nat) (g54 : Value) (g55 : Value) (list_a : Option Addr) (list_e : Nat) (list_n : Nat) (r1 : Bool) (r2 : Bool) (r3 : Nat) (t28 : Int) (t4_a : Option Addr) (t4_e : Nat) (t4_n : Nat) (t5 : Bool) (vfrom : Int) (x1 : Int) (z2_34 : Int) (z2_46 : Int) (vout_a : Option Addr) (vout_n : Nat) (vout_e : Nat) (t47 : Int) (g48 g49 g50 g51 g52 g53 : Value) (H : AHeap)  (R : Post) {I : Nat → List Value → AHeap → Prop} {μ : Nat} : loopQ I μ (blockQ 2 (seqQ (exK Try.prog E_impl_SegmentMeans (cr (cr (cr (cr (cl (cl (cr (cr (cl (cl (cr (cl (cr (cr (cr (bodyC Try.f26))))))))))))))))) (blockQ 1 (seqQ (exK Try.prog E_impl_SegmentMeans (cr (cr (cr (cl (cl (cr (cl (cr (cr (cr (bodyC Try.f26)))))))))))) (R))))) (.exit 2) [.slice list_a list_n list_e, .slice breaks_a breaks_n breaks_e, undef, undef, .slice t4_a t4_n t4_e, .bool t5, .slice vout_a vout_n vout_e, .int .i64 vfrom, undef, .int .i64 x1, .float .f32 r3, .slice list_a list_n list_e, .bool r1, .bool (!r1), .bool false, .slice breaks_a breaks_n breaks_e, .int .i64 (breaks_n : Int), .bool (decide ((16 : Int) < (breaks_n : Int))), .bool (decide ((16 : Int) < (breaks_n : Int))), .slice (some ⟨b1, 0, none⟩) 0 1, .slice (some ⟨b2, 0, none⟩) 0 1, .slice breaks_a breaks_n breaks_e, .slice (some ⟨b3, 0, none⟩) (0 + breaks_n) 1, .slice list_a list_n list_e, .int .i64 (list_n : Int), .slice (some ⟨b4, 0, none⟩) 1 1, .slice (some ⟨b5, 0, none⟩) ((0 + breaks_n) + 1) 1, .int .i64 (((0 + breaks_n) + 1 : Int)), .int .i64 t28, .bool (decide ((t28 : Int) < ((0 + breaks_n) + 1 : Int))), .pointer (some ⟨b6, f1 + (t28 : Int).toNat * 1, none⟩), .int .i64 x1, .int .i64 x1, .int .i64 vfrom, .int .i64 z2_34, .slice list_a list_n list_e, .int .i64 (list_n : Int), .bool r2, .bool (!r2), .slice list_a list_n list_e, .int .i64 vfrom, .int .i64 x1, .slice ((list_a : Option Addr).map fun a => ⟨a.block, a.off + (vfrom : Int).toNat * 1, none⟩) (((x1 : Int) - vfrom).toNat) 0, .float .f32 r3, .int .i64 x1, .int .i64 vfrom, .int .i64 z2_46, .int .i64 t47, g48, g49, g50, g51, g52, g53, g54, g55, undef, undef, undef, undef] H =
  (R .normal [.slice list_a list_n list_e, .slice breaks_a breaks_n breaks_e, undef, undef, .slice t4_a t4_n t4_e, .bool t5, .slice vout_a vout_n vout_e, .int .i64 x1, undef, .int .i64 x1, .float .f32 r3, .slice list_a list_n list_e, .bool r1, .bool (!r1), .bool false, .slice breaks_a breaks_n breaks_e, .int .i64 (breaks_n : Int), .bool (decide ((16 : Int) < (breaks_n : Int))), .bool (decide ((16 : Int) < (breaks_n : Int))), .slice (some ⟨b1, 0, none⟩) 0 1, .slice (some ⟨b2, 0, none⟩) 0 1, .slice breaks_a breaks_n breaks_e, .slice (some ⟨b3, 0, none⟩) (0 + breaks_n) 1, .slice list_a list_n list_e, .int .i64 (list_n : Int), .slice (some ⟨b4, 0, none⟩) 1 1, .slice (some ⟨b5, 0, none⟩) ((0 + breaks_n) + 1) 1, .int .i64 (((0 + breaks_n) + 1 : Int)), .int .i64 (IntKind.wrap .i64 (t28 + 1)), .bool (decide ((t28 : Int) < ((0 + breaks_n) + 1 : Int))), .pointer (some ⟨b6, f1 + (t28 : Int).toNat * 1, none⟩), .int .i64 x1, .int .i64 x1, .int .i64 vfrom, .int .i64 z2_34, .slice list_a list_n list_e, .int .i64 (list_n : Int), .bool r2, .bool (!r2), .slice list_a list_n list_e, .int .i64 vfrom, .int .i64 x1, .slice ((list_a : Option Addr).map fun a => ⟨a.block, a.off + (vfrom : Int).toNat * 1, none⟩) (((x1 : Int) - vfrom).toNat) 0, .float .f32 r3, .int .i64 x1, .int .i64 vfrom, .int .i64 z2_46, .int .i64 t47, g48, g49, g50, g51, g52, g53, .int .i64 x1, .int .i64 (IntKind.wrap .i64 (t28 + 1)), undef, undef, undef, undef] H) := by kernel_rfl
theorem E_impl_SegmentMeans_ok : ∀ g, FnOk Try.prog g (E_impl_SegmentMeans g) := FnOk.envOf (by
  intro x hx
  simp only [List.mem_cons, List.not_mem_nil, or_false] at hx
  rcases hx with rfl | rfl | rfl | rfl
  · exact impl_isLong_ok
  · exact impl_within_ok
  · exact impl_mean_ok
  · exact impl_finiteList_ok)
set_option maxHeartbeats 1000000 in
theorem impl_SegmentMeans_main (list_a : Option Addr) (list_n : Nat) (list_e : Nat) (breaks_a : Option Addr) (breaks_n : Nat) (breaks_e : Nat) (H : AHeap) (K : Value → AHeap → Prop) (h : T_impl_SegmentMeans list_a list_n list_e breaks_a breaks_n breaks_e H fun (r1_a : Option Addr) (r1_n : Nat) (r1_e : Nat) (r2 : Bool) (H' : AHeap) => K (.tuple #[.slice r1_a r1_n r1_e, .bool r2]) H') : bodyK Try.prog E_impl_SegmentMeans Try.f26 [.slice list_a list_n list_e, .slice breaks_a breaks_n breaks_e] H K := by
  rw [impl_SegmentMeans_vc]
  obtain ⟨l_list, l_breaks, i_list, i_breaks, bd_155, bd_156, hk⟩ := h
  obtain rfl := i_list.eqn
  obtain rfl := i_breaks.eqn
  have e : (p_impl_SegmentMeans l_list l_breaks) = _ := rfl
  have e := e.trans (p_impl_SegmentMeans_eq l_list l_breaks)
  have g0 := Grow.refl H
  refine T_impl_isLong_i ⟨_, (i_list.grow g0), (by first | omega | (simp only [List.length_set, List.length_replicate, List.length_append, List.length_cons, List.length_nil, List.length_take, List.length_drop, marks_length]; done) | (simp only [List.length_set, List.length_replicate, List.length_append, List.length_cons, List.length_nil, List.length_take, List.length_drop, marks_length]; omega)), fun  H_1 g_1  => ?_⟩
  have l_2 := g_1.1
  have g_3 := g0.trans g_1
  have l_4 := g_3.1
  refine Br.intro (fun c_5 => ?_) (fun c_5 => ?_)
  · have e := e.trans (cond_t c_5)
    have c_5n := nf_of_t c_5
    rw [e] at hk
    exact hk _ _ _ H_1 g_3 (OwnS.nil _ _ _ _)
  · have e := e.trans (cond_f c_5)
    have c_5n := nt_of_f c_5
    have c_5n' := impl_isLong_t c_5n
    refine Br.intro (fun c_6 => ?_) (fun c_6 => ?_)
    · have e := e.trans (cond_t c_6)
      have c_6' := of_decide_eq_true c_6
      rw [e] at hk
      exact hk _ _ _ H_1 g_3 (OwnS.nil _ _ _ _)
    · have e := e.trans (cond_f c_6)
      have c_6' := of_decide_eq_false c_6
      refine Al.intro (fun b_7 H_2 hb_8 hl_9 g_10 o_11 => ?_)
      have o_11 : Own H_2 b_7 ((([] : List Nat)).map fF) := o_11
      have l_13 := g_10.1
      have g_14 := g_3.trans g_10
      have l_15 := g_14.1
      have w_154 := o_11.lt
      refine Al.intro (fun b_16 H_3 hb_17 hl_18 g_19 o_20 => ?_)
      have o_20 : Own H_3 b_16 ((([] : List Int)).map fI) := o_20
      have l_22 := g_19.1
      have g_23 := g_14.trans g_19
      have l_24 := g_23.1
      have o_25 := o_11.grow g_19
      have w_26 := o_25.lt
      have w_153 := o_20.lt
      refine ⟨_, _, o_20.ownB (by first | (simp only [List.length_map, List.length_cons, List.length_nil, List.length_append]; done) | (simp only [List.length_map, List.length_cons, List.length_nil, List.length_append]; omega)) rfl, (isl_rdS (i_breaks.grow g_23)), (fun h => by cases h), (by have := most_eq; omega), ?_⟩
      refine Ap.app o_20 rfl rfl (fun b_31 H_4 q_151 hl_27 o_28 k_29 => ?_)
      have o_28 := map_snoc o_28
      have l_32 := k_29.1
      have g_33 := g_23.keep (b := b_16) (by omega) k_29
      have l_34 := g_33.1
      have o_35 := o_25.keep (by omega) k_29
      have w_36 := o_35.lt
      have w_152 := o_28.lt
      refine Al.intro (fun b_37 H_5 hb_38 hl_39 g_40 o_41 => ?_)
      have o_41 : Own H_5 b_37 (([((l_list.length : Int) : Int)]).map fI) := o_41
      have l_43 := g_40.1
      have g_44 := g_33.trans g_40
      have l_45 := g_44.1
      have o_46 := o_35.grow g_40
      have w_47 := o_46.lt
      have o_48 := o_28.grow g_40
      have w_49 := o_48.lt
      have w_150 := o_41.lt
      refine ⟨_, _, o_48.ownB (by first | (simp only [List.length_map, List.length_cons, List.length_nil, List.length_append]; done) | (simp only [List.length_map, List.length_cons, List.length_nil, List.length_append]; omega)) rfl, (isl_rdS (o_41.isL (by first | rfl | omega | (simp only [List.length_set]; done) | (simp only [List.length_set, List.length_replicate]; omega)))), (fun h => by cases h), (by have := most_eq; omega), ?_⟩
      refine Ap.app o_48 rfl rfl (fun b_54 H_6 q_148 hl_50 o_51 k_52 => ?_)
      have o_51 := map_snoc o_51
      have l_55 := k_52.1
      have g_56 := g_44.keep (b := b_31) (by omega) k_52
      have l_57 := g_56.1
      have o_58 := o_46.keep (by omega) k_52
      have w_59 := o_58.lt
      have o_60 := o_41.keep (by omega) k_52
      have w_61 := o_60.lt
      have w_149 := o_51.lt
      refine impl_SegmentMeans_L1 _ _ _ _ _ _ _ _ _ _ _ _ (fun (μ : Nat) (t4_a : Option Addr) (t4_n : Nat) (t4_e : Nat) (t5 : Bool) (vout_a : Option Addr) (vout_n : Nat) (vout_e : Nat) (vfrom : Int) (t28 : Int) (H_7 : AHeap) => ∃ (l_vout : List Nat), ∃ (b_62 : Nat), t4_a = none ∧ t4_n = 0 ∧ t4_e = 0 ∧ vout_a = some ⟨b_62, 0, none⟩ ∧ vout_n = l_vout.length ∧ vout_e = 1 ∧ Own H_7 b_62 (l_vout.map fF) ∧ Own H_7 b_37 (([((l_list.length : Int) : Int)]).map fI) ∧ Own H_7 b_54 ((((([] : List Int) ++ l_breaks) ++ [((l_list.length : Int) : Int)])).map fI) ∧ (b_54 ≠ b_37) ∧ (b_62 ≠ b_37) ∧ (b_62 ≠ b_54) ∧ Grow H H_7 ∧ H.length ≤ b_62 ∧ (0 : Int) ≤ t28 ∧ t28 ≤ ((0 + l_breaks.length) + 1 : Int) ∧ 0 ≤ vfrom ∧ vfrom ≤ (l_list.length : Int) ∧ (l_vout.length : Int) ≤ vfrom ∧ ((0 + l_breaks.length) + 1 : Int) - t28 ≤ (μ : Int) ∧ p_impl_SegmentMeans l_list l_breaks = p_impl_SegmentMeans_l1 l_list l_breaks (μ + 1) t5 l_vout vfrom t28) (Int.toNat (((0 + l_breaks.length) + 1 : Int) - (0 : Int))) _ _ _ _ _ _ _ _ _ _ _ _ _ _ _ _ _ _ _ _ _ _ _ _ _ _ _ _ _ _ _ _ _ _ _ _ _ _ H_6 ?_ ?_
      · exact ⟨_, _, rfl, rfl, rfl, rfl, (by first | rfl | omega | (simp only [List.length_set]; done) | (simp only [List.length_set, List.length_replicate]; omega)), rfl, o_58, o_60, o_51, (by omega), (by omega), (by omega), g_56, (by omega), (by first | omega | (simp; done) | (simp; omega)), (by first | omega | (simp; done) | (simp; omega)), (by first | omega | (simp; done) | (simp; omega)), (by first | omega | (simp; done) | (simp; omega)), (by first | omega | (simp; done) | (simp; omega)), (by omega), e⟩
      · intro μ t4_a t4_n t4_e t5 vout_a vout_n vout_e vfrom t28 g9 g10 g29 g30 g31 g32 g33 g34 g35 g36 g37 g38 g39 g40 g41 g42 g43 g44 g45 g46 g47 g48 g49 g50 g51 g52 g53 g54 g55 H_7 hI
        obtain ⟨l_vout, b_62, rfl, rfl, rfl, rfl, rfl, rfl, o_63, o_64, o_65, n_66, n_67, n_68, g_69, l_70, v_71, v_72, v_73, v_74, v_75, hμ, e⟩ := hI
        rw [impl_SegmentMeans_r1]
        have e := e.trans (p_impl_SegmentMeans_l1_s l_list l_breaks μ t5 l_vout vfrom t28)
        have w_76 := o_64.lt
        have w_77 := o_65.lt
        have w_78 := o_63.lt
        have l_79 := g_69.1
        refine Br.intro (fun c_80 => ?_) (fun c_80 => ?_)
        · have e := e.trans (cond_t c_80)
          have c_80' := of_decide_eq_true c_80
          refine ⟨by omega, (by omega), _, _, rfl, ?_⟩
          refine ⟨((((([] : List Int) ++ l_breaks) ++ [((l_list.length : Int) : Int)])).getD (t28 : Int).toNat 0), o_65.rd (by first | omega | (simp only [List.length_set, List.length_replicate, List.length_append, List.length_cons, List.length_nil, List.length_take, List.length_drop, marks_length]; done) | (simp only [List.length_set, List.length_replicate, List.length_append, List.length_cons, List.length_nil, List.length_take, List.length_drop, marks_length]; omega)) _, ?_⟩
          rw [show IntKind.wrap .i64 (vfrom + 1) = (vfrom + 1) from wrap64 (by omega) (by omega)]
          refine T_impl_within_i ?_
          refine Br.intro (fun c_81 => ?_) (fun c_81 => ?_)
          · have e := e.trans (cond_t c_81)
            have c_81n := nf_of_t c_81
            rw [impl_SegmentMeans_x1_ret]
            rw [e] at hk
            exact hk _ _ _ H_7 g_69 (OwnS.nil _ _ _ _)
          · have e := e.trans (cond_f c_81)
            have c_81n := nt_of_f c_81
            have c_81n' := impl_within_t c_81n
            refine ⟨by omega, by omega, by omega, ?_⟩
            have i_82 := sub_isl i_list (lo := vfrom) (hi := ((((([] : List Int) ++ l_breaks) ++ [((l_list.length : Int) : Int)])).getD (t28 : Int).toNat 0)) (by omega) (by omega) (by omega)
            refine T_impl_mean_i ⟨_, (i_82.grow g_69), (by first | omega | (simp only [List.length_set, List.length_replicate, List.length_append, List.length_cons, List.length_nil, List.length_take, List.length_drop, marks_length]; done) | (simp only [List.length_set, List.length_replicate, List.length_append, List.length_cons, List.length_nil, List.length_take, List.length_drop, marks_length]; omega)), ?_⟩
            rw [show IntKind.wrap .i64 ((((((([] : List Int) ++ l_breaks) ++ [((l_list.length : Int) : Int)])).getD (t28 : Int).toNat 0)) - vfrom) = ((((((([] : List Int) ++ l_breaks) ++ [((l_list.length : Int) : Int)])).getD (t28 : Int).toNat 0)) - vfrom) from wrap64 (by omega) (by omega)]
            refine impl_SegmentMeans_L2 _ _ _ _ _ _ _ _ _ _ _ _ _ _ _ _ _ _ _ _ _ _ _ _ _ _ _ (fun (μ2 : Nat) (vout_a : Option Addr) (vout_n : Nat) (vout_e : Nat) (t47 : Int) (H_8 : AHeap) => ∃ (l_vout_2 : List Nat), ∃ (b_83 : Nat), vout_a = some ⟨b_83, 0, none⟩ ∧ vout_n = l_vout_2.length ∧ vout_e = 1 ∧ Own H_8 b_83 (l_vout_2.map fF) ∧ Own H_8 b_37 (([((l_list.length : Int) : Int)]).map fI) ∧ Own H_8 b_54 ((((([] : List Int) ++ l_breaks) ++ [((l_list.length : Int) : Int)])).map fI) ∧ (b_54 ≠ b_37) ∧ (b_83 ≠ b_37) ∧ (b_83 ≠ b_54) ∧ Grow H H_8 ∧ H.length ≤ b_83 ∧ (0 : Int) ≤ t47 ∧ t47 ≤ ((((((([] : List Int) ++ l_breaks) ++ [((l_list.length : Int) : Int)])).getD (t28 : Int).toNat 0)) - vfrom) ∧ (l_vout_2.length : Int) ≤ t47 - (0 : Int) + l_vout.length ∧ (l_vout_2.length : Int) ≤ vfrom + t47 ∧ ((((((([] : List Int) ++ l_breaks) ++ [((l_list.length : Int) : Int)])).getD (t28 : Int).toNat 0)) - vfrom) - t47 ≤ (μ2 : Int) ∧ p_impl_SegmentMeans l_list l_breaks = p_impl_SegmentMeans_l2 l_list l_breaks t5 l_vout vfrom t28 (fun (l_vout_2 : List Nat) (t47 : Int) => (p_impl_SegmentMeans_l1 l_list l_breaks μ t5 l_vout_2 (((((([] : List Int) ++ l_breaks) ++ [((l_list.length : Int) : Int)])).getD (t28 : Int).toNat 0)) (t28 + 1))) (μ2 + 1) l_vout_2 t47) (Int.toNat (((((((([] : List Int) ++ l_breaks) ++ [((l_list.length : Int) : Int)])).getD (t28 : Int).toNat 0)) - vfrom) - (0 : Int))) _ _ _ _ _ _ _ _ _ _ H_7 ?_ ?_
            · exact ⟨_, _, rfl, (by first | rfl | omega | (simp only [List.length_set]; done) | (simp only [List.length_set, List.length_replicate]; omega)), rfl, o_63, o_64, o_65, (by omega), (by omega), (by omega), g_69, (by omega), (by first | omega | (simp; done) | (simp; omega)), (by first | omega | (simp; done) | (simp; omega)), (by first | omega | (simp; done) | (simp; omega)), (by first | omega | (simp; done) | (simp; omega)), (by omega), e⟩
            · intro μ2 vout_a vout_n vout_e t47 g48 g49 g50 g51 g52 g53 H_8 hI
              obtain ⟨l_vout_2, b_83, rfl, rfl, rfl, o_84, o_85, o_86, n_87, n_88, n_89, g_90, l_91, v_92, v_93, v_94, v_95, hμ, e⟩ := hI
              rw [impl_SegmentMeans_r2]
              have e := e.trans (p_impl_SegmentMeans_l2_s l_list l_breaks t5 l_vout vfrom t28 (fun (l_vout_2 : List Nat) (t47 : Int) => (p_impl_SegmentMeans_l1 l_list l_breaks μ t5 l_vout_2 (((((([] : List Int) ++ l_breaks) ++ [((l_list.length : Int) : Int)])).getD (t28 : Int).toNat 0)) (t28 + 1))) μ2 l_vout_2 t47)
              have w_96 := o_85.lt
              have w_97 := o_86.lt
              have w_98 := o_84.lt
              have l_99 := g_90.1
              refine Br.intro (fun c_100 => ?_) (fun c_100 => ?_)
              · have e := e.trans (cond_t c_100)
                have c_100' := of_decide_eq_true c_100
                refine Al.intro (fun b_101 H_9 hb_102 hl_103 g_104 o_105 => ?_)
                have o_105 : Own H_9 b_101 (([((p_impl_mean ((((l_list).drop (vfrom : Int).toNat).take ((((((([] : List Int) ++ l_breaks) ++ [((l_list.length : Int) : Int)])).getD (t28 : Int).toNat 0) : Int) - vfrom).toNat))))]).map fF) := o_105
                have l_107 := g_104.1
                have g_108 := g_90.trans g_104
                have l_109 := g_108.1
                have o_110 := o_85.grow g_104
                have w_111 := o_110.lt
                have o_112 := o_86.grow g_104
                have w_113 := o_112.lt
                have o_114 := o_84.grow g_104
                have w_115 := o_114.lt
                have w_132 := o_105.lt
                refine ⟨_, _, o_114.ownB (by first | (simp only [List.length_map, List.length_cons, List.length_nil, List.length_append]; done) | (simp only [List.length_map, List.length_cons, List.length_nil, List.length_append]; omega)) rfl, (isl_rdS (o_105.isL (by first | rfl | omega | (simp only [List.length_set]; done) | (simp only [List.length_set, List.length_replicate]; omega)))), (fun h => by cases h), (by have := most_eq; omega), ?_⟩
                refine Ap.app o_114 rfl rfl (fun b_120 H_10 q_130 hl_116 o_117 k_118 => ?_)
                have o_117 := map_snoc o_117
                have l_121 := k_118.1
                have g_122 := g_108.keep (b := b_83) (by omega) k_118
                have l_123 := g_122.1
                have o_124 := o_110.keep (by omega) k_118
                have w_125 := o_124.lt
                have o_126 := o_112.keep (by omega) k_118
                have w_127 := o_126.lt
                have o_128 := o_105.keep (by omega) k_118
                have w_129 := o_128.lt
                have w_131 := o_117.lt
                rw [show IntKind.wrap .i64 (t47 + 1) = (t47 + 1) from wrap64 (by omega) (by omega)]
                refine impl_SegmentMeans_n2 (μ2 - 1) (by first | omega) ⟨_, _, rfl, (by first | (simp only [List.length_append, List.length_cons, List.length_nil]; done) | (simp only [List.length_append, List.length_cons, List.length_nil]; omega) | (simp only [List.length_append, List.length_cons, List.length_nil, List.length_take, List.length_drop]; omega)), rfl, o_117, o_124, o_126, (by omega), (by omega), (by omega), g_122, (by omega), (by first | omega | (simp only [List.length_append, List.length_cons, List.length_nil, List.length_set]; done) | (simp only [List.length_append, List.length_cons, List.length_nil, List.length_set]; omega)), (by first | omega | (simp only [List.length_append, List.length_cons, List.length_nil, List.length_set]; done) | (simp only [List.length_append, List.length_cons, List.length_nil, List.length_set]; omega)), (by first | omega | (simp only [List.length_append, List.length_cons, List.length_nil, List.length_set]; done) | (simp only [List.length_append, List.length_cons, List.length_nil, List.length_set]; omega)), (by first | omega | (simp only [List.length_append, List.length_cons, List.length_nil, List.length_set]; done) | (simp only [List.length_append, List.length_cons, List.length_nil, List.length_set]; omega)), (by first | omega), (by rw [show μ2 - 1 + 1 = μ2 from by first | omega]; exact e)⟩
              · have e := e.trans (cond_f c_100)
                have c_100' := of_decide_eq_false c_100
                rw [impl_SegmentMeans_x2_2]
                rw [show IntKind.wrap .i64 (t28 + 1) = (t28 + 1) from wrap64 (by omega) (by omega)]
                refine impl_SegmentMeans_n1 (μ - 1) (by first | omega) ⟨_, _, rfl, rfl, rfl, rfl, (by first | rfl | omega | (simp only [List.length_set]; done) | (simp only [List.length_set, List.length_replicate]; omega)), rfl, o_84, o_85, o_86, (by omega), (by omega), (by omega), g_90, (by omega), (by first | omega | (simp only [List.length_append, List.length_cons, List.length_nil, List.length_set]; done) | (simp only [List.length_append, List.length_cons, List.length_nil, List.length_set]; omega)), (by first | omega | (simp only [List.length_append, List.length_cons, List.length_nil, List.length_set]; done) | (simp only [List.length_append, List.length_cons, List.length_nil, List.length_set]; omega)), (by first | omega | (simp only [List.length_append, List.length_cons, List.length_nil, List.length_set]; done) | (simp only [List.length_append, List.length_cons, List.length_nil, List.length_set]; omega)), (by first | omega | (simp only [List.length_append, List.length_cons, List.length_nil, List.length_set]; done) | (simp only [List.length_append, List.length_cons, List.length_nil, List.length_set]; omega)), (by first | omega | (simp only [List.length_append, List.length_cons, List.length_nil, List.length_set]; done) | (simp only [List.length_append, List.length_cons, List.length_nil, List.length_set]; omega)), (by first | omega), (by rw [show μ - 1 + 1 = μ from by first | omega]; exact e)⟩
        · have e := e.trans (cond_f c_80)
          have c_80' := of_decide_eq_false c_80
          rw [impl_SegmentMeans_x1_0]
          refine T_impl_finiteList_i ⟨_, (o_63.isL (by first | rfl | omega | (simp only [List.length_set]; done) | (simp only [List.length_set, List.length_replicate]; omega))), (by first | omega | (simp only [List.length_set, List.length_replicate, List.length_append, List.length_cons, List.length_nil, List.length_take, List.length_drop, marks_length]; done) | (simp only [List.length_set, List.length_replicate, List.length_append, List.length_cons, List.length_nil, List.length_take, List.length_drop, marks_length]; omega)), (fun H_11 g_137 => ?_)⟩
          have l_139 := g_137.1
          have g_140 := g_69.trans g_137
          have l_141 := g_140.1
          have o_142 := o_64.grow g_137
          have w_143 := o_142.lt
          have o_144 := o_65.grow g_137
          have w_145 := o_144.lt
          have o_146 := o_63.grow g_137
          have w_147 := o_146.lt
          refine Br.intro (fun c_138 => ?_) (fun c_138 => ?_)
          · have e := e.trans (cond_t c_138)
            rw [e] at hk
            exact hk _ _ _ H_11 g_140 (o_146.ownS (by first | rfl | omega | (simp only [List.length_set]; done) | (simp only [List.length_set, List.length_replicate]; omega)) (by omega))
          · have e := e.trans (cond_f c_138)
            rw [e] at hk
            exact hk _ _ _ H_11 g_140 (OwnS.nil _ _ _ _)
theorem impl_SegmentMeans_ok : FnOk Try.prog 26 S_impl_SegmentMeans := by
  refine FnOk.body mix_ok E_impl_SegmentMeans_ok Try.func26 rfl (by kernel_rfl) (by kernel_rfl) ?_ ?_ ?_ ?_ ?_
  · intro args H K K' h hk
    simp only [S_impl_SegmentMeans] at *
    unfold F_impl_SegmentMeans at *
    split at hk
    · obtain ⟨l_list, l_breaks, i_list, i_breaks, bd_155, bd_156, k⟩ := hk
      exact ⟨l_list, l_breaks, i_list, i_breaks, bd_155, bd_156, (fun r1_a r1_n r1_e H' gg ow0 => h _ _ (k r1_a r1_n r1_e H' gg ow0))⟩
    · exact hk.elim
  · intro hq; cases hq
  · intro args H K hk
    simp only [S_impl_SegmentMeans] at *
    unfold F_impl_SegmentMeans at *
    split at hk
    · obtain ⟨l_list, l_breaks, i_list, i_breaks, bd_155, bd_156, k⟩ := hk
      exact liveS fun a n e H1 g o => ⟨_, _, k a n e H1 g o⟩
    · exact hk.elim
  · intro _ args H K hk
    simp only [S_impl_SegmentMeans] at *
    unfold F_impl_SegmentMeans at *
    split at hk
    · obtain ⟨l_list, l_breaks, i_list, i_breaks, bd_155, bd_156, k⟩ := hk
      exact ⟨l_list, l_breaks, i_list, i_breaks, bd_155, bd_156, (fun r1_a r1_n r1_e H' gg ow0 => ⟨gg, k r1_a r1_n r1_e H' gg ow0⟩)⟩
    · exact hk.elim
  · have mm := @impl_SegmentMeans_main
    revert mm
    generalize bodyK Try.prog E_impl_SegmentMeans Try.f26 = Q
    intro mm args H K hk
    simp only [S_impl_SegmentMeans] at *
    unfold F_impl_SegmentMeans at *
    split at hk
    · exact mm _ _ _ _ _ _ H K hk
    · exact hk.elim
def p_laws_sameFloat (a : Nat) (b : Nat) : Bool := ((bif !(feq .f64 a a) then (bif !(feq .f64 a a) then !(feq .f64 b b) else false) else (bif !(feq .f64 b b) then (bif !(feq .f64 a a) then !(feq .f64 b b) else false) else (bif feq .f64 a 0 then (bif feq .f64 b 0 then (flt .f64 0 (fdiv .f64 4607182418800017408 a)) == (flt .f64 0 (fdiv .f64 4607182418800017408 b)) else feq .f64 a b) else feq .f64 a b))))
theorem p_laws_sameFloat_eq (a : Nat) (b : Nat) : p_laws_sameFloat a b = ((bif !(feq .f64 a a) then (bif !(feq .f64 a a) then !(feq .f64 b b) else false) else (bif !(feq .f64 b b) then (bif !(feq .f64 a a) then !(feq .f64 b b) else false) else (bif feq .f64 a 0 then (bif feq .f64 b 0 then (flt .f64 0 (fdiv .f64 4607182418800017408 a)) == (flt .f64 0 (fdiv .f64 4607182418800017408 b)) else feq .f64 a b) else feq .f64 a b)))) := rfl
def T_laws_sameFloat (a : Nat) (b : Nat) (H : AHeap) (K : Bool → AHeap → Prop) : Prop := K (p_laws_sameFloat a b) H

theorem T_laws_sameFloat_i {a : Nat} {b : Nat} {H : AHeap} {K : Bool → AHeap → Prop} (h : K (p_laws_sameFloat a b) H) : T_laws_sameFloat a b H K := h
/-! laws_sameFloat: function 18 -/
def E_laws_sameFloat : Env := envOf []
def F_laws_sameFloat : List Value → AHeap → (Value → AHeap → Prop) → Prop
  | [.float .f64 a, .float .f64 b], H, K => T_laws_sameFloat a b H fun (r1 : Bool) (H' : AHeap) => K (.bool r1) H'
  | _, _, _ => False
def S_laws_sameFloat : FSpec := { F := F_laws_sameFloat, quiet := true, tame := false }
theorem laws_sameFloat_vc (a : Nat) (b : Nat) (H : AHeap) (K : Value → AHeap → Prop) : bodyK Try.prog E_laws_sameFloat Try.f18 [.float .f64 a, .float .f64 b] H K =
  (Br (!(feq .f64 a a)) (Br (!(feq .f64 a a)) (K (.bool (!(feq .f64 b b))) H) (K (.bool false) H)) (Br (!(feq .f64 b b)) (Br (!(feq .f64 a a)) (K (.bool (!(feq .f64 b b))) H) (K (.bool false) H)) (Br (feq .f64 a 0) (Br (feq .f64 b 0) (K (.bool ((flt .f64 0 (fdiv .f64 4607182418800017408 a)) == (flt .f64 0 (fdiv .f64 4607182418800017408 b)))) H) (K (.bool (feq .f64 a b)) H)) (K (.bool (feq .f64 a b)) H)))) := by kernel_rfl
theorem E_laws_sameFloat_ok : ∀ g, FnOk Try.prog g (E_laws_sameFloat g) := FnOk.envOf (by
  intro x hx; cases hx)
set_option maxHeartbeats 1000000 in
theorem laws_sameFloat_main (a : Nat) (b : Nat) (H : AHeap) (K : Value → AHeap → Prop) (h : T_laws_sameFloat a b H fun (r1 : Bool) (H' : AHeap) => K (.bool r1) H') : bodyK Try.prog E_laws_sameFloat Try.f18 [.float .f64 a, .float .f64 b] H K := by
  rw [laws_sameFloat_vc]
  unfold T_laws_sameFloat p_laws_sameFloat at h
  repeat' (first | exact h | (exfalso; simp_all; done) | (refine ⟨by decide, ?_⟩) | (refine Br.intro (fun hb => ?_) (fun hb => ?_) <;> (try simp only [hb, cond_true, cond_false, Bool.not_true, Bool.not_false] at h)))
theorem laws_sameFloat_ok : FnOk Try.prog 18 S_laws_sameFloat := by
  refine FnOk.body mix_ok E_laws_sameFloat_ok Try.func18 rfl (by kernel_rfl) (by kernel_rfl) ?_ ?_ ?_ ?_ ?_
  · intro args H K K' h hk
    simp only [S_laws_sameFloat] at *
    unfold F_laws_sameFloat at *
    split at hk
    · have k := hk
      exact h _ _ k
    · exact hk.elim
  · intro _ args H K hk
    simp only [S_laws_sameFloat] at *
    unfold F_laws_sameFloat at *
    split at hk
    · have k := hk
      exact ⟨_, k, fun K' k' => k'⟩
    · exact hk.elim
  · intro args H K hk
    simp only [S_laws_sameFloat] at *
    unfold F_laws_sameFloat at *
    split at hk
    · have k := hk
      exact ⟨_, _, k⟩
    · exact hk.elim
  · intro hq; cases hq
  · have mm := @laws_sameFloat_main
    revert mm
    generalize bodyK Try.prog E_laws_sameFloat Try.f18 = Q
    intro mm args H K hk
    simp only [S_laws_sameFloat] at *
    unfold F_laws_sameFloat at *
    split at hk
    · exact mm _ _ H K hk
    · exact hk.elim
def p_laws_eqFloat32S_l1 (l_a : List Nat) (l_b : List Nat) : Nat → Bool → Int → Bool
  | 0, _, _ => false
  | μ + 1, t4, i => (bif decide ((i : Int) < (l_a.length : Int)) then (bif !((p_laws_sameFloat (fwide (((l_a).getD (i : Int).toNat 0))) (fwide (((l_b).getD (i : Int).toNat 0))))) then false else (p_laws_eqFloat32S_l1 l_a l_b μ t4 (i + 1))) else true)
theorem p_laws_eqFloat32S_l1_s (l_a : List Nat) (l_b : List Nat) (μ : Nat) (t4 : Bool) (i : Int) : p_laws_eqFloat32S_l1 l_a l_b (μ + 1) t4 i = (bif decide ((i : Int) < (l_a.length : Int)) then (bif !((p_laws_sameFloat (fwide (((l_a).getD (i : Int).toNat 0))) (fwide (((l_b).getD (i : Int).toNat 0))))) then false else (p_laws_eqFloat32S_l1 l_a l_b μ t4 (i + 1))) else true) := rfl
def p_laws_eqFloat32S (l_a : List Nat) (l_b : List Nat) : Bool := ((bif ((l_a.length : Int) : Int) != (l_b.length : Int) then false else (p_laws_eqFloat32S_l1 l_a l_b (Int.toNat ((l_a.length : Int) - (0 : Int)) + 1) false (0 : Int))))
theorem p_laws_eqFloat32S_eq (l_a : List Nat) (l_b : List Nat) : p_laws_eqFloat32S l_a l_b = ((bif ((l_a.length : Int) : Int) != (l_b.length : Int) then false else (p_laws_eqFloat32S_l1 l_a l_b (Int.toNat ((l_a.length : Int) - (0 : Int)) + 1) false (0 : Int)))) := rfl
def T_laws_eqFloat32S (a_a : Option Addr) (a_n : Nat) (a_e : Nat) (b_a : Option Addr) (b_n : Nat) (b_e : Nat) (H : AHeap) (K : Bool → AHeap → Prop) : Prop := ∃ (l_a : List Nat), ∃ (l_b : List Nat), IsL fF H a_a a_n l_a ∧ IsL fF H b_a b_n l_b ∧ l_a.length < 1073741824 ∧ l_b.length < 1073741824 ∧ K (p_laws_eqFloat32S l_a l_b) H
theorem T_laws_eqFloat32S_i {a_a : Option Addr} {a_n : Nat} {a_e : Nat} {b_a : Option Addr} {b_n : Nat} {b_e : Nat} {H : AHeap} {K : Bool → AHeap → Prop} (h : ∃ (l_a : List Nat), ∃ (l_b : List Nat), IsL fF H a_a a_n l_a ∧ IsL fF H b_a b_n l_b ∧ l_a.length < 1073741824 ∧ l_b.length < 1073741824 ∧ K (p_laws_eqFloat32S l_a l_b) H) : T_laws_eqFloat32S a_a a_n a_e b_a b_n b_e H K := h
theorem laws_sameFloat_self (y : Nat) : p_laws_sameFloat y y = true := by
  rw [p_laws_sameFloat_eq]
  cases feq .f64 y y <;> simp
theorem laws_eqFloat32S_go (l : List Nat) : ∀ (μ : Nat) (t : Bool) (i : Nat), l.length - i < μ → p_laws_eqFloat32S_l1 l l μ t (i : Int) = true := by
  intro μ
  induction μ with
  | zero => intro t i h; omega
  | succ μ ih =>
    intro t i hm
    rw [p_laws_eqFloat32S_l1_s]
    by_cases h : i < l.length
    · rw [decide_eq_true (show (i : Int) < (l.length : Int) by omega), cond_true, laws_sameFloat_self]
      simp only [Bool.not_true, cond_false]
      exact ih t (i + 1) (by omega)
    · rw [decide_eq_false (show ¬ (i : Int) < (l.length : Int) by omega), cond_false]
theorem laws_eqFloat32S_self (l : List Nat) : p_laws_eqFloat32S l l = true := by
  rw [p_laws_eqFloat32S_eq]
  have h0 : ((l.length : Int) != (l.length : Int)) = false := by simp
  rw [h0, cond_false]
  exact laws_eqFloat32S_go l _ false 0 (by omega)
/-! laws_eqFloat32S: function 19 -/
def E_laws_eqFloat32S : Env := envOf [(18, S_laws_sameFloat)]
def F_laws_eqFloat32S : List Value → AHeap → (Value → AHeap → Prop) → Prop
  | [.slice a_a a_n a_e, .slice b_a b_n b_e], H, K => T_laws_eqFloat32S a_a a_n a_e b_a b_n b_e H fun (r1 : Bool) (H' : AHeap) => K (.bool r1) H'
  | _, _, _ => False
def S_laws_eqFloat32S : FSpec := { F := F_laws_eqFloat32S, quiet := true, tame := false }
theorem laws_eqFloat32S_vc (a_a : Option Addr) (a_n : Nat) (a_e : Nat) (b_a : Option Addr) (b_n : Nat) (b_e : Nat) (H : AHeap) (K : Value → AHeap → Prop) : bodyK Try.prog E_laws_eqFloat32S Try.f19 [.slice a_a a_n a_e, .slice b_a b_n b_e] H K =
  (Br (((a_n : Int) : Int) != (b_n : Int)) (K (.bool false) H) (loopK (exK Try.prog E_laws_eqFloat32S (cl (cl (cr (cl (cr (cr (bodyC Try.f19)))))))) [.slice a_a a_n a_e, .slice b_a b_n b_e, undef, undef, .bool false, .int .i64 0, .slice a_a a_n a_e, .int .i64 (a_n : Int), .slice b_a b_n b_e, .int .i64 (b_n : Int), .bool (((a_n : Int) : Int) != (b_n : Int)), undef, undef, undef, undef, undef, undef, undef, undef, undef, undef, undef, undef, undef, undef, undef, undef, undef, undef] H (blockQ 0 (seqQ (exK Try.prog E_laws_eqFloat32S (cr (cr (cr (bodyC Try.f19))))) (retK Try.prog Try.f19 K))))) := by kernel_rfl
theorem laws_eqFloat32S_r1 (a_a : Option Addr) (a_e : Nat) (a_n : Nat) (b_a : Option Addr) (b_e : Nat) (b_n : Nat) (t4 : Bool) (i : Int) (g11 g12 g13 g14 g15 g16 g17 g18 g19 g20 g21 g22 g23 g24 g25 g26 g27 g28 : Value) (H : AHeap) (R : Post) : exK Try.prog E_laws_eqFloat32S (cl (cl (cr (cl (cr (cr (bodyC Try.f19))))))) [.slice a_a a_n a_e, .slice b_a b_n b_e, undef, undef, .bool t4, .int .i64 i, .slice a_a a_n a_e, .int .i64 (a_n : Int), .slice b_a b_n b_e, .int .i64 (b_n : Int), .bool (((a_n : Int) : Int) != (b_n : Int)), g11, g12, g13, g14, g15, g16, g17, g18, g19, g20, g21, g22, g23, g24, g25, g26, g27, g28] H R =
  (Br (decide ((i : Int) < (a_n : Int))) ((0 : Int) ≤ i ∧ i < (a_n : Int) ∧ ∃ b1 f1, (a_a : Option Addr) = some ⟨b1, f1, none⟩ ∧ ∃ x1 : Nat,  rdC H b1 (f1 + (i : Int).toNat * 1) = some (.float .f32 x1) ∧ (0 : Int) ≤ i ∧ i < (b_n : Int) ∧ ∃ b2 f2, (b_a : Option Addr) = some ⟨b2, f2, none⟩ ∧ ∃ x2 : Nat,  rdC H b2 (f2 + (i : Int).toNat * 1) = some (.float .f32 x2) ∧ T_laws_sameFloat (fwide x1) (fwide x2) H fun (r1 : Bool) (H1 : AHeap) => Br (!r1) (R .ret [.slice a_a a_n a_e, .slice b_a b_n b_e, undef, undef, .bool false, .int .i64 i, .slice a_a a_n a_e, .int .i64 (a_n : Int), .slice b_a b_n b_e, .int .i64 (b_n : Int), .bool (((a_n : Int) : Int) != (b_n : Int)), .int .i64 i, .slice a_a a_n a_e, .int .i64 (a_n : Int), .bool (decide ((i : Int) < (a_n : Int))), g15, g16, .slice a_a a_n a_e, .int .i64 i, .pointer (some ⟨b1, f1 + (i : Int).toNat * 1, none⟩), .float .f32 x1, .float .f64 (fwide x1), .slice b_a b_n b_e, .int .i64 i, .pointer (some ⟨b2, f2 + (i : Int).toNat * 1, none⟩), .float .f32 x2, .float .f64 (fwide x2), .bool r1, .bool (!r1)] H1) (R .normal [.slice a_a a_n a_e, .slice b_a b_n b_e, undef, undef, .bool t4, .int .i64 (IntKind.wrap .i64 (i + 1)), .slice a_a a_n a_e, .int .i64 (a_n : Int), .slice b_a b_n b_e, .int .i64 (b_n : Int), .bool (((a_n : Int) : Int) != (b_n : Int)), .int .i64 i, .slice a_a a_n a_e, .int .i64 (a_n : Int), .bool (decide ((i : Int) < (a_n : Int))), .int .i64 i, .int .i64 (IntKind.wrap .i64 (i + 1)), .slice a_a a_n a_e, .int .i64 i, .pointer (some ⟨b1, f1 + (i : Int).toNat * 1, none⟩), .float .f32 x1, .float .f64 (fwide x1), .slice b_a b_n b_e, .int .i64 i, .pointer (some ⟨b2, f2 + (i : Int).toNat * 1, none⟩), .float .f32 x2, .float .f64 (fwide x2), .bool r1, .bool (!r1)] H1)) (R (.exit 0) [.slice a_a a_n a_e, .slice b_a b_n b_e, undef, undef, .bool t4, .int .i64 i, .slice a_a a_n a_e, .int .i64 (a_n : Int), .slice b_a b_n b_e, .int .i64 (b_n : Int), .bool (((a_n : Int) : Int) != (b_n : Int)), .int .i64 i, .slice a_a a_n a_e, .int .i64 (a_n : Int), .bool (decide ((i : Int) < (a_n : Int))), g15, g16, g17, g18, g19, g20, g21, g22, g23, g24, g25, g26, g27, g28] H)) := by kernel_rfl
def laws_eqFloat32S_I1 (a_a : Option Addr) (a_e : Nat) (a_n : Nat) (b_a : Option Addr) (b_e : Nat) (b_n : Nat) (Inv : Nat → Bool → Int → AHeap → Prop) : Nat → List Value → AHeap → Prop := fun μ tm H => ∃ (t4 : Bool), ∃ (i : Int), ∃ g11 g12 g13 g14 g15 g16 g17 g18 g19 g20 g21 g22 g23 g24 g25 g26 g27 g28, tm = [.slice a_a a_n a_e, .slice b_a b_n b_e, undef, undef, .bool t4, .int .i64 i, .slice a_a a_n a_e, .int .i64 (a_n : Int), .slice b_a b_n b_e, .int .i64 (b_n : Int), .bool (((a_n : Int) : Int) != (b_n : Int)), g11, g12, g13, g14, g15, g16, g17, g18, g19, g20, g21, g22, g23, g24, g25, g26, g27, g28] ∧ Inv μ t4 i H
theorem laws_eqFloat32S_L1 (a_a : Option Addr) (a_e : Nat) (a_n : Nat) (b_a : Option Addr) (b_e : Nat) (b_n : Nat) {Q : Post} (Inv : Nat → Bool → Int → AHeap → Prop) (ν : Nat) (t4 : Bool) (i : Int) (g11 g12 g13 g14 g15 g16 g17 g18 g19 g20 g21 g22 g23 g24 g25 g26 g27 g28 : Value) (H : AHeap) (h0 : Inv ν t4 i H)
    (hs : ∀ (μ : Nat) (t4 : Bool) (i : Int) (g11 g12 g13 g14 g15 g16 g17 g18 g19 g20 g21 g22 g23 g24 g25 g26 g27 g28 : Value) (H : AHeap), Inv μ t4 i H → exK Try.prog E_laws_eqFloat32S (cl (cl (cr (cl (cr (cr (bodyC Try.f19))))))) [.slice a_a a_n a_e, .slice b_a b_n b_e, undef, undef, .bool t4, .int .i64 i, .slice a_a a_n a_e, .int .i64 (a_n : Int), .slice b_a b_n b_e, .int .i64 (b_n : Int), .bool (((a_n : Int) : Int) != (b_n : Int)), g11, g12, g13, g14, g15, g16, g17, g18, g19, g20, g21, g22, g23, g24, g25, g26, g27, g28] H (loopQ (laws_eqFloat32S_I1 a_a a_e a_n b_a b_e b_n Inv) μ Q)) : loopK (exK Try.prog E_laws_eqFloat32S (cl (cl (cr (cl (cr (cr (bodyC Try.f19)))))))) [.slice a_a a_n a_e, .slice b_a b_n b_e, undef, undef, .bool t4, .int .i64 i, .slice a_a a_n a_e, .int .i64 (a_n : Int), .slice b_a b_n b_e, .int .i64 (b_n : Int), .bool (((a_n : Int) : Int) != (b_n : Int)), g11, g12, g13, g14, g15, g16, g17, g18, g19, g20, g21, g22, g23, g24, g25, g26, g27, g28] H Q :=
  ⟨laws_eqFloat32S_I1 a_a a_e a_n b_a b_e b_n Inv, ν, ⟨t4, i, g11, g12, g13, g14, g15, g16, g17, g18, g19, g20, g21, g22, g23, g24, g25, g26, g27, g28, rfl, h0⟩, fun μ tm H h => by obtain ⟨t4, i, g11, g12, g13, g14, g15, g16, g17, g18, g19, g20, g21, g22, g23, g24, g25, g26, g27, g28, rfl, hI⟩ := h; exact hs μ t4 i g11 g12 g13 g14 g15 g16 g17 g18 g19 g20 g21 g22 g23 g24 g25 g26 g27 g28 H hI⟩
theorem laws_eqFloat32S_n1 {a_a : Option Addr} {a_e : Nat} {a_n : Nat} {b_a : Option Addr} {b_e : Nat} {b_n : Nat} {Q : Post} {Inv : Nat → Bool → Int → AHeap → Prop} {μ : Nat} (μ' : Nat) {t4 : Bool} {i : Int} {g11 g12 g13 g14 g15 g16 g17 g18 g19 g20 g21 g22 g23 g24 g25 g26 g27 g28 : Value} {H : AHeap} (hm : μ' < μ) (hI : Inv μ' t4 i H) : loopQ (laws_eqFloat32S_I1 a_a a_e a_n b_a b_e b_n Inv) μ Q .normal [.slice a_a a_n a_e, .slice b_a b_n b_e, undef, undef, .bool t4, .int .i64 i, .slice a_a a_n a_e, .int .i64 (a_n : Int), .slice b_a b_n b_e, .int .i64 (b_n : Int), .bool (((a_n : Int) : Int) != (b_n : Int)), g11, g12, g13, g14, g15, g16, g17, g18, g19, g20, g21, g22, g23, g24, g25, g26, g27, g28] H := ⟨μ', hm, t4, i, g11, g12, g13, g14, g15, g16, g17, g18, g19, g20, g21, g22, g23, g24, g25, g26, g27, g28, rfl, hI⟩
theorem laws_eqFloat32S_x1_0 (a_a : Option Addr) (a_e : Nat) (a_n : Nat) (b_a : Option Addr) (b_e : Nat) (b_n : Nat) (t4 : Bool) (i : Int) (g11 g12 g13 g14 g15 g16 g17 g18 g19 g20 g21 g22 g23 g24 g25 g26 g27 g28 : Value) (H : AHeap) (K : Value → AHeap → Prop)  {I : Nat → List Value → AHeap → Prop} {μ : Nat} : loopQ I μ (blockQ 0 (seqQ (exK Try.prog E_laws_eqFloat32S (cr (cr (cr (bodyC Try.f19))))) (retK Try.prog Try.f19 K))) (.exit 0) [.slice a_a a_n a_e, .slice b_a b_n b_e, undef, undef, .bool t4, .int .i64 i, .slice a_a a_n a_e, .int .i64 (a_n : Int), .slice b_a b_n b_e, .int .i64 (b_n : Int), .bool (((a_n : Int) : Int) != (b_n : Int)), g11, g12, g13, g14, g15, g16, g17, g18, g19, g20, g21, g22, g23, g24, g25, g26, g27, g28] H =
  (K (.bool true) H) := by kernel_rfl
theorem laws_eqFloat32S_x1_ret (a_a : Option Addr) (a_e : Nat) (a_n : Nat) (b_a : Option Addr) (b_e : Nat) (b_n : Nat) (t4 : Bool) (i : Int) (g11 g12 g13 g14 g15 g16 g17 g18 g19 g20 g21 g22 g23 g24 g25 g26 g27 g28 : Value) (H : AHeap) (K : Value → AHeap → Prop)  {I : Nat → List Value → AHeap → Prop} {μ : Nat} : loopQ I μ (blockQ 0 (seqQ (exK Try.prog E_laws_eqFloat32S (cr (cr (cr (bodyC Try.f19))))) (retK Try.prog Try.f19 K))) .ret [.slice a_a a_n a_e, .slice b_a b_n b_e, undef, undef, .bool t4, .int .i64 i, .slice a_a a_n a_e, .int .i64 (a_n : Int), .slice b_a b_n b_e, .int .i64 (b_n : Int), .bool (((a_n : Int) : Int) != (b_n : Int)), g11, g12, g13, g14, g15, g16, g17, g18, g19, g20, g21, g22, g23, g24, g25, g26, g27, g28] H =
  (K (.bool t4) H) := by kernel_rfl
theorem E_laws_eqFloat32S_ok : ∀ g, FnOk Try.prog g (E_laws_eqFloat32S g) := FnOk.envOf (by
  intro x hx
  simp only [List.mem_cons, List.not_mem_nil, or_false] at hx
  subst hx; exact laws_sameFloat_ok)
set_option maxHeartbeats 1000000 in
theorem laws_eqFloat32S_main (a_a : Option Addr) (a_n : Nat) (a_e : Nat) (b_a : Option Addr) (b_n : Nat) (b_e : Nat) (H : AHeap) (K : Value → AHeap → Prop) (h : T_laws_eqFloat32S a_a a_n a_e b_a b_n b_e H fun (r1 : Bool) (H' : AHeap) => K (.bool r1) H') : bodyK Try.prog E_laws_eqFloat32S Try.f19 [.slice a_a a_n a_e, .slice b_a b_n b_e] H K := by
  rw [laws_eqFloat32S_vc]
  obtain ⟨l_a, l_b, i_a, i_b, bd_13, bd_14, hk⟩ := h
  obtain rfl := i_a.eqn
  obtain rfl := i_b.eqn
  have e : (p_laws_eqFloat32S l_a l_b) = _ := rfl
  have e := e.trans (p_laws_eqFloat32S_eq l_a l_b)
  have g0 := Grow.refl H
  refine Br.intro (fun c_1 => ?_) (fun c_1 => ?_)
  · have e := e.trans (cond_t c_1)
    have c_1' := ine_t c_1
    rw [e] at hk
    exact hk
  · have e := e.trans (cond_f c_1)
    have c_1' := ine_f c_1
    refine laws_eqFloat32S_L1 _ _ _ _ _ _ (fun (μ : Nat) (t4 : Bool) (i : Int) (H_1 : AHeap) => H = H_1 ∧ (0 : Int) ≤ i ∧ i ≤ (l_a.length : Int) ∧ (l_a.length : Int) - i ≤ (μ : Int) ∧ p_laws_eqFloat32S l_a l_b = p_laws_eqFloat32S_l1 l_a l_b (μ + 1) t4 i) (Int.toNat ((l_a.length : Int) - (0 : Int))) _ _ _ _ _ _ _ _ _ _ _ _ _ _ _ _ _ _ _ _ H ?_ ?_
    · exact ⟨rfl, (by first | omega | (simp; done) | (simp; omega)), (by first | omega | (simp; done) | (simp; omega)), (by omega), e⟩
    · intro μ t4 i g11 g12 g13 g14 g15 g16 g17 g18 g19 g20 g21 g22 g23 g24 g25 g26 g27 g28 H_1 hI
      obtain ⟨rfl, v_2, v_3, hμ, e⟩ := hI
      rw [laws_eqFloat32S_r1]
      have e := e.trans (p_laws_eqFloat32S_l1_s l_a l_b μ t4 i)
      have l_4 := g0.1
      refine Br.intro (fun c_5 => ?_) (fun c_5 => ?_)
      · have e := e.trans (cond_t c_5)
        have c_5' := of_decide_eq_true c_5
        obtain ⟨b_6, f_7, q_8⟩ := ((i_a.grow g0)).pos (by first | omega | (simp only [List.length_set, List.length_replicate, List.length_append, List.length_cons, List.length_nil, List.length_take, List.length_drop, marks_length]; done) | (simp only [List.length_set, List.length_replicate, List.length_append, List.length_cons, List.length_nil, List.length_take, List.length_drop, marks_length]; omega))
        refine ⟨by omega, by omega, b_6, f_7, q_8, ?_⟩
        refine ⟨((l_a).getD (i : Int).toNat 0), (i_a).rd g0 q_8 (by omega) _, ?_⟩
        obtain ⟨b_9, f_10, q_11⟩ := ((i_b.grow g0)).pos (by first | omega | (simp only [List.length_set, List.length_replicate, List.length_append, List.length_cons, List.length_nil, List.length_take, List.length_drop, marks_length]; done) | (simp only [List.length_set, List.length_replicate, List.length_append, List.length_cons, List.length_nil, List.length_take, List.length_drop, marks_length]; omega))
        refine ⟨by omega, by omega, b_9, f_10, q_11, ?_⟩
        refine ⟨((l_b).getD (i : Int).toNat 0), (i_b).rd g0 q_11 (by omega) _, ?_⟩
        refine T_laws_sameFloat_i ?_
        refine Br.intro (fun c_12 => ?_) (fun c_12 => ?_)
        · have e := e.trans (cond_t c_12)
          have c_12n := nf_of_t c_12
          rw [laws_eqFloat32S_x1_ret]
          rw [e] at hk
          exact hk
        · have e := e.trans (cond_f c_12)
          have c_12n := nt_of_f c_12
          rw [show IntKind.wrap .i64 (i + 1) = (i + 1) from wrap64 (by omega) (by omega)]
          refine laws_eqFloat32S_n1 (μ - 1) (by first | omega) ⟨rfl, (by first | omega | (simp only [List.length_append, List.length_cons, List.length_nil, List.length_set]; done) | (simp only [List.length_append, List.length_cons, List.length_nil, List.length_set]; omega)), (by first | omega | (simp only [List.length_append, List.length_cons, List.length_nil, List.length_set]; done) | (simp only [List.length_append, List.length_cons, List.length_nil, List.length_set]; omega)), (by first | omega), (by rw [show μ - 1 + 1 = μ from by first | omega]; exact e)⟩
      · have e := e.trans (cond_f c_5)
        have c_5' := of_decide_eq_false c_5
        rw [laws_eqFloat32S_x1_0]
        rw [e] at hk
        exact hk
theorem laws_eqFloat32S_ok : FnOk Try.prog 19 S_laws_eqFloat32S := by
  refine FnOk.body mix_ok E_laws_eqFloat32S_ok Try.func19 rfl (by kernel_rfl) (by kernel_rfl) ?_ ?_ ?_ ?_ ?_
  · intro args H K K' h hk
    simp only [S_laws_eqFloat32S] at *
    unfold F_laws_eqFloat32S at *
    split at hk
    · obtain ⟨l_a, l_b, i_a, i_b, bd_13, bd_14, k⟩ := hk
      exact ⟨l_a, l_b, i_a, i_b, bd_13, bd_14, h _ _ k⟩
    · exact hk.elim
  · intro _ args H K hk
    simp only [S_laws_eqFloat32S] at *
    unfold F_laws_eqFloat32S at *
    split at hk
    · obtain ⟨l_a, l_b, i_a, i_b, bd_13, bd_14, k⟩ := hk
      exact ⟨_, k, fun K' k' => ⟨l_a, l_b, i_a, i_b, bd_13, bd_14, k'⟩⟩
    · exact hk.elim
  · intro args H K hk
    simp only [S_laws_eqFloat32S] at *
    unfold F_laws_eqFloat32S at *
    split at hk
    · obtain ⟨l_a, l_b, i_a, i_b, bd_13, bd_14, k⟩ := hk
      exact ⟨_, _, k⟩
    · exact hk.elim
  · intro hq; cases hq
  · have mm := @laws_eqFloat32S_main
    revert mm
    generalize bodyK Try.prog E_laws_eqFloat32S Try.f19 = Q
    intro mm args H K hk
    simp only [S_laws_eqFloat32S] at *
    unfold F_laws_eqFloat32S at *
    split at hk
    · exact mm _ _ _ _ _ _ H K hk
    · exact hk.elim
def p_laws_eqInt64S_l1 (l_a : List Int) (l_b : List Int) : Nat → Bool → Int → Bool
  | 0, _, _ => false
  | μ + 1, t4, i => (bif decide ((i : Int) < (l_a.length : Int)) then (bif (((l_a).getD (i : Int).toNat 0) : Int) != ((l_b).getD (i : Int).toNat 0) then false else (p_laws_eqInt64S_l1 l_a l_b μ t4 (i + 1))) else true)
theorem p_laws_eqInt64S_l1_s (l_a : List Int) (l_b : List Int) (μ : Nat) (t4 : Bool) (i : Int) : p_laws_eqInt64S_l1 l_a l_b (μ + 1) t4 i = (bif decide ((i : Int) < (l_a.length : Int)) then (bif (((l_a).getD (i : Int).toNat 0) : Int) != ((l_b).getD (i : Int).toNat 0) then false else (p_laws_eqInt64S_l1 l_a l_b μ t4 (i + 1))) else true) := rfl
def p_laws_eqInt64S (l_a : List Int) (l_b : List Int) : Bool := ((bif ((l_a.length : Int) : Int) != (l_b.length : Int) then false else (p_laws_eqInt64S_l1 l_a l_b (Int.toNat ((l_a.length : Int) - (0 : Int)) + 1) false (0 : Int))))
theorem p_laws_eqInt64S_eq (l_a : List Int) (l_b : List Int) : p_laws_eqInt64S l_a l_b = ((bif ((l_a.length : Int) : Int) != (l_b.length : Int) then false else (p_laws_eqInt64S_l1 l_a l_b (Int.toNat ((l_a.length : Int) - (0 : Int)) + 1) false (0 : Int)))) := rfl
def T_laws_eqInt64S (a_a : Option Addr) (a_n : Nat) (a_e : Nat) (b_a : Option Addr) (b_n : Nat) (b_e : Nat) (H : AHeap) (K : Bool → AHeap → Prop) : Prop := ∃ (l_a : List Int), ∃ (l_b : List Int), IsL fI H a_a a_n l_a ∧ IsL fI H b_a b_n l_b ∧ l_a.length < 1073741824 ∧ l_b.length < 1073741824 ∧ K (p_laws_eqInt64S l_a l_b) H
theorem T_laws_eqInt64S_i {a_a : Option Addr} {a_n : Nat} {a_e : Nat} {b_a : Option Addr} {b_n : Nat} {b_e : Nat} {H : AHeap} {K : Bool → AHeap → Prop} (h : ∃ (l_a : List Int), ∃ (l_b : List Int), IsL fI H a_a a_n l_a ∧ IsL fI H b_a b_n l_b ∧ l_a.length < 1073741824 ∧ l_b.length < 1073741824 ∧ K (p_laws_eqInt64S l_a l_b) H) : T_laws_eqInt64S a_a a_n a_e b_a b_n b_e H K := h
theorem laws_eqInt64S_go (l : List Int) : ∀ (μ : Nat) (t : Bool) (i : Nat), l.length - i < μ → p_laws_eqInt64S_l1 l l μ t (i : Int) = true := by
  intro μ
  induction μ with
  | zero => intro t i h; omega
  | succ μ ih =>
    intro t i hm
    rw [p_laws_eqInt64S_l1_s]
    by_cases h : i < l.length
    · rw [decide_eq_true (show (i : Int) < (l.length : Int) by omega), cond_true]
      simp only [bne_self_eq_false, cond_false]
      exact ih t (i + 1) (by omega)
    · rw [decide_eq_false (show ¬ (i : Int) < (l.length : Int) by omega), cond_false]
theorem laws_eqInt64S_self (l : List Int) : p_laws_eqInt64S l l = true := by
  rw [p_laws_eqInt64S_eq]
  have h0 : ((l.length : Int) != (l.length : Int)) = false := by simp
  rw [h0, cond_false]
  exact laws_eqInt64S_go l _ false 0 (by omega)
/-! laws_eqInt64S: function 27 -/
def E_laws_eqInt64S : Env := envOf []
def F_laws_eqInt64S : List Value → AHeap → (Value → AHeap → Prop) → Prop
  | [.slice a_a a_n a_e, .slice b_a b_n b_e], H, K => T_laws_eqInt64S a_a a_n a_e b_a b_n b_e H fun (r1 : Bool) (H' : AHeap) => K (.bool r1) H'
  | _, _, _ => False
def S_laws_eqInt64S : FSpec := { F := F_laws_eqInt64S, quiet := true, tame := false }
theorem laws_eqInt64S_vc (a_a : Option Addr) (a_n : Nat) (a_e : Nat) (b_a : Option Addr) (b_n : Nat) (b_e : Nat) (H : AHeap) (K : Value → AHeap → Prop) : bodyK Try.prog E_laws_eqInt64S Try.f27 [.slice a_a a_n a_e, .slice b_a b_n b_e] H K =
  (Br (((a_n : Int) : Int) != (b_n : Int)) (K (.bool false) H) (loopK (exK Try.prog E_laws_eqInt64S (cl (cl (cr (cl (cr (cr (bodyC Try.f27)))))))) [.slice a_a a_n a_e, .slice b_a b_n b_e, undef, undef, .bool false, .int .i64 0, .slice a_a a_n a_e, .int .i64 (a_n : Int), .slice b_a b_n b_e, .int .i64 (b_n : Int), .bool (((a_n : Int) : Int) != (b_n : Int)), undef, undef, undef, undef, undef, undef, undef, undef, undef, undef, undef, undef, undef, undef, undef] H (blockQ 0 (seqQ (exK Try.prog E_laws_eqInt64S (cr (cr (cr (bodyC Try.f27))))) (retK Try.prog Try.f27 K))))) := by kernel_rfl
theorem laws_eqInt64S_r1 (a_a : Option Addr) (a_e : Nat) (a_n : Nat) (b_a : Option Addr) (b_e : Nat) (b_n : Nat) (t4 : Bool) (i : Int) (g11 g12 g13 g14 g15 g16 g17 g18 g19 g20 g21 g22 g23 g24 g25 : Value) (H : AHeap) (R : Post) : exK Try.prog E_laws_eqInt64S (cl (cl (cr (cl (cr (cr (bodyC Try.f27))))))) [.slice a_a a_n a_e, .slice b_a b_n b_e, undef, undef, .bool t4, .int .i64 i, .slice a_a a_n a_e, .int .i64 (a_n : Int), .slice b_a b_n b_e, .int .i64 (b_n : Int), .bool (((a_n : Int) : Int) != (b_n : Int)), g11, g12, g13, g14, g15, g16, g17, g18, g19, g20, g21, g22, g23, g24, g25] H R =
  (Br (decide ((i : Int) < (a_n : Int))) ((0 : Int) ≤ i ∧ i < (a_n : Int) ∧ ∃ b1 f1, (a_a : Option Addr) = some ⟨b1, f1, none⟩ ∧ ∃ x1 : Int,  rdC H b1 (f1 + (i : Int).toNat * 1) = some (.int .i64 x1) ∧ (0 : Int) ≤ i ∧ i < (b_n : Int) ∧ ∃ b2 f2, (b_a : Option Addr) = some ⟨b2, f2, none⟩ ∧ ∃ x2 : Int,  rdC H b2 (f2 + (i : Int).toNat * 1) = some (.int .i64 x2) ∧ Br ((x1 : Int) != x2) (R .ret [.slice a_a a_n a_e, .slice b_a b_n b_e, undef, undef, .bool false, .int .i64 i, .slice a_a a_n a_e, .int .i64 (a_n : Int), .slice b_a b_n b_e, .int .i64 (b_n : Int), .bool (((a_n : Int) : Int) != (b_n : Int)), .int .i64 i, .slice a_a a_n a_e, .int .i64 (a_n : Int), .bool (decide ((i : Int) < (a_n : Int))), g15, g16, .slice a_a a_n a_e, .int .i64 i, .pointer (some ⟨b1, f1 + (i : Int).toNat * 1, none⟩), .int .i64 x1, .slice b_a b_n b_e, .int .i64 i, .pointer (some ⟨b2, f2 + (i : Int).toNat * 1, none⟩), .int .i64 x2, .bool ((x1 : Int) != x2)] H) (R .normal [.slice a_a a_n a_e, .slice b_a b_n b_e, undef, undef, .bool t4, .int .i64 (IntKind.wrap .i64 (i + 1)), .slice a_a a_n a_e, .int .i64 (a_n : Int), .slice b_a b_n b_e, .int .i64 (b_n : Int), .bool (((a_n : Int) : Int) != (b_n : Int)), .int .i64 i, .slice a_a a_n a_e, .int .i64 (a_n : Int), .bool (decide ((i : Int) < (a_n : Int))), .int .i64 i, .int .i64 (IntKind.wrap .i64 (i + 1)), .slice a_a a_n a_e, .int .i64 i, .pointer (some ⟨b1, f1 + (i : Int).toNat * 1, none⟩), .int .i64 x1, .slice b_a b_n b_e, .int .i64 i, .pointer (some ⟨b2, f2 + (i : Int).toNat * 1, none⟩), .int .i64 x2, .bool ((x1 : Int) != x2)] H)) (R (.exit 0) [.slice a_a a_n a_e, .slice b_a b_n b_e, undef, undef, .bool t4, .int .i64 i, .slice a_a a_n a_e, .int .i64 (a_n : Int), .slice b_a b_n b_e, .int .i64 (b_n : Int), .bool (((a_n : Int) : Int) != (b_n : Int)), .int .i64 i, .slice a_a a_n a_e, .int .i64 (a_n : Int), .bool (decide ((i : Int) < (a_n : Int))), g15, g16, g17, g18, g19, g20, g21, g22, g23, g24, g25] H)) := by kernel_rfl
def laws_eqInt64S_I1 (a_a : Option Addr) (a_e : Nat) (a_n : Nat) (b_a : Option Addr) (b_e : Nat) (b_n : Nat) (Inv : Nat → Bool → Int → AHeap → Prop) : Nat → List Value → AHeap → Prop := fun μ tm H => ∃ (t4 : Bool), ∃ (i : Int), ∃ g11 g12 g13 g14 g15 g16 g17 g18 g19 g20 g21 g22 g23 g24 g25, tm = [.slice a_a a_n a_e, .slice b_a b_n b_e, undef, undef, .bool t4, .int .i64 i, .slice a_a a_n a_e, .int .i64 (a_n : Int), .slice b_a b_n b_e, .int .i64 (b_n : Int), .bool (((a_n : Int) : Int) != (b_n : Int)), g11, g12, g13, g14, g15, g16, g17, g18, g19, g20, g21, g22, g23, g24, g25] ∧ Inv μ t4 i H
theorem laws_eqInt64S_L1 (a_a : Option Addr) (a_e : Nat) (a_n : Nat) (b_a : Option Addr) (b_e : Nat) (b_n : Nat) {Q : Post} (Inv : Nat → Bool → Int → AHeap → Prop) (ν : Nat) (t4 : Bool) (i : Int) (g11 g12 g13 g14 g15 g16 g17 g18 g19 g20 g21 g22 g23 g24 g25 : Value) (H : AHeap) (h0 : Inv ν t4 i H)
    (hs : ∀ (μ : Nat) (t4 : Bool) (i : Int) (g11 g12 g13 g14 g15 g16 g17 g18 g19 g20 g21 g22 g23 g24 g25 : Value) (H : AHeap), Inv μ t4 i H → exK Try.prog E_laws_eqInt64S (cl (cl (cr (cl (cr (cr (bodyC Try.f27))))))) [.slice a_a a_n a_e, .slice b_a b_n b_e, undef, undef, .bool t4, .int .i64 i, .slice a_a a_n a_e, .int .i64 (a_n : Int), .slice b_a b_n b_e, .int .i64 (b_n : Int), .bool (((a_n : Int) : Int) != (b_n : Int)), g11, g12, g13, g14, g15, g16, g17, g18, g19, g20, g21, g22, g23, g24, g25] H (loopQ (laws_eqInt64S_I1 a_a a_e a_n b_a b_e b_n Inv) μ Q)) : loopK (exK Try.prog E_laws_eqInt64S (cl (cl (cr (cl (cr (cr (bodyC Try.f27)))))))) [.slice a_a a_n a_e, .slice b_a b_n b_e, undef, undef, .bool t4, .int .i64 i, .slice a_a a_n a_e, .int .i64 (a_n : Int), .slice b_a b_n b_e, .int .i64 (b_n : Int), .bool (((a_n : Int) : Int) != (b_n : Int)), g11, g12, g13, g14, g15, g16, g17, g18, g19, g20, g21, g22, g23, g24, g25] H Q :=
  ⟨laws_eqInt64S_I1 a_a a_e a_n b_a b_e b_n Inv, ν, ⟨t4, i, g11, g12, g13, g14, g15, g16, g17, g18, g19, g20, g21, g22, g23, g24, g25, rfl, h0⟩, fun μ tm H h => by obtain ⟨t4, i, g11, g12, g13, g14, g15, g16, g17, g18, g19, g20, g21, g22, g23, g24, g25, rfl, hI⟩ := h; exact hs μ t4 i g11 g12 g13 g14 g15 g16 g17 g18 g19 g20 g21 g22 g23 g24 g25 H hI⟩
theorem laws_eqInt64S_n1 {a_a : Option Addr} {a_e : Nat} {a_n : Nat} {b_a : Option Addr} {b_e : Nat} {b_n : Nat} {Q : Post} {Inv : Nat → Bool → Int → AHeap → Prop} {μ : Nat} (μ' : Nat) {t4 : Bool} {i : Int} {g11 g12 g13 g14 g15 g16 g17 g18 g19 g20 g21 g22 g23 g24 g25 : Value} {H : AHeap} (hm : μ' < μ) (hI : Inv μ' t4 i H) : loopQ (laws_eqInt64S_I1 a_a a_e a_n b_a b_e b_n Inv) μ Q .normal [.slice a_a a_n a_e, .slice b_a b_n b_e, undef, undef, .bool t4, .int .i64 i, .slice a_a a_n a_e, .int .i64 (a_n : Int), .slice b_a b_n b_e, .int .i64 (b_n : Int), .bool (((a_n : Int) : Int) != (b_n : Int)), g11, g12, g13, g14, g15, g16, g17, g18, g19, g20, g21, g22, g23, g24, g25] H := ⟨μ', hm, t4, i, g11, g12, g13, g14, g15, g16, g17, g18, g19, g20, g21, g22, g23, g24, g25, rfl, hI⟩
theorem laws_eqInt64S_x1_0 (a_a : Option Addr) (a_e : Nat) (a_n : Nat) (b_a : Option Addr) (b_e : Nat) (b_n : Nat) (t4 : Bool) (i : Int) (g11 g12 g13 g14 g15 g16 g17 g18 g19 g20 g21 g22 g23 g24 g25 : Value) (H : AHeap) (K : Value → AHeap → Prop)  {I : Nat → List Value → AHeap → Prop} {μ : Nat} : loopQ I μ (blockQ 0 (seqQ (exK Try.prog E_laws_eqInt64S (cr (cr (cr (bodyC Try.f27))))) (retK Try.prog Try.f27 K))) (.exit 0) [.slice a_a a_n a_e, .slice b_a b_n b_e, undef, undef, .bool t4, .int .i64 i, .slice a_a a_n a_e, .int .i64 (a_n : Int), .slice b_a b_n b_e, .int .i64 (b_n : Int), .bool (((a_n : Int) : Int) != (b_n : Int)), g11, g12, g13, g14, g15, g16, g17, g18, g19, g20, g21, g22, g23, g24, g25] H =
  (K (.bool true) H) := by kernel_rfl
theorem laws_eqInt64S_x1_ret (a_a : Option Addr) (a_e : Nat) (a_n : Nat) (b_a : Option Addr) (b_e : Nat) (b_n : Nat) (t4 : Bool) (i : Int) (g11 g12 g13 g14 g15 g16 g17 g18 g19 g20 g21 g22 g23 g24 g25 : Value) (H : AHeap) (K : Value → AHeap → Prop)  {I : Nat → List Value → AHeap → Prop} {μ : Nat} : loopQ I μ (blockQ 0 (seqQ (exK Try.prog E_laws_eqInt64S (cr (cr (cr (bodyC Try.f27))))) (retK Try.prog Try.f27 K))) .ret [.slice a_a a_n a_e, .slice b_a b_n b_e, undef, undef, .bool t4, .int .i64 i, .slice a_a a_n a_e, .int .i64 (a_n : Int), .slice b_a b_n b_e, .int .i64 (b_n : Int), .bool (((a_n : Int) : Int) != (b_n : Int)), g11, g12, g13, g14, g15, g16, g17, g18, g19, g20, g21, g22, g23, g24, g25] H =
  (K (.bool t4) H) := by kernel_rfl
theorem E_laws_eqInt64S_ok : ∀ g, FnOk Try.prog g (E_laws_eqInt64S g) := FnOk.envOf (by
  intro x hx; cases hx)
set_option maxHeartbeats 1000000 in
theorem laws_eqInt64S_main (a_a : Option Addr) (a_n : Nat) (a_e : Nat) (b_a : Option Addr) (b_n : Nat) (b_e : Nat) (H : AHeap) (K : Value → AHeap → Prop) (h : T_laws_eqInt64S a_a a_n a_e b_a b_n b_e H fun (r1 : Bool) (H' : AHeap) => K (.bool r1) H') : bodyK Try.prog E_laws_eqInt64S Try.f27 [.slice a_a a_n a_e, .slice b_a b_n b_e] H K := by
  rw [laws_eqInt64S_vc]
  obtain ⟨l_a, l_b, i_a, i_b, bd_13, bd_14, hk⟩ := h
  obtain rfl := i_a.eqn
  obtain rfl := i_b.eqn
  have e : (p_laws_eqInt64S l_a l_b) = _ := rfl
  have e := e.trans (p_laws_eqInt64S_eq l_a l_b)
  have g0 := Grow.refl H
  refine Br.intro (fun c_1 => ?_) (fun c_1 => ?_)
  · have e := e.trans (cond_t c_1)
    have c_1' := ine_t c_1
    rw [e] at hk
    exact hk
  · have e := e.trans (cond_f c_1)
    have c_1' := ine_f c_1
    refine laws_eqInt64S_L1 _ _ _ _ _ _ (fun (μ : Nat) (t4 : Bool) (i : Int) (H_1 : AHeap) => H = H_1 ∧ (0 : Int) ≤ i ∧ i ≤ (l_a.length : Int) ∧ (l_a.length : Int) - i ≤ (μ : Int) ∧ p_laws_eqInt64S l_a l_b = p_laws_eqInt64S_l1 l_a l_b (μ + 1) t4 i) (Int.toNat ((l_a.length : Int) - (0 : Int))) _ _ _ _ _ _ _ _ _ _ _ _ _ _ _ _ _ H ?_ ?_
    · exact ⟨rfl, (by first | omega | (simp; done) | (simp; omega)), (by first | omega | (simp; done) | (simp; omega)), (by omega), e⟩
    · intro μ t4 i g11 g12 g13 g14 g15 g16 g17 g18 g19 g20 g21 g22 g23 g24 g25 H_1 hI
      obtain ⟨rfl, v_2, v_3, hμ, e⟩ := hI
      rw [laws_eqInt64S_r1]
      have e := e.trans (p_laws_eqInt64S_l1_s l_a l_b μ t4 i)
      have l_4 := g0.1
      refine Br.intro (fun c_5 => ?_) (fun c_5 => ?_)
      · have e := e.trans (cond_t c_5)
        have c_5' := of_decide_eq_true c_5
        obtain ⟨b_6, f_7, q_8⟩ := ((i_a.grow g0)).pos (by first | omega | (simp only [List.length_set, List.length_replicate, List.length_append, List.length_cons, List.length_nil, List.length_take, List.length_drop, marks_length]; done) | (simp only [List.length_set, List.length_replicate, List.length_append, List.length_cons, List.length_nil, List.length_take, List.length_drop, marks_length]; omega))
        refine ⟨by omega, by omega, b_6, f_7, q_8, ?_⟩
        refine ⟨((l_a).getD (i : Int).toNat 0), (i_a).rd g0 q_8 (by omega) _, ?_⟩
        obtain ⟨b_9, f_10, q_11⟩ := ((i_b.grow g0)).pos (by first | omega | (simp only [List.length_set, List.length_replicate, List.length_append, List.length_cons, List.length_nil, List.length_take, List.length_drop, marks_length]; done) | (simp only [List.length_set, List.length_replicate, List.length_append, List.length_cons, List.length_nil, List.length_take, List.length_drop, marks_length]; omega))
        refine ⟨by omega, by omega, b_9, f_10, q_11, ?_⟩
        refine ⟨((l_b).getD (i : Int).toNat 0), (i_b).rd g0 q_11 (by omega) _, ?_⟩
        refine Br.intro (fun c_12 => ?_) (fun c_12 => ?_)
        · have e := e.trans (cond_t c_12)
          have c_12' := ine_t c_12
          rw [laws_eqInt64S_x1_ret]
          rw [e] at hk
          exact hk
        · have e := e.trans (cond_f c_12)
          have c_12' := ine_f c_12
          rw [show IntKind.wrap .i64 (i + 1) = (i + 1) from wrap64 (by omega) (by omega)]
          refine laws_eqInt64S_n1 (μ - 1) (by first | omega) ⟨rfl, (by first | omega | (simp only [List.length_append, List.length_cons, List.length_nil, List.length_set]; done) | (simp only [List.length_append, List.length_cons, List.length_nil, List.length_set]; omega)), (by first | omega | (simp only [List.length_append, List.length_cons, List.length_nil, List.length_set]; done) | (simp only [List.length_append, List.length_cons, List.length_nil, List.length_set]; omega)), (by first | omega), (by rw [show μ - 1 + 1 = μ from by first | omega]; exact e)⟩
      · have e := e.trans (cond_f c_5)
        have c_5' := of_decide_eq_false c_5
        rw [laws_eqInt64S_x1_0]
        rw [e] at hk
        exact hk
theorem laws_eqInt64S_ok : FnOk Try.prog 27 S_laws_eqInt64S := by
  refine FnOk.body mix_ok E_laws_eqInt64S_ok Try.func27 rfl (by kernel_rfl) (by kernel_rfl) ?_ ?_ ?_ ?_ ?_
  · intro args H K K' h hk
    simp only [S_laws_eqInt64S] at *
    unfold F_laws_eqInt64S at *
    split at hk
    · obtain ⟨l_a, l_b, i_a, i_b, bd_13, bd_14, k⟩ := hk
      exact ⟨l_a, l_b, i_a, i_b, bd_13, bd_14, h _ _ k⟩
    · exact hk.elim
  · intro _ args H K hk
    simp only [S_laws_eqInt64S] at *
    unfold F_laws_eqInt64S at *
    split at hk
    · obtain ⟨l_a, l_b, i_a, i_b, bd_13, bd_14, k⟩ := hk
      exact ⟨_, k, fun K' k' => ⟨l_a, l_b, i_a, i_b, bd_13, bd_14, k'⟩⟩
    · exact hk.elim
  · intro args H K hk
    simp only [S_laws_eqInt64S] at *
    unfold F_laws_eqInt64S at *
    split at hk
    · obtain ⟨l_a, l_b, i_a, i_b, bd_13, bd_14, k⟩ := hk
      exact ⟨_, _, k⟩
    · exact hk.elim
  · intro hq; cases hq
  · have mm := @laws_eqInt64S_main
    revert mm
    generalize bodyK Try.prog E_laws_eqInt64S Try.f27 = Q
    intro mm args H K hk
    simp only [S_laws_eqInt64S] at *
    unfold F_laws_eqInt64S at *
    split at hk
    · exact mm _ _ _ _ _ _ H K hk
    · exact hk.elim
def p_laws_markFloat32S_l1 (l_a : List Nat) (k : Int) : Nat → Int → Int → (List Nat) → Int × (List Nat)
  | 0, _, _, _ => (0, [])
  | μ + 1, k_1, i, y1_1 => (bif decide ((i : Int) < (l_a.length : Int)) then (p_laws_markFloat32S_l1 l_a k μ (IntKind.wrap .i64 (k_1 + 1)) (i + 1) (((y1_1).set (i : Int).toNat (FloatKind.nearest .f32 k_1)))) else (k_1, y1_1))
theorem p_laws_markFloat32S_l1_s (l_a : List Nat) (k : Int) (μ : Nat) (k_1 : Int) (i : Int) (y1_1 : List Nat) : p_laws_markFloat32S_l1 l_a k (μ + 1) k_1 i y1_1 = (bif decide ((i : Int) < (l_a.length : Int)) then (p_laws_markFloat32S_l1 l_a k μ (IntKind.wrap .i64 (k_1 + 1)) (i + 1) (((y1_1).set (i : Int).toNat (FloatKind.nearest .f32 k_1)))) else (k_1, y1_1)) := rfl
def p_laws_markFloat32S (l_a : List Nat) (k : Int) : Int × (List Nat) := (p_laws_markFloat32S_l1 l_a k (Int.toNat ((l_a.length : Int) - (0 : Int)) + 1) k (0 : Int) l_a)
theorem p_laws_markFloat32S_eq (l_a : List Nat) (k : Int) : p_laws_markFloat32S l_a k = (p_laws_markFloat32S_l1 l_a k (Int.toNat ((l_a.length : Int) - (0 : Int)) + 1) k (0 : Int) l_a) := rfl
def T_laws_markFloat32S (a_a : Option Addr) (a_n : Nat) (a_e : Nat) (k : Int) (H : AHeap) (K : Int → AHeap → Prop) : Prop := ∃ lo : Nat, ∃ (l_a : List Nat), OwnS fF H lo a_a a_n a_e l_a ∧ l_a.length < 1073741824 ∧ ((∀ H' : AHeap, KeepA a_a H H' → OwnS fF H' lo a_a a_n a_e (marks (FloatKind.nearest .f32) k l_a.length) → K (wk k l_a.length) H'))
theorem T_laws_markFloat32S_i {a_a : Option Addr} {a_n : Nat} {a_e : Nat} {k : Int} {H : AHeap} {K : Int → AHeap → Prop} (h : ∃ lo : Nat, ∃ (l_a : List Nat), OwnS fF H lo a_a a_n a_e l_a ∧ l_a.length < 1073741824 ∧ ((∀ H' : AHeap, KeepA a_a H H' → OwnS fF H' lo a_a a_n a_e (marks (FloatKind.nearest .f32) k l_a.length) → K (wk k l_a.length) H'))) : T_laws_markFloat32S a_a a_n a_e k H K := h
theorem laws_markFloat32S_go (l : List Nat) (k0 : Int) : ∀ (μ : Nat) (k : Int) (i : Nat) (ys : List Nat), ys.length = l.length → i ≤ l.length → l.length - i < μ →
    p_laws_markFloat32S_l1 l k0 μ k (i : Int) ys = (wk k (l.length - i), ys.take i ++ marks (FloatKind.nearest .f32) k (l.length - i)) := by
  intro μ
  induction μ with
  | zero => intro k i ys _ _ h; omega
  | succ μ ih =>
    intro k i ys hy hi hm
    rw [p_laws_markFloat32S_l1_s]
    by_cases h : i < l.length
    · rw [decide_eq_true (show (i : Int) < (l.length : Int) by omega), cond_true, Int.toNat_natCast]
      have := ih (IntKind.wrap .i64 (k + 1)) (i + 1) (ys.set i ((FloatKind.nearest .f32) k)) (by simp [hy]) (by omega) (by omega)
      obtain ⟨d, hd⟩ : ∃ d, l.length - i = d + 1 := ⟨l.length - i - 1, by omega⟩
      rw [show l.length - (i + 1) = d by omega] at this
      rw [hd, wk, marks]
      refine Eq.trans this ?_
      rw [List.take_add_one, List.getElem?_set_self (by omega), List.take_set_of_le (Nat.le_refl i)]
      simp
    · rw [decide_eq_false (show ¬ (i : Int) < (l.length : Int) by omega), cond_false]
      rw [show l.length - i = 0 by omega, wk, marks, List.append_nil, List.take_of_length_le (by omega)]
theorem laws_markFloat32S_val (l : List Nat) (k : Int) : p_laws_markFloat32S l k = (wk k l.length, marks (FloatKind.nearest .f32) k l.length) := by
  rw [p_laws_markFloat32S_eq]
  have := laws_markFloat32S_go l k (Int.toNat ((l.length : Int) - 0) + 1) k 0 l rfl (by omega) (by omega)
  simpa using this
/-! laws_markFloat32S: function 22 -/
def E_laws_markFloat32S : Env := envOf []
def F_laws_markFloat32S : List Value → AHeap → (Value → AHeap → Prop) → Prop
  | [.slice a_a a_n a_e, .int .i64 k], H, K => T_laws_markFloat32S a_a a_n a_e k H fun (r1 : Int) (H' : AHeap) => K (.int .i64 r1) H'
  | _, _, _ => False
def S_laws_markFloat32S : FSpec := { F := F_laws_markFloat32S, quiet := false, tame := false }
theorem laws_markFloat32S_vc (a_a : Option Addr) (a_n : Nat) (a_e : Nat) (k : Int) (H : AHeap) (K : Value → AHeap → Prop) : bodyK Try.prog E_laws_markFloat32S Try.f22 [.slice a_a a_n a_e, .int .i64 k] H K =
  (loopK (exK Try.prog E_laws_markFloat32S (cl (cl (cr (cl (cr (bodyC Try.f22))))))) [.slice a_a a_n a_e, .int .i64 k, undef, undef, .int .i64 0, .int .i64 0, undef, undef, undef, undef, undef, undef, undef, undef, undef, undef, undef, undef, undef, undef] H (blockQ 0 (seqQ (exK Try.prog E_laws_markFloat32S (cr (cr (bodyC Try.f22)))) (retK Try.prog Try.f22 K)))) := by kernel_rfl
theorem laws_markFloat32S_r1 (a_a : Option Addr) (a_e : Nat) (a_n : Nat) (k_1 : Int) (i : Int) (g6 g7 g8 g9 g10 g11 g12 g13 g14 g15 g16 g17 g18 : Value) (H : AHeap) (R : Post) : exK Try.prog E_laws_markFloat32S (cl (cl (cr (cl (cr (bodyC Try.f22)))))) [.slice a_a a_n a_e, .int .i64 k_1, undef, undef, .int .i64 0, .int .i64 i, g6, g7, g8, g9, g10, g11, g12, g13, g14, g15, g16, g17, g18, undef] H R =
  (Br (decide ((i : Int) < (a_n : Int))) ((0 : Int) ≤ i ∧ i < (a_n : Int) ∧ ∃ b1 f1, (a_a : Option Addr) = some ⟨b1, f1, none⟩ ∧ isOwn H b1 ∧ (∃ l, rdN H b1 (f1 + (i : Int).toNat * 1) 1 = some l) ∧ Lt (setC H b1 (f1 + (i : Int).toNat * 1) (.float .f32 (FloatKind.nearest .f32 k_1))) fun H1 => R .normal [.slice a_a a_n a_e, .int .i64 (IntKind.wrap .i64 (k_1 + 1)), undef, undef, .int .i64 0, .int .i64 (IntKind.wrap .i64 (i + 1)), .int .i64 i, .slice a_a a_n a_e, .int .i64 (a_n : Int), .bool (decide ((i : Int) < (a_n : Int))), .int .i64 i, .int .i64 (IntKind.wrap .i64 (i + 1)), .slice a_a a_n a_e, .int .i64 i, .int .i64 k_1, .float .f32 (FloatKind.nearest .f32 k_1), .pointer (some ⟨b1, f1 + (i : Int).toNat * 1, none⟩), .int .i64 k_1, .int .i64 (IntKind.wrap .i64 (k_1 + 1)), undef] H1) (R (.exit 0) [.slice a_a a_n a_e, .int .i64 k_1, undef, undef, .int .i64 0, .int .i64 i, .int .i64 i, .slice a_a a_n a_e, .int .i64 (a_n : Int), .bool (decide ((i : Int) < (a_n : Int))), g10, g11, g12, g13, g14, g15, g16, g17, g18, undef] H)) := by kernel_rfl
def laws_markFloat32S_I1 (a_a : Option Addr) (a_e : Nat) (a_n : Nat) (Inv : Nat → Int → Int → AHeap → Prop) : Nat → List Value → AHeap → Prop := fun μ tm H => ∃ (k_1 : Int), ∃ (i : Int), ∃ g6 g7 g8 g9 g10 g11 g12 g13 g14 g15 g16 g17 g18, tm = [.slice a_a a_n a_e, .int .i64 k_1, undef, undef, .int .i64 0, .int .i64 i, g6, g7, g8, g9, g10, g11, g12, g13, g14, g15, g16, g17, g18, undef] ∧ Inv μ k_1 i H
theorem laws_markFloat32S_L1 (a_a : Option Addr) (a_e : Nat) (a_n : Nat) {Q : Post} (Inv : Nat → Int → Int → AHeap → Prop) (ν : Nat) (k_1 : Int) (i : Int) (g6 g7 g8 g9 g10 g11 g12 g13 g14 g15 g16 g17 g18 : Value) (H : AHeap) (h0 : Inv ν k_1 i H)
    (hs : ∀ (μ : Nat) (k_1 : Int) (i : Int) (g6 g7 g8 g9 g10 g11 g12 g13 g14 g15 g16 g17 g18 : Value) (H : AHeap), Inv μ k_1 i H → exK Try.prog E_laws_markFloat32S (cl (cl (cr (cl (cr (bodyC Try.f22)))))) [.slice a_a a_n a_e, .int .i64 k_1, undef, undef, .int .i64 0, .int .i64 i, g6, g7, g8, g9, g10, g11, g12, g13, g14, g15, g16, g17, g18, undef] H (loopQ (laws_markFloat32S_I1 a_a a_e a_n Inv) μ Q)) : loopK (exK Try.prog E_laws_markFloat32S (cl (cl (cr (cl (cr (bodyC Try.f22))))))) [.slice a_a a_n a_e, .int .i64 k_1, undef, undef, .int .i64 0, .int .i64 i, g6, g7, g8, g9, g10, g11, g12, g13, g14, g15, g16, g17, g18, undef] H Q :=
  ⟨laws_markFloat32S_I1 a_a a_e a_n Inv, ν, ⟨k_1, i, g6, g7, g8, g9, g10, g11, g12, g13, g14, g15, g16, g17, g18, rfl, h0⟩, fun μ tm H h => by obtain ⟨k_1, i, g6, g7, g8, g9, g10, g11, g12, g13, g14, g15, g16, g17, g18, rfl, hI⟩ := h; exact hs μ k_1 i g6 g7 g8 g9 g10 g11 g12 g13 g14 g15 g16 g17 g18 H hI⟩
theorem laws_markFloat32S_n1 {a_a : Option Addr} {a_e : Nat} {a_n : Nat} {Q : Post} {Inv : Nat → Int → Int → AHeap → Prop} {μ : Nat} (μ' : Nat) {k_1 : Int} {i : Int} {g6 g7 g8 g9 g10 g11 g12 g13 g14 g15 g16 g17 g18 : Value} {H : AHeap} (hm : μ' < μ) (hI : Inv μ' k_1 i H) : loopQ (laws_markFloat32S_I1 a_a a_e a_n Inv) μ Q .normal [.slice a_a a_n a_e, .int .i64 k_1, undef, undef, .int .i64 0, .int .i64 i, g6, g7, g8, g9, g10, g11, g12, g13, g14, g15, g16, g17, g18, undef] H := ⟨μ', hm, k_1, i, g6, g7, g8, g9, g10, g11, g12, g13, g14, g15, g16, g17, g18, rfl, hI⟩
theorem laws_markFloat32S_x1_0 (a_a : Option Addr) (a_e : Nat) (a_n : Nat) (k_1 : Int) (i : Int) (g6 g7 g8 g9 g10 g11 g12 g13 g14 g15 g16 g17 g18 : Value) (H : AHeap) (K : Value → AHeap → Prop)  {I : Nat → List Value → AHeap → Prop} {μ : Nat} : loopQ I μ (blockQ 0 (seqQ (exK Try.prog E_laws_markFloat32S (cr (cr (bodyC Try.f22)))) (retK Try.prog Try.f22 K))) (.exit 0) [.slice a_a a_n a_e, .int .i64 k_1, undef, undef, .int .i64 0, .int .i64 i, g6, g7, g8, g9, g10, g11, g12, g13, g14, g15, g16, g17, g18, undef] H =
  (K (.int .i64 k_1) H) := by kernel_rfl
theorem E_laws_markFloat32S_ok : ∀ g, FnOk Try.prog g (E_laws_markFloat32S g) := FnOk.envOf (by
  intro x hx; cases hx)
set_option maxHeartbeats 1000000 in
theorem laws_markFloat32S_main (a_a : Option Addr) (a_n : Nat) (a_e : Nat) (k : Int) (H : AHeap) (K : Value → AHeap → Prop) (h : T_laws_markFloat32S a_a a_n a_e k H fun (r1 : Int) (H' : AHeap) => K (.int .i64 r1) H') : bodyK Try.prog E_laws_markFloat32S Try.f22 [.slice a_a a_n a_e, .int .i64 k] H K := by
  rw [laws_markFloat32S_vc]
  obtain ⟨lo, l_a, i_a, bd_18, hk⟩ := h
  have hk : (∀ H' : AHeap, KeepA a_a H H' → OwnS fF H' lo a_a a_n a_e ((p_laws_markFloat32S l_a k).2) → (fun (r1 : Int) (H' : AHeap) => K (.int .i64 r1) H') ((p_laws_markFloat32S l_a k).1) H') := by rw [laws_markFloat32S_val l_a k]; exact hk
  obtain rfl := i_a.len
  have up_m := i_a.up
  have lo_m := i_a.lo
  have e : (p_laws_markFloat32S l_a k) = _ := rfl
  have e := e.trans (p_laws_markFloat32S_eq l_a k)
  have g0 := KeepA.refl a_a H
  refine laws_markFloat32S_L1 _ _ _ (fun (μ : Nat) (k_1 : Int) (i : Int) (H_1 : AHeap) => ∃ (y1_1 : List Nat), OwnS fF H_1 lo a_a l_a.length a_e y1_1 ∧ y1_1.length = (l_a).length ∧ H.length ≤ H_1.length ∧ KeepA a_a H H_1 ∧ (0 : Int) ≤ i ∧ i ≤ (l_a.length : Int) ∧ (l_a.length : Int) - i ≤ (μ : Int) ∧ p_laws_markFloat32S l_a k = p_laws_markFloat32S_l1 l_a k (μ + 1) k_1 i y1_1) (Int.toNat ((l_a.length : Int) - (0 : Int))) _ _ _ _ _ _ _ _ _ _ _ _ _ _ _ H ?_ ?_
  · exact ⟨_, i_a, (by first | rfl | (simp; done)), (by omega), g0, (by first | omega | (simp; done) | (simp; omega)), (by first | omega | (simp; done) | (simp; omega)), (by omega), e⟩
  · intro μ k_1 i g6 g7 g8 g9 g10 g11 g12 g13 g14 g15 g16 g17 g18 H_1 hI
    obtain ⟨y1_1, r_1, y_2, n_3, g_4, v_5, v_6, hμ, e⟩ := hI
    rw [laws_markFloat32S_r1]
    have e := e.trans (p_laws_markFloat32S_l1_s l_a k μ k_1 i y1_1)
    have l_7 := g_4.1
    refine Br.intro (fun c_8 => ?_) (fun c_8 => ?_)
    · have e := e.trans (cond_t c_8)
      have c_8' := of_decide_eq_true c_8
      obtain ⟨b_9, f_10, q_11⟩ := (r_1.isL).pos (by first | omega | (simp only [List.length_set, List.length_replicate, List.length_append, List.length_cons, List.length_nil, List.length_take, List.length_drop, marks_length]; done) | (simp only [List.length_set, List.length_replicate, List.length_append, List.length_cons, List.length_nil, List.length_take, List.length_drop, marks_length]; omega))
      refine ⟨by omega, by omega, b_9, f_10, q_11, ?_⟩
      refine Lt.setS r_1 q_11 (by first | omega | (simp only [List.length_set]; (first | omega | (simp only [List.length_set, List.length_replicate, List.length_append, List.length_cons, List.length_nil, List.length_take, List.length_drop, marks_length]; done) | (simp only [List.length_set, List.length_replicate, List.length_append, List.length_cons, List.length_nil, List.length_take, List.length_drop, marks_length]; omega)))) (fun H_2 hl_12 o_14 k_13 => ?_)
      have l_15 := k_13.1
      have g_16 := g_4.transA k_13
      have l_17 := g_16.1
      rw [show IntKind.wrap .i64 (i + 1) = (i + 1) from wrap64 (by omega) (by omega)]
      refine laws_markFloat32S_n1 (μ - 1) (by first | omega) ⟨_, o_14, (by first | assumption | omega | (simp only [List.length_set]; first | rfl | assumption | omega)), (by omega), g_16, (by first | omega | (simp only [List.length_append, List.length_cons, List.length_nil, List.length_set]; done) | (simp only [List.length_append, List.length_cons, List.length_nil, List.length_set]; omega)), (by first | omega | (simp only [List.length_append, List.length_cons, List.length_nil, List.length_set]; done) | (simp only [List.length_append, List.length_cons, List.length_nil, List.length_set]; omega)), (by first | omega), (by rw [show μ - 1 + 1 = μ from by first | omega]; exact e)⟩
    · have e := e.trans (cond_f c_8)
      have c_8' := of_decide_eq_false c_8
      rw [laws_markFloat32S_x1_0]
      rw [e] at hk
      exact hk H_1 g_4 r_1
theorem laws_markFloat32S_ok : FnOk Try.prog 22 S_laws_markFloat32S := by
  refine FnOk.body mix_ok E_laws_markFloat32S_ok Try.func22 rfl (by kernel_rfl) (by kernel_rfl) ?_ ?_ ?_ ?_ ?_
  · intro args H K K' h hk
    simp only [S_laws_markFloat32S] at *
    unfold F_laws_markFloat32S at *
    split at hk
    · obtain ⟨lo, l_a, i_a, bd_18, k⟩ := hk
      exact ⟨lo, l_a, i_a, bd_18, (fun H' gg ow => h _ _ (k H' gg ow))⟩
    · exact hk.elim
  · intro hq; cases hq
  · intro args H K hk
    simp only [S_laws_markFloat32S] at *
    unfold F_laws_markFloat32S at *
    split at hk
    · obtain ⟨lo, l_a, i_a, bd_18, k⟩ := hk
      exact (OwnS.put i_a _ (by rw [marks_length])).elim fun H1 h => ⟨_, _, k H1 h.1 h.2⟩
    · exact hk.elim
  · intro hq; cases hq
  · have mm := @laws_markFloat32S_main
    revert mm
    generalize bodyK Try.prog E_laws_markFloat32S Try.f22 = Q
    intro mm args H K hk
    simp only [S_laws_markFloat32S] at *
    unfold F_laws_markFloat32S at *
    split at hk
    · exact mm _ _ _ _ H K hk
    · exact hk.elim
def p_laws_markInt64S_l1 (l_a : List Int) (k : Int) : Nat → Int → Int → (List Int) → Int × (List Int)
  | 0, _, _, _ => (0, [])
  | μ + 1, k_1, i, y1_1 => (bif decide ((i : Int) < (l_a.length : Int)) then (p_laws_markInt64S_l1 l_a k μ (IntKind.wrap .i64 (k_1 + 1)) (i + 1) (((y1_1).set (i : Int).toNat (k_1 : Int)))) else (k_1, y1_1))
theorem p_laws_markInt64S_l1_s (l_a : List Int) (k : Int) (μ : Nat) (k_1 : Int) (i : Int) (y1_1 : List Int) : p_laws_markInt64S_l1 l_a k (μ + 1) k_1 i y1_1 = (bif decide ((i : Int) < (l_a.length : Int)) then (p_laws_markInt64S_l1 l_a k μ (IntKind.wrap .i64 (k_1 + 1)) (i + 1) (((y1_1).set (i : Int).toNat (k_1 : Int)))) else (k_1, y1_1)) := rfl
def p_laws_markInt64S (l_a : List Int) (k : Int) : Int × (List Int) := (p_laws_markInt64S_l1 l_a k (Int.toNat ((l_a.length : Int) - (0 : Int)) + 1) k (0 : Int) l_a)
theorem p_laws_markInt64S_eq (l_a : List Int) (k : Int) : p_laws_markInt64S l_a k = (p_laws_markInt64S_l1 l_a k (Int.toNat ((l_a.length : Int) - (0 : Int)) + 1) k (0 : Int) l_a) := rfl
def T_laws_markInt64S (a_a : Option Addr) (a_n : Nat) (a_e : Nat) (k : Int) (H : AHeap) (K : Int → AHeap → Prop) : Prop := ∃ lo : Nat, ∃ (l_a : List Int), OwnS fI H lo a_a a_n a_e l_a ∧ l_a.length < 1073741824 ∧ ((∀ H' : AHeap, KeepA a_a H H' → OwnS fI H' lo a_a a_n a_e (marks (fun n : Int => n) k l_a.length) → K (wk k l_a.length) H'))
theorem T_laws_markInt64S_i {a_a : Option Addr} {a_n : Nat} {a_e : Nat} {k : Int} {H : AHeap} {K : Int → AHeap → Prop} (h : ∃ lo : Nat, ∃ (l_a : List Int), OwnS fI H lo a_a a_n a_e l_a ∧ l_a.length < 1073741824 ∧ ((∀ H' : AHeap, KeepA a_a H H' → OwnS fI H' lo a_a a_n a_e (marks (fun n : Int => n) k l_a.length) → K (wk k l_a.length) H'))) : T_laws_markInt64S a_a a_n a_e k H K := h
theorem laws_markInt64S_go (l : List Int) (k0 : Int) : ∀ (μ : Nat) (k : Int) (i : Nat) (ys : List Int), ys.length = l.length → i ≤ l.length → l.length - i < μ →
    p_laws_markInt64S_l1 l k0 μ k (i : Int) ys = (wk k (l.length - i), ys.take i ++ marks (fun n : Int => n) k (l.length - i)) := by
  intro μ
  induction μ with
  | zero => intro k i ys _ _ h; omega
  | succ μ ih =>
    intro k i ys hy hi hm
    rw [p_laws_markInt64S_l1_s]
    by_cases h : i < l.length
    · rw [decide_eq_true (show (i : Int) < (l.length : Int) by omega), cond_true, Int.toNat_natCast]
      have := ih (IntKind.wrap .i64 (k + 1)) (i + 1) (ys.set i ((fun n : Int => n) k)) (by simp [hy]) (by omega) (by omega)
      obtain ⟨d, hd⟩ : ∃ d, l.length - i = d + 1 := ⟨l.length - i - 1, by omega⟩
      rw [show l.length - (i + 1) = d by omega] at this
      rw [hd, wk, marks]
      refine Eq.trans this ?_
      rw [List.take_add_one, List.getElem?_set_self (by omega), List.take_set_of_le (Nat.le_refl i)]
      simp
    · rw [decide_eq_false (show ¬ (i : Int) < (l.length : Int) by omega), cond_false]
      rw [show l.length - i = 0 by omega, wk, marks, List.append_nil, List.take_of_length_le (by omega)]
theorem laws_markInt64S_val (l : List Int) (k : Int) : p_laws_markInt64S l k = (wk k l.length, marks (fun n : Int => n) k l.length) := by
  rw [p_laws_markInt64S_eq]
  have := laws_markInt64S_go l k (Int.toNat ((l.length : Int) - 0) + 1) k 0 l rfl (by omega) (by omega)
  simpa using this
/-! laws_markInt64S: function 28 -/
def E_laws_markInt64S : Env := envOf []
def F_laws_markInt64S : List Value → AHeap → (Value → AHeap → Prop) → Prop
  | [.slice a_a a_n a_e, .int .i64 k], H, K => T_laws_markInt64S a_a a_n a_e k H fun (r1 : Int) (H' : AHeap) => K (.int .i64 r1) H'
  | _, _, _ => False
def S_laws_markInt64S : FSpec := { F := F_laws_markInt64S, quiet := false, tame := false }
theorem laws_markInt64S_vc (a_a : Option Addr) (a_n : Nat) (a_e : Nat) (k : Int) (H : AHeap) (K : Value → AHeap → Prop) : bodyK Try.prog E_laws_markInt64S Try.f28 [.slice a_a a_n a_e, .int .i64 k] H K =
  (loopK (exK Try.prog E_laws_markInt64S (cl (cl (cr (cl (cr (bodyC Try.f28))))))) [.slice a_a a_n a_e, .int .i64 k, undef, undef, .int .i64 0, .int .i64 0, undef, undef, undef, undef, undef, undef, undef, undef, undef, undef, undef, undef, undef] H (blockQ 0 (seqQ (exK Try.prog E_laws_markInt64S (cr (cr (bodyC Try.f28)))) (retK Try.prog Try.f28 K)))) := by kernel_rfl
theorem laws_markInt64S_r1 (a_a : Option Addr) (a_e : Nat) (a_n : Nat) (k_1 : Int) (i : Int) (g6 g7 g8 g9 g10 g11 g12 g13 g14 g15 g16 g17 : Value) (H : AHeap) (R : Post) : exK Try.prog E_laws_markInt64S (cl (cl (cr (cl (cr (bodyC Try.f28)))))) [.slice a_a a_n a_e, .int .i64 k_1, undef, undef, .int .i64 0, .int .i64 i, g6, g7, g8, g9, g10, g11, g12, g13, g14, g15, g16, g17, undef] H R =
  (Br (decide ((i : Int) < (a_n : Int))) ((0 : Int) ≤ i ∧ i < (a_n : Int) ∧ ∃ b1 f1, (a_a : Option Addr) = some ⟨b1, f1, none⟩ ∧ isOwn H b1 ∧ (∃ l, rdN H b1 (f1 + (i : Int).toNat * 1) 1 = some l) ∧ Lt (setC H b1 (f1 + (i : Int).toNat * 1) (.int .i64 k_1)) fun H1 => R .normal [.slice a_a a_n a_e, .int .i64 (IntKind.wrap .i64 (k_1 + 1)), undef, undef, .int .i64 0, .int .i64 (IntKind.wrap .i64 (i + 1)), .int .i64 i, .slice a_a a_n a_e, .int .i64 (a_n : Int), .bool (decide ((i : Int) < (a_n : Int))), .int .i64 i, .int .i64 (IntKind.wrap .i64 (i + 1)), .slice a_a a_n a_e, .int .i64 i, .int .i64 k_1, .pointer (some ⟨b1, f1 + (i : Int).toNat * 1, none⟩), .int .i64 k_1, .int .i64 (IntKind.wrap .i64 (k_1 + 1)), undef] H1) (R (.exit 0) [.slice a_a a_n a_e, .int .i64 k_1, undef, undef, .int .i64 0, .int .i64 i, .int .i64 i, .slice a_a a_n a_e, .int .i64 (a_n : Int), .bool (decide ((i : Int) < (a_n : Int))), g10, g11, g12, g13, g14, g15, g16, g17, undef] H)) := by kernel_rfl
def laws_markInt64S_I1 (a_a : Option Addr) (a_e : Nat) (a_n : Nat) (Inv : Nat → Int → Int → AHeap → Prop) : Nat → List Value → AHeap → Prop := fun μ tm H => ∃ (k_1 : Int), ∃ (i : Int), ∃ g6 g7 g8 g9 g10 g11 g12 g13 g14 g15 g16 g17, tm = [.slice a_a a_n a_e, .int .i64 k_1, undef, undef, .int .i64 0, .int .i64 i, g6, g7, g8, g9, g10, g11, g12, g13, g14, g15, g16, g17, undef] ∧ Inv μ k_1 i H
theorem laws_markInt64S_L1 (a_a : Option Addr) (a_e : Nat) (a_n : Nat) {Q : Post} (Inv : Nat → Int → Int → AHeap → Prop) (ν : Nat) (k_1 : Int) (i : Int) (g6 g7 g8 g9 g10 g11 g12 g13 g14 g15 g16 g17 : Value) (H : AHeap) (h0 : Inv ν k_1 i H)
    (hs : ∀ (μ : Nat) (k_1 : Int) (i : Int) (g6 g7 g8 g9 g10 g11 g12 g13 g14 g15 g16 g17 : Value) (H : AHeap), Inv μ k_1 i H → exK Try.prog E_laws_markInt64S (cl (cl (cr (cl (cr (bodyC Try.f28)))))) [.slice a_a a_n a_e, .int .i64 k_1, undef, undef, .int .i64 0, .int .i64 i, g6, g7, g8, g9, g10, g11, g12, g13, g14, g15, g16, g17, undef] H (loopQ (laws_markInt64S_I1 a_a a_e a_n Inv) μ Q)) : loopK (exK Try.prog E_laws_markInt64S (cl (cl (cr (cl (cr (bodyC Try.f28))))))) [.slice a_a a_n a_e, .int .i64 k_1, undef, undef, .int .i64 0, .int .i64 i, g6, g7, g8, g9, g10, g11, g12, g13, g14, g15, g16, g17, undef] H Q :=
  ⟨laws_markInt64S_I1 a_a a_e a_n Inv, ν, ⟨k_1, i, g6, g7, g8, g9, g10, g11, g12, g13, g14, g15, g16, g17, rfl, h0⟩, fun μ tm H h => by obtain ⟨k_1, i, g6, g7, g8, g9, g10, g11, g12, g13, g14, g15, g16, g17, rfl, hI⟩ := h; exact hs μ k_1 i g6 g7 g8 g9 g10 g11 g12 g13 g14 g15 g16 g17 H hI⟩
theorem laws_markInt64S_n1 {a_a : Option Addr} {a_e : Nat} {a_n : Nat} {Q : Post} {Inv : Nat → Int → Int → AHeap → Prop} {μ : Nat} (μ' : Nat) {k_1 : Int} {i : Int} {g6 g7 g8 g9 g10 g11 g12 g13 g14 g15 g16 g17 : Value} {H : AHeap} (hm : μ' < μ) (hI : Inv μ' k_1 i H) : loopQ (laws_markInt64S_I1 a_a a_e a_n Inv) μ Q .normal [.slice a_a a_n a_e, .int .i64 k_1, undef, undef, .int .i64 0, .int .i64 i, g6, g7, g8, g9, g10, g11, g12, g13, g14, g15, g16, g17, undef] H := ⟨μ', hm, k_1, i, g6, g7, g8, g9, g10, g11, g12, g13, g14, g15, g16, g17, rfl, hI⟩
theorem laws_markInt64S_x1_0 (a_a : Option Addr) (a_e : Nat) (a_n : Nat) (k_1 : Int) (i : Int) (g6 g7 g8 g9 g10 g11 g12 g13 g14 g15 g16 g17 : Value) (H : AHeap) (K : Value → AHeap → Prop)  {I : Nat → List Value → AHeap → Prop} {μ : Nat} : loopQ I μ (blockQ 0 (seqQ (exK Try.prog E_laws_markInt64S (cr (cr (bodyC Try.f28)))) (retK Try.prog Try.f28 K))) (.exit 0) [.slice a_a a_n a_e, .int .i64 k_1, undef, undef, .int .i64 0, .int .i64 i, g6, g7, g8, g9, g10, g11, g12, g13, g14, g15, g16, g17, undef] H =
  (K (.int .i64 k_1) H) := by kernel_rfl
theorem E_laws_markInt64S_ok : ∀ g, FnOk Try.prog g (E_laws_markInt64S g) := FnOk.envOf (by
  intro x hx; cases hx)
set_option maxHeartbeats 1000000 in
theorem laws_markInt64S_main (a_a : Option Addr) (a_n : Nat) (a_e : Nat) (k : Int) (H : AHeap) (K : Value → AHeap → Prop) (h : T_laws_markInt64S a_a a_n a_e k H fun (r1 : Int) (H' : AHeap) => K (.int .i64 r1) H') : bodyK Try.prog E_laws_markInt64S Try.f28 [.slice a_a a_n a_e, .int .i64 k] H K := by
  rw [laws_markInt64S_vc]
  obtain ⟨lo, l_a, i_a, bd_18, hk⟩ := h
  have hk : (∀ H' : AHeap, KeepA a_a H H' → OwnS fI H' lo a_a a_n a_e ((p_laws_markInt64S l_a k).2) → (fun (r1 : Int) (H' : AHeap) => K (.int .i64 r1) H') ((p_laws_markInt64S l_a k).1) H') := by rw [laws_markInt64S_val l_a k]; exact hk
  obtain rfl := i_a.len
  have up_m := i_a.up
  have lo_m := i_a.lo
  have e : (p_laws_markInt64S l_a k) = _ := rfl
  have e := e.trans (p_laws_markInt64S_eq l_a k)
  have g0 := KeepA.refl a_a H
  refine laws_markInt64S_L1 _ _ _ (fun (μ : Nat) (k_1 : Int) (i : Int) (H_1 : AHeap) => ∃ (y1_1 : List Int), OwnS fI H_1 lo a_a l_a.length a_e y1_1 ∧ y1_1.length = (l_a).length ∧ H.length ≤ H_1.length ∧ KeepA a_a H H_1 ∧ (0 : Int) ≤ i ∧ i ≤ (l_a.length : Int) ∧ (l_a.length : Int) - i ≤ (μ : Int) ∧ p_laws_markInt64S l_a k = p_laws_markInt64S_l1 l_a k (μ + 1) k_1 i y1_1) (Int.toNat ((l_a.length : Int) - (0 : Int))) _ _ _ _ _ _ _ _ _ _ _ _ _ _ H ?_ ?_
  · exact ⟨_, i_a, (by first | rfl | (simp; done)), (by omega), g0, (by first | omega | (simp; done) | (simp; omega)), (by first | omega | (simp; done) | (simp; omega)), (by omega), e⟩
  · intro μ k_1 i g6 g7 g8 g9 g10 g11 g12 g13 g14 g15 g16 g17 H_1 hI
    obtain ⟨y1_1, r_1, y_2, n_3, g_4, v_5, v_6, hμ, e⟩ := hI
    rw [laws_markInt64S_r1]
    have e := e.trans (p_laws_markInt64S_l1_s l_a k μ k_1 i y1_1)
    have l_7 := g_4.1
    refine Br.intro (fun c_8 => ?_) (fun c_8 => ?_)
    · have e := e.trans (cond_t c_8)
      have c_8' := of_decide_eq_true c_8
      obtain ⟨b_9, f_10, q_11⟩ := (r_1.isL).pos (by first | omega | (simp only [List.length_set, List.length_replicate, List.length_append, List.length_cons, List.length_nil, List.length_take, List.length_drop, marks_length]; done) | (simp only [List.length_set, List.length_replicate, List.length_append, List.length_cons, List.length_nil, List.length_take, List.length_drop, marks_length]; omega))
      refine ⟨by omega, by omega, b_9, f_10, q_11, ?_⟩
      refine Lt.setS r_1 q_11 (by first | omega | (simp only [List.length_set]; (first | omega | (simp only [List.length_set, List.length_replicate, List.length_append, List.length_cons, List.length_nil, List.length_take, List.length_drop, marks_length]; done) | (simp only [List.length_set, List.length_replicate, List.length_append, List.length_cons, List.length_nil, List.length_take, List.length_drop, marks_length]; omega)))) (fun H_2 hl_12 o_14 k_13 => ?_)
      have l_15 := k_13.1
      have g_16 := g_4.transA k_13
      have l_17 := g_16.1
      rw [show IntKind.wrap .i64 (i + 1) = (i + 1) from wrap64 (by omega) (by omega)]
      refine laws_markInt64S_n1 (μ - 1) (by first | omega) ⟨_, o_14, (by first | assumption | omega | (simp only [List.length_set]; first | rfl | assumption | omega)), (by omega), g_16, (by first | omega | (simp only [List.length_append, List.length_cons, List.length_nil, List.length_set]; done) | (simp only [List.length_append, List.length_cons, List.length_nil, List.length_set]; omega)), (by first | omega | (simp only [List.length_append, List.length_cons, List.length_nil, List.length_set]; done) | (simp only [List.length_append, List.length_cons, List.length_nil, List.length_set]; omega)), (by first | omega), (by rw [show μ - 1 + 1 = μ from by first | omega]; exact e)⟩
    · have e := e.trans (cond_f c_8)
      have c_8' := of_decide_eq_false c_8
      rw [laws_markInt64S_x1_0]
      rw [e] at hk
      exact hk H_1 g_4 r_1
theorem laws_markInt64S_ok : FnOk Try.prog 28 S_laws_markInt64S := by
  refine FnOk.body mix_ok E_laws_markInt64S_ok Try.func28 rfl (by kernel_rfl) (by kernel_rfl) ?_ ?_ ?_ ?_ ?_
  · intro args H K K' h hk
    simp only [S_laws_markInt64S] at *
    unfold F_laws_markInt64S at *
    split at hk
    · obtain ⟨lo, l_a, i_a, bd_18, k⟩ := hk
      exact ⟨lo, l_a, i_a, bd_18, (fun H' gg ow => h _ _ (k H' gg ow))⟩
    · exact hk.elim
  · intro hq; cases hq
  · intro args H K hk
    simp only [S_laws_markInt64S] at *
    unfold F_laws_markInt64S at *
    split at hk
    · obtain ⟨lo, l_a, i_a, bd_18, k⟩ := hk
      exact (OwnS.put i_a _ (by rw [marks_length])).elim fun H1 h => ⟨_, _, k H1 h.1 h.2⟩
    · exact hk.elim
  · intro hq; cases hq
  · have mm := @laws_markInt64S_main
    revert mm
    generalize bodyK Try.prog E_laws_markInt64S Try.f28 = Q
    intro mm args H K hk
    simp only [S_laws_markInt64S] at *
    unfold F_laws_markInt64S at *
    split at hk
    · exact mm _ _ _ _ H K hk
    · exact hk.elim
def p_laws_heldFloat32S_l1 (l_a : List Nat) (k : Int) : Nat → Int → Int → Int → Int
  | 0, _, _, _ => 0
  | μ + 1, k_1, t4, i => (bif decide ((i : Int) < (l_a.length : Int)) then (bif !(feq .f32 (((l_a).getD (i : Int).toNat 0)) (FloatKind.nearest .f32 k_1)) then ((-1) : Int) else (p_laws_heldFloat32S_l1 l_a k μ (IntKind.wrap .i64 (k_1 + 1)) t4 (i + 1))) else k_1)
theorem p_laws_heldFloat32S_l1_s (l_a : List Nat) (k : Int) (μ : Nat) (k_1 : Int) (t4 : Int) (i : Int) : p_laws_heldFloat32S_l1 l_a k (μ + 1) k_1 t4 i = (bif decide ((i : Int) < (l_a.length : Int)) then (bif !(feq .f32 (((l_a).getD (i : Int).toNat 0)) (FloatKind.nearest .f32 k_1)) then ((-1) : Int) else (p_laws_heldFloat32S_l1 l_a k μ (IntKind.wrap .i64 (k_1 + 1)) t4 (i + 1))) else k_1) := rfl
def p_laws_heldFloat32S (l_a : List Nat) (k : Int) : Int := (p_laws_heldFloat32S_l1 l_a k (Int.toNat ((l_a.length : Int) - (0 : Int)) + 1) k (0 : Int) (0 : Int))
theorem p_laws_heldFloat32S_eq (l_a : List Nat) (k : Int) : p_laws_heldFloat32S l_a k = (p_laws_heldFloat32S_l1 l_a k (Int.toNat ((l_a.length : Int) - (0 : Int)) + 1) k (0 : Int) (0 : Int)) := rfl
def T_laws_heldFloat32S (a_a : Option Addr) (a_n : Nat) (a_e : Nat) (k : Int) (H : AHeap) (K : Int → AHeap → Prop) : Prop := ∃ (l_a : List Nat), IsL fF H a_a a_n l_a ∧ l_a.length < 1073741824 ∧ K (p_laws_heldFloat32S l_a k) H
theorem T_laws_heldFloat32S_i {a_a : Option Addr} {a_n : Nat} {a_e : Nat} {k : Int} {H : AHeap} {K : Int → AHeap → Prop} (h : ∃ (l_a : List Nat), IsL fF H a_a a_n l_a ∧ l_a.length < 1073741824 ∧ K (p_laws_heldFloat32S l_a k) H) : T_laws_heldFloat32S a_a a_n a_e k H K := h
theorem laws_heldFloat32S_go (k0 : Int) : ∀ (μ : Nat) (i : Nat) (pre : List Nat) (k t : Int) (n : Nat), pre.length = i → n < μ →
    p_laws_heldFloat32S_l1 (pre ++ marks (FloatKind.nearest .f32) k n) k0 μ k t (i : Int) = wk k n := by
  intro μ
  induction μ with
  | zero => intro i pre k t n _ h; omega
  | succ μ ih =>
    intro i pre k t n hp hm
    rw [p_laws_heldFloat32S_l1_s]
    have hl : (pre ++ marks (FloatKind.nearest .f32) k n).length = i + n := by rw [List.length_append, hp, marks_length]
    rw [hl]
    cases n with
    | zero => rw [decide_eq_false (show ¬ (i : Int) < ((i + 0 : Nat) : Int) by omega), cond_false]; rfl
    | succ n =>
      rw [decide_eq_true (show (i : Int) < ((i + (n + 1) : Nat) : Int) by omega), cond_true, Int.toNat_natCast]
      have hx : (pre ++ marks (FloatKind.nearest .f32) k (n + 1)).getD i 0 = (FloatKind.nearest .f32) k := by
        rw [List.getD_eq_getElem?_getD, List.getElem?_append_right (by omega), hp, Nat.sub_self]; rfl
      rw [hx]
      have hq : (!(feq .f32 (FloatKind.nearest .f32 k) (FloatKind.nearest .f32 k))) = false := by rw [feq_nearest]; rfl
      simp only [hq, cond_false]
      have := ih (i + 1) (pre ++ [(FloatKind.nearest .f32) k]) (IntKind.wrap .i64 (k + 1)) t n (by simp [hp]) (by omega)
      rw [List.append_assoc] at this
      rw [wk]; exact this
theorem laws_heldFloat32S_marks (k : Int) (n : Nat) : p_laws_heldFloat32S (marks (FloatKind.nearest .f32) k n) k = wk k n := by
  rw [p_laws_heldFloat32S_eq]
  have := laws_heldFloat32S_go k (Int.toNat (((marks (FloatKind.nearest .f32) k n).length : Int) - 0) + 1) 0 [] k 0 n rfl (by rw [marks_length]; omega)
  simpa using this
/-! laws_heldFloat32S: function 23 -/
def E_laws_heldFloat32S : Env := envOf []
def F_laws_heldFloat32S : List Value → AHeap → (Value → AHeap → Prop) → Prop
  | [.slice a_a a_n a_e, .int .i64 k], H, K => T_laws_heldFloat32S a_a a_n a_e k H fun (r1 : Int) (H' : AHeap) => K (.int .i64 r1) H'
  | _, _, _ => False
def S_laws_heldFloat32S : FSpec := { F := F_laws_heldFloat32S, quiet := true, tame := false }
theorem laws_heldFloat32S_vc (a_a : Option Addr) (a_n : Nat) (a_e : Nat) (k : Int) (H : AHeap) (K : Value → AHeap → Prop) : bodyK Try.prog E_laws_heldFloat32S Try.f23 [.slice a_a a_n a_e, .int .i64 k] H K =
  (loopK (exK Try.prog E_laws_heldFloat32S (cl (cl (cr (cl (cr (bodyC Try.f23))))))) [.slice a_a a_n a_e, .int .i64 k, undef, undef, .int .i64 0, .int .i64 0, undef, undef, undef, undef, undef, undef, undef, undef, undef, undef, undef, undef, undef, undef, undef, undef] H (blockQ 0 (seqQ (exK Try.prog E_laws_heldFloat32S (cr (cr (bodyC Try.f23)))) (retK Try.prog Try.f23 K)))) := by kernel_rfl
theorem laws_heldFloat32S_r1 (a_a : Option Addr) (a_e : Nat) (a_n : Nat) (k_1 : Int) (t4 : Int) (i : Int) (g6 g7 g8 g9 g10 g11 g12 g13 g14 g15 g16 g17 g18 g19 g20 : Value) (H : AHeap) (R : Post) : exK Try.prog E_laws_heldFloat32S (cl (cl (cr (cl (cr (bodyC Try.f23)))))) [.slice a_a a_n a_e, .int .i64 k_1, undef, undef, .int .i64 t4, .int .i64 i, g6, g7, g8, g9, g10, g11, g12, g13, g14, g15, g16, g17, g18, g19, g20, undef] H R =
  (Br (decide ((i : Int) < (a_n : Int))) ((0 : Int) ≤ i ∧ i < (a_n : Int) ∧ ∃ b1 f1, (a_a : Option Addr) = some ⟨b1, f1, none⟩ ∧ ∃ x1 : Nat,  rdC H b1 (f1 + (i : Int).toNat * 1) = some (.float .f32 x1) ∧ Br (!(feq .f32 x1 (FloatKind.nearest .f32 k_1))) (R .ret [.slice a_a a_n a_e, .int .i64 k_1, undef, undef, .int .i64 (-1), .int .i64 i, .int .i64 i, .slice a_a a_n a_e, .int .i64 (a_n : Int), .bool (decide ((i : Int) < (a_n : Int))), g10, g11, .slice a_a a_n a_e, .int .i64 i, .pointer (some ⟨b1, f1 + (i : Int).toNat * 1, none⟩), .float .f32 x1, .int .i64 k_1, .float .f32 (FloatKind.nearest .f32 k_1), .bool (!(feq .f32 x1 (FloatKind.nearest .f32 k_1))), g19, g20, undef] H) (R .normal [.slice a_a a_n a_e, .int .i64 (IntKind.wrap .i64 (k_1 + 1)), undef, undef, .int .i64 t4, .int .i64 (IntKind.wrap .i64 (i + 1)), .int .i64 i, .slice a_a a_n a_e, .int .i64 (a_n : Int), .bool (decide ((i : Int) < (a_n : Int))), .int .i64 i, .int .i64 (IntKind.wrap .i64 (i + 1)), .slice a_a a_n a_e, .int .i64 i, .pointer (some ⟨b1, f1 + (i : Int).toNat * 1, none⟩), .float .f32 x1, .int .i64 k_1, .float .f32 (FloatKind.nearest .f32 k_1), .bool (!(feq .f32 x1 (FloatKind.nearest .f32 k_1))), .int .i64 k_1, .int .i64 (IntKind.wrap .i64 (k_1 + 1)), undef] H)) (R (.exit 0) [.slice a_a a_n a_e, .int .i64 k_1, undef, undef, .int .i64 t4, .int .i64 i, .int .i64 i, .slice a_a a_n a_e, .int .i64 (a_n : Int), .bool (decide ((i : Int) < (a_n : Int))), g10, g11, g12, g13, g14, g15, g16, g17, g18, g19, g20, undef] H)) := by kernel_rfl
def laws_heldFloat32S_I1 (a_a : Option Addr) (a_e : Nat) (a_n : Nat) (Inv : Nat → Int → Int → Int → AHeap → Prop) : Nat → List Value → AHeap → Prop := fun μ tm H => ∃ (k_1 : Int), ∃ (t4 : Int), ∃ (i : Int), ∃ g6 g7 g8 g9 g10 g11 g12 g13 g14 g15 g16 g17 g18 g19 g20, tm = [.slice a_a a_n a_e, .int .i64 k_1, undef, undef, .int .i64 t4, .int .i64 i, g6, g7, g8, g9, g10, g11, g12, g13, g14, g15, g16, g17, g18, g19, g20, undef] ∧ Inv μ k_1 t4 i H
theorem laws_heldFloat32S_L1 (a_a : Option Addr) (a_e : Nat) (a_n : Nat) {Q : Post} (Inv : Nat → Int → Int → Int → AHeap → Prop) (ν : Nat) (k_1 : Int) (t4 : Int) (i : Int) (g6 g7 g8 g9 g10 g11 g12 g13 g14 g15 g16 g17 g18 g19 g20 : Value) (H : AHeap) (h0 : Inv ν k_1 t4 i H)
    (hs : ∀ (μ : Nat) (k_1 : Int) (t4 : Int) (i : Int) (g6 g7 g8 g9 g10 g11 g12 g13 g14 g15 g16 g17 g18 g19 g20 : Value) (H : AHeap), Inv μ k_1 t4 i H → exK Try.prog E_laws_heldFloat32S (cl (cl (cr (cl (cr (bodyC Try.f23)))))) [.slice a_a a_n a_e, .int .i64 k_1, undef, undef, .int .i64 t4, .int .i64 i, g6, g7, g8, g9, g10, g11, g12, g13, g14, g15, g16, g17, g18, g19, g20, undef] H (loopQ (laws_heldFloat32S_I1 a_a a_e a_n Inv) μ Q)) : loopK (exK Try.prog E_laws_heldFloat32S (cl (cl (cr (cl (cr (bodyC Try.f23))))))) [.slice a_a a_n a_e, .int .i64 k_1, undef, undef, .int .i64 t4, .int .i64 i, g6, g7, g8, g9, g10, g11, g12, g13, g14, g15, g16, g17, g18, g19, g20, undef] H Q :=
  ⟨laws_heldFloat32S_I1 a_a a_e a_n Inv, ν, ⟨k_1, t4, i, g6, g7, g8, g9, g10, g11, g12, g13, g14, g15, g16, g17, g18, g19, g20, rfl, h0⟩, fun μ tm H h => by obtain ⟨k_1, t4, i, g6, g7, g8, g9, g10, g11, g12, g13, g14, g15, g16, g17, g18, g19, g20, rfl, hI⟩ := h; exact hs μ k_1 t4 i g6 g7 g8 g9 g10 g11 g12 g13 g14 g15 g16 g17 g18 g19 g20 H hI⟩
theorem laws_heldFloat32S_n1 {a_a : Option Addr} {a_e : Nat} {a_n : Nat} {Q : Post} {Inv : Nat → Int → Int → Int → AHeap → Prop} {μ : Nat} (μ' : Nat) {k_1 : Int} {t4 : Int} {i : Int} {g6 g7 g8 g9 g10 g11 g12 g13 g14 g15 g16 g17 g18 g19 g20 : Value} {H : AHeap} (hm : μ' < μ) (hI : Inv μ' k_1 t4 i H) : loopQ (laws_heldFloat32S_I1 a_a a_e a_n Inv) μ Q .normal [.slice a_a a_n a_e, .int .i64 k_1, undef, undef, .int .i64 t4, .int .i64 i, g6, g7, g8, g9, g10, g11, g12, g13, g14, g15, g16, g17, g18, g19, g20, undef] H := ⟨μ', hm, k_1, t4, i, g6, g7, g8, g9, g10, g11, g12, g13, g14, g15, g16, g17, g18, g19, g20, rfl, hI⟩
theorem laws_heldFloat32S_x1_0 (a_a : Option Addr) (a_e : Nat) (a_n : Nat) (k_1 : Int) (t4 : Int) (i : Int) (g6 g7 g8 g9 g10 g11 g12 g13 g14 g15 g16 g17 g18 g19 g20 : Value) (H : AHeap) (K : Value → AHeap → Prop)  {I : Nat → List Value → AHeap → Prop} {μ : Nat} : loopQ I μ (blockQ 0 (seqQ (exK Try.prog E_laws_heldFloat32S (cr (cr (bodyC Try.f23)))) (retK Try.prog Try.f23 K))) (.exit 0) [.slice a_a a_n a_e, .int .i64 k_1, undef, undef, .int .i64 t4, .int .i64 i, g6, g7, g8, g9, g10, g11, g12, g13, g14, g15, g16, g17, g18, g19, g20, undef] H =
  (K (.int .i64 k_1) H) := by kernel_rfl
theorem laws_heldFloat32S_x1_ret (a_a : Option Addr) (a_e : Nat) (a_n : Nat) (k_1 : Int) (t4 : Int) (i : Int) (g6 g7 g8 g9 g10 g11 g12 g13 g14 g15 g16 g17 g18 g19 g20 : Value) (H : AHeap) (K : Value → AHeap → Prop)  {I : Nat → List Value → AHeap → Prop} {μ : Nat} : loopQ I μ (blockQ 0 (seqQ (exK Try.prog E_laws_heldFloat32S (cr (cr (bodyC Try.f23)))) (retK Try.prog Try.f23 K))) .ret [.slice a_a a_n a_e, .int .i64 k_1, undef, undef, .int .i64 t4, .int .i64 i, g6, g7, g8, g9, g10, g11, g12, g13, g14, g15, g16, g17, g18, g19, g20, undef] H =
  (K (.int .i64 t4) H) := by kernel_rfl
theorem E_laws_heldFloat32S_ok : ∀ g, FnOk Try.prog g (E_laws_heldFloat32S g) := FnOk.envOf (by
  intro x hx; cases hx)
set_option maxHeartbeats 1000000 in
theorem laws_heldFloat32S_main (a_a : Option Addr) (a_n : Nat) (a_e : Nat) (k : Int) (H : AHeap) (K : Value → AHeap → Prop) (h : T_laws_heldFloat32S a_a a_n a_e k H fun (r1 : Int) (H' : AHeap) => K (.int .i64 r1) H') : bodyK Try.prog E_laws_heldFloat32S Try.f23 [.slice a_a a_n a_e, .int .i64 k] H K := by
  rw [laws_heldFloat32S_vc]
  obtain ⟨l_a, i_a, bd_9, hk⟩ := h
  obtain rfl := i_a.eqn
  have e : (p_laws_heldFloat32S l_a k) = _ := rfl
  have e := e.trans (p_laws_heldFloat32S_eq l_a k)
  have g0 := Grow.refl H
  refine laws_heldFloat32S_L1 _ _ _ (fun (μ : Nat) (k_1 : Int) (t4 : Int) (i : Int) (H_1 : AHeap) => H = H_1 ∧ (0 : Int) ≤ i ∧ i ≤ (l_a.length : Int) ∧ (l_a.length : Int) - i ≤ (μ : Int) ∧ p_laws_heldFloat32S l_a k = p_laws_heldFloat32S_l1 l_a k (μ + 1) k_1 t4 i) (Int.toNat ((l_a.length : Int) - (0 : Int))) _ _ _ _ _ _ _ _ _ _ _ _ _ _ _ _ _ _ H ?_ ?_
  · exact ⟨rfl, (by first | omega | (simp; done) | (simp; omega)), (by first | omega | (simp; done) | (simp; omega)), (by omega), e⟩
  · intro μ k_1 t4 i g6 g7 g8 g9 g10 g11 g12 g13 g14 g15 g16 g17 g18 g19 g20 H_1 hI
    obtain ⟨rfl, v_1, v_2, hμ, e⟩ := hI
    rw [laws_heldFloat32S_r1]
    have e := e.trans (p_laws_heldFloat32S_l1_s l_a k μ k_1 t4 i)
    have l_3 := g0.1
    refine Br.intro (fun c_4 => ?_) (fun c_4 => ?_)
    · have e := e.trans (cond_t c_4)
      have c_4' := of_decide_eq_true c_4
      obtain ⟨b_5, f_6, q_7⟩ := ((i_a.grow g0)).pos (by first | omega | (simp only [List.length_set, List.length_replicate, List.length_append, List.length_cons, List.length_nil, List.length_take, List.length_drop, marks_length]; done) | (simp only [List.length_set, List.length_replicate, List.length_append, List.length_cons, List.length_nil, List.length_take, List.length_drop, marks_length]; omega))
      refine ⟨by omega, by omega, b_5, f_6, q_7, ?_⟩
      refine ⟨((l_a).getD (i : Int).toNat 0), (i_a).rd g0 q_7 (by omega) _, ?_⟩
      refine Br.intro (fun c_8 => ?_) (fun c_8 => ?_)
      · have e := e.trans (cond_t c_8)
        have c_8n := nf_of_t c_8
        rw [laws_heldFloat32S_x1_ret]
        rw [e] at hk
        exact hk
      · have e := e.trans (cond_f c_8)
        have c_8n := nt_of_f c_8
        rw [show IntKind.wrap .i64 (i + 1) = (i + 1) from wrap64 (by omega) (by omega)]
        refine laws_heldFloat32S_n1 (μ - 1) (by first | omega) ⟨rfl, (by first | omega | (simp only [List.length_append, List.length_cons, List.length_nil, List.length_set]; done) | (simp only [List.length_append, List.length_cons, List.length_nil, List.length_set]; omega)), (by first | omega | (simp only [List.length_append, List.length_cons, List.length_nil, List.length_set]; done) | (simp only [List.length_append, List.length_cons, List.length_nil, List.length_set]; omega)), (by first | omega), (by rw [show μ - 1 + 1 = μ from by first | omega]; exact e)⟩
    · have e := e.trans (cond_f c_4)
      have c_4' := of_decide_eq_false c_4
      rw [laws_heldFloat32S_x1_0]
      rw [e] at hk
      exact hk
theorem laws_heldFloat32S_ok : FnOk Try.prog 23 S_laws_heldFloat32S := by
  refine FnOk.body mix_ok E_laws_heldFloat32S_ok Try.func23 rfl (by kernel_rfl) (by kernel_rfl) ?_ ?_ ?_ ?_ ?_
  · intro args H K K' h hk
    simp only [S_laws_heldFloat32S] at *
    unfold F_laws_heldFloat32S at *
    split at hk
    · obtain ⟨l_a, i_a, bd_9, k⟩ := hk
      exact ⟨l_a, i_a, bd_9, h _ _ k⟩
    · exact hk.elim
  · intro _ args H K hk
    simp only [S_laws_heldFloat32S] at *
    unfold F_laws_heldFloat32S at *
    split at hk
    · obtain ⟨l_a, i_a, bd_9, k⟩ := hk
      exact ⟨_, k, fun K' k' => ⟨l_a, i_a, bd_9, k'⟩⟩
    · exact hk.elim
  · intro args H K hk
    simp only [S_laws_heldFloat32S] at *
    unfold F_laws_heldFloat32S at *
    split at hk
    · obtain ⟨l_a, i_a, bd_9, k⟩ := hk
      exact ⟨_, _, k⟩
    · exact hk.elim
  · intro hq; cases hq
  · have mm := @laws_heldFloat32S_main
    revert mm
    generalize bodyK Try.prog E_laws_heldFloat32S Try.f23 = Q
    intro mm args H K hk
    simp only [S_laws_heldFloat32S] at *
    unfold F_laws_heldFloat32S at *
    split at hk
    · exact mm _ _ _ _ H K hk
    · exact hk.elim
end Go.Proofs.Ytghkkclonabpkaa.Ai
