/- What functions of the program come to on the abstract machine, and that they do so; printed by a program of mine around proofs of mine. -/
import Derived.Test.YtghkkclonabpkabFFnExactBreaksOf0
set_option linter.unusedVariables false
set_option linter.unusedSimpArgs false
set_option maxRecDepth 100000
namespace Go.Proofs.Ytghkkclonabpkab.Ai
open Go
attribute [local irreducible] bodyK

def p_impl_areFinite_l2 (l_lists : List (List Nat)) (t2 : Bool) (t9 : Int) (k2_2 : Bool → Int → Bool) : Nat → Bool → Int → Bool
  | 0, _, _ => false
  | μ2 + 1, t2_2, t15 => (bif decide ((t15 : Int) < ((((l_lists).getD (t9 : Int).toNat [])).length : Int)) then (bif !((p_impl_IsFinite (((((l_lists).getD (t9 : Int).toNat [])).getD (t15 : Int).toNat 0)))) then false else (p_impl_areFinite_l2 l_lists t2 t9 k2_2 μ2 t2_2 (t15 + 1))) else (k2_2 t2_2 t15))
theorem p_impl_areFinite_l2_s (l_lists : List (List Nat)) (t2 : Bool) (t9 : Int) (k2_2 : Bool → Int → Bool) (μ2 : Nat) (t2_2 : Bool) (t15 : Int) : p_impl_areFinite_l2 l_lists t2 t9 k2_2 (μ2 + 1) t2_2 t15 = (bif decide ((t15 : Int) < ((((l_lists).getD (t9 : Int).toNat [])).length : Int)) then (bif !((p_impl_IsFinite (((((l_lists).getD (t9 : Int).toNat [])).getD (t15 : Int).toNat 0)))) then false else (p_impl_areFinite_l2 l_lists t2 t9 k2_2 μ2 t2_2 (t15 + 1))) else (k2_2 t2_2 t15)) := rfl
def p_impl_areFinite_l1 (l_lists : List (List Nat)) : Nat → Bool → Int → Bool
  | 0, _, _ => false
  | μ + 1, t2, t9 => (bif decide ((t9 : Int) < (l_lists.length : Int)) then (p_impl_areFinite_l2 l_lists t2 t9 (fun (t2_2 : Bool) (t15 : Int) => (p_impl_areFinite_l1 l_lists μ t2_2 (t9 + 1))) (Int.toNat (((((l_lists).getD (t9 : Int).toNat [])).length : Int) - (0 : Int)) + 1) t2 (0 : Int)) else true)
theorem p_impl_areFinite_l1_s (l_lists : List (List Nat)) (μ : Nat) (t2 : Bool) (t9 : Int) : p_impl_areFinite_l1 l_lists (μ + 1) t2 t9 = (bif decide ((t9 : Int) < (l_lists.length : Int)) then (p_impl_areFinite_l2 l_lists t2 t9 (fun (t2_2 : Bool) (t15 : Int) => (p_impl_areFinite_l1 l_lists μ t2_2 (t9 + 1))) (Int.toNat (((((l_lists).getD (t9 : Int).toNat [])).length : Int) - (0 : Int)) + 1) t2 (0 : Int)) else true) := rfl
def p_impl_areFinite (l_lists : List (List Nat)) : Bool := (p_impl_areFinite_l1 l_lists (Int.toNat ((l_lists.length : Int) - (0 : Int)) + 1) false (0 : Int))
theorem p_impl_areFinite_eq (l_lists : List (List Nat)) : p_impl_areFinite l_lists = (p_impl_areFinite_l1 l_lists (Int.toNat ((l_lists.length : Int) - (0 : Int)) + 1) false (0 : Int)) := rfl
def T_impl_areFinite (lists_a : Option Addr) (lists_n : Nat) (lists_e : Nat) (H : AHeap) (K : Bool → AHeap → Prop) : Prop := ∃ (l_lists : List (List Nat)), IsLL fF H lists_a lists_n l_lists ∧ l_lists.length < 1073741824 ∧ (∀ y ∈ l_lists, y.length < 1073741824) ∧ K (p_impl_areFinite l_lists) H
theorem T_impl_areFinite_i {lists_a : Option Addr} {lists_n : Nat} {lists_e : Nat} {H : AHeap} {K : Bool → AHeap → Prop} (h : ∃ (l_lists : List (List Nat)), IsLL fF H lists_a lists_n l_lists ∧ l_lists.length < 1073741824 ∧ (∀ y ∈ l_lists, y.length < 1073741824) ∧ K (p_impl_areFinite l_lists) H) : T_impl_areFinite lists_a lists_n lists_e H K := h

/-! impl_areFinite: function 81 -/
def E_impl_areFinite : Env := envOf [(56, S_impl_IsFinite)]
def F_impl_areFinite : List Value → AHeap → (Value → AHeap → Prop) → Prop
  | [.slice lists_a lists_n lists_e], H, K => T_impl_areFinite lists_a lists_n lists_e H fun (r1 : Bool) (H' : AHeap) => K (.bool r1) H'
  | _, _, _ => False
def S_impl_areFinite : FSpec := { F := F_impl_areFinite, quiet := true, tame := false }
theorem impl_areFinite_vc (lists_a : Option Addr) (lists_n : Nat) (lists_e : Nat) (H : AHeap) (K : Value → AHeap → Prop) : bodyK Try.prog E_impl_areFinite Try.f81 [.slice lists_a lists_n lists_e] H K =
  (loopK (exK Try.prog E_impl_areFinite (cl (cl (cr (cl (cr (bodyC Try.f81))))))) [.slice lists_a lists_n lists_e, undef, .bool false, undef, undef, undef, undef, .slice lists_a lists_n lists_e, .int .i64 (lists_n : Int), .int .i64 0, undef, undef, undef, undef, undef, undef, undef, undef, undef, undef, undef, undef, undef, undef] H (blockQ 0 (seqQ (exK Try.prog E_impl_areFinite (cr (cr (bodyC Try.f81)))) (retK Try.prog Try.f81 K)))) := by kernel_rfl
theorem impl_areFinite_r1 (lists_a : Option Addr) (lists_e : Nat) (lists_n : Nat) (t2 : Bool) (t9 : Int) (g4 g6 g10 g11 g12 g13 g14 g15 g16 g17 g18 g19 g20 g21 g22 g23 : Value) (H : AHeap) (R : Post) : exK Try.prog E_impl_areFinite (cl (cl (cr (cl (cr (bodyC Try.f81)))))) [.slice lists_a lists_n lists_e, undef, .bool t2, undef, g4, undef, g6, .slice lists_a lists_n lists_e, .int .i64 (lists_n : Int), .int .i64 t9, g10, g11, g12, g13, g14, g15, g16, g17, g18, g19, g20, g21, g22, g23] H R =
  (Br (decide ((t9 : Int) < (lists_n : Int))) ((0 : Int) ≤ t9 ∧ t9 < (lists_n : Int) ∧ ∃ b1 f1, (lists_a : Option Addr) = some ⟨b1, f1, none⟩ ∧ ∃ x1_a : Option Addr, ∃ x1_n : Nat, ∃ x1_e : Nat,  rdC H b1 (f1 + (t9 : Int).toNat * 1) = some (.slice x1_a x1_n x1_e) ∧ loopK (exK Try.prog E_impl_areFinite (cl (cl (cr (cr (cl (cl (cr (cr (cl (cl (cr (cl (cr (bodyC Try.f81))))))))))))))) [.slice lists_a lists_n lists_e, undef, .bool t2, undef, .slice x1_a x1_n x1_e, undef, g6, .slice lists_a lists_n lists_e, .int .i64 (lists_n : Int), .int .i64 t9, .bool (decide ((t9 : Int) < (lists_n : Int))), .pointer (some ⟨b1, f1 + (t9 : Int).toNat * 1, none⟩), .slice x1_a x1_n x1_e, .slice x1_a x1_n x1_e, .int .i64 (x1_n : Int), .int .i64 0, g16, g17, g18, g19, g20, g21, g22, g23] H (blockQ 2 (blockQ 1 (seqQ (exK Try.prog E_impl_areFinite (cr (cr (cr (cl (cl (cr (cl (cr (bodyC Try.f81)))))))))) (R))))) (R (.exit 0) [.slice lists_a lists_n lists_e, undef, .bool t2, undef, g4, undef, g6, .slice lists_a lists_n lists_e, .int .i64 (lists_n : Int), .int .i64 t9, .bool (decide ((t9 : Int) < (lists_n : Int))), g11, g12, g13, g14, g15, g16, g17, g18, g19, g20, g21, g22, g23] H)) := by kernel_rfl
def impl_areFinite_I1 (lists_a : Option Addr) (lists_e : Nat) (lists_n : Nat) (Inv : Nat → Bool → Int → AHeap → Prop) : Nat → List Value → AHeap → Prop := fun μ tm H => ∃ (t2 : Bool), ∃ (t9 : Int), ∃ g4 g6 g10 g11 g12 g13 g14 g15 g16 g17 g18 g19 g20 g21 g22 g23, tm = [.slice lists_a lists_n lists_e, undef, .bool t2, undef, g4, undef, g6, .slice lists_a lists_n lists_e, .int .i64 (lists_n : Int), .int .i64 t9, g10, g11, g12, g13, g14, g15, g16, g17, g18, g19, g20, g21, g22, g23] ∧ Inv μ t2 t9 H
theorem impl_areFinite_L1 (lists_a : Option Addr) (lists_e : Nat) (lists_n : Nat) {Q : Post} (Inv : Nat → Bool → Int → AHeap → Prop) (ν : Nat) (t2 : Bool) (t9 : Int) (g4 g6 g10 g11 g12 g13 g14 g15 g16 g17 g18 g19 g20 g21 g22 g23 : Value) (H : AHeap) (h0 : Inv ν t2 t9 H)
    (hs : ∀ (μ : Nat) (t2 : Bool) (t9 : Int) (g4 g6 g10 g11 g12 g13 g14 g15 g16 g17 g18 g19 g20 g21 g22 g23 : Value) (H : AHeap), Inv μ t2 t9 H → exK Try.prog E_impl_areFinite (cl (cl (cr (cl (cr (bodyC Try.f81)))))) [.slice lists_a lists_n lists_e, undef, .bool t2, undef, g4, undef, g6, .slice lists_a lists_n lists_e, .int .i64 (lists_n : Int), .int .i64 t9, g10, g11, g12, g13, g14, g15, g16, g17, g18, g19, g20, g21, g22, g23] H (loopQ (impl_areFinite_I1 lists_a lists_e lists_n Inv) μ Q)) : loopK (exK Try.prog E_impl_areFinite (cl (cl (cr (cl (cr (bodyC Try.f81))))))) [.slice lists_a lists_n lists_e, undef, .bool t2, undef, g4, undef, g6, .slice lists_a lists_n lists_e, .int .i64 (lists_n : Int), .int .i64 t9, g10, g11, g12, g13, g14, g15, g16, g17, g18, g19, g20, g21, g22, g23] H Q :=
  ⟨impl_areFinite_I1 lists_a lists_e lists_n Inv, ν, ⟨t2, t9, g4, g6, g10, g11, g12, g13, g14, g15, g16, g17, g18, g19, g20, g21, g22, g23, rfl, h0⟩, fun μ tm H h => by obtain ⟨t2, t9, g4, g6, g10, g11, g12, g13, g14, g15, g16, g17, g18, g19, g20, g21, g22, g23, rfl, hI⟩ := h; exact hs μ t2 t9 g4 g6 g10 g11 g12 g13 g14 g15 g16 g17 g18 g19 g20 g21 g22 g23 H hI⟩
theorem impl_areFinite_n1 {lists_a : Option Addr} {lists_e : Nat} {lists_n : Nat} {Q : Post} {Inv : Nat → Bool → Int → AHeap → Prop} {μ : Nat} (μ' : Nat) {t2 : Bool} {t9 : Int} {g4 g6 g10 g11 g12 g13 g14 g15 g16 g17 g18 g19 g20 g21 g22 g23 : Value} {H : AHeap} (hm : μ' < μ) (hI : Inv μ' t2 t9 H) : loopQ (impl_areFinite_I1 lists_a lists_e lists_n Inv) μ Q .normal [.slice lists_a lists_n lists_e, undef, .bool t2, undef, g4, undef, g6, .slice lists_a lists_n lists_e, .int .i64 (lists_n : Int), .int .i64 t9, g10, g11, g12, g13, g14, g15, g16, g17, g18, g19, g20, g21, g22, g23] H := ⟨μ', hm, t2, t9, g4, g6, g10, g11, g12, g13, g14, g15, g16, g17, g18, g19, g20, g21, g22, g23, rfl, hI⟩
theorem impl_areFinite_x1_0 (lists_a : Option Addr) (lists_e : Nat) (lists_n : Nat) (t2 : Bool) (t9 : Int) (g4 g6 g10 g11 g12 g13 g14 g15 g16 g17 g18 g19 g20 g21 g22 g23 : Value) (H : AHeap) (K : Value → AHeap → Prop)  {I : Nat → List Value → AHeap → Prop} {μ : Nat} : loopQ I μ (blockQ 0 (seqQ (exK Try.prog E_impl_areFinite (cr (cr (bodyC Try.f81)))) (retK Try.prog Try.f81 K))) (.exit 0) [.slice lists_a lists_n lists_e, undef, .bool t2, undef, g4, undef, g6, .slice lists_a lists_n lists_e, .int .i64 (lists_n : Int), .int .i64 t9, g10, g11, g12, g13, g14, g15, g16, g17, g18, g19, g20, g21, g22, g23] H =
  (K (.bool true) H) := by kernel_rfl
theorem impl_areFinite_x1_ret (lists_a : Option Addr) (lists_e : Nat) (lists_n : Nat) (t2 : Bool) (t9 : Int) (g4 g6 g10 g11 g12 g13 g14 g15 g16 g17 g18 g19 g20 g21 g22 g23 : Value) (H : AHeap) (K : Value → AHeap → Prop)  {I : Nat → List Value → AHeap → Prop} {μ : Nat} : loopQ I μ (blockQ 0 (seqQ (exK Try.prog E_impl_areFinite (cr (cr (bodyC Try.f81)))) (retK Try.prog Try.f81 K))) .ret [.slice lists_a lists_n lists_e, undef, .bool t2, undef, g4, undef, g6, .slice lists_a lists_n lists_e, .int .i64 (lists_n : Int), .int .i64 t9, g10, g11, g12, g13, g14, g15, g16, g17, g18, g19, g20, g21, g22, g23] H =
  (K (.bool t2) H) := by kernel_rfl
theorem impl_areFinite_r2 (b1 : Nat) (f1 : Nat) (g23 : Value) (lists_a : Option Addr) (lists_e : Nat) (lists_n : Nat) (t9 : Int) (x1_a : Option Addr) (x1_e : Nat) (x1_n : Nat) (t2_2 : Bool) (t15 : Int) (g6 g16 g17 g18 g19 g20 g21 g22 : Value) (H : AHeap) (R : Post) : exK Try.prog E_impl_areFinite (cl (cl (cr (cr (cl (cl (cr (cr (cl (cl (cr (cl (cr (bodyC Try.f81)))))))))))))) [.slice lists_a lists_n lists_e, undef, .bool t2_2, undef, .slice x1_a x1_n x1_e, undef, g6, .slice lists_a lists_n lists_e, .int .i64 (lists_n : Int), .int .i64 t9, .bool (decide ((t9 : Int) < (lists_n : Int))), .pointer (some ⟨b1, f1 + (t9 : Int).toNat * 1, none⟩), .slice x1_a x1_n x1_e, .slice x1_a x1_n x1_e, .int .i64 (x1_n : Int), .int .i64 t15, g16, g17, g18, g19, g20, g21, g22, g23] H R =
  (Br (decide ((t15 : Int) < (x1_n : Int))) ((0 : Int) ≤ t15 ∧ t15 < (x1_n : Int) ∧ ∃ b2 f2, (x1_a : Option Addr) = some ⟨b2, f2, none⟩ ∧ ∃ x2 : Nat,  rdC H b2 (f2 + (t15 : Int).toNat * 1) = some (.float .f32 x2) ∧ T_impl_IsFinite x2 H fun (r1 : Bool) (H1 : AHeap) => Br (!r1) (R .ret [.slice lists_a lists_n lists_e, undef, .bool false, undef, .slice x1_a x1_n x1_e, undef, .float .f32 x2, .slice lists_a lists_n lists_e, .int .i64 (lists_n : Int), .int .i64 t9, .bool (decide ((t9 : Int) < (lists_n : Int))), .pointer (some ⟨b1, f1 + (t9 : Int).toNat * 1, none⟩), .slice x1_a x1_n x1_e, .slice x1_a x1_n x1_e, .int .i64 (x1_n : Int), .int .i64 t15, .bool (decide ((t15 : Int) < (x1_n : Int))), .pointer (some ⟨b2, f2 + (t15 : Int).toNat * 1, none⟩), .float .f32 x2, .float .f32 x2, .bool r1, .bool (!r1), g22, g23] H1) (R .normal [.slice lists_a lists_n lists_e, undef, .bool t2_2, undef, .slice x1_a x1_n x1_e, undef, .float .f32 x2, .slice lists_a lists_n lists_e, .int .i64 (lists_n : Int), .int .i64 t9, .bool (decide ((t9 : Int) < (lists_n : Int))), .pointer (some ⟨b1, f1 + (t9 : Int).toNat * 1, none⟩), .slice x1_a x1_n x1_e, .slice x1_a x1_n x1_e, .int .i64 (x1_n : Int), .int .i64 (IntKind.wrap .i64 (t15 + 1)), .bool (decide ((t15 : Int) < (x1_n : Int))), .pointer (some ⟨b2, f2 + (t15 : Int).toNat * 1, none⟩), .float .f32 x2, .float .f32 x2, .bool r1, .bool (!r1), .int .i64 (IntKind.wrap .i64 (t15 + 1)), g23] H1)) (R (.exit 2) [.slice lists_a lists_n lists_e, undef, .bool t2_2, undef, .slice x1_a x1_n x1_e, undef, g6, .slice lists_a lists_n lists_e, .int .i64 (lists_n : Int), .int .i64 t9, .bool (decide ((t9 : Int) < (lists_n : Int))), .pointer (some ⟨b1, f1 + (t9 : Int).toNat * 1, none⟩), .slice x1_a x1_n x1_e, .slice x1_a x1_n x1_e, .int .i64 (x1_n : Int), .int .i64 t15, .bool (decide ((t15 : Int) < (x1_n : Int))), g17, g18, g19, g20, g21, g22, g23] H)) := by kernel_rfl
def impl_areFinite_I2 (b1 : Nat) (f1 : Nat) (g23 : Value) (lists_a : Option Addr) (lists_e : Nat) (lists_n : Nat) (t9 : Int) (x1_a : Option Addr) (x1_e : Nat) (x1_n : Nat) (Inv : Nat → Bool → Int → AHeap → Prop) : Nat → List Value → AHeap → Prop := fun μ tm H => ∃ (t2_2 : Bool), ∃ (t15 : Int), ∃ g6 g16 g17 g18 g19 g20 g21 g22, tm = [.slice lists_a lists_n lists_e, undef, .bool t2_2, undef, .slice x1_a x1_n x1_e, undef, g6, .slice lists_a lists_n lists_e, .int .i64 (lists_n : Int), .int .i64 t9, .bool (decide ((t9 : Int) < (lists_n : Int))), .pointer (some ⟨b1, f1 + (t9 : Int).toNat * 1, none⟩), .slice x1_a x1_n x1_e, .slice x1_a x1_n x1_e, .int .i64 (x1_n : Int), .int .i64 t15, g16, g17, g18, g19, g20, g21, g22, g23] ∧ Inv μ t2_2 t15 H
theorem impl_areFinite_L2 (b1 : Nat) (f1 : Nat) (g23 : Value) (lists_a : Option Addr) (lists_e : Nat) (lists_n : Nat) (t9 : Int) (x1_a : Option Addr) (x1_e : Nat) (x1_n : Nat) {Q : Post} (Inv : Nat → Bool → Int → AHeap → Prop) (ν : Nat) (t2_2 : Bool) (t15 : Int) (g6 g16 g17 g18 g19 g20 g21 g22 : Value) (H : AHeap) (h0 : Inv ν t2_2 t15 H)
    (hs : ∀ (μ : Nat) (t2_2 : Bool) (t15 : Int) (g6 g16 g17 g18 g19 g20 g21 g22 : Value) (H : AHeap), Inv μ t2_2 t15 H → exK Try.prog E_impl_areFinite (cl (cl (cr (cr (cl (cl (cr (cr (cl (cl (cr (cl (cr (bodyC Try.f81)))))))))))))) [.slice lists_a lists_n lists_e, undef, .bool t2_2, undef, .slice x1_a x1_n x1_e, undef, g6, .slice lists_a lists_n lists_e, .int .i64 (lists_n : Int), .int .i64 t9, .bool (decide ((t9 : Int) < (lists_n : Int))), .pointer (some ⟨b1, f1 + (t9 : Int).toNat * 1, none⟩), .slice x1_a x1_n x1_e, .slice x1_a x1_n x1_e, .int .i64 (x1_n : Int), .int .i64 t15, g16, g17, g18, g19, g20, g21, g22, g23] H (loopQ (impl_areFinite_I2 b1 f1 g23 lists_a lists_e lists_n t9 x1_a x1_e x1_n Inv) μ Q)) : loopK (exK Try.prog E_impl_areFinite (cl (cl (cr (cr (cl (cl (cr (cr (cl (cl (cr (cl (cr (bodyC Try.f81))))))))))))))) [.slice lists_a lists_n lists_e, undef, .bool t2_2, undef, .slice x1_a x1_n x1_e, undef, g6, .slice lists_a lists_n lists_e, .int .i64 (lists_n : Int), .int .i64 t9, .bool (decide ((t9 : Int) < (lists_n : Int))), .pointer (some ⟨b1, f1 + (t9 : Int).toNat * 1, none⟩), .slice x1_a x1_n x1_e, .slice x1_a x1_n x1_e, .int .i64 (x1_n : Int), .int .i64 t15, g16, g17, g18, g19, g20, g21, g22, g23] H Q :=
  ⟨impl_areFinite_I2 b1 f1 g23 lists_a lists_e lists_n t9 x1_a x1_e x1_n Inv, ν, ⟨t2_2, t15, g6, g16, g17, g18, g19, g20, g21, g22, rfl, h0⟩, fun μ tm H h => by obtain ⟨t2_2, t15, g6, g16, g17, g18, g19, g20, g21, g22, rfl, hI⟩ := h; exact hs μ t2_2 t15 g6 g16 g17 g18 g19 g20 g21 g22 H hI⟩
theorem impl_areFinite_n2 {b1 : Nat} {f1 : Nat} {g23 : Value} {lists_a : Option Addr} {lists_e : Nat} {lists_n : Nat} {t9 : Int} {x1_a : Option Addr} {x1_e : Nat} {x1_n : Nat} {Q : Post} {Inv : Nat → Bool → Int → AHeap → Prop} {μ : Nat} (μ' : Nat) {t2_2 : Bool} {t15 : Int} {g6 g16 g17 g18 g19 g20 g21 g22 : Value} {H : AHeap} (hm : μ' < μ) (hI : Inv μ' t2_2 t15 H) : loopQ (impl_areFinite_I2 b1 f1 g23 lists_a lists_e lists_n t9 x1_a x1_e x1_n Inv) μ Q .normal [.slice lists_a lists_n lists_e, undef, .bool t2_2, undef, .slice x1_a x1_n x1_e, undef, g6, .slice lists_a lists_n lists_e, .int .i64 (lists_n : Int), .int .i64 t9, .bool (decide ((t9 : Int) < (lists_n : Int))), .pointer (some ⟨b1, f1 + (t9 : Int).toNat * 1, none⟩), .slice x1_a x1_n x1_e, .slice x1_a x1_n x1_e, .int .i64 (x1_n : Int), .int .i64 t15, g16, g17, g18, g19, g20, g21, g22, g23] H := ⟨μ', hm, t2_2, t15, g6, g16, g17, g18, g19, g20, g21, g22, rfl, hI⟩
theorem impl_areFinite_x2_2 (b1 : Nat) (f1 : Nat) (g23 : Value) (lists_a : Option Addr) (lists_e : Nat) (lists_n : Nat) (t9 : Int) (x1_a : Option Addr) (x1_e : Nat) (x1_n : Nat) (t2_2 : Bool) (t15 : Int) (g6 g16 g17 g18 g19 g20 g21 g22 : Value) (H : AHeap)  (R : Post) {I : Nat → List Value → AHeap → Prop} {μ : Nat} : loopQ I μ (blockQ 2 (blockQ 1 (seqQ (exK Try.prog E_impl_areFinite (cr (cr (cr (cl (cl (cr (cl (cr (bodyC Try.f81)))))))))) (R)))) (.exit 2) [.slice lists_a lists_n lists_e, undef, .bool t2_2, undef, .slice x1_a x1_n x1_e, undef, g6, .slice lists_a lists_n lists_e, .int .i64 (lists_n : Int), .int .i64 t9, .bool (decide ((t9 : Int) < (lists_n : Int))), .pointer (some ⟨b1, f1 + (t9 : Int).toNat * 1, none⟩), .slice x1_a x1_n x1_e, .slice x1_a x1_n x1_e, .int .i64 (x1_n : Int), .int .i64 t15, g16, g17, g18, g19, g20, g21, g22, g23] H =
  (R .normal [.slice lists_a lists_n lists_e, undef, .bool t2_2, undef, .slice x1_a x1_n x1_e, undef, g6, .slice lists_a lists_n lists_e, .int .i64 (lists_n : Int), .int .i64 (IntKind.wrap .i64 (t9 + 1)), .bool (decide ((t9 : Int) < (lists_n : Int))), .pointer (some ⟨b1, f1 + (t9 : Int).toNat * 1, none⟩), .slice x1_a x1_n x1_e, .slice x1_a x1_n x1_e, .int .i64 (x1_n : Int), .int .i64 t15, g16, g17, g18, g19, g20, g21, g22, .int .i64 (IntKind.wrap .i64 (t9 + 1))] H) := by kernel_rfl
theorem impl_areFinite_x2_ret (b1 : Nat) (f1 : Nat) (g23 : Value) (lists_a : Option Addr) (lists_e : Nat) (lists_n : Nat) (t9 : Int) (x1_a : Option Addr) (x1_e : Nat) (x1_n : Nat) (t2_2 : Bool) (t15 : Int) (g6 g16 g17 g18 g19 g20 g21 g22 : Value) (H : AHeap)  (R : Post) {I : Nat → List Value → AHeap → Prop} {μ : Nat} : loopQ I μ (blockQ 2 (blockQ 1 (seqQ (exK Try.prog E_impl_areFinite (cr (cr (cr (cl (cl (cr (cl (cr (bodyC Try.f81)))))))))) (R)))) .ret [.slice lists_a lists_n lists_e, undef, .bool t2_2, undef, .slice x1_a x1_n x1_e, undef, g6, .slice lists_a lists_n lists_e, .int .i64 (lists_n : Int), .int .i64 t9, .bool (decide ((t9 : Int) < (lists_n : Int))), .pointer (some ⟨b1, f1 + (t9 : Int).toNat * 1, none⟩), .slice x1_a x1_n x1_e, .slice x1_a x1_n x1_e, .int .i64 (x1_n : Int), .int .i64 t15, g16, g17, g18, g19, g20, g21, g22, g23] H =
  (R .ret [.slice lists_a lists_n lists_e, undef, .bool t2_2, undef, .slice x1_a x1_n x1_e, undef, g6, .slice lists_a lists_n lists_e, .int .i64 (lists_n : Int), .int .i64 t9, .bool (decide ((t9 : Int) < (lists_n : Int))), .pointer (some ⟨b1, f1 + (t9 : Int).toNat * 1, none⟩), .slice x1_a x1_n x1_e, .slice x1_a x1_n x1_e, .int .i64 (x1_n : Int), .int .i64 t15, g16, g17, g18, g19, g20, g21, g22, g23] H) := by kernel_rfl
theorem E_impl_areFinite_ok : ∀ g, FnOk Try.prog g (E_impl_areFinite g) := FnOk.envOf (by
  intro x hx
  simp only [List.mem_cons, List.not_mem_nil, or_false] at hx
  subst hx; exact impl_IsFinite_ok)
set_option maxHeartbeats 1000000 in
theorem impl_areFinite_main (lists_a : Option Addr) (lists_n : Nat) (lists_e : Nat) (H : AHeap) (K : Value → AHeap → Prop) (h : T_impl_areFinite lists_a lists_n lists_e H fun (r1 : Bool) (H' : AHeap) => K (.bool r1) H') : bodyK Try.prog E_impl_areFinite Try.f81 [.slice lists_a lists_n lists_e] H K := by
  rw [impl_areFinite_vc]
  obtain ⟨l_lists, i_lists, bd_22, bb_l_lists, hk⟩ := h
  obtain rfl := i_lists.eqn
  have e : (p_impl_areFinite l_lists) = _ := rfl
  have e := e.trans (p_impl_areFinite_eq l_lists)
  have g0 := Grow.refl H
  refine impl_areFinite_L1 _ _ _ (fun (μ : Nat) (t2 : Bool) (t9 : Int) (H_1 : AHeap) => H = H_1 ∧ (0 : Int) ≤ t9 ∧ t9 ≤ (l_lists.length : Int) ∧ (l_lists.length : Int) - t9 ≤ (μ : Int) ∧ p_impl_areFinite l_lists = p_impl_areFinite_l1 l_lists (μ + 1) t2 t9) (Int.toNat ((l_lists.length : Int) - (0 : Int))) _ _ _ _ _ _ _ _ _ _ _ _ _ _ _ _ _ _ H ?_ ?_
  · exact ⟨rfl, (by first | omega | (simp; done) | (simp; omega)), (by first | omega | (simp; done) | (simp; omega)), (by omega), e⟩
  · intro μ t2 t9 g4 g6 g10 g11 g12 g13 g14 g15 g16 g17 g18 g19 g20 g21 g22 g23 H_1 hI
    obtain ⟨rfl, v_1, v_2, hμ, e⟩ := hI
    rw [impl_areFinite_r1]
    have e := e.trans (p_impl_areFinite_l1_s l_lists μ t2 t9)
    have l_3 := g0.1
    refine Br.intro (fun c_4 => ?_) (fun c_4 => ?_)
    · have e := e.trans (cond_t c_4)
      have c_4' := of_decide_eq_true c_4
      obtain ⟨b_5, f_6, q_7⟩ := ((i_lists.grow g0)).pos (by first | omega | (simp only [List.length_set, List.length_replicate, List.length_append, List.length_cons, List.length_nil, List.length_take, List.length_drop, marks_length]; done) | (simp only [List.length_set, List.length_replicate, List.length_append, List.length_cons, List.length_nil, List.length_take, List.length_drop, marks_length]; omega))
      refine ⟨by omega, by omega, b_5, f_6, q_7, ?_⟩
      obtain ⟨a_8, n_9, e_10, r_11, i_12⟩ := (i_lists).rd (i := (t9 : Int).toNat) g0 q_7 (by omega)
      obtain rfl := i_12.eqn
      refine ⟨a_8, _, e_10, r_11, ?_⟩
      have z_13 := getD_len bb_l_lists (t9 : Int).toNat
      refine impl_areFinite_L2 _ _ _ _ _ _ _ _ _ _ (fun (μ2 : Nat) (t2_2 : Bool) (t15 : Int) (H_2 : AHeap) => H = H_2 ∧ (0 : Int) ≤ t15 ∧ t15 ≤ ((((l_lists).getD (t9 : Int).toNat [])).length : Int) ∧ ((((l_lists).getD (t9 : Int).toNat [])).length : Int) - t15 ≤ (μ2 : Int) ∧ p_impl_areFinite l_lists = p_impl_areFinite_l2 l_lists t2 t9 (fun (t2_2 : Bool) (t15 : Int) => (p_impl_areFinite_l1 l_lists μ t2_2 (t9 + 1))) (μ2 + 1) t2_2 t15) (Int.toNat (((((l_lists).getD (t9 : Int).toNat [])).length : Int) - (0 : Int))) _ _ _ _ _ _ _ _ _ _ H ?_ ?_
      · exact ⟨rfl, (by first | omega | (simp; done) | (simp; omega)), (by first | omega | (simp; done) | (simp; omega)), (by omega), e⟩
      · intro μ2 t2_2 t15 g6 g16 g17 g18 g19 g20 g21 g22 H_2 hI
        obtain ⟨rfl, v_14, v_15, hμ, e⟩ := hI
        rw [impl_areFinite_r2]
        have e := e.trans (p_impl_areFinite_l2_s l_lists t2 t9 (fun (t2_2 : Bool) (t15 : Int) => (p_impl_areFinite_l1 l_lists μ t2_2 (t9 + 1))) μ2 t2_2 t15)
        have l_16 := g0.1
        refine Br.intro (fun c_17 => ?_) (fun c_17 => ?_)
        · have e := e.trans (cond_t c_17)
          have c_17' := of_decide_eq_true c_17
          obtain ⟨b_18, f_19, q_20⟩ := ((i_12.grow g0)).pos (by first | omega | (simp only [List.length_set, List.length_replicate, List.length_append, List.length_cons, List.length_nil, List.length_take, List.length_drop, marks_length]; done) | (simp only [List.length_set, List.length_replicate, List.length_append, List.length_cons, List.length_nil, List.length_take, List.length_drop, marks_length]; omega))
          refine ⟨by omega, by omega, b_18, f_19, q_20, ?_⟩
          refine ⟨((((l_lists).getD (t9 : Int).toNat [])).getD (t15 : Int).toNat 0), (i_12).rd g0 q_20 (by omega) _, ?_⟩
          refine T_impl_IsFinite_i ?_
          refine Br.intro (fun c_21 => ?_) (fun c_21 => ?_)
          · have e := e.trans (cond_t c_21)
            have c_21n := nf_of_t c_21
            rw [impl_areFinite_x2_ret]
            rw [impl_areFinite_x1_ret]
            rw [e] at hk
            exact hk
          · have e := e.trans (cond_f c_21)
            have c_21n := nt_of_f c_21
            rw [show IntKind.wrap .i64 (t15 + 1) = (t15 + 1) from wrap64 (by omega) (by omega)]
            refine impl_areFinite_n2 (μ2 - 1) (by first | omega) ⟨rfl, (by first | omega | (simp only [List.length_append, List.length_cons, List.length_nil, List.length_set]; done) | (simp only [List.length_append, List.length_cons, List.length_nil, List.length_set]; omega)), (by first | omega | (simp only [List.length_append, List.length_cons, List.length_nil, List.length_set]; done) | (simp only [List.length_append, List.length_cons, List.length_nil, List.length_set]; omega)), (by first | omega), (by rw [show μ2 - 1 + 1 = μ2 from by first | omega]; exact e)⟩
        · have e := e.trans (cond_f c_17)
          have c_17' := of_decide_eq_false c_17
          rw [impl_areFinite_x2_2]
          rw [show IntKind.wrap .i64 (t9 + 1) = (t9 + 1) from wrap64 (by omega) (by omega)]
          refine impl_areFinite_n1 (μ - 1) (by first | omega) ⟨rfl, (by first | omega | (simp only [List.length_append, List.length_cons, List.length_nil, List.length_set]; done) | (simp only [List.length_append, List.length_cons, List.length_nil, List.length_set]; omega)), (by first | omega | (simp only [List.length_append, List.length_cons, List.length_nil, List.length_set]; done) | (simp only [List.length_append, List.length_cons, List.length_nil, List.length_set]; omega)), (by first | omega), (by rw [show μ - 1 + 1 = μ from by first | omega]; exact e)⟩
    · have e := e.trans (cond_f c_4)
      have c_4' := of_decide_eq_false c_4
      rw [impl_areFinite_x1_0]
      rw [e] at hk
      exact hk
theorem impl_areFinite_ok : FnOk Try.prog 81 S_impl_areFinite := by
  refine FnOk.body mix_ok E_impl_areFinite_ok Try.func81 rfl (by kernel_rfl) (by kernel_rfl) ?_ ?_ ?_ ?_ ?_
  · intro args H K K' h hk
    simp only [S_impl_areFinite] at *
    unfold F_impl_areFinite at *
    split at hk
    · obtain ⟨l_lists, i_lists, bd_22, bb_l_lists, k⟩ := hk
      exact ⟨l_lists, i_lists, bd_22, bb_l_lists, h _ _ k⟩
    · exact hk.elim
  · intro _ args H K hk
    simp only [S_impl_areFinite] at *
    unfold F_impl_areFinite at *
    split at hk
    · obtain ⟨l_lists, i_lists, bd_22, bb_l_lists, k⟩ := hk
      exact ⟨_, k, fun K' k' => ⟨l_lists, i_lists, bd_22, bb_l_lists, k'⟩⟩
    · exact hk.elim
  · intro args H K hk
    simp only [S_impl_areFinite] at *
    unfold F_impl_areFinite at *
    split at hk
    · obtain ⟨l_lists, i_lists, bd_22, bb_l_lists, k⟩ := hk
      exact ⟨_, _, k⟩
    · exact hk.elim
  · intro hq; cases hq
  · have mm := @impl_areFinite_main
    revert mm
    generalize bodyK Try.prog E_impl_areFinite Try.f81 = Q
    intro mm args H K hk
    simp only [S_impl_areFinite] at *
    unfold F_impl_areFinite at *
    split at hk
    · exact mm _ _ _ H K hk
    · exact hk.elim

def p_impl_isLong (l_list : List Nat) : Bool := (bif (p_impl_within (l_list.length : Int) (1 : Int) (128 : Int)) then (p_impl_areFinite ([l_list])) else false)
theorem p_impl_isLong_eq (l_list : List Nat) : p_impl_isLong l_list = (bif (p_impl_within (l_list.length : Int) (1 : Int) (128 : Int)) then (p_impl_areFinite ([l_list])) else false) := rfl
def T_impl_isLong (list_a : Option Addr) (list_n : Nat) (list_e : Nat) (H : AHeap) (K : Bool → AHeap → Prop) : Prop := ∃ (l_list : List Nat), IsL fF H list_a list_n l_list ∧ l_list.length < 1073741824 ∧ ((∀ H' : AHeap, Grow H H' → K (p_impl_isLong l_list) H'))
theorem T_impl_isLong_i {list_a : Option Addr} {list_n : Nat} {list_e : Nat} {H : AHeap} {K : Bool → AHeap → Prop} (h : ∃ (l_list : List Nat), IsL fF H list_a list_n l_list ∧ l_list.length < 1073741824 ∧ ((∀ H' : AHeap, Grow H H' → K (p_impl_isLong l_list) H'))) : T_impl_isLong list_a list_n list_e H K := h
theorem impl_isLong_t {l : List Nat} (h : p_impl_isLong l = true) : 1 ≤ (l.length : Int) ∧ (l.length : Int) ≤ 128 := by
  rw [p_impl_isLong_eq] at h
  cases h1 : p_impl_within (l.length : Int) 1 128
  · rw [h1] at h; cases h
  · exact impl_within_t h1
/-! impl_isLong: function 75 -/
def E_impl_isLong : Env := envOf [(54, S_impl_within), (81, S_impl_areFinite)]
def F_impl_isLong : List Value → AHeap → (Value → AHeap → Prop) → Prop
  | [.slice list_a list_n list_e], H, K => T_impl_isLong list_a list_n list_e H fun (r1 : Bool) (H' : AHeap) => K (.bool r1) H'
  | _, _, _ => False
def S_impl_isLong : FSpec := { F := F_impl_isLong, quiet := false, tame := true }
theorem impl_isLong_vc (list_a : Option Addr) (list_n : Nat) (list_e : Nat) (H : AHeap) (K : Value → AHeap → Prop) : bodyK Try.prog E_impl_isLong Try.f75 [.slice list_a list_n list_e] H K =
  (T_impl_within (list_n : Int) 1 128 H fun (r1 : Bool) (H1 : AHeap) => Br r1 (Al [.slice list_a list_n list_e] H1 fun b1 H2 => T_impl_areFinite (some ⟨b1, 0, none⟩) 1 1 H2 fun (r2 : Bool) (H3 : AHeap) => K (.bool r2) H3) (K (.bool false) H1)) := by kernel_rfl
theorem E_impl_isLong_ok : ∀ g, FnOk Try.prog g (E_impl_isLong g) := FnOk.envOf (by
  intro x hx
  simp only [List.mem_cons, List.not_mem_nil, or_false] at hx
  rcases hx with rfl | rfl
  · exact impl_within_ok
  · exact impl_areFinite_ok)
set_option maxHeartbeats 1000000 in
theorem impl_isLong_main (list_a : Option Addr) (list_n : Nat) (list_e : Nat) (H : AHeap) (K : Value → AHeap → Prop) (h : T_impl_isLong list_a list_n list_e H fun (r1 : Bool) (H' : AHeap) => K (.bool r1) H') : bodyK Try.prog E_impl_isLong Try.f75 [.slice list_a list_n list_e] H K := by
  rw [impl_isLong_vc]
  obtain ⟨l_list, i_list, bd_12, hk⟩ := h
  obtain rfl := i_list.eqn
  have e : (p_impl_isLong l_list) = _ := rfl
  have e := e.trans (p_impl_isLong_eq l_list)
  have g0 := Grow.refl H
  refine T_impl_within_i ?_
  refine Br.intro (fun c_1 => ?_) (fun c_1 => ?_)
  · have e := e.trans (cond_t c_1)
    have c_1' := impl_within_t c_1
    refine Al.intro (fun b_2 H_1 hb_3 hl_4 g_5 o_6 => ?_)
    have l_8 := g_5.1
    have g_9 := g0.trans g_5
    have l_10 := g_9.1
    have w_11 := o_6.lt
    refine T_impl_areFinite_i ⟨[l_list], ⟨_, o_6.rdAll rfl, LLc.cons (i_list.grow g_9) (LLc.nil _ _)⟩, (by first | omega | (simp only [List.length_set, List.length_replicate, List.length_append, List.length_cons, List.length_nil, List.length_take, List.length_drop, marks_length]; done) | (simp only [List.length_set, List.length_replicate, List.length_append, List.length_cons, List.length_nil, List.length_take, List.length_drop, marks_length]; omega)), (by first | assumption | (intro y hy; simp only [List.mem_cons, List.not_mem_nil, or_false] at hy; first | omega | (subst hy; omega) | (rcases hy with rfl | rfl <;> omega) | (rcases hy with rfl | rfl | rfl <;> omega))), ?_⟩
    rw [e] at hk
    exact hk  H_1 g_9 
  · have e := e.trans (cond_f c_1)
    rw [e] at hk
    exact hk  H g0 
theorem impl_isLong_ok : FnOk Try.prog 75 S_impl_isLong := by
  refine FnOk.body mix_ok E_impl_isLong_ok Try.func75 rfl (by kernel_rfl) (by kernel_rfl) ?_ ?_ ?_ ?_ ?_
  · intro args H K K' h hk
    simp only [S_impl_isLong] at *
    unfold F_impl_isLong at *
    split at hk
    · obtain ⟨l_list, i_list, bd_12, k⟩ := hk
      exact ⟨l_list, i_list, bd_12, (fun  H' gg  => h _ _ (k  H' gg ))⟩
    · exact hk.elim
  · intro hq; cases hq
  · intro args H K hk
    simp only [S_impl_isLong] at *
    unfold F_impl_isLong at *
    split at hk
    · obtain ⟨l_list, i_list, bd_12, k⟩ := hk
      exact ⟨_, _, k H (Grow.refl H)⟩
    · exact hk.elim
  · intro _ args H K hk
    simp only [S_impl_isLong] at *
    unfold F_impl_isLong at *
    split at hk
    · obtain ⟨l_list, i_list, bd_12, k⟩ := hk
      exact ⟨l_list, i_list, bd_12, (fun  H' gg  => ⟨gg, k  H' gg ⟩)⟩
    · exact hk.elim
  · have mm := @impl_isLong_main
    revert mm
    generalize bodyK Try.prog E_impl_isLong Try.f75 = Q
    intro mm args H K hk
    simp only [S_impl_isLong] at *
    unfold F_impl_isLong at *
    split at hk
    · exact mm _ _ _ H K hk
    · exact hk.elim

def p_impl_added_l1 (l_list : List Nat) : Nat → Nat → Int → Nat
  | 0, _, _ => 0
  | μ + 1, sum, t8 => (bif decide ((t8 : Int) < (l_list.length : Int)) then (p_impl_added_l1 l_list μ (fadd .f32 sum (((l_list).getD (t8 : Int).toNat 0))) (t8 + 1)) else sum)
theorem p_impl_added_l1_s (l_list : List Nat) (μ : Nat) (sum : Nat) (t8 : Int) : p_impl_added_l1 l_list (μ + 1) sum t8 = (bif decide ((t8 : Int) < (l_list.length : Int)) then (p_impl_added_l1 l_list μ (fadd .f32 sum (((l_list).getD (t8 : Int).toNat 0))) (t8 + 1)) else sum) := rfl
def p_impl_added (l_list : List Nat) : Nat := (p_impl_added_l1 l_list (Int.toNat ((l_list.length : Int) - (0 : Int)) + 1) 0 (0 : Int))
theorem p_impl_added_eq (l_list : List Nat) : p_impl_added l_list = (p_impl_added_l1 l_list (Int.toNat ((l_list.length : Int) - (0 : Int)) + 1) 0 (0 : Int)) := rfl
def T_impl_added (list_a : Option Addr) (list_n : Nat) (list_e : Nat) (H : AHeap) (K : Nat → AHeap → Prop) : Prop := ∃ (l_list : List Nat), IsL fF H list_a list_n l_list ∧ l_list.length < 1073741824 ∧ K (p_impl_added l_list) H
theorem T_impl_added_i {list_a : Option Addr} {list_n : Nat} {list_e : Nat} {H : AHeap} {K : Nat → AHeap → Prop} (h : ∃ (l_list : List Nat), IsL fF H list_a list_n l_list ∧ l_list.length < 1073741824 ∧ K (p_impl_added l_list) H) : T_impl_added list_a list_n list_e H K := h

/-! impl_added: function 174 -/
def E_impl_added : Env := envOf []
def F_impl_added : List Value → AHeap → (Value → AHeap → Prop) → Prop
  | [.slice list_a list_n list_e], H, K => T_impl_added list_a list_n list_e H fun (r1 : Nat) (H' : AHeap) => K (.float .f32 r1) H'
  | _, _, _ => False
def S_impl_added : FSpec := { F := F_impl_added, quiet := true, tame := false }
theorem impl_added_vc (list_a : Option Addr) (list_n : Nat) (list_e : Nat) (H : AHeap) (K : Value → AHeap → Prop) : bodyK Try.prog E_impl_added Try.f174 [.slice list_a list_n list_e] H K =
  (loopK (exK Try.prog E_impl_added (cl (cl (cr (cl (cr (cr (bodyC Try.f174)))))))) [.slice list_a list_n list_e, undef, .float .f32 0, .float .f32 0, undef, undef, .slice list_a list_n list_e, .int .i64 (list_n : Int), .int .i64 0, undef, undef, undef, undef, undef, undef, undef, undef] H (blockQ 0 (seqQ (exK Try.prog E_impl_added (cr (cr (cr (bodyC Try.f174))))) (retK Try.prog Try.f174 K)))) := by kernel_rfl
theorem impl_added_r1 (list_a : Option Addr) (list_e : Nat) (list_n : Nat) (sum : Nat) (t8 : Int) (g5 g9 g10 g11 g12 g13 g14 g15 : Value) (H : AHeap) (R : Post) : exK Try.prog E_impl_added (cl (cl (cr (cl (cr (cr (bodyC Try.f174))))))) [.slice list_a list_n list_e, undef, .float .f32 0, .float .f32 sum, undef, g5, .slice list_a list_n list_e, .int .i64 (list_n : Int), .int .i64 t8, g9, g10, g11, g12, g13, g14, g15, undef] H R =
  (Br (decide ((t8 : Int) < (list_n : Int))) ((0 : Int) ≤ t8 ∧ t8 < (list_n : Int) ∧ ∃ b1 f1, (list_a : Option Addr) = some ⟨b1, f1, none⟩ ∧ ∃ x1 : Nat,  rdC H b1 (f1 + (t8 : Int).toNat * 1) = some (.float .f32 x1) ∧ R .normal [.slice list_a list_n list_e, undef, .float .f32 0, .float .f32 (fadd .f32 sum x1), undef, .float .f32 x1, .slice list_a list_n list_e, .int .i64 (list_n : Int), .int .i64 (IntKind.wrap .i64 (t8 + 1)), .bool (decide ((t8 : Int) < (list_n : Int))), .pointer (some ⟨b1, f1 + (t8 : Int).toNat * 1, none⟩), .float .f32 x1, .float .f32 sum, .float .f32 x1, .float .f32 (fadd .f32 sum x1), .int .i64 (IntKind.wrap .i64 (t8 + 1)), undef] H) (R (.exit 0) [.slice list_a list_n list_e, undef, .float .f32 0, .float .f32 sum, undef, g5, .slice list_a list_n list_e, .int .i64 (list_n : Int), .int .i64 t8, .bool (decide ((t8 : Int) < (list_n : Int))), g10, g11, g12, g13, g14, g15, undef] H)) := by kernel_rfl
def impl_added_I1 (list_a : Option Addr) (list_e : Nat) (list_n : Nat) (Inv : Nat → Nat → Int → AHeap → Prop) : Nat → List Value → AHeap → Prop := fun μ tm H => ∃ (sum : Nat), ∃ (t8 : Int), ∃ g5 g9 g10 g11 g12 g13 g14 g15, tm = [.slice list_a list_n list_e, undef, .float .f32 0, .float .f32 sum, undef, g5, .slice list_a list_n list_e, .int .i64 (list_n : Int), .int .i64 t8, g9, g10, g11, g12, g13, g14, g15, undef] ∧ Inv μ sum t8 H
theorem impl_added_L1 (list_a : Option Addr) (list_e : Nat) (list_n : Nat) {Q : Post} (Inv : Nat → Nat → Int → AHeap → Prop) (ν : Nat) (sum : Nat) (t8 : Int) (g5 g9 g10 g11 g12 g13 g14 g15 : Value) (H : AHeap) (h0 : Inv ν sum t8 H)
    (hs : ∀ (μ : Nat) (sum : Nat) (t8 : Int) (g5 g9 g10 g11 g12 g13 g14 g15 : Value) (H : AHeap), Inv μ sum t8 H → exK Try.prog E_impl_added (cl (cl (cr (cl (cr (cr (bodyC Try.f174))))))) [.slice list_a list_n list_e, undef, .float .f32 0, .float .f32 sum, undef, g5, .slice list_a list_n list_e, .int .i64 (list_n : Int), .int .i64 t8, g9, g10, g11, g12, g13, g14, g15, undef] H (loopQ (impl_added_I1 list_a list_e list_n Inv) μ Q)) : loopK (exK Try.prog E_impl_added (cl (cl (cr (cl (cr (cr (bodyC Try.f174)))))))) [.slice list_a list_n list_e, undef, .float .f32 0, .float .f32 sum, undef, g5, .slice list_a list_n list_e, .int .i64 (list_n : Int), .int .i64 t8, g9, g10, g11, g12, g13, g14, g15, undef] H Q :=
  ⟨impl_added_I1 list_a list_e list_n Inv, ν, ⟨sum, t8, g5, g9, g10, g11, g12, g13, g14, g15, rfl, h0⟩, fun μ tm H h => by obtain ⟨sum, t8, g5, g9, g10, g11, g12, g13, g14, g15, rfl, hI⟩ := h; exact hs μ sum t8 g5 g9 g10 g11 g12 g13 g14 g15 H hI⟩
theorem impl_added_n1 {list_a : Option Addr} {list_e : Nat} {list_n : Nat} {Q : Post} {Inv : Nat → Nat → Int → AHeap → Prop} {μ : Nat} (μ' : Nat) {sum : Nat} {t8 : Int} {g5 g9 g10 g11 g12 g13 g14 g15 : Value} {H : AHeap} (hm : μ' < μ) (hI : Inv μ' sum t8 H) : loopQ (impl_added_I1 list_a list_e list_n Inv) μ Q .normal [.slice list_a list_n list_e, undef, .float .f32 0, .float .f32 sum, undef, g5, .slice list_a list_n list_e, .int .i64 (list_n : Int), .int .i64 t8, g9, g10, g11, g12, g13, g14, g15, undef] H := ⟨μ', hm, sum, t8, g5, g9, g10, g11, g12, g13, g14, g15, rfl, hI⟩
theorem impl_added_x1_0 (list_a : Option Addr) (list_e : Nat) (list_n : Nat) (sum : Nat) (t8 : Int) (g5 g9 g10 g11 g12 g13 g14 g15 : Value) (H : AHeap) (K : Value → AHeap → Prop)  {I : Nat → List Value → AHeap → Prop} {μ : Nat} : loopQ I μ (blockQ 0 (seqQ (exK Try.prog E_impl_added (cr (cr (cr (bodyC Try.f174))))) (retK Try.prog Try.f174 K))) (.exit 0) [.slice list_a list_n list_e, undef, .float .f32 0, .float .f32 sum, undef, g5, .slice list_a list_n list_e, .int .i64 (list_n : Int), .int .i64 t8, g9, g10, g11, g12, g13, g14, g15, undef] H =
  (K (.float .f32 sum) H) := by kernel_rfl
theorem E_impl_added_ok : ∀ g, FnOk Try.prog g (E_impl_added g) := FnOk.envOf (by
  intro x hx; cases hx)
set_option maxHeartbeats 1000000 in
theorem impl_added_main (list_a : Option Addr) (list_n : Nat) (list_e : Nat) (H : AHeap) (K : Value → AHeap → Prop) (h : T_impl_added list_a list_n list_e H fun (r1 : Nat) (H' : AHeap) => K (.float .f32 r1) H') : bodyK Try.prog E_impl_added Try.f174 [.slice list_a list_n list_e] H K := by
  rw [impl_added_vc]
  obtain ⟨l_list, i_list, bd_8, hk⟩ := h
  obtain rfl := i_list.eqn
  have e : (p_impl_added l_list) = _ := rfl
  have e := e.trans (p_impl_added_eq l_list)
  have g0 := Grow.refl H
  refine impl_added_L1 _ _ _ (fun (μ : Nat) (sum : Nat) (t8 : Int) (H_1 : AHeap) => H = H_1 ∧ (0 : Int) ≤ t8 ∧ t8 ≤ (l_list.length : Int) ∧ (l_list.length : Int) - t8 ≤ (μ : Int) ∧ p_impl_added l_list = p_impl_added_l1 l_list (μ + 1) sum t8) (Int.toNat ((l_list.length : Int) - (0 : Int))) _ _ _ _ _ _ _ _ _ _ H ?_ ?_
  · exact ⟨rfl, (by first | omega | (simp; done) | (simp; omega)), (by first | omega | (simp; done) | (simp; omega)), (by omega), e⟩
  · intro μ sum t8 g5 g9 g10 g11 g12 g13 g14 g15 H_1 hI
    obtain ⟨rfl, v_1, v_2, hμ, e⟩ := hI
    rw [impl_added_r1]
    have e := e.trans (p_impl_added_l1_s l_list μ sum t8)
    have l_3 := g0.1
    refine Br.intro (fun c_4 => ?_) (fun c_4 => ?_)
    · have e := e.trans (cond_t c_4)
      have c_4' := of_decide_eq_true c_4
      obtain ⟨b_5, f_6, q_7⟩ := ((i_list.grow g0)).pos (by first | omega | (simp only [List.length_set, List.length_replicate, List.length_append, List.length_cons, List.length_nil, List.length_take, List.length_drop, marks_length]; done) | (simp only [List.length_set, List.length_replicate, List.length_append, List.length_cons, List.length_nil, List.length_take, List.length_drop, marks_length]; omega))
      refine ⟨by omega, by omega, b_5, f_6, q_7, ?_⟩
      refine ⟨((l_list).getD (t8 : Int).toNat 0), (i_list).rd g0 q_7 (by omega) _, ?_⟩
      rw [show IntKind.wrap .i64 (t8 + 1) = (t8 + 1) from wrap64 (by omega) (by omega)]
      refine impl_added_n1 (μ - 1) (by first | omega) ⟨rfl, (by first | omega | (simp only [List.length_append, List.length_cons, List.length_nil, List.length_set]; done) | (simp only [List.length_append, List.length_cons, List.length_nil, List.length_set]; omega)), (by first | omega | (simp only [List.length_append, List.length_cons, List.length_nil, List.length_set]; done) | (simp only [List.length_append, List.length_cons, List.length_nil, List.length_set]; omega)), (by first | omega), (by rw [show μ - 1 + 1 = μ from by first | omega]; exact e)⟩
    · have e := e.trans (cond_f c_4)
      have c_4' := of_decide_eq_false c_4
      rw [impl_added_x1_0]
      rw [e] at hk
      exact hk
theorem impl_added_ok : FnOk Try.prog 174 S_impl_added := by
  refine FnOk.body mix_ok E_impl_added_ok Try.func174 rfl (by kernel_rfl) (by kernel_rfl) ?_ ?_ ?_ ?_ ?_
  · intro args H K K' h hk
    simp only [S_impl_added] at *
    unfold F_impl_added at *
    split at hk
    · obtain ⟨l_list, i_list, bd_8, k⟩ := hk
      exact ⟨l_list, i_list, bd_8, h _ _ k⟩
    · exact hk.elim
  · intro _ args H K hk
    simp only [S_impl_added] at *
    unfold F_impl_added at *
    split at hk
    · obtain ⟨l_list, i_list, bd_8, k⟩ := hk
      exact ⟨_, k, fun K' k' => ⟨l_list, i_list, bd_8, k'⟩⟩
    · exact hk.elim
  · intro args H K hk
    simp only [S_impl_added] at *
    unfold F_impl_added at *
    split at hk
    · obtain ⟨l_list, i_list, bd_8, k⟩ := hk
      exact ⟨_, _, k⟩
    · exact hk.elim
  · intro hq; cases hq
  · have mm := @impl_added_main
    revert mm
    generalize bodyK Try.prog E_impl_added Try.f174 = Q
    intro mm args H K hk
    simp only [S_impl_added] at *
    unfold F_impl_added at *
    split at hk
    · exact mm _ _ _ H K hk
    · exact hk.elim

def p_impl_mean (l_list : List Nat) : Nat := fdiv .f32 (p_impl_added l_list) (FloatKind.nearest .f32 (l_list.length : Int))
theorem p_impl_mean_eq (l_list : List Nat) : p_impl_mean l_list = fdiv .f32 (p_impl_added l_list) (FloatKind.nearest .f32 (l_list.length : Int)) := rfl
def T_impl_mean (list_a : Option Addr) (list_n : Nat) (list_e : Nat) (H : AHeap) (K : Nat → AHeap → Prop) : Prop := ∃ (l_list : List Nat), IsL fF H list_a list_n l_list ∧ l_list.length < 1073741824 ∧ K (p_impl_mean l_list) H
theorem T_impl_mean_i {list_a : Option Addr} {list_n : Nat} {list_e : Nat} {H : AHeap} {K : Nat → AHeap → Prop} (h : ∃ (l_list : List Nat), IsL fF H list_a list_n l_list ∧ l_list.length < 1073741824 ∧ K (p_impl_mean l_list) H) : T_impl_mean list_a list_n list_e H K := h

/-! impl_mean: function 138 -/
def E_impl_mean : Env := envOf [(174, S_impl_added)]
def F_impl_mean : List Value → AHeap → (Value → AHeap → Prop) → Prop
  | [.slice list_a list_n list_e], H, K => T_impl_mean list_a list_n list_e H fun (r1 : Nat) (H' : AHeap) => K (.float .f32 r1) H'
  | _, _, _ => False
def S_impl_mean : FSpec := { F := F_impl_mean, quiet := true, tame := false }
theorem impl_mean_vc (list_a : Option Addr) (list_n : Nat) (list_e : Nat) (H : AHeap) (K : Value → AHeap → Prop) : bodyK Try.prog E_impl_mean Try.f138 [.slice list_a list_n list_e] H K =
  (T_impl_added list_a list_n list_e H fun (r1 : Nat) (H1 : AHeap) => K (.float .f32 (fdiv .f32 r1 (FloatKind.nearest .f32 (list_n : Int)))) H1) := by kernel_rfl
theorem E_impl_mean_ok : ∀ g, FnOk Try.prog g (E_impl_mean g) := FnOk.envOf (by
  intro x hx
  simp only [List.mem_cons, List.not_mem_nil, or_false] at hx
  subst hx; exact impl_added_ok)
set_option maxHeartbeats 1000000 in
theorem impl_mean_main (list_a : Option Addr) (list_n : Nat) (list_e : Nat) (H : AHeap) (K : Value → AHeap → Prop) (h : T_impl_mean list_a list_n list_e H fun (r1 : Nat) (H' : AHeap) => K (.float .f32 r1) H') : bodyK Try.prog E_impl_mean Try.f138 [.slice list_a list_n list_e] H K := by
  rw [impl_mean_vc]
  obtain ⟨l_list, i_list, bd_1, hk⟩ := h
  obtain rfl := i_list.eqn
  have e : (p_impl_mean l_list) = _ := rfl
  have e := e.trans (p_impl_mean_eq l_list)
  have g0 := Grow.refl H
  refine T_impl_added_i ⟨_, (i_list.grow g0), (by first | omega | (simp only [List.length_set, List.length_replicate, List.length_append, List.length_cons, List.length_nil, List.length_take, List.length_drop, marks_length]; done) | (simp only [List.length_set, List.length_replicate, List.length_append, List.length_cons, List.length_nil, List.length_take, List.length_drop, marks_length]; omega)), ?_⟩
  rw [e] at hk
  exact hk
theorem impl_mean_ok : FnOk Try.prog 138 S_impl_mean := by
  refine FnOk.body mix_ok E_impl_mean_ok Try.func138 rfl (by kernel_rfl) (by kernel_rfl) ?_ ?_ ?_ ?_ ?_
  · intro args H K K' h hk
    simp only [S_impl_mean] at *
    unfold F_impl_mean at *
    split at hk
    · obtain ⟨l_list, i_list, bd_1, k⟩ := hk
      exact ⟨l_list, i_list, bd_1, h _ _ k⟩
    · exact hk.elim
  · intro _ args H K hk
    simp only [S_impl_mean] at *
    unfold F_impl_mean at *
    split at hk
    · obtain ⟨l_list, i_list, bd_1, k⟩ := hk
      exact ⟨_, k, fun K' k' => ⟨l_list, i_list, bd_1, k'⟩⟩
    · exact hk.elim
  · intro args H K hk
    simp only [S_impl_mean] at *
    unfold F_impl_mean at *
    split at hk
    · obtain ⟨l_list, i_list, bd_1, k⟩ := hk
      exact ⟨_, _, k⟩
    · exact hk.elim
  · intro hq; cases hq
  · have mm := @impl_mean_main
    revert mm
    generalize bodyK Try.prog E_impl_mean Try.f138 = Q
    intro mm args H K hk
    simp only [S_impl_mean] at *
    unfold F_impl_mean at *
    split at hk
    · exact mm _ _ _ H K hk
    · exact hk.elim

def p_impl_gainAt (l_list : List Nat) (m : Nat) (k : Int) : Nat := fadd .f32 (fmul .f32 (fmul .f32 (FloatKind.nearest .f32 k) (fsub .f32 ((p_impl_mean ((((l_list).drop (0 : Int).toNat).take ((k : Int) - 0).toNat)))) m)) (fsub .f32 ((p_impl_mean ((((l_list).drop (0 : Int).toNat).take ((k : Int) - 0).toNat)))) m)) (fmul .f32 (fmul .f32 (FloatKind.nearest .f32 (((l_list.length : Int) - k))) (fsub .f32 ((p_impl_mean ((((l_list).drop (k : Int).toNat).take (((l_list.length : Int) : Int) - k).toNat)))) m)) (fsub .f32 ((p_impl_mean ((((l_list).drop (k : Int).toNat).take (((l_list.length : Int) : Int) - k).toNat)))) m))
theorem p_impl_gainAt_eq (l_list : List Nat) (m : Nat) (k : Int) : p_impl_gainAt l_list m k = fadd .f32 (fmul .f32 (fmul .f32 (FloatKind.nearest .f32 k) (fsub .f32 ((p_impl_mean ((((l_list).drop (0 : Int).toNat).take ((k : Int) - 0).toNat)))) m)) (fsub .f32 ((p_impl_mean ((((l_list).drop (0 : Int).toNat).take ((k : Int) - 0).toNat)))) m)) (fmul .f32 (fmul .f32 (FloatKind.nearest .f32 (((l_list.length : Int) - k))) (fsub .f32 ((p_impl_mean ((((l_list).drop (k : Int).toNat).take (((l_list.length : Int) : Int) - k).toNat)))) m)) (fsub .f32 ((p_impl_mean ((((l_list).drop (k : Int).toNat).take (((l_list.length : Int) : Int) - k).toNat)))) m)) := rfl
def T_impl_gainAt (list_a : Option Addr) (list_n : Nat) (list_e : Nat) (m : Nat) (k : Int) (H : AHeap) (K : Nat → AHeap → Prop) : Prop := ∃ (l_list : List Nat), IsL fF H list_a list_n l_list ∧ l_list.length < 1073741824 ∧ 0 ≤ k ∧ k ≤ (l_list.length : Int) ∧ K (p_impl_gainAt l_list m k) H
theorem T_impl_gainAt_i {list_a : Option Addr} {list_n : Nat} {list_e : Nat} {m : Nat} {k : Int} {H : AHeap} {K : Nat → AHeap → Prop} (h : ∃ (l_list : List Nat), IsL fF H list_a list_n l_list ∧ l_list.length < 1073741824 ∧ 0 ≤ k ∧ k ≤ (l_list.length : Int) ∧ K (p_impl_gainAt l_list m k) H) : T_impl_gainAt list_a list_n list_e m k H K := h

/-! impl_gainAt: function 139 -/
def E_impl_gainAt : Env := envOf [(138, S_impl_mean)]
def F_impl_gainAt : List Value → AHeap → (Value → AHeap → Prop) → Prop
  | [.slice list_a list_n list_e, .float .f32 m, .int .i64 k], H, K => T_impl_gainAt list_a list_n list_e m k H fun (r1 : Nat) (H' : AHeap) => K (.float .f32 r1) H'
  | _, _, _ => False
def S_impl_gainAt : FSpec := { F := F_impl_gainAt, quiet := true, tame := false }
theorem impl_gainAt_vc (list_a : Option Addr) (list_n : Nat) (list_e : Nat) (m : Nat) (k : Int) (H : AHeap) (K : Value → AHeap → Prop) : bodyK Try.prog E_impl_gainAt Try.f139 [.slice list_a list_n list_e, .float .f32 m, .int .i64 k] H K =
  ((0 : Int) ≤ 0 ∧ 0 ≤ k ∧ k ≤ (list_n : Int) ∧ T_impl_mean ((list_a : Option Addr).map fun a => ⟨a.block, a.off + (0 : Int).toNat * 1, none⟩) (((k : Int) - 0).toNat) 0 H fun (r1 : Nat) (H1 : AHeap) => (0 : Int) ≤ k ∧ k ≤ (list_n : Int) ∧ (list_n : Int) ≤ (list_n : Int) ∧ T_impl_mean ((list_a : Option Addr).map fun a => ⟨a.block, a.off + (k : Int).toNat * 1, none⟩) ((((list_n : Int) : Int) - k).toNat) 0 H1 fun (r2 : Nat) (H2 : AHeap) => K (.float .f32 (fadd .f32 (fmul .f32 (fmul .f32 (FloatKind.nearest .f32 k) (fsub .f32 r1 m)) (fsub .f32 r1 m)) (fmul .f32 (fmul .f32 (FloatKind.nearest .f32 (IntKind.wrap .i64 ((list_n : Int) - k))) (fsub .f32 r2 m)) (fsub .f32 r2 m)))) H2) := by kernel_rfl
theorem E_impl_gainAt_ok : ∀ g, FnOk Try.prog g (E_impl_gainAt g) := FnOk.envOf (by
  intro x hx
  simp only [List.mem_cons, List.not_mem_nil, or_false] at hx
  subst hx; exact impl_mean_ok)
set_option maxHeartbeats 1000000 in
theorem impl_gainAt_main (list_a : Option Addr) (list_n : Nat) (list_e : Nat) (m : Nat) (k : Int) (H : AHeap) (K : Value → AHeap → Prop) (h : T_impl_gainAt list_a list_n list_e m k H fun (r1 : Nat) (H' : AHeap) => K (.float .f32 r1) H') : bodyK Try.prog E_impl_gainAt Try.f139 [.slice list_a list_n list_e, .float .f32 m, .int .i64 k] H K := by
  rw [impl_gainAt_vc]
  obtain ⟨l_list, i_list, bd_3, pr0, pr1, hk⟩ := h
  obtain rfl := i_list.eqn
  have e : (p_impl_gainAt l_list m k) = _ := rfl
  have e := e.trans (p_impl_gainAt_eq l_list m k)
  have g0 := Grow.refl H
  refine ⟨by omega, by omega, by omega, ?_⟩
  have i_1 := sub_isl i_list (lo := 0) (hi := k) (by omega) (by omega) (by omega)
  refine T_impl_mean_i ⟨_, (i_1.grow g0), (by first | omega | (simp only [List.length_set, List.length_replicate, List.length_append, List.length_cons, List.length_nil, List.length_take, List.length_drop, marks_length]; done) | (simp only [List.length_set, List.length_replicate, List.length_append, List.length_cons, List.length_nil, List.length_take, List.length_drop, marks_length]; omega)), ?_⟩
  refine ⟨by omega, by omega, by omega, ?_⟩
  have i_2 := sub_isl i_list (lo := k) (hi := (l_list.length : Int)) (by omega) (by omega) (by omega)
  refine T_impl_mean_i ⟨_, (i_2.grow g0), (by first | omega | (simp only [List.length_set, List.length_replicate, List.length_append, List.length_cons, List.length_nil, List.length_take, List.length_drop, marks_length]; done) | (simp only [List.length_set, List.length_replicate, List.length_append, List.length_cons, List.length_nil, List.length_take, List.length_drop, marks_length]; omega)), ?_⟩
  rw [show IntKind.wrap .i64 ((l_list.length : Int) - k) = ((l_list.length : Int) - k) from wrap64 (by omega) (by omega)]
  rw [e] at hk
  exact hk
theorem impl_gainAt_ok : FnOk Try.prog 139 S_impl_gainAt := by
  refine FnOk.body mix_ok E_impl_gainAt_ok Try.func139 rfl (by kernel_rfl) (by kernel_rfl) ?_ ?_ ?_ ?_ ?_
  · intro args H K K' h hk
    simp only [S_impl_gainAt] at *
    unfold F_impl_gainAt at *
    split at hk
    · obtain ⟨l_list, i_list, bd_3, pr0, pr1, k⟩ := hk
      exact ⟨l_list, i_list, bd_3, pr0, pr1, h _ _ k⟩
    · exact hk.elim
  · intro _ args H K hk
    simp only [S_impl_gainAt] at *
    unfold F_impl_gainAt at *
    split at hk
    · obtain ⟨l_list, i_list, bd_3, pr0, pr1, k⟩ := hk
      exact ⟨_, k, fun K' k' => ⟨l_list, i_list, bd_3, pr0, pr1, k'⟩⟩
    · exact hk.elim
  · intro args H K hk
    simp only [S_impl_gainAt] at *
    unfold F_impl_gainAt at *
    split at hk
    · obtain ⟨l_list, i_list, bd_3, pr0, pr1, k⟩ := hk
      exact ⟨_, _, k⟩
    · exact hk.elim
  · intro hq; cases hq
  · have mm := @impl_gainAt_main
    revert mm
    generalize bodyK Try.prog E_impl_gainAt Try.f139 = Q
    intro mm args H K hk
    simp only [S_impl_gainAt] at *
    unfold F_impl_gainAt at *
    split at hk
    · exact mm _ _ _ _ _ H K hk
    · exact hk.elim

def p_impl_BestBreak_l1 (l_list : List Nat) : Nat → Int → Nat → Int → Int × Nat × Bool
  | 0, _, _, _ => (0, 0, false)
  | μ + 1, vat, best, k => (bif decide ((k : Int) < (l_list.length : Int)) then (bif flt .f32 best ((p_impl_gainAt l_list (p_impl_mean l_list) k)) then (p_impl_BestBreak_l1 l_list μ k ((p_impl_gainAt l_list (p_impl_mean l_list) k)) (k + 1)) else (p_impl_BestBreak_l1 l_list μ vat best (k + 1))) else (bif !(p_impl_IsFinite best) then ((0 : Int), 0, false) else (vat, best, true)))
theorem p_impl_BestBreak_l1_s (l_list : List Nat) (μ : Nat) (vat : Int) (best : Nat) (k : Int) : p_impl_BestBreak_l1 l_list (μ + 1) vat best k = (bif decide ((k : Int) < (l_list.length : Int)) then (bif flt .f32 best ((p_impl_gainAt l_list (p_impl_mean l_list) k)) then (p_impl_BestBreak_l1 l_list μ k ((p_impl_gainAt l_list (p_impl_mean l_list) k)) (k + 1)) else (p_impl_BestBreak_l1 l_list μ vat best (k + 1))) else (bif !(p_impl_IsFinite best) then ((0 : Int), 0, false) else (vat, best, true))) := rfl
def p_impl_BestBreak (l_list : List Nat) : Int × Nat × Bool := (bif !(p_impl_isLong l_list) then ((0 : Int), 0, false) else (bif decide (((l_list.length : Int) : Int) < 2) then ((0 : Int), 0, false) else (p_impl_BestBreak_l1 l_list (Int.toNat ((l_list.length : Int) - (2 : Int)) + 1) (1 : Int) ((p_impl_gainAt l_list (p_impl_mean l_list) (1 : Int))) (2 : Int))))
theorem p_impl_BestBreak_eq (l_list : List Nat) : p_impl_BestBreak l_list = (bif !(p_impl_isLong l_list) then ((0 : Int), 0, false) else (bif decide (((l_list.length : Int) : Int) < 2) then ((0 : Int), 0, false) else (p_impl_BestBreak_l1 l_list (Int.toNat ((l_list.length : Int) - (2 : Int)) + 1) (1 : Int) ((p_impl_gainAt l_list (p_impl_mean l_list) (1 : Int))) (2 : Int)))) := rfl
def T_impl_BestBreak (list_a : Option Addr) (list_n : Nat) (list_e : Nat) (H : AHeap) (K : Int → Nat → Bool → AHeap → Prop) : Prop := ∃ (l_list : List Nat), IsL fF H list_a list_n l_list ∧ l_list.length < 1073741824 ∧ ((∀ H' : AHeap, Grow H H' → K ((p_impl_BestBreak l_list).1) ((p_impl_BestBreak l_list).2.1) ((p_impl_BestBreak l_list).2.2) H'))
theorem T_impl_BestBreak_i {list_a : Option Addr} {list_n : Nat} {list_e : Nat} {H : AHeap} {K : Int → Nat → Bool → AHeap → Prop} (h : ∃ (l_list : List Nat), IsL fF H list_a list_n l_list ∧ l_list.length < 1073741824 ∧ ((∀ H' : AHeap, Grow H H' → K ((p_impl_BestBreak l_list).1) ((p_impl_BestBreak l_list).2.1) ((p_impl_BestBreak l_list).2.2) H'))) : T_impl_BestBreak list_a list_n list_e H K := h
theorem cnd {α : Type} {P : α → Prop} {b : Bool} {x y : α} (h1 : b = true → P x) (h2 : b = false → P y) : P (bif b then x else y) := by
  cases b
  · exact h2 rfl
  · exact h1 rfl
def Bin (n : Nat) (r : Int × Nat × Bool) : Prop := 0 ≤ r.1 ∧ r.1 ≤ (n : Int) ∧ (r.2.2 = true → 1 ≤ r.1 ∧ r.1 < (n : Int))
theorem bin_no (n x : Nat) : Bin n (0, x, false) := ⟨Int.le_refl _, Int.natCast_nonneg _, fun h => by cases h⟩
theorem impl_BestBreak_l1_at (l : List Nat) : ∀ (μ : Nat) (vat : Int) (b : Nat) (k : Int), 1 ≤ vat → vat < (l.length : Int) → 1 ≤ k → Bin l.length (p_impl_BestBreak_l1 l μ vat b k) := by
  intro μ
  induction μ with
  | zero => intro vat b k h0 h1 h2; exact bin_no _ _
  | succ μ ih =>
    intro vat b k h0 h1 h2
    rw [p_impl_BestBreak_l1_s]
    refine cnd (fun h => ?_) (fun h => ?_)
    · have hk := of_decide_eq_true h
      exact cnd (fun h => ih _ _ _ (by omega) (by omega) (by omega)) (fun h => ih _ _ _ (by omega) (by omega) (by omega))
    · exact cnd (fun h => bin_no _ _) (fun h => ⟨show (0 : Int) ≤ vat by omega, show vat ≤ _ by omega, fun _ => ⟨h0, h1⟩⟩)
theorem impl_BestBreak_bin (l : List Nat) : Bin l.length (p_impl_BestBreak l) := by
  rw [p_impl_BestBreak_eq]
  refine cnd (fun h => bin_no _ _) (fun h => ?_)
  refine cnd (fun h => bin_no _ _) (fun h => ?_)
  have := of_decide_eq_false h
  exact impl_BestBreak_l1_at _ _ _ _ _ (by decide) (by omega) (by decide)
theorem impl_BestBreak_at (l : List Nat) : 0 ≤ (p_impl_BestBreak l).1 ∧ (p_impl_BestBreak l).1 ≤ (l.length : Int) := ⟨(impl_BestBreak_bin l).1, (impl_BestBreak_bin l).2.1⟩
/-! impl_BestBreak: function 104 -/
def E_impl_BestBreak : Env := envOf [(75, S_impl_isLong), (138, S_impl_mean), (139, S_impl_gainAt), (56, S_impl_IsFinite)]
def F_impl_BestBreak : List Value → AHeap → (Value → AHeap → Prop) → Prop
  | [.slice list_a list_n list_e], H, K => T_impl_BestBreak list_a list_n list_e H fun (r1 : Int) (r2 : Nat) (r3 : Bool) (H' : AHeap) => K (.tuple #[.int .i64 r1, .float .f32 r2, .bool r3]) H'
  | _, _, _ => False
def S_impl_BestBreak : FSpec := { F := F_impl_BestBreak, quiet := false, tame := true }
theorem impl_BestBreak_vc (list_a : Option Addr) (list_n : Nat) (list_e : Nat) (H : AHeap) (K : Value → AHeap → Prop) : bodyK Try.prog E_impl_BestBreak Try.f104 [.slice list_a list_n list_e] H K =
  (T_impl_isLong list_a list_n list_e H fun (r1 : Bool) (H1 : AHeap) => Br (!r1) (K (.tuple #[.int .i64 0, .float .f32 0, .bool false]) H1) (Br (decide (((list_n : Int) : Int) < 2)) (K (.tuple #[.int .i64 0, .float .f32 0, .bool false]) H1) (T_impl_mean list_a list_n list_e H1 fun (r2 : Nat) (H2 : AHeap) => T_impl_gainAt list_a list_n list_e r2 1 H2 fun (r3 : Nat) (H3 : AHeap) => loopK (exK Try.prog E_impl_BestBreak (cl (cl (cr (cl (cr (cr (cr (cr (bodyC Try.f104)))))))))) [.slice list_a list_n list_e, undef, .int .i64 0, .float .f32 0, .bool false, .float .f32 r2, .int .i64 1, .float .f32 r3, .int .i64 2, undef, .slice list_a list_n list_e, .bool r1, .bool (!r1), .bool false, .slice list_a list_n list_e, .int .i64 (list_n : Int), .bool (decide (((list_n : Int) : Int) < 2)), .bool (decide (((list_n : Int) : Int) < 2)), .slice list_a list_n list_e, .float .f32 r2, .slice list_a list_n list_e, .float .f32 r2, .float .f32 r3, undef, undef, undef, undef, undef, undef, undef, undef, undef, undef, undef, undef, undef, undef, undef, undef, undef, undef, undef, undef] H3 (blockQ 0 (seqQ (exK Try.prog E_impl_BestBreak (cr (cr (cr (cr (cr (bodyC Try.f104))))))) (retK Try.prog Try.f104 K)))))) := by kernel_rfl
theorem impl_BestBreak_r1 (list_a : Option Addr) (list_e : Nat) (list_n : Nat) (r1 : Bool) (r2 : Nat) (r3 : Nat) (vat : Int) (best : Nat) (k : Int) (g9 g23 g24 g25 g26 g27 g28 g29 g30 g31 g32 g33 g34 g35 g36 g37 : Value) (H : AHeap) (R : Post) : exK Try.prog E_impl_BestBreak (cl (cl (cr (cl (cr (cr (cr (cr (bodyC Try.f104))))))))) [.slice list_a list_n list_e, undef, .int .i64 0, .float .f32 0, .bool false, .float .f32 r2, .int .i64 vat, .float .f32 best, .int .i64 k, g9, .slice list_a list_n list_e, .bool r1, .bool (!r1), .bool false, .slice list_a list_n list_e, .int .i64 (list_n : Int), .bool (decide (((list_n : Int) : Int) < 2)), .bool (decide (((list_n : Int) : Int) < 2)), .slice list_a list_n list_e, .float .f32 r2, .slice list_a list_n list_e, .float .f32 r2, .float .f32 r3, g23, g24, g25, g26, g27, g28, g29, g30, g31, g32, g33, g34, g35, g36, g37, undef, undef, undef, undef, undef] H R =
  (Br (decide ((k : Int) < (list_n : Int))) (T_impl_gainAt list_a list_n list_e r2 k H fun (r4 : Nat) (H4 : AHeap) => Br (flt .f32 best r4) (R .normal [.slice list_a list_n list_e, undef, .int .i64 0, .float .f32 0, .bool false, .float .f32 r2, .int .i64 k, .float .f32 r4, .int .i64 (IntKind.wrap .i64 (k + 1)), .float .f32 r4, .slice list_a list_n list_e, .bool r1, .bool (!r1), .bool false, .slice list_a list_n list_e, .int .i64 (list_n : Int), .bool (decide (((list_n : Int) : Int) < 2)), .bool (decide (((list_n : Int) : Int) < 2)), .slice list_a list_n list_e, .float .f32 r2, .slice list_a list_n list_e, .float .f32 r2, .float .f32 r3, .int .i64 k, .slice list_a list_n list_e, .int .i64 (list_n : Int), .bool (decide ((k : Int) < (list_n : Int))), .int .i64 k, .int .i64 (IntKind.wrap .i64 (k + 1)), .slice list_a list_n list_e, .float .f32 r2, .int .i64 k, .float .f32 r4, .float .f32 r4, .float .f32 best, .bool (flt .f32 best r4), .int .i64 k, .float .f32 r4, undef, undef, undef, undef, undef] H4) (R .normal [.slice list_a list_n list_e, undef, .int .i64 0, .float .f32 0, .bool false, .float .f32 r2, .int .i64 vat, .float .f32 best, .int .i64 (IntKind.wrap .i64 (k + 1)), .float .f32 r4, .slice list_a list_n list_e, .bool r1, .bool (!r1), .bool false, .slice list_a list_n list_e, .int .i64 (list_n : Int), .bool (decide (((list_n : Int) : Int) < 2)), .bool (decide (((list_n : Int) : Int) < 2)), .slice list_a list_n list_e, .float .f32 r2, .slice list_a list_n list_e, .float .f32 r2, .float .f32 r3, .int .i64 k, .slice list_a list_n list_e, .int .i64 (list_n : Int), .bool (decide ((k : Int) < (list_n : Int))), .int .i64 k, .int .i64 (IntKind.wrap .i64 (k + 1)), .slice list_a list_n list_e, .float .f32 r2, .int .i64 k, .float .f32 r4, .float .f32 r4, .float .f32 best, .bool (flt .f32 best r4), g36, g37, undef, undef, undef, undef, undef] H4)) (R (.exit 0) [.slice list_a list_n list_e, undef, .int .i64 0, .float .f32 0, .bool false, .float .f32 r2, .int .i64 vat, .float .f32 best, .int .i64 k, g9, .slice list_a list_n list_e, .bool r1, .bool (!r1), .bool false, .slice list_a list_n list_e, .int .i64 (list_n : Int), .bool (decide (((list_n : Int) : Int) < 2)), .bool (decide (((list_n : Int) : Int) < 2)), .slice list_a list_n list_e, .float .f32 r2, .slice list_a list_n list_e, .float .f32 r2, .float .f32 r3, .int .i64 k, .slice list_a list_n list_e, .int .i64 (list_n : Int), .bool (decide ((k : Int) < (list_n : Int))), g27, g28, g29, g30, g31, g32, g33, g34, g35, g36, g37, undef, undef, undef, undef, undef] H)) := by kernel_rfl
def impl_BestBreak_I1 (list_a : Option Addr) (list_e : Nat) (list_n : Nat) (r1 : Bool) (r2 : Nat) (r3 : Nat) (Inv : Nat → Int → Nat → Int → AHeap → Prop) : Nat → List Value → AHeap → Prop := fun μ tm H => ∃ (vat : Int), ∃ (best : Nat), ∃ (k : Int), ∃ g9 g23 g24 g25 g26 g27 g28 g29 g30 g31 g32 g33 g34 g35 g36 g37, tm = [.slice list_a list_n list_e, undef, .int .i64 0, .float .f32 0, .bool false, .float .f32 r2, .int .i64 vat, .float .f32 best, .int .i64 k, g9, .slice list_a list_n list_e, .bool r1, .bool (!r1), .bool false, .slice list_a list_n list_e, .int .i64 (list_n : Int), .bool (decide (((list_n : Int) : Int) < 2)), .bool (decide (((list_n : Int) : Int) < 2)), .slice list_a list_n list_e, .float .f32 r2, .slice list_a list_n list_e, .float .f32 r2, .float .f32 r3, g23, g24, g25, g26, g27, g28, g29, g30, g31, g32, g33, g34, g35, g36, g37, undef, undef, undef, undef, undef] ∧ Inv μ vat best k H
theorem impl_BestBreak_L1 (list_a : Option Addr) (list_e : Nat) (list_n : Nat) (r1 : Bool) (r2 : Nat) (r3 : Nat) {Q : Post} (Inv : Nat → Int → Nat → Int → AHeap → Prop) (ν : Nat) (vat : Int) (best : Nat) (k : Int) (g9 g23 g24 g25 g26 g27 g28 g29 g30 g31 g32 g33 g34 g35 g36 g37 : Value) (H : AHeap) (h0 : Inv ν vat best k H)
    (hs : ∀ (μ : Nat) (vat : Int) (best : Nat) (k : Int) (g9 g23 g24 g25 g26 g27 g28 g29 g30 g31 g32 g33 g34 g35 g36 g37 : Value) (H : AHeap), Inv μ vat best k H → exK Try.prog E_impl_BestBreak (cl (cl (cr (cl (cr (cr (cr (cr (bodyC Try.f104))))))))) [.slice list_a list_n list_e, undef, .int .i64 0, .float .f32 0, .bool false, .float .f32 r2, .int .i64 vat, .float .f32 best, .int .i64 k, g9, .slice list_a list_n list_e, .bool r1, .bool (!r1), .bool false, .slice list_a list_n list_e, .int .i64 (list_n : Int), .bool (decide (((list_n : Int) : Int) < 2)), .bool (decide (((list_n : Int) : Int) < 2)), .slice list_a list_n list_e, .float .f32 r2, .slice list_a list_n list_e, .float .f32 r2, .float .f32 r3, g23, g24, g25, g26, g27, g28, g29, g30, g31, g32, g33, g34, g35, g36, g37, undef, undef, undef, undef, undef] H (loopQ (impl_BestBreak_I1 list_a list_e list_n r1 r2 r3 Inv) μ Q)) : loopK (exK Try.prog E_impl_BestBreak (cl (cl (cr (cl (cr (cr (cr (cr (bodyC Try.f104)))))))))) [.slice list_a list_n list_e, undef, .int .i64 0, .float .f32 0, .bool false, .float .f32 r2, .int .i64 vat, .float .f32 best, .int .i64 k, g9, .slice list_a list_n list_e, .bool r1, .bool (!r1), .bool false, .slice list_a list_n list_e, .int .i64 (list_n : Int), .bool (decide (((list_n : Int) : Int) < 2)), .bool (decide (((list_n : Int) : Int) < 2)), .slice list_a list_n list_e, .float .f32 r2, .slice list_a list_n list_e, .float .f32 r2, .float .f32 r3, g23, g24, g25, g26, g27, g28, g29, g30, g31, g32, g33, g34, g35, g36, g37, undef, undef, undef, undef, undef] H Q :=
  ⟨impl_BestBreak_I1 list_a list_e list_n r1 r2 r3 Inv, ν, ⟨vat, best, k, g9, g23, g24, g25, g26, g27, g28, g29, g30, g31, g32, g33, g34, g35, g36, g37, rfl, h0⟩, fun μ tm H h => by obtain ⟨vat, best, k, g9, g23, g24, g25, g26, g27, g28, g29, g30, g31, g32, g33, g34, g35, g36, g37, rfl, hI⟩ := h; exact hs μ vat best k g9 g23 g24 g25 g26 g27 g28 g29 g30 g31 g32 g33 g34 g35 g36 g37 H hI⟩
theorem impl_BestBreak_n1 {list_a : Option Addr} {list_e : Nat} {list_n : Nat} {r1 : Bool} {r2 : Nat} {r3 : Nat} {Q : Post} {Inv : Nat → Int → Nat → Int → AHeap → Prop} {μ : Nat} (μ' : Nat) {vat : Int} {best : Nat} {k : Int} {g9 g23 g24 g25 g26 g27 g28 g29 g30 g31 g32 g33 g34 g35 g36 g37 : Value} {H : AHeap} (hm : μ' < μ) (hI : Inv μ' vat best k H) : loopQ (impl_BestBreak_I1 list_a list_e list_n r1 r2 r3 Inv) μ Q .normal [.slice list_a list_n list_e, undef, .int .i64 0, .float .f32 0, .bool false, .float .f32 r2, .int .i64 vat, .float .f32 best, .int .i64 k, g9, .slice list_a list_n list_e, .bool r1, .bool (!r1), .bool false, .slice list_a list_n list_e, .int .i64 (list_n : Int), .bool (decide (((list_n : Int) : Int) < 2)), .bool (decide (((list_n : Int) : Int) < 2)), .slice list_a list_n list_e, .float .f32 r2, .slice list_a list_n list_e, .float .f32 r2, .float .f32 r3, g23, g24, g25, g26, g27, g28, g29, g30, g31, g32, g33, g34, g35, g36, g37, undef, undef, undef, undef, undef] H := ⟨μ', hm, vat, best, k, g9, g23, g24, g25, g26, g27, g28, g29, g30, g31, g32, g33, g34, g35, g36, g37, rfl, hI⟩
theorem impl_BestBreak_x1_0 (list_a : Option Addr) (list_e : Nat) (list_n : Nat) (r1 : Bool) (r2 : Nat) (r3 : Nat) (vat : Int) (best : Nat) (k : Int) (g9 g23 g24 g25 g26 g27 g28 g29 g30 g31 g32 g33 g34 g35 g36 g37 : Value) (H : AHeap) (K : Value → AHeap → Prop)  {I : Nat → List Value → AHeap → Prop} {μ : Nat} : loopQ I μ (blockQ 0 (seqQ (exK Try.prog E_impl_BestBreak (cr (cr (cr (cr (cr (bodyC Try.f104))))))) (retK Try.prog Try.f104 K))) (.exit 0) [.slice list_a list_n list_e, undef, .int .i64 0, .float .f32 0, .bool false, .float .f32 r2, .int .i64 vat, .float .f32 best, .int .i64 k, g9, .slice list_a list_n list_e, .bool r1, .bool (!r1), .bool false, .slice list_a list_n list_e, .int .i64 (list_n : Int), .bool (decide (((list_n : Int) : Int) < 2)), .bool (decide (((list_n : Int) : Int) < 2)), .slice list_a list_n list_e, .float .f32 r2, .slice list_a list_n list_e, .float .f32 r2, .float .f32 r3, g23, g24, g25, g26, g27, g28, g29, g30, g31, g32, g33, g34, g35, g36, g37, undef, undef, undef, undef, undef] H =
  (T_impl_IsFinite best H fun (r5 : Bool) (H5 : AHeap) => Br (!r5) (K (.tuple #[.int .i64 0, .float .f32 0, .bool false]) H5) (K (.tuple #[.int .i64 vat, .float .f32 best, .bool true]) H5)) := by kernel_rfl
theorem E_impl_BestBreak_ok : ∀ g, FnOk Try.prog g (E_impl_BestBreak g) := FnOk.envOf (by
  intro x hx
  simp only [List.mem_cons, List.not_mem_nil, or_false] at hx
  rcases hx with rfl | rfl | rfl | rfl
  · exact impl_isLong_ok
  · exact impl_mean_ok
  · exact impl_gainAt_ok
  · exact impl_IsFinite_ok)
set_option maxHeartbeats 1000000 in
theorem impl_BestBreak_main (list_a : Option Addr) (list_n : Nat) (list_e : Nat) (H : AHeap) (K : Value → AHeap → Prop) (h : T_impl_BestBreak list_a list_n list_e H fun (r1 : Int) (r2 : Nat) (r3 : Bool) (H' : AHeap) => K (.tuple #[.int .i64 r1, .float .f32 r2, .bool r3]) H') : bodyK Try.prog E_impl_BestBreak Try.f104 [.slice list_a list_n list_e] H K := by
  rw [impl_BestBreak_vc]
  obtain ⟨l_list, i_list, bd_13, hk⟩ := h
  obtain rfl := i_list.eqn
  have e : (p_impl_BestBreak l_list) = _ := rfl
  have e := e.trans (p_impl_BestBreak_eq l_list)
  have g0 := Grow.refl H
  refine T_impl_isLong_i ⟨_, (i_list.grow g0), (by first | omega | (simp only [List.length_set, List.length_replicate, List.length_append, List.length_cons, List.length_nil, List.length_take, List.length_drop, marks_length]; done) | (simp only [List.length_set, List.length_replicate, List.length_append, List.length_cons, List.length_nil, List.length_take, List.length_drop, marks_length]; omega)), fun  H_1 g_1  => ?_⟩
  have l_2 := g_1.1
  have g_3 := g0.trans g_1
  have l_4 := g_3.1
  refine Br.intro (fun c_5 => ?_) (fun c_5 => ?_)
  · have e := e.trans (cond_t c_5)
    have c_5n := nf_of_t c_5
    rw [e] at hk
    exact hk  H_1 g_3 
  · have e := e.trans (cond_f c_5)
    have c_5n := nt_of_f c_5
    have c_5n' := impl_isLong_t c_5n
    refine Br.intro (fun c_6 => ?_) (fun c_6 => ?_)
    · have e := e.trans (cond_t c_6)
      have c_6' := of_decide_eq_true c_6
      rw [e] at hk
      exact hk  H_1 g_3 
    · have e := e.trans (cond_f c_6)
      have c_6' := of_decide_eq_false c_6
      refine T_impl_mean_i ⟨_, (i_list.grow g_3), (by first | omega | (simp only [List.length_set, List.length_replicate, List.length_append, List.length_cons, List.length_nil, List.length_take, List.length_drop, marks_length]; done) | (simp only [List.length_set, List.length_replicate, List.length_append, List.length_cons, List.length_nil, List.length_take, List.length_drop, marks_length]; omega)), ?_⟩
      refine T_impl_gainAt_i ⟨_, (i_list.grow g_3), (by first | omega | (simp only [List.length_set, List.length_replicate, List.length_append, List.length_cons, List.length_nil, List.length_take, List.length_drop, marks_length]; done) | (simp only [List.length_set, List.length_replicate, List.length_append, List.length_cons, List.length_nil, List.length_take, List.length_drop, marks_length]; omega)), (by first | assumption | omega | (simp; omega)), (by first | assumption | omega | (simp; omega)), ?_⟩
      refine impl_BestBreak_L1 _ _ _ _ _ _ (fun (μ : Nat) (vat : Int) (best : Nat) (k : Int) (H_2 : AHeap) => H_1 = H_2 ∧ (2 : Int) ≤ k ∧ ((k ≤ (l_list.length : Int) ∨ k ≤ (2 : Int))) ∧ (l_list.length : Int) - k ≤ (μ : Int) ∧ p_impl_BestBreak l_list = p_impl_BestBreak_l1 l_list (μ + 1) vat best k) (Int.toNat ((l_list.length : Int) - (2 : Int))) _ _ _ _ _ _ _ _ _ _ _ _ _ _ _ _ _ _ _ H_1 ?_ ?_
      · exact ⟨rfl, (by first | omega | (simp; done) | (simp; omega)), (by first | omega | (simp; done) | (simp; omega)), (by omega), e⟩
      · intro μ vat best k g9 g23 g24 g25 g26 g27 g28 g29 g30 g31 g32 g33 g34 g35 g36 g37 H_2 hI
        obtain ⟨rfl, v_7, v_8, hμ, e⟩ := hI
        rw [impl_BestBreak_r1]
        have e := e.trans (p_impl_BestBreak_l1_s l_list μ vat best k)
        have l_9 := g_3.1
        refine Br.intro (fun c_10 => ?_) (fun c_10 => ?_)
        · have e := e.trans (cond_t c_10)
          have c_10' := of_decide_eq_true c_10
          refine T_impl_gainAt_i ⟨_, (i_list.grow g_3), (by first | omega | (simp only [List.length_set, List.length_replicate, List.length_append, List.length_cons, List.length_nil, List.length_take, List.length_drop, marks_length]; done) | (simp only [List.length_set, List.length_replicate, List.length_append, List.length_cons, List.length_nil, List.length_take, List.length_drop, marks_length]; omega)), (by first | assumption | omega | (simp; omega)), (by first | assumption | omega | (simp; omega)), ?_⟩
          refine Br.intro (fun c_11 => ?_) (fun c_11 => ?_)
          · have e := e.trans (cond_t c_11)
            rw [show IntKind.wrap .i64 (k + 1) = (k + 1) from wrap64 (by omega) (by omega)]
            refine impl_BestBreak_n1 (μ - 1) (by first | omega) ⟨rfl, (by first | omega | (simp only [List.length_append, List.length_cons, List.length_nil, List.length_set]; done) | (simp only [List.length_append, List.length_cons, List.length_nil, List.length_set]; omega)), (by first | omega | (simp only [List.length_append, List.length_cons, List.length_nil, List.length_set]; done) | (simp only [List.length_append, List.length_cons, List.length_nil, List.length_set]; omega)), (by first | omega), (by rw [show μ - 1 + 1 = μ from by first | omega]; exact e)⟩
          · have e := e.trans (cond_f c_11)
            rw [show IntKind.wrap .i64 (k + 1) = (k + 1) from wrap64 (by omega) (by omega)]
            refine impl_BestBreak_n1 (μ - 1) (by first | omega) ⟨rfl, (by first | omega | (simp only [List.length_append, List.length_cons, List.length_nil, List.length_set]; done) | (simp only [List.length_append, List.length_cons, List.length_nil, List.length_set]; omega)), (by first | omega | (simp only [List.length_append, List.length_cons, List.length_nil, List.length_set]; done) | (simp only [List.length_append, List.length_cons, List.length_nil, List.length_set]; omega)), (by first | omega), (by rw [show μ - 1 + 1 = μ from by first | omega]; exact e)⟩
        · have e := e.trans (cond_f c_10)
          have c_10' := of_decide_eq_false c_10
          rw [impl_BestBreak_x1_0]
          refine T_impl_IsFinite_i ?_
          refine Br.intro (fun c_12 => ?_) (fun c_12 => ?_)
          · have e := e.trans (cond_t c_12)
            have c_12n := nf_of_t c_12
            rw [e] at hk
            exact hk  H_1 g_3 
          · have e := e.trans (cond_f c_12)
            have c_12n := nt_of_f c_12
            rw [e] at hk
            exact hk  H_1 g_3 
theorem impl_BestBreak_ok : FnOk Try.prog 104 S_impl_BestBreak := by
  refine FnOk.body mix_ok E_impl_BestBreak_ok Try.func104 rfl (by kernel_rfl) (by kernel_rfl) ?_ ?_ ?_ ?_ ?_
  · intro args H K K' h hk
    simp only [S_impl_BestBreak] at *
    unfold F_impl_BestBreak at *
    split at hk
    · obtain ⟨l_list, i_list, bd_13, k⟩ := hk
      exact ⟨l_list, i_list, bd_13, (fun  H' gg  => h _ _ (k  H' gg ))⟩
    · exact hk.elim
  · intro hq; cases hq
  · intro args H K hk
    simp only [S_impl_BestBreak] at *
    unfold F_impl_BestBreak at *
    split at hk
    · obtain ⟨l_list, i_list, bd_13, k⟩ := hk
      exact ⟨_, _, k H (Grow.refl H)⟩
    · exact hk.elim
  · intro _ args H K hk
    simp only [S_impl_BestBreak] at *
    unfold F_impl_BestBreak at *
    split at hk
    · obtain ⟨l_list, i_list, bd_13, k⟩ := hk
      exact ⟨l_list, i_list, bd_13, (fun  H' gg  => ⟨gg, k  H' gg ⟩)⟩
    · exact hk.elim
  · have mm := @impl_BestBreak_main
    revert mm
    generalize bodyK Try.prog E_impl_BestBreak Try.f104 = Q
    intro mm args H K hk
    simp only [S_impl_BestBreak] at *
    unfold F_impl_BestBreak at *
    split at hk
    · exact mm _ _ _ H K hk
    · exact hk.elim

def p_impl_nextBreak_l1 (l_list : List Nat) (l_breaks : List Int) (least : Nat) : Nat → Int → Bool → Bool → Int → Nat → Bool → Int → Int → Int × Bool × Bool
  | 0, _, _, _, _, _, _, _, _ => (0, false, false)
  | μ + 1, t6, t7, t8, vat, best, found, vfrom, t26 => (bif decide ((t26 : Int) < ((0 + l_breaks.length) + 1 : Int)) then (bif decide ((1 : Int) < ((((((([] : List Int) ++ l_breaks) ++ [((l_list.length : Int) : Int)])).getD (t26 : Int).toNat 0)) - vfrom)) then (bif !((p_impl_BestBreak ((((l_list).drop (vfrom : Int).toNat).take ((((((([] : List Int) ++ l_breaks) ++ [((l_list.length : Int) : Int)])).getD (t26 : Int).toNat 0) : Int) - vfrom).toNat))).2.2) then ((0 : Int), false, false) else (bif !found then (p_impl_nextBreak_l1 l_list l_breaks least μ t6 t7 t8 ((vfrom + ((p_impl_BestBreak ((((l_list).drop (vfrom : Int).toNat).take ((((((([] : List Int) ++ l_breaks) ++ [((l_list.length : Int) : Int)])).getD (t26 : Int).toNat 0) : Int) - vfrom).toNat))).1))) ((p_impl_BestBreak ((((l_list).drop (vfrom : Int).toNat).take ((((((([] : List Int) ++ l_breaks) ++ [((l_list.length : Int) : Int)])).getD (t26 : Int).toNat 0) : Int) - vfrom).toNat))).2.1) true (((((([] : List Int) ++ l_breaks) ++ [((l_list.length : Int) : Int)])).getD (t26 : Int).toNat 0)) (t26 + 1)) else (bif flt .f32 best ((p_impl_BestBreak ((((l_list).drop (vfrom : Int).toNat).take ((((((([] : List Int) ++ l_breaks) ++ [((l_list.length : Int) : Int)])).getD (t26 : Int).toNat 0) : Int) - vfrom).toNat))).2.1) then (p_impl_nextBreak_l1 l_list l_breaks least μ t6 t7 t8 ((vfrom + ((p_impl_BestBreak ((((l_list).drop (vfrom : Int).toNat).take ((((((([] : List Int) ++ l_breaks) ++ [((l_list.length : Int) : Int)])).getD (t26 : Int).toNat 0) : Int) - vfrom).toNat))).1))) ((p_impl_BestBreak ((((l_list).drop (vfrom : Int).toNat).take ((((((([] : List Int) ++ l_breaks) ++ [((l_list.length : Int) : Int)])).getD (t26 : Int).toNat 0) : Int) - vfrom).toNat))).2.1) true (((((([] : List Int) ++ l_breaks) ++ [((l_list.length : Int) : Int)])).getD (t26 : Int).toNat 0)) (t26 + 1)) else (p_impl_nextBreak_l1 l_list l_breaks least μ t6 t7 t8 vat best found (((((([] : List Int) ++ l_breaks) ++ [((l_list.length : Int) : Int)])).getD (t26 : Int).toNat 0)) (t26 + 1))))) else (p_impl_nextBreak_l1 l_list l_breaks least μ t6 t7 t8 vat best found (((((([] : List Int) ++ l_breaks) ++ [((l_list.length : Int) : Int)])).getD (t26 : Int).toNat 0)) (t26 + 1))) else (bif found then (vat, fle .f32 least best, true) else (vat, false, true)))
theorem p_impl_nextBreak_l1_s (l_list : List Nat) (l_breaks : List Int) (least : Nat) (μ : Nat) (t6 : Int) (t7 : Bool) (t8 : Bool) (vat : Int) (best : Nat) (found : Bool) (vfrom : Int) (t26 : Int) : p_impl_nextBreak_l1 l_list l_breaks least (μ + 1) t6 t7 t8 vat best found vfrom t26 = (bif decide ((t26 : Int) < ((0 + l_breaks.length) + 1 : Int)) then (bif decide ((1 : Int) < ((((((([] : List Int) ++ l_breaks) ++ [((l_list.length : Int) : Int)])).getD (t26 : Int).toNat 0)) - vfrom)) then (bif !((p_impl_BestBreak ((((l_list).drop (vfrom : Int).toNat).take ((((((([] : List Int) ++ l_breaks) ++ [((l_list.length : Int) : Int)])).getD (t26 : Int).toNat 0) : Int) - vfrom).toNat))).2.2) then ((0 : Int), false, false) else (bif !found then (p_impl_nextBreak_l1 l_list l_breaks least μ t6 t7 t8 ((vfrom + ((p_impl_BestBreak ((((l_list).drop (vfrom : Int).toNat).take ((((((([] : List Int) ++ l_breaks) ++ [((l_list.length : Int) : Int)])).getD (t26 : Int).toNat 0) : Int) - vfrom).toNat))).1))) ((p_impl_BestBreak ((((l_list).drop (vfrom : Int).toNat).take ((((((([] : List Int) ++ l_breaks) ++ [((l_list.length : Int) : Int)])).getD (t26 : Int).toNat 0) : Int) - vfrom).toNat))).2.1) true (((((([] : List Int) ++ l_breaks) ++ [((l_list.length : Int) : Int)])).getD (t26 : Int).toNat 0)) (t26 + 1)) else (bif flt .f32 best ((p_impl_BestBreak ((((l_list).drop (vfrom : Int).toNat).take ((((((([] : List Int) ++ l_breaks) ++ [((l_list.length : Int) : Int)])).getD (t26 : Int).toNat 0) : Int) - vfrom).toNat))).2.1) then (p_impl_nextBreak_l1 l_list l_breaks least μ t6 t7 t8 ((vfrom + ((p_impl_BestBreak ((((l_list).drop (vfrom : Int).toNat).take ((((((([] : List Int) ++ l_breaks) ++ [((l_list.length : Int) : Int)])).getD (t26 : Int).toNat 0) : Int) - vfrom).toNat))).1))) ((p_impl_BestBreak ((((l_list).drop (vfrom : Int).toNat).take ((((((([] : List Int) ++ l_breaks) ++ [((l_list.length : Int) : Int)])).getD (t26 : Int).toNat 0) : Int) - vfrom).toNat))).2.1) true (((((([] : List Int) ++ l_breaks) ++ [((l_list.length : Int) : Int)])).getD (t26 : Int).toNat 0)) (t26 + 1)) else (p_impl_nextBreak_l1 l_list l_breaks least μ t6 t7 t8 vat best found (((((([] : List Int) ++ l_breaks) ++ [((l_list.length : Int) : Int)])).getD (t26 : Int).toNat 0)) (t26 + 1))))) else (p_impl_nextBreak_l1 l_list l_breaks least μ t6 t7 t8 vat best found (((((([] : List Int) ++ l_breaks) ++ [((l_list.length : Int) : Int)])).getD (t26 : Int).toNat 0)) (t26 + 1))) else (bif found then (vat, fle .f32 least best, true) else (vat, false, true))) := rfl
def p_impl_nextBreak (l_list : List Nat) (l_breaks : List Int) (least : Nat) : Int × Bool × Bool := (p_impl_nextBreak_l1 l_list l_breaks least (Int.toNat (((0 + l_breaks.length) + 1 : Int) - (0 : Int)) + 1) (0 : Int) false false (0 : Int) 0 false (0 : Int) (0 : Int))
theorem p_impl_nextBreak_eq (l_list : List Nat) (l_breaks : List Int) (least : Nat) : p_impl_nextBreak l_list l_breaks least = (p_impl_nextBreak_l1 l_list l_breaks least (Int.toNat (((0 + l_breaks.length) + 1 : Int) - (0 : Int)) + 1) (0 : Int) false false (0 : Int) 0 false (0 : Int) (0 : Int)) := rfl
def T_impl_nextBreak (list_a : Option Addr) (list_n : Nat) (list_e : Nat) (breaks_a : Option Addr) (breaks_n : Nat) (breaks_e : Nat) (least : Nat) (H : AHeap) (K : Int → Bool → Bool → AHeap → Prop) : Prop := ∃ (l_list : List Nat), ∃ (l_breaks : List Int), IsL fF H list_a list_n l_list ∧ IsL fI H breaks_a breaks_n l_breaks ∧ l_list.length < 1073741824 ∧ l_breaks.length < 1073741824 ∧ Cut l_list.length l_breaks ∧ ((∀ H' : AHeap, Grow H H' → K ((p_impl_nextBreak l_list l_breaks least).1) ((p_impl_nextBreak l_list l_breaks least).2.1) ((p_impl_nextBreak l_list l_breaks least).2.2) H'))
theorem T_impl_nextBreak_i {list_a : Option Addr} {list_n : Nat} {list_e : Nat} {breaks_a : Option Addr} {breaks_n : Nat} {breaks_e : Nat} {least : Nat} {H : AHeap} {K : Int → Bool → Bool → AHeap → Prop} (h : ∃ (l_list : List Nat), ∃ (l_breaks : List Int), IsL fF H list_a list_n l_list ∧ IsL fI H breaks_a breaks_n l_breaks ∧ l_list.length < 1073741824 ∧ l_breaks.length < 1073741824 ∧ Cut l_list.length l_breaks ∧ ((∀ H' : AHeap, Grow H H' → K ((p_impl_nextBreak l_list l_breaks least).1) ((p_impl_nextBreak l_list l_breaks least).2.1) ((p_impl_nextBreak l_list l_breaks least).2.2) H'))) : T_impl_nextBreak list_a list_n list_e breaks_a breaks_n breaks_e least H K := h
def NIn (n : Nat) (r : Int × Bool × Bool) : Prop := 0 ≤ r.1 ∧ r.1 ≤ (n : Int)
theorem nin_no (n : Nat) (x y : Bool) : NIn n (0, x, y) := ⟨Int.le_refl _, Int.natCast_nonneg _⟩
theorem impl_nextBreak_l1_at (l : List Nat) (bs : List Int) (x : Nat) (h : Cut l.length bs) (t6 : Int) (t7 t8 : Bool) : ∀ (μ : Nat) (vat : Int) (b : Nat) (fo : Bool) (f i : Int), 0 ≤ vat → vat ≤ (l.length : Int) → 0 ≤ f →
    NIn l.length (p_impl_nextBreak_l1 l bs x μ t6 t7 t8 vat b fo f i) := by
  intro μ
  induction μ with
  | zero => intro vat b fo f i h0 h1 h2; exact nin_no _ _ _
  | succ μ ih =>
    intro vat b fo f i h0 h1 h2
    rw [p_impl_nextBreak_l1_s]
    have he := cut_at (cut_end h) i
    have hb := impl_BestBreak_at ((((l).drop (f : Int).toNat).take ((((((([] : List Int) ++ bs) ++ [((l.length : Int) : Int)])).getD (i : Int).toNat 0) : Int) - f).toNat))
    have hl : ((((l).drop (f : Int).toNat).take ((((((([] : List Int) ++ bs) ++ [((l.length : Int) : Int)])).getD (i : Int).toNat 0) : Int) - f).toNat)).length ≤ ((((((([] : List Int) ++ bs) ++ [((l.length : Int) : Int)])).getD (i : Int).toNat 0) : Int) - f).toNat := by
      rw [List.length_take]; exact Nat.min_le_left _ _
    refine cnd (fun h => ?_) (fun h => ?_)
    · refine cnd (fun h => ?_) (fun h => ?_)
      · have hk := of_decide_eq_true h
        refine cnd (fun h => nin_no _ _ _) (fun h => ?_)
        refine cnd (fun h => ih _ _ _ _ _ (by omega) (by omega) (by omega)) (fun h => ?_)
        exact cnd (fun h => ih _ _ _ _ _ (by omega) (by omega) (by omega)) (fun h => ih _ _ _ _ _ (by omega) (by omega) (by omega))
      · exact ih _ _ _ _ _ (by omega) (by omega) (by omega)
    · exact cnd (fun h => ⟨h0, h1⟩) (fun h => ⟨h0, h1⟩)
theorem impl_nextBreak_at (l : List Nat) (bs : List Int) (x : Nat) (hl : l.length < 1073741824) (h : Cut l.length bs) : 0 ≤ (p_impl_nextBreak l bs x).1 ∧ (p_impl_nextBreak l bs x).1 ≤ (l.length : Int) := by
  rw [p_impl_nextBreak_eq]
  exact impl_nextBreak_l1_at l bs x h _ _ _ _ _ _ _ _ _ (Int.le_refl _) (Int.natCast_nonneg _) (Int.le_refl _)
/-! impl_nextBreak: function 76 -/
def E_impl_nextBreak : Env := envOf [(104, S_impl_BestBreak)]
def F_impl_nextBreak : List Value → AHeap → (Value → AHeap → Prop) → Prop
  | [.slice list_a list_n list_e, .slice breaks_a breaks_n breaks_e, .float .f32 least], H, K => T_impl_nextBreak list_a list_n list_e breaks_a breaks_n breaks_e least H fun (r1 : Int) (r2 : Bool) (r3 : Bool) (H' : AHeap) => K (.tuple #[.int .i64 r1, .bool r2, .bool r3]) H'
  | _, _, _ => False
def S_impl_nextBreak : FSpec := { F := F_impl_nextBreak, quiet := false, tame := true }
theorem impl_nextBreak_vc (list_a : Option Addr) (list_n : Nat) (list_e : Nat) (breaks_a : Option Addr) (breaks_n : Nat) (breaks_e : Nat) (least : Nat) (H : AHeap) (K : Value → AHeap → Prop) : bodyK Try.prog E_impl_nextBreak Try.f76 [.slice list_a list_n list_e, .slice breaks_a breaks_n breaks_e, .float .f32 least] H K =
  (Al [] H fun b1 H1 => ∃ o1 w1 : List Value, ownB H1 (some ⟨b1, 0, none⟩) 0 1 1 = some o1 ∧ rdS H1 breaks_a (breaks_n * 1) = some w1 ∧ ((some ⟨b1, 0, none⟩ : Option Addr) = none → 0 < (breaks_n : Nat)) ∧ (0 : Nat) + breaks_n < most ∧ Ap H1 (killB H1 (some ⟨b1, 0, none⟩) ++ [some ⟨o1 ++ w1, true⟩]) fun b2 H2 => Al [.int .i64 (list_n : Int)] H2 fun b3 H3 => ∃ o2 w2 : List Value, ownB H3 (some ⟨b2, 0, none⟩) (0 + breaks_n) 1 1 = some o2 ∧ rdS H3 (some ⟨b3, 0, none⟩) (1 * 1) = some w2 ∧ ((some ⟨b2, 0, none⟩ : Option Addr) = none → 0 < (1 : Nat)) ∧ (0 + breaks_n : Nat) + 1 < most ∧ Ap H3 (killB H3 (some ⟨b2, 0, none⟩) ++ [some ⟨o2 ++ w2, true⟩]) fun b4 H4 => loopK (exK Try.prog E_impl_nextBreak (cl (cl (cr (cl (cr (cr (cr (bodyC Try.f76))))))))) [.slice list_a list_n list_e, .slice breaks_a breaks_n breaks_e, .float .f32 least, undef, undef, undef, .int .i64 0, .bool false, .bool false, .int .i64 0, .float .f32 0, .bool false, .int .i64 0, undef, undef, undef, undef, undef, .slice (some ⟨b1, 0, none⟩) 0 1, .slice breaks_a breaks_n breaks_e, .slice (some ⟨b2, 0, none⟩) (0 + breaks_n) 1, .slice list_a list_n list_e, .int .i64 (list_n : Int), .slice (some ⟨b3, 0, none⟩) 1 1, .slice (some ⟨b4, 0, none⟩) ((0 + breaks_n) + 1) 1, .int .i64 (((0 + breaks_n) + 1 : Int)), .int .i64 0, undef, undef, undef, undef, undef, undef, undef, undef, undef, undef, undef, undef, undef, undef, undef, undef, undef, undef, undef, undef, undef, undef, undef, undef, undef, undef, undef, undef, undef, undef, undef, undef, undef, undef, undef, undef, undef, undef] H4 (blockQ 0 (seqQ (exK Try.prog E_impl_nextBreak (cr (cr (cr (cr (bodyC Try.f76)))))) (retK Try.prog Try.f76 K)))) := by kernel_rfl
theorem impl_nextBreak_r1 (b1 : Nat) (b2 : Nat) (b3 : Nat) (b4 : Nat) (breaks_a : Option Addr) (breaks_e : Nat) (breaks_n : Nat) (least : Nat) (list_a : Option Addr) (list_e : Nat) (list_n : Nat) (t6 : Int) (t7 : Bool) (t8 : Bool) (vat : Int) (best : Nat) (found : Bool) (vfrom : Int) (t26 : Int) (g14 g15 g16 g17 g27 g28 g29 g30 g31 g32 g33 g34 g35 g36 g37 g38 g39 g40 g41 g42 g43 g44 g45 g46 g47 g48 g49 g50 g51 g52 g53 g54 g55 g56 g57 : Value) (H : AHeap) (R : Post) : exK Try.prog E_impl_nextBreak (cl (cl (cr (cl (cr (cr (cr (bodyC Try.f76)))))))) [.slice list_a list_n list_e, .slice breaks_a breaks_n breaks_e, .float .f32 least, undef, undef, undef, .int .i64 t6, .bool t7, .bool t8, .int .i64 vat, .float .f32 best, .bool found, .int .i64 vfrom, undef, g14, g15, g16, g17, .slice (some ⟨b1, 0, none⟩) 0 1, .slice breaks_a breaks_n breaks_e, .slice (some ⟨b2, 0, none⟩) (0 + breaks_n) 1, .slice list_a list_n list_e, .int .i64 (list_n : Int), .slice (some ⟨b3, 0, none⟩) 1 1, .slice (some ⟨b4, 0, none⟩) ((0 + breaks_n) + 1) 1, .int .i64 (((0 + breaks_n) + 1 : Int)), .int .i64 t26, g27, g28, g29, g30, g31, g32, g33, g34, g35, g36, g37, g38, g39, g40, g41, g42, g43, g44, g45, g46, g47, g48, g49, g50, g51, g52, g53, g54, g55, g56, g57, undef, undef, undef, undef, undef, undef, undef] H R =
  (Br (decide ((t26 : Int) < ((0 + breaks_n) + 1 : Int))) ((0 : Int) ≤ t26 ∧ t26 < ((0 + breaks_n) + 1 : Int) ∧ ∃ b5 f1, (some ⟨b4, 0, none⟩ : Option Addr) = some ⟨b5, f1, none⟩ ∧ ∃ x1 : Int,  rdC H b5 (f1 + (t26 : Int).toNat * 1) = some (.int .i64 x1) ∧ Br (decide ((1 : Int) < IntKind.wrap .i64 (x1 - vfrom))) ((0 : Int) ≤ vfrom ∧ vfrom ≤ x1 ∧ x1 ≤ (list_n : Int) ∧ T_impl_BestBreak ((list_a : Option Addr).map fun a => ⟨a.block, a.off + (vfrom : Int).toNat * 1, none⟩) (((x1 : Int) - vfrom).toNat) 0 H fun (r1 : Int) (r2 : Nat) (r3 : Bool) (H5 : AHeap) => Br (!r3) (R .ret [.slice list_a list_n list_e, .slice breaks_a breaks_n breaks_e, .float .f32 least, undef, undef, undef, .int .i64 0, .bool false, .bool false, .int .i64 vat, .float .f32 best, .bool found, .int .i64 vfrom, undef, .int .i64 x1, .int .i64 r1, .float .f32 r2, .bool r3, .slice (some ⟨b1, 0, none⟩) 0 1, .slice breaks_a breaks_n breaks_e, .slice (some ⟨b2, 0, none⟩) (0 + breaks_n) 1, .slice list_a list_n list_e, .int .i64 (list_n : Int), .slice (some ⟨b3, 0, none⟩) 1 1, .slice (some ⟨b4, 0, none⟩) ((0 + breaks_n) + 1) 1, .int .i64 (((0 + breaks_n) + 1 : Int)), .int .i64 t26, .bool (decide ((t26 : Int) < ((0 + breaks_n) + 1 : Int))), .pointer (some ⟨b5, f1 + (t26 : Int).toNat * 1, none⟩), .int .i64 x1, .int .i64 x1, .int .i64 vfrom, .int .i64 (IntKind.wrap .i64 (x1 - vfrom)), .bool (decide ((1 : Int) < IntKind.wrap .i64 (x1 - vfrom))), .tuple #[.int .i64 r1, .float .f32 r2, .bool r3], .slice list_a list_n list_e, .int .i64 vfrom, .int .i64 x1, .slice ((list_a : Option Addr).map fun a => ⟨a.block, a.off + (vfrom : Int).toNat * 1, none⟩) (((x1 : Int) - vfrom).toNat) 0, .tuple #[.int .i64 r1, .float .f32 r2, .bool r3], .int .i64 r1, .float .f32 r2, .bool r3, .bool r3, .bool (!r3), g45, g46, g47, g48, g49, g50, g51, g52, g53, g54, g55, g56, g57, undef, undef, undef, undef, undef, undef, undef] H5) (Br (!found) (R .normal [.slice list_a list_n list_e, .slice breaks_a breaks_n breaks_e, .float .f32 least, undef, undef, undef, .int .i64 t6, .bool t7, .bool t8, .int .i64 (IntKind.wrap .i64 (vfrom + r1)), .float .f32 r2, .bool true, .int .i64 x1, undef, .int .i64 x1, .int .i64 r1, .float .f32 r2, .bool r3, .slice (some ⟨b1, 0, none⟩) 0 1, .slice breaks_a breaks_n breaks_e, .slice (some ⟨b2, 0, none⟩) (0 + breaks_n) 1, .slice list_a list_n list_e, .int .i64 (list_n : Int), .slice (some ⟨b3, 0, none⟩) 1 1, .slice (some ⟨b4, 0, none⟩) ((0 + breaks_n) + 1) 1, .int .i64 (((0 + breaks_n) + 1 : Int)), .int .i64 (IntKind.wrap .i64 (t26 + 1)), .bool (decide ((t26 : Int) < ((0 + breaks_n) + 1 : Int))), .pointer (some ⟨b5, f1 + (t26 : Int).toNat * 1, none⟩), .int .i64 x1, .int .i64 x1, .int .i64 vfrom, .int .i64 (IntKind.wrap .i64 (x1 - vfrom)), .bool (decide ((1 : Int) < IntKind.wrap .i64 (x1 - vfrom))), .tuple #[.int .i64 r1, .float .f32 r2, .bool r3], .slice list_a list_n list_e, .int .i64 vfrom, .int .i64 x1, .slice ((list_a : Option Addr).map fun a => ⟨a.block, a.off + (vfrom : Int).toNat * 1, none⟩) (((x1 : Int) - vfrom).toNat) 0, .tuple #[.int .i64 r1, .float .f32 r2, .bool r3], .int .i64 r1, .float .f32 r2, .bool r3, .bool r3, .bool (!r3), .bool found, .bool (!found), .bool true, undef, undef, undef, .bool true, .int .i64 vfrom, .int .i64 r1, .int .i64 (IntKind.wrap .i64 (vfrom + r1)), .float .f32 r2, .int .i64 x1, .int .i64 (IntKind.wrap .i64 (t26 + 1)), undef, undef, undef, undef, undef, undef, undef] H5) (Br (flt .f32 best r2) (R .normal [.slice list_a list_n list_e, .slice breaks_a breaks_n breaks_e, .float .f32 least, undef, undef, undef, .int .i64 t6, .bool t7, .bool t8, .int .i64 (IntKind.wrap .i64 (vfrom + r1)), .float .f32 r2, .bool true, .int .i64 x1, undef, .int .i64 x1, .int .i64 r1, .float .f32 r2, .bool r3, .slice (some ⟨b1, 0, none⟩) 0 1, .slice breaks_a breaks_n breaks_e, .slice (some ⟨b2, 0, none⟩) (0 + breaks_n) 1, .slice list_a list_n list_e, .int .i64 (list_n : Int), .slice (some ⟨b3, 0, none⟩) 1 1, .slice (some ⟨b4, 0, none⟩) ((0 + breaks_n) + 1) 1, .int .i64 (((0 + breaks_n) + 1 : Int)), .int .i64 (IntKind.wrap .i64 (t26 + 1)), .bool (decide ((t26 : Int) < ((0 + breaks_n) + 1 : Int))), .pointer (some ⟨b5, f1 + (t26 : Int).toNat * 1, none⟩), .int .i64 x1, .int .i64 x1, .int .i64 vfrom, .int .i64 (IntKind.wrap .i64 (x1 - vfrom)), .bool (decide ((1 : Int) < IntKind.wrap .i64 (x1 - vfrom))), .tuple #[.int .i64 r1, .float .f32 r2, .bool r3], .slice list_a list_n list_e, .int .i64 vfrom, .int .i64 x1, .slice ((list_a : Option Addr).map fun a => ⟨a.block, a.off + (vfrom : Int).toNat * 1, none⟩) (((x1 : Int) - vfrom).toNat) 0, .tuple #[.int .i64 r1, .float .f32 r2, .bool r3], .int .i64 r1, .float .f32 r2, .bool r3, .bool r3, .bool (!r3), .bool found, .bool (!found), .bool false, .float .f32 r2, .float .f32 best, .bool (flt .f32 best r2), .bool (flt .f32 best r2), .int .i64 vfrom, .int .i64 r1, .int .i64 (IntKind.wrap .i64 (vfrom + r1)), .float .f32 r2, .int .i64 x1, .int .i64 (IntKind.wrap .i64 (t26 + 1)), undef, undef, undef, undef, undef, undef, undef] H5) (R .normal [.slice list_a list_n list_e, .slice breaks_a breaks_n breaks_e, .float .f32 least, undef, undef, undef, .int .i64 t6, .bool t7, .bool t8, .int .i64 vat, .float .f32 best, .bool found, .int .i64 x1, undef, .int .i64 x1, .int .i64 r1, .float .f32 r2, .bool r3, .slice (some ⟨b1, 0, none⟩) 0 1, .slice breaks_a breaks_n breaks_e, .slice (some ⟨b2, 0, none⟩) (0 + breaks_n) 1, .slice list_a list_n list_e, .int .i64 (list_n : Int), .slice (some ⟨b3, 0, none⟩) 1 1, .slice (some ⟨b4, 0, none⟩) ((0 + breaks_n) + 1) 1, .int .i64 (((0 + breaks_n) + 1 : Int)), .int .i64 (IntKind.wrap .i64 (t26 + 1)), .bool (decide ((t26 : Int) < ((0 + breaks_n) + 1 : Int))), .pointer (some ⟨b5, f1 + (t26 : Int).toNat * 1, none⟩), .int .i64 x1, .int .i64 x1, .int .i64 vfrom, .int .i64 (IntKind.wrap .i64 (x1 - vfrom)), .bool (decide ((1 : Int) < IntKind.wrap .i64 (x1 - vfrom))), .tuple #[.int .i64 r1, .float .f32 r2, .bool r3], .slice list_a list_n list_e, .int .i64 vfrom, .int .i64 x1, .slice ((list_a : Option Addr).map fun a => ⟨a.block, a.off + (vfrom : Int).toNat * 1, none⟩) (((x1 : Int) - vfrom).toNat) 0, .tuple #[.int .i64 r1, .float .f32 r2, .bool r3], .int .i64 r1, .float .f32 r2, .bool r3, .bool r3, .bool (!r3), .bool found, .bool (!found), .bool false, .float .f32 r2, .float .f32 best, .bool (flt .f32 best r2), .bool (flt .f32 best r2), g52, g53, g54, g55, .int .i64 x1, .int .i64 (IntKind.wrap .i64 (t26 + 1)), undef, undef, undef, undef, undef, undef, undef] H5)))) (R .normal [.slice list_a list_n list_e, .slice breaks_a breaks_n breaks_e, .float .f32 least, undef, undef, undef, .int .i64 t6, .bool t7, .bool t8, .int .i64 vat, .float .f32 best, .bool found, .int .i64 x1, undef, .int .i64 x1, g15, g16, g17, .slice (some ⟨b1, 0, none⟩) 0 1, .slice breaks_a breaks_n breaks_e, .slice (some ⟨b2, 0, none⟩) (0 + breaks_n) 1, .slice list_a list_n list_e, .int .i64 (list_n : Int), .slice (some ⟨b3, 0, none⟩) 1 1, .slice (some ⟨b4, 0, none⟩) ((0 + breaks_n) + 1) 1, .int .i64 (((0 + breaks_n) + 1 : Int)), .int .i64 (IntKind.wrap .i64 (t26 + 1)), .bool (decide ((t26 : Int) < ((0 + breaks_n) + 1 : Int))), .pointer (some ⟨b5, f1 + (t26 : Int).toNat * 1, none⟩), .int .i64 x1, .int .i64 x1, .int .i64 vfrom, .int .i64 (IntKind.wrap .i64 (x1 - vfrom)), .bool (decide ((1 : Int) < IntKind.wrap .i64 (x1 - vfrom))), g34, g35, g36, g37, g38, g39, g40, g41, g42, g43, g44, g45, g46, g47, g48, g49, g50, g51, g52, g53, g54, g55, .int .i64 x1, .int .i64 (IntKind.wrap .i64 (t26 + 1)), undef, undef, undef, undef, undef, undef, undef] H)) (R (.exit 0) [.slice list_a list_n list_e, .slice breaks_a breaks_n breaks_e, .float .f32 least, undef, undef, undef, .int .i64 t6, .bool t7, .bool t8, .int .i64 vat, .float .f32 best, .bool found, .int .i64 vfrom, undef, g14, g15, g16, g17, .slice (some ⟨b1, 0, none⟩) 0 1, .slice breaks_a breaks_n breaks_e, .slice (some ⟨b2, 0, none⟩) (0 + breaks_n) 1, .slice list_a list_n list_e, .int .i64 (list_n : Int), .slice (some ⟨b3, 0, none⟩) 1 1, .slice (some ⟨b4, 0, none⟩) ((0 + breaks_n) + 1) 1, .int .i64 (((0 + breaks_n) + 1 : Int)), .int .i64 t26, .bool (decide ((t26 : Int) < ((0 + breaks_n) + 1 : Int))), g28, g29, g30, g31, g32, g33, g34, g35, g36, g37, g38, g39, g40, g41, g42, g43, g44, g45, g46, g47, g48, g49, g50, g51, g52, g53, g54, g55, g56, g57, undef, undef, undef, undef, undef, undef, undef] H)) := by kernel_rfl
def impl_nextBreak_I1 (b1 : Nat) (b2 : Nat) (b3 : Nat) (b4 : Nat) (breaks_a : Option Addr) (breaks_e : Nat) (breaks_n : Nat) (least : Nat) (list_a : Option Addr) (list_e : Nat) (list_n : Nat) (Inv : Nat → Int → Bool → Bool → Int → Nat → Bool → Int → Int → AHeap → Prop) : Nat → List Value → AHeap → Prop := fun μ tm H => ∃ (t6 : Int), ∃ (t7 : Bool), ∃ (t8 : Bool), ∃ (vat : Int), ∃ (best : Nat), ∃ (found : Bool), ∃ (vfrom : Int), ∃ (t26 : Int), ∃ g14 g15 g16 g17 g27 g28 g29 g30 g31 g32 g33 g34 g35 g36 g37 g38 g39 g40 g41 g42 g43 g44 g45 g46 g47 g48 g49 g50 g51 g52 g53 g54 g55 g56 g57, tm = [.slice list_a list_n list_e, .slice breaks_a breaks_n breaks_e, .float .f32 least, undef, undef, undef, .int .i64 t6, .bool t7, .bool t8, .int .i64 vat, .float .f32 best, .bool found, .int .i64 vfrom, undef, g14, g15, g16, g17, .slice (some ⟨b1, 0, none⟩) 0 1, .slice breaks_a breaks_n breaks_e, .slice (some ⟨b2, 0, none⟩) (0 + breaks_n) 1, .slice list_a list_n list_e, .int .i64 (list_n : Int), .slice (some ⟨b3, 0, none⟩) 1 1, .slice (some ⟨b4, 0, none⟩) ((0 + breaks_n) + 1) 1, .int .i64 (((0 + breaks_n) + 1 : Int)), .int .i64 t26, g27, g28, g29, g30, g31, g32, g33, g34, g35, g36, g37, g38, g39, g40, g41, g42, g43, g44, g45, g46, g47, g48, g49, g50, g51, g52, g53, g54, g55, g56, g57, undef, undef, undef, undef, undef, undef, undef] ∧ Inv μ t6 t7 t8 vat best found vfrom t26 H
theorem impl_nextBreak_L1 (b1 : Nat) (b2 : Nat) (b3 : Nat) (b4 : Nat) (breaks_a : Option Addr) (breaks_e : Nat) (breaks_n : Nat) (least : Nat) (list_a : Option Addr) (list_e : Nat) (list_n : Nat) {Q : Post} (Inv : Nat → Int → Bool → Bool → Int → Nat → Bool → Int → Int → AHeap → Prop) (ν : Nat) (t6 : Int) (t7 : Bool) (t8 : Bool) (vat : Int) (best : Nat) (found : Bool) (vfrom : Int) (t26 : Int) (g14 g15 g16 g17 g27 g28 g29 g30 g31 g32 g33 g34 g35 g36 g37 g38 g39 g40 g41 g42 g43 g44 g45 g46 g47 g48 g49 g50 g51 g52 g53 g54 g55 g56 g57 : Value) (H : AHeap) (h0 : Inv ν t6 t7 t8 vat best found vfrom t26 H)
    (hs : ∀ (μ : Nat) (t6 : Int) (t7 : Bool) (t8 : Bool) (vat : Int) (best : Nat) (found : Bool) (vfrom : Int) (t26 : Int) (g14 g15 g16 g17 g27 g28 g29 g30 g31 g32 g33 g34 g35 g36 g37 g38 g39 g40 g41 g42 g43 g44 g45 g46 g47 g48 g49 g50 g51 g52 g53 g54 g55 g56 g57 : Value) (H : AHeap), Inv μ t6 t7 t8 vat best found vfrom t26 H → exK Try.prog E_impl_nextBreak (cl (cl (cr (cl (cr (cr (cr (bodyC Try.f76)))))))) [.slice list_a list_n list_e, .slice breaks_a breaks_n breaks_e, .float .f32 least, undef, undef, undef, .int .i64 t6, .bool t7, .bool t8, .int .i64 vat, .float .f32 best, .bool found, .int .i64 vfrom, undef, g14, g15, g16, g17, .slice (some ⟨b1, 0, none⟩) 0 1, .slice breaks_a breaks_n breaks_e, .slice (some ⟨b2, 0, none⟩) (0 + breaks_n) 1, .slice list_a list_n list_e, .int .i64 (list_n : Int), .slice (some ⟨b3, 0, none⟩) 1 1, .slice (some ⟨b4, 0, none⟩) ((0 + breaks_n) + 1) 1, .int .i64 (((0 + breaks_n) + 1 : Int)), .int .i64 t26, g27, g28, g29, g30, g31, g32, g33, g34, g35, g36, g37, g38, g39, g40, g41, g42, g43, g44, g45, g46, g47, g48, g49, g50, g51, g52, g53, g54, g55, g56, g57, undef, undef, undef, undef, undef, undef, undef] H (loopQ (impl_nextBreak_I1 b1 b2 b3 b4 breaks_a breaks_e breaks_n least list_a list_e list_n Inv) μ Q)) : loopK (exK Try.prog E_impl_nextBreak (cl (cl (cr (cl (cr (cr (cr (bodyC Try.f76))))))))) [.slice list_a list_n list_e, .slice breaks_a breaks_n breaks_e, .float .f32 least, undef, undef, undef, .int .i64 t6, .bool t7, .bool t8, .int .i64 vat, .float .f32 best, .bool found, .int .i64 vfrom, undef, g14, g15, g16, g17, .slice (some ⟨b1, 0, none⟩) 0 1, .slice breaks_a breaks_n breaks_e, .slice (some ⟨b2, 0, none⟩) (0 + breaks_n) 1, .slice list_a list_n list_e, .int .i64 (list_n : Int), .slice (some ⟨b3, 0, none⟩) 1 1, .slice (some ⟨b4, 0, none⟩) ((0 + breaks_n) + 1) 1, .int .i64 (((0 + breaks_n) + 1 : Int)), .int .i64 t26, g27, g28, g29, g30, g31, g32, g33, g34, g35, g36, g37, g38, g39, g40, g41, g42, g43, g44, g45, g46, g47, g48, g49, g50, g51, g52, g53, g54, g55, g56, g57, undef, undef, undef, undef, undef, undef, undef] H Q :=
  ⟨impl_nextBreak_I1 b1 b2 b3 b4 breaks_a breaks_e breaks_n least list_a list_e list_n Inv, ν, ⟨t6, t7, t8, vat, best, found, vfrom, t26, g14, g15, g16, g17, g27, g28, g29, g30, g31, g32, g33, g34, g35, g36, g37, g38, g39, g40, g41, g42, g43, g44, g45, g46, g47, g48, g49, g50, g51, g52, g53, g54, g55, g56, g57, rfl, h0⟩, fun μ tm H h => by obtain ⟨t6, t7, t8, vat, best, found, vfrom, t26, g14, g15, g16, g17, g27, g28, g29, g30, g31, g32, g33, g34, g35, g36, g37, g38, g39, g40, g41, g42, g43, g44, g45, g46, g47, g48, g49, g50, g51, g52, g53, g54, g55, g56, g57, rfl, hI⟩ := h; exact hs μ t6 t7 t8 vat best found vfrom t26 g14 g15 g16 g17 g27 g28 g29 g30 g31 g32 g33 g34 g35 g36 g37 g38 g39 g40 g41 g42 g43 g44 g45 g46 g47 g48 g49 g50 g51 g52 g53 g54 g55 g56 g57 H hI⟩
theorem impl_nextBreak_n1 {b1 : Nat} {b2 : Nat} {b3 : Nat} {b4 : Nat} {breaks_a : Option Addr} {breaks_e : Nat} {breaks_n : Nat} {least : Nat} {list_a : Option Addr} {list_e : Nat} {list_n : Nat} {Q : Post} {Inv : Nat → Int → Bool → Bool → Int → Nat → Bool → Int → Int → AHeap → Prop} {μ : Nat} (μ' : Nat) {t6 : Int} {t7 : Bool} {t8 : Bool} {vat : Int} {best : Nat} {found : Bool} {vfrom : Int} {t26 : Int} {g14 g15 g16 g17 g27 g28 g29 g30 g31 g32 g33 g34 g35 g36 g37 g38 g39 g40 g41 g42 g43 g44 g45 g46 g47 g48 g49 g50 g51 g52 g53 g54 g55 g56 g57 : Value} {H : AHeap} (hm : μ' < μ) (hI : Inv μ' t6 t7 t8 vat best found vfrom t26 H) : loopQ (impl_nextBreak_I1 b1 b2 b3 b4 breaks_a breaks_e breaks_n least list_a list_e list_n Inv) μ Q .normal [.slice list_a list_n list_e, .slice breaks_a breaks_n breaks_e, .float .f32 least, undef, undef, undef, .int .i64 t6, .bool t7, .bool t8, .int .i64 vat, .float .f32 best, .bool found, .int .i64 vfrom, undef, g14, g15, g16, g17, .slice (some ⟨b1, 0, none⟩) 0 1, .slice breaks_a breaks_n breaks_e, .slice (some ⟨b2, 0, none⟩) (0 + breaks_n) 1, .slice list_a list_n list_e, .int .i64 (list_n : Int), .slice (some ⟨b3, 0, none⟩) 1 1, .slice (some ⟨b4, 0, none⟩) ((0 + breaks_n) + 1) 1, .int .i64 (((0 + breaks_n) + 1 : Int)), .int .i64 t26, g27, g28, g29, g30, g31, g32, g33, g34, g35, g36, g37, g38, g39, g40, g41, g42, g43, g44, g45, g46, g47, g48, g49, g50, g51, g52, g53, g54, g55, g56, g57, undef, undef, undef, undef, undef, undef, undef] H := ⟨μ', hm, t6, t7, t8, vat, best, found, vfrom, t26, g14, g15, g16, g17, g27, g28, g29, g30, g31, g32, g33, g34, g35, g36, g37, g38, g39, g40, g41, g42, g43, g44, g45, g46, g47, g48, g49, g50, g51, g52, g53, g54, g55, g56, g57, rfl, hI⟩
theorem impl_nextBreak_x1_0 (b1 : Nat) (b2 : Nat) (b3 : Nat) (b4 : Nat) (breaks_a : Option Addr) (breaks_e : Nat) (breaks_n : Nat) (least : Nat) (list_a : Option Addr) (list_e : Nat) (list_n : Nat) (t6 : Int) (t7 : Bool) (t8 : Bool) (vat : Int) (best : Nat) (found : Bool) (vfrom : Int) (t26 : Int) (g14 g15 g16 g17 g27 g28 g29 g30 g31 g32 g33 g34 g35 g36 g37 g38 g39 g40 g41 g42 g43 g44 g45 g46 g47 g48 g49 g50 g51 g52 g53 g54 g55 g56 g57 : Value) (H : AHeap) (K : Value → AHeap → Prop)  {I : Nat → List Value → AHeap → Prop} {μ : Nat} : loopQ I μ (blockQ 0 (seqQ (exK Try.prog E_impl_nextBreak (cr (cr (cr (cr (bodyC Try.f76)))))) (retK Try.prog Try.f76 K))) (.exit 0) [.slice list_a list_n list_e, .slice breaks_a breaks_n breaks_e, .float .f32 least, undef, undef, undef, .int .i64 t6, .bool t7, .bool t8, .int .i64 vat, .float .f32 best, .bool found, .int .i64 vfrom, undef, g14, g15, g16, g17, .slice (some ⟨b1, 0, none⟩) 0 1, .slice breaks_a breaks_n breaks_e, .slice (some ⟨b2, 0, none⟩) (0 + breaks_n) 1, .slice list_a list_n list_e, .int .i64 (list_n : Int), .slice (some ⟨b3, 0, none⟩) 1 1, .slice (some ⟨b4, 0, none⟩) ((0 + breaks_n) + 1) 1, .int .i64 (((0 + breaks_n) + 1 : Int)), .int .i64 t26, g27, g28, g29, g30, g31, g32, g33, g34, g35, g36, g37, g38, g39, g40, g41, g42, g43, g44, g45, g46, g47, g48, g49, g50, g51, g52, g53, g54, g55, g56, g57, undef, undef, undef, undef, undef, undef, undef] H =
  (Br found (K (.tuple #[.int .i64 vat, .bool (fle .f32 least best), .bool true]) H) (K (.tuple #[.int .i64 vat, .bool false, .bool true]) H)) := by kernel_rfl
theorem impl_nextBreak_x1_ret (b1 : Nat) (b2 : Nat) (b3 : Nat) (b4 : Nat) (breaks_a : Option Addr) (breaks_e : Nat) (breaks_n : Nat) (least : Nat) (list_a : Option Addr) (list_e : Nat) (list_n : Nat) (t6 : Int) (t7 : Bool) (t8 : Bool) (vat : Int) (best : Nat) (found : Bool) (vfrom : Int) (t26 : Int) (g14 g15 g16 g17 g27 g28 g29 g30 g31 g32 g33 g34 g35 g36 g37 g38 g39 g40 g41 g42 g43 g44 g45 g46 g47 g48 g49 g50 g51 g52 g53 g54 g55 g56 g57 : Value) (H : AHeap) (K : Value → AHeap → Prop)  {I : Nat → List Value → AHeap → Prop} {μ : Nat} : loopQ I μ (blockQ 0 (seqQ (exK Try.prog E_impl_nextBreak (cr (cr (cr (cr (bodyC Try.f76)))))) (retK Try.prog Try.f76 K))) .ret [.slice list_a list_n list_e, .slice breaks_a breaks_n breaks_e, .float .f32 least, undef, undef, undef, .int .i64 t6, .bool t7, .bool t8, .int .i64 vat, .float .f32 best, .bool found, .int .i64 vfrom, undef, g14, g15, g16, g17, .slice (some ⟨b1, 0, none⟩) 0 1, .slice breaks_a breaks_n breaks_e, .slice (some ⟨b2, 0, none⟩) (0 + breaks_n) 1, .slice list_a list_n list_e, .int .i64 (list_n : Int), .slice (some ⟨b3, 0, none⟩) 1 1, .slice (some ⟨b4, 0, none⟩) ((0 + breaks_n) + 1) 1, .int .i64 (((0 + breaks_n) + 1 : Int)), .int .i64 t26, g27, g28, g29, g30, g31, g32, g33, g34, g35, g36, g37, g38, g39, g40, g41, g42, g43, g44, g45, g46, g47, g48, g49, g50, g51, g52, g53, g54, g55, g56, g57, undef, undef, undef, undef, undef, undef, undef] H =
  (K (.tuple #[.int .i64 t6, .bool t7, .bool t8]) H) := by kernel_rfl
theorem E_impl_nextBreak_ok : ∀ g, FnOk Try.prog g (E_impl_nextBreak g) := FnOk.envOf (by
  intro x hx
  simp only [List.mem_cons, List.not_mem_nil, or_false] at hx
  subst hx; exact impl_BestBreak_ok)
set_option maxHeartbeats 1000000 in
theorem impl_nextBreak_main (list_a : Option Addr) (list_n : Nat) (list_e : Nat) (breaks_a : Option Addr) (breaks_n : Nat) (breaks_e : Nat) (least : Nat) (H : AHeap) (K : Value → AHeap → Prop) (h : T_impl_nextBreak list_a list_n list_e breaks_a breaks_n breaks_e least H fun (r1 : Int) (r2 : Bool) (r3 : Bool) (H' : AHeap) => K (.tuple #[.int .i64 r1, .bool r2, .bool r3]) H') : bodyK Try.prog E_impl_nextBreak Try.f76 [.slice list_a list_n list_e, .slice breaks_a breaks_n breaks_e, .float .f32 least] H K := by
  rw [impl_nextBreak_vc]
  obtain ⟨l_list, l_breaks, i_list, i_breaks, bd_73, bd_74, pr0, hk⟩ := h
  obtain rfl := i_list.eqn
  obtain rfl := i_breaks.eqn
  have e : (p_impl_nextBreak l_list l_breaks least) = _ := rfl
  have e := e.trans (p_impl_nextBreak_eq l_list l_breaks least)
  have g0 := Grow.refl H
  refine Al.intro (fun b_1 H_1 hb_2 hl_3 g_4 o_5 => ?_)
  have o_5 : Own H_1 b_1 ((([] : List Int)).map fI) := o_5
  have l_7 := g_4.1
  have g_8 := g0.trans g_4
  have l_9 := g_8.1
  have w_72 := o_5.lt
  refine ⟨_, _, o_5.ownB (by first | (simp only [List.length_map, List.length_cons, List.length_nil, List.length_append]; done) | (simp only [List.length_map, List.length_cons, List.length_nil, List.length_append]; omega) | (simp only [List.length_map, List.length_cons, List.length_nil, List.length_append, List.length_take, List.length_drop]; omega)) rfl, (isl_rdS (i_breaks.grow g_8)), (fun h => by cases h), (by have := most_eq; omega), ?_⟩
  refine Ap.app o_5 rfl rfl (fun b_14 H_2 q_70 hl_10 o_11 k_12 => ?_)
  have o_11 := map_snoc o_11
  have l_15 := k_12.1
  have g_16 := g_8.keep (b := b_1) (by omega) k_12
  have l_17 := g_16.1
  have w_71 := o_11.lt
  refine Al.intro (fun b_18 H_3 hb_19 hl_20 g_21 o_22 => ?_)
  have o_22 : Own H_3 b_18 (([((l_list.length : Int) : Int)]).map fI) := o_22
  have l_24 := g_21.1
  have g_25 := g_16.trans g_21
  have l_26 := g_25.1
  have o_27 := o_11.grow g_21
  have w_28 := o_27.lt
  have w_69 := o_22.lt
  refine ⟨_, _, o_27.ownB (by first | (simp only [List.length_map, List.length_cons, List.length_nil, List.length_append]; done) | (simp only [List.length_map, List.length_cons, List.length_nil, List.length_append]; omega) | (simp only [List.length_map, List.length_cons, List.length_nil, List.length_append, List.length_take, List.length_drop]; omega)) rfl, (isl_rdS (o_22.isL (by first | rfl | omega | (simp only [List.length_set]; done) | (simp only [List.length_set, List.length_replicate]; omega)))), (fun h => by cases h), (by have := most_eq; omega), ?_⟩
  refine Ap.app o_27 rfl rfl (fun b_33 H_4 q_67 hl_29 o_30 k_31 => ?_)
  have o_30 := map_snoc o_30
  have l_34 := k_31.1
  have g_35 := g_25.keep (b := b_14) (by omega) k_31
  have l_36 := g_35.1
  have o_37 := o_22.keep (by omega) k_31
  have w_38 := o_37.lt
  have w_68 := o_30.lt
  refine impl_nextBreak_L1 _ _ _ _ _ _ _ _ _ _ _ (fun (μ : Nat) (t6 : Int) (t7 : Bool) (t8 : Bool) (vat : Int) (best : Nat) (found : Bool) (vfrom : Int) (t26 : Int) (H_5 : AHeap) => Own H_5 b_18 (([((l_list.length : Int) : Int)]).map fI) ∧ Own H_5 b_33 ((((([] : List Int) ++ l_breaks) ++ [((l_list.length : Int) : Int)])).map fI) ∧ (b_33 ≠ b_18) ∧ Grow H H_5 ∧ (0 : Int) ≤ t26 ∧ t26 ≤ ((0 + l_breaks.length) + 1 : Int) ∧ 0 ≤ vfrom ∧ vfrom ≤ (l_list.length : Int) ∧ ((0 + l_breaks.length) + 1 : Int) - t26 ≤ (μ : Int) ∧ p_impl_nextBreak l_list l_breaks least = p_impl_nextBreak_l1 l_list l_breaks least (μ + 1) t6 t7 t8 vat best found vfrom t26) (Int.toNat (((0 + l_breaks.length) + 1 : Int) - (0 : Int))) _ _ _ _ _ _ _ _ _ _ _ _ _ _ _ _ _ _ _ _ _ _ _ _ _ _ _ _ _ _ _ _ _ _ _ _ _ _ _ _ _ _ _ H_4 ?_ ?_
  · exact ⟨o_37, o_30, (by omega), g_35, (by first | omega | (simp; done) | (simp; omega)), (by first | omega | (simp; done) | (simp; omega)), (by first | omega | (simp; done) | (simp; omega)), (by first | omega | (simp; done) | (simp; omega)), (by omega), e⟩
  · intro μ t6 t7 t8 vat best found vfrom t26 g14 g15 g16 g17 g27 g28 g29 g30 g31 g32 g33 g34 g35 g36 g37 g38 g39 g40 g41 g42 g43 g44 g45 g46 g47 g48 g49 g50 g51 g52 g53 g54 g55 g56 g57 H_5 hI
    obtain ⟨o_39, o_40, n_41, g_42, v_43, v_44, v_45, v_46, hμ, e⟩ := hI
    rw [impl_nextBreak_r1]
    have e := e.trans (p_impl_nextBreak_l1_s l_list l_breaks least μ t6 t7 t8 vat best found vfrom t26)
    have hz := List.length_take_le ((([] : List Int) ++ l_breaks ++ [(l_list.length : Int)]).getD t26.toNat 0 - vfrom).toNat (l_list.drop vfrom.toNat)
    have w_47 := o_39.lt
    have w_48 := o_40.lt
    have l_49 := g_42.1
    refine Br.intro (fun c_50 => ?_) (fun c_50 => ?_)
    · have e := e.trans (cond_t c_50)
      have c_50' := of_decide_eq_true c_50
      refine ⟨by omega, (by omega), _, _, rfl, ?_⟩
      refine ⟨((((([] : List Int) ++ l_breaks) ++ [((l_list.length : Int) : Int)])).getD (t26 : Int).toNat 0), o_40.rd (by first | omega | (simp only [List.length_set, List.length_replicate, List.length_append, List.length_cons, List.length_nil, List.length_take, List.length_drop, marks_length]; done) | (simp only [List.length_set, List.length_replicate, List.length_append, List.length_cons, List.length_nil, List.length_take, List.length_drop, marks_length]; omega)) _, ?_⟩
      have z_51 := cut_at (cut_end (by assumption)) (t26 : Int)
      rw [show IntKind.wrap .i64 ((((((([] : List Int) ++ l_breaks) ++ [((l_list.length : Int) : Int)])).getD (t26 : Int).toNat 0)) - vfrom) = ((((((([] : List Int) ++ l_breaks) ++ [((l_list.length : Int) : Int)])).getD (t26 : Int).toNat 0)) - vfrom) from wrap64 (by omega) (by omega)]
      refine Br.intro (fun c_52 => ?_) (fun c_52 => ?_)
      · have e := e.trans (cond_t c_52)
        have c_52' := of_decide_eq_true c_52
        refine ⟨by omega, by omega, by omega, ?_⟩
        have i_53 := sub_isl i_list (lo := vfrom) (hi := ((((([] : List Int) ++ l_breaks) ++ [((l_list.length : Int) : Int)])).getD (t26 : Int).toNat 0)) (by omega) (by omega) (by omega)
        refine T_impl_BestBreak_i ⟨_, (i_53.grow g_42), (by first | omega | (simp only [List.length_set, List.length_replicate, List.length_append, List.length_cons, List.length_nil, List.length_take, List.length_drop, marks_length]; done) | (simp only [List.length_set, List.length_replicate, List.length_append, List.length_cons, List.length_nil, List.length_take, List.length_drop, marks_length]; omega)), fun  H_6 g_55  => ?_⟩
        have z_54 := impl_BestBreak_at ((((l_list).drop (vfrom : Int).toNat).take ((((((([] : List Int) ++ l_breaks) ++ [((l_list.length : Int) : Int)])).getD (t26 : Int).toNat 0) : Int) - vfrom).toNat))
        have l_56 := g_55.1
        have g_57 := g_42.trans g_55
        have l_58 := g_57.1
        have o_59 := o_39.grow g_55
        have w_60 := o_59.lt
        have o_61 := o_40.grow g_55
        have w_62 := o_61.lt
        refine Br.intro (fun c_63 => ?_) (fun c_63 => ?_)
        · have e := e.trans (cond_t c_63)
          have c_63n := nf_of_t c_63
          rw [impl_nextBreak_x1_ret]
          rw [e] at hk
          exact hk  H_6 g_57 
        · have e := e.trans (cond_f c_63)
          have c_63n := nt_of_f c_63
          refine Br.intro (fun c_64 => ?_) (fun c_64 => ?_)
          · have e := e.trans (cond_t c_64)
            have c_64n := nf_of_t c_64
            rw [show IntKind.wrap .i64 (vfrom + ((p_impl_BestBreak ((((l_list).drop (vfrom : Int).toNat).take ((((((([] : List Int) ++ l_breaks) ++ [((l_list.length : Int) : Int)])).getD (t26 : Int).toNat 0) : Int) - vfrom).toNat))).1)) = (vfrom + ((p_impl_BestBreak ((((l_list).drop (vfrom : Int).toNat).take ((((((([] : List Int) ++ l_breaks) ++ [((l_list.length : Int) : Int)])).getD (t26 : Int).toNat 0) : Int) - vfrom).toNat))).1)) from wrap64 (by omega) (by omega)]
            rw [show IntKind.wrap .i64 (t26 + 1) = (t26 + 1) from wrap64 (by omega) (by omega)]
            refine impl_nextBreak_n1 (μ - 1) (by first | omega) ⟨o_59, o_61, (by omega), g_57, (by first | omega | (simp only [List.length_append, List.length_cons, List.length_nil, List.length_set]; done) | (simp only [List.length_append, List.length_cons, List.length_nil, List.length_set]; omega)), (by first | omega | (simp only [List.length_append, List.length_cons, List.length_nil, List.length_set]; done) | (simp only [List.length_append, List.length_cons, List.length_nil, List.length_set]; omega)), (by first | omega | (simp only [List.length_append, List.length_cons, List.length_nil, List.length_set]; done) | (simp only [List.length_append, List.length_cons, List.length_nil, List.length_set]; omega)), (by first | omega | (simp only [List.length_append, List.length_cons, List.length_nil, List.length_set]; done) | (simp only [List.length_append, List.length_cons, List.length_nil, List.length_set]; omega)), (by first | omega), (by rw [show μ - 1 + 1 = μ from by first | omega]; exact e)⟩
          · have e := e.trans (cond_f c_64)
            have c_64n := nt_of_f c_64
            refine Br.intro (fun c_65 => ?_) (fun c_65 => ?_)
            · have e := e.trans (cond_t c_65)
              rw [show IntKind.wrap .i64 (vfrom + ((p_impl_BestBreak ((((l_list).drop (vfrom : Int).toNat).take ((((((([] : List Int) ++ l_breaks) ++ [((l_list.length : Int) : Int)])).getD (t26 : Int).toNat 0) : Int) - vfrom).toNat))).1)) = (vfrom + ((p_impl_BestBreak ((((l_list).drop (vfrom : Int).toNat).take ((((((([] : List Int) ++ l_breaks) ++ [((l_list.length : Int) : Int)])).getD (t26 : Int).toNat 0) : Int) - vfrom).toNat))).1)) from wrap64 (by omega) (by omega)]
              rw [show IntKind.wrap .i64 (t26 + 1) = (t26 + 1) from wrap64 (by omega) (by omega)]
              refine impl_nextBreak_n1 (μ - 1) (by first | omega) ⟨o_59, o_61, (by omega), g_57, (by first | omega | (simp only [List.length_append, List.length_cons, List.length_nil, List.length_set]; done) | (simp only [List.length_append, List.length_cons, List.length_nil, List.length_set]; omega)), (by first | omega | (simp only [List.length_append, List.length_cons, List.length_nil, List.length_set]; done) | (simp only [List.length_append, List.length_cons, List.length_nil, List.length_set]; omega)), (by first | omega | (simp only [List.length_append, List.length_cons, List.length_nil, List.length_set]; done) | (simp only [List.length_append, List.length_cons, List.length_nil, List.length_set]; omega)), (by first | omega | (simp only [List.length_append, List.length_cons, List.length_nil, List.length_set]; done) | (simp only [List.length_append, List.length_cons, List.length_nil, List.length_set]; omega)), (by first | omega), (by rw [show μ - 1 + 1 = μ from by first | omega]; exact e)⟩
            · have e := e.trans (cond_f c_65)
              rw [show IntKind.wrap .i64 (t26 + 1) = (t26 + 1) from wrap64 (by omega) (by omega)]
              refine impl_nextBreak_n1 (μ - 1) (by first | omega) ⟨o_59, o_61, (by omega), g_57, (by first | omega | (simp only [List.length_append, List.length_cons, List.length_nil, List.length_set]; done) | (simp only [List.length_append, List.length_cons, List.length_nil, List.length_set]; omega)), (by first | omega | (simp only [List.length_append, List.length_cons, List.length_nil, List.length_set]; done) | (simp only [List.length_append, List.length_cons, List.length_nil, List.length_set]; omega)), (by first | omega | (simp only [List.length_append, List.length_cons, List.length_nil, List.length_set]; done) | (simp only [List.length_append, List.length_cons, List.length_nil, List.length_set]; omega)), (by first | omega | (simp only [List.length_append, List.length_cons, List.length_nil, List.length_set]; done) | (simp only [List.length_append, List.length_cons, List.length_nil, List.length_set]; omega)), (by first | omega), (by rw [show μ - 1 + 1 = μ from by first | omega]; exact e)⟩
      · have e := e.trans (cond_f c_52)
        have c_52' := of_decide_eq_false c_52
        rw [show IntKind.wrap .i64 (t26 + 1) = (t26 + 1) from wrap64 (by omega) (by omega)]
        refine impl_nextBreak_n1 (μ - 1) (by first | omega) ⟨o_39, o_40, (by omega), g_42, (by first | omega | (simp only [List.length_append, List.length_cons, List.length_nil, List.length_set]; done) | (simp only [List.length_append, List.length_cons, List.length_nil, List.length_set]; omega)), (by first | omega | (simp only [List.length_append, List.length_cons, List.length_nil, List.length_set]; done) | (simp only [List.length_append, List.length_cons, List.length_nil, List.length_set]; omega)), (by first | omega | (simp only [List.length_append, List.length_cons, List.length_nil, List.length_set]; done) | (simp only [List.length_append, List.length_cons, List.length_nil, List.length_set]; omega)), (by first | omega | (simp only [List.length_append, List.length_cons, List.length_nil, List.length_set]; done) | (simp only [List.length_append, List.length_cons, List.length_nil, List.length_set]; omega)), (by first | omega), (by rw [show μ - 1 + 1 = μ from by first | omega]; exact e)⟩
    · have e := e.trans (cond_f c_50)
      have c_50' := of_decide_eq_false c_50
      rw [impl_nextBreak_x1_0]
      refine Br.intro (fun c_66 => ?_) (fun c_66 => ?_)
      · have e := e.trans (cond_t c_66)
        rw [e] at hk
        exact hk  H_5 g_42 
      · have e := e.trans (cond_f c_66)
        rw [e] at hk
        exact hk  H_5 g_42 
theorem impl_nextBreak_ok : FnOk Try.prog 76 S_impl_nextBreak := by
  refine FnOk.body mix_ok E_impl_nextBreak_ok Try.func76 rfl (by kernel_rfl) (by kernel_rfl) ?_ ?_ ?_ ?_ ?_
  · intro args H K K' h hk
    simp only [S_impl_nextBreak] at *
    unfold F_impl_nextBreak at *
    split at hk
    · obtain ⟨l_list, l_breaks, i_list, i_breaks, bd_73, bd_74, pr0, k⟩ := hk
      exact ⟨l_list, l_breaks, i_list, i_breaks, bd_73, bd_74, pr0, (fun  H' gg  => h _ _ (k  H' gg ))⟩
    · exact hk.elim
  · intro hq; cases hq
  · intro args H K hk
    simp only [S_impl_nextBreak] at *
    unfold F_impl_nextBreak at *
    split at hk
    · obtain ⟨l_list, l_breaks, i_list, i_breaks, bd_73, bd_74, pr0, k⟩ := hk
      exact ⟨_, _, k H (Grow.refl H)⟩
    · exact hk.elim
  · intro _ args H K hk
    simp only [S_impl_nextBreak] at *
    unfold F_impl_nextBreak at *
    split at hk
    · obtain ⟨l_list, l_breaks, i_list, i_breaks, bd_73, bd_74, pr0, k⟩ := hk
      exact ⟨l_list, l_breaks, i_list, i_breaks, bd_73, bd_74, pr0, (fun  H' gg  => ⟨gg, k  H' gg ⟩)⟩
    · exact hk.elim
  · have mm := @impl_nextBreak_main
    revert mm
    generalize bodyK Try.prog E_impl_nextBreak Try.f76 = Q
    intro mm args H K hk
    simp only [S_impl_nextBreak] at *
    unfold F_impl_nextBreak at *
    split at hk
    · exact mm _ _ _ _ _ _ _ H K hk
    · exact hk.elim
def p_slices_Sort_int64_int64 (l_x : List Int) : List Int := l_x.mergeSort fun x y => decide (x ≤ y)
theorem slices_Sort_len (l : List Int) : (p_slices_Sort_int64_int64 l).length = l.length := List.length_mergeSort _
def T_slices_Sort_int64_int64 (x_a : Option Addr) (x_n : Nat) (x_e : Nat) (H : AHeap) (K : AHeap → Prop) : Prop := ∃ lo : Nat, ∃ (l_x : List Int), OwnS fI H lo x_a x_n x_e l_x ∧ l_x.length < 1073741824 ∧ l_x ≠ [] ∧ (∀ H' : AHeap, KeepA x_a H H' → OwnS fI H' lo x_a x_n x_e (p_slices_Sort_int64_int64 l_x) → K H')
theorem T_slices_Sort_int64_int64_i {x_a : Option Addr} {x_n : Nat} {x_e : Nat} {H : AHeap} {K : AHeap → Prop} (h : ∃ lo : Nat, ∃ (l_x : List Int), OwnS fI H lo x_a x_n x_e l_x ∧ l_x.length < 1073741824 ∧ l_x ≠ [] ∧ (∀ H' : AHeap, KeepA x_a H H' → OwnS fI H' lo x_a x_n x_e (p_slices_Sort_int64_int64 l_x) → K H')) : T_slices_Sort_int64_int64 x_a x_n x_e H K := h
abbrev S_slices_Sort_int64_int64 : FSpec := sortS
def sortRen : Go.Shelf.Ren := ⟨fun | 5 => 77 | 7 => 105 | 8 => 106 | 10 => 140 | 11 => 141 | 12 => 142 | 13 => 143 | 14 => 144 | 15 => 145 | 16 => 146 | 17 => 147 | 18 => 148 | 19 => 149 | 20 => 150 | 30 => 175 | 31 => 176 | 32 => 177 | 33 => 178 | 34 => 179 | 35 => 180 | 40 => 190 | n => n, fun | 0 => 0 | 3 => 3 | 4 => 4 | 5 => 5 | 9 => 9 | 22 => 52 | 23 => 52 | 25 => 2 | 32 => 132 | 35 => 156 | 36 => 157 | 41 => 161 | 44 => 120 | 46 => 117 | 53 => 180 | 57 => 183 | 63 => 192 | 64 => 193 | n => n, fun n => n⟩
theorem sortLay : SlLaysM.n5 Try.prog sortRen where
  mixed := by kernel_rfl
  f5 := ⟨"slices.Sort[[]int64,int64]", by decide, Try.func77.trans (congrArg some (by kernel_rfl))⟩
  f7 := ⟨"slices.pdqsortOrdered[int64]", by decide, Try.func105.trans (congrArg some (by kernel_rfl))⟩
  f8 := Try.func106.trans (congrArg some (by kernel_rfl))
  f10 := ⟨"slices.insertionSortOrdered[int64]", by decide, Try.func140.trans (congrArg some (by kernel_rfl))⟩
  f11 := ⟨"slices.heapSortOrdered[int64]", by decide, Try.func141.trans (congrArg some (by kernel_rfl))⟩
  f12 := ⟨"slices.breakPatternsOrdered[int64]", by decide, Try.func142.trans (congrArg some (by kernel_rfl))⟩
  f13 := ⟨"slices.choosePivotOrdered[int64]", by decide, Try.func143.trans (congrArg some (by kernel_rfl))⟩
  f14 := ⟨"slices.reverseRangeOrdered[int64]", by decide, Try.func144.trans (congrArg some (by kernel_rfl))⟩
  f15 := ⟨"slices.partialInsertionSortOrdered[int64]", by decide, Try.func145.trans (congrArg some (by kernel_rfl))⟩
  f16 := ⟨"cmp.Less[int64]", by decide, Try.func146.trans (congrArg some (by kernel_rfl))⟩
  f17 := ⟨"slices.partitionEqualOrdered[int64]", by decide, Try.func147.trans (congrArg some (by kernel_rfl))⟩
  f18 := ⟨"slices.partitionOrdered[int64]", by decide, Try.func148.trans (congrArg some (by kernel_rfl))⟩
  f19 := Try.func149.trans (congrArg some (by kernel_rfl))
  f20 := Try.func150.trans (congrArg some (by kernel_rfl))
  f30 := ⟨"slices.siftDownOrdered[int64]", by decide, Try.func175.trans (congrArg some (by kernel_rfl))⟩
  f31 := Try.func176.trans (congrArg some (by kernel_rfl))
  f32 := Try.func177.trans (congrArg some (by kernel_rfl))
  f33 := ⟨"slices.medianAdjacentOrdered[int64]", by decide, Try.func178.trans (congrArg some (by kernel_rfl))⟩
  f34 := ⟨"slices.medianOrdered[int64]", by decide, Try.func179.trans (congrArg some (by kernel_rfl))⟩
  f35 := ⟨"cmp.isNaN[int64]", by decide, Try.func180.trans (congrArg some (by kernel_rfl))⟩
  f40 := ⟨"slices.order2Ordered[int64]", by decide, Try.func190.trans (congrArg some (by kernel_rfl))⟩
  t0 := Try.underlying0
  a0 := Try.isAgg0
  z0 := Try.sizeOf0
  v0 := Try.zeroValue0
  t3 := Try.underlying3
  a3 := Try.isAgg3
  z3 := Try.sizeOf3
  v3 := Try.zeroValue3
  t4 := Try.underlying4
  a4 := Try.isAgg4
  z4 := Try.sizeOf4
  v4 := Try.zeroValue4
  t5 := Try.underlying5
  a5 := Try.isAgg5
  z5 := Try.sizeOf5
  v5 := Try.zeroValue5
  t9 := Try.underlying9
  a9 := Try.isAgg9
  z9 := Try.sizeOf9
  v9 := Try.zeroValue9
  t22 := Try.underlying52
  a22 := Try.isAgg52
  z22 := Try.sizeOf52
  v22 := Try.zeroValue52
  t23 := Try.underlying52
  a23 := Try.isAgg52
  z23 := Try.sizeOf52
  v23 := Try.zeroValue52
  t25 := Try.underlying2
  a25 := Try.isAgg2
  z25 := Try.sizeOf2
  v25 := Try.zeroValue2
  t32 := Try.underlying132
  a32 := Try.isAgg132
  z32 := Try.sizeOf132
  v32 := Try.zeroValue132
  t35 := Try.underlying156
  a35 := Try.isAgg156
  z35 := Try.sizeOf156
  v35 := Try.zeroValue156
  t36 := Try.underlying157
  a36 := Try.isAgg157
  z36 := Try.sizeOf157
  v36 := Try.zeroValue157
  t41 := Try.underlying161
  a41 := Try.isAgg161
  z41 := Try.sizeOf161
  v41 := Try.zeroValue161
  t44 := Try.underlying120
  a44 := Try.isAgg120
  z44 := Try.sizeOf120
  v44 := Try.zeroValue120
  t46 := Try.underlying117
  a46 := Try.isAgg117
  z46 := Try.sizeOf117
  v46 := Try.zeroValue117
  t53 := Try.underlying180
  a53 := Try.isAgg180
  z53 := Try.sizeOf180
  v53 := Try.zeroValue180
  t57 := Try.underlying183
  a57 := Try.isAgg183
  z57 := Try.sizeOf183
  v57 := Try.zeroValue183
  t63 := Try.underlying192
  a63 := Try.isAgg192
  z63 := Try.sizeOf192
  v63 := Try.zeroValue192
  t64 := Try.underlying193
  a64 := Try.isAgg193
  z64 := Try.sizeOf193
  v64 := Try.zeroValue193
theorem slices_Sort_int64_int64_ok : FnOk Try.prog 77 S_slices_Sort_int64_int64 := sort_ok sortLay rfl Try.func77 rfl rfl


def p_impl_BreaksOf_l1 (l_list : List Nat) (least : Nat) (vmost : Int) : Nat → Bool → (List Int) → (List Int) × Bool
  | 0, _, _ => ([], false)
  | μ + 1, t7, l_breaks => (bif decide (((l_breaks.length : Int) : Int) < vmost) then (bif !((p_impl_nextBreak l_list l_breaks least).2.2) then ([], false) else (bif !((p_impl_nextBreak l_list l_breaks least).2.1) then (l_breaks, true) else (p_impl_BreaksOf_l1 l_list least vmost μ t7 ((p_slices_Sort_int64_int64 ((l_breaks ++ [((p_impl_nextBreak l_list l_breaks least).1 : Int)]))))))) else (l_breaks, true))
theorem p_impl_BreaksOf_l1_s (l_list : List Nat) (least : Nat) (vmost : Int) (μ : Nat) (t7 : Bool) (l_breaks : List Int) : p_impl_BreaksOf_l1 l_list least vmost (μ + 1) t7 l_breaks = (bif decide (((l_breaks.length : Int) : Int) < vmost) then (bif !((p_impl_nextBreak l_list l_breaks least).2.2) then ([], false) else (bif !((p_impl_nextBreak l_list l_breaks least).2.1) then (l_breaks, true) else (p_impl_BreaksOf_l1 l_list least vmost μ t7 ((p_slices_Sort_int64_int64 ((l_breaks ++ [((p_impl_nextBreak l_list l_breaks least).1 : Int)]))))))) else (l_breaks, true)) := rfl
def p_impl_BreaksOf (l_list : List Nat) (least : Nat) (vmost : Int) : (List Int) × Bool := (bif !(p_impl_isLong l_list) then ([], false) else (bif !(p_impl_IsFinite least) then ([], false) else (bif !((p_impl_within vmost (0 : Int) (16 : Int))) then ([], false) else (p_impl_BreaksOf_l1 l_list least vmost (Int.toNat (vmost - (([] : List Int).length : Int)) + 1) false ([] : List Int)))))
theorem p_impl_BreaksOf_eq (l_list : List Nat) (least : Nat) (vmost : Int) : p_impl_BreaksOf l_list least vmost = (bif !(p_impl_isLong l_list) then ([], false) else (bif !(p_impl_IsFinite least) then ([], false) else (bif !((p_impl_within vmost (0 : Int) (16 : Int))) then ([], false) else (p_impl_BreaksOf_l1 l_list least vmost (Int.toNat (vmost - (([] : List Int).length : Int)) + 1) false ([] : List Int))))) := rfl
def T_impl_BreaksOf (list_a : Option Addr) (list_n : Nat) (list_e : Nat) (least : Nat) (vmost : Int) (H : AHeap) (K : (Option Addr) → Nat → Nat → Bool → AHeap → Prop) : Prop := ∃ (l_list : List Nat), IsL fF H list_a list_n l_list ∧ l_list.length < 1073741824 ∧ ((∀ (r1_a : Option Addr) (r1_n r1_e : Nat), ∀ H' : AHeap, Grow H H' → OwnS fI H' H.length r1_a r1_n r1_e ((p_impl_BreaksOf l_list least vmost).1) → K r1_a r1_n r1_e ((p_impl_BreaksOf l_list least vmost).2) H'))
theorem T_impl_BreaksOf_i {list_a : Option Addr} {list_n : Nat} {list_e : Nat} {least : Nat} {vmost : Int} {H : AHeap} {K : (Option Addr) → Nat → Nat → Bool → AHeap → Prop} (h : ∃ (l_list : List Nat), IsL fF H list_a list_n l_list ∧ l_list.length < 1073741824 ∧ ((∀ (r1_a : Option Addr) (r1_n r1_e : Nat), ∀ H' : AHeap, Grow H H' → OwnS fI H' H.length r1_a r1_n r1_e ((p_impl_BreaksOf l_list least vmost).1) → K r1_a r1_n r1_e ((p_impl_BreaksOf l_list least vmost).2) H'))) : T_impl_BreaksOf list_a list_n list_e least vmost H K := h
theorem impl_BreaksOf_l1_len (l : List Nat) (x : Nat) (v : Int) : ∀ (μ : Nat) (t7 : Bool) (bs : List Int), (p_impl_BreaksOf_l1 l x v μ t7 bs).1.length ≤ bs.length + μ := by
  intro μ
  induction μ with
  | zero => intro t7 bs; exact Nat.zero_le _
  | succ μ ih =>
    intro t7 bs
    rw [p_impl_BreaksOf_l1_s]
    refine cnd (P := fun r : List Int × Bool => r.1.length ≤ bs.length + (μ + 1)) (fun h => ?_) (fun h => show bs.length ≤ _ by omega)
    refine cnd (P := fun r : List Int × Bool => r.1.length ≤ bs.length + (μ + 1)) (fun h => Nat.zero_le _) (fun h => ?_)
    refine cnd (P := fun r : List Int × Bool => r.1.length ≤ bs.length + (μ + 1)) (fun h => show bs.length ≤ _ by omega) (fun h => ?_)
    refine Nat.le_trans (ih _ _) ?_
    rw [slices_Sort_len, List.length_append, List.length_singleton]; omega
theorem impl_BreaksOf_len (l : List Nat) (x : Nat) (v : Int) : (p_impl_BreaksOf l x v).1.length ≤ 64 := by
  rw [p_impl_BreaksOf_eq]
  refine cnd (P := fun r : List Int × Bool => r.1.length ≤ 64) (fun h => Nat.zero_le _) (fun h => ?_)
  refine cnd (P := fun r : List Int × Bool => r.1.length ≤ 64) (fun h => Nat.zero_le _) (fun h => ?_)
  refine cnd (P := fun r : List Int × Bool => r.1.length ≤ 64) (fun h => Nat.zero_le _) (fun h => ?_)
  refine Nat.le_trans (impl_BreaksOf_l1_len _ _ _ _ _ _) ?_
  have h2 : v ≤ 16 := by
    unfold p_impl_within at h
    simp at h; omega
  simp only [List.length_nil]; omega
/-! impl_BreaksOf: function 34 -/
def E_impl_BreaksOf : Env := envOf [(75, S_impl_isLong), (56, S_impl_IsFinite), (54, S_impl_within), (76, S_impl_nextBreak), (77, S_slices_Sort_int64_int64)]
def F_impl_BreaksOf : List Value → AHeap → (Value → AHeap → Prop) → Prop
  | [.slice list_a list_n list_e, .float .f32 least, .int .i64 vmost], H, K => T_impl_BreaksOf list_a list_n list_e least vmost H fun (r1_a : Option Addr) (r1_n : Nat) (r1_e : Nat) (r2 : Bool) (H' : AHeap) => K (.tuple #[.slice r1_a r1_n r1_e, .bool r2]) H'
  | _, _, _ => False
def S_impl_BreaksOf : FSpec := { F := F_impl_BreaksOf, quiet := false, tame := true }
theorem impl_BreaksOf_vc (list_a : Option Addr) (list_n : Nat) (list_e : Nat) (least : Nat) (vmost : Int) (H : AHeap) (K : Value → AHeap → Prop) : bodyK Try.prog E_impl_BreaksOf Try.f34 [.slice list_a list_n list_e, .float .f32 least, .int .i64 vmost] H K =
  (T_impl_isLong list_a list_n list_e H fun (r1 : Bool) (H1 : AHeap) => Br (!r1) (K (.tuple #[.slice none 0 0, .bool false]) H1) (T_impl_IsFinite least H1 fun (r2 : Bool) (H2 : AHeap) => Br (!r2) (K (.tuple #[.slice none 0 0, .bool false]) H2) (T_impl_within vmost 0 16 H2 fun (r3 : Bool) (H3 : AHeap) => Br (!r3) (K (.tuple #[.slice none 0 0, .bool false]) H3) (Al [] H3 fun b1 H4 => loopK (exK Try.prog E_impl_BreaksOf (cl (cl (cl (cr (cr (cr (bodyC Try.f34)))))))) [.slice list_a list_n list_e, .float .f32 least, .int .i64 vmost, undef, undef, undef, .slice none 0 0, .bool false, .slice (some ⟨b1, 0, none⟩) 0 1, undef, undef, undef, .slice list_a list_n list_e, .bool r1, .bool (!r1), .bool false, .float .f32 least, .bool r2, .bool (!r2), .bool (!r2), .bool false, .int .i64 vmost, .bool r3, .bool (!r3), .bool (!r3), .slice (some ⟨b1, 0, none⟩) 0 1, undef, undef, undef, undef, undef, undef, undef, undef, undef, undef, undef, undef, undef, undef, undef, undef, undef, undef, undef, undef, undef, undef, undef] H4 (blockQ 0 (seqQ (exK Try.prog E_impl_BreaksOf (cr (cr (cr (cr (bodyC Try.f34)))))) (retK Try.prog Try.f34 K))))))) := by kernel_rfl
theorem impl_BreaksOf_r1 (b1 : Nat) (least : Nat) (list_a : Option Addr) (list_e : Nat) (list_n : Nat) (r1 : Bool) (r2 : Bool) (r3 : Bool) (vmost : Int) (t6_a : Option Addr) (t6_n : Nat) (t6_e : Nat) (t7 : Bool) (breaks_a : Option Addr) (breaks_n : Nat) (breaks_e : Nat) (g9 g10 g11 g26 g27 g28 g29 g30 g31 g32 g33 g34 g35 g36 g37 g38 g39 g40 g41 g42 g43 g44 g45 g46 g47 : Value) (H : AHeap) (R : Post) : exK Try.prog E_impl_BreaksOf (cl (cl (cl (cr (cr (cr (bodyC Try.f34))))))) [.slice list_a list_n list_e, .float .f32 least, .int .i64 vmost, undef, undef, undef, .slice t6_a t6_n t6_e, .bool t7, .slice breaks_a breaks_n breaks_e, g9, g10, g11, .slice list_a list_n list_e, .bool r1, .bool (!r1), .bool false, .float .f32 least, .bool r2, .bool (!r2), .bool (!r2), .bool false, .int .i64 vmost, .bool r3, .bool (!r3), .bool (!r3), .slice (some ⟨b1, 0, none⟩) 0 1, g26, g27, g28, g29, g30, g31, g32, g33, g34, g35, g36, g37, g38, g39, g40, g41, g42, g43, g44, g45, g46, g47, undef] H R =
  (Br (decide (((breaks_n : Int) : Int) < vmost)) (T_impl_nextBreak list_a list_n list_e breaks_a breaks_n breaks_e least H fun (r4 : Int) (r5 : Bool) (r6 : Bool) (H5 : AHeap) => Br (!r6) (R .ret [.slice list_a list_n list_e, .float .f32 least, .int .i64 vmost, undef, undef, undef, .slice none 0 0, .bool false, .slice breaks_a breaks_n breaks_e, .int .i64 r4, .bool r5, .bool r6, .slice list_a list_n list_e, .bool r1, .bool (!r1), .bool false, .float .f32 least, .bool r2, .bool (!r2), .bool (!r2), .bool false, .int .i64 vmost, .bool r3, .bool (!r3), .bool (!r3), .slice (some ⟨b1, 0, none⟩) 0 1, .slice breaks_a breaks_n breaks_e, .int .i64 (breaks_n : Int), .int .i64 vmost, .bool (decide (((breaks_n : Int) : Int) < vmost)), .tuple #[.int .i64 r4, .bool r5, .bool r6], .slice list_a list_n list_e, .slice breaks_a breaks_n breaks_e, .float .f32 least, .tuple #[.int .i64 r4, .bool r5, .bool r6], .int .i64 r4, .bool r5, .bool r6, .bool r6, .bool (!r6), g40, g41, g42, g43, g44, g45, g46, g47, undef] H5) (Br (!r5) (R (.exit 0) [.slice list_a list_n list_e, .float .f32 least, .int .i64 vmost, undef, undef, undef, .slice t6_a t6_n t6_e, .bool t7, .slice breaks_a breaks_n breaks_e, .int .i64 r4, .bool r5, .bool r6, .slice list_a list_n list_e, .bool r1, .bool (!r1), .bool false, .float .f32 least, .bool r2, .bool (!r2), .bool (!r2), .bool false, .int .i64 vmost, .bool r3, .bool (!r3), .bool (!r3), .slice (some ⟨b1, 0, none⟩) 0 1, .slice breaks_a breaks_n breaks_e, .int .i64 (breaks_n : Int), .int .i64 vmost, .bool (decide (((breaks_n : Int) : Int) < vmost)), .tuple #[.int .i64 r4, .bool r5, .bool r6], .slice list_a list_n list_e, .slice breaks_a breaks_n breaks_e, .float .f32 least, .tuple #[.int .i64 r4, .bool r5, .bool r6], .int .i64 r4, .bool r5, .bool r6, .bool r6, .bool (!r6), .bool r5, .bool (!r5), g42, g43, g44, g45, g46, g47, undef] H5) (Al [.int .i64 r4] H5 fun b2 H6 => ∃ o1 w1 : List Value, ownB H6 breaks_a breaks_n breaks_e 1 = some o1 ∧ rdS H6 (some ⟨b2, 0, none⟩) (1 * 1) = some w1 ∧ ((breaks_a : Option Addr) = none → 0 < (1 : Nat)) ∧ (breaks_n : Nat) + 1 < most ∧ Ap H6 (killB H6 breaks_a ++ [some ⟨o1 ++ w1, true⟩]) fun b3 H7 => T_slices_Sort_int64_int64 (some ⟨b3, 0, none⟩) (breaks_n + 1) 1 H7 fun  (H8 : AHeap) => R .normal [.slice list_a list_n list_e, .float .f32 least, .int .i64 vmost, undef, undef, undef, .slice t6_a t6_n t6_e, .bool t7, .slice (some ⟨b3, 0, none⟩) (breaks_n + 1) 1, .int .i64 r4, .bool r5, .bool r6, .slice list_a list_n list_e, .bool r1, .bool (!r1), .bool false, .float .f32 least, .bool r2, .bool (!r2), .bool (!r2), .bool false, .int .i64 vmost, .bool r3, .bool (!r3), .bool (!r3), .slice (some ⟨b1, 0, none⟩) 0 1, .slice breaks_a breaks_n breaks_e, .int .i64 (breaks_n : Int), .int .i64 vmost, .bool (decide (((breaks_n : Int) : Int) < vmost)), .tuple #[.int .i64 r4, .bool r5, .bool r6], .slice list_a list_n list_e, .slice breaks_a breaks_n breaks_e, .float .f32 least, .tuple #[.int .i64 r4, .bool r5, .bool r6], .int .i64 r4, .bool r5, .bool r6, .bool r6, .bool (!r6), .bool r5, .bool (!r5), .slice breaks_a breaks_n breaks_e, .int .i64 r4, .slice (some ⟨b2, 0, none⟩) 1 1, .slice (some ⟨b3, 0, none⟩) (breaks_n + 1) 1, .slice (some ⟨b3, 0, none⟩) (breaks_n + 1) 1, .tuple #[], undef] H8))) (R (.exit 0) [.slice list_a list_n list_e, .float .f32 least, .int .i64 vmost, undef, undef, undef, .slice t6_a t6_n t6_e, .bool t7, .slice breaks_a breaks_n breaks_e, g9, g10, g11, .slice list_a list_n list_e, .bool r1, .bool (!r1), .bool false, .float .f32 least, .bool r2, .bool (!r2), .bool (!r2), .bool false, .int .i64 vmost, .bool r3, .bool (!r3), .bool (!r3), .slice (some ⟨b1, 0, none⟩) 0 1, .slice breaks_a breaks_n breaks_e, .int .i64 (breaks_n : Int), .int .i64 vmost, .bool (decide (((breaks_n : Int) : Int) < vmost)), g30, g31, g32, g33, g34, g35, g36, g37, g38, g39, g40, g41, g42, g43, g44, g45, g46, g47, undef] H)) := by kernel_rfl
def impl_BreaksOf_I1 (b1 : Nat) (least : Nat) (list_a : Option Addr) (list_e : Nat) (list_n : Nat) (r1 : Bool) (r2 : Bool) (r3 : Bool) (vmost : Int) (Inv : Nat → (Option Addr) → Nat → Nat → Bool → (Option Addr) → Nat → Nat → AHeap → Prop) : Nat → List Value → AHeap → Prop := fun μ tm H => ∃ (t6_a : Option Addr), ∃ (t6_n : Nat), ∃ (t6_e : Nat), ∃ (t7 : Bool), ∃ (breaks_a : Option Addr), ∃ (breaks_n : Nat), ∃ (breaks_e : Nat), ∃ g9 g10 g11 g26 g27 g28 g29 g30 g31 g32 g33 g34 g35 g36 g37 g38 g39 g40 g41 g42 g43 g44 g45 g46 g47, tm = [.slice list_a list_n list_e, .float .f32 least, .int .i64 vmost, undef, undef, undef, .slice t6_a t6_n t6_e, .bool t7, .slice breaks_a breaks_n breaks_e, g9, g10, g11, .slice list_a list_n list_e, .bool r1, .bool (!r1), .bool false, .float .f32 least, .bool r2, .bool (!r2), .bool (!r2), .bool false, .int .i64 vmost, .bool r3, .bool (!r3), .bool (!r3), .slice (some ⟨b1, 0, none⟩) 0 1, g26, g27, g28, g29, g30, g31, g32, g33, g34, g35, g36, g37, g38, g39, g40, g41, g42, g43, g44, g45, g46, g47, undef] ∧ Inv μ t6_a t6_n t6_e t7 breaks_a breaks_n breaks_e H
theorem impl_BreaksOf_L1 (b1 : Nat) (least : Nat) (list_a : Option Addr) (list_e : Nat) (list_n : Nat) (r1 : Bool) (r2 : Bool) (r3 : Bool) (vmost : Int) {Q : Post} (Inv : Nat → (Option Addr) → Nat → Nat → Bool → (Option Addr) → Nat → Nat → AHeap → Prop) (ν : Nat) (t6_a : Option Addr) (t6_n : Nat) (t6_e : Nat) (t7 : Bool) (breaks_a : Option Addr) (breaks_n : Nat) (breaks_e : Nat) (g9 g10 g11 g26 g27 g28 g29 g30 g31 g32 g33 g34 g35 g36 g37 g38 g39 g40 g41 g42 g43 g44 g45 g46 g47 : Value) (H : AHeap) (h0 : Inv ν t6_a t6_n t6_e t7 breaks_a breaks_n breaks_e H)
    (hs : ∀ (μ : Nat) (t6_a : Option Addr) (t6_n : Nat) (t6_e : Nat) (t7 : Bool) (breaks_a : Option Addr) (breaks_n : Nat) (breaks_e : Nat) (g9 g10 g11 g26 g27 g28 g29 g30 g31 g32 g33 g34 g35 g36 g37 g38 g39 g40 g41 g42 g43 g44 g45 g46 g47 : Value) (H : AHeap), Inv μ t6_a t6_n t6_e t7 breaks_a breaks_n breaks_e H → exK Try.prog E_impl_BreaksOf (cl (cl (cl (cr (cr (cr (bodyC Try.f34))))))) [.slice list_a list_n list_e, .float .f32 least, .int .i64 vmost, undef, undef, undef, .slice t6_a t6_n t6_e, .bool t7, .slice breaks_a breaks_n breaks_e, g9, g10, g11, .slice list_a list_n list_e, .bool r1, .bool (!r1), .bool false, .float .f32 least, .bool r2, .bool (!r2), .bool (!r2), .bool false, .int .i64 vmost, .bool r3, .bool (!r3), .bool (!r3), .slice (some ⟨b1, 0, none⟩) 0 1, g26, g27, g28, g29, g30, g31, g32, g33, g34, g35, g36, g37, g38, g39, g40, g41, g42, g43, g44, g45, g46, g47, undef] H (loopQ (impl_BreaksOf_I1 b1 least list_a list_e list_n r1 r2 r3 vmost Inv) μ Q)) : loopK (exK Try.prog E_impl_BreaksOf (cl (cl (cl (cr (cr (cr (bodyC Try.f34)))))))) [.slice list_a list_n list_e, .float .f32 least, .int .i64 vmost, undef, undef, undef, .slice t6_a t6_n t6_e, .bool t7, .slice breaks_a breaks_n breaks_e, g9, g10, g11, .slice list_a list_n list_e, .bool r1, .bool (!r1), .bool false, .float .f32 least, .bool r2, .bool (!r2), .bool (!r2), .bool false, .int .i64 vmost, .bool r3, .bool (!r3), .bool (!r3), .slice (some ⟨b1, 0, none⟩) 0 1, g26, g27, g28, g29, g30, g31, g32, g33, g34, g35, g36, g37, g38, g39, g40, g41, g42, g43, g44, g45, g46, g47, undef] H Q :=
  ⟨impl_BreaksOf_I1 b1 least list_a list_e list_n r1 r2 r3 vmost Inv, ν, ⟨t6_a, t6_n, t6_e, t7, breaks_a, breaks_n, breaks_e, g9, g10, g11, g26, g27, g28, g29, g30, g31, g32, g33, g34, g35, g36, g37, g38, g39, g40, g41, g42, g43, g44, g45, g46, g47, rfl, h0⟩, fun μ tm H h => by obtain ⟨t6_a, t6_n, t6_e, t7, breaks_a, breaks_n, breaks_e, g9, g10, g11, g26, g27, g28, g29, g30, g31, g32, g33, g34, g35, g36, g37, g38, g39, g40, g41, g42, g43, g44, g45, g46, g47, rfl, hI⟩ := h; exact hs μ t6_a t6_n t6_e t7 breaks_a breaks_n breaks_e g9 g10 g11 g26 g27 g28 g29 g30 g31 g32 g33 g34 g35 g36 g37 g38 g39 g40 g41 g42 g43 g44 g45 g46 g47 H hI⟩
theorem impl_BreaksOf_n1 {b1 : Nat} {least : Nat} {list_a : Option Addr} {list_e : Nat} {list_n : Nat} {r1 : Bool} {r2 : Bool} {r3 : Bool} {vmost : Int} {Q : Post} {Inv : Nat → (Option Addr) → Nat → Nat → Bool → (Option Addr) → Nat → Nat → AHeap → Prop} {μ : Nat} (μ' : Nat) {t6_a : Option Addr} {t6_n : Nat} {t6_e : Nat} {t7 : Bool} {breaks_a : Option Addr} {breaks_n : Nat} {breaks_e : Nat} {g9 g10 g11 g26 g27 g28 g29 g30 g31 g32 g33 g34 g35 g36 g37 g38 g39 g40 g41 g42 g43 g44 g45 g46 g47 : Value} {H : AHeap} (hm : μ' < μ) (hI : Inv μ' t6_a t6_n t6_e t7 breaks_a breaks_n breaks_e H) : loopQ (impl_BreaksOf_I1 b1 least list_a list_e list_n r1 r2 r3 vmost Inv) μ Q .normal [.slice list_a list_n list_e, .float .f32 least, .int .i64 vmost, undef, undef, undef, .slice t6_a t6_n t6_e, .bool t7, .slice breaks_a breaks_n breaks_e, g9, g10, g11, .slice list_a list_n list_e, .bool r1, .bool (!r1), .bool false, .float .f32 least, .bool r2, .bool (!r2), .bool (!r2), .bool false, .int .i64 vmost, .bool r3, .bool (!r3), .bool (!r3), .slice (some ⟨b1, 0, none⟩) 0 1, g26, g27, g28, g29, g30, g31, g32, g33, g34, g35, g36, g37, g38, g39, g40, g41, g42, g43, g44, g45, g46, g47, undef] H := ⟨μ', hm, t6_a, t6_n, t6_e, t7, breaks_a, breaks_n, breaks_e, g9, g10, g11, g26, g27, g28, g29, g30, g31, g32, g33, g34, g35, g36, g37, g38, g39, g40, g41, g42, g43, g44, g45, g46, g47, rfl, hI⟩
theorem impl_BreaksOf_x1_0 (b1 : Nat) (least : Nat) (list_a : Option Addr) (list_e : Nat) (list_n : Nat) (r1 : Bool) (r2 : Bool) (r3 : Bool) (vmost : Int) (t6_a : Option Addr) (t6_n : Nat) (t6_e : Nat) (t7 : Bool) (breaks_a : Option Addr) (breaks_n : Nat) (breaks_e : Nat) (g9 g10 g11 g26 g27 g28 g29 g30 g31 g32 g33 g34 g35 g36 g37 g38 g39 g40 g41 g42 g43 g44 g45 g46 g47 : Value) (H : AHeap) (K : Value → AHeap → Prop)  {I : Nat → List Value → AHeap → Prop} {μ : Nat} : loopQ I μ (blockQ 0 (seqQ (exK Try.prog E_impl_BreaksOf (cr (cr (cr (cr (bodyC Try.f34)))))) (retK Try.prog Try.f34 K))) (.exit 0) [.slice list_a list_n list_e, .float .f32 least, .int .i64 vmost, undef, undef, undef, .slice t6_a t6_n t6_e, .bool t7, .slice breaks_a breaks_n breaks_e, g9, g10, g11, .slice list_a list_n list_e, .bool r1, .bool (!r1), .bool false, .float .f32 least, .bool r2, .bool (!r2), .bool (!r2), .bool false, .int .i64 vmost, .bool r3, .bool (!r3), .bool (!r3), .slice (some ⟨b1, 0, none⟩) 0 1, g26, g27, g28, g29, g30, g31, g32, g33, g34, g35, g36, g37, g38, g39, g40, g41, g42, g43, g44, g45, g46, g47, undef] H =
  (K (.tuple #[.slice breaks_a breaks_n breaks_e, .bool true]) H) := by kernel_rfl
theorem impl_BreaksOf_x1_ret (b1 : Nat) (least : Nat) (list_a : Option Addr) (list_e : Nat) (list_n : Nat) (r1 : Bool) (r2 : Bool) (r3 : Bool) (vmost : Int) (t6_a : Option Addr) (t6_n : Nat) (t6_e : Nat) (t7 : Bool) (breaks_a : Option Addr) (breaks_n : Nat) (breaks_e : Nat) (g9 g10 g11 g26 g27 g28 g29 g30 g31 g32 g33 g34 g35 g36 g37 g38 g39 g40 g41 g42 g43 g44 g45 g46 g47 : Value) (H : AHeap) (K : Value → AHeap → Prop)  {I : Nat → List Value → AHeap → Prop} {μ : Nat} : loopQ I μ (blockQ 0 (seqQ (exK Try.prog E_impl_BreaksOf (cr (cr (cr (cr (bodyC Try.f34)))))) (retK Try.prog Try.f34 K))) .ret [.slice list_a list_n list_e, .float .f32 least, .int .i64 vmost, undef, undef, undef, .slice t6_a t6_n t6_e, .bool t7, .slice breaks_a breaks_n breaks_e, g9, g10, g11, .slice list_a list_n list_e, .bool r1, .bool (!r1), .bool false, .float .f32 least, .bool r2, .bool (!r2), .bool (!r2), .bool false, .int .i64 vmost, .bool r3, .bool (!r3), .bool (!r3), .slice (some ⟨b1, 0, none⟩) 0 1, g26, g27, g28, g29, g30, g31, g32, g33, g34, g35, g36, g37, g38, g39, g40, g41, g42, g43, g44, g45, g46, g47, undef] H =
  (K (.tuple #[.slice t6_a t6_n t6_e, .bool t7]) H) := by kernel_rfl
theorem E_impl_BreaksOf_ok : ∀ g, FnOk Try.prog g (E_impl_BreaksOf g) := FnOk.envOf (by
  intro x hx
  simp only [List.mem_cons, List.not_mem_nil, or_false] at hx
  rcases hx with rfl | rfl | rfl | rfl | rfl
  · exact impl_isLong_ok
  · exact impl_IsFinite_ok
  · exact impl_within_ok
  · exact impl_nextBreak_ok
  · exact slices_Sort_int64_int64_ok)
set_option maxHeartbeats 1000000 in
theorem impl_BreaksOf_main (list_a : Option Addr) (list_n : Nat) (list_e : Nat) (least : Nat) (vmost : Int) (H : AHeap) (K : Value → AHeap → Prop) (h : T_impl_BreaksOf list_a list_n list_e least vmost H fun (r1_a : Option Addr) (r1_n : Nat) (r1_e : Nat) (r2 : Bool) (H' : AHeap) => K (.tuple #[.slice r1_a r1_n r1_e, .bool r2]) H') : bodyK Try.prog E_impl_BreaksOf Try.f34 [.slice list_a list_n list_e, .float .f32 least, .int .i64 vmost] H K := by
  rw [impl_BreaksOf_vc]
  obtain ⟨l_list, i_list, bd_70, hk⟩ := h
  obtain rfl := i_list.eqn
  have e : (p_impl_BreaksOf l_list least vmost) = _ := rfl
  have e := e.trans (p_impl_BreaksOf_eq l_list least vmost)
  have g0 := Grow.refl H
  refine T_impl_isLong_i ⟨_, (i_list.grow g0), (by first | omega | (simp only [List.length_set, List.length_replicate, List.length_append, List.length_cons, List.length_nil, List.length_take, List.length_drop, marks_length]; done) | (simp only [List.length_set, List.length_replicate, List.length_append, List.length_cons, List.length_nil, List.length_take, List.length_drop, marks_length]; omega)), fun  H_1 g_1  => ?_⟩
  have l_2 := g_1.1
  have g_3 := g0.trans g_1
  have l_4 := g_3.1
  refine Br.intro (fun c_5 => ?_) (fun c_5 => ?_)
  · have e := e.trans (cond_t c_5)
    have c_5n := nf_of_t c_5
    rw [e] at hk
    exact hk _ _ _ H_1 g_3 (OwnS.nil _ _ _ _)
  · have e := e.trans (cond_f c_5)
    have c_5n := nt_of_f c_5
    have c_5n' := impl_isLong_t c_5n
    refine T_impl_IsFinite_i ?_
    refine Br.intro (fun c_6 => ?_) (fun c_6 => ?_)
    · have e := e.trans (cond_t c_6)
      have c_6n := nf_of_t c_6
      rw [e] at hk
      exact hk _ _ _ H_1 g_3 (OwnS.nil _ _ _ _)
    · have e := e.trans (cond_f c_6)
      have c_6n := nt_of_f c_6
      refine T_impl_within_i ?_
      refine Br.intro (fun c_7 => ?_) (fun c_7 => ?_)
      · have e := e.trans (cond_t c_7)
        have c_7n := nf_of_t c_7
        rw [e] at hk
        exact hk _ _ _ H_1 g_3 (OwnS.nil _ _ _ _)
      · have e := e.trans (cond_f c_7)
        have c_7n := nt_of_f c_7
        have c_7n' := impl_within_t c_7n
        refine Al.intro (fun b_8 H_2 hb_9 hl_10 g_11 o_12 => ?_)
        have o_12 : Own H_2 b_8 ((([] : List Int)).map fI) := o_12
        have l_14 := g_11.1
        have g_15 := g_3.trans g_11
        have l_16 := g_15.1
        have w_69 := o_12.lt
        refine impl_BreaksOf_L1 _ _ _ _ _ _ _ _ _ (fun (μ : Nat) (t6_a : Option Addr) (t6_n : Nat) (t6_e : Nat) (t7 : Bool) (breaks_a : Option Addr) (breaks_n : Nat) (breaks_e : Nat) (H_3 : AHeap) => ∃ (l_breaks : List Int), ∃ (b_17 : Nat), t6_a = none ∧ t6_n = 0 ∧ t6_e = 0 ∧ breaks_a = some ⟨b_17, 0, none⟩ ∧ breaks_n = l_breaks.length ∧ breaks_e = 1 ∧ Own H_3 b_17 (l_breaks.map fI) ∧ Grow H H_3 ∧ H.length ≤ b_17 ∧ Cut l_list.length l_breaks ∧ vmost - (l_breaks.length : Int) ≤ (μ : Int) ∧ p_impl_BreaksOf l_list least vmost = p_impl_BreaksOf_l1 l_list least vmost (μ + 1) t7 l_breaks) (Int.toNat (vmost - (([] : List Int).length : Int))) _ _ _ _ _ _ _ _ _ _ _ _ _ _ _ _ _ _ _ _ _ _ _ _ _ _ _ _ _ _ _ _ H_2 ?_ ?_
        · exact ⟨_, _, rfl, rfl, rfl, rfl, (by first | rfl | omega | (simp only [List.length_set]; done) | (simp only [List.length_set, List.length_replicate]; omega)), rfl, o_12, g_15, (by omega), (by first | omega | (simp; done) | (simp; omega) | (first | omega | exact cut_nil _ | exact cut_sort (cut_app (by assumption) (cut_one (by omega) (by omega))))), (by omega), e⟩
        · intro μ t6_a t6_n t6_e t7 breaks_a breaks_n breaks_e g9 g10 g11 g26 g27 g28 g29 g30 g31 g32 g33 g34 g35 g36 g37 g38 g39 g40 g41 g42 g43 g44 g45 g46 g47 H_3 hI
          obtain ⟨l_breaks, b_17, rfl, rfl, rfl, rfl, rfl, rfl, o_18, g_19, l_20, v_21, hμ, e⟩ := hI
          rw [impl_BreaksOf_r1]
          have e := e.trans (p_impl_BreaksOf_l1_s l_list least vmost μ t7 l_breaks)
          have w_22 := o_18.lt
          have l_23 := g_19.1
          refine Br.intro (fun c_24 => ?_) (fun c_24 => ?_)
          · have e := e.trans (cond_t c_24)
            have c_24' := of_decide_eq_true c_24
            refine T_impl_nextBreak_i ⟨_, _, (i_list.grow g_19), (o_18.isL (by first | rfl | omega | (simp only [List.length_set]; done) | (simp only [List.length_set, List.length_replicate]; omega))), (by first | omega | (simp only [List.length_set, List.length_replicate, List.length_append, List.length_cons, List.length_nil, List.length_take, List.length_drop, marks_length]; done) | (simp only [List.length_set, List.length_replicate, List.length_append, List.length_cons, List.length_nil, List.length_take, List.length_drop, marks_length]; omega)), (by first | omega | (simp only [List.length_set, List.length_replicate, List.length_append, List.length_cons, List.length_nil, List.length_take, List.length_drop, marks_length]; done) | (simp only [List.length_set, List.length_replicate, List.length_append, List.length_cons, List.length_nil, List.length_take, List.length_drop, marks_length]; omega)), (by first | assumption | omega | (simp; omega)), fun  H_4 g_26  => ?_⟩
            have z_25 := impl_nextBreak_at l_list l_breaks least (by omega) (by assumption)
            have l_27 := g_26.1
            have g_28 := g_19.trans g_26
            have l_29 := g_28.1
            have o_30 := o_18.grow g_26
            have w_31 := o_30.lt
            refine Br.intro (fun c_32 => ?_) (fun c_32 => ?_)
            · have e := e.trans (cond_t c_32)
              have c_32n := nf_of_t c_32
              rw [impl_BreaksOf_x1_ret]
              rw [e] at hk
              exact hk _ _ _ H_4 g_28 (OwnS.nil _ _ _ _)
            · have e := e.trans (cond_f c_32)
              have c_32n := nt_of_f c_32
              refine Br.intro (fun c_33 => ?_) (fun c_33 => ?_)
              · have e := e.trans (cond_t c_33)
                have c_33n := nf_of_t c_33
                rw [impl_BreaksOf_x1_0]
                rw [e] at hk
                exact hk _ _ _ H_4 g_28 (o_30.ownS (by first | rfl | omega | (simp only [List.length_set]; done) | (simp only [List.length_set, List.length_replicate]; omega)) (by omega))
              · have e := e.trans (cond_f c_33)
                have c_33n := nt_of_f c_33
                refine Al.intro (fun b_34 H_5 hb_35 hl_36 g_37 o_38 => ?_)
                have o_38 : Own H_5 b_34 (([((p_impl_nextBreak l_list l_breaks least).1 : Int)]).map fI) := o_38
                have l_40 := g_37.1
                have g_41 := g_28.trans g_37
                have l_42 := g_41.1
                have o_43 := o_30.grow g_37
                have w_44 := o_43.lt
                have w_68 := o_38.lt
                refine ⟨_, _, o_43.ownB (by first | (simp only [List.length_map, List.length_cons, List.length_nil, List.length_append]; done) | (simp only [List.length_map, List.length_cons, List.length_nil, List.length_append]; omega) | (simp only [List.length_map, List.length_cons, List.length_nil, List.length_append, List.length_take, List.length_drop]; omega)) rfl, (isl_rdS (o_38.isL (by first | rfl | omega | (simp only [List.length_set]; done) | (simp only [List.length_set, List.length_replicate]; omega)))), (fun h => by cases h), (by have := most_eq; omega), ?_⟩
                refine Ap.app o_43 rfl rfl (fun b_49 H_6 q_66 hl_45 o_46 k_47 => ?_)
                have o_46 := map_snoc o_46
                have l_50 := k_47.1
                have g_51 := g_41.keep (b := b_17) (by omega) k_47
                have l_52 := g_51.1
                have o_53 := o_38.keep (by omega) k_47
                have w_54 := o_53.lt
                have w_67 := o_46.lt
                refine T_slices_Sort_int64_int64_i ⟨_, _, (o_46.ownS (by first | omega | (simp only [List.length_append, List.length_cons, List.length_nil]; done) | (simp only [List.length_append, List.length_cons, List.length_nil]; omega) | (simp only [List.length_append, List.length_cons, List.length_nil, List.length_take, List.length_drop]; omega)) (Nat.le_refl _)), (by first | omega | (simp only [List.length_set, List.length_replicate, List.length_append, List.length_cons, List.length_nil, List.length_take, List.length_drop, marks_length]; done) | (simp only [List.length_set, List.length_replicate, List.length_append, List.length_cons, List.length_nil, List.length_take, List.length_drop, marks_length]; omega)), (by first | assumption | omega | (simp; omega) | (simp)), (fun H_7 k_56 o_57 => ?_)⟩
                have z_55 := slices_Sort_len ((l_breaks ++ [((p_impl_nextBreak l_list l_breaks least).1 : Int)]))
                try simp only [List.length_append, List.length_cons, List.length_nil] at z_55
                have k_58 := k_56.keep1
                have o_59 := o_57.own1
                have w_65 := o_59.lt
                have l_60 := k_58.1
                have g_61 := g_51.keep (b := b_49) (by omega) k_58
                have l_62 := g_61.1
                have o_63 := o_53.keep (by omega) k_58
                have w_64 := o_63.lt
                refine impl_BreaksOf_n1 (μ - 1) (by first | omega) ⟨_, _, rfl, rfl, rfl, rfl, (by first | omega | (simp only [List.length_append, List.length_cons, List.length_nil]; done) | (simp only [List.length_append, List.length_cons, List.length_nil]; omega) | (simp only [List.length_append, List.length_cons, List.length_nil, List.length_take, List.length_drop]; omega)), rfl, o_59, g_61, (by omega), (by first | omega | (first | omega | exact cut_nil _ | exact cut_sort (cut_app (by assumption) (cut_one (by omega) (by omega)))) | (simp only [List.length_append, List.length_cons, List.length_nil, List.length_set]; done) | (simp only [List.length_append, List.length_cons, List.length_nil, List.length_set]; omega)), (by first | omega), (by rw [show μ - 1 + 1 = μ from by first | omega]; exact e)⟩
          · have e := e.trans (cond_f c_24)
            have c_24' := of_decide_eq_false c_24
            rw [impl_BreaksOf_x1_0]
            rw [e] at hk
            exact hk _ _ _ H_3 g_19 (o_18.ownS (by first | rfl | omega | (simp only [List.length_set]; done) | (simp only [List.length_set, List.length_replicate]; omega)) (by omega))
theorem impl_BreaksOf_ok : FnOk Try.prog 34 S_impl_BreaksOf := by
  refine FnOk.body mix_ok E_impl_BreaksOf_ok Try.func34 rfl (by kernel_rfl) (by kernel_rfl) ?_ ?_ ?_ ?_ ?_
  · intro args H K K' h hk
    simp only [S_impl_BreaksOf] at *
    unfold F_impl_BreaksOf at *
    split at hk
    · obtain ⟨l_list, i_list, bd_70, k⟩ := hk
      exact ⟨l_list, i_list, bd_70, (fun r1_a r1_n r1_e H' gg ow0 => h _ _ (k r1_a r1_n r1_e H' gg ow0))⟩
    · exact hk.elim
  · intro hq; cases hq
  · intro args H K hk
    simp only [S_impl_BreaksOf] at *
    unfold F_impl_BreaksOf at *
    split at hk
    · obtain ⟨l_list, i_list, bd_70, k⟩ := hk
      exact liveS fun a n e H1 g o => ⟨_, _, k a n e H1 g o⟩
    · exact hk.elim
  · intro _ args H K hk
    simp only [S_impl_BreaksOf] at *
    unfold F_impl_BreaksOf at *
    split at hk
    · obtain ⟨l_list, i_list, bd_70, k⟩ := hk
      exact ⟨l_list, i_list, bd_70, (fun r1_a r1_n r1_e H' gg ow0 => ⟨gg, k r1_a r1_n r1_e H' gg ow0⟩)⟩
    · exact hk.elim
  · have mm := @impl_BreaksOf_main
    revert mm
    generalize bodyK Try.prog E_impl_BreaksOf Try.f34 = Q
    intro mm args H K hk
    simp only [S_impl_BreaksOf] at *
    unfold F_impl_BreaksOf at *
    split at hk
    · exact mm _ _ _ _ _ H K hk
    · exact hk.elim

def p_laws_eqInt64S_l1 (l_a : List Int) (l_b : List Int) : Nat → Bool → Int → Bool
  | 0, _, _ => false
  | μ + 1, t4, i => (bif decide ((i : Int) < (l_a.length : Int)) then (bif (((l_a).getD (i : Int).toNat 0) : Int) != ((l_b).getD (i : Int).toNat 0) then false else (p_laws_eqInt64S_l1 l_a l_b μ t4 (i + 1))) else true)
theorem p_laws_eqInt64S_l1_s (l_a : List Int) (l_b : List Int) (μ : Nat) (t4 : Bool) (i : Int) : p_laws_eqInt64S_l1 l_a l_b (μ + 1) t4 i = (bif decide ((i : Int) < (l_a.length : Int)) then (bif (((l_a).getD (i : Int).toNat 0) : Int) != ((l_b).getD (i : Int).toNat 0) then false else (p_laws_eqInt64S_l1 l_a l_b μ t4 (i + 1))) else true) := rfl
def p_laws_eqInt64S (l_a : List Int) (l_b : List Int) : Bool := ((bif ((l_a.length : Int) : Int) != (l_b.length : Int) then false else (p_laws_eqInt64S_l1 l_a l_b (Int.toNat ((l_a.length : Int) - (0 : Int)) + 1) false (0 : Int))))
theorem p_laws_eqInt64S_eq (l_a : List Int) (l_b : List Int) : p_laws_eqInt64S l_a l_b = ((bif ((l_a.length : Int) : Int) != (l_b.length : Int) then false else (p_laws_eqInt64S_l1 l_a l_b (Int.toNat ((l_a.length : Int) - (0 : Int)) + 1) false (0 : Int)))) := rfl
def T_laws_eqInt64S (a_a : Option Addr) (a_n : Nat) (a_e : Nat) (b_a : Option Addr) (b_n : Nat) (b_e : Nat) (H : AHeap) (K : Bool → AHeap → Prop) : Prop := ∃ (l_a : List Int), ∃ (l_b : List Int), IsL fI H a_a a_n l_a ∧ IsL fI H b_a b_n l_b ∧ l_a.length < 1073741824 ∧ l_b.length < 1073741824 ∧ K (p_laws_eqInt64S l_a l_b) H
theorem T_laws_eqInt64S_i {a_a : Option Addr} {a_n : Nat} {a_e : Nat} {b_a : Option Addr} {b_n : Nat} {b_e : Nat} {H : AHeap} {K : Bool → AHeap → Prop} (h : ∃ (l_a : List Int), ∃ (l_b : List Int), IsL fI H a_a a_n l_a ∧ IsL fI H b_a b_n l_b ∧ l_a.length < 1073741824 ∧ l_b.length < 1073741824 ∧ K (p_laws_eqInt64S l_a l_b) H) : T_laws_eqInt64S a_a a_n a_e b_a b_n b_e H K := h
theorem laws_eqInt64S_go (l : List Int) : ∀ (μ : Nat) (t : Bool) (i : Nat), l.length - i < μ → p_laws_eqInt64S_l1 l l μ t (i : Int) = true := by
  intro μ
  induction μ with
  | zero => intro t i h; omega
  | succ μ ih =>
    intro t i hm
    rw [p_laws_eqInt64S_l1_s]
    by_cases h : i < l.length
    · rw [decide_eq_true (show (i : Int) < (l.length : Int) by omega), cond_true]
      simp only [bne_self_eq_false, cond_false]
      exact ih t (i + 1) (by omega)
    · rw [decide_eq_false (show ¬ (i : Int) < (l.length : Int) by omega), cond_false]
theorem laws_eqInt64S_self (l : List Int) : p_laws_eqInt64S l l = true := by
  rw [p_laws_eqInt64S_eq]
  have h0 : ((l.length : Int) != (l.length : Int)) = false := by simp
  rw [h0, cond_false]
  exact laws_eqInt64S_go l _ false 0 (by omega)
/-! laws_eqInt64S: function 35 -/
def E_laws_eqInt64S : Env := envOf []
def F_laws_eqInt64S : List Value → AHeap → (Value → AHeap → Prop) → Prop
  | [.slice a_a a_n a_e, .slice b_a b_n b_e], H, K => T_laws_eqInt64S a_a a_n a_e b_a b_n b_e H fun (r1 : Bool) (H' : AHeap) => K (.bool r1) H'
  | _, _, _ => False
def S_laws_eqInt64S : FSpec := { F := F_laws_eqInt64S, quiet := true, tame := false }
theorem laws_eqInt64S_vc (a_a : Option Addr) (a_n : Nat) (a_e : Nat) (b_a : Option Addr) (b_n : Nat) (b_e : Nat) (H : AHeap) (K : Value → AHeap → Prop) : bodyK Try.prog E_laws_eqInt64S Try.f35 [.slice a_a a_n a_e, .slice b_a b_n b_e] H K =
  (Br (((a_n : Int) : Int) != (b_n : Int)) (K (.bool false) H) (loopK (exK Try.prog E_laws_eqInt64S (cl (cl (cr (cl (cr (cr (bodyC Try.f35)))))))) [.slice a_a a_n a_e, .slice b_a b_n b_e, undef, undef, .bool false, .int .i64 0, .slice a_a a_n a_e, .int .i64 (a_n : Int), .slice b_a b_n b_e, .int .i64 (b_n : Int), .bool (((a_n : Int) : Int) != (b_n : Int)), undef, undef, undef, undef, undef, undef, undef, undef, undef, undef, undef, undef, undef, undef, undef] H (blockQ 0 (seqQ (exK Try.prog E_laws_eqInt64S (cr (cr (cr (bodyC Try.f35))))) (retK Try.prog Try.f35 K))))) := by kernel_rfl
theorem laws_eqInt64S_r1 (a_a : Option Addr) (a_e : Nat) (a_n : Nat) (b_a : Option Addr) (b_e : Nat) (b_n : Nat) (t4 : Bool) (i : Int) (g11 g12 g13 g14 g15 g16 g17 g18 g19 g20 g21 g22 g23 g24 g25 : Value) (H : AHeap) (R : Post) : exK Try.prog E_laws_eqInt64S (cl (cl (cr (cl (cr (cr (bodyC Try.f35))))))) [.slice a_a a_n a_e, .slice b_a b_n b_e, undef, undef, .bool t4, .int .i64 i, .slice a_a a_n a_e, .int .i64 (a_n : Int), .slice b_a b_n b_e, .int .i64 (b_n : Int), .bool (((a_n : Int) : Int) != (b_n : Int)), g11, g12, g13, g14, g15, g16, g17, g18, g19, g20, g21, g22, g23, g24, g25] H R =
  (Br (decide ((i : Int) < (a_n : Int))) ((0 : Int) ≤ i ∧ i < (a_n : Int) ∧ ∃ b1 f1, (a_a : Option Addr) = some ⟨b1, f1, none⟩ ∧ ∃ x1 : Int,  rdC H b1 (f1 + (i : Int).toNat * 1) = some (.int .i64 x1) ∧ (0 : Int) ≤ i ∧ i < (b_n : Int) ∧ ∃ b2 f2, (b_a : Option Addr) = some ⟨b2, f2, none⟩ ∧ ∃ x2 : Int,  rdC H b2 (f2 + (i : Int).toNat * 1) = some (.int .i64 x2) ∧ Br ((x1 : Int) != x2) (R .ret [.slice a_a a_n a_e, .slice b_a b_n b_e, undef, undef, .bool false, .int .i64 i, .slice a_a a_n a_e, .int .i64 (a_n : Int), .slice b_a b_n b_e, .int .i64 (b_n : Int), .bool (((a_n : Int) : Int) != (b_n : Int)), .int .i64 i, .slice a_a a_n a_e, .int .i64 (a_n : Int), .bool (decide ((i : Int) < (a_n : Int))), g15, g16, .slice a_a a_n a_e, .int .i64 i, .pointer (some ⟨b1, f1 + (i : Int).toNat * 1, none⟩), .int .i64 x1, .slice b_a b_n b_e, .int .i64 i, .pointer (some ⟨b2, f2 + (i : Int).toNat * 1, none⟩), .int .i64 x2, .bool ((x1 : Int) != x2)] H) (R .normal [.slice a_a a_n a_e, .slice b_a b_n b_e, undef, undef, .bool t4, .int .i64 (IntKind.wrap .i64 (i + 1)), .slice a_a a_n a_e, .int .i64 (a_n : Int), .slice b_a b_n b_e, .int .i64 (b_n : Int), .bool (((a_n : Int) : Int) != (b_n : Int)), .int .i64 i, .slice a_a a_n a_e, .int .i64 (a_n : Int), .bool (decide ((i : Int) < (a_n : Int))), .int .i64 i, .int .i64 (IntKind.wrap .i64 (i + 1)), .slice a_a a_n a_e, .int .i64 i, .pointer (some ⟨b1, f1 + (i : Int).toNat * 1, none⟩), .int .i64 x1, .slice b_a b_n b_e, .int .i64 i, .pointer (some ⟨b2, f2 + (i : Int).toNat * 1, none⟩), .int .i64 x2, .bool ((x1 : Int) != x2)] H)) (R (.exit 0) [.slice a_a a_n a_e, .slice b_a b_n b_e, undef, undef, .bool t4, .int .i64 i, .slice a_a a_n a_e, .int .i64 (a_n : Int), .slice b_a b_n b_e, .int .i64 (b_n : Int), .bool (((a_n : Int) : Int) != (b_n : Int)), .int .i64 i, .slice a_a a_n a_e, .int .i64 (a_n : Int), .bool (decide ((i : Int) < (a_n : Int))), g15, g16, g17, g18, g19, g20, g21, g22, g23, g24, g25] H)) := by kernel_rfl
def laws_eqInt64S_I1 (a_a : Option Addr) (a_e : Nat) (a_n : Nat) (b_a : Option Addr) (b_e : Nat) (b_n : Nat) (Inv : Nat → Bool → Int → AHeap → Prop) : Nat → List Value → AHeap → Prop := fun μ tm H => ∃ (t4 : Bool), ∃ (i : Int), ∃ g11 g12 g13 g14 g15 g16 g17 g18 g19 g20 g21 g22 g23 g24 g25, tm = [.slice a_a a_n a_e, .slice b_a b_n b_e, undef, undef, .bool t4, .int .i64 i, .slice a_a a_n a_e, .int .i64 (a_n : Int), .slice b_a b_n b_e, .int .i64 (b_n : Int), .bool (((a_n : Int) : Int) != (b_n : Int)), g11, g12, g13, g14, g15, g16, g17, g18, g19, g20, g21, g22, g23, g24, g25] ∧ Inv μ t4 i H
theorem laws_eqInt64S_L1 (a_a : Option Addr) (a_e : Nat) (a_n : Nat) (b_a : Option Addr) (b_e : Nat) (b_n : Nat) {Q : Post} (Inv : Nat → Bool → Int → AHeap → Prop) (ν : Nat) (t4 : Bool) (i : Int) (g11 g12 g13 g14 g15 g16 g17 g18 g19 g20 g21 g22 g23 g24 g25 : Value) (H : AHeap) (h0 : Inv ν t4 i H)
    (hs : ∀ (μ : Nat) (t4 : Bool) (i : Int) (g11 g12 g13 g14 g15 g16 g17 g18 g19 g20 g21 g22 g23 g24 g25 : Value) (H : AHeap), Inv μ t4 i H → exK Try.prog E_laws_eqInt64S (cl (cl (cr (cl (cr (cr (bodyC Try.f35))))))) [.slice a_a a_n a_e, .slice b_a b_n b_e, undef, undef, .bool t4, .int .i64 i, .slice a_a a_n a_e, .int .i64 (a_n : Int), .slice b_a b_n b_e, .int .i64 (b_n : Int), .bool (((a_n : Int) : Int) != (b_n : Int)), g11, g12, g13, g14, g15, g16, g17, g18, g19, g20, g21, g22, g23, g24, g25] H (loopQ (laws_eqInt64S_I1 a_a a_e a_n b_a b_e b_n Inv) μ Q)) : loopK (exK Try.prog E_laws_eqInt64S (cl (cl (cr (cl (cr (cr (bodyC Try.f35)))))))) [.slice a_a a_n a_e, .slice b_a b_n b_e, undef, undef, .bool t4, .int .i64 i, .slice a_a a_n a_e, .int .i64 (a_n : Int), .slice b_a b_n b_e, .int .i64 (b_n : Int), .bool (((a_n : Int) : Int) != (b_n : Int)), g11, g12, g13, g14, g15, g16, g17, g18, g19, g20, g21, g22, g23, g24, g25] H Q :=
  ⟨laws_eqInt64S_I1 a_a a_e a_n b_a b_e b_n Inv, ν, ⟨t4, i, g11, g12, g13, g14, g15, g16, g17, g18, g19, g20, g21, g22, g23, g24, g25, rfl, h0⟩, fun μ tm H h => by obtain ⟨t4, i, g11, g12, g13, g14, g15, g16, g17, g18, g19, g20, g21, g22, g23, g24, g25, rfl, hI⟩ := h; exact hs μ t4 i g11 g12 g13 g14 g15 g16 g17 g18 g19 g20 g21 g22 g23 g24 g25 H hI⟩
theorem laws_eqInt64S_n1 {a_a : Option Addr} {a_e : Nat} {a_n : Nat} {b_a : Option Addr} {b_e : Nat} {b_n : Nat} {Q : Post} {Inv : Nat → Bool → Int → AHeap → Prop} {μ : Nat} (μ' : Nat) {t4 : Bool} {i : Int} {g11 g12 g13 g14 g15 g16 g17 g18 g19 g20 g21 g22 g23 g24 g25 : Value} {H : AHeap} (hm : μ' < μ) (hI : Inv μ' t4 i H) : loopQ (laws_eqInt64S_I1 a_a a_e a_n b_a b_e b_n Inv) μ Q .normal [.slice a_a a_n a_e, .slice b_a b_n b_e, undef, undef, .bool t4, .int .i64 i, .slice a_a a_n a_e, .int .i64 (a_n : Int), .slice b_a b_n b_e, .int .i64 (b_n : Int), .bool (((a_n : Int) : Int) != (b_n : Int)), g11, g12, g13, g14, g15, g16, g17, g18, g19, g20, g21, g22, g23, g24, g25] H := ⟨μ', hm, t4, i, g11, g12, g13, g14, g15, g16, g17, g18, g19, g20, g21, g22, g23, g24, g25, rfl, hI⟩
theorem laws_eqInt64S_x1_0 (a_a : Option Addr) (a_e : Nat) (a_n : Nat) (b_a : Option Addr) (b_e : Nat) (b_n : Nat) (t4 : Bool) (i : Int) (g11 g12 g13 g14 g15 g16 g17 g18 g19 g20 g21 g22 g23 g24 g25 : Value) (H : AHeap) (K : Value → AHeap → Prop)  {I : Nat → List Value → AHeap → Prop} {μ : Nat} : loopQ I μ (blockQ 0 (seqQ (exK Try.prog E_laws_eqInt64S (cr (cr (cr (bodyC Try.f35))))) (retK Try.prog Try.f35 K))) (.exit 0) [.slice a_a a_n a_e, .slice b_a b_n b_e, undef, undef, .bool t4, .int .i64 i, .slice a_a a_n a_e, .int .i64 (a_n : Int), .slice b_a b_n b_e, .int .i64 (b_n : Int), .bool (((a_n : Int) : Int) != (b_n : Int)), g11, g12, g13, g14, g15, g16, g17, g18, g19, g20, g21, g22, g23, g24, g25] H =
  (K (.bool true) H) := by kernel_rfl
theorem laws_eqInt64S_x1_ret (a_a : Option Addr) (a_e : Nat) (a_n : Nat) (b_a : Option Addr) (b_e : Nat) (b_n : Nat) (t4 : Bool) (i : Int) (g11 g12 g13 g14 g15 g16 g17 g18 g19 g20 g21 g22 g23 g24 g25 : Value) (H : AHeap) (K : Value → AHeap → Prop)  {I : Nat → List Value → AHeap → Prop} {μ : Nat} : loopQ I μ (blockQ 0 (seqQ (exK Try.prog E_laws_eqInt64S (cr (cr (cr (bodyC Try.f35))))) (retK Try.prog Try.f35 K))) .ret [.slice a_a a_n a_e, .slice b_a b_n b_e, undef, undef, .bool t4, .int .i64 i, .slice a_a a_n a_e, .int .i64 (a_n : Int), .slice b_a b_n b_e, .int .i64 (b_n : Int), .bool (((a_n : Int) : Int) != (b_n : Int)), g11, g12, g13, g14, g15, g16, g17, g18, g19, g20, g21, g22, g23, g24, g25] H =
  (K (.bool t4) H) := by kernel_rfl
theorem E_laws_eqInt64S_ok : ∀ g, FnOk Try.prog g (E_laws_eqInt64S g) := FnOk.envOf (by
  intro x hx; cases hx)
set_option maxHeartbeats 1000000 in
theorem laws_eqInt64S_main (a_a : Option Addr) (a_n : Nat) (a_e : Nat) (b_a : Option Addr) (b_n : Nat) (b_e : Nat) (H : AHeap) (K : Value → AHeap → Prop) (h : T_laws_eqInt64S a_a a_n a_e b_a b_n b_e H fun (r1 : Bool) (H' : AHeap) => K (.bool r1) H') : bodyK Try.prog E_laws_eqInt64S Try.f35 [.slice a_a a_n a_e, .slice b_a b_n b_e] H K := by
  rw [laws_eqInt64S_vc]
  obtain ⟨l_a, l_b, i_a, i_b, bd_13, bd_14, hk⟩ := h
  obtain rfl := i_a.eqn
  obtain rfl := i_b.eqn
  have e : (p_laws_eqInt64S l_a l_b) = _ := rfl
  have e := e.trans (p_laws_eqInt64S_eq l_a l_b)
  have g0 := Grow.refl H
  refine Br.intro (fun c_1 => ?_) (fun c_1 => ?_)
  · have e := e.trans (cond_t c_1)
    have c_1' := ine_t c_1
    rw [e] at hk
    exact hk
  · have e := e.trans (cond_f c_1)
    have c_1' := ine_f c_1
    refine laws_eqInt64S_L1 _ _ _ _ _ _ (fun (μ : Nat) (t4 : Bool) (i : Int) (H_1 : AHeap) => H = H_1 ∧ (0 : Int) ≤ i ∧ i ≤ (l_a.length : Int) ∧ (l_a.length : Int) - i ≤ (μ : Int) ∧ p_laws_eqInt64S l_a l_b = p_laws_eqInt64S_l1 l_a l_b (μ + 1) t4 i) (Int.toNat ((l_a.length : Int) - (0 : Int))) _ _ _ _ _ _ _ _ _ _ _ _ _ _ _ _ _ H ?_ ?_
    · exact ⟨rfl, (by first | omega | (simp; done) | (simp; omega)), (by first | omega | (simp; done) | (simp; omega)), (by omega), e⟩
    · intro μ t4 i g11 g12 g13 g14 g15 g16 g17 g18 g19 g20 g21 g22 g23 g24 g25 H_1 hI
      obtain ⟨rfl, v_2, v_3, hμ, e⟩ := hI
      rw [laws_eqInt64S_r1]
      have e := e.trans (p_laws_eqInt64S_l1_s l_a l_b μ t4 i)
      have l_4 := g0.1
      refine Br.intro (fun c_5 => ?_) (fun c_5 => ?_)
      · have e := e.trans (cond_t c_5)
        have c_5' := of_decide_eq_true c_5
        obtain ⟨b_6, f_7, q_8⟩ := ((i_a.grow g0)).pos (by first | omega | (simp only [List.length_set, List.length_replicate, List.length_append, List.length_cons, List.length_nil, List.length_take, List.length_drop, marks_length]; done) | (simp only [List.length_set, List.length_replicate, List.length_append, List.length_cons, List.length_nil, List.length_take, List.length_drop, marks_length]; omega))
        refine ⟨by omega, by omega, b_6, f_7, q_8, ?_⟩
        refine ⟨((l_a).getD (i : Int).toNat 0), (i_a).rd g0 q_8 (by omega) _, ?_⟩
        obtain ⟨b_9, f_10, q_11⟩ := ((i_b.grow g0)).pos (by first | omega | (simp only [List.length_set, List.length_replicate, List.length_append, List.length_cons, List.length_nil, List.length_take, List.length_drop, marks_length]; done) | (simp only [List.length_set, List.length_replicate, List.length_append, List.length_cons, List.length_nil, List.length_take, List.length_drop, marks_length]; omega))
        refine ⟨by omega, by omega, b_9, f_10, q_11, ?_⟩
        refine ⟨((l_b).getD (i : Int).toNat 0), (i_b).rd g0 q_11 (by omega) _, ?_⟩
        refine Br.intro (fun c_12 => ?_) (fun c_12 => ?_)
        · have e := e.trans (cond_t c_12)
          have c_12' := ine_t c_12
          rw [laws_eqInt64S_x1_ret]
          rw [e] at hk
          exact hk
        · have e := e.trans (cond_f c_12)
          have c_12' := ine_f c_12
          rw [show IntKind.wrap .i64 (i + 1) = (i + 1) from wrap64 (by omega) (by omega)]
          refine laws_eqInt64S_n1 (μ - 1) (by first | omega) ⟨rfl, (by first | omega | (simp only [List.length_append, List.length_cons, List.length_nil, List.length_set]; done) | (simp only [List.length_append, List.length_cons, List.length_nil, List.length_set]; omega)), (by first | omega | (simp only [List.length_append, List.length_cons, List.length_nil, List.length_set]; done) | (simp only [List.length_append, List.length_cons, List.length_nil, List.length_set]; omega)), (by first | omega), (by rw [show μ - 1 + 1 = μ from by first | omega]; exact e)⟩
      · have e := e.trans (cond_f c_5)
        have c_5' := of_decide_eq_false c_5
        rw [laws_eqInt64S_x1_0]
        rw [e] at hk
        exact hk
theorem laws_eqInt64S_ok : FnOk Try.prog 35 S_laws_eqInt64S := by
  refine FnOk.body mix_ok E_laws_eqInt64S_ok Try.func35 rfl (by kernel_rfl) (by kernel_rfl) ?_ ?_ ?_ ?_ ?_
  · intro args H K K' h hk
    simp only [S_laws_eqInt64S] at *
    unfold F_laws_eqInt64S at *
    split at hk
    · obtain ⟨l_a, l_b, i_a, i_b, bd_13, bd_14, k⟩ := hk
      exact ⟨l_a, l_b, i_a, i_b, bd_13, bd_14, h _ _ k⟩
    · exact hk.elim
  · intro _ args H K hk
    simp only [S_laws_eqInt64S] at *
    unfold F_laws_eqInt64S at *
    split at hk
    · obtain ⟨l_a, l_b, i_a, i_b, bd_13, bd_14, k⟩ := hk
      exact ⟨_, k, fun K' k' => ⟨l_a, l_b, i_a, i_b, bd_13, bd_14, k'⟩⟩
    · exact hk.elim
  · intro args H K hk
    simp only [S_laws_eqInt64S] at *
    unfold F_laws_eqInt64S at *
    split at hk
    · obtain ⟨l_a, l_b, i_a, i_b, bd_13, bd_14, k⟩ := hk
      exact ⟨_, _, k⟩
    · exact hk.elim
  · intro hq; cases hq
  · have mm := @laws_eqInt64S_main
    revert mm
    generalize bodyK Try.prog E_laws_eqInt64S Try.f35 = Q
    intro mm args H K hk
    simp only [S_laws_eqInt64S] at *
    unfold F_laws_eqInt64S at *
    split at hk
    · exact mm _ _ _ _ _ _ H K hk
    · exact hk.elim
def p_laws_sameFloat (a : Nat) (b : Nat) : Bool := ((bif !(feq .f64 a a) then (bif !(feq .f64 a a) then !(feq .f64 b b) else false) else (bif !(feq .f64 b b) then (bif !(feq .f64 a a) then !(feq .f64 b b) else false) else (bif feq .f64 a 0 then (bif feq .f64 b 0 then (flt .f64 0 (fdiv .f64 4607182418800017408 a)) == (flt .f64 0 (fdiv .f64 4607182418800017408 b)) else feq .f64 a b) else feq .f64 a b))))
theorem p_laws_sameFloat_eq (a : Nat) (b : Nat) : p_laws_sameFloat a b = ((bif !(feq .f64 a a) then (bif !(feq .f64 a a) then !(feq .f64 b b) else false) else (bif !(feq .f64 b b) then (bif !(feq .f64 a a) then !(feq .f64 b b) else false) else (bif feq .f64 a 0 then (bif feq .f64 b 0 then (flt .f64 0 (fdiv .f64 4607182418800017408 a)) == (flt .f64 0 (fdiv .f64 4607182418800017408 b)) else feq .f64 a b) else feq .f64 a b)))) := rfl
def T_laws_sameFloat (a : Nat) (b : Nat) (H : AHeap) (K : Bool → AHeap → Prop) : Prop := K (p_laws_sameFloat a b) H

theorem T_laws_sameFloat_i {a : Nat} {b : Nat} {H : AHeap} {K : Bool → AHeap → Prop} (h : K (p_laws_sameFloat a b) H) : T_laws_sameFloat a b H K := h
/-! laws_sameFloat: function 60 -/
def E_laws_sameFloat : Env := envOf []
def F_laws_sameFloat : List Value → AHeap → (Value → AHeap → Prop) → Prop
  | [.float .f64 a, .float .f64 b], H, K => T_laws_sameFloat a b H fun (r1 : Bool) (H' : AHeap) => K (.bool r1) H'
  | _, _, _ => False
def S_laws_sameFloat : FSpec := { F := F_laws_sameFloat, quiet := true, tame := false }
theorem laws_sameFloat_vc (a : Nat) (b : Nat) (H : AHeap) (K : Value → AHeap → Prop) : bodyK Try.prog E_laws_sameFloat Try.f60 [.float .f64 a, .float .f64 b] H K =
  (Br (!(feq .f64 a a)) (Br (!(feq .f64 a a)) (K (.bool (!(feq .f64 b b))) H) (K (.bool false) H)) (Br (!(feq .f64 b b)) (Br (!(feq .f64 a a)) (K (.bool (!(feq .f64 b b))) H) (K (.bool false) H)) (Br (feq .f64 a 0) (Br (feq .f64 b 0) (K (.bool ((flt .f64 0 (fdiv .f64 4607182418800017408 a)) == (flt .f64 0 (fdiv .f64 4607182418800017408 b)))) H) (K (.bool (feq .f64 a b)) H)) (K (.bool (feq .f64 a b)) H)))) := by kernel_rfl
theorem E_laws_sameFloat_ok : ∀ g, FnOk Try.prog g (E_laws_sameFloat g) := FnOk.envOf (by
  intro x hx; cases hx)
set_option maxHeartbeats 1000000 in
theorem laws_sameFloat_main (a : Nat) (b : Nat) (H : AHeap) (K : Value → AHeap → Prop) (h : T_laws_sameFloat a b H fun (r1 : Bool) (H' : AHeap) => K (.bool r1) H') : bodyK Try.prog E_laws_sameFloat Try.f60 [.float .f64 a, .float .f64 b] H K := by
  rw [laws_sameFloat_vc]
  unfold T_laws_sameFloat p_laws_sameFloat at h
  repeat' (first | exact h | (exfalso; simp_all; done) | (refine ⟨by decide, ?_⟩) | (refine Br.intro (fun hb => ?_) (fun hb => ?_) <;> (try simp only [hb, cond_true, cond_false, Bool.not_true, Bool.not_false] at h)))
theorem laws_sameFloat_ok : FnOk Try.prog 60 S_laws_sameFloat := by
  refine FnOk.body mix_ok E_laws_sameFloat_ok Try.func60 rfl (by kernel_rfl) (by kernel_rfl) ?_ ?_ ?_ ?_ ?_
  · intro args H K K' h hk
    simp only [S_laws_sameFloat] at *
    unfold F_laws_sameFloat at *
    split at hk
    · have k := hk
      exact h _ _ k
    · exact hk.elim
  · intro _ args H K hk
    simp only [S_laws_sameFloat] at *
    unfold F_laws_sameFloat at *
    split at hk
    · have k := hk
      exact ⟨_, k, fun K' k' => k'⟩
    · exact hk.elim
  · intro args H K hk
    simp only [S_laws_sameFloat] at *
    unfold F_laws_sameFloat at *
    split at hk
    · have k := hk
      exact ⟨_, _, k⟩
    · exact hk.elim
  · intro hq; cases hq
  · have mm := @laws_sameFloat_main
    revert mm
    generalize bodyK Try.prog E_laws_sameFloat Try.f60 = Q
    intro mm args H K hk
    simp only [S_laws_sameFloat] at *
    unfold F_laws_sameFloat at *
    split at hk
    · exact mm _ _ H K hk
    · exact hk.elim

def p_laws_eqFloat32S_l1 (l_a : List Nat) (l_b : List Nat) : Nat → Bool → Int → Bool
  | 0, _, _ => false
  | μ + 1, t4, i => (bif decide ((i : Int) < (l_a.length : Int)) then (bif !((p_laws_sameFloat (fwide (((l_a).getD (i : Int).toNat 0))) (fwide (((l_b).getD (i : Int).toNat 0))))) then false else (p_laws_eqFloat32S_l1 l_a l_b μ t4 (i + 1))) else true)
theorem p_laws_eqFloat32S_l1_s (l_a : List Nat) (l_b : List Nat) (μ : Nat) (t4 : Bool) (i : Int) : p_laws_eqFloat32S_l1 l_a l_b (μ + 1) t4 i = (bif decide ((i : Int) < (l_a.length : Int)) then (bif !((p_laws_sameFloat (fwide (((l_a).getD (i : Int).toNat 0))) (fwide (((l_b).getD (i : Int).toNat 0))))) then false else (p_laws_eqFloat32S_l1 l_a l_b μ t4 (i + 1))) else true) := rfl
def p_laws_eqFloat32S (l_a : List Nat) (l_b : List Nat) : Bool := ((bif ((l_a.length : Int) : Int) != (l_b.length : Int) then false else (p_laws_eqFloat32S_l1 l_a l_b (Int.toNat ((l_a.length : Int) - (0 : Int)) + 1) false (0 : Int))))
theorem p_laws_eqFloat32S_eq (l_a : List Nat) (l_b : List Nat) : p_laws_eqFloat32S l_a l_b = ((bif ((l_a.length : Int) : Int) != (l_b.length : Int) then false else (p_laws_eqFloat32S_l1 l_a l_b (Int.toNat ((l_a.length : Int) - (0 : Int)) + 1) false (0 : Int)))) := rfl
def T_laws_eqFloat32S (a_a : Option Addr) (a_n : Nat) (a_e : Nat) (b_a : Option Addr) (b_n : Nat) (b_e : Nat) (H : AHeap) (K : Bool → AHeap → Prop) : Prop := ∃ (l_a : List Nat), ∃ (l_b : List Nat), IsL fF H a_a a_n l_a ∧ IsL fF H b_a b_n l_b ∧ l_a.length < 1073741824 ∧ l_b.length < 1073741824 ∧ K (p_laws_eqFloat32S l_a l_b) H
theorem T_laws_eqFloat32S_i {a_a : Option Addr} {a_n : Nat} {a_e : Nat} {b_a : Option Addr} {b_n : Nat} {b_e : Nat} {H : AHeap} {K : Bool → AHeap → Prop} (h : ∃ (l_a : List Nat), ∃ (l_b : List Nat), IsL fF H a_a a_n l_a ∧ IsL fF H b_a b_n l_b ∧ l_a.length < 1073741824 ∧ l_b.length < 1073741824 ∧ K (p_laws_eqFloat32S l_a l_b) H) : T_laws_eqFloat32S a_a a_n a_e b_a b_n b_e H K := h
theorem laws_sameFloat_self (y : Nat) : p_laws_sameFloat y y = true := by
  rw [p_laws_sameFloat_eq]
  cases feq .f64 y y <;> simp
theorem laws_eqFloat32S_go (l : List Nat) : ∀ (μ : Nat) (t : Bool) (i : Nat), l.length - i < μ → p_laws_eqFloat32S_l1 l l μ t (i : Int) = true := by
  intro μ
  induction μ with
  | zero => intro t i h; omega
  | succ μ ih =>
    intro t i hm
    rw [p_laws_eqFloat32S_l1_s]
    by_cases h : i < l.length
    · rw [decide_eq_true (show (i : Int) < (l.length : Int) by omega), cond_true, laws_sameFloat_self]
      simp only [Bool.not_true, cond_false]
      exact ih t (i + 1) (by omega)
    · rw [decide_eq_false (show ¬ (i : Int) < (l.length : Int) by omega), cond_false]
theorem laws_eqFloat32S_self (l : List Nat) : p_laws_eqFloat32S l l = true := by
  rw [p_laws_eqFloat32S_eq]
  have h0 : ((l.length : Int) != (l.length : Int)) = false := by simp
  rw [h0, cond_false]
  exact laws_eqFloat32S_go l _ false 0 (by omega)
/-! laws_eqFloat32S: function 14 -/
def E_laws_eqFloat32S : Env := envOf [(60, S_laws_sameFloat)]
def F_laws_eqFloat32S : List Value → AHeap → (Value → AHeap → Prop) → Prop
  | [.slice a_a a_n a_e, .slice b_a b_n b_e], H, K => T_laws_eqFloat32S a_a a_n a_e b_a b_n b_e H fun (r1 : Bool) (H' : AHeap) => K (.bool r1) H'
  | _, _, _ => False
def S_laws_eqFloat32S : FSpec := { F := F_laws_eqFloat32S, quiet := true, tame := false }
theorem laws_eqFloat32S_vc (a_a : Option Addr) (a_n : Nat) (a_e : Nat) (b_a : Option Addr) (b_n : Nat) (b_e : Nat) (H : AHeap) (K : Value → AHeap → Prop) : bodyK Try.prog E_laws_eqFloat32S Try.f14 [.slice a_a a_n a_e, .slice b_a b_n b_e] H K =
  (Br (((a_n : Int) : Int) != (b_n : Int)) (K (.bool false) H) (loopK (exK Try.prog E_laws_eqFloat32S (cl (cl (cr (cl (cr (cr (bodyC Try.f14)))))))) [.slice a_a a_n a_e, .slice b_a b_n b_e, undef, undef, .bool false, .int .i64 0, .slice a_a a_n a_e, .int .i64 (a_n : Int), .slice b_a b_n b_e, .int .i64 (b_n : Int), .bool (((a_n : Int) : Int) != (b_n : Int)), undef, undef, undef, undef, undef, undef, undef, undef, undef, undef, undef, undef, undef, undef, undef, undef, undef, undef] H (blockQ 0 (seqQ (exK Try.prog E_laws_eqFloat32S (cr (cr (cr (bodyC Try.f14))))) (retK Try.prog Try.f14 K))))) := by kernel_rfl
theorem laws_eqFloat32S_r1 (a_a : Option Addr) (a_e : Nat) (a_n : Nat) (b_a : Option Addr) (b_e : Nat) (b_n : Nat) (t4 : Bool) (i : Int) (g11 g12 g13 g14 g15 g16 g17 g18 g19 g20 g21 g22 g23 g24 g25 g26 g27 g28 : Value) (H : AHeap) (R : Post) : exK Try.prog E_laws_eqFloat32S (cl (cl (cr (cl (cr (cr (bodyC Try.f14))))))) [.slice a_a a_n a_e, .slice b_a b_n b_e, undef, undef, .bool t4, .int .i64 i, .slice a_a a_n a_e, .int .i64 (a_n : Int), .slice b_a b_n b_e, .int .i64 (b_n : Int), .bool (((a_n : Int) : Int) != (b_n : Int)), g11, g12, g13, g14, g15, g16, g17, g18, g19, g20, g21, g22, g23, g24, g25, g26, g27, g28] H R =
  (Br (decide ((i : Int) < (a_n : Int))) ((0 : Int) ≤ i ∧ i < (a_n : Int) ∧ ∃ b1 f1, (a_a : Option Addr) = some ⟨b1, f1, none⟩ ∧ ∃ x1 : Nat,  rdC H b1 (f1 + (i : Int).toNat * 1) = some (.float .f32 x1) ∧ (0 : Int) ≤ i ∧ i < (b_n : Int) ∧ ∃ b2 f2, (b_a : Option Addr) = some ⟨b2, f2, none⟩ ∧ ∃ x2 : Nat,  rdC H b2 (f2 + (i : Int).toNat * 1) = some (.float .f32 x2) ∧ T_laws_sameFloat (fwide x1) (fwide x2) H fun (r1 : Bool) (H1 : AHeap) => Br (!r1) (R .ret [.slice a_a a_n a_e, .slice b_a b_n b_e, undef, undef, .bool false, .int .i64 i, .slice a_a a_n a_e, .int .i64 (a_n : Int), .slice b_a b_n b_e, .int .i64 (b_n : Int), .bool (((a_n : Int) : Int) != (b_n : Int)), .int .i64 i, .slice a_a a_n a_e, .int .i64 (a_n : Int), .bool (decide ((i : Int) < (a_n : Int))), g15, g16, .slice a_a a_n a_e, .int .i64 i, .pointer (some ⟨b1, f1 + (i : Int).toNat * 1, none⟩), .float .f32 x1, .float .f64 (fwide x1), .slice b_a b_n b_e, .int .i64 i, .pointer (some ⟨b2, f2 + (i : Int).toNat * 1, none⟩), .float .f32 x2, .float .f64 (fwide x2), .bool r1, .bool (!r1)] H1) (R .normal [.slice a_a a_n a_e, .slice b_a b_n b_e, undef, undef, .bool t4, .int .i64 (IntKind.wrap .i64 (i + 1)), .slice a_a a_n a_e, .int .i64 (a_n : Int), .slice b_a b_n b_e, .int .i64 (b_n : Int), .bool (((a_n : Int) : Int) != (b_n : Int)), .int .i64 i, .slice a_a a_n a_e, .int .i64 (a_n : Int), .bool (decide ((i : Int) < (a_n : Int))), .int .i64 i, .int .i64 (IntKind.wrap .i64 (i + 1)), .slice a_a a_n a_e, .int .i64 i, .pointer (some ⟨b1, f1 + (i : Int).toNat * 1, none⟩), .float .f32 x1, .float .f64 (fwide x1), .slice b_a b_n b_e, .int .i64 i, .pointer (some ⟨b2, f2 + (i : Int).toNat * 1, none⟩), .float .f32 x2, .float .f64 (fwide x2), .bool r1, .bool (!r1)] H1)) (R (.exit 0) [.slice a_a a_n a_e, .slice b_a b_n b_e, undef, undef, .bool t4, .int .i64 i, .slice a_a a_n a_e, .int .i64 (a_n : Int), .slice b_a b_n b_e, .int .i64 (b_n : Int), .bool (((a_n : Int) : Int) != (b_n : Int)), .int .i64 i, .slice a_a a_n a_e, .int .i64 (a_n : Int), .bool (decide ((i : Int) < (a_n : Int))), g15, g16, g17, g18, g19, g20, g21, g22, g23, g24, g25, g26, g27, g28] H)) := by kernel_rfl
def laws_eqFloat32S_I1 (a_a : Option Addr) (a_e : Nat) (a_n : Nat) (b_a : Option Addr) (b_e : Nat) (b_n : Nat) (Inv : Nat → Bool → Int → AHeap → Prop) : Nat → List Value → AHeap → Prop := fun μ tm H => ∃ (t4 : Bool), ∃ (i : Int), ∃ g11 g12 g13 g14 g15 g16 g17 g18 g19 g20 g21 g22 g23 g24 g25 g26 g27 g28, tm = [.slice a_a a_n a_e, .slice b_a b_n b_e, undef, undef, .bool t4, .int .i64 i, .slice a_a a_n a_e, .int .i64 (a_n : Int), .slice b_a b_n b_e, .int .i64 (b_n : Int), .bool (((a_n : Int) : Int) != (b_n : Int)), g11, g12, g13, g14, g15, g16, g17, g18, g19, g20, g21, g22, g23, g24, g25, g26, g27, g28] ∧ Inv μ t4 i H
theorem laws_eqFloat32S_L1 (a_a : Option Addr) (a_e : Nat) (a_n : Nat) (b_a : Option Addr) (b_e : Nat) (b_n : Nat) {Q : Post} (Inv : Nat → Bool → Int → AHeap → Prop) (ν : Nat) (t4 : Bool) (i : Int) (g11 g12 g13 g14 g15 g16 g17 g18 g19 g20 g21 g22 g23 g24 g25 g26 g27 g28 : Value) (H : AHeap) (h0 : Inv ν t4 i H)
    (hs : ∀ (μ : Nat) (t4 : Bool) (i : Int) (g11 g12 g13 g14 g15 g16 g17 g18 g19 g20 g21 g22 g23 g24 g25 g26 g27 g28 : Value) (H : AHeap), Inv μ t4 i H → exK Try.prog E_laws_eqFloat32S (cl (cl (cr (cl (cr (cr (bodyC Try.f14))))))) [.slice a_a a_n a_e, .slice b_a b_n b_e, undef, undef, .bool t4, .int .i64 i, .slice a_a a_n a_e, .int .i64 (a_n : Int), .slice b_a b_n b_e, .int .i64 (b_n : Int), .bool (((a_n : Int) : Int) != (b_n : Int)), g11, g12, g13, g14, g15, g16, g17, g18, g19, g20, g21, g22, g23, g24, g25, g26, g27, g28] H (loopQ (laws_eqFloat32S_I1 a_a a_e a_n b_a b_e b_n Inv) μ Q)) : loopK (exK Try.prog E_laws_eqFloat32S (cl (cl (cr (cl (cr (cr (bodyC Try.f14)))))))) [.slice a_a a_n a_e, .slice b_a b_n b_e, undef, undef, .bool t4, .int .i64 i, .slice a_a a_n a_e, .int .i64 (a_n : Int), .slice b_a b_n b_e, .int .i64 (b_n : Int), .bool (((a_n : Int) : Int) != (b_n : Int)), g11, g12, g13, g14, g15, g16, g17, g18, g19, g20, g21, g22, g23, g24, g25, g26, g27, g28] H Q :=
  ⟨laws_eqFloat32S_I1 a_a a_e a_n b_a b_e b_n Inv, ν, ⟨t4, i, g11, g12, g13, g14, g15, g16, g17, g18, g19, g20, g21, g22, g23, g24, g25, g26, g27, g28, rfl, h0⟩, fun μ tm H h => by obtain ⟨t4, i, g11, g12, g13, g14, g15, g16, g17, g18, g19, g20, g21, g22, g23, g24, g25, g26, g27, g28, rfl, hI⟩ := h; exact hs μ t4 i g11 g12 g13 g14 g15 g16 g17 g18 g19 g20 g21 g22 g23 g24 g25 g26 g27 g28 H hI⟩
theorem laws_eqFloat32S_n1 {a_a : Option Addr} {a_e : Nat} {a_n : Nat} {b_a : Option Addr} {b_e : Nat} {b_n : Nat} {Q : Post} {Inv : Nat → Bool → Int → AHeap → Prop} {μ : Nat} (μ' : Nat) {t4 : Bool} {i : Int} {g11 g12 g13 g14 g15 g16 g17 g18 g19 g20 g21 g22 g23 g24 g25 g26 g27 g28 : Value} {H : AHeap} (hm : μ' < μ) (hI : Inv μ' t4 i H) : loopQ (laws_eqFloat32S_I1 a_a a_e a_n b_a b_e b_n Inv) μ Q .normal [.slice a_a a_n a_e, .slice b_a b_n b_e, undef, undef, .bool t4, .int .i64 i, .slice a_a a_n a_e, .int .i64 (a_n : Int), .slice b_a b_n b_e, .int .i64 (b_n : Int), .bool (((a_n : Int) : Int) != (b_n : Int)), g11, g12, g13, g14, g15, g16, g17, g18, g19, g20, g21, g22, g23, g24, g25, g26, g27, g28] H := ⟨μ', hm, t4, i, g11, g12, g13, g14, g15, g16, g17, g18, g19, g20, g21, g22, g23, g24, g25, g26, g27, g28, rfl, hI⟩
theorem laws_eqFloat32S_x1_0 (a_a : Option Addr) (a_e : Nat) (a_n : Nat) (b_a : Option Addr) (b_e : Nat) (b_n : Nat) (t4 : Bool) (i : Int) (g11 g12 g13 g14 g15 g16 g17 g18 g19 g20 g21 g22 g23 g24 g25 g26 g27 g28 : Value) (H : AHeap) (K : Value → AHeap → Prop)  {I : Nat → List Value → AHeap → Prop} {μ : Nat} : loopQ I μ (blockQ 0 (seqQ (exK Try.prog E_laws_eqFloat32S (cr (cr (cr (bodyC Try.f14))))) (retK Try.prog Try.f14 K))) (.exit 0) [.slice a_a a_n a_e, .slice b_a b_n b_e, undef, undef, .bool t4, .int .i64 i, .slice a_a a_n a_e, .int .i64 (a_n : Int), .slice b_a b_n b_e, .int .i64 (b_n : Int), .bool (((a_n : Int) : Int) != (b_n : Int)), g11, g12, g13, g14, g15, g16, g17, g18, g19, g20, g21, g22, g23, g24, g25, g26, g27, g28] H =
  (K (.bool true) H) := by kernel_rfl
theorem laws_eqFloat32S_x1_ret (a_a : Option Addr) (a_e : Nat) (a_n : Nat) (b_a : Option Addr) (b_e : Nat) (b_n : Nat) (t4 : Bool) (i : Int) (g11 g12 g13 g14 g15 g16 g17 g18 g19 g20 g21 g22 g23 g24 g25 g26 g27 g28 : Value) (H : AHeap) (K : Value → AHeap → Prop)  {I : Nat → List Value → AHeap → Prop} {μ : Nat} : loopQ I μ (blockQ 0 (seqQ (exK Try.prog E_laws_eqFloat32S (cr (cr (cr (bodyC Try.f14))))) (retK Try.prog Try.f14 K))) .ret [.slice a_a a_n a_e, .slice b_a b_n b_e, undef, undef, .bool t4, .int .i64 i, .slice a_a a_n a_e, .int .i64 (a_n : Int), .slice b_a b_n b_e, .int .i64 (b_n : Int), .bool (((a_n : Int) : Int) != (b_n : Int)), g11, g12, g13, g14, g15, g16, g17, g18, g19, g20, g21, g22, g23, g24, g25, g26, g27, g28] H =
  (K (.bool t4) H) := by kernel_rfl
theorem E_laws_eqFloat32S_ok : ∀ g, FnOk Try.prog g (E_laws_eqFloat32S g) := FnOk.envOf (by
  intro x hx
  simp only [List.mem_cons, List.not_mem_nil, or_false] at hx
  subst hx; exact laws_sameFloat_ok)
set_option maxHeartbeats 1000000 in
theorem laws_eqFloat32S_main (a_a : Option Addr) (a_n : Nat) (a_e : Nat) (b_a : Option Addr) (b_n : Nat) (b_e : Nat) (H : AHeap) (K : Value → AHeap → Prop) (h : T_laws_eqFloat32S a_a a_n a_e b_a b_n b_e H fun (r1 : Bool) (H' : AHeap) => K (.bool r1) H') : bodyK Try.prog E_laws_eqFloat32S Try.f14 [.slice a_a a_n a_e, .slice b_a b_n b_e] H K := by
  rw [laws_eqFloat32S_vc]
  obtain ⟨l_a, l_b, i_a, i_b, bd_13, bd_14, hk⟩ := h
  obtain rfl := i_a.eqn
  obtain rfl := i_b.eqn
  have e : (p_laws_eqFloat32S l_a l_b) = _ := rfl
  have e := e.trans (p_laws_eqFloat32S_eq l_a l_b)
  have g0 := Grow.refl H
  refine Br.intro (fun c_1 => ?_) (fun c_1 => ?_)
  · have e := e.trans (cond_t c_1)
    have c_1' := ine_t c_1
    rw [e] at hk
    exact hk
  · have e := e.trans (cond_f c_1)
    have c_1' := ine_f c_1
    refine laws_eqFloat32S_L1 _ _ _ _ _ _ (fun (μ : Nat) (t4 : Bool) (i : Int) (H_1 : AHeap) => H = H_1 ∧ (0 : Int) ≤ i ∧ i ≤ (l_a.length : Int) ∧ (l_a.length : Int) - i ≤ (μ : Int) ∧ p_laws_eqFloat32S l_a l_b = p_laws_eqFloat32S_l1 l_a l_b (μ + 1) t4 i) (Int.toNat ((l_a.length : Int) - (0 : Int))) _ _ _ _ _ _ _ _ _ _ _ _ _ _ _ _ _ _ _ _ H ?_ ?_
    · exact ⟨rfl, (by first | omega | (simp; done) | (simp; omega)), (by first | omega | (simp; done) | (simp; omega)), (by omega), e⟩
    · intro μ t4 i g11 g12 g13 g14 g15 g16 g17 g18 g19 g20 g21 g22 g23 g24 g25 g26 g27 g28 H_1 hI
      obtain ⟨rfl, v_2, v_3, hμ, e⟩ := hI
      rw [laws_eqFloat32S_r1]
      have e := e.trans (p_laws_eqFloat32S_l1_s l_a l_b μ t4 i)
      have l_4 := g0.1
      refine Br.intro (fun c_5 => ?_) (fun c_5 => ?_)
      · have e := e.trans (cond_t c_5)
        have c_5' := of_decide_eq_true c_5
        obtain ⟨b_6, f_7, q_8⟩ := ((i_a.grow g0)).pos (by first | omega | (simp only [List.length_set, List.length_replicate, List.length_append, List.length_cons, List.length_nil, List.length_take, List.length_drop, marks_length]; done) | (simp only [List.length_set, List.length_replicate, List.length_append, List.length_cons, List.length_nil, List.length_take, List.length_drop, marks_length]; omega))
        refine ⟨by omega, by omega, b_6, f_7, q_8, ?_⟩
        refine ⟨((l_a).getD (i : Int).toNat 0), (i_a).rd g0 q_8 (by omega) _, ?_⟩
        obtain ⟨b_9, f_10, q_11⟩ := ((i_b.grow g0)).pos (by first | omega | (simp only [List.length_set, List.length_replicate, List.length_append, List.length_cons, List.length_nil, List.length_take, List.length_drop, marks_length]; done) | (simp only [List.length_set, List.length_replicate, List.length_append, List.length_cons, List.length_nil, List.length_take, List.length_drop, marks_length]; omega))
        refine ⟨by omega, by omega, b_9, f_10, q_11, ?_⟩
        refine ⟨((l_b).getD (i : Int).toNat 0), (i_b).rd g0 q_11 (by omega) _, ?_⟩
        refine T_laws_sameFloat_i ?_
        refine Br.intro (fun c_12 => ?_) (fun c_12 => ?_)
        · have e := e.trans (cond_t c_12)
          have c_12n := nf_of_t c_12
          rw [laws_eqFloat32S_x1_ret]
          rw [e] at hk
          exact hk
        · have e := e.trans (cond_f c_12)
          have c_12n := nt_of_f c_12
          rw [show IntKind.wrap .i64 (i + 1) = (i + 1) from wrap64 (by omega) (by omega)]
          refine laws_eqFloat32S_n1 (μ - 1) (by first | omega) ⟨rfl, (by first | omega | (simp only [List.length_append, List.length_cons, List.length_nil, List.length_set]; done) | (simp only [List.length_append, List.length_cons, List.length_nil, List.length_set]; omega)), (by first | omega | (simp only [List.length_append, List.length_cons, List.length_nil, List.length_set]; done) | (simp only [List.length_append, List.length_cons, List.length_nil, List.length_set]; omega)), (by first | omega), (by rw [show μ - 1 + 1 = μ from by first | omega]; exact e)⟩
      · have e := e.trans (cond_f c_5)
        have c_5' := of_decide_eq_false c_5
        rw [laws_eqFloat32S_x1_0]
        rw [e] at hk
        exact hk
theorem laws_eqFloat32S_ok : FnOk Try.prog 14 S_laws_eqFloat32S := by
  refine FnOk.body mix_ok E_laws_eqFloat32S_ok Try.func14 rfl (by kernel_rfl) (by kernel_rfl) ?_ ?_ ?_ ?_ ?_
  · intro args H K K' h hk
    simp only [S_laws_eqFloat32S] at *
    unfold F_laws_eqFloat32S at *
    split at hk
    · obtain ⟨l_a, l_b, i_a, i_b, bd_13, bd_14, k⟩ := hk
      exact ⟨l_a, l_b, i_a, i_b, bd_13, bd_14, h _ _ k⟩
    · exact hk.elim
  · intro _ args H K hk
    simp only [S_laws_eqFloat32S] at *
    unfold F_laws_eqFloat32S at *
    split at hk
    · obtain ⟨l_a, l_b, i_a, i_b, bd_13, bd_14, k⟩ := hk
      exact ⟨_, k, fun K' k' => ⟨l_a, l_b, i_a, i_b, bd_13, bd_14, k'⟩⟩
    · exact hk.elim
  · intro args H K hk
    simp only [S_laws_eqFloat32S] at *
    unfold F_laws_eqFloat32S at *
    split at hk
    · obtain ⟨l_a, l_b, i_a, i_b, bd_13, bd_14, k⟩ := hk
      exact ⟨_, _, k⟩
    · exact hk.elim
  · intro hq; cases hq
  · have mm := @laws_eqFloat32S_main
    revert mm
    generalize bodyK Try.prog E_laws_eqFloat32S Try.f14 = Q
    intro mm args H K hk
    simp only [S_laws_eqFloat32S] at *
    unfold F_laws_eqFloat32S at *
    split at hk
    · exact mm _ _ _ _ _ _ H K hk
    · exact hk.elim

def p_laws_markFloat32S_l1 (l_a : List Nat) (k : Int) : Nat → Int → Int → (List Nat) → Int × (List Nat)
  | 0, _, _, _ => (0, [])
  | μ + 1, k_1, i, y1_1 => (bif decide ((i : Int) < (l_a.length : Int)) then (p_laws_markFloat32S_l1 l_a k μ (IntKind.wrap .i64 (k_1 + 1)) (i + 1) (((y1_1).set (i : Int).toNat (FloatKind.nearest .f32 k_1)))) else (k_1, y1_1))
theorem p_laws_markFloat32S_l1_s (l_a : List Nat) (k : Int) (μ : Nat) (k_1 : Int) (i : Int) (y1_1 : List Nat) : p_laws_markFloat32S_l1 l_a k (μ + 1) k_1 i y1_1 = (bif decide ((i : Int) < (l_a.length : Int)) then (p_laws_markFloat32S_l1 l_a k μ (IntKind.wrap .i64 (k_1 + 1)) (i + 1) (((y1_1).set (i : Int).toNat (FloatKind.nearest .f32 k_1)))) else (k_1, y1_1)) := rfl
def p_laws_markFloat32S (l_a : List Nat) (k : Int) : Int × (List Nat) := (p_laws_markFloat32S_l1 l_a k (Int.toNat ((l_a.length : Int) - (0 : Int)) + 1) k (0 : Int) l_a)
theorem p_laws_markFloat32S_eq (l_a : List Nat) (k : Int) : p_laws_markFloat32S l_a k = (p_laws_markFloat32S_l1 l_a k (Int.toNat ((l_a.length : Int) - (0 : Int)) + 1) k (0 : Int) l_a) := rfl
def T_laws_markFloat32S (a_a : Option Addr) (a_n : Nat) (a_e : Nat) (k : Int) (H : AHeap) (K : Int → AHeap → Prop) : Prop := ∃ lo : Nat, ∃ (l_a : List Nat), OwnS fF H lo a_a a_n a_e l_a ∧ l_a.length < 1073741824 ∧ ((∀ H' : AHeap, KeepA a_a H H' → OwnS fF H' lo a_a a_n a_e (marks (FloatKind.nearest .f32) k l_a.length) → K (wk k l_a.length) H'))
theorem T_laws_markFloat32S_i {a_a : Option Addr} {a_n : Nat} {a_e : Nat} {k : Int} {H : AHeap} {K : Int → AHeap → Prop} (h : ∃ lo : Nat, ∃ (l_a : List Nat), OwnS fF H lo a_a a_n a_e l_a ∧ l_a.length < 1073741824 ∧ ((∀ H' : AHeap, KeepA a_a H H' → OwnS fF H' lo a_a a_n a_e (marks (FloatKind.nearest .f32) k l_a.length) → K (wk k l_a.length) H'))) : T_laws_markFloat32S a_a a_n a_e k H K := h
theorem laws_markFloat32S_go (l : List Nat) (k0 : Int) : ∀ (μ : Nat) (k : Int) (i : Nat) (ys : List Nat), ys.length = l.length → i ≤ l.length → l.length - i < μ →
    p_laws_markFloat32S_l1 l k0 μ k (i : Int) ys = (wk k (l.length - i), ys.take i ++ marks (FloatKind.nearest .f32) k (l.length - i)) := by
  intro μ
  induction μ with
  | zero => intro k i ys _ _ h; omega
  | succ μ ih =>
    intro k i ys hy hi hm
    rw [p_laws_markFloat32S_l1_s]
    by_cases h : i < l.length
    · rw [decide_eq_true (show (i : Int) < (l.length : Int) by omega), cond_true, Int.toNat_natCast]
      have := ih (IntKind.wrap .i64 (k + 1)) (i + 1) (ys.set i ((FloatKind.nearest .f32) k)) (by simp [hy]) (by omega) (by omega)
      obtain ⟨d, hd⟩ : ∃ d, l.length - i = d + 1 := ⟨l.length - i - 1, by omega⟩
      rw [show l.length - (i + 1) = d by omega] at this
      rw [hd, wk, marks]
      refine Eq.trans this ?_
      rw [List.take_add_one, List.getElem?_set_self (by omega), List.take_set_of_le (Nat.le_refl i)]
      simp
    · rw [decide_eq_false (show ¬ (i : Int) < (l.length : Int) by omega), cond_false]
      rw [show l.length - i = 0 by omega, wk, marks, List.append_nil, List.take_of_length_le (by omega)]
theorem laws_markFloat32S_val (l : List Nat) (k : Int) : p_laws_markFloat32S l k = (wk k l.length, marks (FloatKind.nearest .f32) k l.length) := by
  rw [p_laws_markFloat32S_eq]
  have := laws_markFloat32S_go l k (Int.toNat ((l.length : Int) - 0) + 1) k 0 l rfl (by omega) (by omega)
  simpa using this
/-! laws_markFloat32S: function 15 -/
def E_laws_markFloat32S : Env := envOf []
def F_laws_markFloat32S : List Value → AHeap → (Value → AHeap → Prop) → Prop
  | [.slice a_a a_n a_e, .int .i64 k], H, K => T_laws_markFloat32S a_a a_n a_e k H fun (r1 : Int) (H' : AHeap) => K (.int .i64 r1) H'
  | _, _, _ => False
def S_laws_markFloat32S : FSpec := { F := F_laws_markFloat32S, quiet := false, tame := false }
theorem laws_markFloat32S_vc (a_a : Option Addr) (a_n : Nat) (a_e : Nat) (k : Int) (H : AHeap) (K : Value → AHeap → Prop) : bodyK Try.prog E_laws_markFloat32S Try.f15 [.slice a_a a_n a_e, .int .i64 k] H K =
  (loopK (exK Try.prog E_laws_markFloat32S (cl (cl (cr (cl (cr (bodyC Try.f15))))))) [.slice a_a a_n a_e, .int .i64 k, undef, undef, .int .i64 0, .int .i64 0, undef, undef, undef, undef, undef, undef, undef, undef, undef, undef, undef, undef, undef, undef] H (blockQ 0 (seqQ (exK Try.prog E_laws_markFloat32S (cr (cr (bodyC Try.f15)))) (retK Try.prog Try.f15 K)))) := by kernel_rfl
theorem laws_markFloat32S_r1 (a_a : Option Addr) (a_e : Nat) (a_n : Nat) (k_1 : Int) (i : Int) (g6 g7 g8 g9 g10 g11 g12 g13 g14 g15 g16 g17 g18 : Value) (H : AHeap) (R : Post) : exK Try.prog E_laws_markFloat32S (cl (cl (cr (cl (cr (bodyC Try.f15)))))) [.slice a_a a_n a_e, .int .i64 k_1, undef, undef, .int .i64 0, .int .i64 i, g6, g7, g8, g9, g10, g11, g12, g13, g14, g15, g16, g17, g18, undef] H R =
  (Br (decide ((i : Int) < (a_n : Int))) ((0 : Int) ≤ i ∧ i < (a_n : Int) ∧ ∃ b1 f1, (a_a : Option Addr) = some ⟨b1, f1, none⟩ ∧ isOwn H b1 ∧ (∃ l, rdN H b1 (f1 + (i : Int).toNat * 1) 1 = some l) ∧ Lt (setC H b1 (f1 + (i : Int).toNat * 1) (.float .f32 (FloatKind.nearest .f32 k_1))) fun H1 => R .normal [.slice a_a a_n a_e, .int .i64 (IntKind.wrap .i64 (k_1 + 1)), undef, undef, .int .i64 0, .int .i64 (IntKind.wrap .i64 (i + 1)), .int .i64 i, .slice a_a a_n a_e, .int .i64 (a_n : Int), .bool (decide ((i : Int) < (a_n : Int))), .int .i64 i, .int .i64 (IntKind.wrap .i64 (i + 1)), .slice a_a a_n a_e, .int .i64 i, .int .i64 k_1, .float .f32 (FloatKind.nearest .f32 k_1), .pointer (some ⟨b1, f1 + (i : Int).toNat * 1, none⟩), .int .i64 k_1, .int .i64 (IntKind.wrap .i64 (k_1 + 1)), undef] H1) (R (.exit 0) [.slice a_a a_n a_e, .int .i64 k_1, undef, undef, .int .i64 0, .int .i64 i, .int .i64 i, .slice a_a a_n a_e, .int .i64 (a_n : Int), .bool (decide ((i : Int) < (a_n : Int))), g10, g11, g12, g13, g14, g15, g16, g17, g18, undef] H)) := by kernel_rfl
def laws_markFloat32S_I1 (a_a : Option Addr) (a_e : Nat) (a_n : Nat) (Inv : Nat → Int → Int → AHeap → Prop) : Nat → List Value → AHeap → Prop := fun μ tm H => ∃ (k_1 : Int), ∃ (i : Int), ∃ g6 g7 g8 g9 g10 g11 g12 g13 g14 g15 g16 g17 g18, tm = [.slice a_a a_n a_e, .int .i64 k_1, undef, undef, .int .i64 0, .int .i64 i, g6, g7, g8, g9, g10, g11, g12, g13, g14, g15, g16, g17, g18, undef] ∧ Inv μ k_1 i H
theorem laws_markFloat32S_L1 (a_a : Option Addr) (a_e : Nat) (a_n : Nat) {Q : Post} (Inv : Nat → Int → Int → AHeap → Prop) (ν : Nat) (k_1 : Int) (i : Int) (g6 g7 g8 g9 g10 g11 g12 g13 g14 g15 g16 g17 g18 : Value) (H : AHeap) (h0 : Inv ν k_1 i H)
    (hs : ∀ (μ : Nat) (k_1 : Int) (i : Int) (g6 g7 g8 g9 g10 g11 g12 g13 g14 g15 g16 g17 g18 : Value) (H : AHeap), Inv μ k_1 i H → exK Try.prog E_laws_markFloat32S (cl (cl (cr (cl (cr (bodyC Try.f15)))))) [.slice a_a a_n a_e, .int .i64 k_1, undef, undef, .int .i64 0, .int .i64 i, g6, g7, g8, g9, g10, g11, g12, g13, g14, g15, g16, g17, g18, undef] H (loopQ (laws_markFloat32S_I1 a_a a_e a_n Inv) μ Q)) : loopK (exK Try.prog E_laws_markFloat32S (cl (cl (cr (cl (cr (bodyC Try.f15))))))) [.slice a_a a_n a_e, .int .i64 k_1, undef, undef, .int .i64 0, .int .i64 i, g6, g7, g8, g9, g10, g11, g12, g13, g14, g15, g16, g17, g18, undef] H Q :=
  ⟨laws_markFloat32S_I1 a_a a_e a_n Inv, ν, ⟨k_1, i, g6, g7, g8, g9, g10, g11, g12, g13, g14, g15, g16, g17, g18, rfl, h0⟩, fun μ tm H h => by obtain ⟨k_1, i, g6, g7, g8, g9, g10, g11, g12, g13, g14, g15, g16, g17, g18, rfl, hI⟩ := h; exact hs μ k_1 i g6 g7 g8 g9 g10 g11 g12 g13 g14 g15 g16 g17 g18 H hI⟩
theorem laws_markFloat32S_n1 {a_a : Option Addr} {a_e : Nat} {a_n : Nat} {Q : Post} {Inv : Nat → Int → Int → AHeap → Prop} {μ : Nat} (μ' : Nat) {k_1 : Int} {i : Int} {g6 g7 g8 g9 g10 g11 g12 g13 g14 g15 g16 g17 g18 : Value} {H : AHeap} (hm : μ' < μ) (hI : Inv μ' k_1 i H) : loopQ (laws_markFloat32S_I1 a_a a_e a_n Inv) μ Q .normal [.slice a_a a_n a_e, .int .i64 k_1, undef, undef, .int .i64 0, .int .i64 i, g6, g7, g8, g9, g10, g11, g12, g13, g14, g15, g16, g17, g18, undef] H := ⟨μ', hm, k_1, i, g6, g7, g8, g9, g10, g11, g12, g13, g14, g15, g16, g17, g18, rfl, hI⟩
theorem laws_markFloat32S_x1_0 (a_a : Option Addr) (a_e : Nat) (a_n : Nat) (k_1 : Int) (i : Int) (g6 g7 g8 g9 g10 g11 g12 g13 g14 g15 g16 g17 g18 : Value) (H : AHeap) (K : Value → AHeap → Prop)  {I : Nat → List Value → AHeap → Prop} {μ : Nat} : loopQ I μ (blockQ 0 (seqQ (exK Try.prog E_laws_markFloat32S (cr (cr (bodyC Try.f15)))) (retK Try.prog Try.f15 K))) (.exit 0) [.slice a_a a_n a_e, .int .i64 k_1, undef, undef, .int .i64 0, .int .i64 i, g6, g7, g8, g9, g10, g11, g12, g13, g14, g15, g16, g17, g18, undef] H =
  (K (.int .i64 k_1) H) := by kernel_rfl
theorem E_laws_markFloat32S_ok : ∀ g, FnOk Try.prog g (E_laws_markFloat32S g) := FnOk.envOf (by
  intro x hx; cases hx)
set_option maxHeartbeats 1000000 in
theorem laws_markFloat32S_main (a_a : Option Addr) (a_n : Nat) (a_e : Nat) (k : Int) (H : AHeap) (K : Value → AHeap → Prop) (h : T_laws_markFloat32S a_a a_n a_e k H fun (r1 : Int) (H' : AHeap) => K (.int .i64 r1) H') : bodyK Try.prog E_laws_markFloat32S Try.f15 [.slice a_a a_n a_e, .int .i64 k] H K := by
  rw [laws_markFloat32S_vc]
  obtain ⟨lo, l_a, i_a, bd_18, hk⟩ := h
  have hk : (∀ H' : AHeap, KeepA a_a H H' → OwnS fF H' lo a_a a_n a_e ((p_laws_markFloat32S l_a k).2) → (fun (r1 : Int) (H' : AHeap) => K (.int .i64 r1) H') ((p_laws_markFloat32S l_a k).1) H') := by rw [laws_markFloat32S_val l_a k]; exact hk
  obtain rfl := i_a.len
  have up_m := i_a.up
  have lo_m := i_a.lo
  have e : (p_laws_markFloat32S l_a k) = _ := rfl
  have e := e.trans (p_laws_markFloat32S_eq l_a k)
  have g0 := KeepA.refl a_a H
  refine laws_markFloat32S_L1 _ _ _ (fun (μ : Nat) (k_1 : Int) (i : Int) (H_1 : AHeap) => ∃ (y1_1 : List Nat), OwnS fF H_1 lo a_a l_a.length a_e y1_1 ∧ y1_1.length = (l_a).length ∧ H.length ≤ H_1.length ∧ KeepA a_a H H_1 ∧ (0 : Int) ≤ i ∧ i ≤ (l_a.length : Int) ∧ (l_a.length : Int) - i ≤ (μ : Int) ∧ p_laws_markFloat32S l_a k = p_laws_markFloat32S_l1 l_a k (μ + 1) k_1 i y1_1) (Int.toNat ((l_a.length : Int) - (0 : Int))) _ _ _ _ _ _ _ _ _ _ _ _ _ _ _ H ?_ ?_
  · exact ⟨_, i_a, (by first | rfl | assumption | omega | (simp; done)), (by omega), g0, (by first | omega | (simp; done) | (simp; omega)), (by first | omega | (simp; done) | (simp; omega)), (by omega), e⟩
  · intro μ k_1 i g6 g7 g8 g9 g10 g11 g12 g13 g14 g15 g16 g17 g18 H_1 hI
    obtain ⟨y1_1, r_1, y_2, n_3, g_4, v_5, v_6, hμ, e⟩ := hI
    rw [laws_markFloat32S_r1]
    have e := e.trans (p_laws_markFloat32S_l1_s l_a k μ k_1 i y1_1)
    have l_7 := g_4.1
    refine Br.intro (fun c_8 => ?_) (fun c_8 => ?_)
    · have e := e.trans (cond_t c_8)
      have c_8' := of_decide_eq_true c_8
      obtain ⟨b_9, f_10, q_11⟩ := (r_1.isL).pos (by first | omega | (simp only [List.length_set, List.length_replicate, List.length_append, List.length_cons, List.length_nil, List.length_take, List.length_drop, marks_length]; done) | (simp only [List.length_set, List.length_replicate, List.length_append, List.length_cons, List.length_nil, List.length_take, List.length_drop, marks_length]; omega))
      refine ⟨by omega, by omega, b_9, f_10, q_11, ?_⟩
      refine Lt.setS r_1 q_11 (by first | omega | (simp only [List.length_set]; (first | omega | (simp only [List.length_set, List.length_replicate, List.length_append, List.length_cons, List.length_nil, List.length_take, List.length_drop, marks_length]; done) | (simp only [List.length_set, List.length_replicate, List.length_append, List.length_cons, List.length_nil, List.length_take, List.length_drop, marks_length]; omega)))) (fun H_2 hl_12 o_14 k_13 => ?_)
      have l_15 := k_13.1
      have g_16 := g_4.transA k_13
      have l_17 := g_16.1
      rw [show IntKind.wrap .i64 (i + 1) = (i + 1) from wrap64 (by omega) (by omega)]
      refine laws_markFloat32S_n1 (μ - 1) (by first | omega) ⟨_, o_14, (by first | assumption | omega | (simp only [List.length_set]; first | rfl | assumption | omega)), (by omega), g_16, (by first | omega | (simp only [List.length_append, List.length_cons, List.length_nil, List.length_set]; done) | (simp only [List.length_append, List.length_cons, List.length_nil, List.length_set]; omega)), (by first | omega | (simp only [List.length_append, List.length_cons, List.length_nil, List.length_set]; done) | (simp only [List.length_append, List.length_cons, List.length_nil, List.length_set]; omega)), (by first | omega), (by rw [show μ - 1 + 1 = μ from by first | omega]; exact e)⟩
    · have e := e.trans (cond_f c_8)
      have c_8' := of_decide_eq_false c_8
      rw [laws_markFloat32S_x1_0]
      rw [e] at hk
      exact hk H_1 g_4 r_1
theorem laws_markFloat32S_ok : FnOk Try.prog 15 S_laws_markFloat32S := by
  refine FnOk.body mix_ok E_laws_markFloat32S_ok Try.func15 rfl (by kernel_rfl) (by kernel_rfl) ?_ ?_ ?_ ?_ ?_
  · intro args H K K' h hk
    simp only [S_laws_markFloat32S] at *
    unfold F_laws_markFloat32S at *
    split at hk
    · obtain ⟨lo, l_a, i_a, bd_18, k⟩ := hk
      exact ⟨lo, l_a, i_a, bd_18, (fun H' gg ow => h _ _ (k H' gg ow))⟩
    · exact hk.elim
  · intro hq; cases hq
  · intro args H K hk
    simp only [S_laws_markFloat32S] at *
    unfold F_laws_markFloat32S at *
    split at hk
    · obtain ⟨lo, l_a, i_a, bd_18, k⟩ := hk
      exact (OwnS.put i_a _ (by rw [marks_length])).elim fun H1 h => ⟨_, _, k H1 h.1 h.2⟩
    · exact hk.elim
  · intro hq; cases hq
  · have mm := @laws_markFloat32S_main
    revert mm
    generalize bodyK Try.prog E_laws_markFloat32S Try.f15 = Q
    intro mm args H K hk
    simp only [S_laws_markFloat32S] at *
    unfold F_laws_markFloat32S at *
    split at hk
    · exact mm _ _ _ _ H K hk
    · exact hk.elim

def p_laws_markInt64S_l1 (l_a : List Int) (k : Int) : Nat → Int → Int → (List Int) → Int × (List Int)
  | 0, _, _, _ => (0, [])
  | μ + 1, k_1, i, y1_1 => (bif decide ((i : Int) < (l_a.length : Int)) then (p_laws_markInt64S_l1 l_a k μ (IntKind.wrap .i64 (k_1 + 1)) (i + 1) (((y1_1).set (i : Int).toNat (k_1 : Int)))) else (k_1, y1_1))
theorem p_laws_markInt64S_l1_s (l_a : List Int) (k : Int) (μ : Nat) (k_1 : Int) (i : Int) (y1_1 : List Int) : p_laws_markInt64S_l1 l_a k (μ + 1) k_1 i y1_1 = (bif decide ((i : Int) < (l_a.length : Int)) then (p_laws_markInt64S_l1 l_a k μ (IntKind.wrap .i64 (k_1 + 1)) (i + 1) (((y1_1).set (i : Int).toNat (k_1 : Int)))) else (k_1, y1_1)) := rfl
def p_laws_markInt64S (l_a : List Int) (k : Int) : Int × (List Int) := (p_laws_markInt64S_l1 l_a k (Int.toNat ((l_a.length : Int) - (0 : Int)) + 1) k (0 : Int) l_a)
theorem p_laws_markInt64S_eq (l_a : List Int) (k : Int) : p_laws_markInt64S l_a k = (p_laws_markInt64S_l1 l_a k (Int.toNat ((l_a.length : Int) - (0 : Int)) + 1) k (0 : Int) l_a) := rfl
def T_laws_markInt64S (a_a : Option Addr) (a_n : Nat) (a_e : Nat) (k : Int) (H : AHeap) (K : Int → AHeap → Prop) : Prop := ∃ lo : Nat, ∃ (l_a : List Int), OwnS fI H lo a_a a_n a_e l_a ∧ l_a.length < 1073741824 ∧ ((∀ H' : AHeap, KeepA a_a H H' → OwnS fI H' lo a_a a_n a_e (marks (fun n : Int => n) k l_a.length) → K (wk k l_a.length) H'))
theorem T_laws_markInt64S_i {a_a : Option Addr} {a_n : Nat} {a_e : Nat} {k : Int} {H : AHeap} {K : Int → AHeap → Prop} (h : ∃ lo : Nat, ∃ (l_a : List Int), OwnS fI H lo a_a a_n a_e l_a ∧ l_a.length < 1073741824 ∧ ((∀ H' : AHeap, KeepA a_a H H' → OwnS fI H' lo a_a a_n a_e (marks (fun n : Int => n) k l_a.length) → K (wk k l_a.length) H'))) : T_laws_markInt64S a_a a_n a_e k H K := h
theorem laws_markInt64S_go (l : List Int) (k0 : Int) : ∀ (μ : Nat) (k : Int) (i : Nat) (ys : List Int), ys.length = l.length → i ≤ l.length → l.length - i < μ →
    p_laws_markInt64S_l1 l k0 μ k (i : Int) ys = (wk k (l.length - i), ys.take i ++ marks (fun n : Int => n) k (l.length - i)) := by
  intro μ
  induction μ with
  | zero => intro k i ys _ _ h; omega
  | succ μ ih =>
    intro k i ys hy hi hm
    rw [p_laws_markInt64S_l1_s]
    by_cases h : i < l.length
    · rw [decide_eq_true (show (i : Int) < (l.length : Int) by omega), cond_true, Int.toNat_natCast]
      have := ih (IntKind.wrap .i64 (k + 1)) (i + 1) (ys.set i ((fun n : Int => n) k)) (by simp [hy]) (by omega) (by omega)
      obtain ⟨d, hd⟩ : ∃ d, l.length - i = d + 1 := ⟨l.length - i - 1, by omega⟩
      rw [show l.length - (i + 1) = d by omega] at this
      rw [hd, wk, marks]
      refine Eq.trans this ?_
      rw [List.take_add_one, List.getElem?_set_self (by omega), List.take_set_of_le (Nat.le_refl i)]
      simp
    · rw [decide_eq_false (show ¬ (i : Int) < (l.length : Int) by omega), cond_false]
      rw [show l.length - i = 0 by omega, wk, marks, List.append_nil, List.take_of_length_le (by omega)]
theorem laws_markInt64S_val (l : List Int) (k : Int) : p_laws_markInt64S l k = (wk k l.length, marks (fun n : Int => n) k l.length) := by
  rw [p_laws_markInt64S_eq]
  have := laws_markInt64S_go l k (Int.toNat ((l.length : Int) - 0) + 1) k 0 l rfl (by omega) (by omega)
  simpa using this
/-! laws_markInt64S: function 36 -/
def E_laws_markInt64S : Env := envOf []
def F_laws_markInt64S : List Value → AHeap → (Value → AHeap → Prop) → Prop
  | [.slice a_a a_n a_e, .int .i64 k], H, K => T_laws_markInt64S a_a a_n a_e k H fun (r1 : Int) (H' : AHeap) => K (.int .i64 r1) H'
  | _, _, _ => False
def S_laws_markInt64S : FSpec := { F := F_laws_markInt64S, quiet := false, tame := false }
theorem laws_markInt64S_vc (a_a : Option Addr) (a_n : Nat) (a_e : Nat) (k : Int) (H : AHeap) (K : Value → AHeap → Prop) : bodyK Try.prog E_laws_markInt64S Try.f36 [.slice a_a a_n a_e, .int .i64 k] H K =
  (loopK (exK Try.prog E_laws_markInt64S (cl (cl (cr (cl (cr (bodyC Try.f36))))))) [.slice a_a a_n a_e, .int .i64 k, undef, undef, .int .i64 0, .int .i64 0, undef, undef, undef, undef, undef, undef, undef, undef, undef, undef, undef, undef, undef] H (blockQ 0 (seqQ (exK Try.prog E_laws_markInt64S (cr (cr (bodyC Try.f36)))) (retK Try.prog Try.f36 K)))) := by kernel_rfl
theorem laws_markInt64S_r1 (a_a : Option Addr) (a_e : Nat) (a_n : Nat) (k_1 : Int) (i : Int) (g6 g7 g8 g9 g10 g11 g12 g13 g14 g15 g16 g17 : Value) (H : AHeap) (R : Post) : exK Try.prog E_laws_markInt64S (cl (cl (cr (cl (cr (bodyC Try.f36)))))) [.slice a_a a_n a_e, .int .i64 k_1, undef, undef, .int .i64 0, .int .i64 i, g6, g7, g8, g9, g10, g11, g12, g13, g14, g15, g16, g17, undef] H R =
  (Br (decide ((i : Int) < (a_n : Int))) ((0 : Int) ≤ i ∧ i < (a_n : Int) ∧ ∃ b1 f1, (a_a : Option Addr) = some ⟨b1, f1, none⟩ ∧ isOwn H b1 ∧ (∃ l, rdN H b1 (f1 + (i : Int).toNat * 1) 1 = some l) ∧ Lt (setC H b1 (f1 + (i : Int).toNat * 1) (.int .i64 k_1)) fun H1 => R .normal [.slice a_a a_n a_e, .int .i64 (IntKind.wrap .i64 (k_1 + 1)), undef, undef, .int .i64 0, .int .i64 (IntKind.wrap .i64 (i + 1)), .int .i64 i, .slice a_a a_n a_e, .int .i64 (a_n : Int), .bool (decide ((i : Int) < (a_n : Int))), .int .i64 i, .int .i64 (IntKind.wrap .i64 (i + 1)), .slice a_a a_n a_e, .int .i64 i, .int .i64 k_1, .pointer (some ⟨b1, f1 + (i : Int).toNat * 1, none⟩), .int .i64 k_1, .int .i64 (IntKind.wrap .i64 (k_1 + 1)), undef] H1) (R (.exit 0) [.slice a_a a_n a_e, .int .i64 k_1, undef, undef, .int .i64 0, .int .i64 i, .int .i64 i, .slice a_a a_n a_e, .int .i64 (a_n : Int), .bool (decide ((i : Int) < (a_n : Int))), g10, g11, g12, g13, g14, g15, g16, g17, undef] H)) := by kernel_rfl
def laws_markInt64S_I1 (a_a : Option Addr) (a_e : Nat) (a_n : Nat) (Inv : Nat → Int → Int → AHeap → Prop) : Nat → List Value → AHeap → Prop := fun μ tm H => ∃ (k_1 : Int), ∃ (i : Int), ∃ g6 g7 g8 g9 g10 g11 g12 g13 g14 g15 g16 g17, tm = [.slice a_a a_n a_e, .int .i64 k_1, undef, undef, .int .i64 0, .int .i64 i, g6, g7, g8, g9, g10, g11, g12, g13, g14, g15, g16, g17, undef] ∧ Inv μ k_1 i H
theorem laws_markInt64S_L1 (a_a : Option Addr) (a_e : Nat) (a_n : Nat) {Q : Post} (Inv : Nat → Int → Int → AHeap → Prop) (ν : Nat) (k_1 : Int) (i : Int) (g6 g7 g8 g9 g10 g11 g12 g13 g14 g15 g16 g17 : Value) (H : AHeap) (h0 : Inv ν k_1 i H)
    (hs : ∀ (μ : Nat) (k_1 : Int) (i : Int) (g6 g7 g8 g9 g10 g11 g12 g13 g14 g15 g16 g17 : Value) (H : AHeap), Inv μ k_1 i H → exK Try.prog E_laws_markInt64S (cl (cl (cr (cl (cr (bodyC Try.f36)))))) [.slice a_a a_n a_e, .int .i64 k_1, undef, undef, .int .i64 0, .int .i64 i, g6, g7, g8, g9, g10, g11, g12, g13, g14, g15, g16, g17, undef] H (loopQ (laws_markInt64S_I1 a_a a_e a_n Inv) μ Q)) : loopK (exK Try.prog E_laws_markInt64S (cl (cl (cr (cl (cr (bodyC Try.f36))))))) [.slice a_a a_n a_e, .int .i64 k_1, undef, undef, .int .i64 0, .int .i64 i, g6, g7, g8, g9, g10, g11, g12, g13, g14, g15, g16, g17, undef] H Q :=
  ⟨laws_markInt64S_I1 a_a a_e a_n Inv, ν, ⟨k_1, i, g6, g7, g8, g9, g10, g11, g12, g13, g14, g15, g16, g17, rfl, h0⟩, fun μ tm H h => by obtain ⟨k_1, i, g6, g7, g8, g9, g10, g11, g12, g13, g14, g15, g16, g17, rfl, hI⟩ := h; exact hs μ k_1 i g6 g7 g8 g9 g10 g11 g12 g13 g14 g15 g16 g17 H hI⟩
theorem laws_markInt64S_n1 {a_a : Option Addr} {a_e : Nat} {a_n : Nat} {Q : Post} {Inv : Nat → Int → Int → AHeap → Prop} {μ : Nat} (μ' : Nat) {k_1 : Int} {i : Int} {g6 g7 g8 g9 g10 g11 g12 g13 g14 g15 g16 g17 : Value} {H : AHeap} (hm : μ' < μ) (hI : Inv μ' k_1 i H) : loopQ (laws_markInt64S_I1 a_a a_e a_n Inv) μ Q .normal [.slice a_a a_n a_e, .int .i64 k_1, undef, undef, .int .i64 0, .int .i64 i, g6, g7, g8, g9, g10, g11, g12, g13, g14, g15, g16, g17, undef] H := ⟨μ', hm, k_1, i, g6, g7, g8, g9, g10, g11, g12, g13, g14, g15, g16, g17, rfl, hI⟩
theorem laws_markInt64S_x1_0 (a_a : Option Addr) (a_e : Nat) (a_n : Nat) (k_1 : Int) (i : Int) (g6 g7 g8 g9 g10 g11 g12 g13 g14 g15 g16 g17 : Value) (H : AHeap) (K : Value → AHeap → Prop)  {I : Nat → List Value → AHeap → Prop} {μ : Nat} : loopQ I μ (blockQ 0 (seqQ (exK Try.prog E_laws_markInt64S (cr (cr (bodyC Try.f36)))) (retK Try.prog Try.f36 K))) (.exit 0) [.slice a_a a_n a_e, .int .i64 k_1, undef, undef, .int .i64 0, .int .i64 i, g6, g7, g8, g9, g10, g11, g12, g13, g14, g15, g16, g17, undef] H =
  (K (.int .i64 k_1) H) := by kernel_rfl
theorem E_laws_markInt64S_ok : ∀ g, FnOk Try.prog g (E_laws_markInt64S g) := FnOk.envOf (by
  intro x hx; cases hx)
set_option maxHeartbeats 1000000 in
theorem laws_markInt64S_main (a_a : Option Addr) (a_n : Nat) (a_e : Nat) (k : Int) (H : AHeap) (K : Value → AHeap → Prop) (h : T_laws_markInt64S a_a a_n a_e k H fun (r1 : Int) (H' : AHeap) => K (.int .i64 r1) H') : bodyK Try.prog E_laws_markInt64S Try.f36 [.slice a_a a_n a_e, .int .i64 k] H K := by
  rw [laws_markInt64S_vc]
  obtain ⟨lo, l_a, i_a, bd_18, hk⟩ := h
  have hk : (∀ H' : AHeap, KeepA a_a H H' → OwnS fI H' lo a_a a_n a_e ((p_laws_markInt64S l_a k).2) → (fun (r1 : Int) (H' : AHeap) => K (.int .i64 r1) H') ((p_laws_markInt64S l_a k).1) H') := by rw [laws_markInt64S_val l_a k]; exact hk
  obtain rfl := i_a.len
  have up_m := i_a.up
  have lo_m := i_a.lo
  have e : (p_laws_markInt64S l_a k) = _ := rfl
  have e := e.trans (p_laws_markInt64S_eq l_a k)
  have g0 := KeepA.refl a_a H
  refine laws_markInt64S_L1 _ _ _ (fun (μ : Nat) (k_1 : Int) (i : Int) (H_1 : AHeap) => ∃ (y1_1 : List Int), OwnS fI H_1 lo a_a l_a.length a_e y1_1 ∧ y1_1.length = (l_a).length ∧ H.length ≤ H_1.length ∧ KeepA a_a H H_1 ∧ (0 : Int) ≤ i ∧ i ≤ (l_a.length : Int) ∧ (l_a.length : Int) - i ≤ (μ : Int) ∧ p_laws_markInt64S l_a k = p_laws_markInt64S_l1 l_a k (μ + 1) k_1 i y1_1) (Int.toNat ((l_a.length : Int) - (0 : Int))) _ _ _ _ _ _ _ _ _ _ _ _ _ _ H ?_ ?_
  · exact ⟨_, i_a, (by first | rfl | assumption | omega | (simp; done)), (by omega), g0, (by first | omega | (simp; done) | (simp; omega)), (by first | omega | (simp; done) | (simp; omega)), (by omega), e⟩
  · intro μ k_1 i g6 g7 g8 g9 g10 g11 g12 g13 g14 g15 g16 g17 H_1 hI
    obtain ⟨y1_1, r_1, y_2, n_3, g_4, v_5, v_6, hμ, e⟩ := hI
    rw [laws_markInt64S_r1]
    have e := e.trans (p_laws_markInt64S_l1_s l_a k μ k_1 i y1_1)
    have l_7 := g_4.1
    refine Br.intro (fun c_8 => ?_) (fun c_8 => ?_)
    · have e := e.trans (cond_t c_8)
      have c_8' := of_decide_eq_true c_8
      obtain ⟨b_9, f_10, q_11⟩ := (r_1.isL).pos (by first | omega | (simp only [List.length_set, List.length_replicate, List.length_append, List.length_cons, List.length_nil, List.length_take, List.length_drop, marks_length]; done) | (simp only [List.length_set, List.length_replicate, List.length_append, List.length_cons, List.length_nil, List.length_take, List.length_drop, marks_length]; omega))
      refine ⟨by omega, by omega, b_9, f_10, q_11, ?_⟩
      refine Lt.setS r_1 q_11 (by first | omega | (simp only [List.length_set]; (first | omega | (simp only [List.length_set, List.length_replicate, List.length_append, List.length_cons, List.length_nil, List.length_take, List.length_drop, marks_length]; done) | (simp only [List.length_set, List.length_replicate, List.length_append, List.length_cons, List.length_nil, List.length_take, List.length_drop, marks_length]; omega)))) (fun H_2 hl_12 o_14 k_13 => ?_)
      have l_15 := k_13.1
      have g_16 := g_4.transA k_13
      have l_17 := g_16.1
      rw [show IntKind.wrap .i64 (i + 1) = (i + 1) from wrap64 (by omega) (by omega)]
      refine laws_markInt64S_n1 (μ - 1) (by first | omega) ⟨_, o_14, (by first | assumption | omega | (simp only [List.length_set]; first | rfl | assumption | omega)), (by omega), g_16, (by first | omega | (simp only [List.length_append, List.length_cons, List.length_nil, List.length_set]; done) | (simp only [List.length_append, List.length_cons, List.length_nil, List.length_set]; omega)), (by first | omega | (simp only [List.length_append, List.length_cons, List.length_nil, List.length_set]; done) | (simp only [List.length_append, List.length_cons, List.length_nil, List.length_set]; omega)), (by first | omega), (by rw [show μ - 1 + 1 = μ from by first | omega]; exact e)⟩
    · have e := e.trans (cond_f c_8)
      have c_8' := of_decide_eq_false c_8
      rw [laws_markInt64S_x1_0]
      rw [e] at hk
      exact hk H_1 g_4 r_1
theorem laws_markInt64S_ok : FnOk Try.prog 36 S_laws_markInt64S := by
  refine FnOk.body mix_ok E_laws_markInt64S_ok Try.func36 rfl (by kernel_rfl) (by kernel_rfl) ?_ ?_ ?_ ?_ ?_
  · intro args H K K' h hk
    simp only [S_laws_markInt64S] at *
    unfold F_laws_markInt64S at *
    split at hk
    · obtain ⟨lo, l_a, i_a, bd_18, k⟩ := hk
      exact ⟨lo, l_a, i_a, bd_18, (fun H' gg ow => h _ _ (k H' gg ow))⟩
    · exact hk.elim
  · intro hq; cases hq
  · intro args H K hk
    simp only [S_laws_markInt64S] at *
    unfold F_laws_markInt64S at *
    split at hk
    · obtain ⟨lo, l_a, i_a, bd_18, k⟩ := hk
      exact (OwnS.put i_a _ (by rw [marks_length])).elim fun H1 h => ⟨_, _, k H1 h.1 h.2⟩
    · exact hk.elim
  · intro hq; cases hq
  · have mm := @laws_markInt64S_main
    revert mm
    generalize bodyK Try.prog E_laws_markInt64S Try.f36 = Q
    intro mm args H K hk
    simp only [S_laws_markInt64S] at *
    unfold F_laws_markInt64S at *
    split at hk
    · exact mm _ _ _ _ H K hk
    · exact hk.elim
end Go.Proofs.Ytghkkclonabpkab.Ai
