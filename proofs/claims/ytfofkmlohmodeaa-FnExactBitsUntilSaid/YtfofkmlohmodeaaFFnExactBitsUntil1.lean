/- What functions of the program come to on the abstract machine, and that they do so; printed by a program of mine around proofs of mine. -/
import Derived.Test.YtfofkmlohmodeaaFFnExactBitsUntil0
set_option linter.unusedVariables false
set_option linter.unusedSimpArgs false
set_option maxRecDepth 100000
namespace Go.Proofs.Ytfofkmlohmodeaa.Ai
open Go
attribute [local irreducible] bodyK
def p_impl_codeUntil_l2 (l_list : List Int) (top : Int) (last : Int) (l_vout : List Bool) (plane : Int) (k2_2 : (List Bool) → Int → (List Bool)) : Nat → (List Bool) → Int → (List Bool)
  | 0, _, _ => []
  | μ2 + 1, l_vout_2, t22 => (bif decide ((t22 : Int) < (l_list.length : Int)) then (bif (p_impl_digit (((l_list).getD (t22 : Int).toNat 0)) plane) then (bif (Int.fdiv ((p_impl_far (((l_list).getD (t22 : Int).toNat 0)))) (2 ^ (min ((plane + 1) : Int).toNat (IntKind.bits .i64))) : Int) == 0 then (p_impl_codeUntil_l2 l_list top last l_vout plane k2_2 μ2 (((l_vout_2 ++ [((p_impl_digit (((l_list).getD (t22 : Int).toNat 0)) plane))]) ++ [(decide ((((l_list).getD (t22 : Int).toNat 0) : Int) < 0))])) (t22 + 1)) else (p_impl_codeUntil_l2 l_list top last l_vout plane k2_2 μ2 ((l_vout_2 ++ [((p_impl_digit (((l_list).getD (t22 : Int).toNat 0)) plane))])) (t22 + 1))) else (p_impl_codeUntil_l2 l_list top last l_vout plane k2_2 μ2 ((l_vout_2 ++ [((p_impl_digit (((l_list).getD (t22 : Int).toNat 0)) plane))])) (t22 + 1))) else (k2_2 l_vout_2 t22))
theorem p_impl_codeUntil_l2_s (l_list : List Int) (top : Int) (last : Int) (l_vout : List Bool) (plane : Int) (k2_2 : (List Bool) → Int → (List Bool)) (μ2 : Nat) (l_vout_2 : List Bool) (t22 : Int) : p_impl_codeUntil_l2 l_list top last l_vout plane k2_2 (μ2 + 1) l_vout_2 t22 = (bif decide ((t22 : Int) < (l_list.length : Int)) then (bif (p_impl_digit (((l_list).getD (t22 : Int).toNat 0)) plane) then (bif (Int.fdiv ((p_impl_far (((l_list).getD (t22 : Int).toNat 0)))) (2 ^ (min ((plane + 1) : Int).toNat (IntKind.bits .i64))) : Int) == 0 then (p_impl_codeUntil_l2 l_list top last l_vout plane k2_2 μ2 (((l_vout_2 ++ [((p_impl_digit (((l_list).getD (t22 : Int).toNat 0)) plane))]) ++ [(decide ((((l_list).getD (t22 : Int).toNat 0) : Int) < 0))])) (t22 + 1)) else (p_impl_codeUntil_l2 l_list top last l_vout plane k2_2 μ2 ((l_vout_2 ++ [((p_impl_digit (((l_list).getD (t22 : Int).toNat 0)) plane))])) (t22 + 1))) else (p_impl_codeUntil_l2 l_list top last l_vout plane k2_2 μ2 ((l_vout_2 ++ [((p_impl_digit (((l_list).getD (t22 : Int).toNat 0)) plane))])) (t22 + 1))) else (k2_2 l_vout_2 t22)) := rfl
def p_impl_codeUntil_l1 (l_list : List Int) (top : Int) (last : Int) : Nat → (List Bool) → Int → (List Bool)
  | 0, _, _ => []
  | μ + 1, l_vout, plane => (bif decide ((last : Int) ≤ plane) then (p_impl_codeUntil_l2 l_list top last l_vout plane (fun (l_vout_2 : List Bool) (t22 : Int) => (p_impl_codeUntil_l1 l_list top last μ l_vout_2 (plane - 1))) (Int.toNat ((l_list.length : Int) - (0 : Int)) + 1) l_vout (0 : Int)) else l_vout)
theorem p_impl_codeUntil_l1_s (l_list : List Int) (top : Int) (last : Int) (μ : Nat) (l_vout : List Bool) (plane : Int) : p_impl_codeUntil_l1 l_list top last (μ + 1) l_vout plane = (bif decide ((last : Int) ≤ plane) then (p_impl_codeUntil_l2 l_list top last l_vout plane (fun (l_vout_2 : List Bool) (t22 : Int) => (p_impl_codeUntil_l1 l_list top last μ l_vout_2 (plane - 1))) (Int.toNat ((l_list.length : Int) - (0 : Int)) + 1) l_vout (0 : Int)) else l_vout) := rfl
def p_impl_codeUntil (l_list : List Int) (top : Int) (last : Int) : (List Bool) := (p_impl_codeUntil_l1 l_list top last (Int.toNat ((top - 1) - last + 1) + 1) ([] : List Bool) (top - 1))
theorem p_impl_codeUntil_eq (l_list : List Int) (top : Int) (last : Int) : p_impl_codeUntil l_list top last = (p_impl_codeUntil_l1 l_list top last (Int.toNat ((top - 1) - last + 1) + 1) ([] : List Bool) (top - 1)) := rfl
def T_impl_codeUntil (list_a : Option Addr) (list_n : Nat) (list_e : Nat) (top : Int) (last : Int) (H : AHeap) (K : (Option Addr) → Nat → Nat → AHeap → Prop) : Prop := ∃ (l_list : List Int), IsL fI H list_a list_n l_list ∧ l_list.length < 1073741824 ∧ 0 ≤ top ∧ (l_list.length : Int) ≤ 128 ∧ 0 ≤ last ∧ top ≤ 64 ∧ ((∀ (r1_a : Option Addr) (r1_n r1_e : Nat), ∀ H' : AHeap, Grow H H' → OwnS fB H' H.length r1_a r1_n r1_e (p_impl_codeUntil l_list top last) → K r1_a r1_n r1_e H'))
theorem T_impl_codeUntil_i {list_a : Option Addr} {list_n : Nat} {list_e : Nat} {top : Int} {last : Int} {H : AHeap} {K : (Option Addr) → Nat → Nat → AHeap → Prop} (h : ∃ (l_list : List Int), IsL fI H list_a list_n l_list ∧ l_list.length < 1073741824 ∧ 0 ≤ top ∧ (l_list.length : Int) ≤ 128 ∧ 0 ≤ last ∧ top ≤ 64 ∧ ((∀ (r1_a : Option Addr) (r1_n r1_e : Nat), ∀ H' : AHeap, Grow H H' → OwnS fB H' H.length r1_a r1_n r1_e (p_impl_codeUntil l_list top last) → K r1_a r1_n r1_e H'))) : T_impl_codeUntil list_a list_n list_e top last H K := h

/-! impl_codeUntil: function 75 -/
def E_impl_codeUntil : Env := envOf [(72, S_impl_digit), (85, S_impl_far)]
def F_impl_codeUntil : List Value → AHeap → (Value → AHeap → Prop) → Prop
  | [.slice list_a list_n list_e, .int .i64 top, .int .i64 last], H, K => T_impl_codeUntil list_a list_n list_e top last H fun (r1_a : Option Addr) (r1_n : Nat) (r1_e : Nat) (H' : AHeap) => K (.slice r1_a r1_n r1_e) H'
  | _, _, _ => False
def S_impl_codeUntil : FSpec := { F := F_impl_codeUntil, quiet := false, tame := true }
theorem impl_codeUntil_vc (list_a : Option Addr) (list_n : Nat) (list_e : Nat) (top : Int) (last : Int) (H : AHeap) (K : Value → AHeap → Prop) : bodyK Try.prog E_impl_codeUntil Try.f75 [.slice list_a list_n list_e, .int .i64 top, .int .i64 last] H K =
  (Al [] H fun b1 H1 => loopK (exK Try.prog E_impl_codeUntil (cl (cl (cr (cl (cr (cr (bodyC Try.f75)))))))) [.slice list_a list_n list_e, .int .i64 top, .int .i64 last, undef, undef, undef, .slice none 0 0, .slice (some ⟨b1, 0, none⟩) 0 1, .int .i64 (IntKind.wrap .i64 (top - 1)), undef, undef, undef, .slice (some ⟨b1, 0, none⟩) 0 1, .int .i64 top, .int .i64 (IntKind.wrap .i64 (top - 1)), undef, undef, undef, undef, undef, undef, undef, undef, undef, undef, undef, undef, undef, undef, undef, undef, undef, undef, undef, undef, undef, undef, undef, undef, undef, undef, undef, undef, undef, undef, undef, undef, undef, undef] H1 (blockQ 0 (seqQ (exK Try.prog E_impl_codeUntil (cr (cr (cr (bodyC Try.f75))))) (retK Try.prog Try.f75 K)))) := by kernel_rfl
theorem impl_codeUntil_r1 (b1 : Nat) (last : Int) (list_a : Option Addr) (list_e : Nat) (list_n : Nat) (top : Int) (z1_14 : Int) (vout_a : Option Addr) (vout_n : Nat) (vout_e : Nat) (plane : Int) (g10 g11 g15 g16 g17 g18 g19 g20 g21 g22 g23 g24 g25 g26 g27 g28 g29 g30 g31 g32 g33 g34 g35 g36 g37 g38 g39 g40 g41 g42 g43 g44 g45 g46 g47 : Value) (H : AHeap) (R : Post) : exK Try.prog E_impl_codeUntil (cl (cl (cr (cl (cr (cr (bodyC Try.f75))))))) [.slice list_a list_n list_e, .int .i64 top, .int .i64 last, undef, undef, undef, .slice none 0 0, .slice vout_a vout_n vout_e, .int .i64 plane, undef, g10, g11, .slice (some ⟨b1, 0, none⟩) 0 1, .int .i64 top, .int .i64 z1_14, g15, g16, g17, g18, g19, g20, g21, g22, g23, g24, g25, g26, g27, g28, g29, g30, g31, g32, g33, g34, g35, g36, g37, g38, g39, g40, g41, g42, g43, g44, g45, g46, g47, undef] H R =
  (Br (decide ((last : Int) ≤ plane)) (loopK (exK Try.prog E_impl_codeUntil (cl (cl (cr (cl (cl (cr (cl (cl (cr (cl (cr (cr (bodyC Try.f75)))))))))))))) [.slice list_a list_n list_e, .int .i64 top, .int .i64 last, undef, undef, undef, .slice none 0 0, .slice vout_a vout_n vout_e, .int .i64 plane, undef, g10, g11, .slice (some ⟨b1, 0, none⟩) 0 1, .int .i64 top, .int .i64 z1_14, .int .i64 plane, .int .i64 last, .bool (decide ((last : Int) ≤ plane)), g18, g19, .slice list_a list_n list_e, .int .i64 (list_n : Int), .int .i64 0, g23, g24, g25, g26, g27, g28, g29, g30, g31, g32, g33, g34, g35, g36, g37, g38, g39, g40, g41, g42, g43, g44, g45, g46, g47, undef] H (blockQ 2 (blockQ 1 (seqQ (exK Try.prog E_impl_codeUntil (cr (cr (cl (cl (cr (cl (cr (cr (bodyC Try.f75)))))))))) (R))))) (R (.exit 0) [.slice list_a list_n list_e, .int .i64 top, .int .i64 last, undef, undef, undef, .slice none 0 0, .slice vout_a vout_n vout_e, .int .i64 plane, undef, g10, g11, .slice (some ⟨b1, 0, none⟩) 0 1, .int .i64 top, .int .i64 z1_14, .int .i64 plane, .int .i64 last, .bool (decide ((last : Int) ≤ plane)), g18, g19, g20, g21, g22, g23, g24, g25, g26, g27, g28, g29, g30, g31, g32, g33, g34, g35, g36, g37, g38, g39, g40, g41, g42, g43, g44, g45, g46, g47, undef] H)) := by kernel_rfl
def impl_codeUntil_I1 (b1 : Nat) (last : Int) (list_a : Option Addr) (list_e : Nat) (list_n : Nat) (top : Int) (z1_14 : Int) (Inv : Nat → (Option Addr) → Nat → Nat → Int → AHeap → Prop) : Nat → List Value → AHeap → Prop := fun μ tm H => ∃ (vout_a : Option Addr), ∃ (vout_n : Nat), ∃ (vout_e : Nat), ∃ (plane : Int), ∃ g10 g11 g15 g16 g17 g18 g19 g20 g21 g22 g23 g24 g25 g26 g27 g28 g29 g30 g31 g32 g33 g34 g35 g36 g37 g38 g39 g40 g41 g42 g43 g44 g45 g46 g47, tm = [.slice list_a list_n list_e, .int .i64 top, .int .i64 last, undef, undef, undef, .slice none 0 0, .slice vout_a vout_n vout_e, .int .i64 plane, undef, g10, g11, .slice (some ⟨b1, 0, none⟩) 0 1, .int .i64 top, .int .i64 z1_14, g15, g16, g17, g18, g19, g20, g21, g22, g23, g24, g25, g26, g27, g28, g29, g30, g31, g32, g33, g34, g35, g36, g37, g38, g39, g40, g41, g42, g43, g44, g45, g46, g47, undef] ∧ Inv μ vout_a vout_n vout_e plane H
theorem impl_codeUntil_L1 (b1 : Nat) (last : Int) (list_a : Option Addr) (list_e : Nat) (list_n : Nat) (top : Int) (z1_14 : Int) {Q : Post} (Inv : Nat → (Option Addr) → Nat → Nat → Int → AHeap → Prop) (ν : Nat) (vout_a : Option Addr) (vout_n : Nat) (vout_e : Nat) (plane : Int) (g10 g11 g15 g16 g17 g18 g19 g20 g21 g22 g23 g24 g25 g26 g27 g28 g29 g30 g31 g32 g33 g34 g35 g36 g37 g38 g39 g40 g41 g42 g43 g44 g45 g46 g47 : Value) (H : AHeap) (h0 : Inv ν vout_a vout_n vout_e plane H)
    (hs : ∀ (μ : Nat) (vout_a : Option Addr) (vout_n : Nat) (vout_e : Nat) (plane : Int) (g10 g11 g15 g16 g17 g18 g19 g20 g21 g22 g23 g24 g25 g26 g27 g28 g29 g30 g31 g32 g33 g34 g35 g36 g37 g38 g39 g40 g41 g42 g43 g44 g45 g46 g47 : Value) (H : AHeap), Inv μ vout_a vout_n vout_e plane H → exK Try.prog E_impl_codeUntil (cl (cl (cr (cl (cr (cr (bodyC Try.f75))))))) [.slice list_a list_n list_e, .int .i64 top, .int .i64 last, undef, undef, undef, .slice none 0 0, .slice vout_a vout_n vout_e, .int .i64 plane, undef, g10, g11, .slice (some ⟨b1, 0, none⟩) 0 1, .int .i64 top, .int .i64 z1_14, g15, g16, g17, g18, g19, g20, g21, g22, g23, g24, g25, g26, g27, g28, g29, g30, g31, g32, g33, g34, g35, g36, g37, g38, g39, g40, g41, g42, g43, g44, g45, g46, g47, undef] H (loopQ (impl_codeUntil_I1 b1 last list_a list_e list_n top z1_14 Inv) μ Q)) : loopK (exK Try.prog E_impl_codeUntil (cl (cl (cr (cl (cr (cr (bodyC Try.f75)))))))) [.slice list_a list_n list_e, .int .i64 top, .int .i64 last, undef, undef, undef, .slice none 0 0, .slice vout_a vout_n vout_e, .int .i64 plane, undef, g10, g11, .slice (some ⟨b1, 0, none⟩) 0 1, .int .i64 top, .int .i64 z1_14, g15, g16, g17, g18, g19, g20, g21, g22, g23, g24, g25, g26, g27, g28, g29, g30, g31, g32, g33, g34, g35, g36, g37, g38, g39, g40, g41, g42, g43, g44, g45, g46, g47, undef] H Q :=
  ⟨impl_codeUntil_I1 b1 last list_a list_e list_n top z1_14 Inv, ν, ⟨vout_a, vout_n, vout_e, plane, g10, g11, g15, g16, g17, g18, g19, g20, g21, g22, g23, g24, g25, g26, g27, g28, g29, g30, g31, g32, g33, g34, g35, g36, g37, g38, g39, g40, g41, g42, g43, g44, g45, g46, g47, rfl, h0⟩, fun μ tm H h => by obtain ⟨vout_a, vout_n, vout_e, plane, g10, g11, g15, g16, g17, g18, g19, g20, g21, g22, g23, g24, g25, g26, g27, g28, g29, g30, g31, g32, g33, g34, g35, g36, g37, g38, g39, g40, g41, g42, g43, g44, g45, g46, g47, rfl, hI⟩ := h; exact hs μ vout_a vout_n vout_e plane g10 g11 g15 g16 g17 g18 g19 g20 g21 g22 g23 g24 g25 g26 g27 g28 g29 g30 g31 g32 g33 g34 g35 g36 g37 g38 g39 g40 g41 g42 g43 g44 g45 g46 g47 H hI⟩
theorem impl_codeUntil_n1 {b1 : Nat} {last : Int} {list_a : Option Addr} {list_e : Nat} {list_n : Nat} {top : Int} {z1_14 : Int} {Q : Post} {Inv : Nat → (Option Addr) → Nat → Nat → Int → AHeap → Prop} {μ : Nat} (μ' : Nat) {vout_a : Option Addr} {vout_n : Nat} {vout_e : Nat} {plane : Int} {g10 g11 g15 g16 g17 g18 g19 g20 g21 g22 g23 g24 g25 g26 g27 g28 g29 g30 g31 g32 g33 g34 g35 g36 g37 g38 g39 g40 g41 g42 g43 g44 g45 g46 g47 : Value} {H : AHeap} (hm : μ' < μ) (hI : Inv μ' vout_a vout_n vout_e plane H) : loopQ (impl_codeUntil_I1 b1 last list_a list_e list_n top z1_14 Inv) μ Q .normal [.slice list_a list_n list_e, .int .i64 top, .int .i64 last, undef, undef, undef, .slice none 0 0, .slice vout_a vout_n vout_e, .int .i64 plane, undef, g10, g11, .slice (some ⟨b1, 0, none⟩) 0 1, .int .i64 top, .int .i64 z1_14, g15, g16, g17, g18, g19, g20, g21, g22, g23, g24, g25, g26, g27, g28, g29, g30, g31, g32, g33, g34, g35, g36, g37, g38, g39, g40, g41, g42, g43, g44, g45, g46, g47, undef] H := ⟨μ', hm, vout_a, vout_n, vout_e, plane, g10, g11, g15, g16, g17, g18, g19, g20, g21, g22, g23, g24, g25, g26, g27, g28, g29, g30, g31, g32, g33, g34, g35, g36, g37, g38, g39, g40, g41, g42, g43, g44, g45, g46, g47, rfl, hI⟩
theorem impl_codeUntil_x1_0 (b1 : Nat) (last : Int) (list_a : Option Addr) (list_e : Nat) (list_n : Nat) (top : Int) (z1_14 : Int) (vout_a : Option Addr) (vout_n : Nat) (vout_e : Nat) (plane : Int) (g10 g11 g15 g16 g17 g18 g19 g20 g21 g22 g23 g24 g25 g26 g27 g28 g29 g30 g31 g32 g33 g34 g35 g36 g37 g38 g39 g40 g41 g42 g43 g44 g45 g46 g47 : Value) (H : AHeap) (K : Value → AHeap → Prop)  {I : Nat → List Value → AHeap → Prop} {μ : Nat} : loopQ I μ (blockQ 0 (seqQ (exK Try.prog E_impl_codeUntil (cr (cr (cr (bodyC Try.f75))))) (retK Try.prog Try.f75 K))) (.exit 0) [.slice list_a list_n list_e, .int .i64 top, .int .i64 last, undef, undef, undef, .slice none 0 0, .slice vout_a vout_n vout_e, .int .i64 plane, undef, g10, g11, .slice (some ⟨b1, 0, none⟩) 0 1, .int .i64 top, .int .i64 z1_14, g15, g16, g17, g18, g19, g20, g21, g22, g23, g24, g25, g26, g27, g28, g29, g30, g31, g32, g33, g34, g35, g36, g37, g38, g39, g40, g41, g42, g43, g44, g45, g46, g47, undef] H =
  (K (.slice vout_a vout_n vout_e) H) := by kernel_rfl
theorem impl_codeUntil_r2 (b1 : Nat) (g18 : Value) (g19 : Value) (last : Int) (list_a : Option Addr) (list_e : Nat) (list_n : Nat) (plane : Int) (top : Int) (z1_14 : Int) (vout_a : Option Addr) (vout_n : Nat) (vout_e : Nat) (t22 : Int) (g10 g11 g23 g24 g25 g26 g27 g28 g29 g30 g31 g32 g33 g34 g35 g36 g37 g38 g39 g40 g41 g42 g43 g44 g45 g46 g47 : Value) (H : AHeap) (R : Post) : exK Try.prog E_impl_codeUntil (cl (cl (cr (cl (cl (cr (cl (cl (cr (cl (cr (cr (bodyC Try.f75))))))))))))) [.slice list_a list_n list_e, .int .i64 top, .int .i64 last, undef, undef, undef, .slice none 0 0, .slice vout_a vout_n vout_e, .int .i64 plane, undef, g10, g11, .slice (some ⟨b1, 0, none⟩) 0 1, .int .i64 top, .int .i64 z1_14, .int .i64 plane, .int .i64 last, .bool (decide ((last : Int) ≤ plane)), g18, g19, .slice list_a list_n list_e, .int .i64 (list_n : Int), .int .i64 t22, g23, g24, g25, g26, g27, g28, g29, g30, g31, g32, g33, g34, g35, g36, g37, g38, g39, g40, g41, g42, g43, g44, g45, g46, g47, undef] H R =
  (Br (decide ((t22 : Int) < (list_n : Int))) ((0 : Int) ≤ t22 ∧ t22 < (list_n : Int) ∧ ∃ b2 f1, (list_a : Option Addr) = some ⟨b2, f1, none⟩ ∧ ∃ x1 : Int,  rdC H b2 (f1 + (t22 : Int).toNat * 1) = some (.int .i64 x1) ∧ T_impl_digit x1 plane H fun (r1 : Bool) (H2 : AHeap) => Al [.bool r1] H2 fun b3 H3 => ∃ o1 w1 : List Value, ownB H3 vout_a vout_n vout_e 1 = some o1 ∧ rdS H3 (some ⟨b3, 0, none⟩) (1 * 1) = some w1 ∧ ((vout_a : Option Addr) = none → 0 < (1 : Nat)) ∧ (vout_n : Nat) + 1 < most ∧ Ap H3 (killB H3 vout_a ++ [some ⟨o1 ++ w1, true⟩]) fun b4 H4 => Br r1 (T_impl_far x1 H4 fun (r2 : Int) (H5 : AHeap) => (0 : Int) ≤ IntKind.wrap .i64 (plane + 1) ∧ Br ((Int.fdiv r2 (2 ^ (min (IntKind.wrap .i64 (plane + 1) : Int).toNat (IntKind.bits .i64))) : Int) == 0) (Al [.bool (decide ((x1 : Int) < 0))] H5 fun b5 H6 => ∃ o2 w2 : List Value, ownB H6 (some ⟨b4, 0, none⟩) (vout_n + 1) 1 1 = some o2 ∧ rdS H6 (some ⟨b5, 0, none⟩) (1 * 1) = some w2 ∧ ((some ⟨b4, 0, none⟩ : Option Addr) = none → 0 < (1 : Nat)) ∧ (vout_n + 1 : Nat) + 1 < most ∧ Ap H6 (killB H6 (some ⟨b4, 0, none⟩) ++ [some ⟨o2 ++ w2, true⟩]) fun b6 H7 => R .normal [.slice list_a list_n list_e, .int .i64 top, .int .i64 last, undef, undef, undef, .slice none 0 0, .slice (some ⟨b6, 0, none⟩) ((vout_n + 1) + 1) 1, .int .i64 plane, undef, .int .i64 x1, .bool r1, .slice (some ⟨b1, 0, none⟩) 0 1, .int .i64 top, .int .i64 z1_14, .int .i64 plane, .int .i64 last, .bool (decide ((last : Int) ≤ plane)), g18, g19, .slice list_a list_n list_e, .int .i64 (list_n : Int), .int .i64 (IntKind.wrap .i64 (t22 + 1)), .bool (decide ((t22 : Int) < (list_n : Int))), .pointer (some ⟨b2, f1 + (t22 : Int).toNat * 1, none⟩), .int .i64 x1, .int .i64 x1, .int .i64 plane, .bool r1, .slice vout_a vout_n vout_e, .bool r1, .slice (some ⟨b3, 0, none⟩) 1 1, .slice (some ⟨b4, 0, none⟩) (vout_n + 1) 1, .bool r1, .bool true, .int .i64 x1, .int .i64 r2, .int .i64 plane, .int .i64 (IntKind.wrap .i64 (plane + 1)), .int .i64 (Int.fdiv r2 (2 ^ (min (IntKind.wrap .i64 (plane + 1) : Int).toNat (IntKind.bits .i64)))), .bool ((Int.fdiv r2 (2 ^ (min (IntKind.wrap .i64 (plane + 1) : Int).toNat (IntKind.bits .i64))) : Int) == 0), .bool ((Int.fdiv r2 (2 ^ (min (IntKind.wrap .i64 (plane + 1) : Int).toNat (IntKind.bits .i64))) : Int) == 0), .slice (some ⟨b4, 0, none⟩) (vout_n + 1) 1, .int .i64 x1, .bool (decide ((x1 : Int) < 0)), .slice (some ⟨b5, 0, none⟩) 1 1, .slice (some ⟨b6, 0, none⟩) ((vout_n + 1) + 1) 1, .int .i64 (IntKind.wrap .i64 (t22 + 1)), undef] H7) (R .normal [.slice list_a list_n list_e, .int .i64 top, .int .i64 last, undef, undef, undef, .slice none 0 0, .slice (some ⟨b4, 0, none⟩) (vout_n + 1) 1, .int .i64 plane, undef, .int .i64 x1, .bool r1, .slice (some ⟨b1, 0, none⟩) 0 1, .int .i64 top, .int .i64 z1_14, .int .i64 plane, .int .i64 last, .bool (decide ((last : Int) ≤ plane)), g18, g19, .slice list_a list_n list_e, .int .i64 (list_n : Int), .int .i64 (IntKind.wrap .i64 (t22 + 1)), .bool (decide ((t22 : Int) < (list_n : Int))), .pointer (some ⟨b2, f1 + (t22 : Int).toNat * 1, none⟩), .int .i64 x1, .int .i64 x1, .int .i64 plane, .bool r1, .slice vout_a vout_n vout_e, .bool r1, .slice (some ⟨b3, 0, none⟩) 1 1, .slice (some ⟨b4, 0, none⟩) (vout_n + 1) 1, .bool r1, .bool true, .int .i64 x1, .int .i64 r2, .int .i64 plane, .int .i64 (IntKind.wrap .i64 (plane + 1)), .int .i64 (Int.fdiv r2 (2 ^ (min (IntKind.wrap .i64 (plane + 1) : Int).toNat (IntKind.bits .i64)))), .bool ((Int.fdiv r2 (2 ^ (min (IntKind.wrap .i64 (plane + 1) : Int).toNat (IntKind.bits .i64))) : Int) == 0), .bool ((Int.fdiv r2 (2 ^ (min (IntKind.wrap .i64 (plane + 1) : Int).toNat (IntKind.bits .i64))) : Int) == 0), g42, g43, g44, g45, g46, .int .i64 (IntKind.wrap .i64 (t22 + 1)), undef] H5)) (R .normal [.slice list_a list_n list_e, .int .i64 top, .int .i64 last, undef, undef, undef, .slice none 0 0, .slice (some ⟨b4, 0, none⟩) (vout_n + 1) 1, .int .i64 plane, undef, .int .i64 x1, .bool r1, .slice (some ⟨b1, 0, none⟩) 0 1, .int .i64 top, .int .i64 z1_14, .int .i64 plane, .int .i64 last, .bool (decide ((last : Int) ≤ plane)), g18, g19, .slice list_a list_n list_e, .int .i64 (list_n : Int), .int .i64 (IntKind.wrap .i64 (t22 + 1)), .bool (decide ((t22 : Int) < (list_n : Int))), .pointer (some ⟨b2, f1 + (t22 : Int).toNat * 1, none⟩), .int .i64 x1, .int .i64 x1, .int .i64 plane, .bool r1, .slice vout_a vout_n vout_e, .bool r1, .slice (some ⟨b3, 0, none⟩) 1 1, .slice (some ⟨b4, 0, none⟩) (vout_n + 1) 1, .bool r1, .bool false, undef, undef, undef, undef, undef, undef, .bool false, g42, g43, g44, g45, g46, .int .i64 (IntKind.wrap .i64 (t22 + 1)), undef] H4)) (R (.exit 2) [.slice list_a list_n list_e, .int .i64 top, .int .i64 last, undef, undef, undef, .slice none 0 0, .slice vout_a vout_n vout_e, .int .i64 plane, undef, g10, g11, .slice (some ⟨b1, 0, none⟩) 0 1, .int .i64 top, .int .i64 z1_14, .int .i64 plane, .int .i64 last, .bool (decide ((last : Int) ≤ plane)), g18, g19, .slice list_a list_n list_e, .int .i64 (list_n : Int), .int .i64 t22, .bool (decide ((t22 : Int) < (list_n : Int))), g24, g25, g26, g27, g28, g29, g30, g31, g32, g33, g34, g35, g36, g37, g38, g39, g40, g41, g42, g43, g44, g45, g46, g47, undef] H)) := by kernel_rfl
def impl_codeUntil_I2 (b1 : Nat) (g18 : Value) (g19 : Value) (last : Int) (list_a : Option Addr) (list_e : Nat) (list_n : Nat) (plane : Int) (top : Int) (z1_14 : Int) (Inv : Nat → (Option Addr) → Nat → Nat → Int → AHeap → Prop) : Nat → List Value → AHeap → Prop := fun μ tm H => ∃ (vout_a : Option Addr), ∃ (vout_n : Nat), ∃ (vout_e : Nat), ∃ (t22 : Int), ∃ g10 g11 g23 g24 g25 g26 g27 g28 g29 g30 g31 g32 g33 g34 g35 g36 g37 g38 g39 g40 g41 g42 g43 g44 g45 g46 g47, tm = [.slice list_a list_n list_e, .int .i64 top, .int .i64 last, undef, undef, undef, .slice none 0 0, .slice vout_a vout_n vout_e, .int .i64 plane, undef, g10, g11, .slice (some ⟨b1, 0, none⟩) 0 1, .int .i64 top, .int .i64 z1_14, .int .i64 plane, .int .i64 last, .bool (decide ((last : Int) ≤ plane)), g18, g19, .slice list_a list_n list_e, .int .i64 (list_n : Int), .int .i64 t22, g23, g24, g25, g26, g27, g28, g29, g30, g31, g32, g33, g34, g35, g36, g37, g38, g39, g40, g41, g42, g43, g44, g45, g46, g47, undef] ∧ Inv μ vout_a vout_n vout_e t22 H
theorem impl_codeUntil_L2 (b1 : Nat) (g18 : Value) (g19 : Value) (last : Int) (list_a : Option Addr) (list_e : Nat) (list_n : Nat) (plane : Int) (top : Int) (z1_14 : Int) {Q : Post} (Inv : Nat → (Option Addr) → Nat → Nat → Int → AHeap → Prop) (ν : Nat) (vout_a : Option Addr) (vout_n : Nat) (vout_e : Nat) (t22 : Int) (g10 g11 g23 g24 g25 g26 g27 g28 g29 g30 g31 g32 g33 g34 g35 g36 g37 g38 g39 g40 g41 g42 g43 g44 g45 g46 g47 : Value) (H : AHeap) (h0 : Inv ν vout_a vout_n vout_e t22 H)
    (hs : ∀ (μ : Nat) (vout_a : Option Addr) (vout_n : Nat) (vout_e : Nat) (t22 : Int) (g10 g11 g23 g24 g25 g26 g27 g28 g29 g30 g31 g32 g33 g34 g35 g36 g37 g38 g39 g40 g41 g42 g43 g44 g45 g46 g47 : Value) (H : AHeap), Inv μ vout_a vout_n vout_e t22 H → exK Try.prog E_impl_codeUntil (cl (cl (cr (cl (cl (cr (cl (cl (cr (cl (cr (cr (bodyC Try.f75))))))))))))) [.slice list_a list_n list_e, .int .i64 top, .int .i64 last, undef, undef, undef, .slice none 0 0, .slice vout_a vout_n vout_e, .int .i64 plane, undef, g10, g11, .slice (some ⟨b1, 0, none⟩) 0 1, .int .i64 top, .int .i64 z1_14, .int .i64 plane, .int .i64 last, .bool (decide ((last : Int) ≤ plane)), g18, g19, .slice list_a list_n list_e, .int .i64 (list_n : Int), .int .i64 t22, g23, g24, g25, g26, g27, g28, g29, g30, g31, g32, g33, g34, g35, g36, g37, g38, g39, g40, g41, g42, g43, g44, g45, g46, g47, undef] H (loopQ (impl_codeUntil_I2 b1 g18 g19 last list_a list_e list_n plane top z1_14 Inv) μ Q)) : loopK (exK Try.prog E_impl_codeUntil (cl (cl (cr (cl (cl (cr (cl (cl (cr (cl (cr (cr (bodyC Try.f75)))))))))))))) [.slice list_a list_n list_e, .int .i64 top, .int .i64 last, undef, undef, undef, .slice none 0 0, .slice vout_a vout_n vout_e, .int .i64 plane, undef, g10, g11, .slice (some ⟨b1, 0, none⟩) 0 1, .int .i64 top, .int .i64 z1_14, .int .i64 plane, .int .i64 last, .bool (decide ((last : Int) ≤ plane)), g18, g19, .slice list_a list_n list_e, .int .i64 (list_n : Int), .int .i64 t22, g23, g24, g25, g26, g27, g28, g29, g30, g31, g32, g33, g34, g35, g36, g37, g38, g39, g40, g41, g42, g43, g44, g45, g46, g47, undef] H Q :=
  ⟨impl_codeUntil_I2 b1 g18 g19 last list_a list_e list_n plane top z1_14 Inv, ν, ⟨vout_a, vout_n, vout_e, t22, g10, g11, g23, g24, g25, g26, g27, g28, g29, g30, g31, g32, g33, g34, g35, g36, g37, g38, g39, g40, g41, g42, g43, g44, g45, g46, g47, rfl, h0⟩, fun μ tm H h => by obtain ⟨vout_a, vout_n, vout_e, t22, g10, g11, g23, g24, g25, g26, g27, g28, g29, g30, g31, g32, g33, g34, g35, g36, g37, g38, g39, g40, g41, g42, g43, g44, g45, g46, g47, rfl, hI⟩ := h; exact hs μ vout_a vout_n vout_e t22 g10 g11 g23 g24 g25 g26 g27 g28 g29 g30 g31 g32 g33 g34 g35 g36 g37 g38 g39 g40 g41 g42 g43 g44 g45 g46 g47 H hI⟩
theorem impl_codeUntil_n2 {b1 : Nat} {g18 : Value} {g19 : Value} {last : Int} {list_a : Option Addr} {list_e : Nat} {list_n : Nat} {plane : Int} {top : Int} {z1_14 : Int} {Q : Post} {Inv : Nat → (Option Addr) → Nat → Nat → Int → AHeap → Prop} {μ : Nat} (μ' : Nat) {vout_a : Option Addr} {vout_n : Nat} {vout_e : Nat} {t22 : Int} {g10 g11 g23 g24 g25 g26 g27 g28 g29 g30 g31 g32 g33 g34 g35 g36 g37 g38 g39 g40 g41 g42 g43 g44 g45 g46 g47 : Value} {H : AHeap} (hm : μ' < μ) (hI : Inv μ' vout_a vout_n vout_e t22 H) : loopQ (impl_codeUntil_I2 b1 g18 g19 last list_a list_e list_n plane top z1_14 Inv) μ Q .normal [.slice list_a list_n list_e, .int .i64 top, .int .i64 last, undef, undef, undef, .slice none 0 0, .slice vout_a vout_n vout_e, .int .i64 plane, undef, g10, g11, .slice (some ⟨b1, 0, none⟩) 0 1, .int .i64 top, .int .i64 z1_14, .int .i64 plane, .int .i64 last, .bool (decide ((last : Int) ≤ plane)), g18, g19, .slice list_a list_n list_e, .int .i64 (list_n : Int), .int .i64 t22, g23, g24, g25, g26, g27, g28, g29, g30, g31, g32, g33, g34, g35, g36, g37, g38, g39, g40, g41, g42, g43, g44, g45, g46, g47, undef] H := ⟨μ', hm, vout_a, vout_n, vout_e, t22, g10, g11, g23, g24, g25, g26, g27, g28, g29, g30, g31, g32, g33, g34, g35, g36, g37, g38, g39, g40, g41, g42, g43, g44, g45, g46, g47, rfl, hI⟩
theorem impl_codeUntil_x2_2 (b1 : Nat) (g18 : Value) (g19 : Value) (last : Int) (list_a : Option Addr) (list_e : Nat) (list_n : Nat) (plane : Int) (top : Int) (z1_14 : Int) (vout_a : Option Addr) (vout_n : Nat) (vout_e : Nat) (t22 : Int) (g10 g11 g23 g24 g25 g26 g27 g28 g29 g30 g31 g32 g33 g34 g35 g36 g37 g38 g39 g40 g41 g42 g43 g44 g45 g46 g47 : Value) (H : AHeap)  (R : Post) {I : Nat → List Value → AHeap → Prop} {μ : Nat} : loopQ I μ (blockQ 2 (blockQ 1 (seqQ (exK Try.prog E_impl_codeUntil (cr (cr (cl (cl (cr (cl (cr (cr (bodyC Try.f75)))))))))) (R)))) (.exit 2) [.slice list_a list_n list_e, .int .i64 top, .int .i64 last, undef, undef, undef, .slice none 0 0, .slice vout_a vout_n vout_e, .int .i64 plane, undef, g10, g11, .slice (some ⟨b1, 0, none⟩) 0 1, .int .i64 top, .int .i64 z1_14, .int .i64 plane, .int .i64 last, .bool (decide ((last : Int) ≤ plane)), g18, g19, .slice list_a list_n list_e, .int .i64 (list_n : Int), .int .i64 t22, g23, g24, g25, g26, g27, g28, g29, g30, g31, g32, g33, g34, g35, g36, g37, g38, g39, g40, g41, g42, g43, g44, g45, g46, g47, undef] H =
  (R .normal [.slice list_a list_n list_e, .int .i64 top, .int .i64 last, undef, undef, undef, .slice none 0 0, .slice vout_a vout_n vout_e, .int .i64 (IntKind.wrap .i64 (plane - 1)), undef, g10, g11, .slice (some ⟨b1, 0, none⟩) 0 1, .int .i64 top, .int .i64 z1_14, .int .i64 plane, .int .i64 last, .bool (decide ((last : Int) ≤ plane)), .int .i64 plane, .int .i64 (IntKind.wrap .i64 (plane - 1)), .slice list_a list_n list_e, .int .i64 (list_n : Int), .int .i64 t22, g23, g24, g25, g26, g27, g28, g29, g30, g31, g32, g33, g34, g35, g36, g37, g38, g39, g40, g41, g42, g43, g44, g45, g46, g47, undef] H) := by kernel_rfl
theorem E_impl_codeUntil_ok : ∀ g, FnOk Try.prog g (E_impl_codeUntil g) := FnOk.envOf (by
  intro x hx
  simp only [List.mem_cons, List.not_mem_nil, or_false] at hx
  rcases hx with rfl | rfl
  · exact impl_digit_ok
  · exact impl_far_ok)
set_option maxHeartbeats 1000000 in
theorem impl_codeUntil_main (list_a : Option Addr) (list_n : Nat) (list_e : Nat) (top : Int) (last : Int) (H : AHeap) (K : Value → AHeap → Prop) (h : T_impl_codeUntil list_a list_n list_e top last H fun (r1_a : Option Addr) (r1_n : Nat) (r1_e : Nat) (H' : AHeap) => K (.slice r1_a r1_n r1_e) H') : bodyK Try.prog E_impl_codeUntil Try.f75 [.slice list_a list_n list_e, .int .i64 top, .int .i64 last] H K := by
  rw [impl_codeUntil_vc]
  obtain ⟨l_list, i_list, bd_87, pr0, pr1, pr2, pr3, hk⟩ := h
  obtain rfl := i_list.eqn
  have e : (p_impl_codeUntil l_list top last) = _ := rfl
  have e := e.trans (p_impl_codeUntil_eq l_list top last)
  have g0 := Grow.refl H
  refine Al.intro (fun b_1 H_1 hb_2 hl_3 g_4 o_5 => ?_)
  have o_5 : Own H_1 b_1 ((([] : List Bool)).map fB) := o_5
  have l_7 := g_4.1
  have g_8 := g0.trans g_4
  have l_9 := g_8.1
  have w_86 := o_5.lt
  rw [show IntKind.wrap .i64 (top - 1) = (top - 1) from wrap64 (by omega) (by omega)]
  refine impl_codeUntil_L1 _ _ _ _ _ _ _ (fun (μ : Nat) (vout_a : Option Addr) (vout_n : Nat) (vout_e : Nat) (plane : Int) (H_2 : AHeap) => ∃ (l_vout : List Bool), ∃ (b_10 : Nat), vout_a = some ⟨b_10, 0, none⟩ ∧ vout_n = l_vout.length ∧ vout_e = 1 ∧ Own H_2 b_10 (l_vout.map fB) ∧ Grow H H_2 ∧ H.length ≤ b_10 ∧ plane ≤ 63 ∧ (l_vout.length : Int) ≤ 256 * (63 - plane) ∧ plane - last + 1 ≤ (μ : Int) ∧ p_impl_codeUntil l_list top last = p_impl_codeUntil_l1 l_list top last (μ + 1) l_vout plane) (Int.toNat ((top - 1) - last + 1)) _ _ _ _ _ _ _ _ _ _ _ _ _ _ _ _ _ _ _ _ _ _ _ _ _ _ _ _ _ _ _ _ _ _ _ _ _ _ _ H_1 ?_ ?_
  · exact ⟨_, _, rfl, (by first | rfl | omega | (simp only [List.length_set]; done) | (simp only [List.length_set, List.length_replicate]; omega)), rfl, o_5, g_8, (by omega), (by first | omega | (simp; done) | (simp; omega)), (by first | omega | (simp; done) | (simp; omega)), (by omega), e⟩
  · intro μ vout_a vout_n vout_e plane g10 g11 g15 g16 g17 g18 g19 g20 g21 g22 g23 g24 g25 g26 g27 g28 g29 g30 g31 g32 g33 g34 g35 g36 g37 g38 g39 g40 g41 g42 g43 g44 g45 g46 g47 H_2 hI
    obtain ⟨l_vout, b_10, rfl, rfl, rfl, o_11, g_12, l_13, v_14, v_15, hμ, e⟩ := hI
    rw [impl_codeUntil_r1]
    have e := e.trans (p_impl_codeUntil_l1_s l_list top last μ l_vout plane)
    have w_16 := o_11.lt
    have l_17 := g_12.1
    refine Br.intro (fun c_18 => ?_) (fun c_18 => ?_)
    · have e := e.trans (cond_t c_18)
      have c_18' := of_decide_eq_true c_18
      refine impl_codeUntil_L2 _ _ _ _ _ _ _ _ _ _ (fun (μ2 : Nat) (vout_a : Option Addr) (vout_n : Nat) (vout_e : Nat) (t22 : Int) (H_3 : AHeap) => ∃ (l_vout_2 : List Bool), ∃ (b_19 : Nat), vout_a = some ⟨b_19, 0, none⟩ ∧ vout_n = l_vout_2.length ∧ vout_e = 1 ∧ Own H_3 b_19 (l_vout_2.map fB) ∧ Grow H H_3 ∧ H.length ≤ b_19 ∧ (0 : Int) ≤ t22 ∧ t22 ≤ (l_list.length : Int) ∧ (l_vout_2.length : Int) ≤ 256 * (63 - plane) + 2 * t22 ∧ (l_list.length : Int) - t22 ≤ (μ2 : Int) ∧ p_impl_codeUntil l_list top last = p_impl_codeUntil_l2 l_list top last l_vout plane (fun (l_vout_2 : List Bool) (t22 : Int) => (p_impl_codeUntil_l1 l_list top last μ l_vout_2 (plane - 1))) (μ2 + 1) l_vout_2 t22) (Int.toNat ((l_list.length : Int) - (0 : Int))) _ _ _ _ _ _ _ _ _ _ _ _ _ _ _ _ _ _ _ _ _ _ _ _ _ _ _ _ _ _ _ H_2 ?_ ?_
      · exact ⟨_, _, rfl, (by first | rfl | omega | (simp only [List.length_set]; done) | (simp only [List.length_set, List.length_replicate]; omega)), rfl, o_11, g_12, (by omega), (by first | omega | (simp; done) | (simp; omega)), (by first | omega | (simp; done) | (simp; omega)), (by first | omega | (simp; done) | (simp; omega)), (by omega), e⟩
      · intro μ2 vout_a vout_n vout_e t22 g10 g11 g23 g24 g25 g26 g27 g28 g29 g30 g31 g32 g33 g34 g35 g36 g37 g38 g39 g40 g41 g42 g43 g44 g45 g46 g47 H_3 hI
        obtain ⟨l_vout_2, b_19, rfl, rfl, rfl, o_20, g_21, l_22, v_23, v_24, v_25, hμ, e⟩ := hI
        rw [impl_codeUntil_r2]
        have e := e.trans (p_impl_codeUntil_l2_s l_list top last l_vout plane (fun (l_vout_2 : List Bool) (t22 : Int) => (p_impl_codeUntil_l1 l_list top last μ l_vout_2 (plane - 1))) μ2 l_vout_2 t22)
        have w_26 := o_20.lt
        have l_27 := g_21.1
        refine Br.intro (fun c_28 => ?_) (fun c_28 => ?_)
        · have e := e.trans (cond_t c_28)
          have c_28' := of_decide_eq_true c_28
          obtain ⟨b_29, f_30, q_31⟩ := ((i_list.grow g_21)).pos (by first | omega | (simp only [List.length_set, List.length_replicate, List.length_append, List.length_cons, List.length_nil, List.length_take, List.length_drop, marks_length]; done) | (simp only [List.length_set, List.length_replicate, List.length_append, List.length_cons, List.length_nil, List.length_take, List.length_drop, marks_length]; omega))
          refine ⟨by omega, by omega, b_29, f_30, q_31, ?_⟩
          refine ⟨((l_list).getD (t22 : Int).toNat 0), (i_list).rd g_21 q_31 (by omega) _, ?_⟩
          refine T_impl_digit_i ⟨(by first | assumption | omega | (simp; omega)), ?_⟩
          refine Al.intro (fun b_32 H_4 hb_33 hl_34 g_35 o_36 => ?_)
          have o_36 : Own H_4 b_32 (([((p_impl_digit (((l_list).getD (t22 : Int).toNat 0)) plane))]).map fB) := o_36
          have l_38 := g_35.1
          have g_39 := g_21.trans g_35
          have l_40 := g_39.1
          have o_41 := o_20.grow g_35
          have w_42 := o_41.lt
          have w_85 := o_36.lt
          refine ⟨_, _, o_41.ownB (by first | (simp only [List.length_map, List.length_cons, List.length_nil, List.length_append]; done) | (simp only [List.length_map, List.length_cons, List.length_nil, List.length_append]; omega)) rfl, (isl_rdS (o_36.isL (by first | rfl | omega | (simp only [List.length_set]; done) | (simp only [List.length_set, List.length_replicate]; omega)))), (fun h => by cases h), (by have := most_eq; omega), ?_⟩
          refine Ap.app o_41 rfl rfl (fun b_47 H_5 q_83 hl_43 o_44 k_45 => ?_)
          have o_44 := map_snoc o_44
          have l_48 := k_45.1
          have g_49 := g_39.keep (b := b_19) (by omega) k_45
          have l_50 := g_49.1
          have o_51 := o_36.keep (by omega) k_45
          have w_52 := o_51.lt
          have w_84 := o_44.lt
          refine Br.intro (fun c_53 => ?_) (fun c_53 => ?_)
          · have e := e.trans (cond_t c_53)
            refine T_impl_far_i ?_
            rw [show IntKind.wrap .i64 (plane + 1) = (plane + 1) from wrap64 (by omega) (by omega)]
            refine ⟨(by first | omega | decide | (simp; done) | (simp; omega)), ?_⟩
            refine Br.intro (fun c_54 => ?_) (fun c_54 => ?_)
            · have e := e.trans (cond_t c_54)
              have c_54' := ieq_t c_54
              refine Al.intro (fun b_55 H_6 hb_56 hl_57 g_58 o_59 => ?_)
              have o_59 : Own H_6 b_55 (([(decide ((((l_list).getD (t22 : Int).toNat 0) : Int) < 0))]).map fB) := o_59
              have l_61 := g_58.1
              have g_62 := g_49.trans g_58
              have l_63 := g_62.1
              have o_64 := o_51.grow g_58
              have w_65 := o_64.lt
              have o_66 := o_44.grow g_58
              have w_67 := o_66.lt
              have w_82 := o_59.lt
              refine ⟨_, _, o_66.ownB (by first | (simp only [List.length_map, List.length_cons, List.length_nil, List.length_append]; done) | (simp only [List.length_map, List.length_cons, List.length_nil, List.length_append]; omega)) rfl, (isl_rdS (o_59.isL (by first | rfl | omega | (simp only [List.length_set]; done) | (simp only [List.length_set, List.length_replicate]; omega)))), (fun h => by cases h), (by have := most_eq; omega), ?_⟩
              refine Ap.app o_66 rfl rfl (fun b_72 H_7 q_80 hl_68 o_69 k_70 => ?_)
              have o_69 := map_snoc o_69
              have l_73 := k_70.1
              have g_74 := g_62.keep (b := b_47) (by omega) k_70
              have l_75 := g_74.1
              have o_76 := o_64.keep (by omega) k_70
              have w_77 := o_76.lt
              have o_78 := o_59.keep (by omega) k_70
              have w_79 := o_78.lt
              have w_81 := o_69.lt
              rw [show IntKind.wrap .i64 (t22 + 1) = (t22 + 1) from wrap64 (by omega) (by omega)]
              refine impl_codeUntil_n2 (μ2 - 1) (by first | omega) ⟨_, _, rfl, (by first | (simp only [List.length_append, List.length_cons, List.length_nil]; done) | (simp only [List.length_append, List.length_cons, List.length_nil]; omega) | (simp only [List.length_append, List.length_cons, List.length_nil, List.length_take, List.length_drop]; omega)), rfl, o_69, g_74, (by omega), (by first | omega | (simp only [List.length_append, List.length_cons, List.length_nil, List.length_set]; done) | (simp only [List.length_append, List.length_cons, List.length_nil, List.length_set]; omega)), (by first | omega | (simp only [List.length_append, List.length_cons, List.length_nil, List.length_set]; done) | (simp only [List.length_append, List.length_cons, List.length_nil, List.length_set]; omega)), (by first | omega | (simp only [List.length_append, List.length_cons, List.length_nil, List.length_set]; done) | (simp only [List.length_append, List.length_cons, List.length_nil, List.length_set]; omega)), (by first | omega), (by rw [show μ2 - 1 + 1 = μ2 from by first | omega]; exact e)⟩
            · have e := e.trans (cond_f c_54)
              have c_54' := ieq_f c_54
              rw [show IntKind.wrap .i64 (t22 + 1) = (t22 + 1) from wrap64 (by omega) (by omega)]
              refine impl_codeUntil_n2 (μ2 - 1) (by first | omega) ⟨_, _, rfl, (by first | (simp only [List.length_append, List.length_cons, List.length_nil]; done) | (simp only [List.length_append, List.length_cons, List.length_nil]; omega) | (simp only [List.length_append, List.length_cons, List.length_nil, List.length_take, List.length_drop]; omega)), rfl, o_44, g_49, (by omega), (by first | omega | (simp only [List.length_append, List.length_cons, List.length_nil, List.length_set]; done) | (simp only [List.length_append, List.length_cons, List.length_nil, List.length_set]; omega)), (by first | omega | (simp only [List.length_append, List.length_cons, List.length_nil, List.length_set]; done) | (simp only [List.length_append, List.length_cons, List.length_nil, List.length_set]; omega)), (by first | omega | (simp only [List.length_append, List.length_cons, List.length_nil, List.length_set]; done) | (simp only [List.length_append, List.length_cons, List.length_nil, List.length_set]; omega)), (by first | omega), (by rw [show μ2 - 1 + 1 = μ2 from by first | omega]; exact e)⟩
          · have e := e.trans (cond_f c_53)
            rw [show IntKind.wrap .i64 (t22 + 1) = (t22 + 1) from wrap64 (by omega) (by omega)]
            refine impl_codeUntil_n2 (μ2 - 1) (by first | omega) ⟨_, _, rfl, (by first | (simp only [List.length_append, List.length_cons, List.length_nil]; done) | (simp only [List.length_append, List.length_cons, List.length_nil]; omega) | (simp only [List.length_append, List.length_cons, List.length_nil, List.length_take, List.length_drop]; omega)), rfl, o_44, g_49, (by omega), (by first | omega | (simp only [List.length_append, List.length_cons, List.length_nil, List.length_set]; done) | (simp only [List.length_append, List.length_cons, List.length_nil, List.length_set]; omega)), (by first | omega | (simp only [List.length_append, List.length_cons, List.length_nil, List.length_set]; done) | (simp only [List.length_append, List.length_cons, List.length_nil, List.length_set]; omega)), (by first | omega | (simp only [List.length_append, List.length_cons, List.length_nil, List.length_set]; done) | (simp only [List.length_append, List.length_cons, List.length_nil, List.length_set]; omega)), (by first | omega), (by rw [show μ2 - 1 + 1 = μ2 from by first | omega]; exact e)⟩
        · have e := e.trans (cond_f c_28)
          have c_28' := of_decide_eq_false c_28
          rw [impl_codeUntil_x2_2]
          rw [show IntKind.wrap .i64 (plane - 1) = (plane - 1) from wrap64 (by omega) (by omega)]
          refine impl_codeUntil_n1 (μ - 1) (by first | omega) ⟨_, _, rfl, (by first | rfl | omega | (simp only [List.length_set]; done) | (simp only [List.length_set, List.length_replicate]; omega)), rfl, o_20, g_21, (by omega), (by first | omega | (simp only [List.length_append, List.length_cons, List.length_nil, List.length_set]; done) | (simp only [List.length_append, List.length_cons, List.length_nil, List.length_set]; omega)), (by first | omega | (simp only [List.length_append, List.length_cons, List.length_nil, List.length_set]; done) | (simp only [List.length_append, List.length_cons, List.length_nil, List.length_set]; omega)), (by first | omega), (by rw [show μ - 1 + 1 = μ from by first | omega]; exact e)⟩
    · have e := e.trans (cond_f c_18)
      have c_18' := of_decide_eq_false c_18
      rw [impl_codeUntil_x1_0]
      rw [e] at hk
      exact hk _ _ _ H_2 g_12 (o_11.ownS (by first | rfl | omega | (simp only [List.length_set]; done) | (simp only [List.length_set, List.length_replicate]; omega)) (by omega))
theorem impl_codeUntil_ok : FnOk Try.prog 75 S_impl_codeUntil := by
  refine FnOk.body mix_ok E_impl_codeUntil_ok Try.func75 rfl (by kernel_rfl) (by kernel_rfl) ?_ ?_ ?_ ?_ ?_
  · intro args H K K' h hk
    simp only [S_impl_codeUntil] at *
    unfold F_impl_codeUntil at *
    split at hk
    · obtain ⟨l_list, i_list, bd_87, pr0, pr1, pr2, pr3, k⟩ := hk
      exact ⟨l_list, i_list, bd_87, pr0, pr1, pr2, pr3, (fun r1_a r1_n r1_e H' gg ow0 => h _ _ (k r1_a r1_n r1_e H' gg ow0))⟩
    · exact hk.elim
  · intro hq; cases hq
  · intro args H K hk
    simp only [S_impl_codeUntil] at *
    unfold F_impl_codeUntil at *
    split at hk
    · obtain ⟨l_list, i_list, bd_87, pr0, pr1, pr2, pr3, k⟩ := hk
      exact liveS fun a n e H1 g o => ⟨_, _, k a n e H1 g o⟩
    · exact hk.elim
  · intro _ args H K hk
    simp only [S_impl_codeUntil] at *
    unfold F_impl_codeUntil at *
    split at hk
    · obtain ⟨l_list, i_list, bd_87, pr0, pr1, pr2, pr3, k⟩ := hk
      exact ⟨l_list, i_list, bd_87, pr0, pr1, pr2, pr3, (fun r1_a r1_n r1_e H' gg ow0 => ⟨gg, k r1_a r1_n r1_e H' gg ow0⟩)⟩
    · exact hk.elim
  · have mm := @impl_codeUntil_main
    revert mm
    generalize bodyK Try.prog E_impl_codeUntil Try.f75 = Q
    intro mm args H K hk
    simp only [S_impl_codeUntil] at *
    unfold F_impl_codeUntil at *
    split at hk
    · exact mm _ _ _ _ _ H K hk
    · exact hk.elim
def p_impl_BitsUntil (l_list : List Int) (plane : Int) : Int × Bool := (bif !(p_impl_AreIntegers l_list) then ((0 : Int), false) else (bif !((p_impl_within plane (0 : Int) (24 : Int))) then ((0 : Int), false) else ((((p_impl_codeUntil l_list (p_impl_planesFor l_list) plane)).length : Int), true)))
theorem p_impl_BitsUntil_eq (l_list : List Int) (plane : Int) : p_impl_BitsUntil l_list plane = (bif !(p_impl_AreIntegers l_list) then ((0 : Int), false) else (bif !((p_impl_within plane (0 : Int) (24 : Int))) then ((0 : Int), false) else ((((p_impl_codeUntil l_list (p_impl_planesFor l_list) plane)).length : Int), true))) := rfl
def T_impl_BitsUntil (list_a : Option Addr) (list_n : Nat) (list_e : Nat) (plane : Int) (H : AHeap) (K : Int → Bool → AHeap → Prop) : Prop := ∃ (l_list : List Int), IsL fI H list_a list_n l_list ∧ l_list.length < 1073741824 ∧ ((∀ H' : AHeap, Grow H H' → K ((p_impl_BitsUntil l_list plane).1) ((p_impl_BitsUntil l_list plane).2) H'))
theorem T_impl_BitsUntil_i {list_a : Option Addr} {list_n : Nat} {list_e : Nat} {plane : Int} {H : AHeap} {K : Int → Bool → AHeap → Prop} (h : ∃ (l_list : List Int), IsL fI H list_a list_n l_list ∧ l_list.length < 1073741824 ∧ ((∀ H' : AHeap, Grow H H' → K ((p_impl_BitsUntil l_list plane).1) ((p_impl_BitsUntil l_list plane).2) H'))) : T_impl_BitsUntil list_a list_n list_e plane H K := h

/-! impl_BitsUntil: function 50 -/
def E_impl_BitsUntil : Env := envOf [(66, S_impl_AreIntegers), (53, S_impl_within), (70, S_impl_planesFor), (75, S_impl_codeUntil)]
def F_impl_BitsUntil : List Value → AHeap → (Value → AHeap → Prop) → Prop
  | [.slice list_a list_n list_e, .int .i64 plane], H, K => T_impl_BitsUntil list_a list_n list_e plane H fun (r1 : Int) (r2 : Bool) (H' : AHeap) => K (.tuple #[.int .i64 r1, .bool r2]) H'
  | _, _, _ => False
def S_impl_BitsUntil : FSpec := { F := F_impl_BitsUntil, quiet := false, tame := true }
theorem impl_BitsUntil_vc (list_a : Option Addr) (list_n : Nat) (list_e : Nat) (plane : Int) (H : AHeap) (K : Value → AHeap → Prop) : bodyK Try.prog E_impl_BitsUntil Try.f50 [.slice list_a list_n list_e, .int .i64 plane] H K =
  (T_impl_AreIntegers list_a list_n list_e H fun (r1 : Bool) (H1 : AHeap) => Br (!r1) (K (.tuple #[.int .i64 0, .bool false]) H1) (T_impl_within plane 0 24 H1 fun (r2 : Bool) (H2 : AHeap) => Br (!r2) (K (.tuple #[.int .i64 0, .bool false]) H2) (T_impl_planesFor list_a list_n list_e H2 fun (r3 : Int) (H3 : AHeap) => T_impl_codeUntil list_a list_n list_e r3 plane H3 fun (a1 : Option Addr) (r4 : Nat) (r5 : Nat) (H4 : AHeap) => K (.tuple #[.int .i64 (r4 : Int), .bool true]) H4))) := by kernel_rfl
theorem E_impl_BitsUntil_ok : ∀ g, FnOk Try.prog g (E_impl_BitsUntil g) := FnOk.envOf (by
  intro x hx
  simp only [List.mem_cons, List.not_mem_nil, or_false] at hx
  rcases hx with rfl | rfl | rfl | rfl
  · exact impl_AreIntegers_ok
  · exact impl_within_ok
  · exact impl_planesFor_ok
  · exact impl_codeUntil_ok)
set_option maxHeartbeats 1000000 in
theorem impl_BitsUntil_main (list_a : Option Addr) (list_n : Nat) (list_e : Nat) (plane : Int) (H : AHeap) (K : Value → AHeap → Prop) (h : T_impl_BitsUntil list_a list_n list_e plane H fun (r1 : Int) (r2 : Bool) (H' : AHeap) => K (.tuple #[.int .i64 r1, .bool r2]) H') : bodyK Try.prog E_impl_BitsUntil Try.f50 [.slice list_a list_n list_e, .int .i64 plane] H K := by
  rw [impl_BitsUntil_vc]
  obtain ⟨l_list, i_list, bd_15, hk⟩ := h
  obtain rfl := i_list.eqn
  have e : (p_impl_BitsUntil l_list plane) = _ := rfl
  have e := e.trans (p_impl_BitsUntil_eq l_list plane)
  have g0 := Grow.refl H
  refine T_impl_AreIntegers_i ⟨_, (i_list.grow g0), (by first | omega | (simp only [List.length_set, List.length_replicate, List.length_append, List.length_cons, List.length_nil, List.length_take, List.length_drop, marks_length]; done) | (simp only [List.length_set, List.length_replicate, List.length_append, List.length_cons, List.length_nil, List.length_take, List.length_drop, marks_length]; omega)), ?_⟩
  refine Br.intro (fun c_1 => ?_) (fun c_1 => ?_)
  · have e := e.trans (cond_t c_1)
    have c_1n := nf_of_t c_1
    rw [e] at hk
    exact hk  H g0 
  · have e := e.trans (cond_f c_1)
    have c_1n := nt_of_f c_1
    have c_1n' := impl_int_t c_1n
    refine T_impl_within_i ?_
    refine Br.intro (fun c_2 => ?_) (fun c_2 => ?_)
    · have e := e.trans (cond_t c_2)
      have c_2n := nf_of_t c_2
      rw [e] at hk
      exact hk  H g0 
    · have e := e.trans (cond_f c_2)
      have c_2n := nt_of_f c_2
      have c_2n' := impl_within_t c_2n
      refine T_impl_planesFor_i ⟨_, (i_list.grow g0), (by first | omega | (simp only [List.length_set, List.length_replicate, List.length_append, List.length_cons, List.length_nil, List.length_take, List.length_drop, marks_length]; done) | (simp only [List.length_set, List.length_replicate, List.length_append, List.length_cons, List.length_nil, List.length_take, List.length_drop, marks_length]; omega)), ?_⟩
      have z_3 := impl_planesFor_rng l_list
      refine T_impl_codeUntil_i ⟨_, (i_list.grow g0), (by first | omega | (simp only [List.length_set, List.length_replicate, List.length_append, List.length_cons, List.length_nil, List.length_take, List.length_drop, marks_length]; done) | (simp only [List.length_set, List.length_replicate, List.length_append, List.length_cons, List.length_nil, List.length_take, List.length_drop, marks_length]; omega)), (by first | assumption | omega | (simp; omega)), (by first | assumption | omega | (simp; omega)), (by first | assumption | omega | (simp; omega)), (by first | assumption | omega | (simp; omega)), fun a_4 n_5 e_6 H_1 g_8 r_7 => ?_⟩
      have l_9 := g_8.1
      have g_10 := g0.trans g_8
      have l_11 := g_10.1
      obtain rfl := r_7.isL.eqn
      have u_12 := r_7.up
      have u_13 := r_7.lo
      rw [e] at hk
      exact hk  H_1 g_10 
theorem impl_BitsUntil_ok : FnOk Try.prog 50 S_impl_BitsUntil := by
  refine FnOk.body mix_ok E_impl_BitsUntil_ok Try.func50 rfl (by kernel_rfl) (by kernel_rfl) ?_ ?_ ?_ ?_ ?_
  · intro args H K K' h hk
    simp only [S_impl_BitsUntil] at *
    unfold F_impl_BitsUntil at *
    split at hk
    · obtain ⟨l_list, i_list, bd_15, k⟩ := hk
      exact ⟨l_list, i_list, bd_15, (fun  H' gg  => h _ _ (k  H' gg ))⟩
    · exact hk.elim
  · intro hq; cases hq
  · intro args H K hk
    simp only [S_impl_BitsUntil] at *
    unfold F_impl_BitsUntil at *
    split at hk
    · obtain ⟨l_list, i_list, bd_15, k⟩ := hk
      exact ⟨_, _, k H (Grow.refl H)⟩
    · exact hk.elim
  · intro _ args H K hk
    simp only [S_impl_BitsUntil] at *
    unfold F_impl_BitsUntil at *
    split at hk
    · obtain ⟨l_list, i_list, bd_15, k⟩ := hk
      exact ⟨l_list, i_list, bd_15, (fun  H' gg  => ⟨gg, k  H' gg ⟩)⟩
    · exact hk.elim
  · have mm := @impl_BitsUntil_main
    revert mm
    generalize bodyK Try.prog E_impl_BitsUntil Try.f50 = Q
    intro mm args H K hk
    simp only [S_impl_BitsUntil] at *
    unfold F_impl_BitsUntil at *
    split at hk
    · exact mm _ _ _ _ H K hk
    · exact hk.elim
def p_laws_eqInt64S_l1 (l_a : List Int) (l_b : List Int) : Nat → Bool → Int → Bool
  | 0, _, _ => false
  | μ + 1, t4, i => (bif decide ((i : Int) < (l_a.length : Int)) then (bif (((l_a).getD (i : Int).toNat 0) : Int) != ((l_b).getD (i : Int).toNat 0) then false else (p_laws_eqInt64S_l1 l_a l_b μ t4 (i + 1))) else true)
theorem p_laws_eqInt64S_l1_s (l_a : List Int) (l_b : List Int) (μ : Nat) (t4 : Bool) (i : Int) : p_laws_eqInt64S_l1 l_a l_b (μ + 1) t4 i = (bif decide ((i : Int) < (l_a.length : Int)) then (bif (((l_a).getD (i : Int).toNat 0) : Int) != ((l_b).getD (i : Int).toNat 0) then false else (p_laws_eqInt64S_l1 l_a l_b μ t4 (i + 1))) else true) := rfl
def p_laws_eqInt64S (l_a : List Int) (l_b : List Int) : Bool := ((bif ((l_a.length : Int) : Int) != (l_b.length : Int) then false else (p_laws_eqInt64S_l1 l_a l_b (Int.toNat ((l_a.length : Int) - (0 : Int)) + 1) false (0 : Int))))
theorem p_laws_eqInt64S_eq (l_a : List Int) (l_b : List Int) : p_laws_eqInt64S l_a l_b = ((bif ((l_a.length : Int) : Int) != (l_b.length : Int) then false else (p_laws_eqInt64S_l1 l_a l_b (Int.toNat ((l_a.length : Int) - (0 : Int)) + 1) false (0 : Int)))) := rfl
def T_laws_eqInt64S (a_a : Option Addr) (a_n : Nat) (a_e : Nat) (b_a : Option Addr) (b_n : Nat) (b_e : Nat) (H : AHeap) (K : Bool → AHeap → Prop) : Prop := ∃ (l_a : List Int), ∃ (l_b : List Int), IsL fI H a_a a_n l_a ∧ IsL fI H b_a b_n l_b ∧ l_a.length < 1073741824 ∧ l_b.length < 1073741824 ∧ K (p_laws_eqInt64S l_a l_b) H
theorem T_laws_eqInt64S_i {a_a : Option Addr} {a_n : Nat} {a_e : Nat} {b_a : Option Addr} {b_n : Nat} {b_e : Nat} {H : AHeap} {K : Bool → AHeap → Prop} (h : ∃ (l_a : List Int), ∃ (l_b : List Int), IsL fI H a_a a_n l_a ∧ IsL fI H b_a b_n l_b ∧ l_a.length < 1073741824 ∧ l_b.length < 1073741824 ∧ K (p_laws_eqInt64S l_a l_b) H) : T_laws_eqInt64S a_a a_n a_e b_a b_n b_e H K := h
theorem laws_eqInt64S_go (l : List Int) : ∀ (μ : Nat) (t : Bool) (i : Nat), l.length - i < μ → p_laws_eqInt64S_l1 l l μ t (i : Int) = true := by
  intro μ
  induction μ with
  | zero => intro t i h; omega
  | succ μ ih =>
    intro t i hm
    rw [p_laws_eqInt64S_l1_s]
    by_cases h : i < l.length
    · rw [decide_eq_true (show (i : Int) < (l.length : Int) by omega), cond_true]
      simp only [bne_self_eq_false, cond_false]
      exact ih t (i + 1) (by omega)
    · rw [decide_eq_false (show ¬ (i : Int) < (l.length : Int) by omega), cond_false]
theorem laws_eqInt64S_self (l : List Int) : p_laws_eqInt64S l l = true := by
  rw [p_laws_eqInt64S_eq]
  have h0 : ((l.length : Int) != (l.length : Int)) = false := by simp
  rw [h0, cond_false]
  exact laws_eqInt64S_go l _ false 0 (by omega)
/-! laws_eqInt64S: function 35 -/
def E_laws_eqInt64S : Env := envOf []
def F_laws_eqInt64S : List Value → AHeap → (Value → AHeap → Prop) → Prop
  | [.slice a_a a_n a_e, .slice b_a b_n b_e], H, K => T_laws_eqInt64S a_a a_n a_e b_a b_n b_e H fun (r1 : Bool) (H' : AHeap) => K (.bool r1) H'
  | _, _, _ => False
def S_laws_eqInt64S : FSpec := { F := F_laws_eqInt64S, quiet := true, tame := false }
theorem laws_eqInt64S_vc (a_a : Option Addr) (a_n : Nat) (a_e : Nat) (b_a : Option Addr) (b_n : Nat) (b_e : Nat) (H : AHeap) (K : Value → AHeap → Prop) : bodyK Try.prog E_laws_eqInt64S Try.f35 [.slice a_a a_n a_e, .slice b_a b_n b_e] H K =
  (Br (((a_n : Int) : Int) != (b_n : Int)) (K (.bool false) H) (loopK (exK Try.prog E_laws_eqInt64S (cl (cl (cr (cl (cr (cr (bodyC Try.f35)))))))) [.slice a_a a_n a_e, .slice b_a b_n b_e, undef, undef, .bool false, .int .i64 0, .slice a_a a_n a_e, .int .i64 (a_n : Int), .slice b_a b_n b_e, .int .i64 (b_n : Int), .bool (((a_n : Int) : Int) != (b_n : Int)), undef, undef, undef, undef, undef, undef, undef, undef, undef, undef, undef, undef, undef, undef, undef] H (blockQ 0 (seqQ (exK Try.prog E_laws_eqInt64S (cr (cr (cr (bodyC Try.f35))))) (retK Try.prog Try.f35 K))))) := by kernel_rfl
theorem laws_eqInt64S_r1 (a_a : Option Addr) (a_e : Nat) (a_n : Nat) (b_a : Option Addr) (b_e : Nat) (b_n : Nat) (t4 : Bool) (i : Int) (g11 g12 g13 g14 g15 g16 g17 g18 g19 g20 g21 g22 g23 g24 g25 : Value) (H : AHeap) (R : Post) : exK Try.prog E_laws_eqInt64S (cl (cl (cr (cl (cr (cr (bodyC Try.f35))))))) [.slice a_a a_n a_e, .slice b_a b_n b_e, undef, undef, .bool t4, .int .i64 i, .slice a_a a_n a_e, .int .i64 (a_n : Int), .slice b_a b_n b_e, .int .i64 (b_n : Int), .bool (((a_n : Int) : Int) != (b_n : Int)), g11, g12, g13, g14, g15, g16, g17, g18, g19, g20, g21, g22, g23, g24, g25] H R =
  (Br (decide ((i : Int) < (a_n : Int))) ((0 : Int) ≤ i ∧ i < (a_n : Int) ∧ ∃ b1 f1, (a_a : Option Addr) = some ⟨b1, f1, none⟩ ∧ ∃ x1 : Int,  rdC H b1 (f1 + (i : Int).toNat * 1) = some (.int .i64 x1) ∧ (0 : Int) ≤ i ∧ i < (b_n : Int) ∧ ∃ b2 f2, (b_a : Option Addr) = some ⟨b2, f2, none⟩ ∧ ∃ x2 : Int,  rdC H b2 (f2 + (i : Int).toNat * 1) = some (.int .i64 x2) ∧ Br ((x1 : Int) != x2) (R .ret [.slice a_a a_n a_e, .slice b_a b_n b_e, undef, undef, .bool false, .int .i64 i, .slice a_a a_n a_e, .int .i64 (a_n : Int), .slice b_a b_n b_e, .int .i64 (b_n : Int), .bool (((a_n : Int) : Int) != (b_n : Int)), .int .i64 i, .slice a_a a_n a_e, .int .i64 (a_n : Int), .bool (decide ((i : Int) < (a_n : Int))), g15, g16, .slice a_a a_n a_e, .int .i64 i, .pointer (some ⟨b1, f1 + (i : Int).toNat * 1, none⟩), .int .i64 x1, .slice b_a b_n b_e, .int .i64 i, .pointer (some ⟨b2, f2 + (i : Int).toNat * 1, none⟩), .int .i64 x2, .bool ((x1 : Int) != x2)] H) (R .normal [.slice a_a a_n a_e, .slice b_a b_n b_e, undef, undef, .bool t4, .int .i64 (IntKind.wrap .i64 (i + 1)), .slice a_a a_n a_e, .int .i64 (a_n : Int), .slice b_a b_n b_e, .int .i64 (b_n : Int), .bool (((a_n : Int) : Int) != (b_n : Int)), .int .i64 i, .slice a_a a_n a_e, .int .i64 (a_n : Int), .bool (decide ((i : Int) < (a_n : Int))), .int .i64 i, .int .i64 (IntKind.wrap .i64 (i + 1)), .slice a_a a_n a_e, .int .i64 i, .pointer (some ⟨b1, f1 + (i : Int).toNat * 1, none⟩), .int .i64 x1, .slice b_a b_n b_e, .int .i64 i, .pointer (some ⟨b2, f2 + (i : Int).toNat * 1, none⟩), .int .i64 x2, .bool ((x1 : Int) != x2)] H)) (R (.exit 0) [.slice a_a a_n a_e, .slice b_a b_n b_e, undef, undef, .bool t4, .int .i64 i, .slice a_a a_n a_e, .int .i64 (a_n : Int), .slice b_a b_n b_e, .int .i64 (b_n : Int), .bool (((a_n : Int) : Int) != (b_n : Int)), .int .i64 i, .slice a_a a_n a_e, .int .i64 (a_n : Int), .bool (decide ((i : Int) < (a_n : Int))), g15, g16, g17, g18, g19, g20, g21, g22, g23, g24, g25] H)) := by kernel_rfl
def laws_eqInt64S_I1 (a_a : Option Addr) (a_e : Nat) (a_n : Nat) (b_a : Option Addr) (b_e : Nat) (b_n : Nat) (Inv : Nat → Bool → Int → AHeap → Prop) : Nat → List Value → AHeap → Prop := fun μ tm H => ∃ (t4 : Bool), ∃ (i : Int), ∃ g11 g12 g13 g14 g15 g16 g17 g18 g19 g20 g21 g22 g23 g24 g25, tm = [.slice a_a a_n a_e, .slice b_a b_n b_e, undef, undef, .bool t4, .int .i64 i, .slice a_a a_n a_e, .int .i64 (a_n : Int), .slice b_a b_n b_e, .int .i64 (b_n : Int), .bool (((a_n : Int) : Int) != (b_n : Int)), g11, g12, g13, g14, g15, g16, g17, g18, g19, g20, g21, g22, g23, g24, g25] ∧ Inv μ t4 i H
theorem laws_eqInt64S_L1 (a_a : Option Addr) (a_e : Nat) (a_n : Nat) (b_a : Option Addr) (b_e : Nat) (b_n : Nat) {Q : Post} (Inv : Nat → Bool → Int → AHeap → Prop) (ν : Nat) (t4 : Bool) (i : Int) (g11 g12 g13 g14 g15 g16 g17 g18 g19 g20 g21 g22 g23 g24 g25 : Value) (H : AHeap) (h0 : Inv ν t4 i H)
    (hs : ∀ (μ : Nat) (t4 : Bool) (i : Int) (g11 g12 g13 g14 g15 g16 g17 g18 g19 g20 g21 g22 g23 g24 g25 : Value) (H : AHeap), Inv μ t4 i H → exK Try.prog E_laws_eqInt64S (cl (cl (cr (cl (cr (cr (bodyC Try.f35))))))) [.slice a_a a_n a_e, .slice b_a b_n b_e, undef, undef, .bool t4, .int .i64 i, .slice a_a a_n a_e, .int .i64 (a_n : Int), .slice b_a b_n b_e, .int .i64 (b_n : Int), .bool (((a_n : Int) : Int) != (b_n : Int)), g11, g12, g13, g14, g15, g16, g17, g18, g19, g20, g21, g22, g23, g24, g25] H (loopQ (laws_eqInt64S_I1 a_a a_e a_n b_a b_e b_n Inv) μ Q)) : loopK (exK Try.prog E_laws_eqInt64S (cl (cl (cr (cl (cr (cr (bodyC Try.f35)))))))) [.slice a_a a_n a_e, .slice b_a b_n b_e, undef, undef, .bool t4, .int .i64 i, .slice a_a a_n a_e, .int .i64 (a_n : Int), .slice b_a b_n b_e, .int .i64 (b_n : Int), .bool (((a_n : Int) : Int) != (b_n : Int)), g11, g12, g13, g14, g15, g16, g17, g18, g19, g20, g21, g22, g23, g24, g25] H Q :=
  ⟨laws_eqInt64S_I1 a_a a_e a_n b_a b_e b_n Inv, ν, ⟨t4, i, g11, g12, g13, g14, g15, g16, g17, g18, g19, g20, g21, g22, g23, g24, g25, rfl, h0⟩, fun μ tm H h => by obtain ⟨t4, i, g11, g12, g13, g14, g15, g16, g17, g18, g19, g20, g21, g22, g23, g24, g25, rfl, hI⟩ := h; exact hs μ t4 i g11 g12 g13 g14 g15 g16 g17 g18 g19 g20 g21 g22 g23 g24 g25 H hI⟩
theorem laws_eqInt64S_n1 {a_a : Option Addr} {a_e : Nat} {a_n : Nat} {b_a : Option Addr} {b_e : Nat} {b_n : Nat} {Q : Post} {Inv : Nat → Bool → Int → AHeap → Prop} {μ : Nat} (μ' : Nat) {t4 : Bool} {i : Int} {g11 g12 g13 g14 g15 g16 g17 g18 g19 g20 g21 g22 g23 g24 g25 : Value} {H : AHeap} (hm : μ' < μ) (hI : Inv μ' t4 i H) : loopQ (laws_eqInt64S_I1 a_a a_e a_n b_a b_e b_n Inv) μ Q .normal [.slice a_a a_n a_e, .slice b_a b_n b_e, undef, undef, .bool t4, .int .i64 i, .slice a_a a_n a_e, .int .i64 (a_n : Int), .slice b_a b_n b_e, .int .i64 (b_n : Int), .bool (((a_n : Int) : Int) != (b_n : Int)), g11, g12, g13, g14, g15, g16, g17, g18, g19, g20, g21, g22, g23, g24, g25] H := ⟨μ', hm, t4, i, g11, g12, g13, g14, g15, g16, g17, g18, g19, g20, g21, g22, g23, g24, g25, rfl, hI⟩
theorem laws_eqInt64S_x1_0 (a_a : Option Addr) (a_e : Nat) (a_n : Nat) (b_a : Option Addr) (b_e : Nat) (b_n : Nat) (t4 : Bool) (i : Int) (g11 g12 g13 g14 g15 g16 g17 g18 g19 g20 g21 g22 g23 g24 g25 : Value) (H : AHeap) (K : Value → AHeap → Prop)  {I : Nat → List Value → AHeap → Prop} {μ : Nat} : loopQ I μ (blockQ 0 (seqQ (exK Try.prog E_laws_eqInt64S (cr (cr (cr (bodyC Try.f35))))) (retK Try.prog Try.f35 K))) (.exit 0) [.slice a_a a_n a_e, .slice b_a b_n b_e, undef, undef, .bool t4, .int .i64 i, .slice a_a a_n a_e, .int .i64 (a_n : Int), .slice b_a b_n b_e, .int .i64 (b_n : Int), .bool (((a_n : Int) : Int) != (b_n : Int)), g11, g12, g13, g14, g15, g16, g17, g18, g19, g20, g21, g22, g23, g24, g25] H =
  (K (.bool true) H) := by kernel_rfl
theorem laws_eqInt64S_x1_ret (a_a : Option Addr) (a_e : Nat) (a_n : Nat) (b_a : Option Addr) (b_e : Nat) (b_n : Nat) (t4 : Bool) (i : Int) (g11 g12 g13 g14 g15 g16 g17 g18 g19 g20 g21 g22 g23 g24 g25 : Value) (H : AHeap) (K : Value → AHeap → Prop)  {I : Nat → List Value → AHeap → Prop} {μ : Nat} : loopQ I μ (blockQ 0 (seqQ (exK Try.prog E_laws_eqInt64S (cr (cr (cr (bodyC Try.f35))))) (retK Try.prog Try.f35 K))) .ret [.slice a_a a_n a_e, .slice b_a b_n b_e, undef, undef, .bool t4, .int .i64 i, .slice a_a a_n a_e, .int .i64 (a_n : Int), .slice b_a b_n b_e, .int .i64 (b_n : Int), .bool (((a_n : Int) : Int) != (b_n : Int)), g11, g12, g13, g14, g15, g16, g17, g18, g19, g20, g21, g22, g23, g24, g25] H =
  (K (.bool t4) H) := by kernel_rfl
theorem E_laws_eqInt64S_ok : ∀ g, FnOk Try.prog g (E_laws_eqInt64S g) := FnOk.envOf (by
  intro x hx; cases hx)
set_option maxHeartbeats 1000000 in
theorem laws_eqInt64S_main (a_a : Option Addr) (a_n : Nat) (a_e : Nat) (b_a : Option Addr) (b_n : Nat) (b_e : Nat) (H : AHeap) (K : Value → AHeap → Prop) (h : T_laws_eqInt64S a_a a_n a_e b_a b_n b_e H fun (r1 : Bool) (H' : AHeap) => K (.bool r1) H') : bodyK Try.prog E_laws_eqInt64S Try.f35 [.slice a_a a_n a_e, .slice b_a b_n b_e] H K := by
  rw [laws_eqInt64S_vc]
  obtain ⟨l_a, l_b, i_a, i_b, bd_13, bd_14, hk⟩ := h
  obtain rfl := i_a.eqn
  obtain rfl := i_b.eqn
  have e : (p_laws_eqInt64S l_a l_b) = _ := rfl
  have e := e.trans (p_laws_eqInt64S_eq l_a l_b)
  have g0 := Grow.refl H
  refine Br.intro (fun c_1 => ?_) (fun c_1 => ?_)
  · have e := e.trans (cond_t c_1)
    have c_1' := ine_t c_1
    rw [e] at hk
    exact hk
  · have e := e.trans (cond_f c_1)
    have c_1' := ine_f c_1
    refine laws_eqInt64S_L1 _ _ _ _ _ _ (fun (μ : Nat) (t4 : Bool) (i : Int) (H_1 : AHeap) => H = H_1 ∧ (0 : Int) ≤ i ∧ i ≤ (l_a.length : Int) ∧ (l_a.length : Int) - i ≤ (μ : Int) ∧ p_laws_eqInt64S l_a l_b = p_laws_eqInt64S_l1 l_a l_b (μ + 1) t4 i) (Int.toNat ((l_a.length : Int) - (0 : Int))) _ _ _ _ _ _ _ _ _ _ _ _ _ _ _ _ _ H ?_ ?_
    · exact ⟨rfl, (by first | omega | (simp; done) | (simp; omega)), (by first | omega | (simp; done) | (simp; omega)), (by omega), e⟩
    · intro μ t4 i g11 g12 g13 g14 g15 g16 g17 g18 g19 g20 g21 g22 g23 g24 g25 H_1 hI
      obtain ⟨rfl, v_2, v_3, hμ, e⟩ := hI
      rw [laws_eqInt64S_r1]
      have e := e.trans (p_laws_eqInt64S_l1_s l_a l_b μ t4 i)
      have l_4 := g0.1
      refine Br.intro (fun c_5 => ?_) (fun c_5 => ?_)
      · have e := e.trans (cond_t c_5)
        have c_5' := of_decide_eq_true c_5
        obtain ⟨b_6, f_7, q_8⟩ := ((i_a.grow g0)).pos (by first | omega | (simp only [List.length_set, List.length_replicate, List.length_append, List.length_cons, List.length_nil, List.length_take, List.length_drop, marks_length]; done) | (simp only [List.length_set, List.length_replicate, List.length_append, List.length_cons, List.length_nil, List.length_take, List.length_drop, marks_length]; omega))
        refine ⟨by omega, by omega, b_6, f_7, q_8, ?_⟩
        refine ⟨((l_a).getD (i : Int).toNat 0), (i_a).rd g0 q_8 (by omega) _, ?_⟩
        obtain ⟨b_9, f_10, q_11⟩ := ((i_b.grow g0)).pos (by first | omega | (simp only [List.length_set, List.length_replicate, List.length_append, List.length_cons, List.length_nil, List.length_take, List.length_drop, marks_length]; done) | (simp only [List.length_set, List.length_replicate, List.length_append, List.length_cons, List.length_nil, List.length_take, List.length_drop, marks_length]; omega))
        refine ⟨by omega, by omega, b_9, f_10, q_11, ?_⟩
        refine ⟨((l_b).getD (i : Int).toNat 0), (i_b).rd g0 q_11 (by omega) _, ?_⟩
        refine Br.intro (fun c_12 => ?_) (fun c_12 => ?_)
        · have e := e.trans (cond_t c_12)
          have c_12' := ine_t c_12
          rw [laws_eqInt64S_x1_ret]
          rw [e] at hk
          exact hk
        · have e := e.trans (cond_f c_12)
          have c_12' := ine_f c_12
          rw [show IntKind.wrap .i64 (i + 1) = (i + 1) from wrap64 (by omega) (by omega)]
          refine laws_eqInt64S_n1 (μ - 1) (by first | omega) ⟨rfl, (by first | omega | (simp only [List.length_append, List.length_cons, List.length_nil, List.length_set]; done) | (simp only [List.length_append, List.length_cons, List.length_nil, List.length_set]; omega)), (by first | omega | (simp only [List.length_append, List.length_cons, List.length_nil, List.length_set]; done) | (simp only [List.length_append, List.length_cons, List.length_nil, List.length_set]; omega)), (by first | omega), (by rw [show μ - 1 + 1 = μ from by first | omega]; exact e)⟩
      · have e := e.trans (cond_f c_5)
        have c_5' := of_decide_eq_false c_5
        rw [laws_eqInt64S_x1_0]
        rw [e] at hk
        exact hk
theorem laws_eqInt64S_ok : FnOk Try.prog 35 S_laws_eqInt64S := by
  refine FnOk.body mix_ok E_laws_eqInt64S_ok Try.func35 rfl (by kernel_rfl) (by kernel_rfl) ?_ ?_ ?_ ?_ ?_
  · intro args H K K' h hk
    simp only [S_laws_eqInt64S] at *
    unfold F_laws_eqInt64S at *
    split at hk
    · obtain ⟨l_a, l_b, i_a, i_b, bd_13, bd_14, k⟩ := hk
      exact ⟨l_a, l_b, i_a, i_b, bd_13, bd_14, h _ _ k⟩
    · exact hk.elim
  · intro _ args H K hk
    simp only [S_laws_eqInt64S] at *
    unfold F_laws_eqInt64S at *
    split at hk
    · obtain ⟨l_a, l_b, i_a, i_b, bd_13, bd_14, k⟩ := hk
      exact ⟨_, k, fun K' k' => ⟨l_a, l_b, i_a, i_b, bd_13, bd_14, k'⟩⟩
    · exact hk.elim
  · intro args H K hk
    simp only [S_laws_eqInt64S] at *
    unfold F_laws_eqInt64S at *
    split at hk
    · obtain ⟨l_a, l_b, i_a, i_b, bd_13, bd_14, k⟩ := hk
      exact ⟨_, _, k⟩
    · exact hk.elim
  · intro hq; cases hq
  · have mm := @laws_eqInt64S_main
    revert mm
    generalize bodyK Try.prog E_laws_eqInt64S Try.f35 = Q
    intro mm args H K hk
    simp only [S_laws_eqInt64S] at *
    unfold F_laws_eqInt64S at *
    split at hk
    · exact mm _ _ _ _ _ _ H K hk
    · exact hk.elim
def p_laws_FnExactBitsUntil (l_aList : List Int) (aPlane : Int) : Bool := ((bif decide ((1048576 : Int) < (l_aList.length : Int)) then true else (bif ((p_impl_BitsUntil l_aList aPlane).1 : Int) != (p_spec_BitsUntil l_aList aPlane).1 then false else (bif !(((p_impl_BitsUntil l_aList aPlane).2) == ((p_spec_BitsUntil l_aList aPlane).2)) then false else (bif !(p_laws_eqInt64S l_aList l_aList) then false else true)))))
theorem p_laws_FnExactBitsUntil_eq (l_aList : List Int) (aPlane : Int) : p_laws_FnExactBitsUntil l_aList aPlane = ((bif decide ((1048576 : Int) < (l_aList.length : Int)) then true else (bif ((p_impl_BitsUntil l_aList aPlane).1 : Int) != (p_spec_BitsUntil l_aList aPlane).1 then false else (bif !(((p_impl_BitsUntil l_aList aPlane).2) == ((p_spec_BitsUntil l_aList aPlane).2)) then false else (bif !(p_laws_eqInt64S l_aList l_aList) then false else true))))) := rfl
def T_laws_FnExactBitsUntil (aList_a : Option Addr) (aList_n : Nat) (aList_e : Nat) (aPlane : Int) (H : AHeap) (K : Bool → AHeap → Prop) : Prop := ∃ l_aList : List Int, IsL fI H aList_a aList_n l_aList ∧ (∀ y ∈ l_aList, I64 y) ∧ l_aList.length ≤ 9223372036854775807 ∧ I64 aPlane ∧ ∀ H' : AHeap, K true H'
theorem far_same {n : Int} (h : I64 n) : p_impl_far n = p_spec_l06Abs n := by
  unfold p_impl_far p_spec_l06Abs
  unfold I64 at h
  by_cases h0 : n < 0
  · rw [decide_eq_true h0, cond_true]
    by_cases hm : n = -9223372036854775808
    · subst hm; decide +kernel
    · rw [wrap64 (by omega) (by omega), if_pos (by omega)]
  · rw [decide_eq_false h0, cond_false, wrap64 (by omega) (by omega), if_neg (by omega)]
theorem within_go (l : List Int) (m : Int) : ∀ (μ : Nat) (t : Bool) (i : Int), p_impl_areWithin_l1 l m μ t i = p_spec_l02Bound_l1 l m μ t i := by
  intro μ
  induction μ with
  | zero => intro t i; rfl
  | succ μ ih => intro t i; rw [p_impl_areWithin_l1_s, p_spec_l02Bound_l1_s, ih]; rfl
theorem integers_same (l : List Int) : p_impl_AreIntegers l = p_spec_l02Integers l := by
  rw [p_impl_AreIntegers_eq, p_spec_l02Integers_eq, p_impl_areWithin_eq, p_spec_l02Bound_eq, within_go]
  unfold p_impl_within
  cases decide ((1 : Int) ≤ (l.length : Int)) <;> cases decide (((l.length : Int) : Int) ≤ 128) <;> rfl
def bl (a : Nat) : Nat := if a = 0 then 0 else a.log2 + 1
theorem bl_lt (k a : Nat) : k < bl a ↔ 2 ^ k ≤ a := by
  unfold bl
  by_cases h : a = 0
  · subst h
    have := Nat.two_pow_pos k
    rw [if_pos rfl]; omega
  · rw [if_neg h, ← Nat.le_log2 h]; omega
theorem bl_max (a b : Nat) : bl (max a b) = max (bl a) (bl b) := by
  have h : ∀ k, k < bl (max a b) ↔ k < max (bl a) (bl b) := by
    intro k
    have h1 := bl_lt k (max a b)
    have h2 := bl_lt k a
    have h3 := bl_lt k b
    generalize 2 ^ k = p at *
    omega
  have h1 := h (bl (max a b))
  have h2 := h (max (bl a) (bl b))
  omega
theorem bl_le {a : Nat} (h : a ≤ 1000000) : bl a ≤ 20 := by
  have := bl_lt 20 a
  rw [show (2 : Nat) ^ 20 = 1048576 from rfl] at this
  omega
theorem pl_cond {a n : Nat} (hn : n ≤ 20) : (Int.fdiv (a : Int) (2 ^ (min (IntKind.wrap .u64 (n : Int) : Int).toNat (IntKind.bits .i64))) != 0) = decide (n < bl a) := by
  rw [wrapu_id (by omega) (by omega), Int.toNat_natCast, show min n (IntKind.bits .i64) = n from by rw [show IntKind.bits .i64 = 64 from rfl]; omega, show ((2 : Int) ^ n) = ((2 ^ n : Nat) : Int) by simp, Int.fdiv_eq_ediv_of_nonneg _ (Int.natCast_nonneg _)]
  have hb := bl_lt n a
  have hp := Nat.two_pow_pos n
  generalize 2 ^ n = p at *
  rw [← Int.natCast_ediv]
  by_cases c : n < bl a
  · have h1 : 1 ≤ a / p := (Nat.one_le_div_iff hp).2 (hb.1 c)
    rw [decide_eq_true c]
    exact bne_iff_ne.2 (by omega)
  · have h1 : a / p = 0 := Nat.div_eq_of_lt (by omega)
    rw [decide_eq_false c, h1]; rfl
theorem tab_chk : ((List.range 256).all fun y => (sAt math_bits_Len64_tab y).toNat == bl y) = true := by decide +kernel
theorem tab_at {y : Nat} (h : y < 256) : (sAt math_bits_Len64_tab y).toNat = bl y := by
  have := List.all_eq_true.1 tab_chk y (List.mem_range.2 h)
  exact eq_of_beq this
theorem bl_div (x k : Nat) (h : 2 ^ k ≤ x) : bl x = k + bl (x / 2 ^ k) := by
  have g : ∀ j, j < bl (x / 2 ^ k) ↔ k + j < bl x := by
    intro j
    have h1 := bl_lt j (x / 2 ^ k)
    have h2 := bl_lt (k + j) x
    rw [h1, h2, Nat.pow_add, Nat.le_div_iff_mul_le (Nat.two_pow_pos k), Nat.mul_comm]
  have h0 := (bl_lt k x).2 h
  have g1 := g (bl (x / 2 ^ k))
  have g2 := g (bl x - k)
  omega
theorem len_small {x : Nat} (h : x ≤ 1000000) : p_math_bits_Len64 (x : Int) = (bl x : Int) := by
  have hb := bl_le h
  have p16 : ((2 : Int) ^ (min (16 : Int).toNat (IntKind.bits .u64))) = 65536 := by decide
  have p8 : ((2 : Int) ^ (min (8 : Int).toNat (IntKind.bits .u64))) = 256 := by decide
  have w : ∀ n : Int, 0 ≤ n → n ≤ 255 → IntKind.wrap .u8 n = n := fun n a b => wrapU8 a b
  rw [p_math_bits_Len64_eq, decide_eq_false (show ¬ (4294967296 : Int) ≤ x by omega), cond_false, p16, p8]
  by_cases c1 : (65536 : Int) ≤ x
  · have d := bl_div x 16 (by rw [show (2 : Nat) ^ 16 = 65536 from rfl]; omega)
    rw [show (2 : Nat) ^ 16 = 65536 from rfl] at d
    have e : Int.fdiv (x : Int) 65536 = ((x / 65536 : Nat) : Int) := by rw [Int.fdiv_eq_ediv_of_nonneg _ (by decide)]; omega
    rw [decide_eq_true c1, cond_true, e, decide_eq_false (show ¬ (256 : Int) ≤ ((x / 65536 : Nat) : Int) by omega), cond_false, w _ (by omega) (by omega), Int.toNat_natCast, tab_at (by omega), wrap64 (n := (bl (x / 65536) : Int)) (by omega) (by omega), wrap64 (by omega) (by omega)]
    omega
  · rw [decide_eq_false c1, cond_false]
    by_cases c2 : (256 : Int) ≤ x
    · have d := bl_div x 8 (by rw [show (2 : Nat) ^ 8 = 256 from rfl]; omega)
      rw [show (2 : Nat) ^ 8 = 256 from rfl] at d
      have e : Int.fdiv (x : Int) 256 = ((x / 256 : Nat) : Int) := by rw [Int.fdiv_eq_ediv_of_nonneg _ (by decide)]; omega
      rw [decide_eq_true c2, cond_true, e, w _ (by omega) (by omega), Int.toNat_natCast, tab_at (by omega), wrap64 (n := (bl (x / 256) : Int)) (by omega) (by omega), wrap64 (by omega) (by omega)]
      omega
    · rw [decide_eq_false c2, cond_false, w _ (by omega) (by omega), Int.toNat_natCast, tab_at (by omega), wrap64 (n := (bl x : Int)) (by omega) (by omega), wrap64 (by omega) (by omega)]
      omega
theorem planes_l2 (l : List Int) (n0 : Int) (i : Int) (K : Int → Int) (a : Nat) (ha : a ≤ 1000000) (he : p_spec_l06Abs (l.getD (i : Int).toNat 0) = (a : Int)) : ∀ (μ n : Nat), n ≤ 20 → bl a - n < μ → p_spec_l06Planes_l2 l n0 i K μ (n : Int) = K ((max n (bl a) : Nat) : Int) := by
  intro μ
  have hb := bl_le ha
  induction μ with
  | zero => intro n _ h; omega
  | succ μ ih =>
    intro n hn h
    rw [p_spec_l06Planes_l2_s, he, pl_cond hn]
    by_cases c : n < bl a
    · have := ih (n + 1) (by omega) (by omega)
      rw [show ((n + 1 : Nat) : Int) = (n : Int) + 1 by omega] at this
      rw [decide_eq_true c, cond_true, this]
      congr 2; omega
    · rw [decide_eq_false c, cond_false, show max n (bl a) = n by omega]
theorem planes_go (l : List Int) (hr : ∀ j : Nat, -1000000 ≤ l.getD j 0 ∧ l.getD j 0 ≤ 1000000) : ∀ (μ m : Nat) (i : Int), m ≤ 1000000 → 0 < μ → p_impl_planesFor_l1 l μ (m : Int) i = p_spec_l06Planes_l1 l μ (bl m : Int) i ∨ ¬ ((l.length : Int) - i < μ) := by
  intro μ
  induction μ with
  | zero => intro m i _ h; omega
  | succ μ ih =>
    intro m i hm _
    rw [p_impl_planesFor_l1_s, p_spec_l06Planes_l1_s]
    by_cases c : i < (l.length : Int)
    · by_cases hμ : 0 < μ
      · have r := hr (i : Int).toNat
        have ab := spec_abs_rng r
        have hb := bl_le hm
        obtain ⟨a, ha⟩ : ∃ a : Nat, p_spec_l06Abs (l.getD (i : Int).toNat 0) = (a : Int) := ⟨_, ab.2.2⟩
        have l2 := planes_l2 l (bl m : Int) i (fun (n_3 : Int) => (p_spec_l06Planes_l1 l μ n_3 (i + 1))) a (by omega) ha (Int.toNat (64 - (bl m : Int)) + 1) (bl m) hb (by have := bl_le (a := a) (by omega); omega)
        rw [decide_eq_true c, cond_true, cond_true, l2, far_same (by unfold I64; omega), ha, ← bl_max]
        have e : (if (a : Int) > (m : Int) then (a : Int) else (m : Int)) = ((max m a : Nat) : Int) := by split <;> omega
        rw [e]
        rcases ih (max m a) (i + 1) (by omega) hμ with q | q
        · left; exact q
        · right; omega
      · right; omega
    · left
      rw [decide_eq_false c, cond_false, cond_false, wrapu_id (by omega) (by omega), len_small hm]
theorem planes_same {l : List Int} (h : p_spec_l02Integers l = true) : p_impl_planesFor l = p_spec_l06Planes l := by
  have hi := spec_int_t h
  rw [p_impl_planesFor_eq, p_spec_l06Planes_eq]
  rcases planes_go l hi.2.2 (Int.toNat ((l.length : Int) - (0 : Int)) + 1) 0 0 (by decide) (by omega) with q | q
  · exact q
  · omega
theorem digit_same {n plane : Int} (h : I64 n) (h0 : 0 ≤ plane) (h1 : plane ≤ 1000) : p_impl_digit n plane = p_spec_l06Digit n plane := by
  unfold p_impl_digit p_spec_l06Digit
  rw [far_same h, wrapu_id h0 (by omega)]
theorem i64_getD {l : List Int} (h : ∀ y ∈ l, I64 y) (i : Nat) : I64 (l.getD i 0) := by
  rw [List.getD_eq_getElem?_getD]
  cases hx : l[i]? with
  | none => exact ⟨by decide, by decide⟩
  | some y => exact h y (List.mem_of_getElem? hx)
theorem code_l2 (l : List Int) (hl : ∀ y ∈ l, I64 y) (plane k : Int) (h0 : 0 ≤ k) (h1 : k ≤ 63) (top last : Int) (vo : List Bool) (a b c d : Int) (o1 : List Bool) (Ks : Int → Int → Int → List Bool → Int × Int × List Bool) (Ki : List Bool → Int → List Bool) (hK : ∀ i q1 q2 o, (Ks i q1 q2 o).2.2 = Ki o i) :
    ∀ (μ : Nat) (o : List Bool) (i q1 q2 : Int), p_impl_codeUntil_l2 l top last vo k Ki μ o i = (p_spec_l06Code_l2 l plane k a b c d o1 Ks μ i q1 q2 o).2.2 := by
  intro μ
  induction μ with
  | zero => intro o i q1 q2; rfl
  | succ μ ih =>
    intro o i q1 q2
    rw [p_impl_codeUntil_l2_s, p_spec_l06Code_l2_s, digit_same (i64_getD hl _) h0 (by omega), far_same (i64_getD hl _), wrapu_id (n := k + 1) (by omega) (by omega)]
    cases decide (i < (l.length : Int)) with
    | false => exact (hK _ _ _ _).symm
    | true =>
      rw [cond_true, cond_true]
      cases p_spec_l06Digit (l.getD (i : Int).toNat 0) k with
      | false => exact ih _ _ _ _
      | true =>
        rw [cond_true, cond_true]
        cases (Int.fdiv (p_spec_l06Abs (l.getD (i : Int).toNat 0)) (2 ^ (min ((k + 1 : Int)).toNat (IntKind.bits .i64))) : Int) == 0 with
        | false => exact ih _ _ _ _
        | true => exact ih _ _ _ _
theorem code_l1 (l : List Int) (hl : ∀ y ∈ l, I64 y) (plane : Int) (h0 : 0 ≤ plane) (top : Int) : ∀ (μ : Nat) (o : List Bool) (k a b c d : Int), k ≤ 63 → p_impl_codeUntil_l1 l top plane μ o k = (p_spec_l06Code_l1 l plane μ k a b c d o).2.2 := by
  intro μ
  induction μ with
  | zero => intro o k a b c d _; rfl
  | succ μ ih =>
    intro o k a b c d hk
    rw [p_impl_codeUntil_l1_s, p_spec_l06Code_l1_s]
    by_cases hc : plane ≤ k
    · rw [decide_eq_true hc, cond_true, cond_true]
      exact code_l2 l hl plane k (by omega) hk top plane o a b c d o _ _ (fun i q1 q2 o' => (ih o' (k - 1) a b q1 q2 (by omega)).symm) _ _ _ _ _
    · rw [decide_eq_false hc, cond_false, cond_false]
theorem bits_same {l : List Int} (plane : Int) (hl : ∀ y ∈ l, I64 y) : p_impl_BitsUntil l plane = p_spec_BitsUntil l plane := by
  rw [p_impl_BitsUntil_eq, p_spec_BitsUntil_eq, integers_same]
  cases h : p_spec_l02Integers l with
  | false => rfl
  | true =>
    rw [planes_same h, Bool.not_true, cond_false, cond_false]
    show (bif !(p_spec_l06Plane plane) then _ else _) = _
    cases hp : p_spec_l06Plane plane with
    | false => rfl
    | true =>
      have hp := spec_l06Plane_t hp
      have hr := spec_l06Planes_rng l
      rw [Bool.not_true, cond_false, cond_false, p_impl_codeUntil_eq, p_spec_l06Code_eq, code_l1 l hl plane hp.1 (p_spec_l06Planes l) _ _ _ 0 0 (l.length : Int) (p_spec_l06Planes l) (by omega)]
theorem laws_FnExactBitsUntil_true (l_aList : List Int) (aPlane : Int) (q0 : (∀ y ∈ l_aList, I64 y)) (q1 : I64 aPlane) : p_laws_FnExactBitsUntil l_aList aPlane = true := by
  rw [p_laws_FnExactBitsUntil_eq, bits_same aPlane q0, laws_eqInt64S_self, bne_self_eq_false, beq_self_eq_true]
  cases decide ((1048576 : Int) < (l_aList.length : Int)) <;> rfl
/-! laws_FnExactBitsUntil: function 14 -/
def E_laws_FnExactBitsUntil : Env := envOf [(33, S_laws_toInt64S), (49, S_spec_BitsUntil), (50, S_impl_BitsUntil), (35, S_laws_eqInt64S)]
def F_laws_FnExactBitsUntil : List Value → AHeap → (Value → AHeap → Prop) → Prop
  | [.slice aList_a aList_n aList_e, .int .i64 aPlane], H, K => T_laws_FnExactBitsUntil aList_a aList_n aList_e aPlane H fun (r1 : Bool) (H' : AHeap) => K (.bool r1) H'
  | _, _, _ => False
def S_laws_FnExactBitsUntil : FSpec := { F := F_laws_FnExactBitsUntil, quiet := false, tame := false }
theorem laws_FnExactBitsUntil_vc (aList_a : Option Addr) (aList_n : Nat) (aList_e : Nat) (aPlane : Int) (H : AHeap) (K : Value → AHeap → Prop) : bodyK Try.prog E_laws_FnExactBitsUntil Try.f14 [.slice aList_a aList_n aList_e, .int .i64 aPlane] H K =
  (Br (decide ((1048576 : Int) < (aList_n : Int))) (K (.bool true) H) (T_laws_toInt64S aList_a aList_n aList_e H fun (a1 : Option Addr) (r1 : Nat) (r2 : Nat) (H1 : AHeap) => T_spec_BitsUntil a1 r1 r2 aPlane H1 fun (r3 : Int) (r4 : Bool) (H2 : AHeap) => T_laws_toInt64S aList_a aList_n aList_e H2 fun (a2 : Option Addr) (r5 : Nat) (r6 : Nat) (H3 : AHeap) => T_impl_BitsUntil a2 r5 r6 aPlane H3 fun (r7 : Int) (r8 : Bool) (H4 : AHeap) => Br ((r7 : Int) != r3) (K (.bool false) H4) (Br (!(r8 == r4)) (K (.bool false) H4) (T_laws_toInt64S aList_a aList_n aList_e H4 fun (a3 : Option Addr) (r9 : Nat) (r10 : Nat) (H5 : AHeap) => T_laws_eqInt64S a2 r5 r6 a3 r9 r10 H5 fun (r11 : Bool) (H6 : AHeap) => Br (!r11) (K (.bool false) H6) (K (.bool true) H6))))) := by kernel_rfl
theorem E_laws_FnExactBitsUntil_ok : ∀ g, FnOk Try.prog g (E_laws_FnExactBitsUntil g) := FnOk.envOf (by
  intro x hx
  simp only [List.mem_cons, List.not_mem_nil, or_false] at hx
  rcases hx with rfl | rfl | rfl | rfl
  · exact laws_toInt64S_ok
  · exact spec_BitsUntil_ok
  · exact impl_BitsUntil_ok
  · exact laws_eqInt64S_ok)
set_option maxHeartbeats 1000000 in
theorem laws_FnExactBitsUntil_main (aList_a : Option Addr) (aList_n : Nat) (aList_e : Nat) (aPlane : Int) (H : AHeap) (K : Value → AHeap → Prop) (h : T_laws_FnExactBitsUntil aList_a aList_n aList_e aPlane H fun (r1 : Bool) (H' : AHeap) => K (.bool r1) H') : bodyK Try.prog E_laws_FnExactBitsUntil Try.f14 [.slice aList_a aList_n aList_e, .int .i64 aPlane] H K := by
  rw [laws_FnExactBitsUntil_vc]
  obtain ⟨l_aList, h_0, h_1, h_2, h_3, hk⟩ := h
  have i_aList := h_0
  obtain rfl := i_aList.eqn
  have hl := laws_FnExactBitsUntil_true l_aList aPlane h_1 h_3
  have e : p_laws_FnExactBitsUntil l_aList aPlane = _ := rfl
  have e := e.trans (p_laws_FnExactBitsUntil_eq l_aList aPlane)
  have e := hl.symm.trans e
  have g0 := Grow.refl H
  refine Br.intro (fun c_1 => ?_) (fun c_1 => ?_)
  · have e := e.trans (cond_t c_1)
    have c_1' := of_decide_eq_true c_1
    first | exact hk _ | (exfalso; cases e; done) | (rw [← e]; exact hk _)
  · have e := e.trans (cond_f c_1)
    have c_1' := of_decide_eq_false c_1
    refine T_laws_toInt64S_i ⟨_, (i_aList.grow g0), (by first | omega | (simp only [List.length_set, List.length_replicate, List.length_append, List.length_cons, List.length_nil, List.length_take, List.length_drop, marks_length]; done) | (simp only [List.length_set, List.length_replicate, List.length_append, List.length_cons, List.length_nil, List.length_take, List.length_drop, marks_length]; omega)), fun a_2 n_3 e_4 H_1 g_6 r_5 => ?_⟩
    have l_7 := g_6.1
    have g_8 := g0.trans g_6
    have l_9 := g_8.1
    obtain rfl := r_5.isL.eqn
    have u_10 := r_5.up
    have u_11 := r_5.lo
    refine T_spec_BitsUntil_i ⟨_, r_5.isL, (by first | omega | (simp only [List.length_set, List.length_replicate, List.length_append, List.length_cons, List.length_nil, List.length_take, List.length_drop, marks_length]; done) | (simp only [List.length_set, List.length_replicate, List.length_append, List.length_cons, List.length_nil, List.length_take, List.length_drop, marks_length]; omega)), fun  H_2 g_13  => ?_⟩
    have l_14 := g_13.1
    have g_15 := g_8.trans g_13
    have l_16 := g_15.1
    have r_17 := r_5.grow g_13
    refine T_laws_toInt64S_i ⟨_, (i_aList.grow g_15), (by first | omega | (simp only [List.length_set, List.length_replicate, List.length_append, List.length_cons, List.length_nil, List.length_take, List.length_drop, marks_length]; done) | (simp only [List.length_set, List.length_replicate, List.length_append, List.length_cons, List.length_nil, List.length_take, List.length_drop, marks_length]; omega)), fun a_18 n_19 e_20 H_3 g_22 r_21 => ?_⟩
    have l_23 := g_22.1
    have g_24 := g_15.trans g_22
    have l_25 := g_24.1
    have r_26 := r_17.grow g_22
    obtain rfl := r_21.isL.eqn
    have u_27 := r_21.up
    have u_28 := r_21.lo
    refine T_impl_BitsUntil_i ⟨_, r_21.isL, (by first | omega | (simp only [List.length_set, List.length_replicate, List.length_append, List.length_cons, List.length_nil, List.length_take, List.length_drop, marks_length]; done) | (simp only [List.length_set, List.length_replicate, List.length_append, List.length_cons, List.length_nil, List.length_take, List.length_drop, marks_length]; omega)), fun  H_4 g_30  => ?_⟩
    have l_31 := g_30.1
    have g_32 := g_24.trans g_30
    have l_33 := g_32.1
    have r_34 := r_26.grow g_30
    have r_35 := r_21.grow g_30
    refine Br.intro (fun c_36 => ?_) (fun c_36 => ?_)
    · have e := e.trans (cond_t c_36)
      have c_36' := ine_t c_36
      first | exact hk _ | (exfalso; cases e; done) | (rw [← e]; exact hk _)
    · have e := e.trans (cond_f c_36)
      have c_36' := ine_f c_36
      refine Br.intro (fun c_37 => ?_) (fun c_37 => ?_)
      · have e := e.trans (cond_t c_37)
        have c_37n := nf_of_t c_37
        first | exact hk _ | (exfalso; cases e; done) | (rw [← e]; exact hk _)
      · have e := e.trans (cond_f c_37)
        have c_37n := nt_of_f c_37
        refine T_laws_toInt64S_i ⟨_, (i_aList.grow g_32), (by first | omega | (simp only [List.length_set, List.length_replicate, List.length_append, List.length_cons, List.length_nil, List.length_take, List.length_drop, marks_length]; done) | (simp only [List.length_set, List.length_replicate, List.length_append, List.length_cons, List.length_nil, List.length_take, List.length_drop, marks_length]; omega)), fun a_38 n_39 e_40 H_5 g_42 r_41 => ?_⟩
        have l_43 := g_42.1
        have g_44 := g_32.trans g_42
        have l_45 := g_44.1
        have r_46 := r_34.grow g_42
        have r_47 := r_35.grow g_42
        obtain rfl := r_41.isL.eqn
        have u_48 := r_41.up
        have u_49 := r_41.lo
        refine T_laws_eqInt64S_i ⟨_, _, r_47.isL, r_41.isL, (by first | omega | (simp only [List.length_set, List.length_replicate, List.length_append, List.length_cons, List.length_nil, List.length_take, List.length_drop, marks_length]; done) | (simp only [List.length_set, List.length_replicate, List.length_append, List.length_cons, List.length_nil, List.length_take, List.length_drop, marks_length]; omega)), (by first | omega | (simp only [List.length_set, List.length_replicate, List.length_append, List.length_cons, List.length_nil, List.length_take, List.length_drop, marks_length]; done) | (simp only [List.length_set, List.length_replicate, List.length_append, List.length_cons, List.length_nil, List.length_take, List.length_drop, marks_length]; omega)), ?_⟩
        refine Br.intro (fun c_51 => ?_) (fun c_51 => ?_)
        · have e := e.trans (cond_t c_51)
          have c_51n := nf_of_t c_51
          first | exact hk _ | (exfalso; cases e; done) | (rw [← e]; exact hk _)
        · have e := e.trans (cond_f c_51)
          have c_51n := nt_of_f c_51
          first | exact hk _ | (exfalso; cases e; done) | (rw [← e]; exact hk _)
theorem laws_FnExactBitsUntil_ok : FnOk Try.prog 14 S_laws_FnExactBitsUntil := by
  refine FnOk.body mix_ok E_laws_FnExactBitsUntil_ok Try.func14 rfl (by kernel_rfl) (by kernel_rfl) ?_ ?_ ?_ ?_ ?_
  · intro args H K K' h hk
    simp only [S_laws_FnExactBitsUntil] at *
    unfold F_laws_FnExactBitsUntil at *
    split at hk
    · obtain ⟨l_aList, h_0, h_1, h_2, h_3, k⟩ := hk
      exact ⟨l_aList, h_0, h_1, h_2, h_3, (fun H' => h _ _ (k H'))⟩
    · exact hk.elim
  · intro hq; cases hq
  · intro args H K hk
    simp only [S_laws_FnExactBitsUntil] at *
    unfold F_laws_FnExactBitsUntil at *
    split at hk
    · obtain ⟨l_aList, h_0, h_1, h_2, h_3, k⟩ := hk
      exact ⟨_, _, k []⟩
    · exact hk.elim
  · intro hq; cases hq
  · have mm := @laws_FnExactBitsUntil_main
    revert mm
    generalize bodyK Try.prog E_laws_FnExactBitsUntil Try.f14 = Q
    intro mm args H K hk
    simp only [S_laws_FnExactBitsUntil] at *
    unfold F_laws_FnExactBitsUntil at *
    split at hk
    · exact mm _ _ _ _ H K hk
    · exact hk.elim
end Go.Proofs.Ytfofkmlohmodeaa.Ai
