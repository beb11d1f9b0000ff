/- What functions of the program come to on the abstract machine, and that they do so; printed by a program of mine around proofs of mine. -/
import Derived.Test.YtghkkclonabpkaaFFnExactWithoutSeason0
set_option linter.unusedVariables false
set_option linter.unusedSimpArgs false
set_option maxRecDepth 100000
namespace Go.Proofs.Ytghkkclonabpkaa.Ai
open Go
attribute [local irreducible] bodyK
def p_impl_WithoutSeason_l1 (l_list : List Nat) (period : Int) : Nat → (List Nat) → Int → (List Nat) × Bool
  | 0, _, _ => ([], false)
  | μ + 1, l_vout, t22 => (bif decide ((t22 : Int) < (l_list.length : Int)) then (p_impl_WithoutSeason_l1 l_list period μ ((l_vout ++ [(fsub .f32 (((l_list).getD (t22 : Int).toNat 0)) ((((p_impl_SeasonOf l_list period).1).getD (Int.tmod t22 period : Int).toNat 0)))])) (t22 + 1)) else (bif (p_impl_finiteList l_vout).2 then (l_vout, true) else ([], false)))
theorem p_impl_WithoutSeason_l1_s (l_list : List Nat) (period : Int) (μ : Nat) (l_vout : List Nat) (t22 : Int) : p_impl_WithoutSeason_l1 l_list period (μ + 1) l_vout t22 = (bif decide ((t22 : Int) < (l_list.length : Int)) then (p_impl_WithoutSeason_l1 l_list period μ ((l_vout ++ [(fsub .f32 (((l_list).getD (t22 : Int).toNat 0)) ((((p_impl_SeasonOf l_list period).1).getD (Int.tmod t22 period : Int).toNat 0)))])) (t22 + 1)) else (bif (p_impl_finiteList l_vout).2 then (l_vout, true) else ([], false))) := rfl
def p_impl_WithoutSeason (l_list : List Nat) (period : Int) : (List Nat) × Bool := (bif !((p_impl_SeasonOf l_list period).2) then ([], false) else (p_impl_WithoutSeason_l1 l_list period (Int.toNat ((l_list.length : Int) - (0 : Int)) + 1) ([] : List Nat) (0 : Int)))
theorem p_impl_WithoutSeason_eq (l_list : List Nat) (period : Int) : p_impl_WithoutSeason l_list period = (bif !((p_impl_SeasonOf l_list period).2) then ([], false) else (p_impl_WithoutSeason_l1 l_list period (Int.toNat ((l_list.length : Int) - (0 : Int)) + 1) ([] : List Nat) (0 : Int))) := rfl
def T_impl_WithoutSeason (list_a : Option Addr) (list_n : Nat) (list_e : Nat) (period : Int) (H : AHeap) (K : (Option Addr) → Nat → Nat → Bool → AHeap → Prop) : Prop := ∃ (l_list : List Nat), IsL fF H list_a list_n l_list ∧ l_list.length < 1073741824 ∧ ((∀ (r1_a : Option Addr) (r1_n r1_e : Nat), ∀ H' : AHeap, Grow H H' → OwnS fF H' H.length r1_a r1_n r1_e ((p_impl_WithoutSeason l_list period).1) → K r1_a r1_n r1_e ((p_impl_WithoutSeason l_list period).2) H'))
theorem T_impl_WithoutSeason_i {list_a : Option Addr} {list_n : Nat} {list_e : Nat} {period : Int} {H : AHeap} {K : (Option Addr) → Nat → Nat → Bool → AHeap → Prop} (h : ∃ (l_list : List Nat), IsL fF H list_a list_n l_list ∧ l_list.length < 1073741824 ∧ ((∀ (r1_a : Option Addr) (r1_n r1_e : Nat), ∀ H' : AHeap, Grow H H' → OwnS fF H' H.length r1_a r1_n r1_e ((p_impl_WithoutSeason l_list period).1) → K r1_a r1_n r1_e ((p_impl_WithoutSeason l_list period).2) H'))) : T_impl_WithoutSeason list_a list_n list_e period H K := h
theorem impl_without_len_go (l : List Nat) (period : Int) : ∀ (μ : Nat) (o : List Nat) (i : Nat), i ≤ l.length → (p_impl_WithoutSeason_l1 l period μ o (i : Int)).1.length ≤ o.length + (l.length - i) := by
  intro μ
  induction μ with
  | zero => intro o i h; exact Nat.zero_le _
  | succ μ ih =>
    intro o i hm
    rw [p_impl_WithoutSeason_l1_s]
    by_cases h : i < l.length
    · rw [decide_eq_true (show (i : Int) < (l.length : Int) by omega), cond_true]
      refine Nat.le_trans (ih _ (i + 1) (by omega)) ?_
      simp; omega
    · rw [decide_eq_false (show ¬ (i : Int) < (l.length : Int) by omega), cond_false]
      cases (p_impl_finiteList o).2
      all_goals first | exact Nat.zero_le _ | exact Nat.le_add_right _ _
theorem impl_WithoutSeason_len (l : List Nat) (period : Int) : (p_impl_WithoutSeason l period).1.length ≤ l.length := by
  rw [p_impl_WithoutSeason_eq]
  cases (p_impl_SeasonOf l period).2
  · exact Nat.zero_le _
  · have := impl_without_len_go l period (Int.toNat ((l.length : Int) - (0 : Int)) + 1) [] 0 (Nat.zero_le _)
    simpa using this
/-! impl_WithoutSeason: function 21 -/
def E_impl_WithoutSeason : Env := envOf [(68, S_impl_SeasonOf), (69, S_impl_finiteList)]
def F_impl_WithoutSeason : List Value → AHeap → (Value → AHeap → Prop) → Prop
  | [.slice list_a list_n list_e, .int .i64 period], H, K => T_impl_WithoutSeason list_a list_n list_e period H fun (r1_a : Option Addr) (r1_n : Nat) (r1_e : Nat) (r2 : Bool) (H' : AHeap) => K (.tuple #[.slice r1_a r1_n r1_e, .bool r2]) H'
  | _, _, _ => False
def S_impl_WithoutSeason : FSpec := { F := F_impl_WithoutSeason, quiet := false, tame := true }
theorem impl_WithoutSeason_vc (list_a : Option Addr) (list_n : Nat) (list_e : Nat) (period : Int) (H : AHeap) (K : Value → AHeap → Prop) : bodyK Try.prog E_impl_WithoutSeason Try.f21 [.slice list_a list_n list_e, .int .i64 period] H K =
  (T_impl_SeasonOf list_a list_n list_e period H fun (a1 : Option Addr) (r1 : Nat) (r2 : Nat) (r3 : Bool) (H1 : AHeap) => Br (!r3) (K (.tuple #[.slice none 0 0, .bool false]) H1) (Al [] H1 fun b1 H2 => loopK (exK Try.prog E_impl_WithoutSeason (cl (cl (cr (cl (cr (cr (cr (cr (bodyC Try.f21)))))))))) [.slice list_a list_n list_e, .int .i64 period, undef, undef, .slice none 0 0, .bool false, .slice a1 r1 r2, .bool r3, .slice (some ⟨b1, 0, none⟩) 0 1, undef, undef, .tuple #[.slice a1 r1 r2, .bool r3], .slice list_a list_n list_e, .int .i64 period, .tuple #[.slice a1 r1 r2, .bool r3], .slice a1 r1 r2, .bool r3, .bool r3, .bool (!r3), .slice (some ⟨b1, 0, none⟩) 0 1, .slice list_a list_n list_e, .int .i64 (list_n : Int), .int .i64 0, undef, undef, undef, undef, undef, undef, undef, undef, undef, undef, undef, undef, undef, undef, undef, undef, undef, undef, undef, undef] H2 (blockQ 0 (seqQ (exK Try.prog E_impl_WithoutSeason (cr (cr (cr (cr (cr (bodyC Try.f21))))))) (retK Try.prog Try.f21 K))))) := by kernel_rfl
theorem impl_WithoutSeason_r1 (a1 : Option Addr) (b1 : Nat) (list_a : Option Addr) (list_e : Nat) (list_n : Nat) (period : Int) (r1 : Nat) (r2 : Nat) (r3 : Bool) (vout_a : Option Addr) (vout_n : Nat) (vout_e : Nat) (t22 : Int) (g9 g10 g23 g24 g25 g26 g27 g28 g29 g30 g31 g32 g33 g34 g35 g36 g37 g38 : Value) (H : AHeap) (R : Post) : exK Try.prog E_impl_WithoutSeason (cl (cl (cr (cl (cr (cr (cr (cr (bodyC Try.f21))))))))) [.slice list_a list_n list_e, .int .i64 period, undef, undef, .slice none 0 0, .bool false, .slice a1 r1 r2, .bool r3, .slice vout_a vout_n vout_e, g9, g10, .tuple #[.slice a1 r1 r2, .bool r3], .slice list_a list_n list_e, .int .i64 period, .tuple #[.slice a1 r1 r2, .bool r3], .slice a1 r1 r2, .bool r3, .bool r3, .bool (!r3), .slice (some ⟨b1, 0, none⟩) 0 1, .slice list_a list_n list_e, .int .i64 (list_n : Int), .int .i64 t22, g23, g24, g25, g26, g27, g28, g29, g30, g31, g32, g33, g34, g35, g36, g37, g38, undef, undef, undef, undef] H R =
  (Br (decide ((t22 : Int) < (list_n : Int))) ((0 : Int) ≤ t22 ∧ t22 < (list_n : Int) ∧ ∃ b2 f1, (list_a : Option Addr) = some ⟨b2, f1, none⟩ ∧ ∃ x1 : Nat,  rdC H b2 (f1 + (t22 : Int).toNat * 1) = some (.float .f32 x1) ∧ period ≠ (0 : Int) ∧ (0 : Int) ≤ Int.tmod t22 period ∧ Int.tmod t22 period < (r1 : Int) ∧ ∃ b3 f2, (a1 : Option Addr) = some ⟨b3, f2, none⟩ ∧ ∃ x2 : Nat,  rdC H b3 (f2 + (Int.tmod t22 period : Int).toNat * 1) = some (.float .f32 x2) ∧ Al [.float .f32 (fsub .f32 x1 x2)] H fun b4 H3 => ∃ o1 w1 : List Value, ownB H3 vout_a vout_n vout_e 1 = some o1 ∧ rdS H3 (some ⟨b4, 0, none⟩) (1 * 1) = some w1 ∧ ((vout_a : Option Addr) = none → 0 < (1 : Nat)) ∧ (vout_n : Nat) + 1 < most ∧ Ap H3 (killB H3 vout_a ++ [some ⟨o1 ++ w1, true⟩]) fun b5 H4 => R .normal [.slice list_a list_n list_e, .int .i64 period, undef, undef, .slice none 0 0, .bool false, .slice a1 r1 r2, .bool r3, .slice (some ⟨b5, 0, none⟩) (vout_n + 1) 1, .int .i64 t22, .float .f32 x1, .tuple #[.slice a1 r1 r2, .bool r3], .slice list_a list_n list_e, .int .i64 period, .tuple #[.slice a1 r1 r2, .bool r3], .slice a1 r1 r2, .bool r3, .bool r3, .bool (!r3), .slice (some ⟨b1, 0, none⟩) 0 1, .slice list_a list_n list_e, .int .i64 (list_n : Int), .int .i64 (IntKind.wrap .i64 (t22 + 1)), .bool (decide ((t22 : Int) < (list_n : Int))), .int .i64 t22, .pointer (some ⟨b2, f1 + (t22 : Int).toNat * 1, none⟩), .float .f32 x1, .slice vout_a vout_n vout_e, .float .f32 x1, .slice a1 r1 r2, .int .i64 t22, .int .i64 period, .int .i64 (Int.tmod t22 period), .pointer (some ⟨b3, f2 + (Int.tmod t22 period : Int).toNat * 1, none⟩), .float .f32 x2, .float .f32 (fsub .f32 x1 x2), .slice (some ⟨b4, 0, none⟩) 1 1, .slice (some ⟨b5, 0, none⟩) (vout_n + 1) 1, .int .i64 (IntKind.wrap .i64 (t22 + 1)), undef, undef, undef, undef] H4) (R (.exit 0) [.slice list_a list_n list_e, .int .i64 period, undef, undef, .slice none 0 0, .bool false, .slice a1 r1 r2, .bool r3, .slice vout_a vout_n vout_e, g9, g10, .tuple #[.slice a1 r1 r2, .bool r3], .slice list_a list_n list_e, .int .i64 period, .tuple #[.slice a1 r1 r2, .bool r3], .slice a1 r1 r2, .bool r3, .bool r3, .bool (!r3), .slice (some ⟨b1, 0, none⟩) 0 1, .slice list_a list_n list_e, .int .i64 (list_n : Int), .int .i64 t22, .bool (decide ((t22 : Int) < (list_n : Int))), g24, g25, g26, g27, g28, g29, g30, g31, g32, g33, g34, g35, g36, g37, g38, undef, undef, undef, undef] H)) := by kernel_rfl
def impl_WithoutSeason_I1 (a1 : Option Addr) (b1 : Nat) (list_a : Option Addr) (list_e : Nat) (list_n : Nat) (period : Int) (r1 : Nat) (r2 : Nat) (r3 : Bool) (Inv : Nat → (Option Addr) → Nat → Nat → Int → AHeap → Prop) : Nat → List Value → AHeap → Prop := fun μ tm H => ∃ (vout_a : Option Addr), ∃ (vout_n : Nat), ∃ (vout_e : Nat), ∃ (t22 : Int), ∃ g9 g10 g23 g24 g25 g26 g27 g28 g29 g30 g31 g32 g33 g34 g35 g36 g37 g38, tm = [.slice list_a list_n list_e, .int .i64 period, undef, undef, .slice none 0 0, .bool false, .slice a1 r1 r2, .bool r3, .slice vout_a vout_n vout_e, g9, g10, .tuple #[.slice a1 r1 r2, .bool r3], .slice list_a list_n list_e, .int .i64 period, .tuple #[.slice a1 r1 r2, .bool r3], .slice a1 r1 r2, .bool r3, .bool r3, .bool (!r3), .slice (some ⟨b1, 0, none⟩) 0 1, .slice list_a list_n list_e, .int .i64 (list_n : Int), .int .i64 t22, g23, g24, g25, g26, g27, g28, g29, g30, g31, g32, g33, g34, g35, g36, g37, g38, undef, undef, undef, undef] ∧ Inv μ vout_a vout_n vout_e t22 H
theorem impl_WithoutSeason_L1 (a1 : Option Addr) (b1 : Nat) (list_a : Option Addr) (list_e : Nat) (list_n : Nat) (period : Int) (r1 : Nat) (r2 : Nat) (r3 : Bool) {Q : Post} (Inv : Nat → (Option Addr) → Nat → Nat → Int → AHeap → Prop) (ν : Nat) (vout_a : Option Addr) (vout_n : Nat) (vout_e : Nat) (t22 : Int) (g9 g10 g23 g24 g25 g26 g27 g28 g29 g30 g31 g32 g33 g34 g35 g36 g37 g38 : Value) (H : AHeap) (h0 : Inv ν vout_a vout_n vout_e t22 H)
    (hs : ∀ (μ : Nat) (vout_a : Option Addr) (vout_n : Nat) (vout_e : Nat) (t22 : Int) (g9 g10 g23 g24 g25 g26 g27 g28 g29 g30 g31 g32 g33 g34 g35 g36 g37 g38 : Value) (H : AHeap), Inv μ vout_a vout_n vout_e t22 H → exK Try.prog E_impl_WithoutSeason (cl (cl (cr (cl (cr (cr (cr (cr (bodyC Try.f21))))))))) [.slice list_a list_n list_e, .int .i64 period, undef, undef, .slice none 0 0, .bool false, .slice a1 r1 r2, .bool r3, .slice vout_a vout_n vout_e, g9, g10, .tuple #[.slice a1 r1 r2, .bool r3], .slice list_a list_n list_e, .int .i64 period, .tuple #[.slice a1 r1 r2, .bool r3], .slice a1 r1 r2, .bool r3, .bool r3, .bool (!r3), .slice (some ⟨b1, 0, none⟩) 0 1, .slice list_a list_n list_e, .int .i64 (list_n : Int), .int .i64 t22, g23, g24, g25, g26, g27, g28, g29, g30, g31, g32, g33, g34, g35, g36, g37, g38, undef, undef, undef, undef] H (loopQ (impl_WithoutSeason_I1 a1 b1 list_a list_e list_n period r1 r2 r3 Inv) μ Q)) : loopK (exK Try.prog E_impl_WithoutSeason (cl (cl (cr (cl (cr (cr (cr (cr (bodyC Try.f21)))))))))) [.slice list_a list_n list_e, .int .i64 period, undef, undef, .slice none 0 0, .bool false, .slice a1 r1 r2, .bool r3, .slice vout_a vout_n vout_e, g9, g10, .tuple #[.slice a1 r1 r2, .bool r3], .slice list_a list_n list_e, .int .i64 period, .tuple #[.slice a1 r1 r2, .bool r3], .slice a1 r1 r2, .bool r3, .bool r3, .bool (!r3), .slice (some ⟨b1, 0, none⟩) 0 1, .slice list_a list_n list_e, .int .i64 (list_n : Int), .int .i64 t22, g23, g24, g25, g26, g27, g28, g29, g30, g31, g32, g33, g34, g35, g36, g37, g38, undef, undef, undef, undef] H Q :=
  ⟨impl_WithoutSeason_I1 a1 b1 list_a list_e list_n period r1 r2 r3 Inv, ν, ⟨vout_a, vout_n, vout_e, t22, g9, g10, g23, g24, g25, g26, g27, g28, g29, g30, g31, g32, g33, g34, g35, g36, g37, g38, rfl, h0⟩, fun μ tm H h => by obtain ⟨vout_a, vout_n, vout_e, t22, g9, g10, g23, g24, g25, g26, g27, g28, g29, g30, g31, g32, g33, g34, g35, g36, g37, g38, rfl, hI⟩ := h; exact hs μ vout_a vout_n vout_e t22 g9 g10 g23 g24 g25 g26 g27 g28 g29 g30 g31 g32 g33 g34 g35 g36 g37 g38 H hI⟩
theorem impl_WithoutSeason_n1 {a1 : Option Addr} {b1 : Nat} {list_a : Option Addr} {list_e : Nat} {list_n : Nat} {period : Int} {r1 : Nat} {r2 : Nat} {r3 : Bool} {Q : Post} {Inv : Nat → (Option Addr) → Nat → Nat → Int → AHeap → Prop} {μ : Nat} (μ' : Nat) {vout_a : Option Addr} {vout_n : Nat} {vout_e : Nat} {t22 : Int} {g9 g10 g23 g24 g25 g26 g27 g28 g29 g30 g31 g32 g33 g34 g35 g36 g37 g38 : Value} {H : AHeap} (hm : μ' < μ) (hI : Inv μ' vout_a vout_n vout_e t22 H) : loopQ (impl_WithoutSeason_I1 a1 b1 list_a list_e list_n period r1 r2 r3 Inv) μ Q .normal [.slice list_a list_n list_e, .int .i64 period, undef, undef, .slice none 0 0, .bool false, .slice a1 r1 r2, .bool r3, .slice vout_a vout_n vout_e, g9, g10, .tuple #[.slice a1 r1 r2, .bool r3], .slice list_a list_n list_e, .int .i64 period, .tuple #[.slice a1 r1 r2, .bool r3], .slice a1 r1 r2, .bool r3, .bool r3, .bool (!r3), .slice (some ⟨b1, 0, none⟩) 0 1, .slice list_a list_n list_e, .int .i64 (list_n : Int), .int .i64 t22, g23, g24, g25, g26, g27, g28, g29, g30, g31, g32, g33, g34, g35, g36, g37, g38, undef, undef, undef, undef] H := ⟨μ', hm, vout_a, vout_n, vout_e, t22, g9, g10, g23, g24, g25, g26, g27, g28, g29, g30, g31, g32, g33, g34, g35, g36, g37, g38, rfl, hI⟩
theorem impl_WithoutSeason_x1_0 (a1 : Option Addr) (b1 : Nat) (list_a : Option Addr) (list_e : Nat) (list_n : Nat) (period : Int) (r1 : Nat) (r2 : Nat) (r3 : Bool) (vout_a : Option Addr) (vout_n : Nat) (vout_e : Nat) (t22 : Int) (g9 g10 g23 g24 g25 g26 g27 g28 g29 g30 g31 g32 g33 g34 g35 g36 g37 g38 : Value) (H : AHeap) (K : Value → AHeap → Prop)  {I : Nat → List Value → AHeap → Prop} {μ : Nat} : loopQ I μ (blockQ 0 (seqQ (exK Try.prog E_impl_WithoutSeason (cr (cr (cr (cr (cr (bodyC Try.f21))))))) (retK Try.prog Try.f21 K))) (.exit 0) [.slice list_a list_n list_e, .int .i64 period, undef, undef, .slice none 0 0, .bool false, .slice a1 r1 r2, .bool r3, .slice vout_a vout_n vout_e, g9, g10, .tuple #[.slice a1 r1 r2, .bool r3], .slice list_a list_n list_e, .int .i64 period, .tuple #[.slice a1 r1 r2, .bool r3], .slice a1 r1 r2, .bool r3, .bool r3, .bool (!r3), .slice (some ⟨b1, 0, none⟩) 0 1, .slice list_a list_n list_e, .int .i64 (list_n : Int), .int .i64 t22, g23, g24, g25, g26, g27, g28, g29, g30, g31, g32, g33, g34, g35, g36, g37, g38, undef, undef, undef, undef] H =
  (T_impl_finiteList vout_a vout_n vout_e H fun (a2 : Option Addr) (r4 : Nat) (r5 : Nat) (r6 : Bool) (H5 : AHeap) => K (.tuple #[.slice a2 r4 r5, .bool r6]) H5) := by kernel_rfl
theorem E_impl_WithoutSeason_ok : ∀ g, FnOk Try.prog g (E_impl_WithoutSeason g) := FnOk.envOf (by
  intro x hx
  simp only [List.mem_cons, List.not_mem_nil, or_false] at hx
  rcases hx with rfl | rfl
  · exact impl_SeasonOf_ok
  · exact impl_finiteList_ok)
set_option maxHeartbeats 1000000 in
theorem impl_WithoutSeason_main (list_a : Option Addr) (list_n : Nat) (list_e : Nat) (period : Int) (H : AHeap) (K : Value → AHeap → Prop) (h : T_impl_WithoutSeason list_a list_n list_e period H fun (r1_a : Option Addr) (r1_n : Nat) (r1_e : Nat) (r2 : Bool) (H' : AHeap) => K (.tuple #[.slice r1_a r1_n r1_e, .bool r2]) H') : bodyK Try.prog E_impl_WithoutSeason Try.f21 [.slice list_a list_n list_e, .int .i64 period] H K := by
  rw [impl_WithoutSeason_vc]
  obtain ⟨l_list, i_list, bd_84, hk⟩ := h
  obtain rfl := i_list.eqn
  have e : (p_impl_WithoutSeason l_list period) = _ := rfl
  have e := e.trans (p_impl_WithoutSeason_eq l_list period)
  have g0 := Grow.refl H
  refine T_impl_SeasonOf_i ⟨_, (i_list.grow g0), (by first | omega | (simp only [List.length_set, List.length_replicate, List.length_append, List.length_cons, List.length_nil, List.length_take, List.length_drop, marks_length]; done) | (simp only [List.length_set, List.length_replicate, List.length_append, List.length_cons, List.length_nil, List.length_take, List.length_drop, marks_length]; omega)), fun a_1 n_2 e_3 H_1 g_6 r_4 => ?_⟩
  have z_5 := impl_SeasonOf_len l_list period
  have l_7 := g_6.1
  have g_8 := g0.trans g_6
  have l_9 := g_8.1
  obtain rfl := r_4.isL.eqn
  have u_10 := r_4.up
  have u_11 := r_4.lo
  refine Br.intro (fun c_13 => ?_) (fun c_13 => ?_)
  · have e := e.trans (cond_t c_13)
    have c_13n := nf_of_t c_13
    rw [e] at hk
    exact hk _ _ _ H_1 g_8 (OwnS.nil _ _ _ _)
  · have e := e.trans (cond_f c_13)
    have c_13n := nt_of_f c_13
    have c_13n' := impl_SeasonOf_t c_13n
    refine Al.intro (fun b_14 H_2 hb_15 hl_16 g_17 o_18 => ?_)
    have o_18 : Own H_2 b_14 ((([] : List Nat)).map fF) := o_18
    have l_20 := g_17.1
    have g_21 := g_8.trans g_17
    have l_22 := g_21.1
    have r_23 := r_4.grow g_17
    have w_83 := o_18.lt
    refine impl_WithoutSeason_L1 _ _ _ _ _ _ _ _ _ (fun (μ : Nat) (vout_a : Option Addr) (vout_n : Nat) (vout_e : Nat) (t22 : Int) (H_3 : AHeap) => ∃ (l_vout : List Nat), ∃ (b_24 : Nat), vout_a = some ⟨b_24, 0, none⟩ ∧ vout_n = l_vout.length ∧ vout_e = 1 ∧ Own H_3 b_24 (l_vout.map fF) ∧ OwnS fF H_3 H.length a_1 (((p_impl_SeasonOf l_list period).1).length) e_3 ((p_impl_SeasonOf l_list period).1) ∧ H_1.length ≤ H_3.length ∧ (b_24 < H.length ∨ H_1.length ≤ b_24) ∧ Grow H H_3 ∧ H.length ≤ b_24 ∧ (0 : Int) ≤ t22 ∧ t22 ≤ (l_list.length : Int) ∧ (l_vout.length : Int) ≤ t22 - (0 : Int) + 0 ∧ (l_list.length : Int) - t22 ≤ (μ : Int) ∧ p_impl_WithoutSeason l_list period = p_impl_WithoutSeason_l1 l_list period (μ + 1) l_vout t22) (Int.toNat ((l_list.length : Int) - (0 : Int))) _ _ _ _ _ _ _ _ _ _ _ _ _ _ _ _ _ _ _ _ _ _ H_2 ?_ ?_
    · exact ⟨_, _, rfl, rfl, rfl, o_18, r_23, (by omega), (by omega), g_21, (by omega), (by first | omega | (simp; done) | (simp; omega)), (by first | omega | (simp; done) | (simp; omega)), (by first | omega | (simp; done) | (simp; omega)), (by omega), e⟩
    · intro μ vout_a vout_n vout_e t22 g9 g10 g23 g24 g25 g26 g27 g28 g29 g30 g31 g32 g33 g34 g35 g36 g37 g38 H_3 hI
      obtain ⟨l_vout, b_24, rfl, rfl, rfl, o_25, r_26, n_27, n_28, g_29, l_30, v_31, v_32, v_33, hμ, e⟩ := hI
      rw [impl_WithoutSeason_r1]
      have e := e.trans (p_impl_WithoutSeason_l1_s l_list period μ l_vout t22)
      have w_34 := o_25.lt
      have l_35 := g_29.1
      refine Br.intro (fun c_36 => ?_) (fun c_36 => ?_)
      · have e := e.trans (cond_t c_36)
        have c_36' := of_decide_eq_true c_36
        obtain ⟨b_37, f_38, q_39⟩ := ((i_list.grow g_29)).pos (by first | omega | (simp only [List.length_set, List.length_replicate, List.length_append, List.length_cons, List.length_nil, List.length_take, List.length_drop, marks_length]; done) | (simp only [List.length_set, List.length_replicate, List.length_append, List.length_cons, List.length_nil, List.length_take, List.length_drop, marks_length]; omega))
        refine ⟨by omega, by omega, b_37, f_38, q_39, ?_⟩
        refine ⟨((l_list).getD (t22 : Int).toNat 0), (i_list).rd g_29 q_39 (by omega) _, ?_⟩
        refine ⟨(by first | omega | decide | (simp; done) | (simp; omega)), ?_⟩
        have z_40 := tmod_rng t22 period
        have z_41 := tmod_nn t22 period
        obtain ⟨b_42, f_43, q_44⟩ := (r_26.isL).pos (by first | omega | (simp only [List.length_set, List.length_replicate, List.length_append, List.length_cons, List.length_nil, List.length_take, List.length_drop, marks_length]; done) | (simp only [List.length_set, List.length_replicate, List.length_append, List.length_cons, List.length_nil, List.length_take, List.length_drop, marks_length]; omega))
        refine ⟨by omega, by omega, b_42, f_43, q_44, ?_⟩
        refine ⟨(((p_impl_SeasonOf l_list period).1).getD (Int.tmod t22 period : Int).toNat 0), (r_26.isL).rd (Grow.refl _) q_44 (by omega) _, ?_⟩
        refine Al.intro (fun b_45 H_4 hb_46 hl_47 g_48 o_49 => ?_)
        have o_49 : Own H_4 b_45 (([(fsub .f32 (((l_list).getD (t22 : Int).toNat 0)) ((((p_impl_SeasonOf l_list period).1).getD (Int.tmod t22 period : Int).toNat 0)))]).map fF) := o_49
        have l_51 := g_48.1
        have g_52 := g_29.trans g_48
        have l_53 := g_52.1
        have o_54 := o_25.grow g_48
        have w_55 := o_54.lt
        have r_56 := r_26.grow g_48
        have w_70 := o_49.lt
        refine ⟨_, _, o_54.ownB (by first | (simp only [List.length_map, List.length_cons, List.length_nil, List.length_append]; done) | (simp only [List.length_map, List.length_cons, List.length_nil, List.length_append]; omega)) rfl, (isl_rdS (o_49.isL rfl)), (fun h => by cases h), (by have := most_eq; omega), ?_⟩
        refine Ap.app o_54 rfl rfl (fun b_61 H_5 q_68 hl_57 o_58 k_59 => ?_)
        have o_58 := map_snoc o_58
        have l_62 := k_59.1
        have g_63 := g_52.keep (b := b_24) (by omega) k_59
        have l_64 := g_63.1
        have o_65 := o_49.keep (by omega) k_59
        have w_66 := o_65.lt
        have r_67 := r_56.keep u_10 (by omega) k_59
        have w_69 := o_58.lt
        rw [show IntKind.wrap .i64 (t22 + 1) = (t22 + 1) from wrap64 (by omega) (by omega)]
        refine impl_WithoutSeason_n1 (μ - 1) (by omega) ⟨_, _, rfl, (by first | (simp only [List.length_append, List.length_cons, List.length_nil]; done) | (simp only [List.length_append, List.length_cons, List.length_nil]; omega)), rfl, o_58, r_67, (by omega), (by omega), g_63, (by omega), (by first | omega | (simp only [List.length_append, List.length_cons, List.length_nil, List.length_set]; done) | (simp only [List.length_append, List.length_cons, List.length_nil, List.length_set]; omega)), (by first | omega | (simp only [List.length_append, List.length_cons, List.length_nil, List.length_set]; done) | (simp only [List.length_append, List.length_cons, List.length_nil, List.length_set]; omega)), (by first | omega | (simp only [List.length_append, List.length_cons, List.length_nil, List.length_set]; done) | (simp only [List.length_append, List.length_cons, List.length_nil, List.length_set]; omega)), (by omega), (by rw [show μ - 1 + 1 = μ from by omega]; exact e)⟩
      · have e := e.trans (cond_f c_36)
        have c_36' := of_decide_eq_false c_36
        rw [impl_WithoutSeason_x1_0]
        refine T_impl_finiteList_i ⟨_, (o_25.isL rfl), (by first | omega | (simp only [List.length_set, List.length_replicate, List.length_append, List.length_cons, List.length_nil, List.length_take, List.length_drop, marks_length]; done) | (simp only [List.length_set, List.length_replicate, List.length_append, List.length_cons, List.length_nil, List.length_take, List.length_drop, marks_length]; omega)), (fun H_6 g_75 => ?_)⟩
        have l_77 := g_75.1
        have g_78 := g_29.trans g_75
        have l_79 := g_78.1
        have o_80 := o_25.grow g_75
        have w_81 := o_80.lt
        have r_82 := r_26.grow g_75
        refine Br.intro (fun c_76 => ?_) (fun c_76 => ?_)
        · have e := e.trans (cond_t c_76)
          rw [e] at hk
          exact hk _ _ _ H_6 g_78 (o_80.ownS rfl (by omega))
        · have e := e.trans (cond_f c_76)
          rw [e] at hk
          exact hk _ _ _ H_6 g_78 (OwnS.nil _ _ _ _)
theorem impl_WithoutSeason_ok : FnOk Try.prog 21 S_impl_WithoutSeason := by
  refine FnOk.body mix_ok E_impl_WithoutSeason_ok Try.func21 rfl (by kernel_rfl) (by kernel_rfl) ?_ ?_ ?_ ?_ ?_
  · intro args H K K' h hk
    simp only [S_impl_WithoutSeason] at *
    unfold F_impl_WithoutSeason at *
    split at hk
    · obtain ⟨l_list, i_list, bd_84, k⟩ := hk
      exact ⟨l_list, i_list, bd_84, (fun r1_a r1_n r1_e H' gg ow0 => h _ _ (k r1_a r1_n r1_e H' gg ow0))⟩
    · exact hk.elim
  · intro hq; cases hq
  · intro args H K hk
    simp only [S_impl_WithoutSeason] at *
    unfold F_impl_WithoutSeason at *
    split at hk
    · obtain ⟨l_list, i_list, bd_84, k⟩ := hk
      exact liveS fun a n e H1 g o => ⟨_, _, k a n e H1 g o⟩
    · exact hk.elim
  · intro _ args H K hk
    simp only [S_impl_WithoutSeason] at *
    unfold F_impl_WithoutSeason at *
    split at hk
    · obtain ⟨l_list, i_list, bd_84, k⟩ := hk
      exact ⟨l_list, i_list, bd_84, (fun r1_a r1_n r1_e H' gg ow0 => ⟨gg, k r1_a r1_n r1_e H' gg ow0⟩)⟩
    · exact hk.elim
  · have mm := @impl_WithoutSeason_main
    revert mm
    generalize bodyK Try.prog E_impl_WithoutSeason Try.f21 = Q
    intro mm args H K hk
    simp only [S_impl_WithoutSeason] at *
    unfold F_impl_WithoutSeason at *
    split at hk
    · exact mm _ _ _ _ H K hk
    · exact hk.elim
def p_laws_sameFloat (a : Nat) (b : Nat) : Bool := (bif !(feq .f64 a a) then (bif !(feq .f64 a a) then !(feq .f64 b b) else false) else (bif !(feq .f64 b b) then (bif !(feq .f64 a a) then !(feq .f64 b b) else false) else (bif feq .f64 a 0 then (bif feq .f64 b 0 then (flt .f64 0 (fdiv .f64 4607182418800017408 a)) == (flt .f64 0 (fdiv .f64 4607182418800017408 b)) else feq .f64 a b) else feq .f64 a b)))
theorem p_laws_sameFloat_eq (a : Nat) (b : Nat) : p_laws_sameFloat a b = (bif !(feq .f64 a a) then (bif !(feq .f64 a a) then !(feq .f64 b b) else false) else (bif !(feq .f64 b b) then (bif !(feq .f64 a a) then !(feq .f64 b b) else false) else (bif feq .f64 a 0 then (bif feq .f64 b 0 then (flt .f64 0 (fdiv .f64 4607182418800017408 a)) == (flt .f64 0 (fdiv .f64 4607182418800017408 b)) else feq .f64 a b) else feq .f64 a b))) := rfl
def T_laws_sameFloat (a : Nat) (b : Nat) (H : AHeap) (K : Bool → AHeap → Prop) : Prop := K (p_laws_sameFloat a b) H

theorem T_laws_sameFloat_i {a : Nat} {b : Nat} {H : AHeap} {K : Bool → AHeap → Prop} (h : K (p_laws_sameFloat a b) H) : T_laws_sameFloat a b H K := h
/-! laws_sameFloat: function 18 -/
def E_laws_sameFloat : Env := envOf []
def F_laws_sameFloat : List Value → AHeap → (Value → AHeap → Prop) → Prop
  | [.float .f64 a, .float .f64 b], H, K => T_laws_sameFloat a b H fun (r1 : Bool) (H' : AHeap) => K (.bool r1) H'
  | _, _, _ => False
def S_laws_sameFloat : FSpec := { F := F_laws_sameFloat, quiet := true, tame := false }
theorem laws_sameFloat_vc (a : Nat) (b : Nat) (H : AHeap) (K : Value → AHeap → Prop) : bodyK Try.prog E_laws_sameFloat Try.f18 [.float .f64 a, .float .f64 b] H K =
  (Br (!(feq .f64 a a)) (Br (!(feq .f64 a a)) (K (.bool (!(feq .f64 b b))) H) (K (.bool false) H)) (Br (!(feq .f64 b b)) (Br (!(feq .f64 a a)) (K (.bool (!(feq .f64 b b))) H) (K (.bool false) H)) (Br (feq .f64 a 0) (Br (feq .f64 b 0) (K (.bool ((flt .f64 0 (fdiv .f64 4607182418800017408 a)) == (flt .f64 0 (fdiv .f64 4607182418800017408 b)))) H) (K (.bool (feq .f64 a b)) H)) (K (.bool (feq .f64 a b)) H)))) := by kernel_rfl
theorem E_laws_sameFloat_ok : ∀ g, FnOk Try.prog g (E_laws_sameFloat g) := FnOk.envOf (by
  intro x hx; cases hx)
set_option maxHeartbeats 1000000 in
theorem laws_sameFloat_main (a : Nat) (b : Nat) (H : AHeap) (K : Value → AHeap → Prop) (h : T_laws_sameFloat a b H fun (r1 : Bool) (H' : AHeap) => K (.bool r1) H') : bodyK Try.prog E_laws_sameFloat Try.f18 [.float .f64 a, .float .f64 b] H K := by
  rw [laws_sameFloat_vc]
  unfold T_laws_sameFloat p_laws_sameFloat at h
  repeat' (first | exact h | (exfalso; simp_all; done) | (refine ⟨by decide, ?_⟩) | (refine Br.intro (fun hb => ?_) (fun hb => ?_) <;> (try simp only [hb, cond_true, cond_false, Bool.not_true, Bool.not_false] at h)))
theorem laws_sameFloat_ok : FnOk Try.prog 18 S_laws_sameFloat := by
  refine FnOk.body mix_ok E_laws_sameFloat_ok Try.func18 rfl (by kernel_rfl) (by kernel_rfl) ?_ ?_ ?_ ?_ ?_
  · intro args H K K' h hk
    simp only [S_laws_sameFloat] at *
    unfold F_laws_sameFloat at *
    split at hk
    · have k := hk
      exact h _ _ k
    · exact hk.elim
  · intro _ args H K hk
    simp only [S_laws_sameFloat] at *
    unfold F_laws_sameFloat at *
    split at hk
    · have k := hk
      exact ⟨_, k, fun K' k' => k'⟩
    · exact hk.elim
  · intro args H K hk
    simp only [S_laws_sameFloat] at *
    unfold F_laws_sameFloat at *
    split at hk
    · have k := hk
      exact ⟨_, _, k⟩
    · exact hk.elim
  · intro hq; cases hq
  · have mm := @laws_sameFloat_main
    revert mm
    generalize bodyK Try.prog E_laws_sameFloat Try.f18 = Q
    intro mm args H K hk
    simp only [S_laws_sameFloat] at *
    unfold F_laws_sameFloat at *
    split at hk
    · exact mm _ _ H K hk
    · exact hk.elim
def p_laws_eqFloat32S_l1 (l_a : List Nat) (l_b : List Nat) : Nat → Bool → Int → Bool
  | 0, _, _ => false
  | μ + 1, t4, i => (bif decide ((i : Int) < (l_a.length : Int)) then (bif !((p_laws_sameFloat (fwide (((l_a).getD (i : Int).toNat 0))) (fwide (((l_b).getD (i : Int).toNat 0))))) then false else (p_laws_eqFloat32S_l1 l_a l_b μ t4 (i + 1))) else true)
theorem p_laws_eqFloat32S_l1_s (l_a : List Nat) (l_b : List Nat) (μ : Nat) (t4 : Bool) (i : Int) : p_laws_eqFloat32S_l1 l_a l_b (μ + 1) t4 i = (bif decide ((i : Int) < (l_a.length : Int)) then (bif !((p_laws_sameFloat (fwide (((l_a).getD (i : Int).toNat 0))) (fwide (((l_b).getD (i : Int).toNat 0))))) then false else (p_laws_eqFloat32S_l1 l_a l_b μ t4 (i + 1))) else true) := rfl
def p_laws_eqFloat32S (l_a : List Nat) (l_b : List Nat) : Bool := (bif ((l_a.length : Int) : Int) != (l_b.length : Int) then false else (p_laws_eqFloat32S_l1 l_a l_b (Int.toNat ((l_a.length : Int) - (0 : Int)) + 1) false (0 : Int)))
theorem p_laws_eqFloat32S_eq (l_a : List Nat) (l_b : List Nat) : p_laws_eqFloat32S l_a l_b = (bif ((l_a.length : Int) : Int) != (l_b.length : Int) then false else (p_laws_eqFloat32S_l1 l_a l_b (Int.toNat ((l_a.length : Int) - (0 : Int)) + 1) false (0 : Int))) := rfl
def T_laws_eqFloat32S (a_a : Option Addr) (a_n : Nat) (a_e : Nat) (b_a : Option Addr) (b_n : Nat) (b_e : Nat) (H : AHeap) (K : Bool → AHeap → Prop) : Prop := ∃ (l_a : List Nat), ∃ (l_b : List Nat), IsL fF H a_a a_n l_a ∧ IsL fF H b_a b_n l_b ∧ l_a.length < 1073741824 ∧ l_b.length < 1073741824 ∧ K (p_laws_eqFloat32S l_a l_b) H
theorem T_laws_eqFloat32S_i {a_a : Option Addr} {a_n : Nat} {a_e : Nat} {b_a : Option Addr} {b_n : Nat} {b_e : Nat} {H : AHeap} {K : Bool → AHeap → Prop} (h : ∃ (l_a : List Nat), ∃ (l_b : List Nat), IsL fF H a_a a_n l_a ∧ IsL fF H b_a b_n l_b ∧ l_a.length < 1073741824 ∧ l_b.length < 1073741824 ∧ K (p_laws_eqFloat32S l_a l_b) H) : T_laws_eqFloat32S a_a a_n a_e b_a b_n b_e H K := h
theorem laws_sameFloat_self (y : Nat) : p_laws_sameFloat y y = true := by
  rw [p_laws_sameFloat_eq]
  cases feq .f64 y y <;> simp
theorem laws_eqFloat32S_go (l : List Nat) : ∀ (μ : Nat) (t : Bool) (i : Nat), l.length - i < μ → p_laws_eqFloat32S_l1 l l μ t (i : Int) = true := by
  intro μ
  induction μ with
  | zero => intro t i h; omega
  | succ μ ih =>
    intro t i hm
    rw [p_laws_eqFloat32S_l1_s]
    by_cases h : i < l.length
    · rw [decide_eq_true (show (i : Int) < (l.length : Int) by omega), cond_true, laws_sameFloat_self]
      simp only [Bool.not_true, cond_false]
      exact ih t (i + 1) (by omega)
    · rw [decide_eq_false (show ¬ (i : Int) < (l.length : Int) by omega), cond_false]
theorem laws_eqFloat32S_self (l : List Nat) : p_laws_eqFloat32S l l = true := by
  rw [p_laws_eqFloat32S_eq]
  have h0 : ((l.length : Int) != (l.length : Int)) = false := by simp
  rw [h0, cond_false]
  exact laws_eqFloat32S_go l _ false 0 (by omega)
/-! laws_eqFloat32S: function 19 -/
def E_laws_eqFloat32S : Env := envOf [(18, S_laws_sameFloat)]
def F_laws_eqFloat32S : List Value → AHeap → (Value → AHeap → Prop) → Prop
  | [.slice a_a a_n a_e, .slice b_a b_n b_e], H, K => T_laws_eqFloat32S a_a a_n a_e b_a b_n b_e H fun (r1 : Bool) (H' : AHeap) => K (.bool r1) H'
  | _, _, _ => False
def S_laws_eqFloat32S : FSpec := { F := F_laws_eqFloat32S, quiet := true, tame := false }
theorem laws_eqFloat32S_vc (a_a : Option Addr) (a_n : Nat) (a_e : Nat) (b_a : Option Addr) (b_n : Nat) (b_e : Nat) (H : AHeap) (K : Value → AHeap → Prop) : bodyK Try.prog E_laws_eqFloat32S Try.f19 [.slice a_a a_n a_e, .slice b_a b_n b_e] H K =
  (Br (((a_n : Int) : Int) != (b_n : Int)) (K (.bool false) H) (loopK (exK Try.prog E_laws_eqFloat32S (cl (cl (cr (cl (cr (cr (bodyC Try.f19)))))))) [.slice a_a a_n a_e, .slice b_a b_n b_e, undef, undef, .bool false, .int .i64 0, .slice a_a a_n a_e, .int .i64 (a_n : Int), .slice b_a b_n b_e, .int .i64 (b_n : Int), .bool (((a_n : Int) : Int) != (b_n : Int)), undef, undef, undef, undef, undef, undef, undef, undef, undef, undef, undef, undef, undef, undef, undef, undef, undef, undef] H (blockQ 0 (seqQ (exK Try.prog E_laws_eqFloat32S (cr (cr (cr (bodyC Try.f19))))) (retK Try.prog Try.f19 K))))) := by kernel_rfl
theorem laws_eqFloat32S_r1 (a_a : Option Addr) (a_e : Nat) (a_n : Nat) (b_a : Option Addr) (b_e : Nat) (b_n : Nat) (t4 : Bool) (i : Int) (g11 g12 g13 g14 g15 g16 g17 g18 g19 g20 g21 g22 g23 g24 g25 g26 g27 g28 : Value) (H : AHeap) (R : Post) : exK Try.prog E_laws_eqFloat32S (cl (cl (cr (cl (cr (cr (bodyC Try.f19))))))) [.slice a_a a_n a_e, .slice b_a b_n b_e, undef, undef, .bool t4, .int .i64 i, .slice a_a a_n a_e, .int .i64 (a_n : Int), .slice b_a b_n b_e, .int .i64 (b_n : Int), .bool (((a_n : Int) : Int) != (b_n : Int)), g11, g12, g13, g14, g15, g16, g17, g18, g19, g20, g21, g22, g23, g24, g25, g26, g27, g28] H R =
  (Br (decide ((i : Int) < (a_n : Int))) ((0 : Int) ≤ i ∧ i < (a_n : Int) ∧ ∃ b1 f1, (a_a : Option Addr) = some ⟨b1, f1, none⟩ ∧ ∃ x1 : Nat,  rdC H b1 (f1 + (i : Int).toNat * 1) = some (.float .f32 x1) ∧ (0 : Int) ≤ i ∧ i < (b_n : Int) ∧ ∃ b2 f2, (b_a : Option Addr) = some ⟨b2, f2, none⟩ ∧ ∃ x2 : Nat,  rdC H b2 (f2 + (i : Int).toNat * 1) = some (.float .f32 x2) ∧ T_laws_sameFloat (fwide x1) (fwide x2) H fun (r1 : Bool) (H1 : AHeap) => Br (!r1) (R .ret [.slice a_a a_n a_e, .slice b_a b_n b_e, undef, undef, .bool false, .int .i64 i, .slice a_a a_n a_e, .int .i64 (a_n : Int), .slice b_a b_n b_e, .int .i64 (b_n : Int), .bool (((a_n : Int) : Int) != (b_n : Int)), .int .i64 i, .slice a_a a_n a_e, .int .i64 (a_n : Int), .bool (decide ((i : Int) < (a_n : Int))), g15, g16, .slice a_a a_n a_e, .int .i64 i, .pointer (some ⟨b1, f1 + (i : Int).toNat * 1, none⟩), .float .f32 x1, .float .f64 (fwide x1), .slice b_a b_n b_e, .int .i64 i, .pointer (some ⟨b2, f2 + (i : Int).toNat * 1, none⟩), .float .f32 x2, .float .f64 (fwide x2), .bool r1, .bool (!r1)] H1) (R .normal [.slice a_a a_n a_e, .slice b_a b_n b_e, undef, undef, .bool t4, .int .i64 (IntKind.wrap .i64 (i + 1)), .slice a_a a_n a_e, .int .i64 (a_n : Int), .slice b_a b_n b_e, .int .i64 (b_n : Int), .bool (((a_n : Int) : Int) != (b_n : Int)), .int .i64 i, .slice a_a a_n a_e, .int .i64 (a_n : Int), .bool (decide ((i : Int) < (a_n : Int))), .int .i64 i, .int .i64 (IntKind.wrap .i64 (i + 1)), .slice a_a a_n a_e, .int .i64 i, .pointer (some ⟨b1, f1 + (i : Int).toNat * 1, none⟩), .float .f32 x1, .float .f64 (fwide x1), .slice b_a b_n b_e, .int .i64 i, .pointer (some ⟨b2, f2 + (i : Int).toNat * 1, none⟩), .float .f32 x2, .float .f64 (fwide x2), .bool r1, .bool (!r1)] H1)) (R (.exit 0) [.slice a_a a_n a_e, .slice b_a b_n b_e, undef, undef, .bool t4, .int .i64 i, .slice a_a a_n a_e, .int .i64 (a_n : Int), .slice b_a b_n b_e, .int .i64 (b_n : Int), .bool (((a_n : Int) : Int) != (b_n : Int)), .int .i64 i, .slice a_a a_n a_e, .int .i64 (a_n : Int), .bool (decide ((i : Int) < (a_n : Int))), g15, g16, g17, g18, g19, g20, g21, g22, g23, g24, g25, g26, g27, g28] H)) := by kernel_rfl
def laws_eqFloat32S_I1 (a_a : Option Addr) (a_e : Nat) (a_n : Nat) (b_a : Option Addr) (b_e : Nat) (b_n : Nat) (Inv : Nat → Bool → Int → AHeap → Prop) : Nat → List Value → AHeap → Prop := fun μ tm H => ∃ (t4 : Bool), ∃ (i : Int), ∃ g11 g12 g13 g14 g15 g16 g17 g18 g19 g20 g21 g22 g23 g24 g25 g26 g27 g28, tm = [.slice a_a a_n a_e, .slice b_a b_n b_e, undef, undef, .bool t4, .int .i64 i, .slice a_a a_n a_e, .int .i64 (a_n : Int), .slice b_a b_n b_e, .int .i64 (b_n : Int), .bool (((a_n : Int) : Int) != (b_n : Int)), g11, g12, g13, g14, g15, g16, g17, g18, g19, g20, g21, g22, g23, g24, g25, g26, g27, g28] ∧ Inv μ t4 i H
theorem laws_eqFloat32S_L1 (a_a : Option Addr) (a_e : Nat) (a_n : Nat) (b_a : Option Addr) (b_e : Nat) (b_n : Nat) {Q : Post} (Inv : Nat → Bool → Int → AHeap → Prop) (ν : Nat) (t4 : Bool) (i : Int) (g11 g12 g13 g14 g15 g16 g17 g18 g19 g20 g21 g22 g23 g24 g25 g26 g27 g28 : Value) (H : AHeap) (h0 : Inv ν t4 i H)
    (hs : ∀ (μ : Nat) (t4 : Bool) (i : Int) (g11 g12 g13 g14 g15 g16 g17 g18 g19 g20 g21 g22 g23 g24 g25 g26 g27 g28 : Value) (H : AHeap), Inv μ t4 i H → exK Try.prog E_laws_eqFloat32S (cl (cl (cr (cl (cr (cr (bodyC Try.f19))))))) [.slice a_a a_n a_e, .slice b_a b_n b_e, undef, undef, .bool t4, .int .i64 i, .slice a_a a_n a_e, .int .i64 (a_n : Int), .slice b_a b_n b_e, .int .i64 (b_n : Int), .bool (((a_n : Int) : Int) != (b_n : Int)), g11, g12, g13, g14, g15, g16, g17, g18, g19, g20, g21, g22, g23, g24, g25, g26, g27, g28] H (loopQ (laws_eqFloat32S_I1 a_a a_e a_n b_a b_e b_n Inv) μ Q)) : loopK (exK Try.prog E_laws_eqFloat32S (cl (cl (cr (cl (cr (cr (bodyC Try.f19)))))))) [.slice a_a a_n a_e, .slice b_a b_n b_e, undef, undef, .bool t4, .int .i64 i, .slice a_a a_n a_e, .int .i64 (a_n : Int), .slice b_a b_n b_e, .int .i64 (b_n : Int), .bool (((a_n : Int) : Int) != (b_n : Int)), g11, g12, g13, g14, g15, g16, g17, g18, g19, g20, g21, g22, g23, g24, g25, g26, g27, g28] H Q :=
  ⟨laws_eqFloat32S_I1 a_a a_e a_n b_a b_e b_n Inv, ν, ⟨t4, i, g11, g12, g13, g14, g15, g16, g17, g18, g19, g20, g21, g22, g23, g24, g25, g26, g27, g28, rfl, h0⟩, fun μ tm H h => by obtain ⟨t4, i, g11, g12, g13, g14, g15, g16, g17, g18, g19, g20, g21, g22, g23, g24, g25, g26, g27, g28, rfl, hI⟩ := h; exact hs μ t4 i g11 g12 g13 g14 g15 g16 g17 g18 g19 g20 g21 g22 g23 g24 g25 g26 g27 g28 H hI⟩
theorem laws_eqFloat32S_n1 {a_a : Option Addr} {a_e : Nat} {a_n : Nat} {b_a : Option Addr} {b_e : Nat} {b_n : Nat} {Q : Post} {Inv : Nat → Bool → Int → AHeap → Prop} {μ : Nat} (μ' : Nat) {t4 : Bool} {i : Int} {g11 g12 g13 g14 g15 g16 g17 g18 g19 g20 g21 g22 g23 g24 g25 g26 g27 g28 : Value} {H : AHeap} (hm : μ' < μ) (hI : Inv μ' t4 i H) : loopQ (laws_eqFloat32S_I1 a_a a_e a_n b_a b_e b_n Inv) μ Q .normal [.slice a_a a_n a_e, .slice b_a b_n b_e, undef, undef, .bool t4, .int .i64 i, .slice a_a a_n a_e, .int .i64 (a_n : Int), .slice b_a b_n b_e, .int .i64 (b_n : Int), .bool (((a_n : Int) : Int) != (b_n : Int)), g11, g12, g13, g14, g15, g16, g17, g18, g19, g20, g21, g22, g23, g24, g25, g26, g27, g28] H := ⟨μ', hm, t4, i, g11, g12, g13, g14, g15, g16, g17, g18, g19, g20, g21, g22, g23, g24, g25, g26, g27, g28, rfl, hI⟩
theorem laws_eqFloat32S_x1_0 (a_a : Option Addr) (a_e : Nat) (a_n : Nat) (b_a : Option Addr) (b_e : Nat) (b_n : Nat) (t4 : Bool) (i : Int) (g11 g12 g13 g14 g15 g16 g17 g18 g19 g20 g21 g22 g23 g24 g25 g26 g27 g28 : Value) (H : AHeap) (K : Value → AHeap → Prop)  {I : Nat → List Value → AHeap → Prop} {μ : Nat} : loopQ I μ (blockQ 0 (seqQ (exK Try.prog E_laws_eqFloat32S (cr (cr (cr (bodyC Try.f19))))) (retK Try.prog Try.f19 K))) (.exit 0) [.slice a_a a_n a_e, .slice b_a b_n b_e, undef, undef, .bool t4, .int .i64 i, .slice a_a a_n a_e, .int .i64 (a_n : Int), .slice b_a b_n b_e, .int .i64 (b_n : Int), .bool (((a_n : Int) : Int) != (b_n : Int)), g11, g12, g13, g14, g15, g16, g17, g18, g19, g20, g21, g22, g23, g24, g25, g26, g27, g28] H =
  (K (.bool true) H) := by kernel_rfl
theorem laws_eqFloat32S_x1_ret (a_a : Option Addr) (a_e : Nat) (a_n : Nat) (b_a : Option Addr) (b_e : Nat) (b_n : Nat) (t4 : Bool) (i : Int) (g11 g12 g13 g14 g15 g16 g17 g18 g19 g20 g21 g22 g23 g24 g25 g26 g27 g28 : Value) (H : AHeap) (K : Value → AHeap → Prop)  {I : Nat → List Value → AHeap → Prop} {μ : Nat} : loopQ I μ (blockQ 0 (seqQ (exK Try.prog E_laws_eqFloat32S (cr (cr (cr (bodyC Try.f19))))) (retK Try.prog Try.f19 K))) .ret [.slice a_a a_n a_e, .slice b_a b_n b_e, undef, undef, .bool t4, .int .i64 i, .slice a_a a_n a_e, .int .i64 (a_n : Int), .slice b_a b_n b_e, .int .i64 (b_n : Int), .bool (((a_n : Int) : Int) != (b_n : Int)), g11, g12, g13, g14, g15, g16, g17, g18, g19, g20, g21, g22, g23, g24, g25, g26, g27, g28] H =
  (K (.bool t4) H) := by kernel_rfl
theorem E_laws_eqFloat32S_ok : ∀ g, FnOk Try.prog g (E_laws_eqFloat32S g) := FnOk.envOf (by
  intro x hx
  simp only [List.mem_cons, List.not_mem_nil, or_false] at hx
  subst hx; exact laws_sameFloat_ok)
set_option maxHeartbeats 1000000 in
theorem laws_eqFloat32S_main (a_a : Option Addr) (a_n : Nat) (a_e : Nat) (b_a : Option Addr) (b_n : Nat) (b_e : Nat) (H : AHeap) (K : Value → AHeap → Prop) (h : T_laws_eqFloat32S a_a a_n a_e b_a b_n b_e H fun (r1 : Bool) (H' : AHeap) => K (.bool r1) H') : bodyK Try.prog E_laws_eqFloat32S Try.f19 [.slice a_a a_n a_e, .slice b_a b_n b_e] H K := by
  rw [laws_eqFloat32S_vc]
  obtain ⟨l_a, l_b, i_a, i_b, bd_13, bd_14, hk⟩ := h
  obtain rfl := i_a.eqn
  obtain rfl := i_b.eqn
  have e : (p_laws_eqFloat32S l_a l_b) = _ := rfl
  have e := e.trans (p_laws_eqFloat32S_eq l_a l_b)
  have g0 := Grow.refl H
  refine Br.intro (fun c_1 => ?_) (fun c_1 => ?_)
  · have e := e.trans (cond_t c_1)
    have c_1' := ine_t c_1
    rw [e] at hk
    exact hk
  · have e := e.trans (cond_f c_1)
    have c_1' := ine_f c_1
    refine laws_eqFloat32S_L1 _ _ _ _ _ _ (fun (μ : Nat) (t4 : Bool) (i : Int) (H_1 : AHeap) => H = H_1 ∧ (0 : Int) ≤ i ∧ i ≤ (l_a.length : Int) ∧ (l_a.length : Int) - i ≤ (μ : Int) ∧ p_laws_eqFloat32S l_a l_b = p_laws_eqFloat32S_l1 l_a l_b (μ + 1) t4 i) (Int.toNat ((l_a.length : Int) - (0 : Int))) _ _ _ _ _ _ _ _ _ _ _ _ _ _ _ _ _ _ _ _ H ?_ ?_
    · exact ⟨rfl, (by first | omega | (simp; done) | (simp; omega)), (by first | omega | (simp; done) | (simp; omega)), (by omega), e⟩
    · intro μ t4 i g11 g12 g13 g14 g15 g16 g17 g18 g19 g20 g21 g22 g23 g24 g25 g26 g27 g28 H_1 hI
      obtain ⟨rfl, v_2, v_3, hμ, e⟩ := hI
      rw [laws_eqFloat32S_r1]
      have e := e.trans (p_laws_eqFloat32S_l1_s l_a l_b μ t4 i)
      have l_4 := g0.1
      refine Br.intro (fun c_5 => ?_) (fun c_5 => ?_)
      · have e := e.trans (cond_t c_5)
        have c_5' := of_decide_eq_true c_5
        obtain ⟨b_6, f_7, q_8⟩ := ((i_a.grow g0)).pos (by first | omega | (simp only [List.length_set, List.length_replicate, List.length_append, List.length_cons, List.length_nil, List.length_take, List.length_drop, marks_length]; done) | (simp only [List.length_set, List.length_replicate, List.length_append, List.length_cons, List.length_nil, List.length_take, List.length_drop, marks_length]; omega))
        refine ⟨by omega, by omega, b_6, f_7, q_8, ?_⟩
        refine ⟨((l_a).getD (i : Int).toNat 0), (i_a).rd g0 q_8 (by omega) _, ?_⟩
        obtain ⟨b_9, f_10, q_11⟩ := ((i_b.grow g0)).pos (by first | omega | (simp only [List.length_set, List.length_replicate, List.length_append, List.length_cons, List.length_nil, List.length_take, List.length_drop, marks_length]; done) | (simp only [List.length_set, List.length_replicate, List.length_append, List.length_cons, List.length_nil, List.length_take, List.length_drop, marks_length]; omega))
        refine ⟨by omega, by omega, b_9, f_10, q_11, ?_⟩
        refine ⟨((l_b).getD (i : Int).toNat 0), (i_b).rd g0 q_11 (by omega) _, ?_⟩
        refine T_laws_sameFloat_i ?_
        refine Br.intro (fun c_12 => ?_) (fun c_12 => ?_)
        · have e := e.trans (cond_t c_12)
          have c_12n := nf_of_t c_12
          rw [laws_eqFloat32S_x1_ret]
          rw [e] at hk
          exact hk
        · have e := e.trans (cond_f c_12)
          have c_12n := nt_of_f c_12
          rw [show IntKind.wrap .i64 (i + 1) = (i + 1) from wrap64 (by omega) (by omega)]
          refine laws_eqFloat32S_n1 (μ - 1) (by omega) ⟨rfl, (by first | omega | (simp only [List.length_append, List.length_cons, List.length_nil, List.length_set]; done) | (simp only [List.length_append, List.length_cons, List.length_nil, List.length_set]; omega)), (by first | omega | (simp only [List.length_append, List.length_cons, List.length_nil, List.length_set]; done) | (simp only [List.length_append, List.length_cons, List.length_nil, List.length_set]; omega)), (by omega), (by rw [show μ - 1 + 1 = μ from by omega]; exact e)⟩
      · have e := e.trans (cond_f c_5)
        have c_5' := of_decide_eq_false c_5
        rw [laws_eqFloat32S_x1_0]
        rw [e] at hk
        exact hk
theorem laws_eqFloat32S_ok : FnOk Try.prog 19 S_laws_eqFloat32S := by
  refine FnOk.body mix_ok E_laws_eqFloat32S_ok Try.func19 rfl (by kernel_rfl) (by kernel_rfl) ?_ ?_ ?_ ?_ ?_
  · intro args H K K' h hk
    simp only [S_laws_eqFloat32S] at *
    unfold F_laws_eqFloat32S at *
    split at hk
    · obtain ⟨l_a, l_b, i_a, i_b, bd_13, bd_14, k⟩ := hk
      exact ⟨l_a, l_b, i_a, i_b, bd_13, bd_14, h _ _ k⟩
    · exact hk.elim
  · intro _ args H K hk
    simp only [S_laws_eqFloat32S] at *
    unfold F_laws_eqFloat32S at *
    split at hk
    · obtain ⟨l_a, l_b, i_a, i_b, bd_13, bd_14, k⟩ := hk
      exact ⟨_, k, fun K' k' => ⟨l_a, l_b, i_a, i_b, bd_13, bd_14, k'⟩⟩
    · exact hk.elim
  · intro args H K hk
    simp only [S_laws_eqFloat32S] at *
    unfold F_laws_eqFloat32S at *
    split at hk
    · obtain ⟨l_a, l_b, i_a, i_b, bd_13, bd_14, k⟩ := hk
      exact ⟨_, _, k⟩
    · exact hk.elim
  · intro hq; cases hq
  · have mm := @laws_eqFloat32S_main
    revert mm
    generalize bodyK Try.prog E_laws_eqFloat32S Try.f19 = Q
    intro mm args H K hk
    simp only [S_laws_eqFloat32S] at *
    unfold F_laws_eqFloat32S at *
    split at hk
    · exact mm _ _ _ _ _ _ H K hk
    · exact hk.elim
def p_laws_markFloat32S_l1 (l_a : List Nat) (k : Int) : Nat → Int → Int → (List Nat) → Int × (List Nat)
  | 0, _, _, _ => (0, [])
  | μ + 1, k_1, i, y1_1 => (bif decide ((i : Int) < (l_a.length : Int)) then (p_laws_markFloat32S_l1 l_a k μ (IntKind.wrap .i64 (k_1 + 1)) (i + 1) (((y1_1).set (i : Int).toNat (FloatKind.nearest .f32 k_1)))) else (k_1, y1_1))
theorem p_laws_markFloat32S_l1_s (l_a : List Nat) (k : Int) (μ : Nat) (k_1 : Int) (i : Int) (y1_1 : List Nat) : p_laws_markFloat32S_l1 l_a k (μ + 1) k_1 i y1_1 = (bif decide ((i : Int) < (l_a.length : Int)) then (p_laws_markFloat32S_l1 l_a k μ (IntKind.wrap .i64 (k_1 + 1)) (i + 1) (((y1_1).set (i : Int).toNat (FloatKind.nearest .f32 k_1)))) else (k_1, y1_1)) := rfl
def p_laws_markFloat32S (l_a : List Nat) (k : Int) : Int × (List Nat) := (p_laws_markFloat32S_l1 l_a k (Int.toNat ((l_a.length : Int) - (0 : Int)) + 1) k (0 : Int) l_a)
theorem p_laws_markFloat32S_eq (l_a : List Nat) (k : Int) : p_laws_markFloat32S l_a k = (p_laws_markFloat32S_l1 l_a k (Int.toNat ((l_a.length : Int) - (0 : Int)) + 1) k (0 : Int) l_a) := rfl
def T_laws_markFloat32S (a_a : Option Addr) (a_n : Nat) (a_e : Nat) (k : Int) (H : AHeap) (K : Int → AHeap → Prop) : Prop := ∃ lo : Nat, ∃ (l_a : List Nat), OwnS fF H lo a_a a_n a_e l_a ∧ l_a.length < 1073741824 ∧ ((∀ H' : AHeap, KeepA a_a H H' → OwnS fF H' lo a_a a_n a_e (marks (FloatKind.nearest .f32) k l_a.length) → K (wk k l_a.length) H'))
theorem T_laws_markFloat32S_i {a_a : Option Addr} {a_n : Nat} {a_e : Nat} {k : Int} {H : AHeap} {K : Int → AHeap → Prop} (h : ∃ lo : Nat, ∃ (l_a : List Nat), OwnS fF H lo a_a a_n a_e l_a ∧ l_a.length < 1073741824 ∧ ((∀ H' : AHeap, KeepA a_a H H' → OwnS fF H' lo a_a a_n a_e (marks (FloatKind.nearest .f32) k l_a.length) → K (wk k l_a.length) H'))) : T_laws_markFloat32S a_a a_n a_e k H K := h
theorem laws_markFloat32S_go (l : List Nat) (k0 : Int) : ∀ (μ : Nat) (k : Int) (i : Nat) (ys : List Nat), ys.length = l.length → i ≤ l.length → l.length - i < μ →
    p_laws_markFloat32S_l1 l k0 μ k (i : Int) ys = (wk k (l.length - i), ys.take i ++ marks (FloatKind.nearest .f32) k (l.length - i)) := by
  intro μ
  induction μ with
  | zero => intro k i ys _ _ h; omega
  | succ μ ih =>
    intro k i ys hy hi hm
    rw [p_laws_markFloat32S_l1_s]
    by_cases h : i < l.length
    · rw [decide_eq_true (show (i : Int) < (l.length : Int) by omega), cond_true, Int.toNat_natCast]
      have := ih (IntKind.wrap .i64 (k + 1)) (i + 1) (ys.set i ((FloatKind.nearest .f32) k)) (by simp [hy]) (by omega) (by omega)
      obtain ⟨d, hd⟩ : ∃ d, l.length - i = d + 1 := ⟨l.length - i - 1, by omega⟩
      rw [show l.length - (i + 1) = d by omega] at this
      rw [hd, wk, marks]
      refine Eq.trans this ?_
      rw [List.take_add_one, List.getElem?_set_self (by omega), List.take_set_of_le (Nat.le_refl i)]
      simp
    · rw [decide_eq_false (show ¬ (i : Int) < (l.length : Int) by omega), cond_false]
      rw [show l.length - i = 0 by omega, wk, marks, List.append_nil, List.take_of_length_le (by omega)]
theorem laws_markFloat32S_val (l : List Nat) (k : Int) : p_laws_markFloat32S l k = (wk k l.length, marks (FloatKind.nearest .f32) k l.length) := by
  rw [p_laws_markFloat32S_eq]
  have := laws_markFloat32S_go l k (Int.toNat ((l.length : Int) - 0) + 1) k 0 l rfl (by omega) (by omega)
  simpa using this
/-! laws_markFloat32S: function 22 -/
def E_laws_markFloat32S : Env := envOf []
def F_laws_markFloat32S : List Value → AHeap → (Value → AHeap → Prop) → Prop
  | [.slice a_a a_n a_e, .int .i64 k], H, K => T_laws_markFloat32S a_a a_n a_e k H fun (r1 : Int) (H' : AHeap) => K (.int .i64 r1) H'
  | _, _, _ => False
def S_laws_markFloat32S : FSpec := { F := F_laws_markFloat32S, quiet := false, tame := false }
theorem laws_markFloat32S_vc (a_a : Option Addr) (a_n : Nat) (a_e : Nat) (k : Int) (H : AHeap) (K : Value → AHeap → Prop) : bodyK Try.prog E_laws_markFloat32S Try.f22 [.slice a_a a_n a_e, .int .i64 k] H K =
  (loopK (exK Try.prog E_laws_markFloat32S (cl (cl (cr (cl (cr (bodyC Try.f22))))))) [.slice a_a a_n a_e, .int .i64 k, undef, undef, .int .i64 0, .int .i64 0, undef, undef, undef, undef, undef, undef, undef, undef, undef, undef, undef, undef, undef, undef] H (blockQ 0 (seqQ (exK Try.prog E_laws_markFloat32S (cr (cr (bodyC Try.f22)))) (retK Try.prog Try.f22 K)))) := by kernel_rfl
theorem laws_markFloat32S_r1 (a_a : Option Addr) (a_e : Nat) (a_n : Nat) (k_1 : Int) (i : Int) (g6 g7 g8 g9 g10 g11 g12 g13 g14 g15 g16 g17 g18 : Value) (H : AHeap) (R : Post) : exK Try.prog E_laws_markFloat32S (cl (cl (cr (cl (cr (bodyC Try.f22)))))) [.slice a_a a_n a_e, .int .i64 k_1, undef, undef, .int .i64 0, .int .i64 i, g6, g7, g8, g9, g10, g11, g12, g13, g14, g15, g16, g17, g18, undef] H R =
  (Br (decide ((i : Int) < (a_n : Int))) ((0 : Int) ≤ i ∧ i < (a_n : Int) ∧ ∃ b1 f1, (a_a : Option Addr) = some ⟨b1, f1, none⟩ ∧ isOwn H b1 ∧ (∃ l, rdN H b1 (f1 + (i : Int).toNat * 1) 1 = some l) ∧ Lt (setC H b1 (f1 + (i : Int).toNat * 1) (.float .f32 (FloatKind.nearest .f32 k_1))) fun H1 => R .normal [.slice a_a a_n a_e, .int .i64 (IntKind.wrap .i64 (k_1 + 1)), undef, undef, .int .i64 0, .int .i64 (IntKind.wrap .i64 (i + 1)), .int .i64 i, .slice a_a a_n a_e, .int .i64 (a_n : Int), .bool (decide ((i : Int) < (a_n : Int))), .int .i64 i, .int .i64 (IntKind.wrap .i64 (i + 1)), .slice a_a a_n a_e, .int .i64 i, .int .i64 k_1, .float .f32 (FloatKind.nearest .f32 k_1), .pointer (some ⟨b1, f1 + (i : Int).toNat * 1, none⟩), .int .i64 k_1, .int .i64 (IntKind.wrap .i64 (k_1 + 1)), undef] H1) (R (.exit 0) [.slice a_a a_n a_e, .int .i64 k_1, undef, undef, .int .i64 0, .int .i64 i, .int .i64 i, .slice a_a a_n a_e, .int .i64 (a_n : Int), .bool (decide ((i : Int) < (a_n : Int))), g10, g11, g12, g13, g14, g15, g16, g17, g18, undef] H)) := by kernel_rfl
def laws_markFloat32S_I1 (a_a : Option Addr) (a_e : Nat) (a_n : Nat) (Inv : Nat → Int → Int → AHeap → Prop) : Nat → List Value → AHeap → Prop := fun μ tm H => ∃ (k_1 : Int), ∃ (i : Int), ∃ g6 g7 g8 g9 g10 g11 g12 g13 g14 g15 g16 g17 g18, tm = [.slice a_a a_n a_e, .int .i64 k_1, undef, undef, .int .i64 0, .int .i64 i, g6, g7, g8, g9, g10, g11, g12, g13, g14, g15, g16, g17, g18, undef] ∧ Inv μ k_1 i H
theorem laws_markFloat32S_L1 (a_a : Option Addr) (a_e : Nat) (a_n : Nat) {Q : Post} (Inv : Nat → Int → Int → AHeap → Prop) (ν : Nat) (k_1 : Int) (i : Int) (g6 g7 g8 g9 g10 g11 g12 g13 g14 g15 g16 g17 g18 : Value) (H : AHeap) (h0 : Inv ν k_1 i H)
    (hs : ∀ (μ : Nat) (k_1 : Int) (i : Int) (g6 g7 g8 g9 g10 g11 g12 g13 g14 g15 g16 g17 g18 : Value) (H : AHeap), Inv μ k_1 i H → exK Try.prog E_laws_markFloat32S (cl (cl (cr (cl (cr (bodyC Try.f22)))))) [.slice a_a a_n a_e, .int .i64 k_1, undef, undef, .int .i64 0, .int .i64 i, g6, g7, g8, g9, g10, g11, g12, g13, g14, g15, g16, g17, g18, undef] H (loopQ (laws_markFloat32S_I1 a_a a_e a_n Inv) μ Q)) : loopK (exK Try.prog E_laws_markFloat32S (cl (cl (cr (cl (cr (bodyC Try.f22))))))) [.slice a_a a_n a_e, .int .i64 k_1, undef, undef, .int .i64 0, .int .i64 i, g6, g7, g8, g9, g10, g11, g12, g13, g14, g15, g16, g17, g18, undef] H Q :=
  ⟨laws_markFloat32S_I1 a_a a_e a_n Inv, ν, ⟨k_1, i, g6, g7, g8, g9, g10, g11, g12, g13, g14, g15, g16, g17, g18, rfl, h0⟩, fun μ tm H h => by obtain ⟨k_1, i, g6, g7, g8, g9, g10, g11, g12, g13, g14, g15, g16, g17, g18, rfl, hI⟩ := h; exact hs μ k_1 i g6 g7 g8 g9 g10 g11 g12 g13 g14 g15 g16 g17 g18 H hI⟩
theorem laws_markFloat32S_n1 {a_a : Option Addr} {a_e : Nat} {a_n : Nat} {Q : Post} {Inv : Nat → Int → Int → AHeap → Prop} {μ : Nat} (μ' : Nat) {k_1 : Int} {i : Int} {g6 g7 g8 g9 g10 g11 g12 g13 g14 g15 g16 g17 g18 : Value} {H : AHeap} (hm : μ' < μ) (hI : Inv μ' k_1 i H) : loopQ (laws_markFloat32S_I1 a_a a_e a_n Inv) μ Q .normal [.slice a_a a_n a_e, .int .i64 k_1, undef, undef, .int .i64 0, .int .i64 i, g6, g7, g8, g9, g10, g11, g12, g13, g14, g15, g16, g17, g18, undef] H := ⟨μ', hm, k_1, i, g6, g7, g8, g9, g10, g11, g12, g13, g14, g15, g16, g17, g18, rfl, hI⟩
theorem laws_markFloat32S_x1_0 (a_a : Option Addr) (a_e : Nat) (a_n : Nat) (k_1 : Int) (i : Int) (g6 g7 g8 g9 g10 g11 g12 g13 g14 g15 g16 g17 g18 : Value) (H : AHeap) (K : Value → AHeap → Prop)  {I : Nat → List Value → AHeap → Prop} {μ : Nat} : loopQ I μ (blockQ 0 (seqQ (exK Try.prog E_laws_markFloat32S (cr (cr (bodyC Try.f22)))) (retK Try.prog Try.f22 K))) (.exit 0) [.slice a_a a_n a_e, .int .i64 k_1, undef, undef, .int .i64 0, .int .i64 i, g6, g7, g8, g9, g10, g11, g12, g13, g14, g15, g16, g17, g18, undef] H =
  (K (.int .i64 k_1) H) := by kernel_rfl
theorem E_laws_markFloat32S_ok : ∀ g, FnOk Try.prog g (E_laws_markFloat32S g) := FnOk.envOf (by
  intro x hx; cases hx)
set_option maxHeartbeats 1000000 in
theorem laws_markFloat32S_main (a_a : Option Addr) (a_n : Nat) (a_e : Nat) (k : Int) (H : AHeap) (K : Value → AHeap → Prop) (h : T_laws_markFloat32S a_a a_n a_e k H fun (r1 : Int) (H' : AHeap) => K (.int .i64 r1) H') : bodyK Try.prog E_laws_markFloat32S Try.f22 [.slice a_a a_n a_e, .int .i64 k] H K := by
  rw [laws_markFloat32S_vc]
  obtain ⟨lo, l_a, i_a, bd_18, hk⟩ := h
  have hk : (∀ H' : AHeap, KeepA a_a H H' → OwnS fF H' lo a_a a_n a_e ((p_laws_markFloat32S l_a k).2) → (fun (r1 : Int) (H' : AHeap) => K (.int .i64 r1) H') ((p_laws_markFloat32S l_a k).1) H') := by rw [laws_markFloat32S_val l_a k]; exact hk
  obtain rfl := i_a.len
  have up_m := i_a.up
  have lo_m := i_a.lo
  have e : (p_laws_markFloat32S l_a k) = _ := rfl
  have e := e.trans (p_laws_markFloat32S_eq l_a k)
  have g0 := KeepA.refl a_a H
  refine laws_markFloat32S_L1 _ _ _ (fun (μ : Nat) (k_1 : Int) (i : Int) (H_1 : AHeap) => ∃ (y1_1 : List Nat), OwnS fF H_1 lo a_a l_a.length a_e y1_1 ∧ y1_1.length = (l_a).length ∧ H.length ≤ H_1.length ∧ KeepA a_a H H_1 ∧ (0 : Int) ≤ i ∧ i ≤ (l_a.length : Int) ∧ (l_a.length : Int) - i ≤ (μ : Int) ∧ p_laws_markFloat32S l_a k = p_laws_markFloat32S_l1 l_a k (μ + 1) k_1 i y1_1) (Int.toNat ((l_a.length : Int) - (0 : Int))) _ _ _ _ _ _ _ _ _ _ _ _ _ _ _ H ?_ ?_
  · exact ⟨_, i_a, (by first | rfl | (simp; done)), (by omega), g0, (by first | omega | (simp; done) | (simp; omega)), (by first | omega | (simp; done) | (simp; omega)), (by omega), e⟩
  · intro μ k_1 i g6 g7 g8 g9 g10 g11 g12 g13 g14 g15 g16 g17 g18 H_1 hI
    obtain ⟨y1_1, r_1, y_2, n_3, g_4, v_5, v_6, hμ, e⟩ := hI
    rw [laws_markFloat32S_r1]
    have e := e.trans (p_laws_markFloat32S_l1_s l_a k μ k_1 i y1_1)
    have l_7 := g_4.1
    refine Br.intro (fun c_8 => ?_) (fun c_8 => ?_)
    · have e := e.trans (cond_t c_8)
      have c_8' := of_decide_eq_true c_8
      obtain ⟨b_9, f_10, q_11⟩ := (r_1.isL).pos (by first | omega | (simp only [List.length_set, List.length_replicate, List.length_append, List.length_cons, List.length_nil, List.length_take, List.length_drop, marks_length]; done) | (simp only [List.length_set, List.length_replicate, List.length_append, List.length_cons, List.length_nil, List.length_take, List.length_drop, marks_length]; omega))
      refine ⟨by omega, by omega, b_9, f_10, q_11, ?_⟩
      refine Lt.setS r_1 q_11 (by first | omega | (simp only [List.length_set]; (first | omega | (simp only [List.length_set, List.length_replicate, List.length_append, List.length_cons, List.length_nil, List.length_take, List.length_drop, marks_length]; done) | (simp only [List.length_set, List.length_replicate, List.length_append, List.length_cons, List.length_nil, List.length_take, List.length_drop, marks_length]; omega)))) (fun H_2 hl_12 o_14 k_13 => ?_)
      have l_15 := k_13.1
      have g_16 := g_4.transA k_13
      have l_17 := g_16.1
      rw [show IntKind.wrap .i64 (i + 1) = (i + 1) from wrap64 (by omega) (by omega)]
      refine laws_markFloat32S_n1 (μ - 1) (by omega) ⟨_, o_14, (by first | assumption | omega | (simp only [List.length_set]; first | rfl | assumption | omega)), (by omega), g_16, (by first | omega | (simp only [List.length_append, List.length_cons, List.length_nil, List.length_set]; done) | (simp only [List.length_append, List.length_cons, List.length_nil, List.length_set]; omega)), (by first | omega | (simp only [List.length_append, List.length_cons, List.length_nil, List.length_set]; done) | (simp only [List.length_append, List.length_cons, List.length_nil, List.length_set]; omega)), (by omega), (by rw [show μ - 1 + 1 = μ from by omega]; exact e)⟩
    · have e := e.trans (cond_f c_8)
      have c_8' := of_decide_eq_false c_8
      rw [laws_markFloat32S_x1_0]
      rw [e] at hk
      exact hk H_1 g_4 r_1
theorem laws_markFloat32S_ok : FnOk Try.prog 22 S_laws_markFloat32S := by
  refine FnOk.body mix_ok E_laws_markFloat32S_ok Try.func22 rfl (by kernel_rfl) (by kernel_rfl) ?_ ?_ ?_ ?_ ?_
  · intro args H K K' h hk
    simp only [S_laws_markFloat32S] at *
    unfold F_laws_markFloat32S at *
    split at hk
    · obtain ⟨lo, l_a, i_a, bd_18, k⟩ := hk
      exact ⟨lo, l_a, i_a, bd_18, (fun H' gg ow => h _ _ (k H' gg ow))⟩
    · exact hk.elim
  · intro hq; cases hq
  · intro args H K hk
    simp only [S_laws_markFloat32S] at *
    unfold F_laws_markFloat32S at *
    split at hk
    · obtain ⟨lo, l_a, i_a, bd_18, k⟩ := hk
      exact (OwnS.put i_a _ (by rw [marks_length])).elim fun H1 h => ⟨_, _, k H1 h.1 h.2⟩
    · exact hk.elim
  · intro hq; cases hq
  · have mm := @laws_markFloat32S_main
    revert mm
    generalize bodyK Try.prog E_laws_markFloat32S Try.f22 = Q
    intro mm args H K hk
    simp only [S_laws_markFloat32S] at *
    unfold F_laws_markFloat32S at *
    split at hk
    · exact mm _ _ _ _ H K hk
    · exact hk.elim
def p_laws_heldFloat32S_l1 (l_a : List Nat) (k : Int) : Nat → Int → Int → Int → Int
  | 0, _, _, _ => 0
  | μ + 1, k_1, t4, i => (bif decide ((i : Int) < (l_a.length : Int)) then (bif !(feq .f32 (((l_a).getD (i : Int).toNat 0)) (FloatKind.nearest .f32 k_1)) then ((-1) : Int) else (p_laws_heldFloat32S_l1 l_a k μ (IntKind.wrap .i64 (k_1 + 1)) t4 (i + 1))) else k_1)
theorem p_laws_heldFloat32S_l1_s (l_a : List Nat) (k : Int) (μ : Nat) (k_1 : Int) (t4 : Int) (i : Int) : p_laws_heldFloat32S_l1 l_a k (μ + 1) k_1 t4 i = (bif decide ((i : Int) < (l_a.length : Int)) then (bif !(feq .f32 (((l_a).getD (i : Int).toNat 0)) (FloatKind.nearest .f32 k_1)) then ((-1) : Int) else (p_laws_heldFloat32S_l1 l_a k μ (IntKind.wrap .i64 (k_1 + 1)) t4 (i + 1))) else k_1) := rfl
def p_laws_heldFloat32S (l_a : List Nat) (k : Int) : Int := (p_laws_heldFloat32S_l1 l_a k (Int.toNat ((l_a.length : Int) - (0 : Int)) + 1) k (0 : Int) (0 : Int))
theorem p_laws_heldFloat32S_eq (l_a : List Nat) (k : Int) : p_laws_heldFloat32S l_a k = (p_laws_heldFloat32S_l1 l_a k (Int.toNat ((l_a.length : Int) - (0 : Int)) + 1) k (0 : Int) (0 : Int)) := rfl
def T_laws_heldFloat32S (a_a : Option Addr) (a_n : Nat) (a_e : Nat) (k : Int) (H : AHeap) (K : Int → AHeap → Prop) : Prop := ∃ (l_a : List Nat), IsL fF H a_a a_n l_a ∧ l_a.length < 1073741824 ∧ K (p_laws_heldFloat32S l_a k) H
theorem T_laws_heldFloat32S_i {a_a : Option Addr} {a_n : Nat} {a_e : Nat} {k : Int} {H : AHeap} {K : Int → AHeap → Prop} (h : ∃ (l_a : List Nat), IsL fF H a_a a_n l_a ∧ l_a.length < 1073741824 ∧ K (p_laws_heldFloat32S l_a k) H) : T_laws_heldFloat32S a_a a_n a_e k H K := h
theorem laws_heldFloat32S_go (k0 : Int) : ∀ (μ : Nat) (i : Nat) (pre : List Nat) (k t : Int) (n : Nat), pre.length = i → n < μ →
    p_laws_heldFloat32S_l1 (pre ++ marks (FloatKind.nearest .f32) k n) k0 μ k t (i : Int) = wk k n := by
  intro μ
  induction μ with
  | zero => intro i pre k t n _ h; omega
  | succ μ ih =>
    intro i pre k t n hp hm
    rw [p_laws_heldFloat32S_l1_s]
    have hl : (pre ++ marks (FloatKind.nearest .f32) k n).length = i + n := by rw [List.length_append, hp, marks_length]
    rw [hl]
    cases n with
    | zero => rw [decide_eq_false (show ¬ (i : Int) < ((i + 0 : Nat) : Int) by omega), cond_false]; rfl
    | succ n =>
      rw [decide_eq_true (show (i : Int) < ((i + (n + 1) : Nat) : Int) by omega), cond_true, Int.toNat_natCast]
      have hx : (pre ++ marks (FloatKind.nearest .f32) k (n + 1)).getD i 0 = (FloatKind.nearest .f32) k := by
        rw [List.getD_eq_getElem?_getD, List.getElem?_append_right (by omega), hp, Nat.sub_self]; rfl
      rw [hx]
      have hq : (!(feq .f32 (FloatKind.nearest .f32 k) (FloatKind.nearest .f32 k))) = false := by rw [feq_nearest]; rfl
      simp only [hq, cond_false]
      have := ih (i + 1) (pre ++ [(FloatKind.nearest .f32) k]) (IntKind.wrap .i64 (k + 1)) t n (by simp [hp]) (by omega)
      rw [List.append_assoc] at this
      rw [wk]; exact this
theorem laws_heldFloat32S_marks (k : Int) (n : Nat) : p_laws_heldFloat32S (marks (FloatKind.nearest .f32) k n) k = wk k n := by
  rw [p_laws_heldFloat32S_eq]
  have := laws_heldFloat32S_go k (Int.toNat (((marks (FloatKind.nearest .f32) k n).length : Int) - 0) + 1) 0 [] k 0 n rfl (by rw [marks_length]; omega)
  simpa using this
/-! laws_heldFloat32S: function 23 -/
def E_laws_heldFloat32S : Env := envOf []
def F_laws_heldFloat32S : List Value → AHeap → (Value → AHeap → Prop) → Prop
  | [.slice a_a a_n a_e, .int .i64 k], H, K => T_laws_heldFloat32S a_a a_n a_e k H fun (r1 : Int) (H' : AHeap) => K (.int .i64 r1) H'
  | _, _, _ => False
def S_laws_heldFloat32S : FSpec := { F := F_laws_heldFloat32S, quiet := true, tame := false }
theorem laws_heldFloat32S_vc (a_a : Option Addr) (a_n : Nat) (a_e : Nat) (k : Int) (H : AHeap) (K : Value → AHeap → Prop) : bodyK Try.prog E_laws_heldFloat32S Try.f23 [.slice a_a a_n a_e, .int .i64 k] H K =
  (loopK (exK Try.prog E_laws_heldFloat32S (cl (cl (cr (cl (cr (bodyC Try.f23))))))) [.slice a_a a_n a_e, .int .i64 k, undef, undef, .int .i64 0, .int .i64 0, undef, undef, undef, undef, undef, undef, undef, undef, undef, undef, undef, undef, undef, undef, undef, undef] H (blockQ 0 (seqQ (exK Try.prog E_laws_heldFloat32S (cr (cr (bodyC Try.f23)))) (retK Try.prog Try.f23 K)))) := by kernel_rfl
theorem laws_heldFloat32S_r1 (a_a : Option Addr) (a_e : Nat) (a_n : Nat) (k_1 : Int) (t4 : Int) (i : Int) (g6 g7 g8 g9 g10 g11 g12 g13 g14 g15 g16 g17 g18 g19 g20 : Value) (H : AHeap) (R : Post) : exK Try.prog E_laws_heldFloat32S (cl (cl (cr (cl (cr (bodyC Try.f23)))))) [.slice a_a a_n a_e, .int .i64 k_1, undef, undef, .int .i64 t4, .int .i64 i, g6, g7, g8, g9, g10, g11, g12, g13, g14, g15, g16, g17, g18, g19, g20, undef] H R =
  (Br (decide ((i : Int) < (a_n : Int))) ((0 : Int) ≤ i ∧ i < (a_n : Int) ∧ ∃ b1 f1, (a_a : Option Addr) = some ⟨b1, f1, none⟩ ∧ ∃ x1 : Nat,  rdC H b1 (f1 + (i : Int).toNat * 1) = some (.float .f32 x1) ∧ Br (!(feq .f32 x1 (FloatKind.nearest .f32 k_1))) (R .ret [.slice a_a a_n a_e, .int .i64 k_1, undef, undef, .int .i64 (-1), .int .i64 i, .int .i64 i, .slice a_a a_n a_e, .int .i64 (a_n : Int), .bool (decide ((i : Int) < (a_n : Int))), g10, g11, .slice a_a a_n a_e, .int .i64 i, .pointer (some ⟨b1, f1 + (i : Int).toNat * 1, none⟩), .float .f32 x1, .int .i64 k_1, .float .f32 (FloatKind.nearest .f32 k_1), .bool (!(feq .f32 x1 (FloatKind.nearest .f32 k_1))), g19, g20, undef] H) (R .normal [.slice a_a a_n a_e, .int .i64 (IntKind.wrap .i64 (k_1 + 1)), undef, undef, .int .i64 t4, .int .i64 (IntKind.wrap .i64 (i + 1)), .int .i64 i, .slice a_a a_n a_e, .int .i64 (a_n : Int), .bool (decide ((i : Int) < (a_n : Int))), .int .i64 i, .int .i64 (IntKind.wrap .i64 (i + 1)), .slice a_a a_n a_e, .int .i64 i, .pointer (some ⟨b1, f1 + (i : Int).toNat * 1, none⟩), .float .f32 x1, .int .i64 k_1, .float .f32 (FloatKind.nearest .f32 k_1), .bool (!(feq .f32 x1 (FloatKind.nearest .f32 k_1))), .int .i64 k_1, .int .i64 (IntKind.wrap .i64 (k_1 + 1)), undef] H)) (R (.exit 0) [.slice a_a a_n a_e, .int .i64 k_1, undef, undef, .int .i64 t4, .int .i64 i, .int .i64 i, .slice a_a a_n a_e, .int .i64 (a_n : Int), .bool (decide ((i : Int) < (a_n : Int))), g10, g11, g12, g13, g14, g15, g16, g17, g18, g19, g20, undef] H)) := by kernel_rfl
def laws_heldFloat32S_I1 (a_a : Option Addr) (a_e : Nat) (a_n : Nat) (Inv : Nat → Int → Int → Int → AHeap → Prop) : Nat → List Value → AHeap → Prop := fun μ tm H => ∃ (k_1 : Int), ∃ (t4 : Int), ∃ (i : Int), ∃ g6 g7 g8 g9 g10 g11 g12 g13 g14 g15 g16 g17 g18 g19 g20, tm = [.slice a_a a_n a_e, .int .i64 k_1, undef, undef, .int .i64 t4, .int .i64 i, g6, g7, g8, g9, g10, g11, g12, g13, g14, g15, g16, g17, g18, g19, g20, undef] ∧ Inv μ k_1 t4 i H
theorem laws_heldFloat32S_L1 (a_a : Option Addr) (a_e : Nat) (a_n : Nat) {Q : Post} (Inv : Nat → Int → Int → Int → AHeap → Prop) (ν : Nat) (k_1 : Int) (t4 : Int) (i : Int) (g6 g7 g8 g9 g10 g11 g12 g13 g14 g15 g16 g17 g18 g19 g20 : Value) (H : AHeap) (h0 : Inv ν k_1 t4 i H)
    (hs : ∀ (μ : Nat) (k_1 : Int) (t4 : Int) (i : Int) (g6 g7 g8 g9 g10 g11 g12 g13 g14 g15 g16 g17 g18 g19 g20 : Value) (H : AHeap), Inv μ k_1 t4 i H → exK Try.prog E_laws_heldFloat32S (cl (cl (cr (cl (cr (bodyC Try.f23)))))) [.slice a_a a_n a_e, .int .i64 k_1, undef, undef, .int .i64 t4, .int .i64 i, g6, g7, g8, g9, g10, g11, g12, g13, g14, g15, g16, g17, g18, g19, g20, undef] H (loopQ (laws_heldFloat32S_I1 a_a a_e a_n Inv) μ Q)) : loopK (exK Try.prog E_laws_heldFloat32S (cl (cl (cr (cl (cr (bodyC Try.f23))))))) [.slice a_a a_n a_e, .int .i64 k_1, undef, undef, .int .i64 t4, .int .i64 i, g6, g7, g8, g9, g10, g11, g12, g13, g14, g15, g16, g17, g18, g19, g20, undef] H Q :=
  ⟨laws_heldFloat32S_I1 a_a a_e a_n Inv, ν, ⟨k_1, t4, i, g6, g7, g8, g9, g10, g11, g12, g13, g14, g15, g16, g17, g18, g19, g20, rfl, h0⟩, fun μ tm H h => by obtain ⟨k_1, t4, i, g6, g7, g8, g9, g10, g11, g12, g13, g14, g15, g16, g17, g18, g19, g20, rfl, hI⟩ := h; exact hs μ k_1 t4 i g6 g7 g8 g9 g10 g11 g12 g13 g14 g15 g16 g17 g18 g19 g20 H hI⟩
theorem laws_heldFloat32S_n1 {a_a : Option Addr} {a_e : Nat} {a_n : Nat} {Q : Post} {Inv : Nat → Int → Int → Int → AHeap → Prop} {μ : Nat} (μ' : Nat) {k_1 : Int} {t4 : Int} {i : Int} {g6 g7 g8 g9 g10 g11 g12 g13 g14 g15 g16 g17 g18 g19 g20 : Value} {H : AHeap} (hm : μ' < μ) (hI : Inv μ' k_1 t4 i H) : loopQ (laws_heldFloat32S_I1 a_a a_e a_n Inv) μ Q .normal [.slice a_a a_n a_e, .int .i64 k_1, undef, undef, .int .i64 t4, .int .i64 i, g6, g7, g8, g9, g10, g11, g12, g13, g14, g15, g16, g17, g18, g19, g20, undef] H := ⟨μ', hm, k_1, t4, i, g6, g7, g8, g9, g10, g11, g12, g13, g14, g15, g16, g17, g18, g19, g20, rfl, hI⟩
theorem laws_heldFloat32S_x1_0 (a_a : Option Addr) (a_e : Nat) (a_n : Nat) (k_1 : Int) (t4 : Int) (i : Int) (g6 g7 g8 g9 g10 g11 g12 g13 g14 g15 g16 g17 g18 g19 g20 : Value) (H : AHeap) (K : Value → AHeap → Prop)  {I : Nat → List Value → AHeap → Prop} {μ : Nat} : loopQ I μ (blockQ 0 (seqQ (exK Try.prog E_laws_heldFloat32S (cr (cr (bodyC Try.f23)))) (retK Try.prog Try.f23 K))) (.exit 0) [.slice a_a a_n a_e, .int .i64 k_1, undef, undef, .int .i64 t4, .int .i64 i, g6, g7, g8, g9, g10, g11, g12, g13, g14, g15, g16, g17, g18, g19, g20, undef] H =
  (K (.int .i64 k_1) H) := by kernel_rfl
theorem laws_heldFloat32S_x1_ret (a_a : Option Addr) (a_e : Nat) (a_n : Nat) (k_1 : Int) (t4 : Int) (i : Int) (g6 g7 g8 g9 g10 g11 g12 g13 g14 g15 g16 g17 g18 g19 g20 : Value) (H : AHeap) (K : Value → AHeap → Prop)  {I : Nat → List Value → AHeap → Prop} {μ : Nat} : loopQ I μ (blockQ 0 (seqQ (exK Try.prog E_laws_heldFloat32S (cr (cr (bodyC Try.f23)))) (retK Try.prog Try.f23 K))) .ret [.slice a_a a_n a_e, .int .i64 k_1, undef, undef, .int .i64 t4, .int .i64 i, g6, g7, g8, g9, g10, g11, g12, g13, g14, g15, g16, g17, g18, g19, g20, undef] H =
  (K (.int .i64 t4) H) := by kernel_rfl
theorem E_laws_heldFloat32S_ok : ∀ g, FnOk Try.prog g (E_laws_heldFloat32S g) := FnOk.envOf (by
  intro x hx; cases hx)
set_option maxHeartbeats 1000000 in
theorem laws_heldFloat32S_main (a_a : Option Addr) (a_n : Nat) (a_e : Nat) (k : Int) (H : AHeap) (K : Value → AHeap → Prop) (h : T_laws_heldFloat32S a_a a_n a_e k H fun (r1 : Int) (H' : AHeap) => K (.int .i64 r1) H') : bodyK Try.prog E_laws_heldFloat32S Try.f23 [.slice a_a a_n a_e, .int .i64 k] H K := by
  rw [laws_heldFloat32S_vc]
  obtain ⟨l_a, i_a, bd_9, hk⟩ := h
  obtain rfl := i_a.eqn
  have e : (p_laws_heldFloat32S l_a k) = _ := rfl
  have e := e.trans (p_laws_heldFloat32S_eq l_a k)
  have g0 := Grow.refl H
  refine laws_heldFloat32S_L1 _ _ _ (fun (μ : Nat) (k_1 : Int) (t4 : Int) (i : Int) (H_1 : AHeap) => H = H_1 ∧ (0 : Int) ≤ i ∧ i ≤ (l_a.length : Int) ∧ (l_a.length : Int) - i ≤ (μ : Int) ∧ p_laws_heldFloat32S l_a k = p_laws_heldFloat32S_l1 l_a k (μ + 1) k_1 t4 i) (Int.toNat ((l_a.length : Int) - (0 : Int))) _ _ _ _ _ _ _ _ _ _ _ _ _ _ _ _ _ _ H ?_ ?_
  · exact ⟨rfl, (by first | omega | (simp; done) | (simp; omega)), (by first | omega | (simp; done) | (simp; omega)), (by omega), e⟩
  · intro μ k_1 t4 i g6 g7 g8 g9 g10 g11 g12 g13 g14 g15 g16 g17 g18 g19 g20 H_1 hI
    obtain ⟨rfl, v_1, v_2, hμ, e⟩ := hI
    rw [laws_heldFloat32S_r1]
    have e := e.trans (p_laws_heldFloat32S_l1_s l_a k μ k_1 t4 i)
    have l_3 := g0.1
    refine Br.intro (fun c_4 => ?_) (fun c_4 => ?_)
    · have e := e.trans (cond_t c_4)
      have c_4' := of_decide_eq_true c_4
      obtain ⟨b_5, f_6, q_7⟩ := ((i_a.grow g0)).pos (by first | omega | (simp only [List.length_set, List.length_replicate, List.length_append, List.length_cons, List.length_nil, List.length_take, List.length_drop, marks_length]; done) | (simp only [List.length_set, List.length_replicate, List.length_append, List.length_cons, List.length_nil, List.length_take, List.length_drop, marks_length]; omega))
      refine ⟨by omega, by omega, b_5, f_6, q_7, ?_⟩
      refine ⟨((l_a).getD (i : Int).toNat 0), (i_a).rd g0 q_7 (by omega) _, ?_⟩
      refine Br.intro (fun c_8 => ?_) (fun c_8 => ?_)
      · have e := e.trans (cond_t c_8)
        have c_8n := nf_of_t c_8
        rw [laws_heldFloat32S_x1_ret]
        rw [e] at hk
        exact hk
      · have e := e.trans (cond_f c_8)
        have c_8n := nt_of_f c_8
        rw [show IntKind.wrap .i64 (i + 1) = (i + 1) from wrap64 (by omega) (by omega)]
        refine laws_heldFloat32S_n1 (μ - 1) (by omega) ⟨rfl, (by first | omega | (simp only [List.length_append, List.length_cons, List.length_nil, List.length_set]; done) | (simp only [List.length_append, List.length_cons, List.length_nil, List.length_set]; omega)), (by first | omega | (simp only [List.length_append, List.length_cons, List.length_nil, List.length_set]; done) | (simp only [List.length_append, List.length_cons, List.length_nil, List.length_set]; omega)), (by omega), (by rw [show μ - 1 + 1 = μ from by omega]; exact e)⟩
    · have e := e.trans (cond_f c_4)
      have c_4' := of_decide_eq_false c_4
      rw [laws_heldFloat32S_x1_0]
      rw [e] at hk
      exact hk
theorem laws_heldFloat32S_ok : FnOk Try.prog 23 S_laws_heldFloat32S := by
  refine FnOk.body mix_ok E_laws_heldFloat32S_ok Try.func23 rfl (by kernel_rfl) (by kernel_rfl) ?_ ?_ ?_ ?_ ?_
  · intro args H K K' h hk
    simp only [S_laws_heldFloat32S] at *
    unfold F_laws_heldFloat32S at *
    split at hk
    · obtain ⟨l_a, i_a, bd_9, k⟩ := hk
      exact ⟨l_a, i_a, bd_9, h _ _ k⟩
    · exact hk.elim
  · intro _ args H K hk
    simp only [S_laws_heldFloat32S] at *
    unfold F_laws_heldFloat32S at *
    split at hk
    · obtain ⟨l_a, i_a, bd_9, k⟩ := hk
      exact ⟨_, k, fun K' k' => ⟨l_a, i_a, bd_9, k'⟩⟩
    · exact hk.elim
  · intro args H K hk
    simp only [S_laws_heldFloat32S] at *
    unfold F_laws_heldFloat32S at *
    split at hk
    · obtain ⟨l_a, i_a, bd_9, k⟩ := hk
      exact ⟨_, _, k⟩
    · exact hk.elim
  · intro hq; cases hq
  · have mm := @laws_heldFloat32S_main
    revert mm
    generalize bodyK Try.prog E_laws_heldFloat32S Try.f23 = Q
    intro mm args H K hk
    simp only [S_laws_heldFloat32S] at *
    unfold F_laws_heldFloat32S at *
    split at hk
    · exact mm _ _ _ _ H K hk
    · exact hk.elim
def p_laws_FnExactWithoutSeason (l_aList : List Nat) (aPeriod : Int) : Bool := (bif decide ((1048576 : Int) < (l_aList.length : Int)) then true else (bif !((p_laws_eqFloat32S ((p_impl_WithoutSeason l_aList aPeriod).1) ((p_spec_WithoutSeason l_aList aPeriod).1))) then false else (bif !(((p_impl_WithoutSeason l_aList aPeriod).2) == ((p_spec_WithoutSeason l_aList aPeriod).2)) then false else (bif !(p_laws_eqFloat32S l_aList l_aList) then false else (bif decide (((wk (1 : Int) l_aList.length) : Int) < 0) then false else (bif !((p_laws_eqFloat32S ((p_impl_WithoutSeason l_aList aPeriod).1) ((p_spec_WithoutSeason l_aList aPeriod).1))) then false else (bif !(((p_impl_WithoutSeason l_aList aPeriod).2) == ((p_spec_WithoutSeason l_aList aPeriod).2)) then false else (bif decide (((p_laws_heldFloat32S ((marks (FloatKind.nearest .f32) (1 : Int) ((p_impl_WithoutSeason l_aList aPeriod).1).length)) (1 : Int)) : Int) < 0) then false else (bif ((p_laws_heldFloat32S ((marks (FloatKind.nearest .f32) (1 : Int) ((p_impl_WithoutSeason l_aList aPeriod).1).length)) (1 : Int)) : Int) != (wk (1 : Int) ((p_impl_WithoutSeason l_aList aPeriod).1).length) then false else (bif !((p_laws_eqFloat32S ((p_impl_WithoutSeason l_aList aPeriod).1) ((p_spec_WithoutSeason l_aList aPeriod).1))) then false else (bif !(((p_impl_WithoutSeason l_aList aPeriod).2) == ((p_spec_WithoutSeason l_aList aPeriod).2)) then false else (bif decide (((p_laws_heldFloat32S ((marks (FloatKind.nearest .f32) (1 : Int) ((p_impl_WithoutSeason l_aList aPeriod).1).length)) (1 : Int)) : Int) < 0) then false else (bif ((p_laws_heldFloat32S ((marks (FloatKind.nearest .f32) (1 : Int) ((p_impl_WithoutSeason l_aList aPeriod).1).length)) (1 : Int)) : Int) != (wk (1 : Int) ((p_impl_WithoutSeason l_aList aPeriod).1).length) then false else true)))))))))))))
theorem p_laws_FnExactWithoutSeason_eq (l_aList : List Nat) (aPeriod : Int) : p_laws_FnExactWithoutSeason l_aList aPeriod = (bif decide ((1048576 : Int) < (l_aList.length : Int)) then true else (bif !((p_laws_eqFloat32S ((p_impl_WithoutSeason l_aList aPeriod).1) ((p_spec_WithoutSeason l_aList aPeriod).1))) then false else (bif !(((p_impl_WithoutSeason l_aList aPeriod).2) == ((p_spec_WithoutSeason l_aList aPeriod).2)) then false else (bif !(p_laws_eqFloat32S l_aList l_aList) then false else (bif decide (((wk (1 : Int) l_aList.length) : Int) < 0) then false else (bif !((p_laws_eqFloat32S ((p_impl_WithoutSeason l_aList aPeriod).1) ((p_spec_WithoutSeason l_aList aPeriod).1))) then false else (bif !(((p_impl_WithoutSeason l_aList aPeriod).2) == ((p_spec_WithoutSeason l_aList aPeriod).2)) then false else (bif decide (((p_laws_heldFloat32S ((marks (FloatKind.nearest .f32) (1 : Int) ((p_impl_WithoutSeason l_aList aPeriod).1).length)) (1 : Int)) : Int) < 0) then false else (bif ((p_laws_heldFloat32S ((marks (FloatKind.nearest .f32) (1 : Int) ((p_impl_WithoutSeason l_aList aPeriod).1).length)) (1 : Int)) : Int) != (wk (1 : Int) ((p_impl_WithoutSeason l_aList aPeriod).1).length) then false else (bif !((p_laws_eqFloat32S ((p_impl_WithoutSeason l_aList aPeriod).1) ((p_spec_WithoutSeason l_aList aPeriod).1))) then false else (bif !(((p_impl_WithoutSeason l_aList aPeriod).2) == ((p_spec_WithoutSeason l_aList aPeriod).2)) then false else (bif decide (((p_laws_heldFloat32S ((marks (FloatKind.nearest .f32) (1 : Int) ((p_impl_WithoutSeason l_aList aPeriod).1).length)) (1 : Int)) : Int) < 0) then false else (bif ((p_laws_heldFloat32S ((marks (FloatKind.nearest .f32) (1 : Int) ((p_impl_WithoutSeason l_aList aPeriod).1).length)) (1 : Int)) : Int) != (wk (1 : Int) ((p_impl_WithoutSeason l_aList aPeriod).1).length) then false else true))))))))))))) := rfl
def T_laws_FnExactWithoutSeason (aList_a : Option Addr) (aList_n : Nat) (aList_e : Nat) (aPeriod : Int) (H : AHeap) (K : Bool → AHeap → Prop) : Prop := ∃ l_aList : List Nat, IsL fF H aList_a aList_n l_aList ∧ (∀ y ∈ l_aList, W32 y) ∧ l_aList.length ≤ 9223372036854775807 ∧ I64 aPeriod ∧ ∀ H' : AHeap, K true H'
theorem mean_go (l : List Nat) : ∀ (μ s : Nat) (i : Nat), l.length - i < μ → fdiv .f32 (p_impl_added_l1 l μ s (i : Int)) (FloatKind.nearest .f32 (l.length : Int)) = p_spec_l05Mean_l1 l μ s (i : Int) := by
  intro μ
  induction μ with
  | zero => intro s i h; omega
  | succ μ ih =>
    intro s i hm
    rw [p_impl_added_l1_s, p_spec_l05Mean_l1_s]
    by_cases h : i < l.length
    · rw [decide_eq_true (show (i : Int) < (l.length : Int) by omega), cond_true, cond_true]
      exact ih _ (i + 1) (by omega)
    · rw [decide_eq_false (show ¬ (i : Int) < (l.length : Int) by omega), cond_false, cond_false]
theorem mean_same (l : List Nat) : p_impl_mean l = p_spec_l05Mean l := by
  rw [p_impl_mean_eq, p_spec_l05Mean_eq, p_impl_added_eq]
  exact mean_go l _ 0 0 (by omega)
theorem spec_fin (x : Nat) : p_spec_l01Finite x = fin .f32 x := fin_asked x
theorem impl_fin (x : Nat) : p_impl_IsFinite x = fin .f32 x := fin_asked x
theorem w32_wd {x : Nat} (h : W32 x) : Wd .f32 x := ⟨h.1, h.2⟩
theorem wd_w32 {x : Nat} (h : Wd .f32 x) : W32 x := ⟨h.1, h.2⟩
theorem l02Finite_go (l : List Nat) : ∀ (μ : Nat) (t : Bool) (i : Nat), l.length - i < μ → p_spec_l02Finite_l1 l μ t (i : Int) = (l.drop i).all (fin .f32) := by
  intro μ
  induction μ with
  | zero => intro t i h; omega
  | succ μ ih =>
    intro t i hm
    rw [p_spec_l02Finite_l1_s]
    by_cases h : i < l.length
    · rw [decide_eq_true (show (i : Int) < (l.length : Int) by omega), cond_true, Int.toNat_natCast, spec_fin]
      rw [List.drop_eq_getElem_cons h, List.all_cons, List.getD_eq_getElem?_getD, List.getElem?_eq_getElem h, Option.getD_some]
      have := ih t (i + 1) (by omega)
      cases fin .f32 l[i]
      · rfl
      · simp only [Bool.not_true, cond_false, Bool.true_and]; exact this
    · rw [decide_eq_false (show ¬ (i : Int) < (l.length : Int) by omega), cond_false, List.drop_eq_nil_of_le (by omega)]; rfl
theorem l02Finite_all (l : List Nat) : p_spec_l02Finite l = l.all (fin .f32) := by
  rw [p_spec_l02Finite_eq]
  have := l02Finite_go l (Int.toNat ((l.length : Int) - (0 : Int)) + 1) false 0 (by omega)
  simpa using this
theorem areFinite_in (ls : List (List Nat)) (t2 : Bool) (t9 : Int) (k : Bool → Int → Bool) : ∀ (μ : Nat) (t : Bool) (i : Nat), i ≤ (ls.getD t9.toNat []).length → (ls.getD t9.toNat []).length - i < μ →
    p_impl_areFinite_l2 ls t2 t9 k μ t (i : Int) = bif ((ls.getD t9.toNat []).drop i).all (fin .f32) then k t ((ls.getD t9.toNat []).length : Int) else false := by
  intro μ
  generalize hl : ls.getD t9.toNat [] = l
  induction μ with
  | zero => intro t i _ h; omega
  | succ μ ih =>
    intro t i hi hm
    rw [p_impl_areFinite_l2_s, hl]
    by_cases h : i < l.length
    · rw [decide_eq_true (show (i : Int) < (l.length : Int) by omega), cond_true, Int.toNat_natCast, impl_fin]
      rw [List.drop_eq_getElem_cons h, List.all_cons, List.getD_eq_getElem?_getD, List.getElem?_eq_getElem h, Option.getD_some]
      have := ih t (i + 1) (by omega) (by omega)
      cases fin .f32 l[i]
      · rfl
      · simp only [Bool.not_true, cond_false, Bool.true_and]; exact this
    · rw [decide_eq_false (show ¬ (i : Int) < (l.length : Int) by omega), cond_false, List.drop_eq_nil_of_le (by omega), show i = l.length by omega]; rfl
theorem areFinite_go (ls : List (List Nat)) : ∀ (μ : Nat) (t : Bool) (i : Nat), ls.length - i < μ → p_impl_areFinite_l1 ls μ t (i : Int) = (ls.drop i).all (fun l => l.all (fin .f32)) := by
  intro μ
  induction μ with
  | zero => intro t i h; omega
  | succ μ ih =>
    intro t i hm
    rw [p_impl_areFinite_l1_s]
    by_cases h : i < ls.length
    · rw [decide_eq_true (show (i : Int) < (ls.length : Int) by omega), cond_true]
      have := areFinite_in ls t (i : Int) (fun t2 t15 => p_impl_areFinite_l1 ls μ t2 ((i : Int) + 1)) (Int.toNat ((((ls).getD ((i : Int) : Int).toNat []).length : Int) - (0 : Int)) + 1) t 0 (Nat.zero_le _) (by omega)
      refine Eq.trans this ?_
      rw [Int.toNat_natCast, List.drop_zero, List.drop_eq_getElem_cons h, List.all_cons, List.getD_eq_getElem?_getD, List.getElem?_eq_getElem h, Option.getD_some]
      have := ih t (i + 1) (by omega)
      cases ls[i].all (fin .f32)
      · rfl
      · simp only [cond_true, Bool.true_and]; exact this
    · rw [decide_eq_false (show ¬ (i : Int) < (ls.length : Int) by omega), cond_false, List.drop_eq_nil_of_le (by omega)]; rfl
theorem areFinite_all (ls : List (List Nat)) : p_impl_areFinite ls = ls.all (fun l => l.all (fin .f32)) := by
  rw [p_impl_areFinite_eq]
  have := areFinite_go ls (Int.toNat ((ls.length : Int) - (0 : Int)) + 1) false 0 (by omega)
  simpa using this
theorem finite_same (l : List Nat) : p_impl_areFinite [l] = p_spec_l02Finite l := by rw [areFinite_all, l02Finite_all]; simp
theorem long_same (l : List Nat) : p_impl_isLong l = p_spec_l03Long l := by
  rw [p_impl_isLong_eq, p_spec_l03Long_eq, finite_same]
  unfold p_impl_within
  cases decide ((1 : Int) ≤ (l.length : Int)) <;> cases decide (((l.length : Int) : Int) ≤ 128) <;> rfl
theorem long_t {l : List Nat} (h : p_spec_l03Long l = true) : 1 ≤ l.length ∧ l.length ≤ 128 ∧ l.all (fin .f32) = true := by
  rw [p_spec_l03Long_eq, l02Finite_all] at h
  by_cases h1 : (1 : Int) ≤ (l.length : Int)
  · rw [decide_eq_true h1, cond_true] at h
    by_cases h2 : (l.length : Int) ≤ 128
    · rw [decide_eq_true h2, cond_true] at h; exact ⟨by omega, by omega, h⟩
    · rw [decide_eq_false h2] at h; cases h
  · rw [decide_eq_false h1] at h; cases h
theorem fin_getD {l : List Nat} (h : l.all (fin .f32) = true) (i : Nat) : fin .f32 (l.getD i 0) = true := by
  rw [List.getD_eq_getElem?_getD]
  cases hx : l[i]? with
  | none => exact fin_zero _
  | some y => exact List.all_eq_true.1 h y (List.mem_of_getElem? hx)
theorem w32_zero : W32 0 := ⟨by decide, by decide +kernel⟩
theorem w32_getD {l : List Nat} (h : ∀ y ∈ l, W32 y) (i : Nat) : W32 (l.getD i 0) := by
  rw [List.getD_eq_getElem?_getD]
  cases hx : l[i]? with
  | none => exact w32_zero
  | some y => exact h y (List.mem_of_getElem? hx)
theorem season_in {F : List Nat → List Nat × Bool} {l : List Nat} {period : Int} (h1 : 1 ≤ period) (h2 : period ≤ 128) (hl : l.length ≤ 128) {vo vo' : List Nat} {j j' : Int} {k : List Nat → Int → List Nat → List Nat} {k' : List Nat → Int → List Nat → List Nat × Bool}
    (hk : ∀ part i y, k' part i y = F (k part i y)) : ∀ (μ : Nat) (part : List Nat) (i : Int) (y : List Nat), 0 ≤ i → (l.length : Int) - i ≤ μ → i ≤ 300 → p_impl_SeasonOf_l2 l period vo j k' (μ + 1) part i y = F (p_spec_l05Season_l2 l period vo' j' k (μ + 1) part i y) := by
  intro μ
  induction μ with
  | zero =>
    intro part i y h0 h hb
    rw [p_impl_SeasonOf_l2_s, p_spec_l05Season_l2_s, decide_eq_false (by omega), cond_false, cond_false]; exact hk _ _ _
  | succ μ ih =>
    intro part i y h0 h hb
    rw [p_impl_SeasonOf_l2_s, p_spec_l05Season_l2_s]
    by_cases hi : i < (l.length : Int)
    · rw [decide_eq_true hi, cond_true, cond_true]
      exact ih _ _ _ (by omega) (by omega) (by omega)
    · rw [decide_eq_false hi, cond_false, cond_false]; exact hk _ _ _
def seasonF (l : List Nat) : List Nat × Bool := bif (p_impl_finiteList l).2 then (l, true) else ([], false)
theorem season_go {l : List Nat} {period : Int} (h1 : 1 ≤ period) (h2 : period ≤ 128) (hl : l.length ≤ 128) : ∀ (μ : Nat) (o : List Nat) (j : Int), 0 ≤ j → j ≤ period → period - j < μ → p_impl_SeasonOf_l1 l period μ o j = seasonF (p_spec_l05Season_l1 l period μ o j) := by
  intro μ
  induction μ with
  | zero =>
    intro o j _ _ h
    intros; exfalso; omega
  | succ μ ih =>
    intro o j h0 hj h
    rw [p_impl_SeasonOf_l1_s, p_spec_l05Season_l1_s]
    by_cases hi : j < period
    · rw [decide_eq_true hi, cond_true, cond_true]
      refine season_in h1 h2 hl (fun part i y => ?_) _ _ _ _ h0 (by omega) (by omega)
      simp only [mean_same]
      exact ih _ _ (by omega) (by omega) (by omega)
    · rw [decide_eq_false hi, cond_false, cond_false]; rfl
theorem seasonF_spec (l : List Nat) : seasonF l = (bif !(p_spec_l02Finite l) then ([], false) else (l, true)) := by
  unfold seasonF
  rw [p_impl_finiteList_eq, finite_same]
  cases p_spec_l02Finite l <;> rfl
theorem season_same (l : List Nat) (period : Int) : p_impl_SeasonOf l period = p_spec_SeasonOf l period := by
  rw [p_impl_SeasonOf_eq, p_spec_SeasonOf_eq, long_same, show p_impl_within period 1 (l.length : Int) = p_spec_l00In period 1 (l.length : Int) from rfl, p_spec_l05Season_eq]
  cases h1 : p_spec_l03Long l
  · rfl
  · cases h2 : p_spec_l00In period 1 (l.length : Int)
    · rfl
    · have a := spec_l03Long_t h1
      have b := spec_l00In_t h2
      simp only [Bool.not_true, cond_false]
      rw [season_go b.1 (by omega) (by omega) _ _ _ (by omega) (by omega) (by omega), seasonF_spec]
theorem wk_one {n : Nat} (h : n < 1073741824) : decide (wk 1 n < (0 : Int)) = false := by
  rw [wk_eq n 1 (by omega) (by omega)]; exact decide_eq_false (by omega)
theorem without_go (l : List Nat) (period : Int) : ∀ (μ : Nat) (o : List Nat) (i : Nat), l.length - i < μ → p_impl_WithoutSeason_l1 l period μ o (i : Int) = p_spec_WithoutSeason_l1 l period μ o (i : Int) := by
  intro μ
  induction μ with
  | zero => intro o i h; omega
  | succ μ ih =>
    intro o i hm
    rw [p_impl_WithoutSeason_l1_s, p_spec_WithoutSeason_l1_s, season_same]
    by_cases h : i < l.length
    · rw [decide_eq_true (show (i : Int) < (l.length : Int) by omega), cond_true, cond_true]
      exact ih _ (i + 1) (by omega)
    · rw [decide_eq_false (show ¬ (i : Int) < (l.length : Int) by omega), cond_false, cond_false]
      exact seasonF_spec o
theorem without_same (l : List Nat) (period : Int) : p_impl_WithoutSeason l period = p_spec_WithoutSeason l period := by
  rw [p_impl_WithoutSeason_eq, p_spec_WithoutSeason_eq, season_same]
  have := without_go l period (Int.toNat ((l.length : Int) - (0 : Int)) + 1) [] 0 (by omega)
  rw [show ((0 : Nat) : Int) = 0 from rfl] at this
  rw [this]
theorem laws_FnExactWithoutSeason_true (l_aList : List Nat) (aPeriod : Int) (q0 : (∀ y ∈ l_aList, W32 y)) (q1 : I64 aPeriod) : p_laws_FnExactWithoutSeason l_aList aPeriod = true := by
  rw [p_laws_FnExactWithoutSeason_eq, without_same]
  by_cases hL : (1048576 : Int) < (l_aList.length : Int)
  · rw [decide_eq_true hL]; rfl
  · have hr := spec_WithoutSeason_len l_aList aPeriod
    rw [decide_eq_false hL, cond_false]
    simp only [laws_eqFloat32S_self, laws_heldFloat32S_marks, Bool.not_true, cond_false, beq_self_eq_true, bne_self_eq_false, wk_one (show l_aList.length < 1073741824 by omega), wk_one (show (p_spec_WithoutSeason l_aList aPeriod).1.length < 1073741824 by omega)]
/-! laws_FnExactWithoutSeason: function 4 -/
def E_laws_FnExactWithoutSeason : Env := envOf [(16, S_laws_toFloat32S), (20, S_spec_WithoutSeason), (21, S_impl_WithoutSeason), (19, S_laws_eqFloat32S), (22, S_laws_markFloat32S), (23, S_laws_heldFloat32S)]
def F_laws_FnExactWithoutSeason : List Value → AHeap → (Value → AHeap → Prop) → Prop
  | [.slice aList_a aList_n aList_e, .int .i64 aPeriod], H, K => T_laws_FnExactWithoutSeason aList_a aList_n aList_e aPeriod H fun (r1 : Bool) (H' : AHeap) => K (.bool r1) H'
  | _, _, _ => False
def S_laws_FnExactWithoutSeason : FSpec := { F := F_laws_FnExactWithoutSeason, quiet := false, tame := false }
theorem laws_FnExactWithoutSeason_vc (aList_a : Option Addr) (aList_n : Nat) (aList_e : Nat) (aPeriod : Int) (H : AHeap) (K : Value → AHeap → Prop) : bodyK Try.prog E_laws_FnExactWithoutSeason Try.f4 [.slice aList_a aList_n aList_e, .int .i64 aPeriod] H K =
  (Br (decide ((1048576 : Int) < (aList_n : Int))) (K (.bool true) H) (T_laws_toFloat32S aList_a aList_n aList_e H fun (a1 : Option Addr) (r1 : Nat) (r2 : Nat) (H1 : AHeap) => T_spec_WithoutSeason a1 r1 r2 aPeriod H1 fun (a2 : Option Addr) (r3 : Nat) (r4 : Nat) (r5 : Bool) (H2 : AHeap) => T_laws_toFloat32S aList_a aList_n aList_e H2 fun (a3 : Option Addr) (r6 : Nat) (r7 : Nat) (H3 : AHeap) => T_impl_WithoutSeason a3 r6 r7 aPeriod H3 fun (a4 : Option Addr) (r8 : Nat) (r9 : Nat) (r10 : Bool) (H4 : AHeap) => T_laws_eqFloat32S a4 r8 r9 a2 r3 r4 H4 fun (r11 : Bool) (H5 : AHeap) => Br (!r11) (K (.bool false) H5) (Br (!(r10 == r5)) (K (.bool false) H5) (T_laws_toFloat32S aList_a aList_n aList_e H5 fun (a5 : Option Addr) (r12 : Nat) (r13 : Nat) (H6 : AHeap) => T_laws_eqFloat32S a3 r6 r7 a5 r12 r13 H6 fun (r14 : Bool) (H7 : AHeap) => Br (!r14) (K (.bool false) H7) (T_laws_markFloat32S a3 r6 r7 1 H7 fun (r15 : Int) (H8 : AHeap) => Br (decide ((r15 : Int) < 0)) (K (.bool false) H8) (T_laws_eqFloat32S a4 r8 r9 a2 r3 r4 H8 fun (r16 : Bool) (H9 : AHeap) => Br (!r16) (K (.bool false) H9) (Br (!(r10 == r5)) (K (.bool false) H9) (T_laws_markFloat32S a4 r8 r9 1 H9 fun (r17 : Int) (H10 : AHeap) => T_laws_heldFloat32S a4 r8 r9 1 H10 fun (r18 : Int) (H11 : AHeap) => Br (decide ((r18 : Int) < 0)) (K (.bool false) H11) (Br ((r18 : Int) != r17) (K (.bool false) H11) (T_laws_toFloat32S aList_a aList_n aList_e H11 fun (a6 : Option Addr) (r19 : Nat) (r20 : Nat) (H12 : AHeap) => T_impl_WithoutSeason a6 r19 r20 aPeriod H12 fun (a7 : Option Addr) (r21 : Nat) (r22 : Nat) (r23 : Bool) (H13 : AHeap) => T_laws_eqFloat32S a7 r21 r22 a2 r3 r4 H13 fun (r24 : Bool) (H14 : AHeap) => Br (!r24) (K (.bool false) H14) (Br (!(r23 == r5)) (K (.bool false) H14) (T_laws_heldFloat32S a4 r8 r9 1 H14 fun (r25 : Int) (H15 : AHeap) => Br (decide ((r25 : Int) < 0)) (K (.bool false) H15) (Br ((r25 : Int) != r17) (K (.bool false) H15) (K (.bool true) H15)))))))))))))) := by kernel_rfl
theorem E_laws_FnExactWithoutSeason_ok : ∀ g, FnOk Try.prog g (E_laws_FnExactWithoutSeason g) := FnOk.envOf (by
  intro x hx
  simp only [List.mem_cons, List.not_mem_nil, or_false] at hx
  rcases hx with rfl | rfl | rfl | rfl | rfl | rfl
  · exact laws_toFloat32S_ok
  · exact spec_WithoutSeason_ok
  · exact impl_WithoutSeason_ok
  · exact laws_eqFloat32S_ok
  · exact laws_markFloat32S_ok
  · exact laws_heldFloat32S_ok)
set_option maxHeartbeats 1000000 in
theorem laws_FnExactWithoutSeason_main (aList_a : Option Addr) (aList_n : Nat) (aList_e : Nat) (aPeriod : Int) (H : AHeap) (K : Value → AHeap → Prop) (h : T_laws_FnExactWithoutSeason aList_a aList_n aList_e aPeriod H fun (r1 : Bool) (H' : AHeap) => K (.bool r1) H') : bodyK Try.prog E_laws_FnExactWithoutSeason Try.f4 [.slice aList_a aList_n aList_e, .int .i64 aPeriod] H K := by
  rw [laws_FnExactWithoutSeason_vc]
  obtain ⟨l_aList, h_0, h_1, h_2, h_3, hk⟩ := h
  have i_aList := h_0
  obtain rfl := i_aList.eqn
  have hl := laws_FnExactWithoutSeason_true l_aList aPeriod h_1 h_3
  have e : p_laws_FnExactWithoutSeason l_aList aPeriod = _ := rfl
  have e := e.trans (p_laws_FnExactWithoutSeason_eq l_aList aPeriod)
  have e := hl.symm.trans e
  have g0 := Grow.refl H
  refine Br.intro (fun c_1 => ?_) (fun c_1 => ?_)
  · have e := e.trans (cond_t c_1)
    have c_1' := of_decide_eq_true c_1
    first | exact hk _ | (exfalso; cases e; done) | (rw [← e]; exact hk _)
  · have e := e.trans (cond_f c_1)
    have c_1' := of_decide_eq_false c_1
    refine T_laws_toFloat32S_i ⟨_, (i_aList.grow g0), (by first | omega | (simp only [List.length_set, List.length_replicate, List.length_append, List.length_cons, List.length_nil, List.length_take, List.length_drop, marks_length]; done) | (simp only [List.length_set, List.length_replicate, List.length_append, List.length_cons, List.length_nil, List.length_take, List.length_drop, marks_length]; omega)), fun a_2 n_3 e_4 H_1 g_6 r_5 => ?_⟩
    have l_7 := g_6.1
    have g_8 := g0.trans g_6
    have l_9 := g_8.1
    obtain rfl := r_5.isL.eqn
    have u_10 := r_5.up
    have u_11 := r_5.lo
    refine T_spec_WithoutSeason_i ⟨_, r_5.isL, (by first | omega | (simp only [List.length_set, List.length_replicate, List.length_append, List.length_cons, List.length_nil, List.length_take, List.length_drop, marks_length]; done) | (simp only [List.length_set, List.length_replicate, List.length_append, List.length_cons, List.length_nil, List.length_take, List.length_drop, marks_length]; omega)), fun a_13 n_14 e_15 H_2 g_18 r_16 => ?_⟩
    have z_17 := spec_WithoutSeason_len l_aList aPeriod
    have l_19 := g_18.1
    have g_20 := g_8.trans g_18
    have l_21 := g_20.1
    have r_22 := r_5.grow g_18
    obtain rfl := r_16.isL.eqn
    have u_23 := r_16.up
    have u_24 := r_16.lo
    refine T_laws_toFloat32S_i ⟨_, (i_aList.grow g_20), (by first | omega | (simp only [List.length_set, List.length_replicate, List.length_append, List.length_cons, List.length_nil, List.length_take, List.length_drop, marks_length]; done) | (simp only [List.length_set, List.length_replicate, List.length_append, List.length_cons, List.length_nil, List.length_take, List.length_drop, marks_length]; omega)), fun a_26 n_27 e_28 H_3 g_30 r_29 => ?_⟩
    have l_31 := g_30.1
    have g_32 := g_20.trans g_30
    have l_33 := g_32.1
    have r_34 := r_22.grow g_30
    have r_35 := r_16.grow g_30
    obtain rfl := r_29.isL.eqn
    have u_36 := r_29.up
    have u_37 := r_29.lo
    refine T_impl_WithoutSeason_i ⟨_, r_29.isL, (by first | omega | (simp only [List.length_set, List.length_replicate, List.length_append, List.length_cons, List.length_nil, List.length_take, List.length_drop, marks_length]; done) | (simp only [List.length_set, List.length_replicate, List.length_append, List.length_cons, List.length_nil, List.length_take, List.length_drop, marks_length]; omega)), fun a_39 n_40 e_41 H_4 g_44 r_42 => ?_⟩
    have z_43 := impl_WithoutSeason_len l_aList aPeriod
    have l_45 := g_44.1
    have g_46 := g_32.trans g_44
    have l_47 := g_46.1
    have r_48 := r_34.grow g_44
    have r_49 := r_35.grow g_44
    have r_50 := r_29.grow g_44
    obtain rfl := r_42.isL.eqn
    have u_51 := r_42.up
    have u_52 := r_42.lo
    refine T_laws_eqFloat32S_i ⟨_, _, r_42.isL, r_49.isL, (by first | omega | (simp only [List.length_set, List.length_replicate, List.length_append, List.length_cons, List.length_nil, List.length_take, List.length_drop, marks_length]; done) | (simp only [List.length_set, List.length_replicate, List.length_append, List.length_cons, List.length_nil, List.length_take, List.length_drop, marks_length]; omega)), (by first | omega | (simp only [List.length_set, List.length_replicate, List.length_append, List.length_cons, List.length_nil, List.length_take, List.length_drop, marks_length]; done) | (simp only [List.length_set, List.length_replicate, List.length_append, List.length_cons, List.length_nil, List.length_take, List.length_drop, marks_length]; omega)), ?_⟩
    refine Br.intro (fun c_54 => ?_) (fun c_54 => ?_)
    · have e := e.trans (cond_t c_54)
      have c_54n := nf_of_t c_54
      first | exact hk _ | (exfalso; cases e; done) | (rw [← e]; exact hk _)
    · have e := e.trans (cond_f c_54)
      have c_54n := nt_of_f c_54
      refine Br.intro (fun c_55 => ?_) (fun c_55 => ?_)
      · have e := e.trans (cond_t c_55)
        have c_55n := nf_of_t c_55
        first | exact hk _ | (exfalso; cases e; done) | (rw [← e]; exact hk _)
      · have e := e.trans (cond_f c_55)
        have c_55n := nt_of_f c_55
        refine T_laws_toFloat32S_i ⟨_, (i_aList.grow g_46), (by first | omega | (simp only [List.length_set, List.length_replicate, List.length_append, List.length_cons, List.length_nil, List.length_take, List.length_drop, marks_length]; done) | (simp only [List.length_set, List.length_replicate, List.length_append, List.length_cons, List.length_nil, List.length_take, List.length_drop, marks_length]; omega)), fun a_56 n_57 e_58 H_5 g_60 r_59 => ?_⟩
        have l_61 := g_60.1
        have g_62 := g_46.trans g_60
        have l_63 := g_62.1
        have r_64 := r_48.grow g_60
        have r_65 := r_49.grow g_60
        have r_66 := r_50.grow g_60
        have r_67 := r_42.grow g_60
        obtain rfl := r_59.isL.eqn
        have u_68 := r_59.up
        have u_69 := r_59.lo
        refine T_laws_eqFloat32S_i ⟨_, _, r_66.isL, r_59.isL, (by first | omega | (simp only [List.length_set, List.length_replicate, List.length_append, List.length_cons, List.length_nil, List.length_take, List.length_drop, marks_length]; done) | (simp only [List.length_set, List.length_replicate, List.length_append, List.length_cons, List.length_nil, List.length_take, List.length_drop, marks_length]; omega)), (by first | omega | (simp only [List.length_set, List.length_replicate, List.length_append, List.length_cons, List.length_nil, List.length_take, List.length_drop, marks_length]; done) | (simp only [List.length_set, List.length_replicate, List.length_append, List.length_cons, List.length_nil, List.length_take, List.length_drop, marks_length]; omega)), ?_⟩
        refine Br.intro (fun c_71 => ?_) (fun c_71 => ?_)
        · have e := e.trans (cond_t c_71)
          have c_71n := nf_of_t c_71
          first | exact hk _ | (exfalso; cases e; done) | (rw [← e]; exact hk _)
        · have e := e.trans (cond_f c_71)
          have c_71n := nt_of_f c_71
          refine T_laws_markFloat32S_i ⟨_, _, r_66, (by first | omega | (simp only [List.length_set, List.length_replicate, List.length_append, List.length_cons, List.length_nil, List.length_take, List.length_drop, marks_length]; done) | (simp only [List.length_set, List.length_replicate, List.length_append, List.length_cons, List.length_nil, List.length_take, List.length_drop, marks_length]; omega)), (fun H_6 k_72 o_73 => ?_)⟩
          have l_74 := k_72.1
          have g_75 := g_62.keepA (fun x hx => by have := u_37 x hx; omega) k_72
          have l_76 := g_75.1
          have r_77 := r_64.keepA (fun x y hx hy => by have := u_37 x hx; have := u_36 x hx; have := u_11 y hy; have := u_10 y hy; omega) k_72
          have r_78 := r_65.keepA (fun x y hx hy => by have := u_37 x hx; have := u_36 x hx; have := u_24 y hy; have := u_23 y hy; omega) k_72
          have r_79 := r_67.keepA (fun x y hx hy => by have := u_37 x hx; have := u_36 x hx; have := u_52 y hy; have := u_51 y hy; omega) k_72
          have r_80 := r_59.keepA (fun x y hx hy => by have := u_37 x hx; have := u_36 x hx; have := u_69 y hy; have := u_68 y hy; omega) k_72
          refine Br.intro (fun c_81 => ?_) (fun c_81 => ?_)
          · have e := e.trans (cond_t c_81)
            have c_81' := of_decide_eq_true c_81
            first | exact hk _ | (exfalso; cases e; done) | (rw [← e]; exact hk _)
          · have e := e.trans (cond_f c_81)
            have c_81' := of_decide_eq_false c_81
            refine T_laws_eqFloat32S_i ⟨_, _, r_79.isL, r_78.isL, (by first | omega | (simp only [List.length_set, List.length_replicate, List.length_append, List.length_cons, List.length_nil, List.length_take, List.length_drop, marks_length]; done) | (simp only [List.length_set, List.length_replicate, List.length_append, List.length_cons, List.length_nil, List.length_take, List.length_drop, marks_length]; omega)), (by first | omega | (simp only [List.length_set, List.length_replicate, List.length_append, List.length_cons, List.length_nil, List.length_take, List.length_drop, marks_length]; done) | (simp only [List.length_set, List.length_replicate, List.length_append, List.length_cons, List.length_nil, List.length_take, List.length_drop, marks_length]; omega)), ?_⟩
            refine Br.intro (fun c_82 => ?_) (fun c_82 => ?_)
            · have e := e.trans (cond_t c_82)
              have c_82n := nf_of_t c_82
              first | exact hk _ | (exfalso; cases e; done) | (rw [← e]; exact hk _)
            · have e := e.trans (cond_f c_82)
              have c_82n := nt_of_f c_82
              refine Br.intro (fun c_83 => ?_) (fun c_83 => ?_)
              · have e := e.trans (cond_t c_83)
                have c_83n := nf_of_t c_83
                first | exact hk _ | (exfalso; cases e; done) | (rw [← e]; exact hk _)
              · have e := e.trans (cond_f c_83)
                have c_83n := nt_of_f c_83
                refine T_laws_markFloat32S_i ⟨_, _, r_79, (by first | omega | (simp only [List.length_set, List.length_replicate, List.length_append, List.length_cons, List.length_nil, List.length_take, List.length_drop, marks_length]; done) | (simp only [List.length_set, List.length_replicate, List.length_append, List.length_cons, List.length_nil, List.length_take, List.length_drop, marks_length]; omega)), (fun H_7 k_84 o_85 => ?_)⟩
                have l_86 := k_84.1
                have g_87 := g_75.keepA (fun x hx => by have := u_52 x hx; omega) k_84
                have l_88 := g_87.1
                have r_89 := r_77.keepA (fun x y hx hy => by have := u_52 x hx; have := u_51 x hx; have := u_11 y hy; have := u_10 y hy; omega) k_84
                have r_90 := r_78.keepA (fun x y hx hy => by have := u_52 x hx; have := u_51 x hx; have := u_24 y hy; have := u_23 y hy; omega) k_84
                have r_91 := o_73.keepA (fun x y hx hy => by have := u_52 x hx; have := u_51 x hx; have := u_37 y hy; have := u_36 y hy; omega) k_84
                have r_92 := r_80.keepA (fun x y hx hy => by have := u_52 x hx; have := u_51 x hx; have := u_69 y hy; have := u_68 y hy; omega) k_84
                refine T_laws_heldFloat32S_i ⟨_, o_85.isL, (by first | omega | (simp only [List.length_set, List.length_replicate, List.length_append, List.length_cons, List.length_nil, List.length_take, List.length_drop, marks_length]; done) | (simp only [List.length_set, List.length_replicate, List.length_append, List.length_cons, List.length_nil, List.length_take, List.length_drop, marks_length]; omega)), ?_⟩
                refine Br.intro (fun c_93 => ?_) (fun c_93 => ?_)
                · have e := e.trans (cond_t c_93)
                  have c_93' := of_decide_eq_true c_93
                  first | exact hk _ | (exfalso; cases e; done) | (rw [← e]; exact hk _)
                · have e := e.trans (cond_f c_93)
                  have c_93' := of_decide_eq_false c_93
                  refine Br.intro (fun c_94 => ?_) (fun c_94 => ?_)
                  · have e := e.trans (cond_t c_94)
                    have c_94' := ine_t c_94
                    first | exact hk _ | (exfalso; cases e; done) | (rw [← e]; exact hk _)
                  · have e := e.trans (cond_f c_94)
                    have c_94' := ine_f c_94
                    refine T_laws_toFloat32S_i ⟨_, (i_aList.grow g_87), (by first | omega | (simp only [List.length_set, List.length_replicate, List.length_append, List.length_cons, List.length_nil, List.length_take, List.length_drop, marks_length]; done) | (simp only [List.length_set, List.length_replicate, List.length_append, List.length_cons, List.length_nil, List.length_take, List.length_drop, marks_length]; omega)), fun a_95 n_96 e_97 H_8 g_99 r_98 => ?_⟩
                    have l_100 := g_99.1
                    have g_101 := g_87.trans g_99
                    have l_102 := g_101.1
                    have r_103 := r_89.grow g_99
                    have r_104 := r_90.grow g_99
                    have r_105 := r_91.grow g_99
                    have r_106 := o_85.grow g_99
                    have r_107 := r_92.grow g_99
                    obtain rfl := r_98.isL.eqn
                    have u_108 := r_98.up
                    have u_109 := r_98.lo
                    refine T_impl_WithoutSeason_i ⟨_, r_98.isL, (by first | omega | (simp only [List.length_set, List.length_replicate, List.length_append, List.length_cons, List.length_nil, List.length_take, List.length_drop, marks_length]; done) | (simp only [List.length_set, List.length_replicate, List.length_append, List.length_cons, List.length_nil, List.length_take, List.length_drop, marks_length]; omega)), fun a_111 n_112 e_113 H_9 g_116 r_114 => ?_⟩
                    have z_115 := impl_WithoutSeason_len l_aList aPeriod
                    have l_117 := g_116.1
                    have g_118 := g_101.trans g_116
                    have l_119 := g_118.1
                    have r_120 := r_103.grow g_116
                    have r_121 := r_104.grow g_116
                    have r_122 := r_105.grow g_116
                    have r_123 := r_106.grow g_116
                    have r_124 := r_107.grow g_116
                    have r_125 := r_98.grow g_116
                    obtain rfl := r_114.isL.eqn
                    have u_126 := r_114.up
                    have u_127 := r_114.lo
                    refine T_laws_eqFloat32S_i ⟨_, _, r_114.isL, r_121.isL, (by first | omega | (simp only [List.length_set, List.length_replicate, List.length_append, List.length_cons, List.length_nil, List.length_take, List.length_drop, marks_length]; done) | (simp only [List.length_set, List.length_replicate, List.length_append, List.length_cons, List.length_nil, List.length_take, List.length_drop, marks_length]; omega)), (by first | omega | (simp only [List.length_set, List.length_replicate, List.length_append, List.length_cons, List.length_nil, List.length_take, List.length_drop, marks_length]; done) | (simp only [List.length_set, List.length_replicate, List.length_append, List.length_cons, List.length_nil, List.length_take, List.length_drop, marks_length]; omega)), ?_⟩
                    refine Br.intro (fun c_129 => ?_) (fun c_129 => ?_)
                    · have e := e.trans (cond_t c_129)
                      have c_129n := nf_of_t c_129
                      first | exact hk _ | (exfalso; cases e; done) | (rw [← e]; exact hk _)
                    · have e := e.trans (cond_f c_129)
                      have c_129n := nt_of_f c_129
                      refine Br.intro (fun c_130 => ?_) (fun c_130 => ?_)
                      · have e := e.trans (cond_t c_130)
                        have c_130n := nf_of_t c_130
                        first | exact hk _ | (exfalso; cases e; done) | (rw [← e]; exact hk _)
                      · have e := e.trans (cond_f c_130)
                        have c_130n := nt_of_f c_130
                        refine T_laws_heldFloat32S_i ⟨_, r_123.isL, (by first | omega | (simp only [List.length_set, List.length_replicate, List.length_append, List.length_cons, List.length_nil, List.length_take, List.length_drop, marks_length]; done) | (simp only [List.length_set, List.length_replicate, List.length_append, List.length_cons, List.length_nil, List.length_take, List.length_drop, marks_length]; omega)), ?_⟩
                        refine Br.intro (fun c_131 => ?_) (fun c_131 => ?_)
                        · have e := e.trans (cond_t c_131)
                          have c_131' := of_decide_eq_true c_131
                          first | exact hk _ | (exfalso; cases e; done) | (rw [← e]; exact hk _)
                        · have e := e.trans (cond_f c_131)
                          have c_131' := of_decide_eq_false c_131
                          refine Br.intro (fun c_132 => ?_) (fun c_132 => ?_)
                          · have e := e.trans (cond_t c_132)
                            have c_132' := ine_t c_132
                            first | exact hk _ | (exfalso; cases e; done) | (rw [← e]; exact hk _)
                          · have e := e.trans (cond_f c_132)
                            have c_132' := ine_f c_132
                            first | exact hk _ | (exfalso; cases e; done) | (rw [← e]; exact hk _)
theorem laws_FnExactWithoutSeason_ok : FnOk Try.prog 4 S_laws_FnExactWithoutSeason := by
  refine FnOk.body mix_ok E_laws_FnExactWithoutSeason_ok Try.func4 rfl (by kernel_rfl) (by kernel_rfl) ?_ ?_ ?_ ?_ ?_
  · intro args H K K' h hk
    simp only [S_laws_FnExactWithoutSeason] at *
    unfold F_laws_FnExactWithoutSeason at *
    split at hk
    · obtain ⟨l_aList, h_0, h_1, h_2, h_3, k⟩ := hk
      exact ⟨l_aList, h_0, h_1, h_2, h_3, (fun H' => h _ _ (k H'))⟩
    · exact hk.elim
  · intro hq; cases hq
  · intro args H K hk
    simp only [S_laws_FnExactWithoutSeason] at *
    unfold F_laws_FnExactWithoutSeason at *
    split at hk
    · obtain ⟨l_aList, h_0, h_1, h_2, h_3, k⟩ := hk
      exact ⟨_, _, k []⟩
    · exact hk.elim
  · intro hq; cases hq
  · have mm := @laws_FnExactWithoutSeason_main
    revert mm
    generalize bodyK Try.prog E_laws_FnExactWithoutSeason Try.f4 = Q
    intro mm args H K hk
    simp only [S_laws_FnExactWithoutSeason] at *
    unfold F_laws_FnExactWithoutSeason at *
    split at hk
    · exact mm _ _ _ _ H K hk
    · exact hk.elim
end Go.Proofs.Ytghkkclonabpkaa.Ai
