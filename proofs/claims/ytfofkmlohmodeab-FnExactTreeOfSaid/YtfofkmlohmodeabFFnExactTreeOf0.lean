/- What functions of the program come to on the abstract machine, and that they do so; printed by a program of mine around proofs of mine. -/
import Derived.Test.YtfofkmlohmodeabProg
import Derived.Test.YtfofkmlohmodeabLibA
import Derived.Test.YtfofkmlohmodeabOpen
import Derived.Test.YtfofkmlohmodeabLibB
import Derived.Test.YtfofkmlohmodeabFl
import Derived.Test.YtfofkmlohmodeabExt
import Derived.Test.YtfofkmlohmodeabFm
import Derived.Test.YtfofkmlohmodeabFb
set_option linter.unusedVariables false
set_option linter.unusedSimpArgs false
set_option maxRecDepth 100000
namespace Go.Proofs.Ytfofkmlohmodeab.Ai
open Go
attribute [local irreducible] bodyK
theorem mix_ok : Try.prog.follows .mixedOrders = true := by kernel_rfl
def p_spec_l00In (n : Int) (low : Int) (high : Int) : Bool := (bif decide ((low : Int) ≤ n) then decide ((n : Int) ≤ high) else false)
theorem p_spec_l00In_eq (n : Int) (low : Int) (high : Int) : p_spec_l00In n low high = (bif decide ((low : Int) ≤ n) then decide ((n : Int) ≤ high) else false) := rfl
def T_spec_l00In (n : Int) (low : Int) (high : Int) (H : AHeap) (K : Bool → AHeap → Prop) : Prop := K (p_spec_l00In n low high) H
theorem spec_l00In_t {n a b : Int} (h : p_spec_l00In n a b = true) : a ≤ n ∧ n ≤ b := by
  unfold p_spec_l00In at h
  by_cases h1 : a ≤ n
  · rw [decide_eq_true h1, cond_true] at h; exact ⟨h1, of_decide_eq_true h⟩
  · rw [decide_eq_false h1] at h; cases h
theorem T_spec_l00In_i {n : Int} {low : Int} {high : Int} {H : AHeap} {K : Bool → AHeap → Prop} (h : K (p_spec_l00In n low high) H) : T_spec_l00In n low high H K := h
/-! spec_l00In: function 49 -/
def E_spec_l00In : Env := envOf []
def F_spec_l00In : List Value → AHeap → (Value → AHeap → Prop) → Prop
  | [.int .i64 n, .int .i64 low, .int .i64 high], H, K => T_spec_l00In n low high H fun (r1 : Bool) (H' : AHeap) => K (.bool r1) H'
  | _, _, _ => False
def S_spec_l00In : FSpec := { F := F_spec_l00In, quiet := true, tame := false }
theorem spec_l00In_vc (n : Int) (low : Int) (high : Int) (H : AHeap) (K : Value → AHeap → Prop) : bodyK Try.prog E_spec_l00In Try.f49 [.int .i64 n, .int .i64 low, .int .i64 high] H K =
  (Br (decide ((low : Int) ≤ n)) (K (.bool (decide ((n : Int) ≤ high))) H) (K (.bool false) H)) := by kernel_rfl
theorem E_spec_l00In_ok : ∀ g, FnOk Try.prog g (E_spec_l00In g) := FnOk.envOf (by
  intro x hx; cases hx)
set_option maxHeartbeats 1000000 in
theorem spec_l00In_main (n : Int) (low : Int) (high : Int) (H : AHeap) (K : Value → AHeap → Prop) (h : T_spec_l00In n low high H fun (r1 : Bool) (H' : AHeap) => K (.bool r1) H') : bodyK Try.prog E_spec_l00In Try.f49 [.int .i64 n, .int .i64 low, .int .i64 high] H K := by
  rw [spec_l00In_vc]
  unfold T_spec_l00In p_spec_l00In at h
  repeat' (first | exact h | (exfalso; simp_all; done) | (refine ⟨by decide, ?_⟩) | (refine Br.intro (fun hb => ?_) (fun hb => ?_) <;> (try simp only [hb, cond_true, cond_false, Bool.not_true, Bool.not_false] at h)))
theorem spec_l00In_ok : FnOk Try.prog 49 S_spec_l00In := by
  refine FnOk.body mix_ok E_spec_l00In_ok Try.func49 rfl (by kernel_rfl) (by kernel_rfl) ?_ ?_ ?_ ?_ ?_
  · intro args H K K' h hk
    simp only [S_spec_l00In] at *
    unfold F_spec_l00In at *
    split at hk
    · have k := hk
      exact h _ _ k
    · exact hk.elim
  · intro _ args H K hk
    simp only [S_spec_l00In] at *
    unfold F_spec_l00In at *
    split at hk
    · have k := hk
      exact ⟨_, k, fun K' k' => k'⟩
    · exact hk.elim
  · intro args H K hk
    simp only [S_spec_l00In] at *
    unfold F_spec_l00In at *
    split at hk
    · have k := hk
      exact ⟨_, _, k⟩
    · exact hk.elim
  · intro hq; cases hq
  · have mm := @spec_l00In_main
    revert mm
    generalize bodyK Try.prog E_spec_l00In Try.f49 = Q
    intro mm args H K hk
    simp only [S_spec_l00In] at *
    unfold F_spec_l00In at *
    split at hk
    · exact mm _ _ _ H K hk
    · exact hk.elim
def p_spec_l02Levels (levels : Int) : Bool := (p_spec_l00In levels 1 6)
theorem p_spec_l02Levels_eq (levels : Int) : p_spec_l02Levels levels = (p_spec_l00In levels 1 6) := rfl
def T_spec_l02Levels (levels : Int) (H : AHeap) (K : Bool → AHeap → Prop) : Prop := K (p_spec_l02Levels levels) H
theorem spec_l02Levels_t {levels : Int} (h : p_spec_l02Levels levels = true) : 1 ≤ levels ∧ levels ≤ 6 := spec_l00In_t h
theorem T_spec_l02Levels_i {levels : Int} {H : AHeap} {K : Bool → AHeap → Prop} (h : K (p_spec_l02Levels levels) H) : T_spec_l02Levels levels H K := h
/-! spec_l02Levels: function 80 -/
def E_spec_l02Levels : Env := envOf [(49, S_spec_l00In)]
def F_spec_l02Levels : List Value → AHeap → (Value → AHeap → Prop) → Prop
  | [.int .i64 levels], H, K => T_spec_l02Levels levels H fun (r1 : Bool) (H' : AHeap) => K (.bool r1) H'
  | _, _, _ => False
def S_spec_l02Levels : FSpec := { F := F_spec_l02Levels, quiet := true, tame := false }
theorem spec_l02Levels_vc (levels : Int) (H : AHeap) (K : Value → AHeap → Prop) : bodyK Try.prog E_spec_l02Levels Try.f80 [.int .i64 levels] H K =
  (T_spec_l00In levels 1 6 H fun (r1 : Bool) (H1 : AHeap) => K (.bool r1) H1) := by kernel_rfl
theorem E_spec_l02Levels_ok : ∀ g, FnOk Try.prog g (E_spec_l02Levels g) := FnOk.envOf (by
  intro x hx
  simp only [List.mem_cons, List.not_mem_nil, or_false] at hx
  subst hx; exact spec_l00In_ok)
set_option maxHeartbeats 1000000 in
theorem spec_l02Levels_main (levels : Int) (H : AHeap) (K : Value → AHeap → Prop) (h : T_spec_l02Levels levels H fun (r1 : Bool) (H' : AHeap) => K (.bool r1) H') : bodyK Try.prog E_spec_l02Levels Try.f80 [.int .i64 levels] H K := by
  rw [spec_l02Levels_vc]
  simp only [T_spec_l00In]
  unfold T_spec_l02Levels p_spec_l02Levels at h
  repeat' (first | exact h | (exfalso; simp_all; done) | (refine ⟨by decide, ?_⟩) | (refine Br.intro (fun hb => ?_) (fun hb => ?_) <;> (try simp only [hb, cond_true, cond_false, Bool.not_true, Bool.not_false] at h)))
theorem spec_l02Levels_ok : FnOk Try.prog 80 S_spec_l02Levels := by
  refine FnOk.body mix_ok E_spec_l02Levels_ok Try.func80 rfl (by kernel_rfl) (by kernel_rfl) ?_ ?_ ?_ ?_ ?_
  · intro args H K K' h hk
    simp only [S_spec_l02Levels] at *
    unfold F_spec_l02Levels at *
    split at hk
    · have k := hk
      exact h _ _ k
    · exact hk.elim
  · intro _ args H K hk
    simp only [S_spec_l02Levels] at *
    unfold F_spec_l02Levels at *
    split at hk
    · have k := hk
      exact ⟨_, k, fun K' k' => k'⟩
    · exact hk.elim
  · intro args H K hk
    simp only [S_spec_l02Levels] at *
    unfold F_spec_l02Levels at *
    split at hk
    · have k := hk
      exact ⟨_, _, k⟩
    · exact hk.elim
  · intro hq; cases hq
  · have mm := @spec_l02Levels_main
    revert mm
    generalize bodyK Try.prog E_spec_l02Levels Try.f80 = Q
    intro mm args H K hk
    simp only [S_spec_l02Levels] at *
    unfold F_spec_l02Levels at *
    split at hk
    · exact mm _ H K hk
    · exact hk.elim
def p_spec_l06Can (n : Int) (levels : Int) : Bool := (bif (p_spec_l00In n 1 128) then (p_spec_l02Levels levels) else false)
theorem p_spec_l06Can_eq (n : Int) (levels : Int) : p_spec_l06Can n levels = (bif (p_spec_l00In n 1 128) then (p_spec_l02Levels levels) else false) := rfl
def T_spec_l06Can (n : Int) (levels : Int) (H : AHeap) (K : Bool → AHeap → Prop) : Prop := K (p_spec_l06Can n levels) H
theorem spec_l06Can_t {n levels : Int} (h : p_spec_l06Can n levels = true) : (1 ≤ n ∧ n ≤ 128) ∧ (1 ≤ levels ∧ levels ≤ 6) := by
  unfold p_spec_l06Can at h
  cases h1 : p_spec_l00In n 1 128
  · rw [h1] at h; cases h
  · rw [h1] at h; exact ⟨spec_l00In_t h1, spec_l02Levels_t h⟩
theorem T_spec_l06Can_i {n : Int} {levels : Int} {H : AHeap} {K : Bool → AHeap → Prop} (h : K (p_spec_l06Can n levels) H) : T_spec_l06Can n levels H K := h
/-! spec_l06Can: function 48 -/
def E_spec_l06Can : Env := envOf [(49, S_spec_l00In), (80, S_spec_l02Levels)]
def F_spec_l06Can : List Value → AHeap → (Value → AHeap → Prop) → Prop
  | [.int .i64 n, .int .i64 levels], H, K => T_spec_l06Can n levels H fun (r1 : Bool) (H' : AHeap) => K (.bool r1) H'
  | _, _, _ => False
def S_spec_l06Can : FSpec := { F := F_spec_l06Can, quiet := true, tame := false }
theorem spec_l06Can_vc (n : Int) (levels : Int) (H : AHeap) (K : Value → AHeap → Prop) : bodyK Try.prog E_spec_l06Can Try.f48 [.int .i64 n, .int .i64 levels] H K =
  (T_spec_l00In n 1 128 H fun (r1 : Bool) (H1 : AHeap) => Br r1 (T_spec_l02Levels levels H1 fun (r2 : Bool) (H2 : AHeap) => K (.bool r2) H2) (K (.bool false) H1)) := by kernel_rfl
theorem E_spec_l06Can_ok : ∀ g, FnOk Try.prog g (E_spec_l06Can g) := FnOk.envOf (by
  intro x hx
  simp only [List.mem_cons, List.not_mem_nil, or_false] at hx
  rcases hx with rfl | rfl
  · exact spec_l00In_ok
  · exact spec_l02Levels_ok)
set_option maxHeartbeats 1000000 in
theorem spec_l06Can_main (n : Int) (levels : Int) (H : AHeap) (K : Value → AHeap → Prop) (h : T_spec_l06Can n levels H fun (r1 : Bool) (H' : AHeap) => K (.bool r1) H') : bodyK Try.prog E_spec_l06Can Try.f48 [.int .i64 n, .int .i64 levels] H K := by
  rw [spec_l06Can_vc]
  simp only [T_spec_l00In, T_spec_l02Levels]
  unfold T_spec_l06Can p_spec_l06Can at h
  repeat' (first | exact h | (exfalso; simp_all; done) | (refine ⟨by decide, ?_⟩) | (refine Br.intro (fun hb => ?_) (fun hb => ?_) <;> (try simp only [hb, cond_true, cond_false, Bool.not_true, Bool.not_false] at h)))
theorem spec_l06Can_ok : FnOk Try.prog 48 S_spec_l06Can := by
  refine FnOk.body mix_ok E_spec_l06Can_ok Try.func48 rfl (by kernel_rfl) (by kernel_rfl) ?_ ?_ ?_ ?_ ?_
  · intro args H K K' h hk
    simp only [S_spec_l06Can] at *
    unfold F_spec_l06Can at *
    split at hk
    · have k := hk
      exact h _ _ k
    · exact hk.elim
  · intro _ args H K hk
    simp only [S_spec_l06Can] at *
    unfold F_spec_l06Can at *
    split at hk
    · have k := hk
      exact ⟨_, k, fun K' k' => k'⟩
    · exact hk.elim
  · intro args H K hk
    simp only [S_spec_l06Can] at *
    unfold F_spec_l06Can at *
    split at hk
    · have k := hk
      exact ⟨_, _, k⟩
    · exact hk.elim
  · intro hq; cases hq
  · have mm := @spec_l06Can_main
    revert mm
    generalize bodyK Try.prog E_spec_l06Can Try.f48 = Q
    intro mm args H K hk
    simp only [S_spec_l06Can] at *
    unfold F_spec_l06Can at *
    split at hk
    · exact mm _ _ H K hk
    · exact hk.elim
def p_spec_l02BandSizes_l1 (n : Int) (levels : Int) : Nat → Int → (List Int) → Int → (List Int)
  | 0, _, _, _ => []
  | μ + 1, n_0, l_vout, k => (bif decide ((k : Int) < levels) then (bif decide ((2 : Int) ≤ n_0) then (p_spec_l02BandSizes_l1 n levels μ ((Int.tdiv (n_0 + 1) 2)) ((l_vout ++ [((Int.tdiv n_0 2) : Int)])) (k + 1)) else (l_vout ++ [(n_0 : Int)])) else (l_vout ++ [(n_0 : Int)]))
theorem p_spec_l02BandSizes_l1_s (n : Int) (levels : Int) (μ : Nat) (n_0 : Int) (l_vout : List Int) (k : Int) : p_spec_l02BandSizes_l1 n levels (μ + 1) n_0 l_vout k = (bif decide ((k : Int) < levels) then (bif decide ((2 : Int) ≤ n_0) then (p_spec_l02BandSizes_l1 n levels μ ((Int.tdiv (n_0 + 1) 2)) ((l_vout ++ [((Int.tdiv n_0 2) : Int)])) (k + 1)) else (l_vout ++ [(n_0 : Int)])) else (l_vout ++ [(n_0 : Int)])) := rfl
def p_spec_l02BandSizes (n : Int) (levels : Int) : (List Int) := (p_spec_l02BandSizes_l1 n levels (Int.toNat (levels - (0 : Int)) + 1) n ([] : List Int) (0 : Int))
theorem p_spec_l02BandSizes_eq (n : Int) (levels : Int) : p_spec_l02BandSizes n levels = (p_spec_l02BandSizes_l1 n levels (Int.toNat (levels - (0 : Int)) + 1) n ([] : List Int) (0 : Int)) := rfl
def T_spec_l02BandSizes (n : Int) (levels : Int) (H : AHeap) (K : (Option Addr) → Nat → Nat → AHeap → Prop) : Prop := 0 ≤ n ∧ n ≤ 128 ∧ levels ≤ 6 ∧ ((∀ (r1_a : Option Addr) (r1_n r1_e : Nat), ∀ H' : AHeap, Grow H H' → OwnS fI H' H.length r1_a r1_n r1_e (p_spec_l02BandSizes n levels) → K r1_a r1_n r1_e H'))
theorem T_spec_l02BandSizes_i {n : Int} {levels : Int} {H : AHeap} {K : (Option Addr) → Nat → Nat → AHeap → Prop} (h : 0 ≤ n ∧ n ≤ 128 ∧ levels ≤ 6 ∧ ((∀ (r1_a : Option Addr) (r1_n r1_e : Nat), ∀ H' : AHeap, Grow H H' → OwnS fI H' H.length r1_a r1_n r1_e (p_spec_l02BandSizes n levels) → K r1_a r1_n r1_e H'))) : T_spec_l02BandSizes n levels H K := h
theorem spec_l02BandSizes_go (n levels : Int) : ∀ (μ : Nat) (a : Int) (o : List Int) (k : Int), (p_spec_l02BandSizes_l1 n levels μ a o k).length ≤ o.length + μ := by
  intro μ
  induction μ with
  | zero => intro a o k; exact Nat.zero_le _
  | succ μ ih =>
    intro a o k
    rw [p_spec_l02BandSizes_l1_s]
    cases decide (k < levels)
    · simp
    · cases decide (2 ≤ a)
      · simp
      · refine Nat.le_trans (ih _ _ _) ?_
        simp; omega
theorem spec_l02BandSizes_len (n levels : Int) : levels ≤ 6 → (p_spec_l02BandSizes n levels).length ≤ 7 := by
  intro h
  rw [p_spec_l02BandSizes_eq]
  refine Nat.le_trans (spec_l02BandSizes_go n levels _ _ _ _) ?_
  simp; omega
theorem sGetD_rng {o : List Int} {x : Int} (h : ∀ i : Nat, 0 ≤ o.getD i 0 ∧ o.getD i 0 ≤ 128) (h0 : 0 ≤ x) (h1 : x ≤ 128) : ∀ i : Nat, 0 ≤ (o ++ [x]).getD i 0 ∧ (o ++ [x]).getD i 0 ≤ 128 := by
  intro i
  have h := h i
  rw [List.getD_eq_getElem?_getD] at h ⊢
  by_cases hi : i < o.length
  · rw [List.getElem?_append_left hi]; exact h
  · rw [List.getElem?_append_right (by omega)]
    cases i - o.length with
    | zero => exact ⟨h0, h1⟩
    | succ j => simp
theorem spec_BandSizes_rg (n levels : Int) : ∀ (μ : Nat) (a : Int) (o : List Int) (k : Int), 0 ≤ a → a ≤ 128 → (∀ i : Nat, 0 ≤ o.getD i 0 ∧ o.getD i 0 ≤ 128) → ∀ i : Nat, 0 ≤ (p_spec_l02BandSizes_l1 n levels μ a o k).getD i 0 ∧ (p_spec_l02BandSizes_l1 n levels μ a o k).getD i 0 ≤ 128 := by
  intro μ
  induction μ with
  | zero => intro a o k _ _ _ i; exact ⟨by simp [p_spec_l02BandSizes_l1], by simp [p_spec_l02BandSizes_l1]⟩
  | succ μ ih =>
    intro a o k h0 h1 h
    rw [p_spec_l02BandSizes_l1_s]
    cases decide (k < levels)
    · exact sGetD_rng h h0 h1
    · cases hc : decide (2 ≤ a)
      · exact sGetD_rng h h0 h1
      · have e := tdiv_nn a 2 h0
        have e2 := tdiv_nn (a + 1) 2 (by omega)
        have hc := of_decide_eq_true hc
        refine ih _ _ _ ?_ ?_ (sGetD_rng h ?_ ?_) <;> omega
theorem spec_l02BandSizes_rng (n levels : Int) (h0 : 0 ≤ n) (h1 : n ≤ 128) : ∀ i : Nat, 0 ≤ (p_spec_l02BandSizes n levels).getD i 0 ∧ (p_spec_l02BandSizes n levels).getD i 0 ≤ 128 := by
  rw [p_spec_l02BandSizes_eq]
  exact spec_BandSizes_rg n levels _ _ _ _ h0 h1 (by intro i; simp)
/-! spec_l02BandSizes: function 88 -/
def E_spec_l02BandSizes : Env := envOf []
def F_spec_l02BandSizes : List Value → AHeap → (Value → AHeap → Prop) → Prop
  | [.int .i64 n, .int .i64 levels], H, K => T_spec_l02BandSizes n levels H fun (r1_a : Option Addr) (r1_n : Nat) (r1_e : Nat) (H' : AHeap) => K (.slice r1_a r1_n r1_e) H'
  | _, _, _ => False
def S_spec_l02BandSizes : FSpec := { F := F_spec_l02BandSizes, quiet := false, tame := true }
theorem spec_l02BandSizes_vc (n : Int) (levels : Int) (H : AHeap) (K : Value → AHeap → Prop) : bodyK Try.prog E_spec_l02BandSizes Try.f88 [.int .i64 n, .int .i64 levels] H K =
  (Al [] H fun b1 H1 => loopK (exK Try.prog E_spec_l02BandSizes (cl (cl (cr (cl (cr (cr (bodyC Try.f88)))))))) [.int .i64 n, .int .i64 levels, undef, undef, .slice none 0 0, .slice (some ⟨b1, 0, none⟩) 0 1, .int .i64 0, .slice (some ⟨b1, 0, none⟩) 0 1, undef, undef, undef, undef, undef, undef, undef, undef, undef, undef, undef, undef, undef, undef, undef, undef, undef, undef, undef, undef, undef] H1 (blockQ 0 (seqQ (exK Try.prog E_spec_l02BandSizes (cr (cr (cr (bodyC Try.f88))))) (retK Try.prog Try.f88 K)))) := by kernel_rfl
theorem spec_l02BandSizes_r1 (b1 : Nat) (levels : Int) (n_0 : Int) (vout_a : Option Addr) (vout_n : Nat) (vout_e : Nat) (k : Int) (g8 g9 g10 g11 g12 g13 g14 g15 g16 g17 g18 g19 g20 g21 g22 g23 g24 : Value) (H : AHeap) (R : Post) : exK Try.prog E_spec_l02BandSizes (cl (cl (cr (cl (cr (cr (bodyC Try.f88))))))) [.int .i64 n_0, .int .i64 levels, undef, undef, .slice none 0 0, .slice vout_a vout_n vout_e, .int .i64 k, .slice (some ⟨b1, 0, none⟩) 0 1, g8, g9, g10, g11, g12, g13, g14, g15, g16, g17, g18, g19, g20, g21, g22, g23, g24, undef, undef, undef, undef] H R =
  (Br (decide ((k : Int) < levels)) (Br (decide ((2 : Int) ≤ n_0)) (2 ≠ (0 : Int) ∧ Al [.int .i64 (IntKind.wrap .i64 (Int.tdiv n_0 2))] H fun b2 H2 => ∃ o1 w1 : List Value, ownB H2 vout_a vout_n vout_e 1 = some o1 ∧ rdS H2 (some ⟨b2, 0, none⟩) (1 * 1) = some w1 ∧ ((vout_a : Option Addr) = none → 0 < (1 : Nat)) ∧ (vout_n : Nat) + 1 < most ∧ Ap H2 (killB H2 vout_a ++ [some ⟨o1 ++ w1, true⟩]) fun b3 H3 => 2 ≠ (0 : Int) ∧ R .normal [.int .i64 (IntKind.wrap .i64 (Int.tdiv (IntKind.wrap .i64 (n_0 + 1)) 2)), .int .i64 levels, undef, undef, .slice none 0 0, .slice (some ⟨b3, 0, none⟩) (vout_n + 1) 1, .int .i64 (IntKind.wrap .i64 (k + 1)), .slice (some ⟨b1, 0, none⟩) 0 1, .int .i64 k, .int .i64 levels, .bool (decide ((k : Int) < levels)), .bool true, .int .i64 n_0, .bool (decide ((2 : Int) ≤ n_0)), .bool (decide ((2 : Int) ≤ n_0)), .int .i64 k, .int .i64 (IntKind.wrap .i64 (k + 1)), .slice vout_a vout_n vout_e, .int .i64 n_0, .int .i64 (IntKind.wrap .i64 (Int.tdiv n_0 2)), .slice (some ⟨b2, 0, none⟩) 1 1, .slice (some ⟨b3, 0, none⟩) (vout_n + 1) 1, .int .i64 n_0, .int .i64 (IntKind.wrap .i64 (n_0 + 1)), .int .i64 (IntKind.wrap .i64 (Int.tdiv (IntKind.wrap .i64 (n_0 + 1)) 2)), undef, undef, undef, undef] H3) (R (.exit 0) [.int .i64 n_0, .int .i64 levels, undef, undef, .slice none 0 0, .slice vout_a vout_n vout_e, .int .i64 k, .slice (some ⟨b1, 0, none⟩) 0 1, .int .i64 k, .int .i64 levels, .bool (decide ((k : Int) < levels)), .bool true, .int .i64 n_0, .bool (decide ((2 : Int) ≤ n_0)), .bool (decide ((2 : Int) ≤ n_0)), g15, g16, g17, g18, g19, g20, g21, g22, g23, g24, undef, undef, undef, undef] H)) (R (.exit 0) [.int .i64 n_0, .int .i64 levels, undef, undef, .slice none 0 0, .slice vout_a vout_n vout_e, .int .i64 k, .slice (some ⟨b1, 0, none⟩) 0 1, .int .i64 k, .int .i64 levels, .bool (decide ((k : Int) < levels)), .bool false, undef, undef, .bool false, g15, g16, g17, g18, g19, g20, g21, g22, g23, g24, undef, undef, undef, undef] H)) := by kernel_rfl
def spec_l02BandSizes_I1 (b1 : Nat) (levels : Int) (Inv : Nat → Int → (Option Addr) → Nat → Nat → Int → AHeap → Prop) : Nat → List Value → AHeap → Prop := fun μ tm H => ∃ (n_0 : Int), ∃ (vout_a : Option Addr), ∃ (vout_n : Nat), ∃ (vout_e : Nat), ∃ (k : Int), ∃ g8 g9 g10 g11 g12 g13 g14 g15 g16 g17 g18 g19 g20 g21 g22 g23 g24, tm = [.int .i64 n_0, .int .i64 levels, undef, undef, .slice none 0 0, .slice vout_a vout_n vout_e, .int .i64 k, .slice (some ⟨b1, 0, none⟩) 0 1, g8, g9, g10, g11, g12, g13, g14, g15, g16, g17, g18, g19, g20, g21, g22, g23, g24, undef, undef, undef, undef] ∧ Inv μ n_0 vout_a vout_n vout_e k H
theorem spec_l02BandSizes_L1 (b1 : Nat) (levels : Int) {Q : Post} (Inv : Nat → Int → (Option Addr) → Nat → Nat → Int → AHeap → Prop) (ν : Nat) (n_0 : Int) (vout_a : Option Addr) (vout_n : Nat) (vout_e : Nat) (k : Int) (g8 g9 g10 g11 g12 g13 g14 g15 g16 g17 g18 g19 g20 g21 g22 g23 g24 : Value) (H : AHeap) (h0 : Inv ν n_0 vout_a vout_n vout_e k H)
    (hs : ∀ (μ : Nat) (n_0 : Int) (vout_a : Option Addr) (vout_n : Nat) (vout_e : Nat) (k : Int) (g8 g9 g10 g11 g12 g13 g14 g15 g16 g17 g18 g19 g20 g21 g22 g23 g24 : Value) (H : AHeap), Inv μ n_0 vout_a vout_n vout_e k H → exK Try.prog E_spec_l02BandSizes (cl (cl (cr (cl (cr (cr (bodyC Try.f88))))))) [.int .i64 n_0, .int .i64 levels, undef, undef, .slice none 0 0, .slice vout_a vout_n vout_e, .int .i64 k, .slice (some ⟨b1, 0, none⟩) 0 1, g8, g9, g10, g11, g12, g13, g14, g15, g16, g17, g18, g19, g20, g21, g22, g23, g24, undef, undef, undef, undef] H (loopQ (spec_l02BandSizes_I1 b1 levels Inv) μ Q)) : loopK (exK Try.prog E_spec_l02BandSizes (cl (cl (cr (cl (cr (cr (bodyC Try.f88)))))))) [.int .i64 n_0, .int .i64 levels, undef, undef, .slice none 0 0, .slice vout_a vout_n vout_e, .int .i64 k, .slice (some ⟨b1, 0, none⟩) 0 1, g8, g9, g10, g11, g12, g13, g14, g15, g16, g17, g18, g19, g20, g21, g22, g23, g24, undef, undef, undef, undef] H Q :=
  ⟨spec_l02BandSizes_I1 b1 levels Inv, ν, ⟨n_0, vout_a, vout_n, vout_e, k, g8, g9, g10, g11, g12, g13, g14, g15, g16, g17, g18, g19, g20, g21, g22, g23, g24, rfl, h0⟩, fun μ tm H h => by obtain ⟨n_0, vout_a, vout_n, vout_e, k, g8, g9, g10, g11, g12, g13, g14, g15, g16, g17, g18, g19, g20, g21, g22, g23, g24, rfl, hI⟩ := h; exact hs μ n_0 vout_a vout_n vout_e k g8 g9 g10 g11 g12 g13 g14 g15 g16 g17 g18 g19 g20 g21 g22 g23 g24 H hI⟩
theorem spec_l02BandSizes_n1 {b1 : Nat} {levels : Int} {Q : Post} {Inv : Nat → Int → (Option Addr) → Nat → Nat → Int → AHeap → Prop} {μ : Nat} (μ' : Nat) {n_0 : Int} {vout_a : Option Addr} {vout_n : Nat} {vout_e : Nat} {k : Int} {g8 g9 g10 g11 g12 g13 g14 g15 g16 g17 g18 g19 g20 g21 g22 g23 g24 : Value} {H : AHeap} (hm : μ' < μ) (hI : Inv μ' n_0 vout_a vout_n vout_e k H) : loopQ (spec_l02BandSizes_I1 b1 levels Inv) μ Q .normal [.int .i64 n_0, .int .i64 levels, undef, undef, .slice none 0 0, .slice vout_a vout_n vout_e, .int .i64 k, .slice (some ⟨b1, 0, none⟩) 0 1, g8, g9, g10, g11, g12, g13, g14, g15, g16, g17, g18, g19, g20, g21, g22, g23, g24, undef, undef, undef, undef] H := ⟨μ', hm, n_0, vout_a, vout_n, vout_e, k, g8, g9, g10, g11, g12, g13, g14, g15, g16, g17, g18, g19, g20, g21, g22, g23, g24, rfl, hI⟩
theorem spec_l02BandSizes_x1_0 (b1 : Nat) (levels : Int) (n_0 : Int) (vout_a : Option Addr) (vout_n : Nat) (vout_e : Nat) (k : Int) (g8 g9 g10 g11 g12 g13 g14 g15 g16 g17 g18 g19 g20 g21 g22 g23 g24 : Value) (H : AHeap) (K : Value → AHeap → Prop)  {I : Nat → List Value → AHeap → Prop} {μ : Nat} : loopQ I μ (blockQ 0 (seqQ (exK Try.prog E_spec_l02BandSizes (cr (cr (cr (bodyC Try.f88))))) (retK Try.prog Try.f88 K))) (.exit 0) [.int .i64 n_0, .int .i64 levels, undef, undef, .slice none 0 0, .slice vout_a vout_n vout_e, .int .i64 k, .slice (some ⟨b1, 0, none⟩) 0 1, g8, g9, g10, g11, g12, g13, g14, g15, g16, g17, g18, g19, g20, g21, g22, g23, g24, undef, undef, undef, undef] H =
  (Al [.int .i64 n_0] H fun b4 H4 => ∃ o2 w2 : List Value, ownB H4 vout_a vout_n vout_e 1 = some o2 ∧ rdS H4 (some ⟨b4, 0, none⟩) (1 * 1) = some w2 ∧ ((vout_a : Option Addr) = none → 0 < (1 : Nat)) ∧ (vout_n : Nat) + 1 < most ∧ Ap H4 (killB H4 vout_a ++ [some ⟨o2 ++ w2, true⟩]) fun b5 H5 => K (.slice (some ⟨b5, 0, none⟩) (vout_n + 1) 1) H5) := by kernel_rfl
theorem E_spec_l02BandSizes_ok : ∀ g, FnOk Try.prog g (E_spec_l02BandSizes g) := FnOk.envOf (by
  intro x hx; cases hx)
set_option maxHeartbeats 1000000 in
theorem spec_l02BandSizes_main (n : Int) (levels : Int) (H : AHeap) (K : Value → AHeap → Prop) (h : T_spec_l02BandSizes n levels H fun (r1_a : Option Addr) (r1_n : Nat) (r1_e : Nat) (H' : AHeap) => K (.slice r1_a r1_n r1_e) H') : bodyK Try.prog E_spec_l02BandSizes Try.f88 [.int .i64 n, .int .i64 levels] H K := by
  rw [spec_l02BandSizes_vc]
  obtain ⟨pr0, pr1, pr2, hk⟩ := h
  have e : (p_spec_l02BandSizes n levels) = _ := rfl
  have e := e.trans (p_spec_l02BandSizes_eq n levels)
  have g0 := Grow.refl H
  refine Al.intro (fun b_1 H_1 hb_2 hl_3 g_4 o_5 => ?_)
  have o_5 : Own H_1 b_1 ((([] : List Int)).map fI) := o_5
  have l_7 := g_4.1
  have g_8 := g0.trans g_4
  have l_9 := g_8.1
  have w_98 := o_5.lt
  refine spec_l02BandSizes_L1 _ _ (fun (μ : Nat) (n_0 : Int) (vout_a : Option Addr) (vout_n : Nat) (vout_e : Nat) (k : Int) (H_2 : AHeap) => ∃ (l_vout : List Int), ∃ (b_10 : Nat), vout_a = some ⟨b_10, 0, none⟩ ∧ vout_n = l_vout.length ∧ vout_e = 1 ∧ Own H_2 b_10 (l_vout.map fI) ∧ Grow H H_2 ∧ H.length ≤ b_10 ∧ (0 : Int) ≤ k ∧ ((k ≤ levels ∨ k ≤ (0 : Int))) ∧ (l_vout.length : Int) ≤ k - (0 : Int) + 0 ∧ (l_vout.length : Int) ≤ k ∧ 0 ≤ n_0 ∧ n_0 ≤ 128 ∧ levels - k ≤ (μ : Int) ∧ p_spec_l02BandSizes n levels = p_spec_l02BandSizes_l1 n levels (μ + 1) n_0 l_vout k) (Int.toNat (levels - (0 : Int))) _ _ _ _ _ _ _ _ _ _ _ _ _ _ _ _ _ _ _ _ _ _ H_1 ?_ ?_
  · exact ⟨_, _, rfl, (by first | rfl | omega | (simp only [List.length_set]; done) | (simp only [List.length_set, List.length_replicate]; omega)), rfl, o_5, g_8, (by omega), (by first | omega | (simp; done) | (simp; omega)), (by first | omega | (simp; done) | (simp; omega)), (by first | omega | (simp; done) | (simp; omega)), (by first | omega | (simp; done) | (simp; omega)), (by first | omega | (simp; done) | (simp; omega)), (by first | omega | (simp; done) | (simp; omega)), (by omega), e⟩
  · intro μ n_0 vout_a vout_n vout_e k g8 g9 g10 g11 g12 g13 g14 g15 g16 g17 g18 g19 g20 g21 g22 g23 g24 H_2 hI
    obtain ⟨l_vout, b_10, rfl, rfl, rfl, o_11, g_12, l_13, v_14, v_15, v_16, v_17, v_18, v_19, hμ, e⟩ := hI
    rw [spec_l02BandSizes_r1]
    have e := e.trans (p_spec_l02BandSizes_l1_s n levels μ n_0 l_vout k)
    have w_20 := o_11.lt
    have l_21 := g_12.1
    refine Br.intro (fun c_22 => ?_) (fun c_22 => ?_)
    · have e := e.trans (cond_t c_22)
      have c_22' := of_decide_eq_true c_22
      refine Br.intro (fun c_23 => ?_) (fun c_23 => ?_)
      · have e := e.trans (cond_t c_23)
        have c_23' := of_decide_eq_true c_23
        have z_24 := tdiv_nn n_0 2
        refine ⟨(by first | omega | decide | (simp; done) | (simp; omega)), ?_⟩
        rw [show IntKind.wrap .i64 (Int.tdiv n_0 2) = (Int.tdiv n_0 2) from wrap64 (by omega) (by omega)]
        refine Al.intro (fun b_25 H_3 hb_26 hl_27 g_28 o_29 => ?_)
        have o_29 : Own H_3 b_25 (([((Int.tdiv n_0 2) : Int)]).map fI) := o_29
        have l_31 := g_28.1
        have g_32 := g_12.trans g_28
        have l_33 := g_32.1
        have o_34 := o_11.grow g_28
        have w_35 := o_34.lt
        have w_49 := o_29.lt
        refine ⟨_, _, o_34.ownB (by first | (simp only [List.length_map, List.length_cons, List.length_nil, List.length_append]; done) | (simp only [List.length_map, List.length_cons, List.length_nil, List.length_append]; omega)) rfl, (isl_rdS (o_29.isL (by first | rfl | omega | (simp only [List.length_set]; done) | (simp only [List.length_set, List.length_replicate]; omega)))), (fun h => by cases h), (by have := most_eq; omega), ?_⟩
        refine Ap.app o_34 rfl rfl (fun b_40 H_4 q_47 hl_36 o_37 k_38 => ?_)
        have o_37 := map_snoc o_37
        have l_41 := k_38.1
        have g_42 := g_32.keep (b := b_10) (by omega) k_38
        have l_43 := g_42.1
        have o_44 := o_29.keep (by omega) k_38
        have w_45 := o_44.lt
        have w_48 := o_37.lt
        rw [show IntKind.wrap .i64 (n_0 + 1) = (n_0 + 1) from wrap64 (by omega) (by omega)]
        have z_46 := tdiv_nn (n_0 + 1) 2
        refine ⟨(by first | omega | decide | (simp; done) | (simp; omega)), ?_⟩
        rw [show IntKind.wrap .i64 (Int.tdiv (n_0 + 1) 2) = (Int.tdiv (n_0 + 1) 2) from wrap64 (by omega) (by omega)]
        rw [show IntKind.wrap .i64 (k + 1) = (k + 1) from wrap64 (by omega) (by omega)]
        refine spec_l02BandSizes_n1 (μ - 1) (by first | omega) ⟨_, _, rfl, (by first | (simp only [List.length_append, List.length_cons, List.length_nil]; done) | (simp only [List.length_append, List.length_cons, List.length_nil]; omega) | (simp only [List.length_append, List.length_cons, List.length_nil, List.length_take, List.length_drop]; omega)), rfl, o_37, g_42, (by omega), (by first | omega | (simp only [List.length_append, List.length_cons, List.length_nil, List.length_set]; done) | (simp only [List.length_append, List.length_cons, List.length_nil, List.length_set]; omega)), (by first | omega | (simp only [List.length_append, List.length_cons, List.length_nil, List.length_set]; done) | (simp only [List.length_append, List.length_cons, List.length_nil, List.length_set]; omega)), (by first | omega | (simp only [List.length_append, List.length_cons, List.length_nil, List.length_set]; done) | (simp only [List.length_append, List.length_cons, List.length_nil, List.length_set]; omega)), (by first | omega | (simp only [List.length_append, List.length_cons, List.length_nil, List.length_set]; done) | (simp only [List.length_append, List.length_cons, List.length_nil, List.length_set]; omega)), (by first | omega | (simp only [List.length_append, List.length_cons, List.length_nil, List.length_set]; done) | (simp only [List.length_append, List.length_cons, List.length_nil, List.length_set]; omega)), (by first | omega | (simp only [List.length_append, List.length_cons, List.length_nil, List.length_set]; done) | (simp only [List.length_append, List.length_cons, List.length_nil, List.length_set]; omega)), (by first | omega), (by rw [show μ - 1 + 1 = μ from by first | omega]; exact e)⟩
      · have e := e.trans (cond_f c_23)
        have c_23' := of_decide_eq_false c_23
        rw [spec_l02BandSizes_x1_0]
        refine Al.intro (fun b_50 H_5 hb_51 hl_52 g_53 o_54 => ?_)
        have o_54 : Own H_5 b_50 (([(n_0 : Int)]).map fI) := o_54
        have l_56 := g_53.1
        have g_57 := g_12.trans g_53
        have l_58 := g_57.1
        have o_59 := o_11.grow g_53
        have w_60 := o_59.lt
        have w_73 := o_54.lt
        refine ⟨_, _, o_59.ownB (by first | (simp only [List.length_map, List.length_cons, List.length_nil, List.length_append]; done) | (simp only [List.length_map, List.length_cons, List.length_nil, List.length_append]; omega)) rfl, (isl_rdS (o_54.isL (by first | rfl | omega | (simp only [List.length_set]; done) | (simp only [List.length_set, List.length_replicate]; omega)))), (fun h => by cases h), (by have := most_eq; omega), ?_⟩
        refine Ap.app o_59 rfl rfl (fun b_65 H_6 q_71 hl_61 o_62 k_63 => ?_)
        have o_62 := map_snoc o_62
        have l_66 := k_63.1
        have g_67 := g_57.keep (b := b_10) (by omega) k_63
        have l_68 := g_67.1
        have o_69 := o_54.keep (by omega) k_63
        have w_70 := o_69.lt
        have w_72 := o_62.lt
        rw [e] at hk
        exact hk _ _ _ H_6 g_67 (o_62.ownS (by first | (simp only [List.length_append, List.length_cons, List.length_nil]; done) | (simp only [List.length_append, List.length_cons, List.length_nil]; omega) | (simp only [List.length_append, List.length_cons, List.length_nil, List.length_take, List.length_drop]; omega)) (by omega))
    · have e := e.trans (cond_f c_22)
      have c_22' := of_decide_eq_false c_22
      rw [spec_l02BandSizes_x1_0]
      refine Al.intro (fun b_74 H_7 hb_75 hl_76 g_77 o_78 => ?_)
      have o_78 : Own H_7 b_74 (([(n_0 : Int)]).map fI) := o_78
      have l_80 := g_77.1
      have g_81 := g_12.trans g_77
      have l_82 := g_81.1
      have o_83 := o_11.grow g_77
      have w_84 := o_83.lt
      have w_97 := o_78.lt
      refine ⟨_, _, o_83.ownB (by first | (simp only [List.length_map, List.length_cons, List.length_nil, List.length_append]; done) | (simp only [List.length_map, List.length_cons, List.length_nil, List.length_append]; omega)) rfl, (isl_rdS (o_78.isL (by first | rfl | omega | (simp only [List.length_set]; done) | (simp only [List.length_set, List.length_replicate]; omega)))), (fun h => by cases h), (by have := most_eq; omega), ?_⟩
      refine Ap.app o_83 rfl rfl (fun b_89 H_8 q_95 hl_85 o_86 k_87 => ?_)
      have o_86 := map_snoc o_86
      have l_90 := k_87.1
      have g_91 := g_81.keep (b := b_10) (by omega) k_87
      have l_92 := g_91.1
      have o_93 := o_78.keep (by omega) k_87
      have w_94 := o_93.lt
      have w_96 := o_86.lt
      rw [e] at hk
      exact hk _ _ _ H_8 g_91 (o_86.ownS (by first | (simp only [List.length_append, List.length_cons, List.length_nil]; done) | (simp only [List.length_append, List.length_cons, List.length_nil]; omega) | (simp only [List.length_append, List.length_cons, List.length_nil, List.length_take, List.length_drop]; omega)) (by omega))
theorem spec_l02BandSizes_ok : FnOk Try.prog 88 S_spec_l02BandSizes := by
  refine FnOk.body mix_ok E_spec_l02BandSizes_ok Try.func88 rfl (by kernel_rfl) (by kernel_rfl) ?_ ?_ ?_ ?_ ?_
  · intro args H K K' h hk
    simp only [S_spec_l02BandSizes] at *
    unfold F_spec_l02BandSizes at *
    split at hk
    · obtain ⟨pr0, pr1, pr2, k⟩ := hk
      exact ⟨pr0, pr1, pr2, (fun r1_a r1_n r1_e H' gg ow0 => h _ _ (k r1_a r1_n r1_e H' gg ow0))⟩
    · exact hk.elim
  · intro hq; cases hq
  · intro args H K hk
    simp only [S_spec_l02BandSizes] at *
    unfold F_spec_l02BandSizes at *
    split at hk
    · obtain ⟨pr0, pr1, pr2, k⟩ := hk
      exact liveS fun a n e H1 g o => ⟨_, _, k a n e H1 g o⟩
    · exact hk.elim
  · intro _ args H K hk
    simp only [S_spec_l02BandSizes] at *
    unfold F_spec_l02BandSizes at *
    split at hk
    · obtain ⟨pr0, pr1, pr2, k⟩ := hk
      exact ⟨pr0, pr1, pr2, (fun r1_a r1_n r1_e H' gg ow0 => ⟨gg, k r1_a r1_n r1_e H' gg ow0⟩)⟩
    · exact hk.elim
  · have mm := @spec_l02BandSizes_main
    revert mm
    generalize bodyK Try.prog E_spec_l02BandSizes Try.f88 = Q
    intro mm args H K hk
    simp only [S_spec_l02BandSizes] at *
    unfold F_spec_l02BandSizes at *
    split at hk
    · exact mm _ _ H K hk
    · exact hk.elim
def p_spec_l00Min (a : Int) (b : Int) : Int := (bif decide ((a : Int) < b) then a else b)
theorem p_spec_l00Min_eq (a : Int) (b : Int) : p_spec_l00Min a b = (bif decide ((a : Int) < b) then a else b) := rfl
def T_spec_l00Min (a : Int) (b : Int) (H : AHeap) (K : Int → AHeap → Prop) : Prop := K (p_spec_l00Min a b) H

theorem T_spec_l00Min_i {a : Int} {b : Int} {H : AHeap} {K : Int → AHeap → Prop} (h : K (p_spec_l00Min a b) H) : T_spec_l00Min a b H K := h
/-! spec_l00Min: function 89 -/
def E_spec_l00Min : Env := envOf []
def F_spec_l00Min : List Value → AHeap → (Value → AHeap → Prop) → Prop
  | [.int .i64 a, .int .i64 b], H, K => T_spec_l00Min a b H fun (r1 : Int) (H' : AHeap) => K (.int .i64 r1) H'
  | _, _, _ => False
def S_spec_l00Min : FSpec := { F := F_spec_l00Min, quiet := true, tame := false }
theorem spec_l00Min_vc (a : Int) (b : Int) (H : AHeap) (K : Value → AHeap → Prop) : bodyK Try.prog E_spec_l00Min Try.f89 [.int .i64 a, .int .i64 b] H K =
  (Br (decide ((a : Int) < b)) (K (.int .i64 a) H) (K (.int .i64 b) H)) := by kernel_rfl
theorem E_spec_l00Min_ok : ∀ g, FnOk Try.prog g (E_spec_l00Min g) := FnOk.envOf (by
  intro x hx; cases hx)
set_option maxHeartbeats 1000000 in
theorem spec_l00Min_main (a : Int) (b : Int) (H : AHeap) (K : Value → AHeap → Prop) (h : T_spec_l00Min a b H fun (r1 : Int) (H' : AHeap) => K (.int .i64 r1) H') : bodyK Try.prog E_spec_l00Min Try.f89 [.int .i64 a, .int .i64 b] H K := by
  rw [spec_l00Min_vc]
  unfold T_spec_l00Min p_spec_l00Min at h
  repeat' (first | exact h | (exfalso; simp_all; done) | (refine ⟨by decide, ?_⟩) | (refine Br.intro (fun hb => ?_) (fun hb => ?_) <;> (try simp only [hb, cond_true, cond_false, Bool.not_true, Bool.not_false] at h)))
theorem spec_l00Min_ok : FnOk Try.prog 89 S_spec_l00Min := by
  refine FnOk.body mix_ok E_spec_l00Min_ok Try.func89 rfl (by kernel_rfl) (by kernel_rfl) ?_ ?_ ?_ ?_ ?_
  · intro args H K K' h hk
    simp only [S_spec_l00Min] at *
    unfold F_spec_l00Min at *
    split at hk
    · have k := hk
      exact h _ _ k
    · exact hk.elim
  · intro _ args H K hk
    simp only [S_spec_l00Min] at *
    unfold F_spec_l00Min at *
    split at hk
    · have k := hk
      exact ⟨_, k, fun K' k' => k'⟩
    · exact hk.elim
  · intro args H K hk
    simp only [S_spec_l00Min] at *
    unfold F_spec_l00Min at *
    split at hk
    · have k := hk
      exact ⟨_, _, k⟩
    · exact hk.elim
  · intro hq; cases hq
  · have mm := @spec_l00Min_main
    revert mm
    generalize bodyK Try.prog E_spec_l00Min Try.f89 = Q
    intro mm args H K hk
    simp only [S_spec_l00Min] at *
    unfold F_spec_l00Min at *
    split at hk
    · exact mm _ _ H K hk
    · exact hk.elim
def p_spec_l06Parent_l1 (n : Int) (levels : Int) (i : Int) : Nat → Int → Int → Int → Int
  | 0, _, _, _ => 0
  | μ + 1, t6, vfrom, k => (bif decide ((0 : Int) ≤ k) then (bif decide ((i : Int) < IntKind.wrap .i64 (vfrom + ((((p_spec_l02BandSizes n levels)).getD (k : Int).toNat 0)))) then (bif decide (((((p_spec_l02BandSizes n levels)).length : Int) : Int) ≤ (k + 2)) then ((-1) : Int) else IntKind.wrap .i64 ((IntKind.wrap .i64 (vfrom - ((((p_spec_l02BandSizes n levels)).getD ((k + 1) : Int).toNat 0)))) + ((p_spec_l00Min (IntKind.wrap .i64 (Int.tdiv (IntKind.wrap .i64 (i - vfrom)) 2)) (IntKind.wrap .i64 (((((p_spec_l02BandSizes n levels)).getD ((k + 1) : Int).toNat 0)) - 1)))))) else (p_spec_l06Parent_l1 n levels i μ t6 (IntKind.wrap .i64 (vfrom + ((((p_spec_l02BandSizes n levels)).getD (k : Int).toNat 0)))) (k - 1))) else ((-1) : Int))
theorem p_spec_l06Parent_l1_s (n : Int) (levels : Int) (i : Int) (μ : Nat) (t6 : Int) (vfrom : Int) (k : Int) : p_spec_l06Parent_l1 n levels i (μ + 1) t6 vfrom k = (bif decide ((0 : Int) ≤ k) then (bif decide ((i : Int) < IntKind.wrap .i64 (vfrom + ((((p_spec_l02BandSizes n levels)).getD (k : Int).toNat 0)))) then (bif decide (((((p_spec_l02BandSizes n levels)).length : Int) : Int) ≤ (k + 2)) then ((-1) : Int) else IntKind.wrap .i64 ((IntKind.wrap .i64 (vfrom - ((((p_spec_l02BandSizes n levels)).getD ((k + 1) : Int).toNat 0)))) + ((p_spec_l00Min (IntKind.wrap .i64 (Int.tdiv (IntKind.wrap .i64 (i - vfrom)) 2)) (IntKind.wrap .i64 (((((p_spec_l02BandSizes n levels)).getD ((k + 1) : Int).toNat 0)) - 1)))))) else (p_spec_l06Parent_l1 n levels i μ t6 (IntKind.wrap .i64 (vfrom + ((((p_spec_l02BandSizes n levels)).getD (k : Int).toNat 0)))) (k - 1))) else ((-1) : Int)) := rfl
def p_spec_l06Parent (n : Int) (levels : Int) (i : Int) : Int := (p_spec_l06Parent_l1 n levels i (Int.toNat ((((((((p_spec_l02BandSizes n levels)).length : Int)) - 1))) - 0 + 1) + 1) (0 : Int) (0 : Int) (((((((p_spec_l02BandSizes n levels)).length : Int)) - 1))))
theorem p_spec_l06Parent_eq (n : Int) (levels : Int) (i : Int) : p_spec_l06Parent n levels i = (p_spec_l06Parent_l1 n levels i (Int.toNat ((((((((p_spec_l02BandSizes n levels)).length : Int)) - 1))) - 0 + 1) + 1) (0 : Int) (0 : Int) (((((((p_spec_l02BandSizes n levels)).length : Int)) - 1)))) := rfl
def T_spec_l06Parent (n : Int) (levels : Int) (i : Int) (H : AHeap) (K : Int → AHeap → Prop) : Prop := 0 ≤ n ∧ n ≤ 128 ∧ levels ≤ 6 ∧ ((∀ H' : AHeap, Grow H H' → K (p_spec_l06Parent n levels i) H'))
theorem T_spec_l06Parent_i {n : Int} {levels : Int} {i : Int} {H : AHeap} {K : Int → AHeap → Prop} (h : 0 ≤ n ∧ n ≤ 128 ∧ levels ≤ 6 ∧ ((∀ H' : AHeap, Grow H H' → K (p_spec_l06Parent n levels i) H'))) : T_spec_l06Parent n levels i H K := h
def parAt (S : List Int) (i : Int) : Nat → Int → Int
  | 0, _ => -1
  | b + 1, start => if i < start + S.getD b 0 then (if (S.length : Int) ≤ (b : Int) + 2 then -1 else start - S.getD (b + 1) 0 + (if S.getD (b + 1) 0 - 1 < Int.tdiv (i - start) 2 then S.getD (b + 1) 0 - 1 else Int.tdiv (i - start) 2)) else parAt S i b (start + S.getD b 0)
theorem spec_par (n levels i : Int) (S : List Int) (hS : p_spec_l02BandSizes n levels = S) (hr : ∀ j : Nat, 0 ≤ S.getD j 0 ∧ S.getD j 0 ≤ 128) (hi : i ≤ 2000) : ∀ (b μ : Nat) (t6 vfrom : Int), b < μ → 0 ≤ vfrom → vfrom ≤ 128 * (8 - (b : Int)) → vfrom ≤ i → b ≤ 7 →
    p_spec_l06Parent_l1 n levels i μ t6 vfrom ((b : Int) - 1) = parAt S i b vfrom := by
  intro b
  induction b with
  | zero =>
    intro μ t6 vfrom hm h0 h1 h2 h3
    obtain ⟨μ, rfl⟩ : ∃ j, μ = j + 1 := ⟨μ - 1, by omega⟩
    rw [p_spec_l06Parent_l1_s, decide_eq_false (by omega)]; rfl
  | succ b ih =>
    intro μ t6 vfrom hm h0 h1 h2 h3
    obtain ⟨μ, rfl⟩ : ∃ j, μ = j + 1 := ⟨μ - 1, by omega⟩
    have r0 := hr b
    have r1 := hr (b + 1)
    rw [p_spec_l06Parent_l1_s, hS, show ((b + 1 : Nat) : Int) - 1 = (b : Int) by omega, show ((b : Int) + 1).toNat = b + 1 by omega, Int.toNat_natCast, decide_eq_true (show (0 : Int) ≤ (b : Int) by omega), cond_true, wrap64 (n := vfrom + S.getD b 0) (by omega) (by omega)]
    unfold parAt
    by_cases c : i < vfrom + S.getD b 0
    · rw [decide_eq_true c, cond_true, if_pos c]
      by_cases c2 : (S.length : Int) ≤ (b : Int) + 2
      · rw [decide_eq_true c2, cond_true, if_pos c2]
      · have t := tdiv_nn (i - vfrom) 2 (by omega)
        rw [decide_eq_false c2, cond_false, if_neg c2, wrap64 (n := vfrom - S.getD (b + 1) 0) (by omega) (by omega), wrap64 (n := i - vfrom) (by omega) (by omega), wrap64 (n := Int.tdiv (i - vfrom) 2) (by omega) (by omega), wrap64 (n := S.getD (b + 1) 0 - 1) (by omega) (by omega)]
        unfold p_spec_l00Min
        by_cases c3 : Int.tdiv (i - vfrom) 2 < S.getD (b + 1) 0 - 1
        · rw [decide_eq_true c3, cond_true, if_neg (by omega), wrap64 (by omega) (by omega)]
        · rw [decide_eq_false c3, cond_false, wrap64 (by omega) (by omega)]
          split <;> omega
    · rw [decide_eq_false c, cond_false, if_neg c]
      exact ih μ t6 _ (by omega) (by omega) (by omega) (by omega) (by omega)
theorem parAt_rng (S : List Int) (hr : ∀ j : Nat, 0 ≤ S.getD j 0 ∧ S.getD j 0 ≤ 128) (i : Int) : ∀ (b : Nat) (start : Int), start ≤ i → (b < S.length → S.getD b 0 ≤ start) → b ≤ S.length → 0 ≤ start → -1 ≤ parAt S i b start ∧ (parAt S i b start < i) := by
  intro b
  induction b with
  | zero => intro start h0 _ _ h1; unfold parAt; omega
  | succ b ih =>
    intro start h0 h1 h2 h3
    have r0 := hr b
    have r1 := hr (b + 1)
    unfold parAt
    split
    · split
      · omega
      · have t := tdiv_nn (i - start) 2 (by omega)
        have := h1 (by omega)
        split <;> omega
    · refine ih _ (by omega) (by omega) (by omega) (by omega)
theorem spec_l06Parent_rng (n levels i : Int) : 0 ≤ n → n ≤ 128 → levels ≤ 6 → 0 ≤ i → i ≤ 2000 → -1 ≤ p_spec_l06Parent n levels i ∧ p_spec_l06Parent n levels i < i := by
  intro h0 h1 h2 h3 h4
  have hr := spec_l02BandSizes_rng n levels h0 h1
  have hl := spec_l02BandSizes_len n levels h2
  generalize hg : p_spec_l02BandSizes n levels = S at hr hl
  have e0 : Int.toNat (((((S.length : Int) - 1))) - 0 + 1) = S.length := by omega
  have e2 : p_spec_l06Parent n levels i = parAt S i S.length 0 := by
    rw [p_spec_l06Parent_eq, hg, e0]
    exact spec_par n levels i S hg hr h4 S.length (S.length + 1) 0 0 (by omega) (by omega) (by omega) (by omega) hl
  rw [e2]
  exact parAt_rng S hr i S.length 0 h3 (by omega) (Nat.le_refl _) (by omega)
/-! spec_l06Parent: function 81 -/
def E_spec_l06Parent : Env := envOf [(88, S_spec_l02BandSizes), (89, S_spec_l00Min)]
def F_spec_l06Parent : List Value → AHeap → (Value → AHeap → Prop) → Prop
  | [.int .i64 n, .int .i64 levels, .int .i64 i], H, K => T_spec_l06Parent n levels i H fun (r1 : Int) (H' : AHeap) => K (.int .i64 r1) H'
  | _, _, _ => False
def S_spec_l06Parent : FSpec := { F := F_spec_l06Parent, quiet := false, tame := true }
theorem spec_l06Parent_vc (n : Int) (levels : Int) (i : Int) (H : AHeap) (K : Value → AHeap → Prop) : bodyK Try.prog E_spec_l06Parent Try.f81 [.int .i64 n, .int .i64 levels, .int .i64 i] H K =
  (T_spec_l02BandSizes n levels H fun (a1 : Option Addr) (r1 : Nat) (r2 : Nat) (H1 : AHeap) => loopK (exK Try.prog E_spec_l06Parent (cl (cl (cr (cl (cr (cr (cr (bodyC Try.f81))))))))) [.int .i64 n, .int .i64 levels, .int .i64 i, undef, undef, undef, .int .i64 0, .slice a1 r1 r2, .int .i64 0, .int .i64 (IntKind.wrap .i64 ((r1 : Int) - 1)), .int .i64 n, .int .i64 levels, .slice a1 r1 r2, .slice a1 r1 r2, .int .i64 (r1 : Int), .int .i64 (IntKind.wrap .i64 ((r1 : Int) - 1)), undef, undef, undef, undef, undef, undef, undef, undef, undef, undef, undef, undef, undef, undef, undef, undef, undef, undef, undef, undef, undef, undef, undef, undef, undef, undef, undef, undef, undef, undef, undef, undef, undef, undef, undef, undef, undef, undef, undef, undef, undef, undef] H1 (blockQ 0 (seqQ (exK Try.prog E_spec_l06Parent (cr (cr (cr (cr (bodyC Try.f81)))))) (retK Try.prog Try.f81 K)))) := by kernel_rfl
theorem spec_l06Parent_r1 (a1 : Option Addr) (i : Int) (levels : Int) (n : Int) (r1 : Nat) (r2 : Nat) (z1_15 : Int) (t6 : Int) (vfrom : Int) (k : Int) (g16 g17 g18 g19 g20 g21 g22 g23 g24 g25 g26 g27 g28 g29 g30 g31 g32 g33 g34 g35 g36 g37 g38 g39 g40 g41 g42 g43 g44 g45 g46 g47 g48 g49 g50 g51 g52 g53 g54 g55 g56 g57 : Value) (H : AHeap) (R : Post) : exK Try.prog E_spec_l06Parent (cl (cl (cr (cl (cr (cr (cr (bodyC Try.f81)))))))) [.int .i64 n, .int .i64 levels, .int .i64 i, undef, undef, undef, .int .i64 t6, .slice a1 r1 r2, .int .i64 vfrom, .int .i64 k, .int .i64 n, .int .i64 levels, .slice a1 r1 r2, .slice a1 r1 r2, .int .i64 (r1 : Int), .int .i64 z1_15, g16, g17, g18, g19, g20, g21, g22, g23, g24, g25, g26, g27, g28, g29, g30, g31, g32, g33, g34, g35, g36, g37, g38, g39, g40, g41, g42, g43, g44, g45, g46, g47, g48, g49, g50, g51, g52, g53, g54, g55, g56, g57] H R =
  (Br (decide ((0 : Int) ≤ k)) ((0 : Int) ≤ k ∧ k < (r1 : Int) ∧ ∃ b1 f1, (a1 : Option Addr) = some ⟨b1, f1, none⟩ ∧ ∃ x1 : Int,  rdC H b1 (f1 + (k : Int).toNat * 1) = some (.int .i64 x1) ∧ Br (decide ((i : Int) < IntKind.wrap .i64 (vfrom + x1))) (Br (decide (((r1 : Int) : Int) ≤ IntKind.wrap .i64 (k + 2))) (R .ret [.int .i64 n, .int .i64 levels, .int .i64 i, undef, undef, undef, .int .i64 (-1), .slice a1 r1 r2, .int .i64 vfrom, .int .i64 k, .int .i64 n, .int .i64 levels, .slice a1 r1 r2, .slice a1 r1 r2, .int .i64 (r1 : Int), .int .i64 z1_15, .int .i64 k, .bool (decide ((0 : Int) ≤ k)), g18, g19, .int .i64 i, .int .i64 vfrom, .slice a1 r1 r2, .int .i64 k, .pointer (some ⟨b1, f1 + (k : Int).toNat * 1, none⟩), .int .i64 x1, .int .i64 (IntKind.wrap .i64 (vfrom + x1)), .bool (decide ((i : Int) < IntKind.wrap .i64 (vfrom + x1))), .int .i64 k, .int .i64 (IntKind.wrap .i64 (k + 2)), .slice a1 r1 r2, .int .i64 (r1 : Int), .bool (decide (((r1 : Int) : Int) ≤ IntKind.wrap .i64 (k + 2))), g33, g34, g35, g36, g37, g38, g39, g40, g41, g42, g43, g44, g45, g46, g47, g48, g49, g50, g51, g52, g53, g54, g55, g56, g57] H) ((0 : Int) ≤ IntKind.wrap .i64 (k + 1) ∧ IntKind.wrap .i64 (k + 1) < (r1 : Int) ∧ ∃ b2 f2, (a1 : Option Addr) = some ⟨b2, f2, none⟩ ∧ ∃ x2 : Int,  rdC H b2 (f2 + (IntKind.wrap .i64 (k + 1) : Int).toNat * 1) = some (.int .i64 x2) ∧ 2 ≠ (0 : Int) ∧ (0 : Int) ≤ IntKind.wrap .i64 (k + 1) ∧ IntKind.wrap .i64 (k + 1) < (r1 : Int) ∧ ∃ b3 f3, (a1 : Option Addr) = some ⟨b3, f3, none⟩ ∧ ∃ x3 : Int,  rdC H b3 (f3 + (IntKind.wrap .i64 (k + 1) : Int).toNat * 1) = some (.int .i64 x3) ∧ T_spec_l00Min (IntKind.wrap .i64 (Int.tdiv (IntKind.wrap .i64 (i - vfrom)) 2)) (IntKind.wrap .i64 (x3 - 1)) H fun (r3 : Int) (H2 : AHeap) => R .ret [.int .i64 n, .int .i64 levels, .int .i64 i, undef, undef, undef, .int .i64 (IntKind.wrap .i64 ((IntKind.wrap .i64 (vfrom - x2)) + r3)), .slice a1 r1 r2, .int .i64 vfrom, .int .i64 k, .int .i64 n, .int .i64 levels, .slice a1 r1 r2, .slice a1 r1 r2, .int .i64 (r1 : Int), .int .i64 z1_15, .int .i64 k, .bool (decide ((0 : Int) ≤ k)), g18, g19, .int .i64 i, .int .i64 vfrom, .slice a1 r1 r2, .int .i64 k, .pointer (some ⟨b1, f1 + (k : Int).toNat * 1, none⟩), .int .i64 x1, .int .i64 (IntKind.wrap .i64 (vfrom + x1)), .bool (decide ((i : Int) < IntKind.wrap .i64 (vfrom + x1))), .int .i64 k, .int .i64 (IntKind.wrap .i64 (k + 2)), .slice a1 r1 r2, .int .i64 (r1 : Int), .bool (decide (((r1 : Int) : Int) ≤ IntKind.wrap .i64 (k + 2))), .int .i64 vfrom, .slice a1 r1 r2, .int .i64 k, .int .i64 (IntKind.wrap .i64 (k + 1)), .pointer (some ⟨b2, f2 + (IntKind.wrap .i64 (k + 1) : Int).toNat * 1, none⟩), .int .i64 x2, .int .i64 (IntKind.wrap .i64 (vfrom - x2)), .int .i64 i, .int .i64 vfrom, .int .i64 (IntKind.wrap .i64 (i - vfrom)), .int .i64 (IntKind.wrap .i64 (Int.tdiv (IntKind.wrap .i64 (i - vfrom)) 2)), .slice a1 r1 r2, .int .i64 k, .int .i64 (IntKind.wrap .i64 (k + 1)), .pointer (some ⟨b3, f3 + (IntKind.wrap .i64 (k + 1) : Int).toNat * 1, none⟩), .int .i64 x3, .int .i64 (IntKind.wrap .i64 (x3 - 1)), .int .i64 r3, .int .i64 (IntKind.wrap .i64 ((IntKind.wrap .i64 (vfrom - x2)) + r3)), g52, g53, g54, g55, g56, g57] H2)) ((0 : Int) ≤ k ∧ k < (r1 : Int) ∧ ∃ b4 f4, (a1 : Option Addr) = some ⟨b4, f4, none⟩ ∧ ∃ x4 : Int,  rdC H b4 (f4 + (k : Int).toNat * 1) = some (.int .i64 x4) ∧ R .normal [.int .i64 n, .int .i64 levels, .int .i64 i, undef, undef, undef, .int .i64 t6, .slice a1 r1 r2, .int .i64 (IntKind.wrap .i64 (vfrom + x4)), .int .i64 (IntKind.wrap .i64 (k - 1)), .int .i64 n, .int .i64 levels, .slice a1 r1 r2, .slice a1 r1 r2, .int .i64 (r1 : Int), .int .i64 z1_15, .int .i64 k, .bool (decide ((0 : Int) ≤ k)), .int .i64 k, .int .i64 (IntKind.wrap .i64 (k - 1)), .int .i64 i, .int .i64 vfrom, .slice a1 r1 r2, .int .i64 k, .pointer (some ⟨b1, f1 + (k : Int).toNat * 1, none⟩), .int .i64 x1, .int .i64 (IntKind.wrap .i64 (vfrom + x1)), .bool (decide ((i : Int) < IntKind.wrap .i64 (vfrom + x1))), g28, g29, g30, g31, g32, g33, g34, g35, g36, g37, g38, g39, g40, g41, g42, g43, g44, g45, g46, g47, g48, g49, g50, g51, .int .i64 vfrom, .slice a1 r1 r2, .int .i64 k, .pointer (some ⟨b4, f4 + (k : Int).toNat * 1, none⟩), .int .i64 x4, .int .i64 (IntKind.wrap .i64 (vfrom + x4))] H)) (R (.exit 0) [.int .i64 n, .int .i64 levels, .int .i64 i, undef, undef, undef, .int .i64 t6, .slice a1 r1 r2, .int .i64 vfrom, .int .i64 k, .int .i64 n, .int .i64 levels, .slice a1 r1 r2, .slice a1 r1 r2, .int .i64 (r1 : Int), .int .i64 z1_15, .int .i64 k, .bool (decide ((0 : Int) ≤ k)), g18, g19, g20, g21, g22, g23, g24, g25, g26, g27, g28, g29, g30, g31, g32, g33, g34, g35, g36, g37, g38, g39, g40, g41, g42, g43, g44, g45, g46, g47, g48, g49, g50, g51, g52, g53, g54, g55, g56, g57] H)) := by kernel_rfl
def spec_l06Parent_I1 (a1 : Option Addr) (i : Int) (levels : Int) (n : Int) (r1 : Nat) (r2 : Nat) (z1_15 : Int) (Inv : Nat → Int → Int → Int → AHeap → Prop) : Nat → List Value → AHeap → Prop := fun μ tm H => ∃ (t6 : Int), ∃ (vfrom : Int), ∃ (k : Int), ∃ g16 g17 g18 g19 g20 g21 g22 g23 g24 g25 g26 g27 g28 g29 g30 g31 g32 g33 g34 g35 g36 g37 g38 g39 g40 g41 g42 g43 g44 g45 g46 g47 g48 g49 g50 g51 g52 g53 g54 g55 g56 g57, tm = [.int .i64 n, .int .i64 levels, .int .i64 i, undef, undef, undef, .int .i64 t6, .slice a1 r1 r2, .int .i64 vfrom, .int .i64 k, .int .i64 n, .int .i64 levels, .slice a1 r1 r2, .slice a1 r1 r2, .int .i64 (r1 : Int), .int .i64 z1_15, g16, g17, g18, g19, g20, g21, g22, g23, g24, g25, g26, g27, g28, g29, g30, g31, g32, g33, g34, g35, g36, g37, g38, g39, g40, g41, g42, g43, g44, g45, g46, g47, g48, g49, g50, g51, g52, g53, g54, g55, g56, g57] ∧ Inv μ t6 vfrom k H
theorem spec_l06Parent_L1 (a1 : Option Addr) (i : Int) (levels : Int) (n : Int) (r1 : Nat) (r2 : Nat) (z1_15 : Int) {Q : Post} (Inv : Nat → Int → Int → Int → AHeap → Prop) (ν : Nat) (t6 : Int) (vfrom : Int) (k : Int) (g16 g17 g18 g19 g20 g21 g22 g23 g24 g25 g26 g27 g28 g29 g30 g31 g32 g33 g34 g35 g36 g37 g38 g39 g40 g41 g42 g43 g44 g45 g46 g47 g48 g49 g50 g51 g52 g53 g54 g55 g56 g57 : Value) (H : AHeap) (h0 : Inv ν t6 vfrom k H)
    (hs : ∀ (μ : Nat) (t6 : Int) (vfrom : Int) (k : Int) (g16 g17 g18 g19 g20 g21 g22 g23 g24 g25 g26 g27 g28 g29 g30 g31 g32 g33 g34 g35 g36 g37 g38 g39 g40 g41 g42 g43 g44 g45 g46 g47 g48 g49 g50 g51 g52 g53 g54 g55 g56 g57 : Value) (H : AHeap), Inv μ t6 vfrom k H → exK Try.prog E_spec_l06Parent (cl (cl (cr (cl (cr (cr (cr (bodyC Try.f81)))))))) [.int .i64 n, .int .i64 levels, .int .i64 i, undef, undef, undef, .int .i64 t6, .slice a1 r1 r2, .int .i64 vfrom, .int .i64 k, .int .i64 n, .int .i64 levels, .slice a1 r1 r2, .slice a1 r1 r2, .int .i64 (r1 : Int), .int .i64 z1_15, g16, g17, g18, g19, g20, g21, g22, g23, g24, g25, g26, g27, g28, g29, g30, g31, g32, g33, g34, g35, g36, g37, g38, g39, g40, g41, g42, g43, g44, g45, g46, g47, g48, g49, g50, g51, g52, g53, g54, g55, g56, g57] H (loopQ (spec_l06Parent_I1 a1 i levels n r1 r2 z1_15 Inv) μ Q)) : loopK (exK Try.prog E_spec_l06Parent (cl (cl (cr (cl (cr (cr (cr (bodyC Try.f81))))))))) [.int .i64 n, .int .i64 levels, .int .i64 i, undef, undef, undef, .int .i64 t6, .slice a1 r1 r2, .int .i64 vfrom, .int .i64 k, .int .i64 n, .int .i64 levels, .slice a1 r1 r2, .slice a1 r1 r2, .int .i64 (r1 : Int), .int .i64 z1_15, g16, g17, g18, g19, g20, g21, g22, g23, g24, g25, g26, g27, g28, g29, g30, g31, g32, g33, g34, g35, g36, g37, g38, g39, g40, g41, g42, g43, g44, g45, g46, g47, g48, g49, g50, g51, g52, g53, g54, g55, g56, g57] H Q :=
  ⟨spec_l06Parent_I1 a1 i levels n r1 r2 z1_15 Inv, ν, ⟨t6, vfrom, k, g16, g17, g18, g19, g20, g21, g22, g23, g24, g25, g26, g27, g28, g29, g30, g31, g32, g33, g34, g35, g36, g37, g38, g39, g40, g41, g42, g43, g44, g45, g46, g47, g48, g49, g50, g51, g52, g53, g54, g55, g56, g57, rfl, h0⟩, fun μ tm H h => by obtain ⟨t6, vfrom, k, g16, g17, g18, g19, g20, g21, g22, g23, g24, g25, g26, g27, g28, g29, g30, g31, g32, g33, g34, g35, g36, g37, g38, g39, g40, g41, g42, g43, g44, g45, g46, g47, g48, g49, g50, g51, g52, g53, g54, g55, g56, g57, rfl, hI⟩ := h; exact hs μ t6 vfrom k g16 g17 g18 g19 g20 g21 g22 g23 g24 g25 g26 g27 g28 g29 g30 g31 g32 g33 g34 g35 g36 g37 g38 g39 g40 g41 g42 g43 g44 g45 g46 g47 g48 g49 g50 g51 g52 g53 g54 g55 g56 g57 H hI⟩
theorem spec_l06Parent_n1 {a1 : Option Addr} {i : Int} {levels : Int} {n : Int} {r1 : Nat} {r2 : Nat} {z1_15 : Int} {Q : Post} {Inv : Nat → Int → Int → Int → AHeap → Prop} {μ : Nat} (μ' : Nat) {t6 : Int} {vfrom : Int} {k : Int} {g16 g17 g18 g19 g20 g21 g22 g23 g24 g25 g26 g27 g28 g29 g30 g31 g32 g33 g34 g35 g36 g37 g38 g39 g40 g41 g42 g43 g44 g45 g46 g47 g48 g49 g50 g51 g52 g53 g54 g55 g56 g57 : Value} {H : AHeap} (hm : μ' < μ) (hI : Inv μ' t6 vfrom k H) : loopQ (spec_l06Parent_I1 a1 i levels n r1 r2 z1_15 Inv) μ Q .normal [.int .i64 n, .int .i64 levels, .int .i64 i, undef, undef, undef, .int .i64 t6, .slice a1 r1 r2, .int .i64 vfrom, .int .i64 k, .int .i64 n, .int .i64 levels, .slice a1 r1 r2, .slice a1 r1 r2, .int .i64 (r1 : Int), .int .i64 z1_15, g16, g17, g18, g19, g20, g21, g22, g23, g24, g25, g26, g27, g28, g29, g30, g31, g32, g33, g34, g35, g36, g37, g38, g39, g40, g41, g42, g43, g44, g45, g46, g47, g48, g49, g50, g51, g52, g53, g54, g55, g56, g57] H := ⟨μ', hm, t6, vfrom, k, g16, g17, g18, g19, g20, g21, g22, g23, g24, g25, g26, g27, g28, g29, g30, g31, g32, g33, g34, g35, g36, g37, g38, g39, g40, g41, g42, g43, g44, g45, g46, g47, g48, g49, g50, g51, g52, g53, g54, g55, g56, g57, rfl, hI⟩
theorem spec_l06Parent_x1_0 (a1 : Option Addr) (i : Int) (levels : Int) (n : Int) (r1 : Nat) (r2 : Nat) (z1_15 : Int) (t6 : Int) (vfrom : Int) (k : Int) (g16 g17 g18 g19 g20 g21 g22 g23 g24 g25 g26 g27 g28 g29 g30 g31 g32 g33 g34 g35 g36 g37 g38 g39 g40 g41 g42 g43 g44 g45 g46 g47 g48 g49 g50 g51 g52 g53 g54 g55 g56 g57 : Value) (H : AHeap) (K : Value → AHeap → Prop)  {I : Nat → List Value → AHeap → Prop} {μ : Nat} : loopQ I μ (blockQ 0 (seqQ (exK Try.prog E_spec_l06Parent (cr (cr (cr (cr (bodyC Try.f81)))))) (retK Try.prog Try.f81 K))) (.exit 0) [.int .i64 n, .int .i64 levels, .int .i64 i, undef, undef, undef, .int .i64 t6, .slice a1 r1 r2, .int .i64 vfrom, .int .i64 k, .int .i64 n, .int .i64 levels, .slice a1 r1 r2, .slice a1 r1 r2, .int .i64 (r1 : Int), .int .i64 z1_15, g16, g17, g18, g19, g20, g21, g22, g23, g24, g25, g26, g27, g28, g29, g30, g31, g32, g33, g34, g35, g36, g37, g38, g39, g40, g41, g42, g43, g44, g45, g46, g47, g48, g49, g50, g51, g52, g53, g54, g55, g56, g57] H =
  (K (.int .i64 (-1)) H) := by kernel_rfl
theorem spec_l06Parent_x1_ret (a1 : Option Addr) (i : Int) (levels : Int) (n : Int) (r1 : Nat) (r2 : Nat) (z1_15 : Int) (t6 : Int) (vfrom : Int) (k : Int) (g16 g17 g18 g19 g20 g21 g22 g23 g24 g25 g26 g27 g28 g29 g30 g31 g32 g33 g34 g35 g36 g37 g38 g39 g40 g41 g42 g43 g44 g45 g46 g47 g48 g49 g50 g51 g52 g53 g54 g55 g56 g57 : Value) (H : AHeap) (K : Value → AHeap → Prop)  {I : Nat → List Value → AHeap → Prop} {μ : Nat} : loopQ I μ (blockQ 0 (seqQ (exK Try.prog E_spec_l06Parent (cr (cr (cr (cr (bodyC Try.f81)))))) (retK Try.prog Try.f81 K))) .ret [.int .i64 n, .int .i64 levels, .int .i64 i, undef, undef, undef, .int .i64 t6, .slice a1 r1 r2, .int .i64 vfrom, .int .i64 k, .int .i64 n, .int .i64 levels, .slice a1 r1 r2, .slice a1 r1 r2, .int .i64 (r1 : Int), .int .i64 z1_15, g16, g17, g18, g19, g20, g21, g22, g23, g24, g25, g26, g27, g28, g29, g30, g31, g32, g33, g34, g35, g36, g37, g38, g39, g40, g41, g42, g43, g44, g45, g46, g47, g48, g49, g50, g51, g52, g53, g54, g55, g56, g57] H =
  (K (.int .i64 t6) H) := by kernel_rfl
theorem E_spec_l06Parent_ok : ∀ g, FnOk Try.prog g (E_spec_l06Parent g) := FnOk.envOf (by
  intro x hx
  simp only [List.mem_cons, List.not_mem_nil, or_false] at hx
  rcases hx with rfl | rfl
  · exact spec_l02BandSizes_ok
  · exact spec_l00Min_ok)
set_option maxHeartbeats 1000000 in
theorem spec_l06Parent_main (n : Int) (levels : Int) (i : Int) (H : AHeap) (K : Value → AHeap → Prop) (h : T_spec_l06Parent n levels i H fun (r1 : Int) (H' : AHeap) => K (.int .i64 r1) H') : bodyK Try.prog E_spec_l06Parent Try.f81 [.int .i64 n, .int .i64 levels, .int .i64 i] H K := by
  rw [spec_l06Parent_vc]
  obtain ⟨pr0, pr1, pr2, hk⟩ := h
  have e : (p_spec_l06Parent n levels i) = _ := rfl
  have e := e.trans (p_spec_l06Parent_eq n levels i)
  have g0 := Grow.refl H
  refine T_spec_l02BandSizes_i ⟨(by first | assumption | omega | (simp; omega)), (by first | assumption | omega | (simp; omega)), (by first | assumption | omega | (simp; omega)), fun a_1 n_2 e_3 H_1 g_6 r_4 => ?_⟩
  have z_5 := spec_l02BandSizes_len n levels
  have l_7 := g_6.1
  have g_8 := g0.trans g_6
  have l_9 := g_8.1
  obtain rfl := r_4.isL.eqn
  have u_10 := r_4.up
  have u_11 := r_4.lo
  rw [show IntKind.wrap .i64 (((((p_spec_l02BandSizes n levels)).length : Int)) - 1) = (((((p_spec_l02BandSizes n levels)).length : Int)) - 1) from wrap64 (by omega) (by omega)]
  refine spec_l06Parent_L1 _ _ _ _ _ _ _ (fun (μ : Nat) (t6 : Int) (vfrom : Int) (k : Int) (H_2 : AHeap) => H_1 = H_2 ∧ k ≤ ((((((p_spec_l02BandSizes n levels)).length : Int)) - 1)) ∧ k - 0 + 1 ≤ (μ : Int) ∧ p_spec_l06Parent n levels i = p_spec_l06Parent_l1 n levels i (μ + 1) t6 vfrom k) (Int.toNat ((((((((p_spec_l02BandSizes n levels)).length : Int)) - 1))) - 0 + 1)) _ _ _ _ _ _ _ _ _ _ _ _ _ _ _ _ _ _ _ _ _ _ _ _ _ _ _ _ _ _ _ _ _ _ _ _ _ _ _ _ _ _ _ _ _ H_1 ?_ ?_
  · exact ⟨rfl, (by first | omega | (simp; done) | (simp; omega)), (by omega), e⟩
  · intro μ t6 vfrom k g16 g17 g18 g19 g20 g21 g22 g23 g24 g25 g26 g27 g28 g29 g30 g31 g32 g33 g34 g35 g36 g37 g38 g39 g40 g41 g42 g43 g44 g45 g46 g47 g48 g49 g50 g51 g52 g53 g54 g55 g56 g57 H_2 hI
    obtain ⟨rfl, v_13, hμ, e⟩ := hI
    rw [spec_l06Parent_r1]
    have e := e.trans (p_spec_l06Parent_l1_s n levels i μ t6 vfrom k)
    have l_14 := g_8.1
    refine Br.intro (fun c_15 => ?_) (fun c_15 => ?_)
    · have e := e.trans (cond_t c_15)
      have c_15' := of_decide_eq_true c_15
      obtain ⟨b_16, f_17, q_18⟩ := (r_4.isL).pos (by first | omega | (simp only [List.length_set, List.length_replicate, List.length_append, List.length_cons, List.length_nil, List.length_take, List.length_drop, marks_length]; done) | (simp only [List.length_set, List.length_replicate, List.length_append, List.length_cons, List.length_nil, List.length_take, List.length_drop, marks_length]; omega))
      refine ⟨by omega, by omega, b_16, f_17, q_18, ?_⟩
      refine ⟨(((p_spec_l02BandSizes n levels)).getD (k : Int).toNat 0), (r_4.isL).rd (Grow.refl _) q_18 (by omega) _, ?_⟩
      refine Br.intro (fun c_19 => ?_) (fun c_19 => ?_)
      · have e := e.trans (cond_t c_19)
        have c_19' := of_decide_eq_true c_19
        rw [show IntKind.wrap .i64 (k + 2) = (k + 2) from wrap64 (by omega) (by omega)]
        refine Br.intro (fun c_20 => ?_) (fun c_20 => ?_)
        · have e := e.trans (cond_t c_20)
          have c_20' := of_decide_eq_true c_20
          rw [spec_l06Parent_x1_ret]
          rw [e] at hk
          exact hk  H_1 g_8 
        · have e := e.trans (cond_f c_20)
          have c_20' := of_decide_eq_false c_20
          rw [show IntKind.wrap .i64 (k + 1) = (k + 1) from wrap64 (by omega) (by omega)]
          obtain ⟨b_21, f_22, q_23⟩ := (r_4.isL).pos (by first | omega | (simp only [List.length_set, List.length_replicate, List.length_append, List.length_cons, List.length_nil, List.length_take, List.length_drop, marks_length]; done) | (simp only [List.length_set, List.length_replicate, List.length_append, List.length_cons, List.length_nil, List.length_take, List.length_drop, marks_length]; omega))
          refine ⟨by omega, by omega, b_21, f_22, q_23, ?_⟩
          refine ⟨(((p_spec_l02BandSizes n levels)).getD ((k + 1) : Int).toNat 0), (r_4.isL).rd (Grow.refl _) q_23 (by omega) _, ?_⟩
          have z_24 := tdiv_nn (IntKind.wrap .i64 (i - vfrom)) 2
          refine ⟨(by first | omega | decide | (simp; done) | (simp; omega)), ?_⟩
          obtain ⟨b_25, f_26, q_27⟩ := (r_4.isL).pos (by first | omega | (simp only [List.length_set, List.length_replicate, List.length_append, List.length_cons, List.length_nil, List.length_take, List.length_drop, marks_length]; done) | (simp only [List.length_set, List.length_replicate, List.length_append, List.length_cons, List.length_nil, List.length_take, List.length_drop, marks_length]; omega))
          refine ⟨by omega, by omega, b_25, f_26, q_27, ?_⟩
          refine ⟨(((p_spec_l02BandSizes n levels)).getD ((k + 1) : Int).toNat 0), (r_4.isL).rd (Grow.refl _) q_27 (by omega) _, ?_⟩
          refine T_spec_l00Min_i ?_
          rw [spec_l06Parent_x1_ret]
          rw [e] at hk
          exact hk  H_1 g_8 
      · have e := e.trans (cond_f c_19)
        have c_19' := of_decide_eq_false c_19
        obtain ⟨b_28, f_29, q_30⟩ := (r_4.isL).pos (by first | omega | (simp only [List.length_set, List.length_replicate, List.length_append, List.length_cons, List.length_nil, List.length_take, List.length_drop, marks_length]; done) | (simp only [List.length_set, List.length_replicate, List.length_append, List.length_cons, List.length_nil, List.length_take, List.length_drop, marks_length]; omega))
        refine ⟨by omega, by omega, b_28, f_29, q_30, ?_⟩
        refine ⟨(((p_spec_l02BandSizes n levels)).getD (k : Int).toNat 0), (r_4.isL).rd (Grow.refl _) q_30 (by omega) _, ?_⟩
        rw [show IntKind.wrap .i64 (k - 1) = (k - 1) from wrap64 (by omega) (by omega)]
        refine spec_l06Parent_n1 (μ - 1) (by first | omega) ⟨rfl, (by first | omega | (simp only [List.length_append, List.length_cons, List.length_nil, List.length_set]; done) | (simp only [List.length_append, List.length_cons, List.length_nil, List.length_set]; omega)), (by first | omega), (by rw [show μ - 1 + 1 = μ from by first | omega]; exact e)⟩
    · have e := e.trans (cond_f c_15)
      have c_15' := of_decide_eq_false c_15
      rw [spec_l06Parent_x1_0]
      rw [e] at hk
      exact hk  H_1 g_8 
theorem spec_l06Parent_ok : FnOk Try.prog 81 S_spec_l06Parent := by
  refine FnOk.body mix_ok E_spec_l06Parent_ok Try.func81 rfl (by kernel_rfl) (by kernel_rfl) ?_ ?_ ?_ ?_ ?_
  · intro args H K K' h hk
    simp only [S_spec_l06Parent] at *
    unfold F_spec_l06Parent at *
    split at hk
    · obtain ⟨pr0, pr1, pr2, k⟩ := hk
      exact ⟨pr0, pr1, pr2, (fun  H' gg  => h _ _ (k  H' gg ))⟩
    · exact hk.elim
  · intro hq; cases hq
  · intro args H K hk
    simp only [S_spec_l06Parent] at *
    unfold F_spec_l06Parent at *
    split at hk
    · obtain ⟨pr0, pr1, pr2, k⟩ := hk
      exact ⟨_, _, k H (Grow.refl H)⟩
    · exact hk.elim
  · intro _ args H K hk
    simp only [S_spec_l06Parent] at *
    unfold F_spec_l06Parent at *
    split at hk
    · obtain ⟨pr0, pr1, pr2, k⟩ := hk
      exact ⟨pr0, pr1, pr2, (fun  H' gg  => ⟨gg, k  H' gg ⟩)⟩
    · exact hk.elim
  · have mm := @spec_l06Parent_main
    revert mm
    generalize bodyK Try.prog E_spec_l06Parent Try.f81 = Q
    intro mm args H K hk
    simp only [S_spec_l06Parent] at *
    unfold F_spec_l06Parent at *
    split at hk
    · exact mm _ _ _ H K hk
    · exact hk.elim
def p_spec_l06Below_l1 (n : Int) (levels : Int) (i : Int) (root : Int) : Nat → Int → Bool
  | 0, _ => false
  | μ + 1, i_2 => (bif decide ((0 : Int) ≤ i_2) then (bif (i_2 : Int) != root then (p_spec_l06Below_l1 n levels i root μ (p_spec_l06Parent n levels i_2)) else (i_2 : Int) == root) else (i_2 : Int) == root)
theorem p_spec_l06Below_l1_s (n : Int) (levels : Int) (i : Int) (root : Int) (μ : Nat) (i_2 : Int) : p_spec_l06Below_l1 n levels i root (μ + 1) i_2 = (bif decide ((0 : Int) ≤ i_2) then (bif (i_2 : Int) != root then (p_spec_l06Below_l1 n levels i root μ (p_spec_l06Parent n levels i_2)) else (i_2 : Int) == root) else (i_2 : Int) == root) := rfl
def p_spec_l06Below (n : Int) (levels : Int) (i : Int) (root : Int) : Bool := (p_spec_l06Below_l1 n levels i root (Int.toNat (i - 0 + 1) + 1) i)
theorem p_spec_l06Below_eq (n : Int) (levels : Int) (i : Int) (root : Int) : p_spec_l06Below n levels i root = (p_spec_l06Below_l1 n levels i root (Int.toNat (i - 0 + 1) + 1) i) := rfl
def T_spec_l06Below (n : Int) (levels : Int) (i : Int) (root : Int) (H : AHeap) (K : Bool → AHeap → Prop) : Prop := 0 ≤ n ∧ n ≤ 128 ∧ levels ≤ 6 ∧ 0 ≤ i ∧ i < n ∧ 0 ≤ root ∧ ((∀ H' : AHeap, Grow H H' → K (p_spec_l06Below n levels i root) H'))
theorem T_spec_l06Below_i {n : Int} {levels : Int} {i : Int} {root : Int} {H : AHeap} {K : Bool → AHeap → Prop} (h : 0 ≤ n ∧ n ≤ 128 ∧ levels ≤ 6 ∧ 0 ≤ i ∧ i < n ∧ 0 ≤ root ∧ ((∀ H' : AHeap, Grow H H' → K (p_spec_l06Below n levels i root) H'))) : T_spec_l06Below n levels i root H K := h

/-! spec_l06Below: function 50 -/
def E_spec_l06Below : Env := envOf [(81, S_spec_l06Parent)]
def F_spec_l06Below : List Value → AHeap → (Value → AHeap → Prop) → Prop
  | [.int .i64 n, .int .i64 levels, .int .i64 i, .int .i64 root], H, K => T_spec_l06Below n levels i root H fun (r1 : Bool) (H' : AHeap) => K (.bool r1) H'
  | _, _, _ => False
def S_spec_l06Below : FSpec := { F := F_spec_l06Below, quiet := false, tame := true }
theorem spec_l06Below_vc (n : Int) (levels : Int) (i : Int) (root : Int) (H : AHeap) (K : Value → AHeap → Prop) : bodyK Try.prog E_spec_l06Below Try.f50 [.int .i64 n, .int .i64 levels, .int .i64 i, .int .i64 root] H K =
  (loopK (exK Try.prog E_spec_l06Below (cl (cl (cl (cr (bodyC Try.f50)))))) [.int .i64 n, .int .i64 levels, .int .i64 i, .int .i64 root, undef, undef, undef, undef, .bool false, undef, undef, undef, undef, undef, undef, undef, undef, undef, undef, undef, undef, undef, undef] H (blockQ 0 (seqQ (exK Try.prog E_spec_l06Below (cr (cr (bodyC Try.f50)))) (retK Try.prog Try.f50 K)))) := by kernel_rfl
theorem spec_l06Below_r1 (levels : Int) (n : Int) (root : Int) (i_2 : Int) (g9 g10 g11 g12 g13 g14 g15 g16 g17 g18 g19 : Value) (H : AHeap) (R : Post) : exK Try.prog E_spec_l06Below (cl (cl (cl (cr (bodyC Try.f50))))) [.int .i64 n, .int .i64 levels, .int .i64 i_2, .int .i64 root, undef, undef, undef, undef, .bool false, g9, g10, g11, g12, g13, g14, g15, g16, g17, g18, g19, undef, undef, undef] H R =
  (Br (decide ((0 : Int) ≤ i_2)) (Br ((i_2 : Int) != root) (T_spec_l06Parent n levels i_2 H fun (r1 : Int) (H1 : AHeap) => R .normal [.int .i64 n, .int .i64 levels, .int .i64 r1, .int .i64 root, undef, undef, undef, undef, .bool false, .int .i64 i_2, .bool (decide ((0 : Int) ≤ i_2)), .bool true, .int .i64 i_2, .int .i64 root, .bool ((i_2 : Int) != root), .bool ((i_2 : Int) != root), .int .i64 n, .int .i64 levels, .int .i64 i_2, .int .i64 r1, undef, undef, undef] H1) (R (.exit 0) [.int .i64 n, .int .i64 levels, .int .i64 i_2, .int .i64 root, undef, undef, undef, undef, .bool false, .int .i64 i_2, .bool (decide ((0 : Int) ≤ i_2)), .bool true, .int .i64 i_2, .int .i64 root, .bool ((i_2 : Int) != root), .bool ((i_2 : Int) != root), g16, g17, g18, g19, undef, undef, undef] H)) (R (.exit 0) [.int .i64 n, .int .i64 levels, .int .i64 i_2, .int .i64 root, undef, undef, undef, undef, .bool false, .int .i64 i_2, .bool (decide ((0 : Int) ≤ i_2)), .bool false, undef, undef, undef, .bool false, g16, g17, g18, g19, undef, undef, undef] H)) := by kernel_rfl
def spec_l06Below_I1 (levels : Int) (n : Int) (root : Int) (Inv : Nat → Int → AHeap → Prop) : Nat → List Value → AHeap → Prop := fun μ tm H => ∃ (i_2 : Int), ∃ g9 g10 g11 g12 g13 g14 g15 g16 g17 g18 g19, tm = [.int .i64 n, .int .i64 levels, .int .i64 i_2, .int .i64 root, undef, undef, undef, undef, .bool false, g9, g10, g11, g12, g13, g14, g15, g16, g17, g18, g19, undef, undef, undef] ∧ Inv μ i_2 H
theorem spec_l06Below_L1 (levels : Int) (n : Int) (root : Int) {Q : Post} (Inv : Nat → Int → AHeap → Prop) (ν : Nat) (i_2 : Int) (g9 g10 g11 g12 g13 g14 g15 g16 g17 g18 g19 : Value) (H : AHeap) (h0 : Inv ν i_2 H)
    (hs : ∀ (μ : Nat) (i_2 : Int) (g9 g10 g11 g12 g13 g14 g15 g16 g17 g18 g19 : Value) (H : AHeap), Inv μ i_2 H → exK Try.prog E_spec_l06Below (cl (cl (cl (cr (bodyC Try.f50))))) [.int .i64 n, .int .i64 levels, .int .i64 i_2, .int .i64 root, undef, undef, undef, undef, .bool false, g9, g10, g11, g12, g13, g14, g15, g16, g17, g18, g19, undef, undef, undef] H (loopQ (spec_l06Below_I1 levels n root Inv) μ Q)) : loopK (exK Try.prog E_spec_l06Below (cl (cl (cl (cr (bodyC Try.f50)))))) [.int .i64 n, .int .i64 levels, .int .i64 i_2, .int .i64 root, undef, undef, undef, undef, .bool false, g9, g10, g11, g12, g13, g14, g15, g16, g17, g18, g19, undef, undef, undef] H Q :=
  ⟨spec_l06Below_I1 levels n root Inv, ν, ⟨i_2, g9, g10, g11, g12, g13, g14, g15, g16, g17, g18, g19, rfl, h0⟩, fun μ tm H h => by obtain ⟨i_2, g9, g10, g11, g12, g13, g14, g15, g16, g17, g18, g19, rfl, hI⟩ := h; exact hs μ i_2 g9 g10 g11 g12 g13 g14 g15 g16 g17 g18 g19 H hI⟩
theorem spec_l06Below_n1 {levels : Int} {n : Int} {root : Int} {Q : Post} {Inv : Nat → Int → AHeap → Prop} {μ : Nat} (μ' : Nat) {i_2 : Int} {g9 g10 g11 g12 g13 g14 g15 g16 g17 g18 g19 : Value} {H : AHeap} (hm : μ' < μ) (hI : Inv μ' i_2 H) : loopQ (spec_l06Below_I1 levels n root Inv) μ Q .normal [.int .i64 n, .int .i64 levels, .int .i64 i_2, .int .i64 root, undef, undef, undef, undef, .bool false, g9, g10, g11, g12, g13, g14, g15, g16, g17, g18, g19, undef, undef, undef] H := ⟨μ', hm, i_2, g9, g10, g11, g12, g13, g14, g15, g16, g17, g18, g19, rfl, hI⟩
theorem spec_l06Below_x1_0 (levels : Int) (n : Int) (root : Int) (i_2 : Int) (g9 g10 g11 g12 g13 g14 g15 g16 g17 g18 g19 : Value) (H : AHeap) (K : Value → AHeap → Prop)  {I : Nat → List Value → AHeap → Prop} {μ : Nat} : loopQ I μ (blockQ 0 (seqQ (exK Try.prog E_spec_l06Below (cr (cr (bodyC Try.f50)))) (retK Try.prog Try.f50 K))) (.exit 0) [.int .i64 n, .int .i64 levels, .int .i64 i_2, .int .i64 root, undef, undef, undef, undef, .bool false, g9, g10, g11, g12, g13, g14, g15, g16, g17, g18, g19, undef, undef, undef] H =
  (K (.bool ((i_2 : Int) == root)) H) := by kernel_rfl
theorem E_spec_l06Below_ok : ∀ g, FnOk Try.prog g (E_spec_l06Below g) := FnOk.envOf (by
  intro x hx
  simp only [List.mem_cons, List.not_mem_nil, or_false] at hx
  subst hx; exact spec_l06Parent_ok)
set_option maxHeartbeats 1000000 in
theorem spec_l06Below_main (n : Int) (levels : Int) (i : Int) (root : Int) (H : AHeap) (K : Value → AHeap → Prop) (h : T_spec_l06Below n levels i root H fun (r1 : Bool) (H' : AHeap) => K (.bool r1) H') : bodyK Try.prog E_spec_l06Below Try.f50 [.int .i64 n, .int .i64 levels, .int .i64 i, .int .i64 root] H K := by
  rw [spec_l06Below_vc]
  obtain ⟨pr0, pr1, pr2, pr3, pr4, pr5, hk⟩ := h
  have e : (p_spec_l06Below n levels i root) = _ := rfl
  have e := e.trans (p_spec_l06Below_eq n levels i root)
  have g0 := Grow.refl H
  refine spec_l06Below_L1 _ _ _ (fun (μ : Nat) (i_2 : Int) (H_1 : AHeap) => Grow H H_1 ∧ i_2 ≤ i ∧ i_2 - 0 + 1 ≤ (μ : Int) ∧ p_spec_l06Below n levels i root = p_spec_l06Below_l1 n levels i root (μ + 1) i_2) (Int.toNat (i - 0 + 1)) _ _ _ _ _ _ _ _ _ _ _ _ H ?_ ?_
  · exact ⟨g0, (by first | omega | (simp; done) | (simp; omega)), (by omega), e⟩
  · intro μ i_2 g9 g10 g11 g12 g13 g14 g15 g16 g17 g18 g19 H_1 hI
    obtain ⟨g_1, v_2, hμ, e⟩ := hI
    rw [spec_l06Below_r1]
    have e := e.trans (p_spec_l06Below_l1_s n levels i root μ i_2)
    have l_3 := g_1.1
    refine Br.intro (fun c_4 => ?_) (fun c_4 => ?_)
    · have e := e.trans (cond_t c_4)
      have c_4' := of_decide_eq_true c_4
      refine Br.intro (fun c_5 => ?_) (fun c_5 => ?_)
      · have e := e.trans (cond_t c_5)
        have c_5' := ine_t c_5
        refine T_spec_l06Parent_i ⟨(by first | assumption | omega | (simp; omega)), (by first | assumption | omega | (simp; omega)), (by first | assumption | omega | (simp; omega)), fun  H_2 g_7  => ?_⟩
        have z_6 := spec_l06Parent_rng n levels i_2
        have l_8 := g_7.1
        have g_9 := g_1.trans g_7
        have l_10 := g_9.1
        refine spec_l06Below_n1 (μ - 1) (by first | omega) ⟨g_9, (by first | omega | (simp only [List.length_append, List.length_cons, List.length_nil, List.length_set]; done) | (simp only [List.length_append, List.length_cons, List.length_nil, List.length_set]; omega)), (by first | omega), (by rw [show μ - 1 + 1 = μ from by first | omega]; exact e)⟩
      · have e := e.trans (cond_f c_5)
        have c_5' := ine_f c_5
        rw [spec_l06Below_x1_0]
        rw [e] at hk
        exact hk  H_1 g_1 
    · have e := e.trans (cond_f c_4)
      have c_4' := of_decide_eq_false c_4
      rw [spec_l06Below_x1_0]
      rw [e] at hk
      exact hk  H_1 g_1 
theorem spec_l06Below_ok : FnOk Try.prog 50 S_spec_l06Below := by
  refine FnOk.body mix_ok E_spec_l06Below_ok Try.func50 rfl (by kernel_rfl) (by kernel_rfl) ?_ ?_ ?_ ?_ ?_
  · intro args H K K' h hk
    simp only [S_spec_l06Below] at *
    unfold F_spec_l06Below at *
    split at hk
    · obtain ⟨pr0, pr1, pr2, pr3, pr4, pr5, k⟩ := hk
      exact ⟨pr0, pr1, pr2, pr3, pr4, pr5, (fun  H' gg  => h _ _ (k  H' gg ))⟩
    · exact hk.elim
  · intro hq; cases hq
  · intro args H K hk
    simp only [S_spec_l06Below] at *
    unfold F_spec_l06Below at *
    split at hk
    · obtain ⟨pr0, pr1, pr2, pr3, pr4, pr5, k⟩ := hk
      exact ⟨_, _, k H (Grow.refl H)⟩
    · exact hk.elim
  · intro _ args H K hk
    simp only [S_spec_l06Below] at *
    unfold F_spec_l06Below at *
    split at hk
    · obtain ⟨pr0, pr1, pr2, pr3, pr4, pr5, k⟩ := hk
      exact ⟨pr0, pr1, pr2, pr3, pr4, pr5, (fun  H' gg  => ⟨gg, k  H' gg ⟩)⟩
    · exact hk.elim
  · have mm := @spec_l06Below_main
    revert mm
    generalize bodyK Try.prog E_spec_l06Below Try.f50 = Q
    intro mm args H K hk
    simp only [S_spec_l06Below] at *
    unfold F_spec_l06Below at *
    split at hk
    · exact mm _ _ _ _ H K hk
    · exact hk.elim
def p_spec_TreeOf_l1 (n : Int) (levels : Int) (i : Int) : Nat → (List Int) → Int → (List Int) × Bool
  | 0, _, _ => ([], false)
  | μ + 1, l_vout, k => (bif decide ((k : Int) < n) then (bif (p_spec_l06Below n levels k i) then (p_spec_TreeOf_l1 n levels i μ ((l_vout ++ [(k : Int)])) (k + 1)) else (p_spec_TreeOf_l1 n levels i μ l_vout (k + 1))) else (l_vout, true))
theorem p_spec_TreeOf_l1_s (n : Int) (levels : Int) (i : Int) (μ : Nat) (l_vout : List Int) (k : Int) : p_spec_TreeOf_l1 n levels i (μ + 1) l_vout k = (bif decide ((k : Int) < n) then (bif (p_spec_l06Below n levels k i) then (p_spec_TreeOf_l1 n levels i μ ((l_vout ++ [(k : Int)])) (k + 1)) else (p_spec_TreeOf_l1 n levels i μ l_vout (k + 1))) else (l_vout, true)) := rfl
def p_spec_TreeOf (n : Int) (levels : Int) (i : Int) : (List Int) × Bool := (bif !(p_spec_l06Can n levels) then ([], false) else (bif !((p_spec_l00In i (0 : Int) (n - 1))) then ([], false) else (p_spec_TreeOf_l1 n levels i (Int.toNat (n - (0 : Int)) + 1) ([] : List Int) (0 : Int))))
theorem p_spec_TreeOf_eq (n : Int) (levels : Int) (i : Int) : p_spec_TreeOf n levels i = (bif !(p_spec_l06Can n levels) then ([], false) else (bif !((p_spec_l00In i (0 : Int) (n - 1))) then ([], false) else (p_spec_TreeOf_l1 n levels i (Int.toNat (n - (0 : Int)) + 1) ([] : List Int) (0 : Int)))) := rfl
def T_spec_TreeOf (n : Int) (levels : Int) (i : Int) (H : AHeap) (K : (Option Addr) → Nat → Nat → Bool → AHeap → Prop) : Prop := ((∀ (r1_a : Option Addr) (r1_n r1_e : Nat), ∀ H' : AHeap, Grow H H' → OwnS fI H' H.length r1_a r1_n r1_e ((p_spec_TreeOf n levels i).1) → K r1_a r1_n r1_e ((p_spec_TreeOf n levels i).2) H'))
theorem T_spec_TreeOf_i {n : Int} {levels : Int} {i : Int} {H : AHeap} {K : (Option Addr) → Nat → Nat → Bool → AHeap → Prop} (h : ((∀ (r1_a : Option Addr) (r1_n r1_e : Nat), ∀ H' : AHeap, Grow H H' → OwnS fI H' H.length r1_a r1_n r1_e ((p_spec_TreeOf n levels i).1) → K r1_a r1_n r1_e ((p_spec_TreeOf n levels i).2) H'))) : T_spec_TreeOf n levels i H K := h
theorem spec_tree_go (n levels i : Int) : ∀ (μ : Nat) (o : List Int) (k : Int), (p_spec_TreeOf_l1 n levels i μ o k).1.length ≤ o.length + μ := by
  intro μ
  induction μ with
  | zero => intro o k; exact Nat.zero_le _
  | succ μ ih =>
    intro o k
    rw [p_spec_TreeOf_l1_s]
    cases decide (k < n) with
    | false => exact Nat.le_add_right _ _
    | true =>
      rw [cond_true]
      cases p_spec_l06Below n levels k i with
      | false => exact Nat.le_trans (ih _ _) (by omega)
      | true => refine Nat.le_trans (ih _ _) ?_; simp; omega
theorem spec_TreeOf_len (n levels i : Int) : (p_spec_TreeOf n levels i).1.length ≤ 129 := by
  rw [p_spec_TreeOf_eq]
  cases h : p_spec_l06Can n levels with
  | false => exact Nat.zero_le _
  | true =>
    have hc := spec_l06Can_t h
    rw [Bool.not_true, cond_false]
    cases p_spec_l00In i 0 (n - 1) with
    | false => exact Nat.zero_le _
    | true => rw [Bool.not_true, cond_false]; refine Nat.le_trans (spec_tree_go n levels i _ _ _) ?_; simp; omega
/-! spec_TreeOf: function 15 -/
def E_spec_TreeOf : Env := envOf [(48, S_spec_l06Can), (49, S_spec_l00In), (50, S_spec_l06Below)]
def F_spec_TreeOf : List Value → AHeap → (Value → AHeap → Prop) → Prop
  | [.int .i64 n, .int .i64 levels, .int .i64 i], H, K => T_spec_TreeOf n levels i H fun (r1_a : Option Addr) (r1_n : Nat) (r1_e : Nat) (r2 : Bool) (H' : AHeap) => K (.tuple #[.slice r1_a r1_n r1_e, .bool r2]) H'
  | _, _, _ => False
def S_spec_TreeOf : FSpec := { F := F_spec_TreeOf, quiet := false, tame := true }
theorem spec_TreeOf_vc (n : Int) (levels : Int) (i : Int) (H : AHeap) (K : Value → AHeap → Prop) : bodyK Try.prog E_spec_TreeOf Try.f15 [.int .i64 n, .int .i64 levels, .int .i64 i] H K =
  (T_spec_l06Can n levels H fun (r1 : Bool) (H1 : AHeap) => Br (!r1) (K (.tuple #[.slice none 0 0, .bool false]) H1) (T_spec_l00In i 0 (IntKind.wrap .i64 (n - 1)) H1 fun (r2 : Bool) (H2 : AHeap) => Br (!r2) (K (.tuple #[.slice none 0 0, .bool false]) H2) (Al [] H2 fun b1 H3 => loopK (exK Try.prog E_spec_TreeOf (cl (cl (cr (cl (cr (cr (cr (bodyC Try.f15))))))))) [.int .i64 n, .int .i64 levels, .int .i64 i, undef, undef, undef, .slice none 0 0, .bool false, .slice (some ⟨b1, 0, none⟩) 0 1, .int .i64 0, .int .i64 n, .int .i64 levels, .bool r1, .bool (!r1), .bool false, .int .i64 i, .int .i64 n, .int .i64 (IntKind.wrap .i64 (n - 1)), .bool r2, .bool (!r2), .bool (!r2), .slice (some ⟨b1, 0, none⟩) 0 1, undef, undef, undef, undef, undef, undef, undef, undef, undef, undef, undef, undef, undef, undef, undef] H3 (blockQ 0 (seqQ (exK Try.prog E_spec_TreeOf (cr (cr (cr (cr (bodyC Try.f15)))))) (retK Try.prog Try.f15 K)))))) := by kernel_rfl
theorem spec_TreeOf_r1 (b1 : Nat) (i : Int) (levels : Int) (n : Int) (r1 : Bool) (r2 : Bool) (z1_17 : Int) (vout_a : Option Addr) (vout_n : Nat) (vout_e : Nat) (k : Int) (g22 g23 g24 g25 g26 g27 g28 g29 g30 g31 g32 g33 g34 g35 : Value) (H : AHeap) (R : Post) : exK Try.prog E_spec_TreeOf (cl (cl (cr (cl (cr (cr (cr (bodyC Try.f15)))))))) [.int .i64 n, .int .i64 levels, .int .i64 i, undef, undef, undef, .slice none 0 0, .bool false, .slice vout_a vout_n vout_e, .int .i64 k, .int .i64 n, .int .i64 levels, .bool r1, .bool (!r1), .bool false, .int .i64 i, .int .i64 n, .int .i64 z1_17, .bool r2, .bool (!r2), .bool (!r2), .slice (some ⟨b1, 0, none⟩) 0 1, g22, g23, g24, g25, g26, g27, g28, g29, g30, g31, g32, g33, g34, g35, undef] H R =
  (Br (decide ((k : Int) < n)) (T_spec_l06Below n levels k i H fun (r3 : Bool) (H4 : AHeap) => Br r3 (Al [.int .i64 k] H4 fun b2 H5 => ∃ o1 w1 : List Value, ownB H5 vout_a vout_n vout_e 1 = some o1 ∧ rdS H5 (some ⟨b2, 0, none⟩) (1 * 1) = some w1 ∧ ((vout_a : Option Addr) = none → 0 < (1 : Nat)) ∧ (vout_n : Nat) + 1 < most ∧ Ap H5 (killB H5 vout_a ++ [some ⟨o1 ++ w1, true⟩]) fun b3 H6 => R .normal [.int .i64 n, .int .i64 levels, .int .i64 i, undef, undef, undef, .slice none 0 0, .bool false, .slice (some ⟨b3, 0, none⟩) (vout_n + 1) 1, .int .i64 (IntKind.wrap .i64 (k + 1)), .int .i64 n, .int .i64 levels, .bool r1, .bool (!r1), .bool false, .int .i64 i, .int .i64 n, .int .i64 z1_17, .bool r2, .bool (!r2), .bool (!r2), .slice (some ⟨b1, 0, none⟩) 0 1, .int .i64 k, .int .i64 n, .bool (decide ((k : Int) < n)), .int .i64 k, .int .i64 (IntKind.wrap .i64 (k + 1)), .int .i64 n, .int .i64 levels, .int .i64 k, .int .i64 i, .bool r3, .slice vout_a vout_n vout_e, .int .i64 k, .slice (some ⟨b2, 0, none⟩) 1 1, .slice (some ⟨b3, 0, none⟩) (vout_n + 1) 1, undef] H6) (R .normal [.int .i64 n, .int .i64 levels, .int .i64 i, undef, undef, undef, .slice none 0 0, .bool false, .slice vout_a vout_n vout_e, .int .i64 (IntKind.wrap .i64 (k + 1)), .int .i64 n, .int .i64 levels, .bool r1, .bool (!r1), .bool false, .int .i64 i, .int .i64 n, .int .i64 z1_17, .bool r2, .bool (!r2), .bool (!r2), .slice (some ⟨b1, 0, none⟩) 0 1, .int .i64 k, .int .i64 n, .bool (decide ((k : Int) < n)), .int .i64 k, .int .i64 (IntKind.wrap .i64 (k + 1)), .int .i64 n, .int .i64 levels, .int .i64 k, .int .i64 i, .bool r3, g32, g33, g34, g35, undef] H4)) (R (.exit 0) [.int .i64 n, .int .i64 levels, .int .i64 i, undef, undef, undef, .slice none 0 0, .bool false, .slice vout_a vout_n vout_e, .int .i64 k, .int .i64 n, .int .i64 levels, .bool r1, .bool (!r1), .bool false, .int .i64 i, .int .i64 n, .int .i64 z1_17, .bool r2, .bool (!r2), .bool (!r2), .slice (some ⟨b1, 0, none⟩) 0 1, .int .i64 k, .int .i64 n, .bool (decide ((k : Int) < n)), g25, g26, g27, g28, g29, g30, g31, g32, g33, g34, g35, undef] H)) := by kernel_rfl
def spec_TreeOf_I1 (b1 : Nat) (i : Int) (levels : Int) (n : Int) (r1 : Bool) (r2 : Bool) (z1_17 : Int) (Inv : Nat → (Option Addr) → Nat → Nat → Int → AHeap → Prop) : Nat → List Value → AHeap → Prop := fun μ tm H => ∃ (vout_a : Option Addr), ∃ (vout_n : Nat), ∃ (vout_e : Nat), ∃ (k : Int), ∃ g22 g23 g24 g25 g26 g27 g28 g29 g30 g31 g32 g33 g34 g35, tm = [.int .i64 n, .int .i64 levels, .int .i64 i, undef, undef, undef, .slice none 0 0, .bool false, .slice vout_a vout_n vout_e, .int .i64 k, .int .i64 n, .int .i64 levels, .bool r1, .bool (!r1), .bool false, .int .i64 i, .int .i64 n, .int .i64 z1_17, .bool r2, .bool (!r2), .bool (!r2), .slice (some ⟨b1, 0, none⟩) 0 1, g22, g23, g24, g25, g26, g27, g28, g29, g30, g31, g32, g33, g34, g35, undef] ∧ Inv μ vout_a vout_n vout_e k H
theorem spec_TreeOf_L1 (b1 : Nat) (i : Int) (levels : Int) (n : Int) (r1 : Bool) (r2 : Bool) (z1_17 : Int) {Q : Post} (Inv : Nat → (Option Addr) → Nat → Nat → Int → AHeap → Prop) (ν : Nat) (vout_a : Option Addr) (vout_n : Nat) (vout_e : Nat) (k : Int) (g22 g23 g24 g25 g26 g27 g28 g29 g30 g31 g32 g33 g34 g35 : Value) (H : AHeap) (h0 : Inv ν vout_a vout_n vout_e k H)
    (hs : ∀ (μ : Nat) (vout_a : Option Addr) (vout_n : Nat) (vout_e : Nat) (k : Int) (g22 g23 g24 g25 g26 g27 g28 g29 g30 g31 g32 g33 g34 g35 : Value) (H : AHeap), Inv μ vout_a vout_n vout_e k H → exK Try.prog E_spec_TreeOf (cl (cl (cr (cl (cr (cr (cr (bodyC Try.f15)))))))) [.int .i64 n, .int .i64 levels, .int .i64 i, undef, undef, undef, .slice none 0 0, .bool false, .slice vout_a vout_n vout_e, .int .i64 k, .int .i64 n, .int .i64 levels, .bool r1, .bool (!r1), .bool false, .int .i64 i, .int .i64 n, .int .i64 z1_17, .bool r2, .bool (!r2), .bool (!r2), .slice (some ⟨b1, 0, none⟩) 0 1, g22, g23, g24, g25, g26, g27, g28, g29, g30, g31, g32, g33, g34, g35, undef] H (loopQ (spec_TreeOf_I1 b1 i levels n r1 r2 z1_17 Inv) μ Q)) : loopK (exK Try.prog E_spec_TreeOf (cl (cl (cr (cl (cr (cr (cr (bodyC Try.f15))))))))) [.int .i64 n, .int .i64 levels, .int .i64 i, undef, undef, undef, .slice none 0 0, .bool false, .slice vout_a vout_n vout_e, .int .i64 k, .int .i64 n, .int .i64 levels, .bool r1, .bool (!r1), .bool false, .int .i64 i, .int .i64 n, .int .i64 z1_17, .bool r2, .bool (!r2), .bool (!r2), .slice (some ⟨b1, 0, none⟩) 0 1, g22, g23, g24, g25, g26, g27, g28, g29, g30, g31, g32, g33, g34, g35, undef] H Q :=
  ⟨spec_TreeOf_I1 b1 i levels n r1 r2 z1_17 Inv, ν, ⟨vout_a, vout_n, vout_e, k, g22, g23, g24, g25, g26, g27, g28, g29, g30, g31, g32, g33, g34, g35, rfl, h0⟩, fun μ tm H h => by obtain ⟨vout_a, vout_n, vout_e, k, g22, g23, g24, g25, g26, g27, g28, g29, g30, g31, g32, g33, g34, g35, rfl, hI⟩ := h; exact hs μ vout_a vout_n vout_e k g22 g23 g24 g25 g26 g27 g28 g29 g30 g31 g32 g33 g34 g35 H hI⟩
theorem spec_TreeOf_n1 {b1 : Nat} {i : Int} {levels : Int} {n : Int} {r1 : Bool} {r2 : Bool} {z1_17 : Int} {Q : Post} {Inv : Nat → (Option Addr) → Nat → Nat → Int → AHeap → Prop} {μ : Nat} (μ' : Nat) {vout_a : Option Addr} {vout_n : Nat} {vout_e : Nat} {k : Int} {g22 g23 g24 g25 g26 g27 g28 g29 g30 g31 g32 g33 g34 g35 : Value} {H : AHeap} (hm : μ' < μ) (hI : Inv μ' vout_a vout_n vout_e k H) : loopQ (spec_TreeOf_I1 b1 i levels n r1 r2 z1_17 Inv) μ Q .normal [.int .i64 n, .int .i64 levels, .int .i64 i, undef, undef, undef, .slice none 0 0, .bool false, .slice vout_a vout_n vout_e, .int .i64 k, .int .i64 n, .int .i64 levels, .bool r1, .bool (!r1), .bool false, .int .i64 i, .int .i64 n, .int .i64 z1_17, .bool r2, .bool (!r2), .bool (!r2), .slice (some ⟨b1, 0, none⟩) 0 1, g22, g23, g24, g25, g26, g27, g28, g29, g30, g31, g32, g33, g34, g35, undef] H := ⟨μ', hm, vout_a, vout_n, vout_e, k, g22, g23, g24, g25, g26, g27, g28, g29, g30, g31, g32, g33, g34, g35, rfl, hI⟩
theorem spec_TreeOf_x1_0 (b1 : Nat) (i : Int) (levels : Int) (n : Int) (r1 : Bool) (r2 : Bool) (z1_17 : Int) (vout_a : Option Addr) (vout_n : Nat) (vout_e : Nat) (k : Int) (g22 g23 g24 g25 g26 g27 g28 g29 g30 g31 g32 g33 g34 g35 : Value) (H : AHeap) (K : Value → AHeap → Prop)  {I : Nat → List Value → AHeap → Prop} {μ : Nat} : loopQ I μ (blockQ 0 (seqQ (exK Try.prog E_spec_TreeOf (cr (cr (cr (cr (bodyC Try.f15)))))) (retK Try.prog Try.f15 K))) (.exit 0) [.int .i64 n, .int .i64 levels, .int .i64 i, undef, undef, undef, .slice none 0 0, .bool false, .slice vout_a vout_n vout_e, .int .i64 k, .int .i64 n, .int .i64 levels, .bool r1, .bool (!r1), .bool false, .int .i64 i, .int .i64 n, .int .i64 z1_17, .bool r2, .bool (!r2), .bool (!r2), .slice (some ⟨b1, 0, none⟩) 0 1, g22, g23, g24, g25, g26, g27, g28, g29, g30, g31, g32, g33, g34, g35, undef] H =
  (K (.tuple #[.slice vout_a vout_n vout_e, .bool true]) H) := by kernel_rfl
theorem E_spec_TreeOf_ok : ∀ g, FnOk Try.prog g (E_spec_TreeOf g) := FnOk.envOf (by
  intro x hx
  simp only [List.mem_cons, List.not_mem_nil, or_false] at hx
  rcases hx with rfl | rfl | rfl
  · exact spec_l06Can_ok
  · exact spec_l00In_ok
  · exact spec_l06Below_ok)
set_option maxHeartbeats 1000000 in
theorem spec_TreeOf_main (n : Int) (levels : Int) (i : Int) (H : AHeap) (K : Value → AHeap → Prop) (h : T_spec_TreeOf n levels i H fun (r1_a : Option Addr) (r1_n : Nat) (r1_e : Nat) (r2 : Bool) (H' : AHeap) => K (.tuple #[.slice r1_a r1_n r1_e, .bool r2]) H') : bodyK Try.prog E_spec_TreeOf Try.f15 [.int .i64 n, .int .i64 levels, .int .i64 i] H K := by
  rw [spec_TreeOf_vc]
  have hk := h
  unfold T_spec_TreeOf at hk
  have e : (p_spec_TreeOf n levels i) = _ := rfl
  have e := e.trans (p_spec_TreeOf_eq n levels i)
  have g0 := Grow.refl H
  refine T_spec_l06Can_i ?_
  refine Br.intro (fun c_1 => ?_) (fun c_1 => ?_)
  · have e := e.trans (cond_t c_1)
    have c_1n := nf_of_t c_1
    rw [e] at hk
    exact hk _ _ _ H g0 (OwnS.nil _ _ _ _)
  · have e := e.trans (cond_f c_1)
    have c_1n := nt_of_f c_1
    have c_1n' := spec_l06Can_t c_1n
    rw [show IntKind.wrap .i64 (n - 1) = (n - 1) from wrap64 (by omega) (by omega)]
    refine T_spec_l00In_i ?_
    refine Br.intro (fun c_2 => ?_) (fun c_2 => ?_)
    · have e := e.trans (cond_t c_2)
      have c_2n := nf_of_t c_2
      rw [e] at hk
      exact hk _ _ _ H g0 (OwnS.nil _ _ _ _)
    · have e := e.trans (cond_f c_2)
      have c_2n := nt_of_f c_2
      have c_2n' := spec_l00In_t c_2n
      refine Al.intro (fun b_3 H_1 hb_4 hl_5 g_6 o_7 => ?_)
      have o_7 : Own H_1 b_3 ((([] : List Int)).map fI) := o_7
      have l_9 := g_6.1
      have g_10 := g0.trans g_6
      have l_11 := g_10.1
      have w_53 := o_7.lt
      refine spec_TreeOf_L1 _ _ _ _ _ _ _ (fun (μ : Nat) (vout_a : Option Addr) (vout_n : Nat) (vout_e : Nat) (k : Int) (H_2 : AHeap) => ∃ (l_vout : List Int), ∃ (b_12 : Nat), vout_a = some ⟨b_12, 0, none⟩ ∧ vout_n = l_vout.length ∧ vout_e = 1 ∧ Own H_2 b_12 (l_vout.map fI) ∧ Grow H H_2 ∧ H.length ≤ b_12 ∧ (0 : Int) ≤ k ∧ ((k ≤ n ∨ k ≤ (0 : Int))) ∧ (l_vout.length : Int) ≤ k - (0 : Int) + 0 ∧ n - k ≤ (μ : Int) ∧ p_spec_TreeOf n levels i = p_spec_TreeOf_l1 n levels i (μ + 1) l_vout k) (Int.toNat (n - (0 : Int))) _ _ _ _ _ _ _ _ _ _ _ _ _ _ _ _ _ _ H_1 ?_ ?_
      · exact ⟨_, _, rfl, (by first | rfl | omega | (simp only [List.length_set]; done) | (simp only [List.length_set, List.length_replicate]; omega)), rfl, o_7, g_10, (by omega), (by first | omega | (simp; done) | (simp; omega)), (by first | omega | (simp; done) | (simp; omega)), (by first | omega | (simp; done) | (simp; omega)), (by omega), e⟩
      · intro μ vout_a vout_n vout_e k g22 g23 g24 g25 g26 g27 g28 g29 g30 g31 g32 g33 g34 g35 H_2 hI
        obtain ⟨l_vout, b_12, rfl, rfl, rfl, o_13, g_14, l_15, v_16, v_17, v_18, hμ, e⟩ := hI
        rw [spec_TreeOf_r1]
        have e := e.trans (p_spec_TreeOf_l1_s n levels i μ l_vout k)
        have w_19 := o_13.lt
        have l_20 := g_14.1
        refine Br.intro (fun c_21 => ?_) (fun c_21 => ?_)
        · have e := e.trans (cond_t c_21)
          have c_21' := of_decide_eq_true c_21
          refine T_spec_l06Below_i ⟨(by first | assumption | omega | (simp; omega)), (by first | assumption | omega | (simp; omega)), (by first | assumption | omega | (simp; omega)), (by first | assumption | omega | (simp; omega)), (by first | assumption | omega | (simp; omega)), (by first | assumption | omega | (simp; omega)), fun  H_3 g_22  => ?_⟩
          have l_23 := g_22.1
          have g_24 := g_14.trans g_22
          have l_25 := g_24.1
          have o_26 := o_13.grow g_22
          have w_27 := o_26.lt
          refine Br.intro (fun c_28 => ?_) (fun c_28 => ?_)
          · have e := e.trans (cond_t c_28)
            refine Al.intro (fun b_29 H_4 hb_30 hl_31 g_32 o_33 => ?_)
            have o_33 : Own H_4 b_29 (([(k : Int)]).map fI) := o_33
            have l_35 := g_32.1
            have g_36 := g_24.trans g_32
            have l_37 := g_36.1
            have o_38 := o_26.grow g_32
            have w_39 := o_38.lt
            have w_52 := o_33.lt
            refine ⟨_, _, o_38.ownB (by first | (simp only [List.length_map, List.length_cons, List.length_nil, List.length_append]; done) | (simp only [List.length_map, List.length_cons, List.length_nil, List.length_append]; omega)) rfl, (isl_rdS (o_33.isL (by first | rfl | omega | (simp only [List.length_set]; done) | (simp only [List.length_set, List.length_replicate]; omega)))), (fun h => by cases h), (by have := most_eq; omega), ?_⟩
            refine Ap.app o_38 rfl rfl (fun b_44 H_5 q_50 hl_40 o_41 k_42 => ?_)
            have o_41 := map_snoc o_41
            have l_45 := k_42.1
            have g_46 := g_36.keep (b := b_12) (by omega) k_42
            have l_47 := g_46.1
            have o_48 := o_33.keep (by omega) k_42
            have w_49 := o_48.lt
            have w_51 := o_41.lt
            rw [show IntKind.wrap .i64 (k + 1) = (k + 1) from wrap64 (by omega) (by omega)]
            refine spec_TreeOf_n1 (μ - 1) (by first | omega) ⟨_, _, rfl, (by first | (simp only [List.length_append, List.length_cons, List.length_nil]; done) | (simp only [List.length_append, List.length_cons, List.length_nil]; omega) | (simp only [List.length_append, List.length_cons, List.length_nil, List.length_take, List.length_drop]; omega)), rfl, o_41, g_46, (by omega), (by first | omega | (simp only [List.length_append, List.length_cons, List.length_nil, List.length_set]; done) | (simp only [List.length_append, List.length_cons, List.length_nil, List.length_set]; omega)), (by first | omega | (simp only [List.length_append, List.length_cons, List.length_nil, List.length_set]; done) | (simp only [List.length_append, List.length_cons, List.length_nil, List.length_set]; omega)), (by first | omega | (simp only [List.length_append, List.length_cons, List.length_nil, List.length_set]; done) | (simp only [List.length_append, List.length_cons, List.length_nil, List.length_set]; omega)), (by first | omega), (by rw [show μ - 1 + 1 = μ from by first | omega]; exact e)⟩
          · have e := e.trans (cond_f c_28)
            rw [show IntKind.wrap .i64 (k + 1) = (k + 1) from wrap64 (by omega) (by omega)]
            refine spec_TreeOf_n1 (μ - 1) (by first | omega) ⟨_, _, rfl, (by first | rfl | omega | (simp only [List.length_set]; done) | (simp only [List.length_set, List.length_replicate]; omega)), rfl, o_26, g_24, (by omega), (by first | omega | (simp only [List.length_append, List.length_cons, List.length_nil, List.length_set]; done) | (simp only [List.length_append, List.length_cons, List.length_nil, List.length_set]; omega)), (by first | omega | (simp only [List.length_append, List.length_cons, List.length_nil, List.length_set]; done) | (simp only [List.length_append, List.length_cons, List.length_nil, List.length_set]; omega)), (by first | omega | (simp only [List.length_append, List.length_cons, List.length_nil, List.length_set]; done) | (simp only [List.length_append, List.length_cons, List.length_nil, List.length_set]; omega)), (by first | omega), (by rw [show μ - 1 + 1 = μ from by first | omega]; exact e)⟩
        · have e := e.trans (cond_f c_21)
          have c_21' := of_decide_eq_false c_21
          rw [spec_TreeOf_x1_0]
          rw [e] at hk
          exact hk _ _ _ H_2 g_14 (o_13.ownS (by first | rfl | omega | (simp only [List.length_set]; done) | (simp only [List.length_set, List.length_replicate]; omega)) (by omega))
theorem spec_TreeOf_ok : FnOk Try.prog 15 S_spec_TreeOf := by
  refine FnOk.body mix_ok E_spec_TreeOf_ok Try.func15 rfl (by kernel_rfl) (by kernel_rfl) ?_ ?_ ?_ ?_ ?_
  · intro args H K K' h hk
    simp only [S_spec_TreeOf] at *
    unfold F_spec_TreeOf at *
    split at hk
    · have k := hk
      exact fun r1_a r1_n r1_e H' gg ow0 => h _ _ (k r1_a r1_n r1_e H' gg ow0)
    · exact hk.elim
  · intro hq; cases hq
  · intro args H K hk
    simp only [S_spec_TreeOf] at *
    unfold F_spec_TreeOf at *
    split at hk
    · have k := hk
      exact liveS fun a n e H1 g o => ⟨_, _, k a n e H1 g o⟩
    · exact hk.elim
  · intro _ args H K hk
    simp only [S_spec_TreeOf] at *
    unfold F_spec_TreeOf at *
    split at hk
    · have k := hk
      exact fun r1_a r1_n r1_e H' gg ow0 => ⟨gg, k r1_a r1_n r1_e H' gg ow0⟩
    · exact hk.elim
  · have mm := @spec_TreeOf_main
    revert mm
    generalize bodyK Try.prog E_spec_TreeOf Try.f15 = Q
    intro mm args H K hk
    simp only [S_spec_TreeOf] at *
    unfold F_spec_TreeOf at *
    split at hk
    · exact mm _ _ _ H K hk
    · exact hk.elim
def p_impl_within (n : Int) (low : Int) (high : Int) : Bool := (bif decide ((low : Int) ≤ n) then decide ((n : Int) ≤ high) else false)
theorem p_impl_within_eq (n : Int) (low : Int) (high : Int) : p_impl_within n low high = (bif decide ((low : Int) ≤ n) then decide ((n : Int) ≤ high) else false) := rfl
def T_impl_within (n : Int) (low : Int) (high : Int) (H : AHeap) (K : Bool → AHeap → Prop) : Prop := K (p_impl_within n low high) H
theorem impl_within_t {n a b : Int} (h : p_impl_within n a b = true) : a ≤ n ∧ n ≤ b := by
  unfold p_impl_within at h
  by_cases h1 : a ≤ n
  · rw [decide_eq_true h1, cond_true] at h; exact ⟨h1, of_decide_eq_true h⟩
  · rw [decide_eq_false h1] at h; cases h
theorem T_impl_within_i {n : Int} {low : Int} {high : Int} {H : AHeap} {K : Bool → AHeap → Prop} (h : K (p_impl_within n low high) H) : T_impl_within n low high H K := h
/-! impl_within: function 52 -/
def E_impl_within : Env := envOf []
def F_impl_within : List Value → AHeap → (Value → AHeap → Prop) → Prop
  | [.int .i64 n, .int .i64 low, .int .i64 high], H, K => T_impl_within n low high H fun (r1 : Bool) (H' : AHeap) => K (.bool r1) H'
  | _, _, _ => False
def S_impl_within : FSpec := { F := F_impl_within, quiet := true, tame := false }
theorem impl_within_vc (n : Int) (low : Int) (high : Int) (H : AHeap) (K : Value → AHeap → Prop) : bodyK Try.prog E_impl_within Try.f52 [.int .i64 n, .int .i64 low, .int .i64 high] H K =
  (Br (decide ((low : Int) ≤ n)) (K (.bool (decide ((n : Int) ≤ high))) H) (K (.bool false) H)) := by kernel_rfl
theorem E_impl_within_ok : ∀ g, FnOk Try.prog g (E_impl_within g) := FnOk.envOf (by
  intro x hx; cases hx)
set_option maxHeartbeats 1000000 in
theorem impl_within_main (n : Int) (low : Int) (high : Int) (H : AHeap) (K : Value → AHeap → Prop) (h : T_impl_within n low high H fun (r1 : Bool) (H' : AHeap) => K (.bool r1) H') : bodyK Try.prog E_impl_within Try.f52 [.int .i64 n, .int .i64 low, .int .i64 high] H K := by
  rw [impl_within_vc]
  unfold T_impl_within p_impl_within at h
  repeat' (first | exact h | (exfalso; simp_all; done) | (refine ⟨by decide, ?_⟩) | (refine Br.intro (fun hb => ?_) (fun hb => ?_) <;> (try simp only [hb, cond_true, cond_false, Bool.not_true, Bool.not_false] at h)))
theorem impl_within_ok : FnOk Try.prog 52 S_impl_within := by
  refine FnOk.body mix_ok E_impl_within_ok Try.func52 rfl (by kernel_rfl) (by kernel_rfl) ?_ ?_ ?_ ?_ ?_
  · intro args H K K' h hk
    simp only [S_impl_within] at *
    unfold F_impl_within at *
    split at hk
    · have k := hk
      exact h _ _ k
    · exact hk.elim
  · intro _ args H K hk
    simp only [S_impl_within] at *
    unfold F_impl_within at *
    split at hk
    · have k := hk
      exact ⟨_, k, fun K' k' => k'⟩
    · exact hk.elim
  · intro args H K hk
    simp only [S_impl_within] at *
    unfold F_impl_within at *
    split at hk
    · have k := hk
      exact ⟨_, _, k⟩
    · exact hk.elim
  · intro hq; cases hq
  · have mm := @impl_within_main
    revert mm
    generalize bodyK Try.prog E_impl_within Try.f52 = Q
    intro mm args H K hk
    simp only [S_impl_within] at *
    unfold F_impl_within at *
    split at hk
    · exact mm _ _ _ H K hk
    · exact hk.elim
def p_impl_BandSizes_l1 (n : Int) (levels : Int) : Nat → Int → (List Int) → Int → (List Int) × Bool
  | 0, _, _, _ => ([], false)
  | μ + 1, n_0, l_vout, k => (bif decide ((k : Int) < levels) then (bif decide ((1 : Int) < n_0) then (p_impl_BandSizes_l1 n levels μ ((n_0 - (Int.tdiv n_0 2))) ((l_vout ++ [((Int.tdiv n_0 2) : Int)])) (k + 1)) else ((l_vout ++ [(n_0 : Int)]), true)) else ((l_vout ++ [(n_0 : Int)]), true))
theorem p_impl_BandSizes_l1_s (n : Int) (levels : Int) (μ : Nat) (n_0 : Int) (l_vout : List Int) (k : Int) : p_impl_BandSizes_l1 n levels (μ + 1) n_0 l_vout k = (bif decide ((k : Int) < levels) then (bif decide ((1 : Int) < n_0) then (p_impl_BandSizes_l1 n levels μ ((n_0 - (Int.tdiv n_0 2))) ((l_vout ++ [((Int.tdiv n_0 2) : Int)])) (k + 1)) else ((l_vout ++ [(n_0 : Int)]), true)) else ((l_vout ++ [(n_0 : Int)]), true)) := rfl
def p_impl_BandSizes (n : Int) (levels : Int) : (List Int) × Bool := (bif !((p_impl_within n (1 : Int) (128 : Int))) then ([], false) else (bif !((p_impl_within levels (1 : Int) (6 : Int))) then ([], false) else (p_impl_BandSizes_l1 n levels (Int.toNat (levels - (0 : Int)) + 1) n ([] : List Int) (0 : Int))))
theorem p_impl_BandSizes_eq (n : Int) (levels : Int) : p_impl_BandSizes n levels = (bif !((p_impl_within n (1 : Int) (128 : Int))) then ([], false) else (bif !((p_impl_within levels (1 : Int) (6 : Int))) then ([], false) else (p_impl_BandSizes_l1 n levels (Int.toNat (levels - (0 : Int)) + 1) n ([] : List Int) (0 : Int)))) := rfl
def T_impl_BandSizes (n : Int) (levels : Int) (H : AHeap) (K : (Option Addr) → Nat → Nat → Bool → AHeap → Prop) : Prop := ((∀ (r1_a : Option Addr) (r1_n r1_e : Nat), ∀ H' : AHeap, Grow H H' → OwnS fI H' H.length r1_a r1_n r1_e ((p_impl_BandSizes n levels).1) → K r1_a r1_n r1_e ((p_impl_BandSizes n levels).2) H'))
theorem T_impl_BandSizes_i {n : Int} {levels : Int} {H : AHeap} {K : (Option Addr) → Nat → Nat → Bool → AHeap → Prop} (h : ((∀ (r1_a : Option Addr) (r1_n r1_e : Nat), ∀ H' : AHeap, Grow H H' → OwnS fI H' H.length r1_a r1_n r1_e ((p_impl_BandSizes n levels).1) → K r1_a r1_n r1_e ((p_impl_BandSizes n levels).2) H'))) : T_impl_BandSizes n levels H K := h
theorem impl_BandSizes_go (n levels : Int) : ∀ (μ : Nat) (a : Int) (o : List Int) (k : Int), (p_impl_BandSizes_l1 n levels μ a o k).1.length ≤ o.length + μ := by
  intro μ
  induction μ with
  | zero => intro a o k; exact Nat.zero_le _
  | succ μ ih =>
    intro a o k
    rw [p_impl_BandSizes_l1_s]
    cases decide (k < levels)
    · simp
    · cases decide (1 < a)
      · simp
      · refine Nat.le_trans (ih _ _ _) ?_
        simp; omega
theorem getD_rng {o : List Int} {x : Int} (h : ∀ i : Nat, 0 ≤ o.getD i 0 ∧ o.getD i 0 ≤ 128) (h0 : 0 ≤ x) (h1 : x ≤ 128) : ∀ i : Nat, 0 ≤ (o ++ [x]).getD i 0 ∧ (o ++ [x]).getD i 0 ≤ 128 := by
  intro i
  have h := h i
  rw [List.getD_eq_getElem?_getD] at h ⊢
  by_cases hi : i < o.length
  · rw [List.getElem?_append_left hi]; exact h
  · rw [List.getElem?_append_right (by omega)]
    cases i - o.length with
    | zero => exact ⟨h0, h1⟩
    | succ j => simp
theorem impl_BandSizes_rg (n levels : Int) : ∀ (μ : Nat) (a : Int) (o : List Int) (k : Int), 0 ≤ a → a ≤ 128 → (∀ i : Nat, 0 ≤ o.getD i 0 ∧ o.getD i 0 ≤ 128) → ∀ i : Nat, 0 ≤ (p_impl_BandSizes_l1 n levels μ a o k).1.getD i 0 ∧ (p_impl_BandSizes_l1 n levels μ a o k).1.getD i 0 ≤ 128 := by
  intro μ
  induction μ with
  | zero => intro a o k _ _ _ i; exact ⟨by simp [p_impl_BandSizes_l1], by simp [p_impl_BandSizes_l1]⟩
  | succ μ ih =>
    intro a o k h0 h1 h
    rw [p_impl_BandSizes_l1_s]
    cases decide (k < levels)
    · exact getD_rng h h0 h1
    · cases hc : decide (1 < a)
      · exact getD_rng h h0 h1
      · have e := tdiv_nn a 2 h0
        refine ih _ _ _ ?_ ?_ (getD_rng h ?_ ?_) <;> omega
theorem impl_BandSizes_len (n levels : Int) : (p_impl_BandSizes n levels).1.length ≤ 7 := by
  rw [p_impl_BandSizes_eq]
  cases p_impl_within n 1 128
  · exact Nat.zero_le _
  · cases h : p_impl_within levels 1 6
    · exact Nat.zero_le _
    · have := impl_within_t h
      refine Nat.le_trans (impl_BandSizes_go n levels _ _ _ _) ?_
      simp; omega
theorem impl_BandSizes_rng (n levels : Int) : ∀ i : Nat, 0 ≤ (p_impl_BandSizes n levels).1.getD i 0 ∧ (p_impl_BandSizes n levels).1.getD i 0 ≤ 128 := by
  rw [p_impl_BandSizes_eq]
  cases h : p_impl_within n 1 128
  · intro i; simp
  · cases p_impl_within levels 1 6
    · intro i; simp
    · have := impl_within_t h
      exact impl_BandSizes_rg n levels _ _ _ _ (by omega) (by omega) (by intro i; simp)
/-! impl_BandSizes: function 82 -/
def E_impl_BandSizes : Env := envOf [(52, S_impl_within)]
def F_impl_BandSizes : List Value → AHeap → (Value → AHeap → Prop) → Prop
  | [.int .i64 n, .int .i64 levels], H, K => T_impl_BandSizes n levels H fun (r1_a : Option Addr) (r1_n : Nat) (r1_e : Nat) (r2 : Bool) (H' : AHeap) => K (.tuple #[.slice r1_a r1_n r1_e, .bool r2]) H'
  | _, _, _ => False
def S_impl_BandSizes : FSpec := { F := F_impl_BandSizes, quiet := false, tame := true }
theorem impl_BandSizes_vc (n : Int) (levels : Int) (H : AHeap) (K : Value → AHeap → Prop) : bodyK Try.prog E_impl_BandSizes Try.f82 [.int .i64 n, .int .i64 levels] H K =
  (T_impl_within n 1 128 H fun (r1 : Bool) (H1 : AHeap) => Br (!r1) (K (.tuple #[.slice none 0 0, .bool false]) H1) (T_impl_within levels 1 6 H1 fun (r2 : Bool) (H2 : AHeap) => Br (!r2) (K (.tuple #[.slice none 0 0, .bool false]) H2) (Al [] H2 fun b1 H3 => loopK (exK Try.prog E_impl_BandSizes (cl (cl (cr (cl (cr (cr (cr (bodyC Try.f82))))))))) [.int .i64 n, .int .i64 levels, undef, undef, .slice none 0 0, .bool false, .slice (some ⟨b1, 0, none⟩) 0 1, .int .i64 0, .int .i64 n, .bool r1, .bool (!r1), .bool false, .int .i64 levels, .bool r2, .bool (!r2), .bool (!r2), .slice (some ⟨b1, 0, none⟩) 0 1, undef, undef, undef, undef, undef, undef, undef, undef, undef, undef, undef, undef, undef, undef, undef, undef, undef, undef, undef, undef, undef, undef] H3 (blockQ 0 (seqQ (exK Try.prog E_impl_BandSizes (cr (cr (cr (cr (bodyC Try.f82)))))) (retK Try.prog Try.f82 K)))))) := by kernel_rfl
theorem impl_BandSizes_r1 (b1 : Nat) (levels : Int) (n : Int) (r1 : Bool) (r2 : Bool) (n_0 : Int) (vout_a : Option Addr) (vout_n : Nat) (vout_e : Nat) (k : Int) (g17 g18 g19 g20 g21 g22 g23 g24 g25 g26 g27 g28 g29 g30 g31 g32 g33 g34 : Value) (H : AHeap) (R : Post) : exK Try.prog E_impl_BandSizes (cl (cl (cr (cl (cr (cr (cr (bodyC Try.f82)))))))) [.int .i64 n_0, .int .i64 levels, undef, undef, .slice none 0 0, .bool false, .slice vout_a vout_n vout_e, .int .i64 k, .int .i64 n, .bool r1, .bool (!r1), .bool false, .int .i64 levels, .bool r2, .bool (!r2), .bool (!r2), .slice (some ⟨b1, 0, none⟩) 0 1, g17, g18, g19, g20, g21, g22, g23, g24, g25, g26, g27, g28, g29, g30, g31, g32, g33, g34, undef, undef, undef, undef] H R =
  (Br (decide ((k : Int) < levels)) (Br (decide ((1 : Int) < n_0)) (2 ≠ (0 : Int) ∧ Al [.int .i64 (IntKind.wrap .i64 (Int.tdiv n_0 2))] H fun b2 H4 => ∃ o1 w1 : List Value, ownB H4 vout_a vout_n vout_e 1 = some o1 ∧ rdS H4 (some ⟨b2, 0, none⟩) (1 * 1) = some w1 ∧ ((vout_a : Option Addr) = none → 0 < (1 : Nat)) ∧ (vout_n : Nat) + 1 < most ∧ Ap H4 (killB H4 vout_a ++ [some ⟨o1 ++ w1, true⟩]) fun b3 H5 => 2 ≠ (0 : Int) ∧ R .normal [.int .i64 (IntKind.wrap .i64 (n_0 - (IntKind.wrap .i64 (Int.tdiv n_0 2)))), .int .i64 levels, undef, undef, .slice none 0 0, .bool false, .slice (some ⟨b3, 0, none⟩) (vout_n + 1) 1, .int .i64 (IntKind.wrap .i64 (k + 1)), .int .i64 n, .bool r1, .bool (!r1), .bool false, .int .i64 levels, .bool r2, .bool (!r2), .bool (!r2), .slice (some ⟨b1, 0, none⟩) 0 1, .int .i64 k, .int .i64 levels, .bool (decide ((k : Int) < levels)), .bool true, .int .i64 n_0, .bool (decide ((1 : Int) < n_0)), .bool (decide ((1 : Int) < n_0)), .int .i64 k, .int .i64 (IntKind.wrap .i64 (k + 1)), .slice vout_a vout_n vout_e, .int .i64 n_0, .int .i64 (IntKind.wrap .i64 (Int.tdiv n_0 2)), .slice (some ⟨b2, 0, none⟩) 1 1, .slice (some ⟨b3, 0, none⟩) (vout_n + 1) 1, .int .i64 n_0, .int .i64 n_0, .int .i64 (IntKind.wrap .i64 (Int.tdiv n_0 2)), .int .i64 (IntKind.wrap .i64 (n_0 - (IntKind.wrap .i64 (Int.tdiv n_0 2)))), undef, undef, undef, undef] H5) (R (.exit 0) [.int .i64 n_0, .int .i64 levels, undef, undef, .slice none 0 0, .bool false, .slice vout_a vout_n vout_e, .int .i64 k, .int .i64 n, .bool r1, .bool (!r1), .bool false, .int .i64 levels, .bool r2, .bool (!r2), .bool (!r2), .slice (some ⟨b1, 0, none⟩) 0 1, .int .i64 k, .int .i64 levels, .bool (decide ((k : Int) < levels)), .bool true, .int .i64 n_0, .bool (decide ((1 : Int) < n_0)), .bool (decide ((1 : Int) < n_0)), g24, g25, g26, g27, g28, g29, g30, g31, g32, g33, g34, undef, undef, undef, undef] H)) (R (.exit 0) [.int .i64 n_0, .int .i64 levels, undef, undef, .slice none 0 0, .bool false, .slice vout_a vout_n vout_e, .int .i64 k, .int .i64 n, .bool r1, .bool (!r1), .bool false, .int .i64 levels, .bool r2, .bool (!r2), .bool (!r2), .slice (some ⟨b1, 0, none⟩) 0 1, .int .i64 k, .int .i64 levels, .bool (decide ((k : Int) < levels)), .bool false, undef, undef, .bool false, g24, g25, g26, g27, g28, g29, g30, g31, g32, g33, g34, undef, undef, undef, undef] H)) := by kernel_rfl
def impl_BandSizes_I1 (b1 : Nat) (levels : Int) (n : Int) (r1 : Bool) (r2 : Bool) (Inv : Nat → Int → (Option Addr) → Nat → Nat → Int → AHeap → Prop) : Nat → List Value → AHeap → Prop := fun μ tm H => ∃ (n_0 : Int), ∃ (vout_a : Option Addr), ∃ (vout_n : Nat), ∃ (vout_e : Nat), ∃ (k : Int), ∃ g17 g18 g19 g20 g21 g22 g23 g24 g25 g26 g27 g28 g29 g30 g31 g32 g33 g34, tm = [.int .i64 n_0, .int .i64 levels, undef, undef, .slice none 0 0, .bool false, .slice vout_a vout_n vout_e, .int .i64 k, .int .i64 n, .bool r1, .bool (!r1), .bool false, .int .i64 levels, .bool r2, .bool (!r2), .bool (!r2), .slice (some ⟨b1, 0, none⟩) 0 1, g17, g18, g19, g20, g21, g22, g23, g24, g25, g26, g27, g28, g29, g30, g31, g32, g33, g34, undef, undef, undef, undef] ∧ Inv μ n_0 vout_a vout_n vout_e k H
theorem impl_BandSizes_L1 (b1 : Nat) (levels : Int) (n : Int) (r1 : Bool) (r2 : Bool) {Q : Post} (Inv : Nat → Int → (Option Addr) → Nat → Nat → Int → AHeap → Prop) (ν : Nat) (n_0 : Int) (vout_a : Option Addr) (vout_n : Nat) (vout_e : Nat) (k : Int) (g17 g18 g19 g20 g21 g22 g23 g24 g25 g26 g27 g28 g29 g30 g31 g32 g33 g34 : Value) (H : AHeap) (h0 : Inv ν n_0 vout_a vout_n vout_e k H)
    (hs : ∀ (μ : Nat) (n_0 : Int) (vout_a : Option Addr) (vout_n : Nat) (vout_e : Nat) (k : Int) (g17 g18 g19 g20 g21 g22 g23 g24 g25 g26 g27 g28 g29 g30 g31 g32 g33 g34 : Value) (H : AHeap), Inv μ n_0 vout_a vout_n vout_e k H → exK Try.prog E_impl_BandSizes (cl (cl (cr (cl (cr (cr (cr (bodyC Try.f82)))))))) [.int .i64 n_0, .int .i64 levels, undef, undef, .slice none 0 0, .bool false, .slice vout_a vout_n vout_e, .int .i64 k, .int .i64 n, .bool r1, .bool (!r1), .bool false, .int .i64 levels, .bool r2, .bool (!r2), .bool (!r2), .slice (some ⟨b1, 0, none⟩) 0 1, g17, g18, g19, g20, g21, g22, g23, g24, g25, g26, g27, g28, g29, g30, g31, g32, g33, g34, undef, undef, undef, undef] H (loopQ (impl_BandSizes_I1 b1 levels n r1 r2 Inv) μ Q)) : loopK (exK Try.prog E_impl_BandSizes (cl (cl (cr (cl (cr (cr (cr (bodyC Try.f82))))))))) [.int .i64 n_0, .int .i64 levels, undef, undef, .slice none 0 0, .bool false, .slice vout_a vout_n vout_e, .int .i64 k, .int .i64 n, .bool r1, .bool (!r1), .bool false, .int .i64 levels, .bool r2, .bool (!r2), .bool (!r2), .slice (some ⟨b1, 0, none⟩) 0 1, g17, g18, g19, g20, g21, g22, g23, g24, g25, g26, g27, g28, g29, g30, g31, g32, g33, g34, undef, undef, undef, undef] H Q :=
  ⟨impl_BandSizes_I1 b1 levels n r1 r2 Inv, ν, ⟨n_0, vout_a, vout_n, vout_e, k, g17, g18, g19, g20, g21, g22, g23, g24, g25, g26, g27, g28, g29, g30, g31, g32, g33, g34, rfl, h0⟩, fun μ tm H h => by obtain ⟨n_0, vout_a, vout_n, vout_e, k, g17, g18, g19, g20, g21, g22, g23, g24, g25, g26, g27, g28, g29, g30, g31, g32, g33, g34, rfl, hI⟩ := h; exact hs μ n_0 vout_a vout_n vout_e k g17 g18 g19 g20 g21 g22 g23 g24 g25 g26 g27 g28 g29 g30 g31 g32 g33 g34 H hI⟩
theorem impl_BandSizes_n1 {b1 : Nat} {levels : Int} {n : Int} {r1 : Bool} {r2 : Bool} {Q : Post} {Inv : Nat → Int → (Option Addr) → Nat → Nat → Int → AHeap → Prop} {μ : Nat} (μ' : Nat) {n_0 : Int} {vout_a : Option Addr} {vout_n : Nat} {vout_e : Nat} {k : Int} {g17 g18 g19 g20 g21 g22 g23 g24 g25 g26 g27 g28 g29 g30 g31 g32 g33 g34 : Value} {H : AHeap} (hm : μ' < μ) (hI : Inv μ' n_0 vout_a vout_n vout_e k H) : loopQ (impl_BandSizes_I1 b1 levels n r1 r2 Inv) μ Q .normal [.int .i64 n_0, .int .i64 levels, undef, undef, .slice none 0 0, .bool false, .slice vout_a vout_n vout_e, .int .i64 k, .int .i64 n, .bool r1, .bool (!r1), .bool false, .int .i64 levels, .bool r2, .bool (!r2), .bool (!r2), .slice (some ⟨b1, 0, none⟩) 0 1, g17, g18, g19, g20, g21, g22, g23, g24, g25, g26, g27, g28, g29, g30, g31, g32, g33, g34, undef, undef, undef, undef] H := ⟨μ', hm, n_0, vout_a, vout_n, vout_e, k, g17, g18, g19, g20, g21, g22, g23, g24, g25, g26, g27, g28, g29, g30, g31, g32, g33, g34, rfl, hI⟩
theorem impl_BandSizes_x1_0 (b1 : Nat) (levels : Int) (n : Int) (r1 : Bool) (r2 : Bool) (n_0 : Int) (vout_a : Option Addr) (vout_n : Nat) (vout_e : Nat) (k : Int) (g17 g18 g19 g20 g21 g22 g23 g24 g25 g26 g27 g28 g29 g30 g31 g32 g33 g34 : Value) (H : AHeap) (K : Value → AHeap → Prop)  {I : Nat → List Value → AHeap → Prop} {μ : Nat} : loopQ I μ (blockQ 0 (seqQ (exK Try.prog E_impl_BandSizes (cr (cr (cr (cr (bodyC Try.f82)))))) (retK Try.prog Try.f82 K))) (.exit 0) [.int .i64 n_0, .int .i64 levels, undef, undef, .slice none 0 0, .bool false, .slice vout_a vout_n vout_e, .int .i64 k, .int .i64 n, .bool r1, .bool (!r1), .bool false, .int .i64 levels, .bool r2, .bool (!r2), .bool (!r2), .slice (some ⟨b1, 0, none⟩) 0 1, g17, g18, g19, g20, g21, g22, g23, g24, g25, g26, g27, g28, g29, g30, g31, g32, g33, g34, undef, undef, undef, undef] H =
  (Al [.int .i64 n_0] H fun b4 H6 => ∃ o2 w2 : List Value, ownB H6 vout_a vout_n vout_e 1 = some o2 ∧ rdS H6 (some ⟨b4, 0, none⟩) (1 * 1) = some w2 ∧ ((vout_a : Option Addr) = none → 0 < (1 : Nat)) ∧ (vout_n : Nat) + 1 < most ∧ Ap H6 (killB H6 vout_a ++ [some ⟨o2 ++ w2, true⟩]) fun b5 H7 => K (.tuple #[.slice (some ⟨b5, 0, none⟩) (vout_n + 1) 1, .bool true]) H7) := by kernel_rfl
theorem E_impl_BandSizes_ok : ∀ g, FnOk Try.prog g (E_impl_BandSizes g) := FnOk.envOf (by
  intro x hx
  simp only [List.mem_cons, List.not_mem_nil, or_false] at hx
  subst hx; exact impl_within_ok)
set_option maxHeartbeats 1000000 in
theorem impl_BandSizes_main (n : Int) (levels : Int) (H : AHeap) (K : Value → AHeap → Prop) (h : T_impl_BandSizes n levels H fun (r1_a : Option Addr) (r1_n : Nat) (r1_e : Nat) (r2 : Bool) (H' : AHeap) => K (.tuple #[.slice r1_a r1_n r1_e, .bool r2]) H') : bodyK Try.prog E_impl_BandSizes Try.f82 [.int .i64 n, .int .i64 levels] H K := by
  rw [impl_BandSizes_vc]
  have hk := h
  unfold T_impl_BandSizes at hk
  have e : (p_impl_BandSizes n levels) = _ := rfl
  have e := e.trans (p_impl_BandSizes_eq n levels)
  have g0 := Grow.refl H
  refine T_impl_within_i ?_
  refine Br.intro (fun c_1 => ?_) (fun c_1 => ?_)
  · have e := e.trans (cond_t c_1)
    have c_1n := nf_of_t c_1
    rw [e] at hk
    exact hk _ _ _ H g0 (OwnS.nil _ _ _ _)
  · have e := e.trans (cond_f c_1)
    have c_1n := nt_of_f c_1
    have c_1n' := impl_within_t c_1n
    refine T_impl_within_i ?_
    refine Br.intro (fun c_2 => ?_) (fun c_2 => ?_)
    · have e := e.trans (cond_t c_2)
      have c_2n := nf_of_t c_2
      rw [e] at hk
      exact hk _ _ _ H g0 (OwnS.nil _ _ _ _)
    · have e := e.trans (cond_f c_2)
      have c_2n := nt_of_f c_2
      have c_2n' := impl_within_t c_2n
      refine Al.intro (fun b_3 H_1 hb_4 hl_5 g_6 o_7 => ?_)
      have o_7 : Own H_1 b_3 ((([] : List Int)).map fI) := o_7
      have l_9 := g_6.1
      have g_10 := g0.trans g_6
      have l_11 := g_10.1
      have w_100 := o_7.lt
      refine impl_BandSizes_L1 _ _ _ _ _ (fun (μ : Nat) (n_0 : Int) (vout_a : Option Addr) (vout_n : Nat) (vout_e : Nat) (k : Int) (H_2 : AHeap) => ∃ (l_vout : List Int), ∃ (b_12 : Nat), vout_a = some ⟨b_12, 0, none⟩ ∧ vout_n = l_vout.length ∧ vout_e = 1 ∧ Own H_2 b_12 (l_vout.map fI) ∧ Grow H H_2 ∧ H.length ≤ b_12 ∧ (0 : Int) ≤ k ∧ ((k ≤ levels ∨ k ≤ (0 : Int))) ∧ (l_vout.length : Int) ≤ k - (0 : Int) + 0 ∧ (l_vout.length : Int) ≤ k ∧ 0 ≤ n_0 ∧ n_0 ≤ 128 ∧ levels - k ≤ (μ : Int) ∧ p_impl_BandSizes n levels = p_impl_BandSizes_l1 n levels (μ + 1) n_0 l_vout k) (Int.toNat (levels - (0 : Int))) _ _ _ _ _ _ _ _ _ _ _ _ _ _ _ _ _ _ _ _ _ _ _ H_1 ?_ ?_
      · exact ⟨_, _, rfl, (by first | rfl | omega | (simp only [List.length_set]; done) | (simp only [List.length_set, List.length_replicate]; omega)), rfl, o_7, g_10, (by omega), (by first | omega | (simp; done) | (simp; omega)), (by first | omega | (simp; done) | (simp; omega)), (by first | omega | (simp; done) | (simp; omega)), (by first | omega | (simp; done) | (simp; omega)), (by first | omega | (simp; done) | (simp; omega)), (by first | omega | (simp; done) | (simp; omega)), (by omega), e⟩
      · intro μ n_0 vout_a vout_n vout_e k g17 g18 g19 g20 g21 g22 g23 g24 g25 g26 g27 g28 g29 g30 g31 g32 g33 g34 H_2 hI
        obtain ⟨l_vout, b_12, rfl, rfl, rfl, o_13, g_14, l_15, v_16, v_17, v_18, v_19, v_20, v_21, hμ, e⟩ := hI
        rw [impl_BandSizes_r1]
        have e := e.trans (p_impl_BandSizes_l1_s n levels μ n_0 l_vout k)
        have w_22 := o_13.lt
        have l_23 := g_14.1
        refine Br.intro (fun c_24 => ?_) (fun c_24 => ?_)
        · have e := e.trans (cond_t c_24)
          have c_24' := of_decide_eq_true c_24
          refine Br.intro (fun c_25 => ?_) (fun c_25 => ?_)
          · have e := e.trans (cond_t c_25)
            have c_25' := of_decide_eq_true c_25
            have z_26 := tdiv_nn n_0 2
            refine ⟨(by first | omega | decide | (simp; done) | (simp; omega)), ?_⟩
            rw [show IntKind.wrap .i64 (Int.tdiv n_0 2) = (Int.tdiv n_0 2) from wrap64 (by omega) (by omega)]
            refine Al.intro (fun b_27 H_3 hb_28 hl_29 g_30 o_31 => ?_)
            have o_31 : Own H_3 b_27 (([((Int.tdiv n_0 2) : Int)]).map fI) := o_31
            have l_33 := g_30.1
            have g_34 := g_14.trans g_30
            have l_35 := g_34.1
            have o_36 := o_13.grow g_30
            have w_37 := o_36.lt
            have w_51 := o_31.lt
            refine ⟨_, _, o_36.ownB (by first | (simp only [List.length_map, List.length_cons, List.length_nil, List.length_append]; done) | (simp only [List.length_map, List.length_cons, List.length_nil, List.length_append]; omega)) rfl, (isl_rdS (o_31.isL (by first | rfl | omega | (simp only [List.length_set]; done) | (simp only [List.length_set, List.length_replicate]; omega)))), (fun h => by cases h), (by have := most_eq; omega), ?_⟩
            refine Ap.app o_36 rfl rfl (fun b_42 H_4 q_49 hl_38 o_39 k_40 => ?_)
            have o_39 := map_snoc o_39
            have l_43 := k_40.1
            have g_44 := g_34.keep (b := b_12) (by omega) k_40
            have l_45 := g_44.1
            have o_46 := o_31.keep (by omega) k_40
            have w_47 := o_46.lt
            have w_50 := o_39.lt
            have z_48 := tdiv_nn n_0 2
            refine ⟨(by first | omega | decide | (simp; done) | (simp; omega)), ?_⟩
            rw [show IntKind.wrap .i64 (n_0 - (Int.tdiv n_0 2)) = (n_0 - (Int.tdiv n_0 2)) from wrap64 (by omega) (by omega)]
            rw [show IntKind.wrap .i64 (k + 1) = (k + 1) from wrap64 (by omega) (by omega)]
            refine impl_BandSizes_n1 (μ - 1) (by first | omega) ⟨_, _, rfl, (by first | (simp only [List.length_append, List.length_cons, List.length_nil]; done) | (simp only [List.length_append, List.length_cons, List.length_nil]; omega) | (simp only [List.length_append, List.length_cons, List.length_nil, List.length_take, List.length_drop]; omega)), rfl, o_39, g_44, (by omega), (by first | omega | (simp only [List.length_append, List.length_cons, List.length_nil, List.length_set]; done) | (simp only [List.length_append, List.length_cons, List.length_nil, List.length_set]; omega)), (by first | omega | (simp only [List.length_append, List.length_cons, List.length_nil, List.length_set]; done) | (simp only [List.length_append, List.length_cons, List.length_nil, List.length_set]; omega)), (by first | omega | (simp only [List.length_append, List.length_cons, List.length_nil, List.length_set]; done) | (simp only [List.length_append, List.length_cons, List.length_nil, List.length_set]; omega)), (by first | omega | (simp only [List.length_append, List.length_cons, List.length_nil, List.length_set]; done) | (simp only [List.length_append, List.length_cons, List.length_nil, List.length_set]; omega)), (by first | omega | (simp only [List.length_append, List.length_cons, List.length_nil, List.length_set]; done) | (simp only [List.length_append, List.length_cons, List.length_nil, List.length_set]; omega)), (by first | omega | (simp only [List.length_append, List.length_cons, List.length_nil, List.length_set]; done) | (simp only [List.length_append, List.length_cons, List.length_nil, List.length_set]; omega)), (by first | omega), (by rw [show μ - 1 + 1 = μ from by first | omega]; exact e)⟩
          · have e := e.trans (cond_f c_25)
            have c_25' := of_decide_eq_false c_25
            rw [impl_BandSizes_x1_0]
            refine Al.intro (fun b_52 H_5 hb_53 hl_54 g_55 o_56 => ?_)
            have o_56 : Own H_5 b_52 (([(n_0 : Int)]).map fI) := o_56
            have l_58 := g_55.1
            have g_59 := g_14.trans g_55
            have l_60 := g_59.1
            have o_61 := o_13.grow g_55
            have w_62 := o_61.lt
            have w_75 := o_56.lt
            refine ⟨_, _, o_61.ownB (by first | (simp only [List.length_map, List.length_cons, List.length_nil, List.length_append]; done) | (simp only [List.length_map, List.length_cons, List.length_nil, List.length_append]; omega)) rfl, (isl_rdS (o_56.isL (by first | rfl | omega | (simp only [List.length_set]; done) | (simp only [List.length_set, List.length_replicate]; omega)))), (fun h => by cases h), (by have := most_eq; omega), ?_⟩
            refine Ap.app o_61 rfl rfl (fun b_67 H_6 q_73 hl_63 o_64 k_65 => ?_)
            have o_64 := map_snoc o_64
            have l_68 := k_65.1
            have g_69 := g_59.keep (b := b_12) (by omega) k_65
            have l_70 := g_69.1
            have o_71 := o_56.keep (by omega) k_65
            have w_72 := o_71.lt
            have w_74 := o_64.lt
            rw [e] at hk
            exact hk _ _ _ H_6 g_69 (o_64.ownS (by first | (simp only [List.length_append, List.length_cons, List.length_nil]; done) | (simp only [List.length_append, List.length_cons, List.length_nil]; omega) | (simp only [List.length_append, List.length_cons, List.length_nil, List.length_take, List.length_drop]; omega)) (by omega))
        · have e := e.trans (cond_f c_24)
          have c_24' := of_decide_eq_false c_24
          rw [impl_BandSizes_x1_0]
          refine Al.intro (fun b_76 H_7 hb_77 hl_78 g_79 o_80 => ?_)
          have o_80 : Own H_7 b_76 (([(n_0 : Int)]).map fI) := o_80
          have l_82 := g_79.1
          have g_83 := g_14.trans g_79
          have l_84 := g_83.1
          have o_85 := o_13.grow g_79
          have w_86 := o_85.lt
          have w_99 := o_80.lt
          refine ⟨_, _, o_85.ownB (by first | (simp only [List.length_map, List.length_cons, List.length_nil, List.length_append]; done) | (simp only [List.length_map, List.length_cons, List.length_nil, List.length_append]; omega)) rfl, (isl_rdS (o_80.isL (by first | rfl | omega | (simp only [List.length_set]; done) | (simp only [List.length_set, List.length_replicate]; omega)))), (fun h => by cases h), (by have := most_eq; omega), ?_⟩
          refine Ap.app o_85 rfl rfl (fun b_91 H_8 q_97 hl_87 o_88 k_89 => ?_)
          have o_88 := map_snoc o_88
          have l_92 := k_89.1
          have g_93 := g_83.keep (b := b_12) (by omega) k_89
          have l_94 := g_93.1
          have o_95 := o_80.keep (by omega) k_89
          have w_96 := o_95.lt
          have w_98 := o_88.lt
          rw [e] at hk
          exact hk _ _ _ H_8 g_93 (o_88.ownS (by first | (simp only [List.length_append, List.length_cons, List.length_nil]; done) | (simp only [List.length_append, List.length_cons, List.length_nil]; omega) | (simp only [List.length_append, List.length_cons, List.length_nil, List.length_take, List.length_drop]; omega)) (by omega))
theorem impl_BandSizes_ok : FnOk Try.prog 82 S_impl_BandSizes := by
  refine FnOk.body mix_ok E_impl_BandSizes_ok Try.func82 rfl (by kernel_rfl) (by kernel_rfl) ?_ ?_ ?_ ?_ ?_
  · intro args H K K' h hk
    simp only [S_impl_BandSizes] at *
    unfold F_impl_BandSizes at *
    split at hk
    · have k := hk
      exact fun r1_a r1_n r1_e H' gg ow0 => h _ _ (k r1_a r1_n r1_e H' gg ow0)
    · exact hk.elim
  · intro hq; cases hq
  · intro args H K hk
    simp only [S_impl_BandSizes] at *
    unfold F_impl_BandSizes at *
    split at hk
    · have k := hk
      exact liveS fun a n e H1 g o => ⟨_, _, k a n e H1 g o⟩
    · exact hk.elim
  · intro _ args H K hk
    simp only [S_impl_BandSizes] at *
    unfold F_impl_BandSizes at *
    split at hk
    · have k := hk
      exact fun r1_a r1_n r1_e H' gg ow0 => ⟨gg, k r1_a r1_n r1_e H' gg ow0⟩
    · exact hk.elim
  · have mm := @impl_BandSizes_main
    revert mm
    generalize bodyK Try.prog E_impl_BandSizes Try.f82 = Q
    intro mm args H K hk
    simp only [S_impl_BandSizes] at *
    unfold F_impl_BandSizes at *
    split at hk
    · exact mm _ _ H K hk
    · exact hk.elim
def p_impl_parents_l2 (l_sizes : List Int) (l_vout : List Int) (start : Int) (b : Int) (k2_2 : (List Int) → Int → (List Int)) : Nat → (List Int) → Int → (List Int)
  | 0, _, _ => []
  | μ2 + 1, l_vout_2, t21 => (bif decide ((t21 : Int) < ((l_sizes).getD (b : Int).toNat 0)) then (bif decide ((((((l_sizes.length : Int) - 1)) - 1) : Int) ≤ b) then (p_impl_parents_l2 l_sizes l_vout start b k2_2 μ2 ((l_vout_2 ++ [((-1) : Int)])) (t21 + 1)) else (p_impl_parents_l2 l_sizes l_vout start b k2_2 μ2 ((l_vout_2 ++ [(IntKind.wrap .i64 ((IntKind.wrap .i64 (start - (((l_sizes).getD ((b + 1) : Int).toNat 0)))) + ((if (IntKind.wrap .i64 ((((l_sizes).getD ((b + 1) : Int).toNat 0)) - 1) : Int) < IntKind.wrap .i64 (Int.tdiv t21 2) then IntKind.wrap .i64 ((((l_sizes).getD ((b + 1) : Int).toNat 0)) - 1) else IntKind.wrap .i64 (Int.tdiv t21 2)))) : Int)])) (t21 + 1))) else (k2_2 l_vout_2 t21))
theorem p_impl_parents_l2_s (l_sizes : List Int) (l_vout : List Int) (start : Int) (b : Int) (k2_2 : (List Int) → Int → (List Int)) (μ2 : Nat) (l_vout_2 : List Int) (t21 : Int) : p_impl_parents_l2 l_sizes l_vout start b k2_2 (μ2 + 1) l_vout_2 t21 = (bif decide ((t21 : Int) < ((l_sizes).getD (b : Int).toNat 0)) then (bif decide ((((((l_sizes.length : Int) - 1)) - 1) : Int) ≤ b) then (p_impl_parents_l2 l_sizes l_vout start b k2_2 μ2 ((l_vout_2 ++ [((-1) : Int)])) (t21 + 1)) else (p_impl_parents_l2 l_sizes l_vout start b k2_2 μ2 ((l_vout_2 ++ [(IntKind.wrap .i64 ((IntKind.wrap .i64 (start - (((l_sizes).getD ((b + 1) : Int).toNat 0)))) + ((if (IntKind.wrap .i64 ((((l_sizes).getD ((b + 1) : Int).toNat 0)) - 1) : Int) < IntKind.wrap .i64 (Int.tdiv t21 2) then IntKind.wrap .i64 ((((l_sizes).getD ((b + 1) : Int).toNat 0)) - 1) else IntKind.wrap .i64 (Int.tdiv t21 2)))) : Int)])) (t21 + 1))) else (k2_2 l_vout_2 t21)) := rfl
def p_impl_parents_l1 (l_sizes : List Int) : Nat → (List Int) → Int → Int → (List Int)
  | 0, _, _, _ => []
  | μ + 1, l_vout, start, b => (bif decide ((0 : Int) ≤ b) then (p_impl_parents_l2 l_sizes l_vout start b (fun (l_vout_2 : List Int) (t21 : Int) => (p_impl_parents_l1 l_sizes μ l_vout_2 (IntKind.wrap .i64 (start + (((l_sizes).getD (b : Int).toNat 0)))) (b - 1))) (Int.toNat (((l_sizes).getD (b : Int).toNat 0) - (0 : Int)) + 1) l_vout (0 : Int)) else l_vout)
theorem p_impl_parents_l1_s (l_sizes : List Int) (μ : Nat) (l_vout : List Int) (start : Int) (b : Int) : p_impl_parents_l1 l_sizes (μ + 1) l_vout start b = (bif decide ((0 : Int) ≤ b) then (p_impl_parents_l2 l_sizes l_vout start b (fun (l_vout_2 : List Int) (t21 : Int) => (p_impl_parents_l1 l_sizes μ l_vout_2 (IntKind.wrap .i64 (start + (((l_sizes).getD (b : Int).toNat 0)))) (b - 1))) (Int.toNat (((l_sizes).getD (b : Int).toNat 0) - (0 : Int)) + 1) l_vout (0 : Int)) else l_vout) := rfl
def p_impl_parents (l_sizes : List Int) : (List Int) := (p_impl_parents_l1 l_sizes (Int.toNat (((((l_sizes.length : Int) - 1))) - 0 + 1) + 1) ([] : List Int) (0 : Int) ((((l_sizes.length : Int) - 1))))
theorem p_impl_parents_eq (l_sizes : List Int) : p_impl_parents l_sizes = (p_impl_parents_l1 l_sizes (Int.toNat (((((l_sizes.length : Int) - 1))) - 0 + 1) + 1) ([] : List Int) (0 : Int) ((((l_sizes.length : Int) - 1)))) := rfl
def T_impl_parents (sizes_a : Option Addr) (sizes_n : Nat) (sizes_e : Nat) (H : AHeap) (K : (Option Addr) → Nat → Nat → AHeap → Prop) : Prop := ∃ (l_sizes : List Int), IsL fI H sizes_a sizes_n l_sizes ∧ l_sizes.length < 1073741824 ∧ (l_sizes.length : Int) ≤ 7 ∧ (∀ i : Nat, 0 ≤ l_sizes.getD i 0 ∧ l_sizes.getD i 0 ≤ 128) ∧ ((∀ (r1_a : Option Addr) (r1_n r1_e : Nat), ∀ H' : AHeap, Grow H H' → OwnS fI H' H.length r1_a r1_n r1_e (p_impl_parents l_sizes) → K r1_a r1_n r1_e H'))
theorem T_impl_parents_i {sizes_a : Option Addr} {sizes_n : Nat} {sizes_e : Nat} {H : AHeap} {K : (Option Addr) → Nat → Nat → AHeap → Prop} (h : ∃ (l_sizes : List Int), IsL fI H sizes_a sizes_n l_sizes ∧ l_sizes.length < 1073741824 ∧ (l_sizes.length : Int) ≤ 7 ∧ (∀ i : Nat, 0 ≤ l_sizes.getD i 0 ∧ l_sizes.getD i 0 ≤ 128) ∧ ((∀ (r1_a : Option Addr) (r1_n r1_e : Nat), ∀ H' : AHeap, Grow H H' → OwnS fI H' H.length r1_a r1_n r1_e (p_impl_parents l_sizes) → K r1_a r1_n r1_e H'))) : T_impl_parents sizes_a sizes_n sizes_e H K := h

/-! impl_parents: function 83 -/
def E_impl_parents : Env := envOf []
def F_impl_parents : List Value → AHeap → (Value → AHeap → Prop) → Prop
  | [.slice sizes_a sizes_n sizes_e], H, K => T_impl_parents sizes_a sizes_n sizes_e H fun (r1_a : Option Addr) (r1_n : Nat) (r1_e : Nat) (H' : AHeap) => K (.slice r1_a r1_n r1_e) H'
  | _, _, _ => False
def S_impl_parents : FSpec := { F := F_impl_parents, quiet := false, tame := true }
theorem impl_parents_vc (sizes_a : Option Addr) (sizes_n : Nat) (sizes_e : Nat) (H : AHeap) (K : Value → AHeap → Prop) : bodyK Try.prog E_impl_parents Try.f83 [.slice sizes_a sizes_n sizes_e] H K =
  (Al [] H fun b1 H1 => loopK (exK Try.prog E_impl_parents (cl (cl (cr (cl (cr (cr (cr (cr (bodyC Try.f83)))))))))) [.slice sizes_a sizes_n sizes_e, undef, .slice none 0 0, .int .i64 (IntKind.wrap .i64 ((sizes_n : Int) - 1)), .slice (some ⟨b1, 0, none⟩) 0 1, .int .i64 0, .int .i64 (IntKind.wrap .i64 ((sizes_n : Int) - 1)), undef, .slice sizes_a sizes_n sizes_e, .int .i64 (sizes_n : Int), .int .i64 (IntKind.wrap .i64 ((sizes_n : Int) - 1)), .slice (some ⟨b1, 0, none⟩) 0 1, .int .i64 (IntKind.wrap .i64 ((sizes_n : Int) - 1)), undef, undef, undef, undef, undef, undef, undef, undef, undef, undef, undef, undef, undef, undef, undef, undef, undef, undef, undef, undef, undef, undef, undef, undef, undef, undef, undef, undef, undef, undef, undef, undef, undef, undef, undef, undef, undef, undef, undef, undef, undef, undef, undef, undef, undef, undef] H1 (blockQ 0 (seqQ (exK Try.prog E_impl_parents (cr (cr (cr (cr (cr (bodyC Try.f83))))))) (retK Try.prog Try.f83 K)))) := by kernel_rfl
theorem impl_parents_r1 (b1 : Nat) (sizes_a : Option Addr) (sizes_e : Nat) (sizes_n : Nat) (z1_10 : Int) (z1_12 : Int) (z1_3 : Int) (vout_a : Option Addr) (vout_n : Nat) (vout_e : Nat) (start : Int) (b : Int) (g7 g13 g14 g15 g16 g17 g18 g19 g20 g21 g22 g23 g24 g25 g26 g27 g28 g29 g30 g31 g32 g33 g34 g35 g36 g37 g38 g39 g40 g41 g42 g43 g44 g45 g46 g47 g48 g49 g50 g51 g52 g53 g54 g55 g56 g57 : Value) (H : AHeap) (R : Post) : exK Try.prog E_impl_parents (cl (cl (cr (cl (cr (cr (cr (cr (bodyC Try.f83))))))))) [.slice sizes_a sizes_n sizes_e, undef, .slice none 0 0, .int .i64 z1_3, .slice vout_a vout_n vout_e, .int .i64 start, .int .i64 b, g7, .slice sizes_a sizes_n sizes_e, .int .i64 (sizes_n : Int), .int .i64 z1_10, .slice (some ⟨b1, 0, none⟩) 0 1, .int .i64 z1_12, g13, g14, g15, g16, g17, g18, g19, g20, g21, g22, g23, g24, g25, g26, g27, g28, g29, g30, g31, g32, g33, g34, g35, g36, g37, g38, g39, g40, g41, g42, g43, g44, g45, g46, g47, g48, g49, g50, g51, g52, g53, g54, g55, g56, g57, undef] H R =
  (Br (decide ((0 : Int) ≤ b)) ((0 : Int) ≤ b ∧ b < (sizes_n : Int) ∧ ∃ b2 f1, (sizes_a : Option Addr) = some ⟨b2, f1, none⟩ ∧ ∃ x1 : Int,  rdC H b2 (f1 + (b : Int).toNat * 1) = some (.int .i64 x1) ∧ loopK (exK Try.prog E_impl_parents (cl (cl (cr (cl (cl (cl (cr (cl (cl (cr (cl (cr (cr (cr (cr (bodyC Try.f83))))))))))))))))) [.slice sizes_a sizes_n sizes_e, undef, .slice none 0 0, .int .i64 z1_3, .slice vout_a vout_n vout_e, .int .i64 start, .int .i64 b, g7, .slice sizes_a sizes_n sizes_e, .int .i64 (sizes_n : Int), .int .i64 z1_10, .slice (some ⟨b1, 0, none⟩) 0 1, .int .i64 z1_12, .int .i64 b, .bool (decide ((0 : Int) ≤ b)), g15, g16, .slice sizes_a sizes_n sizes_e, .int .i64 b, .pointer (some ⟨b2, f1 + (b : Int).toNat * 1, none⟩), .int .i64 x1, .int .i64 0, g22, g23, g24, g25, g26, g27, g28, g29, g30, g31, g32, g33, g34, g35, g36, g37, g38, g39, g40, g41, g42, g43, g44, g45, g46, g47, g48, g49, g50, g51, g52, g53, g54, g55, g56, g57, undef] H (blockQ 2 (seqQ (exK Try.prog E_impl_parents (cr (cl (cl (cr (cl (cl (cr (cl (cr (cr (cr (cr (bodyC Try.f83)))))))))))))) (blockQ 1 (seqQ (exK Try.prog E_impl_parents (cr (cr (cl (cl (cr (cl (cr (cr (cr (cr (bodyC Try.f83)))))))))))) (R)))))) (R (.exit 0) [.slice sizes_a sizes_n sizes_e, undef, .slice none 0 0, .int .i64 z1_3, .slice vout_a vout_n vout_e, .int .i64 start, .int .i64 b, g7, .slice sizes_a sizes_n sizes_e, .int .i64 (sizes_n : Int), .int .i64 z1_10, .slice (some ⟨b1, 0, none⟩) 0 1, .int .i64 z1_12, .int .i64 b, .bool (decide ((0 : Int) ≤ b)), g15, g16, g17, g18, g19, g20, g21, g22, g23, g24, g25, g26, g27, g28, g29, g30, g31, g32, g33, g34, g35, g36, g37, g38, g39, g40, g41, g42, g43, g44, g45, g46, g47, g48, g49, g50, g51, g52, g53, g54, g55, g56, g57, undef] H)) := by kernel_rfl
def impl_parents_I1 (b1 : Nat) (sizes_a : Option Addr) (sizes_e : Nat) (sizes_n : Nat) (z1_10 : Int) (z1_12 : Int) (z1_3 : Int) (Inv : Nat → (Option Addr) → Nat → Nat → Int → Int → AHeap → Prop) : Nat → List Value → AHeap → Prop := fun μ tm H => ∃ (vout_a : Option Addr), ∃ (vout_n : Nat), ∃ (vout_e : Nat), ∃ (start : Int), ∃ (b : Int), ∃ g7 g13 g14 g15 g16 g17 g18 g19 g20 g21 g22 g23 g24 g25 g26 g27 g28 g29 g30 g31 g32 g33 g34 g35 g36 g37 g38 g39 g40 g41 g42 g43 g44 g45 g46 g47 g48 g49 g50 g51 g52 g53 g54 g55 g56 g57, tm = [.slice sizes_a sizes_n sizes_e, undef, .slice none 0 0, .int .i64 z1_3, .slice vout_a vout_n vout_e, .int .i64 start, .int .i64 b, g7, .slice sizes_a sizes_n sizes_e, .int .i64 (sizes_n : Int), .int .i64 z1_10, .slice (some ⟨b1, 0, none⟩) 0 1, .int .i64 z1_12, g13, g14, g15, g16, g17, g18, g19, g20, g21, g22, g23, g24, g25, g26, g27, g28, g29, g30, g31, g32, g33, g34, g35, g36, g37, g38, g39, g40, g41, g42, g43, g44, g45, g46, g47, g48, g49, g50, g51, g52, g53, g54, g55, g56, g57, undef] ∧ Inv μ vout_a vout_n vout_e start b H
theorem impl_parents_L1 (b1 : Nat) (sizes_a : Option Addr) (sizes_e : Nat) (sizes_n : Nat) (z1_10 : Int) (z1_12 : Int) (z1_3 : Int) {Q : Post} (Inv : Nat → (Option Addr) → Nat → Nat → Int → Int → AHeap → Prop) (ν : Nat) (vout_a : Option Addr) (vout_n : Nat) (vout_e : Nat) (start : Int) (b : Int) (g7 g13 g14 g15 g16 g17 g18 g19 g20 g21 g22 g23 g24 g25 g26 g27 g28 g29 g30 g31 g32 g33 g34 g35 g36 g37 g38 g39 g40 g41 g42 g43 g44 g45 g46 g47 g48 g49 g50 g51 g52 g53 g54 g55 g56 g57 : Value) (H : AHeap) (h0 : Inv ν vout_a vout_n vout_e start b H)
    (hs : ∀ (μ : Nat) (vout_a : Option Addr) (vout_n : Nat) (vout_e : Nat) (start : Int) (b : Int) (g7 g13 g14 g15 g16 g17 g18 g19 g20 g21 g22 g23 g24 g25 g26 g27 g28 g29 g30 g31 g32 g33 g34 g35 g36 g37 g38 g39 g40 g41 g42 g43 g44 g45 g46 g47 g48 g49 g50 g51 g52 g53 g54 g55 g56 g57 : Value) (H : AHeap), Inv μ vout_a vout_n vout_e start b H → exK Try.prog E_impl_parents (cl (cl (cr (cl (cr (cr (cr (cr (bodyC Try.f83))))))))) [.slice sizes_a sizes_n sizes_e, undef, .slice none 0 0, .int .i64 z1_3, .slice vout_a vout_n vout_e, .int .i64 start, .int .i64 b, g7, .slice sizes_a sizes_n sizes_e, .int .i64 (sizes_n : Int), .int .i64 z1_10, .slice (some ⟨b1, 0, none⟩) 0 1, .int .i64 z1_12, g13, g14, g15, g16, g17, g18, g19, g20, g21, g22, g23, g24, g25, g26, g27, g28, g29, g30, g31, g32, g33, g34, g35, g36, g37, g38, g39, g40, g41, g42, g43, g44, g45, g46, g47, g48, g49, g50, g51, g52, g53, g54, g55, g56, g57, undef] H (loopQ (impl_parents_I1 b1 sizes_a sizes_e sizes_n z1_10 z1_12 z1_3 Inv) μ Q)) : loopK (exK Try.prog E_impl_parents (cl (cl (cr (cl (cr (cr (cr (cr (bodyC Try.f83)))))))))) [.slice sizes_a sizes_n sizes_e, undef, .slice none 0 0, .int .i64 z1_3, .slice vout_a vout_n vout_e, .int .i64 start, .int .i64 b, g7, .slice sizes_a sizes_n sizes_e, .int .i64 (sizes_n : Int), .int .i64 z1_10, .slice (some ⟨b1, 0, none⟩) 0 1, .int .i64 z1_12, g13, g14, g15, g16, g17, g18, g19, g20, g21, g22, g23, g24, g25, g26, g27, g28, g29, g30, g31, g32, g33, g34, g35, g36, g37, g38, g39, g40, g41, g42, g43, g44, g45, g46, g47, g48, g49, g50, g51, g52, g53, g54, g55, g56, g57, undef] H Q :=
  ⟨impl_parents_I1 b1 sizes_a sizes_e sizes_n z1_10 z1_12 z1_3 Inv, ν, ⟨vout_a, vout_n, vout_e, start, b, g7, g13, g14, g15, g16, g17, g18, g19, g20, g21, g22, g23, g24, g25, g26, g27, g28, g29, g30, g31, g32, g33, g34, g35, g36, g37, g38, g39, g40, g41, g42, g43, g44, g45, g46, g47, g48, g49, g50, g51, g52, g53, g54, g55, g56, g57, rfl, h0⟩, fun μ tm H h => by obtain ⟨vout_a, vout_n, vout_e, start, b, g7, g13, g14, g15, g16, g17, g18, g19, g20, g21, g22, g23, g24, g25, g26, g27, g28, g29, g30, g31, g32, g33, g34, g35, g36, g37, g38, g39, g40, g41, g42, g43, g44, g45, g46, g47, g48, g49, g50, g51, g52, g53, g54, g55, g56, g57, rfl, hI⟩ := h; exact hs μ vout_a vout_n vout_e start b g7 g13 g14 g15 g16 g17 g18 g19 g20 g21 g22 g23 g24 g25 g26 g27 g28 g29 g30 g31 g32 g33 g34 g35 g36 g37 g38 g39 g40 g41 g42 g43 g44 g45 g46 g47 g48 g49 g50 g51 g52 g53 g54 g55 g56 g57 H hI⟩
theorem impl_parents_n1 {b1 : Nat} {sizes_a : Option Addr} {sizes_e : Nat} {sizes_n : Nat} {z1_10 : Int} {z1_12 : Int} {z1_3 : Int} {Q : Post} {Inv : Nat → (Option Addr) → Nat → Nat → Int → Int → AHeap → Prop} {μ : Nat} (μ' : Nat) {vout_a : Option Addr} {vout_n : Nat} {vout_e : Nat} {start : Int} {b : Int} {g7 g13 g14 g15 g16 g17 g18 g19 g20 g21 g22 g23 g24 g25 g26 g27 g28 g29 g30 g31 g32 g33 g34 g35 g36 g37 g38 g39 g40 g41 g42 g43 g44 g45 g46 g47 g48 g49 g50 g51 g52 g53 g54 g55 g56 g57 : Value} {H : AHeap} (hm : μ' < μ) (hI : Inv μ' vout_a vout_n vout_e start b H) : loopQ (impl_parents_I1 b1 sizes_a sizes_e sizes_n z1_10 z1_12 z1_3 Inv) μ Q .normal [.slice sizes_a sizes_n sizes_e, undef, .slice none 0 0, .int .i64 z1_3, .slice vout_a vout_n vout_e, .int .i64 start, .int .i64 b, g7, .slice sizes_a sizes_n sizes_e, .int .i64 (sizes_n : Int), .int .i64 z1_10, .slice (some ⟨b1, 0, none⟩) 0 1, .int .i64 z1_12, g13, g14, g15, g16, g17, g18, g19, g20, g21, g22, g23, g24, g25, g26, g27, g28, g29, g30, g31, g32, g33, g34, g35, g36, g37, g38, g39, g40, g41, g42, g43, g44, g45, g46, g47, g48, g49, g50, g51, g52, g53, g54, g55, g56, g57, undef] H := ⟨μ', hm, vout_a, vout_n, vout_e, start, b, g7, g13, g14, g15, g16, g17, g18, g19, g20, g21, g22, g23, g24, g25, g26, g27, g28, g29, g30, g31, g32, g33, g34, g35, g36, g37, g38, g39, g40, g41, g42, g43, g44, g45, g46, g47, g48, g49, g50, g51, g52, g53, g54, g55, g56, g57, rfl, hI⟩
theorem impl_parents_x1_0 (b1 : Nat) (sizes_a : Option Addr) (sizes_e : Nat) (sizes_n : Nat) (z1_10 : Int) (z1_12 : Int) (z1_3 : Int) (vout_a : Option Addr) (vout_n : Nat) (vout_e : Nat) (start : Int) (b : Int) (g7 g13 g14 g15 g16 g17 g18 g19 g20 g21 g22 g23 g24 g25 g26 g27 g28 g29 g30 g31 g32 g33 g34 g35 g36 g37 g38 g39 g40 g41 g42 g43 g44 g45 g46 g47 g48 g49 g50 g51 g52 g53 g54 g55 g56 g57 : Value) (H : AHeap) (K : Value → AHeap → Prop)  {I : Nat → List Value → AHeap → Prop} {μ : Nat} : loopQ I μ (blockQ 0 (seqQ (exK Try.prog E_impl_parents (cr (cr (cr (cr (cr (bodyC Try.f83))))))) (retK Try.prog Try.f83 K))) (.exit 0) [.slice sizes_a sizes_n sizes_e, undef, .slice none 0 0, .int .i64 z1_3, .slice vout_a vout_n vout_e, .int .i64 start, .int .i64 b, g7, .slice sizes_a sizes_n sizes_e, .int .i64 (sizes_n : Int), .int .i64 z1_10, .slice (some ⟨b1, 0, none⟩) 0 1, .int .i64 z1_12, g13, g14, g15, g16, g17, g18, g19, g20, g21, g22, g23, g24, g25, g26, g27, g28, g29, g30, g31, g32, g33, g34, g35, g36, g37, g38, g39, g40, g41, g42, g43, g44, g45, g46, g47, g48, g49, g50, g51, g52, g53, g54, g55, g56, g57, undef] H =
  (K (.slice vout_a vout_n vout_e) H) := by kernel_rfl
theorem impl_parents_r2 (b : Int) (b1 : Nat) (b2 : Nat) (f1 : Nat) (g15 : Value) (g16 : Value) (g52 : Value) (g53 : Value) (g54 : Value) (g55 : Value) (g56 : Value) (g57 : Value) (sizes_a : Option Addr) (sizes_e : Nat) (sizes_n : Nat) (start : Int) (x1 : Int) (z1_10 : Int) (z1_12 : Int) (z1_3 : Int) (vout_a : Option Addr) (vout_n : Nat) (vout_e : Nat) (t21 : Int) (g7 g22 g23 g24 g25 g26 g27 g28 g29 g30 g31 g32 g33 g34 g35 g36 g37 g38 g39 g40 g41 g42 g43 g44 g45 g46 g47 g48 g49 g50 g51 : Value) (H : AHeap) (R : Post) : exK Try.prog E_impl_parents (cl (cl (cr (cl (cl (cl (cr (cl (cl (cr (cl (cr (cr (cr (cr (bodyC Try.f83)))))))))))))))) [.slice sizes_a sizes_n sizes_e, undef, .slice none 0 0, .int .i64 z1_3, .slice vout_a vout_n vout_e, .int .i64 start, .int .i64 b, g7, .slice sizes_a sizes_n sizes_e, .int .i64 (sizes_n : Int), .int .i64 z1_10, .slice (some ⟨b1, 0, none⟩) 0 1, .int .i64 z1_12, .int .i64 b, .bool (decide ((0 : Int) ≤ b)), g15, g16, .slice sizes_a sizes_n sizes_e, .int .i64 b, .pointer (some ⟨b2, f1 + (b : Int).toNat * 1, none⟩), .int .i64 x1, .int .i64 t21, g22, g23, g24, g25, g26, g27, g28, g29, g30, g31, g32, g33, g34, g35, g36, g37, g38, g39, g40, g41, g42, g43, g44, g45, g46, g47, g48, g49, g50, g51, g52, g53, g54, g55, g56, g57, undef] H R =
  (Br (decide ((t21 : Int) < x1)) (Br (decide ((IntKind.wrap .i64 (z1_3 - 1) : Int) ≤ b)) (Al [.int .i64 (-1)] H fun b3 H2 => ∃ o1 w1 : List Value, ownB H2 vout_a vout_n vout_e 1 = some o1 ∧ rdS H2 (some ⟨b3, 0, none⟩) (1 * 1) = some w1 ∧ ((vout_a : Option Addr) = none → 0 < (1 : Nat)) ∧ (vout_n : Nat) + 1 < most ∧ Ap H2 (killB H2 vout_a ++ [some ⟨o1 ++ w1, true⟩]) fun b4 H3 => R .normal [.slice sizes_a sizes_n sizes_e, undef, .slice none 0 0, .int .i64 z1_3, .slice (some ⟨b4, 0, none⟩) (vout_n + 1) 1, .int .i64 start, .int .i64 b, .int .i64 t21, .slice sizes_a sizes_n sizes_e, .int .i64 (sizes_n : Int), .int .i64 z1_10, .slice (some ⟨b1, 0, none⟩) 0 1, .int .i64 z1_12, .int .i64 b, .bool (decide ((0 : Int) ≤ b)), g15, g16, .slice sizes_a sizes_n sizes_e, .int .i64 b, .pointer (some ⟨b2, f1 + (b : Int).toNat * 1, none⟩), .int .i64 x1, .int .i64 (IntKind.wrap .i64 (t21 + 1)), .bool (decide ((t21 : Int) < x1)), .int .i64 t21, .int .i64 b, .int .i64 z1_3, .int .i64 (IntKind.wrap .i64 (z1_3 - 1)), .bool (decide ((IntKind.wrap .i64 (z1_3 - 1) : Int) ≤ b)), .slice vout_a vout_n vout_e, .slice (some ⟨b3, 0, none⟩) 1 1, .slice (some ⟨b4, 0, none⟩) (vout_n + 1) 1, g31, g32, g33, g34, g35, g36, g37, g38, g39, g40, g41, g42, g43, g44, g45, g46, g47, g48, g49, g50, .int .i64 (IntKind.wrap .i64 (t21 + 1)), g52, g53, g54, g55, g56, g57, undef] H3) ((0 : Int) ≤ IntKind.wrap .i64 (b + 1) ∧ IntKind.wrap .i64 (b + 1) < (sizes_n : Int) ∧ ∃ b5 f2, (sizes_a : Option Addr) = some ⟨b5, f2, none⟩ ∧ ∃ x2 : Int,  rdC H b5 (f2 + (IntKind.wrap .i64 (b + 1) : Int).toNat * 1) = some (.int .i64 x2) ∧ 2 ≠ (0 : Int) ∧ (0 : Int) ≤ IntKind.wrap .i64 (b + 1) ∧ IntKind.wrap .i64 (b + 1) < (sizes_n : Int) ∧ ∃ b6 f3, (sizes_a : Option Addr) = some ⟨b6, f3, none⟩ ∧ ∃ x3 : Int,  rdC H b6 (f3 + (IntKind.wrap .i64 (b + 1) : Int).toNat * 1) = some (.int .i64 x3) ∧ Al [.int .i64 (IntKind.wrap .i64 ((IntKind.wrap .i64 (start - x2)) + ((if (IntKind.wrap .i64 (x3 - 1) : Int) < IntKind.wrap .i64 (Int.tdiv t21 2) then IntKind.wrap .i64 (x3 - 1) else IntKind.wrap .i64 (Int.tdiv t21 2)))))] H fun b7 H4 => ∃ o2 w2 : List Value, ownB H4 vout_a vout_n vout_e 1 = some o2 ∧ rdS H4 (some ⟨b7, 0, none⟩) (1 * 1) = some w2 ∧ ((vout_a : Option Addr) = none → 0 < (1 : Nat)) ∧ (vout_n : Nat) + 1 < most ∧ Ap H4 (killB H4 vout_a ++ [some ⟨o2 ++ w2, true⟩]) fun b8 H5 => R .normal [.slice sizes_a sizes_n sizes_e, undef, .slice none 0 0, .int .i64 z1_3, .slice (some ⟨b8, 0, none⟩) (vout_n + 1) 1, .int .i64 start, .int .i64 b, .int .i64 t21, .slice sizes_a sizes_n sizes_e, .int .i64 (sizes_n : Int), .int .i64 z1_10, .slice (some ⟨b1, 0, none⟩) 0 1, .int .i64 z1_12, .int .i64 b, .bool (decide ((0 : Int) ≤ b)), g15, g16, .slice sizes_a sizes_n sizes_e, .int .i64 b, .pointer (some ⟨b2, f1 + (b : Int).toNat * 1, none⟩), .int .i64 x1, .int .i64 (IntKind.wrap .i64 (t21 + 1)), .bool (decide ((t21 : Int) < x1)), .int .i64 t21, .int .i64 b, .int .i64 z1_3, .int .i64 (IntKind.wrap .i64 (z1_3 - 1)), .bool (decide ((IntKind.wrap .i64 (z1_3 - 1) : Int) ≤ b)), g28, g29, g30, .slice vout_a vout_n vout_e, .int .i64 start, .slice sizes_a sizes_n sizes_e, .int .i64 b, .int .i64 (IntKind.wrap .i64 (b + 1)), .pointer (some ⟨b5, f2 + (IntKind.wrap .i64 (b + 1) : Int).toNat * 1, none⟩), .int .i64 x2, .int .i64 (IntKind.wrap .i64 (start - x2)), .int .i64 t21, .int .i64 (IntKind.wrap .i64 (Int.tdiv t21 2)), .slice sizes_a sizes_n sizes_e, .int .i64 b, .int .i64 (IntKind.wrap .i64 (b + 1)), .pointer (some ⟨b6, f3 + (IntKind.wrap .i64 (b + 1) : Int).toNat * 1, none⟩), .int .i64 x3, .int .i64 (IntKind.wrap .i64 (x3 - 1)), .int .i64 ((if (IntKind.wrap .i64 (x3 - 1) : Int) < IntKind.wrap .i64 (Int.tdiv t21 2) then IntKind.wrap .i64 (x3 - 1) else IntKind.wrap .i64 (Int.tdiv t21 2))), .int .i64 (IntKind.wrap .i64 ((IntKind.wrap .i64 (start - x2)) + ((if (IntKind.wrap .i64 (x3 - 1) : Int) < IntKind.wrap .i64 (Int.tdiv t21 2) then IntKind.wrap .i64 (x3 - 1) else IntKind.wrap .i64 (Int.tdiv t21 2))))), .slice (some ⟨b7, 0, none⟩) 1 1, .slice (some ⟨b8, 0, none⟩) (vout_n + 1) 1, .int .i64 (IntKind.wrap .i64 (t21 + 1)), g52, g53, g54, g55, g56, g57, undef] H5)) (R (.exit 2) [.slice sizes_a sizes_n sizes_e, undef, .slice none 0 0, .int .i64 z1_3, .slice vout_a vout_n vout_e, .int .i64 start, .int .i64 b, g7, .slice sizes_a sizes_n sizes_e, .int .i64 (sizes_n : Int), .int .i64 z1_10, .slice (some ⟨b1, 0, none⟩) 0 1, .int .i64 z1_12, .int .i64 b, .bool (decide ((0 : Int) ≤ b)), g15, g16, .slice sizes_a sizes_n sizes_e, .int .i64 b, .pointer (some ⟨b2, f1 + (b : Int).toNat * 1, none⟩), .int .i64 x1, .int .i64 t21, .bool (decide ((t21 : Int) < x1)), g23, g24, g25, g26, g27, g28, g29, g30, g31, g32, g33, g34, g35, g36, g37, g38, g39, g40, g41, g42, g43, g44, g45, g46, g47, g48, g49, g50, g51, g52, g53, g54, g55, g56, g57, undef] H)) := by kernel_rfl
def impl_parents_I2 (b : Int) (b1 : Nat) (b2 : Nat) (f1 : Nat) (g15 : Value) (g16 : Value) (g52 : Value) (g53 : Value) (g54 : Value) (g55 : Value) (g56 : Value) (g57 : Value) (sizes_a : Option Addr) (sizes_e : Nat) (sizes_n : Nat) (start : Int) (x1 : Int) (z1_10 : Int) (z1_12 : Int) (z1_3 : Int) (Inv : Nat → (Option Addr) → Nat → Nat → Int → AHeap → Prop) : Nat → List Value → AHeap → Prop := fun μ tm H => ∃ (vout_a : Option Addr), ∃ (vout_n : Nat), ∃ (vout_e : Nat), ∃ (t21 : Int), ∃ g7 g22 g23 g24 g25 g26 g27 g28 g29 g30 g31 g32 g33 g34 g35 g36 g37 g38 g39 g40 g41 g42 g43 g44 g45 g46 g47 g48 g49 g50 g51, tm = [.slice sizes_a sizes_n sizes_e, undef, .slice none 0 0, .int .i64 z1_3, .slice vout_a vout_n vout_e, .int .i64 start, .int .i64 b, g7, .slice sizes_a sizes_n sizes_e, .int .i64 (sizes_n : Int), .int .i64 z1_10, .slice (some ⟨b1, 0, none⟩) 0 1, .int .i64 z1_12, .int .i64 b, .bool (decide ((0 : Int) ≤ b)), g15, g16, .slice sizes_a sizes_n sizes_e, .int .i64 b, .pointer (some ⟨b2, f1 + (b : Int).toNat * 1, none⟩), .int .i64 x1, .int .i64 t21, g22, g23, g24, g25, g26, g27, g28, g29, g30, g31, g32, g33, g34, g35, g36, g37, g38, g39, g40, g41, g42, g43, g44, g45, g46, g47, g48, g49, g50, g51, g52, g53, g54, g55, g56, g57, undef] ∧ Inv μ vout_a vout_n vout_e t21 H
theorem impl_parents_L2 (b : Int) (b1 : Nat) (b2 : Nat) (f1 : Nat) (g15 : Value) (g16 : Value) (g52 : Value) (g53 : Value) (g54 : Value) (g55 : Value) (g56 : Value) (g57 : Value) (sizes_a : Option Addr) (sizes_e : Nat) (sizes_n : Nat) (start : Int) (x1 : Int) (z1_10 : Int) (z1_12 : Int) (z1_3 : Int) {Q : Post} (Inv : Nat → (Option Addr) → Nat → Nat → Int → AHeap → Prop) (ν : Nat) (vout_a : Option Addr) (vout_n : Nat) (vout_e : Nat) (t21 : Int) (g7 g22 g23 g24 g25 g26 g27 g28 g29 g30 g31 g32 g33 g34 g35 g36 g37 g38 g39 g40 g41 g42 g43 g44 g45 g46 g47 g48 g49 g50 g51 : Value) (H : AHeap) (h0 : Inv ν vout_a vout_n vout_e t21 H)
    (hs : ∀ (μ : Nat) (vout_a : Option Addr) (vout_n : Nat) (vout_e : Nat) (t21 : Int) (g7 g22 g23 g24 g25 g26 g27 g28 g29 g30 g31 g32 g33 g34 g35 g36 g37 g38 g39 g40 g41 g42 g43 g44 g45 g46 g47 g48 g49 g50 g51 : Value) (H : AHeap), Inv μ vout_a vout_n vout_e t21 H → exK Try.prog E_impl_parents (cl (cl (cr (cl (cl (cl (cr (cl (cl (cr (cl (cr (cr (cr (cr (bodyC Try.f83)))))))))))))))) [.slice sizes_a sizes_n sizes_e, undef, .slice none 0 0, .int .i64 z1_3, .slice vout_a vout_n vout_e, .int .i64 start, .int .i64 b, g7, .slice sizes_a sizes_n sizes_e, .int .i64 (sizes_n : Int), .int .i64 z1_10, .slice (some ⟨b1, 0, none⟩) 0 1, .int .i64 z1_12, .int .i64 b, .bool (decide ((0 : Int) ≤ b)), g15, g16, .slice sizes_a sizes_n sizes_e, .int .i64 b, .pointer (some ⟨b2, f1 + (b : Int).toNat * 1, none⟩), .int .i64 x1, .int .i64 t21, g22, g23, g24, g25, g26, g27, g28, g29, g30, g31, g32, g33, g34, g35, g36, g37, g38, g39, g40, g41, g42, g43, g44, g45, g46, g47, g48, g49, g50, g51, g52, g53, g54, g55, g56, g57, undef] H (loopQ (impl_parents_I2 b b1 b2 f1 g15 g16 g52 g53 g54 g55 g56 g57 sizes_a sizes_e sizes_n start x1 z1_10 z1_12 z1_3 Inv) μ Q)) : loopK (exK Try.prog E_impl_parents (cl (cl (cr (cl (cl (cl (cr (cl (cl (cr (cl (cr (cr (cr (cr (bodyC Try.f83))))))))))))))))) [.slice sizes_a sizes_n sizes_e, undef, .slice none 0 0, .int .i64 z1_3, .slice vout_a vout_n vout_e, .int .i64 start, .int .i64 b, g7, .slice sizes_a sizes_n sizes_e, .int .i64 (sizes_n : Int), .int .i64 z1_10, .slice (some ⟨b1, 0, none⟩) 0 1, .int .i64 z1_12, .int .i64 b, .bool (decide ((0 : Int) ≤ b)), g15, g16, .slice sizes_a sizes_n sizes_e, .int .i64 b, .pointer (some ⟨b2, f1 + (b : Int).toNat * 1, none⟩), .int .i64 x1, .int .i64 t21, g22, g23, g24, g25, g26, g27, g28, g29, g30, g31, g32, g33, g34, g35, g36, g37, g38, g39, g40, g41, g42, g43, g44, g45, g46, g47, g48, g49, g50, g51, g52, g53, g54, g55, g56, g57, undef] H Q :=
  ⟨impl_parents_I2 b b1 b2 f1 g15 g16 g52 g53 g54 g55 g56 g57 sizes_a sizes_e sizes_n start x1 z1_10 z1_12 z1_3 Inv, ν, ⟨vout_a, vout_n, vout_e, t21, g7, g22, g23, g24, g25, g26, g27, g28, g29, g30, g31, g32, g33, g34, g35, g36, g37, g38, g39, g40, g41, g42, g43, g44, g45, g46, g47, g48, g49, g50, g51, rfl, h0⟩, fun μ tm H h => by obtain ⟨vout_a, vout_n, vout_e, t21, g7, g22, g23, g24, g25, g26, g27, g28, g29, g30, g31, g32, g33, g34, g35, g36, g37, g38, g39, g40, g41, g42, g43, g44, g45, g46, g47, g48, g49, g50, g51, rfl, hI⟩ := h; exact hs μ vout_a vout_n vout_e t21 g7 g22 g23 g24 g25 g26 g27 g28 g29 g30 g31 g32 g33 g34 g35 g36 g37 g38 g39 g40 g41 g42 g43 g44 g45 g46 g47 g48 g49 g50 g51 H hI⟩
theorem impl_parents_n2 {b : Int} {b1 : Nat} {b2 : Nat} {f1 : Nat} {g15 : Value} {g16 : Value} {g52 : Value} {g53 : Value} {g54 : Value} {g55 : Value} {g56 : Value} {g57 : Value} {sizes_a : Option Addr} {sizes_e : Nat} {sizes_n : Nat} {start : Int} {x1 : Int} {z1_10 : Int} {z1_12 : Int} {z1_3 : Int} {Q : Post} {Inv : Nat → (Option Addr) → Nat → Nat → Int → AHeap → Prop} {μ : Nat} (μ' : Nat) {vout_a : Option Addr} {vout_n : Nat} {vout_e : Nat} {t21 : Int} {g7 g22 g23 g24 g25 g26 g27 g28 g29 g30 g31 g32 g33 g34 g35 g36 g37 g38 g39 g40 g41 g42 g43 g44 g45 g46 g47 g48 g49 g50 g51 : Value} {H : AHeap} (hm : μ' < μ) (hI : Inv μ' vout_a vout_n vout_e t21 H) : loopQ (impl_parents_I2 b b1 b2 f1 g15 g16 g52 g53 g54 g55 g56 g57 sizes_a sizes_e sizes_n start x1 z1_10 z1_12 z1_3 Inv) μ Q .normal [.slice sizes_a sizes_n sizes_e, undef, .slice none 0 0, .int .i64 z1_3, .slice vout_a vout_n vout_e, .int .i64 start, .int .i64 b, g7, .slice sizes_a sizes_n sizes_e, .int .i64 (sizes_n : Int), .int .i64 z1_10, .slice (some ⟨b1, 0, none⟩) 0 1, .int .i64 z1_12, .int .i64 b, .bool (decide ((0 : Int) ≤ b)), g15, g16, .slice sizes_a sizes_n sizes_e, .int .i64 b, .pointer (some ⟨b2, f1 + (b : Int).toNat * 1, none⟩), .int .i64 x1, .int .i64 t21, g22, g23, g24, g25, g26, g27, g28, g29, g30, g31, g32, g33, g34, g35, g36, g37, g38, g39, g40, g41, g42, g43, g44, g45, g46, g47, g48, g49, g50, g51, g52, g53, g54, g55, g56, g57, undef] H := ⟨μ', hm, vout_a, vout_n, vout_e, t21, g7, g22, g23, g24, g25, g26, g27, g28, g29, g30, g31, g32, g33, g34, g35, g36, g37, g38, g39, g40, g41, g42, g43, g44, g45, g46, g47, g48, g49, g50, g51, rfl, hI⟩
theorem impl_parents_x2_2 (b : Int) (b1 : Nat) (b2 : Nat) (f1 : Nat) (g15 : Value) (g16 : Value) (g52 : Value) (g53 : Value) (g54 : Value) (g55 : Value) (g56 : Value) (g57 : Value) (sizes_a : Option Addr) (sizes_e : Nat) (sizes_n : Nat) (start : Int) (x1 : Int) (z1_10 : Int) (z1_12 : Int) (z1_3 : Int) (vout_a : Option Addr) (vout_n : Nat) (vout_e : Nat) (t21 : Int) (g7 g22 g23 g24 g25 g26 g27 g28 g29 g30 g31 g32 g33 g34 g35 g36 g37 g38 g39 g40 g41 g42 g43 g44 g45 g46 g47 g48 g49 g50 g51 : Value) (H : AHeap)  (R : Post) {I : Nat → List Value → AHeap → Prop} {μ : Nat} : loopQ I μ (blockQ 2 (seqQ (exK Try.prog E_impl_parents (cr (cl (cl (cr (cl (cl (cr (cl (cr (cr (cr (cr (bodyC Try.f83)))))))))))))) (blockQ 1 (seqQ (exK Try.prog E_impl_parents (cr (cr (cl (cl (cr (cl (cr (cr (cr (cr (bodyC Try.f83)))))))))))) (R))))) (.exit 2) [.slice sizes_a sizes_n sizes_e, undef, .slice none 0 0, .int .i64 z1_3, .slice vout_a vout_n vout_e, .int .i64 start, .int .i64 b, g7, .slice sizes_a sizes_n sizes_e, .int .i64 (sizes_n : Int), .int .i64 z1_10, .slice (some ⟨b1, 0, none⟩) 0 1, .int .i64 z1_12, .int .i64 b, .bool (decide ((0 : Int) ≤ b)), g15, g16, .slice sizes_a sizes_n sizes_e, .int .i64 b, .pointer (some ⟨b2, f1 + (b : Int).toNat * 1, none⟩), .int .i64 x1, .int .i64 t21, g22, g23, g24, g25, g26, g27, g28, g29, g30, g31, g32, g33, g34, g35, g36, g37, g38, g39, g40, g41, g42, g43, g44, g45, g46, g47, g48, g49, g50, g51, g52, g53, g54, g55, g56, g57, undef] H =
  ((0 : Int) ≤ b ∧ b < (sizes_n : Int) ∧ ∃ b9 f4, (sizes_a : Option Addr) = some ⟨b9, f4, none⟩ ∧ ∃ x4 : Int,  rdC H b9 (f4 + (b : Int).toNat * 1) = some (.int .i64 x4) ∧ R .normal [.slice sizes_a sizes_n sizes_e, undef, .slice none 0 0, .int .i64 z1_3, .slice vout_a vout_n vout_e, .int .i64 (IntKind.wrap .i64 (start + x4)), .int .i64 (IntKind.wrap .i64 (b - 1)), g7, .slice sizes_a sizes_n sizes_e, .int .i64 (sizes_n : Int), .int .i64 z1_10, .slice (some ⟨b1, 0, none⟩) 0 1, .int .i64 z1_12, .int .i64 b, .bool (decide ((0 : Int) ≤ b)), .int .i64 b, .int .i64 (IntKind.wrap .i64 (b - 1)), .slice sizes_a sizes_n sizes_e, .int .i64 b, .pointer (some ⟨b2, f1 + (b : Int).toNat * 1, none⟩), .int .i64 x1, .int .i64 t21, g22, g23, g24, g25, g26, g27, g28, g29, g30, g31, g32, g33, g34, g35, g36, g37, g38, g39, g40, g41, g42, g43, g44, g45, g46, g47, g48, g49, g50, g51, .int .i64 start, .slice sizes_a sizes_n sizes_e, .int .i64 b, .pointer (some ⟨b9, f4 + (b : Int).toNat * 1, none⟩), .int .i64 x4, .int .i64 (IntKind.wrap .i64 (start + x4)), undef] H) := by kernel_rfl
theorem E_impl_parents_ok : ∀ g, FnOk Try.prog g (E_impl_parents g) := FnOk.envOf (by
  intro x hx; cases hx)
set_option maxHeartbeats 1000000 in
theorem impl_parents_main (sizes_a : Option Addr) (sizes_n : Nat) (sizes_e : Nat) (H : AHeap) (K : Value → AHeap → Prop) (h : T_impl_parents sizes_a sizes_n sizes_e H fun (r1_a : Option Addr) (r1_n : Nat) (r1_e : Nat) (H' : AHeap) => K (.slice r1_a r1_n r1_e) H') : bodyK Try.prog E_impl_parents Try.f83 [.slice sizes_a sizes_n sizes_e] H K := by
  rw [impl_parents_vc]
  obtain ⟨l_sizes, i_sizes, bd_97, pr0, pr1, hk⟩ := h
  obtain rfl := i_sizes.eqn
  have e : (p_impl_parents l_sizes) = _ := rfl
  have e := e.trans (p_impl_parents_eq l_sizes)
  have g0 := Grow.refl H
  rw [show IntKind.wrap .i64 ((l_sizes.length : Int) - 1) = ((l_sizes.length : Int) - 1) from wrap64 (by omega) (by omega)]
  refine Al.intro (fun b_1 H_1 hb_2 hl_3 g_4 o_5 => ?_)
  have o_5 : Own H_1 b_1 ((([] : List Int)).map fI) := o_5
  have l_7 := g_4.1
  have g_8 := g0.trans g_4
  have l_9 := g_8.1
  have w_96 := o_5.lt
  refine impl_parents_L1 _ _ _ _ _ _ _ (fun (μ : Nat) (vout_a : Option Addr) (vout_n : Nat) (vout_e : Nat) (start : Int) (b : Int) (H_2 : AHeap) => ∃ (l_vout : List Int), ∃ (b_10 : Nat), vout_a = some ⟨b_10, 0, none⟩ ∧ vout_n = l_vout.length ∧ vout_e = 1 ∧ Own H_2 b_10 (l_vout.map fI) ∧ Grow H H_2 ∧ H.length ≤ b_10 ∧ b ≤ (((l_sizes.length : Int) - 1)) ∧ (l_vout.length : Int) ≤ 128 * ((l_sizes.length : Int) - 1 - b) ∧ b - 0 + 1 ≤ (μ : Int) ∧ p_impl_parents l_sizes = p_impl_parents_l1 l_sizes (μ + 1) l_vout start b) (Int.toNat (((((l_sizes.length : Int) - 1))) - 0 + 1)) _ _ _ _ _ _ _ _ _ _ _ _ _ _ _ _ _ _ _ _ _ _ _ _ _ _ _ _ _ _ _ _ _ _ _ _ _ _ _ _ _ _ _ _ _ _ _ _ _ _ _ H_1 ?_ ?_
  · exact ⟨_, _, rfl, (by first | rfl | omega | (simp only [List.length_set]; done) | (simp only [List.length_set, List.length_replicate]; omega)), rfl, o_5, g_8, (by omega), (by first | omega | (simp; done) | (simp; omega)), (by first | omega | (simp; done) | (simp; omega)), (by omega), e⟩
  · intro μ vout_a vout_n vout_e start b g7 g13 g14 g15 g16 g17 g18 g19 g20 g21 g22 g23 g24 g25 g26 g27 g28 g29 g30 g31 g32 g33 g34 g35 g36 g37 g38 g39 g40 g41 g42 g43 g44 g45 g46 g47 g48 g49 g50 g51 g52 g53 g54 g55 g56 g57 H_2 hI
    obtain ⟨l_vout, b_10, rfl, rfl, rfl, o_11, g_12, l_13, v_14, v_15, hμ, e⟩ := hI
    rw [impl_parents_r1]
    have e := e.trans (p_impl_parents_l1_s l_sizes μ l_vout start b)
    have w_16 := o_11.lt
    have l_17 := g_12.1
    refine Br.intro (fun c_18 => ?_) (fun c_18 => ?_)
    · have e := e.trans (cond_t c_18)
      have c_18' := of_decide_eq_true c_18
      obtain ⟨b_19, f_20, q_21⟩ := ((i_sizes.grow g_12)).pos (by first | omega | (simp only [List.length_set, List.length_replicate, List.length_append, List.length_cons, List.length_nil, List.length_take, List.length_drop, marks_length]; done) | (simp only [List.length_set, List.length_replicate, List.length_append, List.length_cons, List.length_nil, List.length_take, List.length_drop, marks_length]; omega))
      refine ⟨by omega, by omega, b_19, f_20, q_21, ?_⟩
      refine ⟨((l_sizes).getD (b : Int).toNat 0), (i_sizes).rd g_12 q_21 (by omega) _, ?_⟩
      have z_22 := pr1 (b : Int).toNat
      refine impl_parents_L2 _ _ _ _ _ _ _ _ _ _ _ _ _ _ _ _ _ _ _ _ (fun (μ2 : Nat) (vout_a : Option Addr) (vout_n : Nat) (vout_e : Nat) (t21 : Int) (H_3 : AHeap) => ∃ (l_vout_2 : List Int), ∃ (b_23 : Nat), vout_a = some ⟨b_23, 0, none⟩ ∧ vout_n = l_vout_2.length ∧ vout_e = 1 ∧ Own H_3 b_23 (l_vout_2.map fI) ∧ Grow H H_3 ∧ H.length ≤ b_23 ∧ (0 : Int) ≤ t21 ∧ ((t21 ≤ ((l_sizes).getD (b : Int).toNat 0) ∨ t21 ≤ (0 : Int))) ∧ (l_vout_2.length : Int) ≤ t21 - (0 : Int) + l_vout.length ∧ (l_vout.length : Int) ≤ 128 * ((l_sizes.length : Int) - 1 - b) + t21 ∧ ((l_sizes).getD (b : Int).toNat 0) - t21 ≤ (μ2 : Int) ∧ p_impl_parents l_sizes = p_impl_parents_l2 l_sizes l_vout start b (fun (l_vout_2 : List Int) (t21 : Int) => (p_impl_parents_l1 l_sizes μ l_vout_2 (IntKind.wrap .i64 (start + (((l_sizes).getD (b : Int).toNat 0)))) (b - 1))) (μ2 + 1) l_vout_2 t21) (Int.toNat (((l_sizes).getD (b : Int).toNat 0) - (0 : Int))) _ _ _ _ _ _ _ _ _ _ _ _ _ _ _ _ _ _ _ _ _ _ _ _ _ _ _ _ _ _ _ _ _ _ _ H_2 ?_ ?_
      · exact ⟨_, _, rfl, (by first | rfl | omega | (simp only [List.length_set]; done) | (simp only [List.length_set, List.length_replicate]; omega)), rfl, o_11, g_12, (by omega), (by first | omega | (simp; done) | (simp; omega)), (by first | omega | (simp; done) | (simp; omega)), (by first | omega | (simp; done) | (simp; omega)), (by first | omega | (simp; done) | (simp; omega)), (by omega), e⟩
      · intro μ2 vout_a vout_n vout_e t21 g7 g22 g23 g24 g25 g26 g27 g28 g29 g30 g31 g32 g33 g34 g35 g36 g37 g38 g39 g40 g41 g42 g43 g44 g45 g46 g47 g48 g49 g50 g51 H_3 hI
        obtain ⟨l_vout_2, b_23, rfl, rfl, rfl, o_24, g_25, l_26, v_27, v_28, v_29, v_30, hμ, e⟩ := hI
        rw [impl_parents_r2]
        have e := e.trans (p_impl_parents_l2_s l_sizes l_vout start b (fun (l_vout_2 : List Int) (t21 : Int) => (p_impl_parents_l1 l_sizes μ l_vout_2 (IntKind.wrap .i64 (start + (((l_sizes).getD (b : Int).toNat 0)))) (b - 1))) μ2 l_vout_2 t21)
        have w_31 := o_24.lt
        have l_32 := g_25.1
        refine Br.intro (fun c_33 => ?_) (fun c_33 => ?_)
        · have e := e.trans (cond_t c_33)
          have c_33' := of_decide_eq_true c_33
          rw [show IntKind.wrap .i64 ((((l_sizes.length : Int) - 1)) - 1) = ((((l_sizes.length : Int) - 1)) - 1) from wrap64 (by omega) (by omega)]
          refine Br.intro (fun c_34 => ?_) (fun c_34 => ?_)
          · have e := e.trans (cond_t c_34)
            have c_34' := of_decide_eq_true c_34
            refine Al.intro (fun b_35 H_4 hb_36 hl_37 g_38 o_39 => ?_)
            have o_39 : Own H_4 b_35 (([((-1) : Int)]).map fI) := o_39
            have l_41 := g_38.1
            have g_42 := g_25.trans g_38
            have l_43 := g_42.1
            have o_44 := o_24.grow g_38
            have w_45 := o_44.lt
            have w_58 := o_39.lt
            refine ⟨_, _, o_44.ownB (by first | (simp only [List.length_map, List.length_cons, List.length_nil, List.length_append]; done) | (simp only [List.length_map, List.length_cons, List.length_nil, List.length_append]; omega)) rfl, (isl_rdS (o_39.isL (by first | rfl | omega | (simp only [List.length_set]; done) | (simp only [List.length_set, List.length_replicate]; omega)))), (fun h => by cases h), (by have := most_eq; omega), ?_⟩
            refine Ap.app o_44 rfl rfl (fun b_50 H_5 q_56 hl_46 o_47 k_48 => ?_)
            have o_47 := map_snoc o_47
            have l_51 := k_48.1
            have g_52 := g_42.keep (b := b_23) (by omega) k_48
            have l_53 := g_52.1
            have o_54 := o_39.keep (by omega) k_48
            have w_55 := o_54.lt
            have w_57 := o_47.lt
            rw [show IntKind.wrap .i64 (t21 + 1) = (t21 + 1) from wrap64 (by omega) (by omega)]
            refine impl_parents_n2 (μ2 - 1) (by first | omega) ⟨_, _, rfl, (by first | (simp only [List.length_append, List.length_cons, List.length_nil]; done) | (simp only [List.length_append, List.length_cons, List.length_nil]; omega) | (simp only [List.length_append, List.length_cons, List.length_nil, List.length_take, List.length_drop]; omega)), rfl, o_47, g_52, (by omega), (by first | omega | (simp only [List.length_append, List.length_cons, List.length_nil, List.length_set]; done) | (simp only [List.length_append, List.length_cons, List.length_nil, List.length_set]; omega)), (by first | omega | (simp only [List.length_append, List.length_cons, List.length_nil, List.length_set]; done) | (simp only [List.length_append, List.length_cons, List.length_nil, List.length_set]; omega)), (by first | omega | (simp only [List.length_append, List.length_cons, List.length_nil, List.length_set]; done) | (simp only [List.length_append, List.length_cons, List.length_nil, List.length_set]; omega)), (by first | omega | (simp only [List.length_append, List.length_cons, List.length_nil, List.length_set]; done) | (simp only [List.length_append, List.length_cons, List.length_nil, List.length_set]; omega)), (by first | omega), (by rw [show μ2 - 1 + 1 = μ2 from by first | omega]; exact e)⟩
          · have e := e.trans (cond_f c_34)
            have c_34' := of_decide_eq_false c_34
            rw [show IntKind.wrap .i64 (b + 1) = (b + 1) from wrap64 (by omega) (by omega)]
            obtain ⟨b_59, f_60, q_61⟩ := ((i_sizes.grow g_25)).pos (by first | omega | (simp only [List.length_set, List.length_replicate, List.length_append, List.length_cons, List.length_nil, List.length_take, List.length_drop, marks_length]; done) | (simp only [List.length_set, List.length_replicate, List.length_append, List.length_cons, List.length_nil, List.length_take, List.length_drop, marks_length]; omega))
            refine ⟨by omega, by omega, b_59, f_60, q_61, ?_⟩
            refine ⟨((l_sizes).getD ((b + 1) : Int).toNat 0), (i_sizes).rd g_25 q_61 (by omega) _, ?_⟩
            have z_62 := pr1 ((b + 1) : Int).toNat
            have z_63 := tdiv_nn t21 2
            refine ⟨(by first | omega | decide | (simp; done) | (simp; omega)), ?_⟩
            obtain ⟨b_64, f_65, q_66⟩ := ((i_sizes.grow g_25)).pos (by first | omega | (simp only [List.length_set, List.length_replicate, List.length_append, List.length_cons, List.length_nil, List.length_take, List.length_drop, marks_length]; done) | (simp only [List.length_set, List.length_replicate, List.length_append, List.length_cons, List.length_nil, List.length_take, List.length_drop, marks_length]; omega))
            refine ⟨by omega, by omega, b_64, f_65, q_66, ?_⟩
            refine ⟨((l_sizes).getD ((b + 1) : Int).toNat 0), (i_sizes).rd g_25 q_66 (by omega) _, ?_⟩
            have z_67 := pr1 ((b + 1) : Int).toNat
            refine Al.intro (fun b_68 H_6 hb_69 hl_70 g_71 o_72 => ?_)
            have o_72 : Own H_6 b_68 (([(IntKind.wrap .i64 ((IntKind.wrap .i64 (start - (((l_sizes).getD ((b + 1) : Int).toNat 0)))) + ((if (IntKind.wrap .i64 ((((l_sizes).getD ((b + 1) : Int).toNat 0)) - 1) : Int) < IntKind.wrap .i64 (Int.tdiv t21 2) then IntKind.wrap .i64 ((((l_sizes).getD ((b + 1) : Int).toNat 0)) - 1) else IntKind.wrap .i64 (Int.tdiv t21 2)))) : Int)]).map fI) := o_72
            have l_74 := g_71.1
            have g_75 := g_25.trans g_71
            have l_76 := g_75.1
            have o_77 := o_24.grow g_71
            have w_78 := o_77.lt
            have w_91 := o_72.lt
            refine ⟨_, _, o_77.ownB (by first | (simp only [List.length_map, List.length_cons, List.length_nil, List.length_append]; done) | (simp only [List.length_map, List.length_cons, List.length_nil, List.length_append]; omega)) rfl, (isl_rdS (o_72.isL (by first | rfl | omega | (simp only [List.length_set]; done) | (simp only [List.length_set, List.length_replicate]; omega)))), (fun h => by cases h), (by have := most_eq; omega), ?_⟩
            refine Ap.app o_77 rfl rfl (fun b_83 H_7 q_89 hl_79 o_80 k_81 => ?_)
            have o_80 := map_snoc o_80
            have l_84 := k_81.1
            have g_85 := g_75.keep (b := b_23) (by omega) k_81
            have l_86 := g_85.1
            have o_87 := o_72.keep (by omega) k_81
            have w_88 := o_87.lt
            have w_90 := o_80.lt
            rw [show IntKind.wrap .i64 (t21 + 1) = (t21 + 1) from wrap64 (by omega) (by omega)]
            refine impl_parents_n2 (μ2 - 1) (by first | omega) ⟨_, _, rfl, (by first | (simp only [List.length_append, List.length_cons, List.length_nil]; done) | (simp only [List.length_append, List.length_cons, List.length_nil]; omega) | (simp only [List.length_append, List.length_cons, List.length_nil, List.length_take, List.length_drop]; omega)), rfl, o_80, g_85, (by omega), (by first | omega | (simp only [List.length_append, List.length_cons, List.length_nil, List.length_set]; done) | (simp only [List.length_append, List.length_cons, List.length_nil, List.length_set]; omega)), (by first | omega | (simp only [List.length_append, List.length_cons, List.length_nil, List.length_set]; done) | (simp only [List.length_append, List.length_cons, List.length_nil, List.length_set]; omega)), (by first | omega | (simp only [List.length_append, List.length_cons, List.length_nil, List.length_set]; done) | (simp only [List.length_append, List.length_cons, List.length_nil, List.length_set]; omega)), (by first | omega | (simp only [List.length_append, List.length_cons, List.length_nil, List.length_set]; done) | (simp only [List.length_append, List.length_cons, List.length_nil, List.length_set]; omega)), (by first | omega), (by rw [show μ2 - 1 + 1 = μ2 from by first | omega]; exact e)⟩
        · have e := e.trans (cond_f c_33)
          have c_33' := of_decide_eq_false c_33
          rw [impl_parents_x2_2]
          obtain ⟨b_92, f_93, q_94⟩ := ((i_sizes.grow g_25)).pos (by first | omega | (simp only [List.length_set, List.length_replicate, List.length_append, List.length_cons, List.length_nil, List.length_take, List.length_drop, marks_length]; done) | (simp only [List.length_set, List.length_replicate, List.length_append, List.length_cons, List.length_nil, List.length_take, List.length_drop, marks_length]; omega))
          refine ⟨by omega, by omega, b_92, f_93, q_94, ?_⟩
          refine ⟨((l_sizes).getD (b : Int).toNat 0), (i_sizes).rd g_25 q_94 (by omega) _, ?_⟩
          have z_95 := pr1 (b : Int).toNat
          rw [show IntKind.wrap .i64 (b - 1) = (b - 1) from wrap64 (by omega) (by omega)]
          refine impl_parents_n1 (μ - 1) (by first | omega) ⟨_, _, rfl, (by first | rfl | omega | (simp only [List.length_set]; done) | (simp only [List.length_set, List.length_replicate]; omega)), rfl, o_24, g_25, (by omega), (by first | omega | (simp only [List.length_append, List.length_cons, List.length_nil, List.length_set]; done) | (simp only [List.length_append, List.length_cons, List.length_nil, List.length_set]; omega)), (by first | omega | (simp only [List.length_append, List.length_cons, List.length_nil, List.length_set]; done) | (simp only [List.length_append, List.length_cons, List.length_nil, List.length_set]; omega)), (by first | omega), (by rw [show μ - 1 + 1 = μ from by first | omega]; exact e)⟩
    · have e := e.trans (cond_f c_18)
      have c_18' := of_decide_eq_false c_18
      rw [impl_parents_x1_0]
      rw [e] at hk
      exact hk _ _ _ H_2 g_12 (o_11.ownS (by first | rfl | omega | (simp only [List.length_set]; done) | (simp only [List.length_set, List.length_replicate]; omega)) (by omega))
theorem impl_parents_ok : FnOk Try.prog 83 S_impl_parents := by
  refine FnOk.body mix_ok E_impl_parents_ok Try.func83 rfl (by kernel_rfl) (by kernel_rfl) ?_ ?_ ?_ ?_ ?_
  · intro args H K K' h hk
    simp only [S_impl_parents] at *
    unfold F_impl_parents at *
    split at hk
    · obtain ⟨l_sizes, i_sizes, bd_97, pr0, pr1, k⟩ := hk
      exact ⟨l_sizes, i_sizes, bd_97, pr0, pr1, (fun r1_a r1_n r1_e H' gg ow0 => h _ _ (k r1_a r1_n r1_e H' gg ow0))⟩
    · exact hk.elim
  · intro hq; cases hq
  · intro args H K hk
    simp only [S_impl_parents] at *
    unfold F_impl_parents at *
    split at hk
    · obtain ⟨l_sizes, i_sizes, bd_97, pr0, pr1, k⟩ := hk
      exact liveS fun a n e H1 g o => ⟨_, _, k a n e H1 g o⟩
    · exact hk.elim
  · intro _ args H K hk
    simp only [S_impl_parents] at *
    unfold F_impl_parents at *
    split at hk
    · obtain ⟨l_sizes, i_sizes, bd_97, pr0, pr1, k⟩ := hk
      exact ⟨l_sizes, i_sizes, bd_97, pr0, pr1, (fun r1_a r1_n r1_e H' gg ow0 => ⟨gg, k r1_a r1_n r1_e H' gg ow0⟩)⟩
    · exact hk.elim
  · have mm := @impl_parents_main
    revert mm
    generalize bodyK Try.prog E_impl_parents Try.f83 = Q
    intro mm args H K hk
    simp only [S_impl_parents] at *
    unfold F_impl_parents at *
    split at hk
    · exact mm _ _ _ H K hk
    · exact hk.elim
def p_impl_parentsOf (n : Int) (levels : Int) : (List Int) × Bool := (bif !((p_impl_BandSizes n levels).2) then ([], false) else ((p_impl_parents ((p_impl_BandSizes n levels).1)), true))
theorem p_impl_parentsOf_eq (n : Int) (levels : Int) : p_impl_parentsOf n levels = (bif !((p_impl_BandSizes n levels).2) then ([], false) else ((p_impl_parents ((p_impl_BandSizes n levels).1)), true)) := rfl
def T_impl_parentsOf (n : Int) (levels : Int) (H : AHeap) (K : (Option Addr) → Nat → Nat → Bool → AHeap → Prop) : Prop := ((∀ (r1_a : Option Addr) (r1_n r1_e : Nat), ∀ H' : AHeap, Grow H H' → OwnS fI H' H.length r1_a r1_n r1_e ((p_impl_parentsOf n levels).1) → K r1_a r1_n r1_e ((p_impl_parentsOf n levels).2) H'))
theorem T_impl_parentsOf_i {n : Int} {levels : Int} {H : AHeap} {K : (Option Addr) → Nat → Nat → Bool → AHeap → Prop} (h : ((∀ (r1_a : Option Addr) (r1_n r1_e : Nat), ∀ H' : AHeap, Grow H H' → OwnS fI H' H.length r1_a r1_n r1_e ((p_impl_parentsOf n levels).1) → K r1_a r1_n r1_e ((p_impl_parentsOf n levels).2) H'))) : T_impl_parentsOf n levels H K := h
def parV (S : List Int) (start : Int) (b : Nat) (t : Nat) : Int := if (S.length : Int) ≤ (b : Int) + 2 then -1 else start - S.getD (b + 1) 0 + (if S.getD (b + 1) 0 - 1 < Int.tdiv (t : Int) 2 then S.getD (b + 1) 0 - 1 else Int.tdiv (t : Int) 2)
theorem impl_par_l2 (S : List Int) (hr : ∀ j : Nat, 0 ≤ S.getD j 0 ∧ S.getD j 0 ≤ 128) (vo : List Int) (start : Int) (h0 : 0 ≤ start) (h1 : start ≤ 2000) (b : Nat) (K : List Int → Int → List Int) (F : List Int → List Int) (hK : ∀ o k, K o k = F o) :
    ∀ (μ : Nat) (o : List Int) (t : Nat), (S.getD b 0).toNat - t < μ → p_impl_parents_l2 S vo start (b : Int) K μ o (t : Int) = F (o ++ (List.range' t ((S.getD b 0).toNat - t)).map (parV S start b)) := by
  intro μ
  induction μ with
  | zero => intro o t h; omega
  | succ μ ih =>
    intro o t h
    have r0 := hr b
    have r1 := hr (b + 1)
    rw [p_impl_parents_l2_s, Int.toNat_natCast, show ((b : Int) + 1).toNat = b + 1 by omega]
    by_cases c : (t : Int) < S.getD b 0
    · rw [decide_eq_true c, cond_true]
      have e1 : (S.getD b 0).toNat - t = ((S.getD b 0).toNat - (t + 1)) + 1 := by omega
      rw [e1, List.range'_succ, List.map_cons]
      have i1 := ih (o ++ [parV S start b t]) (t + 1) (by omega)
      rw [show ((t + 1 : Nat) : Int) = (t : Int) + 1 by omega, List.append_assoc] at i1
      by_cases c2 : (S.length : Int) ≤ (b : Int) + 2
      · have e2 : parV S start b t = -1 := by unfold parV; rw [if_pos c2]
        rw [decide_eq_true (show (S.length : Int) - 1 - 1 ≤ (b : Int) by omega), cond_true]
        rw [e2] at i1 ⊢
        exact i1
      · have tt := tdiv_nn (t : Int) 2 (by omega)
        have e2 : parV S start b t = IntKind.wrap .i64 (IntKind.wrap .i64 (start - S.getD (b + 1) 0) + (if IntKind.wrap .i64 (S.getD (b + 1) 0 - 1) < IntKind.wrap .i64 (Int.tdiv (t : Int) 2) then IntKind.wrap .i64 (S.getD (b + 1) 0 - 1) else IntKind.wrap .i64 (Int.tdiv (t : Int) 2))) := by
          rw [wrap64 (n := start - S.getD (b + 1) 0) (by omega) (by omega), wrap64 (n := Int.tdiv (t : Int) 2) (by omega) (by omega), wrap64 (n := S.getD (b + 1) 0 - 1) (by omega) (by omega)]
          unfold parV
          rw [if_neg c2]
          split
          · rw [wrap64 (by omega) (by omega)]
          · rw [wrap64 (by omega) (by omega)]
        rw [decide_eq_false (show ¬ (S.length : Int) - 1 - 1 ≤ (b : Int) by omega), cond_false]
        rw [e2] at i1 ⊢
        exact i1
    · rw [decide_eq_false c, cond_false, show (S.getD b 0).toNat - t = 0 by omega, hK]
      exact congrArg F (List.append_nil o).symm
theorem app_getD_l {a b : List Int} {i : Nat} (h : i < a.length) : (a ++ b).getD i 0 = a.getD i 0 := by
  rw [List.getD_eq_getElem?_getD, List.getD_eq_getElem?_getD, List.getElem?_append_left h]
theorem app_getD_r {a b : List Int} {i : Nat} (h : a.length ≤ i) : (a ++ b).getD i 0 = b.getD (i - a.length) 0 := by
  rw [List.getD_eq_getElem?_getD, List.getD_eq_getElem?_getD, List.getElem?_append_right h]
theorem map_range_getD (f : Nat → Int) {s i : Nat} (h : i < s) : ((List.range' 0 s).map f).getD i 0 = f i := by
  rw [List.getD_eq_getElem?_getD, List.getElem?_map, List.getElem?_range' h]
  simp
def sumTo (S : List Int) : Nat → Nat
  | 0 => 0
  | b + 1 => (S.getD b 0).toNat + sumTo S b
theorem impl_par_l1 (S : List Int) (hr : ∀ j : Nat, 0 ≤ S.getD j 0 ∧ S.getD j 0 ≤ 128) : ∀ (b μ : Nat) (o : List Int), b < μ → (o.length : Int) ≤ 128 * (8 - (b : Int)) → b ≤ 7 →
    (p_impl_parents_l1 S μ o (o.length : Int) ((b : Int) - 1)).length = o.length + sumTo S b ∧ (∀ i, i < o.length → (p_impl_parents_l1 S μ o (o.length : Int) ((b : Int) - 1)).getD i 0 = o.getD i 0) ∧
    ∀ i : Nat, o.length ≤ i → i < o.length + sumTo S b → (p_impl_parents_l1 S μ o (o.length : Int) ((b : Int) - 1)).getD i 0 = parAt S (i : Int) b (o.length : Int) := by
  intro b
  induction b with
  | zero =>
    intro μ o hm h1 h3
    obtain ⟨μ, rfl⟩ : ∃ j, μ = j + 1 := ⟨μ - 1, by omega⟩
    rw [p_impl_parents_l1_s, decide_eq_false (by omega), cond_false]
    refine ⟨rfl, fun _ _ => rfl, fun i h4 h5 => ?_⟩
    have : sumTo S 0 = 0 := rfl
    omega
  | succ b ih =>
    intro μ o hm h1 h3
    obtain ⟨μ, rfl⟩ : ∃ j, μ = j + 1 := ⟨μ - 1, by omega⟩
    have r0 := hr b
    rw [p_impl_parents_l1_s, show ((b + 1 : Nat) : Int) - 1 = (b : Int) by omega, decide_eq_true (show (0 : Int) ≤ (b : Int) by omega), cond_true, Int.toNat_natCast]
    have l2 := impl_par_l2 S hr o (o.length : Int) (by omega) (by omega) b (fun (l_vout_2 : List Int) (t21 : Int) => p_impl_parents_l1 S μ l_vout_2 (IntKind.wrap .i64 ((o.length : Int) + S.getD b 0)) ((b : Int) - 1)) (fun o' => p_impl_parents_l1 S μ o' (IntKind.wrap .i64 ((o.length : Int) + S.getD b 0)) ((b : Int) - 1)) (fun o' k => rfl) (Int.toNat (S.getD b 0 - (0 : Int)) + 1) o 0 (by omega)
    rw [show ((0 : Nat) : Int) = 0 from rfl] at l2
    rw [l2]
    rw [wrap64 (n := (o.length : Int) + S.getD b 0) (by omega) (by omega), Nat.sub_zero]
    generalize hO : o ++ (List.range' 0 (S.getD b 0).toNat).map (parV S (o.length : Int) b) = O
    have hl : O.length = o.length + (S.getD b 0).toNat := by rw [← hO]; simp
    have e1 : (o.length : Int) + S.getD b 0 = (O.length : Int) := by omega
    rw [e1]
    obtain ⟨i1, i2, i3⟩ := ih μ O (by omega) (by omega) (by omega)
    have hs : sumTo S (b + 1) = (S.getD b 0).toNat + sumTo S b := rfl
    refine ⟨by rw [i1]; omega, fun i hi => ?_, fun i h4 h5 => ?_⟩
    · rw [i2 i (by omega), ← hO, app_getD_l hi]
    · unfold parAt
      by_cases c : (i : Int) < (o.length : Int) + S.getD b 0
      · rw [if_pos c, i2 i (by omega), ← hO, app_getD_r h4, map_range_getD _ (by omega)]
        unfold parV
        rw [show ((i - o.length : Nat) : Int) = (i : Int) - (o.length : Int) by omega]
      · rw [if_neg c, i3 i (by omega) (by omega), e1]
theorem sizes_same (n levels : Int) : ∀ (μ : Nat) (a : Int) (o : List Int) (k : Int), 0 ≤ a → levels - k < μ → 0 < μ → (p_impl_BandSizes_l1 n levels μ a o k).1 = p_spec_l02BandSizes_l1 n levels μ a o k := by
  intro μ
  induction μ with
  | zero => intro a o k _ _ h; omega
  | succ μ ih =>
    intro a o k h0 h _
    rw [p_impl_BandSizes_l1_s, p_spec_l02BandSizes_l1_s]
    by_cases c : k < levels
    · rw [decide_eq_true c, cond_true, cond_true]
      by_cases c2 : 1 < a
      · have t := tdiv_nn a 2 h0
        have t2 := tdiv_nn (a + 1) 2 (by omega)
        rw [decide_eq_true c2, decide_eq_true (show (2 : Int) ≤ a by omega), cond_true, cond_true, show a - Int.tdiv a 2 = Int.tdiv (a + 1) 2 by omega]
        exact ih _ _ _ (by omega) (by omega) (by omega)
      · rw [decide_eq_false c2, decide_eq_false (show ¬ (2 : Int) ≤ a by omega), cond_false, cond_false]
    · rw [decide_eq_false c, cond_false, cond_false]
theorem sumTo_app (S : List Int) (x : Int) : ∀ b, b ≤ S.length → sumTo (S ++ [x]) b = sumTo S b := by
  intro b
  induction b with
  | zero => intro _; rfl
  | succ b ih => intro h; unfold sumTo; rw [ih (by omega), app_getD_l (by omega)]
theorem sumTo_snoc (S : List Int) (x : Int) : sumTo (S ++ [x]) (S ++ [x]).length = x.toNat + sumTo S S.length := by
  rw [List.length_append, List.length_singleton]
  show ((S ++ [x]).getD S.length 0).toNat + sumTo (S ++ [x]) S.length = _
  rw [sumTo_app S x _ (Nat.le_refl _), app_getD_r (Nat.le_refl _), Nat.sub_self]; rfl
theorem sizes_sum (n levels : Int) : ∀ (μ : Nat) (a : Int) (o : List Int) (k : Int), 0 ≤ a → levels - k < μ → 0 < μ → sumTo (p_spec_l02BandSizes_l1 n levels μ a o k) (p_spec_l02BandSizes_l1 n levels μ a o k).length = a.toNat + sumTo o o.length := by
  intro μ
  induction μ with
  | zero => intro a o k _ _ h; omega
  | succ μ ih =>
    intro a o k h0 h _
    rw [p_spec_l02BandSizes_l1_s]
    by_cases c : k < levels
    · rw [decide_eq_true c, cond_true]
      by_cases c2 : 2 ≤ a
      · have t := tdiv_nn a 2 h0
        have t2 := tdiv_nn (a + 1) 2 (by omega)
        rw [decide_eq_true c2, cond_true, ih _ _ _ (by omega) (by omega) (by omega), sumTo_snoc]
        omega
      · rw [decide_eq_false c2, cond_false, sumTo_snoc]
    · rw [decide_eq_false c, cond_false, sumTo_snoc]
theorem par_all {n levels : Int} (h1 : 1 ≤ n) (h2 : n ≤ 128) (h3 : 1 ≤ levels) (h4 : levels ≤ 6) :
    ((p_impl_parents (p_impl_BandSizes n levels).1).length : Int) = n ∧ ∀ i : Nat, (i : Int) < n → (p_impl_parents (p_impl_BandSizes n levels).1).getD i 0 = p_spec_l06Parent n levels (i : Int) ∧ -1 ≤ p_spec_l06Parent n levels (i : Int) ∧ p_spec_l06Parent n levels (i : Int) < (i : Int) := by
  have k1 : p_impl_within n 1 128 = true := by unfold p_impl_within; rw [decide_eq_true h1, decide_eq_true h2]; rfl
  have k2 : p_impl_within levels 1 6 = true := by unfold p_impl_within; rw [decide_eq_true h3, decide_eq_true h4]; rfl
  have hr := impl_BandSizes_rng n levels
  have hlen := impl_BandSizes_len n levels
  have hS : (p_impl_BandSizes n levels).1 = p_spec_l02BandSizes n levels := by
    rw [p_impl_BandSizes_eq, p_spec_l02BandSizes_eq, k1, k2, Bool.not_true, cond_false, cond_false]
    exact sizes_same n levels _ _ _ _ (by omega) (by omega) (by omega)
  have hsum : sumTo (p_spec_l02BandSizes n levels) (p_spec_l02BandSizes n levels).length = n.toNat := by
    rw [p_spec_l02BandSizes_eq]
    exact sizes_sum n levels _ _ _ _ (by omega) (by omega) (by omega)
  rw [hS] at hr hlen ⊢
  generalize hg : p_spec_l02BandSizes n levels = S at hr hlen hsum ⊢
  have e0 : Int.toNat (((((S.length : Int) - 1))) - 0 + 1) = S.length := by omega
  obtain ⟨i1, -, i3⟩ := impl_par_l1 S hr S.length (S.length + 1) [] (by omega) (by simp; omega) hlen
  have e1 : p_impl_parents S = p_impl_parents_l1 S (S.length + 1) [] (([] : List Int).length : Int) ((S.length : Int) - 1) := by
    rw [p_impl_parents_eq, e0]; rfl
  rw [e1]
  refine ⟨by rw [i1, hsum]; simp; omega, fun i hi => ?_⟩
  have e2 : p_spec_l06Parent n levels (i : Int) = parAt S (i : Int) S.length 0 := by
    rw [p_spec_l06Parent_eq, hg, e0]
    exact spec_par n levels (i : Int) S hg hr (by omega) S.length (S.length + 1) 0 0 (by omega) (by omega) (by omega) (by omega) hlen
  rw [e2]
  have b := parAt_rng S hr (i : Int) S.length 0 (by omega) (by omega) (Nat.le_refl _) (by omega)
  refine ⟨?_, b.1, b.2⟩
  exact i3 i (Nat.zero_le _) (by rw [hsum]; simp; omega)
theorem impl_parentsOf_cases (n levels : Int) : p_impl_parentsOf n levels = ([], false) ∨ (1 ≤ n ∧ n ≤ 128 ∧ 1 ≤ levels ∧ levels ≤ 6 ∧ p_impl_parentsOf n levels = (p_impl_parents (p_impl_BandSizes n levels).1, true)) := by
  rw [p_impl_parentsOf_eq]
  cases h : (p_impl_BandSizes n levels).2
  · left; rfl
  · right
    have h' := h
    rw [p_impl_BandSizes_eq] at h'
    cases h1 : p_impl_within n 1 128
    · rw [h1] at h'; cases h'
    · cases h2 : p_impl_within levels 1 6
      · rw [h1, h2] at h'; cases h'
      · have a := impl_within_t h1
        have b := impl_within_t h2
        exact ⟨a.1, a.2, b.1, b.2, rfl⟩
theorem impl_parentsOf_t {n levels : Int} (h : (p_impl_parentsOf n levels).2 = true) : 1 ≤ n ∧ n ≤ 128 ∧ ((p_impl_parentsOf n levels).1.length : Int) = n := by
  rcases impl_parentsOf_cases n levels with e | ⟨a, b, c, d, e⟩
  · rw [e] at h; cases h
  · rw [e]; exact ⟨a, b, (par_all a b c d).1⟩
theorem impl_parentsOf_len (n levels : Int) : (p_impl_parentsOf n levels).1.length ≤ 128 := by
  rcases impl_parentsOf_cases n levels with e | ⟨a, b, c, d, e⟩
  · rw [e]; exact Nat.zero_le _
  · have := (par_all a b c d).1
    rw [e]; show (p_impl_parents (p_impl_BandSizes n levels).1).length ≤ 128; omega
theorem impl_par_rng (n levels j : Int) : 0 ≤ j → j < (((p_impl_parentsOf n levels).1).length : Int) → -1 ≤ ((p_impl_parentsOf n levels).1).getD (j : Int).toNat 0 ∧ ((p_impl_parentsOf n levels).1).getD (j : Int).toNat 0 < j := by
  intro h0 h1
  rcases impl_parentsOf_cases n levels with e | ⟨a, b, c, d, e⟩
  · rw [e] at h1; exact absurd h1 (by simp; omega)
  · rw [e] at h1 ⊢
    have p := par_all a b c d
    have h1 : j < ((p_impl_parents (p_impl_BandSizes n levels).1).length : Int) := h1
    have q := p.2 j.toNat (by omega)
    rw [← q.1] at q
    have q := q.2
    show -1 ≤ (p_impl_parents (p_impl_BandSizes n levels).1).getD j.toNat 0 ∧ (p_impl_parents (p_impl_BandSizes n levels).1).getD j.toNat 0 < j
    omega
/-! impl_parentsOf: function 51 -/
def E_impl_parentsOf : Env := envOf [(82, S_impl_BandSizes), (83, S_impl_parents)]
def F_impl_parentsOf : List Value → AHeap → (Value → AHeap → Prop) → Prop
  | [.int .i64 n, .int .i64 levels], H, K => T_impl_parentsOf n levels H fun (r1_a : Option Addr) (r1_n : Nat) (r1_e : Nat) (r2 : Bool) (H' : AHeap) => K (.tuple #[.slice r1_a r1_n r1_e, .bool r2]) H'
  | _, _, _ => False
def S_impl_parentsOf : FSpec := { F := F_impl_parentsOf, quiet := false, tame := true }
theorem impl_parentsOf_vc (n : Int) (levels : Int) (H : AHeap) (K : Value → AHeap → Prop) : bodyK Try.prog E_impl_parentsOf Try.f51 [.int .i64 n, .int .i64 levels] H K =
  (T_impl_BandSizes n levels H fun (a1 : Option Addr) (r1 : Nat) (r2 : Nat) (r3 : Bool) (H1 : AHeap) => Br (!r3) (K (.tuple #[.slice none 0 0, .bool false]) H1) (T_impl_parents a1 r1 r2 H1 fun (a2 : Option Addr) (r4 : Nat) (r5 : Nat) (H2 : AHeap) => K (.tuple #[.slice a2 r4 r5, .bool true]) H2)) := by kernel_rfl
theorem E_impl_parentsOf_ok : ∀ g, FnOk Try.prog g (E_impl_parentsOf g) := FnOk.envOf (by
  intro x hx
  simp only [List.mem_cons, List.not_mem_nil, or_false] at hx
  rcases hx with rfl | rfl
  · exact impl_BandSizes_ok
  · exact impl_parents_ok)
set_option maxHeartbeats 1000000 in
theorem impl_parentsOf_main (n : Int) (levels : Int) (H : AHeap) (K : Value → AHeap → Prop) (h : T_impl_parentsOf n levels H fun (r1_a : Option Addr) (r1_n : Nat) (r1_e : Nat) (r2 : Bool) (H' : AHeap) => K (.tuple #[.slice r1_a r1_n r1_e, .bool r2]) H') : bodyK Try.prog E_impl_parentsOf Try.f51 [.int .i64 n, .int .i64 levels] H K := by
  rw [impl_parentsOf_vc]
  have hk := h
  unfold T_impl_parentsOf at hk
  have e : (p_impl_parentsOf n levels) = _ := rfl
  have e := e.trans (p_impl_parentsOf_eq n levels)
  have g0 := Grow.refl H
  refine T_impl_BandSizes_i (fun a_1 n_2 e_3 H_1 g_7 r_4 => ?_)
  have z_5 := impl_BandSizes_len n levels
  have z_6 := impl_BandSizes_rng n levels
  have l_8 := g_7.1
  have g_9 := g0.trans g_7
  have l_10 := g_9.1
  obtain rfl := r_4.isL.eqn
  have u_11 := r_4.up
  have u_12 := r_4.lo
  refine Br.intro (fun c_14 => ?_) (fun c_14 => ?_)
  · have e := e.trans (cond_t c_14)
    have c_14n := nf_of_t c_14
    rw [e] at hk
    exact hk _ _ _ H_1 g_9 (OwnS.nil _ _ _ _)
  · have e := e.trans (cond_f c_14)
    have c_14n := nt_of_f c_14
    refine T_impl_parents_i ⟨_, r_4.isL, (by first | omega | (simp only [List.length_set, List.length_replicate, List.length_append, List.length_cons, List.length_nil, List.length_take, List.length_drop, marks_length]; done) | (simp only [List.length_set, List.length_replicate, List.length_append, List.length_cons, List.length_nil, List.length_take, List.length_drop, marks_length]; omega)), (by first | assumption | omega | (simp; omega)), (by first | assumption | omega | (simp; omega)), fun a_15 n_16 e_17 H_2 g_19 r_18 => ?_⟩
    have l_20 := g_19.1
    have g_21 := g_9.trans g_19
    have l_22 := g_21.1
    have r_23 := r_4.grow g_19
    obtain rfl := r_18.isL.eqn
    have u_24 := r_18.up
    have u_25 := r_18.lo
    rw [e] at hk
    exact hk _ _ _ H_2 g_21 (r_18.weak (by omega))
theorem impl_parentsOf_ok : FnOk Try.prog 51 S_impl_parentsOf := by
  refine FnOk.body mix_ok E_impl_parentsOf_ok Try.func51 rfl (by kernel_rfl) (by kernel_rfl) ?_ ?_ ?_ ?_ ?_
  · intro args H K K' h hk
    simp only [S_impl_parentsOf] at *
    unfold F_impl_parentsOf at *
    split at hk
    · have k := hk
      exact fun r1_a r1_n r1_e H' gg ow0 => h _ _ (k r1_a r1_n r1_e H' gg ow0)
    · exact hk.elim
  · intro hq; cases hq
  · intro args H K hk
    simp only [S_impl_parentsOf] at *
    unfold F_impl_parentsOf at *
    split at hk
    · have k := hk
      exact liveS fun a n e H1 g o => ⟨_, _, k a n e H1 g o⟩
    · exact hk.elim
  · intro _ args H K hk
    simp only [S_impl_parentsOf] at *
    unfold F_impl_parentsOf at *
    split at hk
    · have k := hk
      exact fun r1_a r1_n r1_e H' gg ow0 => ⟨gg, k r1_a r1_n r1_e H' gg ow0⟩
    · exact hk.elim
  · have mm := @impl_parentsOf_main
    revert mm
    generalize bodyK Try.prog E_impl_parentsOf Try.f51 = Q
    intro mm args H K hk
    simp only [S_impl_parentsOf] at *
    unfold F_impl_parentsOf at *
    split at hk
    · exact mm _ _ H K hk
    · exact hk.elim
end Go.Proofs.Ytfofkmlohmodeab.Ai
