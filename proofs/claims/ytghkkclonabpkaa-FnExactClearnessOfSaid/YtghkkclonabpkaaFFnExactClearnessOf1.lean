/- What functions of the program come to on the abstract machine, and that they do so; printed by a program of mine around proofs of mine. -/
import Derived.Test.YtghkkclonabpkaaFFnExactClearnessOf0
set_option linter.unusedVariables false
set_option linter.unusedSimpArgs false
set_option maxRecDepth 100000
namespace Go.Proofs.Ytghkkclonabpkaa.Ai
open Go
attribute [local irreducible] bodyK
def p_impl_squares_l1 (l_list : List Nat) : Nat → Nat → Int → Nat
  | 0, _, _ => 0
  | μ + 1, sum, t8 => (bif decide ((t8 : Int) < (l_list.length : Int)) then (p_impl_squares_l1 l_list μ (fadd .f32 sum (fmul .f32 (((l_list).getD (t8 : Int).toNat 0)) (((l_list).getD (t8 : Int).toNat 0)))) (t8 + 1)) else sum)
theorem p_impl_squares_l1_s (l_list : List Nat) (μ : Nat) (sum : Nat) (t8 : Int) : p_impl_squares_l1 l_list (μ + 1) sum t8 = (bif decide ((t8 : Int) < (l_list.length : Int)) then (p_impl_squares_l1 l_list μ (fadd .f32 sum (fmul .f32 (((l_list).getD (t8 : Int).toNat 0)) (((l_list).getD (t8 : Int).toNat 0)))) (t8 + 1)) else sum) := rfl
def p_impl_squares (l_list : List Nat) : Nat := (p_impl_squares_l1 l_list (Int.toNat ((l_list.length : Int) - (0 : Int)) + 1) 0 (0 : Int))
theorem p_impl_squares_eq (l_list : List Nat) : p_impl_squares l_list = (p_impl_squares_l1 l_list (Int.toNat ((l_list.length : Int) - (0 : Int)) + 1) 0 (0 : Int)) := rfl
def T_impl_squares (list_a : Option Addr) (list_n : Nat) (list_e : Nat) (H : AHeap) (K : Nat → AHeap → Prop) : Prop := ∃ (l_list : List Nat), IsL fF H list_a list_n l_list ∧ l_list.length < 1073741824 ∧ K (p_impl_squares l_list) H
theorem T_impl_squares_i {list_a : Option Addr} {list_n : Nat} {list_e : Nat} {H : AHeap} {K : Nat → AHeap → Prop} (h : ∃ (l_list : List Nat), IsL fF H list_a list_n l_list ∧ l_list.length < 1073741824 ∧ K (p_impl_squares l_list) H) : T_impl_squares list_a list_n list_e H K := h

/-! impl_squares: function 79 -/
def E_impl_squares : Env := envOf []
def F_impl_squares : List Value → AHeap → (Value → AHeap → Prop) → Prop
  | [.slice list_a list_n list_e], H, K => T_impl_squares list_a list_n list_e H fun (r1 : Nat) (H' : AHeap) => K (.float .f32 r1) H'
  | _, _, _ => False
def S_impl_squares : FSpec := { F := F_impl_squares, quiet := true, tame := false }
theorem impl_squares_vc (list_a : Option Addr) (list_n : Nat) (list_e : Nat) (H : AHeap) (K : Value → AHeap → Prop) : bodyK Try.prog E_impl_squares Try.f79 [.slice list_a list_n list_e] H K =
  (loopK (exK Try.prog E_impl_squares (cl (cl (cr (cl (cr (cr (bodyC Try.f79)))))))) [.slice list_a list_n list_e, undef, .float .f32 0, .float .f32 0, undef, undef, .slice list_a list_n list_e, .int .i64 (list_n : Int), .int .i64 0, undef, undef, undef, undef, undef, undef, undef, undef, undef, undef] H (blockQ 0 (seqQ (exK Try.prog E_impl_squares (cr (cr (cr (bodyC Try.f79))))) (retK Try.prog Try.f79 K)))) := by kernel_rfl
theorem impl_squares_r1 (list_a : Option Addr) (list_e : Nat) (list_n : Nat) (sum : Nat) (t8 : Int) (g5 g9 g10 g11 g12 g13 g14 g15 g16 g17 : Value) (H : AHeap) (R : Post) : exK Try.prog E_impl_squares (cl (cl (cr (cl (cr (cr (bodyC Try.f79))))))) [.slice list_a list_n list_e, undef, .float .f32 0, .float .f32 sum, undef, g5, .slice list_a list_n list_e, .int .i64 (list_n : Int), .int .i64 t8, g9, g10, g11, g12, g13, g14, g15, g16, g17, undef] H R =
  (Br (decide ((t8 : Int) < (list_n : Int))) ((0 : Int) ≤ t8 ∧ t8 < (list_n : Int) ∧ ∃ b1 f1, (list_a : Option Addr) = some ⟨b1, f1, none⟩ ∧ ∃ x1 : Nat,  rdC H b1 (f1 + (t8 : Int).toNat * 1) = some (.float .f32 x1) ∧ R .normal [.slice list_a list_n list_e, undef, .float .f32 0, .float .f32 (fadd .f32 sum (fmul .f32 x1 x1)), undef, .float .f32 x1, .slice list_a list_n list_e, .int .i64 (list_n : Int), .int .i64 (IntKind.wrap .i64 (t8 + 1)), .bool (decide ((t8 : Int) < (list_n : Int))), .pointer (some ⟨b1, f1 + (t8 : Int).toNat * 1, none⟩), .float .f32 x1, .float .f32 sum, .float .f32 x1, .float .f32 x1, .float .f32 (fmul .f32 x1 x1), .float .f32 (fadd .f32 sum (fmul .f32 x1 x1)), .int .i64 (IntKind.wrap .i64 (t8 + 1)), undef] H) (R (.exit 0) [.slice list_a list_n list_e, undef, .float .f32 0, .float .f32 sum, undef, g5, .slice list_a list_n list_e, .int .i64 (list_n : Int), .int .i64 t8, .bool (decide ((t8 : Int) < (list_n : Int))), g10, g11, g12, g13, g14, g15, g16, g17, undef] H)) := by kernel_rfl
def impl_squares_I1 (list_a : Option Addr) (list_e : Nat) (list_n : Nat) (Inv : Nat → Nat → Int → AHeap → Prop) : Nat → List Value → AHeap → Prop := fun μ tm H => ∃ (sum : Nat), ∃ (t8 : Int), ∃ g5 g9 g10 g11 g12 g13 g14 g15 g16 g17, tm = [.slice list_a list_n list_e, undef, .float .f32 0, .float .f32 sum, undef, g5, .slice list_a list_n list_e, .int .i64 (list_n : Int), .int .i64 t8, g9, g10, g11, g12, g13, g14, g15, g16, g17, undef] ∧ Inv μ sum t8 H
theorem impl_squares_L1 (list_a : Option Addr) (list_e : Nat) (list_n : Nat) {Q : Post} (Inv : Nat → Nat → Int → AHeap → Prop) (ν : Nat) (sum : Nat) (t8 : Int) (g5 g9 g10 g11 g12 g13 g14 g15 g16 g17 : Value) (H : AHeap) (h0 : Inv ν sum t8 H)
    (hs : ∀ (μ : Nat) (sum : Nat) (t8 : Int) (g5 g9 g10 g11 g12 g13 g14 g15 g16 g17 : Value) (H : AHeap), Inv μ sum t8 H → exK Try.prog E_impl_squares (cl (cl (cr (cl (cr (cr (bodyC Try.f79))))))) [.slice list_a list_n list_e, undef, .float .f32 0, .float .f32 sum, undef, g5, .slice list_a list_n list_e, .int .i64 (list_n : Int), .int .i64 t8, g9, g10, g11, g12, g13, g14, g15, g16, g17, undef] H (loopQ (impl_squares_I1 list_a list_e list_n Inv) μ Q)) : loopK (exK Try.prog E_impl_squares (cl (cl (cr (cl (cr (cr (bodyC Try.f79)))))))) [.slice list_a list_n list_e, undef, .float .f32 0, .float .f32 sum, undef, g5, .slice list_a list_n list_e, .int .i64 (list_n : Int), .int .i64 t8, g9, g10, g11, g12, g13, g14, g15, g16, g17, undef] H Q :=
  ⟨impl_squares_I1 list_a list_e list_n Inv, ν, ⟨sum, t8, g5, g9, g10, g11, g12, g13, g14, g15, g16, g17, rfl, h0⟩, fun μ tm H h => by obtain ⟨sum, t8, g5, g9, g10, g11, g12, g13, g14, g15, g16, g17, rfl, hI⟩ := h; exact hs μ sum t8 g5 g9 g10 g11 g12 g13 g14 g15 g16 g17 H hI⟩
theorem impl_squares_n1 {list_a : Option Addr} {list_e : Nat} {list_n : Nat} {Q : Post} {Inv : Nat → Nat → Int → AHeap → Prop} {μ : Nat} (μ' : Nat) {sum : Nat} {t8 : Int} {g5 g9 g10 g11 g12 g13 g14 g15 g16 g17 : Value} {H : AHeap} (hm : μ' < μ) (hI : Inv μ' sum t8 H) : loopQ (impl_squares_I1 list_a list_e list_n Inv) μ Q .normal [.slice list_a list_n list_e, undef, .float .f32 0, .float .f32 sum, undef, g5, .slice list_a list_n list_e, .int .i64 (list_n : Int), .int .i64 t8, g9, g10, g11, g12, g13, g14, g15, g16, g17, undef] H := ⟨μ', hm, sum, t8, g5, g9, g10, g11, g12, g13, g14, g15, g16, g17, rfl, hI⟩
theorem impl_squares_x1_0 (list_a : Option Addr) (list_e : Nat) (list_n : Nat) (sum : Nat) (t8 : Int) (g5 g9 g10 g11 g12 g13 g14 g15 g16 g17 : Value) (H : AHeap) (K : Value → AHeap → Prop)  {I : Nat → List Value → AHeap → Prop} {μ : Nat} : loopQ I μ (blockQ 0 (seqQ (exK Try.prog E_impl_squares (cr (cr (cr (bodyC Try.f79))))) (retK Try.prog Try.f79 K))) (.exit 0) [.slice list_a list_n list_e, undef, .float .f32 0, .float .f32 sum, undef, g5, .slice list_a list_n list_e, .int .i64 (list_n : Int), .int .i64 t8, g9, g10, g11, g12, g13, g14, g15, g16, g17, undef] H =
  (K (.float .f32 sum) H) := by kernel_rfl
theorem E_impl_squares_ok : ∀ g, FnOk Try.prog g (E_impl_squares g) := FnOk.envOf (by
  intro x hx; cases hx)
set_option maxHeartbeats 1000000 in
theorem impl_squares_main (list_a : Option Addr) (list_n : Nat) (list_e : Nat) (H : AHeap) (K : Value → AHeap → Prop) (h : T_impl_squares list_a list_n list_e H fun (r1 : Nat) (H' : AHeap) => K (.float .f32 r1) H') : bodyK Try.prog E_impl_squares Try.f79 [.slice list_a list_n list_e] H K := by
  rw [impl_squares_vc]
  obtain ⟨l_list, i_list, bd_8, hk⟩ := h
  obtain rfl := i_list.eqn
  have e : (p_impl_squares l_list) = _ := rfl
  have e := e.trans (p_impl_squares_eq l_list)
  have g0 := Grow.refl H
  refine impl_squares_L1 _ _ _ (fun (μ : Nat) (sum : Nat) (t8 : Int) (H_1 : AHeap) => H = H_1 ∧ (0 : Int) ≤ t8 ∧ t8 ≤ (l_list.length : Int) ∧ (l_list.length : Int) - t8 ≤ (μ : Int) ∧ p_impl_squares l_list = p_impl_squares_l1 l_list (μ + 1) sum t8) (Int.toNat ((l_list.length : Int) - (0 : Int))) _ _ _ _ _ _ _ _ _ _ _ _ H ?_ ?_
  · exact ⟨rfl, (by first | omega | (simp; done) | (simp; omega)), (by first | omega | (simp; done) | (simp; omega)), (by omega), e⟩
  · intro μ sum t8 g5 g9 g10 g11 g12 g13 g14 g15 g16 g17 H_1 hI
    obtain ⟨rfl, v_1, v_2, hμ, e⟩ := hI
    rw [impl_squares_r1]
    have e := e.trans (p_impl_squares_l1_s l_list μ sum t8)
    have l_3 := g0.1
    refine Br.intro (fun c_4 => ?_) (fun c_4 => ?_)
    · have e := e.trans (cond_t c_4)
      have c_4' := of_decide_eq_true c_4
      obtain ⟨b_5, f_6, q_7⟩ := ((i_list.grow g0)).pos (by first | omega | (simp only [List.length_set, List.length_replicate, List.length_append, List.length_cons, List.length_nil, List.length_take, List.length_drop, marks_length]; done) | (simp only [List.length_set, List.length_replicate, List.length_append, List.length_cons, List.length_nil, List.length_take, List.length_drop, marks_length]; omega))
      refine ⟨by omega, by omega, b_5, f_6, q_7, ?_⟩
      refine ⟨((l_list).getD (t8 : Int).toNat 0), (i_list).rd g0 q_7 (by omega) _, ?_⟩
      rw [show IntKind.wrap .i64 (t8 + 1) = (t8 + 1) from wrap64 (by omega) (by omega)]
      refine impl_squares_n1 (μ - 1) (by first | omega) ⟨rfl, (by first | omega | (simp only [List.length_append, List.length_cons, List.length_nil, List.length_set]; done) | (simp only [List.length_append, List.length_cons, List.length_nil, List.length_set]; omega)), (by first | omega | (simp only [List.length_append, List.length_cons, List.length_nil, List.length_set]; done) | (simp only [List.length_append, List.length_cons, List.length_nil, List.length_set]; omega)), (by first | omega), (by rw [show μ - 1 + 1 = μ from by first | omega]; exact e)⟩
    · have e := e.trans (cond_f c_4)
      have c_4' := of_decide_eq_false c_4
      rw [impl_squares_x1_0]
      rw [e] at hk
      exact hk
theorem impl_squares_ok : FnOk Try.prog 79 S_impl_squares := by
  refine FnOk.body mix_ok E_impl_squares_ok Try.func79 rfl (by kernel_rfl) (by kernel_rfl) ?_ ?_ ?_ ?_ ?_
  · intro args H K K' h hk
    simp only [S_impl_squares] at *
    unfold F_impl_squares at *
    split at hk
    · obtain ⟨l_list, i_list, bd_8, k⟩ := hk
      exact ⟨l_list, i_list, bd_8, h _ _ k⟩
    · exact hk.elim
  · intro _ args H K hk
    simp only [S_impl_squares] at *
    unfold F_impl_squares at *
    split at hk
    · obtain ⟨l_list, i_list, bd_8, k⟩ := hk
      exact ⟨_, k, fun K' k' => ⟨l_list, i_list, bd_8, k'⟩⟩
    · exact hk.elim
  · intro args H K hk
    simp only [S_impl_squares] at *
    unfold F_impl_squares at *
    split at hk
    · obtain ⟨l_list, i_list, bd_8, k⟩ := hk
      exact ⟨_, _, k⟩
    · exact hk.elim
  · intro hq; cases hq
  · have mm := @impl_squares_main
    revert mm
    generalize bodyK Try.prog E_impl_squares Try.f79 = Q
    intro mm args H K hk
    simp only [S_impl_squares] at *
    unfold F_impl_squares at *
    split at hk
    · exact mm _ _ _ H K hk
    · exact hk.elim
def p_impl_naturalLog_l3 (x : Nat) (x_0 : Nat) (ve : Nat) (x_0' : Nat) (ve_3 : Nat) (k3_4 : Nat → Nat → Nat) : Nat → Nat → Nat → Nat
  | 0, _, _ => 0
  | μ3 + 1, q, k => (bif fle .f64 4607182418800017408 k then (p_impl_naturalLog_l3 x x_0 ve x_0' ve_3 k3_4 μ3 (fadd .f64 (fdiv .f64 4607182418800017408 k) (fmul .f64 (fmul .f64 (fdiv .f64 (fsub .f64 x_0' 4607182418800017408) (fadd .f64 x_0' 4607182418800017408)) (fdiv .f64 (fsub .f64 x_0' 4607182418800017408) (fadd .f64 x_0' 4607182418800017408))) q)) (fsub .f64 k 4611686018427387904)) else (k3_4 q k))
theorem p_impl_naturalLog_l3_s (x : Nat) (x_0 : Nat) (ve : Nat) (x_0' : Nat) (ve_3 : Nat) (k3_4 : Nat → Nat → Nat) (μ3 : Nat) (q : Nat) (k : Nat) : p_impl_naturalLog_l3 x x_0 ve x_0' ve_3 k3_4 (μ3 + 1) q k = (bif fle .f64 4607182418800017408 k then (p_impl_naturalLog_l3 x x_0 ve x_0' ve_3 k3_4 μ3 (fadd .f64 (fdiv .f64 4607182418800017408 k) (fmul .f64 (fmul .f64 (fdiv .f64 (fsub .f64 x_0' 4607182418800017408) (fadd .f64 x_0' 4607182418800017408)) (fdiv .f64 (fsub .f64 x_0' 4607182418800017408) (fadd .f64 x_0' 4607182418800017408))) q)) (fsub .f64 k 4611686018427387904)) else (k3_4 q k)) := rfl
def p_impl_naturalLog_l2 (x : Nat) (x_0 : Nat) (ve : Nat) (k2_2 : Nat → Nat → Nat) : Nat → Nat → Nat → Nat
  | 0, _, _ => 0
  | μ2 + 1, x_0', ve_3 => (bif flt .f64 x_0' 4604930618986332160 then (p_impl_naturalLog_l2 x x_0 ve k2_2 μ2 (fmul .f64 x_0' 4611686018427387904) (fsub .f64 ve_3 4607182418800017408)) else (k2_2 x_0' ve_3))
theorem p_impl_naturalLog_l2_s (x : Nat) (x_0 : Nat) (ve : Nat) (k2_2 : Nat → Nat → Nat) (μ2 : Nat) (x_0' : Nat) (ve_3 : Nat) : p_impl_naturalLog_l2 x x_0 ve k2_2 (μ2 + 1) x_0' ve_3 = (bif flt .f64 x_0' 4604930618986332160 then (p_impl_naturalLog_l2 x x_0 ve k2_2 μ2 (fmul .f64 x_0' 4611686018427387904) (fsub .f64 ve_3 4607182418800017408)) else (k2_2 x_0' ve_3)) := rfl
def p_impl_naturalLog_l1 (x : Nat) : Nat → Nat → Nat → Nat
  | 0, _, _ => 0
  | μ + 1, x_0, ve => (bif fle .f64 4609434218613702656 x_0 then (p_impl_naturalLog_l1 x μ (fdiv .f64 x_0 4611686018427387904) (fadd .f64 ve 4607182418800017408)) else (p_impl_naturalLog_l2 x x_0 ve (fun (x_0' : Nat) (ve_3 : Nat) => (p_impl_naturalLog_l3 x x_0 ve x_0' ve_3 (fun (q : Nat) (k : Nat) => fadd .f64 (fmul .f64 4611686018427387904 (fmul .f64 (fdiv .f64 (fsub .f64 x_0' 4607182418800017408) (fadd .f64 x_0' 4607182418800017408)) q)) (fmul .f64 ve_3 4604418534313441775)) (Int.toNat (cnt 4627730092099895296) + 1) 0 4627730092099895296)) (Int.toNat ((4604930618986332160 : Int) - x_0) + 1) x_0 ve))
theorem p_impl_naturalLog_l1_s (x : Nat) (μ : Nat) (x_0 : Nat) (ve : Nat) : p_impl_naturalLog_l1 x (μ + 1) x_0 ve = (bif fle .f64 4609434218613702656 x_0 then (p_impl_naturalLog_l1 x μ (fdiv .f64 x_0 4611686018427387904) (fadd .f64 ve 4607182418800017408)) else (p_impl_naturalLog_l2 x x_0 ve (fun (x_0' : Nat) (ve_3 : Nat) => (p_impl_naturalLog_l3 x x_0 ve x_0' ve_3 (fun (q : Nat) (k : Nat) => fadd .f64 (fmul .f64 4611686018427387904 (fmul .f64 (fdiv .f64 (fsub .f64 x_0' 4607182418800017408) (fadd .f64 x_0' 4607182418800017408)) q)) (fmul .f64 ve_3 4604418534313441775)) (Int.toNat (cnt 4627730092099895296) + 1) 0 4627730092099895296)) (Int.toNat ((4604930618986332160 : Int) - x_0) + 1) x_0 ve)) := rfl
def p_impl_naturalLog (x : Nat) : Nat := (p_impl_naturalLog_l1 x (Int.toNat ((x : Int)) + 1) x 0)
theorem p_impl_naturalLog_eq (x : Nat) : p_impl_naturalLog x = (p_impl_naturalLog_l1 x (Int.toNat ((x : Int)) + 1) x 0) := rfl
def T_impl_naturalLog (x : Nat) (H : AHeap) (K : Nat → AHeap → Prop) : Prop := 4503599627370496 ≤ x ∧ x < 9218868437227405312 ∧ K (p_impl_naturalLog x) H
theorem T_impl_naturalLog_i {x : Nat} {H : AHeap} {K : Nat → AHeap → Prop} (h : 4503599627370496 ≤ x ∧ x < 9218868437227405312 ∧ K (p_impl_naturalLog x) H) : T_impl_naturalLog x H K := h
theorem impl_l3_nar {x x_0 ve x' ve_3 : Nat} {K : Nat → Nat → Nat} (h0 : 4604930618986332160 ≤ x') (h1 : x' < 4609434218613702656) (hK : ∀ q k, Bd .f64 1160 q → fnarrow (K q k) ≠ none) :
    ∀ (μ : Nat) (n : Int) (A q : Nat), Bd .f64 A q → 1074 ≤ A → (A : Int) ≤ 1155 - 3 * n → n ≤ 25 → -1 ≤ n → fnarrow (p_impl_naturalLog_l3 x x_0 ve x' ve_3 K μ q (FloatKind.nearest .f64 n)) ≠ none := by
  intro μ
  induction μ with
  | zero => intro n A q _ _ _ _ _; exact (by decide +kernel : fnarrow 0 ≠ none)
  | succ μ ih =>
    intro n A q hq hA hA2 hn hn1
    rw [p_impl_naturalLog_l3_s]
    have hc := cnt_at (n := n) (by omega) (by omega)
    rw [hc.2.1]
    by_cases h : (1 : Int) ≤ n
    · rw [decide_eq_true h, cond_true, hc.2.2.2]
      exact ih (n - 2) (A + 6) _ (log_step' (log_square h0 h1) h (by omega) hq hA (by omega)) (by omega) (by omega) (by omega) (by omega)
    · rw [decide_eq_false h, cond_false]
      exact hK _ _ (hq.mono (by omega))
theorem impl_l2_nar {x x_0 ve : Nat} {K : Nat → Nat → Nat} (hK : ∀ x' (e : Int), 4604930618986332160 ≤ x' → x' < 4609434218613702656 → e.natAbs ≤ 4000 → fnarrow (K x' (FloatKind.nearest .f64 e)) ≠ none) :
    ∀ (μ : Nat) (x' : Nat) (e : Int), 4503599627370496 ≤ x' → x' < 4609434218613702656 → (4609434218613702656 : Int) - x' ≤ (e + 3000) * 4503599627370496 → e ≤ 2100 →
      fnarrow (p_impl_naturalLog_l2 x x_0 ve K μ x' (FloatKind.nearest .f64 e)) ≠ none := by
  intro μ
  induction μ with
  | zero => intro x' e _ _ _ _; exact (by decide +kernel : fnarrow 0 ≠ none)
  | succ μ ih =>
    intro x' e h0 h1 h2 h3
    rw [p_impl_naturalLog_l2_s]
    cases hc : flt .f64 x' 4604930618986332160 with
    | true =>
      have := twice_step h0 (by omega) hc
      rw [cond_true, near_down (by omega), this.1]
      exact ih _ _ (by omega) (by omega) (by omega) (by omega)
    | false =>
      rw [cond_false]
      rw [pos_lt h0 (by omega) (by decide) (by decide)] at hc
      have := of_decide_eq_false hc
      exact hK _ _ (by omega) h1 (by omega)
theorem impl_l1_nar {x : Nat} :
    ∀ (μ : Nat) (x_0 : Nat) (e : Int), 4503599627370496 ≤ x_0 → x_0 < 9218868437227405312 → e * 4503599627370496 + x_0 ≤ 9218868437227405312 → 0 ≤ e →
      fnarrow (p_impl_naturalLog_l1 x μ x_0 (FloatKind.nearest .f64 e)) ≠ none := by
  intro μ
  induction μ with
  | zero => intro x_0 e _ _ _ _; exact (by decide +kernel : fnarrow 0 ≠ none)
  | succ μ ih =>
    intro x_0 e h0 h1 h2 h3
    rw [p_impl_naturalLog_l1_s]
    cases hc : fle .f64 4609434218613702656 x_0 with
    | true =>
      have := half_step h0 h1 hc
      rw [cond_true, near_up (by omega), this.1]
      exact ih _ _ (by omega) (by omega) (by omega) (by omega)
    | false =>
      rw [cond_false]
      rw [pos_le (by decide) (by decide) h0 h1] at hc
      have := of_decide_eq_false hc
      refine impl_l2_nar ?_ _ _ _ h0 (by omega) (by omega) (by omega)
      intro x' e' a0 a1 a2
      have e25 : (4627730092099895296 : Nat) = FloatKind.nearest .f64 25 := by decide +kernel
      rw [e25]
      refine impl_l3_nar a0 a1 ?_ _ 25 1074 0 (bd_zero _) (by decide) (by decide) (by decide) (by decide)
      intro q k hq
      exact log_sum' (log_quot a0 a1) hq (by decide) (by decide) a2
theorem impl_naturalLog_nar {x : Nat} (h : 4503599627370496 ≤ x ∧ x < 9218868437227405312) : fnarrow (p_impl_naturalLog x) ≠ none := by
  rw [p_impl_naturalLog_eq]
  have g := impl_l1_nar (x := x) (Int.toNat ((x : Int)) + 1) x 0 h.1 h.2 (by omega) (by decide)
  rw [show FloatKind.nearest .f64 0 = 0 by decide +kernel] at g
  exact g
/-! impl_naturalLog: function 124 -/
def E_impl_naturalLog : Env := envOf []
def F_impl_naturalLog : List Value → AHeap → (Value → AHeap → Prop) → Prop
  | [.float .f64 x], H, K => T_impl_naturalLog x H fun (r1 : Nat) (H' : AHeap) => K (.float .f64 r1) H'
  | _, _, _ => False
def S_impl_naturalLog : FSpec := { F := F_impl_naturalLog, quiet := true, tame := false }
theorem impl_naturalLog_vc (x : Nat) (H : AHeap) (K : Value → AHeap → Prop) : bodyK Try.prog E_impl_naturalLog Try.f124 [.float .f64 x] H K =
  (loopK (exK Try.prog E_impl_naturalLog (cl (cl (cl (cr (cr (bodyC Try.f124))))))) [.float .f64 x, undef, .float .f64 0, .float .f64 0, undef, undef, undef, undef, undef, undef, undef, undef, undef, undef, undef, undef, undef, undef, undef, undef, undef, undef, undef, undef, undef, undef, undef, undef, undef, undef, undef, undef, undef, undef, undef, undef, undef, undef, undef, undef, undef, undef, undef, undef, undef] H (blockQ 0 (seqQ (exK Try.prog E_impl_naturalLog (cr (cr (cr (bodyC Try.f124))))) (retK Try.prog Try.f124 K)))) := by kernel_rfl
theorem impl_naturalLog_r1  (x_0 : Nat) (ve : Nat) (g8 g9 g10 g11 g12 g13 : Value) (H : AHeap) (R : Post) : exK Try.prog E_impl_naturalLog (cl (cl (cl (cr (cr (bodyC Try.f124)))))) [.float .f64 x_0, undef, .float .f64 0, .float .f64 ve, undef, undef, undef, undef, g8, g9, g10, g11, g12, g13, undef, undef, undef, undef, undef, undef, undef, undef, undef, undef, undef, undef, undef, undef, undef, undef, undef, undef, undef, undef, undef, undef, undef, undef, undef, undef, undef, undef, undef, undef, undef] H R =
  (Br (fle .f64 4609434218613702656 x_0) (R .normal [.float .f64 (fdiv .f64 x_0 4611686018427387904), undef, .float .f64 0, .float .f64 (fadd .f64 ve 4607182418800017408), undef, undef, undef, undef, .float .f64 x_0, .bool (fle .f64 4609434218613702656 x_0), .float .f64 x_0, .float .f64 (fdiv .f64 x_0 4611686018427387904), .float .f64 ve, .float .f64 (fadd .f64 ve 4607182418800017408), undef, undef, undef, undef, undef, undef, undef, undef, undef, undef, undef, undef, undef, undef, undef, undef, undef, undef, undef, undef, undef, undef, undef, undef, undef, undef, undef, undef, undef, undef, undef] H) (R (.exit 0) [.float .f64 x_0, undef, .float .f64 0, .float .f64 ve, undef, undef, undef, undef, .float .f64 x_0, .bool (fle .f64 4609434218613702656 x_0), g10, g11, g12, g13, undef, undef, undef, undef, undef, undef, undef, undef, undef, undef, undef, undef, undef, undef, undef, undef, undef, undef, undef, undef, undef, undef, undef, undef, undef, undef, undef, undef, undef, undef, undef] H)) := by kernel_rfl
def impl_naturalLog_I1  (Inv : Nat → Nat → Nat → AHeap → Prop) : Nat → List Value → AHeap → Prop := fun μ tm H => ∃ (x_0 : Nat), ∃ (ve : Nat), ∃ g8 g9 g10 g11 g12 g13, tm = [.float .f64 x_0, undef, .float .f64 0, .float .f64 ve, undef, undef, undef, undef, g8, g9, g10, g11, g12, g13, undef, undef, undef, undef, undef, undef, undef, undef, undef, undef, undef, undef, undef, undef, undef, undef, undef, undef, undef, undef, undef, undef, undef, undef, undef, undef, undef, undef, undef, undef, undef] ∧ Inv μ x_0 ve H
theorem impl_naturalLog_L1  {Q : Post} (Inv : Nat → Nat → Nat → AHeap → Prop) (ν : Nat) (x_0 : Nat) (ve : Nat) (g8 g9 g10 g11 g12 g13 : Value) (H : AHeap) (h0 : Inv ν x_0 ve H)
    (hs : ∀ (μ : Nat) (x_0 : Nat) (ve : Nat) (g8 g9 g10 g11 g12 g13 : Value) (H : AHeap), Inv μ x_0 ve H → exK Try.prog E_impl_naturalLog (cl (cl (cl (cr (cr (bodyC Try.f124)))))) [.float .f64 x_0, undef, .float .f64 0, .float .f64 ve, undef, undef, undef, undef, g8, g9, g10, g11, g12, g13, undef, undef, undef, undef, undef, undef, undef, undef, undef, undef, undef, undef, undef, undef, undef, undef, undef, undef, undef, undef, undef, undef, undef, undef, undef, undef, undef, undef, undef, undef, undef] H (loopQ (impl_naturalLog_I1  Inv) μ Q)) : loopK (exK Try.prog E_impl_naturalLog (cl (cl (cl (cr (cr (bodyC Try.f124))))))) [.float .f64 x_0, undef, .float .f64 0, .float .f64 ve, undef, undef, undef, undef, g8, g9, g10, g11, g12, g13, undef, undef, undef, undef, undef, undef, undef, undef, undef, undef, undef, undef, undef, undef, undef, undef, undef, undef, undef, undef, undef, undef, undef, undef, undef, undef, undef, undef, undef, undef, undef] H Q :=
  ⟨impl_naturalLog_I1  Inv, ν, ⟨x_0, ve, g8, g9, g10, g11, g12, g13, rfl, h0⟩, fun μ tm H h => by obtain ⟨x_0, ve, g8, g9, g10, g11, g12, g13, rfl, hI⟩ := h; exact hs μ x_0 ve g8 g9 g10 g11 g12 g13 H hI⟩
theorem impl_naturalLog_n1  {Q : Post} {Inv : Nat → Nat → Nat → AHeap → Prop} {μ : Nat} (μ' : Nat) {x_0 : Nat} {ve : Nat} {g8 g9 g10 g11 g12 g13 : Value} {H : AHeap} (hm : μ' < μ) (hI : Inv μ' x_0 ve H) : loopQ (impl_naturalLog_I1  Inv) μ Q .normal [.float .f64 x_0, undef, .float .f64 0, .float .f64 ve, undef, undef, undef, undef, g8, g9, g10, g11, g12, g13, undef, undef, undef, undef, undef, undef, undef, undef, undef, undef, undef, undef, undef, undef, undef, undef, undef, undef, undef, undef, undef, undef, undef, undef, undef, undef, undef, undef, undef, undef, undef] H := ⟨μ', hm, x_0, ve, g8, g9, g10, g11, g12, g13, rfl, hI⟩
theorem impl_naturalLog_x1_0  (x_0 : Nat) (ve : Nat) (g8 g9 g10 g11 g12 g13 : Value) (H : AHeap) (K : Value → AHeap → Prop)  {I : Nat → List Value → AHeap → Prop} {μ : Nat} : loopQ I μ (blockQ 0 (seqQ (exK Try.prog E_impl_naturalLog (cr (cr (cr (bodyC Try.f124))))) (retK Try.prog Try.f124 K))) (.exit 0) [.float .f64 x_0, undef, .float .f64 0, .float .f64 ve, undef, undef, undef, undef, g8, g9, g10, g11, g12, g13, undef, undef, undef, undef, undef, undef, undef, undef, undef, undef, undef, undef, undef, undef, undef, undef, undef, undef, undef, undef, undef, undef, undef, undef, undef, undef, undef, undef, undef, undef, undef] H =
  (loopK (exK Try.prog E_impl_naturalLog (cl (cl (cl (cr (cr (cr (bodyC Try.f124)))))))) [.float .f64 x_0, undef, .float .f64 0, .float .f64 ve, undef, undef, undef, undef, g8, g9, g10, g11, g12, g13, undef, undef, undef, undef, undef, undef, undef, undef, undef, undef, undef, undef, undef, undef, undef, undef, undef, undef, undef, undef, undef, undef, undef, undef, undef, undef, undef, undef, undef, undef, undef] H (blockQ 2 (seqQ (exK Try.prog E_impl_naturalLog (cr (cr (cr (cr (bodyC Try.f124)))))) (retK Try.prog Try.f124 K)))) := by kernel_rfl
theorem impl_naturalLog_r2 (g10 : Value) (g11 : Value) (g12 : Value) (g13 : Value) (g8 : Value) (g9 : Value) (x_0' : Nat) (ve_3 : Nat) (g14 g15 g16 g17 g18 g19 : Value) (H : AHeap) (R : Post) : exK Try.prog E_impl_naturalLog (cl (cl (cl (cr (cr (cr (bodyC Try.f124))))))) [.float .f64 x_0', undef, .float .f64 0, .float .f64 ve_3, undef, undef, undef, undef, g8, g9, g10, g11, g12, g13, g14, g15, g16, g17, g18, g19, undef, undef, undef, undef, undef, undef, undef, undef, undef, undef, undef, undef, undef, undef, undef, undef, undef, undef, undef, undef, undef, undef, undef, undef, undef] H R =
  (Br (flt .f64 x_0' 4604930618986332160) (R .normal [.float .f64 (fmul .f64 x_0' 4611686018427387904), undef, .float .f64 0, .float .f64 (fsub .f64 ve_3 4607182418800017408), undef, undef, undef, undef, g8, g9, g10, g11, g12, g13, .float .f64 x_0', .bool (flt .f64 x_0' 4604930618986332160), .float .f64 x_0', .float .f64 (fmul .f64 x_0' 4611686018427387904), .float .f64 ve_3, .float .f64 (fsub .f64 ve_3 4607182418800017408), undef, undef, undef, undef, undef, undef, undef, undef, undef, undef, undef, undef, undef, undef, undef, undef, undef, undef, undef, undef, undef, undef, undef, undef, undef] H) (R (.exit 2) [.float .f64 x_0', undef, .float .f64 0, .float .f64 ve_3, undef, undef, undef, undef, g8, g9, g10, g11, g12, g13, .float .f64 x_0', .bool (flt .f64 x_0' 4604930618986332160), g16, g17, g18, g19, undef, undef, undef, undef, undef, undef, undef, undef, undef, undef, undef, undef, undef, undef, undef, undef, undef, undef, undef, undef, undef, undef, undef, undef, undef] H)) := by kernel_rfl
def impl_naturalLog_I2 (g10 : Value) (g11 : Value) (g12 : Value) (g13 : Value) (g8 : Value) (g9 : Value) (Inv : Nat → Nat → Nat → AHeap → Prop) : Nat → List Value → AHeap → Prop := fun μ tm H => ∃ (x_0' : Nat), ∃ (ve_3 : Nat), ∃ g14 g15 g16 g17 g18 g19, tm = [.float .f64 x_0', undef, .float .f64 0, .float .f64 ve_3, undef, undef, undef, undef, g8, g9, g10, g11, g12, g13, g14, g15, g16, g17, g18, g19, undef, undef, undef, undef, undef, undef, undef, undef, undef, undef, undef, undef, undef, undef, undef, undef, undef, undef, undef, undef, undef, undef, undef, undef, undef] ∧ Inv μ x_0' ve_3 H
theorem impl_naturalLog_L2 (g10 : Value) (g11 : Value) (g12 : Value) (g13 : Value) (g8 : Value) (g9 : Value) {Q : Post} (Inv : Nat → Nat → Nat → AHeap → Prop) (ν : Nat) (x_0' : Nat) (ve_3 : Nat) (g14 g15 g16 g17 g18 g19 : Value) (H : AHeap) (h0 : Inv ν x_0' ve_3 H)
    (hs : ∀ (μ : Nat) (x_0' : Nat) (ve_3 : Nat) (g14 g15 g16 g17 g18 g19 : Value) (H : AHeap), Inv μ x_0' ve_3 H → exK Try.prog E_impl_naturalLog (cl (cl (cl (cr (cr (cr (bodyC Try.f124))))))) [.float .f64 x_0', undef, .float .f64 0, .float .f64 ve_3, undef, undef, undef, undef, g8, g9, g10, g11, g12, g13, g14, g15, g16, g17, g18, g19, undef, undef, undef, undef, undef, undef, undef, undef, undef, undef, undef, undef, undef, undef, undef, undef, undef, undef, undef, undef, undef, undef, undef, undef, undef] H (loopQ (impl_naturalLog_I2 g10 g11 g12 g13 g8 g9 Inv) μ Q)) : loopK (exK Try.prog E_impl_naturalLog (cl (cl (cl (cr (cr (cr (bodyC Try.f124)))))))) [.float .f64 x_0', undef, .float .f64 0, .float .f64 ve_3, undef, undef, undef, undef, g8, g9, g10, g11, g12, g13, g14, g15, g16, g17, g18, g19, undef, undef, undef, undef, undef, undef, undef, undef, undef, undef, undef, undef, undef, undef, undef, undef, undef, undef, undef, undef, undef, undef, undef, undef, undef] H Q :=
  ⟨impl_naturalLog_I2 g10 g11 g12 g13 g8 g9 Inv, ν, ⟨x_0', ve_3, g14, g15, g16, g17, g18, g19, rfl, h0⟩, fun μ tm H h => by obtain ⟨x_0', ve_3, g14, g15, g16, g17, g18, g19, rfl, hI⟩ := h; exact hs μ x_0' ve_3 g14 g15 g16 g17 g18 g19 H hI⟩
theorem impl_naturalLog_n2 {g10 : Value} {g11 : Value} {g12 : Value} {g13 : Value} {g8 : Value} {g9 : Value} {Q : Post} {Inv : Nat → Nat → Nat → AHeap → Prop} {μ : Nat} (μ' : Nat) {x_0' : Nat} {ve_3 : Nat} {g14 g15 g16 g17 g18 g19 : Value} {H : AHeap} (hm : μ' < μ) (hI : Inv μ' x_0' ve_3 H) : loopQ (impl_naturalLog_I2 g10 g11 g12 g13 g8 g9 Inv) μ Q .normal [.float .f64 x_0', undef, .float .f64 0, .float .f64 ve_3, undef, undef, undef, undef, g8, g9, g10, g11, g12, g13, g14, g15, g16, g17, g18, g19, undef, undef, undef, undef, undef, undef, undef, undef, undef, undef, undef, undef, undef, undef, undef, undef, undef, undef, undef, undef, undef, undef, undef, undef, undef] H := ⟨μ', hm, x_0', ve_3, g14, g15, g16, g17, g18, g19, rfl, hI⟩
theorem impl_naturalLog_x2_2 (g10 : Value) (g11 : Value) (g12 : Value) (g13 : Value) (g8 : Value) (g9 : Value) (x_0' : Nat) (ve_3 : Nat) (g14 g15 g16 g17 g18 g19 : Value) (H : AHeap) (K : Value → AHeap → Prop)  {I : Nat → List Value → AHeap → Prop} {μ : Nat} : loopQ I μ (blockQ 2 (seqQ (exK Try.prog E_impl_naturalLog (cr (cr (cr (cr (bodyC Try.f124)))))) (retK Try.prog Try.f124 K))) (.exit 2) [.float .f64 x_0', undef, .float .f64 0, .float .f64 ve_3, undef, undef, undef, undef, g8, g9, g10, g11, g12, g13, g14, g15, g16, g17, g18, g19, undef, undef, undef, undef, undef, undef, undef, undef, undef, undef, undef, undef, undef, undef, undef, undef, undef, undef, undef, undef, undef, undef, undef, undef, undef] H =
  (loopK (exK Try.prog E_impl_naturalLog (cl (cl (cr (cl (cr (cr (cr (cr (cr (cr (cr (bodyC Try.f124))))))))))))) [.float .f64 x_0', undef, .float .f64 0, .float .f64 ve_3, .float .f64 (fdiv .f64 (fsub .f64 x_0' 4607182418800017408) (fadd .f64 x_0' 4607182418800017408)), .float .f64 (fmul .f64 (fdiv .f64 (fsub .f64 x_0' 4607182418800017408) (fadd .f64 x_0' 4607182418800017408)) (fdiv .f64 (fsub .f64 x_0' 4607182418800017408) (fadd .f64 x_0' 4607182418800017408))), .float .f64 0, .float .f64 4627730092099895296, g8, g9, g10, g11, g12, g13, g14, g15, g16, g17, g18, g19, .float .f64 x_0', .float .f64 (fsub .f64 x_0' 4607182418800017408), .float .f64 x_0', .float .f64 (fadd .f64 x_0' 4607182418800017408), .float .f64 (fdiv .f64 (fsub .f64 x_0' 4607182418800017408) (fadd .f64 x_0' 4607182418800017408)), .float .f64 (fdiv .f64 (fsub .f64 x_0' 4607182418800017408) (fadd .f64 x_0' 4607182418800017408)), .float .f64 (fdiv .f64 (fsub .f64 x_0' 4607182418800017408) (fadd .f64 x_0' 4607182418800017408)), .float .f64 (fmul .f64 (fdiv .f64 (fsub .f64 x_0' 4607182418800017408) (fadd .f64 x_0' 4607182418800017408)) (fdiv .f64 (fsub .f64 x_0' 4607182418800017408) (fadd .f64 x_0' 4607182418800017408))), undef, undef, undef, undef, undef, undef, undef, undef, undef, undef, undef, undef, undef, undef, undef, undef, undef] H (blockQ 4 (seqQ (exK Try.prog E_impl_naturalLog (cr (cr (cr (cr (cr (cr (cr (cr (bodyC Try.f124)))))))))) (retK Try.prog Try.f124 K)))) := by kernel_rfl
theorem impl_naturalLog_r3 (g10 : Value) (g11 : Value) (g12 : Value) (g13 : Value) (g14 : Value) (g15 : Value) (g16 : Value) (g17 : Value) (g18 : Value) (g19 : Value) (g8 : Value) (g9 : Value) (ve_3 : Nat) (x_0' : Nat) (q : Nat) (k : Nat) (g28 g29 g30 g31 g32 g33 g34 g35 g36 g37 : Value) (H : AHeap) (R : Post) : exK Try.prog E_impl_naturalLog (cl (cl (cr (cl (cr (cr (cr (cr (cr (cr (cr (bodyC Try.f124)))))))))))) [.float .f64 x_0', undef, .float .f64 0, .float .f64 ve_3, .float .f64 (fdiv .f64 (fsub .f64 x_0' 4607182418800017408) (fadd .f64 x_0' 4607182418800017408)), .float .f64 (fmul .f64 (fdiv .f64 (fsub .f64 x_0' 4607182418800017408) (fadd .f64 x_0' 4607182418800017408)) (fdiv .f64 (fsub .f64 x_0' 4607182418800017408) (fadd .f64 x_0' 4607182418800017408))), .float .f64 q, .float .f64 k, g8, g9, g10, g11, g12, g13, g14, g15, g16, g17, g18, g19, .float .f64 x_0', .float .f64 (fsub .f64 x_0' 4607182418800017408), .float .f64 x_0', .float .f64 (fadd .f64 x_0' 4607182418800017408), .float .f64 (fdiv .f64 (fsub .f64 x_0' 4607182418800017408) (fadd .f64 x_0' 4607182418800017408)), .float .f64 (fdiv .f64 (fsub .f64 x_0' 4607182418800017408) (fadd .f64 x_0' 4607182418800017408)), .float .f64 (fdiv .f64 (fsub .f64 x_0' 4607182418800017408) (fadd .f64 x_0' 4607182418800017408)), .float .f64 (fmul .f64 (fdiv .f64 (fsub .f64 x_0' 4607182418800017408) (fadd .f64 x_0' 4607182418800017408)) (fdiv .f64 (fsub .f64 x_0' 4607182418800017408) (fadd .f64 x_0' 4607182418800017408))), g28, g29, g30, g31, g32, g33, g34, g35, g36, g37, undef, undef, undef, undef, undef, undef, undef] H R =
  (Br (fle .f64 4607182418800017408 k) (R .normal [.float .f64 x_0', undef, .float .f64 0, .float .f64 ve_3, .float .f64 (fdiv .f64 (fsub .f64 x_0' 4607182418800017408) (fadd .f64 x_0' 4607182418800017408)), .float .f64 (fmul .f64 (fdiv .f64 (fsub .f64 x_0' 4607182418800017408) (fadd .f64 x_0' 4607182418800017408)) (fdiv .f64 (fsub .f64 x_0' 4607182418800017408) (fadd .f64 x_0' 4607182418800017408))), .float .f64 (fadd .f64 (fdiv .f64 4607182418800017408 k) (fmul .f64 (fmul .f64 (fdiv .f64 (fsub .f64 x_0' 4607182418800017408) (fadd .f64 x_0' 4607182418800017408)) (fdiv .f64 (fsub .f64 x_0' 4607182418800017408) (fadd .f64 x_0' 4607182418800017408))) q)), .float .f64 (fsub .f64 k 4611686018427387904), g8, g9, g10, g11, g12, g13, g14, g15, g16, g17, g18, g19, .float .f64 x_0', .float .f64 (fsub .f64 x_0' 4607182418800017408), .float .f64 x_0', .float .f64 (fadd .f64 x_0' 4607182418800017408), .float .f64 (fdiv .f64 (fsub .f64 x_0' 4607182418800017408) (fadd .f64 x_0' 4607182418800017408)), .float .f64 (fdiv .f64 (fsub .f64 x_0' 4607182418800017408) (fadd .f64 x_0' 4607182418800017408)), .float .f64 (fdiv .f64 (fsub .f64 x_0' 4607182418800017408) (fadd .f64 x_0' 4607182418800017408)), .float .f64 (fmul .f64 (fdiv .f64 (fsub .f64 x_0' 4607182418800017408) (fadd .f64 x_0' 4607182418800017408)) (fdiv .f64 (fsub .f64 x_0' 4607182418800017408) (fadd .f64 x_0' 4607182418800017408))), .float .f64 k, .bool (fle .f64 4607182418800017408 k), .float .f64 k, .float .f64 (fsub .f64 k 4611686018427387904), .float .f64 k, .float .f64 (fdiv .f64 4607182418800017408 k), .float .f64 (fmul .f64 (fdiv .f64 (fsub .f64 x_0' 4607182418800017408) (fadd .f64 x_0' 4607182418800017408)) (fdiv .f64 (fsub .f64 x_0' 4607182418800017408) (fadd .f64 x_0' 4607182418800017408))), .float .f64 q, .float .f64 (fmul .f64 (fmul .f64 (fdiv .f64 (fsub .f64 x_0' 4607182418800017408) (fadd .f64 x_0' 4607182418800017408)) (fdiv .f64 (fsub .f64 x_0' 4607182418800017408) (fadd .f64 x_0' 4607182418800017408))) q), .float .f64 (fadd .f64 (fdiv .f64 4607182418800017408 k) (fmul .f64 (fmul .f64 (fdiv .f64 (fsub .f64 x_0' 4607182418800017408) (fadd .f64 x_0' 4607182418800017408)) (fdiv .f64 (fsub .f64 x_0' 4607182418800017408) (fadd .f64 x_0' 4607182418800017408))) q)), undef, undef, undef, undef, undef, undef, undef] H) (R (.exit 4) [.float .f64 x_0', undef, .float .f64 0, .float .f64 ve_3, .float .f64 (fdiv .f64 (fsub .f64 x_0' 4607182418800017408) (fadd .f64 x_0' 4607182418800017408)), .float .f64 (fmul .f64 (fdiv .f64 (fsub .f64 x_0' 4607182418800017408) (fadd .f64 x_0' 4607182418800017408)) (fdiv .f64 (fsub .f64 x_0' 4607182418800017408) (fadd .f64 x_0' 4607182418800017408))), .float .f64 q, .float .f64 k, g8, g9, g10, g11, g12, g13, g14, g15, g16, g17, g18, g19, .float .f64 x_0', .float .f64 (fsub .f64 x_0' 4607182418800017408), .float .f64 x_0', .float .f64 (fadd .f64 x_0' 4607182418800017408), .float .f64 (fdiv .f64 (fsub .f64 x_0' 4607182418800017408) (fadd .f64 x_0' 4607182418800017408)), .float .f64 (fdiv .f64 (fsub .f64 x_0' 4607182418800017408) (fadd .f64 x_0' 4607182418800017408)), .float .f64 (fdiv .f64 (fsub .f64 x_0' 4607182418800017408) (fadd .f64 x_0' 4607182418800017408)), .float .f64 (fmul .f64 (fdiv .f64 (fsub .f64 x_0' 4607182418800017408) (fadd .f64 x_0' 4607182418800017408)) (fdiv .f64 (fsub .f64 x_0' 4607182418800017408) (fadd .f64 x_0' 4607182418800017408))), .float .f64 k, .bool (fle .f64 4607182418800017408 k), g30, g31, g32, g33, g34, g35, g36, g37, undef, undef, undef, undef, undef, undef, undef] H)) := by kernel_rfl
def impl_naturalLog_I3 (g10 : Value) (g11 : Value) (g12 : Value) (g13 : Value) (g14 : Value) (g15 : Value) (g16 : Value) (g17 : Value) (g18 : Value) (g19 : Value) (g8 : Value) (g9 : Value) (ve_3 : Nat) (x_0' : Nat) (Inv : Nat → Nat → Nat → AHeap → Prop) : Nat → List Value → AHeap → Prop := fun μ tm H => ∃ (q : Nat), ∃ (k : Nat), ∃ g28 g29 g30 g31 g32 g33 g34 g35 g36 g37, tm = [.float .f64 x_0', undef, .float .f64 0, .float .f64 ve_3, .float .f64 (fdiv .f64 (fsub .f64 x_0' 4607182418800017408) (fadd .f64 x_0' 4607182418800017408)), .float .f64 (fmul .f64 (fdiv .f64 (fsub .f64 x_0' 4607182418800017408) (fadd .f64 x_0' 4607182418800017408)) (fdiv .f64 (fsub .f64 x_0' 4607182418800017408) (fadd .f64 x_0' 4607182418800017408))), .float .f64 q, .float .f64 k, g8, g9, g10, g11, g12, g13, g14, g15, g16, g17, g18, g19, .float .f64 x_0', .float .f64 (fsub .f64 x_0' 4607182418800017408), .float .f64 x_0', .float .f64 (fadd .f64 x_0' 4607182418800017408), .float .f64 (fdiv .f64 (fsub .f64 x_0' 4607182418800017408) (fadd .f64 x_0' 4607182418800017408)), .float .f64 (fdiv .f64 (fsub .f64 x_0' 4607182418800017408) (fadd .f64 x_0' 4607182418800017408)), .float .f64 (fdiv .f64 (fsub .f64 x_0' 4607182418800017408) (fadd .f64 x_0' 4607182418800017408)), .float .f64 (fmul .f64 (fdiv .f64 (fsub .f64 x_0' 4607182418800017408) (fadd .f64 x_0' 4607182418800017408)) (fdiv .f64 (fsub .f64 x_0' 4607182418800017408) (fadd .f64 x_0' 4607182418800017408))), g28, g29, g30, g31, g32, g33, g34, g35, g36, g37, undef, undef, undef, undef, undef, undef, undef] ∧ Inv μ q k H
theorem impl_naturalLog_L3 (g10 : Value) (g11 : Value) (g12 : Value) (g13 : Value) (g14 : Value) (g15 : Value) (g16 : Value) (g17 : Value) (g18 : Value) (g19 : Value) (g8 : Value) (g9 : Value) (ve_3 : Nat) (x_0' : Nat) {Q : Post} (Inv : Nat → Nat → Nat → AHeap → Prop) (ν : Nat) (q : Nat) (k : Nat) (g28 g29 g30 g31 g32 g33 g34 g35 g36 g37 : Value) (H : AHeap) (h0 : Inv ν q k H)
    (hs : ∀ (μ : Nat) (q : Nat) (k : Nat) (g28 g29 g30 g31 g32 g33 g34 g35 g36 g37 : Value) (H : AHeap), Inv μ q k H → exK Try.prog E_impl_naturalLog (cl (cl (cr (cl (cr (cr (cr (cr (cr (cr (cr (bodyC Try.f124)))))))))))) [.float .f64 x_0', undef, .float .f64 0, .float .f64 ve_3, .float .f64 (fdiv .f64 (fsub .f64 x_0' 4607182418800017408) (fadd .f64 x_0' 4607182418800017408)), .float .f64 (fmul .f64 (fdiv .f64 (fsub .f64 x_0' 4607182418800017408) (fadd .f64 x_0' 4607182418800017408)) (fdiv .f64 (fsub .f64 x_0' 4607182418800017408) (fadd .f64 x_0' 4607182418800017408))), .float .f64 q, .float .f64 k, g8, g9, g10, g11, g12, g13, g14, g15, g16, g17, g18, g19, .float .f64 x_0', .float .f64 (fsub .f64 x_0' 4607182418800017408), .float .f64 x_0', .float .f64 (fadd .f64 x_0' 4607182418800017408), .float .f64 (fdiv .f64 (fsub .f64 x_0' 4607182418800017408) (fadd .f64 x_0' 4607182418800017408)), .float .f64 (fdiv .f64 (fsub .f64 x_0' 4607182418800017408) (fadd .f64 x_0' 4607182418800017408)), .float .f64 (fdiv .f64 (fsub .f64 x_0' 4607182418800017408) (fadd .f64 x_0' 4607182418800017408)), .float .f64 (fmul .f64 (fdiv .f64 (fsub .f64 x_0' 4607182418800017408) (fadd .f64 x_0' 4607182418800017408)) (fdiv .f64 (fsub .f64 x_0' 4607182418800017408) (fadd .f64 x_0' 4607182418800017408))), g28, g29, g30, g31, g32, g33, g34, g35, g36, g37, undef, undef, undef, undef, undef, undef, undef] H (loopQ (impl_naturalLog_I3 g10 g11 g12 g13 g14 g15 g16 g17 g18 g19 g8 g9 ve_3 x_0' Inv) μ Q)) : loopK (exK Try.prog E_impl_naturalLog (cl (cl (cr (cl (cr (cr (cr (cr (cr (cr (cr (bodyC Try.f124))))))))))))) [.float .f64 x_0', undef, .float .f64 0, .float .f64 ve_3, .float .f64 (fdiv .f64 (fsub .f64 x_0' 4607182418800017408) (fadd .f64 x_0' 4607182418800017408)), .float .f64 (fmul .f64 (fdiv .f64 (fsub .f64 x_0' 4607182418800017408) (fadd .f64 x_0' 4607182418800017408)) (fdiv .f64 (fsub .f64 x_0' 4607182418800017408) (fadd .f64 x_0' 4607182418800017408))), .float .f64 q, .float .f64 k, g8, g9, g10, g11, g12, g13, g14, g15, g16, g17, g18, g19, .float .f64 x_0', .float .f64 (fsub .f64 x_0' 4607182418800017408), .float .f64 x_0', .float .f64 (fadd .f64 x_0' 4607182418800017408), .float .f64 (fdiv .f64 (fsub .f64 x_0' 4607182418800017408) (fadd .f64 x_0' 4607182418800017408)), .float .f64 (fdiv .f64 (fsub .f64 x_0' 4607182418800017408) (fadd .f64 x_0' 4607182418800017408)), .float .f64 (fdiv .f64 (fsub .f64 x_0' 4607182418800017408) (fadd .f64 x_0' 4607182418800017408)), .float .f64 (fmul .f64 (fdiv .f64 (fsub .f64 x_0' 4607182418800017408) (fadd .f64 x_0' 4607182418800017408)) (fdiv .f64 (fsub .f64 x_0' 4607182418800017408) (fadd .f64 x_0' 4607182418800017408))), g28, g29, g30, g31, g32, g33, g34, g35, g36, g37, undef, undef, undef, undef, undef, undef, undef] H Q :=
  ⟨impl_naturalLog_I3 g10 g11 g12 g13 g14 g15 g16 g17 g18 g19 g8 g9 ve_3 x_0' Inv, ν, ⟨q, k, g28, g29, g30, g31, g32, g33, g34, g35, g36, g37, rfl, h0⟩, fun μ tm H h => by obtain ⟨q, k, g28, g29, g30, g31, g32, g33, g34, g35, g36, g37, rfl, hI⟩ := h; exact hs μ q k g28 g29 g30 g31 g32 g33 g34 g35 g36 g37 H hI⟩
theorem impl_naturalLog_n3 {g10 : Value} {g11 : Value} {g12 : Value} {g13 : Value} {g14 : Value} {g15 : Value} {g16 : Value} {g17 : Value} {g18 : Value} {g19 : Value} {g8 : Value} {g9 : Value} {ve_3 : Nat} {x_0' : Nat} {Q : Post} {Inv : Nat → Nat → Nat → AHeap → Prop} {μ : Nat} (μ' : Nat) {q : Nat} {k : Nat} {g28 g29 g30 g31 g32 g33 g34 g35 g36 g37 : Value} {H : AHeap} (hm : μ' < μ) (hI : Inv μ' q k H) : loopQ (impl_naturalLog_I3 g10 g11 g12 g13 g14 g15 g16 g17 g18 g19 g8 g9 ve_3 x_0' Inv) μ Q .normal [.float .f64 x_0', undef, .float .f64 0, .float .f64 ve_3, .float .f64 (fdiv .f64 (fsub .f64 x_0' 4607182418800017408) (fadd .f64 x_0' 4607182418800017408)), .float .f64 (fmul .f64 (fdiv .f64 (fsub .f64 x_0' 4607182418800017408) (fadd .f64 x_0' 4607182418800017408)) (fdiv .f64 (fsub .f64 x_0' 4607182418800017408) (fadd .f64 x_0' 4607182418800017408))), .float .f64 q, .float .f64 k, g8, g9, g10, g11, g12, g13, g14, g15, g16, g17, g18, g19, .float .f64 x_0', .float .f64 (fsub .f64 x_0' 4607182418800017408), .float .f64 x_0', .float .f64 (fadd .f64 x_0' 4607182418800017408), .float .f64 (fdiv .f64 (fsub .f64 x_0' 4607182418800017408) (fadd .f64 x_0' 4607182418800017408)), .float .f64 (fdiv .f64 (fsub .f64 x_0' 4607182418800017408) (fadd .f64 x_0' 4607182418800017408)), .float .f64 (fdiv .f64 (fsub .f64 x_0' 4607182418800017408) (fadd .f64 x_0' 4607182418800017408)), .float .f64 (fmul .f64 (fdiv .f64 (fsub .f64 x_0' 4607182418800017408) (fadd .f64 x_0' 4607182418800017408)) (fdiv .f64 (fsub .f64 x_0' 4607182418800017408) (fadd .f64 x_0' 4607182418800017408))), g28, g29, g30, g31, g32, g33, g34, g35, g36, g37, undef, undef, undef, undef, undef, undef, undef] H := ⟨μ', hm, q, k, g28, g29, g30, g31, g32, g33, g34, g35, g36, g37, rfl, hI⟩
theorem impl_naturalLog_x3_4 (g10 : Value) (g11 : Value) (g12 : Value) (g13 : Value) (g14 : Value) (g15 : Value) (g16 : Value) (g17 : Value) (g18 : Value) (g19 : Value) (g8 : Value) (g9 : Value) (ve_3 : Nat) (x_0' : Nat) (q : Nat) (k : Nat) (g28 g29 g30 g31 g32 g33 g34 g35 g36 g37 : Value) (H : AHeap) (K : Value → AHeap → Prop)  {I : Nat → List Value → AHeap → Prop} {μ : Nat} : loopQ I μ (blockQ 4 (seqQ (exK Try.prog E_impl_naturalLog (cr (cr (cr (cr (cr (cr (cr (cr (bodyC Try.f124)))))))))) (retK Try.prog Try.f124 K))) (.exit 4) [.float .f64 x_0', undef, .float .f64 0, .float .f64 ve_3, .float .f64 (fdiv .f64 (fsub .f64 x_0' 4607182418800017408) (fadd .f64 x_0' 4607182418800017408)), .float .f64 (fmul .f64 (fdiv .f64 (fsub .f64 x_0' 4607182418800017408) (fadd .f64 x_0' 4607182418800017408)) (fdiv .f64 (fsub .f64 x_0' 4607182418800017408) (fadd .f64 x_0' 4607182418800017408))), .float .f64 q, .float .f64 k, g8, g9, g10, g11, g12, g13, g14, g15, g16, g17, g18, g19, .float .f64 x_0', .float .f64 (fsub .f64 x_0' 4607182418800017408), .float .f64 x_0', .float .f64 (fadd .f64 x_0' 4607182418800017408), .float .f64 (fdiv .f64 (fsub .f64 x_0' 4607182418800017408) (fadd .f64 x_0' 4607182418800017408)), .float .f64 (fdiv .f64 (fsub .f64 x_0' 4607182418800017408) (fadd .f64 x_0' 4607182418800017408)), .float .f64 (fdiv .f64 (fsub .f64 x_0' 4607182418800017408) (fadd .f64 x_0' 4607182418800017408)), .float .f64 (fmul .f64 (fdiv .f64 (fsub .f64 x_0' 4607182418800017408) (fadd .f64 x_0' 4607182418800017408)) (fdiv .f64 (fsub .f64 x_0' 4607182418800017408) (fadd .f64 x_0' 4607182418800017408))), g28, g29, g30, g31, g32, g33, g34, g35, g36, g37, undef, undef, undef, undef, undef, undef, undef] H =
  (K (.float .f64 (fadd .f64 (fmul .f64 4611686018427387904 (fmul .f64 (fdiv .f64 (fsub .f64 x_0' 4607182418800017408) (fadd .f64 x_0' 4607182418800017408)) q)) (fmul .f64 ve_3 4604418534313441775))) H) := by kernel_rfl
theorem E_impl_naturalLog_ok : ∀ g, FnOk Try.prog g (E_impl_naturalLog g) := FnOk.envOf (by
  intro x hx; cases hx)
set_option maxHeartbeats 1000000 in
theorem impl_naturalLog_main (x : Nat) (H : AHeap) (K : Value → AHeap → Prop) (h : T_impl_naturalLog x H fun (r1 : Nat) (H' : AHeap) => K (.float .f64 r1) H') : bodyK Try.prog E_impl_naturalLog Try.f124 [.float .f64 x] H K := by
  rw [impl_naturalLog_vc]
  obtain ⟨pr0, pr1, hk⟩ := h
  have e : (p_impl_naturalLog x) = _ := rfl
  have e := e.trans (p_impl_naturalLog_eq x)
  have g0 := Grow.refl H
  refine impl_naturalLog_L1  (fun (μ : Nat) (x_0 : Nat) (ve : Nat) (H_1 : AHeap) => H = H_1 ∧ 4503599627370496 ≤ x_0 ∧ x_0 < 9218868437227405312 ∧ (x_0 : Int) ≤ (μ : Int) ∧ p_impl_naturalLog x = p_impl_naturalLog_l1 x (μ + 1) x_0 ve) (Int.toNat ((x : Int))) _ _ _ _ _ _ _ _ H ?_ ?_
  · exact ⟨rfl, (by first | omega | (simp; done) | (simp; omega) | (have := half_step (by assumption) (by assumption) (by assumption); omega)), (by first | omega | (simp; done) | (simp; omega) | (have := half_step (by assumption) (by assumption) (by assumption); omega)), (by omega), e⟩
  · intro μ x_0 ve g8 g9 g10 g11 g12 g13 H_1 hI
    obtain ⟨rfl, v_1, v_2, hμ, e⟩ := hI
    rw [impl_naturalLog_r1]
    have e := e.trans (p_impl_naturalLog_l1_s x μ x_0 ve)
    have l_3 := g0.1
    refine Br.intro (fun c_4 => ?_) (fun c_4 => ?_)
    · have e := e.trans (cond_t c_4)
      refine impl_naturalLog_n1 (μ - 1) (by first | omega | (have := half_step (by assumption) (by assumption) (by assumption); omega)) ⟨rfl, (by first | omega | (have := half_step (by assumption) (by assumption) (by assumption); omega) | (simp only [List.length_append, List.length_cons, List.length_nil, List.length_set]; done) | (simp only [List.length_append, List.length_cons, List.length_nil, List.length_set]; omega)), (by first | omega | (have := half_step (by assumption) (by assumption) (by assumption); omega) | (simp only [List.length_append, List.length_cons, List.length_nil, List.length_set]; done) | (simp only [List.length_append, List.length_cons, List.length_nil, List.length_set]; omega)), (by first | omega | (have := half_step (by assumption) (by assumption) (by assumption); omega)), (by rw [show μ - 1 + 1 = μ from by first | omega | (have := half_step (by assumption) (by assumption) (by assumption); omega)]; exact e)⟩
    · have e := e.trans (cond_f c_4)
      rw [impl_naturalLog_x1_0]
      refine impl_naturalLog_L2 _ _ _ _ _ _ (fun (μ2 : Nat) (x_0' : Nat) (ve_3 : Nat) (H_2 : AHeap) => H = H_2 ∧ 4503599627370496 ≤ x_0' ∧ x_0' < 9218868437227405312 ∧ (4604930618986332160 : Int) - x_0' ≤ (μ2 : Int) ∧ p_impl_naturalLog x = p_impl_naturalLog_l2 x x_0 ve (fun (x_0' : Nat) (ve_3 : Nat) => (p_impl_naturalLog_l3 x x_0 ve x_0' ve_3 (fun (q : Nat) (k : Nat) => fadd .f64 (fmul .f64 4611686018427387904 (fmul .f64 (fdiv .f64 (fsub .f64 x_0' 4607182418800017408) (fadd .f64 x_0' 4607182418800017408)) q)) (fmul .f64 ve_3 4604418534313441775)) (Int.toNat (cnt 4627730092099895296) + 1) 0 4627730092099895296)) (μ2 + 1) x_0' ve_3) (Int.toNat ((4604930618986332160 : Int) - x_0)) _ _ _ _ _ _ _ _ H ?_ ?_
      · exact ⟨rfl, (by first | omega | (simp; done) | (simp; omega) | (have := twice_step (by assumption) (by assumption) (by assumption); omega)), (by first | omega | (simp; done) | (simp; omega) | (have := twice_step (by assumption) (by assumption) (by assumption); omega)), (by omega), e⟩
      · intro μ2 x_0' ve_3 g14 g15 g16 g17 g18 g19 H_2 hI
        obtain ⟨rfl, v_5, v_6, hμ, e⟩ := hI
        rw [impl_naturalLog_r2]
        have e := e.trans (p_impl_naturalLog_l2_s x x_0 ve (fun (x_0' : Nat) (ve_3 : Nat) => (p_impl_naturalLog_l3 x x_0 ve x_0' ve_3 (fun (q : Nat) (k : Nat) => fadd .f64 (fmul .f64 4611686018427387904 (fmul .f64 (fdiv .f64 (fsub .f64 x_0' 4607182418800017408) (fadd .f64 x_0' 4607182418800017408)) q)) (fmul .f64 ve_3 4604418534313441775)) (Int.toNat (cnt 4627730092099895296) + 1) 0 4627730092099895296)) μ2 x_0' ve_3)
        have l_7 := g0.1
        refine Br.intro (fun c_8 => ?_) (fun c_8 => ?_)
        · have e := e.trans (cond_t c_8)
          refine impl_naturalLog_n2 (μ2 - 1) (by first | omega | (have := twice_step (by assumption) (by assumption) (by assumption); omega)) ⟨rfl, (by first | omega | (have := twice_step (by assumption) (by assumption) (by assumption); omega) | (simp only [List.length_append, List.length_cons, List.length_nil, List.length_set]; done) | (simp only [List.length_append, List.length_cons, List.length_nil, List.length_set]; omega)), (by first | omega | (have := twice_step (by assumption) (by assumption) (by assumption); omega) | (simp only [List.length_append, List.length_cons, List.length_nil, List.length_set]; done) | (simp only [List.length_append, List.length_cons, List.length_nil, List.length_set]; omega)), (by first | omega | (have := twice_step (by assumption) (by assumption) (by assumption); omega)), (by rw [show μ2 - 1 + 1 = μ2 from by first | omega | (have := twice_step (by assumption) (by assumption) (by assumption); omega)]; exact e)⟩
        · have e := e.trans (cond_f c_8)
          rw [impl_naturalLog_x2_2]
          refine impl_naturalLog_L3 _ _ _ _ _ _ _ _ _ _ _ _ _ _ (fun (μ3 : Nat) (q : Nat) (k : Nat) (H_3 : AHeap) => H = H_3 ∧ isCnt k ∧ cnt k ≤ (μ3 : Int) ∧ p_impl_naturalLog x = p_impl_naturalLog_l3 x x_0 ve x_0' ve_3 (fun (q : Nat) (k : Nat) => fadd .f64 (fmul .f64 4611686018427387904 (fmul .f64 (fdiv .f64 (fsub .f64 x_0' 4607182418800017408) (fadd .f64 x_0' 4607182418800017408)) q)) (fmul .f64 ve_3 4604418534313441775)) (μ3 + 1) q k) (Int.toNat (cnt 4627730092099895296)) _ _ _ _ _ _ _ _ _ _ _ _ H ?_ ?_
          · exact ⟨rfl, (by first | omega | (simp; done) | (simp; omega) | (first | exact isCnt.of (n := 25) (by decide) (by decide) | exact (down2 (by assumption) (by assumption)).1)), (by omega), e⟩
          · intro μ3 q k g28 g29 g30 g31 g32 g33 g34 g35 g36 g37 H_3 hI
            obtain ⟨rfl, v_9, hμ, e⟩ := hI
            rw [impl_naturalLog_r3]
            have e := e.trans (p_impl_naturalLog_l3_s x x_0 ve x_0' ve_3 (fun (q : Nat) (k : Nat) => fadd .f64 (fmul .f64 4611686018427387904 (fmul .f64 (fdiv .f64 (fsub .f64 x_0' 4607182418800017408) (fadd .f64 x_0' 4607182418800017408)) q)) (fmul .f64 ve_3 4604418534313441775)) μ3 q k)
            have l_10 := g0.1
            refine Br.intro (fun c_11 => ?_) (fun c_11 => ?_)
            · have e := e.trans (cond_t c_11)
              refine impl_naturalLog_n3 (μ3 - 1) (by first | omega | (have := down2 (by assumption) (by assumption); omega)) ⟨rfl, (by first | omega | (first | exact isCnt.of (n := 25) (by decide) (by decide) | exact (down2 (by assumption) (by assumption)).1) | (simp only [List.length_append, List.length_cons, List.length_nil, List.length_set]; done) | (simp only [List.length_append, List.length_cons, List.length_nil, List.length_set]; omega)), (by first | omega | (have := down2 (by assumption) (by assumption); omega)), (by rw [show μ3 - 1 + 1 = μ3 from by first | omega | (have := down2 (by assumption) (by assumption); omega)]; exact e)⟩
            · have e := e.trans (cond_f c_11)
              rw [impl_naturalLog_x3_4]
              rw [e] at hk
              exact hk
theorem impl_naturalLog_ok : FnOk Try.prog 124 S_impl_naturalLog := by
  refine FnOk.body mix_ok E_impl_naturalLog_ok Try.func124 rfl (by kernel_rfl) (by kernel_rfl) ?_ ?_ ?_ ?_ ?_
  · intro args H K K' h hk
    simp only [S_impl_naturalLog] at *
    unfold F_impl_naturalLog at *
    split at hk
    · obtain ⟨pr0, pr1, k⟩ := hk
      exact ⟨pr0, pr1, h _ _ k⟩
    · exact hk.elim
  · intro _ args H K hk
    simp only [S_impl_naturalLog] at *
    unfold F_impl_naturalLog at *
    split at hk
    · obtain ⟨pr0, pr1, k⟩ := hk
      exact ⟨_, k, fun K' k' => ⟨pr0, pr1, k'⟩⟩
    · exact hk.elim
  · intro args H K hk
    simp only [S_impl_naturalLog] at *
    unfold F_impl_naturalLog at *
    split at hk
    · obtain ⟨pr0, pr1, k⟩ := hk
      exact ⟨_, _, k⟩
    · exact hk.elim
  · intro hq; cases hq
  · have mm := @impl_naturalLog_main
    revert mm
    generalize bodyK Try.prog E_impl_naturalLog Try.f124 = Q
    intro mm args H K hk
    simp only [S_impl_naturalLog] at *
    unfold F_impl_naturalLog at *
    split at hk
    · exact mm _ H K hk
    · exact hk.elim
def p_impl_LogNumber (x : Nat) : Nat := (bif feq .f32 x 0 then ((fnarrow ((p_math_Inf ((-1) : Int)))).getD 0) else (bif flt .f32 x 0 then ((fnarrow p_math_NaN).getD 0) else (bif !(feq .f32 x x) then ((fnarrow p_math_NaN).getD 0) else (bif !(p_impl_IsFinite x) then x else ((fnarrow ((p_impl_naturalLog (fwide x)))).getD 0)))))
theorem p_impl_LogNumber_eq (x : Nat) : p_impl_LogNumber x = (bif feq .f32 x 0 then ((fnarrow ((p_math_Inf ((-1) : Int)))).getD 0) else (bif flt .f32 x 0 then ((fnarrow p_math_NaN).getD 0) else (bif !(feq .f32 x x) then ((fnarrow p_math_NaN).getD 0) else (bif !(p_impl_IsFinite x) then x else ((fnarrow ((p_impl_naturalLog (fwide x)))).getD 0))))) := rfl
def T_impl_LogNumber (x : Nat) (H : AHeap) (K : Nat → AHeap → Prop) : Prop := K (p_impl_LogNumber x) H
theorem T_impl_LogNumber_i {x : Nat} {H : AHeap} {K : Nat → AHeap → Prop} (h : K (p_impl_LogNumber x) H) : T_impl_LogNumber x H K := h
theorem log_pre {x : Nat} (h0 : feq .f32 x 0 = false) (h1 : flt .f32 x 0 = false) (h2 : p_impl_IsFinite x = true) : 4503599627370496 ≤ fwide x ∧ fwide x < 9218868437227405312 :=
  log_pre' h0 h1 (by rw [← fin_asked x]; exact h2)
/-! impl_LogNumber: function 83 -/
def E_impl_LogNumber : Env := envOf [(122, S_math_Inf), (123, S_math_NaN), (62, S_impl_IsFinite), (124, S_impl_naturalLog)]
def F_impl_LogNumber : List Value → AHeap → (Value → AHeap → Prop) → Prop
  | [.float .f32 x], H, K => T_impl_LogNumber x H fun (r1 : Nat) (H' : AHeap) => K (.float .f32 r1) H'
  | _, _, _ => False
def S_impl_LogNumber : FSpec := { F := F_impl_LogNumber, quiet := true, tame := false }
theorem impl_LogNumber_vc (x : Nat) (H : AHeap) (K : Value → AHeap → Prop) : bodyK Try.prog E_impl_LogNumber Try.f83 [.float .f32 x] H K =
  (Br (feq .f32 x 0) (T_math_Inf (-1) H fun (r1 : Nat) (H1 : AHeap) => ∃ x1 : Nat, fnarrow r1 = some x1 ∧ K (.float .f32 x1) H1) (Br (flt .f32 x 0) (T_math_NaN  H fun (r2 : Nat) (H2 : AHeap) => ∃ x2 : Nat, fnarrow r2 = some x2 ∧ K (.float .f32 x2) H2) (Br (!(feq .f32 x x)) (T_math_NaN  H fun (r3 : Nat) (H3 : AHeap) => ∃ x3 : Nat, fnarrow r3 = some x3 ∧ K (.float .f32 x3) H3) (T_impl_IsFinite x H fun (r4 : Bool) (H4 : AHeap) => Br (!r4) (K (.float .f32 x) H4) (T_impl_naturalLog (fwide x) H4 fun (r5 : Nat) (H5 : AHeap) => ∃ x4 : Nat, fnarrow r5 = some x4 ∧ K (.float .f32 x4) H5))))) := by kernel_rfl
theorem E_impl_LogNumber_ok : ∀ g, FnOk Try.prog g (E_impl_LogNumber g) := FnOk.envOf (by
  intro x hx
  simp only [List.mem_cons, List.not_mem_nil, or_false] at hx
  rcases hx with rfl | rfl | rfl | rfl
  · exact math_Inf_ok
  · exact math_NaN_ok
  · exact impl_IsFinite_ok
  · exact impl_naturalLog_ok)
set_option maxHeartbeats 1000000 in
theorem impl_LogNumber_main (x : Nat) (H : AHeap) (K : Value → AHeap → Prop) (h : T_impl_LogNumber x H fun (r1 : Nat) (H' : AHeap) => K (.float .f32 r1) H') : bodyK Try.prog E_impl_LogNumber Try.f83 [.float .f32 x] H K := by
  rw [impl_LogNumber_vc]
  have hk := h
  unfold T_impl_LogNumber at hk
  have e : (p_impl_LogNumber x) = _ := rfl
  have e := e.trans (p_impl_LogNumber_eq x)
  have g0 := Grow.refl H
  refine Br.intro (fun c_1 => ?_) (fun c_1 => ?_)
  · have e := e.trans (cond_t c_1)
    refine T_math_Inf_i ?_
    refine ⟨_, opt_get (d := 0) (by decide +kernel), ?_⟩
    rw [e] at hk
    exact hk
  · have e := e.trans (cond_f c_1)
    refine Br.intro (fun c_2 => ?_) (fun c_2 => ?_)
    · have e := e.trans (cond_t c_2)
      refine T_math_NaN_i ?_
      refine ⟨_, opt_get (d := 0) (by decide +kernel), ?_⟩
      rw [e] at hk
      exact hk
    · have e := e.trans (cond_f c_2)
      refine Br.intro (fun c_3 => ?_) (fun c_3 => ?_)
      · have e := e.trans (cond_t c_3)
        have c_3n := nf_of_t c_3
        refine T_math_NaN_i ?_
        refine ⟨_, opt_get (d := 0) (by decide +kernel), ?_⟩
        rw [e] at hk
        exact hk
      · have e := e.trans (cond_f c_3)
        have c_3n := nt_of_f c_3
        refine T_impl_IsFinite_i ?_
        refine Br.intro (fun c_4 => ?_) (fun c_4 => ?_)
        · have e := e.trans (cond_t c_4)
          have c_4n := nf_of_t c_4
          rw [e] at hk
          exact hk
        · have e := e.trans (cond_f c_4)
          have c_4n := nt_of_f c_4
          refine T_impl_naturalLog_i ⟨(by first | assumption | omega | (simp; omega) | (first | exact (log_pre (by assumption) (by assumption) (by assumption)).1 | exact (log_pre (by assumption) (by assumption) (by assumption)).2)), (by first | assumption | omega | (simp; omega) | (first | exact (log_pre (by assumption) (by assumption) (by assumption)).1 | exact (log_pre (by assumption) (by assumption) (by assumption)).2)), ?_⟩
          refine ⟨_, opt_get (d := 0) (by exact impl_naturalLog_nar (log_pre (by assumption) (by assumption) (by assumption))), ?_⟩
          rw [e] at hk
          exact hk
theorem impl_LogNumber_ok : FnOk Try.prog 83 S_impl_LogNumber := by
  refine FnOk.body mix_ok E_impl_LogNumber_ok Try.func83 rfl (by kernel_rfl) (by kernel_rfl) ?_ ?_ ?_ ?_ ?_
  · intro args H K K' h hk
    simp only [S_impl_LogNumber] at *
    unfold F_impl_LogNumber at *
    split at hk
    · have k := hk
      exact h _ _ k
    · exact hk.elim
  · intro _ args H K hk
    simp only [S_impl_LogNumber] at *
    unfold F_impl_LogNumber at *
    split at hk
    · have k := hk
      exact ⟨_, k, fun K' k' => k'⟩
    · exact hk.elim
  · intro args H K hk
    simp only [S_impl_LogNumber] at *
    unfold F_impl_LogNumber at *
    split at hk
    · have k := hk
      exact ⟨_, _, k⟩
    · exact hk.elim
  · intro hq; cases hq
  · have mm := @impl_LogNumber_main
    revert mm
    generalize bodyK Try.prog E_impl_LogNumber Try.f83 = Q
    intro mm args H K hk
    simp only [S_impl_LogNumber] at *
    unfold F_impl_LogNumber at *
    split at hk
    · exact mm _ H K hk
    · exact hk.elim
def p_impl_ClearnessOf (l_a : List Nat) (l_b : List Nat) : Nat × Bool := (bif !((p_impl_MissOfLists l_a l_b).2) then (0, false) else (bif !(flt .f32 0 ((p_impl_MissOfLists l_a l_b).1)) then (0, false) else (bif !(flt .f32 0 (fdiv .f32 (p_impl_squares l_a) (FloatKind.nearest .f32 (l_a.length : Int)))) then (0, false) else ((p_impl_finite (fmul .f32 1082849639 ((p_impl_LogNumber (fdiv .f32 (fdiv .f32 (p_impl_squares l_a) (FloatKind.nearest .f32 (l_a.length : Int))) ((p_impl_MissOfLists l_a l_b).1)))))).1, (p_impl_finite (fmul .f32 1082849639 ((p_impl_LogNumber (fdiv .f32 (fdiv .f32 (p_impl_squares l_a) (FloatKind.nearest .f32 (l_a.length : Int))) ((p_impl_MissOfLists l_a l_b).1)))))).2))))
theorem p_impl_ClearnessOf_eq (l_a : List Nat) (l_b : List Nat) : p_impl_ClearnessOf l_a l_b = (bif !((p_impl_MissOfLists l_a l_b).2) then (0, false) else (bif !(flt .f32 0 ((p_impl_MissOfLists l_a l_b).1)) then (0, false) else (bif !(flt .f32 0 (fdiv .f32 (p_impl_squares l_a) (FloatKind.nearest .f32 (l_a.length : Int)))) then (0, false) else ((p_impl_finite (fmul .f32 1082849639 ((p_impl_LogNumber (fdiv .f32 (fdiv .f32 (p_impl_squares l_a) (FloatKind.nearest .f32 (l_a.length : Int))) ((p_impl_MissOfLists l_a l_b).1)))))).1, (p_impl_finite (fmul .f32 1082849639 ((p_impl_LogNumber (fdiv .f32 (fdiv .f32 (p_impl_squares l_a) (FloatKind.nearest .f32 (l_a.length : Int))) ((p_impl_MissOfLists l_a l_b).1)))))).2)))) := rfl
def T_impl_ClearnessOf (a_a : Option Addr) (a_n : Nat) (a_e : Nat) (b_a : Option Addr) (b_n : Nat) (b_e : Nat) (H : AHeap) (K : Nat → Bool → AHeap → Prop) : Prop := ∃ (l_a : List Nat), ∃ (l_b : List Nat), IsL fF H a_a a_n l_a ∧ IsL fF H b_a b_n l_b ∧ l_a.length < 1073741824 ∧ l_b.length < 1073741824 ∧ ((∀ H' : AHeap, Grow H H' → K ((p_impl_ClearnessOf l_a l_b).1) ((p_impl_ClearnessOf l_a l_b).2) H'))
theorem T_impl_ClearnessOf_i {a_a : Option Addr} {a_n : Nat} {a_e : Nat} {b_a : Option Addr} {b_n : Nat} {b_e : Nat} {H : AHeap} {K : Nat → Bool → AHeap → Prop} (h : ∃ (l_a : List Nat), ∃ (l_b : List Nat), IsL fF H a_a a_n l_a ∧ IsL fF H b_a b_n l_b ∧ l_a.length < 1073741824 ∧ l_b.length < 1073741824 ∧ ((∀ H' : AHeap, Grow H H' → K ((p_impl_ClearnessOf l_a l_b).1) ((p_impl_ClearnessOf l_a l_b).2) H'))) : T_impl_ClearnessOf a_a a_n a_e b_a b_n b_e H K := h

/-! impl_ClearnessOf: function 34 -/
def E_impl_ClearnessOf : Env := envOf [(85, S_impl_MissOfLists), (79, S_impl_squares), (83, S_impl_LogNumber), (65, S_impl_finite)]
def F_impl_ClearnessOf : List Value → AHeap → (Value → AHeap → Prop) → Prop
  | [.slice a_a a_n a_e, .slice b_a b_n b_e], H, K => T_impl_ClearnessOf a_a a_n a_e b_a b_n b_e H fun (r1 : Nat) (r2 : Bool) (H' : AHeap) => K (.tuple #[.float .f32 r1, .bool r2]) H'
  | _, _, _ => False
def S_impl_ClearnessOf : FSpec := { F := F_impl_ClearnessOf, quiet := false, tame := true }
theorem impl_ClearnessOf_vc (a_a : Option Addr) (a_n : Nat) (a_e : Nat) (b_a : Option Addr) (b_n : Nat) (b_e : Nat) (H : AHeap) (K : Value → AHeap → Prop) : bodyK Try.prog E_impl_ClearnessOf Try.f34 [.slice a_a a_n a_e, .slice b_a b_n b_e] H K =
  (T_impl_MissOfLists a_a a_n a_e b_a b_n b_e H fun (r1 : Nat) (r2 : Bool) (H1 : AHeap) => Br (!r2) (K (.tuple #[.float .f32 0, .bool false]) H1) (T_impl_squares a_a a_n a_e H1 fun (r3 : Nat) (H2 : AHeap) => Br (!(flt .f32 0 r1)) (K (.tuple #[.float .f32 0, .bool false]) H2) (Br (!(flt .f32 0 (fdiv .f32 r3 (FloatKind.nearest .f32 (a_n : Int))))) (K (.tuple #[.float .f32 0, .bool false]) H2) (T_impl_LogNumber (fdiv .f32 (fdiv .f32 r3 (FloatKind.nearest .f32 (a_n : Int))) r1) H2 fun (r4 : Nat) (H3 : AHeap) => T_impl_finite (fmul .f32 1082849639 r4) H3 fun (r5 : Nat) (r6 : Bool) (H4 : AHeap) => K (.tuple #[.float .f32 r5, .bool r6]) H4)))) := by kernel_rfl
theorem E_impl_ClearnessOf_ok : ∀ g, FnOk Try.prog g (E_impl_ClearnessOf g) := FnOk.envOf (by
  intro x hx
  simp only [List.mem_cons, List.not_mem_nil, or_false] at hx
  rcases hx with rfl | rfl | rfl | rfl
  · exact impl_MissOfLists_ok
  · exact impl_squares_ok
  · exact impl_LogNumber_ok
  · exact impl_finite_ok)
set_option maxHeartbeats 1000000 in
theorem impl_ClearnessOf_main (a_a : Option Addr) (a_n : Nat) (a_e : Nat) (b_a : Option Addr) (b_n : Nat) (b_e : Nat) (H : AHeap) (K : Value → AHeap → Prop) (h : T_impl_ClearnessOf a_a a_n a_e b_a b_n b_e H fun (r1 : Nat) (r2 : Bool) (H' : AHeap) => K (.tuple #[.float .f32 r1, .bool r2]) H') : bodyK Try.prog E_impl_ClearnessOf Try.f34 [.slice a_a a_n a_e, .slice b_a b_n b_e] H K := by
  rw [impl_ClearnessOf_vc]
  obtain ⟨l_a, l_b, i_a, i_b, bd_8, bd_9, hk⟩ := h
  obtain rfl := i_a.eqn
  obtain rfl := i_b.eqn
  have e : (p_impl_ClearnessOf l_a l_b) = _ := rfl
  have e := e.trans (p_impl_ClearnessOf_eq l_a l_b)
  have g0 := Grow.refl H
  refine T_impl_MissOfLists_i ⟨_, _, (i_a.grow g0), (i_b.grow g0), (by first | omega | (simp only [List.length_set, List.length_replicate, List.length_append, List.length_cons, List.length_nil, List.length_take, List.length_drop, marks_length]; done) | (simp only [List.length_set, List.length_replicate, List.length_append, List.length_cons, List.length_nil, List.length_take, List.length_drop, marks_length]; omega)), (by first | omega | (simp only [List.length_set, List.length_replicate, List.length_append, List.length_cons, List.length_nil, List.length_take, List.length_drop, marks_length]; done) | (simp only [List.length_set, List.length_replicate, List.length_append, List.length_cons, List.length_nil, List.length_take, List.length_drop, marks_length]; omega)), fun  H_1 g_1  => ?_⟩
  have l_2 := g_1.1
  have g_3 := g0.trans g_1
  have l_4 := g_3.1
  refine Br.intro (fun c_5 => ?_) (fun c_5 => ?_)
  · have e := e.trans (cond_t c_5)
    have c_5n := nf_of_t c_5
    rw [e] at hk
    exact hk  H_1 g_3 
  · have e := e.trans (cond_f c_5)
    have c_5n := nt_of_f c_5
    refine T_impl_squares_i ⟨_, (i_a.grow g_3), (by first | omega | (simp only [List.length_set, List.length_replicate, List.length_append, List.length_cons, List.length_nil, List.length_take, List.length_drop, marks_length]; done) | (simp only [List.length_set, List.length_replicate, List.length_append, List.length_cons, List.length_nil, List.length_take, List.length_drop, marks_length]; omega)), ?_⟩
    refine Br.intro (fun c_6 => ?_) (fun c_6 => ?_)
    · have e := e.trans (cond_t c_6)
      have c_6n := nf_of_t c_6
      rw [e] at hk
      exact hk  H_1 g_3 
    · have e := e.trans (cond_f c_6)
      have c_6n := nt_of_f c_6
      refine Br.intro (fun c_7 => ?_) (fun c_7 => ?_)
      · have e := e.trans (cond_t c_7)
        have c_7n := nf_of_t c_7
        rw [e] at hk
        exact hk  H_1 g_3 
      · have e := e.trans (cond_f c_7)
        have c_7n := nt_of_f c_7
        refine T_impl_LogNumber_i ?_
        refine T_impl_finite_i ?_
        rw [e] at hk
        exact hk  H_1 g_3 
theorem impl_ClearnessOf_ok : FnOk Try.prog 34 S_impl_ClearnessOf := by
  refine FnOk.body mix_ok E_impl_ClearnessOf_ok Try.func34 rfl (by kernel_rfl) (by kernel_rfl) ?_ ?_ ?_ ?_ ?_
  · intro args H K K' h hk
    simp only [S_impl_ClearnessOf] at *
    unfold F_impl_ClearnessOf at *
    split at hk
    · obtain ⟨l_a, l_b, i_a, i_b, bd_8, bd_9, k⟩ := hk
      exact ⟨l_a, l_b, i_a, i_b, bd_8, bd_9, (fun  H' gg  => h _ _ (k  H' gg ))⟩
    · exact hk.elim
  · intro hq; cases hq
  · intro args H K hk
    simp only [S_impl_ClearnessOf] at *
    unfold F_impl_ClearnessOf at *
    split at hk
    · obtain ⟨l_a, l_b, i_a, i_b, bd_8, bd_9, k⟩ := hk
      exact ⟨_, _, k H (Grow.refl H)⟩
    · exact hk.elim
  · intro _ args H K hk
    simp only [S_impl_ClearnessOf] at *
    unfold F_impl_ClearnessOf at *
    split at hk
    · obtain ⟨l_a, l_b, i_a, i_b, bd_8, bd_9, k⟩ := hk
      exact ⟨l_a, l_b, i_a, i_b, bd_8, bd_9, (fun  H' gg  => ⟨gg, k  H' gg ⟩)⟩
    · exact hk.elim
  · have mm := @impl_ClearnessOf_main
    revert mm
    generalize bodyK Try.prog E_impl_ClearnessOf Try.f34 = Q
    intro mm args H K hk
    simp only [S_impl_ClearnessOf] at *
    unfold F_impl_ClearnessOf at *
    split at hk
    · exact mm _ _ _ _ _ _ H K hk
    · exact hk.elim
def p_laws_sameFloat (a : Nat) (b : Nat) : Bool := ((bif !(feq .f64 a a) then (bif !(feq .f64 a a) then !(feq .f64 b b) else false) else (bif !(feq .f64 b b) then (bif !(feq .f64 a a) then !(feq .f64 b b) else false) else (bif feq .f64 a 0 then (bif feq .f64 b 0 then (flt .f64 0 (fdiv .f64 4607182418800017408 a)) == (flt .f64 0 (fdiv .f64 4607182418800017408 b)) else feq .f64 a b) else feq .f64 a b))))
theorem p_laws_sameFloat_eq (a : Nat) (b : Nat) : p_laws_sameFloat a b = ((bif !(feq .f64 a a) then (bif !(feq .f64 a a) then !(feq .f64 b b) else false) else (bif !(feq .f64 b b) then (bif !(feq .f64 a a) then !(feq .f64 b b) else false) else (bif feq .f64 a 0 then (bif feq .f64 b 0 then (flt .f64 0 (fdiv .f64 4607182418800017408 a)) == (flt .f64 0 (fdiv .f64 4607182418800017408 b)) else feq .f64 a b) else feq .f64 a b)))) := rfl
def T_laws_sameFloat (a : Nat) (b : Nat) (H : AHeap) (K : Bool → AHeap → Prop) : Prop := K (p_laws_sameFloat a b) H

theorem T_laws_sameFloat_i {a : Nat} {b : Nat} {H : AHeap} {K : Bool → AHeap → Prop} (h : K (p_laws_sameFloat a b) H) : T_laws_sameFloat a b H K := h
/-! laws_sameFloat: function 18 -/
def E_laws_sameFloat : Env := envOf []
def F_laws_sameFloat : List Value → AHeap → (Value → AHeap → Prop) → Prop
  | [.float .f64 a, .float .f64 b], H, K => T_laws_sameFloat a b H fun (r1 : Bool) (H' : AHeap) => K (.bool r1) H'
  | _, _, _ => False
def S_laws_sameFloat : FSpec := { F := F_laws_sameFloat, quiet := true, tame := false }
theorem laws_sameFloat_vc (a : Nat) (b : Nat) (H : AHeap) (K : Value → AHeap → Prop) : bodyK Try.prog E_laws_sameFloat Try.f18 [.float .f64 a, .float .f64 b] H K =
  (Br (!(feq .f64 a a)) (Br (!(feq .f64 a a)) (K (.bool (!(feq .f64 b b))) H) (K (.bool false) H)) (Br (!(feq .f64 b b)) (Br (!(feq .f64 a a)) (K (.bool (!(feq .f64 b b))) H) (K (.bool false) H)) (Br (feq .f64 a 0) (Br (feq .f64 b 0) (K (.bool ((flt .f64 0 (fdiv .f64 4607182418800017408 a)) == (flt .f64 0 (fdiv .f64 4607182418800017408 b)))) H) (K (.bool (feq .f64 a b)) H)) (K (.bool (feq .f64 a b)) H)))) := by kernel_rfl
theorem E_laws_sameFloat_ok : ∀ g, FnOk Try.prog g (E_laws_sameFloat g) := FnOk.envOf (by
  intro x hx; cases hx)
set_option maxHeartbeats 1000000 in
theorem laws_sameFloat_main (a : Nat) (b : Nat) (H : AHeap) (K : Value → AHeap → Prop) (h : T_laws_sameFloat a b H fun (r1 : Bool) (H' : AHeap) => K (.bool r1) H') : bodyK Try.prog E_laws_sameFloat Try.f18 [.float .f64 a, .float .f64 b] H K := by
  rw [laws_sameFloat_vc]
  unfold T_laws_sameFloat p_laws_sameFloat at h
  repeat' (first | exact h | (exfalso; simp_all; done) | (refine ⟨by decide, ?_⟩) | (refine Br.intro (fun hb => ?_) (fun hb => ?_) <;> (try simp only [hb, cond_true, cond_false, Bool.not_true, Bool.not_false] at h)))
theorem laws_sameFloat_ok : FnOk Try.prog 18 S_laws_sameFloat := by
  refine FnOk.body mix_ok E_laws_sameFloat_ok Try.func18 rfl (by kernel_rfl) (by kernel_rfl) ?_ ?_ ?_ ?_ ?_
  · intro args H K K' h hk
    simp only [S_laws_sameFloat] at *
    unfold F_laws_sameFloat at *
    split at hk
    · have k := hk
      exact h _ _ k
    · exact hk.elim
  · intro _ args H K hk
    simp only [S_laws_sameFloat] at *
    unfold F_laws_sameFloat at *
    split at hk
    · have k := hk
      exact ⟨_, k, fun K' k' => k'⟩
    · exact hk.elim
  · intro args H K hk
    simp only [S_laws_sameFloat] at *
    unfold F_laws_sameFloat at *
    split at hk
    · have k := hk
      exact ⟨_, _, k⟩
    · exact hk.elim
  · intro hq; cases hq
  · have mm := @laws_sameFloat_main
    revert mm
    generalize bodyK Try.prog E_laws_sameFloat Try.f18 = Q
    intro mm args H K hk
    simp only [S_laws_sameFloat] at *
    unfold F_laws_sameFloat at *
    split at hk
    · exact mm _ _ H K hk
    · exact hk.elim
def p_laws_eqFloat32S_l1 (l_a : List Nat) (l_b : List Nat) : Nat → Bool → Int → Bool
  | 0, _, _ => false
  | μ + 1, t4, i => (bif decide ((i : Int) < (l_a.length : Int)) then (bif !((p_laws_sameFloat (fwide (((l_a).getD (i : Int).toNat 0))) (fwide (((l_b).getD (i : Int).toNat 0))))) then false else (p_laws_eqFloat32S_l1 l_a l_b μ t4 (i + 1))) else true)
theorem p_laws_eqFloat32S_l1_s (l_a : List Nat) (l_b : List Nat) (μ : Nat) (t4 : Bool) (i : Int) : p_laws_eqFloat32S_l1 l_a l_b (μ + 1) t4 i = (bif decide ((i : Int) < (l_a.length : Int)) then (bif !((p_laws_sameFloat (fwide (((l_a).getD (i : Int).toNat 0))) (fwide (((l_b).getD (i : Int).toNat 0))))) then false else (p_laws_eqFloat32S_l1 l_a l_b μ t4 (i + 1))) else true) := rfl
def p_laws_eqFloat32S (l_a : List Nat) (l_b : List Nat) : Bool := ((bif ((l_a.length : Int) : Int) != (l_b.length : Int) then false else (p_laws_eqFloat32S_l1 l_a l_b (Int.toNat ((l_a.length : Int) - (0 : Int)) + 1) false (0 : Int))))
theorem p_laws_eqFloat32S_eq (l_a : List Nat) (l_b : List Nat) : p_laws_eqFloat32S l_a l_b = ((bif ((l_a.length : Int) : Int) != (l_b.length : Int) then false else (p_laws_eqFloat32S_l1 l_a l_b (Int.toNat ((l_a.length : Int) - (0 : Int)) + 1) false (0 : Int)))) := rfl
def T_laws_eqFloat32S (a_a : Option Addr) (a_n : Nat) (a_e : Nat) (b_a : Option Addr) (b_n : Nat) (b_e : Nat) (H : AHeap) (K : Bool → AHeap → Prop) : Prop := ∃ (l_a : List Nat), ∃ (l_b : List Nat), IsL fF H a_a a_n l_a ∧ IsL fF H b_a b_n l_b ∧ l_a.length < 1073741824 ∧ l_b.length < 1073741824 ∧ K (p_laws_eqFloat32S l_a l_b) H
theorem T_laws_eqFloat32S_i {a_a : Option Addr} {a_n : Nat} {a_e : Nat} {b_a : Option Addr} {b_n : Nat} {b_e : Nat} {H : AHeap} {K : Bool → AHeap → Prop} (h : ∃ (l_a : List Nat), ∃ (l_b : List Nat), IsL fF H a_a a_n l_a ∧ IsL fF H b_a b_n l_b ∧ l_a.length < 1073741824 ∧ l_b.length < 1073741824 ∧ K (p_laws_eqFloat32S l_a l_b) H) : T_laws_eqFloat32S a_a a_n a_e b_a b_n b_e H K := h
theorem laws_sameFloat_self (y : Nat) : p_laws_sameFloat y y = true := by
  rw [p_laws_sameFloat_eq]
  cases feq .f64 y y <;> simp
theorem laws_eqFloat32S_go (l : List Nat) : ∀ (μ : Nat) (t : Bool) (i : Nat), l.length - i < μ → p_laws_eqFloat32S_l1 l l μ t (i : Int) = true := by
  intro μ
  induction μ with
  | zero => intro t i h; omega
  | succ μ ih =>
    intro t i hm
    rw [p_laws_eqFloat32S_l1_s]
    by_cases h : i < l.length
    · rw [decide_eq_true (show (i : Int) < (l.length : Int) by omega), cond_true, laws_sameFloat_self]
      simp only [Bool.not_true, cond_false]
      exact ih t (i + 1) (by omega)
    · rw [decide_eq_false (show ¬ (i : Int) < (l.length : Int) by omega), cond_false]
theorem laws_eqFloat32S_self (l : List Nat) : p_laws_eqFloat32S l l = true := by
  rw [p_laws_eqFloat32S_eq]
  have h0 : ((l.length : Int) != (l.length : Int)) = false := by simp
  rw [h0, cond_false]
  exact laws_eqFloat32S_go l _ false 0 (by omega)
/-! laws_eqFloat32S: function 19 -/
def E_laws_eqFloat32S : Env := envOf [(18, S_laws_sameFloat)]
def F_laws_eqFloat32S : List Value → AHeap → (Value → AHeap → Prop) → Prop
  | [.slice a_a a_n a_e, .slice b_a b_n b_e], H, K => T_laws_eqFloat32S a_a a_n a_e b_a b_n b_e H fun (r1 : Bool) (H' : AHeap) => K (.bool r1) H'
  | _, _, _ => False
def S_laws_eqFloat32S : FSpec := { F := F_laws_eqFloat32S, quiet := true, tame := false }
theorem laws_eqFloat32S_vc (a_a : Option Addr) (a_n : Nat) (a_e : Nat) (b_a : Option Addr) (b_n : Nat) (b_e : Nat) (H : AHeap) (K : Value → AHeap → Prop) : bodyK Try.prog E_laws_eqFloat32S Try.f19 [.slice a_a a_n a_e, .slice b_a b_n b_e] H K =
  (Br (((a_n : Int) : Int) != (b_n : Int)) (K (.bool false) H) (loopK (exK Try.prog E_laws_eqFloat32S (cl (cl (cr (cl (cr (cr (bodyC Try.f19)))))))) [.slice a_a a_n a_e, .slice b_a b_n b_e, undef, undef, .bool false, .int .i64 0, .slice a_a a_n a_e, .int .i64 (a_n : Int), .slice b_a b_n b_e, .int .i64 (b_n : Int), .bool (((a_n : Int) : Int) != (b_n : Int)), undef, undef, undef, undef, undef, undef, undef, undef, undef, undef, undef, undef, undef, undef, undef, undef, undef, undef] H (blockQ 0 (seqQ (exK Try.prog E_laws_eqFloat32S (cr (cr (cr (bodyC Try.f19))))) (retK Try.prog Try.f19 K))))) := by kernel_rfl
theorem laws_eqFloat32S_r1 (a_a : Option Addr) (a_e : Nat) (a_n : Nat) (b_a : Option Addr) (b_e : Nat) (b_n : Nat) (t4 : Bool) (i : Int) (g11 g12 g13 g14 g15 g16 g17 g18 g19 g20 g21 g22 g23 g24 g25 g26 g27 g28 : Value) (H : AHeap) (R : Post) : exK Try.prog E_laws_eqFloat32S (cl (cl (cr (cl (cr (cr (bodyC Try.f19))))))) [.slice a_a a_n a_e, .slice b_a b_n b_e, undef, undef, .bool t4, .int .i64 i, .slice a_a a_n a_e, .int .i64 (a_n : Int), .slice b_a b_n b_e, .int .i64 (b_n : Int), .bool (((a_n : Int) : Int) != (b_n : Int)), g11, g12, g13, g14, g15, g16, g17, g18, g19, g20, g21, g22, g23, g24, g25, g26, g27, g28] H R =
  (Br (decide ((i : Int) < (a_n : Int))) ((0 : Int) ≤ i ∧ i < (a_n : Int) ∧ ∃ b1 f1, (a_a : Option Addr) = some ⟨b1, f1, none⟩ ∧ ∃ x1 : Nat,  rdC H b1 (f1 + (i : Int).toNat * 1) = some (.float .f32 x1) ∧ (0 : Int) ≤ i ∧ i < (b_n : Int) ∧ ∃ b2 f2, (b_a : Option Addr) = some ⟨b2, f2, none⟩ ∧ ∃ x2 : Nat,  rdC H b2 (f2 + (i : Int).toNat * 1) = some (.float .f32 x2) ∧ T_laws_sameFloat (fwide x1) (fwide x2) H fun (r1 : Bool) (H1 : AHeap) => Br (!r1) (R .ret [.slice a_a a_n a_e, .slice b_a b_n b_e, undef, undef, .bool false, .int .i64 i, .slice a_a a_n a_e, .int .i64 (a_n : Int), .slice b_a b_n b_e, .int .i64 (b_n : Int), .bool (((a_n : Int) : Int) != (b_n : Int)), .int .i64 i, .slice a_a a_n a_e, .int .i64 (a_n : Int), .bool (decide ((i : Int) < (a_n : Int))), g15, g16, .slice a_a a_n a_e, .int .i64 i, .pointer (some ⟨b1, f1 + (i : Int).toNat * 1, none⟩), .float .f32 x1, .float .f64 (fwide x1), .slice b_a b_n b_e, .int .i64 i, .pointer (some ⟨b2, f2 + (i : Int).toNat * 1, none⟩), .float .f32 x2, .float .f64 (fwide x2), .bool r1, .bool (!r1)] H1) (R .normal [.slice a_a a_n a_e, .slice b_a b_n b_e, undef, undef, .bool t4, .int .i64 (IntKind.wrap .i64 (i + 1)), .slice a_a a_n a_e, .int .i64 (a_n : Int), .slice b_a b_n b_e, .int .i64 (b_n : Int), .bool (((a_n : Int) : Int) != (b_n : Int)), .int .i64 i, .slice a_a a_n a_e, .int .i64 (a_n : Int), .bool (decide ((i : Int) < (a_n : Int))), .int .i64 i, .int .i64 (IntKind.wrap .i64 (i + 1)), .slice a_a a_n a_e, .int .i64 i, .pointer (some ⟨b1, f1 + (i : Int).toNat * 1, none⟩), .float .f32 x1, .float .f64 (fwide x1), .slice b_a b_n b_e, .int .i64 i, .pointer (some ⟨b2, f2 + (i : Int).toNat * 1, none⟩), .float .f32 x2, .float .f64 (fwide x2), .bool r1, .bool (!r1)] H1)) (R (.exit 0) [.slice a_a a_n a_e, .slice b_a b_n b_e, undef, undef, .bool t4, .int .i64 i, .slice a_a a_n a_e, .int .i64 (a_n : Int), .slice b_a b_n b_e, .int .i64 (b_n : Int), .bool (((a_n : Int) : Int) != (b_n : Int)), .int .i64 i, .slice a_a a_n a_e, .int .i64 (a_n : Int), .bool (decide ((i : Int) < (a_n : Int))), g15, g16, g17, g18, g19, g20, g21, g22, g23, g24, g25, g26, g27, g28] H)) := by kernel_rfl
def laws_eqFloat32S_I1 (a_a : Option Addr) (a_e : Nat) (a_n : Nat) (b_a : Option Addr) (b_e : Nat) (b_n : Nat) (Inv : Nat → Bool → Int → AHeap → Prop) : Nat → List Value → AHeap → Prop := fun μ tm H => ∃ (t4 : Bool), ∃ (i : Int), ∃ g11 g12 g13 g14 g15 g16 g17 g18 g19 g20 g21 g22 g23 g24 g25 g26 g27 g28, tm = [.slice a_a a_n a_e, .slice b_a b_n b_e, undef, undef, .bool t4, .int .i64 i, .slice a_a a_n a_e, .int .i64 (a_n : Int), .slice b_a b_n b_e, .int .i64 (b_n : Int), .bool (((a_n : Int) : Int) != (b_n : Int)), g11, g12, g13, g14, g15, g16, g17, g18, g19, g20, g21, g22, g23, g24, g25, g26, g27, g28] ∧ Inv μ t4 i H
theorem laws_eqFloat32S_L1 (a_a : Option Addr) (a_e : Nat) (a_n : Nat) (b_a : Option Addr) (b_e : Nat) (b_n : Nat) {Q : Post} (Inv : Nat → Bool → Int → AHeap → Prop) (ν : Nat) (t4 : Bool) (i : Int) (g11 g12 g13 g14 g15 g16 g17 g18 g19 g20 g21 g22 g23 g24 g25 g26 g27 g28 : Value) (H : AHeap) (h0 : Inv ν t4 i H)
    (hs : ∀ (μ : Nat) (t4 : Bool) (i : Int) (g11 g12 g13 g14 g15 g16 g17 g18 g19 g20 g21 g22 g23 g24 g25 g26 g27 g28 : Value) (H : AHeap), Inv μ t4 i H → exK Try.prog E_laws_eqFloat32S (cl (cl (cr (cl (cr (cr (bodyC Try.f19))))))) [.slice a_a a_n a_e, .slice b_a b_n b_e, undef, undef, .bool t4, .int .i64 i, .slice a_a a_n a_e, .int .i64 (a_n : Int), .slice b_a b_n b_e, .int .i64 (b_n : Int), .bool (((a_n : Int) : Int) != (b_n : Int)), g11, g12, g13, g14, g15, g16, g17, g18, g19, g20, g21, g22, g23, g24, g25, g26, g27, g28] H (loopQ (laws_eqFloat32S_I1 a_a a_e a_n b_a b_e b_n Inv) μ Q)) : loopK (exK Try.prog E_laws_eqFloat32S (cl (cl (cr (cl (cr (cr (bodyC Try.f19)))))))) [.slice a_a a_n a_e, .slice b_a b_n b_e, undef, undef, .bool t4, .int .i64 i, .slice a_a a_n a_e, .int .i64 (a_n : Int), .slice b_a b_n b_e, .int .i64 (b_n : Int), .bool (((a_n : Int) : Int) != (b_n : Int)), g11, g12, g13, g14, g15, g16, g17, g18, g19, g20, g21, g22, g23, g24, g25, g26, g27, g28] H Q :=
  ⟨laws_eqFloat32S_I1 a_a a_e a_n b_a b_e b_n Inv, ν, ⟨t4, i, g11, g12, g13, g14, g15, g16, g17, g18, g19, g20, g21, g22, g23, g24, g25, g26, g27, g28, rfl, h0⟩, fun μ tm H h => by obtain ⟨t4, i, g11, g12, g13, g14, g15, g16, g17, g18, g19, g20, g21, g22, g23, g24, g25, g26, g27, g28, rfl, hI⟩ := h; exact hs μ t4 i g11 g12 g13 g14 g15 g16 g17 g18 g19 g20 g21 g22 g23 g24 g25 g26 g27 g28 H hI⟩
theorem laws_eqFloat32S_n1 {a_a : Option Addr} {a_e : Nat} {a_n : Nat} {b_a : Option Addr} {b_e : Nat} {b_n : Nat} {Q : Post} {Inv : Nat → Bool → Int → AHeap → Prop} {μ : Nat} (μ' : Nat) {t4 : Bool} {i : Int} {g11 g12 g13 g14 g15 g16 g17 g18 g19 g20 g21 g22 g23 g24 g25 g26 g27 g28 : Value} {H : AHeap} (hm : μ' < μ) (hI : Inv μ' t4 i H) : loopQ (laws_eqFloat32S_I1 a_a a_e a_n b_a b_e b_n Inv) μ Q .normal [.slice a_a a_n a_e, .slice b_a b_n b_e, undef, undef, .bool t4, .int .i64 i, .slice a_a a_n a_e, .int .i64 (a_n : Int), .slice b_a b_n b_e, .int .i64 (b_n : Int), .bool (((a_n : Int) : Int) != (b_n : Int)), g11, g12, g13, g14, g15, g16, g17, g18, g19, g20, g21, g22, g23, g24, g25, g26, g27, g28] H := ⟨μ', hm, t4, i, g11, g12, g13, g14, g15, g16, g17, g18, g19, g20, g21, g22, g23, g24, g25, g26, g27, g28, rfl, hI⟩
theorem laws_eqFloat32S_x1_0 (a_a : Option Addr) (a_e : Nat) (a_n : Nat) (b_a : Option Addr) (b_e : Nat) (b_n : Nat) (t4 : Bool) (i : Int) (g11 g12 g13 g14 g15 g16 g17 g18 g19 g20 g21 g22 g23 g24 g25 g26 g27 g28 : Value) (H : AHeap) (K : Value → AHeap → Prop)  {I : Nat → List Value → AHeap → Prop} {μ : Nat} : loopQ I μ (blockQ 0 (seqQ (exK Try.prog E_laws_eqFloat32S (cr (cr (cr (bodyC Try.f19))))) (retK Try.prog Try.f19 K))) (.exit 0) [.slice a_a a_n a_e, .slice b_a b_n b_e, undef, undef, .bool t4, .int .i64 i, .slice a_a a_n a_e, .int .i64 (a_n : Int), .slice b_a b_n b_e, .int .i64 (b_n : Int), .bool (((a_n : Int) : Int) != (b_n : Int)), g11, g12, g13, g14, g15, g16, g17, g18, g19, g20, g21, g22, g23, g24, g25, g26, g27, g28] H =
  (K (.bool true) H) := by kernel_rfl
theorem laws_eqFloat32S_x1_ret (a_a : Option Addr) (a_e : Nat) (a_n : Nat) (b_a : Option Addr) (b_e : Nat) (b_n : Nat) (t4 : Bool) (i : Int) (g11 g12 g13 g14 g15 g16 g17 g18 g19 g20 g21 g22 g23 g24 g25 g26 g27 g28 : Value) (H : AHeap) (K : Value → AHeap → Prop)  {I : Nat → List Value → AHeap → Prop} {μ : Nat} : loopQ I μ (blockQ 0 (seqQ (exK Try.prog E_laws_eqFloat32S (cr (cr (cr (bodyC Try.f19))))) (retK Try.prog Try.f19 K))) .ret [.slice a_a a_n a_e, .slice b_a b_n b_e, undef, undef, .bool t4, .int .i64 i, .slice a_a a_n a_e, .int .i64 (a_n : Int), .slice b_a b_n b_e, .int .i64 (b_n : Int), .bool (((a_n : Int) : Int) != (b_n : Int)), g11, g12, g13, g14, g15, g16, g17, g18, g19, g20, g21, g22, g23, g24, g25, g26, g27, g28] H =
  (K (.bool t4) H) := by kernel_rfl
theorem E_laws_eqFloat32S_ok : ∀ g, FnOk Try.prog g (E_laws_eqFloat32S g) := FnOk.envOf (by
  intro x hx
  simp only [List.mem_cons, List.not_mem_nil, or_false] at hx
  subst hx; exact laws_sameFloat_ok)
set_option maxHeartbeats 1000000 in
theorem laws_eqFloat32S_main (a_a : Option Addr) (a_n : Nat) (a_e : Nat) (b_a : Option Addr) (b_n : Nat) (b_e : Nat) (H : AHeap) (K : Value → AHeap → Prop) (h : T_laws_eqFloat32S a_a a_n a_e b_a b_n b_e H fun (r1 : Bool) (H' : AHeap) => K (.bool r1) H') : bodyK Try.prog E_laws_eqFloat32S Try.f19 [.slice a_a a_n a_e, .slice b_a b_n b_e] H K := by
  rw [laws_eqFloat32S_vc]
  obtain ⟨l_a, l_b, i_a, i_b, bd_13, bd_14, hk⟩ := h
  obtain rfl := i_a.eqn
  obtain rfl := i_b.eqn
  have e : (p_laws_eqFloat32S l_a l_b) = _ := rfl
  have e := e.trans (p_laws_eqFloat32S_eq l_a l_b)
  have g0 := Grow.refl H
  refine Br.intro (fun c_1 => ?_) (fun c_1 => ?_)
  · have e := e.trans (cond_t c_1)
    have c_1' := ine_t c_1
    rw [e] at hk
    exact hk
  · have e := e.trans (cond_f c_1)
    have c_1' := ine_f c_1
    refine laws_eqFloat32S_L1 _ _ _ _ _ _ (fun (μ : Nat) (t4 : Bool) (i : Int) (H_1 : AHeap) => H = H_1 ∧ (0 : Int) ≤ i ∧ i ≤ (l_a.length : Int) ∧ (l_a.length : Int) - i ≤ (μ : Int) ∧ p_laws_eqFloat32S l_a l_b = p_laws_eqFloat32S_l1 l_a l_b (μ + 1) t4 i) (Int.toNat ((l_a.length : Int) - (0 : Int))) _ _ _ _ _ _ _ _ _ _ _ _ _ _ _ _ _ _ _ _ H ?_ ?_
    · exact ⟨rfl, (by first | omega | (simp; done) | (simp; omega)), (by first | omega | (simp; done) | (simp; omega)), (by omega), e⟩
    · intro μ t4 i g11 g12 g13 g14 g15 g16 g17 g18 g19 g20 g21 g22 g23 g24 g25 g26 g27 g28 H_1 hI
      obtain ⟨rfl, v_2, v_3, hμ, e⟩ := hI
      rw [laws_eqFloat32S_r1]
      have e := e.trans (p_laws_eqFloat32S_l1_s l_a l_b μ t4 i)
      have l_4 := g0.1
      refine Br.intro (fun c_5 => ?_) (fun c_5 => ?_)
      · have e := e.trans (cond_t c_5)
        have c_5' := of_decide_eq_true c_5
        obtain ⟨b_6, f_7, q_8⟩ := ((i_a.grow g0)).pos (by first | omega | (simp only [List.length_set, List.length_replicate, List.length_append, List.length_cons, List.length_nil, List.length_take, List.length_drop, marks_length]; done) | (simp only [List.length_set, List.length_replicate, List.length_append, List.length_cons, List.length_nil, List.length_take, List.length_drop, marks_length]; omega))
        refine ⟨by omega, by omega, b_6, f_7, q_8, ?_⟩
        refine ⟨((l_a).getD (i : Int).toNat 0), (i_a).rd g0 q_8 (by omega) _, ?_⟩
        obtain ⟨b_9, f_10, q_11⟩ := ((i_b.grow g0)).pos (by first | omega | (simp only [List.length_set, List.length_replicate, List.length_append, List.length_cons, List.length_nil, List.length_take, List.length_drop, marks_length]; done) | (simp only [List.length_set, List.length_replicate, List.length_append, List.length_cons, List.length_nil, List.length_take, List.length_drop, marks_length]; omega))
        refine ⟨by omega, by omega, b_9, f_10, q_11, ?_⟩
        refine ⟨((l_b).getD (i : Int).toNat 0), (i_b).rd g0 q_11 (by omega) _, ?_⟩
        refine T_laws_sameFloat_i ?_
        refine Br.intro (fun c_12 => ?_) (fun c_12 => ?_)
        · have e := e.trans (cond_t c_12)
          have c_12n := nf_of_t c_12
          rw [laws_eqFloat32S_x1_ret]
          rw [e] at hk
          exact hk
        · have e := e.trans (cond_f c_12)
          have c_12n := nt_of_f c_12
          rw [show IntKind.wrap .i64 (i + 1) = (i + 1) from wrap64 (by omega) (by omega)]
          refine laws_eqFloat32S_n1 (μ - 1) (by first | omega) ⟨rfl, (by first | omega | (simp only [List.length_append, List.length_cons, List.length_nil, List.length_set]; done) | (simp only [List.length_append, List.length_cons, List.length_nil, List.length_set]; omega)), (by first | omega | (simp only [List.length_append, List.length_cons, List.length_nil, List.length_set]; done) | (simp only [List.length_append, List.length_cons, List.length_nil, List.length_set]; omega)), (by first | omega), (by rw [show μ - 1 + 1 = μ from by first | omega]; exact e)⟩
      · have e := e.trans (cond_f c_5)
        have c_5' := of_decide_eq_false c_5
        rw [laws_eqFloat32S_x1_0]
        rw [e] at hk
        exact hk
theorem laws_eqFloat32S_ok : FnOk Try.prog 19 S_laws_eqFloat32S := by
  refine FnOk.body mix_ok E_laws_eqFloat32S_ok Try.func19 rfl (by kernel_rfl) (by kernel_rfl) ?_ ?_ ?_ ?_ ?_
  · intro args H K K' h hk
    simp only [S_laws_eqFloat32S] at *
    unfold F_laws_eqFloat32S at *
    split at hk
    · obtain ⟨l_a, l_b, i_a, i_b, bd_13, bd_14, k⟩ := hk
      exact ⟨l_a, l_b, i_a, i_b, bd_13, bd_14, h _ _ k⟩
    · exact hk.elim
  · intro _ args H K hk
    simp only [S_laws_eqFloat32S] at *
    unfold F_laws_eqFloat32S at *
    split at hk
    · obtain ⟨l_a, l_b, i_a, i_b, bd_13, bd_14, k⟩ := hk
      exact ⟨_, k, fun K' k' => ⟨l_a, l_b, i_a, i_b, bd_13, bd_14, k'⟩⟩
    · exact hk.elim
  · intro args H K hk
    simp only [S_laws_eqFloat32S] at *
    unfold F_laws_eqFloat32S at *
    split at hk
    · obtain ⟨l_a, l_b, i_a, i_b, bd_13, bd_14, k⟩ := hk
      exact ⟨_, _, k⟩
    · exact hk.elim
  · intro hq; cases hq
  · have mm := @laws_eqFloat32S_main
    revert mm
    generalize bodyK Try.prog E_laws_eqFloat32S Try.f19 = Q
    intro mm args H K hk
    simp only [S_laws_eqFloat32S] at *
    unfold F_laws_eqFloat32S at *
    split at hk
    · exact mm _ _ _ _ _ _ H K hk
    · exact hk.elim
def p_laws_FnExactClearnessOf (l_aA : List Nat) (l_aB : List Nat) : Bool := ((bif decide ((1048576 : Int) < (l_aA.length : Int)) then true else (bif decide ((1048576 : Int) < (l_aB.length : Int)) then true else (bif !((p_laws_sameFloat (fwide ((p_impl_ClearnessOf l_aA l_aB).1)) (fwide ((p_spec_ClearnessOf l_aA l_aB).1)))) then false else (bif !(((p_impl_ClearnessOf l_aA l_aB).2) == ((p_spec_ClearnessOf l_aA l_aB).2)) then false else (bif !(p_laws_eqFloat32S l_aA l_aA) then false else (bif !(p_laws_eqFloat32S l_aB l_aB) then false else true)))))))
theorem p_laws_FnExactClearnessOf_eq (l_aA : List Nat) (l_aB : List Nat) : p_laws_FnExactClearnessOf l_aA l_aB = ((bif decide ((1048576 : Int) < (l_aA.length : Int)) then true else (bif decide ((1048576 : Int) < (l_aB.length : Int)) then true else (bif !((p_laws_sameFloat (fwide ((p_impl_ClearnessOf l_aA l_aB).1)) (fwide ((p_spec_ClearnessOf l_aA l_aB).1)))) then false else (bif !(((p_impl_ClearnessOf l_aA l_aB).2) == ((p_spec_ClearnessOf l_aA l_aB).2)) then false else (bif !(p_laws_eqFloat32S l_aA l_aA) then false else (bif !(p_laws_eqFloat32S l_aB l_aB) then false else true))))))) := rfl
def T_laws_FnExactClearnessOf (aA_a : Option Addr) (aA_n : Nat) (aA_e : Nat) (aB_a : Option Addr) (aB_n : Nat) (aB_e : Nat) (H : AHeap) (K : Bool → AHeap → Prop) : Prop := ∃ l_aA : List Nat, ∃ l_aB : List Nat, IsL fF H aA_a aA_n l_aA ∧ (∀ y ∈ l_aA, W32 y) ∧ l_aA.length ≤ 9223372036854775807 ∧ IsL fF H aB_a aB_n l_aB ∧ (∀ y ∈ l_aB, W32 y) ∧ l_aB.length ≤ 9223372036854775807 ∧ ∀ H' : AHeap, K true H'
theorem spec_fin (x : Nat) : p_spec_l01Finite x = fin .f32 x := fin_asked x
theorem impl_fin (x : Nat) : p_impl_IsFinite x = fin .f32 x := fin_asked x
theorem w32_wd {x : Nat} (h : W32 x) : Wd .f32 x := ⟨h.1, h.2⟩
theorem wd_w32 {x : Nat} (h : Wd .f32 x) : W32 x := ⟨h.1, h.2⟩
theorem l02Finite_go (l : List Nat) : ∀ (μ : Nat) (t : Bool) (i : Nat), l.length - i < μ → p_spec_l02Finite_l1 l μ t (i : Int) = (l.drop i).all (fin .f32) := by
  intro μ
  induction μ with
  | zero => intro t i h; omega
  | succ μ ih =>
    intro t i hm
    rw [p_spec_l02Finite_l1_s]
    by_cases h : i < l.length
    · rw [decide_eq_true (show (i : Int) < (l.length : Int) by omega), cond_true, Int.toNat_natCast, spec_fin]
      rw [List.drop_eq_getElem_cons h, List.all_cons, List.getD_eq_getElem?_getD, List.getElem?_eq_getElem h, Option.getD_some]
      have := ih t (i + 1) (by omega)
      cases fin .f32 l[i]
      · rfl
      · simp only [Bool.not_true, cond_false, Bool.true_and]; exact this
    · rw [decide_eq_false (show ¬ (i : Int) < (l.length : Int) by omega), cond_false, List.drop_eq_nil_of_le (by omega)]; rfl
theorem l02Finite_all (l : List Nat) : p_spec_l02Finite l = l.all (fin .f32) := by
  rw [p_spec_l02Finite_eq]
  have := l02Finite_go l (Int.toNat ((l.length : Int) - (0 : Int)) + 1) false 0 (by omega)
  simpa using this
theorem areFinite_in (ls : List (List Nat)) (t2 : Bool) (t9 : Int) (k : Bool → Int → Bool) : ∀ (μ : Nat) (t : Bool) (i : Nat), i ≤ (ls.getD t9.toNat []).length → (ls.getD t9.toNat []).length - i < μ →
    p_impl_areFinite_l2 ls t2 t9 k μ t (i : Int) = bif ((ls.getD t9.toNat []).drop i).all (fin .f32) then k t ((ls.getD t9.toNat []).length : Int) else false := by
  intro μ
  generalize hl : ls.getD t9.toNat [] = l
  induction μ with
  | zero => intro t i _ h; omega
  | succ μ ih =>
    intro t i hi hm
    rw [p_impl_areFinite_l2_s, hl]
    by_cases h : i < l.length
    · rw [decide_eq_true (show (i : Int) < (l.length : Int) by omega), cond_true, Int.toNat_natCast, impl_fin]
      rw [List.drop_eq_getElem_cons h, List.all_cons, List.getD_eq_getElem?_getD, List.getElem?_eq_getElem h, Option.getD_some]
      have := ih t (i + 1) (by omega) (by omega)
      cases fin .f32 l[i]
      · rfl
      · simp only [Bool.not_true, cond_false, Bool.true_and]; exact this
    · rw [decide_eq_false (show ¬ (i : Int) < (l.length : Int) by omega), cond_false, List.drop_eq_nil_of_le (by omega), show i = l.length by omega]; rfl
theorem areFinite_go (ls : List (List Nat)) : ∀ (μ : Nat) (t : Bool) (i : Nat), ls.length - i < μ → p_impl_areFinite_l1 ls μ t (i : Int) = (ls.drop i).all (fun l => l.all (fin .f32)) := by
  intro μ
  induction μ with
  | zero => intro t i h; omega
  | succ μ ih =>
    intro t i hm
    rw [p_impl_areFinite_l1_s]
    by_cases h : i < ls.length
    · rw [decide_eq_true (show (i : Int) < (ls.length : Int) by omega), cond_true]
      have := areFinite_in ls t (i : Int) (fun t2 t15 => p_impl_areFinite_l1 ls μ t2 ((i : Int) + 1)) (Int.toNat ((((ls).getD ((i : Int) : Int).toNat []).length : Int) - (0 : Int)) + 1) t 0 (Nat.zero_le _) (by omega)
      refine Eq.trans this ?_
      rw [Int.toNat_natCast, List.drop_zero, List.drop_eq_getElem_cons h, List.all_cons, List.getD_eq_getElem?_getD, List.getElem?_eq_getElem h, Option.getD_some]
      have := ih t (i + 1) (by omega)
      cases ls[i].all (fin .f32)
      · rfl
      · simp only [cond_true, Bool.true_and]; exact this
    · rw [decide_eq_false (show ¬ (i : Int) < (ls.length : Int) by omega), cond_false, List.drop_eq_nil_of_le (by omega)]; rfl
theorem areFinite_all (ls : List (List Nat)) : p_impl_areFinite ls = ls.all (fun l => l.all (fin .f32)) := by
  rw [p_impl_areFinite_eq]
  have := areFinite_go ls (Int.toNat ((ls.length : Int) - (0 : Int)) + 1) false 0 (by omega)
  simpa using this
theorem finite_same (l : List Nat) : p_impl_areFinite [l] = p_spec_l02Finite l := by rw [areFinite_all, l02Finite_all]; simp
theorem long_same (l : List Nat) : p_impl_isLong l = p_spec_l03Long l := by
  rw [p_impl_isLong_eq, p_spec_l03Long_eq, finite_same]
  unfold p_impl_within
  cases decide ((1 : Int) ≤ (l.length : Int)) <;> cases decide (((l.length : Int) : Int) ≤ 128) <;> rfl
theorem long_t {l : List Nat} (h : p_spec_l03Long l = true) : 1 ≤ l.length ∧ l.length ≤ 128 ∧ l.all (fin .f32) = true := by
  rw [p_spec_l03Long_eq, l02Finite_all] at h
  by_cases h1 : (1 : Int) ≤ (l.length : Int)
  · rw [decide_eq_true h1, cond_true] at h
    by_cases h2 : (l.length : Int) ≤ 128
    · rw [decide_eq_true h2, cond_true] at h; exact ⟨by omega, by omega, h⟩
    · rw [decide_eq_false h2] at h; cases h
  · rw [decide_eq_false h1] at h; cases h
theorem fin_getD {l : List Nat} (h : l.all (fin .f32) = true) (i : Nat) : fin .f32 (l.getD i 0) = true := by
  rw [List.getD_eq_getElem?_getD]
  cases hx : l[i]? with
  | none => exact fin_zero _
  | some y => exact List.all_eq_true.1 h y (List.mem_of_getElem? hx)
theorem w32_zero : W32 0 := ⟨by decide, by decide +kernel⟩
theorem w32_getD {l : List Nat} (h : ∀ y ∈ l, W32 y) (i : Nat) : W32 (l.getD i 0) := by
  rw [List.getD_eq_getElem?_getD]
  cases hx : l[i]? with
  | none => exact w32_zero
  | some y => exact h y (List.mem_of_getElem? hx)
theorem log_l3_eq {x x_0 ve x' ve_3 : Nat} {y y_0 : Nat} {we we_3 : Int} {Ki : Nat → Nat → Nat} {Ks : Nat → Int → Nat} (hK : ∀ q k n, Ki q k = Ks q n) :
    ∀ (μ ν : Nat) (n : Int) (q : Nat), n < μ → n < ν → 0 < μ → 0 < ν → n ≤ 25 → -1 ≤ n → p_impl_naturalLog_l3 x x_0 ve x' ve_3 Ki μ q (FloatKind.nearest .f64 n) = p_spec_l01LogWide_l3 y y_0 we x' we_3 Ks ν q n := by
  intro μ
  induction μ with
  | zero => intro ν n q _ _ h _ _ _; exact absurd h (Nat.lt_irrefl 0)
  | succ μ ih =>
    intro ν n q hm hv _ hv0 hn hn1
    obtain ⟨ν, rfl⟩ : ∃ j, ν = j + 1 := ⟨ν - 1, by omega⟩
    rw [p_impl_naturalLog_l3_s, p_spec_l01LogWide_l3_s]
    have hc := cnt_at (n := n) (by omega) (by omega)
    rw [hc.2.1]
    by_cases h : (1 : Int) ≤ n
    · rw [decide_eq_true h, cond_true, cond_true, hc.2.2.2]
      exact ih ν (n - 2) _ (by omega) (by omega) (by omega) (by omega) (by omega) (by omega)
    · rw [decide_eq_false h, cond_false, cond_false]
      exact hK _ _ _
theorem log_l2_eq {x x_0 ve : Nat} {y y_0 : Nat} {we : Int} {Ki : Nat → Nat → Nat} {Ks : Nat → Int → Nat} (hK : ∀ x' (e : Int), Ki x' (FloatKind.nearest .f64 e) = Ks x' e) :
    ∀ (μ : Nat) (x' : Nat) (e : Int), 4503599627370496 ≤ x' → x' < 4609434218613702656 → (4609434218613702656 : Int) - x' ≤ (e + 3000) * 4503599627370496 → e ≤ 2100 →
      p_impl_naturalLog_l2 x x_0 ve Ki μ x' (FloatKind.nearest .f64 e) = p_spec_l01LogWide_l2 y y_0 we Ks μ x' e := by
  intro μ
  induction μ with
  | zero => intro x' e _ _ _ _; unfold p_impl_naturalLog_l2 p_spec_l01LogWide_l2; rfl
  | succ μ ih =>
    intro x' e h0 h1 h2 h3
    rw [p_impl_naturalLog_l2_s, p_spec_l01LogWide_l2_s]
    cases hc : flt .f64 x' 4604930618986332160 with
    | true =>
      have := twice_step h0 (by omega) hc
      rw [cond_true, cond_true, near_down (by omega), wrap64 (n := e - 1) (by omega) (by omega), this.1]
      exact ih _ _ (by omega) (by omega) (by omega) (by omega)
    | false =>
      rw [cond_false, cond_false]
      exact hK _ _
theorem log_l1_eq {x : Nat} :
    ∀ (μ : Nat) (x_0 : Nat) (e : Int), 4503599627370496 ≤ x_0 → x_0 < 9218868437227405312 → e * 4503599627370496 + x_0 ≤ 9218868437227405312 → 0 ≤ e →
      p_impl_naturalLog_l1 x μ x_0 (FloatKind.nearest .f64 e) = p_spec_l01LogWide_l1 x μ x_0 e := by
  intro μ
  induction μ with
  | zero => intro x_0 e _ _ _ _; unfold p_impl_naturalLog_l1 p_spec_l01LogWide_l1; rfl
  | succ μ ih =>
    intro x_0 e h0 h1 h2 h3
    rw [p_impl_naturalLog_l1_s, p_spec_l01LogWide_l1_s]
    cases hc : fle .f64 4609434218613702656 x_0 with
    | true =>
      have := half_step h0 h1 hc
      rw [cond_true, cond_true, near_up (by omega), wrap64 (n := e + 1) (by omega) (by omega), this.1]
      exact ih _ _ (by omega) (by omega) (by omega) (by omega)
    | false =>
      rw [cond_false, cond_false]
      rw [pos_le (by decide) (by decide) h0 h1] at hc
      have := of_decide_eq_false hc
      refine log_l2_eq ?_ _ _ _ h0 (by omega) (by omega) (by omega)
      intro x' e'
      have e25 : (4627730092099895296 : Nat) = FloatKind.nearest .f64 25 := by decide +kernel
      have c25 : cnt 4627730092099895296 = 25 := by rw [e25]; exact (cnt_at (n := 25) (by decide) (by decide)).1
      rw [c25, e25]
      refine log_l3_eq ?_ _ _ 25 0 ?_ ?_ ?_ ?_ (by decide) (by decide)
      · intro q k n; rfl
      · decide
      · decide
      · decide
      · decide
theorem log_wide_eq {x : Nat} (h0 : 4503599627370496 ≤ x) (h1 : x < 9218868437227405312) : p_impl_naturalLog x = p_spec_l01LogWide_l1 x (Int.toNat ((x : Int)) + 1) x (0 : Int) := by
  have g := log_l1_eq (x := x) (Int.toNat ((x : Int)) + 1) x 0 h0 h1 (by omega) (by decide)
  rw [show FloatKind.nearest .f64 0 = 0 by decide +kernel] at g
  rw [p_impl_naturalLog_eq]
  exact g
theorem log_at_zero : p_impl_LogNumber 0 = p_spec_l01Log 0 := by decide +kernel
theorem log_at_nzero : p_impl_LogNumber 2147483648 = p_spec_l01Log 2147483648 := by decide +kernel
theorem log_at_inf : p_impl_LogNumber 2139095040 = p_spec_l01Log 2139095040 := by decide +kernel
theorem log_at_ninf : p_impl_LogNumber 4286578688 = p_spec_l01Log 4286578688 := by decide +kernel
theorem log_at_nan : p_impl_LogNumber (qnan .f32) = p_spec_l01Log (qnan .f32) := by decide +kernel
theorem log_eq {x : Nat} (h : Wd .f32 x) : p_impl_LogNumber x = p_spec_l01Log x := by
  rcases h.cases with hf | rfl | rfl | rfl
  · cases h0 : feq .f32 x 0 with
    | true =>
      rw [feq_fin hf (fin_zero _), sv_zero] at h0
      rcases zero_of_sv h.1 hf (of_decide_eq_true h0) with rfl | rfl
      · exact log_at_zero
      · exact log_at_nzero
    | false =>
      have w0 := wide_feq hf
      have w1 := wide_flt hf
      rw [p_impl_LogNumber_eq, p_spec_l01Log_eq, p_spec_l01LogWide_eq, wide_self hf, w0, w1, h0, Bool.not_true, cond_false, cond_false, cond_false]
      cases h1 : flt .f32 x 0 with
      | true => rw [cond_true, cond_true]; rfl
      | false =>
        have hp := log_pre' h0 h1 hf
        have hi : p_math_IsInf (fwide x) 1 = false := by
          show flt .f64 9218868437227405311 (fwide x) = false
          rw [pos_lt (by decide) (by decide) hp.1 hp.2]
          exact decide_eq_false (by omega)
        have hi2 : p_impl_IsFinite x = true := (fin_asked x).trans hf
        rw [cond_false, cond_false, hi, cond_false, feq_self (fin_nn hf), hi2, Bool.not_true, cond_false, cond_false, ← log_wide_eq hp.1 hp.2]
        rfl
  · exact log_at_inf
  · exact log_at_ninf
  · exact log_at_nan
theorem miss_go (a b : List Nat) : ∀ (μ : Nat) (s : Nat) (i : Nat), a.length - i < μ → p_impl_MissOfLists_l1 a b μ s (i : Int) = p_spec_l02Number (p_spec_l05Miss_l1 a b μ s (i : Int)) := by
  intro μ
  induction μ with
  | zero => intro s i h; omega
  | succ μ ih =>
    intro s i hm
    rw [p_impl_MissOfLists_l1_s, p_spec_l05Miss_l1_s]
    by_cases h : i < a.length
    · rw [decide_eq_true (show (i : Int) < (a.length : Int) by omega), cond_true, cond_true]
      exact ih _ (i + 1) (by omega)
    · rw [decide_eq_false (show ¬ (i : Int) < (a.length : Int) by omega), cond_false, cond_false]; rfl
theorem miss_same (a b : List Nat) : p_impl_MissOfLists a b = p_spec_MissOfLists a b := by
  rw [p_impl_MissOfLists_eq, p_spec_MissOfLists_eq, long_same, long_same, p_spec_l05Miss_eq]
  have := miss_go a b (Int.toNat ((a.length : Int) - (0 : Int)) + 1) 0 0 (by omega)
  rw [show ((0 : Nat) : Int) = 0 from rfl] at this
  rw [this]
theorem energy_go (a : List Nat) : ∀ (μ : Nat) (s : Nat) (t : Int), p_impl_squares_l1 a μ s t = p_spec_l03Energy_l1 a μ s t := by
  intro μ
  induction μ with
  | zero => intro s t; unfold p_impl_squares_l1 p_spec_l03Energy_l1; rfl
  | succ μ ih =>
    intro s t
    rw [p_impl_squares_l1_s, p_spec_l03Energy_l1_s, ih]
theorem energy_same (a : List Nat) : p_impl_squares a = p_spec_l03Energy a := by
  rw [p_impl_squares_eq, p_spec_l03Energy_eq, energy_go]
theorem num_same (x : Nat) : p_impl_finite x = p_spec_l02Number x := rfl
theorem inf_div {y : Nat} (hy : fin .f32 y = true) (h : flt .f32 0 y = true) : fdiv .f32 2139095040 y = 2139095040 := by
  obtain ⟨s, m, e, hr⟩ := fin_num hy
  rw [flt_fin (fin_zero _) hy, sv_zero] at h
  have h := of_decide_eq_true h
  have hm : m ≠ 0 := fun h0 => by rw [(sv_mag hr).2 h0] at h; omega
  have hs : s = false := by
    cases s with
    | false => rfl
    | true => have := (sv_lt hr hm).2 rfl; omega
  subst hs
  have e1 : FloatKind.f32.format.read 2139095040 = .infinity false := by decide +kernel
  have e3 : FloatKind.f32.format.write (.infinity false) = 2139095040 := by decide +kernel
  have e2 : FloatKind.f32.format.div 2139095040 y = some (FloatKind.f32.format.write (.infinity false)) := by
    unfold Ieee.Format.div
    rw [hr, e1]
    simp [Ieee.Datum.quotient]
  rw [show fdiv .f32 2139095040 y = (FloatKind.f32.format.div 2139095040 y).getD (qnan .f32) from by unfold fdiv; rfl, e2, Option.getD_some, e3]
theorem log_inf : p_spec_l01Log 2139095040 = 2139095040 := by decide +kernel
theorem inf_mul : fmul .f32 1082849639 2139095040 = 2139095040 := by decide +kernel
theorem inf_not : fin .f32 2139095040 = false := by decide +kernel
theorem clear_inf {y : Nat} (hy : fin .f32 y = true) (h : flt .f32 0 y = true) : p_spec_l02Number (fmul .f32 1082849639 (p_spec_l01Log (fdiv .f32 2139095040 y))) = (0, false) := by
  rw [inf_div hy h, log_inf, inf_mul, p_spec_l02Number_eq, spec_fin, inf_not]; rfl
theorem miss_fin {a b : List Nat} (h : (p_spec_MissOfLists a b).2 = true) : fin .f32 (p_spec_MissOfLists a b).1 = true := by
  revert h
  rw [p_spec_MissOfLists_eq]
  cases (!(p_spec_l03Long a)) with
  | true => intro h; cases h
  | false =>
    cases (!(p_spec_l03Long b)) with
    | true => intro h; cases h
    | false =>
      rw [cond_false, cond_false]
      cases ((a.length : Int) != (b.length : Int)) with
      | true => intro h; cases h
      | false =>
        rw [cond_false]
        generalize p_spec_l05Miss a b = m
        rw [p_spec_l02Number_eq, spec_fin]
        cases hm : fin .f32 m with
        | true => intro _; exact hm
        | false => intro h; cases h
theorem clear_same (a b : List Nat) : p_impl_ClearnessOf a b = p_spec_ClearnessOf a b := by
  rw [p_impl_ClearnessOf_eq, p_spec_ClearnessOf_eq, miss_same, energy_same]
  generalize hz : fdiv .f32 (p_spec_l03Energy a) (FloatKind.nearest .f32 (a.length : Int)) = z
  have wz : Wd .f32 z := by rw [← hz]; exact Wd.div _ _ _
  cases h1 : (p_spec_MissOfLists a b).2 with
  | false => rfl
  | true =>
    have hf := miss_fin h1
    generalize hmm : (p_spec_MissOfLists a b).1 = m at hf ⊢
    rw [Bool.not_true, cond_false, cond_false, num_same, log_eq (Wd.div _ _ _), p_spec_l02Above_eq, spec_fin]
    cases h2 : flt .f32 0 m with
    | false => rw [Bool.not_false, cond_true]; cases (!(bif fin .f32 z then flt .f32 0 z else false)) <;> rfl
    | true =>
      rw [Bool.not_true, cond_false, cond_false]
      cases h3 : fin .f32 z with
      | true => rw [cond_true]
      | false =>
        rw [cond_false, Bool.not_false, cond_true]
        cases h4 : flt .f32 0 z with
        | false => rfl
        | true =>
          rw [Bool.not_true, cond_false]
          have hzi : z = 2139095040 := by
            rcases wz.cases with h | h | h | h
            · rw [h] at h3; cases h3
            · exact h
            · rw [h] at h4; exact absurd h4 (by decide +kernel)
            · rw [h] at h4; exact absurd h4 (by decide +kernel)
          rw [hzi, clear_inf hf h2]
theorem laws_FnExactClearnessOf_true (l_aA : List Nat) (l_aB : List Nat) (q0 : (∀ y ∈ l_aA, W32 y)) (q1 : (∀ y ∈ l_aB, W32 y)) : p_laws_FnExactClearnessOf l_aA l_aB = true := by
  rw [p_laws_FnExactClearnessOf_eq, clear_same, laws_sameFloat_self, laws_eqFloat32S_self, laws_eqFloat32S_self]
  cases decide ((1048576 : Int) < (l_aA.length : Int)) <;> cases decide ((1048576 : Int) < (l_aB.length : Int)) <;> simp
/-! laws_FnExactClearnessOf: function 8 -/
def E_laws_FnExactClearnessOf : Env := envOf [(16, S_laws_toFloat32S), (33, S_spec_ClearnessOf), (34, S_impl_ClearnessOf), (18, S_laws_sameFloat), (19, S_laws_eqFloat32S)]
def F_laws_FnExactClearnessOf : List Value → AHeap → (Value → AHeap → Prop) → Prop
  | [.slice aA_a aA_n aA_e, .slice aB_a aB_n aB_e], H, K => T_laws_FnExactClearnessOf aA_a aA_n aA_e aB_a aB_n aB_e H fun (r1 : Bool) (H' : AHeap) => K (.bool r1) H'
  | _, _, _ => False
def S_laws_FnExactClearnessOf : FSpec := { F := F_laws_FnExactClearnessOf, quiet := false, tame := false }
theorem laws_FnExactClearnessOf_vc (aA_a : Option Addr) (aA_n : Nat) (aA_e : Nat) (aB_a : Option Addr) (aB_n : Nat) (aB_e : Nat) (H : AHeap) (K : Value → AHeap → Prop) : bodyK Try.prog E_laws_FnExactClearnessOf Try.f8 [.slice aA_a aA_n aA_e, .slice aB_a aB_n aB_e] H K =
  (Br (decide ((1048576 : Int) < (aA_n : Int))) (K (.bool true) H) (Br (decide ((1048576 : Int) < (aB_n : Int))) (K (.bool true) H) (T_laws_toFloat32S aA_a aA_n aA_e H fun (a1 : Option Addr) (r1 : Nat) (r2 : Nat) (H1 : AHeap) => T_laws_toFloat32S aB_a aB_n aB_e H1 fun (a2 : Option Addr) (r3 : Nat) (r4 : Nat) (H2 : AHeap) => T_spec_ClearnessOf a1 r1 r2 a2 r3 r4 H2 fun (r5 : Nat) (r6 : Bool) (H3 : AHeap) => T_laws_toFloat32S aA_a aA_n aA_e H3 fun (a3 : Option Addr) (r7 : Nat) (r8 : Nat) (H4 : AHeap) => T_laws_toFloat32S aB_a aB_n aB_e H4 fun (a4 : Option Addr) (r9 : Nat) (r10 : Nat) (H5 : AHeap) => T_impl_ClearnessOf a3 r7 r8 a4 r9 r10 H5 fun (r11 : Nat) (r12 : Bool) (H6 : AHeap) => T_laws_sameFloat (fwide r11) (fwide r5) H6 fun (r13 : Bool) (H7 : AHeap) => Br (!r13) (K (.bool false) H7) (Br (!(r12 == r6)) (K (.bool false) H7) (T_laws_toFloat32S aA_a aA_n aA_e H7 fun (a5 : Option Addr) (r14 : Nat) (r15 : Nat) (H8 : AHeap) => T_laws_eqFloat32S a3 r7 r8 a5 r14 r15 H8 fun (r16 : Bool) (H9 : AHeap) => Br (!r16) (K (.bool false) H9) (T_laws_toFloat32S aB_a aB_n aB_e H9 fun (a6 : Option Addr) (r17 : Nat) (r18 : Nat) (H10 : AHeap) => T_laws_eqFloat32S a4 r9 r10 a6 r17 r18 H10 fun (r19 : Bool) (H11 : AHeap) => Br (!r19) (K (.bool false) H11) (K (.bool true) H11))))))) := by kernel_rfl
theorem E_laws_FnExactClearnessOf_ok : ∀ g, FnOk Try.prog g (E_laws_FnExactClearnessOf g) := FnOk.envOf (by
  intro x hx
  simp only [List.mem_cons, List.not_mem_nil, or_false] at hx
  rcases hx with rfl | rfl | rfl | rfl | rfl
  · exact laws_toFloat32S_ok
  · exact spec_ClearnessOf_ok
  · exact impl_ClearnessOf_ok
  · exact laws_sameFloat_ok
  · exact laws_eqFloat32S_ok)
set_option maxHeartbeats 1000000 in
theorem laws_FnExactClearnessOf_main (aA_a : Option Addr) (aA_n : Nat) (aA_e : Nat) (aB_a : Option Addr) (aB_n : Nat) (aB_e : Nat) (H : AHeap) (K : Value → AHeap → Prop) (h : T_laws_FnExactClearnessOf aA_a aA_n aA_e aB_a aB_n aB_e H fun (r1 : Bool) (H' : AHeap) => K (.bool r1) H') : bodyK Try.prog E_laws_FnExactClearnessOf Try.f8 [.slice aA_a aA_n aA_e, .slice aB_a aB_n aB_e] H K := by
  rw [laws_FnExactClearnessOf_vc]
  obtain ⟨l_aA, l_aB, h_0, h_1, h_2, h_3, h_4, h_5, hk⟩ := h
  have i_aA := h_0
  obtain rfl := i_aA.eqn
  have i_aB := h_3
  obtain rfl := i_aB.eqn
  have hl := laws_FnExactClearnessOf_true l_aA l_aB h_1 h_4
  have e : p_laws_FnExactClearnessOf l_aA l_aB = _ := rfl
  have e := e.trans (p_laws_FnExactClearnessOf_eq l_aA l_aB)
  have e := hl.symm.trans e
  have g0 := Grow.refl H
  refine Br.intro (fun c_1 => ?_) (fun c_1 => ?_)
  · have e := e.trans (cond_t c_1)
    have c_1' := of_decide_eq_true c_1
    first | exact hk _ | (exfalso; cases e; done) | (rw [← e]; exact hk _)
  · have e := e.trans (cond_f c_1)
    have c_1' := of_decide_eq_false c_1
    refine Br.intro (fun c_2 => ?_) (fun c_2 => ?_)
    · have e := e.trans (cond_t c_2)
      have c_2' := of_decide_eq_true c_2
      first | exact hk _ | (exfalso; cases e; done) | (rw [← e]; exact hk _)
    · have e := e.trans (cond_f c_2)
      have c_2' := of_decide_eq_false c_2
      refine T_laws_toFloat32S_i ⟨_, (i_aA.grow g0), (by first | omega | (simp only [List.length_set, List.length_replicate, List.length_append, List.length_cons, List.length_nil, List.length_take, List.length_drop, marks_length]; done) | (simp only [List.length_set, List.length_replicate, List.length_append, List.length_cons, List.length_nil, List.length_take, List.length_drop, marks_length]; omega)), fun a_3 n_4 e_5 H_1 g_7 r_6 => ?_⟩
      have l_8 := g_7.1
      have g_9 := g0.trans g_7
      have l_10 := g_9.1
      obtain rfl := r_6.isL.eqn
      have u_11 := r_6.up
      have u_12 := r_6.lo
      refine T_laws_toFloat32S_i ⟨_, (i_aB.grow g_9), (by first | omega | (simp only [List.length_set, List.length_replicate, List.length_append, List.length_cons, List.length_nil, List.length_take, List.length_drop, marks_length]; done) | (simp only [List.length_set, List.length_replicate, List.length_append, List.length_cons, List.length_nil, List.length_take, List.length_drop, marks_length]; omega)), fun a_14 n_15 e_16 H_2 g_18 r_17 => ?_⟩
      have l_19 := g_18.1
      have g_20 := g_9.trans g_18
      have l_21 := g_20.1
      have r_22 := r_6.grow g_18
      obtain rfl := r_17.isL.eqn
      have u_23 := r_17.up
      have u_24 := r_17.lo
      refine T_spec_ClearnessOf_i ⟨_, _, r_22.isL, r_17.isL, (by first | omega | (simp only [List.length_set, List.length_replicate, List.length_append, List.length_cons, List.length_nil, List.length_take, List.length_drop, marks_length]; done) | (simp only [List.length_set, List.length_replicate, List.length_append, List.length_cons, List.length_nil, List.length_take, List.length_drop, marks_length]; omega)), (by first | omega | (simp only [List.length_set, List.length_replicate, List.length_append, List.length_cons, List.length_nil, List.length_take, List.length_drop, marks_length]; done) | (simp only [List.length_set, List.length_replicate, List.length_append, List.length_cons, List.length_nil, List.length_take, List.length_drop, marks_length]; omega)), ?_⟩
      refine T_laws_toFloat32S_i ⟨_, (i_aA.grow g_20), (by first | omega | (simp only [List.length_set, List.length_replicate, List.length_append, List.length_cons, List.length_nil, List.length_take, List.length_drop, marks_length]; done) | (simp only [List.length_set, List.length_replicate, List.length_append, List.length_cons, List.length_nil, List.length_take, List.length_drop, marks_length]; omega)), fun a_26 n_27 e_28 H_3 g_30 r_29 => ?_⟩
      have l_31 := g_30.1
      have g_32 := g_20.trans g_30
      have l_33 := g_32.1
      have r_34 := r_22.grow g_30
      have r_35 := r_17.grow g_30
      obtain rfl := r_29.isL.eqn
      have u_36 := r_29.up
      have u_37 := r_29.lo
      refine T_laws_toFloat32S_i ⟨_, (i_aB.grow g_32), (by first | omega | (simp only [List.length_set, List.length_replicate, List.length_append, List.length_cons, List.length_nil, List.length_take, List.length_drop, marks_length]; done) | (simp only [List.length_set, List.length_replicate, List.length_append, List.length_cons, List.length_nil, List.length_take, List.length_drop, marks_length]; omega)), fun a_39 n_40 e_41 H_4 g_43 r_42 => ?_⟩
      have l_44 := g_43.1
      have g_45 := g_32.trans g_43
      have l_46 := g_45.1
      have r_47 := r_34.grow g_43
      have r_48 := r_35.grow g_43
      have r_49 := r_29.grow g_43
      obtain rfl := r_42.isL.eqn
      have u_50 := r_42.up
      have u_51 := r_42.lo
      refine T_impl_ClearnessOf_i ⟨_, _, r_49.isL, r_42.isL, (by first | omega | (simp only [List.length_set, List.length_replicate, List.length_append, List.length_cons, List.length_nil, List.length_take, List.length_drop, marks_length]; done) | (simp only [List.length_set, List.length_replicate, List.length_append, List.length_cons, List.length_nil, List.length_take, List.length_drop, marks_length]; omega)), (by first | omega | (simp only [List.length_set, List.length_replicate, List.length_append, List.length_cons, List.length_nil, List.length_take, List.length_drop, marks_length]; done) | (simp only [List.length_set, List.length_replicate, List.length_append, List.length_cons, List.length_nil, List.length_take, List.length_drop, marks_length]; omega)), fun  H_5 g_53  => ?_⟩
      have l_54 := g_53.1
      have g_55 := g_45.trans g_53
      have l_56 := g_55.1
      have r_57 := r_47.grow g_53
      have r_58 := r_48.grow g_53
      have r_59 := r_49.grow g_53
      have r_60 := r_42.grow g_53
      refine T_laws_sameFloat_i ?_
      refine Br.intro (fun c_61 => ?_) (fun c_61 => ?_)
      · have e := e.trans (cond_t c_61)
        have c_61n := nf_of_t c_61
        first | exact hk _ | (exfalso; cases e; done) | (rw [← e]; exact hk _)
      · have e := e.trans (cond_f c_61)
        have c_61n := nt_of_f c_61
        refine Br.intro (fun c_62 => ?_) (fun c_62 => ?_)
        · have e := e.trans (cond_t c_62)
          have c_62n := nf_of_t c_62
          first | exact hk _ | (exfalso; cases e; done) | (rw [← e]; exact hk _)
        · have e := e.trans (cond_f c_62)
          have c_62n := nt_of_f c_62
          refine T_laws_toFloat32S_i ⟨_, (i_aA.grow g_55), (by first | omega | (simp only [List.length_set, List.length_replicate, List.length_append, List.length_cons, List.length_nil, List.length_take, List.length_drop, marks_length]; done) | (simp only [List.length_set, List.length_replicate, List.length_append, List.length_cons, List.length_nil, List.length_take, List.length_drop, marks_length]; omega)), fun a_63 n_64 e_65 H_6 g_67 r_66 => ?_⟩
          have l_68 := g_67.1
          have g_69 := g_55.trans g_67
          have l_70 := g_69.1
          have r_71 := r_57.grow g_67
          have r_72 := r_58.grow g_67
          have r_73 := r_59.grow g_67
          have r_74 := r_60.grow g_67
          obtain rfl := r_66.isL.eqn
          have u_75 := r_66.up
          have u_76 := r_66.lo
          refine T_laws_eqFloat32S_i ⟨_, _, r_73.isL, r_66.isL, (by first | omega | (simp only [List.length_set, List.length_replicate, List.length_append, List.length_cons, List.length_nil, List.length_take, List.length_drop, marks_length]; done) | (simp only [List.length_set, List.length_replicate, List.length_append, List.length_cons, List.length_nil, List.length_take, List.length_drop, marks_length]; omega)), (by first | omega | (simp only [List.length_set, List.length_replicate, List.length_append, List.length_cons, List.length_nil, List.length_take, List.length_drop, marks_length]; done) | (simp only [List.length_set, List.length_replicate, List.length_append, List.length_cons, List.length_nil, List.length_take, List.length_drop, marks_length]; omega)), ?_⟩
          refine Br.intro (fun c_78 => ?_) (fun c_78 => ?_)
          · have e := e.trans (cond_t c_78)
            have c_78n := nf_of_t c_78
            first | exact hk _ | (exfalso; cases e; done) | (rw [← e]; exact hk _)
          · have e := e.trans (cond_f c_78)
            have c_78n := nt_of_f c_78
            refine T_laws_toFloat32S_i ⟨_, (i_aB.grow g_69), (by first | omega | (simp only [List.length_set, List.length_replicate, List.length_append, List.length_cons, List.length_nil, List.length_take, List.length_drop, marks_length]; done) | (simp only [List.length_set, List.length_replicate, List.length_append, List.length_cons, List.length_nil, List.length_take, List.length_drop, marks_length]; omega)), fun a_79 n_80 e_81 H_7 g_83 r_82 => ?_⟩
            have l_84 := g_83.1
            have g_85 := g_69.trans g_83
            have l_86 := g_85.1
            have r_87 := r_71.grow g_83
            have r_88 := r_72.grow g_83
            have r_89 := r_73.grow g_83
            have r_90 := r_74.grow g_83
            have r_91 := r_66.grow g_83
            obtain rfl := r_82.isL.eqn
            have u_92 := r_82.up
            have u_93 := r_82.lo
            refine T_laws_eqFloat32S_i ⟨_, _, r_90.isL, r_82.isL, (by first | omega | (simp only [List.length_set, List.length_replicate, List.length_append, List.length_cons, List.length_nil, List.length_take, List.length_drop, marks_length]; done) | (simp only [List.length_set, List.length_replicate, List.length_append, List.length_cons, List.length_nil, List.length_take, List.length_drop, marks_length]; omega)), (by first | omega | (simp only [List.length_set, List.length_replicate, List.length_append, List.length_cons, List.length_nil, List.length_take, List.length_drop, marks_length]; done) | (simp only [List.length_set, List.length_replicate, List.length_append, List.length_cons, List.length_nil, List.length_take, List.length_drop, marks_length]; omega)), ?_⟩
            refine Br.intro (fun c_95 => ?_) (fun c_95 => ?_)
            · have e := e.trans (cond_t c_95)
              have c_95n := nf_of_t c_95
              first | exact hk _ | (exfalso; cases e; done) | (rw [← e]; exact hk _)
            · have e := e.trans (cond_f c_95)
              have c_95n := nt_of_f c_95
              first | exact hk _ | (exfalso; cases e; done) | (rw [← e]; exact hk _)
theorem laws_FnExactClearnessOf_ok : FnOk Try.prog 8 S_laws_FnExactClearnessOf := by
  refine FnOk.body mix_ok E_laws_FnExactClearnessOf_ok Try.func8 rfl (by kernel_rfl) (by kernel_rfl) ?_ ?_ ?_ ?_ ?_
  · intro args H K K' h hk
    simp only [S_laws_FnExactClearnessOf] at *
    unfold F_laws_FnExactClearnessOf at *
    split at hk
    · obtain ⟨l_aA, l_aB, h_0, h_1, h_2, h_3, h_4, h_5, k⟩ := hk
      exact ⟨l_aA, l_aB, h_0, h_1, h_2, h_3, h_4, h_5, (fun H' => h _ _ (k H'))⟩
    · exact hk.elim
  · intro hq; cases hq
  · intro args H K hk
    simp only [S_laws_FnExactClearnessOf] at *
    unfold F_laws_FnExactClearnessOf at *
    split at hk
    · obtain ⟨l_aA, l_aB, h_0, h_1, h_2, h_3, h_4, h_5, k⟩ := hk
      exact ⟨_, _, k []⟩
    · exact hk.elim
  · intro hq; cases hq
  · have mm := @laws_FnExactClearnessOf_main
    revert mm
    generalize bodyK Try.prog E_laws_FnExactClearnessOf Try.f8 = Q
    intro mm args H K hk
    simp only [S_laws_FnExactClearnessOf] at *
    unfold F_laws_FnExactClearnessOf at *
    split at hk
    · exact mm _ _ _ _ _ _ H K hk
    · exact hk.elim
end Go.Proofs.Ytghkkclonabpkaa.Ai
