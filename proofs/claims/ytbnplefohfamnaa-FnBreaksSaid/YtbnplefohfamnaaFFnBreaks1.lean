/- What functions of the program come to on the abstract machine, and that they do so; printed by a program of mine around proofs of mine. -/
import Derived.Test.YtbnplefohfamnaaFFnBreaks0
set_option linter.unusedVariables false
set_option linter.unusedSimpArgs false
set_option linter.defProp false
set_option maxRecDepth 100000
namespace Go.Proofs.Ytbnplefohfamnaa.Ai
open Go
attribute [local irreducible] bodyK bodyL
def p_spec_l00In (n : Int) (low : Int) (high : Int) : Bool := (bif decide ((low : Int) ≤ n) then decide ((n : Int) ≤ high) else false)
def T_spec_l00In (n : Int) (low : Int) (high : Int) (H : AHeap) (K : Bool → AHeap → Prop) : Prop := K (p_spec_l00In n low high) H
theorem spec_l00In_t {n a b : Int} (h : p_spec_l00In n a b = true) : a ≤ n ∧ n ≤ b := by
  unfold p_spec_l00In at h
  by_cases h1 : a ≤ n
  · rw [decide_eq_true h1, cond_true] at h; exact ⟨h1, of_decide_eq_true h⟩
  · rw [decide_eq_false h1] at h; cases h
theorem T_spec_l00In_i {n : Int} {low : Int} {high : Int} {H : AHeap} {K : Bool → AHeap → Prop} (h : K (p_spec_l00In n low high) H) : T_spec_l00In n low high H K := h
/-! spec_l00In: function 93 -/
def E_spec_l00In : Env := envOf []
def F_spec_l00In : List Value → AHeap → (Value → AHeap → Prop) → Prop
  | [.int .i64 n, .int .i64 low, .int .i64 high], H, K => T_spec_l00In n low high H fun (r1 : Bool) (H' : AHeap) => K (.bool r1) H'
  | _, _, _ => False
def S_spec_l00In : FSpec := { F := F_spec_l00In, quiet := true, tame := false }
theorem spec_l00In_vc (n : Int) (low : Int) (high : Int) (H : AHeap) (K : Value → AHeap → Prop) : bodyL Try.prog E_spec_l00In Try.f93 [.int .i64 n, .int .i64 low, .int .i64 high] H K =
  (Br (decide ((low : Int) ≤ n)) (K (.bool (decide ((n : Int) ≤ high))) H) (K (.bool false) H)) := by kernel_rfl
theorem E_spec_l00In_ok : ∀ g, FnOk Try.prog g (E_spec_l00In g) := FnOk.envOf (by
  intro x hx; cases hx)
set_option maxHeartbeats 1000000 in
theorem spec_l00In_main (n : Int) (low : Int) (high : Int) (H : AHeap) (K : Value → AHeap → Prop) (h : T_spec_l00In n low high H fun (r1 : Bool) (H' : AHeap) => K (.bool r1) H') : bodyL Try.prog E_spec_l00In Try.f93 [.int .i64 n, .int .i64 low, .int .i64 high] H K := by
  rw [spec_l00In_vc]
  unfold T_spec_l00In p_spec_l00In at h
  repeat' (first | exact h | (exfalso; simp_all; done) | (refine ⟨by decide, ?_⟩) | (refine Br.intro (fun hb => ?_) (fun hb => ?_) <;> (try simp only [hb, cond_true, cond_false, Bool.not_true, Bool.not_false] at h)))
theorem spec_l00In_ok : FnOk Try.prog 93 S_spec_l00In := by
  refine FnOk.body mix_ok E_spec_l00In_ok Try.func93 rfl (by kernel_rfl) (by kernel_rfl) ?_ ?_ ?_ ?_ ?_
  · intro args H K K' h hk
    simp only [S_spec_l00In] at *
    unfold F_spec_l00In at *
    split at hk
    · have k := hk
      exact h _ _ k
    · exact hk.elim
  · intro _ args H K hk
    simp only [S_spec_l00In] at *
    unfold F_spec_l00In at *
    split at hk
    · have k := hk
      exact ⟨_, k, fun K' k' => k'⟩
    · exact hk.elim
  · intro args H K hk
    simp only [S_spec_l00In] at *
    unfold F_spec_l00In at *
    split at hk
    · have k := hk
      exact ⟨_, _, k⟩
    · exact hk.elim
  · intro hq; cases hq
  · have mm := @spec_l00In_main
    have ml := fun (args : List Value) (H : AHeap) (K : Value → AHeap → Prop) => bodyL_body (P := Try.prog) (env := E_spec_l00In ) (fn := Try.f93) (args := args) (H := H) (K := K) E_spec_l00In_ok 
    revert mm ml
    generalize bodyK Try.prog E_spec_l00In Try.f93 = Q
    generalize bodyL Try.prog E_spec_l00In Try.f93 = QL
    intro mm ml args H K hk
    simp only [S_spec_l00In] at *
    unfold F_spec_l00In at *
    split at hk
    · exact ml _ H K (mm _ _ _ H K hk)
    · exact hk.elim

def p_spec_l05Mean_l1 (l_list : List Nat) : Nat → Nat → Int → Nat
  | 0, _, _ => 0
  | μ + 1, sum, t7 => (bif decide ((t7 : Int) < (l_list.length : Int)) then (p_spec_l05Mean_l1 l_list μ (fadd .f32 sum (((l_list).getD (t7 : Int).toNat 0))) (t7 + 1)) else fdiv .f32 sum (FloatKind.nearest .f32 (l_list.length : Int)))
def p_spec_l05Mean_l1_s := fun l_list μ sum t7 => @p_spec_l05Mean_l1.eq_2 l_list sum t7 μ
def p_spec_l05Mean (l_list : List Nat) : Nat := (p_spec_l05Mean_l1 l_list (Int.toNat ((l_list.length : Int) - (0 : Int)) + 1) 0 (0 : Int))
def p_spec_l05Mean_eq := @p_spec_l05Mean.eq_1
def T_spec_l05Mean (list_a : Option Addr) (list_n : Nat) (list_e : Nat) (H : AHeap) (K : Nat → AHeap → Prop) : Prop := ∃ (l_list : List Nat), IsL fF H list_a list_n l_list ∧ l_list.length < 1073741824 ∧ K (p_spec_l05Mean l_list) H
theorem T_spec_l05Mean_i {list_a : Option Addr} {list_n : Nat} {list_e : Nat} {H : AHeap} {K : Nat → AHeap → Prop} (h : ∃ (l_list : List Nat), IsL fF H list_a list_n l_list ∧ l_list.length < 1073741824 ∧ K (p_spec_l05Mean l_list) H) : T_spec_l05Mean list_a list_n list_e H K := h

/-! spec_l05Mean: function 192 -/
def E_spec_l05Mean : Env := envOf []
def F_spec_l05Mean : List Value → AHeap → (Value → AHeap → Prop) → Prop
  | [.slice list_a list_n list_e], H, K => T_spec_l05Mean list_a list_n list_e H fun (r1 : Nat) (H' : AHeap) => K (.float .f32 r1) H'
  | _, _, _ => False
def S_spec_l05Mean : FSpec := { F := F_spec_l05Mean, quiet := true, tame := false }
theorem spec_l05Mean_vc (list_a : Option Addr) (list_n : Nat) (list_e : Nat) (H : AHeap) (K : Value → AHeap → Prop) : bodyL Try.prog E_spec_l05Mean Try.f192 [.slice list_a list_n list_e] H K =
  (loopK (exL Try.prog E_spec_l05Mean (cl (cl (cr (cl (cr (cr (bodyC Try.f192))))))) 201 4 [(0, 9)]) [.slice list_a list_n list_e, ud, ud, .float .f32 0, ud, ud, .int .i64 (list_n : Int), .int .i64 0, ud, ud, ud, ud, ud, ud, ud, ud, ud, ud, ud, ud, ud, ud] H (blockQ 0 (seqQ (exL Try.prog E_spec_l05Mean (cr (cr (cr (bodyC Try.f192)))) 4 4 []) (retK Try.prog Try.f192 K)))) := by kernel_rfl
abbrev spec_l05Mean_P1 (list_a : Option Addr) (list_e : Nat) (list_n : Nat) (sum : Nat) (t7 : Int)  : List Value := [.slice list_a list_n list_e, ud, ud, .float .f32 sum, ud, ud, .int .i64 (list_n : Int), .int .i64 t7, ud, ud, ud, ud, ud, ud, ud, ud, ud, ud, ud, ud, ud, ud]
theorem spec_l05Mean_r1 (list_a : Option Addr) (list_e : Nat) (list_n : Nat) (sum : Nat) (t7 : Int)  (H : AHeap) (R : Post) : exL Try.prog E_spec_l05Mean (cl (cl (cr (cl (cr (cr (bodyC Try.f192))))))) 201 4 [(0, 9)] (spec_l05Mean_P1 list_a list_e list_n sum t7) H R =
  (Br (decide ((t7 : Int) < (list_n : Int))) ((0 : Int) ≤ t7 ∧ t7 < (list_n : Int) ∧ ∃ b1 f1, (list_a : Option Addr) = some ⟨b1, f1, none⟩ ∧ ∃ x1 : Nat,  rdC H b1 (f1 + (t7 : Int).toNat * 1) = some (.float .f32 x1) ∧ R .normal [.slice list_a list_n list_e, ud, ud, .float .f32 (fadd .f32 sum x1), ud, ud, .int .i64 (list_n : Int), .int .i64 (IntKind.wrap .i64 (t7 + 1)), ud, ud, ud, ud, ud, ud, ud, ud, ud, ud, ud, ud, ud, ud] H) (R (.exit 0) [.slice list_a list_n list_e, ud, ud, .float .f32 sum, ud, ud, ud, ud, ud, ud, ud, ud, ud, ud, ud, ud, ud, ud, ud, ud, ud, ud] H)) := by kernel_rfl
def spec_l05Mean_I1 (list_a : Option Addr) (list_e : Nat) (list_n : Nat) (Inv : Nat → Nat → Int → AHeap → Prop) : Nat → List Value → AHeap → Prop := fun μ tm H => ∃ (sum : Nat), ∃ (t7 : Int), tm = (spec_l05Mean_P1 list_a list_e list_n sum t7) ∧ Inv μ sum t7 H
theorem spec_l05Mean_L1 (list_a : Option Addr) (list_e : Nat) (list_n : Nat) {Q : Post} (Inv : Nat → Nat → Int → AHeap → Prop) (ν : Nat) (sum : Nat) (t7 : Int)  (H : AHeap) (h0 : Inv ν sum t7 H)
    (hs : ∀ (μ : Nat) (sum : Nat) (t7 : Int)  (H : AHeap), Inv μ sum t7 H → exL Try.prog E_spec_l05Mean (cl (cl (cr (cl (cr (cr (bodyC Try.f192))))))) 201 4 [(0, 9)] (spec_l05Mean_P1 list_a list_e list_n sum t7) H (loopQ (spec_l05Mean_I1 list_a list_e list_n Inv) μ Q)) : loopK (exL Try.prog E_spec_l05Mean (cl (cl (cr (cl (cr (cr (bodyC Try.f192))))))) 201 4 [(0, 9)]) (spec_l05Mean_P1 list_a list_e list_n sum t7) H Q :=
  ⟨spec_l05Mean_I1 list_a list_e list_n Inv, ν, ⟨sum, t7, rfl, h0⟩, fun μ tm H h => by obtain ⟨sum, t7, rfl, hI⟩ := h; exact hs μ sum t7  H hI⟩
theorem spec_l05Mean_n1 {list_a : Option Addr} {list_e : Nat} {list_n : Nat} {Q : Post} {Inv : Nat → Nat → Int → AHeap → Prop} {μ : Nat} (μ' : Nat) {sum : Nat} {t7 : Int}  {H : AHeap} (hm : μ' < μ) (hI : Inv μ' sum t7 H) : loopQ (spec_l05Mean_I1 list_a list_e list_n Inv) μ Q .normal (spec_l05Mean_P1 list_a list_e list_n sum t7) H := ⟨μ', hm, sum, t7, rfl, hI⟩
theorem spec_l05Mean_x1_0 (list_a : Option Addr) (list_e : Nat) (list_n : Nat) (sum : Nat) (H : AHeap) (K : Value → AHeap → Prop)  {I : Nat → List Value → AHeap → Prop} {μ : Nat} : loopQ I μ (blockQ 0 (seqQ (exL Try.prog E_spec_l05Mean (cr (cr (cr (bodyC Try.f192)))) 4 4 []) (retK Try.prog Try.f192 K))) (.exit 0) [.slice list_a list_n list_e, ud, ud, .float .f32 sum, ud, ud, ud, ud, ud, ud, ud, ud, ud, ud, ud, ud, ud, ud, ud, ud, ud, ud] H =
  (K (.float .f32 (fdiv .f32 sum (FloatKind.nearest .f32 (list_n : Int)))) H) := by kernel_rfl
theorem E_spec_l05Mean_ok : ∀ g, FnOk Try.prog g (E_spec_l05Mean g) := FnOk.envOf (by
  intro x hx; cases hx)
set_option maxHeartbeats 1000000 in
theorem spec_l05Mean_main (list_a : Option Addr) (list_n : Nat) (list_e : Nat) (H : AHeap) (K : Value → AHeap → Prop) (h : T_spec_l05Mean list_a list_n list_e H fun (r1 : Nat) (H' : AHeap) => K (.float .f32 r1) H') : bodyL Try.prog E_spec_l05Mean Try.f192 [.slice list_a list_n list_e] H K := by
  rw [spec_l05Mean_vc]
  obtain ⟨l_list, i_list, bd_8, hk⟩ := h
  obtain rfl := i_list.eqn
  have e : (p_spec_l05Mean l_list) = _ := rfl
  have e := e.trans (p_spec_l05Mean_eq l_list)
  have g0 := Grow.refl H
  refine spec_l05Mean_L1 _ _ _ (fun (μ : Nat) (sum : Nat) (t7 : Int) (H_1 : AHeap) => H = H_1 ∧ (0 : Int) ≤ t7 ∧ t7 ≤ (l_list.length : Int) ∧ (l_list.length : Int) - t7 ≤ (μ : Int) ∧ p_spec_l05Mean l_list = p_spec_l05Mean_l1 l_list (μ + 1) sum t7) (Int.toNat ((l_list.length : Int) - (0 : Int))) _ _ H ?_ ?_
  · exact ⟨rfl, ω7, ω7, ω3, e⟩
  · intro μ sum t7  H_1 hI
    obtain ⟨rfl, v_1, v_2, hμ, e⟩ := hI
    rw [spec_l05Mean_r1]
    have e := e.trans (p_spec_l05Mean_l1_s l_list μ sum t7)
    have l_3 := g0.1
    refine Br.intro (fun c_4 => ?_) (fun c_4 => ?_)
    · have e := e.trans (cond_t c_4)
      have c_4' := of_decide_eq_true c_4
      obtain ⟨b_5, f_6, q_7⟩ := ((i_list.grow g0)).pos ω0
      refine ⟨by omega, by omega, b_5, f_6, q_7, ?_⟩
      refine ⟨((l_list).getD (t7 : Int).toNat 0), (i_list).rd g0 q_7 ω3 _, ?_⟩
      rw [show IntKind.wrap .i64 (t7 + 1) = (t7 + 1) from wrap64 ω3 ω3]
      refine spec_l05Mean_n1 (μ - 1) ω9 ⟨rfl, ω1, ω1, ω9, (by rw [show μ - 1 + 1 = μ from by first | omega]; exact e)⟩
    · have e := e.trans (cond_f c_4)
      have c_4' := of_decide_eq_false c_4
      rw [spec_l05Mean_x1_0]
      rw [e] at hk
      exact hk
theorem spec_l05Mean_ok : FnOk Try.prog 192 S_spec_l05Mean := by
  refine FnOk.body mix_ok E_spec_l05Mean_ok Try.func192 rfl (by kernel_rfl) (by kernel_rfl) ?_ ?_ ?_ ?_ ?_
  · intro args H K K' h hk
    simp only [S_spec_l05Mean] at *
    unfold F_spec_l05Mean at *
    split at hk
    · obtain ⟨l_list, i_list, bd_8, k⟩ := hk
      exact ⟨l_list, i_list, bd_8, h _ _ k⟩
    · exact hk.elim
  · intro _ args H K hk
    simp only [S_spec_l05Mean] at *
    unfold F_spec_l05Mean at *
    split at hk
    · obtain ⟨l_list, i_list, bd_8, k⟩ := hk
      exact ⟨_, k, fun K' k' => ⟨l_list, i_list, bd_8, k'⟩⟩
    · exact hk.elim
  · intro args H K hk
    simp only [S_spec_l05Mean] at *
    unfold F_spec_l05Mean at *
    split at hk
    · obtain ⟨l_list, i_list, bd_8, k⟩ := hk
      exact ⟨_, _, k⟩
    · exact hk.elim
  · intro hq; cases hq
  · have mm := @spec_l05Mean_main
    have ml := fun (args : List Value) (H : AHeap) (K : Value → AHeap → Prop) => bodyL_body (P := Try.prog) (env := E_spec_l05Mean ) (fn := Try.f192) (args := args) (H := H) (K := K) E_spec_l05Mean_ok 
    revert mm ml
    generalize bodyK Try.prog E_spec_l05Mean Try.f192 = Q
    generalize bodyL Try.prog E_spec_l05Mean Try.f192 = QL
    intro mm ml args H K hk
    simp only [S_spec_l05Mean] at *
    unfold F_spec_l05Mean at *
    split at hk
    · exact ml _ H K (mm _ _ _ H K hk)
    · exact hk.elim

def p_spec_l05Break_l1 (l_list : List Nat) : Nat → Int → Nat → Bool → Int → Nat → Int → Int × Nat × Bool
  | 0, _, _, _, _, _, _ => (0, 0, false)
  | μ + 1, t2, t3, t4, best, vmost, k => (bif decide ((k : Int) < (l_list.length : Int)) then (bif !((p_spec_l01Finite (fadd .f32 (fmul .f32 (fmul .f32 (FloatKind.nearest .f32 k) (fsub .f32 ((p_spec_l05Mean ((((l_list).drop (0 : Int).toNat).take ((k : Int) - 0).toNat)))) (p_spec_l05Mean l_list))) (fsub .f32 ((p_spec_l05Mean ((((l_list).drop (0 : Int).toNat).take ((k : Int) - 0).toNat)))) (p_spec_l05Mean l_list))) (fmul .f32 (fmul .f32 (FloatKind.nearest .f32 (IntKind.wrap .i64 ((l_list.length : Int) - k))) (fsub .f32 ((p_spec_l05Mean ((((l_list).drop (k : Int).toNat).take (((l_list.length : Int) : Int) - k).toNat)))) (p_spec_l05Mean l_list))) (fsub .f32 ((p_spec_l05Mean ((((l_list).drop (k : Int).toNat).take (((l_list.length : Int) : Int) - k).toNat)))) (p_spec_l05Mean l_list)))))) then ((0 : Int), 0, false) else (bif (best : Int) == 0 then (p_spec_l05Break_l1 l_list μ t2 t3 t4 k (fadd .f32 (fmul .f32 (fmul .f32 (FloatKind.nearest .f32 k) (fsub .f32 ((p_spec_l05Mean ((((l_list).drop (0 : Int).toNat).take ((k : Int) - 0).toNat)))) (p_spec_l05Mean l_list))) (fsub .f32 ((p_spec_l05Mean ((((l_list).drop (0 : Int).toNat).take ((k : Int) - 0).toNat)))) (p_spec_l05Mean l_list))) (fmul .f32 (fmul .f32 (FloatKind.nearest .f32 (IntKind.wrap .i64 ((l_list.length : Int) - k))) (fsub .f32 ((p_spec_l05Mean ((((l_list).drop (k : Int).toNat).take (((l_list.length : Int) : Int) - k).toNat)))) (p_spec_l05Mean l_list))) (fsub .f32 ((p_spec_l05Mean ((((l_list).drop (k : Int).toNat).take (((l_list.length : Int) : Int) - k).toNat)))) (p_spec_l05Mean l_list)))) (k + 1)) else (bif flt .f32 vmost (fadd .f32 (fmul .f32 (fmul .f32 (FloatKind.nearest .f32 k) (fsub .f32 ((p_spec_l05Mean ((((l_list).drop (0 : Int).toNat).take ((k : Int) - 0).toNat)))) (p_spec_l05Mean l_list))) (fsub .f32 ((p_spec_l05Mean ((((l_list).drop (0 : Int).toNat).take ((k : Int) - 0).toNat)))) (p_spec_l05Mean l_list))) (fmul .f32 (fmul .f32 (FloatKind.nearest .f32 (IntKind.wrap .i64 ((l_list.length : Int) - k))) (fsub .f32 ((p_spec_l05Mean ((((l_list).drop (k : Int).toNat).take (((l_list.length : Int) : Int) - k).toNat)))) (p_spec_l05Mean l_list))) (fsub .f32 ((p_spec_l05Mean ((((l_list).drop (k : Int).toNat).take (((l_list.length : Int) : Int) - k).toNat)))) (p_spec_l05Mean l_list)))) then (p_spec_l05Break_l1 l_list μ t2 t3 t4 k (fadd .f32 (fmul .f32 (fmul .f32 (FloatKind.nearest .f32 k) (fsub .f32 ((p_spec_l05Mean ((((l_list).drop (0 : Int).toNat).take ((k : Int) - 0).toNat)))) (p_spec_l05Mean l_list))) (fsub .f32 ((p_spec_l05Mean ((((l_list).drop (0 : Int).toNat).take ((k : Int) - 0).toNat)))) (p_spec_l05Mean l_list))) (fmul .f32 (fmul .f32 (FloatKind.nearest .f32 (IntKind.wrap .i64 ((l_list.length : Int) - k))) (fsub .f32 ((p_spec_l05Mean ((((l_list).drop (k : Int).toNat).take (((l_list.length : Int) : Int) - k).toNat)))) (p_spec_l05Mean l_list))) (fsub .f32 ((p_spec_l05Mean ((((l_list).drop (k : Int).toNat).take (((l_list.length : Int) : Int) - k).toNat)))) (p_spec_l05Mean l_list)))) (k + 1)) else (p_spec_l05Break_l1 l_list μ t2 t3 t4 best vmost (k + 1))))) else (best, vmost, true))
def p_spec_l05Break_l1_s := fun l_list μ t2 t3 t4 best vmost k => @p_spec_l05Break_l1.eq_2 l_list t2 t3 t4 best vmost k μ
def p_spec_l05Break (l_list : List Nat) : Int × Nat × Bool := (p_spec_l05Break_l1 l_list (Int.toNat ((l_list.length : Int) - (1 : Int)) + 1) (0 : Int) 0 false (0 : Int) 0 (1 : Int))
def p_spec_l05Break_eq := @p_spec_l05Break.eq_1
def T_spec_l05Break (list_a : Option Addr) (list_n : Nat) (list_e : Nat) (H : AHeap) (K : Int → Nat → Bool → AHeap → Prop) : Prop := ∃ (l_list : List Nat), IsL fF H list_a list_n l_list ∧ l_list.length < 1073741824 ∧ K ((p_spec_l05Break l_list).1) ((p_spec_l05Break l_list).2.1) ((p_spec_l05Break l_list).2.2) H
theorem T_spec_l05Break_i {list_a : Option Addr} {list_n : Nat} {list_e : Nat} {H : AHeap} {K : Int → Nat → Bool → AHeap → Prop} (h : ∃ (l_list : List Nat), IsL fF H list_a list_n l_list ∧ l_list.length < 1073741824 ∧ K ((p_spec_l05Break l_list).1) ((p_spec_l05Break l_list).2.1) ((p_spec_l05Break l_list).2.2) H) : T_spec_l05Break list_a list_n list_e H K := h
theorem cnd' {α : Type} {P : α → Prop} {b : Bool} {x y : α} (h1 : b = true → P x) (h2 : b = false → P y) : P (bif b then x else y) := by
  cases b
  · exact h2 rfl
  · exact h1 rfl
theorem spec_l05Break_l1_at (l : List Nat) (t2 : Int) (t3 : Nat) (t4 : Bool) : ∀ (μ : Nat) (best : Int) (vm : Nat) (k : Int), 0 ≤ best → best ≤ (l.length : Int) → 0 ≤ k →
    0 ≤ (p_spec_l05Break_l1 l μ t2 t3 t4 best vm k).1 ∧ (p_spec_l05Break_l1 l μ t2 t3 t4 best vm k).1 ≤ (l.length : Int) := by
  intro μ
  induction μ with
  | zero => intro best vm k h0 h1 h2; exact ⟨Int.le_refl _, Int.natCast_nonneg _⟩
  | succ μ ih =>
    intro best vm k h0 h1 h2
    rw [p_spec_l05Break_l1_s]
    refine cnd' (P := fun r : Int × Nat × Bool => 0 ≤ r.1 ∧ r.1 ≤ (l.length : Int)) (fun h => ?_) (fun h => ⟨h0, h1⟩)
    have hk := of_decide_eq_true h
    refine cnd' (P := fun r : Int × Nat × Bool => 0 ≤ r.1 ∧ r.1 ≤ (l.length : Int)) (fun h => ⟨Int.le_refl _, Int.natCast_nonneg _⟩) (fun h => ?_)
    refine cnd' (P := fun r : Int × Nat × Bool => 0 ≤ r.1 ∧ r.1 ≤ (l.length : Int)) (fun h => ih _ _ _ ω3 ω3 ω3) (fun h => ?_)
    exact cnd' (P := fun r : Int × Nat × Bool => 0 ≤ r.1 ∧ r.1 ≤ (l.length : Int)) (fun h => ih _ _ _ ω3 ω3 ω3) (fun h => ih _ _ _ ω3 ω3 ω3)
theorem spec_l05Break_at (l : List Nat) : 0 ≤ (p_spec_l05Break l).1 ∧ (p_spec_l05Break l).1 ≤ (l.length : Int) := by
  rw [p_spec_l05Break_eq]
  exact spec_l05Break_l1_at _ _ _ _ _ _ _ _ (Int.le_refl _) (Int.natCast_nonneg _) ω12
/-! spec_l05Break: function 156 -/
def E_spec_l05Break : Env := envOf [(192, S_spec_l05Mean), (155, S_spec_l01Finite)]
def F_spec_l05Break : List Value → AHeap → (Value → AHeap → Prop) → Prop
  | [.slice list_a list_n list_e], H, K => T_spec_l05Break list_a list_n list_e H fun (r1 : Int) (r2 : Nat) (r3 : Bool) (H' : AHeap) => K (.tuple #[.int .i64 r1, .float .f32 r2, .bool r3]) H'
  | _, _, _ => False
def S_spec_l05Break : FSpec := { F := F_spec_l05Break, quiet := true, tame := false }
theorem spec_l05Break_vc (list_a : Option Addr) (list_n : Nat) (list_e : Nat) (H : AHeap) (K : Value → AHeap → Prop) : bodyL Try.prog E_spec_l05Break Try.f156 [.slice list_a list_n list_e] H K =
  (T_spec_l05Mean list_a list_n list_e H fun (r1 : Nat) (H1 : AHeap) => loopK (exL Try.prog E_spec_l05Break (cl (cl (cr (cl (cr (cr (cr (cr (cr (bodyC Try.f156)))))))))) 993 28 [(0, 192)]) [.slice list_a list_n list_e, ud, ud, ud, ud, .float .f32 r1, .int .i64 0, .float .f32 0, .int .i64 (list_n : Int), .int .i64 1, ud, ud, ud, ud, ud, ud, ud, ud, ud, ud, ud, ud, ud, ud, ud, ud, ud, ud, ud, ud, ud, ud, ud, ud, ud, ud, ud, ud, ud, ud, ud, ud, ud, ud, ud, ud, ud, ud, ud, ud, ud, ud, ud, ud, ud, ud, ud, ud, ud, ud, ud, ud, ud] H1 (blockQ 0 (seqQ (exL Try.prog E_spec_l05Break (cr (cr (cr (cr (cr (cr (bodyC Try.f156))))))) 28 28 []) (retK Try.prog Try.f156 K)))) := by kernel_rfl
abbrev spec_l05Break_P1 (list_a : Option Addr) (list_e : Nat) (list_n : Nat) (r1 : Nat) (best : Int) (vmost : Nat) (k : Int)  : List Value := [.slice list_a list_n list_e, ud, ud, ud, ud, .float .f32 r1, .int .i64 best, .float .f32 vmost, .int .i64 (list_n : Int), .int .i64 k, ud, ud, ud, ud, ud, ud, ud, ud, ud, ud, ud, ud, ud, ud, ud, ud, ud, ud, ud, ud, ud, ud, ud, ud, ud, ud, ud, ud, ud, ud, ud, ud, ud, ud, ud, ud, ud, ud, ud, ud, ud, ud, ud, ud, ud, ud, ud, ud, ud, ud, ud, ud, ud]
theorem spec_l05Break_r1 (list_a : Option Addr) (list_e : Nat) (list_n : Nat) (r1 : Nat) (best : Int) (vmost : Nat) (k : Int)  (H : AHeap) (R : Post) : exL Try.prog E_spec_l05Break (cl (cl (cr (cl (cr (cr (cr (cr (cr (bodyC Try.f156)))))))))) 993 28 [(0, 192)] (spec_l05Break_P1 list_a list_e list_n r1 best vmost k) H R =
  (Br (decide ((k : Int) < (list_n : Int))) ((0 : Int) ≤ 0 ∧ 0 ≤ k ∧ k ≤ (list_n : Int) ∧ T_spec_l05Mean ((list_a : Option Addr).map fun a => ⟨a.block, a.off + (0 : Int).toNat * 1, none⟩) (((k : Int) - 0).toNat) 0 H fun (r2 : Nat) (H2 : AHeap) => (0 : Int) ≤ k ∧ k ≤ (list_n : Int) ∧ (list_n : Int) ≤ (list_n : Int) ∧ T_spec_l05Mean ((list_a : Option Addr).map fun a => ⟨a.block, a.off + (k : Int).toNat * 1, none⟩) ((((list_n : Int) : Int) - k).toNat) 0 H2 fun (r3 : Nat) (H3 : AHeap) => T_spec_l01Finite (fadd .f32 (fmul .f32 (fmul .f32 (FloatKind.nearest .f32 k) (fsub .f32 r2 r1)) (fsub .f32 r2 r1)) (fmul .f32 (fmul .f32 (FloatKind.nearest .f32 (IntKind.wrap .i64 ((list_n : Int) - k))) (fsub .f32 r3 r1)) (fsub .f32 r3 r1))) H3 fun (r4 : Bool) (H4 : AHeap) => Br (!r4) (R .ret [ud, ud, .int .i64 0, .float .f32 0, .bool false, ud, ud, ud, ud, ud, ud, ud, ud, ud, ud, ud, ud, ud, ud, ud, ud, ud, ud, ud, ud, ud, ud, ud, ud, ud, ud, ud, ud, ud, ud, ud, ud, ud, ud, ud, ud, ud, ud, ud, ud, ud, ud, ud, ud, ud, ud, ud, ud, ud, ud, ud, ud, ud, ud, ud, ud, ud, ud] H4) (Br ((best : Int) == 0) (R .normal [.slice list_a list_n list_e, ud, ud, ud, ud, .float .f32 r1, .int .i64 k, .float .f32 (fadd .f32 (fmul .f32 (fmul .f32 (FloatKind.nearest .f32 k) (fsub .f32 r2 r1)) (fsub .f32 r2 r1)) (fmul .f32 (fmul .f32 (FloatKind.nearest .f32 (IntKind.wrap .i64 ((list_n : Int) - k))) (fsub .f32 r3 r1)) (fsub .f32 r3 r1))), .int .i64 (list_n : Int), .int .i64 (IntKind.wrap .i64 (k + 1)), ud, ud, ud, ud, ud, ud, ud, ud, ud, ud, ud, ud, ud, ud, ud, ud, ud, ud, ud, ud, ud, ud, ud, ud, ud, ud, ud, ud, ud, ud, ud, ud, ud, ud, ud, ud, ud, ud, ud, ud, ud, ud, ud, ud, ud, ud, ud, ud, ud, ud, ud, ud, ud] H4) (Br (flt .f32 vmost (fadd .f32 (fmul .f32 (fmul .f32 (FloatKind.nearest .f32 k) (fsub .f32 r2 r1)) (fsub .f32 r2 r1)) (fmul .f32 (fmul .f32 (FloatKind.nearest .f32 (IntKind.wrap .i64 ((list_n : Int) - k))) (fsub .f32 r3 r1)) (fsub .f32 r3 r1)))) (R .normal [.slice list_a list_n list_e, ud, ud, ud, ud, .float .f32 r1, .int .i64 k, .float .f32 (fadd .f32 (fmul .f32 (fmul .f32 (FloatKind.nearest .f32 k) (fsub .f32 r2 r1)) (fsub .f32 r2 r1)) (fmul .f32 (fmul .f32 (FloatKind.nearest .f32 (IntKind.wrap .i64 ((list_n : Int) - k))) (fsub .f32 r3 r1)) (fsub .f32 r3 r1))), .int .i64 (list_n : Int), .int .i64 (IntKind.wrap .i64 (k + 1)), ud, ud, ud, ud, ud, ud, ud, ud, ud, ud, ud, ud, ud, ud, ud, ud, ud, ud, ud, ud, ud, ud, ud, ud, ud, ud, ud, ud, ud, ud, ud, ud, ud, ud, ud, ud, ud, ud, ud, ud, ud, ud, ud, ud, ud, ud, ud, ud, ud, ud, ud, ud, ud] H4) (R .normal [.slice list_a list_n list_e, ud, ud, ud, ud, .float .f32 r1, .int .i64 best, .float .f32 vmost, .int .i64 (list_n : Int), .int .i64 (IntKind.wrap .i64 (k + 1)), ud, ud, ud, ud, ud, ud, ud, ud, ud, ud, ud, ud, ud, ud, ud, ud, ud, ud, ud, ud, ud, ud, ud, ud, ud, ud, ud, ud, ud, ud, ud, ud, ud, ud, ud, ud, ud, ud, ud, ud, ud, ud, ud, ud, ud, ud, ud, ud, ud, ud, ud, ud, ud] H4)))) (R (.exit 0) [ud, ud, ud, ud, ud, ud, .int .i64 best, .float .f32 vmost, ud, ud, ud, ud, ud, ud, ud, ud, ud, ud, ud, ud, ud, ud, ud, ud, ud, ud, ud, ud, ud, ud, ud, ud, ud, ud, ud, ud, ud, ud, ud, ud, ud, ud, ud, ud, ud, ud, ud, ud, ud, ud, ud, ud, ud, ud, ud, ud, ud, ud, ud, ud, ud, ud, ud] H)) := by kernel_rfl
def spec_l05Break_I1 (list_a : Option Addr) (list_e : Nat) (list_n : Nat) (r1 : Nat) (Inv : Nat → Int → Nat → Int → AHeap → Prop) : Nat → List Value → AHeap → Prop := fun μ tm H => ∃ (best : Int), ∃ (vmost : Nat), ∃ (k : Int), tm = (spec_l05Break_P1 list_a list_e list_n r1 best vmost k) ∧ Inv μ best vmost k H
theorem spec_l05Break_L1 (list_a : Option Addr) (list_e : Nat) (list_n : Nat) (r1 : Nat) {Q : Post} (Inv : Nat → Int → Nat → Int → AHeap → Prop) (ν : Nat) (best : Int) (vmost : Nat) (k : Int)  (H : AHeap) (h0 : Inv ν best vmost k H)
    (hs : ∀ (μ : Nat) (best : Int) (vmost : Nat) (k : Int)  (H : AHeap), Inv μ best vmost k H → exL Try.prog E_spec_l05Break (cl (cl (cr (cl (cr (cr (cr (cr (cr (bodyC Try.f156)))))))))) 993 28 [(0, 192)] (spec_l05Break_P1 list_a list_e list_n r1 best vmost k) H (loopQ (spec_l05Break_I1 list_a list_e list_n r1 Inv) μ Q)) : loopK (exL Try.prog E_spec_l05Break (cl (cl (cr (cl (cr (cr (cr (cr (cr (bodyC Try.f156)))))))))) 993 28 [(0, 192)]) (spec_l05Break_P1 list_a list_e list_n r1 best vmost k) H Q :=
  ⟨spec_l05Break_I1 list_a list_e list_n r1 Inv, ν, ⟨best, vmost, k, rfl, h0⟩, fun μ tm H h => by obtain ⟨best, vmost, k, rfl, hI⟩ := h; exact hs μ best vmost k  H hI⟩
theorem spec_l05Break_n1 {list_a : Option Addr} {list_e : Nat} {list_n : Nat} {r1 : Nat} {Q : Post} {Inv : Nat → Int → Nat → Int → AHeap → Prop} {μ : Nat} (μ' : Nat) {best : Int} {vmost : Nat} {k : Int}  {H : AHeap} (hm : μ' < μ) (hI : Inv μ' best vmost k H) : loopQ (spec_l05Break_I1 list_a list_e list_n r1 Inv) μ Q .normal (spec_l05Break_P1 list_a list_e list_n r1 best vmost k) H := ⟨μ', hm, best, vmost, k, rfl, hI⟩
theorem spec_l05Break_x1_0 (best : Int) (vmost : Nat) (H : AHeap) (K : Value → AHeap → Prop)  {I : Nat → List Value → AHeap → Prop} {μ : Nat} : loopQ I μ (blockQ 0 (seqQ (exL Try.prog E_spec_l05Break (cr (cr (cr (cr (cr (cr (bodyC Try.f156))))))) 28 28 []) (retK Try.prog Try.f156 K))) (.exit 0) [ud, ud, ud, ud, ud, ud, .int .i64 best, .float .f32 vmost, ud, ud, ud, ud, ud, ud, ud, ud, ud, ud, ud, ud, ud, ud, ud, ud, ud, ud, ud, ud, ud, ud, ud, ud, ud, ud, ud, ud, ud, ud, ud, ud, ud, ud, ud, ud, ud, ud, ud, ud, ud, ud, ud, ud, ud, ud, ud, ud, ud, ud, ud, ud, ud, ud, ud] H =
  (K (.tuple #[.int .i64 best, .float .f32 vmost, .bool true]) H) := by kernel_rfl
theorem spec_l05Break_x1_ret (t2 : Int) (t3 : Nat) (t4 : Bool) (H : AHeap) (K : Value → AHeap → Prop)  {I : Nat → List Value → AHeap → Prop} {μ : Nat} : loopQ I μ (blockQ 0 (seqQ (exL Try.prog E_spec_l05Break (cr (cr (cr (cr (cr (cr (bodyC Try.f156))))))) 28 28 []) (retK Try.prog Try.f156 K))) .ret [ud, ud, .int .i64 t2, .float .f32 t3, .bool t4, ud, ud, ud, ud, ud, ud, ud, ud, ud, ud, ud, ud, ud, ud, ud, ud, ud, ud, ud, ud, ud, ud, ud, ud, ud, ud, ud, ud, ud, ud, ud, ud, ud, ud, ud, ud, ud, ud, ud, ud, ud, ud, ud, ud, ud, ud, ud, ud, ud, ud, ud, ud, ud, ud, ud, ud, ud, ud] H =
  (K (.tuple #[.int .i64 t2, .float .f32 t3, .bool t4]) H) := by kernel_rfl
theorem E_spec_l05Break_ok : ∀ g, FnOk Try.prog g (E_spec_l05Break g) := FnOk.envOf (by
  intro x hx
  simp only [List.mem_cons, List.not_mem_nil, or_false] at hx
  rcases hx with rfl | rfl
  · exact spec_l05Mean_ok
  · exact spec_l01Finite_ok)
set_option maxHeartbeats 1000000 in
theorem spec_l05Break_main (list_a : Option Addr) (list_n : Nat) (list_e : Nat) (H : AHeap) (K : Value → AHeap → Prop) (h : T_spec_l05Break list_a list_n list_e H fun (r1 : Int) (r2 : Nat) (r3 : Bool) (H' : AHeap) => K (.tuple #[.int .i64 r1, .float .f32 r2, .bool r3]) H') : bodyL Try.prog E_spec_l05Break Try.f156 [.slice list_a list_n list_e] H K := by
  rw [spec_l05Break_vc]
  obtain ⟨l_list, i_list, bd_10, hk⟩ := h
  obtain rfl := i_list.eqn
  have e : (p_spec_l05Break l_list) = _ := rfl
  have e := e.trans (p_spec_l05Break_eq l_list)
  have g0 := Grow.refl H
  refine T_spec_l05Mean_i ⟨_, (i_list.grow g0), ω0, ?_⟩
  refine spec_l05Break_L1 _ _ _ _ (fun (μ : Nat) (best : Int) (vmost : Nat) (k : Int) (H_1 : AHeap) => ∃ (t2 : Int), ∃ (t3 : Nat), ∃ (t4 : Bool), H = H_1 ∧ (1 : Int) ≤ k ∧ ((k ≤ (l_list.length : Int) ∨ k ≤ (1 : Int))) ∧ (l_list.length : Int) - k ≤ (μ : Int) ∧ p_spec_l05Break l_list = p_spec_l05Break_l1 l_list (μ + 1) t2 t3 t4 best vmost k) (Int.toNat ((l_list.length : Int) - (1 : Int))) _ _ _ H ?_ ?_
  · exact ⟨_, _, _, rfl, ω7, ω7, ω3, e⟩
  · intro μ best vmost k  H_1 hI
    obtain ⟨t2, t3, t4, rfl, v_1, v_2, hμ, e⟩ := hI
    rw [spec_l05Break_r1]
    have e := e.trans (p_spec_l05Break_l1_s l_list μ t2 t3 t4 best vmost k)
    have l_3 := g0.1
    refine Br.intro (fun c_4 => ?_) (fun c_4 => ?_)
    · have e := e.trans (cond_t c_4)
      have c_4' := of_decide_eq_true c_4
      refine ⟨by omega, by omega, by omega, ?_⟩
      have i_5 := sub_isl i_list (lo := 0) (hi := k) ω3 ω3 ω3
      refine T_spec_l05Mean_i ⟨_, (i_5.grow g0), ω0, ?_⟩
      refine ⟨by omega, by omega, by omega, ?_⟩
      have i_6 := sub_isl i_list (lo := k) (hi := (l_list.length : Int)) ω3 ω3 ω3
      refine T_spec_l05Mean_i ⟨_, (i_6.grow g0), ω0, ?_⟩
      refine T_spec_l01Finite_i ?_
      refine Br.intro (fun c_7 => ?_) (fun c_7 => ?_)
      · have e := e.trans (cond_t c_7)
        have c_7n := nf_of_t c_7
        rw [spec_l05Break_x1_ret]
        rw [e] at hk
        exact hk
      · have e := e.trans (cond_f c_7)
        have c_7n := nt_of_f c_7
        refine Br.intro (fun c_8 => ?_) (fun c_8 => ?_)
        · have e := e.trans (cond_t c_8)
          have c_8' := ieq_t c_8
          rw [show IntKind.wrap .i64 (k + 1) = (k + 1) from wrap64 ω3 ω3]
          refine spec_l05Break_n1 (μ - 1) ω9 ⟨_, _, _, rfl, ω1, ω1, ω9, (by rw [show μ - 1 + 1 = μ from by first | omega]; exact e)⟩
        · have e := e.trans (cond_f c_8)
          have c_8' := ieq_f c_8
          refine Br.intro (fun c_9 => ?_) (fun c_9 => ?_)
          · have e := e.trans (cond_t c_9)
            rw [show IntKind.wrap .i64 (k + 1) = (k + 1) from wrap64 ω3 ω3]
            refine spec_l05Break_n1 (μ - 1) ω9 ⟨_, _, _, rfl, ω1, ω1, ω9, (by rw [show μ - 1 + 1 = μ from by first | omega]; exact e)⟩
          · have e := e.trans (cond_f c_9)
            rw [show IntKind.wrap .i64 (k + 1) = (k + 1) from wrap64 ω3 ω3]
            refine spec_l05Break_n1 (μ - 1) ω9 ⟨_, _, _, rfl, ω1, ω1, ω9, (by rw [show μ - 1 + 1 = μ from by first | omega]; exact e)⟩
    · have e := e.trans (cond_f c_4)
      have c_4' := of_decide_eq_false c_4
      rw [spec_l05Break_x1_0]
      rw [e] at hk
      exact hk
theorem spec_l05Break_ok : FnOk Try.prog 156 S_spec_l05Break := by
  refine FnOk.body mix_ok E_spec_l05Break_ok Try.func156 rfl (by kernel_rfl) (by kernel_rfl) ?_ ?_ ?_ ?_ ?_
  · intro args H K K' h hk
    simp only [S_spec_l05Break] at *
    unfold F_spec_l05Break at *
    split at hk
    · obtain ⟨l_list, i_list, bd_10, k⟩ := hk
      exact ⟨l_list, i_list, bd_10, h _ _ k⟩
    · exact hk.elim
  · intro _ args H K hk
    simp only [S_spec_l05Break] at *
    unfold F_spec_l05Break at *
    split at hk
    · obtain ⟨l_list, i_list, bd_10, k⟩ := hk
      exact ⟨_, k, fun K' k' => ⟨l_list, i_list, bd_10, k'⟩⟩
    · exact hk.elim
  · intro args H K hk
    simp only [S_spec_l05Break] at *
    unfold F_spec_l05Break at *
    split at hk
    · obtain ⟨l_list, i_list, bd_10, k⟩ := hk
      exact ⟨_, _, k⟩
    · exact hk.elim
  · intro hq; cases hq
  · have mm := @spec_l05Break_main
    have ml := fun (args : List Value) (H : AHeap) (K : Value → AHeap → Prop) => bodyL_body (P := Try.prog) (env := E_spec_l05Break ) (fn := Try.f156) (args := args) (H := H) (K := K) E_spec_l05Break_ok 
    revert mm ml
    generalize bodyK Try.prog E_spec_l05Break Try.f156 = Q
    generalize bodyL Try.prog E_spec_l05Break Try.f156 = QL
    intro mm ml args H K hk
    simp only [S_spec_l05Break] at *
    unfold F_spec_l05Break at *
    split at hk
    · exact ml _ H K (mm _ _ _ H K hk)
    · exact hk.elim

def p_spec_BreaksOf_l2 (l_list : List Nat) (least : Nat) (vmost : Int) (vmost_2 : Int) (t7 : Bool) (l_edges : List Int) (k2_2 : Bool → Int → Int → Nat → Int → ((List Int) × Bool)) : Nat → Bool → Int → Int → Nat → Int → (List Int) × Bool
  | 0, _, _, _, _, _ => ([], false)
  | μ2 + 1, t7_7, best, vat, top, i => (bif decide (((i + 1) : Int) < (l_edges.length : Int)) then (bif decide ((((((l_edges).getD ((i + 1) : Int).toNat 0)) - (((l_edges).getD (i : Int).toNat 0))) : Int) < 2) then (p_spec_BreaksOf_l2 l_list least vmost vmost_2 t7 l_edges k2_2 μ2 t7_7 best vat top (i + 1)) else (bif !((p_spec_l05Break ((((l_list).drop (((l_edges).getD (i : Int).toNat 0) : Int).toNat).take ((((l_edges).getD ((i + 1) : Int).toNat 0) : Int) - ((l_edges).getD (i : Int).toNat 0)).toNat))).2.2) then ([], false) else (bif decide ((best : Int) < 0) then (p_spec_BreaksOf_l2 l_list least vmost vmost_2 t7 l_edges k2_2 μ2 t7_7 i (((((l_edges).getD (i : Int).toNat 0)) + ((p_spec_l05Break ((((l_list).drop (((l_edges).getD (i : Int).toNat 0) : Int).toNat).take ((((l_edges).getD ((i + 1) : Int).toNat 0) : Int) - ((l_edges).getD (i : Int).toNat 0)).toNat))).1))) ((p_spec_l05Break ((((l_list).drop (((l_edges).getD (i : Int).toNat 0) : Int).toNat).take ((((l_edges).getD ((i + 1) : Int).toNat 0) : Int) - ((l_edges).getD (i : Int).toNat 0)).toNat))).2.1) (i + 1)) else (bif flt .f32 top ((p_spec_l05Break ((((l_list).drop (((l_edges).getD (i : Int).toNat 0) : Int).toNat).take ((((l_edges).getD ((i + 1) : Int).toNat 0) : Int) - ((l_edges).getD (i : Int).toNat 0)).toNat))).2.1) then (p_spec_BreaksOf_l2 l_list least vmost vmost_2 t7 l_edges k2_2 μ2 t7_7 i (((((l_edges).getD (i : Int).toNat 0)) + ((p_spec_l05Break ((((l_list).drop (((l_edges).getD (i : Int).toNat 0) : Int).toNat).take ((((l_edges).getD ((i + 1) : Int).toNat 0) : Int) - ((l_edges).getD (i : Int).toNat 0)).toNat))).1))) ((p_spec_l05Break ((((l_list).drop (((l_edges).getD (i : Int).toNat 0) : Int).toNat).take ((((l_edges).getD ((i + 1) : Int).toNat 0) : Int) - ((l_edges).getD (i : Int).toNat 0)).toNat))).2.1) (i + 1)) else (p_spec_BreaksOf_l2 l_list least vmost vmost_2 t7 l_edges k2_2 μ2 t7_7 best vat top (i + 1)))))) else (k2_2 t7_7 best vat top i))
def p_spec_BreaksOf_l2_s := fun l_list least vmost vmost_2 t7 l_edges k2_2 μ2 t7_7 best vat top i => @p_spec_BreaksOf_l2.eq_2 l_list least vmost vmost_2 t7 l_edges k2_2 t7_7 best vat top i μ2
def p_spec_BreaksOf_l1 (l_list : List Nat) (least : Nat) (vmost : Int) : Nat → Int → Bool → (List Int) → (List Int) × Bool
  | 0, _, _, _ => ([], false)
  | μ + 1, vmost_2, t7, l_edges => (bif decide ((0 : Int) < vmost_2) then (p_spec_BreaksOf_l2 l_list least vmost vmost_2 t7 l_edges (fun (t7_7 : Bool) (best : Int) (vat : Int) (top : Nat) (i : Int) => (bif decide ((best : Int) < 0) then ((([] : List Int) ++ (((l_edges).drop (1 : Int).toNat).take ((((l_edges.length : Int) - 1) : Int) - 1).toNat)), true) else (bif !(fle .f32 least top) then ((([] : List Int) ++ (((l_edges).drop (1 : Int).toNat).take ((((l_edges.length : Int) - 1) : Int) - 1).toNat)), true) else (p_spec_BreaksOf_l1 l_list least vmost μ (vmost_2 - 1) t7_7 ((((([] : List Int) ++ (((l_edges).drop (0 : Int).toNat).take (((best + 1) : Int) - 0).toNat)) ++ [(vat : Int)]) ++ (((l_edges).drop ((best + 1) : Int).toNat).take (((l_edges.length : Int) : Int) - (best + 1)).toNat))))))) (Int.toNat ((l_edges.length : Int) + 1 - (0 : Int)) + 1) t7 (((-1) : Int)) (0 : Int) 0 (0 : Int)) else ((([] : List Int) ++ (((l_edges).drop (1 : Int).toNat).take ((((l_edges.length : Int) - 1) : Int) - 1).toNat)), true))
def p_spec_BreaksOf_l1_s := fun l_list least vmost μ vmost_2 t7 l_edges => @p_spec_BreaksOf_l1.eq_2 l_list least vmost vmost_2 t7 l_edges μ
def p_spec_BreaksOf (l_list : List Nat) (least : Nat) (vmost : Int) : (List Int) × Bool := (bif !(p_spec_l03Long l_list) then ([], false) else (bif !(p_spec_l01Finite least) then ([], false) else (bif !((p_spec_l00In vmost (0 : Int) (16 : Int))) then ([], false) else (p_spec_BreaksOf_l1 l_list least vmost (Int.toNat (vmost - 0) + 1) vmost false ([(0 : Int), ((l_list.length : Int) : Int)])))))
def p_spec_BreaksOf_eq := @p_spec_BreaksOf.eq_1
def T_spec_BreaksOf (list_a : Option Addr) (list_n : Nat) (list_e : Nat) (least : Nat) (vmost : Int) (H : AHeap) (K : (Option Addr) → Nat → Nat → Bool → AHeap → Prop) : Prop := ∃ (l_list : List Nat), IsL fF H list_a list_n l_list ∧ l_list.length < 1073741824 ∧ ((∀ (r1_a : Option Addr) (r1_n r1_e : Nat), ∀ H' : AHeap, Grow H H' → OwnS fI H' H.length r1_a r1_n r1_e ((p_spec_BreaksOf l_list least vmost).1) → K r1_a r1_n r1_e ((p_spec_BreaksOf l_list least vmost).2) H'))
theorem T_spec_BreaksOf_i {list_a : Option Addr} {list_n : Nat} {list_e : Nat} {least : Nat} {vmost : Int} {H : AHeap} {K : (Option Addr) → Nat → Nat → Bool → AHeap → Prop} (h : ∃ (l_list : List Nat), IsL fF H list_a list_n l_list ∧ l_list.length < 1073741824 ∧ ((∀ (r1_a : Option Addr) (r1_n r1_e : Nat), ∀ H' : AHeap, Grow H H' → OwnS fI H' H.length r1_a r1_n r1_e ((p_spec_BreaksOf l_list least vmost).1) → K r1_a r1_n r1_e ((p_spec_BreaksOf l_list least vmost).2) H'))) : T_spec_BreaksOf list_a list_n list_e least vmost H K := h
theorem spec_BreaksOf_l2_pred {P : List Int × Bool → Prop} (h0 : P ([], false)) (l : List Nat) (x : Nat) (v v2 : Int) (t7 : Bool) (es : List Int) (K : Bool → Int → Int → Nat → Int → List Int × Bool) (hK : ∀ a b c d e, P (K a b c d e)) :
    ∀ (μ : Nat) (t : Bool) (b a : Int) (tp : Nat) (i : Int), P (p_spec_BreaksOf_l2 l x v v2 t7 es K μ t b a tp i) := by
  intro μ
  induction μ with
  | zero => intro t b a tp i; exact h0
  | succ μ ih =>
    intro t b a tp i
    rw [p_spec_BreaksOf_l2_s]
    refine cnd' (fun h => ?_) (fun h => hK _ _ _ _ _)
    refine cnd' (fun h => ih _ _ _ _ _) (fun h => ?_)
    refine cnd' (fun h => h0) (fun h => ?_)
    refine cnd' (fun h => ih _ _ _ _ _) (fun h => ?_)
    exact cnd' (fun h => ih _ _ _ _ _) (fun h => ih _ _ _ _ _)
theorem spec_BreaksOf_l1_len (l : List Nat) (x : Nat) (v : Int) : ∀ (μ : Nat) (v2 : Int) (t7 : Bool) (es : List Int), (p_spec_BreaksOf_l1 l x v μ v2 t7 es).1.length ≤ es.length + μ := by
  intro μ
  induction μ with
  | zero => intro v2 t7 es; exact Nat.zero_le _
  | succ μ ih =>
    intro v2 t7 es
    rw [p_spec_BreaksOf_l1_s]
    have hr : ∀ b : Bool, (([] : List Int) ++ (((es).drop (1 : Int).toNat).take ((((es.length : Int) - 1) : Int) - 1).toNat), b).1.length ≤ es.length + (μ + 1) := by
      intro b; simp only [List.nil_append, List.length_take, List.length_drop]; omega
    refine cnd' (P := fun r : List Int × Bool => r.1.length ≤ es.length + (μ + 1)) (fun h => ?_) (fun h => hr _)
    refine spec_BreaksOf_l2_pred (P := fun r : List Int × Bool => r.1.length ≤ es.length + (μ + 1)) (Nat.zero_le _) _ _ _ _ _ _ _ (fun a b c d e => ?_) _ _ _ _ _ _
    refine cnd' (P := fun r : List Int × Bool => r.1.length ≤ es.length + (μ + 1)) (fun h => hr _) (fun h => ?_)
    refine cnd' (P := fun r : List Int × Bool => r.1.length ≤ es.length + (μ + 1)) (fun h => hr _) (fun h => ?_)
    refine Nat.le_trans (ih _ _ _) ?_
    simp only [List.nil_append, List.length_append, List.length_take, List.length_drop, List.length_singleton]; omega
theorem spec_BreaksOf_len (l : List Nat) (x : Nat) (v : Int) : (p_spec_BreaksOf l x v).1.length ≤ 64 := by
  rw [p_spec_BreaksOf_eq]
  refine cnd' (P := fun r : List Int × Bool => r.1.length ≤ 64) (fun h => Nat.zero_le _) (fun h => ?_)
  refine cnd' (P := fun r : List Int × Bool => r.1.length ≤ 64) (fun h => Nat.zero_le _) (fun h => ?_)
  refine cnd' (P := fun r : List Int × Bool => r.1.length ≤ 64) (fun h => Nat.zero_le _) (fun h => ?_)
  refine Nat.le_trans (spec_BreaksOf_l1_len _ _ _ _ _ _ _) ?_
  have h2 : v ≤ 16 := by
    unfold p_spec_l00In at h
    simp at h; omega
  simp only [List.length_cons, List.length_nil]; omega
/-! spec_BreaksOf: function 74 -/
def E_spec_BreaksOf : Env := envOf [(100, S_spec_l03Long), (155, S_spec_l01Finite), (93, S_spec_l00In), (156, S_spec_l05Break)]
def F_spec_BreaksOf : List Value → AHeap → (Value → AHeap → Prop) → Prop
  | [.slice list_a list_n list_e, .float .f32 least, .int .i64 vmost], H, K => T_spec_BreaksOf list_a list_n list_e least vmost H fun (r1_a : Option Addr) (r1_n : Nat) (r1_e : Nat) (r2 : Bool) (H' : AHeap) => K (.tuple #[.slice r1_a r1_n r1_e, .bool r2]) H'
  | _, _, _ => False
def S_spec_BreaksOf : FSpec := { F := F_spec_BreaksOf, quiet := false, tame := true }
theorem spec_BreaksOf_vc (list_a : Option Addr) (list_n : Nat) (list_e : Nat) (least : Nat) (vmost : Int) (H : AHeap) (K : Value → AHeap → Prop) : bodyL Try.prog E_spec_BreaksOf Try.f74 [.slice list_a list_n list_e, .float .f32 least, .int .i64 vmost] H K =
  (T_spec_l03Long list_a list_n list_e H fun (r1 : Bool) (H1 : AHeap) => Br (!r1) (K (.tuple #[.slice none 0 0, .bool false]) H1) (T_spec_l01Finite least H1 fun (r2 : Bool) (H2 : AHeap) => Br (!r2) (K (.tuple #[.slice none 0 0, .bool false]) H2) (T_spec_l00In vmost 0 16 H2 fun (r3 : Bool) (H3 : AHeap) => Br (!r3) (K (.tuple #[.slice none 0 0, .bool false]) H3) (Al [.int .i64 0, .int .i64 (list_n : Int)] H3 fun b1 H4 => loopK (exL Try.prog E_spec_BreaksOf (cl (cl (cl (cr (cr (cr (bodyC Try.f74))))))) 263 192 [(0, 256)]) [.slice list_a list_n list_e, .float .f32 least, .int .i64 vmost, ud, ud, ud, ud, ud, .slice (some ⟨b1, 0, none⟩) 2 1, ud, ud, ud, ud, ud, ud, ud, ud, ud, ud, ud, ud, ud, ud, ud, ud, ud, ud, ud, ud, ud, ud, ud, ud, ud, ud, ud, ud, ud, ud, ud, ud, ud, ud, ud, ud, ud, ud, ud, ud, ud, ud, ud, ud, ud, ud, ud, ud, ud, ud, ud, ud, ud, ud, ud, ud, ud, ud, ud, ud, ud, ud, ud, ud, ud, ud, ud, ud, ud, ud, ud, ud, ud, ud, ud, ud, ud, ud, ud, ud, ud, ud, ud, ud, ud, ud, ud, ud, ud, ud, ud, ud, ud, ud, ud, ud, ud, ud, ud, ud, ud, ud, ud, ud, ud, ud, ud, ud, ud, ud] H4 (blockQ 0 (seqQ (exL Try.prog E_spec_BreaksOf (cr (cr (cr (cr (bodyC Try.f74))))) 192 192 []) (retK Try.prog Try.f74 K))))))) := by kernel_rfl
abbrev spec_BreaksOf_P1 (least : Nat) (list_a : Option Addr) (list_e : Nat) (list_n : Nat) (vmost_2 : Int) (edges_a : Option Addr) (edges_n : Nat) (edges_e : Nat)  : List Value := [.slice list_a list_n list_e, .float .f32 least, .int .i64 vmost_2, ud, ud, ud, ud, ud, .slice edges_a edges_n edges_e, ud, ud, ud, ud, ud, ud, ud, ud, ud, ud, ud, ud, ud, ud, ud, ud, ud, ud, ud, ud, ud, ud, ud, ud, ud, ud, ud, ud, ud, ud, ud, ud, ud, ud, ud, ud, ud, ud, ud, ud, ud, ud, ud, ud, ud, ud, ud, ud, ud, ud, ud, ud, ud, ud, ud, ud, ud, ud, ud, ud, ud, ud, ud, ud, ud, ud, ud, ud, ud, ud, ud, ud, ud, ud, ud, ud, ud, ud, ud, ud, ud, ud, ud, ud, ud, ud, ud, ud, ud, ud, ud, ud, ud, ud, ud, ud, ud, ud, ud, ud, ud, ud, ud, ud, ud, ud, ud, ud, ud, ud]
theorem spec_BreaksOf_r1 (least : Nat) (list_a : Option Addr) (list_e : Nat) (list_n : Nat) (vmost_2 : Int) (edges_a : Option Addr) (edges_n : Nat) (edges_e : Nat)  (H : AHeap) (R : Post) : exL Try.prog E_spec_BreaksOf (cl (cl (cl (cr (cr (cr (bodyC Try.f74))))))) 263 192 [(0, 256)] (spec_BreaksOf_P1 least list_a list_e list_n vmost_2 edges_a edges_n edges_e) H R =
  (Br (decide ((0 : Int) < vmost_2)) (loopK (exL Try.prog E_spec_BreaksOf (cl (cl (cr (cl (cr (cr (cr (cl (cl (cr (cl (cl (cl (cr (cr (cr (bodyC Try.f74))))))))))))))))) 7943 192 [(2, 3847), (1, 263), (0, 256)]) [.slice list_a list_n list_e, .float .f32 least, .int .i64 vmost_2, ud, ud, ud, ud, ud, .slice edges_a edges_n edges_e, .int .i64 (-1), .int .i64 0, .float .f32 0, .int .i64 0, ud, ud, ud, ud, ud, ud, ud, ud, ud, ud, ud, ud, ud, ud, ud, ud, ud, ud, ud, ud, ud, ud, ud, ud, ud, ud, ud, ud, ud, ud, ud, ud, ud, ud, ud, ud, ud, ud, ud, ud, ud, ud, ud, ud, ud, ud, ud, ud, ud, ud, ud, ud, ud, ud, ud, ud, ud, ud, ud, ud, ud, ud, ud, ud, ud, ud, ud, ud, ud, ud, ud, ud, ud, ud, ud, ud, ud, ud, ud, ud, ud, ud, ud, ud, ud, ud, ud, ud, ud, ud, ud, ud, ud, ud, ud, ud, ud, ud, ud, ud, ud, ud, ud, ud, ud, ud] H (blockQ 2 (seqQ (exL Try.prog E_spec_BreaksOf (cr (cr (cr (cr (cl (cl (cr (cl (cl (cl (cr (cr (cr (bodyC Try.f74)))))))))))))) 263 192 [(1, 263), (0, 256)]) (blockQ 1 (seqQ (exL Try.prog E_spec_BreaksOf (cr (cr (cl (cl (cl (cr (cr (cr (bodyC Try.f74))))))))) 263 192 [(0, 256)]) (R)))))) (R (.exit 0) [ud, ud, ud, ud, ud, ud, ud, ud, .slice edges_a edges_n edges_e, ud, ud, ud, ud, ud, ud, ud, ud, ud, ud, ud, ud, ud, ud, ud, ud, ud, ud, ud, ud, ud, ud, ud, ud, ud, ud, ud, ud, ud, ud, ud, ud, ud, ud, ud, ud, ud, ud, ud, ud, ud, ud, ud, ud, ud, ud, ud, ud, ud, ud, ud, ud, ud, ud, ud, ud, ud, ud, ud, ud, ud, ud, ud, ud, ud, ud, ud, ud, ud, ud, ud, ud, ud, ud, ud, ud, ud, ud, ud, ud, ud, ud, ud, ud, ud, ud, ud, ud, ud, ud, ud, ud, ud, ud, ud, ud, ud, ud, ud, ud, ud, ud, ud, ud, ud, ud, ud, ud, ud, ud] H)) := by kernel_rfl
def spec_BreaksOf_I1 (least : Nat) (list_a : Option Addr) (list_e : Nat) (list_n : Nat) (Inv : Nat → Int → (Option Addr) → Nat → Nat → AHeap → Prop) : Nat → List Value → AHeap → Prop := fun μ tm H => ∃ (vmost_2 : Int), ∃ (edges_a : Option Addr), ∃ (edges_n : Nat), ∃ (edges_e : Nat), tm = (spec_BreaksOf_P1 least list_a list_e list_n vmost_2 edges_a edges_n edges_e) ∧ Inv μ vmost_2 edges_a edges_n edges_e H
theorem spec_BreaksOf_L1 (least : Nat) (list_a : Option Addr) (list_e : Nat) (list_n : Nat) {Q : Post} (Inv : Nat → Int → (Option Addr) → Nat → Nat → AHeap → Prop) (ν : Nat) (vmost_2 : Int) (edges_a : Option Addr) (edges_n : Nat) (edges_e : Nat)  (H : AHeap) (h0 : Inv ν vmost_2 edges_a edges_n edges_e H)
    (hs : ∀ (μ : Nat) (vmost_2 : Int) (edges_a : Option Addr) (edges_n : Nat) (edges_e : Nat)  (H : AHeap), Inv μ vmost_2 edges_a edges_n edges_e H → exL Try.prog E_spec_BreaksOf (cl (cl (cl (cr (cr (cr (bodyC Try.f74))))))) 263 192 [(0, 256)] (spec_BreaksOf_P1 least list_a list_e list_n vmost_2 edges_a edges_n edges_e) H (loopQ (spec_BreaksOf_I1 least list_a list_e list_n Inv) μ Q)) : loopK (exL Try.prog E_spec_BreaksOf (cl (cl (cl (cr (cr (cr (bodyC Try.f74))))))) 263 192 [(0, 256)]) (spec_BreaksOf_P1 least list_a list_e list_n vmost_2 edges_a edges_n edges_e) H Q :=
  ⟨spec_BreaksOf_I1 least list_a list_e list_n Inv, ν, ⟨vmost_2, edges_a, edges_n, edges_e, rfl, h0⟩, fun μ tm H h => by obtain ⟨vmost_2, edges_a, edges_n, edges_e, rfl, hI⟩ := h; exact hs μ vmost_2 edges_a edges_n edges_e  H hI⟩
theorem spec_BreaksOf_n1 {least : Nat} {list_a : Option Addr} {list_e : Nat} {list_n : Nat} {Q : Post} {Inv : Nat → Int → (Option Addr) → Nat → Nat → AHeap → Prop} {μ : Nat} (μ' : Nat) {vmost_2 : Int} {edges_a : Option Addr} {edges_n : Nat} {edges_e : Nat}  {H : AHeap} (hm : μ' < μ) (hI : Inv μ' vmost_2 edges_a edges_n edges_e H) : loopQ (spec_BreaksOf_I1 least list_a list_e list_n Inv) μ Q .normal (spec_BreaksOf_P1 least list_a list_e list_n vmost_2 edges_a edges_n edges_e) H := ⟨μ', hm, vmost_2, edges_a, edges_n, edges_e, rfl, hI⟩
theorem spec_BreaksOf_x1_0 (edges_a : Option Addr) (edges_n : Nat) (edges_e : Nat) (H : AHeap) (K : Value → AHeap → Prop)  {I : Nat → List Value → AHeap → Prop} {μ : Nat} : loopQ I μ (blockQ 0 (seqQ (exL Try.prog E_spec_BreaksOf (cr (cr (cr (cr (bodyC Try.f74))))) 192 192 []) (retK Try.prog Try.f74 K))) (.exit 0) [ud, ud, ud, ud, ud, ud, ud, ud, .slice edges_a edges_n edges_e, ud, ud, ud, ud, ud, ud, ud, ud, ud, ud, ud, ud, ud, ud, ud, ud, ud, ud, ud, ud, ud, ud, ud, ud, ud, ud, ud, ud, ud, ud, ud, ud, ud, ud, ud, ud, ud, ud, ud, ud, ud, ud, ud, ud, ud, ud, ud, ud, ud, ud, ud, ud, ud, ud, ud, ud, ud, ud, ud, ud, ud, ud, ud, ud, ud, ud, ud, ud, ud, ud, ud, ud, ud, ud, ud, ud, ud, ud, ud, ud, ud, ud, ud, ud, ud, ud, ud, ud, ud, ud, ud, ud, ud, ud, ud, ud, ud, ud, ud, ud, ud, ud, ud, ud, ud, ud, ud, ud, ud, ud] H =
  (Al [] H fun b13 H11 => (0 : Int) ≤ 1 ∧ 1 ≤ IntKind.wrap .i64 ((edges_n : Int) - 1) ∧ IntKind.wrap .i64 ((edges_n : Int) - 1) ≤ (edges_n : Int) ∧ ∃ o4 w4 : List Value, ownB H11 (some ⟨b13, 0, none⟩) 0 1 1 = some o4 ∧ rdS H11 ((edges_a : Option Addr).map fun a => ⟨a.block, a.off + (1 : Int).toNat * 1, none⟩) ((((IntKind.wrap .i64 ((edges_n : Int) - 1) : Int) - 1).toNat) * 1) = some w4 ∧ ((some ⟨b13, 0, none⟩ : Option Addr) = none → 0 < (((IntKind.wrap .i64 ((edges_n : Int) - 1) : Int) - 1).toNat : Nat)) ∧ (0 : Nat) + (((IntKind.wrap .i64 ((edges_n : Int) - 1) : Int) - 1).toNat) < most ∧ Ap H11 (killB H11 (some ⟨b13, 0, none⟩) ++ [some ⟨o4 ++ w4, true⟩]) fun b14 H12 => K (.tuple #[.slice (some ⟨b14, 0, none⟩) (0 + (((IntKind.wrap .i64 ((edges_n : Int) - 1) : Int) - 1).toNat)) 1, .bool true]) H12) := by kernel_rfl
theorem spec_BreaksOf_x1_ret (t6_a : Option Addr) (t6_n : Nat) (t6_e : Nat) (t7 : Bool) (H : AHeap) (K : Value → AHeap → Prop)  {I : Nat → List Value → AHeap → Prop} {μ : Nat} : loopQ I μ (blockQ 0 (seqQ (exL Try.prog E_spec_BreaksOf (cr (cr (cr (cr (bodyC Try.f74))))) 192 192 []) (retK Try.prog Try.f74 K))) .ret [ud, ud, ud, ud, ud, ud, .slice t6_a t6_n t6_e, .bool t7, ud, ud, ud, ud, ud, ud, ud, ud, ud, ud, ud, ud, ud, ud, ud, ud, ud, ud, ud, ud, ud, ud, ud, ud, ud, ud, ud, ud, ud, ud, ud, ud, ud, ud, ud, ud, ud, ud, ud, ud, ud, ud, ud, ud, ud, ud, ud, ud, ud, ud, ud, ud, ud, ud, ud, ud, ud, ud, ud, ud, ud, ud, ud, ud, ud, ud, ud, ud, ud, ud, ud, ud, ud, ud, ud, ud, ud, ud, ud, ud, ud, ud, ud, ud, ud, ud, ud, ud, ud, ud, ud, ud, ud, ud, ud, ud, ud, ud, ud, ud, ud, ud, ud, ud, ud, ud, ud, ud, ud, ud, ud] H =
  (K (.tuple #[.slice t6_a t6_n t6_e, .bool t7]) H) := by kernel_rfl
abbrev spec_BreaksOf_P2 (edges_a : Option Addr) (edges_e : Nat) (edges_n : Nat) (least : Nat) (list_a : Option Addr) (list_e : Nat) (list_n : Nat) (vmost_2 : Int) (best : Int) (vat : Int) (top : Nat) (i : Int)  : List Value := [.slice list_a list_n list_e, .float .f32 least, .int .i64 vmost_2, ud, ud, ud, ud, ud, .slice edges_a edges_n edges_e, .int .i64 best, .int .i64 vat, .float .f32 top, .int .i64 i, ud, ud, ud, ud, ud, ud, ud, ud, ud, ud, ud, ud, ud, ud, ud, ud, ud, ud, ud, ud, ud, ud, ud, ud, ud, ud, ud, ud, ud, ud, ud, ud, ud, ud, ud, ud, ud, ud, ud, ud, ud, ud, ud, ud, ud, ud, ud, ud, ud, ud, ud, ud, ud, ud, ud, ud, ud, ud, ud, ud, ud, ud, ud, ud, ud, ud, ud, ud, ud, ud, ud, ud, ud, ud, ud, ud, ud, ud, ud, ud, ud, ud, ud, ud, ud, ud, ud, ud, ud, ud, ud, ud, ud, ud, ud, ud, ud, ud, ud, ud, ud, ud, ud, ud, ud, ud]
theorem spec_BreaksOf_r2 (edges_a : Option Addr) (edges_e : Nat) (edges_n : Nat) (least : Nat) (list_a : Option Addr) (list_e : Nat) (list_n : Nat) (vmost_2 : Int) (best : Int) (vat : Int) (top : Nat) (i : Int)  (H : AHeap) (R : Post) : exL Try.prog E_spec_BreaksOf (cl (cl (cr (cl (cr (cr (cr (cl (cl (cr (cl (cl (cl (cr (cr (cr (bodyC Try.f74))))))))))))))))) 7943 192 [(2, 3847), (1, 263), (0, 256)] (spec_BreaksOf_P2 edges_a edges_e edges_n least list_a list_e list_n vmost_2 best vat top i) H R =
  (Br (decide ((IntKind.wrap .i64 (i + 1) : Int) < (edges_n : Int))) ((0 : Int) ≤ IntKind.wrap .i64 (i + 1) ∧ IntKind.wrap .i64 (i + 1) < (edges_n : Int) ∧ ∃ b2 f1, (edges_a : Option Addr) = some ⟨b2, f1, none⟩ ∧ ∃ x1 : Int,  rdC H b2 (f1 + (IntKind.wrap .i64 (i + 1) : Int).toNat * 1) = some (.int .i64 x1) ∧ (0 : Int) ≤ i ∧ i < (edges_n : Int) ∧ ∃ b3 f2, (edges_a : Option Addr) = some ⟨b3, f2, none⟩ ∧ ∃ x2 : Int,  rdC H b3 (f2 + (i : Int).toNat * 1) = some (.int .i64 x2) ∧ Br (decide ((IntKind.wrap .i64 (x1 - x2) : Int) < 2)) (R .normal [.slice list_a list_n list_e, .float .f32 least, .int .i64 vmost_2, ud, ud, ud, ud, ud, .slice edges_a edges_n edges_e, .int .i64 best, .int .i64 vat, .float .f32 top, .int .i64 (IntKind.wrap .i64 (i + 1)), ud, ud, ud, ud, ud, ud, ud, ud, ud, ud, ud, ud, ud, ud, ud, ud, ud, ud, ud, ud, ud, ud, ud, ud, ud, ud, ud, ud, ud, ud, ud, ud, ud, ud, ud, ud, ud, ud, ud, ud, ud, ud, ud, ud, ud, ud, ud, ud, ud, ud, ud, ud, ud, ud, ud, ud, ud, ud, ud, ud, ud, ud, ud, ud, ud, ud, ud, ud, ud, ud, ud, ud, ud, ud, ud, ud, ud, ud, ud, ud, ud, ud, ud, ud, ud, ud, ud, ud, ud, ud, ud, ud, ud, ud, ud, ud, ud, ud, ud, ud, ud, ud, ud, ud, ud, ud] H) ((0 : Int) ≤ i ∧ i < (edges_n : Int) ∧ ∃ b4 f3, (edges_a : Option Addr) = some ⟨b4, f3, none⟩ ∧ ∃ x3 : Int,  rdC H b4 (f3 + (i : Int).toNat * 1) = some (.int .i64 x3) ∧ (0 : Int) ≤ IntKind.wrap .i64 (i + 1) ∧ IntKind.wrap .i64 (i + 1) < (edges_n : Int) ∧ ∃ b5 f4, (edges_a : Option Addr) = some ⟨b5, f4, none⟩ ∧ ∃ x4 : Int,  rdC H b5 (f4 + (IntKind.wrap .i64 (i + 1) : Int).toNat * 1) = some (.int .i64 x4) ∧ (0 : Int) ≤ x3 ∧ x3 ≤ x4 ∧ x4 ≤ (list_n : Int) ∧ T_spec_l05Break ((list_a : Option Addr).map fun a => ⟨a.block, a.off + (x3 : Int).toNat * 1, none⟩) (((x4 : Int) - x3).toNat) 0 H fun (r4 : Int) (r5 : Nat) (r6 : Bool) (H5 : AHeap) => Br (!r6) (R .ret [ud, ud, ud, ud, ud, ud, .slice none 0 0, .bool false, ud, ud, ud, ud, ud, ud, ud, ud, ud, ud, ud, ud, ud, ud, ud, ud, ud, ud, ud, ud, ud, ud, ud, ud, ud, ud, ud, ud, ud, ud, ud, ud, ud, ud, ud, ud, ud, ud, ud, ud, ud, ud, ud, ud, ud, ud, ud, ud, ud, ud, ud, ud, ud, ud, ud, ud, ud, ud, ud, ud, ud, ud, ud, ud, ud, ud, ud, ud, ud, ud, ud, ud, ud, ud, ud, ud, ud, ud, ud, ud, ud, ud, ud, ud, ud, ud, ud, ud, ud, ud, ud, ud, ud, ud, ud, ud, ud, ud, ud, ud, ud, ud, ud, ud, ud, ud, ud, ud, ud, ud, ud] H5) (Br (decide ((best : Int) < 0)) ((0 : Int) ≤ i ∧ i < (edges_n : Int) ∧ ∃ b6 f5, (edges_a : Option Addr) = some ⟨b6, f5, none⟩ ∧ ∃ x5 : Int,  rdC H5 b6 (f5 + (i : Int).toNat * 1) = some (.int .i64 x5) ∧ R .normal [.slice list_a list_n list_e, .float .f32 least, .int .i64 vmost_2, ud, ud, ud, ud, ud, .slice edges_a edges_n edges_e, .int .i64 i, .int .i64 (IntKind.wrap .i64 (x5 + r4)), .float .f32 r5, .int .i64 (IntKind.wrap .i64 (i + 1)), ud, ud, ud, ud, ud, ud, ud, ud, ud, ud, ud, ud, ud, ud, ud, ud, ud, ud, ud, ud, ud, ud, ud, ud, ud, ud, ud, ud, ud, ud, ud, ud, ud, ud, ud, ud, ud, ud, ud, ud, ud, ud, ud, ud, ud, ud, ud, ud, ud, ud, ud, ud, ud, ud, ud, ud, ud, ud, ud, ud, ud, ud, ud, ud, ud, ud, ud, ud, ud, ud, ud, ud, ud, ud, ud, ud, ud, ud, ud, ud, ud, ud, ud, ud, ud, ud, ud, ud, ud, ud, ud, ud, ud, ud, ud, ud, ud, ud, ud, ud, ud, ud, ud, ud, ud, ud] H5) (Br (flt .f32 top r5) ((0 : Int) ≤ i ∧ i < (edges_n : Int) ∧ ∃ b7 f6, (edges_a : Option Addr) = some ⟨b7, f6, none⟩ ∧ ∃ x6 : Int,  rdC H5 b7 (f6 + (i : Int).toNat * 1) = some (.int .i64 x6) ∧ R .normal [.slice list_a list_n list_e, .float .f32 least, .int .i64 vmost_2, ud, ud, ud, ud, ud, .slice edges_a edges_n edges_e, .int .i64 i, .int .i64 (IntKind.wrap .i64 (x6 + r4)), .float .f32 r5, .int .i64 (IntKind.wrap .i64 (i + 1)), ud, ud, ud, ud, ud, ud, ud, ud, ud, ud, ud, ud, ud, ud, ud, ud, ud, ud, ud, ud, ud, ud, ud, ud, ud, ud, ud, ud, ud, ud, ud, ud, ud, ud, ud, ud, ud, ud, ud, ud, ud, ud, ud, ud, ud, ud, ud, ud, ud, ud, ud, ud, ud, ud, ud, ud, ud, ud, ud, ud, ud, ud, ud, ud, ud, ud, ud, ud, ud, ud, ud, ud, ud, ud, ud, ud, ud, ud, ud, ud, ud, ud, ud, ud, ud, ud, ud, ud, ud, ud, ud, ud, ud, ud, ud, ud, ud, ud, ud, ud, ud, ud, ud, ud, ud, ud] H5) (R .normal [.slice list_a list_n list_e, .float .f32 least, .int .i64 vmost_2, ud, ud, ud, ud, ud, .slice edges_a edges_n edges_e, .int .i64 best, .int .i64 vat, .float .f32 top, .int .i64 (IntKind.wrap .i64 (i + 1)), ud, ud, ud, ud, ud, ud, ud, ud, ud, ud, ud, ud, ud, ud, ud, ud, ud, ud, ud, ud, ud, ud, ud, ud, ud, ud, ud, ud, ud, ud, ud, ud, ud, ud, ud, ud, ud, ud, ud, ud, ud, ud, ud, ud, ud, ud, ud, ud, ud, ud, ud, ud, ud, ud, ud, ud, ud, ud, ud, ud, ud, ud, ud, ud, ud, ud, ud, ud, ud, ud, ud, ud, ud, ud, ud, ud, ud, ud, ud, ud, ud, ud, ud, ud, ud, ud, ud, ud, ud, ud, ud, ud, ud, ud, ud, ud, ud, ud, ud, ud, ud, ud, ud, ud, ud, ud] H5))))) (R (.exit 2) [.slice list_a list_n list_e, .float .f32 least, .int .i64 vmost_2, ud, ud, ud, ud, ud, .slice edges_a edges_n edges_e, .int .i64 best, .int .i64 vat, .float .f32 top, ud, ud, ud, ud, ud, ud, ud, ud, ud, ud, ud, ud, ud, ud, ud, ud, ud, ud, ud, ud, ud, ud, ud, ud, ud, ud, ud, ud, ud, ud, ud, ud, ud, ud, ud, ud, ud, ud, ud, ud, ud, ud, ud, ud, ud, ud, ud, ud, ud, ud, ud, ud, ud, ud, ud, ud, ud, ud, ud, ud, ud, ud, ud, ud, ud, ud, ud, ud, ud, ud, ud, ud, ud, ud, ud, ud, ud, ud, ud, ud, ud, ud, ud, ud, ud, ud, ud, ud, ud, ud, ud, ud, ud, ud, ud, ud, ud, ud, ud, ud, ud, ud, ud, ud, ud, ud, ud] H)) := by kernel_rfl
def spec_BreaksOf_I2 (edges_a : Option Addr) (edges_e : Nat) (edges_n : Nat) (least : Nat) (list_a : Option Addr) (list_e : Nat) (list_n : Nat) (vmost_2 : Int) (Inv : Nat → Int → Int → Nat → Int → AHeap → Prop) : Nat → List Value → AHeap → Prop := fun μ tm H => ∃ (best : Int), ∃ (vat : Int), ∃ (top : Nat), ∃ (i : Int), tm = (spec_BreaksOf_P2 edges_a edges_e edges_n least list_a list_e list_n vmost_2 best vat top i) ∧ Inv μ best vat top i H
theorem spec_BreaksOf_L2 (edges_a : Option Addr) (edges_e : Nat) (edges_n : Nat) (least : Nat) (list_a : Option Addr) (list_e : Nat) (list_n : Nat) (vmost_2 : Int) {Q : Post} (Inv : Nat → Int → Int → Nat → Int → AHeap → Prop) (ν : Nat) (best : Int) (vat : Int) (top : Nat) (i : Int)  (H : AHeap) (h0 : Inv ν best vat top i H)
    (hs : ∀ (μ : Nat) (best : Int) (vat : Int) (top : Nat) (i : Int)  (H : AHeap), Inv μ best vat top i H → exL Try.prog E_spec_BreaksOf (cl (cl (cr (cl (cr (cr (cr (cl (cl (cr (cl (cl (cl (cr (cr (cr (bodyC Try.f74))))))))))))))))) 7943 192 [(2, 3847), (1, 263), (0, 256)] (spec_BreaksOf_P2 edges_a edges_e edges_n least list_a list_e list_n vmost_2 best vat top i) H (loopQ (spec_BreaksOf_I2 edges_a edges_e edges_n least list_a list_e list_n vmost_2 Inv) μ Q)) : loopK (exL Try.prog E_spec_BreaksOf (cl (cl (cr (cl (cr (cr (cr (cl (cl (cr (cl (cl (cl (cr (cr (cr (bodyC Try.f74))))))))))))))))) 7943 192 [(2, 3847), (1, 263), (0, 256)]) (spec_BreaksOf_P2 edges_a edges_e edges_n least list_a list_e list_n vmost_2 best vat top i) H Q :=
  ⟨spec_BreaksOf_I2 edges_a edges_e edges_n least list_a list_e list_n vmost_2 Inv, ν, ⟨best, vat, top, i, rfl, h0⟩, fun μ tm H h => by obtain ⟨best, vat, top, i, rfl, hI⟩ := h; exact hs μ best vat top i  H hI⟩
theorem spec_BreaksOf_n2 {edges_a : Option Addr} {edges_e : Nat} {edges_n : Nat} {least : Nat} {list_a : Option Addr} {list_e : Nat} {list_n : Nat} {vmost_2 : Int} {Q : Post} {Inv : Nat → Int → Int → Nat → Int → AHeap → Prop} {μ : Nat} (μ' : Nat) {best : Int} {vat : Int} {top : Nat} {i : Int}  {H : AHeap} (hm : μ' < μ) (hI : Inv μ' best vat top i H) : loopQ (spec_BreaksOf_I2 edges_a edges_e edges_n least list_a list_e list_n vmost_2 Inv) μ Q .normal (spec_BreaksOf_P2 edges_a edges_e edges_n least list_a list_e list_n vmost_2 best vat top i) H := ⟨μ', hm, best, vat, top, i, rfl, hI⟩
theorem spec_BreaksOf_x2_2 (edges_a : Option Addr) (edges_e : Nat) (edges_n : Nat) (least : Nat) (list_a : Option Addr) (list_e : Nat) (list_n : Nat) (vmost_2 : Int) (best : Int) (vat : Int) (top : Nat) (H : AHeap)  (R : Post) {I : Nat → List Value → AHeap → Prop} {μ : Nat} : loopQ I μ (blockQ 2 (seqQ (exL Try.prog E_spec_BreaksOf (cr (cr (cr (cr (cl (cl (cr (cl (cl (cl (cr (cr (cr (bodyC Try.f74)))))))))))))) 263 192 [(1, 263), (0, 256)]) (blockQ 1 (seqQ (exL Try.prog E_spec_BreaksOf (cr (cr (cl (cl (cl (cr (cr (cr (bodyC Try.f74))))))))) 263 192 [(0, 256)]) (R))))) (.exit 2) [.slice list_a list_n list_e, .float .f32 least, .int .i64 vmost_2, ud, ud, ud, ud, ud, .slice edges_a edges_n edges_e, .int .i64 best, .int .i64 vat, .float .f32 top, ud, ud, ud, ud, ud, ud, ud, ud, ud, ud, ud, ud, ud, ud, ud, ud, ud, ud, ud, ud, ud, ud, ud, ud, ud, ud, ud, ud, ud, ud, ud, ud, ud, ud, ud, ud, ud, ud, ud, ud, ud, ud, ud, ud, ud, ud, ud, ud, ud, ud, ud, ud, ud, ud, ud, ud, ud, ud, ud, ud, ud, ud, ud, ud, ud, ud, ud, ud, ud, ud, ud, ud, ud, ud, ud, ud, ud, ud, ud, ud, ud, ud, ud, ud, ud, ud, ud, ud, ud, ud, ud, ud, ud, ud, ud, ud, ud, ud, ud, ud, ud, ud, ud, ud, ud, ud, ud] H =
  (Br (decide ((best : Int) < 0)) (R (.exit 0) [ud, ud, ud, ud, ud, ud, ud, ud, .slice edges_a edges_n edges_e, ud, ud, ud, ud, ud, ud, ud, ud, ud, ud, ud, ud, ud, ud, ud, ud, ud, ud, ud, ud, ud, ud, ud, ud, ud, ud, ud, ud, ud, ud, ud, ud, ud, ud, ud, ud, ud, ud, ud, ud, ud, ud, ud, ud, ud, ud, ud, ud, ud, ud, ud, ud, ud, ud, ud, ud, ud, ud, ud, ud, ud, ud, ud, ud, ud, ud, ud, ud, ud, ud, ud, ud, ud, ud, ud, ud, ud, ud, ud, ud, ud, ud, ud, ud, ud, ud, ud, ud, ud, ud, ud, ud, ud, ud, ud, ud, ud, ud, ud, ud, ud, ud, ud, ud, ud, ud, ud, ud, ud, ud] H) (Br (!(fle .f32 least top)) (R (.exit 0) [ud, ud, ud, ud, ud, ud, ud, ud, .slice edges_a edges_n edges_e, ud, ud, ud, ud, ud, ud, ud, ud, ud, ud, ud, ud, ud, ud, ud, ud, ud, ud, ud, ud, ud, ud, ud, ud, ud, ud, ud, ud, ud, ud, ud, ud, ud, ud, ud, ud, ud, ud, ud, ud, ud, ud, ud, ud, ud, ud, ud, ud, ud, ud, ud, ud, ud, ud, ud, ud, ud, ud, ud, ud, ud, ud, ud, ud, ud, ud, ud, ud, ud, ud, ud, ud, ud, ud, ud, ud, ud, ud, ud, ud, ud, ud, ud, ud, ud, ud, ud, ud, ud, ud, ud, ud, ud, ud, ud, ud, ud, ud, ud, ud, ud, ud, ud, ud, ud, ud, ud, ud, ud, ud] H) (Al [] H fun b8 H6 => (0 : Int) ≤ 0 ∧ 0 ≤ IntKind.wrap .i64 (best + 1) ∧ IntKind.wrap .i64 (best + 1) ≤ (edges_n : Int) ∧ ∃ o1 w1 : List Value, ownB H6 (some ⟨b8, 0, none⟩) 0 1 1 = some o1 ∧ rdS H6 ((edges_a : Option Addr).map fun a => ⟨a.block, a.off + (0 : Int).toNat * 1, none⟩) ((((IntKind.wrap .i64 (best + 1) : Int) - 0).toNat) * 1) = some w1 ∧ ((some ⟨b8, 0, none⟩ : Option Addr) = none → 0 < (((IntKind.wrap .i64 (best + 1) : Int) - 0).toNat : Nat)) ∧ (0 : Nat) + (((IntKind.wrap .i64 (best + 1) : Int) - 0).toNat) < most ∧ Ap H6 (killB H6 (some ⟨b8, 0, none⟩) ++ [some ⟨o1 ++ w1, true⟩]) fun b9 H7 => Al [.int .i64 vat] H7 fun b10 H8 => ∃ o2 w2 : List Value, ownB H8 (some ⟨b9, 0, none⟩) (0 + (((IntKind.wrap .i64 (best + 1) : Int) - 0).toNat)) 1 1 = some o2 ∧ rdS H8 (some ⟨b10, 0, none⟩) (1 * 1) = some w2 ∧ ((some ⟨b9, 0, none⟩ : Option Addr) = none → 0 < (1 : Nat)) ∧ (0 + (((IntKind.wrap .i64 (best + 1) : Int) - 0).toNat) : Nat) + 1 < most ∧ Ap H8 (killB H8 (some ⟨b9, 0, none⟩) ++ [some ⟨o2 ++ w2, true⟩]) fun b11 H9 => (0 : Int) ≤ IntKind.wrap .i64 (best + 1) ∧ IntKind.wrap .i64 (best + 1) ≤ (edges_n : Int) ∧ (edges_n : Int) ≤ (edges_n : Int) ∧ ∃ o3 w3 : List Value, ownB H9 (some ⟨b11, 0, none⟩) ((0 + (((IntKind.wrap .i64 (best + 1) : Int) - 0).toNat)) + 1) 1 1 = some o3 ∧ rdS H9 ((edges_a : Option Addr).map fun a => ⟨a.block, a.off + (IntKind.wrap .i64 (best + 1) : Int).toNat * 1, none⟩) (((((edges_n : Int) : Int) - IntKind.wrap .i64 (best + 1)).toNat) * 1) = some w3 ∧ ((some ⟨b11, 0, none⟩ : Option Addr) = none → 0 < ((((edges_n : Int) : Int) - IntKind.wrap .i64 (best + 1)).toNat : Nat)) ∧ ((0 + (((IntKind.wrap .i64 (best + 1) : Int) - 0).toNat)) + 1 : Nat) + ((((edges_n : Int) : Int) - IntKind.wrap .i64 (best + 1)).toNat) < most ∧ Ap H9 (killB H9 (some ⟨b11, 0, none⟩) ++ [some ⟨o3 ++ w3, true⟩]) fun b12 H10 => R .normal [.slice list_a list_n list_e, .float .f32 least, .int .i64 (IntKind.wrap .i64 (vmost_2 - 1)), ud, ud, ud, ud, ud, .slice (some ⟨b12, 0, none⟩) (((0 + (((IntKind.wrap .i64 (best + 1) : Int) - 0).toNat)) + 1) + ((((edges_n : Int) : Int) - IntKind.wrap .i64 (best + 1)).toNat)) 1, ud, ud, ud, ud, ud, ud, ud, ud, ud, ud, ud, ud, ud, ud, ud, ud, ud, ud, ud, ud, ud, ud, ud, ud, ud, ud, ud, ud, ud, ud, ud, ud, ud, ud, ud, ud, ud, ud, ud, ud, ud, ud, ud, ud, ud, ud, ud, ud, ud, ud, ud, ud, ud, ud, ud, ud, ud, ud, ud, ud, ud, ud, ud, ud, ud, ud, ud, ud, ud, ud, ud, ud, ud, ud, ud, ud, ud, ud, ud, ud, ud, ud, ud, ud, ud, ud, ud, ud, ud, ud, ud, ud, ud, ud, ud, ud, ud, ud, ud, ud, ud, ud, ud, ud, ud, ud, ud, ud, ud, ud] H10))) := by kernel_rfl
theorem spec_BreaksOf_x2_ret (t6_a : Option Addr) (t6_n : Nat) (t6_e : Nat) (t7_7 : Bool) (H : AHeap)  (R : Post) {I : Nat → List Value → AHeap → Prop} {μ : Nat} : loopQ I μ (blockQ 2 (seqQ (exL Try.prog E_spec_BreaksOf (cr (cr (cr (cr (cl (cl (cr (cl (cl (cl (cr (cr (cr (bodyC Try.f74)))))))))))))) 263 192 [(1, 263), (0, 256)]) (blockQ 1 (seqQ (exL Try.prog E_spec_BreaksOf (cr (cr (cl (cl (cl (cr (cr (cr (bodyC Try.f74))))))))) 263 192 [(0, 256)]) (R))))) .ret [ud, ud, ud, ud, ud, ud, .slice t6_a t6_n t6_e, .bool t7_7, ud, ud, ud, ud, ud, ud, ud, ud, ud, ud, ud, ud, ud, ud, ud, ud, ud, ud, ud, ud, ud, ud, ud, ud, ud, ud, ud, ud, ud, ud, ud, ud, ud, ud, ud, ud, ud, ud, ud, ud, ud, ud, ud, ud, ud, ud, ud, ud, ud, ud, ud, ud, ud, ud, ud, ud, ud, ud, ud, ud, ud, ud, ud, ud, ud, ud, ud, ud, ud, ud, ud, ud, ud, ud, ud, ud, ud, ud, ud, ud, ud, ud, ud, ud, ud, ud, ud, ud, ud, ud, ud, ud, ud, ud, ud, ud, ud, ud, ud, ud, ud, ud, ud, ud, ud, ud, ud, ud, ud, ud, ud] H =
  (R .ret [ud, ud, ud, ud, ud, ud, .slice t6_a t6_n t6_e, .bool t7_7, ud, ud, ud, ud, ud, ud, ud, ud, ud, ud, ud, ud, ud, ud, ud, ud, ud, ud, ud, ud, ud, ud, ud, ud, ud, ud, ud, ud, ud, ud, ud, ud, ud, ud, ud, ud, ud, ud, ud, ud, ud, ud, ud, ud, ud, ud, ud, ud, ud, ud, ud, ud, ud, ud, ud, ud, ud, ud, ud, ud, ud, ud, ud, ud, ud, ud, ud, ud, ud, ud, ud, ud, ud, ud, ud, ud, ud, ud, ud, ud, ud, ud, ud, ud, ud, ud, ud, ud, ud, ud, ud, ud, ud, ud, ud, ud, ud, ud, ud, ud, ud, ud, ud, ud, ud, ud, ud, ud, ud, ud, ud] H) := by kernel_rfl
theorem E_spec_BreaksOf_ok : ∀ g, FnOk Try.prog g (E_spec_BreaksOf g) := FnOk.envOf (by
  intro x hx
  simp only [List.mem_cons, List.not_mem_nil, or_false] at hx
  rcases hx with rfl | rfl | rfl | rfl
  · exact spec_l03Long_ok
  · exact spec_l01Finite_ok
  · exact spec_l00In_ok
  · exact spec_l05Break_ok)
theorem ω8 {P : Prop} (h : P := by first | omega | (simp; done) | (simp; omega) | (first | omega | exact cut_app (cut_app (cut_app (cut_nil _) (cut_take (cut_drop (by assumption) _) _)) (cut_one (by omega) (by omega))) (cut_take (cut_drop (by assumption) _) _) | exact cut_app (cut_one (by omega) (by omega)) (cut_one (by omega) (by omega)) | (simp only [List.length_append, List.length_take, List.length_drop, List.length_cons, List.length_nil]; omega))) : P := h
theorem ω6 {P : Prop} (h : P := by first | omega | (first | omega | exact cut_app (cut_app (cut_app (cut_nil _) (cut_take (cut_drop (by assumption) _) _)) (cut_one (by omega) (by omega))) (cut_take (cut_drop (by assumption) _) _) | exact cut_app (cut_one (by omega) (by omega)) (cut_one (by omega) (by omega)) | (simp only [List.length_append, List.length_take, List.length_drop, List.length_cons, List.length_nil]; omega)) | (simp only [List.length_append, List.length_cons, List.length_nil, List.length_set]; done) | (simp only [List.length_append, List.length_cons, List.length_nil, List.length_set]; omega)) : P := h
set_option maxHeartbeats 1000000 in
theorem spec_BreaksOf_main (list_a : Option Addr) (list_n : Nat) (list_e : Nat) (least : Nat) (vmost : Int) (H : AHeap) (K : Value → AHeap → Prop) (h : T_spec_BreaksOf list_a list_n list_e least vmost H fun (r1_a : Option Addr) (r1_n : Nat) (r1_e : Nat) (r2 : Bool) (H' : AHeap) => K (.tuple #[.slice r1_a r1_n r1_e, .bool r2]) H') : bodyL Try.prog E_spec_BreaksOf Try.f74 [.slice list_a list_n list_e, .float .f32 least, .int .i64 vmost] H K := by
  rw [spec_BreaksOf_vc]
  obtain ⟨l_list, i_list, bd_199, hk⟩ := h
  obtain rfl := i_list.eqn
  have e : (p_spec_BreaksOf l_list least vmost) = _ := rfl
  have e := e.trans (p_spec_BreaksOf_eq l_list least vmost)
  have g0 := Grow.refl H
  refine T_spec_l03Long_i ⟨_, (i_list.grow g0), ω0, ?_⟩
  refine Br.intro (fun c_1 => ?_) (fun c_1 => ?_)
  · have e := e.trans (cond_t c_1)
    have c_1n := nf_of_t c_1
    rw [e] at hk
    exact hk _ _ _ H g0 ω10
  · have e := e.trans (cond_f c_1)
    have c_1n := nt_of_f c_1
    have c_1n' := spec_l03Long_t c_1n
    refine T_spec_l01Finite_i ?_
    refine Br.intro (fun c_2 => ?_) (fun c_2 => ?_)
    · have e := e.trans (cond_t c_2)
      have c_2n := nf_of_t c_2
      rw [e] at hk
      exact hk _ _ _ H g0 ω10
    · have e := e.trans (cond_f c_2)
      have c_2n := nt_of_f c_2
      refine T_spec_l00In_i ?_
      refine Br.intro (fun c_3 => ?_) (fun c_3 => ?_)
      · have e := e.trans (cond_t c_3)
        have c_3n := nf_of_t c_3
        rw [e] at hk
        exact hk _ _ _ H g0 ω10
      · have e := e.trans (cond_f c_3)
        have c_3n := nt_of_f c_3
        have c_3n' := spec_l00In_t c_3n
        refine Al.intro (fun b_4 H_1 hb_5 hl_6 g_7 o_8 => ?_)
        have o_8 : Own H_1 b_4 (([(0 : Int), ((l_list.length : Int) : Int)]).map fI) := o_8
        have l_10 := g_7.1
        have g_11 := g0.trans g_7
        have l_12 := g_11.1
        have w_198 := o_8.lt
        refine spec_BreaksOf_L1 _ _ _ _ (fun (μ : Nat) (vmost_2 : Int) (edges_a : Option Addr) (edges_n : Nat) (edges_e : Nat) (H_2 : AHeap) => ∃ (t7 : Bool), ∃ (l_edges : List Int), ∃ (b_13 : Nat), edges_a = some ⟨b_13, 0, none⟩ ∧ edges_n = l_edges.length ∧ edges_e = 1 ∧ Own H_2 b_13 (l_edges.map fI) ∧ Grow H H_2 ∧ H.length ≤ b_13 ∧ (vmost_2 ≤ vmost ∨ 0 ≤ vmost_2) ∧ Cut l_list.length l_edges ∧ 2 ≤ (l_edges.length : Int) ∧ (l_edges.length : Int) ≤ 18 - vmost_2 ∧ 0 ≤ vmost_2 ∧ vmost_2 - 0 ≤ (μ : Int) ∧ p_spec_BreaksOf l_list least vmost = p_spec_BreaksOf_l1 l_list least vmost (μ + 1) vmost_2 t7 l_edges) (Int.toNat (vmost - 0)) _ _ _ _ H_1 ?_ ?_
        · exact ⟨_, _, _, rfl, ω4, rfl, o_8, g_11, ω3, ω8, ω8, ω8, ω8, ω8, ω3, e⟩
        · intro μ vmost_2 edges_a edges_n edges_e  H_2 hI
          obtain ⟨t7, l_edges, b_13, rfl, rfl, rfl, o_14, g_15, l_16, v_17, v_18, v_19, v_20, v_21, hμ, e⟩ := hI
          rw [spec_BreaksOf_r1]
          have e := e.trans (p_spec_BreaksOf_l1_s l_list least vmost μ vmost_2 t7 l_edges)
          have w_22 := o_14.lt
          have l_23 := g_15.1
          refine Br.intro (fun c_24 => ?_) (fun c_24 => ?_)
          · have e := e.trans (cond_t c_24)
            have c_24' := of_decide_eq_true c_24
            refine spec_BreaksOf_L2 _ _ _ _ _ _ _ _ (fun (μ2 : Nat) (best : Int) (vat : Int) (top : Nat) (i : Int) (H_3 : AHeap) => ∃ (t7_7 : Bool), Own H_3 b_13 ((l_edges).map fI) ∧ Grow H H_3 ∧ 0 ≤ i ∧ best < i ∧ i < (l_edges.length : Int) ∧ -1 ≤ best ∧ 0 ≤ vat ∧ vat ≤ (l_list.length : Int) ∧ (l_edges.length : Int) + 1 - i ≤ (μ2 : Int) ∧ p_spec_BreaksOf l_list least vmost = p_spec_BreaksOf_l2 l_list least vmost vmost_2 t7 l_edges (fun (t7_7 : Bool) (best : Int) (vat : Int) (top : Nat) (i : Int) => (bif decide ((best : Int) < 0) then ((([] : List Int) ++ (((l_edges).drop (1 : Int).toNat).take ((((l_edges.length : Int) - 1) : Int) - 1).toNat)), true) else (bif !(fle .f32 least top) then ((([] : List Int) ++ (((l_edges).drop (1 : Int).toNat).take ((((l_edges.length : Int) - 1) : Int) - 1).toNat)), true) else (p_spec_BreaksOf_l1 l_list least vmost μ (vmost_2 - 1) t7_7 ((((([] : List Int) ++ (((l_edges).drop (0 : Int).toNat).take (((best + 1) : Int) - 0).toNat)) ++ [(vat : Int)]) ++ (((l_edges).drop ((best + 1) : Int).toNat).take (((l_edges.length : Int) : Int) - (best + 1)).toNat))))))) (μ2 + 1) t7_7 best vat top i) (Int.toNat ((l_edges.length : Int) + 1 - (0 : Int))) _ _ _ _ H_2 ?_ ?_
            · exact ⟨_, o_14, g_15, ω7, ω7, ω7, ω7, ω7, ω7, ω3, e⟩
            · intro μ2 best vat top i  H_3 hI
              obtain ⟨t7_7, o_25, g_26, v_27, v_28, v_29, v_30, v_31, v_32, hμ, e⟩ := hI
              rw [spec_BreaksOf_r2]
              have e := e.trans (p_spec_BreaksOf_l2_s l_list least vmost vmost_2 t7 l_edges (fun (t7_7 : Bool) (best : Int) (vat : Int) (top : Nat) (i : Int) => (bif decide ((best : Int) < 0) then ((([] : List Int) ++ (((l_edges).drop (1 : Int).toNat).take ((((l_edges.length : Int) - 1) : Int) - 1).toNat)), true) else (bif !(fle .f32 least top) then ((([] : List Int) ++ (((l_edges).drop (1 : Int).toNat).take ((((l_edges.length : Int) - 1) : Int) - 1).toNat)), true) else (p_spec_BreaksOf_l1 l_list least vmost μ (vmost_2 - 1) t7_7 ((((([] : List Int) ++ (((l_edges).drop (0 : Int).toNat).take (((best + 1) : Int) - 0).toNat)) ++ [(vat : Int)]) ++ (((l_edges).drop ((best + 1) : Int).toNat).take (((l_edges.length : Int) : Int) - (best + 1)).toNat))))))) μ2 t7_7 best vat top i)
              have hz := List.length_take_le (l_edges.getD (i + 1).toNat 0 - l_edges.getD i.toNat 0).toNat (l_list.drop (l_edges.getD i.toNat 0).toNat)
              have w_33 := o_25.lt
              have l_34 := g_26.1
              rw [show IntKind.wrap .i64 (i + 1) = (i + 1) from wrap64 ω3 ω3]
              refine Br.intro (fun c_35 => ?_) (fun c_35 => ?_)
              · have e := e.trans (cond_t c_35)
                have c_35' := of_decide_eq_true c_35
                refine ⟨by omega, ω3, _, _, rfl, ?_⟩
                refine ⟨((l_edges).getD ((i + 1) : Int).toNat 0), o_25.rd ω0 _, ?_⟩
                have z_36 := cut_at (by assumption) ((i + 1) : Int)
                refine ⟨by omega, ω3, _, _, rfl, ?_⟩
                refine ⟨((l_edges).getD (i : Int).toNat 0), o_25.rd ω0 _, ?_⟩
                have z_37 := cut_at (by assumption) (i : Int)
                rw [show IntKind.wrap .i64 ((((l_edges).getD ((i + 1) : Int).toNat 0)) - (((l_edges).getD (i : Int).toNat 0))) = ((((l_edges).getD ((i + 1) : Int).toNat 0)) - (((l_edges).getD (i : Int).toNat 0))) from wrap64 ω3 ω3]
                refine Br.intro (fun c_38 => ?_) (fun c_38 => ?_)
                · have e := e.trans (cond_t c_38)
                  have c_38' := of_decide_eq_true c_38
                  refine spec_BreaksOf_n2 (μ2 - 1) ω9 ⟨_, o_25, g_26, ω1, ω1, ω1, ω1, ω1, ω1, ω9, (by rw [show μ2 - 1 + 1 = μ2 from by first | omega]; exact e)⟩
                · have e := e.trans (cond_f c_38)
                  have c_38' := of_decide_eq_false c_38
                  refine ⟨by omega, ω3, _, _, rfl, ?_⟩
                  refine ⟨((l_edges).getD (i : Int).toNat 0), o_25.rd ω0 _, ?_⟩
                  have z_39 := cut_at (by assumption) (i : Int)
                  refine ⟨by omega, ω3, _, _, rfl, ?_⟩
                  refine ⟨((l_edges).getD ((i + 1) : Int).toNat 0), o_25.rd ω0 _, ?_⟩
                  have z_40 := cut_at (by assumption) ((i + 1) : Int)
                  refine ⟨by omega, by omega, by omega, ?_⟩
                  have i_41 := sub_isl i_list (lo := ((l_edges).getD (i : Int).toNat 0)) (hi := ((l_edges).getD ((i + 1) : Int).toNat 0)) ω3 ω3 ω3
                  refine T_spec_l05Break_i ⟨_, (i_41.grow g_26), ω0, ?_⟩
                  have z_42 := spec_l05Break_at ((((l_list).drop (((l_edges).getD (i : Int).toNat 0) : Int).toNat).take ((((l_edges).getD ((i + 1) : Int).toNat 0) : Int) - ((l_edges).getD (i : Int).toNat 0)).toNat))
                  refine Br.intro (fun c_43 => ?_) (fun c_43 => ?_)
                  · have e := e.trans (cond_t c_43)
                    have c_43n := nf_of_t c_43
                    rw [spec_BreaksOf_x2_ret]
                    rw [spec_BreaksOf_x1_ret]
                    rw [e] at hk
                    exact hk _ _ _ H_3 g_26 ω10
                  · have e := e.trans (cond_f c_43)
                    have c_43n := nt_of_f c_43
                    refine Br.intro (fun c_44 => ?_) (fun c_44 => ?_)
                    · have e := e.trans (cond_t c_44)
                      have c_44' := of_decide_eq_true c_44
                      refine ⟨by omega, ω3, _, _, rfl, ?_⟩
                      refine ⟨((l_edges).getD (i : Int).toNat 0), o_25.rd ω0 _, ?_⟩
                      have z_45 := cut_at (by assumption) (i : Int)
                      rw [show IntKind.wrap .i64 ((((l_edges).getD (i : Int).toNat 0)) + ((p_spec_l05Break ((((l_list).drop (((l_edges).getD (i : Int).toNat 0) : Int).toNat).take ((((l_edges).getD ((i + 1) : Int).toNat 0) : Int) - ((l_edges).getD (i : Int).toNat 0)).toNat))).1)) = ((((l_edges).getD (i : Int).toNat 0)) + ((p_spec_l05Break ((((l_list).drop (((l_edges).getD (i : Int).toNat 0) : Int).toNat).take ((((l_edges).getD ((i + 1) : Int).toNat 0) : Int) - ((l_edges).getD (i : Int).toNat 0)).toNat))).1)) from wrap64 ω3 ω3]
                      refine spec_BreaksOf_n2 (μ2 - 1) ω9 ⟨_, o_25, g_26, ω1, ω1, ω1, ω1, ω1, ω1, ω9, (by rw [show μ2 - 1 + 1 = μ2 from by first | omega]; exact e)⟩
                    · have e := e.trans (cond_f c_44)
                      have c_44' := of_decide_eq_false c_44
                      refine Br.intro (fun c_46 => ?_) (fun c_46 => ?_)
                      · have e := e.trans (cond_t c_46)
                        refine ⟨by omega, ω3, _, _, rfl, ?_⟩
                        refine ⟨((l_edges).getD (i : Int).toNat 0), o_25.rd ω0 _, ?_⟩
                        have z_47 := cut_at (by assumption) (i : Int)
                        rw [show IntKind.wrap .i64 ((((l_edges).getD (i : Int).toNat 0)) + ((p_spec_l05Break ((((l_list).drop (((l_edges).getD (i : Int).toNat 0) : Int).toNat).take ((((l_edges).getD ((i + 1) : Int).toNat 0) : Int) - ((l_edges).getD (i : Int).toNat 0)).toNat))).1)) = ((((l_edges).getD (i : Int).toNat 0)) + ((p_spec_l05Break ((((l_list).drop (((l_edges).getD (i : Int).toNat 0) : Int).toNat).take ((((l_edges).getD ((i + 1) : Int).toNat 0) : Int) - ((l_edges).getD (i : Int).toNat 0)).toNat))).1)) from wrap64 ω3 ω3]
                        refine spec_BreaksOf_n2 (μ2 - 1) ω9 ⟨_, o_25, g_26, ω1, ω1, ω1, ω1, ω1, ω1, ω9, (by rw [show μ2 - 1 + 1 = μ2 from by first | omega]; exact e)⟩
                      · have e := e.trans (cond_f c_46)
                        refine spec_BreaksOf_n2 (μ2 - 1) ω9 ⟨_, o_25, g_26, ω1, ω1, ω1, ω1, ω1, ω1, ω9, (by rw [show μ2 - 1 + 1 = μ2 from by first | omega]; exact e)⟩
              · have e := e.trans (cond_f c_35)
                have c_35' := of_decide_eq_false c_35
                rw [spec_BreaksOf_x2_2]
                refine Br.intro (fun c_48 => ?_) (fun c_48 => ?_)
                · have e := e.trans (cond_t c_48)
                  have c_48' := of_decide_eq_true c_48
                  rw [spec_BreaksOf_x1_0]
                  refine Al.intro (fun b_49 H_4 hb_50 hl_51 g_52 o_53 => ?_)
                  have o_53 : Own H_4 b_49 ((([] : List Int)).map fI) := o_53
                  have l_55 := g_52.1
                  have g_56 := g_26.trans g_52
                  have l_57 := g_56.1
                  have o_58 := o_25.grow g_52
                  have w_59 := o_58.lt
                  have w_74 := o_53.lt
                  rw [show IntKind.wrap .i64 ((l_edges.length : Int) - 1) = ((l_edges.length : Int) - 1) from wrap64 ω3 ω3]
                  refine ⟨by omega, by omega, by omega, ?_⟩
                  have i_60 := sub_isl (o_58.isL ω4) (lo := 1) (hi := ((l_edges.length : Int) - 1)) ω3 ω3 ω3
                  have g_61 := Grow.refl H_4
                  refine ⟨_, _, o_53.ownB ω2 rfl, (isl_rdS (i_60.grow g_61)), (fun h => by cases h), ω13, ?_⟩
                  refine Ap.app o_53 rfl rfl (fun b_66 H_5 q_72 hl_62 o_63 k_64 => ?_)
                  have o_63 := map_snoc o_63
                  have l_67 := k_64.1
                  have g_68 := g_56.keep (b := b_49) ω3 k_64
                  have l_69 := g_68.1
                  have o_70 := o_58.keep ω3 k_64
                  have w_71 := o_70.lt
                  have w_73 := o_63.lt
                  rw [e] at hk
                  exact hk _ _ _ H_5 g_68 (o_63.ownS ω5 ω3)
                · have e := e.trans (cond_f c_48)
                  have c_48' := of_decide_eq_false c_48
                  refine Br.intro (fun c_75 => ?_) (fun c_75 => ?_)
                  · have e := e.trans (cond_t c_75)
                    have c_75n := nf_of_t c_75
                    rw [spec_BreaksOf_x1_0]
                    refine Al.intro (fun b_76 H_6 hb_77 hl_78 g_79 o_80 => ?_)
                    have o_80 : Own H_6 b_76 ((([] : List Int)).map fI) := o_80
                    have l_82 := g_79.1
                    have g_83 := g_26.trans g_79
                    have l_84 := g_83.1
                    have o_85 := o_25.grow g_79
                    have w_86 := o_85.lt
                    have w_101 := o_80.lt
                    rw [show IntKind.wrap .i64 ((l_edges.length : Int) - 1) = ((l_edges.length : Int) - 1) from wrap64 ω3 ω3]
                    refine ⟨by omega, by omega, by omega, ?_⟩
                    have i_87 := sub_isl (o_85.isL ω4) (lo := 1) (hi := ((l_edges.length : Int) - 1)) ω3 ω3 ω3
                    have g_88 := Grow.refl H_6
                    refine ⟨_, _, o_80.ownB ω2 rfl, (isl_rdS (i_87.grow g_88)), (fun h => by cases h), ω13, ?_⟩
                    refine Ap.app o_80 rfl rfl (fun b_93 H_7 q_99 hl_89 o_90 k_91 => ?_)
                    have o_90 := map_snoc o_90
                    have l_94 := k_91.1
                    have g_95 := g_83.keep (b := b_76) ω3 k_91
                    have l_96 := g_95.1
                    have o_97 := o_85.keep ω3 k_91
                    have w_98 := o_97.lt
                    have w_100 := o_90.lt
                    rw [e] at hk
                    exact hk _ _ _ H_7 g_95 (o_90.ownS ω5 ω3)
                  · have e := e.trans (cond_f c_75)
                    have c_75n := nt_of_f c_75
                    refine Al.intro (fun b_102 H_8 hb_103 hl_104 g_105 o_106 => ?_)
                    have o_106 : Own H_8 b_102 ((([] : List Int)).map fI) := o_106
                    have l_108 := g_105.1
                    have g_109 := g_26.trans g_105
                    have l_110 := g_109.1
                    have o_111 := o_25.grow g_105
                    have w_112 := o_111.lt
                    have w_171 := o_106.lt
                    rw [show IntKind.wrap .i64 (best + 1) = (best + 1) from wrap64 ω3 ω3]
                    refine ⟨by omega, by omega, by omega, ?_⟩
                    have i_113 := sub_isl (o_111.isL ω4) (lo := 0) (hi := (best + 1)) ω3 ω3 ω3
                    have g_114 := Grow.refl H_8
                    refine ⟨_, _, o_106.ownB ω2 rfl, (isl_rdS (i_113.grow g_114)), (fun h => by cases h), ω13, ?_⟩
                    refine Ap.app o_106 rfl rfl (fun b_119 H_9 q_169 hl_115 o_116 k_117 => ?_)
                    have o_116 := map_snoc o_116
                    have l_120 := k_117.1
                    have g_121 := g_109.keep (b := b_102) ω3 k_117
                    have l_122 := g_121.1
                    have o_123 := o_111.keep ω3 k_117
                    have w_124 := o_123.lt
                    have w_170 := o_116.lt
                    refine Al.intro (fun b_125 H_10 hb_126 hl_127 g_128 o_129 => ?_)
                    have o_129 : Own H_10 b_125 (([(vat : Int)]).map fI) := o_129
                    have l_131 := g_128.1
                    have g_132 := g_121.trans g_128
                    have l_133 := g_132.1
                    have o_134 := o_123.grow g_128
                    have w_135 := o_134.lt
                    have o_136 := o_116.grow g_128
                    have w_137 := o_136.lt
                    have w_168 := o_129.lt
                    refine ⟨_, _, o_136.ownB ω2 rfl, (isl_rdS (o_129.isL ω4)), (fun h => by cases h), ω13, ?_⟩
                    refine Ap.app o_136 rfl rfl (fun b_142 H_11 q_166 hl_138 o_139 k_140 => ?_)
                    have o_139 := map_snoc o_139
                    have l_143 := k_140.1
                    have g_144 := g_132.keep (b := b_119) ω3 k_140
                    have l_145 := g_144.1
                    have o_146 := o_134.keep ω3 k_140
                    have w_147 := o_146.lt
                    have o_148 := o_129.keep ω3 k_140
                    have w_149 := o_148.lt
                    have w_167 := o_139.lt
                    refine ⟨by omega, by omega, by omega, ?_⟩
                    have i_150 := sub_isl (o_146.isL ω4) (lo := (best + 1)) (hi := (l_edges.length : Int)) ω3 ω3 ω3
                    have g_151 := Grow.refl H_11
                    refine ⟨_, _, o_139.ownB ω2 rfl, (isl_rdS (i_150.grow g_151)), (fun h => by cases h), ω13, ?_⟩
                    refine Ap.app o_139 rfl rfl (fun b_156 H_12 q_164 hl_152 o_153 k_154 => ?_)
                    have o_153 := map_snoc o_153
                    have l_157 := k_154.1
                    have g_158 := g_144.keep (b := b_142) ω3 k_154
                    have l_159 := g_158.1
                    have o_160 := o_146.keep ω3 k_154
                    have w_161 := o_160.lt
                    have o_162 := o_148.keep ω3 k_154
                    have w_163 := o_162.lt
                    have w_165 := o_153.lt
                    rw [show IntKind.wrap .i64 (vmost_2 - 1) = (vmost_2 - 1) from wrap64 ω3 ω3]
                    refine spec_BreaksOf_n1 (μ - 1) ω9 ⟨_, _, _, rfl, ω5, rfl, o_153, g_158, ω3, ω6, ω6, ω6, ω6, ω6, ω9, (by rw [show μ - 1 + 1 = μ from by first | omega]; exact e)⟩
          · have e := e.trans (cond_f c_24)
            have c_24' := of_decide_eq_false c_24
            rw [spec_BreaksOf_x1_0]
            refine Al.intro (fun b_172 H_13 hb_173 hl_174 g_175 o_176 => ?_)
            have o_176 : Own H_13 b_172 ((([] : List Int)).map fI) := o_176
            have l_178 := g_175.1
            have g_179 := g_15.trans g_175
            have l_180 := g_179.1
            have o_181 := o_14.grow g_175
            have w_182 := o_181.lt
            have w_197 := o_176.lt
            rw [show IntKind.wrap .i64 ((l_edges.length : Int) - 1) = ((l_edges.length : Int) - 1) from wrap64 ω3 ω3]
            refine ⟨by omega, by omega, by omega, ?_⟩
            have i_183 := sub_isl (o_181.isL ω4) (lo := 1) (hi := ((l_edges.length : Int) - 1)) ω3 ω3 ω3
            have g_184 := Grow.refl H_13
            refine ⟨_, _, o_176.ownB ω2 rfl, (isl_rdS (i_183.grow g_184)), (fun h => by cases h), ω13, ?_⟩
            refine Ap.app o_176 rfl rfl (fun b_189 H_14 q_195 hl_185 o_186 k_187 => ?_)
            have o_186 := map_snoc o_186
            have l_190 := k_187.1
            have g_191 := g_179.keep (b := b_172) ω3 k_187
            have l_192 := g_191.1
            have o_193 := o_181.keep ω3 k_187
            have w_194 := o_193.lt
            have w_196 := o_186.lt
            rw [e] at hk
            exact hk _ _ _ H_14 g_191 (o_186.ownS ω5 ω3)
theorem spec_BreaksOf_ok : FnOk Try.prog 74 S_spec_BreaksOf := by
  refine FnOk.body mix_ok E_spec_BreaksOf_ok Try.func74 rfl (by kernel_rfl) (by kernel_rfl) ?_ ?_ ?_ ?_ ?_
  · intro args H K K' h hk
    simp only [S_spec_BreaksOf] at *
    unfold F_spec_BreaksOf at *
    split at hk
    · obtain ⟨l_list, i_list, bd_199, k⟩ := hk
      exact ⟨l_list, i_list, bd_199, (fun r1_a r1_n r1_e H' gg ow0 => h _ _ (k r1_a r1_n r1_e H' gg ow0))⟩
    · exact hk.elim
  · intro hq; cases hq
  · intro args H K hk
    simp only [S_spec_BreaksOf] at *
    unfold F_spec_BreaksOf at *
    split at hk
    · obtain ⟨l_list, i_list, bd_199, k⟩ := hk
      exact liveS fun a n e H1 g o => ⟨_, _, k a n e H1 g o⟩
    · exact hk.elim
  · intro _ args H K hk
    simp only [S_spec_BreaksOf] at *
    unfold F_spec_BreaksOf at *
    split at hk
    · obtain ⟨l_list, i_list, bd_199, k⟩ := hk
      exact ⟨l_list, i_list, bd_199, (fun r1_a r1_n r1_e H' gg ow0 => ⟨gg, k r1_a r1_n r1_e H' gg ow0⟩)⟩
    · exact hk.elim
  · have mm := @spec_BreaksOf_main
    have ml := fun (args : List Value) (H : AHeap) (K : Value → AHeap → Prop) => bodyL_body (P := Try.prog) (env := E_spec_BreaksOf ) (fn := Try.f74) (args := args) (H := H) (K := K) E_spec_BreaksOf_ok 
    revert mm ml
    generalize bodyK Try.prog E_spec_BreaksOf Try.f74 = Q
    generalize bodyL Try.prog E_spec_BreaksOf Try.f74 = QL
    intro mm ml args H K hk
    simp only [S_spec_BreaksOf] at *
    unfold F_spec_BreaksOf at *
    split at hk
    · exact ml _ H K (mm _ _ _ _ _ H K hk)
    · exact hk.elim

def p_laws_b10Ints_l1 (l_a : List Int) (l_b : List Int) : Nat → Bool → Int → Bool
  | 0, _, _ => false
  | μ + 1, t4, t13 => (bif decide ((t13 : Int) < (l_a.length : Int)) then (bif (((l_a).getD (t13 : Int).toNat 0) : Int) != ((l_b).getD (t13 : Int).toNat 0) then false else (p_laws_b10Ints_l1 l_a l_b μ t4 (t13 + 1))) else true)
def p_laws_b10Ints_l1_s := fun l_a l_b μ t4 t13 => @p_laws_b10Ints_l1.eq_2 l_a l_b t4 t13 μ
def p_laws_b10Ints (l_a : List Int) (l_b : List Int) : Bool := ((bif ((l_a.length : Int) : Int) != (l_b.length : Int) then false else (p_laws_b10Ints_l1 l_a l_b (Int.toNat ((l_a.length : Int) - (0 : Int)) + 1) false (0 : Int))))
def p_laws_b10Ints_eq := @p_laws_b10Ints.eq_1
def T_laws_b10Ints (a_a : Option Addr) (a_n : Nat) (a_e : Nat) (b_a : Option Addr) (b_n : Nat) (b_e : Nat) (H : AHeap) (K : Bool → AHeap → Prop) : Prop := ∃ (l_a : List Int), ∃ (l_b : List Int), IsL fI H a_a a_n l_a ∧ IsL fI H b_a b_n l_b ∧ l_a.length < 1073741824 ∧ l_b.length < 1073741824 ∧ K (p_laws_b10Ints l_a l_b) H
theorem T_laws_b10Ints_i {a_a : Option Addr} {a_n : Nat} {a_e : Nat} {b_a : Option Addr} {b_n : Nat} {b_e : Nat} {H : AHeap} {K : Bool → AHeap → Prop} (h : ∃ (l_a : List Int), ∃ (l_b : List Int), IsL fI H a_a a_n l_a ∧ IsL fI H b_a b_n l_b ∧ l_a.length < 1073741824 ∧ l_b.length < 1073741824 ∧ K (p_laws_b10Ints l_a l_b) H) : T_laws_b10Ints a_a a_n a_e b_a b_n b_e H K := h

/-! laws_b10Ints: function 75 -/
def E_laws_b10Ints : Env := envOf []
def F_laws_b10Ints : List Value → AHeap → (Value → AHeap → Prop) → Prop
  | [.slice a_a a_n a_e, .slice b_a b_n b_e], H, K => T_laws_b10Ints a_a a_n a_e b_a b_n b_e H fun (r1 : Bool) (H' : AHeap) => K (.bool r1) H'
  | _, _, _ => False
def S_laws_b10Ints : FSpec := { F := F_laws_b10Ints, quiet := true, tame := false }
theorem laws_b10Ints_vc (a_a : Option Addr) (a_n : Nat) (a_e : Nat) (b_a : Option Addr) (b_n : Nat) (b_e : Nat) (H : AHeap) (K : Value → AHeap → Prop) : bodyL Try.prog E_laws_b10Ints Try.f75 [.slice a_a a_n a_e, .slice b_a b_n b_e] H K =
  (Br (((a_n : Int) : Int) != (b_n : Int)) (K (.bool false) H) (loopK (exL Try.prog E_laws_b10Ints (cl (cl (cr (cl (cr (cr (bodyC Try.f75))))))) 12291 16 [(0, 0)]) [.slice a_a a_n a_e, .slice b_a b_n b_e, ud, ud, ud, ud, ud, ud, ud, ud, ud, ud, .int .i64 (a_n : Int), .int .i64 0, ud, ud, ud, ud, ud, ud, ud, ud, ud, ud, ud, ud] H (blockQ 0 (seqQ (exL Try.prog E_laws_b10Ints (cr (cr (cr (bodyC Try.f75)))) 16 16 []) (retK Try.prog Try.f75 K))))) := by kernel_rfl
abbrev laws_b10Ints_P1 (a_a : Option Addr) (a_e : Nat) (a_n : Nat) (b_a : Option Addr) (b_e : Nat) (b_n : Nat) (t13 : Int)  : List Value := [.slice a_a a_n a_e, .slice b_a b_n b_e, ud, ud, ud, ud, ud, ud, ud, ud, ud, ud, .int .i64 (a_n : Int), .int .i64 t13, ud, ud, ud, ud, ud, ud, ud, ud, ud, ud, ud, ud]
theorem laws_b10Ints_r1 (a_a : Option Addr) (a_e : Nat) (a_n : Nat) (b_a : Option Addr) (b_e : Nat) (b_n : Nat) (t13 : Int)  (H : AHeap) (R : Post) : exL Try.prog E_laws_b10Ints (cl (cl (cr (cl (cr (cr (bodyC Try.f75))))))) 12291 16 [(0, 0)] (laws_b10Ints_P1 a_a a_e a_n b_a b_e b_n t13) H R =
  (Br (decide ((t13 : Int) < (a_n : Int))) ((0 : Int) ≤ t13 ∧ t13 < (a_n : Int) ∧ ∃ b1 f1, (a_a : Option Addr) = some ⟨b1, f1, none⟩ ∧ ∃ x1 : Int,  rdC H b1 (f1 + (t13 : Int).toNat * 1) = some (.int .i64 x1) ∧ (0 : Int) ≤ t13 ∧ t13 < (b_n : Int) ∧ ∃ b2 f2, (b_a : Option Addr) = some ⟨b2, f2, none⟩ ∧ ∃ x2 : Int,  rdC H b2 (f2 + (t13 : Int).toNat * 1) = some (.int .i64 x2) ∧ Br ((x1 : Int) != x2) (R .ret [ud, ud, ud, ud, .bool false, ud, ud, ud, ud, ud, ud, ud, ud, ud, ud, ud, ud, ud, ud, ud, ud, ud, ud, ud, ud, ud] H) (R .normal [.slice a_a a_n a_e, .slice b_a b_n b_e, ud, ud, ud, ud, ud, ud, ud, ud, ud, ud, .int .i64 (a_n : Int), .int .i64 (IntKind.wrap .i64 (t13 + 1)), ud, ud, ud, ud, ud, ud, ud, ud, ud, ud, ud, ud] H)) (R (.exit 0) [ud, ud, ud, ud, ud, ud, ud, ud, ud, ud, ud, ud, ud, ud, ud, ud, ud, ud, ud, ud, ud, ud, ud, ud, ud, ud] H)) := by kernel_rfl
def laws_b10Ints_I1 (a_a : Option Addr) (a_e : Nat) (a_n : Nat) (b_a : Option Addr) (b_e : Nat) (b_n : Nat) (Inv : Nat → Int → AHeap → Prop) : Nat → List Value → AHeap → Prop := fun μ tm H => ∃ (t13 : Int), tm = (laws_b10Ints_P1 a_a a_e a_n b_a b_e b_n t13) ∧ Inv μ t13 H
theorem laws_b10Ints_L1 (a_a : Option Addr) (a_e : Nat) (a_n : Nat) (b_a : Option Addr) (b_e : Nat) (b_n : Nat) {Q : Post} (Inv : Nat → Int → AHeap → Prop) (ν : Nat) (t13 : Int)  (H : AHeap) (h0 : Inv ν t13 H)
    (hs : ∀ (μ : Nat) (t13 : Int)  (H : AHeap), Inv μ t13 H → exL Try.prog E_laws_b10Ints (cl (cl (cr (cl (cr (cr (bodyC Try.f75))))))) 12291 16 [(0, 0)] (laws_b10Ints_P1 a_a a_e a_n b_a b_e b_n t13) H (loopQ (laws_b10Ints_I1 a_a a_e a_n b_a b_e b_n Inv) μ Q)) : loopK (exL Try.prog E_laws_b10Ints (cl (cl (cr (cl (cr (cr (bodyC Try.f75))))))) 12291 16 [(0, 0)]) (laws_b10Ints_P1 a_a a_e a_n b_a b_e b_n t13) H Q :=
  ⟨laws_b10Ints_I1 a_a a_e a_n b_a b_e b_n Inv, ν, ⟨t13, rfl, h0⟩, fun μ tm H h => by obtain ⟨t13, rfl, hI⟩ := h; exact hs μ t13  H hI⟩
theorem laws_b10Ints_n1 {a_a : Option Addr} {a_e : Nat} {a_n : Nat} {b_a : Option Addr} {b_e : Nat} {b_n : Nat} {Q : Post} {Inv : Nat → Int → AHeap → Prop} {μ : Nat} (μ' : Nat) {t13 : Int}  {H : AHeap} (hm : μ' < μ) (hI : Inv μ' t13 H) : loopQ (laws_b10Ints_I1 a_a a_e a_n b_a b_e b_n Inv) μ Q .normal (laws_b10Ints_P1 a_a a_e a_n b_a b_e b_n t13) H := ⟨μ', hm, t13, rfl, hI⟩
theorem laws_b10Ints_x1_0  (H : AHeap) (K : Value → AHeap → Prop)  {I : Nat → List Value → AHeap → Prop} {μ : Nat} : loopQ I μ (blockQ 0 (seqQ (exL Try.prog E_laws_b10Ints (cr (cr (cr (bodyC Try.f75)))) 16 16 []) (retK Try.prog Try.f75 K))) (.exit 0) [ud, ud, ud, ud, ud, ud, ud, ud, ud, ud, ud, ud, ud, ud, ud, ud, ud, ud, ud, ud, ud, ud, ud, ud, ud, ud] H =
  (K (.bool true) H) := by kernel_rfl
theorem laws_b10Ints_x1_ret (t4 : Bool) (H : AHeap) (K : Value → AHeap → Prop)  {I : Nat → List Value → AHeap → Prop} {μ : Nat} : loopQ I μ (blockQ 0 (seqQ (exL Try.prog E_laws_b10Ints (cr (cr (cr (bodyC Try.f75)))) 16 16 []) (retK Try.prog Try.f75 K))) .ret [ud, ud, ud, ud, .bool t4, ud, ud, ud, ud, ud, ud, ud, ud, ud, ud, ud, ud, ud, ud, ud, ud, ud, ud, ud, ud, ud] H =
  (K (.bool t4) H) := by kernel_rfl
theorem E_laws_b10Ints_ok : ∀ g, FnOk Try.prog g (E_laws_b10Ints g) := FnOk.envOf (by
  intro x hx; cases hx)
set_option maxHeartbeats 1000000 in
theorem laws_b10Ints_main (a_a : Option Addr) (a_n : Nat) (a_e : Nat) (b_a : Option Addr) (b_n : Nat) (b_e : Nat) (H : AHeap) (K : Value → AHeap → Prop) (h : T_laws_b10Ints a_a a_n a_e b_a b_n b_e H fun (r1 : Bool) (H' : AHeap) => K (.bool r1) H') : bodyL Try.prog E_laws_b10Ints Try.f75 [.slice a_a a_n a_e, .slice b_a b_n b_e] H K := by
  rw [laws_b10Ints_vc]
  obtain ⟨l_a, l_b, i_a, i_b, bd_13, bd_14, hk⟩ := h
  obtain rfl := i_a.eqn
  obtain rfl := i_b.eqn
  have e : (p_laws_b10Ints l_a l_b) = _ := rfl
  have e := e.trans (p_laws_b10Ints_eq l_a l_b)
  have g0 := Grow.refl H
  refine Br.intro (fun c_1 => ?_) (fun c_1 => ?_)
  · have e := e.trans (cond_t c_1)
    have c_1' := ine_t c_1
    rw [e] at hk
    exact hk
  · have e := e.trans (cond_f c_1)
    have c_1' := ine_f c_1
    refine laws_b10Ints_L1 _ _ _ _ _ _ (fun (μ : Nat) (t13 : Int) (H_1 : AHeap) => ∃ (t4 : Bool), H = H_1 ∧ (0 : Int) ≤ t13 ∧ t13 ≤ (l_a.length : Int) ∧ (l_a.length : Int) - t13 ≤ (μ : Int) ∧ p_laws_b10Ints l_a l_b = p_laws_b10Ints_l1 l_a l_b (μ + 1) t4 t13) (Int.toNat ((l_a.length : Int) - (0 : Int))) _ H ?_ ?_
    · exact ⟨_, rfl, ω7, ω7, ω3, e⟩
    · intro μ t13  H_1 hI
      obtain ⟨t4, rfl, v_2, v_3, hμ, e⟩ := hI
      rw [laws_b10Ints_r1]
      have e := e.trans (p_laws_b10Ints_l1_s l_a l_b μ t4 t13)
      have l_4 := g0.1
      refine Br.intro (fun c_5 => ?_) (fun c_5 => ?_)
      · have e := e.trans (cond_t c_5)
        have c_5' := of_decide_eq_true c_5
        obtain ⟨b_6, f_7, q_8⟩ := ((i_a.grow g0)).pos ω0
        refine ⟨by omega, by omega, b_6, f_7, q_8, ?_⟩
        refine ⟨((l_a).getD (t13 : Int).toNat 0), (i_a).rd g0 q_8 ω3 _, ?_⟩
        obtain ⟨b_9, f_10, q_11⟩ := ((i_b.grow g0)).pos ω0
        refine ⟨by omega, by omega, b_9, f_10, q_11, ?_⟩
        refine ⟨((l_b).getD (t13 : Int).toNat 0), (i_b).rd g0 q_11 ω3 _, ?_⟩
        refine Br.intro (fun c_12 => ?_) (fun c_12 => ?_)
        · have e := e.trans (cond_t c_12)
          have c_12' := ine_t c_12
          rw [laws_b10Ints_x1_ret]
          rw [e] at hk
          exact hk
        · have e := e.trans (cond_f c_12)
          have c_12' := ine_f c_12
          rw [show IntKind.wrap .i64 (t13 + 1) = (t13 + 1) from wrap64 ω3 ω3]
          refine laws_b10Ints_n1 (μ - 1) ω9 ⟨_, rfl, ω1, ω1, ω9, (by rw [show μ - 1 + 1 = μ from by first | omega]; exact e)⟩
      · have e := e.trans (cond_f c_5)
        have c_5' := of_decide_eq_false c_5
        rw [laws_b10Ints_x1_0]
        rw [e] at hk
        exact hk
theorem laws_b10Ints_ok : FnOk Try.prog 75 S_laws_b10Ints := by
  refine FnOk.body mix_ok E_laws_b10Ints_ok Try.func75 rfl (by kernel_rfl) (by kernel_rfl) ?_ ?_ ?_ ?_ ?_
  · intro args H K K' h hk
    simp only [S_laws_b10Ints] at *
    unfold F_laws_b10Ints at *
    split at hk
    · obtain ⟨l_a, l_b, i_a, i_b, bd_13, bd_14, k⟩ := hk
      exact ⟨l_a, l_b, i_a, i_b, bd_13, bd_14, h _ _ k⟩
    · exact hk.elim
  · intro _ args H K hk
    simp only [S_laws_b10Ints] at *
    unfold F_laws_b10Ints at *
    split at hk
    · obtain ⟨l_a, l_b, i_a, i_b, bd_13, bd_14, k⟩ := hk
      exact ⟨_, k, fun K' k' => ⟨l_a, l_b, i_a, i_b, bd_13, bd_14, k'⟩⟩
    · exact hk.elim
  · intro args H K hk
    simp only [S_laws_b10Ints] at *
    unfold F_laws_b10Ints at *
    split at hk
    · obtain ⟨l_a, l_b, i_a, i_b, bd_13, bd_14, k⟩ := hk
      exact ⟨_, _, k⟩
    · exact hk.elim
  · intro hq; cases hq
  · have mm := @laws_b10Ints_main
    have ml := fun (args : List Value) (H : AHeap) (K : Value → AHeap → Prop) => bodyL_body (P := Try.prog) (env := E_laws_b10Ints ) (fn := Try.f75) (args := args) (H := H) (K := K) E_laws_b10Ints_ok 
    revert mm ml
    generalize bodyK Try.prog E_laws_b10Ints Try.f75 = Q
    generalize bodyL Try.prog E_laws_b10Ints Try.f75 = QL
    intro mm ml args H K hk
    simp only [S_laws_b10Ints] at *
    unfold F_laws_b10Ints at *
    split at hk
    · exact ml _ H K (mm _ _ _ _ _ _ H K hk)
    · exact hk.elim
end Go.Proofs.Ytbnplefohfamnaa.Ai
