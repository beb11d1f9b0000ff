/- What functions of the program come to on the abstract machine, and that they do so; printed by a program of mine around proofs of mine. -/
import Derived.Test.YtbnplefohfamnaaProg
import Derived.Test.YtbnplefohfamnaaEr
import Derived.Test.YtbnplefohfamnaaLv
import Derived.Test.YtbnplefohfamnaaOl
import Derived.Test.YtbnplefohfamnaaSo
set_option linter.unusedVariables false
set_option linter.unusedSimpArgs false
set_option linter.defProp false
set_option maxRecDepth 100000
namespace Go.Proofs.Ytbnplefohfamnaa.Ai
open Go
attribute [local irreducible] bodyK bodyL
theorem mix_ok : Try.prog.follows .mixedOrders = true := by kernel_rfl

def p_laws_b10Long (l_code : List UInt8) (l_more : List UInt8) : Bool := (bif decide ((1048576 : Int) < (l_code.length : Int)) then true else decide ((1048576 : Int) < (l_more.length : Int)))
def p_laws_b10Long_eq := @p_laws_b10Long.eq_1
def T_laws_b10Long (code_a : Option Addr) (code_n : Nat) (code_e : Nat) (more_a : Option Addr) (more_n : Nat) (more_e : Nat) (H : AHeap) (K : Bool → AHeap → Prop) : Prop := ∃ (l_code : List UInt8), ∃ (l_more : List UInt8), IsL fU H code_a code_n l_code ∧ IsL fU H more_a more_n l_more ∧ K (p_laws_b10Long l_code l_more) H
theorem T_laws_b10Long_i {code_a : Option Addr} {code_n : Nat} {code_e : Nat} {more_a : Option Addr} {more_n : Nat} {more_e : Nat} {H : AHeap} {K : Bool → AHeap → Prop} (h : ∃ (l_code : List UInt8), ∃ (l_more : List UInt8), IsL fU H code_a code_n l_code ∧ IsL fU H more_a more_n l_more ∧ K (p_laws_b10Long l_code l_more) H) : T_laws_b10Long code_a code_n code_e more_a more_n more_e H K := h
theorem laws_b10Long_f {a b : List UInt8} (h : p_laws_b10Long a b = false) : a.length ≤ 1048576 ∧ b.length ≤ 1048576 := by
  rw [p_laws_b10Long_eq] at h
  by_cases h1 : (1048576 : Int) < (a.length : Int)
  · rw [decide_eq_true h1] at h; cases h
  · rw [decide_eq_false h1, cond_false] at h
    have := of_decide_eq_false h; omega
/-! laws_b10Long: function 43 -/
def E_laws_b10Long : Env := envOf []
def F_laws_b10Long : List Value → AHeap → (Value → AHeap → Prop) → Prop
  | [.slice code_a code_n code_e, .slice more_a more_n more_e], H, K => T_laws_b10Long code_a code_n code_e more_a more_n more_e H fun (r1 : Bool) (H' : AHeap) => K (.bool r1) H'
  | _, _, _ => False
def S_laws_b10Long : FSpec := { F := F_laws_b10Long, quiet := true, tame := false }
theorem laws_b10Long_vc (code_a : Option Addr) (code_n : Nat) (code_e : Nat) (more_a : Option Addr) (more_n : Nat) (more_e : Nat) (H : AHeap) (K : Value → AHeap → Prop) : bodyL Try.prog E_laws_b10Long Try.f43 [.slice code_a code_n code_e, .slice more_a more_n more_e] H K =
  (Br (decide ((1048576 : Int) < (code_n : Int))) (K (.bool true) H) (K (.bool (decide ((1048576 : Int) < (more_n : Int)))) H)) := by kernel_rfl
theorem E_laws_b10Long_ok : ∀ g, FnOk Try.prog g (E_laws_b10Long g) := FnOk.envOf (by
  intro x hx; cases hx)
set_option maxHeartbeats 1000000 in
theorem laws_b10Long_main (code_a : Option Addr) (code_n : Nat) (code_e : Nat) (more_a : Option Addr) (more_n : Nat) (more_e : Nat) (H : AHeap) (K : Value → AHeap → Prop) (h : T_laws_b10Long code_a code_n code_e more_a more_n more_e H fun (r1 : Bool) (H' : AHeap) => K (.bool r1) H') : bodyL Try.prog E_laws_b10Long Try.f43 [.slice code_a code_n code_e, .slice more_a more_n more_e] H K := by
  rw [laws_b10Long_vc]
  obtain ⟨l_code, l_more, i_code, i_more, hk⟩ := h
  obtain rfl := i_code.eqn
  obtain rfl := i_more.eqn
  have e : (p_laws_b10Long l_code l_more) = _ := rfl
  have e := e.trans (p_laws_b10Long_eq l_code l_more)
  have g0 := Grow.refl H
  refine Br.intro (fun c_1 => ?_) (fun c_1 => ?_)
  · have e := e.trans (cond_t c_1)
    have c_1' := of_decide_eq_true c_1
    rw [e] at hk
    exact hk
  · have e := e.trans (cond_f c_1)
    have c_1' := of_decide_eq_false c_1
    rw [e] at hk
    exact hk
theorem laws_b10Long_ok : FnOk Try.prog 43 S_laws_b10Long := by
  refine FnOk.body mix_ok E_laws_b10Long_ok Try.func43 rfl (by kernel_rfl) (by kernel_rfl) ?_ ?_ ?_ ?_ ?_
  · intro args H K K' h hk
    simp only [S_laws_b10Long] at *
    unfold F_laws_b10Long at *
    split at hk
    · obtain ⟨l_code, l_more, i_code, i_more, k⟩ := hk
      exact ⟨l_code, l_more, i_code, i_more, h _ _ k⟩
    · exact hk.elim
  · intro _ args H K hk
    simp only [S_laws_b10Long] at *
    unfold F_laws_b10Long at *
    split at hk
    · obtain ⟨l_code, l_more, i_code, i_more, k⟩ := hk
      exact ⟨_, k, fun K' k' => ⟨l_code, l_more, i_code, i_more, k'⟩⟩
    · exact hk.elim
  · intro args H K hk
    simp only [S_laws_b10Long] at *
    unfold F_laws_b10Long at *
    split at hk
    · obtain ⟨l_code, l_more, i_code, i_more, k⟩ := hk
      exact ⟨_, _, k⟩
    · exact hk.elim
  · intro hq; cases hq
  · have mm := @laws_b10Long_main
    have ml := fun (args : List Value) (H : AHeap) (K : Value → AHeap → Prop) => bodyL_body (P := Try.prog) (env := E_laws_b10Long ) (fn := Try.f43) (args := args) (H := H) (K := K) E_laws_b10Long_ok 
    revert mm ml
    generalize bodyK Try.prog E_laws_b10Long Try.f43 = Q
    generalize bodyL Try.prog E_laws_b10Long Try.f43 = QL
    intro mm ml args H K hk
    simp only [S_laws_b10Long] at *
    unfold F_laws_b10Long at *
    split at hk
    · exact ml _ H K (mm _ _ _ _ _ _ H K hk)
    · exact hk.elim

def p_laws_b10At (l_code : List UInt8) (i : Int) (n : Int) : Int := (bif decide ((n : Int) ≤ 1) then (0 : Int) else (bif decide ((i : Int) < (l_code.length : Int)) then Int.tmod (IntKind.wrap .i64 (((((l_code).getD (i : Int).toNat 0)).toNat : Int))) n else Int.tmod (IntKind.wrap .i64 ((IntKind.wrap .i64 (i * 37)) + 11)) n))
def p_laws_b10At_eq := @p_laws_b10At.eq_1
def T_laws_b10At (code_a : Option Addr) (code_n : Nat) (code_e : Nat) (i : Int) (n : Int) (H : AHeap) (K : Int → AHeap → Prop) : Prop := ∃ (l_code : List UInt8), IsL fU H code_a code_n l_code ∧ l_code.length < 1073741824 ∧ 0 ≤ i ∧ i ≤ 1073741824 ∧ K (p_laws_b10At l_code i n) H
theorem T_laws_b10At_i {code_a : Option Addr} {code_n : Nat} {code_e : Nat} {i : Int} {n : Int} {H : AHeap} {K : Int → AHeap → Prop} (h : ∃ (l_code : List UInt8), IsL fU H code_a code_n l_code ∧ l_code.length < 1073741824 ∧ 0 ≤ i ∧ i ≤ 1073741824 ∧ K (p_laws_b10At l_code i n) H) : T_laws_b10At code_a code_n code_e i n H K := h
theorem ω2 {P : Prop} (h : P := by omega) : P := h
theorem laws_b10At_rng (l : List UInt8) (i n : Int) (h0 : 0 ≤ i) (h1 : i ≤ 1073741824) : 0 ≤ p_laws_b10At l i n ∧ (p_laws_b10At l i n < n ∨ (n ≤ 1 ∧ p_laws_b10At l i n = 0)) := by
  rw [p_laws_b10At_eq]
  refine cnb (P := fun r : Int => 0 ≤ r ∧ (r < n ∨ (n ≤ 1 ∧ r = 0))) (fun hc => ?_) (fun hc => ?_)
  · have := of_decide_eq_true hc; omega
  · have hn := of_decide_eq_false hc
    refine cnb (P := fun r : Int => 0 ≤ r ∧ (r < n ∨ (n ≤ 1 ∧ r = 0))) (fun hc => ?_) (fun hc => ?_)
    · have hb : (l.getD i.toNat 0).toNat < 256 := UInt8.toNat_lt _
      rw [wrap64 ω2 ω2]
      have := tmod_rng ((l.getD i.toNat 0).toNat : Int) n ω2 ω2; omega
    · rw [wrap64 (n := i * 37) ω2 ω2, wrap64 (n := i * 37 + 11) ω2 ω2]
      have := tmod_rng (i * 37 + 11) n ω2 ω2; omega
/-! laws_b10At: function 44 -/
def E_laws_b10At : Env := envOf []
def F_laws_b10At : List Value → AHeap → (Value → AHeap → Prop) → Prop
  | [.slice code_a code_n code_e, .int .i64 i, .int .i64 n], H, K => T_laws_b10At code_a code_n code_e i n H fun (r1 : Int) (H' : AHeap) => K (.int .i64 r1) H'
  | _, _, _ => False
def S_laws_b10At : FSpec := { F := F_laws_b10At, quiet := true, tame := false }
theorem laws_b10At_vc (code_a : Option Addr) (code_n : Nat) (code_e : Nat) (i : Int) (n : Int) (H : AHeap) (K : Value → AHeap → Prop) : bodyL Try.prog E_laws_b10At Try.f44 [.slice code_a code_n code_e, .int .i64 i, .int .i64 n] H K =
  (Br (decide ((n : Int) ≤ 1)) (K (.int .i64 0) H) (Br (decide ((i : Int) < (code_n : Int))) ((0 : Int) ≤ i ∧ i < (code_n : Int) ∧ ∃ b1 f1, (code_a : Option Addr) = some ⟨b1, f1, none⟩ ∧ ∃ x1 : Int,  rdC H b1 (f1 + (i : Int).toNat * 1) = some (.int .u8 x1) ∧ n ≠ (0 : Int) ∧ K (.int .i64 (Int.tmod (IntKind.wrap .i64 x1) n)) H) (n ≠ (0 : Int) ∧ K (.int .i64 (Int.tmod (IntKind.wrap .i64 ((IntKind.wrap .i64 (i * 37)) + 11)) n)) H))) := by kernel_rfl
theorem E_laws_b10At_ok : ∀ g, FnOk Try.prog g (E_laws_b10At g) := FnOk.envOf (by
  intro x hx; cases hx)
theorem ω0 {P : Prop} (h : P := by first | omega | (simp only [List.length_set, List.length_replicate, List.length_append, List.length_cons, List.length_nil, List.length_take, List.length_drop, marks_length]; done) | (simp only [List.length_set, List.length_replicate, List.length_append, List.length_cons, List.length_nil, List.length_take, List.length_drop, marks_length]; omega)) : P := h
theorem ω11 {P : Prop} (h : P := by first | omega | decide | (simp; done) | (simp; omega)) : P := h
set_option maxHeartbeats 1000000 in
theorem laws_b10At_main (code_a : Option Addr) (code_n : Nat) (code_e : Nat) (i : Int) (n : Int) (H : AHeap) (K : Value → AHeap → Prop) (h : T_laws_b10At code_a code_n code_e i n H fun (r1 : Int) (H' : AHeap) => K (.int .i64 r1) H') : bodyL Try.prog E_laws_b10At Try.f44 [.slice code_a code_n code_e, .int .i64 i, .int .i64 n] H K := by
  rw [laws_b10At_vc]
  obtain ⟨l_code, i_code, bd_11, pr0, pr1, hk⟩ := h
  obtain rfl := i_code.eqn
  have e : (p_laws_b10At l_code i n) = _ := rfl
  have e := e.trans (p_laws_b10At_eq l_code i n)
  have g0 := Grow.refl H
  refine Br.intro (fun c_1 => ?_) (fun c_1 => ?_)
  · have e := e.trans (cond_t c_1)
    have c_1' := of_decide_eq_true c_1
    rw [e] at hk
    exact hk
  · have e := e.trans (cond_f c_1)
    have c_1' := of_decide_eq_false c_1
    refine Br.intro (fun c_2 => ?_) (fun c_2 => ?_)
    · have e := e.trans (cond_t c_2)
      have c_2' := of_decide_eq_true c_2
      obtain ⟨b_3, f_4, q_5⟩ := ((i_code.grow g0)).pos ω0
      refine ⟨by omega, by omega, b_3, f_4, q_5, ?_⟩
      refine ⟨((((l_code).getD (i : Int).toNat 0)).toNat : Int), (i_code).rd g0 q_5 ω2 _, ?_⟩
      have z_8 : (((l_code).getD (i : Int).toNat 0)).toNat < 256 := UInt8.toNat_lt _
      refine ⟨ω11, ?_⟩
      have z_6 := tmod_rng (IntKind.wrap .i64 (((((l_code).getD (i : Int).toNat 0)).toNat : Int))) n
      have z_7 := tmod_nn (IntKind.wrap .i64 (((((l_code).getD (i : Int).toNat 0)).toNat : Int))) n
      rw [e] at hk
      exact hk
    · have e := e.trans (cond_f c_2)
      have c_2' := of_decide_eq_false c_2
      refine ⟨ω11, ?_⟩
      have z_9 := tmod_rng (IntKind.wrap .i64 ((IntKind.wrap .i64 (i * 37)) + 11)) n
      have z_10 := tmod_nn (IntKind.wrap .i64 ((IntKind.wrap .i64 (i * 37)) + 11)) n
      rw [e] at hk
      exact hk
theorem laws_b10At_ok : FnOk Try.prog 44 S_laws_b10At := by
  refine FnOk.body mix_ok E_laws_b10At_ok Try.func44 rfl (by kernel_rfl) (by kernel_rfl) ?_ ?_ ?_ ?_ ?_
  · intro args H K K' h hk
    simp only [S_laws_b10At] at *
    unfold F_laws_b10At at *
    split at hk
    · obtain ⟨l_code, i_code, bd_11, pr0, pr1, k⟩ := hk
      exact ⟨l_code, i_code, bd_11, pr0, pr1, h _ _ k⟩
    · exact hk.elim
  · intro _ args H K hk
    simp only [S_laws_b10At] at *
    unfold F_laws_b10At at *
    split at hk
    · obtain ⟨l_code, i_code, bd_11, pr0, pr1, k⟩ := hk
      exact ⟨_, k, fun K' k' => ⟨l_code, i_code, bd_11, pr0, pr1, k'⟩⟩
    · exact hk.elim
  · intro args H K hk
    simp only [S_laws_b10At] at *
    unfold F_laws_b10At at *
    split at hk
    · obtain ⟨l_code, i_code, bd_11, pr0, pr1, k⟩ := hk
      exact ⟨_, _, k⟩
    · exact hk.elim
  · intro hq; cases hq
  · have mm := @laws_b10At_main
    have ml := fun (args : List Value) (H : AHeap) (K : Value → AHeap → Prop) => bodyL_body (P := Try.prog) (env := E_laws_b10At ) (fn := Try.f44) (args := args) (H := H) (K := K) E_laws_b10At_ok 
    revert mm ml
    generalize bodyK Try.prog E_laws_b10At Try.f44 = Q
    generalize bodyL Try.prog E_laws_b10At Try.f44 = QL
    intro mm ml args H K hk
    simp only [S_laws_b10At] at *
    unfold F_laws_b10At at *
    split at hk
    · exact ml _ H K (mm _ _ _ _ _ H K hk)
    · exact hk.elim
def T_spec_l00From (code_a : Option Addr) (code_n : Nat) (code_e : Nat) (H : AHeap) (K : Nat → AHeap → Prop) : Prop := ∀ (b : Nat) (H' : AHeap), b = H.length → H'.length = H.length + 1 → Grow H H' → Own H' b [.slice code_a code_n code_e, .int .i64 0, .int .u64 0] → K b H'
theorem T_spec_l00From_i {code_a : Option Addr} {code_n : Nat} {code_e : Nat} {H : AHeap} {K : Nat → AHeap → Prop} (h : ∀ (b : Nat) (H' : AHeap), b = H.length → H'.length = H.length + 1 → Grow H H' → Own H' b [.slice code_a code_n code_e, .int .i64 0, .int .u64 0] → K b H') : T_spec_l00From code_a code_n code_e H K := h
/-! spec_l00From: function 130 -/
def E_spec_l00From : Env := envOf []
def F_spec_l00From : List Value → AHeap → (Value → AHeap → Prop) → Prop
  | [.slice code_a code_n code_e], H, K => T_spec_l00From code_a code_n code_e H fun (r1 : Nat) (H' : AHeap) => K (.pointer (some ⟨r1, 0, none⟩)) H'
  | _, _, _ => False
def S_spec_l00From : FSpec := { F := F_spec_l00From, quiet := false, tame := false }
theorem spec_l00From_vc (code_a : Option Addr) (code_n : Nat) (code_e : Nat) (H : AHeap) (K : Value → AHeap → Prop) : bodyL Try.prog E_spec_l00From Try.f130 [.slice code_a code_n code_e] H K =
  (Al [.slice code_a code_n code_e, .int .i64 0, .int .u64 0] H fun b1 H1 => K (.pointer (some ⟨b1, 0, none⟩)) H1) := by kernel_rfl
theorem E_spec_l00From_ok : ∀ g, FnOk Try.prog g (E_spec_l00From g) := FnOk.envOf (by
  intro x hx; cases hx)
set_option maxHeartbeats 1000000 in
theorem spec_l00From_main (code_a : Option Addr) (code_n : Nat) (code_e : Nat) (H : AHeap) (K : Value → AHeap → Prop) (h : T_spec_l00From code_a code_n code_e H fun (r1 : Nat) (H' : AHeap) => K (.pointer (some ⟨r1, 0, none⟩)) H') : bodyL Try.prog E_spec_l00From Try.f130 [.slice code_a code_n code_e] H K := by
  rw [spec_l00From_vc]
  exact Al.intro (fun b H' h1 h2 g o => h b H' h1 h2 g o)
theorem spec_l00From_ok : FnOk Try.prog 130 S_spec_l00From := by
  refine FnOk.body mix_ok E_spec_l00From_ok Try.func130 rfl (by kernel_rfl) (by kernel_rfl) ?_ ?_ ?_ ?_ ?_
  · intro args H K K' h hk
    simp only [S_spec_l00From] at *
    unfold F_spec_l00From at *
    split at hk
    · have k := hk
      exact fun b H' e1 e2 gg o => h _ _ (k b H' e1 e2 gg o)
    · exact hk.elim
  · intro hq; cases hq
  · intro args H K hk
    simp only [S_spec_l00From] at *
    unfold F_spec_l00From at *
    split at hk
    · have k := hk
      exact ⟨_, _, k _ (H ++ [some ⟨_, true⟩]) rfl (by simp) (Grow.app _ _) (Own.new _ _)⟩
    · exact hk.elim
  · intro hq; cases hq
  · have mm := @spec_l00From_main
    have ml := fun (args : List Value) (H : AHeap) (K : Value → AHeap → Prop) => bodyL_body (P := Try.prog) (env := E_spec_l00From ) (fn := Try.f130) (args := args) (H := H) (K := K) E_spec_l00From_ok 
    revert mm ml
    generalize bodyK Try.prog E_spec_l00From Try.f130 = Q
    generalize bodyL Try.prog E_spec_l00From Try.f130 = QL
    intro mm ml args H K hk
    simp only [S_spec_l00From] at *
    unfold F_spec_l00From at *
    split at hk
    · exact ml _ H K (mm _ _ _ H K hk)
    · exact hk.elim
def srcSeed (l : List UInt8) (at_ sd : Int) : Int := IntKind.wrap .u64 ((IntKind.wrap .u64 ((IntKind.wrap .u64 (sd * 6364136223846793005)) + (bif decide (at_ < (l.length : Int)) then ((l.getD at_.toNat 0).toNat : Int) else 0))) + 1442695040888963407)
def srcVal (l : List UInt8) (at_ sd : Int) : Int := bif decide (at_ + 1 ≤ (l.length : Int)) then (bif decide (at_ < (l.length : Int)) then ((l.getD at_.toNat 0).toNat : Int) else 0) else ((BitVec.ofInt (IntKind.bits .u64) (Int.fdiv (srcSeed l at_ sd) (2 ^ (min (40 : Int).toNat (IntKind.bits .u64)))) &&& BitVec.ofInt (IntKind.bits .u64) 255).toNat : Int)
def p_spec_l00Src_next (l : List UInt8) (at_ sd : Int) : Int × Int × Int := (srcVal l at_ sd, at_ + 1, srcSeed l at_ sd)
theorem ω7 {P : Prop} (h : P := by decide) : P := h
theorem and255 (x : Int) : ((BitVec.ofInt (IntKind.bits .u64) x &&& BitVec.ofInt (IntKind.bits .u64) 255).toNat : Int) ≤ 255 := by
  have : (BitVec.ofInt (IntKind.bits .u64) x &&& BitVec.ofInt (IntKind.bits .u64) 255).toNat ≤ 255 := by
    rw [BitVec.toNat_and]
    exact Nat.le_trans Nat.and_le_right ω7
  omega
theorem srcVal_rng (l : List UInt8) (at_ sd : Int) : 0 ≤ srcVal l at_ sd ∧ srcVal l at_ sd ≤ 255 := by
  unfold srcVal
  have h1 := and255 (Int.fdiv (srcSeed l at_ sd) (2 ^ (min (40 : Int).toNat (IntKind.bits .u64))))
  have h2 : (l.getD at_.toNat 0).toNat < 256 := UInt8.toNat_lt _
  cases decide (at_ + 1 ≤ (l.length : Int)) <;> cases decide (at_ < (l.length : Int)) <;> simp only [cond_true, cond_false] <;> omega
theorem spec_l00Src_next_rng (l : List UInt8) (at_ sd : Int) : 0 ≤ (p_spec_l00Src_next l at_ sd).1 ∧ (p_spec_l00Src_next l at_ sd).1 ≤ 255 ∧ (p_spec_l00Src_next l at_ sd).2.1 = at_ + 1 := ⟨(srcVal_rng l at_ sd).1, (srcVal_rng l at_ sd).2, rfl⟩
abbrev SrcB (a : Option Addr) (n e : Nat) (at_ sd : Int) : List Value := [.slice a n e, .int .i64 at_, .int .u64 sd]
theorem Own.putB {H : AHeap} {b : Nat} {cs : List Value} (h : Own H b cs) (ds : List Value) : Own (H.set b (some { cells := ds, own := true })) b ds ∧ Keep1 b H (H.set b (some { cells := ds, own := true })) :=
  ⟨by unfold Own; rw [List.getElem?_set]; simp [h.lt], by simp, fun i hi hn => by rw [List.getElem?_set, if_neg (fun e => hn e.symm)]⟩
def T_spec_l00Src_next (s : Nat) (H : AHeap) (K : Int → AHeap → Prop) : Prop := ∃ (H0 : AHeap) (a : Option Addr) (n e : Nat) (l : List UInt8) (at_ sd : Int), Own H s (SrcB a n e at_ sd) ∧ IsL fU H0 a n l ∧ Grow H0 H ∧ H0.length ≤ s ∧ 0 ≤ at_ ∧ at_ < 4611686018427387904 ∧
  (∀ H' : AHeap, Keep1 s H H' → Own H' s (SrcB a n e (p_spec_l00Src_next l at_ sd).2.1 (p_spec_l00Src_next l at_ sd).2.2) → K (p_spec_l00Src_next l at_ sd).1 H')
theorem T_spec_l00Src_next_i {s : Nat} {H : AHeap} {K : Int → AHeap → Prop} (h : ∃ (H0 : AHeap) (a : Option Addr) (n e : Nat) (l : List UInt8) (at_ sd : Int), Own H s (SrcB a n e at_ sd) ∧ IsL fU H0 a n l ∧ Grow H0 H ∧ H0.length ≤ s ∧ 0 ≤ at_ ∧ at_ < 4611686018427387904 ∧
  (∀ H' : AHeap, Keep1 s H H' → Own H' s (SrcB a n e (p_spec_l00Src_next l at_ sd).2.1 (p_spec_l00Src_next l at_ sd).2.2) → K (p_spec_l00Src_next l at_ sd).1 H')) : T_spec_l00Src_next s H K := h
/-! spec_l00Src_next: function 181 -/
def E_spec_l00Src_next : Env := envOf []
def F_spec_l00Src_next : List Value → AHeap → (Value → AHeap → Prop) → Prop
  | [.pointer (some ⟨s, 0, none⟩)], H, K => T_spec_l00Src_next s H fun (r1 : Int) (H' : AHeap) => K (.int .i64 r1) H'
  | _, _, _ => False
def S_spec_l00Src_next : FSpec := { F := F_spec_l00Src_next, quiet := false, tame := false }
theorem spec_l00Src_next_vc (s : Nat) (H : AHeap) (K : Value → AHeap → Prop) : bodyL Try.prog E_spec_l00Src_next Try.f181 [.pointer (some ⟨s, 0, none⟩)] H K =
  (∃ x1 : Int,  rdC H s 1 = some (.int .i64 x1) ∧ ∃ x2_a : Option Addr, ∃ x2_n : Nat, ∃ x2_e : Nat,  rdC H s 0 = some (.slice x2_a x2_n x2_e) ∧ Br (decide ((x1 : Int) < (x2_n : Int))) (∃ x3_a : Option Addr, ∃ x3_n : Nat, ∃ x3_e : Nat,  rdC H s 0 = some (.slice x3_a x3_n x3_e) ∧ ∃ x4 : Int,  rdC H s 1 = some (.int .i64 x4) ∧ (0 : Int) ≤ x4 ∧ x4 < (x3_n : Int) ∧ ∃ b1 f1, (x3_a : Option Addr) = some ⟨b1, f1, none⟩ ∧ ∃ x5 : Int,  rdC H b1 (f1 + (x4 : Int).toNat * 1) = some (.int .u8 x5) ∧ ∃ x6 : Int,  rdC H s 1 = some (.int .i64 x6) ∧ isOwn H s ∧ (∃ l, rdN H s 1 1 = some l) ∧ Lt (setC H s 1 (.int .i64 (IntKind.wrap .i64 (x6 + 1)))) fun H1 => ∃ x7 : Int,  rdC H1 s 2 = some (.int .u64 x7) ∧ isOwn H1 s ∧ (∃ l, rdN H1 s 2 1 = some l) ∧ Lt (setC H1 s 2 (.int .u64 (IntKind.wrap .u64 ((IntKind.wrap .u64 ((IntKind.wrap .u64 (x7 * 6364136223846793005)) + (IntKind.wrap .u64 (IntKind.wrap .i64 x5)))) + 1442695040888963407)))) fun H2 => ∃ x8 : Int,  rdC H2 s 1 = some (.int .i64 x8) ∧ ∃ x9_a : Option Addr, ∃ x9_n : Nat, ∃ x9_e : Nat,  rdC H2 s 0 = some (.slice x9_a x9_n x9_e) ∧ Br (decide ((x8 : Int) ≤ (x9_n : Int))) (K (.int .i64 (IntKind.wrap .i64 x5)) H2) (∃ x10 : Int,  rdC H2 s 2 = some (.int .u64 x10) ∧ (0 : Int) ≤ 40 ∧ K (.int .i64 (IntKind.wrap .i64 (IntKind.wrap .u64 (((BitVec.ofInt (IntKind.bits .u64) (Int.fdiv x10 (2 ^ (min (40 : Int).toNat (IntKind.bits .u64)))) &&& BitVec.ofInt (IntKind.bits .u64) 255).toNat : Int))))) H2)) (∃ x11 : Int,  rdC H s 1 = some (.int .i64 x11) ∧ isOwn H s ∧ (∃ l, rdN H s 1 1 = some l) ∧ Lt (setC H s 1 (.int .i64 (IntKind.wrap .i64 (x11 + 1)))) fun H3 => ∃ x12 : Int,  rdC H3 s 2 = some (.int .u64 x12) ∧ isOwn H3 s ∧ (∃ l, rdN H3 s 2 1 = some l) ∧ Lt (setC H3 s 2 (.int .u64 (IntKind.wrap .u64 ((IntKind.wrap .u64 ((IntKind.wrap .u64 (x12 * 6364136223846793005)) + (IntKind.wrap .u64 0))) + 1442695040888963407)))) fun H4 => ∃ x13 : Int,  rdC H4 s 1 = some (.int .i64 x13) ∧ ∃ x14_a : Option Addr, ∃ x14_n : Nat, ∃ x14_e : Nat,  rdC H4 s 0 = some (.slice x14_a x14_n x14_e) ∧ Br (decide ((x13 : Int) ≤ (x14_n : Int))) (K (.int .i64 0) H4) (∃ x15 : Int,  rdC H4 s 2 = some (.int .u64 x15) ∧ (0 : Int) ≤ 40 ∧ K (.int .i64 (IntKind.wrap .i64 (IntKind.wrap .u64 (((BitVec.ofInt (IntKind.bits .u64) (Int.fdiv x15 (2 ^ (min (40 : Int).toNat (IntKind.bits .u64)))) &&& BitVec.ofInt (IntKind.bits .u64) 255).toNat : Int))))) H4))) := by kernel_rfl
theorem E_spec_l00Src_next_ok : ∀ g, FnOk Try.prog g (E_spec_l00Src_next g) := FnOk.envOf (by
  intro x hx; cases hx)
set_option maxHeartbeats 1000000 in
theorem spec_l00Src_next_main (s : Nat) (H : AHeap) (K : Value → AHeap → Prop) (h : T_spec_l00Src_next s H fun (r1 : Int) (H' : AHeap) => K (.int .i64 r1) H') : bodyL Try.prog E_spec_l00Src_next Try.f181 [.pointer (some ⟨s, 0, none⟩)] H K := by
  rw [spec_l00Src_next_vc]
  obtain ⟨H0, a, n, e, l, at_, sd, o, il, g, hb, h0, h1, hk⟩ := h
  have hn := il.len
  refine ⟨at_, (o.rdC 1).trans rfl, a, n, e, (o.rdC 0).trans rfl, ?_⟩
  refine Br.intro (fun hc => ?_) (fun hc => ?_)
  · have hc' := of_decide_eq_true hc
    refine ⟨a, n, e, (o.rdC 0).trans rfl, at_, (o.rdC 1).trans rfl, h0, hc', ?_⟩
    obtain ⟨b1, f1, ea, hcell⟩ := il.cell ω2
    have hx : l[at_.toNat]? = some (l.getD at_.toNat 0) := by rw [List.getD_eq_getElem?_getD, List.getElem?_eq_getElem ω2]; rfl
    have hby : (l.getD at_.toNat 0).toNat < 256 := UInt8.toNat_lt _
    refine ⟨b1, f1, ea, ((l.getD at_.toNat 0).toNat : Int), grow_rdC g (hcell _ _ hx), at_, (o.rdC 1).trans rfl, o.isOwn, ⟨_, o.rdN (Nat.le_of_ble_eq_true rfl)⟩, ?_⟩
    rw [wrap64 (n := at_ + 1) ω2 ω2, wrap64 (n := ((l.getD at_.toNat 0).toNat : Int)) ω2 ω2, wrapu_id (n := ((l.getD at_.toNat 0).toNat : Int)) ω2 ω2]
    unfold Lt
    have o1 := o.setC_own 1 (.int .i64 (at_ + 1))
    refine ⟨sd, (o1.rdC 2).trans rfl, o1.isOwn, ⟨_, o1.rdN (Nat.le_of_ble_eq_true rfl)⟩, ?_⟩
    have o2 := o1.setC_own 2 (.int .u64 (IntKind.wrap .u64 ((IntKind.wrap .u64 ((IntKind.wrap .u64 (sd * 6364136223846793005)) + ((l.getD at_.toNat 0).toNat : Int))) + 1442695040888963407)))
    have es : srcSeed l at_ sd = IntKind.wrap .u64 ((IntKind.wrap .u64 ((IntKind.wrap .u64 (sd * 6364136223846793005)) + ((l.getD at_.toNat 0).toNat : Int))) + 1442695040888963407) := by
      unfold srcSeed; rw [decide_eq_true (show at_ < (l.length : Int) by omega), cond_true]
    rw [← es] at o2 ⊢
    have ev : srcVal l at_ sd = ((l.getD at_.toNat 0).toNat : Int) := by
      unfold srcVal; rw [decide_eq_true (show at_ + 1 ≤ (l.length : Int) by omega), cond_true, decide_eq_true (show at_ < (l.length : Int) by omega), cond_true]
    have kk : Keep1 s H (setC (setC H s 1 (.int .i64 (at_ + 1))) s 2 (.int .u64 (srcSeed l at_ sd))) := ⟨by rw [setC_length, setC_length]; exact Nat.le_refl _, fun i hi hne => by rw [setC_other hne, setC_other hne]⟩
    have fin := hk _ kk o2
    refine ⟨at_ + 1, (o2.rdC 1).trans rfl, a, n, e, (o2.rdC 0).trans rfl, ?_⟩
    rw [decide_eq_true (show at_ + 1 ≤ (n : Int) by omega)]
    rw [show (p_spec_l00Src_next l at_ sd).1 = srcVal l at_ sd from rfl, ev] at fin
    exact fin
  · have hc' := of_decide_eq_false hc
    refine ⟨at_, (o.rdC 1).trans rfl, o.isOwn, ⟨_, o.rdN (Nat.le_of_ble_eq_true rfl)⟩, ?_⟩
    rw [wrap64 (n := at_ + 1) ω2 ω2, wrapu_id (n := 0) ω2 ω2]
    unfold Lt
    have o1 := o.setC_own 1 (.int .i64 (at_ + 1))
    refine ⟨sd, (o1.rdC 2).trans rfl, o1.isOwn, ⟨_, o1.rdN (Nat.le_of_ble_eq_true rfl)⟩, ?_⟩
    have o2 := o1.setC_own 2 (.int .u64 (IntKind.wrap .u64 ((IntKind.wrap .u64 ((IntKind.wrap .u64 (sd * 6364136223846793005)) + 0)) + 1442695040888963407)))
    have es : srcSeed l at_ sd = IntKind.wrap .u64 ((IntKind.wrap .u64 ((IntKind.wrap .u64 (sd * 6364136223846793005)) + 0)) + 1442695040888963407) := by
      unfold srcSeed; rw [decide_eq_false (show ¬ at_ < (l.length : Int) by omega), cond_false]
    rw [← es] at o2 ⊢
    have ev : srcVal l at_ sd = ((BitVec.ofInt (IntKind.bits .u64) (Int.fdiv (srcSeed l at_ sd) (2 ^ (min (40 : Int).toNat (IntKind.bits .u64)))) &&& BitVec.ofInt (IntKind.bits .u64) 255).toNat : Int) := by
      unfold srcVal; rw [decide_eq_false (show ¬ at_ + 1 ≤ (l.length : Int) by omega), cond_false]
    have kk : Keep1 s H (setC (setC H s 1 (.int .i64 (at_ + 1))) s 2 (.int .u64 (srcSeed l at_ sd))) := ⟨by rw [setC_length, setC_length]; exact Nat.le_refl _, fun i hi hne => by rw [setC_other hne, setC_other hne]⟩
    have fin := hk _ kk o2
    have hr := srcVal_rng l at_ sd
    refine ⟨at_ + 1, (o2.rdC 1).trans rfl, a, n, e, (o2.rdC 0).trans rfl, ?_⟩
    rw [decide_eq_false (show ¬ at_ + 1 ≤ (n : Int) by omega)]
    refine ⟨srcSeed l at_ sd, (o2.rdC 2).trans rfl, by decide, ?_⟩
    rw [show (p_spec_l00Src_next l at_ sd).1 = srcVal l at_ sd from rfl, ev] at fin
    rw [ev] at hr
    rw [wrapu_id (n := ((BitVec.ofInt (IntKind.bits .u64) (Int.fdiv (srcSeed l at_ sd) (2 ^ (min (40 : Int).toNat (IntKind.bits .u64)))) &&& BitVec.ofInt (IntKind.bits .u64) 255).toNat : Int)) ω2 ω2, wrap64 (n := ((BitVec.ofInt (IntKind.bits .u64) (Int.fdiv (srcSeed l at_ sd) (2 ^ (min (40 : Int).toNat (IntKind.bits .u64)))) &&& BitVec.ofInt (IntKind.bits .u64) 255).toNat : Int)) ω2 ω2]
    exact fin
theorem spec_l00Src_next_ok : FnOk Try.prog 181 S_spec_l00Src_next := by
  refine FnOk.body mix_ok E_spec_l00Src_next_ok Try.func181 rfl (by kernel_rfl) (by kernel_rfl) ?_ ?_ ?_ ?_ ?_
  · intro args H K K' h hk
    simp only [S_spec_l00Src_next] at *
    unfold F_spec_l00Src_next at *
    split at hk
    · obtain ⟨H0, a, n, e, l, at_, sd, o, il, g, hb, h0, h1, k⟩ := hk
      exact ⟨H0, a, n, e, l, at_, sd, o, il, g, hb, h0, h1, (fun H' k1 o1 => h _ _ (k H' k1 o1))⟩
    · exact hk.elim
  · intro hq; cases hq
  · intro args H K hk
    simp only [S_spec_l00Src_next] at *
    unfold F_spec_l00Src_next at *
    split at hk
    · obtain ⟨H0, a, n, e, l, at_, sd, o, il, g, hb, h0, h1, k⟩ := hk
      exact ⟨_, _, k _ (Own.putB o _).2 (Own.putB o _).1⟩
    · exact hk.elim
  · intro hq; cases hq
  · have mm := @spec_l00Src_next_main
    have ml := fun (args : List Value) (H : AHeap) (K : Value → AHeap → Prop) => bodyL_body (P := Try.prog) (env := E_spec_l00Src_next ) (fn := Try.f181) (args := args) (H := H) (K := K) E_spec_l00Src_next_ok 
    revert mm ml
    generalize bodyK Try.prog E_spec_l00Src_next Try.f181 = Q
    generalize bodyL Try.prog E_spec_l00Src_next Try.f181 = QL
    intro mm ml args H K hk
    simp only [S_spec_l00Src_next] at *
    unfold F_spec_l00Src_next at *
    split at hk
    · exact ml _ H K (mm _ H K hk)
    · exact hk.elim
def p_spec_l00Src_pick (l : List UInt8) (at_ sd n : Int) : Int × Int × Int :=
  bif decide (n ≤ 1) then (0, at_, sd) else bif decide ((200 : Int) < n) then
    (Int.tmod ((p_spec_l00Src_next l at_ sd).1 * 256 + (p_spec_l00Src_next l (p_spec_l00Src_next l at_ sd).2.1 (p_spec_l00Src_next l at_ sd).2.2).1) n, (p_spec_l00Src_next l (p_spec_l00Src_next l at_ sd).2.1 (p_spec_l00Src_next l at_ sd).2.2).2)
  else (Int.tmod (p_spec_l00Src_next l at_ sd).1 n, (p_spec_l00Src_next l at_ sd).2)
theorem spec_l00Src_pick_rng (l : List UInt8) (at_ sd n : Int) : 0 ≤ (p_spec_l00Src_pick l at_ sd n).1 ∧ ((p_spec_l00Src_pick l at_ sd n).1 < n ∨ (n ≤ 1 ∧ (p_spec_l00Src_pick l at_ sd n).1 = 0)) ∧ at_ ≤ (p_spec_l00Src_pick l at_ sd n).2.1 ∧ (p_spec_l00Src_pick l at_ sd n).2.1 ≤ at_ + 2 := by
  unfold p_spec_l00Src_pick
  by_cases h : n ≤ 1
  · rw [decide_eq_true h, cond_true]
    refine ⟨Int.le_refl 0, .inr ⟨h, rfl⟩, Int.le_refl _, ?_⟩
    show at_ ≤ at_ + 2
    omega
  · rw [decide_eq_false h, cond_false]
    have q := spec_l00Src_next_rng l at_ sd
    by_cases h2 : (200 : Int) < n
    · rw [decide_eq_true h2, cond_true]
      have q2 := spec_l00Src_next_rng l (p_spec_l00Src_next l at_ sd).2.1 (p_spec_l00Src_next l at_ sd).2.2
      have m := tmod_rng ((p_spec_l00Src_next l at_ sd).1 * 256 + (p_spec_l00Src_next l (p_spec_l00Src_next l at_ sd).2.1 (p_spec_l00Src_next l at_ sd).2.2).1) n ω2 ω2
      exact ⟨m.1, .inl m.2, by show at_ ≤ (p_spec_l00Src_next l _ _).2.1; omega, by show (p_spec_l00Src_next l _ _).2.1 ≤ _; omega⟩
    · rw [decide_eq_false h2, cond_false]
      have m := tmod_rng (p_spec_l00Src_next l at_ sd).1 n ω2 ω2
      exact ⟨m.1, .inl m.2, by show at_ ≤ (p_spec_l00Src_next l _ _).2.1; omega, by show (p_spec_l00Src_next l _ _).2.1 ≤ _; omega⟩
def T_spec_l00Src_pick (s : Nat) (n : Int) (H : AHeap) (K : Int → AHeap → Prop) : Prop := ∃ (H0 : AHeap) (a : Option Addr) (m e : Nat) (l : List UInt8) (at_ sd : Int), Own H s (SrcB a m e at_ sd) ∧ IsL fU H0 a m l ∧ Grow H0 H ∧ H0.length ≤ s ∧ 0 ≤ at_ ∧ at_ < 4611686018427387900 ∧
  (∀ H' : AHeap, Keep1 s H H' → Own H' s (SrcB a m e (p_spec_l00Src_pick l at_ sd n).2.1 (p_spec_l00Src_pick l at_ sd n).2.2) → K (p_spec_l00Src_pick l at_ sd n).1 H')
theorem T_spec_l00Src_pick_i {s : Nat} {n : Int} {H : AHeap} {K : Int → AHeap → Prop} (h : ∃ (H0 : AHeap) (a : Option Addr) (m e : Nat) (l : List UInt8) (at_ sd : Int), Own H s (SrcB a m e at_ sd) ∧ IsL fU H0 a m l ∧ Grow H0 H ∧ H0.length ≤ s ∧ 0 ≤ at_ ∧ at_ < 4611686018427387900 ∧
  (∀ H' : AHeap, Keep1 s H H' → Own H' s (SrcB a m e (p_spec_l00Src_pick l at_ sd n).2.1 (p_spec_l00Src_pick l at_ sd n).2.2) → K (p_spec_l00Src_pick l at_ sd n).1 H')) : T_spec_l00Src_pick s n H K := h
/-! spec_l00Src_pick: function 131 -/
def E_spec_l00Src_pick : Env := envOf [(181, S_spec_l00Src_next)]
def F_spec_l00Src_pick : List Value → AHeap → (Value → AHeap → Prop) → Prop
  | [.pointer (some ⟨s, 0, none⟩), .int .i64 n], H, K => T_spec_l00Src_pick s n H fun (r1 : Int) (H' : AHeap) => K (.int .i64 r1) H'
  | _, _, _ => False
def S_spec_l00Src_pick : FSpec := { F := F_spec_l00Src_pick, quiet := false, tame := false }
theorem spec_l00Src_pick_vc (s : Nat) (n : Int) (H : AHeap) (K : Value → AHeap → Prop) : bodyL Try.prog E_spec_l00Src_pick Try.f131 [.pointer (some ⟨s, 0, none⟩), .int .i64 n] H K =
  (Br (decide ((n : Int) ≤ 1)) (K (.int .i64 0) H) (T_spec_l00Src_next s H fun (r1 : Int) (H1 : AHeap) => Br (decide ((200 : Int) < n)) (T_spec_l00Src_next s H1 fun (r2 : Int) (H2 : AHeap) => n ≠ (0 : Int) ∧ K (.int .i64 (Int.tmod (IntKind.wrap .i64 ((IntKind.wrap .i64 (r1 * 256)) + r2)) n)) H2) (n ≠ (0 : Int) ∧ K (.int .i64 (Int.tmod r1 n)) H1))) := by kernel_rfl
theorem E_spec_l00Src_pick_ok : ∀ g, FnOk Try.prog g (E_spec_l00Src_pick g) := FnOk.envOf (by
  intro x hx
  simp only [List.mem_cons, List.not_mem_nil, or_false] at hx
  subst hx; exact spec_l00Src_next_ok)
set_option maxHeartbeats 1000000 in
theorem spec_l00Src_pick_main (s : Nat) (n : Int) (H : AHeap) (K : Value → AHeap → Prop) (h : T_spec_l00Src_pick s n H fun (r1 : Int) (H' : AHeap) => K (.int .i64 r1) H') : bodyL Try.prog E_spec_l00Src_pick Try.f131 [.pointer (some ⟨s, 0, none⟩), .int .i64 n] H K := by
  rw [spec_l00Src_pick_vc]
  obtain ⟨H0, a, m, e, l, at_, sd, o, il, g, hb, h0, h1, hk⟩ := h
  unfold p_spec_l00Src_pick at hk
  refine Br.intro (fun hc => ?_) (fun hc => ?_)
  · rw [hc] at hk
    exact hk H ⟨Nat.le_refl _, fun _ _ _ => rfl⟩ o
  · rw [hc] at hk
    have hn := of_decide_eq_false hc
    have q := spec_l00Src_next_rng l at_ sd
    refine T_spec_l00Src_next_i ⟨H0, a, m, e, l, at_, sd, o, il, g, hb, h0, by omega, fun H1 k1 o1 => ?_⟩
    refine Br.intro (fun hc2 => ?_) (fun hc2 => ?_)
    · rw [hc2] at hk
      have q2 := spec_l00Src_next_rng l (p_spec_l00Src_next l at_ sd).2.1 (p_spec_l00Src_next l at_ sd).2.2
      refine T_spec_l00Src_next_i ⟨H0, a, m, e, l, _, _, o1, il, g.keep hb k1, hb, by omega, by omega, fun H2 k2 o2 => ⟨by omega, ?_⟩⟩
      have fin := hk H2 ⟨Nat.le_trans k1.1 k2.1, fun i hi hne => (k2.2 i (Nat.lt_of_lt_of_le hi k1.1) hne).trans (k1.2 i hi hne)⟩ o2
      rw [wrap64 (n := (p_spec_l00Src_next l at_ sd).1 * 256) ω2 ω2, wrap64 (n := (p_spec_l00Src_next l at_ sd).1 * 256 + _) ω2 ω2]
      exact fin
    · rw [hc2] at hk
      exact ⟨by omega, hk H1 k1 o1⟩
theorem spec_l00Src_pick_ok : FnOk Try.prog 131 S_spec_l00Src_pick := by
  refine FnOk.body mix_ok E_spec_l00Src_pick_ok Try.func131 rfl (by kernel_rfl) (by kernel_rfl) ?_ ?_ ?_ ?_ ?_
  · intro args H K K' h hk
    simp only [S_spec_l00Src_pick] at *
    unfold F_spec_l00Src_pick at *
    split at hk
    · obtain ⟨H0, a, n, e, l, at_, sd, o, il, g, hb, h0, h1, k⟩ := hk
      exact ⟨H0, a, n, e, l, at_, sd, o, il, g, hb, h0, h1, (fun H' k1 o1 => h _ _ (k H' k1 o1))⟩
    · exact hk.elim
  · intro hq; cases hq
  · intro args H K hk
    simp only [S_spec_l00Src_pick] at *
    unfold F_spec_l00Src_pick at *
    split at hk
    · obtain ⟨H0, a, n, e, l, at_, sd, o, il, g, hb, h0, h1, k⟩ := hk
      exact ⟨_, _, k _ (Own.putB o _).2 (Own.putB o _).1⟩
    · exact hk.elim
  · intro hq; cases hq
  · have mm := @spec_l00Src_pick_main
    have ml := fun (args : List Value) (H : AHeap) (K : Value → AHeap → Prop) => bodyL_body (P := Try.prog) (env := E_spec_l00Src_pick ) (fn := Try.f131) (args := args) (H := H) (K := K) E_spec_l00Src_pick_ok 
    revert mm ml
    generalize bodyK Try.prog E_spec_l00Src_pick Try.f131 = Q
    generalize bodyL Try.prog E_spec_l00Src_pick Try.f131 = QL
    intro mm ml args H K hk
    simp only [S_spec_l00Src_pick] at *
    unfold F_spec_l00Src_pick at *
    split at hk
    · exact ml _ H K (mm _ _ H K hk)
    · exact hk.elim

def p_spec_B10Signal_l1 (l_code : List UInt8) (n : Int) : Nat → Int → (List Nat) → Int → Int → (List Nat)
  | 0, _, _, _, _ => []
  | μ + 1, n_1, l_vout, q1_2, q1_3 => (bif decide ((0 : Int) < n_1) then (p_spec_B10Signal_l1 l_code n μ (n_1 - 1) ((l_vout ++ [(fdiv .f32 (FloatKind.nearest .f32 (IntKind.wrap .i64 (((p_spec_l00Src_pick l_code q1_2 q1_3 (65 : Int)).1) - 32))) 1082130432)])) ((p_spec_l00Src_pick l_code q1_2 q1_3 (65 : Int)).2.1) ((p_spec_l00Src_pick l_code q1_2 q1_3 (65 : Int)).2.2)) else l_vout)
def p_spec_B10Signal_l1_s := fun l_code n μ n_1 l_vout q1_2 q1_3 => @p_spec_B10Signal_l1.eq_2 l_code n n_1 l_vout q1_2 q1_3 μ
def p_spec_B10Signal (l_code : List UInt8) (n : Int) : (List Nat) := (p_spec_B10Signal_l1 l_code n (Int.toNat (n - 0) + 1) n ([] : List Nat) (0 : Int) (0 : Int))
def p_spec_B10Signal_eq := @p_spec_B10Signal.eq_1
def T_spec_B10Signal (code_a : Option Addr) (code_n : Nat) (code_e : Nat) (n : Int) (H : AHeap) (K : (Option Addr) → Nat → Nat → AHeap → Prop) : Prop := ∃ (l_code : List UInt8), IsL fU H code_a code_n l_code ∧ l_code.length < 1073741824 ∧ n ≤ 1073741824 ∧ ((∀ (r1_a : Option Addr) (r1_n r1_e : Nat), ∀ H' : AHeap, Grow H H' → OwnS fF H' H.length r1_a r1_n r1_e (p_spec_B10Signal l_code n) → K r1_a r1_n r1_e H'))
theorem T_spec_B10Signal_i {code_a : Option Addr} {code_n : Nat} {code_e : Nat} {n : Int} {H : AHeap} {K : (Option Addr) → Nat → Nat → AHeap → Prop} (h : ∃ (l_code : List UInt8), IsL fU H code_a code_n l_code ∧ l_code.length < 1073741824 ∧ n ≤ 1073741824 ∧ ((∀ (r1_a : Option Addr) (r1_n r1_e : Nat), ∀ H' : AHeap, Grow H H' → OwnS fF H' H.length r1_a r1_n r1_e (p_spec_B10Signal l_code n) → K r1_a r1_n r1_e H'))) : T_spec_B10Signal code_a code_n code_e n H K := h
def Qt (y : Nat) : Prop := ∃ k : Nat, k < 65 ∧ y = fdiv .f32 (FloatKind.nearest .f32 ((k : Int) - 32)) 1082130432
theorem spec_B10Signal_go (l : List UInt8) (n : Int) : ∀ (μ : Nat) (m : Int) (o : List Nat) (a b : Int), m.toNat < μ → (∀ y ∈ o, Qt y) →
    (p_spec_B10Signal_l1 l n μ m o a b).length = o.length + m.toNat ∧ ∀ y ∈ p_spec_B10Signal_l1 l n μ m o a b, Qt y := by
  intro μ
  induction μ with
  | zero => intro m o a b h; omega
  | succ μ ih =>
    intro m o a b h ho
    rw [p_spec_B10Signal_l1_s]
    by_cases hm : (0 : Int) < m
    · rw [decide_eq_true hm, cond_true]
      have q := spec_l00Src_pick_rng l a b 65
      obtain ⟨k, hk⟩ : ∃ k : Nat, (p_spec_l00Src_pick l a b 65).1 = k := ⟨(p_spec_l00Src_pick l a b 65).1.toNat, by omega⟩
      have r := ih (m - 1) (o ++ [fdiv .f32 (FloatKind.nearest .f32 (IntKind.wrap .i64 ((p_spec_l00Src_pick l a b 65).1 - 32))) 1082130432]) (p_spec_l00Src_pick l a b 65).2.1 (p_spec_l00Src_pick l a b 65).2.2 ω2 (fun y hy => by
        rcases List.mem_append.1 hy with hy | hy
        · exact ho y hy
        · rw [List.mem_singleton.1 hy, hk, wrap64 ω2 ω2]; exact ⟨k, by omega, rfl⟩)
      refine ⟨?_, r.2⟩
      rw [r.1, List.length_append, List.length_singleton]; omega
    · rw [decide_eq_false hm, cond_false]
      exact ⟨by omega, ho⟩
theorem spec_B10Signal_all (l : List UInt8) (n : Int) : (p_spec_B10Signal l n).length = n.toNat ∧ ∀ y ∈ p_spec_B10Signal l n, Qt y := by
  rw [p_spec_B10Signal_eq]
  have := spec_B10Signal_go l n (Int.toNat (n - 0) + 1) n [] 0 0 ω2 (by simp)
  simpa using this
theorem spec_B10Signal_len (l : List UInt8) (n : Int) : (p_spec_B10Signal l n).length = n.toNat := (spec_B10Signal_all l n).1
/-! spec_B10Signal: function 45 -/
def E_spec_B10Signal : Env := envOf [(130, S_spec_l00From), (131, S_spec_l00Src_pick)]
def F_spec_B10Signal : List Value → AHeap → (Value → AHeap → Prop) → Prop
  | [.slice code_a code_n code_e, .int .i64 n], H, K => T_spec_B10Signal code_a code_n code_e n H fun (r1_a : Option Addr) (r1_n : Nat) (r1_e : Nat) (H' : AHeap) => K (.slice r1_a r1_n r1_e) H'
  | _, _, _ => False
def S_spec_B10Signal : FSpec := { F := F_spec_B10Signal, quiet := false, tame := true }
theorem spec_B10Signal_vc (code_a : Option Addr) (code_n : Nat) (code_e : Nat) (n : Int) (H : AHeap) (K : Value → AHeap → Prop) : bodyL Try.prog E_spec_B10Signal Try.f45 [.slice code_a code_n code_e, .int .i64 n] H K =
  (T_spec_l00From code_a code_n code_e H fun (r1 : Nat) (H1 : AHeap) => Al [] H1 fun b1 H2 => loopK (exL Try.prog E_spec_B10Signal (cl (cl (cl (cr (cr (cr (bodyC Try.f45))))))) 98 16 [(0, 64)]) [ud, .int .i64 n, ud, ud, ud, .pointer (some ⟨r1, 0, none⟩), .slice (some ⟨b1, 0, none⟩) 0 1, ud, ud, ud, ud, ud, ud, ud, ud, ud, ud, ud, ud, ud, ud, ud, ud] H2 (blockQ 0 (seqQ (exL Try.prog E_spec_B10Signal (cr (cr (cr (cr (bodyC Try.f45))))) 16 16 []) (retK Try.prog Try.f45 K)))) := by kernel_rfl
abbrev spec_B10Signal_P1 (r1 : Nat) (n_1 : Int) (vout_a : Option Addr) (vout_n : Nat) (vout_e : Nat)  : List Value := [ud, .int .i64 n_1, ud, ud, ud, .pointer (some ⟨r1, 0, none⟩), .slice vout_a vout_n vout_e, ud, ud, ud, ud, ud, ud, ud, ud, ud, ud, ud, ud, ud, ud, ud, ud]
theorem spec_B10Signal_r1 (r1 : Nat) (n_1 : Int) (vout_a : Option Addr) (vout_n : Nat) (vout_e : Nat)  (H : AHeap) (R : Post) : exL Try.prog E_spec_B10Signal (cl (cl (cl (cr (cr (cr (bodyC Try.f45))))))) 98 16 [(0, 64)] (spec_B10Signal_P1 r1 n_1 vout_a vout_n vout_e) H R =
  (Br (decide ((0 : Int) < n_1)) (T_spec_l00Src_pick r1 65 H fun (r2 : Int) (H3 : AHeap) => Al [.float .f32 (fdiv .f32 (FloatKind.nearest .f32 (IntKind.wrap .i64 (r2 - 32))) 1082130432)] H3 fun b2 H4 => ∃ o1 w1 : List Value, ownB H4 vout_a vout_n vout_e 1 = some o1 ∧ rdS H4 (some ⟨b2, 0, none⟩) (1 * 1) = some w1 ∧ ((vout_a : Option Addr) = none → 0 < (1 : Nat)) ∧ (vout_n : Nat) + 1 < most ∧ Ap H4 (killB H4 vout_a ++ [some ⟨o1 ++ w1, true⟩]) fun b3 H5 => R .normal [ud, .int .i64 (IntKind.wrap .i64 (n_1 - 1)), ud, ud, ud, .pointer (some ⟨r1, 0, none⟩), .slice (some ⟨b3, 0, none⟩) (vout_n + 1) 1, ud, ud, ud, ud, ud, ud, ud, ud, ud, ud, ud, ud, ud, ud, ud, ud] H5) (R (.exit 0) [ud, ud, ud, ud, ud, ud, .slice vout_a vout_n vout_e, ud, ud, ud, ud, ud, ud, ud, ud, ud, ud, ud, ud, ud, ud, ud, ud] H)) := by kernel_rfl
def spec_B10Signal_I1 (r1 : Nat) (Inv : Nat → Int → (Option Addr) → Nat → Nat → AHeap → Prop) : Nat → List Value → AHeap → Prop := fun μ tm H => ∃ (n_1 : Int), ∃ (vout_a : Option Addr), ∃ (vout_n : Nat), ∃ (vout_e : Nat), tm = (spec_B10Signal_P1 r1 n_1 vout_a vout_n vout_e) ∧ Inv μ n_1 vout_a vout_n vout_e H
theorem spec_B10Signal_L1 (r1 : Nat) {Q : Post} (Inv : Nat → Int → (Option Addr) → Nat → Nat → AHeap → Prop) (ν : Nat) (n_1 : Int) (vout_a : Option Addr) (vout_n : Nat) (vout_e : Nat)  (H : AHeap) (h0 : Inv ν n_1 vout_a vout_n vout_e H)
    (hs : ∀ (μ : Nat) (n_1 : Int) (vout_a : Option Addr) (vout_n : Nat) (vout_e : Nat)  (H : AHeap), Inv μ n_1 vout_a vout_n vout_e H → exL Try.prog E_spec_B10Signal (cl (cl (cl (cr (cr (cr (bodyC Try.f45))))))) 98 16 [(0, 64)] (spec_B10Signal_P1 r1 n_1 vout_a vout_n vout_e) H (loopQ (spec_B10Signal_I1 r1 Inv) μ Q)) : loopK (exL Try.prog E_spec_B10Signal (cl (cl (cl (cr (cr (cr (bodyC Try.f45))))))) 98 16 [(0, 64)]) (spec_B10Signal_P1 r1 n_1 vout_a vout_n vout_e) H Q :=
  ⟨spec_B10Signal_I1 r1 Inv, ν, ⟨n_1, vout_a, vout_n, vout_e, rfl, h0⟩, fun μ tm H h => by obtain ⟨n_1, vout_a, vout_n, vout_e, rfl, hI⟩ := h; exact hs μ n_1 vout_a vout_n vout_e  H hI⟩
theorem spec_B10Signal_n1 {r1 : Nat} {Q : Post} {Inv : Nat → Int → (Option Addr) → Nat → Nat → AHeap → Prop} {μ : Nat} (μ' : Nat) {n_1 : Int} {vout_a : Option Addr} {vout_n : Nat} {vout_e : Nat}  {H : AHeap} (hm : μ' < μ) (hI : Inv μ' n_1 vout_a vout_n vout_e H) : loopQ (spec_B10Signal_I1 r1 Inv) μ Q .normal (spec_B10Signal_P1 r1 n_1 vout_a vout_n vout_e) H := ⟨μ', hm, n_1, vout_a, vout_n, vout_e, rfl, hI⟩
theorem spec_B10Signal_x1_0 (vout_a : Option Addr) (vout_n : Nat) (vout_e : Nat) (H : AHeap) (K : Value → AHeap → Prop)  {I : Nat → List Value → AHeap → Prop} {μ : Nat} : loopQ I μ (blockQ 0 (seqQ (exL Try.prog E_spec_B10Signal (cr (cr (cr (cr (bodyC Try.f45))))) 16 16 []) (retK Try.prog Try.f45 K))) (.exit 0) [ud, ud, ud, ud, ud, ud, .slice vout_a vout_n vout_e, ud, ud, ud, ud, ud, ud, ud, ud, ud, ud, ud, ud, ud, ud, ud, ud] H =
  (K (.slice vout_a vout_n vout_e) H) := by kernel_rfl
theorem E_spec_B10Signal_ok : ∀ g, FnOk Try.prog g (E_spec_B10Signal g) := FnOk.envOf (by
  intro x hx
  simp only [List.mem_cons, List.not_mem_nil, or_false] at hx
  rcases hx with rfl | rfl
  · exact spec_l00From_ok
  · exact spec_l00Src_pick_ok)
theorem ω3 {P : Prop} (h : P := by first | rfl | omega | (simp only [List.length_set]; done) | (simp only [List.length_set, List.length_replicate]; omega)) : P := h
theorem ω5 {P : Prop} (h : P := by first | omega | (simp; done) | (simp; omega)) : P := h
theorem ω4 {P : Prop} (h : P := by first | (simp only [List.length_map, List.length_cons, List.length_nil, List.length_append]; done) | (simp only [List.length_map, List.length_cons, List.length_nil, List.length_append]; omega) | (simp only [List.length_map, List.length_cons, List.length_nil, List.length_append, List.length_take, List.length_drop]; omega)) : P := h
theorem ω12 {P : Prop} (h : P := by have := most_eq; omega) : P := h
theorem ω9 {P : Prop} (h : P := by first | omega) : P := h
theorem ω6 {P : Prop} (h : P := by first | omega | (simp only [List.length_append, List.length_cons, List.length_nil]; done) | (simp only [List.length_append, List.length_cons, List.length_nil]; omega) | (simp only [List.length_append, List.length_cons, List.length_nil, List.length_take, List.length_drop]; omega)) : P := h
theorem ω1 {P : Prop} (h : P := by first | omega | (simp only [List.length_append, List.length_cons, List.length_nil, List.length_set]; done) | (simp only [List.length_append, List.length_cons, List.length_nil, List.length_set]; omega)) : P := h
set_option maxHeartbeats 1000000 in
theorem spec_B10Signal_main (code_a : Option Addr) (code_n : Nat) (code_e : Nat) (n : Int) (H : AHeap) (K : Value → AHeap → Prop) (h : T_spec_B10Signal code_a code_n code_e n H fun (r1_a : Option Addr) (r1_n : Nat) (r1_e : Nat) (H' : AHeap) => K (.slice r1_a r1_n r1_e) H') : bodyL Try.prog E_spec_B10Signal Try.f45 [.slice code_a code_n code_e, .int .i64 n] H K := by
  rw [spec_B10Signal_vc]
  obtain ⟨l_code, i_code, bd_75, pr0, hk⟩ := h
  obtain rfl := i_code.eqn
  have e : (p_spec_B10Signal l_code n) = _ := rfl
  have e := e.trans (p_spec_B10Signal_eq l_code n)
  have g0 := Grow.refl H
  refine T_spec_l00From_i (fun b_1 H_1 hb_2 hl_3 g_4 o_5 => ?_)
  have o_5 : Own H_1 b_1 [.slice code_a l_code.length code_e, .int .i64 (0 : Int), .int .u64 (0 : Int)] := o_5
  have l_7 := g_4.1
  have g_8 := g0.trans g_4
  have l_9 := g_8.1
  have w_74 := o_5.lt
  refine Al.intro (fun b_10 H_2 hb_11 hl_12 g_13 o_14 => ?_)
  have o_14 : Own H_2 b_10 ((([] : List Nat)).map fF) := o_14
  have l_16 := g_13.1
  have g_17 := g_8.trans g_13
  have l_18 := g_17.1
  have o_19 := o_5.grow g_13
  have w_20 := o_19.lt
  have w_73 := o_14.lt
  refine spec_B10Signal_L1 _ (fun (μ : Nat) (n_1 : Int) (vout_a : Option Addr) (vout_n : Nat) (vout_e : Nat) (H_3 : AHeap) => ∃ (l_vout : List Nat), ∃ (b_21 : Nat), ∃ (q1_2 : Int), ∃ (q1_3 : Int), vout_a = some ⟨b_21, 0, none⟩ ∧ vout_n = l_vout.length ∧ vout_e = 1 ∧ Own H_3 b_21 (l_vout.map fF) ∧ Own H_3 b_1 [.slice code_a l_code.length code_e, .int .i64 q1_2, .int .u64 q1_3] ∧ (b_21 ≠ b_1) ∧ Grow H H_3 ∧ H.length ≤ b_21 ∧ (n_1 ≤ n ∨ 0 ≤ n_1) ∧ 0 ≤ q1_2 ∧  q1_2 ≤ 2 * (n - n_1) + 2 ∧  (l_vout.length : Int) ≤ n - n_1 ∧  n_1 ≤ n ∧ n_1 - 0 ≤ (μ : Int) ∧ p_spec_B10Signal l_code n = p_spec_B10Signal_l1 l_code n (μ + 1) n_1 l_vout q1_2 q1_3) (Int.toNat (n - 0)) _ _ _ _ H_2 ?_ ?_
  · exact ⟨_, _, _, _, rfl, ω3, rfl, o_14, (by first | exact o_19 | (have hbx := o_19; (try simp only [List.length_append, List.length_cons, List.length_nil, Nat.zero_add] at hbx); (try simp only [List.length_append, List.length_cons, List.length_nil, Nat.zero_add]); exact hbx)), ω2, g_17, ω2, ω5, ω5, ω5, ω5, ω5, ω2, e⟩
  · intro μ n_1 vout_a vout_n vout_e  H_3 hI
    obtain ⟨l_vout, b_21, q1_2, q1_3, rfl, rfl, rfl, o_22, o_23, n_24, g_25, l_26, v_27, v_28, v_29, v_30, v_31, hμ, e⟩ := hI
    rw [spec_B10Signal_r1]
    have e := e.trans (p_spec_B10Signal_l1_s l_code n μ n_1 l_vout q1_2 q1_3)
    have w_32 := o_23.lt
    have w_33 := o_22.lt
    have l_34 := g_25.1
    refine Br.intro (fun c_35 => ?_) (fun c_35 => ?_)
    · have e := e.trans (cond_t c_35)
      have c_35' := of_decide_eq_true c_35
      refine T_spec_l00Src_pick_i ⟨H, _, _, _, l_code, q1_2, q1_3, o_23, i_code, g_25, ω2, ω2, ω2, (fun H_4 k_36 o_37 => ?_)⟩
      have o_37 : Own H_4 b_1 [.slice code_a l_code.length code_e, .int .i64 ((p_spec_l00Src_pick l_code q1_2 q1_3 (65 : Int)).2.1), .int .u64 ((p_spec_l00Src_pick l_code q1_2 q1_3 (65 : Int)).2.2)] := o_37
      have z_43 := spec_l00Src_pick_rng l_code q1_2 q1_3 (65 : Int)
      have l_38 := k_36.1
      have g_39 := g_25.keep (b := b_1) ω2 k_36
      have l_40 := g_39.1
      have o_41 := o_22.keep ω2 k_36
      have w_42 := o_41.lt
      have w_72 := o_37.lt
      refine Al.intro (fun b_44 H_5 hb_45 hl_46 g_47 o_48 => ?_)
      have o_48 : Own H_5 b_44 (([(fdiv .f32 (FloatKind.nearest .f32 (IntKind.wrap .i64 (((p_spec_l00Src_pick l_code q1_2 q1_3 (65 : Int)).1) - 32))) 1082130432)]).map fF) := o_48
      have l_50 := g_47.1
      have g_51 := g_39.trans g_47
      have l_52 := g_51.1
      have o_53 := o_37.grow g_47
      have w_54 := o_53.lt
      have o_55 := o_41.grow g_47
      have w_56 := o_55.lt
      have w_71 := o_48.lt
      refine ⟨_, _, o_55.ownB ω4 rfl, (isl_rdS (o_48.isL ω3)), (fun h => by cases h), ω12, ?_⟩
      refine Ap.app o_55 rfl rfl (fun b_61 H_6 q_69 hl_57 o_58 k_59 => ?_)
      have o_58 := map_snoc o_58
      have l_62 := k_59.1
      have g_63 := g_51.keep (b := b_21) ω2 k_59
      have l_64 := g_63.1
      have o_65 := o_53.keep ω2 k_59
      have w_66 := o_65.lt
      have o_67 := o_48.keep ω2 k_59
      have w_68 := o_67.lt
      have w_70 := o_58.lt
      rw [show IntKind.wrap .i64 (n_1 - 1) = (n_1 - 1) from wrap64 ω2 ω2]
      refine spec_B10Signal_n1 (μ - 1) ω9 ⟨_, _, _, _, rfl, ω6, rfl, o_58, (by first | exact o_65 | (have hbx := o_65; (try simp only [List.length_append, List.length_cons, List.length_nil, Nat.zero_add] at hbx); (try simp only [List.length_append, List.length_cons, List.length_nil, Nat.zero_add]); exact hbx)), ω2, g_63, ω2, ω1, ω1, ω1, ω1, ω1, ω9, (by rw [show μ - 1 + 1 = μ from by first | omega]; exact e)⟩
    · have e := e.trans (cond_f c_35)
      have c_35' := of_decide_eq_false c_35
      rw [spec_B10Signal_x1_0]
      rw [e] at hk
      exact hk _ _ _ H_3 g_25 (o_22.ownS ω3 ω2)
theorem spec_B10Signal_ok : FnOk Try.prog 45 S_spec_B10Signal := by
  refine FnOk.body mix_ok E_spec_B10Signal_ok Try.func45 rfl (by kernel_rfl) (by kernel_rfl) ?_ ?_ ?_ ?_ ?_
  · intro args H K K' h hk
    simp only [S_spec_B10Signal] at *
    unfold F_spec_B10Signal at *
    split at hk
    · obtain ⟨l_code, i_code, bd_75, pr0, k⟩ := hk
      exact ⟨l_code, i_code, bd_75, pr0, (fun r1_a r1_n r1_e H' gg ow0 => h _ _ (k r1_a r1_n r1_e H' gg ow0))⟩
    · exact hk.elim
  · intro hq; cases hq
  · intro args H K hk
    simp only [S_spec_B10Signal] at *
    unfold F_spec_B10Signal at *
    split at hk
    · obtain ⟨l_code, i_code, bd_75, pr0, k⟩ := hk
      exact liveS fun a n e H1 g o => ⟨_, _, k a n e H1 g o⟩
    · exact hk.elim
  · intro _ args H K hk
    simp only [S_spec_B10Signal] at *
    unfold F_spec_B10Signal at *
    split at hk
    · obtain ⟨l_code, i_code, bd_75, pr0, k⟩ := hk
      exact ⟨l_code, i_code, bd_75, pr0, (fun r1_a r1_n r1_e H' gg ow0 => ⟨gg, k r1_a r1_n r1_e H' gg ow0⟩)⟩
    · exact hk.elim
  · have mm := @spec_B10Signal_main
    have ml := fun (args : List Value) (H : AHeap) (K : Value → AHeap → Prop) => bodyL_body (P := Try.prog) (env := E_spec_B10Signal ) (fn := Try.f45) (args := args) (H := H) (K := K) E_spec_B10Signal_ok 
    revert mm ml
    generalize bodyK Try.prog E_spec_B10Signal Try.f45 = Q
    generalize bodyL Try.prog E_spec_B10Signal Try.f45 = QL
    intro mm ml args H K hk
    simp only [S_spec_B10Signal] at *
    unfold F_spec_B10Signal at *
    split at hk
    · exact ml _ H K (mm _ _ _ _ H K hk)
    · exact hk.elim
def p_impl_within (n : Int) (low : Int) (high : Int) : Bool := (bif decide ((low : Int) ≤ n) then decide ((n : Int) ≤ high) else false)
def T_impl_within (n : Int) (low : Int) (high : Int) (H : AHeap) (K : Bool → AHeap → Prop) : Prop := K (p_impl_within n low high) H
theorem impl_within_t {n a b : Int} (h : p_impl_within n a b = true) : a ≤ n ∧ n ≤ b := by
  unfold p_impl_within at h
  by_cases h1 : a ≤ n
  · rw [decide_eq_true h1, cond_true] at h; exact ⟨h1, of_decide_eq_true h⟩
  · rw [decide_eq_false h1] at h; cases h
theorem T_impl_within_i {n : Int} {low : Int} {high : Int} {H : AHeap} {K : Bool → AHeap → Prop} (h : K (p_impl_within n low high) H) : T_impl_within n low high H K := h
/-! impl_within: function 96 -/
def E_impl_within : Env := envOf []
def F_impl_within : List Value → AHeap → (Value → AHeap → Prop) → Prop
  | [.int .i64 n, .int .i64 low, .int .i64 high], H, K => T_impl_within n low high H fun (r1 : Bool) (H' : AHeap) => K (.bool r1) H'
  | _, _, _ => False
def S_impl_within : FSpec := { F := F_impl_within, quiet := true, tame := false }
theorem impl_within_vc (n : Int) (low : Int) (high : Int) (H : AHeap) (K : Value → AHeap → Prop) : bodyL Try.prog E_impl_within Try.f96 [.int .i64 n, .int .i64 low, .int .i64 high] H K =
  (Br (decide ((low : Int) ≤ n)) (K (.bool (decide ((n : Int) ≤ high))) H) (K (.bool false) H)) := by kernel_rfl
theorem E_impl_within_ok : ∀ g, FnOk Try.prog g (E_impl_within g) := FnOk.envOf (by
  intro x hx; cases hx)
set_option maxHeartbeats 1000000 in
theorem impl_within_main (n : Int) (low : Int) (high : Int) (H : AHeap) (K : Value → AHeap → Prop) (h : T_impl_within n low high H fun (r1 : Bool) (H' : AHeap) => K (.bool r1) H') : bodyL Try.prog E_impl_within Try.f96 [.int .i64 n, .int .i64 low, .int .i64 high] H K := by
  rw [impl_within_vc]
  unfold T_impl_within p_impl_within at h
  repeat' (first | exact h | (exfalso; simp_all; done) | (refine ⟨by decide, ?_⟩) | (refine Br.intro (fun hb => ?_) (fun hb => ?_) <;> (try simp only [hb, cond_true, cond_false, Bool.not_true, Bool.not_false] at h)))
theorem impl_within_ok : FnOk Try.prog 96 S_impl_within := by
  refine FnOk.body mix_ok E_impl_within_ok Try.func96 rfl (by kernel_rfl) (by kernel_rfl) ?_ ?_ ?_ ?_ ?_
  · intro args H K K' h hk
    simp only [S_impl_within] at *
    unfold F_impl_within at *
    split at hk
    · have k := hk
      exact h _ _ k
    · exact hk.elim
  · intro _ args H K hk
    simp only [S_impl_within] at *
    unfold F_impl_within at *
    split at hk
    · have k := hk
      exact ⟨_, k, fun K' k' => k'⟩
    · exact hk.elim
  · intro args H K hk
    simp only [S_impl_within] at *
    unfold F_impl_within at *
    split at hk
    · have k := hk
      exact ⟨_, _, k⟩
    · exact hk.elim
  · intro hq; cases hq
  · have mm := @impl_within_main
    have ml := fun (args : List Value) (H : AHeap) (K : Value → AHeap → Prop) => bodyL_body (P := Try.prog) (env := E_impl_within ) (fn := Try.f96) (args := args) (H := H) (K := K) E_impl_within_ok 
    revert mm ml
    generalize bodyK Try.prog E_impl_within Try.f96 = Q
    generalize bodyL Try.prog E_impl_within Try.f96 = QL
    intro mm ml args H K hk
    simp only [S_impl_within] at *
    unfold F_impl_within at *
    split at hk
    · exact ml _ H K (mm _ _ _ H K hk)
    · exact hk.elim
def p_impl_IsFinite (x : Nat) : Bool := feq .f32 (fsub .f32 x x) 0
def T_impl_IsFinite (x : Nat) (H : AHeap) (K : Bool → AHeap → Prop) : Prop := K (p_impl_IsFinite x) H

theorem T_impl_IsFinite_i {x : Nat} {H : AHeap} {K : Bool → AHeap → Prop} (h : K (p_impl_IsFinite x) H) : T_impl_IsFinite x H K := h
/-! impl_IsFinite: function 133 -/
def E_impl_IsFinite : Env := envOf []
def F_impl_IsFinite : List Value → AHeap → (Value → AHeap → Prop) → Prop
  | [.float .f32 x], H, K => T_impl_IsFinite x H fun (r1 : Bool) (H' : AHeap) => K (.bool r1) H'
  | _, _, _ => False
def S_impl_IsFinite : FSpec := { F := F_impl_IsFinite, quiet := true, tame := false }
theorem impl_IsFinite_vc (x : Nat) (H : AHeap) (K : Value → AHeap → Prop) : bodyL Try.prog E_impl_IsFinite Try.f133 [.float .f32 x] H K =
  (K (.bool (feq .f32 (fsub .f32 x x) 0)) H) := by kernel_rfl
theorem E_impl_IsFinite_ok : ∀ g, FnOk Try.prog g (E_impl_IsFinite g) := FnOk.envOf (by
  intro x hx; cases hx)
set_option maxHeartbeats 1000000 in
theorem impl_IsFinite_main (x : Nat) (H : AHeap) (K : Value → AHeap → Prop) (h : T_impl_IsFinite x H fun (r1 : Bool) (H' : AHeap) => K (.bool r1) H') : bodyL Try.prog E_impl_IsFinite Try.f133 [.float .f32 x] H K := by
  rw [impl_IsFinite_vc]
  unfold T_impl_IsFinite p_impl_IsFinite at h
  repeat' (first | exact h | (exfalso; simp_all; done) | (refine ⟨by decide, ?_⟩) | (refine Br.intro (fun hb => ?_) (fun hb => ?_) <;> (try simp only [hb, cond_true, cond_false, Bool.not_true, Bool.not_false] at h)))
theorem impl_IsFinite_ok : FnOk Try.prog 133 S_impl_IsFinite := by
  refine FnOk.body mix_ok E_impl_IsFinite_ok Try.func133 rfl (by kernel_rfl) (by kernel_rfl) ?_ ?_ ?_ ?_ ?_
  · intro args H K K' h hk
    simp only [S_impl_IsFinite] at *
    unfold F_impl_IsFinite at *
    split at hk
    · have k := hk
      exact h _ _ k
    · exact hk.elim
  · intro _ args H K hk
    simp only [S_impl_IsFinite] at *
    unfold F_impl_IsFinite at *
    split at hk
    · have k := hk
      exact ⟨_, k, fun K' k' => k'⟩
    · exact hk.elim
  · intro args H K hk
    simp only [S_impl_IsFinite] at *
    unfold F_impl_IsFinite at *
    split at hk
    · have k := hk
      exact ⟨_, _, k⟩
    · exact hk.elim
  · intro hq; cases hq
  · have mm := @impl_IsFinite_main
    have ml := fun (args : List Value) (H : AHeap) (K : Value → AHeap → Prop) => bodyL_body (P := Try.prog) (env := E_impl_IsFinite ) (fn := Try.f133) (args := args) (H := H) (K := K) E_impl_IsFinite_ok 
    revert mm ml
    generalize bodyK Try.prog E_impl_IsFinite Try.f133 = Q
    generalize bodyL Try.prog E_impl_IsFinite Try.f133 = QL
    intro mm ml args H K hk
    simp only [S_impl_IsFinite] at *
    unfold F_impl_IsFinite at *
    split at hk
    · exact ml _ H K (mm _ H K hk)
    · exact hk.elim

def p_impl_areFinite_l2 (l_lists : List (List Nat)) (t2 : Bool) (t9 : Int) (k2_2 : Bool → Int → Bool) : Nat → Bool → Int → Bool
  | 0, _, _ => false
  | μ2 + 1, t2_2, t15 => (bif decide ((t15 : Int) < ((((l_lists).getD (t9 : Int).toNat [])).length : Int)) then (bif !((p_impl_IsFinite (((((l_lists).getD (t9 : Int).toNat [])).getD (t15 : Int).toNat 0)))) then false else (p_impl_areFinite_l2 l_lists t2 t9 k2_2 μ2 t2_2 (t15 + 1))) else (k2_2 t2_2 t15))
def p_impl_areFinite_l2_s := fun l_lists t2 t9 k2_2 μ2 t2_2 t15 => @p_impl_areFinite_l2.eq_2 l_lists t2 t9 k2_2 t2_2 t15 μ2
def p_impl_areFinite_l1 (l_lists : List (List Nat)) : Nat → Bool → Int → Bool
  | 0, _, _ => false
  | μ + 1, t2, t9 => (bif decide ((t9 : Int) < (l_lists.length : Int)) then (p_impl_areFinite_l2 l_lists t2 t9 (fun (t2_2 : Bool) (t15 : Int) => (p_impl_areFinite_l1 l_lists μ t2_2 (t9 + 1))) (Int.toNat (((((l_lists).getD (t9 : Int).toNat [])).length : Int) - (0 : Int)) + 1) t2 (0 : Int)) else true)
def p_impl_areFinite_l1_s := fun l_lists μ t2 t9 => @p_impl_areFinite_l1.eq_2 l_lists t2 t9 μ
def p_impl_areFinite (l_lists : List (List Nat)) : Bool := (p_impl_areFinite_l1 l_lists (Int.toNat ((l_lists.length : Int) - (0 : Int)) + 1) false (0 : Int))
def p_impl_areFinite_eq := @p_impl_areFinite.eq_1
def T_impl_areFinite (lists_a : Option Addr) (lists_n : Nat) (lists_e : Nat) (H : AHeap) (K : Bool → AHeap → Prop) : Prop := ∃ (l_lists : List (List Nat)), IsLL fF H lists_a lists_n l_lists ∧ l_lists.length < 1073741824 ∧ (∀ y ∈ l_lists, y.length < 1073741824) ∧ K (p_impl_areFinite l_lists) H
theorem T_impl_areFinite_i {lists_a : Option Addr} {lists_n : Nat} {lists_e : Nat} {H : AHeap} {K : Bool → AHeap → Prop} (h : ∃ (l_lists : List (List Nat)), IsLL fF H lists_a lists_n l_lists ∧ l_lists.length < 1073741824 ∧ (∀ y ∈ l_lists, y.length < 1073741824) ∧ K (p_impl_areFinite l_lists) H) : T_impl_areFinite lists_a lists_n lists_e H K := h

/-! impl_areFinite: function 166 -/
def E_impl_areFinite : Env := envOf [(133, S_impl_IsFinite)]
def F_impl_areFinite : List Value → AHeap → (Value → AHeap → Prop) → Prop
  | [.slice lists_a lists_n lists_e], H, K => T_impl_areFinite lists_a lists_n lists_e H fun (r1 : Bool) (H' : AHeap) => K (.bool r1) H'
  | _, _, _ => False
def S_impl_areFinite : FSpec := { F := F_impl_areFinite, quiet := true, tame := false }
theorem impl_areFinite_vc (lists_a : Option Addr) (lists_n : Nat) (lists_e : Nat) (H : AHeap) (K : Value → AHeap → Prop) : bodyL Try.prog E_impl_areFinite Try.f166 [.slice lists_a lists_n lists_e] H K =
  (loopK (exL Try.prog E_impl_areFinite (cl (cl (cr (cl (cr (bodyC Try.f166)))))) 896 4 [(0, 0)]) [ud, ud, ud, ud, ud, ud, ud, .slice lists_a lists_n lists_e, .int .i64 (lists_n : Int), .int .i64 0, ud, ud, ud, ud, ud, ud, ud, ud, ud, ud, ud, ud, ud, ud] H (blockQ 0 (seqQ (exL Try.prog E_impl_areFinite (cr (cr (bodyC Try.f166))) 4 4 []) (retK Try.prog Try.f166 K)))) := by kernel_rfl
abbrev impl_areFinite_P1 (lists_a : Option Addr) (lists_e : Nat) (lists_n : Nat) (t9 : Int)  : List Value := [ud, ud, ud, ud, ud, ud, ud, .slice lists_a lists_n lists_e, .int .i64 (lists_n : Int), .int .i64 t9, ud, ud, ud, ud, ud, ud, ud, ud, ud, ud, ud, ud, ud, ud]
theorem impl_areFinite_r1 (lists_a : Option Addr) (lists_e : Nat) (lists_n : Nat) (t9 : Int)  (H : AHeap) (R : Post) : exL Try.prog E_impl_areFinite (cl (cl (cr (cl (cr (bodyC Try.f166)))))) 896 4 [(0, 0)] (impl_areFinite_P1 lists_a lists_e lists_n t9) H R =
  (Br (decide ((t9 : Int) < (lists_n : Int))) ((0 : Int) ≤ t9 ∧ t9 < (lists_n : Int) ∧ ∃ b1 f1, (lists_a : Option Addr) = some ⟨b1, f1, none⟩ ∧ ∃ x1_a : Option Addr, ∃ x1_n : Nat, ∃ x1_e : Nat,  rdC H b1 (f1 + (t9 : Int).toNat * 1) = some (.slice x1_a x1_n x1_e) ∧ loopK (exL Try.prog E_impl_areFinite (cl (cl (cr (cr (cl (cl (cr (cr (cl (cl (cr (cl (cr (bodyC Try.f166)))))))))))))) 58240 4 [(2, 896), (1, 896), (0, 0)]) [ud, ud, ud, ud, ud, ud, ud, .slice lists_a lists_n lists_e, .int .i64 (lists_n : Int), .int .i64 t9, ud, ud, ud, .slice x1_a x1_n x1_e, .int .i64 (x1_n : Int), .int .i64 0, ud, ud, ud, ud, ud, ud, ud, ud] H (blockQ 2 (blockQ 1 (seqQ (exL Try.prog E_impl_areFinite (cr (cr (cr (cl (cl (cr (cl (cr (bodyC Try.f166))))))))) 896 4 [(0, 0)]) (R))))) (R (.exit 0) [ud, ud, ud, ud, ud, ud, ud, ud, ud, ud, ud, ud, ud, ud, ud, ud, ud, ud, ud, ud, ud, ud, ud, ud] H)) := by kernel_rfl
def impl_areFinite_I1 (lists_a : Option Addr) (lists_e : Nat) (lists_n : Nat) (Inv : Nat → Int → AHeap → Prop) : Nat → List Value → AHeap → Prop := fun μ tm H => ∃ (t9 : Int), tm = (impl_areFinite_P1 lists_a lists_e lists_n t9) ∧ Inv μ t9 H
theorem impl_areFinite_L1 (lists_a : Option Addr) (lists_e : Nat) (lists_n : Nat) {Q : Post} (Inv : Nat → Int → AHeap → Prop) (ν : Nat) (t9 : Int)  (H : AHeap) (h0 : Inv ν t9 H)
    (hs : ∀ (μ : Nat) (t9 : Int)  (H : AHeap), Inv μ t9 H → exL Try.prog E_impl_areFinite (cl (cl (cr (cl (cr (bodyC Try.f166)))))) 896 4 [(0, 0)] (impl_areFinite_P1 lists_a lists_e lists_n t9) H (loopQ (impl_areFinite_I1 lists_a lists_e lists_n Inv) μ Q)) : loopK (exL Try.prog E_impl_areFinite (cl (cl (cr (cl (cr (bodyC Try.f166)))))) 896 4 [(0, 0)]) (impl_areFinite_P1 lists_a lists_e lists_n t9) H Q :=
  ⟨impl_areFinite_I1 lists_a lists_e lists_n Inv, ν, ⟨t9, rfl, h0⟩, fun μ tm H h => by obtain ⟨t9, rfl, hI⟩ := h; exact hs μ t9  H hI⟩
theorem impl_areFinite_n1 {lists_a : Option Addr} {lists_e : Nat} {lists_n : Nat} {Q : Post} {Inv : Nat → Int → AHeap → Prop} {μ : Nat} (μ' : Nat) {t9 : Int}  {H : AHeap} (hm : μ' < μ) (hI : Inv μ' t9 H) : loopQ (impl_areFinite_I1 lists_a lists_e lists_n Inv) μ Q .normal (impl_areFinite_P1 lists_a lists_e lists_n t9) H := ⟨μ', hm, t9, rfl, hI⟩
theorem impl_areFinite_x1_0  (H : AHeap) (K : Value → AHeap → Prop)  {I : Nat → List Value → AHeap → Prop} {μ : Nat} : loopQ I μ (blockQ 0 (seqQ (exL Try.prog E_impl_areFinite (cr (cr (bodyC Try.f166))) 4 4 []) (retK Try.prog Try.f166 K))) (.exit 0) [ud, ud, ud, ud, ud, ud, ud, ud, ud, ud, ud, ud, ud, ud, ud, ud, ud, ud, ud, ud, ud, ud, ud, ud] H =
  (K (.bool true) H) := by kernel_rfl
theorem impl_areFinite_x1_ret (t2 : Bool) (H : AHeap) (K : Value → AHeap → Prop)  {I : Nat → List Value → AHeap → Prop} {μ : Nat} : loopQ I μ (blockQ 0 (seqQ (exL Try.prog E_impl_areFinite (cr (cr (bodyC Try.f166))) 4 4 []) (retK Try.prog Try.f166 K))) .ret [ud, ud, .bool t2, ud, ud, ud, ud, ud, ud, ud, ud, ud, ud, ud, ud, ud, ud, ud, ud, ud, ud, ud, ud, ud] H =
  (K (.bool t2) H) := by kernel_rfl
abbrev impl_areFinite_P2 (lists_a : Option Addr) (lists_e : Nat) (lists_n : Nat) (t9 : Int) (x1_a : Option Addr) (x1_e : Nat) (x1_n : Nat) (t15 : Int)  : List Value := [ud, ud, ud, ud, ud, ud, ud, .slice lists_a lists_n lists_e, .int .i64 (lists_n : Int), .int .i64 t9, ud, ud, ud, .slice x1_a x1_n x1_e, .int .i64 (x1_n : Int), .int .i64 t15, ud, ud, ud, ud, ud, ud, ud, ud]
theorem impl_areFinite_r2 (lists_a : Option Addr) (lists_e : Nat) (lists_n : Nat) (t9 : Int) (x1_a : Option Addr) (x1_e : Nat) (x1_n : Nat) (t15 : Int)  (H : AHeap) (R : Post) : exL Try.prog E_impl_areFinite (cl (cl (cr (cr (cl (cl (cr (cr (cl (cl (cr (cl (cr (bodyC Try.f166)))))))))))))) 58240 4 [(2, 896), (1, 896), (0, 0)] (impl_areFinite_P2 lists_a lists_e lists_n t9 x1_a x1_e x1_n t15) H R =
  (Br (decide ((t15 : Int) < (x1_n : Int))) ((0 : Int) ≤ t15 ∧ t15 < (x1_n : Int) ∧ ∃ b2 f2, (x1_a : Option Addr) = some ⟨b2, f2, none⟩ ∧ ∃ x2 : Nat,  rdC H b2 (f2 + (t15 : Int).toNat * 1) = some (.float .f32 x2) ∧ T_impl_IsFinite x2 H fun (r1 : Bool) (H1 : AHeap) => Br (!r1) (R .ret [ud, ud, .bool false, ud, ud, ud, ud, ud, ud, ud, ud, ud, ud, ud, ud, ud, ud, ud, ud, ud, ud, ud, ud, ud] H1) (R .normal [ud, ud, ud, ud, ud, ud, ud, .slice lists_a lists_n lists_e, .int .i64 (lists_n : Int), .int .i64 t9, ud, ud, ud, .slice x1_a x1_n x1_e, .int .i64 (x1_n : Int), .int .i64 (IntKind.wrap .i64 (t15 + 1)), ud, ud, ud, ud, ud, ud, ud, ud] H1)) (R (.exit 2) [ud, ud, ud, ud, ud, ud, ud, .slice lists_a lists_n lists_e, .int .i64 (lists_n : Int), .int .i64 t9, ud, ud, ud, ud, ud, ud, ud, ud, ud, ud, ud, ud, ud, ud] H)) := by kernel_rfl
def impl_areFinite_I2 (lists_a : Option Addr) (lists_e : Nat) (lists_n : Nat) (t9 : Int) (x1_a : Option Addr) (x1_e : Nat) (x1_n : Nat) (Inv : Nat → Int → AHeap → Prop) : Nat → List Value → AHeap → Prop := fun μ tm H => ∃ (t15 : Int), tm = (impl_areFinite_P2 lists_a lists_e lists_n t9 x1_a x1_e x1_n t15) ∧ Inv μ t15 H
theorem impl_areFinite_L2 (lists_a : Option Addr) (lists_e : Nat) (lists_n : Nat) (t9 : Int) (x1_a : Option Addr) (x1_e : Nat) (x1_n : Nat) {Q : Post} (Inv : Nat → Int → AHeap → Prop) (ν : Nat) (t15 : Int)  (H : AHeap) (h0 : Inv ν t15 H)
    (hs : ∀ (μ : Nat) (t15 : Int)  (H : AHeap), Inv μ t15 H → exL Try.prog E_impl_areFinite (cl (cl (cr (cr (cl (cl (cr (cr (cl (cl (cr (cl (cr (bodyC Try.f166)))))))))))))) 58240 4 [(2, 896), (1, 896), (0, 0)] (impl_areFinite_P2 lists_a lists_e lists_n t9 x1_a x1_e x1_n t15) H (loopQ (impl_areFinite_I2 lists_a lists_e lists_n t9 x1_a x1_e x1_n Inv) μ Q)) : loopK (exL Try.prog E_impl_areFinite (cl (cl (cr (cr (cl (cl (cr (cr (cl (cl (cr (cl (cr (bodyC Try.f166)))))))))))))) 58240 4 [(2, 896), (1, 896), (0, 0)]) (impl_areFinite_P2 lists_a lists_e lists_n t9 x1_a x1_e x1_n t15) H Q :=
  ⟨impl_areFinite_I2 lists_a lists_e lists_n t9 x1_a x1_e x1_n Inv, ν, ⟨t15, rfl, h0⟩, fun μ tm H h => by obtain ⟨t15, rfl, hI⟩ := h; exact hs μ t15  H hI⟩
theorem impl_areFinite_n2 {lists_a : Option Addr} {lists_e : Nat} {lists_n : Nat} {t9 : Int} {x1_a : Option Addr} {x1_e : Nat} {x1_n : Nat} {Q : Post} {Inv : Nat → Int → AHeap → Prop} {μ : Nat} (μ' : Nat) {t15 : Int}  {H : AHeap} (hm : μ' < μ) (hI : Inv μ' t15 H) : loopQ (impl_areFinite_I2 lists_a lists_e lists_n t9 x1_a x1_e x1_n Inv) μ Q .normal (impl_areFinite_P2 lists_a lists_e lists_n t9 x1_a x1_e x1_n t15) H := ⟨μ', hm, t15, rfl, hI⟩
theorem impl_areFinite_x2_2 (lists_a : Option Addr) (lists_e : Nat) (lists_n : Nat) (t9 : Int) (H : AHeap)  (R : Post) {I : Nat → List Value → AHeap → Prop} {μ : Nat} : loopQ I μ (blockQ 2 (blockQ 1 (seqQ (exL Try.prog E_impl_areFinite (cr (cr (cr (cl (cl (cr (cl (cr (bodyC Try.f166))))))))) 896 4 [(0, 0)]) (R)))) (.exit 2) [ud, ud, ud, ud, ud, ud, ud, .slice lists_a lists_n lists_e, .int .i64 (lists_n : Int), .int .i64 t9, ud, ud, ud, ud, ud, ud, ud, ud, ud, ud, ud, ud, ud, ud] H =
  (R .normal [ud, ud, ud, ud, ud, ud, ud, .slice lists_a lists_n lists_e, .int .i64 (lists_n : Int), .int .i64 (IntKind.wrap .i64 (t9 + 1)), ud, ud, ud, ud, ud, ud, ud, ud, ud, ud, ud, ud, ud, ud] H) := by kernel_rfl
theorem impl_areFinite_x2_ret (t2_2 : Bool) (H : AHeap)  (R : Post) {I : Nat → List Value → AHeap → Prop} {μ : Nat} : loopQ I μ (blockQ 2 (blockQ 1 (seqQ (exL Try.prog E_impl_areFinite (cr (cr (cr (cl (cl (cr (cl (cr (bodyC Try.f166))))))))) 896 4 [(0, 0)]) (R)))) .ret [ud, ud, .bool t2_2, ud, ud, ud, ud, ud, ud, ud, ud, ud, ud, ud, ud, ud, ud, ud, ud, ud, ud, ud, ud, ud] H =
  (R .ret [ud, ud, .bool t2_2, ud, ud, ud, ud, ud, ud, ud, ud, ud, ud, ud, ud, ud, ud, ud, ud, ud, ud, ud, ud, ud] H) := by kernel_rfl
theorem E_impl_areFinite_ok : ∀ g, FnOk Try.prog g (E_impl_areFinite g) := FnOk.envOf (by
  intro x hx
  simp only [List.mem_cons, List.not_mem_nil, or_false] at hx
  subst hx; exact impl_IsFinite_ok)
set_option maxHeartbeats 1000000 in
theorem impl_areFinite_main (lists_a : Option Addr) (lists_n : Nat) (lists_e : Nat) (H : AHeap) (K : Value → AHeap → Prop) (h : T_impl_areFinite lists_a lists_n lists_e H fun (r1 : Bool) (H' : AHeap) => K (.bool r1) H') : bodyL Try.prog E_impl_areFinite Try.f166 [.slice lists_a lists_n lists_e] H K := by
  rw [impl_areFinite_vc]
  obtain ⟨l_lists, i_lists, bd_22, bb_l_lists, hk⟩ := h
  obtain rfl := i_lists.eqn
  have e : (p_impl_areFinite l_lists) = _ := rfl
  have e := e.trans (p_impl_areFinite_eq l_lists)
  have g0 := Grow.refl H
  refine impl_areFinite_L1 _ _ _ (fun (μ : Nat) (t9 : Int) (H_1 : AHeap) => ∃ (t2 : Bool), H = H_1 ∧ (0 : Int) ≤ t9 ∧ t9 ≤ (l_lists.length : Int) ∧ (l_lists.length : Int) - t9 ≤ (μ : Int) ∧ p_impl_areFinite l_lists = p_impl_areFinite_l1 l_lists (μ + 1) t2 t9) (Int.toNat ((l_lists.length : Int) - (0 : Int))) _ H ?_ ?_
  · exact ⟨_, rfl, ω5, ω5, ω2, e⟩
  · intro μ t9  H_1 hI
    obtain ⟨t2, rfl, v_1, v_2, hμ, e⟩ := hI
    rw [impl_areFinite_r1]
    have e := e.trans (p_impl_areFinite_l1_s l_lists μ t2 t9)
    have l_3 := g0.1
    refine Br.intro (fun c_4 => ?_) (fun c_4 => ?_)
    · have e := e.trans (cond_t c_4)
      have c_4' := of_decide_eq_true c_4
      obtain ⟨b_5, f_6, q_7⟩ := ((i_lists.grow g0)).pos ω0
      refine ⟨by omega, by omega, b_5, f_6, q_7, ?_⟩
      obtain ⟨a_8, n_9, e_10, r_11, i_12⟩ := (i_lists).rd (i := (t9 : Int).toNat) g0 q_7 ω2
      obtain rfl := i_12.eqn
      refine ⟨a_8, _, e_10, r_11, ?_⟩
      have z_13 := getD_len bb_l_lists (t9 : Int).toNat
      refine impl_areFinite_L2 _ _ _ _ _ _ _ (fun (μ2 : Nat) (t15 : Int) (H_2 : AHeap) => ∃ (t2_2 : Bool), H = H_2 ∧ (0 : Int) ≤ t15 ∧ t15 ≤ ((((l_lists).getD (t9 : Int).toNat [])).length : Int) ∧ ((((l_lists).getD (t9 : Int).toNat [])).length : Int) - t15 ≤ (μ2 : Int) ∧ p_impl_areFinite l_lists = p_impl_areFinite_l2 l_lists t2 t9 (fun (t2_2 : Bool) (t15 : Int) => (p_impl_areFinite_l1 l_lists μ t2_2 (t9 + 1))) (μ2 + 1) t2_2 t15) (Int.toNat (((((l_lists).getD (t9 : Int).toNat [])).length : Int) - (0 : Int))) _ H ?_ ?_
      · exact ⟨_, rfl, ω5, ω5, ω2, e⟩
      · intro μ2 t15  H_2 hI
        obtain ⟨t2_2, rfl, v_14, v_15, hμ, e⟩ := hI
        rw [impl_areFinite_r2]
        have e := e.trans (p_impl_areFinite_l2_s l_lists t2 t9 (fun (t2_2 : Bool) (t15 : Int) => (p_impl_areFinite_l1 l_lists μ t2_2 (t9 + 1))) μ2 t2_2 t15)
        have l_16 := g0.1
        refine Br.intro (fun c_17 => ?_) (fun c_17 => ?_)
        · have e := e.trans (cond_t c_17)
          have c_17' := of_decide_eq_true c_17
          obtain ⟨b_18, f_19, q_20⟩ := ((i_12.grow g0)).pos ω0
          refine ⟨by omega, by omega, b_18, f_19, q_20, ?_⟩
          refine ⟨((((l_lists).getD (t9 : Int).toNat [])).getD (t15 : Int).toNat 0), (i_12).rd g0 q_20 ω2 _, ?_⟩
          refine T_impl_IsFinite_i ?_
          refine Br.intro (fun c_21 => ?_) (fun c_21 => ?_)
          · have e := e.trans (cond_t c_21)
            have c_21n := nf_of_t c_21
            rw [impl_areFinite_x2_ret]
            rw [impl_areFinite_x1_ret]
            rw [e] at hk
            exact hk
          · have e := e.trans (cond_f c_21)
            have c_21n := nt_of_f c_21
            rw [show IntKind.wrap .i64 (t15 + 1) = (t15 + 1) from wrap64 ω2 ω2]
            refine impl_areFinite_n2 (μ2 - 1) ω9 ⟨_, rfl, ω1, ω1, ω9, (by rw [show μ2 - 1 + 1 = μ2 from by first | omega]; exact e)⟩
        · have e := e.trans (cond_f c_17)
          have c_17' := of_decide_eq_false c_17
          rw [impl_areFinite_x2_2]
          rw [show IntKind.wrap .i64 (t9 + 1) = (t9 + 1) from wrap64 ω2 ω2]
          refine impl_areFinite_n1 (μ - 1) ω9 ⟨_, rfl, ω1, ω1, ω9, (by rw [show μ - 1 + 1 = μ from by first | omega]; exact e)⟩
    · have e := e.trans (cond_f c_4)
      have c_4' := of_decide_eq_false c_4
      rw [impl_areFinite_x1_0]
      rw [e] at hk
      exact hk
theorem impl_areFinite_ok : FnOk Try.prog 166 S_impl_areFinite := by
  refine FnOk.body mix_ok E_impl_areFinite_ok Try.func166 rfl (by kernel_rfl) (by kernel_rfl) ?_ ?_ ?_ ?_ ?_
  · intro args H K K' h hk
    simp only [S_impl_areFinite] at *
    unfold F_impl_areFinite at *
    split at hk
    · obtain ⟨l_lists, i_lists, bd_22, bb_l_lists, k⟩ := hk
      exact ⟨l_lists, i_lists, bd_22, bb_l_lists, h _ _ k⟩
    · exact hk.elim
  · intro _ args H K hk
    simp only [S_impl_areFinite] at *
    unfold F_impl_areFinite at *
    split at hk
    · obtain ⟨l_lists, i_lists, bd_22, bb_l_lists, k⟩ := hk
      exact ⟨_, k, fun K' k' => ⟨l_lists, i_lists, bd_22, bb_l_lists, k'⟩⟩
    · exact hk.elim
  · intro args H K hk
    simp only [S_impl_areFinite] at *
    unfold F_impl_areFinite at *
    split at hk
    · obtain ⟨l_lists, i_lists, bd_22, bb_l_lists, k⟩ := hk
      exact ⟨_, _, k⟩
    · exact hk.elim
  · intro hq; cases hq
  · have mm := @impl_areFinite_main
    have ml := fun (args : List Value) (H : AHeap) (K : Value → AHeap → Prop) => bodyL_body (P := Try.prog) (env := E_impl_areFinite ) (fn := Try.f166) (args := args) (H := H) (K := K) E_impl_areFinite_ok 
    revert mm ml
    generalize bodyK Try.prog E_impl_areFinite Try.f166 = Q
    generalize bodyL Try.prog E_impl_areFinite Try.f166 = QL
    intro mm ml args H K hk
    simp only [S_impl_areFinite] at *
    unfold F_impl_areFinite at *
    split at hk
    · exact ml _ H K (mm _ _ _ H K hk)
    · exact hk.elim

def p_impl_isLong (l_list : List Nat) : Bool := (bif (p_impl_within (l_list.length : Int) (1 : Int) (128 : Int)) then (p_impl_areFinite ([l_list])) else false)
def p_impl_isLong_eq := @p_impl_isLong.eq_1
def T_impl_isLong (list_a : Option Addr) (list_n : Nat) (list_e : Nat) (H : AHeap) (K : Bool → AHeap → Prop) : Prop := ∃ (l_list : List Nat), IsL fF H list_a list_n l_list ∧ l_list.length < 1073741824 ∧ ((∀ H' : AHeap, Grow H H' → K (p_impl_isLong l_list) H'))
theorem T_impl_isLong_i {list_a : Option Addr} {list_n : Nat} {list_e : Nat} {H : AHeap} {K : Bool → AHeap → Prop} (h : ∃ (l_list : List Nat), IsL fF H list_a list_n l_list ∧ l_list.length < 1073741824 ∧ ((∀ H' : AHeap, Grow H H' → K (p_impl_isLong l_list) H'))) : T_impl_isLong list_a list_n list_e H K := h
theorem impl_isLong_t {l : List Nat} (h : p_impl_isLong l = true) : 1 ≤ (l.length : Int) ∧ (l.length : Int) ≤ 128 := by
  rw [p_impl_isLong_eq] at h
  cases h1 : p_impl_within (l.length : Int) 1 128
  · rw [h1] at h; cases h
  · exact impl_within_t h1
/-! impl_isLong: function 105 -/
def E_impl_isLong : Env := envOf [(96, S_impl_within), (166, S_impl_areFinite)]
def F_impl_isLong : List Value → AHeap → (Value → AHeap → Prop) → Prop
  | [.slice list_a list_n list_e], H, K => T_impl_isLong list_a list_n list_e H fun (r1 : Bool) (H' : AHeap) => K (.bool r1) H'
  | _, _, _ => False
def S_impl_isLong : FSpec := { F := F_impl_isLong, quiet := false, tame := true }
theorem impl_isLong_vc (list_a : Option Addr) (list_n : Nat) (list_e : Nat) (H : AHeap) (K : Value → AHeap → Prop) : bodyL Try.prog E_impl_isLong Try.f105 [.slice list_a list_n list_e] H K =
  (T_impl_within (list_n : Int) 1 128 H fun (r1 : Bool) (H1 : AHeap) => Br r1 (Al [.slice list_a list_n list_e] H1 fun b1 H2 => T_impl_areFinite (some ⟨b1, 0, none⟩) 1 1 H2 fun (r2 : Bool) (H3 : AHeap) => K (.bool r2) H3) (K (.bool false) H1)) := by kernel_rfl
theorem E_impl_isLong_ok : ∀ g, FnOk Try.prog g (E_impl_isLong g) := FnOk.envOf (by
  intro x hx
  simp only [List.mem_cons, List.not_mem_nil, or_false] at hx
  rcases hx with rfl | rfl
  · exact impl_within_ok
  · exact impl_areFinite_ok)
set_option maxHeartbeats 1000000 in
theorem impl_isLong_main (list_a : Option Addr) (list_n : Nat) (list_e : Nat) (H : AHeap) (K : Value → AHeap → Prop) (h : T_impl_isLong list_a list_n list_e H fun (r1 : Bool) (H' : AHeap) => K (.bool r1) H') : bodyL Try.prog E_impl_isLong Try.f105 [.slice list_a list_n list_e] H K := by
  rw [impl_isLong_vc]
  obtain ⟨l_list, i_list, bd_12, hk⟩ := h
  obtain rfl := i_list.eqn
  have e : (p_impl_isLong l_list) = _ := rfl
  have e := e.trans (p_impl_isLong_eq l_list)
  have g0 := Grow.refl H
  refine T_impl_within_i ?_
  refine Br.intro (fun c_1 => ?_) (fun c_1 => ?_)
  · have e := e.trans (cond_t c_1)
    have c_1' := impl_within_t c_1
    refine Al.intro (fun b_2 H_1 hb_3 hl_4 g_5 o_6 => ?_)
    have l_8 := g_5.1
    have g_9 := g0.trans g_5
    have l_10 := g_9.1
    have w_11 := o_6.lt
    refine T_impl_areFinite_i ⟨[l_list], ⟨_, o_6.rdAll rfl, LLc.cons (i_list.grow g_9) (LLc.nil _ _)⟩, ω0, (by first | assumption | exact or_right (by assumption) (by omega) | exact or_right (by assumption : _ ∧ (_ ∨ _)).2 (by omega) | (intro y hy; simp only [List.mem_cons, List.not_mem_nil, or_false] at hy; first | omega | (subst hy; omega) | (rcases hy with rfl | rfl <;> omega) | (rcases hy with rfl | rfl | rfl <;> omega))), ?_⟩
    rw [e] at hk
    exact hk  H_1 g_9 
  · have e := e.trans (cond_f c_1)
    rw [e] at hk
    exact hk  H g0 
theorem impl_isLong_ok : FnOk Try.prog 105 S_impl_isLong := by
  refine FnOk.body mix_ok E_impl_isLong_ok Try.func105 rfl (by kernel_rfl) (by kernel_rfl) ?_ ?_ ?_ ?_ ?_
  · intro args H K K' h hk
    simp only [S_impl_isLong] at *
    unfold F_impl_isLong at *
    split at hk
    · obtain ⟨l_list, i_list, bd_12, k⟩ := hk
      exact ⟨l_list, i_list, bd_12, (fun  H' gg  => h _ _ (k  H' gg ))⟩
    · exact hk.elim
  · intro hq; cases hq
  · intro args H K hk
    simp only [S_impl_isLong] at *
    unfold F_impl_isLong at *
    split at hk
    · obtain ⟨l_list, i_list, bd_12, k⟩ := hk
      exact ⟨_, _, k H (Grow.refl H)⟩
    · exact hk.elim
  · intro _ args H K hk
    simp only [S_impl_isLong] at *
    unfold F_impl_isLong at *
    split at hk
    · obtain ⟨l_list, i_list, bd_12, k⟩ := hk
      exact ⟨l_list, i_list, bd_12, (fun  H' gg  => ⟨gg, k  H' gg ⟩)⟩
    · exact hk.elim
  · have mm := @impl_isLong_main
    have ml := fun (args : List Value) (H : AHeap) (K : Value → AHeap → Prop) => bodyL_body (P := Try.prog) (env := E_impl_isLong ) (fn := Try.f105) (args := args) (H := H) (K := K) E_impl_isLong_ok 
    revert mm ml
    generalize bodyK Try.prog E_impl_isLong Try.f105 = Q
    generalize bodyL Try.prog E_impl_isLong Try.f105 = QL
    intro mm ml args H K hk
    simp only [S_impl_isLong] at *
    unfold F_impl_isLong at *
    split at hk
    · exact ml _ H K (mm _ _ _ H K hk)
    · exact hk.elim

def p_impl_added_l1 (l_list : List Nat) : Nat → Nat → Int → Nat
  | 0, _, _ => 0
  | μ + 1, sum, t8 => (bif decide ((t8 : Int) < (l_list.length : Int)) then (p_impl_added_l1 l_list μ (fadd .f32 sum (((l_list).getD (t8 : Int).toNat 0))) (t8 + 1)) else sum)
def p_impl_added_l1_s := fun l_list μ sum t8 => @p_impl_added_l1.eq_2 l_list sum t8 μ
def p_impl_added (l_list : List Nat) : Nat := (p_impl_added_l1 l_list (Int.toNat ((l_list.length : Int) - (0 : Int)) + 1) 0 (0 : Int))
def p_impl_added_eq := @p_impl_added.eq_1
def T_impl_added (list_a : Option Addr) (list_n : Nat) (list_e : Nat) (H : AHeap) (K : Nat → AHeap → Prop) : Prop := ∃ (l_list : List Nat), IsL fF H list_a list_n l_list ∧ l_list.length < 1073741824 ∧ K (p_impl_added l_list) H
theorem T_impl_added_i {list_a : Option Addr} {list_n : Nat} {list_e : Nat} {H : AHeap} {K : Nat → AHeap → Prop} (h : ∃ (l_list : List Nat), IsL fF H list_a list_n l_list ∧ l_list.length < 1073741824 ∧ K (p_impl_added l_list) H) : T_impl_added list_a list_n list_e H K := h

/-! impl_added: function 182 -/
def E_impl_added : Env := envOf []
def F_impl_added : List Value → AHeap → (Value → AHeap → Prop) → Prop
  | [.slice list_a list_n list_e], H, K => T_impl_added list_a list_n list_e H fun (r1 : Nat) (H' : AHeap) => K (.float .f32 r1) H'
  | _, _, _ => False
def S_impl_added : FSpec := { F := F_impl_added, quiet := true, tame := false }
theorem impl_added_vc (list_a : Option Addr) (list_n : Nat) (list_e : Nat) (H : AHeap) (K : Value → AHeap → Prop) : bodyL Try.prog E_impl_added Try.f182 [.slice list_a list_n list_e] H K =
  (loopK (exL Try.prog E_impl_added (cl (cl (cr (cl (cr (cr (bodyC Try.f182))))))) 456 4 [(0, 8)]) [ud, ud, ud, .float .f32 0, ud, ud, .slice list_a list_n list_e, .int .i64 (list_n : Int), .int .i64 0, ud, ud, ud, ud, ud, ud, ud, ud] H (blockQ 0 (seqQ (exL Try.prog E_impl_added (cr (cr (cr (bodyC Try.f182)))) 4 4 []) (retK Try.prog Try.f182 K)))) := by kernel_rfl
abbrev impl_added_P1 (list_a : Option Addr) (list_e : Nat) (list_n : Nat) (sum : Nat) (t8 : Int)  : List Value := [ud, ud, ud, .float .f32 sum, ud, ud, .slice list_a list_n list_e, .int .i64 (list_n : Int), .int .i64 t8, ud, ud, ud, ud, ud, ud, ud, ud]
theorem impl_added_r1 (list_a : Option Addr) (list_e : Nat) (list_n : Nat) (sum : Nat) (t8 : Int)  (H : AHeap) (R : Post) : exL Try.prog E_impl_added (cl (cl (cr (cl (cr (cr (bodyC Try.f182))))))) 456 4 [(0, 8)] (impl_added_P1 list_a list_e list_n sum t8) H R =
  (Br (decide ((t8 : Int) < (list_n : Int))) ((0 : Int) ≤ t8 ∧ t8 < (list_n : Int) ∧ ∃ b1 f1, (list_a : Option Addr) = some ⟨b1, f1, none⟩ ∧ ∃ x1 : Nat,  rdC H b1 (f1 + (t8 : Int).toNat * 1) = some (.float .f32 x1) ∧ R .normal [ud, ud, ud, .float .f32 (fadd .f32 sum x1), ud, ud, .slice list_a list_n list_e, .int .i64 (list_n : Int), .int .i64 (IntKind.wrap .i64 (t8 + 1)), ud, ud, ud, ud, ud, ud, ud, ud] H) (R (.exit 0) [ud, ud, ud, .float .f32 sum, ud, ud, ud, ud, ud, ud, ud, ud, ud, ud, ud, ud, ud] H)) := by kernel_rfl
def impl_added_I1 (list_a : Option Addr) (list_e : Nat) (list_n : Nat) (Inv : Nat → Nat → Int → AHeap → Prop) : Nat → List Value → AHeap → Prop := fun μ tm H => ∃ (sum : Nat), ∃ (t8 : Int), tm = (impl_added_P1 list_a list_e list_n sum t8) ∧ Inv μ sum t8 H
theorem impl_added_L1 (list_a : Option Addr) (list_e : Nat) (list_n : Nat) {Q : Post} (Inv : Nat → Nat → Int → AHeap → Prop) (ν : Nat) (sum : Nat) (t8 : Int)  (H : AHeap) (h0 : Inv ν sum t8 H)
    (hs : ∀ (μ : Nat) (sum : Nat) (t8 : Int)  (H : AHeap), Inv μ sum t8 H → exL Try.prog E_impl_added (cl (cl (cr (cl (cr (cr (bodyC Try.f182))))))) 456 4 [(0, 8)] (impl_added_P1 list_a list_e list_n sum t8) H (loopQ (impl_added_I1 list_a list_e list_n Inv) μ Q)) : loopK (exL Try.prog E_impl_added (cl (cl (cr (cl (cr (cr (bodyC Try.f182))))))) 456 4 [(0, 8)]) (impl_added_P1 list_a list_e list_n sum t8) H Q :=
  ⟨impl_added_I1 list_a list_e list_n Inv, ν, ⟨sum, t8, rfl, h0⟩, fun μ tm H h => by obtain ⟨sum, t8, rfl, hI⟩ := h; exact hs μ sum t8  H hI⟩
theorem impl_added_n1 {list_a : Option Addr} {list_e : Nat} {list_n : Nat} {Q : Post} {Inv : Nat → Nat → Int → AHeap → Prop} {μ : Nat} (μ' : Nat) {sum : Nat} {t8 : Int}  {H : AHeap} (hm : μ' < μ) (hI : Inv μ' sum t8 H) : loopQ (impl_added_I1 list_a list_e list_n Inv) μ Q .normal (impl_added_P1 list_a list_e list_n sum t8) H := ⟨μ', hm, sum, t8, rfl, hI⟩
theorem impl_added_x1_0 (sum : Nat) (H : AHeap) (K : Value → AHeap → Prop)  {I : Nat → List Value → AHeap → Prop} {μ : Nat} : loopQ I μ (blockQ 0 (seqQ (exL Try.prog E_impl_added (cr (cr (cr (bodyC Try.f182)))) 4 4 []) (retK Try.prog Try.f182 K))) (.exit 0) [ud, ud, ud, .float .f32 sum, ud, ud, ud, ud, ud, ud, ud, ud, ud, ud, ud, ud, ud] H =
  (K (.float .f32 sum) H) := by kernel_rfl
theorem E_impl_added_ok : ∀ g, FnOk Try.prog g (E_impl_added g) := FnOk.envOf (by
  intro x hx; cases hx)
set_option maxHeartbeats 1000000 in
theorem impl_added_main (list_a : Option Addr) (list_n : Nat) (list_e : Nat) (H : AHeap) (K : Value → AHeap → Prop) (h : T_impl_added list_a list_n list_e H fun (r1 : Nat) (H' : AHeap) => K (.float .f32 r1) H') : bodyL Try.prog E_impl_added Try.f182 [.slice list_a list_n list_e] H K := by
  rw [impl_added_vc]
  obtain ⟨l_list, i_list, bd_8, hk⟩ := h
  obtain rfl := i_list.eqn
  have e : (p_impl_added l_list) = _ := rfl
  have e := e.trans (p_impl_added_eq l_list)
  have g0 := Grow.refl H
  refine impl_added_L1 _ _ _ (fun (μ : Nat) (sum : Nat) (t8 : Int) (H_1 : AHeap) => H = H_1 ∧ (0 : Int) ≤ t8 ∧ t8 ≤ (l_list.length : Int) ∧ (l_list.length : Int) - t8 ≤ (μ : Int) ∧ p_impl_added l_list = p_impl_added_l1 l_list (μ + 1) sum t8) (Int.toNat ((l_list.length : Int) - (0 : Int))) _ _ H ?_ ?_
  · exact ⟨rfl, ω5, ω5, ω2, e⟩
  · intro μ sum t8  H_1 hI
    obtain ⟨rfl, v_1, v_2, hμ, e⟩ := hI
    rw [impl_added_r1]
    have e := e.trans (p_impl_added_l1_s l_list μ sum t8)
    have l_3 := g0.1
    refine Br.intro (fun c_4 => ?_) (fun c_4 => ?_)
    · have e := e.trans (cond_t c_4)
      have c_4' := of_decide_eq_true c_4
      obtain ⟨b_5, f_6, q_7⟩ := ((i_list.grow g0)).pos ω0
      refine ⟨by omega, by omega, b_5, f_6, q_7, ?_⟩
      refine ⟨((l_list).getD (t8 : Int).toNat 0), (i_list).rd g0 q_7 ω2 _, ?_⟩
      rw [show IntKind.wrap .i64 (t8 + 1) = (t8 + 1) from wrap64 ω2 ω2]
      refine impl_added_n1 (μ - 1) ω9 ⟨rfl, ω1, ω1, ω9, (by rw [show μ - 1 + 1 = μ from by first | omega]; exact e)⟩
    · have e := e.trans (cond_f c_4)
      have c_4' := of_decide_eq_false c_4
      rw [impl_added_x1_0]
      rw [e] at hk
      exact hk
theorem impl_added_ok : FnOk Try.prog 182 S_impl_added := by
  refine FnOk.body mix_ok E_impl_added_ok Try.func182 rfl (by kernel_rfl) (by kernel_rfl) ?_ ?_ ?_ ?_ ?_
  · intro args H K K' h hk
    simp only [S_impl_added] at *
    unfold F_impl_added at *
    split at hk
    · obtain ⟨l_list, i_list, bd_8, k⟩ := hk
      exact ⟨l_list, i_list, bd_8, h _ _ k⟩
    · exact hk.elim
  · intro _ args H K hk
    simp only [S_impl_added] at *
    unfold F_impl_added at *
    split at hk
    · obtain ⟨l_list, i_list, bd_8, k⟩ := hk
      exact ⟨_, k, fun K' k' => ⟨l_list, i_list, bd_8, k'⟩⟩
    · exact hk.elim
  · intro args H K hk
    simp only [S_impl_added] at *
    unfold F_impl_added at *
    split at hk
    · obtain ⟨l_list, i_list, bd_8, k⟩ := hk
      exact ⟨_, _, k⟩
    · exact hk.elim
  · intro hq; cases hq
  · have mm := @impl_added_main
    have ml := fun (args : List Value) (H : AHeap) (K : Value → AHeap → Prop) => bodyL_body (P := Try.prog) (env := E_impl_added ) (fn := Try.f182) (args := args) (H := H) (K := K) E_impl_added_ok 
    revert mm ml
    generalize bodyK Try.prog E_impl_added Try.f182 = Q
    generalize bodyL Try.prog E_impl_added Try.f182 = QL
    intro mm ml args H K hk
    simp only [S_impl_added] at *
    unfold F_impl_added at *
    split at hk
    · exact ml _ H K (mm _ _ _ H K hk)
    · exact hk.elim

def p_impl_mean (l_list : List Nat) : Nat := fdiv .f32 (p_impl_added l_list) (FloatKind.nearest .f32 (l_list.length : Int))
def p_impl_mean_eq := @p_impl_mean.eq_1
def T_impl_mean (list_a : Option Addr) (list_n : Nat) (list_e : Nat) (H : AHeap) (K : Nat → AHeap → Prop) : Prop := ∃ (l_list : List Nat), IsL fF H list_a list_n l_list ∧ l_list.length < 1073741824 ∧ K (p_impl_mean l_list) H
theorem T_impl_mean_i {list_a : Option Addr} {list_n : Nat} {list_e : Nat} {H : AHeap} {K : Nat → AHeap → Prop} (h : ∃ (l_list : List Nat), IsL fF H list_a list_n l_list ∧ l_list.length < 1073741824 ∧ K (p_impl_mean l_list) H) : T_impl_mean list_a list_n list_e H K := h

/-! impl_mean: function 132 -/
def E_impl_mean : Env := envOf [(182, S_impl_added)]
def F_impl_mean : List Value → AHeap → (Value → AHeap → Prop) → Prop
  | [.slice list_a list_n list_e], H, K => T_impl_mean list_a list_n list_e H fun (r1 : Nat) (H' : AHeap) => K (.float .f32 r1) H'
  | _, _, _ => False
def S_impl_mean : FSpec := { F := F_impl_mean, quiet := true, tame := false }
theorem impl_mean_vc (list_a : Option Addr) (list_n : Nat) (list_e : Nat) (H : AHeap) (K : Value → AHeap → Prop) : bodyL Try.prog E_impl_mean Try.f132 [.slice list_a list_n list_e] H K =
  (T_impl_added list_a list_n list_e H fun (r1 : Nat) (H1 : AHeap) => K (.float .f32 (fdiv .f32 r1 (FloatKind.nearest .f32 (list_n : Int)))) H1) := by kernel_rfl
theorem E_impl_mean_ok : ∀ g, FnOk Try.prog g (E_impl_mean g) := FnOk.envOf (by
  intro x hx
  simp only [List.mem_cons, List.not_mem_nil, or_false] at hx
  subst hx; exact impl_added_ok)
set_option maxHeartbeats 1000000 in
theorem impl_mean_main (list_a : Option Addr) (list_n : Nat) (list_e : Nat) (H : AHeap) (K : Value → AHeap → Prop) (h : T_impl_mean list_a list_n list_e H fun (r1 : Nat) (H' : AHeap) => K (.float .f32 r1) H') : bodyL Try.prog E_impl_mean Try.f132 [.slice list_a list_n list_e] H K := by
  rw [impl_mean_vc]
  obtain ⟨l_list, i_list, bd_1, hk⟩ := h
  obtain rfl := i_list.eqn
  have e : (p_impl_mean l_list) = _ := rfl
  have e := e.trans (p_impl_mean_eq l_list)
  have g0 := Grow.refl H
  refine T_impl_added_i ⟨_, (i_list.grow g0), ω0, ?_⟩
  rw [e] at hk
  exact hk
theorem impl_mean_ok : FnOk Try.prog 132 S_impl_mean := by
  refine FnOk.body mix_ok E_impl_mean_ok Try.func132 rfl (by kernel_rfl) (by kernel_rfl) ?_ ?_ ?_ ?_ ?_
  · intro args H K K' h hk
    simp only [S_impl_mean] at *
    unfold F_impl_mean at *
    split at hk
    · obtain ⟨l_list, i_list, bd_1, k⟩ := hk
      exact ⟨l_list, i_list, bd_1, h _ _ k⟩
    · exact hk.elim
  · intro _ args H K hk
    simp only [S_impl_mean] at *
    unfold F_impl_mean at *
    split at hk
    · obtain ⟨l_list, i_list, bd_1, k⟩ := hk
      exact ⟨_, k, fun K' k' => ⟨l_list, i_list, bd_1, k'⟩⟩
    · exact hk.elim
  · intro args H K hk
    simp only [S_impl_mean] at *
    unfold F_impl_mean at *
    split at hk
    · obtain ⟨l_list, i_list, bd_1, k⟩ := hk
      exact ⟨_, _, k⟩
    · exact hk.elim
  · intro hq; cases hq
  · have mm := @impl_mean_main
    have ml := fun (args : List Value) (H : AHeap) (K : Value → AHeap → Prop) => bodyL_body (P := Try.prog) (env := E_impl_mean ) (fn := Try.f132) (args := args) (H := H) (K := K) E_impl_mean_ok 
    revert mm ml
    generalize bodyK Try.prog E_impl_mean Try.f132 = Q
    generalize bodyL Try.prog E_impl_mean Try.f132 = QL
    intro mm ml args H K hk
    simp only [S_impl_mean] at *
    unfold F_impl_mean at *
    split at hk
    · exact ml _ H K (mm _ _ _ H K hk)
    · exact hk.elim

def p_impl_finiteList (l_list : List Nat) : (List Nat) × Bool := (bif !((p_impl_areFinite ([l_list]))) then ([], false) else (l_list, true))
def p_impl_finiteList_eq := @p_impl_finiteList.eq_1
def T_impl_finiteList (list_a : Option Addr) (list_n : Nat) (list_e : Nat) (H : AHeap) (K : (Option Addr) → Nat → Nat → Bool → AHeap → Prop) : Prop := ∃ (l_list : List Nat), IsL fF H list_a list_n l_list ∧ l_list.length < 1073741824 ∧ ((∀ H' : AHeap, Grow H H' → Br ((p_impl_finiteList l_list).2) (K list_a list_n list_e true H') (K none 0 0 false H')))
theorem T_impl_finiteList_i {list_a : Option Addr} {list_n : Nat} {list_e : Nat} {H : AHeap} {K : (Option Addr) → Nat → Nat → Bool → AHeap → Prop} (h : ∃ (l_list : List Nat), IsL fF H list_a list_n l_list ∧ l_list.length < 1073741824 ∧ ((∀ H' : AHeap, Grow H H' → Br ((p_impl_finiteList l_list).2) (K list_a list_n list_e true H') (K none 0 0 false H')))) : T_impl_finiteList list_a list_n list_e H K := h

/-! impl_finiteList: function 109 -/
def E_impl_finiteList : Env := envOf [(166, S_impl_areFinite)]
def F_impl_finiteList : List Value → AHeap → (Value → AHeap → Prop) → Prop
  | [.slice list_a list_n list_e], H, K => T_impl_finiteList list_a list_n list_e H fun (r1_a : Option Addr) (r1_n : Nat) (r1_e : Nat) (r2 : Bool) (H' : AHeap) => K (.tuple #[.slice r1_a r1_n r1_e, .bool r2]) H'
  | _, _, _ => False
def S_impl_finiteList : FSpec := { F := F_impl_finiteList, quiet := false, tame := true }
theorem impl_finiteList_vc (list_a : Option Addr) (list_n : Nat) (list_e : Nat) (H : AHeap) (K : Value → AHeap → Prop) : bodyL Try.prog E_impl_finiteList Try.f109 [.slice list_a list_n list_e] H K =
  (Al [.slice list_a list_n list_e] H fun b1 H1 => T_impl_areFinite (some ⟨b1, 0, none⟩) 1 1 H1 fun (r1 : Bool) (H2 : AHeap) => Br (!r1) (K (.tuple #[.slice none 0 0, .bool false]) H2) (K (.tuple #[.slice list_a list_n list_e, .bool true]) H2)) := by kernel_rfl
theorem E_impl_finiteList_ok : ∀ g, FnOk Try.prog g (E_impl_finiteList g) := FnOk.envOf (by
  intro x hx
  simp only [List.mem_cons, List.not_mem_nil, or_false] at hx
  subst hx; exact impl_areFinite_ok)
set_option maxHeartbeats 1000000 in
theorem impl_finiteList_main (list_a : Option Addr) (list_n : Nat) (list_e : Nat) (H : AHeap) (K : Value → AHeap → Prop) (h : T_impl_finiteList list_a list_n list_e H fun (r1_a : Option Addr) (r1_n : Nat) (r1_e : Nat) (r2 : Bool) (H' : AHeap) => K (.tuple #[.slice r1_a r1_n r1_e, .bool r2]) H') : bodyL Try.prog E_impl_finiteList Try.f109 [.slice list_a list_n list_e] H K := by
  rw [impl_finiteList_vc]
  obtain ⟨l_list, i_list, bd_12, hk⟩ := h
  obtain rfl := i_list.eqn
  have e : (p_impl_finiteList l_list) = _ := rfl
  have e := e.trans (p_impl_finiteList_eq l_list)
  have g0 := Grow.refl H
  refine Al.intro (fun b_1 H_1 hb_2 hl_3 g_4 o_5 => ?_)
  have l_7 := g_4.1
  have g_8 := g0.trans g_4
  have l_9 := g_8.1
  have w_11 := o_5.lt
  refine T_impl_areFinite_i ⟨[l_list], ⟨_, o_5.rdAll rfl, LLc.cons (i_list.grow g_8) (LLc.nil _ _)⟩, ω0, (by first | assumption | exact or_right (by assumption) (by omega) | exact or_right (by assumption : _ ∧ (_ ∨ _)).2 (by omega) | (intro y hy; simp only [List.mem_cons, List.not_mem_nil, or_false] at hy; first | omega | (subst hy; omega) | (rcases hy with rfl | rfl <;> omega) | (rcases hy with rfl | rfl | rfl <;> omega))), ?_⟩
  refine Br.intro (fun c_10 => ?_) (fun c_10 => ?_)
  · have e := e.trans (cond_t c_10)
    have c_10n := nf_of_t c_10
    have q := hk H_1 g_8
    rw [e] at q
    exact q
  · have e := e.trans (cond_f c_10)
    have c_10n := nt_of_f c_10
    have q := hk H_1 g_8
    rw [e] at q
    exact q
theorem impl_finiteList_ok : FnOk Try.prog 109 S_impl_finiteList := by
  refine FnOk.body mix_ok E_impl_finiteList_ok Try.func109 rfl (by kernel_rfl) (by kernel_rfl) ?_ ?_ ?_ ?_ ?_
  · intro args H K K' h hk
    simp only [S_impl_finiteList] at *
    unfold F_impl_finiteList at *
    split at hk
    · obtain ⟨l_list, i_list, bd_12, k⟩ := hk
      exact ⟨l_list, i_list, bd_12, (fun H' gg => Br_mono (h _ _) (h _ _) (k H' gg))⟩
    · exact hk.elim
  · intro hq; cases hq
  · intro args H K hk
    simp only [S_impl_finiteList] at *
    unfold F_impl_finiteList at *
    split at hk
    · obtain ⟨l_list, i_list, bd_12, k⟩ := hk
      exact Br_live (k H (Grow.refl H))
    · exact hk.elim
  · intro _ args H K hk
    simp only [S_impl_finiteList] at *
    unfold F_impl_finiteList at *
    split at hk
    · obtain ⟨l_list, i_list, bd_12, k⟩ := hk
      exact ⟨l_list, i_list, bd_12, (fun H' gg => Br_mono (fun q => ⟨gg, q⟩) (fun q => ⟨gg, q⟩) (k H' gg))⟩
    · exact hk.elim
  · have mm := @impl_finiteList_main
    have ml := fun (args : List Value) (H : AHeap) (K : Value → AHeap → Prop) => bodyL_body (P := Try.prog) (env := E_impl_finiteList ) (fn := Try.f109) (args := args) (H := H) (K := K) E_impl_finiteList_ok 
    revert mm ml
    generalize bodyK Try.prog E_impl_finiteList Try.f109 = Q
    generalize bodyL Try.prog E_impl_finiteList Try.f109 = QL
    intro mm ml args H K hk
    simp only [S_impl_finiteList] at *
    unfold F_impl_finiteList at *
    split at hk
    · exact ml _ H K (mm _ _ _ H K hk)
    · exact hk.elim

def p_impl_SeasonOf_l2 (l_list : List Nat) (period : Int) (l_vout : List Nat) (t25 : Int) (k2_2 : (List Nat) → Int → (List Nat) → ((List Nat) × Bool)) : Nat → (List Nat) → Int → (List Nat) → (List Nat) × Bool
  | 0, _, _, _ => ([], false)
  | μ2 + 1, l_vsome, i, y2_1 => (bif decide ((i : Int) < (l_list.length : Int)) then (p_impl_SeasonOf_l2 l_list period l_vout t25 k2_2 μ2 ((l_vsome ++ [(((l_list).getD (i : Int).toNat 0))])) (i + period) y2_1) else (k2_2 l_vsome i y2_1))
def p_impl_SeasonOf_l2_s := fun l_list period l_vout t25 k2_2 μ2 l_vsome i y2_1 => @p_impl_SeasonOf_l2.eq_2 l_list period l_vout t25 k2_2 l_vsome i y2_1 μ2
def p_impl_SeasonOf_l1 (l_list : List Nat) (period : Int) : Nat → (List Nat) → Int → (List Nat) × Bool
  | 0, _, _ => ([], false)
  | μ + 1, l_vout, t25 => (bif decide ((t25 : Int) < period) then (p_impl_SeasonOf_l2 l_list period l_vout t25 (fun (l_vsome : List Nat) (i : Int) (y2_1 : List Nat) => (p_impl_SeasonOf_l1 l_list period μ ((y2_1 ++ [(fsub .f32 (p_impl_mean l_vsome) (p_impl_mean l_list))])) (t25 + 1))) (Int.toNat ((l_list.length : Int) - t25) + 1) ([] : List Nat) t25 l_vout) else (bif (p_impl_finiteList l_vout).2 then (l_vout, true) else ([], false)))
def p_impl_SeasonOf_l1_s := fun l_list period μ l_vout t25 => @p_impl_SeasonOf_l1.eq_2 l_list period l_vout t25 μ
def p_impl_SeasonOf (l_list : List Nat) (period : Int) : (List Nat) × Bool := (bif !(p_impl_isLong l_list) then ([], false) else (bif !((p_impl_within period (1 : Int) (l_list.length : Int))) then ([], false) else (p_impl_SeasonOf_l1 l_list period (Int.toNat (period - (0 : Int)) + 1) ([] : List Nat) (0 : Int))))
def p_impl_SeasonOf_eq := @p_impl_SeasonOf.eq_1
def T_impl_SeasonOf (list_a : Option Addr) (list_n : Nat) (list_e : Nat) (period : Int) (H : AHeap) (K : (Option Addr) → Nat → Nat → Bool → AHeap → Prop) : Prop := ∃ (l_list : List Nat), IsL fF H list_a list_n l_list ∧ l_list.length < 1073741824 ∧ ((∀ (r1_a : Option Addr) (r1_n r1_e : Nat), ∀ H' : AHeap, Grow H H' → OwnS fF H' H.length r1_a r1_n r1_e ((p_impl_SeasonOf l_list period).1) → K r1_a r1_n r1_e ((p_impl_SeasonOf l_list period).2) H'))
theorem T_impl_SeasonOf_i {list_a : Option Addr} {list_n : Nat} {list_e : Nat} {period : Int} {H : AHeap} {K : (Option Addr) → Nat → Nat → Bool → AHeap → Prop} (h : ∃ (l_list : List Nat), IsL fF H list_a list_n l_list ∧ l_list.length < 1073741824 ∧ ((∀ (r1_a : Option Addr) (r1_n r1_e : Nat), ∀ H' : AHeap, Grow H H' → OwnS fF H' H.length r1_a r1_n r1_e ((p_impl_SeasonOf l_list period).1) → K r1_a r1_n r1_e ((p_impl_SeasonOf l_list period).2) H'))) : T_impl_SeasonOf list_a list_n list_e period H K := h
theorem impl_season_P {P : List Nat × Bool → Prop} {l : List Nat} {period : Int} (h1 : 1 ≤ period) (h2 : period ≤ 128) (hl : l.length ≤ 128) {vo : List Nat} {j : Int} {k : List Nat → Int → List Nat → List Nat × Bool} {y : List Nat} (hk : ∀ part i, P (k part i y)) :
    ∀ (μ : Nat) (part : List Nat) (i : Int), 0 ≤ i → (l.length : Int) - i ≤ μ → i ≤ 300 → P (p_impl_SeasonOf_l2 l period vo j k (μ + 1) part i y) := by
  intro μ
  induction μ with
  | zero =>
    intro part i h0 h hb
    rw [p_impl_SeasonOf_l2_s, decide_eq_false ω2, cond_false]; exact hk _ _
  | succ μ ih =>
    intro part i h0 h hb
    rw [p_impl_SeasonOf_l2_s]
    by_cases hi : i < (l.length : Int)
    · rw [decide_eq_true hi, cond_true]
      exact ih _ _ ω2 ω2 ω2
    · rw [decide_eq_false hi, cond_false]; exact hk _ _
theorem impl_season_go {l : List Nat} {period : Int} (h1 : 1 ≤ period) (h2 : period ≤ 128) (hl : l.length ≤ 128) : ∀ (μ : Nat) (o : List Nat) (j : Int), 0 ≤ j → j ≤ period → (o.length : Int) = j → period - j < μ →
    (p_impl_SeasonOf_l1 l period μ o j).1.length ≤ 128 ∧ ((p_impl_SeasonOf_l1 l period μ o j).2 = true → ((p_impl_SeasonOf_l1 l period μ o j).1.length : Int) = period) := by
  intro μ
  induction μ with
  | zero => intro o j _ _ _ h; omega
  | succ μ ih =>
    intro o j h0 hj ho h
    rw [p_impl_SeasonOf_l1_s]
    by_cases hi : j < period
    · rw [decide_eq_true hi, cond_true]
      refine impl_season_P (P := fun r => r.1.length ≤ 128 ∧ (r.2 = true → ((r.1.length : Nat) : Int) = period)) h1 h2 hl (fun part i => ?_) _ _ _ h0 ω2 ω2
      exact ih _ _ ω2 ω2 (by simp; omega) ω2
    · rw [decide_eq_false hi, cond_false]
      cases (p_impl_finiteList o).2
      · exact ⟨Nat.zero_le _, fun h => by cases h⟩
      · exact ⟨show o.length ≤ 128 by omega, fun _ => show (o.length : Int) = period by omega⟩
theorem impl_SeasonOf_both (l : List Nat) (period : Int) : (p_impl_SeasonOf l period).1.length ≤ 128 ∧ ((p_impl_SeasonOf l period).2 = true → 1 ≤ period ∧ ((p_impl_SeasonOf l period).1.length : Int) = period) := by
  rw [p_impl_SeasonOf_eq]
  cases h1 : p_impl_isLong l
  · exact ⟨Nat.zero_le _, fun h => by cases h⟩
  · cases h2 : p_impl_within period 1 (l.length : Int)
    · exact ⟨Nat.zero_le _, fun h => by cases h⟩
    · have a := impl_isLong_t h1
      have b := impl_within_t h2
      have := impl_season_go (l := l) b.1 ω2 ω2 (Int.toNat (period - (0 : Int)) + 1) [] 0 ω2 ω2 rfl ω2
      exact ⟨this.1, fun h => ⟨b.1, this.2 h⟩⟩
theorem impl_SeasonOf_len (l : List Nat) (period : Int) : (p_impl_SeasonOf l period).1.length ≤ 128 := (impl_SeasonOf_both l period).1
theorem impl_SeasonOf_t {l : List Nat} {period : Int} (h : (p_impl_SeasonOf l period).2 = true) : 1 ≤ period ∧ ((p_impl_SeasonOf l period).1.length : Int) = period := (impl_SeasonOf_both l period).2 h
/-! impl_SeasonOf: function 46 -/
def E_impl_SeasonOf : Env := envOf [(105, S_impl_isLong), (96, S_impl_within), (132, S_impl_mean), (109, S_impl_finiteList)]
def F_impl_SeasonOf : List Value → AHeap → (Value → AHeap → Prop) → Prop
  | [.slice list_a list_n list_e, .int .i64 period], H, K => T_impl_SeasonOf list_a list_n list_e period H fun (r1_a : Option Addr) (r1_n : Nat) (r1_e : Nat) (r2 : Bool) (H' : AHeap) => K (.tuple #[.slice r1_a r1_n r1_e, .bool r2]) H'
  | _, _, _ => False
def S_impl_SeasonOf : FSpec := { F := F_impl_SeasonOf, quiet := false, tame := true }
theorem impl_SeasonOf_vc (list_a : Option Addr) (list_n : Nat) (list_e : Nat) (period : Int) (H : AHeap) (K : Value → AHeap → Prop) : bodyL Try.prog E_impl_SeasonOf Try.f46 [.slice list_a list_n list_e, .int .i64 period] H K =
  (T_impl_isLong list_a list_n list_e H fun (r1 : Bool) (H1 : AHeap) => Br (!r1) (K (.tuple #[.slice none 0 0, .bool false]) H1) (T_impl_within period 1 (list_n : Int) H1 fun (r2 : Bool) (H2 : AHeap) => Br (!r2) (K (.tuple #[.slice none 0 0, .bool false]) H2) (T_impl_mean list_a list_n list_e H2 fun (r3 : Nat) (H3 : AHeap) => Al [] H3 fun b1 H4 => loopK (exL Try.prog E_impl_SeasonOf (cl (cl (cr (cl (cr (cr (cr (cr (bodyC Try.f46))))))))) 50331843 48 [(0, 128)]) [.slice list_a list_n list_e, .int .i64 period, ud, ud, ud, ud, .float .f32 r3, .slice (some ⟨b1, 0, none⟩) 0 1, ud, ud, ud, ud, ud, ud, ud, ud, ud, ud, ud, ud, ud, ud, ud, ud, .int .i64 period, .int .i64 0, ud, ud, ud, ud, ud, ud, ud, ud, ud, ud, ud, ud, ud, ud, ud, ud, ud, ud, ud, ud, ud, ud, ud, ud, ud, ud, ud, ud, ud, ud] H4 (blockQ 0 (seqQ (exL Try.prog E_impl_SeasonOf (cr (cr (cr (cr (cr (bodyC Try.f46)))))) 48 48 []) (retK Try.prog Try.f46 K)))))) := by kernel_rfl
abbrev impl_SeasonOf_P1 (list_a : Option Addr) (list_e : Nat) (list_n : Nat) (period : Int) (r3 : Nat) (vout_a : Option Addr) (vout_n : Nat) (vout_e : Nat) (t25 : Int)  : List Value := [.slice list_a list_n list_e, .int .i64 period, ud, ud, ud, ud, .float .f32 r3, .slice vout_a vout_n vout_e, ud, ud, ud, ud, ud, ud, ud, ud, ud, ud, ud, ud, ud, ud, ud, ud, .int .i64 period, .int .i64 t25, ud, ud, ud, ud, ud, ud, ud, ud, ud, ud, ud, ud, ud, ud, ud, ud, ud, ud, ud, ud, ud, ud, ud, ud, ud, ud, ud, ud, ud, ud]
theorem impl_SeasonOf_r1 (list_a : Option Addr) (list_e : Nat) (list_n : Nat) (period : Int) (r3 : Nat) (vout_a : Option Addr) (vout_n : Nat) (vout_e : Nat) (t25 : Int)  (H : AHeap) (R : Post) : exL Try.prog E_impl_SeasonOf (cl (cl (cr (cl (cr (cr (cr (cr (bodyC Try.f46))))))))) 50331843 48 [(0, 128)] (impl_SeasonOf_P1 list_a list_e list_n period r3 vout_a vout_n vout_e t25) H R =
  (Br (decide ((t25 : Int) < period)) (Al [] H fun b2 H5 => loopK (exL Try.prog E_impl_SeasonOf (cl (cl (cr (cl (cr (cr (cl (cl (cr (cr (cl (cl (cr (cl (cr (cr (cr (cr (bodyC Try.f46))))))))))))))))))) 50333379 48 [(2, 50332355), (1, 50331843), (0, 128)]) [.slice list_a list_n list_e, .int .i64 period, ud, ud, ud, ud, .float .f32 r3, .slice vout_a vout_n vout_e, ud, .slice (some ⟨b2, 0, none⟩) 0 1, .int .i64 t25, ud, ud, ud, ud, ud, ud, ud, ud, ud, ud, ud, ud, ud, .int .i64 period, .int .i64 t25, ud, ud, ud, ud, ud, ud, ud, ud, ud, ud, ud, ud, ud, ud, ud, ud, ud, ud, ud, ud, ud, ud, ud, ud, ud, ud, ud, ud, ud, ud] H5 (blockQ 2 (seqQ (exL Try.prog E_impl_SeasonOf (cr (cr (cr (cl (cl (cr (cr (cl (cl (cr (cl (cr (cr (cr (cr (bodyC Try.f46)))))))))))))))) 50331843 48 [(1, 50331843), (0, 128)]) (blockQ 1 (seqQ (exL Try.prog E_impl_SeasonOf (cr (cr (cr (cl (cl (cr (cl (cr (cr (cr (cr (bodyC Try.f46)))))))))))) 50331843 48 [(0, 128)]) (R)))))) (R (.exit 0) [ud, ud, ud, ud, ud, ud, ud, .slice vout_a vout_n vout_e, ud, ud, ud, ud, ud, ud, ud, ud, ud, ud, ud, ud, ud, ud, ud, ud, ud, ud, ud, ud, ud, ud, ud, ud, ud, ud, ud, ud, ud, ud, ud, ud, ud, ud, ud, ud, ud, ud, ud, ud, ud, ud, ud, ud, ud, ud, ud, ud] H)) := by kernel_rfl
def impl_SeasonOf_I1 (list_a : Option Addr) (list_e : Nat) (list_n : Nat) (period : Int) (r3 : Nat) (Inv : Nat → (Option Addr) → Nat → Nat → Int → AHeap → Prop) : Nat → List Value → AHeap → Prop := fun μ tm H => ∃ (vout_a : Option Addr), ∃ (vout_n : Nat), ∃ (vout_e : Nat), ∃ (t25 : Int), tm = (impl_SeasonOf_P1 list_a list_e list_n period r3 vout_a vout_n vout_e t25) ∧ Inv μ vout_a vout_n vout_e t25 H
theorem impl_SeasonOf_L1 (list_a : Option Addr) (list_e : Nat) (list_n : Nat) (period : Int) (r3 : Nat) {Q : Post} (Inv : Nat → (Option Addr) → Nat → Nat → Int → AHeap → Prop) (ν : Nat) (vout_a : Option Addr) (vout_n : Nat) (vout_e : Nat) (t25 : Int)  (H : AHeap) (h0 : Inv ν vout_a vout_n vout_e t25 H)
    (hs : ∀ (μ : Nat) (vout_a : Option Addr) (vout_n : Nat) (vout_e : Nat) (t25 : Int)  (H : AHeap), Inv μ vout_a vout_n vout_e t25 H → exL Try.prog E_impl_SeasonOf (cl (cl (cr (cl (cr (cr (cr (cr (bodyC Try.f46))))))))) 50331843 48 [(0, 128)] (impl_SeasonOf_P1 list_a list_e list_n period r3 vout_a vout_n vout_e t25) H (loopQ (impl_SeasonOf_I1 list_a list_e list_n period r3 Inv) μ Q)) : loopK (exL Try.prog E_impl_SeasonOf (cl (cl (cr (cl (cr (cr (cr (cr (bodyC Try.f46))))))))) 50331843 48 [(0, 128)]) (impl_SeasonOf_P1 list_a list_e list_n period r3 vout_a vout_n vout_e t25) H Q :=
  ⟨impl_SeasonOf_I1 list_a list_e list_n period r3 Inv, ν, ⟨vout_a, vout_n, vout_e, t25, rfl, h0⟩, fun μ tm H h => by obtain ⟨vout_a, vout_n, vout_e, t25, rfl, hI⟩ := h; exact hs μ vout_a vout_n vout_e t25  H hI⟩
theorem impl_SeasonOf_n1 {list_a : Option Addr} {list_e : Nat} {list_n : Nat} {period : Int} {r3 : Nat} {Q : Post} {Inv : Nat → (Option Addr) → Nat → Nat → Int → AHeap → Prop} {μ : Nat} (μ' : Nat) {vout_a : Option Addr} {vout_n : Nat} {vout_e : Nat} {t25 : Int}  {H : AHeap} (hm : μ' < μ) (hI : Inv μ' vout_a vout_n vout_e t25 H) : loopQ (impl_SeasonOf_I1 list_a list_e list_n period r3 Inv) μ Q .normal (impl_SeasonOf_P1 list_a list_e list_n period r3 vout_a vout_n vout_e t25) H := ⟨μ', hm, vout_a, vout_n, vout_e, t25, rfl, hI⟩
theorem impl_SeasonOf_x1_0 (vout_a : Option Addr) (vout_n : Nat) (vout_e : Nat) (H : AHeap) (K : Value → AHeap → Prop)  {I : Nat → List Value → AHeap → Prop} {μ : Nat} : loopQ I μ (blockQ 0 (seqQ (exL Try.prog E_impl_SeasonOf (cr (cr (cr (cr (cr (bodyC Try.f46)))))) 48 48 []) (retK Try.prog Try.f46 K))) (.exit 0) [ud, ud, ud, ud, ud, ud, ud, .slice vout_a vout_n vout_e, ud, ud, ud, ud, ud, ud, ud, ud, ud, ud, ud, ud, ud, ud, ud, ud, ud, ud, ud, ud, ud, ud, ud, ud, ud, ud, ud, ud, ud, ud, ud, ud, ud, ud, ud, ud, ud, ud, ud, ud, ud, ud, ud, ud, ud, ud, ud, ud] H =
  (T_impl_finiteList vout_a vout_n vout_e H fun (a1 : Option Addr) (r5 : Nat) (r6 : Nat) (r7 : Bool) (H11 : AHeap) => K (.tuple #[.slice a1 r5 r6, .bool r7]) H11) := by kernel_rfl
abbrev impl_SeasonOf_P2 (list_a : Option Addr) (list_e : Nat) (list_n : Nat) (period : Int) (r3 : Nat) (t25 : Int) (vout_a : Option Addr) (vout_e : Nat) (vout_n : Nat) (vsome_a : Option Addr) (vsome_n : Nat) (vsome_e : Nat) (i : Int)  : List Value := [.slice list_a list_n list_e, .int .i64 period, ud, ud, ud, ud, .float .f32 r3, .slice vout_a vout_n vout_e, ud, .slice vsome_a vsome_n vsome_e, .int .i64 i, ud, ud, ud, ud, ud, ud, ud, ud, ud, ud, ud, ud, ud, .int .i64 period, .int .i64 t25, ud, ud, ud, ud, ud, ud, ud, ud, ud, ud, ud, ud, ud, ud, ud, ud, ud, ud, ud, ud, ud, ud, ud, ud, ud, ud, ud, ud, ud, ud]
theorem impl_SeasonOf_r2 (list_a : Option Addr) (list_e : Nat) (list_n : Nat) (period : Int) (r3 : Nat) (t25 : Int) (vout_a : Option Addr) (vout_e : Nat) (vout_n : Nat) (vsome_a : Option Addr) (vsome_n : Nat) (vsome_e : Nat) (i : Int)  (H : AHeap) (R : Post) : exL Try.prog E_impl_SeasonOf (cl (cl (cr (cl (cr (cr (cl (cl (cr (cr (cl (cl (cr (cl (cr (cr (cr (cr (bodyC Try.f46))))))))))))))))))) 50333379 48 [(2, 50332355), (1, 50331843), (0, 128)] (impl_SeasonOf_P2 list_a list_e list_n period r3 t25 vout_a vout_e vout_n vsome_a vsome_n vsome_e i) H R =
  (Br (decide ((i : Int) < (list_n : Int))) ((0 : Int) ≤ i ∧ i < (list_n : Int) ∧ ∃ b3 f1, (list_a : Option Addr) = some ⟨b3, f1, none⟩ ∧ ∃ x1 : Nat,  rdC H b3 (f1 + (i : Int).toNat * 1) = some (.float .f32 x1) ∧ Al [.float .f32 x1] H fun b4 H6 => ∃ o1 w1 : List Value, ownB H6 vsome_a vsome_n vsome_e 1 = some o1 ∧ rdS H6 (some ⟨b4, 0, none⟩) (1 * 1) = some w1 ∧ ((vsome_a : Option Addr) = none → 0 < (1 : Nat)) ∧ (vsome_n : Nat) + 1 < most ∧ Ap H6 (killB H6 vsome_a ++ [some ⟨o1 ++ w1, true⟩]) fun b5 H7 => R .normal [.slice list_a list_n list_e, .int .i64 period, ud, ud, ud, ud, .float .f32 r3, .slice vout_a vout_n vout_e, ud, .slice (some ⟨b5, 0, none⟩) (vsome_n + 1) 1, .int .i64 (IntKind.wrap .i64 (i + period)), ud, ud, ud, ud, ud, ud, ud, ud, ud, ud, ud, ud, ud, .int .i64 period, .int .i64 t25, ud, ud, ud, ud, ud, ud, ud, ud, ud, ud, ud, ud, ud, ud, ud, ud, ud, ud, ud, ud, ud, ud, ud, ud, ud, ud, ud, ud, ud, ud] H7) (R (.exit 2) [.slice list_a list_n list_e, .int .i64 period, ud, ud, ud, ud, .float .f32 r3, .slice vout_a vout_n vout_e, ud, .slice vsome_a vsome_n vsome_e, ud, ud, ud, ud, ud, ud, ud, ud, ud, ud, ud, ud, ud, ud, .int .i64 period, .int .i64 t25, ud, ud, ud, ud, ud, ud, ud, ud, ud, ud, ud, ud, ud, ud, ud, ud, ud, ud, ud, ud, ud, ud, ud, ud, ud, ud, ud, ud, ud, ud] H)) := by kernel_rfl
def impl_SeasonOf_I2 (list_a : Option Addr) (list_e : Nat) (list_n : Nat) (period : Int) (r3 : Nat) (t25 : Int) (vout_a : Option Addr) (vout_e : Nat) (vout_n : Nat) (Inv : Nat → (Option Addr) → Nat → Nat → Int → AHeap → Prop) : Nat → List Value → AHeap → Prop := fun μ tm H => ∃ (vsome_a : Option Addr), ∃ (vsome_n : Nat), ∃ (vsome_e : Nat), ∃ (i : Int), tm = (impl_SeasonOf_P2 list_a list_e list_n period r3 t25 vout_a vout_e vout_n vsome_a vsome_n vsome_e i) ∧ Inv μ vsome_a vsome_n vsome_e i H
theorem impl_SeasonOf_L2 (list_a : Option Addr) (list_e : Nat) (list_n : Nat) (period : Int) (r3 : Nat) (t25 : Int) (vout_a : Option Addr) (vout_e : Nat) (vout_n : Nat) {Q : Post} (Inv : Nat → (Option Addr) → Nat → Nat → Int → AHeap → Prop) (ν : Nat) (vsome_a : Option Addr) (vsome_n : Nat) (vsome_e : Nat) (i : Int)  (H : AHeap) (h0 : Inv ν vsome_a vsome_n vsome_e i H)
    (hs : ∀ (μ : Nat) (vsome_a : Option Addr) (vsome_n : Nat) (vsome_e : Nat) (i : Int)  (H : AHeap), Inv μ vsome_a vsome_n vsome_e i H → exL Try.prog E_impl_SeasonOf (cl (cl (cr (cl (cr (cr (cl (cl (cr (cr (cl (cl (cr (cl (cr (cr (cr (cr (bodyC Try.f46))))))))))))))))))) 50333379 48 [(2, 50332355), (1, 50331843), (0, 128)] (impl_SeasonOf_P2 list_a list_e list_n period r3 t25 vout_a vout_e vout_n vsome_a vsome_n vsome_e i) H (loopQ (impl_SeasonOf_I2 list_a list_e list_n period r3 t25 vout_a vout_e vout_n Inv) μ Q)) : loopK (exL Try.prog E_impl_SeasonOf (cl (cl (cr (cl (cr (cr (cl (cl (cr (cr (cl (cl (cr (cl (cr (cr (cr (cr (bodyC Try.f46))))))))))))))))))) 50333379 48 [(2, 50332355), (1, 50331843), (0, 128)]) (impl_SeasonOf_P2 list_a list_e list_n period r3 t25 vout_a vout_e vout_n vsome_a vsome_n vsome_e i) H Q :=
  ⟨impl_SeasonOf_I2 list_a list_e list_n period r3 t25 vout_a vout_e vout_n Inv, ν, ⟨vsome_a, vsome_n, vsome_e, i, rfl, h0⟩, fun μ tm H h => by obtain ⟨vsome_a, vsome_n, vsome_e, i, rfl, hI⟩ := h; exact hs μ vsome_a vsome_n vsome_e i  H hI⟩
theorem impl_SeasonOf_n2 {list_a : Option Addr} {list_e : Nat} {list_n : Nat} {period : Int} {r3 : Nat} {t25 : Int} {vout_a : Option Addr} {vout_e : Nat} {vout_n : Nat} {Q : Post} {Inv : Nat → (Option Addr) → Nat → Nat → Int → AHeap → Prop} {μ : Nat} (μ' : Nat) {vsome_a : Option Addr} {vsome_n : Nat} {vsome_e : Nat} {i : Int}  {H : AHeap} (hm : μ' < μ) (hI : Inv μ' vsome_a vsome_n vsome_e i H) : loopQ (impl_SeasonOf_I2 list_a list_e list_n period r3 t25 vout_a vout_e vout_n Inv) μ Q .normal (impl_SeasonOf_P2 list_a list_e list_n period r3 t25 vout_a vout_e vout_n vsome_a vsome_n vsome_e i) H := ⟨μ', hm, vsome_a, vsome_n, vsome_e, i, rfl, hI⟩
theorem impl_SeasonOf_x2_2 (list_a : Option Addr) (list_e : Nat) (list_n : Nat) (period : Int) (r3 : Nat) (t25 : Int) (vout_a : Option Addr) (vout_e : Nat) (vout_n : Nat) (vsome_a : Option Addr) (vsome_n : Nat) (vsome_e : Nat) (H : AHeap)  (R : Post) {I : Nat → List Value → AHeap → Prop} {μ : Nat} : loopQ I μ (blockQ 2 (seqQ (exL Try.prog E_impl_SeasonOf (cr (cr (cr (cl (cl (cr (cr (cl (cl (cr (cl (cr (cr (cr (cr (bodyC Try.f46)))))))))))))))) 50331843 48 [(1, 50331843), (0, 128)]) (blockQ 1 (seqQ (exL Try.prog E_impl_SeasonOf (cr (cr (cr (cl (cl (cr (cl (cr (cr (cr (cr (bodyC Try.f46)))))))))))) 50331843 48 [(0, 128)]) (R))))) (.exit 2) [.slice list_a list_n list_e, .int .i64 period, ud, ud, ud, ud, .float .f32 r3, .slice vout_a vout_n vout_e, ud, .slice vsome_a vsome_n vsome_e, ud, ud, ud, ud, ud, ud, ud, ud, ud, ud, ud, ud, ud, ud, .int .i64 period, .int .i64 t25, ud, ud, ud, ud, ud, ud, ud, ud, ud, ud, ud, ud, ud, ud, ud, ud, ud, ud, ud, ud, ud, ud, ud, ud, ud, ud, ud, ud, ud, ud] H =
  (T_impl_mean vsome_a vsome_n vsome_e H fun (r4 : Nat) (H8 : AHeap) => Al [.float .f32 (fsub .f32 r4 r3)] H8 fun b6 H9 => ∃ o2 w2 : List Value, ownB H9 vout_a vout_n vout_e 1 = some o2 ∧ rdS H9 (some ⟨b6, 0, none⟩) (1 * 1) = some w2 ∧ ((vout_a : Option Addr) = none → 0 < (1 : Nat)) ∧ (vout_n : Nat) + 1 < most ∧ Ap H9 (killB H9 vout_a ++ [some ⟨o2 ++ w2, true⟩]) fun b7 H10 => R .normal [.slice list_a list_n list_e, .int .i64 period, ud, ud, ud, ud, .float .f32 r3, .slice (some ⟨b7, 0, none⟩) (vout_n + 1) 1, ud, ud, ud, ud, ud, ud, ud, ud, ud, ud, ud, ud, ud, ud, ud, ud, .int .i64 period, .int .i64 (IntKind.wrap .i64 (t25 + 1)), ud, ud, ud, ud, ud, ud, ud, ud, ud, ud, ud, ud, ud, ud, ud, ud, ud, ud, ud, ud, ud, ud, ud, ud, ud, ud, ud, ud, ud, ud] H10) := by kernel_rfl
theorem E_impl_SeasonOf_ok : ∀ g, FnOk Try.prog g (E_impl_SeasonOf g) := FnOk.envOf (by
  intro x hx
  simp only [List.mem_cons, List.not_mem_nil, or_false] at hx
  rcases hx with rfl | rfl | rfl | rfl
  · exact impl_isLong_ok
  · exact impl_within_ok
  · exact impl_mean_ok
  · exact impl_finiteList_ok)
theorem ω10 {P : Prop} (h : P := by first | exact OwnS.nil _ _ _ _ | exact OwnT.nil _ _ _ | exact OwnLL.nil _ _ _ _) : P := h
set_option maxHeartbeats 1000000 in
theorem impl_SeasonOf_main (list_a : Option Addr) (list_n : Nat) (list_e : Nat) (period : Int) (H : AHeap) (K : Value → AHeap → Prop) (h : T_impl_SeasonOf list_a list_n list_e period H fun (r1_a : Option Addr) (r1_n : Nat) (r1_e : Nat) (r2 : Bool) (H' : AHeap) => K (.tuple #[.slice r1_a r1_n r1_e, .bool r2]) H') : bodyL Try.prog E_impl_SeasonOf Try.f46 [.slice list_a list_n list_e, .int .i64 period] H K := by
  rw [impl_SeasonOf_vc]
  obtain ⟨l_list, i_list, bd_123, hk⟩ := h
  obtain rfl := i_list.eqn
  have e : (p_impl_SeasonOf l_list period) = _ := rfl
  have e := e.trans (p_impl_SeasonOf_eq l_list period)
  have g0 := Grow.refl H
  refine T_impl_isLong_i ⟨_, (i_list.grow g0), ω0, fun  H_1 g_1  => ?_⟩
  have l_2 := g_1.1
  have g_3 := g0.trans g_1
  have l_4 := g_3.1
  refine Br.intro (fun c_5 => ?_) (fun c_5 => ?_)
  · have e := e.trans (cond_t c_5)
    have c_5n := nf_of_t c_5
    rw [e] at hk
    exact hk _ _ _ H_1 g_3 ω10
  · have e := e.trans (cond_f c_5)
    have c_5n := nt_of_f c_5
    have c_5n' := impl_isLong_t c_5n
    refine T_impl_within_i ?_
    refine Br.intro (fun c_6 => ?_) (fun c_6 => ?_)
    · have e := e.trans (cond_t c_6)
      have c_6n := nf_of_t c_6
      rw [e] at hk
      exact hk _ _ _ H_1 g_3 ω10
    · have e := e.trans (cond_f c_6)
      have c_6n := nt_of_f c_6
      have c_6n' := impl_within_t c_6n
      refine T_impl_mean_i ⟨_, (i_list.grow g_3), ω0, ?_⟩
      refine Al.intro (fun b_7 H_2 hb_8 hl_9 g_10 o_11 => ?_)
      have o_11 : Own H_2 b_7 ((([] : List Nat)).map fF) := o_11
      have l_13 := g_10.1
      have g_14 := g_3.trans g_10
      have l_15 := g_14.1
      have w_122 := o_11.lt
      refine impl_SeasonOf_L1 _ _ _ _ _ (fun (μ : Nat) (vout_a : Option Addr) (vout_n : Nat) (vout_e : Nat) (t25 : Int) (H_3 : AHeap) => ∃ (l_vout : List Nat), ∃ (b_16 : Nat), vout_a = some ⟨b_16, 0, none⟩ ∧ vout_n = l_vout.length ∧ vout_e = 1 ∧ Own H_3 b_16 (l_vout.map fF) ∧ Grow H H_3 ∧ H.length ≤ b_16 ∧ (0 : Int) ≤ t25 ∧ ((t25 ≤ period ∨ t25 ≤ (0 : Int))) ∧ (l_vout.length : Int) ≤ t25 - (0 : Int) + 0 ∧ period - t25 ≤ (μ : Int) ∧ p_impl_SeasonOf l_list period = p_impl_SeasonOf_l1 l_list period (μ + 1) l_vout t25) (Int.toNat (period - (0 : Int))) _ _ _ _ H_2 ?_ ?_
      · exact ⟨_, _, rfl, ω3, rfl, o_11, g_14, ω2, ω5, ω5, ω5, ω2, e⟩
      · intro μ vout_a vout_n vout_e t25  H_3 hI
        obtain ⟨l_vout, b_16, rfl, rfl, rfl, o_17, g_18, l_19, v_20, v_21, v_22, hμ, e⟩ := hI
        rw [impl_SeasonOf_r1]
        have e := e.trans (p_impl_SeasonOf_l1_s l_list period μ l_vout t25)
        have w_23 := o_17.lt
        have l_24 := g_18.1
        refine Br.intro (fun c_25 => ?_) (fun c_25 => ?_)
        · have e := e.trans (cond_t c_25)
          have c_25' := of_decide_eq_true c_25
          refine Al.intro (fun b_26 H_4 hb_27 hl_28 g_29 o_30 => ?_)
          have o_30 : Own H_4 b_26 ((([] : List Nat)).map fF) := o_30
          have l_32 := g_29.1
          have g_33 := g_18.trans g_29
          have l_34 := g_33.1
          have o_35 := o_17.grow g_29
          have w_36 := o_35.lt
          have w_110 := o_30.lt
          refine impl_SeasonOf_L2 _ _ _ _ _ _ _ _ _ (fun (μ2 : Nat) (vsome_a : Option Addr) (vsome_n : Nat) (vsome_e : Nat) (i : Int) (H_5 : AHeap) => ∃ (l_vsome : List Nat), ∃ (b_37 : Nat), ∃ (y2_1 : List Nat), vsome_a = some ⟨b_37, 0, none⟩ ∧ vsome_n = l_vsome.length ∧ vsome_e = 1 ∧ Own H_5 b_37 (l_vsome.map fF) ∧ Own H_5 b_16 (y2_1.map fF) ∧ y2_1.length = l_vout.length ∧ (b_37 ≠ b_16) ∧ Grow H H_5 ∧ H.length ≤ b_37 ∧ t25 ≤ i ∧ (l_vsome.length : Int) ≤ i - t25 + 0 ∧ i ≤ (l_list.length : Int) + period ∧ (l_list.length : Int) - i ≤ (μ2 : Int) ∧ p_impl_SeasonOf l_list period = p_impl_SeasonOf_l2 l_list period l_vout t25 (fun (l_vsome : List Nat) (i : Int) (y2_1 : List Nat) => (p_impl_SeasonOf_l1 l_list period μ ((y2_1 ++ [(fsub .f32 (p_impl_mean l_vsome) (p_impl_mean l_list))])) (t25 + 1))) (μ2 + 1) l_vsome i y2_1) (Int.toNat ((l_list.length : Int) - t25)) _ _ _ _ H_4 ?_ ?_
          · exact ⟨_, _, _, rfl, ω3, rfl, o_30, o_35, (by first | rfl | assumption | omega | (simp; done)), ω2, g_33, ω2, ω5, ω5, ω5, ω2, e⟩
          · intro μ2 vsome_a vsome_n vsome_e i  H_5 hI
            obtain ⟨l_vsome, b_37, y2_1, rfl, rfl, rfl, o_38, o_39, y_40, n_41, g_42, l_43, v_44, v_45, v_46, hμ, e⟩ := hI
            rw [impl_SeasonOf_r2]
            have e := e.trans (p_impl_SeasonOf_l2_s l_list period l_vout t25 (fun (l_vsome : List Nat) (i : Int) (y2_1 : List Nat) => (p_impl_SeasonOf_l1 l_list period μ ((y2_1 ++ [(fsub .f32 (p_impl_mean l_vsome) (p_impl_mean l_list))])) (t25 + 1))) μ2 l_vsome i y2_1)
            have w_47 := o_39.lt
            have w_48 := o_38.lt
            have l_49 := g_42.1
            refine Br.intro (fun c_50 => ?_) (fun c_50 => ?_)
            · have e := e.trans (cond_t c_50)
              have c_50' := of_decide_eq_true c_50
              obtain ⟨b_51, f_52, q_53⟩ := ((i_list.grow g_42)).pos ω0
              refine ⟨by omega, by omega, b_51, f_52, q_53, ?_⟩
              refine ⟨((l_list).getD (i : Int).toNat 0), (i_list).rd g_42 q_53 ω2 _, ?_⟩
              refine Al.intro (fun b_54 H_6 hb_55 hl_56 g_57 o_58 => ?_)
              have o_58 : Own H_6 b_54 (([(((l_list).getD (i : Int).toNat 0))]).map fF) := o_58
              have l_60 := g_57.1
              have g_61 := g_42.trans g_57
              have l_62 := g_61.1
              have o_63 := o_39.grow g_57
              have w_64 := o_63.lt
              have o_65 := o_38.grow g_57
              have w_66 := o_65.lt
              have w_81 := o_58.lt
              refine ⟨_, _, o_65.ownB ω4 rfl, (isl_rdS (o_58.isL ω3)), (fun h => by cases h), ω12, ?_⟩
              refine Ap.app o_65 rfl rfl (fun b_71 H_7 q_79 hl_67 o_68 k_69 => ?_)
              have o_68 := map_snoc o_68
              have l_72 := k_69.1
              have g_73 := g_61.keep (b := b_37) ω2 k_69
              have l_74 := g_73.1
              have o_75 := o_63.keep ω2 k_69
              have w_76 := o_75.lt
              have o_77 := o_58.keep ω2 k_69
              have w_78 := o_77.lt
              have w_80 := o_68.lt
              rw [show IntKind.wrap .i64 (i + period) = (i + period) from wrap64 ω2 ω2]
              refine impl_SeasonOf_n2 (μ2 - 1) ω9 ⟨_, _, _, rfl, ω6, rfl, o_68, o_75, (by first | assumption | omega | (simp only [List.length_set]; first | rfl | assumption | omega)), ω2, g_73, ω2, ω1, ω1, ω1, ω9, (by rw [show μ2 - 1 + 1 = μ2 from by first | omega]; exact e)⟩
            · have e := e.trans (cond_f c_50)
              have c_50' := of_decide_eq_false c_50
              rw [impl_SeasonOf_x2_2]
              refine T_impl_mean_i ⟨_, (o_38.isL ω3), ω0, ?_⟩
              refine Al.intro (fun b_82 H_8 hb_83 hl_84 g_85 o_86 => ?_)
              have o_86 : Own H_8 b_82 (([(fsub .f32 (p_impl_mean l_vsome) (p_impl_mean l_list))]).map fF) := o_86
              have l_88 := g_85.1
              have g_89 := g_42.trans g_85
              have l_90 := g_89.1
              have o_91 := o_39.grow g_85
              have w_92 := o_91.lt
              have o_93 := o_38.grow g_85
              have w_94 := o_93.lt
              have w_109 := o_86.lt
              refine ⟨_, _, o_91.ownB ω4 rfl, (isl_rdS (o_86.isL ω3)), (fun h => by cases h), ω12, ?_⟩
              refine Ap.app o_91 rfl rfl (fun b_99 H_9 q_107 hl_95 o_96 k_97 => ?_)
              have o_96 := map_snoc o_96
              have l_100 := k_97.1
              have g_101 := g_89.keep (b := b_16) ω2 k_97
              have l_102 := g_101.1
              have o_103 := o_93.keep ω2 k_97
              have w_104 := o_103.lt
              have o_105 := o_86.keep ω2 k_97
              have w_106 := o_105.lt
              have w_108 := o_96.lt
              rw [show IntKind.wrap .i64 (t25 + 1) = (t25 + 1) from wrap64 ω2 ω2]
              refine impl_SeasonOf_n1 (μ - 1) ω9 ⟨_, _, rfl, ω6, rfl, o_96, g_101, ω2, ω1, ω1, ω1, ω9, (by rw [show μ - 1 + 1 = μ from by first | omega]; exact e)⟩
        · have e := e.trans (cond_f c_25)
          have c_25' := of_decide_eq_false c_25
          rw [impl_SeasonOf_x1_0]
          refine T_impl_finiteList_i ⟨_, (o_17.isL ω3), ω0, (fun H_10 g_115 => ?_)⟩
          have l_117 := g_115.1
          have g_118 := g_18.trans g_115
          have l_119 := g_118.1
          have o_120 := o_17.grow g_115
          have w_121 := o_120.lt
          refine Br.intro (fun c_116 => ?_) (fun c_116 => ?_)
          · have e := e.trans (cond_t c_116)
            rw [e] at hk
            exact hk _ _ _ H_10 g_118 (o_120.ownS ω3 ω2)
          · have e := e.trans (cond_f c_116)
            rw [e] at hk
            exact hk _ _ _ H_10 g_118 ω10
theorem impl_SeasonOf_ok : FnOk Try.prog 46 S_impl_SeasonOf := by
  refine FnOk.body mix_ok E_impl_SeasonOf_ok Try.func46 rfl (by kernel_rfl) (by kernel_rfl) ?_ ?_ ?_ ?_ ?_
  · intro args H K K' h hk
    simp only [S_impl_SeasonOf] at *
    unfold F_impl_SeasonOf at *
    split at hk
    · obtain ⟨l_list, i_list, bd_123, k⟩ := hk
      exact ⟨l_list, i_list, bd_123, (fun r1_a r1_n r1_e H' gg ow0 => h _ _ (k r1_a r1_n r1_e H' gg ow0))⟩
    · exact hk.elim
  · intro hq; cases hq
  · intro args H K hk
    simp only [S_impl_SeasonOf] at *
    unfold F_impl_SeasonOf at *
    split at hk
    · obtain ⟨l_list, i_list, bd_123, k⟩ := hk
      exact liveS fun a n e H1 g o => ⟨_, _, k a n e H1 g o⟩
    · exact hk.elim
  · intro _ args H K hk
    simp only [S_impl_SeasonOf] at *
    unfold F_impl_SeasonOf at *
    split at hk
    · obtain ⟨l_list, i_list, bd_123, k⟩ := hk
      exact ⟨l_list, i_list, bd_123, (fun r1_a r1_n r1_e H' gg ow0 => ⟨gg, k r1_a r1_n r1_e H' gg ow0⟩)⟩
    · exact hk.elim
  · have mm := @impl_SeasonOf_main
    have ml := fun (args : List Value) (H : AHeap) (K : Value → AHeap → Prop) => bodyL_body (P := Try.prog) (env := E_impl_SeasonOf ) (fn := Try.f46) (args := args) (H := H) (K := K) E_impl_SeasonOf_ok 
    revert mm ml
    generalize bodyK Try.prog E_impl_SeasonOf Try.f46 = Q
    generalize bodyL Try.prog E_impl_SeasonOf Try.f46 = QL
    intro mm ml args H K hk
    simp only [S_impl_SeasonOf] at *
    unfold F_impl_SeasonOf at *
    split at hk
    · exact ml _ H K (mm _ _ _ _ H K hk)
    · exact hk.elim

def p_impl_WithoutSeason_l1 (l_list : List Nat) (period : Int) : Nat → (List Nat) → Int → (List Nat) × Bool
  | 0, _, _ => ([], false)
  | μ + 1, l_vout, t22 => (bif decide ((t22 : Int) < (l_list.length : Int)) then (p_impl_WithoutSeason_l1 l_list period μ ((l_vout ++ [(fsub .f32 (((l_list).getD (t22 : Int).toNat 0)) ((((p_impl_SeasonOf l_list period).1).getD (Int.tmod t22 period : Int).toNat 0)))])) (t22 + 1)) else (bif (p_impl_finiteList l_vout).2 then (l_vout, true) else ([], false)))
def p_impl_WithoutSeason_l1_s := fun l_list period μ l_vout t22 => @p_impl_WithoutSeason_l1.eq_2 l_list period l_vout t22 μ
def p_impl_WithoutSeason (l_list : List Nat) (period : Int) : (List Nat) × Bool := (bif !((p_impl_SeasonOf l_list period).2) then ([], false) else (p_impl_WithoutSeason_l1 l_list period (Int.toNat ((l_list.length : Int) - (0 : Int)) + 1) ([] : List Nat) (0 : Int)))
def p_impl_WithoutSeason_eq := @p_impl_WithoutSeason.eq_1
def T_impl_WithoutSeason (list_a : Option Addr) (list_n : Nat) (list_e : Nat) (period : Int) (H : AHeap) (K : (Option Addr) → Nat → Nat → Bool → AHeap → Prop) : Prop := ∃ (l_list : List Nat), IsL fF H list_a list_n l_list ∧ l_list.length < 1073741824 ∧ ((∀ (r1_a : Option Addr) (r1_n r1_e : Nat), ∀ H' : AHeap, Grow H H' → OwnS fF H' H.length r1_a r1_n r1_e ((p_impl_WithoutSeason l_list period).1) → K r1_a r1_n r1_e ((p_impl_WithoutSeason l_list period).2) H'))
theorem T_impl_WithoutSeason_i {list_a : Option Addr} {list_n : Nat} {list_e : Nat} {period : Int} {H : AHeap} {K : (Option Addr) → Nat → Nat → Bool → AHeap → Prop} (h : ∃ (l_list : List Nat), IsL fF H list_a list_n l_list ∧ l_list.length < 1073741824 ∧ ((∀ (r1_a : Option Addr) (r1_n r1_e : Nat), ∀ H' : AHeap, Grow H H' → OwnS fF H' H.length r1_a r1_n r1_e ((p_impl_WithoutSeason l_list period).1) → K r1_a r1_n r1_e ((p_impl_WithoutSeason l_list period).2) H'))) : T_impl_WithoutSeason list_a list_n list_e period H K := h
theorem impl_without_len_go (l : List Nat) (period : Int) : ∀ (μ : Nat) (o : List Nat) (i : Nat), i ≤ l.length → (p_impl_WithoutSeason_l1 l period μ o (i : Int)).1.length ≤ o.length + (l.length - i) := by
  intro μ
  induction μ with
  | zero => intro o i h; exact Nat.zero_le _
  | succ μ ih =>
    intro o i hm
    rw [p_impl_WithoutSeason_l1_s]
    by_cases h : i < l.length
    · rw [decide_eq_true (show (i : Int) < (l.length : Int) by omega), cond_true]
      refine Nat.le_trans (ih _ (i + 1) ω2) ?_
      simp; omega
    · rw [decide_eq_false (show ¬ (i : Int) < (l.length : Int) by omega), cond_false]
      cases (p_impl_finiteList o).2
      all_goals first | exact Nat.zero_le _ | exact Nat.le_add_right _ _
theorem impl_WithoutSeason_len (l : List Nat) (period : Int) : (p_impl_WithoutSeason l period).1.length ≤ l.length := by
  rw [p_impl_WithoutSeason_eq]
  cases (p_impl_SeasonOf l period).2
  · exact Nat.zero_le _
  · have := impl_without_len_go l period (Int.toNat ((l.length : Int) - (0 : Int)) + 1) [] 0 (Nat.zero_le _)
    simpa using this
/-! impl_WithoutSeason: function 47 -/
def E_impl_WithoutSeason : Env := envOf [(46, S_impl_SeasonOf), (109, S_impl_finiteList)]
def F_impl_WithoutSeason : List Value → AHeap → (Value → AHeap → Prop) → Prop
  | [.slice list_a list_n list_e, .int .i64 period], H, K => T_impl_WithoutSeason list_a list_n list_e period H fun (r1_a : Option Addr) (r1_n : Nat) (r1_e : Nat) (r2 : Bool) (H' : AHeap) => K (.tuple #[.slice r1_a r1_n r1_e, .bool r2]) H'
  | _, _, _ => False
def S_impl_WithoutSeason : FSpec := { F := F_impl_WithoutSeason, quiet := false, tame := true }
theorem impl_WithoutSeason_vc (list_a : Option Addr) (list_n : Nat) (list_e : Nat) (period : Int) (H : AHeap) (K : Value → AHeap → Prop) : bodyL Try.prog E_impl_WithoutSeason Try.f47 [.slice list_a list_n list_e, .int .i64 period] H K =
  (T_impl_SeasonOf list_a list_n list_e period H fun (a1 : Option Addr) (r1 : Nat) (r2 : Nat) (r3 : Bool) (H1 : AHeap) => Br (!r3) (K (.tuple #[.slice none 0 0, .bool false]) H1) (Al [] H1 fun b1 H2 => loopK (exL Try.prog E_impl_WithoutSeason (cl (cl (cr (cl (cr (cr (cr (cr (bodyC Try.f47))))))))) 7340354 48 [(0, 256)]) [ud, .int .i64 period, ud, ud, ud, ud, .slice a1 r1 r2, ud, .slice (some ⟨b1, 0, none⟩) 0 1, ud, ud, ud, ud, ud, ud, ud, ud, ud, ud, ud, .slice list_a list_n list_e, .int .i64 (list_n : Int), .int .i64 0, ud, ud, ud, ud, ud, ud, ud, ud, ud, ud, ud, ud, ud, ud, ud, ud, ud, ud, ud, ud] H2 (blockQ 0 (seqQ (exL Try.prog E_impl_WithoutSeason (cr (cr (cr (cr (cr (bodyC Try.f47)))))) 48 48 []) (retK Try.prog Try.f47 K))))) := by kernel_rfl
abbrev impl_WithoutSeason_P1 (a1 : Option Addr) (list_a : Option Addr) (list_e : Nat) (list_n : Nat) (period : Int) (r1 : Nat) (r2 : Nat) (vout_a : Option Addr) (vout_n : Nat) (vout_e : Nat) (t22 : Int)  : List Value := [ud, .int .i64 period, ud, ud, ud, ud, .slice a1 r1 r2, ud, .slice vout_a vout_n vout_e, ud, ud, ud, ud, ud, ud, ud, ud, ud, ud, ud, .slice list_a list_n list_e, .int .i64 (list_n : Int), .int .i64 t22, ud, ud, ud, ud, ud, ud, ud, ud, ud, ud, ud, ud, ud, ud, ud, ud, ud, ud, ud, ud]
theorem impl_WithoutSeason_r1 (a1 : Option Addr) (list_a : Option Addr) (list_e : Nat) (list_n : Nat) (period : Int) (r1 : Nat) (r2 : Nat) (vout_a : Option Addr) (vout_n : Nat) (vout_e : Nat) (t22 : Int)  (H : AHeap) (R : Post) : exL Try.prog E_impl_WithoutSeason (cl (cl (cr (cl (cr (cr (cr (cr (bodyC Try.f47))))))))) 7340354 48 [(0, 256)] (impl_WithoutSeason_P1 a1 list_a list_e list_n period r1 r2 vout_a vout_n vout_e t22) H R =
  (Br (decide ((t22 : Int) < (list_n : Int))) ((0 : Int) ≤ t22 ∧ t22 < (list_n : Int) ∧ ∃ b2 f1, (list_a : Option Addr) = some ⟨b2, f1, none⟩ ∧ ∃ x1 : Nat,  rdC H b2 (f1 + (t22 : Int).toNat * 1) = some (.float .f32 x1) ∧ period ≠ (0 : Int) ∧ (0 : Int) ≤ Int.tmod t22 period ∧ Int.tmod t22 period < (r1 : Int) ∧ ∃ b3 f2, (a1 : Option Addr) = some ⟨b3, f2, none⟩ ∧ ∃ x2 : Nat,  rdC H b3 (f2 + (Int.tmod t22 period : Int).toNat * 1) = some (.float .f32 x2) ∧ Al [.float .f32 (fsub .f32 x1 x2)] H fun b4 H3 => ∃ o1 w1 : List Value, ownB H3 vout_a vout_n vout_e 1 = some o1 ∧ rdS H3 (some ⟨b4, 0, none⟩) (1 * 1) = some w1 ∧ ((vout_a : Option Addr) = none → 0 < (1 : Nat)) ∧ (vout_n : Nat) + 1 < most ∧ Ap H3 (killB H3 vout_a ++ [some ⟨o1 ++ w1, true⟩]) fun b5 H4 => R .normal [ud, .int .i64 period, ud, ud, ud, ud, .slice a1 r1 r2, ud, .slice (some ⟨b5, 0, none⟩) (vout_n + 1) 1, ud, ud, ud, ud, ud, ud, ud, ud, ud, ud, ud, .slice list_a list_n list_e, .int .i64 (list_n : Int), .int .i64 (IntKind.wrap .i64 (t22 + 1)), ud, ud, ud, ud, ud, ud, ud, ud, ud, ud, ud, ud, ud, ud, ud, ud, ud, ud, ud, ud] H4) (R (.exit 0) [ud, ud, ud, ud, ud, ud, ud, ud, .slice vout_a vout_n vout_e, ud, ud, ud, ud, ud, ud, ud, ud, ud, ud, ud, ud, ud, ud, ud, ud, ud, ud, ud, ud, ud, ud, ud, ud, ud, ud, ud, ud, ud, ud, ud, ud, ud, ud] H)) := by kernel_rfl
def impl_WithoutSeason_I1 (a1 : Option Addr) (list_a : Option Addr) (list_e : Nat) (list_n : Nat) (period : Int) (r1 : Nat) (r2 : Nat) (Inv : Nat → (Option Addr) → Nat → Nat → Int → AHeap → Prop) : Nat → List Value → AHeap → Prop := fun μ tm H => ∃ (vout_a : Option Addr), ∃ (vout_n : Nat), ∃ (vout_e : Nat), ∃ (t22 : Int), tm = (impl_WithoutSeason_P1 a1 list_a list_e list_n period r1 r2 vout_a vout_n vout_e t22) ∧ Inv μ vout_a vout_n vout_e t22 H
theorem impl_WithoutSeason_L1 (a1 : Option Addr) (list_a : Option Addr) (list_e : Nat) (list_n : Nat) (period : Int) (r1 : Nat) (r2 : Nat) {Q : Post} (Inv : Nat → (Option Addr) → Nat → Nat → Int → AHeap → Prop) (ν : Nat) (vout_a : Option Addr) (vout_n : Nat) (vout_e : Nat) (t22 : Int)  (H : AHeap) (h0 : Inv ν vout_a vout_n vout_e t22 H)
    (hs : ∀ (μ : Nat) (vout_a : Option Addr) (vout_n : Nat) (vout_e : Nat) (t22 : Int)  (H : AHeap), Inv μ vout_a vout_n vout_e t22 H → exL Try.prog E_impl_WithoutSeason (cl (cl (cr (cl (cr (cr (cr (cr (bodyC Try.f47))))))))) 7340354 48 [(0, 256)] (impl_WithoutSeason_P1 a1 list_a list_e list_n period r1 r2 vout_a vout_n vout_e t22) H (loopQ (impl_WithoutSeason_I1 a1 list_a list_e list_n period r1 r2 Inv) μ Q)) : loopK (exL Try.prog E_impl_WithoutSeason (cl (cl (cr (cl (cr (cr (cr (cr (bodyC Try.f47))))))))) 7340354 48 [(0, 256)]) (impl_WithoutSeason_P1 a1 list_a list_e list_n period r1 r2 vout_a vout_n vout_e t22) H Q :=
  ⟨impl_WithoutSeason_I1 a1 list_a list_e list_n period r1 r2 Inv, ν, ⟨vout_a, vout_n, vout_e, t22, rfl, h0⟩, fun μ tm H h => by obtain ⟨vout_a, vout_n, vout_e, t22, rfl, hI⟩ := h; exact hs μ vout_a vout_n vout_e t22  H hI⟩
theorem impl_WithoutSeason_n1 {a1 : Option Addr} {list_a : Option Addr} {list_e : Nat} {list_n : Nat} {period : Int} {r1 : Nat} {r2 : Nat} {Q : Post} {Inv : Nat → (Option Addr) → Nat → Nat → Int → AHeap → Prop} {μ : Nat} (μ' : Nat) {vout_a : Option Addr} {vout_n : Nat} {vout_e : Nat} {t22 : Int}  {H : AHeap} (hm : μ' < μ) (hI : Inv μ' vout_a vout_n vout_e t22 H) : loopQ (impl_WithoutSeason_I1 a1 list_a list_e list_n period r1 r2 Inv) μ Q .normal (impl_WithoutSeason_P1 a1 list_a list_e list_n period r1 r2 vout_a vout_n vout_e t22) H := ⟨μ', hm, vout_a, vout_n, vout_e, t22, rfl, hI⟩
theorem impl_WithoutSeason_x1_0 (vout_a : Option Addr) (vout_n : Nat) (vout_e : Nat) (H : AHeap) (K : Value → AHeap → Prop)  {I : Nat → List Value → AHeap → Prop} {μ : Nat} : loopQ I μ (blockQ 0 (seqQ (exL Try.prog E_impl_WithoutSeason (cr (cr (cr (cr (cr (bodyC Try.f47)))))) 48 48 []) (retK Try.prog Try.f47 K))) (.exit 0) [ud, ud, ud, ud, ud, ud, ud, ud, .slice vout_a vout_n vout_e, ud, ud, ud, ud, ud, ud, ud, ud, ud, ud, ud, ud, ud, ud, ud, ud, ud, ud, ud, ud, ud, ud, ud, ud, ud, ud, ud, ud, ud, ud, ud, ud, ud, ud] H =
  (T_impl_finiteList vout_a vout_n vout_e H fun (a2 : Option Addr) (r4 : Nat) (r5 : Nat) (r6 : Bool) (H5 : AHeap) => K (.tuple #[.slice a2 r4 r5, .bool r6]) H5) := by kernel_rfl
theorem E_impl_WithoutSeason_ok : ∀ g, FnOk Try.prog g (E_impl_WithoutSeason g) := FnOk.envOf (by
  intro x hx
  simp only [List.mem_cons, List.not_mem_nil, or_false] at hx
  rcases hx with rfl | rfl
  · exact impl_SeasonOf_ok
  · exact impl_finiteList_ok)
set_option maxHeartbeats 1000000 in
theorem impl_WithoutSeason_main (list_a : Option Addr) (list_n : Nat) (list_e : Nat) (period : Int) (H : AHeap) (K : Value → AHeap → Prop) (h : T_impl_WithoutSeason list_a list_n list_e period H fun (r1_a : Option Addr) (r1_n : Nat) (r1_e : Nat) (r2 : Bool) (H' : AHeap) => K (.tuple #[.slice r1_a r1_n r1_e, .bool r2]) H') : bodyL Try.prog E_impl_WithoutSeason Try.f47 [.slice list_a list_n list_e, .int .i64 period] H K := by
  rw [impl_WithoutSeason_vc]
  obtain ⟨l_list, i_list, bd_84, hk⟩ := h
  obtain rfl := i_list.eqn
  have e : (p_impl_WithoutSeason l_list period) = _ := rfl
  have e := e.trans (p_impl_WithoutSeason_eq l_list period)
  have g0 := Grow.refl H
  refine T_impl_SeasonOf_i ⟨_, (i_list.grow g0), ω0, fun a_1 n_2 e_3 H_1 g_6 r_4 => ?_⟩
  have z_5 := impl_SeasonOf_len l_list period
  have l_7 := g_6.1
  have g_8 := g0.trans g_6
  have l_9 := g_8.1
  obtain rfl := r_4.isL.eqn
  have u_10 := r_4.up
  have u_11 := r_4.lo
  refine Br.intro (fun c_13 => ?_) (fun c_13 => ?_)
  · have e := e.trans (cond_t c_13)
    have c_13n := nf_of_t c_13
    rw [e] at hk
    exact hk _ _ _ H_1 g_8 ω10
  · have e := e.trans (cond_f c_13)
    have c_13n := nt_of_f c_13
    have c_13n' := impl_SeasonOf_t c_13n
    refine Al.intro (fun b_14 H_2 hb_15 hl_16 g_17 o_18 => ?_)
    have o_18 : Own H_2 b_14 ((([] : List Nat)).map fF) := o_18
    have l_20 := g_17.1
    have g_21 := g_8.trans g_17
    have l_22 := g_21.1
    have r_23 := r_4.grow g_17
    have w_83 := o_18.lt
    refine impl_WithoutSeason_L1 _ _ _ _ _ _ _ (fun (μ : Nat) (vout_a : Option Addr) (vout_n : Nat) (vout_e : Nat) (t22 : Int) (H_3 : AHeap) => ∃ (l_vout : List Nat), ∃ (b_24 : Nat), vout_a = some ⟨b_24, 0, none⟩ ∧ vout_n = l_vout.length ∧ vout_e = 1 ∧ Own H_3 b_24 (l_vout.map fF) ∧ OwnS fF H_3 H.length a_1 (((p_impl_SeasonOf l_list period).1).length) e_3 ((p_impl_SeasonOf l_list period).1) ∧ H_1.length ≤ H_3.length ∧ (b_24 < H.length ∨ H_1.length ≤ b_24) ∧ Grow H H_3 ∧ H.length ≤ b_24 ∧ (0 : Int) ≤ t22 ∧ t22 ≤ (l_list.length : Int) ∧ (l_vout.length : Int) ≤ t22 - (0 : Int) + 0 ∧ (l_list.length : Int) - t22 ≤ (μ : Int) ∧ p_impl_WithoutSeason l_list period = p_impl_WithoutSeason_l1 l_list period (μ + 1) l_vout t22) (Int.toNat ((l_list.length : Int) - (0 : Int))) _ _ _ _ H_2 ?_ ?_
    · exact ⟨_, _, rfl, ω3, rfl, o_18, r_23, ω2, ω2, g_21, ω2, ω5, ω5, ω5, ω2, e⟩
    · intro μ vout_a vout_n vout_e t22  H_3 hI
      obtain ⟨l_vout, b_24, rfl, rfl, rfl, o_25, r_26, n_27, n_28, g_29, l_30, v_31, v_32, v_33, hμ, e⟩ := hI
      rw [impl_WithoutSeason_r1]
      have e := e.trans (p_impl_WithoutSeason_l1_s l_list period μ l_vout t22)
      have w_34 := o_25.lt
      have l_35 := g_29.1
      refine Br.intro (fun c_36 => ?_) (fun c_36 => ?_)
      · have e := e.trans (cond_t c_36)
        have c_36' := of_decide_eq_true c_36
        obtain ⟨b_37, f_38, q_39⟩ := ((i_list.grow g_29)).pos ω0
        refine ⟨by omega, by omega, b_37, f_38, q_39, ?_⟩
        refine ⟨((l_list).getD (t22 : Int).toNat 0), (i_list).rd g_29 q_39 ω2 _, ?_⟩
        refine ⟨ω11, ?_⟩
        have z_40 := tmod_rng t22 period
        have z_41 := tmod_nn t22 period
        obtain ⟨b_42, f_43, q_44⟩ := (r_26.isL).pos ω0
        refine ⟨by omega, by omega, b_42, f_43, q_44, ?_⟩
        refine ⟨(((p_impl_SeasonOf l_list period).1).getD (Int.tmod t22 period : Int).toNat 0), (r_26.isL).rd (Grow.refl _) q_44 ω2 _, ?_⟩
        refine Al.intro (fun b_45 H_4 hb_46 hl_47 g_48 o_49 => ?_)
        have o_49 : Own H_4 b_45 (([(fsub .f32 (((l_list).getD (t22 : Int).toNat 0)) ((((p_impl_SeasonOf l_list period).1).getD (Int.tmod t22 period : Int).toNat 0)))]).map fF) := o_49
        have l_51 := g_48.1
        have g_52 := g_29.trans g_48
        have l_53 := g_52.1
        have o_54 := o_25.grow g_48
        have w_55 := o_54.lt
        have r_56 := r_26.grow g_48
        have w_70 := o_49.lt
        refine ⟨_, _, o_54.ownB ω4 rfl, (isl_rdS (o_49.isL ω3)), (fun h => by cases h), ω12, ?_⟩
        refine Ap.app o_54 rfl rfl (fun b_61 H_5 q_68 hl_57 o_58 k_59 => ?_)
        have o_58 := map_snoc o_58
        have l_62 := k_59.1
        have g_63 := g_52.keep (b := b_24) ω2 k_59
        have l_64 := g_63.1
        have o_65 := o_49.keep ω2 k_59
        have w_66 := o_65.lt
        have r_67 := r_56.keep u_10 ω2 k_59
        have w_69 := o_58.lt
        rw [show IntKind.wrap .i64 (t22 + 1) = (t22 + 1) from wrap64 ω2 ω2]
        refine impl_WithoutSeason_n1 (μ - 1) ω9 ⟨_, _, rfl, ω6, rfl, o_58, r_67, ω2, ω2, g_63, ω2, ω1, ω1, ω1, ω9, (by rw [show μ - 1 + 1 = μ from by first | omega]; exact e)⟩
      · have e := e.trans (cond_f c_36)
        have c_36' := of_decide_eq_false c_36
        rw [impl_WithoutSeason_x1_0]
        refine T_impl_finiteList_i ⟨_, (o_25.isL ω3), ω0, (fun H_6 g_75 => ?_)⟩
        have l_77 := g_75.1
        have g_78 := g_29.trans g_75
        have l_79 := g_78.1
        have o_80 := o_25.grow g_75
        have w_81 := o_80.lt
        have r_82 := r_26.grow g_75
        refine Br.intro (fun c_76 => ?_) (fun c_76 => ?_)
        · have e := e.trans (cond_t c_76)
          rw [e] at hk
          exact hk _ _ _ H_6 g_78 (o_80.ownS ω3 ω2)
        · have e := e.trans (cond_f c_76)
          rw [e] at hk
          exact hk _ _ _ H_6 g_78 ω10
theorem impl_WithoutSeason_ok : FnOk Try.prog 47 S_impl_WithoutSeason := by
  refine FnOk.body mix_ok E_impl_WithoutSeason_ok Try.func47 rfl (by kernel_rfl) (by kernel_rfl) ?_ ?_ ?_ ?_ ?_
  · intro args H K K' h hk
    simp only [S_impl_WithoutSeason] at *
    unfold F_impl_WithoutSeason at *
    split at hk
    · obtain ⟨l_list, i_list, bd_84, k⟩ := hk
      exact ⟨l_list, i_list, bd_84, (fun r1_a r1_n r1_e H' gg ow0 => h _ _ (k r1_a r1_n r1_e H' gg ow0))⟩
    · exact hk.elim
  · intro hq; cases hq
  · intro args H K hk
    simp only [S_impl_WithoutSeason] at *
    unfold F_impl_WithoutSeason at *
    split at hk
    · obtain ⟨l_list, i_list, bd_84, k⟩ := hk
      exact liveS fun a n e H1 g o => ⟨_, _, k a n e H1 g o⟩
    · exact hk.elim
  · intro _ args H K hk
    simp only [S_impl_WithoutSeason] at *
    unfold F_impl_WithoutSeason at *
    split at hk
    · obtain ⟨l_list, i_list, bd_84, k⟩ := hk
      exact ⟨l_list, i_list, bd_84, (fun r1_a r1_n r1_e H' gg ow0 => ⟨gg, k r1_a r1_n r1_e H' gg ow0⟩)⟩
    · exact hk.elim
  · have mm := @impl_WithoutSeason_main
    have ml := fun (args : List Value) (H : AHeap) (K : Value → AHeap → Prop) => bodyL_body (P := Try.prog) (env := E_impl_WithoutSeason ) (fn := Try.f47) (args := args) (H := H) (K := K) E_impl_WithoutSeason_ok 
    revert mm ml
    generalize bodyK Try.prog E_impl_WithoutSeason Try.f47 = Q
    generalize bodyL Try.prog E_impl_WithoutSeason Try.f47 = QL
    intro mm ml args H K hk
    simp only [S_impl_WithoutSeason] at *
    unfold F_impl_WithoutSeason at *
    split at hk
    · exact ml _ H K (mm _ _ _ _ H K hk)
    · exact hk.elim
def p_laws_b10Gap (a : Nat) (b : Nat) : Nat := (bif flt .f64 a b then fsub .f64 b a else fsub .f64 a b)
def T_laws_b10Gap (a : Nat) (b : Nat) (H : AHeap) (K : Nat → AHeap → Prop) : Prop := K (p_laws_b10Gap a b) H

theorem T_laws_b10Gap_i {a : Nat} {b : Nat} {H : AHeap} {K : Nat → AHeap → Prop} (h : K (p_laws_b10Gap a b) H) : T_laws_b10Gap a b H K := h
/-! laws_b10Gap: function 48 -/
def E_laws_b10Gap : Env := envOf []
def F_laws_b10Gap : List Value → AHeap → (Value → AHeap → Prop) → Prop
  | [.float .f64 a, .float .f64 b], H, K => T_laws_b10Gap a b H fun (r1 : Nat) (H' : AHeap) => K (.float .f64 r1) H'
  | _, _, _ => False
def S_laws_b10Gap : FSpec := { F := F_laws_b10Gap, quiet := true, tame := false }
theorem laws_b10Gap_vc (a : Nat) (b : Nat) (H : AHeap) (K : Value → AHeap → Prop) : bodyL Try.prog E_laws_b10Gap Try.f48 [.float .f64 a, .float .f64 b] H K =
  (Br (flt .f64 a b) (K (.float .f64 (fsub .f64 b a)) H) (K (.float .f64 (fsub .f64 a b)) H)) := by kernel_rfl
theorem E_laws_b10Gap_ok : ∀ g, FnOk Try.prog g (E_laws_b10Gap g) := FnOk.envOf (by
  intro x hx; cases hx)
set_option maxHeartbeats 1000000 in
theorem laws_b10Gap_main (a : Nat) (b : Nat) (H : AHeap) (K : Value → AHeap → Prop) (h : T_laws_b10Gap a b H fun (r1 : Nat) (H' : AHeap) => K (.float .f64 r1) H') : bodyL Try.prog E_laws_b10Gap Try.f48 [.float .f64 a, .float .f64 b] H K := by
  rw [laws_b10Gap_vc]
  unfold T_laws_b10Gap p_laws_b10Gap at h
  repeat' (first | exact h | (exfalso; simp_all; done) | (refine ⟨by decide, ?_⟩) | (refine Br.intro (fun hb => ?_) (fun hb => ?_) <;> (try simp only [hb, cond_true, cond_false, Bool.not_true, Bool.not_false] at h)))
theorem laws_b10Gap_ok : FnOk Try.prog 48 S_laws_b10Gap := by
  refine FnOk.body mix_ok E_laws_b10Gap_ok Try.func48 rfl (by kernel_rfl) (by kernel_rfl) ?_ ?_ ?_ ?_ ?_
  · intro args H K K' h hk
    simp only [S_laws_b10Gap] at *
    unfold F_laws_b10Gap at *
    split at hk
    · have k := hk
      exact h _ _ k
    · exact hk.elim
  · intro _ args H K hk
    simp only [S_laws_b10Gap] at *
    unfold F_laws_b10Gap at *
    split at hk
    · have k := hk
      exact ⟨_, k, fun K' k' => k'⟩
    · exact hk.elim
  · intro args H K hk
    simp only [S_laws_b10Gap] at *
    unfold F_laws_b10Gap at *
    split at hk
    · have k := hk
      exact ⟨_, _, k⟩
    · exact hk.elim
  · intro hq; cases hq
  · have mm := @laws_b10Gap_main
    have ml := fun (args : List Value) (H : AHeap) (K : Value → AHeap → Prop) => bodyL_body (P := Try.prog) (env := E_laws_b10Gap ) (fn := Try.f48) (args := args) (H := H) (K := K) E_laws_b10Gap_ok 
    revert mm ml
    generalize bodyK Try.prog E_laws_b10Gap Try.f48 = Q
    generalize bodyL Try.prog E_laws_b10Gap Try.f48 = QL
    intro mm ml args H K hk
    simp only [S_laws_b10Gap] at *
    unfold F_laws_b10Gap at *
    split at hk
    · exact ml _ H K (mm _ _ H K hk)
    · exact hk.elim

def p_laws_b10Apart_l1 (l_a : List Nat) (l_b : List Nat) (near : Nat) : Nat → Bool → Int → Bool
  | 0, _, _ => false
  | μ + 1, t6, t15 => (bif decide ((t15 : Int) < (l_a.length : Int)) then (bif !(fle .f64 ((p_laws_b10Gap (fwide (((l_a).getD (t15 : Int).toNat 0))) (fwide (((l_b).getD (t15 : Int).toNat 0))))) near) then true else (p_laws_b10Apart_l1 l_a l_b near μ t6 (t15 + 1))) else false)
def p_laws_b10Apart_l1_s := fun l_a l_b near μ t6 t15 => @p_laws_b10Apart_l1.eq_2 l_a l_b near t6 t15 μ
def p_laws_b10Apart (l_a : List Nat) (l_b : List Nat) (near : Nat) : Bool := ((bif ((l_a.length : Int) : Int) != (l_b.length : Int) then true else (p_laws_b10Apart_l1 l_a l_b near (Int.toNat ((l_a.length : Int) - (0 : Int)) + 1) false (0 : Int))))
def p_laws_b10Apart_eq := @p_laws_b10Apart.eq_1
def T_laws_b10Apart (a_a : Option Addr) (a_n : Nat) (a_e : Nat) (b_a : Option Addr) (b_n : Nat) (b_e : Nat) (near : Nat) (H : AHeap) (K : Bool → AHeap → Prop) : Prop := ∃ (l_a : List Nat), ∃ (l_b : List Nat), IsL fF H a_a a_n l_a ∧ IsL fF H b_a b_n l_b ∧ l_a.length < 1073741824 ∧ l_b.length < 1073741824 ∧ K (p_laws_b10Apart l_a l_b near) H
theorem T_laws_b10Apart_i {a_a : Option Addr} {a_n : Nat} {a_e : Nat} {b_a : Option Addr} {b_n : Nat} {b_e : Nat} {near : Nat} {H : AHeap} {K : Bool → AHeap → Prop} (h : ∃ (l_a : List Nat), ∃ (l_b : List Nat), IsL fF H a_a a_n l_a ∧ IsL fF H b_a b_n l_b ∧ l_a.length < 1073741824 ∧ l_b.length < 1073741824 ∧ K (p_laws_b10Apart l_a l_b near) H) : T_laws_b10Apart a_a a_n a_e b_a b_n b_e near H K := h

/-! laws_b10Apart: function 49 -/
def E_laws_b10Apart : Env := envOf [(48, S_laws_b10Gap)]
def F_laws_b10Apart : List Value → AHeap → (Value → AHeap → Prop) → Prop
  | [.slice a_a a_n a_e, .slice b_a b_n b_e, .float .f64 near], H, K => T_laws_b10Apart a_a a_n a_e b_a b_n b_e near H fun (r1 : Bool) (H' : AHeap) => K (.bool r1) H'
  | _, _, _ => False
def S_laws_b10Apart : FSpec := { F := F_laws_b10Apart, quiet := true, tame := false }
theorem laws_b10Apart_vc (a_a : Option Addr) (a_n : Nat) (a_e : Nat) (b_a : Option Addr) (b_n : Nat) (b_e : Nat) (near : Nat) (H : AHeap) (K : Value → AHeap → Prop) : bodyL Try.prog E_laws_b10Apart Try.f49 [.slice a_a a_n a_e, .slice b_a b_n b_e, .float .f64 near] H K =
  (Br (((a_n : Int) : Int) != (b_n : Int)) (K (.bool true) H) (loopK (exL Try.prog E_laws_b10Apart (cl (cl (cr (cl (cr (cr (bodyC Try.f49))))))) 49159 64 [(0, 0)]) [.slice a_a a_n a_e, .slice b_a b_n b_e, .float .f64 near, ud, ud, ud, ud, ud, ud, ud, ud, ud, ud, ud, .int .i64 (a_n : Int), .int .i64 0, ud, ud, ud, ud, ud, ud, ud, ud, ud, ud, ud, ud, ud, ud, ud, ud, ud] H (blockQ 0 (seqQ (exL Try.prog E_laws_b10Apart (cr (cr (cr (bodyC Try.f49)))) 64 64 []) (retK Try.prog Try.f49 K))))) := by kernel_rfl
abbrev laws_b10Apart_P1 (a_a : Option Addr) (a_e : Nat) (a_n : Nat) (b_a : Option Addr) (b_e : Nat) (b_n : Nat) (near : Nat) (t15 : Int)  : List Value := [.slice a_a a_n a_e, .slice b_a b_n b_e, .float .f64 near, ud, ud, ud, ud, ud, ud, ud, ud, ud, ud, ud, .int .i64 (a_n : Int), .int .i64 t15, ud, ud, ud, ud, ud, ud, ud, ud, ud, ud, ud, ud, ud, ud, ud, ud, ud]
theorem laws_b10Apart_r1 (a_a : Option Addr) (a_e : Nat) (a_n : Nat) (b_a : Option Addr) (b_e : Nat) (b_n : Nat) (near : Nat) (t15 : Int)  (H : AHeap) (R : Post) : exL Try.prog E_laws_b10Apart (cl (cl (cr (cl (cr (cr (bodyC Try.f49))))))) 49159 64 [(0, 0)] (laws_b10Apart_P1 a_a a_e a_n b_a b_e b_n near t15) H R =
  (Br (decide ((t15 : Int) < (a_n : Int))) ((0 : Int) ≤ t15 ∧ t15 < (a_n : Int) ∧ ∃ b1 f1, (a_a : Option Addr) = some ⟨b1, f1, none⟩ ∧ ∃ x1 : Nat,  rdC H b1 (f1 + (t15 : Int).toNat * 1) = some (.float .f32 x1) ∧ (0 : Int) ≤ t15 ∧ t15 < (b_n : Int) ∧ ∃ b2 f2, (b_a : Option Addr) = some ⟨b2, f2, none⟩ ∧ ∃ x2 : Nat,  rdC H b2 (f2 + (t15 : Int).toNat * 1) = some (.float .f32 x2) ∧ T_laws_b10Gap (fwide x1) (fwide x2) H fun (r1 : Nat) (H1 : AHeap) => Br (!(fle .f64 r1 near)) (R .ret [ud, ud, ud, ud, ud, ud, .bool true, ud, ud, ud, ud, ud, ud, ud, ud, ud, ud, ud, ud, ud, ud, ud, ud, ud, ud, ud, ud, ud, ud, ud, ud, ud, ud] H1) (R .normal [.slice a_a a_n a_e, .slice b_a b_n b_e, .float .f64 near, ud, ud, ud, ud, ud, ud, ud, ud, ud, ud, ud, .int .i64 (a_n : Int), .int .i64 (IntKind.wrap .i64 (t15 + 1)), ud, ud, ud, ud, ud, ud, ud, ud, ud, ud, ud, ud, ud, ud, ud, ud, ud] H1)) (R (.exit 0) [ud, ud, ud, ud, ud, ud, ud, ud, ud, ud, ud, ud, ud, ud, ud, ud, ud, ud, ud, ud, ud, ud, ud, ud, ud, ud, ud, ud, ud, ud, ud, ud, ud] H)) := by kernel_rfl
def laws_b10Apart_I1 (a_a : Option Addr) (a_e : Nat) (a_n : Nat) (b_a : Option Addr) (b_e : Nat) (b_n : Nat) (near : Nat) (Inv : Nat → Int → AHeap → Prop) : Nat → List Value → AHeap → Prop := fun μ tm H => ∃ (t15 : Int), tm = (laws_b10Apart_P1 a_a a_e a_n b_a b_e b_n near t15) ∧ Inv μ t15 H
theorem laws_b10Apart_L1 (a_a : Option Addr) (a_e : Nat) (a_n : Nat) (b_a : Option Addr) (b_e : Nat) (b_n : Nat) (near : Nat) {Q : Post} (Inv : Nat → Int → AHeap → Prop) (ν : Nat) (t15 : Int)  (H : AHeap) (h0 : Inv ν t15 H)
    (hs : ∀ (μ : Nat) (t15 : Int)  (H : AHeap), Inv μ t15 H → exL Try.prog E_laws_b10Apart (cl (cl (cr (cl (cr (cr (bodyC Try.f49))))))) 49159 64 [(0, 0)] (laws_b10Apart_P1 a_a a_e a_n b_a b_e b_n near t15) H (loopQ (laws_b10Apart_I1 a_a a_e a_n b_a b_e b_n near Inv) μ Q)) : loopK (exL Try.prog E_laws_b10Apart (cl (cl (cr (cl (cr (cr (bodyC Try.f49))))))) 49159 64 [(0, 0)]) (laws_b10Apart_P1 a_a a_e a_n b_a b_e b_n near t15) H Q :=
  ⟨laws_b10Apart_I1 a_a a_e a_n b_a b_e b_n near Inv, ν, ⟨t15, rfl, h0⟩, fun μ tm H h => by obtain ⟨t15, rfl, hI⟩ := h; exact hs μ t15  H hI⟩
theorem laws_b10Apart_n1 {a_a : Option Addr} {a_e : Nat} {a_n : Nat} {b_a : Option Addr} {b_e : Nat} {b_n : Nat} {near : Nat} {Q : Post} {Inv : Nat → Int → AHeap → Prop} {μ : Nat} (μ' : Nat) {t15 : Int}  {H : AHeap} (hm : μ' < μ) (hI : Inv μ' t15 H) : loopQ (laws_b10Apart_I1 a_a a_e a_n b_a b_e b_n near Inv) μ Q .normal (laws_b10Apart_P1 a_a a_e a_n b_a b_e b_n near t15) H := ⟨μ', hm, t15, rfl, hI⟩
theorem laws_b10Apart_x1_0  (H : AHeap) (K : Value → AHeap → Prop)  {I : Nat → List Value → AHeap → Prop} {μ : Nat} : loopQ I μ (blockQ 0 (seqQ (exL Try.prog E_laws_b10Apart (cr (cr (cr (bodyC Try.f49)))) 64 64 []) (retK Try.prog Try.f49 K))) (.exit 0) [ud, ud, ud, ud, ud, ud, ud, ud, ud, ud, ud, ud, ud, ud, ud, ud, ud, ud, ud, ud, ud, ud, ud, ud, ud, ud, ud, ud, ud, ud, ud, ud, ud] H =
  (K (.bool false) H) := by kernel_rfl
theorem laws_b10Apart_x1_ret (t6 : Bool) (H : AHeap) (K : Value → AHeap → Prop)  {I : Nat → List Value → AHeap → Prop} {μ : Nat} : loopQ I μ (blockQ 0 (seqQ (exL Try.prog E_laws_b10Apart (cr (cr (cr (bodyC Try.f49)))) 64 64 []) (retK Try.prog Try.f49 K))) .ret [ud, ud, ud, ud, ud, ud, .bool t6, ud, ud, ud, ud, ud, ud, ud, ud, ud, ud, ud, ud, ud, ud, ud, ud, ud, ud, ud, ud, ud, ud, ud, ud, ud, ud] H =
  (K (.bool t6) H) := by kernel_rfl
theorem E_laws_b10Apart_ok : ∀ g, FnOk Try.prog g (E_laws_b10Apart g) := FnOk.envOf (by
  intro x hx
  simp only [List.mem_cons, List.not_mem_nil, or_false] at hx
  subst hx; exact laws_b10Gap_ok)
set_option maxHeartbeats 1000000 in
theorem laws_b10Apart_main (a_a : Option Addr) (a_n : Nat) (a_e : Nat) (b_a : Option Addr) (b_n : Nat) (b_e : Nat) (near : Nat) (H : AHeap) (K : Value → AHeap → Prop) (h : T_laws_b10Apart a_a a_n a_e b_a b_n b_e near H fun (r1 : Bool) (H' : AHeap) => K (.bool r1) H') : bodyL Try.prog E_laws_b10Apart Try.f49 [.slice a_a a_n a_e, .slice b_a b_n b_e, .float .f64 near] H K := by
  rw [laws_b10Apart_vc]
  obtain ⟨l_a, l_b, i_a, i_b, bd_13, bd_14, hk⟩ := h
  obtain rfl := i_a.eqn
  obtain rfl := i_b.eqn
  have e : (p_laws_b10Apart l_a l_b near) = _ := rfl
  have e := e.trans (p_laws_b10Apart_eq l_a l_b near)
  have g0 := Grow.refl H
  refine Br.intro (fun c_1 => ?_) (fun c_1 => ?_)
  · have e := e.trans (cond_t c_1)
    have c_1' := ine_t c_1
    rw [e] at hk
    exact hk
  · have e := e.trans (cond_f c_1)
    have c_1' := ine_f c_1
    refine laws_b10Apart_L1 _ _ _ _ _ _ _ (fun (μ : Nat) (t15 : Int) (H_1 : AHeap) => ∃ (t6 : Bool), H = H_1 ∧ (0 : Int) ≤ t15 ∧ t15 ≤ (l_a.length : Int) ∧ (l_a.length : Int) - t15 ≤ (μ : Int) ∧ p_laws_b10Apart l_a l_b near = p_laws_b10Apart_l1 l_a l_b near (μ + 1) t6 t15) (Int.toNat ((l_a.length : Int) - (0 : Int))) _ H ?_ ?_
    · exact ⟨_, rfl, ω5, ω5, ω2, e⟩
    · intro μ t15  H_1 hI
      obtain ⟨t6, rfl, v_2, v_3, hμ, e⟩ := hI
      rw [laws_b10Apart_r1]
      have e := e.trans (p_laws_b10Apart_l1_s l_a l_b near μ t6 t15)
      have l_4 := g0.1
      refine Br.intro (fun c_5 => ?_) (fun c_5 => ?_)
      · have e := e.trans (cond_t c_5)
        have c_5' := of_decide_eq_true c_5
        obtain ⟨b_6, f_7, q_8⟩ := ((i_a.grow g0)).pos ω0
        refine ⟨by omega, by omega, b_6, f_7, q_8, ?_⟩
        refine ⟨((l_a).getD (t15 : Int).toNat 0), (i_a).rd g0 q_8 ω2 _, ?_⟩
        obtain ⟨b_9, f_10, q_11⟩ := ((i_b.grow g0)).pos ω0
        refine ⟨by omega, by omega, b_9, f_10, q_11, ?_⟩
        refine ⟨((l_b).getD (t15 : Int).toNat 0), (i_b).rd g0 q_11 ω2 _, ?_⟩
        refine T_laws_b10Gap_i ?_
        refine Br.intro (fun c_12 => ?_) (fun c_12 => ?_)
        · have e := e.trans (cond_t c_12)
          have c_12n := nf_of_t c_12
          rw [laws_b10Apart_x1_ret]
          rw [e] at hk
          exact hk
        · have e := e.trans (cond_f c_12)
          have c_12n := nt_of_f c_12
          rw [show IntKind.wrap .i64 (t15 + 1) = (t15 + 1) from wrap64 ω2 ω2]
          refine laws_b10Apart_n1 (μ - 1) ω9 ⟨_, rfl, ω1, ω1, ω9, (by rw [show μ - 1 + 1 = μ from by first | omega]; exact e)⟩
      · have e := e.trans (cond_f c_5)
        have c_5' := of_decide_eq_false c_5
        rw [laws_b10Apart_x1_0]
        rw [e] at hk
        exact hk
theorem laws_b10Apart_ok : FnOk Try.prog 49 S_laws_b10Apart := by
  refine FnOk.body mix_ok E_laws_b10Apart_ok Try.func49 rfl (by kernel_rfl) (by kernel_rfl) ?_ ?_ ?_ ?_ ?_
  · intro args H K K' h hk
    simp only [S_laws_b10Apart] at *
    unfold F_laws_b10Apart at *
    split at hk
    · obtain ⟨l_a, l_b, i_a, i_b, bd_13, bd_14, k⟩ := hk
      exact ⟨l_a, l_b, i_a, i_b, bd_13, bd_14, h _ _ k⟩
    · exact hk.elim
  · intro _ args H K hk
    simp only [S_laws_b10Apart] at *
    unfold F_laws_b10Apart at *
    split at hk
    · obtain ⟨l_a, l_b, i_a, i_b, bd_13, bd_14, k⟩ := hk
      exact ⟨_, k, fun K' k' => ⟨l_a, l_b, i_a, i_b, bd_13, bd_14, k'⟩⟩
    · exact hk.elim
  · intro args H K hk
    simp only [S_laws_b10Apart] at *
    unfold F_laws_b10Apart at *
    split at hk
    · obtain ⟨l_a, l_b, i_a, i_b, bd_13, bd_14, k⟩ := hk
      exact ⟨_, _, k⟩
    · exact hk.elim
  · intro hq; cases hq
  · have mm := @laws_b10Apart_main
    have ml := fun (args : List Value) (H : AHeap) (K : Value → AHeap → Prop) => bodyL_body (P := Try.prog) (env := E_laws_b10Apart ) (fn := Try.f49) (args := args) (H := H) (K := K) E_laws_b10Apart_ok 
    revert mm ml
    generalize bodyK Try.prog E_laws_b10Apart Try.f49 = Q
    generalize bodyL Try.prog E_laws_b10Apart Try.f49 = QL
    intro mm ml args H K hk
    simp only [S_laws_b10Apart] at *
    unfold F_laws_b10Apart at *
    split at hk
    · exact ml _ H K (mm _ _ _ _ _ _ _ H K hk)
    · exact hk.elim

def p_impl_TrendOf_l1 (l_list : List Nat) : Nat → Nat → Nat → Nat → Nat → Int → Nat × Nat × Bool
  | 0, _, _, _, _, _ => (0, 0, false)
  | μ + 1, a, b, c, d, t25 => (bif decide ((t25 : Int) < (l_list.length : Int)) then (p_impl_TrendOf_l1 l_list μ (fadd .f32 a (FloatKind.nearest .f32 t25)) (fadd .f32 b (((l_list).getD (t25 : Int).toNat 0))) (fadd .f32 c (fmul .f32 (FloatKind.nearest .f32 t25) (FloatKind.nearest .f32 t25))) (fadd .f32 d (fmul .f32 (FloatKind.nearest .f32 t25) (((l_list).getD (t25 : Int).toNat 0)))) (t25 + 1)) else (bif !((p_impl_IsFinite (fdiv .f32 (fsub .f32 (fmul .f32 (FloatKind.nearest .f32 (l_list.length : Int)) d) (fmul .f32 a b)) (fsub .f32 (fmul .f32 (FloatKind.nearest .f32 (l_list.length : Int)) c) (fmul .f32 a a))))) then (0, 0, false) else (bif !((p_impl_IsFinite (fdiv .f32 (fsub .f32 b (fmul .f32 (fdiv .f32 (fsub .f32 (fmul .f32 (FloatKind.nearest .f32 (l_list.length : Int)) d) (fmul .f32 a b)) (fsub .f32 (fmul .f32 (FloatKind.nearest .f32 (l_list.length : Int)) c) (fmul .f32 a a))) a)) (FloatKind.nearest .f32 (l_list.length : Int))))) then (0, 0, false) else (fdiv .f32 (fsub .f32 (fmul .f32 (FloatKind.nearest .f32 (l_list.length : Int)) d) (fmul .f32 a b)) (fsub .f32 (fmul .f32 (FloatKind.nearest .f32 (l_list.length : Int)) c) (fmul .f32 a a)), fdiv .f32 (fsub .f32 b (fmul .f32 (fdiv .f32 (fsub .f32 (fmul .f32 (FloatKind.nearest .f32 (l_list.length : Int)) d) (fmul .f32 a b)) (fsub .f32 (fmul .f32 (FloatKind.nearest .f32 (l_list.length : Int)) c) (fmul .f32 a a))) a)) (FloatKind.nearest .f32 (l_list.length : Int)), true))))
def p_impl_TrendOf_l1_s := fun l_list μ a b c d t25 => @p_impl_TrendOf_l1.eq_2 l_list a b c d t25 μ
def p_impl_TrendOf (l_list : List Nat) : Nat × Nat × Bool := (bif !(p_impl_isLong l_list) then (0, 0, false) else (bif decide (((l_list.length : Int) : Int) < 2) then (0, 0, false) else (p_impl_TrendOf_l1 l_list (Int.toNat ((l_list.length : Int) - (0 : Int)) + 1) 0 0 0 0 (0 : Int))))
def p_impl_TrendOf_eq := @p_impl_TrendOf.eq_1
def T_impl_TrendOf (list_a : Option Addr) (list_n : Nat) (list_e : Nat) (H : AHeap) (K : Nat → Nat → Bool → AHeap → Prop) : Prop := ∃ (l_list : List Nat), IsL fF H list_a list_n l_list ∧ l_list.length < 1073741824 ∧ ((∀ H' : AHeap, Grow H H' → K ((p_impl_TrendOf l_list).1) ((p_impl_TrendOf l_list).2.1) ((p_impl_TrendOf l_list).2.2) H'))
theorem T_impl_TrendOf_i {list_a : Option Addr} {list_n : Nat} {list_e : Nat} {H : AHeap} {K : Nat → Nat → Bool → AHeap → Prop} (h : ∃ (l_list : List Nat), IsL fF H list_a list_n l_list ∧ l_list.length < 1073741824 ∧ ((∀ H' : AHeap, Grow H H' → K ((p_impl_TrendOf l_list).1) ((p_impl_TrendOf l_list).2.1) ((p_impl_TrendOf l_list).2.2) H'))) : T_impl_TrendOf list_a list_n list_e H K := h

/-! impl_TrendOf: function 50 -/
def E_impl_TrendOf : Env := envOf [(105, S_impl_isLong), (133, S_impl_IsFinite)]
def F_impl_TrendOf : List Value → AHeap → (Value → AHeap → Prop) → Prop
  | [.slice list_a list_n list_e], H, K => T_impl_TrendOf list_a list_n list_e H fun (r1 : Nat) (r2 : Nat) (r3 : Bool) (H' : AHeap) => K (.tuple #[.float .f32 r1, .float .f32 r2, .bool r3]) H'
  | _, _, _ => False
def S_impl_TrendOf : FSpec := { F := F_impl_TrendOf, quiet := false, tame := true }
theorem impl_TrendOf_vc (list_a : Option Addr) (list_n : Nat) (list_e : Nat) (H : AHeap) (K : Value → AHeap → Prop) : bodyL Try.prog E_impl_TrendOf Try.f50 [.slice list_a list_n list_e] H K =
  (T_impl_isLong list_a list_n list_e H fun (r1 : Bool) (H1 : AHeap) => Br (!r1) (K (.tuple #[.float .f32 0, .float .f32 0, .bool false]) H1) (Br (decide (((list_n : Int) : Int) < 2)) (K (.tuple #[.float .f32 0, .float .f32 0, .bool false]) H1) (loopK (exL Try.prog E_impl_TrendOf (cl (cl (cr (cl (cr (cr (cr (bodyC Try.f50)))))))) 58720737 28 [(0, 481)]) [.slice list_a list_n list_e, ud, ud, ud, ud, .float .f32 0, .float .f32 0, .float .f32 0, .float .f32 0, ud, ud, ud, ud, ud, ud, ud, ud, ud, ud, ud, ud, ud, ud, .slice list_a list_n list_e, .int .i64 (list_n : Int), .int .i64 0, ud, ud, ud, ud, ud, ud, ud, ud, ud, ud, ud, ud, ud, ud, ud, ud, ud, ud, ud, ud, ud, ud, ud, ud, ud, ud, ud, ud, ud, ud, ud, ud, ud, ud, ud, ud, ud, ud, ud, ud, ud, ud, ud, ud, ud, ud, ud, ud, ud, ud, ud, ud, ud, ud, ud, ud, ud, ud] H1 (blockQ 0 (seqQ (exL Try.prog E_impl_TrendOf (cr (cr (cr (cr (bodyC Try.f50))))) 28 28 []) (retK Try.prog Try.f50 K)))))) := by kernel_rfl
abbrev impl_TrendOf_P1 (list_a : Option Addr) (list_e : Nat) (list_n : Nat) (a : Nat) (b : Nat) (c : Nat) (d : Nat) (t25 : Int)  : List Value := [.slice list_a list_n list_e, ud, ud, ud, ud, .float .f32 a, .float .f32 b, .float .f32 c, .float .f32 d, ud, ud, ud, ud, ud, ud, ud, ud, ud, ud, ud, ud, ud, ud, .slice list_a list_n list_e, .int .i64 (list_n : Int), .int .i64 t25, ud, ud, ud, ud, ud, ud, ud, ud, ud, ud, ud, ud, ud, ud, ud, ud, ud, ud, ud, ud, ud, ud, ud, ud, ud, ud, ud, ud, ud, ud, ud, ud, ud, ud, ud, ud, ud, ud, ud, ud, ud, ud, ud, ud, ud, ud, ud, ud, ud, ud, ud, ud, ud, ud, ud, ud, ud, ud]
theorem impl_TrendOf_r1 (list_a : Option Addr) (list_e : Nat) (list_n : Nat) (a : Nat) (b : Nat) (c : Nat) (d : Nat) (t25 : Int)  (H : AHeap) (R : Post) : exL Try.prog E_impl_TrendOf (cl (cl (cr (cl (cr (cr (cr (bodyC Try.f50)))))))) 58720737 28 [(0, 481)] (impl_TrendOf_P1 list_a list_e list_n a b c d t25) H R =
  (Br (decide ((t25 : Int) < (list_n : Int))) ((0 : Int) ≤ t25 ∧ t25 < (list_n : Int) ∧ ∃ b1 f1, (list_a : Option Addr) = some ⟨b1, f1, none⟩ ∧ ∃ x1 : Nat,  rdC H b1 (f1 + (t25 : Int).toNat * 1) = some (.float .f32 x1) ∧ R .normal [.slice list_a list_n list_e, ud, ud, ud, ud, .float .f32 (fadd .f32 a (FloatKind.nearest .f32 t25)), .float .f32 (fadd .f32 b x1), .float .f32 (fadd .f32 c (fmul .f32 (FloatKind.nearest .f32 t25) (FloatKind.nearest .f32 t25))), .float .f32 (fadd .f32 d (fmul .f32 (FloatKind.nearest .f32 t25) x1)), ud, ud, ud, ud, ud, ud, ud, ud, ud, ud, ud, ud, ud, ud, .slice list_a list_n list_e, .int .i64 (list_n : Int), .int .i64 (IntKind.wrap .i64 (t25 + 1)), ud, ud, ud, ud, ud, ud, ud, ud, ud, ud, ud, ud, ud, ud, ud, ud, ud, ud, ud, ud, ud, ud, ud, ud, ud, ud, ud, ud, ud, ud, ud, ud, ud, ud, ud, ud, ud, ud, ud, ud, ud, ud, ud, ud, ud, ud, ud, ud, ud, ud, ud, ud, ud, ud, ud, ud, ud, ud] H) (R (.exit 0) [.slice list_a list_n list_e, ud, ud, ud, ud, .float .f32 a, .float .f32 b, .float .f32 c, .float .f32 d, ud, ud, ud, ud, ud, ud, ud, ud, ud, ud, ud, ud, ud, ud, ud, ud, ud, ud, ud, ud, ud, ud, ud, ud, ud, ud, ud, ud, ud, ud, ud, ud, ud, ud, ud, ud, ud, ud, ud, ud, ud, ud, ud, ud, ud, ud, ud, ud, ud, ud, ud, ud, ud, ud, ud, ud, ud, ud, ud, ud, ud, ud, ud, ud, ud, ud, ud, ud, ud, ud, ud, ud, ud, ud, ud] H)) := by kernel_rfl
def impl_TrendOf_I1 (list_a : Option Addr) (list_e : Nat) (list_n : Nat) (Inv : Nat → Nat → Nat → Nat → Nat → Int → AHeap → Prop) : Nat → List Value → AHeap → Prop := fun μ tm H => ∃ (a : Nat), ∃ (b : Nat), ∃ (c : Nat), ∃ (d : Nat), ∃ (t25 : Int), tm = (impl_TrendOf_P1 list_a list_e list_n a b c d t25) ∧ Inv μ a b c d t25 H
theorem impl_TrendOf_L1 (list_a : Option Addr) (list_e : Nat) (list_n : Nat) {Q : Post} (Inv : Nat → Nat → Nat → Nat → Nat → Int → AHeap → Prop) (ν : Nat) (a : Nat) (b : Nat) (c : Nat) (d : Nat) (t25 : Int)  (H : AHeap) (h0 : Inv ν a b c d t25 H)
    (hs : ∀ (μ : Nat) (a : Nat) (b : Nat) (c : Nat) (d : Nat) (t25 : Int)  (H : AHeap), Inv μ a b c d t25 H → exL Try.prog E_impl_TrendOf (cl (cl (cr (cl (cr (cr (cr (bodyC Try.f50)))))))) 58720737 28 [(0, 481)] (impl_TrendOf_P1 list_a list_e list_n a b c d t25) H (loopQ (impl_TrendOf_I1 list_a list_e list_n Inv) μ Q)) : loopK (exL Try.prog E_impl_TrendOf (cl (cl (cr (cl (cr (cr (cr (bodyC Try.f50)))))))) 58720737 28 [(0, 481)]) (impl_TrendOf_P1 list_a list_e list_n a b c d t25) H Q :=
  ⟨impl_TrendOf_I1 list_a list_e list_n Inv, ν, ⟨a, b, c, d, t25, rfl, h0⟩, fun μ tm H h => by obtain ⟨a, b, c, d, t25, rfl, hI⟩ := h; exact hs μ a b c d t25  H hI⟩
theorem impl_TrendOf_n1 {list_a : Option Addr} {list_e : Nat} {list_n : Nat} {Q : Post} {Inv : Nat → Nat → Nat → Nat → Nat → Int → AHeap → Prop} {μ : Nat} (μ' : Nat) {a : Nat} {b : Nat} {c : Nat} {d : Nat} {t25 : Int}  {H : AHeap} (hm : μ' < μ) (hI : Inv μ' a b c d t25 H) : loopQ (impl_TrendOf_I1 list_a list_e list_n Inv) μ Q .normal (impl_TrendOf_P1 list_a list_e list_n a b c d t25) H := ⟨μ', hm, a, b, c, d, t25, rfl, hI⟩
theorem impl_TrendOf_x1_0 (list_a : Option Addr) (list_e : Nat) (list_n : Nat) (a : Nat) (b : Nat) (c : Nat) (d : Nat) (H : AHeap) (K : Value → AHeap → Prop)  {I : Nat → List Value → AHeap → Prop} {μ : Nat} : loopQ I μ (blockQ 0 (seqQ (exL Try.prog E_impl_TrendOf (cr (cr (cr (cr (bodyC Try.f50))))) 28 28 []) (retK Try.prog Try.f50 K))) (.exit 0) [.slice list_a list_n list_e, ud, ud, ud, ud, .float .f32 a, .float .f32 b, .float .f32 c, .float .f32 d, ud, ud, ud, ud, ud, ud, ud, ud, ud, ud, ud, ud, ud, ud, ud, ud, ud, ud, ud, ud, ud, ud, ud, ud, ud, ud, ud, ud, ud, ud, ud, ud, ud, ud, ud, ud, ud, ud, ud, ud, ud, ud, ud, ud, ud, ud, ud, ud, ud, ud, ud, ud, ud, ud, ud, ud, ud, ud, ud, ud, ud, ud, ud, ud, ud, ud, ud, ud, ud, ud, ud, ud, ud, ud, ud] H =
  (T_impl_IsFinite (fdiv .f32 (fsub .f32 (fmul .f32 (FloatKind.nearest .f32 (list_n : Int)) d) (fmul .f32 a b)) (fsub .f32 (fmul .f32 (FloatKind.nearest .f32 (list_n : Int)) c) (fmul .f32 a a))) H fun (r2 : Bool) (H2 : AHeap) => Br (!r2) (K (.tuple #[.float .f32 0, .float .f32 0, .bool false]) H2) (T_impl_IsFinite (fdiv .f32 (fsub .f32 b (fmul .f32 (fdiv .f32 (fsub .f32 (fmul .f32 (FloatKind.nearest .f32 (list_n : Int)) d) (fmul .f32 a b)) (fsub .f32 (fmul .f32 (FloatKind.nearest .f32 (list_n : Int)) c) (fmul .f32 a a))) a)) (FloatKind.nearest .f32 (list_n : Int))) H2 fun (r3 : Bool) (H3 : AHeap) => Br (!r3) (K (.tuple #[.float .f32 0, .float .f32 0, .bool false]) H3) (K (.tuple #[.float .f32 (fdiv .f32 (fsub .f32 (fmul .f32 (FloatKind.nearest .f32 (list_n : Int)) d) (fmul .f32 a b)) (fsub .f32 (fmul .f32 (FloatKind.nearest .f32 (list_n : Int)) c) (fmul .f32 a a))), .float .f32 (fdiv .f32 (fsub .f32 b (fmul .f32 (fdiv .f32 (fsub .f32 (fmul .f32 (FloatKind.nearest .f32 (list_n : Int)) d) (fmul .f32 a b)) (fsub .f32 (fmul .f32 (FloatKind.nearest .f32 (list_n : Int)) c) (fmul .f32 a a))) a)) (FloatKind.nearest .f32 (list_n : Int))), .bool true]) H3))) := by kernel_rfl
theorem E_impl_TrendOf_ok : ∀ g, FnOk Try.prog g (E_impl_TrendOf g) := FnOk.envOf (by
  intro x hx
  simp only [List.mem_cons, List.not_mem_nil, or_false] at hx
  rcases hx with rfl | rfl
  · exact impl_isLong_ok
  · exact impl_IsFinite_ok)
set_option maxHeartbeats 1000000 in
theorem impl_TrendOf_main (list_a : Option Addr) (list_n : Nat) (list_e : Nat) (H : AHeap) (K : Value → AHeap → Prop) (h : T_impl_TrendOf list_a list_n list_e H fun (r1 : Nat) (r2 : Nat) (r3 : Bool) (H' : AHeap) => K (.tuple #[.float .f32 r1, .float .f32 r2, .bool r3]) H') : bodyL Try.prog E_impl_TrendOf Try.f50 [.slice list_a list_n list_e] H K := by
  rw [impl_TrendOf_vc]
  obtain ⟨l_list, i_list, bd_16, hk⟩ := h
  obtain rfl := i_list.eqn
  have e : (p_impl_TrendOf l_list) = _ := rfl
  have e := e.trans (p_impl_TrendOf_eq l_list)
  have g0 := Grow.refl H
  refine T_impl_isLong_i ⟨_, (i_list.grow g0), ω0, fun  H_1 g_1  => ?_⟩
  have l_2 := g_1.1
  have g_3 := g0.trans g_1
  have l_4 := g_3.1
  refine Br.intro (fun c_5 => ?_) (fun c_5 => ?_)
  · have e := e.trans (cond_t c_5)
    have c_5n := nf_of_t c_5
    rw [e] at hk
    exact hk  H_1 g_3 
  · have e := e.trans (cond_f c_5)
    have c_5n := nt_of_f c_5
    have c_5n' := impl_isLong_t c_5n
    refine Br.intro (fun c_6 => ?_) (fun c_6 => ?_)
    · have e := e.trans (cond_t c_6)
      have c_6' := of_decide_eq_true c_6
      rw [e] at hk
      exact hk  H_1 g_3 
    · have e := e.trans (cond_f c_6)
      have c_6' := of_decide_eq_false c_6
      refine impl_TrendOf_L1 _ _ _ (fun (μ : Nat) (a : Nat) (b : Nat) (c : Nat) (d : Nat) (t25 : Int) (H_2 : AHeap) => H_1 = H_2 ∧ (0 : Int) ≤ t25 ∧ t25 ≤ (l_list.length : Int) ∧ (l_list.length : Int) - t25 ≤ (μ : Int) ∧ p_impl_TrendOf l_list = p_impl_TrendOf_l1 l_list (μ + 1) a b c d t25) (Int.toNat ((l_list.length : Int) - (0 : Int))) _ _ _ _ _ H_1 ?_ ?_
      · exact ⟨rfl, ω5, ω5, ω2, e⟩
      · intro μ a b c d t25  H_2 hI
        obtain ⟨rfl, v_7, v_8, hμ, e⟩ := hI
        rw [impl_TrendOf_r1]
        have e := e.trans (p_impl_TrendOf_l1_s l_list μ a b c d t25)
        have l_9 := g_3.1
        refine Br.intro (fun c_10 => ?_) (fun c_10 => ?_)
        · have e := e.trans (cond_t c_10)
          have c_10' := of_decide_eq_true c_10
          obtain ⟨b_11, f_12, q_13⟩ := ((i_list.grow g_3)).pos ω0
          refine ⟨by omega, by omega, b_11, f_12, q_13, ?_⟩
          refine ⟨((l_list).getD (t25 : Int).toNat 0), (i_list).rd g_3 q_13 ω2 _, ?_⟩
          rw [show IntKind.wrap .i64 (t25 + 1) = (t25 + 1) from wrap64 ω2 ω2]
          refine impl_TrendOf_n1 (μ - 1) ω9 ⟨rfl, ω1, ω1, ω9, (by rw [show μ - 1 + 1 = μ from by first | omega]; exact e)⟩
        · have e := e.trans (cond_f c_10)
          have c_10' := of_decide_eq_false c_10
          rw [impl_TrendOf_x1_0]
          refine T_impl_IsFinite_i ?_
          refine Br.intro (fun c_14 => ?_) (fun c_14 => ?_)
          · have e := e.trans (cond_t c_14)
            have c_14n := nf_of_t c_14
            rw [e] at hk
            exact hk  H_1 g_3 
          · have e := e.trans (cond_f c_14)
            have c_14n := nt_of_f c_14
            refine T_impl_IsFinite_i ?_
            refine Br.intro (fun c_15 => ?_) (fun c_15 => ?_)
            · have e := e.trans (cond_t c_15)
              have c_15n := nf_of_t c_15
              rw [e] at hk
              exact hk  H_1 g_3 
            · have e := e.trans (cond_f c_15)
              have c_15n := nt_of_f c_15
              rw [e] at hk
              exact hk  H_1 g_3 
theorem impl_TrendOf_ok : FnOk Try.prog 50 S_impl_TrendOf := by
  refine FnOk.body mix_ok E_impl_TrendOf_ok Try.func50 rfl (by kernel_rfl) (by kernel_rfl) ?_ ?_ ?_ ?_ ?_
  · intro args H K K' h hk
    simp only [S_impl_TrendOf] at *
    unfold F_impl_TrendOf at *
    split at hk
    · obtain ⟨l_list, i_list, bd_16, k⟩ := hk
      exact ⟨l_list, i_list, bd_16, (fun  H' gg  => h _ _ (k  H' gg ))⟩
    · exact hk.elim
  · intro hq; cases hq
  · intro args H K hk
    simp only [S_impl_TrendOf] at *
    unfold F_impl_TrendOf at *
    split at hk
    · obtain ⟨l_list, i_list, bd_16, k⟩ := hk
      exact ⟨_, _, k H (Grow.refl H)⟩
    · exact hk.elim
  · intro _ args H K hk
    simp only [S_impl_TrendOf] at *
    unfold F_impl_TrendOf at *
    split at hk
    · obtain ⟨l_list, i_list, bd_16, k⟩ := hk
      exact ⟨l_list, i_list, bd_16, (fun  H' gg  => ⟨gg, k  H' gg ⟩)⟩
    · exact hk.elim
  · have mm := @impl_TrendOf_main
    have ml := fun (args : List Value) (H : AHeap) (K : Value → AHeap → Prop) => bodyL_body (P := Try.prog) (env := E_impl_TrendOf ) (fn := Try.f50) (args := args) (H := H) (K := K) E_impl_TrendOf_ok 
    revert mm ml
    generalize bodyK Try.prog E_impl_TrendOf Try.f50 = Q
    generalize bodyL Try.prog E_impl_TrendOf Try.f50 = QL
    intro mm ml args H K hk
    simp only [S_impl_TrendOf] at *
    unfold F_impl_TrendOf at *
    split at hk
    · exact ml _ H K (mm _ _ _ H K hk)
    · exact hk.elim
def p_impl_isOver (x : Nat) : Bool := (bif (p_impl_IsFinite x) then flt .f32 0 x else false)
def T_impl_isOver (x : Nat) (H : AHeap) (K : Bool → AHeap → Prop) : Prop := K (p_impl_isOver x) H

theorem T_impl_isOver_i {x : Nat} {H : AHeap} {K : Bool → AHeap → Prop} (h : K (p_impl_isOver x) H) : T_impl_isOver x H K := h
/-! impl_isOver: function 134 -/
def E_impl_isOver : Env := envOf [(133, S_impl_IsFinite)]
def F_impl_isOver : List Value → AHeap → (Value → AHeap → Prop) → Prop
  | [.float .f32 x], H, K => T_impl_isOver x H fun (r1 : Bool) (H' : AHeap) => K (.bool r1) H'
  | _, _, _ => False
def S_impl_isOver : FSpec := { F := F_impl_isOver, quiet := true, tame := false }
theorem impl_isOver_vc (x : Nat) (H : AHeap) (K : Value → AHeap → Prop) : bodyL Try.prog E_impl_isOver Try.f134 [.float .f32 x] H K =
  (T_impl_IsFinite x H fun (r1 : Bool) (H1 : AHeap) => Br r1 (K (.bool (flt .f32 0 x)) H1) (K (.bool false) H1)) := by kernel_rfl
theorem E_impl_isOver_ok : ∀ g, FnOk Try.prog g (E_impl_isOver g) := FnOk.envOf (by
  intro x hx
  simp only [List.mem_cons, List.not_mem_nil, or_false] at hx
  subst hx; exact impl_IsFinite_ok)
set_option maxHeartbeats 1000000 in
theorem impl_isOver_main (x : Nat) (H : AHeap) (K : Value → AHeap → Prop) (h : T_impl_isOver x H fun (r1 : Bool) (H' : AHeap) => K (.bool r1) H') : bodyL Try.prog E_impl_isOver Try.f134 [.float .f32 x] H K := by
  rw [impl_isOver_vc]
  simp only [T_impl_IsFinite]
  unfold T_impl_isOver p_impl_isOver at h
  repeat' (first | exact h | (exfalso; simp_all; done) | (refine ⟨by decide, ?_⟩) | (refine Br.intro (fun hb => ?_) (fun hb => ?_) <;> (try simp only [hb, cond_true, cond_false, Bool.not_true, Bool.not_false] at h)))
theorem impl_isOver_ok : FnOk Try.prog 134 S_impl_isOver := by
  refine FnOk.body mix_ok E_impl_isOver_ok Try.func134 rfl (by kernel_rfl) (by kernel_rfl) ?_ ?_ ?_ ?_ ?_
  · intro args H K K' h hk
    simp only [S_impl_isOver] at *
    unfold F_impl_isOver at *
    split at hk
    · have k := hk
      exact h _ _ k
    · exact hk.elim
  · intro _ args H K hk
    simp only [S_impl_isOver] at *
    unfold F_impl_isOver at *
    split at hk
    · have k := hk
      exact ⟨_, k, fun K' k' => k'⟩
    · exact hk.elim
  · intro args H K hk
    simp only [S_impl_isOver] at *
    unfold F_impl_isOver at *
    split at hk
    · have k := hk
      exact ⟨_, _, k⟩
    · exact hk.elim
  · intro hq; cases hq
  · have mm := @impl_isOver_main
    have ml := fun (args : List Value) (H : AHeap) (K : Value → AHeap → Prop) => bodyL_body (P := Try.prog) (env := E_impl_isOver ) (fn := Try.f134) (args := args) (H := H) (K := K) E_impl_isOver_ok 
    revert mm ml
    generalize bodyK Try.prog E_impl_isOver Try.f134 = Q
    generalize bodyL Try.prog E_impl_isOver Try.f134 = QL
    intro mm ml args H K hk
    simp only [S_impl_isOver] at *
    unfold F_impl_isOver at *
    split at hk
    · exact ml _ H K (mm _ H K hk)
    · exact hk.elim
def p_math_Float64frombits (x : Int) : Nat := cn .f64 x.toNat
def T_math_Float64frombits (x : Int) (H : AHeap) (K : Nat → AHeap → Prop) : Prop := K (p_math_Float64frombits x) H
def F_math_Float64frombits : List Value → AHeap → (Value → AHeap → Prop) → Prop
  | [.int .u64 b], H, K => T_math_Float64frombits b H fun r1 H' => K (.float .f64 r1) H'
  | _, _, _ => False
def S_math_Float64frombits : FSpec := { F := F_math_Float64frombits, quiet := true }
theorem F_math_Float64frombits_o {args : List Value} {H : AHeap} {K : Value → AHeap → Prop} (h : S_math_Float64frombits.F args H K) : ∃ x, args = [.int .u64 x] ∧ K (.float .f64 (p_math_Float64frombits x)) H := by
  simp only [S_math_Float64frombits] at h
  unfold F_math_Float64frombits at h
  split at h
  · exact ⟨_, rfl, h⟩
  · exact h.elim
theorem math_Float64frombits_ok : FnOk Try.prog 209 S_math_Float64frombits := by
  refine FnOk.ext rfl ?_ ?_ ?_ ?_
  · intro args H K K' h hk
    obtain ⟨x, rfl, k⟩ := F_math_Float64frombits_o hk
    exact h _ _ k
  · intro _ args H K hk
    obtain ⟨x, rfl, k⟩ := F_math_Float64frombits_o hk
    exact ⟨_, k, fun K' k' => k'⟩
  · intro args H K hk
    obtain ⟨x, rfl, k⟩ := F_math_Float64frombits_o hk
    exact ⟨_, _, k⟩
  · intro ρ w args args' H K ha hk
    obtain ⟨x, rfl, k⟩ := F_math_Float64frombits_o hk
    obtain ⟨y, ys, rfl, h3, h4⟩ := ha.uncons
    obtain rfl := h4.unnil
    cases h3
    refine ⟨_, .float .f64 x.toNat, w, ?_, .refl w, .float .f64 _ _ rfl, k⟩
    have := run_callFunc_extern (e := Extern.MathFloatBits.float64frombits) Try.func209 (by kernel_rfl) (by kernel_rfl) (by kernel_rfl) (by kernel_rfl) #[.int .u64 x] w
    rw [this]; rfl

def p_math_Inf (sign : Int) : Nat := (bif decide ((0 : Int) ≤ sign) then (p_math_Float64frombits 9218868437227405312) else (p_math_Float64frombits 18442240474082181120))
def T_math_Inf (sign : Int) (H : AHeap) (K : Nat → AHeap → Prop) : Prop := K (p_math_Inf sign) H

theorem T_math_Inf_i {sign : Int} {H : AHeap} {K : Nat → AHeap → Prop} (h : K (p_math_Inf sign) H) : T_math_Inf sign H K := h
/-! math_Inf: function 186 -/
def E_math_Inf : Env := envOf [(209, S_math_Float64frombits)]
def F_math_Inf : List Value → AHeap → (Value → AHeap → Prop) → Prop
  | [.int .i64 sign], H, K => T_math_Inf sign H fun (r1 : Nat) (H' : AHeap) => K (.float .f64 r1) H'
  | _, _, _ => False
def S_math_Inf : FSpec := { F := F_math_Inf, quiet := true, tame := false }
theorem math_Inf_vc (sign : Int) (H : AHeap) (K : Value → AHeap → Prop) : bodyL Try.prog E_math_Inf Try.f186 [.int .i64 sign] H K =
  (Br (decide ((0 : Int) ≤ sign)) (T_math_Float64frombits 9218868437227405312 H fun (r1 : Nat) (H1 : AHeap) => K (.float .f64 r1) H1) (T_math_Float64frombits 18442240474082181120 H fun (r2 : Nat) (H2 : AHeap) => K (.float .f64 r2) H2)) := by kernel_rfl
theorem E_math_Inf_ok : ∀ g, FnOk Try.prog g (E_math_Inf g) := FnOk.envOf (by
  intro x hx
  simp only [List.mem_cons, List.not_mem_nil, or_false] at hx
  subst hx; exact math_Float64frombits_ok)
set_option maxHeartbeats 1000000 in
theorem math_Inf_main (sign : Int) (H : AHeap) (K : Value → AHeap → Prop) (h : T_math_Inf sign H fun (r1 : Nat) (H' : AHeap) => K (.float .f64 r1) H') : bodyL Try.prog E_math_Inf Try.f186 [.int .i64 sign] H K := by
  rw [math_Inf_vc]
  simp only [T_math_Float64frombits]
  unfold T_math_Inf p_math_Inf at h
  repeat' (first | exact h | (exfalso; simp_all; done) | (refine ⟨by decide, ?_⟩) | (refine Br.intro (fun hb => ?_) (fun hb => ?_) <;> (try simp only [hb, cond_true, cond_false, Bool.not_true, Bool.not_false] at h)))
theorem math_Inf_ok : FnOk Try.prog 186 S_math_Inf := by
  refine FnOk.body mix_ok E_math_Inf_ok Try.func186 rfl (by kernel_rfl) (by kernel_rfl) ?_ ?_ ?_ ?_ ?_
  · intro args H K K' h hk
    simp only [S_math_Inf] at *
    unfold F_math_Inf at *
    split at hk
    · have k := hk
      exact h _ _ k
    · exact hk.elim
  · intro _ args H K hk
    simp only [S_math_Inf] at *
    unfold F_math_Inf at *
    split at hk
    · have k := hk
      exact ⟨_, k, fun K' k' => k'⟩
    · exact hk.elim
  · intro args H K hk
    simp only [S_math_Inf] at *
    unfold F_math_Inf at *
    split at hk
    · have k := hk
      exact ⟨_, _, k⟩
    · exact hk.elim
  · intro hq; cases hq
  · have mm := @math_Inf_main
    have ml := fun (args : List Value) (H : AHeap) (K : Value → AHeap → Prop) => bodyL_body (P := Try.prog) (env := E_math_Inf ) (fn := Try.f186) (args := args) (H := H) (K := K) E_math_Inf_ok 
    revert mm ml
    generalize bodyK Try.prog E_math_Inf Try.f186 = Q
    generalize bodyL Try.prog E_math_Inf Try.f186 = QL
    intro mm ml args H K hk
    simp only [S_math_Inf] at *
    unfold F_math_Inf at *
    split at hk
    · exact ml _ H K (mm _ H K hk)
    · exact hk.elim

def p_impl_expWide_l2 (x : Nat) (p : Nat) (k : Nat) (k2_3 : Nat → Int → Nat) : Nat → Nat → Int → Nat
  | 0, _, _ => 0
  | μ2 + 1, p_4, t25 => (bif decide ((t25 : Int) < 8) then (p_impl_expWide_l2 x p k k2_3 μ2 (fmul .f64 p_4 p_4) (t25 + 1)) else (k2_3 p_4 t25))
def p_impl_expWide_l2_s := fun x p k k2_3 μ2 p_4 t25 => @p_impl_expWide_l2.eq_2 x p k k2_3 p_4 t25 μ2
def p_impl_expWide_l1 (x : Nat) : Nat → Nat → Nat → Nat
  | 0, _, _ => 0
  | μ + 1, p, k => (bif fle .f64 4607182418800017408 k then (p_impl_expWide_l1 x μ (fadd .f64 4607182418800017408 (fdiv .f64 (fmul .f64 (fdiv .f64 x 4643211215818981376) p) k)) (fsub .f64 k 4607182418800017408)) else (p_impl_expWide_l2 x p k (fun (p_4 : Nat) (t25 : Int) => p_4) (Int.toNat (8 - (0 : Int)) + 1) p (0 : Int)))
def p_impl_expWide_l1_s := fun x μ p k => @p_impl_expWide_l1.eq_2 x p k μ
def p_impl_expWide (x : Nat) : Nat := (bif flt .f64 4641240890982006784 x then (p_math_Inf (1 : Int)) else (bif flt .f64 x 13864612927836782592 then 0 else (p_impl_expWide_l1 x (Int.toNat (cnt 4622945017495814144) + 1) 4607182418800017408 4622945017495814144)))
def p_impl_expWide_eq := @p_impl_expWide.eq_1
def T_impl_expWide (x : Nat) (H : AHeap) (K : Nat → AHeap → Prop) : Prop := K (p_impl_expWide x) H
theorem T_impl_expWide_i {x : Nat} {H : AHeap} {K : Nat → AHeap → Prop} (h : K (p_impl_expWide x) H) : T_impl_expWide x H K := h
theorem impl_expWide_sq {y P K : Nat} {k : Int} : ∀ (μ p : Nat) (i : Int), Bd .f64 1074 p → (FloatKind.f64.format.read p).neg = false → Bd .f64 1074 (p_impl_expWide_l2 y P K (fun (p : Nat) (t : Int) => p) μ p i) ∧ (FloatKind.f64.format.read (p_impl_expWide_l2 y P K (fun (p : Nat) (t : Int) => p) μ p i)).neg = false := by
  intro μ
  induction μ with
  | zero => intro p i _ _; exact ⟨⟨fin_zero _, by show (sv .f64 0).natAbs ≤ _; rw [sv_zero]; exact Nat.zero_le _⟩, by show (FloatKind.f64.format.read 0).neg = false; rw [read_zero]; rfl⟩
  | succ μ ih =>
    intro p i hp hs
    rw [p_impl_expWide_l2_s]
    cases decide (i < (8 : Int))
    · exact ⟨hp, hs⟩
    · have := Bd.mul (T := 1022) hp hp (top64 ω7) (by rw [fb64, lp64]; decide)
      rw [fb64, hs] at this
      exact ih _ _ this.1 this.2
theorem impl_expWide_ser {y : Nat} (hy : Bd .f64 (8 + 1074) y) (hn : (FloatKind.f64.format.read y).neg = true) : ∀ (μ p : Nat) (n : Int), n ≤ 12 → -1 ≤ n → Bd .f64 1074 p → (FloatKind.f64.format.read p).neg = false → Bd .f64 1074 (p_impl_expWide_l1 y μ p (FloatKind.nearest .f64 n)) := by
  intro μ
  induction μ with
  | zero => intro p n _ _ _ _; exact ⟨fin_zero _, by show (sv .f64 0).natAbs ≤ _; rw [sv_zero]; exact Nat.zero_le _⟩
  | succ μ ih =>
    intro p n h1 h0 hp hs
    rw [p_impl_expWide_l1_s]
    rw [(cnt_at (n := n) ω2 ω2).2.1]
    by_cases hc : (1 : Int) ≤ n
    · rw [decide_eq_true hc, cond_true]
      have t1 := Bd.div (T := 1022) (B := 1082) hy (y := 4643211215818981376) (by decide +kernel) (by decide +kernel) (top64 ω7) (by rw [fb64, lp64]; decide)
      rw [fb64, hn, show (FloatKind.f64.format.read 4643211215818981376).neg = false from by decide +kernel] at t1
      have t2 := Bd.mul (T := 1022) t1.1 hp (top64 ω7) (by rw [fb64, lp64]; decide)
      rw [fb64, t1.2, hs] at t2
      have c := cnt_sv hc ω2
      have t3 := Bd.div (T := 1022) (B := 1074) t2.1 c.1 c.2.1 (top64 ω7) (by rw [fb64, lp64]; decide)
      rw [fb64, t2.2, c.2.2, show 52 + 1022 = 1074 from rfl] at t3
      have hz := sv_le_zero t3.2
      have hone : sv .f64 4607182418800017408 = 2 ^ 1074 := by decide +kernel
      have habs := t3.1.2
      generalize hq : fdiv .f64 (fmul .f64 (fdiv .f64 y 4643211215818981376) p) (FloatKind.nearest .f64 n) = q at *
      have hpow := pow_cast 1074
      have hsum : (sv .f64 4607182418800017408 + sv .f64 q).natAbs ≤ 2 ^ (FloatKind.f64.format.fractionBits + 1022) := by
        rw [hone, fb64, ← hpow, show 52 + 1022 = 1074 from rfl]
        obtain ⟨W, hW⟩ : ∃ W : Nat, W = 2 ^ 1074 := ⟨_, rfl⟩
        rw [← hW] at habs ⊢
        clear hpow hW
        omega
      have t4 := Bd.add (T := 1022) (x := 4607182418800017408) (y := q) (by decide +kernel) t3.1.1 (top64 ω7) hsum
      rw [fb64] at t4
      have hneg : (FloatKind.f64.format.read (fadd .f64 4607182418800017408 q)).neg = false := by
        rw [t4.2]
        split
        · rw [show (FloatKind.f64.format.read 4607182418800017408).neg = false from by decide +kernel]; rfl
        · refine decide_eq_false ?_
          rw [hone, ← hpow]
          generalize (2 ^ 1074 : Nat) = W at *
          omega
      rw [(cnt_at (n := n) ω2 ω2).2.2.1]; exact ih _ (n - 1) ω2 ω2 t4.1 hneg
    · rw [decide_eq_false hc, cond_false]
      exact (impl_expWide_sq (k := 0) _ _ _ hp hs).1
theorem impl_expWide_nar {x : Nat} (hx : (FloatKind.f32.format.read x).isNaN = true ∨ (FloatKind.f32.format.read x).neg = true) : fnarrow (p_impl_expWide (fwide x)) ≠ none := by
  cases hr : FloatKind.f32.format.read x with
  | nan s t =>
    have e : fwide x = qnan .f64 := by
      unfold fwide
      rw [show FloatKind.f32.decode x = FloatKind.f32.format.read x from rfl, hr]
    rw [e]; decide +kernel
  | infinity s =>
    have hs : s = true := by
      rw [hr] at hx
      rcases hx with h | h
      · cases h
      · exact h
    have e : fwide x = FloatKind.f64.encode (.infinity true) := by
      unfold fwide
      rw [show FloatKind.f32.decode x = FloatKind.f32.format.read x from rfl, hr, hs]
    rw [e]; decide +kernel
  | number s m i =>
    have hf : fin .f32 x = true := by unfold fin; rw [hr]
    have hs : (FloatKind.f32.format.read x).neg = true := by
      rcases hx with h | h
      · rw [hr] at h; cases h
      · exact h
    have wf := wide_fin hf
    have wn := wide_neg (x := x) (fin_nn hf)
    rw [hs] at wn
    have z := sv_le_zero wn
    rw [p_impl_expWide_eq]
    
    rw [flt_fin (by decide +kernel) wf, flt_fin wf (by decide +kernel)]
    have e1 : sv .f64 4641240890982006784 = 200 * 2 ^ 1074 := by decide +kernel
    have e2 : sv .f64 13864612927836782592 = -200 * 2 ^ 1074 := by decide +kernel
    have hpow := pow_cast 1074
    rw [e1, e2, ← hpow]
    have hp := Nat.two_pow_pos 1074
    rw [decide_eq_false (by generalize (2 ^ 1074 : Nat) = W at *; omega), cond_false]
    by_cases hc : sv .f64 (fwide x) < -200 * ((2 ^ 1074 : Nat) : Int)
    · rw [decide_eq_true hc, cond_true]; decide +kernel
    · rw [decide_eq_false hc, cond_false]
      have hy : Bd .f64 (8 + 1074) (fwide x) := by
        refine ⟨wf, ?_⟩
        have e3 : (2 : Nat) ^ (8 + 1074) = 2 ^ 8 * 2 ^ 1074 := Nat.pow_add 2 8 1074
        rw [e3]
        generalize (2 ^ 1074 : Nat) = W at *
        omega
      have one : Bd .f64 1074 4607182418800017408 := ⟨by decide +kernel, by decide +kernel⟩
      have e5 : (4622945017495814144 : Nat) = FloatKind.nearest .f64 12 := by decide +kernel
      have b := impl_expWide_ser hy wn (Int.toNat (cnt 4622945017495814144) + 1) 4607182418800017408 12 ω7 ω7 one (by decide +kernel)
      rw [← e5] at b
      exact narrow_ok (b.mono ω7)
/-! impl_expWide: function 206 -/
def E_impl_expWide : Env := envOf [(186, S_math_Inf)]
def F_impl_expWide : List Value → AHeap → (Value → AHeap → Prop) → Prop
  | [.float .f64 x], H, K => T_impl_expWide x H fun (r1 : Nat) (H' : AHeap) => K (.float .f64 r1) H'
  | _, _, _ => False
def S_impl_expWide : FSpec := { F := F_impl_expWide, quiet := true, tame := false }
theorem impl_expWide_vc (x : Nat) (H : AHeap) (K : Value → AHeap → Prop) : bodyL Try.prog E_impl_expWide Try.f206 [.float .f64 x] H K =
  (Br (flt .f64 4641240890982006784 x) (T_math_Inf 1 H fun (r1 : Nat) (H1 : AHeap) => K (.float .f64 r1) H1) (Br (flt .f64 x 13864612927836782592) (K (.float .f64 0) H) (loopK (exL Try.prog E_impl_expWide (cl (cl (cr (cl (cr (cr (cr (cr (bodyC Try.f206))))))))) 56 4 [(1, 16)]) [ud, ud, ud, .float .f64 (fdiv .f64 x 4643211215818981376), .float .f64 4607182418800017408, .float .f64 4622945017495814144, ud, ud, ud, ud, ud, ud, ud, ud, ud, ud, ud, ud, ud, ud, ud, ud, ud, ud, ud, ud, ud, ud, ud, ud, ud, ud] H (blockQ 1 (seqQ (exL Try.prog E_impl_expWide (cr (cr (cr (cr (cr (bodyC Try.f206)))))) 4 4 []) (retK Try.prog Try.f206 K)))))) := by kernel_rfl
abbrev impl_expWide_P1 (x : Nat) (p : Nat) (k : Nat)  : List Value := [ud, ud, ud, .float .f64 (fdiv .f64 x 4643211215818981376), .float .f64 p, .float .f64 k, ud, ud, ud, ud, ud, ud, ud, ud, ud, ud, ud, ud, ud, ud, ud, ud, ud, ud, ud, ud, ud, ud, ud, ud, ud, ud]
theorem impl_expWide_r1 (x : Nat) (p : Nat) (k : Nat)  (H : AHeap) (R : Post) : exL Try.prog E_impl_expWide (cl (cl (cr (cl (cr (cr (cr (cr (bodyC Try.f206))))))))) 56 4 [(1, 16)] (impl_expWide_P1 x p k) H R =
  (Br (fle .f64 4607182418800017408 k) (R .normal [ud, ud, ud, .float .f64 (fdiv .f64 x 4643211215818981376), .float .f64 (fadd .f64 4607182418800017408 (fdiv .f64 (fmul .f64 (fdiv .f64 x 4643211215818981376) p) k)), .float .f64 (fsub .f64 k 4607182418800017408), ud, ud, ud, ud, ud, ud, ud, ud, ud, ud, ud, ud, ud, ud, ud, ud, ud, ud, ud, ud, ud, ud, ud, ud, ud, ud] H) (R (.exit 1) [ud, ud, ud, ud, .float .f64 p, ud, ud, ud, ud, ud, ud, ud, ud, ud, ud, ud, ud, ud, ud, ud, ud, ud, ud, ud, ud, ud, ud, ud, ud, ud, ud, ud] H)) := by kernel_rfl
def impl_expWide_I1 (x : Nat) (Inv : Nat → Nat → Nat → AHeap → Prop) : Nat → List Value → AHeap → Prop := fun μ tm H => ∃ (p : Nat), ∃ (k : Nat), tm = (impl_expWide_P1 x p k) ∧ Inv μ p k H
theorem impl_expWide_L1 (x : Nat) {Q : Post} (Inv : Nat → Nat → Nat → AHeap → Prop) (ν : Nat) (p : Nat) (k : Nat)  (H : AHeap) (h0 : Inv ν p k H)
    (hs : ∀ (μ : Nat) (p : Nat) (k : Nat)  (H : AHeap), Inv μ p k H → exL Try.prog E_impl_expWide (cl (cl (cr (cl (cr (cr (cr (cr (bodyC Try.f206))))))))) 56 4 [(1, 16)] (impl_expWide_P1 x p k) H (loopQ (impl_expWide_I1 x Inv) μ Q)) : loopK (exL Try.prog E_impl_expWide (cl (cl (cr (cl (cr (cr (cr (cr (bodyC Try.f206))))))))) 56 4 [(1, 16)]) (impl_expWide_P1 x p k) H Q :=
  ⟨impl_expWide_I1 x Inv, ν, ⟨p, k, rfl, h0⟩, fun μ tm H h => by obtain ⟨p, k, rfl, hI⟩ := h; exact hs μ p k  H hI⟩
theorem impl_expWide_n1 {x : Nat} {Q : Post} {Inv : Nat → Nat → Nat → AHeap → Prop} {μ : Nat} (μ' : Nat) {p : Nat} {k : Nat}  {H : AHeap} (hm : μ' < μ) (hI : Inv μ' p k H) : loopQ (impl_expWide_I1 x Inv) μ Q .normal (impl_expWide_P1 x p k) H := ⟨μ', hm, p, k, rfl, hI⟩
theorem impl_expWide_x1_1 (p : Nat) (H : AHeap) (K : Value → AHeap → Prop)  {I : Nat → List Value → AHeap → Prop} {μ : Nat} : loopQ I μ (blockQ 1 (seqQ (exL Try.prog E_impl_expWide (cr (cr (cr (cr (cr (bodyC Try.f206)))))) 4 4 []) (retK Try.prog Try.f206 K))) (.exit 1) [ud, ud, ud, ud, .float .f64 p, ud, ud, ud, ud, ud, ud, ud, ud, ud, ud, ud, ud, ud, ud, ud, ud, ud, ud, ud, ud, ud, ud, ud, ud, ud, ud, ud] H =
  (loopK (exL Try.prog E_impl_expWide (cl (cl (cr (cl (cr (cr (cr (cr (cr (bodyC Try.f206)))))))))) 33554448 4 [(3, 16)]) [ud, ud, ud, ud, .float .f64 p, ud, ud, ud, ud, ud, ud, ud, ud, ud, ud, ud, ud, ud, ud, ud, ud, ud, ud, ud, ud, .int .i64 0, ud, ud, ud, ud, ud, ud] H (blockQ 3 (seqQ (exL Try.prog E_impl_expWide (cr (cr (cr (cr (cr (cr (bodyC Try.f206))))))) 4 4 []) (retK Try.prog Try.f206 K)))) := by kernel_rfl
abbrev impl_expWide_P2  (p_4 : Nat) (t25 : Int)  : List Value := [ud, ud, ud, ud, .float .f64 p_4, ud, ud, ud, ud, ud, ud, ud, ud, ud, ud, ud, ud, ud, ud, ud, ud, ud, ud, ud, ud, .int .i64 t25, ud, ud, ud, ud, ud, ud]
theorem impl_expWide_r2  (p_4 : Nat) (t25 : Int)  (H : AHeap) (R : Post) : exL Try.prog E_impl_expWide (cl (cl (cr (cl (cr (cr (cr (cr (cr (bodyC Try.f206)))))))))) 33554448 4 [(3, 16)] (impl_expWide_P2 p_4 t25) H R =
  (Br (decide ((t25 : Int) < 8)) (R .normal [ud, ud, ud, ud, .float .f64 (fmul .f64 p_4 p_4), ud, ud, ud, ud, ud, ud, ud, ud, ud, ud, ud, ud, ud, ud, ud, ud, ud, ud, ud, ud, .int .i64 (IntKind.wrap .i64 (t25 + 1)), ud, ud, ud, ud, ud, ud] H) (R (.exit 3) [ud, ud, ud, ud, .float .f64 p_4, ud, ud, ud, ud, ud, ud, ud, ud, ud, ud, ud, ud, ud, ud, ud, ud, ud, ud, ud, ud, ud, ud, ud, ud, ud, ud, ud] H)) := by kernel_rfl
def impl_expWide_I2  (Inv : Nat → Nat → Int → AHeap → Prop) : Nat → List Value → AHeap → Prop := fun μ tm H => ∃ (p_4 : Nat), ∃ (t25 : Int), tm = (impl_expWide_P2 p_4 t25) ∧ Inv μ p_4 t25 H
theorem impl_expWide_L2  {Q : Post} (Inv : Nat → Nat → Int → AHeap → Prop) (ν : Nat) (p_4 : Nat) (t25 : Int)  (H : AHeap) (h0 : Inv ν p_4 t25 H)
    (hs : ∀ (μ : Nat) (p_4 : Nat) (t25 : Int)  (H : AHeap), Inv μ p_4 t25 H → exL Try.prog E_impl_expWide (cl (cl (cr (cl (cr (cr (cr (cr (cr (bodyC Try.f206)))))))))) 33554448 4 [(3, 16)] (impl_expWide_P2 p_4 t25) H (loopQ (impl_expWide_I2  Inv) μ Q)) : loopK (exL Try.prog E_impl_expWide (cl (cl (cr (cl (cr (cr (cr (cr (cr (bodyC Try.f206)))))))))) 33554448 4 [(3, 16)]) (impl_expWide_P2 p_4 t25) H Q :=
  ⟨impl_expWide_I2  Inv, ν, ⟨p_4, t25, rfl, h0⟩, fun μ tm H h => by obtain ⟨p_4, t25, rfl, hI⟩ := h; exact hs μ p_4 t25  H hI⟩
theorem impl_expWide_n2  {Q : Post} {Inv : Nat → Nat → Int → AHeap → Prop} {μ : Nat} (μ' : Nat) {p_4 : Nat} {t25 : Int}  {H : AHeap} (hm : μ' < μ) (hI : Inv μ' p_4 t25 H) : loopQ (impl_expWide_I2  Inv) μ Q .normal (impl_expWide_P2 p_4 t25) H := ⟨μ', hm, p_4, t25, rfl, hI⟩
theorem impl_expWide_x2_3 (p_4 : Nat) (H : AHeap) (K : Value → AHeap → Prop)  {I : Nat → List Value → AHeap → Prop} {μ : Nat} : loopQ I μ (blockQ 3 (seqQ (exL Try.prog E_impl_expWide (cr (cr (cr (cr (cr (cr (bodyC Try.f206))))))) 4 4 []) (retK Try.prog Try.f206 K))) (.exit 3) [ud, ud, ud, ud, .float .f64 p_4, ud, ud, ud, ud, ud, ud, ud, ud, ud, ud, ud, ud, ud, ud, ud, ud, ud, ud, ud, ud, ud, ud, ud, ud, ud, ud, ud] H =
  (K (.float .f64 p_4) H) := by kernel_rfl
theorem E_impl_expWide_ok : ∀ g, FnOk Try.prog g (E_impl_expWide g) := FnOk.envOf (by
  intro x hx
  simp only [List.mem_cons, List.not_mem_nil, or_false] at hx
  subst hx; exact math_Inf_ok)
set_option maxHeartbeats 1000000 in
theorem impl_expWide_main (x : Nat) (H : AHeap) (K : Value → AHeap → Prop) (h : T_impl_expWide x H fun (r1 : Nat) (H' : AHeap) => K (.float .f64 r1) H') : bodyL Try.prog E_impl_expWide Try.f206 [.float .f64 x] H K := by
  rw [impl_expWide_vc]
  have hk := h
  unfold T_impl_expWide at hk
  have e : (p_impl_expWide x) = _ := rfl
  have e := e.trans (p_impl_expWide_eq x)
  have g0 := Grow.refl H
  refine Br.intro (fun c_1 => ?_) (fun c_1 => ?_)
  · have e := e.trans (cond_t c_1)
    refine T_math_Inf_i ?_
    rw [e] at hk
    exact hk
  · have e := e.trans (cond_f c_1)
    refine Br.intro (fun c_2 => ?_) (fun c_2 => ?_)
    · have e := e.trans (cond_t c_2)
      rw [e] at hk
      exact hk
    · have e := e.trans (cond_f c_2)
      refine impl_expWide_L1 _ (fun (μ : Nat) (p : Nat) (k : Nat) (H_1 : AHeap) => H = H_1 ∧ isCnt k ∧ cnt k ≤ (μ : Int) ∧ p_impl_expWide x = p_impl_expWide_l1 x (μ + 1) p k) (Int.toNat (cnt 4622945017495814144)) _ _ H ?_ ?_
      · exact ⟨rfl, (by first | omega | (simp; done) | (simp; omega) | (first | exact isCnt.of (n := 12) (by decide) (by decide) | exact (down1 (by assumption) (by assumption)).1)), ω2, e⟩
      · intro μ p k  H_1 hI
        obtain ⟨rfl, v_3, hμ, e⟩ := hI
        rw [impl_expWide_r1]
        have e := e.trans (p_impl_expWide_l1_s x μ p k)
        have l_4 := g0.1
        refine Br.intro (fun c_5 => ?_) (fun c_5 => ?_)
        · have e := e.trans (cond_t c_5)
          refine impl_expWide_n1 (μ - 1) (by first | omega | (have := down1 (by assumption) (by assumption); omega)) ⟨rfl, (by first | omega | (first | exact isCnt.of (n := 12) (by decide) (by decide) | exact (down1 (by assumption) (by assumption)).1) | (simp only [List.length_append, List.length_cons, List.length_nil, List.length_set]; done) | (simp only [List.length_append, List.length_cons, List.length_nil, List.length_set]; omega)), (by first | omega | (have := down1 (by assumption) (by assumption); omega)), (by rw [show μ - 1 + 1 = μ from by first | omega | (have := down1 (by assumption) (by assumption); omega)]; exact e)⟩
        · have e := e.trans (cond_f c_5)
          rw [impl_expWide_x1_1]
          refine impl_expWide_L2  (fun (μ2 : Nat) (p_4 : Nat) (t25 : Int) (H_2 : AHeap) => H = H_2 ∧ (0 : Int) ≤ t25 ∧ ((t25 ≤ 8 ∨ t25 ≤ (0 : Int))) ∧ 8 - t25 ≤ (μ2 : Int) ∧ p_impl_expWide x = p_impl_expWide_l2 x p k (fun (p_4 : Nat) (t25 : Int) => p_4) (μ2 + 1) p_4 t25) (Int.toNat (8 - (0 : Int))) _ _ H ?_ ?_
          · exact ⟨rfl, ω5, ω5, ω2, e⟩
          · intro μ2 p_4 t25  H_2 hI
            obtain ⟨rfl, v_6, v_7, hμ, e⟩ := hI
            rw [impl_expWide_r2]
            have e := e.trans (p_impl_expWide_l2_s x p k (fun (p_4 : Nat) (t25 : Int) => p_4) μ2 p_4 t25)
            have l_8 := g0.1
            refine Br.intro (fun c_9 => ?_) (fun c_9 => ?_)
            · have e := e.trans (cond_t c_9)
              have c_9' := of_decide_eq_true c_9
              rw [show IntKind.wrap .i64 (t25 + 1) = (t25 + 1) from wrap64 ω2 ω2]
              refine impl_expWide_n2 (μ2 - 1) ω9 ⟨rfl, ω1, ω1, ω9, (by rw [show μ2 - 1 + 1 = μ2 from by first | omega]; exact e)⟩
            · have e := e.trans (cond_f c_9)
              have c_9' := of_decide_eq_false c_9
              rw [impl_expWide_x2_3]
              rw [e] at hk
              exact hk
theorem impl_expWide_ok : FnOk Try.prog 206 S_impl_expWide := by
  refine FnOk.body mix_ok E_impl_expWide_ok Try.func206 rfl (by kernel_rfl) (by kernel_rfl) ?_ ?_ ?_ ?_ ?_
  · intro args H K K' h hk
    simp only [S_impl_expWide] at *
    unfold F_impl_expWide at *
    split at hk
    · have k := hk
      exact h _ _ k
    · exact hk.elim
  · intro _ args H K hk
    simp only [S_impl_expWide] at *
    unfold F_impl_expWide at *
    split at hk
    · have k := hk
      exact ⟨_, k, fun K' k' => k'⟩
    · exact hk.elim
  · intro args H K hk
    simp only [S_impl_expWide] at *
    unfold F_impl_expWide at *
    split at hk
    · have k := hk
      exact ⟨_, _, k⟩
    · exact hk.elim
  · intro hq; cases hq
  · have mm := @impl_expWide_main
    have ml := fun (args : List Value) (H : AHeap) (K : Value → AHeap → Prop) => bodyL_body (P := Try.prog) (env := E_impl_expWide ) (fn := Try.f206) (args := args) (H := H) (K := K) E_impl_expWide_ok 
    revert mm ml
    generalize bodyK Try.prog E_impl_expWide Try.f206 = Q
    generalize bodyL Try.prog E_impl_expWide Try.f206 = QL
    intro mm ml args H K hk
    simp only [S_impl_expWide] at *
    unfold F_impl_expWide at *
    split at hk
    · exact ml _ H K (mm _ H K hk)
    · exact hk.elim

def p_impl_expOf (x : Nat) : Nat := (p_impl_expWide (fwide x))
def p_impl_expOf_eq := @p_impl_expOf.eq_1
def T_impl_expOf (x : Nat) (H : AHeap) (K : Nat → AHeap → Prop) : Prop := K (p_impl_expOf x) H
theorem T_impl_expOf_i {x : Nat} {H : AHeap} {K : Nat → AHeap → Prop} (h : K (p_impl_expOf x) H) : T_impl_expOf x H K := h

/-! impl_expOf: function 183 -/
def E_impl_expOf : Env := envOf [(206, S_impl_expWide)]
def F_impl_expOf : List Value → AHeap → (Value → AHeap → Prop) → Prop
  | [.float .f32 x], H, K => T_impl_expOf x H fun (r1 : Nat) (H' : AHeap) => K (.float .f64 r1) H'
  | _, _, _ => False
def S_impl_expOf : FSpec := { F := F_impl_expOf, quiet := true, tame := false }
theorem impl_expOf_vc (x : Nat) (H : AHeap) (K : Value → AHeap → Prop) : bodyL Try.prog E_impl_expOf Try.f183 [.float .f32 x] H K =
  (T_impl_expWide (fwide x) H fun (r1 : Nat) (H1 : AHeap) => K (.float .f64 r1) H1) := by kernel_rfl
theorem E_impl_expOf_ok : ∀ g, FnOk Try.prog g (E_impl_expOf g) := FnOk.envOf (by
  intro x hx
  simp only [List.mem_cons, List.not_mem_nil, or_false] at hx
  subst hx; exact impl_expWide_ok)
set_option maxHeartbeats 1000000 in
theorem impl_expOf_main (x : Nat) (H : AHeap) (K : Value → AHeap → Prop) (h : T_impl_expOf x H fun (r1 : Nat) (H' : AHeap) => K (.float .f64 r1) H') : bodyL Try.prog E_impl_expOf Try.f183 [.float .f32 x] H K := by
  rw [impl_expOf_vc]
  have hk := h
  unfold T_impl_expOf at hk
  have e : (p_impl_expOf x) = _ := rfl
  have e := e.trans (p_impl_expOf_eq x)
  have g0 := Grow.refl H
  refine T_impl_expWide_i ?_
  rw [e] at hk
  exact hk
theorem impl_expOf_ok : FnOk Try.prog 183 S_impl_expOf := by
  refine FnOk.body mix_ok E_impl_expOf_ok Try.func183 rfl (by kernel_rfl) (by kernel_rfl) ?_ ?_ ?_ ?_ ?_
  · intro args H K K' h hk
    simp only [S_impl_expOf] at *
    unfold F_impl_expOf at *
    split at hk
    · have k := hk
      exact h _ _ k
    · exact hk.elim
  · intro _ args H K hk
    simp only [S_impl_expOf] at *
    unfold F_impl_expOf at *
    split at hk
    · have k := hk
      exact ⟨_, k, fun K' k' => k'⟩
    · exact hk.elim
  · intro args H K hk
    simp only [S_impl_expOf] at *
    unfold F_impl_expOf at *
    split at hk
    · have k := hk
      exact ⟨_, _, k⟩
    · exact hk.elim
  · intro hq; cases hq
  · have mm := @impl_expOf_main
    have ml := fun (args : List Value) (H : AHeap) (K : Value → AHeap → Prop) => bodyL_body (P := Try.prog) (env := E_impl_expOf ) (fn := Try.f183) (args := args) (H := H) (K := K) E_impl_expOf_ok 
    revert mm ml
    generalize bodyK Try.prog E_impl_expOf Try.f183 = Q
    generalize bodyL Try.prog E_impl_expOf Try.f183 = QL
    intro mm ml args H K hk
    simp only [S_impl_expOf] at *
    unfold F_impl_expOf at *
    split at hk
    · exact ml _ H K (mm _ H K hk)
    · exact hk.elim

def p_impl_ExpNumber (x : Nat) : Nat := ((fnarrow (p_impl_expOf x)).getD 0)
def p_impl_ExpNumber_eq := @p_impl_ExpNumber.eq_1
def T_impl_ExpNumber (x : Nat) (H : AHeap) (K : Nat → AHeap → Prop) : Prop := fnarrow (p_impl_expOf x) ≠ none ∧ K (p_impl_ExpNumber x) H
theorem T_impl_ExpNumber_i {x : Nat} {H : AHeap} {K : Nat → AHeap → Prop} (h : fnarrow (p_impl_expOf x) ≠ none ∧ K (p_impl_ExpNumber x) H) : T_impl_ExpNumber x H K := h

/-! impl_ExpNumber: function 135 -/
def E_impl_ExpNumber : Env := envOf [(183, S_impl_expOf)]
def F_impl_ExpNumber : List Value → AHeap → (Value → AHeap → Prop) → Prop
  | [.float .f32 x], H, K => T_impl_ExpNumber x H fun (r1 : Nat) (H' : AHeap) => K (.float .f32 r1) H'
  | _, _, _ => False
def S_impl_ExpNumber : FSpec := { F := F_impl_ExpNumber, quiet := true, tame := false }
theorem impl_ExpNumber_vc (x : Nat) (H : AHeap) (K : Value → AHeap → Prop) : bodyL Try.prog E_impl_ExpNumber Try.f135 [.float .f32 x] H K =
  (T_impl_expOf x H fun (r1 : Nat) (H1 : AHeap) => ∃ x1 : Nat, fnarrow r1 = some x1 ∧ K (.float .f32 x1) H1) := by kernel_rfl
theorem E_impl_ExpNumber_ok : ∀ g, FnOk Try.prog g (E_impl_ExpNumber g) := FnOk.envOf (by
  intro x hx
  simp only [List.mem_cons, List.not_mem_nil, or_false] at hx
  subst hx; exact impl_expOf_ok)
set_option maxHeartbeats 1000000 in
theorem impl_ExpNumber_main (x : Nat) (H : AHeap) (K : Value → AHeap → Prop) (h : T_impl_ExpNumber x H fun (r1 : Nat) (H' : AHeap) => K (.float .f32 r1) H') : bodyL Try.prog E_impl_ExpNumber Try.f135 [.float .f32 x] H K := by
  rw [impl_ExpNumber_vc]
  obtain ⟨pr0, hk⟩ := h
  have e : (p_impl_ExpNumber x) = _ := rfl
  have e := e.trans (p_impl_ExpNumber_eq x)
  have g0 := Grow.refl H
  refine T_impl_expOf_i ?_
  refine ⟨_, opt_get (d := 0) (by assumption), ?_⟩
  rw [e] at hk
  exact hk
theorem impl_ExpNumber_ok : FnOk Try.prog 135 S_impl_ExpNumber := by
  refine FnOk.body mix_ok E_impl_ExpNumber_ok Try.func135 rfl (by kernel_rfl) (by kernel_rfl) ?_ ?_ ?_ ?_ ?_
  · intro args H K K' h hk
    simp only [S_impl_ExpNumber] at *
    unfold F_impl_ExpNumber at *
    split at hk
    · obtain ⟨pr0, k⟩ := hk
      exact ⟨pr0, h _ _ k⟩
    · exact hk.elim
  · intro _ args H K hk
    simp only [S_impl_ExpNumber] at *
    unfold F_impl_ExpNumber at *
    split at hk
    · obtain ⟨pr0, k⟩ := hk
      exact ⟨_, k, fun K' k' => ⟨pr0, k'⟩⟩
    · exact hk.elim
  · intro args H K hk
    simp only [S_impl_ExpNumber] at *
    unfold F_impl_ExpNumber at *
    split at hk
    · obtain ⟨pr0, k⟩ := hk
      exact ⟨_, _, k⟩
    · exact hk.elim
  · intro hq; cases hq
  · have mm := @impl_ExpNumber_main
    have ml := fun (args : List Value) (H : AHeap) (K : Value → AHeap → Prop) => bodyL_body (P := Try.prog) (env := E_impl_ExpNumber ) (fn := Try.f135) (args := args) (H := H) (K := K) E_impl_ExpNumber_ok 
    revert mm ml
    generalize bodyK Try.prog E_impl_ExpNumber Try.f135 = Q
    generalize bodyL Try.prog E_impl_ExpNumber Try.f135 = QL
    intro mm ml args H K hk
    simp only [S_impl_ExpNumber] at *
    unfold F_impl_ExpNumber at *
    split at hk
    · exact ml _ H K (mm _ H K hk)
    · exact hk.elim
def p_impl_finite (x : Nat) : Nat × Bool := (bif !(p_impl_IsFinite x) then (0, false) else (x, true))
def T_impl_finite (x : Nat) (H : AHeap) (K : Nat → Bool → AHeap → Prop) : Prop := K (p_impl_finite x).1 (p_impl_finite x).2 H

theorem T_impl_finite_i {x : Nat} {H : AHeap} {K : Nat → Bool → AHeap → Prop} (h : K (p_impl_finite x).1 (p_impl_finite x).2 H) : T_impl_finite x H K := h
/-! impl_finite: function 117 -/
def E_impl_finite : Env := envOf [(133, S_impl_IsFinite)]
def F_impl_finite : List Value → AHeap → (Value → AHeap → Prop) → Prop
  | [.float .f32 x], H, K => T_impl_finite x H fun (r1 : Nat) (r2 : Bool) (H' : AHeap) => K (.tuple #[.float .f32 r1, .bool r2]) H'
  | _, _, _ => False
def S_impl_finite : FSpec := { F := F_impl_finite, quiet := true, tame := false }
theorem impl_finite_vc (x : Nat) (H : AHeap) (K : Value → AHeap → Prop) : bodyL Try.prog E_impl_finite Try.f117 [.float .f32 x] H K =
  (T_impl_IsFinite x H fun (r1 : Bool) (H1 : AHeap) => Br (!r1) (K (.tuple #[.float .f32 0, .bool false]) H1) (K (.tuple #[.float .f32 x, .bool true]) H1)) := by kernel_rfl
theorem E_impl_finite_ok : ∀ g, FnOk Try.prog g (E_impl_finite g) := FnOk.envOf (by
  intro x hx
  simp only [List.mem_cons, List.not_mem_nil, or_false] at hx
  subst hx; exact impl_IsFinite_ok)
set_option maxHeartbeats 1000000 in
theorem impl_finite_main (x : Nat) (H : AHeap) (K : Value → AHeap → Prop) (h : T_impl_finite x H fun (r1 : Nat) (r2 : Bool) (H' : AHeap) => K (.tuple #[.float .f32 r1, .bool r2]) H') : bodyL Try.prog E_impl_finite Try.f117 [.float .f32 x] H K := by
  rw [impl_finite_vc]
  simp only [T_impl_IsFinite]
  unfold T_impl_finite p_impl_finite at h
  repeat' (first | exact h | (exfalso; simp_all; done) | (refine ⟨by decide, ?_⟩) | (refine Br.intro (fun hb => ?_) (fun hb => ?_) <;> (try simp only [hb, cond_true, cond_false, Bool.not_true, Bool.not_false] at h)))
theorem impl_finite_ok : FnOk Try.prog 117 S_impl_finite := by
  refine FnOk.body mix_ok E_impl_finite_ok Try.func117 rfl (by kernel_rfl) (by kernel_rfl) ?_ ?_ ?_ ?_ ?_
  · intro args H K K' h hk
    simp only [S_impl_finite] at *
    unfold F_impl_finite at *
    split at hk
    · have k := hk
      exact h _ _ k
    · exact hk.elim
  · intro _ args H K hk
    simp only [S_impl_finite] at *
    unfold F_impl_finite at *
    split at hk
    · have k := hk
      exact ⟨_, k, fun K' k' => k'⟩
    · exact hk.elim
  · intro args H K hk
    simp only [S_impl_finite] at *
    unfold F_impl_finite at *
    split at hk
    · have k := hk
      exact ⟨_, _, k⟩
    · exact hk.elim
  · intro hq; cases hq
  · have mm := @impl_finite_main
    have ml := fun (args : List Value) (H : AHeap) (K : Value → AHeap → Prop) => bodyL_body (P := Try.prog) (env := E_impl_finite ) (fn := Try.f117) (args := args) (H := H) (K := K) E_impl_finite_ok 
    revert mm ml
    generalize bodyK Try.prog E_impl_finite Try.f117 = Q
    generalize bodyL Try.prog E_impl_finite Try.f117 = QL
    intro mm ml args H K hk
    simp only [S_impl_finite] at *
    unfold F_impl_finite at *
    split at hk
    · exact ml _ H K (mm _ H K hk)
    · exact hk.elim

def p_impl_KernelMean_l1 (l_times : List Nat) (l_values : List Nat) (vat : Nat) (wide : Nat) : Nat → Nat → Nat → Int → Nat × Bool
  | 0, _, _, _ => (0, false)
  | μ + 1, sum, all, t43 => (bif decide ((t43 : Int) < (l_times.length : Int)) then (p_impl_KernelMean_l1 l_times l_values vat wide μ (fadd .f32 sum (fmul .f32 ((p_impl_ExpNumber (fmul .f32 (fmul .f32 3204448256 (fdiv .f32 (fsub .f32 (((l_times).getD (t43 : Int).toNat 0)) vat) wide)) (fdiv .f32 (fsub .f32 (((l_times).getD (t43 : Int).toNat 0)) vat) wide)))) (((l_values).getD (t43 : Int).toNat 0)))) (fadd .f32 all ((p_impl_ExpNumber (fmul .f32 (fmul .f32 3204448256 (fdiv .f32 (fsub .f32 (((l_times).getD (t43 : Int).toNat 0)) vat) wide)) (fdiv .f32 (fsub .f32 (((l_times).getD (t43 : Int).toNat 0)) vat) wide))))) (t43 + 1)) else (bif !(flt .f32 0 all) then (0, false) else ((p_impl_finite (fdiv .f32 sum all)).1, (p_impl_finite (fdiv .f32 sum all)).2)))
def p_impl_KernelMean_l1_s := fun l_times l_values vat wide μ sum all t43 => @p_impl_KernelMean_l1.eq_2 l_times l_values vat wide sum all t43 μ
def p_impl_KernelMean (l_times : List Nat) (l_values : List Nat) (vat : Nat) (wide : Nat) : Nat × Bool := ((bif !(p_impl_isLong l_times) then (0, false) else (bif !(p_impl_isLong l_values) then (0, false) else (bif ((l_times.length : Int) : Int) != (l_values.length : Int) then (0, false) else (bif !(p_impl_IsFinite vat) then (0, false) else (bif !(p_impl_isOver wide) then (0, false) else (p_impl_KernelMean_l1 l_times l_values vat wide (Int.toNat ((l_times.length : Int) - (0 : Int)) + 1) 0 0 (0 : Int))))))))
def p_impl_KernelMean_eq := @p_impl_KernelMean.eq_1
def T_impl_KernelMean (times_a : Option Addr) (times_n : Nat) (times_e : Nat) (values_a : Option Addr) (values_n : Nat) (values_e : Nat) (vat : Nat) (wide : Nat) (H : AHeap) (K : Nat → Bool → AHeap → Prop) : Prop := ∃ (l_times : List Nat), ∃ (l_values : List Nat), IsL fF H times_a times_n l_times ∧ IsL fF H values_a values_n l_values ∧ l_times.length < 1073741824 ∧ l_values.length < 1073741824 ∧ ((∀ H' : AHeap, Grow H H' → K ((p_impl_KernelMean l_times l_values vat wide).1) ((p_impl_KernelMean l_times l_values vat wide).2) H'))
theorem T_impl_KernelMean_i {times_a : Option Addr} {times_n : Nat} {times_e : Nat} {values_a : Option Addr} {values_n : Nat} {values_e : Nat} {vat : Nat} {wide : Nat} {H : AHeap} {K : Nat → Bool → AHeap → Prop} (h : ∃ (l_times : List Nat), ∃ (l_values : List Nat), IsL fF H times_a times_n l_times ∧ IsL fF H values_a values_n l_values ∧ l_times.length < 1073741824 ∧ l_values.length < 1073741824 ∧ ((∀ H' : AHeap, Grow H H' → K ((p_impl_KernelMean l_times l_values vat wide).1) ((p_impl_KernelMean l_times l_values vat wide).2) H'))) : T_impl_KernelMean times_a times_n times_e values_a values_n values_e vat wide H K := h

/-! impl_KernelMean: function 51 -/
def E_impl_KernelMean : Env := envOf [(105, S_impl_isLong), (133, S_impl_IsFinite), (134, S_impl_isOver), (135, S_impl_ExpNumber), (117, S_impl_finite)]
def F_impl_KernelMean : List Value → AHeap → (Value → AHeap → Prop) → Prop
  | [.slice times_a times_n times_e, .slice values_a values_n values_e, .float .f32 vat, .float .f32 wide], H, K => T_impl_KernelMean times_a times_n times_e values_a values_n values_e vat wide H fun (r1 : Nat) (r2 : Bool) (H' : AHeap) => K (.tuple #[.float .f32 r1, .bool r2]) H'
  | _, _, _ => False
def S_impl_KernelMean : FSpec := { F := F_impl_KernelMean, quiet := false, tame := true }
theorem impl_KernelMean_vc (times_a : Option Addr) (times_n : Nat) (times_e : Nat) (values_a : Option Addr) (values_n : Nat) (values_e : Nat) (vat : Nat) (wide : Nat) (H : AHeap) (K : Value → AHeap → Prop) : bodyL Try.prog E_impl_KernelMean Try.f51 [.slice times_a times_n times_e, .slice values_a values_n values_e, .float .f32 vat, .float .f32 wide] H K =
  (T_impl_isLong times_a times_n times_e H fun (r1 : Bool) (H1 : AHeap) => Br (!r1) (K (.tuple #[.float .f32 0, .bool false]) H1) (T_impl_isLong values_a values_n values_e H1 fun (r2 : Bool) (H2 : AHeap) => Br (!r2) (K (.tuple #[.float .f32 0, .bool false]) H2) (Br (((times_n : Int) : Int) != (values_n : Int)) (K (.tuple #[.float .f32 0, .bool false]) H2) (T_impl_IsFinite vat H2 fun (r3 : Bool) (H3 : AHeap) => Br (!r3) (K (.tuple #[.float .f32 0, .bool false]) H3) (T_impl_isOver wide H3 fun (r4 : Bool) (H4 : AHeap) => Br (!r4) (K (.tuple #[.float .f32 0, .bool false]) H4) (loopK (exL Try.prog E_impl_KernelMean (cl (cl (cr (cl (cr (cr (cr (bodyC Try.f51)))))))) 15393162791950 768 [(0, 3072)]) [ud, .slice values_a values_n values_e, .float .f32 vat, .float .f32 wide, ud, ud, ud, ud, ud, ud, .float .f32 0, .float .f32 0, ud, ud, ud, ud, ud, ud, ud, ud, ud, ud, ud, ud, ud, ud, ud, ud, ud, ud, ud, ud, ud, ud, ud, ud, ud, ud, ud, ud, ud, .slice times_a times_n times_e, .int .i64 (times_n : Int), .int .i64 0, ud, ud, ud, ud, ud, ud, ud, ud, ud, ud, ud, ud, ud, ud, ud, ud, ud, ud, ud, ud, ud, ud, ud, ud, ud, ud, ud, ud, ud, ud, ud, ud, ud, ud, ud] H4 (blockQ 0 (seqQ (exL Try.prog E_impl_KernelMean (cr (cr (cr (cr (bodyC Try.f51))))) 768 768 []) (retK Try.prog Try.f51 K))))))))) := by kernel_rfl
abbrev impl_KernelMean_P1 (times_a : Option Addr) (times_e : Nat) (times_n : Nat) (values_a : Option Addr) (values_e : Nat) (values_n : Nat) (vat : Nat) (wide : Nat) (sum : Nat) (all : Nat) (t43 : Int)  : List Value := [ud, .slice values_a values_n values_e, .float .f32 vat, .float .f32 wide, ud, ud, ud, ud, ud, ud, .float .f32 sum, .float .f32 all, ud, ud, ud, ud, ud, ud, ud, ud, ud, ud, ud, ud, ud, ud, ud, ud, ud, ud, ud, ud, ud, ud, ud, ud, ud, ud, ud, ud, ud, .slice times_a times_n times_e, .int .i64 (times_n : Int), .int .i64 t43, ud, ud, ud, ud, ud, ud, ud, ud, ud, ud, ud, ud, ud, ud, ud, ud, ud, ud, ud, ud, ud, ud, ud, ud, ud, ud, ud, ud, ud, ud, ud, ud, ud, ud, ud]
theorem impl_KernelMean_r1 (times_a : Option Addr) (times_e : Nat) (times_n : Nat) (values_a : Option Addr) (values_e : Nat) (values_n : Nat) (vat : Nat) (wide : Nat) (sum : Nat) (all : Nat) (t43 : Int)  (H : AHeap) (R : Post) : exL Try.prog E_impl_KernelMean (cl (cl (cr (cl (cr (cr (cr (bodyC Try.f51)))))))) 15393162791950 768 [(0, 3072)] (impl_KernelMean_P1 times_a times_e times_n values_a values_e values_n vat wide sum all t43) H R =
  (Br (decide ((t43 : Int) < (times_n : Int))) ((0 : Int) ≤ t43 ∧ t43 < (times_n : Int) ∧ ∃ b1 f1, (times_a : Option Addr) = some ⟨b1, f1, none⟩ ∧ ∃ x1 : Nat,  rdC H b1 (f1 + (t43 : Int).toNat * 1) = some (.float .f32 x1) ∧ T_impl_ExpNumber (fmul .f32 (fmul .f32 3204448256 (fdiv .f32 (fsub .f32 x1 vat) wide)) (fdiv .f32 (fsub .f32 x1 vat) wide)) H fun (r5 : Nat) (H5 : AHeap) => (0 : Int) ≤ t43 ∧ t43 < (values_n : Int) ∧ ∃ b2 f2, (values_a : Option Addr) = some ⟨b2, f2, none⟩ ∧ ∃ x2 : Nat,  rdC H5 b2 (f2 + (t43 : Int).toNat * 1) = some (.float .f32 x2) ∧ R .normal [ud, .slice values_a values_n values_e, .float .f32 vat, .float .f32 wide, ud, ud, ud, ud, ud, ud, .float .f32 (fadd .f32 sum (fmul .f32 r5 x2)), .float .f32 (fadd .f32 all r5), ud, ud, ud, ud, ud, ud, ud, ud, ud, ud, ud, ud, ud, ud, ud, ud, ud, ud, ud, ud, ud, ud, ud, ud, ud, ud, ud, ud, ud, .slice times_a times_n times_e, .int .i64 (times_n : Int), .int .i64 (IntKind.wrap .i64 (t43 + 1)), ud, ud, ud, ud, ud, ud, ud, ud, ud, ud, ud, ud, ud, ud, ud, ud, ud, ud, ud, ud, ud, ud, ud, ud, ud, ud, ud, ud, ud, ud, ud, ud, ud, ud, ud] H5) (R (.exit 0) [ud, ud, ud, ud, ud, ud, ud, ud, ud, ud, .float .f32 sum, .float .f32 all, ud, ud, ud, ud, ud, ud, ud, ud, ud, ud, ud, ud, ud, ud, ud, ud, ud, ud, ud, ud, ud, ud, ud, ud, ud, ud, ud, ud, ud, ud, ud, ud, ud, ud, ud, ud, ud, ud, ud, ud, ud, ud, ud, ud, ud, ud, ud, ud, ud, ud, ud, ud, ud, ud, ud, ud, ud, ud, ud, ud, ud, ud, ud, ud, ud, ud, ud] H)) := by kernel_rfl
def impl_KernelMean_I1 (times_a : Option Addr) (times_e : Nat) (times_n : Nat) (values_a : Option Addr) (values_e : Nat) (values_n : Nat) (vat : Nat) (wide : Nat) (Inv : Nat → Nat → Nat → Int → AHeap → Prop) : Nat → List Value → AHeap → Prop := fun μ tm H => ∃ (sum : Nat), ∃ (all : Nat), ∃ (t43 : Int), tm = (impl_KernelMean_P1 times_a times_e times_n values_a values_e values_n vat wide sum all t43) ∧ Inv μ sum all t43 H
theorem impl_KernelMean_L1 (times_a : Option Addr) (times_e : Nat) (times_n : Nat) (values_a : Option Addr) (values_e : Nat) (values_n : Nat) (vat : Nat) (wide : Nat) {Q : Post} (Inv : Nat → Nat → Nat → Int → AHeap → Prop) (ν : Nat) (sum : Nat) (all : Nat) (t43 : Int)  (H : AHeap) (h0 : Inv ν sum all t43 H)
    (hs : ∀ (μ : Nat) (sum : Nat) (all : Nat) (t43 : Int)  (H : AHeap), Inv μ sum all t43 H → exL Try.prog E_impl_KernelMean (cl (cl (cr (cl (cr (cr (cr (bodyC Try.f51)))))))) 15393162791950 768 [(0, 3072)] (impl_KernelMean_P1 times_a times_e times_n values_a values_e values_n vat wide sum all t43) H (loopQ (impl_KernelMean_I1 times_a times_e times_n values_a values_e values_n vat wide Inv) μ Q)) : loopK (exL Try.prog E_impl_KernelMean (cl (cl (cr (cl (cr (cr (cr (bodyC Try.f51)))))))) 15393162791950 768 [(0, 3072)]) (impl_KernelMean_P1 times_a times_e times_n values_a values_e values_n vat wide sum all t43) H Q :=
  ⟨impl_KernelMean_I1 times_a times_e times_n values_a values_e values_n vat wide Inv, ν, ⟨sum, all, t43, rfl, h0⟩, fun μ tm H h => by obtain ⟨sum, all, t43, rfl, hI⟩ := h; exact hs μ sum all t43  H hI⟩
theorem impl_KernelMean_n1 {times_a : Option Addr} {times_e : Nat} {times_n : Nat} {values_a : Option Addr} {values_e : Nat} {values_n : Nat} {vat : Nat} {wide : Nat} {Q : Post} {Inv : Nat → Nat → Nat → Int → AHeap → Prop} {μ : Nat} (μ' : Nat) {sum : Nat} {all : Nat} {t43 : Int}  {H : AHeap} (hm : μ' < μ) (hI : Inv μ' sum all t43 H) : loopQ (impl_KernelMean_I1 times_a times_e times_n values_a values_e values_n vat wide Inv) μ Q .normal (impl_KernelMean_P1 times_a times_e times_n values_a values_e values_n vat wide sum all t43) H := ⟨μ', hm, sum, all, t43, rfl, hI⟩
theorem impl_KernelMean_x1_0 (sum : Nat) (all : Nat) (H : AHeap) (K : Value → AHeap → Prop)  {I : Nat → List Value → AHeap → Prop} {μ : Nat} : loopQ I μ (blockQ 0 (seqQ (exL Try.prog E_impl_KernelMean (cr (cr (cr (cr (bodyC Try.f51))))) 768 768 []) (retK Try.prog Try.f51 K))) (.exit 0) [ud, ud, ud, ud, ud, ud, ud, ud, ud, ud, .float .f32 sum, .float .f32 all, ud, ud, ud, ud, ud, ud, ud, ud, ud, ud, ud, ud, ud, ud, ud, ud, ud, ud, ud, ud, ud, ud, ud, ud, ud, ud, ud, ud, ud, ud, ud, ud, ud, ud, ud, ud, ud, ud, ud, ud, ud, ud, ud, ud, ud, ud, ud, ud, ud, ud, ud, ud, ud, ud, ud, ud, ud, ud, ud, ud, ud, ud, ud, ud, ud, ud, ud] H =
  (Br (!(flt .f32 0 all)) (K (.tuple #[.float .f32 0, .bool false]) H) (T_impl_finite (fdiv .f32 sum all) H fun (r6 : Nat) (r7 : Bool) (H6 : AHeap) => K (.tuple #[.float .f32 r6, .bool r7]) H6)) := by kernel_rfl
theorem E_impl_KernelMean_ok : ∀ g, FnOk Try.prog g (E_impl_KernelMean g) := FnOk.envOf (by
  intro x hx
  simp only [List.mem_cons, List.not_mem_nil, or_false] at hx
  rcases hx with rfl | rfl | rfl | rfl | rfl
  · exact impl_isLong_ok
  · exact impl_IsFinite_ok
  · exact impl_isOver_ok
  · exact impl_ExpNumber_ok
  · exact impl_finite_ok)
set_option maxHeartbeats 1000000 in
theorem impl_KernelMean_main (times_a : Option Addr) (times_n : Nat) (times_e : Nat) (values_a : Option Addr) (values_n : Nat) (values_e : Nat) (vat : Nat) (wide : Nat) (H : AHeap) (K : Value → AHeap → Prop) (h : T_impl_KernelMean times_a times_n times_e values_a values_n values_e vat wide H fun (r1 : Nat) (r2 : Bool) (H' : AHeap) => K (.tuple #[.float .f32 r1, .bool r2]) H') : bodyL Try.prog E_impl_KernelMean Try.f51 [.slice times_a times_n times_e, .slice values_a values_n values_e, .float .f32 vat, .float .f32 wide] H K := by
  rw [impl_KernelMean_vc]
  obtain ⟨l_times, l_values, i_times, i_values, bd_25, bd_26, hk⟩ := h
  obtain rfl := i_times.eqn
  obtain rfl := i_values.eqn
  have e : (p_impl_KernelMean l_times l_values vat wide) = _ := rfl
  have e := e.trans (p_impl_KernelMean_eq l_times l_values vat wide)
  have g0 := Grow.refl H
  refine T_impl_isLong_i ⟨_, (i_times.grow g0), ω0, fun  H_1 g_1  => ?_⟩
  have l_2 := g_1.1
  have g_3 := g0.trans g_1
  have l_4 := g_3.1
  refine Br.intro (fun c_5 => ?_) (fun c_5 => ?_)
  · have e := e.trans (cond_t c_5)
    have c_5n := nf_of_t c_5
    rw [e] at hk
    exact hk  H_1 g_3 
  · have e := e.trans (cond_f c_5)
    have c_5n := nt_of_f c_5
    have c_5n' := impl_isLong_t c_5n
    refine T_impl_isLong_i ⟨_, (i_values.grow g_3), ω0, fun  H_2 g_6  => ?_⟩
    have l_7 := g_6.1
    have g_8 := g_3.trans g_6
    have l_9 := g_8.1
    refine Br.intro (fun c_10 => ?_) (fun c_10 => ?_)
    · have e := e.trans (cond_t c_10)
      have c_10n := nf_of_t c_10
      rw [e] at hk
      exact hk  H_2 g_8 
    · have e := e.trans (cond_f c_10)
      have c_10n := nt_of_f c_10
      have c_10n' := impl_isLong_t c_10n
      refine Br.intro (fun c_11 => ?_) (fun c_11 => ?_)
      · have e := e.trans (cond_t c_11)
        have c_11' := ine_t c_11
        rw [e] at hk
        exact hk  H_2 g_8 
      · have e := e.trans (cond_f c_11)
        have c_11' := ine_f c_11
        refine T_impl_IsFinite_i ?_
        refine Br.intro (fun c_12 => ?_) (fun c_12 => ?_)
        · have e := e.trans (cond_t c_12)
          have c_12n := nf_of_t c_12
          rw [e] at hk
          exact hk  H_2 g_8 
        · have e := e.trans (cond_f c_12)
          have c_12n := nt_of_f c_12
          refine T_impl_isOver_i ?_
          refine Br.intro (fun c_13 => ?_) (fun c_13 => ?_)
          · have e := e.trans (cond_t c_13)
            have c_13n := nf_of_t c_13
            rw [e] at hk
            exact hk  H_2 g_8 
          · have e := e.trans (cond_f c_13)
            have c_13n := nt_of_f c_13
            refine impl_KernelMean_L1 _ _ _ _ _ _ _ _ (fun (μ : Nat) (sum : Nat) (all : Nat) (t43 : Int) (H_3 : AHeap) => H_2 = H_3 ∧ (0 : Int) ≤ t43 ∧ t43 ≤ (l_times.length : Int) ∧ (l_times.length : Int) - t43 ≤ (μ : Int) ∧ p_impl_KernelMean l_times l_values vat wide = p_impl_KernelMean_l1 l_times l_values vat wide (μ + 1) sum all t43) (Int.toNat ((l_times.length : Int) - (0 : Int))) _ _ _ H_2 ?_ ?_
            · exact ⟨rfl, ω5, ω5, ω2, e⟩
            · intro μ sum all t43  H_3 hI
              obtain ⟨rfl, v_14, v_15, hμ, e⟩ := hI
              rw [impl_KernelMean_r1]
              have e := e.trans (p_impl_KernelMean_l1_s l_times l_values vat wide μ sum all t43)
              have l_16 := g_8.1
              refine Br.intro (fun c_17 => ?_) (fun c_17 => ?_)
              · have e := e.trans (cond_t c_17)
                have c_17' := of_decide_eq_true c_17
                obtain ⟨b_18, f_19, q_20⟩ := ((i_times.grow g_8)).pos ω0
                refine ⟨by omega, by omega, b_18, f_19, q_20, ?_⟩
                refine ⟨((l_times).getD (t43 : Int).toNat 0), (i_times).rd g_8 q_20 ω2 _, ?_⟩
                refine T_impl_ExpNumber_i ⟨(by first | assumption | omega | (simp; omega) | (exact impl_expWide_nar (sq_neg (by decide +kernel)))), ?_⟩
                obtain ⟨b_21, f_22, q_23⟩ := ((i_values.grow g_8)).pos ω0
                refine ⟨by omega, by omega, b_21, f_22, q_23, ?_⟩
                refine ⟨((l_values).getD (t43 : Int).toNat 0), (i_values).rd g_8 q_23 ω2 _, ?_⟩
                rw [show IntKind.wrap .i64 (t43 + 1) = (t43 + 1) from wrap64 ω2 ω2]
                refine impl_KernelMean_n1 (μ - 1) ω9 ⟨rfl, ω1, ω1, ω9, (by rw [show μ - 1 + 1 = μ from by first | omega]; exact e)⟩
              · have e := e.trans (cond_f c_17)
                have c_17' := of_decide_eq_false c_17
                rw [impl_KernelMean_x1_0]
                refine Br.intro (fun c_24 => ?_) (fun c_24 => ?_)
                · have e := e.trans (cond_t c_24)
                  have c_24n := nf_of_t c_24
                  rw [e] at hk
                  exact hk  H_2 g_8 
                · have e := e.trans (cond_f c_24)
                  have c_24n := nt_of_f c_24
                  refine T_impl_finite_i ?_
                  rw [e] at hk
                  exact hk  H_2 g_8 
theorem impl_KernelMean_ok : FnOk Try.prog 51 S_impl_KernelMean := by
  refine FnOk.body mix_ok E_impl_KernelMean_ok Try.func51 rfl (by kernel_rfl) (by kernel_rfl) ?_ ?_ ?_ ?_ ?_
  · intro args H K K' h hk
    simp only [S_impl_KernelMean] at *
    unfold F_impl_KernelMean at *
    split at hk
    · obtain ⟨l_times, l_values, i_times, i_values, bd_25, bd_26, k⟩ := hk
      exact ⟨l_times, l_values, i_times, i_values, bd_25, bd_26, (fun  H' gg  => h _ _ (k  H' gg ))⟩
    · exact hk.elim
  · intro hq; cases hq
  · intro args H K hk
    simp only [S_impl_KernelMean] at *
    unfold F_impl_KernelMean at *
    split at hk
    · obtain ⟨l_times, l_values, i_times, i_values, bd_25, bd_26, k⟩ := hk
      exact ⟨_, _, k H (Grow.refl H)⟩
    · exact hk.elim
  · intro _ args H K hk
    simp only [S_impl_KernelMean] at *
    unfold F_impl_KernelMean at *
    split at hk
    · obtain ⟨l_times, l_values, i_times, i_values, bd_25, bd_26, k⟩ := hk
      exact ⟨l_times, l_values, i_times, i_values, bd_25, bd_26, (fun  H' gg  => ⟨gg, k  H' gg ⟩)⟩
    · exact hk.elim
  · have mm := @impl_KernelMean_main
    have ml := fun (args : List Value) (H : AHeap) (K : Value → AHeap → Prop) => bodyL_body (P := Try.prog) (env := E_impl_KernelMean ) (fn := Try.f51) (args := args) (H := H) (K := K) E_impl_KernelMean_ok 
    revert mm ml
    generalize bodyK Try.prog E_impl_KernelMean Try.f51 = Q
    generalize bodyL Try.prog E_impl_KernelMean Try.f51 = QL
    intro mm ml args H K hk
    simp only [S_impl_KernelMean] at *
    unfold F_impl_KernelMean at *
    split at hk
    · exact ml _ H K (mm _ _ _ _ _ _ _ _ H K hk)
    · exact hk.elim
end Go.Proofs.Ytbnplefohfamnaa.Ai
