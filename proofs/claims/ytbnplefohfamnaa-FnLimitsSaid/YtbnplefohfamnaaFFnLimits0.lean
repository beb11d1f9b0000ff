/- What functions of the program come to on the abstract machine, and that they do so; printed by a program of mine around proofs of mine. -/
import Derived.Test.YtbnplefohfamnaaProg
import Derived.Test.YtbnplefohfamnaaEr
import Derived.Test.YtbnplefohfamnaaKe
import Derived.Test.YtbnplefohfamnaaLv
import Derived.Test.YtbnplefohfamnaaOl
set_option linter.unusedVariables false
set_option linter.unusedSimpArgs false
set_option linter.defProp false
set_option maxRecDepth 100000
namespace Go.Proofs.Ytbnplefohfamnaa.Ai
open Go
attribute [local irreducible] bodyK bodyL
theorem mix_ok : Try.prog.follows .mixedOrders = true := by kernel_rfl

def p_laws_b10Long (l_code : List UInt8) (l_more : List UInt8) : Bool := (bif decide ((1048576 : Int) < (l_code.length : Int)) then true else decide ((1048576 : Int) < (l_more.length : Int)))
def p_laws_b10Long_eq := @p_laws_b10Long.eq_1
def T_laws_b10Long (code_a : Option Addr) (code_n : Nat) (code_e : Nat) (more_a : Option Addr) (more_n : Nat) (more_e : Nat) (H : AHeap) (K : Bool → AHeap → Prop) : Prop := ∃ (l_code : List UInt8), ∃ (l_more : List UInt8), IsL fU H code_a code_n l_code ∧ IsL fU H more_a more_n l_more ∧ K (p_laws_b10Long l_code l_more) H
theorem T_laws_b10Long_i {code_a : Option Addr} {code_n : Nat} {code_e : Nat} {more_a : Option Addr} {more_n : Nat} {more_e : Nat} {H : AHeap} {K : Bool → AHeap → Prop} (h : ∃ (l_code : List UInt8), ∃ (l_more : List UInt8), IsL fU H code_a code_n l_code ∧ IsL fU H more_a more_n l_more ∧ K (p_laws_b10Long l_code l_more) H) : T_laws_b10Long code_a code_n code_e more_a more_n more_e H K := h
theorem laws_b10Long_f {a b : List UInt8} (h : p_laws_b10Long a b = false) : a.length ≤ 1048576 ∧ b.length ≤ 1048576 := by
  rw [p_laws_b10Long_eq] at h
  by_cases h1 : (1048576 : Int) < (a.length : Int)
  · rw [decide_eq_true h1] at h; cases h
  · rw [decide_eq_false h1, cond_false] at h
    have := of_decide_eq_false h; omega
/-! laws_b10Long: function 43 -/
def E_laws_b10Long : Env := envOf []
def F_laws_b10Long : List Value → AHeap → (Value → AHeap → Prop) → Prop
  | [.slice code_a code_n code_e, .slice more_a more_n more_e], H, K => T_laws_b10Long code_a code_n code_e more_a more_n more_e H fun (r1 : Bool) (H' : AHeap) => K (.bool r1) H'
  | _, _, _ => False
def S_laws_b10Long : FSpec := { F := F_laws_b10Long, quiet := true, tame := false }
theorem laws_b10Long_vc (code_a : Option Addr) (code_n : Nat) (code_e : Nat) (more_a : Option Addr) (more_n : Nat) (more_e : Nat) (H : AHeap) (K : Value → AHeap → Prop) : bodyL Try.prog E_laws_b10Long Try.f43 [.slice code_a code_n code_e, .slice more_a more_n more_e] H K =
  (Br (decide ((1048576 : Int) < (code_n : Int))) (K (.bool true) H) (K (.bool (decide ((1048576 : Int) < (more_n : Int)))) H)) := by kernel_rfl
theorem E_laws_b10Long_ok : ∀ g, FnOk Try.prog g (E_laws_b10Long g) := FnOk.envOf (by
  intro x hx; cases hx)
set_option maxHeartbeats 1000000 in
theorem laws_b10Long_main (code_a : Option Addr) (code_n : Nat) (code_e : Nat) (more_a : Option Addr) (more_n : Nat) (more_e : Nat) (H : AHeap) (K : Value → AHeap → Prop) (h : T_laws_b10Long code_a code_n code_e more_a more_n more_e H fun (r1 : Bool) (H' : AHeap) => K (.bool r1) H') : bodyL Try.prog E_laws_b10Long Try.f43 [.slice code_a code_n code_e, .slice more_a more_n more_e] H K := by
  rw [laws_b10Long_vc]
  obtain ⟨l_code, l_more, i_code, i_more, hk⟩ := h
  obtain rfl := i_code.eqn
  obtain rfl := i_more.eqn
  have e : (p_laws_b10Long l_code l_more) = _ := rfl
  have e := e.trans (p_laws_b10Long_eq l_code l_more)
  have g0 := Grow.refl H
  refine Br.intro (fun c_1 => ?_) (fun c_1 => ?_)
  · have e := e.trans (cond_t c_1)
    have c_1' := of_decide_eq_true c_1
    rw [e] at hk
    exact hk
  · have e := e.trans (cond_f c_1)
    have c_1' := of_decide_eq_false c_1
    rw [e] at hk
    exact hk
theorem laws_b10Long_ok : FnOk Try.prog 43 S_laws_b10Long := by
  refine FnOk.body mix_ok E_laws_b10Long_ok Try.func43 rfl (by kernel_rfl) (by kernel_rfl) ?_ ?_ ?_ ?_ ?_
  · intro args H K K' h hk
    simp only [S_laws_b10Long] at *
    unfold F_laws_b10Long at *
    split at hk
    · obtain ⟨l_code, l_more, i_code, i_more, k⟩ := hk
      exact ⟨l_code, l_more, i_code, i_more, h _ _ k⟩
    · exact hk.elim
  · intro _ args H K hk
    simp only [S_laws_b10Long] at *
    unfold F_laws_b10Long at *
    split at hk
    · obtain ⟨l_code, l_more, i_code, i_more, k⟩ := hk
      exact ⟨_, k, fun K' k' => ⟨l_code, l_more, i_code, i_more, k'⟩⟩
    · exact hk.elim
  · intro args H K hk
    simp only [S_laws_b10Long] at *
    unfold F_laws_b10Long at *
    split at hk
    · obtain ⟨l_code, l_more, i_code, i_more, k⟩ := hk
      exact ⟨_, _, k⟩
    · exact hk.elim
  · intro hq; cases hq
  · have mm := @laws_b10Long_main
    have ml := fun (args : List Value) (H : AHeap) (K : Value → AHeap → Prop) => bodyL_body (P := Try.prog) (env := E_laws_b10Long ) (fn := Try.f43) (args := args) (H := H) (K := K) E_laws_b10Long_ok 
    revert mm ml
    generalize bodyK Try.prog E_laws_b10Long Try.f43 = Q
    generalize bodyL Try.prog E_laws_b10Long Try.f43 = QL
    intro mm ml args H K hk
    simp only [S_laws_b10Long] at *
    unfold F_laws_b10Long at *
    split at hk
    · exact ml _ H K (mm _ _ _ _ _ _ H K hk)
    · exact hk.elim

def p_laws_b10At (l_code : List UInt8) (i : Int) (n : Int) : Int := (bif decide ((n : Int) ≤ 1) then (0 : Int) else (bif decide ((i : Int) < (l_code.length : Int)) then Int.tmod (IntKind.wrap .i64 (((((l_code).getD (i : Int).toNat 0)).toNat : Int))) n else Int.tmod (IntKind.wrap .i64 ((IntKind.wrap .i64 (i * 37)) + 11)) n))
def p_laws_b10At_eq := @p_laws_b10At.eq_1
def T_laws_b10At (code_a : Option Addr) (code_n : Nat) (code_e : Nat) (i : Int) (n : Int) (H : AHeap) (K : Int → AHeap → Prop) : Prop := ∃ (l_code : List UInt8), IsL fU H code_a code_n l_code ∧ l_code.length < 1073741824 ∧ 0 ≤ i ∧ i ≤ 1073741824 ∧ K (p_laws_b10At l_code i n) H
theorem T_laws_b10At_i {code_a : Option Addr} {code_n : Nat} {code_e : Nat} {i : Int} {n : Int} {H : AHeap} {K : Int → AHeap → Prop} (h : ∃ (l_code : List UInt8), IsL fU H code_a code_n l_code ∧ l_code.length < 1073741824 ∧ 0 ≤ i ∧ i ≤ 1073741824 ∧ K (p_laws_b10At l_code i n) H) : T_laws_b10At code_a code_n code_e i n H K := h
theorem ω3 {P : Prop} (h : P := by omega) : P := h
theorem laws_b10At_rng (l : List UInt8) (i n : Int) (h0 : 0 ≤ i) (h1 : i ≤ 1073741824) : 0 ≤ p_laws_b10At l i n ∧ (p_laws_b10At l i n < n ∨ (n ≤ 1 ∧ p_laws_b10At l i n = 0)) := by
  rw [p_laws_b10At_eq]
  refine cnb (P := fun r : Int => 0 ≤ r ∧ (r < n ∨ (n ≤ 1 ∧ r = 0))) (fun hc => ?_) (fun hc => ?_)
  · have := of_decide_eq_true hc; omega
  · have hn := of_decide_eq_false hc
    refine cnb (P := fun r : Int => 0 ≤ r ∧ (r < n ∨ (n ≤ 1 ∧ r = 0))) (fun hc => ?_) (fun hc => ?_)
    · have hb : (l.getD i.toNat 0).toNat < 256 := UInt8.toNat_lt _
      rw [wrap64 ω3 ω3]
      have := tmod_rng ((l.getD i.toNat 0).toNat : Int) n ω3 ω3; omega
    · rw [wrap64 (n := i * 37) ω3 ω3, wrap64 (n := i * 37 + 11) ω3 ω3]
      have := tmod_rng (i * 37 + 11) n ω3 ω3; omega
/-! laws_b10At: function 44 -/
def E_laws_b10At : Env := envOf []
def F_laws_b10At : List Value → AHeap → (Value → AHeap → Prop) → Prop
  | [.slice code_a code_n code_e, .int .i64 i, .int .i64 n], H, K => T_laws_b10At code_a code_n code_e i n H fun (r1 : Int) (H' : AHeap) => K (.int .i64 r1) H'
  | _, _, _ => False
def S_laws_b10At : FSpec := { F := F_laws_b10At, quiet := true, tame := false }
theorem laws_b10At_vc (code_a : Option Addr) (code_n : Nat) (code_e : Nat) (i : Int) (n : Int) (H : AHeap) (K : Value → AHeap → Prop) : bodyL Try.prog E_laws_b10At Try.f44 [.slice code_a code_n code_e, .int .i64 i, .int .i64 n] H K =
  (Br (decide ((n : Int) ≤ 1)) (K (.int .i64 0) H) (Br (decide ((i : Int) < (code_n : Int))) ((0 : Int) ≤ i ∧ i < (code_n : Int) ∧ ∃ b1 f1, (code_a : Option Addr) = some ⟨b1, f1, none⟩ ∧ ∃ x1 : Int,  rdC H b1 (f1 + (i : Int).toNat * 1) = some (.int .u8 x1) ∧ n ≠ (0 : Int) ∧ K (.int .i64 (Int.tmod (IntKind.wrap .i64 x1) n)) H) (n ≠ (0 : Int) ∧ K (.int .i64 (Int.tmod (IntKind.wrap .i64 ((IntKind.wrap .i64 (i * 37)) + 11)) n)) H))) := by kernel_rfl
theorem E_laws_b10At_ok : ∀ g, FnOk Try.prog g (E_laws_b10At g) := FnOk.envOf (by
  intro x hx; cases hx)
theorem ω0 {P : Prop} (h : P := by first | omega | (simp only [List.length_set, List.length_replicate, List.length_append, List.length_cons, List.length_nil, List.length_take, List.length_drop, marks_length]; done) | (simp only [List.length_set, List.length_replicate, List.length_append, List.length_cons, List.length_nil, List.length_take, List.length_drop, marks_length]; omega)) : P := h
theorem ω21 {P : Prop} (h : P := by first | omega | decide | (simp; done) | (simp; omega)) : P := h
set_option maxHeartbeats 1000000 in
theorem laws_b10At_main (code_a : Option Addr) (code_n : Nat) (code_e : Nat) (i : Int) (n : Int) (H : AHeap) (K : Value → AHeap → Prop) (h : T_laws_b10At code_a code_n code_e i n H fun (r1 : Int) (H' : AHeap) => K (.int .i64 r1) H') : bodyL Try.prog E_laws_b10At Try.f44 [.slice code_a code_n code_e, .int .i64 i, .int .i64 n] H K := by
  rw [laws_b10At_vc]
  obtain ⟨l_code, i_code, bd_11, pr0, pr1, hk⟩ := h
  obtain rfl := i_code.eqn
  have e : (p_laws_b10At l_code i n) = _ := rfl
  have e := e.trans (p_laws_b10At_eq l_code i n)
  have g0 := Grow.refl H
  refine Br.intro (fun c_1 => ?_) (fun c_1 => ?_)
  · have e := e.trans (cond_t c_1)
    have c_1' := of_decide_eq_true c_1
    rw [e] at hk
    exact hk
  · have e := e.trans (cond_f c_1)
    have c_1' := of_decide_eq_false c_1
    refine Br.intro (fun c_2 => ?_) (fun c_2 => ?_)
    · have e := e.trans (cond_t c_2)
      have c_2' := of_decide_eq_true c_2
      obtain ⟨b_3, f_4, q_5⟩ := ((i_code.grow g0)).pos ω0
      refine ⟨by omega, by omega, b_3, f_4, q_5, ?_⟩
      refine ⟨((((l_code).getD (i : Int).toNat 0)).toNat : Int), (i_code).rd g0 q_5 ω3 _, ?_⟩
      have z_8 : (((l_code).getD (i : Int).toNat 0)).toNat < 256 := UInt8.toNat_lt _
      refine ⟨ω21, ?_⟩
      have z_6 := tmod_rng (IntKind.wrap .i64 (((((l_code).getD (i : Int).toNat 0)).toNat : Int))) n
      have z_7 := tmod_nn (IntKind.wrap .i64 (((((l_code).getD (i : Int).toNat 0)).toNat : Int))) n
      rw [e] at hk
      exact hk
    · have e := e.trans (cond_f c_2)
      have c_2' := of_decide_eq_false c_2
      refine ⟨ω21, ?_⟩
      have z_9 := tmod_rng (IntKind.wrap .i64 ((IntKind.wrap .i64 (i * 37)) + 11)) n
      have z_10 := tmod_nn (IntKind.wrap .i64 ((IntKind.wrap .i64 (i * 37)) + 11)) n
      rw [e] at hk
      exact hk
theorem laws_b10At_ok : FnOk Try.prog 44 S_laws_b10At := by
  refine FnOk.body mix_ok E_laws_b10At_ok Try.func44 rfl (by kernel_rfl) (by kernel_rfl) ?_ ?_ ?_ ?_ ?_
  · intro args H K K' h hk
    simp only [S_laws_b10At] at *
    unfold F_laws_b10At at *
    split at hk
    · obtain ⟨l_code, i_code, bd_11, pr0, pr1, k⟩ := hk
      exact ⟨l_code, i_code, bd_11, pr0, pr1, h _ _ k⟩
    · exact hk.elim
  · intro _ args H K hk
    simp only [S_laws_b10At] at *
    unfold F_laws_b10At at *
    split at hk
    · obtain ⟨l_code, i_code, bd_11, pr0, pr1, k⟩ := hk
      exact ⟨_, k, fun K' k' => ⟨l_code, i_code, bd_11, pr0, pr1, k'⟩⟩
    · exact hk.elim
  · intro args H K hk
    simp only [S_laws_b10At] at *
    unfold F_laws_b10At at *
    split at hk
    · obtain ⟨l_code, i_code, bd_11, pr0, pr1, k⟩ := hk
      exact ⟨_, _, k⟩
    · exact hk.elim
  · intro hq; cases hq
  · have mm := @laws_b10At_main
    have ml := fun (args : List Value) (H : AHeap) (K : Value → AHeap → Prop) => bodyL_body (P := Try.prog) (env := E_laws_b10At ) (fn := Try.f44) (args := args) (H := H) (K := K) E_laws_b10At_ok 
    revert mm ml
    generalize bodyK Try.prog E_laws_b10At Try.f44 = Q
    generalize bodyL Try.prog E_laws_b10At Try.f44 = QL
    intro mm ml args H K hk
    simp only [S_laws_b10At] at *
    unfold F_laws_b10At at *
    split at hk
    · exact ml _ H K (mm _ _ _ _ _ H K hk)
    · exact hk.elim
def T_spec_l00From (code_a : Option Addr) (code_n : Nat) (code_e : Nat) (H : AHeap) (K : Nat → AHeap → Prop) : Prop := ∀ (b : Nat) (H' : AHeap), b = H.length → H'.length = H.length + 1 → Grow H H' → Own H' b [.slice code_a code_n code_e, .int .i64 0, .int .u64 0] → K b H'
theorem T_spec_l00From_i {code_a : Option Addr} {code_n : Nat} {code_e : Nat} {H : AHeap} {K : Nat → AHeap → Prop} (h : ∀ (b : Nat) (H' : AHeap), b = H.length → H'.length = H.length + 1 → Grow H H' → Own H' b [.slice code_a code_n code_e, .int .i64 0, .int .u64 0] → K b H') : T_spec_l00From code_a code_n code_e H K := h
/-! spec_l00From: function 130 -/
def E_spec_l00From : Env := envOf []
def F_spec_l00From : List Value → AHeap → (Value → AHeap → Prop) → Prop
  | [.slice code_a code_n code_e], H, K => T_spec_l00From code_a code_n code_e H fun (r1 : Nat) (H' : AHeap) => K (.pointer (some ⟨r1, 0, none⟩)) H'
  | _, _, _ => False
def S_spec_l00From : FSpec := { F := F_spec_l00From, quiet := false, tame := false }
theorem spec_l00From_vc (code_a : Option Addr) (code_n : Nat) (code_e : Nat) (H : AHeap) (K : Value → AHeap → Prop) : bodyL Try.prog E_spec_l00From Try.f130 [.slice code_a code_n code_e] H K =
  (Al [.slice code_a code_n code_e, .int .i64 0, .int .u64 0] H fun b1 H1 => K (.pointer (some ⟨b1, 0, none⟩)) H1) := by kernel_rfl
theorem E_spec_l00From_ok : ∀ g, FnOk Try.prog g (E_spec_l00From g) := FnOk.envOf (by
  intro x hx; cases hx)
set_option maxHeartbeats 1000000 in
theorem spec_l00From_main (code_a : Option Addr) (code_n : Nat) (code_e : Nat) (H : AHeap) (K : Value → AHeap → Prop) (h : T_spec_l00From code_a code_n code_e H fun (r1 : Nat) (H' : AHeap) => K (.pointer (some ⟨r1, 0, none⟩)) H') : bodyL Try.prog E_spec_l00From Try.f130 [.slice code_a code_n code_e] H K := by
  rw [spec_l00From_vc]
  exact Al.intro (fun b H' h1 h2 g o => h b H' h1 h2 g o)
theorem spec_l00From_ok : FnOk Try.prog 130 S_spec_l00From := by
  refine FnOk.body mix_ok E_spec_l00From_ok Try.func130 rfl (by kernel_rfl) (by kernel_rfl) ?_ ?_ ?_ ?_ ?_
  · intro args H K K' h hk
    simp only [S_spec_l00From] at *
    unfold F_spec_l00From at *
    split at hk
    · have k := hk
      exact fun b H' e1 e2 gg o => h _ _ (k b H' e1 e2 gg o)
    · exact hk.elim
  · intro hq; cases hq
  · intro args H K hk
    simp only [S_spec_l00From] at *
    unfold F_spec_l00From at *
    split at hk
    · have k := hk
      exact ⟨_, _, k _ (H ++ [some ⟨_, true⟩]) rfl (by simp) (Grow.app _ _) (Own.new _ _)⟩
    · exact hk.elim
  · intro hq; cases hq
  · have mm := @spec_l00From_main
    have ml := fun (args : List Value) (H : AHeap) (K : Value → AHeap → Prop) => bodyL_body (P := Try.prog) (env := E_spec_l00From ) (fn := Try.f130) (args := args) (H := H) (K := K) E_spec_l00From_ok 
    revert mm ml
    generalize bodyK Try.prog E_spec_l00From Try.f130 = Q
    generalize bodyL Try.prog E_spec_l00From Try.f130 = QL
    intro mm ml args H K hk
    simp only [S_spec_l00From] at *
    unfold F_spec_l00From at *
    split at hk
    · exact ml _ H K (mm _ _ _ H K hk)
    · exact hk.elim
def srcSeed (l : List UInt8) (at_ sd : Int) : Int := IntKind.wrap .u64 ((IntKind.wrap .u64 ((IntKind.wrap .u64 (sd * 6364136223846793005)) + (bif decide (at_ < (l.length : Int)) then ((l.getD at_.toNat 0).toNat : Int) else 0))) + 1442695040888963407)
def srcVal (l : List UInt8) (at_ sd : Int) : Int := bif decide (at_ + 1 ≤ (l.length : Int)) then (bif decide (at_ < (l.length : Int)) then ((l.getD at_.toNat 0).toNat : Int) else 0) else ((BitVec.ofInt (IntKind.bits .u64) (Int.fdiv (srcSeed l at_ sd) (2 ^ (min (40 : Int).toNat (IntKind.bits .u64)))) &&& BitVec.ofInt (IntKind.bits .u64) 255).toNat : Int)
def p_spec_l00Src_next (l : List UInt8) (at_ sd : Int) : Int × Int × Int := (srcVal l at_ sd, at_ + 1, srcSeed l at_ sd)
theorem ω15 {P : Prop} (h : P := by decide) : P := h
theorem and255 (x : Int) : ((BitVec.ofInt (IntKind.bits .u64) x &&& BitVec.ofInt (IntKind.bits .u64) 255).toNat : Int) ≤ 255 := by
  have : (BitVec.ofInt (IntKind.bits .u64) x &&& BitVec.ofInt (IntKind.bits .u64) 255).toNat ≤ 255 := by
    rw [BitVec.toNat_and]
    exact Nat.le_trans Nat.and_le_right ω15
  omega
theorem srcVal_rng (l : List UInt8) (at_ sd : Int) : 0 ≤ srcVal l at_ sd ∧ srcVal l at_ sd ≤ 255 := by
  unfold srcVal
  have h1 := and255 (Int.fdiv (srcSeed l at_ sd) (2 ^ (min (40 : Int).toNat (IntKind.bits .u64))))
  have h2 : (l.getD at_.toNat 0).toNat < 256 := UInt8.toNat_lt _
  cases decide (at_ + 1 ≤ (l.length : Int)) <;> cases decide (at_ < (l.length : Int)) <;> simp only [cond_true, cond_false] <;> omega
theorem spec_l00Src_next_rng (l : List UInt8) (at_ sd : Int) : 0 ≤ (p_spec_l00Src_next l at_ sd).1 ∧ (p_spec_l00Src_next l at_ sd).1 ≤ 255 ∧ (p_spec_l00Src_next l at_ sd).2.1 = at_ + 1 := ⟨(srcVal_rng l at_ sd).1, (srcVal_rng l at_ sd).2, rfl⟩
abbrev SrcB (a : Option Addr) (n e : Nat) (at_ sd : Int) : List Value := [.slice a n e, .int .i64 at_, .int .u64 sd]
theorem Own.putB {H : AHeap} {b : Nat} {cs : List Value} (h : Own H b cs) (ds : List Value) : Own (H.set b (some { cells := ds, own := true })) b ds ∧ Keep1 b H (H.set b (some { cells := ds, own := true })) :=
  ⟨by unfold Own; rw [List.getElem?_set]; simp [h.lt], by simp, fun i hi hn => by rw [List.getElem?_set, if_neg (fun e => hn e.symm)]⟩
def T_spec_l00Src_next (s : Nat) (H : AHeap) (K : Int → AHeap → Prop) : Prop := ∃ (H0 : AHeap) (a : Option Addr) (n e : Nat) (l : List UInt8) (at_ sd : Int), Own H s (SrcB a n e at_ sd) ∧ IsL fU H0 a n l ∧ Grow H0 H ∧ H0.length ≤ s ∧ 0 ≤ at_ ∧ at_ < 4611686018427387904 ∧
  (∀ H' : AHeap, Keep1 s H H' → Own H' s (SrcB a n e (p_spec_l00Src_next l at_ sd).2.1 (p_spec_l00Src_next l at_ sd).2.2) → K (p_spec_l00Src_next l at_ sd).1 H')
theorem T_spec_l00Src_next_i {s : Nat} {H : AHeap} {K : Int → AHeap → Prop} (h : ∃ (H0 : AHeap) (a : Option Addr) (n e : Nat) (l : List UInt8) (at_ sd : Int), Own H s (SrcB a n e at_ sd) ∧ IsL fU H0 a n l ∧ Grow H0 H ∧ H0.length ≤ s ∧ 0 ≤ at_ ∧ at_ < 4611686018427387904 ∧
  (∀ H' : AHeap, Keep1 s H H' → Own H' s (SrcB a n e (p_spec_l00Src_next l at_ sd).2.1 (p_spec_l00Src_next l at_ sd).2.2) → K (p_spec_l00Src_next l at_ sd).1 H')) : T_spec_l00Src_next s H K := h
/-! spec_l00Src_next: function 181 -/
def E_spec_l00Src_next : Env := envOf []
def F_spec_l00Src_next : List Value → AHeap → (Value → AHeap → Prop) → Prop
  | [.pointer (some ⟨s, 0, none⟩)], H, K => T_spec_l00Src_next s H fun (r1 : Int) (H' : AHeap) => K (.int .i64 r1) H'
  | _, _, _ => False
def S_spec_l00Src_next : FSpec := { F := F_spec_l00Src_next, quiet := false, tame := false }
theorem spec_l00Src_next_vc (s : Nat) (H : AHeap) (K : Value → AHeap → Prop) : bodyL Try.prog E_spec_l00Src_next Try.f181 [.pointer (some ⟨s, 0, none⟩)] H K =
  (∃ x1 : Int,  rdC H s 1 = some (.int .i64 x1) ∧ ∃ x2_a : Option Addr, ∃ x2_n : Nat, ∃ x2_e : Nat,  rdC H s 0 = some (.slice x2_a x2_n x2_e) ∧ Br (decide ((x1 : Int) < (x2_n : Int))) (∃ x3_a : Option Addr, ∃ x3_n : Nat, ∃ x3_e : Nat,  rdC H s 0 = some (.slice x3_a x3_n x3_e) ∧ ∃ x4 : Int,  rdC H s 1 = some (.int .i64 x4) ∧ (0 : Int) ≤ x4 ∧ x4 < (x3_n : Int) ∧ ∃ b1 f1, (x3_a : Option Addr) = some ⟨b1, f1, none⟩ ∧ ∃ x5 : Int,  rdC H b1 (f1 + (x4 : Int).toNat * 1) = some (.int .u8 x5) ∧ ∃ x6 : Int,  rdC H s 1 = some (.int .i64 x6) ∧ isOwn H s ∧ (∃ l, rdN H s 1 1 = some l) ∧ Lt (setC H s 1 (.int .i64 (IntKind.wrap .i64 (x6 + 1)))) fun H1 => ∃ x7 : Int,  rdC H1 s 2 = some (.int .u64 x7) ∧ isOwn H1 s ∧ (∃ l, rdN H1 s 2 1 = some l) ∧ Lt (setC H1 s 2 (.int .u64 (IntKind.wrap .u64 ((IntKind.wrap .u64 ((IntKind.wrap .u64 (x7 * 6364136223846793005)) + (IntKind.wrap .u64 (IntKind.wrap .i64 x5)))) + 1442695040888963407)))) fun H2 => ∃ x8 : Int,  rdC H2 s 1 = some (.int .i64 x8) ∧ ∃ x9_a : Option Addr, ∃ x9_n : Nat, ∃ x9_e : Nat,  rdC H2 s 0 = some (.slice x9_a x9_n x9_e) ∧ Br (decide ((x8 : Int) ≤ (x9_n : Int))) (K (.int .i64 (IntKind.wrap .i64 x5)) H2) (∃ x10 : Int,  rdC H2 s 2 = some (.int .u64 x10) ∧ (0 : Int) ≤ 40 ∧ K (.int .i64 (IntKind.wrap .i64 (IntKind.wrap .u64 (((BitVec.ofInt (IntKind.bits .u64) (Int.fdiv x10 (2 ^ (min (40 : Int).toNat (IntKind.bits .u64)))) &&& BitVec.ofInt (IntKind.bits .u64) 255).toNat : Int))))) H2)) (∃ x11 : Int,  rdC H s 1 = some (.int .i64 x11) ∧ isOwn H s ∧ (∃ l, rdN H s 1 1 = some l) ∧ Lt (setC H s 1 (.int .i64 (IntKind.wrap .i64 (x11 + 1)))) fun H3 => ∃ x12 : Int,  rdC H3 s 2 = some (.int .u64 x12) ∧ isOwn H3 s ∧ (∃ l, rdN H3 s 2 1 = some l) ∧ Lt (setC H3 s 2 (.int .u64 (IntKind.wrap .u64 ((IntKind.wrap .u64 ((IntKind.wrap .u64 (x12 * 6364136223846793005)) + (IntKind.wrap .u64 0))) + 1442695040888963407)))) fun H4 => ∃ x13 : Int,  rdC H4 s 1 = some (.int .i64 x13) ∧ ∃ x14_a : Option Addr, ∃ x14_n : Nat, ∃ x14_e : Nat,  rdC H4 s 0 = some (.slice x14_a x14_n x14_e) ∧ Br (decide ((x13 : Int) ≤ (x14_n : Int))) (K (.int .i64 0) H4) (∃ x15 : Int,  rdC H4 s 2 = some (.int .u64 x15) ∧ (0 : Int) ≤ 40 ∧ K (.int .i64 (IntKind.wrap .i64 (IntKind.wrap .u64 (((BitVec.ofInt (IntKind.bits .u64) (Int.fdiv x15 (2 ^ (min (40 : Int).toNat (IntKind.bits .u64)))) &&& BitVec.ofInt (IntKind.bits .u64) 255).toNat : Int))))) H4))) := by kernel_rfl
theorem E_spec_l00Src_next_ok : ∀ g, FnOk Try.prog g (E_spec_l00Src_next g) := FnOk.envOf (by
  intro x hx; cases hx)
set_option maxHeartbeats 1000000 in
theorem spec_l00Src_next_main (s : Nat) (H : AHeap) (K : Value → AHeap → Prop) (h : T_spec_l00Src_next s H fun (r1 : Int) (H' : AHeap) => K (.int .i64 r1) H') : bodyL Try.prog E_spec_l00Src_next Try.f181 [.pointer (some ⟨s, 0, none⟩)] H K := by
  rw [spec_l00Src_next_vc]
  obtain ⟨H0, a, n, e, l, at_, sd, o, il, g, hb, h0, h1, hk⟩ := h
  have hn := il.len
  refine ⟨at_, (o.rdC 1).trans rfl, a, n, e, (o.rdC 0).trans rfl, ?_⟩
  refine Br.intro (fun hc => ?_) (fun hc => ?_)
  · have hc' := of_decide_eq_true hc
    refine ⟨a, n, e, (o.rdC 0).trans rfl, at_, (o.rdC 1).trans rfl, h0, hc', ?_⟩
    obtain ⟨b1, f1, ea, hcell⟩ := il.cell ω3
    have hx : l[at_.toNat]? = some (l.getD at_.toNat 0) := by rw [List.getD_eq_getElem?_getD, List.getElem?_eq_getElem ω3]; rfl
    have hby : (l.getD at_.toNat 0).toNat < 256 := UInt8.toNat_lt _
    refine ⟨b1, f1, ea, ((l.getD at_.toNat 0).toNat : Int), grow_rdC g (hcell _ _ hx), at_, (o.rdC 1).trans rfl, o.isOwn, ⟨_, o.rdN (Nat.le_of_ble_eq_true rfl)⟩, ?_⟩
    rw [wrap64 (n := at_ + 1) ω3 ω3, wrap64 (n := ((l.getD at_.toNat 0).toNat : Int)) ω3 ω3, wrapu_id (n := ((l.getD at_.toNat 0).toNat : Int)) ω3 ω3]
    unfold Lt
    have o1 := o.setC_own 1 (.int .i64 (at_ + 1))
    refine ⟨sd, (o1.rdC 2).trans rfl, o1.isOwn, ⟨_, o1.rdN (Nat.le_of_ble_eq_true rfl)⟩, ?_⟩
    have o2 := o1.setC_own 2 (.int .u64 (IntKind.wrap .u64 ((IntKind.wrap .u64 ((IntKind.wrap .u64 (sd * 6364136223846793005)) + ((l.getD at_.toNat 0).toNat : Int))) + 1442695040888963407)))
    have es : srcSeed l at_ sd = IntKind.wrap .u64 ((IntKind.wrap .u64 ((IntKind.wrap .u64 (sd * 6364136223846793005)) + ((l.getD at_.toNat 0).toNat : Int))) + 1442695040888963407) := by
      unfold srcSeed; rw [decide_eq_true (show at_ < (l.length : Int) by omega), cond_true]
    rw [← es] at o2 ⊢
    have ev : srcVal l at_ sd = ((l.getD at_.toNat 0).toNat : Int) := by
      unfold srcVal; rw [decide_eq_true (show at_ + 1 ≤ (l.length : Int) by omega), cond_true, decide_eq_true (show at_ < (l.length : Int) by omega), cond_true]
    have kk : Keep1 s H (setC (setC H s 1 (.int .i64 (at_ + 1))) s 2 (.int .u64 (srcSeed l at_ sd))) := ⟨by rw [setC_length, setC_length]; exact Nat.le_refl _, fun i hi hne => by rw [setC_other hne, setC_other hne]⟩
    have fin := hk _ kk o2
    refine ⟨at_ + 1, (o2.rdC 1).trans rfl, a, n, e, (o2.rdC 0).trans rfl, ?_⟩
    rw [decide_eq_true (show at_ + 1 ≤ (n : Int) by omega)]
    rw [show (p_spec_l00Src_next l at_ sd).1 = srcVal l at_ sd from rfl, ev] at fin
    exact fin
  · have hc' := of_decide_eq_false hc
    refine ⟨at_, (o.rdC 1).trans rfl, o.isOwn, ⟨_, o.rdN (Nat.le_of_ble_eq_true rfl)⟩, ?_⟩
    rw [wrap64 (n := at_ + 1) ω3 ω3, wrapu_id (n := 0) ω3 ω3]
    unfold Lt
    have o1 := o.setC_own 1 (.int .i64 (at_ + 1))
    refine ⟨sd, (o1.rdC 2).trans rfl, o1.isOwn, ⟨_, o1.rdN (Nat.le_of_ble_eq_true rfl)⟩, ?_⟩
    have o2 := o1.setC_own 2 (.int .u64 (IntKind.wrap .u64 ((IntKind.wrap .u64 ((IntKind.wrap .u64 (sd * 6364136223846793005)) + 0)) + 1442695040888963407)))
    have es : srcSeed l at_ sd = IntKind.wrap .u64 ((IntKind.wrap .u64 ((IntKind.wrap .u64 (sd * 6364136223846793005)) + 0)) + 1442695040888963407) := by
      unfold srcSeed; rw [decide_eq_false (show ¬ at_ < (l.length : Int) by omega), cond_false]
    rw [← es] at o2 ⊢
    have ev : srcVal l at_ sd = ((BitVec.ofInt (IntKind.bits .u64) (Int.fdiv (srcSeed l at_ sd) (2 ^ (min (40 : Int).toNat (IntKind.bits .u64)))) &&& BitVec.ofInt (IntKind.bits .u64) 255).toNat : Int) := by
      unfold srcVal; rw [decide_eq_false (show ¬ at_ + 1 ≤ (l.length : Int) by omega), cond_false]
    have kk : Keep1 s H (setC (setC H s 1 (.int .i64 (at_ + 1))) s 2 (.int .u64 (srcSeed l at_ sd))) := ⟨by rw [setC_length, setC_length]; exact Nat.le_refl _, fun i hi hne => by rw [setC_other hne, setC_other hne]⟩
    have fin := hk _ kk o2
    have hr := srcVal_rng l at_ sd
    refine ⟨at_ + 1, (o2.rdC 1).trans rfl, a, n, e, (o2.rdC 0).trans rfl, ?_⟩
    rw [decide_eq_false (show ¬ at_ + 1 ≤ (n : Int) by omega)]
    refine ⟨srcSeed l at_ sd, (o2.rdC 2).trans rfl, by decide, ?_⟩
    rw [show (p_spec_l00Src_next l at_ sd).1 = srcVal l at_ sd from rfl, ev] at fin
    rw [ev] at hr
    rw [wrapu_id (n := ((BitVec.ofInt (IntKind.bits .u64) (Int.fdiv (srcSeed l at_ sd) (2 ^ (min (40 : Int).toNat (IntKind.bits .u64)))) &&& BitVec.ofInt (IntKind.bits .u64) 255).toNat : Int)) ω3 ω3, wrap64 (n := ((BitVec.ofInt (IntKind.bits .u64) (Int.fdiv (srcSeed l at_ sd) (2 ^ (min (40 : Int).toNat (IntKind.bits .u64)))) &&& BitVec.ofInt (IntKind.bits .u64) 255).toNat : Int)) ω3 ω3]
    exact fin
theorem spec_l00Src_next_ok : FnOk Try.prog 181 S_spec_l00Src_next := by
  refine FnOk.body mix_ok E_spec_l00Src_next_ok Try.func181 rfl (by kernel_rfl) (by kernel_rfl) ?_ ?_ ?_ ?_ ?_
  · intro args H K K' h hk
    simp only [S_spec_l00Src_next] at *
    unfold F_spec_l00Src_next at *
    split at hk
    · obtain ⟨H0, a, n, e, l, at_, sd, o, il, g, hb, h0, h1, k⟩ := hk
      exact ⟨H0, a, n, e, l, at_, sd, o, il, g, hb, h0, h1, (fun H' k1 o1 => h _ _ (k H' k1 o1))⟩
    · exact hk.elim
  · intro hq; cases hq
  · intro args H K hk
    simp only [S_spec_l00Src_next] at *
    unfold F_spec_l00Src_next at *
    split at hk
    · obtain ⟨H0, a, n, e, l, at_, sd, o, il, g, hb, h0, h1, k⟩ := hk
      exact ⟨_, _, k _ (Own.putB o _).2 (Own.putB o _).1⟩
    · exact hk.elim
  · intro hq; cases hq
  · have mm := @spec_l00Src_next_main
    have ml := fun (args : List Value) (H : AHeap) (K : Value → AHeap → Prop) => bodyL_body (P := Try.prog) (env := E_spec_l00Src_next ) (fn := Try.f181) (args := args) (H := H) (K := K) E_spec_l00Src_next_ok 
    revert mm ml
    generalize bodyK Try.prog E_spec_l00Src_next Try.f181 = Q
    generalize bodyL Try.prog E_spec_l00Src_next Try.f181 = QL
    intro mm ml args H K hk
    simp only [S_spec_l00Src_next] at *
    unfold F_spec_l00Src_next at *
    split at hk
    · exact ml _ H K (mm _ H K hk)
    · exact hk.elim
def p_spec_l00Src_pick (l : List UInt8) (at_ sd n : Int) : Int × Int × Int :=
  bif decide (n ≤ 1) then (0, at_, sd) else bif decide ((200 : Int) < n) then
    (Int.tmod ((p_spec_l00Src_next l at_ sd).1 * 256 + (p_spec_l00Src_next l (p_spec_l00Src_next l at_ sd).2.1 (p_spec_l00Src_next l at_ sd).2.2).1) n, (p_spec_l00Src_next l (p_spec_l00Src_next l at_ sd).2.1 (p_spec_l00Src_next l at_ sd).2.2).2)
  else (Int.tmod (p_spec_l00Src_next l at_ sd).1 n, (p_spec_l00Src_next l at_ sd).2)
theorem spec_l00Src_pick_rng (l : List UInt8) (at_ sd n : Int) : 0 ≤ (p_spec_l00Src_pick l at_ sd n).1 ∧ ((p_spec_l00Src_pick l at_ sd n).1 < n ∨ (n ≤ 1 ∧ (p_spec_l00Src_pick l at_ sd n).1 = 0)) ∧ at_ ≤ (p_spec_l00Src_pick l at_ sd n).2.1 ∧ (p_spec_l00Src_pick l at_ sd n).2.1 ≤ at_ + 2 := by
  unfold p_spec_l00Src_pick
  by_cases h : n ≤ 1
  · rw [decide_eq_true h, cond_true]
    refine ⟨Int.le_refl 0, .inr ⟨h, rfl⟩, Int.le_refl _, ?_⟩
    show at_ ≤ at_ + 2
    omega
  · rw [decide_eq_false h, cond_false]
    have q := spec_l00Src_next_rng l at_ sd
    by_cases h2 : (200 : Int) < n
    · rw [decide_eq_true h2, cond_true]
      have q2 := spec_l00Src_next_rng l (p_spec_l00Src_next l at_ sd).2.1 (p_spec_l00Src_next l at_ sd).2.2
      have m := tmod_rng ((p_spec_l00Src_next l at_ sd).1 * 256 + (p_spec_l00Src_next l (p_spec_l00Src_next l at_ sd).2.1 (p_spec_l00Src_next l at_ sd).2.2).1) n ω3 ω3
      exact ⟨m.1, .inl m.2, by show at_ ≤ (p_spec_l00Src_next l _ _).2.1; omega, by show (p_spec_l00Src_next l _ _).2.1 ≤ _; omega⟩
    · rw [decide_eq_false h2, cond_false]
      have m := tmod_rng (p_spec_l00Src_next l at_ sd).1 n ω3 ω3
      exact ⟨m.1, .inl m.2, by show at_ ≤ (p_spec_l00Src_next l _ _).2.1; omega, by show (p_spec_l00Src_next l _ _).2.1 ≤ _; omega⟩
def T_spec_l00Src_pick (s : Nat) (n : Int) (H : AHeap) (K : Int → AHeap → Prop) : Prop := ∃ (H0 : AHeap) (a : Option Addr) (m e : Nat) (l : List UInt8) (at_ sd : Int), Own H s (SrcB a m e at_ sd) ∧ IsL fU H0 a m l ∧ Grow H0 H ∧ H0.length ≤ s ∧ 0 ≤ at_ ∧ at_ < 4611686018427387900 ∧
  (∀ H' : AHeap, Keep1 s H H' → Own H' s (SrcB a m e (p_spec_l00Src_pick l at_ sd n).2.1 (p_spec_l00Src_pick l at_ sd n).2.2) → K (p_spec_l00Src_pick l at_ sd n).1 H')
theorem T_spec_l00Src_pick_i {s : Nat} {n : Int} {H : AHeap} {K : Int → AHeap → Prop} (h : ∃ (H0 : AHeap) (a : Option Addr) (m e : Nat) (l : List UInt8) (at_ sd : Int), Own H s (SrcB a m e at_ sd) ∧ IsL fU H0 a m l ∧ Grow H0 H ∧ H0.length ≤ s ∧ 0 ≤ at_ ∧ at_ < 4611686018427387900 ∧
  (∀ H' : AHeap, Keep1 s H H' → Own H' s (SrcB a m e (p_spec_l00Src_pick l at_ sd n).2.1 (p_spec_l00Src_pick l at_ sd n).2.2) → K (p_spec_l00Src_pick l at_ sd n).1 H')) : T_spec_l00Src_pick s n H K := h
/-! spec_l00Src_pick: function 131 -/
def E_spec_l00Src_pick : Env := envOf [(181, S_spec_l00Src_next)]
def F_spec_l00Src_pick : List Value → AHeap → (Value → AHeap → Prop) → Prop
  | [.pointer (some ⟨s, 0, none⟩), .int .i64 n], H, K => T_spec_l00Src_pick s n H fun (r1 : Int) (H' : AHeap) => K (.int .i64 r1) H'
  | _, _, _ => False
def S_spec_l00Src_pick : FSpec := { F := F_spec_l00Src_pick, quiet := false, tame := false }
theorem spec_l00Src_pick_vc (s : Nat) (n : Int) (H : AHeap) (K : Value → AHeap → Prop) : bodyL Try.prog E_spec_l00Src_pick Try.f131 [.pointer (some ⟨s, 0, none⟩), .int .i64 n] H K =
  (Br (decide ((n : Int) ≤ 1)) (K (.int .i64 0) H) (T_spec_l00Src_next s H fun (r1 : Int) (H1 : AHeap) => Br (decide ((200 : Int) < n)) (T_spec_l00Src_next s H1 fun (r2 : Int) (H2 : AHeap) => n ≠ (0 : Int) ∧ K (.int .i64 (Int.tmod (IntKind.wrap .i64 ((IntKind.wrap .i64 (r1 * 256)) + r2)) n)) H2) (n ≠ (0 : Int) ∧ K (.int .i64 (Int.tmod r1 n)) H1))) := by kernel_rfl
theorem E_spec_l00Src_pick_ok : ∀ g, FnOk Try.prog g (E_spec_l00Src_pick g) := FnOk.envOf (by
  intro x hx
  simp only [List.mem_cons, List.not_mem_nil, or_false] at hx
  subst hx; exact spec_l00Src_next_ok)
set_option maxHeartbeats 1000000 in
theorem spec_l00Src_pick_main (s : Nat) (n : Int) (H : AHeap) (K : Value → AHeap → Prop) (h : T_spec_l00Src_pick s n H fun (r1 : Int) (H' : AHeap) => K (.int .i64 r1) H') : bodyL Try.prog E_spec_l00Src_pick Try.f131 [.pointer (some ⟨s, 0, none⟩), .int .i64 n] H K := by
  rw [spec_l00Src_pick_vc]
  obtain ⟨H0, a, m, e, l, at_, sd, o, il, g, hb, h0, h1, hk⟩ := h
  unfold p_spec_l00Src_pick at hk
  refine Br.intro (fun hc => ?_) (fun hc => ?_)
  · rw [hc] at hk
    exact hk H ⟨Nat.le_refl _, fun _ _ _ => rfl⟩ o
  · rw [hc] at hk
    have hn := of_decide_eq_false hc
    have q := spec_l00Src_next_rng l at_ sd
    refine T_spec_l00Src_next_i ⟨H0, a, m, e, l, at_, sd, o, il, g, hb, h0, by omega, fun H1 k1 o1 => ?_⟩
    refine Br.intro (fun hc2 => ?_) (fun hc2 => ?_)
    · rw [hc2] at hk
      have q2 := spec_l00Src_next_rng l (p_spec_l00Src_next l at_ sd).2.1 (p_spec_l00Src_next l at_ sd).2.2
      refine T_spec_l00Src_next_i ⟨H0, a, m, e, l, _, _, o1, il, g.keep hb k1, hb, by omega, by omega, fun H2 k2 o2 => ⟨by omega, ?_⟩⟩
      have fin := hk H2 ⟨Nat.le_trans k1.1 k2.1, fun i hi hne => (k2.2 i (Nat.lt_of_lt_of_le hi k1.1) hne).trans (k1.2 i hi hne)⟩ o2
      rw [wrap64 (n := (p_spec_l00Src_next l at_ sd).1 * 256) ω3 ω3, wrap64 (n := (p_spec_l00Src_next l at_ sd).1 * 256 + _) ω3 ω3]
      exact fin
    · rw [hc2] at hk
      exact ⟨by omega, hk H1 k1 o1⟩
theorem spec_l00Src_pick_ok : FnOk Try.prog 131 S_spec_l00Src_pick := by
  refine FnOk.body mix_ok E_spec_l00Src_pick_ok Try.func131 rfl (by kernel_rfl) (by kernel_rfl) ?_ ?_ ?_ ?_ ?_
  · intro args H K K' h hk
    simp only [S_spec_l00Src_pick] at *
    unfold F_spec_l00Src_pick at *
    split at hk
    · obtain ⟨H0, a, n, e, l, at_, sd, o, il, g, hb, h0, h1, k⟩ := hk
      exact ⟨H0, a, n, e, l, at_, sd, o, il, g, hb, h0, h1, (fun H' k1 o1 => h _ _ (k H' k1 o1))⟩
    · exact hk.elim
  · intro hq; cases hq
  · intro args H K hk
    simp only [S_spec_l00Src_pick] at *
    unfold F_spec_l00Src_pick at *
    split at hk
    · obtain ⟨H0, a, n, e, l, at_, sd, o, il, g, hb, h0, h1, k⟩ := hk
      exact ⟨_, _, k _ (Own.putB o _).2 (Own.putB o _).1⟩
    · exact hk.elim
  · intro hq; cases hq
  · have mm := @spec_l00Src_pick_main
    have ml := fun (args : List Value) (H : AHeap) (K : Value → AHeap → Prop) => bodyL_body (P := Try.prog) (env := E_spec_l00Src_pick ) (fn := Try.f131) (args := args) (H := H) (K := K) E_spec_l00Src_pick_ok 
    revert mm ml
    generalize bodyK Try.prog E_spec_l00Src_pick Try.f131 = Q
    generalize bodyL Try.prog E_spec_l00Src_pick Try.f131 = QL
    intro mm ml args H K hk
    simp only [S_spec_l00Src_pick] at *
    unfold F_spec_l00Src_pick at *
    split at hk
    · exact ml _ H K (mm _ _ H K hk)
    · exact hk.elim

def p_spec_B10Signal_l1 (l_code : List UInt8) (n : Int) : Nat → Int → (List Nat) → Int → Int → (List Nat)
  | 0, _, _, _, _ => []
  | μ + 1, n_1, l_vout, q1_2, q1_3 => (bif decide ((0 : Int) < n_1) then (p_spec_B10Signal_l1 l_code n μ (n_1 - 1) ((l_vout ++ [(fdiv .f32 (FloatKind.nearest .f32 (IntKind.wrap .i64 (((p_spec_l00Src_pick l_code q1_2 q1_3 (65 : Int)).1) - 32))) 1082130432)])) ((p_spec_l00Src_pick l_code q1_2 q1_3 (65 : Int)).2.1) ((p_spec_l00Src_pick l_code q1_2 q1_3 (65 : Int)).2.2)) else l_vout)
def p_spec_B10Signal_l1_s := fun l_code n μ n_1 l_vout q1_2 q1_3 => @p_spec_B10Signal_l1.eq_2 l_code n n_1 l_vout q1_2 q1_3 μ
def p_spec_B10Signal (l_code : List UInt8) (n : Int) : (List Nat) := (p_spec_B10Signal_l1 l_code n (Int.toNat (n - 0) + 1) n ([] : List Nat) (0 : Int) (0 : Int))
def p_spec_B10Signal_eq := @p_spec_B10Signal.eq_1
def T_spec_B10Signal (code_a : Option Addr) (code_n : Nat) (code_e : Nat) (n : Int) (H : AHeap) (K : (Option Addr) → Nat → Nat → AHeap → Prop) : Prop := ∃ (l_code : List UInt8), IsL fU H code_a code_n l_code ∧ l_code.length < 1073741824 ∧ n ≤ 1073741824 ∧ ((∀ (r1_a : Option Addr) (r1_n r1_e : Nat), ∀ H' : AHeap, Grow H H' → OwnS fF H' H.length r1_a r1_n r1_e (p_spec_B10Signal l_code n) → K r1_a r1_n r1_e H'))
theorem T_spec_B10Signal_i {code_a : Option Addr} {code_n : Nat} {code_e : Nat} {n : Int} {H : AHeap} {K : (Option Addr) → Nat → Nat → AHeap → Prop} (h : ∃ (l_code : List UInt8), IsL fU H code_a code_n l_code ∧ l_code.length < 1073741824 ∧ n ≤ 1073741824 ∧ ((∀ (r1_a : Option Addr) (r1_n r1_e : Nat), ∀ H' : AHeap, Grow H H' → OwnS fF H' H.length r1_a r1_n r1_e (p_spec_B10Signal l_code n) → K r1_a r1_n r1_e H'))) : T_spec_B10Signal code_a code_n code_e n H K := h
def Qt (y : Nat) : Prop := ∃ k : Nat, k < 65 ∧ y = fdiv .f32 (FloatKind.nearest .f32 ((k : Int) - 32)) 1082130432
theorem spec_B10Signal_go (l : List UInt8) (n : Int) : ∀ (μ : Nat) (m : Int) (o : List Nat) (a b : Int), m.toNat < μ → (∀ y ∈ o, Qt y) →
    (p_spec_B10Signal_l1 l n μ m o a b).length = o.length + m.toNat ∧ ∀ y ∈ p_spec_B10Signal_l1 l n μ m o a b, Qt y := by
  intro μ
  induction μ with
  | zero => intro m o a b h; omega
  | succ μ ih =>
    intro m o a b h ho
    rw [p_spec_B10Signal_l1_s]
    by_cases hm : (0 : Int) < m
    · rw [decide_eq_true hm, cond_true]
      have q := spec_l00Src_pick_rng l a b 65
      obtain ⟨k, hk⟩ : ∃ k : Nat, (p_spec_l00Src_pick l a b 65).1 = k := ⟨(p_spec_l00Src_pick l a b 65).1.toNat, by omega⟩
      have r := ih (m - 1) (o ++ [fdiv .f32 (FloatKind.nearest .f32 (IntKind.wrap .i64 ((p_spec_l00Src_pick l a b 65).1 - 32))) 1082130432]) (p_spec_l00Src_pick l a b 65).2.1 (p_spec_l00Src_pick l a b 65).2.2 ω3 (fun y hy => by
        rcases List.mem_append.1 hy with hy | hy
        · exact ho y hy
        · rw [List.mem_singleton.1 hy, hk, wrap64 ω3 ω3]; exact ⟨k, by omega, rfl⟩)
      refine ⟨?_, r.2⟩
      rw [r.1, List.length_append, List.length_singleton]; omega
    · rw [decide_eq_false hm, cond_false]
      exact ⟨by omega, ho⟩
theorem spec_B10Signal_all (l : List UInt8) (n : Int) : (p_spec_B10Signal l n).length = n.toNat ∧ ∀ y ∈ p_spec_B10Signal l n, Qt y := by
  rw [p_spec_B10Signal_eq]
  have := spec_B10Signal_go l n (Int.toNat (n - 0) + 1) n [] 0 0 ω3 (by simp)
  simpa using this
theorem spec_B10Signal_len (l : List UInt8) (n : Int) : (p_spec_B10Signal l n).length = n.toNat := (spec_B10Signal_all l n).1
/-! spec_B10Signal: function 45 -/
def E_spec_B10Signal : Env := envOf [(130, S_spec_l00From), (131, S_spec_l00Src_pick)]
def F_spec_B10Signal : List Value → AHeap → (Value → AHeap → Prop) → Prop
  | [.slice code_a code_n code_e, .int .i64 n], H, K => T_spec_B10Signal code_a code_n code_e n H fun (r1_a : Option Addr) (r1_n : Nat) (r1_e : Nat) (H' : AHeap) => K (.slice r1_a r1_n r1_e) H'
  | _, _, _ => False
def S_spec_B10Signal : FSpec := { F := F_spec_B10Signal, quiet := false, tame := true }
theorem spec_B10Signal_vc (code_a : Option Addr) (code_n : Nat) (code_e : Nat) (n : Int) (H : AHeap) (K : Value → AHeap → Prop) : bodyL Try.prog E_spec_B10Signal Try.f45 [.slice code_a code_n code_e, .int .i64 n] H K =
  (T_spec_l00From code_a code_n code_e H fun (r1 : Nat) (H1 : AHeap) => Al [] H1 fun b1 H2 => loopK (exL Try.prog E_spec_B10Signal (cl (cl (cl (cr (cr (cr (bodyC Try.f45))))))) 98 16 [(0, 64)]) [ud, .int .i64 n, ud, ud, ud, .pointer (some ⟨r1, 0, none⟩), .slice (some ⟨b1, 0, none⟩) 0 1, ud, ud, ud, ud, ud, ud, ud, ud, ud, ud, ud, ud, ud, ud, ud, ud] H2 (blockQ 0 (seqQ (exL Try.prog E_spec_B10Signal (cr (cr (cr (cr (bodyC Try.f45))))) 16 16 []) (retK Try.prog Try.f45 K)))) := by kernel_rfl
abbrev spec_B10Signal_P1 (r1 : Nat) (n_1 : Int) (vout_a : Option Addr) (vout_n : Nat) (vout_e : Nat)  : List Value := [ud, .int .i64 n_1, ud, ud, ud, .pointer (some ⟨r1, 0, none⟩), .slice vout_a vout_n vout_e, ud, ud, ud, ud, ud, ud, ud, ud, ud, ud, ud, ud, ud, ud, ud, ud]
theorem spec_B10Signal_r1 (r1 : Nat) (n_1 : Int) (vout_a : Option Addr) (vout_n : Nat) (vout_e : Nat)  (H : AHeap) (R : Post) : exL Try.prog E_spec_B10Signal (cl (cl (cl (cr (cr (cr (bodyC Try.f45))))))) 98 16 [(0, 64)] (spec_B10Signal_P1 r1 n_1 vout_a vout_n vout_e) H R =
  (Br (decide ((0 : Int) < n_1)) (T_spec_l00Src_pick r1 65 H fun (r2 : Int) (H3 : AHeap) => Al [.float .f32 (fdiv .f32 (FloatKind.nearest .f32 (IntKind.wrap .i64 (r2 - 32))) 1082130432)] H3 fun b2 H4 => ∃ o1 w1 : List Value, ownB H4 vout_a vout_n vout_e 1 = some o1 ∧ rdS H4 (some ⟨b2, 0, none⟩) (1 * 1) = some w1 ∧ ((vout_a : Option Addr) = none → 0 < (1 : Nat)) ∧ (vout_n : Nat) + 1 < most ∧ Ap H4 (killB H4 vout_a ++ [some ⟨o1 ++ w1, true⟩]) fun b3 H5 => R .normal [ud, .int .i64 (IntKind.wrap .i64 (n_1 - 1)), ud, ud, ud, .pointer (some ⟨r1, 0, none⟩), .slice (some ⟨b3, 0, none⟩) (vout_n + 1) 1, ud, ud, ud, ud, ud, ud, ud, ud, ud, ud, ud, ud, ud, ud, ud, ud] H5) (R (.exit 0) [ud, ud, ud, ud, ud, ud, .slice vout_a vout_n vout_e, ud, ud, ud, ud, ud, ud, ud, ud, ud, ud, ud, ud, ud, ud, ud, ud] H)) := by kernel_rfl
def spec_B10Signal_I1 (r1 : Nat) (Inv : Nat → Int → (Option Addr) → Nat → Nat → AHeap → Prop) : Nat → List Value → AHeap → Prop := fun μ tm H => ∃ (n_1 : Int), ∃ (vout_a : Option Addr), ∃ (vout_n : Nat), ∃ (vout_e : Nat), tm = (spec_B10Signal_P1 r1 n_1 vout_a vout_n vout_e) ∧ Inv μ n_1 vout_a vout_n vout_e H
theorem spec_B10Signal_L1 (r1 : Nat) {Q : Post} (Inv : Nat → Int → (Option Addr) → Nat → Nat → AHeap → Prop) (ν : Nat) (n_1 : Int) (vout_a : Option Addr) (vout_n : Nat) (vout_e : Nat)  (H : AHeap) (h0 : Inv ν n_1 vout_a vout_n vout_e H)
    (hs : ∀ (μ : Nat) (n_1 : Int) (vout_a : Option Addr) (vout_n : Nat) (vout_e : Nat)  (H : AHeap), Inv μ n_1 vout_a vout_n vout_e H → exL Try.prog E_spec_B10Signal (cl (cl (cl (cr (cr (cr (bodyC Try.f45))))))) 98 16 [(0, 64)] (spec_B10Signal_P1 r1 n_1 vout_a vout_n vout_e) H (loopQ (spec_B10Signal_I1 r1 Inv) μ Q)) : loopK (exL Try.prog E_spec_B10Signal (cl (cl (cl (cr (cr (cr (bodyC Try.f45))))))) 98 16 [(0, 64)]) (spec_B10Signal_P1 r1 n_1 vout_a vout_n vout_e) H Q :=
  ⟨spec_B10Signal_I1 r1 Inv, ν, ⟨n_1, vout_a, vout_n, vout_e, rfl, h0⟩, fun μ tm H h => by obtain ⟨n_1, vout_a, vout_n, vout_e, rfl, hI⟩ := h; exact hs μ n_1 vout_a vout_n vout_e  H hI⟩
theorem spec_B10Signal_n1 {r1 : Nat} {Q : Post} {Inv : Nat → Int → (Option Addr) → Nat → Nat → AHeap → Prop} {μ : Nat} (μ' : Nat) {n_1 : Int} {vout_a : Option Addr} {vout_n : Nat} {vout_e : Nat}  {H : AHeap} (hm : μ' < μ) (hI : Inv μ' n_1 vout_a vout_n vout_e H) : loopQ (spec_B10Signal_I1 r1 Inv) μ Q .normal (spec_B10Signal_P1 r1 n_1 vout_a vout_n vout_e) H := ⟨μ', hm, n_1, vout_a, vout_n, vout_e, rfl, hI⟩
theorem spec_B10Signal_x1_0 (vout_a : Option Addr) (vout_n : Nat) (vout_e : Nat) (H : AHeap) (K : Value → AHeap → Prop)  {I : Nat → List Value → AHeap → Prop} {μ : Nat} : loopQ I μ (blockQ 0 (seqQ (exL Try.prog E_spec_B10Signal (cr (cr (cr (cr (bodyC Try.f45))))) 16 16 []) (retK Try.prog Try.f45 K))) (.exit 0) [ud, ud, ud, ud, ud, ud, .slice vout_a vout_n vout_e, ud, ud, ud, ud, ud, ud, ud, ud, ud, ud, ud, ud, ud, ud, ud, ud] H =
  (K (.slice vout_a vout_n vout_e) H) := by kernel_rfl
theorem E_spec_B10Signal_ok : ∀ g, FnOk Try.prog g (E_spec_B10Signal g) := FnOk.envOf (by
  intro x hx
  simp only [List.mem_cons, List.not_mem_nil, or_false] at hx
  rcases hx with rfl | rfl
  · exact spec_l00From_ok
  · exact spec_l00Src_pick_ok)
theorem ω10 {P : Prop} (h : P := by first | rfl | omega | (simp only [List.length_set]; done) | (simp only [List.length_set, List.length_replicate]; omega)) : P := h
theorem ω5 {P : Prop} (h : P := by first | omega | (simp; done) | (simp; omega)) : P := h
theorem ω7 {P : Prop} (h : P := by first | (simp only [List.length_map, List.length_cons, List.length_nil, List.length_append]; done) | (simp only [List.length_map, List.length_cons, List.length_nil, List.length_append]; omega) | (simp only [List.length_map, List.length_cons, List.length_nil, List.length_append, List.length_take, List.length_drop]; omega)) : P := h
theorem ω22 {P : Prop} (h : P := by have := most_eq; omega) : P := h
theorem ω8 {P : Prop} (h : P := by first | omega) : P := h
theorem ω9 {P : Prop} (h : P := by first | omega | (simp only [List.length_append, List.length_cons, List.length_nil]; done) | (simp only [List.length_append, List.length_cons, List.length_nil]; omega) | (simp only [List.length_append, List.length_cons, List.length_nil, List.length_take, List.length_drop]; omega)) : P := h
theorem ω1 {P : Prop} (h : P := by first | omega | (simp only [List.length_append, List.length_cons, List.length_nil, List.length_set]; done) | (simp only [List.length_append, List.length_cons, List.length_nil, List.length_set]; omega)) : P := h
set_option maxHeartbeats 1000000 in
theorem spec_B10Signal_main (code_a : Option Addr) (code_n : Nat) (code_e : Nat) (n : Int) (H : AHeap) (K : Value → AHeap → Prop) (h : T_spec_B10Signal code_a code_n code_e n H fun (r1_a : Option Addr) (r1_n : Nat) (r1_e : Nat) (H' : AHeap) => K (.slice r1_a r1_n r1_e) H') : bodyL Try.prog E_spec_B10Signal Try.f45 [.slice code_a code_n code_e, .int .i64 n] H K := by
  rw [spec_B10Signal_vc]
  obtain ⟨l_code, i_code, bd_75, pr0, hk⟩ := h
  obtain rfl := i_code.eqn
  have e : (p_spec_B10Signal l_code n) = _ := rfl
  have e := e.trans (p_spec_B10Signal_eq l_code n)
  have g0 := Grow.refl H
  refine T_spec_l00From_i (fun b_1 H_1 hb_2 hl_3 g_4 o_5 => ?_)
  have o_5 : Own H_1 b_1 [.slice code_a l_code.length code_e, .int .i64 (0 : Int), .int .u64 (0 : Int)] := o_5
  have l_7 := g_4.1
  have g_8 := g0.trans g_4
  have l_9 := g_8.1
  have w_74 := o_5.lt
  refine Al.intro (fun b_10 H_2 hb_11 hl_12 g_13 o_14 => ?_)
  have o_14 : Own H_2 b_10 ((([] : List Nat)).map fF) := o_14
  have l_16 := g_13.1
  have g_17 := g_8.trans g_13
  have l_18 := g_17.1
  have o_19 := o_5.grow g_13
  have w_20 := o_19.lt
  have w_73 := o_14.lt
  refine spec_B10Signal_L1 _ (fun (μ : Nat) (n_1 : Int) (vout_a : Option Addr) (vout_n : Nat) (vout_e : Nat) (H_3 : AHeap) => ∃ (l_vout : List Nat), ∃ (b_21 : Nat), ∃ (q1_2 : Int), ∃ (q1_3 : Int), vout_a = some ⟨b_21, 0, none⟩ ∧ vout_n = l_vout.length ∧ vout_e = 1 ∧ Own H_3 b_21 (l_vout.map fF) ∧ Own H_3 b_1 [.slice code_a l_code.length code_e, .int .i64 q1_2, .int .u64 q1_3] ∧ (b_21 ≠ b_1) ∧ Grow H H_3 ∧ H.length ≤ b_21 ∧ (n_1 ≤ n ∨ 0 ≤ n_1) ∧ 0 ≤ q1_2 ∧  q1_2 ≤ 2 * (n - n_1) + 2 ∧  (l_vout.length : Int) ≤ n - n_1 ∧  n_1 ≤ n ∧ n_1 - 0 ≤ (μ : Int) ∧ p_spec_B10Signal l_code n = p_spec_B10Signal_l1 l_code n (μ + 1) n_1 l_vout q1_2 q1_3) (Int.toNat (n - 0)) _ _ _ _ H_2 ?_ ?_
  · exact ⟨_, _, _, _, rfl, ω10, rfl, o_14, (by first | exact o_19 | (have hbx := o_19; (try simp only [List.length_append, List.length_cons, List.length_nil, Nat.zero_add] at hbx); (try simp only [List.length_append, List.length_cons, List.length_nil, Nat.zero_add]); exact hbx)), ω3, g_17, ω3, ω5, ω5, ω5, ω5, ω5, ω3, e⟩
  · intro μ n_1 vout_a vout_n vout_e  H_3 hI
    obtain ⟨l_vout, b_21, q1_2, q1_3, rfl, rfl, rfl, o_22, o_23, n_24, g_25, l_26, v_27, v_28, v_29, v_30, v_31, hμ, e⟩ := hI
    rw [spec_B10Signal_r1]
    have e := e.trans (p_spec_B10Signal_l1_s l_code n μ n_1 l_vout q1_2 q1_3)
    have w_32 := o_23.lt
    have w_33 := o_22.lt
    have l_34 := g_25.1
    refine Br.intro (fun c_35 => ?_) (fun c_35 => ?_)
    · have e := e.trans (cond_t c_35)
      have c_35' := of_decide_eq_true c_35
      refine T_spec_l00Src_pick_i ⟨H, _, _, _, l_code, q1_2, q1_3, o_23, i_code, g_25, ω3, ω3, ω3, (fun H_4 k_36 o_37 => ?_)⟩
      have o_37 : Own H_4 b_1 [.slice code_a l_code.length code_e, .int .i64 ((p_spec_l00Src_pick l_code q1_2 q1_3 (65 : Int)).2.1), .int .u64 ((p_spec_l00Src_pick l_code q1_2 q1_3 (65 : Int)).2.2)] := o_37
      have z_43 := spec_l00Src_pick_rng l_code q1_2 q1_3 (65 : Int)
      have l_38 := k_36.1
      have g_39 := g_25.keep (b := b_1) ω3 k_36
      have l_40 := g_39.1
      have o_41 := o_22.keep ω3 k_36
      have w_42 := o_41.lt
      have w_72 := o_37.lt
      refine Al.intro (fun b_44 H_5 hb_45 hl_46 g_47 o_48 => ?_)
      have o_48 : Own H_5 b_44 (([(fdiv .f32 (FloatKind.nearest .f32 (IntKind.wrap .i64 (((p_spec_l00Src_pick l_code q1_2 q1_3 (65 : Int)).1) - 32))) 1082130432)]).map fF) := o_48
      have l_50 := g_47.1
      have g_51 := g_39.trans g_47
      have l_52 := g_51.1
      have o_53 := o_37.grow g_47
      have w_54 := o_53.lt
      have o_55 := o_41.grow g_47
      have w_56 := o_55.lt
      have w_71 := o_48.lt
      refine ⟨_, _, o_55.ownB ω7 rfl, (isl_rdS (o_48.isL ω10)), (fun h => by cases h), ω22, ?_⟩
      refine Ap.app o_55 rfl rfl (fun b_61 H_6 q_69 hl_57 o_58 k_59 => ?_)
      have o_58 := map_snoc o_58
      have l_62 := k_59.1
      have g_63 := g_51.keep (b := b_21) ω3 k_59
      have l_64 := g_63.1
      have o_65 := o_53.keep ω3 k_59
      have w_66 := o_65.lt
      have o_67 := o_48.keep ω3 k_59
      have w_68 := o_67.lt
      have w_70 := o_58.lt
      rw [show IntKind.wrap .i64 (n_1 - 1) = (n_1 - 1) from wrap64 ω3 ω3]
      refine spec_B10Signal_n1 (μ - 1) ω8 ⟨_, _, _, _, rfl, ω9, rfl, o_58, (by first | exact o_65 | (have hbx := o_65; (try simp only [List.length_append, List.length_cons, List.length_nil, Nat.zero_add] at hbx); (try simp only [List.length_append, List.length_cons, List.length_nil, Nat.zero_add]); exact hbx)), ω3, g_63, ω3, ω1, ω1, ω1, ω1, ω1, ω8, (by rw [show μ - 1 + 1 = μ from by first | omega]; exact e)⟩
    · have e := e.trans (cond_f c_35)
      have c_35' := of_decide_eq_false c_35
      rw [spec_B10Signal_x1_0]
      rw [e] at hk
      exact hk _ _ _ H_3 g_25 (o_22.ownS ω10 ω3)
theorem spec_B10Signal_ok : FnOk Try.prog 45 S_spec_B10Signal := by
  refine FnOk.body mix_ok E_spec_B10Signal_ok Try.func45 rfl (by kernel_rfl) (by kernel_rfl) ?_ ?_ ?_ ?_ ?_
  · intro args H K K' h hk
    simp only [S_spec_B10Signal] at *
    unfold F_spec_B10Signal at *
    split at hk
    · obtain ⟨l_code, i_code, bd_75, pr0, k⟩ := hk
      exact ⟨l_code, i_code, bd_75, pr0, (fun r1_a r1_n r1_e H' gg ow0 => h _ _ (k r1_a r1_n r1_e H' gg ow0))⟩
    · exact hk.elim
  · intro hq; cases hq
  · intro args H K hk
    simp only [S_spec_B10Signal] at *
    unfold F_spec_B10Signal at *
    split at hk
    · obtain ⟨l_code, i_code, bd_75, pr0, k⟩ := hk
      exact liveS fun a n e H1 g o => ⟨_, _, k a n e H1 g o⟩
    · exact hk.elim
  · intro _ args H K hk
    simp only [S_spec_B10Signal] at *
    unfold F_spec_B10Signal at *
    split at hk
    · obtain ⟨l_code, i_code, bd_75, pr0, k⟩ := hk
      exact ⟨l_code, i_code, bd_75, pr0, (fun r1_a r1_n r1_e H' gg ow0 => ⟨gg, k r1_a r1_n r1_e H' gg ow0⟩)⟩
    · exact hk.elim
  · have mm := @spec_B10Signal_main
    have ml := fun (args : List Value) (H : AHeap) (K : Value → AHeap → Prop) => bodyL_body (P := Try.prog) (env := E_spec_B10Signal ) (fn := Try.f45) (args := args) (H := H) (K := K) E_spec_B10Signal_ok 
    revert mm ml
    generalize bodyK Try.prog E_spec_B10Signal Try.f45 = Q
    generalize bodyL Try.prog E_spec_B10Signal Try.f45 = QL
    intro mm ml args H K hk
    simp only [S_spec_B10Signal] at *
    unfold F_spec_B10Signal at *
    split at hk
    · exact ml _ H K (mm _ _ _ _ H K hk)
    · exact hk.elim
def p_impl_within (n : Int) (low : Int) (high : Int) : Bool := (bif decide ((low : Int) ≤ n) then decide ((n : Int) ≤ high) else false)
def T_impl_within (n : Int) (low : Int) (high : Int) (H : AHeap) (K : Bool → AHeap → Prop) : Prop := K (p_impl_within n low high) H
theorem impl_within_t {n a b : Int} (h : p_impl_within n a b = true) : a ≤ n ∧ n ≤ b := by
  unfold p_impl_within at h
  by_cases h1 : a ≤ n
  · rw [decide_eq_true h1, cond_true] at h; exact ⟨h1, of_decide_eq_true h⟩
  · rw [decide_eq_false h1] at h; cases h
theorem T_impl_within_i {n : Int} {low : Int} {high : Int} {H : AHeap} {K : Bool → AHeap → Prop} (h : K (p_impl_within n low high) H) : T_impl_within n low high H K := h
/-! impl_within: function 96 -/
def E_impl_within : Env := envOf []
def F_impl_within : List Value → AHeap → (Value → AHeap → Prop) → Prop
  | [.int .i64 n, .int .i64 low, .int .i64 high], H, K => T_impl_within n low high H fun (r1 : Bool) (H' : AHeap) => K (.bool r1) H'
  | _, _, _ => False
def S_impl_within : FSpec := { F := F_impl_within, quiet := true, tame := false }
theorem impl_within_vc (n : Int) (low : Int) (high : Int) (H : AHeap) (K : Value → AHeap → Prop) : bodyL Try.prog E_impl_within Try.f96 [.int .i64 n, .int .i64 low, .int .i64 high] H K =
  (Br (decide ((low : Int) ≤ n)) (K (.bool (decide ((n : Int) ≤ high))) H) (K (.bool false) H)) := by kernel_rfl
theorem E_impl_within_ok : ∀ g, FnOk Try.prog g (E_impl_within g) := FnOk.envOf (by
  intro x hx; cases hx)
set_option maxHeartbeats 1000000 in
theorem impl_within_main (n : Int) (low : Int) (high : Int) (H : AHeap) (K : Value → AHeap → Prop) (h : T_impl_within n low high H fun (r1 : Bool) (H' : AHeap) => K (.bool r1) H') : bodyL Try.prog E_impl_within Try.f96 [.int .i64 n, .int .i64 low, .int .i64 high] H K := by
  rw [impl_within_vc]
  unfold T_impl_within p_impl_within at h
  repeat' (first | exact h | (exfalso; simp_all; done) | (refine ⟨by decide, ?_⟩) | (refine Br.intro (fun hb => ?_) (fun hb => ?_) <;> (try simp only [hb, cond_true, cond_false, Bool.not_true, Bool.not_false] at h)))
theorem impl_within_ok : FnOk Try.prog 96 S_impl_within := by
  refine FnOk.body mix_ok E_impl_within_ok Try.func96 rfl (by kernel_rfl) (by kernel_rfl) ?_ ?_ ?_ ?_ ?_
  · intro args H K K' h hk
    simp only [S_impl_within] at *
    unfold F_impl_within at *
    split at hk
    · have k := hk
      exact h _ _ k
    · exact hk.elim
  · intro _ args H K hk
    simp only [S_impl_within] at *
    unfold F_impl_within at *
    split at hk
    · have k := hk
      exact ⟨_, k, fun K' k' => k'⟩
    · exact hk.elim
  · intro args H K hk
    simp only [S_impl_within] at *
    unfold F_impl_within at *
    split at hk
    · have k := hk
      exact ⟨_, _, k⟩
    · exact hk.elim
  · intro hq; cases hq
  · have mm := @impl_within_main
    have ml := fun (args : List Value) (H : AHeap) (K : Value → AHeap → Prop) => bodyL_body (P := Try.prog) (env := E_impl_within ) (fn := Try.f96) (args := args) (H := H) (K := K) E_impl_within_ok 
    revert mm ml
    generalize bodyK Try.prog E_impl_within Try.f96 = Q
    generalize bodyL Try.prog E_impl_within Try.f96 = QL
    intro mm ml args H K hk
    simp only [S_impl_within] at *
    unfold F_impl_within at *
    split at hk
    · exact ml _ H K (mm _ _ _ H K hk)
    · exact hk.elim
def p_impl_IsFinite (x : Nat) : Bool := feq .f32 (fsub .f32 x x) 0
def T_impl_IsFinite (x : Nat) (H : AHeap) (K : Bool → AHeap → Prop) : Prop := K (p_impl_IsFinite x) H

theorem T_impl_IsFinite_i {x : Nat} {H : AHeap} {K : Bool → AHeap → Prop} (h : K (p_impl_IsFinite x) H) : T_impl_IsFinite x H K := h
/-! impl_IsFinite: function 133 -/
def E_impl_IsFinite : Env := envOf []
def F_impl_IsFinite : List Value → AHeap → (Value → AHeap → Prop) → Prop
  | [.float .f32 x], H, K => T_impl_IsFinite x H fun (r1 : Bool) (H' : AHeap) => K (.bool r1) H'
  | _, _, _ => False
def S_impl_IsFinite : FSpec := { F := F_impl_IsFinite, quiet := true, tame := false }
theorem impl_IsFinite_vc (x : Nat) (H : AHeap) (K : Value → AHeap → Prop) : bodyL Try.prog E_impl_IsFinite Try.f133 [.float .f32 x] H K =
  (K (.bool (feq .f32 (fsub .f32 x x) 0)) H) := by kernel_rfl
theorem E_impl_IsFinite_ok : ∀ g, FnOk Try.prog g (E_impl_IsFinite g) := FnOk.envOf (by
  intro x hx; cases hx)
set_option maxHeartbeats 1000000 in
theorem impl_IsFinite_main (x : Nat) (H : AHeap) (K : Value → AHeap → Prop) (h : T_impl_IsFinite x H fun (r1 : Bool) (H' : AHeap) => K (.bool r1) H') : bodyL Try.prog E_impl_IsFinite Try.f133 [.float .f32 x] H K := by
  rw [impl_IsFinite_vc]
  unfold T_impl_IsFinite p_impl_IsFinite at h
  repeat' (first | exact h | (exfalso; simp_all; done) | (refine ⟨by decide, ?_⟩) | (refine Br.intro (fun hb => ?_) (fun hb => ?_) <;> (try simp only [hb, cond_true, cond_false, Bool.not_true, Bool.not_false] at h)))
theorem impl_IsFinite_ok : FnOk Try.prog 133 S_impl_IsFinite := by
  refine FnOk.body mix_ok E_impl_IsFinite_ok Try.func133 rfl (by kernel_rfl) (by kernel_rfl) ?_ ?_ ?_ ?_ ?_
  · intro args H K K' h hk
    simp only [S_impl_IsFinite] at *
    unfold F_impl_IsFinite at *
    split at hk
    · have k := hk
      exact h _ _ k
    · exact hk.elim
  · intro _ args H K hk
    simp only [S_impl_IsFinite] at *
    unfold F_impl_IsFinite at *
    split at hk
    · have k := hk
      exact ⟨_, k, fun K' k' => k'⟩
    · exact hk.elim
  · intro args H K hk
    simp only [S_impl_IsFinite] at *
    unfold F_impl_IsFinite at *
    split at hk
    · have k := hk
      exact ⟨_, _, k⟩
    · exact hk.elim
  · intro hq; cases hq
  · have mm := @impl_IsFinite_main
    have ml := fun (args : List Value) (H : AHeap) (K : Value → AHeap → Prop) => bodyL_body (P := Try.prog) (env := E_impl_IsFinite ) (fn := Try.f133) (args := args) (H := H) (K := K) E_impl_IsFinite_ok 
    revert mm ml
    generalize bodyK Try.prog E_impl_IsFinite Try.f133 = Q
    generalize bodyL Try.prog E_impl_IsFinite Try.f133 = QL
    intro mm ml args H K hk
    simp only [S_impl_IsFinite] at *
    unfold F_impl_IsFinite at *
    split at hk
    · exact ml _ H K (mm _ H K hk)
    · exact hk.elim

def p_impl_areFinite_l2 (l_lists : List (List Nat)) (t2 : Bool) (t9 : Int) (k2_2 : Bool → Int → Bool) : Nat → Bool → Int → Bool
  | 0, _, _ => false
  | μ2 + 1, t2_2, t15 => (bif decide ((t15 : Int) < ((((l_lists).getD (t9 : Int).toNat [])).length : Int)) then (bif !((p_impl_IsFinite (((((l_lists).getD (t9 : Int).toNat [])).getD (t15 : Int).toNat 0)))) then false else (p_impl_areFinite_l2 l_lists t2 t9 k2_2 μ2 t2_2 (t15 + 1))) else (k2_2 t2_2 t15))
def p_impl_areFinite_l2_s := fun l_lists t2 t9 k2_2 μ2 t2_2 t15 => @p_impl_areFinite_l2.eq_2 l_lists t2 t9 k2_2 t2_2 t15 μ2
def p_impl_areFinite_l1 (l_lists : List (List Nat)) : Nat → Bool → Int → Bool
  | 0, _, _ => false
  | μ + 1, t2, t9 => (bif decide ((t9 : Int) < (l_lists.length : Int)) then (p_impl_areFinite_l2 l_lists t2 t9 (fun (t2_2 : Bool) (t15 : Int) => (p_impl_areFinite_l1 l_lists μ t2_2 (t9 + 1))) (Int.toNat (((((l_lists).getD (t9 : Int).toNat [])).length : Int) - (0 : Int)) + 1) t2 (0 : Int)) else true)
def p_impl_areFinite_l1_s := fun l_lists μ t2 t9 => @p_impl_areFinite_l1.eq_2 l_lists t2 t9 μ
def p_impl_areFinite (l_lists : List (List Nat)) : Bool := (p_impl_areFinite_l1 l_lists (Int.toNat ((l_lists.length : Int) - (0 : Int)) + 1) false (0 : Int))
def p_impl_areFinite_eq := @p_impl_areFinite.eq_1
def T_impl_areFinite (lists_a : Option Addr) (lists_n : Nat) (lists_e : Nat) (H : AHeap) (K : Bool → AHeap → Prop) : Prop := ∃ (l_lists : List (List Nat)), IsLL fF H lists_a lists_n l_lists ∧ l_lists.length < 1073741824 ∧ (∀ y ∈ l_lists, y.length < 1073741824) ∧ K (p_impl_areFinite l_lists) H
theorem T_impl_areFinite_i {lists_a : Option Addr} {lists_n : Nat} {lists_e : Nat} {H : AHeap} {K : Bool → AHeap → Prop} (h : ∃ (l_lists : List (List Nat)), IsLL fF H lists_a lists_n l_lists ∧ l_lists.length < 1073741824 ∧ (∀ y ∈ l_lists, y.length < 1073741824) ∧ K (p_impl_areFinite l_lists) H) : T_impl_areFinite lists_a lists_n lists_e H K := h

/-! impl_areFinite: function 166 -/
def E_impl_areFinite : Env := envOf [(133, S_impl_IsFinite)]
def F_impl_areFinite : List Value → AHeap → (Value → AHeap → Prop) → Prop
  | [.slice lists_a lists_n lists_e], H, K => T_impl_areFinite lists_a lists_n lists_e H fun (r1 : Bool) (H' : AHeap) => K (.bool r1) H'
  | _, _, _ => False
def S_impl_areFinite : FSpec := { F := F_impl_areFinite, quiet := true, tame := false }
theorem impl_areFinite_vc (lists_a : Option Addr) (lists_n : Nat) (lists_e : Nat) (H : AHeap) (K : Value → AHeap → Prop) : bodyL Try.prog E_impl_areFinite Try.f166 [.slice lists_a lists_n lists_e] H K =
  (loopK (exL Try.prog E_impl_areFinite (cl (cl (cr (cl (cr (bodyC Try.f166)))))) 896 4 [(0, 0)]) [ud, ud, ud, ud, ud, ud, ud, .slice lists_a lists_n lists_e, .int .i64 (lists_n : Int), .int .i64 0, ud, ud, ud, ud, ud, ud, ud, ud, ud, ud, ud, ud, ud, ud] H (blockQ 0 (seqQ (exL Try.prog E_impl_areFinite (cr (cr (bodyC Try.f166))) 4 4 []) (retK Try.prog Try.f166 K)))) := by kernel_rfl
abbrev impl_areFinite_P1 (lists_a : Option Addr) (lists_e : Nat) (lists_n : Nat) (t9 : Int)  : List Value := [ud, ud, ud, ud, ud, ud, ud, .slice lists_a lists_n lists_e, .int .i64 (lists_n : Int), .int .i64 t9, ud, ud, ud, ud, ud, ud, ud, ud, ud, ud, ud, ud, ud, ud]
theorem impl_areFinite_r1 (lists_a : Option Addr) (lists_e : Nat) (lists_n : Nat) (t9 : Int)  (H : AHeap) (R : Post) : exL Try.prog E_impl_areFinite (cl (cl (cr (cl (cr (bodyC Try.f166)))))) 896 4 [(0, 0)] (impl_areFinite_P1 lists_a lists_e lists_n t9) H R =
  (Br (decide ((t9 : Int) < (lists_n : Int))) ((0 : Int) ≤ t9 ∧ t9 < (lists_n : Int) ∧ ∃ b1 f1, (lists_a : Option Addr) = some ⟨b1, f1, none⟩ ∧ ∃ x1_a : Option Addr, ∃ x1_n : Nat, ∃ x1_e : Nat,  rdC H b1 (f1 + (t9 : Int).toNat * 1) = some (.slice x1_a x1_n x1_e) ∧ loopK (exL Try.prog E_impl_areFinite (cl (cl (cr (cr (cl (cl (cr (cr (cl (cl (cr (cl (cr (bodyC Try.f166)))))))))))))) 58240 4 [(2, 896), (1, 896), (0, 0)]) [ud, ud, ud, ud, ud, ud, ud, .slice lists_a lists_n lists_e, .int .i64 (lists_n : Int), .int .i64 t9, ud, ud, ud, .slice x1_a x1_n x1_e, .int .i64 (x1_n : Int), .int .i64 0, ud, ud, ud, ud, ud, ud, ud, ud] H (blockQ 2 (blockQ 1 (seqQ (exL Try.prog E_impl_areFinite (cr (cr (cr (cl (cl (cr (cl (cr (bodyC Try.f166))))))))) 896 4 [(0, 0)]) (R))))) (R (.exit 0) [ud, ud, ud, ud, ud, ud, ud, ud, ud, ud, ud, ud, ud, ud, ud, ud, ud, ud, ud, ud, ud, ud, ud, ud] H)) := by kernel_rfl
def impl_areFinite_I1 (lists_a : Option Addr) (lists_e : Nat) (lists_n : Nat) (Inv : Nat → Int → AHeap → Prop) : Nat → List Value → AHeap → Prop := fun μ tm H => ∃ (t9 : Int), tm = (impl_areFinite_P1 lists_a lists_e lists_n t9) ∧ Inv μ t9 H
theorem impl_areFinite_L1 (lists_a : Option Addr) (lists_e : Nat) (lists_n : Nat) {Q : Post} (Inv : Nat → Int → AHeap → Prop) (ν : Nat) (t9 : Int)  (H : AHeap) (h0 : Inv ν t9 H)
    (hs : ∀ (μ : Nat) (t9 : Int)  (H : AHeap), Inv μ t9 H → exL Try.prog E_impl_areFinite (cl (cl (cr (cl (cr (bodyC Try.f166)))))) 896 4 [(0, 0)] (impl_areFinite_P1 lists_a lists_e lists_n t9) H (loopQ (impl_areFinite_I1 lists_a lists_e lists_n Inv) μ Q)) : loopK (exL Try.prog E_impl_areFinite (cl (cl (cr (cl (cr (bodyC Try.f166)))))) 896 4 [(0, 0)]) (impl_areFinite_P1 lists_a lists_e lists_n t9) H Q :=
  ⟨impl_areFinite_I1 lists_a lists_e lists_n Inv, ν, ⟨t9, rfl, h0⟩, fun μ tm H h => by obtain ⟨t9, rfl, hI⟩ := h; exact hs μ t9  H hI⟩
theorem impl_areFinite_n1 {lists_a : Option Addr} {lists_e : Nat} {lists_n : Nat} {Q : Post} {Inv : Nat → Int → AHeap → Prop} {μ : Nat} (μ' : Nat) {t9 : Int}  {H : AHeap} (hm : μ' < μ) (hI : Inv μ' t9 H) : loopQ (impl_areFinite_I1 lists_a lists_e lists_n Inv) μ Q .normal (impl_areFinite_P1 lists_a lists_e lists_n t9) H := ⟨μ', hm, t9, rfl, hI⟩
theorem impl_areFinite_x1_0  (H : AHeap) (K : Value → AHeap → Prop)  {I : Nat → List Value → AHeap → Prop} {μ : Nat} : loopQ I μ (blockQ 0 (seqQ (exL Try.prog E_impl_areFinite (cr (cr (bodyC Try.f166))) 4 4 []) (retK Try.prog Try.f166 K))) (.exit 0) [ud, ud, ud, ud, ud, ud, ud, ud, ud, ud, ud, ud, ud, ud, ud, ud, ud, ud, ud, ud, ud, ud, ud, ud] H =
  (K (.bool true) H) := by kernel_rfl
theorem impl_areFinite_x1_ret (t2 : Bool) (H : AHeap) (K : Value → AHeap → Prop)  {I : Nat → List Value → AHeap → Prop} {μ : Nat} : loopQ I μ (blockQ 0 (seqQ (exL Try.prog E_impl_areFinite (cr (cr (bodyC Try.f166))) 4 4 []) (retK Try.prog Try.f166 K))) .ret [ud, ud, .bool t2, ud, ud, ud, ud, ud, ud, ud, ud, ud, ud, ud, ud, ud, ud, ud, ud, ud, ud, ud, ud, ud] H =
  (K (.bool t2) H) := by kernel_rfl
abbrev impl_areFinite_P2 (lists_a : Option Addr) (lists_e : Nat) (lists_n : Nat) (t9 : Int) (x1_a : Option Addr) (x1_e : Nat) (x1_n : Nat) (t15 : Int)  : List Value := [ud, ud, ud, ud, ud, ud, ud, .slice lists_a lists_n lists_e, .int .i64 (lists_n : Int), .int .i64 t9, ud, ud, ud, .slice x1_a x1_n x1_e, .int .i64 (x1_n : Int), .int .i64 t15, ud, ud, ud, ud, ud, ud, ud, ud]
theorem impl_areFinite_r2 (lists_a : Option Addr) (lists_e : Nat) (lists_n : Nat) (t9 : Int) (x1_a : Option Addr) (x1_e : Nat) (x1_n : Nat) (t15 : Int)  (H : AHeap) (R : Post) : exL Try.prog E_impl_areFinite (cl (cl (cr (cr (cl (cl (cr (cr (cl (cl (cr (cl (cr (bodyC Try.f166)))))))))))))) 58240 4 [(2, 896), (1, 896), (0, 0)] (impl_areFinite_P2 lists_a lists_e lists_n t9 x1_a x1_e x1_n t15) H R =
  (Br (decide ((t15 : Int) < (x1_n : Int))) ((0 : Int) ≤ t15 ∧ t15 < (x1_n : Int) ∧ ∃ b2 f2, (x1_a : Option Addr) = some ⟨b2, f2, none⟩ ∧ ∃ x2 : Nat,  rdC H b2 (f2 + (t15 : Int).toNat * 1) = some (.float .f32 x2) ∧ T_impl_IsFinite x2 H fun (r1 : Bool) (H1 : AHeap) => Br (!r1) (R .ret [ud, ud, .bool false, ud, ud, ud, ud, ud, ud, ud, ud, ud, ud, ud, ud, ud, ud, ud, ud, ud, ud, ud, ud, ud] H1) (R .normal [ud, ud, ud, ud, ud, ud, ud, .slice lists_a lists_n lists_e, .int .i64 (lists_n : Int), .int .i64 t9, ud, ud, ud, .slice x1_a x1_n x1_e, .int .i64 (x1_n : Int), .int .i64 (IntKind.wrap .i64 (t15 + 1)), ud, ud, ud, ud, ud, ud, ud, ud] H1)) (R (.exit 2) [ud, ud, ud, ud, ud, ud, ud, .slice lists_a lists_n lists_e, .int .i64 (lists_n : Int), .int .i64 t9, ud, ud, ud, ud, ud, ud, ud, ud, ud, ud, ud, ud, ud, ud] H)) := by kernel_rfl
def impl_areFinite_I2 (lists_a : Option Addr) (lists_e : Nat) (lists_n : Nat) (t9 : Int) (x1_a : Option Addr) (x1_e : Nat) (x1_n : Nat) (Inv : Nat → Int → AHeap → Prop) : Nat → List Value → AHeap → Prop := fun μ tm H => ∃ (t15 : Int), tm = (impl_areFinite_P2 lists_a lists_e lists_n t9 x1_a x1_e x1_n t15) ∧ Inv μ t15 H
theorem impl_areFinite_L2 (lists_a : Option Addr) (lists_e : Nat) (lists_n : Nat) (t9 : Int) (x1_a : Option Addr) (x1_e : Nat) (x1_n : Nat) {Q : Post} (Inv : Nat → Int → AHeap → Prop) (ν : Nat) (t15 : Int)  (H : AHeap) (h0 : Inv ν t15 H)
    (hs : ∀ (μ : Nat) (t15 : Int)  (H : AHeap), Inv μ t15 H → exL Try.prog E_impl_areFinite (cl (cl (cr (cr (cl (cl (cr (cr (cl (cl (cr (cl (cr (bodyC Try.f166)))))))))))))) 58240 4 [(2, 896), (1, 896), (0, 0)] (impl_areFinite_P2 lists_a lists_e lists_n t9 x1_a x1_e x1_n t15) H (loopQ (impl_areFinite_I2 lists_a lists_e lists_n t9 x1_a x1_e x1_n Inv) μ Q)) : loopK (exL Try.prog E_impl_areFinite (cl (cl (cr (cr (cl (cl (cr (cr (cl (cl (cr (cl (cr (bodyC Try.f166)))))))))))))) 58240 4 [(2, 896), (1, 896), (0, 0)]) (impl_areFinite_P2 lists_a lists_e lists_n t9 x1_a x1_e x1_n t15) H Q :=
  ⟨impl_areFinite_I2 lists_a lists_e lists_n t9 x1_a x1_e x1_n Inv, ν, ⟨t15, rfl, h0⟩, fun μ tm H h => by obtain ⟨t15, rfl, hI⟩ := h; exact hs μ t15  H hI⟩
theorem impl_areFinite_n2 {lists_a : Option Addr} {lists_e : Nat} {lists_n : Nat} {t9 : Int} {x1_a : Option Addr} {x1_e : Nat} {x1_n : Nat} {Q : Post} {Inv : Nat → Int → AHeap → Prop} {μ : Nat} (μ' : Nat) {t15 : Int}  {H : AHeap} (hm : μ' < μ) (hI : Inv μ' t15 H) : loopQ (impl_areFinite_I2 lists_a lists_e lists_n t9 x1_a x1_e x1_n Inv) μ Q .normal (impl_areFinite_P2 lists_a lists_e lists_n t9 x1_a x1_e x1_n t15) H := ⟨μ', hm, t15, rfl, hI⟩
theorem impl_areFinite_x2_2 (lists_a : Option Addr) (lists_e : Nat) (lists_n : Nat) (t9 : Int) (H : AHeap)  (R : Post) {I : Nat → List Value → AHeap → Prop} {μ : Nat} : loopQ I μ (blockQ 2 (blockQ 1 (seqQ (exL Try.prog E_impl_areFinite (cr (cr (cr (cl (cl (cr (cl (cr (bodyC Try.f166))))))))) 896 4 [(0, 0)]) (R)))) (.exit 2) [ud, ud, ud, ud, ud, ud, ud, .slice lists_a lists_n lists_e, .int .i64 (lists_n : Int), .int .i64 t9, ud, ud, ud, ud, ud, ud, ud, ud, ud, ud, ud, ud, ud, ud] H =
  (R .normal [ud, ud, ud, ud, ud, ud, ud, .slice lists_a lists_n lists_e, .int .i64 (lists_n : Int), .int .i64 (IntKind.wrap .i64 (t9 + 1)), ud, ud, ud, ud, ud, ud, ud, ud, ud, ud, ud, ud, ud, ud] H) := by kernel_rfl
theorem impl_areFinite_x2_ret (t2_2 : Bool) (H : AHeap)  (R : Post) {I : Nat → List Value → AHeap → Prop} {μ : Nat} : loopQ I μ (blockQ 2 (blockQ 1 (seqQ (exL Try.prog E_impl_areFinite (cr (cr (cr (cl (cl (cr (cl (cr (bodyC Try.f166))))))))) 896 4 [(0, 0)]) (R)))) .ret [ud, ud, .bool t2_2, ud, ud, ud, ud, ud, ud, ud, ud, ud, ud, ud, ud, ud, ud, ud, ud, ud, ud, ud, ud, ud] H =
  (R .ret [ud, ud, .bool t2_2, ud, ud, ud, ud, ud, ud, ud, ud, ud, ud, ud, ud, ud, ud, ud, ud, ud, ud, ud, ud, ud] H) := by kernel_rfl
theorem E_impl_areFinite_ok : ∀ g, FnOk Try.prog g (E_impl_areFinite g) := FnOk.envOf (by
  intro x hx
  simp only [List.mem_cons, List.not_mem_nil, or_false] at hx
  subst hx; exact impl_IsFinite_ok)
set_option maxHeartbeats 1000000 in
theorem impl_areFinite_main (lists_a : Option Addr) (lists_n : Nat) (lists_e : Nat) (H : AHeap) (K : Value → AHeap → Prop) (h : T_impl_areFinite lists_a lists_n lists_e H fun (r1 : Bool) (H' : AHeap) => K (.bool r1) H') : bodyL Try.prog E_impl_areFinite Try.f166 [.slice lists_a lists_n lists_e] H K := by
  rw [impl_areFinite_vc]
  obtain ⟨l_lists, i_lists, bd_22, bb_l_lists, hk⟩ := h
  obtain rfl := i_lists.eqn
  have e : (p_impl_areFinite l_lists) = _ := rfl
  have e := e.trans (p_impl_areFinite_eq l_lists)
  have g0 := Grow.refl H
  refine impl_areFinite_L1 _ _ _ (fun (μ : Nat) (t9 : Int) (H_1 : AHeap) => ∃ (t2 : Bool), H = H_1 ∧ (0 : Int) ≤ t9 ∧ t9 ≤ (l_lists.length : Int) ∧ (l_lists.length : Int) - t9 ≤ (μ : Int) ∧ p_impl_areFinite l_lists = p_impl_areFinite_l1 l_lists (μ + 1) t2 t9) (Int.toNat ((l_lists.length : Int) - (0 : Int))) _ H ?_ ?_
  · exact ⟨_, rfl, ω5, ω5, ω3, e⟩
  · intro μ t9  H_1 hI
    obtain ⟨t2, rfl, v_1, v_2, hμ, e⟩ := hI
    rw [impl_areFinite_r1]
    have e := e.trans (p_impl_areFinite_l1_s l_lists μ t2 t9)
    have l_3 := g0.1
    refine Br.intro (fun c_4 => ?_) (fun c_4 => ?_)
    · have e := e.trans (cond_t c_4)
      have c_4' := of_decide_eq_true c_4
      obtain ⟨b_5, f_6, q_7⟩ := ((i_lists.grow g0)).pos ω0
      refine ⟨by omega, by omega, b_5, f_6, q_7, ?_⟩
      obtain ⟨a_8, n_9, e_10, r_11, i_12⟩ := (i_lists).rd (i := (t9 : Int).toNat) g0 q_7 ω3
      obtain rfl := i_12.eqn
      refine ⟨a_8, _, e_10, r_11, ?_⟩
      have z_13 := getD_len bb_l_lists (t9 : Int).toNat
      refine impl_areFinite_L2 _ _ _ _ _ _ _ (fun (μ2 : Nat) (t15 : Int) (H_2 : AHeap) => ∃ (t2_2 : Bool), H = H_2 ∧ (0 : Int) ≤ t15 ∧ t15 ≤ ((((l_lists).getD (t9 : Int).toNat [])).length : Int) ∧ ((((l_lists).getD (t9 : Int).toNat [])).length : Int) - t15 ≤ (μ2 : Int) ∧ p_impl_areFinite l_lists = p_impl_areFinite_l2 l_lists t2 t9 (fun (t2_2 : Bool) (t15 : Int) => (p_impl_areFinite_l1 l_lists μ t2_2 (t9 + 1))) (μ2 + 1) t2_2 t15) (Int.toNat (((((l_lists).getD (t9 : Int).toNat [])).length : Int) - (0 : Int))) _ H ?_ ?_
      · exact ⟨_, rfl, ω5, ω5, ω3, e⟩
      · intro μ2 t15  H_2 hI
        obtain ⟨t2_2, rfl, v_14, v_15, hμ, e⟩ := hI
        rw [impl_areFinite_r2]
        have e := e.trans (p_impl_areFinite_l2_s l_lists t2 t9 (fun (t2_2 : Bool) (t15 : Int) => (p_impl_areFinite_l1 l_lists μ t2_2 (t9 + 1))) μ2 t2_2 t15)
        have l_16 := g0.1
        refine Br.intro (fun c_17 => ?_) (fun c_17 => ?_)
        · have e := e.trans (cond_t c_17)
          have c_17' := of_decide_eq_true c_17
          obtain ⟨b_18, f_19, q_20⟩ := ((i_12.grow g0)).pos ω0
          refine ⟨by omega, by omega, b_18, f_19, q_20, ?_⟩
          refine ⟨((((l_lists).getD (t9 : Int).toNat [])).getD (t15 : Int).toNat 0), (i_12).rd g0 q_20 ω3 _, ?_⟩
          refine T_impl_IsFinite_i ?_
          refine Br.intro (fun c_21 => ?_) (fun c_21 => ?_)
          · have e := e.trans (cond_t c_21)
            have c_21n := nf_of_t c_21
            rw [impl_areFinite_x2_ret]
            rw [impl_areFinite_x1_ret]
            rw [e] at hk
            exact hk
          · have e := e.trans (cond_f c_21)
            have c_21n := nt_of_f c_21
            rw [show IntKind.wrap .i64 (t15 + 1) = (t15 + 1) from wrap64 ω3 ω3]
            refine impl_areFinite_n2 (μ2 - 1) ω8 ⟨_, rfl, ω1, ω1, ω8, (by rw [show μ2 - 1 + 1 = μ2 from by first | omega]; exact e)⟩
        · have e := e.trans (cond_f c_17)
          have c_17' := of_decide_eq_false c_17
          rw [impl_areFinite_x2_2]
          rw [show IntKind.wrap .i64 (t9 + 1) = (t9 + 1) from wrap64 ω3 ω3]
          refine impl_areFinite_n1 (μ - 1) ω8 ⟨_, rfl, ω1, ω1, ω8, (by rw [show μ - 1 + 1 = μ from by first | omega]; exact e)⟩
    · have e := e.trans (cond_f c_4)
      have c_4' := of_decide_eq_false c_4
      rw [impl_areFinite_x1_0]
      rw [e] at hk
      exact hk
theorem impl_areFinite_ok : FnOk Try.prog 166 S_impl_areFinite := by
  refine FnOk.body mix_ok E_impl_areFinite_ok Try.func166 rfl (by kernel_rfl) (by kernel_rfl) ?_ ?_ ?_ ?_ ?_
  · intro args H K K' h hk
    simp only [S_impl_areFinite] at *
    unfold F_impl_areFinite at *
    split at hk
    · obtain ⟨l_lists, i_lists, bd_22, bb_l_lists, k⟩ := hk
      exact ⟨l_lists, i_lists, bd_22, bb_l_lists, h _ _ k⟩
    · exact hk.elim
  · intro _ args H K hk
    simp only [S_impl_areFinite] at *
    unfold F_impl_areFinite at *
    split at hk
    · obtain ⟨l_lists, i_lists, bd_22, bb_l_lists, k⟩ := hk
      exact ⟨_, k, fun K' k' => ⟨l_lists, i_lists, bd_22, bb_l_lists, k'⟩⟩
    · exact hk.elim
  · intro args H K hk
    simp only [S_impl_areFinite] at *
    unfold F_impl_areFinite at *
    split at hk
    · obtain ⟨l_lists, i_lists, bd_22, bb_l_lists, k⟩ := hk
      exact ⟨_, _, k⟩
    · exact hk.elim
  · intro hq; cases hq
  · have mm := @impl_areFinite_main
    have ml := fun (args : List Value) (H : AHeap) (K : Value → AHeap → Prop) => bodyL_body (P := Try.prog) (env := E_impl_areFinite ) (fn := Try.f166) (args := args) (H := H) (K := K) E_impl_areFinite_ok 
    revert mm ml
    generalize bodyK Try.prog E_impl_areFinite Try.f166 = Q
    generalize bodyL Try.prog E_impl_areFinite Try.f166 = QL
    intro mm ml args H K hk
    simp only [S_impl_areFinite] at *
    unfold F_impl_areFinite at *
    split at hk
    · exact ml _ H K (mm _ _ _ H K hk)
    · exact hk.elim

def p_impl_isLong (l_list : List Nat) : Bool := (bif (p_impl_within (l_list.length : Int) (1 : Int) (128 : Int)) then (p_impl_areFinite ([l_list])) else false)
def p_impl_isLong_eq := @p_impl_isLong.eq_1
def T_impl_isLong (list_a : Option Addr) (list_n : Nat) (list_e : Nat) (H : AHeap) (K : Bool → AHeap → Prop) : Prop := ∃ (l_list : List Nat), IsL fF H list_a list_n l_list ∧ l_list.length < 1073741824 ∧ ((∀ H' : AHeap, Grow H H' → K (p_impl_isLong l_list) H'))
theorem T_impl_isLong_i {list_a : Option Addr} {list_n : Nat} {list_e : Nat} {H : AHeap} {K : Bool → AHeap → Prop} (h : ∃ (l_list : List Nat), IsL fF H list_a list_n l_list ∧ l_list.length < 1073741824 ∧ ((∀ H' : AHeap, Grow H H' → K (p_impl_isLong l_list) H'))) : T_impl_isLong list_a list_n list_e H K := h
theorem impl_isLong_t {l : List Nat} (h : p_impl_isLong l = true) : 1 ≤ (l.length : Int) ∧ (l.length : Int) ≤ 128 := by
  rw [p_impl_isLong_eq] at h
  cases h1 : p_impl_within (l.length : Int) 1 128
  · rw [h1] at h; cases h
  · exact impl_within_t h1
/-! impl_isLong: function 105 -/
def E_impl_isLong : Env := envOf [(96, S_impl_within), (166, S_impl_areFinite)]
def F_impl_isLong : List Value → AHeap → (Value → AHeap → Prop) → Prop
  | [.slice list_a list_n list_e], H, K => T_impl_isLong list_a list_n list_e H fun (r1 : Bool) (H' : AHeap) => K (.bool r1) H'
  | _, _, _ => False
def S_impl_isLong : FSpec := { F := F_impl_isLong, quiet := false, tame := true }
theorem impl_isLong_vc (list_a : Option Addr) (list_n : Nat) (list_e : Nat) (H : AHeap) (K : Value → AHeap → Prop) : bodyL Try.prog E_impl_isLong Try.f105 [.slice list_a list_n list_e] H K =
  (T_impl_within (list_n : Int) 1 128 H fun (r1 : Bool) (H1 : AHeap) => Br r1 (Al [.slice list_a list_n list_e] H1 fun b1 H2 => T_impl_areFinite (some ⟨b1, 0, none⟩) 1 1 H2 fun (r2 : Bool) (H3 : AHeap) => K (.bool r2) H3) (K (.bool false) H1)) := by kernel_rfl
theorem E_impl_isLong_ok : ∀ g, FnOk Try.prog g (E_impl_isLong g) := FnOk.envOf (by
  intro x hx
  simp only [List.mem_cons, List.not_mem_nil, or_false] at hx
  rcases hx with rfl | rfl
  · exact impl_within_ok
  · exact impl_areFinite_ok)
set_option maxHeartbeats 1000000 in
theorem impl_isLong_main (list_a : Option Addr) (list_n : Nat) (list_e : Nat) (H : AHeap) (K : Value → AHeap → Prop) (h : T_impl_isLong list_a list_n list_e H fun (r1 : Bool) (H' : AHeap) => K (.bool r1) H') : bodyL Try.prog E_impl_isLong Try.f105 [.slice list_a list_n list_e] H K := by
  rw [impl_isLong_vc]
  obtain ⟨l_list, i_list, bd_12, hk⟩ := h
  obtain rfl := i_list.eqn
  have e : (p_impl_isLong l_list) = _ := rfl
  have e := e.trans (p_impl_isLong_eq l_list)
  have g0 := Grow.refl H
  refine T_impl_within_i ?_
  refine Br.intro (fun c_1 => ?_) (fun c_1 => ?_)
  · have e := e.trans (cond_t c_1)
    have c_1' := impl_within_t c_1
    refine Al.intro (fun b_2 H_1 hb_3 hl_4 g_5 o_6 => ?_)
    have l_8 := g_5.1
    have g_9 := g0.trans g_5
    have l_10 := g_9.1
    have w_11 := o_6.lt
    refine T_impl_areFinite_i ⟨[l_list], ⟨_, o_6.rdAll rfl, LLc.cons (i_list.grow g_9) (LLc.nil _ _)⟩, ω0, (by first | assumption | exact or_right (by assumption) (by omega) | exact or_right (by assumption : _ ∧ (_ ∨ _)).2 (by omega) | (intro y hy; simp only [List.mem_cons, List.not_mem_nil, or_false] at hy; first | omega | (subst hy; omega) | (rcases hy with rfl | rfl <;> omega) | (rcases hy with rfl | rfl | rfl <;> omega))), ?_⟩
    rw [e] at hk
    exact hk  H_1 g_9 
  · have e := e.trans (cond_f c_1)
    rw [e] at hk
    exact hk  H g0 
theorem impl_isLong_ok : FnOk Try.prog 105 S_impl_isLong := by
  refine FnOk.body mix_ok E_impl_isLong_ok Try.func105 rfl (by kernel_rfl) (by kernel_rfl) ?_ ?_ ?_ ?_ ?_
  · intro args H K K' h hk
    simp only [S_impl_isLong] at *
    unfold F_impl_isLong at *
    split at hk
    · obtain ⟨l_list, i_list, bd_12, k⟩ := hk
      exact ⟨l_list, i_list, bd_12, (fun  H' gg  => h _ _ (k  H' gg ))⟩
    · exact hk.elim
  · intro hq; cases hq
  · intro args H K hk
    simp only [S_impl_isLong] at *
    unfold F_impl_isLong at *
    split at hk
    · obtain ⟨l_list, i_list, bd_12, k⟩ := hk
      exact ⟨_, _, k H (Grow.refl H)⟩
    · exact hk.elim
  · intro _ args H K hk
    simp only [S_impl_isLong] at *
    unfold F_impl_isLong at *
    split at hk
    · obtain ⟨l_list, i_list, bd_12, k⟩ := hk
      exact ⟨l_list, i_list, bd_12, (fun  H' gg  => ⟨gg, k  H' gg ⟩)⟩
    · exact hk.elim
  · have mm := @impl_isLong_main
    have ml := fun (args : List Value) (H : AHeap) (K : Value → AHeap → Prop) => bodyL_body (P := Try.prog) (env := E_impl_isLong ) (fn := Try.f105) (args := args) (H := H) (K := K) E_impl_isLong_ok 
    revert mm ml
    generalize bodyK Try.prog E_impl_isLong Try.f105 = Q
    generalize bodyL Try.prog E_impl_isLong Try.f105 = QL
    intro mm ml args H K hk
    simp only [S_impl_isLong] at *
    unfold F_impl_isLong at *
    split at hk
    · exact ml _ H K (mm _ _ _ H K hk)
    · exact hk.elim

def p_impl_copyOf (l_list : List Nat) : (List Nat) := (([] : List Nat) ++ l_list)
def p_impl_copyOf_eq := @p_impl_copyOf.eq_1
def T_impl_copyOf (list_a : Option Addr) (list_n : Nat) (list_e : Nat) (H : AHeap) (K : (Option Addr) → Nat → Nat → AHeap → Prop) : Prop := ∃ (l_list : List Nat), IsL fF H list_a list_n l_list ∧ l_list.length < 1073741824 ∧ ((∀ (r1_a : Option Addr) (r1_n r1_e : Nat), ∀ H' : AHeap, Grow H H' → OwnS fF H' H.length r1_a r1_n r1_e (p_impl_copyOf l_list) → K r1_a r1_n r1_e H'))
theorem T_impl_copyOf_i {list_a : Option Addr} {list_n : Nat} {list_e : Nat} {H : AHeap} {K : (Option Addr) → Nat → Nat → AHeap → Prop} (h : ∃ (l_list : List Nat), IsL fF H list_a list_n l_list ∧ l_list.length < 1073741824 ∧ ((∀ (r1_a : Option Addr) (r1_n r1_e : Nat), ∀ H' : AHeap, Grow H H' → OwnS fF H' H.length r1_a r1_n r1_e (p_impl_copyOf l_list) → K r1_a r1_n r1_e H'))) : T_impl_copyOf list_a list_n list_e H K := h
theorem impl_copyOf_is (l : List Nat) : p_impl_copyOf l = l := by rw [p_impl_copyOf_eq]; rfl
theorem impl_copyOf_len (l : List Nat) : (p_impl_copyOf l).length = l.length := by rw [impl_copyOf_is]
/-! impl_copyOf: function 122 -/
def E_impl_copyOf : Env := envOf []
def F_impl_copyOf : List Value → AHeap → (Value → AHeap → Prop) → Prop
  | [.slice list_a list_n list_e], H, K => T_impl_copyOf list_a list_n list_e H fun (r1_a : Option Addr) (r1_n : Nat) (r1_e : Nat) (H' : AHeap) => K (.slice r1_a r1_n r1_e) H'
  | _, _, _ => False
def S_impl_copyOf : FSpec := { F := F_impl_copyOf, quiet := false, tame := true }
theorem impl_copyOf_vc (list_a : Option Addr) (list_n : Nat) (list_e : Nat) (H : AHeap) (K : Value → AHeap → Prop) : bodyL Try.prog E_impl_copyOf Try.f122 [.slice list_a list_n list_e] H K =
  (Al [] H fun b1 H1 => ∃ o1 w1 : List Value, ownB H1 (some ⟨b1, 0, none⟩) 0 1 1 = some o1 ∧ rdS H1 list_a (list_n * 1) = some w1 ∧ ((some ⟨b1, 0, none⟩ : Option Addr) = none → 0 < (list_n : Nat)) ∧ (0 : Nat) + list_n < most ∧ Ap H1 (killB H1 (some ⟨b1, 0, none⟩) ++ [some ⟨o1 ++ w1, true⟩]) fun b2 H2 => K (.slice (some ⟨b2, 0, none⟩) (0 + list_n) 1) H2) := by kernel_rfl
theorem E_impl_copyOf_ok : ∀ g, FnOk Try.prog g (E_impl_copyOf g) := FnOk.envOf (by
  intro x hx; cases hx)
set_option maxHeartbeats 1000000 in
theorem impl_copyOf_main (list_a : Option Addr) (list_n : Nat) (list_e : Nat) (H : AHeap) (K : Value → AHeap → Prop) (h : T_impl_copyOf list_a list_n list_e H fun (r1_a : Option Addr) (r1_n : Nat) (r1_e : Nat) (H' : AHeap) => K (.slice r1_a r1_n r1_e) H') : bodyL Try.prog E_impl_copyOf Try.f122 [.slice list_a list_n list_e] H K := by
  rw [impl_copyOf_vc]
  obtain ⟨l_list, i_list, bd_21, hk⟩ := h
  obtain rfl := i_list.eqn
  have e : (p_impl_copyOf l_list) = _ := rfl
  have e := e.trans (p_impl_copyOf_eq l_list)
  have g0 := Grow.refl H
  refine Al.intro (fun b_1 H_1 hb_2 hl_3 g_4 o_5 => ?_)
  have o_5 : Own H_1 b_1 ((([] : List Nat)).map fF) := o_5
  have l_7 := g_4.1
  have g_8 := g0.trans g_4
  have l_9 := g_8.1
  have w_20 := o_5.lt
  refine ⟨_, _, o_5.ownB ω7 rfl, (isl_rdS (i_list.grow g_8)), (fun h => by cases h), ω22, ?_⟩
  refine Ap.app o_5 rfl rfl (fun b_14 H_2 q_18 hl_10 o_11 k_12 => ?_)
  have o_11 := map_snoc o_11
  have l_15 := k_12.1
  have g_16 := g_8.keep (b := b_1) ω3 k_12
  have l_17 := g_16.1
  have w_19 := o_11.lt
  rw [e] at hk
  exact hk _ _ _ H_2 g_16 (o_11.ownS ω9 ω3)
theorem impl_copyOf_ok : FnOk Try.prog 122 S_impl_copyOf := by
  refine FnOk.body mix_ok E_impl_copyOf_ok Try.func122 rfl (by kernel_rfl) (by kernel_rfl) ?_ ?_ ?_ ?_ ?_
  · intro args H K K' h hk
    simp only [S_impl_copyOf] at *
    unfold F_impl_copyOf at *
    split at hk
    · obtain ⟨l_list, i_list, bd_21, k⟩ := hk
      exact ⟨l_list, i_list, bd_21, (fun r1_a r1_n r1_e H' gg ow0 => h _ _ (k r1_a r1_n r1_e H' gg ow0))⟩
    · exact hk.elim
  · intro hq; cases hq
  · intro args H K hk
    simp only [S_impl_copyOf] at *
    unfold F_impl_copyOf at *
    split at hk
    · obtain ⟨l_list, i_list, bd_21, k⟩ := hk
      exact liveS fun a n e H1 g o => ⟨_, _, k a n e H1 g o⟩
    · exact hk.elim
  · intro _ args H K hk
    simp only [S_impl_copyOf] at *
    unfold F_impl_copyOf at *
    split at hk
    · obtain ⟨l_list, i_list, bd_21, k⟩ := hk
      exact ⟨l_list, i_list, bd_21, (fun r1_a r1_n r1_e H' gg ow0 => ⟨gg, k r1_a r1_n r1_e H' gg ow0⟩)⟩
    · exact hk.elim
  · have mm := @impl_copyOf_main
    have ml := fun (args : List Value) (H : AHeap) (K : Value → AHeap → Prop) => bodyL_body (P := Try.prog) (env := E_impl_copyOf ) (fn := Try.f122) (args := args) (H := H) (K := K) E_impl_copyOf_ok 
    revert mm ml
    generalize bodyK Try.prog E_impl_copyOf Try.f122 = Q
    generalize bodyL Try.prog E_impl_copyOf Try.f122 = QL
    intro mm ml args H K hk
    simp only [S_impl_copyOf] at *
    unfold F_impl_copyOf at *
    split at hk
    · exact ml _ H K (mm _ _ _ H K hk)
    · exact hk.elim
def p_cmp_isNaN_float32 (x : Nat) : Bool := !(feq .f32 x x)
def p_cmp_isNaN_float32_eq := @p_cmp_isNaN_float32.eq_1
def T_cmp_isNaN_float32 (x : Nat) (H : AHeap) (K : Bool → AHeap → Prop) : Prop := K (p_cmp_isNaN_float32 x) H

/-! cmp_isNaN_float32: function 203 -/
def E_cmp_isNaN_float32 : Env := envOf []
def F_cmp_isNaN_float32 : List Value → AHeap → (Value → AHeap → Prop) → Prop
  | [.float .f32 x], H, K => T_cmp_isNaN_float32 x H fun (r1 : Bool) (H' : AHeap) => K (.bool r1) H'
  | _, _, _ => False
def S_cmp_isNaN_float32 : FSpec := { F := F_cmp_isNaN_float32, quiet := true, tame := false }
theorem cmp_isNaN_float32_vc (x : Nat) (H : AHeap) (K : Value → AHeap → Prop) : bodyL Try.prog E_cmp_isNaN_float32 Try.f203 [.float .f32 x] H K =
  (K (.bool (!(feq .f32 x x))) H) := by kernel_rfl
theorem E_cmp_isNaN_float32_ok : ∀ g, FnOk Try.prog g (E_cmp_isNaN_float32 g) := FnOk.envOf (by
  intro x hx; cases hx)
set_option maxHeartbeats 1000000 in
theorem cmp_isNaN_float32_main (x : Nat) (H : AHeap) (K : Value → AHeap → Prop) (h : T_cmp_isNaN_float32 x H fun (r1 : Bool) (H' : AHeap) => K (.bool r1) H') : bodyL Try.prog E_cmp_isNaN_float32 Try.f203 [.float .f32 x] H K := by
  rw [cmp_isNaN_float32_vc]
  unfold T_cmp_isNaN_float32 p_cmp_isNaN_float32 at h
  repeat' (first | exact h | (exfalso; simp_all; done) | (refine ⟨by decide, ?_⟩) | (refine Br.intro (fun hb => ?_) (fun hb => ?_) <;> (try simp only [hb, cond_true, cond_false, Bool.not_true, Bool.not_false] at h)))
theorem cmp_isNaN_float32_ok : FnOk Try.prog 203 S_cmp_isNaN_float32 := by
  refine FnOk.body mix_ok E_cmp_isNaN_float32_ok Try.func203 rfl (by kernel_rfl) (by kernel_rfl) ?_ ?_ ?_ ?_ ?_
  · intro args H K K' h hk
    simp only [S_cmp_isNaN_float32] at *
    unfold F_cmp_isNaN_float32 at *
    split at hk
    · have k := hk
      exact h _ _ k
    · exact hk.elim
  · intro _ args H K hk
    simp only [S_cmp_isNaN_float32] at *
    unfold F_cmp_isNaN_float32 at *
    split at hk
    · have k := hk
      exact ⟨_, k, fun K' k' => k'⟩
    · exact hk.elim
  · intro args H K hk
    simp only [S_cmp_isNaN_float32] at *
    unfold F_cmp_isNaN_float32 at *
    split at hk
    · have k := hk
      exact ⟨_, _, k⟩
    · exact hk.elim
  · intro hq; cases hq
  · have mm := @cmp_isNaN_float32_main
    have ml := fun (args : List Value) (H : AHeap) (K : Value → AHeap → Prop) => bodyL_body (P := Try.prog) (env := E_cmp_isNaN_float32 ) (fn := Try.f203) (args := args) (H := H) (K := K) E_cmp_isNaN_float32_ok 
    revert mm ml
    generalize bodyK Try.prog E_cmp_isNaN_float32 Try.f203 = Q
    generalize bodyL Try.prog E_cmp_isNaN_float32 Try.f203 = QL
    intro mm ml args H K hk
    simp only [S_cmp_isNaN_float32] at *
    unfold F_cmp_isNaN_float32 at *
    split at hk
    · exact ml _ H K (mm _ H K hk)
    · exact hk.elim
def p_cmp_Compare_float32 (x : Nat) (y : Nat) : Int := (bif (p_cmp_isNaN_float32 x) then (bif (p_cmp_isNaN_float32 y) then (0 : Int) else ((-1) : Int)) else (bif (p_cmp_isNaN_float32 y) then (1 : Int) else (bif flt .f32 x y then ((-1) : Int) else (bif flt .f32 y x then (1 : Int) else (0 : Int)))))
def p_cmp_Compare_float32_eq := @p_cmp_Compare_float32.eq_1
def T_cmp_Compare_float32 (x : Nat) (y : Nat) (H : AHeap) (K : Int → AHeap → Prop) : Prop := K (p_cmp_Compare_float32 x y) H
theorem cmp_neg (x y : Nat) : decide ((p_cmp_Compare_float32 x y : Int) < 0) = So.lt_ kappa x y := by
  rw [← cmp_kappa, p_cmp_Compare_float32_eq]
  simp only [p_cmp_isNaN_float32_eq]
  have key : ∀ p q r s : Bool, decide ((bif !p then (bif !q then (0 : Int) else (-1)) else (bif !q then (1 : Int) else (bif r then (-1) else (bif s then (1 : Int) else (0 : Int))))) < 0) = (bif !p then (bif !q then false else true) else (bif !q then false else r)) := by decide
  exact key _ _ _ _
theorem T_cmp_Compare_float32_i {x : Nat} {y : Nat} {H : AHeap} {K : Int → AHeap → Prop} (h : K (p_cmp_Compare_float32 x y) H) : T_cmp_Compare_float32 x y H K := h
/-! cmp_Compare_float32: function 174 -/
def E_cmp_Compare_float32 : Env := envOf [(203, S_cmp_isNaN_float32)]
def F_cmp_Compare_float32 : List Value → AHeap → (Value → AHeap → Prop) → Prop
  | [.float .f32 x, .float .f32 y], H, K => T_cmp_Compare_float32 x y H fun (r1 : Int) (H' : AHeap) => K (.int .i64 r1) H'
  | _, _, _ => False
def S_cmp_Compare_float32 : FSpec := { F := F_cmp_Compare_float32, quiet := true, tame := false }
theorem cmp_Compare_float32_vc (x : Nat) (y : Nat) (H : AHeap) (K : Value → AHeap → Prop) : bodyL Try.prog E_cmp_Compare_float32 Try.f174 [.float .f32 x, .float .f32 y] H K =
  (T_cmp_isNaN_float32 x H fun (r1 : Bool) (H1 : AHeap) => T_cmp_isNaN_float32 y H1 fun (r2 : Bool) (H2 : AHeap) => Br r1 (Br r2 (K (.int .i64 0) H2) (K (.int .i64 (-1)) H2)) (Br r2 (K (.int .i64 1) H2) (Br (flt .f32 x y) (K (.int .i64 (-1)) H2) (Br (flt .f32 y x) (K (.int .i64 1) H2) (K (.int .i64 0) H2))))) := by kernel_rfl
theorem E_cmp_Compare_float32_ok : ∀ g, FnOk Try.prog g (E_cmp_Compare_float32 g) := FnOk.envOf (by
  intro x hx
  simp only [List.mem_cons, List.not_mem_nil, or_false] at hx
  subst hx; exact cmp_isNaN_float32_ok)
set_option maxHeartbeats 1000000 in
theorem cmp_Compare_float32_main (x : Nat) (y : Nat) (H : AHeap) (K : Value → AHeap → Prop) (h : T_cmp_Compare_float32 x y H fun (r1 : Int) (H' : AHeap) => K (.int .i64 r1) H') : bodyL Try.prog E_cmp_Compare_float32 Try.f174 [.float .f32 x, .float .f32 y] H K := by
  rw [cmp_Compare_float32_vc]
  simp only [T_cmp_isNaN_float32]
  unfold T_cmp_Compare_float32 p_cmp_Compare_float32 at h
  repeat' (first | exact h | (exfalso; simp_all; done) | (refine ⟨by decide, ?_⟩) | (refine Br.intro (fun hb => ?_) (fun hb => ?_) <;> (try simp only [hb, cond_true, cond_false, Bool.not_true, Bool.not_false] at h)))
theorem cmp_Compare_float32_ok : FnOk Try.prog 174 S_cmp_Compare_float32 := by
  refine FnOk.body mix_ok E_cmp_Compare_float32_ok Try.func174 rfl (by kernel_rfl) (by kernel_rfl) ?_ ?_ ?_ ?_ ?_
  · intro args H K K' h hk
    simp only [S_cmp_Compare_float32] at *
    unfold F_cmp_Compare_float32 at *
    split at hk
    · have k := hk
      exact h _ _ k
    · exact hk.elim
  · intro _ args H K hk
    simp only [S_cmp_Compare_float32] at *
    unfold F_cmp_Compare_float32 at *
    split at hk
    · have k := hk
      exact ⟨_, k, fun K' k' => k'⟩
    · exact hk.elim
  · intro args H K hk
    simp only [S_cmp_Compare_float32] at *
    unfold F_cmp_Compare_float32 at *
    split at hk
    · have k := hk
      exact ⟨_, _, k⟩
    · exact hk.elim
  · intro hq; cases hq
  · have mm := @cmp_Compare_float32_main
    have ml := fun (args : List Value) (H : AHeap) (K : Value → AHeap → Prop) => bodyL_body (P := Try.prog) (env := E_cmp_Compare_float32 ) (fn := Try.f174) (args := args) (H := H) (K := K) E_cmp_Compare_float32_ok 
    revert mm ml
    generalize bodyK Try.prog E_cmp_Compare_float32 Try.f174 = Q
    generalize bodyL Try.prog E_cmp_Compare_float32 Try.f174 = QL
    intro mm ml args H K hk
    simp only [S_cmp_Compare_float32] at *
    unfold F_cmp_Compare_float32 at *
    split at hk
    · exact ml _ H K (mm _ _ H K hk)
    · exact hk.elim

def p_slices_insertionSortCmpFunc_float32_l2 (l_data : List Nat) (a : Int) (b : Int) (i : Int) (y1_1 : List Nat) (k2_2 : Int → (List Nat) → (List Nat)) : Nat → Int → (List Nat) → (List Nat)
  | 0, _, _ => []
  | μ2 + 1, j, y2_1 => (bif decide ((a : Int) < j) then (bif decide (((p_cmp_Compare_float32 (((y2_1).getD (j : Int).toNat 0)) (((y2_1).getD ((j - 1) : Int).toNat 0))) : Int) < 0) then (p_slices_insertionSortCmpFunc_float32_l2 l_data a b i y1_1 k2_2 μ2 (j - 1) (((((y2_1).set (j : Int).toNat ((((y2_1).getD ((j - 1) : Int).toNat 0))))).set ((j - 1) : Int).toNat ((((y2_1).getD (j : Int).toNat 0)))))) else (k2_2 j y2_1)) else (k2_2 j y2_1))
def p_slices_insertionSortCmpFunc_float32_l2_s := fun l_data a b i y1_1 k2_2 μ2 j y2_1 => @p_slices_insertionSortCmpFunc_float32_l2.eq_2 l_data a b i y1_1 k2_2 j y2_1 μ2
def p_slices_insertionSortCmpFunc_float32_l1 (l_data : List Nat) (a : Int) (b : Int) : Nat → Int → (List Nat) → (List Nat)
  | 0, _, _ => []
  | μ + 1, i, y1_1 => (bif decide ((i : Int) < b) then (p_slices_insertionSortCmpFunc_float32_l2 l_data a b i y1_1 (fun (j : Int) (y2_1 : List Nat) => (p_slices_insertionSortCmpFunc_float32_l1 l_data a b μ (i + 1) y2_1)) (Int.toNat (i - a) + 1) i y1_1) else y1_1)
def p_slices_insertionSortCmpFunc_float32_l1_s := fun l_data a b μ i y1_1 => @p_slices_insertionSortCmpFunc_float32_l1.eq_2 l_data a b i y1_1 μ
def p_slices_insertionSortCmpFunc_float32 (l_data : List Nat) (a : Int) (b : Int) : (List Nat) := (p_slices_insertionSortCmpFunc_float32_l1 l_data a b (Int.toNat (b - (a + 1)) + 1) (a + 1) l_data)
def p_slices_insertionSortCmpFunc_float32_eq := @p_slices_insertionSortCmpFunc_float32.eq_1
def T_slices_insertionSortCmpFunc_float32 (data_a : Option Addr) (data_n : Nat) (data_e : Nat) (a : Int) (b : Int) (H : AHeap) (K : AHeap → Prop) : Prop := ∃ lo : Nat, ∃ (l_data : List Nat), OwnS fF H lo data_a data_n data_e l_data ∧ l_data.length < 1073741824 ∧ 0 ≤ a ∧ a ≤ b ∧ b ≤ l_data.length ∧ ((∀ H' : AHeap, KeepA data_a H H' → OwnS fF H' lo data_a data_n data_e (p_slices_insertionSortCmpFunc_float32 l_data a b) → K  H'))
theorem T_slices_insertionSortCmpFunc_float32_i {data_a : Option Addr} {data_n : Nat} {data_e : Nat} {a : Int} {b : Int} {H : AHeap} {K : AHeap → Prop} (h : ∃ lo : Nat, ∃ (l_data : List Nat), OwnS fF H lo data_a data_n data_e l_data ∧ l_data.length < 1073741824 ∧ 0 ≤ a ∧ a ≤ b ∧ b ≤ l_data.length ∧ ((∀ H' : AHeap, KeepA data_a H H' → OwnS fF H' lo data_a data_n data_e (p_slices_insertionSortCmpFunc_float32 l_data a b) → K  H'))) : T_slices_insertionSortCmpFunc_float32 data_a data_n data_e a b H K := h
theorem slices_insertionSort_down (l : List Nat) (a b i : Int) (y1 : List Nat) (g : List Nat → List Nat) (ha : 0 ≤ a) : ∀ (μ : Nat) (j : Int) (y : List Nat), j - a ≤ μ → a ≤ j →
    p_slices_insertionSortCmpFunc_float32_l2 l a b i y1 (fun _ y => g y) (μ + 1) j y = g (So.insD kappa (j - a).toNat y a.toNat j.toNat) := by
  intro μ
  induction μ with
  | zero =>
    intro j y h1 h2
    rw [p_slices_insertionSortCmpFunc_float32_l2_s, decide_eq_false ω3, cond_false, show (j - a).toNat = 0 by omega]; rfl
  | succ μ ih =>
    intro j y h1 h2
    rw [p_slices_insertionSortCmpFunc_float32_l2_s]
    by_cases h : a < j
    · rw [decide_eq_true h, cond_true, cmp_neg]
      obtain ⟨n, hn⟩ : ∃ n, (j - a).toNat = n + 1 := ⟨(j - a).toNat - 1, by omega⟩
      rw [hn]
      unfold So.insD
      have e : So.lt_ kappa (y.getD j.toNat 0) (y.getD (j - 1).toNat 0) = So.lt_ kappa (So.at_ y j.toNat) (So.at_ y (j.toNat - 1)) := by
        rw [show (j - 1).toNat = j.toNat - 1 by omega]; rfl
      rw [e]
      by_cases hc : So.lt_ kappa (So.at_ y j.toNat) (So.at_ y (j.toNat - 1)) = true
      · rw [hc, cond_true, if_pos ⟨by omega, rfl⟩]
        have := ih (j - 1) (So.sw y j.toNat (j.toNat - 1)) ω3 ω3
        rw [show (j - 1 - a).toNat = n by omega, show (j - 1).toNat = j.toNat - 1 by omega] at this
        rw [← this, show (j - 1).toNat = j.toNat - 1 by omega]; rfl
      · rw [if_neg (fun h => hc h.2)]
        simp only [Bool.not_eq_true] at hc
        rw [hc, cond_false]
    · rw [decide_eq_false h, cond_false, show (j - a).toNat = 0 by omega]; rfl
theorem slices_insertionSort_loop (l : List Nat) (a b : Int) (ha : 0 ≤ a) : ∀ (μ : Nat) (i : Int) (y : List Nat), b - i ≤ μ → a < i →
    p_slices_insertionSortCmpFunc_float32_l1 l a b (μ + 1) i y = So.insS kappa (b - i).toNat y a.toNat i.toNat := by
  intro μ
  induction μ with
  | zero =>
    intro i y h1 h2
    rw [p_slices_insertionSortCmpFunc_float32_l1_s, decide_eq_false ω3, cond_false, show (b - i).toNat = 0 by omega]; rfl
  | succ μ ih =>
    intro i y h1 h2
    rw [p_slices_insertionSortCmpFunc_float32_l1_s]
    by_cases h : i < b
    · obtain ⟨n, hn⟩ : ∃ n, (b - i).toNat = n + 1 := ⟨(b - i).toNat - 1, by omega⟩
      rw [decide_eq_true h, cond_true, hn, slices_insertionSort_down l a b i y (fun y => p_slices_insertionSortCmpFunc_float32_l1 l a b (μ + 1) (i + 1) y) ha _ _ _ ω3 ω3]
      rw [ih (i + 1) _ ω3 ω3, show (b - (i + 1)).toNat = n by omega, show (i + 1).toNat = i.toNat + 1 by omega, show (i - a).toNat = i.toNat - a.toNat by omega]
      rfl
    · rw [decide_eq_false h, cond_false, show (b - i).toNat = 0 by omega]; rfl
theorem slices_insertionSort_eq (l : List Nat) (a b : Int) (ha : 0 ≤ a) : p_slices_insertionSortCmpFunc_float32 l a b = So.insS kappa (b - (a + 1)).toNat l a.toNat (a.toNat + 1) := by
  rw [p_slices_insertionSortCmpFunc_float32_eq, slices_insertionSort_loop l a b ha _ _ _ ω3 ω3, show (a + 1).toNat = a.toNat + 1 by omega]
theorem slices_insertionSort_len (l : List Nat) (a b : Int) (ha : 0 ≤ a) : (p_slices_insertionSortCmpFunc_float32 l a b).length = l.length := by
  rw [slices_insertionSort_eq l a b ha, So.insS_length]
/-! slices_insertionSortCmpFunc_float32: function 226 -/
def E_slices_insertionSortCmpFunc_float32 : Env := envOf [(999999, quietMark), (174, S_cmp_Compare_float32)]
def F_slices_insertionSortCmpFunc_float32 : List Value → AHeap → (Value → AHeap → Prop) → Prop
  | [.slice data_a data_n data_e, .int .i64 a, .int .i64 b, .func (.func 174) ⟨[]⟩ ⟨[]⟩], H, K => T_slices_insertionSortCmpFunc_float32 data_a data_n data_e a b H fun  (H' : AHeap) => K (.tuple #[]) H'
  | _, _, _ => False
def S_slices_insertionSortCmpFunc_float32 : FSpec := { F := F_slices_insertionSortCmpFunc_float32, quiet := false, tame := false }
theorem slices_insertionSortCmpFunc_float32_vc (data_a : Option Addr) (data_n : Nat) (data_e : Nat) (a : Int) (b : Int) (H : AHeap) (K : Value → AHeap → Prop) : bodyL Try.prog E_slices_insertionSortCmpFunc_float32 Try.f226 [.slice data_a data_n data_e, .int .i64 a, .int .i64 b, .func (.func 174) #[] #[]] H K =
  (loopK (exL Try.prog E_slices_insertionSortCmpFunc_float32 (cl (cl (cr (bodyC Try.f226)))) 271 0 [(0, 0)]) [.slice data_a data_n data_e, .int .i64 a, .int .i64 b, .func (.func 174) #[] #[], ud, ud, ud, ud, .int .i64 (IntKind.wrap .i64 (a + 1)), ud, ud, ud, ud, ud, ud, ud, ud, ud, ud, ud, ud, ud, ud, ud, ud, ud, ud, ud, ud, ud, ud, ud, ud, ud, ud, ud, ud, ud, ud, ud, ud, ud, ud, ud, ud, ud, ud, ud, ud, ud, ud, ud, ud] H (blockQ 0 (retK Try.prog Try.f226 K))) := by kernel_rfl
abbrev slices_insertionSortCmpFunc_float32_P1 (a : Int) (b : Int) (data_a : Option Addr) (data_e : Nat) (data_n : Nat) (i : Int)  : List Value := [.slice data_a data_n data_e, .int .i64 a, .int .i64 b, .func (.func 174) #[] #[], ud, ud, ud, ud, .int .i64 i, ud, ud, ud, ud, ud, ud, ud, ud, ud, ud, ud, ud, ud, ud, ud, ud, ud, ud, ud, ud, ud, ud, ud, ud, ud, ud, ud, ud, ud, ud, ud, ud, ud, ud, ud, ud, ud, ud, ud, ud, ud, ud, ud, ud]
theorem slices_insertionSortCmpFunc_float32_r1 (a : Int) (b : Int) (data_a : Option Addr) (data_e : Nat) (data_n : Nat) (i : Int)  (H : AHeap) (R : Post) : exL Try.prog E_slices_insertionSortCmpFunc_float32 (cl (cl (cr (bodyC Try.f226)))) 271 0 [(0, 0)] (slices_insertionSortCmpFunc_float32_P1 a b data_a data_e data_n i) H R =
  (Br (decide ((i : Int) < b)) (loopK (exL Try.prog E_slices_insertionSortCmpFunc_float32 (cl (cl (cr (cl (cl (cr (cl (cl (cr (bodyC Try.f226)))))))))) 783 0 [(2, 271), (1, 271), (0, 0)]) [.slice data_a data_n data_e, .int .i64 a, .int .i64 b, .func (.func 174) #[] #[], ud, ud, ud, ud, .int .i64 i, .int .i64 i, ud, ud, ud, ud, ud, ud, ud, ud, ud, ud, ud, ud, ud, ud, ud, ud, ud, ud, ud, ud, ud, ud, ud, ud, ud, ud, ud, ud, ud, ud, ud, ud, ud, ud, ud, ud, ud, ud, ud, ud, ud, ud, ud] H (blockQ 2 (blockQ 1 (seqQ (exL Try.prog E_slices_insertionSortCmpFunc_float32 (cr (cr (cl (cl (cr (bodyC Try.f226)))))) 271 0 [(0, 0)]) (R))))) (R (.exit 0) [ud, ud, ud, ud, ud, ud, ud, ud, ud, ud, ud, ud, ud, ud, ud, ud, ud, ud, ud, ud, ud, ud, ud, ud, ud, ud, ud, ud, ud, ud, ud, ud, ud, ud, ud, ud, ud, ud, ud, ud, ud, ud, ud, ud, ud, ud, ud, ud, ud, ud, ud, ud, ud] H)) := by kernel_rfl
def slices_insertionSortCmpFunc_float32_I1 (a : Int) (b : Int) (data_a : Option Addr) (data_e : Nat) (data_n : Nat) (Inv : Nat → Int → AHeap → Prop) : Nat → List Value → AHeap → Prop := fun μ tm H => ∃ (i : Int), tm = (slices_insertionSortCmpFunc_float32_P1 a b data_a data_e data_n i) ∧ Inv μ i H
theorem slices_insertionSortCmpFunc_float32_L1 (a : Int) (b : Int) (data_a : Option Addr) (data_e : Nat) (data_n : Nat) {Q : Post} (Inv : Nat → Int → AHeap → Prop) (ν : Nat) (i : Int)  (H : AHeap) (h0 : Inv ν i H)
    (hs : ∀ (μ : Nat) (i : Int)  (H : AHeap), Inv μ i H → exL Try.prog E_slices_insertionSortCmpFunc_float32 (cl (cl (cr (bodyC Try.f226)))) 271 0 [(0, 0)] (slices_insertionSortCmpFunc_float32_P1 a b data_a data_e data_n i) H (loopQ (slices_insertionSortCmpFunc_float32_I1 a b data_a data_e data_n Inv) μ Q)) : loopK (exL Try.prog E_slices_insertionSortCmpFunc_float32 (cl (cl (cr (bodyC Try.f226)))) 271 0 [(0, 0)]) (slices_insertionSortCmpFunc_float32_P1 a b data_a data_e data_n i) H Q :=
  ⟨slices_insertionSortCmpFunc_float32_I1 a b data_a data_e data_n Inv, ν, ⟨i, rfl, h0⟩, fun μ tm H h => by obtain ⟨i, rfl, hI⟩ := h; exact hs μ i  H hI⟩
theorem slices_insertionSortCmpFunc_float32_n1 {a : Int} {b : Int} {data_a : Option Addr} {data_e : Nat} {data_n : Nat} {Q : Post} {Inv : Nat → Int → AHeap → Prop} {μ : Nat} (μ' : Nat) {i : Int}  {H : AHeap} (hm : μ' < μ) (hI : Inv μ' i H) : loopQ (slices_insertionSortCmpFunc_float32_I1 a b data_a data_e data_n Inv) μ Q .normal (slices_insertionSortCmpFunc_float32_P1 a b data_a data_e data_n i) H := ⟨μ', hm, i, rfl, hI⟩
theorem slices_insertionSortCmpFunc_float32_x1_0  (H : AHeap) (K : Value → AHeap → Prop)  {I : Nat → List Value → AHeap → Prop} {μ : Nat} : loopQ I μ (blockQ 0 (retK Try.prog Try.f226 K)) (.exit 0) [ud, ud, ud, ud, ud, ud, ud, ud, ud, ud, ud, ud, ud, ud, ud, ud, ud, ud, ud, ud, ud, ud, ud, ud, ud, ud, ud, ud, ud, ud, ud, ud, ud, ud, ud, ud, ud, ud, ud, ud, ud, ud, ud, ud, ud, ud, ud, ud, ud, ud, ud, ud, ud] H =
  (K (.tuple #[]) H) := by kernel_rfl
abbrev slices_insertionSortCmpFunc_float32_P2 (a : Int) (b : Int) (data_a : Option Addr) (data_e : Nat) (data_n : Nat) (i : Int) (j : Int)  : List Value := [.slice data_a data_n data_e, .int .i64 a, .int .i64 b, .func (.func 174) #[] #[], ud, ud, ud, ud, .int .i64 i, .int .i64 j, ud, ud, ud, ud, ud, ud, ud, ud, ud, ud, ud, ud, ud, ud, ud, ud, ud, ud, ud, ud, ud, ud, ud, ud, ud, ud, ud, ud, ud, ud, ud, ud, ud, ud, ud, ud, ud, ud, ud, ud, ud, ud, ud]
theorem slices_insertionSortCmpFunc_float32_r2 (a : Int) (b : Int) (data_a : Option Addr) (data_e : Nat) (data_n : Nat) (i : Int) (j : Int)  (H : AHeap) (R : Post) : exL Try.prog E_slices_insertionSortCmpFunc_float32 (cl (cl (cr (cl (cl (cr (cl (cl (cr (bodyC Try.f226)))))))))) 783 0 [(2, 271), (1, 271), (0, 0)] (slices_insertionSortCmpFunc_float32_P2 a b data_a data_e data_n i j) H R =
  (Br (decide ((a : Int) < j)) ((0 : Int) ≤ j ∧ j < (data_n : Int) ∧ ∃ b1 f1, (data_a : Option Addr) = some ⟨b1, f1, none⟩ ∧ ∃ x1 : Nat,  rdC H b1 (f1 + (j : Int).toNat * 1) = some (.float .f32 x1) ∧ (0 : Int) ≤ IntKind.wrap .i64 (j - 1) ∧ IntKind.wrap .i64 (j - 1) < (data_n : Int) ∧ ∃ b2 f2, (data_a : Option Addr) = some ⟨b2, f2, none⟩ ∧ ∃ x2 : Nat,  rdC H b2 (f2 + (IntKind.wrap .i64 (j - 1) : Int).toNat * 1) = some (.float .f32 x2) ∧ T_cmp_Compare_float32 x1 x2 H fun (r1 : Int) (H1 : AHeap) => Br (decide ((r1 : Int) < 0)) ((0 : Int) ≤ IntKind.wrap .i64 (j - 1) ∧ IntKind.wrap .i64 (j - 1) < (data_n : Int) ∧ ∃ b3 f3, (data_a : Option Addr) = some ⟨b3, f3, none⟩ ∧ ∃ x3 : Nat,  rdC H1 b3 (f3 + (IntKind.wrap .i64 (j - 1) : Int).toNat * 1) = some (.float .f32 x3) ∧ (0 : Int) ≤ j ∧ j < (data_n : Int) ∧ ∃ b4 f4, (data_a : Option Addr) = some ⟨b4, f4, none⟩ ∧ ∃ x4 : Nat,  rdC H1 b4 (f4 + (j : Int).toNat * 1) = some (.float .f32 x4) ∧ (0 : Int) ≤ j ∧ j < (data_n : Int) ∧ ∃ b5 f5, (data_a : Option Addr) = some ⟨b5, f5, none⟩ ∧ isOwn H1 b5 ∧ (∃ l, rdN H1 b5 (f5 + (j : Int).toNat * 1) 1 = some l) ∧ Lt (setC H1 b5 (f5 + (j : Int).toNat * 1) (.float .f32 x3)) fun H2 => (0 : Int) ≤ IntKind.wrap .i64 (j - 1) ∧ IntKind.wrap .i64 (j - 1) < (data_n : Int) ∧ ∃ b6 f6, (data_a : Option Addr) = some ⟨b6, f6, none⟩ ∧ isOwn H2 b6 ∧ (∃ l, rdN H2 b6 (f6 + (IntKind.wrap .i64 (j - 1) : Int).toNat * 1) 1 = some l) ∧ Lt (setC H2 b6 (f6 + (IntKind.wrap .i64 (j - 1) : Int).toNat * 1) (.float .f32 x4)) fun H3 => R .normal [.slice data_a data_n data_e, .int .i64 a, .int .i64 b, .func (.func 174) #[] #[], ud, ud, ud, ud, .int .i64 i, .int .i64 (IntKind.wrap .i64 (j - 1)), ud, ud, ud, ud, ud, ud, ud, ud, ud, ud, ud, ud, ud, ud, ud, ud, ud, ud, ud, ud, ud, ud, ud, ud, ud, ud, ud, ud, ud, ud, ud, ud, ud, ud, ud, ud, ud, ud, ud, ud, ud, ud, ud] H3) (R (.exit 2) [.slice data_a data_n data_e, .int .i64 a, .int .i64 b, .func (.func 174) #[] #[], ud, ud, ud, ud, .int .i64 i, ud, ud, ud, ud, ud, ud, ud, ud, ud, ud, ud, ud, ud, ud, ud, ud, ud, ud, ud, ud, ud, ud, ud, ud, ud, ud, ud, ud, ud, ud, ud, ud, ud, ud, ud, ud, ud, ud, ud, ud, ud, ud, ud, ud] H1)) (R (.exit 2) [.slice data_a data_n data_e, .int .i64 a, .int .i64 b, .func (.func 174) #[] #[], ud, ud, ud, ud, .int .i64 i, ud, ud, ud, ud, ud, ud, ud, ud, ud, ud, ud, ud, ud, ud, ud, ud, ud, ud, ud, ud, ud, ud, ud, ud, ud, ud, ud, ud, ud, ud, ud, ud, ud, ud, ud, ud, ud, ud, ud, ud, ud, ud, ud, ud] H)) := by kernel_rfl
def slices_insertionSortCmpFunc_float32_I2 (a : Int) (b : Int) (data_a : Option Addr) (data_e : Nat) (data_n : Nat) (i : Int) (Inv : Nat → Int → AHeap → Prop) : Nat → List Value → AHeap → Prop := fun μ tm H => ∃ (j : Int), tm = (slices_insertionSortCmpFunc_float32_P2 a b data_a data_e data_n i j) ∧ Inv μ j H
theorem slices_insertionSortCmpFunc_float32_L2 (a : Int) (b : Int) (data_a : Option Addr) (data_e : Nat) (data_n : Nat) (i : Int) {Q : Post} (Inv : Nat → Int → AHeap → Prop) (ν : Nat) (j : Int)  (H : AHeap) (h0 : Inv ν j H)
    (hs : ∀ (μ : Nat) (j : Int)  (H : AHeap), Inv μ j H → exL Try.prog E_slices_insertionSortCmpFunc_float32 (cl (cl (cr (cl (cl (cr (cl (cl (cr (bodyC Try.f226)))))))))) 783 0 [(2, 271), (1, 271), (0, 0)] (slices_insertionSortCmpFunc_float32_P2 a b data_a data_e data_n i j) H (loopQ (slices_insertionSortCmpFunc_float32_I2 a b data_a data_e data_n i Inv) μ Q)) : loopK (exL Try.prog E_slices_insertionSortCmpFunc_float32 (cl (cl (cr (cl (cl (cr (cl (cl (cr (bodyC Try.f226)))))))))) 783 0 [(2, 271), (1, 271), (0, 0)]) (slices_insertionSortCmpFunc_float32_P2 a b data_a data_e data_n i j) H Q :=
  ⟨slices_insertionSortCmpFunc_float32_I2 a b data_a data_e data_n i Inv, ν, ⟨j, rfl, h0⟩, fun μ tm H h => by obtain ⟨j, rfl, hI⟩ := h; exact hs μ j  H hI⟩
theorem slices_insertionSortCmpFunc_float32_n2 {a : Int} {b : Int} {data_a : Option Addr} {data_e : Nat} {data_n : Nat} {i : Int} {Q : Post} {Inv : Nat → Int → AHeap → Prop} {μ : Nat} (μ' : Nat) {j : Int}  {H : AHeap} (hm : μ' < μ) (hI : Inv μ' j H) : loopQ (slices_insertionSortCmpFunc_float32_I2 a b data_a data_e data_n i Inv) μ Q .normal (slices_insertionSortCmpFunc_float32_P2 a b data_a data_e data_n i j) H := ⟨μ', hm, j, rfl, hI⟩
theorem slices_insertionSortCmpFunc_float32_x2_2 (a : Int) (b : Int) (data_a : Option Addr) (data_e : Nat) (data_n : Nat) (i : Int) (H : AHeap)  (R : Post) {I : Nat → List Value → AHeap → Prop} {μ : Nat} : loopQ I μ (blockQ 2 (blockQ 1 (seqQ (exL Try.prog E_slices_insertionSortCmpFunc_float32 (cr (cr (cl (cl (cr (bodyC Try.f226)))))) 271 0 [(0, 0)]) (R)))) (.exit 2) [.slice data_a data_n data_e, .int .i64 a, .int .i64 b, .func (.func 174) #[] #[], ud, ud, ud, ud, .int .i64 i, ud, ud, ud, ud, ud, ud, ud, ud, ud, ud, ud, ud, ud, ud, ud, ud, ud, ud, ud, ud, ud, ud, ud, ud, ud, ud, ud, ud, ud, ud, ud, ud, ud, ud, ud, ud, ud, ud, ud, ud, ud, ud, ud, ud] H =
  (R .normal [.slice data_a data_n data_e, .int .i64 a, .int .i64 b, .func (.func 174) #[] #[], ud, ud, ud, ud, .int .i64 (IntKind.wrap .i64 (i + 1)), ud, ud, ud, ud, ud, ud, ud, ud, ud, ud, ud, ud, ud, ud, ud, ud, ud, ud, ud, ud, ud, ud, ud, ud, ud, ud, ud, ud, ud, ud, ud, ud, ud, ud, ud, ud, ud, ud, ud, ud, ud, ud, ud, ud] H) := by kernel_rfl
theorem E_slices_insertionSortCmpFunc_float32_ok : ∀ g, FnOk Try.prog g (E_slices_insertionSortCmpFunc_float32 g) := FnOk.envOf (by
  intro x hx
  simp only [List.mem_cons, List.not_mem_nil, or_false] at hx
  rcases hx with rfl | rfl
  · exact quietMark_ok _
  · exact cmp_Compare_float32_ok)
theorem ω11 {P : Prop} (h : P := by first | rfl | assumption | omega | (simp; done)) : P := h
theorem ω4 {P : Prop} (h : P := by first | omega | (simp only [List.length_set]; (first | omega | (simp only [List.length_set, List.length_replicate, List.length_append, List.length_cons, List.length_nil, List.length_take, List.length_drop, marks_length]; done) | (simp only [List.length_set, List.length_replicate, List.length_append, List.length_cons, List.length_nil, List.length_take, List.length_drop, marks_length]; omega)))) : P := h
theorem ω6 {P : Prop} (h : P := by first | assumption | omega | (simp only [List.length_set]; first | rfl | assumption | omega)) : P := h
set_option maxHeartbeats 1000000 in
theorem slices_insertionSortCmpFunc_float32_main (data_a : Option Addr) (data_n : Nat) (data_e : Nat) (a : Int) (b : Int) (H : AHeap) (K : Value → AHeap → Prop) (h : T_slices_insertionSortCmpFunc_float32 data_a data_n data_e a b H fun  (H' : AHeap) => K (.tuple #[]) H') : bodyL Try.prog E_slices_insertionSortCmpFunc_float32 Try.f226 [.slice data_a data_n data_e, .int .i64 a, .int .i64 b, .func (.func 174) #[] #[]] H K := by
  rw [slices_insertionSortCmpFunc_float32_vc]
  obtain ⟨lo, l_data, i_data, bd_48, pr0, pr1, pr2, hk⟩ := h
  obtain rfl := i_data.len
  have up_m := i_data.up
  have lo_m := i_data.lo
  have e : (p_slices_insertionSortCmpFunc_float32 l_data a b) = _ := rfl
  have e := e.trans (p_slices_insertionSortCmpFunc_float32_eq l_data a b)
  have g0 := KeepA.refl data_a H
  rw [show IntKind.wrap .i64 (a + 1) = (a + 1) from wrap64 ω3 ω3]
  refine slices_insertionSortCmpFunc_float32_L1 _ _ _ _ _ (fun (μ : Nat) (i : Int) (H_1 : AHeap) => ∃ (y1_1 : List Nat), OwnS fF H_1 lo data_a l_data.length data_e y1_1 ∧ y1_1.length = (l_data).length ∧ H.length ≤ H_1.length ∧ KeepA data_a H H_1 ∧ (a + 1) ≤ i ∧ ((i ≤ b ∨ i ≤ (a + 1))) ∧ b - i ≤ (μ : Int) ∧ p_slices_insertionSortCmpFunc_float32 l_data a b = p_slices_insertionSortCmpFunc_float32_l1 l_data a b (μ + 1) i y1_1) (Int.toNat (b - (a + 1))) _ H ?_ ?_
  · exact ⟨_, i_data, ω11, ω3, g0, ω5, ω5, ω3, e⟩
  · intro μ i  H_1 hI
    obtain ⟨y1_1, r_1, y_2, n_3, g_4, v_5, v_6, hμ, e⟩ := hI
    rw [slices_insertionSortCmpFunc_float32_r1]
    have e := e.trans (p_slices_insertionSortCmpFunc_float32_l1_s l_data a b μ i y1_1)
    have l_7 := g_4.1
    refine Br.intro (fun c_8 => ?_) (fun c_8 => ?_)
    · have e := e.trans (cond_t c_8)
      have c_8' := of_decide_eq_true c_8
      refine slices_insertionSortCmpFunc_float32_L2 _ _ _ _ _ _ (fun (μ2 : Nat) (j : Int) (H_2 : AHeap) => ∃ (y2_1 : List Nat), OwnS fF H_2 lo data_a l_data.length data_e y2_1 ∧ y2_1.length = (l_data).length ∧ H.length ≤ H_2.length ∧ KeepA data_a H H_2 ∧ a ≤ j ∧ j ≤ i ∧ j - a ≤ (μ2 : Int) ∧ p_slices_insertionSortCmpFunc_float32 l_data a b = p_slices_insertionSortCmpFunc_float32_l2 l_data a b i y1_1 (fun (j : Int) (y2_1 : List Nat) => (p_slices_insertionSortCmpFunc_float32_l1 l_data a b μ (i + 1) y2_1)) (μ2 + 1) j y2_1) (Int.toNat (i - a)) _ H_1 ?_ ?_
      · exact ⟨_, r_1, ω11, ω3, g_4, ω5, ω5, ω3, e⟩
      · intro μ2 j  H_2 hI
        obtain ⟨y2_1, r_9, y_10, n_11, g_12, v_13, v_14, hμ, e⟩ := hI
        rw [slices_insertionSortCmpFunc_float32_r2]
        have e := e.trans (p_slices_insertionSortCmpFunc_float32_l2_s l_data a b i y1_1 (fun (j : Int) (y2_1 : List Nat) => (p_slices_insertionSortCmpFunc_float32_l1 l_data a b μ (i + 1) y2_1)) μ2 j y2_1)
        have l_15 := g_12.1
        refine Br.intro (fun c_16 => ?_) (fun c_16 => ?_)
        · have e := e.trans (cond_t c_16)
          have c_16' := of_decide_eq_true c_16
          obtain ⟨b_17, f_18, q_19⟩ := (r_9.isL).pos ω0
          refine ⟨by omega, by omega, b_17, f_18, q_19, ?_⟩
          refine ⟨((y2_1).getD (j : Int).toNat 0), (r_9.isL).rd (Grow.refl _) q_19 ω3 _, ?_⟩
          rw [show IntKind.wrap .i64 (j - 1) = (j - 1) from wrap64 ω3 ω3]
          obtain ⟨b_20, f_21, q_22⟩ := (r_9.isL).pos ω0
          refine ⟨by omega, by omega, b_20, f_21, q_22, ?_⟩
          refine ⟨((y2_1).getD ((j - 1) : Int).toNat 0), (r_9.isL).rd (Grow.refl _) q_22 ω3 _, ?_⟩
          refine T_cmp_Compare_float32_i ?_
          refine Br.intro (fun c_23 => ?_) (fun c_23 => ?_)
          · have e := e.trans (cond_t c_23)
            have c_23' := of_decide_eq_true c_23
            obtain ⟨b_24, f_25, q_26⟩ := (r_9.isL).pos ω0
            refine ⟨by omega, by omega, b_24, f_25, q_26, ?_⟩
            refine ⟨((y2_1).getD ((j - 1) : Int).toNat 0), (r_9.isL).rd (Grow.refl _) q_26 ω3 _, ?_⟩
            obtain ⟨b_27, f_28, q_29⟩ := (r_9.isL).pos ω0
            refine ⟨by omega, by omega, b_27, f_28, q_29, ?_⟩
            refine ⟨((y2_1).getD (j : Int).toNat 0), (r_9.isL).rd (Grow.refl _) q_29 ω3 _, ?_⟩
            obtain ⟨b_30, f_31, q_32⟩ := (r_9.isL).pos ω0
            refine ⟨by omega, by omega, b_30, f_31, q_32, ?_⟩
            refine Lt.setS r_9 q_32 ω4 (fun H_3 hl_33 o_35 k_34 => ?_)
            have l_36 := k_34.1
            have g_37 := g_12.transA k_34
            have l_38 := g_37.1
            obtain ⟨b_39, f_40, q_41⟩ := (o_35.isL).pos ω0
            refine ⟨by omega, by omega, b_39, f_40, q_41, ?_⟩
            refine Lt.setS o_35 q_41 ω4 (fun H_4 hl_42 o_44 k_43 => ?_)
            have l_45 := k_43.1
            have g_46 := g_37.transA k_43
            have l_47 := g_46.1
            refine slices_insertionSortCmpFunc_float32_n2 (μ2 - 1) ω8 ⟨_, o_44, ω6, ω3, g_46, ω1, ω1, ω8, (by rw [show μ2 - 1 + 1 = μ2 from by first | omega]; exact e)⟩
          · have e := e.trans (cond_f c_23)
            have c_23' := of_decide_eq_false c_23
            rw [slices_insertionSortCmpFunc_float32_x2_2]
            rw [show IntKind.wrap .i64 (i + 1) = (i + 1) from wrap64 ω3 ω3]
            refine slices_insertionSortCmpFunc_float32_n1 (μ - 1) ω8 ⟨_, r_9, ω6, ω3, g_12, ω1, ω1, ω8, (by rw [show μ - 1 + 1 = μ from by first | omega]; exact e)⟩
        · have e := e.trans (cond_f c_16)
          have c_16' := of_decide_eq_false c_16
          rw [slices_insertionSortCmpFunc_float32_x2_2]
          rw [show IntKind.wrap .i64 (i + 1) = (i + 1) from wrap64 ω3 ω3]
          refine slices_insertionSortCmpFunc_float32_n1 (μ - 1) ω8 ⟨_, r_9, ω6, ω3, g_12, ω1, ω1, ω8, (by rw [show μ - 1 + 1 = μ from by first | omega]; exact e)⟩
    · have e := e.trans (cond_f c_8)
      have c_8' := of_decide_eq_false c_8
      rw [slices_insertionSortCmpFunc_float32_x1_0]
      rw [e] at hk
      exact hk H_1 g_4 r_1
theorem slices_insertionSortCmpFunc_float32_ok : FnOk Try.prog 226 S_slices_insertionSortCmpFunc_float32 := by
  refine FnOk.body mix_ok E_slices_insertionSortCmpFunc_float32_ok Try.func226 rfl (by kernel_rfl) (by kernel_rfl) ?_ ?_ ?_ ?_ ?_
  · intro args H K K' h hk
    simp only [S_slices_insertionSortCmpFunc_float32] at *
    unfold F_slices_insertionSortCmpFunc_float32 at *
    split at hk
    · obtain ⟨lo, l_data, i_data, bd_48, pr0, pr1, pr2, k⟩ := hk
      exact ⟨lo, l_data, i_data, bd_48, pr0, pr1, pr2, (fun H' gg ow => h _ _ (k H' gg ow))⟩
    · exact hk.elim
  · intro hq; cases hq
  · intro args H K hk
    simp only [S_slices_insertionSortCmpFunc_float32] at *
    unfold F_slices_insertionSortCmpFunc_float32 at *
    split at hk
    · obtain ⟨lo, l_data, i_data, bd_48, pr0, pr1, pr2, k⟩ := hk
      exact (i_data.put _ (by exact slices_insertionSort_len _ _ _ (by omega))).elim fun H1 h => ⟨_, _, k H1 h.1 h.2⟩
    · exact hk.elim
  · intro hq; cases hq
  · have mm := @slices_insertionSortCmpFunc_float32_main
    have ml := fun (args : List Value) (H : AHeap) (K : Value → AHeap → Prop) => bodyL_body (P := Try.prog) (env := E_slices_insertionSortCmpFunc_float32 ) (fn := Try.f226) (args := args) (H := H) (K := K) E_slices_insertionSortCmpFunc_float32_ok 
    revert mm ml
    generalize bodyK Try.prog E_slices_insertionSortCmpFunc_float32 Try.f226 = Q
    generalize bodyL Try.prog E_slices_insertionSortCmpFunc_float32 Try.f226 = QL
    intro mm ml args H K hk
    simp only [S_slices_insertionSortCmpFunc_float32] at *
    unfold F_slices_insertionSortCmpFunc_float32 at *
    split at hk
    · exact ml _ H K (mm _ _ _ _ _ H K hk)
    · exact hk.elim

def p_slices_swapRangeCmpFunc_float32_l1 (l_data : List Nat) (a : Int) (b : Int) (n : Int) : Nat → Int → (List Nat) → (List Nat)
  | 0, _, _ => []
  | μ + 1, i, y1_1 => (bif decide ((i : Int) < n) then (p_slices_swapRangeCmpFunc_float32_l1 l_data a b n μ (i + 1) (((((y1_1).set ((a + i) : Int).toNat ((((y1_1).getD ((b + i) : Int).toNat 0))))).set ((b + i) : Int).toNat ((((y1_1).getD ((a + i) : Int).toNat 0)))))) else y1_1)
def p_slices_swapRangeCmpFunc_float32_l1_s := fun l_data a b n μ i y1_1 => @p_slices_swapRangeCmpFunc_float32_l1.eq_2 l_data a b n i y1_1 μ
def p_slices_swapRangeCmpFunc_float32 (l_data : List Nat) (a : Int) (b : Int) (n : Int) : (List Nat) := (p_slices_swapRangeCmpFunc_float32_l1 l_data a b n (Int.toNat (n - (0 : Int)) + 1) (0 : Int) l_data)
def p_slices_swapRangeCmpFunc_float32_eq := @p_slices_swapRangeCmpFunc_float32.eq_1
def T_slices_swapRangeCmpFunc_float32 (data_a : Option Addr) (data_n : Nat) (data_e : Nat) (a : Int) (b : Int) (n : Int) (H : AHeap) (K : AHeap → Prop) : Prop := ∃ lo : Nat, ∃ (l_data : List Nat), OwnS fF H lo data_a data_n data_e l_data ∧ l_data.length < 1073741824 ∧ 0 ≤ a ∧ a + n ≤ l_data.length ∧ 0 ≤ b ∧ b + n ≤ l_data.length ∧ n < 1073741824 ∧ ((∀ H' : AHeap, KeepA data_a H H' → OwnS fF H' lo data_a data_n data_e (p_slices_swapRangeCmpFunc_float32 l_data a b n) → K  H'))
theorem T_slices_swapRangeCmpFunc_float32_i {data_a : Option Addr} {data_n : Nat} {data_e : Nat} {a : Int} {b : Int} {n : Int} {H : AHeap} {K : AHeap → Prop} (h : ∃ lo : Nat, ∃ (l_data : List Nat), OwnS fF H lo data_a data_n data_e l_data ∧ l_data.length < 1073741824 ∧ 0 ≤ a ∧ a + n ≤ l_data.length ∧ 0 ≤ b ∧ b + n ≤ l_data.length ∧ n < 1073741824 ∧ ((∀ H' : AHeap, KeepA data_a H H' → OwnS fF H' lo data_a data_n data_e (p_slices_swapRangeCmpFunc_float32 l_data a b n) → K  H'))) : T_slices_swapRangeCmpFunc_float32 data_a data_n data_e a b n H K := h
theorem slices_swapRange_loop (l : List Nat) (a b n : Int) : ∀ (μ : Nat) (k : Nat) (i : Int) (y : List Nat), n - i ≤ μ → 0 ≤ a → 0 ≤ b → 0 ≤ i → i ≤ n → (k : Int) = n - i →
    p_slices_swapRangeCmpFunc_float32_l1 l a b n (μ + 1) i y = So.swR k y (a + i).toNat (b + i).toNat := by
  intro μ
  induction μ with
  | zero =>
    intro k i y h1 h2 h3 h4 h5 hk
    rw [p_slices_swapRangeCmpFunc_float32_l1_s, decide_eq_false ω3, cond_false, show k = 0 by omega]; rfl
  | succ μ ih =>
    intro k i y h1 h2 h3 h4 h5 hk
    rw [p_slices_swapRangeCmpFunc_float32_l1_s]
    by_cases h : i < n
    · rw [decide_eq_true h, cond_true]
      obtain ⟨k, rfl⟩ : ∃ k', k = k' + 1 := ⟨k - 1, by omega⟩
      have := ih k (i + 1) (So.sw y (a + i).toNat (b + i).toNat) ω3 h2 h3 ω3 ω3 ω3
      rw [show (a + (i + 1)).toNat = (a + i).toNat + 1 by omega, show (b + (i + 1)).toNat = (b + i).toNat + 1 by omega] at this
      exact this
    · rw [decide_eq_false h, cond_false, show k = 0 by omega]; rfl
theorem slices_swapRange_eq (l : List Nat) (a b n : Int) (ha : 0 ≤ a) (hb : 0 ≤ b) : p_slices_swapRangeCmpFunc_float32 l a b n = So.swR n.toNat l a.toNat b.toNat := by
  rw [p_slices_swapRangeCmpFunc_float32_eq]
  by_cases hn : 0 ≤ n
  · have := slices_swapRange_loop l a b n (Int.toNat (n - 0)) n.toNat 0 l ω3 ha hb ω3 hn ω3
    rw [show (a + 0).toNat = a.toNat by omega, show (b + 0).toNat = b.toNat by omega] at this
    exact this
  · rw [p_slices_swapRangeCmpFunc_float32_l1_s, decide_eq_false ω3, cond_false, show n.toNat = 0 by omega]; rfl
theorem slices_swapRange_len (l : List Nat) (a b n : Int) (ha : 0 ≤ a) (hb : 0 ≤ b) : (p_slices_swapRangeCmpFunc_float32 l a b n).length = l.length := by
  rw [slices_swapRange_eq l a b n ha hb, So.swR_length]
/-! slices_swapRangeCmpFunc_float32: function 244 -/
def E_slices_swapRangeCmpFunc_float32 : Env := envOf []
def F_slices_swapRangeCmpFunc_float32 : List Value → AHeap → (Value → AHeap → Prop) → Prop
  | [.slice data_a data_n data_e, .int .i64 a, .int .i64 b, .int .i64 n, .func (.func 174) ⟨[]⟩ ⟨[]⟩], H, K => T_slices_swapRangeCmpFunc_float32 data_a data_n data_e a b n H fun  (H' : AHeap) => K (.tuple #[]) H'
  | _, _, _ => False
def S_slices_swapRangeCmpFunc_float32 : FSpec := { F := F_slices_swapRangeCmpFunc_float32, quiet := false, tame := false }
theorem slices_swapRangeCmpFunc_float32_vc (data_a : Option Addr) (data_n : Nat) (data_e : Nat) (a : Int) (b : Int) (n : Int) (H : AHeap) (K : Value → AHeap → Prop) : bodyL Try.prog E_slices_swapRangeCmpFunc_float32 Try.f244 [.slice data_a data_n data_e, .int .i64 a, .int .i64 b, .int .i64 n, .func (.func 174) #[] #[]] H K =
  (loopK (exL Try.prog E_slices_swapRangeCmpFunc_float32 (cl (cl (cr (bodyC Try.f244)))) 1039 0 [(0, 0)]) [.slice data_a data_n data_e, .int .i64 a, .int .i64 b, .int .i64 n, ud, ud, ud, ud, ud, ud, .int .i64 0, ud, ud, ud, ud, ud, ud, ud, ud, ud, ud, ud, ud, ud, ud, ud, ud, ud, ud, ud, ud, ud, ud, ud, ud, ud, ud, ud] H (blockQ 0 (retK Try.prog Try.f244 K))) := by kernel_rfl
abbrev slices_swapRangeCmpFunc_float32_P1 (a : Int) (b : Int) (data_a : Option Addr) (data_e : Nat) (data_n : Nat) (n : Int) (i : Int)  : List Value := [.slice data_a data_n data_e, .int .i64 a, .int .i64 b, .int .i64 n, ud, ud, ud, ud, ud, ud, .int .i64 i, ud, ud, ud, ud, ud, ud, ud, ud, ud, ud, ud, ud, ud, ud, ud, ud, ud, ud, ud, ud, ud, ud, ud, ud, ud, ud, ud]
theorem slices_swapRangeCmpFunc_float32_r1 (a : Int) (b : Int) (data_a : Option Addr) (data_e : Nat) (data_n : Nat) (n : Int) (i : Int)  (H : AHeap) (R : Post) : exL Try.prog E_slices_swapRangeCmpFunc_float32 (cl (cl (cr (bodyC Try.f244)))) 1039 0 [(0, 0)] (slices_swapRangeCmpFunc_float32_P1 a b data_a data_e data_n n i) H R =
  (Br (decide ((i : Int) < n)) ((0 : Int) ≤ IntKind.wrap .i64 (b + i) ∧ IntKind.wrap .i64 (b + i) < (data_n : Int) ∧ ∃ b1 f1, (data_a : Option Addr) = some ⟨b1, f1, none⟩ ∧ ∃ x1 : Nat,  rdC H b1 (f1 + (IntKind.wrap .i64 (b + i) : Int).toNat * 1) = some (.float .f32 x1) ∧ (0 : Int) ≤ IntKind.wrap .i64 (a + i) ∧ IntKind.wrap .i64 (a + i) < (data_n : Int) ∧ ∃ b2 f2, (data_a : Option Addr) = some ⟨b2, f2, none⟩ ∧ ∃ x2 : Nat,  rdC H b2 (f2 + (IntKind.wrap .i64 (a + i) : Int).toNat * 1) = some (.float .f32 x2) ∧ (0 : Int) ≤ IntKind.wrap .i64 (a + i) ∧ IntKind.wrap .i64 (a + i) < (data_n : Int) ∧ ∃ b3 f3, (data_a : Option Addr) = some ⟨b3, f3, none⟩ ∧ isOwn H b3 ∧ (∃ l, rdN H b3 (f3 + (IntKind.wrap .i64 (a + i) : Int).toNat * 1) 1 = some l) ∧ Lt (setC H b3 (f3 + (IntKind.wrap .i64 (a + i) : Int).toNat * 1) (.float .f32 x1)) fun H1 => (0 : Int) ≤ IntKind.wrap .i64 (b + i) ∧ IntKind.wrap .i64 (b + i) < (data_n : Int) ∧ ∃ b4 f4, (data_a : Option Addr) = some ⟨b4, f4, none⟩ ∧ isOwn H1 b4 ∧ (∃ l, rdN H1 b4 (f4 + (IntKind.wrap .i64 (b + i) : Int).toNat * 1) 1 = some l) ∧ Lt (setC H1 b4 (f4 + (IntKind.wrap .i64 (b + i) : Int).toNat * 1) (.float .f32 x2)) fun H2 => R .normal [.slice data_a data_n data_e, .int .i64 a, .int .i64 b, .int .i64 n, ud, ud, ud, ud, ud, ud, .int .i64 (IntKind.wrap .i64 (i + 1)), ud, ud, ud, ud, ud, ud, ud, ud, ud, ud, ud, ud, ud, ud, ud, ud, ud, ud, ud, ud, ud, ud, ud, ud, ud, ud, ud] H2) (R (.exit 0) [ud, ud, ud, ud, ud, ud, ud, ud, ud, ud, ud, ud, ud, ud, ud, ud, ud, ud, ud, ud, ud, ud, ud, ud, ud, ud, ud, ud, ud, ud, ud, ud, ud, ud, ud, ud, ud, ud] H)) := by kernel_rfl
def slices_swapRangeCmpFunc_float32_I1 (a : Int) (b : Int) (data_a : Option Addr) (data_e : Nat) (data_n : Nat) (n : Int) (Inv : Nat → Int → AHeap → Prop) : Nat → List Value → AHeap → Prop := fun μ tm H => ∃ (i : Int), tm = (slices_swapRangeCmpFunc_float32_P1 a b data_a data_e data_n n i) ∧ Inv μ i H
theorem slices_swapRangeCmpFunc_float32_L1 (a : Int) (b : Int) (data_a : Option Addr) (data_e : Nat) (data_n : Nat) (n : Int) {Q : Post} (Inv : Nat → Int → AHeap → Prop) (ν : Nat) (i : Int)  (H : AHeap) (h0 : Inv ν i H)
    (hs : ∀ (μ : Nat) (i : Int)  (H : AHeap), Inv μ i H → exL Try.prog E_slices_swapRangeCmpFunc_float32 (cl (cl (cr (bodyC Try.f244)))) 1039 0 [(0, 0)] (slices_swapRangeCmpFunc_float32_P1 a b data_a data_e data_n n i) H (loopQ (slices_swapRangeCmpFunc_float32_I1 a b data_a data_e data_n n Inv) μ Q)) : loopK (exL Try.prog E_slices_swapRangeCmpFunc_float32 (cl (cl (cr (bodyC Try.f244)))) 1039 0 [(0, 0)]) (slices_swapRangeCmpFunc_float32_P1 a b data_a data_e data_n n i) H Q :=
  ⟨slices_swapRangeCmpFunc_float32_I1 a b data_a data_e data_n n Inv, ν, ⟨i, rfl, h0⟩, fun μ tm H h => by obtain ⟨i, rfl, hI⟩ := h; exact hs μ i  H hI⟩
theorem slices_swapRangeCmpFunc_float32_n1 {a : Int} {b : Int} {data_a : Option Addr} {data_e : Nat} {data_n : Nat} {n : Int} {Q : Post} {Inv : Nat → Int → AHeap → Prop} {μ : Nat} (μ' : Nat) {i : Int}  {H : AHeap} (hm : μ' < μ) (hI : Inv μ' i H) : loopQ (slices_swapRangeCmpFunc_float32_I1 a b data_a data_e data_n n Inv) μ Q .normal (slices_swapRangeCmpFunc_float32_P1 a b data_a data_e data_n n i) H := ⟨μ', hm, i, rfl, hI⟩
theorem slices_swapRangeCmpFunc_float32_x1_0  (H : AHeap) (K : Value → AHeap → Prop)  {I : Nat → List Value → AHeap → Prop} {μ : Nat} : loopQ I μ (blockQ 0 (retK Try.prog Try.f244 K)) (.exit 0) [ud, ud, ud, ud, ud, ud, ud, ud, ud, ud, ud, ud, ud, ud, ud, ud, ud, ud, ud, ud, ud, ud, ud, ud, ud, ud, ud, ud, ud, ud, ud, ud, ud, ud, ud, ud, ud, ud] H =
  (K (.tuple #[]) H) := by kernel_rfl
theorem E_slices_swapRangeCmpFunc_float32_ok : ∀ g, FnOk Try.prog g (E_slices_swapRangeCmpFunc_float32 g) := FnOk.envOf (by
  intro x hx; cases hx)
set_option maxHeartbeats 1000000 in
theorem slices_swapRangeCmpFunc_float32_main (data_a : Option Addr) (data_n : Nat) (data_e : Nat) (a : Int) (b : Int) (n : Int) (H : AHeap) (K : Value → AHeap → Prop) (h : T_slices_swapRangeCmpFunc_float32 data_a data_n data_e a b n H fun  (H' : AHeap) => K (.tuple #[]) H') : bodyL Try.prog E_slices_swapRangeCmpFunc_float32 Try.f244 [.slice data_a data_n data_e, .int .i64 a, .int .i64 b, .int .i64 n, .func (.func 174) #[] #[]] H K := by
  rw [slices_swapRangeCmpFunc_float32_vc]
  obtain ⟨lo, l_data, i_data, bd_33, pr0, pr1, pr2, pr3, pr4, hk⟩ := h
  obtain rfl := i_data.len
  have up_m := i_data.up
  have lo_m := i_data.lo
  have e : (p_slices_swapRangeCmpFunc_float32 l_data a b n) = _ := rfl
  have e := e.trans (p_slices_swapRangeCmpFunc_float32_eq l_data a b n)
  have g0 := KeepA.refl data_a H
  refine slices_swapRangeCmpFunc_float32_L1 _ _ _ _ _ _ (fun (μ : Nat) (i : Int) (H_1 : AHeap) => ∃ (y1_1 : List Nat), OwnS fF H_1 lo data_a l_data.length data_e y1_1 ∧ y1_1.length = (l_data).length ∧ H.length ≤ H_1.length ∧ KeepA data_a H H_1 ∧ (0 : Int) ≤ i ∧ ((i ≤ n ∨ i ≤ (0 : Int))) ∧ n - i ≤ (μ : Int) ∧ p_slices_swapRangeCmpFunc_float32 l_data a b n = p_slices_swapRangeCmpFunc_float32_l1 l_data a b n (μ + 1) i y1_1) (Int.toNat (n - (0 : Int))) _ H ?_ ?_
  · exact ⟨_, i_data, ω11, ω3, g0, ω5, ω5, ω3, e⟩
  · intro μ i  H_1 hI
    obtain ⟨y1_1, r_1, y_2, n_3, g_4, v_5, v_6, hμ, e⟩ := hI
    rw [slices_swapRangeCmpFunc_float32_r1]
    have e := e.trans (p_slices_swapRangeCmpFunc_float32_l1_s l_data a b n μ i y1_1)
    have l_7 := g_4.1
    refine Br.intro (fun c_8 => ?_) (fun c_8 => ?_)
    · have e := e.trans (cond_t c_8)
      have c_8' := of_decide_eq_true c_8
      rw [show IntKind.wrap .i64 (a + i) = (a + i) from wrap64 ω3 ω3]
      rw [show IntKind.wrap .i64 (b + i) = (b + i) from wrap64 ω3 ω3]
      obtain ⟨b_9, f_10, q_11⟩ := (r_1.isL).pos ω0
      refine ⟨by omega, by omega, b_9, f_10, q_11, ?_⟩
      refine ⟨((y1_1).getD ((b + i) : Int).toNat 0), (r_1.isL).rd (Grow.refl _) q_11 ω3 _, ?_⟩
      obtain ⟨b_12, f_13, q_14⟩ := (r_1.isL).pos ω0
      refine ⟨by omega, by omega, b_12, f_13, q_14, ?_⟩
      refine ⟨((y1_1).getD ((a + i) : Int).toNat 0), (r_1.isL).rd (Grow.refl _) q_14 ω3 _, ?_⟩
      obtain ⟨b_15, f_16, q_17⟩ := (r_1.isL).pos ω0
      refine ⟨by omega, by omega, b_15, f_16, q_17, ?_⟩
      refine Lt.setS r_1 q_17 ω4 (fun H_2 hl_18 o_20 k_19 => ?_)
      have l_21 := k_19.1
      have g_22 := g_4.transA k_19
      have l_23 := g_22.1
      obtain ⟨b_24, f_25, q_26⟩ := (o_20.isL).pos ω0
      refine ⟨by omega, by omega, b_24, f_25, q_26, ?_⟩
      refine Lt.setS o_20 q_26 ω4 (fun H_3 hl_27 o_29 k_28 => ?_)
      have l_30 := k_28.1
      have g_31 := g_22.transA k_28
      have l_32 := g_31.1
      rw [show IntKind.wrap .i64 (i + 1) = (i + 1) from wrap64 ω3 ω3]
      refine slices_swapRangeCmpFunc_float32_n1 (μ - 1) ω8 ⟨_, o_29, ω6, ω3, g_31, ω1, ω1, ω8, (by rw [show μ - 1 + 1 = μ from by first | omega]; exact e)⟩
    · have e := e.trans (cond_f c_8)
      have c_8' := of_decide_eq_false c_8
      rw [slices_swapRangeCmpFunc_float32_x1_0]
      rw [e] at hk
      exact hk H_1 g_4 r_1
theorem slices_swapRangeCmpFunc_float32_ok : FnOk Try.prog 244 S_slices_swapRangeCmpFunc_float32 := by
  refine FnOk.body mix_ok E_slices_swapRangeCmpFunc_float32_ok Try.func244 rfl (by kernel_rfl) (by kernel_rfl) ?_ ?_ ?_ ?_ ?_
  · intro args H K K' h hk
    simp only [S_slices_swapRangeCmpFunc_float32] at *
    unfold F_slices_swapRangeCmpFunc_float32 at *
    split at hk
    · obtain ⟨lo, l_data, i_data, bd_33, pr0, pr1, pr2, pr3, pr4, k⟩ := hk
      exact ⟨lo, l_data, i_data, bd_33, pr0, pr1, pr2, pr3, pr4, (fun H' gg ow => h _ _ (k H' gg ow))⟩
    · exact hk.elim
  · intro hq; cases hq
  · intro args H K hk
    simp only [S_slices_swapRangeCmpFunc_float32] at *
    unfold F_slices_swapRangeCmpFunc_float32 at *
    split at hk
    · obtain ⟨lo, l_data, i_data, bd_33, pr0, pr1, pr2, pr3, pr4, k⟩ := hk
      exact (i_data.put _ (by exact slices_swapRange_len _ _ _ _ (by omega) (by omega))).elim fun H1 h => ⟨_, _, k H1 h.1 h.2⟩
    · exact hk.elim
  · intro hq; cases hq
  · have mm := @slices_swapRangeCmpFunc_float32_main
    have ml := fun (args : List Value) (H : AHeap) (K : Value → AHeap → Prop) => bodyL_body (P := Try.prog) (env := E_slices_swapRangeCmpFunc_float32 ) (fn := Try.f244) (args := args) (H := H) (K := K) E_slices_swapRangeCmpFunc_float32_ok 
    revert mm ml
    generalize bodyK Try.prog E_slices_swapRangeCmpFunc_float32 Try.f244 = Q
    generalize bodyL Try.prog E_slices_swapRangeCmpFunc_float32 Try.f244 = QL
    intro mm ml args H K hk
    simp only [S_slices_swapRangeCmpFunc_float32] at *
    unfold F_slices_swapRangeCmpFunc_float32 at *
    split at hk
    · exact ml _ H K (mm _ _ _ _ _ _ H K hk)
    · exact hk.elim

def p_slices_rotateCmpFunc_float32_l1 (l_data : List Nat) (a : Int) (m : Int) (b : Int) : Nat → Int → Int → (List Nat) → (List Nat)
  | 0, _, _, _ => []
  | μ + 1, i, j, y1_1 => (bif (i : Int) != j then (bif decide ((j : Int) < i) then (p_slices_rotateCmpFunc_float32_l1 l_data a m b μ (i - j) j ((p_slices_swapRangeCmpFunc_float32 y1_1 (m - i) m j))) else (p_slices_rotateCmpFunc_float32_l1 l_data a m b μ i (j - i) ((p_slices_swapRangeCmpFunc_float32 y1_1 (m - i) (((m + j) - i)) i)))) else (p_slices_swapRangeCmpFunc_float32 y1_1 (m - i) m i))
def p_slices_rotateCmpFunc_float32_l1_s := fun l_data a m b μ i j y1_1 => @p_slices_rotateCmpFunc_float32_l1.eq_2 l_data a m b i j y1_1 μ
def p_slices_rotateCmpFunc_float32 (l_data : List Nat) (a : Int) (m : Int) (b : Int) : (List Nat) := (p_slices_rotateCmpFunc_float32_l1 l_data a m b (Int.toNat ((m - a) + (b - m)) + 1) (m - a) (b - m) l_data)
def p_slices_rotateCmpFunc_float32_eq := @p_slices_rotateCmpFunc_float32.eq_1
def T_slices_rotateCmpFunc_float32 (data_a : Option Addr) (data_n : Nat) (data_e : Nat) (a : Int) (m : Int) (b : Int) (H : AHeap) (K : AHeap → Prop) : Prop := ∃ lo : Nat, ∃ (l_data : List Nat), OwnS fF H lo data_a data_n data_e l_data ∧ l_data.length < 1073741824 ∧ 0 ≤ a ∧ a < m ∧ m < b ∧ b ≤ l_data.length ∧ ((∀ H' : AHeap, KeepA data_a H H' → OwnS fF H' lo data_a data_n data_e (p_slices_rotateCmpFunc_float32 l_data a m b) → K  H'))
theorem T_slices_rotateCmpFunc_float32_i {data_a : Option Addr} {data_n : Nat} {data_e : Nat} {a : Int} {m : Int} {b : Int} {H : AHeap} {K : AHeap → Prop} (h : ∃ lo : Nat, ∃ (l_data : List Nat), OwnS fF H lo data_a data_n data_e l_data ∧ l_data.length < 1073741824 ∧ 0 ≤ a ∧ a < m ∧ m < b ∧ b ≤ l_data.length ∧ ((∀ H' : AHeap, KeepA data_a H H' → OwnS fF H' lo data_a data_n data_e (p_slices_rotateCmpFunc_float32 l_data a m b) → K  H'))) : T_slices_rotateCmpFunc_float32 data_a data_n data_e a m b H K := h
theorem slices_rotate_loop (l : List Nat) (a m b : Int) (ha : 0 ≤ a) : ∀ (μ : Nat) (i j : Int) (y : List Nat), i + j ≤ μ → 0 < i → 0 < j → i ≤ m - a →
    p_slices_rotateCmpFunc_float32_l1 l a m b (μ + 1) i j y = So.rot (μ + 1) y m.toNat i.toNat j.toNat := by
  intro μ
  induction μ with
  | zero => intro i j y h1 h2 h3; omega
  | succ μ ih =>
    intro i j y h1 h2 h3 h4
    rw [p_slices_rotateCmpFunc_float32_l1_s]
    unfold So.rot
    by_cases hij : i = j
    · subst hij
      rw [if_pos rfl, show ((i : Int) != i) = false by simp, cond_false, slices_swapRange_eq _ _ _ _ ω3 ω3]
      rw [show (m - i).toNat = m.toNat - i.toNat by omega]
    · have hne : ((i : Int) != j) = true := by simpa using hij
      rw [hne, cond_true, if_neg ω3]
      by_cases hlt : j < i
      · rw [decide_eq_true hlt, cond_true, if_pos ω3, slices_swapRange_eq _ _ _ _ ω3 ω3, ih _ _ _ ω3 ω3 h3 ω3]
        rw [show (m - i).toNat = m.toNat - i.toNat by omega, show (i - j).toNat = i.toNat - j.toNat by omega]
      · rw [decide_eq_false hlt, cond_false, if_neg ω3, slices_swapRange_eq _ _ _ _ ω3 ω3, ih _ _ _ ω3 h2 ω3 h4]
        rw [show (m - i).toNat = m.toNat - i.toNat by omega, show (j - i).toNat = j.toNat - i.toNat by omega, show (m + j - i).toNat = m.toNat + j.toNat - i.toNat by omega]
theorem slices_rotate_eq (l : List Nat) (a m b : Int) (ha : 0 ≤ a) (h1 : a < m) (h2 : m < b) : p_slices_rotateCmpFunc_float32 l a m b = So.rot ((b - a).toNat + 1) l m.toNat (m - a).toNat (b - m).toNat := by
  rw [p_slices_rotateCmpFunc_float32_eq, slices_rotate_loop l a m b ha _ _ _ _ ω3 ω3 ω3 ω3, show (m - a + (b - m)).toNat = (b - a).toNat by omega]
theorem slices_rotate_len (l : List Nat) (a m b : Int) (ha : 0 ≤ a) (h1 : a < m) (h2 : m < b) : (p_slices_rotateCmpFunc_float32 l a m b).length = l.length := by
  rw [slices_rotate_eq l a m b ha h1 h2, So.rot_length]
/-! slices_rotateCmpFunc_float32: function 241 -/
def E_slices_rotateCmpFunc_float32 : Env := envOf [(244, S_slices_swapRangeCmpFunc_float32)]
def F_slices_rotateCmpFunc_float32 : List Value → AHeap → (Value → AHeap → Prop) → Prop
  | [.slice data_a data_n data_e, .int .i64 a, .int .i64 m, .int .i64 b, .func (.func 174) ⟨[]⟩ ⟨[]⟩], H, K => T_slices_rotateCmpFunc_float32 data_a data_n data_e a m b H fun  (H' : AHeap) => K (.tuple #[]) H'
  | _, _, _ => False
def S_slices_rotateCmpFunc_float32 : FSpec := { F := F_slices_rotateCmpFunc_float32, quiet := false, tame := false }
theorem slices_rotateCmpFunc_float32_vc (data_a : Option Addr) (data_n : Nat) (data_e : Nat) (a : Int) (m : Int) (b : Int) (H : AHeap) (K : Value → AHeap → Prop) : bodyL Try.prog E_slices_rotateCmpFunc_float32 Try.f241 [.slice data_a data_n data_e, .int .i64 a, .int .i64 m, .int .i64 b, .func (.func 174) #[] #[]] H K =
  (loopK (exL Try.prog E_slices_rotateCmpFunc_float32 (cl (cl (cl (cr (cr (bodyC Try.f241)))))) 3093 0 [(0, 1045)]) [.slice data_a data_n data_e, ud, .int .i64 m, ud, .func (.func 174) #[] #[], ud, ud, ud, ud, ud, .int .i64 (IntKind.wrap .i64 (m - a)), .int .i64 (IntKind.wrap .i64 (b - m)), ud, ud, ud, ud, ud, ud, ud, ud, ud, ud, ud, ud, ud, ud, ud, ud, ud, ud, ud, ud, ud, ud, ud, ud, ud, ud, ud, ud, ud, ud, ud, ud, ud, ud, ud, ud, ud, ud, ud, ud, ud, ud, ud, ud, ud, ud] H (blockQ 0 (seqQ (exL Try.prog E_slices_rotateCmpFunc_float32 (cr (cr (cr (bodyC Try.f241)))) 0 0 []) (retK Try.prog Try.f241 K)))) := by kernel_rfl
abbrev slices_rotateCmpFunc_float32_P1 (data_a : Option Addr) (data_e : Nat) (data_n : Nat) (m : Int) (i : Int) (j : Int)  : List Value := [.slice data_a data_n data_e, ud, .int .i64 m, ud, .func (.func 174) #[] #[], ud, ud, ud, ud, ud, .int .i64 i, .int .i64 j, ud, ud, ud, ud, ud, ud, ud, ud, ud, ud, ud, ud, ud, ud, ud, ud, ud, ud, ud, ud, ud, ud, ud, ud, ud, ud, ud, ud, ud, ud, ud, ud, ud, ud, ud, ud, ud, ud, ud, ud, ud, ud, ud, ud, ud, ud]
theorem slices_rotateCmpFunc_float32_r1 (data_a : Option Addr) (data_e : Nat) (data_n : Nat) (m : Int) (i : Int) (j : Int)  (H : AHeap) (R : Post) : exL Try.prog E_slices_rotateCmpFunc_float32 (cl (cl (cl (cr (cr (bodyC Try.f241)))))) 3093 0 [(0, 1045)] (slices_rotateCmpFunc_float32_P1 data_a data_e data_n m i j) H R =
  (Br ((i : Int) != j) (Br (decide ((j : Int) < i)) (T_slices_swapRangeCmpFunc_float32 data_a data_n data_e (IntKind.wrap .i64 (m - i)) m j H fun  (H1 : AHeap) => R .normal [.slice data_a data_n data_e, ud, .int .i64 m, ud, .func (.func 174) #[] #[], ud, ud, ud, ud, ud, .int .i64 (IntKind.wrap .i64 (i - j)), .int .i64 j, ud, ud, ud, ud, ud, ud, ud, ud, ud, ud, ud, ud, ud, ud, ud, ud, ud, ud, ud, ud, ud, ud, ud, ud, ud, ud, ud, ud, ud, ud, ud, ud, ud, ud, ud, ud, ud, ud, ud, ud, ud, ud, ud, ud, ud, ud] H1) (T_slices_swapRangeCmpFunc_float32 data_a data_n data_e (IntKind.wrap .i64 (m - i)) (IntKind.wrap .i64 ((IntKind.wrap .i64 (m + j)) - i)) i H fun  (H2 : AHeap) => R .normal [.slice data_a data_n data_e, ud, .int .i64 m, ud, .func (.func 174) #[] #[], ud, ud, ud, ud, ud, .int .i64 i, .int .i64 (IntKind.wrap .i64 (j - i)), ud, ud, ud, ud, ud, ud, ud, ud, ud, ud, ud, ud, ud, ud, ud, ud, ud, ud, ud, ud, ud, ud, ud, ud, ud, ud, ud, ud, ud, ud, ud, ud, ud, ud, ud, ud, ud, ud, ud, ud, ud, ud, ud, ud, ud, ud] H2)) (R (.exit 0) [.slice data_a data_n data_e, ud, .int .i64 m, ud, .func (.func 174) #[] #[], ud, ud, ud, ud, ud, .int .i64 i, ud, ud, ud, ud, ud, ud, ud, ud, ud, ud, ud, ud, ud, ud, ud, ud, ud, ud, ud, ud, ud, ud, ud, ud, ud, ud, ud, ud, ud, ud, ud, ud, ud, ud, ud, ud, ud, ud, ud, ud, ud, ud, ud, ud, ud, ud, ud] H)) := by kernel_rfl
def slices_rotateCmpFunc_float32_I1 (data_a : Option Addr) (data_e : Nat) (data_n : Nat) (m : Int) (Inv : Nat → Int → Int → AHeap → Prop) : Nat → List Value → AHeap → Prop := fun μ tm H => ∃ (i : Int), ∃ (j : Int), tm = (slices_rotateCmpFunc_float32_P1 data_a data_e data_n m i j) ∧ Inv μ i j H
theorem slices_rotateCmpFunc_float32_L1 (data_a : Option Addr) (data_e : Nat) (data_n : Nat) (m : Int) {Q : Post} (Inv : Nat → Int → Int → AHeap → Prop) (ν : Nat) (i : Int) (j : Int)  (H : AHeap) (h0 : Inv ν i j H)
    (hs : ∀ (μ : Nat) (i : Int) (j : Int)  (H : AHeap), Inv μ i j H → exL Try.prog E_slices_rotateCmpFunc_float32 (cl (cl (cl (cr (cr (bodyC Try.f241)))))) 3093 0 [(0, 1045)] (slices_rotateCmpFunc_float32_P1 data_a data_e data_n m i j) H (loopQ (slices_rotateCmpFunc_float32_I1 data_a data_e data_n m Inv) μ Q)) : loopK (exL Try.prog E_slices_rotateCmpFunc_float32 (cl (cl (cl (cr (cr (bodyC Try.f241)))))) 3093 0 [(0, 1045)]) (slices_rotateCmpFunc_float32_P1 data_a data_e data_n m i j) H Q :=
  ⟨slices_rotateCmpFunc_float32_I1 data_a data_e data_n m Inv, ν, ⟨i, j, rfl, h0⟩, fun μ tm H h => by obtain ⟨i, j, rfl, hI⟩ := h; exact hs μ i j  H hI⟩
theorem slices_rotateCmpFunc_float32_n1 {data_a : Option Addr} {data_e : Nat} {data_n : Nat} {m : Int} {Q : Post} {Inv : Nat → Int → Int → AHeap → Prop} {μ : Nat} (μ' : Nat) {i : Int} {j : Int}  {H : AHeap} (hm : μ' < μ) (hI : Inv μ' i j H) : loopQ (slices_rotateCmpFunc_float32_I1 data_a data_e data_n m Inv) μ Q .normal (slices_rotateCmpFunc_float32_P1 data_a data_e data_n m i j) H := ⟨μ', hm, i, j, rfl, hI⟩
theorem slices_rotateCmpFunc_float32_x1_0 (data_a : Option Addr) (data_e : Nat) (data_n : Nat) (m : Int) (i : Int) (H : AHeap) (K : Value → AHeap → Prop)  {I : Nat → List Value → AHeap → Prop} {μ : Nat} : loopQ I μ (blockQ 0 (seqQ (exL Try.prog E_slices_rotateCmpFunc_float32 (cr (cr (cr (bodyC Try.f241)))) 0 0 []) (retK Try.prog Try.f241 K))) (.exit 0) [.slice data_a data_n data_e, ud, .int .i64 m, ud, .func (.func 174) #[] #[], ud, ud, ud, ud, ud, .int .i64 i, ud, ud, ud, ud, ud, ud, ud, ud, ud, ud, ud, ud, ud, ud, ud, ud, ud, ud, ud, ud, ud, ud, ud, ud, ud, ud, ud, ud, ud, ud, ud, ud, ud, ud, ud, ud, ud, ud, ud, ud, ud, ud, ud, ud, ud, ud, ud] H =
  (T_slices_swapRangeCmpFunc_float32 data_a data_n data_e (IntKind.wrap .i64 (m - i)) m i H fun  (H3 : AHeap) => K (.tuple #[]) H3) := by kernel_rfl
theorem E_slices_rotateCmpFunc_float32_ok : ∀ g, FnOk Try.prog g (E_slices_rotateCmpFunc_float32 g) := FnOk.envOf (by
  intro x hx
  simp only [List.mem_cons, List.not_mem_nil, or_false] at hx
  subst hx; exact slices_swapRangeCmpFunc_float32_ok)
theorem ω2 {P : Prop} (h : P := by first | assumption | omega | (simp; omega)) : P := h
set_option maxHeartbeats 1000000 in
theorem slices_rotateCmpFunc_float32_main (data_a : Option Addr) (data_n : Nat) (data_e : Nat) (a : Int) (m : Int) (b : Int) (H : AHeap) (K : Value → AHeap → Prop) (h : T_slices_rotateCmpFunc_float32 data_a data_n data_e a m b H fun  (H' : AHeap) => K (.tuple #[]) H') : bodyL Try.prog E_slices_rotateCmpFunc_float32 Try.f241 [.slice data_a data_n data_e, .int .i64 a, .int .i64 m, .int .i64 b, .func (.func 174) #[] #[]] H K := by
  rw [slices_rotateCmpFunc_float32_vc]
  obtain ⟨lo, l_data, i_data, bd_30, pr0, pr1, pr2, pr3, hk⟩ := h
  obtain rfl := i_data.len
  have up_m := i_data.up
  have lo_m := i_data.lo
  have e : (p_slices_rotateCmpFunc_float32 l_data a m b) = _ := rfl
  have e := e.trans (p_slices_rotateCmpFunc_float32_eq l_data a m b)
  have g0 := KeepA.refl data_a H
  rw [show IntKind.wrap .i64 (m - a) = (m - a) from wrap64 ω3 ω3]
  rw [show IntKind.wrap .i64 (b - m) = (b - m) from wrap64 ω3 ω3]
  refine slices_rotateCmpFunc_float32_L1 _ _ _ _ (fun (μ : Nat) (i : Int) (j : Int) (H_1 : AHeap) => ∃ (y1_1 : List Nat), OwnS fF H_1 lo data_a l_data.length data_e y1_1 ∧ y1_1.length = (l_data).length ∧ H.length ≤ H_1.length ∧ KeepA data_a H H_1 ∧ 0 < i ∧ 0 < j ∧ i ≤ m - a ∧ j ≤ b - m ∧ i + j ≤ (μ : Int) ∧ p_slices_rotateCmpFunc_float32 l_data a m b = p_slices_rotateCmpFunc_float32_l1 l_data a m b (μ + 1) i j y1_1) (Int.toNat ((m - a) + (b - m))) _ _ H ?_ ?_
  · exact ⟨_, i_data, ω11, ω3, g0, ω5, ω5, ω5, ω5, ω3, e⟩
  · intro μ i j  H_1 hI
    obtain ⟨y1_1, r_1, y_2, n_3, g_4, v_5, v_6, v_7, v_8, hμ, e⟩ := hI
    rw [slices_rotateCmpFunc_float32_r1]
    have e := e.trans (p_slices_rotateCmpFunc_float32_l1_s l_data a m b μ i j y1_1)
    have l_9 := g_4.1
    refine Br.intro (fun c_10 => ?_) (fun c_10 => ?_)
    · have e := e.trans (cond_t c_10)
      have c_10' := ine_t c_10
      refine Br.intro (fun c_11 => ?_) (fun c_11 => ?_)
      · have e := e.trans (cond_t c_11)
        have c_11' := of_decide_eq_true c_11
        rw [show IntKind.wrap .i64 (m - i) = (m - i) from wrap64 ω3 ω3]
        refine T_slices_swapRangeCmpFunc_float32_i ⟨_, _, r_1, ω0, ω2, ω2, ω2, ω2, ω2, (fun H_2 k_13 o_14 => ?_)⟩
        have z_12 := slices_swapRange_len y1_1 (m - i) m j ω3 ω3
        have l_15 := k_13.1
        have g_16 := g_4.transA k_13
        have l_17 := g_16.1
        rw [show IntKind.wrap .i64 (i - j) = (i - j) from wrap64 ω3 ω3]
        refine slices_rotateCmpFunc_float32_n1 (μ - 1) ω8 ⟨_, o_14, ω6, ω3, g_16, ω1, ω1, ω1, ω1, ω8, (by rw [show μ - 1 + 1 = μ from by first | omega]; exact e)⟩
      · have e := e.trans (cond_f c_11)
        have c_11' := of_decide_eq_false c_11
        rw [show IntKind.wrap .i64 (m - i) = (m - i) from wrap64 ω3 ω3]
        rw [show IntKind.wrap .i64 (m + j) = (m + j) from wrap64 ω3 ω3]
        rw [show IntKind.wrap .i64 ((m + j) - i) = ((m + j) - i) from wrap64 ω3 ω3]
        refine T_slices_swapRangeCmpFunc_float32_i ⟨_, _, r_1, ω0, ω2, ω2, ω2, ω2, ω2, (fun H_3 k_19 o_20 => ?_)⟩
        have z_18 := slices_swapRange_len y1_1 (m - i) (((m + j) - i)) i ω3 ω3
        have l_21 := k_19.1
        have g_22 := g_4.transA k_19
        have l_23 := g_22.1
        rw [show IntKind.wrap .i64 (j - i) = (j - i) from wrap64 ω3 ω3]
        refine slices_rotateCmpFunc_float32_n1 (μ - 1) ω8 ⟨_, o_20, ω6, ω3, g_22, ω1, ω1, ω1, ω1, ω8, (by rw [show μ - 1 + 1 = μ from by first | omega]; exact e)⟩
    · have e := e.trans (cond_f c_10)
      have c_10' := ine_f c_10
      rw [slices_rotateCmpFunc_float32_x1_0]
      rw [show IntKind.wrap .i64 (m - i) = (m - i) from wrap64 ω3 ω3]
      refine T_slices_swapRangeCmpFunc_float32_i ⟨_, _, r_1, ω0, ω2, ω2, ω2, ω2, ω2, (fun H_4 k_25 o_26 => ?_)⟩
      have z_24 := slices_swapRange_len y1_1 (m - i) m i ω3 ω3
      have l_27 := k_25.1
      have g_28 := g_4.transA k_25
      have l_29 := g_28.1
      rw [e] at hk
      exact hk H_4 g_28 o_26
theorem slices_rotateCmpFunc_float32_ok : FnOk Try.prog 241 S_slices_rotateCmpFunc_float32 := by
  refine FnOk.body mix_ok E_slices_rotateCmpFunc_float32_ok Try.func241 rfl (by kernel_rfl) (by kernel_rfl) ?_ ?_ ?_ ?_ ?_
  · intro args H K K' h hk
    simp only [S_slices_rotateCmpFunc_float32] at *
    unfold F_slices_rotateCmpFunc_float32 at *
    split at hk
    · obtain ⟨lo, l_data, i_data, bd_30, pr0, pr1, pr2, pr3, k⟩ := hk
      exact ⟨lo, l_data, i_data, bd_30, pr0, pr1, pr2, pr3, (fun H' gg ow => h _ _ (k H' gg ow))⟩
    · exact hk.elim
  · intro hq; cases hq
  · intro args H K hk
    simp only [S_slices_rotateCmpFunc_float32] at *
    unfold F_slices_rotateCmpFunc_float32 at *
    split at hk
    · obtain ⟨lo, l_data, i_data, bd_30, pr0, pr1, pr2, pr3, k⟩ := hk
      exact (i_data.put _ (by exact slices_rotate_len _ _ _ _ (by omega) (by omega) (by omega))).elim fun H1 h => ⟨_, _, k H1 h.1 h.2⟩
    · exact hk.elim
  · intro hq; cases hq
  · have mm := @slices_rotateCmpFunc_float32_main
    have ml := fun (args : List Value) (H : AHeap) (K : Value → AHeap → Prop) => bodyL_body (P := Try.prog) (env := E_slices_rotateCmpFunc_float32 ) (fn := Try.f241) (args := args) (H := H) (K := K) E_slices_rotateCmpFunc_float32_ok 
    revert mm ml
    generalize bodyK Try.prog E_slices_rotateCmpFunc_float32 Try.f241 = Q
    generalize bodyL Try.prog E_slices_rotateCmpFunc_float32 Try.f241 = QL
    intro mm ml args H K hk
    simp only [S_slices_rotateCmpFunc_float32] at *
    unfold F_slices_rotateCmpFunc_float32 at *
    split at hk
    · exact ml _ H K (mm _ _ _ _ _ _ H K hk)
    · exact hk.elim
end Go.Proofs.Ytbnplefohfamnaa.Ai
