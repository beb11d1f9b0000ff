/- What functions of the program come to on the abstract machine, and that they do so; printed by a program of mine around proofs of mine. -/
import Derived.Test.YtbnplefohfamnaaProg
import Derived.Test.YtbnplefohfamnaaLv
import Derived.Test.YtbnplefohfamnaaOl
import Derived.Test.YtbnplefohfamnaaRa
import Derived.Test.YtbnplefohfamnaaSo
import Derived.Test.YtbnplefohfamnaaSr
set_option linter.unusedVariables false
set_option linter.unusedSimpArgs false
set_option linter.defProp false
set_option maxRecDepth 100000
namespace Go.Proofs.Ytbnplefohfamnaa.Ai
open Go
attribute [local irreducible] bodyK bodyL
theorem mix_ok : Try.prog.follows .mixedOrders = true := by kernel_rfl

def p_laws_b10Long (l_code : List UInt8) (l_more : List UInt8) : Bool := (bif decide ((1048576 : Int) < (l_code.length : Int)) then true else decide ((1048576 : Int) < (l_more.length : Int)))
def p_laws_b10Long_eq := @p_laws_b10Long.eq_1
def T_laws_b10Long (code_a : Option Addr) (code_n : Nat) (code_e : Nat) (more_a : Option Addr) (more_n : Nat) (more_e : Nat) (H : AHeap) (K : Bool → AHeap → Prop) : Prop := ∃ (l_code : List UInt8), ∃ (l_more : List UInt8), IsL fU H code_a code_n l_code ∧ IsL fU H more_a more_n l_more ∧ K (p_laws_b10Long l_code l_more) H
theorem T_laws_b10Long_i {code_a : Option Addr} {code_n : Nat} {code_e : Nat} {more_a : Option Addr} {more_n : Nat} {more_e : Nat} {H : AHeap} {K : Bool → AHeap → Prop} (h : ∃ (l_code : List UInt8), ∃ (l_more : List UInt8), IsL fU H code_a code_n l_code ∧ IsL fU H more_a more_n l_more ∧ K (p_laws_b10Long l_code l_more) H) : T_laws_b10Long code_a code_n code_e more_a more_n more_e H K := h
theorem laws_b10Long_f {a b : List UInt8} (h : p_laws_b10Long a b = false) : a.length ≤ 1048576 ∧ b.length ≤ 1048576 := by
  rw [p_laws_b10Long_eq] at h
  by_cases h1 : (1048576 : Int) < (a.length : Int)
  · rw [decide_eq_true h1] at h; cases h
  · rw [decide_eq_false h1, cond_false] at h
    have := of_decide_eq_false h; omega
/-! laws_b10Long: function 43 -/
def E_laws_b10Long : Env := envOf []
def F_laws_b10Long : List Value → AHeap → (Value → AHeap → Prop) → Prop
  | [.slice code_a code_n code_e, .slice more_a more_n more_e], H, K => T_laws_b10Long code_a code_n code_e more_a more_n more_e H fun (r1 : Bool) (H' : AHeap) => K (.bool r1) H'
  | _, _, _ => False
def S_laws_b10Long : FSpec := { F := F_laws_b10Long, quiet := true, tame := false }
theorem laws_b10Long_vc (code_a : Option Addr) (code_n : Nat) (code_e : Nat) (more_a : Option Addr) (more_n : Nat) (more_e : Nat) (H : AHeap) (K : Value → AHeap → Prop) : bodyL Try.prog E_laws_b10Long Try.f43 [.slice code_a code_n code_e, .slice more_a more_n more_e] H K =
  (Br (decide ((1048576 : Int) < (code_n : Int))) (K (.bool true) H) (K (.bool (decide ((1048576 : Int) < (more_n : Int)))) H)) := by kernel_rfl
theorem E_laws_b10Long_ok : ∀ g, FnOk Try.prog g (E_laws_b10Long g) := FnOk.envOf (by
  intro x hx; cases hx)
set_option maxHeartbeats 1000000 in
theorem laws_b10Long_main (code_a : Option Addr) (code_n : Nat) (code_e : Nat) (more_a : Option Addr) (more_n : Nat) (more_e : Nat) (H : AHeap) (K : Value → AHeap → Prop) (h : T_laws_b10Long code_a code_n code_e more_a more_n more_e H fun (r1 : Bool) (H' : AHeap) => K (.bool r1) H') : bodyL Try.prog E_laws_b10Long Try.f43 [.slice code_a code_n code_e, .slice more_a more_n more_e] H K := by
  rw [laws_b10Long_vc]
  obtain ⟨l_code, l_more, i_code, i_more, hk⟩ := h
  obtain rfl := i_code.eqn
  obtain rfl := i_more.eqn
  have e : (p_laws_b10Long l_code l_more) = _ := rfl
  have e := e.trans (p_laws_b10Long_eq l_code l_more)
  have g0 := Grow.refl H
  refine Br.intro (fun c_1 => ?_) (fun c_1 => ?_)
  · have e := e.trans (cond_t c_1)
    have c_1' := of_decide_eq_true c_1
    rw [e] at hk
    exact hk
  · have e := e.trans (cond_f c_1)
    have c_1' := of_decide_eq_false c_1
    rw [e] at hk
    exact hk
theorem laws_b10Long_ok : FnOk Try.prog 43 S_laws_b10Long := by
  refine FnOk.body mix_ok E_laws_b10Long_ok Try.func43 rfl (by kernel_rfl) (by kernel_rfl) ?_ ?_ ?_ ?_ ?_
  · intro args H K K' h hk
    simp only [S_laws_b10Long] at *
    unfold F_laws_b10Long at *
    split at hk
    · obtain ⟨l_code, l_more, i_code, i_more, k⟩ := hk
      exact ⟨l_code, l_more, i_code, i_more, h _ _ k⟩
    · exact hk.elim
  · intro _ args H K hk
    simp only [S_laws_b10Long] at *
    unfold F_laws_b10Long at *
    split at hk
    · obtain ⟨l_code, l_more, i_code, i_more, k⟩ := hk
      exact ⟨_, k, fun K' k' => ⟨l_code, l_more, i_code, i_more, k'⟩⟩
    · exact hk.elim
  · intro args H K hk
    simp only [S_laws_b10Long] at *
    unfold F_laws_b10Long at *
    split at hk
    · obtain ⟨l_code, l_more, i_code, i_more, k⟩ := hk
      exact ⟨_, _, k⟩
    · exact hk.elim
  · intro hq; cases hq
  · have mm := @laws_b10Long_main
    have ml := fun (args : List Value) (H : AHeap) (K : Value → AHeap → Prop) => bodyL_body (P := Try.prog) (env := E_laws_b10Long ) (fn := Try.f43) (args := args) (H := H) (K := K) E_laws_b10Long_ok 
    revert mm ml
    generalize bodyK Try.prog E_laws_b10Long Try.f43 = Q
    generalize bodyL Try.prog E_laws_b10Long Try.f43 = QL
    intro mm ml args H K hk
    simp only [S_laws_b10Long] at *
    unfold F_laws_b10Long at *
    split at hk
    · exact ml _ H K (mm _ _ _ _ _ _ H K hk)
    · exact hk.elim

def p_laws_b10At (l_code : List UInt8) (i : Int) (n : Int) : Int := (bif decide ((n : Int) ≤ 1) then (0 : Int) else (bif decide ((i : Int) < (l_code.length : Int)) then Int.tmod (IntKind.wrap .i64 (((((l_code).getD (i : Int).toNat 0)).toNat : Int))) n else Int.tmod (IntKind.wrap .i64 ((IntKind.wrap .i64 (i * 37)) + 11)) n))
def p_laws_b10At_eq := @p_laws_b10At.eq_1
def T_laws_b10At (code_a : Option Addr) (code_n : Nat) (code_e : Nat) (i : Int) (n : Int) (H : AHeap) (K : Int → AHeap → Prop) : Prop := ∃ (l_code : List UInt8), IsL fU H code_a code_n l_code ∧ l_code.length < 1073741824 ∧ 0 ≤ i ∧ i ≤ 1073741824 ∧ K (p_laws_b10At l_code i n) H
theorem T_laws_b10At_i {code_a : Option Addr} {code_n : Nat} {code_e : Nat} {i : Int} {n : Int} {H : AHeap} {K : Int → AHeap → Prop} (h : ∃ (l_code : List UInt8), IsL fU H code_a code_n l_code ∧ l_code.length < 1073741824 ∧ 0 ≤ i ∧ i ≤ 1073741824 ∧ K (p_laws_b10At l_code i n) H) : T_laws_b10At code_a code_n code_e i n H K := h
theorem ω3 {P : Prop} (h : P := by omega) : P := h
theorem laws_b10At_rng (l : List UInt8) (i n : Int) (h0 : 0 ≤ i) (h1 : i ≤ 1073741824) : 0 ≤ p_laws_b10At l i n ∧ (p_laws_b10At l i n < n ∨ (n ≤ 1 ∧ p_laws_b10At l i n = 0)) := by
  rw [p_laws_b10At_eq]
  refine cnb (P := fun r : Int => 0 ≤ r ∧ (r < n ∨ (n ≤ 1 ∧ r = 0))) (fun hc => ?_) (fun hc => ?_)
  · have := of_decide_eq_true hc; omega
  · have hn := of_decide_eq_false hc
    refine cnb (P := fun r : Int => 0 ≤ r ∧ (r < n ∨ (n ≤ 1 ∧ r = 0))) (fun hc => ?_) (fun hc => ?_)
    · have hb : (l.getD i.toNat 0).toNat < 256 := UInt8.toNat_lt _
      rw [wrap64 ω3 ω3]
      have := tmod_rng ((l.getD i.toNat 0).toNat : Int) n ω3 ω3; omega
    · rw [wrap64 (n := i * 37) ω3 ω3, wrap64 (n := i * 37 + 11) ω3 ω3]
      have := tmod_rng (i * 37 + 11) n ω3 ω3; omega
/-! laws_b10At: function 44 -/
def E_laws_b10At : Env := envOf []
def F_laws_b10At : List Value → AHeap → (Value → AHeap → Prop) → Prop
  | [.slice code_a code_n code_e, .int .i64 i, .int .i64 n], H, K => T_laws_b10At code_a code_n code_e i n H fun (r1 : Int) (H' : AHeap) => K (.int .i64 r1) H'
  | _, _, _ => False
def S_laws_b10At : FSpec := { F := F_laws_b10At, quiet := true, tame := false }
theorem laws_b10At_vc (code_a : Option Addr) (code_n : Nat) (code_e : Nat) (i : Int) (n : Int) (H : AHeap) (K : Value → AHeap → Prop) : bodyL Try.prog E_laws_b10At Try.f44 [.slice code_a code_n code_e, .int .i64 i, .int .i64 n] H K =
  (Br (decide ((n : Int) ≤ 1)) (K (.int .i64 0) H) (Br (decide ((i : Int) < (code_n : Int))) ((0 : Int) ≤ i ∧ i < (code_n : Int) ∧ ∃ b1 f1, (code_a : Option Addr) = some ⟨b1, f1, none⟩ ∧ ∃ x1 : Int,  rdC H b1 (f1 + (i : Int).toNat * 1) = some (.int .u8 x1) ∧ n ≠ (0 : Int) ∧ K (.int .i64 (Int.tmod (IntKind.wrap .i64 x1) n)) H) (n ≠ (0 : Int) ∧ K (.int .i64 (Int.tmod (IntKind.wrap .i64 ((IntKind.wrap .i64 (i * 37)) + 11)) n)) H))) := by kernel_rfl
theorem E_laws_b10At_ok : ∀ g, FnOk Try.prog g (E_laws_b10At g) := FnOk.envOf (by
  intro x hx; cases hx)
theorem ω0 {P : Prop} (h : P := by first | omega | (simp only [List.length_set, List.length_replicate, List.length_append, List.length_cons, List.length_nil, List.length_take, List.length_drop, marks_length]; done) | (simp only [List.length_set, List.length_replicate, List.length_append, List.length_cons, List.length_nil, List.length_take, List.length_drop, marks_length]; omega)) : P := h
set_option maxHeartbeats 1000000 in
theorem laws_b10At_main (code_a : Option Addr) (code_n : Nat) (code_e : Nat) (i : Int) (n : Int) (H : AHeap) (K : Value → AHeap → Prop) (h : T_laws_b10At code_a code_n code_e i n H fun (r1 : Int) (H' : AHeap) => K (.int .i64 r1) H') : bodyL Try.prog E_laws_b10At Try.f44 [.slice code_a code_n code_e, .int .i64 i, .int .i64 n] H K := by
  rw [laws_b10At_vc]
  obtain ⟨l_code, i_code, bd_11, pr0, pr1, hk⟩ := h
  obtain rfl := i_code.eqn
  have e : (p_laws_b10At l_code i n) = _ := rfl
  have e := e.trans (p_laws_b10At_eq l_code i n)
  have g0 := Grow.refl H
  refine Br.intro (fun c_1 => ?_) (fun c_1 => ?_)
  · have e := e.trans (cond_t c_1)
    have c_1' := of_decide_eq_true c_1
    rw [e] at hk
    exact hk
  · have e := e.trans (cond_f c_1)
    have c_1' := of_decide_eq_false c_1
    refine Br.intro (fun c_2 => ?_) (fun c_2 => ?_)
    · have e := e.trans (cond_t c_2)
      have c_2' := of_decide_eq_true c_2
      obtain ⟨b_3, f_4, q_5⟩ := ((i_code.grow g0)).pos ω0
      refine ⟨by omega, by omega, b_3, f_4, q_5, ?_⟩
      refine ⟨((((l_code).getD (i : Int).toNat 0)).toNat : Int), (i_code).rd g0 q_5 ω3 _, ?_⟩
      have z_8 : (((l_code).getD (i : Int).toNat 0)).toNat < 256 := UInt8.toNat_lt _
      refine ⟨(by first | omega | decide | (simp; done) | (simp; omega)), ?_⟩
      have z_6 := tmod_rng (IntKind.wrap .i64 (((((l_code).getD (i : Int).toNat 0)).toNat : Int))) n
      have z_7 := tmod_nn (IntKind.wrap .i64 (((((l_code).getD (i : Int).toNat 0)).toNat : Int))) n
      rw [e] at hk
      exact hk
    · have e := e.trans (cond_f c_2)
      have c_2' := of_decide_eq_false c_2
      refine ⟨(by first | omega | decide | (simp; done) | (simp; omega)), ?_⟩
      have z_9 := tmod_rng (IntKind.wrap .i64 ((IntKind.wrap .i64 (i * 37)) + 11)) n
      have z_10 := tmod_nn (IntKind.wrap .i64 ((IntKind.wrap .i64 (i * 37)) + 11)) n
      rw [e] at hk
      exact hk
theorem laws_b10At_ok : FnOk Try.prog 44 S_laws_b10At := by
  refine FnOk.body mix_ok E_laws_b10At_ok Try.func44 rfl (by kernel_rfl) (by kernel_rfl) ?_ ?_ ?_ ?_ ?_
  · intro args H K K' h hk
    simp only [S_laws_b10At] at *
    unfold F_laws_b10At at *
    split at hk
    · obtain ⟨l_code, i_code, bd_11, pr0, pr1, k⟩ := hk
      exact ⟨l_code, i_code, bd_11, pr0, pr1, h _ _ k⟩
    · exact hk.elim
  · intro _ args H K hk
    simp only [S_laws_b10At] at *
    unfold F_laws_b10At at *
    split at hk
    · obtain ⟨l_code, i_code, bd_11, pr0, pr1, k⟩ := hk
      exact ⟨_, k, fun K' k' => ⟨l_code, i_code, bd_11, pr0, pr1, k'⟩⟩
    · exact hk.elim
  · intro args H K hk
    simp only [S_laws_b10At] at *
    unfold F_laws_b10At at *
    split at hk
    · obtain ⟨l_code, i_code, bd_11, pr0, pr1, k⟩ := hk
      exact ⟨_, _, k⟩
    · exact hk.elim
  · intro hq; cases hq
  · have mm := @laws_b10At_main
    have ml := fun (args : List Value) (H : AHeap) (K : Value → AHeap → Prop) => bodyL_body (P := Try.prog) (env := E_laws_b10At ) (fn := Try.f44) (args := args) (H := H) (K := K) E_laws_b10At_ok 
    revert mm ml
    generalize bodyK Try.prog E_laws_b10At Try.f44 = Q
    generalize bodyL Try.prog E_laws_b10At Try.f44 = QL
    intro mm ml args H K hk
    simp only [S_laws_b10At] at *
    unfold F_laws_b10At at *
    split at hk
    · exact ml _ H K (mm _ _ _ _ _ H K hk)
    · exact hk.elim
def T_spec_l00From (code_a : Option Addr) (code_n : Nat) (code_e : Nat) (H : AHeap) (K : Nat → AHeap → Prop) : Prop := ∀ (b : Nat) (H' : AHeap), b = H.length → H'.length = H.length + 1 → Grow H H' → Own H' b [.slice code_a code_n code_e, .int .i64 0, .int .u64 0] → K b H'
theorem T_spec_l00From_i {code_a : Option Addr} {code_n : Nat} {code_e : Nat} {H : AHeap} {K : Nat → AHeap → Prop} (h : ∀ (b : Nat) (H' : AHeap), b = H.length → H'.length = H.length + 1 → Grow H H' → Own H' b [.slice code_a code_n code_e, .int .i64 0, .int .u64 0] → K b H') : T_spec_l00From code_a code_n code_e H K := h
/-! spec_l00From: function 130 -/
def E_spec_l00From : Env := envOf []
def F_spec_l00From : List Value → AHeap → (Value → AHeap → Prop) → Prop
  | [.slice code_a code_n code_e], H, K => T_spec_l00From code_a code_n code_e H fun (r1 : Nat) (H' : AHeap) => K (.pointer (some ⟨r1, 0, none⟩)) H'
  | _, _, _ => False
def S_spec_l00From : FSpec := { F := F_spec_l00From, quiet := false, tame := false }
theorem spec_l00From_vc (code_a : Option Addr) (code_n : Nat) (code_e : Nat) (H : AHeap) (K : Value → AHeap → Prop) : bodyL Try.prog E_spec_l00From Try.f130 [.slice code_a code_n code_e] H K =
  (Al [.slice code_a code_n code_e, .int .i64 0, .int .u64 0] H fun b1 H1 => K (.pointer (some ⟨b1, 0, none⟩)) H1) := by kernel_rfl
theorem E_spec_l00From_ok : ∀ g, FnOk Try.prog g (E_spec_l00From g) := FnOk.envOf (by
  intro x hx; cases hx)
set_option maxHeartbeats 1000000 in
theorem spec_l00From_main (code_a : Option Addr) (code_n : Nat) (code_e : Nat) (H : AHeap) (K : Value → AHeap → Prop) (h : T_spec_l00From code_a code_n code_e H fun (r1 : Nat) (H' : AHeap) => K (.pointer (some ⟨r1, 0, none⟩)) H') : bodyL Try.prog E_spec_l00From Try.f130 [.slice code_a code_n code_e] H K := by
  rw [spec_l00From_vc]
  exact Al.intro (fun b H' h1 h2 g o => h b H' h1 h2 g o)
theorem spec_l00From_ok : FnOk Try.prog 130 S_spec_l00From := by
  refine FnOk.body mix_ok E_spec_l00From_ok Try.func130 rfl (by kernel_rfl) (by kernel_rfl) ?_ ?_ ?_ ?_ ?_
  · intro args H K K' h hk
    simp only [S_spec_l00From] at *
    unfold F_spec_l00From at *
    split at hk
    · have k := hk
      exact fun b H' e1 e2 gg o => h _ _ (k b H' e1 e2 gg o)
    · exact hk.elim
  · intro hq; cases hq
  · intro args H K hk
    simp only [S_spec_l00From] at *
    unfold F_spec_l00From at *
    split at hk
    · have k := hk
      exact ⟨_, _, k _ (H ++ [some ⟨_, true⟩]) rfl (by simp) (Grow.app _ _) (Own.new _ _)⟩
    · exact hk.elim
  · intro hq; cases hq
  · have mm := @spec_l00From_main
    have ml := fun (args : List Value) (H : AHeap) (K : Value → AHeap → Prop) => bodyL_body (P := Try.prog) (env := E_spec_l00From ) (fn := Try.f130) (args := args) (H := H) (K := K) E_spec_l00From_ok 
    revert mm ml
    generalize bodyK Try.prog E_spec_l00From Try.f130 = Q
    generalize bodyL Try.prog E_spec_l00From Try.f130 = QL
    intro mm ml args H K hk
    simp only [S_spec_l00From] at *
    unfold F_spec_l00From at *
    split at hk
    · exact ml _ H K (mm _ _ _ H K hk)
    · exact hk.elim
def srcSeed (l : List UInt8) (at_ sd : Int) : Int := IntKind.wrap .u64 ((IntKind.wrap .u64 ((IntKind.wrap .u64 (sd * 6364136223846793005)) + (bif decide (at_ < (l.length : Int)) then ((l.getD at_.toNat 0).toNat : Int) else 0))) + 1442695040888963407)
def srcVal (l : List UInt8) (at_ sd : Int) : Int := bif decide (at_ + 1 ≤ (l.length : Int)) then (bif decide (at_ < (l.length : Int)) then ((l.getD at_.toNat 0).toNat : Int) else 0) else ((BitVec.ofInt (IntKind.bits .u64) (Int.fdiv (srcSeed l at_ sd) (2 ^ (min (40 : Int).toNat (IntKind.bits .u64)))) &&& BitVec.ofInt (IntKind.bits .u64) 255).toNat : Int)
def p_spec_l00Src_next (l : List UInt8) (at_ sd : Int) : Int × Int × Int := (srcVal l at_ sd, at_ + 1, srcSeed l at_ sd)
theorem ω12 {P : Prop} (h : P := by decide) : P := h
theorem and255 (x : Int) : ((BitVec.ofInt (IntKind.bits .u64) x &&& BitVec.ofInt (IntKind.bits .u64) 255).toNat : Int) ≤ 255 := by
  have : (BitVec.ofInt (IntKind.bits .u64) x &&& BitVec.ofInt (IntKind.bits .u64) 255).toNat ≤ 255 := by
    rw [BitVec.toNat_and]
    exact Nat.le_trans Nat.and_le_right ω12
  omega
theorem srcVal_rng (l : List UInt8) (at_ sd : Int) : 0 ≤ srcVal l at_ sd ∧ srcVal l at_ sd ≤ 255 := by
  unfold srcVal
  have h1 := and255 (Int.fdiv (srcSeed l at_ sd) (2 ^ (min (40 : Int).toNat (IntKind.bits .u64))))
  have h2 : (l.getD at_.toNat 0).toNat < 256 := UInt8.toNat_lt _
  cases decide (at_ + 1 ≤ (l.length : Int)) <;> cases decide (at_ < (l.length : Int)) <;> simp only [cond_true, cond_false] <;> omega
theorem spec_l00Src_next_rng (l : List UInt8) (at_ sd : Int) : 0 ≤ (p_spec_l00Src_next l at_ sd).1 ∧ (p_spec_l00Src_next l at_ sd).1 ≤ 255 ∧ (p_spec_l00Src_next l at_ sd).2.1 = at_ + 1 := ⟨(srcVal_rng l at_ sd).1, (srcVal_rng l at_ sd).2, rfl⟩
abbrev SrcB (a : Option Addr) (n e : Nat) (at_ sd : Int) : List Value := [.slice a n e, .int .i64 at_, .int .u64 sd]
theorem Own.putB {H : AHeap} {b : Nat} {cs : List Value} (h : Own H b cs) (ds : List Value) : Own (H.set b (some { cells := ds, own := true })) b ds ∧ Keep1 b H (H.set b (some { cells := ds, own := true })) :=
  ⟨by unfold Own; rw [List.getElem?_set]; simp [h.lt], by simp, fun i hi hn => by rw [List.getElem?_set, if_neg (fun e => hn e.symm)]⟩
def T_spec_l00Src_next (s : Nat) (H : AHeap) (K : Int → AHeap → Prop) : Prop := ∃ (H0 : AHeap) (a : Option Addr) (n e : Nat) (l : List UInt8) (at_ sd : Int), Own H s (SrcB a n e at_ sd) ∧ IsL fU H0 a n l ∧ Grow H0 H ∧ H0.length ≤ s ∧ 0 ≤ at_ ∧ at_ < 4611686018427387904 ∧
  (∀ H' : AHeap, Keep1 s H H' → Own H' s (SrcB a n e (p_spec_l00Src_next l at_ sd).2.1 (p_spec_l00Src_next l at_ sd).2.2) → K (p_spec_l00Src_next l at_ sd).1 H')
theorem T_spec_l00Src_next_i {s : Nat} {H : AHeap} {K : Int → AHeap → Prop} (h : ∃ (H0 : AHeap) (a : Option Addr) (n e : Nat) (l : List UInt8) (at_ sd : Int), Own H s (SrcB a n e at_ sd) ∧ IsL fU H0 a n l ∧ Grow H0 H ∧ H0.length ≤ s ∧ 0 ≤ at_ ∧ at_ < 4611686018427387904 ∧
  (∀ H' : AHeap, Keep1 s H H' → Own H' s (SrcB a n e (p_spec_l00Src_next l at_ sd).2.1 (p_spec_l00Src_next l at_ sd).2.2) → K (p_spec_l00Src_next l at_ sd).1 H')) : T_spec_l00Src_next s H K := h
/-! spec_l00Src_next: function 181 -/
def E_spec_l00Src_next : Env := envOf []
def F_spec_l00Src_next : List Value → AHeap → (Value → AHeap → Prop) → Prop
  | [.pointer (some ⟨s, 0, none⟩)], H, K => T_spec_l00Src_next s H fun (r1 : Int) (H' : AHeap) => K (.int .i64 r1) H'
  | _, _, _ => False
def S_spec_l00Src_next : FSpec := { F := F_spec_l00Src_next, quiet := false, tame := false }
theorem spec_l00Src_next_vc (s : Nat) (H : AHeap) (K : Value → AHeap → Prop) : bodyL Try.prog E_spec_l00Src_next Try.f181 [.pointer (some ⟨s, 0, none⟩)] H K =
  (∃ x1 : Int,  rdC H s 1 = some (.int .i64 x1) ∧ ∃ x2_a : Option Addr, ∃ x2_n : Nat, ∃ x2_e : Nat,  rdC H s 0 = some (.slice x2_a x2_n x2_e) ∧ Br (decide ((x1 : Int) < (x2_n : Int))) (∃ x3_a : Option Addr, ∃ x3_n : Nat, ∃ x3_e : Nat,  rdC H s 0 = some (.slice x3_a x3_n x3_e) ∧ ∃ x4 : Int,  rdC H s 1 = some (.int .i64 x4) ∧ (0 : Int) ≤ x4 ∧ x4 < (x3_n : Int) ∧ ∃ b1 f1, (x3_a : Option Addr) = some ⟨b1, f1, none⟩ ∧ ∃ x5 : Int,  rdC H b1 (f1 + (x4 : Int).toNat * 1) = some (.int .u8 x5) ∧ ∃ x6 : Int,  rdC H s 1 = some (.int .i64 x6) ∧ isOwn H s ∧ (∃ l, rdN H s 1 1 = some l) ∧ Lt (setC H s 1 (.int .i64 (IntKind.wrap .i64 (x6 + 1)))) fun H1 => ∃ x7 : Int,  rdC H1 s 2 = some (.int .u64 x7) ∧ isOwn H1 s ∧ (∃ l, rdN H1 s 2 1 = some l) ∧ Lt (setC H1 s 2 (.int .u64 (IntKind.wrap .u64 ((IntKind.wrap .u64 ((IntKind.wrap .u64 (x7 * 6364136223846793005)) + (IntKind.wrap .u64 (IntKind.wrap .i64 x5)))) + 1442695040888963407)))) fun H2 => ∃ x8 : Int,  rdC H2 s 1 = some (.int .i64 x8) ∧ ∃ x9_a : Option Addr, ∃ x9_n : Nat, ∃ x9_e : Nat,  rdC H2 s 0 = some (.slice x9_a x9_n x9_e) ∧ Br (decide ((x8 : Int) ≤ (x9_n : Int))) (K (.int .i64 (IntKind.wrap .i64 x5)) H2) (∃ x10 : Int,  rdC H2 s 2 = some (.int .u64 x10) ∧ (0 : Int) ≤ 40 ∧ K (.int .i64 (IntKind.wrap .i64 (IntKind.wrap .u64 (((BitVec.ofInt (IntKind.bits .u64) (Int.fdiv x10 (2 ^ (min (40 : Int).toNat (IntKind.bits .u64)))) &&& BitVec.ofInt (IntKind.bits .u64) 255).toNat : Int))))) H2)) (∃ x11 : Int,  rdC H s 1 = some (.int .i64 x11) ∧ isOwn H s ∧ (∃ l, rdN H s 1 1 = some l) ∧ Lt (setC H s 1 (.int .i64 (IntKind.wrap .i64 (x11 + 1)))) fun H3 => ∃ x12 : Int,  rdC H3 s 2 = some (.int .u64 x12) ∧ isOwn H3 s ∧ (∃ l, rdN H3 s 2 1 = some l) ∧ Lt (setC H3 s 2 (.int .u64 (IntKind.wrap .u64 ((IntKind.wrap .u64 ((IntKind.wrap .u64 (x12 * 6364136223846793005)) + (IntKind.wrap .u64 0))) + 1442695040888963407)))) fun H4 => ∃ x13 : Int,  rdC H4 s 1 = some (.int .i64 x13) ∧ ∃ x14_a : Option Addr, ∃ x14_n : Nat, ∃ x14_e : Nat,  rdC H4 s 0 = some (.slice x14_a x14_n x14_e) ∧ Br (decide ((x13 : Int) ≤ (x14_n : Int))) (K (.int .i64 0) H4) (∃ x15 : Int,  rdC H4 s 2 = some (.int .u64 x15) ∧ (0 : Int) ≤ 40 ∧ K (.int .i64 (IntKind.wrap .i64 (IntKind.wrap .u64 (((BitVec.ofInt (IntKind.bits .u64) (Int.fdiv x15 (2 ^ (min (40 : Int).toNat (IntKind.bits .u64)))) &&& BitVec.ofInt (IntKind.bits .u64) 255).toNat : Int))))) H4))) := by kernel_rfl
theorem E_spec_l00Src_next_ok : ∀ g, FnOk Try.prog g (E_spec_l00Src_next g) := FnOk.envOf (by
  intro x hx; cases hx)
set_option maxHeartbeats 1000000 in
theorem spec_l00Src_next_main (s : Nat) (H : AHeap) (K : Value → AHeap → Prop) (h : T_spec_l00Src_next s H fun (r1 : Int) (H' : AHeap) => K (.int .i64 r1) H') : bodyL Try.prog E_spec_l00Src_next Try.f181 [.pointer (some ⟨s, 0, none⟩)] H K := by
  rw [spec_l00Src_next_vc]
  obtain ⟨H0, a, n, e, l, at_, sd, o, il, g, hb, h0, h1, hk⟩ := h
  have hn := il.len
  refine ⟨at_, (o.rdC 1).trans rfl, a, n, e, (o.rdC 0).trans rfl, ?_⟩
  refine Br.intro (fun hc => ?_) (fun hc => ?_)
  · have hc' := of_decide_eq_true hc
    refine ⟨a, n, e, (o.rdC 0).trans rfl, at_, (o.rdC 1).trans rfl, h0, hc', ?_⟩
    obtain ⟨b1, f1, ea, hcell⟩ := il.cell ω3
    have hx : l[at_.toNat]? = some (l.getD at_.toNat 0) := by rw [List.getD_eq_getElem?_getD, List.getElem?_eq_getElem ω3]; rfl
    have hby : (l.getD at_.toNat 0).toNat < 256 := UInt8.toNat_lt _
    refine ⟨b1, f1, ea, ((l.getD at_.toNat 0).toNat : Int), grow_rdC g (hcell _ _ hx), at_, (o.rdC 1).trans rfl, o.isOwn, ⟨_, o.rdN (Nat.le_of_ble_eq_true rfl)⟩, ?_⟩
    rw [wrap64 (n := at_ + 1) ω3 ω3, wrap64 (n := ((l.getD at_.toNat 0).toNat : Int)) ω3 ω3, wrapu_id (n := ((l.getD at_.toNat 0).toNat : Int)) ω3 ω3]
    unfold Lt
    have o1 := o.setC_own 1 (.int .i64 (at_ + 1))
    refine ⟨sd, (o1.rdC 2).trans rfl, o1.isOwn, ⟨_, o1.rdN (Nat.le_of_ble_eq_true rfl)⟩, ?_⟩
    have o2 := o1.setC_own 2 (.int .u64 (IntKind.wrap .u64 ((IntKind.wrap .u64 ((IntKind.wrap .u64 (sd * 6364136223846793005)) + ((l.getD at_.toNat 0).toNat : Int))) + 1442695040888963407)))
    have es : srcSeed l at_ sd = IntKind.wrap .u64 ((IntKind.wrap .u64 ((IntKind.wrap .u64 (sd * 6364136223846793005)) + ((l.getD at_.toNat 0).toNat : Int))) + 1442695040888963407) := by
      unfold srcSeed; rw [decide_eq_true (show at_ < (l.length : Int) by omega), cond_true]
    rw [← es] at o2 ⊢
    have ev : srcVal l at_ sd = ((l.getD at_.toNat 0).toNat : Int) := by
      unfold srcVal; rw [decide_eq_true (show at_ + 1 ≤ (l.length : Int) by omega), cond_true, decide_eq_true (show at_ < (l.length : Int) by omega), cond_true]
    have kk : Keep1 s H (setC (setC H s 1 (.int .i64 (at_ + 1))) s 2 (.int .u64 (srcSeed l at_ sd))) := ⟨by rw [setC_length, setC_length]; exact Nat.le_refl _, fun i hi hne => by rw [setC_other hne, setC_other hne]⟩
    have fin := hk _ kk o2
    refine ⟨at_ + 1, (o2.rdC 1).trans rfl, a, n, e, (o2.rdC 0).trans rfl, ?_⟩
    rw [decide_eq_true (show at_ + 1 ≤ (n : Int) by omega)]
    rw [show (p_spec_l00Src_next l at_ sd).1 = srcVal l at_ sd from rfl, ev] at fin
    exact fin
  · have hc' := of_decide_eq_false hc
    refine ⟨at_, (o.rdC 1).trans rfl, o.isOwn, ⟨_, o.rdN (Nat.le_of_ble_eq_true rfl)⟩, ?_⟩
    rw [wrap64 (n := at_ + 1) ω3 ω3, wrapu_id (n := 0) ω3 ω3]
    unfold Lt
    have o1 := o.setC_own 1 (.int .i64 (at_ + 1))
    refine ⟨sd, (o1.rdC 2).trans rfl, o1.isOwn, ⟨_, o1.rdN (Nat.le_of_ble_eq_true rfl)⟩, ?_⟩
    have o2 := o1.setC_own 2 (.int .u64 (IntKind.wrap .u64 ((IntKind.wrap .u64 ((IntKind.wrap .u64 (sd * 6364136223846793005)) + 0)) + 1442695040888963407)))
    have es : srcSeed l at_ sd = IntKind.wrap .u64 ((IntKind.wrap .u64 ((IntKind.wrap .u64 (sd * 6364136223846793005)) + 0)) + 1442695040888963407) := by
      unfold srcSeed; rw [decide_eq_false (show ¬ at_ < (l.length : Int) by omega), cond_false]
    rw [← es] at o2 ⊢
    have ev : srcVal l at_ sd = ((BitVec.ofInt (IntKind.bits .u64) (Int.fdiv (srcSeed l at_ sd) (2 ^ (min (40 : Int).toNat (IntKind.bits .u64)))) &&& BitVec.ofInt (IntKind.bits .u64) 255).toNat : Int) := by
      unfold srcVal; rw [decide_eq_false (show ¬ at_ + 1 ≤ (l.length : Int) by omega), cond_false]
    have kk : Keep1 s H (setC (setC H s 1 (.int .i64 (at_ + 1))) s 2 (.int .u64 (srcSeed l at_ sd))) := ⟨by rw [setC_length, setC_length]; exact Nat.le_refl _, fun i hi hne => by rw [setC_other hne, setC_other hne]⟩
    have fin := hk _ kk o2
    have hr := srcVal_rng l at_ sd
    refine ⟨at_ + 1, (o2.rdC 1).trans rfl, a, n, e, (o2.rdC 0).trans rfl, ?_⟩
    rw [decide_eq_false (show ¬ at_ + 1 ≤ (n : Int) by omega)]
    refine ⟨srcSeed l at_ sd, (o2.rdC 2).trans rfl, by decide, ?_⟩
    rw [show (p_spec_l00Src_next l at_ sd).1 = srcVal l at_ sd from rfl, ev] at fin
    rw [ev] at hr
    rw [wrapu_id (n := ((BitVec.ofInt (IntKind.bits .u64) (Int.fdiv (srcSeed l at_ sd) (2 ^ (min (40 : Int).toNat (IntKind.bits .u64)))) &&& BitVec.ofInt (IntKind.bits .u64) 255).toNat : Int)) ω3 ω3, wrap64 (n := ((BitVec.ofInt (IntKind.bits .u64) (Int.fdiv (srcSeed l at_ sd) (2 ^ (min (40 : Int).toNat (IntKind.bits .u64)))) &&& BitVec.ofInt (IntKind.bits .u64) 255).toNat : Int)) ω3 ω3]
    exact fin
theorem spec_l00Src_next_ok : FnOk Try.prog 181 S_spec_l00Src_next := by
  refine FnOk.body mix_ok E_spec_l00Src_next_ok Try.func181 rfl (by kernel_rfl) (by kernel_rfl) ?_ ?_ ?_ ?_ ?_
  · intro args H K K' h hk
    simp only [S_spec_l00Src_next] at *
    unfold F_spec_l00Src_next at *
    split at hk
    · obtain ⟨H0, a, n, e, l, at_, sd, o, il, g, hb, h0, h1, k⟩ := hk
      exact ⟨H0, a, n, e, l, at_, sd, o, il, g, hb, h0, h1, (fun H' k1 o1 => h _ _ (k H' k1 o1))⟩
    · exact hk.elim
  · intro hq; cases hq
  · intro args H K hk
    simp only [S_spec_l00Src_next] at *
    unfold F_spec_l00Src_next at *
    split at hk
    · obtain ⟨H0, a, n, e, l, at_, sd, o, il, g, hb, h0, h1, k⟩ := hk
      exact ⟨_, _, k _ (Own.putB o _).2 (Own.putB o _).1⟩
    · exact hk.elim
  · intro hq; cases hq
  · have mm := @spec_l00Src_next_main
    have ml := fun (args : List Value) (H : AHeap) (K : Value → AHeap → Prop) => bodyL_body (P := Try.prog) (env := E_spec_l00Src_next ) (fn := Try.f181) (args := args) (H := H) (K := K) E_spec_l00Src_next_ok 
    revert mm ml
    generalize bodyK Try.prog E_spec_l00Src_next Try.f181 = Q
    generalize bodyL Try.prog E_spec_l00Src_next Try.f181 = QL
    intro mm ml args H K hk
    simp only [S_spec_l00Src_next] at *
    unfold F_spec_l00Src_next at *
    split at hk
    · exact ml _ H K (mm _ H K hk)
    · exact hk.elim
def p_spec_l00Src_pick (l : List UInt8) (at_ sd n : Int) : Int × Int × Int :=
  bif decide (n ≤ 1) then (0, at_, sd) else bif decide ((200 : Int) < n) then
    (Int.tmod ((p_spec_l00Src_next l at_ sd).1 * 256 + (p_spec_l00Src_next l (p_spec_l00Src_next l at_ sd).2.1 (p_spec_l00Src_next l at_ sd).2.2).1) n, (p_spec_l00Src_next l (p_spec_l00Src_next l at_ sd).2.1 (p_spec_l00Src_next l at_ sd).2.2).2)
  else (Int.tmod (p_spec_l00Src_next l at_ sd).1 n, (p_spec_l00Src_next l at_ sd).2)
theorem spec_l00Src_pick_rng (l : List UInt8) (at_ sd n : Int) : 0 ≤ (p_spec_l00Src_pick l at_ sd n).1 ∧ ((p_spec_l00Src_pick l at_ sd n).1 < n ∨ (n ≤ 1 ∧ (p_spec_l00Src_pick l at_ sd n).1 = 0)) ∧ at_ ≤ (p_spec_l00Src_pick l at_ sd n).2.1 ∧ (p_spec_l00Src_pick l at_ sd n).2.1 ≤ at_ + 2 := by
  unfold p_spec_l00Src_pick
  by_cases h : n ≤ 1
  · rw [decide_eq_true h, cond_true]
    refine ⟨Int.le_refl 0, .inr ⟨h, rfl⟩, Int.le_refl _, ?_⟩
    show at_ ≤ at_ + 2
    omega
  · rw [decide_eq_false h, cond_false]
    have q := spec_l00Src_next_rng l at_ sd
    by_cases h2 : (200 : Int) < n
    · rw [decide_eq_true h2, cond_true]
      have q2 := spec_l00Src_next_rng l (p_spec_l00Src_next l at_ sd).2.1 (p_spec_l00Src_next l at_ sd).2.2
      have m := tmod_rng ((p_spec_l00Src_next l at_ sd).1 * 256 + (p_spec_l00Src_next l (p_spec_l00Src_next l at_ sd).2.1 (p_spec_l00Src_next l at_ sd).2.2).1) n ω3 ω3
      exact ⟨m.1, .inl m.2, by show at_ ≤ (p_spec_l00Src_next l _ _).2.1; omega, by show (p_spec_l00Src_next l _ _).2.1 ≤ _; omega⟩
    · rw [decide_eq_false h2, cond_false]
      have m := tmod_rng (p_spec_l00Src_next l at_ sd).1 n ω3 ω3
      exact ⟨m.1, .inl m.2, by show at_ ≤ (p_spec_l00Src_next l _ _).2.1; omega, by show (p_spec_l00Src_next l _ _).2.1 ≤ _; omega⟩
def T_spec_l00Src_pick (s : Nat) (n : Int) (H : AHeap) (K : Int → AHeap → Prop) : Prop := ∃ (H0 : AHeap) (a : Option Addr) (m e : Nat) (l : List UInt8) (at_ sd : Int), Own H s (SrcB a m e at_ sd) ∧ IsL fU H0 a m l ∧ Grow H0 H ∧ H0.length ≤ s ∧ 0 ≤ at_ ∧ at_ < 4611686018427387900 ∧
  (∀ H' : AHeap, Keep1 s H H' → Own H' s (SrcB a m e (p_spec_l00Src_pick l at_ sd n).2.1 (p_spec_l00Src_pick l at_ sd n).2.2) → K (p_spec_l00Src_pick l at_ sd n).1 H')
theorem T_spec_l00Src_pick_i {s : Nat} {n : Int} {H : AHeap} {K : Int → AHeap → Prop} (h : ∃ (H0 : AHeap) (a : Option Addr) (m e : Nat) (l : List UInt8) (at_ sd : Int), Own H s (SrcB a m e at_ sd) ∧ IsL fU H0 a m l ∧ Grow H0 H ∧ H0.length ≤ s ∧ 0 ≤ at_ ∧ at_ < 4611686018427387900 ∧
  (∀ H' : AHeap, Keep1 s H H' → Own H' s (SrcB a m e (p_spec_l00Src_pick l at_ sd n).2.1 (p_spec_l00Src_pick l at_ sd n).2.2) → K (p_spec_l00Src_pick l at_ sd n).1 H')) : T_spec_l00Src_pick s n H K := h
/-! spec_l00Src_pick: function 131 -/
def E_spec_l00Src_pick : Env := envOf [(181, S_spec_l00Src_next)]
def F_spec_l00Src_pick : List Value → AHeap → (Value → AHeap → Prop) → Prop
  | [.pointer (some ⟨s, 0, none⟩), .int .i64 n], H, K => T_spec_l00Src_pick s n H fun (r1 : Int) (H' : AHeap) => K (.int .i64 r1) H'
  | _, _, _ => False
def S_spec_l00Src_pick : FSpec := { F := F_spec_l00Src_pick, quiet := false, tame := false }
theorem spec_l00Src_pick_vc (s : Nat) (n : Int) (H : AHeap) (K : Value → AHeap → Prop) : bodyL Try.prog E_spec_l00Src_pick Try.f131 [.pointer (some ⟨s, 0, none⟩), .int .i64 n] H K =
  (Br (decide ((n : Int) ≤ 1)) (K (.int .i64 0) H) (T_spec_l00Src_next s H fun (r1 : Int) (H1 : AHeap) => Br (decide ((200 : Int) < n)) (T_spec_l00Src_next s H1 fun (r2 : Int) (H2 : AHeap) => n ≠ (0 : Int) ∧ K (.int .i64 (Int.tmod (IntKind.wrap .i64 ((IntKind.wrap .i64 (r1 * 256)) + r2)) n)) H2) (n ≠ (0 : Int) ∧ K (.int .i64 (Int.tmod r1 n)) H1))) := by kernel_rfl
theorem E_spec_l00Src_pick_ok : ∀ g, FnOk Try.prog g (E_spec_l00Src_pick g) := FnOk.envOf (by
  intro x hx
  simp only [List.mem_cons, List.not_mem_nil, or_false] at hx
  subst hx; exact spec_l00Src_next_ok)
set_option maxHeartbeats 1000000 in
theorem spec_l00Src_pick_main (s : Nat) (n : Int) (H : AHeap) (K : Value → AHeap → Prop) (h : T_spec_l00Src_pick s n H fun (r1 : Int) (H' : AHeap) => K (.int .i64 r1) H') : bodyL Try.prog E_spec_l00Src_pick Try.f131 [.pointer (some ⟨s, 0, none⟩), .int .i64 n] H K := by
  rw [spec_l00Src_pick_vc]
  obtain ⟨H0, a, m, e, l, at_, sd, o, il, g, hb, h0, h1, hk⟩ := h
  unfold p_spec_l00Src_pick at hk
  refine Br.intro (fun hc => ?_) (fun hc => ?_)
  · rw [hc] at hk
    exact hk H ⟨Nat.le_refl _, fun _ _ _ => rfl⟩ o
  · rw [hc] at hk
    have hn := of_decide_eq_false hc
    have q := spec_l00Src_next_rng l at_ sd
    refine T_spec_l00Src_next_i ⟨H0, a, m, e, l, at_, sd, o, il, g, hb, h0, by omega, fun H1 k1 o1 => ?_⟩
    refine Br.intro (fun hc2 => ?_) (fun hc2 => ?_)
    · rw [hc2] at hk
      have q2 := spec_l00Src_next_rng l (p_spec_l00Src_next l at_ sd).2.1 (p_spec_l00Src_next l at_ sd).2.2
      refine T_spec_l00Src_next_i ⟨H0, a, m, e, l, _, _, o1, il, g.keep hb k1, hb, by omega, by omega, fun H2 k2 o2 => ⟨by omega, ?_⟩⟩
      have fin := hk H2 ⟨Nat.le_trans k1.1 k2.1, fun i hi hne => (k2.2 i (Nat.lt_of_lt_of_le hi k1.1) hne).trans (k1.2 i hi hne)⟩ o2
      rw [wrap64 (n := (p_spec_l00Src_next l at_ sd).1 * 256) ω3 ω3, wrap64 (n := (p_spec_l00Src_next l at_ sd).1 * 256 + _) ω3 ω3]
      exact fin
    · rw [hc2] at hk
      exact ⟨by omega, hk H1 k1 o1⟩
theorem spec_l00Src_pick_ok : FnOk Try.prog 131 S_spec_l00Src_pick := by
  refine FnOk.body mix_ok E_spec_l00Src_pick_ok Try.func131 rfl (by kernel_rfl) (by kernel_rfl) ?_ ?_ ?_ ?_ ?_
  · intro args H K K' h hk
    simp only [S_spec_l00Src_pick] at *
    unfold F_spec_l00Src_pick at *
    split at hk
    · obtain ⟨H0, a, n, e, l, at_, sd, o, il, g, hb, h0, h1, k⟩ := hk
      exact ⟨H0, a, n, e, l, at_, sd, o, il, g, hb, h0, h1, (fun H' k1 o1 => h _ _ (k H' k1 o1))⟩
    · exact hk.elim
  · intro hq; cases hq
  · intro args H K hk
    simp only [S_spec_l00Src_pick] at *
    unfold F_spec_l00Src_pick at *
    split at hk
    · obtain ⟨H0, a, n, e, l, at_, sd, o, il, g, hb, h0, h1, k⟩ := hk
      exact ⟨_, _, k _ (Own.putB o _).2 (Own.putB o _).1⟩
    · exact hk.elim
  · intro hq; cases hq
  · have mm := @spec_l00Src_pick_main
    have ml := fun (args : List Value) (H : AHeap) (K : Value → AHeap → Prop) => bodyL_body (P := Try.prog) (env := E_spec_l00Src_pick ) (fn := Try.f131) (args := args) (H := H) (K := K) E_spec_l00Src_pick_ok 
    revert mm ml
    generalize bodyK Try.prog E_spec_l00Src_pick Try.f131 = Q
    generalize bodyL Try.prog E_spec_l00Src_pick Try.f131 = QL
    intro mm ml args H K hk
    simp only [S_spec_l00Src_pick] at *
    unfold F_spec_l00Src_pick at *
    split at hk
    · exact ml _ H K (mm _ _ H K hk)
    · exact hk.elim

def p_spec_B10Signal_l1 (l_code : List UInt8) (n : Int) : Nat → Int → (List Nat) → Int → Int → (List Nat)
  | 0, _, _, _, _ => []
  | μ + 1, n_1, l_vout, q1_2, q1_3 => (bif decide ((0 : Int) < n_1) then (p_spec_B10Signal_l1 l_code n μ (n_1 - 1) ((l_vout ++ [(fdiv .f32 (FloatKind.nearest .f32 (IntKind.wrap .i64 (((p_spec_l00Src_pick l_code q1_2 q1_3 (65 : Int)).1) - 32))) 1082130432)])) ((p_spec_l00Src_pick l_code q1_2 q1_3 (65 : Int)).2.1) ((p_spec_l00Src_pick l_code q1_2 q1_3 (65 : Int)).2.2)) else l_vout)
def p_spec_B10Signal_l1_s := fun l_code n μ n_1 l_vout q1_2 q1_3 => @p_spec_B10Signal_l1.eq_2 l_code n n_1 l_vout q1_2 q1_3 μ
def p_spec_B10Signal (l_code : List UInt8) (n : Int) : (List Nat) := (p_spec_B10Signal_l1 l_code n (Int.toNat (n - 0) + 1) n ([] : List Nat) (0 : Int) (0 : Int))
def p_spec_B10Signal_eq := @p_spec_B10Signal.eq_1
def T_spec_B10Signal (code_a : Option Addr) (code_n : Nat) (code_e : Nat) (n : Int) (H : AHeap) (K : (Option Addr) → Nat → Nat → AHeap → Prop) : Prop := ∃ (l_code : List UInt8), IsL fU H code_a code_n l_code ∧ l_code.length < 1073741824 ∧ n ≤ 1073741824 ∧ ((∀ (r1_a : Option Addr) (r1_n r1_e : Nat), ∀ H' : AHeap, Grow H H' → OwnS fF H' H.length r1_a r1_n r1_e (p_spec_B10Signal l_code n) → K r1_a r1_n r1_e H'))
theorem T_spec_B10Signal_i {code_a : Option Addr} {code_n : Nat} {code_e : Nat} {n : Int} {H : AHeap} {K : (Option Addr) → Nat → Nat → AHeap → Prop} (h : ∃ (l_code : List UInt8), IsL fU H code_a code_n l_code ∧ l_code.length < 1073741824 ∧ n ≤ 1073741824 ∧ ((∀ (r1_a : Option Addr) (r1_n r1_e : Nat), ∀ H' : AHeap, Grow H H' → OwnS fF H' H.length r1_a r1_n r1_e (p_spec_B10Signal l_code n) → K r1_a r1_n r1_e H'))) : T_spec_B10Signal code_a code_n code_e n H K := h
def Qt (y : Nat) : Prop := ∃ k : Nat, k < 65 ∧ y = fdiv .f32 (FloatKind.nearest .f32 ((k : Int) - 32)) 1082130432
theorem spec_B10Signal_go (l : List UInt8) (n : Int) : ∀ (μ : Nat) (m : Int) (o : List Nat) (a b : Int), m.toNat < μ → (∀ y ∈ o, Qt y) →
    (p_spec_B10Signal_l1 l n μ m o a b).length = o.length + m.toNat ∧ ∀ y ∈ p_spec_B10Signal_l1 l n μ m o a b, Qt y := by
  intro μ
  induction μ with
  | zero => intro m o a b h; omega
  | succ μ ih =>
    intro m o a b h ho
    rw [p_spec_B10Signal_l1_s]
    by_cases hm : (0 : Int) < m
    · rw [decide_eq_true hm, cond_true]
      have q := spec_l00Src_pick_rng l a b 65
      obtain ⟨k, hk⟩ : ∃ k : Nat, (p_spec_l00Src_pick l a b 65).1 = k := ⟨(p_spec_l00Src_pick l a b 65).1.toNat, by omega⟩
      have r := ih (m - 1) (o ++ [fdiv .f32 (FloatKind.nearest .f32 (IntKind.wrap .i64 ((p_spec_l00Src_pick l a b 65).1 - 32))) 1082130432]) (p_spec_l00Src_pick l a b 65).2.1 (p_spec_l00Src_pick l a b 65).2.2 ω3 (fun y hy => by
        rcases List.mem_append.1 hy with hy | hy
        · exact ho y hy
        · rw [List.mem_singleton.1 hy, hk, wrap64 ω3 ω3]; exact ⟨k, by omega, rfl⟩)
      refine ⟨?_, r.2⟩
      rw [r.1, List.length_append, List.length_singleton]; omega
    · rw [decide_eq_false hm, cond_false]
      exact ⟨by omega, ho⟩
theorem spec_B10Signal_all (l : List UInt8) (n : Int) : (p_spec_B10Signal l n).length = n.toNat ∧ ∀ y ∈ p_spec_B10Signal l n, Qt y := by
  rw [p_spec_B10Signal_eq]
  have := spec_B10Signal_go l n (Int.toNat (n - 0) + 1) n [] 0 0 ω3 (by simp)
  simpa using this
theorem spec_B10Signal_len (l : List UInt8) (n : Int) : (p_spec_B10Signal l n).length = n.toNat := (spec_B10Signal_all l n).1
/-! spec_B10Signal: function 45 -/
def E_spec_B10Signal : Env := envOf [(130, S_spec_l00From), (131, S_spec_l00Src_pick)]
def F_spec_B10Signal : List Value → AHeap → (Value → AHeap → Prop) → Prop
  | [.slice code_a code_n code_e, .int .i64 n], H, K => T_spec_B10Signal code_a code_n code_e n H fun (r1_a : Option Addr) (r1_n : Nat) (r1_e : Nat) (H' : AHeap) => K (.slice r1_a r1_n r1_e) H'
  | _, _, _ => False
def S_spec_B10Signal : FSpec := { F := F_spec_B10Signal, quiet := false, tame := true }
theorem spec_B10Signal_vc (code_a : Option Addr) (code_n : Nat) (code_e : Nat) (n : Int) (H : AHeap) (K : Value → AHeap → Prop) : bodyL Try.prog E_spec_B10Signal Try.f45 [.slice code_a code_n code_e, .int .i64 n] H K =
  (T_spec_l00From code_a code_n code_e H fun (r1 : Nat) (H1 : AHeap) => Al [] H1 fun b1 H2 => loopK (exL Try.prog E_spec_B10Signal (cl (cl (cl (cr (cr (cr (bodyC Try.f45))))))) 98 16 [(0, 64)]) [ud, .int .i64 n, ud, ud, ud, .pointer (some ⟨r1, 0, none⟩), .slice (some ⟨b1, 0, none⟩) 0 1, ud, ud, ud, ud, ud, ud, ud, ud, ud, ud, ud, ud, ud, ud, ud, ud] H2 (blockQ 0 (seqQ (exL Try.prog E_spec_B10Signal (cr (cr (cr (cr (bodyC Try.f45))))) 16 16 []) (retK Try.prog Try.f45 K)))) := by kernel_rfl
abbrev spec_B10Signal_P1 (r1 : Nat) (n_1 : Int) (vout_a : Option Addr) (vout_n : Nat) (vout_e : Nat)  : List Value := [ud, .int .i64 n_1, ud, ud, ud, .pointer (some ⟨r1, 0, none⟩), .slice vout_a vout_n vout_e, ud, ud, ud, ud, ud, ud, ud, ud, ud, ud, ud, ud, ud, ud, ud, ud]
theorem spec_B10Signal_r1 (r1 : Nat) (n_1 : Int) (vout_a : Option Addr) (vout_n : Nat) (vout_e : Nat)  (H : AHeap) (R : Post) : exL Try.prog E_spec_B10Signal (cl (cl (cl (cr (cr (cr (bodyC Try.f45))))))) 98 16 [(0, 64)] (spec_B10Signal_P1 r1 n_1 vout_a vout_n vout_e) H R =
  (Br (decide ((0 : Int) < n_1)) (T_spec_l00Src_pick r1 65 H fun (r2 : Int) (H3 : AHeap) => Al [.float .f32 (fdiv .f32 (FloatKind.nearest .f32 (IntKind.wrap .i64 (r2 - 32))) 1082130432)] H3 fun b2 H4 => ∃ o1 w1 : List Value, ownB H4 vout_a vout_n vout_e 1 = some o1 ∧ rdS H4 (some ⟨b2, 0, none⟩) (1 * 1) = some w1 ∧ ((vout_a : Option Addr) = none → 0 < (1 : Nat)) ∧ (vout_n : Nat) + 1 < most ∧ Ap H4 (killB H4 vout_a ++ [some ⟨o1 ++ w1, true⟩]) fun b3 H5 => R .normal [ud, .int .i64 (IntKind.wrap .i64 (n_1 - 1)), ud, ud, ud, .pointer (some ⟨r1, 0, none⟩), .slice (some ⟨b3, 0, none⟩) (vout_n + 1) 1, ud, ud, ud, ud, ud, ud, ud, ud, ud, ud, ud, ud, ud, ud, ud, ud] H5) (R (.exit 0) [ud, ud, ud, ud, ud, ud, .slice vout_a vout_n vout_e, ud, ud, ud, ud, ud, ud, ud, ud, ud, ud, ud, ud, ud, ud, ud, ud] H)) := by kernel_rfl
def spec_B10Signal_I1 (r1 : Nat) (Inv : Nat → Int → (Option Addr) → Nat → Nat → AHeap → Prop) : Nat → List Value → AHeap → Prop := fun μ tm H => ∃ (n_1 : Int), ∃ (vout_a : Option Addr), ∃ (vout_n : Nat), ∃ (vout_e : Nat), tm = (spec_B10Signal_P1 r1 n_1 vout_a vout_n vout_e) ∧ Inv μ n_1 vout_a vout_n vout_e H
theorem spec_B10Signal_L1 (r1 : Nat) {Q : Post} (Inv : Nat → Int → (Option Addr) → Nat → Nat → AHeap → Prop) (ν : Nat) (n_1 : Int) (vout_a : Option Addr) (vout_n : Nat) (vout_e : Nat)  (H : AHeap) (h0 : Inv ν n_1 vout_a vout_n vout_e H)
    (hs : ∀ (μ : Nat) (n_1 : Int) (vout_a : Option Addr) (vout_n : Nat) (vout_e : Nat)  (H : AHeap), Inv μ n_1 vout_a vout_n vout_e H → exL Try.prog E_spec_B10Signal (cl (cl (cl (cr (cr (cr (bodyC Try.f45))))))) 98 16 [(0, 64)] (spec_B10Signal_P1 r1 n_1 vout_a vout_n vout_e) H (loopQ (spec_B10Signal_I1 r1 Inv) μ Q)) : loopK (exL Try.prog E_spec_B10Signal (cl (cl (cl (cr (cr (cr (bodyC Try.f45))))))) 98 16 [(0, 64)]) (spec_B10Signal_P1 r1 n_1 vout_a vout_n vout_e) H Q :=
  ⟨spec_B10Signal_I1 r1 Inv, ν, ⟨n_1, vout_a, vout_n, vout_e, rfl, h0⟩, fun μ tm H h => by obtain ⟨n_1, vout_a, vout_n, vout_e, rfl, hI⟩ := h; exact hs μ n_1 vout_a vout_n vout_e  H hI⟩
theorem spec_B10Signal_n1 {r1 : Nat} {Q : Post} {Inv : Nat → Int → (Option Addr) → Nat → Nat → AHeap → Prop} {μ : Nat} (μ' : Nat) {n_1 : Int} {vout_a : Option Addr} {vout_n : Nat} {vout_e : Nat}  {H : AHeap} (hm : μ' < μ) (hI : Inv μ' n_1 vout_a vout_n vout_e H) : loopQ (spec_B10Signal_I1 r1 Inv) μ Q .normal (spec_B10Signal_P1 r1 n_1 vout_a vout_n vout_e) H := ⟨μ', hm, n_1, vout_a, vout_n, vout_e, rfl, hI⟩
theorem spec_B10Signal_x1_0 (vout_a : Option Addr) (vout_n : Nat) (vout_e : Nat) (H : AHeap) (K : Value → AHeap → Prop)  {I : Nat → List Value → AHeap → Prop} {μ : Nat} : loopQ I μ (blockQ 0 (seqQ (exL Try.prog E_spec_B10Signal (cr (cr (cr (cr (bodyC Try.f45))))) 16 16 []) (retK Try.prog Try.f45 K))) (.exit 0) [ud, ud, ud, ud, ud, ud, .slice vout_a vout_n vout_e, ud, ud, ud, ud, ud, ud, ud, ud, ud, ud, ud, ud, ud, ud, ud, ud] H =
  (K (.slice vout_a vout_n vout_e) H) := by kernel_rfl
theorem E_spec_B10Signal_ok : ∀ g, FnOk Try.prog g (E_spec_B10Signal g) := FnOk.envOf (by
  intro x hx
  simp only [List.mem_cons, List.not_mem_nil, or_false] at hx
  rcases hx with rfl | rfl
  · exact spec_l00From_ok
  · exact spec_l00Src_pick_ok)
theorem ω4 {P : Prop} (h : P := by first | rfl | omega | (simp only [List.length_set]; done) | (simp only [List.length_set, List.length_replicate]; omega)) : P := h
theorem ω7 {P : Prop} (h : P := by first | omega | (simp; done) | (simp; omega)) : P := h
theorem ω2 {P : Prop} (h : P := by first | (simp only [List.length_map, List.length_cons, List.length_nil, List.length_append]; done) | (simp only [List.length_map, List.length_cons, List.length_nil, List.length_append]; omega) | (simp only [List.length_map, List.length_cons, List.length_nil, List.length_append, List.length_take, List.length_drop]; omega)) : P := h
theorem ω13 {P : Prop} (h : P := by have := most_eq; omega) : P := h
theorem ω9 {P : Prop} (h : P := by first | omega) : P := h
theorem ω5 {P : Prop} (h : P := by first | omega | (simp only [List.length_append, List.length_cons, List.length_nil]; done) | (simp only [List.length_append, List.length_cons, List.length_nil]; omega) | (simp only [List.length_append, List.length_cons, List.length_nil, List.length_take, List.length_drop]; omega)) : P := h
theorem ω1 {P : Prop} (h : P := by first | omega | (simp only [List.length_append, List.length_cons, List.length_nil, List.length_set]; done) | (simp only [List.length_append, List.length_cons, List.length_nil, List.length_set]; omega)) : P := h
set_option maxHeartbeats 1000000 in
theorem spec_B10Signal_main (code_a : Option Addr) (code_n : Nat) (code_e : Nat) (n : Int) (H : AHeap) (K : Value → AHeap → Prop) (h : T_spec_B10Signal code_a code_n code_e n H fun (r1_a : Option Addr) (r1_n : Nat) (r1_e : Nat) (H' : AHeap) => K (.slice r1_a r1_n r1_e) H') : bodyL Try.prog E_spec_B10Signal Try.f45 [.slice code_a code_n code_e, .int .i64 n] H K := by
  rw [spec_B10Signal_vc]
  obtain ⟨l_code, i_code, bd_75, pr0, hk⟩ := h
  obtain rfl := i_code.eqn
  have e : (p_spec_B10Signal l_code n) = _ := rfl
  have e := e.trans (p_spec_B10Signal_eq l_code n)
  have g0 := Grow.refl H
  refine T_spec_l00From_i (fun b_1 H_1 hb_2 hl_3 g_4 o_5 => ?_)
  have o_5 : Own H_1 b_1 [.slice code_a l_code.length code_e, .int .i64 (0 : Int), .int .u64 (0 : Int)] := o_5
  have l_7 := g_4.1
  have g_8 := g0.trans g_4
  have l_9 := g_8.1
  have w_74 := o_5.lt
  refine Al.intro (fun b_10 H_2 hb_11 hl_12 g_13 o_14 => ?_)
  have o_14 : Own H_2 b_10 ((([] : List Nat)).map fF) := o_14
  have l_16 := g_13.1
  have g_17 := g_8.trans g_13
  have l_18 := g_17.1
  have o_19 := o_5.grow g_13
  have w_20 := o_19.lt
  have w_73 := o_14.lt
  refine spec_B10Signal_L1 _ (fun (μ : Nat) (n_1 : Int) (vout_a : Option Addr) (vout_n : Nat) (vout_e : Nat) (H_3 : AHeap) => ∃ (l_vout : List Nat), ∃ (b_21 : Nat), ∃ (q1_2 : Int), ∃ (q1_3 : Int), vout_a = some ⟨b_21, 0, none⟩ ∧ vout_n = l_vout.length ∧ vout_e = 1 ∧ Own H_3 b_21 (l_vout.map fF) ∧ Own H_3 b_1 [.slice code_a l_code.length code_e, .int .i64 q1_2, .int .u64 q1_3] ∧ (b_21 ≠ b_1) ∧ Grow H H_3 ∧ H.length ≤ b_21 ∧ (n_1 ≤ n ∨ 0 ≤ n_1) ∧ 0 ≤ q1_2 ∧  q1_2 ≤ 2 * (n - n_1) + 2 ∧  (l_vout.length : Int) ≤ n - n_1 ∧  n_1 ≤ n ∧ n_1 - 0 ≤ (μ : Int) ∧ p_spec_B10Signal l_code n = p_spec_B10Signal_l1 l_code n (μ + 1) n_1 l_vout q1_2 q1_3) (Int.toNat (n - 0)) _ _ _ _ H_2 ?_ ?_
  · exact ⟨_, _, _, _, rfl, ω4, rfl, o_14, (by first | exact o_19 | (have hbx := o_19; (try simp only [List.length_append, List.length_cons, List.length_nil, Nat.zero_add] at hbx); (try simp only [List.length_append, List.length_cons, List.length_nil, Nat.zero_add]); exact hbx)), ω3, g_17, ω3, ω7, ω7, ω7, ω7, ω7, ω3, e⟩
  · intro μ n_1 vout_a vout_n vout_e  H_3 hI
    obtain ⟨l_vout, b_21, q1_2, q1_3, rfl, rfl, rfl, o_22, o_23, n_24, g_25, l_26, v_27, v_28, v_29, v_30, v_31, hμ, e⟩ := hI
    rw [spec_B10Signal_r1]
    have e := e.trans (p_spec_B10Signal_l1_s l_code n μ n_1 l_vout q1_2 q1_3)
    have w_32 := o_23.lt
    have w_33 := o_22.lt
    have l_34 := g_25.1
    refine Br.intro (fun c_35 => ?_) (fun c_35 => ?_)
    · have e := e.trans (cond_t c_35)
      have c_35' := of_decide_eq_true c_35
      refine T_spec_l00Src_pick_i ⟨H, _, _, _, l_code, q1_2, q1_3, o_23, i_code, g_25, ω3, ω3, ω3, (fun H_4 k_36 o_37 => ?_)⟩
      have o_37 : Own H_4 b_1 [.slice code_a l_code.length code_e, .int .i64 ((p_spec_l00Src_pick l_code q1_2 q1_3 (65 : Int)).2.1), .int .u64 ((p_spec_l00Src_pick l_code q1_2 q1_3 (65 : Int)).2.2)] := o_37
      have z_43 := spec_l00Src_pick_rng l_code q1_2 q1_3 (65 : Int)
      have l_38 := k_36.1
      have g_39 := g_25.keep (b := b_1) ω3 k_36
      have l_40 := g_39.1
      have o_41 := o_22.keep ω3 k_36
      have w_42 := o_41.lt
      have w_72 := o_37.lt
      refine Al.intro (fun b_44 H_5 hb_45 hl_46 g_47 o_48 => ?_)
      have o_48 : Own H_5 b_44 (([(fdiv .f32 (FloatKind.nearest .f32 (IntKind.wrap .i64 (((p_spec_l00Src_pick l_code q1_2 q1_3 (65 : Int)).1) - 32))) 1082130432)]).map fF) := o_48
      have l_50 := g_47.1
      have g_51 := g_39.trans g_47
      have l_52 := g_51.1
      have o_53 := o_37.grow g_47
      have w_54 := o_53.lt
      have o_55 := o_41.grow g_47
      have w_56 := o_55.lt
      have w_71 := o_48.lt
      refine ⟨_, _, o_55.ownB ω2 rfl, (isl_rdS (o_48.isL ω4)), (fun h => by cases h), ω13, ?_⟩
      refine Ap.app o_55 rfl rfl (fun b_61 H_6 q_69 hl_57 o_58 k_59 => ?_)
      have o_58 := map_snoc o_58
      have l_62 := k_59.1
      have g_63 := g_51.keep (b := b_21) ω3 k_59
      have l_64 := g_63.1
      have o_65 := o_53.keep ω3 k_59
      have w_66 := o_65.lt
      have o_67 := o_48.keep ω3 k_59
      have w_68 := o_67.lt
      have w_70 := o_58.lt
      rw [show IntKind.wrap .i64 (n_1 - 1) = (n_1 - 1) from wrap64 ω3 ω3]
      refine spec_B10Signal_n1 (μ - 1) ω9 ⟨_, _, _, _, rfl, ω5, rfl, o_58, (by first | exact o_65 | (have hbx := o_65; (try simp only [List.length_append, List.length_cons, List.length_nil, Nat.zero_add] at hbx); (try simp only [List.length_append, List.length_cons, List.length_nil, Nat.zero_add]); exact hbx)), ω3, g_63, ω3, ω1, ω1, ω1, ω1, ω1, ω9, (by rw [show μ - 1 + 1 = μ from by first | omega]; exact e)⟩
    · have e := e.trans (cond_f c_35)
      have c_35' := of_decide_eq_false c_35
      rw [spec_B10Signal_x1_0]
      rw [e] at hk
      exact hk _ _ _ H_3 g_25 (o_22.ownS ω4 ω3)
theorem spec_B10Signal_ok : FnOk Try.prog 45 S_spec_B10Signal := by
  refine FnOk.body mix_ok E_spec_B10Signal_ok Try.func45 rfl (by kernel_rfl) (by kernel_rfl) ?_ ?_ ?_ ?_ ?_
  · intro args H K K' h hk
    simp only [S_spec_B10Signal] at *
    unfold F_spec_B10Signal at *
    split at hk
    · obtain ⟨l_code, i_code, bd_75, pr0, k⟩ := hk
      exact ⟨l_code, i_code, bd_75, pr0, (fun r1_a r1_n r1_e H' gg ow0 => h _ _ (k r1_a r1_n r1_e H' gg ow0))⟩
    · exact hk.elim
  · intro hq; cases hq
  · intro args H K hk
    simp only [S_spec_B10Signal] at *
    unfold F_spec_B10Signal at *
    split at hk
    · obtain ⟨l_code, i_code, bd_75, pr0, k⟩ := hk
      exact liveS fun a n e H1 g o => ⟨_, _, k a n e H1 g o⟩
    · exact hk.elim
  · intro _ args H K hk
    simp only [S_spec_B10Signal] at *
    unfold F_spec_B10Signal at *
    split at hk
    · obtain ⟨l_code, i_code, bd_75, pr0, k⟩ := hk
      exact ⟨l_code, i_code, bd_75, pr0, (fun r1_a r1_n r1_e H' gg ow0 => ⟨gg, k r1_a r1_n r1_e H' gg ow0⟩)⟩
    · exact hk.elim
  · have mm := @spec_B10Signal_main
    have ml := fun (args : List Value) (H : AHeap) (K : Value → AHeap → Prop) => bodyL_body (P := Try.prog) (env := E_spec_B10Signal ) (fn := Try.f45) (args := args) (H := H) (K := K) E_spec_B10Signal_ok 
    revert mm ml
    generalize bodyK Try.prog E_spec_B10Signal Try.f45 = Q
    generalize bodyL Try.prog E_spec_B10Signal Try.f45 = QL
    intro mm ml args H K hk
    simp only [S_spec_B10Signal] at *
    unfold F_spec_B10Signal at *
    split at hk
    · exact ml _ H K (mm _ _ _ _ H K hk)
    · exact hk.elim
def p_impl_within (n : Int) (low : Int) (high : Int) : Bool := (bif decide ((low : Int) ≤ n) then decide ((n : Int) ≤ high) else false)
def T_impl_within (n : Int) (low : Int) (high : Int) (H : AHeap) (K : Bool → AHeap → Prop) : Prop := K (p_impl_within n low high) H
theorem impl_within_t {n a b : Int} (h : p_impl_within n a b = true) : a ≤ n ∧ n ≤ b := by
  unfold p_impl_within at h
  by_cases h1 : a ≤ n
  · rw [decide_eq_true h1, cond_true] at h; exact ⟨h1, of_decide_eq_true h⟩
  · rw [decide_eq_false h1] at h; cases h
theorem T_impl_within_i {n : Int} {low : Int} {high : Int} {H : AHeap} {K : Bool → AHeap → Prop} (h : K (p_impl_within n low high) H) : T_impl_within n low high H K := h
/-! impl_within: function 96 -/
def E_impl_within : Env := envOf []
def F_impl_within : List Value → AHeap → (Value → AHeap → Prop) → Prop
  | [.int .i64 n, .int .i64 low, .int .i64 high], H, K => T_impl_within n low high H fun (r1 : Bool) (H' : AHeap) => K (.bool r1) H'
  | _, _, _ => False
def S_impl_within : FSpec := { F := F_impl_within, quiet := true, tame := false }
theorem impl_within_vc (n : Int) (low : Int) (high : Int) (H : AHeap) (K : Value → AHeap → Prop) : bodyL Try.prog E_impl_within Try.f96 [.int .i64 n, .int .i64 low, .int .i64 high] H K =
  (Br (decide ((low : Int) ≤ n)) (K (.bool (decide ((n : Int) ≤ high))) H) (K (.bool false) H)) := by kernel_rfl
theorem E_impl_within_ok : ∀ g, FnOk Try.prog g (E_impl_within g) := FnOk.envOf (by
  intro x hx; cases hx)
set_option maxHeartbeats 1000000 in
theorem impl_within_main (n : Int) (low : Int) (high : Int) (H : AHeap) (K : Value → AHeap → Prop) (h : T_impl_within n low high H fun (r1 : Bool) (H' : AHeap) => K (.bool r1) H') : bodyL Try.prog E_impl_within Try.f96 [.int .i64 n, .int .i64 low, .int .i64 high] H K := by
  rw [impl_within_vc]
  unfold T_impl_within p_impl_within at h
  repeat' (first | exact h | (exfalso; simp_all; done) | (refine ⟨by decide, ?_⟩) | (refine Br.intro (fun hb => ?_) (fun hb => ?_) <;> (try simp only [hb, cond_true, cond_false, Bool.not_true, Bool.not_false] at h)))
theorem impl_within_ok : FnOk Try.prog 96 S_impl_within := by
  refine FnOk.body mix_ok E_impl_within_ok Try.func96 rfl (by kernel_rfl) (by kernel_rfl) ?_ ?_ ?_ ?_ ?_
  · intro args H K K' h hk
    simp only [S_impl_within] at *
    unfold F_impl_within at *
    split at hk
    · have k := hk
      exact h _ _ k
    · exact hk.elim
  · intro _ args H K hk
    simp only [S_impl_within] at *
    unfold F_impl_within at *
    split at hk
    · have k := hk
      exact ⟨_, k, fun K' k' => k'⟩
    · exact hk.elim
  · intro args H K hk
    simp only [S_impl_within] at *
    unfold F_impl_within at *
    split at hk
    · have k := hk
      exact ⟨_, _, k⟩
    · exact hk.elim
  · intro hq; cases hq
  · have mm := @impl_within_main
    have ml := fun (args : List Value) (H : AHeap) (K : Value → AHeap → Prop) => bodyL_body (P := Try.prog) (env := E_impl_within ) (fn := Try.f96) (args := args) (H := H) (K := K) E_impl_within_ok 
    revert mm ml
    generalize bodyK Try.prog E_impl_within Try.f96 = Q
    generalize bodyL Try.prog E_impl_within Try.f96 = QL
    intro mm ml args H K hk
    simp only [S_impl_within] at *
    unfold F_impl_within at *
    split at hk
    · exact ml _ H K (mm _ _ _ H K hk)
    · exact hk.elim
def p_impl_IsFinite (x : Nat) : Bool := feq .f32 (fsub .f32 x x) 0
def T_impl_IsFinite (x : Nat) (H : AHeap) (K : Bool → AHeap → Prop) : Prop := K (p_impl_IsFinite x) H

theorem T_impl_IsFinite_i {x : Nat} {H : AHeap} {K : Bool → AHeap → Prop} (h : K (p_impl_IsFinite x) H) : T_impl_IsFinite x H K := h
/-! impl_IsFinite: function 133 -/
def E_impl_IsFinite : Env := envOf []
def F_impl_IsFinite : List Value → AHeap → (Value → AHeap → Prop) → Prop
  | [.float .f32 x], H, K => T_impl_IsFinite x H fun (r1 : Bool) (H' : AHeap) => K (.bool r1) H'
  | _, _, _ => False
def S_impl_IsFinite : FSpec := { F := F_impl_IsFinite, quiet := true, tame := false }
theorem impl_IsFinite_vc (x : Nat) (H : AHeap) (K : Value → AHeap → Prop) : bodyL Try.prog E_impl_IsFinite Try.f133 [.float .f32 x] H K =
  (K (.bool (feq .f32 (fsub .f32 x x) 0)) H) := by kernel_rfl
theorem E_impl_IsFinite_ok : ∀ g, FnOk Try.prog g (E_impl_IsFinite g) := FnOk.envOf (by
  intro x hx; cases hx)
set_option maxHeartbeats 1000000 in
theorem impl_IsFinite_main (x : Nat) (H : AHeap) (K : Value → AHeap → Prop) (h : T_impl_IsFinite x H fun (r1 : Bool) (H' : AHeap) => K (.bool r1) H') : bodyL Try.prog E_impl_IsFinite Try.f133 [.float .f32 x] H K := by
  rw [impl_IsFinite_vc]
  unfold T_impl_IsFinite p_impl_IsFinite at h
  repeat' (first | exact h | (exfalso; simp_all; done) | (refine ⟨by decide, ?_⟩) | (refine Br.intro (fun hb => ?_) (fun hb => ?_) <;> (try simp only [hb, cond_true, cond_false, Bool.not_true, Bool.not_false] at h)))
theorem impl_IsFinite_ok : FnOk Try.prog 133 S_impl_IsFinite := by
  refine FnOk.body mix_ok E_impl_IsFinite_ok Try.func133 rfl (by kernel_rfl) (by kernel_rfl) ?_ ?_ ?_ ?_ ?_
  · intro args H K K' h hk
    simp only [S_impl_IsFinite] at *
    unfold F_impl_IsFinite at *
    split at hk
    · have k := hk
      exact h _ _ k
    · exact hk.elim
  · intro _ args H K hk
    simp only [S_impl_IsFinite] at *
    unfold F_impl_IsFinite at *
    split at hk
    · have k := hk
      exact ⟨_, k, fun K' k' => k'⟩
    · exact hk.elim
  · intro args H K hk
    simp only [S_impl_IsFinite] at *
    unfold F_impl_IsFinite at *
    split at hk
    · have k := hk
      exact ⟨_, _, k⟩
    · exact hk.elim
  · intro hq; cases hq
  · have mm := @impl_IsFinite_main
    have ml := fun (args : List Value) (H : AHeap) (K : Value → AHeap → Prop) => bodyL_body (P := Try.prog) (env := E_impl_IsFinite ) (fn := Try.f133) (args := args) (H := H) (K := K) E_impl_IsFinite_ok 
    revert mm ml
    generalize bodyK Try.prog E_impl_IsFinite Try.f133 = Q
    generalize bodyL Try.prog E_impl_IsFinite Try.f133 = QL
    intro mm ml args H K hk
    simp only [S_impl_IsFinite] at *
    unfold F_impl_IsFinite at *
    split at hk
    · exact ml _ H K (mm _ H K hk)
    · exact hk.elim

def p_impl_areFinite_l2 (l_lists : List (List Nat)) (t2 : Bool) (t9 : Int) (k2_2 : Bool → Int → Bool) : Nat → Bool → Int → Bool
  | 0, _, _ => false
  | μ2 + 1, t2_2, t15 => (bif decide ((t15 : Int) < ((((l_lists).getD (t9 : Int).toNat [])).length : Int)) then (bif !((p_impl_IsFinite (((((l_lists).getD (t9 : Int).toNat [])).getD (t15 : Int).toNat 0)))) then false else (p_impl_areFinite_l2 l_lists t2 t9 k2_2 μ2 t2_2 (t15 + 1))) else (k2_2 t2_2 t15))
def p_impl_areFinite_l2_s := fun l_lists t2 t9 k2_2 μ2 t2_2 t15 => @p_impl_areFinite_l2.eq_2 l_lists t2 t9 k2_2 t2_2 t15 μ2
def p_impl_areFinite_l1 (l_lists : List (List Nat)) : Nat → Bool → Int → Bool
  | 0, _, _ => false
  | μ + 1, t2, t9 => (bif decide ((t9 : Int) < (l_lists.length : Int)) then (p_impl_areFinite_l2 l_lists t2 t9 (fun (t2_2 : Bool) (t15 : Int) => (p_impl_areFinite_l1 l_lists μ t2_2 (t9 + 1))) (Int.toNat (((((l_lists).getD (t9 : Int).toNat [])).length : Int) - (0 : Int)) + 1) t2 (0 : Int)) else true)
def p_impl_areFinite_l1_s := fun l_lists μ t2 t9 => @p_impl_areFinite_l1.eq_2 l_lists t2 t9 μ
def p_impl_areFinite (l_lists : List (List Nat)) : Bool := (p_impl_areFinite_l1 l_lists (Int.toNat ((l_lists.length : Int) - (0 : Int)) + 1) false (0 : Int))
def p_impl_areFinite_eq := @p_impl_areFinite.eq_1
def T_impl_areFinite (lists_a : Option Addr) (lists_n : Nat) (lists_e : Nat) (H : AHeap) (K : Bool → AHeap → Prop) : Prop := ∃ (l_lists : List (List Nat)), IsLL fF H lists_a lists_n l_lists ∧ l_lists.length < 1073741824 ∧ (∀ y ∈ l_lists, y.length < 1073741824) ∧ K (p_impl_areFinite l_lists) H
theorem T_impl_areFinite_i {lists_a : Option Addr} {lists_n : Nat} {lists_e : Nat} {H : AHeap} {K : Bool → AHeap → Prop} (h : ∃ (l_lists : List (List Nat)), IsLL fF H lists_a lists_n l_lists ∧ l_lists.length < 1073741824 ∧ (∀ y ∈ l_lists, y.length < 1073741824) ∧ K (p_impl_areFinite l_lists) H) : T_impl_areFinite lists_a lists_n lists_e H K := h

/-! impl_areFinite: function 166 -/
def E_impl_areFinite : Env := envOf [(133, S_impl_IsFinite)]
def F_impl_areFinite : List Value → AHeap → (Value → AHeap → Prop) → Prop
  | [.slice lists_a lists_n lists_e], H, K => T_impl_areFinite lists_a lists_n lists_e H fun (r1 : Bool) (H' : AHeap) => K (.bool r1) H'
  | _, _, _ => False
def S_impl_areFinite : FSpec := { F := F_impl_areFinite, quiet := true, tame := false }
theorem impl_areFinite_vc (lists_a : Option Addr) (lists_n : Nat) (lists_e : Nat) (H : AHeap) (K : Value → AHeap → Prop) : bodyL Try.prog E_impl_areFinite Try.f166 [.slice lists_a lists_n lists_e] H K =
  (loopK (exL Try.prog E_impl_areFinite (cl (cl (cr (cl (cr (bodyC Try.f166)))))) 896 4 [(0, 0)]) [ud, ud, ud, ud, ud, ud, ud, .slice lists_a lists_n lists_e, .int .i64 (lists_n : Int), .int .i64 0, ud, ud, ud, ud, ud, ud, ud, ud, ud, ud, ud, ud, ud, ud] H (blockQ 0 (seqQ (exL Try.prog E_impl_areFinite (cr (cr (bodyC Try.f166))) 4 4 []) (retK Try.prog Try.f166 K)))) := by kernel_rfl
abbrev impl_areFinite_P1 (lists_a : Option Addr) (lists_e : Nat) (lists_n : Nat) (t9 : Int)  : List Value := [ud, ud, ud, ud, ud, ud, ud, .slice lists_a lists_n lists_e, .int .i64 (lists_n : Int), .int .i64 t9, ud, ud, ud, ud, ud, ud, ud, ud, ud, ud, ud, ud, ud, ud]
theorem impl_areFinite_r1 (lists_a : Option Addr) (lists_e : Nat) (lists_n : Nat) (t9 : Int)  (H : AHeap) (R : Post) : exL Try.prog E_impl_areFinite (cl (cl (cr (cl (cr (bodyC Try.f166)))))) 896 4 [(0, 0)] (impl_areFinite_P1 lists_a lists_e lists_n t9) H R =
  (Br (decide ((t9 : Int) < (lists_n : Int))) ((0 : Int) ≤ t9 ∧ t9 < (lists_n : Int) ∧ ∃ b1 f1, (lists_a : Option Addr) = some ⟨b1, f1, none⟩ ∧ ∃ x1_a : Option Addr, ∃ x1_n : Nat, ∃ x1_e : Nat,  rdC H b1 (f1 + (t9 : Int).toNat * 1) = some (.slice x1_a x1_n x1_e) ∧ loopK (exL Try.prog E_impl_areFinite (cl (cl (cr (cr (cl (cl (cr (cr (cl (cl (cr (cl (cr (bodyC Try.f166)))))))))))))) 58240 4 [(2, 896), (1, 896), (0, 0)]) [ud, ud, ud, ud, ud, ud, ud, .slice lists_a lists_n lists_e, .int .i64 (lists_n : Int), .int .i64 t9, ud, ud, ud, .slice x1_a x1_n x1_e, .int .i64 (x1_n : Int), .int .i64 0, ud, ud, ud, ud, ud, ud, ud, ud] H (blockQ 2 (blockQ 1 (seqQ (exL Try.prog E_impl_areFinite (cr (cr (cr (cl (cl (cr (cl (cr (bodyC Try.f166))))))))) 896 4 [(0, 0)]) (R))))) (R (.exit 0) [ud, ud, ud, ud, ud, ud, ud, ud, ud, ud, ud, ud, ud, ud, ud, ud, ud, ud, ud, ud, ud, ud, ud, ud] H)) := by kernel_rfl
def impl_areFinite_I1 (lists_a : Option Addr) (lists_e : Nat) (lists_n : Nat) (Inv : Nat → Int → AHeap → Prop) : Nat → List Value → AHeap → Prop := fun μ tm H => ∃ (t9 : Int), tm = (impl_areFinite_P1 lists_a lists_e lists_n t9) ∧ Inv μ t9 H
theorem impl_areFinite_L1 (lists_a : Option Addr) (lists_e : Nat) (lists_n : Nat) {Q : Post} (Inv : Nat → Int → AHeap → Prop) (ν : Nat) (t9 : Int)  (H : AHeap) (h0 : Inv ν t9 H)
    (hs : ∀ (μ : Nat) (t9 : Int)  (H : AHeap), Inv μ t9 H → exL Try.prog E_impl_areFinite (cl (cl (cr (cl (cr (bodyC Try.f166)))))) 896 4 [(0, 0)] (impl_areFinite_P1 lists_a lists_e lists_n t9) H (loopQ (impl_areFinite_I1 lists_a lists_e lists_n Inv) μ Q)) : loopK (exL Try.prog E_impl_areFinite (cl (cl (cr (cl (cr (bodyC Try.f166)))))) 896 4 [(0, 0)]) (impl_areFinite_P1 lists_a lists_e lists_n t9) H Q :=
  ⟨impl_areFinite_I1 lists_a lists_e lists_n Inv, ν, ⟨t9, rfl, h0⟩, fun μ tm H h => by obtain ⟨t9, rfl, hI⟩ := h; exact hs μ t9  H hI⟩
theorem impl_areFinite_n1 {lists_a : Option Addr} {lists_e : Nat} {lists_n : Nat} {Q : Post} {Inv : Nat → Int → AHeap → Prop} {μ : Nat} (μ' : Nat) {t9 : Int}  {H : AHeap} (hm : μ' < μ) (hI : Inv μ' t9 H) : loopQ (impl_areFinite_I1 lists_a lists_e lists_n Inv) μ Q .normal (impl_areFinite_P1 lists_a lists_e lists_n t9) H := ⟨μ', hm, t9, rfl, hI⟩
theorem impl_areFinite_x1_0  (H : AHeap) (K : Value → AHeap → Prop)  {I : Nat → List Value → AHeap → Prop} {μ : Nat} : loopQ I μ (blockQ 0 (seqQ (exL Try.prog E_impl_areFinite (cr (cr (bodyC Try.f166))) 4 4 []) (retK Try.prog Try.f166 K))) (.exit 0) [ud, ud, ud, ud, ud, ud, ud, ud, ud, ud, ud, ud, ud, ud, ud, ud, ud, ud, ud, ud, ud, ud, ud, ud] H =
  (K (.bool true) H) := by kernel_rfl
theorem impl_areFinite_x1_ret (t2 : Bool) (H : AHeap) (K : Value → AHeap → Prop)  {I : Nat → List Value → AHeap → Prop} {μ : Nat} : loopQ I μ (blockQ 0 (seqQ (exL Try.prog E_impl_areFinite (cr (cr (bodyC Try.f166))) 4 4 []) (retK Try.prog Try.f166 K))) .ret [ud, ud, .bool t2, ud, ud, ud, ud, ud, ud, ud, ud, ud, ud, ud, ud, ud, ud, ud, ud, ud, ud, ud, ud, ud] H =
  (K (.bool t2) H) := by kernel_rfl
abbrev impl_areFinite_P2 (lists_a : Option Addr) (lists_e : Nat) (lists_n : Nat) (t9 : Int) (x1_a : Option Addr) (x1_e : Nat) (x1_n : Nat) (t15 : Int)  : List Value := [ud, ud, ud, ud, ud, ud, ud, .slice lists_a lists_n lists_e, .int .i64 (lists_n : Int), .int .i64 t9, ud, ud, ud, .slice x1_a x1_n x1_e, .int .i64 (x1_n : Int), .int .i64 t15, ud, ud, ud, ud, ud, ud, ud, ud]
theorem impl_areFinite_r2 (lists_a : Option Addr) (lists_e : Nat) (lists_n : Nat) (t9 : Int) (x1_a : Option Addr) (x1_e : Nat) (x1_n : Nat) (t15 : Int)  (H : AHeap) (R : Post) : exL Try.prog E_impl_areFinite (cl (cl (cr (cr (cl (cl (cr (cr (cl (cl (cr (cl (cr (bodyC Try.f166)))))))))))))) 58240 4 [(2, 896), (1, 896), (0, 0)] (impl_areFinite_P2 lists_a lists_e lists_n t9 x1_a x1_e x1_n t15) H R =
  (Br (decide ((t15 : Int) < (x1_n : Int))) ((0 : Int) ≤ t15 ∧ t15 < (x1_n : Int) ∧ ∃ b2 f2, (x1_a : Option Addr) = some ⟨b2, f2, none⟩ ∧ ∃ x2 : Nat,  rdC H b2 (f2 + (t15 : Int).toNat * 1) = some (.float .f32 x2) ∧ T_impl_IsFinite x2 H fun (r1 : Bool) (H1 : AHeap) => Br (!r1) (R .ret [ud, ud, .bool false, ud, ud, ud, ud, ud, ud, ud, ud, ud, ud, ud, ud, ud, ud, ud, ud, ud, ud, ud, ud, ud] H1) (R .normal [ud, ud, ud, ud, ud, ud, ud, .slice lists_a lists_n lists_e, .int .i64 (lists_n : Int), .int .i64 t9, ud, ud, ud, .slice x1_a x1_n x1_e, .int .i64 (x1_n : Int), .int .i64 (IntKind.wrap .i64 (t15 + 1)), ud, ud, ud, ud, ud, ud, ud, ud] H1)) (R (.exit 2) [ud, ud, ud, ud, ud, ud, ud, .slice lists_a lists_n lists_e, .int .i64 (lists_n : Int), .int .i64 t9, ud, ud, ud, ud, ud, ud, ud, ud, ud, ud, ud, ud, ud, ud] H)) := by kernel_rfl
def impl_areFinite_I2 (lists_a : Option Addr) (lists_e : Nat) (lists_n : Nat) (t9 : Int) (x1_a : Option Addr) (x1_e : Nat) (x1_n : Nat) (Inv : Nat → Int → AHeap → Prop) : Nat → List Value → AHeap → Prop := fun μ tm H => ∃ (t15 : Int), tm = (impl_areFinite_P2 lists_a lists_e lists_n t9 x1_a x1_e x1_n t15) ∧ Inv μ t15 H
theorem impl_areFinite_L2 (lists_a : Option Addr) (lists_e : Nat) (lists_n : Nat) (t9 : Int) (x1_a : Option Addr) (x1_e : Nat) (x1_n : Nat) {Q : Post} (Inv : Nat → Int → AHeap → Prop) (ν : Nat) (t15 : Int)  (H : AHeap) (h0 : Inv ν t15 H)
    (hs : ∀ (μ : Nat) (t15 : Int)  (H : AHeap), Inv μ t15 H → exL Try.prog E_impl_areFinite (cl (cl (cr (cr (cl (cl (cr (cr (cl (cl (cr (cl (cr (bodyC Try.f166)))))))))))))) 58240 4 [(2, 896), (1, 896), (0, 0)] (impl_areFinite_P2 lists_a lists_e lists_n t9 x1_a x1_e x1_n t15) H (loopQ (impl_areFinite_I2 lists_a lists_e lists_n t9 x1_a x1_e x1_n Inv) μ Q)) : loopK (exL Try.prog E_impl_areFinite (cl (cl (cr (cr (cl (cl (cr (cr (cl (cl (cr (cl (cr (bodyC Try.f166)))))))))))))) 58240 4 [(2, 896), (1, 896), (0, 0)]) (impl_areFinite_P2 lists_a lists_e lists_n t9 x1_a x1_e x1_n t15) H Q :=
  ⟨impl_areFinite_I2 lists_a lists_e lists_n t9 x1_a x1_e x1_n Inv, ν, ⟨t15, rfl, h0⟩, fun μ tm H h => by obtain ⟨t15, rfl, hI⟩ := h; exact hs μ t15  H hI⟩
theorem impl_areFinite_n2 {lists_a : Option Addr} {lists_e : Nat} {lists_n : Nat} {t9 : Int} {x1_a : Option Addr} {x1_e : Nat} {x1_n : Nat} {Q : Post} {Inv : Nat → Int → AHeap → Prop} {μ : Nat} (μ' : Nat) {t15 : Int}  {H : AHeap} (hm : μ' < μ) (hI : Inv μ' t15 H) : loopQ (impl_areFinite_I2 lists_a lists_e lists_n t9 x1_a x1_e x1_n Inv) μ Q .normal (impl_areFinite_P2 lists_a lists_e lists_n t9 x1_a x1_e x1_n t15) H := ⟨μ', hm, t15, rfl, hI⟩
theorem impl_areFinite_x2_2 (lists_a : Option Addr) (lists_e : Nat) (lists_n : Nat) (t9 : Int) (H : AHeap)  (R : Post) {I : Nat → List Value → AHeap → Prop} {μ : Nat} : loopQ I μ (blockQ 2 (blockQ 1 (seqQ (exL Try.prog E_impl_areFinite (cr (cr (cr (cl (cl (cr (cl (cr (bodyC Try.f166))))))))) 896 4 [(0, 0)]) (R)))) (.exit 2) [ud, ud, ud, ud, ud, ud, ud, .slice lists_a lists_n lists_e, .int .i64 (lists_n : Int), .int .i64 t9, ud, ud, ud, ud, ud, ud, ud, ud, ud, ud, ud, ud, ud, ud] H =
  (R .normal [ud, ud, ud, ud, ud, ud, ud, .slice lists_a lists_n lists_e, .int .i64 (lists_n : Int), .int .i64 (IntKind.wrap .i64 (t9 + 1)), ud, ud, ud, ud, ud, ud, ud, ud, ud, ud, ud, ud, ud, ud] H) := by kernel_rfl
theorem impl_areFinite_x2_ret (t2_2 : Bool) (H : AHeap)  (R : Post) {I : Nat → List Value → AHeap → Prop} {μ : Nat} : loopQ I μ (blockQ 2 (blockQ 1 (seqQ (exL Try.prog E_impl_areFinite (cr (cr (cr (cl (cl (cr (cl (cr (bodyC Try.f166))))))))) 896 4 [(0, 0)]) (R)))) .ret [ud, ud, .bool t2_2, ud, ud, ud, ud, ud, ud, ud, ud, ud, ud, ud, ud, ud, ud, ud, ud, ud, ud, ud, ud, ud] H =
  (R .ret [ud, ud, .bool t2_2, ud, ud, ud, ud, ud, ud, ud, ud, ud, ud, ud, ud, ud, ud, ud, ud, ud, ud, ud, ud, ud] H) := by kernel_rfl
theorem E_impl_areFinite_ok : ∀ g, FnOk Try.prog g (E_impl_areFinite g) := FnOk.envOf (by
  intro x hx
  simp only [List.mem_cons, List.not_mem_nil, or_false] at hx
  subst hx; exact impl_IsFinite_ok)
set_option maxHeartbeats 1000000 in
theorem impl_areFinite_main (lists_a : Option Addr) (lists_n : Nat) (lists_e : Nat) (H : AHeap) (K : Value → AHeap → Prop) (h : T_impl_areFinite lists_a lists_n lists_e H fun (r1 : Bool) (H' : AHeap) => K (.bool r1) H') : bodyL Try.prog E_impl_areFinite Try.f166 [.slice lists_a lists_n lists_e] H K := by
  rw [impl_areFinite_vc]
  obtain ⟨l_lists, i_lists, bd_22, bb_l_lists, hk⟩ := h
  obtain rfl := i_lists.eqn
  have e : (p_impl_areFinite l_lists) = _ := rfl
  have e := e.trans (p_impl_areFinite_eq l_lists)
  have g0 := Grow.refl H
  refine impl_areFinite_L1 _ _ _ (fun (μ : Nat) (t9 : Int) (H_1 : AHeap) => ∃ (t2 : Bool), H = H_1 ∧ (0 : Int) ≤ t9 ∧ t9 ≤ (l_lists.length : Int) ∧ (l_lists.length : Int) - t9 ≤ (μ : Int) ∧ p_impl_areFinite l_lists = p_impl_areFinite_l1 l_lists (μ + 1) t2 t9) (Int.toNat ((l_lists.length : Int) - (0 : Int))) _ H ?_ ?_
  · exact ⟨_, rfl, ω7, ω7, ω3, e⟩
  · intro μ t9  H_1 hI
    obtain ⟨t2, rfl, v_1, v_2, hμ, e⟩ := hI
    rw [impl_areFinite_r1]
    have e := e.trans (p_impl_areFinite_l1_s l_lists μ t2 t9)
    have l_3 := g0.1
    refine Br.intro (fun c_4 => ?_) (fun c_4 => ?_)
    · have e := e.trans (cond_t c_4)
      have c_4' := of_decide_eq_true c_4
      obtain ⟨b_5, f_6, q_7⟩ := ((i_lists.grow g0)).pos ω0
      refine ⟨by omega, by omega, b_5, f_6, q_7, ?_⟩
      obtain ⟨a_8, n_9, e_10, r_11, i_12⟩ := (i_lists).rd (i := (t9 : Int).toNat) g0 q_7 ω3
      obtain rfl := i_12.eqn
      refine ⟨a_8, _, e_10, r_11, ?_⟩
      have z_13 := getD_len bb_l_lists (t9 : Int).toNat
      refine impl_areFinite_L2 _ _ _ _ _ _ _ (fun (μ2 : Nat) (t15 : Int) (H_2 : AHeap) => ∃ (t2_2 : Bool), H = H_2 ∧ (0 : Int) ≤ t15 ∧ t15 ≤ ((((l_lists).getD (t9 : Int).toNat [])).length : Int) ∧ ((((l_lists).getD (t9 : Int).toNat [])).length : Int) - t15 ≤ (μ2 : Int) ∧ p_impl_areFinite l_lists = p_impl_areFinite_l2 l_lists t2 t9 (fun (t2_2 : Bool) (t15 : Int) => (p_impl_areFinite_l1 l_lists μ t2_2 (t9 + 1))) (μ2 + 1) t2_2 t15) (Int.toNat (((((l_lists).getD (t9 : Int).toNat [])).length : Int) - (0 : Int))) _ H ?_ ?_
      · exact ⟨_, rfl, ω7, ω7, ω3, e⟩
      · intro μ2 t15  H_2 hI
        obtain ⟨t2_2, rfl, v_14, v_15, hμ, e⟩ := hI
        rw [impl_areFinite_r2]
        have e := e.trans (p_impl_areFinite_l2_s l_lists t2 t9 (fun (t2_2 : Bool) (t15 : Int) => (p_impl_areFinite_l1 l_lists μ t2_2 (t9 + 1))) μ2 t2_2 t15)
        have l_16 := g0.1
        refine Br.intro (fun c_17 => ?_) (fun c_17 => ?_)
        · have e := e.trans (cond_t c_17)
          have c_17' := of_decide_eq_true c_17
          obtain ⟨b_18, f_19, q_20⟩ := ((i_12.grow g0)).pos ω0
          refine ⟨by omega, by omega, b_18, f_19, q_20, ?_⟩
          refine ⟨((((l_lists).getD (t9 : Int).toNat [])).getD (t15 : Int).toNat 0), (i_12).rd g0 q_20 ω3 _, ?_⟩
          refine T_impl_IsFinite_i ?_
          refine Br.intro (fun c_21 => ?_) (fun c_21 => ?_)
          · have e := e.trans (cond_t c_21)
            have c_21n := nf_of_t c_21
            rw [impl_areFinite_x2_ret]
            rw [impl_areFinite_x1_ret]
            rw [e] at hk
            exact hk
          · have e := e.trans (cond_f c_21)
            have c_21n := nt_of_f c_21
            rw [show IntKind.wrap .i64 (t15 + 1) = (t15 + 1) from wrap64 ω3 ω3]
            refine impl_areFinite_n2 (μ2 - 1) ω9 ⟨_, rfl, ω1, ω1, ω9, (by rw [show μ2 - 1 + 1 = μ2 from by first | omega]; exact e)⟩
        · have e := e.trans (cond_f c_17)
          have c_17' := of_decide_eq_false c_17
          rw [impl_areFinite_x2_2]
          rw [show IntKind.wrap .i64 (t9 + 1) = (t9 + 1) from wrap64 ω3 ω3]
          refine impl_areFinite_n1 (μ - 1) ω9 ⟨_, rfl, ω1, ω1, ω9, (by rw [show μ - 1 + 1 = μ from by first | omega]; exact e)⟩
    · have e := e.trans (cond_f c_4)
      have c_4' := of_decide_eq_false c_4
      rw [impl_areFinite_x1_0]
      rw [e] at hk
      exact hk
theorem impl_areFinite_ok : FnOk Try.prog 166 S_impl_areFinite := by
  refine FnOk.body mix_ok E_impl_areFinite_ok Try.func166 rfl (by kernel_rfl) (by kernel_rfl) ?_ ?_ ?_ ?_ ?_
  · intro args H K K' h hk
    simp only [S_impl_areFinite] at *
    unfold F_impl_areFinite at *
    split at hk
    · obtain ⟨l_lists, i_lists, bd_22, bb_l_lists, k⟩ := hk
      exact ⟨l_lists, i_lists, bd_22, bb_l_lists, h _ _ k⟩
    · exact hk.elim
  · intro _ args H K hk
    simp only [S_impl_areFinite] at *
    unfold F_impl_areFinite at *
    split at hk
    · obtain ⟨l_lists, i_lists, bd_22, bb_l_lists, k⟩ := hk
      exact ⟨_, k, fun K' k' => ⟨l_lists, i_lists, bd_22, bb_l_lists, k'⟩⟩
    · exact hk.elim
  · intro args H K hk
    simp only [S_impl_areFinite] at *
    unfold F_impl_areFinite at *
    split at hk
    · obtain ⟨l_lists, i_lists, bd_22, bb_l_lists, k⟩ := hk
      exact ⟨_, _, k⟩
    · exact hk.elim
  · intro hq; cases hq
  · have mm := @impl_areFinite_main
    have ml := fun (args : List Value) (H : AHeap) (K : Value → AHeap → Prop) => bodyL_body (P := Try.prog) (env := E_impl_areFinite ) (fn := Try.f166) (args := args) (H := H) (K := K) E_impl_areFinite_ok 
    revert mm ml
    generalize bodyK Try.prog E_impl_areFinite Try.f166 = Q
    generalize bodyL Try.prog E_impl_areFinite Try.f166 = QL
    intro mm ml args H K hk
    simp only [S_impl_areFinite] at *
    unfold F_impl_areFinite at *
    split at hk
    · exact ml _ H K (mm _ _ _ H K hk)
    · exact hk.elim

def p_impl_isLong (l_list : List Nat) : Bool := (bif (p_impl_within (l_list.length : Int) (1 : Int) (128 : Int)) then (p_impl_areFinite ([l_list])) else false)
def p_impl_isLong_eq := @p_impl_isLong.eq_1
def T_impl_isLong (list_a : Option Addr) (list_n : Nat) (list_e : Nat) (H : AHeap) (K : Bool → AHeap → Prop) : Prop := ∃ (l_list : List Nat), IsL fF H list_a list_n l_list ∧ l_list.length < 1073741824 ∧ ((∀ H' : AHeap, Grow H H' → K (p_impl_isLong l_list) H'))
theorem T_impl_isLong_i {list_a : Option Addr} {list_n : Nat} {list_e : Nat} {H : AHeap} {K : Bool → AHeap → Prop} (h : ∃ (l_list : List Nat), IsL fF H list_a list_n l_list ∧ l_list.length < 1073741824 ∧ ((∀ H' : AHeap, Grow H H' → K (p_impl_isLong l_list) H'))) : T_impl_isLong list_a list_n list_e H K := h
theorem impl_isLong_t {l : List Nat} (h : p_impl_isLong l = true) : 1 ≤ (l.length : Int) ∧ (l.length : Int) ≤ 128 := by
  rw [p_impl_isLong_eq] at h
  cases h1 : p_impl_within (l.length : Int) 1 128
  · rw [h1] at h; cases h
  · exact impl_within_t h1
/-! impl_isLong: function 105 -/
def E_impl_isLong : Env := envOf [(96, S_impl_within), (166, S_impl_areFinite)]
def F_impl_isLong : List Value → AHeap → (Value → AHeap → Prop) → Prop
  | [.slice list_a list_n list_e], H, K => T_impl_isLong list_a list_n list_e H fun (r1 : Bool) (H' : AHeap) => K (.bool r1) H'
  | _, _, _ => False
def S_impl_isLong : FSpec := { F := F_impl_isLong, quiet := false, tame := true }
theorem impl_isLong_vc (list_a : Option Addr) (list_n : Nat) (list_e : Nat) (H : AHeap) (K : Value → AHeap → Prop) : bodyL Try.prog E_impl_isLong Try.f105 [.slice list_a list_n list_e] H K =
  (T_impl_within (list_n : Int) 1 128 H fun (r1 : Bool) (H1 : AHeap) => Br r1 (Al [.slice list_a list_n list_e] H1 fun b1 H2 => T_impl_areFinite (some ⟨b1, 0, none⟩) 1 1 H2 fun (r2 : Bool) (H3 : AHeap) => K (.bool r2) H3) (K (.bool false) H1)) := by kernel_rfl
theorem E_impl_isLong_ok : ∀ g, FnOk Try.prog g (E_impl_isLong g) := FnOk.envOf (by
  intro x hx
  simp only [List.mem_cons, List.not_mem_nil, or_false] at hx
  rcases hx with rfl | rfl
  · exact impl_within_ok
  · exact impl_areFinite_ok)
set_option maxHeartbeats 1000000 in
theorem impl_isLong_main (list_a : Option Addr) (list_n : Nat) (list_e : Nat) (H : AHeap) (K : Value → AHeap → Prop) (h : T_impl_isLong list_a list_n list_e H fun (r1 : Bool) (H' : AHeap) => K (.bool r1) H') : bodyL Try.prog E_impl_isLong Try.f105 [.slice list_a list_n list_e] H K := by
  rw [impl_isLong_vc]
  obtain ⟨l_list, i_list, bd_12, hk⟩ := h
  obtain rfl := i_list.eqn
  have e : (p_impl_isLong l_list) = _ := rfl
  have e := e.trans (p_impl_isLong_eq l_list)
  have g0 := Grow.refl H
  refine T_impl_within_i ?_
  refine Br.intro (fun c_1 => ?_) (fun c_1 => ?_)
  · have e := e.trans (cond_t c_1)
    have c_1' := impl_within_t c_1
    refine Al.intro (fun b_2 H_1 hb_3 hl_4 g_5 o_6 => ?_)
    have l_8 := g_5.1
    have g_9 := g0.trans g_5
    have l_10 := g_9.1
    have w_11 := o_6.lt
    refine T_impl_areFinite_i ⟨[l_list], ⟨_, o_6.rdAll rfl, LLc.cons (i_list.grow g_9) (LLc.nil _ _)⟩, ω0, (by first | assumption | exact or_right (by assumption) (by omega) | exact or_right (by assumption : _ ∧ (_ ∨ _)).2 (by omega) | (intro y hy; simp only [List.mem_cons, List.not_mem_nil, or_false] at hy; first | omega | (subst hy; omega) | (rcases hy with rfl | rfl <;> omega) | (rcases hy with rfl | rfl | rfl <;> omega))), ?_⟩
    rw [e] at hk
    exact hk  H_1 g_9 
  · have e := e.trans (cond_f c_1)
    rw [e] at hk
    exact hk  H g0 
theorem impl_isLong_ok : FnOk Try.prog 105 S_impl_isLong := by
  refine FnOk.body mix_ok E_impl_isLong_ok Try.func105 rfl (by kernel_rfl) (by kernel_rfl) ?_ ?_ ?_ ?_ ?_
  · intro args H K K' h hk
    simp only [S_impl_isLong] at *
    unfold F_impl_isLong at *
    split at hk
    · obtain ⟨l_list, i_list, bd_12, k⟩ := hk
      exact ⟨l_list, i_list, bd_12, (fun  H' gg  => h _ _ (k  H' gg ))⟩
    · exact hk.elim
  · intro hq; cases hq
  · intro args H K hk
    simp only [S_impl_isLong] at *
    unfold F_impl_isLong at *
    split at hk
    · obtain ⟨l_list, i_list, bd_12, k⟩ := hk
      exact ⟨_, _, k H (Grow.refl H)⟩
    · exact hk.elim
  · intro _ args H K hk
    simp only [S_impl_isLong] at *
    unfold F_impl_isLong at *
    split at hk
    · obtain ⟨l_list, i_list, bd_12, k⟩ := hk
      exact ⟨l_list, i_list, bd_12, (fun  H' gg  => ⟨gg, k  H' gg ⟩)⟩
    · exact hk.elim
  · have mm := @impl_isLong_main
    have ml := fun (args : List Value) (H : AHeap) (K : Value → AHeap → Prop) => bodyL_body (P := Try.prog) (env := E_impl_isLong ) (fn := Try.f105) (args := args) (H := H) (K := K) E_impl_isLong_ok 
    revert mm ml
    generalize bodyK Try.prog E_impl_isLong Try.f105 = Q
    generalize bodyL Try.prog E_impl_isLong Try.f105 = QL
    intro mm ml args H K hk
    simp only [S_impl_isLong] at *
    unfold F_impl_isLong at *
    split at hk
    · exact ml _ H K (mm _ _ _ H K hk)
    · exact hk.elim

def p_impl_added_l1 (l_list : List Nat) : Nat → Nat → Int → Nat
  | 0, _, _ => 0
  | μ + 1, sum, t8 => (bif decide ((t8 : Int) < (l_list.length : Int)) then (p_impl_added_l1 l_list μ (fadd .f32 sum (((l_list).getD (t8 : Int).toNat 0))) (t8 + 1)) else sum)
def p_impl_added_l1_s := fun l_list μ sum t8 => @p_impl_added_l1.eq_2 l_list sum t8 μ
def p_impl_added (l_list : List Nat) : Nat := (p_impl_added_l1 l_list (Int.toNat ((l_list.length : Int) - (0 : Int)) + 1) 0 (0 : Int))
def p_impl_added_eq := @p_impl_added.eq_1
def T_impl_added (list_a : Option Addr) (list_n : Nat) (list_e : Nat) (H : AHeap) (K : Nat → AHeap → Prop) : Prop := ∃ (l_list : List Nat), IsL fF H list_a list_n l_list ∧ l_list.length < 1073741824 ∧ K (p_impl_added l_list) H
theorem T_impl_added_i {list_a : Option Addr} {list_n : Nat} {list_e : Nat} {H : AHeap} {K : Nat → AHeap → Prop} (h : ∃ (l_list : List Nat), IsL fF H list_a list_n l_list ∧ l_list.length < 1073741824 ∧ K (p_impl_added l_list) H) : T_impl_added list_a list_n list_e H K := h

/-! impl_added: function 182 -/
def E_impl_added : Env := envOf []
def F_impl_added : List Value → AHeap → (Value → AHeap → Prop) → Prop
  | [.slice list_a list_n list_e], H, K => T_impl_added list_a list_n list_e H fun (r1 : Nat) (H' : AHeap) => K (.float .f32 r1) H'
  | _, _, _ => False
def S_impl_added : FSpec := { F := F_impl_added, quiet := true, tame := false }
theorem impl_added_vc (list_a : Option Addr) (list_n : Nat) (list_e : Nat) (H : AHeap) (K : Value → AHeap → Prop) : bodyL Try.prog E_impl_added Try.f182 [.slice list_a list_n list_e] H K =
  (loopK (exL Try.prog E_impl_added (cl (cl (cr (cl (cr (cr (bodyC Try.f182))))))) 456 4 [(0, 8)]) [ud, ud, ud, .float .f32 0, ud, ud, .slice list_a list_n list_e, .int .i64 (list_n : Int), .int .i64 0, ud, ud, ud, ud, ud, ud, ud, ud] H (blockQ 0 (seqQ (exL Try.prog E_impl_added (cr (cr (cr (bodyC Try.f182)))) 4 4 []) (retK Try.prog Try.f182 K)))) := by kernel_rfl
abbrev impl_added_P1 (list_a : Option Addr) (list_e : Nat) (list_n : Nat) (sum : Nat) (t8 : Int)  : List Value := [ud, ud, ud, .float .f32 sum, ud, ud, .slice list_a list_n list_e, .int .i64 (list_n : Int), .int .i64 t8, ud, ud, ud, ud, ud, ud, ud, ud]
theorem impl_added_r1 (list_a : Option Addr) (list_e : Nat) (list_n : Nat) (sum : Nat) (t8 : Int)  (H : AHeap) (R : Post) : exL Try.prog E_impl_added (cl (cl (cr (cl (cr (cr (bodyC Try.f182))))))) 456 4 [(0, 8)] (impl_added_P1 list_a list_e list_n sum t8) H R =
  (Br (decide ((t8 : Int) < (list_n : Int))) ((0 : Int) ≤ t8 ∧ t8 < (list_n : Int) ∧ ∃ b1 f1, (list_a : Option Addr) = some ⟨b1, f1, none⟩ ∧ ∃ x1 : Nat,  rdC H b1 (f1 + (t8 : Int).toNat * 1) = some (.float .f32 x1) ∧ R .normal [ud, ud, ud, .float .f32 (fadd .f32 sum x1), ud, ud, .slice list_a list_n list_e, .int .i64 (list_n : Int), .int .i64 (IntKind.wrap .i64 (t8 + 1)), ud, ud, ud, ud, ud, ud, ud, ud] H) (R (.exit 0) [ud, ud, ud, .float .f32 sum, ud, ud, ud, ud, ud, ud, ud, ud, ud, ud, ud, ud, ud] H)) := by kernel_rfl
def impl_added_I1 (list_a : Option Addr) (list_e : Nat) (list_n : Nat) (Inv : Nat → Nat → Int → AHeap → Prop) : Nat → List Value → AHeap → Prop := fun μ tm H => ∃ (sum : Nat), ∃ (t8 : Int), tm = (impl_added_P1 list_a list_e list_n sum t8) ∧ Inv μ sum t8 H
theorem impl_added_L1 (list_a : Option Addr) (list_e : Nat) (list_n : Nat) {Q : Post} (Inv : Nat → Nat → Int → AHeap → Prop) (ν : Nat) (sum : Nat) (t8 : Int)  (H : AHeap) (h0 : Inv ν sum t8 H)
    (hs : ∀ (μ : Nat) (sum : Nat) (t8 : Int)  (H : AHeap), Inv μ sum t8 H → exL Try.prog E_impl_added (cl (cl (cr (cl (cr (cr (bodyC Try.f182))))))) 456 4 [(0, 8)] (impl_added_P1 list_a list_e list_n sum t8) H (loopQ (impl_added_I1 list_a list_e list_n Inv) μ Q)) : loopK (exL Try.prog E_impl_added (cl (cl (cr (cl (cr (cr (bodyC Try.f182))))))) 456 4 [(0, 8)]) (impl_added_P1 list_a list_e list_n sum t8) H Q :=
  ⟨impl_added_I1 list_a list_e list_n Inv, ν, ⟨sum, t8, rfl, h0⟩, fun μ tm H h => by obtain ⟨sum, t8, rfl, hI⟩ := h; exact hs μ sum t8  H hI⟩
theorem impl_added_n1 {list_a : Option Addr} {list_e : Nat} {list_n : Nat} {Q : Post} {Inv : Nat → Nat → Int → AHeap → Prop} {μ : Nat} (μ' : Nat) {sum : Nat} {t8 : Int}  {H : AHeap} (hm : μ' < μ) (hI : Inv μ' sum t8 H) : loopQ (impl_added_I1 list_a list_e list_n Inv) μ Q .normal (impl_added_P1 list_a list_e list_n sum t8) H := ⟨μ', hm, sum, t8, rfl, hI⟩
theorem impl_added_x1_0 (sum : Nat) (H : AHeap) (K : Value → AHeap → Prop)  {I : Nat → List Value → AHeap → Prop} {μ : Nat} : loopQ I μ (blockQ 0 (seqQ (exL Try.prog E_impl_added (cr (cr (cr (bodyC Try.f182)))) 4 4 []) (retK Try.prog Try.f182 K))) (.exit 0) [ud, ud, ud, .float .f32 sum, ud, ud, ud, ud, ud, ud, ud, ud, ud, ud, ud, ud, ud] H =
  (K (.float .f32 sum) H) := by kernel_rfl
theorem E_impl_added_ok : ∀ g, FnOk Try.prog g (E_impl_added g) := FnOk.envOf (by
  intro x hx; cases hx)
set_option maxHeartbeats 1000000 in
theorem impl_added_main (list_a : Option Addr) (list_n : Nat) (list_e : Nat) (H : AHeap) (K : Value → AHeap → Prop) (h : T_impl_added list_a list_n list_e H fun (r1 : Nat) (H' : AHeap) => K (.float .f32 r1) H') : bodyL Try.prog E_impl_added Try.f182 [.slice list_a list_n list_e] H K := by
  rw [impl_added_vc]
  obtain ⟨l_list, i_list, bd_8, hk⟩ := h
  obtain rfl := i_list.eqn
  have e : (p_impl_added l_list) = _ := rfl
  have e := e.trans (p_impl_added_eq l_list)
  have g0 := Grow.refl H
  refine impl_added_L1 _ _ _ (fun (μ : Nat) (sum : Nat) (t8 : Int) (H_1 : AHeap) => H = H_1 ∧ (0 : Int) ≤ t8 ∧ t8 ≤ (l_list.length : Int) ∧ (l_list.length : Int) - t8 ≤ (μ : Int) ∧ p_impl_added l_list = p_impl_added_l1 l_list (μ + 1) sum t8) (Int.toNat ((l_list.length : Int) - (0 : Int))) _ _ H ?_ ?_
  · exact ⟨rfl, ω7, ω7, ω3, e⟩
  · intro μ sum t8  H_1 hI
    obtain ⟨rfl, v_1, v_2, hμ, e⟩ := hI
    rw [impl_added_r1]
    have e := e.trans (p_impl_added_l1_s l_list μ sum t8)
    have l_3 := g0.1
    refine Br.intro (fun c_4 => ?_) (fun c_4 => ?_)
    · have e := e.trans (cond_t c_4)
      have c_4' := of_decide_eq_true c_4
      obtain ⟨b_5, f_6, q_7⟩ := ((i_list.grow g0)).pos ω0
      refine ⟨by omega, by omega, b_5, f_6, q_7, ?_⟩
      refine ⟨((l_list).getD (t8 : Int).toNat 0), (i_list).rd g0 q_7 ω3 _, ?_⟩
      rw [show IntKind.wrap .i64 (t8 + 1) = (t8 + 1) from wrap64 ω3 ω3]
      refine impl_added_n1 (μ - 1) ω9 ⟨rfl, ω1, ω1, ω9, (by rw [show μ - 1 + 1 = μ from by first | omega]; exact e)⟩
    · have e := e.trans (cond_f c_4)
      have c_4' := of_decide_eq_false c_4
      rw [impl_added_x1_0]
      rw [e] at hk
      exact hk
theorem impl_added_ok : FnOk Try.prog 182 S_impl_added := by
  refine FnOk.body mix_ok E_impl_added_ok Try.func182 rfl (by kernel_rfl) (by kernel_rfl) ?_ ?_ ?_ ?_ ?_
  · intro args H K K' h hk
    simp only [S_impl_added] at *
    unfold F_impl_added at *
    split at hk
    · obtain ⟨l_list, i_list, bd_8, k⟩ := hk
      exact ⟨l_list, i_list, bd_8, h _ _ k⟩
    · exact hk.elim
  · intro _ args H K hk
    simp only [S_impl_added] at *
    unfold F_impl_added at *
    split at hk
    · obtain ⟨l_list, i_list, bd_8, k⟩ := hk
      exact ⟨_, k, fun K' k' => ⟨l_list, i_list, bd_8, k'⟩⟩
    · exact hk.elim
  · intro args H K hk
    simp only [S_impl_added] at *
    unfold F_impl_added at *
    split at hk
    · obtain ⟨l_list, i_list, bd_8, k⟩ := hk
      exact ⟨_, _, k⟩
    · exact hk.elim
  · intro hq; cases hq
  · have mm := @impl_added_main
    have ml := fun (args : List Value) (H : AHeap) (K : Value → AHeap → Prop) => bodyL_body (P := Try.prog) (env := E_impl_added ) (fn := Try.f182) (args := args) (H := H) (K := K) E_impl_added_ok 
    revert mm ml
    generalize bodyK Try.prog E_impl_added Try.f182 = Q
    generalize bodyL Try.prog E_impl_added Try.f182 = QL
    intro mm ml args H K hk
    simp only [S_impl_added] at *
    unfold F_impl_added at *
    split at hk
    · exact ml _ H K (mm _ _ _ H K hk)
    · exact hk.elim

def p_impl_mean (l_list : List Nat) : Nat := fdiv .f32 (p_impl_added l_list) (FloatKind.nearest .f32 (l_list.length : Int))
def p_impl_mean_eq := @p_impl_mean.eq_1
def T_impl_mean (list_a : Option Addr) (list_n : Nat) (list_e : Nat) (H : AHeap) (K : Nat → AHeap → Prop) : Prop := ∃ (l_list : List Nat), IsL fF H list_a list_n l_list ∧ l_list.length < 1073741824 ∧ K (p_impl_mean l_list) H
theorem T_impl_mean_i {list_a : Option Addr} {list_n : Nat} {list_e : Nat} {H : AHeap} {K : Nat → AHeap → Prop} (h : ∃ (l_list : List Nat), IsL fF H list_a list_n l_list ∧ l_list.length < 1073741824 ∧ K (p_impl_mean l_list) H) : T_impl_mean list_a list_n list_e H K := h

/-! impl_mean: function 132 -/
def E_impl_mean : Env := envOf [(182, S_impl_added)]
def F_impl_mean : List Value → AHeap → (Value → AHeap → Prop) → Prop
  | [.slice list_a list_n list_e], H, K => T_impl_mean list_a list_n list_e H fun (r1 : Nat) (H' : AHeap) => K (.float .f32 r1) H'
  | _, _, _ => False
def S_impl_mean : FSpec := { F := F_impl_mean, quiet := true, tame := false }
theorem impl_mean_vc (list_a : Option Addr) (list_n : Nat) (list_e : Nat) (H : AHeap) (K : Value → AHeap → Prop) : bodyL Try.prog E_impl_mean Try.f132 [.slice list_a list_n list_e] H K =
  (T_impl_added list_a list_n list_e H fun (r1 : Nat) (H1 : AHeap) => K (.float .f32 (fdiv .f32 r1 (FloatKind.nearest .f32 (list_n : Int)))) H1) := by kernel_rfl
theorem E_impl_mean_ok : ∀ g, FnOk Try.prog g (E_impl_mean g) := FnOk.envOf (by
  intro x hx
  simp only [List.mem_cons, List.not_mem_nil, or_false] at hx
  subst hx; exact impl_added_ok)
set_option maxHeartbeats 1000000 in
theorem impl_mean_main (list_a : Option Addr) (list_n : Nat) (list_e : Nat) (H : AHeap) (K : Value → AHeap → Prop) (h : T_impl_mean list_a list_n list_e H fun (r1 : Nat) (H' : AHeap) => K (.float .f32 r1) H') : bodyL Try.prog E_impl_mean Try.f132 [.slice list_a list_n list_e] H K := by
  rw [impl_mean_vc]
  obtain ⟨l_list, i_list, bd_1, hk⟩ := h
  obtain rfl := i_list.eqn
  have e : (p_impl_mean l_list) = _ := rfl
  have e := e.trans (p_impl_mean_eq l_list)
  have g0 := Grow.refl H
  refine T_impl_added_i ⟨_, (i_list.grow g0), ω0, ?_⟩
  rw [e] at hk
  exact hk
theorem impl_mean_ok : FnOk Try.prog 132 S_impl_mean := by
  refine FnOk.body mix_ok E_impl_mean_ok Try.func132 rfl (by kernel_rfl) (by kernel_rfl) ?_ ?_ ?_ ?_ ?_
  · intro args H K K' h hk
    simp only [S_impl_mean] at *
    unfold F_impl_mean at *
    split at hk
    · obtain ⟨l_list, i_list, bd_1, k⟩ := hk
      exact ⟨l_list, i_list, bd_1, h _ _ k⟩
    · exact hk.elim
  · intro _ args H K hk
    simp only [S_impl_mean] at *
    unfold F_impl_mean at *
    split at hk
    · obtain ⟨l_list, i_list, bd_1, k⟩ := hk
      exact ⟨_, k, fun K' k' => ⟨l_list, i_list, bd_1, k'⟩⟩
    · exact hk.elim
  · intro args H K hk
    simp only [S_impl_mean] at *
    unfold F_impl_mean at *
    split at hk
    · obtain ⟨l_list, i_list, bd_1, k⟩ := hk
      exact ⟨_, _, k⟩
    · exact hk.elim
  · intro hq; cases hq
  · have mm := @impl_mean_main
    have ml := fun (args : List Value) (H : AHeap) (K : Value → AHeap → Prop) => bodyL_body (P := Try.prog) (env := E_impl_mean ) (fn := Try.f132) (args := args) (H := H) (K := K) E_impl_mean_ok 
    revert mm ml
    generalize bodyK Try.prog E_impl_mean Try.f132 = Q
    generalize bodyL Try.prog E_impl_mean Try.f132 = QL
    intro mm ml args H K hk
    simp only [S_impl_mean] at *
    unfold F_impl_mean at *
    split at hk
    · exact ml _ H K (mm _ _ _ H K hk)
    · exact hk.elim

def p_impl_gainAt (l_list : List Nat) (m : Nat) (k : Int) : Nat := fadd .f32 (fmul .f32 (fmul .f32 (FloatKind.nearest .f32 k) (fsub .f32 ((p_impl_mean ((((l_list).drop (0 : Int).toNat).take ((k : Int) - 0).toNat)))) m)) (fsub .f32 ((p_impl_mean ((((l_list).drop (0 : Int).toNat).take ((k : Int) - 0).toNat)))) m)) (fmul .f32 (fmul .f32 (FloatKind.nearest .f32 (((l_list.length : Int) - k))) (fsub .f32 ((p_impl_mean ((((l_list).drop (k : Int).toNat).take (((l_list.length : Int) : Int) - k).toNat)))) m)) (fsub .f32 ((p_impl_mean ((((l_list).drop (k : Int).toNat).take (((l_list.length : Int) : Int) - k).toNat)))) m))
def p_impl_gainAt_eq := @p_impl_gainAt.eq_1
def T_impl_gainAt (list_a : Option Addr) (list_n : Nat) (list_e : Nat) (m : Nat) (k : Int) (H : AHeap) (K : Nat → AHeap → Prop) : Prop := ∃ (l_list : List Nat), IsL fF H list_a list_n l_list ∧ l_list.length < 1073741824 ∧ 0 ≤ k ∧ k ≤ (l_list.length : Int) ∧ K (p_impl_gainAt l_list m k) H
theorem T_impl_gainAt_i {list_a : Option Addr} {list_n : Nat} {list_e : Nat} {m : Nat} {k : Int} {H : AHeap} {K : Nat → AHeap → Prop} (h : ∃ (l_list : List Nat), IsL fF H list_a list_n l_list ∧ l_list.length < 1073741824 ∧ 0 ≤ k ∧ k ≤ (l_list.length : Int) ∧ K (p_impl_gainAt l_list m k) H) : T_impl_gainAt list_a list_n list_e m k H K := h

/-! impl_gainAt: function 152 -/
def E_impl_gainAt : Env := envOf [(132, S_impl_mean)]
def F_impl_gainAt : List Value → AHeap → (Value → AHeap → Prop) → Prop
  | [.slice list_a list_n list_e, .float .f32 m, .int .i64 k], H, K => T_impl_gainAt list_a list_n list_e m k H fun (r1 : Nat) (H' : AHeap) => K (.float .f32 r1) H'
  | _, _, _ => False
def S_impl_gainAt : FSpec := { F := F_impl_gainAt, quiet := true, tame := false }
theorem impl_gainAt_vc (list_a : Option Addr) (list_n : Nat) (list_e : Nat) (m : Nat) (k : Int) (H : AHeap) (K : Value → AHeap → Prop) : bodyL Try.prog E_impl_gainAt Try.f152 [.slice list_a list_n list_e, .float .f32 m, .int .i64 k] H K =
  ((0 : Int) ≤ 0 ∧ 0 ≤ k ∧ k ≤ (list_n : Int) ∧ T_impl_mean ((list_a : Option Addr).map fun a => ⟨a.block, a.off + (0 : Int).toNat * 1, none⟩) (((k : Int) - 0).toNat) 0 H fun (r1 : Nat) (H1 : AHeap) => (0 : Int) ≤ k ∧ k ≤ (list_n : Int) ∧ (list_n : Int) ≤ (list_n : Int) ∧ T_impl_mean ((list_a : Option Addr).map fun a => ⟨a.block, a.off + (k : Int).toNat * 1, none⟩) ((((list_n : Int) : Int) - k).toNat) 0 H1 fun (r2 : Nat) (H2 : AHeap) => K (.float .f32 (fadd .f32 (fmul .f32 (fmul .f32 (FloatKind.nearest .f32 k) (fsub .f32 r1 m)) (fsub .f32 r1 m)) (fmul .f32 (fmul .f32 (FloatKind.nearest .f32 (IntKind.wrap .i64 ((list_n : Int) - k))) (fsub .f32 r2 m)) (fsub .f32 r2 m)))) H2) := by kernel_rfl
theorem E_impl_gainAt_ok : ∀ g, FnOk Try.prog g (E_impl_gainAt g) := FnOk.envOf (by
  intro x hx
  simp only [List.mem_cons, List.not_mem_nil, or_false] at hx
  subst hx; exact impl_mean_ok)
set_option maxHeartbeats 1000000 in
theorem impl_gainAt_main (list_a : Option Addr) (list_n : Nat) (list_e : Nat) (m : Nat) (k : Int) (H : AHeap) (K : Value → AHeap → Prop) (h : T_impl_gainAt list_a list_n list_e m k H fun (r1 : Nat) (H' : AHeap) => K (.float .f32 r1) H') : bodyL Try.prog E_impl_gainAt Try.f152 [.slice list_a list_n list_e, .float .f32 m, .int .i64 k] H K := by
  rw [impl_gainAt_vc]
  obtain ⟨l_list, i_list, bd_3, pr0, pr1, hk⟩ := h
  obtain rfl := i_list.eqn
  have e : (p_impl_gainAt l_list m k) = _ := rfl
  have e := e.trans (p_impl_gainAt_eq l_list m k)
  have g0 := Grow.refl H
  refine ⟨by omega, by omega, by omega, ?_⟩
  have i_1 := sub_isl i_list (lo := 0) (hi := k) ω3 ω3 ω3
  refine T_impl_mean_i ⟨_, (i_1.grow g0), ω0, ?_⟩
  refine ⟨by omega, by omega, by omega, ?_⟩
  have i_2 := sub_isl i_list (lo := k) (hi := (l_list.length : Int)) ω3 ω3 ω3
  refine T_impl_mean_i ⟨_, (i_2.grow g0), ω0, ?_⟩
  rw [show IntKind.wrap .i64 ((l_list.length : Int) - k) = ((l_list.length : Int) - k) from wrap64 ω3 ω3]
  rw [e] at hk
  exact hk
theorem impl_gainAt_ok : FnOk Try.prog 152 S_impl_gainAt := by
  refine FnOk.body mix_ok E_impl_gainAt_ok Try.func152 rfl (by kernel_rfl) (by kernel_rfl) ?_ ?_ ?_ ?_ ?_
  · intro args H K K' h hk
    simp only [S_impl_gainAt] at *
    unfold F_impl_gainAt at *
    split at hk
    · obtain ⟨l_list, i_list, bd_3, pr0, pr1, k⟩ := hk
      exact ⟨l_list, i_list, bd_3, pr0, pr1, h _ _ k⟩
    · exact hk.elim
  · intro _ args H K hk
    simp only [S_impl_gainAt] at *
    unfold F_impl_gainAt at *
    split at hk
    · obtain ⟨l_list, i_list, bd_3, pr0, pr1, k⟩ := hk
      exact ⟨_, k, fun K' k' => ⟨l_list, i_list, bd_3, pr0, pr1, k'⟩⟩
    · exact hk.elim
  · intro args H K hk
    simp only [S_impl_gainAt] at *
    unfold F_impl_gainAt at *
    split at hk
    · obtain ⟨l_list, i_list, bd_3, pr0, pr1, k⟩ := hk
      exact ⟨_, _, k⟩
    · exact hk.elim
  · intro hq; cases hq
  · have mm := @impl_gainAt_main
    have ml := fun (args : List Value) (H : AHeap) (K : Value → AHeap → Prop) => bodyL_body (P := Try.prog) (env := E_impl_gainAt ) (fn := Try.f152) (args := args) (H := H) (K := K) E_impl_gainAt_ok 
    revert mm ml
    generalize bodyK Try.prog E_impl_gainAt Try.f152 = Q
    generalize bodyL Try.prog E_impl_gainAt Try.f152 = QL
    intro mm ml args H K hk
    simp only [S_impl_gainAt] at *
    unfold F_impl_gainAt at *
    split at hk
    · exact ml _ H K (mm _ _ _ _ _ H K hk)
    · exact hk.elim

def p_impl_BestBreak_l1 (l_list : List Nat) : Nat → Int → Nat → Int → Int × Nat × Bool
  | 0, _, _, _ => (0, 0, false)
  | μ + 1, vat, best, k => (bif decide ((k : Int) < (l_list.length : Int)) then (bif flt .f32 best ((p_impl_gainAt l_list (p_impl_mean l_list) k)) then (p_impl_BestBreak_l1 l_list μ k ((p_impl_gainAt l_list (p_impl_mean l_list) k)) (k + 1)) else (p_impl_BestBreak_l1 l_list μ vat best (k + 1))) else (bif !(p_impl_IsFinite best) then ((0 : Int), 0, false) else (vat, best, true)))
def p_impl_BestBreak_l1_s := fun l_list μ vat best k => @p_impl_BestBreak_l1.eq_2 l_list vat best k μ
def p_impl_BestBreak (l_list : List Nat) : Int × Nat × Bool := (bif !(p_impl_isLong l_list) then ((0 : Int), 0, false) else (bif decide (((l_list.length : Int) : Int) < 2) then ((0 : Int), 0, false) else (p_impl_BestBreak_l1 l_list (Int.toNat ((l_list.length : Int) - (2 : Int)) + 1) (1 : Int) ((p_impl_gainAt l_list (p_impl_mean l_list) (1 : Int))) (2 : Int))))
def p_impl_BestBreak_eq := @p_impl_BestBreak.eq_1
def T_impl_BestBreak (list_a : Option Addr) (list_n : Nat) (list_e : Nat) (H : AHeap) (K : Int → Nat → Bool → AHeap → Prop) : Prop := ∃ (l_list : List Nat), IsL fF H list_a list_n l_list ∧ l_list.length < 1073741824 ∧ ((∀ H' : AHeap, Grow H H' → K ((p_impl_BestBreak l_list).1) ((p_impl_BestBreak l_list).2.1) ((p_impl_BestBreak l_list).2.2) H'))
theorem T_impl_BestBreak_i {list_a : Option Addr} {list_n : Nat} {list_e : Nat} {H : AHeap} {K : Int → Nat → Bool → AHeap → Prop} (h : ∃ (l_list : List Nat), IsL fF H list_a list_n l_list ∧ l_list.length < 1073741824 ∧ ((∀ H' : AHeap, Grow H H' → K ((p_impl_BestBreak l_list).1) ((p_impl_BestBreak l_list).2.1) ((p_impl_BestBreak l_list).2.2) H'))) : T_impl_BestBreak list_a list_n list_e H K := h
theorem cnd {α : Type} {P : α → Prop} {b : Bool} {x y : α} (h1 : b = true → P x) (h2 : b = false → P y) : P (bif b then x else y) := by
  cases b
  · exact h2 rfl
  · exact h1 rfl
def Bin (n : Nat) (r : Int × Nat × Bool) : Prop := 0 ≤ r.1 ∧ r.1 ≤ (n : Int) ∧ (r.2.2 = true → 1 ≤ r.1 ∧ r.1 < (n : Int))
theorem bin_no (n x : Nat) : Bin n (0, x, false) := ⟨Int.le_refl _, Int.natCast_nonneg _, fun h => by cases h⟩
theorem impl_BestBreak_l1_at (l : List Nat) : ∀ (μ : Nat) (vat : Int) (b : Nat) (k : Int), 1 ≤ vat → vat < (l.length : Int) → 1 ≤ k → Bin l.length (p_impl_BestBreak_l1 l μ vat b k) := by
  intro μ
  induction μ with
  | zero => intro vat b k h0 h1 h2; exact bin_no _ _
  | succ μ ih =>
    intro vat b k h0 h1 h2
    rw [p_impl_BestBreak_l1_s]
    refine cnd (fun h => ?_) (fun h => ?_)
    · have hk := of_decide_eq_true h
      exact cnd (fun h => ih _ _ _ ω3 ω3 ω3) (fun h => ih _ _ _ ω3 ω3 ω3)
    · exact cnd (fun h => bin_no _ _) (fun h => ⟨show (0 : Int) ≤ vat by omega, show vat ≤ _ by omega, fun _ => ⟨h0, h1⟩⟩)
theorem impl_BestBreak_bin (l : List Nat) : Bin l.length (p_impl_BestBreak l) := by
  rw [p_impl_BestBreak_eq]
  refine cnd (fun h => bin_no _ _) (fun h => ?_)
  refine cnd (fun h => bin_no _ _) (fun h => ?_)
  have := of_decide_eq_false h
  exact impl_BestBreak_l1_at _ _ _ _ _ ω12 ω3 ω12
theorem impl_BestBreak_at (l : List Nat) : 0 ≤ (p_impl_BestBreak l).1 ∧ (p_impl_BestBreak l).1 ≤ (l.length : Int) := ⟨(impl_BestBreak_bin l).1, (impl_BestBreak_bin l).2.1⟩
/-! impl_BestBreak: function 71 -/
def E_impl_BestBreak : Env := envOf [(105, S_impl_isLong), (132, S_impl_mean), (152, S_impl_gainAt), (133, S_impl_IsFinite)]
def F_impl_BestBreak : List Value → AHeap → (Value → AHeap → Prop) → Prop
  | [.slice list_a list_n list_e], H, K => T_impl_BestBreak list_a list_n list_e H fun (r1 : Int) (r2 : Nat) (r3 : Bool) (H' : AHeap) => K (.tuple #[.int .i64 r1, .float .f32 r2, .bool r3]) H'
  | _, _, _ => False
def S_impl_BestBreak : FSpec := { F := F_impl_BestBreak, quiet := false, tame := true }
theorem impl_BestBreak_vc (list_a : Option Addr) (list_n : Nat) (list_e : Nat) (H : AHeap) (K : Value → AHeap → Prop) : bodyL Try.prog E_impl_BestBreak Try.f71 [.slice list_a list_n list_e] H K =
  (T_impl_isLong list_a list_n list_e H fun (r1 : Bool) (H1 : AHeap) => Br (!r1) (K (.tuple #[.int .i64 0, .float .f32 0, .bool false]) H1) (Br (decide (((list_n : Int) : Int) < 2)) (K (.tuple #[.int .i64 0, .float .f32 0, .bool false]) H1) (T_impl_mean list_a list_n list_e H1 fun (r2 : Nat) (H2 : AHeap) => T_impl_gainAt list_a list_n list_e r2 1 H2 fun (r3 : Nat) (H3 : AHeap) => loopK (exL Try.prog E_impl_BestBreak (cl (cl (cr (cl (cr (cr (cr (cr (bodyC Try.f71))))))))) 481 28 [(0, 192)]) [.slice list_a list_n list_e, ud, ud, ud, ud, .float .f32 r2, .int .i64 1, .float .f32 r3, .int .i64 2, ud, ud, ud, ud, ud, ud, ud, ud, ud, ud, ud, ud, ud, ud, ud, ud, ud, ud, ud, ud, ud, ud, ud, ud, ud, ud, ud, ud, ud, ud, ud, ud, ud, ud] H3 (blockQ 0 (seqQ (exL Try.prog E_impl_BestBreak (cr (cr (cr (cr (cr (bodyC Try.f71)))))) 28 28 []) (retK Try.prog Try.f71 K)))))) := by kernel_rfl
abbrev impl_BestBreak_P1 (list_a : Option Addr) (list_e : Nat) (list_n : Nat) (r2 : Nat) (vat : Int) (best : Nat) (k : Int)  : List Value := [.slice list_a list_n list_e, ud, ud, ud, ud, .float .f32 r2, .int .i64 vat, .float .f32 best, .int .i64 k, ud, ud, ud, ud, ud, ud, ud, ud, ud, ud, ud, ud, ud, ud, ud, ud, ud, ud, ud, ud, ud, ud, ud, ud, ud, ud, ud, ud, ud, ud, ud, ud, ud, ud]
theorem impl_BestBreak_r1 (list_a : Option Addr) (list_e : Nat) (list_n : Nat) (r2 : Nat) (vat : Int) (best : Nat) (k : Int)  (H : AHeap) (R : Post) : exL Try.prog E_impl_BestBreak (cl (cl (cr (cl (cr (cr (cr (cr (bodyC Try.f71))))))))) 481 28 [(0, 192)] (impl_BestBreak_P1 list_a list_e list_n r2 vat best k) H R =
  (Br (decide ((k : Int) < (list_n : Int))) (T_impl_gainAt list_a list_n list_e r2 k H fun (r4 : Nat) (H4 : AHeap) => Br (flt .f32 best r4) (R .normal [.slice list_a list_n list_e, ud, ud, ud, ud, .float .f32 r2, .int .i64 k, .float .f32 r4, .int .i64 (IntKind.wrap .i64 (k + 1)), ud, ud, ud, ud, ud, ud, ud, ud, ud, ud, ud, ud, ud, ud, ud, ud, ud, ud, ud, ud, ud, ud, ud, ud, ud, ud, ud, ud, ud, ud, ud, ud, ud, ud] H4) (R .normal [.slice list_a list_n list_e, ud, ud, ud, ud, .float .f32 r2, .int .i64 vat, .float .f32 best, .int .i64 (IntKind.wrap .i64 (k + 1)), ud, ud, ud, ud, ud, ud, ud, ud, ud, ud, ud, ud, ud, ud, ud, ud, ud, ud, ud, ud, ud, ud, ud, ud, ud, ud, ud, ud, ud, ud, ud, ud, ud, ud] H4)) (R (.exit 0) [ud, ud, ud, ud, ud, ud, .int .i64 vat, .float .f32 best, ud, ud, ud, ud, ud, ud, ud, ud, ud, ud, ud, ud, ud, ud, ud, ud, ud, ud, ud, ud, ud, ud, ud, ud, ud, ud, ud, ud, ud, ud, ud, ud, ud, ud, ud] H)) := by kernel_rfl
def impl_BestBreak_I1 (list_a : Option Addr) (list_e : Nat) (list_n : Nat) (r2 : Nat) (Inv : Nat → Int → Nat → Int → AHeap → Prop) : Nat → List Value → AHeap → Prop := fun μ tm H => ∃ (vat : Int), ∃ (best : Nat), ∃ (k : Int), tm = (impl_BestBreak_P1 list_a list_e list_n r2 vat best k) ∧ Inv μ vat best k H
theorem impl_BestBreak_L1 (list_a : Option Addr) (list_e : Nat) (list_n : Nat) (r2 : Nat) {Q : Post} (Inv : Nat → Int → Nat → Int → AHeap → Prop) (ν : Nat) (vat : Int) (best : Nat) (k : Int)  (H : AHeap) (h0 : Inv ν vat best k H)
    (hs : ∀ (μ : Nat) (vat : Int) (best : Nat) (k : Int)  (H : AHeap), Inv μ vat best k H → exL Try.prog E_impl_BestBreak (cl (cl (cr (cl (cr (cr (cr (cr (bodyC Try.f71))))))))) 481 28 [(0, 192)] (impl_BestBreak_P1 list_a list_e list_n r2 vat best k) H (loopQ (impl_BestBreak_I1 list_a list_e list_n r2 Inv) μ Q)) : loopK (exL Try.prog E_impl_BestBreak (cl (cl (cr (cl (cr (cr (cr (cr (bodyC Try.f71))))))))) 481 28 [(0, 192)]) (impl_BestBreak_P1 list_a list_e list_n r2 vat best k) H Q :=
  ⟨impl_BestBreak_I1 list_a list_e list_n r2 Inv, ν, ⟨vat, best, k, rfl, h0⟩, fun μ tm H h => by obtain ⟨vat, best, k, rfl, hI⟩ := h; exact hs μ vat best k  H hI⟩
theorem impl_BestBreak_n1 {list_a : Option Addr} {list_e : Nat} {list_n : Nat} {r2 : Nat} {Q : Post} {Inv : Nat → Int → Nat → Int → AHeap → Prop} {μ : Nat} (μ' : Nat) {vat : Int} {best : Nat} {k : Int}  {H : AHeap} (hm : μ' < μ) (hI : Inv μ' vat best k H) : loopQ (impl_BestBreak_I1 list_a list_e list_n r2 Inv) μ Q .normal (impl_BestBreak_P1 list_a list_e list_n r2 vat best k) H := ⟨μ', hm, vat, best, k, rfl, hI⟩
theorem impl_BestBreak_x1_0 (vat : Int) (best : Nat) (H : AHeap) (K : Value → AHeap → Prop)  {I : Nat → List Value → AHeap → Prop} {μ : Nat} : loopQ I μ (blockQ 0 (seqQ (exL Try.prog E_impl_BestBreak (cr (cr (cr (cr (cr (bodyC Try.f71)))))) 28 28 []) (retK Try.prog Try.f71 K))) (.exit 0) [ud, ud, ud, ud, ud, ud, .int .i64 vat, .float .f32 best, ud, ud, ud, ud, ud, ud, ud, ud, ud, ud, ud, ud, ud, ud, ud, ud, ud, ud, ud, ud, ud, ud, ud, ud, ud, ud, ud, ud, ud, ud, ud, ud, ud, ud, ud] H =
  (T_impl_IsFinite best H fun (r5 : Bool) (H5 : AHeap) => Br (!r5) (K (.tuple #[.int .i64 0, .float .f32 0, .bool false]) H5) (K (.tuple #[.int .i64 vat, .float .f32 best, .bool true]) H5)) := by kernel_rfl
theorem E_impl_BestBreak_ok : ∀ g, FnOk Try.prog g (E_impl_BestBreak g) := FnOk.envOf (by
  intro x hx
  simp only [List.mem_cons, List.not_mem_nil, or_false] at hx
  rcases hx with rfl | rfl | rfl | rfl
  · exact impl_isLong_ok
  · exact impl_mean_ok
  · exact impl_gainAt_ok
  · exact impl_IsFinite_ok)
theorem ω11 {P : Prop} (h : P := by first | assumption | omega | (simp; omega)) : P := h
set_option maxHeartbeats 1000000 in
theorem impl_BestBreak_main (list_a : Option Addr) (list_n : Nat) (list_e : Nat) (H : AHeap) (K : Value → AHeap → Prop) (h : T_impl_BestBreak list_a list_n list_e H fun (r1 : Int) (r2 : Nat) (r3 : Bool) (H' : AHeap) => K (.tuple #[.int .i64 r1, .float .f32 r2, .bool r3]) H') : bodyL Try.prog E_impl_BestBreak Try.f71 [.slice list_a list_n list_e] H K := by
  rw [impl_BestBreak_vc]
  obtain ⟨l_list, i_list, bd_13, hk⟩ := h
  obtain rfl := i_list.eqn
  have e : (p_impl_BestBreak l_list) = _ := rfl
  have e := e.trans (p_impl_BestBreak_eq l_list)
  have g0 := Grow.refl H
  refine T_impl_isLong_i ⟨_, (i_list.grow g0), ω0, fun  H_1 g_1  => ?_⟩
  have l_2 := g_1.1
  have g_3 := g0.trans g_1
  have l_4 := g_3.1
  refine Br.intro (fun c_5 => ?_) (fun c_5 => ?_)
  · have e := e.trans (cond_t c_5)
    have c_5n := nf_of_t c_5
    rw [e] at hk
    exact hk  H_1 g_3 
  · have e := e.trans (cond_f c_5)
    have c_5n := nt_of_f c_5
    have c_5n' := impl_isLong_t c_5n
    refine Br.intro (fun c_6 => ?_) (fun c_6 => ?_)
    · have e := e.trans (cond_t c_6)
      have c_6' := of_decide_eq_true c_6
      rw [e] at hk
      exact hk  H_1 g_3 
    · have e := e.trans (cond_f c_6)
      have c_6' := of_decide_eq_false c_6
      refine T_impl_mean_i ⟨_, (i_list.grow g_3), ω0, ?_⟩
      refine T_impl_gainAt_i ⟨_, (i_list.grow g_3), ω0, ω11, ω11, ?_⟩
      refine impl_BestBreak_L1 _ _ _ _ (fun (μ : Nat) (vat : Int) (best : Nat) (k : Int) (H_2 : AHeap) => H_1 = H_2 ∧ (2 : Int) ≤ k ∧ ((k ≤ (l_list.length : Int) ∨ k ≤ (2 : Int))) ∧ (l_list.length : Int) - k ≤ (μ : Int) ∧ p_impl_BestBreak l_list = p_impl_BestBreak_l1 l_list (μ + 1) vat best k) (Int.toNat ((l_list.length : Int) - (2 : Int))) _ _ _ H_1 ?_ ?_
      · exact ⟨rfl, ω7, ω7, ω3, e⟩
      · intro μ vat best k  H_2 hI
        obtain ⟨rfl, v_7, v_8, hμ, e⟩ := hI
        rw [impl_BestBreak_r1]
        have e := e.trans (p_impl_BestBreak_l1_s l_list μ vat best k)
        have l_9 := g_3.1
        refine Br.intro (fun c_10 => ?_) (fun c_10 => ?_)
        · have e := e.trans (cond_t c_10)
          have c_10' := of_decide_eq_true c_10
          refine T_impl_gainAt_i ⟨_, (i_list.grow g_3), ω0, ω11, ω11, ?_⟩
          refine Br.intro (fun c_11 => ?_) (fun c_11 => ?_)
          · have e := e.trans (cond_t c_11)
            rw [show IntKind.wrap .i64 (k + 1) = (k + 1) from wrap64 ω3 ω3]
            refine impl_BestBreak_n1 (μ - 1) ω9 ⟨rfl, ω1, ω1, ω9, (by rw [show μ - 1 + 1 = μ from by first | omega]; exact e)⟩
          · have e := e.trans (cond_f c_11)
            rw [show IntKind.wrap .i64 (k + 1) = (k + 1) from wrap64 ω3 ω3]
            refine impl_BestBreak_n1 (μ - 1) ω9 ⟨rfl, ω1, ω1, ω9, (by rw [show μ - 1 + 1 = μ from by first | omega]; exact e)⟩
        · have e := e.trans (cond_f c_10)
          have c_10' := of_decide_eq_false c_10
          rw [impl_BestBreak_x1_0]
          refine T_impl_IsFinite_i ?_
          refine Br.intro (fun c_12 => ?_) (fun c_12 => ?_)
          · have e := e.trans (cond_t c_12)
            have c_12n := nf_of_t c_12
            rw [e] at hk
            exact hk  H_1 g_3 
          · have e := e.trans (cond_f c_12)
            have c_12n := nt_of_f c_12
            rw [e] at hk
            exact hk  H_1 g_3 
theorem impl_BestBreak_ok : FnOk Try.prog 71 S_impl_BestBreak := by
  refine FnOk.body mix_ok E_impl_BestBreak_ok Try.func71 rfl (by kernel_rfl) (by kernel_rfl) ?_ ?_ ?_ ?_ ?_
  · intro args H K K' h hk
    simp only [S_impl_BestBreak] at *
    unfold F_impl_BestBreak at *
    split at hk
    · obtain ⟨l_list, i_list, bd_13, k⟩ := hk
      exact ⟨l_list, i_list, bd_13, (fun  H' gg  => h _ _ (k  H' gg ))⟩
    · exact hk.elim
  · intro hq; cases hq
  · intro args H K hk
    simp only [S_impl_BestBreak] at *
    unfold F_impl_BestBreak at *
    split at hk
    · obtain ⟨l_list, i_list, bd_13, k⟩ := hk
      exact ⟨_, _, k H (Grow.refl H)⟩
    · exact hk.elim
  · intro _ args H K hk
    simp only [S_impl_BestBreak] at *
    unfold F_impl_BestBreak at *
    split at hk
    · obtain ⟨l_list, i_list, bd_13, k⟩ := hk
      exact ⟨l_list, i_list, bd_13, (fun  H' gg  => ⟨gg, k  H' gg ⟩)⟩
    · exact hk.elim
  · have mm := @impl_BestBreak_main
    have ml := fun (args : List Value) (H : AHeap) (K : Value → AHeap → Prop) => bodyL_body (P := Try.prog) (env := E_impl_BestBreak ) (fn := Try.f71) (args := args) (H := H) (K := K) E_impl_BestBreak_ok 
    revert mm ml
    generalize bodyK Try.prog E_impl_BestBreak Try.f71 = Q
    generalize bodyL Try.prog E_impl_BestBreak Try.f71 = QL
    intro mm ml args H K hk
    simp only [S_impl_BestBreak] at *
    unfold F_impl_BestBreak at *
    split at hk
    · exact ml _ H K (mm _ _ _ H K hk)
    · exact hk.elim

def p_impl_finiteList (l_list : List Nat) : (List Nat) × Bool := (bif !((p_impl_areFinite ([l_list]))) then ([], false) else (l_list, true))
def p_impl_finiteList_eq := @p_impl_finiteList.eq_1
def T_impl_finiteList (list_a : Option Addr) (list_n : Nat) (list_e : Nat) (H : AHeap) (K : (Option Addr) → Nat → Nat → Bool → AHeap → Prop) : Prop := ∃ (l_list : List Nat), IsL fF H list_a list_n l_list ∧ l_list.length < 1073741824 ∧ ((∀ H' : AHeap, Grow H H' → Br ((p_impl_finiteList l_list).2) (K list_a list_n list_e true H') (K none 0 0 false H')))
theorem T_impl_finiteList_i {list_a : Option Addr} {list_n : Nat} {list_e : Nat} {H : AHeap} {K : (Option Addr) → Nat → Nat → Bool → AHeap → Prop} (h : ∃ (l_list : List Nat), IsL fF H list_a list_n l_list ∧ l_list.length < 1073741824 ∧ ((∀ H' : AHeap, Grow H H' → Br ((p_impl_finiteList l_list).2) (K list_a list_n list_e true H') (K none 0 0 false H')))) : T_impl_finiteList list_a list_n list_e H K := h

/-! impl_finiteList: function 109 -/
def E_impl_finiteList : Env := envOf [(166, S_impl_areFinite)]
def F_impl_finiteList : List Value → AHeap → (Value → AHeap → Prop) → Prop
  | [.slice list_a list_n list_e], H, K => T_impl_finiteList list_a list_n list_e H fun (r1_a : Option Addr) (r1_n : Nat) (r1_e : Nat) (r2 : Bool) (H' : AHeap) => K (.tuple #[.slice r1_a r1_n r1_e, .bool r2]) H'
  | _, _, _ => False
def S_impl_finiteList : FSpec := { F := F_impl_finiteList, quiet := false, tame := true }
theorem impl_finiteList_vc (list_a : Option Addr) (list_n : Nat) (list_e : Nat) (H : AHeap) (K : Value → AHeap → Prop) : bodyL Try.prog E_impl_finiteList Try.f109 [.slice list_a list_n list_e] H K =
  (Al [.slice list_a list_n list_e] H fun b1 H1 => T_impl_areFinite (some ⟨b1, 0, none⟩) 1 1 H1 fun (r1 : Bool) (H2 : AHeap) => Br (!r1) (K (.tuple #[.slice none 0 0, .bool false]) H2) (K (.tuple #[.slice list_a list_n list_e, .bool true]) H2)) := by kernel_rfl
theorem E_impl_finiteList_ok : ∀ g, FnOk Try.prog g (E_impl_finiteList g) := FnOk.envOf (by
  intro x hx
  simp only [List.mem_cons, List.not_mem_nil, or_false] at hx
  subst hx; exact impl_areFinite_ok)
set_option maxHeartbeats 1000000 in
theorem impl_finiteList_main (list_a : Option Addr) (list_n : Nat) (list_e : Nat) (H : AHeap) (K : Value → AHeap → Prop) (h : T_impl_finiteList list_a list_n list_e H fun (r1_a : Option Addr) (r1_n : Nat) (r1_e : Nat) (r2 : Bool) (H' : AHeap) => K (.tuple #[.slice r1_a r1_n r1_e, .bool r2]) H') : bodyL Try.prog E_impl_finiteList Try.f109 [.slice list_a list_n list_e] H K := by
  rw [impl_finiteList_vc]
  obtain ⟨l_list, i_list, bd_12, hk⟩ := h
  obtain rfl := i_list.eqn
  have e : (p_impl_finiteList l_list) = _ := rfl
  have e := e.trans (p_impl_finiteList_eq l_list)
  have g0 := Grow.refl H
  refine Al.intro (fun b_1 H_1 hb_2 hl_3 g_4 o_5 => ?_)
  have l_7 := g_4.1
  have g_8 := g0.trans g_4
  have l_9 := g_8.1
  have w_11 := o_5.lt
  refine T_impl_areFinite_i ⟨[l_list], ⟨_, o_5.rdAll rfl, LLc.cons (i_list.grow g_8) (LLc.nil _ _)⟩, ω0, (by first | assumption | exact or_right (by assumption) (by omega) | exact or_right (by assumption : _ ∧ (_ ∨ _)).2 (by omega) | (intro y hy; simp only [List.mem_cons, List.not_mem_nil, or_false] at hy; first | omega | (subst hy; omega) | (rcases hy with rfl | rfl <;> omega) | (rcases hy with rfl | rfl | rfl <;> omega))), ?_⟩
  refine Br.intro (fun c_10 => ?_) (fun c_10 => ?_)
  · have e := e.trans (cond_t c_10)
    have c_10n := nf_of_t c_10
    have q := hk H_1 g_8
    rw [e] at q
    exact q
  · have e := e.trans (cond_f c_10)
    have c_10n := nt_of_f c_10
    have q := hk H_1 g_8
    rw [e] at q
    exact q
theorem impl_finiteList_ok : FnOk Try.prog 109 S_impl_finiteList := by
  refine FnOk.body mix_ok E_impl_finiteList_ok Try.func109 rfl (by kernel_rfl) (by kernel_rfl) ?_ ?_ ?_ ?_ ?_
  · intro args H K K' h hk
    simp only [S_impl_finiteList] at *
    unfold F_impl_finiteList at *
    split at hk
    · obtain ⟨l_list, i_list, bd_12, k⟩ := hk
      exact ⟨l_list, i_list, bd_12, (fun H' gg => Br_mono (h _ _) (h _ _) (k H' gg))⟩
    · exact hk.elim
  · intro hq; cases hq
  · intro args H K hk
    simp only [S_impl_finiteList] at *
    unfold F_impl_finiteList at *
    split at hk
    · obtain ⟨l_list, i_list, bd_12, k⟩ := hk
      exact Br_live (k H (Grow.refl H))
    · exact hk.elim
  · intro _ args H K hk
    simp only [S_impl_finiteList] at *
    unfold F_impl_finiteList at *
    split at hk
    · obtain ⟨l_list, i_list, bd_12, k⟩ := hk
      exact ⟨l_list, i_list, bd_12, (fun H' gg => Br_mono (fun q => ⟨gg, q⟩) (fun q => ⟨gg, q⟩) (k H' gg))⟩
    · exact hk.elim
  · have mm := @impl_finiteList_main
    have ml := fun (args : List Value) (H : AHeap) (K : Value → AHeap → Prop) => bodyL_body (P := Try.prog) (env := E_impl_finiteList ) (fn := Try.f109) (args := args) (H := H) (K := K) E_impl_finiteList_ok 
    revert mm ml
    generalize bodyK Try.prog E_impl_finiteList Try.f109 = Q
    generalize bodyL Try.prog E_impl_finiteList Try.f109 = QL
    intro mm ml args H K hk
    simp only [S_impl_finiteList] at *
    unfold F_impl_finiteList at *
    split at hk
    · exact ml _ H K (mm _ _ _ H K hk)
    · exact hk.elim

def p_impl_SegmentMeans_l2 (l_list : List Nat) (l_breaks : List Int) (t5 : Bool) (l_vout : List Nat) (vfrom : Int) (t28 : Int) (k2_2 : (List Nat) → Int → ((List Nat) × Bool)) : Nat → (List Nat) → Int → (List Nat) × Bool
  | 0, _, _ => ([], false)
  | μ2 + 1, l_vout_2, t47 => (bif decide ((t47 : Int) < ((((((([] : List Int) ++ l_breaks) ++ [((l_list.length : Int) : Int)])).getD (t28 : Int).toNat 0)) - vfrom)) then (p_impl_SegmentMeans_l2 l_list l_breaks t5 l_vout vfrom t28 k2_2 μ2 ((l_vout_2 ++ [((p_impl_mean ((((l_list).drop (vfrom : Int).toNat).take ((((((([] : List Int) ++ l_breaks) ++ [((l_list.length : Int) : Int)])).getD (t28 : Int).toNat 0) : Int) - vfrom).toNat))))])) (t47 + 1)) else (k2_2 l_vout_2 t47))
def p_impl_SegmentMeans_l2_s := fun l_list l_breaks t5 l_vout vfrom t28 k2_2 μ2 l_vout_2 t47 => @p_impl_SegmentMeans_l2.eq_2 l_list l_breaks t5 l_vout vfrom t28 k2_2 l_vout_2 t47 μ2
def p_impl_SegmentMeans_l1 (l_list : List Nat) (l_breaks : List Int) : Nat → Bool → (List Nat) → Int → Int → (List Nat) × Bool
  | 0, _, _, _, _ => ([], false)
  | μ + 1, t5, l_vout, vfrom, t28 => (bif decide ((t28 : Int) < ((0 + l_breaks.length) + 1 : Int)) then (bif !((p_impl_within (((((([] : List Int) ++ l_breaks) ++ [((l_list.length : Int) : Int)])).getD (t28 : Int).toNat 0)) (vfrom + 1) (l_list.length : Int))) then ([], false) else (p_impl_SegmentMeans_l2 l_list l_breaks t5 l_vout vfrom t28 (fun (l_vout_2 : List Nat) (t47 : Int) => (p_impl_SegmentMeans_l1 l_list l_breaks μ t5 l_vout_2 (((((([] : List Int) ++ l_breaks) ++ [((l_list.length : Int) : Int)])).getD (t28 : Int).toNat 0)) (t28 + 1))) (Int.toNat (((((((([] : List Int) ++ l_breaks) ++ [((l_list.length : Int) : Int)])).getD (t28 : Int).toNat 0)) - vfrom) - (0 : Int)) + 1) l_vout (0 : Int))) else (bif (p_impl_finiteList l_vout).2 then (l_vout, true) else ([], false)))
def p_impl_SegmentMeans_l1_s := fun l_list l_breaks μ t5 l_vout vfrom t28 => @p_impl_SegmentMeans_l1.eq_2 l_list l_breaks t5 l_vout vfrom t28 μ
def p_impl_SegmentMeans (l_list : List Nat) (l_breaks : List Int) : (List Nat) × Bool := (bif !(p_impl_isLong l_list) then ([], false) else (bif decide ((16 : Int) < (l_breaks.length : Int)) then ([], false) else (p_impl_SegmentMeans_l1 l_list l_breaks (Int.toNat (((0 + l_breaks.length) + 1 : Int) - (0 : Int)) + 1) false ([] : List Nat) (0 : Int) (0 : Int))))
def p_impl_SegmentMeans_eq := @p_impl_SegmentMeans.eq_1
def T_impl_SegmentMeans (list_a : Option Addr) (list_n : Nat) (list_e : Nat) (breaks_a : Option Addr) (breaks_n : Nat) (breaks_e : Nat) (H : AHeap) (K : (Option Addr) → Nat → Nat → Bool → AHeap → Prop) : Prop := ∃ (l_list : List Nat), ∃ (l_breaks : List Int), IsL fF H list_a list_n l_list ∧ IsL fI H breaks_a breaks_n l_breaks ∧ l_list.length < 1073741824 ∧ l_breaks.length < 1073741824 ∧ ((∀ (r1_a : Option Addr) (r1_n r1_e : Nat), ∀ H' : AHeap, Grow H H' → OwnS fF H' H.length r1_a r1_n r1_e ((p_impl_SegmentMeans l_list l_breaks).1) → K r1_a r1_n r1_e ((p_impl_SegmentMeans l_list l_breaks).2) H'))
theorem T_impl_SegmentMeans_i {list_a : Option Addr} {list_n : Nat} {list_e : Nat} {breaks_a : Option Addr} {breaks_n : Nat} {breaks_e : Nat} {H : AHeap} {K : (Option Addr) → Nat → Nat → Bool → AHeap → Prop} (h : ∃ (l_list : List Nat), ∃ (l_breaks : List Int), IsL fF H list_a list_n l_list ∧ IsL fI H breaks_a breaks_n l_breaks ∧ l_list.length < 1073741824 ∧ l_breaks.length < 1073741824 ∧ ((∀ (r1_a : Option Addr) (r1_n r1_e : Nat), ∀ H' : AHeap, Grow H H' → OwnS fF H' H.length r1_a r1_n r1_e ((p_impl_SegmentMeans l_list l_breaks).1) → K r1_a r1_n r1_e ((p_impl_SegmentMeans l_list l_breaks).2) H'))) : T_impl_SegmentMeans list_a list_n list_e breaks_a breaks_n breaks_e H K := h
def okc (n : Int) : Int → List Int → Bool
  | _, [] => true
  | f, e :: es => bif decide (f + 1 ≤ e) then (bif decide (e ≤ n) then okc n e es else false) else false
def seg (m : List Nat → Nat) (l : List Nat) : Int → List Int → List Nat
  | _, [] => []
  | f, e :: es => List.replicate (e - f).toNat (m ((l.drop (f : Int).toNat).take ((e : Int) - f).toNat)) ++ seg m l e es
theorem seg_len (m : List Nat → Nat) (l : List Nat) (n : Int) : ∀ (es : List Int) (f : Int), f ≤ n → okc n f es = true → ((seg m l f es).length : Int) ≤ n - f := by
  intro es
  induction es with
  | nil => intro f h _; unfold seg; simp; omega
  | cons e es ih =>
    intro f h hc
    unfold okc at hc
    by_cases h1 : f + 1 ≤ e
    · rw [decide_eq_true h1, cond_true] at hc
      by_cases h2 : e ≤ n
      · rw [decide_eq_true h2, cond_true] at hc
        have := ih e h2 hc
        unfold seg
        rw [List.length_append, List.length_replicate]
        omega
      · rw [decide_eq_false h2, cond_false] at hc; cases hc
    · rw [decide_eq_false h1, cond_false] at hc; cases hc
def segF (fin1 : List Nat → Bool) (o : List Nat) : List Nat × Bool := bif !(fin1 o) then ([], false) else (o, true)
theorem rep_succ (o : List Nat) (m : Nat) (a b : Int) (h : a < b) : (o ++ [m]) ++ List.replicate (b - (a + 1)).toNat m = o ++ List.replicate (b - a).toNat m := by
  rw [show (b - a).toNat = (b - (a + 1)).toNat + 1 by omega, List.replicate_succ, List.append_assoc]; rfl
theorem rep_zero (o : List Nat) (m : Nat) (a b : Int) (h : ¬ a < b) : o ++ List.replicate (b - a).toNat m = o := by
  rw [show (b - a).toNat = 0 by omega, List.replicate_zero, List.append_nil]
def segV (m : List Nat → Nat) (fin1 : List Nat → Bool) (long : Bool) (l : List Nat) (b : List Int) : List Nat × Bool :=
  bif !long then ([], false) else bif decide ((16 : Int) < (b.length : Int)) then ([], false) else bif okc (l.length : Int) 0 (b ++ [((l.length : Int) : Int)]) then segF fin1 (seg m l 0 (b ++ [((l.length : Int) : Int)])) else ([], false)
theorem segV_len (m : List Nat → Nat) (fin1 : List Nat → Bool) (long : Bool) (l : List Nat) (b : List Int) : (segV m fin1 long l b).1.length ≤ l.length := by
  unfold segV
  cases long with
  | false => exact Nat.zero_le _
  | true =>
    rw [Bool.not_true, cond_false]
    cases decide ((16 : Int) < (b.length : Int)) with
    | true => exact Nat.zero_le _
    | false =>
      rw [cond_false]
      cases h : okc (l.length : Int) 0 (b ++ [((l.length : Int) : Int)]) with
      | false => exact Nat.zero_le _
      | true =>
        rw [cond_true]
        have := seg_len m l (l.length : Int) _ 0 ω3 h
        unfold segF
        cases (!(fin1 (seg m l 0 (b ++ [((l.length : Int) : Int)])))) with
        | true => exact Nat.zero_le _
        | false => exact (by omega : (seg m l 0 (b ++ [((l.length : Int) : Int)])).length ≤ l.length)
theorem impl_seg_l2 (l : List Nat) (b : List Int) (t5 : Bool) (vo : List Nat) (f t28 : Int) (K : List Nat → Int → List Nat × Bool) (F : List Nat → List Nat × Bool) (hK : ∀ o k, K o k = F o)
    (E : List Int) (hE : (([] : List Int) ++ b) ++ [((l.length : Int) : Int)] = E) (e : Int) (he : E.getD (t28 : Int).toNat 0 = e) (m : Nat) (hm : p_impl_mean ((l.drop (f : Int).toNat).take ((e : Int) - f).toNat) = m) :
    ∀ (μ : Nat) (o : List Nat) (k : Int), (e - f - k).toNat < μ → p_impl_SegmentMeans_l2 l b t5 vo f t28 K μ o k = F (o ++ List.replicate (e - f - k).toNat m) := by
  intro μ
  induction μ with
  | zero => intro o k h; omega
  | succ μ ih =>
    intro o k h
    rw [p_impl_SegmentMeans_l2_s, hE, he, hm]
    by_cases c : k < e - f
    · rw [decide_eq_true c, cond_true, ih _ _ ω3, rep_succ _ _ _ _ c]
    · rw [decide_eq_false c, cond_false, rep_zero _ _ _ _ c, hK]
theorem impl_seg_l1 (l : List Nat) (b : List Int) (t5 : Bool) (hn : (l.length : Int) ≤ 128) (E : List Int) (hE : (([] : List Int) ++ b) ++ [((l.length : Int) : Int)] = E) : ∀ (μ : Nat) (o : List Nat) (f : Int) (t : Nat), E.length - t < μ → 0 ≤ f →
    p_impl_SegmentMeans_l1 l b μ t5 o f (t : Int) = bif okc (l.length : Int) f (E.drop t) then segF (fun o => (p_impl_finiteList o).2) (o ++ seg p_impl_mean l f (E.drop t)) else ([], false) := by
  have hl : E.length = b.length + 1 := by rw [← hE, List.length_append, List.nil_append]; rfl
  intro μ
  induction μ with
  | zero => intro o f t h; omega
  | succ μ ih =>
    intro o f t h hf
    rw [p_impl_SegmentMeans_l1_s]
    by_cases c : t < E.length
    · have e0 : E.drop t = E.getD t 0 :: E.drop (t + 1) := by
        rw [List.drop_eq_getElem_cons c, List.getD_eq_getElem?_getD, List.getElem?_eq_getElem c]; rfl
      rw [decide_eq_true (show (t : Int) < (0 + ((b.length : Nat) : Int)) + 1 by omega), cond_true, hE, Int.toNat_natCast, e0]
      unfold okc p_impl_within
      by_cases c1 : f + 1 ≤ E.getD t 0
      · rw [decide_eq_true c1, cond_true, cond_true]
        by_cases c2 : E.getD t 0 ≤ (l.length : Int)
        · rw [decide_eq_true c2, Bool.not_true, cond_false, cond_true]
          rw [impl_seg_l2 l b t5 o f (t : Int) _ (fun o => p_impl_SegmentMeans_l1 l b μ t5 o (E.getD t 0) ((t : Int) + 1)) (fun o k => rfl) E hE (E.getD t 0) (by rw [Int.toNat_natCast]) _ rfl _ _ _ (Nat.lt_succ_self _), Int.sub_zero]
          have := ih (o ++ List.replicate (E.getD t 0 - f).toNat (p_impl_mean ((l.drop (f : Int).toNat).take ((E.getD t 0 : Int) - f).toNat))) (E.getD t 0) (t + 1) ω3 ω3
          rw [show ((t + 1 : Nat) : Int) = (t : Int) + 1 by omega] at this
          rw [this, List.append_assoc]
          rfl
        · rw [decide_eq_false c2]; rfl
      · rw [decide_eq_false c1]; rfl
    · rw [decide_eq_false (show ¬ (t : Int) < (0 + ((b.length : Nat) : Int)) + 1 by omega), cond_false, List.drop_eq_nil_of_le ω3]
      unfold seg okc segF
      rw [List.append_nil, cond_true]
      show _ = bif !((p_impl_finiteList o).2) then _ else _
      cases (p_impl_finiteList o).2 <;> rfl
theorem impl_seg_val (l : List Nat) (b : List Int) : p_impl_SegmentMeans l b = segV p_impl_mean (fun o => (p_impl_finiteList o).2) (p_impl_isLong l) l b := by
  rw [p_impl_SegmentMeans_eq]
  unfold segV
  cases hl : p_impl_isLong l with
  | false => rfl
  | true =>
    rw [Bool.not_true, cond_false, cond_false]
    have hn := impl_isLong_t hl
    have := impl_seg_l1 l b false ω3 _ rfl (Int.toNat (((0 + b.length) + 1 : Int) - (0 : Int)) + 1) [] 0 0 (by rw [List.length_append, List.nil_append, List.length_singleton]; omega) (Int.le_refl 0)
    rw [show ((0 : Nat) : Int) = 0 from rfl] at this
    rw [this, List.drop_zero, List.nil_append, List.nil_append]
theorem impl_SegmentMeans_len (l : List Nat) (b : List Int) : (p_impl_SegmentMeans l b).1.length ≤ l.length := by
  rw [impl_seg_val]; exact segV_len _ _ _ _ _
/-! impl_SegmentMeans: function 72 -/
def E_impl_SegmentMeans : Env := envOf [(105, S_impl_isLong), (96, S_impl_within), (132, S_impl_mean), (109, S_impl_finiteList)]
def F_impl_SegmentMeans : List Value → AHeap → (Value → AHeap → Prop) → Prop
  | [.slice list_a list_n list_e, .slice breaks_a breaks_n breaks_e], H, K => T_impl_SegmentMeans list_a list_n list_e breaks_a breaks_n breaks_e H fun (r1_a : Option Addr) (r1_n : Nat) (r1_e : Nat) (r2 : Bool) (H' : AHeap) => K (.tuple #[.slice r1_a r1_n r1_e, .bool r2]) H'
  | _, _, _ => False
def S_impl_SegmentMeans : FSpec := { F := F_impl_SegmentMeans, quiet := false, tame := true }
theorem impl_SegmentMeans_vc (list_a : Option Addr) (list_n : Nat) (list_e : Nat) (breaks_a : Option Addr) (breaks_n : Nat) (breaks_e : Nat) (H : AHeap) (K : Value → AHeap → Prop) : bodyL Try.prog E_impl_SegmentMeans Try.f72 [.slice list_a list_n list_e, .slice breaks_a breaks_n breaks_e] H K =
  (T_impl_isLong list_a list_n list_e H fun (r1 : Bool) (H1 : AHeap) => Br (!r1) (K (.tuple #[.slice none 0 0, .bool false]) H1) (Br (decide ((16 : Int) < (breaks_n : Int))) (K (.tuple #[.slice none 0 0, .bool false]) H1) (Al [] H1 fun b1 H2 => Al [] H2 fun b2 H3 => ∃ o1 w1 : List Value, ownB H3 (some ⟨b2, 0, none⟩) 0 1 1 = some o1 ∧ rdS H3 breaks_a (breaks_n * 1) = some w1 ∧ ((some ⟨b2, 0, none⟩ : Option Addr) = none → 0 < (breaks_n : Nat)) ∧ (0 : Nat) + breaks_n < most ∧ Ap H3 (killB H3 (some ⟨b2, 0, none⟩) ++ [some ⟨o1 ++ w1, true⟩]) fun b3 H4 => Al [.int .i64 (list_n : Int)] H4 fun b4 H5 => ∃ o2 w2 : List Value, ownB H5 (some ⟨b3, 0, none⟩) (0 + breaks_n) 1 1 = some o2 ∧ rdS H5 (some ⟨b4, 0, none⟩) (1 * 1) = some w2 ∧ ((some ⟨b3, 0, none⟩ : Option Addr) = none → 0 < (1 : Nat)) ∧ (0 + breaks_n : Nat) + 1 < most ∧ Ap H5 (killB H5 (some ⟨b3, 0, none⟩) ++ [some ⟨o2 ++ w2, true⟩]) fun b5 H6 => loopK (exL Try.prog E_impl_SegmentMeans (cl (cl (cr (cl (cr (cr (cr (bodyC Try.f72)))))))) 469762241 48 [(0, 64)]) [.slice list_a list_n list_e, ud, ud, ud, ud, ud, .slice (some ⟨b1, 0, none⟩) 0 1, .int .i64 0, ud, ud, ud, ud, ud, ud, ud, ud, ud, ud, ud, ud, ud, ud, ud, ud, ud, ud, .slice (some ⟨b5, 0, none⟩) ((0 + breaks_n) + 1) 1, .int .i64 (((0 + breaks_n) + 1 : Int)), .int .i64 0, ud, ud, ud, ud, ud, ud, ud, ud, ud, ud, ud, ud, ud, ud, ud, ud, ud, ud, ud, ud, ud, ud, ud, ud, ud, ud, ud, ud, ud, ud, ud] H6 (blockQ 0 (seqQ (exL Try.prog E_impl_SegmentMeans (cr (cr (cr (cr (bodyC Try.f72))))) 48 48 []) (retK Try.prog Try.f72 K)))))) := by kernel_rfl
abbrev impl_SegmentMeans_P1 (b5 : Nat) (breaks_n : Nat) (list_a : Option Addr) (list_e : Nat) (list_n : Nat) (vout_a : Option Addr) (vout_n : Nat) (vout_e : Nat) (vfrom : Int) (t28 : Int)  : List Value := [.slice list_a list_n list_e, ud, ud, ud, ud, ud, .slice vout_a vout_n vout_e, .int .i64 vfrom, ud, ud, ud, ud, ud, ud, ud, ud, ud, ud, ud, ud, ud, ud, ud, ud, ud, ud, .slice (some ⟨b5, 0, none⟩) ((0 + breaks_n) + 1) 1, .int .i64 (((0 + breaks_n) + 1 : Int)), .int .i64 t28, ud, ud, ud, ud, ud, ud, ud, ud, ud, ud, ud, ud, ud, ud, ud, ud, ud, ud, ud, ud, ud, ud, ud, ud, ud, ud, ud, ud, ud, ud, ud]
theorem impl_SegmentMeans_r1 (b5 : Nat) (breaks_n : Nat) (list_a : Option Addr) (list_e : Nat) (list_n : Nat) (vout_a : Option Addr) (vout_n : Nat) (vout_e : Nat) (vfrom : Int) (t28 : Int)  (H : AHeap) (R : Post) : exL Try.prog E_impl_SegmentMeans (cl (cl (cr (cl (cr (cr (cr (bodyC Try.f72)))))))) 469762241 48 [(0, 64)] (impl_SegmentMeans_P1 b5 breaks_n list_a list_e list_n vout_a vout_n vout_e vfrom t28) H R =
  (Br (decide ((t28 : Int) < ((0 + breaks_n) + 1 : Int))) ((0 : Int) ≤ t28 ∧ t28 < ((0 + breaks_n) + 1 : Int) ∧ ∃ b6 f1, (some ⟨b5, 0, none⟩ : Option Addr) = some ⟨b6, f1, none⟩ ∧ ∃ x1 : Int,  rdC H b6 (f1 + (t28 : Int).toNat * 1) = some (.int .i64 x1) ∧ T_impl_within x1 (IntKind.wrap .i64 (vfrom + 1)) (list_n : Int) H fun (r2 : Bool) (H7 : AHeap) => Br (!r2) (R .ret [ud, ud, ud, ud, .slice none 0 0, .bool false, ud, ud, ud, ud, ud, ud, ud, ud, ud, ud, ud, ud, ud, ud, ud, ud, ud, ud, ud, ud, ud, ud, ud, ud, ud, ud, ud, ud, ud, ud, ud, ud, ud, ud, ud, ud, ud, ud, ud, ud, ud, ud, ud, ud, ud, ud, ud, ud, ud, ud, ud, ud, ud, ud] H7) ((0 : Int) ≤ vfrom ∧ vfrom ≤ x1 ∧ x1 ≤ (list_n : Int) ∧ T_impl_mean ((list_a : Option Addr).map fun a => ⟨a.block, a.off + (vfrom : Int).toNat * 1, none⟩) (((x1 : Int) - vfrom).toNat) 0 H7 fun (r3 : Nat) (H8 : AHeap) => loopK (exL Try.prog E_impl_SegmentMeans (cl (cl (cr (cl (cr (cr (cr (cl (cl (cr (cr (cl (cl (cr (cl (cr (cr (cr (bodyC Try.f72))))))))))))))))))) 211106702296641 48 [(2, 469762625), (1, 469762241), (0, 64)]) [.slice list_a list_n list_e, ud, ud, ud, ud, ud, .slice vout_a vout_n vout_e, ud, ud, .int .i64 x1, .float .f32 r3, ud, ud, ud, ud, ud, ud, ud, ud, ud, ud, ud, ud, ud, ud, ud, .slice (some ⟨b5, 0, none⟩) ((0 + breaks_n) + 1) 1, .int .i64 (((0 + breaks_n) + 1 : Int)), .int .i64 t28, ud, ud, ud, ud, ud, ud, ud, ud, ud, ud, ud, ud, ud, ud, ud, ud, ud, .int .i64 (IntKind.wrap .i64 (x1 - vfrom)), .int .i64 0, ud, ud, ud, ud, ud, ud, ud, ud, ud, ud, ud, ud] H8 (blockQ 2 (seqQ (exL Try.prog E_impl_SegmentMeans (cr (cr (cr (cr (cl (cl (cr (cr (cl (cl (cr (cl (cr (cr (cr (bodyC Try.f72)))))))))))))))) 469762241 48 [(1, 469762241), (0, 64)]) (blockQ 1 (seqQ (exL Try.prog E_impl_SegmentMeans (cr (cr (cr (cl (cl (cr (cl (cr (cr (cr (bodyC Try.f72))))))))))) 469762241 48 [(0, 64)]) (R))))))) (R (.exit 0) [ud, ud, ud, ud, ud, ud, .slice vout_a vout_n vout_e, ud, ud, ud, ud, ud, ud, ud, ud, ud, ud, ud, ud, ud, ud, ud, ud, ud, ud, ud, ud, ud, ud, ud, ud, ud, ud, ud, ud, ud, ud, ud, ud, ud, ud, ud, ud, ud, ud, ud, ud, ud, ud, ud, ud, ud, ud, ud, ud, ud, ud, ud, ud, ud] H)) := by kernel_rfl
def impl_SegmentMeans_I1 (b5 : Nat) (breaks_n : Nat) (list_a : Option Addr) (list_e : Nat) (list_n : Nat) (Inv : Nat → (Option Addr) → Nat → Nat → Int → Int → AHeap → Prop) : Nat → List Value → AHeap → Prop := fun μ tm H => ∃ (vout_a : Option Addr), ∃ (vout_n : Nat), ∃ (vout_e : Nat), ∃ (vfrom : Int), ∃ (t28 : Int), tm = (impl_SegmentMeans_P1 b5 breaks_n list_a list_e list_n vout_a vout_n vout_e vfrom t28) ∧ Inv μ vout_a vout_n vout_e vfrom t28 H
theorem impl_SegmentMeans_L1 (b5 : Nat) (breaks_n : Nat) (list_a : Option Addr) (list_e : Nat) (list_n : Nat) {Q : Post} (Inv : Nat → (Option Addr) → Nat → Nat → Int → Int → AHeap → Prop) (ν : Nat) (vout_a : Option Addr) (vout_n : Nat) (vout_e : Nat) (vfrom : Int) (t28 : Int)  (H : AHeap) (h0 : Inv ν vout_a vout_n vout_e vfrom t28 H)
    (hs : ∀ (μ : Nat) (vout_a : Option Addr) (vout_n : Nat) (vout_e : Nat) (vfrom : Int) (t28 : Int)  (H : AHeap), Inv μ vout_a vout_n vout_e vfrom t28 H → exL Try.prog E_impl_SegmentMeans (cl (cl (cr (cl (cr (cr (cr (bodyC Try.f72)))))))) 469762241 48 [(0, 64)] (impl_SegmentMeans_P1 b5 breaks_n list_a list_e list_n vout_a vout_n vout_e vfrom t28) H (loopQ (impl_SegmentMeans_I1 b5 breaks_n list_a list_e list_n Inv) μ Q)) : loopK (exL Try.prog E_impl_SegmentMeans (cl (cl (cr (cl (cr (cr (cr (bodyC Try.f72)))))))) 469762241 48 [(0, 64)]) (impl_SegmentMeans_P1 b5 breaks_n list_a list_e list_n vout_a vout_n vout_e vfrom t28) H Q :=
  ⟨impl_SegmentMeans_I1 b5 breaks_n list_a list_e list_n Inv, ν, ⟨vout_a, vout_n, vout_e, vfrom, t28, rfl, h0⟩, fun μ tm H h => by obtain ⟨vout_a, vout_n, vout_e, vfrom, t28, rfl, hI⟩ := h; exact hs μ vout_a vout_n vout_e vfrom t28  H hI⟩
theorem impl_SegmentMeans_n1 {b5 : Nat} {breaks_n : Nat} {list_a : Option Addr} {list_e : Nat} {list_n : Nat} {Q : Post} {Inv : Nat → (Option Addr) → Nat → Nat → Int → Int → AHeap → Prop} {μ : Nat} (μ' : Nat) {vout_a : Option Addr} {vout_n : Nat} {vout_e : Nat} {vfrom : Int} {t28 : Int}  {H : AHeap} (hm : μ' < μ) (hI : Inv μ' vout_a vout_n vout_e vfrom t28 H) : loopQ (impl_SegmentMeans_I1 b5 breaks_n list_a list_e list_n Inv) μ Q .normal (impl_SegmentMeans_P1 b5 breaks_n list_a list_e list_n vout_a vout_n vout_e vfrom t28) H := ⟨μ', hm, vout_a, vout_n, vout_e, vfrom, t28, rfl, hI⟩
theorem impl_SegmentMeans_x1_0 (vout_a : Option Addr) (vout_n : Nat) (vout_e : Nat) (H : AHeap) (K : Value → AHeap → Prop)  {I : Nat → List Value → AHeap → Prop} {μ : Nat} : loopQ I μ (blockQ 0 (seqQ (exL Try.prog E_impl_SegmentMeans (cr (cr (cr (cr (bodyC Try.f72))))) 48 48 []) (retK Try.prog Try.f72 K))) (.exit 0) [ud, ud, ud, ud, ud, ud, .slice vout_a vout_n vout_e, ud, ud, ud, ud, ud, ud, ud, ud, ud, ud, ud, ud, ud, ud, ud, ud, ud, ud, ud, ud, ud, ud, ud, ud, ud, ud, ud, ud, ud, ud, ud, ud, ud, ud, ud, ud, ud, ud, ud, ud, ud, ud, ud, ud, ud, ud, ud, ud, ud, ud, ud, ud, ud] H =
  (T_impl_finiteList vout_a vout_n vout_e H fun (a1 : Option Addr) (r4 : Nat) (r5 : Nat) (r6 : Bool) (H11 : AHeap) => K (.tuple #[.slice a1 r4 r5, .bool r6]) H11) := by kernel_rfl
theorem impl_SegmentMeans_x1_ret (t4_a : Option Addr) (t4_n : Nat) (t4_e : Nat) (t5 : Bool) (H : AHeap) (K : Value → AHeap → Prop)  {I : Nat → List Value → AHeap → Prop} {μ : Nat} : loopQ I μ (blockQ 0 (seqQ (exL Try.prog E_impl_SegmentMeans (cr (cr (cr (cr (bodyC Try.f72))))) 48 48 []) (retK Try.prog Try.f72 K))) .ret [ud, ud, ud, ud, .slice t4_a t4_n t4_e, .bool t5, ud, ud, ud, ud, ud, ud, ud, ud, ud, ud, ud, ud, ud, ud, ud, ud, ud, ud, ud, ud, ud, ud, ud, ud, ud, ud, ud, ud, ud, ud, ud, ud, ud, ud, ud, ud, ud, ud, ud, ud, ud, ud, ud, ud, ud, ud, ud, ud, ud, ud, ud, ud, ud, ud] H =
  (K (.tuple #[.slice t4_a t4_n t4_e, .bool t5]) H) := by kernel_rfl
abbrev impl_SegmentMeans_P2 (b5 : Nat) (breaks_n : Nat) (list_a : Option Addr) (list_e : Nat) (list_n : Nat) (r3 : Nat) (t28 : Int) (x1 : Int) (z2_46 : Int) (vout_a : Option Addr) (vout_n : Nat) (vout_e : Nat) (t47 : Int)  : List Value := [.slice list_a list_n list_e, ud, ud, ud, ud, ud, .slice vout_a vout_n vout_e, ud, ud, .int .i64 x1, .float .f32 r3, ud, ud, ud, ud, ud, ud, ud, ud, ud, ud, ud, ud, ud, ud, ud, .slice (some ⟨b5, 0, none⟩) ((0 + breaks_n) + 1) 1, .int .i64 (((0 + breaks_n) + 1 : Int)), .int .i64 t28, ud, ud, ud, ud, ud, ud, ud, ud, ud, ud, ud, ud, ud, ud, ud, ud, ud, .int .i64 z2_46, .int .i64 t47, ud, ud, ud, ud, ud, ud, ud, ud, ud, ud, ud, ud]
theorem impl_SegmentMeans_r2 (b5 : Nat) (breaks_n : Nat) (list_a : Option Addr) (list_e : Nat) (list_n : Nat) (r3 : Nat) (t28 : Int) (x1 : Int) (z2_46 : Int) (vout_a : Option Addr) (vout_n : Nat) (vout_e : Nat) (t47 : Int)  (H : AHeap) (R : Post) : exL Try.prog E_impl_SegmentMeans (cl (cl (cr (cl (cr (cr (cr (cl (cl (cr (cr (cl (cl (cr (cl (cr (cr (cr (bodyC Try.f72))))))))))))))))))) 211106702296641 48 [(2, 469762625), (1, 469762241), (0, 64)] (impl_SegmentMeans_P2 b5 breaks_n list_a list_e list_n r3 t28 x1 z2_46 vout_a vout_n vout_e t47) H R =
  (Br (decide ((t47 : Int) < z2_46)) (Al [.float .f32 r3] H fun b7 H9 => ∃ o3 w3 : List Value, ownB H9 vout_a vout_n vout_e 1 = some o3 ∧ rdS H9 (some ⟨b7, 0, none⟩) (1 * 1) = some w3 ∧ ((vout_a : Option Addr) = none → 0 < (1 : Nat)) ∧ (vout_n : Nat) + 1 < most ∧ Ap H9 (killB H9 vout_a ++ [some ⟨o3 ++ w3, true⟩]) fun b8 H10 => R .normal [.slice list_a list_n list_e, ud, ud, ud, ud, ud, .slice (some ⟨b8, 0, none⟩) (vout_n + 1) 1, ud, ud, .int .i64 x1, .float .f32 r3, ud, ud, ud, ud, ud, ud, ud, ud, ud, ud, ud, ud, ud, ud, ud, .slice (some ⟨b5, 0, none⟩) ((0 + breaks_n) + 1) 1, .int .i64 (((0 + breaks_n) + 1 : Int)), .int .i64 t28, ud, ud, ud, ud, ud, ud, ud, ud, ud, ud, ud, ud, ud, ud, ud, ud, ud, .int .i64 z2_46, .int .i64 (IntKind.wrap .i64 (t47 + 1)), ud, ud, ud, ud, ud, ud, ud, ud, ud, ud, ud, ud] H10) (R (.exit 2) [.slice list_a list_n list_e, ud, ud, ud, ud, ud, .slice vout_a vout_n vout_e, ud, ud, .int .i64 x1, ud, ud, ud, ud, ud, ud, ud, ud, ud, ud, ud, ud, ud, ud, ud, ud, .slice (some ⟨b5, 0, none⟩) ((0 + breaks_n) + 1) 1, .int .i64 (((0 + breaks_n) + 1 : Int)), .int .i64 t28, ud, ud, ud, ud, ud, ud, ud, ud, ud, ud, ud, ud, ud, ud, ud, ud, ud, ud, ud, ud, ud, ud, ud, ud, ud, ud, ud, ud, ud, ud, ud] H)) := by kernel_rfl
def impl_SegmentMeans_I2 (b5 : Nat) (breaks_n : Nat) (list_a : Option Addr) (list_e : Nat) (list_n : Nat) (r3 : Nat) (t28 : Int) (x1 : Int) (z2_46 : Int) (Inv : Nat → (Option Addr) → Nat → Nat → Int → AHeap → Prop) : Nat → List Value → AHeap → Prop := fun μ tm H => ∃ (vout_a : Option Addr), ∃ (vout_n : Nat), ∃ (vout_e : Nat), ∃ (t47 : Int), tm = (impl_SegmentMeans_P2 b5 breaks_n list_a list_e list_n r3 t28 x1 z2_46 vout_a vout_n vout_e t47) ∧ Inv μ vout_a vout_n vout_e t47 H
theorem impl_SegmentMeans_L2 (b5 : Nat) (breaks_n : Nat) (list_a : Option Addr) (list_e : Nat) (list_n : Nat) (r3 : Nat) (t28 : Int) (x1 : Int) (z2_46 : Int) {Q : Post} (Inv : Nat → (Option Addr) → Nat → Nat → Int → AHeap → Prop) (ν : Nat) (vout_a : Option Addr) (vout_n : Nat) (vout_e : Nat) (t47 : Int)  (H : AHeap) (h0 : Inv ν vout_a vout_n vout_e t47 H)
    (hs : ∀ (μ : Nat) (vout_a : Option Addr) (vout_n : Nat) (vout_e : Nat) (t47 : Int)  (H : AHeap), Inv μ vout_a vout_n vout_e t47 H → exL Try.prog E_impl_SegmentMeans (cl (cl (cr (cl (cr (cr (cr (cl (cl (cr (cr (cl (cl (cr (cl (cr (cr (cr (bodyC Try.f72))))))))))))))))))) 211106702296641 48 [(2, 469762625), (1, 469762241), (0, 64)] (impl_SegmentMeans_P2 b5 breaks_n list_a list_e list_n r3 t28 x1 z2_46 vout_a vout_n vout_e t47) H (loopQ (impl_SegmentMeans_I2 b5 breaks_n list_a list_e list_n r3 t28 x1 z2_46 Inv) μ Q)) : loopK (exL Try.prog E_impl_SegmentMeans (cl (cl (cr (cl (cr (cr (cr (cl (cl (cr (cr (cl (cl (cr (cl (cr (cr (cr (bodyC Try.f72))))))))))))))))))) 211106702296641 48 [(2, 469762625), (1, 469762241), (0, 64)]) (impl_SegmentMeans_P2 b5 breaks_n list_a list_e list_n r3 t28 x1 z2_46 vout_a vout_n vout_e t47) H Q :=
  ⟨impl_SegmentMeans_I2 b5 breaks_n list_a list_e list_n r3 t28 x1 z2_46 Inv, ν, ⟨vout_a, vout_n, vout_e, t47, rfl, h0⟩, fun μ tm H h => by obtain ⟨vout_a, vout_n, vout_e, t47, rfl, hI⟩ := h; exact hs μ vout_a vout_n vout_e t47  H hI⟩
theorem impl_SegmentMeans_n2 {b5 : Nat} {breaks_n : Nat} {list_a : Option Addr} {list_e : Nat} {list_n : Nat} {r3 : Nat} {t28 : Int} {x1 : Int} {z2_46 : Int} {Q : Post} {Inv : Nat → (Option Addr) → Nat → Nat → Int → AHeap → Prop} {μ : Nat} (μ' : Nat) {vout_a : Option Addr} {vout_n : Nat} {vout_e : Nat} {t47 : Int}  {H : AHeap} (hm : μ' < μ) (hI : Inv μ' vout_a vout_n vout_e t47 H) : loopQ (impl_SegmentMeans_I2 b5 breaks_n list_a list_e list_n r3 t28 x1 z2_46 Inv) μ Q .normal (impl_SegmentMeans_P2 b5 breaks_n list_a list_e list_n r3 t28 x1 z2_46 vout_a vout_n vout_e t47) H := ⟨μ', hm, vout_a, vout_n, vout_e, t47, rfl, hI⟩
theorem impl_SegmentMeans_x2_2 (b5 : Nat) (breaks_n : Nat) (list_a : Option Addr) (list_e : Nat) (list_n : Nat) (t28 : Int) (x1 : Int) (vout_a : Option Addr) (vout_n : Nat) (vout_e : Nat) (H : AHeap)  (R : Post) {I : Nat → List Value → AHeap → Prop} {μ : Nat} : loopQ I μ (blockQ 2 (seqQ (exL Try.prog E_impl_SegmentMeans (cr (cr (cr (cr (cl (cl (cr (cr (cl (cl (cr (cl (cr (cr (cr (bodyC Try.f72)))))))))))))))) 469762241 48 [(1, 469762241), (0, 64)]) (blockQ 1 (seqQ (exL Try.prog E_impl_SegmentMeans (cr (cr (cr (cl (cl (cr (cl (cr (cr (cr (bodyC Try.f72))))))))))) 469762241 48 [(0, 64)]) (R))))) (.exit 2) [.slice list_a list_n list_e, ud, ud, ud, ud, ud, .slice vout_a vout_n vout_e, ud, ud, .int .i64 x1, ud, ud, ud, ud, ud, ud, ud, ud, ud, ud, ud, ud, ud, ud, ud, ud, .slice (some ⟨b5, 0, none⟩) ((0 + breaks_n) + 1) 1, .int .i64 (((0 + breaks_n) + 1 : Int)), .int .i64 t28, ud, ud, ud, ud, ud, ud, ud, ud, ud, ud, ud, ud, ud, ud, ud, ud, ud, ud, ud, ud, ud, ud, ud, ud, ud, ud, ud, ud, ud, ud, ud] H =
  (R .normal [.slice list_a list_n list_e, ud, ud, ud, ud, ud, .slice vout_a vout_n vout_e, .int .i64 x1, ud, ud, ud, ud, ud, ud, ud, ud, ud, ud, ud, ud, ud, ud, ud, ud, ud, ud, .slice (some ⟨b5, 0, none⟩) ((0 + breaks_n) + 1) 1, .int .i64 (((0 + breaks_n) + 1 : Int)), .int .i64 (IntKind.wrap .i64 (t28 + 1)), ud, ud, ud, ud, ud, ud, ud, ud, ud, ud, ud, ud, ud, ud, ud, ud, ud, ud, ud, ud, ud, ud, ud, ud, ud, ud, ud, ud, ud, ud, ud] H) := by kernel_rfl
theorem E_impl_SegmentMeans_ok : ∀ g, FnOk Try.prog g (E_impl_SegmentMeans g) := FnOk.envOf (by
  intro x hx
  simp only [List.mem_cons, List.not_mem_nil, or_false] at hx
  rcases hx with rfl | rfl | rfl | rfl
  · exact impl_isLong_ok
  · exact impl_within_ok
  · exact impl_mean_ok
  · exact impl_finiteList_ok)
theorem ω10 {P : Prop} (h : P := by first | exact OwnS.nil _ _ _ _ | exact OwnT.nil _ _ _ | exact OwnLL.nil _ _ _ _) : P := h
set_option maxHeartbeats 1000000 in
theorem impl_SegmentMeans_main (list_a : Option Addr) (list_n : Nat) (list_e : Nat) (breaks_a : Option Addr) (breaks_n : Nat) (breaks_e : Nat) (H : AHeap) (K : Value → AHeap → Prop) (h : T_impl_SegmentMeans list_a list_n list_e breaks_a breaks_n breaks_e H fun (r1_a : Option Addr) (r1_n : Nat) (r1_e : Nat) (r2 : Bool) (H' : AHeap) => K (.tuple #[.slice r1_a r1_n r1_e, .bool r2]) H') : bodyL Try.prog E_impl_SegmentMeans Try.f72 [.slice list_a list_n list_e, .slice breaks_a breaks_n breaks_e] H K := by
  rw [impl_SegmentMeans_vc]
  obtain ⟨l_list, l_breaks, i_list, i_breaks, bd_155, bd_156, hk⟩ := h
  obtain rfl := i_list.eqn
  obtain rfl := i_breaks.eqn
  have e : (p_impl_SegmentMeans l_list l_breaks) = _ := rfl
  have e := e.trans (p_impl_SegmentMeans_eq l_list l_breaks)
  have g0 := Grow.refl H
  refine T_impl_isLong_i ⟨_, (i_list.grow g0), ω0, fun  H_1 g_1  => ?_⟩
  have l_2 := g_1.1
  have g_3 := g0.trans g_1
  have l_4 := g_3.1
  refine Br.intro (fun c_5 => ?_) (fun c_5 => ?_)
  · have e := e.trans (cond_t c_5)
    have c_5n := nf_of_t c_5
    rw [e] at hk
    exact hk _ _ _ H_1 g_3 ω10
  · have e := e.trans (cond_f c_5)
    have c_5n := nt_of_f c_5
    have c_5n' := impl_isLong_t c_5n
    refine Br.intro (fun c_6 => ?_) (fun c_6 => ?_)
    · have e := e.trans (cond_t c_6)
      have c_6' := of_decide_eq_true c_6
      rw [e] at hk
      exact hk _ _ _ H_1 g_3 ω10
    · have e := e.trans (cond_f c_6)
      have c_6' := of_decide_eq_false c_6
      refine Al.intro (fun b_7 H_2 hb_8 hl_9 g_10 o_11 => ?_)
      have o_11 : Own H_2 b_7 ((([] : List Nat)).map fF) := o_11
      have l_13 := g_10.1
      have g_14 := g_3.trans g_10
      have l_15 := g_14.1
      have w_154 := o_11.lt
      refine Al.intro (fun b_16 H_3 hb_17 hl_18 g_19 o_20 => ?_)
      have o_20 : Own H_3 b_16 ((([] : List Int)).map fI) := o_20
      have l_22 := g_19.1
      have g_23 := g_14.trans g_19
      have l_24 := g_23.1
      have o_25 := o_11.grow g_19
      have w_26 := o_25.lt
      have w_153 := o_20.lt
      refine ⟨_, _, o_20.ownB ω2 rfl, (isl_rdS (i_breaks.grow g_23)), (fun h => by cases h), ω13, ?_⟩
      refine Ap.app o_20 rfl rfl (fun b_31 H_4 q_151 hl_27 o_28 k_29 => ?_)
      have o_28 := map_snoc o_28
      have l_32 := k_29.1
      have g_33 := g_23.keep (b := b_16) ω3 k_29
      have l_34 := g_33.1
      have o_35 := o_25.keep ω3 k_29
      have w_36 := o_35.lt
      have w_152 := o_28.lt
      refine Al.intro (fun b_37 H_5 hb_38 hl_39 g_40 o_41 => ?_)
      have o_41 : Own H_5 b_37 (([((l_list.length : Int) : Int)]).map fI) := o_41
      have l_43 := g_40.1
      have g_44 := g_33.trans g_40
      have l_45 := g_44.1
      have o_46 := o_35.grow g_40
      have w_47 := o_46.lt
      have o_48 := o_28.grow g_40
      have w_49 := o_48.lt
      have w_150 := o_41.lt
      refine ⟨_, _, o_48.ownB ω2 rfl, (isl_rdS (o_41.isL ω4)), (fun h => by cases h), ω13, ?_⟩
      refine Ap.app o_48 rfl rfl (fun b_54 H_6 q_148 hl_50 o_51 k_52 => ?_)
      have o_51 := map_snoc o_51
      have l_55 := k_52.1
      have g_56 := g_44.keep (b := b_31) ω3 k_52
      have l_57 := g_56.1
      have o_58 := o_46.keep ω3 k_52
      have w_59 := o_58.lt
      have o_60 := o_41.keep ω3 k_52
      have w_61 := o_60.lt
      have w_149 := o_51.lt
      refine impl_SegmentMeans_L1 _ _ _ _ _ (fun (μ : Nat) (vout_a : Option Addr) (vout_n : Nat) (vout_e : Nat) (vfrom : Int) (t28 : Int) (H_7 : AHeap) => ∃ (t5 : Bool), ∃ (l_vout : List Nat), ∃ (b_62 : Nat), vout_a = some ⟨b_62, 0, none⟩ ∧ vout_n = l_vout.length ∧ vout_e = 1 ∧ Own H_7 b_62 (l_vout.map fF) ∧ Own H_7 b_37 (([((l_list.length : Int) : Int)]).map fI) ∧ Own H_7 b_54 ((((([] : List Int) ++ l_breaks) ++ [((l_list.length : Int) : Int)])).map fI) ∧ (b_54 ≠ b_37) ∧ (b_62 ≠ b_37) ∧ (b_62 ≠ b_54) ∧ Grow H H_7 ∧ H.length ≤ b_62 ∧ (0 : Int) ≤ t28 ∧ t28 ≤ ((0 + l_breaks.length) + 1 : Int) ∧ 0 ≤ vfrom ∧ vfrom ≤ (l_list.length : Int) ∧ (l_vout.length : Int) ≤ vfrom ∧ ((0 + l_breaks.length) + 1 : Int) - t28 ≤ (μ : Int) ∧ p_impl_SegmentMeans l_list l_breaks = p_impl_SegmentMeans_l1 l_list l_breaks (μ + 1) t5 l_vout vfrom t28) (Int.toNat (((0 + l_breaks.length) + 1 : Int) - (0 : Int))) _ _ _ _ _ H_6 ?_ ?_
      · exact ⟨_, _, _, rfl, ω4, rfl, o_58, o_60, o_51, ω3, ω3, ω3, g_56, ω3, ω7, ω7, ω7, ω7, ω7, ω3, e⟩
      · intro μ vout_a vout_n vout_e vfrom t28  H_7 hI
        obtain ⟨t5, l_vout, b_62, rfl, rfl, rfl, o_63, o_64, o_65, n_66, n_67, n_68, g_69, l_70, v_71, v_72, v_73, v_74, v_75, hμ, e⟩ := hI
        rw [impl_SegmentMeans_r1]
        have e := e.trans (p_impl_SegmentMeans_l1_s l_list l_breaks μ t5 l_vout vfrom t28)
        have w_76 := o_64.lt
        have w_77 := o_65.lt
        have w_78 := o_63.lt
        have l_79 := g_69.1
        refine Br.intro (fun c_80 => ?_) (fun c_80 => ?_)
        · have e := e.trans (cond_t c_80)
          have c_80' := of_decide_eq_true c_80
          refine ⟨by omega, ω3, _, _, rfl, ?_⟩
          refine ⟨((((([] : List Int) ++ l_breaks) ++ [((l_list.length : Int) : Int)])).getD (t28 : Int).toNat 0), o_65.rd ω0 _, ?_⟩
          rw [show IntKind.wrap .i64 (vfrom + 1) = (vfrom + 1) from wrap64 ω3 ω3]
          refine T_impl_within_i ?_
          refine Br.intro (fun c_81 => ?_) (fun c_81 => ?_)
          · have e := e.trans (cond_t c_81)
            have c_81n := nf_of_t c_81
            rw [impl_SegmentMeans_x1_ret]
            rw [e] at hk
            exact hk _ _ _ H_7 g_69 ω10
          · have e := e.trans (cond_f c_81)
            have c_81n := nt_of_f c_81
            have c_81n' := impl_within_t c_81n
            refine ⟨by omega, by omega, by omega, ?_⟩
            have i_82 := sub_isl i_list (lo := vfrom) (hi := ((((([] : List Int) ++ l_breaks) ++ [((l_list.length : Int) : Int)])).getD (t28 : Int).toNat 0)) ω3 ω3 ω3
            refine T_impl_mean_i ⟨_, (i_82.grow g_69), ω0, ?_⟩
            rw [show IntKind.wrap .i64 ((((((([] : List Int) ++ l_breaks) ++ [((l_list.length : Int) : Int)])).getD (t28 : Int).toNat 0)) - vfrom) = ((((((([] : List Int) ++ l_breaks) ++ [((l_list.length : Int) : Int)])).getD (t28 : Int).toNat 0)) - vfrom) from wrap64 ω3 ω3]
            refine impl_SegmentMeans_L2 _ _ _ _ _ _ _ _ _ (fun (μ2 : Nat) (vout_a : Option Addr) (vout_n : Nat) (vout_e : Nat) (t47 : Int) (H_8 : AHeap) => ∃ (l_vout_2 : List Nat), ∃ (b_83 : Nat), vout_a = some ⟨b_83, 0, none⟩ ∧ vout_n = l_vout_2.length ∧ vout_e = 1 ∧ Own H_8 b_83 (l_vout_2.map fF) ∧ Own H_8 b_37 (([((l_list.length : Int) : Int)]).map fI) ∧ Own H_8 b_54 ((((([] : List Int) ++ l_breaks) ++ [((l_list.length : Int) : Int)])).map fI) ∧ (b_54 ≠ b_37) ∧ (b_83 ≠ b_37) ∧ (b_83 ≠ b_54) ∧ Grow H H_8 ∧ H.length ≤ b_83 ∧ (0 : Int) ≤ t47 ∧ t47 ≤ ((((((([] : List Int) ++ l_breaks) ++ [((l_list.length : Int) : Int)])).getD (t28 : Int).toNat 0)) - vfrom) ∧ (l_vout_2.length : Int) ≤ t47 - (0 : Int) + l_vout.length ∧ (l_vout_2.length : Int) ≤ vfrom + t47 ∧ ((((((([] : List Int) ++ l_breaks) ++ [((l_list.length : Int) : Int)])).getD (t28 : Int).toNat 0)) - vfrom) - t47 ≤ (μ2 : Int) ∧ p_impl_SegmentMeans l_list l_breaks = p_impl_SegmentMeans_l2 l_list l_breaks t5 l_vout vfrom t28 (fun (l_vout_2 : List Nat) (t47 : Int) => (p_impl_SegmentMeans_l1 l_list l_breaks μ t5 l_vout_2 (((((([] : List Int) ++ l_breaks) ++ [((l_list.length : Int) : Int)])).getD (t28 : Int).toNat 0)) (t28 + 1))) (μ2 + 1) l_vout_2 t47) (Int.toNat (((((((([] : List Int) ++ l_breaks) ++ [((l_list.length : Int) : Int)])).getD (t28 : Int).toNat 0)) - vfrom) - (0 : Int))) _ _ _ _ H_7 ?_ ?_
            · exact ⟨_, _, rfl, ω4, rfl, o_63, o_64, o_65, ω3, ω3, ω3, g_69, ω3, ω7, ω7, ω7, ω7, ω3, e⟩
            · intro μ2 vout_a vout_n vout_e t47  H_8 hI
              obtain ⟨l_vout_2, b_83, rfl, rfl, rfl, o_84, o_85, o_86, n_87, n_88, n_89, g_90, l_91, v_92, v_93, v_94, v_95, hμ, e⟩ := hI
              rw [impl_SegmentMeans_r2]
              have e := e.trans (p_impl_SegmentMeans_l2_s l_list l_breaks t5 l_vout vfrom t28 (fun (l_vout_2 : List Nat) (t47 : Int) => (p_impl_SegmentMeans_l1 l_list l_breaks μ t5 l_vout_2 (((((([] : List Int) ++ l_breaks) ++ [((l_list.length : Int) : Int)])).getD (t28 : Int).toNat 0)) (t28 + 1))) μ2 l_vout_2 t47)
              have w_96 := o_85.lt
              have w_97 := o_86.lt
              have w_98 := o_84.lt
              have l_99 := g_90.1
              refine Br.intro (fun c_100 => ?_) (fun c_100 => ?_)
              · have e := e.trans (cond_t c_100)
                have c_100' := of_decide_eq_true c_100
                refine Al.intro (fun b_101 H_9 hb_102 hl_103 g_104 o_105 => ?_)
                have o_105 : Own H_9 b_101 (([((p_impl_mean ((((l_list).drop (vfrom : Int).toNat).take ((((((([] : List Int) ++ l_breaks) ++ [((l_list.length : Int) : Int)])).getD (t28 : Int).toNat 0) : Int) - vfrom).toNat))))]).map fF) := o_105
                have l_107 := g_104.1
                have g_108 := g_90.trans g_104
                have l_109 := g_108.1
                have o_110 := o_85.grow g_104
                have w_111 := o_110.lt
                have o_112 := o_86.grow g_104
                have w_113 := o_112.lt
                have o_114 := o_84.grow g_104
                have w_115 := o_114.lt
                have w_132 := o_105.lt
                refine ⟨_, _, o_114.ownB ω2 rfl, (isl_rdS (o_105.isL ω4)), (fun h => by cases h), ω13, ?_⟩
                refine Ap.app o_114 rfl rfl (fun b_120 H_10 q_130 hl_116 o_117 k_118 => ?_)
                have o_117 := map_snoc o_117
                have l_121 := k_118.1
                have g_122 := g_108.keep (b := b_83) ω3 k_118
                have l_123 := g_122.1
                have o_124 := o_110.keep ω3 k_118
                have w_125 := o_124.lt
                have o_126 := o_112.keep ω3 k_118
                have w_127 := o_126.lt
                have o_128 := o_105.keep ω3 k_118
                have w_129 := o_128.lt
                have w_131 := o_117.lt
                rw [show IntKind.wrap .i64 (t47 + 1) = (t47 + 1) from wrap64 ω3 ω3]
                refine impl_SegmentMeans_n2 (μ2 - 1) ω9 ⟨_, _, rfl, ω5, rfl, o_117, o_124, o_126, ω3, ω3, ω3, g_122, ω3, ω1, ω1, ω1, ω1, ω9, (by rw [show μ2 - 1 + 1 = μ2 from by first | omega]; exact e)⟩
              · have e := e.trans (cond_f c_100)
                have c_100' := of_decide_eq_false c_100
                rw [impl_SegmentMeans_x2_2]
                rw [show IntKind.wrap .i64 (t28 + 1) = (t28 + 1) from wrap64 ω3 ω3]
                refine impl_SegmentMeans_n1 (μ - 1) ω9 ⟨_, _, _, rfl, ω4, rfl, o_84, o_85, o_86, ω3, ω3, ω3, g_90, ω3, ω1, ω1, ω1, ω1, ω1, ω9, (by rw [show μ - 1 + 1 = μ from by first | omega]; exact e)⟩
        · have e := e.trans (cond_f c_80)
          have c_80' := of_decide_eq_false c_80
          rw [impl_SegmentMeans_x1_0]
          refine T_impl_finiteList_i ⟨_, (o_63.isL ω4), ω0, (fun H_11 g_137 => ?_)⟩
          have l_139 := g_137.1
          have g_140 := g_69.trans g_137
          have l_141 := g_140.1
          have o_142 := o_64.grow g_137
          have w_143 := o_142.lt
          have o_144 := o_65.grow g_137
          have w_145 := o_144.lt
          have o_146 := o_63.grow g_137
          have w_147 := o_146.lt
          refine Br.intro (fun c_138 => ?_) (fun c_138 => ?_)
          · have e := e.trans (cond_t c_138)
            rw [e] at hk
            exact hk _ _ _ H_11 g_140 (o_146.ownS ω4 ω3)
          · have e := e.trans (cond_f c_138)
            rw [e] at hk
            exact hk _ _ _ H_11 g_140 ω10
theorem impl_SegmentMeans_ok : FnOk Try.prog 72 S_impl_SegmentMeans := by
  refine FnOk.body mix_ok E_impl_SegmentMeans_ok Try.func72 rfl (by kernel_rfl) (by kernel_rfl) ?_ ?_ ?_ ?_ ?_
  · intro args H K K' h hk
    simp only [S_impl_SegmentMeans] at *
    unfold F_impl_SegmentMeans at *
    split at hk
    · obtain ⟨l_list, l_breaks, i_list, i_breaks, bd_155, bd_156, k⟩ := hk
      exact ⟨l_list, l_breaks, i_list, i_breaks, bd_155, bd_156, (fun r1_a r1_n r1_e H' gg ow0 => h _ _ (k r1_a r1_n r1_e H' gg ow0))⟩
    · exact hk.elim
  · intro hq; cases hq
  · intro args H K hk
    simp only [S_impl_SegmentMeans] at *
    unfold F_impl_SegmentMeans at *
    split at hk
    · obtain ⟨l_list, l_breaks, i_list, i_breaks, bd_155, bd_156, k⟩ := hk
      exact liveS fun a n e H1 g o => ⟨_, _, k a n e H1 g o⟩
    · exact hk.elim
  · intro _ args H K hk
    simp only [S_impl_SegmentMeans] at *
    unfold F_impl_SegmentMeans at *
    split at hk
    · obtain ⟨l_list, l_breaks, i_list, i_breaks, bd_155, bd_156, k⟩ := hk
      exact ⟨l_list, l_breaks, i_list, i_breaks, bd_155, bd_156, (fun r1_a r1_n r1_e H' gg ow0 => ⟨gg, k r1_a r1_n r1_e H' gg ow0⟩)⟩
    · exact hk.elim
  · have mm := @impl_SegmentMeans_main
    have ml := fun (args : List Value) (H : AHeap) (K : Value → AHeap → Prop) => bodyL_body (P := Try.prog) (env := E_impl_SegmentMeans ) (fn := Try.f72) (args := args) (H := H) (K := K) E_impl_SegmentMeans_ok 
    revert mm ml
    generalize bodyK Try.prog E_impl_SegmentMeans Try.f72 = Q
    generalize bodyL Try.prog E_impl_SegmentMeans Try.f72 = QL
    intro mm ml args H K hk
    simp only [S_impl_SegmentMeans] at *
    unfold F_impl_SegmentMeans at *
    split at hk
    · exact ml _ H K (mm _ _ _ _ _ _ H K hk)
    · exact hk.elim
def p_laws_b10Gap (a : Nat) (b : Nat) : Nat := (bif flt .f64 a b then fsub .f64 b a else fsub .f64 a b)
def T_laws_b10Gap (a : Nat) (b : Nat) (H : AHeap) (K : Nat → AHeap → Prop) : Prop := K (p_laws_b10Gap a b) H

theorem T_laws_b10Gap_i {a : Nat} {b : Nat} {H : AHeap} {K : Nat → AHeap → Prop} (h : K (p_laws_b10Gap a b) H) : T_laws_b10Gap a b H K := h
/-! laws_b10Gap: function 48 -/
def E_laws_b10Gap : Env := envOf []
def F_laws_b10Gap : List Value → AHeap → (Value → AHeap → Prop) → Prop
  | [.float .f64 a, .float .f64 b], H, K => T_laws_b10Gap a b H fun (r1 : Nat) (H' : AHeap) => K (.float .f64 r1) H'
  | _, _, _ => False
def S_laws_b10Gap : FSpec := { F := F_laws_b10Gap, quiet := true, tame := false }
theorem laws_b10Gap_vc (a : Nat) (b : Nat) (H : AHeap) (K : Value → AHeap → Prop) : bodyL Try.prog E_laws_b10Gap Try.f48 [.float .f64 a, .float .f64 b] H K =
  (Br (flt .f64 a b) (K (.float .f64 (fsub .f64 b a)) H) (K (.float .f64 (fsub .f64 a b)) H)) := by kernel_rfl
theorem E_laws_b10Gap_ok : ∀ g, FnOk Try.prog g (E_laws_b10Gap g) := FnOk.envOf (by
  intro x hx; cases hx)
set_option maxHeartbeats 1000000 in
theorem laws_b10Gap_main (a : Nat) (b : Nat) (H : AHeap) (K : Value → AHeap → Prop) (h : T_laws_b10Gap a b H fun (r1 : Nat) (H' : AHeap) => K (.float .f64 r1) H') : bodyL Try.prog E_laws_b10Gap Try.f48 [.float .f64 a, .float .f64 b] H K := by
  rw [laws_b10Gap_vc]
  unfold T_laws_b10Gap p_laws_b10Gap at h
  repeat' (first | exact h | (exfalso; simp_all; done) | (refine ⟨by decide, ?_⟩) | (refine Br.intro (fun hb => ?_) (fun hb => ?_) <;> (try simp only [hb, cond_true, cond_false, Bool.not_true, Bool.not_false] at h)))
theorem laws_b10Gap_ok : FnOk Try.prog 48 S_laws_b10Gap := by
  refine FnOk.body mix_ok E_laws_b10Gap_ok Try.func48 rfl (by kernel_rfl) (by kernel_rfl) ?_ ?_ ?_ ?_ ?_
  · intro args H K K' h hk
    simp only [S_laws_b10Gap] at *
    unfold F_laws_b10Gap at *
    split at hk
    · have k := hk
      exact h _ _ k
    · exact hk.elim
  · intro _ args H K hk
    simp only [S_laws_b10Gap] at *
    unfold F_laws_b10Gap at *
    split at hk
    · have k := hk
      exact ⟨_, k, fun K' k' => k'⟩
    · exact hk.elim
  · intro args H K hk
    simp only [S_laws_b10Gap] at *
    unfold F_laws_b10Gap at *
    split at hk
    · have k := hk
      exact ⟨_, _, k⟩
    · exact hk.elim
  · intro hq; cases hq
  · have mm := @laws_b10Gap_main
    have ml := fun (args : List Value) (H : AHeap) (K : Value → AHeap → Prop) => bodyL_body (P := Try.prog) (env := E_laws_b10Gap ) (fn := Try.f48) (args := args) (H := H) (K := K) E_laws_b10Gap_ok 
    revert mm ml
    generalize bodyK Try.prog E_laws_b10Gap Try.f48 = Q
    generalize bodyL Try.prog E_laws_b10Gap Try.f48 = QL
    intro mm ml args H K hk
    simp only [S_laws_b10Gap] at *
    unfold F_laws_b10Gap at *
    split at hk
    · exact ml _ H K (mm _ _ H K hk)
    · exact hk.elim

def p_impl_nextBreak_l1 (l_list : List Nat) (l_breaks : List Int) (least : Nat) : Nat → Int → Bool → Bool → Int → Nat → Bool → Int → Int → Int × Bool × Bool
  | 0, _, _, _, _, _, _, _, _ => (0, false, false)
  | μ + 1, t6, t7, t8, vat, best, found, vfrom, t26 => (bif decide ((t26 : Int) < ((0 + l_breaks.length) + 1 : Int)) then (bif decide ((1 : Int) < ((((((([] : List Int) ++ l_breaks) ++ [((l_list.length : Int) : Int)])).getD (t26 : Int).toNat 0)) - vfrom)) then (bif !((p_impl_BestBreak ((((l_list).drop (vfrom : Int).toNat).take ((((((([] : List Int) ++ l_breaks) ++ [((l_list.length : Int) : Int)])).getD (t26 : Int).toNat 0) : Int) - vfrom).toNat))).2.2) then ((0 : Int), false, false) else (bif !found then (p_impl_nextBreak_l1 l_list l_breaks least μ t6 t7 t8 ((vfrom + ((p_impl_BestBreak ((((l_list).drop (vfrom : Int).toNat).take ((((((([] : List Int) ++ l_breaks) ++ [((l_list.length : Int) : Int)])).getD (t26 : Int).toNat 0) : Int) - vfrom).toNat))).1))) ((p_impl_BestBreak ((((l_list).drop (vfrom : Int).toNat).take ((((((([] : List Int) ++ l_breaks) ++ [((l_list.length : Int) : Int)])).getD (t26 : Int).toNat 0) : Int) - vfrom).toNat))).2.1) true (((((([] : List Int) ++ l_breaks) ++ [((l_list.length : Int) : Int)])).getD (t26 : Int).toNat 0)) (t26 + 1)) else (bif flt .f32 best ((p_impl_BestBreak ((((l_list).drop (vfrom : Int).toNat).take ((((((([] : List Int) ++ l_breaks) ++ [((l_list.length : Int) : Int)])).getD (t26 : Int).toNat 0) : Int) - vfrom).toNat))).2.1) then (p_impl_nextBreak_l1 l_list l_breaks least μ t6 t7 t8 ((vfrom + ((p_impl_BestBreak ((((l_list).drop (vfrom : Int).toNat).take ((((((([] : List Int) ++ l_breaks) ++ [((l_list.length : Int) : Int)])).getD (t26 : Int).toNat 0) : Int) - vfrom).toNat))).1))) ((p_impl_BestBreak ((((l_list).drop (vfrom : Int).toNat).take ((((((([] : List Int) ++ l_breaks) ++ [((l_list.length : Int) : Int)])).getD (t26 : Int).toNat 0) : Int) - vfrom).toNat))).2.1) true (((((([] : List Int) ++ l_breaks) ++ [((l_list.length : Int) : Int)])).getD (t26 : Int).toNat 0)) (t26 + 1)) else (p_impl_nextBreak_l1 l_list l_breaks least μ t6 t7 t8 vat best found (((((([] : List Int) ++ l_breaks) ++ [((l_list.length : Int) : Int)])).getD (t26 : Int).toNat 0)) (t26 + 1))))) else (p_impl_nextBreak_l1 l_list l_breaks least μ t6 t7 t8 vat best found (((((([] : List Int) ++ l_breaks) ++ [((l_list.length : Int) : Int)])).getD (t26 : Int).toNat 0)) (t26 + 1))) else (bif found then (vat, fle .f32 least best, true) else (vat, false, true)))
def p_impl_nextBreak_l1_s := fun l_list l_breaks least μ t6 t7 t8 vat best found vfrom t26 => @p_impl_nextBreak_l1.eq_2 l_list l_breaks least t6 t7 t8 vat best found vfrom t26 μ
def p_impl_nextBreak (l_list : List Nat) (l_breaks : List Int) (least : Nat) : Int × Bool × Bool := (p_impl_nextBreak_l1 l_list l_breaks least (Int.toNat (((0 + l_breaks.length) + 1 : Int) - (0 : Int)) + 1) (0 : Int) false false (0 : Int) 0 false (0 : Int) (0 : Int))
def p_impl_nextBreak_eq := @p_impl_nextBreak.eq_1
def T_impl_nextBreak (list_a : Option Addr) (list_n : Nat) (list_e : Nat) (breaks_a : Option Addr) (breaks_n : Nat) (breaks_e : Nat) (least : Nat) (H : AHeap) (K : Int → Bool → Bool → AHeap → Prop) : Prop := ∃ (l_list : List Nat), ∃ (l_breaks : List Int), IsL fF H list_a list_n l_list ∧ IsL fI H breaks_a breaks_n l_breaks ∧ l_list.length < 1073741824 ∧ l_breaks.length < 1073741824 ∧ Cut l_list.length l_breaks ∧ ((∀ H' : AHeap, Grow H H' → K ((p_impl_nextBreak l_list l_breaks least).1) ((p_impl_nextBreak l_list l_breaks least).2.1) ((p_impl_nextBreak l_list l_breaks least).2.2) H'))
theorem T_impl_nextBreak_i {list_a : Option Addr} {list_n : Nat} {list_e : Nat} {breaks_a : Option Addr} {breaks_n : Nat} {breaks_e : Nat} {least : Nat} {H : AHeap} {K : Int → Bool → Bool → AHeap → Prop} (h : ∃ (l_list : List Nat), ∃ (l_breaks : List Int), IsL fF H list_a list_n l_list ∧ IsL fI H breaks_a breaks_n l_breaks ∧ l_list.length < 1073741824 ∧ l_breaks.length < 1073741824 ∧ Cut l_list.length l_breaks ∧ ((∀ H' : AHeap, Grow H H' → K ((p_impl_nextBreak l_list l_breaks least).1) ((p_impl_nextBreak l_list l_breaks least).2.1) ((p_impl_nextBreak l_list l_breaks least).2.2) H'))) : T_impl_nextBreak list_a list_n list_e breaks_a breaks_n breaks_e least H K := h
def NIn (n : Nat) (r : Int × Bool × Bool) : Prop := 0 ≤ r.1 ∧ r.1 ≤ (n : Int)
theorem nin_no (n : Nat) (x y : Bool) : NIn n (0, x, y) := ⟨Int.le_refl _, Int.natCast_nonneg _⟩
theorem impl_nextBreak_l1_at (l : List Nat) (bs : List Int) (x : Nat) (h : Cut l.length bs) (t6 : Int) (t7 t8 : Bool) : ∀ (μ : Nat) (vat : Int) (b : Nat) (fo : Bool) (f i : Int), 0 ≤ vat → vat ≤ (l.length : Int) → 0 ≤ f →
    NIn l.length (p_impl_nextBreak_l1 l bs x μ t6 t7 t8 vat b fo f i) := by
  intro μ
  induction μ with
  | zero => intro vat b fo f i h0 h1 h2; exact nin_no _ _ _
  | succ μ ih =>
    intro vat b fo f i h0 h1 h2
    rw [p_impl_nextBreak_l1_s]
    have he := cut_at (cut_end h) i
    have hb := impl_BestBreak_at ((((l).drop (f : Int).toNat).take ((((((([] : List Int) ++ bs) ++ [((l.length : Int) : Int)])).getD (i : Int).toNat 0) : Int) - f).toNat))
    have hl : ((((l).drop (f : Int).toNat).take ((((((([] : List Int) ++ bs) ++ [((l.length : Int) : Int)])).getD (i : Int).toNat 0) : Int) - f).toNat)).length ≤ ((((((([] : List Int) ++ bs) ++ [((l.length : Int) : Int)])).getD (i : Int).toNat 0) : Int) - f).toNat := by
      rw [List.length_take]; exact Nat.min_le_left _ _
    refine cnd (fun h => ?_) (fun h => ?_)
    · refine cnd (fun h => ?_) (fun h => ?_)
      · have hk := of_decide_eq_true h
        refine cnd (fun h => nin_no _ _ _) (fun h => ?_)
        refine cnd (fun h => ih _ _ _ _ _ ω3 ω3 ω3) (fun h => ?_)
        exact cnd (fun h => ih _ _ _ _ _ ω3 ω3 ω3) (fun h => ih _ _ _ _ _ ω3 ω3 ω3)
      · exact ih _ _ _ _ _ ω3 ω3 ω3
    · exact cnd (fun h => ⟨h0, h1⟩) (fun h => ⟨h0, h1⟩)
theorem impl_nextBreak_at (l : List Nat) (bs : List Int) (x : Nat) (hl : l.length < 1073741824) (h : Cut l.length bs) : 0 ≤ (p_impl_nextBreak l bs x).1 ∧ (p_impl_nextBreak l bs x).1 ≤ (l.length : Int) := by
  rw [p_impl_nextBreak_eq]
  exact impl_nextBreak_l1_at l bs x h _ _ _ _ _ _ _ _ _ (Int.le_refl _) (Int.natCast_nonneg _) (Int.le_refl _)
/-! impl_nextBreak: function 153 -/
def E_impl_nextBreak : Env := envOf [(71, S_impl_BestBreak)]
def F_impl_nextBreak : List Value → AHeap → (Value → AHeap → Prop) → Prop
  | [.slice list_a list_n list_e, .slice breaks_a breaks_n breaks_e, .float .f32 least], H, K => T_impl_nextBreak list_a list_n list_e breaks_a breaks_n breaks_e least H fun (r1 : Int) (r2 : Bool) (r3 : Bool) (H' : AHeap) => K (.tuple #[.int .i64 r1, .bool r2, .bool r3]) H'
  | _, _, _ => False
def S_impl_nextBreak : FSpec := { F := F_impl_nextBreak, quiet := false, tame := true }
theorem impl_nextBreak_vc (list_a : Option Addr) (list_n : Nat) (list_e : Nat) (breaks_a : Option Addr) (breaks_n : Nat) (breaks_e : Nat) (least : Nat) (H : AHeap) (K : Value → AHeap → Prop) : bodyL Try.prog E_impl_nextBreak Try.f153 [.slice list_a list_n list_e, .slice breaks_a breaks_n breaks_e, .float .f32 least] H K =
  (Al [] H fun b1 H1 => ∃ o1 w1 : List Value, ownB H1 (some ⟨b1, 0, none⟩) 0 1 1 = some o1 ∧ rdS H1 breaks_a (breaks_n * 1) = some w1 ∧ ((some ⟨b1, 0, none⟩ : Option Addr) = none → 0 < (breaks_n : Nat)) ∧ (0 : Nat) + breaks_n < most ∧ Ap H1 (killB H1 (some ⟨b1, 0, none⟩) ++ [some ⟨o1 ++ w1, true⟩]) fun b2 H2 => Al [.int .i64 (list_n : Int)] H2 fun b3 H3 => ∃ o2 w2 : List Value, ownB H3 (some ⟨b2, 0, none⟩) (0 + breaks_n) 1 1 = some o2 ∧ rdS H3 (some ⟨b3, 0, none⟩) (1 * 1) = some w2 ∧ ((some ⟨b2, 0, none⟩ : Option Addr) = none → 0 < (1 : Nat)) ∧ (0 + breaks_n : Nat) + 1 < most ∧ Ap H3 (killB H3 (some ⟨b2, 0, none⟩) ++ [some ⟨o2 ++ w2, true⟩]) fun b4 H4 => loopK (exL Try.prog E_impl_nextBreak (cl (cl (cr (cl (cr (cr (cr (bodyC Try.f153)))))))) 117448197 448 [(0, 3588)]) [.slice list_a list_n list_e, ud, .float .f32 least, ud, ud, ud, ud, ud, ud, .int .i64 0, .float .f32 0, .bool false, .int .i64 0, ud, ud, ud, ud, ud, ud, ud, ud, ud, ud, ud, .slice (some ⟨b4, 0, none⟩) ((0 + breaks_n) + 1) 1, .int .i64 (((0 + breaks_n) + 1 : Int)), .int .i64 0, ud, ud, ud, ud, ud, ud, ud, ud, ud, ud, ud, ud, ud, ud, ud, ud, ud, ud, ud, ud, ud, ud, ud, ud, ud, ud, ud, ud, ud, ud, ud, ud, ud, ud, ud, ud, ud, ud] H4 (blockQ 0 (seqQ (exL Try.prog E_impl_nextBreak (cr (cr (cr (cr (bodyC Try.f153))))) 448 448 []) (retK Try.prog Try.f153 K)))) := by kernel_rfl
abbrev impl_nextBreak_P1 (b4 : Nat) (breaks_n : Nat) (least : Nat) (list_a : Option Addr) (list_e : Nat) (list_n : Nat) (vat : Int) (best : Nat) (found : Bool) (vfrom : Int) (t26 : Int)  : List Value := [.slice list_a list_n list_e, ud, .float .f32 least, ud, ud, ud, ud, ud, ud, .int .i64 vat, .float .f32 best, .bool found, .int .i64 vfrom, ud, ud, ud, ud, ud, ud, ud, ud, ud, ud, ud, .slice (some ⟨b4, 0, none⟩) ((0 + breaks_n) + 1) 1, .int .i64 (((0 + breaks_n) + 1 : Int)), .int .i64 t26, ud, ud, ud, ud, ud, ud, ud, ud, ud, ud, ud, ud, ud, ud, ud, ud, ud, ud, ud, ud, ud, ud, ud, ud, ud, ud, ud, ud, ud, ud, ud, ud, ud, ud, ud, ud, ud, ud]
theorem impl_nextBreak_r1 (b4 : Nat) (breaks_n : Nat) (least : Nat) (list_a : Option Addr) (list_e : Nat) (list_n : Nat) (vat : Int) (best : Nat) (found : Bool) (vfrom : Int) (t26 : Int)  (H : AHeap) (R : Post) : exL Try.prog E_impl_nextBreak (cl (cl (cr (cl (cr (cr (cr (bodyC Try.f153)))))))) 117448197 448 [(0, 3588)] (impl_nextBreak_P1 b4 breaks_n least list_a list_e list_n vat best found vfrom t26) H R =
  (Br (decide ((t26 : Int) < ((0 + breaks_n) + 1 : Int))) ((0 : Int) ≤ t26 ∧ t26 < ((0 + breaks_n) + 1 : Int) ∧ ∃ b5 f1, (some ⟨b4, 0, none⟩ : Option Addr) = some ⟨b5, f1, none⟩ ∧ ∃ x1 : Int,  rdC H b5 (f1 + (t26 : Int).toNat * 1) = some (.int .i64 x1) ∧ Br (decide ((1 : Int) < IntKind.wrap .i64 (x1 - vfrom))) ((0 : Int) ≤ vfrom ∧ vfrom ≤ x1 ∧ x1 ≤ (list_n : Int) ∧ T_impl_BestBreak ((list_a : Option Addr).map fun a => ⟨a.block, a.off + (vfrom : Int).toNat * 1, none⟩) (((x1 : Int) - vfrom).toNat) 0 H fun (r1 : Int) (r2 : Nat) (r3 : Bool) (H5 : AHeap) => Br (!r3) (R .ret [ud, ud, ud, ud, ud, ud, .int .i64 0, .bool false, .bool false, ud, ud, ud, ud, ud, ud, ud, ud, ud, ud, ud, ud, ud, ud, ud, ud, ud, ud, ud, ud, ud, ud, ud, ud, ud, ud, ud, ud, ud, ud, ud, ud, ud, ud, ud, ud, ud, ud, ud, ud, ud, ud, ud, ud, ud, ud, ud, ud, ud, ud, ud, ud, ud, ud, ud, ud] H5) (Br (!found) (R .normal [.slice list_a list_n list_e, ud, .float .f32 least, ud, ud, ud, ud, ud, ud, .int .i64 (IntKind.wrap .i64 (vfrom + r1)), .float .f32 r2, .bool true, .int .i64 x1, ud, ud, ud, ud, ud, ud, ud, ud, ud, ud, ud, .slice (some ⟨b4, 0, none⟩) ((0 + breaks_n) + 1) 1, .int .i64 (((0 + breaks_n) + 1 : Int)), .int .i64 (IntKind.wrap .i64 (t26 + 1)), ud, ud, ud, ud, ud, ud, ud, ud, ud, ud, ud, ud, ud, ud, ud, ud, ud, ud, ud, ud, ud, ud, ud, ud, ud, ud, ud, ud, ud, ud, ud, ud, ud, ud, ud, ud, ud, ud] H5) (Br (flt .f32 best r2) (R .normal [.slice list_a list_n list_e, ud, .float .f32 least, ud, ud, ud, ud, ud, ud, .int .i64 (IntKind.wrap .i64 (vfrom + r1)), .float .f32 r2, .bool true, .int .i64 x1, ud, ud, ud, ud, ud, ud, ud, ud, ud, ud, ud, .slice (some ⟨b4, 0, none⟩) ((0 + breaks_n) + 1) 1, .int .i64 (((0 + breaks_n) + 1 : Int)), .int .i64 (IntKind.wrap .i64 (t26 + 1)), ud, ud, ud, ud, ud, ud, ud, ud, ud, ud, ud, ud, ud, ud, ud, ud, ud, ud, ud, ud, ud, ud, ud, ud, ud, ud, ud, ud, ud, ud, ud, ud, ud, ud, ud, ud, ud, ud] H5) (R .normal [.slice list_a list_n list_e, ud, .float .f32 least, ud, ud, ud, ud, ud, ud, .int .i64 vat, .float .f32 best, .bool found, .int .i64 x1, ud, ud, ud, ud, ud, ud, ud, ud, ud, ud, ud, .slice (some ⟨b4, 0, none⟩) ((0 + breaks_n) + 1) 1, .int .i64 (((0 + breaks_n) + 1 : Int)), .int .i64 (IntKind.wrap .i64 (t26 + 1)), ud, ud, ud, ud, ud, ud, ud, ud, ud, ud, ud, ud, ud, ud, ud, ud, ud, ud, ud, ud, ud, ud, ud, ud, ud, ud, ud, ud, ud, ud, ud, ud, ud, ud, ud, ud, ud, ud] H5)))) (R .normal [.slice list_a list_n list_e, ud, .float .f32 least, ud, ud, ud, ud, ud, ud, .int .i64 vat, .float .f32 best, .bool found, .int .i64 x1, ud, ud, ud, ud, ud, ud, ud, ud, ud, ud, ud, .slice (some ⟨b4, 0, none⟩) ((0 + breaks_n) + 1) 1, .int .i64 (((0 + breaks_n) + 1 : Int)), .int .i64 (IntKind.wrap .i64 (t26 + 1)), ud, ud, ud, ud, ud, ud, ud, ud, ud, ud, ud, ud, ud, ud, ud, ud, ud, ud, ud, ud, ud, ud, ud, ud, ud, ud, ud, ud, ud, ud, ud, ud, ud, ud, ud, ud, ud, ud] H)) (R (.exit 0) [ud, ud, .float .f32 least, ud, ud, ud, ud, ud, ud, .int .i64 vat, .float .f32 best, .bool found, ud, ud, ud, ud, ud, ud, ud, ud, ud, ud, ud, ud, ud, ud, ud, ud, ud, ud, ud, ud, ud, ud, ud, ud, ud, ud, ud, ud, ud, ud, ud, ud, ud, ud, ud, ud, ud, ud, ud, ud, ud, ud, ud, ud, ud, ud, ud, ud, ud, ud, ud, ud, ud] H)) := by kernel_rfl
def impl_nextBreak_I1 (b4 : Nat) (breaks_n : Nat) (least : Nat) (list_a : Option Addr) (list_e : Nat) (list_n : Nat) (Inv : Nat → Int → Nat → Bool → Int → Int → AHeap → Prop) : Nat → List Value → AHeap → Prop := fun μ tm H => ∃ (vat : Int), ∃ (best : Nat), ∃ (found : Bool), ∃ (vfrom : Int), ∃ (t26 : Int), tm = (impl_nextBreak_P1 b4 breaks_n least list_a list_e list_n vat best found vfrom t26) ∧ Inv μ vat best found vfrom t26 H
theorem impl_nextBreak_L1 (b4 : Nat) (breaks_n : Nat) (least : Nat) (list_a : Option Addr) (list_e : Nat) (list_n : Nat) {Q : Post} (Inv : Nat → Int → Nat → Bool → Int → Int → AHeap → Prop) (ν : Nat) (vat : Int) (best : Nat) (found : Bool) (vfrom : Int) (t26 : Int)  (H : AHeap) (h0 : Inv ν vat best found vfrom t26 H)
    (hs : ∀ (μ : Nat) (vat : Int) (best : Nat) (found : Bool) (vfrom : Int) (t26 : Int)  (H : AHeap), Inv μ vat best found vfrom t26 H → exL Try.prog E_impl_nextBreak (cl (cl (cr (cl (cr (cr (cr (bodyC Try.f153)))))))) 117448197 448 [(0, 3588)] (impl_nextBreak_P1 b4 breaks_n least list_a list_e list_n vat best found vfrom t26) H (loopQ (impl_nextBreak_I1 b4 breaks_n least list_a list_e list_n Inv) μ Q)) : loopK (exL Try.prog E_impl_nextBreak (cl (cl (cr (cl (cr (cr (cr (bodyC Try.f153)))))))) 117448197 448 [(0, 3588)]) (impl_nextBreak_P1 b4 breaks_n least list_a list_e list_n vat best found vfrom t26) H Q :=
  ⟨impl_nextBreak_I1 b4 breaks_n least list_a list_e list_n Inv, ν, ⟨vat, best, found, vfrom, t26, rfl, h0⟩, fun μ tm H h => by obtain ⟨vat, best, found, vfrom, t26, rfl, hI⟩ := h; exact hs μ vat best found vfrom t26  H hI⟩
theorem impl_nextBreak_n1 {b4 : Nat} {breaks_n : Nat} {least : Nat} {list_a : Option Addr} {list_e : Nat} {list_n : Nat} {Q : Post} {Inv : Nat → Int → Nat → Bool → Int → Int → AHeap → Prop} {μ : Nat} (μ' : Nat) {vat : Int} {best : Nat} {found : Bool} {vfrom : Int} {t26 : Int}  {H : AHeap} (hm : μ' < μ) (hI : Inv μ' vat best found vfrom t26 H) : loopQ (impl_nextBreak_I1 b4 breaks_n least list_a list_e list_n Inv) μ Q .normal (impl_nextBreak_P1 b4 breaks_n least list_a list_e list_n vat best found vfrom t26) H := ⟨μ', hm, vat, best, found, vfrom, t26, rfl, hI⟩
theorem impl_nextBreak_x1_0 (least : Nat) (vat : Int) (best : Nat) (found : Bool) (H : AHeap) (K : Value → AHeap → Prop)  {I : Nat → List Value → AHeap → Prop} {μ : Nat} : loopQ I μ (blockQ 0 (seqQ (exL Try.prog E_impl_nextBreak (cr (cr (cr (cr (bodyC Try.f153))))) 448 448 []) (retK Try.prog Try.f153 K))) (.exit 0) [ud, ud, .float .f32 least, ud, ud, ud, ud, ud, ud, .int .i64 vat, .float .f32 best, .bool found, ud, ud, ud, ud, ud, ud, ud, ud, ud, ud, ud, ud, ud, ud, ud, ud, ud, ud, ud, ud, ud, ud, ud, ud, ud, ud, ud, ud, ud, ud, ud, ud, ud, ud, ud, ud, ud, ud, ud, ud, ud, ud, ud, ud, ud, ud, ud, ud, ud, ud, ud, ud, ud] H =
  (Br found (K (.tuple #[.int .i64 vat, .bool (fle .f32 least best), .bool true]) H) (K (.tuple #[.int .i64 vat, .bool false, .bool true]) H)) := by kernel_rfl
theorem impl_nextBreak_x1_ret (t6 : Int) (t7 : Bool) (t8 : Bool) (H : AHeap) (K : Value → AHeap → Prop)  {I : Nat → List Value → AHeap → Prop} {μ : Nat} : loopQ I μ (blockQ 0 (seqQ (exL Try.prog E_impl_nextBreak (cr (cr (cr (cr (bodyC Try.f153))))) 448 448 []) (retK Try.prog Try.f153 K))) .ret [ud, ud, ud, ud, ud, ud, .int .i64 t6, .bool t7, .bool t8, ud, ud, ud, ud, ud, ud, ud, ud, ud, ud, ud, ud, ud, ud, ud, ud, ud, ud, ud, ud, ud, ud, ud, ud, ud, ud, ud, ud, ud, ud, ud, ud, ud, ud, ud, ud, ud, ud, ud, ud, ud, ud, ud, ud, ud, ud, ud, ud, ud, ud, ud, ud, ud, ud, ud, ud] H =
  (K (.tuple #[.int .i64 t6, .bool t7, .bool t8]) H) := by kernel_rfl
theorem E_impl_nextBreak_ok : ∀ g, FnOk Try.prog g (E_impl_nextBreak g) := FnOk.envOf (by
  intro x hx
  simp only [List.mem_cons, List.not_mem_nil, or_false] at hx
  subst hx; exact impl_BestBreak_ok)
set_option maxHeartbeats 1000000 in
theorem impl_nextBreak_main (list_a : Option Addr) (list_n : Nat) (list_e : Nat) (breaks_a : Option Addr) (breaks_n : Nat) (breaks_e : Nat) (least : Nat) (H : AHeap) (K : Value → AHeap → Prop) (h : T_impl_nextBreak list_a list_n list_e breaks_a breaks_n breaks_e least H fun (r1 : Int) (r2 : Bool) (r3 : Bool) (H' : AHeap) => K (.tuple #[.int .i64 r1, .bool r2, .bool r3]) H') : bodyL Try.prog E_impl_nextBreak Try.f153 [.slice list_a list_n list_e, .slice breaks_a breaks_n breaks_e, .float .f32 least] H K := by
  rw [impl_nextBreak_vc]
  obtain ⟨l_list, l_breaks, i_list, i_breaks, bd_73, bd_74, pr0, hk⟩ := h
  obtain rfl := i_list.eqn
  obtain rfl := i_breaks.eqn
  have e : (p_impl_nextBreak l_list l_breaks least) = _ := rfl
  have e := e.trans (p_impl_nextBreak_eq l_list l_breaks least)
  have g0 := Grow.refl H
  refine Al.intro (fun b_1 H_1 hb_2 hl_3 g_4 o_5 => ?_)
  have o_5 : Own H_1 b_1 ((([] : List Int)).map fI) := o_5
  have l_7 := g_4.1
  have g_8 := g0.trans g_4
  have l_9 := g_8.1
  have w_72 := o_5.lt
  refine ⟨_, _, o_5.ownB ω2 rfl, (isl_rdS (i_breaks.grow g_8)), (fun h => by cases h), ω13, ?_⟩
  refine Ap.app o_5 rfl rfl (fun b_14 H_2 q_70 hl_10 o_11 k_12 => ?_)
  have o_11 := map_snoc o_11
  have l_15 := k_12.1
  have g_16 := g_8.keep (b := b_1) ω3 k_12
  have l_17 := g_16.1
  have w_71 := o_11.lt
  refine Al.intro (fun b_18 H_3 hb_19 hl_20 g_21 o_22 => ?_)
  have o_22 : Own H_3 b_18 (([((l_list.length : Int) : Int)]).map fI) := o_22
  have l_24 := g_21.1
  have g_25 := g_16.trans g_21
  have l_26 := g_25.1
  have o_27 := o_11.grow g_21
  have w_28 := o_27.lt
  have w_69 := o_22.lt
  refine ⟨_, _, o_27.ownB ω2 rfl, (isl_rdS (o_22.isL ω4)), (fun h => by cases h), ω13, ?_⟩
  refine Ap.app o_27 rfl rfl (fun b_33 H_4 q_67 hl_29 o_30 k_31 => ?_)
  have o_30 := map_snoc o_30
  have l_34 := k_31.1
  have g_35 := g_25.keep (b := b_14) ω3 k_31
  have l_36 := g_35.1
  have o_37 := o_22.keep ω3 k_31
  have w_38 := o_37.lt
  have w_68 := o_30.lt
  refine impl_nextBreak_L1 _ _ _ _ _ _ (fun (μ : Nat) (vat : Int) (best : Nat) (found : Bool) (vfrom : Int) (t26 : Int) (H_5 : AHeap) => ∃ (t6 : Int), ∃ (t7 : Bool), ∃ (t8 : Bool), Own H_5 b_18 (([((l_list.length : Int) : Int)]).map fI) ∧ Own H_5 b_33 ((((([] : List Int) ++ l_breaks) ++ [((l_list.length : Int) : Int)])).map fI) ∧ (b_33 ≠ b_18) ∧ Grow H H_5 ∧ (0 : Int) ≤ t26 ∧ t26 ≤ ((0 + l_breaks.length) + 1 : Int) ∧ 0 ≤ vfrom ∧ vfrom ≤ (l_list.length : Int) ∧ ((0 + l_breaks.length) + 1 : Int) - t26 ≤ (μ : Int) ∧ p_impl_nextBreak l_list l_breaks least = p_impl_nextBreak_l1 l_list l_breaks least (μ + 1) t6 t7 t8 vat best found vfrom t26) (Int.toNat (((0 + l_breaks.length) + 1 : Int) - (0 : Int))) _ _ _ _ _ H_4 ?_ ?_
  · exact ⟨_, _, _, o_37, o_30, ω3, g_35, ω7, ω7, ω7, ω7, ω3, e⟩
  · intro μ vat best found vfrom t26  H_5 hI
    obtain ⟨t6, t7, t8, o_39, o_40, n_41, g_42, v_43, v_44, v_45, v_46, hμ, e⟩ := hI
    rw [impl_nextBreak_r1]
    have e := e.trans (p_impl_nextBreak_l1_s l_list l_breaks least μ t6 t7 t8 vat best found vfrom t26)
    have hz := List.length_take_le ((([] : List Int) ++ l_breaks ++ [(l_list.length : Int)]).getD t26.toNat 0 - vfrom).toNat (l_list.drop vfrom.toNat)
    have w_47 := o_39.lt
    have w_48 := o_40.lt
    have l_49 := g_42.1
    refine Br.intro (fun c_50 => ?_) (fun c_50 => ?_)
    · have e := e.trans (cond_t c_50)
      have c_50' := of_decide_eq_true c_50
      refine ⟨by omega, ω3, _, _, rfl, ?_⟩
      refine ⟨((((([] : List Int) ++ l_breaks) ++ [((l_list.length : Int) : Int)])).getD (t26 : Int).toNat 0), o_40.rd ω0 _, ?_⟩
      have z_51 := cut_at (cut_end (by assumption)) (t26 : Int)
      rw [show IntKind.wrap .i64 ((((((([] : List Int) ++ l_breaks) ++ [((l_list.length : Int) : Int)])).getD (t26 : Int).toNat 0)) - vfrom) = ((((((([] : List Int) ++ l_breaks) ++ [((l_list.length : Int) : Int)])).getD (t26 : Int).toNat 0)) - vfrom) from wrap64 ω3 ω3]
      refine Br.intro (fun c_52 => ?_) (fun c_52 => ?_)
      · have e := e.trans (cond_t c_52)
        have c_52' := of_decide_eq_true c_52
        refine ⟨by omega, by omega, by omega, ?_⟩
        have i_53 := sub_isl i_list (lo := vfrom) (hi := ((((([] : List Int) ++ l_breaks) ++ [((l_list.length : Int) : Int)])).getD (t26 : Int).toNat 0)) ω3 ω3 ω3
        refine T_impl_BestBreak_i ⟨_, (i_53.grow g_42), ω0, fun  H_6 g_55  => ?_⟩
        have z_54 := impl_BestBreak_at ((((l_list).drop (vfrom : Int).toNat).take ((((((([] : List Int) ++ l_breaks) ++ [((l_list.length : Int) : Int)])).getD (t26 : Int).toNat 0) : Int) - vfrom).toNat))
        have l_56 := g_55.1
        have g_57 := g_42.trans g_55
        have l_58 := g_57.1
        have o_59 := o_39.grow g_55
        have w_60 := o_59.lt
        have o_61 := o_40.grow g_55
        have w_62 := o_61.lt
        refine Br.intro (fun c_63 => ?_) (fun c_63 => ?_)
        · have e := e.trans (cond_t c_63)
          have c_63n := nf_of_t c_63
          rw [impl_nextBreak_x1_ret]
          rw [e] at hk
          exact hk  H_6 g_57 
        · have e := e.trans (cond_f c_63)
          have c_63n := nt_of_f c_63
          refine Br.intro (fun c_64 => ?_) (fun c_64 => ?_)
          · have e := e.trans (cond_t c_64)
            have c_64n := nf_of_t c_64
            rw [show IntKind.wrap .i64 (vfrom + ((p_impl_BestBreak ((((l_list).drop (vfrom : Int).toNat).take ((((((([] : List Int) ++ l_breaks) ++ [((l_list.length : Int) : Int)])).getD (t26 : Int).toNat 0) : Int) - vfrom).toNat))).1)) = (vfrom + ((p_impl_BestBreak ((((l_list).drop (vfrom : Int).toNat).take ((((((([] : List Int) ++ l_breaks) ++ [((l_list.length : Int) : Int)])).getD (t26 : Int).toNat 0) : Int) - vfrom).toNat))).1)) from wrap64 ω3 ω3]
            rw [show IntKind.wrap .i64 (t26 + 1) = (t26 + 1) from wrap64 ω3 ω3]
            refine impl_nextBreak_n1 (μ - 1) ω9 ⟨_, _, _, o_59, o_61, ω3, g_57, ω1, ω1, ω1, ω1, ω9, (by rw [show μ - 1 + 1 = μ from by first | omega]; exact e)⟩
          · have e := e.trans (cond_f c_64)
            have c_64n := nt_of_f c_64
            refine Br.intro (fun c_65 => ?_) (fun c_65 => ?_)
            · have e := e.trans (cond_t c_65)
              rw [show IntKind.wrap .i64 (vfrom + ((p_impl_BestBreak ((((l_list).drop (vfrom : Int).toNat).take ((((((([] : List Int) ++ l_breaks) ++ [((l_list.length : Int) : Int)])).getD (t26 : Int).toNat 0) : Int) - vfrom).toNat))).1)) = (vfrom + ((p_impl_BestBreak ((((l_list).drop (vfrom : Int).toNat).take ((((((([] : List Int) ++ l_breaks) ++ [((l_list.length : Int) : Int)])).getD (t26 : Int).toNat 0) : Int) - vfrom).toNat))).1)) from wrap64 ω3 ω3]
              rw [show IntKind.wrap .i64 (t26 + 1) = (t26 + 1) from wrap64 ω3 ω3]
              refine impl_nextBreak_n1 (μ - 1) ω9 ⟨_, _, _, o_59, o_61, ω3, g_57, ω1, ω1, ω1, ω1, ω9, (by rw [show μ - 1 + 1 = μ from by first | omega]; exact e)⟩
            · have e := e.trans (cond_f c_65)
              rw [show IntKind.wrap .i64 (t26 + 1) = (t26 + 1) from wrap64 ω3 ω3]
              refine impl_nextBreak_n1 (μ - 1) ω9 ⟨_, _, _, o_59, o_61, ω3, g_57, ω1, ω1, ω1, ω1, ω9, (by rw [show μ - 1 + 1 = μ from by first | omega]; exact e)⟩
      · have e := e.trans (cond_f c_52)
        have c_52' := of_decide_eq_false c_52
        rw [show IntKind.wrap .i64 (t26 + 1) = (t26 + 1) from wrap64 ω3 ω3]
        refine impl_nextBreak_n1 (μ - 1) ω9 ⟨_, _, _, o_39, o_40, ω3, g_42, ω1, ω1, ω1, ω1, ω9, (by rw [show μ - 1 + 1 = μ from by first | omega]; exact e)⟩
    · have e := e.trans (cond_f c_50)
      have c_50' := of_decide_eq_false c_50
      rw [impl_nextBreak_x1_0]
      refine Br.intro (fun c_66 => ?_) (fun c_66 => ?_)
      · have e := e.trans (cond_t c_66)
        rw [e] at hk
        exact hk  H_5 g_42 
      · have e := e.trans (cond_f c_66)
        rw [e] at hk
        exact hk  H_5 g_42 
theorem impl_nextBreak_ok : FnOk Try.prog 153 S_impl_nextBreak := by
  refine FnOk.body mix_ok E_impl_nextBreak_ok Try.func153 rfl (by kernel_rfl) (by kernel_rfl) ?_ ?_ ?_ ?_ ?_
  · intro args H K K' h hk
    simp only [S_impl_nextBreak] at *
    unfold F_impl_nextBreak at *
    split at hk
    · obtain ⟨l_list, l_breaks, i_list, i_breaks, bd_73, bd_74, pr0, k⟩ := hk
      exact ⟨l_list, l_breaks, i_list, i_breaks, bd_73, bd_74, pr0, (fun  H' gg  => h _ _ (k  H' gg ))⟩
    · exact hk.elim
  · intro hq; cases hq
  · intro args H K hk
    simp only [S_impl_nextBreak] at *
    unfold F_impl_nextBreak at *
    split at hk
    · obtain ⟨l_list, l_breaks, i_list, i_breaks, bd_73, bd_74, pr0, k⟩ := hk
      exact ⟨_, _, k H (Grow.refl H)⟩
    · exact hk.elim
  · intro _ args H K hk
    simp only [S_impl_nextBreak] at *
    unfold F_impl_nextBreak at *
    split at hk
    · obtain ⟨l_list, l_breaks, i_list, i_breaks, bd_73, bd_74, pr0, k⟩ := hk
      exact ⟨l_list, l_breaks, i_list, i_breaks, bd_73, bd_74, pr0, (fun  H' gg  => ⟨gg, k  H' gg ⟩)⟩
    · exact hk.elim
  · have mm := @impl_nextBreak_main
    have ml := fun (args : List Value) (H : AHeap) (K : Value → AHeap → Prop) => bodyL_body (P := Try.prog) (env := E_impl_nextBreak ) (fn := Try.f153) (args := args) (H := H) (K := K) E_impl_nextBreak_ok 
    revert mm ml
    generalize bodyK Try.prog E_impl_nextBreak Try.f153 = Q
    generalize bodyL Try.prog E_impl_nextBreak Try.f153 = QL
    intro mm ml args H K hk
    simp only [S_impl_nextBreak] at *
    unfold F_impl_nextBreak at *
    split at hk
    · exact ml _ H K (mm _ _ _ _ _ _ _ H K hk)
    · exact hk.elim
def p_slices_Sort_int64_int64 (l_x : List Int) : List Int := l_x.mergeSort fun x y => decide (x ≤ y)
theorem slices_Sort_len (l : List Int) : (p_slices_Sort_int64_int64 l).length = l.length := List.length_mergeSort _
def T_slices_Sort_int64_int64 (x_a : Option Addr) (x_n : Nat) (x_e : Nat) (H : AHeap) (K : AHeap → Prop) : Prop := ∃ lo : Nat, ∃ (l_x : List Int), OwnS fI H lo x_a x_n x_e l_x ∧ l_x.length < 1073741824 ∧ l_x ≠ [] ∧ (∀ H' : AHeap, KeepA x_a H H' → OwnS fI H' lo x_a x_n x_e (p_slices_Sort_int64_int64 l_x) → K H')
theorem T_slices_Sort_int64_int64_i {x_a : Option Addr} {x_n : Nat} {x_e : Nat} {H : AHeap} {K : AHeap → Prop} (h : ∃ lo : Nat, ∃ (l_x : List Int), OwnS fI H lo x_a x_n x_e l_x ∧ l_x.length < 1073741824 ∧ l_x ≠ [] ∧ (∀ H' : AHeap, KeepA x_a H H' → OwnS fI H' lo x_a x_n x_e (p_slices_Sort_int64_int64 l_x) → K H')) : T_slices_Sort_int64_int64 x_a x_n x_e H K := h
abbrev S_slices_Sort_int64_int64 : FSpec := sortS
def sortRen : Go.Shelf.Ren := ⟨fun | 5 => 154 | 7 => 190 | 8 => 191 | 10 => 211 | 11 => 212 | 12 => 213 | 13 => 214 | 14 => 215 | 15 => 216 | 16 => 217 | 17 => 218 | 18 => 219 | 19 => 220 | 20 => 221 | 30 => 229 | 31 => 230 | 32 => 231 | 33 => 232 | 34 => 233 | 35 => 234 | 40 => 242 | n => n, fun | 0 => 0 | 3 => 3 | 4 => 4 | 5 => 5 | 9 => 9 | 22 => 97 | 23 => 97 | 25 => 2 | 32 => 185 | 35 => 203 | 36 => 204 | 41 => 209 | 44 => 200 | 46 => 174 | 53 => 219 | 57 => 223 | 63 => 225 | 64 => 226 | n => n, fun n => n⟩
theorem sortLay : SlLaysM.n5 Try.prog sortRen where
  mixed := by kernel_rfl
  f5 := ⟨"slices.Sort[[]int64,int64]", by decide, Try.func154.trans (congrArg some (by kernel_rfl))⟩
  f7 := ⟨"slices.pdqsortOrdered[int64]", by decide, Try.func190.trans (congrArg some (by kernel_rfl))⟩
  f8 := Try.func191.trans (congrArg some (by kernel_rfl))
  f10 := ⟨"slices.insertionSortOrdered[int64]", by decide, Try.func211.trans (congrArg some (by kernel_rfl))⟩
  f11 := ⟨"slices.heapSortOrdered[int64]", by decide, Try.func212.trans (congrArg some (by kernel_rfl))⟩
  f12 := ⟨"slices.breakPatternsOrdered[int64]", by decide, Try.func213.trans (congrArg some (by kernel_rfl))⟩
  f13 := ⟨"slices.choosePivotOrdered[int64]", by decide, Try.func214.trans (congrArg some (by kernel_rfl))⟩
  f14 := ⟨"slices.reverseRangeOrdered[int64]", by decide, Try.func215.trans (congrArg some (by kernel_rfl))⟩
  f15 := ⟨"slices.partialInsertionSortOrdered[int64]", by decide, Try.func216.trans (congrArg some (by kernel_rfl))⟩
  f16 := ⟨"cmp.Less[int64]", by decide, Try.func217.trans (congrArg some (by kernel_rfl))⟩
  f17 := ⟨"slices.partitionEqualOrdered[int64]", by decide, Try.func218.trans (congrArg some (by kernel_rfl))⟩
  f18 := ⟨"slices.partitionOrdered[int64]", by decide, Try.func219.trans (congrArg some (by kernel_rfl))⟩
  f19 := Try.func220.trans (congrArg some (by kernel_rfl))
  f20 := Try.func221.trans (congrArg some (by kernel_rfl))
  f30 := ⟨"slices.siftDownOrdered[int64]", by decide, Try.func229.trans (congrArg some (by kernel_rfl))⟩
  f31 := Try.func230.trans (congrArg some (by kernel_rfl))
  f32 := Try.func231.trans (congrArg some (by kernel_rfl))
  f33 := ⟨"slices.medianAdjacentOrdered[int64]", by decide, Try.func232.trans (congrArg some (by kernel_rfl))⟩
  f34 := ⟨"slices.medianOrdered[int64]", by decide, Try.func233.trans (congrArg some (by kernel_rfl))⟩
  f35 := ⟨"cmp.isNaN[int64]", by decide, Try.func234.trans (congrArg some (by kernel_rfl))⟩
  f40 := ⟨"slices.order2Ordered[int64]", by decide, Try.func242.trans (congrArg some (by kernel_rfl))⟩
  t0 := Try.underlying0
  a0 := Try.isAgg0
  z0 := Try.sizeOf0
  v0 := Try.zeroValue0
  t3 := Try.underlying3
  a3 := Try.isAgg3
  z3 := Try.sizeOf3
  v3 := Try.zeroValue3
  t4 := Try.underlying4
  a4 := Try.isAgg4
  z4 := Try.sizeOf4
  v4 := Try.zeroValue4
  t5 := Try.underlying5
  a5 := Try.isAgg5
  z5 := Try.sizeOf5
  v5 := Try.zeroValue5
  t9 := Try.underlying9
  a9 := Try.isAgg9
  z9 := Try.sizeOf9
  v9 := Try.zeroValue9
  t22 := Try.underlying97
  a22 := Try.isAgg97
  z22 := Try.sizeOf97
  v22 := Try.zeroValue97
  t23 := Try.underlying97
  a23 := Try.isAgg97
  z23 := Try.sizeOf97
  v23 := Try.zeroValue97
  t25 := Try.underlying2
  a25 := Try.isAgg2
  z25 := Try.sizeOf2
  v25 := Try.zeroValue2
  t32 := Try.underlying185
  a32 := Try.isAgg185
  z32 := Try.sizeOf185
  v32 := Try.zeroValue185
  t35 := Try.underlying203
  a35 := Try.isAgg203
  z35 := Try.sizeOf203
  v35 := Try.zeroValue203
  t36 := Try.underlying204
  a36 := Try.isAgg204
  z36 := Try.sizeOf204
  v36 := Try.zeroValue204
  t41 := Try.underlying209
  a41 := Try.isAgg209
  z41 := Try.sizeOf209
  v41 := Try.zeroValue209
  t44 := Try.underlying200
  a44 := Try.isAgg200
  z44 := Try.sizeOf200
  v44 := Try.zeroValue200
  t46 := Try.underlying174
  a46 := Try.isAgg174
  z46 := Try.sizeOf174
  v46 := Try.zeroValue174
  t53 := Try.underlying219
  a53 := Try.isAgg219
  z53 := Try.sizeOf219
  v53 := Try.zeroValue219
  t57 := Try.underlying223
  a57 := Try.isAgg223
  z57 := Try.sizeOf223
  v57 := Try.zeroValue223
  t63 := Try.underlying225
  a63 := Try.isAgg225
  z63 := Try.sizeOf225
  v63 := Try.zeroValue225
  t64 := Try.underlying226
  a64 := Try.isAgg226
  z64 := Try.sizeOf226
  v64 := Try.zeroValue226
theorem slices_Sort_int64_int64_ok : FnOk Try.prog 154 S_slices_Sort_int64_int64 := sort_ok sortLay rfl Try.func154 rfl rfl


def p_impl_BreaksOf_l1 (l_list : List Nat) (least : Nat) (vmost : Int) : Nat → Bool → (List Int) → (List Int) × Bool
  | 0, _, _ => ([], false)
  | μ + 1, t7, l_breaks => (bif decide (((l_breaks.length : Int) : Int) < vmost) then (bif !((p_impl_nextBreak l_list l_breaks least).2.2) then ([], false) else (bif !((p_impl_nextBreak l_list l_breaks least).2.1) then (l_breaks, true) else (p_impl_BreaksOf_l1 l_list least vmost μ t7 ((p_slices_Sort_int64_int64 ((l_breaks ++ [((p_impl_nextBreak l_list l_breaks least).1 : Int)]))))))) else (l_breaks, true))
def p_impl_BreaksOf_l1_s := fun l_list least vmost μ t7 l_breaks => @p_impl_BreaksOf_l1.eq_2 l_list least vmost t7 l_breaks μ
def p_impl_BreaksOf (l_list : List Nat) (least : Nat) (vmost : Int) : (List Int) × Bool := (bif !(p_impl_isLong l_list) then ([], false) else (bif !(p_impl_IsFinite least) then ([], false) else (bif !((p_impl_within vmost (0 : Int) (16 : Int))) then ([], false) else (p_impl_BreaksOf_l1 l_list least vmost (Int.toNat (vmost - (([] : List Int).length : Int)) + 1) false ([] : List Int)))))
def p_impl_BreaksOf_eq := @p_impl_BreaksOf.eq_1
def T_impl_BreaksOf (list_a : Option Addr) (list_n : Nat) (list_e : Nat) (least : Nat) (vmost : Int) (H : AHeap) (K : (Option Addr) → Nat → Nat → Bool → AHeap → Prop) : Prop := ∃ (l_list : List Nat), IsL fF H list_a list_n l_list ∧ l_list.length < 1073741824 ∧ ((∀ (r1_a : Option Addr) (r1_n r1_e : Nat), ∀ H' : AHeap, Grow H H' → OwnS fI H' H.length r1_a r1_n r1_e ((p_impl_BreaksOf l_list least vmost).1) → K r1_a r1_n r1_e ((p_impl_BreaksOf l_list least vmost).2) H'))
theorem T_impl_BreaksOf_i {list_a : Option Addr} {list_n : Nat} {list_e : Nat} {least : Nat} {vmost : Int} {H : AHeap} {K : (Option Addr) → Nat → Nat → Bool → AHeap → Prop} (h : ∃ (l_list : List Nat), IsL fF H list_a list_n l_list ∧ l_list.length < 1073741824 ∧ ((∀ (r1_a : Option Addr) (r1_n r1_e : Nat), ∀ H' : AHeap, Grow H H' → OwnS fI H' H.length r1_a r1_n r1_e ((p_impl_BreaksOf l_list least vmost).1) → K r1_a r1_n r1_e ((p_impl_BreaksOf l_list least vmost).2) H'))) : T_impl_BreaksOf list_a list_n list_e least vmost H K := h
theorem impl_BreaksOf_l1_len (l : List Nat) (x : Nat) (v : Int) : ∀ (μ : Nat) (t7 : Bool) (bs : List Int), (p_impl_BreaksOf_l1 l x v μ t7 bs).1.length ≤ bs.length + μ := by
  intro μ
  induction μ with
  | zero => intro t7 bs; exact Nat.zero_le _
  | succ μ ih =>
    intro t7 bs
    rw [p_impl_BreaksOf_l1_s]
    refine cnd (P := fun r : List Int × Bool => r.1.length ≤ bs.length + (μ + 1)) (fun h => ?_) (fun h => show bs.length ≤ _ by omega)
    refine cnd (P := fun r : List Int × Bool => r.1.length ≤ bs.length + (μ + 1)) (fun h => Nat.zero_le _) (fun h => ?_)
    refine cnd (P := fun r : List Int × Bool => r.1.length ≤ bs.length + (μ + 1)) (fun h => show bs.length ≤ _ by omega) (fun h => ?_)
    refine Nat.le_trans (ih _ _) ?_
    rw [slices_Sort_len, List.length_append, List.length_singleton]; omega
theorem impl_BreaksOf_len (l : List Nat) (x : Nat) (v : Int) : (p_impl_BreaksOf l x v).1.length ≤ 64 := by
  rw [p_impl_BreaksOf_eq]
  refine cnd (P := fun r : List Int × Bool => r.1.length ≤ 64) (fun h => Nat.zero_le _) (fun h => ?_)
  refine cnd (P := fun r : List Int × Bool => r.1.length ≤ 64) (fun h => Nat.zero_le _) (fun h => ?_)
  refine cnd (P := fun r : List Int × Bool => r.1.length ≤ 64) (fun h => Nat.zero_le _) (fun h => ?_)
  refine Nat.le_trans (impl_BreaksOf_l1_len _ _ _ _ _ _) ?_
  have h2 : v ≤ 16 := by
    unfold p_impl_within at h
    simp at h; omega
  simp only [List.length_nil]; omega
/-! impl_BreaksOf: function 73 -/
def E_impl_BreaksOf : Env := envOf [(105, S_impl_isLong), (133, S_impl_IsFinite), (96, S_impl_within), (153, S_impl_nextBreak), (154, S_slices_Sort_int64_int64)]
def F_impl_BreaksOf : List Value → AHeap → (Value → AHeap → Prop) → Prop
  | [.slice list_a list_n list_e, .float .f32 least, .int .i64 vmost], H, K => T_impl_BreaksOf list_a list_n list_e least vmost H fun (r1_a : Option Addr) (r1_n : Nat) (r1_e : Nat) (r2 : Bool) (H' : AHeap) => K (.tuple #[.slice r1_a r1_n r1_e, .bool r2]) H'
  | _, _, _ => False
def S_impl_BreaksOf : FSpec := { F := F_impl_BreaksOf, quiet := false, tame := true }
theorem impl_BreaksOf_vc (list_a : Option Addr) (list_n : Nat) (list_e : Nat) (least : Nat) (vmost : Int) (H : AHeap) (K : Value → AHeap → Prop) : bodyL Try.prog E_impl_BreaksOf Try.f73 [.slice list_a list_n list_e, .float .f32 least, .int .i64 vmost] H K =
  (T_impl_isLong list_a list_n list_e H fun (r1 : Bool) (H1 : AHeap) => Br (!r1) (K (.tuple #[.slice none 0 0, .bool false]) H1) (T_impl_IsFinite least H1 fun (r2 : Bool) (H2 : AHeap) => Br (!r2) (K (.tuple #[.slice none 0 0, .bool false]) H2) (T_impl_within vmost 0 16 H2 fun (r3 : Bool) (H3 : AHeap) => Br (!r3) (K (.tuple #[.slice none 0 0, .bool false]) H3) (Al [] H3 fun b1 H4 => loopK (exL Try.prog E_impl_BreaksOf (cl (cl (cl (cr (cr (cr (bodyC Try.f73))))))) 263 192 [(0, 256)]) [.slice list_a list_n list_e, .float .f32 least, .int .i64 vmost, ud, ud, ud, ud, ud, .slice (some ⟨b1, 0, none⟩) 0 1, ud, ud, ud, ud, ud, ud, ud, ud, ud, ud, ud, ud, ud, ud, ud, ud, ud, ud, ud, ud, ud, ud, ud, ud, ud, ud, ud, ud, ud, ud, ud, ud, ud, ud, ud, ud, ud, ud, ud, ud] H4 (blockQ 0 (seqQ (exL Try.prog E_impl_BreaksOf (cr (cr (cr (cr (bodyC Try.f73))))) 192 192 []) (retK Try.prog Try.f73 K))))))) := by kernel_rfl
abbrev impl_BreaksOf_P1 (least : Nat) (list_a : Option Addr) (list_e : Nat) (list_n : Nat) (vmost : Int) (breaks_a : Option Addr) (breaks_n : Nat) (breaks_e : Nat)  : List Value := [.slice list_a list_n list_e, .float .f32 least, .int .i64 vmost, ud, ud, ud, ud, ud, .slice breaks_a breaks_n breaks_e, ud, ud, ud, ud, ud, ud, ud, ud, ud, ud, ud, ud, ud, ud, ud, ud, ud, ud, ud, ud, ud, ud, ud, ud, ud, ud, ud, ud, ud, ud, ud, ud, ud, ud, ud, ud, ud, ud, ud, ud]
theorem impl_BreaksOf_r1 (least : Nat) (list_a : Option Addr) (list_e : Nat) (list_n : Nat) (vmost : Int) (breaks_a : Option Addr) (breaks_n : Nat) (breaks_e : Nat)  (H : AHeap) (R : Post) : exL Try.prog E_impl_BreaksOf (cl (cl (cl (cr (cr (cr (bodyC Try.f73))))))) 263 192 [(0, 256)] (impl_BreaksOf_P1 least list_a list_e list_n vmost breaks_a breaks_n breaks_e) H R =
  (Br (decide (((breaks_n : Int) : Int) < vmost)) (T_impl_nextBreak list_a list_n list_e breaks_a breaks_n breaks_e least H fun (r4 : Int) (r5 : Bool) (r6 : Bool) (H5 : AHeap) => Br (!r6) (R .ret [ud, ud, ud, ud, ud, ud, .slice none 0 0, .bool false, ud, ud, ud, ud, ud, ud, ud, ud, ud, ud, ud, ud, ud, ud, ud, ud, ud, ud, ud, ud, ud, ud, ud, ud, ud, ud, ud, ud, ud, ud, ud, ud, ud, ud, ud, ud, ud, ud, ud, ud, ud] H5) (Br (!r5) (R (.exit 0) [ud, ud, ud, ud, ud, ud, ud, ud, .slice breaks_a breaks_n breaks_e, ud, ud, ud, ud, ud, ud, ud, ud, ud, ud, ud, ud, ud, ud, ud, ud, ud, ud, ud, ud, ud, ud, ud, ud, ud, ud, ud, ud, ud, ud, ud, ud, ud, ud, ud, ud, ud, ud, ud, ud] H5) (Al [.int .i64 r4] H5 fun b2 H6 => ∃ o1 w1 : List Value, ownB H6 breaks_a breaks_n breaks_e 1 = some o1 ∧ rdS H6 (some ⟨b2, 0, none⟩) (1 * 1) = some w1 ∧ ((breaks_a : Option Addr) = none → 0 < (1 : Nat)) ∧ (breaks_n : Nat) + 1 < most ∧ Ap H6 (killB H6 breaks_a ++ [some ⟨o1 ++ w1, true⟩]) fun b3 H7 => T_slices_Sort_int64_int64 (some ⟨b3, 0, none⟩) (breaks_n + 1) 1 H7 fun  (H8 : AHeap) => R .normal [.slice list_a list_n list_e, .float .f32 least, .int .i64 vmost, ud, ud, ud, ud, ud, .slice (some ⟨b3, 0, none⟩) (breaks_n + 1) 1, ud, ud, ud, ud, ud, ud, ud, ud, ud, ud, ud, ud, ud, ud, ud, ud, ud, ud, ud, ud, ud, ud, ud, ud, ud, ud, ud, ud, ud, ud, ud, ud, ud, ud, ud, ud, ud, ud, ud, ud] H8))) (R (.exit 0) [ud, ud, ud, ud, ud, ud, ud, ud, .slice breaks_a breaks_n breaks_e, ud, ud, ud, ud, ud, ud, ud, ud, ud, ud, ud, ud, ud, ud, ud, ud, ud, ud, ud, ud, ud, ud, ud, ud, ud, ud, ud, ud, ud, ud, ud, ud, ud, ud, ud, ud, ud, ud, ud, ud] H)) := by kernel_rfl
def impl_BreaksOf_I1 (least : Nat) (list_a : Option Addr) (list_e : Nat) (list_n : Nat) (vmost : Int) (Inv : Nat → (Option Addr) → Nat → Nat → AHeap → Prop) : Nat → List Value → AHeap → Prop := fun μ tm H => ∃ (breaks_a : Option Addr), ∃ (breaks_n : Nat), ∃ (breaks_e : Nat), tm = (impl_BreaksOf_P1 least list_a list_e list_n vmost breaks_a breaks_n breaks_e) ∧ Inv μ breaks_a breaks_n breaks_e H
theorem impl_BreaksOf_L1 (least : Nat) (list_a : Option Addr) (list_e : Nat) (list_n : Nat) (vmost : Int) {Q : Post} (Inv : Nat → (Option Addr) → Nat → Nat → AHeap → Prop) (ν : Nat) (breaks_a : Option Addr) (breaks_n : Nat) (breaks_e : Nat)  (H : AHeap) (h0 : Inv ν breaks_a breaks_n breaks_e H)
    (hs : ∀ (μ : Nat) (breaks_a : Option Addr) (breaks_n : Nat) (breaks_e : Nat)  (H : AHeap), Inv μ breaks_a breaks_n breaks_e H → exL Try.prog E_impl_BreaksOf (cl (cl (cl (cr (cr (cr (bodyC Try.f73))))))) 263 192 [(0, 256)] (impl_BreaksOf_P1 least list_a list_e list_n vmost breaks_a breaks_n breaks_e) H (loopQ (impl_BreaksOf_I1 least list_a list_e list_n vmost Inv) μ Q)) : loopK (exL Try.prog E_impl_BreaksOf (cl (cl (cl (cr (cr (cr (bodyC Try.f73))))))) 263 192 [(0, 256)]) (impl_BreaksOf_P1 least list_a list_e list_n vmost breaks_a breaks_n breaks_e) H Q :=
  ⟨impl_BreaksOf_I1 least list_a list_e list_n vmost Inv, ν, ⟨breaks_a, breaks_n, breaks_e, rfl, h0⟩, fun μ tm H h => by obtain ⟨breaks_a, breaks_n, breaks_e, rfl, hI⟩ := h; exact hs μ breaks_a breaks_n breaks_e  H hI⟩
theorem impl_BreaksOf_n1 {least : Nat} {list_a : Option Addr} {list_e : Nat} {list_n : Nat} {vmost : Int} {Q : Post} {Inv : Nat → (Option Addr) → Nat → Nat → AHeap → Prop} {μ : Nat} (μ' : Nat) {breaks_a : Option Addr} {breaks_n : Nat} {breaks_e : Nat}  {H : AHeap} (hm : μ' < μ) (hI : Inv μ' breaks_a breaks_n breaks_e H) : loopQ (impl_BreaksOf_I1 least list_a list_e list_n vmost Inv) μ Q .normal (impl_BreaksOf_P1 least list_a list_e list_n vmost breaks_a breaks_n breaks_e) H := ⟨μ', hm, breaks_a, breaks_n, breaks_e, rfl, hI⟩
theorem impl_BreaksOf_x1_0 (breaks_a : Option Addr) (breaks_n : Nat) (breaks_e : Nat) (H : AHeap) (K : Value → AHeap → Prop)  {I : Nat → List Value → AHeap → Prop} {μ : Nat} : loopQ I μ (blockQ 0 (seqQ (exL Try.prog E_impl_BreaksOf (cr (cr (cr (cr (bodyC Try.f73))))) 192 192 []) (retK Try.prog Try.f73 K))) (.exit 0) [ud, ud, ud, ud, ud, ud, ud, ud, .slice breaks_a breaks_n breaks_e, ud, ud, ud, ud, ud, ud, ud, ud, ud, ud, ud, ud, ud, ud, ud, ud, ud, ud, ud, ud, ud, ud, ud, ud, ud, ud, ud, ud, ud, ud, ud, ud, ud, ud, ud, ud, ud, ud, ud, ud] H =
  (K (.tuple #[.slice breaks_a breaks_n breaks_e, .bool true]) H) := by kernel_rfl
theorem impl_BreaksOf_x1_ret (t6_a : Option Addr) (t6_n : Nat) (t6_e : Nat) (t7 : Bool) (H : AHeap) (K : Value → AHeap → Prop)  {I : Nat → List Value → AHeap → Prop} {μ : Nat} : loopQ I μ (blockQ 0 (seqQ (exL Try.prog E_impl_BreaksOf (cr (cr (cr (cr (bodyC Try.f73))))) 192 192 []) (retK Try.prog Try.f73 K))) .ret [ud, ud, ud, ud, ud, ud, .slice t6_a t6_n t6_e, .bool t7, ud, ud, ud, ud, ud, ud, ud, ud, ud, ud, ud, ud, ud, ud, ud, ud, ud, ud, ud, ud, ud, ud, ud, ud, ud, ud, ud, ud, ud, ud, ud, ud, ud, ud, ud, ud, ud, ud, ud, ud, ud] H =
  (K (.tuple #[.slice t6_a t6_n t6_e, .bool t7]) H) := by kernel_rfl
theorem E_impl_BreaksOf_ok : ∀ g, FnOk Try.prog g (E_impl_BreaksOf g) := FnOk.envOf (by
  intro x hx
  simp only [List.mem_cons, List.not_mem_nil, or_false] at hx
  rcases hx with rfl | rfl | rfl | rfl | rfl
  · exact impl_isLong_ok
  · exact impl_IsFinite_ok
  · exact impl_within_ok
  · exact impl_nextBreak_ok
  · exact slices_Sort_int64_int64_ok)
set_option maxHeartbeats 1000000 in
theorem impl_BreaksOf_main (list_a : Option Addr) (list_n : Nat) (list_e : Nat) (least : Nat) (vmost : Int) (H : AHeap) (K : Value → AHeap → Prop) (h : T_impl_BreaksOf list_a list_n list_e least vmost H fun (r1_a : Option Addr) (r1_n : Nat) (r1_e : Nat) (r2 : Bool) (H' : AHeap) => K (.tuple #[.slice r1_a r1_n r1_e, .bool r2]) H') : bodyL Try.prog E_impl_BreaksOf Try.f73 [.slice list_a list_n list_e, .float .f32 least, .int .i64 vmost] H K := by
  rw [impl_BreaksOf_vc]
  obtain ⟨l_list, i_list, bd_70, hk⟩ := h
  obtain rfl := i_list.eqn
  have e : (p_impl_BreaksOf l_list least vmost) = _ := rfl
  have e := e.trans (p_impl_BreaksOf_eq l_list least vmost)
  have g0 := Grow.refl H
  refine T_impl_isLong_i ⟨_, (i_list.grow g0), ω0, fun  H_1 g_1  => ?_⟩
  have l_2 := g_1.1
  have g_3 := g0.trans g_1
  have l_4 := g_3.1
  refine Br.intro (fun c_5 => ?_) (fun c_5 => ?_)
  · have e := e.trans (cond_t c_5)
    have c_5n := nf_of_t c_5
    rw [e] at hk
    exact hk _ _ _ H_1 g_3 ω10
  · have e := e.trans (cond_f c_5)
    have c_5n := nt_of_f c_5
    have c_5n' := impl_isLong_t c_5n
    refine T_impl_IsFinite_i ?_
    refine Br.intro (fun c_6 => ?_) (fun c_6 => ?_)
    · have e := e.trans (cond_t c_6)
      have c_6n := nf_of_t c_6
      rw [e] at hk
      exact hk _ _ _ H_1 g_3 ω10
    · have e := e.trans (cond_f c_6)
      have c_6n := nt_of_f c_6
      refine T_impl_within_i ?_
      refine Br.intro (fun c_7 => ?_) (fun c_7 => ?_)
      · have e := e.trans (cond_t c_7)
        have c_7n := nf_of_t c_7
        rw [e] at hk
        exact hk _ _ _ H_1 g_3 ω10
      · have e := e.trans (cond_f c_7)
        have c_7n := nt_of_f c_7
        have c_7n' := impl_within_t c_7n
        refine Al.intro (fun b_8 H_2 hb_9 hl_10 g_11 o_12 => ?_)
        have o_12 : Own H_2 b_8 ((([] : List Int)).map fI) := o_12
        have l_14 := g_11.1
        have g_15 := g_3.trans g_11
        have l_16 := g_15.1
        have w_69 := o_12.lt
        refine impl_BreaksOf_L1 _ _ _ _ _ (fun (μ : Nat) (breaks_a : Option Addr) (breaks_n : Nat) (breaks_e : Nat) (H_3 : AHeap) => ∃ (t7 : Bool), ∃ (l_breaks : List Int), ∃ (b_17 : Nat), breaks_a = some ⟨b_17, 0, none⟩ ∧ breaks_n = l_breaks.length ∧ breaks_e = 1 ∧ Own H_3 b_17 (l_breaks.map fI) ∧ Grow H H_3 ∧ H.length ≤ b_17 ∧ Cut l_list.length l_breaks ∧ vmost - (l_breaks.length : Int) ≤ (μ : Int) ∧ p_impl_BreaksOf l_list least vmost = p_impl_BreaksOf_l1 l_list least vmost (μ + 1) t7 l_breaks) (Int.toNat (vmost - (([] : List Int).length : Int))) _ _ _ H_2 ?_ ?_
        · exact ⟨_, _, _, rfl, ω4, rfl, o_12, g_15, ω3, (by first | omega | (simp; done) | (simp; omega) | (first | omega | exact cut_nil _ | exact cut_sort (cut_app (by assumption) (cut_one (by omega) (by omega))))), ω3, e⟩
        · intro μ breaks_a breaks_n breaks_e  H_3 hI
          obtain ⟨t7, l_breaks, b_17, rfl, rfl, rfl, o_18, g_19, l_20, v_21, hμ, e⟩ := hI
          rw [impl_BreaksOf_r1]
          have e := e.trans (p_impl_BreaksOf_l1_s l_list least vmost μ t7 l_breaks)
          have w_22 := o_18.lt
          have l_23 := g_19.1
          refine Br.intro (fun c_24 => ?_) (fun c_24 => ?_)
          · have e := e.trans (cond_t c_24)
            have c_24' := of_decide_eq_true c_24
            refine T_impl_nextBreak_i ⟨_, _, (i_list.grow g_19), (o_18.isL ω4), ω0, ω0, ω11, fun  H_4 g_26  => ?_⟩
            have z_25 := impl_nextBreak_at l_list l_breaks least ω3 (by assumption)
            have l_27 := g_26.1
            have g_28 := g_19.trans g_26
            have l_29 := g_28.1
            have o_30 := o_18.grow g_26
            have w_31 := o_30.lt
            refine Br.intro (fun c_32 => ?_) (fun c_32 => ?_)
            · have e := e.trans (cond_t c_32)
              have c_32n := nf_of_t c_32
              rw [impl_BreaksOf_x1_ret]
              rw [e] at hk
              exact hk _ _ _ H_4 g_28 ω10
            · have e := e.trans (cond_f c_32)
              have c_32n := nt_of_f c_32
              refine Br.intro (fun c_33 => ?_) (fun c_33 => ?_)
              · have e := e.trans (cond_t c_33)
                have c_33n := nf_of_t c_33
                rw [impl_BreaksOf_x1_0]
                rw [e] at hk
                exact hk _ _ _ H_4 g_28 (o_30.ownS ω4 ω3)
              · have e := e.trans (cond_f c_33)
                have c_33n := nt_of_f c_33
                refine Al.intro (fun b_34 H_5 hb_35 hl_36 g_37 o_38 => ?_)
                have o_38 : Own H_5 b_34 (([((p_impl_nextBreak l_list l_breaks least).1 : Int)]).map fI) := o_38
                have l_40 := g_37.1
                have g_41 := g_28.trans g_37
                have l_42 := g_41.1
                have o_43 := o_30.grow g_37
                have w_44 := o_43.lt
                have w_68 := o_38.lt
                refine ⟨_, _, o_43.ownB ω2 rfl, (isl_rdS (o_38.isL ω4)), (fun h => by cases h), ω13, ?_⟩
                refine Ap.app o_43 rfl rfl (fun b_49 H_6 q_66 hl_45 o_46 k_47 => ?_)
                have o_46 := map_snoc o_46
                have l_50 := k_47.1
                have g_51 := g_41.keep (b := b_17) ω3 k_47
                have l_52 := g_51.1
                have o_53 := o_38.keep ω3 k_47
                have w_54 := o_53.lt
                have w_67 := o_46.lt
                refine T_slices_Sort_int64_int64_i ⟨_, _, (o_46.ownS ω5 (Nat.le_refl _)), ω0, (by first | assumption | omega | (simp; omega) | (simp)), (fun H_7 k_56 o_57 => ?_)⟩
                have z_55 := slices_Sort_len ((l_breaks ++ [((p_impl_nextBreak l_list l_breaks least).1 : Int)]))
                try simp only [List.length_append, List.length_cons, List.length_nil] at z_55
                have k_58 := k_56.keep1
                have o_59 := o_57.own1
                have w_65 := o_59.lt
                have l_60 := k_58.1
                have g_61 := g_51.keep (b := b_49) ω3 k_58
                have l_62 := g_61.1
                have o_63 := o_53.keep ω3 k_58
                have w_64 := o_63.lt
                refine impl_BreaksOf_n1 (μ - 1) ω9 ⟨_, _, _, rfl, ω5, rfl, o_59, g_61, ω3, (by first | omega | (first | omega | exact cut_nil _ | exact cut_sort (cut_app (by assumption) (cut_one (by omega) (by omega)))) | (simp only [List.length_append, List.length_cons, List.length_nil, List.length_set]; done) | (simp only [List.length_append, List.length_cons, List.length_nil, List.length_set]; omega)), ω9, (by rw [show μ - 1 + 1 = μ from by first | omega]; exact e)⟩
          · have e := e.trans (cond_f c_24)
            have c_24' := of_decide_eq_false c_24
            rw [impl_BreaksOf_x1_0]
            rw [e] at hk
            exact hk _ _ _ H_3 g_19 (o_18.ownS ω4 ω3)
theorem impl_BreaksOf_ok : FnOk Try.prog 73 S_impl_BreaksOf := by
  refine FnOk.body mix_ok E_impl_BreaksOf_ok Try.func73 rfl (by kernel_rfl) (by kernel_rfl) ?_ ?_ ?_ ?_ ?_
  · intro args H K K' h hk
    simp only [S_impl_BreaksOf] at *
    unfold F_impl_BreaksOf at *
    split at hk
    · obtain ⟨l_list, i_list, bd_70, k⟩ := hk
      exact ⟨l_list, i_list, bd_70, (fun r1_a r1_n r1_e H' gg ow0 => h _ _ (k r1_a r1_n r1_e H' gg ow0))⟩
    · exact hk.elim
  · intro hq; cases hq
  · intro args H K hk
    simp only [S_impl_BreaksOf] at *
    unfold F_impl_BreaksOf at *
    split at hk
    · obtain ⟨l_list, i_list, bd_70, k⟩ := hk
      exact liveS fun a n e H1 g o => ⟨_, _, k a n e H1 g o⟩
    · exact hk.elim
  · intro _ args H K hk
    simp only [S_impl_BreaksOf] at *
    unfold F_impl_BreaksOf at *
    split at hk
    · obtain ⟨l_list, i_list, bd_70, k⟩ := hk
      exact ⟨l_list, i_list, bd_70, (fun r1_a r1_n r1_e H' gg ow0 => ⟨gg, k r1_a r1_n r1_e H' gg ow0⟩)⟩
    · exact hk.elim
  · have mm := @impl_BreaksOf_main
    have ml := fun (args : List Value) (H : AHeap) (K : Value → AHeap → Prop) => bodyL_body (P := Try.prog) (env := E_impl_BreaksOf ) (fn := Try.f73) (args := args) (H := H) (K := K) E_impl_BreaksOf_ok 
    revert mm ml
    generalize bodyK Try.prog E_impl_BreaksOf Try.f73 = Q
    generalize bodyL Try.prog E_impl_BreaksOf Try.f73 = QL
    intro mm ml args H K hk
    simp only [S_impl_BreaksOf] at *
    unfold F_impl_BreaksOf at *
    split at hk
    · exact ml _ H K (mm _ _ _ _ _ H K hk)
    · exact hk.elim
def p_spec_l01Finite (x : Nat) : Bool := feq .f32 (fsub .f32 x x) 0
def T_spec_l01Finite (x : Nat) (H : AHeap) (K : Bool → AHeap → Prop) : Prop := K (p_spec_l01Finite x) H

theorem T_spec_l01Finite_i {x : Nat} {H : AHeap} {K : Bool → AHeap → Prop} (h : K (p_spec_l01Finite x) H) : T_spec_l01Finite x H K := h
/-! spec_l01Finite: function 155 -/
def E_spec_l01Finite : Env := envOf []
def F_spec_l01Finite : List Value → AHeap → (Value → AHeap → Prop) → Prop
  | [.float .f32 x], H, K => T_spec_l01Finite x H fun (r1 : Bool) (H' : AHeap) => K (.bool r1) H'
  | _, _, _ => False
def S_spec_l01Finite : FSpec := { F := F_spec_l01Finite, quiet := true, tame := false }
theorem spec_l01Finite_vc (x : Nat) (H : AHeap) (K : Value → AHeap → Prop) : bodyL Try.prog E_spec_l01Finite Try.f155 [.float .f32 x] H K =
  (K (.bool (feq .f32 (fsub .f32 x x) 0)) H) := by kernel_rfl
theorem E_spec_l01Finite_ok : ∀ g, FnOk Try.prog g (E_spec_l01Finite g) := FnOk.envOf (by
  intro x hx; cases hx)
set_option maxHeartbeats 1000000 in
theorem spec_l01Finite_main (x : Nat) (H : AHeap) (K : Value → AHeap → Prop) (h : T_spec_l01Finite x H fun (r1 : Bool) (H' : AHeap) => K (.bool r1) H') : bodyL Try.prog E_spec_l01Finite Try.f155 [.float .f32 x] H K := by
  rw [spec_l01Finite_vc]
  unfold T_spec_l01Finite p_spec_l01Finite at h
  repeat' (first | exact h | (exfalso; simp_all; done) | (refine ⟨by decide, ?_⟩) | (refine Br.intro (fun hb => ?_) (fun hb => ?_) <;> (try simp only [hb, cond_true, cond_false, Bool.not_true, Bool.not_false] at h)))
theorem spec_l01Finite_ok : FnOk Try.prog 155 S_spec_l01Finite := by
  refine FnOk.body mix_ok E_spec_l01Finite_ok Try.func155 rfl (by kernel_rfl) (by kernel_rfl) ?_ ?_ ?_ ?_ ?_
  · intro args H K K' h hk
    simp only [S_spec_l01Finite] at *
    unfold F_spec_l01Finite at *
    split at hk
    · have k := hk
      exact h _ _ k
    · exact hk.elim
  · intro _ args H K hk
    simp only [S_spec_l01Finite] at *
    unfold F_spec_l01Finite at *
    split at hk
    · have k := hk
      exact ⟨_, k, fun K' k' => k'⟩
    · exact hk.elim
  · intro args H K hk
    simp only [S_spec_l01Finite] at *
    unfold F_spec_l01Finite at *
    split at hk
    · have k := hk
      exact ⟨_, _, k⟩
    · exact hk.elim
  · intro hq; cases hq
  · have mm := @spec_l01Finite_main
    have ml := fun (args : List Value) (H : AHeap) (K : Value → AHeap → Prop) => bodyL_body (P := Try.prog) (env := E_spec_l01Finite ) (fn := Try.f155) (args := args) (H := H) (K := K) E_spec_l01Finite_ok 
    revert mm ml
    generalize bodyK Try.prog E_spec_l01Finite Try.f155 = Q
    generalize bodyL Try.prog E_spec_l01Finite Try.f155 = QL
    intro mm ml args H K hk
    simp only [S_spec_l01Finite] at *
    unfold F_spec_l01Finite at *
    split at hk
    · exact ml _ H K (mm _ H K hk)
    · exact hk.elim

def p_spec_l02Finite_l1 (l_list : List Nat) : Nat → Bool → Int → Bool
  | 0, _, _ => false
  | μ + 1, t2, i => (bif decide ((i : Int) < (l_list.length : Int)) then (bif !((p_spec_l01Finite (((l_list).getD (i : Int).toNat 0)))) then false else (p_spec_l02Finite_l1 l_list μ t2 (i + 1))) else true)
def p_spec_l02Finite_l1_s := fun l_list μ t2 i => @p_spec_l02Finite_l1.eq_2 l_list t2 i μ
def p_spec_l02Finite (l_list : List Nat) : Bool := (p_spec_l02Finite_l1 l_list (Int.toNat ((l_list.length : Int) - (0 : Int)) + 1) false (0 : Int))
def p_spec_l02Finite_eq := @p_spec_l02Finite.eq_1
def T_spec_l02Finite (list_a : Option Addr) (list_n : Nat) (list_e : Nat) (H : AHeap) (K : Bool → AHeap → Prop) : Prop := ∃ (l_list : List Nat), IsL fF H list_a list_n l_list ∧ l_list.length < 1073741824 ∧ K (p_spec_l02Finite l_list) H
theorem T_spec_l02Finite_i {list_a : Option Addr} {list_n : Nat} {list_e : Nat} {H : AHeap} {K : Bool → AHeap → Prop} (h : ∃ (l_list : List Nat), IsL fF H list_a list_n l_list ∧ l_list.length < 1073741824 ∧ K (p_spec_l02Finite l_list) H) : T_spec_l02Finite list_a list_n list_e H K := h

/-! spec_l02Finite: function 104 -/
def E_spec_l02Finite : Env := envOf [(155, S_spec_l01Finite)]
def F_spec_l02Finite : List Value → AHeap → (Value → AHeap → Prop) → Prop
  | [.slice list_a list_n list_e], H, K => T_spec_l02Finite list_a list_n list_e H fun (r1 : Bool) (H' : AHeap) => K (.bool r1) H'
  | _, _, _ => False
def S_spec_l02Finite : FSpec := { F := F_spec_l02Finite, quiet := true, tame := false }
theorem spec_l02Finite_vc (list_a : Option Addr) (list_n : Nat) (list_e : Nat) (H : AHeap) (K : Value → AHeap → Prop) : bodyL Try.prog E_spec_l02Finite Try.f104 [.slice list_a list_n list_e] H K =
  (loopK (exL Try.prog E_spec_l02Finite (cl (cl (cr (cl (cr (bodyC Try.f104)))))) 9 4 [(0, 0)]) [.slice list_a list_n list_e, ud, ud, .int .i64 0, ud, ud, ud, ud, ud, ud, ud, ud, ud, ud, ud, ud] H (blockQ 0 (seqQ (exL Try.prog E_spec_l02Finite (cr (cr (bodyC Try.f104))) 4 4 []) (retK Try.prog Try.f104 K)))) := by kernel_rfl
abbrev spec_l02Finite_P1 (list_a : Option Addr) (list_e : Nat) (list_n : Nat) (i : Int)  : List Value := [.slice list_a list_n list_e, ud, ud, .int .i64 i, ud, ud, ud, ud, ud, ud, ud, ud, ud, ud, ud, ud]
theorem spec_l02Finite_r1 (list_a : Option Addr) (list_e : Nat) (list_n : Nat) (i : Int)  (H : AHeap) (R : Post) : exL Try.prog E_spec_l02Finite (cl (cl (cr (cl (cr (bodyC Try.f104)))))) 9 4 [(0, 0)] (spec_l02Finite_P1 list_a list_e list_n i) H R =
  (Br (decide ((i : Int) < (list_n : Int))) ((0 : Int) ≤ i ∧ i < (list_n : Int) ∧ ∃ b1 f1, (list_a : Option Addr) = some ⟨b1, f1, none⟩ ∧ ∃ x1 : Nat,  rdC H b1 (f1 + (i : Int).toNat * 1) = some (.float .f32 x1) ∧ T_spec_l01Finite x1 H fun (r1 : Bool) (H1 : AHeap) => Br (!r1) (R .ret [ud, ud, .bool false, ud, ud, ud, ud, ud, ud, ud, ud, ud, ud, ud, ud, ud] H1) (R .normal [.slice list_a list_n list_e, ud, ud, .int .i64 (IntKind.wrap .i64 (i + 1)), ud, ud, ud, ud, ud, ud, ud, ud, ud, ud, ud, ud] H1)) (R (.exit 0) [ud, ud, ud, ud, ud, ud, ud, ud, ud, ud, ud, ud, ud, ud, ud, ud] H)) := by kernel_rfl
def spec_l02Finite_I1 (list_a : Option Addr) (list_e : Nat) (list_n : Nat) (Inv : Nat → Int → AHeap → Prop) : Nat → List Value → AHeap → Prop := fun μ tm H => ∃ (i : Int), tm = (spec_l02Finite_P1 list_a list_e list_n i) ∧ Inv μ i H
theorem spec_l02Finite_L1 (list_a : Option Addr) (list_e : Nat) (list_n : Nat) {Q : Post} (Inv : Nat → Int → AHeap → Prop) (ν : Nat) (i : Int)  (H : AHeap) (h0 : Inv ν i H)
    (hs : ∀ (μ : Nat) (i : Int)  (H : AHeap), Inv μ i H → exL Try.prog E_spec_l02Finite (cl (cl (cr (cl (cr (bodyC Try.f104)))))) 9 4 [(0, 0)] (spec_l02Finite_P1 list_a list_e list_n i) H (loopQ (spec_l02Finite_I1 list_a list_e list_n Inv) μ Q)) : loopK (exL Try.prog E_spec_l02Finite (cl (cl (cr (cl (cr (bodyC Try.f104)))))) 9 4 [(0, 0)]) (spec_l02Finite_P1 list_a list_e list_n i) H Q :=
  ⟨spec_l02Finite_I1 list_a list_e list_n Inv, ν, ⟨i, rfl, h0⟩, fun μ tm H h => by obtain ⟨i, rfl, hI⟩ := h; exact hs μ i  H hI⟩
theorem spec_l02Finite_n1 {list_a : Option Addr} {list_e : Nat} {list_n : Nat} {Q : Post} {Inv : Nat → Int → AHeap → Prop} {μ : Nat} (μ' : Nat) {i : Int}  {H : AHeap} (hm : μ' < μ) (hI : Inv μ' i H) : loopQ (spec_l02Finite_I1 list_a list_e list_n Inv) μ Q .normal (spec_l02Finite_P1 list_a list_e list_n i) H := ⟨μ', hm, i, rfl, hI⟩
theorem spec_l02Finite_x1_0  (H : AHeap) (K : Value → AHeap → Prop)  {I : Nat → List Value → AHeap → Prop} {μ : Nat} : loopQ I μ (blockQ 0 (seqQ (exL Try.prog E_spec_l02Finite (cr (cr (bodyC Try.f104))) 4 4 []) (retK Try.prog Try.f104 K))) (.exit 0) [ud, ud, ud, ud, ud, ud, ud, ud, ud, ud, ud, ud, ud, ud, ud, ud] H =
  (K (.bool true) H) := by kernel_rfl
theorem spec_l02Finite_x1_ret (t2 : Bool) (H : AHeap) (K : Value → AHeap → Prop)  {I : Nat → List Value → AHeap → Prop} {μ : Nat} : loopQ I μ (blockQ 0 (seqQ (exL Try.prog E_spec_l02Finite (cr (cr (bodyC Try.f104))) 4 4 []) (retK Try.prog Try.f104 K))) .ret [ud, ud, .bool t2, ud, ud, ud, ud, ud, ud, ud, ud, ud, ud, ud, ud, ud] H =
  (K (.bool t2) H) := by kernel_rfl
theorem E_spec_l02Finite_ok : ∀ g, FnOk Try.prog g (E_spec_l02Finite g) := FnOk.envOf (by
  intro x hx
  simp only [List.mem_cons, List.not_mem_nil, or_false] at hx
  subst hx; exact spec_l01Finite_ok)
set_option maxHeartbeats 1000000 in
theorem spec_l02Finite_main (list_a : Option Addr) (list_n : Nat) (list_e : Nat) (H : AHeap) (K : Value → AHeap → Prop) (h : T_spec_l02Finite list_a list_n list_e H fun (r1 : Bool) (H' : AHeap) => K (.bool r1) H') : bodyL Try.prog E_spec_l02Finite Try.f104 [.slice list_a list_n list_e] H K := by
  rw [spec_l02Finite_vc]
  obtain ⟨l_list, i_list, bd_9, hk⟩ := h
  obtain rfl := i_list.eqn
  have e : (p_spec_l02Finite l_list) = _ := rfl
  have e := e.trans (p_spec_l02Finite_eq l_list)
  have g0 := Grow.refl H
  refine spec_l02Finite_L1 _ _ _ (fun (μ : Nat) (i : Int) (H_1 : AHeap) => ∃ (t2 : Bool), H = H_1 ∧ (0 : Int) ≤ i ∧ i ≤ (l_list.length : Int) ∧ (l_list.length : Int) - i ≤ (μ : Int) ∧ p_spec_l02Finite l_list = p_spec_l02Finite_l1 l_list (μ + 1) t2 i) (Int.toNat ((l_list.length : Int) - (0 : Int))) _ H ?_ ?_
  · exact ⟨_, rfl, ω7, ω7, ω3, e⟩
  · intro μ i  H_1 hI
    obtain ⟨t2, rfl, v_1, v_2, hμ, e⟩ := hI
    rw [spec_l02Finite_r1]
    have e := e.trans (p_spec_l02Finite_l1_s l_list μ t2 i)
    have l_3 := g0.1
    refine Br.intro (fun c_4 => ?_) (fun c_4 => ?_)
    · have e := e.trans (cond_t c_4)
      have c_4' := of_decide_eq_true c_4
      obtain ⟨b_5, f_6, q_7⟩ := ((i_list.grow g0)).pos ω0
      refine ⟨by omega, by omega, b_5, f_6, q_7, ?_⟩
      refine ⟨((l_list).getD (i : Int).toNat 0), (i_list).rd g0 q_7 ω3 _, ?_⟩
      refine T_spec_l01Finite_i ?_
      refine Br.intro (fun c_8 => ?_) (fun c_8 => ?_)
      · have e := e.trans (cond_t c_8)
        have c_8n := nf_of_t c_8
        rw [spec_l02Finite_x1_ret]
        rw [e] at hk
        exact hk
      · have e := e.trans (cond_f c_8)
        have c_8n := nt_of_f c_8
        rw [show IntKind.wrap .i64 (i + 1) = (i + 1) from wrap64 ω3 ω3]
        refine spec_l02Finite_n1 (μ - 1) ω9 ⟨_, rfl, ω1, ω1, ω9, (by rw [show μ - 1 + 1 = μ from by first | omega]; exact e)⟩
    · have e := e.trans (cond_f c_4)
      have c_4' := of_decide_eq_false c_4
      rw [spec_l02Finite_x1_0]
      rw [e] at hk
      exact hk
theorem spec_l02Finite_ok : FnOk Try.prog 104 S_spec_l02Finite := by
  refine FnOk.body mix_ok E_spec_l02Finite_ok Try.func104 rfl (by kernel_rfl) (by kernel_rfl) ?_ ?_ ?_ ?_ ?_
  · intro args H K K' h hk
    simp only [S_spec_l02Finite] at *
    unfold F_spec_l02Finite at *
    split at hk
    · obtain ⟨l_list, i_list, bd_9, k⟩ := hk
      exact ⟨l_list, i_list, bd_9, h _ _ k⟩
    · exact hk.elim
  · intro _ args H K hk
    simp only [S_spec_l02Finite] at *
    unfold F_spec_l02Finite at *
    split at hk
    · obtain ⟨l_list, i_list, bd_9, k⟩ := hk
      exact ⟨_, k, fun K' k' => ⟨l_list, i_list, bd_9, k'⟩⟩
    · exact hk.elim
  · intro args H K hk
    simp only [S_spec_l02Finite] at *
    unfold F_spec_l02Finite at *
    split at hk
    · obtain ⟨l_list, i_list, bd_9, k⟩ := hk
      exact ⟨_, _, k⟩
    · exact hk.elim
  · intro hq; cases hq
  · have mm := @spec_l02Finite_main
    have ml := fun (args : List Value) (H : AHeap) (K : Value → AHeap → Prop) => bodyL_body (P := Try.prog) (env := E_spec_l02Finite ) (fn := Try.f104) (args := args) (H := H) (K := K) E_spec_l02Finite_ok 
    revert mm ml
    generalize bodyK Try.prog E_spec_l02Finite Try.f104 = Q
    generalize bodyL Try.prog E_spec_l02Finite Try.f104 = QL
    intro mm ml args H K hk
    simp only [S_spec_l02Finite] at *
    unfold F_spec_l02Finite at *
    split at hk
    · exact ml _ H K (mm _ _ _ H K hk)
    · exact hk.elim

def p_spec_l03Long (l_list : List Nat) : Bool := (bif decide ((1 : Int) ≤ (l_list.length : Int)) then (bif decide (((l_list.length : Int) : Int) ≤ 128) then (p_spec_l02Finite l_list) else false) else false)
def p_spec_l03Long_eq := @p_spec_l03Long.eq_1
def T_spec_l03Long (list_a : Option Addr) (list_n : Nat) (list_e : Nat) (H : AHeap) (K : Bool → AHeap → Prop) : Prop := ∃ (l_list : List Nat), IsL fF H list_a list_n l_list ∧ l_list.length < 1073741824 ∧ K (p_spec_l03Long l_list) H
theorem T_spec_l03Long_i {list_a : Option Addr} {list_n : Nat} {list_e : Nat} {H : AHeap} {K : Bool → AHeap → Prop} (h : ∃ (l_list : List Nat), IsL fF H list_a list_n l_list ∧ l_list.length < 1073741824 ∧ K (p_spec_l03Long l_list) H) : T_spec_l03Long list_a list_n list_e H K := h
theorem spec_l03Long_t {l : List Nat} (h : p_spec_l03Long l = true) : 1 ≤ (l.length : Int) ∧ (l.length : Int) ≤ 128 := by
  rw [p_spec_l03Long_eq] at h
  by_cases h1 : (1 : Int) ≤ (l.length : Int)
  · rw [decide_eq_true h1, cond_true] at h
    by_cases h2 : (l.length : Int) ≤ 128
    · exact ⟨h1, h2⟩
    · rw [decide_eq_false h2] at h; cases h
  · rw [decide_eq_false h1] at h; cases h
/-! spec_l03Long: function 100 -/
def E_spec_l03Long : Env := envOf [(104, S_spec_l02Finite)]
def F_spec_l03Long : List Value → AHeap → (Value → AHeap → Prop) → Prop
  | [.slice list_a list_n list_e], H, K => T_spec_l03Long list_a list_n list_e H fun (r1 : Bool) (H' : AHeap) => K (.bool r1) H'
  | _, _, _ => False
def S_spec_l03Long : FSpec := { F := F_spec_l03Long, quiet := true, tame := false }
theorem spec_l03Long_vc (list_a : Option Addr) (list_n : Nat) (list_e : Nat) (H : AHeap) (K : Value → AHeap → Prop) : bodyL Try.prog E_spec_l03Long Try.f100 [.slice list_a list_n list_e] H K =
  (Br (decide ((1 : Int) ≤ (list_n : Int))) (Br (decide (((list_n : Int) : Int) ≤ 128)) (T_spec_l02Finite list_a list_n list_e H fun (r1 : Bool) (H1 : AHeap) => K (.bool r1) H1) (K (.bool false) H)) (K (.bool false) H)) := by kernel_rfl
theorem E_spec_l03Long_ok : ∀ g, FnOk Try.prog g (E_spec_l03Long g) := FnOk.envOf (by
  intro x hx
  simp only [List.mem_cons, List.not_mem_nil, or_false] at hx
  subst hx; exact spec_l02Finite_ok)
set_option maxHeartbeats 1000000 in
theorem spec_l03Long_main (list_a : Option Addr) (list_n : Nat) (list_e : Nat) (H : AHeap) (K : Value → AHeap → Prop) (h : T_spec_l03Long list_a list_n list_e H fun (r1 : Bool) (H' : AHeap) => K (.bool r1) H') : bodyL Try.prog E_spec_l03Long Try.f100 [.slice list_a list_n list_e] H K := by
  rw [spec_l03Long_vc]
  obtain ⟨l_list, i_list, bd_3, hk⟩ := h
  obtain rfl := i_list.eqn
  have e : (p_spec_l03Long l_list) = _ := rfl
  have e := e.trans (p_spec_l03Long_eq l_list)
  have g0 := Grow.refl H
  refine Br.intro (fun c_1 => ?_) (fun c_1 => ?_)
  · have e := e.trans (cond_t c_1)
    have c_1' := of_decide_eq_true c_1
    refine Br.intro (fun c_2 => ?_) (fun c_2 => ?_)
    · have e := e.trans (cond_t c_2)
      have c_2' := of_decide_eq_true c_2
      refine T_spec_l02Finite_i ⟨_, (i_list.grow g0), ω0, ?_⟩
      rw [e] at hk
      exact hk
    · have e := e.trans (cond_f c_2)
      have c_2' := of_decide_eq_false c_2
      rw [e] at hk
      exact hk
  · have e := e.trans (cond_f c_1)
    have c_1' := of_decide_eq_false c_1
    rw [e] at hk
    exact hk
theorem spec_l03Long_ok : FnOk Try.prog 100 S_spec_l03Long := by
  refine FnOk.body mix_ok E_spec_l03Long_ok Try.func100 rfl (by kernel_rfl) (by kernel_rfl) ?_ ?_ ?_ ?_ ?_
  · intro args H K K' h hk
    simp only [S_spec_l03Long] at *
    unfold F_spec_l03Long at *
    split at hk
    · obtain ⟨l_list, i_list, bd_3, k⟩ := hk
      exact ⟨l_list, i_list, bd_3, h _ _ k⟩
    · exact hk.elim
  · intro _ args H K hk
    simp only [S_spec_l03Long] at *
    unfold F_spec_l03Long at *
    split at hk
    · obtain ⟨l_list, i_list, bd_3, k⟩ := hk
      exact ⟨_, k, fun K' k' => ⟨l_list, i_list, bd_3, k'⟩⟩
    · exact hk.elim
  · intro args H K hk
    simp only [S_spec_l03Long] at *
    unfold F_spec_l03Long at *
    split at hk
    · obtain ⟨l_list, i_list, bd_3, k⟩ := hk
      exact ⟨_, _, k⟩
    · exact hk.elim
  · intro hq; cases hq
  · have mm := @spec_l03Long_main
    have ml := fun (args : List Value) (H : AHeap) (K : Value → AHeap → Prop) => bodyL_body (P := Try.prog) (env := E_spec_l03Long ) (fn := Try.f100) (args := args) (H := H) (K := K) E_spec_l03Long_ok 
    revert mm ml
    generalize bodyK Try.prog E_spec_l03Long Try.f100 = Q
    generalize bodyL Try.prog E_spec_l03Long Try.f100 = QL
    intro mm ml args H K hk
    simp only [S_spec_l03Long] at *
    unfold F_spec_l03Long at *
    split at hk
    · exact ml _ H K (mm _ _ _ H K hk)
    · exact hk.elim
end Go.Proofs.Ytbnplefohfamnaa.Ai
