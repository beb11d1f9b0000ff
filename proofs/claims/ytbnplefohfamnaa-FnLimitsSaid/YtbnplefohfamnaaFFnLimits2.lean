/- What functions of the program come to on the abstract machine, and that they do so; printed by a program of mine around proofs of mine. -/
import Derived.Test.YtbnplefohfamnaaFFnLimits1
set_option linter.unusedVariables false
set_option linter.unusedSimpArgs false
set_option linter.defProp false
set_option maxRecDepth 100000
namespace Go.Proofs.Ytbnplefohfamnaa.Ai
open Go
attribute [local irreducible] bodyK bodyL

def p_impl_RiskOf_l1 (l_list : List Nat) (noise : Nat) (limit : Nat) : Nat → Nat → Nat → Int → Nat × Bool
  | 0, _, _, _ => (0, false)
  | μ + 1, few, sum, t28 => (bif decide ((t28 : Int) < (l_list.length : Int)) then (bif !(flt .f32 limit ((p_impl_size (((l_list).getD (t28 : Int).toNat 0))))) then (p_impl_RiskOf_l1 l_list noise limit μ (fadd .f32 few 1065353216) (fadd .f32 sum (fmin .f32 (fmul .f32 (((l_list).getD (t28 : Int).toNat 0)) (((l_list).getD (t28 : Int).toNat 0))) (fmul .f32 limit limit))) (t28 + 1)) else (p_impl_RiskOf_l1 l_list noise limit μ few (fadd .f32 sum (fmin .f32 (fmul .f32 (((l_list).getD (t28 : Int).toNat 0)) (((l_list).getD (t28 : Int).toNat 0))) (fmul .f32 limit limit))) (t28 + 1))) else ((p_impl_finite (fadd .f32 (fmul .f32 (fmul .f32 noise noise) (fsub .f32 (FloatKind.nearest .f32 (l_list.length : Int)) (fmul .f32 1073741824 few))) sum)).1, (p_impl_finite (fadd .f32 (fmul .f32 (fmul .f32 noise noise) (fsub .f32 (FloatKind.nearest .f32 (l_list.length : Int)) (fmul .f32 1073741824 few))) sum)).2))
def p_impl_RiskOf_l1_s := fun l_list noise limit μ few sum t28 => @p_impl_RiskOf_l1.eq_2 l_list noise limit few sum t28 μ
def p_impl_RiskOf (l_list : List Nat) (noise : Nat) (limit : Nat) : Nat × Bool := (bif !(p_impl_isLong l_list) then (0, false) else (bif !(p_impl_isOver noise) then (0, false) else (bif !(p_impl_isLeast limit) then (0, false) else (p_impl_RiskOf_l1 l_list noise limit (Int.toNat ((l_list.length : Int) - (0 : Int)) + 1) 0 0 (0 : Int)))))
def p_impl_RiskOf_eq := @p_impl_RiskOf.eq_1
def T_impl_RiskOf (list_a : Option Addr) (list_n : Nat) (list_e : Nat) (noise : Nat) (limit : Nat) (H : AHeap) (K : Nat → Bool → AHeap → Prop) : Prop := ∃ (l_list : List Nat), IsL fF H list_a list_n l_list ∧ l_list.length < 1073741824 ∧ ((∀ H' : AHeap, Grow H H' → K ((p_impl_RiskOf l_list noise limit).1) ((p_impl_RiskOf l_list noise limit).2) H'))
theorem T_impl_RiskOf_i {list_a : Option Addr} {list_n : Nat} {list_e : Nat} {noise : Nat} {limit : Nat} {H : AHeap} {K : Nat → Bool → AHeap → Prop} (h : ∃ (l_list : List Nat), IsL fF H list_a list_n l_list ∧ l_list.length < 1073741824 ∧ ((∀ H' : AHeap, Grow H H' → K ((p_impl_RiskOf l_list noise limit).1) ((p_impl_RiskOf l_list noise limit).2) H'))) : T_impl_RiskOf list_a list_n list_e noise limit H K := h

/-! impl_RiskOf: function 68 -/
def E_impl_RiskOf : Env := envOf [(105, S_impl_isLong), (134, S_impl_isOver), (106, S_impl_isLeast), (150, S_impl_size), (117, S_impl_finite)]
def F_impl_RiskOf : List Value → AHeap → (Value → AHeap → Prop) → Prop
  | [.slice list_a list_n list_e, .float .f32 noise, .float .f32 limit], H, K => T_impl_RiskOf list_a list_n list_e noise limit H fun (r1 : Nat) (r2 : Bool) (H' : AHeap) => K (.tuple #[.float .f32 r1, .bool r2]) H'
  | _, _, _ => False
def S_impl_RiskOf : FSpec := { F := F_impl_RiskOf, quiet := false, tame := true }
theorem impl_RiskOf_vc (list_a : Option Addr) (list_n : Nat) (list_e : Nat) (noise : Nat) (limit : Nat) (H : AHeap) (K : Value → AHeap → Prop) : bodyL Try.prog E_impl_RiskOf Try.f68 [.slice list_a list_n list_e, .float .f32 noise, .float .f32 limit] H K =
  (T_impl_isLong list_a list_n list_e H fun (r1 : Bool) (H1 : AHeap) => Br (!r1) (K (.tuple #[.float .f32 0, .bool false]) H1) (T_impl_isOver noise H1 fun (r2 : Bool) (H2 : AHeap) => Br (!r2) (K (.tuple #[.float .f32 0, .bool false]) H2) (T_impl_isLeast limit H2 fun (r3 : Bool) (H3 : AHeap) => Br (!r3) (K (.tuple #[.float .f32 0, .bool false]) H3) (loopK (exL Try.prog E_impl_RiskOf (cl (cl (cr (cl (cr (cr (cr (bodyC Try.f68)))))))) 469762823 192 [(0, 771)]) [.slice list_a list_n list_e, .float .f32 noise, .float .f32 limit, ud, ud, ud, ud, ud, .float .f32 0, .float .f32 0, ud, ud, ud, ud, ud, ud, ud, ud, ud, ud, ud, ud, ud, ud, ud, ud, .slice list_a list_n list_e, .int .i64 (list_n : Int), .int .i64 0, ud, ud, ud, ud, ud, ud, ud, ud, ud, ud, ud, ud, ud, ud, ud, ud, ud, ud, ud, ud, ud, ud, ud, ud, ud, ud, ud, ud, ud, ud, ud, ud, ud, ud, ud, ud] H3 (blockQ 0 (seqQ (exL Try.prog E_impl_RiskOf (cr (cr (cr (cr (bodyC Try.f68))))) 192 192 []) (retK Try.prog Try.f68 K))))))) := by kernel_rfl
abbrev impl_RiskOf_P1 (limit : Nat) (list_a : Option Addr) (list_e : Nat) (list_n : Nat) (noise : Nat) (few : Nat) (sum : Nat) (t28 : Int)  : List Value := [.slice list_a list_n list_e, .float .f32 noise, .float .f32 limit, ud, ud, ud, ud, ud, .float .f32 few, .float .f32 sum, ud, ud, ud, ud, ud, ud, ud, ud, ud, ud, ud, ud, ud, ud, ud, ud, .slice list_a list_n list_e, .int .i64 (list_n : Int), .int .i64 t28, ud, ud, ud, ud, ud, ud, ud, ud, ud, ud, ud, ud, ud, ud, ud, ud, ud, ud, ud, ud, ud, ud, ud, ud, ud, ud, ud, ud, ud, ud, ud, ud, ud, ud, ud, ud]
theorem impl_RiskOf_r1 (limit : Nat) (list_a : Option Addr) (list_e : Nat) (list_n : Nat) (noise : Nat) (few : Nat) (sum : Nat) (t28 : Int)  (H : AHeap) (R : Post) : exL Try.prog E_impl_RiskOf (cl (cl (cr (cl (cr (cr (cr (bodyC Try.f68)))))))) 469762823 192 [(0, 771)] (impl_RiskOf_P1 limit list_a list_e list_n noise few sum t28) H R =
  (Br (decide ((t28 : Int) < (list_n : Int))) ((0 : Int) ≤ t28 ∧ t28 < (list_n : Int) ∧ ∃ b1 f1, (list_a : Option Addr) = some ⟨b1, f1, none⟩ ∧ ∃ x1 : Nat,  rdC H b1 (f1 + (t28 : Int).toNat * 1) = some (.float .f32 x1) ∧ T_impl_size x1 H fun (r4 : Nat) (H4 : AHeap) => Br (!(flt .f32 limit r4)) (R .normal [.slice list_a list_n list_e, .float .f32 noise, .float .f32 limit, ud, ud, ud, ud, ud, .float .f32 (fadd .f32 few 1065353216), .float .f32 (fadd .f32 sum (fmin .f32 (fmul .f32 x1 x1) (fmul .f32 limit limit))), ud, ud, ud, ud, ud, ud, ud, ud, ud, ud, ud, ud, ud, ud, ud, ud, .slice list_a list_n list_e, .int .i64 (list_n : Int), .int .i64 (IntKind.wrap .i64 (t28 + 1)), ud, ud, ud, ud, ud, ud, ud, ud, ud, ud, ud, ud, ud, ud, ud, ud, ud, ud, ud, ud, ud, ud, ud, ud, ud, ud, ud, ud, ud, ud, ud, ud, ud, ud, ud, ud] H4) (R .normal [.slice list_a list_n list_e, .float .f32 noise, .float .f32 limit, ud, ud, ud, ud, ud, .float .f32 few, .float .f32 (fadd .f32 sum (fmin .f32 (fmul .f32 x1 x1) (fmul .f32 limit limit))), ud, ud, ud, ud, ud, ud, ud, ud, ud, ud, ud, ud, ud, ud, ud, ud, .slice list_a list_n list_e, .int .i64 (list_n : Int), .int .i64 (IntKind.wrap .i64 (t28 + 1)), ud, ud, ud, ud, ud, ud, ud, ud, ud, ud, ud, ud, ud, ud, ud, ud, ud, ud, ud, ud, ud, ud, ud, ud, ud, ud, ud, ud, ud, ud, ud, ud, ud, ud, ud, ud] H4)) (R (.exit 0) [.slice list_a list_n list_e, .float .f32 noise, ud, ud, ud, ud, ud, ud, .float .f32 few, .float .f32 sum, ud, ud, ud, ud, ud, ud, ud, ud, ud, ud, ud, ud, ud, ud, ud, ud, ud, ud, ud, ud, ud, ud, ud, ud, ud, ud, ud, ud, ud, ud, ud, ud, ud, ud, ud, ud, ud, ud, ud, ud, ud, ud, ud, ud, ud, ud, ud, ud, ud, ud, ud, ud, ud, ud, ud] H)) := by kernel_rfl
def impl_RiskOf_I1 (limit : Nat) (list_a : Option Addr) (list_e : Nat) (list_n : Nat) (noise : Nat) (Inv : Nat → Nat → Nat → Int → AHeap → Prop) : Nat → List Value → AHeap → Prop := fun μ tm H => ∃ (few : Nat), ∃ (sum : Nat), ∃ (t28 : Int), tm = (impl_RiskOf_P1 limit list_a list_e list_n noise few sum t28) ∧ Inv μ few sum t28 H
theorem impl_RiskOf_L1 (limit : Nat) (list_a : Option Addr) (list_e : Nat) (list_n : Nat) (noise : Nat) {Q : Post} (Inv : Nat → Nat → Nat → Int → AHeap → Prop) (ν : Nat) (few : Nat) (sum : Nat) (t28 : Int)  (H : AHeap) (h0 : Inv ν few sum t28 H)
    (hs : ∀ (μ : Nat) (few : Nat) (sum : Nat) (t28 : Int)  (H : AHeap), Inv μ few sum t28 H → exL Try.prog E_impl_RiskOf (cl (cl (cr (cl (cr (cr (cr (bodyC Try.f68)))))))) 469762823 192 [(0, 771)] (impl_RiskOf_P1 limit list_a list_e list_n noise few sum t28) H (loopQ (impl_RiskOf_I1 limit list_a list_e list_n noise Inv) μ Q)) : loopK (exL Try.prog E_impl_RiskOf (cl (cl (cr (cl (cr (cr (cr (bodyC Try.f68)))))))) 469762823 192 [(0, 771)]) (impl_RiskOf_P1 limit list_a list_e list_n noise few sum t28) H Q :=
  ⟨impl_RiskOf_I1 limit list_a list_e list_n noise Inv, ν, ⟨few, sum, t28, rfl, h0⟩, fun μ tm H h => by obtain ⟨few, sum, t28, rfl, hI⟩ := h; exact hs μ few sum t28  H hI⟩
theorem impl_RiskOf_n1 {limit : Nat} {list_a : Option Addr} {list_e : Nat} {list_n : Nat} {noise : Nat} {Q : Post} {Inv : Nat → Nat → Nat → Int → AHeap → Prop} {μ : Nat} (μ' : Nat) {few : Nat} {sum : Nat} {t28 : Int}  {H : AHeap} (hm : μ' < μ) (hI : Inv μ' few sum t28 H) : loopQ (impl_RiskOf_I1 limit list_a list_e list_n noise Inv) μ Q .normal (impl_RiskOf_P1 limit list_a list_e list_n noise few sum t28) H := ⟨μ', hm, few, sum, t28, rfl, hI⟩
theorem impl_RiskOf_x1_0 (list_a : Option Addr) (list_e : Nat) (list_n : Nat) (noise : Nat) (few : Nat) (sum : Nat) (H : AHeap) (K : Value → AHeap → Prop)  {I : Nat → List Value → AHeap → Prop} {μ : Nat} : loopQ I μ (blockQ 0 (seqQ (exL Try.prog E_impl_RiskOf (cr (cr (cr (cr (bodyC Try.f68))))) 192 192 []) (retK Try.prog Try.f68 K))) (.exit 0) [.slice list_a list_n list_e, .float .f32 noise, ud, ud, ud, ud, ud, ud, .float .f32 few, .float .f32 sum, ud, ud, ud, ud, ud, ud, ud, ud, ud, ud, ud, ud, ud, ud, ud, ud, ud, ud, ud, ud, ud, ud, ud, ud, ud, ud, ud, ud, ud, ud, ud, ud, ud, ud, ud, ud, ud, ud, ud, ud, ud, ud, ud, ud, ud, ud, ud, ud, ud, ud, ud, ud, ud, ud, ud] H =
  (T_impl_finite (fadd .f32 (fmul .f32 (fmul .f32 noise noise) (fsub .f32 (FloatKind.nearest .f32 (list_n : Int)) (fmul .f32 1073741824 few))) sum) H fun (r5 : Nat) (r6 : Bool) (H5 : AHeap) => K (.tuple #[.float .f32 r5, .bool r6]) H5) := by kernel_rfl
theorem E_impl_RiskOf_ok : ∀ g, FnOk Try.prog g (E_impl_RiskOf g) := FnOk.envOf (by
  intro x hx
  simp only [List.mem_cons, List.not_mem_nil, or_false] at hx
  rcases hx with rfl | rfl | rfl | rfl | rfl
  · exact impl_isLong_ok
  · exact impl_isOver_ok
  · exact impl_isLeast_ok
  · exact impl_size_ok
  · exact impl_finite_ok)
set_option maxHeartbeats 1000000 in
theorem impl_RiskOf_main (list_a : Option Addr) (list_n : Nat) (list_e : Nat) (noise : Nat) (limit : Nat) (H : AHeap) (K : Value → AHeap → Prop) (h : T_impl_RiskOf list_a list_n list_e noise limit H fun (r1 : Nat) (r2 : Bool) (H' : AHeap) => K (.tuple #[.float .f32 r1, .bool r2]) H') : bodyL Try.prog E_impl_RiskOf Try.f68 [.slice list_a list_n list_e, .float .f32 noise, .float .f32 limit] H K := by
  rw [impl_RiskOf_vc]
  obtain ⟨l_list, i_list, bd_16, hk⟩ := h
  obtain rfl := i_list.eqn
  have e : (p_impl_RiskOf l_list noise limit) = _ := rfl
  have e := e.trans (p_impl_RiskOf_eq l_list noise limit)
  have g0 := Grow.refl H
  refine T_impl_isLong_i ⟨_, (i_list.grow g0), ω0, fun  H_1 g_1  => ?_⟩
  have l_2 := g_1.1
  have g_3 := g0.trans g_1
  have l_4 := g_3.1
  refine Br.intro (fun c_5 => ?_) (fun c_5 => ?_)
  · have e := e.trans (cond_t c_5)
    have c_5n := nf_of_t c_5
    rw [e] at hk
    exact hk  H_1 g_3 
  · have e := e.trans (cond_f c_5)
    have c_5n := nt_of_f c_5
    have c_5n' := impl_isLong_t c_5n
    refine T_impl_isOver_i ?_
    refine Br.intro (fun c_6 => ?_) (fun c_6 => ?_)
    · have e := e.trans (cond_t c_6)
      have c_6n := nf_of_t c_6
      rw [e] at hk
      exact hk  H_1 g_3 
    · have e := e.trans (cond_f c_6)
      have c_6n := nt_of_f c_6
      refine T_impl_isLeast_i ?_
      refine Br.intro (fun c_7 => ?_) (fun c_7 => ?_)
      · have e := e.trans (cond_t c_7)
        have c_7n := nf_of_t c_7
        rw [e] at hk
        exact hk  H_1 g_3 
      · have e := e.trans (cond_f c_7)
        have c_7n := nt_of_f c_7
        refine impl_RiskOf_L1 _ _ _ _ _ (fun (μ : Nat) (few : Nat) (sum : Nat) (t28 : Int) (H_2 : AHeap) => H_1 = H_2 ∧ (0 : Int) ≤ t28 ∧ t28 ≤ (l_list.length : Int) ∧ (l_list.length : Int) - t28 ≤ (μ : Int) ∧ p_impl_RiskOf l_list noise limit = p_impl_RiskOf_l1 l_list noise limit (μ + 1) few sum t28) (Int.toNat ((l_list.length : Int) - (0 : Int))) _ _ _ H_1 ?_ ?_
        · exact ⟨rfl, ω5, ω5, ω3, e⟩
        · intro μ few sum t28  H_2 hI
          obtain ⟨rfl, v_8, v_9, hμ, e⟩ := hI
          rw [impl_RiskOf_r1]
          have e := e.trans (p_impl_RiskOf_l1_s l_list noise limit μ few sum t28)
          have l_10 := g_3.1
          refine Br.intro (fun c_11 => ?_) (fun c_11 => ?_)
          · have e := e.trans (cond_t c_11)
            have c_11' := of_decide_eq_true c_11
            obtain ⟨b_12, f_13, q_14⟩ := ((i_list.grow g_3)).pos ω0
            refine ⟨by omega, by omega, b_12, f_13, q_14, ?_⟩
            refine ⟨((l_list).getD (t28 : Int).toNat 0), (i_list).rd g_3 q_14 ω3 _, ?_⟩
            refine T_impl_size_i ?_
            refine Br.intro (fun c_15 => ?_) (fun c_15 => ?_)
            · have e := e.trans (cond_t c_15)
              have c_15n := nf_of_t c_15
              rw [show IntKind.wrap .i64 (t28 + 1) = (t28 + 1) from wrap64 ω3 ω3]
              refine impl_RiskOf_n1 (μ - 1) ω8 ⟨rfl, ω1, ω1, ω8, (by rw [show μ - 1 + 1 = μ from by first | omega]; exact e)⟩
            · have e := e.trans (cond_f c_15)
              have c_15n := nt_of_f c_15
              rw [show IntKind.wrap .i64 (t28 + 1) = (t28 + 1) from wrap64 ω3 ω3]
              refine impl_RiskOf_n1 (μ - 1) ω8 ⟨rfl, ω1, ω1, ω8, (by rw [show μ - 1 + 1 = μ from by first | omega]; exact e)⟩
          · have e := e.trans (cond_f c_11)
            have c_11' := of_decide_eq_false c_11
            rw [impl_RiskOf_x1_0]
            refine T_impl_finite_i ?_
            rw [e] at hk
            exact hk  H_1 g_3 
theorem impl_RiskOf_ok : FnOk Try.prog 68 S_impl_RiskOf := by
  refine FnOk.body mix_ok E_impl_RiskOf_ok Try.func68 rfl (by kernel_rfl) (by kernel_rfl) ?_ ?_ ?_ ?_ ?_
  · intro args H K K' h hk
    simp only [S_impl_RiskOf] at *
    unfold F_impl_RiskOf at *
    split at hk
    · obtain ⟨l_list, i_list, bd_16, k⟩ := hk
      exact ⟨l_list, i_list, bd_16, (fun  H' gg  => h _ _ (k  H' gg ))⟩
    · exact hk.elim
  · intro hq; cases hq
  · intro args H K hk
    simp only [S_impl_RiskOf] at *
    unfold F_impl_RiskOf at *
    split at hk
    · obtain ⟨l_list, i_list, bd_16, k⟩ := hk
      exact ⟨_, _, k H (Grow.refl H)⟩
    · exact hk.elim
  · intro _ args H K hk
    simp only [S_impl_RiskOf] at *
    unfold F_impl_RiskOf at *
    split at hk
    · obtain ⟨l_list, i_list, bd_16, k⟩ := hk
      exact ⟨l_list, i_list, bd_16, (fun  H' gg  => ⟨gg, k  H' gg ⟩)⟩
    · exact hk.elim
  · have mm := @impl_RiskOf_main
    have ml := fun (args : List Value) (H : AHeap) (K : Value → AHeap → Prop) => bodyL_body (P := Try.prog) (env := E_impl_RiskOf ) (fn := Try.f68) (args := args) (H := H) (K := K) E_impl_RiskOf_ok 
    revert mm ml
    generalize bodyK Try.prog E_impl_RiskOf Try.f68 = Q
    generalize bodyL Try.prog E_impl_RiskOf Try.f68 = QL
    intro mm ml args H K hk
    simp only [S_impl_RiskOf] at *
    unfold F_impl_RiskOf at *
    split at hk
    · exact ml _ H K (mm _ _ _ _ _ H K hk)
    · exact hk.elim

def p_impl_BestLimit_l1 (l_list : List Nat) (noise : Nat) : Nat → Nat → Nat → Bool → Nat → Nat → Bool → Int → Nat × Nat × Bool
  | 0, _, _, _, _, _, _, _ => (0, 0, false)
  | μ + 1, t4, t5, t6, best, least, ok, t19 => (bif decide ((t19 : Int) < (1 + (((p_impl_sizes l_list)).length) : Int)) then (bif !((p_impl_RiskOf l_list noise (((([0] ++ (p_impl_sizes l_list))).getD (t19 : Int).toNat 0))).2) then (0, 0, false) else (bif !ok then (p_impl_BestLimit_l1 l_list noise μ t4 t5 t6 (((([0] ++ (p_impl_sizes l_list))).getD (t19 : Int).toNat 0)) ((p_impl_RiskOf l_list noise (((([0] ++ (p_impl_sizes l_list))).getD (t19 : Int).toNat 0))).1) true (t19 + 1)) else (bif flt .f32 ((p_impl_RiskOf l_list noise (((([0] ++ (p_impl_sizes l_list))).getD (t19 : Int).toNat 0))).1) least then (p_impl_BestLimit_l1 l_list noise μ t4 t5 t6 (((([0] ++ (p_impl_sizes l_list))).getD (t19 : Int).toNat 0)) ((p_impl_RiskOf l_list noise (((([0] ++ (p_impl_sizes l_list))).getD (t19 : Int).toNat 0))).1) true (t19 + 1)) else (p_impl_BestLimit_l1 l_list noise μ t4 t5 t6 best least ok (t19 + 1))))) else (best, least, ok))
def p_impl_BestLimit_l1_s := fun l_list noise μ t4 t5 t6 best least ok t19 => @p_impl_BestLimit_l1.eq_2 l_list noise t4 t5 t6 best least ok t19 μ
def p_impl_BestLimit (l_list : List Nat) (noise : Nat) : Nat × Nat × Bool := (p_impl_BestLimit_l1 l_list noise (Int.toNat ((1 + (((p_impl_sizes l_list)).length) : Int) - (0 : Int)) + 1) 0 0 false 0 0 false (0 : Int))
def p_impl_BestLimit_eq := @p_impl_BestLimit.eq_1
def T_impl_BestLimit (list_a : Option Addr) (list_n : Nat) (list_e : Nat) (noise : Nat) (H : AHeap) (K : Nat → Nat → Bool → AHeap → Prop) : Prop := ∃ (l_list : List Nat), IsL fF H list_a list_n l_list ∧ l_list.length < 1073741824 ∧ ((∀ H' : AHeap, Grow H H' → K ((p_impl_BestLimit l_list noise).1) ((p_impl_BestLimit l_list noise).2.1) ((p_impl_BestLimit l_list noise).2.2) H'))
theorem T_impl_BestLimit_i {list_a : Option Addr} {list_n : Nat} {list_e : Nat} {noise : Nat} {H : AHeap} {K : Nat → Nat → Bool → AHeap → Prop} (h : ∃ (l_list : List Nat), IsL fF H list_a list_n l_list ∧ l_list.length < 1073741824 ∧ ((∀ H' : AHeap, Grow H H' → K ((p_impl_BestLimit l_list noise).1) ((p_impl_BestLimit l_list noise).2.1) ((p_impl_BestLimit l_list noise).2.2) H'))) : T_impl_BestLimit list_a list_n list_e noise H K := h

/-! impl_BestLimit: function 67 -/
def E_impl_BestLimit : Env := envOf [(119, S_impl_sizes), (68, S_impl_RiskOf)]
def F_impl_BestLimit : List Value → AHeap → (Value → AHeap → Prop) → Prop
  | [.slice list_a list_n list_e, .float .f32 noise], H, K => T_impl_BestLimit list_a list_n list_e noise H fun (r1 : Nat) (r2 : Nat) (r3 : Bool) (H' : AHeap) => K (.tuple #[.float .f32 r1, .float .f32 r2, .bool r3]) H'
  | _, _, _ => False
def S_impl_BestLimit : FSpec := { F := F_impl_BestLimit, quiet := false, tame := true }
theorem impl_BestLimit_vc (list_a : Option Addr) (list_n : Nat) (list_e : Nat) (noise : Nat) (H : AHeap) (K : Value → AHeap → Prop) : bodyL Try.prog E_impl_BestLimit Try.f67 [.slice list_a list_n list_e, .float .f32 noise] H K =
  (Al [.float .f32 0] H fun b1 H1 => T_impl_sizes list_a list_n list_e H1 fun (a1 : Option Addr) (r1 : Nat) (r2 : Nat) (H2 : AHeap) => ∃ o1 w1 : List Value, ownB H2 (some ⟨b1, 0, none⟩) 1 1 1 = some o1 ∧ rdS H2 a1 (r1 * 1) = some w1 ∧ ((some ⟨b1, 0, none⟩ : Option Addr) = none → 0 < (r1 : Nat)) ∧ (1 : Nat) + r1 < most ∧ Ap H2 (killB H2 (some ⟨b1, 0, none⟩) ++ [some ⟨o1 ++ w1, true⟩]) fun b2 H3 => loopK (exL Try.prog E_impl_BestLimit (cl (cl (cr (cl (cr (cr (bodyC Try.f67))))))) 918403 112 [(0, 896)]) [.slice list_a list_n list_e, .float .f32 noise, ud, ud, ud, ud, ud, .float .f32 0, .float .f32 0, .bool false, ud, ud, ud, ud, ud, ud, ud, .slice (some ⟨b2, 0, none⟩) (1 + r1) 1, .int .i64 (1 + r1 : Int), .int .i64 0, ud, ud, ud, ud, ud, ud, ud, ud, ud, ud, ud, ud, ud, ud, ud, ud, ud, ud, ud, ud, ud, ud, ud, ud, ud] H3 (blockQ 0 (seqQ (exL Try.prog E_impl_BestLimit (cr (cr (cr (bodyC Try.f67)))) 112 112 []) (retK Try.prog Try.f67 K)))) := by kernel_rfl
abbrev impl_BestLimit_P1 (b2 : Nat) (list_a : Option Addr) (list_e : Nat) (list_n : Nat) (noise : Nat) (r1 : Nat) (best : Nat) (least : Nat) (ok : Bool) (t19 : Int)  : List Value := [.slice list_a list_n list_e, .float .f32 noise, ud, ud, ud, ud, ud, .float .f32 best, .float .f32 least, .bool ok, ud, ud, ud, ud, ud, ud, ud, .slice (some ⟨b2, 0, none⟩) (1 + r1) 1, .int .i64 (1 + r1 : Int), .int .i64 t19, ud, ud, ud, ud, ud, ud, ud, ud, ud, ud, ud, ud, ud, ud, ud, ud, ud, ud, ud, ud, ud, ud, ud, ud, ud]
theorem impl_BestLimit_r1 (b2 : Nat) (list_a : Option Addr) (list_e : Nat) (list_n : Nat) (noise : Nat) (r1 : Nat) (best : Nat) (least : Nat) (ok : Bool) (t19 : Int)  (H : AHeap) (R : Post) : exL Try.prog E_impl_BestLimit (cl (cl (cr (cl (cr (cr (bodyC Try.f67))))))) 918403 112 [(0, 896)] (impl_BestLimit_P1 b2 list_a list_e list_n noise r1 best least ok t19) H R =
  (Br (decide ((t19 : Int) < (1 + r1 : Int))) ((0 : Int) ≤ t19 ∧ t19 < (1 + r1 : Int) ∧ ∃ b3 f1, (some ⟨b2, 0, none⟩ : Option Addr) = some ⟨b3, f1, none⟩ ∧ ∃ x1 : Nat,  rdC H b3 (f1 + (t19 : Int).toNat * 1) = some (.float .f32 x1) ∧ T_impl_RiskOf list_a list_n list_e noise x1 H fun (r3 : Nat) (r4 : Bool) (H4 : AHeap) => Br (!r4) (R .ret [ud, ud, ud, ud, .float .f32 0, .float .f32 0, .bool false, ud, ud, ud, ud, ud, ud, ud, ud, ud, ud, ud, ud, ud, ud, ud, ud, ud, ud, ud, ud, ud, ud, ud, ud, ud, ud, ud, ud, ud, ud, ud, ud, ud, ud, ud, ud, ud, ud] H4) (Br (!ok) (R .normal [.slice list_a list_n list_e, .float .f32 noise, ud, ud, ud, ud, ud, .float .f32 x1, .float .f32 r3, .bool true, ud, ud, ud, ud, ud, ud, ud, .slice (some ⟨b2, 0, none⟩) (1 + r1) 1, .int .i64 (1 + r1 : Int), .int .i64 (IntKind.wrap .i64 (t19 + 1)), ud, ud, ud, ud, ud, ud, ud, ud, ud, ud, ud, ud, ud, ud, ud, ud, ud, ud, ud, ud, ud, ud, ud, ud, ud] H4) (Br (flt .f32 r3 least) (R .normal [.slice list_a list_n list_e, .float .f32 noise, ud, ud, ud, ud, ud, .float .f32 x1, .float .f32 r3, .bool true, ud, ud, ud, ud, ud, ud, ud, .slice (some ⟨b2, 0, none⟩) (1 + r1) 1, .int .i64 (1 + r1 : Int), .int .i64 (IntKind.wrap .i64 (t19 + 1)), ud, ud, ud, ud, ud, ud, ud, ud, ud, ud, ud, ud, ud, ud, ud, ud, ud, ud, ud, ud, ud, ud, ud, ud, ud] H4) (R .normal [.slice list_a list_n list_e, .float .f32 noise, ud, ud, ud, ud, ud, .float .f32 best, .float .f32 least, .bool ok, ud, ud, ud, ud, ud, ud, ud, .slice (some ⟨b2, 0, none⟩) (1 + r1) 1, .int .i64 (1 + r1 : Int), .int .i64 (IntKind.wrap .i64 (t19 + 1)), ud, ud, ud, ud, ud, ud, ud, ud, ud, ud, ud, ud, ud, ud, ud, ud, ud, ud, ud, ud, ud, ud, ud, ud, ud] H4)))) (R (.exit 0) [ud, ud, ud, ud, ud, ud, ud, .float .f32 best, .float .f32 least, .bool ok, ud, ud, ud, ud, ud, ud, ud, ud, ud, ud, ud, ud, ud, ud, ud, ud, ud, ud, ud, ud, ud, ud, ud, ud, ud, ud, ud, ud, ud, ud, ud, ud, ud, ud, ud] H)) := by kernel_rfl
def impl_BestLimit_I1 (b2 : Nat) (list_a : Option Addr) (list_e : Nat) (list_n : Nat) (noise : Nat) (r1 : Nat) (Inv : Nat → Nat → Nat → Bool → Int → AHeap → Prop) : Nat → List Value → AHeap → Prop := fun μ tm H => ∃ (best : Nat), ∃ (least : Nat), ∃ (ok : Bool), ∃ (t19 : Int), tm = (impl_BestLimit_P1 b2 list_a list_e list_n noise r1 best least ok t19) ∧ Inv μ best least ok t19 H
theorem impl_BestLimit_L1 (b2 : Nat) (list_a : Option Addr) (list_e : Nat) (list_n : Nat) (noise : Nat) (r1 : Nat) {Q : Post} (Inv : Nat → Nat → Nat → Bool → Int → AHeap → Prop) (ν : Nat) (best : Nat) (least : Nat) (ok : Bool) (t19 : Int)  (H : AHeap) (h0 : Inv ν best least ok t19 H)
    (hs : ∀ (μ : Nat) (best : Nat) (least : Nat) (ok : Bool) (t19 : Int)  (H : AHeap), Inv μ best least ok t19 H → exL Try.prog E_impl_BestLimit (cl (cl (cr (cl (cr (cr (bodyC Try.f67))))))) 918403 112 [(0, 896)] (impl_BestLimit_P1 b2 list_a list_e list_n noise r1 best least ok t19) H (loopQ (impl_BestLimit_I1 b2 list_a list_e list_n noise r1 Inv) μ Q)) : loopK (exL Try.prog E_impl_BestLimit (cl (cl (cr (cl (cr (cr (bodyC Try.f67))))))) 918403 112 [(0, 896)]) (impl_BestLimit_P1 b2 list_a list_e list_n noise r1 best least ok t19) H Q :=
  ⟨impl_BestLimit_I1 b2 list_a list_e list_n noise r1 Inv, ν, ⟨best, least, ok, t19, rfl, h0⟩, fun μ tm H h => by obtain ⟨best, least, ok, t19, rfl, hI⟩ := h; exact hs μ best least ok t19  H hI⟩
theorem impl_BestLimit_n1 {b2 : Nat} {list_a : Option Addr} {list_e : Nat} {list_n : Nat} {noise : Nat} {r1 : Nat} {Q : Post} {Inv : Nat → Nat → Nat → Bool → Int → AHeap → Prop} {μ : Nat} (μ' : Nat) {best : Nat} {least : Nat} {ok : Bool} {t19 : Int}  {H : AHeap} (hm : μ' < μ) (hI : Inv μ' best least ok t19 H) : loopQ (impl_BestLimit_I1 b2 list_a list_e list_n noise r1 Inv) μ Q .normal (impl_BestLimit_P1 b2 list_a list_e list_n noise r1 best least ok t19) H := ⟨μ', hm, best, least, ok, t19, rfl, hI⟩
theorem impl_BestLimit_x1_0 (best : Nat) (least : Nat) (ok : Bool) (H : AHeap) (K : Value → AHeap → Prop)  {I : Nat → List Value → AHeap → Prop} {μ : Nat} : loopQ I μ (blockQ 0 (seqQ (exL Try.prog E_impl_BestLimit (cr (cr (cr (bodyC Try.f67)))) 112 112 []) (retK Try.prog Try.f67 K))) (.exit 0) [ud, ud, ud, ud, ud, ud, ud, .float .f32 best, .float .f32 least, .bool ok, ud, ud, ud, ud, ud, ud, ud, ud, ud, ud, ud, ud, ud, ud, ud, ud, ud, ud, ud, ud, ud, ud, ud, ud, ud, ud, ud, ud, ud, ud, ud, ud, ud, ud, ud] H =
  (K (.tuple #[.float .f32 best, .float .f32 least, .bool ok]) H) := by kernel_rfl
theorem impl_BestLimit_x1_ret (t4 : Nat) (t5 : Nat) (t6 : Bool) (H : AHeap) (K : Value → AHeap → Prop)  {I : Nat → List Value → AHeap → Prop} {μ : Nat} : loopQ I μ (blockQ 0 (seqQ (exL Try.prog E_impl_BestLimit (cr (cr (cr (bodyC Try.f67)))) 112 112 []) (retK Try.prog Try.f67 K))) .ret [ud, ud, ud, ud, .float .f32 t4, .float .f32 t5, .bool t6, ud, ud, ud, ud, ud, ud, ud, ud, ud, ud, ud, ud, ud, ud, ud, ud, ud, ud, ud, ud, ud, ud, ud, ud, ud, ud, ud, ud, ud, ud, ud, ud, ud, ud, ud, ud, ud, ud] H =
  (K (.tuple #[.float .f32 t4, .float .f32 t5, .bool t6]) H) := by kernel_rfl
theorem E_impl_BestLimit_ok : ∀ g, FnOk Try.prog g (E_impl_BestLimit g) := FnOk.envOf (by
  intro x hx
  simp only [List.mem_cons, List.not_mem_nil, or_false] at hx
  rcases hx with rfl | rfl
  · exact impl_sizes_ok
  · exact impl_RiskOf_ok)
set_option maxHeartbeats 1000000 in
theorem impl_BestLimit_main (list_a : Option Addr) (list_n : Nat) (list_e : Nat) (noise : Nat) (H : AHeap) (K : Value → AHeap → Prop) (h : T_impl_BestLimit list_a list_n list_e noise H fun (r1 : Nat) (r2 : Nat) (r3 : Bool) (H' : AHeap) => K (.tuple #[.float .f32 r1, .float .f32 r2, .bool r3]) H') : bodyL Try.prog E_impl_BestLimit Try.f67 [.slice list_a list_n list_e, .float .f32 noise] H K := by
  rw [impl_BestLimit_vc]
  obtain ⟨l_list, i_list, bd_55, hk⟩ := h
  obtain rfl := i_list.eqn
  have e : (p_impl_BestLimit l_list noise) = _ := rfl
  have e := e.trans (p_impl_BestLimit_eq l_list noise)
  have g0 := Grow.refl H
  refine Al.intro (fun b_1 H_1 hb_2 hl_3 g_4 o_5 => ?_)
  have o_5 : Own H_1 b_1 (([0]).map fF) := o_5
  have l_7 := g_4.1
  have g_8 := g0.trans g_4
  have l_9 := g_8.1
  have w_54 := o_5.lt
  refine T_impl_sizes_i ⟨_, (i_list.grow g_8), ω0, fun a_10 n_11 e_12 H_2 g_15 r_13 => ?_⟩
  have z_14 := impl_sizes_len l_list
  have l_16 := g_15.1
  have g_17 := g_8.trans g_15
  have l_18 := g_17.1
  have o_19 := o_5.grow g_15
  have w_20 := o_19.lt
  obtain rfl := r_13.isL.eqn
  have u_21 := r_13.up
  have u_22 := r_13.lo
  refine ⟨_, _, o_19.ownB ω7 rfl, (isl_rdS r_13.isL), (fun h => by cases h), ω22, ?_⟩
  refine Ap.app o_19 rfl rfl (fun b_28 H_3 q_52 hl_24 o_25 k_26 => ?_)
  have o_25 := map_snoc o_25
  have l_29 := k_26.1
  have g_30 := g_17.keep (b := b_1) ω3 k_26
  have l_31 := g_30.1
  have r_32 := r_13.keep u_21 ω3 k_26
  have w_53 := o_25.lt
  refine impl_BestLimit_L1 _ _ _ _ _ _ (fun (μ : Nat) (best : Nat) (least : Nat) (ok : Bool) (t19 : Int) (H_4 : AHeap) => ∃ (t4 : Nat), ∃ (t5 : Nat), ∃ (t6 : Bool), Own H_4 b_28 ((([0] ++ (p_impl_sizes l_list))).map fF) ∧ OwnS fF H_4 H_1.length a_10 (((p_impl_sizes l_list)).length) e_12 (p_impl_sizes l_list) ∧ H_2.length ≤ H_4.length ∧ Grow H H_4 ∧ (0 : Int) ≤ t19 ∧ t19 ≤ (1 + (((p_impl_sizes l_list)).length) : Int) ∧ (1 + (((p_impl_sizes l_list)).length) : Int) - t19 ≤ (μ : Int) ∧ p_impl_BestLimit l_list noise = p_impl_BestLimit_l1 l_list noise (μ + 1) t4 t5 t6 best least ok t19) (Int.toNat ((1 + (((p_impl_sizes l_list)).length) : Int) - (0 : Int))) _ _ _ _ H_3 ?_ ?_
  · exact ⟨_, _, _, o_25, r_32, ω3, g_30, ω5, ω5, ω3, e⟩
  · intro μ best least ok t19  H_4 hI
    obtain ⟨t4, t5, t6, o_33, r_34, n_35, g_36, v_37, v_38, hμ, e⟩ := hI
    rw [impl_BestLimit_r1]
    have e := e.trans (p_impl_BestLimit_l1_s l_list noise μ t4 t5 t6 best least ok t19)
    have w_39 := o_33.lt
    have l_40 := g_36.1
    refine Br.intro (fun c_41 => ?_) (fun c_41 => ?_)
    · have e := e.trans (cond_t c_41)
      have c_41' := of_decide_eq_true c_41
      refine ⟨by omega, ω3, _, _, rfl, ?_⟩
      refine ⟨((([0] ++ (p_impl_sizes l_list))).getD (t19 : Int).toNat 0), o_33.rd ω0 _, ?_⟩
      refine T_impl_RiskOf_i ⟨_, (i_list.grow g_36), ω0, fun  H_5 g_42  => ?_⟩
      have l_43 := g_42.1
      have g_44 := g_36.trans g_42
      have l_45 := g_44.1
      have o_46 := o_33.grow g_42
      have w_47 := o_46.lt
      have r_48 := r_34.grow g_42
      refine Br.intro (fun c_49 => ?_) (fun c_49 => ?_)
      · have e := e.trans (cond_t c_49)
        have c_49n := nf_of_t c_49
        rw [impl_BestLimit_x1_ret]
        rw [e] at hk
        exact hk  H_5 g_44 
      · have e := e.trans (cond_f c_49)
        have c_49n := nt_of_f c_49
        refine Br.intro (fun c_50 => ?_) (fun c_50 => ?_)
        · have e := e.trans (cond_t c_50)
          have c_50n := nf_of_t c_50
          rw [show IntKind.wrap .i64 (t19 + 1) = (t19 + 1) from wrap64 ω3 ω3]
          refine impl_BestLimit_n1 (μ - 1) ω8 ⟨_, _, _, o_46, r_48, ω3, g_44, ω1, ω1, ω8, (by rw [show μ - 1 + 1 = μ from by first | omega]; exact e)⟩
        · have e := e.trans (cond_f c_50)
          have c_50n := nt_of_f c_50
          refine Br.intro (fun c_51 => ?_) (fun c_51 => ?_)
          · have e := e.trans (cond_t c_51)
            rw [show IntKind.wrap .i64 (t19 + 1) = (t19 + 1) from wrap64 ω3 ω3]
            refine impl_BestLimit_n1 (μ - 1) ω8 ⟨_, _, _, o_46, r_48, ω3, g_44, ω1, ω1, ω8, (by rw [show μ - 1 + 1 = μ from by first | omega]; exact e)⟩
          · have e := e.trans (cond_f c_51)
            rw [show IntKind.wrap .i64 (t19 + 1) = (t19 + 1) from wrap64 ω3 ω3]
            refine impl_BestLimit_n1 (μ - 1) ω8 ⟨_, _, _, o_46, r_48, ω3, g_44, ω1, ω1, ω8, (by rw [show μ - 1 + 1 = μ from by first | omega]; exact e)⟩
    · have e := e.trans (cond_f c_41)
      have c_41' := of_decide_eq_false c_41
      rw [impl_BestLimit_x1_0]
      rw [e] at hk
      exact hk  H_4 g_36 
theorem impl_BestLimit_ok : FnOk Try.prog 67 S_impl_BestLimit := by
  refine FnOk.body mix_ok E_impl_BestLimit_ok Try.func67 rfl (by kernel_rfl) (by kernel_rfl) ?_ ?_ ?_ ?_ ?_
  · intro args H K K' h hk
    simp only [S_impl_BestLimit] at *
    unfold F_impl_BestLimit at *
    split at hk
    · obtain ⟨l_list, i_list, bd_55, k⟩ := hk
      exact ⟨l_list, i_list, bd_55, (fun  H' gg  => h _ _ (k  H' gg ))⟩
    · exact hk.elim
  · intro hq; cases hq
  · intro args H K hk
    simp only [S_impl_BestLimit] at *
    unfold F_impl_BestLimit at *
    split at hk
    · obtain ⟨l_list, i_list, bd_55, k⟩ := hk
      exact ⟨_, _, k H (Grow.refl H)⟩
    · exact hk.elim
  · intro _ args H K hk
    simp only [S_impl_BestLimit] at *
    unfold F_impl_BestLimit at *
    split at hk
    · obtain ⟨l_list, i_list, bd_55, k⟩ := hk
      exact ⟨l_list, i_list, bd_55, (fun  H' gg  => ⟨gg, k  H' gg ⟩)⟩
    · exact hk.elim
  · have mm := @impl_BestLimit_main
    have ml := fun (args : List Value) (H : AHeap) (K : Value → AHeap → Prop) => bodyL_body (P := Try.prog) (env := E_impl_BestLimit ) (fn := Try.f67) (args := args) (H := H) (K := K) E_impl_BestLimit_ok 
    revert mm ml
    generalize bodyK Try.prog E_impl_BestLimit Try.f67 = Q
    generalize bodyL Try.prog E_impl_BestLimit Try.f67 = QL
    intro mm ml args H K hk
    simp only [S_impl_BestLimit] at *
    unfold F_impl_BestLimit at *
    split at hk
    · exact ml _ H K (mm _ _ _ _ H K hk)
    · exact hk.elim
def T_math_Float32bits (x : Nat) (H : AHeap) (K : Int → AHeap → Prop) : Prop := ∀ b : Nat, cn .f32 b = cn .f32 x → K (b : Int) H
def F_math_Float32bits : List Value → AHeap → (Value → AHeap → Prop) → Prop
  | [.float .f32 x], H, K => T_math_Float32bits x H fun r1 H' => K (.int .u32 r1) H'
  | _, _, _ => False
def S_math_Float32bits : FSpec := { F := F_math_Float32bits, quiet := false }
theorem F_math_Float32bits_o {args : List Value} {H : AHeap} {K : Value → AHeap → Prop} (h : S_math_Float32bits.F args H K) : ∃ x, args = [.float .f32 x] ∧ ∀ b : Nat, cn .f32 b = cn .f32 x → K (.int .u32 (b : Int)) H := by
  simp only [S_math_Float32bits] at h
  unfold F_math_Float32bits at h
  split at h
  · exact ⟨_, rfl, h⟩
  · exact h.elim
theorem math_Float32bits_ok : FnOk Try.prog 210 S_math_Float32bits := by
  refine FnOk.ext rfl ?_ ?_ ?_ ?_
  · intro args H K K' h hk
    obtain ⟨x, rfl, k⟩ := F_math_Float32bits_o hk
    exact fun b hb => h _ _ (k b hb)
  · intro h; cases h
  · intro args H K hk
    obtain ⟨x, rfl, k⟩ := F_math_Float32bits_o hk
    exact ⟨_, _, k x rfl⟩
  · intro ρ w args args' H K ha hk
    obtain ⟨x, rfl, k⟩ := F_math_Float32bits_o hk
    obtain ⟨y, ys, rfl, h3, h4⟩ := ha.uncons
    obtain rfl := h4.unnil
    cases h3 with
    | float k0 a b hab =>
      refine ⟨_, .int .u32 b, w, ?_, .refl w, .int .u32 _, k b (by rw [hab, cn_cn])⟩
      have := run_callFunc_extern (e := Extern.MathFloatBits.float32bits) Try.func210 (by kernel_rfl) (by kernel_rfl) (by kernel_rfl) (by kernel_rfl) #[.float .f32 b] w
      rw [this]; rfl

def p_spec_l01Bits (x : Nat) : Int := bif !(feq .f32 x x) then 2143289344 else IntKind.wrap .i64 (x : Int)
def T_spec_l01Bits (x : Nat) (H : AHeap) (K : Int → AHeap → Prop) : Prop := K (p_spec_l01Bits x) H
/-! spec_l01Bits: function 189 -/
def E_spec_l01Bits : Env := envOf [(210, S_math_Float32bits)]
def F_spec_l01Bits : List Value → AHeap → (Value → AHeap → Prop) → Prop
  | [.float .f32 x], H, K => T_spec_l01Bits x H fun (r1 : Int) (H' : AHeap) => K (.int .i64 r1) H'
  | _, _, _ => False
def S_spec_l01Bits : FSpec := { F := F_spec_l01Bits, quiet := false, tame := false }
theorem spec_l01Bits_vc (x : Nat) (H : AHeap) (K : Value → AHeap → Prop) : bodyL Try.prog E_spec_l01Bits Try.f189 [.float .f32 x] H K =
  (Br (!(feq .f32 x x)) (K (.int .i64 2143289344) H) (T_math_Float32bits x H fun (r1 : Int) (H1 : AHeap) => K (.int .i64 (IntKind.wrap .i64 r1)) H1)) := by kernel_rfl
theorem E_spec_l01Bits_ok : ∀ g, FnOk Try.prog g (E_spec_l01Bits g) := FnOk.envOf (by
  intro x hx
  simp only [List.mem_cons, List.not_mem_nil, or_false] at hx
  subst hx; exact math_Float32bits_ok)
theorem bits_self {b x : Nat} (hx : feq .f32 x x = true) (h : cn .f32 b = cn .f32 x) : b = x := by
  have nx : (FloatKind.f32.decode x).isNaN = false := by
    cases hn : (FloatKind.f32.decode x).isNaN
    · rfl
    · have := feq_nan1 (k := .f32) (x := x) hn x
      rw [hx] at this; cases this
  rw [cn_of_not_nan nx] at h
  cases hb : (FloatKind.f32.decode b).isNaN
  · rw [cn_of_not_nan hb] at h; exact h
  · rw [cn_of_nan hb] at h
    rw [← h, qnan_nan] at nx; cases nx
set_option maxHeartbeats 1000000 in
theorem spec_l01Bits_main (x : Nat) (H : AHeap) (K : Value → AHeap → Prop) (h : T_spec_l01Bits x H fun (r1 : Int) (H' : AHeap) => K (.int .i64 r1) H') : bodyL Try.prog E_spec_l01Bits Try.f189 [.float .f32 x] H K := by
  rw [spec_l01Bits_vc]
  unfold T_spec_l01Bits p_spec_l01Bits at h
  refine Br.intro (fun hc => ?_) (fun hc => ?_)
  · rw [hc] at h; exact h
  · rw [hc] at h
    intro b hb
    obtain rfl := bits_self (nt_of_f hc) hb
    exact h
theorem spec_l01Bits_ok : FnOk Try.prog 189 S_spec_l01Bits := by
  refine FnOk.body mix_ok E_spec_l01Bits_ok Try.func189 rfl (by kernel_rfl) (by kernel_rfl) ?_ ?_ ?_ ?_ ?_
  · intro args H K K' h hk
    simp only [S_spec_l01Bits] at *
    unfold F_spec_l01Bits at *
    split at hk
    · have k := hk
      exact h _ _ k
    · exact hk.elim
  · intro hq; cases hq
  · intro args H K hk
    simp only [S_spec_l01Bits] at *
    unfold F_spec_l01Bits at *
    split at hk
    · have k := hk
      exact ⟨_, _, k⟩
    · exact hk.elim
  · intro hq; cases hq
  · have mm := @spec_l01Bits_main
    have ml := fun (args : List Value) (H : AHeap) (K : Value → AHeap → Prop) => bodyL_body (P := Try.prog) (env := E_spec_l01Bits ) (fn := Try.f189) (args := args) (H := H) (K := K) E_spec_l01Bits_ok 
    revert mm ml
    generalize bodyK Try.prog E_spec_l01Bits Try.f189 = Q
    generalize bodyL Try.prog E_spec_l01Bits Try.f189 = QL
    intro mm ml args H K hk
    simp only [S_spec_l01Bits] at *
    unfold F_spec_l01Bits at *
    split at hk
    · exact ml _ H K (mm _ H K hk)
    · exact hk.elim
def p_spec_l01Same (a : Nat) (b : Nat) : Bool := (((p_spec_l01Bits a) : Int) == (p_spec_l01Bits b))
def p_spec_l01Same_eq := @p_spec_l01Same.eq_1
def T_spec_l01Same (a : Nat) (b : Nat) (H : AHeap) (K : Bool → AHeap → Prop) : Prop := K (p_spec_l01Same a b) H

/-! spec_l01Same: function 151 -/
def E_spec_l01Same : Env := envOf [(189, S_spec_l01Bits)]
def F_spec_l01Same : List Value → AHeap → (Value → AHeap → Prop) → Prop
  | [.float .f32 a, .float .f32 b], H, K => T_spec_l01Same a b H fun (r1 : Bool) (H' : AHeap) => K (.bool r1) H'
  | _, _, _ => False
def S_spec_l01Same : FSpec := { F := F_spec_l01Same, quiet := true, tame := false }
theorem spec_l01Same_vc (a : Nat) (b : Nat) (H : AHeap) (K : Value → AHeap → Prop) : bodyL Try.prog E_spec_l01Same Try.f151 [.float .f32 a, .float .f32 b] H K =
  (T_spec_l01Bits a H fun (r1 : Int) (H1 : AHeap) => T_spec_l01Bits b H1 fun (r2 : Int) (H2 : AHeap) => K (.bool ((r1 : Int) == r2)) H2) := by kernel_rfl
theorem E_spec_l01Same_ok : ∀ g, FnOk Try.prog g (E_spec_l01Same g) := FnOk.envOf (by
  intro x hx
  simp only [List.mem_cons, List.not_mem_nil, or_false] at hx
  subst hx; exact spec_l01Bits_ok)
set_option maxHeartbeats 1000000 in
theorem spec_l01Same_main (a : Nat) (b : Nat) (H : AHeap) (K : Value → AHeap → Prop) (h : T_spec_l01Same a b H fun (r1 : Bool) (H' : AHeap) => K (.bool r1) H') : bodyL Try.prog E_spec_l01Same Try.f151 [.float .f32 a, .float .f32 b] H K := by
  rw [spec_l01Same_vc]
  simp only [T_spec_l01Bits]
  unfold T_spec_l01Same p_spec_l01Same at h
  repeat' (first | exact h | (exfalso; simp_all; done) | (refine ⟨by decide, ?_⟩) | (refine Br.intro (fun hb => ?_) (fun hb => ?_) <;> (try simp only [hb, cond_true, cond_false, Bool.not_true, Bool.not_false] at h)))
theorem spec_l01Same_ok : FnOk Try.prog 151 S_spec_l01Same := by
  refine FnOk.body mix_ok E_spec_l01Same_ok Try.func151 rfl (by kernel_rfl) (by kernel_rfl) ?_ ?_ ?_ ?_ ?_
  · intro args H K K' h hk
    simp only [S_spec_l01Same] at *
    unfold F_spec_l01Same at *
    split at hk
    · have k := hk
      exact h _ _ k
    · exact hk.elim
  · intro _ args H K hk
    simp only [S_spec_l01Same] at *
    unfold F_spec_l01Same at *
    split at hk
    · have k := hk
      exact ⟨_, k, fun K' k' => k'⟩
    · exact hk.elim
  · intro args H K hk
    simp only [S_spec_l01Same] at *
    unfold F_spec_l01Same at *
    split at hk
    · have k := hk
      exact ⟨_, _, k⟩
    · exact hk.elim
  · intro hq; cases hq
  · have mm := @spec_l01Same_main
    have ml := fun (args : List Value) (H : AHeap) (K : Value → AHeap → Prop) => bodyL_body (P := Try.prog) (env := E_spec_l01Same ) (fn := Try.f151) (args := args) (H := H) (K := K) E_spec_l01Same_ok 
    revert mm ml
    generalize bodyK Try.prog E_spec_l01Same Try.f151 = Q
    generalize bodyL Try.prog E_spec_l01Same Try.f151 = QL
    intro mm ml args H K hk
    simp only [S_spec_l01Same] at *
    unfold F_spec_l01Same at *
    split at hk
    · exact ml _ H K (mm _ _ H K hk)
    · exact hk.elim
def p_spec_SameNumber (a : Nat) (b : Nat) : Bool := (p_spec_l01Same a b)
def p_spec_SameNumber_eq := @p_spec_SameNumber.eq_1
def T_spec_SameNumber (a : Nat) (b : Nat) (H : AHeap) (K : Bool → AHeap → Prop) : Prop := K (p_spec_SameNumber a b) H

theorem T_spec_SameNumber_i {a : Nat} {b : Nat} {H : AHeap} {K : Bool → AHeap → Prop} (h : K (p_spec_SameNumber a b) H) : T_spec_SameNumber a b H K := h
/-! spec_SameNumber: function 69 -/
def E_spec_SameNumber : Env := envOf [(151, S_spec_l01Same)]
def F_spec_SameNumber : List Value → AHeap → (Value → AHeap → Prop) → Prop
  | [.float .f32 a, .float .f32 b], H, K => T_spec_SameNumber a b H fun (r1 : Bool) (H' : AHeap) => K (.bool r1) H'
  | _, _, _ => False
def S_spec_SameNumber : FSpec := { F := F_spec_SameNumber, quiet := true, tame := false }
theorem spec_SameNumber_vc (a : Nat) (b : Nat) (H : AHeap) (K : Value → AHeap → Prop) : bodyL Try.prog E_spec_SameNumber Try.f69 [.float .f32 a, .float .f32 b] H K =
  (T_spec_l01Same a b H fun (r1 : Bool) (H1 : AHeap) => K (.bool r1) H1) := by kernel_rfl
theorem E_spec_SameNumber_ok : ∀ g, FnOk Try.prog g (E_spec_SameNumber g) := FnOk.envOf (by
  intro x hx
  simp only [List.mem_cons, List.not_mem_nil, or_false] at hx
  subst hx; exact spec_l01Same_ok)
set_option maxHeartbeats 1000000 in
theorem spec_SameNumber_main (a : Nat) (b : Nat) (H : AHeap) (K : Value → AHeap → Prop) (h : T_spec_SameNumber a b H fun (r1 : Bool) (H' : AHeap) => K (.bool r1) H') : bodyL Try.prog E_spec_SameNumber Try.f69 [.float .f32 a, .float .f32 b] H K := by
  rw [spec_SameNumber_vc]
  simp only [T_spec_l01Same]
  unfold T_spec_SameNumber p_spec_SameNumber at h
  repeat' (first | exact h | (exfalso; simp_all; done) | (refine ⟨by decide, ?_⟩) | (refine Br.intro (fun hb => ?_) (fun hb => ?_) <;> (try simp only [hb, cond_true, cond_false, Bool.not_true, Bool.not_false] at h)))
theorem spec_SameNumber_ok : FnOk Try.prog 69 S_spec_SameNumber := by
  refine FnOk.body mix_ok E_spec_SameNumber_ok Try.func69 rfl (by kernel_rfl) (by kernel_rfl) ?_ ?_ ?_ ?_ ?_
  · intro args H K K' h hk
    simp only [S_spec_SameNumber] at *
    unfold F_spec_SameNumber at *
    split at hk
    · have k := hk
      exact h _ _ k
    · exact hk.elim
  · intro _ args H K hk
    simp only [S_spec_SameNumber] at *
    unfold F_spec_SameNumber at *
    split at hk
    · have k := hk
      exact ⟨_, k, fun K' k' => k'⟩
    · exact hk.elim
  · intro args H K hk
    simp only [S_spec_SameNumber] at *
    unfold F_spec_SameNumber at *
    split at hk
    · have k := hk
      exact ⟨_, _, k⟩
    · exact hk.elim
  · intro hq; cases hq
  · have mm := @spec_SameNumber_main
    have ml := fun (args : List Value) (H : AHeap) (K : Value → AHeap → Prop) => bodyL_body (P := Try.prog) (env := E_spec_SameNumber ) (fn := Try.f69) (args := args) (H := H) (K := K) E_spec_SameNumber_ok 
    revert mm ml
    generalize bodyK Try.prog E_spec_SameNumber Try.f69 = Q
    generalize bodyL Try.prog E_spec_SameNumber Try.f69 = QL
    intro mm ml args H K hk
    simp only [S_spec_SameNumber] at *
    unfold F_spec_SameNumber at *
    split at hk
    · exact ml _ H K (mm _ _ H K hk)
    · exact hk.elim
def p_laws_b10Gap (a : Nat) (b : Nat) : Nat := (bif flt .f64 a b then fsub .f64 b a else fsub .f64 a b)
def T_laws_b10Gap (a : Nat) (b : Nat) (H : AHeap) (K : Nat → AHeap → Prop) : Prop := K (p_laws_b10Gap a b) H

theorem T_laws_b10Gap_i {a : Nat} {b : Nat} {H : AHeap} {K : Nat → AHeap → Prop} (h : K (p_laws_b10Gap a b) H) : T_laws_b10Gap a b H K := h
/-! laws_b10Gap: function 48 -/
def E_laws_b10Gap : Env := envOf []
def F_laws_b10Gap : List Value → AHeap → (Value → AHeap → Prop) → Prop
  | [.float .f64 a, .float .f64 b], H, K => T_laws_b10Gap a b H fun (r1 : Nat) (H' : AHeap) => K (.float .f64 r1) H'
  | _, _, _ => False
def S_laws_b10Gap : FSpec := { F := F_laws_b10Gap, quiet := true, tame := false }
theorem laws_b10Gap_vc (a : Nat) (b : Nat) (H : AHeap) (K : Value → AHeap → Prop) : bodyL Try.prog E_laws_b10Gap Try.f48 [.float .f64 a, .float .f64 b] H K =
  (Br (flt .f64 a b) (K (.float .f64 (fsub .f64 b a)) H) (K (.float .f64 (fsub .f64 a b)) H)) := by kernel_rfl
theorem E_laws_b10Gap_ok : ∀ g, FnOk Try.prog g (E_laws_b10Gap g) := FnOk.envOf (by
  intro x hx; cases hx)
set_option maxHeartbeats 1000000 in
theorem laws_b10Gap_main (a : Nat) (b : Nat) (H : AHeap) (K : Value → AHeap → Prop) (h : T_laws_b10Gap a b H fun (r1 : Nat) (H' : AHeap) => K (.float .f64 r1) H') : bodyL Try.prog E_laws_b10Gap Try.f48 [.float .f64 a, .float .f64 b] H K := by
  rw [laws_b10Gap_vc]
  unfold T_laws_b10Gap p_laws_b10Gap at h
  repeat' (first | exact h | (exfalso; simp_all; done) | (refine ⟨by decide, ?_⟩) | (refine Br.intro (fun hb => ?_) (fun hb => ?_) <;> (try simp only [hb, cond_true, cond_false, Bool.not_true, Bool.not_false] at h)))
theorem laws_b10Gap_ok : FnOk Try.prog 48 S_laws_b10Gap := by
  refine FnOk.body mix_ok E_laws_b10Gap_ok Try.func48 rfl (by kernel_rfl) (by kernel_rfl) ?_ ?_ ?_ ?_ ?_
  · intro args H K K' h hk
    simp only [S_laws_b10Gap] at *
    unfold F_laws_b10Gap at *
    split at hk
    · have k := hk
      exact h _ _ k
    · exact hk.elim
  · intro _ args H K hk
    simp only [S_laws_b10Gap] at *
    unfold F_laws_b10Gap at *
    split at hk
    · have k := hk
      exact ⟨_, k, fun K' k' => k'⟩
    · exact hk.elim
  · intro args H K hk
    simp only [S_laws_b10Gap] at *
    unfold F_laws_b10Gap at *
    split at hk
    · have k := hk
      exact ⟨_, _, k⟩
    · exact hk.elim
  · intro hq; cases hq
  · have mm := @laws_b10Gap_main
    have ml := fun (args : List Value) (H : AHeap) (K : Value → AHeap → Prop) => bodyL_body (P := Try.prog) (env := E_laws_b10Gap ) (fn := Try.f48) (args := args) (H := H) (K := K) E_laws_b10Gap_ok 
    revert mm ml
    generalize bodyK Try.prog E_laws_b10Gap Try.f48 = Q
    generalize bodyL Try.prog E_laws_b10Gap Try.f48 = QL
    intro mm ml args H K hk
    simp only [S_laws_b10Gap] at *
    unfold F_laws_b10Gap at *
    split at hk
    · exact ml _ H K (mm _ _ H K hk)
    · exact hk.elim
def p_math_Float64frombits (x : Int) : Nat := cn .f64 x.toNat
def T_math_Float64frombits (x : Int) (H : AHeap) (K : Nat → AHeap → Prop) : Prop := K (p_math_Float64frombits x) H
def F_math_Float64frombits : List Value → AHeap → (Value → AHeap → Prop) → Prop
  | [.int .u64 b], H, K => T_math_Float64frombits b H fun r1 H' => K (.float .f64 r1) H'
  | _, _, _ => False
def S_math_Float64frombits : FSpec := { F := F_math_Float64frombits, quiet := true }
theorem F_math_Float64frombits_o {args : List Value} {H : AHeap} {K : Value → AHeap → Prop} (h : S_math_Float64frombits.F args H K) : ∃ x, args = [.int .u64 x] ∧ K (.float .f64 (p_math_Float64frombits x)) H := by
  simp only [S_math_Float64frombits] at h
  unfold F_math_Float64frombits at h
  split at h
  · exact ⟨_, rfl, h⟩
  · exact h.elim
theorem math_Float64frombits_ok : FnOk Try.prog 209 S_math_Float64frombits := by
  refine FnOk.ext rfl ?_ ?_ ?_ ?_
  · intro args H K K' h hk
    obtain ⟨x, rfl, k⟩ := F_math_Float64frombits_o hk
    exact h _ _ k
  · intro _ args H K hk
    obtain ⟨x, rfl, k⟩ := F_math_Float64frombits_o hk
    exact ⟨_, k, fun K' k' => k'⟩
  · intro args H K hk
    obtain ⟨x, rfl, k⟩ := F_math_Float64frombits_o hk
    exact ⟨_, _, k⟩
  · intro ρ w args args' H K ha hk
    obtain ⟨x, rfl, k⟩ := F_math_Float64frombits_o hk
    obtain ⟨y, ys, rfl, h3, h4⟩ := ha.uncons
    obtain rfl := h4.unnil
    cases h3
    refine ⟨_, .float .f64 x.toNat, w, ?_, .refl w, .float .f64 _ _ rfl, k⟩
    have := run_callFunc_extern (e := Extern.MathFloatBits.float64frombits) Try.func209 (by kernel_rfl) (by kernel_rfl) (by kernel_rfl) (by kernel_rfl) #[.int .u64 x] w
    rw [this]; rfl

def p_math_Inf (sign : Int) : Nat := (bif decide ((0 : Int) ≤ sign) then (p_math_Float64frombits 9218868437227405312) else (p_math_Float64frombits 18442240474082181120))
def T_math_Inf (sign : Int) (H : AHeap) (K : Nat → AHeap → Prop) : Prop := K (p_math_Inf sign) H

theorem T_math_Inf_i {sign : Int} {H : AHeap} {K : Nat → AHeap → Prop} (h : K (p_math_Inf sign) H) : T_math_Inf sign H K := h
/-! math_Inf: function 186 -/
def E_math_Inf : Env := envOf [(209, S_math_Float64frombits)]
def F_math_Inf : List Value → AHeap → (Value → AHeap → Prop) → Prop
  | [.int .i64 sign], H, K => T_math_Inf sign H fun (r1 : Nat) (H' : AHeap) => K (.float .f64 r1) H'
  | _, _, _ => False
def S_math_Inf : FSpec := { F := F_math_Inf, quiet := true, tame := false }
theorem math_Inf_vc (sign : Int) (H : AHeap) (K : Value → AHeap → Prop) : bodyL Try.prog E_math_Inf Try.f186 [.int .i64 sign] H K =
  (Br (decide ((0 : Int) ≤ sign)) (T_math_Float64frombits 9218868437227405312 H fun (r1 : Nat) (H1 : AHeap) => K (.float .f64 r1) H1) (T_math_Float64frombits 18442240474082181120 H fun (r2 : Nat) (H2 : AHeap) => K (.float .f64 r2) H2)) := by kernel_rfl
theorem E_math_Inf_ok : ∀ g, FnOk Try.prog g (E_math_Inf g) := FnOk.envOf (by
  intro x hx
  simp only [List.mem_cons, List.not_mem_nil, or_false] at hx
  subst hx; exact math_Float64frombits_ok)
set_option maxHeartbeats 1000000 in
theorem math_Inf_main (sign : Int) (H : AHeap) (K : Value → AHeap → Prop) (h : T_math_Inf sign H fun (r1 : Nat) (H' : AHeap) => K (.float .f64 r1) H') : bodyL Try.prog E_math_Inf Try.f186 [.int .i64 sign] H K := by
  rw [math_Inf_vc]
  simp only [T_math_Float64frombits]
  unfold T_math_Inf p_math_Inf at h
  repeat' (first | exact h | (exfalso; simp_all; done) | (refine ⟨by decide, ?_⟩) | (refine Br.intro (fun hb => ?_) (fun hb => ?_) <;> (try simp only [hb, cond_true, cond_false, Bool.not_true, Bool.not_false] at h)))
theorem math_Inf_ok : FnOk Try.prog 186 S_math_Inf := by
  refine FnOk.body mix_ok E_math_Inf_ok Try.func186 rfl (by kernel_rfl) (by kernel_rfl) ?_ ?_ ?_ ?_ ?_
  · intro args H K K' h hk
    simp only [S_math_Inf] at *
    unfold F_math_Inf at *
    split at hk
    · have k := hk
      exact h _ _ k
    · exact hk.elim
  · intro _ args H K hk
    simp only [S_math_Inf] at *
    unfold F_math_Inf at *
    split at hk
    · have k := hk
      exact ⟨_, k, fun K' k' => k'⟩
    · exact hk.elim
  · intro args H K hk
    simp only [S_math_Inf] at *
    unfold F_math_Inf at *
    split at hk
    · have k := hk
      exact ⟨_, _, k⟩
    · exact hk.elim
  · intro hq; cases hq
  · have mm := @math_Inf_main
    have ml := fun (args : List Value) (H : AHeap) (K : Value → AHeap → Prop) => bodyL_body (P := Try.prog) (env := E_math_Inf ) (fn := Try.f186) (args := args) (H := H) (K := K) E_math_Inf_ok 
    revert mm ml
    generalize bodyK Try.prog E_math_Inf Try.f186 = Q
    generalize bodyL Try.prog E_math_Inf Try.f186 = QL
    intro mm ml args H K hk
    simp only [S_math_Inf] at *
    unfold F_math_Inf at *
    split at hk
    · exact ml _ H K (mm _ H K hk)
    · exact hk.elim
def p_math_NaN  : Nat := (p_math_Float64frombits 9221120237041090561)
def T_math_NaN  (H : AHeap) (K : Nat → AHeap → Prop) : Prop := K (p_math_NaN) H

theorem T_math_NaN_i  {H : AHeap} {K : Nat → AHeap → Prop} (h : K (p_math_NaN) H) : T_math_NaN  H K := h
/-! math_NaN: function 187 -/
def E_math_NaN : Env := envOf [(209, S_math_Float64frombits)]
def F_math_NaN : List Value → AHeap → (Value → AHeap → Prop) → Prop
  | [], H, K => T_math_NaN  H fun (r1 : Nat) (H' : AHeap) => K (.float .f64 r1) H'
  | _, _, _ => False
def S_math_NaN : FSpec := { F := F_math_NaN, quiet := true, tame := false }
theorem math_NaN_vc  (H : AHeap) (K : Value → AHeap → Prop) : bodyL Try.prog E_math_NaN Try.f187 [] H K =
  (T_math_Float64frombits 9221120237041090561 H fun (r1 : Nat) (H1 : AHeap) => K (.float .f64 r1) H1) := by kernel_rfl
theorem E_math_NaN_ok : ∀ g, FnOk Try.prog g (E_math_NaN g) := FnOk.envOf (by
  intro x hx
  simp only [List.mem_cons, List.not_mem_nil, or_false] at hx
  subst hx; exact math_Float64frombits_ok)
set_option maxHeartbeats 1000000 in
theorem math_NaN_main  (H : AHeap) (K : Value → AHeap → Prop) (h : T_math_NaN  H fun (r1 : Nat) (H' : AHeap) => K (.float .f64 r1) H') : bodyL Try.prog E_math_NaN Try.f187 [] H K := by
  rw [math_NaN_vc]
  simp only [T_math_Float64frombits]
  unfold T_math_NaN p_math_NaN at h
  repeat' (first | exact h | (exfalso; simp_all; done) | (refine ⟨by decide, ?_⟩) | (refine Br.intro (fun hb => ?_) (fun hb => ?_) <;> (try simp only [hb, cond_true, cond_false, Bool.not_true, Bool.not_false] at h)))
theorem math_NaN_ok : FnOk Try.prog 187 S_math_NaN := by
  refine FnOk.body mix_ok E_math_NaN_ok Try.func187 rfl (by kernel_rfl) (by kernel_rfl) ?_ ?_ ?_ ?_ ?_
  · intro args H K K' h hk
    simp only [S_math_NaN] at *
    unfold F_math_NaN at *
    split at hk
    · have k := hk
      exact h _ _ k
    · exact hk.elim
  · intro _ args H K hk
    simp only [S_math_NaN] at *
    unfold F_math_NaN at *
    split at hk
    · have k := hk
      exact ⟨_, k, fun K' k' => k'⟩
    · exact hk.elim
  · intro args H K hk
    simp only [S_math_NaN] at *
    unfold F_math_NaN at *
    split at hk
    · have k := hk
      exact ⟨_, _, k⟩
    · exact hk.elim
  · intro hq; cases hq
  · have mm := @math_NaN_main
    have ml := fun (args : List Value) (H : AHeap) (K : Value → AHeap → Prop) => bodyL_body (P := Try.prog) (env := E_math_NaN ) (fn := Try.f187) (args := args) (H := H) (K := K) E_math_NaN_ok 
    revert mm ml
    generalize bodyK Try.prog E_math_NaN Try.f187 = Q
    generalize bodyL Try.prog E_math_NaN Try.f187 = QL
    intro mm ml args H K hk
    simp only [S_math_NaN] at *
    unfold F_math_NaN at *
    split at hk
    · exact ml _ H K (mm  H K hk)
    · exact hk.elim

def p_impl_naturalLog_l3 (x : Nat) (x_0 : Nat) (ve : Nat) (x_0' : Nat) (ve_3 : Nat) (k3_4 : Nat → Nat → Nat) : Nat → Nat → Nat → Nat
  | 0, _, _ => 0
  | μ3 + 1, q, k => (bif fle .f64 4607182418800017408 k then (p_impl_naturalLog_l3 x x_0 ve x_0' ve_3 k3_4 μ3 (fadd .f64 (fdiv .f64 4607182418800017408 k) (fmul .f64 (fmul .f64 (fdiv .f64 (fsub .f64 x_0' 4607182418800017408) (fadd .f64 x_0' 4607182418800017408)) (fdiv .f64 (fsub .f64 x_0' 4607182418800017408) (fadd .f64 x_0' 4607182418800017408))) q)) (fsub .f64 k 4611686018427387904)) else (k3_4 q k))
def p_impl_naturalLog_l3_s := fun x x_0 ve x_0' ve_3 k3_4 μ3 q k => @p_impl_naturalLog_l3.eq_2 x x_0 ve x_0' ve_3 k3_4 q k μ3
def p_impl_naturalLog_l2 (x : Nat) (x_0 : Nat) (ve : Nat) (k2_2 : Nat → Nat → Nat) : Nat → Nat → Nat → Nat
  | 0, _, _ => 0
  | μ2 + 1, x_0', ve_3 => (bif flt .f64 x_0' 4604930618986332160 then (p_impl_naturalLog_l2 x x_0 ve k2_2 μ2 (fmul .f64 x_0' 4611686018427387904) (fsub .f64 ve_3 4607182418800017408)) else (k2_2 x_0' ve_3))
def p_impl_naturalLog_l2_s := fun x x_0 ve k2_2 μ2 x_0' ve_3 => @p_impl_naturalLog_l2.eq_2 x x_0 ve k2_2 x_0' ve_3 μ2
def p_impl_naturalLog_l1 (x : Nat) : Nat → Nat → Nat → Nat
  | 0, _, _ => 0
  | μ + 1, x_0, ve => (bif fle .f64 4609434218613702656 x_0 then (p_impl_naturalLog_l1 x μ (fdiv .f64 x_0 4611686018427387904) (fadd .f64 ve 4607182418800017408)) else (p_impl_naturalLog_l2 x x_0 ve (fun (x_0' : Nat) (ve_3 : Nat) => (p_impl_naturalLog_l3 x x_0 ve x_0' ve_3 (fun (q : Nat) (k : Nat) => fadd .f64 (fmul .f64 4611686018427387904 (fmul .f64 (fdiv .f64 (fsub .f64 x_0' 4607182418800017408) (fadd .f64 x_0' 4607182418800017408)) q)) (fmul .f64 ve_3 4604418534313441775)) (Int.toNat (cnt 4627730092099895296) + 1) 0 4627730092099895296)) (Int.toNat ((4604930618986332160 : Int) - x_0) + 1) x_0 ve))
def p_impl_naturalLog_l1_s := fun x μ x_0 ve => @p_impl_naturalLog_l1.eq_2 x x_0 ve μ
def p_impl_naturalLog (x : Nat) : Nat := (p_impl_naturalLog_l1 x (Int.toNat ((x : Int)) + 1) x 0)
def p_impl_naturalLog_eq := @p_impl_naturalLog.eq_1
def T_impl_naturalLog (x : Nat) (H : AHeap) (K : Nat → AHeap → Prop) : Prop := 4503599627370496 ≤ x ∧ x < 9218868437227405312 ∧ K (p_impl_naturalLog x) H
theorem T_impl_naturalLog_i {x : Nat} {H : AHeap} {K : Nat → AHeap → Prop} (h : 4503599627370496 ≤ x ∧ x < 9218868437227405312 ∧ K (p_impl_naturalLog x) H) : T_impl_naturalLog x H K := h
theorem impl_l3_nar {x x_0 ve x' ve_3 : Nat} {K : Nat → Nat → Nat} (h0 : 4604930618986332160 ≤ x') (h1 : x' < 4609434218613702656) (hK : ∀ q k, Bd .f64 1160 q → fnarrow (K q k) ≠ none) :
    ∀ (μ : Nat) (n : Int) (A q : Nat), Bd .f64 A q → 1074 ≤ A → (A : Int) ≤ 1155 - 3 * n → n ≤ 25 → -1 ≤ n → fnarrow (p_impl_naturalLog_l3 x x_0 ve x' ve_3 K μ q (FloatKind.nearest .f64 n)) ≠ none := by
  intro μ
  induction μ with
  | zero => intro n A q _ _ _ _ _; exact (by decide +kernel : fnarrow 0 ≠ none)
  | succ μ ih =>
    intro n A q hq hA hA2 hn hn1
    rw [p_impl_naturalLog_l3_s]
    have hc := cnt_at (n := n) ω3 ω3
    rw [hc.2.1]
    by_cases h : (1 : Int) ≤ n
    · rw [decide_eq_true h, cond_true, hc.2.2.2]
      exact ih (n - 2) (A + 6) _ (log_step' (log_square h0 h1) h ω3 hq hA ω3) ω3 ω3 ω3 ω3
    · rw [decide_eq_false h, cond_false]
      exact hK _ _ (hq.mono ω3)
theorem impl_l2_nar {x x_0 ve : Nat} {K : Nat → Nat → Nat} (hK : ∀ x' (e : Int), 4604930618986332160 ≤ x' → x' < 4609434218613702656 → e.natAbs ≤ 4000 → fnarrow (K x' (FloatKind.nearest .f64 e)) ≠ none) :
    ∀ (μ : Nat) (x' : Nat) (e : Int), 4503599627370496 ≤ x' → x' < 4609434218613702656 → (4609434218613702656 : Int) - x' ≤ (e + 3000) * 4503599627370496 → e ≤ 2100 →
      fnarrow (p_impl_naturalLog_l2 x x_0 ve K μ x' (FloatKind.nearest .f64 e)) ≠ none := by
  intro μ
  induction μ with
  | zero => intro x' e _ _ _ _; exact (by decide +kernel : fnarrow 0 ≠ none)
  | succ μ ih =>
    intro x' e h0 h1 h2 h3
    rw [p_impl_naturalLog_l2_s]
    cases hc : flt .f64 x' 4604930618986332160 with
    | true =>
      have := twice_step h0 ω3 hc
      rw [cond_true, near_down ω3, this.1]
      exact ih _ _ ω3 ω3 ω3 ω3
    | false =>
      rw [cond_false]
      rw [pos_lt h0 ω3 ω15 ω15] at hc
      have := of_decide_eq_false hc
      exact hK _ _ ω3 h1 ω3
theorem impl_l1_nar {x : Nat} :
    ∀ (μ : Nat) (x_0 : Nat) (e : Int), 4503599627370496 ≤ x_0 → x_0 < 9218868437227405312 → e * 4503599627370496 + x_0 ≤ 9218868437227405312 → 0 ≤ e →
      fnarrow (p_impl_naturalLog_l1 x μ x_0 (FloatKind.nearest .f64 e)) ≠ none := by
  intro μ
  induction μ with
  | zero => intro x_0 e _ _ _ _; exact (by decide +kernel : fnarrow 0 ≠ none)
  | succ μ ih =>
    intro x_0 e h0 h1 h2 h3
    rw [p_impl_naturalLog_l1_s]
    cases hc : fle .f64 4609434218613702656 x_0 with
    | true =>
      have := half_step h0 h1 hc
      rw [cond_true, near_up ω3, this.1]
      exact ih _ _ ω3 ω3 ω3 ω3
    | false =>
      rw [cond_false]
      rw [pos_le ω15 ω15 h0 h1] at hc
      have := of_decide_eq_false hc
      refine impl_l2_nar ?_ _ _ _ h0 ω3 ω3 ω3
      intro x' e' a0 a1 a2
      have e25 : (4627730092099895296 : Nat) = FloatKind.nearest .f64 25 := by decide +kernel
      rw [e25]
      refine impl_l3_nar a0 a1 ?_ _ 25 1074 0 (bd_zero _) ω15 ω15 ω15 ω15
      intro q k hq
      exact log_sum' (log_quot a0 a1) hq ω15 ω15 a2
theorem impl_naturalLog_nar {x : Nat} (h : 4503599627370496 ≤ x ∧ x < 9218868437227405312) : fnarrow (p_impl_naturalLog x) ≠ none := by
  rw [p_impl_naturalLog_eq]
  have g := impl_l1_nar (x := x) (Int.toNat ((x : Int)) + 1) x 0 h.1 h.2 ω3 ω15
  rw [show FloatKind.nearest .f64 0 = 0 by decide +kernel] at g
  exact g
/-! impl_naturalLog: function 188 -/
def E_impl_naturalLog : Env := envOf []
def F_impl_naturalLog : List Value → AHeap → (Value → AHeap → Prop) → Prop
  | [.float .f64 x], H, K => T_impl_naturalLog x H fun (r1 : Nat) (H' : AHeap) => K (.float .f64 r1) H'
  | _, _, _ => False
def S_impl_naturalLog : FSpec := { F := F_impl_naturalLog, quiet := true, tame := false }
theorem impl_naturalLog_vc (x : Nat) (H : AHeap) (K : Value → AHeap → Prop) : bodyL Try.prog E_impl_naturalLog Try.f188 [.float .f64 x] H K =
  (loopK (exL Try.prog E_impl_naturalLog (cl (cl (cl (cr (cr (bodyC Try.f188)))))) 9 4 [(0, 9)]) [.float .f64 x, ud, ud, .float .f64 0, ud, ud, ud, ud, ud, ud, ud, ud, ud, ud, ud, ud, ud, ud, ud, ud, ud, ud, ud, ud, ud, ud, ud, ud, ud, ud, ud, ud, ud, ud, ud, ud, ud, ud, ud, ud, ud, ud, ud, ud, ud] H (blockQ 0 (seqQ (exL Try.prog E_impl_naturalLog (cr (cr (cr (bodyC Try.f188)))) 4 4 []) (retK Try.prog Try.f188 K)))) := by kernel_rfl
abbrev impl_naturalLog_P1  (x_0 : Nat) (ve : Nat)  : List Value := [.float .f64 x_0, ud, ud, .float .f64 ve, ud, ud, ud, ud, ud, ud, ud, ud, ud, ud, ud, ud, ud, ud, ud, ud, ud, ud, ud, ud, ud, ud, ud, ud, ud, ud, ud, ud, ud, ud, ud, ud, ud, ud, ud, ud, ud, ud, ud, ud, ud]
theorem impl_naturalLog_r1  (x_0 : Nat) (ve : Nat)  (H : AHeap) (R : Post) : exL Try.prog E_impl_naturalLog (cl (cl (cl (cr (cr (bodyC Try.f188)))))) 9 4 [(0, 9)] (impl_naturalLog_P1 x_0 ve) H R =
  (Br (fle .f64 4609434218613702656 x_0) (R .normal [.float .f64 (fdiv .f64 x_0 4611686018427387904), ud, ud, .float .f64 (fadd .f64 ve 4607182418800017408), ud, ud, ud, ud, ud, ud, ud, ud, ud, ud, ud, ud, ud, ud, ud, ud, ud, ud, ud, ud, ud, ud, ud, ud, ud, ud, ud, ud, ud, ud, ud, ud, ud, ud, ud, ud, ud, ud, ud, ud, ud] H) (R (.exit 0) [.float .f64 x_0, ud, ud, .float .f64 ve, ud, ud, ud, ud, ud, ud, ud, ud, ud, ud, ud, ud, ud, ud, ud, ud, ud, ud, ud, ud, ud, ud, ud, ud, ud, ud, ud, ud, ud, ud, ud, ud, ud, ud, ud, ud, ud, ud, ud, ud, ud] H)) := by kernel_rfl
def impl_naturalLog_I1  (Inv : Nat → Nat → Nat → AHeap → Prop) : Nat → List Value → AHeap → Prop := fun μ tm H => ∃ (x_0 : Nat), ∃ (ve : Nat), tm = (impl_naturalLog_P1 x_0 ve) ∧ Inv μ x_0 ve H
theorem impl_naturalLog_L1  {Q : Post} (Inv : Nat → Nat → Nat → AHeap → Prop) (ν : Nat) (x_0 : Nat) (ve : Nat)  (H : AHeap) (h0 : Inv ν x_0 ve H)
    (hs : ∀ (μ : Nat) (x_0 : Nat) (ve : Nat)  (H : AHeap), Inv μ x_0 ve H → exL Try.prog E_impl_naturalLog (cl (cl (cl (cr (cr (bodyC Try.f188)))))) 9 4 [(0, 9)] (impl_naturalLog_P1 x_0 ve) H (loopQ (impl_naturalLog_I1  Inv) μ Q)) : loopK (exL Try.prog E_impl_naturalLog (cl (cl (cl (cr (cr (bodyC Try.f188)))))) 9 4 [(0, 9)]) (impl_naturalLog_P1 x_0 ve) H Q :=
  ⟨impl_naturalLog_I1  Inv, ν, ⟨x_0, ve, rfl, h0⟩, fun μ tm H h => by obtain ⟨x_0, ve, rfl, hI⟩ := h; exact hs μ x_0 ve  H hI⟩
theorem impl_naturalLog_n1  {Q : Post} {Inv : Nat → Nat → Nat → AHeap → Prop} {μ : Nat} (μ' : Nat) {x_0 : Nat} {ve : Nat}  {H : AHeap} (hm : μ' < μ) (hI : Inv μ' x_0 ve H) : loopQ (impl_naturalLog_I1  Inv) μ Q .normal (impl_naturalLog_P1 x_0 ve) H := ⟨μ', hm, x_0, ve, rfl, hI⟩
theorem impl_naturalLog_x1_0 (x_0 : Nat) (ve : Nat) (H : AHeap) (K : Value → AHeap → Prop)  {I : Nat → List Value → AHeap → Prop} {μ : Nat} : loopQ I μ (blockQ 0 (seqQ (exL Try.prog E_impl_naturalLog (cr (cr (cr (bodyC Try.f188)))) 4 4 []) (retK Try.prog Try.f188 K))) (.exit 0) [.float .f64 x_0, ud, ud, .float .f64 ve, ud, ud, ud, ud, ud, ud, ud, ud, ud, ud, ud, ud, ud, ud, ud, ud, ud, ud, ud, ud, ud, ud, ud, ud, ud, ud, ud, ud, ud, ud, ud, ud, ud, ud, ud, ud, ud, ud, ud, ud, ud] H =
  (loopK (exL Try.prog E_impl_naturalLog (cl (cl (cl (cr (cr (cr (bodyC Try.f188))))))) 9 4 [(2, 9)]) [.float .f64 x_0, ud, ud, .float .f64 ve, ud, ud, ud, ud, ud, ud, ud, ud, ud, ud, ud, ud, ud, ud, ud, ud, ud, ud, ud, ud, ud, ud, ud, ud, ud, ud, ud, ud, ud, ud, ud, ud, ud, ud, ud, ud, ud, ud, ud, ud, ud] H (blockQ 2 (seqQ (exL Try.prog E_impl_naturalLog (cr (cr (cr (cr (bodyC Try.f188))))) 4 4 []) (retK Try.prog Try.f188 K)))) := by kernel_rfl
abbrev impl_naturalLog_P2  (x_0' : Nat) (ve_3 : Nat)  : List Value := [.float .f64 x_0', ud, ud, .float .f64 ve_3, ud, ud, ud, ud, ud, ud, ud, ud, ud, ud, ud, ud, ud, ud, ud, ud, ud, ud, ud, ud, ud, ud, ud, ud, ud, ud, ud, ud, ud, ud, ud, ud, ud, ud, ud, ud, ud, ud, ud, ud, ud]
theorem impl_naturalLog_r2  (x_0' : Nat) (ve_3 : Nat)  (H : AHeap) (R : Post) : exL Try.prog E_impl_naturalLog (cl (cl (cl (cr (cr (cr (bodyC Try.f188))))))) 9 4 [(2, 9)] (impl_naturalLog_P2 x_0' ve_3) H R =
  (Br (flt .f64 x_0' 4604930618986332160) (R .normal [.float .f64 (fmul .f64 x_0' 4611686018427387904), ud, ud, .float .f64 (fsub .f64 ve_3 4607182418800017408), ud, ud, ud, ud, ud, ud, ud, ud, ud, ud, ud, ud, ud, ud, ud, ud, ud, ud, ud, ud, ud, ud, ud, ud, ud, ud, ud, ud, ud, ud, ud, ud, ud, ud, ud, ud, ud, ud, ud, ud, ud] H) (R (.exit 2) [.float .f64 x_0', ud, ud, .float .f64 ve_3, ud, ud, ud, ud, ud, ud, ud, ud, ud, ud, ud, ud, ud, ud, ud, ud, ud, ud, ud, ud, ud, ud, ud, ud, ud, ud, ud, ud, ud, ud, ud, ud, ud, ud, ud, ud, ud, ud, ud, ud, ud] H)) := by kernel_rfl
def impl_naturalLog_I2  (Inv : Nat → Nat → Nat → AHeap → Prop) : Nat → List Value → AHeap → Prop := fun μ tm H => ∃ (x_0' : Nat), ∃ (ve_3 : Nat), tm = (impl_naturalLog_P2 x_0' ve_3) ∧ Inv μ x_0' ve_3 H
theorem impl_naturalLog_L2  {Q : Post} (Inv : Nat → Nat → Nat → AHeap → Prop) (ν : Nat) (x_0' : Nat) (ve_3 : Nat)  (H : AHeap) (h0 : Inv ν x_0' ve_3 H)
    (hs : ∀ (μ : Nat) (x_0' : Nat) (ve_3 : Nat)  (H : AHeap), Inv μ x_0' ve_3 H → exL Try.prog E_impl_naturalLog (cl (cl (cl (cr (cr (cr (bodyC Try.f188))))))) 9 4 [(2, 9)] (impl_naturalLog_P2 x_0' ve_3) H (loopQ (impl_naturalLog_I2  Inv) μ Q)) : loopK (exL Try.prog E_impl_naturalLog (cl (cl (cl (cr (cr (cr (bodyC Try.f188))))))) 9 4 [(2, 9)]) (impl_naturalLog_P2 x_0' ve_3) H Q :=
  ⟨impl_naturalLog_I2  Inv, ν, ⟨x_0', ve_3, rfl, h0⟩, fun μ tm H h => by obtain ⟨x_0', ve_3, rfl, hI⟩ := h; exact hs μ x_0' ve_3  H hI⟩
theorem impl_naturalLog_n2  {Q : Post} {Inv : Nat → Nat → Nat → AHeap → Prop} {μ : Nat} (μ' : Nat) {x_0' : Nat} {ve_3 : Nat}  {H : AHeap} (hm : μ' < μ) (hI : Inv μ' x_0' ve_3 H) : loopQ (impl_naturalLog_I2  Inv) μ Q .normal (impl_naturalLog_P2 x_0' ve_3) H := ⟨μ', hm, x_0', ve_3, rfl, hI⟩
theorem impl_naturalLog_x2_2 (x_0' : Nat) (ve_3 : Nat) (H : AHeap) (K : Value → AHeap → Prop)  {I : Nat → List Value → AHeap → Prop} {μ : Nat} : loopQ I μ (blockQ 2 (seqQ (exL Try.prog E_impl_naturalLog (cr (cr (cr (cr (bodyC Try.f188))))) 4 4 []) (retK Try.prog Try.f188 K))) (.exit 2) [.float .f64 x_0', ud, ud, .float .f64 ve_3, ud, ud, ud, ud, ud, ud, ud, ud, ud, ud, ud, ud, ud, ud, ud, ud, ud, ud, ud, ud, ud, ud, ud, ud, ud, ud, ud, ud, ud, ud, ud, ud, ud, ud, ud, ud, ud, ud, ud, ud, ud] H =
  (loopK (exL Try.prog E_impl_naturalLog (cl (cl (cr (cl (cr (cr (cr (cr (cr (cr (cr (bodyC Try.f188)))))))))))) 248 4 [(4, 88)]) [ud, ud, ud, .float .f64 ve_3, .float .f64 (fdiv .f64 (fsub .f64 x_0' 4607182418800017408) (fadd .f64 x_0' 4607182418800017408)), .float .f64 (fmul .f64 (fdiv .f64 (fsub .f64 x_0' 4607182418800017408) (fadd .f64 x_0' 4607182418800017408)) (fdiv .f64 (fsub .f64 x_0' 4607182418800017408) (fadd .f64 x_0' 4607182418800017408))), .float .f64 0, .float .f64 4627730092099895296, ud, ud, ud, ud, ud, ud, ud, ud, ud, ud, ud, ud, ud, ud, ud, ud, ud, ud, ud, ud, ud, ud, ud, ud, ud, ud, ud, ud, ud, ud, ud, ud, ud, ud, ud, ud, ud] H (blockQ 4 (seqQ (exL Try.prog E_impl_naturalLog (cr (cr (cr (cr (cr (cr (cr (cr (bodyC Try.f188))))))))) 4 4 []) (retK Try.prog Try.f188 K)))) := by kernel_rfl
abbrev impl_naturalLog_P3 (ve_3 : Nat) (x_0' : Nat) (q : Nat) (k : Nat)  : List Value := [ud, ud, ud, .float .f64 ve_3, .float .f64 (fdiv .f64 (fsub .f64 x_0' 4607182418800017408) (fadd .f64 x_0' 4607182418800017408)), .float .f64 (fmul .f64 (fdiv .f64 (fsub .f64 x_0' 4607182418800017408) (fadd .f64 x_0' 4607182418800017408)) (fdiv .f64 (fsub .f64 x_0' 4607182418800017408) (fadd .f64 x_0' 4607182418800017408))), .float .f64 q, .float .f64 k, ud, ud, ud, ud, ud, ud, ud, ud, ud, ud, ud, ud, ud, ud, ud, ud, ud, ud, ud, ud, ud, ud, ud, ud, ud, ud, ud, ud, ud, ud, ud, ud, ud, ud, ud, ud, ud]
theorem impl_naturalLog_r3 (ve_3 : Nat) (x_0' : Nat) (q : Nat) (k : Nat)  (H : AHeap) (R : Post) : exL Try.prog E_impl_naturalLog (cl (cl (cr (cl (cr (cr (cr (cr (cr (cr (cr (bodyC Try.f188)))))))))))) 248 4 [(4, 88)] (impl_naturalLog_P3 ve_3 x_0' q k) H R =
  (Br (fle .f64 4607182418800017408 k) (R .normal [ud, ud, ud, .float .f64 ve_3, .float .f64 (fdiv .f64 (fsub .f64 x_0' 4607182418800017408) (fadd .f64 x_0' 4607182418800017408)), .float .f64 (fmul .f64 (fdiv .f64 (fsub .f64 x_0' 4607182418800017408) (fadd .f64 x_0' 4607182418800017408)) (fdiv .f64 (fsub .f64 x_0' 4607182418800017408) (fadd .f64 x_0' 4607182418800017408))), .float .f64 (fadd .f64 (fdiv .f64 4607182418800017408 k) (fmul .f64 (fmul .f64 (fdiv .f64 (fsub .f64 x_0' 4607182418800017408) (fadd .f64 x_0' 4607182418800017408)) (fdiv .f64 (fsub .f64 x_0' 4607182418800017408) (fadd .f64 x_0' 4607182418800017408))) q)), .float .f64 (fsub .f64 k 4611686018427387904), ud, ud, ud, ud, ud, ud, ud, ud, ud, ud, ud, ud, ud, ud, ud, ud, ud, ud, ud, ud, ud, ud, ud, ud, ud, ud, ud, ud, ud, ud, ud, ud, ud, ud, ud, ud, ud] H) (R (.exit 4) [ud, ud, ud, .float .f64 ve_3, .float .f64 (fdiv .f64 (fsub .f64 x_0' 4607182418800017408) (fadd .f64 x_0' 4607182418800017408)), ud, .float .f64 q, ud, ud, ud, ud, ud, ud, ud, ud, ud, ud, ud, ud, ud, ud, ud, ud, ud, ud, ud, ud, ud, ud, ud, ud, ud, ud, ud, ud, ud, ud, ud, ud, ud, ud, ud, ud, ud, ud] H)) := by kernel_rfl
def impl_naturalLog_I3 (ve_3 : Nat) (x_0' : Nat) (Inv : Nat → Nat → Nat → AHeap → Prop) : Nat → List Value → AHeap → Prop := fun μ tm H => ∃ (q : Nat), ∃ (k : Nat), tm = (impl_naturalLog_P3 ve_3 x_0' q k) ∧ Inv μ q k H
theorem impl_naturalLog_L3 (ve_3 : Nat) (x_0' : Nat) {Q : Post} (Inv : Nat → Nat → Nat → AHeap → Prop) (ν : Nat) (q : Nat) (k : Nat)  (H : AHeap) (h0 : Inv ν q k H)
    (hs : ∀ (μ : Nat) (q : Nat) (k : Nat)  (H : AHeap), Inv μ q k H → exL Try.prog E_impl_naturalLog (cl (cl (cr (cl (cr (cr (cr (cr (cr (cr (cr (bodyC Try.f188)))))))))))) 248 4 [(4, 88)] (impl_naturalLog_P3 ve_3 x_0' q k) H (loopQ (impl_naturalLog_I3 ve_3 x_0' Inv) μ Q)) : loopK (exL Try.prog E_impl_naturalLog (cl (cl (cr (cl (cr (cr (cr (cr (cr (cr (cr (bodyC Try.f188)))))))))))) 248 4 [(4, 88)]) (impl_naturalLog_P3 ve_3 x_0' q k) H Q :=
  ⟨impl_naturalLog_I3 ve_3 x_0' Inv, ν, ⟨q, k, rfl, h0⟩, fun μ tm H h => by obtain ⟨q, k, rfl, hI⟩ := h; exact hs μ q k  H hI⟩
theorem impl_naturalLog_n3 {ve_3 : Nat} {x_0' : Nat} {Q : Post} {Inv : Nat → Nat → Nat → AHeap → Prop} {μ : Nat} (μ' : Nat) {q : Nat} {k : Nat}  {H : AHeap} (hm : μ' < μ) (hI : Inv μ' q k H) : loopQ (impl_naturalLog_I3 ve_3 x_0' Inv) μ Q .normal (impl_naturalLog_P3 ve_3 x_0' q k) H := ⟨μ', hm, q, k, rfl, hI⟩
theorem impl_naturalLog_x3_4 (ve_3 : Nat) (x_0' : Nat) (q : Nat) (H : AHeap) (K : Value → AHeap → Prop)  {I : Nat → List Value → AHeap → Prop} {μ : Nat} : loopQ I μ (blockQ 4 (seqQ (exL Try.prog E_impl_naturalLog (cr (cr (cr (cr (cr (cr (cr (cr (bodyC Try.f188))))))))) 4 4 []) (retK Try.prog Try.f188 K))) (.exit 4) [ud, ud, ud, .float .f64 ve_3, .float .f64 (fdiv .f64 (fsub .f64 x_0' 4607182418800017408) (fadd .f64 x_0' 4607182418800017408)), ud, .float .f64 q, ud, ud, ud, ud, ud, ud, ud, ud, ud, ud, ud, ud, ud, ud, ud, ud, ud, ud, ud, ud, ud, ud, ud, ud, ud, ud, ud, ud, ud, ud, ud, ud, ud, ud, ud, ud, ud, ud] H =
  (K (.float .f64 (fadd .f64 (fmul .f64 4611686018427387904 (fmul .f64 (fdiv .f64 (fsub .f64 x_0' 4607182418800017408) (fadd .f64 x_0' 4607182418800017408)) q)) (fmul .f64 ve_3 4604418534313441775))) H) := by kernel_rfl
theorem E_impl_naturalLog_ok : ∀ g, FnOk Try.prog g (E_impl_naturalLog g) := FnOk.envOf (by
  intro x hx; cases hx)
theorem ω17 {P : Prop} (h : P := by first | omega | (simp; done) | (simp; omega) | (have := half_step (by assumption) (by assumption) (by assumption); omega)) : P := h
theorem ω20 {P : Prop} (h : P := by first | omega | (have := half_step (by assumption) (by assumption) (by assumption); omega)) : P := h
theorem ω13 {P : Prop} (h : P := by first | omega | (have := half_step (by assumption) (by assumption) (by assumption); omega) | (simp only [List.length_append, List.length_cons, List.length_nil, List.length_set]; done) | (simp only [List.length_append, List.length_cons, List.length_nil, List.length_set]; omega)) : P := h
theorem ω16 {P : Prop} (h : P := by first | omega | (simp; done) | (simp; omega) | (have := twice_step (by assumption) (by assumption) (by assumption); omega)) : P := h
theorem ω18 {P : Prop} (h : P := by first | omega | (have := twice_step (by assumption) (by assumption) (by assumption); omega)) : P := h
theorem ω12 {P : Prop} (h : P := by first | omega | (have := twice_step (by assumption) (by assumption) (by assumption); omega) | (simp only [List.length_append, List.length_cons, List.length_nil, List.length_set]; done) | (simp only [List.length_append, List.length_cons, List.length_nil, List.length_set]; omega)) : P := h
set_option maxHeartbeats 1000000 in
theorem impl_naturalLog_main (x : Nat) (H : AHeap) (K : Value → AHeap → Prop) (h : T_impl_naturalLog x H fun (r1 : Nat) (H' : AHeap) => K (.float .f64 r1) H') : bodyL Try.prog E_impl_naturalLog Try.f188 [.float .f64 x] H K := by
  rw [impl_naturalLog_vc]
  obtain ⟨pr0, pr1, hk⟩ := h
  have e : (p_impl_naturalLog x) = _ := rfl
  have e := e.trans (p_impl_naturalLog_eq x)
  have g0 := Grow.refl H
  refine impl_naturalLog_L1  (fun (μ : Nat) (x_0 : Nat) (ve : Nat) (H_1 : AHeap) => H = H_1 ∧ 4503599627370496 ≤ x_0 ∧ x_0 < 9218868437227405312 ∧ (x_0 : Int) ≤ (μ : Int) ∧ p_impl_naturalLog x = p_impl_naturalLog_l1 x (μ + 1) x_0 ve) (Int.toNat ((x : Int))) _ _ H ?_ ?_
  · exact ⟨rfl, ω17, ω17, ω3, e⟩
  · intro μ x_0 ve  H_1 hI
    obtain ⟨rfl, v_1, v_2, hμ, e⟩ := hI
    rw [impl_naturalLog_r1]
    have e := e.trans (p_impl_naturalLog_l1_s x μ x_0 ve)
    have l_3 := g0.1
    refine Br.intro (fun c_4 => ?_) (fun c_4 => ?_)
    · have e := e.trans (cond_t c_4)
      refine impl_naturalLog_n1 (μ - 1) ω20 ⟨rfl, ω13, ω13, ω20, (by rw [show μ - 1 + 1 = μ from by first | omega | (have := half_step (by assumption) (by assumption) (by assumption); omega)]; exact e)⟩
    · have e := e.trans (cond_f c_4)
      rw [impl_naturalLog_x1_0]
      refine impl_naturalLog_L2  (fun (μ2 : Nat) (x_0' : Nat) (ve_3 : Nat) (H_2 : AHeap) => H = H_2 ∧ 4503599627370496 ≤ x_0' ∧ x_0' < 9218868437227405312 ∧ (4604930618986332160 : Int) - x_0' ≤ (μ2 : Int) ∧ p_impl_naturalLog x = p_impl_naturalLog_l2 x x_0 ve (fun (x_0' : Nat) (ve_3 : Nat) => (p_impl_naturalLog_l3 x x_0 ve x_0' ve_3 (fun (q : Nat) (k : Nat) => fadd .f64 (fmul .f64 4611686018427387904 (fmul .f64 (fdiv .f64 (fsub .f64 x_0' 4607182418800017408) (fadd .f64 x_0' 4607182418800017408)) q)) (fmul .f64 ve_3 4604418534313441775)) (Int.toNat (cnt 4627730092099895296) + 1) 0 4627730092099895296)) (μ2 + 1) x_0' ve_3) (Int.toNat ((4604930618986332160 : Int) - x_0)) _ _ H ?_ ?_
      · exact ⟨rfl, ω16, ω16, ω3, e⟩
      · intro μ2 x_0' ve_3  H_2 hI
        obtain ⟨rfl, v_5, v_6, hμ, e⟩ := hI
        rw [impl_naturalLog_r2]
        have e := e.trans (p_impl_naturalLog_l2_s x x_0 ve (fun (x_0' : Nat) (ve_3 : Nat) => (p_impl_naturalLog_l3 x x_0 ve x_0' ve_3 (fun (q : Nat) (k : Nat) => fadd .f64 (fmul .f64 4611686018427387904 (fmul .f64 (fdiv .f64 (fsub .f64 x_0' 4607182418800017408) (fadd .f64 x_0' 4607182418800017408)) q)) (fmul .f64 ve_3 4604418534313441775)) (Int.toNat (cnt 4627730092099895296) + 1) 0 4627730092099895296)) μ2 x_0' ve_3)
        have l_7 := g0.1
        refine Br.intro (fun c_8 => ?_) (fun c_8 => ?_)
        · have e := e.trans (cond_t c_8)
          refine impl_naturalLog_n2 (μ2 - 1) ω18 ⟨rfl, ω12, ω12, ω18, (by rw [show μ2 - 1 + 1 = μ2 from by first | omega | (have := twice_step (by assumption) (by assumption) (by assumption); omega)]; exact e)⟩
        · have e := e.trans (cond_f c_8)
          rw [impl_naturalLog_x2_2]
          refine impl_naturalLog_L3 _ _ (fun (μ3 : Nat) (q : Nat) (k : Nat) (H_3 : AHeap) => H = H_3 ∧ isCnt k ∧ cnt k ≤ (μ3 : Int) ∧ p_impl_naturalLog x = p_impl_naturalLog_l3 x x_0 ve x_0' ve_3 (fun (q : Nat) (k : Nat) => fadd .f64 (fmul .f64 4611686018427387904 (fmul .f64 (fdiv .f64 (fsub .f64 x_0' 4607182418800017408) (fadd .f64 x_0' 4607182418800017408)) q)) (fmul .f64 ve_3 4604418534313441775)) (μ3 + 1) q k) (Int.toNat (cnt 4627730092099895296)) _ _ H ?_ ?_
          · exact ⟨rfl, (by first | omega | (simp; done) | (simp; omega) | (first | exact isCnt.of (n := 25) (by decide) (by decide) | exact (down2 (by assumption) (by assumption)).1)), ω3, e⟩
          · intro μ3 q k  H_3 hI
            obtain ⟨rfl, v_9, hμ, e⟩ := hI
            rw [impl_naturalLog_r3]
            have e := e.trans (p_impl_naturalLog_l3_s x x_0 ve x_0' ve_3 (fun (q : Nat) (k : Nat) => fadd .f64 (fmul .f64 4611686018427387904 (fmul .f64 (fdiv .f64 (fsub .f64 x_0' 4607182418800017408) (fadd .f64 x_0' 4607182418800017408)) q)) (fmul .f64 ve_3 4604418534313441775)) μ3 q k)
            have l_10 := g0.1
            refine Br.intro (fun c_11 => ?_) (fun c_11 => ?_)
            · have e := e.trans (cond_t c_11)
              refine impl_naturalLog_n3 (μ3 - 1) (by first | omega | (have := down2 (by assumption) (by assumption); omega)) ⟨rfl, (by first | omega | (first | exact isCnt.of (n := 25) (by decide) (by decide) | exact (down2 (by assumption) (by assumption)).1) | (simp only [List.length_append, List.length_cons, List.length_nil, List.length_set]; done) | (simp only [List.length_append, List.length_cons, List.length_nil, List.length_set]; omega)), (by first | omega | (have := down2 (by assumption) (by assumption); omega)), (by rw [show μ3 - 1 + 1 = μ3 from by first | omega | (have := down2 (by assumption) (by assumption); omega)]; exact e)⟩
            · have e := e.trans (cond_f c_11)
              rw [impl_naturalLog_x3_4]
              rw [e] at hk
              exact hk
theorem impl_naturalLog_ok : FnOk Try.prog 188 S_impl_naturalLog := by
  refine FnOk.body mix_ok E_impl_naturalLog_ok Try.func188 rfl (by kernel_rfl) (by kernel_rfl) ?_ ?_ ?_ ?_ ?_
  · intro args H K K' h hk
    simp only [S_impl_naturalLog] at *
    unfold F_impl_naturalLog at *
    split at hk
    · obtain ⟨pr0, pr1, k⟩ := hk
      exact ⟨pr0, pr1, h _ _ k⟩
    · exact hk.elim
  · intro _ args H K hk
    simp only [S_impl_naturalLog] at *
    unfold F_impl_naturalLog at *
    split at hk
    · obtain ⟨pr0, pr1, k⟩ := hk
      exact ⟨_, k, fun K' k' => ⟨pr0, pr1, k'⟩⟩
    · exact hk.elim
  · intro args H K hk
    simp only [S_impl_naturalLog] at *
    unfold F_impl_naturalLog at *
    split at hk
    · obtain ⟨pr0, pr1, k⟩ := hk
      exact ⟨_, _, k⟩
    · exact hk.elim
  · intro hq; cases hq
  · have mm := @impl_naturalLog_main
    have ml := fun (args : List Value) (H : AHeap) (K : Value → AHeap → Prop) => bodyL_body (P := Try.prog) (env := E_impl_naturalLog ) (fn := Try.f188) (args := args) (H := H) (K := K) E_impl_naturalLog_ok 
    revert mm ml
    generalize bodyK Try.prog E_impl_naturalLog Try.f188 = Q
    generalize bodyL Try.prog E_impl_naturalLog Try.f188 = QL
    intro mm ml args H K hk
    simp only [S_impl_naturalLog] at *
    unfold F_impl_naturalLog at *
    split at hk
    · exact ml _ H K (mm _ H K hk)
    · exact hk.elim

def p_impl_LogNumber (x : Nat) : Nat := (bif feq .f32 x 0 then ((fnarrow ((p_math_Inf ((-1) : Int)))).getD 0) else (bif flt .f32 x 0 then ((fnarrow p_math_NaN).getD 0) else (bif !(feq .f32 x x) then ((fnarrow p_math_NaN).getD 0) else (bif !(p_impl_IsFinite x) then x else ((fnarrow ((p_impl_naturalLog (fwide x)))).getD 0)))))
def p_impl_LogNumber_eq := @p_impl_LogNumber.eq_1
def T_impl_LogNumber (x : Nat) (H : AHeap) (K : Nat → AHeap → Prop) : Prop := K (p_impl_LogNumber x) H
theorem T_impl_LogNumber_i {x : Nat} {H : AHeap} {K : Nat → AHeap → Prop} (h : K (p_impl_LogNumber x) H) : T_impl_LogNumber x H K := h
theorem log_pre {x : Nat} (h0 : feq .f32 x 0 = false) (h1 : flt .f32 x 0 = false) (h2 : p_impl_IsFinite x = true) : 4503599627370496 ≤ fwide x ∧ fwide x < 9218868437227405312 :=
  log_pre' h0 h1 (by rw [← fin_asked x]; exact h2)
/-! impl_LogNumber: function 147 -/
def E_impl_LogNumber : Env := envOf [(186, S_math_Inf), (187, S_math_NaN), (133, S_impl_IsFinite), (188, S_impl_naturalLog)]
def F_impl_LogNumber : List Value → AHeap → (Value → AHeap → Prop) → Prop
  | [.float .f32 x], H, K => T_impl_LogNumber x H fun (r1 : Nat) (H' : AHeap) => K (.float .f32 r1) H'
  | _, _, _ => False
def S_impl_LogNumber : FSpec := { F := F_impl_LogNumber, quiet := true, tame := false }
theorem impl_LogNumber_vc (x : Nat) (H : AHeap) (K : Value → AHeap → Prop) : bodyL Try.prog E_impl_LogNumber Try.f147 [.float .f32 x] H K =
  (Br (feq .f32 x 0) (T_math_Inf (-1) H fun (r1 : Nat) (H1 : AHeap) => ∃ x1 : Nat, fnarrow r1 = some x1 ∧ K (.float .f32 x1) H1) (Br (flt .f32 x 0) (T_math_NaN  H fun (r2 : Nat) (H2 : AHeap) => ∃ x2 : Nat, fnarrow r2 = some x2 ∧ K (.float .f32 x2) H2) (Br (!(feq .f32 x x)) (T_math_NaN  H fun (r3 : Nat) (H3 : AHeap) => ∃ x3 : Nat, fnarrow r3 = some x3 ∧ K (.float .f32 x3) H3) (T_impl_IsFinite x H fun (r4 : Bool) (H4 : AHeap) => Br (!r4) (K (.float .f32 x) H4) (T_impl_naturalLog (fwide x) H4 fun (r5 : Nat) (H5 : AHeap) => ∃ x4 : Nat, fnarrow r5 = some x4 ∧ K (.float .f32 x4) H5))))) := by kernel_rfl
theorem E_impl_LogNumber_ok : ∀ g, FnOk Try.prog g (E_impl_LogNumber g) := FnOk.envOf (by
  intro x hx
  simp only [List.mem_cons, List.not_mem_nil, or_false] at hx
  rcases hx with rfl | rfl | rfl | rfl
  · exact math_Inf_ok
  · exact math_NaN_ok
  · exact impl_IsFinite_ok
  · exact impl_naturalLog_ok)
theorem ω14 {P : Prop} (h : P := by first | assumption | omega | (simp; omega) | (first | exact (log_pre (by assumption) (by assumption) (by assumption)).1 | exact (log_pre (by assumption) (by assumption) (by assumption)).2)) : P := h
set_option maxHeartbeats 1000000 in
theorem impl_LogNumber_main (x : Nat) (H : AHeap) (K : Value → AHeap → Prop) (h : T_impl_LogNumber x H fun (r1 : Nat) (H' : AHeap) => K (.float .f32 r1) H') : bodyL Try.prog E_impl_LogNumber Try.f147 [.float .f32 x] H K := by
  rw [impl_LogNumber_vc]
  have hk := h
  unfold T_impl_LogNumber at hk
  have e : (p_impl_LogNumber x) = _ := rfl
  have e := e.trans (p_impl_LogNumber_eq x)
  have g0 := Grow.refl H
  refine Br.intro (fun c_1 => ?_) (fun c_1 => ?_)
  · have e := e.trans (cond_t c_1)
    refine T_math_Inf_i ?_
    refine ⟨_, opt_get (d := 0) (by decide +kernel), ?_⟩
    rw [e] at hk
    exact hk
  · have e := e.trans (cond_f c_1)
    refine Br.intro (fun c_2 => ?_) (fun c_2 => ?_)
    · have e := e.trans (cond_t c_2)
      refine T_math_NaN_i ?_
      refine ⟨_, opt_get (d := 0) (by decide +kernel), ?_⟩
      rw [e] at hk
      exact hk
    · have e := e.trans (cond_f c_2)
      refine Br.intro (fun c_3 => ?_) (fun c_3 => ?_)
      · have e := e.trans (cond_t c_3)
        have c_3n := nf_of_t c_3
        refine T_math_NaN_i ?_
        refine ⟨_, opt_get (d := 0) (by decide +kernel), ?_⟩
        rw [e] at hk
        exact hk
      · have e := e.trans (cond_f c_3)
        have c_3n := nt_of_f c_3
        refine T_impl_IsFinite_i ?_
        refine Br.intro (fun c_4 => ?_) (fun c_4 => ?_)
        · have e := e.trans (cond_t c_4)
          have c_4n := nf_of_t c_4
          rw [e] at hk
          exact hk
        · have e := e.trans (cond_f c_4)
          have c_4n := nt_of_f c_4
          refine T_impl_naturalLog_i ⟨ω14, ω14, ?_⟩
          refine ⟨_, opt_get (d := 0) (by exact impl_naturalLog_nar (log_pre (by assumption) (by assumption) (by assumption))), ?_⟩
          rw [e] at hk
          exact hk
theorem impl_LogNumber_ok : FnOk Try.prog 147 S_impl_LogNumber := by
  refine FnOk.body mix_ok E_impl_LogNumber_ok Try.func147 rfl (by kernel_rfl) (by kernel_rfl) ?_ ?_ ?_ ?_ ?_
  · intro args H K K' h hk
    simp only [S_impl_LogNumber] at *
    unfold F_impl_LogNumber at *
    split at hk
    · have k := hk
      exact h _ _ k
    · exact hk.elim
  · intro _ args H K hk
    simp only [S_impl_LogNumber] at *
    unfold F_impl_LogNumber at *
    split at hk
    · have k := hk
      exact ⟨_, k, fun K' k' => k'⟩
    · exact hk.elim
  · intro args H K hk
    simp only [S_impl_LogNumber] at *
    unfold F_impl_LogNumber at *
    split at hk
    · have k := hk
      exact ⟨_, _, k⟩
    · exact hk.elim
  · intro hq; cases hq
  · have mm := @impl_LogNumber_main
    have ml := fun (args : List Value) (H : AHeap) (K : Value → AHeap → Prop) => bodyL_body (P := Try.prog) (env := E_impl_LogNumber ) (fn := Try.f147) (args := args) (H := H) (K := K) E_impl_LogNumber_ok 
    revert mm ml
    generalize bodyK Try.prog E_impl_LogNumber Try.f147 = Q
    generalize bodyL Try.prog E_impl_LogNumber Try.f147 = QL
    intro mm ml args H K hk
    simp only [S_impl_LogNumber] at *
    unfold F_impl_LogNumber at *
    split at hk
    · exact ml _ H K (mm _ H K hk)
    · exact hk.elim
def p_math_sqrt (x : Nat) : Nat := fsqrt .f64 x
def T_math_sqrt (x : Nat) (H : AHeap) (K : Nat → AHeap → Prop) : Prop := K (p_math_sqrt x) H
def F_math_sqrt : List Value → AHeap → (Value → AHeap → Prop) → Prop
  | [.float .f64 x], H, K => T_math_sqrt x H fun r1 H' => K (.float .f64 r1) H'
  | _, _, _ => False
def S_math_sqrt : FSpec := { F := F_math_sqrt, quiet := true }
theorem math_sqrt_ok : FnOk Try.prog 207 S_math_sqrt := by
  refine FnOk.ext1 (f := p_math_sqrt) (e := Extern.MathSqrt.sqrt) rfl ?_ (fun x H K h => h) Try.func207 (by kernel_rfl) (by kernel_rfl) (by kernel_rfl) (by kernel_rfl) (fun b w => ext_sqrt b w)
  intro args H K h
  simp only [S_math_sqrt] at h
  unfold F_math_sqrt at h
  split at h
  · exact ⟨_, rfl, h⟩
  · exact h.elim

def p_math_Sqrt (x : Nat) : Nat := (p_math_sqrt x)
def T_math_Sqrt (x : Nat) (H : AHeap) (K : Nat → AHeap → Prop) : Prop := K (p_math_Sqrt x) H

theorem T_math_Sqrt_i {x : Nat} {H : AHeap} {K : Nat → AHeap → Prop} (h : K (p_math_Sqrt x) H) : T_math_Sqrt x H K := h
/-! math_Sqrt: function 184 -/
def E_math_Sqrt : Env := envOf [(207, S_math_sqrt)]
def F_math_Sqrt : List Value → AHeap → (Value → AHeap → Prop) → Prop
  | [.float .f64 x], H, K => T_math_Sqrt x H fun (r1 : Nat) (H' : AHeap) => K (.float .f64 r1) H'
  | _, _, _ => False
def S_math_Sqrt : FSpec := { F := F_math_Sqrt, quiet := true, tame := false }
theorem math_Sqrt_vc (x : Nat) (H : AHeap) (K : Value → AHeap → Prop) : bodyL Try.prog E_math_Sqrt Try.f184 [.float .f64 x] H K =
  (T_math_sqrt x H fun (r1 : Nat) (H1 : AHeap) => K (.float .f64 r1) H1) := by kernel_rfl
theorem E_math_Sqrt_ok : ∀ g, FnOk Try.prog g (E_math_Sqrt g) := FnOk.envOf (by
  intro x hx
  simp only [List.mem_cons, List.not_mem_nil, or_false] at hx
  subst hx; exact math_sqrt_ok)
set_option maxHeartbeats 1000000 in
theorem math_Sqrt_main (x : Nat) (H : AHeap) (K : Value → AHeap → Prop) (h : T_math_Sqrt x H fun (r1 : Nat) (H' : AHeap) => K (.float .f64 r1) H') : bodyL Try.prog E_math_Sqrt Try.f184 [.float .f64 x] H K := by
  rw [math_Sqrt_vc]
  simp only [T_math_sqrt]
  unfold T_math_Sqrt p_math_Sqrt at h
  repeat' (first | exact h | (exfalso; simp_all; done) | (refine ⟨by decide, ?_⟩) | (refine Br.intro (fun hb => ?_) (fun hb => ?_) <;> (try simp only [hb, cond_true, cond_false, Bool.not_true, Bool.not_false] at h)))
theorem math_Sqrt_ok : FnOk Try.prog 184 S_math_Sqrt := by
  refine FnOk.body mix_ok E_math_Sqrt_ok Try.func184 rfl (by kernel_rfl) (by kernel_rfl) ?_ ?_ ?_ ?_ ?_
  · intro args H K K' h hk
    simp only [S_math_Sqrt] at *
    unfold F_math_Sqrt at *
    split at hk
    · have k := hk
      exact h _ _ k
    · exact hk.elim
  · intro _ args H K hk
    simp only [S_math_Sqrt] at *
    unfold F_math_Sqrt at *
    split at hk
    · have k := hk
      exact ⟨_, k, fun K' k' => k'⟩
    · exact hk.elim
  · intro args H K hk
    simp only [S_math_Sqrt] at *
    unfold F_math_Sqrt at *
    split at hk
    · have k := hk
      exact ⟨_, _, k⟩
    · exact hk.elim
  · intro hq; cases hq
  · have mm := @math_Sqrt_main
    have ml := fun (args : List Value) (H : AHeap) (K : Value → AHeap → Prop) => bodyL_body (P := Try.prog) (env := E_math_Sqrt ) (fn := Try.f184) (args := args) (H := H) (K := K) E_math_Sqrt_ok 
    revert mm ml
    generalize bodyK Try.prog E_math_Sqrt Try.f184 = Q
    generalize bodyL Try.prog E_math_Sqrt Try.f184 = QL
    intro mm ml args H K hk
    simp only [S_math_Sqrt] at *
    unfold F_math_Sqrt at *
    split at hk
    · exact ml _ H K (mm _ H K hk)
    · exact hk.elim

def p_impl_RootNumber (x : Nat) : Nat := ((fnarrow ((p_math_Sqrt (fwide x)))).getD 0)
def p_impl_RootNumber_eq := @p_impl_RootNumber.eq_1
def T_impl_RootNumber (x : Nat) (H : AHeap) (K : Nat → AHeap → Prop) : Prop := K (p_impl_RootNumber x) H
theorem T_impl_RootNumber_i {x : Nat} {H : AHeap} {K : Nat → AHeap → Prop} (h : K (p_impl_RootNumber x) H) : T_impl_RootNumber x H K := h

/-! impl_RootNumber: function 145 -/
def E_impl_RootNumber : Env := envOf [(184, S_math_Sqrt)]
def F_impl_RootNumber : List Value → AHeap → (Value → AHeap → Prop) → Prop
  | [.float .f32 x], H, K => T_impl_RootNumber x H fun (r1 : Nat) (H' : AHeap) => K (.float .f32 r1) H'
  | _, _, _ => False
def S_impl_RootNumber : FSpec := { F := F_impl_RootNumber, quiet := true, tame := false }
theorem impl_RootNumber_vc (x : Nat) (H : AHeap) (K : Value → AHeap → Prop) : bodyL Try.prog E_impl_RootNumber Try.f145 [.float .f32 x] H K =
  (T_math_Sqrt (fwide x) H fun (r1 : Nat) (H1 : AHeap) => ∃ x1 : Nat, fnarrow r1 = some x1 ∧ K (.float .f32 x1) H1) := by kernel_rfl
theorem E_impl_RootNumber_ok : ∀ g, FnOk Try.prog g (E_impl_RootNumber g) := FnOk.envOf (by
  intro x hx
  simp only [List.mem_cons, List.not_mem_nil, or_false] at hx
  subst hx; exact math_Sqrt_ok)
set_option maxHeartbeats 1000000 in
theorem impl_RootNumber_main (x : Nat) (H : AHeap) (K : Value → AHeap → Prop) (h : T_impl_RootNumber x H fun (r1 : Nat) (H' : AHeap) => K (.float .f32 r1) H') : bodyL Try.prog E_impl_RootNumber Try.f145 [.float .f32 x] H K := by
  rw [impl_RootNumber_vc]
  have hk := h
  unfold T_impl_RootNumber at hk
  have e : (p_impl_RootNumber x) = _ := rfl
  have e := e.trans (p_impl_RootNumber_eq x)
  have g0 := Grow.refl H
  refine T_math_Sqrt_i ?_
  refine ⟨_, opt_get (d := 0) (by exact sqrt_nar _), ?_⟩
  rw [e] at hk
  exact hk
theorem impl_RootNumber_ok : FnOk Try.prog 145 S_impl_RootNumber := by
  refine FnOk.body mix_ok E_impl_RootNumber_ok Try.func145 rfl (by kernel_rfl) (by kernel_rfl) ?_ ?_ ?_ ?_ ?_
  · intro args H K K' h hk
    simp only [S_impl_RootNumber] at *
    unfold F_impl_RootNumber at *
    split at hk
    · have k := hk
      exact h _ _ k
    · exact hk.elim
  · intro _ args H K hk
    simp only [S_impl_RootNumber] at *
    unfold F_impl_RootNumber at *
    split at hk
    · have k := hk
      exact ⟨_, k, fun K' k' => k'⟩
    · exact hk.elim
  · intro args H K hk
    simp only [S_impl_RootNumber] at *
    unfold F_impl_RootNumber at *
    split at hk
    · have k := hk
      exact ⟨_, _, k⟩
    · exact hk.elim
  · intro hq; cases hq
  · have mm := @impl_RootNumber_main
    have ml := fun (args : List Value) (H : AHeap) (K : Value → AHeap → Prop) => bodyL_body (P := Try.prog) (env := E_impl_RootNumber ) (fn := Try.f145) (args := args) (H := H) (K := K) E_impl_RootNumber_ok 
    revert mm ml
    generalize bodyK Try.prog E_impl_RootNumber Try.f145 = Q
    generalize bodyL Try.prog E_impl_RootNumber Try.f145 = QL
    intro mm ml args H K hk
    simp only [S_impl_RootNumber] at *
    unfold F_impl_RootNumber at *
    split at hk
    · exact ml _ H K (mm _ H K hk)
    · exact hk.elim

def p_impl_PlainLimit (noise : Nat) (count : Int) : Nat × Bool := (bif !(p_impl_isLeast noise) then (0, false) else (bif !((p_impl_within count (1 : Int) (128 : Int))) then (0, false) else ((p_impl_finite (fmul .f32 noise ((p_impl_RootNumber (fmul .f32 1073741824 ((p_impl_LogNumber (FloatKind.nearest .f32 count)))))))).1, (p_impl_finite (fmul .f32 noise ((p_impl_RootNumber (fmul .f32 1073741824 ((p_impl_LogNumber (FloatKind.nearest .f32 count)))))))).2)))
def p_impl_PlainLimit_eq := @p_impl_PlainLimit.eq_1
def T_impl_PlainLimit (noise : Nat) (count : Int) (H : AHeap) (K : Nat → Bool → AHeap → Prop) : Prop := K ((p_impl_PlainLimit noise count).1) ((p_impl_PlainLimit noise count).2) H
theorem T_impl_PlainLimit_i {noise : Nat} {count : Int} {H : AHeap} {K : Nat → Bool → AHeap → Prop} (h : K ((p_impl_PlainLimit noise count).1) ((p_impl_PlainLimit noise count).2) H) : T_impl_PlainLimit noise count H K := h

/-! impl_PlainLimit: function 70 -/
def E_impl_PlainLimit : Env := envOf [(106, S_impl_isLeast), (96, S_impl_within), (147, S_impl_LogNumber), (145, S_impl_RootNumber), (117, S_impl_finite)]
def F_impl_PlainLimit : List Value → AHeap → (Value → AHeap → Prop) → Prop
  | [.float .f32 noise, .int .i64 count], H, K => T_impl_PlainLimit noise count H fun (r1 : Nat) (r2 : Bool) (H' : AHeap) => K (.tuple #[.float .f32 r1, .bool r2]) H'
  | _, _, _ => False
def S_impl_PlainLimit : FSpec := { F := F_impl_PlainLimit, quiet := true, tame := false }
theorem impl_PlainLimit_vc (noise : Nat) (count : Int) (H : AHeap) (K : Value → AHeap → Prop) : bodyL Try.prog E_impl_PlainLimit Try.f70 [.float .f32 noise, .int .i64 count] H K =
  (T_impl_isLeast noise H fun (r1 : Bool) (H1 : AHeap) => Br (!r1) (K (.tuple #[.float .f32 0, .bool false]) H1) (T_impl_within count 1 128 H1 fun (r2 : Bool) (H2 : AHeap) => Br (!r2) (K (.tuple #[.float .f32 0, .bool false]) H2) (T_impl_LogNumber (FloatKind.nearest .f32 count) H2 fun (r3 : Nat) (H3 : AHeap) => T_impl_RootNumber (fmul .f32 1073741824 r3) H3 fun (r4 : Nat) (H4 : AHeap) => T_impl_finite (fmul .f32 noise r4) H4 fun (r5 : Nat) (r6 : Bool) (H5 : AHeap) => K (.tuple #[.float .f32 r5, .bool r6]) H5))) := by kernel_rfl
theorem E_impl_PlainLimit_ok : ∀ g, FnOk Try.prog g (E_impl_PlainLimit g) := FnOk.envOf (by
  intro x hx
  simp only [List.mem_cons, List.not_mem_nil, or_false] at hx
  rcases hx with rfl | rfl | rfl | rfl | rfl
  · exact impl_isLeast_ok
  · exact impl_within_ok
  · exact impl_LogNumber_ok
  · exact impl_RootNumber_ok
  · exact impl_finite_ok)
set_option maxHeartbeats 1000000 in
theorem impl_PlainLimit_main (noise : Nat) (count : Int) (H : AHeap) (K : Value → AHeap → Prop) (h : T_impl_PlainLimit noise count H fun (r1 : Nat) (r2 : Bool) (H' : AHeap) => K (.tuple #[.float .f32 r1, .bool r2]) H') : bodyL Try.prog E_impl_PlainLimit Try.f70 [.float .f32 noise, .int .i64 count] H K := by
  rw [impl_PlainLimit_vc]
  have hk := h
  unfold T_impl_PlainLimit at hk
  have e : (p_impl_PlainLimit noise count) = _ := rfl
  have e := e.trans (p_impl_PlainLimit_eq noise count)
  have g0 := Grow.refl H
  refine T_impl_isLeast_i ?_
  refine Br.intro (fun c_1 => ?_) (fun c_1 => ?_)
  · have e := e.trans (cond_t c_1)
    have c_1n := nf_of_t c_1
    rw [e] at hk
    exact hk
  · have e := e.trans (cond_f c_1)
    have c_1n := nt_of_f c_1
    refine T_impl_within_i ?_
    refine Br.intro (fun c_2 => ?_) (fun c_2 => ?_)
    · have e := e.trans (cond_t c_2)
      have c_2n := nf_of_t c_2
      rw [e] at hk
      exact hk
    · have e := e.trans (cond_f c_2)
      have c_2n := nt_of_f c_2
      have c_2n' := impl_within_t c_2n
      refine T_impl_LogNumber_i ?_
      refine T_impl_RootNumber_i ?_
      refine T_impl_finite_i ?_
      rw [e] at hk
      exact hk
theorem impl_PlainLimit_ok : FnOk Try.prog 70 S_impl_PlainLimit := by
  refine FnOk.body mix_ok E_impl_PlainLimit_ok Try.func70 rfl (by kernel_rfl) (by kernel_rfl) ?_ ?_ ?_ ?_ ?_
  · intro args H K K' h hk
    simp only [S_impl_PlainLimit] at *
    unfold F_impl_PlainLimit at *
    split at hk
    · have k := hk
      exact h _ _ k
    · exact hk.elim
  · intro _ args H K hk
    simp only [S_impl_PlainLimit] at *
    unfold F_impl_PlainLimit at *
    split at hk
    · have k := hk
      exact ⟨_, k, fun K' k' => k'⟩
    · exact hk.elim
  · intro args H K hk
    simp only [S_impl_PlainLimit] at *
    unfold F_impl_PlainLimit at *
    split at hk
    · have k := hk
      exact ⟨_, _, k⟩
    · exact hk.elim
  · intro hq; cases hq
  · have mm := @impl_PlainLimit_main
    have ml := fun (args : List Value) (H : AHeap) (K : Value → AHeap → Prop) => bodyL_body (P := Try.prog) (env := E_impl_PlainLimit ) (fn := Try.f70) (args := args) (H := H) (K := K) E_impl_PlainLimit_ok 
    revert mm ml
    generalize bodyK Try.prog E_impl_PlainLimit Try.f70 = Q
    generalize bodyL Try.prog E_impl_PlainLimit Try.f70 = QL
    intro mm ml args H K hk
    simp only [S_impl_PlainLimit] at *
    unfold F_impl_PlainLimit at *
    split at hk
    · exact ml _ H K (mm _ _ H K hk)
    · exact hk.elim

def p_laws_FnLimits_l1 (l_code : List UInt8) (l_more : List UInt8) : Nat → Bool → Int → Int → Bool → Int → Bool
  | 0, _, _, _, _, _ => false
  | μ + 1, t4, below, above, vin, t96 => (bif decide ((t96 : Int) < (((p_spec_B10Signal l_code (IntKind.wrap .i64 (1 + ((p_laws_b10At l_more (0 : Int) (16 : Int))))))).length : Int)) then (bif flt .f32 ((((p_spec_B10Signal l_code (IntKind.wrap .i64 (1 + ((p_laws_b10At l_more (0 : Int) (16 : Int))))))).getD (t96 : Int).toNat 0)) ((p_impl_MedianOf ((p_spec_B10Signal l_code (IntKind.wrap .i64 (1 + ((p_laws_b10At l_more (0 : Int) (16 : Int)))))))).1) then (bif flt .f32 ((p_impl_MedianOf ((p_spec_B10Signal l_code (IntKind.wrap .i64 (1 + ((p_laws_b10At l_more (0 : Int) (16 : Int)))))))).1) ((((p_spec_B10Signal l_code (IntKind.wrap .i64 (1 + ((p_laws_b10At l_more (0 : Int) (16 : Int))))))).getD (t96 : Int).toNat 0)) then (bif vin then (bif !((p_impl_RiskOf ((p_spec_B10Signal l_code (IntKind.wrap .i64 (1 + ((p_laws_b10At l_more (0 : Int) (16 : Int))))))) (fdiv .f32 (FloatKind.nearest .f32 (IntKind.wrap .i64 (1 + ((p_laws_b10At l_more (1 : Int) (8 : Int)))))) 1082130432) (((fnarrow ((p_laws_b10Gap (fwide ((((p_spec_B10Signal l_code (IntKind.wrap .i64 (1 + ((p_laws_b10At l_more (0 : Int) (16 : Int))))))).getD (t96 : Int).toNat 0))) 0))).getD 0))).2) then false else (bif flt .f32 ((p_impl_RiskOf ((p_spec_B10Signal l_code (IntKind.wrap .i64 (1 + ((p_laws_b10At l_more (0 : Int) (16 : Int))))))) (fdiv .f32 (FloatKind.nearest .f32 (IntKind.wrap .i64 (1 + ((p_laws_b10At l_more (1 : Int) (8 : Int)))))) 1082130432) (((fnarrow ((p_laws_b10Gap (fwide ((((p_spec_B10Signal l_code (IntKind.wrap .i64 (1 + ((p_laws_b10At l_more (0 : Int) (16 : Int))))))).getD (t96 : Int).toNat 0))) 0))).getD 0))).1) ((p_impl_BestLimit ((p_spec_B10Signal l_code (IntKind.wrap .i64 (1 + ((p_laws_b10At l_more (0 : Int) (16 : Int))))))) (fdiv .f32 (FloatKind.nearest .f32 (IntKind.wrap .i64 (1 + ((p_laws_b10At l_more (1 : Int) (8 : Int)))))) 1082130432)).2.1) then false else (p_laws_FnLimits_l1 l_code l_more μ t4 (below + 1) (above + 1) true (t96 + 1)))) else (bif !((p_impl_RiskOf ((p_spec_B10Signal l_code (IntKind.wrap .i64 (1 + ((p_laws_b10At l_more (0 : Int) (16 : Int))))))) (fdiv .f32 (FloatKind.nearest .f32 (IntKind.wrap .i64 (1 + ((p_laws_b10At l_more (1 : Int) (8 : Int)))))) 1082130432) (((fnarrow ((p_laws_b10Gap (fwide ((((p_spec_B10Signal l_code (IntKind.wrap .i64 (1 + ((p_laws_b10At l_more (0 : Int) (16 : Int))))))).getD (t96 : Int).toNat 0))) 0))).getD 0))).2) then false else (bif flt .f32 ((p_impl_RiskOf ((p_spec_B10Signal l_code (IntKind.wrap .i64 (1 + ((p_laws_b10At l_more (0 : Int) (16 : Int))))))) (fdiv .f32 (FloatKind.nearest .f32 (IntKind.wrap .i64 (1 + ((p_laws_b10At l_more (1 : Int) (8 : Int)))))) 1082130432) (((fnarrow ((p_laws_b10Gap (fwide ((((p_spec_B10Signal l_code (IntKind.wrap .i64 (1 + ((p_laws_b10At l_more (0 : Int) (16 : Int))))))).getD (t96 : Int).toNat 0))) 0))).getD 0))).1) ((p_impl_BestLimit ((p_spec_B10Signal l_code (IntKind.wrap .i64 (1 + ((p_laws_b10At l_more (0 : Int) (16 : Int))))))) (fdiv .f32 (FloatKind.nearest .f32 (IntKind.wrap .i64 (1 + ((p_laws_b10At l_more (1 : Int) (8 : Int)))))) 1082130432)).2.1) then false else (p_laws_FnLimits_l1 l_code l_more μ t4 (below + 1) (above + 1) (feq .f32 ((((p_spec_B10Signal l_code (IntKind.wrap .i64 (1 + ((p_laws_b10At l_more (0 : Int) (16 : Int))))))).getD (t96 : Int).toNat 0)) ((p_impl_MedianOf ((p_spec_B10Signal l_code (IntKind.wrap .i64 (1 + ((p_laws_b10At l_more (0 : Int) (16 : Int)))))))).1)) (t96 + 1))))) else (bif vin then (bif !((p_impl_RiskOf ((p_spec_B10Signal l_code (IntKind.wrap .i64 (1 + ((p_laws_b10At l_more (0 : Int) (16 : Int))))))) (fdiv .f32 (FloatKind.nearest .f32 (IntKind.wrap .i64 (1 + ((p_laws_b10At l_more (1 : Int) (8 : Int)))))) 1082130432) (((fnarrow ((p_laws_b10Gap (fwide ((((p_spec_B10Signal l_code (IntKind.wrap .i64 (1 + ((p_laws_b10At l_more (0 : Int) (16 : Int))))))).getD (t96 : Int).toNat 0))) 0))).getD 0))).2) then false else (bif flt .f32 ((p_impl_RiskOf ((p_spec_B10Signal l_code (IntKind.wrap .i64 (1 + ((p_laws_b10At l_more (0 : Int) (16 : Int))))))) (fdiv .f32 (FloatKind.nearest .f32 (IntKind.wrap .i64 (1 + ((p_laws_b10At l_more (1 : Int) (8 : Int)))))) 1082130432) (((fnarrow ((p_laws_b10Gap (fwide ((((p_spec_B10Signal l_code (IntKind.wrap .i64 (1 + ((p_laws_b10At l_more (0 : Int) (16 : Int))))))).getD (t96 : Int).toNat 0))) 0))).getD 0))).1) ((p_impl_BestLimit ((p_spec_B10Signal l_code (IntKind.wrap .i64 (1 + ((p_laws_b10At l_more (0 : Int) (16 : Int))))))) (fdiv .f32 (FloatKind.nearest .f32 (IntKind.wrap .i64 (1 + ((p_laws_b10At l_more (1 : Int) (8 : Int)))))) 1082130432)).2.1) then false else (p_laws_FnLimits_l1 l_code l_more μ t4 (below + 1) above true (t96 + 1)))) else (bif !((p_impl_RiskOf ((p_spec_B10Signal l_code (IntKind.wrap .i64 (1 + ((p_laws_b10At l_more (0 : Int) (16 : Int))))))) (fdiv .f32 (FloatKind.nearest .f32 (IntKind.wrap .i64 (1 + ((p_laws_b10At l_more (1 : Int) (8 : Int)))))) 1082130432) (((fnarrow ((p_laws_b10Gap (fwide ((((p_spec_B10Signal l_code (IntKind.wrap .i64 (1 + ((p_laws_b10At l_more (0 : Int) (16 : Int))))))).getD (t96 : Int).toNat 0))) 0))).getD 0))).2) then false else (bif flt .f32 ((p_impl_RiskOf ((p_spec_B10Signal l_code (IntKind.wrap .i64 (1 + ((p_laws_b10At l_more (0 : Int) (16 : Int))))))) (fdiv .f32 (FloatKind.nearest .f32 (IntKind.wrap .i64 (1 + ((p_laws_b10At l_more (1 : Int) (8 : Int)))))) 1082130432) (((fnarrow ((p_laws_b10Gap (fwide ((((p_spec_B10Signal l_code (IntKind.wrap .i64 (1 + ((p_laws_b10At l_more (0 : Int) (16 : Int))))))).getD (t96 : Int).toNat 0))) 0))).getD 0))).1) ((p_impl_BestLimit ((p_spec_B10Signal l_code (IntKind.wrap .i64 (1 + ((p_laws_b10At l_more (0 : Int) (16 : Int))))))) (fdiv .f32 (FloatKind.nearest .f32 (IntKind.wrap .i64 (1 + ((p_laws_b10At l_more (1 : Int) (8 : Int)))))) 1082130432)).2.1) then false else (p_laws_FnLimits_l1 l_code l_more μ t4 (below + 1) above (feq .f32 ((((p_spec_B10Signal l_code (IntKind.wrap .i64 (1 + ((p_laws_b10At l_more (0 : Int) (16 : Int))))))).getD (t96 : Int).toNat 0)) ((p_impl_MedianOf ((p_spec_B10Signal l_code (IntKind.wrap .i64 (1 + ((p_laws_b10At l_more (0 : Int) (16 : Int)))))))).1)) (t96 + 1)))))) else (bif flt .f32 ((p_impl_MedianOf ((p_spec_B10Signal l_code (IntKind.wrap .i64 (1 + ((p_laws_b10At l_more (0 : Int) (16 : Int)))))))).1) ((((p_spec_B10Signal l_code (IntKind.wrap .i64 (1 + ((p_laws_b10At l_more (0 : Int) (16 : Int))))))).getD (t96 : Int).toNat 0)) then (bif vin then (bif !((p_impl_RiskOf ((p_spec_B10Signal l_code (IntKind.wrap .i64 (1 + ((p_laws_b10At l_more (0 : Int) (16 : Int))))))) (fdiv .f32 (FloatKind.nearest .f32 (IntKind.wrap .i64 (1 + ((p_laws_b10At l_more (1 : Int) (8 : Int)))))) 1082130432) (((fnarrow ((p_laws_b10Gap (fwide ((((p_spec_B10Signal l_code (IntKind.wrap .i64 (1 + ((p_laws_b10At l_more (0 : Int) (16 : Int))))))).getD (t96 : Int).toNat 0))) 0))).getD 0))).2) then false else (bif flt .f32 ((p_impl_RiskOf ((p_spec_B10Signal l_code (IntKind.wrap .i64 (1 + ((p_laws_b10At l_more (0 : Int) (16 : Int))))))) (fdiv .f32 (FloatKind.nearest .f32 (IntKind.wrap .i64 (1 + ((p_laws_b10At l_more (1 : Int) (8 : Int)))))) 1082130432) (((fnarrow ((p_laws_b10Gap (fwide ((((p_spec_B10Signal l_code (IntKind.wrap .i64 (1 + ((p_laws_b10At l_more (0 : Int) (16 : Int))))))).getD (t96 : Int).toNat 0))) 0))).getD 0))).1) ((p_impl_BestLimit ((p_spec_B10Signal l_code (IntKind.wrap .i64 (1 + ((p_laws_b10At l_more (0 : Int) (16 : Int))))))) (fdiv .f32 (FloatKind.nearest .f32 (IntKind.wrap .i64 (1 + ((p_laws_b10At l_more (1 : Int) (8 : Int)))))) 1082130432)).2.1) then false else (p_laws_FnLimits_l1 l_code l_more μ t4 below (above + 1) true (t96 + 1)))) else (bif !((p_impl_RiskOf ((p_spec_B10Signal l_code (IntKind.wrap .i64 (1 + ((p_laws_b10At l_more (0 : Int) (16 : Int))))))) (fdiv .f32 (FloatKind.nearest .f32 (IntKind.wrap .i64 (1 + ((p_laws_b10At l_more (1 : Int) (8 : Int)))))) 1082130432) (((fnarrow ((p_laws_b10Gap (fwide ((((p_spec_B10Signal l_code (IntKind.wrap .i64 (1 + ((p_laws_b10At l_more (0 : Int) (16 : Int))))))).getD (t96 : Int).toNat 0))) 0))).getD 0))).2) then false else (bif flt .f32 ((p_impl_RiskOf ((p_spec_B10Signal l_code (IntKind.wrap .i64 (1 + ((p_laws_b10At l_more (0 : Int) (16 : Int))))))) (fdiv .f32 (FloatKind.nearest .f32 (IntKind.wrap .i64 (1 + ((p_laws_b10At l_more (1 : Int) (8 : Int)))))) 1082130432) (((fnarrow ((p_laws_b10Gap (fwide ((((p_spec_B10Signal l_code (IntKind.wrap .i64 (1 + ((p_laws_b10At l_more (0 : Int) (16 : Int))))))).getD (t96 : Int).toNat 0))) 0))).getD 0))).1) ((p_impl_BestLimit ((p_spec_B10Signal l_code (IntKind.wrap .i64 (1 + ((p_laws_b10At l_more (0 : Int) (16 : Int))))))) (fdiv .f32 (FloatKind.nearest .f32 (IntKind.wrap .i64 (1 + ((p_laws_b10At l_more (1 : Int) (8 : Int)))))) 1082130432)).2.1) then false else (p_laws_FnLimits_l1 l_code l_more μ t4 below (above + 1) (feq .f32 ((((p_spec_B10Signal l_code (IntKind.wrap .i64 (1 + ((p_laws_b10At l_more (0 : Int) (16 : Int))))))).getD (t96 : Int).toNat 0)) ((p_impl_MedianOf ((p_spec_B10Signal l_code (IntKind.wrap .i64 (1 + ((p_laws_b10At l_more (0 : Int) (16 : Int)))))))).1)) (t96 + 1))))) else (bif vin then (bif !((p_impl_RiskOf ((p_spec_B10Signal l_code (IntKind.wrap .i64 (1 + ((p_laws_b10At l_more (0 : Int) (16 : Int))))))) (fdiv .f32 (FloatKind.nearest .f32 (IntKind.wrap .i64 (1 + ((p_laws_b10At l_more (1 : Int) (8 : Int)))))) 1082130432) (((fnarrow ((p_laws_b10Gap (fwide ((((p_spec_B10Signal l_code (IntKind.wrap .i64 (1 + ((p_laws_b10At l_more (0 : Int) (16 : Int))))))).getD (t96 : Int).toNat 0))) 0))).getD 0))).2) then false else (bif flt .f32 ((p_impl_RiskOf ((p_spec_B10Signal l_code (IntKind.wrap .i64 (1 + ((p_laws_b10At l_more (0 : Int) (16 : Int))))))) (fdiv .f32 (FloatKind.nearest .f32 (IntKind.wrap .i64 (1 + ((p_laws_b10At l_more (1 : Int) (8 : Int)))))) 1082130432) (((fnarrow ((p_laws_b10Gap (fwide ((((p_spec_B10Signal l_code (IntKind.wrap .i64 (1 + ((p_laws_b10At l_more (0 : Int) (16 : Int))))))).getD (t96 : Int).toNat 0))) 0))).getD 0))).1) ((p_impl_BestLimit ((p_spec_B10Signal l_code (IntKind.wrap .i64 (1 + ((p_laws_b10At l_more (0 : Int) (16 : Int))))))) (fdiv .f32 (FloatKind.nearest .f32 (IntKind.wrap .i64 (1 + ((p_laws_b10At l_more (1 : Int) (8 : Int)))))) 1082130432)).2.1) then false else (p_laws_FnLimits_l1 l_code l_more μ t4 below above true (t96 + 1)))) else (bif !((p_impl_RiskOf ((p_spec_B10Signal l_code (IntKind.wrap .i64 (1 + ((p_laws_b10At l_more (0 : Int) (16 : Int))))))) (fdiv .f32 (FloatKind.nearest .f32 (IntKind.wrap .i64 (1 + ((p_laws_b10At l_more (1 : Int) (8 : Int)))))) 1082130432) (((fnarrow ((p_laws_b10Gap (fwide ((((p_spec_B10Signal l_code (IntKind.wrap .i64 (1 + ((p_laws_b10At l_more (0 : Int) (16 : Int))))))).getD (t96 : Int).toNat 0))) 0))).getD 0))).2) then false else (bif flt .f32 ((p_impl_RiskOf ((p_spec_B10Signal l_code (IntKind.wrap .i64 (1 + ((p_laws_b10At l_more (0 : Int) (16 : Int))))))) (fdiv .f32 (FloatKind.nearest .f32 (IntKind.wrap .i64 (1 + ((p_laws_b10At l_more (1 : Int) (8 : Int)))))) 1082130432) (((fnarrow ((p_laws_b10Gap (fwide ((((p_spec_B10Signal l_code (IntKind.wrap .i64 (1 + ((p_laws_b10At l_more (0 : Int) (16 : Int))))))).getD (t96 : Int).toNat 0))) 0))).getD 0))).1) ((p_impl_BestLimit ((p_spec_B10Signal l_code (IntKind.wrap .i64 (1 + ((p_laws_b10At l_more (0 : Int) (16 : Int))))))) (fdiv .f32 (FloatKind.nearest .f32 (IntKind.wrap .i64 (1 + ((p_laws_b10At l_more (1 : Int) (8 : Int)))))) 1082130432)).2.1) then false else (p_laws_FnLimits_l1 l_code l_more μ t4 below above (feq .f32 ((((p_spec_B10Signal l_code (IntKind.wrap .i64 (1 + ((p_laws_b10At l_more (0 : Int) (16 : Int))))))).getD (t96 : Int).toNat 0)) ((p_impl_MedianOf ((p_spec_B10Signal l_code (IntKind.wrap .i64 (1 + ((p_laws_b10At l_more (0 : Int) (16 : Int)))))))).1)) (t96 + 1))))))) else (bif (p_impl_RiskOf ((p_spec_B10Signal l_code (IntKind.wrap .i64 (1 + ((p_laws_b10At l_more (0 : Int) (16 : Int))))))) (fdiv .f32 (FloatKind.nearest .f32 (IntKind.wrap .i64 (1 + ((p_laws_b10At l_more (1 : Int) (8 : Int)))))) 1082130432) 0).2 then (bif (p_impl_PlainLimit (fdiv .f32 (FloatKind.nearest .f32 (IntKind.wrap .i64 (1 + ((p_laws_b10At l_more (1 : Int) (8 : Int)))))) 1082130432) (IntKind.wrap .i64 (1 + ((p_laws_b10At l_more (2 : Int) (128 : Int)))))).2 then (bif (p_impl_PlainLimit (fmul .f32 (fdiv .f32 (FloatKind.nearest .f32 (IntKind.wrap .i64 (1 + ((p_laws_b10At l_more (1 : Int) (8 : Int)))))) 1082130432) 1073741824) (IntKind.wrap .i64 (1 + ((p_laws_b10At l_more (2 : Int) (128 : Int)))))).2 then (bif fle .f32 ((p_impl_BestLimit ((p_spec_B10Signal l_code (IntKind.wrap .i64 (1 + ((p_laws_b10At l_more (0 : Int) (16 : Int))))))) (fdiv .f32 (FloatKind.nearest .f32 (IntKind.wrap .i64 (1 + ((p_laws_b10At l_more (1 : Int) (8 : Int)))))) 1082130432)).2.1) ((p_impl_RiskOf ((p_spec_B10Signal l_code (IntKind.wrap .i64 (1 + ((p_laws_b10At l_more (0 : Int) (16 : Int))))))) (fdiv .f32 (FloatKind.nearest .f32 (IntKind.wrap .i64 (1 + ((p_laws_b10At l_more (1 : Int) (8 : Int)))))) 1082130432) 0).1) then (bif vin then (bif decide ((IntKind.wrap .i64 (2 * below) : Int) ≤ IntKind.wrap .i64 (((((p_spec_B10Signal l_code (IntKind.wrap .i64 (1 + ((p_laws_b10At l_more (0 : Int) (16 : Int))))))).length : Int)) - 1)) then (bif decide ((IntKind.wrap .i64 (2 * above) : Int) ≤ (((p_spec_B10Signal l_code (IntKind.wrap .i64 (1 + ((p_laws_b10At l_more (0 : Int) (16 : Int))))))).length : Int)) then (bif fle .f32 0 ((p_impl_PlainLimit (fdiv .f32 (FloatKind.nearest .f32 (IntKind.wrap .i64 (1 + ((p_laws_b10At l_more (1 : Int) (8 : Int)))))) 1082130432) (IntKind.wrap .i64 (1 + ((p_laws_b10At l_more (2 : Int) (128 : Int)))))).1) then flt .f64 ((p_laws_b10Gap (fwide ((p_impl_PlainLimit (fmul .f32 (fdiv .f32 (FloatKind.nearest .f32 (IntKind.wrap .i64 (1 + ((p_laws_b10At l_more (1 : Int) (8 : Int)))))) 1082130432) 1073741824) (IntKind.wrap .i64 (1 + ((p_laws_b10At l_more (2 : Int) (128 : Int)))))).1)) (fmul .f64 4611686018427387904 (fwide ((p_impl_PlainLimit (fdiv .f32 (FloatKind.nearest .f32 (IntKind.wrap .i64 (1 + ((p_laws_b10At l_more (1 : Int) (8 : Int)))))) 1082130432) (IntKind.wrap .i64 (1 + ((p_laws_b10At l_more (2 : Int) (128 : Int)))))).1))))) (fmul .f64 4562254508917369340 (fadd .f64 4607182418800017408 (fwide ((p_impl_PlainLimit (fdiv .f32 (FloatKind.nearest .f32 (IntKind.wrap .i64 (1 + ((p_laws_b10At l_more (1 : Int) (8 : Int)))))) 1082130432) (IntKind.wrap .i64 (1 + ((p_laws_b10At l_more (2 : Int) (128 : Int)))))).1)))) else false) else false) else false) else false) else false) else false) else false) else false))
def p_laws_FnLimits_l1_s := fun l_code l_more μ t4 below above vin t96 => @p_laws_FnLimits_l1.eq_2 l_code l_more t4 below above vin t96 μ
def p_laws_FnLimits (l_code : List UInt8) (l_more : List UInt8) : Bool := (bif (p_laws_b10Long l_code l_more) then true else (bif !((p_impl_MedianOf ((p_spec_B10Signal l_code (IntKind.wrap .i64 (1 + ((p_laws_b10At l_more (0 : Int) (16 : Int)))))))).2) then false else (bif !((p_impl_SpreadOf ((p_spec_B10Signal l_code (IntKind.wrap .i64 (1 + ((p_laws_b10At l_more (0 : Int) (16 : Int)))))))).2) then false else (bif !((p_impl_BestLimit ((p_spec_B10Signal l_code (IntKind.wrap .i64 (1 + ((p_laws_b10At l_more (0 : Int) (16 : Int))))))) (fdiv .f32 (FloatKind.nearest .f32 (IntKind.wrap .i64 (1 + ((p_laws_b10At l_more (1 : Int) (8 : Int)))))) 1082130432)).2.2) then false else (bif !((p_impl_RiskOf ((p_spec_B10Signal l_code (IntKind.wrap .i64 (1 + ((p_laws_b10At l_more (0 : Int) (16 : Int))))))) (fdiv .f32 (FloatKind.nearest .f32 (IntKind.wrap .i64 (1 + ((p_laws_b10At l_more (1 : Int) (8 : Int)))))) 1082130432) ((p_impl_BestLimit ((p_spec_B10Signal l_code (IntKind.wrap .i64 (1 + ((p_laws_b10At l_more (0 : Int) (16 : Int))))))) (fdiv .f32 (FloatKind.nearest .f32 (IntKind.wrap .i64 (1 + ((p_laws_b10At l_more (1 : Int) (8 : Int)))))) 1082130432)).1)).2) then false else (bif flt .f32 ((p_impl_SpreadOf ((p_spec_B10Signal l_code (IntKind.wrap .i64 (1 + ((p_laws_b10At l_more (0 : Int) (16 : Int)))))))).1) 0 then false else (bif flt .f32 ((p_impl_BestLimit ((p_spec_B10Signal l_code (IntKind.wrap .i64 (1 + ((p_laws_b10At l_more (0 : Int) (16 : Int))))))) (fdiv .f32 (FloatKind.nearest .f32 (IntKind.wrap .i64 (1 + ((p_laws_b10At l_more (1 : Int) (8 : Int)))))) 1082130432)).1) 0 then false else (bif !((p_spec_SameNumber ((p_impl_RiskOf ((p_spec_B10Signal l_code (IntKind.wrap .i64 (1 + ((p_laws_b10At l_more (0 : Int) (16 : Int))))))) (fdiv .f32 (FloatKind.nearest .f32 (IntKind.wrap .i64 (1 + ((p_laws_b10At l_more (1 : Int) (8 : Int)))))) 1082130432) ((p_impl_BestLimit ((p_spec_B10Signal l_code (IntKind.wrap .i64 (1 + ((p_laws_b10At l_more (0 : Int) (16 : Int))))))) (fdiv .f32 (FloatKind.nearest .f32 (IntKind.wrap .i64 (1 + ((p_laws_b10At l_more (1 : Int) (8 : Int)))))) 1082130432)).1)).1) ((p_impl_BestLimit ((p_spec_B10Signal l_code (IntKind.wrap .i64 (1 + ((p_laws_b10At l_more (0 : Int) (16 : Int))))))) (fdiv .f32 (FloatKind.nearest .f32 (IntKind.wrap .i64 (1 + ((p_laws_b10At l_more (1 : Int) (8 : Int)))))) 1082130432)).2.1))) then false else (p_laws_FnLimits_l1 l_code l_more (Int.toNat ((((p_spec_B10Signal l_code (IntKind.wrap .i64 (1 + ((p_laws_b10At l_more (0 : Int) (16 : Int))))))).length : Int) - (0 : Int)) + 1) false (0 : Int) (0 : Int) false (0 : Int))))))))))
def p_laws_FnLimits_eq := @p_laws_FnLimits.eq_1
def T_laws_FnLimits (code_a : Option Addr) (code_n : Nat) (code_e : Nat) (more_a : Option Addr) (more_n : Nat) (more_e : Nat) (H : AHeap) (K : Bool → AHeap → Prop) : Prop := ∃ l_code : List UInt8, ∃ l_more : List UInt8, IsL (fun c : UInt8 => Value.int .u8 c.toNat) H code_a code_n l_code ∧ IsL (fun c : UInt8 => Value.int .u8 c.toNat) H more_a more_n l_more ∧ ∀ H' : AHeap, K true H'
theorem impl_fin (x : Nat) : p_impl_IsFinite x = fin .f32 x := fin_asked x
theorem areFinite_in (ls : List (List Nat)) (t2 : Bool) (t9 : Int) (k : Bool → Int → Bool) : ∀ (μ : Nat) (t : Bool) (i : Nat), i ≤ (ls.getD t9.toNat []).length → (ls.getD t9.toNat []).length - i < μ →
    p_impl_areFinite_l2 ls t2 t9 k μ t (i : Int) = bif ((ls.getD t9.toNat []).drop i).all (fin .f32) then k t ((ls.getD t9.toNat []).length : Int) else false := by
  intro μ
  generalize hl : ls.getD t9.toNat [] = l
  induction μ with
  | zero => intro t i _ h; omega
  | succ μ ih =>
    intro t i hi hm
    rw [p_impl_areFinite_l2_s, hl]
    by_cases h : i < l.length
    · rw [decide_eq_true (show (i : Int) < (l.length : Int) by omega), cond_true, Int.toNat_natCast, impl_fin]
      rw [List.drop_eq_getElem_cons h, List.all_cons, List.getD_eq_getElem?_getD, List.getElem?_eq_getElem h, Option.getD_some]
      have := ih t (i + 1) ω3 ω3
      cases fin .f32 l[i]
      · rfl
      · simp only [Bool.not_true, cond_false, Bool.true_and]; exact this
    · rw [decide_eq_false (show ¬ (i : Int) < (l.length : Int) by omega), cond_false, List.drop_eq_nil_of_le ω3, show i = l.length by omega]; rfl
theorem areFinite_go (ls : List (List Nat)) : ∀ (μ : Nat) (t : Bool) (i : Nat), ls.length - i < μ → p_impl_areFinite_l1 ls μ t (i : Int) = (ls.drop i).all (fun l => l.all (fin .f32)) := by
  intro μ
  induction μ with
  | zero => intro t i h; omega
  | succ μ ih =>
    intro t i hm
    rw [p_impl_areFinite_l1_s]
    by_cases h : i < ls.length
    · rw [decide_eq_true (show (i : Int) < (ls.length : Int) by omega), cond_true]
      have := areFinite_in ls t (i : Int) (fun t2 t15 => p_impl_areFinite_l1 ls μ t2 ((i : Int) + 1)) (Int.toNat ((((ls).getD ((i : Int) : Int).toNat []).length : Int) - (0 : Int)) + 1) t 0 (Nat.zero_le _) ω3
      refine Eq.trans this ?_
      rw [Int.toNat_natCast, List.drop_zero, List.drop_eq_getElem_cons h, List.all_cons, List.getD_eq_getElem?_getD, List.getElem?_eq_getElem h, Option.getD_some]
      have := ih t (i + 1) ω3
      cases ls[i].all (fin .f32)
      · rfl
      · simp only [cond_true, Bool.true_and]; exact this
    · rw [decide_eq_false (show ¬ (i : Int) < (ls.length : Int) by omega), cond_false, List.drop_eq_nil_of_le ω3]; rfl
theorem areFinite_all (ls : List (List Nat)) : p_impl_areFinite ls = ls.all (fun l => l.all (fin .f32)) := by
  rw [p_impl_areFinite_eq]
  have := areFinite_go ls (Int.toNat ((ls.length : Int) - (0 : Int)) + 1) false 0 ω3
  simpa using this
/-! comparisons of 64 bits -/
theorem finList {l : List Nat} (h : ∀ y ∈ l, fin .f32 y = true) : p_impl_areFinite [l] = true := by
  rw [areFinite_all]; simpa using h
theorem isLong_t {l : List Nat} (h1 : 1 ≤ l.length) (h2 : l.length ≤ 128) (h : ∀ y ∈ l, fin .f32 y = true) : p_impl_isLong l = true := by
  rw [p_impl_isLong_eq, finList h]
  unfold p_impl_within
  rw [decide_eq_true (show (1 : Int) ≤ (l.length : Int) by omega), decide_eq_true (show (l.length : Int) ≤ 128 by omega)]; rfl
theorem fmin_sv {k : FloatKind} {x y : Nat} (hx : fin k x = true) (hy : fin k y = true) : (fmin k x y = x ∨ fmin k x y = y) ∧ sv k (fmin k x y) ≤ sv k x ∧ sv k (fmin k x y) ≤ sv k y := by
  have ho := order_fin hx hy
  unfold fmin
  rw [ho]
  cases hc : compare (sv k x) (sv k y) with
  | lt => have := Int.compare_eq_lt.1 hc; exact ⟨.inl rfl, Int.le_refl _, by simp only []; omega⟩
  | gt => have := Int.compare_eq_gt.1 hc; exact ⟨.inr rfl, by simp only []; omega, Int.le_refl _⟩
  | eq =>
    have := Int.compare_eq_eq.1 hc
    simp only []
    split
    · exact ⟨.inl rfl, Int.le_refl _, by omega⟩
    · exact ⟨.inr rfl, by omega, Int.le_refl _⟩
theorem fin_ok {x : Nat} (h : fin .f32 x = true) : p_impl_finite x = (x, true) := by
  have e : p_impl_IsFinite x = true := (fin_asked x).trans h
  unfold p_impl_finite
  rw [e]; rfl
theorem few_two : ∀ n : Nat, n < 130 → fmul .f32 1073741824 (FloatKind.nearest .f32 (n : Int)) = FloatKind.nearest .f32 (2 * (n : Int)) := by decide +kernel
theorem few_left {m n : Nat} (hm : m < 129) (hn : n ≤ m) : fsub .f32 (FloatKind.nearest .f32 (m : Int)) (fmul .f32 1073741824 (FloatKind.nearest .f32 (n : Int))) = FloatKind.nearest .f32 ((m : Int) - 2 * (n : Int)) := by
  rw [few_two n ω3]
  by_cases h : m = 2 * n
  · rw [h, show (2 * (n : Int)) = ((2 * n : Nat) : Int) by omega, int_sub_self (2 * n) ω3, Int.sub_self]; decide +kernel
  · have e : (2 : Nat) * FloatKind.f32.format.binade = 16777216 := by decide
    exact int_sub (by rw [e]; omega) (by rw [e]; omega) ω3
def qk (k : Nat) : Nat := fdiv .f32 (FloatKind.nearest .f32 ((k : Int) - 32)) 1082130432
def nz (j : Nat) : Nat := fdiv .f32 (FloatKind.nearest .f32 ((j : Int) + 1)) 1082130432
theorem tab_qk : ∀ k : Nat, k < 65 → fin .f32 (qk k) = true ∧ sv .f32 (qk k) = ((k : Int) - 32) * 2 ^ 147 ∧ fin .f32 (p_impl_size (qk k)) = true ∧ sv .f32 (p_impl_size (qk k)) = (((k : Int) - 32).natAbs : Int) * 2 ^ 147 ∧ p_impl_isLeast (p_impl_size (qk k)) = true := by decide +kernel
theorem tab_nz : ∀ j : Nat, j < 8 → fin .f32 (nz j) = true ∧ sv .f32 (nz j) = ((j : Int) + 1) * 2 ^ 147 ∧ p_impl_isOver (nz j) = true ∧ p_impl_isLeast (nz j) = true ∧ fin .f32 (fmul .f32 (nz j) (nz j)) = true ∧ 0 ≤ sv .f32 (fmul .f32 (nz j) (nz j)) ∧ sv .f32 (fmul .f32 (nz j) (nz j)) ≤ 2 ^ 151 ∧
    fin .f32 (fmul .f32 (nz j) 1073741824) = true ∧ sv .f32 (fmul .f32 (nz j) 1073741824) = (2 * ((j : Int) + 1)) * 2 ^ 147 ∧ p_impl_isLeast (fmul .f32 (nz j) 1073741824) = true := by decide +kernel
def Cand (x : Nat) : Prop := fin .f32 x = true ∧ p_impl_isLeast x = true ∧ ∃ c : Int, 0 ≤ c ∧ c ≤ 32 ∧ sv .f32 x = c * 2 ^ 147
theorem cand_zero : Cand 0 := ⟨fin_zero _, by decide +kernel, 0, by decide, by decide, by rw [sv_zero]; simp⟩
theorem cand_size {k : Nat} (hk : k < 65) : Cand (p_impl_size (qk k)) := by
  obtain ⟨_, _, h3, h4, h5⟩ := tab_qk k hk
  exact ⟨h3, h5, _, by omega, by omega, h4⟩
theorem sq_bd {x : Nat} {c : Int} (hx : fin .f32 x = true) (hs : sv .f32 x = c * 2 ^ 147) (h1 : -32 ≤ c) (h2 : c ≤ 32) : fin .f32 (fmul .f32 x x) = true ∧ -(65 * 16777216 * wq) ≤ vl .f32 (fmul .f32 x x) ∧ vl .f32 (fmul .f32 x x) ≤ 65 * 16777216 * wq := by
  have hw := wq_pos
  have e : vl .f32 x = c * (4194304 * wq) := by
    show sv .f32 x * pw 925 = _
    have e2 : (4194304 : Int) * wq = pw 147 * pw 925 := by
      unfold wq
      rw [show (4194304 : Int) = pw 22 by decide, ← pw_add, ← pw_add]
    rw [hs, e2, ← Int.mul_assoc]
    rfl
  have b1 : c * c ≤ 1024 := by
    have t1 : 0 ≤ (32 - c) * (32 + c) := Int.mul_nonneg ω3 ω3
    rw [Int.sub_mul, Int.mul_add, Int.mul_add] at t1
    have := Int.mul_comm c 32
    omega
  have b0 : 0 ≤ c * c := by
    rcases Int.le_total 0 c with h | h
    · exact Int.mul_nonneg h h
    · have := Int.mul_nonneg (show 0 ≤ -c by omega) (show 0 ≤ -c by omega); rw [Int.neg_mul_neg] at this; exact this
  have p1 : c * vl .f32 x = c * c * (4194304 * wq) := by rw [e, Int.mul_assoc]
  have p2 := Int.mul_le_mul_of_nonneg_right b1 (show 0 ≤ 4194304 * wq by omega)
  have p3 := Int.mul_nonneg b0 (show 0 ≤ 4194304 * wq by omega)
  obtain ⟨f, g1, g2⟩ := vmulq 6 (A := 64) ω15 ω15 hx hx hs (by rw [p1]; omega) (by rw [p1]; omega)
  rw [p1] at g1 g2
  exact ⟨f, by omega, by omega⟩
theorem fmin_bd {x y : Nat} {B : Int} (hx : fin .f32 x = true) (hy : fin .f32 y = true) (h1 : -B ≤ vl .f32 x ∧ vl .f32 x ≤ B) (h2 : -B ≤ vl .f32 y ∧ vl .f32 y ≤ B) : fin .f32 (fmin .f32 x y) = true ∧ -B ≤ vl .f32 (fmin .f32 x y) ∧ vl .f32 (fmin .f32 x y) ≤ B := by
  rcases (fmin_sv hx hy).1 with e | e <;> rw [e]
  · exact ⟨hx, h1⟩
  · exact ⟨hy, h2⟩
theorem risk_go3 {l : List Nat} {noise limit : Nat} (hl : l.length ≤ 16) (hq : ∀ i, i < l.length → ∃ k : Nat, k < 65 ∧ l.getD i 0 = qk k) (hc : Cand limit) : ∀ (μ n s i : Nat), n ≤ i → i ≤ l.length → l.length - i < μ → fin .f32 s = true → -((i : Int) * (66 * 16777216 * wq)) ≤ vl .f32 s → vl .f32 s ≤ (i : Int) * (66 * 16777216 * wq) →
    ∃ n' s' : Nat, n' ≤ l.length ∧ fin .f32 s' = true ∧ -((l.length : Int) * (66 * 16777216 * wq)) ≤ vl .f32 s' ∧ vl .f32 s' ≤ (l.length : Int) * (66 * 16777216 * wq) ∧
      p_impl_RiskOf_l1 l noise limit μ (FloatKind.nearest .f32 (n : Int)) s (i : Int) = p_impl_finite (fadd .f32 (fmul .f32 (fmul .f32 noise noise) (FloatKind.nearest .f32 ((l.length : Int) - 2 * (n' : Int)))) s') := by
  have hw := wq_pos
  intro μ
  induction μ with
  | zero => intro n s i _ _ h; omega
  | succ μ ih =>
    intro n s i hn hi hm fs b1 b2
    rw [p_impl_RiskOf_l1_s]
    by_cases h : i < l.length
    · rw [decide_eq_true (show (i : Int) < (l.length : Int) by omega), cond_true, Int.toNat_natCast]
      obtain ⟨k, hk, e⟩ := hq i h
      obtain ⟨q1, q2, _, _, _⟩ := tab_qk k hk
      obtain ⟨c1, _, c, c2, c3, c4⟩ := hc
      obtain ⟨s1, s2⟩ := sq_bd q1 q2 ω3 ω3
      obtain ⟨t1, t2⟩ := sq_bd c1 c4 ω3 ω3
      rw [e]
      obtain ⟨f1, m1, m2⟩ := fmin_bd s1 t1 s2 t2
      have u1 : (i : Int) * (66 * 16777216 * wq) ≤ 15 * (66 * 16777216 * wq) := Int.mul_le_mul_of_nonneg_right ω3 ω3
      have e1 : ((i + 1 : Nat) : Int) * (66 * 16777216 * wq) = (i : Int) * (66 * 16777216 * wq) + 66 * 16777216 * wq := by rw [Int.natCast_add, Int.add_mul]; simp
      obtain ⟨f2, a1, a2⟩ := vadd (k := .f32) 11 (A := 2048) ω15 ω15 fs f1 ω3 ω3
      cases flt .f32 limit (p_impl_size (qk k))
      · rw [Bool.not_false, cond_true, add_one n ω3]
        exact ih (n + 1) _ (i + 1) ω3 ω3 ω3 f2 (by rw [e1]; omega) (by rw [e1]; omega)
      · rw [Bool.not_true, cond_false]
        exact ih n _ (i + 1) ω3 ω3 ω3 f2 (by rw [e1]; omega) (by rw [e1]; omega)
    · rw [decide_eq_false (show ¬ (i : Int) < (l.length : Int) by omega), cond_false, few_left (show l.length < 129 by omega) (show n ≤ l.length by omega)]
      obtain rfl : i = l.length := by omega
      exact ⟨n, s, hn, fs, b1, b2, rfl⟩
theorem nz_sq {j : Nat} (hj : j < 8) : fin .f32 (fmul .f32 (nz j) (nz j)) = true ∧ 0 ≤ vl .f32 (fmul .f32 (nz j) (nz j)) ∧ vl .f32 (fmul .f32 (nz j) (nz j)) ≤ 4 * 16777216 * wq := by
  obtain ⟨_, _, _, _, z5, z6, z7, _⟩ := tab_nz j hj
  have hp := pw_pos 925
  have e : 4 * 16777216 * wq = 2 ^ 151 * pw 925 := by
    unfold wq
    rw [show (4 * 16777216 : Int) = pw 26 by decide, ← pw_add, show (2 : Int) ^ 151 = pw 151 from rfl, ← pw_add]
  refine ⟨z5, Int.mul_nonneg z6 (Int.le_of_lt hp), ?_⟩
  rw [e]; exact Int.mul_le_mul_of_nonneg_right z7 (Int.le_of_lt hp)
theorem q147 (n : Int) : n * 2 ^ lp .f32 = (4 * n) * 2 ^ 147 := by
  have e149 : (2 : Int) ^ lp .f32 = 4 * 2 ^ 147 := by decide
  rw [e149, Int.mul_comm 4 n, Int.mul_assoc]
theorem risk_end {x s : Nat} {n L : Int} (hw : 0 < wq) (hx : fin .f32 x = true) (x1 : 0 ≤ vl .f32 x) (x2 : vl .f32 x ≤ 4 * 16777216 * wq) (h1 : -16 ≤ n) (h2 : n ≤ 16) (hL : L ≤ 16) (fs : fin .f32 s = true) (b1 : -(L * (66 * 16777216 * wq)) ≤ vl .f32 s) (b2 : vl .f32 s ≤ L * (66 * 16777216 * wq)) :
    fin .f32 (fadd .f32 (fmul .f32 x (FloatKind.nearest .f32 n)) s) = true := by
  obtain ⟨y1, y2⟩ := fin_of_nearest .f32 (n := n) ω3
  have y3 := y2.trans (q147 n)
  clear y2
  have p1 := Int.mul_le_mul_of_nonneg_right (show (-64 : Int) ≤ 4 * n by clear y3; omega) x1
  have p2 := Int.mul_le_mul_of_nonneg_right (show 4 * n ≤ 64 by clear y3; omega) x1
  have u1 : L * (66 * 16777216 * wq) ≤ 16 * (66 * 16777216 * wq) := Int.mul_le_mul_of_nonneg_right hL (by clear y3; omega)
  have o1 : 4 * n * vl .f32 x ≤ 4 * (64 * 16777216 * wq) := by clear y3; omega
  have o2 : -(4 * (64 * 16777216 * wq)) ≤ 4 * n * vl .f32 x := by clear y3; omega
  obtain ⟨f1, g1, g2⟩ := vmulq 6 (A := 64) ω15 ω15 hx y1 y3 o2 o1
  clear y3
  exact (vadd (k := .f32) 11 (A := 2048) ω15 ω15 f1 fs ω3 ω3).1
theorem vl_nil : vl .f32 0 = 0 := by
  show sv .f32 0 * _ = 0
  rw [sv_zero, Int.zero_mul]
theorem nil_bd (X : Int) : -(((0 : Nat) : Int) * X) ≤ vl .f32 0 ∧ vl .f32 0 ≤ ((0 : Nat) : Int) * X := by
  rw [vl_nil, Int.natCast_zero, Int.zero_mul]; exact ⟨Int.le_refl 0, Int.le_refl 0⟩
theorem near_nil : FloatKind.nearest .f32 ((0 : Nat) : Int) = 0 := by decide +kernel
theorem len_nil (n : Nat) : n - 0 < Int.toNat ((n : Int) - 0) + 1 := by omega
theorem few_rng {n L : Nat} (h : n ≤ L) (hL : L ≤ 16) : -16 ≤ (L : Int) - 2 * (n : Int) ∧ (L : Int) - 2 * (n : Int) ≤ 16 ∧ (L : Int) ≤ 16 := by omega
theorem risk_ok {l : List Nat} {j limit : Nat} (hj : j < 8) (h1 : 1 ≤ l.length) (hl : l.length ≤ 16) (hq : ∀ i, i < l.length → ∃ k : Nat, k < 65 ∧ l.getD i 0 = qk k) (hf : ∀ y ∈ l, fin .f32 y = true) (hc : Cand limit) :
    ∃ r : Nat, p_impl_RiskOf l (nz j) limit = (r, true) ∧ fin .f32 r = true := by
  have hl2 : l.length ≤ 128 := Nat.le_trans hl ω15
  obtain ⟨_, _, z3, _⟩ := tab_nz j hj
  obtain ⟨z5, x1, x2⟩ := nz_sq hj
  obtain ⟨n, s, hn, fs, b1, b2, e⟩ := risk_go3 (noise := nz j) hl hq hc (Int.toNat ((l.length : Int) - 0) + 1) 0 0 0 (Nat.le_refl _) (Nat.zero_le _) (len_nil _) (fin_zero _) (nil_bd _).1 (nil_bd _).2
  rw [near_nil] at e
  obtain ⟨r1, r2, r3⟩ := few_rng hn hl
  have f2 := risk_end wq_pos z5 x1 x2 r1 r2 r3 fs b1 b2
  refine ⟨_, ?_, f2⟩
  rw [p_impl_RiskOf_eq, isLong_t h1 hl2 hf, z3, hc.2.1]
  rw [Bool.not_true, cond_false, cond_false, cond_false]
  exact e.trans (fin_ok f2)
/-! the best of several -/
def cands (l : List Nat) : List Nat := [0] ++ p_impl_sizes l
theorem best_go {l : List Nat} {noise : Nat} {R : Nat → Nat} {m : Nat} (hm : m = 1 + l.length) (hR : ∀ i, i < m → p_impl_RiskOf l noise ((cands l).getD i 0) = (R i, true) ∧ fin .f32 (R i) = true) : ∀ (μ : Nat) (t4 t5 : Nat) (t6 : Bool) (best least : Nat) (ok : Bool) (i : Nat), i ≤ m → m - i < μ → (i = 0 → ok = false) →
    (0 < i → ok = true ∧ ∃ j, j < i ∧ best = (cands l).getD j 0 ∧ least = R j ∧ ∀ k, k < i → sv .f32 (R j) ≤ sv .f32 (R k)) → 1 ≤ m →
    ∃ j, j < m ∧ p_impl_BestLimit_l1 l noise μ t4 t5 t6 best least ok (i : Int) = ((cands l).getD j 0, R j, true) ∧ ∀ k, k < m → sv .f32 (R j) ≤ sv .f32 (R k) := by
  intro μ
  induction μ with
  | zero => intro t4 t5 t6 best least ok i _ h; omega
  | succ μ ih =>
    intro t4 t5 t6 best least ok i hi hmu h0 h1 hm1
    rw [p_impl_BestLimit_l1_s, impl_sizes_len]
    by_cases h : i < m
    · rw [decide_eq_true (show (i : Int) < (1 + (l.length : Nat) : Int) by omega), cond_true, Int.toNat_natCast]
      obtain ⟨r1, r2⟩ := hR i h
      unfold cands at r1
      rw [r1]
      simp only [Bool.not_true, cond_false]
      by_cases hi0 : i = 0
      · rw [h0 hi0, Bool.not_false, cond_true]
        exact ih _ _ _ _ _ _ (i + 1) ω3 ω3 ω3 (fun _ => ⟨rfl, i, by omega, rfl, rfl, fun k hk => by
          have : k = i := by omega
          rw [this]; exact Int.le_refl _⟩) hm1
      · obtain ⟨ho, j, hj, hb, hl, hmin⟩ := h1 ω3
        rw [ho, Bool.not_true, cond_false, hl, flt_fin r2 (hR j ω3).2]
        by_cases hlt : sv .f32 (R i) < sv .f32 (R j)
        · rw [decide_eq_true hlt, cond_true]
          exact ih _ _ _ _ _ _ (i + 1) ω3 ω3 ω3 (fun _ => ⟨rfl, i, by omega, rfl, rfl, fun k hk => by
            by_cases e : k = i
            · rw [e]; exact Int.le_refl _
            · have := hmin k ω3; omega⟩) hm1
        · rw [decide_eq_false hlt, cond_false]
          exact ih _ _ _ _ _ _ (i + 1) ω3 ω3 ω3 (fun _ => ⟨rfl, j, by omega, hb, rfl, fun k hk => by
            by_cases e : k = i
            · rw [e]; omega
            · exact hmin k ω3⟩) hm1
    · rw [decide_eq_false (show ¬ (i : Int) < (1 + (l.length : Nat) : Int) by omega), cond_false]
      obtain ⟨ho, j, hj, hb, hl, hmin⟩ := h1 ω3
      exact ⟨j, by omega, by rw [hb, hl, ho], fun k hk => hmin k ω3⟩
theorem cands_get {l : List Nat} (hq : ∀ i, i < l.length → ∃ k : Nat, k < 65 ∧ l.getD i 0 = qk k) {i : Nat} (hi : i < 1 + l.length) : Cand ((cands l).getD i 0) := by
  unfold cands
  cases i with
  | zero => exact cand_zero
  | succ i =>
    have e : ([0] ++ p_impl_sizes l).getD (i + 1) 0 = p_impl_size (l.getD i 0) := by
      rw [impl_sizes_map, List.getD_eq_getElem?_getD, List.getD_eq_getElem?_getD, List.getElem?_append_right (by simp)]
      simp only [List.length_singleton, Nat.add_sub_cancel, List.getElem?_map]
      rw [List.getElem?_eq_getElem (by omega : i < l.length)]; rfl
    obtain ⟨k, hk, e2⟩ := hq i ω3
    rw [e, e2]; exact cand_size hk
theorem cands_size {l : List Nat} {i : Nat} (hi : i < l.length) : (cands l).getD (i + 1) 0 = p_impl_size (l.getD i 0) := by
  unfold cands
  rw [impl_sizes_map, List.getD_eq_getElem?_getD, List.getD_eq_getElem?_getD, List.getElem?_append_right (by simp)]
  simp only [List.length_singleton, Nat.add_sub_cancel, List.getElem?_map]
  rw [List.getElem?_eq_getElem hi]; rfl
theorem best_ok {l : List Nat} {j : Nat} (hj : j < 8) (h1 : 1 ≤ l.length) (hl : l.length ≤ 16) (hq : ∀ i, i < l.length → ∃ k : Nat, k < 65 ∧ l.getD i 0 = qk k) (hf : ∀ y ∈ l, fin .f32 y = true) :
    ∃ (R : Nat → Nat) (b : Nat), (∀ i, i < 1 + l.length → p_impl_RiskOf l (nz j) ((cands l).getD i 0) = (R i, true) ∧ fin .f32 (R i) = true) ∧ b < 1 + l.length ∧ p_impl_BestLimit l (nz j) = ((cands l).getD b 0, R b, true) ∧ ∀ k, k < 1 + l.length → sv .f32 (R b) ≤ sv .f32 (R k) := by
  have hR : ∀ i, i < 1 + l.length → p_impl_RiskOf l (nz j) ((cands l).getD i 0) = ((p_impl_RiskOf l (nz j) ((cands l).getD i 0)).1, true) ∧ fin .f32 (p_impl_RiskOf l (nz j) ((cands l).getD i 0)).1 = true := fun i hi => by
    obtain ⟨r, e, f⟩ := risk_ok hj h1 hl hq hf (cands_get hq hi)
    rw [e]; exact ⟨rfl, f⟩
  obtain ⟨b, hb, e, hmin⟩ := best_go (m := 1 + l.length) rfl hR (Int.toNat ((1 + (((p_impl_sizes l)).length) : Int) - (0 : Int)) + 1) 0 0 false 0 0 false 0 ω3 (by rw [impl_sizes_len]; omega) (fun _ => rfl) (fun h => by omega) ω3
  exact ⟨_, b, hR, hb, by rw [p_impl_BestLimit_eq]; exact e, hmin⟩
/-! the middle of a list -/
theorem stab_perm {κ : Nat → Int} {l m : List Nat} (h : So.Stab κ l m) : List.Perm m l := by
  rw [List.perm_iff_count]; intro x
  have h1 : ∀ l : List Nat, l.count x = (l.filter fun y => decide (κ y = κ x)).count x := fun l => (List.count_filter (by simp)).symm
  rw [h1 m, h1 l, h (κ x)]
theorem below_mid {κ : Nat → Int} {S : List Nat} (h : So.Asc κ S) {m : Nat} (hm : m < S.length) : S.countP (fun y => decide (κ y < κ (S.getD m 0))) ≤ m ∧ S.countP (fun y => decide (κ (S.getD m 0) < κ y)) ≤ S.length - (m + 1) := by
  have hv : S.getD m 0 = S[m] := by rw [List.getD_eq_getElem?_getD, List.getElem?_eq_getElem hm]; rfl
  rw [hv]
  have hp := List.pairwise_iff_getElem.1 h
  constructor
  · have e1 := congrArg (List.countP (fun y => decide (κ y < κ S[m]))) (List.take_append_drop m S)
    rw [List.countP_append] at e1
    have e2 := List.countP_le_length (p := fun y => decide (κ y < κ S[m])) (l := S.take m)
    have e3 : (S.drop m).countP (fun y => decide (κ y < κ S[m])) = 0 := List.countP_eq_zero.2 fun y hy => by
      obtain ⟨i, hi, e⟩ := List.getElem_of_mem hy
      rw [List.getElem_drop] at e
      have hi2 : m + i < S.length := by rw [List.length_drop] at hi; omega
      have : κ S[m] ≤ κ y := by
        rw [← e]
        by_cases h0 : i = 0
        · subst h0; exact Int.le_refl _
        · exact hp m (m + i) hm hi2 ω3
      simp; exact this
    rw [List.length_take] at e2
    omega
  · have e1 := congrArg (List.countP (fun y => decide (κ S[m] < κ y))) (List.take_append_drop (m + 1) S)
    rw [List.countP_append] at e1
    have e2 := List.countP_le_length (p := fun y => decide (κ S[m] < κ y)) (l := S.drop (m + 1))
    have e3 : (S.take (m + 1)).countP (fun y => decide (κ S[m] < κ y)) = 0 := List.countP_eq_zero.2 fun y hy => by
      obtain ⟨i, hi, e⟩ := List.getElem_of_mem hy
      rw [List.getElem_take] at e
      rw [List.length_take] at hi
      have hi2 : i < S.length := by omega
      have : κ y ≤ κ S[m] := by
        rw [← e]
        by_cases h0 : i = m
        · subst h0; exact Int.le_refl _
        · exact hp i m hi2 hm ω3
      simp; exact this
    rw [List.length_drop] at e2
    omega
theorem median_at {l : List Nat} (h1 : 1 ≤ l.length) : p_impl_median l = (p_slices_SortStableFunc_float32_float32 l).getD ((l.length - 1) / 2) 0 := by
  rw [p_impl_median_eq, impl_copyOf_is, Int.tdiv_eq_ediv_of_nonneg ω3]
  exact congrArg (fun i => (p_slices_SortStableFunc_float32_float32 l).getD i 0) ω3
theorem median_mem {l : List Nat} (h1 : 1 ≤ l.length) : p_impl_median l ∈ l := by
  have hs := slices_SortStable_ss l
  rw [median_at h1]
  have hm : (l.length - 1) / 2 < (p_slices_SortStableFunc_float32_float32 l).length := by rw [hs.length]; omega
  rw [List.getD_eq_getElem?_getD, List.getElem?_eq_getElem hm]
  exact (hs.stab.mem _).1 (List.getElem_mem hm)
theorem mid_ok {l : List Nat} (h1 : 1 ≤ l.length) (hf : ∀ y ∈ l, fin .f32 y = true) : 2 * l.countP (fun y => flt .f32 y (p_impl_median l)) + 1 ≤ l.length ∧ 2 * l.countP (fun y => flt .f32 (p_impl_median l) y) ≤ l.length := by
  have hs := slices_SortStable_ss l
  have hm : (l.length - 1) / 2 < (p_slices_SortStableFunc_float32_float32 l).length := by rw [hs.length]; omega
  obtain ⟨b1, b2⟩ := below_mid hs.asc hm
  rw [← median_at h1, (stab_perm hs.stab).countP_eq] at b1 b2
  rw [hs.length] at b2
  have fm := fin_nn (hf _ (median_mem h1))
  have e1 : l.countP (fun y => flt .f32 y (p_impl_median l)) = l.countP (fun y => decide (kappa y < kappa (p_impl_median l))) := List.countP_congr fun y hy => by rw [flt_kappa (fin_nn (hf y hy)) fm]
  have e2 : l.countP (fun y => flt .f32 (p_impl_median l) y) = l.countP (fun y => decide (kappa (p_impl_median l) < kappa y)) := List.countP_congr fun y hy => by rw [flt_kappa fm (fin_nn (hf y hy))]
  rw [e1, e2]; omega
/-! the spread -/
def q2t : List Nat := [3246391296, 3246129152, 3245867008, 3245604864, 3245342720, 3245080576, 3244818432, 3244556288, 3244294144, 3244032000, 3243769856, 3243507712, 3243245568, 3242983424, 3242721280, 3242459136, 3242196992, 3241934848, 3241672704, 3241410560, 3241148416, 3240886272, 3240624128, 3240361984, 3240099840, 3239837696, 3239575552, 3239313408, 3239051264, 3238789120, 3238526976, 3238264832, 3238002688, 3237478400, 3236954112, 3236429824, 3235905536, 3235381248, 3234856960, 3234332672, 3233808384, 3233284096, 3232759808, 3232235520, 3231711232, 3231186944, 3230662656, 3230138368, 3229614080, 3228565504, 3227516928, 3226468352, 3225419776, 3224371200, 3223322624, 3222274048, 3221225472, 3219128320, 3217031168, 3214934016, 3212836864, 3208642560, 3204448256, 3196059648, 0, 1048576000, 1056964608, 1061158912, 1065353216, 1067450368, 1069547520, 1071644672, 1073741824, 1074790400, 1075838976, 1076887552, 1077936128, 1078984704, 1080033280, 1081081856, 1082130432, 1082654720, 1083179008, 1083703296, 1084227584, 1084751872, 1085276160, 1085800448, 1086324736, 1086849024, 1087373312, 1087897600, 1088421888, 1088946176, 1089470464, 1089994752, 1090519040, 1090781184, 1091043328, 1091305472, 1091567616, 1091829760, 1092091904, 1092354048, 1092616192, 1092878336, 1093140480, 1093402624, 1093664768, 1093926912, 1094189056, 1094451200, 1094713344, 1094975488, 1095237632, 1095499776, 1095761920, 1096024064, 1096286208, 1096548352, 1096810496, 1097072640, 1097334784, 1097596928, 1097859072, 1098121216, 1098383360, 1098645504, 1098907648]
theorem tab_q2 : ∀ k : Nat, k < 65 → qk k = q2t.getD (k + 32) 0 := by decide +kernel
theorem tab_sub : ∀ a : Nat, a < 65 → ∀ b : Nat, b < 65 → fsub .f32 (q2t.getD (a + 32) 0) (q2t.getD (b + 32) 0) = q2t.getD (a + 64 - b) 0 := by decide +kernel
theorem tab_far : ∀ c : Nat, c < 129 → fin .f32 (fmul .f32 1069401558 (p_impl_size (q2t.getD c 0))) = true ∧ flt .f32 (fmul .f32 1069401558 (p_impl_size (q2t.getD c 0))) 0 = false := by decide +kernel
theorem spread_go (l : List Nat) : ∀ (μ : Nat) (o : List Nat) (i : Nat), l.length - i < μ → p_impl_SpreadOf_l1 l μ o (i : Int) = p_impl_finite (fmul .f32 1069401558 (p_impl_median (o ++ (l.drop i).map fun y => p_impl_size (fsub .f32 y (p_impl_MedianOf l).1)))) := by
  intro μ
  induction μ with
  | zero => intro o i h; omega
  | succ μ ih =>
    intro o i hm
    rw [p_impl_SpreadOf_l1_s]
    by_cases h : i < l.length
    · rw [decide_eq_true (show (i : Int) < (l.length : Int) by omega), cond_true, Int.toNat_natCast]
      have := ih (o ++ [p_impl_size (fsub .f32 (l.getD i 0) (p_impl_MedianOf l).1)]) (i + 1) ω3
      refine Eq.trans this ?_
      rw [List.drop_eq_getElem_cons h, List.map_cons, List.append_assoc, List.getD_eq_getElem?_getD, List.getElem?_eq_getElem h]; rfl
    · rw [decide_eq_false (show ¬ (i : Int) < (l.length : Int) by omega), cond_false, List.drop_eq_nil_of_le ω3, List.map_nil, List.append_nil]
theorem spread_ok {l : List Nat} (h1 : 1 ≤ l.length) (hl : l.length ≤ 16) (hq : ∀ y ∈ l, ∃ k : Nat, k < 65 ∧ y = qk k) (hM : p_impl_MedianOf l = (p_impl_median l, true)) : ∃ s : Nat, p_impl_SpreadOf l = (s, true) ∧ flt .f32 s 0 = false := by
  have e := spread_go l (Int.toNat ((l.length : Int) - (0 : Int)) + 1) [] 0 ω3
  rw [hM, List.nil_append, List.drop_zero] at e
  have hlen : (l.map fun y => p_impl_size (fsub .f32 y (p_impl_median l))).length = l.length := List.length_map ..
  have hmem := median_mem (l := l.map fun y => p_impl_size (fsub .f32 y (p_impl_median l))) (by rw [hlen]; exact h1)
  obtain ⟨y, hy, e2⟩ := List.mem_map.1 hmem
  obtain ⟨a, ha, ea⟩ := hq y hy
  obtain ⟨b, hb, eb⟩ := hq _ (median_mem h1)
  have e3 : fsub .f32 y (p_impl_median l) = q2t.getD (a + 64 - b) 0 := by rw [ea, eb, tab_q2 a ha, tab_q2 b hb, tab_sub a ha b hb]
  rw [e3] at e2
  dsimp only at e
  obtain ⟨f1, f2⟩ := tab_far (a + 64 - b) ω3
  refine ⟨_, ?_, f2⟩
  rw [p_impl_SpreadOf_eq, hM]
  simp only [Bool.not_true, cond_false]
  refine e.trans ?_
  rw [← e2, fin_ok f1]
/-! plain limits -/
def rt : List Nat := [0, 1066841439, 1069399074, 1070932557, 1072014799, 1072844398, 1073513399, 1073906803, 1074145711, 1074354050, 1074538446, 1074703611, 1074853012, 1074989272, 1075114417, 1075230047, 1075337445, 1075437655, 1075531538, 1075619810, 1075703077, 1075781849, 1075856568, 1075927611, 1075995308, 1076059947, 1076121779, 1076181029, 1076237893, 1076292549, 1076345153, 1076395849, 1076444764, 1076492012, 1076537700, 1076581923, 1076624768, 1076666314, 1076706635, 1076745797, 1076783863, 1076820891, 1076856931, 1076892035, 1076926246, 1076959608, 1076992160, 1077023939, 1077054979, 1077085312, 1077114968, 1077143976, 1077172363, 1077200152, 1077227369, 1077254034, 1077280169, 1077305795, 1077330929, 1077355588, 1077379791, 1077403553, 1077426889, 1077449814, 1077472341, 1077494483, 1077516253, 1077537662, 1077558722, 1077579443, 1077599837, 1077619911, 1077639677, 1077659143, 1077678317, 1077697208, 1077715823, 1077734172, 1077752259, 1077770094, 1077787682, 1077805029, 1077822142, 1077839028, 1077855692, 1077872138, 1077888373, 1077904403, 1077920231, 1077935862, 1077951302, 1077966554, 1077981623, 1077996514, 1078011229, 1078025774, 1078040151, 1078054366, 1078068420, 1078082317, 1078096062, 1078109656, 1078123103, 1078136407, 1078149570, 1078162595, 1078175483, 1078188240, 1078200867, 1078213366, 1078225740, 1078237991, 1078250122, 1078262134, 1078274031, 1078285814, 1078297485, 1078309047, 1078320500, 1078331848, 1078343092, 1078354234, 1078365275, 1078376218, 1078387064, 1078397814, 1078408471, 1078419035]
theorem tab_rt : ∀ n : Nat, n < 128 → p_impl_RootNumber (fmul .f32 1073741824 (p_impl_LogNumber (FloatKind.nearest .f32 ((n : Int) + 1)))) = rt.getD n 0 := by decide +kernel
def plainOk (no r : Nat) : Bool := fin .f32 (fmul .f32 no r) && fin .f32 (fmul .f32 (fmul .f32 no 1073741824) r) && fle .f32 0 (fmul .f32 no r) && flt .f64 (p_laws_b10Gap (fwide (fmul .f32 (fmul .f32 no 1073741824) r)) (fmul .f64 4611686018427387904 (fwide (fmul .f32 no r)))) (fmul .f64 4562254508917369340 (fadd .f64 4607182418800017408 (fwide (fmul .f32 no r))))
theorem tab_plain : ∀ j : Nat, j < 8 → ∀ n : Nat, n < 128 → plainOk (nz j) (rt.getD n 0) = true := by decide +kernel
theorem plain_ok {j : Nat} (hj : j < 8) {n : Nat} (hn : n < 128) : (p_impl_PlainLimit (nz j) ((n : Int) + 1)).2 = true ∧ (p_impl_PlainLimit (fmul .f32 (nz j) 1073741824) ((n : Int) + 1)).2 = true ∧ fle .f32 0 (p_impl_PlainLimit (nz j) ((n : Int) + 1)).1 = true ∧
    flt .f64 (p_laws_b10Gap (fwide (p_impl_PlainLimit (fmul .f32 (nz j) 1073741824) ((n : Int) + 1)).1) (fmul .f64 4611686018427387904 (fwide (p_impl_PlainLimit (nz j) ((n : Int) + 1)).1))) (fmul .f64 4562254508917369340 (fadd .f64 4607182418800017408 (fwide (p_impl_PlainLimit (nz j) ((n : Int) + 1)).1))) = true := by
  obtain ⟨_, _, _, z4, _, _, _, _, _, z10⟩ := tab_nz j hj
  have hp := tab_plain j hj n hn
  unfold plainOk at hp
  rw [Bool.and_eq_true, Bool.and_eq_true, Bool.and_eq_true] at hp
  obtain ⟨⟨⟨p1, p2⟩, p3⟩, p4⟩ := hp
  have hw : p_impl_within ((n : Int) + 1) 1 128 = true := by
    unfold p_impl_within
    rw [decide_eq_true (show (1 : Int) ≤ (n : Int) + 1 by omega), decide_eq_true (show (n : Int) + 1 ≤ 128 by omega)]; rfl
  have e1 : p_impl_PlainLimit (nz j) ((n : Int) + 1) = (fmul .f32 (nz j) (rt.getD n 0), true) := by
    rw [p_impl_PlainLimit_eq, z4, hw, tab_rt n hn, fin_ok p1]; rfl
  have e2 : p_impl_PlainLimit (fmul .f32 (nz j) 1073741824) ((n : Int) + 1) = (fmul .f32 (fmul .f32 (nz j) 1073741824) (rt.getD n 0), true) := by
    rw [p_impl_PlainLimit_eq, z10, hw, tab_rt n hn, fin_ok p2]; rfl
  rw [e1, e2]
  exact ⟨rfl, rfl, p3, p4⟩
theorem lim_n (l : List UInt8) : 1 ≤ IntKind.wrap .i64 (1 + p_laws_b10At l 0 16) ∧ IntKind.wrap .i64 (1 + p_laws_b10At l 0 16) ≤ 16 := by
  have h1 := laws_b10At_rng l 0 16 ω15 ω15
  rw [wrap64 (n := 1 + p_laws_b10At l 0 16) ω3 ω3]; omega
theorem tab_abs : ∀ k : Nat, k < 65 → fnarrow (p_laws_b10Gap (fwide (qk k)) 0) = some (p_impl_size (qk k)) := by decide +kernel
theorem qk_zero : qk 32 = 0 := by decide +kernel
theorem sig_at (l : List UInt8) (n : Int) (i : Nat) : ∃ k : Nat, k < 65 ∧ (p_spec_B10Signal l n).getD i 0 = qk k := by
  rw [List.getD_eq_getElem?_getD]
  cases h : (p_spec_B10Signal l n)[i]? with
  | none => exact ⟨32, by decide, qk_zero.symm⟩
  | some y => exact (spec_B10Signal_all l n).2 y (List.mem_of_getElem? h)
theorem sig_nar (l : List UInt8) (n : Int) (i : Nat) : fnarrow (p_laws_b10Gap (fwide ((p_spec_B10Signal l n).getD i 0)) 0) ≠ none := by
  obtain ⟨k, hk, e⟩ := sig_at l n i
  rw [e, tab_abs k hk]; exact fun h => by cases h
theorem lim_loop {c m : List UInt8} {L : List Nat} {no md : Nat} {n : Int} {R : Nat → Nat} {b : Nat} {B A : Nat}
    (eL : p_spec_B10Signal c (IntKind.wrap .i64 (1 + p_laws_b10At m (0 : Int) (16 : Int))) = L)
    (eN : fdiv .f32 (FloatKind.nearest .f32 (IntKind.wrap .i64 (1 + p_laws_b10At m (1 : Int) (8 : Int)))) 1082130432 = no)
    (eC : IntKind.wrap .i64 (1 + p_laws_b10At m (2 : Int) (128 : Int)) = n) (eM : (p_impl_MedianOf L).1 = md) (hl : L.length ≤ 16) (eB : (p_impl_BestLimit L no).2.1 = R b)
    (hg : ∀ i, i < L.length → fnarrow (p_laws_b10Gap (fwide (L.getD i 0)) 0) = some (p_impl_size (L.getD i 0)))
    (hR : ∀ i, i < L.length → p_impl_RiskOf L no (p_impl_size (L.getD i 0)) = (R (i + 1), true) ∧ flt .f32 (R (i + 1)) (R b) = false)
    (r0 : (p_impl_RiskOf L no 0).2 = true) (r1 : fle .f32 (R b) (p_impl_RiskOf L no 0).1 = true)
    (p1 : (p_impl_PlainLimit no n).2 = true) (p2 : (p_impl_PlainLimit (fmul .f32 no 1073741824) n).2 = true) (p3 : fle .f32 0 (p_impl_PlainLimit no n).1 = true)
    (p4 : flt .f64 (p_laws_b10Gap (fwide (p_impl_PlainLimit (fmul .f32 no 1073741824) n).1) (fmul .f64 4611686018427387904 (fwide (p_impl_PlainLimit no n).1))) (fmul .f64 4562254508917369340 (fadd .f64 4607182418800017408 (fwide (p_impl_PlainLimit no n).1))) = true)
    (hB : 2 * B + 1 ≤ L.length) (hA : 2 * A ≤ L.length) : ∀ (μ : Nat) (t : Bool) (x y : Int) (v : Bool) (i : Nat), i ≤ L.length → L.length - i < μ →
    x + ((L.drop i).countP (fun z => flt .f32 z md) : Nat) = B → y + ((L.drop i).countP (fun z => flt .f32 md z) : Nat) = A → (v = true ∨ ∃ z ∈ L.drop i, feq .f32 z md = true) → p_laws_FnLimits_l1 c m μ t x y v (i : Int) = true := by
  intro μ
  induction μ with
  | zero => intro t x y v i _ h; omega
  | succ μ ih =>
    intro t x y v i hi hm b1 a1 hv
    rw [p_laws_FnLimits_l1_s, eL, eN, eC, eM, eB]
    by_cases h : i < L.length
    · rw [decide_eq_true (show (i : Int) < (L.length : Int) by omega), cond_true, Int.toNat_natCast, hg i h, Option.getD_some, (hR i h).1, (hR i h).2]
      have eg : L.getD i 0 = L[i] := by rw [List.getD_eq_getElem?_getD, List.getElem?_eq_getElem h]; rfl
      rw [List.drop_eq_getElem_cons h, List.countP_cons, ← eg] at b1 a1
      rw [List.drop_eq_getElem_cons h, ← eg] at hv
      have hv2 : v = true ∨ feq .f32 (L.getD i 0) md = true ∨ ∃ z ∈ L.drop (i + 1), feq .f32 z md = true := by
        rcases hv with h1 | ⟨z, hz, h2⟩
        · exact .inl h1
        · rcases List.mem_cons.1 hz with e | hz
          · rw [e] at h2; exact .inr (.inl h2)
          · exact .inr (.inr ⟨z, hz, h2⟩)
      have hi2 : i + 1 ≤ L.length := h
      have hm2 : L.length - (i + 1) < μ := by omega
      simp only [Bool.not_true, cond_false]
      cases h1 : flt .f32 (L.getD i 0) md <;> cases h2 : flt .f32 md (L.getD i 0) <;> rw [h1] at b1 <;> rw [h2] at a1 <;> cases v <;> simp only [cond_true, cond_false]
      · exact ih _ _ _ _ (i + 1) hi2 hm2 (by simpa using b1) (by simpa using a1) (hv2.resolve_left ω15)
      · exact ih _ _ _ _ (i + 1) hi2 hm2 (by simpa using b1) (by simpa using a1) (.inl rfl)
      · exact ih _ _ _ _ (i + 1) hi2 hm2 (by simpa using b1) (by simp at a1; omega) (hv2.resolve_left ω15)
      · exact ih _ _ _ _ (i + 1) hi2 hm2 (by simpa using b1) (by simp at a1; omega) (.inl rfl)
      · exact ih _ _ _ _ (i + 1) hi2 hm2 (by simp at b1; omega) (by simpa using a1) (hv2.resolve_left ω15)
      · exact ih _ _ _ _ (i + 1) hi2 hm2 (by simp at b1; omega) (by simpa using a1) (.inl rfl)
      · exact ih _ _ _ _ (i + 1) hi2 hm2 (by simp at b1; omega) (by simp at a1; omega) (hv2.resolve_left ω15)
      · exact ih _ _ _ _ (i + 1) hi2 hm2 (by simp at b1; omega) (by simp at a1; omega) (.inl rfl)
    · have ei : i = L.length := by omega
      subst ei
      rw [List.drop_length] at b1 a1 hv
      have bx : x = B := by simpa using b1
      have ay : y = A := by simpa using a1
      have vt : v = true := hv.resolve_right fun ⟨z, hz, _⟩ => by cases hz
      rw [decide_eq_false (show ¬ (L.length : Int) < (L.length : Int) by omega), cond_false, r0, cond_true, p1, cond_true, p2, cond_true, r1, cond_true, vt, cond_true, bx, ay,
        wrap64 (n := 2 * (B : Int)) ω3 ω3, wrap64 (n := (L.length : Int) - 1) ω3 ω3, decide_eq_true (show 2 * (B : Int) ≤ (L.length : Int) - 1 by omega), cond_true,
        wrap64 (n := 2 * (A : Int)) ω3 ω3, decide_eq_true (show 2 * (A : Int) ≤ (L.length : Int) by omega), cond_true, p3, cond_true]
      exact p4
theorem laws_FnLimits_true (l_code : List UInt8) (l_more : List UInt8) : p_laws_FnLimits l_code l_more = true := by
  rw [p_laws_FnLimits_eq]
  cases p_laws_b10Long l_code l_more
  case true => rfl
  rw [cond_false]
  have g0 := lim_n l_more
  have g1 := laws_b10At_rng l_more 1 8 ω15 ω15
  have g2 := laws_b10At_rng l_more 2 128 ω15 ω15
  obtain ⟨j, hj⟩ : ∃ j : Nat, p_laws_b10At l_more 1 8 = (j : Int) := ⟨(p_laws_b10At l_more 1 8).toNat, by omega⟩
  obtain ⟨n, hn⟩ : ∃ n : Nat, p_laws_b10At l_more 2 128 = (n : Int) := ⟨(p_laws_b10At l_more 2 128).toNat, by omega⟩
  have eN : fdiv .f32 (FloatKind.nearest .f32 (IntKind.wrap .i64 (1 + p_laws_b10At l_more (1 : Int) (8 : Int)))) 1082130432 = nz j := by
    rw [wrap64 (n := 1 + p_laws_b10At l_more 1 8) ω3 ω3, hj, Int.add_comm]; rfl
  have eC : IntKind.wrap .i64 (1 + p_laws_b10At l_more (2 : Int) (128 : Int)) = (n : Int) + 1 := by
    rw [wrap64 (n := 1 + p_laws_b10At l_more 2 128) ω3 ω3, hn, Int.add_comm]
  have hj8 : j < 8 := by omega
  have hn8 : n < 128 := by omega
  obtain ⟨hL, hA⟩ := spec_B10Signal_all l_code (IntKind.wrap .i64 (1 + p_laws_b10At l_more (0 : Int) (16 : Int)))
  generalize eL : p_spec_B10Signal l_code (IntKind.wrap .i64 (1 + p_laws_b10At l_more (0 : Int) (16 : Int))) = L at hL hA ⊢
  have h1 : 1 ≤ L.length := by omega
  have h16 : L.length ≤ 16 := by omega
  have hq : ∀ y ∈ L, ∃ k : Nat, k < 65 ∧ y = qk k := hA
  have hf : ∀ y ∈ L, fin .f32 y = true := fun y hy => by
    obtain ⟨k, hk, e⟩ := hq y hy
    rw [e]; exact (tab_qk k hk).1
  have hq2 : ∀ i, i < L.length → ∃ k : Nat, k < 65 ∧ L.getD i 0 = qk k := fun i hi => by
    rw [List.getD_eq_getElem?_getD, List.getElem?_eq_getElem hi]; exact hq _ (List.getElem_mem hi)
  have hM : p_impl_MedianOf L = (p_impl_median L, true) := by rw [p_impl_MedianOf_eq, isLong_t h1 ω3 hf]; rfl
  obtain ⟨s, s1, s2⟩ := spread_ok h1 h16 hq hM
  obtain ⟨R, b, hR, hb, eB, hmin⟩ := best_ok hj8 h1 h16 hq2 hf
  obtain ⟨m1, m2⟩ := mid_ok h1 hf
  obtain ⟨p1, p2, p3, p4⟩ := plain_ok hj8 hn8
  have hr0 := (hR 0 ω3).1
  have c0 : flt .f32 ((cands L).getD b 0) 0 = false := by
    obtain ⟨f, _, c, c1, _, c3⟩ := cands_get hq2 hb
    have h0 : 0 ≤ sv .f32 ((cands L).getD b 0) := by rw [c3]; exact Int.mul_nonneg c1 ω15
    rw [flt_fin f (fin_zero _), sv_zero]
    exact decide_eq_false (Int.not_lt.2 h0)
  have same : p_spec_SameNumber (R b) (R b) = true := by rw [p_spec_SameNumber_eq, p_spec_l01Same_eq]; exact beq_self_eq_true _
  rw [eN, hM, s1, eB]
  simp only [Bool.not_true, cond_false]
  rw [(hR b hb).1, s2, c0]
  simp only [same, Bool.not_true, cond_false]
  have hr0' : p_impl_RiskOf L (nz j) 0 = (R 0, true) := hr0
  refine lim_loop (R := R) (b := b) eL eN eC (by rw [hM]) h16 (by rw [eB]) (fun i hi => ?_) (fun i hi => ?_) (by rw [hr0']) ?_ p1 p2 p3 p4 m1 m2 _ _ _ _ _ 0 (Nat.zero_le _) ω3 (by simp) (by simp) (.inr ⟨p_impl_median L, median_mem h1, feq_self (fin_nn (hf _ (median_mem h1)))⟩)
  · obtain ⟨k, hk, e⟩ := hq2 i hi
    rw [e, tab_abs k hk]
  · obtain ⟨r1, r2⟩ := hR (i + 1) ω3
    rw [cands_size hi] at r1
    refine ⟨r1, ?_⟩
    rw [flt_fin r2 (hR b hb).2]
    exact decide_eq_false (Int.not_lt.2 (hmin (i + 1) ω3))
  · rw [hr0', fle_fin (hR b hb).2 (hR 0 ω3).2]
    exact decide_eq_true (hmin 0 ω3)
/-! laws_FnLimits: function 10 -/
def E_laws_FnLimits : Env := envOf [(43, S_laws_b10Long), (44, S_laws_b10At), (45, S_spec_B10Signal), (65, S_impl_MedianOf), (66, S_impl_SpreadOf), (67, S_impl_BestLimit), (68, S_impl_RiskOf), (69, S_spec_SameNumber), (48, S_laws_b10Gap), (70, S_impl_PlainLimit)]
def F_laws_FnLimits : List Value → AHeap → (Value → AHeap → Prop) → Prop
  | [.slice code_a code_n code_e, .slice more_a more_n more_e], H, K => T_laws_FnLimits code_a code_n code_e more_a more_n more_e H fun (r1 : Bool) (H' : AHeap) => K (.bool r1) H'
  | _, _, _ => False
def S_laws_FnLimits : FSpec := { F := F_laws_FnLimits, quiet := false, tame := false }
theorem laws_FnLimits_vc (code_a : Option Addr) (code_n : Nat) (code_e : Nat) (more_a : Option Addr) (more_n : Nat) (more_e : Nat) (H : AHeap) (K : Value → AHeap → Prop) : bodyL Try.prog E_laws_FnLimits Try.f10 [.slice code_a code_n code_e, .slice more_a more_n more_e] H K =
  (T_laws_b10Long code_a code_n code_e more_a more_n more_e H fun (r1 : Bool) (H1 : AHeap) => Br r1 (K (.bool true) H1) (T_laws_b10At more_a more_n more_e 0 16 H1 fun (r2 : Int) (H2 : AHeap) => T_spec_B10Signal code_a code_n code_e (IntKind.wrap .i64 (1 + r2)) H2 fun (a1 : Option Addr) (r3 : Nat) (r4 : Nat) (H3 : AHeap) => T_impl_MedianOf a1 r3 r4 H3 fun (r5 : Nat) (r6 : Bool) (H4 : AHeap) => T_impl_SpreadOf a1 r3 r4 H4 fun (r7 : Nat) (r8 : Bool) (H5 : AHeap) => T_laws_b10At more_a more_n more_e 1 8 H5 fun (r9 : Int) (H6 : AHeap) => T_impl_BestLimit a1 r3 r4 (fdiv .f32 (FloatKind.nearest .f32 (IntKind.wrap .i64 (1 + r9))) 1082130432) H6 fun (r10 : Nat) (r11 : Nat) (r12 : Bool) (H7 : AHeap) => T_impl_RiskOf a1 r3 r4 (fdiv .f32 (FloatKind.nearest .f32 (IntKind.wrap .i64 (1 + r9))) 1082130432) r10 H7 fun (r13 : Nat) (r14 : Bool) (H8 : AHeap) => Br (!r6) (K (.bool false) H8) (Br (!r8) (K (.bool false) H8) (Br (!r12) (K (.bool false) H8) (Br (!r14) (K (.bool false) H8) (Br (flt .f32 r7 0) (K (.bool false) H8) (Br (flt .f32 r10 0) (K (.bool false) H8) (T_spec_SameNumber r13 r11 H8 fun (r15 : Bool) (H9 : AHeap) => Br (!r15) (K (.bool false) H9) (loopK (exL Try.prog E_laws_FnLimits (cl (cl (cr (cl (cr (cr (cr (cr (cr (cr (cr (cr (cr (cr (cr (cr (bodyC Try.f10))))))))))))))))) 118842243771396506390316389474 16 [(0, 463906)]) [ud, .slice more_a more_n more_e, ud, ud, ud, .slice a1 r3 r4, .float .f32 r5, ud, ud, ud, .float .f32 (fdiv .f32 (FloatKind.nearest .f32 (IntKind.wrap .i64 (1 + r9))) 1082130432), ud, .float .f32 r11, ud, ud, ud, .int .i64 0, .int .i64 0, .bool false, ud, ud, ud, ud, ud, ud, ud, ud, ud, ud, ud, ud, ud, ud, ud, ud, ud, ud, ud, ud, ud, ud, ud, ud, ud, ud, ud, ud, ud, ud, ud, ud, ud, ud, ud, ud, ud, ud, ud, ud, ud, ud, ud, ud, ud, ud, ud, ud, ud, ud, ud, ud, ud, ud, ud, ud, ud, ud, ud, ud, ud, ud, ud, ud, ud, ud, ud, ud, ud, ud, ud, ud, ud, ud, ud, ud, .int .i64 (r3 : Int), .int .i64 0, ud, ud, ud, ud, ud, ud, ud, ud, ud, ud, ud, ud, ud, ud, ud, ud, ud, ud, ud, ud, ud, ud, ud, ud, ud, ud, ud, ud, ud, ud, ud, ud, ud, ud, ud, ud, ud, ud, ud, ud, ud, ud, ud, ud, ud, ud, ud, ud, ud, ud, ud, ud, ud, ud, ud, ud, ud, ud, ud, ud, ud, ud, ud, ud, ud, ud, ud, ud, ud, ud, ud, ud, ud, ud, ud, ud, ud, ud, ud, ud, ud, ud, ud, ud, ud, ud, ud, ud, ud, ud, ud, ud, ud, ud, ud, ud, ud, ud, ud, ud, ud, ud, ud, ud, ud, ud, ud, ud, ud, ud, ud, ud, ud, ud, ud, ud, ud] H9 (blockQ 0 (seqQ (exL Try.prog E_laws_FnLimits (cr (cr (cr (cr (cr (cr (cr (cr (cr (cr (cr (cr (cr (bodyC Try.f10)))))))))))))) 16 16 []) (retK Try.prog Try.f10 K)))))))))))) := by kernel_rfl
abbrev laws_FnLimits_P1 (a1 : Option Addr) (more_a : Option Addr) (more_e : Nat) (more_n : Nat) (r11 : Nat) (r3 : Nat) (r4 : Nat) (r5 : Nat) (r9 : Int) (below : Int) (above : Int) (vin : Bool) (t96 : Int)  : List Value := [ud, .slice more_a more_n more_e, ud, ud, ud, .slice a1 r3 r4, .float .f32 r5, ud, ud, ud, .float .f32 (fdiv .f32 (FloatKind.nearest .f32 (IntKind.wrap .i64 (1 + r9))) 1082130432), ud, .float .f32 r11, ud, ud, ud, .int .i64 below, .int .i64 above, .bool vin, ud, ud, ud, ud, ud, ud, ud, ud, ud, ud, ud, ud, ud, ud, ud, ud, ud, ud, ud, ud, ud, ud, ud, ud, ud, ud, ud, ud, ud, ud, ud, ud, ud, ud, ud, ud, ud, ud, ud, ud, ud, ud, ud, ud, ud, ud, ud, ud, ud, ud, ud, ud, ud, ud, ud, ud, ud, ud, ud, ud, ud, ud, ud, ud, ud, ud, ud, ud, ud, ud, ud, ud, ud, ud, ud, ud, .int .i64 (r3 : Int), .int .i64 t96, ud, ud, ud, ud, ud, ud, ud, ud, ud, ud, ud, ud, ud, ud, ud, ud, ud, ud, ud, ud, ud, ud, ud, ud, ud, ud, ud, ud, ud, ud, ud, ud, ud, ud, ud, ud, ud, ud, ud, ud, ud, ud, ud, ud, ud, ud, ud, ud, ud, ud, ud, ud, ud, ud, ud, ud, ud, ud, ud, ud, ud, ud, ud, ud, ud, ud, ud, ud, ud, ud, ud, ud, ud, ud, ud, ud, ud, ud, ud, ud, ud, ud, ud, ud, ud, ud, ud, ud, ud, ud, ud, ud, ud, ud, ud, ud, ud, ud, ud, ud, ud, ud, ud, ud, ud, ud, ud, ud, ud, ud, ud, ud, ud, ud, ud, ud, ud]
theorem laws_FnLimits_r1 (a1 : Option Addr) (more_a : Option Addr) (more_e : Nat) (more_n : Nat) (r11 : Nat) (r3 : Nat) (r4 : Nat) (r5 : Nat) (r9 : Int) (below : Int) (above : Int) (vin : Bool) (t96 : Int)  (H : AHeap) (R : Post) : exL Try.prog E_laws_FnLimits (cl (cl (cr (cl (cr (cr (cr (cr (cr (cr (cr (cr (cr (cr (cr (cr (bodyC Try.f10))))))))))))))))) 118842243771396506390316389474 16 [(0, 463906)] (laws_FnLimits_P1 a1 more_a more_e more_n r11 r3 r4 r5 r9 below above vin t96) H R =
  (Br (decide ((t96 : Int) < (r3 : Int))) ((0 : Int) ≤ t96 ∧ t96 < (r3 : Int) ∧ ∃ b1 f1, (a1 : Option Addr) = some ⟨b1, f1, none⟩ ∧ ∃ x1 : Nat,  rdC H b1 (f1 + (t96 : Int).toNat * 1) = some (.float .f32 x1) ∧ Br (flt .f32 x1 r5) ((0 : Int) ≤ t96 ∧ t96 < (r3 : Int) ∧ ∃ b2 f2, (a1 : Option Addr) = some ⟨b2, f2, none⟩ ∧ ∃ x2 : Nat,  rdC H b2 (f2 + (t96 : Int).toNat * 1) = some (.float .f32 x2) ∧ Br (flt .f32 r5 x2) (Br vin ((0 : Int) ≤ t96 ∧ t96 < (r3 : Int) ∧ ∃ b3 f3, (a1 : Option Addr) = some ⟨b3, f3, none⟩ ∧ ∃ x3 : Nat,  rdC H b3 (f3 + (t96 : Int).toNat * 1) = some (.float .f32 x3) ∧ T_laws_b10Gap (fwide x3) 0 H fun (r16 : Nat) (H10 : AHeap) => ∃ x4 : Nat, fnarrow r16 = some x4 ∧ T_impl_RiskOf a1 r3 r4 (fdiv .f32 (FloatKind.nearest .f32 (IntKind.wrap .i64 (1 + r9))) 1082130432) x4 H10 fun (r17 : Nat) (r18 : Bool) (H11 : AHeap) => Br (!r18) (R .ret [ud, ud, ud, ud, .bool false, ud, ud, ud, ud, ud, ud, ud, ud, ud, ud, ud, ud, ud, ud, ud, ud, ud, ud, ud, ud, ud, ud, ud, ud, ud, ud, ud, ud, ud, ud, ud, ud, ud, ud, ud, ud, ud, ud, ud, ud, ud, ud, ud, ud, ud, ud, ud, ud, ud, ud, ud, ud, ud, ud, ud, ud, ud, ud, ud, ud, ud, ud, ud, ud, ud, ud, ud, ud, ud, ud, ud, ud, ud, ud, ud, ud, ud, ud, ud, ud, ud, ud, ud, ud, ud, ud, ud, ud, ud, ud, ud, ud, ud, ud, ud, ud, ud, ud, ud, ud, ud, ud, ud, ud, ud, ud, ud, ud, ud, ud, ud, ud, ud, ud, ud, ud, ud, ud, ud, ud, ud, ud, ud, ud, ud, ud, ud, ud, ud, ud, ud, ud, ud, ud, ud, ud, ud, ud, ud, ud, ud, ud, ud, ud, ud, ud, ud, ud, ud, ud, ud, ud, ud, ud, ud, ud, ud, ud, ud, ud, ud, ud, ud, ud, ud, ud, ud, ud, ud, ud, ud, ud, ud, ud, ud, ud, ud, ud, ud, ud, ud, ud, ud, ud, ud, ud, ud, ud, ud, ud, ud, ud, ud, ud, ud, ud, ud, ud, ud, ud, ud, ud, ud, ud, ud, ud, ud, ud, ud] H11) (Br (flt .f32 r17 r11) (R .ret [ud, ud, ud, ud, .bool false, ud, ud, ud, ud, ud, ud, ud, ud, ud, ud, ud, ud, ud, ud, ud, ud, ud, ud, ud, ud, ud, ud, ud, ud, ud, ud, ud, ud, ud, ud, ud, ud, ud, ud, ud, ud, ud, ud, ud, ud, ud, ud, ud, ud, ud, ud, ud, ud, ud, ud, ud, ud, ud, ud, ud, ud, ud, ud, ud, ud, ud, ud, ud, ud, ud, ud, ud, ud, ud, ud, ud, ud, ud, ud, ud, ud, ud, ud, ud, ud, ud, ud, ud, ud, ud, ud, ud, ud, ud, ud, ud, ud, ud, ud, ud, ud, ud, ud, ud, ud, ud, ud, ud, ud, ud, ud, ud, ud, ud, ud, ud, ud, ud, ud, ud, ud, ud, ud, ud, ud, ud, ud, ud, ud, ud, ud, ud, ud, ud, ud, ud, ud, ud, ud, ud, ud, ud, ud, ud, ud, ud, ud, ud, ud, ud, ud, ud, ud, ud, ud, ud, ud, ud, ud, ud, ud, ud, ud, ud, ud, ud, ud, ud, ud, ud, ud, ud, ud, ud, ud, ud, ud, ud, ud, ud, ud, ud, ud, ud, ud, ud, ud, ud, ud, ud, ud, ud, ud, ud, ud, ud, ud, ud, ud, ud, ud, ud, ud, ud, ud, ud, ud, ud, ud, ud, ud, ud, ud, ud] H11) (R .normal [ud, .slice more_a more_n more_e, ud, ud, ud, .slice a1 r3 r4, .float .f32 r5, ud, ud, ud, .float .f32 (fdiv .f32 (FloatKind.nearest .f32 (IntKind.wrap .i64 (1 + r9))) 1082130432), ud, .float .f32 r11, ud, ud, ud, .int .i64 (IntKind.wrap .i64 (below + 1)), .int .i64 (IntKind.wrap .i64 (above + 1)), .bool true, ud, ud, ud, ud, ud, ud, ud, ud, ud, ud, ud, ud, ud, ud, ud, ud, ud, ud, ud, ud, ud, ud, ud, ud, ud, ud, ud, ud, ud, ud, ud, ud, ud, ud, ud, ud, ud, ud, ud, ud, ud, ud, ud, ud, ud, ud, ud, ud, ud, ud, ud, ud, ud, ud, ud, ud, ud, ud, ud, ud, ud, ud, ud, ud, ud, ud, ud, ud, ud, ud, ud, ud, ud, ud, ud, ud, .int .i64 (r3 : Int), .int .i64 (IntKind.wrap .i64 (t96 + 1)), ud, ud, ud, ud, ud, ud, ud, ud, ud, ud, ud, ud, ud, ud, ud, ud, ud, ud, ud, ud, ud, ud, ud, ud, ud, ud, ud, ud, ud, ud, ud, ud, ud, ud, ud, ud, ud, ud, ud, ud, ud, ud, ud, ud, ud, ud, ud, ud, ud, ud, ud, ud, ud, ud, ud, ud, ud, ud, ud, ud, ud, ud, ud, ud, ud, ud, ud, ud, ud, ud, ud, ud, ud, ud, ud, ud, ud, ud, ud, ud, ud, ud, ud, ud, ud, ud, ud, ud, ud, ud, ud, ud, ud, ud, ud, ud, ud, ud, ud, ud, ud, ud, ud, ud, ud, ud, ud, ud, ud, ud, ud, ud, ud, ud, ud, ud, ud] H11))) ((0 : Int) ≤ t96 ∧ t96 < (r3 : Int) ∧ ∃ b4 f4, (a1 : Option Addr) = some ⟨b4, f4, none⟩ ∧ ∃ x5 : Nat,  rdC H b4 (f4 + (t96 : Int).toNat * 1) = some (.float .f32 x5) ∧ (0 : Int) ≤ t96 ∧ t96 < (r3 : Int) ∧ ∃ b5 f5, (a1 : Option Addr) = some ⟨b5, f5, none⟩ ∧ ∃ x6 : Nat,  rdC H b5 (f5 + (t96 : Int).toNat * 1) = some (.float .f32 x6) ∧ T_laws_b10Gap (fwide x6) 0 H fun (r19 : Nat) (H12 : AHeap) => ∃ x7 : Nat, fnarrow r19 = some x7 ∧ T_impl_RiskOf a1 r3 r4 (fdiv .f32 (FloatKind.nearest .f32 (IntKind.wrap .i64 (1 + r9))) 1082130432) x7 H12 fun (r20 : Nat) (r21 : Bool) (H13 : AHeap) => Br (!r21) (R .ret [ud, ud, ud, ud, .bool false, ud, ud, ud, ud, ud, ud, ud, ud, ud, ud, ud, ud, ud, ud, ud, ud, ud, ud, ud, ud, ud, ud, ud, ud, ud, ud, ud, ud, ud, ud, ud, ud, ud, ud, ud, ud, ud, ud, ud, ud, ud, ud, ud, ud, ud, ud, ud, ud, ud, ud, ud, ud, ud, ud, ud, ud, ud, ud, ud, ud, ud, ud, ud, ud, ud, ud, ud, ud, ud, ud, ud, ud, ud, ud, ud, ud, ud, ud, ud, ud, ud, ud, ud, ud, ud, ud, ud, ud, ud, ud, ud, ud, ud, ud, ud, ud, ud, ud, ud, ud, ud, ud, ud, ud, ud, ud, ud, ud, ud, ud, ud, ud, ud, ud, ud, ud, ud, ud, ud, ud, ud, ud, ud, ud, ud, ud, ud, ud, ud, ud, ud, ud, ud, ud, ud, ud, ud, ud, ud, ud, ud, ud, ud, ud, ud, ud, ud, ud, ud, ud, ud, ud, ud, ud, ud, ud, ud, ud, ud, ud, ud, ud, ud, ud, ud, ud, ud, ud, ud, ud, ud, ud, ud, ud, ud, ud, ud, ud, ud, ud, ud, ud, ud, ud, ud, ud, ud, ud, ud, ud, ud, ud, ud, ud, ud, ud, ud, ud, ud, ud, ud, ud, ud, ud, ud, ud, ud, ud, ud] H13) (Br (flt .f32 r20 r11) (R .ret [ud, ud, ud, ud, .bool false, ud, ud, ud, ud, ud, ud, ud, ud, ud, ud, ud, ud, ud, ud, ud, ud, ud, ud, ud, ud, ud, ud, ud, ud, ud, ud, ud, ud, ud, ud, ud, ud, ud, ud, ud, ud, ud, ud, ud, ud, ud, ud, ud, ud, ud, ud, ud, ud, ud, ud, ud, ud, ud, ud, ud, ud, ud, ud, ud, ud, ud, ud, ud, ud, ud, ud, ud, ud, ud, ud, ud, ud, ud, ud, ud, ud, ud, ud, ud, ud, ud, ud, ud, ud, ud, ud, ud, ud, ud, ud, ud, ud, ud, ud, ud, ud, ud, ud, ud, ud, ud, ud, ud, ud, ud, ud, ud, ud, ud, ud, ud, ud, ud, ud, ud, ud, ud, ud, ud, ud, ud, ud, ud, ud, ud, ud, ud, ud, ud, ud, ud, ud, ud, ud, ud, ud, ud, ud, ud, ud, ud, ud, ud, ud, ud, ud, ud, ud, ud, ud, ud, ud, ud, ud, ud, ud, ud, ud, ud, ud, ud, ud, ud, ud, ud, ud, ud, ud, ud, ud, ud, ud, ud, ud, ud, ud, ud, ud, ud, ud, ud, ud, ud, ud, ud, ud, ud, ud, ud, ud, ud, ud, ud, ud, ud, ud, ud, ud, ud, ud, ud, ud, ud, ud, ud, ud, ud, ud, ud] H13) (R .normal [ud, .slice more_a more_n more_e, ud, ud, ud, .slice a1 r3 r4, .float .f32 r5, ud, ud, ud, .float .f32 (fdiv .f32 (FloatKind.nearest .f32 (IntKind.wrap .i64 (1 + r9))) 1082130432), ud, .float .f32 r11, ud, ud, ud, .int .i64 (IntKind.wrap .i64 (below + 1)), .int .i64 (IntKind.wrap .i64 (above + 1)), .bool (feq .f32 x5 r5), ud, ud, ud, ud, ud, ud, ud, ud, ud, ud, ud, ud, ud, ud, ud, ud, ud, ud, ud, ud, ud, ud, ud, ud, ud, ud, ud, ud, ud, ud, ud, ud, ud, ud, ud, ud, ud, ud, ud, ud, ud, ud, ud, ud, ud, ud, ud, ud, ud, ud, ud, ud, ud, ud, ud, ud, ud, ud, ud, ud, ud, ud, ud, ud, ud, ud, ud, ud, ud, ud, ud, ud, ud, ud, ud, ud, .int .i64 (r3 : Int), .int .i64 (IntKind.wrap .i64 (t96 + 1)), ud, ud, ud, ud, ud, ud, ud, ud, ud, ud, ud, ud, ud, ud, ud, ud, ud, ud, ud, ud, ud, ud, ud, ud, ud, ud, ud, ud, ud, ud, ud, ud, ud, ud, ud, ud, ud, ud, ud, ud, ud, ud, ud, ud, ud, ud, ud, ud, ud, ud, ud, ud, ud, ud, ud, ud, ud, ud, ud, ud, ud, ud, ud, ud, ud, ud, ud, ud, ud, ud, ud, ud, ud, ud, ud, ud, ud, ud, ud, ud, ud, ud, ud, ud, ud, ud, ud, ud, ud, ud, ud, ud, ud, ud, ud, ud, ud, ud, ud, ud, ud, ud, ud, ud, ud, ud, ud, ud, ud, ud, ud, ud, ud, ud, ud, ud, ud] H13)))) (Br vin ((0 : Int) ≤ t96 ∧ t96 < (r3 : Int) ∧ ∃ b6 f6, (a1 : Option Addr) = some ⟨b6, f6, none⟩ ∧ ∃ x8 : Nat,  rdC H b6 (f6 + (t96 : Int).toNat * 1) = some (.float .f32 x8) ∧ T_laws_b10Gap (fwide x8) 0 H fun (r22 : Nat) (H14 : AHeap) => ∃ x9 : Nat, fnarrow r22 = some x9 ∧ T_impl_RiskOf a1 r3 r4 (fdiv .f32 (FloatKind.nearest .f32 (IntKind.wrap .i64 (1 + r9))) 1082130432) x9 H14 fun (r23 : Nat) (r24 : Bool) (H15 : AHeap) => Br (!r24) (R .ret [ud, ud, ud, ud, .bool false, ud, ud, ud, ud, ud, ud, ud, ud, ud, ud, ud, ud, ud, ud, ud, ud, ud, ud, ud, ud, ud, ud, ud, ud, ud, ud, ud, ud, ud, ud, ud, ud, ud, ud, ud, ud, ud, ud, ud, ud, ud, ud, ud, ud, ud, ud, ud, ud, ud, ud, ud, ud, ud, ud, ud, ud, ud, ud, ud, ud, ud, ud, ud, ud, ud, ud, ud, ud, ud, ud, ud, ud, ud, ud, ud, ud, ud, ud, ud, ud, ud, ud, ud, ud, ud, ud, ud, ud, ud, ud, ud, ud, ud, ud, ud, ud, ud, ud, ud, ud, ud, ud, ud, ud, ud, ud, ud, ud, ud, ud, ud, ud, ud, ud, ud, ud, ud, ud, ud, ud, ud, ud, ud, ud, ud, ud, ud, ud, ud, ud, ud, ud, ud, ud, ud, ud, ud, ud, ud, ud, ud, ud, ud, ud, ud, ud, ud, ud, ud, ud, ud, ud, ud, ud, ud, ud, ud, ud, ud, ud, ud, ud, ud, ud, ud, ud, ud, ud, ud, ud, ud, ud, ud, ud, ud, ud, ud, ud, ud, ud, ud, ud, ud, ud, ud, ud, ud, ud, ud, ud, ud, ud, ud, ud, ud, ud, ud, ud, ud, ud, ud, ud, ud, ud, ud, ud, ud, ud, ud] H15) (Br (flt .f32 r23 r11) (R .ret [ud, ud, ud, ud, .bool false, ud, ud, ud, ud, ud, ud, ud, ud, ud, ud, ud, ud, ud, ud, ud, ud, ud, ud, ud, ud, ud, ud, ud, ud, ud, ud, ud, ud, ud, ud, ud, ud, ud, ud, ud, ud, ud, ud, ud, ud, ud, ud, ud, ud, ud, ud, ud, ud, ud, ud, ud, ud, ud, ud, ud, ud, ud, ud, ud, ud, ud, ud, ud, ud, ud, ud, ud, ud, ud, ud, ud, ud, ud, ud, ud, ud, ud, ud, ud, ud, ud, ud, ud, ud, ud, ud, ud, ud, ud, ud, ud, ud, ud, ud, ud, ud, ud, ud, ud, ud, ud, ud, ud, ud, ud, ud, ud, ud, ud, ud, ud, ud, ud, ud, ud, ud, ud, ud, ud, ud, ud, ud, ud, ud, ud, ud, ud, ud, ud, ud, ud, ud, ud, ud, ud, ud, ud, ud, ud, ud, ud, ud, ud, ud, ud, ud, ud, ud, ud, ud, ud, ud, ud, ud, ud, ud, ud, ud, ud, ud, ud, ud, ud, ud, ud, ud, ud, ud, ud, ud, ud, ud, ud, ud, ud, ud, ud, ud, ud, ud, ud, ud, ud, ud, ud, ud, ud, ud, ud, ud, ud, ud, ud, ud, ud, ud, ud, ud, ud, ud, ud, ud, ud, ud, ud, ud, ud, ud, ud] H15) (R .normal [ud, .slice more_a more_n more_e, ud, ud, ud, .slice a1 r3 r4, .float .f32 r5, ud, ud, ud, .float .f32 (fdiv .f32 (FloatKind.nearest .f32 (IntKind.wrap .i64 (1 + r9))) 1082130432), ud, .float .f32 r11, ud, ud, ud, .int .i64 (IntKind.wrap .i64 (below + 1)), .int .i64 above, .bool true, ud, ud, ud, ud, ud, ud, ud, ud, ud, ud, ud, ud, ud, ud, ud, ud, ud, ud, ud, ud, ud, ud, ud, ud, ud, ud, ud, ud, ud, ud, ud, ud, ud, ud, ud, ud, ud, ud, ud, ud, ud, ud, ud, ud, ud, ud, ud, ud, ud, ud, ud, ud, ud, ud, ud, ud, ud, ud, ud, ud, ud, ud, ud, ud, ud, ud, ud, ud, ud, ud, ud, ud, ud, ud, ud, ud, .int .i64 (r3 : Int), .int .i64 (IntKind.wrap .i64 (t96 + 1)), ud, ud, ud, ud, ud, ud, ud, ud, ud, ud, ud, ud, ud, ud, ud, ud, ud, ud, ud, ud, ud, ud, ud, ud, ud, ud, ud, ud, ud, ud, ud, ud, ud, ud, ud, ud, ud, ud, ud, ud, ud, ud, ud, ud, ud, ud, ud, ud, ud, ud, ud, ud, ud, ud, ud, ud, ud, ud, ud, ud, ud, ud, ud, ud, ud, ud, ud, ud, ud, ud, ud, ud, ud, ud, ud, ud, ud, ud, ud, ud, ud, ud, ud, ud, ud, ud, ud, ud, ud, ud, ud, ud, ud, ud, ud, ud, ud, ud, ud, ud, ud, ud, ud, ud, ud, ud, ud, ud, ud, ud, ud, ud, ud, ud, ud, ud, ud] H15))) ((0 : Int) ≤ t96 ∧ t96 < (r3 : Int) ∧ ∃ b7 f7, (a1 : Option Addr) = some ⟨b7, f7, none⟩ ∧ ∃ x10 : Nat,  rdC H b7 (f7 + (t96 : Int).toNat * 1) = some (.float .f32 x10) ∧ (0 : Int) ≤ t96 ∧ t96 < (r3 : Int) ∧ ∃ b8 f8, (a1 : Option Addr) = some ⟨b8, f8, none⟩ ∧ ∃ x11 : Nat,  rdC H b8 (f8 + (t96 : Int).toNat * 1) = some (.float .f32 x11) ∧ T_laws_b10Gap (fwide x11) 0 H fun (r25 : Nat) (H16 : AHeap) => ∃ x12 : Nat, fnarrow r25 = some x12 ∧ T_impl_RiskOf a1 r3 r4 (fdiv .f32 (FloatKind.nearest .f32 (IntKind.wrap .i64 (1 + r9))) 1082130432) x12 H16 fun (r26 : Nat) (r27 : Bool) (H17 : AHeap) => Br (!r27) (R .ret [ud, ud, ud, ud, .bool false, ud, ud, ud, ud, ud, ud, ud, ud, ud, ud, ud, ud, ud, ud, ud, ud, ud, ud, ud, ud, ud, ud, ud, ud, ud, ud, ud, ud, ud, ud, ud, ud, ud, ud, ud, ud, ud, ud, ud, ud, ud, ud, ud, ud, ud, ud, ud, ud, ud, ud, ud, ud, ud, ud, ud, ud, ud, ud, ud, ud, ud, ud, ud, ud, ud, ud, ud, ud, ud, ud, ud, ud, ud, ud, ud, ud, ud, ud, ud, ud, ud, ud, ud, ud, ud, ud, ud, ud, ud, ud, ud, ud, ud, ud, ud, ud, ud, ud, ud, ud, ud, ud, ud, ud, ud, ud, ud, ud, ud, ud, ud, ud, ud, ud, ud, ud, ud, ud, ud, ud, ud, ud, ud, ud, ud, ud, ud, ud, ud, ud, ud, ud, ud, ud, ud, ud, ud, ud, ud, ud, ud, ud, ud, ud, ud, ud, ud, ud, ud, ud, ud, ud, ud, ud, ud, ud, ud, ud, ud, ud, ud, ud, ud, ud, ud, ud, ud, ud, ud, ud, ud, ud, ud, ud, ud, ud, ud, ud, ud, ud, ud, ud, ud, ud, ud, ud, ud, ud, ud, ud, ud, ud, ud, ud, ud, ud, ud, ud, ud, ud, ud, ud, ud, ud, ud, ud, ud, ud, ud] H17) (Br (flt .f32 r26 r11) (R .ret [ud, ud, ud, ud, .bool false, ud, ud, ud, ud, ud, ud, ud, ud, ud, ud, ud, ud, ud, ud, ud, ud, ud, ud, ud, ud, ud, ud, ud, ud, ud, ud, ud, ud, ud, ud, ud, ud, ud, ud, ud, ud, ud, ud, ud, ud, ud, ud, ud, ud, ud, ud, ud, ud, ud, ud, ud, ud, ud, ud, ud, ud, ud, ud, ud, ud, ud, ud, ud, ud, ud, ud, ud, ud, ud, ud, ud, ud, ud, ud, ud, ud, ud, ud, ud, ud, ud, ud, ud, ud, ud, ud, ud, ud, ud, ud, ud, ud, ud, ud, ud, ud, ud, ud, ud, ud, ud, ud, ud, ud, ud, ud, ud, ud, ud, ud, ud, ud, ud, ud, ud, ud, ud, ud, ud, ud, ud, ud, ud, ud, ud, ud, ud, ud, ud, ud, ud, ud, ud, ud, ud, ud, ud, ud, ud, ud, ud, ud, ud, ud, ud, ud, ud, ud, ud, ud, ud, ud, ud, ud, ud, ud, ud, ud, ud, ud, ud, ud, ud, ud, ud, ud, ud, ud, ud, ud, ud, ud, ud, ud, ud, ud, ud, ud, ud, ud, ud, ud, ud, ud, ud, ud, ud, ud, ud, ud, ud, ud, ud, ud, ud, ud, ud, ud, ud, ud, ud, ud, ud, ud, ud, ud, ud, ud, ud] H17) (R .normal [ud, .slice more_a more_n more_e, ud, ud, ud, .slice a1 r3 r4, .float .f32 r5, ud, ud, ud, .float .f32 (fdiv .f32 (FloatKind.nearest .f32 (IntKind.wrap .i64 (1 + r9))) 1082130432), ud, .float .f32 r11, ud, ud, ud, .int .i64 (IntKind.wrap .i64 (below + 1)), .int .i64 above, .bool (feq .f32 x10 r5), ud, ud, ud, ud, ud, ud, ud, ud, ud, ud, ud, ud, ud, ud, ud, ud, ud, ud, ud, ud, ud, ud, ud, ud, ud, ud, ud, ud, ud, ud, ud, ud, ud, ud, ud, ud, ud, ud, ud, ud, ud, ud, ud, ud, ud, ud, ud, ud, ud, ud, ud, ud, ud, ud, ud, ud, ud, ud, ud, ud, ud, ud, ud, ud, ud, ud, ud, ud, ud, ud, ud, ud, ud, ud, ud, ud, .int .i64 (r3 : Int), .int .i64 (IntKind.wrap .i64 (t96 + 1)), ud, ud, ud, ud, ud, ud, ud, ud, ud, ud, ud, ud, ud, ud, ud, ud, ud, ud, ud, ud, ud, ud, ud, ud, ud, ud, ud, ud, ud, ud, ud, ud, ud, ud, ud, ud, ud, ud, ud, ud, ud, ud, ud, ud, ud, ud, ud, ud, ud, ud, ud, ud, ud, ud, ud, ud, ud, ud, ud, ud, ud, ud, ud, ud, ud, ud, ud, ud, ud, ud, ud, ud, ud, ud, ud, ud, ud, ud, ud, ud, ud, ud, ud, ud, ud, ud, ud, ud, ud, ud, ud, ud, ud, ud, ud, ud, ud, ud, ud, ud, ud, ud, ud, ud, ud, ud, ud, ud, ud, ud, ud, ud, ud, ud, ud, ud, ud] H17))))) ((0 : Int) ≤ t96 ∧ t96 < (r3 : Int) ∧ ∃ b9 f9, (a1 : Option Addr) = some ⟨b9, f9, none⟩ ∧ ∃ x13 : Nat,  rdC H b9 (f9 + (t96 : Int).toNat * 1) = some (.float .f32 x13) ∧ Br (flt .f32 r5 x13) (Br vin ((0 : Int) ≤ t96 ∧ t96 < (r3 : Int) ∧ ∃ b10 f10, (a1 : Option Addr) = some ⟨b10, f10, none⟩ ∧ ∃ x14 : Nat,  rdC H b10 (f10 + (t96 : Int).toNat * 1) = some (.float .f32 x14) ∧ T_laws_b10Gap (fwide x14) 0 H fun (r28 : Nat) (H18 : AHeap) => ∃ x15 : Nat, fnarrow r28 = some x15 ∧ T_impl_RiskOf a1 r3 r4 (fdiv .f32 (FloatKind.nearest .f32 (IntKind.wrap .i64 (1 + r9))) 1082130432) x15 H18 fun (r29 : Nat) (r30 : Bool) (H19 : AHeap) => Br (!r30) (R .ret [ud, ud, ud, ud, .bool false, ud, ud, ud, ud, ud, ud, ud, ud, ud, ud, ud, ud, ud, ud, ud, ud, ud, ud, ud, ud, ud, ud, ud, ud, ud, ud, ud, ud, ud, ud, ud, ud, ud, ud, ud, ud, ud, ud, ud, ud, ud, ud, ud, ud, ud, ud, ud, ud, ud, ud, ud, ud, ud, ud, ud, ud, ud, ud, ud, ud, ud, ud, ud, ud, ud, ud, ud, ud, ud, ud, ud, ud, ud, ud, ud, ud, ud, ud, ud, ud, ud, ud, ud, ud, ud, ud, ud, ud, ud, ud, ud, ud, ud, ud, ud, ud, ud, ud, ud, ud, ud, ud, ud, ud, ud, ud, ud, ud, ud, ud, ud, ud, ud, ud, ud, ud, ud, ud, ud, ud, ud, ud, ud, ud, ud, ud, ud, ud, ud, ud, ud, ud, ud, ud, ud, ud, ud, ud, ud, ud, ud, ud, ud, ud, ud, ud, ud, ud, ud, ud, ud, ud, ud, ud, ud, ud, ud, ud, ud, ud, ud, ud, ud, ud, ud, ud, ud, ud, ud, ud, ud, ud, ud, ud, ud, ud, ud, ud, ud, ud, ud, ud, ud, ud, ud, ud, ud, ud, ud, ud, ud, ud, ud, ud, ud, ud, ud, ud, ud, ud, ud, ud, ud, ud, ud, ud, ud, ud, ud] H19) (Br (flt .f32 r29 r11) (R .ret [ud, ud, ud, ud, .bool false, ud, ud, ud, ud, ud, ud, ud, ud, ud, ud, ud, ud, ud, ud, ud, ud, ud, ud, ud, ud, ud, ud, ud, ud, ud, ud, ud, ud, ud, ud, ud, ud, ud, ud, ud, ud, ud, ud, ud, ud, ud, ud, ud, ud, ud, ud, ud, ud, ud, ud, ud, ud, ud, ud, ud, ud, ud, ud, ud, ud, ud, ud, ud, ud, ud, ud, ud, ud, ud, ud, ud, ud, ud, ud, ud, ud, ud, ud, ud, ud, ud, ud, ud, ud, ud, ud, ud, ud, ud, ud, ud, ud, ud, ud, ud, ud, ud, ud, ud, ud, ud, ud, ud, ud, ud, ud, ud, ud, ud, ud, ud, ud, ud, ud, ud, ud, ud, ud, ud, ud, ud, ud, ud, ud, ud, ud, ud, ud, ud, ud, ud, ud, ud, ud, ud, ud, ud, ud, ud, ud, ud, ud, ud, ud, ud, ud, ud, ud, ud, ud, ud, ud, ud, ud, ud, ud, ud, ud, ud, ud, ud, ud, ud, ud, ud, ud, ud, ud, ud, ud, ud, ud, ud, ud, ud, ud, ud, ud, ud, ud, ud, ud, ud, ud, ud, ud, ud, ud, ud, ud, ud, ud, ud, ud, ud, ud, ud, ud, ud, ud, ud, ud, ud, ud, ud, ud, ud, ud, ud] H19) (R .normal [ud, .slice more_a more_n more_e, ud, ud, ud, .slice a1 r3 r4, .float .f32 r5, ud, ud, ud, .float .f32 (fdiv .f32 (FloatKind.nearest .f32 (IntKind.wrap .i64 (1 + r9))) 1082130432), ud, .float .f32 r11, ud, ud, ud, .int .i64 below, .int .i64 (IntKind.wrap .i64 (above + 1)), .bool true, ud, ud, ud, ud, ud, ud, ud, ud, ud, ud, ud, ud, ud, ud, ud, ud, ud, ud, ud, ud, ud, ud, ud, ud, ud, ud, ud, ud, ud, ud, ud, ud, ud, ud, ud, ud, ud, ud, ud, ud, ud, ud, ud, ud, ud, ud, ud, ud, ud, ud, ud, ud, ud, ud, ud, ud, ud, ud, ud, ud, ud, ud, ud, ud, ud, ud, ud, ud, ud, ud, ud, ud, ud, ud, ud, ud, .int .i64 (r3 : Int), .int .i64 (IntKind.wrap .i64 (t96 + 1)), ud, ud, ud, ud, ud, ud, ud, ud, ud, ud, ud, ud, ud, ud, ud, ud, ud, ud, ud, ud, ud, ud, ud, ud, ud, ud, ud, ud, ud, ud, ud, ud, ud, ud, ud, ud, ud, ud, ud, ud, ud, ud, ud, ud, ud, ud, ud, ud, ud, ud, ud, ud, ud, ud, ud, ud, ud, ud, ud, ud, ud, ud, ud, ud, ud, ud, ud, ud, ud, ud, ud, ud, ud, ud, ud, ud, ud, ud, ud, ud, ud, ud, ud, ud, ud, ud, ud, ud, ud, ud, ud, ud, ud, ud, ud, ud, ud, ud, ud, ud, ud, ud, ud, ud, ud, ud, ud, ud, ud, ud, ud, ud, ud, ud, ud, ud, ud] H19))) ((0 : Int) ≤ t96 ∧ t96 < (r3 : Int) ∧ ∃ b11 f11, (a1 : Option Addr) = some ⟨b11, f11, none⟩ ∧ ∃ x16 : Nat,  rdC H b11 (f11 + (t96 : Int).toNat * 1) = some (.float .f32 x16) ∧ (0 : Int) ≤ t96 ∧ t96 < (r3 : Int) ∧ ∃ b12 f12, (a1 : Option Addr) = some ⟨b12, f12, none⟩ ∧ ∃ x17 : Nat,  rdC H b12 (f12 + (t96 : Int).toNat * 1) = some (.float .f32 x17) ∧ T_laws_b10Gap (fwide x17) 0 H fun (r31 : Nat) (H20 : AHeap) => ∃ x18 : Nat, fnarrow r31 = some x18 ∧ T_impl_RiskOf a1 r3 r4 (fdiv .f32 (FloatKind.nearest .f32 (IntKind.wrap .i64 (1 + r9))) 1082130432) x18 H20 fun (r32 : Nat) (r33 : Bool) (H21 : AHeap) => Br (!r33) (R .ret [ud, ud, ud, ud, .bool false, ud, ud, ud, ud, ud, ud, ud, ud, ud, ud, ud, ud, ud, ud, ud, ud, ud, ud, ud, ud, ud, ud, ud, ud, ud, ud, ud, ud, ud, ud, ud, ud, ud, ud, ud, ud, ud, ud, ud, ud, ud, ud, ud, ud, ud, ud, ud, ud, ud, ud, ud, ud, ud, ud, ud, ud, ud, ud, ud, ud, ud, ud, ud, ud, ud, ud, ud, ud, ud, ud, ud, ud, ud, ud, ud, ud, ud, ud, ud, ud, ud, ud, ud, ud, ud, ud, ud, ud, ud, ud, ud, ud, ud, ud, ud, ud, ud, ud, ud, ud, ud, ud, ud, ud, ud, ud, ud, ud, ud, ud, ud, ud, ud, ud, ud, ud, ud, ud, ud, ud, ud, ud, ud, ud, ud, ud, ud, ud, ud, ud, ud, ud, ud, ud, ud, ud, ud, ud, ud, ud, ud, ud, ud, ud, ud, ud, ud, ud, ud, ud, ud, ud, ud, ud, ud, ud, ud, ud, ud, ud, ud, ud, ud, ud, ud, ud, ud, ud, ud, ud, ud, ud, ud, ud, ud, ud, ud, ud, ud, ud, ud, ud, ud, ud, ud, ud, ud, ud, ud, ud, ud, ud, ud, ud, ud, ud, ud, ud, ud, ud, ud, ud, ud, ud, ud, ud, ud, ud, ud] H21) (Br (flt .f32 r32 r11) (R .ret [ud, ud, ud, ud, .bool false, ud, ud, ud, ud, ud, ud, ud, ud, ud, ud, ud, ud, ud, ud, ud, ud, ud, ud, ud, ud, ud, ud, ud, ud, ud, ud, ud, ud, ud, ud, ud, ud, ud, ud, ud, ud, ud, ud, ud, ud, ud, ud, ud, ud, ud, ud, ud, ud, ud, ud, ud, ud, ud, ud, ud, ud, ud, ud, ud, ud, ud, ud, ud, ud, ud, ud, ud, ud, ud, ud, ud, ud, ud, ud, ud, ud, ud, ud, ud, ud, ud, ud, ud, ud, ud, ud, ud, ud, ud, ud, ud, ud, ud, ud, ud, ud, ud, ud, ud, ud, ud, ud, ud, ud, ud, ud, ud, ud, ud, ud, ud, ud, ud, ud, ud, ud, ud, ud, ud, ud, ud, ud, ud, ud, ud, ud, ud, ud, ud, ud, ud, ud, ud, ud, ud, ud, ud, ud, ud, ud, ud, ud, ud, ud, ud, ud, ud, ud, ud, ud, ud, ud, ud, ud, ud, ud, ud, ud, ud, ud, ud, ud, ud, ud, ud, ud, ud, ud, ud, ud, ud, ud, ud, ud, ud, ud, ud, ud, ud, ud, ud, ud, ud, ud, ud, ud, ud, ud, ud, ud, ud, ud, ud, ud, ud, ud, ud, ud, ud, ud, ud, ud, ud, ud, ud, ud, ud, ud, ud] H21) (R .normal [ud, .slice more_a more_n more_e, ud, ud, ud, .slice a1 r3 r4, .float .f32 r5, ud, ud, ud, .float .f32 (fdiv .f32 (FloatKind.nearest .f32 (IntKind.wrap .i64 (1 + r9))) 1082130432), ud, .float .f32 r11, ud, ud, ud, .int .i64 below, .int .i64 (IntKind.wrap .i64 (above + 1)), .bool (feq .f32 x16 r5), ud, ud, ud, ud, ud, ud, ud, ud, ud, ud, ud, ud, ud, ud, ud, ud, ud, ud, ud, ud, ud, ud, ud, ud, ud, ud, ud, ud, ud, ud, ud, ud, ud, ud, ud, ud, ud, ud, ud, ud, ud, ud, ud, ud, ud, ud, ud, ud, ud, ud, ud, ud, ud, ud, ud, ud, ud, ud, ud, ud, ud, ud, ud, ud, ud, ud, ud, ud, ud, ud, ud, ud, ud, ud, ud, ud, .int .i64 (r3 : Int), .int .i64 (IntKind.wrap .i64 (t96 + 1)), ud, ud, ud, ud, ud, ud, ud, ud, ud, ud, ud, ud, ud, ud, ud, ud, ud, ud, ud, ud, ud, ud, ud, ud, ud, ud, ud, ud, ud, ud, ud, ud, ud, ud, ud, ud, ud, ud, ud, ud, ud, ud, ud, ud, ud, ud, ud, ud, ud, ud, ud, ud, ud, ud, ud, ud, ud, ud, ud, ud, ud, ud, ud, ud, ud, ud, ud, ud, ud, ud, ud, ud, ud, ud, ud, ud, ud, ud, ud, ud, ud, ud, ud, ud, ud, ud, ud, ud, ud, ud, ud, ud, ud, ud, ud, ud, ud, ud, ud, ud, ud, ud, ud, ud, ud, ud, ud, ud, ud, ud, ud, ud, ud, ud, ud, ud, ud] H21)))) (Br vin ((0 : Int) ≤ t96 ∧ t96 < (r3 : Int) ∧ ∃ b13 f13, (a1 : Option Addr) = some ⟨b13, f13, none⟩ ∧ ∃ x19 : Nat,  rdC H b13 (f13 + (t96 : Int).toNat * 1) = some (.float .f32 x19) ∧ T_laws_b10Gap (fwide x19) 0 H fun (r34 : Nat) (H22 : AHeap) => ∃ x20 : Nat, fnarrow r34 = some x20 ∧ T_impl_RiskOf a1 r3 r4 (fdiv .f32 (FloatKind.nearest .f32 (IntKind.wrap .i64 (1 + r9))) 1082130432) x20 H22 fun (r35 : Nat) (r36 : Bool) (H23 : AHeap) => Br (!r36) (R .ret [ud, ud, ud, ud, .bool false, ud, ud, ud, ud, ud, ud, ud, ud, ud, ud, ud, ud, ud, ud, ud, ud, ud, ud, ud, ud, ud, ud, ud, ud, ud, ud, ud, ud, ud, ud, ud, ud, ud, ud, ud, ud, ud, ud, ud, ud, ud, ud, ud, ud, ud, ud, ud, ud, ud, ud, ud, ud, ud, ud, ud, ud, ud, ud, ud, ud, ud, ud, ud, ud, ud, ud, ud, ud, ud, ud, ud, ud, ud, ud, ud, ud, ud, ud, ud, ud, ud, ud, ud, ud, ud, ud, ud, ud, ud, ud, ud, ud, ud, ud, ud, ud, ud, ud, ud, ud, ud, ud, ud, ud, ud, ud, ud, ud, ud, ud, ud, ud, ud, ud, ud, ud, ud, ud, ud, ud, ud, ud, ud, ud, ud, ud, ud, ud, ud, ud, ud, ud, ud, ud, ud, ud, ud, ud, ud, ud, ud, ud, ud, ud, ud, ud, ud, ud, ud, ud, ud, ud, ud, ud, ud, ud, ud, ud, ud, ud, ud, ud, ud, ud, ud, ud, ud, ud, ud, ud, ud, ud, ud, ud, ud, ud, ud, ud, ud, ud, ud, ud, ud, ud, ud, ud, ud, ud, ud, ud, ud, ud, ud, ud, ud, ud, ud, ud, ud, ud, ud, ud, ud, ud, ud, ud, ud, ud, ud] H23) (Br (flt .f32 r35 r11) (R .ret [ud, ud, ud, ud, .bool false, ud, ud, ud, ud, ud, ud, ud, ud, ud, ud, ud, ud, ud, ud, ud, ud, ud, ud, ud, ud, ud, ud, ud, ud, ud, ud, ud, ud, ud, ud, ud, ud, ud, ud, ud, ud, ud, ud, ud, ud, ud, ud, ud, ud, ud, ud, ud, ud, ud, ud, ud, ud, ud, ud, ud, ud, ud, ud, ud, ud, ud, ud, ud, ud, ud, ud, ud, ud, ud, ud, ud, ud, ud, ud, ud, ud, ud, ud, ud, ud, ud, ud, ud, ud, ud, ud, ud, ud, ud, ud, ud, ud, ud, ud, ud, ud, ud, ud, ud, ud, ud, ud, ud, ud, ud, ud, ud, ud, ud, ud, ud, ud, ud, ud, ud, ud, ud, ud, ud, ud, ud, ud, ud, ud, ud, ud, ud, ud, ud, ud, ud, ud, ud, ud, ud, ud, ud, ud, ud, ud, ud, ud, ud, ud, ud, ud, ud, ud, ud, ud, ud, ud, ud, ud, ud, ud, ud, ud, ud, ud, ud, ud, ud, ud, ud, ud, ud, ud, ud, ud, ud, ud, ud, ud, ud, ud, ud, ud, ud, ud, ud, ud, ud, ud, ud, ud, ud, ud, ud, ud, ud, ud, ud, ud, ud, ud, ud, ud, ud, ud, ud, ud, ud, ud, ud, ud, ud, ud, ud] H23) (R .normal [ud, .slice more_a more_n more_e, ud, ud, ud, .slice a1 r3 r4, .float .f32 r5, ud, ud, ud, .float .f32 (fdiv .f32 (FloatKind.nearest .f32 (IntKind.wrap .i64 (1 + r9))) 1082130432), ud, .float .f32 r11, ud, ud, ud, .int .i64 below, .int .i64 above, .bool true, ud, ud, ud, ud, ud, ud, ud, ud, ud, ud, ud, ud, ud, ud, ud, ud, ud, ud, ud, ud, ud, ud, ud, ud, ud, ud, ud, ud, ud, ud, ud, ud, ud, ud, ud, ud, ud, ud, ud, ud, ud, ud, ud, ud, ud, ud, ud, ud, ud, ud, ud, ud, ud, ud, ud, ud, ud, ud, ud, ud, ud, ud, ud, ud, ud, ud, ud, ud, ud, ud, ud, ud, ud, ud, ud, ud, .int .i64 (r3 : Int), .int .i64 (IntKind.wrap .i64 (t96 + 1)), ud, ud, ud, ud, ud, ud, ud, ud, ud, ud, ud, ud, ud, ud, ud, ud, ud, ud, ud, ud, ud, ud, ud, ud, ud, ud, ud, ud, ud, ud, ud, ud, ud, ud, ud, ud, ud, ud, ud, ud, ud, ud, ud, ud, ud, ud, ud, ud, ud, ud, ud, ud, ud, ud, ud, ud, ud, ud, ud, ud, ud, ud, ud, ud, ud, ud, ud, ud, ud, ud, ud, ud, ud, ud, ud, ud, ud, ud, ud, ud, ud, ud, ud, ud, ud, ud, ud, ud, ud, ud, ud, ud, ud, ud, ud, ud, ud, ud, ud, ud, ud, ud, ud, ud, ud, ud, ud, ud, ud, ud, ud, ud, ud, ud, ud, ud, ud] H23))) ((0 : Int) ≤ t96 ∧ t96 < (r3 : Int) ∧ ∃ b14 f14, (a1 : Option Addr) = some ⟨b14, f14, none⟩ ∧ ∃ x21 : Nat,  rdC H b14 (f14 + (t96 : Int).toNat * 1) = some (.float .f32 x21) ∧ (0 : Int) ≤ t96 ∧ t96 < (r3 : Int) ∧ ∃ b15 f15, (a1 : Option Addr) = some ⟨b15, f15, none⟩ ∧ ∃ x22 : Nat,  rdC H b15 (f15 + (t96 : Int).toNat * 1) = some (.float .f32 x22) ∧ T_laws_b10Gap (fwide x22) 0 H fun (r37 : Nat) (H24 : AHeap) => ∃ x23 : Nat, fnarrow r37 = some x23 ∧ T_impl_RiskOf a1 r3 r4 (fdiv .f32 (FloatKind.nearest .f32 (IntKind.wrap .i64 (1 + r9))) 1082130432) x23 H24 fun (r38 : Nat) (r39 : Bool) (H25 : AHeap) => Br (!r39) (R .ret [ud, ud, ud, ud, .bool false, ud, ud, ud, ud, ud, ud, ud, ud, ud, ud, ud, ud, ud, ud, ud, ud, ud, ud, ud, ud, ud, ud, ud, ud, ud, ud, ud, ud, ud, ud, ud, ud, ud, ud, ud, ud, ud, ud, ud, ud, ud, ud, ud, ud, ud, ud, ud, ud, ud, ud, ud, ud, ud, ud, ud, ud, ud, ud, ud, ud, ud, ud, ud, ud, ud, ud, ud, ud, ud, ud, ud, ud, ud, ud, ud, ud, ud, ud, ud, ud, ud, ud, ud, ud, ud, ud, ud, ud, ud, ud, ud, ud, ud, ud, ud, ud, ud, ud, ud, ud, ud, ud, ud, ud, ud, ud, ud, ud, ud, ud, ud, ud, ud, ud, ud, ud, ud, ud, ud, ud, ud, ud, ud, ud, ud, ud, ud, ud, ud, ud, ud, ud, ud, ud, ud, ud, ud, ud, ud, ud, ud, ud, ud, ud, ud, ud, ud, ud, ud, ud, ud, ud, ud, ud, ud, ud, ud, ud, ud, ud, ud, ud, ud, ud, ud, ud, ud, ud, ud, ud, ud, ud, ud, ud, ud, ud, ud, ud, ud, ud, ud, ud, ud, ud, ud, ud, ud, ud, ud, ud, ud, ud, ud, ud, ud, ud, ud, ud, ud, ud, ud, ud, ud, ud, ud, ud, ud, ud, ud] H25) (Br (flt .f32 r38 r11) (R .ret [ud, ud, ud, ud, .bool false, ud, ud, ud, ud, ud, ud, ud, ud, ud, ud, ud, ud, ud, ud, ud, ud, ud, ud, ud, ud, ud, ud, ud, ud, ud, ud, ud, ud, ud, ud, ud, ud, ud, ud, ud, ud, ud, ud, ud, ud, ud, ud, ud, ud, ud, ud, ud, ud, ud, ud, ud, ud, ud, ud, ud, ud, ud, ud, ud, ud, ud, ud, ud, ud, ud, ud, ud, ud, ud, ud, ud, ud, ud, ud, ud, ud, ud, ud, ud, ud, ud, ud, ud, ud, ud, ud, ud, ud, ud, ud, ud, ud, ud, ud, ud, ud, ud, ud, ud, ud, ud, ud, ud, ud, ud, ud, ud, ud, ud, ud, ud, ud, ud, ud, ud, ud, ud, ud, ud, ud, ud, ud, ud, ud, ud, ud, ud, ud, ud, ud, ud, ud, ud, ud, ud, ud, ud, ud, ud, ud, ud, ud, ud, ud, ud, ud, ud, ud, ud, ud, ud, ud, ud, ud, ud, ud, ud, ud, ud, ud, ud, ud, ud, ud, ud, ud, ud, ud, ud, ud, ud, ud, ud, ud, ud, ud, ud, ud, ud, ud, ud, ud, ud, ud, ud, ud, ud, ud, ud, ud, ud, ud, ud, ud, ud, ud, ud, ud, ud, ud, ud, ud, ud, ud, ud, ud, ud, ud, ud] H25) (R .normal [ud, .slice more_a more_n more_e, ud, ud, ud, .slice a1 r3 r4, .float .f32 r5, ud, ud, ud, .float .f32 (fdiv .f32 (FloatKind.nearest .f32 (IntKind.wrap .i64 (1 + r9))) 1082130432), ud, .float .f32 r11, ud, ud, ud, .int .i64 below, .int .i64 above, .bool (feq .f32 x21 r5), ud, ud, ud, ud, ud, ud, ud, ud, ud, ud, ud, ud, ud, ud, ud, ud, ud, ud, ud, ud, ud, ud, ud, ud, ud, ud, ud, ud, ud, ud, ud, ud, ud, ud, ud, ud, ud, ud, ud, ud, ud, ud, ud, ud, ud, ud, ud, ud, ud, ud, ud, ud, ud, ud, ud, ud, ud, ud, ud, ud, ud, ud, ud, ud, ud, ud, ud, ud, ud, ud, ud, ud, ud, ud, ud, ud, .int .i64 (r3 : Int), .int .i64 (IntKind.wrap .i64 (t96 + 1)), ud, ud, ud, ud, ud, ud, ud, ud, ud, ud, ud, ud, ud, ud, ud, ud, ud, ud, ud, ud, ud, ud, ud, ud, ud, ud, ud, ud, ud, ud, ud, ud, ud, ud, ud, ud, ud, ud, ud, ud, ud, ud, ud, ud, ud, ud, ud, ud, ud, ud, ud, ud, ud, ud, ud, ud, ud, ud, ud, ud, ud, ud, ud, ud, ud, ud, ud, ud, ud, ud, ud, ud, ud, ud, ud, ud, ud, ud, ud, ud, ud, ud, ud, ud, ud, ud, ud, ud, ud, ud, ud, ud, ud, ud, ud, ud, ud, ud, ud, ud, ud, ud, ud, ud, ud, ud, ud, ud, ud, ud, ud, ud, ud, ud, ud, ud, ud] H25)))))) (R (.exit 0) [ud, .slice more_a more_n more_e, ud, ud, ud, .slice a1 r3 r4, ud, ud, ud, ud, .float .f32 (fdiv .f32 (FloatKind.nearest .f32 (IntKind.wrap .i64 (1 + r9))) 1082130432), ud, .float .f32 r11, ud, ud, ud, .int .i64 below, .int .i64 above, .bool vin, ud, ud, ud, ud, ud, ud, ud, ud, ud, ud, ud, ud, ud, ud, ud, ud, ud, ud, ud, ud, ud, ud, ud, ud, ud, ud, ud, ud, ud, ud, ud, ud, ud, ud, ud, ud, ud, ud, ud, ud, ud, ud, ud, ud, ud, ud, ud, ud, ud, ud, ud, ud, ud, ud, ud, ud, ud, ud, ud, ud, ud, ud, ud, ud, ud, ud, ud, ud, ud, ud, ud, ud, ud, ud, ud, ud, ud, ud, ud, ud, ud, ud, ud, ud, ud, ud, ud, ud, ud, ud, ud, ud, ud, ud, ud, ud, ud, ud, ud, ud, ud, ud, ud, ud, ud, ud, ud, ud, ud, ud, ud, ud, ud, ud, ud, ud, ud, ud, ud, ud, ud, ud, ud, ud, ud, ud, ud, ud, ud, ud, ud, ud, ud, ud, ud, ud, ud, ud, ud, ud, ud, ud, ud, ud, ud, ud, ud, ud, ud, ud, ud, ud, ud, ud, ud, ud, ud, ud, ud, ud, ud, ud, ud, ud, ud, ud, ud, ud, ud, ud, ud, ud, ud, ud, ud, ud, ud, ud, ud, ud, ud, ud, ud, ud, ud, ud, ud, ud, ud, ud, ud, ud, ud, ud, ud] H)) := by kernel_rfl
def laws_FnLimits_I1 (a1 : Option Addr) (more_a : Option Addr) (more_e : Nat) (more_n : Nat) (r11 : Nat) (r3 : Nat) (r4 : Nat) (r5 : Nat) (r9 : Int) (Inv : Nat → Int → Int → Bool → Int → AHeap → Prop) : Nat → List Value → AHeap → Prop := fun μ tm H => ∃ (below : Int), ∃ (above : Int), ∃ (vin : Bool), ∃ (t96 : Int), tm = (laws_FnLimits_P1 a1 more_a more_e more_n r11 r3 r4 r5 r9 below above vin t96) ∧ Inv μ below above vin t96 H
theorem laws_FnLimits_L1 (a1 : Option Addr) (more_a : Option Addr) (more_e : Nat) (more_n : Nat) (r11 : Nat) (r3 : Nat) (r4 : Nat) (r5 : Nat) (r9 : Int) {Q : Post} (Inv : Nat → Int → Int → Bool → Int → AHeap → Prop) (ν : Nat) (below : Int) (above : Int) (vin : Bool) (t96 : Int)  (H : AHeap) (h0 : Inv ν below above vin t96 H)
    (hs : ∀ (μ : Nat) (below : Int) (above : Int) (vin : Bool) (t96 : Int)  (H : AHeap), Inv μ below above vin t96 H → exL Try.prog E_laws_FnLimits (cl (cl (cr (cl (cr (cr (cr (cr (cr (cr (cr (cr (cr (cr (cr (cr (bodyC Try.f10))))))))))))))))) 118842243771396506390316389474 16 [(0, 463906)] (laws_FnLimits_P1 a1 more_a more_e more_n r11 r3 r4 r5 r9 below above vin t96) H (loopQ (laws_FnLimits_I1 a1 more_a more_e more_n r11 r3 r4 r5 r9 Inv) μ Q)) : loopK (exL Try.prog E_laws_FnLimits (cl (cl (cr (cl (cr (cr (cr (cr (cr (cr (cr (cr (cr (cr (cr (cr (bodyC Try.f10))))))))))))))))) 118842243771396506390316389474 16 [(0, 463906)]) (laws_FnLimits_P1 a1 more_a more_e more_n r11 r3 r4 r5 r9 below above vin t96) H Q :=
  ⟨laws_FnLimits_I1 a1 more_a more_e more_n r11 r3 r4 r5 r9 Inv, ν, ⟨below, above, vin, t96, rfl, h0⟩, fun μ tm H h => by obtain ⟨below, above, vin, t96, rfl, hI⟩ := h; exact hs μ below above vin t96  H hI⟩
theorem laws_FnLimits_n1 {a1 : Option Addr} {more_a : Option Addr} {more_e : Nat} {more_n : Nat} {r11 : Nat} {r3 : Nat} {r4 : Nat} {r5 : Nat} {r9 : Int} {Q : Post} {Inv : Nat → Int → Int → Bool → Int → AHeap → Prop} {μ : Nat} (μ' : Nat) {below : Int} {above : Int} {vin : Bool} {t96 : Int}  {H : AHeap} (hm : μ' < μ) (hI : Inv μ' below above vin t96 H) : loopQ (laws_FnLimits_I1 a1 more_a more_e more_n r11 r3 r4 r5 r9 Inv) μ Q .normal (laws_FnLimits_P1 a1 more_a more_e more_n r11 r3 r4 r5 r9 below above vin t96) H := ⟨μ', hm, below, above, vin, t96, rfl, hI⟩
theorem laws_FnLimits_x1_0 (a1 : Option Addr) (more_a : Option Addr) (more_e : Nat) (more_n : Nat) (r11 : Nat) (r3 : Nat) (r4 : Nat) (r9 : Int) (below : Int) (above : Int) (vin : Bool) (H : AHeap) (K : Value → AHeap → Prop)  {I : Nat → List Value → AHeap → Prop} {μ : Nat} : loopQ I μ (blockQ 0 (seqQ (exL Try.prog E_laws_FnLimits (cr (cr (cr (cr (cr (cr (cr (cr (cr (cr (cr (cr (cr (bodyC Try.f10)))))))))))))) 16 16 []) (retK Try.prog Try.f10 K))) (.exit 0) [ud, .slice more_a more_n more_e, ud, ud, ud, .slice a1 r3 r4, ud, ud, ud, ud, .float .f32 (fdiv .f32 (FloatKind.nearest .f32 (IntKind.wrap .i64 (1 + r9))) 1082130432), ud, .float .f32 r11, ud, ud, ud, .int .i64 below, .int .i64 above, .bool vin, ud, ud, ud, ud, ud, ud, ud, ud, ud, ud, ud, ud, ud, ud, ud, ud, ud, ud, ud, ud, ud, ud, ud, ud, ud, ud, ud, ud, ud, ud, ud, ud, ud, ud, ud, ud, ud, ud, ud, ud, ud, ud, ud, ud, ud, ud, ud, ud, ud, ud, ud, ud, ud, ud, ud, ud, ud, ud, ud, ud, ud, ud, ud, ud, ud, ud, ud, ud, ud, ud, ud, ud, ud, ud, ud, ud, ud, ud, ud, ud, ud, ud, ud, ud, ud, ud, ud, ud, ud, ud, ud, ud, ud, ud, ud, ud, ud, ud, ud, ud, ud, ud, ud, ud, ud, ud, ud, ud, ud, ud, ud, ud, ud, ud, ud, ud, ud, ud, ud, ud, ud, ud, ud, ud, ud, ud, ud, ud, ud, ud, ud, ud, ud, ud, ud, ud, ud, ud, ud, ud, ud, ud, ud, ud, ud, ud, ud, ud, ud, ud, ud, ud, ud, ud, ud, ud, ud, ud, ud, ud, ud, ud, ud, ud, ud, ud, ud, ud, ud, ud, ud, ud, ud, ud, ud, ud, ud, ud, ud, ud, ud, ud, ud, ud, ud, ud, ud, ud, ud, ud, ud, ud, ud, ud, ud] H =
  (T_impl_RiskOf a1 r3 r4 (fdiv .f32 (FloatKind.nearest .f32 (IntKind.wrap .i64 (1 + r9))) 1082130432) 0 H fun (r40 : Nat) (r41 : Bool) (H26 : AHeap) => T_laws_b10At more_a more_n more_e 2 128 H26 fun (r42 : Int) (H27 : AHeap) => T_impl_PlainLimit (fdiv .f32 (FloatKind.nearest .f32 (IntKind.wrap .i64 (1 + r9))) 1082130432) (IntKind.wrap .i64 (1 + r42)) H27 fun (r43 : Nat) (r44 : Bool) (H28 : AHeap) => T_impl_PlainLimit (fmul .f32 (fdiv .f32 (FloatKind.nearest .f32 (IntKind.wrap .i64 (1 + r9))) 1082130432) 1073741824) (IntKind.wrap .i64 (1 + r42)) H28 fun (r45 : Nat) (r46 : Bool) (H29 : AHeap) => Br r41 (Br r44 (Br r46 (Br (fle .f32 r11 r40) (Br vin (Br (decide ((IntKind.wrap .i64 (2 * below) : Int) ≤ IntKind.wrap .i64 ((r3 : Int) - 1))) (Br (decide ((IntKind.wrap .i64 (2 * above) : Int) ≤ (r3 : Int))) (Br (fle .f32 0 r43) (T_laws_b10Gap (fwide r45) (fmul .f64 4611686018427387904 (fwide r43)) H29 fun (r47 : Nat) (H30 : AHeap) => K (.bool (flt .f64 r47 (fmul .f64 4562254508917369340 (fadd .f64 4607182418800017408 (fwide r43))))) H30) (K (.bool false) H29)) (K (.bool false) H29)) (K (.bool false) H29)) (K (.bool false) H29)) (K (.bool false) H29)) (K (.bool false) H29)) (K (.bool false) H29)) (K (.bool false) H29)) := by kernel_rfl
theorem laws_FnLimits_x1_ret (t4 : Bool) (H : AHeap) (K : Value → AHeap → Prop)  {I : Nat → List Value → AHeap → Prop} {μ : Nat} : loopQ I μ (blockQ 0 (seqQ (exL Try.prog E_laws_FnLimits (cr (cr (cr (cr (cr (cr (cr (cr (cr (cr (cr (cr (cr (bodyC Try.f10)))))))))))))) 16 16 []) (retK Try.prog Try.f10 K))) .ret [ud, ud, ud, ud, .bool t4, ud, ud, ud, ud, ud, ud, ud, ud, ud, ud, ud, ud, ud, ud, ud, ud, ud, ud, ud, ud, ud, ud, ud, ud, ud, ud, ud, ud, ud, ud, ud, ud, ud, ud, ud, ud, ud, ud, ud, ud, ud, ud, ud, ud, ud, ud, ud, ud, ud, ud, ud, ud, ud, ud, ud, ud, ud, ud, ud, ud, ud, ud, ud, ud, ud, ud, ud, ud, ud, ud, ud, ud, ud, ud, ud, ud, ud, ud, ud, ud, ud, ud, ud, ud, ud, ud, ud, ud, ud, ud, ud, ud, ud, ud, ud, ud, ud, ud, ud, ud, ud, ud, ud, ud, ud, ud, ud, ud, ud, ud, ud, ud, ud, ud, ud, ud, ud, ud, ud, ud, ud, ud, ud, ud, ud, ud, ud, ud, ud, ud, ud, ud, ud, ud, ud, ud, ud, ud, ud, ud, ud, ud, ud, ud, ud, ud, ud, ud, ud, ud, ud, ud, ud, ud, ud, ud, ud, ud, ud, ud, ud, ud, ud, ud, ud, ud, ud, ud, ud, ud, ud, ud, ud, ud, ud, ud, ud, ud, ud, ud, ud, ud, ud, ud, ud, ud, ud, ud, ud, ud, ud, ud, ud, ud, ud, ud, ud, ud, ud, ud, ud, ud, ud, ud, ud, ud, ud, ud, ud] H =
  (K (.bool t4) H) := by kernel_rfl
theorem E_laws_FnLimits_ok : ∀ g, FnOk Try.prog g (E_laws_FnLimits g) := FnOk.envOf (by
  intro x hx
  simp only [List.mem_cons, List.not_mem_nil, or_false] at hx
  rcases hx with rfl | rfl | rfl | rfl | rfl | rfl | rfl | rfl | rfl | rfl
  · exact laws_b10Long_ok
  · exact laws_b10At_ok
  · exact spec_B10Signal_ok
  · exact impl_MedianOf_ok
  · exact impl_SpreadOf_ok
  · exact impl_BestLimit_ok
  · exact impl_RiskOf_ok
  · exact spec_SameNumber_ok
  · exact laws_b10Gap_ok
  · exact impl_PlainLimit_ok)
theorem ω19 {P : Prop} (h : P := by exact sig_nar _ _ _) : P := h
set_option maxHeartbeats 1000000 in
theorem laws_FnLimits_main (code_a : Option Addr) (code_n : Nat) (code_e : Nat) (more_a : Option Addr) (more_n : Nat) (more_e : Nat) (H : AHeap) (K : Value → AHeap → Prop) (h : T_laws_FnLimits code_a code_n code_e more_a more_n more_e H fun (r1 : Bool) (H' : AHeap) => K (.bool r1) H') : bodyL Try.prog E_laws_FnLimits Try.f10 [.slice code_a code_n code_e, .slice more_a more_n more_e] H K := by
  rw [laws_FnLimits_vc]
  obtain ⟨l_code, l_more, h_0, h_1, hk⟩ := h
  have i_code := h_0
  obtain rfl := i_code.eqn
  have i_more := h_1
  obtain rfl := i_more.eqn
  have hl := laws_FnLimits_true l_code l_more 
  have e : p_laws_FnLimits l_code l_more = _ := rfl
  have e := e.trans (p_laws_FnLimits_eq l_code l_more)
  have e := hl.symm.trans e
  have g0 := Grow.refl H
  have sn := lim_n l_more
  refine T_laws_b10Long_i ⟨_, _, (i_code.grow g0), (i_more.grow g0), ?_⟩
  refine Br.intro (fun c_1 => ?_) (fun c_1 => ?_)
  · have e := e.trans (cond_t c_1)
    first | exact hk _ | (exfalso; cases e; done) | (rw [← e]; exact hk _)
  · have e := e.trans (cond_f c_1)
    have c_1' := laws_b10Long_f c_1
    refine T_laws_b10At_i ⟨_, (i_more.grow g0), ω0, ω2, ω2, ?_⟩
    have z_2 := laws_b10At_rng l_more (0 : Int) (16 : Int) ω3 ω3
    refine T_spec_B10Signal_i ⟨_, (i_code.grow g0), ω0, ω2, fun a_3 n_4 e_5 H_1 g_8 r_6 => ?_⟩
    have z_7 := spec_B10Signal_len l_code (IntKind.wrap .i64 (1 + ((p_laws_b10At l_more (0 : Int) (16 : Int)))))
    have l_9 := g_8.1
    have g_10 := g0.trans g_8
    have l_11 := g_10.1
    obtain rfl := r_6.isL.eqn
    have u_12 := r_6.up
    have u_13 := r_6.lo
    refine T_impl_MedianOf_i ⟨_, r_6.isL, ω0, fun  H_2 g_15  => ?_⟩
    have l_16 := g_15.1
    have g_17 := g_10.trans g_15
    have l_18 := g_17.1
    have r_19 := r_6.grow g_15
    refine T_impl_SpreadOf_i ⟨_, r_19.isL, ω0, fun  H_3 g_20  => ?_⟩
    have l_21 := g_20.1
    have g_22 := g_17.trans g_20
    have l_23 := g_22.1
    have r_24 := r_19.grow g_20
    refine T_laws_b10At_i ⟨_, (i_more.grow g_22), ω0, ω2, ω2, ?_⟩
    have z_25 := laws_b10At_rng l_more (1 : Int) (8 : Int) ω3 ω3
    refine T_impl_BestLimit_i ⟨_, r_24.isL, ω0, fun  H_4 g_26  => ?_⟩
    have l_27 := g_26.1
    have g_28 := g_22.trans g_26
    have l_29 := g_28.1
    have r_30 := r_24.grow g_26
    refine T_impl_RiskOf_i ⟨_, r_30.isL, ω0, fun  H_5 g_31  => ?_⟩
    have l_32 := g_31.1
    have g_33 := g_28.trans g_31
    have l_34 := g_33.1
    have r_35 := r_30.grow g_31
    refine Br.intro (fun c_36 => ?_) (fun c_36 => ?_)
    · have e := e.trans (cond_t c_36)
      have c_36n := nf_of_t c_36
      first | exact hk _ | (exfalso; cases e; done) | (rw [← e]; exact hk _)
    · have e := e.trans (cond_f c_36)
      have c_36n := nt_of_f c_36
      have c_36n' := impl_MedianOf_t c_36n
      refine Br.intro (fun c_37 => ?_) (fun c_37 => ?_)
      · have e := e.trans (cond_t c_37)
        have c_37n := nf_of_t c_37
        first | exact hk _ | (exfalso; cases e; done) | (rw [← e]; exact hk _)
      · have e := e.trans (cond_f c_37)
        have c_37n := nt_of_f c_37
        refine Br.intro (fun c_38 => ?_) (fun c_38 => ?_)
        · have e := e.trans (cond_t c_38)
          have c_38n := nf_of_t c_38
          first | exact hk _ | (exfalso; cases e; done) | (rw [← e]; exact hk _)
        · have e := e.trans (cond_f c_38)
          have c_38n := nt_of_f c_38
          refine Br.intro (fun c_39 => ?_) (fun c_39 => ?_)
          · have e := e.trans (cond_t c_39)
            have c_39n := nf_of_t c_39
            first | exact hk _ | (exfalso; cases e; done) | (rw [← e]; exact hk _)
          · have e := e.trans (cond_f c_39)
            have c_39n := nt_of_f c_39
            refine Br.intro (fun c_40 => ?_) (fun c_40 => ?_)
            · have e := e.trans (cond_t c_40)
              first | exact hk _ | (exfalso; cases e; done) | (rw [← e]; exact hk _)
            · have e := e.trans (cond_f c_40)
              refine Br.intro (fun c_41 => ?_) (fun c_41 => ?_)
              · have e := e.trans (cond_t c_41)
                first | exact hk _ | (exfalso; cases e; done) | (rw [← e]; exact hk _)
              · have e := e.trans (cond_f c_41)
                refine T_spec_SameNumber_i ?_
                refine Br.intro (fun c_42 => ?_) (fun c_42 => ?_)
                · have e := e.trans (cond_t c_42)
                  have c_42n := nf_of_t c_42
                  first | exact hk _ | (exfalso; cases e; done) | (rw [← e]; exact hk _)
                · have e := e.trans (cond_f c_42)
                  have c_42n := nt_of_f c_42
                  refine laws_FnLimits_L1 _ _ _ _ _ _ _ _ _ (fun (μ : Nat) (below : Int) (above : Int) (vin : Bool) (t96 : Int) (H_6 : AHeap) => ∃ (t4 : Bool), OwnS fF H_6 H.length a_3 (((p_spec_B10Signal l_code (IntKind.wrap .i64 (1 + ((p_laws_b10At l_more (0 : Int) (16 : Int))))))).length) e_5 ((p_spec_B10Signal l_code (IntKind.wrap .i64 (1 + ((p_laws_b10At l_more (0 : Int) (16 : Int))))))) ∧ H_1.length ≤ H_6.length ∧ Grow H H_6 ∧ (0 : Int) ≤ t96 ∧ t96 ≤ (((p_spec_B10Signal l_code (IntKind.wrap .i64 (1 + ((p_laws_b10At l_more (0 : Int) (16 : Int))))))).length : Int) ∧ 0 ≤ below ∧  below ≤ t96 ∧  0 ≤ above ∧  above ≤ t96 ∧ (((p_spec_B10Signal l_code (IntKind.wrap .i64 (1 + ((p_laws_b10At l_more (0 : Int) (16 : Int))))))).length : Int) - t96 ≤ (μ : Int) ∧ true = p_laws_FnLimits_l1 l_code l_more (μ + 1) t4 below above vin t96) (Int.toNat ((((p_spec_B10Signal l_code (IntKind.wrap .i64 (1 + ((p_laws_b10At l_more (0 : Int) (16 : Int))))))).length : Int) - (0 : Int))) _ _ _ _ H_5 ?_ ?_
                  · exact ⟨_, r_35, ω3, g_33, ω5, ω5, ω5, ω5, ω5, ω5, ω3, e⟩
                  · intro μ below above vin t96  H_6 hI
                    obtain ⟨t4, r_43, n_44, g_45, v_46, v_47, v_48, v_49, v_50, v_51, hμ, e⟩ := hI
                    rw [laws_FnLimits_r1]
                    have e := e.trans (p_laws_FnLimits_l1_s l_code l_more μ t4 below above vin t96)
                    have l_52 := g_45.1
                    refine Br.intro (fun c_53 => ?_) (fun c_53 => ?_)
                    · have e := e.trans (cond_t c_53)
                      have c_53' := of_decide_eq_true c_53
                      obtain ⟨b_54, f_55, q_56⟩ := (r_43.isL).pos ω0
                      refine ⟨by omega, by omega, b_54, f_55, q_56, ?_⟩
                      refine ⟨(((p_spec_B10Signal l_code (IntKind.wrap .i64 (1 + ((p_laws_b10At l_more (0 : Int) (16 : Int))))))).getD (t96 : Int).toNat 0), (r_43.isL).rd (Grow.refl _) q_56 ω3 _, ?_⟩
                      refine Br.intro (fun c_57 => ?_) (fun c_57 => ?_)
                      · have e := e.trans (cond_t c_57)
                        rw [show IntKind.wrap .i64 (below + 1) = (below + 1) from wrap64 ω3 ω3]
                        obtain ⟨b_58, f_59, q_60⟩ := (r_43.isL).pos ω0
                        refine ⟨by omega, by omega, b_58, f_59, q_60, ?_⟩
                        refine ⟨(((p_spec_B10Signal l_code (IntKind.wrap .i64 (1 + ((p_laws_b10At l_more (0 : Int) (16 : Int))))))).getD (t96 : Int).toNat 0), (r_43.isL).rd (Grow.refl _) q_60 ω3 _, ?_⟩
                        refine Br.intro (fun c_61 => ?_) (fun c_61 => ?_)
                        · have e := e.trans (cond_t c_61)
                          rw [show IntKind.wrap .i64 (above + 1) = (above + 1) from wrap64 ω3 ω3]
                          refine Br.intro (fun c_62 => ?_) (fun c_62 => ?_)
                          · have e := e.trans (cond_t c_62)
                            obtain ⟨b_63, f_64, q_65⟩ := (r_43.isL).pos ω0
                            refine ⟨by omega, by omega, b_63, f_64, q_65, ?_⟩
                            refine ⟨(((p_spec_B10Signal l_code (IntKind.wrap .i64 (1 + ((p_laws_b10At l_more (0 : Int) (16 : Int))))))).getD (t96 : Int).toNat 0), (r_43.isL).rd (Grow.refl _) q_65 ω3 _, ?_⟩
                            refine T_laws_b10Gap_i ?_
                            refine ⟨_, opt_get (d := 0) ω19, ?_⟩
                            refine T_impl_RiskOf_i ⟨_, r_43.isL, ω0, fun  H_7 g_66  => ?_⟩
                            have l_67 := g_66.1
                            have g_68 := g_45.trans g_66
                            have l_69 := g_68.1
                            have r_70 := r_43.grow g_66
                            refine Br.intro (fun c_71 => ?_) (fun c_71 => ?_)
                            · have e := e.trans (cond_t c_71)
                              have c_71n := nf_of_t c_71
                              rw [laws_FnLimits_x1_ret]
                              first | exact hk _ | (exfalso; cases e; done) | (rw [← e]; exact hk _)
                            · have e := e.trans (cond_f c_71)
                              have c_71n := nt_of_f c_71
                              refine Br.intro (fun c_72 => ?_) (fun c_72 => ?_)
                              · have e := e.trans (cond_t c_72)
                                rw [laws_FnLimits_x1_ret]
                                first | exact hk _ | (exfalso; cases e; done) | (rw [← e]; exact hk _)
                              · have e := e.trans (cond_f c_72)
                                rw [show IntKind.wrap .i64 (t96 + 1) = (t96 + 1) from wrap64 ω3 ω3]
                                refine laws_FnLimits_n1 (μ - 1) ω8 ⟨_, r_70, ω3, g_68, ω1, ω1, ω1, ω1, ω1, ω1, ω8, (by rw [show μ - 1 + 1 = μ from by first | omega]; exact e)⟩
                          · have e := e.trans (cond_f c_62)
                            obtain ⟨b_73, f_74, q_75⟩ := (r_43.isL).pos ω0
                            refine ⟨by omega, by omega, b_73, f_74, q_75, ?_⟩
                            refine ⟨(((p_spec_B10Signal l_code (IntKind.wrap .i64 (1 + ((p_laws_b10At l_more (0 : Int) (16 : Int))))))).getD (t96 : Int).toNat 0), (r_43.isL).rd (Grow.refl _) q_75 ω3 _, ?_⟩
                            obtain ⟨b_76, f_77, q_78⟩ := (r_43.isL).pos ω0
                            refine ⟨by omega, by omega, b_76, f_77, q_78, ?_⟩
                            refine ⟨(((p_spec_B10Signal l_code (IntKind.wrap .i64 (1 + ((p_laws_b10At l_more (0 : Int) (16 : Int))))))).getD (t96 : Int).toNat 0), (r_43.isL).rd (Grow.refl _) q_78 ω3 _, ?_⟩
                            refine T_laws_b10Gap_i ?_
                            refine ⟨_, opt_get (d := 0) ω19, ?_⟩
                            refine T_impl_RiskOf_i ⟨_, r_43.isL, ω0, fun  H_8 g_79  => ?_⟩
                            have l_80 := g_79.1
                            have g_81 := g_45.trans g_79
                            have l_82 := g_81.1
                            have r_83 := r_43.grow g_79
                            refine Br.intro (fun c_84 => ?_) (fun c_84 => ?_)
                            · have e := e.trans (cond_t c_84)
                              have c_84n := nf_of_t c_84
                              rw [laws_FnLimits_x1_ret]
                              first | exact hk _ | (exfalso; cases e; done) | (rw [← e]; exact hk _)
                            · have e := e.trans (cond_f c_84)
                              have c_84n := nt_of_f c_84
                              refine Br.intro (fun c_85 => ?_) (fun c_85 => ?_)
                              · have e := e.trans (cond_t c_85)
                                rw [laws_FnLimits_x1_ret]
                                first | exact hk _ | (exfalso; cases e; done) | (rw [← e]; exact hk _)
                              · have e := e.trans (cond_f c_85)
                                rw [show IntKind.wrap .i64 (t96 + 1) = (t96 + 1) from wrap64 ω3 ω3]
                                refine laws_FnLimits_n1 (μ - 1) ω8 ⟨_, r_83, ω3, g_81, ω1, ω1, ω1, ω1, ω1, ω1, ω8, (by rw [show μ - 1 + 1 = μ from by first | omega]; exact e)⟩
                        · have e := e.trans (cond_f c_61)
                          refine Br.intro (fun c_86 => ?_) (fun c_86 => ?_)
                          · have e := e.trans (cond_t c_86)
                            obtain ⟨b_87, f_88, q_89⟩ := (r_43.isL).pos ω0
                            refine ⟨by omega, by omega, b_87, f_88, q_89, ?_⟩
                            refine ⟨(((p_spec_B10Signal l_code (IntKind.wrap .i64 (1 + ((p_laws_b10At l_more (0 : Int) (16 : Int))))))).getD (t96 : Int).toNat 0), (r_43.isL).rd (Grow.refl _) q_89 ω3 _, ?_⟩
                            refine T_laws_b10Gap_i ?_
                            refine ⟨_, opt_get (d := 0) ω19, ?_⟩
                            refine T_impl_RiskOf_i ⟨_, r_43.isL, ω0, fun  H_9 g_90  => ?_⟩
                            have l_91 := g_90.1
                            have g_92 := g_45.trans g_90
                            have l_93 := g_92.1
                            have r_94 := r_43.grow g_90
                            refine Br.intro (fun c_95 => ?_) (fun c_95 => ?_)
                            · have e := e.trans (cond_t c_95)
                              have c_95n := nf_of_t c_95
                              rw [laws_FnLimits_x1_ret]
                              first | exact hk _ | (exfalso; cases e; done) | (rw [← e]; exact hk _)
                            · have e := e.trans (cond_f c_95)
                              have c_95n := nt_of_f c_95
                              refine Br.intro (fun c_96 => ?_) (fun c_96 => ?_)
                              · have e := e.trans (cond_t c_96)
                                rw [laws_FnLimits_x1_ret]
                                first | exact hk _ | (exfalso; cases e; done) | (rw [← e]; exact hk _)
                              · have e := e.trans (cond_f c_96)
                                rw [show IntKind.wrap .i64 (t96 + 1) = (t96 + 1) from wrap64 ω3 ω3]
                                refine laws_FnLimits_n1 (μ - 1) ω8 ⟨_, r_94, ω3, g_92, ω1, ω1, ω1, ω1, ω1, ω1, ω8, (by rw [show μ - 1 + 1 = μ from by first | omega]; exact e)⟩
                          · have e := e.trans (cond_f c_86)
                            obtain ⟨b_97, f_98, q_99⟩ := (r_43.isL).pos ω0
                            refine ⟨by omega, by omega, b_97, f_98, q_99, ?_⟩
                            refine ⟨(((p_spec_B10Signal l_code (IntKind.wrap .i64 (1 + ((p_laws_b10At l_more (0 : Int) (16 : Int))))))).getD (t96 : Int).toNat 0), (r_43.isL).rd (Grow.refl _) q_99 ω3 _, ?_⟩
                            obtain ⟨b_100, f_101, q_102⟩ := (r_43.isL).pos ω0
                            refine ⟨by omega, by omega, b_100, f_101, q_102, ?_⟩
                            refine ⟨(((p_spec_B10Signal l_code (IntKind.wrap .i64 (1 + ((p_laws_b10At l_more (0 : Int) (16 : Int))))))).getD (t96 : Int).toNat 0), (r_43.isL).rd (Grow.refl _) q_102 ω3 _, ?_⟩
                            refine T_laws_b10Gap_i ?_
                            refine ⟨_, opt_get (d := 0) ω19, ?_⟩
                            refine T_impl_RiskOf_i ⟨_, r_43.isL, ω0, fun  H_10 g_103  => ?_⟩
                            have l_104 := g_103.1
                            have g_105 := g_45.trans g_103
                            have l_106 := g_105.1
                            have r_107 := r_43.grow g_103
                            refine Br.intro (fun c_108 => ?_) (fun c_108 => ?_)
                            · have e := e.trans (cond_t c_108)
                              have c_108n := nf_of_t c_108
                              rw [laws_FnLimits_x1_ret]
                              first | exact hk _ | (exfalso; cases e; done) | (rw [← e]; exact hk _)
                            · have e := e.trans (cond_f c_108)
                              have c_108n := nt_of_f c_108
                              refine Br.intro (fun c_109 => ?_) (fun c_109 => ?_)
                              · have e := e.trans (cond_t c_109)
                                rw [laws_FnLimits_x1_ret]
                                first | exact hk _ | (exfalso; cases e; done) | (rw [← e]; exact hk _)
                              · have e := e.trans (cond_f c_109)
                                rw [show IntKind.wrap .i64 (t96 + 1) = (t96 + 1) from wrap64 ω3 ω3]
                                refine laws_FnLimits_n1 (μ - 1) ω8 ⟨_, r_107, ω3, g_105, ω1, ω1, ω1, ω1, ω1, ω1, ω8, (by rw [show μ - 1 + 1 = μ from by first | omega]; exact e)⟩
                      · have e := e.trans (cond_f c_57)
                        obtain ⟨b_110, f_111, q_112⟩ := (r_43.isL).pos ω0
                        refine ⟨by omega, by omega, b_110, f_111, q_112, ?_⟩
                        refine ⟨(((p_spec_B10Signal l_code (IntKind.wrap .i64 (1 + ((p_laws_b10At l_more (0 : Int) (16 : Int))))))).getD (t96 : Int).toNat 0), (r_43.isL).rd (Grow.refl _) q_112 ω3 _, ?_⟩
                        refine Br.intro (fun c_113 => ?_) (fun c_113 => ?_)
                        · have e := e.trans (cond_t c_113)
                          rw [show IntKind.wrap .i64 (above + 1) = (above + 1) from wrap64 ω3 ω3]
                          refine Br.intro (fun c_114 => ?_) (fun c_114 => ?_)
                          · have e := e.trans (cond_t c_114)
                            obtain ⟨b_115, f_116, q_117⟩ := (r_43.isL).pos ω0
                            refine ⟨by omega, by omega, b_115, f_116, q_117, ?_⟩
                            refine ⟨(((p_spec_B10Signal l_code (IntKind.wrap .i64 (1 + ((p_laws_b10At l_more (0 : Int) (16 : Int))))))).getD (t96 : Int).toNat 0), (r_43.isL).rd (Grow.refl _) q_117 ω3 _, ?_⟩
                            refine T_laws_b10Gap_i ?_
                            refine ⟨_, opt_get (d := 0) ω19, ?_⟩
                            refine T_impl_RiskOf_i ⟨_, r_43.isL, ω0, fun  H_11 g_118  => ?_⟩
                            have l_119 := g_118.1
                            have g_120 := g_45.trans g_118
                            have l_121 := g_120.1
                            have r_122 := r_43.grow g_118
                            refine Br.intro (fun c_123 => ?_) (fun c_123 => ?_)
                            · have e := e.trans (cond_t c_123)
                              have c_123n := nf_of_t c_123
                              rw [laws_FnLimits_x1_ret]
                              first | exact hk _ | (exfalso; cases e; done) | (rw [← e]; exact hk _)
                            · have e := e.trans (cond_f c_123)
                              have c_123n := nt_of_f c_123
                              refine Br.intro (fun c_124 => ?_) (fun c_124 => ?_)
                              · have e := e.trans (cond_t c_124)
                                rw [laws_FnLimits_x1_ret]
                                first | exact hk _ | (exfalso; cases e; done) | (rw [← e]; exact hk _)
                              · have e := e.trans (cond_f c_124)
                                rw [show IntKind.wrap .i64 (t96 + 1) = (t96 + 1) from wrap64 ω3 ω3]
                                refine laws_FnLimits_n1 (μ - 1) ω8 ⟨_, r_122, ω3, g_120, ω1, ω1, ω1, ω1, ω1, ω1, ω8, (by rw [show μ - 1 + 1 = μ from by first | omega]; exact e)⟩
                          · have e := e.trans (cond_f c_114)
                            obtain ⟨b_125, f_126, q_127⟩ := (r_43.isL).pos ω0
                            refine ⟨by omega, by omega, b_125, f_126, q_127, ?_⟩
                            refine ⟨(((p_spec_B10Signal l_code (IntKind.wrap .i64 (1 + ((p_laws_b10At l_more (0 : Int) (16 : Int))))))).getD (t96 : Int).toNat 0), (r_43.isL).rd (Grow.refl _) q_127 ω3 _, ?_⟩
                            obtain ⟨b_128, f_129, q_130⟩ := (r_43.isL).pos ω0
                            refine ⟨by omega, by omega, b_128, f_129, q_130, ?_⟩
                            refine ⟨(((p_spec_B10Signal l_code (IntKind.wrap .i64 (1 + ((p_laws_b10At l_more (0 : Int) (16 : Int))))))).getD (t96 : Int).toNat 0), (r_43.isL).rd (Grow.refl _) q_130 ω3 _, ?_⟩
                            refine T_laws_b10Gap_i ?_
                            refine ⟨_, opt_get (d := 0) ω19, ?_⟩
                            refine T_impl_RiskOf_i ⟨_, r_43.isL, ω0, fun  H_12 g_131  => ?_⟩
                            have l_132 := g_131.1
                            have g_133 := g_45.trans g_131
                            have l_134 := g_133.1
                            have r_135 := r_43.grow g_131
                            refine Br.intro (fun c_136 => ?_) (fun c_136 => ?_)
                            · have e := e.trans (cond_t c_136)
                              have c_136n := nf_of_t c_136
                              rw [laws_FnLimits_x1_ret]
                              first | exact hk _ | (exfalso; cases e; done) | (rw [← e]; exact hk _)
                            · have e := e.trans (cond_f c_136)
                              have c_136n := nt_of_f c_136
                              refine Br.intro (fun c_137 => ?_) (fun c_137 => ?_)
                              · have e := e.trans (cond_t c_137)
                                rw [laws_FnLimits_x1_ret]
                                first | exact hk _ | (exfalso; cases e; done) | (rw [← e]; exact hk _)
                              · have e := e.trans (cond_f c_137)
                                rw [show IntKind.wrap .i64 (t96 + 1) = (t96 + 1) from wrap64 ω3 ω3]
                                refine laws_FnLimits_n1 (μ - 1) ω8 ⟨_, r_135, ω3, g_133, ω1, ω1, ω1, ω1, ω1, ω1, ω8, (by rw [show μ - 1 + 1 = μ from by first | omega]; exact e)⟩
                        · have e := e.trans (cond_f c_113)
                          refine Br.intro (fun c_138 => ?_) (fun c_138 => ?_)
                          · have e := e.trans (cond_t c_138)
                            obtain ⟨b_139, f_140, q_141⟩ := (r_43.isL).pos ω0
                            refine ⟨by omega, by omega, b_139, f_140, q_141, ?_⟩
                            refine ⟨(((p_spec_B10Signal l_code (IntKind.wrap .i64 (1 + ((p_laws_b10At l_more (0 : Int) (16 : Int))))))).getD (t96 : Int).toNat 0), (r_43.isL).rd (Grow.refl _) q_141 ω3 _, ?_⟩
                            refine T_laws_b10Gap_i ?_
                            refine ⟨_, opt_get (d := 0) ω19, ?_⟩
                            refine T_impl_RiskOf_i ⟨_, r_43.isL, ω0, fun  H_13 g_142  => ?_⟩
                            have l_143 := g_142.1
                            have g_144 := g_45.trans g_142
                            have l_145 := g_144.1
                            have r_146 := r_43.grow g_142
                            refine Br.intro (fun c_147 => ?_) (fun c_147 => ?_)
                            · have e := e.trans (cond_t c_147)
                              have c_147n := nf_of_t c_147
                              rw [laws_FnLimits_x1_ret]
                              first | exact hk _ | (exfalso; cases e; done) | (rw [← e]; exact hk _)
                            · have e := e.trans (cond_f c_147)
                              have c_147n := nt_of_f c_147
                              refine Br.intro (fun c_148 => ?_) (fun c_148 => ?_)
                              · have e := e.trans (cond_t c_148)
                                rw [laws_FnLimits_x1_ret]
                                first | exact hk _ | (exfalso; cases e; done) | (rw [← e]; exact hk _)
                              · have e := e.trans (cond_f c_148)
                                rw [show IntKind.wrap .i64 (t96 + 1) = (t96 + 1) from wrap64 ω3 ω3]
                                refine laws_FnLimits_n1 (μ - 1) ω8 ⟨_, r_146, ω3, g_144, ω1, ω1, ω1, ω1, ω1, ω1, ω8, (by rw [show μ - 1 + 1 = μ from by first | omega]; exact e)⟩
                          · have e := e.trans (cond_f c_138)
                            obtain ⟨b_149, f_150, q_151⟩ := (r_43.isL).pos ω0
                            refine ⟨by omega, by omega, b_149, f_150, q_151, ?_⟩
                            refine ⟨(((p_spec_B10Signal l_code (IntKind.wrap .i64 (1 + ((p_laws_b10At l_more (0 : Int) (16 : Int))))))).getD (t96 : Int).toNat 0), (r_43.isL).rd (Grow.refl _) q_151 ω3 _, ?_⟩
                            obtain ⟨b_152, f_153, q_154⟩ := (r_43.isL).pos ω0
                            refine ⟨by omega, by omega, b_152, f_153, q_154, ?_⟩
                            refine ⟨(((p_spec_B10Signal l_code (IntKind.wrap .i64 (1 + ((p_laws_b10At l_more (0 : Int) (16 : Int))))))).getD (t96 : Int).toNat 0), (r_43.isL).rd (Grow.refl _) q_154 ω3 _, ?_⟩
                            refine T_laws_b10Gap_i ?_
                            refine ⟨_, opt_get (d := 0) ω19, ?_⟩
                            refine T_impl_RiskOf_i ⟨_, r_43.isL, ω0, fun  H_14 g_155  => ?_⟩
                            have l_156 := g_155.1
                            have g_157 := g_45.trans g_155
                            have l_158 := g_157.1
                            have r_159 := r_43.grow g_155
                            refine Br.intro (fun c_160 => ?_) (fun c_160 => ?_)
                            · have e := e.trans (cond_t c_160)
                              have c_160n := nf_of_t c_160
                              rw [laws_FnLimits_x1_ret]
                              first | exact hk _ | (exfalso; cases e; done) | (rw [← e]; exact hk _)
                            · have e := e.trans (cond_f c_160)
                              have c_160n := nt_of_f c_160
                              refine Br.intro (fun c_161 => ?_) (fun c_161 => ?_)
                              · have e := e.trans (cond_t c_161)
                                rw [laws_FnLimits_x1_ret]
                                first | exact hk _ | (exfalso; cases e; done) | (rw [← e]; exact hk _)
                              · have e := e.trans (cond_f c_161)
                                rw [show IntKind.wrap .i64 (t96 + 1) = (t96 + 1) from wrap64 ω3 ω3]
                                refine laws_FnLimits_n1 (μ - 1) ω8 ⟨_, r_159, ω3, g_157, ω1, ω1, ω1, ω1, ω1, ω1, ω8, (by rw [show μ - 1 + 1 = μ from by first | omega]; exact e)⟩
                    · have e := e.trans (cond_f c_53)
                      have c_53' := of_decide_eq_false c_53
                      rw [laws_FnLimits_x1_0]
                      refine T_impl_RiskOf_i ⟨_, r_43.isL, ω0, fun  H_15 g_162  => ?_⟩
                      have l_163 := g_162.1
                      have g_164 := g_45.trans g_162
                      have l_165 := g_164.1
                      have r_166 := r_43.grow g_162
                      refine T_laws_b10At_i ⟨_, (i_more.grow g_164), ω0, ω2, ω2, ?_⟩
                      have z_167 := laws_b10At_rng l_more (2 : Int) (128 : Int) ω3 ω3
                      refine T_impl_PlainLimit_i ?_
                      refine T_impl_PlainLimit_i ?_
                      refine Br.intro (fun c_168 => ?_) (fun c_168 => ?_)
                      · have e := e.trans (cond_t c_168)
                        refine Br.intro (fun c_169 => ?_) (fun c_169 => ?_)
                        · have e := e.trans (cond_t c_169)
                          refine Br.intro (fun c_170 => ?_) (fun c_170 => ?_)
                          · have e := e.trans (cond_t c_170)
                            refine Br.intro (fun c_171 => ?_) (fun c_171 => ?_)
                            · have e := e.trans (cond_t c_171)
                              refine Br.intro (fun c_172 => ?_) (fun c_172 => ?_)
                              · have e := e.trans (cond_t c_172)
                                refine Br.intro (fun c_173 => ?_) (fun c_173 => ?_)
                                · have e := e.trans (cond_t c_173)
                                  have c_173' := of_decide_eq_true c_173
                                  refine Br.intro (fun c_174 => ?_) (fun c_174 => ?_)
                                  · have e := e.trans (cond_t c_174)
                                    have c_174' := of_decide_eq_true c_174
                                    refine Br.intro (fun c_175 => ?_) (fun c_175 => ?_)
                                    · have e := e.trans (cond_t c_175)
                                      refine T_laws_b10Gap_i ?_
                                      first | exact hk _ | (exfalso; cases e; done) | (rw [← e]; exact hk _)
                                    · have e := e.trans (cond_f c_175)
                                      first | exact hk _ | (exfalso; cases e; done) | (rw [← e]; exact hk _)
                                  · have e := e.trans (cond_f c_174)
                                    have c_174' := of_decide_eq_false c_174
                                    first | exact hk _ | (exfalso; cases e; done) | (rw [← e]; exact hk _)
                                · have e := e.trans (cond_f c_173)
                                  have c_173' := of_decide_eq_false c_173
                                  first | exact hk _ | (exfalso; cases e; done) | (rw [← e]; exact hk _)
                              · have e := e.trans (cond_f c_172)
                                first | exact hk _ | (exfalso; cases e; done) | (rw [← e]; exact hk _)
                            · have e := e.trans (cond_f c_171)
                              first | exact hk _ | (exfalso; cases e; done) | (rw [← e]; exact hk _)
                          · have e := e.trans (cond_f c_170)
                            first | exact hk _ | (exfalso; cases e; done) | (rw [← e]; exact hk _)
                        · have e := e.trans (cond_f c_169)
                          first | exact hk _ | (exfalso; cases e; done) | (rw [← e]; exact hk _)
                      · have e := e.trans (cond_f c_168)
                        first | exact hk _ | (exfalso; cases e; done) | (rw [← e]; exact hk _)
theorem laws_FnLimits_ok : FnOk Try.prog 10 S_laws_FnLimits := by
  refine FnOk.body mix_ok E_laws_FnLimits_ok Try.func10 rfl (by kernel_rfl) (by kernel_rfl) ?_ ?_ ?_ ?_ ?_
  · intro args H K K' h hk
    simp only [S_laws_FnLimits] at *
    unfold F_laws_FnLimits at *
    split at hk
    · obtain ⟨l_code, l_more, h_0, h_1, k⟩ := hk
      exact ⟨l_code, l_more, h_0, h_1, (fun H' => h _ _ (k H'))⟩
    · exact hk.elim
  · intro hq; cases hq
  · intro args H K hk
    simp only [S_laws_FnLimits] at *
    unfold F_laws_FnLimits at *
    split at hk
    · obtain ⟨l_code, l_more, h_0, h_1, k⟩ := hk
      exact ⟨_, _, k []⟩
    · exact hk.elim
  · intro hq; cases hq
  · have mm := @laws_FnLimits_main
    have ml := fun (args : List Value) (H : AHeap) (K : Value → AHeap → Prop) => bodyL_body (P := Try.prog) (env := E_laws_FnLimits ) (fn := Try.f10) (args := args) (H := H) (K := K) E_laws_FnLimits_ok 
    revert mm ml
    generalize bodyK Try.prog E_laws_FnLimits Try.f10 = Q
    generalize bodyL Try.prog E_laws_FnLimits Try.f10 = QL
    intro mm ml args H K hk
    simp only [S_laws_FnLimits] at *
    unfold F_laws_FnLimits at *
    split at hk
    · exact ml _ H K (mm _ _ _ _ _ _ H K hk)
    · exact hk.elim
end Go.Proofs.Ytbnplefohfamnaa.Ai
