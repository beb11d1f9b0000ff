/- What functions of the program come to on the abstract machine, and that they do so; printed by a program of mine around proofs of mine. -/
import Derived.Test.YtbnplefohfamnaaFFnExactShrinkBands0
set_option linter.unusedVariables false
set_option linter.unusedSimpArgs false
set_option linter.defProp false
set_option maxRecDepth 100000
namespace Go.Proofs.Ytbnplefohfamnaa.Ai
open Go
attribute [local irreducible] bodyK bodyL
def p_impl_shrunk (x : Nat) (limit : Nat) (hard : Bool) : Nat := (bif !(flt .f32 limit (p_impl_size x)) then 0 else (bif hard then x else (p_impl_softer x limit)))
def p_impl_shrunk_eq := @p_impl_shrunk.eq_1
def T_impl_shrunk (x : Nat) (limit : Nat) (hard : Bool) (H : AHeap) (K : Nat → AHeap → Prop) : Prop := K (p_impl_shrunk x limit hard) H

theorem T_impl_shrunk_i {x : Nat} {limit : Nat} {hard : Bool} {H : AHeap} {K : Nat → AHeap → Prop} (h : K (p_impl_shrunk x limit hard) H) : T_impl_shrunk x limit hard H K := h
/-! impl_shrunk: function 157 -/
def E_impl_shrunk : Env := envOf [(150, S_impl_size), (193, S_impl_softer)]
def F_impl_shrunk : List Value → AHeap → (Value → AHeap → Prop) → Prop
  | [.float .f32 x, .float .f32 limit, .bool hard], H, K => T_impl_shrunk x limit hard H fun (r1 : Nat) (H' : AHeap) => K (.float .f32 r1) H'
  | _, _, _ => False
def S_impl_shrunk : FSpec := { F := F_impl_shrunk, quiet := true, tame := false }
theorem impl_shrunk_vc (x : Nat) (limit : Nat) (hard : Bool) (H : AHeap) (K : Value → AHeap → Prop) : bodyL Try.prog E_impl_shrunk Try.f157 [.float .f32 x, .float .f32 limit, .bool hard] H K =
  (T_impl_size x H fun (r1 : Nat) (H1 : AHeap) => Br (!(flt .f32 limit r1)) (K (.float .f32 0) H1) (Br hard (K (.float .f32 x) H1) (T_impl_softer x limit H1 fun (r2 : Nat) (H2 : AHeap) => K (.float .f32 r2) H2))) := by kernel_rfl
theorem E_impl_shrunk_ok : ∀ g, FnOk Try.prog g (E_impl_shrunk g) := FnOk.envOf (by
  intro x hx
  simp only [List.mem_cons, List.not_mem_nil, or_false] at hx
  rcases hx with rfl | rfl
  · exact impl_size_ok
  · exact impl_softer_ok)
set_option maxHeartbeats 1000000 in
theorem impl_shrunk_main (x : Nat) (limit : Nat) (hard : Bool) (H : AHeap) (K : Value → AHeap → Prop) (h : T_impl_shrunk x limit hard H fun (r1 : Nat) (H' : AHeap) => K (.float .f32 r1) H') : bodyL Try.prog E_impl_shrunk Try.f157 [.float .f32 x, .float .f32 limit, .bool hard] H K := by
  rw [impl_shrunk_vc]
  simp only [T_impl_size, T_impl_softer]
  unfold T_impl_shrunk p_impl_shrunk at h
  repeat' (first | exact h | (exfalso; simp_all; done) | (refine ⟨by decide, ?_⟩) | (refine Br.intro (fun hb => ?_) (fun hb => ?_) <;> (try simp only [hb, cond_true, cond_false, Bool.not_true, Bool.not_false] at h)))
theorem impl_shrunk_ok : FnOk Try.prog 157 S_impl_shrunk := by
  refine FnOk.body mix_ok E_impl_shrunk_ok Try.func157 rfl (by kernel_rfl) (by kernel_rfl) ?_ ?_ ?_ ?_ ?_
  · intro args H K K' h hk
    simp only [S_impl_shrunk] at *
    unfold F_impl_shrunk at *
    split at hk
    · have k := hk
      exact h _ _ k
    · exact hk.elim
  · intro _ args H K hk
    simp only [S_impl_shrunk] at *
    unfold F_impl_shrunk at *
    split at hk
    · have k := hk
      exact ⟨_, k, fun K' k' => k'⟩
    · exact hk.elim
  · intro args H K hk
    simp only [S_impl_shrunk] at *
    unfold F_impl_shrunk at *
    split at hk
    · have k := hk
      exact ⟨_, _, k⟩
    · exact hk.elim
  · intro hq; cases hq
  · have mm := @impl_shrunk_main
    have ml := fun (args : List Value) (H : AHeap) (K : Value → AHeap → Prop) => bodyL_body (P := Try.prog) (env := E_impl_shrunk ) (fn := Try.f157) (args := args) (H := H) (K := K) E_impl_shrunk_ok 
    revert mm ml
    generalize bodyK Try.prog E_impl_shrunk Try.f157 = Q
    generalize bodyL Try.prog E_impl_shrunk Try.f157 = QL
    intro mm ml args H K hk
    simp only [S_impl_shrunk] at *
    unfold F_impl_shrunk at *
    split at hk
    · exact ml _ H K (mm _ _ _ H K hk)
    · exact hk.elim

def p_impl_shrunkList_l1 (l_list : List Nat) (limit : Nat) (hard : Bool) : Nat → (List Nat) → Int → (List Nat)
  | 0, _, _ => []
  | μ + 1, l_vout, t13 => (bif decide ((t13 : Int) < (l_list.length : Int)) then (p_impl_shrunkList_l1 l_list limit hard μ ((l_vout ++ [((p_impl_shrunk (((l_list).getD (t13 : Int).toNat 0)) limit hard))])) (t13 + 1)) else l_vout)
def p_impl_shrunkList_l1_s := fun l_list limit hard μ l_vout t13 => @p_impl_shrunkList_l1.eq_2 l_list limit hard l_vout t13 μ
def p_impl_shrunkList (l_list : List Nat) (limit : Nat) (hard : Bool) : (List Nat) := (p_impl_shrunkList_l1 l_list limit hard (Int.toNat ((l_list.length : Int) - (0 : Int)) + 1) ([] : List Nat) (0 : Int))
def p_impl_shrunkList_eq := @p_impl_shrunkList.eq_1
def T_impl_shrunkList (list_a : Option Addr) (list_n : Nat) (list_e : Nat) (limit : Nat) (hard : Bool) (H : AHeap) (K : (Option Addr) → Nat → Nat → AHeap → Prop) : Prop := ∃ (l_list : List Nat), IsL fF H list_a list_n l_list ∧ l_list.length < 1073741824 ∧ ((∀ (r1_a : Option Addr) (r1_n r1_e : Nat), ∀ H' : AHeap, Grow H H' → OwnS fF H' H.length r1_a r1_n r1_e (p_impl_shrunkList l_list limit hard) → K r1_a r1_n r1_e H'))
theorem T_impl_shrunkList_i {list_a : Option Addr} {list_n : Nat} {list_e : Nat} {limit : Nat} {hard : Bool} {H : AHeap} {K : (Option Addr) → Nat → Nat → AHeap → Prop} (h : ∃ (l_list : List Nat), IsL fF H list_a list_n l_list ∧ l_list.length < 1073741824 ∧ ((∀ (r1_a : Option Addr) (r1_n r1_e : Nat), ∀ H' : AHeap, Grow H H' → OwnS fF H' H.length r1_a r1_n r1_e (p_impl_shrunkList l_list limit hard) → K r1_a r1_n r1_e H'))) : T_impl_shrunkList list_a list_n list_e limit hard H K := h
theorem impl_shrunkList_go (l : List Nat) (limit : Nat) (hard : Bool) : ∀ (μ : Nat) (o : List Nat) (i : Nat), l.length - i < μ → p_impl_shrunkList_l1 l limit hard μ o (i : Int) = o ++ (l.drop i).map (fun x => p_impl_shrunk x limit hard) := by
  intro μ
  induction μ with
  | zero => intro o i h; omega
  | succ μ ih =>
    intro o i hm
    rw [p_impl_shrunkList_l1_s]
    by_cases h : i < l.length
    · rw [decide_eq_true (show (i : Int) < (l.length : Int) by omega), cond_true, Int.toNat_natCast]
      refine Eq.trans (ih _ (i + 1) ω2) ?_
      rw [List.drop_eq_getElem_cons h, List.map_cons, List.getD_eq_getElem?_getD, List.getElem?_eq_getElem h]
      simp
    · rw [decide_eq_false (show ¬ (i : Int) < (l.length : Int) by omega), cond_false, List.drop_eq_nil_of_le ω2]; simp
theorem impl_shrunkList_map (l : List Nat) (limit : Nat) (hard : Bool) : p_impl_shrunkList l limit hard = l.map (fun x => p_impl_shrunk x limit hard) := by
  rw [p_impl_shrunkList_eq]
  have := impl_shrunkList_go l limit hard (Int.toNat ((l.length : Int) - (0 : Int)) + 1) [] 0 ω2
  simpa using this
theorem impl_shrunkList_len (l : List Nat) (limit : Nat) (hard : Bool) : (p_impl_shrunkList l limit hard).length = l.length := by rw [impl_shrunkList_map]; simp
/-! impl_shrunkList: function 123 -/
def E_impl_shrunkList : Env := envOf [(157, S_impl_shrunk)]
def F_impl_shrunkList : List Value → AHeap → (Value → AHeap → Prop) → Prop
  | [.slice list_a list_n list_e, .float .f32 limit, .bool hard], H, K => T_impl_shrunkList list_a list_n list_e limit hard H fun (r1_a : Option Addr) (r1_n : Nat) (r1_e : Nat) (H' : AHeap) => K (.slice r1_a r1_n r1_e) H'
  | _, _, _ => False
def S_impl_shrunkList : FSpec := { F := F_impl_shrunkList, quiet := false, tame := true }
theorem impl_shrunkList_vc (list_a : Option Addr) (list_n : Nat) (list_e : Nat) (limit : Nat) (hard : Bool) (H : AHeap) (K : Value → AHeap → Prop) : bodyL Try.prog E_impl_shrunkList Try.f123 [.slice list_a list_n list_e, .float .f32 limit, .bool hard] H K =
  (Al [] H fun b1 H1 => loopK (exL Try.prog E_impl_shrunkList (cl (cl (cr (cl (cr (cr (bodyC Try.f123))))))) 14470 64 [(0, 128)]) [ud, .float .f32 limit, .bool hard, ud, ud, ud, ud, .slice (some ⟨b1, 0, none⟩) 0 1, ud, ud, ud, .slice list_a list_n list_e, .int .i64 (list_n : Int), .int .i64 0, ud, ud, ud, ud, ud, ud, ud, ud, ud, ud, ud, ud] H1 (blockQ 0 (seqQ (exL Try.prog E_impl_shrunkList (cr (cr (cr (bodyC Try.f123)))) 64 64 []) (retK Try.prog Try.f123 K)))) := by kernel_rfl
abbrev impl_shrunkList_P1 (hard : Bool) (limit : Nat) (list_a : Option Addr) (list_e : Nat) (list_n : Nat) (vout_a : Option Addr) (vout_n : Nat) (vout_e : Nat) (t13 : Int)  : List Value := [ud, .float .f32 limit, .bool hard, ud, ud, ud, ud, .slice vout_a vout_n vout_e, ud, ud, ud, .slice list_a list_n list_e, .int .i64 (list_n : Int), .int .i64 t13, ud, ud, ud, ud, ud, ud, ud, ud, ud, ud, ud, ud]
theorem impl_shrunkList_r1 (hard : Bool) (limit : Nat) (list_a : Option Addr) (list_e : Nat) (list_n : Nat) (vout_a : Option Addr) (vout_n : Nat) (vout_e : Nat) (t13 : Int)  (H : AHeap) (R : Post) : exL Try.prog E_impl_shrunkList (cl (cl (cr (cl (cr (cr (bodyC Try.f123))))))) 14470 64 [(0, 128)] (impl_shrunkList_P1 hard limit list_a list_e list_n vout_a vout_n vout_e t13) H R =
  (Br (decide ((t13 : Int) < (list_n : Int))) ((0 : Int) ≤ t13 ∧ t13 < (list_n : Int) ∧ ∃ b2 f1, (list_a : Option Addr) = some ⟨b2, f1, none⟩ ∧ ∃ x1 : Nat,  rdC H b2 (f1 + (t13 : Int).toNat * 1) = some (.float .f32 x1) ∧ T_impl_shrunk x1 limit hard H fun (r1 : Nat) (H2 : AHeap) => Al [.float .f32 r1] H2 fun b3 H3 => ∃ o1 w1 : List Value, ownB H3 vout_a vout_n vout_e 1 = some o1 ∧ rdS H3 (some ⟨b3, 0, none⟩) (1 * 1) = some w1 ∧ ((vout_a : Option Addr) = none → 0 < (1 : Nat)) ∧ (vout_n : Nat) + 1 < most ∧ Ap H3 (killB H3 vout_a ++ [some ⟨o1 ++ w1, true⟩]) fun b4 H4 => R .normal [ud, .float .f32 limit, .bool hard, ud, ud, ud, ud, .slice (some ⟨b4, 0, none⟩) (vout_n + 1) 1, ud, ud, ud, .slice list_a list_n list_e, .int .i64 (list_n : Int), .int .i64 (IntKind.wrap .i64 (t13 + 1)), ud, ud, ud, ud, ud, ud, ud, ud, ud, ud, ud, ud] H4) (R (.exit 0) [ud, ud, ud, ud, ud, ud, ud, .slice vout_a vout_n vout_e, ud, ud, ud, ud, ud, ud, ud, ud, ud, ud, ud, ud, ud, ud, ud, ud, ud, ud] H)) := by kernel_rfl
def impl_shrunkList_I1 (hard : Bool) (limit : Nat) (list_a : Option Addr) (list_e : Nat) (list_n : Nat) (Inv : Nat → (Option Addr) → Nat → Nat → Int → AHeap → Prop) : Nat → List Value → AHeap → Prop := fun μ tm H => ∃ (vout_a : Option Addr), ∃ (vout_n : Nat), ∃ (vout_e : Nat), ∃ (t13 : Int), tm = (impl_shrunkList_P1 hard limit list_a list_e list_n vout_a vout_n vout_e t13) ∧ Inv μ vout_a vout_n vout_e t13 H
theorem impl_shrunkList_L1 (hard : Bool) (limit : Nat) (list_a : Option Addr) (list_e : Nat) (list_n : Nat) {Q : Post} (Inv : Nat → (Option Addr) → Nat → Nat → Int → AHeap → Prop) (ν : Nat) (vout_a : Option Addr) (vout_n : Nat) (vout_e : Nat) (t13 : Int)  (H : AHeap) (h0 : Inv ν vout_a vout_n vout_e t13 H)
    (hs : ∀ (μ : Nat) (vout_a : Option Addr) (vout_n : Nat) (vout_e : Nat) (t13 : Int)  (H : AHeap), Inv μ vout_a vout_n vout_e t13 H → exL Try.prog E_impl_shrunkList (cl (cl (cr (cl (cr (cr (bodyC Try.f123))))))) 14470 64 [(0, 128)] (impl_shrunkList_P1 hard limit list_a list_e list_n vout_a vout_n vout_e t13) H (loopQ (impl_shrunkList_I1 hard limit list_a list_e list_n Inv) μ Q)) : loopK (exL Try.prog E_impl_shrunkList (cl (cl (cr (cl (cr (cr (bodyC Try.f123))))))) 14470 64 [(0, 128)]) (impl_shrunkList_P1 hard limit list_a list_e list_n vout_a vout_n vout_e t13) H Q :=
  ⟨impl_shrunkList_I1 hard limit list_a list_e list_n Inv, ν, ⟨vout_a, vout_n, vout_e, t13, rfl, h0⟩, fun μ tm H h => by obtain ⟨vout_a, vout_n, vout_e, t13, rfl, hI⟩ := h; exact hs μ vout_a vout_n vout_e t13  H hI⟩
theorem impl_shrunkList_n1 {hard : Bool} {limit : Nat} {list_a : Option Addr} {list_e : Nat} {list_n : Nat} {Q : Post} {Inv : Nat → (Option Addr) → Nat → Nat → Int → AHeap → Prop} {μ : Nat} (μ' : Nat) {vout_a : Option Addr} {vout_n : Nat} {vout_e : Nat} {t13 : Int}  {H : AHeap} (hm : μ' < μ) (hI : Inv μ' vout_a vout_n vout_e t13 H) : loopQ (impl_shrunkList_I1 hard limit list_a list_e list_n Inv) μ Q .normal (impl_shrunkList_P1 hard limit list_a list_e list_n vout_a vout_n vout_e t13) H := ⟨μ', hm, vout_a, vout_n, vout_e, t13, rfl, hI⟩
theorem impl_shrunkList_x1_0 (vout_a : Option Addr) (vout_n : Nat) (vout_e : Nat) (H : AHeap) (K : Value → AHeap → Prop)  {I : Nat → List Value → AHeap → Prop} {μ : Nat} : loopQ I μ (blockQ 0 (seqQ (exL Try.prog E_impl_shrunkList (cr (cr (cr (bodyC Try.f123)))) 64 64 []) (retK Try.prog Try.f123 K))) (.exit 0) [ud, ud, ud, ud, ud, ud, ud, .slice vout_a vout_n vout_e, ud, ud, ud, ud, ud, ud, ud, ud, ud, ud, ud, ud, ud, ud, ud, ud, ud, ud] H =
  (K (.slice vout_a vout_n vout_e) H) := by kernel_rfl
theorem E_impl_shrunkList_ok : ∀ g, FnOk Try.prog g (E_impl_shrunkList g) := FnOk.envOf (by
  intro x hx
  simp only [List.mem_cons, List.not_mem_nil, or_false] at hx
  subst hx; exact impl_shrunk_ok)
set_option maxHeartbeats 1000000 in
theorem impl_shrunkList_main (list_a : Option Addr) (list_n : Nat) (list_e : Nat) (limit : Nat) (hard : Bool) (H : AHeap) (K : Value → AHeap → Prop) (h : T_impl_shrunkList list_a list_n list_e limit hard H fun (r1_a : Option Addr) (r1_n : Nat) (r1_e : Nat) (H' : AHeap) => K (.slice r1_a r1_n r1_e) H') : bodyL Try.prog E_impl_shrunkList Try.f123 [.slice list_a list_n list_e, .float .f32 limit, .bool hard] H K := by
  rw [impl_shrunkList_vc]
  obtain ⟨l_list, i_list, bd_48, hk⟩ := h
  obtain rfl := i_list.eqn
  have e : (p_impl_shrunkList l_list limit hard) = _ := rfl
  have e := e.trans (p_impl_shrunkList_eq l_list limit hard)
  have g0 := Grow.refl H
  refine Al.intro (fun b_1 H_1 hb_2 hl_3 g_4 o_5 => ?_)
  have o_5 : Own H_1 b_1 ((([] : List Nat)).map fF) := o_5
  have l_7 := g_4.1
  have g_8 := g0.trans g_4
  have l_9 := g_8.1
  have w_47 := o_5.lt
  refine impl_shrunkList_L1 _ _ _ _ _ (fun (μ : Nat) (vout_a : Option Addr) (vout_n : Nat) (vout_e : Nat) (t13 : Int) (H_2 : AHeap) => ∃ (l_vout : List Nat), ∃ (b_10 : Nat), vout_a = some ⟨b_10, 0, none⟩ ∧ vout_n = l_vout.length ∧ vout_e = 1 ∧ Own H_2 b_10 (l_vout.map fF) ∧ Grow H H_2 ∧ H.length ≤ b_10 ∧ (0 : Int) ≤ t13 ∧ t13 ≤ (l_list.length : Int) ∧ (l_vout.length : Int) ≤ t13 - (0 : Int) + 0 ∧ (l_list.length : Int) - t13 ≤ (μ : Int) ∧ p_impl_shrunkList l_list limit hard = p_impl_shrunkList_l1 l_list limit hard (μ + 1) l_vout t13) (Int.toNat ((l_list.length : Int) - (0 : Int))) _ _ _ _ H_1 ?_ ?_
  · exact ⟨_, _, rfl, ω7, rfl, o_5, g_8, ω2, ω3, ω3, ω3, ω2, e⟩
  · intro μ vout_a vout_n vout_e t13  H_2 hI
    obtain ⟨l_vout, b_10, rfl, rfl, rfl, o_11, g_12, l_13, v_14, v_15, v_16, hμ, e⟩ := hI
    rw [impl_shrunkList_r1]
    have e := e.trans (p_impl_shrunkList_l1_s l_list limit hard μ l_vout t13)
    have w_17 := o_11.lt
    have l_18 := g_12.1
    refine Br.intro (fun c_19 => ?_) (fun c_19 => ?_)
    · have e := e.trans (cond_t c_19)
      have c_19' := of_decide_eq_true c_19
      obtain ⟨b_20, f_21, q_22⟩ := ((i_list.grow g_12)).pos ω0
      refine ⟨by omega, by omega, b_20, f_21, q_22, ?_⟩
      refine ⟨((l_list).getD (t13 : Int).toNat 0), (i_list).rd g_12 q_22 ω2 _, ?_⟩
      refine T_impl_shrunk_i ?_
      refine Al.intro (fun b_23 H_3 hb_24 hl_25 g_26 o_27 => ?_)
      have o_27 : Own H_3 b_23 (([((p_impl_shrunk (((l_list).getD (t13 : Int).toNat 0)) limit hard))]).map fF) := o_27
      have l_29 := g_26.1
      have g_30 := g_12.trans g_26
      have l_31 := g_30.1
      have o_32 := o_11.grow g_26
      have w_33 := o_32.lt
      have w_46 := o_27.lt
      refine ⟨_, _, o_32.ownB ω4 rfl, (isl_rdS (o_27.isL ω7)), (fun h => by cases h), ω12, ?_⟩
      refine Ap.app o_32 rfl rfl (fun b_38 H_4 q_44 hl_34 o_35 k_36 => ?_)
      have o_35 := map_snoc o_35
      have l_39 := k_36.1
      have g_40 := g_30.keep (b := b_10) ω2 k_36
      have l_41 := g_40.1
      have o_42 := o_27.keep ω2 k_36
      have w_43 := o_42.lt
      have w_45 := o_35.lt
      rw [show IntKind.wrap .i64 (t13 + 1) = (t13 + 1) from wrap64 ω2 ω2]
      refine impl_shrunkList_n1 (μ - 1) ω8 ⟨_, _, rfl, ω5, rfl, o_35, g_40, ω2, ω1, ω1, ω1, ω8, (by rw [show μ - 1 + 1 = μ from by first | omega]; exact e)⟩
    · have e := e.trans (cond_f c_19)
      have c_19' := of_decide_eq_false c_19
      rw [impl_shrunkList_x1_0]
      rw [e] at hk
      exact hk _ _ _ H_2 g_12 (o_11.ownS ω7 ω2)
theorem impl_shrunkList_ok : FnOk Try.prog 123 S_impl_shrunkList := by
  refine FnOk.body mix_ok E_impl_shrunkList_ok Try.func123 rfl (by kernel_rfl) (by kernel_rfl) ?_ ?_ ?_ ?_ ?_
  · intro args H K K' h hk
    simp only [S_impl_shrunkList] at *
    unfold F_impl_shrunkList at *
    split at hk
    · obtain ⟨l_list, i_list, bd_48, k⟩ := hk
      exact ⟨l_list, i_list, bd_48, (fun r1_a r1_n r1_e H' gg ow0 => h _ _ (k r1_a r1_n r1_e H' gg ow0))⟩
    · exact hk.elim
  · intro hq; cases hq
  · intro args H K hk
    simp only [S_impl_shrunkList] at *
    unfold F_impl_shrunkList at *
    split at hk
    · obtain ⟨l_list, i_list, bd_48, k⟩ := hk
      exact liveS fun a n e H1 g o => ⟨_, _, k a n e H1 g o⟩
    · exact hk.elim
  · intro _ args H K hk
    simp only [S_impl_shrunkList] at *
    unfold F_impl_shrunkList at *
    split at hk
    · obtain ⟨l_list, i_list, bd_48, k⟩ := hk
      exact ⟨l_list, i_list, bd_48, (fun r1_a r1_n r1_e H' gg ow0 => ⟨gg, k r1_a r1_n r1_e H' gg ow0⟩)⟩
    · exact hk.elim
  · have mm := @impl_shrunkList_main
    have ml := fun (args : List Value) (H : AHeap) (K : Value → AHeap → Prop) => bodyL_body (P := Try.prog) (env := E_impl_shrunkList ) (fn := Try.f123) (args := args) (H := H) (K := K) E_impl_shrunkList_ok 
    revert mm ml
    generalize bodyK Try.prog E_impl_shrunkList Try.f123 = Q
    generalize bodyL Try.prog E_impl_shrunkList Try.f123 = QL
    intro mm ml args H K hk
    simp only [S_impl_shrunkList] at *
    unfold F_impl_shrunkList at *
    split at hk
    · exact ml _ H K (mm _ _ _ _ _ H K hk)
    · exact hk.elim

def p_impl_ShrinkBands_l1 (l_b_Coarse : List Nat) (l_b_Details : List (List Nat)) (l_limits : List Nat) (hard : Bool) : Nat → Bool → Int → (List (List Nat)) → (List Nat) × (List (List Nat)) × Bool
  | 0, _, _, _ => ([], [], false)
  | μ + 1, t7, t30, q1_4 => (bif decide ((t30 : Int) < (l_b_Details.length : Int)) then (bif !((p_impl_isLeast (((l_limits).getD (t30 : Int).toNat 0)))) then ([], [], false) else (p_impl_ShrinkBands_l1 l_b_Coarse l_b_Details l_limits hard μ t7 (t30 + 1) ((q1_4 ++ [(p_impl_shrunkList (((l_b_Details).getD (t30 : Int).toNat [])) (((l_limits).getD (t30 : Int).toNat 0)) hard)])))) else ((p_impl_copyOf l_b_Coarse), q1_4, true))
def p_impl_ShrinkBands_l1_s := fun l_b_Coarse l_b_Details l_limits hard μ t7 t30 q1_4 => @p_impl_ShrinkBands_l1.eq_2 l_b_Coarse l_b_Details l_limits hard t7 t30 q1_4 μ
def p_impl_ShrinkBands (l_b_Coarse : List Nat) (l_b_Details : List (List Nat)) (l_limits : List Nat) (hard : Bool) : (List Nat) × (List (List Nat)) × Bool := ((bif !(p_impl_ValidBands l_b_Coarse l_b_Details) then ([], [], false) else (bif ((l_limits.length : Int) : Int) != (l_b_Details.length : Int) then ([], [], false) else (p_impl_ShrinkBands_l1 l_b_Coarse l_b_Details l_limits hard (Int.toNat ((l_b_Details.length : Int) - (0 : Int)) + 1) false (0 : Int) ([])))))
def p_impl_ShrinkBands_eq := @p_impl_ShrinkBands.eq_1
def T_impl_ShrinkBands (b_Coarse_a : Option Addr) (b_Coarse_n : Nat) (b_Coarse_e : Nat) (b_Details_a : Option Addr) (b_Details_n : Nat) (b_Details_e : Nat) (limits_a : Option Addr) (limits_n : Nat) (limits_e : Nat) (hard : Bool) (H : AHeap) (K : (Option Addr) → Nat → Nat → (Option Addr) → Nat → Nat → Bool → AHeap → Prop) : Prop := ∃ (l_b_Coarse : List Nat), ∃ (l_b_Details : List (List Nat)), ∃ (l_limits : List Nat), IsL fF H b_Coarse_a b_Coarse_n l_b_Coarse ∧ IsLL fF H b_Details_a b_Details_n l_b_Details ∧ IsL fF H limits_a limits_n l_limits ∧ l_b_Coarse.length < 1073741824 ∧ l_b_Details.length < 1073741824 ∧ l_limits.length < 1073741824 ∧ (∀ y ∈ l_b_Details, y.length < 1073741824) ∧ ((∀ (r1_Coarse_a : Option Addr) (r1_Coarse_n r1_Coarse_e : Nat), ∀ (r1_Details_a : Option Addr) (r1_Details_n r1_Details_e : Nat), ∀ H' : AHeap, Grow H H' → ∀ lo2 : Nat, H.length ≤ lo2 → lo2 ≤ H'.length → SepL r1_Coarse_a lo2 → OwnS fF H' H.length r1_Coarse_a r1_Coarse_n r1_Coarse_e ((p_impl_ShrinkBands l_b_Coarse l_b_Details l_limits hard).1) → OwnLL fF H' lo2 H'.length r1_Details_a r1_Details_n r1_Details_e ((p_impl_ShrinkBands l_b_Coarse l_b_Details l_limits hard).2.1) → K r1_Coarse_a r1_Coarse_n r1_Coarse_e r1_Details_a r1_Details_n r1_Details_e ((p_impl_ShrinkBands l_b_Coarse l_b_Details l_limits hard).2.2) H'))
theorem T_impl_ShrinkBands_i {b_Coarse_a : Option Addr} {b_Coarse_n : Nat} {b_Coarse_e : Nat} {b_Details_a : Option Addr} {b_Details_n : Nat} {b_Details_e : Nat} {limits_a : Option Addr} {limits_n : Nat} {limits_e : Nat} {hard : Bool} {H : AHeap} {K : (Option Addr) → Nat → Nat → (Option Addr) → Nat → Nat → Bool → AHeap → Prop} (h : ∃ (l_b_Coarse : List Nat), ∃ (l_b_Details : List (List Nat)), ∃ (l_limits : List Nat), IsL fF H b_Coarse_a b_Coarse_n l_b_Coarse ∧ IsLL fF H b_Details_a b_Details_n l_b_Details ∧ IsL fF H limits_a limits_n l_limits ∧ l_b_Coarse.length < 1073741824 ∧ l_b_Details.length < 1073741824 ∧ l_limits.length < 1073741824 ∧ (∀ y ∈ l_b_Details, y.length < 1073741824) ∧ ((∀ (r1_Coarse_a : Option Addr) (r1_Coarse_n r1_Coarse_e : Nat), ∀ (r1_Details_a : Option Addr) (r1_Details_n r1_Details_e : Nat), ∀ H' : AHeap, Grow H H' → ∀ lo2 : Nat, H.length ≤ lo2 → lo2 ≤ H'.length → SepL r1_Coarse_a lo2 → OwnS fF H' H.length r1_Coarse_a r1_Coarse_n r1_Coarse_e ((p_impl_ShrinkBands l_b_Coarse l_b_Details l_limits hard).1) → OwnLL fF H' lo2 H'.length r1_Details_a r1_Details_n r1_Details_e ((p_impl_ShrinkBands l_b_Coarse l_b_Details l_limits hard).2.1) → K r1_Coarse_a r1_Coarse_n r1_Coarse_e r1_Details_a r1_Details_n r1_Details_e ((p_impl_ShrinkBands l_b_Coarse l_b_Details l_limits hard).2.2) H'))) : T_impl_ShrinkBands b_Coarse_a b_Coarse_n b_Coarse_e b_Details_a b_Details_n b_Details_e limits_a limits_n limits_e hard H K := h
theorem impl_ShrinkBands_go (a : List Nat) (ds : List (List Nat)) (m : List Nat) (h : Bool) (hd : ds.length ≤ 6) : ∀ (μ : Nat) (b : Bool) (i : Int) (o : List (List Nat)), (o.length : Int) ≤ i → i ≤ (ds.length : Int) → ((∀ y ∈ ds, y.length < 1073741824) → ∀ y ∈ o, y.length < 1073741824) →
    (p_impl_ShrinkBands_l1 a ds m h μ b i o).1.length ≤ a.length ∧ (p_impl_ShrinkBands_l1 a ds m h μ b i o).2.1.length ≤ 6 ∧ ((∀ y ∈ ds, y.length < 1073741824) → ∀ y ∈ (p_impl_ShrinkBands_l1 a ds m h μ b i o).2.1, y.length < 1073741824) := by
  intro μ
  induction μ with
  | zero => intro b i o h1 h2 h3; exact ⟨Nat.zero_le _, Nat.zero_le _, fun _ y hy => by cases hy⟩
  | succ μ ih =>
    intro b i o h1 h2 h3
    rw [p_impl_ShrinkBands_l1_s]
    refine cnb (P := fun r : List Nat × List (List Nat) × Bool => r.1.length ≤ a.length ∧ r.2.1.length ≤ 6 ∧ ((∀ y ∈ ds, y.length < 1073741824) → ∀ y ∈ r.2.1, y.length < 1073741824)) (fun hc => ?_) (fun _ => ⟨by rw [impl_copyOf_len]; exact Nat.le_refl _, by show o.length ≤ 6; omega, h3⟩)
    have hc := of_decide_eq_true hc
    refine cnb (P := fun r : List Nat × List (List Nat) × Bool => r.1.length ≤ a.length ∧ r.2.1.length ≤ 6 ∧ ((∀ y ∈ ds, y.length < 1073741824) → ∀ y ∈ r.2.1, y.length < 1073741824)) (fun _ => ⟨Nat.zero_le _, Nat.zero_le _, fun _ y hy => by cases hy⟩) (fun _ => ?_)
    refine ih _ _ _ (by rw [List.length_append, List.length_singleton]; omega) ω2 (fun hb y hy => ?_)
    rcases List.mem_append.1 hy with hy | hy
    · exact h3 hb y hy
    · rw [List.mem_singleton.1 hy, impl_shrunkList_len]; exact getD_len hb _
theorem impl_ShrinkBands_all (a : List Nat) (ds : List (List Nat)) (m : List Nat) (h : Bool) : (p_impl_ShrinkBands a ds m h).1.length ≤ a.length ∧ (p_impl_ShrinkBands a ds m h).2.1.length ≤ 6 ∧ ((∀ y ∈ ds, y.length < 1073741824) → ∀ y ∈ (p_impl_ShrinkBands a ds m h).2.1, y.length < 1073741824) := by
  rw [p_impl_ShrinkBands_eq]
  refine cnb (P := fun r : List Nat × List (List Nat) × Bool => r.1.length ≤ a.length ∧ r.2.1.length ≤ 6 ∧ ((∀ y ∈ ds, y.length < 1073741824) → ∀ y ∈ r.2.1, y.length < 1073741824)) (fun _ => ⟨Nat.zero_le _, Nat.zero_le _, fun _ y hy => by cases hy⟩) (fun hc => ?_)
  have hw := impl_ValidBands_t (nt_of_f hc)
  refine cnb (P := fun r : List Nat × List (List Nat) × Bool => r.1.length ≤ a.length ∧ r.2.1.length ≤ 6 ∧ ((∀ y ∈ ds, y.length < 1073741824) → ∀ y ∈ r.2.1, y.length < 1073741824)) (fun _ => ⟨Nat.zero_le _, Nat.zero_le _, fun _ y hy => by cases hy⟩) (fun _ => ?_)
  exact impl_ShrinkBands_go a ds m h hw.2.1 _ _ _ _ (by simp) ω2 (fun _ y hy => by cases hy)
theorem impl_ShrinkBands_len (a : List Nat) (ds : List (List Nat)) (m : List Nat) (h : Bool) : (p_impl_ShrinkBands a ds m h).1.length ≤ a.length ∧ (p_impl_ShrinkBands a ds m h).2.1.length ≤ 6 := ⟨(impl_ShrinkBands_all a ds m h).1, (impl_ShrinkBands_all a ds m h).2.1⟩
theorem impl_ShrinkBands_big (a : List Nat) (ds : List (List Nat)) (m : List Nat) (h : Bool) : (∀ y ∈ ds, y.length < 1073741824) → ∀ y ∈ (p_impl_ShrinkBands a ds m h).2.1, y.length < 1073741824 := (impl_ShrinkBands_all a ds m h).2.2
/-! impl_ShrinkBands: function 34 -/
def E_impl_ShrinkBands : Env := envOf [(116, S_impl_ValidBands), (122, S_impl_copyOf), (106, S_impl_isLeast), (123, S_impl_shrunkList)]
def F_impl_ShrinkBands : List Value → AHeap → (Value → AHeap → Prop) → Prop
  | [.agg ⟨[.slice b_Coarse_a b_Coarse_n b_Coarse_e, .slice b_Details_a b_Details_n b_Details_e]⟩, .slice limits_a limits_n limits_e, .bool hard], H, K => T_impl_ShrinkBands b_Coarse_a b_Coarse_n b_Coarse_e b_Details_a b_Details_n b_Details_e limits_a limits_n limits_e hard H fun (r1_Coarse_a : Option Addr) (r1_Coarse_n : Nat) (r1_Coarse_e : Nat) (r1_Details_a : Option Addr) (r1_Details_n : Nat) (r1_Details_e : Nat) (r2 : Bool) (H' : AHeap) => K (.tuple #[.agg #[.slice r1_Coarse_a r1_Coarse_n r1_Coarse_e, .slice r1_Details_a r1_Details_n r1_Details_e], .bool r2]) H'
  | _, _, _ => False
def S_impl_ShrinkBands : FSpec := { F := F_impl_ShrinkBands, quiet := false, tame := true }
theorem impl_ShrinkBands_vc (b_Coarse_a : Option Addr) (b_Coarse_n : Nat) (b_Coarse_e : Nat) (b_Details_a : Option Addr) (b_Details_n : Nat) (b_Details_e : Nat) (limits_a : Option Addr) (limits_n : Nat) (limits_e : Nat) (hard : Bool) (H : AHeap) (K : Value → AHeap → Prop) : bodyL Try.prog E_impl_ShrinkBands Try.f34 [.agg #[.slice b_Coarse_a b_Coarse_n b_Coarse_e, .slice b_Details_a b_Details_n b_Details_e], .slice limits_a limits_n limits_e, .bool hard] H K =
  (Al [.slice b_Coarse_a b_Coarse_n b_Coarse_e, .slice b_Details_a b_Details_n b_Details_e] H fun b1 H1 => Al [.slice none 0 0, .slice none 0 0] H1 fun b2 H2 => ∃ c1_a : Option Addr, ∃ c1_n : Nat, ∃ c1_e : Nat, ∃ c2_a : Option Addr, ∃ c2_n : Nat, ∃ c2_e : Nat,  rdN H2 b1 0 2 = some [.slice c1_a c1_n c1_e, .slice c2_a c2_n c2_e] ∧ T_impl_ValidBands c1_a c1_n c1_e c2_a c2_n c2_e H2 fun (r1 : Bool) (H3 : AHeap) => Br (!r1) (isOwn H3 b2 ∧ (∃ l, rdN H3 b2 0 2 = some l) ∧ Lt (setN H3 b2 0 [.slice none 0 0, .slice none 0 0]) fun H4 => ∃ c3_a : Option Addr, ∃ c3_n : Nat, ∃ c3_e : Nat, ∃ c4_a : Option Addr, ∃ c4_n : Nat, ∃ c4_e : Nat,  rdN H4 b2 0 2 = some [.slice c3_a c3_n c3_e, .slice c4_a c4_n c4_e] ∧ K (.tuple #[.agg #[.slice c3_a c3_n c3_e, .slice c4_a c4_n c4_e], .bool false]) H4) (∃ x1_a : Option Addr, ∃ x1_n : Nat, ∃ x1_e : Nat,  rdC H3 b1 1 = some (.slice x1_a x1_n x1_e) ∧ Br (((limits_n : Int) : Int) != (x1_n : Int)) (isOwn H3 b2 ∧ (∃ l, rdN H3 b2 0 2 = some l) ∧ Lt (setN H3 b2 0 [.slice none 0 0, .slice none 0 0]) fun H5 => ∃ c5_a : Option Addr, ∃ c5_n : Nat, ∃ c5_e : Nat, ∃ c6_a : Option Addr, ∃ c6_n : Nat, ∃ c6_e : Nat,  rdN H5 b2 0 2 = some [.slice c5_a c5_n c5_e, .slice c6_a c6_n c6_e] ∧ K (.tuple #[.agg #[.slice c5_a c5_n c5_e, .slice c6_a c6_n c6_e], .bool false]) H5) (∃ x2_a : Option Addr, ∃ x2_n : Nat, ∃ x2_e : Nat,  rdC H3 b1 0 = some (.slice x2_a x2_n x2_e) ∧ T_impl_copyOf x2_a x2_n x2_e H3 fun (a1 : Option Addr) (r2 : Nat) (r3 : Nat) (H6 : AHeap) => Al [.slice none 0 0, .slice none 0 0] H6 fun b3 H7 => isOwn H7 b3 ∧ (∃ l, rdN H7 b3 0 2 = some l) ∧ Lt (setN H7 b3 0 [.slice a1 r2 r3, .slice none 0 0]) fun H8 => ∃ x3_a : Option Addr, ∃ x3_n : Nat, ∃ x3_e : Nat,  rdC H8 b1 1 = some (.slice x3_a x3_n x3_e) ∧ loopK (exL Try.prog E_impl_ShrinkBands (cl (cl (cr (cl (cr (cr (cr (bodyC Try.f34)))))))) 1879048518 192 [(0, 320)]) [ud, .slice limits_a limits_n limits_e, .bool hard, ud, ud, ud, .pointer (some ⟨b2, 0, none⟩), ud, .pointer (some ⟨b3, 0, none⟩), ud, ud, ud, ud, ud, ud, ud, ud, ud, ud, ud, ud, ud, ud, ud, ud, ud, ud, ud, .slice x3_a x3_n x3_e, .int .i64 (x3_n : Int), .int .i64 0, ud, ud, ud, ud, ud, ud, ud, ud, ud, ud, ud, ud, ud, ud, ud, ud, ud, ud, ud, ud, ud, ud, ud, ud, ud] H8 (blockQ 0 (seqQ (exL Try.prog E_impl_ShrinkBands (cr (cr (cr (cr (bodyC Try.f34))))) 192 192 []) (retK Try.prog Try.f34 K)))))) := by kernel_rfl
abbrev impl_ShrinkBands_P1 (b2 : Nat) (b3 : Nat) (hard : Bool) (limits_a : Option Addr) (limits_e : Nat) (limits_n : Nat) (x3_a : Option Addr) (x3_e : Nat) (x3_n : Nat) (t30 : Int)  : List Value := [ud, .slice limits_a limits_n limits_e, .bool hard, ud, ud, ud, .pointer (some ⟨b2, 0, none⟩), ud, .pointer (some ⟨b3, 0, none⟩), ud, ud, ud, ud, ud, ud, ud, ud, ud, ud, ud, ud, ud, ud, ud, ud, ud, ud, ud, .slice x3_a x3_n x3_e, .int .i64 (x3_n : Int), .int .i64 t30, ud, ud, ud, ud, ud, ud, ud, ud, ud, ud, ud, ud, ud, ud, ud, ud, ud, ud, ud, ud, ud, ud, ud, ud, ud]
theorem impl_ShrinkBands_r1 (b2 : Nat) (b3 : Nat) (hard : Bool) (limits_a : Option Addr) (limits_e : Nat) (limits_n : Nat) (x3_a : Option Addr) (x3_e : Nat) (x3_n : Nat) (t30 : Int)  (H : AHeap) (R : Post) : exL Try.prog E_impl_ShrinkBands (cl (cl (cr (cl (cr (cr (cr (bodyC Try.f34)))))))) 1879048518 192 [(0, 320)] (impl_ShrinkBands_P1 b2 b3 hard limits_a limits_e limits_n x3_a x3_e x3_n t30) H R =
  (Br (decide ((t30 : Int) < (x3_n : Int))) ((0 : Int) ≤ t30 ∧ t30 < (x3_n : Int) ∧ ∃ b4 f1, (x3_a : Option Addr) = some ⟨b4, f1, none⟩ ∧ ∃ x4_a : Option Addr, ∃ x4_n : Nat, ∃ x4_e : Nat,  rdC H b4 (f1 + (t30 : Int).toNat * 1) = some (.slice x4_a x4_n x4_e) ∧ (0 : Int) ≤ t30 ∧ t30 < (limits_n : Int) ∧ ∃ b5 f2, (limits_a : Option Addr) = some ⟨b5, f2, none⟩ ∧ ∃ x5 : Nat,  rdC H b5 (f2 + (t30 : Int).toNat * 1) = some (.float .f32 x5) ∧ T_impl_isLeast x5 H fun (r4 : Bool) (H9 : AHeap) => Br (!r4) (isOwn H9 b2 ∧ (∃ l, rdN H9 b2 0 2 = some l) ∧ Lt (setN H9 b2 0 [.slice none 0 0, .slice none 0 0]) fun H10 => R .ret [ud, ud, ud, ud, ud, ud, .pointer (some ⟨b2, 0, none⟩), .bool false, ud, ud, ud, ud, ud, ud, ud, ud, ud, ud, ud, ud, ud, ud, ud, ud, ud, ud, ud, ud, ud, ud, ud, ud, ud, ud, ud, ud, ud, ud, ud, ud, ud, ud, ud, ud, ud, ud, ud, ud, ud, ud, ud, ud, ud, ud, ud, ud] H10) (∃ x6_a : Option Addr, ∃ x6_n : Nat, ∃ x6_e : Nat,  rdC H9 b3 1 = some (.slice x6_a x6_n x6_e) ∧ (0 : Int) ≤ t30 ∧ t30 < (limits_n : Int) ∧ ∃ b6 f3, (limits_a : Option Addr) = some ⟨b6, f3, none⟩ ∧ ∃ x7 : Nat,  rdC H9 b6 (f3 + (t30 : Int).toNat * 1) = some (.float .f32 x7) ∧ T_impl_shrunkList x4_a x4_n x4_e x7 hard H9 fun (a2 : Option Addr) (r5 : Nat) (r6 : Nat) (H11 : AHeap) => Al [.slice a2 r5 r6] H11 fun b7 H12 => ∃ o1 w1 : List Value, ownB H12 x6_a x6_n x6_e 1 = some o1 ∧ rdS H12 (some ⟨b7, 0, none⟩) (1 * 1) = some w1 ∧ ((x6_a : Option Addr) = none → 0 < (1 : Nat)) ∧ (x6_n : Nat) + 1 < most ∧ Ap H12 (killB H12 x6_a ++ [some ⟨o1 ++ w1, true⟩]) fun b8 H13 => isOwn H13 b3 ∧ (∃ l, rdN H13 b3 1 1 = some l) ∧ Lt (setC H13 b3 1 (.slice (some ⟨b8, 0, none⟩) (x6_n + 1) 1)) fun H14 => R .normal [ud, .slice limits_a limits_n limits_e, .bool hard, ud, ud, ud, .pointer (some ⟨b2, 0, none⟩), ud, .pointer (some ⟨b3, 0, none⟩), ud, ud, ud, ud, ud, ud, ud, ud, ud, ud, ud, ud, ud, ud, ud, ud, ud, ud, ud, .slice x3_a x3_n x3_e, .int .i64 (x3_n : Int), .int .i64 (IntKind.wrap .i64 (t30 + 1)), ud, ud, ud, ud, ud, ud, ud, ud, ud, ud, ud, ud, ud, ud, ud, ud, ud, ud, ud, ud, ud, ud, ud, ud, ud] H14)) (R (.exit 0) [ud, ud, ud, ud, ud, ud, .pointer (some ⟨b2, 0, none⟩), ud, .pointer (some ⟨b3, 0, none⟩), ud, ud, ud, ud, ud, ud, ud, ud, ud, ud, ud, ud, ud, ud, ud, ud, ud, ud, ud, ud, ud, ud, ud, ud, ud, ud, ud, ud, ud, ud, ud, ud, ud, ud, ud, ud, ud, ud, ud, ud, ud, ud, ud, ud, ud, ud, ud] H)) := by kernel_rfl
def impl_ShrinkBands_I1 (b2 : Nat) (b3 : Nat) (hard : Bool) (limits_a : Option Addr) (limits_e : Nat) (limits_n : Nat) (x3_a : Option Addr) (x3_e : Nat) (x3_n : Nat) (Inv : Nat → Int → AHeap → Prop) : Nat → List Value → AHeap → Prop := fun μ tm H => ∃ (t30 : Int), tm = (impl_ShrinkBands_P1 b2 b3 hard limits_a limits_e limits_n x3_a x3_e x3_n t30) ∧ Inv μ t30 H
theorem impl_ShrinkBands_L1 (b2 : Nat) (b3 : Nat) (hard : Bool) (limits_a : Option Addr) (limits_e : Nat) (limits_n : Nat) (x3_a : Option Addr) (x3_e : Nat) (x3_n : Nat) {Q : Post} (Inv : Nat → Int → AHeap → Prop) (ν : Nat) (t30 : Int)  (H : AHeap) (h0 : Inv ν t30 H)
    (hs : ∀ (μ : Nat) (t30 : Int)  (H : AHeap), Inv μ t30 H → exL Try.prog E_impl_ShrinkBands (cl (cl (cr (cl (cr (cr (cr (bodyC Try.f34)))))))) 1879048518 192 [(0, 320)] (impl_ShrinkBands_P1 b2 b3 hard limits_a limits_e limits_n x3_a x3_e x3_n t30) H (loopQ (impl_ShrinkBands_I1 b2 b3 hard limits_a limits_e limits_n x3_a x3_e x3_n Inv) μ Q)) : loopK (exL Try.prog E_impl_ShrinkBands (cl (cl (cr (cl (cr (cr (cr (bodyC Try.f34)))))))) 1879048518 192 [(0, 320)]) (impl_ShrinkBands_P1 b2 b3 hard limits_a limits_e limits_n x3_a x3_e x3_n t30) H Q :=
  ⟨impl_ShrinkBands_I1 b2 b3 hard limits_a limits_e limits_n x3_a x3_e x3_n Inv, ν, ⟨t30, rfl, h0⟩, fun μ tm H h => by obtain ⟨t30, rfl, hI⟩ := h; exact hs μ t30  H hI⟩
theorem impl_ShrinkBands_n1 {b2 : Nat} {b3 : Nat} {hard : Bool} {limits_a : Option Addr} {limits_e : Nat} {limits_n : Nat} {x3_a : Option Addr} {x3_e : Nat} {x3_n : Nat} {Q : Post} {Inv : Nat → Int → AHeap → Prop} {μ : Nat} (μ' : Nat) {t30 : Int}  {H : AHeap} (hm : μ' < μ) (hI : Inv μ' t30 H) : loopQ (impl_ShrinkBands_I1 b2 b3 hard limits_a limits_e limits_n x3_a x3_e x3_n Inv) μ Q .normal (impl_ShrinkBands_P1 b2 b3 hard limits_a limits_e limits_n x3_a x3_e x3_n t30) H := ⟨μ', hm, t30, rfl, hI⟩
theorem impl_ShrinkBands_x1_0 (b2 : Nat) (b3 : Nat) (H : AHeap) (K : Value → AHeap → Prop)  {I : Nat → List Value → AHeap → Prop} {μ : Nat} : loopQ I μ (blockQ 0 (seqQ (exL Try.prog E_impl_ShrinkBands (cr (cr (cr (cr (bodyC Try.f34))))) 192 192 []) (retK Try.prog Try.f34 K))) (.exit 0) [ud, ud, ud, ud, ud, ud, .pointer (some ⟨b2, 0, none⟩), ud, .pointer (some ⟨b3, 0, none⟩), ud, ud, ud, ud, ud, ud, ud, ud, ud, ud, ud, ud, ud, ud, ud, ud, ud, ud, ud, ud, ud, ud, ud, ud, ud, ud, ud, ud, ud, ud, ud, ud, ud, ud, ud, ud, ud, ud, ud, ud, ud, ud, ud, ud, ud, ud, ud] H =
  (∃ c7_a : Option Addr, ∃ c7_n : Nat, ∃ c7_e : Nat, ∃ c8_a : Option Addr, ∃ c8_n : Nat, ∃ c8_e : Nat,  rdN H b3 0 2 = some [.slice c7_a c7_n c7_e, .slice c8_a c8_n c8_e] ∧ isOwn H b2 ∧ (∃ l, rdN H b2 0 2 = some l) ∧ Lt (setN H b2 0 [.slice c7_a c7_n c7_e, .slice c8_a c8_n c8_e]) fun H15 => ∃ c9_a : Option Addr, ∃ c9_n : Nat, ∃ c9_e : Nat, ∃ c10_a : Option Addr, ∃ c10_n : Nat, ∃ c10_e : Nat,  rdN H15 b2 0 2 = some [.slice c9_a c9_n c9_e, .slice c10_a c10_n c10_e] ∧ K (.tuple #[.agg #[.slice c9_a c9_n c9_e, .slice c10_a c10_n c10_e], .bool true]) H15) := by kernel_rfl
theorem impl_ShrinkBands_x1_ret (b2 : Nat) (t7 : Bool) (H : AHeap) (K : Value → AHeap → Prop)  {I : Nat → List Value → AHeap → Prop} {μ : Nat} : loopQ I μ (blockQ 0 (seqQ (exL Try.prog E_impl_ShrinkBands (cr (cr (cr (cr (bodyC Try.f34))))) 192 192 []) (retK Try.prog Try.f34 K))) .ret [ud, ud, ud, ud, ud, ud, .pointer (some ⟨b2, 0, none⟩), .bool t7, ud, ud, ud, ud, ud, ud, ud, ud, ud, ud, ud, ud, ud, ud, ud, ud, ud, ud, ud, ud, ud, ud, ud, ud, ud, ud, ud, ud, ud, ud, ud, ud, ud, ud, ud, ud, ud, ud, ud, ud, ud, ud, ud, ud, ud, ud, ud, ud] H =
  (∃ c11_a : Option Addr, ∃ c11_n : Nat, ∃ c11_e : Nat, ∃ c12_a : Option Addr, ∃ c12_n : Nat, ∃ c12_e : Nat,  rdN H b2 0 2 = some [.slice c11_a c11_n c11_e, .slice c12_a c12_n c12_e] ∧ K (.tuple #[.agg #[.slice c11_a c11_n c11_e, .slice c12_a c12_n c12_e], .bool t7]) H) := by kernel_rfl
theorem E_impl_ShrinkBands_ok : ∀ g, FnOk Try.prog g (E_impl_ShrinkBands g) := FnOk.envOf (by
  intro x hx
  simp only [List.mem_cons, List.not_mem_nil, or_false] at hx
  rcases hx with rfl | rfl | rfl | rfl
  · exact impl_ValidBands_ok
  · exact impl_copyOf_ok
  · exact impl_isLeast_ok
  · exact impl_shrunkList_ok)
set_option maxHeartbeats 1000000 in
theorem impl_ShrinkBands_main (b_Coarse_a : Option Addr) (b_Coarse_n : Nat) (b_Coarse_e : Nat) (b_Details_a : Option Addr) (b_Details_n : Nat) (b_Details_e : Nat) (limits_a : Option Addr) (limits_n : Nat) (limits_e : Nat) (hard : Bool) (H : AHeap) (K : Value → AHeap → Prop) (h : T_impl_ShrinkBands b_Coarse_a b_Coarse_n b_Coarse_e b_Details_a b_Details_n b_Details_e limits_a limits_n limits_e hard H fun (r1_Coarse_a : Option Addr) (r1_Coarse_n : Nat) (r1_Coarse_e : Nat) (r1_Details_a : Option Addr) (r1_Details_n : Nat) (r1_Details_e : Nat) (r2 : Bool) (H' : AHeap) => K (.tuple #[.agg #[.slice r1_Coarse_a r1_Coarse_n r1_Coarse_e, .slice r1_Details_a r1_Details_n r1_Details_e], .bool r2]) H') : bodyL Try.prog E_impl_ShrinkBands Try.f34 [.agg #[.slice b_Coarse_a b_Coarse_n b_Coarse_e, .slice b_Details_a b_Details_n b_Details_e], .slice limits_a limits_n limits_e, .bool hard] H K := by
  rw [impl_ShrinkBands_vc]
  obtain ⟨l_b_Coarse, l_b_Details, l_limits, i_b_Coarse, i_b_Details, i_limits, bd_236, bd_237, bd_238, bb_l_b_Details, hk⟩ := h
  obtain rfl := i_b_Coarse.eqn
  obtain rfl := i_b_Details.eqn
  obtain rfl := i_limits.eqn
  have e : (p_impl_ShrinkBands l_b_Coarse l_b_Details l_limits hard) = _ := rfl
  have e := e.trans (p_impl_ShrinkBands_eq l_b_Coarse l_b_Details l_limits hard)
  have g0 := Grow.refl H
  refine Al.intro (fun b_1 H_1 hb_2 hl_3 g_4 o_5 => ?_)
  have l_7 := g_4.1
  have g_8 := g0.trans g_4
  have l_9 := g_8.1
  have w_235 := o_5.lt
  refine Al.intro (fun b_10 H_2 hb_11 hl_12 g_13 o_14 => ?_)
  have l_16 := g_13.1
  have g_17 := g_8.trans g_13
  have l_18 := g_17.1
  have o_19 := o_5.grow g_13
  have w_20 := o_19.lt
  have w_234 := o_14.lt
  refine ⟨b_Coarse_a, l_b_Coarse.length, b_Coarse_e, b_Details_a, l_b_Details.length, b_Details_e, (o_19.rdN (Nat.le_of_ble_eq_true rfl)).trans rfl, ?_⟩
  refine T_impl_ValidBands_i ⟨_, l_b_Details, (i_b_Coarse.grow g_17), (i_b_Details.grow g_17), ω0, ω0, (by first | assumption | exact or_right (by assumption) (by omega) | exact or_right (by assumption : _ ∧ (_ ∨ _)).2 (by omega) | (intro y hy; simp only [List.mem_cons, List.not_mem_nil, or_false] at hy; first | omega | (subst hy; omega) | (rcases hy with rfl | rfl <;> omega) | (rcases hy with rfl | rfl | rfl <;> omega))), fun  H_3 g_21  => ?_⟩
  have l_22 := g_21.1
  have g_23 := g_17.trans g_21
  have l_24 := g_23.1
  have o_25 := o_19.grow g_21
  have w_26 := o_25.lt
  have o_27 := o_14.grow g_21
  have w_28 := o_27.lt
  refine Br.intro (fun c_29 => ?_) (fun c_29 => ?_)
  · have e := e.trans (cond_t c_29)
    have c_29n := nf_of_t c_29
    refine Lt.setN (n := 2) o_27 (Nat.le_of_ble_eq_true rfl) rfl (fun H_4 hl_30 o_32 k_31 => ?_)
    have o_32 : Own H_4 b_10 [.slice none 0 0, .slice none 0 0] := o_32
    have l_33 := k_31.1
    have g_34 := g_23.keep (b := b_10) ω2 k_31
    have l_35 := g_34.1
    have o_36 := o_25.keep ω2 k_31
    have w_37 := o_36.lt
    have w_38 := o_32.lt
    refine ⟨none, 0, 0, none, 0, 0, (o_32.rdN (Nat.le_of_ble_eq_true rfl)).trans rfl, ?_⟩
    rw [e] at hk
    exact hk _ _ _ _ _ _ H_4 g_34 H_4.length ω2 ω2 (fun x hx => by cases hx) ω6 ω6
  · have e := e.trans (cond_f c_29)
    have c_29n := nt_of_f c_29
    have c_29n' := impl_ValidBands_t c_29n
    refine ⟨b_Details_a, l_b_Details.length, b_Details_e, (o_25.rdC _).trans rfl, ?_⟩
    refine Br.intro (fun c_39 => ?_) (fun c_39 => ?_)
    · have e := e.trans (cond_t c_39)
      have c_39' := ine_t c_39
      refine Lt.setN (n := 2) o_27 (Nat.le_of_ble_eq_true rfl) rfl (fun H_5 hl_40 o_42 k_41 => ?_)
      have o_42 : Own H_5 b_10 [.slice none 0 0, .slice none 0 0] := o_42
      have l_43 := k_41.1
      have g_44 := g_23.keep (b := b_10) ω2 k_41
      have l_45 := g_44.1
      have o_46 := o_25.keep ω2 k_41
      have w_47 := o_46.lt
      have w_48 := o_42.lt
      refine ⟨none, 0, 0, none, 0, 0, (o_42.rdN (Nat.le_of_ble_eq_true rfl)).trans rfl, ?_⟩
      rw [e] at hk
      exact hk _ _ _ _ _ _ H_5 g_44 H_5.length ω2 ω2 (fun x hx => by cases hx) ω6 ω6
    · have e := e.trans (cond_f c_39)
      have c_39' := ine_f c_39
      refine ⟨b_Coarse_a, l_b_Coarse.length, b_Coarse_e, (o_25.rdC _).trans rfl, ?_⟩
      refine T_impl_copyOf_i ⟨_, (i_b_Coarse.grow g_23), ω0, fun a_49 n_50 e_51 H_6 g_54 r_52 => ?_⟩
      have z_53 := impl_copyOf_len l_b_Coarse
      have l_55 := g_54.1
      have g_56 := g_23.trans g_54
      have l_57 := g_56.1
      have o_58 := o_25.grow g_54
      have w_59 := o_58.lt
      have o_60 := o_27.grow g_54
      have w_61 := o_60.lt
      obtain rfl := r_52.isL.eqn
      have u_62 := r_52.up
      have u_63 := r_52.lo
      refine Al.intro (fun b_65 H_7 hb_66 hl_67 g_68 o_69 => ?_)
      have l_71 := g_68.1
      have g_72 := g_56.trans g_68
      have l_73 := g_72.1
      have o_74 := o_58.grow g_68
      have w_75 := o_74.lt
      have o_76 := o_60.grow g_68
      have w_77 := o_76.lt
      have r_78 := r_52.grow g_68
      have w_233 := o_69.lt
      refine Lt.setN (n := 2) o_69 (Nat.le_of_ble_eq_true rfl) rfl (fun H_8 hl_79 o_81 k_80 => ?_)
      have o_81 : Own H_8 b_65 [.slice a_49 (((p_impl_copyOf l_b_Coarse)).length) e_51, .slice none 0 0] := o_81
      have l_82 := k_80.1
      have g_83 := g_72.keep (b := b_65) ω2 k_80
      have l_84 := g_83.1
      have o_85 := o_74.keep ω2 k_80
      have w_86 := o_85.lt
      have o_87 := o_76.keep ω2 k_80
      have w_88 := o_87.lt
      have r_89 := r_78.keep u_62 ω2 k_80
      have w_232 := o_81.lt
      refine ⟨b_Details_a, l_b_Details.length, b_Details_e, (o_85.rdC _).trans rfl, ?_⟩
      refine impl_ShrinkBands_L1 _ _ _ _ _ _ _ _ _ (fun (μ : Nat) (t30 : Int) (H_9 : AHeap) => ∃ (t7 : Bool), ∃ (q1_4 : List (List Nat)), ∃ (q1_4_a : Option Addr), ∃ (q1_4_e : Nat), Own H_9 b_1 ([.slice b_Coarse_a l_b_Coarse.length b_Coarse_e, .slice b_Details_a l_b_Details.length b_Details_e]) ∧ Own H_9 b_10 [.slice none 0 0, .slice none 0 0] ∧ OwnLL fF H_9 H_8.length H_9.length q1_4_a q1_4.length q1_4_e q1_4 ∧ Own H_9 b_65 [.slice a_49 (((p_impl_copyOf l_b_Coarse)).length) e_51, .slice q1_4_a q1_4.length q1_4_e] ∧ OwnS fF H_9 H_3.length a_49 (((p_impl_copyOf l_b_Coarse)).length) e_51 (p_impl_copyOf l_b_Coarse) ∧ (b_10 ≠ b_1) ∧ (b_65 ≠ b_1) ∧ (b_65 ≠ b_10) ∧ H_6.length ≤ H_9.length ∧ Grow H H_9 ∧ (0 : Int) ≤ t30 ∧ t30 ≤ (l_b_Details.length : Int) ∧ (q1_4.length : Int) ≤ t30 ∧ (l_b_Details.length : Int) - t30 ≤ (μ : Int) ∧ p_impl_ShrinkBands l_b_Coarse l_b_Details l_limits hard = p_impl_ShrinkBands_l1 l_b_Coarse l_b_Details l_limits hard (μ + 1) t7 t30 q1_4) (Int.toNat ((l_b_Details.length : Int) - (0 : Int))) _ H_8 ?_ ?_
      · exact ⟨_, _, _, _, o_85, (by first | exact o_87 | (have hbx := o_87; (try simp only [List.length_append, List.length_cons, List.length_nil, Nat.zero_add] at hbx); (try simp only [List.length_append, List.length_cons, List.length_nil, Nat.zero_add]); exact hbx)), (OwnLL.nil _ _ _ _), (by first | exact o_81 | (have hbx := o_81; (try simp only [List.length_append, List.length_cons, List.length_nil, Nat.zero_add] at hbx); (try simp only [List.length_append, List.length_cons, List.length_nil, Nat.zero_add]); exact hbx)), r_89, ω2, ω2, ω2, ω2, g_83, ω3, ω3, ω3, ω2, e⟩
      · intro μ t30  H_9 hI
        obtain ⟨t7, q1_4, q1_4_a, q1_4_e, o_90, o_91, r_94, o_92, r_97, n_98, n_99, n_100, n_101, g_102, v_103, v_104, v_105, hμ, e⟩ := hI
        rw [impl_ShrinkBands_r1]
        have e := e.trans (p_impl_ShrinkBands_l1_s l_b_Coarse l_b_Details l_limits hard μ t7 t30 q1_4)
        have u_95 := r_94.up
        have u_96 := r_94.lo
        have w_106 := o_90.lt
        have w_107 := o_91.lt
        have w_108 := o_92.lt
        have l_109 := g_102.1
        refine Br.intro (fun c_110 => ?_) (fun c_110 => ?_)
        · have e := e.trans (cond_t c_110)
          have c_110' := of_decide_eq_true c_110
          obtain ⟨b_111, f_112, q_113⟩ := ((i_b_Details.grow g_102)).pos ω0
          refine ⟨by omega, by omega, b_111, f_112, q_113, ?_⟩
          obtain ⟨a_114, n_115, e_116, r_117, i_118⟩ := (i_b_Details).rd (i := (t30 : Int).toNat) g_102 q_113 ω2
          obtain rfl := i_118.eqn
          refine ⟨a_114, _, e_116, r_117, ?_⟩
          have z_119 := getD_len bb_l_b_Details (t30 : Int).toNat
          obtain ⟨b_120, f_121, q_122⟩ := ((i_limits.grow g_102)).pos ω0
          refine ⟨by omega, by omega, b_120, f_121, q_122, ?_⟩
          refine ⟨((l_limits).getD (t30 : Int).toNat 0), (i_limits).rd g_102 q_122 ω2 _, ?_⟩
          refine T_impl_isLeast_i ?_
          refine Br.intro (fun c_123 => ?_) (fun c_123 => ?_)
          · have e := e.trans (cond_t c_123)
            have c_123n := nf_of_t c_123
            refine Lt.setN (n := 2) o_91 (Nat.le_of_ble_eq_true rfl) rfl (fun H_10 hl_124 o_126 k_125 => ?_)
            have o_126 : Own H_10 b_10 [.slice none 0 0, .slice none 0 0] := o_126
            have l_127 := k_125.1
            have g_128 := g_102.keep (b := b_10) ω2 k_125
            have l_129 := g_128.1
            have o_130 := o_90.keep ω2 k_125
            have w_131 := o_130.lt
            have o_132 := o_92.keep ω2 k_125
            have w_133 := o_132.lt
            have r_134 := r_94.keep ω2 k_125
            have r_135 := r_97.keep u_62 ω2 k_125
            have w_136 := o_126.lt
            rw [impl_ShrinkBands_x1_ret]
            refine ⟨none, 0, 0, none, 0, 0, (o_126.rdN (Nat.le_of_ble_eq_true rfl)).trans rfl, ?_⟩
            rw [e] at hk
            exact hk _ _ _ _ _ _ H_10 g_128 H_10.length ω2 ω2 (fun x hx => by cases hx) ω6 ω6
          · have e := e.trans (cond_f c_123)
            have c_123n := nt_of_f c_123
            refine ⟨q1_4_a, q1_4.length, q1_4_e, (o_92.rdC _).trans rfl, ?_⟩
            obtain ⟨b_137, f_138, q_139⟩ := ((i_limits.grow g_102)).pos ω0
            refine ⟨by omega, by omega, b_137, f_138, q_139, ?_⟩
            refine ⟨((l_limits).getD (t30 : Int).toNat 0), (i_limits).rd g_102 q_139 ω2 _, ?_⟩
            refine T_impl_shrunkList_i ⟨_, (i_118.grow g_102), ω0, fun a_140 n_141 e_142 H_11 g_145 r_143 => ?_⟩
            have z_144 := impl_shrunkList_len (((l_b_Details).getD (t30 : Int).toNat [])) (((l_limits).getD (t30 : Int).toNat 0)) hard
            have l_146 := g_145.1
            have g_147 := g_102.trans g_145
            have l_148 := g_147.1
            have o_149 := o_90.grow g_145
            have w_150 := o_149.lt
            have o_151 := o_91.grow g_145
            have w_152 := o_151.lt
            have o_153 := o_92.grow g_145
            have w_154 := o_153.lt
            have r_155 := r_94.grow g_145
            have r_156 := r_97.grow g_145
            obtain rfl := r_143.isL.eqn
            have u_157 := r_143.up
            have u_158 := r_143.lo
            refine Al.intro (fun b_160 H_12 hb_161 hl_162 g_163 o_164 => ?_)
            have l_166 := g_163.1
            have g_167 := g_147.trans g_163
            have l_168 := g_167.1
            have o_169 := o_149.grow g_163
            have w_170 := o_169.lt
            have o_171 := o_151.grow g_163
            have w_172 := o_171.lt
            have o_173 := o_153.grow g_163
            have w_174 := o_173.lt
            have r_175 := r_155.grow g_163
            have r_176 := r_156.grow g_163
            have r_177 := r_143.grow g_163
            have w_218 := o_164.lt
            obtain ⟨v_181, q_182, q_183, q_184⟩ := r_175.ownB
            refine ⟨v_181, _, q_182, o_164.rdAll rfl, (fun _ => by decide), ω12, ?_⟩
            refine Ap.appLL r_175 ω2 r_177 ω2 ω2 (fun x hx => by have := u_157 x hx; have := u_158 x hx; omega) q_182 rfl (fun b_187 H_13 q_185 hl_178 o_179 k_180 => ?_)
            have l_188 := k_180.1
            have g_189 := g_167.keepA (fun x hx => by have := u_96 x hx; omega) k_180
            have l_190 := g_189.1
            have o_191 := o_169.keepA (fun x hx => by have := u_96 x hx; have := u_95 x hx; omega) k_180
            have w_192 := o_191.lt
            have o_193 := o_171.keepA (fun x hx => by have := u_96 x hx; have := u_95 x hx; omega) k_180
            have w_194 := o_193.lt
            have o_195 := o_173.keepA (fun x hx => by have := u_96 x hx; have := u_95 x hx; omega) k_180
            have w_196 := o_195.lt
            have o_197 := o_164.keepA (fun x hx => by have := u_96 x hx; have := u_95 x hx; omega) k_180
            have w_198 := o_197.lt
            have r_199 := r_176.keepA (fun x y hx hy => by have := u_96 x hx; have := u_95 x hx; have := u_63 y hy; have := u_62 y hy; omega) k_180
            have w_216 := o_179.lt
            have v_217 := o_179.rng
            refine Lt.set o_195 (Nat.le_of_ble_eq_true rfl) (fun H_14 hl_200 o_202 k_201 => ?_)
            have o_202 : Own H_14 b_65 [.slice a_49 (((p_impl_copyOf l_b_Coarse)).length) e_51, .slice (some ⟨b_187, 0, none⟩) (q1_4.length + 1) 1] := o_202
            have l_203 := k_201.1
            have g_204 := g_189.keep (b := b_65) ω2 k_201
            have l_205 := g_204.1
            have o_206 := o_191.keep ω2 k_201
            have w_207 := o_206.lt
            have o_208 := o_193.keep ω2 k_201
            have w_209 := o_208.lt
            have o_210 := o_197.keep ω2 k_201
            have w_211 := o_210.lt
            have o_212 := o_179.keep ω2 k_201
            have w_213 := o_212.lt
            have r_214 := r_199.keep u_62 ω2 k_201
            have w_215 := o_202.lt
            rw [show IntKind.wrap .i64 (t30 + 1) = (t30 + 1) from wrap64 ω2 ω2]
            refine impl_ShrinkBands_n1 (μ - 1) ω8 ⟨_, _, _, _, o_206, (by first | exact o_208 | (have hbx := o_208; (try simp only [List.length_append, List.length_cons, List.length_nil, Nat.zero_add] at hbx); (try simp only [List.length_append, List.length_cons, List.length_nil, Nat.zero_add]); exact hbx)), ((o_212.ownLL rfl).weak ω2 ω2 (Nat.le_refl _)), (by first | exact o_202 | (have hbx := o_202; (try simp only [List.length_append, List.length_cons, List.length_nil, Nat.zero_add] at hbx); (try simp only [List.length_append, List.length_cons, List.length_nil, Nat.zero_add]); exact hbx)), r_214, ω2, ω2, ω2, ω2, g_204, ω1, ω1, ω1, ω8, (by rw [show μ - 1 + 1 = μ from by first | omega]; exact e)⟩
        · have e := e.trans (cond_f c_110)
          have c_110' := of_decide_eq_false c_110
          rw [impl_ShrinkBands_x1_0]
          refine ⟨a_49, ((p_impl_copyOf l_b_Coarse)).length, e_51, q1_4_a, q1_4.length, q1_4_e, (o_92.rdN (Nat.le_of_ble_eq_true rfl)).trans rfl, ?_⟩
          refine Lt.setN (n := 2) o_91 (Nat.le_of_ble_eq_true rfl) rfl (fun H_15 hl_219 o_221 k_220 => ?_)
          have o_221 : Own H_15 b_10 [.slice a_49 (((p_impl_copyOf l_b_Coarse)).length) e_51, .slice q1_4_a q1_4.length q1_4_e] := o_221
          have l_222 := k_220.1
          have g_223 := g_102.keep (b := b_10) ω2 k_220
          have l_224 := g_223.1
          have o_225 := o_90.keep ω2 k_220
          have w_226 := o_225.lt
          have o_227 := o_92.keep ω2 k_220
          have w_228 := o_227.lt
          have r_229 := r_94.keep ω2 k_220
          have r_230 := r_97.keep u_62 ω2 k_220
          have w_231 := o_221.lt
          refine ⟨a_49, ((p_impl_copyOf l_b_Coarse)).length, e_51, q1_4_a, q1_4.length, q1_4_e, (o_221.rdN (Nat.le_of_ble_eq_true rfl)).trans rfl, ?_⟩
          rw [e] at hk
          exact hk _ _ _ _ _ _ H_15 g_223 H_8.length ω2 ω2 (fun x hx => by have := u_62 x hx; omega) (r_230.weak ω2) (r_229.weak ω2 ω2 (Nat.le_refl _))
theorem impl_ShrinkBands_ok : FnOk Try.prog 34 S_impl_ShrinkBands := by
  refine FnOk.body mix_ok E_impl_ShrinkBands_ok Try.func34 rfl (by kernel_rfl) (by kernel_rfl) ?_ ?_ ?_ ?_ ?_
  · intro args H K K' h hk
    simp only [S_impl_ShrinkBands] at *
    unfold F_impl_ShrinkBands at *
    split at hk
    · obtain ⟨l_b_Coarse, l_b_Details, l_limits, i_b_Coarse, i_b_Details, i_limits, bd_236, bd_237, bd_238, bb_l_b_Details, k⟩ := hk
      exact ⟨l_b_Coarse, l_b_Details, l_limits, i_b_Coarse, i_b_Details, i_limits, bd_236, bd_237, bd_238, bb_l_b_Details, (fun r1_Coarse_a r1_Coarse_n r1_Coarse_e r1_Details_a r1_Details_n r1_Details_e H' gg lo2 el2 eh2 sp2 ow0 ow1 => h _ _ (k r1_Coarse_a r1_Coarse_n r1_Coarse_e r1_Details_a r1_Details_n r1_Details_e H' gg lo2 el2 eh2 sp2 ow0 ow1))⟩
    · exact hk.elim
  · intro hq; cases hq
  · intro args H K hk
    simp only [S_impl_ShrinkBands] at *
    unfold F_impl_ShrinkBands at *
    split at hk
    · obtain ⟨l_b_Coarse, l_b_Details, l_limits, i_b_Coarse, i_b_Details, i_limits, bd_236, bd_237, bd_238, bb_l_b_Details, k⟩ := hk
      exact liveSLx fun a n e a2 n2 e2 H1 g lo2 el2 eh2 sp2 o o2 => ⟨_, _, k a n e a2 n2 e2 H1 g lo2 el2 eh2 sp2 o o2⟩
    · exact hk.elim
  · intro _ args H K hk
    simp only [S_impl_ShrinkBands] at *
    unfold F_impl_ShrinkBands at *
    split at hk
    · obtain ⟨l_b_Coarse, l_b_Details, l_limits, i_b_Coarse, i_b_Details, i_limits, bd_236, bd_237, bd_238, bb_l_b_Details, k⟩ := hk
      exact ⟨l_b_Coarse, l_b_Details, l_limits, i_b_Coarse, i_b_Details, i_limits, bd_236, bd_237, bd_238, bb_l_b_Details, (fun r1_Coarse_a r1_Coarse_n r1_Coarse_e r1_Details_a r1_Details_n r1_Details_e H' gg lo2 el2 eh2 sp2 ow0 ow1 => ⟨gg, k r1_Coarse_a r1_Coarse_n r1_Coarse_e r1_Details_a r1_Details_n r1_Details_e H' gg lo2 el2 eh2 sp2 ow0 ow1⟩)⟩
    · exact hk.elim
  · have mm := @impl_ShrinkBands_main
    have ml := fun (args : List Value) (H : AHeap) (K : Value → AHeap → Prop) => bodyL_body (P := Try.prog) (env := E_impl_ShrinkBands ) (fn := Try.f34) (args := args) (H := H) (K := K) E_impl_ShrinkBands_ok 
    revert mm ml
    generalize bodyK Try.prog E_impl_ShrinkBands Try.f34 = Q
    generalize bodyL Try.prog E_impl_ShrinkBands Try.f34 = QL
    intro mm ml args H K hk
    simp only [S_impl_ShrinkBands] at *
    unfold F_impl_ShrinkBands at *
    split at hk
    · exact ml _ H K (mm _ _ _ _ _ _ _ _ _ _ H K hk)
    · exact hk.elim
def p_laws_sameFloat (a : Nat) (b : Nat) : Bool := ((bif !(feq .f64 a a) then (bif !(feq .f64 a a) then !(feq .f64 b b) else false) else (bif !(feq .f64 b b) then (bif !(feq .f64 a a) then !(feq .f64 b b) else false) else (bif feq .f64 a 0 then (bif feq .f64 b 0 then (flt .f64 0 (fdiv .f64 4607182418800017408 a)) == (flt .f64 0 (fdiv .f64 4607182418800017408 b)) else feq .f64 a b) else feq .f64 a b))))
def p_laws_sameFloat_eq := @p_laws_sameFloat.eq_1
def T_laws_sameFloat (a : Nat) (b : Nat) (H : AHeap) (K : Bool → AHeap → Prop) : Prop := K (p_laws_sameFloat a b) H

theorem T_laws_sameFloat_i {a : Nat} {b : Nat} {H : AHeap} {K : Bool → AHeap → Prop} (h : K (p_laws_sameFloat a b) H) : T_laws_sameFloat a b H K := h
/-! laws_sameFloat: function 31 -/
def E_laws_sameFloat : Env := envOf []
def F_laws_sameFloat : List Value → AHeap → (Value → AHeap → Prop) → Prop
  | [.float .f64 a, .float .f64 b], H, K => T_laws_sameFloat a b H fun (r1 : Bool) (H' : AHeap) => K (.bool r1) H'
  | _, _, _ => False
def S_laws_sameFloat : FSpec := { F := F_laws_sameFloat, quiet := true, tame := false }
theorem laws_sameFloat_vc (a : Nat) (b : Nat) (H : AHeap) (K : Value → AHeap → Prop) : bodyL Try.prog E_laws_sameFloat Try.f31 [.float .f64 a, .float .f64 b] H K =
  (Br (!(feq .f64 a a)) (Br (!(feq .f64 a a)) (K (.bool (!(feq .f64 b b))) H) (K (.bool false) H)) (Br (!(feq .f64 b b)) (Br (!(feq .f64 a a)) (K (.bool (!(feq .f64 b b))) H) (K (.bool false) H)) (Br (feq .f64 a 0) (Br (feq .f64 b 0) (K (.bool ((flt .f64 0 (fdiv .f64 4607182418800017408 a)) == (flt .f64 0 (fdiv .f64 4607182418800017408 b)))) H) (K (.bool (feq .f64 a b)) H)) (K (.bool (feq .f64 a b)) H)))) := by kernel_rfl
theorem E_laws_sameFloat_ok : ∀ g, FnOk Try.prog g (E_laws_sameFloat g) := FnOk.envOf (by
  intro x hx; cases hx)
set_option maxHeartbeats 1000000 in
theorem laws_sameFloat_main (a : Nat) (b : Nat) (H : AHeap) (K : Value → AHeap → Prop) (h : T_laws_sameFloat a b H fun (r1 : Bool) (H' : AHeap) => K (.bool r1) H') : bodyL Try.prog E_laws_sameFloat Try.f31 [.float .f64 a, .float .f64 b] H K := by
  rw [laws_sameFloat_vc]
  unfold T_laws_sameFloat p_laws_sameFloat at h
  repeat' (first | exact h | (exfalso; simp_all; done) | (refine ⟨by decide, ?_⟩) | (refine Br.intro (fun hb => ?_) (fun hb => ?_) <;> (try simp only [hb, cond_true, cond_false, Bool.not_true, Bool.not_false] at h)))
theorem laws_sameFloat_ok : FnOk Try.prog 31 S_laws_sameFloat := by
  refine FnOk.body mix_ok E_laws_sameFloat_ok Try.func31 rfl (by kernel_rfl) (by kernel_rfl) ?_ ?_ ?_ ?_ ?_
  · intro args H K K' h hk
    simp only [S_laws_sameFloat] at *
    unfold F_laws_sameFloat at *
    split at hk
    · have k := hk
      exact h _ _ k
    · exact hk.elim
  · intro _ args H K hk
    simp only [S_laws_sameFloat] at *
    unfold F_laws_sameFloat at *
    split at hk
    · have k := hk
      exact ⟨_, k, fun K' k' => k'⟩
    · exact hk.elim
  · intro args H K hk
    simp only [S_laws_sameFloat] at *
    unfold F_laws_sameFloat at *
    split at hk
    · have k := hk
      exact ⟨_, _, k⟩
    · exact hk.elim
  · intro hq; cases hq
  · have mm := @laws_sameFloat_main
    have ml := fun (args : List Value) (H : AHeap) (K : Value → AHeap → Prop) => bodyL_body (P := Try.prog) (env := E_laws_sameFloat ) (fn := Try.f31) (args := args) (H := H) (K := K) E_laws_sameFloat_ok 
    revert mm ml
    generalize bodyK Try.prog E_laws_sameFloat Try.f31 = Q
    generalize bodyL Try.prog E_laws_sameFloat Try.f31 = QL
    intro mm ml args H K hk
    simp only [S_laws_sameFloat] at *
    unfold F_laws_sameFloat at *
    split at hk
    · exact ml _ H K (mm _ _ H K hk)
    · exact hk.elim

def p_laws_eqFloat32S_l1 (l_a : List Nat) (l_b : List Nat) : Nat → Bool → Int → Bool
  | 0, _, _ => false
  | μ + 1, t4, i => (bif decide ((i : Int) < (l_a.length : Int)) then (bif !((p_laws_sameFloat (fwide (((l_a).getD (i : Int).toNat 0))) (fwide (((l_b).getD (i : Int).toNat 0))))) then false else (p_laws_eqFloat32S_l1 l_a l_b μ t4 (i + 1))) else true)
def p_laws_eqFloat32S_l1_s := fun l_a l_b μ t4 i => @p_laws_eqFloat32S_l1.eq_2 l_a l_b t4 i μ
def p_laws_eqFloat32S (l_a : List Nat) (l_b : List Nat) : Bool := ((bif ((l_a.length : Int) : Int) != (l_b.length : Int) then false else (p_laws_eqFloat32S_l1 l_a l_b (Int.toNat ((l_a.length : Int) - (0 : Int)) + 1) false (0 : Int))))
def p_laws_eqFloat32S_eq := @p_laws_eqFloat32S.eq_1
def T_laws_eqFloat32S (a_a : Option Addr) (a_n : Nat) (a_e : Nat) (b_a : Option Addr) (b_n : Nat) (b_e : Nat) (H : AHeap) (K : Bool → AHeap → Prop) : Prop := ∃ (l_a : List Nat), ∃ (l_b : List Nat), IsL fF H a_a a_n l_a ∧ IsL fF H b_a b_n l_b ∧ l_a.length < 1073741824 ∧ l_b.length < 1073741824 ∧ K (p_laws_eqFloat32S l_a l_b) H
theorem T_laws_eqFloat32S_i {a_a : Option Addr} {a_n : Nat} {a_e : Nat} {b_a : Option Addr} {b_n : Nat} {b_e : Nat} {H : AHeap} {K : Bool → AHeap → Prop} (h : ∃ (l_a : List Nat), ∃ (l_b : List Nat), IsL fF H a_a a_n l_a ∧ IsL fF H b_a b_n l_b ∧ l_a.length < 1073741824 ∧ l_b.length < 1073741824 ∧ K (p_laws_eqFloat32S l_a l_b) H) : T_laws_eqFloat32S a_a a_n a_e b_a b_n b_e H K := h
theorem laws_sameFloat_self (y : Nat) : p_laws_sameFloat y y = true := by
  rw [p_laws_sameFloat_eq]
  cases feq .f64 y y <;> simp
theorem laws_eqFloat32S_go (l : List Nat) : ∀ (μ : Nat) (t : Bool) (i : Nat), l.length - i < μ → p_laws_eqFloat32S_l1 l l μ t (i : Int) = true := by
  intro μ
  induction μ with
  | zero => intro t i h; omega
  | succ μ ih =>
    intro t i hm
    rw [p_laws_eqFloat32S_l1_s]
    by_cases h : i < l.length
    · rw [decide_eq_true (show (i : Int) < (l.length : Int) by omega), cond_true, laws_sameFloat_self]
      simp only [Bool.not_true, cond_false]
      exact ih t (i + 1) ω2
    · rw [decide_eq_false (show ¬ (i : Int) < (l.length : Int) by omega), cond_false]
theorem laws_eqFloat32S_self (l : List Nat) : p_laws_eqFloat32S l l = true := by
  rw [p_laws_eqFloat32S_eq]
  have h0 : ((l.length : Int) != (l.length : Int)) = false := by simp
  rw [h0, cond_false]
  exact laws_eqFloat32S_go l _ false 0 ω2
/-! laws_eqFloat32S: function 24 -/
def E_laws_eqFloat32S : Env := envOf [(31, S_laws_sameFloat)]
def F_laws_eqFloat32S : List Value → AHeap → (Value → AHeap → Prop) → Prop
  | [.slice a_a a_n a_e, .slice b_a b_n b_e], H, K => T_laws_eqFloat32S a_a a_n a_e b_a b_n b_e H fun (r1 : Bool) (H' : AHeap) => K (.bool r1) H'
  | _, _, _ => False
def S_laws_eqFloat32S : FSpec := { F := F_laws_eqFloat32S, quiet := true, tame := false }
theorem laws_eqFloat32S_vc (a_a : Option Addr) (a_n : Nat) (a_e : Nat) (b_a : Option Addr) (b_n : Nat) (b_e : Nat) (H : AHeap) (K : Value → AHeap → Prop) : bodyL Try.prog E_laws_eqFloat32S Try.f24 [.slice a_a a_n a_e, .slice b_a b_n b_e] H K =
  (Br (((a_n : Int) : Int) != (b_n : Int)) (K (.bool false) H) (loopK (exL Try.prog E_laws_eqFloat32S (cl (cl (cr (cl (cr (cr (bodyC Try.f24))))))) 35 16 [(0, 0)]) [.slice a_a a_n a_e, .slice b_a b_n b_e, ud, ud, ud, .int .i64 0, ud, ud, ud, ud, ud, ud, ud, ud, ud, ud, ud, ud, ud, ud, ud, ud, ud, ud, ud, ud, ud, ud, ud] H (blockQ 0 (seqQ (exL Try.prog E_laws_eqFloat32S (cr (cr (cr (bodyC Try.f24)))) 16 16 []) (retK Try.prog Try.f24 K))))) := by kernel_rfl
abbrev laws_eqFloat32S_P1 (a_a : Option Addr) (a_e : Nat) (a_n : Nat) (b_a : Option Addr) (b_e : Nat) (b_n : Nat) (i : Int)  : List Value := [.slice a_a a_n a_e, .slice b_a b_n b_e, ud, ud, ud, .int .i64 i, ud, ud, ud, ud, ud, ud, ud, ud, ud, ud, ud, ud, ud, ud, ud, ud, ud, ud, ud, ud, ud, ud, ud]
theorem laws_eqFloat32S_r1 (a_a : Option Addr) (a_e : Nat) (a_n : Nat) (b_a : Option Addr) (b_e : Nat) (b_n : Nat) (i : Int)  (H : AHeap) (R : Post) : exL Try.prog E_laws_eqFloat32S (cl (cl (cr (cl (cr (cr (bodyC Try.f24))))))) 35 16 [(0, 0)] (laws_eqFloat32S_P1 a_a a_e a_n b_a b_e b_n i) H R =
  (Br (decide ((i : Int) < (a_n : Int))) ((0 : Int) ≤ i ∧ i < (a_n : Int) ∧ ∃ b1 f1, (a_a : Option Addr) = some ⟨b1, f1, none⟩ ∧ ∃ x1 : Nat,  rdC H b1 (f1 + (i : Int).toNat * 1) = some (.float .f32 x1) ∧ (0 : Int) ≤ i ∧ i < (b_n : Int) ∧ ∃ b2 f2, (b_a : Option Addr) = some ⟨b2, f2, none⟩ ∧ ∃ x2 : Nat,  rdC H b2 (f2 + (i : Int).toNat * 1) = some (.float .f32 x2) ∧ T_laws_sameFloat (fwide x1) (fwide x2) H fun (r1 : Bool) (H1 : AHeap) => Br (!r1) (R .ret [ud, ud, ud, ud, .bool false, ud, ud, ud, ud, ud, ud, ud, ud, ud, ud, ud, ud, ud, ud, ud, ud, ud, ud, ud, ud, ud, ud, ud, ud] H1) (R .normal [.slice a_a a_n a_e, .slice b_a b_n b_e, ud, ud, ud, .int .i64 (IntKind.wrap .i64 (i + 1)), ud, ud, ud, ud, ud, ud, ud, ud, ud, ud, ud, ud, ud, ud, ud, ud, ud, ud, ud, ud, ud, ud, ud] H1)) (R (.exit 0) [ud, ud, ud, ud, ud, ud, ud, ud, ud, ud, ud, ud, ud, ud, ud, ud, ud, ud, ud, ud, ud, ud, ud, ud, ud, ud, ud, ud, ud] H)) := by kernel_rfl
def laws_eqFloat32S_I1 (a_a : Option Addr) (a_e : Nat) (a_n : Nat) (b_a : Option Addr) (b_e : Nat) (b_n : Nat) (Inv : Nat → Int → AHeap → Prop) : Nat → List Value → AHeap → Prop := fun μ tm H => ∃ (i : Int), tm = (laws_eqFloat32S_P1 a_a a_e a_n b_a b_e b_n i) ∧ Inv μ i H
theorem laws_eqFloat32S_L1 (a_a : Option Addr) (a_e : Nat) (a_n : Nat) (b_a : Option Addr) (b_e : Nat) (b_n : Nat) {Q : Post} (Inv : Nat → Int → AHeap → Prop) (ν : Nat) (i : Int)  (H : AHeap) (h0 : Inv ν i H)
    (hs : ∀ (μ : Nat) (i : Int)  (H : AHeap), Inv μ i H → exL Try.prog E_laws_eqFloat32S (cl (cl (cr (cl (cr (cr (bodyC Try.f24))))))) 35 16 [(0, 0)] (laws_eqFloat32S_P1 a_a a_e a_n b_a b_e b_n i) H (loopQ (laws_eqFloat32S_I1 a_a a_e a_n b_a b_e b_n Inv) μ Q)) : loopK (exL Try.prog E_laws_eqFloat32S (cl (cl (cr (cl (cr (cr (bodyC Try.f24))))))) 35 16 [(0, 0)]) (laws_eqFloat32S_P1 a_a a_e a_n b_a b_e b_n i) H Q :=
  ⟨laws_eqFloat32S_I1 a_a a_e a_n b_a b_e b_n Inv, ν, ⟨i, rfl, h0⟩, fun μ tm H h => by obtain ⟨i, rfl, hI⟩ := h; exact hs μ i  H hI⟩
theorem laws_eqFloat32S_n1 {a_a : Option Addr} {a_e : Nat} {a_n : Nat} {b_a : Option Addr} {b_e : Nat} {b_n : Nat} {Q : Post} {Inv : Nat → Int → AHeap → Prop} {μ : Nat} (μ' : Nat) {i : Int}  {H : AHeap} (hm : μ' < μ) (hI : Inv μ' i H) : loopQ (laws_eqFloat32S_I1 a_a a_e a_n b_a b_e b_n Inv) μ Q .normal (laws_eqFloat32S_P1 a_a a_e a_n b_a b_e b_n i) H := ⟨μ', hm, i, rfl, hI⟩
theorem laws_eqFloat32S_x1_0  (H : AHeap) (K : Value → AHeap → Prop)  {I : Nat → List Value → AHeap → Prop} {μ : Nat} : loopQ I μ (blockQ 0 (seqQ (exL Try.prog E_laws_eqFloat32S (cr (cr (cr (bodyC Try.f24)))) 16 16 []) (retK Try.prog Try.f24 K))) (.exit 0) [ud, ud, ud, ud, ud, ud, ud, ud, ud, ud, ud, ud, ud, ud, ud, ud, ud, ud, ud, ud, ud, ud, ud, ud, ud, ud, ud, ud, ud] H =
  (K (.bool true) H) := by kernel_rfl
theorem laws_eqFloat32S_x1_ret (t4 : Bool) (H : AHeap) (K : Value → AHeap → Prop)  {I : Nat → List Value → AHeap → Prop} {μ : Nat} : loopQ I μ (blockQ 0 (seqQ (exL Try.prog E_laws_eqFloat32S (cr (cr (cr (bodyC Try.f24)))) 16 16 []) (retK Try.prog Try.f24 K))) .ret [ud, ud, ud, ud, .bool t4, ud, ud, ud, ud, ud, ud, ud, ud, ud, ud, ud, ud, ud, ud, ud, ud, ud, ud, ud, ud, ud, ud, ud, ud] H =
  (K (.bool t4) H) := by kernel_rfl
theorem E_laws_eqFloat32S_ok : ∀ g, FnOk Try.prog g (E_laws_eqFloat32S g) := FnOk.envOf (by
  intro x hx
  simp only [List.mem_cons, List.not_mem_nil, or_false] at hx
  subst hx; exact laws_sameFloat_ok)
set_option maxHeartbeats 1000000 in
theorem laws_eqFloat32S_main (a_a : Option Addr) (a_n : Nat) (a_e : Nat) (b_a : Option Addr) (b_n : Nat) (b_e : Nat) (H : AHeap) (K : Value → AHeap → Prop) (h : T_laws_eqFloat32S a_a a_n a_e b_a b_n b_e H fun (r1 : Bool) (H' : AHeap) => K (.bool r1) H') : bodyL Try.prog E_laws_eqFloat32S Try.f24 [.slice a_a a_n a_e, .slice b_a b_n b_e] H K := by
  rw [laws_eqFloat32S_vc]
  obtain ⟨l_a, l_b, i_a, i_b, bd_13, bd_14, hk⟩ := h
  obtain rfl := i_a.eqn
  obtain rfl := i_b.eqn
  have e : (p_laws_eqFloat32S l_a l_b) = _ := rfl
  have e := e.trans (p_laws_eqFloat32S_eq l_a l_b)
  have g0 := Grow.refl H
  refine Br.intro (fun c_1 => ?_) (fun c_1 => ?_)
  · have e := e.trans (cond_t c_1)
    have c_1' := ine_t c_1
    rw [e] at hk
    exact hk
  · have e := e.trans (cond_f c_1)
    have c_1' := ine_f c_1
    refine laws_eqFloat32S_L1 _ _ _ _ _ _ (fun (μ : Nat) (i : Int) (H_1 : AHeap) => ∃ (t4 : Bool), H = H_1 ∧ (0 : Int) ≤ i ∧ i ≤ (l_a.length : Int) ∧ (l_a.length : Int) - i ≤ (μ : Int) ∧ p_laws_eqFloat32S l_a l_b = p_laws_eqFloat32S_l1 l_a l_b (μ + 1) t4 i) (Int.toNat ((l_a.length : Int) - (0 : Int))) _ H ?_ ?_
    · exact ⟨_, rfl, ω3, ω3, ω2, e⟩
    · intro μ i  H_1 hI
      obtain ⟨t4, rfl, v_2, v_3, hμ, e⟩ := hI
      rw [laws_eqFloat32S_r1]
      have e := e.trans (p_laws_eqFloat32S_l1_s l_a l_b μ t4 i)
      have l_4 := g0.1
      refine Br.intro (fun c_5 => ?_) (fun c_5 => ?_)
      · have e := e.trans (cond_t c_5)
        have c_5' := of_decide_eq_true c_5
        obtain ⟨b_6, f_7, q_8⟩ := ((i_a.grow g0)).pos ω0
        refine ⟨by omega, by omega, b_6, f_7, q_8, ?_⟩
        refine ⟨((l_a).getD (i : Int).toNat 0), (i_a).rd g0 q_8 ω2 _, ?_⟩
        obtain ⟨b_9, f_10, q_11⟩ := ((i_b.grow g0)).pos ω0
        refine ⟨by omega, by omega, b_9, f_10, q_11, ?_⟩
        refine ⟨((l_b).getD (i : Int).toNat 0), (i_b).rd g0 q_11 ω2 _, ?_⟩
        refine T_laws_sameFloat_i ?_
        refine Br.intro (fun c_12 => ?_) (fun c_12 => ?_)
        · have e := e.trans (cond_t c_12)
          have c_12n := nf_of_t c_12
          rw [laws_eqFloat32S_x1_ret]
          rw [e] at hk
          exact hk
        · have e := e.trans (cond_f c_12)
          have c_12n := nt_of_f c_12
          rw [show IntKind.wrap .i64 (i + 1) = (i + 1) from wrap64 ω2 ω2]
          refine laws_eqFloat32S_n1 (μ - 1) ω8 ⟨_, rfl, ω1, ω1, ω8, (by rw [show μ - 1 + 1 = μ from by first | omega]; exact e)⟩
      · have e := e.trans (cond_f c_5)
        have c_5' := of_decide_eq_false c_5
        rw [laws_eqFloat32S_x1_0]
        rw [e] at hk
        exact hk
theorem laws_eqFloat32S_ok : FnOk Try.prog 24 S_laws_eqFloat32S := by
  refine FnOk.body mix_ok E_laws_eqFloat32S_ok Try.func24 rfl (by kernel_rfl) (by kernel_rfl) ?_ ?_ ?_ ?_ ?_
  · intro args H K K' h hk
    simp only [S_laws_eqFloat32S] at *
    unfold F_laws_eqFloat32S at *
    split at hk
    · obtain ⟨l_a, l_b, i_a, i_b, bd_13, bd_14, k⟩ := hk
      exact ⟨l_a, l_b, i_a, i_b, bd_13, bd_14, h _ _ k⟩
    · exact hk.elim
  · intro _ args H K hk
    simp only [S_laws_eqFloat32S] at *
    unfold F_laws_eqFloat32S at *
    split at hk
    · obtain ⟨l_a, l_b, i_a, i_b, bd_13, bd_14, k⟩ := hk
      exact ⟨_, k, fun K' k' => ⟨l_a, l_b, i_a, i_b, bd_13, bd_14, k'⟩⟩
    · exact hk.elim
  · intro args H K hk
    simp only [S_laws_eqFloat32S] at *
    unfold F_laws_eqFloat32S at *
    split at hk
    · obtain ⟨l_a, l_b, i_a, i_b, bd_13, bd_14, k⟩ := hk
      exact ⟨_, _, k⟩
    · exact hk.elim
  · intro hq; cases hq
  · have mm := @laws_eqFloat32S_main
    have ml := fun (args : List Value) (H : AHeap) (K : Value → AHeap → Prop) => bodyL_body (P := Try.prog) (env := E_laws_eqFloat32S ) (fn := Try.f24) (args := args) (H := H) (K := K) E_laws_eqFloat32S_ok 
    revert mm ml
    generalize bodyK Try.prog E_laws_eqFloat32S Try.f24 = Q
    generalize bodyL Try.prog E_laws_eqFloat32S Try.f24 = QL
    intro mm ml args H K hk
    simp only [S_laws_eqFloat32S] at *
    unfold F_laws_eqFloat32S at *
    split at hk
    · exact ml _ H K (mm _ _ _ _ _ _ H K hk)
    · exact hk.elim

def p_laws_eqFloat32SS_l1 (l_a : List (List Nat)) (l_b : List (List Nat)) : Nat → Bool → Int → Bool
  | 0, _, _ => false
  | μ + 1, t4, i => (bif decide ((i : Int) < (l_a.length : Int)) then (bif !((p_laws_eqFloat32S (((l_a).getD (i : Int).toNat [])) (((l_b).getD (i : Int).toNat [])))) then false else (p_laws_eqFloat32SS_l1 l_a l_b μ t4 (i + 1))) else true)
def p_laws_eqFloat32SS_l1_s := fun l_a l_b μ t4 i => @p_laws_eqFloat32SS_l1.eq_2 l_a l_b t4 i μ
def p_laws_eqFloat32SS (l_a : List (List Nat)) (l_b : List (List Nat)) : Bool := ((bif ((l_a.length : Int) : Int) != (l_b.length : Int) then false else (p_laws_eqFloat32SS_l1 l_a l_b (Int.toNat ((l_a.length : Int) - (0 : Int)) + 1) false (0 : Int))))
def p_laws_eqFloat32SS_eq := @p_laws_eqFloat32SS.eq_1
def T_laws_eqFloat32SS (a_a : Option Addr) (a_n : Nat) (a_e : Nat) (b_a : Option Addr) (b_n : Nat) (b_e : Nat) (H : AHeap) (K : Bool → AHeap → Prop) : Prop := ∃ (l_a : List (List Nat)), ∃ (l_b : List (List Nat)), IsLL fF H a_a a_n l_a ∧ IsLL fF H b_a b_n l_b ∧ l_a.length < 1073741824 ∧ l_b.length < 1073741824 ∧ (∀ y ∈ l_a, y.length < 1073741824) ∧ (∀ y ∈ l_b, y.length < 1073741824) ∧ K (p_laws_eqFloat32SS l_a l_b) H
theorem T_laws_eqFloat32SS_i {a_a : Option Addr} {a_n : Nat} {a_e : Nat} {b_a : Option Addr} {b_n : Nat} {b_e : Nat} {H : AHeap} {K : Bool → AHeap → Prop} (h : ∃ (l_a : List (List Nat)), ∃ (l_b : List (List Nat)), IsLL fF H a_a a_n l_a ∧ IsLL fF H b_a b_n l_b ∧ l_a.length < 1073741824 ∧ l_b.length < 1073741824 ∧ (∀ y ∈ l_a, y.length < 1073741824) ∧ (∀ y ∈ l_b, y.length < 1073741824) ∧ K (p_laws_eqFloat32SS l_a l_b) H) : T_laws_eqFloat32SS a_a a_n a_e b_a b_n b_e H K := h
theorem laws_eqFloat32SS_go (l : List (List Nat)) : ∀ (μ : Nat) (t : Bool) (i : Nat), l.length - i < μ → p_laws_eqFloat32SS_l1 l l μ t (i : Int) = true := by
  intro μ
  induction μ with
  | zero => intro t i h; omega
  | succ μ ih =>
    intro t i hm
    rw [p_laws_eqFloat32SS_l1_s]
    by_cases h : i < l.length
    · rw [decide_eq_true (show (i : Int) < (l.length : Int) by omega), cond_true, laws_eqFloat32S_self]
      simp only [Bool.not_true, cond_false]
      exact ih t (i + 1) ω2
    · rw [decide_eq_false (show ¬ (i : Int) < (l.length : Int) by omega), cond_false]
theorem laws_eqFloat32SS_self (l : List (List Nat)) : p_laws_eqFloat32SS l l = true := by
  rw [p_laws_eqFloat32SS_eq]
  have h0 : ((l.length : Int) != (l.length : Int)) = false := by simp
  rw [h0, cond_false]
  exact laws_eqFloat32SS_go l _ false 0 ω2
/-! laws_eqFloat32SS: function 120 -/
def E_laws_eqFloat32SS : Env := envOf [(24, S_laws_eqFloat32S)]
def F_laws_eqFloat32SS : List Value → AHeap → (Value → AHeap → Prop) → Prop
  | [.slice a_a a_n a_e, .slice b_a b_n b_e], H, K => T_laws_eqFloat32SS a_a a_n a_e b_a b_n b_e H fun (r1 : Bool) (H' : AHeap) => K (.bool r1) H'
  | _, _, _ => False
def S_laws_eqFloat32SS : FSpec := { F := F_laws_eqFloat32SS, quiet := true, tame := false }
theorem laws_eqFloat32SS_vc (a_a : Option Addr) (a_n : Nat) (a_e : Nat) (b_a : Option Addr) (b_n : Nat) (b_e : Nat) (H : AHeap) (K : Value → AHeap → Prop) : bodyL Try.prog E_laws_eqFloat32SS Try.f120 [.slice a_a a_n a_e, .slice b_a b_n b_e] H K =
  (Br (((a_n : Int) : Int) != (b_n : Int)) (K (.bool false) H) (loopK (exL Try.prog E_laws_eqFloat32SS (cl (cl (cr (cl (cr (cr (bodyC Try.f120))))))) 35 16 [(0, 0)]) [.slice a_a a_n a_e, .slice b_a b_n b_e, ud, ud, ud, .int .i64 0, ud, ud, ud, ud, ud, ud, ud, ud, ud, ud, ud, ud, ud, ud, ud, ud, ud, ud, ud, ud, ud] H (blockQ 0 (seqQ (exL Try.prog E_laws_eqFloat32SS (cr (cr (cr (bodyC Try.f120)))) 16 16 []) (retK Try.prog Try.f120 K))))) := by kernel_rfl
abbrev laws_eqFloat32SS_P1 (a_a : Option Addr) (a_e : Nat) (a_n : Nat) (b_a : Option Addr) (b_e : Nat) (b_n : Nat) (i : Int)  : List Value := [.slice a_a a_n a_e, .slice b_a b_n b_e, ud, ud, ud, .int .i64 i, ud, ud, ud, ud, ud, ud, ud, ud, ud, ud, ud, ud, ud, ud, ud, ud, ud, ud, ud, ud, ud]
theorem laws_eqFloat32SS_r1 (a_a : Option Addr) (a_e : Nat) (a_n : Nat) (b_a : Option Addr) (b_e : Nat) (b_n : Nat) (i : Int)  (H : AHeap) (R : Post) : exL Try.prog E_laws_eqFloat32SS (cl (cl (cr (cl (cr (cr (bodyC Try.f120))))))) 35 16 [(0, 0)] (laws_eqFloat32SS_P1 a_a a_e a_n b_a b_e b_n i) H R =
  (Br (decide ((i : Int) < (a_n : Int))) ((0 : Int) ≤ i ∧ i < (a_n : Int) ∧ ∃ b1 f1, (a_a : Option Addr) = some ⟨b1, f1, none⟩ ∧ ∃ x1_a : Option Addr, ∃ x1_n : Nat, ∃ x1_e : Nat,  rdC H b1 (f1 + (i : Int).toNat * 1) = some (.slice x1_a x1_n x1_e) ∧ (0 : Int) ≤ i ∧ i < (b_n : Int) ∧ ∃ b2 f2, (b_a : Option Addr) = some ⟨b2, f2, none⟩ ∧ ∃ x2_a : Option Addr, ∃ x2_n : Nat, ∃ x2_e : Nat,  rdC H b2 (f2 + (i : Int).toNat * 1) = some (.slice x2_a x2_n x2_e) ∧ T_laws_eqFloat32S x1_a x1_n x1_e x2_a x2_n x2_e H fun (r1 : Bool) (H1 : AHeap) => Br (!r1) (R .ret [ud, ud, ud, ud, .bool false, ud, ud, ud, ud, ud, ud, ud, ud, ud, ud, ud, ud, ud, ud, ud, ud, ud, ud, ud, ud, ud, ud] H1) (R .normal [.slice a_a a_n a_e, .slice b_a b_n b_e, ud, ud, ud, .int .i64 (IntKind.wrap .i64 (i + 1)), ud, ud, ud, ud, ud, ud, ud, ud, ud, ud, ud, ud, ud, ud, ud, ud, ud, ud, ud, ud, ud] H1)) (R (.exit 0) [ud, ud, ud, ud, ud, ud, ud, ud, ud, ud, ud, ud, ud, ud, ud, ud, ud, ud, ud, ud, ud, ud, ud, ud, ud, ud, ud] H)) := by kernel_rfl
def laws_eqFloat32SS_I1 (a_a : Option Addr) (a_e : Nat) (a_n : Nat) (b_a : Option Addr) (b_e : Nat) (b_n : Nat) (Inv : Nat → Int → AHeap → Prop) : Nat → List Value → AHeap → Prop := fun μ tm H => ∃ (i : Int), tm = (laws_eqFloat32SS_P1 a_a a_e a_n b_a b_e b_n i) ∧ Inv μ i H
theorem laws_eqFloat32SS_L1 (a_a : Option Addr) (a_e : Nat) (a_n : Nat) (b_a : Option Addr) (b_e : Nat) (b_n : Nat) {Q : Post} (Inv : Nat → Int → AHeap → Prop) (ν : Nat) (i : Int)  (H : AHeap) (h0 : Inv ν i H)
    (hs : ∀ (μ : Nat) (i : Int)  (H : AHeap), Inv μ i H → exL Try.prog E_laws_eqFloat32SS (cl (cl (cr (cl (cr (cr (bodyC Try.f120))))))) 35 16 [(0, 0)] (laws_eqFloat32SS_P1 a_a a_e a_n b_a b_e b_n i) H (loopQ (laws_eqFloat32SS_I1 a_a a_e a_n b_a b_e b_n Inv) μ Q)) : loopK (exL Try.prog E_laws_eqFloat32SS (cl (cl (cr (cl (cr (cr (bodyC Try.f120))))))) 35 16 [(0, 0)]) (laws_eqFloat32SS_P1 a_a a_e a_n b_a b_e b_n i) H Q :=
  ⟨laws_eqFloat32SS_I1 a_a a_e a_n b_a b_e b_n Inv, ν, ⟨i, rfl, h0⟩, fun μ tm H h => by obtain ⟨i, rfl, hI⟩ := h; exact hs μ i  H hI⟩
theorem laws_eqFloat32SS_n1 {a_a : Option Addr} {a_e : Nat} {a_n : Nat} {b_a : Option Addr} {b_e : Nat} {b_n : Nat} {Q : Post} {Inv : Nat → Int → AHeap → Prop} {μ : Nat} (μ' : Nat) {i : Int}  {H : AHeap} (hm : μ' < μ) (hI : Inv μ' i H) : loopQ (laws_eqFloat32SS_I1 a_a a_e a_n b_a b_e b_n Inv) μ Q .normal (laws_eqFloat32SS_P1 a_a a_e a_n b_a b_e b_n i) H := ⟨μ', hm, i, rfl, hI⟩
theorem laws_eqFloat32SS_x1_0  (H : AHeap) (K : Value → AHeap → Prop)  {I : Nat → List Value → AHeap → Prop} {μ : Nat} : loopQ I μ (blockQ 0 (seqQ (exL Try.prog E_laws_eqFloat32SS (cr (cr (cr (bodyC Try.f120)))) 16 16 []) (retK Try.prog Try.f120 K))) (.exit 0) [ud, ud, ud, ud, ud, ud, ud, ud, ud, ud, ud, ud, ud, ud, ud, ud, ud, ud, ud, ud, ud, ud, ud, ud, ud, ud, ud] H =
  (K (.bool true) H) := by kernel_rfl
theorem laws_eqFloat32SS_x1_ret (t4 : Bool) (H : AHeap) (K : Value → AHeap → Prop)  {I : Nat → List Value → AHeap → Prop} {μ : Nat} : loopQ I μ (blockQ 0 (seqQ (exL Try.prog E_laws_eqFloat32SS (cr (cr (cr (bodyC Try.f120)))) 16 16 []) (retK Try.prog Try.f120 K))) .ret [ud, ud, ud, ud, .bool t4, ud, ud, ud, ud, ud, ud, ud, ud, ud, ud, ud, ud, ud, ud, ud, ud, ud, ud, ud, ud, ud, ud] H =
  (K (.bool t4) H) := by kernel_rfl
theorem E_laws_eqFloat32SS_ok : ∀ g, FnOk Try.prog g (E_laws_eqFloat32SS g) := FnOk.envOf (by
  intro x hx
  simp only [List.mem_cons, List.not_mem_nil, or_false] at hx
  subst hx; exact laws_eqFloat32S_ok)
set_option maxHeartbeats 1000000 in
theorem laws_eqFloat32SS_main (a_a : Option Addr) (a_n : Nat) (a_e : Nat) (b_a : Option Addr) (b_n : Nat) (b_e : Nat) (H : AHeap) (K : Value → AHeap → Prop) (h : T_laws_eqFloat32SS a_a a_n a_e b_a b_n b_e H fun (r1 : Bool) (H' : AHeap) => K (.bool r1) H') : bodyL Try.prog E_laws_eqFloat32SS Try.f120 [.slice a_a a_n a_e, .slice b_a b_n b_e] H K := by
  rw [laws_eqFloat32SS_vc]
  obtain ⟨l_a, l_b, i_a, i_b, bd_25, bd_26, bb_l_a, bb_l_b, hk⟩ := h
  obtain rfl := i_a.eqn
  obtain rfl := i_b.eqn
  have e : (p_laws_eqFloat32SS l_a l_b) = _ := rfl
  have e := e.trans (p_laws_eqFloat32SS_eq l_a l_b)
  have g0 := Grow.refl H
  refine Br.intro (fun c_1 => ?_) (fun c_1 => ?_)
  · have e := e.trans (cond_t c_1)
    have c_1' := ine_t c_1
    rw [e] at hk
    exact hk
  · have e := e.trans (cond_f c_1)
    have c_1' := ine_f c_1
    refine laws_eqFloat32SS_L1 _ _ _ _ _ _ (fun (μ : Nat) (i : Int) (H_1 : AHeap) => ∃ (t4 : Bool), H = H_1 ∧ (0 : Int) ≤ i ∧ i ≤ (l_a.length : Int) ∧ (l_a.length : Int) - i ≤ (μ : Int) ∧ p_laws_eqFloat32SS l_a l_b = p_laws_eqFloat32SS_l1 l_a l_b (μ + 1) t4 i) (Int.toNat ((l_a.length : Int) - (0 : Int))) _ H ?_ ?_
    · exact ⟨_, rfl, ω3, ω3, ω2, e⟩
    · intro μ i  H_1 hI
      obtain ⟨t4, rfl, v_2, v_3, hμ, e⟩ := hI
      rw [laws_eqFloat32SS_r1]
      have e := e.trans (p_laws_eqFloat32SS_l1_s l_a l_b μ t4 i)
      have l_4 := g0.1
      refine Br.intro (fun c_5 => ?_) (fun c_5 => ?_)
      · have e := e.trans (cond_t c_5)
        have c_5' := of_decide_eq_true c_5
        obtain ⟨b_6, f_7, q_8⟩ := ((i_a.grow g0)).pos ω0
        refine ⟨by omega, by omega, b_6, f_7, q_8, ?_⟩
        obtain ⟨a_9, n_10, e_11, r_12, i_13⟩ := (i_a).rd (i := (i : Int).toNat) g0 q_8 ω2
        obtain rfl := i_13.eqn
        refine ⟨a_9, _, e_11, r_12, ?_⟩
        have z_14 := getD_len bb_l_a (i : Int).toNat
        obtain ⟨b_15, f_16, q_17⟩ := ((i_b.grow g0)).pos ω0
        refine ⟨by omega, by omega, b_15, f_16, q_17, ?_⟩
        obtain ⟨a_18, n_19, e_20, r_21, i_22⟩ := (i_b).rd (i := (i : Int).toNat) g0 q_17 ω2
        obtain rfl := i_22.eqn
        refine ⟨a_18, _, e_20, r_21, ?_⟩
        have z_23 := getD_len bb_l_b (i : Int).toNat
        refine T_laws_eqFloat32S_i ⟨_, _, (i_13.grow g0), (i_22.grow g0), ω0, ω0, ?_⟩
        refine Br.intro (fun c_24 => ?_) (fun c_24 => ?_)
        · have e := e.trans (cond_t c_24)
          have c_24n := nf_of_t c_24
          rw [laws_eqFloat32SS_x1_ret]
          rw [e] at hk
          exact hk
        · have e := e.trans (cond_f c_24)
          have c_24n := nt_of_f c_24
          rw [show IntKind.wrap .i64 (i + 1) = (i + 1) from wrap64 ω2 ω2]
          refine laws_eqFloat32SS_n1 (μ - 1) ω8 ⟨_, rfl, ω1, ω1, ω8, (by rw [show μ - 1 + 1 = μ from by first | omega]; exact e)⟩
      · have e := e.trans (cond_f c_5)
        have c_5' := of_decide_eq_false c_5
        rw [laws_eqFloat32SS_x1_0]
        rw [e] at hk
        exact hk
theorem laws_eqFloat32SS_ok : FnOk Try.prog 120 S_laws_eqFloat32SS := by
  refine FnOk.body mix_ok E_laws_eqFloat32SS_ok Try.func120 rfl (by kernel_rfl) (by kernel_rfl) ?_ ?_ ?_ ?_ ?_
  · intro args H K K' h hk
    simp only [S_laws_eqFloat32SS] at *
    unfold F_laws_eqFloat32SS at *
    split at hk
    · obtain ⟨l_a, l_b, i_a, i_b, bd_25, bd_26, bb_l_a, bb_l_b, k⟩ := hk
      exact ⟨l_a, l_b, i_a, i_b, bd_25, bd_26, bb_l_a, bb_l_b, h _ _ k⟩
    · exact hk.elim
  · intro _ args H K hk
    simp only [S_laws_eqFloat32SS] at *
    unfold F_laws_eqFloat32SS at *
    split at hk
    · obtain ⟨l_a, l_b, i_a, i_b, bd_25, bd_26, bb_l_a, bb_l_b, k⟩ := hk
      exact ⟨_, k, fun K' k' => ⟨l_a, l_b, i_a, i_b, bd_25, bd_26, bb_l_a, bb_l_b, k'⟩⟩
    · exact hk.elim
  · intro args H K hk
    simp only [S_laws_eqFloat32SS] at *
    unfold F_laws_eqFloat32SS at *
    split at hk
    · obtain ⟨l_a, l_b, i_a, i_b, bd_25, bd_26, bb_l_a, bb_l_b, k⟩ := hk
      exact ⟨_, _, k⟩
    · exact hk.elim
  · intro hq; cases hq
  · have mm := @laws_eqFloat32SS_main
    have ml := fun (args : List Value) (H : AHeap) (K : Value → AHeap → Prop) => bodyL_body (P := Try.prog) (env := E_laws_eqFloat32SS ) (fn := Try.f120) (args := args) (H := H) (K := K) E_laws_eqFloat32SS_ok 
    revert mm ml
    generalize bodyK Try.prog E_laws_eqFloat32SS Try.f120 = Q
    generalize bodyL Try.prog E_laws_eqFloat32SS Try.f120 = QL
    intro mm ml args H K hk
    simp only [S_laws_eqFloat32SS] at *
    unfold F_laws_eqFloat32SS at *
    split at hk
    · exact ml _ H K (mm _ _ _ _ _ _ H K hk)
    · exact hk.elim

def p_laws_eqBands (l_a_Coarse : List Nat) (l_a_Details : List (List Nat)) (l_b_Coarse : List Nat) (l_b_Details : List (List Nat)) : Bool := (bif !(p_laws_eqFloat32S l_a_Coarse l_b_Coarse) then false else (bif !(p_laws_eqFloat32SS l_a_Details l_b_Details) then false else true))
def p_laws_eqBands_eq := @p_laws_eqBands.eq_1
def T_laws_eqBands (a_Coarse_a : Option Addr) (a_Coarse_n : Nat) (a_Coarse_e : Nat) (a_Details_a : Option Addr) (a_Details_n : Nat) (a_Details_e : Nat) (b_Coarse_a : Option Addr) (b_Coarse_n : Nat) (b_Coarse_e : Nat) (b_Details_a : Option Addr) (b_Details_n : Nat) (b_Details_e : Nat) (H : AHeap) (K : Bool → AHeap → Prop) : Prop := ∃ (l_a_Coarse : List Nat), ∃ (l_a_Details : List (List Nat)), ∃ (l_b_Coarse : List Nat), ∃ (l_b_Details : List (List Nat)), IsL fF H a_Coarse_a a_Coarse_n l_a_Coarse ∧ IsLL fF H a_Details_a a_Details_n l_a_Details ∧ IsL fF H b_Coarse_a b_Coarse_n l_b_Coarse ∧ IsLL fF H b_Details_a b_Details_n l_b_Details ∧ l_a_Coarse.length < 1073741824 ∧ l_a_Details.length < 1073741824 ∧ l_b_Coarse.length < 1073741824 ∧ l_b_Details.length < 1073741824 ∧ (∀ y ∈ l_a_Details, y.length < 1073741824) ∧ (∀ y ∈ l_b_Details, y.length < 1073741824) ∧ ((∀ H' : AHeap, Grow H H' → K (p_laws_eqBands l_a_Coarse l_a_Details l_b_Coarse l_b_Details) H'))
theorem T_laws_eqBands_i {a_Coarse_a : Option Addr} {a_Coarse_n : Nat} {a_Coarse_e : Nat} {a_Details_a : Option Addr} {a_Details_n : Nat} {a_Details_e : Nat} {b_Coarse_a : Option Addr} {b_Coarse_n : Nat} {b_Coarse_e : Nat} {b_Details_a : Option Addr} {b_Details_n : Nat} {b_Details_e : Nat} {H : AHeap} {K : Bool → AHeap → Prop} (h : ∃ (l_a_Coarse : List Nat), ∃ (l_a_Details : List (List Nat)), ∃ (l_b_Coarse : List Nat), ∃ (l_b_Details : List (List Nat)), IsL fF H a_Coarse_a a_Coarse_n l_a_Coarse ∧ IsLL fF H a_Details_a a_Details_n l_a_Details ∧ IsL fF H b_Coarse_a b_Coarse_n l_b_Coarse ∧ IsLL fF H b_Details_a b_Details_n l_b_Details ∧ l_a_Coarse.length < 1073741824 ∧ l_a_Details.length < 1073741824 ∧ l_b_Coarse.length < 1073741824 ∧ l_b_Details.length < 1073741824 ∧ (∀ y ∈ l_a_Details, y.length < 1073741824) ∧ (∀ y ∈ l_b_Details, y.length < 1073741824) ∧ ((∀ H' : AHeap, Grow H H' → K (p_laws_eqBands l_a_Coarse l_a_Details l_b_Coarse l_b_Details) H'))) : T_laws_eqBands a_Coarse_a a_Coarse_n a_Coarse_e a_Details_a a_Details_n a_Details_e b_Coarse_a b_Coarse_n b_Coarse_e b_Details_a b_Details_n b_Details_e H K := h
theorem laws_eqBands_self (a : List Nat) (l : List (List Nat)) : p_laws_eqBands a l a l = true := by
  rw [p_laws_eqBands_eq, laws_eqFloat32S_self, laws_eqFloat32SS_self]; rfl
/-! laws_eqBands: function 32 -/
def E_laws_eqBands : Env := envOf [(24, S_laws_eqFloat32S), (120, S_laws_eqFloat32SS)]
def F_laws_eqBands : List Value → AHeap → (Value → AHeap → Prop) → Prop
  | [.agg ⟨[.slice a_Coarse_a a_Coarse_n a_Coarse_e, .slice a_Details_a a_Details_n a_Details_e]⟩, .agg ⟨[.slice b_Coarse_a b_Coarse_n b_Coarse_e, .slice b_Details_a b_Details_n b_Details_e]⟩], H, K => T_laws_eqBands a_Coarse_a a_Coarse_n a_Coarse_e a_Details_a a_Details_n a_Details_e b_Coarse_a b_Coarse_n b_Coarse_e b_Details_a b_Details_n b_Details_e H fun (r1 : Bool) (H' : AHeap) => K (.bool r1) H'
  | _, _, _ => False
def S_laws_eqBands : FSpec := { F := F_laws_eqBands, quiet := false, tame := true }
theorem laws_eqBands_vc (a_Coarse_a : Option Addr) (a_Coarse_n : Nat) (a_Coarse_e : Nat) (a_Details_a : Option Addr) (a_Details_n : Nat) (a_Details_e : Nat) (b_Coarse_a : Option Addr) (b_Coarse_n : Nat) (b_Coarse_e : Nat) (b_Details_a : Option Addr) (b_Details_n : Nat) (b_Details_e : Nat) (H : AHeap) (K : Value → AHeap → Prop) : bodyL Try.prog E_laws_eqBands Try.f32 [.agg #[.slice a_Coarse_a a_Coarse_n a_Coarse_e, .slice a_Details_a a_Details_n a_Details_e], .agg #[.slice b_Coarse_a b_Coarse_n b_Coarse_e, .slice b_Details_a b_Details_n b_Details_e]] H K =
  (Al [.slice a_Coarse_a a_Coarse_n a_Coarse_e, .slice a_Details_a a_Details_n a_Details_e] H fun b1 H1 => Al [.slice b_Coarse_a b_Coarse_n b_Coarse_e, .slice b_Details_a b_Details_n b_Details_e] H1 fun b2 H2 => ∃ x1_a : Option Addr, ∃ x1_n : Nat, ∃ x1_e : Nat,  rdC H2 b1 0 = some (.slice x1_a x1_n x1_e) ∧ ∃ x2_a : Option Addr, ∃ x2_n : Nat, ∃ x2_e : Nat,  rdC H2 b2 0 = some (.slice x2_a x2_n x2_e) ∧ T_laws_eqFloat32S x1_a x1_n x1_e x2_a x2_n x2_e H2 fun (r1 : Bool) (H3 : AHeap) => Br (!r1) (K (.bool false) H3) (∃ x3_a : Option Addr, ∃ x3_n : Nat, ∃ x3_e : Nat,  rdC H3 b1 1 = some (.slice x3_a x3_n x3_e) ∧ ∃ x4_a : Option Addr, ∃ x4_n : Nat, ∃ x4_e : Nat,  rdC H3 b2 1 = some (.slice x4_a x4_n x4_e) ∧ T_laws_eqFloat32SS x3_a x3_n x3_e x4_a x4_n x4_e H3 fun (r2 : Bool) (H4 : AHeap) => Br (!r2) (K (.bool false) H4) (K (.bool true) H4))) := by kernel_rfl
theorem E_laws_eqBands_ok : ∀ g, FnOk Try.prog g (E_laws_eqBands g) := FnOk.envOf (by
  intro x hx
  simp only [List.mem_cons, List.not_mem_nil, or_false] at hx
  rcases hx with rfl | rfl
  · exact laws_eqFloat32S_ok
  · exact laws_eqFloat32SS_ok)
set_option maxHeartbeats 1000000 in
theorem laws_eqBands_main (a_Coarse_a : Option Addr) (a_Coarse_n : Nat) (a_Coarse_e : Nat) (a_Details_a : Option Addr) (a_Details_n : Nat) (a_Details_e : Nat) (b_Coarse_a : Option Addr) (b_Coarse_n : Nat) (b_Coarse_e : Nat) (b_Details_a : Option Addr) (b_Details_n : Nat) (b_Details_e : Nat) (H : AHeap) (K : Value → AHeap → Prop) (h : T_laws_eqBands a_Coarse_a a_Coarse_n a_Coarse_e a_Details_a a_Details_n a_Details_e b_Coarse_a b_Coarse_n b_Coarse_e b_Details_a b_Details_n b_Details_e H fun (r1 : Bool) (H' : AHeap) => K (.bool r1) H') : bodyL Try.prog E_laws_eqBands Try.f32 [.agg #[.slice a_Coarse_a a_Coarse_n a_Coarse_e, .slice a_Details_a a_Details_n a_Details_e], .agg #[.slice b_Coarse_a b_Coarse_n b_Coarse_e, .slice b_Details_a b_Details_n b_Details_e]] H K := by
  rw [laws_eqBands_vc]
  obtain ⟨l_a_Coarse, l_a_Details, l_b_Coarse, l_b_Details, i_a_Coarse, i_a_Details, i_b_Coarse, i_b_Details, bd_25, bd_26, bd_27, bd_28, bb_l_a_Details, bb_l_b_Details, hk⟩ := h
  obtain rfl := i_a_Coarse.eqn
  obtain rfl := i_a_Details.eqn
  obtain rfl := i_b_Coarse.eqn
  obtain rfl := i_b_Details.eqn
  have e : (p_laws_eqBands l_a_Coarse l_a_Details l_b_Coarse l_b_Details) = _ := rfl
  have e := e.trans (p_laws_eqBands_eq l_a_Coarse l_a_Details l_b_Coarse l_b_Details)
  have g0 := Grow.refl H
  refine Al.intro (fun b_1 H_1 hb_2 hl_3 g_4 o_5 => ?_)
  have l_7 := g_4.1
  have g_8 := g0.trans g_4
  have l_9 := g_8.1
  have w_24 := o_5.lt
  refine Al.intro (fun b_10 H_2 hb_11 hl_12 g_13 o_14 => ?_)
  have l_16 := g_13.1
  have g_17 := g_8.trans g_13
  have l_18 := g_17.1
  have o_19 := o_5.grow g_13
  have w_20 := o_19.lt
  have w_23 := o_14.lt
  refine ⟨a_Coarse_a, l_a_Coarse.length, a_Coarse_e, (o_19.rdC _).trans rfl, ?_⟩
  refine ⟨b_Coarse_a, l_b_Coarse.length, b_Coarse_e, (o_14.rdC _).trans rfl, ?_⟩
  refine T_laws_eqFloat32S_i ⟨_, _, (i_a_Coarse.grow g_17), (i_b_Coarse.grow g_17), ω0, ω0, ?_⟩
  refine Br.intro (fun c_21 => ?_) (fun c_21 => ?_)
  · have e := e.trans (cond_t c_21)
    have c_21n := nf_of_t c_21
    rw [e] at hk
    exact hk  H_2 g_17 
  · have e := e.trans (cond_f c_21)
    have c_21n := nt_of_f c_21
    refine ⟨a_Details_a, l_a_Details.length, a_Details_e, (o_19.rdC _).trans rfl, ?_⟩
    refine ⟨b_Details_a, l_b_Details.length, b_Details_e, (o_14.rdC _).trans rfl, ?_⟩
    refine T_laws_eqFloat32SS_i ⟨l_a_Details, l_b_Details, (i_a_Details.grow g_17), (i_b_Details.grow g_17), ω0, ω0, (by first | assumption | exact or_right (by assumption) (by omega) | exact or_right (by assumption : _ ∧ (_ ∨ _)).2 (by omega) | (intro y hy; simp only [List.mem_cons, List.not_mem_nil, or_false] at hy; first | omega | (subst hy; omega) | (rcases hy with rfl | rfl <;> omega) | (rcases hy with rfl | rfl | rfl <;> omega))), (by first | assumption | exact or_right (by assumption) (by omega) | exact or_right (by assumption : _ ∧ (_ ∨ _)).2 (by omega) | (intro y hy; simp only [List.mem_cons, List.not_mem_nil, or_false] at hy; first | omega | (subst hy; omega) | (rcases hy with rfl | rfl <;> omega) | (rcases hy with rfl | rfl | rfl <;> omega))), ?_⟩
    refine Br.intro (fun c_22 => ?_) (fun c_22 => ?_)
    · have e := e.trans (cond_t c_22)
      have c_22n := nf_of_t c_22
      rw [e] at hk
      exact hk  H_2 g_17 
    · have e := e.trans (cond_f c_22)
      have c_22n := nt_of_f c_22
      rw [e] at hk
      exact hk  H_2 g_17 
theorem laws_eqBands_ok : FnOk Try.prog 32 S_laws_eqBands := by
  refine FnOk.body mix_ok E_laws_eqBands_ok Try.func32 rfl (by kernel_rfl) (by kernel_rfl) ?_ ?_ ?_ ?_ ?_
  · intro args H K K' h hk
    simp only [S_laws_eqBands] at *
    unfold F_laws_eqBands at *
    split at hk
    · obtain ⟨l_a_Coarse, l_a_Details, l_b_Coarse, l_b_Details, i_a_Coarse, i_a_Details, i_b_Coarse, i_b_Details, bd_25, bd_26, bd_27, bd_28, bb_l_a_Details, bb_l_b_Details, k⟩ := hk
      exact ⟨l_a_Coarse, l_a_Details, l_b_Coarse, l_b_Details, i_a_Coarse, i_a_Details, i_b_Coarse, i_b_Details, bd_25, bd_26, bd_27, bd_28, bb_l_a_Details, bb_l_b_Details, (fun  H' gg  => h _ _ (k  H' gg ))⟩
    · exact hk.elim
  · intro hq; cases hq
  · intro args H K hk
    simp only [S_laws_eqBands] at *
    unfold F_laws_eqBands at *
    split at hk
    · obtain ⟨l_a_Coarse, l_a_Details, l_b_Coarse, l_b_Details, i_a_Coarse, i_a_Details, i_b_Coarse, i_b_Details, bd_25, bd_26, bd_27, bd_28, bb_l_a_Details, bb_l_b_Details, k⟩ := hk
      exact ⟨_, _, k H (Grow.refl H)⟩
    · exact hk.elim
  · intro _ args H K hk
    simp only [S_laws_eqBands] at *
    unfold F_laws_eqBands at *
    split at hk
    · obtain ⟨l_a_Coarse, l_a_Details, l_b_Coarse, l_b_Details, i_a_Coarse, i_a_Details, i_b_Coarse, i_b_Details, bd_25, bd_26, bd_27, bd_28, bb_l_a_Details, bb_l_b_Details, k⟩ := hk
      exact ⟨l_a_Coarse, l_a_Details, l_b_Coarse, l_b_Details, i_a_Coarse, i_a_Details, i_b_Coarse, i_b_Details, bd_25, bd_26, bd_27, bd_28, bb_l_a_Details, bb_l_b_Details, (fun  H' gg  => ⟨gg, k  H' gg ⟩)⟩
    · exact hk.elim
  · have mm := @laws_eqBands_main
    have ml := fun (args : List Value) (H : AHeap) (K : Value → AHeap → Prop) => bodyL_body (P := Try.prog) (env := E_laws_eqBands ) (fn := Try.f32) (args := args) (H := H) (K := K) E_laws_eqBands_ok 
    revert mm ml
    generalize bodyK Try.prog E_laws_eqBands Try.f32 = Q
    generalize bodyL Try.prog E_laws_eqBands Try.f32 = QL
    intro mm ml args H K hk
    simp only [S_laws_eqBands] at *
    unfold F_laws_eqBands at *
    split at hk
    · exact ml _ H K (mm _ _ _ _ _ _ _ _ _ _ _ _ H K hk)
    · exact hk.elim

def p_laws_markFloat32S_l1 (l_a : List Nat) (k : Int) : Nat → Int → Int → (List Nat) → Int × (List Nat)
  | 0, _, _, _ => (0, [])
  | μ + 1, k_1, i, y1_1 => (bif decide ((i : Int) < (l_a.length : Int)) then (p_laws_markFloat32S_l1 l_a k μ (IntKind.wrap .i64 (k_1 + 1)) (i + 1) (((y1_1).set (i : Int).toNat (FloatKind.nearest .f32 k_1)))) else (k_1, y1_1))
def p_laws_markFloat32S_l1_s := fun l_a k μ k_1 i y1_1 => @p_laws_markFloat32S_l1.eq_2 l_a k k_1 i y1_1 μ
def p_laws_markFloat32S (l_a : List Nat) (k : Int) : Int × (List Nat) := (p_laws_markFloat32S_l1 l_a k (Int.toNat ((l_a.length : Int) - (0 : Int)) + 1) k (0 : Int) l_a)
def p_laws_markFloat32S_eq := @p_laws_markFloat32S.eq_1
def T_laws_markFloat32S (a_a : Option Addr) (a_n : Nat) (a_e : Nat) (k : Int) (H : AHeap) (K : Int → AHeap → Prop) : Prop := ∃ lo : Nat, ∃ (l_a : List Nat), OwnS fF H lo a_a a_n a_e l_a ∧ l_a.length < 1073741824 ∧ ((∀ H' : AHeap, KeepA a_a H H' → OwnS fF H' lo a_a a_n a_e (marks (FloatKind.nearest .f32) k l_a.length) → K (wk k l_a.length) H'))
theorem T_laws_markFloat32S_i {a_a : Option Addr} {a_n : Nat} {a_e : Nat} {k : Int} {H : AHeap} {K : Int → AHeap → Prop} (h : ∃ lo : Nat, ∃ (l_a : List Nat), OwnS fF H lo a_a a_n a_e l_a ∧ l_a.length < 1073741824 ∧ ((∀ H' : AHeap, KeepA a_a H H' → OwnS fF H' lo a_a a_n a_e (marks (FloatKind.nearest .f32) k l_a.length) → K (wk k l_a.length) H'))) : T_laws_markFloat32S a_a a_n a_e k H K := h
theorem laws_markFloat32S_go (l : List Nat) (k0 : Int) : ∀ (μ : Nat) (k : Int) (i : Nat) (ys : List Nat), ys.length = l.length → i ≤ l.length → l.length - i < μ →
    p_laws_markFloat32S_l1 l k0 μ k (i : Int) ys = (wk k (l.length - i), ys.take i ++ marks (FloatKind.nearest .f32) k (l.length - i)) := by
  intro μ
  induction μ with
  | zero => intro k i ys _ _ h; omega
  | succ μ ih =>
    intro k i ys hy hi hm
    rw [p_laws_markFloat32S_l1_s]
    by_cases h : i < l.length
    · rw [decide_eq_true (show (i : Int) < (l.length : Int) by omega), cond_true, Int.toNat_natCast]
      have := ih (IntKind.wrap .i64 (k + 1)) (i + 1) (ys.set i ((FloatKind.nearest .f32) k)) (by simp [hy]) ω2 ω2
      obtain ⟨d, hd⟩ : ∃ d, l.length - i = d + 1 := ⟨l.length - i - 1, by omega⟩
      rw [show l.length - (i + 1) = d by omega] at this
      rw [hd, wk, marks]
      refine Eq.trans this ?_
      rw [List.take_add_one, List.getElem?_set_self ω2, List.take_set_of_le (Nat.le_refl i)]
      simp
    · rw [decide_eq_false (show ¬ (i : Int) < (l.length : Int) by omega), cond_false]
      rw [show l.length - i = 0 by omega, wk, marks, List.append_nil, List.take_of_length_le ω2]
theorem laws_markFloat32S_val (l : List Nat) (k : Int) : p_laws_markFloat32S l k = (wk k l.length, marks (FloatKind.nearest .f32) k l.length) := by
  rw [p_laws_markFloat32S_eq]
  have := laws_markFloat32S_go l k (Int.toNat ((l.length : Int) - 0) + 1) k 0 l rfl ω2 ω2
  simpa using this
/-! laws_markFloat32S: function 25 -/
def E_laws_markFloat32S : Env := envOf []
def F_laws_markFloat32S : List Value → AHeap → (Value → AHeap → Prop) → Prop
  | [.slice a_a a_n a_e, .int .i64 k], H, K => T_laws_markFloat32S a_a a_n a_e k H fun (r1 : Int) (H' : AHeap) => K (.int .i64 r1) H'
  | _, _, _ => False
def S_laws_markFloat32S : FSpec := { F := F_laws_markFloat32S, quiet := false, tame := false }
theorem laws_markFloat32S_vc (a_a : Option Addr) (a_n : Nat) (a_e : Nat) (k : Int) (H : AHeap) (K : Value → AHeap → Prop) : bodyL Try.prog E_laws_markFloat32S Try.f25 [.slice a_a a_n a_e, .int .i64 k] H K =
  (loopK (exL Try.prog E_laws_markFloat32S (cl (cl (cr (cl (cr (bodyC Try.f25)))))) 35 16 [(0, 2)]) [.slice a_a a_n a_e, .int .i64 k, ud, ud, ud, .int .i64 0, ud, ud, ud, ud, ud, ud, ud, ud, ud, ud, ud, ud, ud, ud] H (blockQ 0 (seqQ (exL Try.prog E_laws_markFloat32S (cr (cr (bodyC Try.f25))) 16 16 []) (retK Try.prog Try.f25 K)))) := by kernel_rfl
abbrev laws_markFloat32S_P1 (a_a : Option Addr) (a_e : Nat) (a_n : Nat) (k_1 : Int) (i : Int)  : List Value := [.slice a_a a_n a_e, .int .i64 k_1, ud, ud, ud, .int .i64 i, ud, ud, ud, ud, ud, ud, ud, ud, ud, ud, ud, ud, ud, ud]
theorem laws_markFloat32S_r1 (a_a : Option Addr) (a_e : Nat) (a_n : Nat) (k_1 : Int) (i : Int)  (H : AHeap) (R : Post) : exL Try.prog E_laws_markFloat32S (cl (cl (cr (cl (cr (bodyC Try.f25)))))) 35 16 [(0, 2)] (laws_markFloat32S_P1 a_a a_e a_n k_1 i) H R =
  (Br (decide ((i : Int) < (a_n : Int))) ((0 : Int) ≤ i ∧ i < (a_n : Int) ∧ ∃ b1 f1, (a_a : Option Addr) = some ⟨b1, f1, none⟩ ∧ isOwn H b1 ∧ (∃ l, rdN H b1 (f1 + (i : Int).toNat * 1) 1 = some l) ∧ Lt (setC H b1 (f1 + (i : Int).toNat * 1) (.float .f32 (FloatKind.nearest .f32 k_1))) fun H1 => R .normal [.slice a_a a_n a_e, .int .i64 (IntKind.wrap .i64 (k_1 + 1)), ud, ud, ud, .int .i64 (IntKind.wrap .i64 (i + 1)), ud, ud, ud, ud, ud, ud, ud, ud, ud, ud, ud, ud, ud, ud] H1) (R (.exit 0) [ud, .int .i64 k_1, ud, ud, ud, ud, ud, ud, ud, ud, ud, ud, ud, ud, ud, ud, ud, ud, ud, ud] H)) := by kernel_rfl
def laws_markFloat32S_I1 (a_a : Option Addr) (a_e : Nat) (a_n : Nat) (Inv : Nat → Int → Int → AHeap → Prop) : Nat → List Value → AHeap → Prop := fun μ tm H => ∃ (k_1 : Int), ∃ (i : Int), tm = (laws_markFloat32S_P1 a_a a_e a_n k_1 i) ∧ Inv μ k_1 i H
theorem laws_markFloat32S_L1 (a_a : Option Addr) (a_e : Nat) (a_n : Nat) {Q : Post} (Inv : Nat → Int → Int → AHeap → Prop) (ν : Nat) (k_1 : Int) (i : Int)  (H : AHeap) (h0 : Inv ν k_1 i H)
    (hs : ∀ (μ : Nat) (k_1 : Int) (i : Int)  (H : AHeap), Inv μ k_1 i H → exL Try.prog E_laws_markFloat32S (cl (cl (cr (cl (cr (bodyC Try.f25)))))) 35 16 [(0, 2)] (laws_markFloat32S_P1 a_a a_e a_n k_1 i) H (loopQ (laws_markFloat32S_I1 a_a a_e a_n Inv) μ Q)) : loopK (exL Try.prog E_laws_markFloat32S (cl (cl (cr (cl (cr (bodyC Try.f25)))))) 35 16 [(0, 2)]) (laws_markFloat32S_P1 a_a a_e a_n k_1 i) H Q :=
  ⟨laws_markFloat32S_I1 a_a a_e a_n Inv, ν, ⟨k_1, i, rfl, h0⟩, fun μ tm H h => by obtain ⟨k_1, i, rfl, hI⟩ := h; exact hs μ k_1 i  H hI⟩
theorem laws_markFloat32S_n1 {a_a : Option Addr} {a_e : Nat} {a_n : Nat} {Q : Post} {Inv : Nat → Int → Int → AHeap → Prop} {μ : Nat} (μ' : Nat) {k_1 : Int} {i : Int}  {H : AHeap} (hm : μ' < μ) (hI : Inv μ' k_1 i H) : loopQ (laws_markFloat32S_I1 a_a a_e a_n Inv) μ Q .normal (laws_markFloat32S_P1 a_a a_e a_n k_1 i) H := ⟨μ', hm, k_1, i, rfl, hI⟩
theorem laws_markFloat32S_x1_0 (k_1 : Int) (H : AHeap) (K : Value → AHeap → Prop)  {I : Nat → List Value → AHeap → Prop} {μ : Nat} : loopQ I μ (blockQ 0 (seqQ (exL Try.prog E_laws_markFloat32S (cr (cr (bodyC Try.f25))) 16 16 []) (retK Try.prog Try.f25 K))) (.exit 0) [ud, .int .i64 k_1, ud, ud, ud, ud, ud, ud, ud, ud, ud, ud, ud, ud, ud, ud, ud, ud, ud, ud] H =
  (K (.int .i64 k_1) H) := by kernel_rfl
theorem E_laws_markFloat32S_ok : ∀ g, FnOk Try.prog g (E_laws_markFloat32S g) := FnOk.envOf (by
  intro x hx; cases hx)
set_option maxHeartbeats 1000000 in
theorem laws_markFloat32S_main (a_a : Option Addr) (a_n : Nat) (a_e : Nat) (k : Int) (H : AHeap) (K : Value → AHeap → Prop) (h : T_laws_markFloat32S a_a a_n a_e k H fun (r1 : Int) (H' : AHeap) => K (.int .i64 r1) H') : bodyL Try.prog E_laws_markFloat32S Try.f25 [.slice a_a a_n a_e, .int .i64 k] H K := by
  rw [laws_markFloat32S_vc]
  obtain ⟨lo, l_a, i_a, bd_18, hk⟩ := h
  have hk : (∀ H' : AHeap, KeepA a_a H H' → OwnS fF H' lo a_a a_n a_e ((p_laws_markFloat32S l_a k).2) → (fun (r1 : Int) (H' : AHeap) => K (.int .i64 r1) H') ((p_laws_markFloat32S l_a k).1) H') := by rw [laws_markFloat32S_val l_a k]; exact hk
  obtain rfl := i_a.len
  have up_m := i_a.up
  have lo_m := i_a.lo
  have e : (p_laws_markFloat32S l_a k) = _ := rfl
  have e := e.trans (p_laws_markFloat32S_eq l_a k)
  have g0 := KeepA.refl a_a H
  refine laws_markFloat32S_L1 _ _ _ (fun (μ : Nat) (k_1 : Int) (i : Int) (H_1 : AHeap) => ∃ (y1_1 : List Nat), OwnS fF H_1 lo a_a l_a.length a_e y1_1 ∧ y1_1.length = (l_a).length ∧ H.length ≤ H_1.length ∧ KeepA a_a H H_1 ∧ (0 : Int) ≤ i ∧ i ≤ (l_a.length : Int) ∧ (l_a.length : Int) - i ≤ (μ : Int) ∧ p_laws_markFloat32S l_a k = p_laws_markFloat32S_l1 l_a k (μ + 1) k_1 i y1_1) (Int.toNat ((l_a.length : Int) - (0 : Int))) _ _ H ?_ ?_
  · exact ⟨_, i_a, ω13, ω2, g0, ω3, ω3, ω2, e⟩
  · intro μ k_1 i  H_1 hI
    obtain ⟨y1_1, r_1, y_2, n_3, g_4, v_5, v_6, hμ, e⟩ := hI
    rw [laws_markFloat32S_r1]
    have e := e.trans (p_laws_markFloat32S_l1_s l_a k μ k_1 i y1_1)
    have l_7 := g_4.1
    refine Br.intro (fun c_8 => ?_) (fun c_8 => ?_)
    · have e := e.trans (cond_t c_8)
      have c_8' := of_decide_eq_true c_8
      obtain ⟨b_9, f_10, q_11⟩ := (r_1.isL).pos ω0
      refine ⟨by omega, by omega, b_9, f_10, q_11, ?_⟩
      refine Lt.setS r_1 q_11 (by first | omega | (simp only [List.length_set]; (first | omega | (simp only [List.length_set, List.length_replicate, List.length_append, List.length_cons, List.length_nil, List.length_take, List.length_drop, marks_length]; done) | (simp only [List.length_set, List.length_replicate, List.length_append, List.length_cons, List.length_nil, List.length_take, List.length_drop, marks_length]; omega)))) (fun H_2 hl_12 o_14 k_13 => ?_)
      have l_15 := k_13.1
      have g_16 := g_4.transA k_13
      have l_17 := g_16.1
      rw [show IntKind.wrap .i64 (i + 1) = (i + 1) from wrap64 ω2 ω2]
      refine laws_markFloat32S_n1 (μ - 1) ω8 ⟨_, o_14, ω10, ω2, g_16, ω1, ω1, ω8, (by rw [show μ - 1 + 1 = μ from by first | omega]; exact e)⟩
    · have e := e.trans (cond_f c_8)
      have c_8' := of_decide_eq_false c_8
      rw [laws_markFloat32S_x1_0]
      rw [e] at hk
      exact hk H_1 g_4 r_1
theorem laws_markFloat32S_ok : FnOk Try.prog 25 S_laws_markFloat32S := by
  refine FnOk.body mix_ok E_laws_markFloat32S_ok Try.func25 rfl (by kernel_rfl) (by kernel_rfl) ?_ ?_ ?_ ?_ ?_
  · intro args H K K' h hk
    simp only [S_laws_markFloat32S] at *
    unfold F_laws_markFloat32S at *
    split at hk
    · obtain ⟨lo, l_a, i_a, bd_18, k⟩ := hk
      exact ⟨lo, l_a, i_a, bd_18, (fun H' gg ow => h _ _ (k H' gg ow))⟩
    · exact hk.elim
  · intro hq; cases hq
  · intro args H K hk
    simp only [S_laws_markFloat32S] at *
    unfold F_laws_markFloat32S at *
    split at hk
    · obtain ⟨lo, l_a, i_a, bd_18, k⟩ := hk
      exact (i_a.put _ (by rw [marks_length])).elim fun H1 h => ⟨_, _, k H1 h.1 h.2⟩
    · exact hk.elim
  · intro hq; cases hq
  · have mm := @laws_markFloat32S_main
    have ml := fun (args : List Value) (H : AHeap) (K : Value → AHeap → Prop) => bodyL_body (P := Try.prog) (env := E_laws_markFloat32S ) (fn := Try.f25) (args := args) (H := H) (K := K) E_laws_markFloat32S_ok 
    revert mm ml
    generalize bodyK Try.prog E_laws_markFloat32S Try.f25 = Q
    generalize bodyL Try.prog E_laws_markFloat32S Try.f25 = QL
    intro mm ml args H K hk
    simp only [S_laws_markFloat32S] at *
    unfold F_laws_markFloat32S at *
    split at hk
    · exact ml _ H K (mm _ _ _ _ H K hk)
    · exact hk.elim
def T_laws_markFloat32SS (a_a : Option Addr) (a_n : Nat) (a_e : Nat) (k : Int) (H : AHeap) (K : Int → AHeap → Prop) : Prop := ∃ (lo hi : Nat) (l : List (List Nat)), OwnLL fF H lo hi a_a a_n a_e l ∧ l.length < 1073741824 ∧ (∀ y ∈ l, y.length < 1073741824) ∧ (∀ H' : AHeap, KeepR lo hi H H' → OwnLL fF H' lo hi a_a a_n a_e (markss (FloatKind.nearest .f32) k l) → K (wkk k l) H')
theorem T_laws_markFloat32SS_i {a_a : Option Addr} {a_n : Nat} {a_e : Nat} {k : Int} {H : AHeap} {K : Int → AHeap → Prop} (h : ∃ (lo hi : Nat) (l : List (List Nat)), OwnLL fF H lo hi a_a a_n a_e l ∧ l.length < 1073741824 ∧ (∀ y ∈ l, y.length < 1073741824) ∧ (∀ H' : AHeap, KeepR lo hi H H' → OwnLL fF H' lo hi a_a a_n a_e (markss (FloatKind.nearest .f32) k l) → K (wkk k l) H')) : T_laws_markFloat32SS a_a a_n a_e k H K := h
/-! laws_markFloat32SS: function 124 -/
def E_laws_markFloat32SS : Env := envOf [(25, S_laws_markFloat32S)]
def F_laws_markFloat32SS : List Value → AHeap → (Value → AHeap → Prop) → Prop
  | [.slice a_a a_n a_e, .int .i64 k], H, K => T_laws_markFloat32SS a_a a_n a_e k H fun (r1 : Int) (H' : AHeap) => K (.int .i64 r1) H'
  | _, _, _ => False
def S_laws_markFloat32SS : FSpec := { F := F_laws_markFloat32SS, quiet := false, tame := false }
theorem laws_markFloat32SS_vc (a_a : Option Addr) (a_n : Nat) (a_e : Nat) (k : Int) (H : AHeap) (K : Value → AHeap → Prop) : bodyL Try.prog E_laws_markFloat32SS Try.f124 [.slice a_a a_n a_e, .int .i64 k] H K =
  (loopK (exL Try.prog E_laws_markFloat32SS (cl (cl (cr (cl (cr (bodyC Try.f124)))))) 35 16 [(0, 2)]) [.slice a_a a_n a_e, .int .i64 k, ud, ud, ud, .int .i64 0, ud, ud, ud, ud, ud, ud, ud, ud, ud, ud, ud, ud, ud] H (blockQ 0 (seqQ (exL Try.prog E_laws_markFloat32SS (cr (cr (bodyC Try.f124))) 16 16 []) (retK Try.prog Try.f124 K)))) := by kernel_rfl
abbrev laws_markFloat32SS_P1 (a_a : Option Addr) (a_e : Nat) (a_n : Nat) (k_1 : Int) (i : Int)  : List Value := [.slice a_a a_n a_e, .int .i64 k_1, ud, ud, ud, .int .i64 i, ud, ud, ud, ud, ud, ud, ud, ud, ud, ud, ud, ud, ud]
theorem laws_markFloat32SS_r1 (a_a : Option Addr) (a_e : Nat) (a_n : Nat) (k_1 : Int) (i : Int)  (H : AHeap) (R : Post) : exL Try.prog E_laws_markFloat32SS (cl (cl (cr (cl (cr (bodyC Try.f124)))))) 35 16 [(0, 2)] (laws_markFloat32SS_P1 a_a a_e a_n k_1 i) H R =
  (Br (decide ((i : Int) < (a_n : Int))) ((0 : Int) ≤ i ∧ i < (a_n : Int) ∧ ∃ b1 f1, (a_a : Option Addr) = some ⟨b1, f1, none⟩ ∧ ∃ x1_a : Option Addr, ∃ x1_n : Nat, ∃ x1_e : Nat,  rdC H b1 (f1 + (i : Int).toNat * 1) = some (.slice x1_a x1_n x1_e) ∧ T_laws_markFloat32S x1_a x1_n x1_e k_1 H fun (r1 : Int) (H1 : AHeap) => R .normal [.slice a_a a_n a_e, .int .i64 r1, ud, ud, ud, .int .i64 (IntKind.wrap .i64 (i + 1)), ud, ud, ud, ud, ud, ud, ud, ud, ud, ud, ud, ud, ud] H1) (R (.exit 0) [ud, .int .i64 k_1, ud, ud, ud, ud, ud, ud, ud, ud, ud, ud, ud, ud, ud, ud, ud, ud, ud] H)) := by kernel_rfl
def laws_markFloat32SS_I1 (a_a : Option Addr) (a_e : Nat) (a_n : Nat) (Inv : Nat → Int → Int → AHeap → Prop) : Nat → List Value → AHeap → Prop := fun μ tm H => ∃ (k_1 : Int), ∃ (i : Int), tm = (laws_markFloat32SS_P1 a_a a_e a_n k_1 i) ∧ Inv μ k_1 i H
theorem laws_markFloat32SS_L1 (a_a : Option Addr) (a_e : Nat) (a_n : Nat) {Q : Post} (Inv : Nat → Int → Int → AHeap → Prop) (ν : Nat) (k_1 : Int) (i : Int)  (H : AHeap) (h0 : Inv ν k_1 i H)
    (hs : ∀ (μ : Nat) (k_1 : Int) (i : Int)  (H : AHeap), Inv μ k_1 i H → exL Try.prog E_laws_markFloat32SS (cl (cl (cr (cl (cr (bodyC Try.f124)))))) 35 16 [(0, 2)] (laws_markFloat32SS_P1 a_a a_e a_n k_1 i) H (loopQ (laws_markFloat32SS_I1 a_a a_e a_n Inv) μ Q)) : loopK (exL Try.prog E_laws_markFloat32SS (cl (cl (cr (cl (cr (bodyC Try.f124)))))) 35 16 [(0, 2)]) (laws_markFloat32SS_P1 a_a a_e a_n k_1 i) H Q :=
  ⟨laws_markFloat32SS_I1 a_a a_e a_n Inv, ν, ⟨k_1, i, rfl, h0⟩, fun μ tm H h => by obtain ⟨k_1, i, rfl, hI⟩ := h; exact hs μ k_1 i  H hI⟩
theorem laws_markFloat32SS_n1 {a_a : Option Addr} {a_e : Nat} {a_n : Nat} {Q : Post} {Inv : Nat → Int → Int → AHeap → Prop} {μ : Nat} (μ' : Nat) {k_1 : Int} {i : Int}  {H : AHeap} (hm : μ' < μ) (hI : Inv μ' k_1 i H) : loopQ (laws_markFloat32SS_I1 a_a a_e a_n Inv) μ Q .normal (laws_markFloat32SS_P1 a_a a_e a_n k_1 i) H := ⟨μ', hm, k_1, i, rfl, hI⟩
theorem laws_markFloat32SS_x1_0 (k_1 : Int) (H : AHeap) (K : Value → AHeap → Prop)  {I : Nat → List Value → AHeap → Prop} {μ : Nat} : loopQ I μ (blockQ 0 (seqQ (exL Try.prog E_laws_markFloat32SS (cr (cr (bodyC Try.f124))) 16 16 []) (retK Try.prog Try.f124 K))) (.exit 0) [ud, .int .i64 k_1, ud, ud, ud, ud, ud, ud, ud, ud, ud, ud, ud, ud, ud, ud, ud, ud, ud] H =
  (K (.int .i64 k_1) H) := by kernel_rfl
theorem E_laws_markFloat32SS_ok : ∀ g, FnOk Try.prog g (E_laws_markFloat32SS g) := FnOk.envOf (by
  intro x hx
  simp only [List.mem_cons, List.not_mem_nil, or_false] at hx
  subst hx; exact laws_markFloat32S_ok)
set_option maxHeartbeats 1000000 in
theorem laws_markFloat32SS_main (a_a : Option Addr) (a_n : Nat) (a_e : Nat) (k : Int) (H : AHeap) (K : Value → AHeap → Prop) (h : T_laws_markFloat32SS a_a a_n a_e k H fun (r1 : Int) (H' : AHeap) => K (.int .i64 r1) H') : bodyL Try.prog E_laws_markFloat32SS Try.f124 [.slice a_a a_n a_e, .int .i64 k] H K := by
  rw [laws_markFloat32SS_vc]
  obtain ⟨lo, hi, l, i_a, bd, bb, hk⟩ := h
  obtain rfl := i_a.len
  refine laws_markFloat32SS_L1 _ _ _ (fun (μ : Nat) (k1 : Int) (i : Int) (H1 : AHeap) => ∃ (P r : List (List Nat)), i = (P.length : Int) ∧ P.length + r.length = l.length ∧ r.length = μ ∧ (∀ y ∈ r, y.length < 1073741824) ∧ KeepR lo hi H H1 ∧ OwnLL fF H1 lo hi a_a l.length a_e (P ++ r) ∧ P ++ markss (FloatKind.nearest .f32) k1 r = markss (FloatKind.nearest .f32) k l ∧ wkk k1 r = wkk k l) l.length _ _ H ?_ ?_
  · exact ⟨[], l, rfl, by simp, rfl, bb, KeepR.refl _ _ _, i_a, rfl, rfl⟩
  intro μ k1 i H1 hI
  obtain ⟨P, r, rfl, h1, h2, h3, h4, h5, h6, h7⟩ := hI
  rw [laws_markFloat32SS_r1]
  refine Br.dec (fun hc => ?_) (fun hc => ?_)
  · obtain ⟨y, r', rfl⟩ : ∃ y r', r = y :: r' := by
      cases r with
      | nil => simp at h1; omega
      | cons y r' => exact ⟨y, r', rfl⟩
    obtain ⟨_, ⟨_, he⟩ | ⟨b, rfl, hB, rfl⟩⟩ := h5
    · simp at he
    have hlt : P.length < (P ++ y :: r').length := by simp
    obtain ⟨a, n, e, g1, g2, g3, g4⟩ := hB.lend hlt
    have hy : (P ++ y :: r').getD P.length [] = y := by simp [List.getD_eq_getElem?_getD]
    rw [hy] at g2
    refine ⟨by omega, hc, b, 0, rfl, a, n, e, by rw [Int.toNat_natCast]; exact g1, ?_⟩
    refine T_laws_markFloat32S_i ⟨lo, y, g2, h3 y (List.mem_cons_self ..), fun H2 kk o => ?_⟩
    have g5 := g4 H2 _ kk o
    simp only [List.length_cons] at h1 h2
    rw [wrap64 ω2 ω2]
    refine laws_markFloat32SS_n1 (μ - 1) ω2 ⟨P ++ [marks (FloatKind.nearest .f32) k1 y.length], r', by simp, by simp; omega, by omega, fun z hz => h3 z (List.mem_cons_of_mem _ hz), h4.trans (kk.keepR g3), ?_, ?_, ?_⟩
    · have : (P ++ y :: r').set P.length (marks (FloatKind.nearest .f32) k1 y.length) = P ++ [marks (FloatKind.nearest .f32) k1 y.length] ++ r' := by simp
      rw [this] at g5
      exact g5.ownLL (by simp; omega)
    · rw [← h6, List.append_assoc]; rfl
    · rw [← h7]; rfl
  · rw [laws_markFloat32SS_x1_0]
    have hr : r = [] := by cases r with
      | nil => rfl
      | cons y r' => simp at h1; omega
    subst hr
    simp only [markss, wkk, List.append_nil] at h6 h7 h5
    rw [h7]
    rw [h6] at h5
    exact hk H1 h4 h5
theorem laws_markFloat32SS_ok : FnOk Try.prog 124 S_laws_markFloat32SS := by
  refine FnOk.body mix_ok E_laws_markFloat32SS_ok Try.func124 rfl (by kernel_rfl) (by kernel_rfl) ?_ ?_ ?_ ?_ ?_
  · intro args H K K' h hk
    simp only [S_laws_markFloat32SS] at *
    unfold F_laws_markFloat32SS at *
    split at hk
    · obtain ⟨lo, hi, l, i_a, bd, bb, k⟩ := hk
      exact ⟨lo, hi, l, i_a, bd, bb, (fun H' gg ow => h _ _ (k H' gg ow))⟩
    · exact hk.elim
  · intro hq; cases hq
  · intro args H K hk
    simp only [S_laws_markFloat32SS] at *
    unfold F_laws_markFloat32SS at *
    split at hk
    · obtain ⟨lo, hi, l, i_a, bd, bb, k⟩ := hk
      exact (i_a.puts (markss_length _ _ _) (markss_getD _ _ _)).elim fun H1 h => ⟨_, _, k H1 h.1 h.2⟩
    · exact hk.elim
  · intro hq; cases hq
  · have mm := @laws_markFloat32SS_main
    have ml := fun (args : List Value) (H : AHeap) (K : Value → AHeap → Prop) => bodyL_body (P := Try.prog) (env := E_laws_markFloat32SS ) (fn := Try.f124) (args := args) (H := H) (K := K) E_laws_markFloat32SS_ok 
    revert mm ml
    generalize bodyK Try.prog E_laws_markFloat32SS Try.f124 = Q
    generalize bodyL Try.prog E_laws_markFloat32SS Try.f124 = QL
    intro mm ml args H K hk
    simp only [S_laws_markFloat32SS] at *
    unfold F_laws_markFloat32SS at *
    split at hk
    · exact ml _ H K (mm _ _ _ _ H K hk)
    · exact hk.elim
def p_laws_markBands (l_a_Coarse : List Nat) (l_a_Details : List (List Nat)) (k : Int) : Int × List Nat × List (List Nat) := (wkk (wk k l_a_Coarse.length) l_a_Details, marks (FloatKind.nearest .f32) k l_a_Coarse.length, markss (FloatKind.nearest .f32) (wk k l_a_Coarse.length) l_a_Details)
theorem laws_markBands_len (C : List Nat) (D : List (List Nat)) (k : Int) : (p_laws_markBands C D k).2.1.length = C.length ∧ (p_laws_markBands C D k).2.2.length = D.length := ⟨marks_length _ _ _, markss_length _ _ _⟩
theorem laws_markBands_big (C : List Nat) (D : List (List Nat)) (k : Int) : (∀ y ∈ D, y.length < 1073741824) → ∀ y ∈ (p_laws_markBands C D k).2.2, y.length < 1073741824 := fun h y hy => by
  obtain ⟨i, hi, e⟩ := List.getElem_of_mem hy
  have := markss_getD (FloatKind.nearest .f32) D (wk k C.length) i
  have e2 : (markss (FloatKind.nearest .f32) (wk k C.length) D).getD i [] = y := by rw [List.getD_eq_getElem?_getD]; exact (congrArg (Option.getD · []) (List.getElem?_eq_getElem hi)).trans e
  rw [← e2, this]; exact getD_len h i
def T_laws_markBands (a_Coarse_a : Option Addr) (a_Coarse_n : Nat) (a_Coarse_e : Nat) (a_Details_a : Option Addr) (a_Details_n : Nat) (a_Details_e : Nat) (k : Int) (H : AHeap) (K : Int → AHeap → Prop) : Prop := ∃ (lo lo2 hi : Nat) (l_a_Coarse : List Nat) (l_a_Details : List (List Nat)), OwnS fF H lo a_Coarse_a a_Coarse_n a_Coarse_e l_a_Coarse ∧ OwnLL fF H lo2 hi a_Details_a a_Details_n a_Details_e l_a_Details ∧ lo ≤ lo2 ∧ lo2 ≤ hi ∧ SepL a_Coarse_a lo2 ∧ l_a_Coarse.length < 1073741824 ∧ l_a_Details.length < 1073741824 ∧ (∀ y ∈ l_a_Details, y.length < 1073741824) ∧ (∀ H' : AHeap, KeepR lo hi H H' → OwnS fF H' lo a_Coarse_a a_Coarse_n a_Coarse_e (p_laws_markBands l_a_Coarse l_a_Details k).2.1 → OwnLL fF H' lo2 hi a_Details_a a_Details_n a_Details_e (p_laws_markBands l_a_Coarse l_a_Details k).2.2 → K (p_laws_markBands l_a_Coarse l_a_Details k).1 H')
theorem T_laws_markBands_i {a_Coarse_a : Option Addr} {a_Coarse_n : Nat} {a_Coarse_e : Nat} {a_Details_a : Option Addr} {a_Details_n : Nat} {a_Details_e : Nat} {k : Int} {H : AHeap} {K : Int → AHeap → Prop} (h : ∃ (lo lo2 hi : Nat) (l_a_Coarse : List Nat) (l_a_Details : List (List Nat)), OwnS fF H lo a_Coarse_a a_Coarse_n a_Coarse_e l_a_Coarse ∧ OwnLL fF H lo2 hi a_Details_a a_Details_n a_Details_e l_a_Details ∧ lo ≤ lo2 ∧ lo2 ≤ hi ∧ SepL a_Coarse_a lo2 ∧ l_a_Coarse.length < 1073741824 ∧ l_a_Details.length < 1073741824 ∧ (∀ y ∈ l_a_Details, y.length < 1073741824) ∧ (∀ H' : AHeap, KeepR lo hi H H' → OwnS fF H' lo a_Coarse_a a_Coarse_n a_Coarse_e (p_laws_markBands l_a_Coarse l_a_Details k).2.1 → OwnLL fF H' lo2 hi a_Details_a a_Details_n a_Details_e (p_laws_markBands l_a_Coarse l_a_Details k).2.2 → K (p_laws_markBands l_a_Coarse l_a_Details k).1 H')) : T_laws_markBands a_Coarse_a a_Coarse_n a_Coarse_e a_Details_a a_Details_n a_Details_e k H K := h
/-! laws_markBands: function 35 -/
def E_laws_markBands : Env := envOf [(25, S_laws_markFloat32S), (124, S_laws_markFloat32SS)]
def F_laws_markBands : List Value → AHeap → (Value → AHeap → Prop) → Prop
  | [.agg ⟨[.slice a_Coarse_a a_Coarse_n a_Coarse_e, .slice a_Details_a a_Details_n a_Details_e]⟩, .int .i64 k], H, K => T_laws_markBands a_Coarse_a a_Coarse_n a_Coarse_e a_Details_a a_Details_n a_Details_e k H fun (r1 : Int) (H' : AHeap) => K (.int .i64 r1) H'
  | _, _, _ => False
def S_laws_markBands : FSpec := { F := F_laws_markBands, quiet := false, tame := false }
theorem laws_markBands_vc (a_Coarse_a : Option Addr) (a_Coarse_n : Nat) (a_Coarse_e : Nat) (a_Details_a : Option Addr) (a_Details_n : Nat) (a_Details_e : Nat) (k : Int) (H : AHeap) (K : Value → AHeap → Prop) : bodyL Try.prog E_laws_markBands Try.f35 [.agg #[.slice a_Coarse_a a_Coarse_n a_Coarse_e, .slice a_Details_a a_Details_n a_Details_e], .int .i64 k] H K =
  (Al [.slice a_Coarse_a a_Coarse_n a_Coarse_e, .slice a_Details_a a_Details_n a_Details_e] H fun b1 H1 => ∃ x1_a : Option Addr, ∃ x1_n : Nat, ∃ x1_e : Nat,  rdC H1 b1 0 = some (.slice x1_a x1_n x1_e) ∧ T_laws_markFloat32S x1_a x1_n x1_e k H1 fun (r1 : Int) (H2 : AHeap) => ∃ x2_a : Option Addr, ∃ x2_n : Nat, ∃ x2_e : Nat,  rdC H2 b1 1 = some (.slice x2_a x2_n x2_e) ∧ T_laws_markFloat32SS x2_a x2_n x2_e r1 H2 fun (r2 : Int) (H3 : AHeap) => K (.int .i64 r2) H3) := by kernel_rfl
theorem E_laws_markBands_ok : ∀ g, FnOk Try.prog g (E_laws_markBands g) := FnOk.envOf (by
  intro x hx
  simp only [List.mem_cons, List.not_mem_nil, or_false] at hx
  rcases hx with rfl | rfl
  · exact laws_markFloat32S_ok
  · exact laws_markFloat32SS_ok)
set_option maxHeartbeats 1000000 in
theorem laws_markBands_main (a_Coarse_a : Option Addr) (a_Coarse_n : Nat) (a_Coarse_e : Nat) (a_Details_a : Option Addr) (a_Details_n : Nat) (a_Details_e : Nat) (k : Int) (H : AHeap) (K : Value → AHeap → Prop) (h : T_laws_markBands a_Coarse_a a_Coarse_n a_Coarse_e a_Details_a a_Details_n a_Details_e k H fun (r1 : Int) (H' : AHeap) => K (.int .i64 r1) H') : bodyL Try.prog E_laws_markBands Try.f35 [.agg #[.slice a_Coarse_a a_Coarse_n a_Coarse_e, .slice a_Details_a a_Details_n a_Details_e], .int .i64 k] H K := by
  rw [laws_markBands_vc]
  obtain ⟨lo, lo2, hi, C, D, o1, o2, q1, q2, q3, b1, b2, b3, hk⟩ := h
  have hup := o1.up
  have hup2 := o2.up
  refine Al.intro (fun b H1 e1 e2 g o => ?_)
  refine ⟨_, _, _, (o.rdC 0).trans rfl, ?_⟩
  refine T_laws_markFloat32S_i ⟨lo, C, o1.grow g, b1, fun H2 k2 c2 => ?_⟩
  have hlo := o1.lo
  have hq3 : ∀ x, a_Coarse_a = some x → lo ≤ x.block ∧ x.block < lo2 := fun x hx => ⟨hlo x hx, q3 x hx⟩
  have k2r := k2.keepR hq3
  have o' := o.keepA (fun x hx => by have := hup x hx; omega) k2
  refine ⟨_, _, _, (o'.rdC 1).trans rfl, ?_⟩
  have hll := (o2.grow g).keepR (lo := lo) (hi := lo2) (Or.inr (Nat.le_refl _)) k2r
  refine T_laws_markFloat32SS_i ⟨lo2, hi, D, hll, b2, b3, fun H3 k3 d3 => ?_⟩
  refine hk H3 ⟨?_, fun i h1 h2 => ?_⟩ (c2.keepR (fun x hx => Or.inl (q3 x hx)) k3) d3
  · have := g.1; have := k2.1; have := k3.1; omega
  · have := g.1; have := k2r.1
    rw [k3.2 i ω2 ω2, k2r.2 i ω2 ω2, g.2 i h1]
theorem laws_markBands_ok : FnOk Try.prog 35 S_laws_markBands := by
  refine FnOk.body mix_ok E_laws_markBands_ok Try.func35 rfl (by kernel_rfl) (by kernel_rfl) ?_ ?_ ?_ ?_ ?_
  · intro args H K K' h hk
    simp only [S_laws_markBands] at *
    unfold F_laws_markBands at *
    split at hk
    · obtain ⟨lo, lo2, hi, l_a_Coarse, l_a_Details, o1, o2, q1, q2, q3, b1, b2, b3, k⟩ := hk
      exact ⟨lo, lo2, hi, l_a_Coarse, l_a_Details, o1, o2, q1, q2, q3, b1, b2, b3, (fun H' gg ow ow2 => h _ _ (k H' gg ow ow2))⟩
    · exact hk.elim
  · intro hq; cases hq
  · intro args H K hk
    simp only [S_laws_markBands] at *
    unfold F_laws_markBands at *
    split at hk
    · obtain ⟨lo, lo2, hi, l_a_Coarse, l_a_Details, o1, o2, q1, q2, q3, b1, b2, b3, k⟩ := hk
      exact (o1.putR q3 _ (marks_length (FloatKind.nearest .f32) _ _)).elim fun H1 h => ((o2.keepR (Or.inr (Nat.le_refl _)) h.1).puts (markss_length (FloatKind.nearest .f32) _ _) (markss_getD _ _ _)).elim fun H2 h2 => ⟨_, _, k H2 ((h.1.wide (Nat.le_refl _) q2).trans (h2.1.wide q1 (Nat.le_refl _))) (h.2.keepR (fun x hx => Or.inl (q3 x hx)) h2.1) h2.2⟩
    · exact hk.elim
  · intro hq; cases hq
  · have mm := @laws_markBands_main
    have ml := fun (args : List Value) (H : AHeap) (K : Value → AHeap → Prop) => bodyL_body (P := Try.prog) (env := E_laws_markBands ) (fn := Try.f35) (args := args) (H := H) (K := K) E_laws_markBands_ok 
    revert mm ml
    generalize bodyK Try.prog E_laws_markBands Try.f35 = Q
    generalize bodyL Try.prog E_laws_markBands Try.f35 = QL
    intro mm ml args H K hk
    simp only [S_laws_markBands] at *
    unfold F_laws_markBands at *
    split at hk
    · exact ml _ H K (mm _ _ _ _ _ _ _ H K hk)
    · exact hk.elim

def p_laws_heldFloat32S_l1 (l_a : List Nat) (k : Int) : Nat → Int → Int → Int → Int
  | 0, _, _, _ => 0
  | μ + 1, k_1, t4, i => (bif decide ((i : Int) < (l_a.length : Int)) then (bif !(feq .f32 (((l_a).getD (i : Int).toNat 0)) (FloatKind.nearest .f32 k_1)) then ((-1) : Int) else (p_laws_heldFloat32S_l1 l_a k μ (IntKind.wrap .i64 (k_1 + 1)) t4 (i + 1))) else k_1)
def p_laws_heldFloat32S_l1_s := fun l_a k μ k_1 t4 i => @p_laws_heldFloat32S_l1.eq_2 l_a k k_1 t4 i μ
def p_laws_heldFloat32S (l_a : List Nat) (k : Int) : Int := (p_laws_heldFloat32S_l1 l_a k (Int.toNat ((l_a.length : Int) - (0 : Int)) + 1) k (0 : Int) (0 : Int))
def p_laws_heldFloat32S_eq := @p_laws_heldFloat32S.eq_1
def T_laws_heldFloat32S (a_a : Option Addr) (a_n : Nat) (a_e : Nat) (k : Int) (H : AHeap) (K : Int → AHeap → Prop) : Prop := ∃ (l_a : List Nat), IsL fF H a_a a_n l_a ∧ l_a.length < 1073741824 ∧ K (p_laws_heldFloat32S l_a k) H
theorem T_laws_heldFloat32S_i {a_a : Option Addr} {a_n : Nat} {a_e : Nat} {k : Int} {H : AHeap} {K : Int → AHeap → Prop} (h : ∃ (l_a : List Nat), IsL fF H a_a a_n l_a ∧ l_a.length < 1073741824 ∧ K (p_laws_heldFloat32S l_a k) H) : T_laws_heldFloat32S a_a a_n a_e k H K := h
theorem laws_heldFloat32S_go (k0 : Int) : ∀ (μ : Nat) (i : Nat) (pre : List Nat) (k t : Int) (n : Nat), pre.length = i → n < μ →
    p_laws_heldFloat32S_l1 (pre ++ marks (FloatKind.nearest .f32) k n) k0 μ k t (i : Int) = wk k n := by
  intro μ
  induction μ with
  | zero => intro i pre k t n _ h; omega
  | succ μ ih =>
    intro i pre k t n hp hm
    rw [p_laws_heldFloat32S_l1_s]
    have hl : (pre ++ marks (FloatKind.nearest .f32) k n).length = i + n := by rw [List.length_append, hp, marks_length]
    rw [hl]
    cases n with
    | zero => rw [decide_eq_false (show ¬ (i : Int) < ((i + 0 : Nat) : Int) by omega), cond_false]; rfl
    | succ n =>
      rw [decide_eq_true (show (i : Int) < ((i + (n + 1) : Nat) : Int) by omega), cond_true, Int.toNat_natCast]
      have hx : (pre ++ marks (FloatKind.nearest .f32) k (n + 1)).getD i 0 = (FloatKind.nearest .f32) k := by
        rw [List.getD_eq_getElem?_getD, List.getElem?_append_right ω2, hp, Nat.sub_self]; rfl
      rw [hx]
      have hq : (!(feq .f32 (FloatKind.nearest .f32 k) (FloatKind.nearest .f32 k))) = false := by rw [feq_nearest]; rfl
      simp only [hq, cond_false]
      have := ih (i + 1) (pre ++ [(FloatKind.nearest .f32) k]) (IntKind.wrap .i64 (k + 1)) t n (by simp [hp]) ω2
      rw [List.append_assoc] at this
      rw [wk]; exact this
theorem laws_heldFloat32S_marks (k : Int) (n : Nat) : p_laws_heldFloat32S (marks (FloatKind.nearest .f32) k n) k = wk k n := by
  rw [p_laws_heldFloat32S_eq]
  have := laws_heldFloat32S_go k (Int.toNat (((marks (FloatKind.nearest .f32) k n).length : Int) - 0) + 1) 0 [] k 0 n rfl (by rw [marks_length]; omega)
  simpa using this
/-! laws_heldFloat32S: function 26 -/
def E_laws_heldFloat32S : Env := envOf []
def F_laws_heldFloat32S : List Value → AHeap → (Value → AHeap → Prop) → Prop
  | [.slice a_a a_n a_e, .int .i64 k], H, K => T_laws_heldFloat32S a_a a_n a_e k H fun (r1 : Int) (H' : AHeap) => K (.int .i64 r1) H'
  | _, _, _ => False
def S_laws_heldFloat32S : FSpec := { F := F_laws_heldFloat32S, quiet := true, tame := false }
theorem laws_heldFloat32S_vc (a_a : Option Addr) (a_n : Nat) (a_e : Nat) (k : Int) (H : AHeap) (K : Value → AHeap → Prop) : bodyL Try.prog E_laws_heldFloat32S Try.f26 [.slice a_a a_n a_e, .int .i64 k] H K =
  (loopK (exL Try.prog E_laws_heldFloat32S (cl (cl (cr (cl (cr (bodyC Try.f26)))))) 35 16 [(0, 2)]) [.slice a_a a_n a_e, .int .i64 k, ud, ud, ud, .int .i64 0, ud, ud, ud, ud, ud, ud, ud, ud, ud, ud, ud, ud, ud, ud, ud, ud] H (blockQ 0 (seqQ (exL Try.prog E_laws_heldFloat32S (cr (cr (bodyC Try.f26))) 16 16 []) (retK Try.prog Try.f26 K)))) := by kernel_rfl
abbrev laws_heldFloat32S_P1 (a_a : Option Addr) (a_e : Nat) (a_n : Nat) (k_1 : Int) (i : Int)  : List Value := [.slice a_a a_n a_e, .int .i64 k_1, ud, ud, ud, .int .i64 i, ud, ud, ud, ud, ud, ud, ud, ud, ud, ud, ud, ud, ud, ud, ud, ud]
theorem laws_heldFloat32S_r1 (a_a : Option Addr) (a_e : Nat) (a_n : Nat) (k_1 : Int) (i : Int)  (H : AHeap) (R : Post) : exL Try.prog E_laws_heldFloat32S (cl (cl (cr (cl (cr (bodyC Try.f26)))))) 35 16 [(0, 2)] (laws_heldFloat32S_P1 a_a a_e a_n k_1 i) H R =
  (Br (decide ((i : Int) < (a_n : Int))) ((0 : Int) ≤ i ∧ i < (a_n : Int) ∧ ∃ b1 f1, (a_a : Option Addr) = some ⟨b1, f1, none⟩ ∧ ∃ x1 : Nat,  rdC H b1 (f1 + (i : Int).toNat * 1) = some (.float .f32 x1) ∧ Br (!(feq .f32 x1 (FloatKind.nearest .f32 k_1))) (R .ret [ud, ud, ud, ud, .int .i64 (-1), ud, ud, ud, ud, ud, ud, ud, ud, ud, ud, ud, ud, ud, ud, ud, ud, ud] H) (R .normal [.slice a_a a_n a_e, .int .i64 (IntKind.wrap .i64 (k_1 + 1)), ud, ud, ud, .int .i64 (IntKind.wrap .i64 (i + 1)), ud, ud, ud, ud, ud, ud, ud, ud, ud, ud, ud, ud, ud, ud, ud, ud] H)) (R (.exit 0) [ud, .int .i64 k_1, ud, ud, ud, ud, ud, ud, ud, ud, ud, ud, ud, ud, ud, ud, ud, ud, ud, ud, ud, ud] H)) := by kernel_rfl
def laws_heldFloat32S_I1 (a_a : Option Addr) (a_e : Nat) (a_n : Nat) (Inv : Nat → Int → Int → AHeap → Prop) : Nat → List Value → AHeap → Prop := fun μ tm H => ∃ (k_1 : Int), ∃ (i : Int), tm = (laws_heldFloat32S_P1 a_a a_e a_n k_1 i) ∧ Inv μ k_1 i H
theorem laws_heldFloat32S_L1 (a_a : Option Addr) (a_e : Nat) (a_n : Nat) {Q : Post} (Inv : Nat → Int → Int → AHeap → Prop) (ν : Nat) (k_1 : Int) (i : Int)  (H : AHeap) (h0 : Inv ν k_1 i H)
    (hs : ∀ (μ : Nat) (k_1 : Int) (i : Int)  (H : AHeap), Inv μ k_1 i H → exL Try.prog E_laws_heldFloat32S (cl (cl (cr (cl (cr (bodyC Try.f26)))))) 35 16 [(0, 2)] (laws_heldFloat32S_P1 a_a a_e a_n k_1 i) H (loopQ (laws_heldFloat32S_I1 a_a a_e a_n Inv) μ Q)) : loopK (exL Try.prog E_laws_heldFloat32S (cl (cl (cr (cl (cr (bodyC Try.f26)))))) 35 16 [(0, 2)]) (laws_heldFloat32S_P1 a_a a_e a_n k_1 i) H Q :=
  ⟨laws_heldFloat32S_I1 a_a a_e a_n Inv, ν, ⟨k_1, i, rfl, h0⟩, fun μ tm H h => by obtain ⟨k_1, i, rfl, hI⟩ := h; exact hs μ k_1 i  H hI⟩
theorem laws_heldFloat32S_n1 {a_a : Option Addr} {a_e : Nat} {a_n : Nat} {Q : Post} {Inv : Nat → Int → Int → AHeap → Prop} {μ : Nat} (μ' : Nat) {k_1 : Int} {i : Int}  {H : AHeap} (hm : μ' < μ) (hI : Inv μ' k_1 i H) : loopQ (laws_heldFloat32S_I1 a_a a_e a_n Inv) μ Q .normal (laws_heldFloat32S_P1 a_a a_e a_n k_1 i) H := ⟨μ', hm, k_1, i, rfl, hI⟩
theorem laws_heldFloat32S_x1_0 (k_1 : Int) (H : AHeap) (K : Value → AHeap → Prop)  {I : Nat → List Value → AHeap → Prop} {μ : Nat} : loopQ I μ (blockQ 0 (seqQ (exL Try.prog E_laws_heldFloat32S (cr (cr (bodyC Try.f26))) 16 16 []) (retK Try.prog Try.f26 K))) (.exit 0) [ud, .int .i64 k_1, ud, ud, ud, ud, ud, ud, ud, ud, ud, ud, ud, ud, ud, ud, ud, ud, ud, ud, ud, ud] H =
  (K (.int .i64 k_1) H) := by kernel_rfl
theorem laws_heldFloat32S_x1_ret (t4 : Int) (H : AHeap) (K : Value → AHeap → Prop)  {I : Nat → List Value → AHeap → Prop} {μ : Nat} : loopQ I μ (blockQ 0 (seqQ (exL Try.prog E_laws_heldFloat32S (cr (cr (bodyC Try.f26))) 16 16 []) (retK Try.prog Try.f26 K))) .ret [ud, ud, ud, ud, .int .i64 t4, ud, ud, ud, ud, ud, ud, ud, ud, ud, ud, ud, ud, ud, ud, ud, ud, ud] H =
  (K (.int .i64 t4) H) := by kernel_rfl
theorem E_laws_heldFloat32S_ok : ∀ g, FnOk Try.prog g (E_laws_heldFloat32S g) := FnOk.envOf (by
  intro x hx; cases hx)
set_option maxHeartbeats 1000000 in
theorem laws_heldFloat32S_main (a_a : Option Addr) (a_n : Nat) (a_e : Nat) (k : Int) (H : AHeap) (K : Value → AHeap → Prop) (h : T_laws_heldFloat32S a_a a_n a_e k H fun (r1 : Int) (H' : AHeap) => K (.int .i64 r1) H') : bodyL Try.prog E_laws_heldFloat32S Try.f26 [.slice a_a a_n a_e, .int .i64 k] H K := by
  rw [laws_heldFloat32S_vc]
  obtain ⟨l_a, i_a, bd_9, hk⟩ := h
  obtain rfl := i_a.eqn
  have e : (p_laws_heldFloat32S l_a k) = _ := rfl
  have e := e.trans (p_laws_heldFloat32S_eq l_a k)
  have g0 := Grow.refl H
  refine laws_heldFloat32S_L1 _ _ _ (fun (μ : Nat) (k_1 : Int) (i : Int) (H_1 : AHeap) => ∃ (t4 : Int), H = H_1 ∧ (0 : Int) ≤ i ∧ i ≤ (l_a.length : Int) ∧ (l_a.length : Int) - i ≤ (μ : Int) ∧ p_laws_heldFloat32S l_a k = p_laws_heldFloat32S_l1 l_a k (μ + 1) k_1 t4 i) (Int.toNat ((l_a.length : Int) - (0 : Int))) _ _ H ?_ ?_
  · exact ⟨_, rfl, ω3, ω3, ω2, e⟩
  · intro μ k_1 i  H_1 hI
    obtain ⟨t4, rfl, v_1, v_2, hμ, e⟩ := hI
    rw [laws_heldFloat32S_r1]
    have e := e.trans (p_laws_heldFloat32S_l1_s l_a k μ k_1 t4 i)
    have l_3 := g0.1
    refine Br.intro (fun c_4 => ?_) (fun c_4 => ?_)
    · have e := e.trans (cond_t c_4)
      have c_4' := of_decide_eq_true c_4
      obtain ⟨b_5, f_6, q_7⟩ := ((i_a.grow g0)).pos ω0
      refine ⟨by omega, by omega, b_5, f_6, q_7, ?_⟩
      refine ⟨((l_a).getD (i : Int).toNat 0), (i_a).rd g0 q_7 ω2 _, ?_⟩
      refine Br.intro (fun c_8 => ?_) (fun c_8 => ?_)
      · have e := e.trans (cond_t c_8)
        have c_8n := nf_of_t c_8
        rw [laws_heldFloat32S_x1_ret]
        rw [e] at hk
        exact hk
      · have e := e.trans (cond_f c_8)
        have c_8n := nt_of_f c_8
        rw [show IntKind.wrap .i64 (i + 1) = (i + 1) from wrap64 ω2 ω2]
        refine laws_heldFloat32S_n1 (μ - 1) ω8 ⟨_, rfl, ω1, ω1, ω8, (by rw [show μ - 1 + 1 = μ from by first | omega]; exact e)⟩
    · have e := e.trans (cond_f c_4)
      have c_4' := of_decide_eq_false c_4
      rw [laws_heldFloat32S_x1_0]
      rw [e] at hk
      exact hk
theorem laws_heldFloat32S_ok : FnOk Try.prog 26 S_laws_heldFloat32S := by
  refine FnOk.body mix_ok E_laws_heldFloat32S_ok Try.func26 rfl (by kernel_rfl) (by kernel_rfl) ?_ ?_ ?_ ?_ ?_
  · intro args H K K' h hk
    simp only [S_laws_heldFloat32S] at *
    unfold F_laws_heldFloat32S at *
    split at hk
    · obtain ⟨l_a, i_a, bd_9, k⟩ := hk
      exact ⟨l_a, i_a, bd_9, h _ _ k⟩
    · exact hk.elim
  · intro _ args H K hk
    simp only [S_laws_heldFloat32S] at *
    unfold F_laws_heldFloat32S at *
    split at hk
    · obtain ⟨l_a, i_a, bd_9, k⟩ := hk
      exact ⟨_, k, fun K' k' => ⟨l_a, i_a, bd_9, k'⟩⟩
    · exact hk.elim
  · intro args H K hk
    simp only [S_laws_heldFloat32S] at *
    unfold F_laws_heldFloat32S at *
    split at hk
    · obtain ⟨l_a, i_a, bd_9, k⟩ := hk
      exact ⟨_, _, k⟩
    · exact hk.elim
  · intro hq; cases hq
  · have mm := @laws_heldFloat32S_main
    have ml := fun (args : List Value) (H : AHeap) (K : Value → AHeap → Prop) => bodyL_body (P := Try.prog) (env := E_laws_heldFloat32S ) (fn := Try.f26) (args := args) (H := H) (K := K) E_laws_heldFloat32S_ok 
    revert mm ml
    generalize bodyK Try.prog E_laws_heldFloat32S Try.f26 = Q
    generalize bodyL Try.prog E_laws_heldFloat32S Try.f26 = QL
    intro mm ml args H K hk
    simp only [S_laws_heldFloat32S] at *
    unfold F_laws_heldFloat32S at *
    split at hk
    · exact ml _ H K (mm _ _ _ _ H K hk)
    · exact hk.elim

def p_laws_heldFloat32SS_l1 (l_a : List (List Nat)) (k : Int) : Nat → Int → Int → Int → Int
  | 0, _, _, _ => 0
  | μ + 1, k_1, t4, i => (bif decide ((i : Int) < (l_a.length : Int)) then (bif decide (((p_laws_heldFloat32S (((l_a).getD (i : Int).toNat [])) k_1) : Int) < 0) then ((-1) : Int) else (p_laws_heldFloat32SS_l1 l_a k μ ((p_laws_heldFloat32S (((l_a).getD (i : Int).toNat [])) k_1)) t4 (i + 1))) else k_1)
def p_laws_heldFloat32SS_l1_s := fun l_a k μ k_1 t4 i => @p_laws_heldFloat32SS_l1.eq_2 l_a k k_1 t4 i μ
def p_laws_heldFloat32SS (l_a : List (List Nat)) (k : Int) : Int := (p_laws_heldFloat32SS_l1 l_a k (Int.toNat ((l_a.length : Int) - (0 : Int)) + 1) k (0 : Int) (0 : Int))
def p_laws_heldFloat32SS_eq := @p_laws_heldFloat32SS.eq_1
def T_laws_heldFloat32SS (a_a : Option Addr) (a_n : Nat) (a_e : Nat) (k : Int) (H : AHeap) (K : Int → AHeap → Prop) : Prop := ∃ (l_a : List (List Nat)), IsLL fF H a_a a_n l_a ∧ l_a.length < 1073741824 ∧ (∀ y ∈ l_a, y.length < 1073741824) ∧ K (p_laws_heldFloat32SS l_a k) H
theorem T_laws_heldFloat32SS_i {a_a : Option Addr} {a_n : Nat} {a_e : Nat} {k : Int} {H : AHeap} {K : Int → AHeap → Prop} (h : ∃ (l_a : List (List Nat)), IsLL fF H a_a a_n l_a ∧ l_a.length < 1073741824 ∧ (∀ y ∈ l_a, y.length < 1073741824) ∧ K (p_laws_heldFloat32SS l_a k) H) : T_laws_heldFloat32SS a_a a_n a_e k H K := h
theorem laws_heldFloat32SS_go (k0 : Int) : ∀ (μ : Nat) (P r : List (List Nat)) (k t : Int), r.length < μ → 0 ≤ k → k + tot r ≤ 9223372036854775807 →
    p_laws_heldFloat32SS_l1 (P ++ markss (FloatKind.nearest .f32) k r) k0 μ k t (P.length : Int) = wkk k r := by
  intro μ
  induction μ with
  | zero => intro P r k t h; omega
  | succ μ ih =>
    intro P r k t hm h0 h1
    rw [p_laws_heldFloat32SS_l1_s]
    have hl : (P ++ markss (FloatKind.nearest .f32) k r).length = P.length + r.length := by rw [List.length_append, markss_length]
    rw [hl]
    cases r with
    | nil => rw [decide_eq_false (show ¬ (P.length : Int) < ((P.length + ([] : List (List Nat)).length : Nat) : Int) by simp), cond_false]; rfl
    | cons y r =>
      simp only [List.length_cons] at hm
      have ht : tot (y :: r) = y.length + tot r := by simp [tot]
      rw [ht] at h1
      have hw := wk_eq y.length k h0 ω2
      have hx : (P ++ markss (FloatKind.nearest .f32) k (y :: r)).getD (P.length : Int).toNat [] = marks (FloatKind.nearest .f32) k y.length := by
        rw [Int.toNat_natCast, List.getD_eq_getElem?_getD, List.getElem?_append_right (Nat.le_refl _), Nat.sub_self]; rfl
      rw [decide_eq_true (show (P.length : Int) < ((P.length + (y :: r).length : Nat) : Int) by simp; omega), cond_true, hx, laws_heldFloat32S_marks, decide_eq_false (show ¬ wk k y.length < (0 : Int) by omega), cond_false]
      have := ih (P ++ [marks (FloatKind.nearest .f32) k y.length]) r (wk k y.length) t ω2 ω2 ω2
      rw [List.append_assoc, List.length_append] at this
      exact this
theorem laws_heldFloat32SS_marks (l : List (List Nat)) (k : Int) (h0 : 0 ≤ k) (h1 : k + tot l ≤ 9223372036854775807) : p_laws_heldFloat32SS (markss (FloatKind.nearest .f32) k l) k = wkk k l := by
  rw [p_laws_heldFloat32SS_eq]
  have := laws_heldFloat32SS_go k (Int.toNat (((markss (FloatKind.nearest .f32) k l).length : Int) - 0) + 1) [] l k 0 (by rw [markss_length]; omega) h0 h1
  simpa using this
theorem tot_le {m : Nat} : ∀ {l : List (List Nat)}, (∀ y ∈ l, y.length ≤ m) → tot l ≤ l.length * m := by
  intro l
  induction l with
  | nil => intro _; simp [tot]
  | cons y r ih =>
    intro h
    have h1 := ih fun z hz => h z (List.mem_cons_of_mem _ hz)
    have h2 := h y (List.mem_cons_self ..)
    have : tot (y :: r) = y.length + tot r := by simp [tot]
    rw [this, List.length_cons, Nat.succ_mul]; omega
theorem tot_big {l : List (List Nat)} (h : l.length ≤ 1073741824) (hy : ∀ y ∈ l, y.length < 1073741824) : tot l ≤ 1152921504606846976 :=
  Nat.le_trans (tot_le fun y h => Nat.le_of_lt (hy y h)) (Nat.mul_le_mul_right 1073741824 h)
/-! laws_heldFloat32SS: function 125 -/
def E_laws_heldFloat32SS : Env := envOf [(26, S_laws_heldFloat32S)]
def F_laws_heldFloat32SS : List Value → AHeap → (Value → AHeap → Prop) → Prop
  | [.slice a_a a_n a_e, .int .i64 k], H, K => T_laws_heldFloat32SS a_a a_n a_e k H fun (r1 : Int) (H' : AHeap) => K (.int .i64 r1) H'
  | _, _, _ => False
def S_laws_heldFloat32SS : FSpec := { F := F_laws_heldFloat32SS, quiet := true, tame := false }
theorem laws_heldFloat32SS_vc (a_a : Option Addr) (a_n : Nat) (a_e : Nat) (k : Int) (H : AHeap) (K : Value → AHeap → Prop) : bodyL Try.prog E_laws_heldFloat32SS Try.f125 [.slice a_a a_n a_e, .int .i64 k] H K =
  (loopK (exL Try.prog E_laws_heldFloat32SS (cl (cl (cr (cl (cr (bodyC Try.f125)))))) 35 16 [(0, 2)]) [.slice a_a a_n a_e, .int .i64 k, ud, ud, ud, .int .i64 0, ud, ud, ud, ud, ud, ud, ud, ud, ud, ud, ud, ud, ud, ud, ud] H (blockQ 0 (seqQ (exL Try.prog E_laws_heldFloat32SS (cr (cr (bodyC Try.f125))) 16 16 []) (retK Try.prog Try.f125 K)))) := by kernel_rfl
abbrev laws_heldFloat32SS_P1 (a_a : Option Addr) (a_e : Nat) (a_n : Nat) (k_1 : Int) (i : Int)  : List Value := [.slice a_a a_n a_e, .int .i64 k_1, ud, ud, ud, .int .i64 i, ud, ud, ud, ud, ud, ud, ud, ud, ud, ud, ud, ud, ud, ud, ud]
theorem laws_heldFloat32SS_r1 (a_a : Option Addr) (a_e : Nat) (a_n : Nat) (k_1 : Int) (i : Int)  (H : AHeap) (R : Post) : exL Try.prog E_laws_heldFloat32SS (cl (cl (cr (cl (cr (bodyC Try.f125)))))) 35 16 [(0, 2)] (laws_heldFloat32SS_P1 a_a a_e a_n k_1 i) H R =
  (Br (decide ((i : Int) < (a_n : Int))) ((0 : Int) ≤ i ∧ i < (a_n : Int) ∧ ∃ b1 f1, (a_a : Option Addr) = some ⟨b1, f1, none⟩ ∧ ∃ x1_a : Option Addr, ∃ x1_n : Nat, ∃ x1_e : Nat,  rdC H b1 (f1 + (i : Int).toNat * 1) = some (.slice x1_a x1_n x1_e) ∧ T_laws_heldFloat32S x1_a x1_n x1_e k_1 H fun (r1 : Int) (H1 : AHeap) => Br (decide ((r1 : Int) < 0)) (R .ret [ud, ud, ud, ud, .int .i64 (-1), ud, ud, ud, ud, ud, ud, ud, ud, ud, ud, ud, ud, ud, ud, ud, ud] H1) (R .normal [.slice a_a a_n a_e, .int .i64 r1, ud, ud, ud, .int .i64 (IntKind.wrap .i64 (i + 1)), ud, ud, ud, ud, ud, ud, ud, ud, ud, ud, ud, ud, ud, ud, ud] H1)) (R (.exit 0) [ud, .int .i64 k_1, ud, ud, ud, ud, ud, ud, ud, ud, ud, ud, ud, ud, ud, ud, ud, ud, ud, ud, ud] H)) := by kernel_rfl
def laws_heldFloat32SS_I1 (a_a : Option Addr) (a_e : Nat) (a_n : Nat) (Inv : Nat → Int → Int → AHeap → Prop) : Nat → List Value → AHeap → Prop := fun μ tm H => ∃ (k_1 : Int), ∃ (i : Int), tm = (laws_heldFloat32SS_P1 a_a a_e a_n k_1 i) ∧ Inv μ k_1 i H
theorem laws_heldFloat32SS_L1 (a_a : Option Addr) (a_e : Nat) (a_n : Nat) {Q : Post} (Inv : Nat → Int → Int → AHeap → Prop) (ν : Nat) (k_1 : Int) (i : Int)  (H : AHeap) (h0 : Inv ν k_1 i H)
    (hs : ∀ (μ : Nat) (k_1 : Int) (i : Int)  (H : AHeap), Inv μ k_1 i H → exL Try.prog E_laws_heldFloat32SS (cl (cl (cr (cl (cr (bodyC Try.f125)))))) 35 16 [(0, 2)] (laws_heldFloat32SS_P1 a_a a_e a_n k_1 i) H (loopQ (laws_heldFloat32SS_I1 a_a a_e a_n Inv) μ Q)) : loopK (exL Try.prog E_laws_heldFloat32SS (cl (cl (cr (cl (cr (bodyC Try.f125)))))) 35 16 [(0, 2)]) (laws_heldFloat32SS_P1 a_a a_e a_n k_1 i) H Q :=
  ⟨laws_heldFloat32SS_I1 a_a a_e a_n Inv, ν, ⟨k_1, i, rfl, h0⟩, fun μ tm H h => by obtain ⟨k_1, i, rfl, hI⟩ := h; exact hs μ k_1 i  H hI⟩
theorem laws_heldFloat32SS_n1 {a_a : Option Addr} {a_e : Nat} {a_n : Nat} {Q : Post} {Inv : Nat → Int → Int → AHeap → Prop} {μ : Nat} (μ' : Nat) {k_1 : Int} {i : Int}  {H : AHeap} (hm : μ' < μ) (hI : Inv μ' k_1 i H) : loopQ (laws_heldFloat32SS_I1 a_a a_e a_n Inv) μ Q .normal (laws_heldFloat32SS_P1 a_a a_e a_n k_1 i) H := ⟨μ', hm, k_1, i, rfl, hI⟩
theorem laws_heldFloat32SS_x1_0 (k_1 : Int) (H : AHeap) (K : Value → AHeap → Prop)  {I : Nat → List Value → AHeap → Prop} {μ : Nat} : loopQ I μ (blockQ 0 (seqQ (exL Try.prog E_laws_heldFloat32SS (cr (cr (bodyC Try.f125))) 16 16 []) (retK Try.prog Try.f125 K))) (.exit 0) [ud, .int .i64 k_1, ud, ud, ud, ud, ud, ud, ud, ud, ud, ud, ud, ud, ud, ud, ud, ud, ud, ud, ud] H =
  (K (.int .i64 k_1) H) := by kernel_rfl
theorem laws_heldFloat32SS_x1_ret (t4 : Int) (H : AHeap) (K : Value → AHeap → Prop)  {I : Nat → List Value → AHeap → Prop} {μ : Nat} : loopQ I μ (blockQ 0 (seqQ (exL Try.prog E_laws_heldFloat32SS (cr (cr (bodyC Try.f125))) 16 16 []) (retK Try.prog Try.f125 K))) .ret [ud, ud, ud, ud, .int .i64 t4, ud, ud, ud, ud, ud, ud, ud, ud, ud, ud, ud, ud, ud, ud, ud, ud] H =
  (K (.int .i64 t4) H) := by kernel_rfl
theorem E_laws_heldFloat32SS_ok : ∀ g, FnOk Try.prog g (E_laws_heldFloat32SS g) := FnOk.envOf (by
  intro x hx
  simp only [List.mem_cons, List.not_mem_nil, or_false] at hx
  subst hx; exact laws_heldFloat32S_ok)
set_option maxHeartbeats 1000000 in
theorem laws_heldFloat32SS_main (a_a : Option Addr) (a_n : Nat) (a_e : Nat) (k : Int) (H : AHeap) (K : Value → AHeap → Prop) (h : T_laws_heldFloat32SS a_a a_n a_e k H fun (r1 : Int) (H' : AHeap) => K (.int .i64 r1) H') : bodyL Try.prog E_laws_heldFloat32SS Try.f125 [.slice a_a a_n a_e, .int .i64 k] H K := by
  rw [laws_heldFloat32SS_vc]
  obtain ⟨l_a, i_a, bd_15, bb_l_a, hk⟩ := h
  obtain rfl := i_a.eqn
  have e : (p_laws_heldFloat32SS l_a k) = _ := rfl
  have e := e.trans (p_laws_heldFloat32SS_eq l_a k)
  have g0 := Grow.refl H
  refine laws_heldFloat32SS_L1 _ _ _ (fun (μ : Nat) (k_1 : Int) (i : Int) (H_1 : AHeap) => ∃ (t4 : Int), H = H_1 ∧ (0 : Int) ≤ i ∧ i ≤ (l_a.length : Int) ∧ (l_a.length : Int) - i ≤ (μ : Int) ∧ p_laws_heldFloat32SS l_a k = p_laws_heldFloat32SS_l1 l_a k (μ + 1) k_1 t4 i) (Int.toNat ((l_a.length : Int) - (0 : Int))) _ _ H ?_ ?_
  · exact ⟨_, rfl, ω3, ω3, ω2, e⟩
  · intro μ k_1 i  H_1 hI
    obtain ⟨t4, rfl, v_1, v_2, hμ, e⟩ := hI
    rw [laws_heldFloat32SS_r1]
    have e := e.trans (p_laws_heldFloat32SS_l1_s l_a k μ k_1 t4 i)
    have l_3 := g0.1
    refine Br.intro (fun c_4 => ?_) (fun c_4 => ?_)
    · have e := e.trans (cond_t c_4)
      have c_4' := of_decide_eq_true c_4
      obtain ⟨b_5, f_6, q_7⟩ := ((i_a.grow g0)).pos ω0
      refine ⟨by omega, by omega, b_5, f_6, q_7, ?_⟩
      obtain ⟨a_8, n_9, e_10, r_11, i_12⟩ := (i_a).rd (i := (i : Int).toNat) g0 q_7 ω2
      obtain rfl := i_12.eqn
      refine ⟨a_8, _, e_10, r_11, ?_⟩
      have z_13 := getD_len bb_l_a (i : Int).toNat
      refine T_laws_heldFloat32S_i ⟨_, (i_12.grow g0), ω0, ?_⟩
      refine Br.intro (fun c_14 => ?_) (fun c_14 => ?_)
      · have e := e.trans (cond_t c_14)
        have c_14' := of_decide_eq_true c_14
        rw [laws_heldFloat32SS_x1_ret]
        rw [e] at hk
        exact hk
      · have e := e.trans (cond_f c_14)
        have c_14' := of_decide_eq_false c_14
        rw [show IntKind.wrap .i64 (i + 1) = (i + 1) from wrap64 ω2 ω2]
        refine laws_heldFloat32SS_n1 (μ - 1) ω8 ⟨_, rfl, ω1, ω1, ω8, (by rw [show μ - 1 + 1 = μ from by first | omega]; exact e)⟩
    · have e := e.trans (cond_f c_4)
      have c_4' := of_decide_eq_false c_4
      rw [laws_heldFloat32SS_x1_0]
      rw [e] at hk
      exact hk
theorem laws_heldFloat32SS_ok : FnOk Try.prog 125 S_laws_heldFloat32SS := by
  refine FnOk.body mix_ok E_laws_heldFloat32SS_ok Try.func125 rfl (by kernel_rfl) (by kernel_rfl) ?_ ?_ ?_ ?_ ?_
  · intro args H K K' h hk
    simp only [S_laws_heldFloat32SS] at *
    unfold F_laws_heldFloat32SS at *
    split at hk
    · obtain ⟨l_a, i_a, bd_15, bb_l_a, k⟩ := hk
      exact ⟨l_a, i_a, bd_15, bb_l_a, h _ _ k⟩
    · exact hk.elim
  · intro _ args H K hk
    simp only [S_laws_heldFloat32SS] at *
    unfold F_laws_heldFloat32SS at *
    split at hk
    · obtain ⟨l_a, i_a, bd_15, bb_l_a, k⟩ := hk
      exact ⟨_, k, fun K' k' => ⟨l_a, i_a, bd_15, bb_l_a, k'⟩⟩
    · exact hk.elim
  · intro args H K hk
    simp only [S_laws_heldFloat32SS] at *
    unfold F_laws_heldFloat32SS at *
    split at hk
    · obtain ⟨l_a, i_a, bd_15, bb_l_a, k⟩ := hk
      exact ⟨_, _, k⟩
    · exact hk.elim
  · intro hq; cases hq
  · have mm := @laws_heldFloat32SS_main
    have ml := fun (args : List Value) (H : AHeap) (K : Value → AHeap → Prop) => bodyL_body (P := Try.prog) (env := E_laws_heldFloat32SS ) (fn := Try.f125) (args := args) (H := H) (K := K) E_laws_heldFloat32SS_ok 
    revert mm ml
    generalize bodyK Try.prog E_laws_heldFloat32SS Try.f125 = Q
    generalize bodyL Try.prog E_laws_heldFloat32SS Try.f125 = QL
    intro mm ml args H K hk
    simp only [S_laws_heldFloat32SS] at *
    unfold F_laws_heldFloat32SS at *
    split at hk
    · exact ml _ H K (mm _ _ _ _ H K hk)
    · exact hk.elim

def p_laws_heldBands (l_a_Coarse : List Nat) (l_a_Details : List (List Nat)) (k : Int) : Int := (bif decide (((p_laws_heldFloat32S l_a_Coarse k) : Int) < 0) then ((-1) : Int) else (bif decide (((p_laws_heldFloat32SS l_a_Details (p_laws_heldFloat32S l_a_Coarse k)) : Int) < 0) then ((-1) : Int) else (p_laws_heldFloat32SS l_a_Details (p_laws_heldFloat32S l_a_Coarse k))))
def p_laws_heldBands_eq := @p_laws_heldBands.eq_1
def T_laws_heldBands (a_Coarse_a : Option Addr) (a_Coarse_n : Nat) (a_Coarse_e : Nat) (a_Details_a : Option Addr) (a_Details_n : Nat) (a_Details_e : Nat) (k : Int) (H : AHeap) (K : Int → AHeap → Prop) : Prop := ∃ (l_a_Coarse : List Nat), ∃ (l_a_Details : List (List Nat)), IsL fF H a_Coarse_a a_Coarse_n l_a_Coarse ∧ IsLL fF H a_Details_a a_Details_n l_a_Details ∧ l_a_Coarse.length < 1073741824 ∧ l_a_Details.length < 1073741824 ∧ (∀ y ∈ l_a_Details, y.length < 1073741824) ∧ ((∀ H' : AHeap, Grow H H' → K (p_laws_heldBands l_a_Coarse l_a_Details k) H'))
theorem T_laws_heldBands_i {a_Coarse_a : Option Addr} {a_Coarse_n : Nat} {a_Coarse_e : Nat} {a_Details_a : Option Addr} {a_Details_n : Nat} {a_Details_e : Nat} {k : Int} {H : AHeap} {K : Int → AHeap → Prop} (h : ∃ (l_a_Coarse : List Nat), ∃ (l_a_Details : List (List Nat)), IsL fF H a_Coarse_a a_Coarse_n l_a_Coarse ∧ IsLL fF H a_Details_a a_Details_n l_a_Details ∧ l_a_Coarse.length < 1073741824 ∧ l_a_Details.length < 1073741824 ∧ (∀ y ∈ l_a_Details, y.length < 1073741824) ∧ ((∀ H' : AHeap, Grow H H' → K (p_laws_heldBands l_a_Coarse l_a_Details k) H'))) : T_laws_heldBands a_Coarse_a a_Coarse_n a_Coarse_e a_Details_a a_Details_n a_Details_e k H K := h
theorem laws_heldBands_marks (C : List Nat) (D : List (List Nat)) (hc : C.length < 1073741824) (hd : D.length ≤ 1073741824) (hy : ∀ y ∈ D, y.length < 1073741824) :
    p_laws_heldBands (marks (FloatKind.nearest .f32) 1 C.length) (markss (FloatKind.nearest .f32) (wk 1 C.length) D) 1 = wkk (wk 1 C.length) D ∧ wkk (wk 1 C.length) D = 1 + C.length + tot D ∧ tot D ≤ 1152921504606846976 := by
  have ht := tot_big hd hy
  have hw := wk_eq C.length 1 ω2 ω2
  have hv := wk_eq (tot D) (wk 1 C.length) ω2 ω2
  rw [p_laws_heldBands_eq, laws_heldFloat32S_marks, decide_eq_false (show ¬ wk 1 C.length < (0 : Int) by omega), cond_false, laws_heldFloat32SS_marks D _ ω2 ω2, wkk_wk, hv,
    decide_eq_false (show ¬ wk 1 C.length + (tot D : Int) < (0 : Int) by omega), cond_false]
  exact ⟨rfl, by omega, ht⟩
/-! laws_heldBands: function 36 -/
def E_laws_heldBands : Env := envOf [(26, S_laws_heldFloat32S), (125, S_laws_heldFloat32SS)]
def F_laws_heldBands : List Value → AHeap → (Value → AHeap → Prop) → Prop
  | [.agg ⟨[.slice a_Coarse_a a_Coarse_n a_Coarse_e, .slice a_Details_a a_Details_n a_Details_e]⟩, .int .i64 k], H, K => T_laws_heldBands a_Coarse_a a_Coarse_n a_Coarse_e a_Details_a a_Details_n a_Details_e k H fun (r1 : Int) (H' : AHeap) => K (.int .i64 r1) H'
  | _, _, _ => False
def S_laws_heldBands : FSpec := { F := F_laws_heldBands, quiet := false, tame := true }
theorem laws_heldBands_vc (a_Coarse_a : Option Addr) (a_Coarse_n : Nat) (a_Coarse_e : Nat) (a_Details_a : Option Addr) (a_Details_n : Nat) (a_Details_e : Nat) (k : Int) (H : AHeap) (K : Value → AHeap → Prop) : bodyL Try.prog E_laws_heldBands Try.f36 [.agg #[.slice a_Coarse_a a_Coarse_n a_Coarse_e, .slice a_Details_a a_Details_n a_Details_e], .int .i64 k] H K =
  (Al [.slice a_Coarse_a a_Coarse_n a_Coarse_e, .slice a_Details_a a_Details_n a_Details_e] H fun b1 H1 => ∃ x1_a : Option Addr, ∃ x1_n : Nat, ∃ x1_e : Nat,  rdC H1 b1 0 = some (.slice x1_a x1_n x1_e) ∧ T_laws_heldFloat32S x1_a x1_n x1_e k H1 fun (r1 : Int) (H2 : AHeap) => Br (decide ((r1 : Int) < 0)) (K (.int .i64 (-1)) H2) (∃ x2_a : Option Addr, ∃ x2_n : Nat, ∃ x2_e : Nat,  rdC H2 b1 1 = some (.slice x2_a x2_n x2_e) ∧ T_laws_heldFloat32SS x2_a x2_n x2_e r1 H2 fun (r2 : Int) (H3 : AHeap) => Br (decide ((r2 : Int) < 0)) (K (.int .i64 (-1)) H3) (K (.int .i64 r2) H3))) := by kernel_rfl
theorem E_laws_heldBands_ok : ∀ g, FnOk Try.prog g (E_laws_heldBands g) := FnOk.envOf (by
  intro x hx
  simp only [List.mem_cons, List.not_mem_nil, or_false] at hx
  rcases hx with rfl | rfl
  · exact laws_heldFloat32S_ok
  · exact laws_heldFloat32SS_ok)
set_option maxHeartbeats 1000000 in
theorem laws_heldBands_main (a_Coarse_a : Option Addr) (a_Coarse_n : Nat) (a_Coarse_e : Nat) (a_Details_a : Option Addr) (a_Details_n : Nat) (a_Details_e : Nat) (k : Int) (H : AHeap) (K : Value → AHeap → Prop) (h : T_laws_heldBands a_Coarse_a a_Coarse_n a_Coarse_e a_Details_a a_Details_n a_Details_e k H fun (r1 : Int) (H' : AHeap) => K (.int .i64 r1) H') : bodyL Try.prog E_laws_heldBands Try.f36 [.agg #[.slice a_Coarse_a a_Coarse_n a_Coarse_e, .slice a_Details_a a_Details_n a_Details_e], .int .i64 k] H K := by
  rw [laws_heldBands_vc]
  obtain ⟨l_a_Coarse, l_a_Details, i_a_Coarse, i_a_Details, bd_13, bd_14, bb_l_a_Details, hk⟩ := h
  obtain rfl := i_a_Coarse.eqn
  obtain rfl := i_a_Details.eqn
  have e : (p_laws_heldBands l_a_Coarse l_a_Details k) = _ := rfl
  have e := e.trans (p_laws_heldBands_eq l_a_Coarse l_a_Details k)
  have g0 := Grow.refl H
  refine Al.intro (fun b_1 H_1 hb_2 hl_3 g_4 o_5 => ?_)
  have l_7 := g_4.1
  have g_8 := g0.trans g_4
  have l_9 := g_8.1
  have w_12 := o_5.lt
  refine ⟨a_Coarse_a, l_a_Coarse.length, a_Coarse_e, (o_5.rdC _).trans rfl, ?_⟩
  refine T_laws_heldFloat32S_i ⟨_, (i_a_Coarse.grow g_8), ω0, ?_⟩
  refine Br.intro (fun c_10 => ?_) (fun c_10 => ?_)
  · have e := e.trans (cond_t c_10)
    have c_10' := of_decide_eq_true c_10
    rw [e] at hk
    exact hk  H_1 g_8 
  · have e := e.trans (cond_f c_10)
    have c_10' := of_decide_eq_false c_10
    refine ⟨a_Details_a, l_a_Details.length, a_Details_e, (o_5.rdC _).trans rfl, ?_⟩
    refine T_laws_heldFloat32SS_i ⟨l_a_Details, (i_a_Details.grow g_8), ω0, (by first | assumption | exact or_right (by assumption) (by omega) | exact or_right (by assumption : _ ∧ (_ ∨ _)).2 (by omega) | (intro y hy; simp only [List.mem_cons, List.not_mem_nil, or_false] at hy; first | omega | (subst hy; omega) | (rcases hy with rfl | rfl <;> omega) | (rcases hy with rfl | rfl | rfl <;> omega))), ?_⟩
    refine Br.intro (fun c_11 => ?_) (fun c_11 => ?_)
    · have e := e.trans (cond_t c_11)
      have c_11' := of_decide_eq_true c_11
      rw [e] at hk
      exact hk  H_1 g_8 
    · have e := e.trans (cond_f c_11)
      have c_11' := of_decide_eq_false c_11
      rw [e] at hk
      exact hk  H_1 g_8 
theorem laws_heldBands_ok : FnOk Try.prog 36 S_laws_heldBands := by
  refine FnOk.body mix_ok E_laws_heldBands_ok Try.func36 rfl (by kernel_rfl) (by kernel_rfl) ?_ ?_ ?_ ?_ ?_
  · intro args H K K' h hk
    simp only [S_laws_heldBands] at *
    unfold F_laws_heldBands at *
    split at hk
    · obtain ⟨l_a_Coarse, l_a_Details, i_a_Coarse, i_a_Details, bd_13, bd_14, bb_l_a_Details, k⟩ := hk
      exact ⟨l_a_Coarse, l_a_Details, i_a_Coarse, i_a_Details, bd_13, bd_14, bb_l_a_Details, (fun  H' gg  => h _ _ (k  H' gg ))⟩
    · exact hk.elim
  · intro hq; cases hq
  · intro args H K hk
    simp only [S_laws_heldBands] at *
    unfold F_laws_heldBands at *
    split at hk
    · obtain ⟨l_a_Coarse, l_a_Details, i_a_Coarse, i_a_Details, bd_13, bd_14, bb_l_a_Details, k⟩ := hk
      exact ⟨_, _, k H (Grow.refl H)⟩
    · exact hk.elim
  · intro _ args H K hk
    simp only [S_laws_heldBands] at *
    unfold F_laws_heldBands at *
    split at hk
    · obtain ⟨l_a_Coarse, l_a_Details, i_a_Coarse, i_a_Details, bd_13, bd_14, bb_l_a_Details, k⟩ := hk
      exact ⟨l_a_Coarse, l_a_Details, i_a_Coarse, i_a_Details, bd_13, bd_14, bb_l_a_Details, (fun  H' gg  => ⟨gg, k  H' gg ⟩)⟩
    · exact hk.elim
  · have mm := @laws_heldBands_main
    have ml := fun (args : List Value) (H : AHeap) (K : Value → AHeap → Prop) => bodyL_body (P := Try.prog) (env := E_laws_heldBands ) (fn := Try.f36) (args := args) (H := H) (K := K) E_laws_heldBands_ok 
    revert mm ml
    generalize bodyK Try.prog E_laws_heldBands Try.f36 = Q
    generalize bodyL Try.prog E_laws_heldBands Try.f36 = QL
    intro mm ml args H K hk
    simp only [S_laws_heldBands] at *
    unfold F_laws_heldBands at *
    split at hk
    · exact ml _ H K (mm _ _ _ _ _ _ _ H K hk)
    · exact hk.elim
end Go.Proofs.Ytbnplefohfamnaa.Ai
