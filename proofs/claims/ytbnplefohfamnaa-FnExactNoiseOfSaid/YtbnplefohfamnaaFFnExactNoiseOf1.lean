/- What functions of the program come to on the abstract machine, and that they do so; printed by a program of mine around proofs of mine. -/
import Derived.Test.YtbnplefohfamnaaFFnExactNoiseOf0
set_option linter.unusedVariables false
set_option linter.unusedSimpArgs false
set_option linter.defProp false
set_option maxRecDepth 100000
namespace Go.Proofs.Ytbnplefohfamnaa.Ai
open Go
attribute [local irreducible] bodyK bodyL

def p_impl_ValidBands_l1 (l_b_Coarse : List Nat) (l_b_Details : List (List Nat)) : Nat → Bool → Int → Bool
  | 0, _, _ => false
  | μ + 1, t2, t36 => (bif decide ((t36 : Int) < (l_b_Details.length : Int)) then (bif (((((l_b_Details).getD (t36 : Int).toNat [])).length : Int) : Int) == 0 then false else (bif decide ((0 : Int) < t36) then (bif (IntKind.wrap .i64 (2 * (((((l_b_Details).getD (t36 : Int).toNat [])).length : Int))) : Int) != ((((l_b_Details).getD ((t36 - 1) : Int).toNat [])).length : Int) then false else (p_impl_ValidBands_l1 l_b_Coarse l_b_Details μ t2 (t36 + 1))) else (p_impl_ValidBands_l1 l_b_Coarse l_b_Details μ t2 (t36 + 1)))) else ((l_b_Coarse.length : Int) : Int) == ((((l_b_Details).getD (((l_b_Details.length : Int) - 1) : Int).toNat [])).length : Int))
def p_impl_ValidBands_l1_s := fun l_b_Coarse l_b_Details μ t2 t36 => @p_impl_ValidBands_l1.eq_2 l_b_Coarse l_b_Details t2 t36 μ
def p_impl_ValidBands (l_b_Coarse : List Nat) (l_b_Details : List (List Nat)) : Bool := (bif !((p_impl_within (l_b_Details.length : Int) (1 : Int) (6 : Int))) then false else (bif decide ((64 : Int) < ((((l_b_Details).getD (0 : Int).toNat [])).length : Int)) then false else (bif !(p_impl_areFinite l_b_Details) then false else (bif !((p_impl_areFinite ([l_b_Coarse]))) then false else (p_impl_ValidBands_l1 l_b_Coarse l_b_Details (Int.toNat ((l_b_Details.length : Int) - (0 : Int)) + 1) false (0 : Int))))))
def p_impl_ValidBands_eq := @p_impl_ValidBands.eq_1
def T_impl_ValidBands (b_Coarse_a : Option Addr) (b_Coarse_n : Nat) (b_Coarse_e : Nat) (b_Details_a : Option Addr) (b_Details_n : Nat) (b_Details_e : Nat) (H : AHeap) (K : Bool → AHeap → Prop) : Prop := ∃ (l_b_Coarse : List Nat), ∃ (l_b_Details : List (List Nat)), IsL fF H b_Coarse_a b_Coarse_n l_b_Coarse ∧ IsLL fF H b_Details_a b_Details_n l_b_Details ∧ l_b_Coarse.length < 1073741824 ∧ l_b_Details.length < 1073741824 ∧ (∀ y ∈ l_b_Details, y.length < 1073741824) ∧ ((∀ H' : AHeap, Grow H H' → K (p_impl_ValidBands l_b_Coarse l_b_Details) H'))
theorem T_impl_ValidBands_i {b_Coarse_a : Option Addr} {b_Coarse_n : Nat} {b_Coarse_e : Nat} {b_Details_a : Option Addr} {b_Details_n : Nat} {b_Details_e : Nat} {H : AHeap} {K : Bool → AHeap → Prop} (h : ∃ (l_b_Coarse : List Nat), ∃ (l_b_Details : List (List Nat)), IsL fF H b_Coarse_a b_Coarse_n l_b_Coarse ∧ IsLL fF H b_Details_a b_Details_n l_b_Details ∧ l_b_Coarse.length < 1073741824 ∧ l_b_Details.length < 1073741824 ∧ (∀ y ∈ l_b_Details, y.length < 1073741824) ∧ ((∀ H' : AHeap, Grow H H' → K (p_impl_ValidBands l_b_Coarse l_b_Details) H'))) : T_impl_ValidBands b_Coarse_a b_Coarse_n b_Coarse_e b_Details_a b_Details_n b_Details_e H K := h
theorem impl_ValidBands_t {a : List Nat} {ds : List (List Nat)} (h : p_impl_ValidBands a ds = true) : 1 ≤ ds.length ∧ ds.length ≤ 6 ∧ 1 ≤ (ds.getD (0 : Int).toNat []).length ∧ (ds.getD (0 : Int).toNat []).length ≤ 64 := by
  rw [p_impl_ValidBands_eq] at h
  cases hw : p_impl_within (ds.length : Int) 1 6
  · rw [hw] at h; cases h
  · have hn := impl_within_t hw
    rw [hw, Bool.not_true, cond_false] at h
    by_cases h3 : (64 : Int) < ((ds.getD (0 : Int).toNat []).length : Int)
    · rw [decide_eq_true h3] at h; cases h
    · rw [decide_eq_false h3, cond_false] at h
      cases h4 : p_impl_areFinite ds
      · rw [h4] at h; cases h
      · cases h5 : p_impl_areFinite [a]
        · rw [h4, h5] at h; cases h
        · rw [h4, h5, Bool.not_true, cond_false, cond_false] at h
          rw [p_impl_ValidBands_l1_s, decide_eq_true (show (0 : Int) < (ds.length : Int) by omega), cond_true] at h
          by_cases h6 : (ds.getD (0 : Int).toNat []).length = 0
          · rw [show (((ds.getD (0 : Int).toNat []).length : Int) == 0) = true by rw [h6]; rfl] at h; cases h
          · exact ⟨by omega, by omega, by omega, by omega⟩
/-! impl_ValidBands: function 116 -/
def E_impl_ValidBands : Env := envOf [(96, S_impl_within), (166, S_impl_areFinite)]
def F_impl_ValidBands : List Value → AHeap → (Value → AHeap → Prop) → Prop
  | [.agg ⟨[.slice b_Coarse_a b_Coarse_n b_Coarse_e, .slice b_Details_a b_Details_n b_Details_e]⟩], H, K => T_impl_ValidBands b_Coarse_a b_Coarse_n b_Coarse_e b_Details_a b_Details_n b_Details_e H fun (r1 : Bool) (H' : AHeap) => K (.bool r1) H'
  | _, _, _ => False
def S_impl_ValidBands : FSpec := { F := F_impl_ValidBands, quiet := false, tame := true }
theorem impl_ValidBands_vc (b_Coarse_a : Option Addr) (b_Coarse_n : Nat) (b_Coarse_e : Nat) (b_Details_a : Option Addr) (b_Details_n : Nat) (b_Details_e : Nat) (H : AHeap) (K : Value → AHeap → Prop) : bodyL Try.prog E_impl_ValidBands Try.f116 [.agg #[.slice b_Coarse_a b_Coarse_n b_Coarse_e, .slice b_Details_a b_Details_n b_Details_e]] H K =
  (Al [.slice b_Coarse_a b_Coarse_n b_Coarse_e, .slice b_Details_a b_Details_n b_Details_e] H fun b1 H1 => ∃ x1_a : Option Addr, ∃ x1_n : Nat, ∃ x1_e : Nat,  rdC H1 b1 1 = some (.slice x1_a x1_n x1_e) ∧ T_impl_within (x1_n : Int) 1 6 H1 fun (r1 : Bool) (H2 : AHeap) => Br (!r1) (K (.bool false) H2) (∃ x2_a : Option Addr, ∃ x2_n : Nat, ∃ x2_e : Nat,  rdC H2 b1 1 = some (.slice x2_a x2_n x2_e) ∧ (0 : Int) ≤ 0 ∧ 0 < (x2_n : Int) ∧ ∃ b2 f1, (x2_a : Option Addr) = some ⟨b2, f1, none⟩ ∧ ∃ x3_a : Option Addr, ∃ x3_n : Nat, ∃ x3_e : Nat,  rdC H2 b2 (f1 + (0 : Int).toNat * 1) = some (.slice x3_a x3_n x3_e) ∧ Br (decide ((64 : Int) < (x3_n : Int))) (K (.bool false) H2) (∃ x4_a : Option Addr, ∃ x4_n : Nat, ∃ x4_e : Nat,  rdC H2 b1 1 = some (.slice x4_a x4_n x4_e) ∧ T_impl_areFinite x4_a x4_n x4_e H2 fun (r2 : Bool) (H3 : AHeap) => Br (!r2) (K (.bool false) H3) (∃ x5_a : Option Addr, ∃ x5_n : Nat, ∃ x5_e : Nat,  rdC H3 b1 0 = some (.slice x5_a x5_n x5_e) ∧ Al [.slice x5_a x5_n x5_e] H3 fun b3 H4 => T_impl_areFinite (some ⟨b3, 0, none⟩) 1 1 H4 fun (r3 : Bool) (H5 : AHeap) => Br (!r3) (K (.bool false) H5) (∃ x6_a : Option Addr, ∃ x6_n : Nat, ∃ x6_e : Nat,  rdC H5 b1 1 = some (.slice x6_a x6_n x6_e) ∧ loopK (exL Try.prog E_impl_ValidBands (cl (cl (cr (cl (cr (cr (cr (bodyC Try.f116)))))))) 120259084298 4 [(0, 10)]) [ud, .pointer (some ⟨b1, 0, none⟩), ud, .int .i64 (x1_n : Int), ud, ud, ud, ud, ud, ud, ud, ud, ud, ud, ud, ud, ud, ud, ud, ud, ud, ud, ud, ud, ud, ud, ud, ud, ud, ud, ud, ud, ud, ud, .slice x6_a x6_n x6_e, .int .i64 (x6_n : Int), .int .i64 0, ud, ud, ud, ud, ud, ud, ud, ud, ud, ud, ud, ud, ud, ud, ud, ud, ud, ud, ud, ud, ud, ud, ud, ud, ud, ud, ud, ud, ud, ud, ud, ud, ud, ud, ud, ud] H5 (blockQ 0 (seqQ (exL Try.prog E_impl_ValidBands (cr (cr (cr (cr (bodyC Try.f116))))) 4 4 []) (retK Try.prog Try.f116 K)))))))) := by kernel_rfl
abbrev impl_ValidBands_P1 (b1 : Nat) (x1_n : Nat) (x6_a : Option Addr) (x6_e : Nat) (x6_n : Nat) (t36 : Int)  : List Value := [ud, .pointer (some ⟨b1, 0, none⟩), ud, .int .i64 (x1_n : Int), ud, ud, ud, ud, ud, ud, ud, ud, ud, ud, ud, ud, ud, ud, ud, ud, ud, ud, ud, ud, ud, ud, ud, ud, ud, ud, ud, ud, ud, ud, .slice x6_a x6_n x6_e, .int .i64 (x6_n : Int), .int .i64 t36, ud, ud, ud, ud, ud, ud, ud, ud, ud, ud, ud, ud, ud, ud, ud, ud, ud, ud, ud, ud, ud, ud, ud, ud, ud, ud, ud, ud, ud, ud, ud, ud, ud, ud, ud, ud]
theorem impl_ValidBands_r1 (b1 : Nat) (x1_n : Nat) (x6_a : Option Addr) (x6_e : Nat) (x6_n : Nat) (t36 : Int)  (H : AHeap) (R : Post) : exL Try.prog E_impl_ValidBands (cl (cl (cr (cl (cr (cr (cr (bodyC Try.f116)))))))) 120259084298 4 [(0, 10)] (impl_ValidBands_P1 b1 x1_n x6_a x6_e x6_n t36) H R =
  (Br (decide ((t36 : Int) < (x6_n : Int))) ((0 : Int) ≤ t36 ∧ t36 < (x6_n : Int) ∧ ∃ b4 f2, (x6_a : Option Addr) = some ⟨b4, f2, none⟩ ∧ ∃ x7_a : Option Addr, ∃ x7_n : Nat, ∃ x7_e : Nat,  rdC H b4 (f2 + (t36 : Int).toNat * 1) = some (.slice x7_a x7_n x7_e) ∧ Br (((x7_n : Int) : Int) == 0) (R .ret [ud, ud, .bool false, ud, ud, ud, ud, ud, ud, ud, ud, ud, ud, ud, ud, ud, ud, ud, ud, ud, ud, ud, ud, ud, ud, ud, ud, ud, ud, ud, ud, ud, ud, ud, ud, ud, ud, ud, ud, ud, ud, ud, ud, ud, ud, ud, ud, ud, ud, ud, ud, ud, ud, ud, ud, ud, ud, ud, ud, ud, ud, ud, ud, ud, ud, ud, ud, ud, ud, ud, ud, ud, ud] H) (Br (decide ((0 : Int) < t36)) (∃ x8_a : Option Addr, ∃ x8_n : Nat, ∃ x8_e : Nat,  rdC H b1 1 = some (.slice x8_a x8_n x8_e) ∧ (0 : Int) ≤ IntKind.wrap .i64 (t36 - 1) ∧ IntKind.wrap .i64 (t36 - 1) < (x8_n : Int) ∧ ∃ b5 f3, (x8_a : Option Addr) = some ⟨b5, f3, none⟩ ∧ ∃ x9_a : Option Addr, ∃ x9_n : Nat, ∃ x9_e : Nat,  rdC H b5 (f3 + (IntKind.wrap .i64 (t36 - 1) : Int).toNat * 1) = some (.slice x9_a x9_n x9_e) ∧ Br ((IntKind.wrap .i64 (2 * (x7_n : Int)) : Int) != (x9_n : Int)) (R .ret [ud, ud, .bool false, ud, ud, ud, ud, ud, ud, ud, ud, ud, ud, ud, ud, ud, ud, ud, ud, ud, ud, ud, ud, ud, ud, ud, ud, ud, ud, ud, ud, ud, ud, ud, ud, ud, ud, ud, ud, ud, ud, ud, ud, ud, ud, ud, ud, ud, ud, ud, ud, ud, ud, ud, ud, ud, ud, ud, ud, ud, ud, ud, ud, ud, ud, ud, ud, ud, ud, ud, ud, ud, ud] H) (R .normal [ud, .pointer (some ⟨b1, 0, none⟩), ud, .int .i64 (x1_n : Int), ud, ud, ud, ud, ud, ud, ud, ud, ud, ud, ud, ud, ud, ud, ud, ud, ud, ud, ud, ud, ud, ud, ud, ud, ud, ud, ud, ud, ud, ud, .slice x6_a x6_n x6_e, .int .i64 (x6_n : Int), .int .i64 (IntKind.wrap .i64 (t36 + 1)), ud, ud, ud, ud, ud, ud, ud, ud, ud, ud, ud, ud, ud, ud, ud, ud, ud, ud, ud, ud, ud, ud, ud, ud, ud, ud, ud, ud, ud, ud, ud, ud, ud, ud, ud, ud] H)) (R .normal [ud, .pointer (some ⟨b1, 0, none⟩), ud, .int .i64 (x1_n : Int), ud, ud, ud, ud, ud, ud, ud, ud, ud, ud, ud, ud, ud, ud, ud, ud, ud, ud, ud, ud, ud, ud, ud, ud, ud, ud, ud, ud, ud, ud, .slice x6_a x6_n x6_e, .int .i64 (x6_n : Int), .int .i64 (IntKind.wrap .i64 (t36 + 1)), ud, ud, ud, ud, ud, ud, ud, ud, ud, ud, ud, ud, ud, ud, ud, ud, ud, ud, ud, ud, ud, ud, ud, ud, ud, ud, ud, ud, ud, ud, ud, ud, ud, ud, ud, ud] H))) (R (.exit 0) [ud, .pointer (some ⟨b1, 0, none⟩), ud, .int .i64 (x1_n : Int), ud, ud, ud, ud, ud, ud, ud, ud, ud, ud, ud, ud, ud, ud, ud, ud, ud, ud, ud, ud, ud, ud, ud, ud, ud, ud, ud, ud, ud, ud, ud, ud, ud, ud, ud, ud, ud, ud, ud, ud, ud, ud, ud, ud, ud, ud, ud, ud, ud, ud, ud, ud, ud, ud, ud, ud, ud, ud, ud, ud, ud, ud, ud, ud, ud, ud, ud, ud, ud] H)) := by kernel_rfl
def impl_ValidBands_I1 (b1 : Nat) (x1_n : Nat) (x6_a : Option Addr) (x6_e : Nat) (x6_n : Nat) (Inv : Nat → Int → AHeap → Prop) : Nat → List Value → AHeap → Prop := fun μ tm H => ∃ (t36 : Int), tm = (impl_ValidBands_P1 b1 x1_n x6_a x6_e x6_n t36) ∧ Inv μ t36 H
theorem impl_ValidBands_L1 (b1 : Nat) (x1_n : Nat) (x6_a : Option Addr) (x6_e : Nat) (x6_n : Nat) {Q : Post} (Inv : Nat → Int → AHeap → Prop) (ν : Nat) (t36 : Int)  (H : AHeap) (h0 : Inv ν t36 H)
    (hs : ∀ (μ : Nat) (t36 : Int)  (H : AHeap), Inv μ t36 H → exL Try.prog E_impl_ValidBands (cl (cl (cr (cl (cr (cr (cr (bodyC Try.f116)))))))) 120259084298 4 [(0, 10)] (impl_ValidBands_P1 b1 x1_n x6_a x6_e x6_n t36) H (loopQ (impl_ValidBands_I1 b1 x1_n x6_a x6_e x6_n Inv) μ Q)) : loopK (exL Try.prog E_impl_ValidBands (cl (cl (cr (cl (cr (cr (cr (bodyC Try.f116)))))))) 120259084298 4 [(0, 10)]) (impl_ValidBands_P1 b1 x1_n x6_a x6_e x6_n t36) H Q :=
  ⟨impl_ValidBands_I1 b1 x1_n x6_a x6_e x6_n Inv, ν, ⟨t36, rfl, h0⟩, fun μ tm H h => by obtain ⟨t36, rfl, hI⟩ := h; exact hs μ t36  H hI⟩
theorem impl_ValidBands_n1 {b1 : Nat} {x1_n : Nat} {x6_a : Option Addr} {x6_e : Nat} {x6_n : Nat} {Q : Post} {Inv : Nat → Int → AHeap → Prop} {μ : Nat} (μ' : Nat) {t36 : Int}  {H : AHeap} (hm : μ' < μ) (hI : Inv μ' t36 H) : loopQ (impl_ValidBands_I1 b1 x1_n x6_a x6_e x6_n Inv) μ Q .normal (impl_ValidBands_P1 b1 x1_n x6_a x6_e x6_n t36) H := ⟨μ', hm, t36, rfl, hI⟩
theorem impl_ValidBands_x1_0 (b1 : Nat) (x1_n : Nat) (H : AHeap) (K : Value → AHeap → Prop)  {I : Nat → List Value → AHeap → Prop} {μ : Nat} : loopQ I μ (blockQ 0 (seqQ (exL Try.prog E_impl_ValidBands (cr (cr (cr (cr (bodyC Try.f116))))) 4 4 []) (retK Try.prog Try.f116 K))) (.exit 0) [ud, .pointer (some ⟨b1, 0, none⟩), ud, .int .i64 (x1_n : Int), ud, ud, ud, ud, ud, ud, ud, ud, ud, ud, ud, ud, ud, ud, ud, ud, ud, ud, ud, ud, ud, ud, ud, ud, ud, ud, ud, ud, ud, ud, ud, ud, ud, ud, ud, ud, ud, ud, ud, ud, ud, ud, ud, ud, ud, ud, ud, ud, ud, ud, ud, ud, ud, ud, ud, ud, ud, ud, ud, ud, ud, ud, ud, ud, ud, ud, ud, ud, ud] H =
  (∃ x10_a : Option Addr, ∃ x10_n : Nat, ∃ x10_e : Nat,  rdC H b1 0 = some (.slice x10_a x10_n x10_e) ∧ ∃ x11_a : Option Addr, ∃ x11_n : Nat, ∃ x11_e : Nat,  rdC H b1 1 = some (.slice x11_a x11_n x11_e) ∧ (0 : Int) ≤ IntKind.wrap .i64 ((x1_n : Int) - 1) ∧ IntKind.wrap .i64 ((x1_n : Int) - 1) < (x11_n : Int) ∧ ∃ b6 f4, (x11_a : Option Addr) = some ⟨b6, f4, none⟩ ∧ ∃ x12_a : Option Addr, ∃ x12_n : Nat, ∃ x12_e : Nat,  rdC H b6 (f4 + (IntKind.wrap .i64 ((x1_n : Int) - 1) : Int).toNat * 1) = some (.slice x12_a x12_n x12_e) ∧ K (.bool (((x10_n : Int) : Int) == (x12_n : Int))) H) := by kernel_rfl
theorem impl_ValidBands_x1_ret (t2 : Bool) (H : AHeap) (K : Value → AHeap → Prop)  {I : Nat → List Value → AHeap → Prop} {μ : Nat} : loopQ I μ (blockQ 0 (seqQ (exL Try.prog E_impl_ValidBands (cr (cr (cr (cr (bodyC Try.f116))))) 4 4 []) (retK Try.prog Try.f116 K))) .ret [ud, ud, .bool t2, ud, ud, ud, ud, ud, ud, ud, ud, ud, ud, ud, ud, ud, ud, ud, ud, ud, ud, ud, ud, ud, ud, ud, ud, ud, ud, ud, ud, ud, ud, ud, ud, ud, ud, ud, ud, ud, ud, ud, ud, ud, ud, ud, ud, ud, ud, ud, ud, ud, ud, ud, ud, ud, ud, ud, ud, ud, ud, ud, ud, ud, ud, ud, ud, ud, ud, ud, ud, ud, ud] H =
  (K (.bool t2) H) := by kernel_rfl
theorem E_impl_ValidBands_ok : ∀ g, FnOk Try.prog g (E_impl_ValidBands g) := FnOk.envOf (by
  intro x hx
  simp only [List.mem_cons, List.not_mem_nil, or_false] at hx
  rcases hx with rfl | rfl
  · exact impl_within_ok
  · exact impl_areFinite_ok)
set_option maxHeartbeats 1000000 in
theorem impl_ValidBands_main (b_Coarse_a : Option Addr) (b_Coarse_n : Nat) (b_Coarse_e : Nat) (b_Details_a : Option Addr) (b_Details_n : Nat) (b_Details_e : Nat) (H : AHeap) (K : Value → AHeap → Prop) (h : T_impl_ValidBands b_Coarse_a b_Coarse_n b_Coarse_e b_Details_a b_Details_n b_Details_e H fun (r1 : Bool) (H' : AHeap) => K (.bool r1) H') : bodyL Try.prog E_impl_ValidBands Try.f116 [.agg #[.slice b_Coarse_a b_Coarse_n b_Coarse_e, .slice b_Details_a b_Details_n b_Details_e]] H K := by
  rw [impl_ValidBands_vc]
  obtain ⟨l_b_Coarse, l_b_Details, i_b_Coarse, i_b_Details, bd_72, bd_73, bb_l_b_Details, hk⟩ := h
  obtain rfl := i_b_Coarse.eqn
  obtain rfl := i_b_Details.eqn
  have e : (p_impl_ValidBands l_b_Coarse l_b_Details) = _ := rfl
  have e := e.trans (p_impl_ValidBands_eq l_b_Coarse l_b_Details)
  have g0 := Grow.refl H
  refine Al.intro (fun b_1 H_1 hb_2 hl_3 g_4 o_5 => ?_)
  have l_7 := g_4.1
  have g_8 := g0.trans g_4
  have l_9 := g_8.1
  have w_71 := o_5.lt
  refine ⟨b_Details_a, l_b_Details.length, b_Details_e, (o_5.rdC _).trans rfl, ?_⟩
  refine T_impl_within_i ?_
  refine Br.intro (fun c_10 => ?_) (fun c_10 => ?_)
  · have e := e.trans (cond_t c_10)
    have c_10n := nf_of_t c_10
    rw [e] at hk
    exact hk  H_1 g_8 
  · have e := e.trans (cond_f c_10)
    have c_10n := nt_of_f c_10
    have c_10n' := impl_within_t c_10n
    refine ⟨b_Details_a, l_b_Details.length, b_Details_e, (o_5.rdC _).trans rfl, ?_⟩
    obtain ⟨b_11, f_12, q_13⟩ := ((i_b_Details.grow g_8)).pos o0
    refine ⟨by omega, by omega, b_11, f_12, q_13, ?_⟩
    obtain ⟨a_14, n_15, e_16, r_17, i_18⟩ := (i_b_Details).rd (i := (0 : Int).toNat) g_8 q_13 o3
    obtain rfl := i_18.eqn
    refine ⟨a_14, _, e_16, r_17, ?_⟩
    have z_19 := getD_len bb_l_b_Details (0 : Int).toNat
    refine Br.intro (fun c_20 => ?_) (fun c_20 => ?_)
    · have e := e.trans (cond_t c_20)
      have c_20' := of_decide_eq_true c_20
      rw [e] at hk
      exact hk  H_1 g_8 
    · have e := e.trans (cond_f c_20)
      have c_20' := of_decide_eq_false c_20
      refine ⟨b_Details_a, l_b_Details.length, b_Details_e, (o_5.rdC _).trans rfl, ?_⟩
      refine T_impl_areFinite_i ⟨l_b_Details, (i_b_Details.grow g_8), o0, (by first | assumption | exact or_right (by assumption) (by omega) | exact or_right (by assumption : _ ∧ (_ ∨ _)).2 (by omega) | (intro y hy; simp only [List.mem_cons, List.not_mem_nil, or_false] at hy; first | omega | (subst hy; omega) | (rcases hy with rfl | rfl <;> omega) | (rcases hy with rfl | rfl | rfl <;> omega))), ?_⟩
      refine Br.intro (fun c_21 => ?_) (fun c_21 => ?_)
      · have e := e.trans (cond_t c_21)
        have c_21n := nf_of_t c_21
        rw [e] at hk
        exact hk  H_1 g_8 
      · have e := e.trans (cond_f c_21)
        have c_21n := nt_of_f c_21
        refine ⟨b_Coarse_a, l_b_Coarse.length, b_Coarse_e, (o_5.rdC _).trans rfl, ?_⟩
        refine Al.intro (fun b_22 H_2 hb_23 hl_24 g_25 o_26 => ?_)
        have l_28 := g_25.1
        have g_29 := g_8.trans g_25
        have l_30 := g_29.1
        have o_31 := o_5.grow g_25
        have w_32 := o_31.lt
        have w_70 := o_26.lt
        refine T_impl_areFinite_i ⟨[l_b_Coarse], ⟨_, o_26.rdAll rfl, LLc.cons (i_b_Coarse.grow g_29) (LLc.nil _ _)⟩, o0, (by first | assumption | exact or_right (by assumption) (by omega) | exact or_right (by assumption : _ ∧ (_ ∨ _)).2 (by omega) | (intro y hy; simp only [List.mem_cons, List.not_mem_nil, or_false] at hy; first | omega | (subst hy; omega) | (rcases hy with rfl | rfl <;> omega) | (rcases hy with rfl | rfl | rfl <;> omega))), ?_⟩
        refine Br.intro (fun c_33 => ?_) (fun c_33 => ?_)
        · have e := e.trans (cond_t c_33)
          have c_33n := nf_of_t c_33
          rw [e] at hk
          exact hk  H_2 g_29 
        · have e := e.trans (cond_f c_33)
          have c_33n := nt_of_f c_33
          refine ⟨b_Details_a, l_b_Details.length, b_Details_e, (o_31.rdC _).trans rfl, ?_⟩
          refine impl_ValidBands_L1 _ _ _ _ _ (fun (μ : Nat) (t36 : Int) (H_3 : AHeap) => ∃ (t2 : Bool), H_2 = H_3 ∧ (0 : Int) ≤ t36 ∧ t36 ≤ (l_b_Details.length : Int) ∧ (l_b_Details.length : Int) - t36 ≤ (μ : Int) ∧ p_impl_ValidBands l_b_Coarse l_b_Details = p_impl_ValidBands_l1 l_b_Coarse l_b_Details (μ + 1) t2 t36) (Int.toNat ((l_b_Details.length : Int) - (0 : Int))) _ H_2 ?_ ?_
          · exact ⟨_, rfl, o5, o5, o3, e⟩
          · intro μ t36  H_3 hI
            obtain ⟨t2, rfl, v_34, v_35, hμ, e⟩ := hI
            rw [impl_ValidBands_r1]
            have e := e.trans (p_impl_ValidBands_l1_s l_b_Coarse l_b_Details μ t2 t36)
            have w_36 := o_31.lt
            have w_37 := o_26.lt
            have l_38 := g_29.1
            refine Br.intro (fun c_39 => ?_) (fun c_39 => ?_)
            · have e := e.trans (cond_t c_39)
              have c_39' := of_decide_eq_true c_39
              obtain ⟨b_40, f_41, q_42⟩ := ((i_b_Details.grow g_29)).pos o0
              refine ⟨by omega, by omega, b_40, f_41, q_42, ?_⟩
              obtain ⟨a_43, n_44, e_45, r_46, i_47⟩ := (i_b_Details).rd (i := (t36 : Int).toNat) g_29 q_42 o3
              obtain rfl := i_47.eqn
              refine ⟨a_43, _, e_45, r_46, ?_⟩
              have z_48 := getD_len bb_l_b_Details (t36 : Int).toNat
              refine Br.intro (fun c_49 => ?_) (fun c_49 => ?_)
              · have e := e.trans (cond_t c_49)
                have c_49' := ieq_t c_49
                rw [impl_ValidBands_x1_ret]
                rw [e] at hk
                exact hk  H_2 g_29 
              · have e := e.trans (cond_f c_49)
                have c_49' := ieq_f c_49
                refine Br.intro (fun c_50 => ?_) (fun c_50 => ?_)
                · have e := e.trans (cond_t c_50)
                  have c_50' := of_decide_eq_true c_50
                  refine ⟨b_Details_a, l_b_Details.length, b_Details_e, (o_31.rdC _).trans rfl, ?_⟩
                  rw [show IntKind.wrap .i64 (t36 - 1) = (t36 - 1) from wrap64 o3 o3]
                  obtain ⟨b_51, f_52, q_53⟩ := ((i_b_Details.grow g_29)).pos o0
                  refine ⟨by omega, by omega, b_51, f_52, q_53, ?_⟩
                  obtain ⟨a_54, n_55, e_56, r_57, i_58⟩ := (i_b_Details).rd (i := ((t36 - 1) : Int).toNat) g_29 q_53 o3
                  obtain rfl := i_58.eqn
                  refine ⟨a_54, _, e_56, r_57, ?_⟩
                  have z_59 := getD_len bb_l_b_Details ((t36 - 1) : Int).toNat
                  refine Br.intro (fun c_60 => ?_) (fun c_60 => ?_)
                  · have e := e.trans (cond_t c_60)
                    have c_60' := ine_t c_60
                    rw [impl_ValidBands_x1_ret]
                    rw [e] at hk
                    exact hk  H_2 g_29 
                  · have e := e.trans (cond_f c_60)
                    have c_60' := ine_f c_60
                    rw [show IntKind.wrap .i64 (t36 + 1) = (t36 + 1) from wrap64 o3 o3]
                    refine impl_ValidBands_n1 (μ - 1) o10 ⟨_, rfl, o1, o1, o10, (by rw [show μ - 1 + 1 = μ from by first | omega]; exact e)⟩
                · have e := e.trans (cond_f c_50)
                  have c_50' := of_decide_eq_false c_50
                  rw [show IntKind.wrap .i64 (t36 + 1) = (t36 + 1) from wrap64 o3 o3]
                  refine impl_ValidBands_n1 (μ - 1) o10 ⟨_, rfl, o1, o1, o10, (by rw [show μ - 1 + 1 = μ from by first | omega]; exact e)⟩
            · have e := e.trans (cond_f c_39)
              have c_39' := of_decide_eq_false c_39
              rw [impl_ValidBands_x1_0]
              refine ⟨b_Coarse_a, l_b_Coarse.length, b_Coarse_e, (o_31.rdC _).trans rfl, ?_⟩
              refine ⟨b_Details_a, l_b_Details.length, b_Details_e, (o_31.rdC _).trans rfl, ?_⟩
              rw [show IntKind.wrap .i64 ((l_b_Details.length : Int) - 1) = ((l_b_Details.length : Int) - 1) from wrap64 o3 o3]
              obtain ⟨b_61, f_62, q_63⟩ := ((i_b_Details.grow g_29)).pos o0
              refine ⟨by omega, by omega, b_61, f_62, q_63, ?_⟩
              obtain ⟨a_64, n_65, e_66, r_67, i_68⟩ := (i_b_Details).rd (i := (((l_b_Details.length : Int) - 1) : Int).toNat) g_29 q_63 o3
              obtain rfl := i_68.eqn
              refine ⟨a_64, _, e_66, r_67, ?_⟩
              have z_69 := getD_len bb_l_b_Details (((l_b_Details.length : Int) - 1) : Int).toNat
              rw [e] at hk
              exact hk  H_2 g_29 
theorem impl_ValidBands_ok : FnOk Try.prog 116 S_impl_ValidBands := by
  refine FnOk.body mix_ok E_impl_ValidBands_ok Try.func116 rfl (by kernel_rfl) (by kernel_rfl) ?_ ?_ ?_ ?_ ?_
  · intro args H K K' h hk
    simp only [S_impl_ValidBands] at *
    unfold F_impl_ValidBands at *
    split at hk
    · obtain ⟨l_b_Coarse, l_b_Details, i_b_Coarse, i_b_Details, bd_72, bd_73, bb_l_b_Details, k⟩ := hk
      exact ⟨l_b_Coarse, l_b_Details, i_b_Coarse, i_b_Details, bd_72, bd_73, bb_l_b_Details, (fun  H' gg  => h _ _ (k  H' gg ))⟩
    · exact hk.elim
  · intro hq; cases hq
  · intro args H K hk
    simp only [S_impl_ValidBands] at *
    unfold F_impl_ValidBands at *
    split at hk
    · obtain ⟨l_b_Coarse, l_b_Details, i_b_Coarse, i_b_Details, bd_72, bd_73, bb_l_b_Details, k⟩ := hk
      exact ⟨_, _, k H (Grow.refl H)⟩
    · exact hk.elim
  · intro _ args H K hk
    simp only [S_impl_ValidBands] at *
    unfold F_impl_ValidBands at *
    split at hk
    · obtain ⟨l_b_Coarse, l_b_Details, i_b_Coarse, i_b_Details, bd_72, bd_73, bb_l_b_Details, k⟩ := hk
      exact ⟨l_b_Coarse, l_b_Details, i_b_Coarse, i_b_Details, bd_72, bd_73, bb_l_b_Details, (fun  H' gg  => ⟨gg, k  H' gg ⟩)⟩
    · exact hk.elim
  · have mm := @impl_ValidBands_main
    have ml := fun (args : List Value) (H : AHeap) (K : Value → AHeap → Prop) => bodyL_body (P := Try.prog) (env := E_impl_ValidBands ) (fn := Try.f116) (args := args) (H := H) (K := K) E_impl_ValidBands_ok 
    revert mm ml
    generalize bodyK Try.prog E_impl_ValidBands Try.f116 = Q
    generalize bodyL Try.prog E_impl_ValidBands Try.f116 = QL
    intro mm ml args H K hk
    simp only [S_impl_ValidBands] at *
    unfold F_impl_ValidBands at *
    split at hk
    · exact ml _ H K (mm _ _ _ _ _ _ H K hk)
    · exact hk.elim
def p_impl_size (x : Nat) : Nat := (bif flt .f32 x 0 then fneg .f32 x else (bif feq .f32 x 0 then 0 else x))
def T_impl_size (x : Nat) (H : AHeap) (K : Nat → AHeap → Prop) : Prop := K (p_impl_size x) H

theorem T_impl_size_i {x : Nat} {H : AHeap} {K : Nat → AHeap → Prop} (h : K (p_impl_size x) H) : T_impl_size x H K := h
/-! impl_size: function 150 -/
def E_impl_size : Env := envOf []
def F_impl_size : List Value → AHeap → (Value → AHeap → Prop) → Prop
  | [.float .f32 x], H, K => T_impl_size x H fun (r1 : Nat) (H' : AHeap) => K (.float .f32 r1) H'
  | _, _, _ => False
def S_impl_size : FSpec := { F := F_impl_size, quiet := true, tame := false }
theorem impl_size_vc (x : Nat) (H : AHeap) (K : Value → AHeap → Prop) : bodyL Try.prog E_impl_size Try.f150 [.float .f32 x] H K =
  (Br (flt .f32 x 0) (K (.float .f32 (fneg .f32 x)) H) (Br (feq .f32 x 0) (K (.float .f32 0) H) (K (.float .f32 x) H))) := by kernel_rfl
theorem E_impl_size_ok : ∀ g, FnOk Try.prog g (E_impl_size g) := FnOk.envOf (by
  intro x hx; cases hx)
set_option maxHeartbeats 1000000 in
theorem impl_size_main (x : Nat) (H : AHeap) (K : Value → AHeap → Prop) (h : T_impl_size x H fun (r1 : Nat) (H' : AHeap) => K (.float .f32 r1) H') : bodyL Try.prog E_impl_size Try.f150 [.float .f32 x] H K := by
  rw [impl_size_vc]
  unfold T_impl_size p_impl_size at h
  repeat' (first | exact h | (exfalso; simp_all; done) | (refine ⟨by decide, ?_⟩) | (refine Br.intro (fun hb => ?_) (fun hb => ?_) <;> (try simp only [hb, cond_true, cond_false, Bool.not_true, Bool.not_false] at h)))
theorem impl_size_ok : FnOk Try.prog 150 S_impl_size := by
  refine FnOk.body mix_ok E_impl_size_ok Try.func150 rfl (by kernel_rfl) (by kernel_rfl) ?_ ?_ ?_ ?_ ?_
  · intro args H K K' h hk
    simp only [S_impl_size] at *
    unfold F_impl_size at *
    split at hk
    · have k := hk
      exact h _ _ k
    · exact hk.elim
  · intro _ args H K hk
    simp only [S_impl_size] at *
    unfold F_impl_size at *
    split at hk
    · have k := hk
      exact ⟨_, k, fun K' k' => k'⟩
    · exact hk.elim
  · intro args H K hk
    simp only [S_impl_size] at *
    unfold F_impl_size at *
    split at hk
    · have k := hk
      exact ⟨_, _, k⟩
    · exact hk.elim
  · intro hq; cases hq
  · have mm := @impl_size_main
    have ml := fun (args : List Value) (H : AHeap) (K : Value → AHeap → Prop) => bodyL_body (P := Try.prog) (env := E_impl_size ) (fn := Try.f150) (args := args) (H := H) (K := K) E_impl_size_ok 
    revert mm ml
    generalize bodyK Try.prog E_impl_size Try.f150 = Q
    generalize bodyL Try.prog E_impl_size Try.f150 = QL
    intro mm ml args H K hk
    simp only [S_impl_size] at *
    unfold F_impl_size at *
    split at hk
    · exact ml _ H K (mm _ H K hk)
    · exact hk.elim

def p_impl_sizes_l1 (l_list : List Nat) : Nat → (List Nat) → Int → (List Nat)
  | 0, _, _ => []
  | μ + 1, l_vout, t9 => (bif decide ((t9 : Int) < (l_list.length : Int)) then (p_impl_sizes_l1 l_list μ ((l_vout ++ [((p_impl_size (((l_list).getD (t9 : Int).toNat 0))))])) (t9 + 1)) else l_vout)
def p_impl_sizes_l1_s := fun l_list μ l_vout t9 => @p_impl_sizes_l1.eq_2 l_list l_vout t9 μ
def p_impl_sizes (l_list : List Nat) : (List Nat) := (p_impl_sizes_l1 l_list (Int.toNat ((l_list.length : Int) - (0 : Int)) + 1) ([] : List Nat) (0 : Int))
def p_impl_sizes_eq := @p_impl_sizes.eq_1
def T_impl_sizes (list_a : Option Addr) (list_n : Nat) (list_e : Nat) (H : AHeap) (K : (Option Addr) → Nat → Nat → AHeap → Prop) : Prop := ∃ (l_list : List Nat), IsL fF H list_a list_n l_list ∧ l_list.length < 1073741824 ∧ ((∀ (r1_a : Option Addr) (r1_n r1_e : Nat), ∀ H' : AHeap, Grow H H' → OwnS fF H' H.length r1_a r1_n r1_e (p_impl_sizes l_list) → K r1_a r1_n r1_e H'))
theorem T_impl_sizes_i {list_a : Option Addr} {list_n : Nat} {list_e : Nat} {H : AHeap} {K : (Option Addr) → Nat → Nat → AHeap → Prop} (h : ∃ (l_list : List Nat), IsL fF H list_a list_n l_list ∧ l_list.length < 1073741824 ∧ ((∀ (r1_a : Option Addr) (r1_n r1_e : Nat), ∀ H' : AHeap, Grow H H' → OwnS fF H' H.length r1_a r1_n r1_e (p_impl_sizes l_list) → K r1_a r1_n r1_e H'))) : T_impl_sizes list_a list_n list_e H K := h
theorem impl_sizes_go (l : List Nat) : ∀ (μ : Nat) (o : List Nat) (i : Nat), l.length - i < μ → p_impl_sizes_l1 l μ o (i : Int) = o ++ (l.drop i).map p_impl_size := by
  intro μ
  induction μ with
  | zero => intro o i h; omega
  | succ μ ih =>
    intro o i hm
    rw [p_impl_sizes_l1_s]
    by_cases h : i < l.length
    · rw [decide_eq_true (show (i : Int) < (l.length : Int) by omega), cond_true, Int.toNat_natCast]
      refine Eq.trans (ih _ (i + 1) o3) ?_
      rw [List.drop_eq_getElem_cons h, List.map_cons, List.getD_eq_getElem?_getD, List.getElem?_eq_getElem h]
      simp
    · rw [decide_eq_false (show ¬ (i : Int) < (l.length : Int) by omega), cond_false, List.drop_eq_nil_of_le o3]; simp
theorem impl_sizes_map (l : List Nat) : p_impl_sizes l = l.map p_impl_size := by
  rw [p_impl_sizes_eq]
  have := impl_sizes_go l (Int.toNat ((l.length : Int) - (0 : Int)) + 1) [] 0 o3
  simpa using this
theorem impl_sizes_len (l : List Nat) : (p_impl_sizes l).length = l.length := by rw [impl_sizes_map]; simp
/-! impl_sizes: function 119 -/
def E_impl_sizes : Env := envOf [(150, S_impl_size)]
def F_impl_sizes : List Value → AHeap → (Value → AHeap → Prop) → Prop
  | [.slice list_a list_n list_e], H, K => T_impl_sizes list_a list_n list_e H fun (r1_a : Option Addr) (r1_n : Nat) (r1_e : Nat) (H' : AHeap) => K (.slice r1_a r1_n r1_e) H'
  | _, _, _ => False
def S_impl_sizes : FSpec := { F := F_impl_sizes, quiet := false, tame := true }
theorem impl_sizes_vc (list_a : Option Addr) (list_n : Nat) (list_e : Nat) (H : AHeap) (K : Value → AHeap → Prop) : bodyL Try.prog E_impl_sizes Try.f119 [.slice list_a list_n list_e] H K =
  (Al [] H fun b1 H1 => loopK (exL Try.prog E_impl_sizes (cl (cl (cr (cl (cr (cr (bodyC Try.f119))))))) 904 4 [(0, 8)]) [ud, ud, ud, .slice (some ⟨b1, 0, none⟩) 0 1, ud, ud, ud, .slice list_a list_n list_e, .int .i64 (list_n : Int), .int .i64 0, ud, ud, ud, ud, ud, ud, ud, ud, ud, ud] H1 (blockQ 0 (seqQ (exL Try.prog E_impl_sizes (cr (cr (cr (bodyC Try.f119)))) 4 4 []) (retK Try.prog Try.f119 K)))) := by kernel_rfl
abbrev impl_sizes_P1 (list_a : Option Addr) (list_e : Nat) (list_n : Nat) (vout_a : Option Addr) (vout_n : Nat) (vout_e : Nat) (t9 : Int)  : List Value := [ud, ud, ud, .slice vout_a vout_n vout_e, ud, ud, ud, .slice list_a list_n list_e, .int .i64 (list_n : Int), .int .i64 t9, ud, ud, ud, ud, ud, ud, ud, ud, ud, ud]
theorem impl_sizes_r1 (list_a : Option Addr) (list_e : Nat) (list_n : Nat) (vout_a : Option Addr) (vout_n : Nat) (vout_e : Nat) (t9 : Int)  (H : AHeap) (R : Post) : exL Try.prog E_impl_sizes (cl (cl (cr (cl (cr (cr (bodyC Try.f119))))))) 904 4 [(0, 8)] (impl_sizes_P1 list_a list_e list_n vout_a vout_n vout_e t9) H R =
  (Br (decide ((t9 : Int) < (list_n : Int))) ((0 : Int) ≤ t9 ∧ t9 < (list_n : Int) ∧ ∃ b2 f1, (list_a : Option Addr) = some ⟨b2, f1, none⟩ ∧ ∃ x1 : Nat,  rdC H b2 (f1 + (t9 : Int).toNat * 1) = some (.float .f32 x1) ∧ T_impl_size x1 H fun (r1 : Nat) (H2 : AHeap) => Al [.float .f32 r1] H2 fun b3 H3 => ∃ o1 w1 : List Value, ownB H3 vout_a vout_n vout_e 1 = some o1 ∧ rdS H3 (some ⟨b3, 0, none⟩) (1 * 1) = some w1 ∧ ((vout_a : Option Addr) = none → 0 < (1 : Nat)) ∧ (vout_n : Nat) + 1 < most ∧ Ap H3 (killB H3 vout_a ++ [some ⟨o1 ++ w1, true⟩]) fun b4 H4 => R .normal [ud, ud, ud, .slice (some ⟨b4, 0, none⟩) (vout_n + 1) 1, ud, ud, ud, .slice list_a list_n list_e, .int .i64 (list_n : Int), .int .i64 (IntKind.wrap .i64 (t9 + 1)), ud, ud, ud, ud, ud, ud, ud, ud, ud, ud] H4) (R (.exit 0) [ud, ud, ud, .slice vout_a vout_n vout_e, ud, ud, ud, ud, ud, ud, ud, ud, ud, ud, ud, ud, ud, ud, ud, ud] H)) := by kernel_rfl
def impl_sizes_I1 (list_a : Option Addr) (list_e : Nat) (list_n : Nat) (Inv : Nat → (Option Addr) → Nat → Nat → Int → AHeap → Prop) : Nat → List Value → AHeap → Prop := fun μ tm H => ∃ (vout_a : Option Addr), ∃ (vout_n : Nat), ∃ (vout_e : Nat), ∃ (t9 : Int), tm = (impl_sizes_P1 list_a list_e list_n vout_a vout_n vout_e t9) ∧ Inv μ vout_a vout_n vout_e t9 H
theorem impl_sizes_L1 (list_a : Option Addr) (list_e : Nat) (list_n : Nat) {Q : Post} (Inv : Nat → (Option Addr) → Nat → Nat → Int → AHeap → Prop) (ν : Nat) (vout_a : Option Addr) (vout_n : Nat) (vout_e : Nat) (t9 : Int)  (H : AHeap) (h0 : Inv ν vout_a vout_n vout_e t9 H)
    (hs : ∀ (μ : Nat) (vout_a : Option Addr) (vout_n : Nat) (vout_e : Nat) (t9 : Int)  (H : AHeap), Inv μ vout_a vout_n vout_e t9 H → exL Try.prog E_impl_sizes (cl (cl (cr (cl (cr (cr (bodyC Try.f119))))))) 904 4 [(0, 8)] (impl_sizes_P1 list_a list_e list_n vout_a vout_n vout_e t9) H (loopQ (impl_sizes_I1 list_a list_e list_n Inv) μ Q)) : loopK (exL Try.prog E_impl_sizes (cl (cl (cr (cl (cr (cr (bodyC Try.f119))))))) 904 4 [(0, 8)]) (impl_sizes_P1 list_a list_e list_n vout_a vout_n vout_e t9) H Q :=
  ⟨impl_sizes_I1 list_a list_e list_n Inv, ν, ⟨vout_a, vout_n, vout_e, t9, rfl, h0⟩, fun μ tm H h => by obtain ⟨vout_a, vout_n, vout_e, t9, rfl, hI⟩ := h; exact hs μ vout_a vout_n vout_e t9  H hI⟩
theorem impl_sizes_n1 {list_a : Option Addr} {list_e : Nat} {list_n : Nat} {Q : Post} {Inv : Nat → (Option Addr) → Nat → Nat → Int → AHeap → Prop} {μ : Nat} (μ' : Nat) {vout_a : Option Addr} {vout_n : Nat} {vout_e : Nat} {t9 : Int}  {H : AHeap} (hm : μ' < μ) (hI : Inv μ' vout_a vout_n vout_e t9 H) : loopQ (impl_sizes_I1 list_a list_e list_n Inv) μ Q .normal (impl_sizes_P1 list_a list_e list_n vout_a vout_n vout_e t9) H := ⟨μ', hm, vout_a, vout_n, vout_e, t9, rfl, hI⟩
theorem impl_sizes_x1_0 (vout_a : Option Addr) (vout_n : Nat) (vout_e : Nat) (H : AHeap) (K : Value → AHeap → Prop)  {I : Nat → List Value → AHeap → Prop} {μ : Nat} : loopQ I μ (blockQ 0 (seqQ (exL Try.prog E_impl_sizes (cr (cr (cr (bodyC Try.f119)))) 4 4 []) (retK Try.prog Try.f119 K))) (.exit 0) [ud, ud, ud, .slice vout_a vout_n vout_e, ud, ud, ud, ud, ud, ud, ud, ud, ud, ud, ud, ud, ud, ud, ud, ud] H =
  (K (.slice vout_a vout_n vout_e) H) := by kernel_rfl
theorem E_impl_sizes_ok : ∀ g, FnOk Try.prog g (E_impl_sizes g) := FnOk.envOf (by
  intro x hx
  simp only [List.mem_cons, List.not_mem_nil, or_false] at hx
  subst hx; exact impl_size_ok)
set_option maxHeartbeats 1000000 in
theorem impl_sizes_main (list_a : Option Addr) (list_n : Nat) (list_e : Nat) (H : AHeap) (K : Value → AHeap → Prop) (h : T_impl_sizes list_a list_n list_e H fun (r1_a : Option Addr) (r1_n : Nat) (r1_e : Nat) (H' : AHeap) => K (.slice r1_a r1_n r1_e) H') : bodyL Try.prog E_impl_sizes Try.f119 [.slice list_a list_n list_e] H K := by
  rw [impl_sizes_vc]
  obtain ⟨l_list, i_list, bd_48, hk⟩ := h
  obtain rfl := i_list.eqn
  have e : (p_impl_sizes l_list) = _ := rfl
  have e := e.trans (p_impl_sizes_eq l_list)
  have g0 := Grow.refl H
  refine Al.intro (fun b_1 H_1 hb_2 hl_3 g_4 o_5 => ?_)
  have o_5 : Own H_1 b_1 ((([] : List Nat)).map fF) := o_5
  have l_7 := g_4.1
  have g_8 := g0.trans g_4
  have l_9 := g_8.1
  have w_47 := o_5.lt
  refine impl_sizes_L1 _ _ _ (fun (μ : Nat) (vout_a : Option Addr) (vout_n : Nat) (vout_e : Nat) (t9 : Int) (H_2 : AHeap) => ∃ (l_vout : List Nat), ∃ (b_10 : Nat), vout_a = some ⟨b_10, 0, none⟩ ∧ vout_n = l_vout.length ∧ vout_e = 1 ∧ Own H_2 b_10 (l_vout.map fF) ∧ Grow H H_2 ∧ H.length ≤ b_10 ∧ (0 : Int) ≤ t9 ∧ t9 ≤ (l_list.length : Int) ∧ (l_vout.length : Int) ≤ t9 - (0 : Int) + 0 ∧ (l_list.length : Int) - t9 ≤ (μ : Int) ∧ p_impl_sizes l_list = p_impl_sizes_l1 l_list (μ + 1) l_vout t9) (Int.toNat ((l_list.length : Int) - (0 : Int))) _ _ _ _ H_1 ?_ ?_
  · exact ⟨_, _, rfl, o9, rfl, o_5, g_8, o3, o5, o5, o5, o3, e⟩
  · intro μ vout_a vout_n vout_e t9  H_2 hI
    obtain ⟨l_vout, b_10, rfl, rfl, rfl, o_11, g_12, l_13, v_14, v_15, v_16, hμ, e⟩ := hI
    rw [impl_sizes_r1]
    have e := e.trans (p_impl_sizes_l1_s l_list μ l_vout t9)
    have w_17 := o_11.lt
    have l_18 := g_12.1
    refine Br.intro (fun c_19 => ?_) (fun c_19 => ?_)
    · have e := e.trans (cond_t c_19)
      have c_19' := of_decide_eq_true c_19
      obtain ⟨b_20, f_21, q_22⟩ := ((i_list.grow g_12)).pos o0
      refine ⟨by omega, by omega, b_20, f_21, q_22, ?_⟩
      refine ⟨((l_list).getD (t9 : Int).toNat 0), (i_list).rd g_12 q_22 o3 _, ?_⟩
      refine T_impl_size_i ?_
      refine Al.intro (fun b_23 H_3 hb_24 hl_25 g_26 o_27 => ?_)
      have o_27 : Own H_3 b_23 (([((p_impl_size (((l_list).getD (t9 : Int).toNat 0))))]).map fF) := o_27
      have l_29 := g_26.1
      have g_30 := g_12.trans g_26
      have l_31 := g_30.1
      have o_32 := o_11.grow g_26
      have w_33 := o_32.lt
      have w_46 := o_27.lt
      refine ⟨_, _, o_32.ownB o6 rfl, (isl_rdS (o_27.isL o9)), (fun h => by cases h), o12, ?_⟩
      refine Ap.app o_32 rfl rfl (fun b_38 H_4 q_44 hl_34 o_35 k_36 => ?_)
      have o_35 := map_snoc o_35
      have l_39 := k_36.1
      have g_40 := g_30.keep (b := b_10) o3 k_36
      have l_41 := g_40.1
      have o_42 := o_27.keep o3 k_36
      have w_43 := o_42.lt
      have w_45 := o_35.lt
      rw [show IntKind.wrap .i64 (t9 + 1) = (t9 + 1) from wrap64 o3 o3]
      refine impl_sizes_n1 (μ - 1) o10 ⟨_, _, rfl, o8, rfl, o_35, g_40, o3, o1, o1, o1, o10, (by rw [show μ - 1 + 1 = μ from by first | omega]; exact e)⟩
    · have e := e.trans (cond_f c_19)
      have c_19' := of_decide_eq_false c_19
      rw [impl_sizes_x1_0]
      rw [e] at hk
      exact hk _ _ _ H_2 g_12 (o_11.ownS o9 o3)
theorem impl_sizes_ok : FnOk Try.prog 119 S_impl_sizes := by
  refine FnOk.body mix_ok E_impl_sizes_ok Try.func119 rfl (by kernel_rfl) (by kernel_rfl) ?_ ?_ ?_ ?_ ?_
  · intro args H K K' h hk
    simp only [S_impl_sizes] at *
    unfold F_impl_sizes at *
    split at hk
    · obtain ⟨l_list, i_list, bd_48, k⟩ := hk
      exact ⟨l_list, i_list, bd_48, (fun r1_a r1_n r1_e H' gg ow0 => h _ _ (k r1_a r1_n r1_e H' gg ow0))⟩
    · exact hk.elim
  · intro hq; cases hq
  · intro args H K hk
    simp only [S_impl_sizes] at *
    unfold F_impl_sizes at *
    split at hk
    · obtain ⟨l_list, i_list, bd_48, k⟩ := hk
      exact liveS fun a n e H1 g o => ⟨_, _, k a n e H1 g o⟩
    · exact hk.elim
  · intro _ args H K hk
    simp only [S_impl_sizes] at *
    unfold F_impl_sizes at *
    split at hk
    · obtain ⟨l_list, i_list, bd_48, k⟩ := hk
      exact ⟨l_list, i_list, bd_48, (fun r1_a r1_n r1_e H' gg ow0 => ⟨gg, k r1_a r1_n r1_e H' gg ow0⟩)⟩
    · exact hk.elim
  · have mm := @impl_sizes_main
    have ml := fun (args : List Value) (H : AHeap) (K : Value → AHeap → Prop) => bodyL_body (P := Try.prog) (env := E_impl_sizes ) (fn := Try.f119) (args := args) (H := H) (K := K) E_impl_sizes_ok 
    revert mm ml
    generalize bodyK Try.prog E_impl_sizes Try.f119 = Q
    generalize bodyL Try.prog E_impl_sizes Try.f119 = QL
    intro mm ml args H K hk
    simp only [S_impl_sizes] at *
    unfold F_impl_sizes at *
    split at hk
    · exact ml _ H K (mm _ _ _ H K hk)
    · exact hk.elim

def p_impl_copyOf (l_list : List Nat) : (List Nat) := (([] : List Nat) ++ l_list)
def p_impl_copyOf_eq := @p_impl_copyOf.eq_1
def T_impl_copyOf (list_a : Option Addr) (list_n : Nat) (list_e : Nat) (H : AHeap) (K : (Option Addr) → Nat → Nat → AHeap → Prop) : Prop := ∃ (l_list : List Nat), IsL fF H list_a list_n l_list ∧ l_list.length < 1073741824 ∧ ((∀ (r1_a : Option Addr) (r1_n r1_e : Nat), ∀ H' : AHeap, Grow H H' → OwnS fF H' H.length r1_a r1_n r1_e (p_impl_copyOf l_list) → K r1_a r1_n r1_e H'))
theorem T_impl_copyOf_i {list_a : Option Addr} {list_n : Nat} {list_e : Nat} {H : AHeap} {K : (Option Addr) → Nat → Nat → AHeap → Prop} (h : ∃ (l_list : List Nat), IsL fF H list_a list_n l_list ∧ l_list.length < 1073741824 ∧ ((∀ (r1_a : Option Addr) (r1_n r1_e : Nat), ∀ H' : AHeap, Grow H H' → OwnS fF H' H.length r1_a r1_n r1_e (p_impl_copyOf l_list) → K r1_a r1_n r1_e H'))) : T_impl_copyOf list_a list_n list_e H K := h
theorem impl_copyOf_is (l : List Nat) : p_impl_copyOf l = l := by rw [p_impl_copyOf_eq]; rfl
theorem impl_copyOf_len (l : List Nat) : (p_impl_copyOf l).length = l.length := by rw [impl_copyOf_is]
/-! impl_copyOf: function 122 -/
def E_impl_copyOf : Env := envOf []
def F_impl_copyOf : List Value → AHeap → (Value → AHeap → Prop) → Prop
  | [.slice list_a list_n list_e], H, K => T_impl_copyOf list_a list_n list_e H fun (r1_a : Option Addr) (r1_n : Nat) (r1_e : Nat) (H' : AHeap) => K (.slice r1_a r1_n r1_e) H'
  | _, _, _ => False
def S_impl_copyOf : FSpec := { F := F_impl_copyOf, quiet := false, tame := true }
theorem impl_copyOf_vc (list_a : Option Addr) (list_n : Nat) (list_e : Nat) (H : AHeap) (K : Value → AHeap → Prop) : bodyL Try.prog E_impl_copyOf Try.f122 [.slice list_a list_n list_e] H K =
  (Al [] H fun b1 H1 => ∃ o1 w1 : List Value, ownB H1 (some ⟨b1, 0, none⟩) 0 1 1 = some o1 ∧ rdS H1 list_a (list_n * 1) = some w1 ∧ ((some ⟨b1, 0, none⟩ : Option Addr) = none → 0 < (list_n : Nat)) ∧ (0 : Nat) + list_n < most ∧ Ap H1 (killB H1 (some ⟨b1, 0, none⟩) ++ [some ⟨o1 ++ w1, true⟩]) fun b2 H2 => K (.slice (some ⟨b2, 0, none⟩) (0 + list_n) 1) H2) := by kernel_rfl
theorem E_impl_copyOf_ok : ∀ g, FnOk Try.prog g (E_impl_copyOf g) := FnOk.envOf (by
  intro x hx; cases hx)
set_option maxHeartbeats 1000000 in
theorem impl_copyOf_main (list_a : Option Addr) (list_n : Nat) (list_e : Nat) (H : AHeap) (K : Value → AHeap → Prop) (h : T_impl_copyOf list_a list_n list_e H fun (r1_a : Option Addr) (r1_n : Nat) (r1_e : Nat) (H' : AHeap) => K (.slice r1_a r1_n r1_e) H') : bodyL Try.prog E_impl_copyOf Try.f122 [.slice list_a list_n list_e] H K := by
  rw [impl_copyOf_vc]
  obtain ⟨l_list, i_list, bd_21, hk⟩ := h
  obtain rfl := i_list.eqn
  have e : (p_impl_copyOf l_list) = _ := rfl
  have e := e.trans (p_impl_copyOf_eq l_list)
  have g0 := Grow.refl H
  refine Al.intro (fun b_1 H_1 hb_2 hl_3 g_4 o_5 => ?_)
  have o_5 : Own H_1 b_1 ((([] : List Nat)).map fF) := o_5
  have l_7 := g_4.1
  have g_8 := g0.trans g_4
  have l_9 := g_8.1
  have w_20 := o_5.lt
  refine ⟨_, _, o_5.ownB o6 rfl, (isl_rdS (i_list.grow g_8)), (fun h => by cases h), o12, ?_⟩
  refine Ap.app o_5 rfl rfl (fun b_14 H_2 q_18 hl_10 o_11 k_12 => ?_)
  have o_11 := map_snoc o_11
  have l_15 := k_12.1
  have g_16 := g_8.keep (b := b_1) o3 k_12
  have l_17 := g_16.1
  have w_19 := o_11.lt
  rw [e] at hk
  exact hk _ _ _ H_2 g_16 (o_11.ownS o8 o3)
theorem impl_copyOf_ok : FnOk Try.prog 122 S_impl_copyOf := by
  refine FnOk.body mix_ok E_impl_copyOf_ok Try.func122 rfl (by kernel_rfl) (by kernel_rfl) ?_ ?_ ?_ ?_ ?_
  · intro args H K K' h hk
    simp only [S_impl_copyOf] at *
    unfold F_impl_copyOf at *
    split at hk
    · obtain ⟨l_list, i_list, bd_21, k⟩ := hk
      exact ⟨l_list, i_list, bd_21, (fun r1_a r1_n r1_e H' gg ow0 => h _ _ (k r1_a r1_n r1_e H' gg ow0))⟩
    · exact hk.elim
  · intro hq; cases hq
  · intro args H K hk
    simp only [S_impl_copyOf] at *
    unfold F_impl_copyOf at *
    split at hk
    · obtain ⟨l_list, i_list, bd_21, k⟩ := hk
      exact liveS fun a n e H1 g o => ⟨_, _, k a n e H1 g o⟩
    · exact hk.elim
  · intro _ args H K hk
    simp only [S_impl_copyOf] at *
    unfold F_impl_copyOf at *
    split at hk
    · obtain ⟨l_list, i_list, bd_21, k⟩ := hk
      exact ⟨l_list, i_list, bd_21, (fun r1_a r1_n r1_e H' gg ow0 => ⟨gg, k r1_a r1_n r1_e H' gg ow0⟩)⟩
    · exact hk.elim
  · have mm := @impl_copyOf_main
    have ml := fun (args : List Value) (H : AHeap) (K : Value → AHeap → Prop) => bodyL_body (P := Try.prog) (env := E_impl_copyOf ) (fn := Try.f122) (args := args) (H := H) (K := K) E_impl_copyOf_ok 
    revert mm ml
    generalize bodyK Try.prog E_impl_copyOf Try.f122 = Q
    generalize bodyL Try.prog E_impl_copyOf Try.f122 = QL
    intro mm ml args H K hk
    simp only [S_impl_copyOf] at *
    unfold F_impl_copyOf at *
    split at hk
    · exact ml _ H K (mm _ _ _ H K hk)
    · exact hk.elim
def p_cmp_isNaN_float32 (x : Nat) : Bool := !(feq .f32 x x)
def p_cmp_isNaN_float32_eq := @p_cmp_isNaN_float32.eq_1
def T_cmp_isNaN_float32 (x : Nat) (H : AHeap) (K : Bool → AHeap → Prop) : Prop := K (p_cmp_isNaN_float32 x) H

/-! cmp_isNaN_float32: function 203 -/
def E_cmp_isNaN_float32 : Env := envOf []
def F_cmp_isNaN_float32 : List Value → AHeap → (Value → AHeap → Prop) → Prop
  | [.float .f32 x], H, K => T_cmp_isNaN_float32 x H fun (r1 : Bool) (H' : AHeap) => K (.bool r1) H'
  | _, _, _ => False
def S_cmp_isNaN_float32 : FSpec := { F := F_cmp_isNaN_float32, quiet := true, tame := false }
theorem cmp_isNaN_float32_vc (x : Nat) (H : AHeap) (K : Value → AHeap → Prop) : bodyL Try.prog E_cmp_isNaN_float32 Try.f203 [.float .f32 x] H K =
  (K (.bool (!(feq .f32 x x))) H) := by kernel_rfl
theorem E_cmp_isNaN_float32_ok : ∀ g, FnOk Try.prog g (E_cmp_isNaN_float32 g) := FnOk.envOf (by
  intro x hx; cases hx)
set_option maxHeartbeats 1000000 in
theorem cmp_isNaN_float32_main (x : Nat) (H : AHeap) (K : Value → AHeap → Prop) (h : T_cmp_isNaN_float32 x H fun (r1 : Bool) (H' : AHeap) => K (.bool r1) H') : bodyL Try.prog E_cmp_isNaN_float32 Try.f203 [.float .f32 x] H K := by
  rw [cmp_isNaN_float32_vc]
  unfold T_cmp_isNaN_float32 p_cmp_isNaN_float32 at h
  repeat' (first | exact h | (exfalso; simp_all; done) | (refine ⟨by decide, ?_⟩) | (refine Br.intro (fun hb => ?_) (fun hb => ?_) <;> (try simp only [hb, cond_true, cond_false, Bool.not_true, Bool.not_false] at h)))
theorem cmp_isNaN_float32_ok : FnOk Try.prog 203 S_cmp_isNaN_float32 := by
  refine FnOk.body mix_ok E_cmp_isNaN_float32_ok Try.func203 rfl (by kernel_rfl) (by kernel_rfl) ?_ ?_ ?_ ?_ ?_
  · intro args H K K' h hk
    simp only [S_cmp_isNaN_float32] at *
    unfold F_cmp_isNaN_float32 at *
    split at hk
    · have k := hk
      exact h _ _ k
    · exact hk.elim
  · intro _ args H K hk
    simp only [S_cmp_isNaN_float32] at *
    unfold F_cmp_isNaN_float32 at *
    split at hk
    · have k := hk
      exact ⟨_, k, fun K' k' => k'⟩
    · exact hk.elim
  · intro args H K hk
    simp only [S_cmp_isNaN_float32] at *
    unfold F_cmp_isNaN_float32 at *
    split at hk
    · have k := hk
      exact ⟨_, _, k⟩
    · exact hk.elim
  · intro hq; cases hq
  · have mm := @cmp_isNaN_float32_main
    have ml := fun (args : List Value) (H : AHeap) (K : Value → AHeap → Prop) => bodyL_body (P := Try.prog) (env := E_cmp_isNaN_float32 ) (fn := Try.f203) (args := args) (H := H) (K := K) E_cmp_isNaN_float32_ok 
    revert mm ml
    generalize bodyK Try.prog E_cmp_isNaN_float32 Try.f203 = Q
    generalize bodyL Try.prog E_cmp_isNaN_float32 Try.f203 = QL
    intro mm ml args H K hk
    simp only [S_cmp_isNaN_float32] at *
    unfold F_cmp_isNaN_float32 at *
    split at hk
    · exact ml _ H K (mm _ H K hk)
    · exact hk.elim
def p_cmp_Compare_float32 (x : Nat) (y : Nat) : Int := (bif (p_cmp_isNaN_float32 x) then (bif (p_cmp_isNaN_float32 y) then (0 : Int) else ((-1) : Int)) else (bif (p_cmp_isNaN_float32 y) then (1 : Int) else (bif flt .f32 x y then ((-1) : Int) else (bif flt .f32 y x then (1 : Int) else (0 : Int)))))
def p_cmp_Compare_float32_eq := @p_cmp_Compare_float32.eq_1
def T_cmp_Compare_float32 (x : Nat) (y : Nat) (H : AHeap) (K : Int → AHeap → Prop) : Prop := K (p_cmp_Compare_float32 x y) H
theorem cmp_neg (x y : Nat) : decide ((p_cmp_Compare_float32 x y : Int) < 0) = So.lt_ kappa x y := by
  rw [← cmp_kappa, p_cmp_Compare_float32_eq]
  simp only [p_cmp_isNaN_float32_eq]
  have key : ∀ p q r s : Bool, decide ((bif !p then (bif !q then (0 : Int) else (-1)) else (bif !q then (1 : Int) else (bif r then (-1) else (bif s then (1 : Int) else (0 : Int))))) < 0) = (bif !p then (bif !q then false else true) else (bif !q then false else r)) := by decide
  exact key _ _ _ _
theorem T_cmp_Compare_float32_i {x : Nat} {y : Nat} {H : AHeap} {K : Int → AHeap → Prop} (h : K (p_cmp_Compare_float32 x y) H) : T_cmp_Compare_float32 x y H K := h
/-! cmp_Compare_float32: function 174 -/
def E_cmp_Compare_float32 : Env := envOf [(203, S_cmp_isNaN_float32)]
def F_cmp_Compare_float32 : List Value → AHeap → (Value → AHeap → Prop) → Prop
  | [.float .f32 x, .float .f32 y], H, K => T_cmp_Compare_float32 x y H fun (r1 : Int) (H' : AHeap) => K (.int .i64 r1) H'
  | _, _, _ => False
def S_cmp_Compare_float32 : FSpec := { F := F_cmp_Compare_float32, quiet := true, tame := false }
theorem cmp_Compare_float32_vc (x : Nat) (y : Nat) (H : AHeap) (K : Value → AHeap → Prop) : bodyL Try.prog E_cmp_Compare_float32 Try.f174 [.float .f32 x, .float .f32 y] H K =
  (T_cmp_isNaN_float32 x H fun (r1 : Bool) (H1 : AHeap) => T_cmp_isNaN_float32 y H1 fun (r2 : Bool) (H2 : AHeap) => Br r1 (Br r2 (K (.int .i64 0) H2) (K (.int .i64 (-1)) H2)) (Br r2 (K (.int .i64 1) H2) (Br (flt .f32 x y) (K (.int .i64 (-1)) H2) (Br (flt .f32 y x) (K (.int .i64 1) H2) (K (.int .i64 0) H2))))) := by kernel_rfl
theorem E_cmp_Compare_float32_ok : ∀ g, FnOk Try.prog g (E_cmp_Compare_float32 g) := FnOk.envOf (by
  intro x hx
  simp only [List.mem_cons, List.not_mem_nil, or_false] at hx
  subst hx; exact cmp_isNaN_float32_ok)
set_option maxHeartbeats 1000000 in
theorem cmp_Compare_float32_main (x : Nat) (y : Nat) (H : AHeap) (K : Value → AHeap → Prop) (h : T_cmp_Compare_float32 x y H fun (r1 : Int) (H' : AHeap) => K (.int .i64 r1) H') : bodyL Try.prog E_cmp_Compare_float32 Try.f174 [.float .f32 x, .float .f32 y] H K := by
  rw [cmp_Compare_float32_vc]
  simp only [T_cmp_isNaN_float32]
  unfold T_cmp_Compare_float32 p_cmp_Compare_float32 at h
  repeat' (first | exact h | (exfalso; simp_all; done) | (refine ⟨by decide, ?_⟩) | (refine Br.intro (fun hb => ?_) (fun hb => ?_) <;> (try simp only [hb, cond_true, cond_false, Bool.not_true, Bool.not_false] at h)))
theorem cmp_Compare_float32_ok : FnOk Try.prog 174 S_cmp_Compare_float32 := by
  refine FnOk.body mix_ok E_cmp_Compare_float32_ok Try.func174 rfl (by kernel_rfl) (by kernel_rfl) ?_ ?_ ?_ ?_ ?_
  · intro args H K K' h hk
    simp only [S_cmp_Compare_float32] at *
    unfold F_cmp_Compare_float32 at *
    split at hk
    · have k := hk
      exact h _ _ k
    · exact hk.elim
  · intro _ args H K hk
    simp only [S_cmp_Compare_float32] at *
    unfold F_cmp_Compare_float32 at *
    split at hk
    · have k := hk
      exact ⟨_, k, fun K' k' => k'⟩
    · exact hk.elim
  · intro args H K hk
    simp only [S_cmp_Compare_float32] at *
    unfold F_cmp_Compare_float32 at *
    split at hk
    · have k := hk
      exact ⟨_, _, k⟩
    · exact hk.elim
  · intro hq; cases hq
  · have mm := @cmp_Compare_float32_main
    have ml := fun (args : List Value) (H : AHeap) (K : Value → AHeap → Prop) => bodyL_body (P := Try.prog) (env := E_cmp_Compare_float32 ) (fn := Try.f174) (args := args) (H := H) (K := K) E_cmp_Compare_float32_ok 
    revert mm ml
    generalize bodyK Try.prog E_cmp_Compare_float32 Try.f174 = Q
    generalize bodyL Try.prog E_cmp_Compare_float32 Try.f174 = QL
    intro mm ml args H K hk
    simp only [S_cmp_Compare_float32] at *
    unfold F_cmp_Compare_float32 at *
    split at hk
    · exact ml _ H K (mm _ _ H K hk)
    · exact hk.elim

def p_slices_insertionSortCmpFunc_float32_l2 (l_data : List Nat) (a : Int) (b : Int) (i : Int) (y1_1 : List Nat) (k2_2 : Int → (List Nat) → (List Nat)) : Nat → Int → (List Nat) → (List Nat)
  | 0, _, _ => []
  | μ2 + 1, j, y2_1 => (bif decide ((a : Int) < j) then (bif decide (((p_cmp_Compare_float32 (((y2_1).getD (j : Int).toNat 0)) (((y2_1).getD ((j - 1) : Int).toNat 0))) : Int) < 0) then (p_slices_insertionSortCmpFunc_float32_l2 l_data a b i y1_1 k2_2 μ2 (j - 1) (((((y2_1).set (j : Int).toNat ((((y2_1).getD ((j - 1) : Int).toNat 0))))).set ((j - 1) : Int).toNat ((((y2_1).getD (j : Int).toNat 0)))))) else (k2_2 j y2_1)) else (k2_2 j y2_1))
def p_slices_insertionSortCmpFunc_float32_l2_s := fun l_data a b i y1_1 k2_2 μ2 j y2_1 => @p_slices_insertionSortCmpFunc_float32_l2.eq_2 l_data a b i y1_1 k2_2 j y2_1 μ2
def p_slices_insertionSortCmpFunc_float32_l1 (l_data : List Nat) (a : Int) (b : Int) : Nat → Int → (List Nat) → (List Nat)
  | 0, _, _ => []
  | μ + 1, i, y1_1 => (bif decide ((i : Int) < b) then (p_slices_insertionSortCmpFunc_float32_l2 l_data a b i y1_1 (fun (j : Int) (y2_1 : List Nat) => (p_slices_insertionSortCmpFunc_float32_l1 l_data a b μ (i + 1) y2_1)) (Int.toNat (i - a) + 1) i y1_1) else y1_1)
def p_slices_insertionSortCmpFunc_float32_l1_s := fun l_data a b μ i y1_1 => @p_slices_insertionSortCmpFunc_float32_l1.eq_2 l_data a b i y1_1 μ
def p_slices_insertionSortCmpFunc_float32 (l_data : List Nat) (a : Int) (b : Int) : (List Nat) := (p_slices_insertionSortCmpFunc_float32_l1 l_data a b (Int.toNat (b - (a + 1)) + 1) (a + 1) l_data)
def p_slices_insertionSortCmpFunc_float32_eq := @p_slices_insertionSortCmpFunc_float32.eq_1
def T_slices_insertionSortCmpFunc_float32 (data_a : Option Addr) (data_n : Nat) (data_e : Nat) (a : Int) (b : Int) (H : AHeap) (K : AHeap → Prop) : Prop := ∃ lo : Nat, ∃ (l_data : List Nat), OwnS fF H lo data_a data_n data_e l_data ∧ l_data.length < 1073741824 ∧ 0 ≤ a ∧ a ≤ b ∧ b ≤ l_data.length ∧ ((∀ H' : AHeap, KeepA data_a H H' → OwnS fF H' lo data_a data_n data_e (p_slices_insertionSortCmpFunc_float32 l_data a b) → K  H'))
theorem T_slices_insertionSortCmpFunc_float32_i {data_a : Option Addr} {data_n : Nat} {data_e : Nat} {a : Int} {b : Int} {H : AHeap} {K : AHeap → Prop} (h : ∃ lo : Nat, ∃ (l_data : List Nat), OwnS fF H lo data_a data_n data_e l_data ∧ l_data.length < 1073741824 ∧ 0 ≤ a ∧ a ≤ b ∧ b ≤ l_data.length ∧ ((∀ H' : AHeap, KeepA data_a H H' → OwnS fF H' lo data_a data_n data_e (p_slices_insertionSortCmpFunc_float32 l_data a b) → K  H'))) : T_slices_insertionSortCmpFunc_float32 data_a data_n data_e a b H K := h
theorem slices_insertionSort_down (l : List Nat) (a b i : Int) (y1 : List Nat) (g : List Nat → List Nat) (ha : 0 ≤ a) : ∀ (μ : Nat) (j : Int) (y : List Nat), j - a ≤ μ → a ≤ j →
    p_slices_insertionSortCmpFunc_float32_l2 l a b i y1 (fun _ y => g y) (μ + 1) j y = g (So.insD kappa (j - a).toNat y a.toNat j.toNat) := by
  intro μ
  induction μ with
  | zero =>
    intro j y h1 h2
    rw [p_slices_insertionSortCmpFunc_float32_l2_s, decide_eq_false o3, cond_false, show (j - a).toNat = 0 by omega]; rfl
  | succ μ ih =>
    intro j y h1 h2
    rw [p_slices_insertionSortCmpFunc_float32_l2_s]
    by_cases h : a < j
    · rw [decide_eq_true h, cond_true, cmp_neg]
      obtain ⟨n, hn⟩ : ∃ n, (j - a).toNat = n + 1 := ⟨(j - a).toNat - 1, by omega⟩
      rw [hn]
      unfold So.insD
      have e : So.lt_ kappa (y.getD j.toNat 0) (y.getD (j - 1).toNat 0) = So.lt_ kappa (So.at_ y j.toNat) (So.at_ y (j.toNat - 1)) := by
        rw [show (j - 1).toNat = j.toNat - 1 by omega]; rfl
      rw [e]
      by_cases hc : So.lt_ kappa (So.at_ y j.toNat) (So.at_ y (j.toNat - 1)) = true
      · rw [hc, cond_true, if_pos ⟨by omega, rfl⟩]
        have := ih (j - 1) (So.sw y j.toNat (j.toNat - 1)) o3 o3
        rw [show (j - 1 - a).toNat = n by omega, show (j - 1).toNat = j.toNat - 1 by omega] at this
        rw [← this, show (j - 1).toNat = j.toNat - 1 by omega]; rfl
      · rw [if_neg (fun h => hc h.2)]
        simp only [Bool.not_eq_true] at hc
        rw [hc, cond_false]
    · rw [decide_eq_false h, cond_false, show (j - a).toNat = 0 by omega]; rfl
theorem slices_insertionSort_loop (l : List Nat) (a b : Int) (ha : 0 ≤ a) : ∀ (μ : Nat) (i : Int) (y : List Nat), b - i ≤ μ → a < i →
    p_slices_insertionSortCmpFunc_float32_l1 l a b (μ + 1) i y = So.insS kappa (b - i).toNat y a.toNat i.toNat := by
  intro μ
  induction μ with
  | zero =>
    intro i y h1 h2
    rw [p_slices_insertionSortCmpFunc_float32_l1_s, decide_eq_false o3, cond_false, show (b - i).toNat = 0 by omega]; rfl
  | succ μ ih =>
    intro i y h1 h2
    rw [p_slices_insertionSortCmpFunc_float32_l1_s]
    by_cases h : i < b
    · obtain ⟨n, hn⟩ : ∃ n, (b - i).toNat = n + 1 := ⟨(b - i).toNat - 1, by omega⟩
      rw [decide_eq_true h, cond_true, hn, slices_insertionSort_down l a b i y (fun y => p_slices_insertionSortCmpFunc_float32_l1 l a b (μ + 1) (i + 1) y) ha _ _ _ o3 o3]
      rw [ih (i + 1) _ o3 o3, show (b - (i + 1)).toNat = n by omega, show (i + 1).toNat = i.toNat + 1 by omega, show (i - a).toNat = i.toNat - a.toNat by omega]
      rfl
    · rw [decide_eq_false h, cond_false, show (b - i).toNat = 0 by omega]; rfl
theorem slices_insertionSort_eq (l : List Nat) (a b : Int) (ha : 0 ≤ a) : p_slices_insertionSortCmpFunc_float32 l a b = So.insS kappa (b - (a + 1)).toNat l a.toNat (a.toNat + 1) := by
  rw [p_slices_insertionSortCmpFunc_float32_eq, slices_insertionSort_loop l a b ha _ _ _ o3 o3, show (a + 1).toNat = a.toNat + 1 by omega]
theorem slices_insertionSort_len (l : List Nat) (a b : Int) (ha : 0 ≤ a) : (p_slices_insertionSortCmpFunc_float32 l a b).length = l.length := by
  rw [slices_insertionSort_eq l a b ha, So.insS_length]
/-! slices_insertionSortCmpFunc_float32: function 226 -/
def E_slices_insertionSortCmpFunc_float32 : Env := envOf [(999999, quietMark), (174, S_cmp_Compare_float32)]
def F_slices_insertionSortCmpFunc_float32 : List Value → AHeap → (Value → AHeap → Prop) → Prop
  | [.slice data_a data_n data_e, .int .i64 a, .int .i64 b, .func (.func 174) ⟨[]⟩ ⟨[]⟩], H, K => T_slices_insertionSortCmpFunc_float32 data_a data_n data_e a b H fun  (H' : AHeap) => K (.tuple #[]) H'
  | _, _, _ => False
def S_slices_insertionSortCmpFunc_float32 : FSpec := { F := F_slices_insertionSortCmpFunc_float32, quiet := false, tame := false }
theorem slices_insertionSortCmpFunc_float32_vc (data_a : Option Addr) (data_n : Nat) (data_e : Nat) (a : Int) (b : Int) (H : AHeap) (K : Value → AHeap → Prop) : bodyL Try.prog E_slices_insertionSortCmpFunc_float32 Try.f226 [.slice data_a data_n data_e, .int .i64 a, .int .i64 b, .func (.func 174) #[] #[]] H K =
  (loopK (exL Try.prog E_slices_insertionSortCmpFunc_float32 (cl (cl (cr (bodyC Try.f226)))) 271 0 [(0, 0)]) [.slice data_a data_n data_e, .int .i64 a, .int .i64 b, .func (.func 174) #[] #[], ud, ud, ud, ud, .int .i64 (IntKind.wrap .i64 (a + 1)), ud, ud, ud, ud, ud, ud, ud, ud, ud, ud, ud, ud, ud, ud, ud, ud, ud, ud, ud, ud, ud, ud, ud, ud, ud, ud, ud, ud, ud, ud, ud, ud, ud, ud, ud, ud, ud, ud, ud, ud, ud, ud, ud, ud] H (blockQ 0 (retK Try.prog Try.f226 K))) := by kernel_rfl
abbrev slices_insertionSortCmpFunc_float32_P1 (a : Int) (b : Int) (data_a : Option Addr) (data_e : Nat) (data_n : Nat) (i : Int)  : List Value := [.slice data_a data_n data_e, .int .i64 a, .int .i64 b, .func (.func 174) #[] #[], ud, ud, ud, ud, .int .i64 i, ud, ud, ud, ud, ud, ud, ud, ud, ud, ud, ud, ud, ud, ud, ud, ud, ud, ud, ud, ud, ud, ud, ud, ud, ud, ud, ud, ud, ud, ud, ud, ud, ud, ud, ud, ud, ud, ud, ud, ud, ud, ud, ud, ud]
theorem slices_insertionSortCmpFunc_float32_r1 (a : Int) (b : Int) (data_a : Option Addr) (data_e : Nat) (data_n : Nat) (i : Int)  (H : AHeap) (R : Post) : exL Try.prog E_slices_insertionSortCmpFunc_float32 (cl (cl (cr (bodyC Try.f226)))) 271 0 [(0, 0)] (slices_insertionSortCmpFunc_float32_P1 a b data_a data_e data_n i) H R =
  (Br (decide ((i : Int) < b)) (loopK (exL Try.prog E_slices_insertionSortCmpFunc_float32 (cl (cl (cr (cl (cl (cr (cl (cl (cr (bodyC Try.f226)))))))))) 783 0 [(2, 271), (1, 271), (0, 0)]) [.slice data_a data_n data_e, .int .i64 a, .int .i64 b, .func (.func 174) #[] #[], ud, ud, ud, ud, .int .i64 i, .int .i64 i, ud, ud, ud, ud, ud, ud, ud, ud, ud, ud, ud, ud, ud, ud, ud, ud, ud, ud, ud, ud, ud, ud, ud, ud, ud, ud, ud, ud, ud, ud, ud, ud, ud, ud, ud, ud, ud, ud, ud, ud, ud, ud, ud] H (blockQ 2 (blockQ 1 (seqQ (exL Try.prog E_slices_insertionSortCmpFunc_float32 (cr (cr (cl (cl (cr (bodyC Try.f226)))))) 271 0 [(0, 0)]) (R))))) (R (.exit 0) [ud, ud, ud, ud, ud, ud, ud, ud, ud, ud, ud, ud, ud, ud, ud, ud, ud, ud, ud, ud, ud, ud, ud, ud, ud, ud, ud, ud, ud, ud, ud, ud, ud, ud, ud, ud, ud, ud, ud, ud, ud, ud, ud, ud, ud, ud, ud, ud, ud, ud, ud, ud, ud] H)) := by kernel_rfl
def slices_insertionSortCmpFunc_float32_I1 (a : Int) (b : Int) (data_a : Option Addr) (data_e : Nat) (data_n : Nat) (Inv : Nat → Int → AHeap → Prop) : Nat → List Value → AHeap → Prop := fun μ tm H => ∃ (i : Int), tm = (slices_insertionSortCmpFunc_float32_P1 a b data_a data_e data_n i) ∧ Inv μ i H
theorem slices_insertionSortCmpFunc_float32_L1 (a : Int) (b : Int) (data_a : Option Addr) (data_e : Nat) (data_n : Nat) {Q : Post} (Inv : Nat → Int → AHeap → Prop) (ν : Nat) (i : Int)  (H : AHeap) (h0 : Inv ν i H)
    (hs : ∀ (μ : Nat) (i : Int)  (H : AHeap), Inv μ i H → exL Try.prog E_slices_insertionSortCmpFunc_float32 (cl (cl (cr (bodyC Try.f226)))) 271 0 [(0, 0)] (slices_insertionSortCmpFunc_float32_P1 a b data_a data_e data_n i) H (loopQ (slices_insertionSortCmpFunc_float32_I1 a b data_a data_e data_n Inv) μ Q)) : loopK (exL Try.prog E_slices_insertionSortCmpFunc_float32 (cl (cl (cr (bodyC Try.f226)))) 271 0 [(0, 0)]) (slices_insertionSortCmpFunc_float32_P1 a b data_a data_e data_n i) H Q :=
  ⟨slices_insertionSortCmpFunc_float32_I1 a b data_a data_e data_n Inv, ν, ⟨i, rfl, h0⟩, fun μ tm H h => by obtain ⟨i, rfl, hI⟩ := h; exact hs μ i  H hI⟩
theorem slices_insertionSortCmpFunc_float32_n1 {a : Int} {b : Int} {data_a : Option Addr} {data_e : Nat} {data_n : Nat} {Q : Post} {Inv : Nat → Int → AHeap → Prop} {μ : Nat} (μ' : Nat) {i : Int}  {H : AHeap} (hm : μ' < μ) (hI : Inv μ' i H) : loopQ (slices_insertionSortCmpFunc_float32_I1 a b data_a data_e data_n Inv) μ Q .normal (slices_insertionSortCmpFunc_float32_P1 a b data_a data_e data_n i) H := ⟨μ', hm, i, rfl, hI⟩
theorem slices_insertionSortCmpFunc_float32_x1_0  (H : AHeap) (K : Value → AHeap → Prop)  {I : Nat → List Value → AHeap → Prop} {μ : Nat} : loopQ I μ (blockQ 0 (retK Try.prog Try.f226 K)) (.exit 0) [ud, ud, ud, ud, ud, ud, ud, ud, ud, ud, ud, ud, ud, ud, ud, ud, ud, ud, ud, ud, ud, ud, ud, ud, ud, ud, ud, ud, ud, ud, ud, ud, ud, ud, ud, ud, ud, ud, ud, ud, ud, ud, ud, ud, ud, ud, ud, ud, ud, ud, ud, ud, ud] H =
  (K (.tuple #[]) H) := by kernel_rfl
abbrev slices_insertionSortCmpFunc_float32_P2 (a : Int) (b : Int) (data_a : Option Addr) (data_e : Nat) (data_n : Nat) (i : Int) (j : Int)  : List Value := [.slice data_a data_n data_e, .int .i64 a, .int .i64 b, .func (.func 174) #[] #[], ud, ud, ud, ud, .int .i64 i, .int .i64 j, ud, ud, ud, ud, ud, ud, ud, ud, ud, ud, ud, ud, ud, ud, ud, ud, ud, ud, ud, ud, ud, ud, ud, ud, ud, ud, ud, ud, ud, ud, ud, ud, ud, ud, ud, ud, ud, ud, ud, ud, ud, ud, ud]
theorem slices_insertionSortCmpFunc_float32_r2 (a : Int) (b : Int) (data_a : Option Addr) (data_e : Nat) (data_n : Nat) (i : Int) (j : Int)  (H : AHeap) (R : Post) : exL Try.prog E_slices_insertionSortCmpFunc_float32 (cl (cl (cr (cl (cl (cr (cl (cl (cr (bodyC Try.f226)))))))))) 783 0 [(2, 271), (1, 271), (0, 0)] (slices_insertionSortCmpFunc_float32_P2 a b data_a data_e data_n i j) H R =
  (Br (decide ((a : Int) < j)) ((0 : Int) ≤ j ∧ j < (data_n : Int) ∧ ∃ b1 f1, (data_a : Option Addr) = some ⟨b1, f1, none⟩ ∧ ∃ x1 : Nat,  rdC H b1 (f1 + (j : Int).toNat * 1) = some (.float .f32 x1) ∧ (0 : Int) ≤ IntKind.wrap .i64 (j - 1) ∧ IntKind.wrap .i64 (j - 1) < (data_n : Int) ∧ ∃ b2 f2, (data_a : Option Addr) = some ⟨b2, f2, none⟩ ∧ ∃ x2 : Nat,  rdC H b2 (f2 + (IntKind.wrap .i64 (j - 1) : Int).toNat * 1) = some (.float .f32 x2) ∧ T_cmp_Compare_float32 x1 x2 H fun (r1 : Int) (H1 : AHeap) => Br (decide ((r1 : Int) < 0)) ((0 : Int) ≤ IntKind.wrap .i64 (j - 1) ∧ IntKind.wrap .i64 (j - 1) < (data_n : Int) ∧ ∃ b3 f3, (data_a : Option Addr) = some ⟨b3, f3, none⟩ ∧ ∃ x3 : Nat,  rdC H1 b3 (f3 + (IntKind.wrap .i64 (j - 1) : Int).toNat * 1) = some (.float .f32 x3) ∧ (0 : Int) ≤ j ∧ j < (data_n : Int) ∧ ∃ b4 f4, (data_a : Option Addr) = some ⟨b4, f4, none⟩ ∧ ∃ x4 : Nat,  rdC H1 b4 (f4 + (j : Int).toNat * 1) = some (.float .f32 x4) ∧ (0 : Int) ≤ j ∧ j < (data_n : Int) ∧ ∃ b5 f5, (data_a : Option Addr) = some ⟨b5, f5, none⟩ ∧ isOwn H1 b5 ∧ (∃ l, rdN H1 b5 (f5 + (j : Int).toNat * 1) 1 = some l) ∧ Lt (setC H1 b5 (f5 + (j : Int).toNat * 1) (.float .f32 x3)) fun H2 => (0 : Int) ≤ IntKind.wrap .i64 (j - 1) ∧ IntKind.wrap .i64 (j - 1) < (data_n : Int) ∧ ∃ b6 f6, (data_a : Option Addr) = some ⟨b6, f6, none⟩ ∧ isOwn H2 b6 ∧ (∃ l, rdN H2 b6 (f6 + (IntKind.wrap .i64 (j - 1) : Int).toNat * 1) 1 = some l) ∧ Lt (setC H2 b6 (f6 + (IntKind.wrap .i64 (j - 1) : Int).toNat * 1) (.float .f32 x4)) fun H3 => R .normal [.slice data_a data_n data_e, .int .i64 a, .int .i64 b, .func (.func 174) #[] #[], ud, ud, ud, ud, .int .i64 i, .int .i64 (IntKind.wrap .i64 (j - 1)), ud, ud, ud, ud, ud, ud, ud, ud, ud, ud, ud, ud, ud, ud, ud, ud, ud, ud, ud, ud, ud, ud, ud, ud, ud, ud, ud, ud, ud, ud, ud, ud, ud, ud, ud, ud, ud, ud, ud, ud, ud, ud, ud] H3) (R (.exit 2) [.slice data_a data_n data_e, .int .i64 a, .int .i64 b, .func (.func 174) #[] #[], ud, ud, ud, ud, .int .i64 i, ud, ud, ud, ud, ud, ud, ud, ud, ud, ud, ud, ud, ud, ud, ud, ud, ud, ud, ud, ud, ud, ud, ud, ud, ud, ud, ud, ud, ud, ud, ud, ud, ud, ud, ud, ud, ud, ud, ud, ud, ud, ud, ud, ud] H1)) (R (.exit 2) [.slice data_a data_n data_e, .int .i64 a, .int .i64 b, .func (.func 174) #[] #[], ud, ud, ud, ud, .int .i64 i, ud, ud, ud, ud, ud, ud, ud, ud, ud, ud, ud, ud, ud, ud, ud, ud, ud, ud, ud, ud, ud, ud, ud, ud, ud, ud, ud, ud, ud, ud, ud, ud, ud, ud, ud, ud, ud, ud, ud, ud, ud, ud, ud, ud] H)) := by kernel_rfl
def slices_insertionSortCmpFunc_float32_I2 (a : Int) (b : Int) (data_a : Option Addr) (data_e : Nat) (data_n : Nat) (i : Int) (Inv : Nat → Int → AHeap → Prop) : Nat → List Value → AHeap → Prop := fun μ tm H => ∃ (j : Int), tm = (slices_insertionSortCmpFunc_float32_P2 a b data_a data_e data_n i j) ∧ Inv μ j H
theorem slices_insertionSortCmpFunc_float32_L2 (a : Int) (b : Int) (data_a : Option Addr) (data_e : Nat) (data_n : Nat) (i : Int) {Q : Post} (Inv : Nat → Int → AHeap → Prop) (ν : Nat) (j : Int)  (H : AHeap) (h0 : Inv ν j H)
    (hs : ∀ (μ : Nat) (j : Int)  (H : AHeap), Inv μ j H → exL Try.prog E_slices_insertionSortCmpFunc_float32 (cl (cl (cr (cl (cl (cr (cl (cl (cr (bodyC Try.f226)))))))))) 783 0 [(2, 271), (1, 271), (0, 0)] (slices_insertionSortCmpFunc_float32_P2 a b data_a data_e data_n i j) H (loopQ (slices_insertionSortCmpFunc_float32_I2 a b data_a data_e data_n i Inv) μ Q)) : loopK (exL Try.prog E_slices_insertionSortCmpFunc_float32 (cl (cl (cr (cl (cl (cr (cl (cl (cr (bodyC Try.f226)))))))))) 783 0 [(2, 271), (1, 271), (0, 0)]) (slices_insertionSortCmpFunc_float32_P2 a b data_a data_e data_n i j) H Q :=
  ⟨slices_insertionSortCmpFunc_float32_I2 a b data_a data_e data_n i Inv, ν, ⟨j, rfl, h0⟩, fun μ tm H h => by obtain ⟨j, rfl, hI⟩ := h; exact hs μ j  H hI⟩
theorem slices_insertionSortCmpFunc_float32_n2 {a : Int} {b : Int} {data_a : Option Addr} {data_e : Nat} {data_n : Nat} {i : Int} {Q : Post} {Inv : Nat → Int → AHeap → Prop} {μ : Nat} (μ' : Nat) {j : Int}  {H : AHeap} (hm : μ' < μ) (hI : Inv μ' j H) : loopQ (slices_insertionSortCmpFunc_float32_I2 a b data_a data_e data_n i Inv) μ Q .normal (slices_insertionSortCmpFunc_float32_P2 a b data_a data_e data_n i j) H := ⟨μ', hm, j, rfl, hI⟩
theorem slices_insertionSortCmpFunc_float32_x2_2 (a : Int) (b : Int) (data_a : Option Addr) (data_e : Nat) (data_n : Nat) (i : Int) (H : AHeap)  (R : Post) {I : Nat → List Value → AHeap → Prop} {μ : Nat} : loopQ I μ (blockQ 2 (blockQ 1 (seqQ (exL Try.prog E_slices_insertionSortCmpFunc_float32 (cr (cr (cl (cl (cr (bodyC Try.f226)))))) 271 0 [(0, 0)]) (R)))) (.exit 2) [.slice data_a data_n data_e, .int .i64 a, .int .i64 b, .func (.func 174) #[] #[], ud, ud, ud, ud, .int .i64 i, ud, ud, ud, ud, ud, ud, ud, ud, ud, ud, ud, ud, ud, ud, ud, ud, ud, ud, ud, ud, ud, ud, ud, ud, ud, ud, ud, ud, ud, ud, ud, ud, ud, ud, ud, ud, ud, ud, ud, ud, ud, ud, ud, ud] H =
  (R .normal [.slice data_a data_n data_e, .int .i64 a, .int .i64 b, .func (.func 174) #[] #[], ud, ud, ud, ud, .int .i64 (IntKind.wrap .i64 (i + 1)), ud, ud, ud, ud, ud, ud, ud, ud, ud, ud, ud, ud, ud, ud, ud, ud, ud, ud, ud, ud, ud, ud, ud, ud, ud, ud, ud, ud, ud, ud, ud, ud, ud, ud, ud, ud, ud, ud, ud, ud, ud, ud, ud, ud] H) := by kernel_rfl
theorem E_slices_insertionSortCmpFunc_float32_ok : ∀ g, FnOk Try.prog g (E_slices_insertionSortCmpFunc_float32 g) := FnOk.envOf (by
  intro x hx
  simp only [List.mem_cons, List.not_mem_nil, or_false] at hx
  rcases hx with rfl | rfl
  · exact quietMark_ok _
  · exact cmp_Compare_float32_ok)
theorem o4 {P : Prop} (h : P := by first | omega | (simp only [List.length_set]; (first | omega | (simp only [List.length_set, List.length_replicate, List.length_append, List.length_cons, List.length_nil, List.length_take, List.length_drop, marks_length]; done) | (simp only [List.length_set, List.length_replicate, List.length_append, List.length_cons, List.length_nil, List.length_take, List.length_drop, marks_length]; omega)))) : P := h
set_option maxHeartbeats 1000000 in
theorem slices_insertionSortCmpFunc_float32_main (data_a : Option Addr) (data_n : Nat) (data_e : Nat) (a : Int) (b : Int) (H : AHeap) (K : Value → AHeap → Prop) (h : T_slices_insertionSortCmpFunc_float32 data_a data_n data_e a b H fun  (H' : AHeap) => K (.tuple #[]) H') : bodyL Try.prog E_slices_insertionSortCmpFunc_float32 Try.f226 [.slice data_a data_n data_e, .int .i64 a, .int .i64 b, .func (.func 174) #[] #[]] H K := by
  rw [slices_insertionSortCmpFunc_float32_vc]
  obtain ⟨lo, l_data, i_data, bd_48, pr0, pr1, pr2, hk⟩ := h
  obtain rfl := i_data.len
  have up_m := i_data.up
  have lo_m := i_data.lo
  have e : (p_slices_insertionSortCmpFunc_float32 l_data a b) = _ := rfl
  have e := e.trans (p_slices_insertionSortCmpFunc_float32_eq l_data a b)
  have g0 := KeepA.refl data_a H
  rw [show IntKind.wrap .i64 (a + 1) = (a + 1) from wrap64 o3 o3]
  refine slices_insertionSortCmpFunc_float32_L1 _ _ _ _ _ (fun (μ : Nat) (i : Int) (H_1 : AHeap) => ∃ (y1_1 : List Nat), OwnS fF H_1 lo data_a l_data.length data_e y1_1 ∧ y1_1.length = (l_data).length ∧ H.length ≤ H_1.length ∧ KeepA data_a H H_1 ∧ (a + 1) ≤ i ∧ ((i ≤ b ∨ i ≤ (a + 1))) ∧ b - i ≤ (μ : Int) ∧ p_slices_insertionSortCmpFunc_float32 l_data a b = p_slices_insertionSortCmpFunc_float32_l1 l_data a b (μ + 1) i y1_1) (Int.toNat (b - (a + 1))) _ H ?_ ?_
  · exact ⟨_, i_data, o11, o3, g0, o5, o5, o3, e⟩
  · intro μ i  H_1 hI
    obtain ⟨y1_1, r_1, y_2, n_3, g_4, v_5, v_6, hμ, e⟩ := hI
    rw [slices_insertionSortCmpFunc_float32_r1]
    have e := e.trans (p_slices_insertionSortCmpFunc_float32_l1_s l_data a b μ i y1_1)
    have l_7 := g_4.1
    refine Br.intro (fun c_8 => ?_) (fun c_8 => ?_)
    · have e := e.trans (cond_t c_8)
      have c_8' := of_decide_eq_true c_8
      refine slices_insertionSortCmpFunc_float32_L2 _ _ _ _ _ _ (fun (μ2 : Nat) (j : Int) (H_2 : AHeap) => ∃ (y2_1 : List Nat), OwnS fF H_2 lo data_a l_data.length data_e y2_1 ∧ y2_1.length = (l_data).length ∧ H.length ≤ H_2.length ∧ KeepA data_a H H_2 ∧ a ≤ j ∧ j ≤ i ∧ j - a ≤ (μ2 : Int) ∧ p_slices_insertionSortCmpFunc_float32 l_data a b = p_slices_insertionSortCmpFunc_float32_l2 l_data a b i y1_1 (fun (j : Int) (y2_1 : List Nat) => (p_slices_insertionSortCmpFunc_float32_l1 l_data a b μ (i + 1) y2_1)) (μ2 + 1) j y2_1) (Int.toNat (i - a)) _ H_1 ?_ ?_
      · exact ⟨_, r_1, o11, o3, g_4, o5, o5, o3, e⟩
      · intro μ2 j  H_2 hI
        obtain ⟨y2_1, r_9, y_10, n_11, g_12, v_13, v_14, hμ, e⟩ := hI
        rw [slices_insertionSortCmpFunc_float32_r2]
        have e := e.trans (p_slices_insertionSortCmpFunc_float32_l2_s l_data a b i y1_1 (fun (j : Int) (y2_1 : List Nat) => (p_slices_insertionSortCmpFunc_float32_l1 l_data a b μ (i + 1) y2_1)) μ2 j y2_1)
        have l_15 := g_12.1
        refine Br.intro (fun c_16 => ?_) (fun c_16 => ?_)
        · have e := e.trans (cond_t c_16)
          have c_16' := of_decide_eq_true c_16
          obtain ⟨b_17, f_18, q_19⟩ := (r_9.isL).pos o0
          refine ⟨by omega, by omega, b_17, f_18, q_19, ?_⟩
          refine ⟨((y2_1).getD (j : Int).toNat 0), (r_9.isL).rd (Grow.refl _) q_19 o3 _, ?_⟩
          rw [show IntKind.wrap .i64 (j - 1) = (j - 1) from wrap64 o3 o3]
          obtain ⟨b_20, f_21, q_22⟩ := (r_9.isL).pos o0
          refine ⟨by omega, by omega, b_20, f_21, q_22, ?_⟩
          refine ⟨((y2_1).getD ((j - 1) : Int).toNat 0), (r_9.isL).rd (Grow.refl _) q_22 o3 _, ?_⟩
          refine T_cmp_Compare_float32_i ?_
          refine Br.intro (fun c_23 => ?_) (fun c_23 => ?_)
          · have e := e.trans (cond_t c_23)
            have c_23' := of_decide_eq_true c_23
            obtain ⟨b_24, f_25, q_26⟩ := (r_9.isL).pos o0
            refine ⟨by omega, by omega, b_24, f_25, q_26, ?_⟩
            refine ⟨((y2_1).getD ((j - 1) : Int).toNat 0), (r_9.isL).rd (Grow.refl _) q_26 o3 _, ?_⟩
            obtain ⟨b_27, f_28, q_29⟩ := (r_9.isL).pos o0
            refine ⟨by omega, by omega, b_27, f_28, q_29, ?_⟩
            refine ⟨((y2_1).getD (j : Int).toNat 0), (r_9.isL).rd (Grow.refl _) q_29 o3 _, ?_⟩
            obtain ⟨b_30, f_31, q_32⟩ := (r_9.isL).pos o0
            refine ⟨by omega, by omega, b_30, f_31, q_32, ?_⟩
            refine Lt.setS r_9 q_32 o4 (fun H_3 hl_33 o_35 k_34 => ?_)
            have l_36 := k_34.1
            have g_37 := g_12.transA k_34
            have l_38 := g_37.1
            obtain ⟨b_39, f_40, q_41⟩ := (o_35.isL).pos o0
            refine ⟨by omega, by omega, b_39, f_40, q_41, ?_⟩
            refine Lt.setS o_35 q_41 o4 (fun H_4 hl_42 o_44 k_43 => ?_)
            have l_45 := k_43.1
            have g_46 := g_37.transA k_43
            have l_47 := g_46.1
            refine slices_insertionSortCmpFunc_float32_n2 (μ2 - 1) o10 ⟨_, o_44, o7, o3, g_46, o1, o1, o10, (by rw [show μ2 - 1 + 1 = μ2 from by first | omega]; exact e)⟩
          · have e := e.trans (cond_f c_23)
            have c_23' := of_decide_eq_false c_23
            rw [slices_insertionSortCmpFunc_float32_x2_2]
            rw [show IntKind.wrap .i64 (i + 1) = (i + 1) from wrap64 o3 o3]
            refine slices_insertionSortCmpFunc_float32_n1 (μ - 1) o10 ⟨_, r_9, o7, o3, g_12, o1, o1, o10, (by rw [show μ - 1 + 1 = μ from by first | omega]; exact e)⟩
        · have e := e.trans (cond_f c_16)
          have c_16' := of_decide_eq_false c_16
          rw [slices_insertionSortCmpFunc_float32_x2_2]
          rw [show IntKind.wrap .i64 (i + 1) = (i + 1) from wrap64 o3 o3]
          refine slices_insertionSortCmpFunc_float32_n1 (μ - 1) o10 ⟨_, r_9, o7, o3, g_12, o1, o1, o10, (by rw [show μ - 1 + 1 = μ from by first | omega]; exact e)⟩
    · have e := e.trans (cond_f c_8)
      have c_8' := of_decide_eq_false c_8
      rw [slices_insertionSortCmpFunc_float32_x1_0]
      rw [e] at hk
      exact hk H_1 g_4 r_1
theorem slices_insertionSortCmpFunc_float32_ok : FnOk Try.prog 226 S_slices_insertionSortCmpFunc_float32 := by
  refine FnOk.body mix_ok E_slices_insertionSortCmpFunc_float32_ok Try.func226 rfl (by kernel_rfl) (by kernel_rfl) ?_ ?_ ?_ ?_ ?_
  · intro args H K K' h hk
    simp only [S_slices_insertionSortCmpFunc_float32] at *
    unfold F_slices_insertionSortCmpFunc_float32 at *
    split at hk
    · obtain ⟨lo, l_data, i_data, bd_48, pr0, pr1, pr2, k⟩ := hk
      exact ⟨lo, l_data, i_data, bd_48, pr0, pr1, pr2, (fun H' gg ow => h _ _ (k H' gg ow))⟩
    · exact hk.elim
  · intro hq; cases hq
  · intro args H K hk
    simp only [S_slices_insertionSortCmpFunc_float32] at *
    unfold F_slices_insertionSortCmpFunc_float32 at *
    split at hk
    · obtain ⟨lo, l_data, i_data, bd_48, pr0, pr1, pr2, k⟩ := hk
      exact (i_data.put _ (by exact slices_insertionSort_len _ _ _ (by omega))).elim fun H1 h => ⟨_, _, k H1 h.1 h.2⟩
    · exact hk.elim
  · intro hq; cases hq
  · have mm := @slices_insertionSortCmpFunc_float32_main
    have ml := fun (args : List Value) (H : AHeap) (K : Value → AHeap → Prop) => bodyL_body (P := Try.prog) (env := E_slices_insertionSortCmpFunc_float32 ) (fn := Try.f226) (args := args) (H := H) (K := K) E_slices_insertionSortCmpFunc_float32_ok 
    revert mm ml
    generalize bodyK Try.prog E_slices_insertionSortCmpFunc_float32 Try.f226 = Q
    generalize bodyL Try.prog E_slices_insertionSortCmpFunc_float32 Try.f226 = QL
    intro mm ml args H K hk
    simp only [S_slices_insertionSortCmpFunc_float32] at *
    unfold F_slices_insertionSortCmpFunc_float32 at *
    split at hk
    · exact ml _ H K (mm _ _ _ _ _ H K hk)
    · exact hk.elim

def p_slices_swapRangeCmpFunc_float32_l1 (l_data : List Nat) (a : Int) (b : Int) (n : Int) : Nat → Int → (List Nat) → (List Nat)
  | 0, _, _ => []
  | μ + 1, i, y1_1 => (bif decide ((i : Int) < n) then (p_slices_swapRangeCmpFunc_float32_l1 l_data a b n μ (i + 1) (((((y1_1).set ((a + i) : Int).toNat ((((y1_1).getD ((b + i) : Int).toNat 0))))).set ((b + i) : Int).toNat ((((y1_1).getD ((a + i) : Int).toNat 0)))))) else y1_1)
def p_slices_swapRangeCmpFunc_float32_l1_s := fun l_data a b n μ i y1_1 => @p_slices_swapRangeCmpFunc_float32_l1.eq_2 l_data a b n i y1_1 μ
def p_slices_swapRangeCmpFunc_float32 (l_data : List Nat) (a : Int) (b : Int) (n : Int) : (List Nat) := (p_slices_swapRangeCmpFunc_float32_l1 l_data a b n (Int.toNat (n - (0 : Int)) + 1) (0 : Int) l_data)
def p_slices_swapRangeCmpFunc_float32_eq := @p_slices_swapRangeCmpFunc_float32.eq_1
def T_slices_swapRangeCmpFunc_float32 (data_a : Option Addr) (data_n : Nat) (data_e : Nat) (a : Int) (b : Int) (n : Int) (H : AHeap) (K : AHeap → Prop) : Prop := ∃ lo : Nat, ∃ (l_data : List Nat), OwnS fF H lo data_a data_n data_e l_data ∧ l_data.length < 1073741824 ∧ 0 ≤ a ∧ a + n ≤ l_data.length ∧ 0 ≤ b ∧ b + n ≤ l_data.length ∧ n < 1073741824 ∧ ((∀ H' : AHeap, KeepA data_a H H' → OwnS fF H' lo data_a data_n data_e (p_slices_swapRangeCmpFunc_float32 l_data a b n) → K  H'))
theorem T_slices_swapRangeCmpFunc_float32_i {data_a : Option Addr} {data_n : Nat} {data_e : Nat} {a : Int} {b : Int} {n : Int} {H : AHeap} {K : AHeap → Prop} (h : ∃ lo : Nat, ∃ (l_data : List Nat), OwnS fF H lo data_a data_n data_e l_data ∧ l_data.length < 1073741824 ∧ 0 ≤ a ∧ a + n ≤ l_data.length ∧ 0 ≤ b ∧ b + n ≤ l_data.length ∧ n < 1073741824 ∧ ((∀ H' : AHeap, KeepA data_a H H' → OwnS fF H' lo data_a data_n data_e (p_slices_swapRangeCmpFunc_float32 l_data a b n) → K  H'))) : T_slices_swapRangeCmpFunc_float32 data_a data_n data_e a b n H K := h
theorem slices_swapRange_loop (l : List Nat) (a b n : Int) : ∀ (μ : Nat) (k : Nat) (i : Int) (y : List Nat), n - i ≤ μ → 0 ≤ a → 0 ≤ b → 0 ≤ i → i ≤ n → (k : Int) = n - i →
    p_slices_swapRangeCmpFunc_float32_l1 l a b n (μ + 1) i y = So.swR k y (a + i).toNat (b + i).toNat := by
  intro μ
  induction μ with
  | zero =>
    intro k i y h1 h2 h3 h4 h5 hk
    rw [p_slices_swapRangeCmpFunc_float32_l1_s, decide_eq_false o3, cond_false, show k = 0 by omega]; rfl
  | succ μ ih =>
    intro k i y h1 h2 h3 h4 h5 hk
    rw [p_slices_swapRangeCmpFunc_float32_l1_s]
    by_cases h : i < n
    · rw [decide_eq_true h, cond_true]
      obtain ⟨k, rfl⟩ : ∃ k', k = k' + 1 := ⟨k - 1, by omega⟩
      have := ih k (i + 1) (So.sw y (a + i).toNat (b + i).toNat) o3 h2 h3 o3 o3 o3
      rw [show (a + (i + 1)).toNat = (a + i).toNat + 1 by omega, show (b + (i + 1)).toNat = (b + i).toNat + 1 by omega] at this
      exact this
    · rw [decide_eq_false h, cond_false, show k = 0 by omega]; rfl
theorem slices_swapRange_eq (l : List Nat) (a b n : Int) (ha : 0 ≤ a) (hb : 0 ≤ b) : p_slices_swapRangeCmpFunc_float32 l a b n = So.swR n.toNat l a.toNat b.toNat := by
  rw [p_slices_swapRangeCmpFunc_float32_eq]
  by_cases hn : 0 ≤ n
  · have := slices_swapRange_loop l a b n (Int.toNat (n - 0)) n.toNat 0 l o3 ha hb o3 hn o3
    rw [show (a + 0).toNat = a.toNat by omega, show (b + 0).toNat = b.toNat by omega] at this
    exact this
  · rw [p_slices_swapRangeCmpFunc_float32_l1_s, decide_eq_false o3, cond_false, show n.toNat = 0 by omega]; rfl
theorem slices_swapRange_len (l : List Nat) (a b n : Int) (ha : 0 ≤ a) (hb : 0 ≤ b) : (p_slices_swapRangeCmpFunc_float32 l a b n).length = l.length := by
  rw [slices_swapRange_eq l a b n ha hb, So.swR_length]
/-! slices_swapRangeCmpFunc_float32: function 244 -/
def E_slices_swapRangeCmpFunc_float32 : Env := envOf []
def F_slices_swapRangeCmpFunc_float32 : List Value → AHeap → (Value → AHeap → Prop) → Prop
  | [.slice data_a data_n data_e, .int .i64 a, .int .i64 b, .int .i64 n, .func (.func 174) ⟨[]⟩ ⟨[]⟩], H, K => T_slices_swapRangeCmpFunc_float32 data_a data_n data_e a b n H fun  (H' : AHeap) => K (.tuple #[]) H'
  | _, _, _ => False
def S_slices_swapRangeCmpFunc_float32 : FSpec := { F := F_slices_swapRangeCmpFunc_float32, quiet := false, tame := false }
theorem slices_swapRangeCmpFunc_float32_vc (data_a : Option Addr) (data_n : Nat) (data_e : Nat) (a : Int) (b : Int) (n : Int) (H : AHeap) (K : Value → AHeap → Prop) : bodyL Try.prog E_slices_swapRangeCmpFunc_float32 Try.f244 [.slice data_a data_n data_e, .int .i64 a, .int .i64 b, .int .i64 n, .func (.func 174) #[] #[]] H K =
  (loopK (exL Try.prog E_slices_swapRangeCmpFunc_float32 (cl (cl (cr (bodyC Try.f244)))) 1039 0 [(0, 0)]) [.slice data_a data_n data_e, .int .i64 a, .int .i64 b, .int .i64 n, ud, ud, ud, ud, ud, ud, .int .i64 0, ud, ud, ud, ud, ud, ud, ud, ud, ud, ud, ud, ud, ud, ud, ud, ud, ud, ud, ud, ud, ud, ud, ud, ud, ud, ud, ud] H (blockQ 0 (retK Try.prog Try.f244 K))) := by kernel_rfl
abbrev slices_swapRangeCmpFunc_float32_P1 (a : Int) (b : Int) (data_a : Option Addr) (data_e : Nat) (data_n : Nat) (n : Int) (i : Int)  : List Value := [.slice data_a data_n data_e, .int .i64 a, .int .i64 b, .int .i64 n, ud, ud, ud, ud, ud, ud, .int .i64 i, ud, ud, ud, ud, ud, ud, ud, ud, ud, ud, ud, ud, ud, ud, ud, ud, ud, ud, ud, ud, ud, ud, ud, ud, ud, ud, ud]
theorem slices_swapRangeCmpFunc_float32_r1 (a : Int) (b : Int) (data_a : Option Addr) (data_e : Nat) (data_n : Nat) (n : Int) (i : Int)  (H : AHeap) (R : Post) : exL Try.prog E_slices_swapRangeCmpFunc_float32 (cl (cl (cr (bodyC Try.f244)))) 1039 0 [(0, 0)] (slices_swapRangeCmpFunc_float32_P1 a b data_a data_e data_n n i) H R =
  (Br (decide ((i : Int) < n)) ((0 : Int) ≤ IntKind.wrap .i64 (b + i) ∧ IntKind.wrap .i64 (b + i) < (data_n : Int) ∧ ∃ b1 f1, (data_a : Option Addr) = some ⟨b1, f1, none⟩ ∧ ∃ x1 : Nat,  rdC H b1 (f1 + (IntKind.wrap .i64 (b + i) : Int).toNat * 1) = some (.float .f32 x1) ∧ (0 : Int) ≤ IntKind.wrap .i64 (a + i) ∧ IntKind.wrap .i64 (a + i) < (data_n : Int) ∧ ∃ b2 f2, (data_a : Option Addr) = some ⟨b2, f2, none⟩ ∧ ∃ x2 : Nat,  rdC H b2 (f2 + (IntKind.wrap .i64 (a + i) : Int).toNat * 1) = some (.float .f32 x2) ∧ (0 : Int) ≤ IntKind.wrap .i64 (a + i) ∧ IntKind.wrap .i64 (a + i) < (data_n : Int) ∧ ∃ b3 f3, (data_a : Option Addr) = some ⟨b3, f3, none⟩ ∧ isOwn H b3 ∧ (∃ l, rdN H b3 (f3 + (IntKind.wrap .i64 (a + i) : Int).toNat * 1) 1 = some l) ∧ Lt (setC H b3 (f3 + (IntKind.wrap .i64 (a + i) : Int).toNat * 1) (.float .f32 x1)) fun H1 => (0 : Int) ≤ IntKind.wrap .i64 (b + i) ∧ IntKind.wrap .i64 (b + i) < (data_n : Int) ∧ ∃ b4 f4, (data_a : Option Addr) = some ⟨b4, f4, none⟩ ∧ isOwn H1 b4 ∧ (∃ l, rdN H1 b4 (f4 + (IntKind.wrap .i64 (b + i) : Int).toNat * 1) 1 = some l) ∧ Lt (setC H1 b4 (f4 + (IntKind.wrap .i64 (b + i) : Int).toNat * 1) (.float .f32 x2)) fun H2 => R .normal [.slice data_a data_n data_e, .int .i64 a, .int .i64 b, .int .i64 n, ud, ud, ud, ud, ud, ud, .int .i64 (IntKind.wrap .i64 (i + 1)), ud, ud, ud, ud, ud, ud, ud, ud, ud, ud, ud, ud, ud, ud, ud, ud, ud, ud, ud, ud, ud, ud, ud, ud, ud, ud, ud] H2) (R (.exit 0) [ud, ud, ud, ud, ud, ud, ud, ud, ud, ud, ud, ud, ud, ud, ud, ud, ud, ud, ud, ud, ud, ud, ud, ud, ud, ud, ud, ud, ud, ud, ud, ud, ud, ud, ud, ud, ud, ud] H)) := by kernel_rfl
def slices_swapRangeCmpFunc_float32_I1 (a : Int) (b : Int) (data_a : Option Addr) (data_e : Nat) (data_n : Nat) (n : Int) (Inv : Nat → Int → AHeap → Prop) : Nat → List Value → AHeap → Prop := fun μ tm H => ∃ (i : Int), tm = (slices_swapRangeCmpFunc_float32_P1 a b data_a data_e data_n n i) ∧ Inv μ i H
theorem slices_swapRangeCmpFunc_float32_L1 (a : Int) (b : Int) (data_a : Option Addr) (data_e : Nat) (data_n : Nat) (n : Int) {Q : Post} (Inv : Nat → Int → AHeap → Prop) (ν : Nat) (i : Int)  (H : AHeap) (h0 : Inv ν i H)
    (hs : ∀ (μ : Nat) (i : Int)  (H : AHeap), Inv μ i H → exL Try.prog E_slices_swapRangeCmpFunc_float32 (cl (cl (cr (bodyC Try.f244)))) 1039 0 [(0, 0)] (slices_swapRangeCmpFunc_float32_P1 a b data_a data_e data_n n i) H (loopQ (slices_swapRangeCmpFunc_float32_I1 a b data_a data_e data_n n Inv) μ Q)) : loopK (exL Try.prog E_slices_swapRangeCmpFunc_float32 (cl (cl (cr (bodyC Try.f244)))) 1039 0 [(0, 0)]) (slices_swapRangeCmpFunc_float32_P1 a b data_a data_e data_n n i) H Q :=
  ⟨slices_swapRangeCmpFunc_float32_I1 a b data_a data_e data_n n Inv, ν, ⟨i, rfl, h0⟩, fun μ tm H h => by obtain ⟨i, rfl, hI⟩ := h; exact hs μ i  H hI⟩
theorem slices_swapRangeCmpFunc_float32_n1 {a : Int} {b : Int} {data_a : Option Addr} {data_e : Nat} {data_n : Nat} {n : Int} {Q : Post} {Inv : Nat → Int → AHeap → Prop} {μ : Nat} (μ' : Nat) {i : Int}  {H : AHeap} (hm : μ' < μ) (hI : Inv μ' i H) : loopQ (slices_swapRangeCmpFunc_float32_I1 a b data_a data_e data_n n Inv) μ Q .normal (slices_swapRangeCmpFunc_float32_P1 a b data_a data_e data_n n i) H := ⟨μ', hm, i, rfl, hI⟩
theorem slices_swapRangeCmpFunc_float32_x1_0  (H : AHeap) (K : Value → AHeap → Prop)  {I : Nat → List Value → AHeap → Prop} {μ : Nat} : loopQ I μ (blockQ 0 (retK Try.prog Try.f244 K)) (.exit 0) [ud, ud, ud, ud, ud, ud, ud, ud, ud, ud, ud, ud, ud, ud, ud, ud, ud, ud, ud, ud, ud, ud, ud, ud, ud, ud, ud, ud, ud, ud, ud, ud, ud, ud, ud, ud, ud, ud] H =
  (K (.tuple #[]) H) := by kernel_rfl
theorem E_slices_swapRangeCmpFunc_float32_ok : ∀ g, FnOk Try.prog g (E_slices_swapRangeCmpFunc_float32 g) := FnOk.envOf (by
  intro x hx; cases hx)
set_option maxHeartbeats 1000000 in
theorem slices_swapRangeCmpFunc_float32_main (data_a : Option Addr) (data_n : Nat) (data_e : Nat) (a : Int) (b : Int) (n : Int) (H : AHeap) (K : Value → AHeap → Prop) (h : T_slices_swapRangeCmpFunc_float32 data_a data_n data_e a b n H fun  (H' : AHeap) => K (.tuple #[]) H') : bodyL Try.prog E_slices_swapRangeCmpFunc_float32 Try.f244 [.slice data_a data_n data_e, .int .i64 a, .int .i64 b, .int .i64 n, .func (.func 174) #[] #[]] H K := by
  rw [slices_swapRangeCmpFunc_float32_vc]
  obtain ⟨lo, l_data, i_data, bd_33, pr0, pr1, pr2, pr3, pr4, hk⟩ := h
  obtain rfl := i_data.len
  have up_m := i_data.up
  have lo_m := i_data.lo
  have e : (p_slices_swapRangeCmpFunc_float32 l_data a b n) = _ := rfl
  have e := e.trans (p_slices_swapRangeCmpFunc_float32_eq l_data a b n)
  have g0 := KeepA.refl data_a H
  refine slices_swapRangeCmpFunc_float32_L1 _ _ _ _ _ _ (fun (μ : Nat) (i : Int) (H_1 : AHeap) => ∃ (y1_1 : List Nat), OwnS fF H_1 lo data_a l_data.length data_e y1_1 ∧ y1_1.length = (l_data).length ∧ H.length ≤ H_1.length ∧ KeepA data_a H H_1 ∧ (0 : Int) ≤ i ∧ ((i ≤ n ∨ i ≤ (0 : Int))) ∧ n - i ≤ (μ : Int) ∧ p_slices_swapRangeCmpFunc_float32 l_data a b n = p_slices_swapRangeCmpFunc_float32_l1 l_data a b n (μ + 1) i y1_1) (Int.toNat (n - (0 : Int))) _ H ?_ ?_
  · exact ⟨_, i_data, o11, o3, g0, o5, o5, o3, e⟩
  · intro μ i  H_1 hI
    obtain ⟨y1_1, r_1, y_2, n_3, g_4, v_5, v_6, hμ, e⟩ := hI
    rw [slices_swapRangeCmpFunc_float32_r1]
    have e := e.trans (p_slices_swapRangeCmpFunc_float32_l1_s l_data a b n μ i y1_1)
    have l_7 := g_4.1
    refine Br.intro (fun c_8 => ?_) (fun c_8 => ?_)
    · have e := e.trans (cond_t c_8)
      have c_8' := of_decide_eq_true c_8
      rw [show IntKind.wrap .i64 (a + i) = (a + i) from wrap64 o3 o3]
      rw [show IntKind.wrap .i64 (b + i) = (b + i) from wrap64 o3 o3]
      obtain ⟨b_9, f_10, q_11⟩ := (r_1.isL).pos o0
      refine ⟨by omega, by omega, b_9, f_10, q_11, ?_⟩
      refine ⟨((y1_1).getD ((b + i) : Int).toNat 0), (r_1.isL).rd (Grow.refl _) q_11 o3 _, ?_⟩
      obtain ⟨b_12, f_13, q_14⟩ := (r_1.isL).pos o0
      refine ⟨by omega, by omega, b_12, f_13, q_14, ?_⟩
      refine ⟨((y1_1).getD ((a + i) : Int).toNat 0), (r_1.isL).rd (Grow.refl _) q_14 o3 _, ?_⟩
      obtain ⟨b_15, f_16, q_17⟩ := (r_1.isL).pos o0
      refine ⟨by omega, by omega, b_15, f_16, q_17, ?_⟩
      refine Lt.setS r_1 q_17 o4 (fun H_2 hl_18 o_20 k_19 => ?_)
      have l_21 := k_19.1
      have g_22 := g_4.transA k_19
      have l_23 := g_22.1
      obtain ⟨b_24, f_25, q_26⟩ := (o_20.isL).pos o0
      refine ⟨by omega, by omega, b_24, f_25, q_26, ?_⟩
      refine Lt.setS o_20 q_26 o4 (fun H_3 hl_27 o_29 k_28 => ?_)
      have l_30 := k_28.1
      have g_31 := g_22.transA k_28
      have l_32 := g_31.1
      rw [show IntKind.wrap .i64 (i + 1) = (i + 1) from wrap64 o3 o3]
      refine slices_swapRangeCmpFunc_float32_n1 (μ - 1) o10 ⟨_, o_29, o7, o3, g_31, o1, o1, o10, (by rw [show μ - 1 + 1 = μ from by first | omega]; exact e)⟩
    · have e := e.trans (cond_f c_8)
      have c_8' := of_decide_eq_false c_8
      rw [slices_swapRangeCmpFunc_float32_x1_0]
      rw [e] at hk
      exact hk H_1 g_4 r_1
theorem slices_swapRangeCmpFunc_float32_ok : FnOk Try.prog 244 S_slices_swapRangeCmpFunc_float32 := by
  refine FnOk.body mix_ok E_slices_swapRangeCmpFunc_float32_ok Try.func244 rfl (by kernel_rfl) (by kernel_rfl) ?_ ?_ ?_ ?_ ?_
  · intro args H K K' h hk
    simp only [S_slices_swapRangeCmpFunc_float32] at *
    unfold F_slices_swapRangeCmpFunc_float32 at *
    split at hk
    · obtain ⟨lo, l_data, i_data, bd_33, pr0, pr1, pr2, pr3, pr4, k⟩ := hk
      exact ⟨lo, l_data, i_data, bd_33, pr0, pr1, pr2, pr3, pr4, (fun H' gg ow => h _ _ (k H' gg ow))⟩
    · exact hk.elim
  · intro hq; cases hq
  · intro args H K hk
    simp only [S_slices_swapRangeCmpFunc_float32] at *
    unfold F_slices_swapRangeCmpFunc_float32 at *
    split at hk
    · obtain ⟨lo, l_data, i_data, bd_33, pr0, pr1, pr2, pr3, pr4, k⟩ := hk
      exact (i_data.put _ (by exact slices_swapRange_len _ _ _ _ (by omega) (by omega))).elim fun H1 h => ⟨_, _, k H1 h.1 h.2⟩
    · exact hk.elim
  · intro hq; cases hq
  · have mm := @slices_swapRangeCmpFunc_float32_main
    have ml := fun (args : List Value) (H : AHeap) (K : Value → AHeap → Prop) => bodyL_body (P := Try.prog) (env := E_slices_swapRangeCmpFunc_float32 ) (fn := Try.f244) (args := args) (H := H) (K := K) E_slices_swapRangeCmpFunc_float32_ok 
    revert mm ml
    generalize bodyK Try.prog E_slices_swapRangeCmpFunc_float32 Try.f244 = Q
    generalize bodyL Try.prog E_slices_swapRangeCmpFunc_float32 Try.f244 = QL
    intro mm ml args H K hk
    simp only [S_slices_swapRangeCmpFunc_float32] at *
    unfold F_slices_swapRangeCmpFunc_float32 at *
    split at hk
    · exact ml _ H K (mm _ _ _ _ _ _ H K hk)
    · exact hk.elim

def p_slices_rotateCmpFunc_float32_l1 (l_data : List Nat) (a : Int) (m : Int) (b : Int) : Nat → Int → Int → (List Nat) → (List Nat)
  | 0, _, _, _ => []
  | μ + 1, i, j, y1_1 => (bif (i : Int) != j then (bif decide ((j : Int) < i) then (p_slices_rotateCmpFunc_float32_l1 l_data a m b μ (i - j) j ((p_slices_swapRangeCmpFunc_float32 y1_1 (m - i) m j))) else (p_slices_rotateCmpFunc_float32_l1 l_data a m b μ i (j - i) ((p_slices_swapRangeCmpFunc_float32 y1_1 (m - i) (((m + j) - i)) i)))) else (p_slices_swapRangeCmpFunc_float32 y1_1 (m - i) m i))
def p_slices_rotateCmpFunc_float32_l1_s := fun l_data a m b μ i j y1_1 => @p_slices_rotateCmpFunc_float32_l1.eq_2 l_data a m b i j y1_1 μ
def p_slices_rotateCmpFunc_float32 (l_data : List Nat) (a : Int) (m : Int) (b : Int) : (List Nat) := (p_slices_rotateCmpFunc_float32_l1 l_data a m b (Int.toNat ((m - a) + (b - m)) + 1) (m - a) (b - m) l_data)
def p_slices_rotateCmpFunc_float32_eq := @p_slices_rotateCmpFunc_float32.eq_1
def T_slices_rotateCmpFunc_float32 (data_a : Option Addr) (data_n : Nat) (data_e : Nat) (a : Int) (m : Int) (b : Int) (H : AHeap) (K : AHeap → Prop) : Prop := ∃ lo : Nat, ∃ (l_data : List Nat), OwnS fF H lo data_a data_n data_e l_data ∧ l_data.length < 1073741824 ∧ 0 ≤ a ∧ a < m ∧ m < b ∧ b ≤ l_data.length ∧ ((∀ H' : AHeap, KeepA data_a H H' → OwnS fF H' lo data_a data_n data_e (p_slices_rotateCmpFunc_float32 l_data a m b) → K  H'))
theorem T_slices_rotateCmpFunc_float32_i {data_a : Option Addr} {data_n : Nat} {data_e : Nat} {a : Int} {m : Int} {b : Int} {H : AHeap} {K : AHeap → Prop} (h : ∃ lo : Nat, ∃ (l_data : List Nat), OwnS fF H lo data_a data_n data_e l_data ∧ l_data.length < 1073741824 ∧ 0 ≤ a ∧ a < m ∧ m < b ∧ b ≤ l_data.length ∧ ((∀ H' : AHeap, KeepA data_a H H' → OwnS fF H' lo data_a data_n data_e (p_slices_rotateCmpFunc_float32 l_data a m b) → K  H'))) : T_slices_rotateCmpFunc_float32 data_a data_n data_e a m b H K := h
theorem slices_rotate_loop (l : List Nat) (a m b : Int) (ha : 0 ≤ a) : ∀ (μ : Nat) (i j : Int) (y : List Nat), i + j ≤ μ → 0 < i → 0 < j → i ≤ m - a →
    p_slices_rotateCmpFunc_float32_l1 l a m b (μ + 1) i j y = So.rot (μ + 1) y m.toNat i.toNat j.toNat := by
  intro μ
  induction μ with
  | zero => intro i j y h1 h2 h3; omega
  | succ μ ih =>
    intro i j y h1 h2 h3 h4
    rw [p_slices_rotateCmpFunc_float32_l1_s]
    unfold So.rot
    by_cases hij : i = j
    · subst hij
      rw [if_pos rfl, show ((i : Int) != i) = false by simp, cond_false, slices_swapRange_eq _ _ _ _ o3 o3]
      rw [show (m - i).toNat = m.toNat - i.toNat by omega]
    · have hne : ((i : Int) != j) = true := by simpa using hij
      rw [hne, cond_true, if_neg o3]
      by_cases hlt : j < i
      · rw [decide_eq_true hlt, cond_true, if_pos o3, slices_swapRange_eq _ _ _ _ o3 o3, ih _ _ _ o3 o3 h3 o3]
        rw [show (m - i).toNat = m.toNat - i.toNat by omega, show (i - j).toNat = i.toNat - j.toNat by omega]
      · rw [decide_eq_false hlt, cond_false, if_neg o3, slices_swapRange_eq _ _ _ _ o3 o3, ih _ _ _ o3 h2 o3 h4]
        rw [show (m - i).toNat = m.toNat - i.toNat by omega, show (j - i).toNat = j.toNat - i.toNat by omega, show (m + j - i).toNat = m.toNat + j.toNat - i.toNat by omega]
theorem slices_rotate_eq (l : List Nat) (a m b : Int) (ha : 0 ≤ a) (h1 : a < m) (h2 : m < b) : p_slices_rotateCmpFunc_float32 l a m b = So.rot ((b - a).toNat + 1) l m.toNat (m - a).toNat (b - m).toNat := by
  rw [p_slices_rotateCmpFunc_float32_eq, slices_rotate_loop l a m b ha _ _ _ _ o3 o3 o3 o3, show (m - a + (b - m)).toNat = (b - a).toNat by omega]
theorem slices_rotate_len (l : List Nat) (a m b : Int) (ha : 0 ≤ a) (h1 : a < m) (h2 : m < b) : (p_slices_rotateCmpFunc_float32 l a m b).length = l.length := by
  rw [slices_rotate_eq l a m b ha h1 h2, So.rot_length]
/-! slices_rotateCmpFunc_float32: function 241 -/
def E_slices_rotateCmpFunc_float32 : Env := envOf [(244, S_slices_swapRangeCmpFunc_float32)]
def F_slices_rotateCmpFunc_float32 : List Value → AHeap → (Value → AHeap → Prop) → Prop
  | [.slice data_a data_n data_e, .int .i64 a, .int .i64 m, .int .i64 b, .func (.func 174) ⟨[]⟩ ⟨[]⟩], H, K => T_slices_rotateCmpFunc_float32 data_a data_n data_e a m b H fun  (H' : AHeap) => K (.tuple #[]) H'
  | _, _, _ => False
def S_slices_rotateCmpFunc_float32 : FSpec := { F := F_slices_rotateCmpFunc_float32, quiet := false, tame := false }
theorem slices_rotateCmpFunc_float32_vc (data_a : Option Addr) (data_n : Nat) (data_e : Nat) (a : Int) (m : Int) (b : Int) (H : AHeap) (K : Value → AHeap → Prop) : bodyL Try.prog E_slices_rotateCmpFunc_float32 Try.f241 [.slice data_a data_n data_e, .int .i64 a, .int .i64 m, .int .i64 b, .func (.func 174) #[] #[]] H K =
  (loopK (exL Try.prog E_slices_rotateCmpFunc_float32 (cl (cl (cl (cr (cr (bodyC Try.f241)))))) 3093 0 [(0, 1045)]) [.slice data_a data_n data_e, ud, .int .i64 m, ud, .func (.func 174) #[] #[], ud, ud, ud, ud, ud, .int .i64 (IntKind.wrap .i64 (m - a)), .int .i64 (IntKind.wrap .i64 (b - m)), ud, ud, ud, ud, ud, ud, ud, ud, ud, ud, ud, ud, ud, ud, ud, ud, ud, ud, ud, ud, ud, ud, ud, ud, ud, ud, ud, ud, ud, ud, ud, ud, ud, ud, ud, ud, ud, ud, ud, ud, ud, ud, ud, ud, ud, ud] H (blockQ 0 (seqQ (exL Try.prog E_slices_rotateCmpFunc_float32 (cr (cr (cr (bodyC Try.f241)))) 0 0 []) (retK Try.prog Try.f241 K)))) := by kernel_rfl
abbrev slices_rotateCmpFunc_float32_P1 (data_a : Option Addr) (data_e : Nat) (data_n : Nat) (m : Int) (i : Int) (j : Int)  : List Value := [.slice data_a data_n data_e, ud, .int .i64 m, ud, .func (.func 174) #[] #[], ud, ud, ud, ud, ud, .int .i64 i, .int .i64 j, ud, ud, ud, ud, ud, ud, ud, ud, ud, ud, ud, ud, ud, ud, ud, ud, ud, ud, ud, ud, ud, ud, ud, ud, ud, ud, ud, ud, ud, ud, ud, ud, ud, ud, ud, ud, ud, ud, ud, ud, ud, ud, ud, ud, ud, ud]
theorem slices_rotateCmpFunc_float32_r1 (data_a : Option Addr) (data_e : Nat) (data_n : Nat) (m : Int) (i : Int) (j : Int)  (H : AHeap) (R : Post) : exL Try.prog E_slices_rotateCmpFunc_float32 (cl (cl (cl (cr (cr (bodyC Try.f241)))))) 3093 0 [(0, 1045)] (slices_rotateCmpFunc_float32_P1 data_a data_e data_n m i j) H R =
  (Br ((i : Int) != j) (Br (decide ((j : Int) < i)) (T_slices_swapRangeCmpFunc_float32 data_a data_n data_e (IntKind.wrap .i64 (m - i)) m j H fun  (H1 : AHeap) => R .normal [.slice data_a data_n data_e, ud, .int .i64 m, ud, .func (.func 174) #[] #[], ud, ud, ud, ud, ud, .int .i64 (IntKind.wrap .i64 (i - j)), .int .i64 j, ud, ud, ud, ud, ud, ud, ud, ud, ud, ud, ud, ud, ud, ud, ud, ud, ud, ud, ud, ud, ud, ud, ud, ud, ud, ud, ud, ud, ud, ud, ud, ud, ud, ud, ud, ud, ud, ud, ud, ud, ud, ud, ud, ud, ud, ud] H1) (T_slices_swapRangeCmpFunc_float32 data_a data_n data_e (IntKind.wrap .i64 (m - i)) (IntKind.wrap .i64 ((IntKind.wrap .i64 (m + j)) - i)) i H fun  (H2 : AHeap) => R .normal [.slice data_a data_n data_e, ud, .int .i64 m, ud, .func (.func 174) #[] #[], ud, ud, ud, ud, ud, .int .i64 i, .int .i64 (IntKind.wrap .i64 (j - i)), ud, ud, ud, ud, ud, ud, ud, ud, ud, ud, ud, ud, ud, ud, ud, ud, ud, ud, ud, ud, ud, ud, ud, ud, ud, ud, ud, ud, ud, ud, ud, ud, ud, ud, ud, ud, ud, ud, ud, ud, ud, ud, ud, ud, ud, ud] H2)) (R (.exit 0) [.slice data_a data_n data_e, ud, .int .i64 m, ud, .func (.func 174) #[] #[], ud, ud, ud, ud, ud, .int .i64 i, ud, ud, ud, ud, ud, ud, ud, ud, ud, ud, ud, ud, ud, ud, ud, ud, ud, ud, ud, ud, ud, ud, ud, ud, ud, ud, ud, ud, ud, ud, ud, ud, ud, ud, ud, ud, ud, ud, ud, ud, ud, ud, ud, ud, ud, ud, ud] H)) := by kernel_rfl
def slices_rotateCmpFunc_float32_I1 (data_a : Option Addr) (data_e : Nat) (data_n : Nat) (m : Int) (Inv : Nat → Int → Int → AHeap → Prop) : Nat → List Value → AHeap → Prop := fun μ tm H => ∃ (i : Int), ∃ (j : Int), tm = (slices_rotateCmpFunc_float32_P1 data_a data_e data_n m i j) ∧ Inv μ i j H
theorem slices_rotateCmpFunc_float32_L1 (data_a : Option Addr) (data_e : Nat) (data_n : Nat) (m : Int) {Q : Post} (Inv : Nat → Int → Int → AHeap → Prop) (ν : Nat) (i : Int) (j : Int)  (H : AHeap) (h0 : Inv ν i j H)
    (hs : ∀ (μ : Nat) (i : Int) (j : Int)  (H : AHeap), Inv μ i j H → exL Try.prog E_slices_rotateCmpFunc_float32 (cl (cl (cl (cr (cr (bodyC Try.f241)))))) 3093 0 [(0, 1045)] (slices_rotateCmpFunc_float32_P1 data_a data_e data_n m i j) H (loopQ (slices_rotateCmpFunc_float32_I1 data_a data_e data_n m Inv) μ Q)) : loopK (exL Try.prog E_slices_rotateCmpFunc_float32 (cl (cl (cl (cr (cr (bodyC Try.f241)))))) 3093 0 [(0, 1045)]) (slices_rotateCmpFunc_float32_P1 data_a data_e data_n m i j) H Q :=
  ⟨slices_rotateCmpFunc_float32_I1 data_a data_e data_n m Inv, ν, ⟨i, j, rfl, h0⟩, fun μ tm H h => by obtain ⟨i, j, rfl, hI⟩ := h; exact hs μ i j  H hI⟩
theorem slices_rotateCmpFunc_float32_n1 {data_a : Option Addr} {data_e : Nat} {data_n : Nat} {m : Int} {Q : Post} {Inv : Nat → Int → Int → AHeap → Prop} {μ : Nat} (μ' : Nat) {i : Int} {j : Int}  {H : AHeap} (hm : μ' < μ) (hI : Inv μ' i j H) : loopQ (slices_rotateCmpFunc_float32_I1 data_a data_e data_n m Inv) μ Q .normal (slices_rotateCmpFunc_float32_P1 data_a data_e data_n m i j) H := ⟨μ', hm, i, j, rfl, hI⟩
theorem slices_rotateCmpFunc_float32_x1_0 (data_a : Option Addr) (data_e : Nat) (data_n : Nat) (m : Int) (i : Int) (H : AHeap) (K : Value → AHeap → Prop)  {I : Nat → List Value → AHeap → Prop} {μ : Nat} : loopQ I μ (blockQ 0 (seqQ (exL Try.prog E_slices_rotateCmpFunc_float32 (cr (cr (cr (bodyC Try.f241)))) 0 0 []) (retK Try.prog Try.f241 K))) (.exit 0) [.slice data_a data_n data_e, ud, .int .i64 m, ud, .func (.func 174) #[] #[], ud, ud, ud, ud, ud, .int .i64 i, ud, ud, ud, ud, ud, ud, ud, ud, ud, ud, ud, ud, ud, ud, ud, ud, ud, ud, ud, ud, ud, ud, ud, ud, ud, ud, ud, ud, ud, ud, ud, ud, ud, ud, ud, ud, ud, ud, ud, ud, ud, ud, ud, ud, ud, ud, ud] H =
  (T_slices_swapRangeCmpFunc_float32 data_a data_n data_e (IntKind.wrap .i64 (m - i)) m i H fun  (H3 : AHeap) => K (.tuple #[]) H3) := by kernel_rfl
theorem E_slices_rotateCmpFunc_float32_ok : ∀ g, FnOk Try.prog g (E_slices_rotateCmpFunc_float32 g) := FnOk.envOf (by
  intro x hx
  simp only [List.mem_cons, List.not_mem_nil, or_false] at hx
  subst hx; exact slices_swapRangeCmpFunc_float32_ok)
set_option maxHeartbeats 1000000 in
theorem slices_rotateCmpFunc_float32_main (data_a : Option Addr) (data_n : Nat) (data_e : Nat) (a : Int) (m : Int) (b : Int) (H : AHeap) (K : Value → AHeap → Prop) (h : T_slices_rotateCmpFunc_float32 data_a data_n data_e a m b H fun  (H' : AHeap) => K (.tuple #[]) H') : bodyL Try.prog E_slices_rotateCmpFunc_float32 Try.f241 [.slice data_a data_n data_e, .int .i64 a, .int .i64 m, .int .i64 b, .func (.func 174) #[] #[]] H K := by
  rw [slices_rotateCmpFunc_float32_vc]
  obtain ⟨lo, l_data, i_data, bd_30, pr0, pr1, pr2, pr3, hk⟩ := h
  obtain rfl := i_data.len
  have up_m := i_data.up
  have lo_m := i_data.lo
  have e : (p_slices_rotateCmpFunc_float32 l_data a m b) = _ := rfl
  have e := e.trans (p_slices_rotateCmpFunc_float32_eq l_data a m b)
  have g0 := KeepA.refl data_a H
  rw [show IntKind.wrap .i64 (m - a) = (m - a) from wrap64 o3 o3]
  rw [show IntKind.wrap .i64 (b - m) = (b - m) from wrap64 o3 o3]
  refine slices_rotateCmpFunc_float32_L1 _ _ _ _ (fun (μ : Nat) (i : Int) (j : Int) (H_1 : AHeap) => ∃ (y1_1 : List Nat), OwnS fF H_1 lo data_a l_data.length data_e y1_1 ∧ y1_1.length = (l_data).length ∧ H.length ≤ H_1.length ∧ KeepA data_a H H_1 ∧ 0 < i ∧ 0 < j ∧ i ≤ m - a ∧ j ≤ b - m ∧ i + j ≤ (μ : Int) ∧ p_slices_rotateCmpFunc_float32 l_data a m b = p_slices_rotateCmpFunc_float32_l1 l_data a m b (μ + 1) i j y1_1) (Int.toNat ((m - a) + (b - m))) _ _ H ?_ ?_
  · exact ⟨_, i_data, o11, o3, g0, o5, o5, o5, o5, o3, e⟩
  · intro μ i j  H_1 hI
    obtain ⟨y1_1, r_1, y_2, n_3, g_4, v_5, v_6, v_7, v_8, hμ, e⟩ := hI
    rw [slices_rotateCmpFunc_float32_r1]
    have e := e.trans (p_slices_rotateCmpFunc_float32_l1_s l_data a m b μ i j y1_1)
    have l_9 := g_4.1
    refine Br.intro (fun c_10 => ?_) (fun c_10 => ?_)
    · have e := e.trans (cond_t c_10)
      have c_10' := ine_t c_10
      refine Br.intro (fun c_11 => ?_) (fun c_11 => ?_)
      · have e := e.trans (cond_t c_11)
        have c_11' := of_decide_eq_true c_11
        rw [show IntKind.wrap .i64 (m - i) = (m - i) from wrap64 o3 o3]
        refine T_slices_swapRangeCmpFunc_float32_i ⟨_, _, r_1, o0, o2, o2, o2, o2, o2, (fun H_2 k_13 o_14 => ?_)⟩
        have z_12 := slices_swapRange_len y1_1 (m - i) m j o3 o3
        have l_15 := k_13.1
        have g_16 := g_4.transA k_13
        have l_17 := g_16.1
        rw [show IntKind.wrap .i64 (i - j) = (i - j) from wrap64 o3 o3]
        refine slices_rotateCmpFunc_float32_n1 (μ - 1) o10 ⟨_, o_14, o7, o3, g_16, o1, o1, o1, o1, o10, (by rw [show μ - 1 + 1 = μ from by first | omega]; exact e)⟩
      · have e := e.trans (cond_f c_11)
        have c_11' := of_decide_eq_false c_11
        rw [show IntKind.wrap .i64 (m - i) = (m - i) from wrap64 o3 o3]
        rw [show IntKind.wrap .i64 (m + j) = (m + j) from wrap64 o3 o3]
        rw [show IntKind.wrap .i64 ((m + j) - i) = ((m + j) - i) from wrap64 o3 o3]
        refine T_slices_swapRangeCmpFunc_float32_i ⟨_, _, r_1, o0, o2, o2, o2, o2, o2, (fun H_3 k_19 o_20 => ?_)⟩
        have z_18 := slices_swapRange_len y1_1 (m - i) (((m + j) - i)) i o3 o3
        have l_21 := k_19.1
        have g_22 := g_4.transA k_19
        have l_23 := g_22.1
        rw [show IntKind.wrap .i64 (j - i) = (j - i) from wrap64 o3 o3]
        refine slices_rotateCmpFunc_float32_n1 (μ - 1) o10 ⟨_, o_20, o7, o3, g_22, o1, o1, o1, o1, o10, (by rw [show μ - 1 + 1 = μ from by first | omega]; exact e)⟩
    · have e := e.trans (cond_f c_10)
      have c_10' := ine_f c_10
      rw [slices_rotateCmpFunc_float32_x1_0]
      rw [show IntKind.wrap .i64 (m - i) = (m - i) from wrap64 o3 o3]
      refine T_slices_swapRangeCmpFunc_float32_i ⟨_, _, r_1, o0, o2, o2, o2, o2, o2, (fun H_4 k_25 o_26 => ?_)⟩
      have z_24 := slices_swapRange_len y1_1 (m - i) m i o3 o3
      have l_27 := k_25.1
      have g_28 := g_4.transA k_25
      have l_29 := g_28.1
      rw [e] at hk
      exact hk H_4 g_28 o_26
theorem slices_rotateCmpFunc_float32_ok : FnOk Try.prog 241 S_slices_rotateCmpFunc_float32 := by
  refine FnOk.body mix_ok E_slices_rotateCmpFunc_float32_ok Try.func241 rfl (by kernel_rfl) (by kernel_rfl) ?_ ?_ ?_ ?_ ?_
  · intro args H K K' h hk
    simp only [S_slices_rotateCmpFunc_float32] at *
    unfold F_slices_rotateCmpFunc_float32 at *
    split at hk
    · obtain ⟨lo, l_data, i_data, bd_30, pr0, pr1, pr2, pr3, k⟩ := hk
      exact ⟨lo, l_data, i_data, bd_30, pr0, pr1, pr2, pr3, (fun H' gg ow => h _ _ (k H' gg ow))⟩
    · exact hk.elim
  · intro hq; cases hq
  · intro args H K hk
    simp only [S_slices_rotateCmpFunc_float32] at *
    unfold F_slices_rotateCmpFunc_float32 at *
    split at hk
    · obtain ⟨lo, l_data, i_data, bd_30, pr0, pr1, pr2, pr3, k⟩ := hk
      exact (i_data.put _ (by exact slices_rotate_len _ _ _ _ (by omega) (by omega) (by omega))).elim fun H1 h => ⟨_, _, k H1 h.1 h.2⟩
    · exact hk.elim
  · intro hq; cases hq
  · have mm := @slices_rotateCmpFunc_float32_main
    have ml := fun (args : List Value) (H : AHeap) (K : Value → AHeap → Prop) => bodyL_body (P := Try.prog) (env := E_slices_rotateCmpFunc_float32 ) (fn := Try.f241) (args := args) (H := H) (K := K) E_slices_rotateCmpFunc_float32_ok 
    revert mm ml
    generalize bodyK Try.prog E_slices_rotateCmpFunc_float32 Try.f241 = Q
    generalize bodyL Try.prog E_slices_rotateCmpFunc_float32 Try.f241 = QL
    intro mm ml args H K hk
    simp only [S_slices_rotateCmpFunc_float32] at *
    unfold F_slices_rotateCmpFunc_float32 at *
    split at hk
    · exact ml _ H K (mm _ _ _ _ _ _ H K hk)
    · exact hk.elim
end Go.Proofs.Ytbnplefohfamnaa.Ai
