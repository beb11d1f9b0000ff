/- What functions of the program come to on the abstract machine, and that they do so; printed by a program of mine around proofs of mine. -/
import Derived.Test.YtbnplefohfamnaaProg
import Derived.Test.YtbnplefohfamnaaAp
import Derived.Test.YtbnplefohfamnaaLv
import Derived.Test.YtbnplefohfamnaaOpen
import Derived.Test.YtbnplefohfamnaaPu
set_option linter.unusedVariables false
set_option linter.unusedSimpArgs false
set_option linter.defProp false
set_option maxRecDepth 100000
namespace Go.Proofs.Ytbnplefohfamnaa.Ai
open Go
attribute [local irreducible] bodyK bodyL
theorem mix_ok : Try.prog.follows .mixedOrders = true := by kernel_rfl

def p_laws_szBoolS (l_a : List Bool) (left : Int) : Int := (bif decide ((IntKind.wrap .i64 (left - (l_a.length : Int)) : Int) < 0) then ((-1) : Int) else IntKind.wrap .i64 (left - (l_a.length : Int)))
def p_laws_szBoolS_eq := @p_laws_szBoolS.eq_1
def T_laws_szBoolS (a_a : Option Addr) (a_n : Nat) (a_e : Nat) (left : Int) (H : AHeap) (K : Int → AHeap → Prop) : Prop := ∃ (l_a : List Bool), IsL fB H a_a a_n l_a ∧ K (p_laws_szBoolS l_a left) H
theorem T_laws_szBoolS_i {a_a : Option Addr} {a_n : Nat} {a_e : Nat} {left : Int} {H : AHeap} {K : Int → AHeap → Prop} (h : ∃ (l_a : List Bool), IsL fB H a_a a_n l_a ∧ K (p_laws_szBoolS l_a left) H) : T_laws_szBoolS a_a a_n a_e left H K := h
theorem o2 {P : Prop} (h : P := by omega) : P := h
theorem laws_szBoolS_f (l : List Bool) (left : Int) : 0 ≤ left → left ≤ 1048576 → l.length ≤ 9223372036854775807 → p_laws_szBoolS l left < 0 ∨ (l.length : Int) ≤ left ∧ p_laws_szBoolS l left = left - l.length := by
  intro h0 h1 h2
  rw [p_laws_szBoolS_eq, wrap64 o2 o2]
  by_cases h : left - (l.length : Int) < 0
  · rw [decide_eq_true h, cond_true]; left; decide
  · rw [decide_eq_false h, cond_false]; right; omega
/-! laws_szBoolS: function 91 -/
def E_laws_szBoolS : Env := envOf []
def F_laws_szBoolS : List Value → AHeap → (Value → AHeap → Prop) → Prop
  | [.slice a_a a_n a_e, .int .i64 left], H, K => T_laws_szBoolS a_a a_n a_e left H fun (r1 : Int) (H' : AHeap) => K (.int .i64 r1) H'
  | _, _, _ => False
def S_laws_szBoolS : FSpec := { F := F_laws_szBoolS, quiet := true, tame := false }
theorem laws_szBoolS_vc (a_a : Option Addr) (a_n : Nat) (a_e : Nat) (left : Int) (H : AHeap) (K : Value → AHeap → Prop) : bodyL Try.prog E_laws_szBoolS Try.f91 [.slice a_a a_n a_e, .int .i64 left] H K =
  (Br (decide ((IntKind.wrap .i64 (left - (a_n : Int)) : Int) < 0)) (K (.int .i64 (-1)) H) (K (.int .i64 (IntKind.wrap .i64 (left - (a_n : Int)))) H)) := by kernel_rfl
theorem E_laws_szBoolS_ok : ∀ g, FnOk Try.prog g (E_laws_szBoolS g) := FnOk.envOf (by
  intro x hx; cases hx)
set_option maxHeartbeats 1000000 in
theorem laws_szBoolS_main (a_a : Option Addr) (a_n : Nat) (a_e : Nat) (left : Int) (H : AHeap) (K : Value → AHeap → Prop) (h : T_laws_szBoolS a_a a_n a_e left H fun (r1 : Int) (H' : AHeap) => K (.int .i64 r1) H') : bodyL Try.prog E_laws_szBoolS Try.f91 [.slice a_a a_n a_e, .int .i64 left] H K := by
  rw [laws_szBoolS_vc]
  obtain ⟨l_a, i_a, hk⟩ := h
  obtain rfl := i_a.eqn
  have e : (p_laws_szBoolS l_a left) = _ := rfl
  have e := e.trans (p_laws_szBoolS_eq l_a left)
  have g0 := Grow.refl H
  refine Br.intro (fun c_1 => ?_) (fun c_1 => ?_)
  · have e := e.trans (cond_t c_1)
    have c_1' := of_decide_eq_true c_1
    rw [e] at hk
    exact hk
  · have e := e.trans (cond_f c_1)
    have c_1' := of_decide_eq_false c_1
    rw [e] at hk
    exact hk
theorem laws_szBoolS_ok : FnOk Try.prog 91 S_laws_szBoolS := by
  refine FnOk.body mix_ok E_laws_szBoolS_ok Try.func91 rfl (by kernel_rfl) (by kernel_rfl) ?_ ?_ ?_ ?_ ?_
  · intro args H K K' h hk
    simp only [S_laws_szBoolS] at *
    unfold F_laws_szBoolS at *
    split at hk
    · obtain ⟨l_a, i_a, k⟩ := hk
      exact ⟨l_a, i_a, h _ _ k⟩
    · exact hk.elim
  · intro _ args H K hk
    simp only [S_laws_szBoolS] at *
    unfold F_laws_szBoolS at *
    split at hk
    · obtain ⟨l_a, i_a, k⟩ := hk
      exact ⟨_, k, fun K' k' => ⟨l_a, i_a, k'⟩⟩
    · exact hk.elim
  · intro args H K hk
    simp only [S_laws_szBoolS] at *
    unfold F_laws_szBoolS at *
    split at hk
    · obtain ⟨l_a, i_a, k⟩ := hk
      exact ⟨_, _, k⟩
    · exact hk.elim
  · intro hq; cases hq
  · have mm := @laws_szBoolS_main
    have ml := fun (args : List Value) (H : AHeap) (K : Value → AHeap → Prop) => bodyL_body (P := Try.prog) (env := E_laws_szBoolS ) (fn := Try.f91) (args := args) (H := H) (K := K) E_laws_szBoolS_ok 
    revert mm ml
    generalize bodyK Try.prog E_laws_szBoolS Try.f91 = Q
    generalize bodyL Try.prog E_laws_szBoolS Try.f91 = QL
    intro mm ml args H K hk
    simp only [S_laws_szBoolS] at *
    unfold F_laws_szBoolS at *
    split at hk
    · exact ml _ H K (mm _ _ _ _ H K hk)
    · exact hk.elim

def p_laws_szCoded (a_Count : Int) (a_Top : Int) (l_a_Bits : List Bool) (left : Int) : Int := (bif decide (((p_laws_szBoolS l_a_Bits left) : Int) < 0) then ((-1) : Int) else (p_laws_szBoolS l_a_Bits left))
def p_laws_szCoded_eq := @p_laws_szCoded.eq_1
def T_laws_szCoded (a_Count : Int) (a_Top : Int) (a_Bits_a : Option Addr) (a_Bits_n : Nat) (a_Bits_e : Nat) (left : Int) (H : AHeap) (K : Int → AHeap → Prop) : Prop := ∃ (l_a_Bits : List Bool), IsL fB H a_Bits_a a_Bits_n l_a_Bits ∧ ((∀ H' : AHeap, Grow H H' → K (p_laws_szCoded a_Count a_Top l_a_Bits left) H'))
theorem T_laws_szCoded_i {a_Count : Int} {a_Top : Int} {a_Bits_a : Option Addr} {a_Bits_n : Nat} {a_Bits_e : Nat} {left : Int} {H : AHeap} {K : Int → AHeap → Prop} (h : ∃ (l_a_Bits : List Bool), IsL fB H a_Bits_a a_Bits_n l_a_Bits ∧ ((∀ H' : AHeap, Grow H H' → K (p_laws_szCoded a_Count a_Top l_a_Bits left) H'))) : T_laws_szCoded a_Count a_Top a_Bits_a a_Bits_n a_Bits_e left H K := h
theorem laws_szCoded_f (a b : Int) (l : List Bool) (left : Int) : 0 ≤ left → left ≤ 1048576 → l.length ≤ 9223372036854775807 → p_laws_szCoded a b l left < 0 ∨ (l.length : Int) ≤ left ∧ p_laws_szCoded a b l left = left - l.length := by
  intro h0 h1 h2
  have := laws_szBoolS_f l left h0 h1 h2
  rw [p_laws_szCoded_eq]
  by_cases h : p_laws_szBoolS l left < 0
  · rw [decide_eq_true h, cond_true]; left; decide
  · rw [decide_eq_false h, cond_false]; right; omega
/-! laws_szCoded: function 14 -/
def E_laws_szCoded : Env := envOf [(91, S_laws_szBoolS)]
def F_laws_szCoded : List Value → AHeap → (Value → AHeap → Prop) → Prop
  | [.agg ⟨[.int .i64 a_Count, .int .i64 a_Top, .slice a_Bits_a a_Bits_n a_Bits_e]⟩, .int .i64 left], H, K => T_laws_szCoded a_Count a_Top a_Bits_a a_Bits_n a_Bits_e left H fun (r1 : Int) (H' : AHeap) => K (.int .i64 r1) H'
  | _, _, _ => False
def S_laws_szCoded : FSpec := { F := F_laws_szCoded, quiet := false, tame := true }
theorem laws_szCoded_vc (a_Count : Int) (a_Top : Int) (a_Bits_a : Option Addr) (a_Bits_n : Nat) (a_Bits_e : Nat) (left : Int) (H : AHeap) (K : Value → AHeap → Prop) : bodyL Try.prog E_laws_szCoded Try.f14 [.agg #[.int .i64 a_Count, .int .i64 a_Top, .slice a_Bits_a a_Bits_n a_Bits_e], .int .i64 left] H K =
  (Al [.int .i64 a_Count, .int .i64 a_Top, .slice a_Bits_a a_Bits_n a_Bits_e] H fun b1 H1 => ∃ x1_a : Option Addr, ∃ x1_n : Nat, ∃ x1_e : Nat,  rdC H1 b1 2 = some (.slice x1_a x1_n x1_e) ∧ T_laws_szBoolS x1_a x1_n x1_e left H1 fun (r1 : Int) (H2 : AHeap) => Br (decide ((r1 : Int) < 0)) (K (.int .i64 (-1)) H2) (K (.int .i64 r1) H2)) := by kernel_rfl
theorem E_laws_szCoded_ok : ∀ g, FnOk Try.prog g (E_laws_szCoded g) := FnOk.envOf (by
  intro x hx
  simp only [List.mem_cons, List.not_mem_nil, or_false] at hx
  subst hx; exact laws_szBoolS_ok)
set_option maxHeartbeats 1000000 in
theorem laws_szCoded_main (a_Count : Int) (a_Top : Int) (a_Bits_a : Option Addr) (a_Bits_n : Nat) (a_Bits_e : Nat) (left : Int) (H : AHeap) (K : Value → AHeap → Prop) (h : T_laws_szCoded a_Count a_Top a_Bits_a a_Bits_n a_Bits_e left H fun (r1 : Int) (H' : AHeap) => K (.int .i64 r1) H') : bodyL Try.prog E_laws_szCoded Try.f14 [.agg #[.int .i64 a_Count, .int .i64 a_Top, .slice a_Bits_a a_Bits_n a_Bits_e], .int .i64 left] H K := by
  rw [laws_szCoded_vc]
  obtain ⟨l_a_Bits, i_a_Bits, hk⟩ := h
  obtain rfl := i_a_Bits.eqn
  have e : (p_laws_szCoded a_Count a_Top l_a_Bits left) = _ := rfl
  have e := e.trans (p_laws_szCoded_eq a_Count a_Top l_a_Bits left)
  have g0 := Grow.refl H
  refine Al.intro (fun b_1 H_1 hb_2 hl_3 g_4 o_5 => ?_)
  have l_7 := g_4.1
  have g_8 := g0.trans g_4
  have l_9 := g_8.1
  have w_12 := o_5.lt
  refine ⟨a_Bits_a, l_a_Bits.length, a_Bits_e, (o_5.rdC _).trans rfl, ?_⟩
  refine T_laws_szBoolS_i ⟨_, (i_a_Bits.grow g_8), ?_⟩
  have z_10 := laws_szBoolS_f l_a_Bits left
  refine Br.intro (fun c_11 => ?_) (fun c_11 => ?_)
  · have e := e.trans (cond_t c_11)
    have c_11' := of_decide_eq_true c_11
    rw [e] at hk
    exact hk  H_1 g_8 
  · have e := e.trans (cond_f c_11)
    have c_11' := of_decide_eq_false c_11
    rw [e] at hk
    exact hk  H_1 g_8 
theorem laws_szCoded_ok : FnOk Try.prog 14 S_laws_szCoded := by
  refine FnOk.body mix_ok E_laws_szCoded_ok Try.func14 rfl (by kernel_rfl) (by kernel_rfl) ?_ ?_ ?_ ?_ ?_
  · intro args H K K' h hk
    simp only [S_laws_szCoded] at *
    unfold F_laws_szCoded at *
    split at hk
    · obtain ⟨l_a_Bits, i_a_Bits, k⟩ := hk
      exact ⟨l_a_Bits, i_a_Bits, (fun  H' gg  => h _ _ (k  H' gg ))⟩
    · exact hk.elim
  · intro hq; cases hq
  · intro args H K hk
    simp only [S_laws_szCoded] at *
    unfold F_laws_szCoded at *
    split at hk
    · obtain ⟨l_a_Bits, i_a_Bits, k⟩ := hk
      exact ⟨_, _, k H (Grow.refl H)⟩
    · exact hk.elim
  · intro _ args H K hk
    simp only [S_laws_szCoded] at *
    unfold F_laws_szCoded at *
    split at hk
    · obtain ⟨l_a_Bits, i_a_Bits, k⟩ := hk
      exact ⟨l_a_Bits, i_a_Bits, (fun  H' gg  => ⟨gg, k  H' gg ⟩)⟩
    · exact hk.elim
  · have mm := @laws_szCoded_main
    have ml := fun (args : List Value) (H : AHeap) (K : Value → AHeap → Prop) => bodyL_body (P := Try.prog) (env := E_laws_szCoded ) (fn := Try.f14) (args := args) (H := H) (K := K) E_laws_szCoded_ok 
    revert mm ml
    generalize bodyK Try.prog E_laws_szCoded Try.f14 = Q
    generalize bodyL Try.prog E_laws_szCoded Try.f14 = QL
    intro mm ml args H K hk
    simp only [S_laws_szCoded] at *
    unfold F_laws_szCoded at *
    split at hk
    · exact ml _ H K (mm _ _ _ _ _ _ H K hk)
    · exact hk.elim

def p_laws_toBoolS_l1 (l_a : List Bool) : Nat → Int → (List Bool) → (List Bool)
  | 0, _, _ => []
  | μ + 1, i, y1_1 => (bif decide ((i : Int) < (l_a.length : Int)) then (p_laws_toBoolS_l1 l_a μ (i + 1) (((y1_1).set (i : Int).toNat ((((l_a).getD (i : Int).toNat false)))))) else y1_1)
def p_laws_toBoolS_l1_s := fun l_a μ i y1_1 => @p_laws_toBoolS_l1.eq_2 l_a i y1_1 μ
def p_laws_toBoolS (l_a : List Bool) : (List Bool) := (p_laws_toBoolS_l1 l_a (Int.toNat ((l_a.length : Int) - (0 : Int)) + 1) (0 : Int) (List.replicate (((l_a.length : Int)).toNat) false))
def p_laws_toBoolS_eq := @p_laws_toBoolS.eq_1
def T_laws_toBoolS (a_a : Option Addr) (a_n : Nat) (a_e : Nat) (H : AHeap) (K : (Option Addr) → Nat → Nat → AHeap → Prop) : Prop := ∃ (l_a : List Bool), IsL fB H a_a a_n l_a ∧ l_a.length < 1073741824 ∧ ((∀ (r1_a : Option Addr) (r1_n r1_e : Nat), ∀ H' : AHeap, Grow H H' → OwnS fB H' H.length r1_a r1_n r1_e l_a → K r1_a r1_n r1_e H'))
theorem T_laws_toBoolS_i {a_a : Option Addr} {a_n : Nat} {a_e : Nat} {H : AHeap} {K : (Option Addr) → Nat → Nat → AHeap → Prop} (h : ∃ (l_a : List Bool), IsL fB H a_a a_n l_a ∧ l_a.length < 1073741824 ∧ ((∀ (r1_a : Option Addr) (r1_n r1_e : Nat), ∀ H' : AHeap, Grow H H' → OwnS fB H' H.length r1_a r1_n r1_e l_a → K r1_a r1_n r1_e H'))) : T_laws_toBoolS a_a a_n a_e H K := h
theorem laws_toBoolS_go (l : List Bool) : ∀ (μ : Nat) (i : Nat) (ys : List Bool), ys.length = l.length → i ≤ l.length → l.length - i < μ →
    p_laws_toBoolS_l1 l μ (i : Int) (l.take i ++ ys.drop i) = l := by
  intro μ
  induction μ with
  | zero => intro i ys _ _ h; omega
  | succ μ ih =>
    intro i ys hy hi hm
    rw [p_laws_toBoolS_l1_s]
    by_cases h : i < l.length
    · rw [decide_eq_true (show (i : Int) < (l.length : Int) by omega), cond_true]
      have hx : l[i]? = some (l.getD i false) := by rw [List.getD_eq_getElem?_getD, List.getElem?_eq_getElem h]; rfl
      rw [Int.toNat_natCast, set_front l ys i o2 hy.symm _ hx]
      exact ih (i + 1) ys hy o2 o2
    · rw [decide_eq_false (show ¬ (i : Int) < (l.length : Int) by omega), cond_false]
      rw [List.take_of_length_le o2, List.drop_eq_nil_of_le o2, List.append_nil]
theorem laws_toBoolS_id (l : List Bool) : p_laws_toBoolS l = l := by
  rw [p_laws_toBoolS_eq]
  have := laws_toBoolS_go l (Int.toNat ((l.length : Int) - 0) + 1) 0 (List.replicate ((l.length : Int)).toNat false) (by simp) o2 o2
  simpa using this
/-! laws_toBoolS: function 94 -/
def E_laws_toBoolS : Env := envOf []
def F_laws_toBoolS : List Value → AHeap → (Value → AHeap → Prop) → Prop
  | [.slice a_a a_n a_e], H, K => T_laws_toBoolS a_a a_n a_e H fun (r1_a : Option Addr) (r1_n : Nat) (r1_e : Nat) (H' : AHeap) => K (.slice r1_a r1_n r1_e) H'
  | _, _, _ => False
def S_laws_toBoolS : FSpec := { F := F_laws_toBoolS, quiet := false, tame := true }
theorem laws_toBoolS_vc (a_a : Option Addr) (a_n : Nat) (a_e : Nat) (H : AHeap) (K : Value → AHeap → Prop) : bodyL Try.prog E_laws_toBoolS Try.f94 [.slice a_a a_n a_e] H K =
  ((0 : Int) ≤ (a_n : Int) ∧ (a_n : Int) = (a_n : Int) ∧ (a_n : Int) < (most : Int) ∧ Al (zerosOf (.bool false) ((a_n : Int)).toNat) H fun b1 H1 => loopK (exL Try.prog E_laws_toBoolS (cl (cl (cr (cl (cr (cr (bodyC Try.f94))))))) 25 4 [(0, 8)]) [.slice a_a a_n a_e, ud, ud, .slice (some ⟨b1, 0, none⟩) (((a_n : Int)).toNat) 1, .int .i64 0, ud, ud, ud, ud, ud, ud, ud, ud, ud, ud, ud, ud, ud, ud, ud, ud, ud] H1 (blockQ 0 (seqQ (exL Try.prog E_laws_toBoolS (cr (cr (cr (bodyC Try.f94)))) 4 4 []) (retK Try.prog Try.f94 K)))) := by kernel_rfl
abbrev laws_toBoolS_P1 (a_a : Option Addr) (a_e : Nat) (a_n : Nat) (b1 : Nat) (i : Int)  : List Value := [.slice a_a a_n a_e, ud, ud, .slice (some ⟨b1, 0, none⟩) (((a_n : Int)).toNat) 1, .int .i64 i, ud, ud, ud, ud, ud, ud, ud, ud, ud, ud, ud, ud, ud, ud, ud, ud, ud]
theorem laws_toBoolS_r1 (a_a : Option Addr) (a_e : Nat) (a_n : Nat) (b1 : Nat) (i : Int)  (H : AHeap) (R : Post) : exL Try.prog E_laws_toBoolS (cl (cl (cr (cl (cr (cr (bodyC Try.f94))))))) 25 4 [(0, 8)] (laws_toBoolS_P1 a_a a_e a_n b1 i) H R =
  (Br (decide ((i : Int) < (a_n : Int))) ((0 : Int) ≤ i ∧ i < (a_n : Int) ∧ ∃ b2 f1, (a_a : Option Addr) = some ⟨b2, f1, none⟩ ∧ ∃ x1 : Bool,  rdC H b2 (f1 + (i : Int).toNat * 1) = some (.bool x1) ∧ (0 : Int) ≤ i ∧ i < (((a_n : Int)).toNat : Int) ∧ ∃ b3 f2, (some ⟨b1, 0, none⟩ : Option Addr) = some ⟨b3, f2, none⟩ ∧ isOwn H b3 ∧ (∃ l, rdN H b3 (f2 + (i : Int).toNat * 1) 1 = some l) ∧ Lt (setC H b3 (f2 + (i : Int).toNat * 1) (.bool x1)) fun H2 => R .normal [.slice a_a a_n a_e, ud, ud, .slice (some ⟨b1, 0, none⟩) (((a_n : Int)).toNat) 1, .int .i64 (IntKind.wrap .i64 (i + 1)), ud, ud, ud, ud, ud, ud, ud, ud, ud, ud, ud, ud, ud, ud, ud, ud, ud] H2) (R (.exit 0) [ud, ud, ud, .slice (some ⟨b1, 0, none⟩) (((a_n : Int)).toNat) 1, ud, ud, ud, ud, ud, ud, ud, ud, ud, ud, ud, ud, ud, ud, ud, ud, ud, ud] H)) := by kernel_rfl
def laws_toBoolS_I1 (a_a : Option Addr) (a_e : Nat) (a_n : Nat) (b1 : Nat) (Inv : Nat → Int → AHeap → Prop) : Nat → List Value → AHeap → Prop := fun μ tm H => ∃ (i : Int), tm = (laws_toBoolS_P1 a_a a_e a_n b1 i) ∧ Inv μ i H
theorem laws_toBoolS_L1 (a_a : Option Addr) (a_e : Nat) (a_n : Nat) (b1 : Nat) {Q : Post} (Inv : Nat → Int → AHeap → Prop) (ν : Nat) (i : Int)  (H : AHeap) (h0 : Inv ν i H)
    (hs : ∀ (μ : Nat) (i : Int)  (H : AHeap), Inv μ i H → exL Try.prog E_laws_toBoolS (cl (cl (cr (cl (cr (cr (bodyC Try.f94))))))) 25 4 [(0, 8)] (laws_toBoolS_P1 a_a a_e a_n b1 i) H (loopQ (laws_toBoolS_I1 a_a a_e a_n b1 Inv) μ Q)) : loopK (exL Try.prog E_laws_toBoolS (cl (cl (cr (cl (cr (cr (bodyC Try.f94))))))) 25 4 [(0, 8)]) (laws_toBoolS_P1 a_a a_e a_n b1 i) H Q :=
  ⟨laws_toBoolS_I1 a_a a_e a_n b1 Inv, ν, ⟨i, rfl, h0⟩, fun μ tm H h => by obtain ⟨i, rfl, hI⟩ := h; exact hs μ i  H hI⟩
theorem laws_toBoolS_n1 {a_a : Option Addr} {a_e : Nat} {a_n : Nat} {b1 : Nat} {Q : Post} {Inv : Nat → Int → AHeap → Prop} {μ : Nat} (μ' : Nat) {i : Int}  {H : AHeap} (hm : μ' < μ) (hI : Inv μ' i H) : loopQ (laws_toBoolS_I1 a_a a_e a_n b1 Inv) μ Q .normal (laws_toBoolS_P1 a_a a_e a_n b1 i) H := ⟨μ', hm, i, rfl, hI⟩
theorem laws_toBoolS_x1_0 (a_n : Nat) (b1 : Nat) (H : AHeap) (K : Value → AHeap → Prop)  {I : Nat → List Value → AHeap → Prop} {μ : Nat} : loopQ I μ (blockQ 0 (seqQ (exL Try.prog E_laws_toBoolS (cr (cr (cr (bodyC Try.f94)))) 4 4 []) (retK Try.prog Try.f94 K))) (.exit 0) [ud, ud, ud, .slice (some ⟨b1, 0, none⟩) (((a_n : Int)).toNat) 1, ud, ud, ud, ud, ud, ud, ud, ud, ud, ud, ud, ud, ud, ud, ud, ud, ud, ud] H =
  (K (.slice (some ⟨b1, 0, none⟩) (((a_n : Int)).toNat) 1) H) := by kernel_rfl
theorem E_laws_toBoolS_ok : ∀ g, FnOk Try.prog g (E_laws_toBoolS g) := FnOk.envOf (by
  intro x hx; cases hx)
theorem o5 {P : Prop} (h : P := by first | omega | (simp; done) | (simp; omega)) : P := h
theorem o0 {P : Prop} (h : P := by first | omega | (simp only [List.length_set, List.length_replicate, List.length_append, List.length_cons, List.length_nil, List.length_take, List.length_drop, marks_length]; done) | (simp only [List.length_set, List.length_replicate, List.length_append, List.length_cons, List.length_nil, List.length_take, List.length_drop, marks_length]; omega)) : P := h
theorem o8 {P : Prop} (h : P := by first | omega) : P := h
theorem o7 {P : Prop} (h : P := by first | assumption | omega | (simp only [List.length_set]; first | rfl | assumption | omega)) : P := h
theorem o1 {P : Prop} (h : P := by first | omega | (simp only [List.length_append, List.length_cons, List.length_nil, List.length_set]; done) | (simp only [List.length_append, List.length_cons, List.length_nil, List.length_set]; omega)) : P := h
set_option maxHeartbeats 1000000 in
theorem laws_toBoolS_main (a_a : Option Addr) (a_n : Nat) (a_e : Nat) (H : AHeap) (K : Value → AHeap → Prop) (h : T_laws_toBoolS a_a a_n a_e H fun (r1_a : Option Addr) (r1_n : Nat) (r1_e : Nat) (H' : AHeap) => K (.slice r1_a r1_n r1_e) H') : bodyL Try.prog E_laws_toBoolS Try.f94 [.slice a_a a_n a_e] H K := by
  rw [laws_toBoolS_vc]
  obtain ⟨l_a, i_a, bd_29, hk⟩ := h
  have hk : (∀ (r1_a : Option Addr) (r1_n r1_e : Nat), ∀ H' : AHeap, Grow H H' → OwnS fB H' H.length r1_a r1_n r1_e (p_laws_toBoolS l_a) → (fun (r1_a : Option Addr) (r1_n : Nat) (r1_e : Nat) (H' : AHeap) => K (.slice r1_a r1_n r1_e) H') r1_a r1_n r1_e H') := by rw [laws_toBoolS_id l_a]; exact hk
  obtain rfl := i_a.eqn
  have e : (p_laws_toBoolS l_a) = _ := rfl
  have e := e.trans (p_laws_toBoolS_eq l_a)
  have g0 := Grow.refl H
  refine ⟨by omega, rfl, (by have := most_eq; omega), ?_⟩
  refine Al.intro (fun b_1 H_1 hb_2 hl_3 g_4 o_5 => ?_)
  rw [zeros_map fB false _ rfl] at o_5
  have l_7 := g_4.1
  have g_8 := g0.trans g_4
  have l_9 := g_8.1
  have w_28 := o_5.lt
  refine laws_toBoolS_L1 _ _ _ _ (fun (μ : Nat) (i : Int) (H_2 : AHeap) => ∃ (y1_1 : List Bool), Own H_2 b_1 (y1_1.map fB) ∧ y1_1.length = ((l_a.length : Int)).toNat ∧ Grow H H_2 ∧ (0 : Int) ≤ i ∧ i ≤ (l_a.length : Int) ∧ (l_a.length : Int) - i ≤ (μ : Int) ∧ p_laws_toBoolS l_a = p_laws_toBoolS_l1 l_a (μ + 1) i y1_1) (Int.toNat ((l_a.length : Int) - (0 : Int))) _ H_1 ?_ ?_
  · exact ⟨_, o_5, (by first | rfl | assumption | omega | (simp; done)), g_8, o5, o5, o2, e⟩
  · intro μ i  H_2 hI
    obtain ⟨y1_1, o_10, y_11, g_12, v_13, v_14, hμ, e⟩ := hI
    rw [laws_toBoolS_r1]
    have e := e.trans (p_laws_toBoolS_l1_s l_a μ i y1_1)
    have w_15 := o_10.lt
    have l_16 := g_12.1
    refine Br.intro (fun c_17 => ?_) (fun c_17 => ?_)
    · have e := e.trans (cond_t c_17)
      have c_17' := of_decide_eq_true c_17
      obtain ⟨b_18, f_19, q_20⟩ := ((i_a.grow g_12)).pos o0
      refine ⟨by omega, by omega, b_18, f_19, q_20, ?_⟩
      refine ⟨((l_a).getD (i : Int).toNat false), (i_a).rd g_12 q_20 o2 _, ?_⟩
      refine ⟨by omega, o2, _, _, rfl, ?_⟩
      refine Lt.set o_10 (by simp only [List.length_map]; (first | omega | (simp only [List.length_set, List.length_replicate, List.length_append, List.length_cons, List.length_nil, List.length_take, List.length_drop, marks_length]; done) | (simp only [List.length_set, List.length_replicate, List.length_append, List.length_cons, List.length_nil, List.length_take, List.length_drop, marks_length]; omega))) (fun H_3 hl_21 o_23 k_22 => ?_)
      have o_23 := map_set o_23
      have l_24 := k_22.1
      have g_25 := g_12.keep (b := b_1) o2 k_22
      have l_26 := g_25.1
      have w_27 := o_23.lt
      rw [show IntKind.wrap .i64 (i + 1) = (i + 1) from wrap64 o2 o2]
      refine laws_toBoolS_n1 (μ - 1) o8 ⟨_, o_23, o7, g_25, o1, o1, o8, (by rw [show μ - 1 + 1 = μ from by first | omega]; exact e)⟩
    · have e := e.trans (cond_f c_17)
      have c_17' := of_decide_eq_false c_17
      rw [laws_toBoolS_x1_0]
      rw [e] at hk
      exact hk _ _ _ H_2 g_12 (o_10.ownS (by first | (simp only [List.length_replicate]; done) | omega | (simp; omega)) o2)
theorem laws_toBoolS_ok : FnOk Try.prog 94 S_laws_toBoolS := by
  refine FnOk.body mix_ok E_laws_toBoolS_ok Try.func94 rfl (by kernel_rfl) (by kernel_rfl) ?_ ?_ ?_ ?_ ?_
  · intro args H K K' h hk
    simp only [S_laws_toBoolS] at *
    unfold F_laws_toBoolS at *
    split at hk
    · obtain ⟨l_a, i_a, bd_29, k⟩ := hk
      exact ⟨l_a, i_a, bd_29, (fun r1_a r1_n r1_e H' gg ow0 => h _ _ (k r1_a r1_n r1_e H' gg ow0))⟩
    · exact hk.elim
  · intro hq; cases hq
  · intro args H K hk
    simp only [S_laws_toBoolS] at *
    unfold F_laws_toBoolS at *
    split at hk
    · obtain ⟨l_a, i_a, bd_29, k⟩ := hk
      exact liveS fun a n e H1 g o => ⟨_, _, k a n e H1 g o⟩
    · exact hk.elim
  · intro _ args H K hk
    simp only [S_laws_toBoolS] at *
    unfold F_laws_toBoolS at *
    split at hk
    · obtain ⟨l_a, i_a, bd_29, k⟩ := hk
      exact ⟨l_a, i_a, bd_29, (fun r1_a r1_n r1_e H' gg ow0 => ⟨gg, k r1_a r1_n r1_e H' gg ow0⟩)⟩
    · exact hk.elim
  · have mm := @laws_toBoolS_main
    have ml := fun (args : List Value) (H : AHeap) (K : Value → AHeap → Prop) => bodyL_body (P := Try.prog) (env := E_laws_toBoolS ) (fn := Try.f94) (args := args) (H := H) (K := K) E_laws_toBoolS_ok 
    revert mm ml
    generalize bodyK Try.prog E_laws_toBoolS Try.f94 = Q
    generalize bodyL Try.prog E_laws_toBoolS Try.f94 = QL
    intro mm ml args H K hk
    simp only [S_laws_toBoolS] at *
    unfold F_laws_toBoolS at *
    split at hk
    · exact ml _ H K (mm _ _ _ H K hk)
    · exact hk.elim

def p_laws_toCoded (a_Count : Int) (a_Top : Int) (l_a_Bits : List Bool) : Int × Int × (List Bool) := (a_Count, a_Top, l_a_Bits)
def p_laws_toCoded_eq := @p_laws_toCoded.eq_1
def T_laws_toCoded (a_Count : Int) (a_Top : Int) (a_Bits_a : Option Addr) (a_Bits_n : Nat) (a_Bits_e : Nat) (H : AHeap) (K : Int → Int → (Option Addr) → Nat → Nat → AHeap → Prop) : Prop := ∃ (l_a_Bits : List Bool), IsL fB H a_Bits_a a_Bits_n l_a_Bits ∧ l_a_Bits.length < 1073741824 ∧ ((∀ (r1_Bits_a : Option Addr) (r1_Bits_n r1_Bits_e : Nat), ∀ H' : AHeap, Grow H H' → OwnS fB H' H.length r1_Bits_a r1_Bits_n r1_Bits_e l_a_Bits → K a_Count a_Top r1_Bits_a r1_Bits_n r1_Bits_e H'))
theorem T_laws_toCoded_i {a_Count : Int} {a_Top : Int} {a_Bits_a : Option Addr} {a_Bits_n : Nat} {a_Bits_e : Nat} {H : AHeap} {K : Int → Int → (Option Addr) → Nat → Nat → AHeap → Prop} (h : ∃ (l_a_Bits : List Bool), IsL fB H a_Bits_a a_Bits_n l_a_Bits ∧ l_a_Bits.length < 1073741824 ∧ ((∀ (r1_Bits_a : Option Addr) (r1_Bits_n r1_Bits_e : Nat), ∀ H' : AHeap, Grow H H' → OwnS fB H' H.length r1_Bits_a r1_Bits_n r1_Bits_e l_a_Bits → K a_Count a_Top r1_Bits_a r1_Bits_n r1_Bits_e H'))) : T_laws_toCoded a_Count a_Top a_Bits_a a_Bits_n a_Bits_e H K := h
theorem laws_toCoded_id (a b : Int) (l : List Bool) : p_laws_toCoded a b l = (a, b, l) := rfl
/-! laws_toCoded: function 16 -/
def E_laws_toCoded : Env := envOf [(94, S_laws_toBoolS)]
def F_laws_toCoded : List Value → AHeap → (Value → AHeap → Prop) → Prop
  | [.agg ⟨[.int .i64 a_Count, .int .i64 a_Top, .slice a_Bits_a a_Bits_n a_Bits_e]⟩], H, K => T_laws_toCoded a_Count a_Top a_Bits_a a_Bits_n a_Bits_e H fun (r1_Count : Int) (r1_Top : Int) (r1_Bits_a : Option Addr) (r1_Bits_n : Nat) (r1_Bits_e : Nat) (H' : AHeap) => K (.agg #[.int .i64 r1_Count, .int .i64 r1_Top, .slice r1_Bits_a r1_Bits_n r1_Bits_e]) H'
  | _, _, _ => False
def S_laws_toCoded : FSpec := { F := F_laws_toCoded, quiet := false, tame := true }
theorem laws_toCoded_vc (a_Count : Int) (a_Top : Int) (a_Bits_a : Option Addr) (a_Bits_n : Nat) (a_Bits_e : Nat) (H : AHeap) (K : Value → AHeap → Prop) : bodyL Try.prog E_laws_toCoded Try.f16 [.agg #[.int .i64 a_Count, .int .i64 a_Top, .slice a_Bits_a a_Bits_n a_Bits_e]] H K =
  (Al [.int .i64 a_Count, .int .i64 a_Top, .slice a_Bits_a a_Bits_n a_Bits_e] H fun b1 H1 => Al [.int .i64 0, .int .i64 0, .slice none 0 0] H1 fun b2 H2 => Al [.int .i64 0, .int .i64 0, .slice none 0 0] H2 fun b3 H3 => ∃ x1 : Int,  rdC H3 b1 0 = some (.int .i64 x1) ∧ isOwn H3 b3 ∧ (∃ l, rdN H3 b3 0 1 = some l) ∧ Lt (setC H3 b3 0 (.int .i64 x1)) fun H4 => ∃ x2 : Int,  rdC H4 b1 1 = some (.int .i64 x2) ∧ isOwn H4 b3 ∧ (∃ l, rdN H4 b3 1 1 = some l) ∧ Lt (setC H4 b3 1 (.int .i64 x2)) fun H5 => ∃ x3_a : Option Addr, ∃ x3_n : Nat, ∃ x3_e : Nat,  rdC H5 b1 2 = some (.slice x3_a x3_n x3_e) ∧ T_laws_toBoolS x3_a x3_n x3_e H5 fun (a1 : Option Addr) (r1 : Nat) (r2 : Nat) (H6 : AHeap) => isOwn H6 b3 ∧ (∃ l, rdN H6 b3 2 1 = some l) ∧ Lt (setC H6 b3 2 (.slice a1 r1 r2)) fun H7 => ∃ c1 : Int, ∃ c2 : Int, ∃ c3_a : Option Addr, ∃ c3_n : Nat, ∃ c3_e : Nat,  rdN H7 b3 0 3 = some [.int .i64 c1, .int .i64 c2, .slice c3_a c3_n c3_e] ∧ isOwn H7 b2 ∧ (∃ l, rdN H7 b2 0 3 = some l) ∧ Lt (setN H7 b2 0 [.int .i64 c1, .int .i64 c2, .slice c3_a c3_n c3_e]) fun H8 => ∃ c4 : Int, ∃ c5 : Int, ∃ c6_a : Option Addr, ∃ c6_n : Nat, ∃ c6_e : Nat,  rdN H8 b2 0 3 = some [.int .i64 c4, .int .i64 c5, .slice c6_a c6_n c6_e] ∧ K (.agg #[.int .i64 c4, .int .i64 c5, .slice c6_a c6_n c6_e]) H8) := by kernel_rfl
theorem E_laws_toCoded_ok : ∀ g, FnOk Try.prog g (E_laws_toCoded g) := FnOk.envOf (by
  intro x hx
  simp only [List.mem_cons, List.not_mem_nil, or_false] at hx
  subst hx; exact laws_toBoolS_ok)
set_option maxHeartbeats 1000000 in
theorem laws_toCoded_main (a_Count : Int) (a_Top : Int) (a_Bits_a : Option Addr) (a_Bits_n : Nat) (a_Bits_e : Nat) (H : AHeap) (K : Value → AHeap → Prop) (h : T_laws_toCoded a_Count a_Top a_Bits_a a_Bits_n a_Bits_e H fun (r1_Count : Int) (r1_Top : Int) (r1_Bits_a : Option Addr) (r1_Bits_n : Nat) (r1_Bits_e : Nat) (H' : AHeap) => K (.agg #[.int .i64 r1_Count, .int .i64 r1_Top, .slice r1_Bits_a r1_Bits_n r1_Bits_e]) H') : bodyL Try.prog E_laws_toCoded Try.f16 [.agg #[.int .i64 a_Count, .int .i64 a_Top, .slice a_Bits_a a_Bits_n a_Bits_e]] H K := by
  rw [laws_toCoded_vc]
  obtain ⟨l_a_Bits, i_a_Bits, bd_100, hk⟩ := h
  have hk : (∀ (r1_Bits_a : Option Addr) (r1_Bits_n r1_Bits_e : Nat), ∀ H' : AHeap, Grow H H' → OwnS fB H' H.length r1_Bits_a r1_Bits_n r1_Bits_e ((p_laws_toCoded a_Count a_Top l_a_Bits).2.2) → (fun (r1_Count : Int) (r1_Top : Int) (r1_Bits_a : Option Addr) (r1_Bits_n : Nat) (r1_Bits_e : Nat) (H' : AHeap) => K (.agg #[.int .i64 r1_Count, .int .i64 r1_Top, .slice r1_Bits_a r1_Bits_n r1_Bits_e]) H') ((p_laws_toCoded a_Count a_Top l_a_Bits).1) ((p_laws_toCoded a_Count a_Top l_a_Bits).2.1) r1_Bits_a r1_Bits_n r1_Bits_e H') := by rw [laws_toCoded_id a_Count a_Top l_a_Bits]; exact hk
  obtain rfl := i_a_Bits.eqn
  have e : (p_laws_toCoded a_Count a_Top l_a_Bits) = _ := rfl
  have e := e.trans (p_laws_toCoded_eq a_Count a_Top l_a_Bits)
  have g0 := Grow.refl H
  refine Al.intro (fun b_1 H_1 hb_2 hl_3 g_4 o_5 => ?_)
  have l_7 := g_4.1
  have g_8 := g0.trans g_4
  have l_9 := g_8.1
  have w_99 := o_5.lt
  refine Al.intro (fun b_10 H_2 hb_11 hl_12 g_13 o_14 => ?_)
  have l_16 := g_13.1
  have g_17 := g_8.trans g_13
  have l_18 := g_17.1
  have o_19 := o_5.grow g_13
  have w_20 := o_19.lt
  have w_98 := o_14.lt
  refine Al.intro (fun b_21 H_3 hb_22 hl_23 g_24 o_25 => ?_)
  have l_27 := g_24.1
  have g_28 := g_17.trans g_24
  have l_29 := g_28.1
  have o_30 := o_19.grow g_24
  have w_31 := o_30.lt
  have o_32 := o_14.grow g_24
  have w_33 := o_32.lt
  have w_97 := o_25.lt
  refine ⟨a_Count, (o_30.rdC _).trans rfl, ?_⟩
  refine Lt.set o_25 (Nat.le_of_ble_eq_true rfl) (fun H_4 hl_34 o_36 k_35 => ?_)
  have o_36 : Own H_4 b_21 [.int .i64 a_Count, .int .i64 0, .slice none 0 0] := o_36
  have l_37 := k_35.1
  have g_38 := g_28.keep (b := b_21) o2 k_35
  have l_39 := g_38.1
  have o_40 := o_30.keep o2 k_35
  have w_41 := o_40.lt
  have o_42 := o_32.keep o2 k_35
  have w_43 := o_42.lt
  have w_96 := o_36.lt
  refine ⟨a_Top, (o_40.rdC _).trans rfl, ?_⟩
  refine Lt.set o_36 (Nat.le_of_ble_eq_true rfl) (fun H_5 hl_44 o_46 k_45 => ?_)
  have o_46 : Own H_5 b_21 [.int .i64 a_Count, .int .i64 a_Top, .slice none 0 0] := o_46
  have l_47 := k_45.1
  have g_48 := g_38.keep (b := b_21) o2 k_45
  have l_49 := g_48.1
  have o_50 := o_40.keep o2 k_45
  have w_51 := o_50.lt
  have o_52 := o_42.keep o2 k_45
  have w_53 := o_52.lt
  have w_95 := o_46.lt
  refine ⟨a_Bits_a, l_a_Bits.length, a_Bits_e, (o_50.rdC _).trans rfl, ?_⟩
  refine T_laws_toBoolS_i ⟨_, (i_a_Bits.grow g_48), o0, fun a_54 n_55 e_56 H_6 g_58 r_57 => ?_⟩
  have l_59 := g_58.1
  have g_60 := g_48.trans g_58
  have l_61 := g_60.1
  have o_62 := o_50.grow g_58
  have w_63 := o_62.lt
  have o_64 := o_52.grow g_58
  have w_65 := o_64.lt
  have o_66 := o_46.grow g_58
  have w_67 := o_66.lt
  obtain rfl := r_57.isL.eqn
  have u_68 := r_57.up
  have u_69 := r_57.lo
  refine Lt.set o_66 (Nat.le_of_ble_eq_true rfl) (fun H_7 hl_71 o_73 k_72 => ?_)
  have o_73 : Own H_7 b_21 [.int .i64 a_Count, .int .i64 a_Top, .slice a_54 ((l_a_Bits).length) e_56] := o_73
  have l_74 := k_72.1
  have g_75 := g_60.keep (b := b_21) o2 k_72
  have l_76 := g_75.1
  have o_77 := o_62.keep o2 k_72
  have w_78 := o_77.lt
  have o_79 := o_64.keep o2 k_72
  have w_80 := o_79.lt
  have r_81 := r_57.keep u_68 o2 k_72
  have w_94 := o_73.lt
  refine ⟨a_Count, a_Top, a_54, (l_a_Bits).length, e_56, (o_73.rdN (Nat.le_of_ble_eq_true rfl)).trans rfl, ?_⟩
  refine Lt.setN (n := 3) o_79 (Nat.le_of_ble_eq_true rfl) rfl (fun H_8 hl_82 o_84 k_83 => ?_)
  have o_84 : Own H_8 b_10 [.int .i64 a_Count, .int .i64 a_Top, .slice a_54 ((l_a_Bits).length) e_56] := o_84
  have l_85 := k_83.1
  have g_86 := g_75.keep (b := b_10) o2 k_83
  have l_87 := g_86.1
  have o_88 := o_77.keep o2 k_83
  have w_89 := o_88.lt
  have o_90 := o_73.keep o2 k_83
  have w_91 := o_90.lt
  have r_92 := r_81.keep u_68 o2 k_83
  have w_93 := o_84.lt
  refine ⟨a_Count, a_Top, a_54, (l_a_Bits).length, e_56, (o_84.rdN (Nat.le_of_ble_eq_true rfl)).trans rfl, ?_⟩
  rw [e] at hk
  exact hk _ _ _ H_8 g_86 (r_92.weak o2)
theorem laws_toCoded_ok : FnOk Try.prog 16 S_laws_toCoded := by
  refine FnOk.body mix_ok E_laws_toCoded_ok Try.func16 rfl (by kernel_rfl) (by kernel_rfl) ?_ ?_ ?_ ?_ ?_
  · intro args H K K' h hk
    simp only [S_laws_toCoded] at *
    unfold F_laws_toCoded at *
    split at hk
    · obtain ⟨l_a_Bits, i_a_Bits, bd_100, k⟩ := hk
      exact ⟨l_a_Bits, i_a_Bits, bd_100, (fun r1_Bits_a r1_Bits_n r1_Bits_e H' gg ow0 => h _ _ (k r1_Bits_a r1_Bits_n r1_Bits_e H' gg ow0))⟩
    · exact hk.elim
  · intro hq; cases hq
  · intro args H K hk
    simp only [S_laws_toCoded] at *
    unfold F_laws_toCoded at *
    split at hk
    · obtain ⟨l_a_Bits, i_a_Bits, bd_100, k⟩ := hk
      exact liveS fun a n e H1 g o => ⟨_, _, k a n e H1 g o⟩
    · exact hk.elim
  · intro _ args H K hk
    simp only [S_laws_toCoded] at *
    unfold F_laws_toCoded at *
    split at hk
    · obtain ⟨l_a_Bits, i_a_Bits, bd_100, k⟩ := hk
      exact ⟨l_a_Bits, i_a_Bits, bd_100, (fun r1_Bits_a r1_Bits_n r1_Bits_e H' gg ow0 => ⟨gg, k r1_Bits_a r1_Bits_n r1_Bits_e H' gg ow0⟩)⟩
    · exact hk.elim
  · have mm := @laws_toCoded_main
    have ml := fun (args : List Value) (H : AHeap) (K : Value → AHeap → Prop) => bodyL_body (P := Try.prog) (env := E_laws_toCoded ) (fn := Try.f16) (args := args) (H := H) (K := K) E_laws_toCoded_ok 
    revert mm ml
    generalize bodyK Try.prog E_laws_toCoded Try.f16 = Q
    generalize bodyL Try.prog E_laws_toCoded Try.f16 = QL
    intro mm ml args H K hk
    simp only [S_laws_toCoded] at *
    unfold F_laws_toCoded at *
    split at hk
    · exact ml _ H K (mm _ _ _ _ _ H K hk)
    · exact hk.elim
def p_spec_l00In (n : Int) (low : Int) (high : Int) : Bool := (bif decide ((low : Int) ≤ n) then decide ((n : Int) ≤ high) else false)
def p_spec_l00In_eq := @p_spec_l00In.eq_1
def T_spec_l00In (n : Int) (low : Int) (high : Int) (H : AHeap) (K : Bool → AHeap → Prop) : Prop := K (p_spec_l00In n low high) H
theorem spec_l00In_t {n a b : Int} (h : p_spec_l00In n a b = true) : a ≤ n ∧ n ≤ b := by
  unfold p_spec_l00In at h
  by_cases h1 : a ≤ n
  · rw [decide_eq_true h1, cond_true] at h; exact ⟨h1, of_decide_eq_true h⟩
  · rw [decide_eq_false h1] at h; cases h
theorem T_spec_l00In_i {n : Int} {low : Int} {high : Int} {H : AHeap} {K : Bool → AHeap → Prop} (h : K (p_spec_l00In n low high) H) : T_spec_l00In n low high H K := h
/-! spec_l00In: function 93 -/
def E_spec_l00In : Env := envOf []
def F_spec_l00In : List Value → AHeap → (Value → AHeap → Prop) → Prop
  | [.int .i64 n, .int .i64 low, .int .i64 high], H, K => T_spec_l00In n low high H fun (r1 : Bool) (H' : AHeap) => K (.bool r1) H'
  | _, _, _ => False
def S_spec_l00In : FSpec := { F := F_spec_l00In, quiet := true, tame := false }
theorem spec_l00In_vc (n : Int) (low : Int) (high : Int) (H : AHeap) (K : Value → AHeap → Prop) : bodyL Try.prog E_spec_l00In Try.f93 [.int .i64 n, .int .i64 low, .int .i64 high] H K =
  (Br (decide ((low : Int) ≤ n)) (K (.bool (decide ((n : Int) ≤ high))) H) (K (.bool false) H)) := by kernel_rfl
theorem E_spec_l00In_ok : ∀ g, FnOk Try.prog g (E_spec_l00In g) := FnOk.envOf (by
  intro x hx; cases hx)
set_option maxHeartbeats 1000000 in
theorem spec_l00In_main (n : Int) (low : Int) (high : Int) (H : AHeap) (K : Value → AHeap → Prop) (h : T_spec_l00In n low high H fun (r1 : Bool) (H' : AHeap) => K (.bool r1) H') : bodyL Try.prog E_spec_l00In Try.f93 [.int .i64 n, .int .i64 low, .int .i64 high] H K := by
  rw [spec_l00In_vc]
  unfold T_spec_l00In p_spec_l00In at h
  repeat' (first | exact h | (exfalso; simp_all; done) | (refine ⟨by decide, ?_⟩) | (refine Br.intro (fun hb => ?_) (fun hb => ?_) <;> (try simp only [hb, cond_true, cond_false, Bool.not_true, Bool.not_false] at h)))
theorem spec_l00In_ok : FnOk Try.prog 93 S_spec_l00In := by
  refine FnOk.body mix_ok E_spec_l00In_ok Try.func93 rfl (by kernel_rfl) (by kernel_rfl) ?_ ?_ ?_ ?_ ?_
  · intro args H K K' h hk
    simp only [S_spec_l00In] at *
    unfold F_spec_l00In at *
    split at hk
    · have k := hk
      exact h _ _ k
    · exact hk.elim
  · intro _ args H K hk
    simp only [S_spec_l00In] at *
    unfold F_spec_l00In at *
    split at hk
    · have k := hk
      exact ⟨_, k, fun K' k' => k'⟩
    · exact hk.elim
  · intro args H K hk
    simp only [S_spec_l00In] at *
    unfold F_spec_l00In at *
    split at hk
    · have k := hk
      exact ⟨_, _, k⟩
    · exact hk.elim
  · intro hq; cases hq
  · have mm := @spec_l00In_main
    have ml := fun (args : List Value) (H : AHeap) (K : Value → AHeap → Prop) => bodyL_body (P := Try.prog) (env := E_spec_l00In ) (fn := Try.f93) (args := args) (H := H) (K := K) E_spec_l00In_ok 
    revert mm ml
    generalize bodyK Try.prog E_spec_l00In Try.f93 = Q
    generalize bodyL Try.prog E_spec_l00In Try.f93 = QL
    intro mm ml args H K hk
    simp only [S_spec_l00In] at *
    unfold F_spec_l00In at *
    split at hk
    · exact ml _ H K (mm _ _ _ H K hk)
    · exact hk.elim

def p_spec_l06Is (cp_Count : Int) (cp_Top : Int) (l_cp_Bits : List Bool) : Bool := (bif (p_spec_l00In cp_Count (1 : Int) (128 : Int)) then (bif (p_spec_l00In cp_Top (0 : Int) (24 : Int)) then decide (((l_cp_Bits.length : Int) : Int) ≤ 32768) else false) else false)
def p_spec_l06Is_eq := @p_spec_l06Is.eq_1
def T_spec_l06Is (c : Nat) (H : AHeap) (K : Bool → AHeap → Prop) : Prop := ∃ (cp_Count : Int), ∃ (cp_Top : Int), ∃ (cp_Bits_a : Option Addr), ∃ (cp_Bits_n : Nat), ∃ (cp_Bits_e : Nat), ∃ (l_cp_Bits : List Bool), rdN H c 0 3 = some [.int .i64 cp_Count, .int .i64 cp_Top, .slice cp_Bits_a cp_Bits_n cp_Bits_e] ∧ IsL fB H cp_Bits_a cp_Bits_n l_cp_Bits ∧ l_cp_Bits.length < 1073741824 ∧ K (p_spec_l06Is cp_Count cp_Top l_cp_Bits) H
theorem T_spec_l06Is_i {c : Nat} {H : AHeap} {K : Bool → AHeap → Prop} (h : ∃ (cp_Count : Int), ∃ (cp_Top : Int), ∃ (cp_Bits_a : Option Addr), ∃ (cp_Bits_n : Nat), ∃ (cp_Bits_e : Nat), ∃ (l_cp_Bits : List Bool), rdN H c 0 3 = some [.int .i64 cp_Count, .int .i64 cp_Top, .slice cp_Bits_a cp_Bits_n cp_Bits_e] ∧ IsL fB H cp_Bits_a cp_Bits_n l_cp_Bits ∧ l_cp_Bits.length < 1073741824 ∧ K (p_spec_l06Is cp_Count cp_Top l_cp_Bits) H) : T_spec_l06Is c H K := h

/-! spec_l06Is: function 92 -/
def E_spec_l06Is : Env := envOf [(93, S_spec_l00In)]
def F_spec_l06Is : List Value → AHeap → (Value → AHeap → Prop) → Prop
  | [.pointer (some ⟨c, 0, none⟩)], H, K => T_spec_l06Is c H fun (r1 : Bool) (H' : AHeap) => K (.bool r1) H'
  | _, _, _ => False
def S_spec_l06Is : FSpec := { F := F_spec_l06Is, quiet := true, tame := false }
theorem spec_l06Is_vc (c : Nat) (H : AHeap) (K : Value → AHeap → Prop) : bodyL Try.prog E_spec_l06Is Try.f92 [.pointer (some ⟨c, 0, none⟩)] H K =
  (∃ x1 : Int,  rdC H c 0 = some (.int .i64 x1) ∧ T_spec_l00In x1 1 128 H fun (r1 : Bool) (H1 : AHeap) => Br r1 (∃ x2 : Int,  rdC H1 c 1 = some (.int .i64 x2) ∧ T_spec_l00In x2 0 24 H1 fun (r2 : Bool) (H2 : AHeap) => Br r2 (∃ x3_a : Option Addr, ∃ x3_n : Nat, ∃ x3_e : Nat,  rdC H2 c 2 = some (.slice x3_a x3_n x3_e) ∧ K (.bool (decide (((x3_n : Int) : Int) ≤ 32768))) H2) (K (.bool false) H2)) (K (.bool false) H1)) := by kernel_rfl
theorem E_spec_l06Is_ok : ∀ g, FnOk Try.prog g (E_spec_l06Is g) := FnOk.envOf (by
  intro x hx
  simp only [List.mem_cons, List.not_mem_nil, or_false] at hx
  subst hx; exact spec_l00In_ok)
set_option maxHeartbeats 1000000 in
theorem spec_l06Is_main (c : Nat) (H : AHeap) (K : Value → AHeap → Prop) (h : T_spec_l06Is c H fun (r1 : Bool) (H' : AHeap) => K (.bool r1) H') : bodyL Try.prog E_spec_l06Is Try.f92 [.pointer (some ⟨c, 0, none⟩)] H K := by
  rw [spec_l06Is_vc]
  obtain ⟨cp_Count, cp_Top, cp_Bits_a, cp_Bits_n, cp_Bits_e, l_cp_Bits, i_c, i_cp_Bits, bd_3, hk⟩ := h
  obtain rfl := i_cp_Bits.eqn
  have e : (p_spec_l06Is cp_Count cp_Top l_cp_Bits) = _ := rfl
  have e := e.trans (p_spec_l06Is_eq cp_Count cp_Top l_cp_Bits)
  have g0 := Grow.refl H
  refine ⟨cp_Count, (rdN_at (rdN_grow g0 i_c) 0 (Nat.le_of_ble_eq_true rfl)).trans rfl, ?_⟩
  refine T_spec_l00In_i ?_
  refine Br.intro (fun c_1 => ?_) (fun c_1 => ?_)
  · have e := e.trans (cond_t c_1)
    have c_1' := spec_l00In_t c_1
    refine ⟨cp_Top, (rdN_at (rdN_grow g0 i_c) 1 (Nat.le_of_ble_eq_true rfl)).trans rfl, ?_⟩
    refine T_spec_l00In_i ?_
    refine Br.intro (fun c_2 => ?_) (fun c_2 => ?_)
    · have e := e.trans (cond_t c_2)
      have c_2' := spec_l00In_t c_2
      refine ⟨cp_Bits_a, l_cp_Bits.length, cp_Bits_e, (rdN_at (rdN_grow g0 i_c) 2 (Nat.le_of_ble_eq_true rfl)).trans rfl, ?_⟩
      rw [e] at hk
      exact hk
    · have e := e.trans (cond_f c_2)
      rw [e] at hk
      exact hk
  · have e := e.trans (cond_f c_1)
    rw [e] at hk
    exact hk
theorem spec_l06Is_ok : FnOk Try.prog 92 S_spec_l06Is := by
  refine FnOk.body mix_ok E_spec_l06Is_ok Try.func92 rfl (by kernel_rfl) (by kernel_rfl) ?_ ?_ ?_ ?_ ?_
  · intro args H K K' h hk
    simp only [S_spec_l06Is] at *
    unfold F_spec_l06Is at *
    split at hk
    · obtain ⟨cp_Count, cp_Top, cp_Bits_a, cp_Bits_n, cp_Bits_e, l_cp_Bits, i_c, i_cp_Bits, bd_3, k⟩ := hk
      exact ⟨cp_Count, cp_Top, cp_Bits_a, cp_Bits_n, cp_Bits_e, l_cp_Bits, i_c, i_cp_Bits, bd_3, h _ _ k⟩
    · exact hk.elim
  · intro _ args H K hk
    simp only [S_spec_l06Is] at *
    unfold F_spec_l06Is at *
    split at hk
    · obtain ⟨cp_Count, cp_Top, cp_Bits_a, cp_Bits_n, cp_Bits_e, l_cp_Bits, i_c, i_cp_Bits, bd_3, k⟩ := hk
      exact ⟨_, k, fun K' k' => ⟨cp_Count, cp_Top, cp_Bits_a, cp_Bits_n, cp_Bits_e, l_cp_Bits, i_c, i_cp_Bits, bd_3, k'⟩⟩
    · exact hk.elim
  · intro args H K hk
    simp only [S_spec_l06Is] at *
    unfold F_spec_l06Is at *
    split at hk
    · obtain ⟨cp_Count, cp_Top, cp_Bits_a, cp_Bits_n, cp_Bits_e, l_cp_Bits, i_c, i_cp_Bits, bd_3, k⟩ := hk
      exact ⟨_, _, k⟩
    · exact hk.elim
  · intro hq; cases hq
  · have mm := @spec_l06Is_main
    have ml := fun (args : List Value) (H : AHeap) (K : Value → AHeap → Prop) => bodyL_body (P := Try.prog) (env := E_spec_l06Is ) (fn := Try.f92) (args := args) (H := H) (K := K) E_spec_l06Is_ok 
    revert mm ml
    generalize bodyK Try.prog E_spec_l06Is Try.f92 = Q
    generalize bodyL Try.prog E_spec_l06Is Try.f92 = QL
    intro mm ml args H K hk
    simp only [S_spec_l06Is] at *
    unfold F_spec_l06Is at *
    split at hk
    · exact ml _ H K (mm _ H K hk)
    · exact hk.elim

def p_spec_CutCoded (c_Count : Int) (c_Top : Int) (l_c_Bits : List Bool) (count : Int) : Int × Int × (List Bool) × Bool := (bif !(p_spec_l06Is c_Count c_Top l_c_Bits) then ((0 : Int), (0 : Int), [], false) else (bif !((p_spec_l00In count (0 : Int) (l_c_Bits.length : Int))) then ((0 : Int), (0 : Int), [], false) else (c_Count, c_Top, (([] : List Bool) ++ (((l_c_Bits).drop (0 : Int).toNat).take ((count : Int) - 0).toNat)), true)))
def p_spec_CutCoded_eq := @p_spec_CutCoded.eq_1
def T_spec_CutCoded (c_Count : Int) (c_Top : Int) (c_Bits_a : Option Addr) (c_Bits_n : Nat) (c_Bits_e : Nat) (count : Int) (H : AHeap) (K : Int → Int → (Option Addr) → Nat → Nat → Bool → AHeap → Prop) : Prop := ∃ (l_c_Bits : List Bool), IsL fB H c_Bits_a c_Bits_n l_c_Bits ∧ l_c_Bits.length < 1073741824 ∧ ((∀ (r1_Bits_a : Option Addr) (r1_Bits_n r1_Bits_e : Nat), ∀ H' : AHeap, Grow H H' → OwnS fB H' H.length r1_Bits_a r1_Bits_n r1_Bits_e ((p_spec_CutCoded c_Count c_Top l_c_Bits count).2.2.1) → K ((p_spec_CutCoded c_Count c_Top l_c_Bits count).1) ((p_spec_CutCoded c_Count c_Top l_c_Bits count).2.1) r1_Bits_a r1_Bits_n r1_Bits_e ((p_spec_CutCoded c_Count c_Top l_c_Bits count).2.2.2) H'))
theorem T_spec_CutCoded_i {c_Count : Int} {c_Top : Int} {c_Bits_a : Option Addr} {c_Bits_n : Nat} {c_Bits_e : Nat} {count : Int} {H : AHeap} {K : Int → Int → (Option Addr) → Nat → Nat → Bool → AHeap → Prop} (h : ∃ (l_c_Bits : List Bool), IsL fB H c_Bits_a c_Bits_n l_c_Bits ∧ l_c_Bits.length < 1073741824 ∧ ((∀ (r1_Bits_a : Option Addr) (r1_Bits_n r1_Bits_e : Nat), ∀ H' : AHeap, Grow H H' → OwnS fB H' H.length r1_Bits_a r1_Bits_n r1_Bits_e ((p_spec_CutCoded c_Count c_Top l_c_Bits count).2.2.1) → K ((p_spec_CutCoded c_Count c_Top l_c_Bits count).1) ((p_spec_CutCoded c_Count c_Top l_c_Bits count).2.1) r1_Bits_a r1_Bits_n r1_Bits_e ((p_spec_CutCoded c_Count c_Top l_c_Bits count).2.2.2) H'))) : T_spec_CutCoded c_Count c_Top c_Bits_a c_Bits_n c_Bits_e count H K := h
theorem spec_CutCoded_len (a b : Int) (l : List Bool) (c : Int) : (p_spec_CutCoded a b l c).2.2.1.length ≤ l.length := by
  rw [p_spec_CutCoded_eq]
  cases !(p_spec_l06Is a b l)
  · cases !((p_spec_l00In c (0 : Int) (l.length : Int)))
    · show (([] : List Bool) ++ _).length ≤ _
      rw [List.nil_append, List.length_take, List.length_drop]; omega
    · exact Nat.zero_le _
  · exact Nat.zero_le _
/-! spec_CutCoded: function 15 -/
def E_spec_CutCoded : Env := envOf [(92, S_spec_l06Is), (93, S_spec_l00In)]
def F_spec_CutCoded : List Value → AHeap → (Value → AHeap → Prop) → Prop
  | [.agg ⟨[.int .i64 c_Count, .int .i64 c_Top, .slice c_Bits_a c_Bits_n c_Bits_e]⟩, .int .i64 count], H, K => T_spec_CutCoded c_Count c_Top c_Bits_a c_Bits_n c_Bits_e count H fun (r1_Count : Int) (r1_Top : Int) (r1_Bits_a : Option Addr) (r1_Bits_n : Nat) (r1_Bits_e : Nat) (r2 : Bool) (H' : AHeap) => K (.tuple #[.agg #[.int .i64 r1_Count, .int .i64 r1_Top, .slice r1_Bits_a r1_Bits_n r1_Bits_e], .bool r2]) H'
  | _, _, _ => False
def S_spec_CutCoded : FSpec := { F := F_spec_CutCoded, quiet := false, tame := true }
theorem spec_CutCoded_vc (c_Count : Int) (c_Top : Int) (c_Bits_a : Option Addr) (c_Bits_n : Nat) (c_Bits_e : Nat) (count : Int) (H : AHeap) (K : Value → AHeap → Prop) : bodyL Try.prog E_spec_CutCoded Try.f15 [.agg #[.int .i64 c_Count, .int .i64 c_Top, .slice c_Bits_a c_Bits_n c_Bits_e], .int .i64 count] H K =
  (Al [.int .i64 c_Count, .int .i64 c_Top, .slice c_Bits_a c_Bits_n c_Bits_e] H fun b1 H1 => Al [.int .i64 0, .int .i64 0, .slice none 0 0] H1 fun b2 H2 => T_spec_l06Is b1 H2 fun (r1 : Bool) (H3 : AHeap) => Br (!r1) (isOwn H3 b2 ∧ (∃ l, rdN H3 b2 0 3 = some l) ∧ Lt (setN H3 b2 0 [.int .i64 0, .int .i64 0, .slice none 0 0]) fun H4 => ∃ c1 : Int, ∃ c2 : Int, ∃ c3_a : Option Addr, ∃ c3_n : Nat, ∃ c3_e : Nat,  rdN H4 b2 0 3 = some [.int .i64 c1, .int .i64 c2, .slice c3_a c3_n c3_e] ∧ K (.tuple #[.agg #[.int .i64 c1, .int .i64 c2, .slice c3_a c3_n c3_e], .bool false]) H4) (∃ x1_a : Option Addr, ∃ x1_n : Nat, ∃ x1_e : Nat,  rdC H3 b1 2 = some (.slice x1_a x1_n x1_e) ∧ T_spec_l00In count 0 (x1_n : Int) H3 fun (r2 : Bool) (H5 : AHeap) => Br (!r2) (isOwn H5 b2 ∧ (∃ l, rdN H5 b2 0 3 = some l) ∧ Lt (setN H5 b2 0 [.int .i64 0, .int .i64 0, .slice none 0 0]) fun H6 => ∃ c4 : Int, ∃ c5 : Int, ∃ c6_a : Option Addr, ∃ c6_n : Nat, ∃ c6_e : Nat,  rdN H6 b2 0 3 = some [.int .i64 c4, .int .i64 c5, .slice c6_a c6_n c6_e] ∧ K (.tuple #[.agg #[.int .i64 c4, .int .i64 c5, .slice c6_a c6_n c6_e], .bool false]) H6) (∃ x2_a : Option Addr, ∃ x2_n : Nat, ∃ x2_e : Nat,  rdC H5 b1 2 = some (.slice x2_a x2_n x2_e) ∧ ∃ x3 : Int,  rdC H5 b1 1 = some (.int .i64 x3) ∧ ∃ x4 : Int,  rdC H5 b1 0 = some (.int .i64 x4) ∧ Al [] H5 fun b3 H7 => (0 : Int) ≤ 0 ∧ 0 ≤ count ∧ count ≤ (x2_n : Int) ∧ ∃ o1 w1 : List Value, ownB H7 (some ⟨b3, 0, none⟩) 0 1 1 = some o1 ∧ rdS H7 ((x2_a : Option Addr).map fun a => ⟨a.block, a.off + (0 : Int).toNat * 1, none⟩) ((((count : Int) - 0).toNat) * 1) = some w1 ∧ ((some ⟨b3, 0, none⟩ : Option Addr) = none → 0 < (((count : Int) - 0).toNat : Nat)) ∧ (0 : Nat) + (((count : Int) - 0).toNat) < most ∧ Ap H7 (killB H7 (some ⟨b3, 0, none⟩) ++ [some ⟨o1 ++ w1, true⟩]) fun b4 H8 => isOwn H8 b2 ∧ (∃ l, rdN H8 b2 0 3 = some l) ∧ Lt (setN H8 b2 0 [.int .i64 x4, .int .i64 x3, .slice (some ⟨b4, 0, none⟩) (0 + (((count : Int) - 0).toNat)) 1]) fun H9 => ∃ c7 : Int, ∃ c8 : Int, ∃ c9_a : Option Addr, ∃ c9_n : Nat, ∃ c9_e : Nat,  rdN H9 b2 0 3 = some [.int .i64 c7, .int .i64 c8, .slice c9_a c9_n c9_e] ∧ K (.tuple #[.agg #[.int .i64 c7, .int .i64 c8, .slice c9_a c9_n c9_e], .bool true]) H9))) := by kernel_rfl
theorem E_spec_CutCoded_ok : ∀ g, FnOk Try.prog g (E_spec_CutCoded g) := FnOk.envOf (by
  intro x hx
  simp only [List.mem_cons, List.not_mem_nil, or_false] at hx
  rcases hx with rfl | rfl
  · exact spec_l06Is_ok
  · exact spec_l00In_ok)
theorem o6 {P : Prop} (h : P := by first | exact OwnS.nil _ _ _ _ | exact OwnT.nil _ _ _) : P := h
theorem o3 {P : Prop} (h : P := by first | (simp only [List.length_map, List.length_cons, List.length_nil, List.length_append]; done) | (simp only [List.length_map, List.length_cons, List.length_nil, List.length_append]; omega) | (simp only [List.length_map, List.length_cons, List.length_nil, List.length_append, List.length_take, List.length_drop]; omega)) : P := h
theorem o4 {P : Prop} (h : P := by first | omega | (simp only [List.length_append, List.length_cons, List.length_nil]; done) | (simp only [List.length_append, List.length_cons, List.length_nil]; omega) | (simp only [List.length_append, List.length_cons, List.length_nil, List.length_take, List.length_drop]; omega)) : P := h
set_option maxHeartbeats 1000000 in
theorem spec_CutCoded_main (c_Count : Int) (c_Top : Int) (c_Bits_a : Option Addr) (c_Bits_n : Nat) (c_Bits_e : Nat) (count : Int) (H : AHeap) (K : Value → AHeap → Prop) (h : T_spec_CutCoded c_Count c_Top c_Bits_a c_Bits_n c_Bits_e count H fun (r1_Count : Int) (r1_Top : Int) (r1_Bits_a : Option Addr) (r1_Bits_n : Nat) (r1_Bits_e : Nat) (r2 : Bool) (H' : AHeap) => K (.tuple #[.agg #[.int .i64 r1_Count, .int .i64 r1_Top, .slice r1_Bits_a r1_Bits_n r1_Bits_e], .bool r2]) H') : bodyL Try.prog E_spec_CutCoded Try.f15 [.agg #[.int .i64 c_Count, .int .i64 c_Top, .slice c_Bits_a c_Bits_n c_Bits_e], .int .i64 count] H K := by
  rw [spec_CutCoded_vc]
  obtain ⟨l_c_Bits, i_c_Bits, bd_83, hk⟩ := h
  obtain rfl := i_c_Bits.eqn
  have e : (p_spec_CutCoded c_Count c_Top l_c_Bits count) = _ := rfl
  have e := e.trans (p_spec_CutCoded_eq c_Count c_Top l_c_Bits count)
  have g0 := Grow.refl H
  refine Al.intro (fun b_1 H_1 hb_2 hl_3 g_4 o_5 => ?_)
  have l_7 := g_4.1
  have g_8 := g0.trans g_4
  have l_9 := g_8.1
  have w_82 := o_5.lt
  refine Al.intro (fun b_10 H_2 hb_11 hl_12 g_13 o_14 => ?_)
  have l_16 := g_13.1
  have g_17 := g_8.trans g_13
  have l_18 := g_17.1
  have o_19 := o_5.grow g_13
  have w_20 := o_19.lt
  have w_81 := o_14.lt
  refine T_spec_l06Is_i ⟨c_Count, c_Top, c_Bits_a, l_c_Bits.length, c_Bits_e, _, ((o_19.rdN (Nat.le_of_ble_eq_true rfl)).trans rfl), (i_c_Bits.grow g_17), o0, ?_⟩
  refine Br.intro (fun c_21 => ?_) (fun c_21 => ?_)
  · have e := e.trans (cond_t c_21)
    have c_21n := nf_of_t c_21
    refine Lt.setN (n := 3) o_14 (Nat.le_of_ble_eq_true rfl) rfl (fun H_3 hl_22 o_24 k_23 => ?_)
    have o_24 : Own H_3 b_10 [.int .i64 0, .int .i64 0, .slice none 0 0] := o_24
    have l_25 := k_23.1
    have g_26 := g_17.keep (b := b_10) o2 k_23
    have l_27 := g_26.1
    have o_28 := o_19.keep o2 k_23
    have w_29 := o_28.lt
    have w_30 := o_24.lt
    refine ⟨0, 0, none, 0, 0, (o_24.rdN (Nat.le_of_ble_eq_true rfl)).trans rfl, ?_⟩
    rw [e] at hk
    exact hk _ _ _ H_3 g_26 o6
  · have e := e.trans (cond_f c_21)
    have c_21n := nt_of_f c_21
    refine ⟨c_Bits_a, l_c_Bits.length, c_Bits_e, (o_19.rdC _).trans rfl, ?_⟩
    refine T_spec_l00In_i ?_
    refine Br.intro (fun c_31 => ?_) (fun c_31 => ?_)
    · have e := e.trans (cond_t c_31)
      have c_31n := nf_of_t c_31
      refine Lt.setN (n := 3) o_14 (Nat.le_of_ble_eq_true rfl) rfl (fun H_4 hl_32 o_34 k_33 => ?_)
      have o_34 : Own H_4 b_10 [.int .i64 0, .int .i64 0, .slice none 0 0] := o_34
      have l_35 := k_33.1
      have g_36 := g_17.keep (b := b_10) o2 k_33
      have l_37 := g_36.1
      have o_38 := o_19.keep o2 k_33
      have w_39 := o_38.lt
      have w_40 := o_34.lt
      refine ⟨0, 0, none, 0, 0, (o_34.rdN (Nat.le_of_ble_eq_true rfl)).trans rfl, ?_⟩
      rw [e] at hk
      exact hk _ _ _ H_4 g_36 o6
    · have e := e.trans (cond_f c_31)
      have c_31n := nt_of_f c_31
      have c_31n' := spec_l00In_t c_31n
      refine ⟨c_Bits_a, l_c_Bits.length, c_Bits_e, (o_19.rdC _).trans rfl, ?_⟩
      refine ⟨c_Top, (o_19.rdC _).trans rfl, ?_⟩
      refine ⟨c_Count, (o_19.rdC _).trans rfl, ?_⟩
      refine Al.intro (fun b_41 H_5 hb_42 hl_43 g_44 o_45 => ?_)
      have o_45 : Own H_5 b_41 ((([] : List Bool)).map fB) := o_45
      have l_47 := g_44.1
      have g_48 := g_17.trans g_44
      have l_49 := g_48.1
      have o_50 := o_19.grow g_44
      have w_51 := o_50.lt
      have o_52 := o_14.grow g_44
      have w_53 := o_52.lt
      have w_80 := o_45.lt
      refine ⟨by omega, by omega, by omega, ?_⟩
      have i_54 := sub_isl i_c_Bits (lo := 0) (hi := count) o2 o2 o2
      refine ⟨_, _, o_45.ownB o3 rfl, (isl_rdS (i_54.grow g_48)), (fun h => by cases h), (by have := most_eq; omega), ?_⟩
      refine Ap.app o_45 rfl rfl (fun b_59 H_6 q_78 hl_55 o_56 k_57 => ?_)
      have o_56 := map_snoc o_56
      have l_60 := k_57.1
      have g_61 := g_48.keep (b := b_41) o2 k_57
      have l_62 := g_61.1
      have o_63 := o_50.keep o2 k_57
      have w_64 := o_63.lt
      have o_65 := o_52.keep o2 k_57
      have w_66 := o_65.lt
      have w_79 := o_56.lt
      refine Lt.setN (n := 3) o_65 (Nat.le_of_ble_eq_true rfl) rfl (fun H_7 hl_67 o_69 k_68 => ?_)
      have o_69 : Own H_7 b_10 [.int .i64 c_Count, .int .i64 c_Top, .slice (some ⟨b_59, 0, none⟩) (0 + (((count : Int) - 0).toNat)) 1] := o_69
      have l_70 := k_68.1
      have g_71 := g_61.keep (b := b_10) o2 k_68
      have l_72 := g_71.1
      have o_73 := o_63.keep o2 k_68
      have w_74 := o_73.lt
      have o_75 := o_56.keep o2 k_68
      have w_76 := o_75.lt
      have w_77 := o_69.lt
      refine ⟨c_Count, c_Top, some ⟨b_59, 0, none⟩, 0 + (((count : Int) - 0).toNat), 1, (o_69.rdN (Nat.le_of_ble_eq_true rfl)).trans rfl, ?_⟩
      rw [e] at hk
      exact hk _ _ _ H_7 g_71 (o_75.ownS o4 o2)
theorem spec_CutCoded_ok : FnOk Try.prog 15 S_spec_CutCoded := by
  refine FnOk.body mix_ok E_spec_CutCoded_ok Try.func15 rfl (by kernel_rfl) (by kernel_rfl) ?_ ?_ ?_ ?_ ?_
  · intro args H K K' h hk
    simp only [S_spec_CutCoded] at *
    unfold F_spec_CutCoded at *
    split at hk
    · obtain ⟨l_c_Bits, i_c_Bits, bd_83, k⟩ := hk
      exact ⟨l_c_Bits, i_c_Bits, bd_83, (fun r1_Bits_a r1_Bits_n r1_Bits_e H' gg ow0 => h _ _ (k r1_Bits_a r1_Bits_n r1_Bits_e H' gg ow0))⟩
    · exact hk.elim
  · intro hq; cases hq
  · intro args H K hk
    simp only [S_spec_CutCoded] at *
    unfold F_spec_CutCoded at *
    split at hk
    · obtain ⟨l_c_Bits, i_c_Bits, bd_83, k⟩ := hk
      exact liveS fun a n e H1 g o => ⟨_, _, k a n e H1 g o⟩
    · exact hk.elim
  · intro _ args H K hk
    simp only [S_spec_CutCoded] at *
    unfold F_spec_CutCoded at *
    split at hk
    · obtain ⟨l_c_Bits, i_c_Bits, bd_83, k⟩ := hk
      exact ⟨l_c_Bits, i_c_Bits, bd_83, (fun r1_Bits_a r1_Bits_n r1_Bits_e H' gg ow0 => ⟨gg, k r1_Bits_a r1_Bits_n r1_Bits_e H' gg ow0⟩)⟩
    · exact hk.elim
  · have mm := @spec_CutCoded_main
    have ml := fun (args : List Value) (H : AHeap) (K : Value → AHeap → Prop) => bodyL_body (P := Try.prog) (env := E_spec_CutCoded ) (fn := Try.f15) (args := args) (H := H) (K := K) E_spec_CutCoded_ok 
    revert mm ml
    generalize bodyK Try.prog E_spec_CutCoded Try.f15 = Q
    generalize bodyL Try.prog E_spec_CutCoded Try.f15 = QL
    intro mm ml args H K hk
    simp only [S_spec_CutCoded] at *
    unfold F_spec_CutCoded at *
    split at hk
    · exact ml _ H K (mm _ _ _ _ _ _ H K hk)
    · exact hk.elim
def p_impl_within (n : Int) (low : Int) (high : Int) : Bool := (bif decide ((low : Int) ≤ n) then decide ((n : Int) ≤ high) else false)
def p_impl_within_eq := @p_impl_within.eq_1
def T_impl_within (n : Int) (low : Int) (high : Int) (H : AHeap) (K : Bool → AHeap → Prop) : Prop := K (p_impl_within n low high) H
theorem impl_within_t {n a b : Int} (h : p_impl_within n a b = true) : a ≤ n ∧ n ≤ b := by
  unfold p_impl_within at h
  by_cases h1 : a ≤ n
  · rw [decide_eq_true h1, cond_true] at h; exact ⟨h1, of_decide_eq_true h⟩
  · rw [decide_eq_false h1] at h; cases h
theorem T_impl_within_i {n : Int} {low : Int} {high : Int} {H : AHeap} {K : Bool → AHeap → Prop} (h : K (p_impl_within n low high) H) : T_impl_within n low high H K := h
/-! impl_within: function 96 -/
def E_impl_within : Env := envOf []
def F_impl_within : List Value → AHeap → (Value → AHeap → Prop) → Prop
  | [.int .i64 n, .int .i64 low, .int .i64 high], H, K => T_impl_within n low high H fun (r1 : Bool) (H' : AHeap) => K (.bool r1) H'
  | _, _, _ => False
def S_impl_within : FSpec := { F := F_impl_within, quiet := true, tame := false }
theorem impl_within_vc (n : Int) (low : Int) (high : Int) (H : AHeap) (K : Value → AHeap → Prop) : bodyL Try.prog E_impl_within Try.f96 [.int .i64 n, .int .i64 low, .int .i64 high] H K =
  (Br (decide ((low : Int) ≤ n)) (K (.bool (decide ((n : Int) ≤ high))) H) (K (.bool false) H)) := by kernel_rfl
theorem E_impl_within_ok : ∀ g, FnOk Try.prog g (E_impl_within g) := FnOk.envOf (by
  intro x hx; cases hx)
set_option maxHeartbeats 1000000 in
theorem impl_within_main (n : Int) (low : Int) (high : Int) (H : AHeap) (K : Value → AHeap → Prop) (h : T_impl_within n low high H fun (r1 : Bool) (H' : AHeap) => K (.bool r1) H') : bodyL Try.prog E_impl_within Try.f96 [.int .i64 n, .int .i64 low, .int .i64 high] H K := by
  rw [impl_within_vc]
  unfold T_impl_within p_impl_within at h
  repeat' (first | exact h | (exfalso; simp_all; done) | (refine ⟨by decide, ?_⟩) | (refine Br.intro (fun hb => ?_) (fun hb => ?_) <;> (try simp only [hb, cond_true, cond_false, Bool.not_true, Bool.not_false] at h)))
theorem impl_within_ok : FnOk Try.prog 96 S_impl_within := by
  refine FnOk.body mix_ok E_impl_within_ok Try.func96 rfl (by kernel_rfl) (by kernel_rfl) ?_ ?_ ?_ ?_ ?_
  · intro args H K K' h hk
    simp only [S_impl_within] at *
    unfold F_impl_within at *
    split at hk
    · have k := hk
      exact h _ _ k
    · exact hk.elim
  · intro _ args H K hk
    simp only [S_impl_within] at *
    unfold F_impl_within at *
    split at hk
    · have k := hk
      exact ⟨_, k, fun K' k' => k'⟩
    · exact hk.elim
  · intro args H K hk
    simp only [S_impl_within] at *
    unfold F_impl_within at *
    split at hk
    · have k := hk
      exact ⟨_, _, k⟩
    · exact hk.elim
  · intro hq; cases hq
  · have mm := @impl_within_main
    have ml := fun (args : List Value) (H : AHeap) (K : Value → AHeap → Prop) => bodyL_body (P := Try.prog) (env := E_impl_within ) (fn := Try.f96) (args := args) (H := H) (K := K) E_impl_within_ok 
    revert mm ml
    generalize bodyK Try.prog E_impl_within Try.f96 = Q
    generalize bodyL Try.prog E_impl_within Try.f96 = QL
    intro mm ml args H K hk
    simp only [S_impl_within] at *
    unfold F_impl_within at *
    split at hk
    · exact ml _ H K (mm _ _ _ H K hk)
    · exact hk.elim

def p_impl_ValidCoded (c_Count : Int) (c_Top : Int) (l_c_Bits : List Bool) : Bool := (bif (p_impl_within c_Count (1 : Int) (128 : Int)) then (bif (p_impl_within c_Top (0 : Int) (24 : Int)) then decide (((l_c_Bits.length : Int) : Int) ≤ 32768) else false) else false)
def p_impl_ValidCoded_eq := @p_impl_ValidCoded.eq_1
def T_impl_ValidCoded (c_Count : Int) (c_Top : Int) (c_Bits_a : Option Addr) (c_Bits_n : Nat) (c_Bits_e : Nat) (H : AHeap) (K : Bool → AHeap → Prop) : Prop := ∃ (l_c_Bits : List Bool), IsL fB H c_Bits_a c_Bits_n l_c_Bits ∧ l_c_Bits.length < 1073741824 ∧ ((∀ H' : AHeap, Grow H H' → K (p_impl_ValidCoded c_Count c_Top l_c_Bits) H'))
theorem T_impl_ValidCoded_i {c_Count : Int} {c_Top : Int} {c_Bits_a : Option Addr} {c_Bits_n : Nat} {c_Bits_e : Nat} {H : AHeap} {K : Bool → AHeap → Prop} (h : ∃ (l_c_Bits : List Bool), IsL fB H c_Bits_a c_Bits_n l_c_Bits ∧ l_c_Bits.length < 1073741824 ∧ ((∀ H' : AHeap, Grow H H' → K (p_impl_ValidCoded c_Count c_Top l_c_Bits) H'))) : T_impl_ValidCoded c_Count c_Top c_Bits_a c_Bits_n c_Bits_e H K := h

/-! impl_ValidCoded: function 95 -/
def E_impl_ValidCoded : Env := envOf [(96, S_impl_within)]
def F_impl_ValidCoded : List Value → AHeap → (Value → AHeap → Prop) → Prop
  | [.agg ⟨[.int .i64 c_Count, .int .i64 c_Top, .slice c_Bits_a c_Bits_n c_Bits_e]⟩], H, K => T_impl_ValidCoded c_Count c_Top c_Bits_a c_Bits_n c_Bits_e H fun (r1 : Bool) (H' : AHeap) => K (.bool r1) H'
  | _, _, _ => False
def S_impl_ValidCoded : FSpec := { F := F_impl_ValidCoded, quiet := false, tame := true }
theorem impl_ValidCoded_vc (c_Count : Int) (c_Top : Int) (c_Bits_a : Option Addr) (c_Bits_n : Nat) (c_Bits_e : Nat) (H : AHeap) (K : Value → AHeap → Prop) : bodyL Try.prog E_impl_ValidCoded Try.f95 [.agg #[.int .i64 c_Count, .int .i64 c_Top, .slice c_Bits_a c_Bits_n c_Bits_e]] H K =
  (Al [.int .i64 c_Count, .int .i64 c_Top, .slice c_Bits_a c_Bits_n c_Bits_e] H fun b1 H1 => ∃ x1 : Int,  rdC H1 b1 0 = some (.int .i64 x1) ∧ T_impl_within x1 1 128 H1 fun (r1 : Bool) (H2 : AHeap) => Br r1 (∃ x2 : Int,  rdC H2 b1 1 = some (.int .i64 x2) ∧ T_impl_within x2 0 24 H2 fun (r2 : Bool) (H3 : AHeap) => Br r2 (∃ x3_a : Option Addr, ∃ x3_n : Nat, ∃ x3_e : Nat,  rdC H3 b1 2 = some (.slice x3_a x3_n x3_e) ∧ K (.bool (decide (((x3_n : Int) : Int) ≤ 32768))) H3) (K (.bool false) H3)) (K (.bool false) H2)) := by kernel_rfl
theorem E_impl_ValidCoded_ok : ∀ g, FnOk Try.prog g (E_impl_ValidCoded g) := FnOk.envOf (by
  intro x hx
  simp only [List.mem_cons, List.not_mem_nil, or_false] at hx
  subst hx; exact impl_within_ok)
set_option maxHeartbeats 1000000 in
theorem impl_ValidCoded_main (c_Count : Int) (c_Top : Int) (c_Bits_a : Option Addr) (c_Bits_n : Nat) (c_Bits_e : Nat) (H : AHeap) (K : Value → AHeap → Prop) (h : T_impl_ValidCoded c_Count c_Top c_Bits_a c_Bits_n c_Bits_e H fun (r1 : Bool) (H' : AHeap) => K (.bool r1) H') : bodyL Try.prog E_impl_ValidCoded Try.f95 [.agg #[.int .i64 c_Count, .int .i64 c_Top, .slice c_Bits_a c_Bits_n c_Bits_e]] H K := by
  rw [impl_ValidCoded_vc]
  obtain ⟨l_c_Bits, i_c_Bits, bd_13, hk⟩ := h
  obtain rfl := i_c_Bits.eqn
  have e : (p_impl_ValidCoded c_Count c_Top l_c_Bits) = _ := rfl
  have e := e.trans (p_impl_ValidCoded_eq c_Count c_Top l_c_Bits)
  have g0 := Grow.refl H
  refine Al.intro (fun b_1 H_1 hb_2 hl_3 g_4 o_5 => ?_)
  have l_7 := g_4.1
  have g_8 := g0.trans g_4
  have l_9 := g_8.1
  have w_12 := o_5.lt
  refine ⟨c_Count, (o_5.rdC _).trans rfl, ?_⟩
  refine T_impl_within_i ?_
  refine Br.intro (fun c_10 => ?_) (fun c_10 => ?_)
  · have e := e.trans (cond_t c_10)
    have c_10' := impl_within_t c_10
    refine ⟨c_Top, (o_5.rdC _).trans rfl, ?_⟩
    refine T_impl_within_i ?_
    refine Br.intro (fun c_11 => ?_) (fun c_11 => ?_)
    · have e := e.trans (cond_t c_11)
      have c_11' := impl_within_t c_11
      refine ⟨c_Bits_a, l_c_Bits.length, c_Bits_e, (o_5.rdC _).trans rfl, ?_⟩
      rw [e] at hk
      exact hk  H_1 g_8 
    · have e := e.trans (cond_f c_11)
      rw [e] at hk
      exact hk  H_1 g_8 
  · have e := e.trans (cond_f c_10)
    rw [e] at hk
    exact hk  H_1 g_8 
theorem impl_ValidCoded_ok : FnOk Try.prog 95 S_impl_ValidCoded := by
  refine FnOk.body mix_ok E_impl_ValidCoded_ok Try.func95 rfl (by kernel_rfl) (by kernel_rfl) ?_ ?_ ?_ ?_ ?_
  · intro args H K K' h hk
    simp only [S_impl_ValidCoded] at *
    unfold F_impl_ValidCoded at *
    split at hk
    · obtain ⟨l_c_Bits, i_c_Bits, bd_13, k⟩ := hk
      exact ⟨l_c_Bits, i_c_Bits, bd_13, (fun  H' gg  => h _ _ (k  H' gg ))⟩
    · exact hk.elim
  · intro hq; cases hq
  · intro args H K hk
    simp only [S_impl_ValidCoded] at *
    unfold F_impl_ValidCoded at *
    split at hk
    · obtain ⟨l_c_Bits, i_c_Bits, bd_13, k⟩ := hk
      exact ⟨_, _, k H (Grow.refl H)⟩
    · exact hk.elim
  · intro _ args H K hk
    simp only [S_impl_ValidCoded] at *
    unfold F_impl_ValidCoded at *
    split at hk
    · obtain ⟨l_c_Bits, i_c_Bits, bd_13, k⟩ := hk
      exact ⟨l_c_Bits, i_c_Bits, bd_13, (fun  H' gg  => ⟨gg, k  H' gg ⟩)⟩
    · exact hk.elim
  · have mm := @impl_ValidCoded_main
    have ml := fun (args : List Value) (H : AHeap) (K : Value → AHeap → Prop) => bodyL_body (P := Try.prog) (env := E_impl_ValidCoded ) (fn := Try.f95) (args := args) (H := H) (K := K) E_impl_ValidCoded_ok 
    revert mm ml
    generalize bodyK Try.prog E_impl_ValidCoded Try.f95 = Q
    generalize bodyL Try.prog E_impl_ValidCoded Try.f95 = QL
    intro mm ml args H K hk
    simp only [S_impl_ValidCoded] at *
    unfold F_impl_ValidCoded at *
    split at hk
    · exact ml _ H K (mm _ _ _ _ _ H K hk)
    · exact hk.elim

def p_impl_CutCoded (c_Count : Int) (c_Top : Int) (l_c_Bits : List Bool) (count : Int) : Int × Int × (List Bool) × Bool := (bif !(p_impl_ValidCoded c_Count c_Top l_c_Bits) then ((0 : Int), (0 : Int), [], false) else (bif !((p_impl_within count (0 : Int) (l_c_Bits.length : Int))) then ((0 : Int), (0 : Int), [], false) else (c_Count, c_Top, (([] : List Bool) ++ (((l_c_Bits).drop (0 : Int).toNat).take ((count : Int) - 0).toNat)), true)))
def p_impl_CutCoded_eq := @p_impl_CutCoded.eq_1
def T_impl_CutCoded (c_Count : Int) (c_Top : Int) (c_Bits_a : Option Addr) (c_Bits_n : Nat) (c_Bits_e : Nat) (count : Int) (H : AHeap) (K : Int → Int → (Option Addr) → Nat → Nat → Bool → AHeap → Prop) : Prop := ∃ (l_c_Bits : List Bool), IsL fB H c_Bits_a c_Bits_n l_c_Bits ∧ l_c_Bits.length < 1073741824 ∧ ((∀ (r1_Bits_a : Option Addr) (r1_Bits_n r1_Bits_e : Nat), ∀ H' : AHeap, Grow H H' → OwnS fB H' H.length r1_Bits_a r1_Bits_n r1_Bits_e ((p_impl_CutCoded c_Count c_Top l_c_Bits count).2.2.1) → K ((p_impl_CutCoded c_Count c_Top l_c_Bits count).1) ((p_impl_CutCoded c_Count c_Top l_c_Bits count).2.1) r1_Bits_a r1_Bits_n r1_Bits_e ((p_impl_CutCoded c_Count c_Top l_c_Bits count).2.2.2) H'))
theorem T_impl_CutCoded_i {c_Count : Int} {c_Top : Int} {c_Bits_a : Option Addr} {c_Bits_n : Nat} {c_Bits_e : Nat} {count : Int} {H : AHeap} {K : Int → Int → (Option Addr) → Nat → Nat → Bool → AHeap → Prop} (h : ∃ (l_c_Bits : List Bool), IsL fB H c_Bits_a c_Bits_n l_c_Bits ∧ l_c_Bits.length < 1073741824 ∧ ((∀ (r1_Bits_a : Option Addr) (r1_Bits_n r1_Bits_e : Nat), ∀ H' : AHeap, Grow H H' → OwnS fB H' H.length r1_Bits_a r1_Bits_n r1_Bits_e ((p_impl_CutCoded c_Count c_Top l_c_Bits count).2.2.1) → K ((p_impl_CutCoded c_Count c_Top l_c_Bits count).1) ((p_impl_CutCoded c_Count c_Top l_c_Bits count).2.1) r1_Bits_a r1_Bits_n r1_Bits_e ((p_impl_CutCoded c_Count c_Top l_c_Bits count).2.2.2) H'))) : T_impl_CutCoded c_Count c_Top c_Bits_a c_Bits_n c_Bits_e count H K := h
theorem impl_CutCoded_len (a b : Int) (l : List Bool) (c : Int) : (p_impl_CutCoded a b l c).2.2.1.length ≤ l.length := by
  rw [p_impl_CutCoded_eq]
  cases !(p_impl_ValidCoded a b l)
  · cases !((p_impl_within c (0 : Int) (l.length : Int)))
    · show (([] : List Bool) ++ _).length ≤ _
      rw [List.nil_append, List.length_take, List.length_drop]; omega
    · exact Nat.zero_le _
  · exact Nat.zero_le _
/-! impl_CutCoded: function 17 -/
def E_impl_CutCoded : Env := envOf [(95, S_impl_ValidCoded), (96, S_impl_within)]
def F_impl_CutCoded : List Value → AHeap → (Value → AHeap → Prop) → Prop
  | [.agg ⟨[.int .i64 c_Count, .int .i64 c_Top, .slice c_Bits_a c_Bits_n c_Bits_e]⟩, .int .i64 count], H, K => T_impl_CutCoded c_Count c_Top c_Bits_a c_Bits_n c_Bits_e count H fun (r1_Count : Int) (r1_Top : Int) (r1_Bits_a : Option Addr) (r1_Bits_n : Nat) (r1_Bits_e : Nat) (r2 : Bool) (H' : AHeap) => K (.tuple #[.agg #[.int .i64 r1_Count, .int .i64 r1_Top, .slice r1_Bits_a r1_Bits_n r1_Bits_e], .bool r2]) H'
  | _, _, _ => False
def S_impl_CutCoded : FSpec := { F := F_impl_CutCoded, quiet := false, tame := true }
theorem impl_CutCoded_vc (c_Count : Int) (c_Top : Int) (c_Bits_a : Option Addr) (c_Bits_n : Nat) (c_Bits_e : Nat) (count : Int) (H : AHeap) (K : Value → AHeap → Prop) : bodyL Try.prog E_impl_CutCoded Try.f17 [.agg #[.int .i64 c_Count, .int .i64 c_Top, .slice c_Bits_a c_Bits_n c_Bits_e], .int .i64 count] H K =
  (Al [.int .i64 c_Count, .int .i64 c_Top, .slice c_Bits_a c_Bits_n c_Bits_e] H fun b1 H1 => Al [.int .i64 0, .int .i64 0, .slice none 0 0] H1 fun b2 H2 => ∃ c1 : Int, ∃ c2 : Int, ∃ c3_a : Option Addr, ∃ c3_n : Nat, ∃ c3_e : Nat,  rdN H2 b1 0 3 = some [.int .i64 c1, .int .i64 c2, .slice c3_a c3_n c3_e] ∧ T_impl_ValidCoded c1 c2 c3_a c3_n c3_e H2 fun (r1 : Bool) (H3 : AHeap) => Br (!r1) (isOwn H3 b2 ∧ (∃ l, rdN H3 b2 0 3 = some l) ∧ Lt (setN H3 b2 0 [.int .i64 0, .int .i64 0, .slice none 0 0]) fun H4 => ∃ c4 : Int, ∃ c5 : Int, ∃ c6_a : Option Addr, ∃ c6_n : Nat, ∃ c6_e : Nat,  rdN H4 b2 0 3 = some [.int .i64 c4, .int .i64 c5, .slice c6_a c6_n c6_e] ∧ K (.tuple #[.agg #[.int .i64 c4, .int .i64 c5, .slice c6_a c6_n c6_e], .bool false]) H4) (∃ x1_a : Option Addr, ∃ x1_n : Nat, ∃ x1_e : Nat,  rdC H3 b1 2 = some (.slice x1_a x1_n x1_e) ∧ T_impl_within count 0 (x1_n : Int) H3 fun (r2 : Bool) (H5 : AHeap) => Br (!r2) (isOwn H5 b2 ∧ (∃ l, rdN H5 b2 0 3 = some l) ∧ Lt (setN H5 b2 0 [.int .i64 0, .int .i64 0, .slice none 0 0]) fun H6 => ∃ c7 : Int, ∃ c8 : Int, ∃ c9_a : Option Addr, ∃ c9_n : Nat, ∃ c9_e : Nat,  rdN H6 b2 0 3 = some [.int .i64 c7, .int .i64 c8, .slice c9_a c9_n c9_e] ∧ K (.tuple #[.agg #[.int .i64 c7, .int .i64 c8, .slice c9_a c9_n c9_e], .bool false]) H6) (∃ x2_a : Option Addr, ∃ x2_n : Nat, ∃ x2_e : Nat,  rdC H5 b1 2 = some (.slice x2_a x2_n x2_e) ∧ ∃ x3 : Int,  rdC H5 b1 1 = some (.int .i64 x3) ∧ ∃ x4 : Int,  rdC H5 b1 0 = some (.int .i64 x4) ∧ Al [] H5 fun b3 H7 => (0 : Int) ≤ 0 ∧ 0 ≤ count ∧ count ≤ (x2_n : Int) ∧ ∃ o1 w1 : List Value, ownB H7 (some ⟨b3, 0, none⟩) 0 1 1 = some o1 ∧ rdS H7 ((x2_a : Option Addr).map fun a => ⟨a.block, a.off + (0 : Int).toNat * 1, none⟩) ((((count : Int) - 0).toNat) * 1) = some w1 ∧ ((some ⟨b3, 0, none⟩ : Option Addr) = none → 0 < (((count : Int) - 0).toNat : Nat)) ∧ (0 : Nat) + (((count : Int) - 0).toNat) < most ∧ Ap H7 (killB H7 (some ⟨b3, 0, none⟩) ++ [some ⟨o1 ++ w1, true⟩]) fun b4 H8 => isOwn H8 b2 ∧ (∃ l, rdN H8 b2 0 3 = some l) ∧ Lt (setN H8 b2 0 [.int .i64 x4, .int .i64 x3, .slice (some ⟨b4, 0, none⟩) (0 + (((count : Int) - 0).toNat)) 1]) fun H9 => ∃ c10 : Int, ∃ c11 : Int, ∃ c12_a : Option Addr, ∃ c12_n : Nat, ∃ c12_e : Nat,  rdN H9 b2 0 3 = some [.int .i64 c10, .int .i64 c11, .slice c12_a c12_n c12_e] ∧ K (.tuple #[.agg #[.int .i64 c10, .int .i64 c11, .slice c12_a c12_n c12_e], .bool true]) H9))) := by kernel_rfl
theorem E_impl_CutCoded_ok : ∀ g, FnOk Try.prog g (E_impl_CutCoded g) := FnOk.envOf (by
  intro x hx
  simp only [List.mem_cons, List.not_mem_nil, or_false] at hx
  rcases hx with rfl | rfl
  · exact impl_ValidCoded_ok
  · exact impl_within_ok)
set_option maxHeartbeats 1000000 in
theorem impl_CutCoded_main (c_Count : Int) (c_Top : Int) (c_Bits_a : Option Addr) (c_Bits_n : Nat) (c_Bits_e : Nat) (count : Int) (H : AHeap) (K : Value → AHeap → Prop) (h : T_impl_CutCoded c_Count c_Top c_Bits_a c_Bits_n c_Bits_e count H fun (r1_Count : Int) (r1_Top : Int) (r1_Bits_a : Option Addr) (r1_Bits_n : Nat) (r1_Bits_e : Nat) (r2 : Bool) (H' : AHeap) => K (.tuple #[.agg #[.int .i64 r1_Count, .int .i64 r1_Top, .slice r1_Bits_a r1_Bits_n r1_Bits_e], .bool r2]) H') : bodyL Try.prog E_impl_CutCoded Try.f17 [.agg #[.int .i64 c_Count, .int .i64 c_Top, .slice c_Bits_a c_Bits_n c_Bits_e], .int .i64 count] H K := by
  rw [impl_CutCoded_vc]
  obtain ⟨l_c_Bits, i_c_Bits, bd_91, hk⟩ := h
  obtain rfl := i_c_Bits.eqn
  have e : (p_impl_CutCoded c_Count c_Top l_c_Bits count) = _ := rfl
  have e := e.trans (p_impl_CutCoded_eq c_Count c_Top l_c_Bits count)
  have g0 := Grow.refl H
  refine Al.intro (fun b_1 H_1 hb_2 hl_3 g_4 o_5 => ?_)
  have l_7 := g_4.1
  have g_8 := g0.trans g_4
  have l_9 := g_8.1
  have w_90 := o_5.lt
  refine Al.intro (fun b_10 H_2 hb_11 hl_12 g_13 o_14 => ?_)
  have l_16 := g_13.1
  have g_17 := g_8.trans g_13
  have l_18 := g_17.1
  have o_19 := o_5.grow g_13
  have w_20 := o_19.lt
  have w_89 := o_14.lt
  refine ⟨c_Count, c_Top, c_Bits_a, l_c_Bits.length, c_Bits_e, (o_19.rdN (Nat.le_of_ble_eq_true rfl)).trans rfl, ?_⟩
  refine T_impl_ValidCoded_i ⟨_, (i_c_Bits.grow g_17), o0, fun  H_3 g_21  => ?_⟩
  have l_22 := g_21.1
  have g_23 := g_17.trans g_21
  have l_24 := g_23.1
  have o_25 := o_19.grow g_21
  have w_26 := o_25.lt
  have o_27 := o_14.grow g_21
  have w_28 := o_27.lt
  refine Br.intro (fun c_29 => ?_) (fun c_29 => ?_)
  · have e := e.trans (cond_t c_29)
    have c_29n := nf_of_t c_29
    refine Lt.setN (n := 3) o_27 (Nat.le_of_ble_eq_true rfl) rfl (fun H_4 hl_30 o_32 k_31 => ?_)
    have o_32 : Own H_4 b_10 [.int .i64 0, .int .i64 0, .slice none 0 0] := o_32
    have l_33 := k_31.1
    have g_34 := g_23.keep (b := b_10) o2 k_31
    have l_35 := g_34.1
    have o_36 := o_25.keep o2 k_31
    have w_37 := o_36.lt
    have w_38 := o_32.lt
    refine ⟨0, 0, none, 0, 0, (o_32.rdN (Nat.le_of_ble_eq_true rfl)).trans rfl, ?_⟩
    rw [e] at hk
    exact hk _ _ _ H_4 g_34 o6
  · have e := e.trans (cond_f c_29)
    have c_29n := nt_of_f c_29
    refine ⟨c_Bits_a, l_c_Bits.length, c_Bits_e, (o_25.rdC _).trans rfl, ?_⟩
    refine T_impl_within_i ?_
    refine Br.intro (fun c_39 => ?_) (fun c_39 => ?_)
    · have e := e.trans (cond_t c_39)
      have c_39n := nf_of_t c_39
      refine Lt.setN (n := 3) o_27 (Nat.le_of_ble_eq_true rfl) rfl (fun H_5 hl_40 o_42 k_41 => ?_)
      have o_42 : Own H_5 b_10 [.int .i64 0, .int .i64 0, .slice none 0 0] := o_42
      have l_43 := k_41.1
      have g_44 := g_23.keep (b := b_10) o2 k_41
      have l_45 := g_44.1
      have o_46 := o_25.keep o2 k_41
      have w_47 := o_46.lt
      have w_48 := o_42.lt
      refine ⟨0, 0, none, 0, 0, (o_42.rdN (Nat.le_of_ble_eq_true rfl)).trans rfl, ?_⟩
      rw [e] at hk
      exact hk _ _ _ H_5 g_44 o6
    · have e := e.trans (cond_f c_39)
      have c_39n := nt_of_f c_39
      have c_39n' := impl_within_t c_39n
      refine ⟨c_Bits_a, l_c_Bits.length, c_Bits_e, (o_25.rdC _).trans rfl, ?_⟩
      refine ⟨c_Top, (o_25.rdC _).trans rfl, ?_⟩
      refine ⟨c_Count, (o_25.rdC _).trans rfl, ?_⟩
      refine Al.intro (fun b_49 H_6 hb_50 hl_51 g_52 o_53 => ?_)
      have o_53 : Own H_6 b_49 ((([] : List Bool)).map fB) := o_53
      have l_55 := g_52.1
      have g_56 := g_23.trans g_52
      have l_57 := g_56.1
      have o_58 := o_25.grow g_52
      have w_59 := o_58.lt
      have o_60 := o_27.grow g_52
      have w_61 := o_60.lt
      have w_88 := o_53.lt
      refine ⟨by omega, by omega, by omega, ?_⟩
      have i_62 := sub_isl i_c_Bits (lo := 0) (hi := count) o2 o2 o2
      refine ⟨_, _, o_53.ownB o3 rfl, (isl_rdS (i_62.grow g_56)), (fun h => by cases h), (by have := most_eq; omega), ?_⟩
      refine Ap.app o_53 rfl rfl (fun b_67 H_7 q_86 hl_63 o_64 k_65 => ?_)
      have o_64 := map_snoc o_64
      have l_68 := k_65.1
      have g_69 := g_56.keep (b := b_49) o2 k_65
      have l_70 := g_69.1
      have o_71 := o_58.keep o2 k_65
      have w_72 := o_71.lt
      have o_73 := o_60.keep o2 k_65
      have w_74 := o_73.lt
      have w_87 := o_64.lt
      refine Lt.setN (n := 3) o_73 (Nat.le_of_ble_eq_true rfl) rfl (fun H_8 hl_75 o_77 k_76 => ?_)
      have o_77 : Own H_8 b_10 [.int .i64 c_Count, .int .i64 c_Top, .slice (some ⟨b_67, 0, none⟩) (0 + (((count : Int) - 0).toNat)) 1] := o_77
      have l_78 := k_76.1
      have g_79 := g_69.keep (b := b_10) o2 k_76
      have l_80 := g_79.1
      have o_81 := o_71.keep o2 k_76
      have w_82 := o_81.lt
      have o_83 := o_64.keep o2 k_76
      have w_84 := o_83.lt
      have w_85 := o_77.lt
      refine ⟨c_Count, c_Top, some ⟨b_67, 0, none⟩, 0 + (((count : Int) - 0).toNat), 1, (o_77.rdN (Nat.le_of_ble_eq_true rfl)).trans rfl, ?_⟩
      rw [e] at hk
      exact hk _ _ _ H_8 g_79 (o_83.ownS o4 o2)
theorem impl_CutCoded_ok : FnOk Try.prog 17 S_impl_CutCoded := by
  refine FnOk.body mix_ok E_impl_CutCoded_ok Try.func17 rfl (by kernel_rfl) (by kernel_rfl) ?_ ?_ ?_ ?_ ?_
  · intro args H K K' h hk
    simp only [S_impl_CutCoded] at *
    unfold F_impl_CutCoded at *
    split at hk
    · obtain ⟨l_c_Bits, i_c_Bits, bd_91, k⟩ := hk
      exact ⟨l_c_Bits, i_c_Bits, bd_91, (fun r1_Bits_a r1_Bits_n r1_Bits_e H' gg ow0 => h _ _ (k r1_Bits_a r1_Bits_n r1_Bits_e H' gg ow0))⟩
    · exact hk.elim
  · intro hq; cases hq
  · intro args H K hk
    simp only [S_impl_CutCoded] at *
    unfold F_impl_CutCoded at *
    split at hk
    · obtain ⟨l_c_Bits, i_c_Bits, bd_91, k⟩ := hk
      exact liveS fun a n e H1 g o => ⟨_, _, k a n e H1 g o⟩
    · exact hk.elim
  · intro _ args H K hk
    simp only [S_impl_CutCoded] at *
    unfold F_impl_CutCoded at *
    split at hk
    · obtain ⟨l_c_Bits, i_c_Bits, bd_91, k⟩ := hk
      exact ⟨l_c_Bits, i_c_Bits, bd_91, (fun r1_Bits_a r1_Bits_n r1_Bits_e H' gg ow0 => ⟨gg, k r1_Bits_a r1_Bits_n r1_Bits_e H' gg ow0⟩)⟩
    · exact hk.elim
  · have mm := @impl_CutCoded_main
    have ml := fun (args : List Value) (H : AHeap) (K : Value → AHeap → Prop) => bodyL_body (P := Try.prog) (env := E_impl_CutCoded ) (fn := Try.f17) (args := args) (H := H) (K := K) E_impl_CutCoded_ok 
    revert mm ml
    generalize bodyK Try.prog E_impl_CutCoded Try.f17 = Q
    generalize bodyL Try.prog E_impl_CutCoded Try.f17 = QL
    intro mm ml args H K hk
    simp only [S_impl_CutCoded] at *
    unfold F_impl_CutCoded at *
    split at hk
    · exact ml _ H K (mm _ _ _ _ _ _ H K hk)
    · exact hk.elim

def p_laws_eqBoolS_l1 (l_a : List Bool) (l_b : List Bool) : Nat → Bool → Int → Bool
  | 0, _, _ => false
  | μ + 1, t4, i => (bif decide ((i : Int) < (l_a.length : Int)) then (bif !((((l_a).getD (i : Int).toNat false)) == (((l_b).getD (i : Int).toNat false))) then false else (p_laws_eqBoolS_l1 l_a l_b μ t4 (i + 1))) else true)
def p_laws_eqBoolS_l1_s := fun l_a l_b μ t4 i => @p_laws_eqBoolS_l1.eq_2 l_a l_b t4 i μ
def p_laws_eqBoolS (l_a : List Bool) (l_b : List Bool) : Bool := ((bif ((l_a.length : Int) : Int) != (l_b.length : Int) then false else (p_laws_eqBoolS_l1 l_a l_b (Int.toNat ((l_a.length : Int) - (0 : Int)) + 1) false (0 : Int))))
def p_laws_eqBoolS_eq := @p_laws_eqBoolS.eq_1
def T_laws_eqBoolS (a_a : Option Addr) (a_n : Nat) (a_e : Nat) (b_a : Option Addr) (b_n : Nat) (b_e : Nat) (H : AHeap) (K : Bool → AHeap → Prop) : Prop := ∃ (l_a : List Bool), ∃ (l_b : List Bool), IsL fB H a_a a_n l_a ∧ IsL fB H b_a b_n l_b ∧ l_a.length < 1073741824 ∧ l_b.length < 1073741824 ∧ K (p_laws_eqBoolS l_a l_b) H
theorem T_laws_eqBoolS_i {a_a : Option Addr} {a_n : Nat} {a_e : Nat} {b_a : Option Addr} {b_n : Nat} {b_e : Nat} {H : AHeap} {K : Bool → AHeap → Prop} (h : ∃ (l_a : List Bool), ∃ (l_b : List Bool), IsL fB H a_a a_n l_a ∧ IsL fB H b_a b_n l_b ∧ l_a.length < 1073741824 ∧ l_b.length < 1073741824 ∧ K (p_laws_eqBoolS l_a l_b) H) : T_laws_eqBoolS a_a a_n a_e b_a b_n b_e H K := h
theorem laws_eqBoolS_go (l : List Bool) : ∀ (μ : Nat) (t : Bool) (i : Nat), l.length - i < μ → p_laws_eqBoolS_l1 l l μ t (i : Int) = true := by
  intro μ
  induction μ with
  | zero => intro t i h; omega
  | succ μ ih =>
    intro t i hm
    rw [p_laws_eqBoolS_l1_s]
    by_cases h : i < l.length
    · rw [decide_eq_true (show (i : Int) < (l.length : Int) by omega), cond_true]
      simp only [BEq.rfl, Bool.not_true, cond_false]
      exact ih t (i + 1) o2
    · rw [decide_eq_false (show ¬ (i : Int) < (l.length : Int) by omega), cond_false]
theorem laws_eqBoolS_self (l : List Bool) : p_laws_eqBoolS l l = true := by
  rw [p_laws_eqBoolS_eq]
  have h0 : ((l.length : Int) != (l.length : Int)) = false := by simp
  rw [h0, cond_false]
  exact laws_eqBoolS_go l _ false 0 o2
/-! laws_eqBoolS: function 97 -/
def E_laws_eqBoolS : Env := envOf []
def F_laws_eqBoolS : List Value → AHeap → (Value → AHeap → Prop) → Prop
  | [.slice a_a a_n a_e, .slice b_a b_n b_e], H, K => T_laws_eqBoolS a_a a_n a_e b_a b_n b_e H fun (r1 : Bool) (H' : AHeap) => K (.bool r1) H'
  | _, _, _ => False
def S_laws_eqBoolS : FSpec := { F := F_laws_eqBoolS, quiet := true, tame := false }
theorem laws_eqBoolS_vc (a_a : Option Addr) (a_n : Nat) (a_e : Nat) (b_a : Option Addr) (b_n : Nat) (b_e : Nat) (H : AHeap) (K : Value → AHeap → Prop) : bodyL Try.prog E_laws_eqBoolS Try.f97 [.slice a_a a_n a_e, .slice b_a b_n b_e] H K =
  (Br (((a_n : Int) : Int) != (b_n : Int)) (K (.bool false) H) (loopK (exL Try.prog E_laws_eqBoolS (cl (cl (cr (cl (cr (cr (bodyC Try.f97))))))) 35 16 [(0, 0)]) [.slice a_a a_n a_e, .slice b_a b_n b_e, ud, ud, ud, .int .i64 0, ud, ud, ud, ud, ud, ud, ud, ud, ud, ud, ud, ud, ud, ud, ud, ud, ud, ud, ud, ud] H (blockQ 0 (seqQ (exL Try.prog E_laws_eqBoolS (cr (cr (cr (bodyC Try.f97)))) 16 16 []) (retK Try.prog Try.f97 K))))) := by kernel_rfl
abbrev laws_eqBoolS_P1 (a_a : Option Addr) (a_e : Nat) (a_n : Nat) (b_a : Option Addr) (b_e : Nat) (b_n : Nat) (i : Int)  : List Value := [.slice a_a a_n a_e, .slice b_a b_n b_e, ud, ud, ud, .int .i64 i, ud, ud, ud, ud, ud, ud, ud, ud, ud, ud, ud, ud, ud, ud, ud, ud, ud, ud, ud, ud]
theorem laws_eqBoolS_r1 (a_a : Option Addr) (a_e : Nat) (a_n : Nat) (b_a : Option Addr) (b_e : Nat) (b_n : Nat) (i : Int)  (H : AHeap) (R : Post) : exL Try.prog E_laws_eqBoolS (cl (cl (cr (cl (cr (cr (bodyC Try.f97))))))) 35 16 [(0, 0)] (laws_eqBoolS_P1 a_a a_e a_n b_a b_e b_n i) H R =
  (Br (decide ((i : Int) < (a_n : Int))) ((0 : Int) ≤ i ∧ i < (a_n : Int) ∧ ∃ b1 f1, (a_a : Option Addr) = some ⟨b1, f1, none⟩ ∧ ∃ x1 : Bool,  rdC H b1 (f1 + (i : Int).toNat * 1) = some (.bool x1) ∧ (0 : Int) ≤ i ∧ i < (b_n : Int) ∧ ∃ b2 f2, (b_a : Option Addr) = some ⟨b2, f2, none⟩ ∧ ∃ x2 : Bool,  rdC H b2 (f2 + (i : Int).toNat * 1) = some (.bool x2) ∧ Br (!(x1 == x2)) (R .ret [ud, ud, ud, ud, .bool false, ud, ud, ud, ud, ud, ud, ud, ud, ud, ud, ud, ud, ud, ud, ud, ud, ud, ud, ud, ud, ud] H) (R .normal [.slice a_a a_n a_e, .slice b_a b_n b_e, ud, ud, ud, .int .i64 (IntKind.wrap .i64 (i + 1)), ud, ud, ud, ud, ud, ud, ud, ud, ud, ud, ud, ud, ud, ud, ud, ud, ud, ud, ud, ud] H)) (R (.exit 0) [ud, ud, ud, ud, ud, ud, ud, ud, ud, ud, ud, ud, ud, ud, ud, ud, ud, ud, ud, ud, ud, ud, ud, ud, ud, ud] H)) := by kernel_rfl
def laws_eqBoolS_I1 (a_a : Option Addr) (a_e : Nat) (a_n : Nat) (b_a : Option Addr) (b_e : Nat) (b_n : Nat) (Inv : Nat → Int → AHeap → Prop) : Nat → List Value → AHeap → Prop := fun μ tm H => ∃ (i : Int), tm = (laws_eqBoolS_P1 a_a a_e a_n b_a b_e b_n i) ∧ Inv μ i H
theorem laws_eqBoolS_L1 (a_a : Option Addr) (a_e : Nat) (a_n : Nat) (b_a : Option Addr) (b_e : Nat) (b_n : Nat) {Q : Post} (Inv : Nat → Int → AHeap → Prop) (ν : Nat) (i : Int)  (H : AHeap) (h0 : Inv ν i H)
    (hs : ∀ (μ : Nat) (i : Int)  (H : AHeap), Inv μ i H → exL Try.prog E_laws_eqBoolS (cl (cl (cr (cl (cr (cr (bodyC Try.f97))))))) 35 16 [(0, 0)] (laws_eqBoolS_P1 a_a a_e a_n b_a b_e b_n i) H (loopQ (laws_eqBoolS_I1 a_a a_e a_n b_a b_e b_n Inv) μ Q)) : loopK (exL Try.prog E_laws_eqBoolS (cl (cl (cr (cl (cr (cr (bodyC Try.f97))))))) 35 16 [(0, 0)]) (laws_eqBoolS_P1 a_a a_e a_n b_a b_e b_n i) H Q :=
  ⟨laws_eqBoolS_I1 a_a a_e a_n b_a b_e b_n Inv, ν, ⟨i, rfl, h0⟩, fun μ tm H h => by obtain ⟨i, rfl, hI⟩ := h; exact hs μ i  H hI⟩
theorem laws_eqBoolS_n1 {a_a : Option Addr} {a_e : Nat} {a_n : Nat} {b_a : Option Addr} {b_e : Nat} {b_n : Nat} {Q : Post} {Inv : Nat → Int → AHeap → Prop} {μ : Nat} (μ' : Nat) {i : Int}  {H : AHeap} (hm : μ' < μ) (hI : Inv μ' i H) : loopQ (laws_eqBoolS_I1 a_a a_e a_n b_a b_e b_n Inv) μ Q .normal (laws_eqBoolS_P1 a_a a_e a_n b_a b_e b_n i) H := ⟨μ', hm, i, rfl, hI⟩
theorem laws_eqBoolS_x1_0  (H : AHeap) (K : Value → AHeap → Prop)  {I : Nat → List Value → AHeap → Prop} {μ : Nat} : loopQ I μ (blockQ 0 (seqQ (exL Try.prog E_laws_eqBoolS (cr (cr (cr (bodyC Try.f97)))) 16 16 []) (retK Try.prog Try.f97 K))) (.exit 0) [ud, ud, ud, ud, ud, ud, ud, ud, ud, ud, ud, ud, ud, ud, ud, ud, ud, ud, ud, ud, ud, ud, ud, ud, ud, ud] H =
  (K (.bool true) H) := by kernel_rfl
theorem laws_eqBoolS_x1_ret (t4 : Bool) (H : AHeap) (K : Value → AHeap → Prop)  {I : Nat → List Value → AHeap → Prop} {μ : Nat} : loopQ I μ (blockQ 0 (seqQ (exL Try.prog E_laws_eqBoolS (cr (cr (cr (bodyC Try.f97)))) 16 16 []) (retK Try.prog Try.f97 K))) .ret [ud, ud, ud, ud, .bool t4, ud, ud, ud, ud, ud, ud, ud, ud, ud, ud, ud, ud, ud, ud, ud, ud, ud, ud, ud, ud, ud] H =
  (K (.bool t4) H) := by kernel_rfl
theorem E_laws_eqBoolS_ok : ∀ g, FnOk Try.prog g (E_laws_eqBoolS g) := FnOk.envOf (by
  intro x hx; cases hx)
set_option maxHeartbeats 1000000 in
theorem laws_eqBoolS_main (a_a : Option Addr) (a_n : Nat) (a_e : Nat) (b_a : Option Addr) (b_n : Nat) (b_e : Nat) (H : AHeap) (K : Value → AHeap → Prop) (h : T_laws_eqBoolS a_a a_n a_e b_a b_n b_e H fun (r1 : Bool) (H' : AHeap) => K (.bool r1) H') : bodyL Try.prog E_laws_eqBoolS Try.f97 [.slice a_a a_n a_e, .slice b_a b_n b_e] H K := by
  rw [laws_eqBoolS_vc]
  obtain ⟨l_a, l_b, i_a, i_b, bd_13, bd_14, hk⟩ := h
  obtain rfl := i_a.eqn
  obtain rfl := i_b.eqn
  have e : (p_laws_eqBoolS l_a l_b) = _ := rfl
  have e := e.trans (p_laws_eqBoolS_eq l_a l_b)
  have g0 := Grow.refl H
  refine Br.intro (fun c_1 => ?_) (fun c_1 => ?_)
  · have e := e.trans (cond_t c_1)
    have c_1' := ine_t c_1
    rw [e] at hk
    exact hk
  · have e := e.trans (cond_f c_1)
    have c_1' := ine_f c_1
    refine laws_eqBoolS_L1 _ _ _ _ _ _ (fun (μ : Nat) (i : Int) (H_1 : AHeap) => ∃ (t4 : Bool), H = H_1 ∧ (0 : Int) ≤ i ∧ i ≤ (l_a.length : Int) ∧ (l_a.length : Int) - i ≤ (μ : Int) ∧ p_laws_eqBoolS l_a l_b = p_laws_eqBoolS_l1 l_a l_b (μ + 1) t4 i) (Int.toNat ((l_a.length : Int) - (0 : Int))) _ H ?_ ?_
    · exact ⟨_, rfl, o5, o5, o2, e⟩
    · intro μ i  H_1 hI
      obtain ⟨t4, rfl, v_2, v_3, hμ, e⟩ := hI
      rw [laws_eqBoolS_r1]
      have e := e.trans (p_laws_eqBoolS_l1_s l_a l_b μ t4 i)
      have l_4 := g0.1
      refine Br.intro (fun c_5 => ?_) (fun c_5 => ?_)
      · have e := e.trans (cond_t c_5)
        have c_5' := of_decide_eq_true c_5
        obtain ⟨b_6, f_7, q_8⟩ := ((i_a.grow g0)).pos o0
        refine ⟨by omega, by omega, b_6, f_7, q_8, ?_⟩
        refine ⟨((l_a).getD (i : Int).toNat false), (i_a).rd g0 q_8 o2 _, ?_⟩
        obtain ⟨b_9, f_10, q_11⟩ := ((i_b.grow g0)).pos o0
        refine ⟨by omega, by omega, b_9, f_10, q_11, ?_⟩
        refine ⟨((l_b).getD (i : Int).toNat false), (i_b).rd g0 q_11 o2 _, ?_⟩
        refine Br.intro (fun c_12 => ?_) (fun c_12 => ?_)
        · have e := e.trans (cond_t c_12)
          have c_12n := nf_of_t c_12
          rw [laws_eqBoolS_x1_ret]
          rw [e] at hk
          exact hk
        · have e := e.trans (cond_f c_12)
          have c_12n := nt_of_f c_12
          rw [show IntKind.wrap .i64 (i + 1) = (i + 1) from wrap64 o2 o2]
          refine laws_eqBoolS_n1 (μ - 1) o8 ⟨_, rfl, o1, o1, o8, (by rw [show μ - 1 + 1 = μ from by first | omega]; exact e)⟩
      · have e := e.trans (cond_f c_5)
        have c_5' := of_decide_eq_false c_5
        rw [laws_eqBoolS_x1_0]
        rw [e] at hk
        exact hk
theorem laws_eqBoolS_ok : FnOk Try.prog 97 S_laws_eqBoolS := by
  refine FnOk.body mix_ok E_laws_eqBoolS_ok Try.func97 rfl (by kernel_rfl) (by kernel_rfl) ?_ ?_ ?_ ?_ ?_
  · intro args H K K' h hk
    simp only [S_laws_eqBoolS] at *
    unfold F_laws_eqBoolS at *
    split at hk
    · obtain ⟨l_a, l_b, i_a, i_b, bd_13, bd_14, k⟩ := hk
      exact ⟨l_a, l_b, i_a, i_b, bd_13, bd_14, h _ _ k⟩
    · exact hk.elim
  · intro _ args H K hk
    simp only [S_laws_eqBoolS] at *
    unfold F_laws_eqBoolS at *
    split at hk
    · obtain ⟨l_a, l_b, i_a, i_b, bd_13, bd_14, k⟩ := hk
      exact ⟨_, k, fun K' k' => ⟨l_a, l_b, i_a, i_b, bd_13, bd_14, k'⟩⟩
    · exact hk.elim
  · intro args H K hk
    simp only [S_laws_eqBoolS] at *
    unfold F_laws_eqBoolS at *
    split at hk
    · obtain ⟨l_a, l_b, i_a, i_b, bd_13, bd_14, k⟩ := hk
      exact ⟨_, _, k⟩
    · exact hk.elim
  · intro hq; cases hq
  · have mm := @laws_eqBoolS_main
    have ml := fun (args : List Value) (H : AHeap) (K : Value → AHeap → Prop) => bodyL_body (P := Try.prog) (env := E_laws_eqBoolS ) (fn := Try.f97) (args := args) (H := H) (K := K) E_laws_eqBoolS_ok 
    revert mm ml
    generalize bodyK Try.prog E_laws_eqBoolS Try.f97 = Q
    generalize bodyL Try.prog E_laws_eqBoolS Try.f97 = QL
    intro mm ml args H K hk
    simp only [S_laws_eqBoolS] at *
    unfold F_laws_eqBoolS at *
    split at hk
    · exact ml _ H K (mm _ _ _ _ _ _ H K hk)
    · exact hk.elim

def p_laws_eqCoded (a_Count : Int) (a_Top : Int) (l_a_Bits : List Bool) (b_Count : Int) (b_Top : Int) (l_b_Bits : List Bool) : Bool := ((bif (a_Count : Int) != b_Count then false else (bif (a_Top : Int) != b_Top then false else (bif !(p_laws_eqBoolS l_a_Bits l_b_Bits) then false else true))))
def p_laws_eqCoded_eq := @p_laws_eqCoded.eq_1
def T_laws_eqCoded (a_Count : Int) (a_Top : Int) (a_Bits_a : Option Addr) (a_Bits_n : Nat) (a_Bits_e : Nat) (b_Count : Int) (b_Top : Int) (b_Bits_a : Option Addr) (b_Bits_n : Nat) (b_Bits_e : Nat) (H : AHeap) (K : Bool → AHeap → Prop) : Prop := ∃ (l_a_Bits : List Bool), ∃ (l_b_Bits : List Bool), IsL fB H a_Bits_a a_Bits_n l_a_Bits ∧ IsL fB H b_Bits_a b_Bits_n l_b_Bits ∧ l_a_Bits.length < 1073741824 ∧ l_b_Bits.length < 1073741824 ∧ ((∀ H' : AHeap, Grow H H' → K (p_laws_eqCoded a_Count a_Top l_a_Bits b_Count b_Top l_b_Bits) H'))
theorem T_laws_eqCoded_i {a_Count : Int} {a_Top : Int} {a_Bits_a : Option Addr} {a_Bits_n : Nat} {a_Bits_e : Nat} {b_Count : Int} {b_Top : Int} {b_Bits_a : Option Addr} {b_Bits_n : Nat} {b_Bits_e : Nat} {H : AHeap} {K : Bool → AHeap → Prop} (h : ∃ (l_a_Bits : List Bool), ∃ (l_b_Bits : List Bool), IsL fB H a_Bits_a a_Bits_n l_a_Bits ∧ IsL fB H b_Bits_a b_Bits_n l_b_Bits ∧ l_a_Bits.length < 1073741824 ∧ l_b_Bits.length < 1073741824 ∧ ((∀ H' : AHeap, Grow H H' → K (p_laws_eqCoded a_Count a_Top l_a_Bits b_Count b_Top l_b_Bits) H'))) : T_laws_eqCoded a_Count a_Top a_Bits_a a_Bits_n a_Bits_e b_Count b_Top b_Bits_a b_Bits_n b_Bits_e H K := h
theorem laws_eqCoded_self (a b : Int) (l : List Bool) : p_laws_eqCoded a b l a b l = true := by
  rw [p_laws_eqCoded_eq, laws_eqBoolS_self]
  simp
/-! laws_eqCoded: function 18 -/
def E_laws_eqCoded : Env := envOf [(97, S_laws_eqBoolS)]
def F_laws_eqCoded : List Value → AHeap → (Value → AHeap → Prop) → Prop
  | [.agg ⟨[.int .i64 a_Count, .int .i64 a_Top, .slice a_Bits_a a_Bits_n a_Bits_e]⟩, .agg ⟨[.int .i64 b_Count, .int .i64 b_Top, .slice b_Bits_a b_Bits_n b_Bits_e]⟩], H, K => T_laws_eqCoded a_Count a_Top a_Bits_a a_Bits_n a_Bits_e b_Count b_Top b_Bits_a b_Bits_n b_Bits_e H fun (r1 : Bool) (H' : AHeap) => K (.bool r1) H'
  | _, _, _ => False
def S_laws_eqCoded : FSpec := { F := F_laws_eqCoded, quiet := false, tame := true }
theorem laws_eqCoded_vc (a_Count : Int) (a_Top : Int) (a_Bits_a : Option Addr) (a_Bits_n : Nat) (a_Bits_e : Nat) (b_Count : Int) (b_Top : Int) (b_Bits_a : Option Addr) (b_Bits_n : Nat) (b_Bits_e : Nat) (H : AHeap) (K : Value → AHeap → Prop) : bodyL Try.prog E_laws_eqCoded Try.f18 [.agg #[.int .i64 a_Count, .int .i64 a_Top, .slice a_Bits_a a_Bits_n a_Bits_e], .agg #[.int .i64 b_Count, .int .i64 b_Top, .slice b_Bits_a b_Bits_n b_Bits_e]] H K =
  (Al [.int .i64 a_Count, .int .i64 a_Top, .slice a_Bits_a a_Bits_n a_Bits_e] H fun b1 H1 => Al [.int .i64 b_Count, .int .i64 b_Top, .slice b_Bits_a b_Bits_n b_Bits_e] H1 fun b2 H2 => ∃ x1 : Int,  rdC H2 b1 0 = some (.int .i64 x1) ∧ ∃ x2 : Int,  rdC H2 b2 0 = some (.int .i64 x2) ∧ Br ((x1 : Int) != x2) (K (.bool false) H2) (∃ x3 : Int,  rdC H2 b1 1 = some (.int .i64 x3) ∧ ∃ x4 : Int,  rdC H2 b2 1 = some (.int .i64 x4) ∧ Br ((x3 : Int) != x4) (K (.bool false) H2) (∃ x5_a : Option Addr, ∃ x5_n : Nat, ∃ x5_e : Nat,  rdC H2 b1 2 = some (.slice x5_a x5_n x5_e) ∧ ∃ x6_a : Option Addr, ∃ x6_n : Nat, ∃ x6_e : Nat,  rdC H2 b2 2 = some (.slice x6_a x6_n x6_e) ∧ T_laws_eqBoolS x5_a x5_n x5_e x6_a x6_n x6_e H2 fun (r1 : Bool) (H3 : AHeap) => Br (!r1) (K (.bool false) H3) (K (.bool true) H3)))) := by kernel_rfl
theorem E_laws_eqCoded_ok : ∀ g, FnOk Try.prog g (E_laws_eqCoded g) := FnOk.envOf (by
  intro x hx
  simp only [List.mem_cons, List.not_mem_nil, or_false] at hx
  subst hx; exact laws_eqBoolS_ok)
set_option maxHeartbeats 1000000 in
theorem laws_eqCoded_main (a_Count : Int) (a_Top : Int) (a_Bits_a : Option Addr) (a_Bits_n : Nat) (a_Bits_e : Nat) (b_Count : Int) (b_Top : Int) (b_Bits_a : Option Addr) (b_Bits_n : Nat) (b_Bits_e : Nat) (H : AHeap) (K : Value → AHeap → Prop) (h : T_laws_eqCoded a_Count a_Top a_Bits_a a_Bits_n a_Bits_e b_Count b_Top b_Bits_a b_Bits_n b_Bits_e H fun (r1 : Bool) (H' : AHeap) => K (.bool r1) H') : bodyL Try.prog E_laws_eqCoded Try.f18 [.agg #[.int .i64 a_Count, .int .i64 a_Top, .slice a_Bits_a a_Bits_n a_Bits_e], .agg #[.int .i64 b_Count, .int .i64 b_Top, .slice b_Bits_a b_Bits_n b_Bits_e]] H K := by
  rw [laws_eqCoded_vc]
  obtain ⟨l_a_Bits, l_b_Bits, i_a_Bits, i_b_Bits, bd_26, bd_27, hk⟩ := h
  obtain rfl := i_a_Bits.eqn
  obtain rfl := i_b_Bits.eqn
  have e : (p_laws_eqCoded a_Count a_Top l_a_Bits b_Count b_Top l_b_Bits) = _ := rfl
  have e := e.trans (p_laws_eqCoded_eq a_Count a_Top l_a_Bits b_Count b_Top l_b_Bits)
  have g0 := Grow.refl H
  refine Al.intro (fun b_1 H_1 hb_2 hl_3 g_4 o_5 => ?_)
  have l_7 := g_4.1
  have g_8 := g0.trans g_4
  have l_9 := g_8.1
  have w_25 := o_5.lt
  refine Al.intro (fun b_10 H_2 hb_11 hl_12 g_13 o_14 => ?_)
  have l_16 := g_13.1
  have g_17 := g_8.trans g_13
  have l_18 := g_17.1
  have o_19 := o_5.grow g_13
  have w_20 := o_19.lt
  have w_24 := o_14.lt
  refine ⟨a_Count, (o_19.rdC _).trans rfl, ?_⟩
  refine ⟨b_Count, (o_14.rdC _).trans rfl, ?_⟩
  refine Br.intro (fun c_21 => ?_) (fun c_21 => ?_)
  · have e := e.trans (cond_t c_21)
    have c_21' := ine_t c_21
    rw [e] at hk
    exact hk  H_2 g_17 
  · have e := e.trans (cond_f c_21)
    have c_21' := ine_f c_21
    refine ⟨a_Top, (o_19.rdC _).trans rfl, ?_⟩
    refine ⟨b_Top, (o_14.rdC _).trans rfl, ?_⟩
    refine Br.intro (fun c_22 => ?_) (fun c_22 => ?_)
    · have e := e.trans (cond_t c_22)
      have c_22' := ine_t c_22
      rw [e] at hk
      exact hk  H_2 g_17 
    · have e := e.trans (cond_f c_22)
      have c_22' := ine_f c_22
      refine ⟨a_Bits_a, l_a_Bits.length, a_Bits_e, (o_19.rdC _).trans rfl, ?_⟩
      refine ⟨b_Bits_a, l_b_Bits.length, b_Bits_e, (o_14.rdC _).trans rfl, ?_⟩
      refine T_laws_eqBoolS_i ⟨_, _, (i_a_Bits.grow g_17), (i_b_Bits.grow g_17), o0, o0, ?_⟩
      refine Br.intro (fun c_23 => ?_) (fun c_23 => ?_)
      · have e := e.trans (cond_t c_23)
        have c_23n := nf_of_t c_23
        rw [e] at hk
        exact hk  H_2 g_17 
      · have e := e.trans (cond_f c_23)
        have c_23n := nt_of_f c_23
        rw [e] at hk
        exact hk  H_2 g_17 
theorem laws_eqCoded_ok : FnOk Try.prog 18 S_laws_eqCoded := by
  refine FnOk.body mix_ok E_laws_eqCoded_ok Try.func18 rfl (by kernel_rfl) (by kernel_rfl) ?_ ?_ ?_ ?_ ?_
  · intro args H K K' h hk
    simp only [S_laws_eqCoded] at *
    unfold F_laws_eqCoded at *
    split at hk
    · obtain ⟨l_a_Bits, l_b_Bits, i_a_Bits, i_b_Bits, bd_26, bd_27, k⟩ := hk
      exact ⟨l_a_Bits, l_b_Bits, i_a_Bits, i_b_Bits, bd_26, bd_27, (fun  H' gg  => h _ _ (k  H' gg ))⟩
    · exact hk.elim
  · intro hq; cases hq
  · intro args H K hk
    simp only [S_laws_eqCoded] at *
    unfold F_laws_eqCoded at *
    split at hk
    · obtain ⟨l_a_Bits, l_b_Bits, i_a_Bits, i_b_Bits, bd_26, bd_27, k⟩ := hk
      exact ⟨_, _, k H (Grow.refl H)⟩
    · exact hk.elim
  · intro _ args H K hk
    simp only [S_laws_eqCoded] at *
    unfold F_laws_eqCoded at *
    split at hk
    · obtain ⟨l_a_Bits, l_b_Bits, i_a_Bits, i_b_Bits, bd_26, bd_27, k⟩ := hk
      exact ⟨l_a_Bits, l_b_Bits, i_a_Bits, i_b_Bits, bd_26, bd_27, (fun  H' gg  => ⟨gg, k  H' gg ⟩)⟩
    · exact hk.elim
  · have mm := @laws_eqCoded_main
    have ml := fun (args : List Value) (H : AHeap) (K : Value → AHeap → Prop) => bodyL_body (P := Try.prog) (env := E_laws_eqCoded ) (fn := Try.f18) (args := args) (H := H) (K := K) E_laws_eqCoded_ok 
    revert mm ml
    generalize bodyK Try.prog E_laws_eqCoded Try.f18 = Q
    generalize bodyL Try.prog E_laws_eqCoded Try.f18 = QL
    intro mm ml args H K hk
    simp only [S_laws_eqCoded] at *
    unfold F_laws_eqCoded at *
    split at hk
    · exact ml _ H K (mm _ _ _ _ _ _ _ _ _ _ H K hk)
    · exact hk.elim

def p_laws_markBoolS_l1 (l_a : List Bool) (k : Int) : Nat → Int → Int → (List Bool) → Int × (List Bool)
  | 0, _, _, _ => (0, [])
  | μ + 1, k_1, i, y1_1 => (bif decide ((i : Int) < (l_a.length : Int)) then (p_laws_markBoolS_l1 l_a k μ (IntKind.wrap .i64 (k_1 + 1)) (i + 1) (((y1_1).set (i : Int).toNat (((Int.tmod k_1 3 : Int) == 0))))) else (k_1, y1_1))
def p_laws_markBoolS_l1_s := fun l_a k μ k_1 i y1_1 => @p_laws_markBoolS_l1.eq_2 l_a k k_1 i y1_1 μ
def p_laws_markBoolS (l_a : List Bool) (k : Int) : Int × (List Bool) := (p_laws_markBoolS_l1 l_a k (Int.toNat ((l_a.length : Int) - (0 : Int)) + 1) k (0 : Int) l_a)
def p_laws_markBoolS_eq := @p_laws_markBoolS.eq_1
def T_laws_markBoolS (a_a : Option Addr) (a_n : Nat) (a_e : Nat) (k : Int) (H : AHeap) (K : Int → AHeap → Prop) : Prop := ∃ lo : Nat, ∃ (l_a : List Bool), OwnS fB H lo a_a a_n a_e l_a ∧ l_a.length < 1073741824 ∧ ((∀ H' : AHeap, KeepA a_a H H' → OwnS fB H' lo a_a a_n a_e (marks (fun n : Int => (Int.tmod n 3 == 0)) k l_a.length) → K (wk k l_a.length) H'))
theorem T_laws_markBoolS_i {a_a : Option Addr} {a_n : Nat} {a_e : Nat} {k : Int} {H : AHeap} {K : Int → AHeap → Prop} (h : ∃ lo : Nat, ∃ (l_a : List Bool), OwnS fB H lo a_a a_n a_e l_a ∧ l_a.length < 1073741824 ∧ ((∀ H' : AHeap, KeepA a_a H H' → OwnS fB H' lo a_a a_n a_e (marks (fun n : Int => (Int.tmod n 3 == 0)) k l_a.length) → K (wk k l_a.length) H'))) : T_laws_markBoolS a_a a_n a_e k H K := h
theorem laws_markBoolS_go (l : List Bool) (k0 : Int) : ∀ (μ : Nat) (k : Int) (i : Nat) (ys : List Bool), ys.length = l.length → i ≤ l.length → l.length - i < μ →
    p_laws_markBoolS_l1 l k0 μ k (i : Int) ys = (wk k (l.length - i), ys.take i ++ marks (fun n : Int => (Int.tmod n 3 == 0)) k (l.length - i)) := by
  intro μ
  induction μ with
  | zero => intro k i ys _ _ h; omega
  | succ μ ih =>
    intro k i ys hy hi hm
    rw [p_laws_markBoolS_l1_s]
    by_cases h : i < l.length
    · rw [decide_eq_true (show (i : Int) < (l.length : Int) by omega), cond_true, Int.toNat_natCast]
      have := ih (IntKind.wrap .i64 (k + 1)) (i + 1) (ys.set i ((fun n : Int => (Int.tmod n 3 == 0)) k)) (by simp [hy]) o2 o2
      obtain ⟨d, hd⟩ : ∃ d, l.length - i = d + 1 := ⟨l.length - i - 1, by omega⟩
      rw [show l.length - (i + 1) = d by omega] at this
      rw [hd, wk, marks]
      refine Eq.trans this ?_
      rw [List.take_add_one, List.getElem?_set_self o2, List.take_set_of_le (Nat.le_refl i)]
      simp
    · rw [decide_eq_false (show ¬ (i : Int) < (l.length : Int) by omega), cond_false]
      rw [show l.length - i = 0 by omega, wk, marks, List.append_nil, List.take_of_length_le o2]
theorem laws_markBoolS_val (l : List Bool) (k : Int) : p_laws_markBoolS l k = (wk k l.length, marks (fun n : Int => (Int.tmod n 3 == 0)) k l.length) := by
  rw [p_laws_markBoolS_eq]
  have := laws_markBoolS_go l k (Int.toNat ((l.length : Int) - 0) + 1) k 0 l rfl o2 o2
  simpa using this
/-! laws_markBoolS: function 98 -/
def E_laws_markBoolS : Env := envOf []
def F_laws_markBoolS : List Value → AHeap → (Value → AHeap → Prop) → Prop
  | [.slice a_a a_n a_e, .int .i64 k], H, K => T_laws_markBoolS a_a a_n a_e k H fun (r1 : Int) (H' : AHeap) => K (.int .i64 r1) H'
  | _, _, _ => False
def S_laws_markBoolS : FSpec := { F := F_laws_markBoolS, quiet := false, tame := false }
theorem laws_markBoolS_vc (a_a : Option Addr) (a_n : Nat) (a_e : Nat) (k : Int) (H : AHeap) (K : Value → AHeap → Prop) : bodyL Try.prog E_laws_markBoolS Try.f98 [.slice a_a a_n a_e, .int .i64 k] H K =
  (loopK (exL Try.prog E_laws_markBoolS (cl (cl (cr (cl (cr (bodyC Try.f98)))))) 35 16 [(0, 2)]) [.slice a_a a_n a_e, .int .i64 k, ud, ud, ud, .int .i64 0, ud, ud, ud, ud, ud, ud, ud, ud, ud, ud, ud, ud, ud, ud, ud] H (blockQ 0 (seqQ (exL Try.prog E_laws_markBoolS (cr (cr (bodyC Try.f98))) 16 16 []) (retK Try.prog Try.f98 K)))) := by kernel_rfl
abbrev laws_markBoolS_P1 (a_a : Option Addr) (a_e : Nat) (a_n : Nat) (k_1 : Int) (i : Int)  : List Value := [.slice a_a a_n a_e, .int .i64 k_1, ud, ud, ud, .int .i64 i, ud, ud, ud, ud, ud, ud, ud, ud, ud, ud, ud, ud, ud, ud, ud]
theorem laws_markBoolS_r1 (a_a : Option Addr) (a_e : Nat) (a_n : Nat) (k_1 : Int) (i : Int)  (H : AHeap) (R : Post) : exL Try.prog E_laws_markBoolS (cl (cl (cr (cl (cr (bodyC Try.f98)))))) 35 16 [(0, 2)] (laws_markBoolS_P1 a_a a_e a_n k_1 i) H R =
  (Br (decide ((i : Int) < (a_n : Int))) (3 ≠ (0 : Int) ∧ (0 : Int) ≤ i ∧ i < (a_n : Int) ∧ ∃ b1 f1, (a_a : Option Addr) = some ⟨b1, f1, none⟩ ∧ isOwn H b1 ∧ (∃ l, rdN H b1 (f1 + (i : Int).toNat * 1) 1 = some l) ∧ Lt (setC H b1 (f1 + (i : Int).toNat * 1) (.bool ((Int.tmod k_1 3 : Int) == 0))) fun H1 => R .normal [.slice a_a a_n a_e, .int .i64 (IntKind.wrap .i64 (k_1 + 1)), ud, ud, ud, .int .i64 (IntKind.wrap .i64 (i + 1)), ud, ud, ud, ud, ud, ud, ud, ud, ud, ud, ud, ud, ud, ud, ud] H1) (R (.exit 0) [ud, .int .i64 k_1, ud, ud, ud, ud, ud, ud, ud, ud, ud, ud, ud, ud, ud, ud, ud, ud, ud, ud, ud] H)) := by kernel_rfl
def laws_markBoolS_I1 (a_a : Option Addr) (a_e : Nat) (a_n : Nat) (Inv : Nat → Int → Int → AHeap → Prop) : Nat → List Value → AHeap → Prop := fun μ tm H => ∃ (k_1 : Int), ∃ (i : Int), tm = (laws_markBoolS_P1 a_a a_e a_n k_1 i) ∧ Inv μ k_1 i H
theorem laws_markBoolS_L1 (a_a : Option Addr) (a_e : Nat) (a_n : Nat) {Q : Post} (Inv : Nat → Int → Int → AHeap → Prop) (ν : Nat) (k_1 : Int) (i : Int)  (H : AHeap) (h0 : Inv ν k_1 i H)
    (hs : ∀ (μ : Nat) (k_1 : Int) (i : Int)  (H : AHeap), Inv μ k_1 i H → exL Try.prog E_laws_markBoolS (cl (cl (cr (cl (cr (bodyC Try.f98)))))) 35 16 [(0, 2)] (laws_markBoolS_P1 a_a a_e a_n k_1 i) H (loopQ (laws_markBoolS_I1 a_a a_e a_n Inv) μ Q)) : loopK (exL Try.prog E_laws_markBoolS (cl (cl (cr (cl (cr (bodyC Try.f98)))))) 35 16 [(0, 2)]) (laws_markBoolS_P1 a_a a_e a_n k_1 i) H Q :=
  ⟨laws_markBoolS_I1 a_a a_e a_n Inv, ν, ⟨k_1, i, rfl, h0⟩, fun μ tm H h => by obtain ⟨k_1, i, rfl, hI⟩ := h; exact hs μ k_1 i  H hI⟩
theorem laws_markBoolS_n1 {a_a : Option Addr} {a_e : Nat} {a_n : Nat} {Q : Post} {Inv : Nat → Int → Int → AHeap → Prop} {μ : Nat} (μ' : Nat) {k_1 : Int} {i : Int}  {H : AHeap} (hm : μ' < μ) (hI : Inv μ' k_1 i H) : loopQ (laws_markBoolS_I1 a_a a_e a_n Inv) μ Q .normal (laws_markBoolS_P1 a_a a_e a_n k_1 i) H := ⟨μ', hm, k_1, i, rfl, hI⟩
theorem laws_markBoolS_x1_0 (k_1 : Int) (H : AHeap) (K : Value → AHeap → Prop)  {I : Nat → List Value → AHeap → Prop} {μ : Nat} : loopQ I μ (blockQ 0 (seqQ (exL Try.prog E_laws_markBoolS (cr (cr (bodyC Try.f98))) 16 16 []) (retK Try.prog Try.f98 K))) (.exit 0) [ud, .int .i64 k_1, ud, ud, ud, ud, ud, ud, ud, ud, ud, ud, ud, ud, ud, ud, ud, ud, ud, ud, ud] H =
  (K (.int .i64 k_1) H) := by kernel_rfl
theorem E_laws_markBoolS_ok : ∀ g, FnOk Try.prog g (E_laws_markBoolS g) := FnOk.envOf (by
  intro x hx; cases hx)
set_option maxHeartbeats 1000000 in
theorem laws_markBoolS_main (a_a : Option Addr) (a_n : Nat) (a_e : Nat) (k : Int) (H : AHeap) (K : Value → AHeap → Prop) (h : T_laws_markBoolS a_a a_n a_e k H fun (r1 : Int) (H' : AHeap) => K (.int .i64 r1) H') : bodyL Try.prog E_laws_markBoolS Try.f98 [.slice a_a a_n a_e, .int .i64 k] H K := by
  rw [laws_markBoolS_vc]
  obtain ⟨lo, l_a, i_a, bd_20, hk⟩ := h
  have hk : (∀ H' : AHeap, KeepA a_a H H' → OwnS fB H' lo a_a a_n a_e ((p_laws_markBoolS l_a k).2) → (fun (r1 : Int) (H' : AHeap) => K (.int .i64 r1) H') ((p_laws_markBoolS l_a k).1) H') := by rw [laws_markBoolS_val l_a k]; exact hk
  obtain rfl := i_a.len
  have up_m := i_a.up
  have lo_m := i_a.lo
  have e : (p_laws_markBoolS l_a k) = _ := rfl
  have e := e.trans (p_laws_markBoolS_eq l_a k)
  have g0 := KeepA.refl a_a H
  refine laws_markBoolS_L1 _ _ _ (fun (μ : Nat) (k_1 : Int) (i : Int) (H_1 : AHeap) => ∃ (y1_1 : List Bool), OwnS fB H_1 lo a_a l_a.length a_e y1_1 ∧ y1_1.length = (l_a).length ∧ H.length ≤ H_1.length ∧ KeepA a_a H H_1 ∧ (0 : Int) ≤ i ∧ i ≤ (l_a.length : Int) ∧ (l_a.length : Int) - i ≤ (μ : Int) ∧ p_laws_markBoolS l_a k = p_laws_markBoolS_l1 l_a k (μ + 1) k_1 i y1_1) (Int.toNat ((l_a.length : Int) - (0 : Int))) _ _ H ?_ ?_
  · exact ⟨_, i_a, (by first | rfl | assumption | omega | (simp; done)), o2, g0, o5, o5, o2, e⟩
  · intro μ k_1 i  H_1 hI
    obtain ⟨y1_1, r_1, y_2, n_3, g_4, v_5, v_6, hμ, e⟩ := hI
    rw [laws_markBoolS_r1]
    have e := e.trans (p_laws_markBoolS_l1_s l_a k μ k_1 i y1_1)
    have l_7 := g_4.1
    refine Br.intro (fun c_8 => ?_) (fun c_8 => ?_)
    · have e := e.trans (cond_t c_8)
      have c_8' := of_decide_eq_true c_8
      refine ⟨(by first | omega | decide | (simp; done) | (simp; omega)), ?_⟩
      have z_9 := tmod_rng k_1 3
      have z_10 := tmod_nn k_1 3
      obtain ⟨b_11, f_12, q_13⟩ := (r_1.isL).pos o0
      refine ⟨by omega, by omega, b_11, f_12, q_13, ?_⟩
      refine Lt.setS r_1 q_13 (by first | omega | (simp only [List.length_set]; (first | omega | (simp only [List.length_set, List.length_replicate, List.length_append, List.length_cons, List.length_nil, List.length_take, List.length_drop, marks_length]; done) | (simp only [List.length_set, List.length_replicate, List.length_append, List.length_cons, List.length_nil, List.length_take, List.length_drop, marks_length]; omega)))) (fun H_2 hl_14 o_16 k_15 => ?_)
      have l_17 := k_15.1
      have g_18 := g_4.transA k_15
      have l_19 := g_18.1
      rw [show IntKind.wrap .i64 (i + 1) = (i + 1) from wrap64 o2 o2]
      refine laws_markBoolS_n1 (μ - 1) o8 ⟨_, o_16, o7, o2, g_18, o1, o1, o8, (by rw [show μ - 1 + 1 = μ from by first | omega]; exact e)⟩
    · have e := e.trans (cond_f c_8)
      have c_8' := of_decide_eq_false c_8
      rw [laws_markBoolS_x1_0]
      rw [e] at hk
      exact hk H_1 g_4 r_1
theorem laws_markBoolS_ok : FnOk Try.prog 98 S_laws_markBoolS := by
  refine FnOk.body mix_ok E_laws_markBoolS_ok Try.func98 rfl (by kernel_rfl) (by kernel_rfl) ?_ ?_ ?_ ?_ ?_
  · intro args H K K' h hk
    simp only [S_laws_markBoolS] at *
    unfold F_laws_markBoolS at *
    split at hk
    · obtain ⟨lo, l_a, i_a, bd_20, k⟩ := hk
      exact ⟨lo, l_a, i_a, bd_20, (fun H' gg ow => h _ _ (k H' gg ow))⟩
    · exact hk.elim
  · intro hq; cases hq
  · intro args H K hk
    simp only [S_laws_markBoolS] at *
    unfold F_laws_markBoolS at *
    split at hk
    · obtain ⟨lo, l_a, i_a, bd_20, k⟩ := hk
      exact (i_a.put _ (by rw [marks_length])).elim fun H1 h => ⟨_, _, k H1 h.1 h.2⟩
    · exact hk.elim
  · intro hq; cases hq
  · have mm := @laws_markBoolS_main
    have ml := fun (args : List Value) (H : AHeap) (K : Value → AHeap → Prop) => bodyL_body (P := Try.prog) (env := E_laws_markBoolS ) (fn := Try.f98) (args := args) (H := H) (K := K) E_laws_markBoolS_ok 
    revert mm ml
    generalize bodyK Try.prog E_laws_markBoolS Try.f98 = Q
    generalize bodyL Try.prog E_laws_markBoolS Try.f98 = QL
    intro mm ml args H K hk
    simp only [S_laws_markBoolS] at *
    unfold F_laws_markBoolS at *
    split at hk
    · exact ml _ H K (mm _ _ _ _ H K hk)
    · exact hk.elim

def p_laws_markCoded (a_Count : Int) (a_Top : Int) (l_a_Bits : List Bool) (k : Int) : Int × (List Bool) := (((wk k l_a_Bits.length), (marks (fun n : Int => (Int.tmod n 3 == 0)) k l_a_Bits.length)))
def p_laws_markCoded_eq := @p_laws_markCoded.eq_1
def T_laws_markCoded (a_Count : Int) (a_Top : Int) (a_Bits_a : Option Addr) (a_Bits_n : Nat) (a_Bits_e : Nat) (k : Int) (H : AHeap) (K : Int → AHeap → Prop) : Prop := ∃ lo : Nat, ∃ (l_a_Bits : List Bool), OwnS fB H lo a_Bits_a a_Bits_n a_Bits_e l_a_Bits ∧ l_a_Bits.length < 1073741824 ∧ ((∀ H' : AHeap, KeepA a_Bits_a H H' → OwnS fB H' lo a_Bits_a a_Bits_n a_Bits_e (marks (fun n : Int => (Int.tmod n 3 == 0)) k l_a_Bits.length) → K (wk k l_a_Bits.length) H'))
theorem T_laws_markCoded_i {a_Count : Int} {a_Top : Int} {a_Bits_a : Option Addr} {a_Bits_n : Nat} {a_Bits_e : Nat} {k : Int} {H : AHeap} {K : Int → AHeap → Prop} (h : ∃ lo : Nat, ∃ (l_a_Bits : List Bool), OwnS fB H lo a_Bits_a a_Bits_n a_Bits_e l_a_Bits ∧ l_a_Bits.length < 1073741824 ∧ ((∀ H' : AHeap, KeepA a_Bits_a H H' → OwnS fB H' lo a_Bits_a a_Bits_n a_Bits_e (marks (fun n : Int => (Int.tmod n 3 == 0)) k l_a_Bits.length) → K (wk k l_a_Bits.length) H'))) : T_laws_markCoded a_Count a_Top a_Bits_a a_Bits_n a_Bits_e k H K := h
theorem laws_markCoded_val (a_Count : Int) (a_Top : Int) (l_a_Bits : List Bool) (k : Int) : p_laws_markCoded a_Count a_Top l_a_Bits k = (wk k l_a_Bits.length, marks (fun n : Int => (Int.tmod n 3 == 0)) k l_a_Bits.length) := rfl
/-! laws_markCoded: function 19 -/
def E_laws_markCoded : Env := envOf [(98, S_laws_markBoolS)]
def F_laws_markCoded : List Value → AHeap → (Value → AHeap → Prop) → Prop
  | [.agg ⟨[.int .i64 a_Count, .int .i64 a_Top, .slice a_Bits_a a_Bits_n a_Bits_e]⟩, .int .i64 k], H, K => T_laws_markCoded a_Count a_Top a_Bits_a a_Bits_n a_Bits_e k H fun (r1 : Int) (H' : AHeap) => K (.int .i64 r1) H'
  | _, _, _ => False
def S_laws_markCoded : FSpec := { F := F_laws_markCoded, quiet := false, tame := false }
theorem laws_markCoded_vc (a_Count : Int) (a_Top : Int) (a_Bits_a : Option Addr) (a_Bits_n : Nat) (a_Bits_e : Nat) (k : Int) (H : AHeap) (K : Value → AHeap → Prop) : bodyL Try.prog E_laws_markCoded Try.f19 [.agg #[.int .i64 a_Count, .int .i64 a_Top, .slice a_Bits_a a_Bits_n a_Bits_e], .int .i64 k] H K =
  (Al [.int .i64 a_Count, .int .i64 a_Top, .slice a_Bits_a a_Bits_n a_Bits_e] H fun b1 H1 => ∃ x1_a : Option Addr, ∃ x1_n : Nat, ∃ x1_e : Nat,  rdC H1 b1 2 = some (.slice x1_a x1_n x1_e) ∧ T_laws_markBoolS x1_a x1_n x1_e k H1 fun (r1 : Int) (H2 : AHeap) => K (.int .i64 r1) H2) := by kernel_rfl
theorem E_laws_markCoded_ok : ∀ g, FnOk Try.prog g (E_laws_markCoded g) := FnOk.envOf (by
  intro x hx
  simp only [List.mem_cons, List.not_mem_nil, or_false] at hx
  subst hx; exact laws_markBoolS_ok)
set_option maxHeartbeats 1000000 in
theorem laws_markCoded_main (a_Count : Int) (a_Top : Int) (a_Bits_a : Option Addr) (a_Bits_n : Nat) (a_Bits_e : Nat) (k : Int) (H : AHeap) (K : Value → AHeap → Prop) (h : T_laws_markCoded a_Count a_Top a_Bits_a a_Bits_n a_Bits_e k H fun (r1 : Int) (H' : AHeap) => K (.int .i64 r1) H') : bodyL Try.prog E_laws_markCoded Try.f19 [.agg #[.int .i64 a_Count, .int .i64 a_Top, .slice a_Bits_a a_Bits_n a_Bits_e], .int .i64 k] H K := by
  rw [laws_markCoded_vc]
  obtain ⟨lo, l_a_Bits, i_a_Bits, bd_19, hk⟩ := h
  have hk : (∀ H' : AHeap, KeepA a_Bits_a H H' → OwnS fB H' lo a_Bits_a a_Bits_n a_Bits_e ((p_laws_markCoded a_Count a_Top l_a_Bits k).2) → (fun (r1 : Int) (H' : AHeap) => K (.int .i64 r1) H') ((p_laws_markCoded a_Count a_Top l_a_Bits k).1) H') := by rw [laws_markCoded_val a_Count a_Top l_a_Bits k]; exact hk
  obtain rfl := i_a_Bits.len
  have up_m := i_a_Bits.up
  have lo_m := i_a_Bits.lo
  have e : (p_laws_markCoded a_Count a_Top l_a_Bits k) = _ := rfl
  have e := e.trans (p_laws_markCoded_eq a_Count a_Top l_a_Bits k)
  have g0 := KeepA.refl a_Bits_a H
  refine Al.intro (fun b_1 H_1 hb_2 hl_3 g_4 o_5 => ?_)
  have l_7 := g_4.1
  have g_8 := g0.trans g_4
  have l_9 := g_8.1
  have r_10 := i_a_Bits.grow g_4
  have w_18 := o_5.lt
  refine ⟨a_Bits_a, l_a_Bits.length, a_Bits_e, (o_5.rdC _).trans rfl, ?_⟩
  refine T_laws_markBoolS_i ⟨_, _, r_10, o0, (fun H_2 k_11 o_12 => ?_)⟩
  have l_13 := k_11.1
  have g_14 := g_8.transA k_11
  have l_15 := g_14.1
  have o_16 := o_5.keepA (fun x hx => by have := lo_m x hx; have := up_m x hx; omega) k_11
  have w_17 := o_16.lt
  rw [e] at hk
  exact hk H_2 g_14 o_12
theorem laws_markCoded_ok : FnOk Try.prog 19 S_laws_markCoded := by
  refine FnOk.body mix_ok E_laws_markCoded_ok Try.func19 rfl (by kernel_rfl) (by kernel_rfl) ?_ ?_ ?_ ?_ ?_
  · intro args H K K' h hk
    simp only [S_laws_markCoded] at *
    unfold F_laws_markCoded at *
    split at hk
    · obtain ⟨lo, l_a_Bits, i_a_Bits, bd_19, k⟩ := hk
      exact ⟨lo, l_a_Bits, i_a_Bits, bd_19, (fun H' gg ow => h _ _ (k H' gg ow))⟩
    · exact hk.elim
  · intro hq; cases hq
  · intro args H K hk
    simp only [S_laws_markCoded] at *
    unfold F_laws_markCoded at *
    split at hk
    · obtain ⟨lo, l_a_Bits, i_a_Bits, bd_19, k⟩ := hk
      exact (i_a_Bits.put _ (by rw [marks_length])).elim fun H1 h => ⟨_, _, k H1 h.1 h.2⟩
    · exact hk.elim
  · intro hq; cases hq
  · have mm := @laws_markCoded_main
    have ml := fun (args : List Value) (H : AHeap) (K : Value → AHeap → Prop) => bodyL_body (P := Try.prog) (env := E_laws_markCoded ) (fn := Try.f19) (args := args) (H := H) (K := K) E_laws_markCoded_ok 
    revert mm ml
    generalize bodyK Try.prog E_laws_markCoded Try.f19 = Q
    generalize bodyL Try.prog E_laws_markCoded Try.f19 = QL
    intro mm ml args H K hk
    simp only [S_laws_markCoded] at *
    unfold F_laws_markCoded at *
    split at hk
    · exact ml _ H K (mm _ _ _ _ _ _ H K hk)
    · exact hk.elim

def p_laws_heldBoolS_l1 (l_a : List Bool) (k : Int) : Nat → Int → Int → Int → Int
  | 0, _, _, _ => 0
  | μ + 1, k_1, t4, i => (bif decide ((i : Int) < (l_a.length : Int)) then (bif !((((l_a).getD (i : Int).toNat false)) == ((Int.tmod k_1 3 : Int) == 0)) then ((-1) : Int) else (p_laws_heldBoolS_l1 l_a k μ (IntKind.wrap .i64 (k_1 + 1)) t4 (i + 1))) else k_1)
def p_laws_heldBoolS_l1_s := fun l_a k μ k_1 t4 i => @p_laws_heldBoolS_l1.eq_2 l_a k k_1 t4 i μ
def p_laws_heldBoolS (l_a : List Bool) (k : Int) : Int := (p_laws_heldBoolS_l1 l_a k (Int.toNat ((l_a.length : Int) - (0 : Int)) + 1) k (0 : Int) (0 : Int))
def p_laws_heldBoolS_eq := @p_laws_heldBoolS.eq_1
def T_laws_heldBoolS (a_a : Option Addr) (a_n : Nat) (a_e : Nat) (k : Int) (H : AHeap) (K : Int → AHeap → Prop) : Prop := ∃ (l_a : List Bool), IsL fB H a_a a_n l_a ∧ l_a.length < 1073741824 ∧ K (p_laws_heldBoolS l_a k) H
theorem T_laws_heldBoolS_i {a_a : Option Addr} {a_n : Nat} {a_e : Nat} {k : Int} {H : AHeap} {K : Int → AHeap → Prop} (h : ∃ (l_a : List Bool), IsL fB H a_a a_n l_a ∧ l_a.length < 1073741824 ∧ K (p_laws_heldBoolS l_a k) H) : T_laws_heldBoolS a_a a_n a_e k H K := h
theorem laws_heldBoolS_go (k0 : Int) : ∀ (μ : Nat) (i : Nat) (pre : List Bool) (k t : Int) (n : Nat), pre.length = i → n < μ →
    p_laws_heldBoolS_l1 (pre ++ marks (fun n : Int => (Int.tmod n 3 == 0)) k n) k0 μ k t (i : Int) = wk k n := by
  intro μ
  induction μ with
  | zero => intro i pre k t n _ h; omega
  | succ μ ih =>
    intro i pre k t n hp hm
    rw [p_laws_heldBoolS_l1_s]
    have hl : (pre ++ marks (fun n : Int => (Int.tmod n 3 == 0)) k n).length = i + n := by rw [List.length_append, hp, marks_length]
    rw [hl]
    cases n with
    | zero => rw [decide_eq_false (show ¬ (i : Int) < ((i + 0 : Nat) : Int) by omega), cond_false]; rfl
    | succ n =>
      rw [decide_eq_true (show (i : Int) < ((i + (n + 1) : Nat) : Int) by omega), cond_true, Int.toNat_natCast]
      have hx : (pre ++ marks (fun n : Int => (Int.tmod n 3 == 0)) k (n + 1)).getD i false = (fun n : Int => (Int.tmod n 3 == 0)) k := by
        rw [List.getD_eq_getElem?_getD, List.getElem?_append_right o2, hp, Nat.sub_self]; rfl
      rw [hx]
      simp only [BEq.rfl, Bool.not_true, cond_false]
      have := ih (i + 1) (pre ++ [(fun n : Int => (Int.tmod n 3 == 0)) k]) (IntKind.wrap .i64 (k + 1)) t n (by simp [hp]) o2
      rw [List.append_assoc] at this
      rw [wk]; exact this
theorem laws_heldBoolS_marks (k : Int) (n : Nat) : p_laws_heldBoolS (marks (fun n : Int => (Int.tmod n 3 == 0)) k n) k = wk k n := by
  rw [p_laws_heldBoolS_eq]
  have := laws_heldBoolS_go k (Int.toNat (((marks (fun n : Int => (Int.tmod n 3 == 0)) k n).length : Int) - 0) + 1) 0 [] k 0 n rfl (by rw [marks_length]; omega)
  simpa using this
/-! laws_heldBoolS: function 99 -/
def E_laws_heldBoolS : Env := envOf []
def F_laws_heldBoolS : List Value → AHeap → (Value → AHeap → Prop) → Prop
  | [.slice a_a a_n a_e, .int .i64 k], H, K => T_laws_heldBoolS a_a a_n a_e k H fun (r1 : Int) (H' : AHeap) => K (.int .i64 r1) H'
  | _, _, _ => False
def S_laws_heldBoolS : FSpec := { F := F_laws_heldBoolS, quiet := true, tame := false }
theorem laws_heldBoolS_vc (a_a : Option Addr) (a_n : Nat) (a_e : Nat) (k : Int) (H : AHeap) (K : Value → AHeap → Prop) : bodyL Try.prog E_laws_heldBoolS Try.f99 [.slice a_a a_n a_e, .int .i64 k] H K =
  (loopK (exL Try.prog E_laws_heldBoolS (cl (cl (cr (cl (cr (bodyC Try.f99)))))) 35 16 [(0, 2)]) [.slice a_a a_n a_e, .int .i64 k, ud, ud, ud, .int .i64 0, ud, ud, ud, ud, ud, ud, ud, ud, ud, ud, ud, ud, ud, ud, ud, ud, ud] H (blockQ 0 (seqQ (exL Try.prog E_laws_heldBoolS (cr (cr (bodyC Try.f99))) 16 16 []) (retK Try.prog Try.f99 K)))) := by kernel_rfl
abbrev laws_heldBoolS_P1 (a_a : Option Addr) (a_e : Nat) (a_n : Nat) (k_1 : Int) (i : Int)  : List Value := [.slice a_a a_n a_e, .int .i64 k_1, ud, ud, ud, .int .i64 i, ud, ud, ud, ud, ud, ud, ud, ud, ud, ud, ud, ud, ud, ud, ud, ud, ud]
theorem laws_heldBoolS_r1 (a_a : Option Addr) (a_e : Nat) (a_n : Nat) (k_1 : Int) (i : Int)  (H : AHeap) (R : Post) : exL Try.prog E_laws_heldBoolS (cl (cl (cr (cl (cr (bodyC Try.f99)))))) 35 16 [(0, 2)] (laws_heldBoolS_P1 a_a a_e a_n k_1 i) H R =
  (Br (decide ((i : Int) < (a_n : Int))) ((0 : Int) ≤ i ∧ i < (a_n : Int) ∧ ∃ b1 f1, (a_a : Option Addr) = some ⟨b1, f1, none⟩ ∧ ∃ x1 : Bool,  rdC H b1 (f1 + (i : Int).toNat * 1) = some (.bool x1) ∧ 3 ≠ (0 : Int) ∧ Br (!(x1 == ((Int.tmod k_1 3 : Int) == 0))) (R .ret [ud, ud, ud, ud, .int .i64 (-1), ud, ud, ud, ud, ud, ud, ud, ud, ud, ud, ud, ud, ud, ud, ud, ud, ud, ud] H) (R .normal [.slice a_a a_n a_e, .int .i64 (IntKind.wrap .i64 (k_1 + 1)), ud, ud, ud, .int .i64 (IntKind.wrap .i64 (i + 1)), ud, ud, ud, ud, ud, ud, ud, ud, ud, ud, ud, ud, ud, ud, ud, ud, ud] H)) (R (.exit 0) [ud, .int .i64 k_1, ud, ud, ud, ud, ud, ud, ud, ud, ud, ud, ud, ud, ud, ud, ud, ud, ud, ud, ud, ud, ud] H)) := by kernel_rfl
def laws_heldBoolS_I1 (a_a : Option Addr) (a_e : Nat) (a_n : Nat) (Inv : Nat → Int → Int → AHeap → Prop) : Nat → List Value → AHeap → Prop := fun μ tm H => ∃ (k_1 : Int), ∃ (i : Int), tm = (laws_heldBoolS_P1 a_a a_e a_n k_1 i) ∧ Inv μ k_1 i H
theorem laws_heldBoolS_L1 (a_a : Option Addr) (a_e : Nat) (a_n : Nat) {Q : Post} (Inv : Nat → Int → Int → AHeap → Prop) (ν : Nat) (k_1 : Int) (i : Int)  (H : AHeap) (h0 : Inv ν k_1 i H)
    (hs : ∀ (μ : Nat) (k_1 : Int) (i : Int)  (H : AHeap), Inv μ k_1 i H → exL Try.prog E_laws_heldBoolS (cl (cl (cr (cl (cr (bodyC Try.f99)))))) 35 16 [(0, 2)] (laws_heldBoolS_P1 a_a a_e a_n k_1 i) H (loopQ (laws_heldBoolS_I1 a_a a_e a_n Inv) μ Q)) : loopK (exL Try.prog E_laws_heldBoolS (cl (cl (cr (cl (cr (bodyC Try.f99)))))) 35 16 [(0, 2)]) (laws_heldBoolS_P1 a_a a_e a_n k_1 i) H Q :=
  ⟨laws_heldBoolS_I1 a_a a_e a_n Inv, ν, ⟨k_1, i, rfl, h0⟩, fun μ tm H h => by obtain ⟨k_1, i, rfl, hI⟩ := h; exact hs μ k_1 i  H hI⟩
theorem laws_heldBoolS_n1 {a_a : Option Addr} {a_e : Nat} {a_n : Nat} {Q : Post} {Inv : Nat → Int → Int → AHeap → Prop} {μ : Nat} (μ' : Nat) {k_1 : Int} {i : Int}  {H : AHeap} (hm : μ' < μ) (hI : Inv μ' k_1 i H) : loopQ (laws_heldBoolS_I1 a_a a_e a_n Inv) μ Q .normal (laws_heldBoolS_P1 a_a a_e a_n k_1 i) H := ⟨μ', hm, k_1, i, rfl, hI⟩
theorem laws_heldBoolS_x1_0 (k_1 : Int) (H : AHeap) (K : Value → AHeap → Prop)  {I : Nat → List Value → AHeap → Prop} {μ : Nat} : loopQ I μ (blockQ 0 (seqQ (exL Try.prog E_laws_heldBoolS (cr (cr (bodyC Try.f99))) 16 16 []) (retK Try.prog Try.f99 K))) (.exit 0) [ud, .int .i64 k_1, ud, ud, ud, ud, ud, ud, ud, ud, ud, ud, ud, ud, ud, ud, ud, ud, ud, ud, ud, ud, ud] H =
  (K (.int .i64 k_1) H) := by kernel_rfl
theorem laws_heldBoolS_x1_ret (t4 : Int) (H : AHeap) (K : Value → AHeap → Prop)  {I : Nat → List Value → AHeap → Prop} {μ : Nat} : loopQ I μ (blockQ 0 (seqQ (exL Try.prog E_laws_heldBoolS (cr (cr (bodyC Try.f99))) 16 16 []) (retK Try.prog Try.f99 K))) .ret [ud, ud, ud, ud, .int .i64 t4, ud, ud, ud, ud, ud, ud, ud, ud, ud, ud, ud, ud, ud, ud, ud, ud, ud, ud] H =
  (K (.int .i64 t4) H) := by kernel_rfl
theorem E_laws_heldBoolS_ok : ∀ g, FnOk Try.prog g (E_laws_heldBoolS g) := FnOk.envOf (by
  intro x hx; cases hx)
set_option maxHeartbeats 1000000 in
theorem laws_heldBoolS_main (a_a : Option Addr) (a_n : Nat) (a_e : Nat) (k : Int) (H : AHeap) (K : Value → AHeap → Prop) (h : T_laws_heldBoolS a_a a_n a_e k H fun (r1 : Int) (H' : AHeap) => K (.int .i64 r1) H') : bodyL Try.prog E_laws_heldBoolS Try.f99 [.slice a_a a_n a_e, .int .i64 k] H K := by
  rw [laws_heldBoolS_vc]
  obtain ⟨l_a, i_a, bd_11, hk⟩ := h
  obtain rfl := i_a.eqn
  have e : (p_laws_heldBoolS l_a k) = _ := rfl
  have e := e.trans (p_laws_heldBoolS_eq l_a k)
  have g0 := Grow.refl H
  refine laws_heldBoolS_L1 _ _ _ (fun (μ : Nat) (k_1 : Int) (i : Int) (H_1 : AHeap) => ∃ (t4 : Int), H = H_1 ∧ (0 : Int) ≤ i ∧ i ≤ (l_a.length : Int) ∧ (l_a.length : Int) - i ≤ (μ : Int) ∧ p_laws_heldBoolS l_a k = p_laws_heldBoolS_l1 l_a k (μ + 1) k_1 t4 i) (Int.toNat ((l_a.length : Int) - (0 : Int))) _ _ H ?_ ?_
  · exact ⟨_, rfl, o5, o5, o2, e⟩
  · intro μ k_1 i  H_1 hI
    obtain ⟨t4, rfl, v_1, v_2, hμ, e⟩ := hI
    rw [laws_heldBoolS_r1]
    have e := e.trans (p_laws_heldBoolS_l1_s l_a k μ k_1 t4 i)
    have l_3 := g0.1
    refine Br.intro (fun c_4 => ?_) (fun c_4 => ?_)
    · have e := e.trans (cond_t c_4)
      have c_4' := of_decide_eq_true c_4
      obtain ⟨b_5, f_6, q_7⟩ := ((i_a.grow g0)).pos o0
      refine ⟨by omega, by omega, b_5, f_6, q_7, ?_⟩
      refine ⟨((l_a).getD (i : Int).toNat false), (i_a).rd g0 q_7 o2 _, ?_⟩
      refine ⟨(by first | omega | decide | (simp; done) | (simp; omega)), ?_⟩
      have z_8 := tmod_rng k_1 3
      have z_9 := tmod_nn k_1 3
      refine Br.intro (fun c_10 => ?_) (fun c_10 => ?_)
      · have e := e.trans (cond_t c_10)
        have c_10n := nf_of_t c_10
        rw [laws_heldBoolS_x1_ret]
        rw [e] at hk
        exact hk
      · have e := e.trans (cond_f c_10)
        have c_10n := nt_of_f c_10
        rw [show IntKind.wrap .i64 (i + 1) = (i + 1) from wrap64 o2 o2]
        refine laws_heldBoolS_n1 (μ - 1) o8 ⟨_, rfl, o1, o1, o8, (by rw [show μ - 1 + 1 = μ from by first | omega]; exact e)⟩
    · have e := e.trans (cond_f c_4)
      have c_4' := of_decide_eq_false c_4
      rw [laws_heldBoolS_x1_0]
      rw [e] at hk
      exact hk
theorem laws_heldBoolS_ok : FnOk Try.prog 99 S_laws_heldBoolS := by
  refine FnOk.body mix_ok E_laws_heldBoolS_ok Try.func99 rfl (by kernel_rfl) (by kernel_rfl) ?_ ?_ ?_ ?_ ?_
  · intro args H K K' h hk
    simp only [S_laws_heldBoolS] at *
    unfold F_laws_heldBoolS at *
    split at hk
    · obtain ⟨l_a, i_a, bd_11, k⟩ := hk
      exact ⟨l_a, i_a, bd_11, h _ _ k⟩
    · exact hk.elim
  · intro _ args H K hk
    simp only [S_laws_heldBoolS] at *
    unfold F_laws_heldBoolS at *
    split at hk
    · obtain ⟨l_a, i_a, bd_11, k⟩ := hk
      exact ⟨_, k, fun K' k' => ⟨l_a, i_a, bd_11, k'⟩⟩
    · exact hk.elim
  · intro args H K hk
    simp only [S_laws_heldBoolS] at *
    unfold F_laws_heldBoolS at *
    split at hk
    · obtain ⟨l_a, i_a, bd_11, k⟩ := hk
      exact ⟨_, _, k⟩
    · exact hk.elim
  · intro hq; cases hq
  · have mm := @laws_heldBoolS_main
    have ml := fun (args : List Value) (H : AHeap) (K : Value → AHeap → Prop) => bodyL_body (P := Try.prog) (env := E_laws_heldBoolS ) (fn := Try.f99) (args := args) (H := H) (K := K) E_laws_heldBoolS_ok 
    revert mm ml
    generalize bodyK Try.prog E_laws_heldBoolS Try.f99 = Q
    generalize bodyL Try.prog E_laws_heldBoolS Try.f99 = QL
    intro mm ml args H K hk
    simp only [S_laws_heldBoolS] at *
    unfold F_laws_heldBoolS at *
    split at hk
    · exact ml _ H K (mm _ _ _ _ H K hk)
    · exact hk.elim

def p_laws_heldCoded (a_Count : Int) (a_Top : Int) (l_a_Bits : List Bool) (k : Int) : Int := (bif decide (((p_laws_heldBoolS l_a_Bits k) : Int) < 0) then ((-1) : Int) else (p_laws_heldBoolS l_a_Bits k))
def p_laws_heldCoded_eq := @p_laws_heldCoded.eq_1
def T_laws_heldCoded (a_Count : Int) (a_Top : Int) (a_Bits_a : Option Addr) (a_Bits_n : Nat) (a_Bits_e : Nat) (k : Int) (H : AHeap) (K : Int → AHeap → Prop) : Prop := ∃ (l_a_Bits : List Bool), IsL fB H a_Bits_a a_Bits_n l_a_Bits ∧ l_a_Bits.length < 1073741824 ∧ ((∀ H' : AHeap, Grow H H' → K (p_laws_heldCoded a_Count a_Top l_a_Bits k) H'))
theorem T_laws_heldCoded_i {a_Count : Int} {a_Top : Int} {a_Bits_a : Option Addr} {a_Bits_n : Nat} {a_Bits_e : Nat} {k : Int} {H : AHeap} {K : Int → AHeap → Prop} (h : ∃ (l_a_Bits : List Bool), IsL fB H a_Bits_a a_Bits_n l_a_Bits ∧ l_a_Bits.length < 1073741824 ∧ ((∀ H' : AHeap, Grow H H' → K (p_laws_heldCoded a_Count a_Top l_a_Bits k) H'))) : T_laws_heldCoded a_Count a_Top a_Bits_a a_Bits_n a_Bits_e k H K := h

/-! laws_heldCoded: function 20 -/
def E_laws_heldCoded : Env := envOf [(99, S_laws_heldBoolS)]
def F_laws_heldCoded : List Value → AHeap → (Value → AHeap → Prop) → Prop
  | [.agg ⟨[.int .i64 a_Count, .int .i64 a_Top, .slice a_Bits_a a_Bits_n a_Bits_e]⟩, .int .i64 k], H, K => T_laws_heldCoded a_Count a_Top a_Bits_a a_Bits_n a_Bits_e k H fun (r1 : Int) (H' : AHeap) => K (.int .i64 r1) H'
  | _, _, _ => False
def S_laws_heldCoded : FSpec := { F := F_laws_heldCoded, quiet := false, tame := true }
theorem laws_heldCoded_vc (a_Count : Int) (a_Top : Int) (a_Bits_a : Option Addr) (a_Bits_n : Nat) (a_Bits_e : Nat) (k : Int) (H : AHeap) (K : Value → AHeap → Prop) : bodyL Try.prog E_laws_heldCoded Try.f20 [.agg #[.int .i64 a_Count, .int .i64 a_Top, .slice a_Bits_a a_Bits_n a_Bits_e], .int .i64 k] H K =
  (Al [.int .i64 a_Count, .int .i64 a_Top, .slice a_Bits_a a_Bits_n a_Bits_e] H fun b1 H1 => ∃ x1_a : Option Addr, ∃ x1_n : Nat, ∃ x1_e : Nat,  rdC H1 b1 2 = some (.slice x1_a x1_n x1_e) ∧ T_laws_heldBoolS x1_a x1_n x1_e k H1 fun (r1 : Int) (H2 : AHeap) => Br (decide ((r1 : Int) < 0)) (K (.int .i64 (-1)) H2) (K (.int .i64 r1) H2)) := by kernel_rfl
theorem E_laws_heldCoded_ok : ∀ g, FnOk Try.prog g (E_laws_heldCoded g) := FnOk.envOf (by
  intro x hx
  simp only [List.mem_cons, List.not_mem_nil, or_false] at hx
  subst hx; exact laws_heldBoolS_ok)
set_option maxHeartbeats 1000000 in
theorem laws_heldCoded_main (a_Count : Int) (a_Top : Int) (a_Bits_a : Option Addr) (a_Bits_n : Nat) (a_Bits_e : Nat) (k : Int) (H : AHeap) (K : Value → AHeap → Prop) (h : T_laws_heldCoded a_Count a_Top a_Bits_a a_Bits_n a_Bits_e k H fun (r1 : Int) (H' : AHeap) => K (.int .i64 r1) H') : bodyL Try.prog E_laws_heldCoded Try.f20 [.agg #[.int .i64 a_Count, .int .i64 a_Top, .slice a_Bits_a a_Bits_n a_Bits_e], .int .i64 k] H K := by
  rw [laws_heldCoded_vc]
  obtain ⟨l_a_Bits, i_a_Bits, bd_12, hk⟩ := h
  obtain rfl := i_a_Bits.eqn
  have e : (p_laws_heldCoded a_Count a_Top l_a_Bits k) = _ := rfl
  have e := e.trans (p_laws_heldCoded_eq a_Count a_Top l_a_Bits k)
  have g0 := Grow.refl H
  refine Al.intro (fun b_1 H_1 hb_2 hl_3 g_4 o_5 => ?_)
  have l_7 := g_4.1
  have g_8 := g0.trans g_4
  have l_9 := g_8.1
  have w_11 := o_5.lt
  refine ⟨a_Bits_a, l_a_Bits.length, a_Bits_e, (o_5.rdC _).trans rfl, ?_⟩
  refine T_laws_heldBoolS_i ⟨_, (i_a_Bits.grow g_8), o0, ?_⟩
  refine Br.intro (fun c_10 => ?_) (fun c_10 => ?_)
  · have e := e.trans (cond_t c_10)
    have c_10' := of_decide_eq_true c_10
    rw [e] at hk
    exact hk  H_1 g_8 
  · have e := e.trans (cond_f c_10)
    have c_10' := of_decide_eq_false c_10
    rw [e] at hk
    exact hk  H_1 g_8 
theorem laws_heldCoded_ok : FnOk Try.prog 20 S_laws_heldCoded := by
  refine FnOk.body mix_ok E_laws_heldCoded_ok Try.func20 rfl (by kernel_rfl) (by kernel_rfl) ?_ ?_ ?_ ?_ ?_
  · intro args H K K' h hk
    simp only [S_laws_heldCoded] at *
    unfold F_laws_heldCoded at *
    split at hk
    · obtain ⟨l_a_Bits, i_a_Bits, bd_12, k⟩ := hk
      exact ⟨l_a_Bits, i_a_Bits, bd_12, (fun  H' gg  => h _ _ (k  H' gg ))⟩
    · exact hk.elim
  · intro hq; cases hq
  · intro args H K hk
    simp only [S_laws_heldCoded] at *
    unfold F_laws_heldCoded at *
    split at hk
    · obtain ⟨l_a_Bits, i_a_Bits, bd_12, k⟩ := hk
      exact ⟨_, _, k H (Grow.refl H)⟩
    · exact hk.elim
  · intro _ args H K hk
    simp only [S_laws_heldCoded] at *
    unfold F_laws_heldCoded at *
    split at hk
    · obtain ⟨l_a_Bits, i_a_Bits, bd_12, k⟩ := hk
      exact ⟨l_a_Bits, i_a_Bits, bd_12, (fun  H' gg  => ⟨gg, k  H' gg ⟩)⟩
    · exact hk.elim
  · have mm := @laws_heldCoded_main
    have ml := fun (args : List Value) (H : AHeap) (K : Value → AHeap → Prop) => bodyL_body (P := Try.prog) (env := E_laws_heldCoded ) (fn := Try.f20) (args := args) (H := H) (K := K) E_laws_heldCoded_ok 
    revert mm ml
    generalize bodyK Try.prog E_laws_heldCoded Try.f20 = Q
    generalize bodyL Try.prog E_laws_heldCoded Try.f20 = QL
    intro mm ml args H K hk
    simp only [S_laws_heldCoded] at *
    unfold F_laws_heldCoded at *
    split at hk
    · exact ml _ H K (mm _ _ _ _ _ _ H K hk)
    · exact hk.elim

def p_laws_FnExactCutCoded (aC_Count : Int) (aC_Top : Int) (l_aC_Bits : List Bool) (aCount : Int) : Bool := ((bif decide (((p_laws_szCoded aC_Count aC_Top l_aC_Bits (1048576 : Int)) : Int) < 0) then true else (bif !((p_laws_eqCoded ((p_impl_CutCoded aC_Count aC_Top l_aC_Bits aCount).1) ((p_impl_CutCoded aC_Count aC_Top l_aC_Bits aCount).2.1) ((p_impl_CutCoded aC_Count aC_Top l_aC_Bits aCount).2.2.1) ((p_spec_CutCoded aC_Count aC_Top l_aC_Bits aCount).1) ((p_spec_CutCoded aC_Count aC_Top l_aC_Bits aCount).2.1) ((p_spec_CutCoded aC_Count aC_Top l_aC_Bits aCount).2.2.1))) then false else (bif !(((p_impl_CutCoded aC_Count aC_Top l_aC_Bits aCount).2.2.2) == ((p_spec_CutCoded aC_Count aC_Top l_aC_Bits aCount).2.2.2)) then false else (bif !(p_laws_eqCoded aC_Count aC_Top l_aC_Bits aC_Count aC_Top l_aC_Bits) then false else (bif decide (((wk (1 : Int) l_aC_Bits.length) : Int) < 0) then false else (bif !((p_laws_eqCoded ((p_impl_CutCoded aC_Count aC_Top l_aC_Bits aCount).1) ((p_impl_CutCoded aC_Count aC_Top l_aC_Bits aCount).2.1) ((p_impl_CutCoded aC_Count aC_Top l_aC_Bits aCount).2.2.1) ((p_spec_CutCoded aC_Count aC_Top l_aC_Bits aCount).1) ((p_spec_CutCoded aC_Count aC_Top l_aC_Bits aCount).2.1) ((p_spec_CutCoded aC_Count aC_Top l_aC_Bits aCount).2.2.1))) then false else (bif !(((p_impl_CutCoded aC_Count aC_Top l_aC_Bits aCount).2.2.2) == ((p_spec_CutCoded aC_Count aC_Top l_aC_Bits aCount).2.2.2)) then false else (bif decide (((p_laws_heldCoded ((p_impl_CutCoded aC_Count aC_Top l_aC_Bits aCount).1) ((p_impl_CutCoded aC_Count aC_Top l_aC_Bits aCount).2.1) ((marks (fun n : Int => (Int.tmod n 3 == 0)) (1 : Int) ((p_impl_CutCoded aC_Count aC_Top l_aC_Bits aCount).2.2.1).length)) (1 : Int)) : Int) < 0) then false else (bif ((p_laws_heldCoded ((p_impl_CutCoded aC_Count aC_Top l_aC_Bits aCount).1) ((p_impl_CutCoded aC_Count aC_Top l_aC_Bits aCount).2.1) ((marks (fun n : Int => (Int.tmod n 3 == 0)) (1 : Int) ((p_impl_CutCoded aC_Count aC_Top l_aC_Bits aCount).2.2.1).length)) (1 : Int)) : Int) != (wk (1 : Int) ((p_impl_CutCoded aC_Count aC_Top l_aC_Bits aCount).2.2.1).length) then false else (bif !((p_laws_eqCoded ((p_impl_CutCoded aC_Count aC_Top l_aC_Bits aCount).1) ((p_impl_CutCoded aC_Count aC_Top l_aC_Bits aCount).2.1) ((p_impl_CutCoded aC_Count aC_Top l_aC_Bits aCount).2.2.1) ((p_spec_CutCoded aC_Count aC_Top l_aC_Bits aCount).1) ((p_spec_CutCoded aC_Count aC_Top l_aC_Bits aCount).2.1) ((p_spec_CutCoded aC_Count aC_Top l_aC_Bits aCount).2.2.1))) then false else (bif !(((p_impl_CutCoded aC_Count aC_Top l_aC_Bits aCount).2.2.2) == ((p_spec_CutCoded aC_Count aC_Top l_aC_Bits aCount).2.2.2)) then false else (bif decide (((p_laws_heldCoded ((p_impl_CutCoded aC_Count aC_Top l_aC_Bits aCount).1) ((p_impl_CutCoded aC_Count aC_Top l_aC_Bits aCount).2.1) ((marks (fun n : Int => (Int.tmod n 3 == 0)) (1 : Int) ((p_impl_CutCoded aC_Count aC_Top l_aC_Bits aCount).2.2.1).length)) (1 : Int)) : Int) < 0) then false else (bif ((p_laws_heldCoded ((p_impl_CutCoded aC_Count aC_Top l_aC_Bits aCount).1) ((p_impl_CutCoded aC_Count aC_Top l_aC_Bits aCount).2.1) ((marks (fun n : Int => (Int.tmod n 3 == 0)) (1 : Int) ((p_impl_CutCoded aC_Count aC_Top l_aC_Bits aCount).2.2.1).length)) (1 : Int)) : Int) != (wk (1 : Int) ((p_impl_CutCoded aC_Count aC_Top l_aC_Bits aCount).2.2.1).length) then false else true))))))))))))))
def p_laws_FnExactCutCoded_eq := @p_laws_FnExactCutCoded.eq_1
def T_laws_FnExactCutCoded (aC_Count : Int) (aC_Top : Int) (aC_Bits_a : Option Addr) (aC_Bits_n : Nat) (aC_Bits_e : Nat) (aCount : Int) (H : AHeap) (K : Bool → AHeap → Prop) : Prop := ∃ l_aC_Bits : List Bool, I64 aC_Count ∧ I64 aC_Top ∧ IsL fB H aC_Bits_a aC_Bits_n l_aC_Bits ∧ l_aC_Bits.length ≤ 9223372036854775807 ∧ I64 aCount ∧ ∀ H' : AHeap, K true H'
theorem cutCoded_same (a b : Int) (l : List Bool) (c : Int) : p_impl_CutCoded a b l c = p_spec_CutCoded a b l c := rfl
theorem laws_FnExactCutCoded_true (aC_Count : Int) (aC_Top : Int) (l_aC_Bits : List Bool) (aCount : Int) (q0 : I64 aC_Count) (q1 : I64 aC_Top) (q2 : l_aC_Bits.length ≤ 9223372036854775807) (q3 : I64 aCount) : p_laws_FnExactCutCoded aC_Count aC_Top l_aC_Bits aCount = true := by
  rw [p_laws_FnExactCutCoded_eq, cutCoded_same]
  rcases laws_szCoded_f aC_Count aC_Top l_aC_Bits 1048576 (by decide) (by decide) q2 with h | ⟨h, h'⟩
  · rw [decide_eq_true h]; rfl
  · have hr := spec_CutCoded_len aC_Count aC_Top l_aC_Bits aCount
    rw [decide_eq_false (show ¬ p_laws_szCoded aC_Count aC_Top l_aC_Bits 1048576 < 0 by omega), cond_false]
    have hw := wk_eq l_aC_Bits.length 1 o2 o2
    have hv := wk_eq (p_spec_CutCoded aC_Count aC_Top l_aC_Bits aCount).2.2.1.length 1 o2 o2
    simp only [p_laws_heldCoded_eq, laws_heldBoolS_marks, laws_eqCoded_self, Bool.not_true, cond_false, beq_self_eq_true, bne_self_eq_false, decide_eq_false (show ¬ wk 1 l_aC_Bits.length < (0 : Int) by omega), decide_eq_false (show ¬ wk 1 (p_spec_CutCoded aC_Count aC_Top l_aC_Bits aCount).2.2.1.length < (0 : Int) by omega)]
/-! laws_FnExactCutCoded: function 3 -/
def E_laws_FnExactCutCoded : Env := envOf [(14, S_laws_szCoded), (16, S_laws_toCoded), (15, S_spec_CutCoded), (17, S_impl_CutCoded), (18, S_laws_eqCoded), (19, S_laws_markCoded), (20, S_laws_heldCoded)]
def F_laws_FnExactCutCoded : List Value → AHeap → (Value → AHeap → Prop) → Prop
  | [.agg ⟨[.int .i64 aC_Count, .int .i64 aC_Top, .slice aC_Bits_a aC_Bits_n aC_Bits_e]⟩, .int .i64 aCount], H, K => T_laws_FnExactCutCoded aC_Count aC_Top aC_Bits_a aC_Bits_n aC_Bits_e aCount H fun (r1 : Bool) (H' : AHeap) => K (.bool r1) H'
  | _, _, _ => False
def S_laws_FnExactCutCoded : FSpec := { F := F_laws_FnExactCutCoded, quiet := false, tame := false }
theorem laws_FnExactCutCoded_vc (aC_Count : Int) (aC_Top : Int) (aC_Bits_a : Option Addr) (aC_Bits_n : Nat) (aC_Bits_e : Nat) (aCount : Int) (H : AHeap) (K : Value → AHeap → Prop) : bodyL Try.prog E_laws_FnExactCutCoded Try.f3 [.agg #[.int .i64 aC_Count, .int .i64 aC_Top, .slice aC_Bits_a aC_Bits_n aC_Bits_e], .int .i64 aCount] H K =
  (Al [.int .i64 aC_Count, .int .i64 aC_Top, .slice aC_Bits_a aC_Bits_n aC_Bits_e] H fun b1 H1 => ∃ c1 : Int, ∃ c2 : Int, ∃ c3_a : Option Addr, ∃ c3_n : Nat, ∃ c3_e : Nat,  rdN H1 b1 0 3 = some [.int .i64 c1, .int .i64 c2, .slice c3_a c3_n c3_e] ∧ T_laws_szCoded c1 c2 c3_a c3_n c3_e 1048576 H1 fun (r1 : Int) (H2 : AHeap) => Br (decide ((r1 : Int) < 0)) (K (.bool true) H2) (∃ c4 : Int, ∃ c5 : Int, ∃ c6_a : Option Addr, ∃ c6_n : Nat, ∃ c6_e : Nat,  rdN H2 b1 0 3 = some [.int .i64 c4, .int .i64 c5, .slice c6_a c6_n c6_e] ∧ T_laws_toCoded c4 c5 c6_a c6_n c6_e H2 fun (r2 : Int) (r3 : Int) (a1 : Option Addr) (r4 : Nat) (r5 : Nat) (H3 : AHeap) => T_spec_CutCoded r2 r3 a1 r4 r5 aCount H3 fun (r6 : Int) (r7 : Int) (a2 : Option Addr) (r8 : Nat) (r9 : Nat) (r10 : Bool) (H4 : AHeap) => Al [.int .i64 0, .int .i64 0, .slice none 0 0] H4 fun b2 H5 => isOwn H5 b2 ∧ (∃ l, rdN H5 b2 0 3 = some l) ∧ Lt (setN H5 b2 0 [.int .i64 r6, .int .i64 r7, .slice a2 r8 r9]) fun H6 => ∃ c7 : Int, ∃ c8 : Int, ∃ c9_a : Option Addr, ∃ c9_n : Nat, ∃ c9_e : Nat,  rdN H6 b1 0 3 = some [.int .i64 c7, .int .i64 c8, .slice c9_a c9_n c9_e] ∧ T_laws_toCoded c7 c8 c9_a c9_n c9_e H6 fun (r11 : Int) (r12 : Int) (a3 : Option Addr) (r13 : Nat) (r14 : Nat) (H7 : AHeap) => Al [.int .i64 0, .int .i64 0, .slice none 0 0] H7 fun b3 H8 => isOwn H8 b3 ∧ (∃ l, rdN H8 b3 0 3 = some l) ∧ Lt (setN H8 b3 0 [.int .i64 r11, .int .i64 r12, .slice a3 r13 r14]) fun H9 => ∃ c10 : Int, ∃ c11 : Int, ∃ c12_a : Option Addr, ∃ c12_n : Nat, ∃ c12_e : Nat,  rdN H9 b3 0 3 = some [.int .i64 c10, .int .i64 c11, .slice c12_a c12_n c12_e] ∧ T_impl_CutCoded c10 c11 c12_a c12_n c12_e aCount H9 fun (r15 : Int) (r16 : Int) (a4 : Option Addr) (r17 : Nat) (r18 : Nat) (r19 : Bool) (H10 : AHeap) => Al [.int .i64 0, .int .i64 0, .slice none 0 0] H10 fun b4 H11 => isOwn H11 b4 ∧ (∃ l, rdN H11 b4 0 3 = some l) ∧ Lt (setN H11 b4 0 [.int .i64 r15, .int .i64 r16, .slice a4 r17 r18]) fun H12 => ∃ c13 : Int, ∃ c14 : Int, ∃ c15_a : Option Addr, ∃ c15_n : Nat, ∃ c15_e : Nat,  rdN H12 b4 0 3 = some [.int .i64 c13, .int .i64 c14, .slice c15_a c15_n c15_e] ∧ ∃ c16 : Int, ∃ c17 : Int, ∃ c18_a : Option Addr, ∃ c18_n : Nat, ∃ c18_e : Nat,  rdN H12 b2 0 3 = some [.int .i64 c16, .int .i64 c17, .slice c18_a c18_n c18_e] ∧ T_laws_eqCoded c13 c14 c15_a c15_n c15_e c16 c17 c18_a c18_n c18_e H12 fun (r20 : Bool) (H13 : AHeap) => Br (!r20) (K (.bool false) H13) (Br (!(r19 == r10)) (K (.bool false) H13) (∃ c19 : Int, ∃ c20 : Int, ∃ c21_a : Option Addr, ∃ c21_n : Nat, ∃ c21_e : Nat,  rdN H13 b1 0 3 = some [.int .i64 c19, .int .i64 c20, .slice c21_a c21_n c21_e] ∧ ∃ c22 : Int, ∃ c23 : Int, ∃ c24_a : Option Addr, ∃ c24_n : Nat, ∃ c24_e : Nat,  rdN H13 b3 0 3 = some [.int .i64 c22, .int .i64 c23, .slice c24_a c24_n c24_e] ∧ T_laws_toCoded c19 c20 c21_a c21_n c21_e H13 fun (r21 : Int) (r22 : Int) (a5 : Option Addr) (r23 : Nat) (r24 : Nat) (H14 : AHeap) => T_laws_eqCoded c22 c23 c24_a c24_n c24_e r21 r22 a5 r23 r24 H14 fun (r25 : Bool) (H15 : AHeap) => Br (!r25) (K (.bool false) H15) (∃ c25 : Int, ∃ c26 : Int, ∃ c27_a : Option Addr, ∃ c27_n : Nat, ∃ c27_e : Nat,  rdN H15 b3 0 3 = some [.int .i64 c25, .int .i64 c26, .slice c27_a c27_n c27_e] ∧ T_laws_markCoded c25 c26 c27_a c27_n c27_e 1 H15 fun (r26 : Int) (H16 : AHeap) => Br (decide ((r26 : Int) < 0)) (K (.bool false) H16) (∃ c28 : Int, ∃ c29 : Int, ∃ c30_a : Option Addr, ∃ c30_n : Nat, ∃ c30_e : Nat,  rdN H16 b4 0 3 = some [.int .i64 c28, .int .i64 c29, .slice c30_a c30_n c30_e] ∧ ∃ c31 : Int, ∃ c32 : Int, ∃ c33_a : Option Addr, ∃ c33_n : Nat, ∃ c33_e : Nat,  rdN H16 b2 0 3 = some [.int .i64 c31, .int .i64 c32, .slice c33_a c33_n c33_e] ∧ T_laws_eqCoded c28 c29 c30_a c30_n c30_e c31 c32 c33_a c33_n c33_e H16 fun (r27 : Bool) (H17 : AHeap) => Br (!r27) (K (.bool false) H17) (Br (!(r19 == r10)) (K (.bool false) H17) (∃ c34 : Int, ∃ c35 : Int, ∃ c36_a : Option Addr, ∃ c36_n : Nat, ∃ c36_e : Nat,  rdN H17 b4 0 3 = some [.int .i64 c34, .int .i64 c35, .slice c36_a c36_n c36_e] ∧ T_laws_markCoded c34 c35 c36_a c36_n c36_e 1 H17 fun (r28 : Int) (H18 : AHeap) => ∃ c37 : Int, ∃ c38 : Int, ∃ c39_a : Option Addr, ∃ c39_n : Nat, ∃ c39_e : Nat,  rdN H18 b4 0 3 = some [.int .i64 c37, .int .i64 c38, .slice c39_a c39_n c39_e] ∧ T_laws_heldCoded c37 c38 c39_a c39_n c39_e 1 H18 fun (r29 : Int) (H19 : AHeap) => Br (decide ((r29 : Int) < 0)) (K (.bool false) H19) (Br ((r29 : Int) != r28) (K (.bool false) H19) (∃ c40 : Int, ∃ c41 : Int, ∃ c42_a : Option Addr, ∃ c42_n : Nat, ∃ c42_e : Nat,  rdN H19 b1 0 3 = some [.int .i64 c40, .int .i64 c41, .slice c42_a c42_n c42_e] ∧ T_laws_toCoded c40 c41 c42_a c42_n c42_e H19 fun (r30 : Int) (r31 : Int) (a6 : Option Addr) (r32 : Nat) (r33 : Nat) (H20 : AHeap) => T_impl_CutCoded r30 r31 a6 r32 r33 aCount H20 fun (r34 : Int) (r35 : Int) (a7 : Option Addr) (r36 : Nat) (r37 : Nat) (r38 : Bool) (H21 : AHeap) => Al [.int .i64 0, .int .i64 0, .slice none 0 0] H21 fun b5 H22 => isOwn H22 b5 ∧ (∃ l, rdN H22 b5 0 3 = some l) ∧ Lt (setN H22 b5 0 [.int .i64 r34, .int .i64 r35, .slice a7 r36 r37]) fun H23 => ∃ c43 : Int, ∃ c44 : Int, ∃ c45_a : Option Addr, ∃ c45_n : Nat, ∃ c45_e : Nat,  rdN H23 b5 0 3 = some [.int .i64 c43, .int .i64 c44, .slice c45_a c45_n c45_e] ∧ ∃ c46 : Int, ∃ c47 : Int, ∃ c48_a : Option Addr, ∃ c48_n : Nat, ∃ c48_e : Nat,  rdN H23 b2 0 3 = some [.int .i64 c46, .int .i64 c47, .slice c48_a c48_n c48_e] ∧ T_laws_eqCoded c43 c44 c45_a c45_n c45_e c46 c47 c48_a c48_n c48_e H23 fun (r39 : Bool) (H24 : AHeap) => Br (!r39) (K (.bool false) H24) (Br (!(r38 == r10)) (K (.bool false) H24) (∃ c49 : Int, ∃ c50 : Int, ∃ c51_a : Option Addr, ∃ c51_n : Nat, ∃ c51_e : Nat,  rdN H24 b4 0 3 = some [.int .i64 c49, .int .i64 c50, .slice c51_a c51_n c51_e] ∧ T_laws_heldCoded c49 c50 c51_a c51_n c51_e 1 H24 fun (r40 : Int) (H25 : AHeap) => Br (decide ((r40 : Int) < 0)) (K (.bool false) H25) (Br ((r40 : Int) != r28) (K (.bool false) H25) (K (.bool true) H25)))))))))))))) := by kernel_rfl
theorem E_laws_FnExactCutCoded_ok : ∀ g, FnOk Try.prog g (E_laws_FnExactCutCoded g) := FnOk.envOf (by
  intro x hx
  simp only [List.mem_cons, List.not_mem_nil, or_false] at hx
  rcases hx with rfl | rfl | rfl | rfl | rfl | rfl | rfl
  · exact laws_szCoded_ok
  · exact laws_toCoded_ok
  · exact spec_CutCoded_ok
  · exact impl_CutCoded_ok
  · exact laws_eqCoded_ok
  · exact laws_markCoded_ok
  · exact laws_heldCoded_ok)
set_option maxHeartbeats 1000000 in
theorem laws_FnExactCutCoded_main (aC_Count : Int) (aC_Top : Int) (aC_Bits_a : Option Addr) (aC_Bits_n : Nat) (aC_Bits_e : Nat) (aCount : Int) (H : AHeap) (K : Value → AHeap → Prop) (h : T_laws_FnExactCutCoded aC_Count aC_Top aC_Bits_a aC_Bits_n aC_Bits_e aCount H fun (r1 : Bool) (H' : AHeap) => K (.bool r1) H') : bodyL Try.prog E_laws_FnExactCutCoded Try.f3 [.agg #[.int .i64 aC_Count, .int .i64 aC_Top, .slice aC_Bits_a aC_Bits_n aC_Bits_e], .int .i64 aCount] H K := by
  rw [laws_FnExactCutCoded_vc]
  obtain ⟨l_aC_Bits, h_0, h_1, h_2, h_3, h_4, hk⟩ := h
  have i_aC_Bits := h_2
  obtain rfl := i_aC_Bits.eqn
  have hl := laws_FnExactCutCoded_true aC_Count aC_Top l_aC_Bits aCount h_0 h_1 h_3 h_4
  have e : p_laws_FnExactCutCoded aC_Count aC_Top l_aC_Bits aCount = _ := rfl
  have e := e.trans (p_laws_FnExactCutCoded_eq aC_Count aC_Top l_aC_Bits aCount)
  have e := hl.symm.trans e
  have g0 := Grow.refl H
  refine Al.intro (fun b_1 H_1 hb_2 hl_3 g_4 o_5 => ?_)
  have l_7 := g_4.1
  have g_8 := g0.trans g_4
  have l_9 := g_8.1
  have w_452 := o_5.lt
  refine ⟨aC_Count, aC_Top, aC_Bits_a, l_aC_Bits.length, aC_Bits_e, (o_5.rdN (Nat.le_of_ble_eq_true rfl)).trans rfl, ?_⟩
  refine T_laws_szCoded_i ⟨_, (i_aC_Bits.grow g_8), fun  H_2 g_11  => ?_⟩
  have z_10 := laws_szCoded_f aC_Count aC_Top l_aC_Bits (1048576 : Int)
  have l_12 := g_11.1
  have g_13 := g_8.trans g_11
  have l_14 := g_13.1
  have o_15 := o_5.grow g_11
  have w_16 := o_15.lt
  refine Br.intro (fun c_17 => ?_) (fun c_17 => ?_)
  · have e := e.trans (cond_t c_17)
    have c_17' := of_decide_eq_true c_17
    first | exact hk _ | (exfalso; cases e; done) | (rw [← e]; exact hk _)
  · have e := e.trans (cond_f c_17)
    have c_17' := of_decide_eq_false c_17
    refine ⟨aC_Count, aC_Top, aC_Bits_a, l_aC_Bits.length, aC_Bits_e, (o_15.rdN (Nat.le_of_ble_eq_true rfl)).trans rfl, ?_⟩
    refine T_laws_toCoded_i ⟨_, (i_aC_Bits.grow g_13), o0, fun a_18 n_19 e_20 H_3 g_22 r_21 => ?_⟩
    have l_23 := g_22.1
    have g_24 := g_13.trans g_22
    have l_25 := g_24.1
    have o_26 := o_15.grow g_22
    have w_27 := o_26.lt
    obtain rfl := r_21.isL.eqn
    have u_28 := r_21.up
    have u_29 := r_21.lo
    refine T_spec_CutCoded_i ⟨_, r_21.isL, o0, fun a_31 n_32 e_33 H_4 g_36 r_34 => ?_⟩
    have z_35 := spec_CutCoded_len aC_Count aC_Top l_aC_Bits aCount
    have l_37 := g_36.1
    have g_38 := g_24.trans g_36
    have l_39 := g_38.1
    have o_40 := o_26.grow g_36
    have w_41 := o_40.lt
    have r_42 := r_21.grow g_36
    obtain rfl := r_34.isL.eqn
    have u_43 := r_34.up
    have u_44 := r_34.lo
    refine Al.intro (fun b_46 H_5 hb_47 hl_48 g_49 o_50 => ?_)
    have l_52 := g_49.1
    have g_53 := g_38.trans g_49
    have l_54 := g_53.1
    have o_55 := o_40.grow g_49
    have w_56 := o_55.lt
    have r_57 := r_42.grow g_49
    have r_58 := r_34.grow g_49
    have w_451 := o_50.lt
    refine Lt.setN (n := 3) o_50 (Nat.le_of_ble_eq_true rfl) rfl (fun H_6 hl_59 o_61 k_60 => ?_)
    have o_61 : Own H_6 b_46 [.int .i64 ((p_spec_CutCoded aC_Count aC_Top l_aC_Bits aCount).1), .int .i64 ((p_spec_CutCoded aC_Count aC_Top l_aC_Bits aCount).2.1), .slice a_31 (((p_spec_CutCoded aC_Count aC_Top l_aC_Bits aCount).2.2.1).length) e_33] := o_61
    have l_62 := k_60.1
    have g_63 := g_53.keep (b := b_46) o2 k_60
    have l_64 := g_63.1
    have o_65 := o_55.keep o2 k_60
    have w_66 := o_65.lt
    have r_67 := r_57.keep u_28 o2 k_60
    have r_68 := r_58.keep u_43 o2 k_60
    have w_450 := o_61.lt
    refine ⟨aC_Count, aC_Top, aC_Bits_a, l_aC_Bits.length, aC_Bits_e, (o_65.rdN (Nat.le_of_ble_eq_true rfl)).trans rfl, ?_⟩
    refine T_laws_toCoded_i ⟨_, (i_aC_Bits.grow g_63), o0, fun a_69 n_70 e_71 H_7 g_73 r_72 => ?_⟩
    have l_74 := g_73.1
    have g_75 := g_63.trans g_73
    have l_76 := g_75.1
    have o_77 := o_65.grow g_73
    have w_78 := o_77.lt
    have o_79 := o_61.grow g_73
    have w_80 := o_79.lt
    have r_81 := r_67.grow g_73
    have r_82 := r_68.grow g_73
    obtain rfl := r_72.isL.eqn
    have u_83 := r_72.up
    have u_84 := r_72.lo
    refine Al.intro (fun b_86 H_8 hb_87 hl_88 g_89 o_90 => ?_)
    have l_92 := g_89.1
    have g_93 := g_75.trans g_89
    have l_94 := g_93.1
    have o_95 := o_77.grow g_89
    have w_96 := o_95.lt
    have o_97 := o_79.grow g_89
    have w_98 := o_97.lt
    have r_99 := r_81.grow g_89
    have r_100 := r_82.grow g_89
    have r_101 := r_72.grow g_89
    have w_449 := o_90.lt
    refine Lt.setN (n := 3) o_90 (Nat.le_of_ble_eq_true rfl) rfl (fun H_9 hl_102 o_104 k_103 => ?_)
    have o_104 : Own H_9 b_86 [.int .i64 aC_Count, .int .i64 aC_Top, .slice a_69 ((l_aC_Bits).length) e_71] := o_104
    have l_105 := k_103.1
    have g_106 := g_93.keep (b := b_86) o2 k_103
    have l_107 := g_106.1
    have o_108 := o_95.keep o2 k_103
    have w_109 := o_108.lt
    have o_110 := o_97.keep o2 k_103
    have w_111 := o_110.lt
    have r_112 := r_99.keep u_28 o2 k_103
    have r_113 := r_100.keep u_43 o2 k_103
    have r_114 := r_101.keep u_83 o2 k_103
    have w_448 := o_104.lt
    refine ⟨aC_Count, aC_Top, a_69, (l_aC_Bits).length, e_71, (o_104.rdN (Nat.le_of_ble_eq_true rfl)).trans rfl, ?_⟩
    refine T_impl_CutCoded_i ⟨_, r_114.isL, o0, fun a_115 n_116 e_117 H_10 g_120 r_118 => ?_⟩
    have z_119 := impl_CutCoded_len aC_Count aC_Top l_aC_Bits aCount
    have l_121 := g_120.1
    have g_122 := g_106.trans g_120
    have l_123 := g_122.1
    have o_124 := o_108.grow g_120
    have w_125 := o_124.lt
    have o_126 := o_110.grow g_120
    have w_127 := o_126.lt
    have o_128 := o_104.grow g_120
    have w_129 := o_128.lt
    have r_130 := r_112.grow g_120
    have r_131 := r_113.grow g_120
    have r_132 := r_114.grow g_120
    obtain rfl := r_118.isL.eqn
    have u_133 := r_118.up
    have u_134 := r_118.lo
    refine Al.intro (fun b_136 H_11 hb_137 hl_138 g_139 o_140 => ?_)
    have l_142 := g_139.1
    have g_143 := g_122.trans g_139
    have l_144 := g_143.1
    have o_145 := o_124.grow g_139
    have w_146 := o_145.lt
    have o_147 := o_126.grow g_139
    have w_148 := o_147.lt
    have o_149 := o_128.grow g_139
    have w_150 := o_149.lt
    have r_151 := r_130.grow g_139
    have r_152 := r_131.grow g_139
    have r_153 := r_132.grow g_139
    have r_154 := r_118.grow g_139
    have w_447 := o_140.lt
    refine Lt.setN (n := 3) o_140 (Nat.le_of_ble_eq_true rfl) rfl (fun H_12 hl_155 o_157 k_156 => ?_)
    have o_157 : Own H_12 b_136 [.int .i64 ((p_impl_CutCoded aC_Count aC_Top l_aC_Bits aCount).1), .int .i64 ((p_impl_CutCoded aC_Count aC_Top l_aC_Bits aCount).2.1), .slice a_115 (((p_impl_CutCoded aC_Count aC_Top l_aC_Bits aCount).2.2.1).length) e_117] := o_157
    have l_158 := k_156.1
    have g_159 := g_143.keep (b := b_136) o2 k_156
    have l_160 := g_159.1
    have o_161 := o_145.keep o2 k_156
    have w_162 := o_161.lt
    have o_163 := o_147.keep o2 k_156
    have w_164 := o_163.lt
    have o_165 := o_149.keep o2 k_156
    have w_166 := o_165.lt
    have r_167 := r_151.keep u_28 o2 k_156
    have r_168 := r_152.keep u_43 o2 k_156
    have r_169 := r_153.keep u_83 o2 k_156
    have r_170 := r_154.keep u_133 o2 k_156
    have w_446 := o_157.lt
    refine ⟨(p_impl_CutCoded aC_Count aC_Top l_aC_Bits aCount).1, (p_impl_CutCoded aC_Count aC_Top l_aC_Bits aCount).2.1, a_115, ((p_impl_CutCoded aC_Count aC_Top l_aC_Bits aCount).2.2.1).length, e_117, (o_157.rdN (Nat.le_of_ble_eq_true rfl)).trans rfl, ?_⟩
    refine ⟨(p_spec_CutCoded aC_Count aC_Top l_aC_Bits aCount).1, (p_spec_CutCoded aC_Count aC_Top l_aC_Bits aCount).2.1, a_31, ((p_spec_CutCoded aC_Count aC_Top l_aC_Bits aCount).2.2.1).length, e_33, (o_163.rdN (Nat.le_of_ble_eq_true rfl)).trans rfl, ?_⟩
    refine T_laws_eqCoded_i ⟨_, _, r_170.isL, r_168.isL, o0, o0, fun  H_13 g_171  => ?_⟩
    have l_172 := g_171.1
    have g_173 := g_159.trans g_171
    have l_174 := g_173.1
    have o_175 := o_161.grow g_171
    have w_176 := o_175.lt
    have o_177 := o_163.grow g_171
    have w_178 := o_177.lt
    have o_179 := o_165.grow g_171
    have w_180 := o_179.lt
    have o_181 := o_157.grow g_171
    have w_182 := o_181.lt
    have r_183 := r_167.grow g_171
    have r_184 := r_168.grow g_171
    have r_185 := r_169.grow g_171
    have r_186 := r_170.grow g_171
    refine Br.intro (fun c_187 => ?_) (fun c_187 => ?_)
    · have e := e.trans (cond_t c_187)
      have c_187n := nf_of_t c_187
      first | exact hk _ | (exfalso; cases e; done) | (rw [← e]; exact hk _)
    · have e := e.trans (cond_f c_187)
      have c_187n := nt_of_f c_187
      refine Br.intro (fun c_188 => ?_) (fun c_188 => ?_)
      · have e := e.trans (cond_t c_188)
        have c_188n := nf_of_t c_188
        first | exact hk _ | (exfalso; cases e; done) | (rw [← e]; exact hk _)
      · have e := e.trans (cond_f c_188)
        have c_188n := nt_of_f c_188
        refine ⟨aC_Count, aC_Top, aC_Bits_a, l_aC_Bits.length, aC_Bits_e, (o_175.rdN (Nat.le_of_ble_eq_true rfl)).trans rfl, ?_⟩
        refine ⟨aC_Count, aC_Top, a_69, (l_aC_Bits).length, e_71, (o_179.rdN (Nat.le_of_ble_eq_true rfl)).trans rfl, ?_⟩
        refine T_laws_toCoded_i ⟨_, (i_aC_Bits.grow g_173), o0, fun a_189 n_190 e_191 H_14 g_193 r_192 => ?_⟩
        have l_194 := g_193.1
        have g_195 := g_173.trans g_193
        have l_196 := g_195.1
        have o_197 := o_175.grow g_193
        have w_198 := o_197.lt
        have o_199 := o_177.grow g_193
        have w_200 := o_199.lt
        have o_201 := o_179.grow g_193
        have w_202 := o_201.lt
        have o_203 := o_181.grow g_193
        have w_204 := o_203.lt
        have r_205 := r_183.grow g_193
        have r_206 := r_184.grow g_193
        have r_207 := r_185.grow g_193
        have r_208 := r_186.grow g_193
        obtain rfl := r_192.isL.eqn
        have u_209 := r_192.up
        have u_210 := r_192.lo
        refine T_laws_eqCoded_i ⟨_, _, r_207.isL, r_192.isL, o0, o0, fun  H_15 g_212  => ?_⟩
        have l_213 := g_212.1
        have g_214 := g_195.trans g_212
        have l_215 := g_214.1
        have o_216 := o_197.grow g_212
        have w_217 := o_216.lt
        have o_218 := o_199.grow g_212
        have w_219 := o_218.lt
        have o_220 := o_201.grow g_212
        have w_221 := o_220.lt
        have o_222 := o_203.grow g_212
        have w_223 := o_222.lt
        have r_224 := r_205.grow g_212
        have r_225 := r_206.grow g_212
        have r_226 := r_207.grow g_212
        have r_227 := r_208.grow g_212
        have r_228 := r_192.grow g_212
        refine Br.intro (fun c_229 => ?_) (fun c_229 => ?_)
        · have e := e.trans (cond_t c_229)
          have c_229n := nf_of_t c_229
          first | exact hk _ | (exfalso; cases e; done) | (rw [← e]; exact hk _)
        · have e := e.trans (cond_f c_229)
          have c_229n := nt_of_f c_229
          refine ⟨aC_Count, aC_Top, a_69, (l_aC_Bits).length, e_71, (o_220.rdN (Nat.le_of_ble_eq_true rfl)).trans rfl, ?_⟩
          refine T_laws_markCoded_i ⟨_, _, r_226, o0, (fun H_16 k_230 o_231 => ?_)⟩
          have l_232 := k_230.1
          have g_233 := g_214.keepA (fun x hx => by have := u_84 x hx; omega) k_230
          have l_234 := g_233.1
          have o_235 := o_216.keepA (fun x hx => by have := u_84 x hx; have := u_83 x hx; omega) k_230
          have w_236 := o_235.lt
          have o_237 := o_218.keepA (fun x hx => by have := u_84 x hx; have := u_83 x hx; omega) k_230
          have w_238 := o_237.lt
          have o_239 := o_220.keepA (fun x hx => by have := u_84 x hx; have := u_83 x hx; omega) k_230
          have w_240 := o_239.lt
          have o_241 := o_222.keepA (fun x hx => by have := u_84 x hx; have := u_83 x hx; omega) k_230
          have w_242 := o_241.lt
          have r_243 := r_224.keepA (fun x y hx hy => by have := u_84 x hx; have := u_83 x hx; have := u_29 y hy; have := u_28 y hy; omega) k_230
          have r_244 := r_225.keepA (fun x y hx hy => by have := u_84 x hx; have := u_83 x hx; have := u_44 y hy; have := u_43 y hy; omega) k_230
          have r_245 := r_227.keepA (fun x y hx hy => by have := u_84 x hx; have := u_83 x hx; have := u_134 y hy; have := u_133 y hy; omega) k_230
          have r_246 := r_228.keepA (fun x y hx hy => by have := u_84 x hx; have := u_83 x hx; have := u_210 y hy; have := u_209 y hy; omega) k_230
          refine Br.intro (fun c_247 => ?_) (fun c_247 => ?_)
          · have e := e.trans (cond_t c_247)
            have c_247' := of_decide_eq_true c_247
            first | exact hk _ | (exfalso; cases e; done) | (rw [← e]; exact hk _)
          · have e := e.trans (cond_f c_247)
            have c_247' := of_decide_eq_false c_247
            refine ⟨(p_impl_CutCoded aC_Count aC_Top l_aC_Bits aCount).1, (p_impl_CutCoded aC_Count aC_Top l_aC_Bits aCount).2.1, a_115, ((p_impl_CutCoded aC_Count aC_Top l_aC_Bits aCount).2.2.1).length, e_117, (o_241.rdN (Nat.le_of_ble_eq_true rfl)).trans rfl, ?_⟩
            refine ⟨(p_spec_CutCoded aC_Count aC_Top l_aC_Bits aCount).1, (p_spec_CutCoded aC_Count aC_Top l_aC_Bits aCount).2.1, a_31, ((p_spec_CutCoded aC_Count aC_Top l_aC_Bits aCount).2.2.1).length, e_33, (o_237.rdN (Nat.le_of_ble_eq_true rfl)).trans rfl, ?_⟩
            refine T_laws_eqCoded_i ⟨_, _, r_245.isL, r_244.isL, o0, o0, fun  H_17 g_248  => ?_⟩
            have l_249 := g_248.1
            have g_250 := g_233.trans g_248
            have l_251 := g_250.1
            have o_252 := o_235.grow g_248
            have w_253 := o_252.lt
            have o_254 := o_237.grow g_248
            have w_255 := o_254.lt
            have o_256 := o_239.grow g_248
            have w_257 := o_256.lt
            have o_258 := o_241.grow g_248
            have w_259 := o_258.lt
            have r_260 := r_243.grow g_248
            have r_261 := r_244.grow g_248
            have r_262 := o_231.grow g_248
            have r_263 := r_245.grow g_248
            have r_264 := r_246.grow g_248
            refine Br.intro (fun c_265 => ?_) (fun c_265 => ?_)
            · have e := e.trans (cond_t c_265)
              have c_265n := nf_of_t c_265
              first | exact hk _ | (exfalso; cases e; done) | (rw [← e]; exact hk _)
            · have e := e.trans (cond_f c_265)
              have c_265n := nt_of_f c_265
              refine Br.intro (fun c_266 => ?_) (fun c_266 => ?_)
              · have e := e.trans (cond_t c_266)
                have c_266n := nf_of_t c_266
                first | exact hk _ | (exfalso; cases e; done) | (rw [← e]; exact hk _)
              · have e := e.trans (cond_f c_266)
                have c_266n := nt_of_f c_266
                refine ⟨(p_impl_CutCoded aC_Count aC_Top l_aC_Bits aCount).1, (p_impl_CutCoded aC_Count aC_Top l_aC_Bits aCount).2.1, a_115, ((p_impl_CutCoded aC_Count aC_Top l_aC_Bits aCount).2.2.1).length, e_117, (o_258.rdN (Nat.le_of_ble_eq_true rfl)).trans rfl, ?_⟩
                refine T_laws_markCoded_i ⟨_, _, r_263, o0, (fun H_18 k_267 o_268 => ?_)⟩
                have l_269 := k_267.1
                have g_270 := g_250.keepA (fun x hx => by have := u_134 x hx; omega) k_267
                have l_271 := g_270.1
                have o_272 := o_252.keepA (fun x hx => by have := u_134 x hx; have := u_133 x hx; omega) k_267
                have w_273 := o_272.lt
                have o_274 := o_254.keepA (fun x hx => by have := u_134 x hx; have := u_133 x hx; omega) k_267
                have w_275 := o_274.lt
                have o_276 := o_256.keepA (fun x hx => by have := u_134 x hx; have := u_133 x hx; omega) k_267
                have w_277 := o_276.lt
                have o_278 := o_258.keepA (fun x hx => by have := u_134 x hx; have := u_133 x hx; omega) k_267
                have w_279 := o_278.lt
                have r_280 := r_260.keepA (fun x y hx hy => by have := u_134 x hx; have := u_133 x hx; have := u_29 y hy; have := u_28 y hy; omega) k_267
                have r_281 := r_261.keepA (fun x y hx hy => by have := u_134 x hx; have := u_133 x hx; have := u_44 y hy; have := u_43 y hy; omega) k_267
                have r_282 := r_262.keepA (fun x y hx hy => by have := u_134 x hx; have := u_133 x hx; have := u_84 y hy; have := u_83 y hy; omega) k_267
                have r_283 := r_264.keepA (fun x y hx hy => by have := u_134 x hx; have := u_133 x hx; have := u_210 y hy; have := u_209 y hy; omega) k_267
                refine ⟨(p_impl_CutCoded aC_Count aC_Top l_aC_Bits aCount).1, (p_impl_CutCoded aC_Count aC_Top l_aC_Bits aCount).2.1, a_115, ((p_impl_CutCoded aC_Count aC_Top l_aC_Bits aCount).2.2.1).length, e_117, (o_278.rdN (Nat.le_of_ble_eq_true rfl)).trans rfl, ?_⟩
                refine T_laws_heldCoded_i ⟨_, o_268.isL, o0, fun  H_19 g_284  => ?_⟩
                have l_285 := g_284.1
                have g_286 := g_270.trans g_284
                have l_287 := g_286.1
                have o_288 := o_272.grow g_284
                have w_289 := o_288.lt
                have o_290 := o_274.grow g_284
                have w_291 := o_290.lt
                have o_292 := o_276.grow g_284
                have w_293 := o_292.lt
                have o_294 := o_278.grow g_284
                have w_295 := o_294.lt
                have r_296 := r_280.grow g_284
                have r_297 := r_281.grow g_284
                have r_298 := r_282.grow g_284
                have r_299 := o_268.grow g_284
                have r_300 := r_283.grow g_284
                refine Br.intro (fun c_301 => ?_) (fun c_301 => ?_)
                · have e := e.trans (cond_t c_301)
                  have c_301' := of_decide_eq_true c_301
                  first | exact hk _ | (exfalso; cases e; done) | (rw [← e]; exact hk _)
                · have e := e.trans (cond_f c_301)
                  have c_301' := of_decide_eq_false c_301
                  refine Br.intro (fun c_302 => ?_) (fun c_302 => ?_)
                  · have e := e.trans (cond_t c_302)
                    have c_302' := ine_t c_302
                    first | exact hk _ | (exfalso; cases e; done) | (rw [← e]; exact hk _)
                  · have e := e.trans (cond_f c_302)
                    have c_302' := ine_f c_302
                    refine ⟨aC_Count, aC_Top, aC_Bits_a, l_aC_Bits.length, aC_Bits_e, (o_288.rdN (Nat.le_of_ble_eq_true rfl)).trans rfl, ?_⟩
                    refine T_laws_toCoded_i ⟨_, (i_aC_Bits.grow g_286), o0, fun a_303 n_304 e_305 H_20 g_307 r_306 => ?_⟩
                    have l_308 := g_307.1
                    have g_309 := g_286.trans g_307
                    have l_310 := g_309.1
                    have o_311 := o_288.grow g_307
                    have w_312 := o_311.lt
                    have o_313 := o_290.grow g_307
                    have w_314 := o_313.lt
                    have o_315 := o_292.grow g_307
                    have w_316 := o_315.lt
                    have o_317 := o_294.grow g_307
                    have w_318 := o_317.lt
                    have r_319 := r_296.grow g_307
                    have r_320 := r_297.grow g_307
                    have r_321 := r_298.grow g_307
                    have r_322 := r_299.grow g_307
                    have r_323 := r_300.grow g_307
                    obtain rfl := r_306.isL.eqn
                    have u_324 := r_306.up
                    have u_325 := r_306.lo
                    refine T_impl_CutCoded_i ⟨_, r_306.isL, o0, fun a_327 n_328 e_329 H_21 g_332 r_330 => ?_⟩
                    have z_331 := impl_CutCoded_len aC_Count aC_Top l_aC_Bits aCount
                    have l_333 := g_332.1
                    have g_334 := g_309.trans g_332
                    have l_335 := g_334.1
                    have o_336 := o_311.grow g_332
                    have w_337 := o_336.lt
                    have o_338 := o_313.grow g_332
                    have w_339 := o_338.lt
                    have o_340 := o_315.grow g_332
                    have w_341 := o_340.lt
                    have o_342 := o_317.grow g_332
                    have w_343 := o_342.lt
                    have r_344 := r_319.grow g_332
                    have r_345 := r_320.grow g_332
                    have r_346 := r_321.grow g_332
                    have r_347 := r_322.grow g_332
                    have r_348 := r_323.grow g_332
                    have r_349 := r_306.grow g_332
                    obtain rfl := r_330.isL.eqn
                    have u_350 := r_330.up
                    have u_351 := r_330.lo
                    refine Al.intro (fun b_353 H_22 hb_354 hl_355 g_356 o_357 => ?_)
                    have l_359 := g_356.1
                    have g_360 := g_334.trans g_356
                    have l_361 := g_360.1
                    have o_362 := o_336.grow g_356
                    have w_363 := o_362.lt
                    have o_364 := o_338.grow g_356
                    have w_365 := o_364.lt
                    have o_366 := o_340.grow g_356
                    have w_367 := o_366.lt
                    have o_368 := o_342.grow g_356
                    have w_369 := o_368.lt
                    have r_370 := r_344.grow g_356
                    have r_371 := r_345.grow g_356
                    have r_372 := r_346.grow g_356
                    have r_373 := r_347.grow g_356
                    have r_374 := r_348.grow g_356
                    have r_375 := r_349.grow g_356
                    have r_376 := r_330.grow g_356
                    have w_445 := o_357.lt
                    refine Lt.setN (n := 3) o_357 (Nat.le_of_ble_eq_true rfl) rfl (fun H_23 hl_377 o_379 k_378 => ?_)
                    have o_379 : Own H_23 b_353 [.int .i64 ((p_impl_CutCoded aC_Count aC_Top l_aC_Bits aCount).1), .int .i64 ((p_impl_CutCoded aC_Count aC_Top l_aC_Bits aCount).2.1), .slice a_327 (((p_impl_CutCoded aC_Count aC_Top l_aC_Bits aCount).2.2.1).length) e_329] := o_379
                    have l_380 := k_378.1
                    have g_381 := g_360.keep (b := b_353) o2 k_378
                    have l_382 := g_381.1
                    have o_383 := o_362.keep o2 k_378
                    have w_384 := o_383.lt
                    have o_385 := o_364.keep o2 k_378
                    have w_386 := o_385.lt
                    have o_387 := o_366.keep o2 k_378
                    have w_388 := o_387.lt
                    have o_389 := o_368.keep o2 k_378
                    have w_390 := o_389.lt
                    have r_391 := r_370.keep u_28 o2 k_378
                    have r_392 := r_371.keep u_43 o2 k_378
                    have r_393 := r_372.keep u_83 o2 k_378
                    have r_394 := r_373.keep u_133 o2 k_378
                    have r_395 := r_374.keep u_209 o2 k_378
                    have r_396 := r_375.keep u_324 o2 k_378
                    have r_397 := r_376.keep u_350 o2 k_378
                    have w_444 := o_379.lt
                    refine ⟨(p_impl_CutCoded aC_Count aC_Top l_aC_Bits aCount).1, (p_impl_CutCoded aC_Count aC_Top l_aC_Bits aCount).2.1, a_327, ((p_impl_CutCoded aC_Count aC_Top l_aC_Bits aCount).2.2.1).length, e_329, (o_379.rdN (Nat.le_of_ble_eq_true rfl)).trans rfl, ?_⟩
                    refine ⟨(p_spec_CutCoded aC_Count aC_Top l_aC_Bits aCount).1, (p_spec_CutCoded aC_Count aC_Top l_aC_Bits aCount).2.1, a_31, ((p_spec_CutCoded aC_Count aC_Top l_aC_Bits aCount).2.2.1).length, e_33, (o_385.rdN (Nat.le_of_ble_eq_true rfl)).trans rfl, ?_⟩
                    refine T_laws_eqCoded_i ⟨_, _, r_397.isL, r_392.isL, o0, o0, fun  H_24 g_398  => ?_⟩
                    have l_399 := g_398.1
                    have g_400 := g_381.trans g_398
                    have l_401 := g_400.1
                    have o_402 := o_383.grow g_398
                    have w_403 := o_402.lt
                    have o_404 := o_385.grow g_398
                    have w_405 := o_404.lt
                    have o_406 := o_387.grow g_398
                    have w_407 := o_406.lt
                    have o_408 := o_389.grow g_398
                    have w_409 := o_408.lt
                    have o_410 := o_379.grow g_398
                    have w_411 := o_410.lt
                    have r_412 := r_391.grow g_398
                    have r_413 := r_392.grow g_398
                    have r_414 := r_393.grow g_398
                    have r_415 := r_394.grow g_398
                    have r_416 := r_395.grow g_398
                    have r_417 := r_396.grow g_398
                    have r_418 := r_397.grow g_398
                    refine Br.intro (fun c_419 => ?_) (fun c_419 => ?_)
                    · have e := e.trans (cond_t c_419)
                      have c_419n := nf_of_t c_419
                      first | exact hk _ | (exfalso; cases e; done) | (rw [← e]; exact hk _)
                    · have e := e.trans (cond_f c_419)
                      have c_419n := nt_of_f c_419
                      refine Br.intro (fun c_420 => ?_) (fun c_420 => ?_)
                      · have e := e.trans (cond_t c_420)
                        have c_420n := nf_of_t c_420
                        first | exact hk _ | (exfalso; cases e; done) | (rw [← e]; exact hk _)
                      · have e := e.trans (cond_f c_420)
                        have c_420n := nt_of_f c_420
                        refine ⟨(p_impl_CutCoded aC_Count aC_Top l_aC_Bits aCount).1, (p_impl_CutCoded aC_Count aC_Top l_aC_Bits aCount).2.1, a_115, ((p_impl_CutCoded aC_Count aC_Top l_aC_Bits aCount).2.2.1).length, e_117, (o_408.rdN (Nat.le_of_ble_eq_true rfl)).trans rfl, ?_⟩
                        refine T_laws_heldCoded_i ⟨_, r_415.isL, o0, fun  H_25 g_421  => ?_⟩
                        have l_422 := g_421.1
                        have g_423 := g_400.trans g_421
                        have l_424 := g_423.1
                        have o_425 := o_402.grow g_421
                        have w_426 := o_425.lt
                        have o_427 := o_404.grow g_421
                        have w_428 := o_427.lt
                        have o_429 := o_406.grow g_421
                        have w_430 := o_429.lt
                        have o_431 := o_408.grow g_421
                        have w_432 := o_431.lt
                        have o_433 := o_410.grow g_421
                        have w_434 := o_433.lt
                        have r_435 := r_412.grow g_421
                        have r_436 := r_413.grow g_421
                        have r_437 := r_414.grow g_421
                        have r_438 := r_415.grow g_421
                        have r_439 := r_416.grow g_421
                        have r_440 := r_417.grow g_421
                        have r_441 := r_418.grow g_421
                        refine Br.intro (fun c_442 => ?_) (fun c_442 => ?_)
                        · have e := e.trans (cond_t c_442)
                          have c_442' := of_decide_eq_true c_442
                          first | exact hk _ | (exfalso; cases e; done) | (rw [← e]; exact hk _)
                        · have e := e.trans (cond_f c_442)
                          have c_442' := of_decide_eq_false c_442
                          refine Br.intro (fun c_443 => ?_) (fun c_443 => ?_)
                          · have e := e.trans (cond_t c_443)
                            have c_443' := ine_t c_443
                            first | exact hk _ | (exfalso; cases e; done) | (rw [← e]; exact hk _)
                          · have e := e.trans (cond_f c_443)
                            have c_443' := ine_f c_443
                            first | exact hk _ | (exfalso; cases e; done) | (rw [← e]; exact hk _)
theorem laws_FnExactCutCoded_ok : FnOk Try.prog 3 S_laws_FnExactCutCoded := by
  refine FnOk.body mix_ok E_laws_FnExactCutCoded_ok Try.func3 rfl (by kernel_rfl) (by kernel_rfl) ?_ ?_ ?_ ?_ ?_
  · intro args H K K' h hk
    simp only [S_laws_FnExactCutCoded] at *
    unfold F_laws_FnExactCutCoded at *
    split at hk
    · obtain ⟨l_aC_Bits, h_0, h_1, h_2, h_3, h_4, k⟩ := hk
      exact ⟨l_aC_Bits, h_0, h_1, h_2, h_3, h_4, (fun H' => h _ _ (k H'))⟩
    · exact hk.elim
  · intro hq; cases hq
  · intro args H K hk
    simp only [S_laws_FnExactCutCoded] at *
    unfold F_laws_FnExactCutCoded at *
    split at hk
    · obtain ⟨l_aC_Bits, h_0, h_1, h_2, h_3, h_4, k⟩ := hk
      exact ⟨_, _, k []⟩
    · exact hk.elim
  · intro hq; cases hq
  · have mm := @laws_FnExactCutCoded_main
    have ml := fun (args : List Value) (H : AHeap) (K : Value → AHeap → Prop) => bodyL_body (P := Try.prog) (env := E_laws_FnExactCutCoded ) (fn := Try.f3) (args := args) (H := H) (K := K) E_laws_FnExactCutCoded_ok 
    revert mm ml
    generalize bodyK Try.prog E_laws_FnExactCutCoded Try.f3 = Q
    generalize bodyL Try.prog E_laws_FnExactCutCoded Try.f3 = QL
    intro mm ml args H K hk
    simp only [S_laws_FnExactCutCoded] at *
    unfold F_laws_FnExactCutCoded at *
    split at hk
    · exact ml _ H K (mm _ _ _ _ _ _ H K hk)
    · exact hk.elim
end Go.Proofs.Ytbnplefohfamnaa.Ai
