/- What functions of the program come to on the abstract machine, and that they do so; printed by a program of mine around proofs of mine. -/
import Derived.Test.YtfofkmlohmodeaaProg
import Derived.Test.YtfofkmlohmodeaaLibA
import Derived.Test.YtfofkmlohmodeaaOpen
import Derived.Test.YtfofkmlohmodeaaLibB
import Derived.Test.YtfofkmlohmodeaaFl
set_option linter.unusedVariables false
set_option linter.unusedSimpArgs false
set_option maxRecDepth 100000
namespace Go.Proofs.Ytfofkmlohmodeaa.Ai
open Go
attribute [local irreducible] bodyK
theorem mix_ok : Try.prog.follows .mixedOrders = true := by kernel_rfl
def p_laws_szBoolS (l_a : List Bool) (left : Int) : Int := (bif decide ((IntKind.wrap .i64 (left - (l_a.length : Int)) : Int) < 0) then ((-1) : Int) else IntKind.wrap .i64 (left - (l_a.length : Int)))
theorem p_laws_szBoolS_eq (l_a : List Bool) (left : Int) : p_laws_szBoolS l_a left = (bif decide ((IntKind.wrap .i64 (left - (l_a.length : Int)) : Int) < 0) then ((-1) : Int) else IntKind.wrap .i64 (left - (l_a.length : Int))) := rfl
def T_laws_szBoolS (a_a : Option Addr) (a_n : Nat) (a_e : Nat) (left : Int) (H : AHeap) (K : Int → AHeap → Prop) : Prop := ∃ (l_a : List Bool), IsL fB H a_a a_n l_a ∧ K (p_laws_szBoolS l_a left) H
theorem T_laws_szBoolS_i {a_a : Option Addr} {a_n : Nat} {a_e : Nat} {left : Int} {H : AHeap} {K : Int → AHeap → Prop} (h : ∃ (l_a : List Bool), IsL fB H a_a a_n l_a ∧ K (p_laws_szBoolS l_a left) H) : T_laws_szBoolS a_a a_n a_e left H K := h
theorem laws_szBoolS_f (l : List Bool) (left : Int) : 0 ≤ left → left ≤ 1048576 → l.length ≤ 9223372036854775807 → p_laws_szBoolS l left < 0 ∨ (l.length : Int) ≤ left ∧ p_laws_szBoolS l left = left - l.length := by
  intro h0 h1 h2
  rw [p_laws_szBoolS_eq, wrap64 (by omega) (by omega)]
  by_cases h : left - (l.length : Int) < 0
  · rw [decide_eq_true h, cond_true]; left; decide
  · rw [decide_eq_false h, cond_false]; right; omega
/-! laws_szBoolS: function 58 -/
def E_laws_szBoolS : Env := envOf []
def F_laws_szBoolS : List Value → AHeap → (Value → AHeap → Prop) → Prop
  | [.slice a_a a_n a_e, .int .i64 left], H, K => T_laws_szBoolS a_a a_n a_e left H fun (r1 : Int) (H' : AHeap) => K (.int .i64 r1) H'
  | _, _, _ => False
def S_laws_szBoolS : FSpec := { F := F_laws_szBoolS, quiet := true, tame := false }
theorem laws_szBoolS_vc (a_a : Option Addr) (a_n : Nat) (a_e : Nat) (left : Int) (H : AHeap) (K : Value → AHeap → Prop) : bodyK Try.prog E_laws_szBoolS Try.f58 [.slice a_a a_n a_e, .int .i64 left] H K =
  (Br (decide ((IntKind.wrap .i64 (left - (a_n : Int)) : Int) < 0)) (K (.int .i64 (-1)) H) (K (.int .i64 (IntKind.wrap .i64 (left - (a_n : Int)))) H)) := by kernel_rfl
theorem E_laws_szBoolS_ok : ∀ g, FnOk Try.prog g (E_laws_szBoolS g) := FnOk.envOf (by
  intro x hx; cases hx)
set_option maxHeartbeats 1000000 in
theorem laws_szBoolS_main (a_a : Option Addr) (a_n : Nat) (a_e : Nat) (left : Int) (H : AHeap) (K : Value → AHeap → Prop) (h : T_laws_szBoolS a_a a_n a_e left H fun (r1 : Int) (H' : AHeap) => K (.int .i64 r1) H') : bodyK Try.prog E_laws_szBoolS Try.f58 [.slice a_a a_n a_e, .int .i64 left] H K := by
  rw [laws_szBoolS_vc]
  obtain ⟨l_a, i_a, hk⟩ := h
  obtain rfl := i_a.eqn
  have e : (p_laws_szBoolS l_a left) = _ := rfl
  have e := e.trans (p_laws_szBoolS_eq l_a left)
  have g0 := Grow.refl H
  refine Br.intro (fun c_1 => ?_) (fun c_1 => ?_)
  · have e := e.trans (cond_t c_1)
    have c_1' := of_decide_eq_true c_1
    rw [e] at hk
    exact hk
  · have e := e.trans (cond_f c_1)
    have c_1' := of_decide_eq_false c_1
    rw [e] at hk
    exact hk
theorem laws_szBoolS_ok : FnOk Try.prog 58 S_laws_szBoolS := by
  refine FnOk.body mix_ok E_laws_szBoolS_ok Try.func58 rfl (by kernel_rfl) (by kernel_rfl) ?_ ?_ ?_ ?_ ?_
  · intro args H K K' h hk
    simp only [S_laws_szBoolS] at *
    unfold F_laws_szBoolS at *
    split at hk
    · obtain ⟨l_a, i_a, k⟩ := hk
      exact ⟨l_a, i_a, h _ _ k⟩
    · exact hk.elim
  · intro _ args H K hk
    simp only [S_laws_szBoolS] at *
    unfold F_laws_szBoolS at *
    split at hk
    · obtain ⟨l_a, i_a, k⟩ := hk
      exact ⟨_, k, fun K' k' => ⟨l_a, i_a, k'⟩⟩
    · exact hk.elim
  · intro args H K hk
    simp only [S_laws_szBoolS] at *
    unfold F_laws_szBoolS at *
    split at hk
    · obtain ⟨l_a, i_a, k⟩ := hk
      exact ⟨_, _, k⟩
    · exact hk.elim
  · intro hq; cases hq
  · have mm := @laws_szBoolS_main
    revert mm
    generalize bodyK Try.prog E_laws_szBoolS Try.f58 = Q
    intro mm args H K hk
    simp only [S_laws_szBoolS] at *
    unfold F_laws_szBoolS at *
    split at hk
    · exact mm _ _ _ _ H K hk
    · exact hk.elim
def p_laws_szCoded (a_Count : Int) (a_Top : Int) (l_a_Bits : List Bool) (left : Int) : Int := (bif decide (((p_laws_szBoolS l_a_Bits left) : Int) < 0) then ((-1) : Int) else (p_laws_szBoolS l_a_Bits left))
theorem p_laws_szCoded_eq (a_Count : Int) (a_Top : Int) (l_a_Bits : List Bool) (left : Int) : p_laws_szCoded a_Count a_Top l_a_Bits left = (bif decide (((p_laws_szBoolS l_a_Bits left) : Int) < 0) then ((-1) : Int) else (p_laws_szBoolS l_a_Bits left)) := rfl
def T_laws_szCoded (a_Count : Int) (a_Top : Int) (a_Bits_a : Option Addr) (a_Bits_n : Nat) (a_Bits_e : Nat) (left : Int) (H : AHeap) (K : Int → AHeap → Prop) : Prop := ∃ (l_a_Bits : List Bool), IsL fB H a_Bits_a a_Bits_n l_a_Bits ∧ ((∀ H' : AHeap, Grow H H' → K (p_laws_szCoded a_Count a_Top l_a_Bits left) H'))
theorem T_laws_szCoded_i {a_Count : Int} {a_Top : Int} {a_Bits_a : Option Addr} {a_Bits_n : Nat} {a_Bits_e : Nat} {left : Int} {H : AHeap} {K : Int → AHeap → Prop} (h : ∃ (l_a_Bits : List Bool), IsL fB H a_Bits_a a_Bits_n l_a_Bits ∧ ((∀ H' : AHeap, Grow H H' → K (p_laws_szCoded a_Count a_Top l_a_Bits left) H'))) : T_laws_szCoded a_Count a_Top a_Bits_a a_Bits_n a_Bits_e left H K := h
theorem laws_szCoded_f (a b : Int) (l : List Bool) (left : Int) : 0 ≤ left → left ≤ 1048576 → l.length ≤ 9223372036854775807 → p_laws_szCoded a b l left < 0 ∨ (l.length : Int) ≤ left ∧ p_laws_szCoded a b l left = left - l.length := by
  intro h0 h1 h2
  have := laws_szBoolS_f l left h0 h1 h2
  rw [p_laws_szCoded_eq]
  by_cases h : p_laws_szBoolS l left < 0
  · rw [decide_eq_true h, cond_true]; left; decide
  · rw [decide_eq_false h, cond_false]; right; omega
/-! laws_szCoded: function 23 -/
def E_laws_szCoded : Env := envOf [(58, S_laws_szBoolS)]
def F_laws_szCoded : List Value → AHeap → (Value → AHeap → Prop) → Prop
  | [.agg ⟨[.int .i64 a_Count, .int .i64 a_Top, .slice a_Bits_a a_Bits_n a_Bits_e]⟩, .int .i64 left], H, K => T_laws_szCoded a_Count a_Top a_Bits_a a_Bits_n a_Bits_e left H fun (r1 : Int) (H' : AHeap) => K (.int .i64 r1) H'
  | _, _, _ => False
def S_laws_szCoded : FSpec := { F := F_laws_szCoded, quiet := false, tame := true }
theorem laws_szCoded_vc (a_Count : Int) (a_Top : Int) (a_Bits_a : Option Addr) (a_Bits_n : Nat) (a_Bits_e : Nat) (left : Int) (H : AHeap) (K : Value → AHeap → Prop) : bodyK Try.prog E_laws_szCoded Try.f23 [.agg #[.int .i64 a_Count, .int .i64 a_Top, .slice a_Bits_a a_Bits_n a_Bits_e], .int .i64 left] H K =
  (Al [.int .i64 a_Count, .int .i64 a_Top, .slice a_Bits_a a_Bits_n a_Bits_e] H fun b1 H1 => ∃ x1_a : Option Addr, ∃ x1_n : Nat, ∃ x1_e : Nat,  rdC H1 b1 2 = some (.slice x1_a x1_n x1_e) ∧ T_laws_szBoolS x1_a x1_n x1_e left H1 fun (r1 : Int) (H2 : AHeap) => Br (decide ((r1 : Int) < 0)) (K (.int .i64 (-1)) H2) (K (.int .i64 r1) H2)) := by kernel_rfl
theorem E_laws_szCoded_ok : ∀ g, FnOk Try.prog g (E_laws_szCoded g) := FnOk.envOf (by
  intro x hx
  simp only [List.mem_cons, List.not_mem_nil, or_false] at hx
  subst hx; exact laws_szBoolS_ok)
set_option maxHeartbeats 1000000 in
theorem laws_szCoded_main (a_Count : Int) (a_Top : Int) (a_Bits_a : Option Addr) (a_Bits_n : Nat) (a_Bits_e : Nat) (left : Int) (H : AHeap) (K : Value → AHeap → Prop) (h : T_laws_szCoded a_Count a_Top a_Bits_a a_Bits_n a_Bits_e left H fun (r1 : Int) (H' : AHeap) => K (.int .i64 r1) H') : bodyK Try.prog E_laws_szCoded Try.f23 [.agg #[.int .i64 a_Count, .int .i64 a_Top, .slice a_Bits_a a_Bits_n a_Bits_e], .int .i64 left] H K := by
  rw [laws_szCoded_vc]
  obtain ⟨l_a_Bits, i_a_Bits, hk⟩ := h
  obtain rfl := i_a_Bits.eqn
  have e : (p_laws_szCoded a_Count a_Top l_a_Bits left) = _ := rfl
  have e := e.trans (p_laws_szCoded_eq a_Count a_Top l_a_Bits left)
  have g0 := Grow.refl H
  refine Al.intro (fun b_1 H_1 hb_2 hl_3 g_4 o_5 => ?_)
  have l_7 := g_4.1
  have g_8 := g0.trans g_4
  have l_9 := g_8.1
  have w_12 := o_5.lt
  refine ⟨a_Bits_a, l_a_Bits.length, a_Bits_e, (o_5.rdC _).trans rfl, ?_⟩
  refine T_laws_szBoolS_i ⟨_, (i_a_Bits.grow g_8), ?_⟩
  have z_10 := laws_szBoolS_f l_a_Bits left
  refine Br.intro (fun c_11 => ?_) (fun c_11 => ?_)
  · have e := e.trans (cond_t c_11)
    have c_11' := of_decide_eq_true c_11
    rw [e] at hk
    exact hk  H_1 g_8 
  · have e := e.trans (cond_f c_11)
    have c_11' := of_decide_eq_false c_11
    rw [e] at hk
    exact hk  H_1 g_8 
theorem laws_szCoded_ok : FnOk Try.prog 23 S_laws_szCoded := by
  refine FnOk.body mix_ok E_laws_szCoded_ok Try.func23 rfl (by kernel_rfl) (by kernel_rfl) ?_ ?_ ?_ ?_ ?_
  · intro args H K K' h hk
    simp only [S_laws_szCoded] at *
    unfold F_laws_szCoded at *
    split at hk
    · obtain ⟨l_a_Bits, i_a_Bits, k⟩ := hk
      exact ⟨l_a_Bits, i_a_Bits, (fun  H' gg  => h _ _ (k  H' gg ))⟩
    · exact hk.elim
  · intro hq; cases hq
  · intro args H K hk
    simp only [S_laws_szCoded] at *
    unfold F_laws_szCoded at *
    split at hk
    · obtain ⟨l_a_Bits, i_a_Bits, k⟩ := hk
      exact ⟨_, _, k H (Grow.refl H)⟩
    · exact hk.elim
  · intro _ args H K hk
    simp only [S_laws_szCoded] at *
    unfold F_laws_szCoded at *
    split at hk
    · obtain ⟨l_a_Bits, i_a_Bits, k⟩ := hk
      exact ⟨l_a_Bits, i_a_Bits, (fun  H' gg  => ⟨gg, k  H' gg ⟩)⟩
    · exact hk.elim
  · have mm := @laws_szCoded_main
    revert mm
    generalize bodyK Try.prog E_laws_szCoded Try.f23 = Q
    intro mm args H K hk
    simp only [S_laws_szCoded] at *
    unfold F_laws_szCoded at *
    split at hk
    · exact mm _ _ _ _ _ _ H K hk
    · exact hk.elim
def p_laws_toBoolS_l1 (l_a : List Bool) : Nat → Int → (List Bool) → (List Bool)
  | 0, _, _ => []
  | μ + 1, i, y1_1 => (bif decide ((i : Int) < (l_a.length : Int)) then (p_laws_toBoolS_l1 l_a μ (i + 1) (((y1_1).set (i : Int).toNat ((((l_a).getD (i : Int).toNat false)))))) else y1_1)
theorem p_laws_toBoolS_l1_s (l_a : List Bool) (μ : Nat) (i : Int) (y1_1 : List Bool) : p_laws_toBoolS_l1 l_a (μ + 1) i y1_1 = (bif decide ((i : Int) < (l_a.length : Int)) then (p_laws_toBoolS_l1 l_a μ (i + 1) (((y1_1).set (i : Int).toNat ((((l_a).getD (i : Int).toNat false)))))) else y1_1) := rfl
def p_laws_toBoolS (l_a : List Bool) : (List Bool) := (p_laws_toBoolS_l1 l_a (Int.toNat ((l_a.length : Int) - (0 : Int)) + 1) (0 : Int) (List.replicate (((l_a.length : Int)).toNat) false))
theorem p_laws_toBoolS_eq (l_a : List Bool) : p_laws_toBoolS l_a = (p_laws_toBoolS_l1 l_a (Int.toNat ((l_a.length : Int) - (0 : Int)) + 1) (0 : Int) (List.replicate (((l_a.length : Int)).toNat) false)) := rfl
def T_laws_toBoolS (a_a : Option Addr) (a_n : Nat) (a_e : Nat) (H : AHeap) (K : (Option Addr) → Nat → Nat → AHeap → Prop) : Prop := ∃ (l_a : List Bool), IsL fB H a_a a_n l_a ∧ l_a.length < 1073741824 ∧ ((∀ (r1_a : Option Addr) (r1_n r1_e : Nat), ∀ H' : AHeap, Grow H H' → OwnS fB H' H.length r1_a r1_n r1_e l_a → K r1_a r1_n r1_e H'))
theorem T_laws_toBoolS_i {a_a : Option Addr} {a_n : Nat} {a_e : Nat} {H : AHeap} {K : (Option Addr) → Nat → Nat → AHeap → Prop} (h : ∃ (l_a : List Bool), IsL fB H a_a a_n l_a ∧ l_a.length < 1073741824 ∧ ((∀ (r1_a : Option Addr) (r1_n r1_e : Nat), ∀ H' : AHeap, Grow H H' → OwnS fB H' H.length r1_a r1_n r1_e l_a → K r1_a r1_n r1_e H'))) : T_laws_toBoolS a_a a_n a_e H K := h
theorem laws_toBoolS_go (l : List Bool) : ∀ (μ : Nat) (i : Nat) (ys : List Bool), ys.length = l.length → i ≤ l.length → l.length - i < μ →
    p_laws_toBoolS_l1 l μ (i : Int) (l.take i ++ ys.drop i) = l := by
  intro μ
  induction μ with
  | zero => intro i ys _ _ h; omega
  | succ μ ih =>
    intro i ys hy hi hm
    rw [p_laws_toBoolS_l1_s]
    by_cases h : i < l.length
    · rw [decide_eq_true (show (i : Int) < (l.length : Int) by omega), cond_true]
      have hx : l[i]? = some (l.getD i false) := by rw [List.getD_eq_getElem?_getD, List.getElem?_eq_getElem h]; rfl
      rw [Int.toNat_natCast, set_front l ys i (by omega) hy.symm _ hx]
      exact ih (i + 1) ys hy (by omega) (by omega)
    · rw [decide_eq_false (show ¬ (i : Int) < (l.length : Int) by omega), cond_false]
      rw [List.take_of_length_le (by omega), List.drop_eq_nil_of_le (by omega), List.append_nil]
theorem laws_toBoolS_id (l : List Bool) : p_laws_toBoolS l = l := by
  rw [p_laws_toBoolS_eq]
  have := laws_toBoolS_go l (Int.toNat ((l.length : Int) - 0) + 1) 0 (List.replicate ((l.length : Int)).toNat false) (by simp) (by omega) (by omega)
  simpa using this
/-! laws_toBoolS: function 20 -/
def E_laws_toBoolS : Env := envOf []
def F_laws_toBoolS : List Value → AHeap → (Value → AHeap → Prop) → Prop
  | [.slice a_a a_n a_e], H, K => T_laws_toBoolS a_a a_n a_e H fun (r1_a : Option Addr) (r1_n : Nat) (r1_e : Nat) (H' : AHeap) => K (.slice r1_a r1_n r1_e) H'
  | _, _, _ => False
def S_laws_toBoolS : FSpec := { F := F_laws_toBoolS, quiet := false, tame := true }
theorem laws_toBoolS_vc (a_a : Option Addr) (a_n : Nat) (a_e : Nat) (H : AHeap) (K : Value → AHeap → Prop) : bodyK Try.prog E_laws_toBoolS Try.f20 [.slice a_a a_n a_e] H K =
  ((0 : Int) ≤ (a_n : Int) ∧ (a_n : Int) = (a_n : Int) ∧ (a_n : Int) < (most : Int) ∧ Al (zerosOf (.bool false) ((a_n : Int)).toNat) H fun b1 H1 => loopK (exK Try.prog E_laws_toBoolS (cl (cl (cr (cl (cr (cr (bodyC Try.f20)))))))) [.slice a_a a_n a_e, undef, .slice none 0 0, .slice (some ⟨b1, 0, none⟩) (((a_n : Int)).toNat) 1, .int .i64 0, .slice a_a a_n a_e, .int .i64 (a_n : Int), .slice (some ⟨b1, 0, none⟩) (((a_n : Int)).toNat) 1, undef, undef, undef, undef, undef, undef, undef, undef, undef, undef, undef, undef, undef, undef] H1 (blockQ 0 (seqQ (exK Try.prog E_laws_toBoolS (cr (cr (cr (bodyC Try.f20))))) (retK Try.prog Try.f20 K)))) := by kernel_rfl
theorem laws_toBoolS_r1 (a_a : Option Addr) (a_e : Nat) (a_n : Nat) (b1 : Nat) (i : Int) (g8 g9 g10 g11 g12 g13 g14 g15 g16 g17 g18 g19 g20 : Value) (H : AHeap) (R : Post) : exK Try.prog E_laws_toBoolS (cl (cl (cr (cl (cr (cr (bodyC Try.f20))))))) [.slice a_a a_n a_e, undef, .slice none 0 0, .slice (some ⟨b1, 0, none⟩) (((a_n : Int)).toNat) 1, .int .i64 i, .slice a_a a_n a_e, .int .i64 (a_n : Int), .slice (some ⟨b1, 0, none⟩) (((a_n : Int)).toNat) 1, g8, g9, g10, g11, g12, g13, g14, g15, g16, g17, g18, g19, g20, undef] H R =
  (Br (decide ((i : Int) < (a_n : Int))) ((0 : Int) ≤ i ∧ i < (a_n : Int) ∧ ∃ b2 f1, (a_a : Option Addr) = some ⟨b2, f1, none⟩ ∧ ∃ x1 : Bool,  rdC H b2 (f1 + (i : Int).toNat * 1) = some (.bool x1) ∧ (0 : Int) ≤ i ∧ i < (((a_n : Int)).toNat : Int) ∧ ∃ b3 f2, (some ⟨b1, 0, none⟩ : Option Addr) = some ⟨b3, f2, none⟩ ∧ isOwn H b3 ∧ (∃ l, rdN H b3 (f2 + (i : Int).toNat * 1) 1 = some l) ∧ Lt (setC H b3 (f2 + (i : Int).toNat * 1) (.bool x1)) fun H2 => R .normal [.slice a_a a_n a_e, undef, .slice none 0 0, .slice (some ⟨b1, 0, none⟩) (((a_n : Int)).toNat) 1, .int .i64 (IntKind.wrap .i64 (i + 1)), .slice a_a a_n a_e, .int .i64 (a_n : Int), .slice (some ⟨b1, 0, none⟩) (((a_n : Int)).toNat) 1, .int .i64 i, .slice a_a a_n a_e, .int .i64 (a_n : Int), .bool (decide ((i : Int) < (a_n : Int))), .int .i64 i, .int .i64 (IntKind.wrap .i64 (i + 1)), .slice (some ⟨b1, 0, none⟩) (((a_n : Int)).toNat) 1, .int .i64 i, .slice a_a a_n a_e, .int .i64 i, .pointer (some ⟨b2, f1 + (i : Int).toNat * 1, none⟩), .bool x1, .pointer (some ⟨b3, f2 + (i : Int).toNat * 1, none⟩), undef] H2) (R (.exit 0) [.slice a_a a_n a_e, undef, .slice none 0 0, .slice (some ⟨b1, 0, none⟩) (((a_n : Int)).toNat) 1, .int .i64 i, .slice a_a a_n a_e, .int .i64 (a_n : Int), .slice (some ⟨b1, 0, none⟩) (((a_n : Int)).toNat) 1, .int .i64 i, .slice a_a a_n a_e, .int .i64 (a_n : Int), .bool (decide ((i : Int) < (a_n : Int))), g12, g13, g14, g15, g16, g17, g18, g19, g20, undef] H)) := by kernel_rfl
def laws_toBoolS_I1 (a_a : Option Addr) (a_e : Nat) (a_n : Nat) (b1 : Nat) (Inv : Nat → Int → AHeap → Prop) : Nat → List Value → AHeap → Prop := fun μ tm H => ∃ (i : Int), ∃ g8 g9 g10 g11 g12 g13 g14 g15 g16 g17 g18 g19 g20, tm = [.slice a_a a_n a_e, undef, .slice none 0 0, .slice (some ⟨b1, 0, none⟩) (((a_n : Int)).toNat) 1, .int .i64 i, .slice a_a a_n a_e, .int .i64 (a_n : Int), .slice (some ⟨b1, 0, none⟩) (((a_n : Int)).toNat) 1, g8, g9, g10, g11, g12, g13, g14, g15, g16, g17, g18, g19, g20, undef] ∧ Inv μ i H
theorem laws_toBoolS_L1 (a_a : Option Addr) (a_e : Nat) (a_n : Nat) (b1 : Nat) {Q : Post} (Inv : Nat → Int → AHeap → Prop) (ν : Nat) (i : Int) (g8 g9 g10 g11 g12 g13 g14 g15 g16 g17 g18 g19 g20 : Value) (H : AHeap) (h0 : Inv ν i H)
    (hs : ∀ (μ : Nat) (i : Int) (g8 g9 g10 g11 g12 g13 g14 g15 g16 g17 g18 g19 g20 : Value) (H : AHeap), Inv μ i H → exK Try.prog E_laws_toBoolS (cl (cl (cr (cl (cr (cr (bodyC Try.f20))))))) [.slice a_a a_n a_e, undef, .slice none 0 0, .slice (some ⟨b1, 0, none⟩) (((a_n : Int)).toNat) 1, .int .i64 i, .slice a_a a_n a_e, .int .i64 (a_n : Int), .slice (some ⟨b1, 0, none⟩) (((a_n : Int)).toNat) 1, g8, g9, g10, g11, g12, g13, g14, g15, g16, g17, g18, g19, g20, undef] H (loopQ (laws_toBoolS_I1 a_a a_e a_n b1 Inv) μ Q)) : loopK (exK Try.prog E_laws_toBoolS (cl (cl (cr (cl (cr (cr (bodyC Try.f20)))))))) [.slice a_a a_n a_e, undef, .slice none 0 0, .slice (some ⟨b1, 0, none⟩) (((a_n : Int)).toNat) 1, .int .i64 i, .slice a_a a_n a_e, .int .i64 (a_n : Int), .slice (some ⟨b1, 0, none⟩) (((a_n : Int)).toNat) 1, g8, g9, g10, g11, g12, g13, g14, g15, g16, g17, g18, g19, g20, undef] H Q :=
  ⟨laws_toBoolS_I1 a_a a_e a_n b1 Inv, ν, ⟨i, g8, g9, g10, g11, g12, g13, g14, g15, g16, g17, g18, g19, g20, rfl, h0⟩, fun μ tm H h => by obtain ⟨i, g8, g9, g10, g11, g12, g13, g14, g15, g16, g17, g18, g19, g20, rfl, hI⟩ := h; exact hs μ i g8 g9 g10 g11 g12 g13 g14 g15 g16 g17 g18 g19 g20 H hI⟩
theorem laws_toBoolS_n1 {a_a : Option Addr} {a_e : Nat} {a_n : Nat} {b1 : Nat} {Q : Post} {Inv : Nat → Int → AHeap → Prop} {μ : Nat} (μ' : Nat) {i : Int} {g8 g9 g10 g11 g12 g13 g14 g15 g16 g17 g18 g19 g20 : Value} {H : AHeap} (hm : μ' < μ) (hI : Inv μ' i H) : loopQ (laws_toBoolS_I1 a_a a_e a_n b1 Inv) μ Q .normal [.slice a_a a_n a_e, undef, .slice none 0 0, .slice (some ⟨b1, 0, none⟩) (((a_n : Int)).toNat) 1, .int .i64 i, .slice a_a a_n a_e, .int .i64 (a_n : Int), .slice (some ⟨b1, 0, none⟩) (((a_n : Int)).toNat) 1, g8, g9, g10, g11, g12, g13, g14, g15, g16, g17, g18, g19, g20, undef] H := ⟨μ', hm, i, g8, g9, g10, g11, g12, g13, g14, g15, g16, g17, g18, g19, g20, rfl, hI⟩
theorem laws_toBoolS_x1_0 (a_a : Option Addr) (a_e : Nat) (a_n : Nat) (b1 : Nat) (i : Int) (g8 g9 g10 g11 g12 g13 g14 g15 g16 g17 g18 g19 g20 : Value) (H : AHeap) (K : Value → AHeap → Prop)  {I : Nat → List Value → AHeap → Prop} {μ : Nat} : loopQ I μ (blockQ 0 (seqQ (exK Try.prog E_laws_toBoolS (cr (cr (cr (bodyC Try.f20))))) (retK Try.prog Try.f20 K))) (.exit 0) [.slice a_a a_n a_e, undef, .slice none 0 0, .slice (some ⟨b1, 0, none⟩) (((a_n : Int)).toNat) 1, .int .i64 i, .slice a_a a_n a_e, .int .i64 (a_n : Int), .slice (some ⟨b1, 0, none⟩) (((a_n : Int)).toNat) 1, g8, g9, g10, g11, g12, g13, g14, g15, g16, g17, g18, g19, g20, undef] H =
  (K (.slice (some ⟨b1, 0, none⟩) (((a_n : Int)).toNat) 1) H) := by kernel_rfl
theorem E_laws_toBoolS_ok : ∀ g, FnOk Try.prog g (E_laws_toBoolS g) := FnOk.envOf (by
  intro x hx; cases hx)
set_option maxHeartbeats 1000000 in
theorem laws_toBoolS_main (a_a : Option Addr) (a_n : Nat) (a_e : Nat) (H : AHeap) (K : Value → AHeap → Prop) (h : T_laws_toBoolS a_a a_n a_e H fun (r1_a : Option Addr) (r1_n : Nat) (r1_e : Nat) (H' : AHeap) => K (.slice r1_a r1_n r1_e) H') : bodyK Try.prog E_laws_toBoolS Try.f20 [.slice a_a a_n a_e] H K := by
  rw [laws_toBoolS_vc]
  obtain ⟨l_a, i_a, bd_29, hk⟩ := h
  have hk : (∀ (r1_a : Option Addr) (r1_n r1_e : Nat), ∀ H' : AHeap, Grow H H' → OwnS fB H' H.length r1_a r1_n r1_e (p_laws_toBoolS l_a) → (fun (r1_a : Option Addr) (r1_n : Nat) (r1_e : Nat) (H' : AHeap) => K (.slice r1_a r1_n r1_e) H') r1_a r1_n r1_e H') := by rw [laws_toBoolS_id l_a]; exact hk
  obtain rfl := i_a.eqn
  have e : (p_laws_toBoolS l_a) = _ := rfl
  have e := e.trans (p_laws_toBoolS_eq l_a)
  have g0 := Grow.refl H
  refine ⟨by omega, rfl, (by have := most_eq; omega), ?_⟩
  refine Al.intro (fun b_1 H_1 hb_2 hl_3 g_4 o_5 => ?_)
  rw [zeros_map fB false _ rfl] at o_5
  have l_7 := g_4.1
  have g_8 := g0.trans g_4
  have l_9 := g_8.1
  have w_28 := o_5.lt
  refine laws_toBoolS_L1 _ _ _ _ (fun (μ : Nat) (i : Int) (H_2 : AHeap) => ∃ (y1_1 : List Bool), Own H_2 b_1 (y1_1.map fB) ∧ y1_1.length = ((l_a.length : Int)).toNat ∧ Grow H H_2 ∧ (0 : Int) ≤ i ∧ i ≤ (l_a.length : Int) ∧ (l_a.length : Int) - i ≤ (μ : Int) ∧ p_laws_toBoolS l_a = p_laws_toBoolS_l1 l_a (μ + 1) i y1_1) (Int.toNat ((l_a.length : Int) - (0 : Int))) _ _ _ _ _ _ _ _ _ _ _ _ _ _ H_1 ?_ ?_
  · exact ⟨_, o_5, (by first | rfl | (simp; done)), g_8, (by first | omega | (simp; done) | (simp; omega)), (by first | omega | (simp; done) | (simp; omega)), (by omega), e⟩
  · intro μ i g8 g9 g10 g11 g12 g13 g14 g15 g16 g17 g18 g19 g20 H_2 hI
    obtain ⟨y1_1, o_10, y_11, g_12, v_13, v_14, hμ, e⟩ := hI
    rw [laws_toBoolS_r1]
    have e := e.trans (p_laws_toBoolS_l1_s l_a μ i y1_1)
    have w_15 := o_10.lt
    have l_16 := g_12.1
    refine Br.intro (fun c_17 => ?_) (fun c_17 => ?_)
    · have e := e.trans (cond_t c_17)
      have c_17' := of_decide_eq_true c_17
      obtain ⟨b_18, f_19, q_20⟩ := ((i_a.grow g_12)).pos (by first | omega | (simp only [List.length_set, List.length_replicate, List.length_append, List.length_cons, List.length_nil]; done) | (simp only [List.length_set, List.length_replicate, List.length_append, List.length_cons, List.length_nil]; omega))
      refine ⟨by omega, by omega, b_18, f_19, q_20, ?_⟩
      refine ⟨((l_a).getD (i : Int).toNat false), (i_a).rd g_12 q_20 (by omega) _, ?_⟩
      refine ⟨by omega, (by omega), _, _, rfl, ?_⟩
      refine Lt.set o_10 (by simp only [List.length_map]; (first | omega | (simp only [List.length_set, List.length_replicate, List.length_append, List.length_cons, List.length_nil]; done) | (simp only [List.length_set, List.length_replicate, List.length_append, List.length_cons, List.length_nil]; omega))) (fun H_3 hl_21 o_23 k_22 => ?_)
      have o_23 := map_set o_23
      have l_24 := k_22.1
      have g_25 := g_12.keep (b := b_1) (by omega) k_22
      have l_26 := g_25.1
      have w_27 := o_23.lt
      rw [show IntKind.wrap .i64 (i + 1) = (i + 1) from wrap64 (by omega) (by omega)]
      refine laws_toBoolS_n1 (μ - 1) (by omega) ⟨_, o_23, (by simp only [List.length_set]; first | rfl | assumption | omega), g_25, (by first | omega | (simp only [List.length_append, List.length_cons, List.length_nil, List.length_set]; done) | (simp only [List.length_append, List.length_cons, List.length_nil, List.length_set]; omega)), (by first | omega | (simp only [List.length_append, List.length_cons, List.length_nil, List.length_set]; done) | (simp only [List.length_append, List.length_cons, List.length_nil, List.length_set]; omega)), (by omega), (by rw [show μ - 1 + 1 = μ from by omega]; exact e)⟩
    · have e := e.trans (cond_f c_17)
      have c_17' := of_decide_eq_false c_17
      rw [laws_toBoolS_x1_0]
      rw [e] at hk
      exact hk _ _ _ H_2 g_12 (o_10.ownS (by first | (simp only [List.length_replicate]; done) | omega | (simp; omega)) (by omega))
theorem laws_toBoolS_ok : FnOk Try.prog 20 S_laws_toBoolS := by
  refine FnOk.body mix_ok E_laws_toBoolS_ok Try.func20 rfl (by kernel_rfl) (by kernel_rfl) ?_ ?_ ?_ ?_ ?_
  · intro args H K K' h hk
    simp only [S_laws_toBoolS] at *
    unfold F_laws_toBoolS at *
    split at hk
    · obtain ⟨l_a, i_a, bd_29, k⟩ := hk
      exact ⟨l_a, i_a, bd_29, (fun r1_a r1_n r1_e H' gg ow0 => h _ _ (k r1_a r1_n r1_e H' gg ow0))⟩
    · exact hk.elim
  · intro hq; cases hq
  · intro args H K hk
    simp only [S_laws_toBoolS] at *
    unfold F_laws_toBoolS at *
    split at hk
    · obtain ⟨l_a, i_a, bd_29, k⟩ := hk
      exact liveS fun a n e H1 g o => ⟨_, _, k a n e H1 g o⟩
    · exact hk.elim
  · intro _ args H K hk
    simp only [S_laws_toBoolS] at *
    unfold F_laws_toBoolS at *
    split at hk
    · obtain ⟨l_a, i_a, bd_29, k⟩ := hk
      exact ⟨l_a, i_a, bd_29, (fun r1_a r1_n r1_e H' gg ow0 => ⟨gg, k r1_a r1_n r1_e H' gg ow0⟩)⟩
    · exact hk.elim
  · have mm := @laws_toBoolS_main
    revert mm
    generalize bodyK Try.prog E_laws_toBoolS Try.f20 = Q
    intro mm args H K hk
    simp only [S_laws_toBoolS] at *
    unfold F_laws_toBoolS at *
    split at hk
    · exact mm _ _ _ H K hk
    · exact hk.elim
def p_laws_toCoded (a_Count : Int) (a_Top : Int) (l_a_Bits : List Bool) : Int × Int × (List Bool) := (a_Count, a_Top, l_a_Bits)
theorem p_laws_toCoded_eq (a_Count : Int) (a_Top : Int) (l_a_Bits : List Bool) : p_laws_toCoded a_Count a_Top l_a_Bits = (a_Count, a_Top, l_a_Bits) := rfl
def T_laws_toCoded (a_Count : Int) (a_Top : Int) (a_Bits_a : Option Addr) (a_Bits_n : Nat) (a_Bits_e : Nat) (H : AHeap) (K : Int → Int → (Option Addr) → Nat → Nat → AHeap → Prop) : Prop := ∃ (l_a_Bits : List Bool), IsL fB H a_Bits_a a_Bits_n l_a_Bits ∧ l_a_Bits.length < 1073741824 ∧ ((∀ (r1_Bits_a : Option Addr) (r1_Bits_n r1_Bits_e : Nat), ∀ H' : AHeap, Grow H H' → OwnS fB H' H.length r1_Bits_a r1_Bits_n r1_Bits_e l_a_Bits → K a_Count a_Top r1_Bits_a r1_Bits_n r1_Bits_e H'))
theorem T_laws_toCoded_i {a_Count : Int} {a_Top : Int} {a_Bits_a : Option Addr} {a_Bits_n : Nat} {a_Bits_e : Nat} {H : AHeap} {K : Int → Int → (Option Addr) → Nat → Nat → AHeap → Prop} (h : ∃ (l_a_Bits : List Bool), IsL fB H a_Bits_a a_Bits_n l_a_Bits ∧ l_a_Bits.length < 1073741824 ∧ ((∀ (r1_Bits_a : Option Addr) (r1_Bits_n r1_Bits_e : Nat), ∀ H' : AHeap, Grow H H' → OwnS fB H' H.length r1_Bits_a r1_Bits_n r1_Bits_e l_a_Bits → K a_Count a_Top r1_Bits_a r1_Bits_n r1_Bits_e H'))) : T_laws_toCoded a_Count a_Top a_Bits_a a_Bits_n a_Bits_e H K := h
theorem laws_toCoded_id (a b : Int) (l : List Bool) : p_laws_toCoded a b l = (a, b, l) := rfl
/-! laws_toCoded: function 25 -/
def E_laws_toCoded : Env := envOf [(20, S_laws_toBoolS)]
def F_laws_toCoded : List Value → AHeap → (Value → AHeap → Prop) → Prop
  | [.agg ⟨[.int .i64 a_Count, .int .i64 a_Top, .slice a_Bits_a a_Bits_n a_Bits_e]⟩], H, K => T_laws_toCoded a_Count a_Top a_Bits_a a_Bits_n a_Bits_e H fun (r1_Count : Int) (r1_Top : Int) (r1_Bits_a : Option Addr) (r1_Bits_n : Nat) (r1_Bits_e : Nat) (H' : AHeap) => K (.agg #[.int .i64 r1_Count, .int .i64 r1_Top, .slice r1_Bits_a r1_Bits_n r1_Bits_e]) H'
  | _, _, _ => False
def S_laws_toCoded : FSpec := { F := F_laws_toCoded, quiet := false, tame := true }
theorem laws_toCoded_vc (a_Count : Int) (a_Top : Int) (a_Bits_a : Option Addr) (a_Bits_n : Nat) (a_Bits_e : Nat) (H : AHeap) (K : Value → AHeap → Prop) : bodyK Try.prog E_laws_toCoded Try.f25 [.agg #[.int .i64 a_Count, .int .i64 a_Top, .slice a_Bits_a a_Bits_n a_Bits_e]] H K =
  (Al [.int .i64 a_Count, .int .i64 a_Top, .slice a_Bits_a a_Bits_n a_Bits_e] H fun b1 H1 => Al [.int .i64 0, .int .i64 0, .slice none 0 0] H1 fun b2 H2 => Al [.int .i64 0, .int .i64 0, .slice none 0 0] H2 fun b3 H3 => ∃ x1 : Int,  rdC H3 b1 0 = some (.int .i64 x1) ∧ isOwn H3 b3 ∧ (∃ l, rdN H3 b3 0 1 = some l) ∧ Lt (setC H3 b3 0 (.int .i64 x1)) fun H4 => ∃ x2 : Int,  rdC H4 b1 1 = some (.int .i64 x2) ∧ isOwn H4 b3 ∧ (∃ l, rdN H4 b3 1 1 = some l) ∧ Lt (setC H4 b3 1 (.int .i64 x2)) fun H5 => ∃ x3_a : Option Addr, ∃ x3_n : Nat, ∃ x3_e : Nat,  rdC H5 b1 2 = some (.slice x3_a x3_n x3_e) ∧ T_laws_toBoolS x3_a x3_n x3_e H5 fun (a1 : Option Addr) (r1 : Nat) (r2 : Nat) (H6 : AHeap) => isOwn H6 b3 ∧ (∃ l, rdN H6 b3 2 1 = some l) ∧ Lt (setC H6 b3 2 (.slice a1 r1 r2)) fun H7 => ∃ c1 : Int, ∃ c2 : Int, ∃ c3_a : Option Addr, ∃ c3_n : Nat, ∃ c3_e : Nat,  rdN H7 b3 0 3 = some [.int .i64 c1, .int .i64 c2, .slice c3_a c3_n c3_e] ∧ isOwn H7 b2 ∧ (∃ l, rdN H7 b2 0 3 = some l) ∧ Lt (setN H7 b2 0 [.int .i64 c1, .int .i64 c2, .slice c3_a c3_n c3_e]) fun H8 => ∃ c4 : Int, ∃ c5 : Int, ∃ c6_a : Option Addr, ∃ c6_n : Nat, ∃ c6_e : Nat,  rdN H8 b2 0 3 = some [.int .i64 c4, .int .i64 c5, .slice c6_a c6_n c6_e] ∧ K (.agg #[.int .i64 c4, .int .i64 c5, .slice c6_a c6_n c6_e]) H8) := by kernel_rfl
theorem E_laws_toCoded_ok : ∀ g, FnOk Try.prog g (E_laws_toCoded g) := FnOk.envOf (by
  intro x hx
  simp only [List.mem_cons, List.not_mem_nil, or_false] at hx
  subst hx; exact laws_toBoolS_ok)
set_option maxHeartbeats 1000000 in
theorem laws_toCoded_main (a_Count : Int) (a_Top : Int) (a_Bits_a : Option Addr) (a_Bits_n : Nat) (a_Bits_e : Nat) (H : AHeap) (K : Value → AHeap → Prop) (h : T_laws_toCoded a_Count a_Top a_Bits_a a_Bits_n a_Bits_e H fun (r1_Count : Int) (r1_Top : Int) (r1_Bits_a : Option Addr) (r1_Bits_n : Nat) (r1_Bits_e : Nat) (H' : AHeap) => K (.agg #[.int .i64 r1_Count, .int .i64 r1_Top, .slice r1_Bits_a r1_Bits_n r1_Bits_e]) H') : bodyK Try.prog E_laws_toCoded Try.f25 [.agg #[.int .i64 a_Count, .int .i64 a_Top, .slice a_Bits_a a_Bits_n a_Bits_e]] H K := by
  rw [laws_toCoded_vc]
  obtain ⟨l_a_Bits, i_a_Bits, bd_100, hk⟩ := h
  have hk : (∀ (r1_Bits_a : Option Addr) (r1_Bits_n r1_Bits_e : Nat), ∀ H' : AHeap, Grow H H' → OwnS fB H' H.length r1_Bits_a r1_Bits_n r1_Bits_e ((p_laws_toCoded a_Count a_Top l_a_Bits).2.2) → (fun (r1_Count : Int) (r1_Top : Int) (r1_Bits_a : Option Addr) (r1_Bits_n : Nat) (r1_Bits_e : Nat) (H' : AHeap) => K (.agg #[.int .i64 r1_Count, .int .i64 r1_Top, .slice r1_Bits_a r1_Bits_n r1_Bits_e]) H') ((p_laws_toCoded a_Count a_Top l_a_Bits).1) ((p_laws_toCoded a_Count a_Top l_a_Bits).2.1) r1_Bits_a r1_Bits_n r1_Bits_e H') := by rw [laws_toCoded_id a_Count a_Top l_a_Bits]; exact hk
  obtain rfl := i_a_Bits.eqn
  have e : (p_laws_toCoded a_Count a_Top l_a_Bits) = _ := rfl
  have e := e.trans (p_laws_toCoded_eq a_Count a_Top l_a_Bits)
  have g0 := Grow.refl H
  refine Al.intro (fun b_1 H_1 hb_2 hl_3 g_4 o_5 => ?_)
  have l_7 := g_4.1
  have g_8 := g0.trans g_4
  have l_9 := g_8.1
  have w_99 := o_5.lt
  refine Al.intro (fun b_10 H_2 hb_11 hl_12 g_13 o_14 => ?_)
  have l_16 := g_13.1
  have g_17 := g_8.trans g_13
  have l_18 := g_17.1
  have o_19 := o_5.grow g_13
  have w_20 := o_19.lt
  have w_98 := o_14.lt
  refine Al.intro (fun b_21 H_3 hb_22 hl_23 g_24 o_25 => ?_)
  have l_27 := g_24.1
  have g_28 := g_17.trans g_24
  have l_29 := g_28.1
  have o_30 := o_19.grow g_24
  have w_31 := o_30.lt
  have o_32 := o_14.grow g_24
  have w_33 := o_32.lt
  have w_97 := o_25.lt
  refine ⟨a_Count, (o_30.rdC _).trans rfl, ?_⟩
  refine Lt.set o_25 (Nat.le_of_ble_eq_true rfl) (fun H_4 hl_34 o_36 k_35 => ?_)
  have o_36 : Own H_4 b_21 [.int .i64 a_Count, .int .i64 0, .slice none 0 0] := o_36
  have l_37 := k_35.1
  have g_38 := g_28.keep (b := b_21) (by omega) k_35
  have l_39 := g_38.1
  have o_40 := o_30.keep (by omega) k_35
  have w_41 := o_40.lt
  have o_42 := o_32.keep (by omega) k_35
  have w_43 := o_42.lt
  have w_96 := o_36.lt
  refine ⟨a_Top, (o_40.rdC _).trans rfl, ?_⟩
  refine Lt.set o_36 (Nat.le_of_ble_eq_true rfl) (fun H_5 hl_44 o_46 k_45 => ?_)
  have o_46 : Own H_5 b_21 [.int .i64 a_Count, .int .i64 a_Top, .slice none 0 0] := o_46
  have l_47 := k_45.1
  have g_48 := g_38.keep (b := b_21) (by omega) k_45
  have l_49 := g_48.1
  have o_50 := o_40.keep (by omega) k_45
  have w_51 := o_50.lt
  have o_52 := o_42.keep (by omega) k_45
  have w_53 := o_52.lt
  have w_95 := o_46.lt
  refine ⟨a_Bits_a, l_a_Bits.length, a_Bits_e, (o_50.rdC _).trans rfl, ?_⟩
  refine T_laws_toBoolS_i ⟨_, (i_a_Bits.grow g_48), (by first | omega | (simp only [List.length_set, List.length_replicate, List.length_append, List.length_cons, List.length_nil]; done) | (simp only [List.length_set, List.length_replicate, List.length_append, List.length_cons, List.length_nil]; omega)), fun a_54 n_55 e_56 H_6 g_58 r_57 => ?_⟩
  have l_59 := g_58.1
  have g_60 := g_48.trans g_58
  have l_61 := g_60.1
  have o_62 := o_50.grow g_58
  have w_63 := o_62.lt
  have o_64 := o_52.grow g_58
  have w_65 := o_64.lt
  have o_66 := o_46.grow g_58
  have w_67 := o_66.lt
  obtain rfl := r_57.isL.eqn
  have u_68 := r_57.up
  have u_69 := r_57.lo
  refine Lt.set o_66 (Nat.le_of_ble_eq_true rfl) (fun H_7 hl_71 o_73 k_72 => ?_)
  have o_73 : Own H_7 b_21 [.int .i64 a_Count, .int .i64 a_Top, .slice a_54 ((l_a_Bits).length) e_56] := o_73
  have l_74 := k_72.1
  have g_75 := g_60.keep (b := b_21) (by omega) k_72
  have l_76 := g_75.1
  have o_77 := o_62.keep (by omega) k_72
  have w_78 := o_77.lt
  have o_79 := o_64.keep (by omega) k_72
  have w_80 := o_79.lt
  have r_81 := r_57.keep u_68 (by omega) k_72
  have w_94 := o_73.lt
  refine ⟨a_Count, a_Top, a_54, (l_a_Bits).length, e_56, (o_73.rdN (Nat.le_of_ble_eq_true rfl)).trans rfl, ?_⟩
  refine Lt.setN (n := 3) o_79 (Nat.le_of_ble_eq_true rfl) rfl (fun H_8 hl_82 o_84 k_83 => ?_)
  have o_84 : Own H_8 b_10 [.int .i64 a_Count, .int .i64 a_Top, .slice a_54 ((l_a_Bits).length) e_56] := o_84
  have l_85 := k_83.1
  have g_86 := g_75.keep (b := b_10) (by omega) k_83
  have l_87 := g_86.1
  have o_88 := o_77.keep (by omega) k_83
  have w_89 := o_88.lt
  have o_90 := o_73.keep (by omega) k_83
  have w_91 := o_90.lt
  have r_92 := r_81.keep u_68 (by omega) k_83
  have w_93 := o_84.lt
  refine ⟨a_Count, a_Top, a_54, (l_a_Bits).length, e_56, (o_84.rdN (Nat.le_of_ble_eq_true rfl)).trans rfl, ?_⟩
  rw [e] at hk
  exact hk _ _ _ H_8 g_86 (r_92.weak (by omega))
theorem laws_toCoded_ok : FnOk Try.prog 25 S_laws_toCoded := by
  refine FnOk.body mix_ok E_laws_toCoded_ok Try.func25 rfl (by kernel_rfl) (by kernel_rfl) ?_ ?_ ?_ ?_ ?_
  · intro args H K K' h hk
    simp only [S_laws_toCoded] at *
    unfold F_laws_toCoded at *
    split at hk
    · obtain ⟨l_a_Bits, i_a_Bits, bd_100, k⟩ := hk
      exact ⟨l_a_Bits, i_a_Bits, bd_100, (fun r1_Bits_a r1_Bits_n r1_Bits_e H' gg ow0 => h _ _ (k r1_Bits_a r1_Bits_n r1_Bits_e H' gg ow0))⟩
    · exact hk.elim
  · intro hq; cases hq
  · intro args H K hk
    simp only [S_laws_toCoded] at *
    unfold F_laws_toCoded at *
    split at hk
    · obtain ⟨l_a_Bits, i_a_Bits, bd_100, k⟩ := hk
      exact liveS fun a n e H1 g o => ⟨_, _, k a n e H1 g o⟩
    · exact hk.elim
  · intro _ args H K hk
    simp only [S_laws_toCoded] at *
    unfold F_laws_toCoded at *
    split at hk
    · obtain ⟨l_a_Bits, i_a_Bits, bd_100, k⟩ := hk
      exact ⟨l_a_Bits, i_a_Bits, bd_100, (fun r1_Bits_a r1_Bits_n r1_Bits_e H' gg ow0 => ⟨gg, k r1_Bits_a r1_Bits_n r1_Bits_e H' gg ow0⟩)⟩
    · exact hk.elim
  · have mm := @laws_toCoded_main
    revert mm
    generalize bodyK Try.prog E_laws_toCoded Try.f25 = Q
    intro mm args H K hk
    simp only [S_laws_toCoded] at *
    unfold F_laws_toCoded at *
    split at hk
    · exact mm _ _ _ _ _ H K hk
    · exact hk.elim
def p_spec_l06SameBits_l1 (l_a : List Bool) (l_b : List Bool) : Nat → Bool → Int → Bool
  | 0, _, _ => false
  | μ + 1, t4, i => (bif decide ((i : Int) < (l_a.length : Int)) then (bif !((((l_a).getD (i : Int).toNat false)) == (((l_b).getD (i : Int).toNat false))) then false else (p_spec_l06SameBits_l1 l_a l_b μ t4 (i + 1))) else true)
theorem p_spec_l06SameBits_l1_s (l_a : List Bool) (l_b : List Bool) (μ : Nat) (t4 : Bool) (i : Int) : p_spec_l06SameBits_l1 l_a l_b (μ + 1) t4 i = (bif decide ((i : Int) < (l_a.length : Int)) then (bif !((((l_a).getD (i : Int).toNat false)) == (((l_b).getD (i : Int).toNat false))) then false else (p_spec_l06SameBits_l1 l_a l_b μ t4 (i + 1))) else true) := rfl
def p_spec_l06SameBits (l_a : List Bool) (l_b : List Bool) : Bool := (bif ((l_a.length : Int) : Int) != (l_b.length : Int) then false else (p_spec_l06SameBits_l1 l_a l_b (Int.toNat ((l_a.length : Int) - (0 : Int)) + 1) false (0 : Int)))
theorem p_spec_l06SameBits_eq (l_a : List Bool) (l_b : List Bool) : p_spec_l06SameBits l_a l_b = (bif ((l_a.length : Int) : Int) != (l_b.length : Int) then false else (p_spec_l06SameBits_l1 l_a l_b (Int.toNat ((l_a.length : Int) - (0 : Int)) + 1) false (0 : Int))) := rfl
def T_spec_l06SameBits (a_a : Option Addr) (a_n : Nat) (a_e : Nat) (b_a : Option Addr) (b_n : Nat) (b_e : Nat) (H : AHeap) (K : Bool → AHeap → Prop) : Prop := ∃ (l_a : List Bool), ∃ (l_b : List Bool), IsL fB H a_a a_n l_a ∧ IsL fB H b_a b_n l_b ∧ l_a.length < 1073741824 ∧ l_b.length < 1073741824 ∧ K (p_spec_l06SameBits l_a l_b) H
theorem T_spec_l06SameBits_i {a_a : Option Addr} {a_n : Nat} {a_e : Nat} {b_a : Option Addr} {b_n : Nat} {b_e : Nat} {H : AHeap} {K : Bool → AHeap → Prop} (h : ∃ (l_a : List Bool), ∃ (l_b : List Bool), IsL fB H a_a a_n l_a ∧ IsL fB H b_a b_n l_b ∧ l_a.length < 1073741824 ∧ l_b.length < 1073741824 ∧ K (p_spec_l06SameBits l_a l_b) H) : T_spec_l06SameBits a_a a_n a_e b_a b_n b_e H K := h

/-! spec_l06SameBits: function 76 -/
def E_spec_l06SameBits : Env := envOf []
def F_spec_l06SameBits : List Value → AHeap → (Value → AHeap → Prop) → Prop
  | [.slice a_a a_n a_e, .slice b_a b_n b_e], H, K => T_spec_l06SameBits a_a a_n a_e b_a b_n b_e H fun (r1 : Bool) (H' : AHeap) => K (.bool r1) H'
  | _, _, _ => False
def S_spec_l06SameBits : FSpec := { F := F_spec_l06SameBits, quiet := true, tame := false }
theorem spec_l06SameBits_vc (a_a : Option Addr) (a_n : Nat) (a_e : Nat) (b_a : Option Addr) (b_n : Nat) (b_e : Nat) (H : AHeap) (K : Value → AHeap → Prop) : bodyK Try.prog E_spec_l06SameBits Try.f76 [.slice a_a a_n a_e, .slice b_a b_n b_e] H K =
  (Br (((a_n : Int) : Int) != (b_n : Int)) (K (.bool false) H) (loopK (exK Try.prog E_spec_l06SameBits (cl (cl (cr (cl (cr (cr (bodyC Try.f76)))))))) [.slice a_a a_n a_e, .slice b_a b_n b_e, undef, undef, .bool false, .int .i64 0, .slice a_a a_n a_e, .int .i64 (a_n : Int), .slice b_a b_n b_e, .int .i64 (b_n : Int), .bool (((a_n : Int) : Int) != (b_n : Int)), undef, undef, undef, undef, undef, undef, undef, undef, undef, undef, undef, undef, undef, undef, undef] H (blockQ 0 (seqQ (exK Try.prog E_spec_l06SameBits (cr (cr (cr (bodyC Try.f76))))) (retK Try.prog Try.f76 K))))) := by kernel_rfl
theorem spec_l06SameBits_r1 (a_a : Option Addr) (a_e : Nat) (a_n : Nat) (b_a : Option Addr) (b_e : Nat) (b_n : Nat) (t4 : Bool) (i : Int) (g11 g12 g13 g14 g15 g16 g17 g18 g19 g20 g21 g22 g23 g24 g25 : Value) (H : AHeap) (R : Post) : exK Try.prog E_spec_l06SameBits (cl (cl (cr (cl (cr (cr (bodyC Try.f76))))))) [.slice a_a a_n a_e, .slice b_a b_n b_e, undef, undef, .bool t4, .int .i64 i, .slice a_a a_n a_e, .int .i64 (a_n : Int), .slice b_a b_n b_e, .int .i64 (b_n : Int), .bool (((a_n : Int) : Int) != (b_n : Int)), g11, g12, g13, g14, g15, g16, g17, g18, g19, g20, g21, g22, g23, g24, g25] H R =
  (Br (decide ((i : Int) < (a_n : Int))) ((0 : Int) ≤ i ∧ i < (a_n : Int) ∧ ∃ b1 f1, (a_a : Option Addr) = some ⟨b1, f1, none⟩ ∧ ∃ x1 : Bool,  rdC H b1 (f1 + (i : Int).toNat * 1) = some (.bool x1) ∧ (0 : Int) ≤ i ∧ i < (b_n : Int) ∧ ∃ b2 f2, (b_a : Option Addr) = some ⟨b2, f2, none⟩ ∧ ∃ x2 : Bool,  rdC H b2 (f2 + (i : Int).toNat * 1) = some (.bool x2) ∧ Br (!(x1 == x2)) (R .ret [.slice a_a a_n a_e, .slice b_a b_n b_e, undef, undef, .bool false, .int .i64 i, .slice a_a a_n a_e, .int .i64 (a_n : Int), .slice b_a b_n b_e, .int .i64 (b_n : Int), .bool (((a_n : Int) : Int) != (b_n : Int)), .int .i64 i, .slice a_a a_n a_e, .int .i64 (a_n : Int), .bool (decide ((i : Int) < (a_n : Int))), g15, g16, .slice a_a a_n a_e, .int .i64 i, .pointer (some ⟨b1, f1 + (i : Int).toNat * 1, none⟩), .bool x1, .slice b_a b_n b_e, .int .i64 i, .pointer (some ⟨b2, f2 + (i : Int).toNat * 1, none⟩), .bool x2, .bool (!(x1 == x2))] H) (R .normal [.slice a_a a_n a_e, .slice b_a b_n b_e, undef, undef, .bool t4, .int .i64 (IntKind.wrap .i64 (i + 1)), .slice a_a a_n a_e, .int .i64 (a_n : Int), .slice b_a b_n b_e, .int .i64 (b_n : Int), .bool (((a_n : Int) : Int) != (b_n : Int)), .int .i64 i, .slice a_a a_n a_e, .int .i64 (a_n : Int), .bool (decide ((i : Int) < (a_n : Int))), .int .i64 i, .int .i64 (IntKind.wrap .i64 (i + 1)), .slice a_a a_n a_e, .int .i64 i, .pointer (some ⟨b1, f1 + (i : Int).toNat * 1, none⟩), .bool x1, .slice b_a b_n b_e, .int .i64 i, .pointer (some ⟨b2, f2 + (i : Int).toNat * 1, none⟩), .bool x2, .bool (!(x1 == x2))] H)) (R (.exit 0) [.slice a_a a_n a_e, .slice b_a b_n b_e, undef, undef, .bool t4, .int .i64 i, .slice a_a a_n a_e, .int .i64 (a_n : Int), .slice b_a b_n b_e, .int .i64 (b_n : Int), .bool (((a_n : Int) : Int) != (b_n : Int)), .int .i64 i, .slice a_a a_n a_e, .int .i64 (a_n : Int), .bool (decide ((i : Int) < (a_n : Int))), g15, g16, g17, g18, g19, g20, g21, g22, g23, g24, g25] H)) := by kernel_rfl
def spec_l06SameBits_I1 (a_a : Option Addr) (a_e : Nat) (a_n : Nat) (b_a : Option Addr) (b_e : Nat) (b_n : Nat) (Inv : Nat → Bool → Int → AHeap → Prop) : Nat → List Value → AHeap → Prop := fun μ tm H => ∃ (t4 : Bool), ∃ (i : Int), ∃ g11 g12 g13 g14 g15 g16 g17 g18 g19 g20 g21 g22 g23 g24 g25, tm = [.slice a_a a_n a_e, .slice b_a b_n b_e, undef, undef, .bool t4, .int .i64 i, .slice a_a a_n a_e, .int .i64 (a_n : Int), .slice b_a b_n b_e, .int .i64 (b_n : Int), .bool (((a_n : Int) : Int) != (b_n : Int)), g11, g12, g13, g14, g15, g16, g17, g18, g19, g20, g21, g22, g23, g24, g25] ∧ Inv μ t4 i H
theorem spec_l06SameBits_L1 (a_a : Option Addr) (a_e : Nat) (a_n : Nat) (b_a : Option Addr) (b_e : Nat) (b_n : Nat) {Q : Post} (Inv : Nat → Bool → Int → AHeap → Prop) (ν : Nat) (t4 : Bool) (i : Int) (g11 g12 g13 g14 g15 g16 g17 g18 g19 g20 g21 g22 g23 g24 g25 : Value) (H : AHeap) (h0 : Inv ν t4 i H)
    (hs : ∀ (μ : Nat) (t4 : Bool) (i : Int) (g11 g12 g13 g14 g15 g16 g17 g18 g19 g20 g21 g22 g23 g24 g25 : Value) (H : AHeap), Inv μ t4 i H → exK Try.prog E_spec_l06SameBits (cl (cl (cr (cl (cr (cr (bodyC Try.f76))))))) [.slice a_a a_n a_e, .slice b_a b_n b_e, undef, undef, .bool t4, .int .i64 i, .slice a_a a_n a_e, .int .i64 (a_n : Int), .slice b_a b_n b_e, .int .i64 (b_n : Int), .bool (((a_n : Int) : Int) != (b_n : Int)), g11, g12, g13, g14, g15, g16, g17, g18, g19, g20, g21, g22, g23, g24, g25] H (loopQ (spec_l06SameBits_I1 a_a a_e a_n b_a b_e b_n Inv) μ Q)) : loopK (exK Try.prog E_spec_l06SameBits (cl (cl (cr (cl (cr (cr (bodyC Try.f76)))))))) [.slice a_a a_n a_e, .slice b_a b_n b_e, undef, undef, .bool t4, .int .i64 i, .slice a_a a_n a_e, .int .i64 (a_n : Int), .slice b_a b_n b_e, .int .i64 (b_n : Int), .bool (((a_n : Int) : Int) != (b_n : Int)), g11, g12, g13, g14, g15, g16, g17, g18, g19, g20, g21, g22, g23, g24, g25] H Q :=
  ⟨spec_l06SameBits_I1 a_a a_e a_n b_a b_e b_n Inv, ν, ⟨t4, i, g11, g12, g13, g14, g15, g16, g17, g18, g19, g20, g21, g22, g23, g24, g25, rfl, h0⟩, fun μ tm H h => by obtain ⟨t4, i, g11, g12, g13, g14, g15, g16, g17, g18, g19, g20, g21, g22, g23, g24, g25, rfl, hI⟩ := h; exact hs μ t4 i g11 g12 g13 g14 g15 g16 g17 g18 g19 g20 g21 g22 g23 g24 g25 H hI⟩
theorem spec_l06SameBits_n1 {a_a : Option Addr} {a_e : Nat} {a_n : Nat} {b_a : Option Addr} {b_e : Nat} {b_n : Nat} {Q : Post} {Inv : Nat → Bool → Int → AHeap → Prop} {μ : Nat} (μ' : Nat) {t4 : Bool} {i : Int} {g11 g12 g13 g14 g15 g16 g17 g18 g19 g20 g21 g22 g23 g24 g25 : Value} {H : AHeap} (hm : μ' < μ) (hI : Inv μ' t4 i H) : loopQ (spec_l06SameBits_I1 a_a a_e a_n b_a b_e b_n Inv) μ Q .normal [.slice a_a a_n a_e, .slice b_a b_n b_e, undef, undef, .bool t4, .int .i64 i, .slice a_a a_n a_e, .int .i64 (a_n : Int), .slice b_a b_n b_e, .int .i64 (b_n : Int), .bool (((a_n : Int) : Int) != (b_n : Int)), g11, g12, g13, g14, g15, g16, g17, g18, g19, g20, g21, g22, g23, g24, g25] H := ⟨μ', hm, t4, i, g11, g12, g13, g14, g15, g16, g17, g18, g19, g20, g21, g22, g23, g24, g25, rfl, hI⟩
theorem spec_l06SameBits_x1_0 (a_a : Option Addr) (a_e : Nat) (a_n : Nat) (b_a : Option Addr) (b_e : Nat) (b_n : Nat) (t4 : Bool) (i : Int) (g11 g12 g13 g14 g15 g16 g17 g18 g19 g20 g21 g22 g23 g24 g25 : Value) (H : AHeap) (K : Value → AHeap → Prop)  {I : Nat → List Value → AHeap → Prop} {μ : Nat} : loopQ I μ (blockQ 0 (seqQ (exK Try.prog E_spec_l06SameBits (cr (cr (cr (bodyC Try.f76))))) (retK Try.prog Try.f76 K))) (.exit 0) [.slice a_a a_n a_e, .slice b_a b_n b_e, undef, undef, .bool t4, .int .i64 i, .slice a_a a_n a_e, .int .i64 (a_n : Int), .slice b_a b_n b_e, .int .i64 (b_n : Int), .bool (((a_n : Int) : Int) != (b_n : Int)), g11, g12, g13, g14, g15, g16, g17, g18, g19, g20, g21, g22, g23, g24, g25] H =
  (K (.bool true) H) := by kernel_rfl
theorem spec_l06SameBits_x1_ret (a_a : Option Addr) (a_e : Nat) (a_n : Nat) (b_a : Option Addr) (b_e : Nat) (b_n : Nat) (t4 : Bool) (i : Int) (g11 g12 g13 g14 g15 g16 g17 g18 g19 g20 g21 g22 g23 g24 g25 : Value) (H : AHeap) (K : Value → AHeap → Prop)  {I : Nat → List Value → AHeap → Prop} {μ : Nat} : loopQ I μ (blockQ 0 (seqQ (exK Try.prog E_spec_l06SameBits (cr (cr (cr (bodyC Try.f76))))) (retK Try.prog Try.f76 K))) .ret [.slice a_a a_n a_e, .slice b_a b_n b_e, undef, undef, .bool t4, .int .i64 i, .slice a_a a_n a_e, .int .i64 (a_n : Int), .slice b_a b_n b_e, .int .i64 (b_n : Int), .bool (((a_n : Int) : Int) != (b_n : Int)), g11, g12, g13, g14, g15, g16, g17, g18, g19, g20, g21, g22, g23, g24, g25] H =
  (K (.bool t4) H) := by kernel_rfl
theorem E_spec_l06SameBits_ok : ∀ g, FnOk Try.prog g (E_spec_l06SameBits g) := FnOk.envOf (by
  intro x hx; cases hx)
set_option maxHeartbeats 1000000 in
theorem spec_l06SameBits_main (a_a : Option Addr) (a_n : Nat) (a_e : Nat) (b_a : Option Addr) (b_n : Nat) (b_e : Nat) (H : AHeap) (K : Value → AHeap → Prop) (h : T_spec_l06SameBits a_a a_n a_e b_a b_n b_e H fun (r1 : Bool) (H' : AHeap) => K (.bool r1) H') : bodyK Try.prog E_spec_l06SameBits Try.f76 [.slice a_a a_n a_e, .slice b_a b_n b_e] H K := by
  rw [spec_l06SameBits_vc]
  obtain ⟨l_a, l_b, i_a, i_b, bd_13, bd_14, hk⟩ := h
  obtain rfl := i_a.eqn
  obtain rfl := i_b.eqn
  have e : (p_spec_l06SameBits l_a l_b) = _ := rfl
  have e := e.trans (p_spec_l06SameBits_eq l_a l_b)
  have g0 := Grow.refl H
  refine Br.intro (fun c_1 => ?_) (fun c_1 => ?_)
  · have e := e.trans (cond_t c_1)
    have c_1' := ine_t c_1
    rw [e] at hk
    exact hk
  · have e := e.trans (cond_f c_1)
    have c_1' := ine_f c_1
    refine spec_l06SameBits_L1 _ _ _ _ _ _ (fun (μ : Nat) (t4 : Bool) (i : Int) (H_1 : AHeap) => H = H_1 ∧ (0 : Int) ≤ i ∧ i ≤ (l_a.length : Int) ∧ (l_a.length : Int) - i ≤ (μ : Int) ∧ p_spec_l06SameBits l_a l_b = p_spec_l06SameBits_l1 l_a l_b (μ + 1) t4 i) (Int.toNat ((l_a.length : Int) - (0 : Int))) _ _ _ _ _ _ _ _ _ _ _ _ _ _ _ _ _ H ?_ ?_
    · exact ⟨rfl, (by first | omega | (simp; done) | (simp; omega)), (by first | omega | (simp; done) | (simp; omega)), (by omega), e⟩
    · intro μ t4 i g11 g12 g13 g14 g15 g16 g17 g18 g19 g20 g21 g22 g23 g24 g25 H_1 hI
      obtain ⟨rfl, v_2, v_3, hμ, e⟩ := hI
      rw [spec_l06SameBits_r1]
      have e := e.trans (p_spec_l06SameBits_l1_s l_a l_b μ t4 i)
      have l_4 := g0.1
      refine Br.intro (fun c_5 => ?_) (fun c_5 => ?_)
      · have e := e.trans (cond_t c_5)
        have c_5' := of_decide_eq_true c_5
        obtain ⟨b_6, f_7, q_8⟩ := ((i_a.grow g0)).pos (by first | omega | (simp only [List.length_set, List.length_replicate, List.length_append, List.length_cons, List.length_nil]; done) | (simp only [List.length_set, List.length_replicate, List.length_append, List.length_cons, List.length_nil]; omega))
        refine ⟨by omega, by omega, b_6, f_7, q_8, ?_⟩
        refine ⟨((l_a).getD (i : Int).toNat false), (i_a).rd g0 q_8 (by omega) _, ?_⟩
        obtain ⟨b_9, f_10, q_11⟩ := ((i_b.grow g0)).pos (by first | omega | (simp only [List.length_set, List.length_replicate, List.length_append, List.length_cons, List.length_nil]; done) | (simp only [List.length_set, List.length_replicate, List.length_append, List.length_cons, List.length_nil]; omega))
        refine ⟨by omega, by omega, b_9, f_10, q_11, ?_⟩
        refine ⟨((l_b).getD (i : Int).toNat false), (i_b).rd g0 q_11 (by omega) _, ?_⟩
        refine Br.intro (fun c_12 => ?_) (fun c_12 => ?_)
        · have e := e.trans (cond_t c_12)
          have c_12n := nf_of_t c_12
          rw [spec_l06SameBits_x1_ret]
          rw [e] at hk
          exact hk
        · have e := e.trans (cond_f c_12)
          have c_12n := nt_of_f c_12
          rw [show IntKind.wrap .i64 (i + 1) = (i + 1) from wrap64 (by omega) (by omega)]
          refine spec_l06SameBits_n1 (μ - 1) (by omega) ⟨rfl, (by first | omega | (simp only [List.length_append, List.length_cons, List.length_nil, List.length_set]; done) | (simp only [List.length_append, List.length_cons, List.length_nil, List.length_set]; omega)), (by first | omega | (simp only [List.length_append, List.length_cons, List.length_nil, List.length_set]; done) | (simp only [List.length_append, List.length_cons, List.length_nil, List.length_set]; omega)), (by omega), (by rw [show μ - 1 + 1 = μ from by omega]; exact e)⟩
      · have e := e.trans (cond_f c_5)
        have c_5' := of_decide_eq_false c_5
        rw [spec_l06SameBits_x1_0]
        rw [e] at hk
        exact hk
theorem spec_l06SameBits_ok : FnOk Try.prog 76 S_spec_l06SameBits := by
  refine FnOk.body mix_ok E_spec_l06SameBits_ok Try.func76 rfl (by kernel_rfl) (by kernel_rfl) ?_ ?_ ?_ ?_ ?_
  · intro args H K K' h hk
    simp only [S_spec_l06SameBits] at *
    unfold F_spec_l06SameBits at *
    split at hk
    · obtain ⟨l_a, l_b, i_a, i_b, bd_13, bd_14, k⟩ := hk
      exact ⟨l_a, l_b, i_a, i_b, bd_13, bd_14, h _ _ k⟩
    · exact hk.elim
  · intro _ args H K hk
    simp only [S_spec_l06SameBits] at *
    unfold F_spec_l06SameBits at *
    split at hk
    · obtain ⟨l_a, l_b, i_a, i_b, bd_13, bd_14, k⟩ := hk
      exact ⟨_, k, fun K' k' => ⟨l_a, l_b, i_a, i_b, bd_13, bd_14, k'⟩⟩
    · exact hk.elim
  · intro args H K hk
    simp only [S_spec_l06SameBits] at *
    unfold F_spec_l06SameBits at *
    split at hk
    · obtain ⟨l_a, l_b, i_a, i_b, bd_13, bd_14, k⟩ := hk
      exact ⟨_, _, k⟩
    · exact hk.elim
  · intro hq; cases hq
  · have mm := @spec_l06SameBits_main
    revert mm
    generalize bodyK Try.prog E_spec_l06SameBits Try.f76 = Q
    intro mm args H K hk
    simp only [S_spec_l06SameBits] at *
    unfold F_spec_l06SameBits at *
    split at hk
    · exact mm _ _ _ _ _ _ H K hk
    · exact hk.elim
def p_spec_l06Same (ap_Count : Int) (ap_Top : Int) (l_ap_Bits : List Bool) (bp_Count : Int) (bp_Top : Int) (l_bp_Bits : List Bool) : Bool := (bif (ap_Count : Int) == bp_Count then (bif (ap_Top : Int) == bp_Top then (p_spec_l06SameBits l_ap_Bits l_bp_Bits) else false) else false)
theorem p_spec_l06Same_eq (ap_Count : Int) (ap_Top : Int) (l_ap_Bits : List Bool) (bp_Count : Int) (bp_Top : Int) (l_bp_Bits : List Bool) : p_spec_l06Same ap_Count ap_Top l_ap_Bits bp_Count bp_Top l_bp_Bits = (bif (ap_Count : Int) == bp_Count then (bif (ap_Top : Int) == bp_Top then (p_spec_l06SameBits l_ap_Bits l_bp_Bits) else false) else false) := rfl
def T_spec_l06Same (a : Nat) (b : Nat) (H : AHeap) (K : Bool → AHeap → Prop) : Prop := ∃ (ap_Count : Int), ∃ (ap_Top : Int), ∃ (ap_Bits_a : Option Addr), ∃ (ap_Bits_n : Nat), ∃ (ap_Bits_e : Nat), ∃ (bp_Count : Int), ∃ (bp_Top : Int), ∃ (bp_Bits_a : Option Addr), ∃ (bp_Bits_n : Nat), ∃ (bp_Bits_e : Nat), ∃ (l_ap_Bits : List Bool), ∃ (l_bp_Bits : List Bool), rdN H a 0 3 = some [.int .i64 ap_Count, .int .i64 ap_Top, .slice ap_Bits_a ap_Bits_n ap_Bits_e] ∧ rdN H b 0 3 = some [.int .i64 bp_Count, .int .i64 bp_Top, .slice bp_Bits_a bp_Bits_n bp_Bits_e] ∧ IsL fB H ap_Bits_a ap_Bits_n l_ap_Bits ∧ IsL fB H bp_Bits_a bp_Bits_n l_bp_Bits ∧ l_ap_Bits.length < 1073741824 ∧ l_bp_Bits.length < 1073741824 ∧ K (p_spec_l06Same ap_Count ap_Top l_ap_Bits bp_Count bp_Top l_bp_Bits) H
theorem T_spec_l06Same_i {a : Nat} {b : Nat} {H : AHeap} {K : Bool → AHeap → Prop} (h : ∃ (ap_Count : Int), ∃ (ap_Top : Int), ∃ (ap_Bits_a : Option Addr), ∃ (ap_Bits_n : Nat), ∃ (ap_Bits_e : Nat), ∃ (bp_Count : Int), ∃ (bp_Top : Int), ∃ (bp_Bits_a : Option Addr), ∃ (bp_Bits_n : Nat), ∃ (bp_Bits_e : Nat), ∃ (l_ap_Bits : List Bool), ∃ (l_bp_Bits : List Bool), rdN H a 0 3 = some [.int .i64 ap_Count, .int .i64 ap_Top, .slice ap_Bits_a ap_Bits_n ap_Bits_e] ∧ rdN H b 0 3 = some [.int .i64 bp_Count, .int .i64 bp_Top, .slice bp_Bits_a bp_Bits_n bp_Bits_e] ∧ IsL fB H ap_Bits_a ap_Bits_n l_ap_Bits ∧ IsL fB H bp_Bits_a bp_Bits_n l_bp_Bits ∧ l_ap_Bits.length < 1073741824 ∧ l_bp_Bits.length < 1073741824 ∧ K (p_spec_l06Same ap_Count ap_Top l_ap_Bits bp_Count bp_Top l_bp_Bits) H) : T_spec_l06Same a b H K := h

/-! spec_l06Same: function 60 -/
def E_spec_l06Same : Env := envOf [(76, S_spec_l06SameBits)]
def F_spec_l06Same : List Value → AHeap → (Value → AHeap → Prop) → Prop
  | [.pointer (some ⟨a, 0, none⟩), .pointer (some ⟨b, 0, none⟩)], H, K => T_spec_l06Same a b H fun (r1 : Bool) (H' : AHeap) => K (.bool r1) H'
  | _, _, _ => False
def S_spec_l06Same : FSpec := { F := F_spec_l06Same, quiet := true, tame := false }
theorem spec_l06Same_vc (a : Nat) (b : Nat) (H : AHeap) (K : Value → AHeap → Prop) : bodyK Try.prog E_spec_l06Same Try.f60 [.pointer (some ⟨a, 0, none⟩), .pointer (some ⟨b, 0, none⟩)] H K =
  (∃ x1 : Int,  rdC H a 0 = some (.int .i64 x1) ∧ ∃ x2 : Int,  rdC H b 0 = some (.int .i64 x2) ∧ Br ((x1 : Int) == x2) (∃ x3 : Int,  rdC H a 1 = some (.int .i64 x3) ∧ ∃ x4 : Int,  rdC H b 1 = some (.int .i64 x4) ∧ Br ((x3 : Int) == x4) (∃ x5_a : Option Addr, ∃ x5_n : Nat, ∃ x5_e : Nat,  rdC H a 2 = some (.slice x5_a x5_n x5_e) ∧ ∃ x6_a : Option Addr, ∃ x6_n : Nat, ∃ x6_e : Nat,  rdC H b 2 = some (.slice x6_a x6_n x6_e) ∧ T_spec_l06SameBits x5_a x5_n x5_e x6_a x6_n x6_e H fun (r1 : Bool) (H1 : AHeap) => K (.bool r1) H1) (K (.bool false) H)) (K (.bool false) H)) := by kernel_rfl
theorem E_spec_l06Same_ok : ∀ g, FnOk Try.prog g (E_spec_l06Same g) := FnOk.envOf (by
  intro x hx
  simp only [List.mem_cons, List.not_mem_nil, or_false] at hx
  subst hx; exact spec_l06SameBits_ok)
set_option maxHeartbeats 1000000 in
theorem spec_l06Same_main (a : Nat) (b : Nat) (H : AHeap) (K : Value → AHeap → Prop) (h : T_spec_l06Same a b H fun (r1 : Bool) (H' : AHeap) => K (.bool r1) H') : bodyK Try.prog E_spec_l06Same Try.f60 [.pointer (some ⟨a, 0, none⟩), .pointer (some ⟨b, 0, none⟩)] H K := by
  rw [spec_l06Same_vc]
  obtain ⟨ap_Count, ap_Top, ap_Bits_a, ap_Bits_n, ap_Bits_e, bp_Count, bp_Top, bp_Bits_a, bp_Bits_n, bp_Bits_e, l_ap_Bits, l_bp_Bits, i_a, i_b, i_ap_Bits, i_bp_Bits, bd_3, bd_4, hk⟩ := h
  obtain rfl := i_ap_Bits.eqn
  obtain rfl := i_bp_Bits.eqn
  have e : (p_spec_l06Same ap_Count ap_Top l_ap_Bits bp_Count bp_Top l_bp_Bits) = _ := rfl
  have e := e.trans (p_spec_l06Same_eq ap_Count ap_Top l_ap_Bits bp_Count bp_Top l_bp_Bits)
  have g0 := Grow.refl H
  refine ⟨ap_Count, (rdN_at (rdN_grow g0 i_a) 0 (Nat.le_of_ble_eq_true rfl)).trans rfl, ?_⟩
  refine ⟨bp_Count, (rdN_at (rdN_grow g0 i_b) 0 (Nat.le_of_ble_eq_true rfl)).trans rfl, ?_⟩
  refine Br.intro (fun c_1 => ?_) (fun c_1 => ?_)
  · have e := e.trans (cond_t c_1)
    have c_1' := ieq_t c_1
    refine ⟨ap_Top, (rdN_at (rdN_grow g0 i_a) 1 (Nat.le_of_ble_eq_true rfl)).trans rfl, ?_⟩
    refine ⟨bp_Top, (rdN_at (rdN_grow g0 i_b) 1 (Nat.le_of_ble_eq_true rfl)).trans rfl, ?_⟩
    refine Br.intro (fun c_2 => ?_) (fun c_2 => ?_)
    · have e := e.trans (cond_t c_2)
      have c_2' := ieq_t c_2
      refine ⟨ap_Bits_a, l_ap_Bits.length, ap_Bits_e, (rdN_at (rdN_grow g0 i_a) 2 (Nat.le_of_ble_eq_true rfl)).trans rfl, ?_⟩
      refine ⟨bp_Bits_a, l_bp_Bits.length, bp_Bits_e, (rdN_at (rdN_grow g0 i_b) 2 (Nat.le_of_ble_eq_true rfl)).trans rfl, ?_⟩
      refine T_spec_l06SameBits_i ⟨_, _, (i_ap_Bits.grow g0), (i_bp_Bits.grow g0), (by first | omega | (simp only [List.length_set, List.length_replicate, List.length_append, List.length_cons, List.length_nil]; done) | (simp only [List.length_set, List.length_replicate, List.length_append, List.length_cons, List.length_nil]; omega)), (by first | omega | (simp only [List.length_set, List.length_replicate, List.length_append, List.length_cons, List.length_nil]; done) | (simp only [List.length_set, List.length_replicate, List.length_append, List.length_cons, List.length_nil]; omega)), ?_⟩
      rw [e] at hk
      exact hk
    · have e := e.trans (cond_f c_2)
      have c_2' := ieq_f c_2
      rw [e] at hk
      exact hk
  · have e := e.trans (cond_f c_1)
    have c_1' := ieq_f c_1
    rw [e] at hk
    exact hk
theorem spec_l06Same_ok : FnOk Try.prog 60 S_spec_l06Same := by
  refine FnOk.body mix_ok E_spec_l06Same_ok Try.func60 rfl (by kernel_rfl) (by kernel_rfl) ?_ ?_ ?_ ?_ ?_
  · intro args H K K' h hk
    simp only [S_spec_l06Same] at *
    unfold F_spec_l06Same at *
    split at hk
    · obtain ⟨ap_Count, ap_Top, ap_Bits_a, ap_Bits_n, ap_Bits_e, bp_Count, bp_Top, bp_Bits_a, bp_Bits_n, bp_Bits_e, l_ap_Bits, l_bp_Bits, i_a, i_b, i_ap_Bits, i_bp_Bits, bd_3, bd_4, k⟩ := hk
      exact ⟨ap_Count, ap_Top, ap_Bits_a, ap_Bits_n, ap_Bits_e, bp_Count, bp_Top, bp_Bits_a, bp_Bits_n, bp_Bits_e, l_ap_Bits, l_bp_Bits, i_a, i_b, i_ap_Bits, i_bp_Bits, bd_3, bd_4, h _ _ k⟩
    · exact hk.elim
  · intro _ args H K hk
    simp only [S_spec_l06Same] at *
    unfold F_spec_l06Same at *
    split at hk
    · obtain ⟨ap_Count, ap_Top, ap_Bits_a, ap_Bits_n, ap_Bits_e, bp_Count, bp_Top, bp_Bits_a, bp_Bits_n, bp_Bits_e, l_ap_Bits, l_bp_Bits, i_a, i_b, i_ap_Bits, i_bp_Bits, bd_3, bd_4, k⟩ := hk
      exact ⟨_, k, fun K' k' => ⟨ap_Count, ap_Top, ap_Bits_a, ap_Bits_n, ap_Bits_e, bp_Count, bp_Top, bp_Bits_a, bp_Bits_n, bp_Bits_e, l_ap_Bits, l_bp_Bits, i_a, i_b, i_ap_Bits, i_bp_Bits, bd_3, bd_4, k'⟩⟩
    · exact hk.elim
  · intro args H K hk
    simp only [S_spec_l06Same] at *
    unfold F_spec_l06Same at *
    split at hk
    · obtain ⟨ap_Count, ap_Top, ap_Bits_a, ap_Bits_n, ap_Bits_e, bp_Count, bp_Top, bp_Bits_a, bp_Bits_n, bp_Bits_e, l_ap_Bits, l_bp_Bits, i_a, i_b, i_ap_Bits, i_bp_Bits, bd_3, bd_4, k⟩ := hk
      exact ⟨_, _, k⟩
    · exact hk.elim
  · intro hq; cases hq
  · have mm := @spec_l06Same_main
    revert mm
    generalize bodyK Try.prog E_spec_l06Same Try.f60 = Q
    intro mm args H K hk
    simp only [S_spec_l06Same] at *
    unfold F_spec_l06Same at *
    split at hk
    · exact mm _ _ H K hk
    · exact hk.elim
def p_spec_SameCoded (a_Count : Int) (a_Top : Int) (l_a_Bits : List Bool) (b_Count : Int) (b_Top : Int) (l_b_Bits : List Bool) : Bool := (p_spec_l06Same a_Count a_Top l_a_Bits b_Count b_Top l_b_Bits)
theorem p_spec_SameCoded_eq (a_Count : Int) (a_Top : Int) (l_a_Bits : List Bool) (b_Count : Int) (b_Top : Int) (l_b_Bits : List Bool) : p_spec_SameCoded a_Count a_Top l_a_Bits b_Count b_Top l_b_Bits = (p_spec_l06Same a_Count a_Top l_a_Bits b_Count b_Top l_b_Bits) := rfl
def T_spec_SameCoded (a_Count : Int) (a_Top : Int) (a_Bits_a : Option Addr) (a_Bits_n : Nat) (a_Bits_e : Nat) (b_Count : Int) (b_Top : Int) (b_Bits_a : Option Addr) (b_Bits_n : Nat) (b_Bits_e : Nat) (H : AHeap) (K : Bool → AHeap → Prop) : Prop := ∃ (l_a_Bits : List Bool), ∃ (l_b_Bits : List Bool), IsL fB H a_Bits_a a_Bits_n l_a_Bits ∧ IsL fB H b_Bits_a b_Bits_n l_b_Bits ∧ l_a_Bits.length < 1073741824 ∧ l_b_Bits.length < 1073741824 ∧ ((∀ H' : AHeap, Grow H H' → K (p_spec_SameCoded a_Count a_Top l_a_Bits b_Count b_Top l_b_Bits) H'))
theorem T_spec_SameCoded_i {a_Count : Int} {a_Top : Int} {a_Bits_a : Option Addr} {a_Bits_n : Nat} {a_Bits_e : Nat} {b_Count : Int} {b_Top : Int} {b_Bits_a : Option Addr} {b_Bits_n : Nat} {b_Bits_e : Nat} {H : AHeap} {K : Bool → AHeap → Prop} (h : ∃ (l_a_Bits : List Bool), ∃ (l_b_Bits : List Bool), IsL fB H a_Bits_a a_Bits_n l_a_Bits ∧ IsL fB H b_Bits_a b_Bits_n l_b_Bits ∧ l_a_Bits.length < 1073741824 ∧ l_b_Bits.length < 1073741824 ∧ ((∀ H' : AHeap, Grow H H' → K (p_spec_SameCoded a_Count a_Top l_a_Bits b_Count b_Top l_b_Bits) H'))) : T_spec_SameCoded a_Count a_Top a_Bits_a a_Bits_n a_Bits_e b_Count b_Top b_Bits_a b_Bits_n b_Bits_e H K := h

/-! spec_SameCoded: function 28 -/
def E_spec_SameCoded : Env := envOf [(60, S_spec_l06Same)]
def F_spec_SameCoded : List Value → AHeap → (Value → AHeap → Prop) → Prop
  | [.agg ⟨[.int .i64 a_Count, .int .i64 a_Top, .slice a_Bits_a a_Bits_n a_Bits_e]⟩, .agg ⟨[.int .i64 b_Count, .int .i64 b_Top, .slice b_Bits_a b_Bits_n b_Bits_e]⟩], H, K => T_spec_SameCoded a_Count a_Top a_Bits_a a_Bits_n a_Bits_e b_Count b_Top b_Bits_a b_Bits_n b_Bits_e H fun (r1 : Bool) (H' : AHeap) => K (.bool r1) H'
  | _, _, _ => False
def S_spec_SameCoded : FSpec := { F := F_spec_SameCoded, quiet := false, tame := true }
theorem spec_SameCoded_vc (a_Count : Int) (a_Top : Int) (a_Bits_a : Option Addr) (a_Bits_n : Nat) (a_Bits_e : Nat) (b_Count : Int) (b_Top : Int) (b_Bits_a : Option Addr) (b_Bits_n : Nat) (b_Bits_e : Nat) (H : AHeap) (K : Value → AHeap → Prop) : bodyK Try.prog E_spec_SameCoded Try.f28 [.agg #[.int .i64 a_Count, .int .i64 a_Top, .slice a_Bits_a a_Bits_n a_Bits_e], .agg #[.int .i64 b_Count, .int .i64 b_Top, .slice b_Bits_a b_Bits_n b_Bits_e]] H K =
  (Al [.int .i64 a_Count, .int .i64 a_Top, .slice a_Bits_a a_Bits_n a_Bits_e] H fun b1 H1 => Al [.int .i64 b_Count, .int .i64 b_Top, .slice b_Bits_a b_Bits_n b_Bits_e] H1 fun b2 H2 => T_spec_l06Same b1 b2 H2 fun (r1 : Bool) (H3 : AHeap) => K (.bool r1) H3) := by kernel_rfl
theorem E_spec_SameCoded_ok : ∀ g, FnOk Try.prog g (E_spec_SameCoded g) := FnOk.envOf (by
  intro x hx
  simp only [List.mem_cons, List.not_mem_nil, or_false] at hx
  subst hx; exact spec_l06Same_ok)
set_option maxHeartbeats 1000000 in
theorem spec_SameCoded_main (a_Count : Int) (a_Top : Int) (a_Bits_a : Option Addr) (a_Bits_n : Nat) (a_Bits_e : Nat) (b_Count : Int) (b_Top : Int) (b_Bits_a : Option Addr) (b_Bits_n : Nat) (b_Bits_e : Nat) (H : AHeap) (K : Value → AHeap → Prop) (h : T_spec_SameCoded a_Count a_Top a_Bits_a a_Bits_n a_Bits_e b_Count b_Top b_Bits_a b_Bits_n b_Bits_e H fun (r1 : Bool) (H' : AHeap) => K (.bool r1) H') : bodyK Try.prog E_spec_SameCoded Try.f28 [.agg #[.int .i64 a_Count, .int .i64 a_Top, .slice a_Bits_a a_Bits_n a_Bits_e], .agg #[.int .i64 b_Count, .int .i64 b_Top, .slice b_Bits_a b_Bits_n b_Bits_e]] H K := by
  rw [spec_SameCoded_vc]
  obtain ⟨l_a_Bits, l_b_Bits, i_a_Bits, i_b_Bits, bd_23, bd_24, hk⟩ := h
  obtain rfl := i_a_Bits.eqn
  obtain rfl := i_b_Bits.eqn
  have e : (p_spec_SameCoded a_Count a_Top l_a_Bits b_Count b_Top l_b_Bits) = _ := rfl
  have e := e.trans (p_spec_SameCoded_eq a_Count a_Top l_a_Bits b_Count b_Top l_b_Bits)
  have g0 := Grow.refl H
  refine Al.intro (fun b_1 H_1 hb_2 hl_3 g_4 o_5 => ?_)
  have l_7 := g_4.1
  have g_8 := g0.trans g_4
  have l_9 := g_8.1
  have w_22 := o_5.lt
  refine Al.intro (fun b_10 H_2 hb_11 hl_12 g_13 o_14 => ?_)
  have l_16 := g_13.1
  have g_17 := g_8.trans g_13
  have l_18 := g_17.1
  have o_19 := o_5.grow g_13
  have w_20 := o_19.lt
  have w_21 := o_14.lt
  refine T_spec_l06Same_i ⟨a_Count, a_Top, a_Bits_a, l_a_Bits.length, a_Bits_e, b_Count, b_Top, b_Bits_a, l_b_Bits.length, b_Bits_e, _, _, ((o_19.rdN (Nat.le_of_ble_eq_true rfl)).trans rfl), ((o_14.rdN (Nat.le_of_ble_eq_true rfl)).trans rfl), (i_a_Bits.grow g_17), (i_b_Bits.grow g_17), (by first | omega | (simp only [List.length_set, List.length_replicate, List.length_append, List.length_cons, List.length_nil]; done) | (simp only [List.length_set, List.length_replicate, List.length_append, List.length_cons, List.length_nil]; omega)), (by first | omega | (simp only [List.length_set, List.length_replicate, List.length_append, List.length_cons, List.length_nil]; done) | (simp only [List.length_set, List.length_replicate, List.length_append, List.length_cons, List.length_nil]; omega)), ?_⟩
  rw [e] at hk
  exact hk  H_2 g_17 
theorem spec_SameCoded_ok : FnOk Try.prog 28 S_spec_SameCoded := by
  refine FnOk.body mix_ok E_spec_SameCoded_ok Try.func28 rfl (by kernel_rfl) (by kernel_rfl) ?_ ?_ ?_ ?_ ?_
  · intro args H K K' h hk
    simp only [S_spec_SameCoded] at *
    unfold F_spec_SameCoded at *
    split at hk
    · obtain ⟨l_a_Bits, l_b_Bits, i_a_Bits, i_b_Bits, bd_23, bd_24, k⟩ := hk
      exact ⟨l_a_Bits, l_b_Bits, i_a_Bits, i_b_Bits, bd_23, bd_24, (fun  H' gg  => h _ _ (k  H' gg ))⟩
    · exact hk.elim
  · intro hq; cases hq
  · intro args H K hk
    simp only [S_spec_SameCoded] at *
    unfold F_spec_SameCoded at *
    split at hk
    · obtain ⟨l_a_Bits, l_b_Bits, i_a_Bits, i_b_Bits, bd_23, bd_24, k⟩ := hk
      exact ⟨_, _, k H (Grow.refl H)⟩
    · exact hk.elim
  · intro _ args H K hk
    simp only [S_spec_SameCoded] at *
    unfold F_spec_SameCoded at *
    split at hk
    · obtain ⟨l_a_Bits, l_b_Bits, i_a_Bits, i_b_Bits, bd_23, bd_24, k⟩ := hk
      exact ⟨l_a_Bits, l_b_Bits, i_a_Bits, i_b_Bits, bd_23, bd_24, (fun  H' gg  => ⟨gg, k  H' gg ⟩)⟩
    · exact hk.elim
  · have mm := @spec_SameCoded_main
    revert mm
    generalize bodyK Try.prog E_spec_SameCoded Try.f28 = Q
    intro mm args H K hk
    simp only [S_spec_SameCoded] at *
    unfold F_spec_SameCoded at *
    split at hk
    · exact mm _ _ _ _ _ _ _ _ _ _ H K hk
    · exact hk.elim
def p_impl_SameCoded_l1 (a_Count : Int) (a_Top : Int) (l_a_Bits : List Bool) (b_Count : Int) (b_Top : Int) (l_b_Bits : List Bool) : Nat → Bool → Int → Bool
  | 0, _, _ => false
  | μ + 1, t4, t31 => (bif decide ((t31 : Int) < (l_a_Bits.length : Int)) then (bif !((((l_a_Bits).getD (t31 : Int).toNat false)) == (((l_b_Bits).getD (t31 : Int).toNat false))) then false else (p_impl_SameCoded_l1 a_Count a_Top l_a_Bits b_Count b_Top l_b_Bits μ t4 (t31 + 1))) else true)
theorem p_impl_SameCoded_l1_s (a_Count : Int) (a_Top : Int) (l_a_Bits : List Bool) (b_Count : Int) (b_Top : Int) (l_b_Bits : List Bool) (μ : Nat) (t4 : Bool) (t31 : Int) : p_impl_SameCoded_l1 a_Count a_Top l_a_Bits b_Count b_Top l_b_Bits (μ + 1) t4 t31 = (bif decide ((t31 : Int) < (l_a_Bits.length : Int)) then (bif !((((l_a_Bits).getD (t31 : Int).toNat false)) == (((l_b_Bits).getD (t31 : Int).toNat false))) then false else (p_impl_SameCoded_l1 a_Count a_Top l_a_Bits b_Count b_Top l_b_Bits μ t4 (t31 + 1))) else true) := rfl
def p_impl_SameCoded (a_Count : Int) (a_Top : Int) (l_a_Bits : List Bool) (b_Count : Int) (b_Top : Int) (l_b_Bits : List Bool) : Bool := (bif (a_Count : Int) != b_Count then false else (bif (a_Top : Int) != b_Top then false else (bif ((l_a_Bits.length : Int) : Int) != (l_b_Bits.length : Int) then false else (p_impl_SameCoded_l1 a_Count a_Top l_a_Bits b_Count b_Top l_b_Bits (Int.toNat ((l_a_Bits.length : Int) - (0 : Int)) + 1) false (0 : Int)))))
theorem p_impl_SameCoded_eq (a_Count : Int) (a_Top : Int) (l_a_Bits : List Bool) (b_Count : Int) (b_Top : Int) (l_b_Bits : List Bool) : p_impl_SameCoded a_Count a_Top l_a_Bits b_Count b_Top l_b_Bits = (bif (a_Count : Int) != b_Count then false else (bif (a_Top : Int) != b_Top then false else (bif ((l_a_Bits.length : Int) : Int) != (l_b_Bits.length : Int) then false else (p_impl_SameCoded_l1 a_Count a_Top l_a_Bits b_Count b_Top l_b_Bits (Int.toNat ((l_a_Bits.length : Int) - (0 : Int)) + 1) false (0 : Int))))) := rfl
def T_impl_SameCoded (a_Count : Int) (a_Top : Int) (a_Bits_a : Option Addr) (a_Bits_n : Nat) (a_Bits_e : Nat) (b_Count : Int) (b_Top : Int) (b_Bits_a : Option Addr) (b_Bits_n : Nat) (b_Bits_e : Nat) (H : AHeap) (K : Bool → AHeap → Prop) : Prop := ∃ (l_a_Bits : List Bool), ∃ (l_b_Bits : List Bool), IsL fB H a_Bits_a a_Bits_n l_a_Bits ∧ IsL fB H b_Bits_a b_Bits_n l_b_Bits ∧ l_a_Bits.length < 1073741824 ∧ l_b_Bits.length < 1073741824 ∧ ((∀ H' : AHeap, Grow H H' → K (p_impl_SameCoded a_Count a_Top l_a_Bits b_Count b_Top l_b_Bits) H'))
theorem T_impl_SameCoded_i {a_Count : Int} {a_Top : Int} {a_Bits_a : Option Addr} {a_Bits_n : Nat} {a_Bits_e : Nat} {b_Count : Int} {b_Top : Int} {b_Bits_a : Option Addr} {b_Bits_n : Nat} {b_Bits_e : Nat} {H : AHeap} {K : Bool → AHeap → Prop} (h : ∃ (l_a_Bits : List Bool), ∃ (l_b_Bits : List Bool), IsL fB H a_Bits_a a_Bits_n l_a_Bits ∧ IsL fB H b_Bits_a b_Bits_n l_b_Bits ∧ l_a_Bits.length < 1073741824 ∧ l_b_Bits.length < 1073741824 ∧ ((∀ H' : AHeap, Grow H H' → K (p_impl_SameCoded a_Count a_Top l_a_Bits b_Count b_Top l_b_Bits) H'))) : T_impl_SameCoded a_Count a_Top a_Bits_a a_Bits_n a_Bits_e b_Count b_Top b_Bits_a b_Bits_n b_Bits_e H K := h

/-! impl_SameCoded: function 29 -/
def E_impl_SameCoded : Env := envOf []
def F_impl_SameCoded : List Value → AHeap → (Value → AHeap → Prop) → Prop
  | [.agg ⟨[.int .i64 a_Count, .int .i64 a_Top, .slice a_Bits_a a_Bits_n a_Bits_e]⟩, .agg ⟨[.int .i64 b_Count, .int .i64 b_Top, .slice b_Bits_a b_Bits_n b_Bits_e]⟩], H, K => T_impl_SameCoded a_Count a_Top a_Bits_a a_Bits_n a_Bits_e b_Count b_Top b_Bits_a b_Bits_n b_Bits_e H fun (r1 : Bool) (H' : AHeap) => K (.bool r1) H'
  | _, _, _ => False
def S_impl_SameCoded : FSpec := { F := F_impl_SameCoded, quiet := false, tame := true }
theorem impl_SameCoded_vc (a_Count : Int) (a_Top : Int) (a_Bits_a : Option Addr) (a_Bits_n : Nat) (a_Bits_e : Nat) (b_Count : Int) (b_Top : Int) (b_Bits_a : Option Addr) (b_Bits_n : Nat) (b_Bits_e : Nat) (H : AHeap) (K : Value → AHeap → Prop) : bodyK Try.prog E_impl_SameCoded Try.f29 [.agg #[.int .i64 a_Count, .int .i64 a_Top, .slice a_Bits_a a_Bits_n a_Bits_e], .agg #[.int .i64 b_Count, .int .i64 b_Top, .slice b_Bits_a b_Bits_n b_Bits_e]] H K =
  (Al [.int .i64 a_Count, .int .i64 a_Top, .slice a_Bits_a a_Bits_n a_Bits_e] H fun b1 H1 => Al [.int .i64 b_Count, .int .i64 b_Top, .slice b_Bits_a b_Bits_n b_Bits_e] H1 fun b2 H2 => ∃ x1 : Int,  rdC H2 b1 0 = some (.int .i64 x1) ∧ ∃ x2 : Int,  rdC H2 b2 0 = some (.int .i64 x2) ∧ Br ((x1 : Int) != x2) (K (.bool false) H2) (∃ x3 : Int,  rdC H2 b1 1 = some (.int .i64 x3) ∧ ∃ x4 : Int,  rdC H2 b2 1 = some (.int .i64 x4) ∧ Br ((x3 : Int) != x4) (K (.bool false) H2) (∃ x5_a : Option Addr, ∃ x5_n : Nat, ∃ x5_e : Nat,  rdC H2 b1 2 = some (.slice x5_a x5_n x5_e) ∧ ∃ x6_a : Option Addr, ∃ x6_n : Nat, ∃ x6_e : Nat,  rdC H2 b2 2 = some (.slice x6_a x6_n x6_e) ∧ Br (((x5_n : Int) : Int) != (x6_n : Int)) (K (.bool false) H2) (∃ x7_a : Option Addr, ∃ x7_n : Nat, ∃ x7_e : Nat,  rdC H2 b1 2 = some (.slice x7_a x7_n x7_e) ∧ loopK (exK Try.prog E_impl_SameCoded (cl (cl (cr (cl (cr (cr (bodyC Try.f29)))))))) [.agg #[.int .i64 a_Count, .int .i64 a_Top, .slice a_Bits_a a_Bits_n a_Bits_e], .agg #[.int .i64 b_Count, .int .i64 b_Top, .slice b_Bits_a b_Bits_n b_Bits_e], .pointer (some ⟨b1, 0, none⟩), .pointer (some ⟨b2, 0, none⟩), .bool false, undef, undef, .pointer (some ⟨b1, 0, none⟩), .int .i64 x1, .pointer (some ⟨b2, 0, none⟩), .int .i64 x2, .bool ((x1 : Int) != x2), .bool false, .pointer (some ⟨b1, 1, none⟩), .int .i64 x3, .pointer (some ⟨b2, 1, none⟩), .int .i64 x4, .bool ((x3 : Int) != x4), .bool ((x3 : Int) != x4), .bool false, .pointer (some ⟨b1, 2, none⟩), .slice x5_a x5_n x5_e, .int .i64 (x5_n : Int), .pointer (some ⟨b2, 2, none⟩), .slice x6_a x6_n x6_e, .int .i64 (x6_n : Int), .bool (((x5_n : Int) : Int) != (x6_n : Int)), .bool (((x5_n : Int) : Int) != (x6_n : Int)), .pointer (some ⟨b1, 2, none⟩), .slice x7_a x7_n x7_e, .int .i64 (x7_n : Int), .int .i64 0, undef, undef, undef, undef, undef, undef, undef, undef, undef, undef, undef, undef] H2 (blockQ 0 (seqQ (exK Try.prog E_impl_SameCoded (cr (cr (cr (bodyC Try.f29))))) (retK Try.prog Try.f29 K))))))) := by kernel_rfl
theorem impl_SameCoded_r1 (a_Bits_a : Option Addr) (a_Bits_e : Nat) (a_Bits_n : Nat) (a_Count : Int) (a_Top : Int) (b1 : Nat) (b2 : Nat) (b_Bits_a : Option Addr) (b_Bits_e : Nat) (b_Bits_n : Nat) (b_Count : Int) (b_Top : Int) (x1 : Int) (x2 : Int) (x3 : Int) (x4 : Int) (x5_a : Option Addr) (x5_e : Nat) (x5_n : Nat) (x6_a : Option Addr) (x6_e : Nat) (x6_n : Nat) (x7_a : Option Addr) (x7_e : Nat) (x7_n : Nat) (t4 : Bool) (t31 : Int) (g5 g6 g32 g33 g34 g35 g36 g37 g38 g39 g40 g41 g42 g43 : Value) (H : AHeap) (R : Post) : exK Try.prog E_impl_SameCoded (cl (cl (cr (cl (cr (cr (bodyC Try.f29))))))) [.agg #[.int .i64 a_Count, .int .i64 a_Top, .slice a_Bits_a a_Bits_n a_Bits_e], .agg #[.int .i64 b_Count, .int .i64 b_Top, .slice b_Bits_a b_Bits_n b_Bits_e], .pointer (some ⟨b1, 0, none⟩), .pointer (some ⟨b2, 0, none⟩), .bool t4, g5, g6, .pointer (some ⟨b1, 0, none⟩), .int .i64 x1, .pointer (some ⟨b2, 0, none⟩), .int .i64 x2, .bool ((x1 : Int) != x2), .bool false, .pointer (some ⟨b1, 1, none⟩), .int .i64 x3, .pointer (some ⟨b2, 1, none⟩), .int .i64 x4, .bool ((x3 : Int) != x4), .bool ((x3 : Int) != x4), .bool false, .pointer (some ⟨b1, 2, none⟩), .slice x5_a x5_n x5_e, .int .i64 (x5_n : Int), .pointer (some ⟨b2, 2, none⟩), .slice x6_a x6_n x6_e, .int .i64 (x6_n : Int), .bool (((x5_n : Int) : Int) != (x6_n : Int)), .bool (((x5_n : Int) : Int) != (x6_n : Int)), .pointer (some ⟨b1, 2, none⟩), .slice x7_a x7_n x7_e, .int .i64 (x7_n : Int), .int .i64 t31, g32, g33, g34, g35, g36, g37, g38, g39, g40, g41, g42, g43] H R =
  (Br (decide ((t31 : Int) < (x7_n : Int))) ((0 : Int) ≤ t31 ∧ t31 < (x7_n : Int) ∧ ∃ b3 f1, (x7_a : Option Addr) = some ⟨b3, f1, none⟩ ∧ ∃ x8 : Bool,  rdC H b3 (f1 + (t31 : Int).toNat * 1) = some (.bool x8) ∧ ∃ x9_a : Option Addr, ∃ x9_n : Nat, ∃ x9_e : Nat,  rdC H b2 2 = some (.slice x9_a x9_n x9_e) ∧ (0 : Int) ≤ t31 ∧ t31 < (x9_n : Int) ∧ ∃ b4 f2, (x9_a : Option Addr) = some ⟨b4, f2, none⟩ ∧ ∃ x10 : Bool,  rdC H b4 (f2 + (t31 : Int).toNat * 1) = some (.bool x10) ∧ Br (!(x8 == x10)) (R .ret [.agg #[.int .i64 a_Count, .int .i64 a_Top, .slice a_Bits_a a_Bits_n a_Bits_e], .agg #[.int .i64 b_Count, .int .i64 b_Top, .slice b_Bits_a b_Bits_n b_Bits_e], .pointer (some ⟨b1, 0, none⟩), .pointer (some ⟨b2, 0, none⟩), .bool false, .int .i64 t31, .bool x8, .pointer (some ⟨b1, 0, none⟩), .int .i64 x1, .pointer (some ⟨b2, 0, none⟩), .int .i64 x2, .bool ((x1 : Int) != x2), .bool false, .pointer (some ⟨b1, 1, none⟩), .int .i64 x3, .pointer (some ⟨b2, 1, none⟩), .int .i64 x4, .bool ((x3 : Int) != x4), .bool ((x3 : Int) != x4), .bool false, .pointer (some ⟨b1, 2, none⟩), .slice x5_a x5_n x5_e, .int .i64 (x5_n : Int), .pointer (some ⟨b2, 2, none⟩), .slice x6_a x6_n x6_e, .int .i64 (x6_n : Int), .bool (((x5_n : Int) : Int) != (x6_n : Int)), .bool (((x5_n : Int) : Int) != (x6_n : Int)), .pointer (some ⟨b1, 2, none⟩), .slice x7_a x7_n x7_e, .int .i64 (x7_n : Int), .int .i64 t31, .bool (decide ((t31 : Int) < (x7_n : Int))), .int .i64 t31, .pointer (some ⟨b3, f1 + (t31 : Int).toNat * 1, none⟩), .bool x8, .bool x8, .pointer (some ⟨b2, 2, none⟩), .slice x9_a x9_n x9_e, .int .i64 t31, .pointer (some ⟨b4, f2 + (t31 : Int).toNat * 1, none⟩), .bool x10, .bool (!(x8 == x10)), g43] H) (R .normal [.agg #[.int .i64 a_Count, .int .i64 a_Top, .slice a_Bits_a a_Bits_n a_Bits_e], .agg #[.int .i64 b_Count, .int .i64 b_Top, .slice b_Bits_a b_Bits_n b_Bits_e], .pointer (some ⟨b1, 0, none⟩), .pointer (some ⟨b2, 0, none⟩), .bool t4, .int .i64 t31, .bool x8, .pointer (some ⟨b1, 0, none⟩), .int .i64 x1, .pointer (some ⟨b2, 0, none⟩), .int .i64 x2, .bool ((x1 : Int) != x2), .bool false, .pointer (some ⟨b1, 1, none⟩), .int .i64 x3, .pointer (some ⟨b2, 1, none⟩), .int .i64 x4, .bool ((x3 : Int) != x4), .bool ((x3 : Int) != x4), .bool false, .pointer (some ⟨b1, 2, none⟩), .slice x5_a x5_n x5_e, .int .i64 (x5_n : Int), .pointer (some ⟨b2, 2, none⟩), .slice x6_a x6_n x6_e, .int .i64 (x6_n : Int), .bool (((x5_n : Int) : Int) != (x6_n : Int)), .bool (((x5_n : Int) : Int) != (x6_n : Int)), .pointer (some ⟨b1, 2, none⟩), .slice x7_a x7_n x7_e, .int .i64 (x7_n : Int), .int .i64 (IntKind.wrap .i64 (t31 + 1)), .bool (decide ((t31 : Int) < (x7_n : Int))), .int .i64 t31, .pointer (some ⟨b3, f1 + (t31 : Int).toNat * 1, none⟩), .bool x8, .bool x8, .pointer (some ⟨b2, 2, none⟩), .slice x9_a x9_n x9_e, .int .i64 t31, .pointer (some ⟨b4, f2 + (t31 : Int).toNat * 1, none⟩), .bool x10, .bool (!(x8 == x10)), .int .i64 (IntKind.wrap .i64 (t31 + 1))] H)) (R (.exit 0) [.agg #[.int .i64 a_Count, .int .i64 a_Top, .slice a_Bits_a a_Bits_n a_Bits_e], .agg #[.int .i64 b_Count, .int .i64 b_Top, .slice b_Bits_a b_Bits_n b_Bits_e], .pointer (some ⟨b1, 0, none⟩), .pointer (some ⟨b2, 0, none⟩), .bool t4, g5, g6, .pointer (some ⟨b1, 0, none⟩), .int .i64 x1, .pointer (some ⟨b2, 0, none⟩), .int .i64 x2, .bool ((x1 : Int) != x2), .bool false, .pointer (some ⟨b1, 1, none⟩), .int .i64 x3, .pointer (some ⟨b2, 1, none⟩), .int .i64 x4, .bool ((x3 : Int) != x4), .bool ((x3 : Int) != x4), .bool false, .pointer (some ⟨b1, 2, none⟩), .slice x5_a x5_n x5_e, .int .i64 (x5_n : Int), .pointer (some ⟨b2, 2, none⟩), .slice x6_a x6_n x6_e, .int .i64 (x6_n : Int), .bool (((x5_n : Int) : Int) != (x6_n : Int)), .bool (((x5_n : Int) : Int) != (x6_n : Int)), .pointer (some ⟨b1, 2, none⟩), .slice x7_a x7_n x7_e, .int .i64 (x7_n : Int), .int .i64 t31, .bool (decide ((t31 : Int) < (x7_n : Int))), g33, g34, g35, g36, g37, g38, g39, g40, g41, g42, g43] H)) := by kernel_rfl
def impl_SameCoded_I1 (a_Bits_a : Option Addr) (a_Bits_e : Nat) (a_Bits_n : Nat) (a_Count : Int) (a_Top : Int) (b1 : Nat) (b2 : Nat) (b_Bits_a : Option Addr) (b_Bits_e : Nat) (b_Bits_n : Nat) (b_Count : Int) (b_Top : Int) (x1 : Int) (x2 : Int) (x3 : Int) (x4 : Int) (x5_a : Option Addr) (x5_e : Nat) (x5_n : Nat) (x6_a : Option Addr) (x6_e : Nat) (x6_n : Nat) (x7_a : Option Addr) (x7_e : Nat) (x7_n : Nat) (Inv : Nat → Bool → Int → AHeap → Prop) : Nat → List Value → AHeap → Prop := fun μ tm H => ∃ (t4 : Bool), ∃ (t31 : Int), ∃ g5 g6 g32 g33 g34 g35 g36 g37 g38 g39 g40 g41 g42 g43, tm = [.agg #[.int .i64 a_Count, .int .i64 a_Top, .slice a_Bits_a a_Bits_n a_Bits_e], .agg #[.int .i64 b_Count, .int .i64 b_Top, .slice b_Bits_a b_Bits_n b_Bits_e], .pointer (some ⟨b1, 0, none⟩), .pointer (some ⟨b2, 0, none⟩), .bool t4, g5, g6, .pointer (some ⟨b1, 0, none⟩), .int .i64 x1, .pointer (some ⟨b2, 0, none⟩), .int .i64 x2, .bool ((x1 : Int) != x2), .bool false, .pointer (some ⟨b1, 1, none⟩), .int .i64 x3, .pointer (some ⟨b2, 1, none⟩), .int .i64 x4, .bool ((x3 : Int) != x4), .bool ((x3 : Int) != x4), .bool false, .pointer (some ⟨b1, 2, none⟩), .slice x5_a x5_n x5_e, .int .i64 (x5_n : Int), .pointer (some ⟨b2, 2, none⟩), .slice x6_a x6_n x6_e, .int .i64 (x6_n : Int), .bool (((x5_n : Int) : Int) != (x6_n : Int)), .bool (((x5_n : Int) : Int) != (x6_n : Int)), .pointer (some ⟨b1, 2, none⟩), .slice x7_a x7_n x7_e, .int .i64 (x7_n : Int), .int .i64 t31, g32, g33, g34, g35, g36, g37, g38, g39, g40, g41, g42, g43] ∧ Inv μ t4 t31 H
theorem impl_SameCoded_L1 (a_Bits_a : Option Addr) (a_Bits_e : Nat) (a_Bits_n : Nat) (a_Count : Int) (a_Top : Int) (b1 : Nat) (b2 : Nat) (b_Bits_a : Option Addr) (b_Bits_e : Nat) (b_Bits_n : Nat) (b_Count : Int) (b_Top : Int) (x1 : Int) (x2 : Int) (x3 : Int) (x4 : Int) (x5_a : Option Addr) (x5_e : Nat) (x5_n : Nat) (x6_a : Option Addr) (x6_e : Nat) (x6_n : Nat) (x7_a : Option Addr) (x7_e : Nat) (x7_n : Nat) {Q : Post} (Inv : Nat → Bool → Int → AHeap → Prop) (ν : Nat) (t4 : Bool) (t31 : Int) (g5 g6 g32 g33 g34 g35 g36 g37 g38 g39 g40 g41 g42 g43 : Value) (H : AHeap) (h0 : Inv ν t4 t31 H)
    (hs : ∀ (μ : Nat) (t4 : Bool) (t31 : Int) (g5 g6 g32 g33 g34 g35 g36 g37 g38 g39 g40 g41 g42 g43 : Value) (H : AHeap), Inv μ t4 t31 H → exK Try.prog E_impl_SameCoded (cl (cl (cr (cl (cr (cr (bodyC Try.f29))))))) [.agg #[.int .i64 a_Count, .int .i64 a_Top, .slice a_Bits_a a_Bits_n a_Bits_e], .agg #[.int .i64 b_Count, .int .i64 b_Top, .slice b_Bits_a b_Bits_n b_Bits_e], .pointer (some ⟨b1, 0, none⟩), .pointer (some ⟨b2, 0, none⟩), .bool t4, g5, g6, .pointer (some ⟨b1, 0, none⟩), .int .i64 x1, .pointer (some ⟨b2, 0, none⟩), .int .i64 x2, .bool ((x1 : Int) != x2), .bool false, .pointer (some ⟨b1, 1, none⟩), .int .i64 x3, .pointer (some ⟨b2, 1, none⟩), .int .i64 x4, .bool ((x3 : Int) != x4), .bool ((x3 : Int) != x4), .bool false, .pointer (some ⟨b1, 2, none⟩), .slice x5_a x5_n x5_e, .int .i64 (x5_n : Int), .pointer (some ⟨b2, 2, none⟩), .slice x6_a x6_n x6_e, .int .i64 (x6_n : Int), .bool (((x5_n : Int) : Int) != (x6_n : Int)), .bool (((x5_n : Int) : Int) != (x6_n : Int)), .pointer (some ⟨b1, 2, none⟩), .slice x7_a x7_n x7_e, .int .i64 (x7_n : Int), .int .i64 t31, g32, g33, g34, g35, g36, g37, g38, g39, g40, g41, g42, g43] H (loopQ (impl_SameCoded_I1 a_Bits_a a_Bits_e a_Bits_n a_Count a_Top b1 b2 b_Bits_a b_Bits_e b_Bits_n b_Count b_Top x1 x2 x3 x4 x5_a x5_e x5_n x6_a x6_e x6_n x7_a x7_e x7_n Inv) μ Q)) : loopK (exK Try.prog E_impl_SameCoded (cl (cl (cr (cl (cr (cr (bodyC Try.f29)))))))) [.agg #[.int .i64 a_Count, .int .i64 a_Top, .slice a_Bits_a a_Bits_n a_Bits_e], .agg #[.int .i64 b_Count, .int .i64 b_Top, .slice b_Bits_a b_Bits_n b_Bits_e], .pointer (some ⟨b1, 0, none⟩), .pointer (some ⟨b2, 0, none⟩), .bool t4, g5, g6, .pointer (some ⟨b1, 0, none⟩), .int .i64 x1, .pointer (some ⟨b2, 0, none⟩), .int .i64 x2, .bool ((x1 : Int) != x2), .bool false, .pointer (some ⟨b1, 1, none⟩), .int .i64 x3, .pointer (some ⟨b2, 1, none⟩), .int .i64 x4, .bool ((x3 : Int) != x4), .bool ((x3 : Int) != x4), .bool false, .pointer (some ⟨b1, 2, none⟩), .slice x5_a x5_n x5_e, .int .i64 (x5_n : Int), .pointer (some ⟨b2, 2, none⟩), .slice x6_a x6_n x6_e, .int .i64 (x6_n : Int), .bool (((x5_n : Int) : Int) != (x6_n : Int)), .bool (((x5_n : Int) : Int) != (x6_n : Int)), .pointer (some ⟨b1, 2, none⟩), .slice x7_a x7_n x7_e, .int .i64 (x7_n : Int), .int .i64 t31, g32, g33, g34, g35, g36, g37, g38, g39, g40, g41, g42, g43] H Q :=
  ⟨impl_SameCoded_I1 a_Bits_a a_Bits_e a_Bits_n a_Count a_Top b1 b2 b_Bits_a b_Bits_e b_Bits_n b_Count b_Top x1 x2 x3 x4 x5_a x5_e x5_n x6_a x6_e x6_n x7_a x7_e x7_n Inv, ν, ⟨t4, t31, g5, g6, g32, g33, g34, g35, g36, g37, g38, g39, g40, g41, g42, g43, rfl, h0⟩, fun μ tm H h => by obtain ⟨t4, t31, g5, g6, g32, g33, g34, g35, g36, g37, g38, g39, g40, g41, g42, g43, rfl, hI⟩ := h; exact hs μ t4 t31 g5 g6 g32 g33 g34 g35 g36 g37 g38 g39 g40 g41 g42 g43 H hI⟩
theorem impl_SameCoded_n1 {a_Bits_a : Option Addr} {a_Bits_e : Nat} {a_Bits_n : Nat} {a_Count : Int} {a_Top : Int} {b1 : Nat} {b2 : Nat} {b_Bits_a : Option Addr} {b_Bits_e : Nat} {b_Bits_n : Nat} {b_Count : Int} {b_Top : Int} {x1 : Int} {x2 : Int} {x3 : Int} {x4 : Int} {x5_a : Option Addr} {x5_e : Nat} {x5_n : Nat} {x6_a : Option Addr} {x6_e : Nat} {x6_n : Nat} {x7_a : Option Addr} {x7_e : Nat} {x7_n : Nat} {Q : Post} {Inv : Nat → Bool → Int → AHeap → Prop} {μ : Nat} (μ' : Nat) {t4 : Bool} {t31 : Int} {g5 g6 g32 g33 g34 g35 g36 g37 g38 g39 g40 g41 g42 g43 : Value} {H : AHeap} (hm : μ' < μ) (hI : Inv μ' t4 t31 H) : loopQ (impl_SameCoded_I1 a_Bits_a a_Bits_e a_Bits_n a_Count a_Top b1 b2 b_Bits_a b_Bits_e b_Bits_n b_Count b_Top x1 x2 x3 x4 x5_a x5_e x5_n x6_a x6_e x6_n x7_a x7_e x7_n Inv) μ Q .normal [.agg #[.int .i64 a_Count, .int .i64 a_Top, .slice a_Bits_a a_Bits_n a_Bits_e], .agg #[.int .i64 b_Count, .int .i64 b_Top, .slice b_Bits_a b_Bits_n b_Bits_e], .pointer (some ⟨b1, 0, none⟩), .pointer (some ⟨b2, 0, none⟩), .bool t4, g5, g6, .pointer (some ⟨b1, 0, none⟩), .int .i64 x1, .pointer (some ⟨b2, 0, none⟩), .int .i64 x2, .bool ((x1 : Int) != x2), .bool false, .pointer (some ⟨b1, 1, none⟩), .int .i64 x3, .pointer (some ⟨b2, 1, none⟩), .int .i64 x4, .bool ((x3 : Int) != x4), .bool ((x3 : Int) != x4), .bool false, .pointer (some ⟨b1, 2, none⟩), .slice x5_a x5_n x5_e, .int .i64 (x5_n : Int), .pointer (some ⟨b2, 2, none⟩), .slice x6_a x6_n x6_e, .int .i64 (x6_n : Int), .bool (((x5_n : Int) : Int) != (x6_n : Int)), .bool (((x5_n : Int) : Int) != (x6_n : Int)), .pointer (some ⟨b1, 2, none⟩), .slice x7_a x7_n x7_e, .int .i64 (x7_n : Int), .int .i64 t31, g32, g33, g34, g35, g36, g37, g38, g39, g40, g41, g42, g43] H := ⟨μ', hm, t4, t31, g5, g6, g32, g33, g34, g35, g36, g37, g38, g39, g40, g41, g42, g43, rfl, hI⟩
theorem impl_SameCoded_x1_0 (a_Bits_a : Option Addr) (a_Bits_e : Nat) (a_Bits_n : Nat) (a_Count : Int) (a_Top : Int) (b1 : Nat) (b2 : Nat) (b_Bits_a : Option Addr) (b_Bits_e : Nat) (b_Bits_n : Nat) (b_Count : Int) (b_Top : Int) (x1 : Int) (x2 : Int) (x3 : Int) (x4 : Int) (x5_a : Option Addr) (x5_e : Nat) (x5_n : Nat) (x6_a : Option Addr) (x6_e : Nat) (x6_n : Nat) (x7_a : Option Addr) (x7_e : Nat) (x7_n : Nat) (t4 : Bool) (t31 : Int) (g5 g6 g32 g33 g34 g35 g36 g37 g38 g39 g40 g41 g42 g43 : Value) (H : AHeap) (K : Value → AHeap → Prop)  {I : Nat → List Value → AHeap → Prop} {μ : Nat} : loopQ I μ (blockQ 0 (seqQ (exK Try.prog E_impl_SameCoded (cr (cr (cr (bodyC Try.f29))))) (retK Try.prog Try.f29 K))) (.exit 0) [.agg #[.int .i64 a_Count, .int .i64 a_Top, .slice a_Bits_a a_Bits_n a_Bits_e], .agg #[.int .i64 b_Count, .int .i64 b_Top, .slice b_Bits_a b_Bits_n b_Bits_e], .pointer (some ⟨b1, 0, none⟩), .pointer (some ⟨b2, 0, none⟩), .bool t4, g5, g6, .pointer (some ⟨b1, 0, none⟩), .int .i64 x1, .pointer (some ⟨b2, 0, none⟩), .int .i64 x2, .bool ((x1 : Int) != x2), .bool false, .pointer (some ⟨b1, 1, none⟩), .int .i64 x3, .pointer (some ⟨b2, 1, none⟩), .int .i64 x4, .bool ((x3 : Int) != x4), .bool ((x3 : Int) != x4), .bool false, .pointer (some ⟨b1, 2, none⟩), .slice x5_a x5_n x5_e, .int .i64 (x5_n : Int), .pointer (some ⟨b2, 2, none⟩), .slice x6_a x6_n x6_e, .int .i64 (x6_n : Int), .bool (((x5_n : Int) : Int) != (x6_n : Int)), .bool (((x5_n : Int) : Int) != (x6_n : Int)), .pointer (some ⟨b1, 2, none⟩), .slice x7_a x7_n x7_e, .int .i64 (x7_n : Int), .int .i64 t31, g32, g33, g34, g35, g36, g37, g38, g39, g40, g41, g42, g43] H =
  (K (.bool true) H) := by kernel_rfl
theorem impl_SameCoded_x1_ret (a_Bits_a : Option Addr) (a_Bits_e : Nat) (a_Bits_n : Nat) (a_Count : Int) (a_Top : Int) (b1 : Nat) (b2 : Nat) (b_Bits_a : Option Addr) (b_Bits_e : Nat) (b_Bits_n : Nat) (b_Count : Int) (b_Top : Int) (x1 : Int) (x2 : Int) (x3 : Int) (x4 : Int) (x5_a : Option Addr) (x5_e : Nat) (x5_n : Nat) (x6_a : Option Addr) (x6_e : Nat) (x6_n : Nat) (x7_a : Option Addr) (x7_e : Nat) (x7_n : Nat) (t4 : Bool) (t31 : Int) (g5 g6 g32 g33 g34 g35 g36 g37 g38 g39 g40 g41 g42 g43 : Value) (H : AHeap) (K : Value → AHeap → Prop)  {I : Nat → List Value → AHeap → Prop} {μ : Nat} : loopQ I μ (blockQ 0 (seqQ (exK Try.prog E_impl_SameCoded (cr (cr (cr (bodyC Try.f29))))) (retK Try.prog Try.f29 K))) .ret [.agg #[.int .i64 a_Count, .int .i64 a_Top, .slice a_Bits_a a_Bits_n a_Bits_e], .agg #[.int .i64 b_Count, .int .i64 b_Top, .slice b_Bits_a b_Bits_n b_Bits_e], .pointer (some ⟨b1, 0, none⟩), .pointer (some ⟨b2, 0, none⟩), .bool t4, g5, g6, .pointer (some ⟨b1, 0, none⟩), .int .i64 x1, .pointer (some ⟨b2, 0, none⟩), .int .i64 x2, .bool ((x1 : Int) != x2), .bool false, .pointer (some ⟨b1, 1, none⟩), .int .i64 x3, .pointer (some ⟨b2, 1, none⟩), .int .i64 x4, .bool ((x3 : Int) != x4), .bool ((x3 : Int) != x4), .bool false, .pointer (some ⟨b1, 2, none⟩), .slice x5_a x5_n x5_e, .int .i64 (x5_n : Int), .pointer (some ⟨b2, 2, none⟩), .slice x6_a x6_n x6_e, .int .i64 (x6_n : Int), .bool (((x5_n : Int) : Int) != (x6_n : Int)), .bool (((x5_n : Int) : Int) != (x6_n : Int)), .pointer (some ⟨b1, 2, none⟩), .slice x7_a x7_n x7_e, .int .i64 (x7_n : Int), .int .i64 t31, g32, g33, g34, g35, g36, g37, g38, g39, g40, g41, g42, g43] H =
  (K (.bool t4) H) := by kernel_rfl
theorem E_impl_SameCoded_ok : ∀ g, FnOk Try.prog g (E_impl_SameCoded g) := FnOk.envOf (by
  intro x hx; cases hx)
set_option maxHeartbeats 1000000 in
theorem impl_SameCoded_main (a_Count : Int) (a_Top : Int) (a_Bits_a : Option Addr) (a_Bits_n : Nat) (a_Bits_e : Nat) (b_Count : Int) (b_Top : Int) (b_Bits_a : Option Addr) (b_Bits_n : Nat) (b_Bits_e : Nat) (H : AHeap) (K : Value → AHeap → Prop) (h : T_impl_SameCoded a_Count a_Top a_Bits_a a_Bits_n a_Bits_e b_Count b_Top b_Bits_a b_Bits_n b_Bits_e H fun (r1 : Bool) (H' : AHeap) => K (.bool r1) H') : bodyK Try.prog E_impl_SameCoded Try.f29 [.agg #[.int .i64 a_Count, .int .i64 a_Top, .slice a_Bits_a a_Bits_n a_Bits_e], .agg #[.int .i64 b_Count, .int .i64 b_Top, .slice b_Bits_a b_Bits_n b_Bits_e]] H K := by
  rw [impl_SameCoded_vc]
  obtain ⟨l_a_Bits, l_b_Bits, i_a_Bits, i_b_Bits, bd_39, bd_40, hk⟩ := h
  obtain rfl := i_a_Bits.eqn
  obtain rfl := i_b_Bits.eqn
  have e : (p_impl_SameCoded a_Count a_Top l_a_Bits b_Count b_Top l_b_Bits) = _ := rfl
  have e := e.trans (p_impl_SameCoded_eq a_Count a_Top l_a_Bits b_Count b_Top l_b_Bits)
  have g0 := Grow.refl H
  refine Al.intro (fun b_1 H_1 hb_2 hl_3 g_4 o_5 => ?_)
  have l_7 := g_4.1
  have g_8 := g0.trans g_4
  have l_9 := g_8.1
  have w_38 := o_5.lt
  refine Al.intro (fun b_10 H_2 hb_11 hl_12 g_13 o_14 => ?_)
  have l_16 := g_13.1
  have g_17 := g_8.trans g_13
  have l_18 := g_17.1
  have o_19 := o_5.grow g_13
  have w_20 := o_19.lt
  have w_37 := o_14.lt
  refine ⟨a_Count, (o_19.rdC _).trans rfl, ?_⟩
  refine ⟨b_Count, (o_14.rdC _).trans rfl, ?_⟩
  refine Br.intro (fun c_21 => ?_) (fun c_21 => ?_)
  · have e := e.trans (cond_t c_21)
    have c_21' := ine_t c_21
    rw [e] at hk
    exact hk  H_2 g_17 
  · have e := e.trans (cond_f c_21)
    have c_21' := ine_f c_21
    refine ⟨a_Top, (o_19.rdC _).trans rfl, ?_⟩
    refine ⟨b_Top, (o_14.rdC _).trans rfl, ?_⟩
    refine Br.intro (fun c_22 => ?_) (fun c_22 => ?_)
    · have e := e.trans (cond_t c_22)
      have c_22' := ine_t c_22
      rw [e] at hk
      exact hk  H_2 g_17 
    · have e := e.trans (cond_f c_22)
      have c_22' := ine_f c_22
      refine ⟨a_Bits_a, l_a_Bits.length, a_Bits_e, (o_19.rdC _).trans rfl, ?_⟩
      refine ⟨b_Bits_a, l_b_Bits.length, b_Bits_e, (o_14.rdC _).trans rfl, ?_⟩
      refine Br.intro (fun c_23 => ?_) (fun c_23 => ?_)
      · have e := e.trans (cond_t c_23)
        have c_23' := ine_t c_23
        rw [e] at hk
        exact hk  H_2 g_17 
      · have e := e.trans (cond_f c_23)
        have c_23' := ine_f c_23
        refine ⟨a_Bits_a, l_a_Bits.length, a_Bits_e, (o_19.rdC _).trans rfl, ?_⟩
        refine impl_SameCoded_L1 _ _ _ _ _ _ _ _ _ _ _ _ _ _ _ _ _ _ _ _ _ _ _ _ _ (fun (μ : Nat) (t4 : Bool) (t31 : Int) (H_3 : AHeap) => H_2 = H_3 ∧ (0 : Int) ≤ t31 ∧ t31 ≤ (l_a_Bits.length : Int) ∧ (l_a_Bits.length : Int) - t31 ≤ (μ : Int) ∧ p_impl_SameCoded a_Count a_Top l_a_Bits b_Count b_Top l_b_Bits = p_impl_SameCoded_l1 a_Count a_Top l_a_Bits b_Count b_Top l_b_Bits (μ + 1) t4 t31) (Int.toNat ((l_a_Bits.length : Int) - (0 : Int))) _ _ _ _ _ _ _ _ _ _ _ _ _ _ _ _ H_2 ?_ ?_
        · exact ⟨rfl, (by first | omega | (simp; done) | (simp; omega)), (by first | omega | (simp; done) | (simp; omega)), (by omega), e⟩
        · intro μ t4 t31 g5 g6 g32 g33 g34 g35 g36 g37 g38 g39 g40 g41 g42 g43 H_3 hI
          obtain ⟨rfl, v_24, v_25, hμ, e⟩ := hI
          rw [impl_SameCoded_r1]
          have e := e.trans (p_impl_SameCoded_l1_s a_Count a_Top l_a_Bits b_Count b_Top l_b_Bits μ t4 t31)
          have w_26 := o_19.lt
          have w_27 := o_14.lt
          have l_28 := g_17.1
          refine Br.intro (fun c_29 => ?_) (fun c_29 => ?_)
          · have e := e.trans (cond_t c_29)
            have c_29' := of_decide_eq_true c_29
            obtain ⟨b_30, f_31, q_32⟩ := ((i_a_Bits.grow g_17)).pos (by first | omega | (simp only [List.length_set, List.length_replicate, List.length_append, List.length_cons, List.length_nil]; done) | (simp only [List.length_set, List.length_replicate, List.length_append, List.length_cons, List.length_nil]; omega))
            refine ⟨by omega, by omega, b_30, f_31, q_32, ?_⟩
            refine ⟨((l_a_Bits).getD (t31 : Int).toNat false), (i_a_Bits).rd g_17 q_32 (by omega) _, ?_⟩
            refine ⟨b_Bits_a, l_b_Bits.length, b_Bits_e, (o_14.rdC _).trans rfl, ?_⟩
            obtain ⟨b_33, f_34, q_35⟩ := ((i_b_Bits.grow g_17)).pos (by first | omega | (simp only [List.length_set, List.length_replicate, List.length_append, List.length_cons, List.length_nil]; done) | (simp only [List.length_set, List.length_replicate, List.length_append, List.length_cons, List.length_nil]; omega))
            refine ⟨by omega, by omega, b_33, f_34, q_35, ?_⟩
            refine ⟨((l_b_Bits).getD (t31 : Int).toNat false), (i_b_Bits).rd g_17 q_35 (by omega) _, ?_⟩
            refine Br.intro (fun c_36 => ?_) (fun c_36 => ?_)
            · have e := e.trans (cond_t c_36)
              have c_36n := nf_of_t c_36
              rw [impl_SameCoded_x1_ret]
              rw [e] at hk
              exact hk  H_2 g_17 
            · have e := e.trans (cond_f c_36)
              have c_36n := nt_of_f c_36
              rw [show IntKind.wrap .i64 (t31 + 1) = (t31 + 1) from wrap64 (by omega) (by omega)]
              refine impl_SameCoded_n1 (μ - 1) (by omega) ⟨rfl, (by first | omega | (simp only [List.length_append, List.length_cons, List.length_nil, List.length_set]; done) | (simp only [List.length_append, List.length_cons, List.length_nil, List.length_set]; omega)), (by first | omega | (simp only [List.length_append, List.length_cons, List.length_nil, List.length_set]; done) | (simp only [List.length_append, List.length_cons, List.length_nil, List.length_set]; omega)), (by omega), (by rw [show μ - 1 + 1 = μ from by omega]; exact e)⟩
          · have e := e.trans (cond_f c_29)
            have c_29' := of_decide_eq_false c_29
            rw [impl_SameCoded_x1_0]
            rw [e] at hk
            exact hk  H_2 g_17 
theorem impl_SameCoded_ok : FnOk Try.prog 29 S_impl_SameCoded := by
  refine FnOk.body mix_ok E_impl_SameCoded_ok Try.func29 rfl (by kernel_rfl) (by kernel_rfl) ?_ ?_ ?_ ?_ ?_
  · intro args H K K' h hk
    simp only [S_impl_SameCoded] at *
    unfold F_impl_SameCoded at *
    split at hk
    · obtain ⟨l_a_Bits, l_b_Bits, i_a_Bits, i_b_Bits, bd_39, bd_40, k⟩ := hk
      exact ⟨l_a_Bits, l_b_Bits, i_a_Bits, i_b_Bits, bd_39, bd_40, (fun  H' gg  => h _ _ (k  H' gg ))⟩
    · exact hk.elim
  · intro hq; cases hq
  · intro args H K hk
    simp only [S_impl_SameCoded] at *
    unfold F_impl_SameCoded at *
    split at hk
    · obtain ⟨l_a_Bits, l_b_Bits, i_a_Bits, i_b_Bits, bd_39, bd_40, k⟩ := hk
      exact ⟨_, _, k H (Grow.refl H)⟩
    · exact hk.elim
  · intro _ args H K hk
    simp only [S_impl_SameCoded] at *
    unfold F_impl_SameCoded at *
    split at hk
    · obtain ⟨l_a_Bits, l_b_Bits, i_a_Bits, i_b_Bits, bd_39, bd_40, k⟩ := hk
      exact ⟨l_a_Bits, l_b_Bits, i_a_Bits, i_b_Bits, bd_39, bd_40, (fun  H' gg  => ⟨gg, k  H' gg ⟩)⟩
    · exact hk.elim
  · have mm := @impl_SameCoded_main
    revert mm
    generalize bodyK Try.prog E_impl_SameCoded Try.f29 = Q
    intro mm args H K hk
    simp only [S_impl_SameCoded] at *
    unfold F_impl_SameCoded at *
    split at hk
    · exact mm _ _ _ _ _ _ _ _ _ _ H K hk
    · exact hk.elim
def p_laws_eqBoolS_l1 (l_a : List Bool) (l_b : List Bool) : Nat → Bool → Int → Bool
  | 0, _, _ => false
  | μ + 1, t4, i => (bif decide ((i : Int) < (l_a.length : Int)) then (bif !((((l_a).getD (i : Int).toNat false)) == (((l_b).getD (i : Int).toNat false))) then false else (p_laws_eqBoolS_l1 l_a l_b μ t4 (i + 1))) else true)
theorem p_laws_eqBoolS_l1_s (l_a : List Bool) (l_b : List Bool) (μ : Nat) (t4 : Bool) (i : Int) : p_laws_eqBoolS_l1 l_a l_b (μ + 1) t4 i = (bif decide ((i : Int) < (l_a.length : Int)) then (bif !((((l_a).getD (i : Int).toNat false)) == (((l_b).getD (i : Int).toNat false))) then false else (p_laws_eqBoolS_l1 l_a l_b μ t4 (i + 1))) else true) := rfl
def p_laws_eqBoolS (l_a : List Bool) (l_b : List Bool) : Bool := (bif ((l_a.length : Int) : Int) != (l_b.length : Int) then false else (p_laws_eqBoolS_l1 l_a l_b (Int.toNat ((l_a.length : Int) - (0 : Int)) + 1) false (0 : Int)))
theorem p_laws_eqBoolS_eq (l_a : List Bool) (l_b : List Bool) : p_laws_eqBoolS l_a l_b = (bif ((l_a.length : Int) : Int) != (l_b.length : Int) then false else (p_laws_eqBoolS_l1 l_a l_b (Int.toNat ((l_a.length : Int) - (0 : Int)) + 1) false (0 : Int))) := rfl
def T_laws_eqBoolS (a_a : Option Addr) (a_n : Nat) (a_e : Nat) (b_a : Option Addr) (b_n : Nat) (b_e : Nat) (H : AHeap) (K : Bool → AHeap → Prop) : Prop := ∃ (l_a : List Bool), ∃ (l_b : List Bool), IsL fB H a_a a_n l_a ∧ IsL fB H b_a b_n l_b ∧ l_a.length < 1073741824 ∧ l_b.length < 1073741824 ∧ K (p_laws_eqBoolS l_a l_b) H
theorem T_laws_eqBoolS_i {a_a : Option Addr} {a_n : Nat} {a_e : Nat} {b_a : Option Addr} {b_n : Nat} {b_e : Nat} {H : AHeap} {K : Bool → AHeap → Prop} (h : ∃ (l_a : List Bool), ∃ (l_b : List Bool), IsL fB H a_a a_n l_a ∧ IsL fB H b_a b_n l_b ∧ l_a.length < 1073741824 ∧ l_b.length < 1073741824 ∧ K (p_laws_eqBoolS l_a l_b) H) : T_laws_eqBoolS a_a a_n a_e b_a b_n b_e H K := h
theorem laws_eqBoolS_go (l : List Bool) : ∀ (μ : Nat) (t : Bool) (i : Nat), l.length - i < μ → p_laws_eqBoolS_l1 l l μ t (i : Int) = true := by
  intro μ
  induction μ with
  | zero => intro t i h; omega
  | succ μ ih =>
    intro t i hm
    rw [p_laws_eqBoolS_l1_s]
    by_cases h : i < l.length
    · rw [decide_eq_true (show (i : Int) < (l.length : Int) by omega), cond_true]
      simp only [BEq.rfl, Bool.not_true, cond_false]
      exact ih t (i + 1) (by omega)
    · rw [decide_eq_false (show ¬ (i : Int) < (l.length : Int) by omega), cond_false]
theorem laws_eqBoolS_self (l : List Bool) : p_laws_eqBoolS l l = true := by
  rw [p_laws_eqBoolS_eq]
  have h0 : ((l.length : Int) != (l.length : Int)) = false := by simp
  rw [h0, cond_false]
  exact laws_eqBoolS_go l _ false 0 (by omega)
/-! laws_eqBoolS: function 22 -/
def E_laws_eqBoolS : Env := envOf []
def F_laws_eqBoolS : List Value → AHeap → (Value → AHeap → Prop) → Prop
  | [.slice a_a a_n a_e, .slice b_a b_n b_e], H, K => T_laws_eqBoolS a_a a_n a_e b_a b_n b_e H fun (r1 : Bool) (H' : AHeap) => K (.bool r1) H'
  | _, _, _ => False
def S_laws_eqBoolS : FSpec := { F := F_laws_eqBoolS, quiet := true, tame := false }
theorem laws_eqBoolS_vc (a_a : Option Addr) (a_n : Nat) (a_e : Nat) (b_a : Option Addr) (b_n : Nat) (b_e : Nat) (H : AHeap) (K : Value → AHeap → Prop) : bodyK Try.prog E_laws_eqBoolS Try.f22 [.slice a_a a_n a_e, .slice b_a b_n b_e] H K =
  (Br (((a_n : Int) : Int) != (b_n : Int)) (K (.bool false) H) (loopK (exK Try.prog E_laws_eqBoolS (cl (cl (cr (cl (cr (cr (bodyC Try.f22)))))))) [.slice a_a a_n a_e, .slice b_a b_n b_e, undef, undef, .bool false, .int .i64 0, .slice a_a a_n a_e, .int .i64 (a_n : Int), .slice b_a b_n b_e, .int .i64 (b_n : Int), .bool (((a_n : Int) : Int) != (b_n : Int)), undef, undef, undef, undef, undef, undef, undef, undef, undef, undef, undef, undef, undef, undef, undef] H (blockQ 0 (seqQ (exK Try.prog E_laws_eqBoolS (cr (cr (cr (bodyC Try.f22))))) (retK Try.prog Try.f22 K))))) := by kernel_rfl
theorem laws_eqBoolS_r1 (a_a : Option Addr) (a_e : Nat) (a_n : Nat) (b_a : Option Addr) (b_e : Nat) (b_n : Nat) (t4 : Bool) (i : Int) (g11 g12 g13 g14 g15 g16 g17 g18 g19 g20 g21 g22 g23 g24 g25 : Value) (H : AHeap) (R : Post) : exK Try.prog E_laws_eqBoolS (cl (cl (cr (cl (cr (cr (bodyC Try.f22))))))) [.slice a_a a_n a_e, .slice b_a b_n b_e, undef, undef, .bool t4, .int .i64 i, .slice a_a a_n a_e, .int .i64 (a_n : Int), .slice b_a b_n b_e, .int .i64 (b_n : Int), .bool (((a_n : Int) : Int) != (b_n : Int)), g11, g12, g13, g14, g15, g16, g17, g18, g19, g20, g21, g22, g23, g24, g25] H R =
  (Br (decide ((i : Int) < (a_n : Int))) ((0 : Int) ≤ i ∧ i < (a_n : Int) ∧ ∃ b1 f1, (a_a : Option Addr) = some ⟨b1, f1, none⟩ ∧ ∃ x1 : Bool,  rdC H b1 (f1 + (i : Int).toNat * 1) = some (.bool x1) ∧ (0 : Int) ≤ i ∧ i < (b_n : Int) ∧ ∃ b2 f2, (b_a : Option Addr) = some ⟨b2, f2, none⟩ ∧ ∃ x2 : Bool,  rdC H b2 (f2 + (i : Int).toNat * 1) = some (.bool x2) ∧ Br (!(x1 == x2)) (R .ret [.slice a_a a_n a_e, .slice b_a b_n b_e, undef, undef, .bool false, .int .i64 i, .slice a_a a_n a_e, .int .i64 (a_n : Int), .slice b_a b_n b_e, .int .i64 (b_n : Int), .bool (((a_n : Int) : Int) != (b_n : Int)), .int .i64 i, .slice a_a a_n a_e, .int .i64 (a_n : Int), .bool (decide ((i : Int) < (a_n : Int))), g15, g16, .slice a_a a_n a_e, .int .i64 i, .pointer (some ⟨b1, f1 + (i : Int).toNat * 1, none⟩), .bool x1, .slice b_a b_n b_e, .int .i64 i, .pointer (some ⟨b2, f2 + (i : Int).toNat * 1, none⟩), .bool x2, .bool (!(x1 == x2))] H) (R .normal [.slice a_a a_n a_e, .slice b_a b_n b_e, undef, undef, .bool t4, .int .i64 (IntKind.wrap .i64 (i + 1)), .slice a_a a_n a_e, .int .i64 (a_n : Int), .slice b_a b_n b_e, .int .i64 (b_n : Int), .bool (((a_n : Int) : Int) != (b_n : Int)), .int .i64 i, .slice a_a a_n a_e, .int .i64 (a_n : Int), .bool (decide ((i : Int) < (a_n : Int))), .int .i64 i, .int .i64 (IntKind.wrap .i64 (i + 1)), .slice a_a a_n a_e, .int .i64 i, .pointer (some ⟨b1, f1 + (i : Int).toNat * 1, none⟩), .bool x1, .slice b_a b_n b_e, .int .i64 i, .pointer (some ⟨b2, f2 + (i : Int).toNat * 1, none⟩), .bool x2, .bool (!(x1 == x2))] H)) (R (.exit 0) [.slice a_a a_n a_e, .slice b_a b_n b_e, undef, undef, .bool t4, .int .i64 i, .slice a_a a_n a_e, .int .i64 (a_n : Int), .slice b_a b_n b_e, .int .i64 (b_n : Int), .bool (((a_n : Int) : Int) != (b_n : Int)), .int .i64 i, .slice a_a a_n a_e, .int .i64 (a_n : Int), .bool (decide ((i : Int) < (a_n : Int))), g15, g16, g17, g18, g19, g20, g21, g22, g23, g24, g25] H)) := by kernel_rfl
def laws_eqBoolS_I1 (a_a : Option Addr) (a_e : Nat) (a_n : Nat) (b_a : Option Addr) (b_e : Nat) (b_n : Nat) (Inv : Nat → Bool → Int → AHeap → Prop) : Nat → List Value → AHeap → Prop := fun μ tm H => ∃ (t4 : Bool), ∃ (i : Int), ∃ g11 g12 g13 g14 g15 g16 g17 g18 g19 g20 g21 g22 g23 g24 g25, tm = [.slice a_a a_n a_e, .slice b_a b_n b_e, undef, undef, .bool t4, .int .i64 i, .slice a_a a_n a_e, .int .i64 (a_n : Int), .slice b_a b_n b_e, .int .i64 (b_n : Int), .bool (((a_n : Int) : Int) != (b_n : Int)), g11, g12, g13, g14, g15, g16, g17, g18, g19, g20, g21, g22, g23, g24, g25] ∧ Inv μ t4 i H
theorem laws_eqBoolS_L1 (a_a : Option Addr) (a_e : Nat) (a_n : Nat) (b_a : Option Addr) (b_e : Nat) (b_n : Nat) {Q : Post} (Inv : Nat → Bool → Int → AHeap → Prop) (ν : Nat) (t4 : Bool) (i : Int) (g11 g12 g13 g14 g15 g16 g17 g18 g19 g20 g21 g22 g23 g24 g25 : Value) (H : AHeap) (h0 : Inv ν t4 i H)
    (hs : ∀ (μ : Nat) (t4 : Bool) (i : Int) (g11 g12 g13 g14 g15 g16 g17 g18 g19 g20 g21 g22 g23 g24 g25 : Value) (H : AHeap), Inv μ t4 i H → exK Try.prog E_laws_eqBoolS (cl (cl (cr (cl (cr (cr (bodyC Try.f22))))))) [.slice a_a a_n a_e, .slice b_a b_n b_e, undef, undef, .bool t4, .int .i64 i, .slice a_a a_n a_e, .int .i64 (a_n : Int), .slice b_a b_n b_e, .int .i64 (b_n : Int), .bool (((a_n : Int) : Int) != (b_n : Int)), g11, g12, g13, g14, g15, g16, g17, g18, g19, g20, g21, g22, g23, g24, g25] H (loopQ (laws_eqBoolS_I1 a_a a_e a_n b_a b_e b_n Inv) μ Q)) : loopK (exK Try.prog E_laws_eqBoolS (cl (cl (cr (cl (cr (cr (bodyC Try.f22)))))))) [.slice a_a a_n a_e, .slice b_a b_n b_e, undef, undef, .bool t4, .int .i64 i, .slice a_a a_n a_e, .int .i64 (a_n : Int), .slice b_a b_n b_e, .int .i64 (b_n : Int), .bool (((a_n : Int) : Int) != (b_n : Int)), g11, g12, g13, g14, g15, g16, g17, g18, g19, g20, g21, g22, g23, g24, g25] H Q :=
  ⟨laws_eqBoolS_I1 a_a a_e a_n b_a b_e b_n Inv, ν, ⟨t4, i, g11, g12, g13, g14, g15, g16, g17, g18, g19, g20, g21, g22, g23, g24, g25, rfl, h0⟩, fun μ tm H h => by obtain ⟨t4, i, g11, g12, g13, g14, g15, g16, g17, g18, g19, g20, g21, g22, g23, g24, g25, rfl, hI⟩ := h; exact hs μ t4 i g11 g12 g13 g14 g15 g16 g17 g18 g19 g20 g21 g22 g23 g24 g25 H hI⟩
theorem laws_eqBoolS_n1 {a_a : Option Addr} {a_e : Nat} {a_n : Nat} {b_a : Option Addr} {b_e : Nat} {b_n : Nat} {Q : Post} {Inv : Nat → Bool → Int → AHeap → Prop} {μ : Nat} (μ' : Nat) {t4 : Bool} {i : Int} {g11 g12 g13 g14 g15 g16 g17 g18 g19 g20 g21 g22 g23 g24 g25 : Value} {H : AHeap} (hm : μ' < μ) (hI : Inv μ' t4 i H) : loopQ (laws_eqBoolS_I1 a_a a_e a_n b_a b_e b_n Inv) μ Q .normal [.slice a_a a_n a_e, .slice b_a b_n b_e, undef, undef, .bool t4, .int .i64 i, .slice a_a a_n a_e, .int .i64 (a_n : Int), .slice b_a b_n b_e, .int .i64 (b_n : Int), .bool (((a_n : Int) : Int) != (b_n : Int)), g11, g12, g13, g14, g15, g16, g17, g18, g19, g20, g21, g22, g23, g24, g25] H := ⟨μ', hm, t4, i, g11, g12, g13, g14, g15, g16, g17, g18, g19, g20, g21, g22, g23, g24, g25, rfl, hI⟩
theorem laws_eqBoolS_x1_0 (a_a : Option Addr) (a_e : Nat) (a_n : Nat) (b_a : Option Addr) (b_e : Nat) (b_n : Nat) (t4 : Bool) (i : Int) (g11 g12 g13 g14 g15 g16 g17 g18 g19 g20 g21 g22 g23 g24 g25 : Value) (H : AHeap) (K : Value → AHeap → Prop)  {I : Nat → List Value → AHeap → Prop} {μ : Nat} : loopQ I μ (blockQ 0 (seqQ (exK Try.prog E_laws_eqBoolS (cr (cr (cr (bodyC Try.f22))))) (retK Try.prog Try.f22 K))) (.exit 0) [.slice a_a a_n a_e, .slice b_a b_n b_e, undef, undef, .bool t4, .int .i64 i, .slice a_a a_n a_e, .int .i64 (a_n : Int), .slice b_a b_n b_e, .int .i64 (b_n : Int), .bool (((a_n : Int) : Int) != (b_n : Int)), g11, g12, g13, g14, g15, g16, g17, g18, g19, g20, g21, g22, g23, g24, g25] H =
  (K (.bool true) H) := by kernel_rfl
theorem laws_eqBoolS_x1_ret (a_a : Option Addr) (a_e : Nat) (a_n : Nat) (b_a : Option Addr) (b_e : Nat) (b_n : Nat) (t4 : Bool) (i : Int) (g11 g12 g13 g14 g15 g16 g17 g18 g19 g20 g21 g22 g23 g24 g25 : Value) (H : AHeap) (K : Value → AHeap → Prop)  {I : Nat → List Value → AHeap → Prop} {μ : Nat} : loopQ I μ (blockQ 0 (seqQ (exK Try.prog E_laws_eqBoolS (cr (cr (cr (bodyC Try.f22))))) (retK Try.prog Try.f22 K))) .ret [.slice a_a a_n a_e, .slice b_a b_n b_e, undef, undef, .bool t4, .int .i64 i, .slice a_a a_n a_e, .int .i64 (a_n : Int), .slice b_a b_n b_e, .int .i64 (b_n : Int), .bool (((a_n : Int) : Int) != (b_n : Int)), g11, g12, g13, g14, g15, g16, g17, g18, g19, g20, g21, g22, g23, g24, g25] H =
  (K (.bool t4) H) := by kernel_rfl
theorem E_laws_eqBoolS_ok : ∀ g, FnOk Try.prog g (E_laws_eqBoolS g) := FnOk.envOf (by
  intro x hx; cases hx)
set_option maxHeartbeats 1000000 in
theorem laws_eqBoolS_main (a_a : Option Addr) (a_n : Nat) (a_e : Nat) (b_a : Option Addr) (b_n : Nat) (b_e : Nat) (H : AHeap) (K : Value → AHeap → Prop) (h : T_laws_eqBoolS a_a a_n a_e b_a b_n b_e H fun (r1 : Bool) (H' : AHeap) => K (.bool r1) H') : bodyK Try.prog E_laws_eqBoolS Try.f22 [.slice a_a a_n a_e, .slice b_a b_n b_e] H K := by
  rw [laws_eqBoolS_vc]
  obtain ⟨l_a, l_b, i_a, i_b, bd_13, bd_14, hk⟩ := h
  obtain rfl := i_a.eqn
  obtain rfl := i_b.eqn
  have e : (p_laws_eqBoolS l_a l_b) = _ := rfl
  have e := e.trans (p_laws_eqBoolS_eq l_a l_b)
  have g0 := Grow.refl H
  refine Br.intro (fun c_1 => ?_) (fun c_1 => ?_)
  · have e := e.trans (cond_t c_1)
    have c_1' := ine_t c_1
    rw [e] at hk
    exact hk
  · have e := e.trans (cond_f c_1)
    have c_1' := ine_f c_1
    refine laws_eqBoolS_L1 _ _ _ _ _ _ (fun (μ : Nat) (t4 : Bool) (i : Int) (H_1 : AHeap) => H = H_1 ∧ (0 : Int) ≤ i ∧ i ≤ (l_a.length : Int) ∧ (l_a.length : Int) - i ≤ (μ : Int) ∧ p_laws_eqBoolS l_a l_b = p_laws_eqBoolS_l1 l_a l_b (μ + 1) t4 i) (Int.toNat ((l_a.length : Int) - (0 : Int))) _ _ _ _ _ _ _ _ _ _ _ _ _ _ _ _ _ H ?_ ?_
    · exact ⟨rfl, (by first | omega | (simp; done) | (simp; omega)), (by first | omega | (simp; done) | (simp; omega)), (by omega), e⟩
    · intro μ t4 i g11 g12 g13 g14 g15 g16 g17 g18 g19 g20 g21 g22 g23 g24 g25 H_1 hI
      obtain ⟨rfl, v_2, v_3, hμ, e⟩ := hI
      rw [laws_eqBoolS_r1]
      have e := e.trans (p_laws_eqBoolS_l1_s l_a l_b μ t4 i)
      have l_4 := g0.1
      refine Br.intro (fun c_5 => ?_) (fun c_5 => ?_)
      · have e := e.trans (cond_t c_5)
        have c_5' := of_decide_eq_true c_5
        obtain ⟨b_6, f_7, q_8⟩ := ((i_a.grow g0)).pos (by first | omega | (simp only [List.length_set, List.length_replicate, List.length_append, List.length_cons, List.length_nil]; done) | (simp only [List.length_set, List.length_replicate, List.length_append, List.length_cons, List.length_nil]; omega))
        refine ⟨by omega, by omega, b_6, f_7, q_8, ?_⟩
        refine ⟨((l_a).getD (i : Int).toNat false), (i_a).rd g0 q_8 (by omega) _, ?_⟩
        obtain ⟨b_9, f_10, q_11⟩ := ((i_b.grow g0)).pos (by first | omega | (simp only [List.length_set, List.length_replicate, List.length_append, List.length_cons, List.length_nil]; done) | (simp only [List.length_set, List.length_replicate, List.length_append, List.length_cons, List.length_nil]; omega))
        refine ⟨by omega, by omega, b_9, f_10, q_11, ?_⟩
        refine ⟨((l_b).getD (i : Int).toNat false), (i_b).rd g0 q_11 (by omega) _, ?_⟩
        refine Br.intro (fun c_12 => ?_) (fun c_12 => ?_)
        · have e := e.trans (cond_t c_12)
          have c_12n := nf_of_t c_12
          rw [laws_eqBoolS_x1_ret]
          rw [e] at hk
          exact hk
        · have e := e.trans (cond_f c_12)
          have c_12n := nt_of_f c_12
          rw [show IntKind.wrap .i64 (i + 1) = (i + 1) from wrap64 (by omega) (by omega)]
          refine laws_eqBoolS_n1 (μ - 1) (by omega) ⟨rfl, (by first | omega | (simp only [List.length_append, List.length_cons, List.length_nil, List.length_set]; done) | (simp only [List.length_append, List.length_cons, List.length_nil, List.length_set]; omega)), (by first | omega | (simp only [List.length_append, List.length_cons, List.length_nil, List.length_set]; done) | (simp only [List.length_append, List.length_cons, List.length_nil, List.length_set]; omega)), (by omega), (by rw [show μ - 1 + 1 = μ from by omega]; exact e)⟩
      · have e := e.trans (cond_f c_5)
        have c_5' := of_decide_eq_false c_5
        rw [laws_eqBoolS_x1_0]
        rw [e] at hk
        exact hk
theorem laws_eqBoolS_ok : FnOk Try.prog 22 S_laws_eqBoolS := by
  refine FnOk.body mix_ok E_laws_eqBoolS_ok Try.func22 rfl (by kernel_rfl) (by kernel_rfl) ?_ ?_ ?_ ?_ ?_
  · intro args H K K' h hk
    simp only [S_laws_eqBoolS] at *
    unfold F_laws_eqBoolS at *
    split at hk
    · obtain ⟨l_a, l_b, i_a, i_b, bd_13, bd_14, k⟩ := hk
      exact ⟨l_a, l_b, i_a, i_b, bd_13, bd_14, h _ _ k⟩
    · exact hk.elim
  · intro _ args H K hk
    simp only [S_laws_eqBoolS] at *
    unfold F_laws_eqBoolS at *
    split at hk
    · obtain ⟨l_a, l_b, i_a, i_b, bd_13, bd_14, k⟩ := hk
      exact ⟨_, k, fun K' k' => ⟨l_a, l_b, i_a, i_b, bd_13, bd_14, k'⟩⟩
    · exact hk.elim
  · intro args H K hk
    simp only [S_laws_eqBoolS] at *
    unfold F_laws_eqBoolS at *
    split at hk
    · obtain ⟨l_a, l_b, i_a, i_b, bd_13, bd_14, k⟩ := hk
      exact ⟨_, _, k⟩
    · exact hk.elim
  · intro hq; cases hq
  · have mm := @laws_eqBoolS_main
    revert mm
    generalize bodyK Try.prog E_laws_eqBoolS Try.f22 = Q
    intro mm args H K hk
    simp only [S_laws_eqBoolS] at *
    unfold F_laws_eqBoolS at *
    split at hk
    · exact mm _ _ _ _ _ _ H K hk
    · exact hk.elim
def p_laws_eqCoded (a_Count : Int) (a_Top : Int) (l_a_Bits : List Bool) (b_Count : Int) (b_Top : Int) (l_b_Bits : List Bool) : Bool := (bif (a_Count : Int) != b_Count then false else (bif (a_Top : Int) != b_Top then false else (bif !(p_laws_eqBoolS l_a_Bits l_b_Bits) then false else true)))
theorem p_laws_eqCoded_eq (a_Count : Int) (a_Top : Int) (l_a_Bits : List Bool) (b_Count : Int) (b_Top : Int) (l_b_Bits : List Bool) : p_laws_eqCoded a_Count a_Top l_a_Bits b_Count b_Top l_b_Bits = (bif (a_Count : Int) != b_Count then false else (bif (a_Top : Int) != b_Top then false else (bif !(p_laws_eqBoolS l_a_Bits l_b_Bits) then false else true))) := rfl
def T_laws_eqCoded (a_Count : Int) (a_Top : Int) (a_Bits_a : Option Addr) (a_Bits_n : Nat) (a_Bits_e : Nat) (b_Count : Int) (b_Top : Int) (b_Bits_a : Option Addr) (b_Bits_n : Nat) (b_Bits_e : Nat) (H : AHeap) (K : Bool → AHeap → Prop) : Prop := ∃ (l_a_Bits : List Bool), ∃ (l_b_Bits : List Bool), IsL fB H a_Bits_a a_Bits_n l_a_Bits ∧ IsL fB H b_Bits_a b_Bits_n l_b_Bits ∧ l_a_Bits.length < 1073741824 ∧ l_b_Bits.length < 1073741824 ∧ ((∀ H' : AHeap, Grow H H' → K (p_laws_eqCoded a_Count a_Top l_a_Bits b_Count b_Top l_b_Bits) H'))
theorem T_laws_eqCoded_i {a_Count : Int} {a_Top : Int} {a_Bits_a : Option Addr} {a_Bits_n : Nat} {a_Bits_e : Nat} {b_Count : Int} {b_Top : Int} {b_Bits_a : Option Addr} {b_Bits_n : Nat} {b_Bits_e : Nat} {H : AHeap} {K : Bool → AHeap → Prop} (h : ∃ (l_a_Bits : List Bool), ∃ (l_b_Bits : List Bool), IsL fB H a_Bits_a a_Bits_n l_a_Bits ∧ IsL fB H b_Bits_a b_Bits_n l_b_Bits ∧ l_a_Bits.length < 1073741824 ∧ l_b_Bits.length < 1073741824 ∧ ((∀ H' : AHeap, Grow H H' → K (p_laws_eqCoded a_Count a_Top l_a_Bits b_Count b_Top l_b_Bits) H'))) : T_laws_eqCoded a_Count a_Top a_Bits_a a_Bits_n a_Bits_e b_Count b_Top b_Bits_a b_Bits_n b_Bits_e H K := h
theorem laws_eqCoded_self (a b : Int) (l : List Bool) : p_laws_eqCoded a b l a b l = true := by
  rw [p_laws_eqCoded_eq, laws_eqBoolS_self]
  simp
/-! laws_eqCoded: function 27 -/
def E_laws_eqCoded : Env := envOf [(22, S_laws_eqBoolS)]
def F_laws_eqCoded : List Value → AHeap → (Value → AHeap → Prop) → Prop
  | [.agg ⟨[.int .i64 a_Count, .int .i64 a_Top, .slice a_Bits_a a_Bits_n a_Bits_e]⟩, .agg ⟨[.int .i64 b_Count, .int .i64 b_Top, .slice b_Bits_a b_Bits_n b_Bits_e]⟩], H, K => T_laws_eqCoded a_Count a_Top a_Bits_a a_Bits_n a_Bits_e b_Count b_Top b_Bits_a b_Bits_n b_Bits_e H fun (r1 : Bool) (H' : AHeap) => K (.bool r1) H'
  | _, _, _ => False
def S_laws_eqCoded : FSpec := { F := F_laws_eqCoded, quiet := false, tame := true }
theorem laws_eqCoded_vc (a_Count : Int) (a_Top : Int) (a_Bits_a : Option Addr) (a_Bits_n : Nat) (a_Bits_e : Nat) (b_Count : Int) (b_Top : Int) (b_Bits_a : Option Addr) (b_Bits_n : Nat) (b_Bits_e : Nat) (H : AHeap) (K : Value → AHeap → Prop) : bodyK Try.prog E_laws_eqCoded Try.f27 [.agg #[.int .i64 a_Count, .int .i64 a_Top, .slice a_Bits_a a_Bits_n a_Bits_e], .agg #[.int .i64 b_Count, .int .i64 b_Top, .slice b_Bits_a b_Bits_n b_Bits_e]] H K =
  (Al [.int .i64 a_Count, .int .i64 a_Top, .slice a_Bits_a a_Bits_n a_Bits_e] H fun b1 H1 => Al [.int .i64 b_Count, .int .i64 b_Top, .slice b_Bits_a b_Bits_n b_Bits_e] H1 fun b2 H2 => ∃ x1 : Int,  rdC H2 b1 0 = some (.int .i64 x1) ∧ ∃ x2 : Int,  rdC H2 b2 0 = some (.int .i64 x2) ∧ Br ((x1 : Int) != x2) (K (.bool false) H2) (∃ x3 : Int,  rdC H2 b1 1 = some (.int .i64 x3) ∧ ∃ x4 : Int,  rdC H2 b2 1 = some (.int .i64 x4) ∧ Br ((x3 : Int) != x4) (K (.bool false) H2) (∃ x5_a : Option Addr, ∃ x5_n : Nat, ∃ x5_e : Nat,  rdC H2 b1 2 = some (.slice x5_a x5_n x5_e) ∧ ∃ x6_a : Option Addr, ∃ x6_n : Nat, ∃ x6_e : Nat,  rdC H2 b2 2 = some (.slice x6_a x6_n x6_e) ∧ T_laws_eqBoolS x5_a x5_n x5_e x6_a x6_n x6_e H2 fun (r1 : Bool) (H3 : AHeap) => Br (!r1) (K (.bool false) H3) (K (.bool true) H3)))) := by kernel_rfl
theorem E_laws_eqCoded_ok : ∀ g, FnOk Try.prog g (E_laws_eqCoded g) := FnOk.envOf (by
  intro x hx
  simp only [List.mem_cons, List.not_mem_nil, or_false] at hx
  subst hx; exact laws_eqBoolS_ok)
set_option maxHeartbeats 1000000 in
theorem laws_eqCoded_main (a_Count : Int) (a_Top : Int) (a_Bits_a : Option Addr) (a_Bits_n : Nat) (a_Bits_e : Nat) (b_Count : Int) (b_Top : Int) (b_Bits_a : Option Addr) (b_Bits_n : Nat) (b_Bits_e : Nat) (H : AHeap) (K : Value → AHeap → Prop) (h : T_laws_eqCoded a_Count a_Top a_Bits_a a_Bits_n a_Bits_e b_Count b_Top b_Bits_a b_Bits_n b_Bits_e H fun (r1 : Bool) (H' : AHeap) => K (.bool r1) H') : bodyK Try.prog E_laws_eqCoded Try.f27 [.agg #[.int .i64 a_Count, .int .i64 a_Top, .slice a_Bits_a a_Bits_n a_Bits_e], .agg #[.int .i64 b_Count, .int .i64 b_Top, .slice b_Bits_a b_Bits_n b_Bits_e]] H K := by
  rw [laws_eqCoded_vc]
  obtain ⟨l_a_Bits, l_b_Bits, i_a_Bits, i_b_Bits, bd_26, bd_27, hk⟩ := h
  obtain rfl := i_a_Bits.eqn
  obtain rfl := i_b_Bits.eqn
  have e : (p_laws_eqCoded a_Count a_Top l_a_Bits b_Count b_Top l_b_Bits) = _ := rfl
  have e := e.trans (p_laws_eqCoded_eq a_Count a_Top l_a_Bits b_Count b_Top l_b_Bits)
  have g0 := Grow.refl H
  refine Al.intro (fun b_1 H_1 hb_2 hl_3 g_4 o_5 => ?_)
  have l_7 := g_4.1
  have g_8 := g0.trans g_4
  have l_9 := g_8.1
  have w_25 := o_5.lt
  refine Al.intro (fun b_10 H_2 hb_11 hl_12 g_13 o_14 => ?_)
  have l_16 := g_13.1
  have g_17 := g_8.trans g_13
  have l_18 := g_17.1
  have o_19 := o_5.grow g_13
  have w_20 := o_19.lt
  have w_24 := o_14.lt
  refine ⟨a_Count, (o_19.rdC _).trans rfl, ?_⟩
  refine ⟨b_Count, (o_14.rdC _).trans rfl, ?_⟩
  refine Br.intro (fun c_21 => ?_) (fun c_21 => ?_)
  · have e := e.trans (cond_t c_21)
    have c_21' := ine_t c_21
    rw [e] at hk
    exact hk  H_2 g_17 
  · have e := e.trans (cond_f c_21)
    have c_21' := ine_f c_21
    refine ⟨a_Top, (o_19.rdC _).trans rfl, ?_⟩
    refine ⟨b_Top, (o_14.rdC _).trans rfl, ?_⟩
    refine Br.intro (fun c_22 => ?_) (fun c_22 => ?_)
    · have e := e.trans (cond_t c_22)
      have c_22' := ine_t c_22
      rw [e] at hk
      exact hk  H_2 g_17 
    · have e := e.trans (cond_f c_22)
      have c_22' := ine_f c_22
      refine ⟨a_Bits_a, l_a_Bits.length, a_Bits_e, (o_19.rdC _).trans rfl, ?_⟩
      refine ⟨b_Bits_a, l_b_Bits.length, b_Bits_e, (o_14.rdC _).trans rfl, ?_⟩
      refine T_laws_eqBoolS_i ⟨_, _, (i_a_Bits.grow g_17), (i_b_Bits.grow g_17), (by first | omega | (simp only [List.length_set, List.length_replicate, List.length_append, List.length_cons, List.length_nil]; done) | (simp only [List.length_set, List.length_replicate, List.length_append, List.length_cons, List.length_nil]; omega)), (by first | omega | (simp only [List.length_set, List.length_replicate, List.length_append, List.length_cons, List.length_nil]; done) | (simp only [List.length_set, List.length_replicate, List.length_append, List.length_cons, List.length_nil]; omega)), ?_⟩
      refine Br.intro (fun c_23 => ?_) (fun c_23 => ?_)
      · have e := e.trans (cond_t c_23)
        have c_23n := nf_of_t c_23
        rw [e] at hk
        exact hk  H_2 g_17 
      · have e := e.trans (cond_f c_23)
        have c_23n := nt_of_f c_23
        rw [e] at hk
        exact hk  H_2 g_17 
theorem laws_eqCoded_ok : FnOk Try.prog 27 S_laws_eqCoded := by
  refine FnOk.body mix_ok E_laws_eqCoded_ok Try.func27 rfl (by kernel_rfl) (by kernel_rfl) ?_ ?_ ?_ ?_ ?_
  · intro args H K K' h hk
    simp only [S_laws_eqCoded] at *
    unfold F_laws_eqCoded at *
    split at hk
    · obtain ⟨l_a_Bits, l_b_Bits, i_a_Bits, i_b_Bits, bd_26, bd_27, k⟩ := hk
      exact ⟨l_a_Bits, l_b_Bits, i_a_Bits, i_b_Bits, bd_26, bd_27, (fun  H' gg  => h _ _ (k  H' gg ))⟩
    · exact hk.elim
  · intro hq; cases hq
  · intro args H K hk
    simp only [S_laws_eqCoded] at *
    unfold F_laws_eqCoded at *
    split at hk
    · obtain ⟨l_a_Bits, l_b_Bits, i_a_Bits, i_b_Bits, bd_26, bd_27, k⟩ := hk
      exact ⟨_, _, k H (Grow.refl H)⟩
    · exact hk.elim
  · intro _ args H K hk
    simp only [S_laws_eqCoded] at *
    unfold F_laws_eqCoded at *
    split at hk
    · obtain ⟨l_a_Bits, l_b_Bits, i_a_Bits, i_b_Bits, bd_26, bd_27, k⟩ := hk
      exact ⟨l_a_Bits, l_b_Bits, i_a_Bits, i_b_Bits, bd_26, bd_27, (fun  H' gg  => ⟨gg, k  H' gg ⟩)⟩
    · exact hk.elim
  · have mm := @laws_eqCoded_main
    revert mm
    generalize bodyK Try.prog E_laws_eqCoded Try.f27 = Q
    intro mm args H K hk
    simp only [S_laws_eqCoded] at *
    unfold F_laws_eqCoded at *
    split at hk
    · exact mm _ _ _ _ _ _ _ _ _ _ H K hk
    · exact hk.elim
def p_laws_FnExactSameCoded (aA_Count : Int) (aA_Top : Int) (l_aA_Bits : List Bool) (aB_Count : Int) (aB_Top : Int) (l_aB_Bits : List Bool) : Bool := (bif decide (((p_laws_szCoded aA_Count aA_Top l_aA_Bits (1048576 : Int)) : Int) < 0) then true else (bif decide (((p_laws_szCoded aB_Count aB_Top l_aB_Bits ((p_laws_szCoded aA_Count aA_Top l_aA_Bits (1048576 : Int)))) : Int) < 0) then true else (bif !((p_impl_SameCoded aA_Count aA_Top l_aA_Bits aB_Count aB_Top l_aB_Bits) == (p_spec_SameCoded aA_Count aA_Top l_aA_Bits aB_Count aB_Top l_aB_Bits)) then false else (bif !(p_laws_eqCoded aA_Count aA_Top l_aA_Bits aA_Count aA_Top l_aA_Bits) then false else (bif !(p_laws_eqCoded aB_Count aB_Top l_aB_Bits aB_Count aB_Top l_aB_Bits) then false else true)))))
theorem p_laws_FnExactSameCoded_eq (aA_Count : Int) (aA_Top : Int) (l_aA_Bits : List Bool) (aB_Count : Int) (aB_Top : Int) (l_aB_Bits : List Bool) : p_laws_FnExactSameCoded aA_Count aA_Top l_aA_Bits aB_Count aB_Top l_aB_Bits = (bif decide (((p_laws_szCoded aA_Count aA_Top l_aA_Bits (1048576 : Int)) : Int) < 0) then true else (bif decide (((p_laws_szCoded aB_Count aB_Top l_aB_Bits ((p_laws_szCoded aA_Count aA_Top l_aA_Bits (1048576 : Int)))) : Int) < 0) then true else (bif !((p_impl_SameCoded aA_Count aA_Top l_aA_Bits aB_Count aB_Top l_aB_Bits) == (p_spec_SameCoded aA_Count aA_Top l_aA_Bits aB_Count aB_Top l_aB_Bits)) then false else (bif !(p_laws_eqCoded aA_Count aA_Top l_aA_Bits aA_Count aA_Top l_aA_Bits) then false else (bif !(p_laws_eqCoded aB_Count aB_Top l_aB_Bits aB_Count aB_Top l_aB_Bits) then false else true))))) := rfl
def T_laws_FnExactSameCoded (aA_Count : Int) (aA_Top : Int) (aA_Bits_a : Option Addr) (aA_Bits_n : Nat) (aA_Bits_e : Nat) (aB_Count : Int) (aB_Top : Int) (aB_Bits_a : Option Addr) (aB_Bits_n : Nat) (aB_Bits_e : Nat) (H : AHeap) (K : Bool → AHeap → Prop) : Prop := ∃ l_aA_Bits : List Bool, ∃ l_aB_Bits : List Bool, I64 aA_Count ∧ I64 aA_Top ∧ IsL fB H aA_Bits_a aA_Bits_n l_aA_Bits ∧ l_aA_Bits.length ≤ 9223372036854775807 ∧ I64 aB_Count ∧ I64 aB_Top ∧ IsL fB H aB_Bits_a aB_Bits_n l_aB_Bits ∧ l_aB_Bits.length ≤ 9223372036854775807 ∧ ∀ H' : AHeap, K true H'
theorem sameBits_go (a b a2 b2 : Int) (l l2 : List Bool) : ∀ (μ : Nat) (t : Bool) (i : Int), p_impl_SameCoded_l1 a b l a2 b2 l2 μ t i = p_spec_l06SameBits_l1 l l2 μ t i := by
  intro μ
  induction μ with
  | zero => intro t i; rfl
  | succ μ ih => intro t i; rw [p_impl_SameCoded_l1_s, p_spec_l06SameBits_l1_s, ih]
theorem sameCoded_same (a b a2 b2 : Int) (l l2 : List Bool) : p_impl_SameCoded a b l a2 b2 l2 = p_spec_SameCoded a b l a2 b2 l2 := by
  rw [p_impl_SameCoded_eq, p_spec_SameCoded_eq, p_spec_l06Same_eq, p_spec_l06SameBits_eq, sameBits_go]
  unfold bne
  cases a == a2 <;> cases b == b2 <;> rfl
theorem laws_FnExactSameCoded_true (n t : Int) (l : List Bool) (n2 t2 : Int) (l2 : List Bool) (hn : I64 n) (ht : I64 t) (hn2 : I64 n2) (ht2 : I64 t2) : p_laws_FnExactSameCoded n t l n2 t2 l2 = true := by
  rw [p_laws_FnExactSameCoded_eq, laws_eqCoded_self, laws_eqCoded_self, sameCoded_same]
  cases decide ((p_laws_szCoded n t l (1048576 : Int) : Int) < 0) <;> cases decide ((p_laws_szCoded n2 t2 l2 (p_laws_szCoded n t l (1048576 : Int)) : Int) < 0) <;> simp
/-! laws_FnExactSameCoded: function 7 -/
def E_laws_FnExactSameCoded : Env := envOf [(23, S_laws_szCoded), (25, S_laws_toCoded), (28, S_spec_SameCoded), (29, S_impl_SameCoded), (27, S_laws_eqCoded)]
def F_laws_FnExactSameCoded : List Value → AHeap → (Value → AHeap → Prop) → Prop
  | [.agg ⟨[.int .i64 aA_Count, .int .i64 aA_Top, .slice aA_Bits_a aA_Bits_n aA_Bits_e]⟩, .agg ⟨[.int .i64 aB_Count, .int .i64 aB_Top, .slice aB_Bits_a aB_Bits_n aB_Bits_e]⟩], H, K => T_laws_FnExactSameCoded aA_Count aA_Top aA_Bits_a aA_Bits_n aA_Bits_e aB_Count aB_Top aB_Bits_a aB_Bits_n aB_Bits_e H fun (r1 : Bool) (H' : AHeap) => K (.bool r1) H'
  | _, _, _ => False
def S_laws_FnExactSameCoded : FSpec := { F := F_laws_FnExactSameCoded, quiet := false, tame := false }
theorem laws_FnExactSameCoded_vc (aA_Count : Int) (aA_Top : Int) (aA_Bits_a : Option Addr) (aA_Bits_n : Nat) (aA_Bits_e : Nat) (aB_Count : Int) (aB_Top : Int) (aB_Bits_a : Option Addr) (aB_Bits_n : Nat) (aB_Bits_e : Nat) (H : AHeap) (K : Value → AHeap → Prop) : bodyK Try.prog E_laws_FnExactSameCoded Try.f7 [.agg #[.int .i64 aA_Count, .int .i64 aA_Top, .slice aA_Bits_a aA_Bits_n aA_Bits_e], .agg #[.int .i64 aB_Count, .int .i64 aB_Top, .slice aB_Bits_a aB_Bits_n aB_Bits_e]] H K =
  (Al [.int .i64 aA_Count, .int .i64 aA_Top, .slice aA_Bits_a aA_Bits_n aA_Bits_e] H fun b1 H1 => Al [.int .i64 aB_Count, .int .i64 aB_Top, .slice aB_Bits_a aB_Bits_n aB_Bits_e] H1 fun b2 H2 => ∃ c1 : Int, ∃ c2 : Int, ∃ c3_a : Option Addr, ∃ c3_n : Nat, ∃ c3_e : Nat,  rdN H2 b1 0 3 = some [.int .i64 c1, .int .i64 c2, .slice c3_a c3_n c3_e] ∧ T_laws_szCoded c1 c2 c3_a c3_n c3_e 1048576 H2 fun (r1 : Int) (H3 : AHeap) => Br (decide ((r1 : Int) < 0)) (K (.bool true) H3) (∃ c4 : Int, ∃ c5 : Int, ∃ c6_a : Option Addr, ∃ c6_n : Nat, ∃ c6_e : Nat,  rdN H3 b2 0 3 = some [.int .i64 c4, .int .i64 c5, .slice c6_a c6_n c6_e] ∧ T_laws_szCoded c4 c5 c6_a c6_n c6_e r1 H3 fun (r2 : Int) (H4 : AHeap) => Br (decide ((r2 : Int) < 0)) (K (.bool true) H4) (∃ c7 : Int, ∃ c8 : Int, ∃ c9_a : Option Addr, ∃ c9_n : Nat, ∃ c9_e : Nat,  rdN H4 b2 0 3 = some [.int .i64 c7, .int .i64 c8, .slice c9_a c9_n c9_e] ∧ ∃ c10 : Int, ∃ c11 : Int, ∃ c12_a : Option Addr, ∃ c12_n : Nat, ∃ c12_e : Nat,  rdN H4 b1 0 3 = some [.int .i64 c10, .int .i64 c11, .slice c12_a c12_n c12_e] ∧ T_laws_toCoded c10 c11 c12_a c12_n c12_e H4 fun (r3 : Int) (r4 : Int) (a1 : Option Addr) (r5 : Nat) (r6 : Nat) (H5 : AHeap) => T_laws_toCoded c7 c8 c9_a c9_n c9_e H5 fun (r7 : Int) (r8 : Int) (a2 : Option Addr) (r9 : Nat) (r10 : Nat) (H6 : AHeap) => T_spec_SameCoded r3 r4 a1 r5 r6 r7 r8 a2 r9 r10 H6 fun (r11 : Bool) (H7 : AHeap) => ∃ c13 : Int, ∃ c14 : Int, ∃ c15_a : Option Addr, ∃ c15_n : Nat, ∃ c15_e : Nat,  rdN H7 b1 0 3 = some [.int .i64 c13, .int .i64 c14, .slice c15_a c15_n c15_e] ∧ T_laws_toCoded c13 c14 c15_a c15_n c15_e H7 fun (r12 : Int) (r13 : Int) (a3 : Option Addr) (r14 : Nat) (r15 : Nat) (H8 : AHeap) => Al [.int .i64 0, .int .i64 0, .slice none 0 0] H8 fun b3 H9 => isOwn H9 b3 ∧ (∃ l, rdN H9 b3 0 3 = some l) ∧ Lt (setN H9 b3 0 [.int .i64 r12, .int .i64 r13, .slice a3 r14 r15]) fun H10 => ∃ c16 : Int, ∃ c17 : Int, ∃ c18_a : Option Addr, ∃ c18_n : Nat, ∃ c18_e : Nat,  rdN H10 b2 0 3 = some [.int .i64 c16, .int .i64 c17, .slice c18_a c18_n c18_e] ∧ T_laws_toCoded c16 c17 c18_a c18_n c18_e H10 fun (r16 : Int) (r17 : Int) (a4 : Option Addr) (r18 : Nat) (r19 : Nat) (H11 : AHeap) => Al [.int .i64 0, .int .i64 0, .slice none 0 0] H11 fun b4 H12 => isOwn H12 b4 ∧ (∃ l, rdN H12 b4 0 3 = some l) ∧ Lt (setN H12 b4 0 [.int .i64 r16, .int .i64 r17, .slice a4 r18 r19]) fun H13 => ∃ c19 : Int, ∃ c20 : Int, ∃ c21_a : Option Addr, ∃ c21_n : Nat, ∃ c21_e : Nat,  rdN H13 b3 0 3 = some [.int .i64 c19, .int .i64 c20, .slice c21_a c21_n c21_e] ∧ ∃ c22 : Int, ∃ c23 : Int, ∃ c24_a : Option Addr, ∃ c24_n : Nat, ∃ c24_e : Nat,  rdN H13 b4 0 3 = some [.int .i64 c22, .int .i64 c23, .slice c24_a c24_n c24_e] ∧ T_impl_SameCoded c19 c20 c21_a c21_n c21_e c22 c23 c24_a c24_n c24_e H13 fun (r20 : Bool) (H14 : AHeap) => Br (!(r20 == r11)) (K (.bool false) H14) (∃ c25 : Int, ∃ c26 : Int, ∃ c27_a : Option Addr, ∃ c27_n : Nat, ∃ c27_e : Nat,  rdN H14 b1 0 3 = some [.int .i64 c25, .int .i64 c26, .slice c27_a c27_n c27_e] ∧ ∃ c28 : Int, ∃ c29 : Int, ∃ c30_a : Option Addr, ∃ c30_n : Nat, ∃ c30_e : Nat,  rdN H14 b3 0 3 = some [.int .i64 c28, .int .i64 c29, .slice c30_a c30_n c30_e] ∧ T_laws_toCoded c25 c26 c27_a c27_n c27_e H14 fun (r21 : Int) (r22 : Int) (a5 : Option Addr) (r23 : Nat) (r24 : Nat) (H15 : AHeap) => T_laws_eqCoded c28 c29 c30_a c30_n c30_e r21 r22 a5 r23 r24 H15 fun (r25 : Bool) (H16 : AHeap) => Br (!r25) (K (.bool false) H16) (∃ c31 : Int, ∃ c32 : Int, ∃ c33_a : Option Addr, ∃ c33_n : Nat, ∃ c33_e : Nat,  rdN H16 b2 0 3 = some [.int .i64 c31, .int .i64 c32, .slice c33_a c33_n c33_e] ∧ ∃ c34 : Int, ∃ c35 : Int, ∃ c36_a : Option Addr, ∃ c36_n : Nat, ∃ c36_e : Nat,  rdN H16 b4 0 3 = some [.int .i64 c34, .int .i64 c35, .slice c36_a c36_n c36_e] ∧ T_laws_toCoded c31 c32 c33_a c33_n c33_e H16 fun (r26 : Int) (r27 : Int) (a6 : Option Addr) (r28 : Nat) (r29 : Nat) (H17 : AHeap) => T_laws_eqCoded c34 c35 c36_a c36_n c36_e r26 r27 a6 r28 r29 H17 fun (r30 : Bool) (H18 : AHeap) => Br (!r30) (K (.bool false) H18) (K (.bool true) H18)))))) := by kernel_rfl
theorem E_laws_FnExactSameCoded_ok : ∀ g, FnOk Try.prog g (E_laws_FnExactSameCoded g) := FnOk.envOf (by
  intro x hx
  simp only [List.mem_cons, List.not_mem_nil, or_false] at hx
  rcases hx with rfl | rfl | rfl | rfl | rfl
  · exact laws_szCoded_ok
  · exact laws_toCoded_ok
  · exact spec_SameCoded_ok
  · exact impl_SameCoded_ok
  · exact laws_eqCoded_ok)
set_option maxHeartbeats 1000000 in
theorem laws_FnExactSameCoded_main (aA_Count : Int) (aA_Top : Int) (aA_Bits_a : Option Addr) (aA_Bits_n : Nat) (aA_Bits_e : Nat) (aB_Count : Int) (aB_Top : Int) (aB_Bits_a : Option Addr) (aB_Bits_n : Nat) (aB_Bits_e : Nat) (H : AHeap) (K : Value → AHeap → Prop) (h : T_laws_FnExactSameCoded aA_Count aA_Top aA_Bits_a aA_Bits_n aA_Bits_e aB_Count aB_Top aB_Bits_a aB_Bits_n aB_Bits_e H fun (r1 : Bool) (H' : AHeap) => K (.bool r1) H') : bodyK Try.prog E_laws_FnExactSameCoded Try.f7 [.agg #[.int .i64 aA_Count, .int .i64 aA_Top, .slice aA_Bits_a aA_Bits_n aA_Bits_e], .agg #[.int .i64 aB_Count, .int .i64 aB_Top, .slice aB_Bits_a aB_Bits_n aB_Bits_e]] H K := by
  rw [laws_FnExactSameCoded_vc]
  obtain ⟨l_aA_Bits, l_aB_Bits, h_0, h_1, h_2, h_3, h_4, h_5, h_6, h_7, hk⟩ := h
  have i_aA_Bits := h_2
  obtain rfl := i_aA_Bits.eqn
  have i_aB_Bits := h_6
  obtain rfl := i_aB_Bits.eqn
  have hl := laws_FnExactSameCoded_true aA_Count aA_Top l_aA_Bits aB_Count aB_Top l_aB_Bits h_0 h_1 h_4 h_5
  have e : p_laws_FnExactSameCoded aA_Count aA_Top l_aA_Bits aB_Count aB_Top l_aB_Bits = _ := rfl
  have e := e.trans (p_laws_FnExactSameCoded_eq aA_Count aA_Top l_aA_Bits aB_Count aB_Top l_aB_Bits)
  have e := hl.symm.trans e
  have g0 := Grow.refl H
  refine Al.intro (fun b_1 H_1 hb_2 hl_3 g_4 o_5 => ?_)
  have l_7 := g_4.1
  have g_8 := g0.trans g_4
  have l_9 := g_8.1
  have w_289 := o_5.lt
  refine Al.intro (fun b_10 H_2 hb_11 hl_12 g_13 o_14 => ?_)
  have l_16 := g_13.1
  have g_17 := g_8.trans g_13
  have l_18 := g_17.1
  have o_19 := o_5.grow g_13
  have w_20 := o_19.lt
  have w_288 := o_14.lt
  refine ⟨aA_Count, aA_Top, aA_Bits_a, l_aA_Bits.length, aA_Bits_e, (o_19.rdN (Nat.le_of_ble_eq_true rfl)).trans rfl, ?_⟩
  refine T_laws_szCoded_i ⟨_, (i_aA_Bits.grow g_17), fun  H_3 g_22  => ?_⟩
  have z_21 := laws_szCoded_f aA_Count aA_Top l_aA_Bits (1048576 : Int)
  have l_23 := g_22.1
  have g_24 := g_17.trans g_22
  have l_25 := g_24.1
  have o_26 := o_19.grow g_22
  have w_27 := o_26.lt
  have o_28 := o_14.grow g_22
  have w_29 := o_28.lt
  refine Br.intro (fun c_30 => ?_) (fun c_30 => ?_)
  · have e := e.trans (cond_t c_30)
    have c_30' := of_decide_eq_true c_30
    first | exact hk _ | (exfalso; cases e; done) | (rw [← e]; exact hk _)
  · have e := e.trans (cond_f c_30)
    have c_30' := of_decide_eq_false c_30
    refine ⟨aB_Count, aB_Top, aB_Bits_a, l_aB_Bits.length, aB_Bits_e, (o_28.rdN (Nat.le_of_ble_eq_true rfl)).trans rfl, ?_⟩
    refine T_laws_szCoded_i ⟨_, (i_aB_Bits.grow g_24), fun  H_4 g_32  => ?_⟩
    have z_31 := laws_szCoded_f aB_Count aB_Top l_aB_Bits ((p_laws_szCoded aA_Count aA_Top l_aA_Bits (1048576 : Int)))
    have l_33 := g_32.1
    have g_34 := g_24.trans g_32
    have l_35 := g_34.1
    have o_36 := o_26.grow g_32
    have w_37 := o_36.lt
    have o_38 := o_28.grow g_32
    have w_39 := o_38.lt
    refine Br.intro (fun c_40 => ?_) (fun c_40 => ?_)
    · have e := e.trans (cond_t c_40)
      have c_40' := of_decide_eq_true c_40
      first | exact hk _ | (exfalso; cases e; done) | (rw [← e]; exact hk _)
    · have e := e.trans (cond_f c_40)
      have c_40' := of_decide_eq_false c_40
      refine ⟨aB_Count, aB_Top, aB_Bits_a, l_aB_Bits.length, aB_Bits_e, (o_38.rdN (Nat.le_of_ble_eq_true rfl)).trans rfl, ?_⟩
      refine ⟨aA_Count, aA_Top, aA_Bits_a, l_aA_Bits.length, aA_Bits_e, (o_36.rdN (Nat.le_of_ble_eq_true rfl)).trans rfl, ?_⟩
      refine T_laws_toCoded_i ⟨_, (i_aA_Bits.grow g_34), (by first | omega | (simp only [List.length_set, List.length_replicate, List.length_append, List.length_cons, List.length_nil]; done) | (simp only [List.length_set, List.length_replicate, List.length_append, List.length_cons, List.length_nil]; omega)), fun a_41 n_42 e_43 H_5 g_45 r_44 => ?_⟩
      have l_46 := g_45.1
      have g_47 := g_34.trans g_45
      have l_48 := g_47.1
      have o_49 := o_36.grow g_45
      have w_50 := o_49.lt
      have o_51 := o_38.grow g_45
      have w_52 := o_51.lt
      obtain rfl := r_44.isL.eqn
      have u_53 := r_44.up
      have u_54 := r_44.lo
      refine T_laws_toCoded_i ⟨_, (i_aB_Bits.grow g_47), (by first | omega | (simp only [List.length_set, List.length_replicate, List.length_append, List.length_cons, List.length_nil]; done) | (simp only [List.length_set, List.length_replicate, List.length_append, List.length_cons, List.length_nil]; omega)), fun a_56 n_57 e_58 H_6 g_60 r_59 => ?_⟩
      have l_61 := g_60.1
      have g_62 := g_47.trans g_60
      have l_63 := g_62.1
      have o_64 := o_49.grow g_60
      have w_65 := o_64.lt
      have o_66 := o_51.grow g_60
      have w_67 := o_66.lt
      have r_68 := r_44.grow g_60
      obtain rfl := r_59.isL.eqn
      have u_69 := r_59.up
      have u_70 := r_59.lo
      refine T_spec_SameCoded_i ⟨_, _, r_68.isL, r_59.isL, (by first | omega | (simp only [List.length_set, List.length_replicate, List.length_append, List.length_cons, List.length_nil]; done) | (simp only [List.length_set, List.length_replicate, List.length_append, List.length_cons, List.length_nil]; omega)), (by first | omega | (simp only [List.length_set, List.length_replicate, List.length_append, List.length_cons, List.length_nil]; done) | (simp only [List.length_set, List.length_replicate, List.length_append, List.length_cons, List.length_nil]; omega)), fun  H_7 g_72  => ?_⟩
      have l_73 := g_72.1
      have g_74 := g_62.trans g_72
      have l_75 := g_74.1
      have o_76 := o_64.grow g_72
      have w_77 := o_76.lt
      have o_78 := o_66.grow g_72
      have w_79 := o_78.lt
      have r_80 := r_68.grow g_72
      have r_81 := r_59.grow g_72
      refine ⟨aA_Count, aA_Top, aA_Bits_a, l_aA_Bits.length, aA_Bits_e, (o_76.rdN (Nat.le_of_ble_eq_true rfl)).trans rfl, ?_⟩
      refine T_laws_toCoded_i ⟨_, (i_aA_Bits.grow g_74), (by first | omega | (simp only [List.length_set, List.length_replicate, List.length_append, List.length_cons, List.length_nil]; done) | (simp only [List.length_set, List.length_replicate, List.length_append, List.length_cons, List.length_nil]; omega)), fun a_82 n_83 e_84 H_8 g_86 r_85 => ?_⟩
      have l_87 := g_86.1
      have g_88 := g_74.trans g_86
      have l_89 := g_88.1
      have o_90 := o_76.grow g_86
      have w_91 := o_90.lt
      have o_92 := o_78.grow g_86
      have w_93 := o_92.lt
      have r_94 := r_80.grow g_86
      have r_95 := r_81.grow g_86
      obtain rfl := r_85.isL.eqn
      have u_96 := r_85.up
      have u_97 := r_85.lo
      refine Al.intro (fun b_99 H_9 hb_100 hl_101 g_102 o_103 => ?_)
      have l_105 := g_102.1
      have g_106 := g_88.trans g_102
      have l_107 := g_106.1
      have o_108 := o_90.grow g_102
      have w_109 := o_108.lt
      have o_110 := o_92.grow g_102
      have w_111 := o_110.lt
      have r_112 := r_94.grow g_102
      have r_113 := r_95.grow g_102
      have r_114 := r_85.grow g_102
      have w_287 := o_103.lt
      refine Lt.setN (n := 3) o_103 (Nat.le_of_ble_eq_true rfl) rfl (fun H_10 hl_115 o_117 k_116 => ?_)
      have o_117 : Own H_10 b_99 [.int .i64 aA_Count, .int .i64 aA_Top, .slice a_82 ((l_aA_Bits).length) e_84] := o_117
      have l_118 := k_116.1
      have g_119 := g_106.keep (b := b_99) (by omega) k_116
      have l_120 := g_119.1
      have o_121 := o_108.keep (by omega) k_116
      have w_122 := o_121.lt
      have o_123 := o_110.keep (by omega) k_116
      have w_124 := o_123.lt
      have r_125 := r_112.keep u_53 (by omega) k_116
      have r_126 := r_113.keep u_69 (by omega) k_116
      have r_127 := r_114.keep u_96 (by omega) k_116
      have w_286 := o_117.lt
      refine ⟨aB_Count, aB_Top, aB_Bits_a, l_aB_Bits.length, aB_Bits_e, (o_123.rdN (Nat.le_of_ble_eq_true rfl)).trans rfl, ?_⟩
      refine T_laws_toCoded_i ⟨_, (i_aB_Bits.grow g_119), (by first | omega | (simp only [List.length_set, List.length_replicate, List.length_append, List.length_cons, List.length_nil]; done) | (simp only [List.length_set, List.length_replicate, List.length_append, List.length_cons, List.length_nil]; omega)), fun a_128 n_129 e_130 H_11 g_132 r_131 => ?_⟩
      have l_133 := g_132.1
      have g_134 := g_119.trans g_132
      have l_135 := g_134.1
      have o_136 := o_121.grow g_132
      have w_137 := o_136.lt
      have o_138 := o_123.grow g_132
      have w_139 := o_138.lt
      have o_140 := o_117.grow g_132
      have w_141 := o_140.lt
      have r_142 := r_125.grow g_132
      have r_143 := r_126.grow g_132
      have r_144 := r_127.grow g_132
      obtain rfl := r_131.isL.eqn
      have u_145 := r_131.up
      have u_146 := r_131.lo
      refine Al.intro (fun b_148 H_12 hb_149 hl_150 g_151 o_152 => ?_)
      have l_154 := g_151.1
      have g_155 := g_134.trans g_151
      have l_156 := g_155.1
      have o_157 := o_136.grow g_151
      have w_158 := o_157.lt
      have o_159 := o_138.grow g_151
      have w_160 := o_159.lt
      have o_161 := o_140.grow g_151
      have w_162 := o_161.lt
      have r_163 := r_142.grow g_151
      have r_164 := r_143.grow g_151
      have r_165 := r_144.grow g_151
      have r_166 := r_131.grow g_151
      have w_285 := o_152.lt
      refine Lt.setN (n := 3) o_152 (Nat.le_of_ble_eq_true rfl) rfl (fun H_13 hl_167 o_169 k_168 => ?_)
      have o_169 : Own H_13 b_148 [.int .i64 aB_Count, .int .i64 aB_Top, .slice a_128 ((l_aB_Bits).length) e_130] := o_169
      have l_170 := k_168.1
      have g_171 := g_155.keep (b := b_148) (by omega) k_168
      have l_172 := g_171.1
      have o_173 := o_157.keep (by omega) k_168
      have w_174 := o_173.lt
      have o_175 := o_159.keep (by omega) k_168
      have w_176 := o_175.lt
      have o_177 := o_161.keep (by omega) k_168
      have w_178 := o_177.lt
      have r_179 := r_163.keep u_53 (by omega) k_168
      have r_180 := r_164.keep u_69 (by omega) k_168
      have r_181 := r_165.keep u_96 (by omega) k_168
      have r_182 := r_166.keep u_145 (by omega) k_168
      have w_284 := o_169.lt
      refine ⟨aA_Count, aA_Top, a_82, (l_aA_Bits).length, e_84, (o_177.rdN (Nat.le_of_ble_eq_true rfl)).trans rfl, ?_⟩
      refine ⟨aB_Count, aB_Top, a_128, (l_aB_Bits).length, e_130, (o_169.rdN (Nat.le_of_ble_eq_true rfl)).trans rfl, ?_⟩
      refine T_impl_SameCoded_i ⟨_, _, r_181.isL, r_182.isL, (by first | omega | (simp only [List.length_set, List.length_replicate, List.length_append, List.length_cons, List.length_nil]; done) | (simp only [List.length_set, List.length_replicate, List.length_append, List.length_cons, List.length_nil]; omega)), (by first | omega | (simp only [List.length_set, List.length_replicate, List.length_append, List.length_cons, List.length_nil]; done) | (simp only [List.length_set, List.length_replicate, List.length_append, List.length_cons, List.length_nil]; omega)), fun  H_14 g_183  => ?_⟩
      have l_184 := g_183.1
      have g_185 := g_171.trans g_183
      have l_186 := g_185.1
      have o_187 := o_173.grow g_183
      have w_188 := o_187.lt
      have o_189 := o_175.grow g_183
      have w_190 := o_189.lt
      have o_191 := o_177.grow g_183
      have w_192 := o_191.lt
      have o_193 := o_169.grow g_183
      have w_194 := o_193.lt
      have r_195 := r_179.grow g_183
      have r_196 := r_180.grow g_183
      have r_197 := r_181.grow g_183
      have r_198 := r_182.grow g_183
      refine Br.intro (fun c_199 => ?_) (fun c_199 => ?_)
      · have e := e.trans (cond_t c_199)
        have c_199n := nf_of_t c_199
        first | exact hk _ | (exfalso; cases e; done) | (rw [← e]; exact hk _)
      · have e := e.trans (cond_f c_199)
        have c_199n := nt_of_f c_199
        refine ⟨aA_Count, aA_Top, aA_Bits_a, l_aA_Bits.length, aA_Bits_e, (o_187.rdN (Nat.le_of_ble_eq_true rfl)).trans rfl, ?_⟩
        refine ⟨aA_Count, aA_Top, a_82, (l_aA_Bits).length, e_84, (o_191.rdN (Nat.le_of_ble_eq_true rfl)).trans rfl, ?_⟩
        refine T_laws_toCoded_i ⟨_, (i_aA_Bits.grow g_185), (by first | omega | (simp only [List.length_set, List.length_replicate, List.length_append, List.length_cons, List.length_nil]; done) | (simp only [List.length_set, List.length_replicate, List.length_append, List.length_cons, List.length_nil]; omega)), fun a_200 n_201 e_202 H_15 g_204 r_203 => ?_⟩
        have l_205 := g_204.1
        have g_206 := g_185.trans g_204
        have l_207 := g_206.1
        have o_208 := o_187.grow g_204
        have w_209 := o_208.lt
        have o_210 := o_189.grow g_204
        have w_211 := o_210.lt
        have o_212 := o_191.grow g_204
        have w_213 := o_212.lt
        have o_214 := o_193.grow g_204
        have w_215 := o_214.lt
        have r_216 := r_195.grow g_204
        have r_217 := r_196.grow g_204
        have r_218 := r_197.grow g_204
        have r_219 := r_198.grow g_204
        obtain rfl := r_203.isL.eqn
        have u_220 := r_203.up
        have u_221 := r_203.lo
        refine T_laws_eqCoded_i ⟨_, _, r_218.isL, r_203.isL, (by first | omega | (simp only [List.length_set, List.length_replicate, List.length_append, List.length_cons, List.length_nil]; done) | (simp only [List.length_set, List.length_replicate, List.length_append, List.length_cons, List.length_nil]; omega)), (by first | omega | (simp only [List.length_set, List.length_replicate, List.length_append, List.length_cons, List.length_nil]; done) | (simp only [List.length_set, List.length_replicate, List.length_append, List.length_cons, List.length_nil]; omega)), fun  H_16 g_223  => ?_⟩
        have l_224 := g_223.1
        have g_225 := g_206.trans g_223
        have l_226 := g_225.1
        have o_227 := o_208.grow g_223
        have w_228 := o_227.lt
        have o_229 := o_210.grow g_223
        have w_230 := o_229.lt
        have o_231 := o_212.grow g_223
        have w_232 := o_231.lt
        have o_233 := o_214.grow g_223
        have w_234 := o_233.lt
        have r_235 := r_216.grow g_223
        have r_236 := r_217.grow g_223
        have r_237 := r_218.grow g_223
        have r_238 := r_219.grow g_223
        have r_239 := r_203.grow g_223
        refine Br.intro (fun c_240 => ?_) (fun c_240 => ?_)
        · have e := e.trans (cond_t c_240)
          have c_240n := nf_of_t c_240
          first | exact hk _ | (exfalso; cases e; done) | (rw [← e]; exact hk _)
        · have e := e.trans (cond_f c_240)
          have c_240n := nt_of_f c_240
          refine ⟨aB_Count, aB_Top, aB_Bits_a, l_aB_Bits.length, aB_Bits_e, (o_229.rdN (Nat.le_of_ble_eq_true rfl)).trans rfl, ?_⟩
          refine ⟨aB_Count, aB_Top, a_128, (l_aB_Bits).length, e_130, (o_233.rdN (Nat.le_of_ble_eq_true rfl)).trans rfl, ?_⟩
          refine T_laws_toCoded_i ⟨_, (i_aB_Bits.grow g_225), (by first | omega | (simp only [List.length_set, List.length_replicate, List.length_append, List.length_cons, List.length_nil]; done) | (simp only [List.length_set, List.length_replicate, List.length_append, List.length_cons, List.length_nil]; omega)), fun a_241 n_242 e_243 H_17 g_245 r_244 => ?_⟩
          have l_246 := g_245.1
          have g_247 := g_225.trans g_245
          have l_248 := g_247.1
          have o_249 := o_227.grow g_245
          have w_250 := o_249.lt
          have o_251 := o_229.grow g_245
          have w_252 := o_251.lt
          have o_253 := o_231.grow g_245
          have w_254 := o_253.lt
          have o_255 := o_233.grow g_245
          have w_256 := o_255.lt
          have r_257 := r_235.grow g_245
          have r_258 := r_236.grow g_245
          have r_259 := r_237.grow g_245
          have r_260 := r_238.grow g_245
          have r_261 := r_239.grow g_245
          obtain rfl := r_244.isL.eqn
          have u_262 := r_244.up
          have u_263 := r_244.lo
          refine T_laws_eqCoded_i ⟨_, _, r_260.isL, r_244.isL, (by first | omega | (simp only [List.length_set, List.length_replicate, List.length_append, List.length_cons, List.length_nil]; done) | (simp only [List.length_set, List.length_replicate, List.length_append, List.length_cons, List.length_nil]; omega)), (by first | omega | (simp only [List.length_set, List.length_replicate, List.length_append, List.length_cons, List.length_nil]; done) | (simp only [List.length_set, List.length_replicate, List.length_append, List.length_cons, List.length_nil]; omega)), fun  H_18 g_265  => ?_⟩
          have l_266 := g_265.1
          have g_267 := g_247.trans g_265
          have l_268 := g_267.1
          have o_269 := o_249.grow g_265
          have w_270 := o_269.lt
          have o_271 := o_251.grow g_265
          have w_272 := o_271.lt
          have o_273 := o_253.grow g_265
          have w_274 := o_273.lt
          have o_275 := o_255.grow g_265
          have w_276 := o_275.lt
          have r_277 := r_257.grow g_265
          have r_278 := r_258.grow g_265
          have r_279 := r_259.grow g_265
          have r_280 := r_260.grow g_265
          have r_281 := r_261.grow g_265
          have r_282 := r_244.grow g_265
          refine Br.intro (fun c_283 => ?_) (fun c_283 => ?_)
          · have e := e.trans (cond_t c_283)
            have c_283n := nf_of_t c_283
            first | exact hk _ | (exfalso; cases e; done) | (rw [← e]; exact hk _)
          · have e := e.trans (cond_f c_283)
            have c_283n := nt_of_f c_283
            first | exact hk _ | (exfalso; cases e; done) | (rw [← e]; exact hk _)
theorem laws_FnExactSameCoded_ok : FnOk Try.prog 7 S_laws_FnExactSameCoded := by
  refine FnOk.body mix_ok E_laws_FnExactSameCoded_ok Try.func7 rfl (by kernel_rfl) (by kernel_rfl) ?_ ?_ ?_ ?_ ?_
  · intro args H K K' h hk
    simp only [S_laws_FnExactSameCoded] at *
    unfold F_laws_FnExactSameCoded at *
    split at hk
    · obtain ⟨l_aA_Bits, l_aB_Bits, h_0, h_1, h_2, h_3, h_4, h_5, h_6, h_7, k⟩ := hk
      exact ⟨l_aA_Bits, l_aB_Bits, h_0, h_1, h_2, h_3, h_4, h_5, h_6, h_7, (fun H' => h _ _ (k H'))⟩
    · exact hk.elim
  · intro hq; cases hq
  · intro args H K hk
    simp only [S_laws_FnExactSameCoded] at *
    unfold F_laws_FnExactSameCoded at *
    split at hk
    · obtain ⟨l_aA_Bits, l_aB_Bits, h_0, h_1, h_2, h_3, h_4, h_5, h_6, h_7, k⟩ := hk
      exact ⟨_, _, k []⟩
    · exact hk.elim
  · intro hq; cases hq
  · have mm := @laws_FnExactSameCoded_main
    revert mm
    generalize bodyK Try.prog E_laws_FnExactSameCoded Try.f7 = Q
    intro mm args H K hk
    simp only [S_laws_FnExactSameCoded] at *
    unfold F_laws_FnExactSameCoded at *
    split at hk
    · exact mm _ _ _ _ _ _ _ _ _ _ H K hk
    · exact hk.elim
end Go.Proofs.Ytfofkmlohmodeaa.Ai
