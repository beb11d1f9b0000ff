/- What functions of the program come to on the abstract machine, and that they do so; printed by a program of mine around proofs of mine. -/
import Derived.Test.YtfofkmlohmodeaaProg
import Derived.Test.YtfofkmlohmodeaaLibA
import Derived.Test.YtfofkmlohmodeaaOpen
import Derived.Test.YtfofkmlohmodeaaLibB
import Derived.Test.YtfofkmlohmodeaaFl
set_option linter.unusedVariables false
set_option linter.unusedSimpArgs false
set_option maxRecDepth 100000
namespace Go.Proofs.Ytfofkmlohmodeaa.Ai
open Go
attribute [local irreducible] bodyK
theorem mix_ok : Try.prog.follows .mixedOrders = true := by kernel_rfl
def p_laws_szBoolS (l_a : List Bool) (left : Int) : Int := (bif decide ((IntKind.wrap .i64 (left - (l_a.length : Int)) : Int) < 0) then ((-1) : Int) else IntKind.wrap .i64 (left - (l_a.length : Int)))
theorem p_laws_szBoolS_eq (l_a : List Bool) (left : Int) : p_laws_szBoolS l_a left = (bif decide ((IntKind.wrap .i64 (left - (l_a.length : Int)) : Int) < 0) then ((-1) : Int) else IntKind.wrap .i64 (left - (l_a.length : Int))) := rfl
def T_laws_szBoolS (a_a : Option Addr) (a_n : Nat) (a_e : Nat) (left : Int) (H : AHeap) (K : Int → AHeap → Prop) : Prop := ∃ (l_a : List Bool), IsL fB H a_a a_n l_a ∧ K (p_laws_szBoolS l_a left) H
theorem T_laws_szBoolS_i {a_a : Option Addr} {a_n : Nat} {a_e : Nat} {left : Int} {H : AHeap} {K : Int → AHeap → Prop} (h : ∃ (l_a : List Bool), IsL fB H a_a a_n l_a ∧ K (p_laws_szBoolS l_a left) H) : T_laws_szBoolS a_a a_n a_e left H K := h
theorem laws_szBoolS_f (l : List Bool) (left : Int) : 0 ≤ left → left ≤ 1048576 → l.length ≤ 9223372036854775807 → p_laws_szBoolS l left < 0 ∨ (l.length : Int) ≤ left ∧ p_laws_szBoolS l left = left - l.length := by
  intro h0 h1 h2
  rw [p_laws_szBoolS_eq, wrap64 (by omega) (by omega)]
  by_cases h : left - (l.length : Int) < 0
  · rw [decide_eq_true h, cond_true]; left; decide
  · rw [decide_eq_false h, cond_false]; right; omega
/-! laws_szBoolS: function 58 -/
def E_laws_szBoolS : Env := envOf []
def F_laws_szBoolS : List Value → AHeap → (Value → AHeap → Prop) → Prop
  | [.slice a_a a_n a_e, .int .i64 left], H, K => T_laws_szBoolS a_a a_n a_e left H fun (r1 : Int) (H' : AHeap) => K (.int .i64 r1) H'
  | _, _, _ => False
def S_laws_szBoolS : FSpec := { F := F_laws_szBoolS, quiet := true, tame := false }
theorem laws_szBoolS_vc (a_a : Option Addr) (a_n : Nat) (a_e : Nat) (left : Int) (H : AHeap) (K : Value → AHeap → Prop) : bodyK Try.prog E_laws_szBoolS Try.f58 [.slice a_a a_n a_e, .int .i64 left] H K =
  (Br (decide ((IntKind.wrap .i64 (left - (a_n : Int)) : Int) < 0)) (K (.int .i64 (-1)) H) (K (.int .i64 (IntKind.wrap .i64 (left - (a_n : Int)))) H)) := by kernel_rfl
theorem E_laws_szBoolS_ok : ∀ g, FnOk Try.prog g (E_laws_szBoolS g) := FnOk.envOf (by
  intro x hx; cases hx)
set_option maxHeartbeats 1000000 in
theorem laws_szBoolS_main (a_a : Option Addr) (a_n : Nat) (a_e : Nat) (left : Int) (H : AHeap) (K : Value → AHeap → Prop) (h : T_laws_szBoolS a_a a_n a_e left H fun (r1 : Int) (H' : AHeap) => K (.int .i64 r1) H') : bodyK Try.prog E_laws_szBoolS Try.f58 [.slice a_a a_n a_e, .int .i64 left] H K := by
  rw [laws_szBoolS_vc]
  obtain ⟨l_a, i_a, hk⟩ := h
  obtain rfl := i_a.eqn
  have e : (p_laws_szBoolS l_a left) = _ := rfl
  have e := e.trans (p_laws_szBoolS_eq l_a left)
  have g0 := Grow.refl H
  refine Br.intro (fun c_1 => ?_) (fun c_1 => ?_)
  · have e := e.trans (cond_t c_1)
    have c_1' := of_decide_eq_true c_1
    rw [e] at hk
    exact hk
  · have e := e.trans (cond_f c_1)
    have c_1' := of_decide_eq_false c_1
    rw [e] at hk
    exact hk
theorem laws_szBoolS_ok : FnOk Try.prog 58 S_laws_szBoolS := by
  refine FnOk.body mix_ok E_laws_szBoolS_ok Try.func58 rfl (by kernel_rfl) (by kernel_rfl) ?_ ?_ ?_ ?_ ?_
  · intro args H K K' h hk
    simp only [S_laws_szBoolS] at *
    unfold F_laws_szBoolS at *
    split at hk
    · obtain ⟨l_a, i_a, k⟩ := hk
      exact ⟨l_a, i_a, h _ _ k⟩
    · exact hk.elim
  · intro _ args H K hk
    simp only [S_laws_szBoolS] at *
    unfold F_laws_szBoolS at *
    split at hk
    · obtain ⟨l_a, i_a, k⟩ := hk
      exact ⟨_, k, fun K' k' => ⟨l_a, i_a, k'⟩⟩
    · exact hk.elim
  · intro args H K hk
    simp only [S_laws_szBoolS] at *
    unfold F_laws_szBoolS at *
    split at hk
    · obtain ⟨l_a, i_a, k⟩ := hk
      exact ⟨_, _, k⟩
    · exact hk.elim
  · intro hq; cases hq
  · have mm := @laws_szBoolS_main
    revert mm
    generalize bodyK Try.prog E_laws_szBoolS Try.f58 = Q
    intro mm args H K hk
    simp only [S_laws_szBoolS] at *
    unfold F_laws_szBoolS at *
    split at hk
    · exact mm _ _ _ _ H K hk
    · exact hk.elim
def p_laws_szCoded (a_Count : Int) (a_Top : Int) (l_a_Bits : List Bool) (left : Int) : Int := (bif decide (((p_laws_szBoolS l_a_Bits left) : Int) < 0) then ((-1) : Int) else (p_laws_szBoolS l_a_Bits left))
theorem p_laws_szCoded_eq (a_Count : Int) (a_Top : Int) (l_a_Bits : List Bool) (left : Int) : p_laws_szCoded a_Count a_Top l_a_Bits left = (bif decide (((p_laws_szBoolS l_a_Bits left) : Int) < 0) then ((-1) : Int) else (p_laws_szBoolS l_a_Bits left)) := rfl
def T_laws_szCoded (a_Count : Int) (a_Top : Int) (a_Bits_a : Option Addr) (a_Bits_n : Nat) (a_Bits_e : Nat) (left : Int) (H : AHeap) (K : Int → AHeap → Prop) : Prop := ∃ (l_a_Bits : List Bool), IsL fB H a_Bits_a a_Bits_n l_a_Bits ∧ ((∀ H' : AHeap, Grow H H' → K (p_laws_szCoded a_Count a_Top l_a_Bits left) H'))
theorem T_laws_szCoded_i {a_Count : Int} {a_Top : Int} {a_Bits_a : Option Addr} {a_Bits_n : Nat} {a_Bits_e : Nat} {left : Int} {H : AHeap} {K : Int → AHeap → Prop} (h : ∃ (l_a_Bits : List Bool), IsL fB H a_Bits_a a_Bits_n l_a_Bits ∧ ((∀ H' : AHeap, Grow H H' → K (p_laws_szCoded a_Count a_Top l_a_Bits left) H'))) : T_laws_szCoded a_Count a_Top a_Bits_a a_Bits_n a_Bits_e left H K := h
theorem laws_szCoded_f (a b : Int) (l : List Bool) (left : Int) : 0 ≤ left → left ≤ 1048576 → l.length ≤ 9223372036854775807 → p_laws_szCoded a b l left < 0 ∨ (l.length : Int) ≤ left ∧ p_laws_szCoded a b l left = left - l.length := by
  intro h0 h1 h2
  have := laws_szBoolS_f l left h0 h1 h2
  rw [p_laws_szCoded_eq]
  by_cases h : p_laws_szBoolS l left < 0
  · rw [decide_eq_true h, cond_true]; left; decide
  · rw [decide_eq_false h, cond_false]; right; omega
/-! laws_szCoded: function 23 -/
def E_laws_szCoded : Env := envOf [(58, S_laws_szBoolS)]
def F_laws_szCoded : List Value → AHeap → (Value → AHeap → Prop) → Prop
  | [.agg ⟨[.int .i64 a_Count, .int .i64 a_Top, .slice a_Bits_a a_Bits_n a_Bits_e]⟩, .int .i64 left], H, K => T_laws_szCoded a_Count a_Top a_Bits_a a_Bits_n a_Bits_e left H fun (r1 : Int) (H' : AHeap) => K (.int .i64 r1) H'
  | _, _, _ => False
def S_laws_szCoded : FSpec := { F := F_laws_szCoded, quiet := false, tame := true }
theorem laws_szCoded_vc (a_Count : Int) (a_Top : Int) (a_Bits_a : Option Addr) (a_Bits_n : Nat) (a_Bits_e : Nat) (left : Int) (H : AHeap) (K : Value → AHeap → Prop) : bodyK Try.prog E_laws_szCoded Try.f23 [.agg #[.int .i64 a_Count, .int .i64 a_Top, .slice a_Bits_a a_Bits_n a_Bits_e], .int .i64 left] H K =
  (Al [.int .i64 a_Count, .int .i64 a_Top, .slice a_Bits_a a_Bits_n a_Bits_e] H fun b1 H1 => ∃ x1_a : Option Addr, ∃ x1_n : Nat, ∃ x1_e : Nat,  rdC H1 b1 2 = some (.slice x1_a x1_n x1_e) ∧ T_laws_szBoolS x1_a x1_n x1_e left H1 fun (r1 : Int) (H2 : AHeap) => Br (decide ((r1 : Int) < 0)) (K (.int .i64 (-1)) H2) (K (.int .i64 r1) H2)) := by kernel_rfl
theorem E_laws_szCoded_ok : ∀ g, FnOk Try.prog g (E_laws_szCoded g) := FnOk.envOf (by
  intro x hx
  simp only [List.mem_cons, List.not_mem_nil, or_false] at hx
  subst hx; exact laws_szBoolS_ok)
set_option maxHeartbeats 1000000 in
theorem laws_szCoded_main (a_Count : Int) (a_Top : Int) (a_Bits_a : Option Addr) (a_Bits_n : Nat) (a_Bits_e : Nat) (left : Int) (H : AHeap) (K : Value → AHeap → Prop) (h : T_laws_szCoded a_Count a_Top a_Bits_a a_Bits_n a_Bits_e left H fun (r1 : Int) (H' : AHeap) => K (.int .i64 r1) H') : bodyK Try.prog E_laws_szCoded Try.f23 [.agg #[.int .i64 a_Count, .int .i64 a_Top, .slice a_Bits_a a_Bits_n a_Bits_e], .int .i64 left] H K := by
  rw [laws_szCoded_vc]
  obtain ⟨l_a_Bits, i_a_Bits, hk⟩ := h
  obtain rfl := i_a_Bits.eqn
  have e : (p_laws_szCoded a_Count a_Top l_a_Bits left) = _ := rfl
  have e := e.trans (p_laws_szCoded_eq a_Count a_Top l_a_Bits left)
  have g0 := Grow.refl H
  refine Al.intro (fun b_1 H_1 hb_2 hl_3 g_4 o_5 => ?_)
  have l_7 := g_4.1
  have g_8 := g0.trans g_4
  have l_9 := g_8.1
  have w_12 := o_5.lt
  refine ⟨a_Bits_a, l_a_Bits.length, a_Bits_e, (o_5.rdC _).trans rfl, ?_⟩
  refine T_laws_szBoolS_i ⟨_, (i_a_Bits.grow g_8), ?_⟩
  have z_10 := laws_szBoolS_f l_a_Bits left
  refine Br.intro (fun c_11 => ?_) (fun c_11 => ?_)
  · have e := e.trans (cond_t c_11)
    have c_11' := of_decide_eq_true c_11
    rw [e] at hk
    exact hk  H_1 g_8 
  · have e := e.trans (cond_f c_11)
    have c_11' := of_decide_eq_false c_11
    rw [e] at hk
    exact hk  H_1 g_8 
theorem laws_szCoded_ok : FnOk Try.prog 23 S_laws_szCoded := by
  refine FnOk.body mix_ok E_laws_szCoded_ok Try.func23 rfl (by kernel_rfl) (by kernel_rfl) ?_ ?_ ?_ ?_ ?_
  · intro args H K K' h hk
    simp only [S_laws_szCoded] at *
    unfold F_laws_szCoded at *
    split at hk
    · obtain ⟨l_a_Bits, i_a_Bits, k⟩ := hk
      exact ⟨l_a_Bits, i_a_Bits, (fun  H' gg  => h _ _ (k  H' gg ))⟩
    · exact hk.elim
  · intro hq; cases hq
  · intro args H K hk
    simp only [S_laws_szCoded] at *
    unfold F_laws_szCoded at *
    split at hk
    · obtain ⟨l_a_Bits, i_a_Bits, k⟩ := hk
      exact ⟨_, _, k H (Grow.refl H)⟩
    · exact hk.elim
  · intro _ args H K hk
    simp only [S_laws_szCoded] at *
    unfold F_laws_szCoded at *
    split at hk
    · obtain ⟨l_a_Bits, i_a_Bits, k⟩ := hk
      exact ⟨l_a_Bits, i_a_Bits, (fun  H' gg  => ⟨gg, k  H' gg ⟩)⟩
    · exact hk.elim
  · have mm := @laws_szCoded_main
    revert mm
    generalize bodyK Try.prog E_laws_szCoded Try.f23 = Q
    intro mm args H K hk
    simp only [S_laws_szCoded] at *
    unfold F_laws_szCoded at *
    split at hk
    · exact mm _ _ _ _ _ _ H K hk
    · exact hk.elim
def p_laws_toBoolS_l1 (l_a : List Bool) : Nat → Int → (List Bool) → (List Bool)
  | 0, _, _ => []
  | μ + 1, i, y1_1 => (bif decide ((i : Int) < (l_a.length : Int)) then (p_laws_toBoolS_l1 l_a μ (i + 1) (((y1_1).set (i : Int).toNat ((((l_a).getD (i : Int).toNat false)))))) else y1_1)
theorem p_laws_toBoolS_l1_s (l_a : List Bool) (μ : Nat) (i : Int) (y1_1 : List Bool) : p_laws_toBoolS_l1 l_a (μ + 1) i y1_1 = (bif decide ((i : Int) < (l_a.length : Int)) then (p_laws_toBoolS_l1 l_a μ (i + 1) (((y1_1).set (i : Int).toNat ((((l_a).getD (i : Int).toNat false)))))) else y1_1) := rfl
def p_laws_toBoolS (l_a : List Bool) : (List Bool) := (p_laws_toBoolS_l1 l_a (Int.toNat ((l_a.length : Int) - (0 : Int)) + 1) (0 : Int) (List.replicate (((l_a.length : Int)).toNat) false))
theorem p_laws_toBoolS_eq (l_a : List Bool) : p_laws_toBoolS l_a = (p_laws_toBoolS_l1 l_a (Int.toNat ((l_a.length : Int) - (0 : Int)) + 1) (0 : Int) (List.replicate (((l_a.length : Int)).toNat) false)) := rfl
def T_laws_toBoolS (a_a : Option Addr) (a_n : Nat) (a_e : Nat) (H : AHeap) (K : (Option Addr) → Nat → Nat → AHeap → Prop) : Prop := ∃ (l_a : List Bool), IsL fB H a_a a_n l_a ∧ l_a.length < 1073741824 ∧ ((∀ (r1_a : Option Addr) (r1_n r1_e : Nat), ∀ H' : AHeap, Grow H H' → OwnS fB H' H.length r1_a r1_n r1_e l_a → K r1_a r1_n r1_e H'))
theorem T_laws_toBoolS_i {a_a : Option Addr} {a_n : Nat} {a_e : Nat} {H : AHeap} {K : (Option Addr) → Nat → Nat → AHeap → Prop} (h : ∃ (l_a : List Bool), IsL fB H a_a a_n l_a ∧ l_a.length < 1073741824 ∧ ((∀ (r1_a : Option Addr) (r1_n r1_e : Nat), ∀ H' : AHeap, Grow H H' → OwnS fB H' H.length r1_a r1_n r1_e l_a → K r1_a r1_n r1_e H'))) : T_laws_toBoolS a_a a_n a_e H K := h
theorem laws_toBoolS_go (l : List Bool) : ∀ (μ : Nat) (i : Nat) (ys : List Bool), ys.length = l.length → i ≤ l.length → l.length - i < μ →
    p_laws_toBoolS_l1 l μ (i : Int) (l.take i ++ ys.drop i) = l := by
  intro μ
  induction μ with
  | zero => intro i ys _ _ h; omega
  | succ μ ih =>
    intro i ys hy hi hm
    rw [p_laws_toBoolS_l1_s]
    by_cases h : i < l.length
    · rw [decide_eq_true (show (i : Int) < (l.length : Int) by omega), cond_true]
      have hx : l[i]? = some (l.getD i false) := by rw [List.getD_eq_getElem?_getD, List.getElem?_eq_getElem h]; rfl
      rw [Int.toNat_natCast, set_front l ys i (by omega) hy.symm _ hx]
      exact ih (i + 1) ys hy (by omega) (by omega)
    · rw [decide_eq_false (show ¬ (i : Int) < (l.length : Int) by omega), cond_false]
      rw [List.take_of_length_le (by omega), List.drop_eq_nil_of_le (by omega), List.append_nil]
theorem laws_toBoolS_id (l : List Bool) : p_laws_toBoolS l = l := by
  rw [p_laws_toBoolS_eq]
  have := laws_toBoolS_go l (Int.toNat ((l.length : Int) - 0) + 1) 0 (List.replicate ((l.length : Int)).toNat false) (by simp) (by omega) (by omega)
  simpa using this
/-! laws_toBoolS: function 20 -/
def E_laws_toBoolS : Env := envOf []
def F_laws_toBoolS : List Value → AHeap → (Value → AHeap → Prop) → Prop
  | [.slice a_a a_n a_e], H, K => T_laws_toBoolS a_a a_n a_e H fun (r1_a : Option Addr) (r1_n : Nat) (r1_e : Nat) (H' : AHeap) => K (.slice r1_a r1_n r1_e) H'
  | _, _, _ => False
def S_laws_toBoolS : FSpec := { F := F_laws_toBoolS, quiet := false, tame := true }
theorem laws_toBoolS_vc (a_a : Option Addr) (a_n : Nat) (a_e : Nat) (H : AHeap) (K : Value → AHeap → Prop) : bodyK Try.prog E_laws_toBoolS Try.f20 [.slice a_a a_n a_e] H K =
  ((0 : Int) ≤ (a_n : Int) ∧ (a_n : Int) = (a_n : Int) ∧ (a_n : Int) < (most : Int) ∧ Al (zerosOf (.bool false) ((a_n : Int)).toNat) H fun b1 H1 => loopK (exK Try.prog E_laws_toBoolS (cl (cl (cr (cl (cr (cr (bodyC Try.f20)))))))) [.slice a_a a_n a_e, undef, .slice none 0 0, .slice (some ⟨b1, 0, none⟩) (((a_n : Int)).toNat) 1, .int .i64 0, .slice a_a a_n a_e, .int .i64 (a_n : Int), .slice (some ⟨b1, 0, none⟩) (((a_n : Int)).toNat) 1, undef, undef, undef, undef, undef, undef, undef, undef, undef, undef, undef, undef, undef, undef] H1 (blockQ 0 (seqQ (exK Try.prog E_laws_toBoolS (cr (cr (cr (bodyC Try.f20))))) (retK Try.prog Try.f20 K)))) := by kernel_rfl
theorem laws_toBoolS_r1 (a_a : Option Addr) (a_e : Nat) (a_n : Nat) (b1 : Nat) (i : Int) (g8 g9 g10 g11 g12 g13 g14 g15 g16 g17 g18 g19 g20 : Value) (H : AHeap) (R : Post) : exK Try.prog E_laws_toBoolS (cl (cl (cr (cl (cr (cr (bodyC Try.f20))))))) [.slice a_a a_n a_e, undef, .slice none 0 0, .slice (some ⟨b1, 0, none⟩) (((a_n : Int)).toNat) 1, .int .i64 i, .slice a_a a_n a_e, .int .i64 (a_n : Int), .slice (some ⟨b1, 0, none⟩) (((a_n : Int)).toNat) 1, g8, g9, g10, g11, g12, g13, g14, g15, g16, g17, g18, g19, g20, undef] H R =
  (Br (decide ((i : Int) < (a_n : Int))) ((0 : Int) ≤ i ∧ i < (a_n : Int) ∧ ∃ b2 f1, (a_a : Option Addr) = some ⟨b2, f1, none⟩ ∧ ∃ x1 : Bool,  rdC H b2 (f1 + (i : Int).toNat * 1) = some (.bool x1) ∧ (0 : Int) ≤ i ∧ i < (((a_n : Int)).toNat : Int) ∧ ∃ b3 f2, (some ⟨b1, 0, none⟩ : Option Addr) = some ⟨b3, f2, none⟩ ∧ isOwn H b3 ∧ (∃ l, rdN H b3 (f2 + (i : Int).toNat * 1) 1 = some l) ∧ Lt (setC H b3 (f2 + (i : Int).toNat * 1) (.bool x1)) fun H2 => R .normal [.slice a_a a_n a_e, undef, .slice none 0 0, .slice (some ⟨b1, 0, none⟩) (((a_n : Int)).toNat) 1, .int .i64 (IntKind.wrap .i64 (i + 1)), .slice a_a a_n a_e, .int .i64 (a_n : Int), .slice (some ⟨b1, 0, none⟩) (((a_n : Int)).toNat) 1, .int .i64 i, .slice a_a a_n a_e, .int .i64 (a_n : Int), .bool (decide ((i : Int) < (a_n : Int))), .int .i64 i, .int .i64 (IntKind.wrap .i64 (i + 1)), .slice (some ⟨b1, 0, none⟩) (((a_n : Int)).toNat) 1, .int .i64 i, .slice a_a a_n a_e, .int .i64 i, .pointer (some ⟨b2, f1 + (i : Int).toNat * 1, none⟩), .bool x1, .pointer (some ⟨b3, f2 + (i : Int).toNat * 1, none⟩), undef] H2) (R (.exit 0) [.slice a_a a_n a_e, undef, .slice none 0 0, .slice (some ⟨b1, 0, none⟩) (((a_n : Int)).toNat) 1, .int .i64 i, .slice a_a a_n a_e, .int .i64 (a_n : Int), .slice (some ⟨b1, 0, none⟩) (((a_n : Int)).toNat) 1, .int .i64 i, .slice a_a a_n a_e, .int .i64 (a_n : Int), .bool (decide ((i : Int) < (a_n : Int))), g12, g13, g14, g15, g16, g17, g18, g19, g20, undef] H)) := by kernel_rfl
def laws_toBoolS_I1 (a_a : Option Addr) (a_e : Nat) (a_n : Nat) (b1 : Nat) (Inv : Nat → Int → AHeap → Prop) : Nat → List Value → AHeap → Prop := fun μ tm H => ∃ (i : Int), ∃ g8 g9 g10 g11 g12 g13 g14 g15 g16 g17 g18 g19 g20, tm = [.slice a_a a_n a_e, undef, .slice none 0 0, .slice (some ⟨b1, 0, none⟩) (((a_n : Int)).toNat) 1, .int .i64 i, .slice a_a a_n a_e, .int .i64 (a_n : Int), .slice (some ⟨b1, 0, none⟩) (((a_n : Int)).toNat) 1, g8, g9, g10, g11, g12, g13, g14, g15, g16, g17, g18, g19, g20, undef] ∧ Inv μ i H
theorem laws_toBoolS_L1 (a_a : Option Addr) (a_e : Nat) (a_n : Nat) (b1 : Nat) {Q : Post} (Inv : Nat → Int → AHeap → Prop) (ν : Nat) (i : Int) (g8 g9 g10 g11 g12 g13 g14 g15 g16 g17 g18 g19 g20 : Value) (H : AHeap) (h0 : Inv ν i H)
    (hs : ∀ (μ : Nat) (i : Int) (g8 g9 g10 g11 g12 g13 g14 g15 g16 g17 g18 g19 g20 : Value) (H : AHeap), Inv μ i H → exK Try.prog E_laws_toBoolS (cl (cl (cr (cl (cr (cr (bodyC Try.f20))))))) [.slice a_a a_n a_e, undef, .slice none 0 0, .slice (some ⟨b1, 0, none⟩) (((a_n : Int)).toNat) 1, .int .i64 i, .slice a_a a_n a_e, .int .i64 (a_n : Int), .slice (some ⟨b1, 0, none⟩) (((a_n : Int)).toNat) 1, g8, g9, g10, g11, g12, g13, g14, g15, g16, g17, g18, g19, g20, undef] H (loopQ (laws_toBoolS_I1 a_a a_e a_n b1 Inv) μ Q)) : loopK (exK Try.prog E_laws_toBoolS (cl (cl (cr (cl (cr (cr (bodyC Try.f20)))))))) [.slice a_a a_n a_e, undef, .slice none 0 0, .slice (some ⟨b1, 0, none⟩) (((a_n : Int)).toNat) 1, .int .i64 i, .slice a_a a_n a_e, .int .i64 (a_n : Int), .slice (some ⟨b1, 0, none⟩) (((a_n : Int)).toNat) 1, g8, g9, g10, g11, g12, g13, g14, g15, g16, g17, g18, g19, g20, undef] H Q :=
  ⟨laws_toBoolS_I1 a_a a_e a_n b1 Inv, ν, ⟨i, g8, g9, g10, g11, g12, g13, g14, g15, g16, g17, g18, g19, g20, rfl, h0⟩, fun μ tm H h => by obtain ⟨i, g8, g9, g10, g11, g12, g13, g14, g15, g16, g17, g18, g19, g20, rfl, hI⟩ := h; exact hs μ i g8 g9 g10 g11 g12 g13 g14 g15 g16 g17 g18 g19 g20 H hI⟩
theorem laws_toBoolS_n1 {a_a : Option Addr} {a_e : Nat} {a_n : Nat} {b1 : Nat} {Q : Post} {Inv : Nat → Int → AHeap → Prop} {μ : Nat} (μ' : Nat) {i : Int} {g8 g9 g10 g11 g12 g13 g14 g15 g16 g17 g18 g19 g20 : Value} {H : AHeap} (hm : μ' < μ) (hI : Inv μ' i H) : loopQ (laws_toBoolS_I1 a_a a_e a_n b1 Inv) μ Q .normal [.slice a_a a_n a_e, undef, .slice none 0 0, .slice (some ⟨b1, 0, none⟩) (((a_n : Int)).toNat) 1, .int .i64 i, .slice a_a a_n a_e, .int .i64 (a_n : Int), .slice (some ⟨b1, 0, none⟩) (((a_n : Int)).toNat) 1, g8, g9, g10, g11, g12, g13, g14, g15, g16, g17, g18, g19, g20, undef] H := ⟨μ', hm, i, g8, g9, g10, g11, g12, g13, g14, g15, g16, g17, g18, g19, g20, rfl, hI⟩
theorem laws_toBoolS_x1_0 (a_a : Option Addr) (a_e : Nat) (a_n : Nat) (b1 : Nat) (i : Int) (g8 g9 g10 g11 g12 g13 g14 g15 g16 g17 g18 g19 g20 : Value) (H : AHeap) (K : Value → AHeap → Prop)  {I : Nat → List Value → AHeap → Prop} {μ : Nat} : loopQ I μ (blockQ 0 (seqQ (exK Try.prog E_laws_toBoolS (cr (cr (cr (bodyC Try.f20))))) (retK Try.prog Try.f20 K))) (.exit 0) [.slice a_a a_n a_e, undef, .slice none 0 0, .slice (some ⟨b1, 0, none⟩) (((a_n : Int)).toNat) 1, .int .i64 i, .slice a_a a_n a_e, .int .i64 (a_n : Int), .slice (some ⟨b1, 0, none⟩) (((a_n : Int)).toNat) 1, g8, g9, g10, g11, g12, g13, g14, g15, g16, g17, g18, g19, g20, undef] H =
  (K (.slice (some ⟨b1, 0, none⟩) (((a_n : Int)).toNat) 1) H) := by kernel_rfl
theorem E_laws_toBoolS_ok : ∀ g, FnOk Try.prog g (E_laws_toBoolS g) := FnOk.envOf (by
  intro x hx; cases hx)
set_option maxHeartbeats 1000000 in
theorem laws_toBoolS_main (a_a : Option Addr) (a_n : Nat) (a_e : Nat) (H : AHeap) (K : Value → AHeap → Prop) (h : T_laws_toBoolS a_a a_n a_e H fun (r1_a : Option Addr) (r1_n : Nat) (r1_e : Nat) (H' : AHeap) => K (.slice r1_a r1_n r1_e) H') : bodyK Try.prog E_laws_toBoolS Try.f20 [.slice a_a a_n a_e] H K := by
  rw [laws_toBoolS_vc]
  obtain ⟨l_a, i_a, bd_29, hk⟩ := h
  have hk : (∀ (r1_a : Option Addr) (r1_n r1_e : Nat), ∀ H' : AHeap, Grow H H' → OwnS fB H' H.length r1_a r1_n r1_e (p_laws_toBoolS l_a) → (fun (r1_a : Option Addr) (r1_n : Nat) (r1_e : Nat) (H' : AHeap) => K (.slice r1_a r1_n r1_e) H') r1_a r1_n r1_e H') := by rw [laws_toBoolS_id l_a]; exact hk
  obtain rfl := i_a.eqn
  have e : (p_laws_toBoolS l_a) = _ := rfl
  have e := e.trans (p_laws_toBoolS_eq l_a)
  have g0 := Grow.refl H
  refine ⟨by omega, rfl, (by have := most_eq; omega), ?_⟩
  refine Al.intro (fun b_1 H_1 hb_2 hl_3 g_4 o_5 => ?_)
  rw [zeros_map fB false _ rfl] at o_5
  have l_7 := g_4.1
  have g_8 := g0.trans g_4
  have l_9 := g_8.1
  have w_28 := o_5.lt
  refine laws_toBoolS_L1 _ _ _ _ (fun (μ : Nat) (i : Int) (H_2 : AHeap) => ∃ (y1_1 : List Bool), Own H_2 b_1 (y1_1.map fB) ∧ y1_1.length = ((l_a.length : Int)).toNat ∧ Grow H H_2 ∧ (0 : Int) ≤ i ∧ i ≤ (l_a.length : Int) ∧ (l_a.length : Int) - i ≤ (μ : Int) ∧ p_laws_toBoolS l_a = p_laws_toBoolS_l1 l_a (μ + 1) i y1_1) (Int.toNat ((l_a.length : Int) - (0 : Int))) _ _ _ _ _ _ _ _ _ _ _ _ _ _ H_1 ?_ ?_
  · exact ⟨_, o_5, (by first | rfl | (simp; done)), g_8, (by first | omega | (simp; done) | (simp; omega)), (by first | omega | (simp; done) | (simp; omega)), (by omega), e⟩
  · intro μ i g8 g9 g10 g11 g12 g13 g14 g15 g16 g17 g18 g19 g20 H_2 hI
    obtain ⟨y1_1, o_10, y_11, g_12, v_13, v_14, hμ, e⟩ := hI
    rw [laws_toBoolS_r1]
    have e := e.trans (p_laws_toBoolS_l1_s l_a μ i y1_1)
    have w_15 := o_10.lt
    have l_16 := g_12.1
    refine Br.intro (fun c_17 => ?_) (fun c_17 => ?_)
    · have e := e.trans (cond_t c_17)
      have c_17' := of_decide_eq_true c_17
      obtain ⟨b_18, f_19, q_20⟩ := ((i_a.grow g_12)).pos (by first | omega | (simp only [List.length_set, List.length_replicate, List.length_append, List.length_cons, List.length_nil]; done) | (simp only [List.length_set, List.length_replicate, List.length_append, List.length_cons, List.length_nil]; omega))
      refine ⟨by omega, by omega, b_18, f_19, q_20, ?_⟩
      refine ⟨((l_a).getD (i : Int).toNat false), (i_a).rd g_12 q_20 (by omega) _, ?_⟩
      refine ⟨by omega, (by omega), _, _, rfl, ?_⟩
      refine Lt.set o_10 (by simp only [List.length_map]; (first | omega | (simp only [List.length_set, List.length_replicate, List.length_append, List.length_cons, List.length_nil]; done) | (simp only [List.length_set, List.length_replicate, List.length_append, List.length_cons, List.length_nil]; omega))) (fun H_3 hl_21 o_23 k_22 => ?_)
      have o_23 := map_set o_23
      have l_24 := k_22.1
      have g_25 := g_12.keep (b := b_1) (by omega) k_22
      have l_26 := g_25.1
      have w_27 := o_23.lt
      rw [show IntKind.wrap .i64 (i + 1) = (i + 1) from wrap64 (by omega) (by omega)]
      refine laws_toBoolS_n1 (μ - 1) (by omega) ⟨_, o_23, (by simp only [List.length_set]; first | rfl | assumption | omega), g_25, (by first | omega | (simp only [List.length_append, List.length_cons, List.length_nil, List.length_set]; done) | (simp only [List.length_append, List.length_cons, List.length_nil, List.length_set]; omega)), (by first | omega | (simp only [List.length_append, List.length_cons, List.length_nil, List.length_set]; done) | (simp only [List.length_append, List.length_cons, List.length_nil, List.length_set]; omega)), (by omega), (by rw [show μ - 1 + 1 = μ from by omega]; exact e)⟩
    · have e := e.trans (cond_f c_17)
      have c_17' := of_decide_eq_false c_17
      rw [laws_toBoolS_x1_0]
      rw [e] at hk
      exact hk _ _ _ H_2 g_12 (o_10.ownS (by first | (simp only [List.length_replicate]; done) | omega | (simp; omega)) (by omega))
theorem laws_toBoolS_ok : FnOk Try.prog 20 S_laws_toBoolS := by
  refine FnOk.body mix_ok E_laws_toBoolS_ok Try.func20 rfl (by kernel_rfl) (by kernel_rfl) ?_ ?_ ?_ ?_ ?_
  · intro args H K K' h hk
    simp only [S_laws_toBoolS] at *
    unfold F_laws_toBoolS at *
    split at hk
    · obtain ⟨l_a, i_a, bd_29, k⟩ := hk
      exact ⟨l_a, i_a, bd_29, (fun r1_a r1_n r1_e H' gg ow0 => h _ _ (k r1_a r1_n r1_e H' gg ow0))⟩
    · exact hk.elim
  · intro hq; cases hq
  · intro args H K hk
    simp only [S_laws_toBoolS] at *
    unfold F_laws_toBoolS at *
    split at hk
    · obtain ⟨l_a, i_a, bd_29, k⟩ := hk
      exact liveS fun a n e H1 g o => ⟨_, _, k a n e H1 g o⟩
    · exact hk.elim
  · intro _ args H K hk
    simp only [S_laws_toBoolS] at *
    unfold F_laws_toBoolS at *
    split at hk
    · obtain ⟨l_a, i_a, bd_29, k⟩ := hk
      exact ⟨l_a, i_a, bd_29, (fun r1_a r1_n r1_e H' gg ow0 => ⟨gg, k r1_a r1_n r1_e H' gg ow0⟩)⟩
    · exact hk.elim
  · have mm := @laws_toBoolS_main
    revert mm
    generalize bodyK Try.prog E_laws_toBoolS Try.f20 = Q
    intro mm args H K hk
    simp only [S_laws_toBoolS] at *
    unfold F_laws_toBoolS at *
    split at hk
    · exact mm _ _ _ H K hk
    · exact hk.elim
def p_laws_toCoded (a_Count : Int) (a_Top : Int) (l_a_Bits : List Bool) : Int × Int × (List Bool) := (a_Count, a_Top, l_a_Bits)
theorem p_laws_toCoded_eq (a_Count : Int) (a_Top : Int) (l_a_Bits : List Bool) : p_laws_toCoded a_Count a_Top l_a_Bits = (a_Count, a_Top, l_a_Bits) := rfl
def T_laws_toCoded (a_Count : Int) (a_Top : Int) (a_Bits_a : Option Addr) (a_Bits_n : Nat) (a_Bits_e : Nat) (H : AHeap) (K : Int → Int → (Option Addr) → Nat → Nat → AHeap → Prop) : Prop := ∃ (l_a_Bits : List Bool), IsL fB H a_Bits_a a_Bits_n l_a_Bits ∧ l_a_Bits.length < 1073741824 ∧ ((∀ (r1_Bits_a : Option Addr) (r1_Bits_n r1_Bits_e : Nat), ∀ H' : AHeap, Grow H H' → OwnS fB H' H.length r1_Bits_a r1_Bits_n r1_Bits_e l_a_Bits → K a_Count a_Top r1_Bits_a r1_Bits_n r1_Bits_e H'))
theorem T_laws_toCoded_i {a_Count : Int} {a_Top : Int} {a_Bits_a : Option Addr} {a_Bits_n : Nat} {a_Bits_e : Nat} {H : AHeap} {K : Int → Int → (Option Addr) → Nat → Nat → AHeap → Prop} (h : ∃ (l_a_Bits : List Bool), IsL fB H a_Bits_a a_Bits_n l_a_Bits ∧ l_a_Bits.length < 1073741824 ∧ ((∀ (r1_Bits_a : Option Addr) (r1_Bits_n r1_Bits_e : Nat), ∀ H' : AHeap, Grow H H' → OwnS fB H' H.length r1_Bits_a r1_Bits_n r1_Bits_e l_a_Bits → K a_Count a_Top r1_Bits_a r1_Bits_n r1_Bits_e H'))) : T_laws_toCoded a_Count a_Top a_Bits_a a_Bits_n a_Bits_e H K := h
theorem laws_toCoded_id (a b : Int) (l : List Bool) : p_laws_toCoded a b l = (a, b, l) := rfl
/-! laws_toCoded: function 25 -/
def E_laws_toCoded : Env := envOf [(20, S_laws_toBoolS)]
def F_laws_toCoded : List Value → AHeap → (Value → AHeap → Prop) → Prop
  | [.agg ⟨[.int .i64 a_Count, .int .i64 a_Top, .slice a_Bits_a a_Bits_n a_Bits_e]⟩], H, K => T_laws_toCoded a_Count a_Top a_Bits_a a_Bits_n a_Bits_e H fun (r1_Count : Int) (r1_Top : Int) (r1_Bits_a : Option Addr) (r1_Bits_n : Nat) (r1_Bits_e : Nat) (H' : AHeap) => K (.agg #[.int .i64 r1_Count, .int .i64 r1_Top, .slice r1_Bits_a r1_Bits_n r1_Bits_e]) H'
  | _, _, _ => False
def S_laws_toCoded : FSpec := { F := F_laws_toCoded, quiet := false, tame := true }
theorem laws_toCoded_vc (a_Count : Int) (a_Top : Int) (a_Bits_a : Option Addr) (a_Bits_n : Nat) (a_Bits_e : Nat) (H : AHeap) (K : Value → AHeap → Prop) : bodyK Try.prog E_laws_toCoded Try.f25 [.agg #[.int .i64 a_Count, .int .i64 a_Top, .slice a_Bits_a a_Bits_n a_Bits_e]] H K =
  (Al [.int .i64 a_Count, .int .i64 a_Top, .slice a_Bits_a a_Bits_n a_Bits_e] H fun b1 H1 => Al [.int .i64 0, .int .i64 0, .slice none 0 0] H1 fun b2 H2 => Al [.int .i64 0, .int .i64 0, .slice none 0 0] H2 fun b3 H3 => ∃ x1 : Int,  rdC H3 b1 0 = some (.int .i64 x1) ∧ isOwn H3 b3 ∧ (∃ l, rdN H3 b3 0 1 = some l) ∧ Lt (setC H3 b3 0 (.int .i64 x1)) fun H4 => ∃ x2 : Int,  rdC H4 b1 1 = some (.int .i64 x2) ∧ isOwn H4 b3 ∧ (∃ l, rdN H4 b3 1 1 = some l) ∧ Lt (setC H4 b3 1 (.int .i64 x2)) fun H5 => ∃ x3_a : Option Addr, ∃ x3_n : Nat, ∃ x3_e : Nat,  rdC H5 b1 2 = some (.slice x3_a x3_n x3_e) ∧ T_laws_toBoolS x3_a x3_n x3_e H5 fun (a1 : Option Addr) (r1 : Nat) (r2 : Nat) (H6 : AHeap) => isOwn H6 b3 ∧ (∃ l, rdN H6 b3 2 1 = some l) ∧ Lt (setC H6 b3 2 (.slice a1 r1 r2)) fun H7 => ∃ c1 : Int, ∃ c2 : Int, ∃ c3_a : Option Addr, ∃ c3_n : Nat, ∃ c3_e : Nat,  rdN H7 b3 0 3 = some [.int .i64 c1, .int .i64 c2, .slice c3_a c3_n c3_e] ∧ isOwn H7 b2 ∧ (∃ l, rdN H7 b2 0 3 = some l) ∧ Lt (setN H7 b2 0 [.int .i64 c1, .int .i64 c2, .slice c3_a c3_n c3_e]) fun H8 => ∃ c4 : Int, ∃ c5 : Int, ∃ c6_a : Option Addr, ∃ c6_n : Nat, ∃ c6_e : Nat,  rdN H8 b2 0 3 = some [.int .i64 c4, .int .i64 c5, .slice c6_a c6_n c6_e] ∧ K (.agg #[.int .i64 c4, .int .i64 c5, .slice c6_a c6_n c6_e]) H8) := by kernel_rfl
theorem E_laws_toCoded_ok : ∀ g, FnOk Try.prog g (E_laws_toCoded g) := FnOk.envOf (by
  intro x hx
  simp only [List.mem_cons, List.not_mem_nil, or_false] at hx
  subst hx; exact laws_toBoolS_ok)
set_option maxHeartbeats 1000000 in
theorem laws_toCoded_main (a_Count : Int) (a_Top : Int) (a_Bits_a : Option Addr) (a_Bits_n : Nat) (a_Bits_e : Nat) (H : AHeap) (K : Value → AHeap → Prop) (h : T_laws_toCoded a_Count a_Top a_Bits_a a_Bits_n a_Bits_e H fun (r1_Count : Int) (r1_Top : Int) (r1_Bits_a : Option Addr) (r1_Bits_n : Nat) (r1_Bits_e : Nat) (H' : AHeap) => K (.agg #[.int .i64 r1_Count, .int .i64 r1_Top, .slice r1_Bits_a r1_Bits_n r1_Bits_e]) H') : bodyK Try.prog E_laws_toCoded Try.f25 [.agg #[.int .i64 a_Count, .int .i64 a_Top, .slice a_Bits_a a_Bits_n a_Bits_e]] H K := by
  rw [laws_toCoded_vc]
  obtain ⟨l_a_Bits, i_a_Bits, bd_100, hk⟩ := h
  have hk : (∀ (r1_Bits_a : Option Addr) (r1_Bits_n r1_Bits_e : Nat), ∀ H' : AHeap, Grow H H' → OwnS fB H' H.length r1_Bits_a r1_Bits_n r1_Bits_e ((p_laws_toCoded a_Count a_Top l_a_Bits).2.2) → (fun (r1_Count : Int) (r1_Top : Int) (r1_Bits_a : Option Addr) (r1_Bits_n : Nat) (r1_Bits_e : Nat) (H' : AHeap) => K (.agg #[.int .i64 r1_Count, .int .i64 r1_Top, .slice r1_Bits_a r1_Bits_n r1_Bits_e]) H') ((p_laws_toCoded a_Count a_Top l_a_Bits).1) ((p_laws_toCoded a_Count a_Top l_a_Bits).2.1) r1_Bits_a r1_Bits_n r1_Bits_e H') := by rw [laws_toCoded_id a_Count a_Top l_a_Bits]; exact hk
  obtain rfl := i_a_Bits.eqn
  have e : (p_laws_toCoded a_Count a_Top l_a_Bits) = _ := rfl
  have e := e.trans (p_laws_toCoded_eq a_Count a_Top l_a_Bits)
  have g0 := Grow.refl H
  refine Al.intro (fun b_1 H_1 hb_2 hl_3 g_4 o_5 => ?_)
  have l_7 := g_4.1
  have g_8 := g0.trans g_4
  have l_9 := g_8.1
  have w_99 := o_5.lt
  refine Al.intro (fun b_10 H_2 hb_11 hl_12 g_13 o_14 => ?_)
  have l_16 := g_13.1
  have g_17 := g_8.trans g_13
  have l_18 := g_17.1
  have o_19 := o_5.grow g_13
  have w_20 := o_19.lt
  have w_98 := o_14.lt
  refine Al.intro (fun b_21 H_3 hb_22 hl_23 g_24 o_25 => ?_)
  have l_27 := g_24.1
  have g_28 := g_17.trans g_24
  have l_29 := g_28.1
  have o_30 := o_19.grow g_24
  have w_31 := o_30.lt
  have o_32 := o_14.grow g_24
  have w_33 := o_32.lt
  have w_97 := o_25.lt
  refine ⟨a_Count, (o_30.rdC _).trans rfl, ?_⟩
  refine Lt.set o_25 (Nat.le_of_ble_eq_true rfl) (fun H_4 hl_34 o_36 k_35 => ?_)
  have o_36 : Own H_4 b_21 [.int .i64 a_Count, .int .i64 0, .slice none 0 0] := o_36
  have l_37 := k_35.1
  have g_38 := g_28.keep (b := b_21) (by omega) k_35
  have l_39 := g_38.1
  have o_40 := o_30.keep (by omega) k_35
  have w_41 := o_40.lt
  have o_42 := o_32.keep (by omega) k_35
  have w_43 := o_42.lt
  have w_96 := o_36.lt
  refine ⟨a_Top, (o_40.rdC _).trans rfl, ?_⟩
  refine Lt.set o_36 (Nat.le_of_ble_eq_true rfl) (fun H_5 hl_44 o_46 k_45 => ?_)
  have o_46 : Own H_5 b_21 [.int .i64 a_Count, .int .i64 a_Top, .slice none 0 0] := o_46
  have l_47 := k_45.1
  have g_48 := g_38.keep (b := b_21) (by omega) k_45
  have l_49 := g_48.1
  have o_50 := o_40.keep (by omega) k_45
  have w_51 := o_50.lt
  have o_52 := o_42.keep (by omega) k_45
  have w_53 := o_52.lt
  have w_95 := o_46.lt
  refine ⟨a_Bits_a, l_a_Bits.length, a_Bits_e, (o_50.rdC _).trans rfl, ?_⟩
  refine T_laws_toBoolS_i ⟨_, (i_a_Bits.grow g_48), (by first | omega | (simp only [List.length_set, List.length_replicate, List.length_append, List.length_cons, List.length_nil]; done) | (simp only [List.length_set, List.length_replicate, List.length_append, List.length_cons, List.length_nil]; omega)), fun a_54 n_55 e_56 H_6 g_58 r_57 => ?_⟩
  have l_59 := g_58.1
  have g_60 := g_48.trans g_58
  have l_61 := g_60.1
  have o_62 := o_50.grow g_58
  have w_63 := o_62.lt
  have o_64 := o_52.grow g_58
  have w_65 := o_64.lt
  have o_66 := o_46.grow g_58
  have w_67 := o_66.lt
  obtain rfl := r_57.isL.eqn
  have u_68 := r_57.up
  have u_69 := r_57.lo
  refine Lt.set o_66 (Nat.le_of_ble_eq_true rfl) (fun H_7 hl_71 o_73 k_72 => ?_)
  have o_73 : Own H_7 b_21 [.int .i64 a_Count, .int .i64 a_Top, .slice a_54 ((l_a_Bits).length) e_56] := o_73
  have l_74 := k_72.1
  have g_75 := g_60.keep (b := b_21) (by omega) k_72
  have l_76 := g_75.1
  have o_77 := o_62.keep (by omega) k_72
  have w_78 := o_77.lt
  have o_79 := o_64.keep (by omega) k_72
  have w_80 := o_79.lt
  have r_81 := r_57.keep u_68 (by omega) k_72
  have w_94 := o_73.lt
  refine ⟨a_Count, a_Top, a_54, (l_a_Bits).length, e_56, (o_73.rdN (Nat.le_of_ble_eq_true rfl)).trans rfl, ?_⟩
  refine Lt.setN (n := 3) o_79 (Nat.le_of_ble_eq_true rfl) rfl (fun H_8 hl_82 o_84 k_83 => ?_)
  have o_84 : Own H_8 b_10 [.int .i64 a_Count, .int .i64 a_Top, .slice a_54 ((l_a_Bits).length) e_56] := o_84
  have l_85 := k_83.1
  have g_86 := g_75.keep (b := b_10) (by omega) k_83
  have l_87 := g_86.1
  have o_88 := o_77.keep (by omega) k_83
  have w_89 := o_88.lt
  have o_90 := o_73.keep (by omega) k_83
  have w_91 := o_90.lt
  have r_92 := r_81.keep u_68 (by omega) k_83
  have w_93 := o_84.lt
  refine ⟨a_Count, a_Top, a_54, (l_a_Bits).length, e_56, (o_84.rdN (Nat.le_of_ble_eq_true rfl)).trans rfl, ?_⟩
  rw [e] at hk
  exact hk _ _ _ H_8 g_86 (r_92.weak (by omega))
theorem laws_toCoded_ok : FnOk Try.prog 25 S_laws_toCoded := by
  refine FnOk.body mix_ok E_laws_toCoded_ok Try.func25 rfl (by kernel_rfl) (by kernel_rfl) ?_ ?_ ?_ ?_ ?_
  · intro args H K K' h hk
    simp only [S_laws_toCoded] at *
    unfold F_laws_toCoded at *
    split at hk
    · obtain ⟨l_a_Bits, i_a_Bits, bd_100, k⟩ := hk
      exact ⟨l_a_Bits, i_a_Bits, bd_100, (fun r1_Bits_a r1_Bits_n r1_Bits_e H' gg ow0 => h _ _ (k r1_Bits_a r1_Bits_n r1_Bits_e H' gg ow0))⟩
    · exact hk.elim
  · intro hq; cases hq
  · intro args H K hk
    simp only [S_laws_toCoded] at *
    unfold F_laws_toCoded at *
    split at hk
    · obtain ⟨l_a_Bits, i_a_Bits, bd_100, k⟩ := hk
      exact liveS fun a n e H1 g o => ⟨_, _, k a n e H1 g o⟩
    · exact hk.elim
  · intro _ args H K hk
    simp only [S_laws_toCoded] at *
    unfold F_laws_toCoded at *
    split at hk
    · obtain ⟨l_a_Bits, i_a_Bits, bd_100, k⟩ := hk
      exact ⟨l_a_Bits, i_a_Bits, bd_100, (fun r1_Bits_a r1_Bits_n r1_Bits_e H' gg ow0 => ⟨gg, k r1_Bits_a r1_Bits_n r1_Bits_e H' gg ow0⟩)⟩
    · exact hk.elim
  · have mm := @laws_toCoded_main
    revert mm
    generalize bodyK Try.prog E_laws_toCoded Try.f25 = Q
    intro mm args H K hk
    simp only [S_laws_toCoded] at *
    unfold F_laws_toCoded at *
    split at hk
    · exact mm _ _ _ _ _ H K hk
    · exact hk.elim
def p_spec_l00In (n : Int) (low : Int) (high : Int) : Bool := (bif decide ((low : Int) ≤ n) then decide ((n : Int) ≤ high) else false)
theorem p_spec_l00In_eq (n : Int) (low : Int) (high : Int) : p_spec_l00In n low high = (bif decide ((low : Int) ≤ n) then decide ((n : Int) ≤ high) else false) := rfl
def T_spec_l00In (n : Int) (low : Int) (high : Int) (H : AHeap) (K : Bool → AHeap → Prop) : Prop := K (p_spec_l00In n low high) H
theorem spec_l00In_t {n a b : Int} (h : p_spec_l00In n a b = true) : a ≤ n ∧ n ≤ b := by
  unfold p_spec_l00In at h
  by_cases h1 : a ≤ n
  · rw [decide_eq_true h1, cond_true] at h; exact ⟨h1, of_decide_eq_true h⟩
  · rw [decide_eq_false h1] at h; cases h
theorem T_spec_l00In_i {n : Int} {low : Int} {high : Int} {H : AHeap} {K : Bool → AHeap → Prop} (h : K (p_spec_l00In n low high) H) : T_spec_l00In n low high H K := h
/-! spec_l00In: function 51 -/
def E_spec_l00In : Env := envOf []
def F_spec_l00In : List Value → AHeap → (Value → AHeap → Prop) → Prop
  | [.int .i64 n, .int .i64 low, .int .i64 high], H, K => T_spec_l00In n low high H fun (r1 : Bool) (H' : AHeap) => K (.bool r1) H'
  | _, _, _ => False
def S_spec_l00In : FSpec := { F := F_spec_l00In, quiet := true, tame := false }
theorem spec_l00In_vc (n : Int) (low : Int) (high : Int) (H : AHeap) (K : Value → AHeap → Prop) : bodyK Try.prog E_spec_l00In Try.f51 [.int .i64 n, .int .i64 low, .int .i64 high] H K =
  (Br (decide ((low : Int) ≤ n)) (K (.bool (decide ((n : Int) ≤ high))) H) (K (.bool false) H)) := by kernel_rfl
theorem E_spec_l00In_ok : ∀ g, FnOk Try.prog g (E_spec_l00In g) := FnOk.envOf (by
  intro x hx; cases hx)
set_option maxHeartbeats 1000000 in
theorem spec_l00In_main (n : Int) (low : Int) (high : Int) (H : AHeap) (K : Value → AHeap → Prop) (h : T_spec_l00In n low high H fun (r1 : Bool) (H' : AHeap) => K (.bool r1) H') : bodyK Try.prog E_spec_l00In Try.f51 [.int .i64 n, .int .i64 low, .int .i64 high] H K := by
  rw [spec_l00In_vc]
  unfold T_spec_l00In p_spec_l00In at h
  repeat' (first | exact h | (exfalso; simp_all; done) | (refine ⟨by decide, ?_⟩) | (refine Br.intro (fun hb => ?_) (fun hb => ?_) <;> (try simp only [hb, cond_true, cond_false, Bool.not_true, Bool.not_false] at h)))
theorem spec_l00In_ok : FnOk Try.prog 51 S_spec_l00In := by
  refine FnOk.body mix_ok E_spec_l00In_ok Try.func51 rfl (by kernel_rfl) (by kernel_rfl) ?_ ?_ ?_ ?_ ?_
  · intro args H K K' h hk
    simp only [S_spec_l00In] at *
    unfold F_spec_l00In at *
    split at hk
    · have k := hk
      exact h _ _ k
    · exact hk.elim
  · intro _ args H K hk
    simp only [S_spec_l00In] at *
    unfold F_spec_l00In at *
    split at hk
    · have k := hk
      exact ⟨_, k, fun K' k' => k'⟩
    · exact hk.elim
  · intro args H K hk
    simp only [S_spec_l00In] at *
    unfold F_spec_l00In at *
    split at hk
    · have k := hk
      exact ⟨_, _, k⟩
    · exact hk.elim
  · intro hq; cases hq
  · have mm := @spec_l00In_main
    revert mm
    generalize bodyK Try.prog E_spec_l00In Try.f51 = Q
    intro mm args H K hk
    simp only [S_spec_l00In] at *
    unfold F_spec_l00In at *
    split at hk
    · exact mm _ _ _ H K hk
    · exact hk.elim
def p_spec_l06Is (cp_Count : Int) (cp_Top : Int) (l_cp_Bits : List Bool) : Bool := (bif (p_spec_l00In cp_Count (1 : Int) (128 : Int)) then (bif (p_spec_l00In cp_Top (0 : Int) (24 : Int)) then decide (((l_cp_Bits.length : Int) : Int) ≤ 32768) else false) else false)
theorem p_spec_l06Is_eq (cp_Count : Int) (cp_Top : Int) (l_cp_Bits : List Bool) : p_spec_l06Is cp_Count cp_Top l_cp_Bits = (bif (p_spec_l00In cp_Count (1 : Int) (128 : Int)) then (bif (p_spec_l00In cp_Top (0 : Int) (24 : Int)) then decide (((l_cp_Bits.length : Int) : Int) ≤ 32768) else false) else false) := rfl
def T_spec_l06Is (c : Nat) (H : AHeap) (K : Bool → AHeap → Prop) : Prop := ∃ (cp_Count : Int), ∃ (cp_Top : Int), ∃ (cp_Bits_a : Option Addr), ∃ (cp_Bits_n : Nat), ∃ (cp_Bits_e : Nat), ∃ (l_cp_Bits : List Bool), rdN H c 0 3 = some [.int .i64 cp_Count, .int .i64 cp_Top, .slice cp_Bits_a cp_Bits_n cp_Bits_e] ∧ IsL fB H cp_Bits_a cp_Bits_n l_cp_Bits ∧ l_cp_Bits.length < 1073741824 ∧ K (p_spec_l06Is cp_Count cp_Top l_cp_Bits) H
theorem T_spec_l06Is_i {c : Nat} {H : AHeap} {K : Bool → AHeap → Prop} (h : ∃ (cp_Count : Int), ∃ (cp_Top : Int), ∃ (cp_Bits_a : Option Addr), ∃ (cp_Bits_n : Nat), ∃ (cp_Bits_e : Nat), ∃ (l_cp_Bits : List Bool), rdN H c 0 3 = some [.int .i64 cp_Count, .int .i64 cp_Top, .slice cp_Bits_a cp_Bits_n cp_Bits_e] ∧ IsL fB H cp_Bits_a cp_Bits_n l_cp_Bits ∧ l_cp_Bits.length < 1073741824 ∧ K (p_spec_l06Is cp_Count cp_Top l_cp_Bits) H) : T_spec_l06Is c H K := h

/-! spec_l06Is: function 59 -/
def E_spec_l06Is : Env := envOf [(51, S_spec_l00In)]
def F_spec_l06Is : List Value → AHeap → (Value → AHeap → Prop) → Prop
  | [.pointer (some ⟨c, 0, none⟩)], H, K => T_spec_l06Is c H fun (r1 : Bool) (H' : AHeap) => K (.bool r1) H'
  | _, _, _ => False
def S_spec_l06Is : FSpec := { F := F_spec_l06Is, quiet := true, tame := false }
theorem spec_l06Is_vc (c : Nat) (H : AHeap) (K : Value → AHeap → Prop) : bodyK Try.prog E_spec_l06Is Try.f59 [.pointer (some ⟨c, 0, none⟩)] H K =
  (∃ x1 : Int,  rdC H c 0 = some (.int .i64 x1) ∧ T_spec_l00In x1 1 128 H fun (r1 : Bool) (H1 : AHeap) => Br r1 (∃ x2 : Int,  rdC H1 c 1 = some (.int .i64 x2) ∧ T_spec_l00In x2 0 24 H1 fun (r2 : Bool) (H2 : AHeap) => Br r2 (∃ x3_a : Option Addr, ∃ x3_n : Nat, ∃ x3_e : Nat,  rdC H2 c 2 = some (.slice x3_a x3_n x3_e) ∧ K (.bool (decide (((x3_n : Int) : Int) ≤ 32768))) H2) (K (.bool false) H2)) (K (.bool false) H1)) := by kernel_rfl
theorem E_spec_l06Is_ok : ∀ g, FnOk Try.prog g (E_spec_l06Is g) := FnOk.envOf (by
  intro x hx
  simp only [List.mem_cons, List.not_mem_nil, or_false] at hx
  subst hx; exact spec_l00In_ok)
set_option maxHeartbeats 1000000 in
theorem spec_l06Is_main (c : Nat) (H : AHeap) (K : Value → AHeap → Prop) (h : T_spec_l06Is c H fun (r1 : Bool) (H' : AHeap) => K (.bool r1) H') : bodyK Try.prog E_spec_l06Is Try.f59 [.pointer (some ⟨c, 0, none⟩)] H K := by
  rw [spec_l06Is_vc]
  obtain ⟨cp_Count, cp_Top, cp_Bits_a, cp_Bits_n, cp_Bits_e, l_cp_Bits, i_c, i_cp_Bits, bd_3, hk⟩ := h
  obtain rfl := i_cp_Bits.eqn
  have e : (p_spec_l06Is cp_Count cp_Top l_cp_Bits) = _ := rfl
  have e := e.trans (p_spec_l06Is_eq cp_Count cp_Top l_cp_Bits)
  have g0 := Grow.refl H
  refine ⟨cp_Count, (rdN_at (rdN_grow g0 i_c) 0 (Nat.le_of_ble_eq_true rfl)).trans rfl, ?_⟩
  refine T_spec_l00In_i ?_
  refine Br.intro (fun c_1 => ?_) (fun c_1 => ?_)
  · have e := e.trans (cond_t c_1)
    have c_1' := spec_l00In_t c_1
    refine ⟨cp_Top, (rdN_at (rdN_grow g0 i_c) 1 (Nat.le_of_ble_eq_true rfl)).trans rfl, ?_⟩
    refine T_spec_l00In_i ?_
    refine Br.intro (fun c_2 => ?_) (fun c_2 => ?_)
    · have e := e.trans (cond_t c_2)
      have c_2' := spec_l00In_t c_2
      refine ⟨cp_Bits_a, l_cp_Bits.length, cp_Bits_e, (rdN_at (rdN_grow g0 i_c) 2 (Nat.le_of_ble_eq_true rfl)).trans rfl, ?_⟩
      rw [e] at hk
      exact hk
    · have e := e.trans (cond_f c_2)
      rw [e] at hk
      exact hk
  · have e := e.trans (cond_f c_1)
    rw [e] at hk
    exact hk
theorem spec_l06Is_ok : FnOk Try.prog 59 S_spec_l06Is := by
  refine FnOk.body mix_ok E_spec_l06Is_ok Try.func59 rfl (by kernel_rfl) (by kernel_rfl) ?_ ?_ ?_ ?_ ?_
  · intro args H K K' h hk
    simp only [S_spec_l06Is] at *
    unfold F_spec_l06Is at *
    split at hk
    · obtain ⟨cp_Count, cp_Top, cp_Bits_a, cp_Bits_n, cp_Bits_e, l_cp_Bits, i_c, i_cp_Bits, bd_3, k⟩ := hk
      exact ⟨cp_Count, cp_Top, cp_Bits_a, cp_Bits_n, cp_Bits_e, l_cp_Bits, i_c, i_cp_Bits, bd_3, h _ _ k⟩
    · exact hk.elim
  · intro _ args H K hk
    simp only [S_spec_l06Is] at *
    unfold F_spec_l06Is at *
    split at hk
    · obtain ⟨cp_Count, cp_Top, cp_Bits_a, cp_Bits_n, cp_Bits_e, l_cp_Bits, i_c, i_cp_Bits, bd_3, k⟩ := hk
      exact ⟨_, k, fun K' k' => ⟨cp_Count, cp_Top, cp_Bits_a, cp_Bits_n, cp_Bits_e, l_cp_Bits, i_c, i_cp_Bits, bd_3, k'⟩⟩
    · exact hk.elim
  · intro args H K hk
    simp only [S_spec_l06Is] at *
    unfold F_spec_l06Is at *
    split at hk
    · obtain ⟨cp_Count, cp_Top, cp_Bits_a, cp_Bits_n, cp_Bits_e, l_cp_Bits, i_c, i_cp_Bits, bd_3, k⟩ := hk
      exact ⟨_, _, k⟩
    · exact hk.elim
  · intro hq; cases hq
  · have mm := @spec_l06Is_main
    revert mm
    generalize bodyK Try.prog E_spec_l06Is Try.f59 = Q
    intro mm args H K hk
    simp only [S_spec_l06Is] at *
    unfold F_spec_l06Is at *
    split at hk
    · exact mm _ H K hk
    · exact hk.elim
def p_spec_ValidCoded (c_Count : Int) (c_Top : Int) (l_c_Bits : List Bool) : Bool := (p_spec_l06Is c_Count c_Top l_c_Bits)
theorem p_spec_ValidCoded_eq (c_Count : Int) (c_Top : Int) (l_c_Bits : List Bool) : p_spec_ValidCoded c_Count c_Top l_c_Bits = (p_spec_l06Is c_Count c_Top l_c_Bits) := rfl
def T_spec_ValidCoded (c_Count : Int) (c_Top : Int) (c_Bits_a : Option Addr) (c_Bits_n : Nat) (c_Bits_e : Nat) (H : AHeap) (K : Bool → AHeap → Prop) : Prop := ∃ (l_c_Bits : List Bool), IsL fB H c_Bits_a c_Bits_n l_c_Bits ∧ l_c_Bits.length < 1073741824 ∧ ((∀ H' : AHeap, Grow H H' → K (p_spec_ValidCoded c_Count c_Top l_c_Bits) H'))
theorem T_spec_ValidCoded_i {c_Count : Int} {c_Top : Int} {c_Bits_a : Option Addr} {c_Bits_n : Nat} {c_Bits_e : Nat} {H : AHeap} {K : Bool → AHeap → Prop} (h : ∃ (l_c_Bits : List Bool), IsL fB H c_Bits_a c_Bits_n l_c_Bits ∧ l_c_Bits.length < 1073741824 ∧ ((∀ H' : AHeap, Grow H H' → K (p_spec_ValidCoded c_Count c_Top l_c_Bits) H'))) : T_spec_ValidCoded c_Count c_Top c_Bits_a c_Bits_n c_Bits_e H K := h

/-! spec_ValidCoded: function 24 -/
def E_spec_ValidCoded : Env := envOf [(59, S_spec_l06Is)]
def F_spec_ValidCoded : List Value → AHeap → (Value → AHeap → Prop) → Prop
  | [.agg ⟨[.int .i64 c_Count, .int .i64 c_Top, .slice c_Bits_a c_Bits_n c_Bits_e]⟩], H, K => T_spec_ValidCoded c_Count c_Top c_Bits_a c_Bits_n c_Bits_e H fun (r1 : Bool) (H' : AHeap) => K (.bool r1) H'
  | _, _, _ => False
def S_spec_ValidCoded : FSpec := { F := F_spec_ValidCoded, quiet := false, tame := true }
theorem spec_ValidCoded_vc (c_Count : Int) (c_Top : Int) (c_Bits_a : Option Addr) (c_Bits_n : Nat) (c_Bits_e : Nat) (H : AHeap) (K : Value → AHeap → Prop) : bodyK Try.prog E_spec_ValidCoded Try.f24 [.agg #[.int .i64 c_Count, .int .i64 c_Top, .slice c_Bits_a c_Bits_n c_Bits_e]] H K =
  (Al [.int .i64 c_Count, .int .i64 c_Top, .slice c_Bits_a c_Bits_n c_Bits_e] H fun b1 H1 => T_spec_l06Is b1 H1 fun (r1 : Bool) (H2 : AHeap) => K (.bool r1) H2) := by kernel_rfl
theorem E_spec_ValidCoded_ok : ∀ g, FnOk Try.prog g (E_spec_ValidCoded g) := FnOk.envOf (by
  intro x hx
  simp only [List.mem_cons, List.not_mem_nil, or_false] at hx
  subst hx; exact spec_l06Is_ok)
set_option maxHeartbeats 1000000 in
theorem spec_ValidCoded_main (c_Count : Int) (c_Top : Int) (c_Bits_a : Option Addr) (c_Bits_n : Nat) (c_Bits_e : Nat) (H : AHeap) (K : Value → AHeap → Prop) (h : T_spec_ValidCoded c_Count c_Top c_Bits_a c_Bits_n c_Bits_e H fun (r1 : Bool) (H' : AHeap) => K (.bool r1) H') : bodyK Try.prog E_spec_ValidCoded Try.f24 [.agg #[.int .i64 c_Count, .int .i64 c_Top, .slice c_Bits_a c_Bits_n c_Bits_e]] H K := by
  rw [spec_ValidCoded_vc]
  obtain ⟨l_c_Bits, i_c_Bits, bd_11, hk⟩ := h
  obtain rfl := i_c_Bits.eqn
  have e : (p_spec_ValidCoded c_Count c_Top l_c_Bits) = _ := rfl
  have e := e.trans (p_spec_ValidCoded_eq c_Count c_Top l_c_Bits)
  have g0 := Grow.refl H
  refine Al.intro (fun b_1 H_1 hb_2 hl_3 g_4 o_5 => ?_)
  have l_7 := g_4.1
  have g_8 := g0.trans g_4
  have l_9 := g_8.1
  have w_10 := o_5.lt
  refine T_spec_l06Is_i ⟨c_Count, c_Top, c_Bits_a, l_c_Bits.length, c_Bits_e, _, ((o_5.rdN (Nat.le_of_ble_eq_true rfl)).trans rfl), (i_c_Bits.grow g_8), (by first | omega | (simp only [List.length_set, List.length_replicate, List.length_append, List.length_cons, List.length_nil]; done) | (simp only [List.length_set, List.length_replicate, List.length_append, List.length_cons, List.length_nil]; omega)), ?_⟩
  rw [e] at hk
  exact hk  H_1 g_8 
theorem spec_ValidCoded_ok : FnOk Try.prog 24 S_spec_ValidCoded := by
  refine FnOk.body mix_ok E_spec_ValidCoded_ok Try.func24 rfl (by kernel_rfl) (by kernel_rfl) ?_ ?_ ?_ ?_ ?_
  · intro args H K K' h hk
    simp only [S_spec_ValidCoded] at *
    unfold F_spec_ValidCoded at *
    split at hk
    · obtain ⟨l_c_Bits, i_c_Bits, bd_11, k⟩ := hk
      exact ⟨l_c_Bits, i_c_Bits, bd_11, (fun  H' gg  => h _ _ (k  H' gg ))⟩
    · exact hk.elim
  · intro hq; cases hq
  · intro args H K hk
    simp only [S_spec_ValidCoded] at *
    unfold F_spec_ValidCoded at *
    split at hk
    · obtain ⟨l_c_Bits, i_c_Bits, bd_11, k⟩ := hk
      exact ⟨_, _, k H (Grow.refl H)⟩
    · exact hk.elim
  · intro _ args H K hk
    simp only [S_spec_ValidCoded] at *
    unfold F_spec_ValidCoded at *
    split at hk
    · obtain ⟨l_c_Bits, i_c_Bits, bd_11, k⟩ := hk
      exact ⟨l_c_Bits, i_c_Bits, bd_11, (fun  H' gg  => ⟨gg, k  H' gg ⟩)⟩
    · exact hk.elim
  · have mm := @spec_ValidCoded_main
    revert mm
    generalize bodyK Try.prog E_spec_ValidCoded Try.f24 = Q
    intro mm args H K hk
    simp only [S_spec_ValidCoded] at *
    unfold F_spec_ValidCoded at *
    split at hk
    · exact mm _ _ _ _ _ H K hk
    · exact hk.elim
def p_impl_within (n : Int) (low : Int) (high : Int) : Bool := (bif decide ((low : Int) ≤ n) then decide ((n : Int) ≤ high) else false)
theorem p_impl_within_eq (n : Int) (low : Int) (high : Int) : p_impl_within n low high = (bif decide ((low : Int) ≤ n) then decide ((n : Int) ≤ high) else false) := rfl
def T_impl_within (n : Int) (low : Int) (high : Int) (H : AHeap) (K : Bool → AHeap → Prop) : Prop := K (p_impl_within n low high) H
theorem impl_within_t {n a b : Int} (h : p_impl_within n a b = true) : a ≤ n ∧ n ≤ b := by
  unfold p_impl_within at h
  by_cases h1 : a ≤ n
  · rw [decide_eq_true h1, cond_true] at h; exact ⟨h1, of_decide_eq_true h⟩
  · rw [decide_eq_false h1] at h; cases h
theorem T_impl_within_i {n : Int} {low : Int} {high : Int} {H : AHeap} {K : Bool → AHeap → Prop} (h : K (p_impl_within n low high) H) : T_impl_within n low high H K := h
/-! impl_within: function 53 -/
def E_impl_within : Env := envOf []
def F_impl_within : List Value → AHeap → (Value → AHeap → Prop) → Prop
  | [.int .i64 n, .int .i64 low, .int .i64 high], H, K => T_impl_within n low high H fun (r1 : Bool) (H' : AHeap) => K (.bool r1) H'
  | _, _, _ => False
def S_impl_within : FSpec := { F := F_impl_within, quiet := true, tame := false }
theorem impl_within_vc (n : Int) (low : Int) (high : Int) (H : AHeap) (K : Value → AHeap → Prop) : bodyK Try.prog E_impl_within Try.f53 [.int .i64 n, .int .i64 low, .int .i64 high] H K =
  (Br (decide ((low : Int) ≤ n)) (K (.bool (decide ((n : Int) ≤ high))) H) (K (.bool false) H)) := by kernel_rfl
theorem E_impl_within_ok : ∀ g, FnOk Try.prog g (E_impl_within g) := FnOk.envOf (by
  intro x hx; cases hx)
set_option maxHeartbeats 1000000 in
theorem impl_within_main (n : Int) (low : Int) (high : Int) (H : AHeap) (K : Value → AHeap → Prop) (h : T_impl_within n low high H fun (r1 : Bool) (H' : AHeap) => K (.bool r1) H') : bodyK Try.prog E_impl_within Try.f53 [.int .i64 n, .int .i64 low, .int .i64 high] H K := by
  rw [impl_within_vc]
  unfold T_impl_within p_impl_within at h
  repeat' (first | exact h | (exfalso; simp_all; done) | (refine ⟨by decide, ?_⟩) | (refine Br.intro (fun hb => ?_) (fun hb => ?_) <;> (try simp only [hb, cond_true, cond_false, Bool.not_true, Bool.not_false] at h)))
theorem impl_within_ok : FnOk Try.prog 53 S_impl_within := by
  refine FnOk.body mix_ok E_impl_within_ok Try.func53 rfl (by kernel_rfl) (by kernel_rfl) ?_ ?_ ?_ ?_ ?_
  · intro args H K K' h hk
    simp only [S_impl_within] at *
    unfold F_impl_within at *
    split at hk
    · have k := hk
      exact h _ _ k
    · exact hk.elim
  · intro _ args H K hk
    simp only [S_impl_within] at *
    unfold F_impl_within at *
    split at hk
    · have k := hk
      exact ⟨_, k, fun K' k' => k'⟩
    · exact hk.elim
  · intro args H K hk
    simp only [S_impl_within] at *
    unfold F_impl_within at *
    split at hk
    · have k := hk
      exact ⟨_, _, k⟩
    · exact hk.elim
  · intro hq; cases hq
  · have mm := @impl_within_main
    revert mm
    generalize bodyK Try.prog E_impl_within Try.f53 = Q
    intro mm args H K hk
    simp only [S_impl_within] at *
    unfold F_impl_within at *
    split at hk
    · exact mm _ _ _ H K hk
    · exact hk.elim
def p_impl_ValidCoded (c_Count : Int) (c_Top : Int) (l_c_Bits : List Bool) : Bool := (bif (p_impl_within c_Count (1 : Int) (128 : Int)) then (bif (p_impl_within c_Top (0 : Int) (24 : Int)) then decide (((l_c_Bits.length : Int) : Int) ≤ 32768) else false) else false)
theorem p_impl_ValidCoded_eq (c_Count : Int) (c_Top : Int) (l_c_Bits : List Bool) : p_impl_ValidCoded c_Count c_Top l_c_Bits = (bif (p_impl_within c_Count (1 : Int) (128 : Int)) then (bif (p_impl_within c_Top (0 : Int) (24 : Int)) then decide (((l_c_Bits.length : Int) : Int) ≤ 32768) else false) else false) := rfl
def T_impl_ValidCoded (c_Count : Int) (c_Top : Int) (c_Bits_a : Option Addr) (c_Bits_n : Nat) (c_Bits_e : Nat) (H : AHeap) (K : Bool → AHeap → Prop) : Prop := ∃ (l_c_Bits : List Bool), IsL fB H c_Bits_a c_Bits_n l_c_Bits ∧ l_c_Bits.length < 1073741824 ∧ ((∀ H' : AHeap, Grow H H' → K (p_impl_ValidCoded c_Count c_Top l_c_Bits) H'))
theorem T_impl_ValidCoded_i {c_Count : Int} {c_Top : Int} {c_Bits_a : Option Addr} {c_Bits_n : Nat} {c_Bits_e : Nat} {H : AHeap} {K : Bool → AHeap → Prop} (h : ∃ (l_c_Bits : List Bool), IsL fB H c_Bits_a c_Bits_n l_c_Bits ∧ l_c_Bits.length < 1073741824 ∧ ((∀ H' : AHeap, Grow H H' → K (p_impl_ValidCoded c_Count c_Top l_c_Bits) H'))) : T_impl_ValidCoded c_Count c_Top c_Bits_a c_Bits_n c_Bits_e H K := h

/-! impl_ValidCoded: function 26 -/
def E_impl_ValidCoded : Env := envOf [(53, S_impl_within)]
def F_impl_ValidCoded : List Value → AHeap → (Value → AHeap → Prop) → Prop
  | [.agg ⟨[.int .i64 c_Count, .int .i64 c_Top, .slice c_Bits_a c_Bits_n c_Bits_e]⟩], H, K => T_impl_ValidCoded c_Count c_Top c_Bits_a c_Bits_n c_Bits_e H fun (r1 : Bool) (H' : AHeap) => K (.bool r1) H'
  | _, _, _ => False
def S_impl_ValidCoded : FSpec := { F := F_impl_ValidCoded, quiet := false, tame := true }
theorem impl_ValidCoded_vc (c_Count : Int) (c_Top : Int) (c_Bits_a : Option Addr) (c_Bits_n : Nat) (c_Bits_e : Nat) (H : AHeap) (K : Value → AHeap → Prop) : bodyK Try.prog E_impl_ValidCoded Try.f26 [.agg #[.int .i64 c_Count, .int .i64 c_Top, .slice c_Bits_a c_Bits_n c_Bits_e]] H K =
  (Al [.int .i64 c_Count, .int .i64 c_Top, .slice c_Bits_a c_Bits_n c_Bits_e] H fun b1 H1 => ∃ x1 : Int,  rdC H1 b1 0 = some (.int .i64 x1) ∧ T_impl_within x1 1 128 H1 fun (r1 : Bool) (H2 : AHeap) => Br r1 (∃ x2 : Int,  rdC H2 b1 1 = some (.int .i64 x2) ∧ T_impl_within x2 0 24 H2 fun (r2 : Bool) (H3 : AHeap) => Br r2 (∃ x3_a : Option Addr, ∃ x3_n : Nat, ∃ x3_e : Nat,  rdC H3 b1 2 = some (.slice x3_a x3_n x3_e) ∧ K (.bool (decide (((x3_n : Int) : Int) ≤ 32768))) H3) (K (.bool false) H3)) (K (.bool false) H2)) := by kernel_rfl
theorem E_impl_ValidCoded_ok : ∀ g, FnOk Try.prog g (E_impl_ValidCoded g) := FnOk.envOf (by
  intro x hx
  simp only [List.mem_cons, List.not_mem_nil, or_false] at hx
  subst hx; exact impl_within_ok)
set_option maxHeartbeats 1000000 in
theorem impl_ValidCoded_main (c_Count : Int) (c_Top : Int) (c_Bits_a : Option Addr) (c_Bits_n : Nat) (c_Bits_e : Nat) (H : AHeap) (K : Value → AHeap → Prop) (h : T_impl_ValidCoded c_Count c_Top c_Bits_a c_Bits_n c_Bits_e H fun (r1 : Bool) (H' : AHeap) => K (.bool r1) H') : bodyK Try.prog E_impl_ValidCoded Try.f26 [.agg #[.int .i64 c_Count, .int .i64 c_Top, .slice c_Bits_a c_Bits_n c_Bits_e]] H K := by
  rw [impl_ValidCoded_vc]
  obtain ⟨l_c_Bits, i_c_Bits, bd_13, hk⟩ := h
  obtain rfl := i_c_Bits.eqn
  have e : (p_impl_ValidCoded c_Count c_Top l_c_Bits) = _ := rfl
  have e := e.trans (p_impl_ValidCoded_eq c_Count c_Top l_c_Bits)
  have g0 := Grow.refl H
  refine Al.intro (fun b_1 H_1 hb_2 hl_3 g_4 o_5 => ?_)
  have l_7 := g_4.1
  have g_8 := g0.trans g_4
  have l_9 := g_8.1
  have w_12 := o_5.lt
  refine ⟨c_Count, (o_5.rdC _).trans rfl, ?_⟩
  refine T_impl_within_i ?_
  refine Br.intro (fun c_10 => ?_) (fun c_10 => ?_)
  · have e := e.trans (cond_t c_10)
    have c_10' := impl_within_t c_10
    refine ⟨c_Top, (o_5.rdC _).trans rfl, ?_⟩
    refine T_impl_within_i ?_
    refine Br.intro (fun c_11 => ?_) (fun c_11 => ?_)
    · have e := e.trans (cond_t c_11)
      have c_11' := impl_within_t c_11
      refine ⟨c_Bits_a, l_c_Bits.length, c_Bits_e, (o_5.rdC _).trans rfl, ?_⟩
      rw [e] at hk
      exact hk  H_1 g_8 
    · have e := e.trans (cond_f c_11)
      rw [e] at hk
      exact hk  H_1 g_8 
  · have e := e.trans (cond_f c_10)
    rw [e] at hk
    exact hk  H_1 g_8 
theorem impl_ValidCoded_ok : FnOk Try.prog 26 S_impl_ValidCoded := by
  refine FnOk.body mix_ok E_impl_ValidCoded_ok Try.func26 rfl (by kernel_rfl) (by kernel_rfl) ?_ ?_ ?_ ?_ ?_
  · intro args H K K' h hk
    simp only [S_impl_ValidCoded] at *
    unfold F_impl_ValidCoded at *
    split at hk
    · obtain ⟨l_c_Bits, i_c_Bits, bd_13, k⟩ := hk
      exact ⟨l_c_Bits, i_c_Bits, bd_13, (fun  H' gg  => h _ _ (k  H' gg ))⟩
    · exact hk.elim
  · intro hq; cases hq
  · intro args H K hk
    simp only [S_impl_ValidCoded] at *
    unfold F_impl_ValidCoded at *
    split at hk
    · obtain ⟨l_c_Bits, i_c_Bits, bd_13, k⟩ := hk
      exact ⟨_, _, k H (Grow.refl H)⟩
    · exact hk.elim
  · intro _ args H K hk
    simp only [S_impl_ValidCoded] at *
    unfold F_impl_ValidCoded at *
    split at hk
    · obtain ⟨l_c_Bits, i_c_Bits, bd_13, k⟩ := hk
      exact ⟨l_c_Bits, i_c_Bits, bd_13, (fun  H' gg  => ⟨gg, k  H' gg ⟩)⟩
    · exact hk.elim
  · have mm := @impl_ValidCoded_main
    revert mm
    generalize bodyK Try.prog E_impl_ValidCoded Try.f26 = Q
    intro mm args H K hk
    simp only [S_impl_ValidCoded] at *
    unfold F_impl_ValidCoded at *
    split at hk
    · exact mm _ _ _ _ _ H K hk
    · exact hk.elim
def p_laws_eqBoolS_l1 (l_a : List Bool) (l_b : List Bool) : Nat → Bool → Int → Bool
  | 0, _, _ => false
  | μ + 1, t4, i => (bif decide ((i : Int) < (l_a.length : Int)) then (bif !((((l_a).getD (i : Int).toNat false)) == (((l_b).getD (i : Int).toNat false))) then false else (p_laws_eqBoolS_l1 l_a l_b μ t4 (i + 1))) else true)
theorem p_laws_eqBoolS_l1_s (l_a : List Bool) (l_b : List Bool) (μ : Nat) (t4 : Bool) (i : Int) : p_laws_eqBoolS_l1 l_a l_b (μ + 1) t4 i = (bif decide ((i : Int) < (l_a.length : Int)) then (bif !((((l_a).getD (i : Int).toNat false)) == (((l_b).getD (i : Int).toNat false))) then false else (p_laws_eqBoolS_l1 l_a l_b μ t4 (i + 1))) else true) := rfl
def p_laws_eqBoolS (l_a : List Bool) (l_b : List Bool) : Bool := (bif ((l_a.length : Int) : Int) != (l_b.length : Int) then false else (p_laws_eqBoolS_l1 l_a l_b (Int.toNat ((l_a.length : Int) - (0 : Int)) + 1) false (0 : Int)))
theorem p_laws_eqBoolS_eq (l_a : List Bool) (l_b : List Bool) : p_laws_eqBoolS l_a l_b = (bif ((l_a.length : Int) : Int) != (l_b.length : Int) then false else (p_laws_eqBoolS_l1 l_a l_b (Int.toNat ((l_a.length : Int) - (0 : Int)) + 1) false (0 : Int))) := rfl
def T_laws_eqBoolS (a_a : Option Addr) (a_n : Nat) (a_e : Nat) (b_a : Option Addr) (b_n : Nat) (b_e : Nat) (H : AHeap) (K : Bool → AHeap → Prop) : Prop := ∃ (l_a : List Bool), ∃ (l_b : List Bool), IsL fB H a_a a_n l_a ∧ IsL fB H b_a b_n l_b ∧ l_a.length < 1073741824 ∧ l_b.length < 1073741824 ∧ K (p_laws_eqBoolS l_a l_b) H
theorem T_laws_eqBoolS_i {a_a : Option Addr} {a_n : Nat} {a_e : Nat} {b_a : Option Addr} {b_n : Nat} {b_e : Nat} {H : AHeap} {K : Bool → AHeap → Prop} (h : ∃ (l_a : List Bool), ∃ (l_b : List Bool), IsL fB H a_a a_n l_a ∧ IsL fB H b_a b_n l_b ∧ l_a.length < 1073741824 ∧ l_b.length < 1073741824 ∧ K (p_laws_eqBoolS l_a l_b) H) : T_laws_eqBoolS a_a a_n a_e b_a b_n b_e H K := h
theorem laws_eqBoolS_go (l : List Bool) : ∀ (μ : Nat) (t : Bool) (i : Nat), l.length - i < μ → p_laws_eqBoolS_l1 l l μ t (i : Int) = true := by
  intro μ
  induction μ with
  | zero => intro t i h; omega
  | succ μ ih =>
    intro t i hm
    rw [p_laws_eqBoolS_l1_s]
    by_cases h : i < l.length
    · rw [decide_eq_true (show (i : Int) < (l.length : Int) by omega), cond_true]
      simp only [BEq.rfl, Bool.not_true, cond_false]
      exact ih t (i + 1) (by omega)
    · rw [decide_eq_false (show ¬ (i : Int) < (l.length : Int) by omega), cond_false]
theorem laws_eqBoolS_self (l : List Bool) : p_laws_eqBoolS l l = true := by
  rw [p_laws_eqBoolS_eq]
  have h0 : ((l.length : Int) != (l.length : Int)) = false := by simp
  rw [h0, cond_false]
  exact laws_eqBoolS_go l _ false 0 (by omega)
/-! laws_eqBoolS: function 22 -/
def E_laws_eqBoolS : Env := envOf []
def F_laws_eqBoolS : List Value → AHeap → (Value → AHeap → Prop) → Prop
  | [.slice a_a a_n a_e, .slice b_a b_n b_e], H, K => T_laws_eqBoolS a_a a_n a_e b_a b_n b_e H fun (r1 : Bool) (H' : AHeap) => K (.bool r1) H'
  | _, _, _ => False
def S_laws_eqBoolS : FSpec := { F := F_laws_eqBoolS, quiet := true, tame := false }
theorem laws_eqBoolS_vc (a_a : Option Addr) (a_n : Nat) (a_e : Nat) (b_a : Option Addr) (b_n : Nat) (b_e : Nat) (H : AHeap) (K : Value → AHeap → Prop) : bodyK Try.prog E_laws_eqBoolS Try.f22 [.slice a_a a_n a_e, .slice b_a b_n b_e] H K =
  (Br (((a_n : Int) : Int) != (b_n : Int)) (K (.bool false) H) (loopK (exK Try.prog E_laws_eqBoolS (cl (cl (cr (cl (cr (cr (bodyC Try.f22)))))))) [.slice a_a a_n a_e, .slice b_a b_n b_e, undef, undef, .bool false, .int .i64 0, .slice a_a a_n a_e, .int .i64 (a_n : Int), .slice b_a b_n b_e, .int .i64 (b_n : Int), .bool (((a_n : Int) : Int) != (b_n : Int)), undef, undef, undef, undef, undef, undef, undef, undef, undef, undef, undef, undef, undef, undef, undef] H (blockQ 0 (seqQ (exK Try.prog E_laws_eqBoolS (cr (cr (cr (bodyC Try.f22))))) (retK Try.prog Try.f22 K))))) := by kernel_rfl
theorem laws_eqBoolS_r1 (a_a : Option Addr) (a_e : Nat) (a_n : Nat) (b_a : Option Addr) (b_e : Nat) (b_n : Nat) (t4 : Bool) (i : Int) (g11 g12 g13 g14 g15 g16 g17 g18 g19 g20 g21 g22 g23 g24 g25 : Value) (H : AHeap) (R : Post) : exK Try.prog E_laws_eqBoolS (cl (cl (cr (cl (cr (cr (bodyC Try.f22))))))) [.slice a_a a_n a_e, .slice b_a b_n b_e, undef, undef, .bool t4, .int .i64 i, .slice a_a a_n a_e, .int .i64 (a_n : Int), .slice b_a b_n b_e, .int .i64 (b_n : Int), .bool (((a_n : Int) : Int) != (b_n : Int)), g11, g12, g13, g14, g15, g16, g17, g18, g19, g20, g21, g22, g23, g24, g25] H R =
  (Br (decide ((i : Int) < (a_n : Int))) ((0 : Int) ≤ i ∧ i < (a_n : Int) ∧ ∃ b1 f1, (a_a : Option Addr) = some ⟨b1, f1, none⟩ ∧ ∃ x1 : Bool,  rdC H b1 (f1 + (i : Int).toNat * 1) = some (.bool x1) ∧ (0 : Int) ≤ i ∧ i < (b_n : Int) ∧ ∃ b2 f2, (b_a : Option Addr) = some ⟨b2, f2, none⟩ ∧ ∃ x2 : Bool,  rdC H b2 (f2 + (i : Int).toNat * 1) = some (.bool x2) ∧ Br (!(x1 == x2)) (R .ret [.slice a_a a_n a_e, .slice b_a b_n b_e, undef, undef, .bool false, .int .i64 i, .slice a_a a_n a_e, .int .i64 (a_n : Int), .slice b_a b_n b_e, .int .i64 (b_n : Int), .bool (((a_n : Int) : Int) != (b_n : Int)), .int .i64 i, .slice a_a a_n a_e, .int .i64 (a_n : Int), .bool (decide ((i : Int) < (a_n : Int))), g15, g16, .slice a_a a_n a_e, .int .i64 i, .pointer (some ⟨b1, f1 + (i : Int).toNat * 1, none⟩), .bool x1, .slice b_a b_n b_e, .int .i64 i, .pointer (some ⟨b2, f2 + (i : Int).toNat * 1, none⟩), .bool x2, .bool (!(x1 == x2))] H) (R .normal [.slice a_a a_n a_e, .slice b_a b_n b_e, undef, undef, .bool t4, .int .i64 (IntKind.wrap .i64 (i + 1)), .slice a_a a_n a_e, .int .i64 (a_n : Int), .slice b_a b_n b_e, .int .i64 (b_n : Int), .bool (((a_n : Int) : Int) != (b_n : Int)), .int .i64 i, .slice a_a a_n a_e, .int .i64 (a_n : Int), .bool (decide ((i : Int) < (a_n : Int))), .int .i64 i, .int .i64 (IntKind.wrap .i64 (i + 1)), .slice a_a a_n a_e, .int .i64 i, .pointer (some ⟨b1, f1 + (i : Int).toNat * 1, none⟩), .bool x1, .slice b_a b_n b_e, .int .i64 i, .pointer (some ⟨b2, f2 + (i : Int).toNat * 1, none⟩), .bool x2, .bool (!(x1 == x2))] H)) (R (.exit 0) [.slice a_a a_n a_e, .slice b_a b_n b_e, undef, undef, .bool t4, .int .i64 i, .slice a_a a_n a_e, .int .i64 (a_n : Int), .slice b_a b_n b_e, .int .i64 (b_n : Int), .bool (((a_n : Int) : Int) != (b_n : Int)), .int .i64 i, .slice a_a a_n a_e, .int .i64 (a_n : Int), .bool (decide ((i : Int) < (a_n : Int))), g15, g16, g17, g18, g19, g20, g21, g22, g23, g24, g25] H)) := by kernel_rfl
def laws_eqBoolS_I1 (a_a : Option Addr) (a_e : Nat) (a_n : Nat) (b_a : Option Addr) (b_e : Nat) (b_n : Nat) (Inv : Nat → Bool → Int → AHeap → Prop) : Nat → List Value → AHeap → Prop := fun μ tm H => ∃ (t4 : Bool), ∃ (i : Int), ∃ g11 g12 g13 g14 g15 g16 g17 g18 g19 g20 g21 g22 g23 g24 g25, tm = [.slice a_a a_n a_e, .slice b_a b_n b_e, undef, undef, .bool t4, .int .i64 i, .slice a_a a_n a_e, .int .i64 (a_n : Int), .slice b_a b_n b_e, .int .i64 (b_n : Int), .bool (((a_n : Int) : Int) != (b_n : Int)), g11, g12, g13, g14, g15, g16, g17, g18, g19, g20, g21, g22, g23, g24, g25] ∧ Inv μ t4 i H
theorem laws_eqBoolS_L1 (a_a : Option Addr) (a_e : Nat) (a_n : Nat) (b_a : Option Addr) (b_e : Nat) (b_n : Nat) {Q : Post} (Inv : Nat → Bool → Int → AHeap → Prop) (ν : Nat) (t4 : Bool) (i : Int) (g11 g12 g13 g14 g15 g16 g17 g18 g19 g20 g21 g22 g23 g24 g25 : Value) (H : AHeap) (h0 : Inv ν t4 i H)
    (hs : ∀ (μ : Nat) (t4 : Bool) (i : Int) (g11 g12 g13 g14 g15 g16 g17 g18 g19 g20 g21 g22 g23 g24 g25 : Value) (H : AHeap), Inv μ t4 i H → exK Try.prog E_laws_eqBoolS (cl (cl (cr (cl (cr (cr (bodyC Try.f22))))))) [.slice a_a a_n a_e, .slice b_a b_n b_e, undef, undef, .bool t4, .int .i64 i, .slice a_a a_n a_e, .int .i64 (a_n : Int), .slice b_a b_n b_e, .int .i64 (b_n : Int), .bool (((a_n : Int) : Int) != (b_n : Int)), g11, g12, g13, g14, g15, g16, g17, g18, g19, g20, g21, g22, g23, g24, g25] H (loopQ (laws_eqBoolS_I1 a_a a_e a_n b_a b_e b_n Inv) μ Q)) : loopK (exK Try.prog E_laws_eqBoolS (cl (cl (cr (cl (cr (cr (bodyC Try.f22)))))))) [.slice a_a a_n a_e, .slice b_a b_n b_e, undef, undef, .bool t4, .int .i64 i, .slice a_a a_n a_e, .int .i64 (a_n : Int), .slice b_a b_n b_e, .int .i64 (b_n : Int), .bool (((a_n : Int) : Int) != (b_n : Int)), g11, g12, g13, g14, g15, g16, g17, g18, g19, g20, g21, g22, g23, g24, g25] H Q :=
  ⟨laws_eqBoolS_I1 a_a a_e a_n b_a b_e b_n Inv, ν, ⟨t4, i, g11, g12, g13, g14, g15, g16, g17, g18, g19, g20, g21, g22, g23, g24, g25, rfl, h0⟩, fun μ tm H h => by obtain ⟨t4, i, g11, g12, g13, g14, g15, g16, g17, g18, g19, g20, g21, g22, g23, g24, g25, rfl, hI⟩ := h; exact hs μ t4 i g11 g12 g13 g14 g15 g16 g17 g18 g19 g20 g21 g22 g23 g24 g25 H hI⟩
theorem laws_eqBoolS_n1 {a_a : Option Addr} {a_e : Nat} {a_n : Nat} {b_a : Option Addr} {b_e : Nat} {b_n : Nat} {Q : Post} {Inv : Nat → Bool → Int → AHeap → Prop} {μ : Nat} (μ' : Nat) {t4 : Bool} {i : Int} {g11 g12 g13 g14 g15 g16 g17 g18 g19 g20 g21 g22 g23 g24 g25 : Value} {H : AHeap} (hm : μ' < μ) (hI : Inv μ' t4 i H) : loopQ (laws_eqBoolS_I1 a_a a_e a_n b_a b_e b_n Inv) μ Q .normal [.slice a_a a_n a_e, .slice b_a b_n b_e, undef, undef, .bool t4, .int .i64 i, .slice a_a a_n a_e, .int .i64 (a_n : Int), .slice b_a b_n b_e, .int .i64 (b_n : Int), .bool (((a_n : Int) : Int) != (b_n : Int)), g11, g12, g13, g14, g15, g16, g17, g18, g19, g20, g21, g22, g23, g24, g25] H := ⟨μ', hm, t4, i, g11, g12, g13, g14, g15, g16, g17, g18, g19, g20, g21, g22, g23, g24, g25, rfl, hI⟩
theorem laws_eqBoolS_x1_0 (a_a : Option Addr) (a_e : Nat) (a_n : Nat) (b_a : Option Addr) (b_e : Nat) (b_n : Nat) (t4 : Bool) (i : Int) (g11 g12 g13 g14 g15 g16 g17 g18 g19 g20 g21 g22 g23 g24 g25 : Value) (H : AHeap) (K : Value → AHeap → Prop)  {I : Nat → List Value → AHeap → Prop} {μ : Nat} : loopQ I μ (blockQ 0 (seqQ (exK Try.prog E_laws_eqBoolS (cr (cr (cr (bodyC Try.f22))))) (retK Try.prog Try.f22 K))) (.exit 0) [.slice a_a a_n a_e, .slice b_a b_n b_e, undef, undef, .bool t4, .int .i64 i, .slice a_a a_n a_e, .int .i64 (a_n : Int), .slice b_a b_n b_e, .int .i64 (b_n : Int), .bool (((a_n : Int) : Int) != (b_n : Int)), g11, g12, g13, g14, g15, g16, g17, g18, g19, g20, g21, g22, g23, g24, g25] H =
  (K (.bool true) H) := by kernel_rfl
theorem laws_eqBoolS_x1_ret (a_a : Option Addr) (a_e : Nat) (a_n : Nat) (b_a : Option Addr) (b_e : Nat) (b_n : Nat) (t4 : Bool) (i : Int) (g11 g12 g13 g14 g15 g16 g17 g18 g19 g20 g21 g22 g23 g24 g25 : Value) (H : AHeap) (K : Value → AHeap → Prop)  {I : Nat → List Value → AHeap → Prop} {μ : Nat} : loopQ I μ (blockQ 0 (seqQ (exK Try.prog E_laws_eqBoolS (cr (cr (cr (bodyC Try.f22))))) (retK Try.prog Try.f22 K))) .ret [.slice a_a a_n a_e, .slice b_a b_n b_e, undef, undef, .bool t4, .int .i64 i, .slice a_a a_n a_e, .int .i64 (a_n : Int), .slice b_a b_n b_e, .int .i64 (b_n : Int), .bool (((a_n : Int) : Int) != (b_n : Int)), g11, g12, g13, g14, g15, g16, g17, g18, g19, g20, g21, g22, g23, g24, g25] H =
  (K (.bool t4) H) := by kernel_rfl
theorem E_laws_eqBoolS_ok : ∀ g, FnOk Try.prog g (E_laws_eqBoolS g) := FnOk.envOf (by
  intro x hx; cases hx)
set_option maxHeartbeats 1000000 in
theorem laws_eqBoolS_main (a_a : Option Addr) (a_n : Nat) (a_e : Nat) (b_a : Option Addr) (b_n : Nat) (b_e : Nat) (H : AHeap) (K : Value → AHeap → Prop) (h : T_laws_eqBoolS a_a a_n a_e b_a b_n b_e H fun (r1 : Bool) (H' : AHeap) => K (.bool r1) H') : bodyK Try.prog E_laws_eqBoolS Try.f22 [.slice a_a a_n a_e, .slice b_a b_n b_e] H K := by
  rw [laws_eqBoolS_vc]
  obtain ⟨l_a, l_b, i_a, i_b, bd_13, bd_14, hk⟩ := h
  obtain rfl := i_a.eqn
  obtain rfl := i_b.eqn
  have e : (p_laws_eqBoolS l_a l_b) = _ := rfl
  have e := e.trans (p_laws_eqBoolS_eq l_a l_b)
  have g0 := Grow.refl H
  refine Br.intro (fun c_1 => ?_) (fun c_1 => ?_)
  · have e := e.trans (cond_t c_1)
    have c_1' := ine_t c_1
    rw [e] at hk
    exact hk
  · have e := e.trans (cond_f c_1)
    have c_1' := ine_f c_1
    refine laws_eqBoolS_L1 _ _ _ _ _ _ (fun (μ : Nat) (t4 : Bool) (i : Int) (H_1 : AHeap) => H = H_1 ∧ (0 : Int) ≤ i ∧ i ≤ (l_a.length : Int) ∧ (l_a.length : Int) - i ≤ (μ : Int) ∧ p_laws_eqBoolS l_a l_b = p_laws_eqBoolS_l1 l_a l_b (μ + 1) t4 i) (Int.toNat ((l_a.length : Int) - (0 : Int))) _ _ _ _ _ _ _ _ _ _ _ _ _ _ _ _ _ H ?_ ?_
    · exact ⟨rfl, (by first | omega | (simp; done) | (simp; omega)), (by first | omega | (simp; done) | (simp; omega)), (by omega), e⟩
    · intro μ t4 i g11 g12 g13 g14 g15 g16 g17 g18 g19 g20 g21 g22 g23 g24 g25 H_1 hI
      obtain ⟨rfl, v_2, v_3, hμ, e⟩ := hI
      rw [laws_eqBoolS_r1]
      have e := e.trans (p_laws_eqBoolS_l1_s l_a l_b μ t4 i)
      have l_4 := g0.1
      refine Br.intro (fun c_5 => ?_) (fun c_5 => ?_)
      · have e := e.trans (cond_t c_5)
        have c_5' := of_decide_eq_true c_5
        obtain ⟨b_6, f_7, q_8⟩ := ((i_a.grow g0)).pos (by first | omega | (simp only [List.length_set, List.length_replicate, List.length_append, List.length_cons, List.length_nil]; done) | (simp only [List.length_set, List.length_replicate, List.length_append, List.length_cons, List.length_nil]; omega))
        refine ⟨by omega, by omega, b_6, f_7, q_8, ?_⟩
        refine ⟨((l_a).getD (i : Int).toNat false), (i_a).rd g0 q_8 (by omega) _, ?_⟩
        obtain ⟨b_9, f_10, q_11⟩ := ((i_b.grow g0)).pos (by first | omega | (simp only [List.length_set, List.length_replicate, List.length_append, List.length_cons, List.length_nil]; done) | (simp only [List.length_set, List.length_replicate, List.length_append, List.length_cons, List.length_nil]; omega))
        refine ⟨by omega, by omega, b_9, f_10, q_11, ?_⟩
        refine ⟨((l_b).getD (i : Int).toNat false), (i_b).rd g0 q_11 (by omega) _, ?_⟩
        refine Br.intro (fun c_12 => ?_) (fun c_12 => ?_)
        · have e := e.trans (cond_t c_12)
          have c_12n := nf_of_t c_12
          rw [laws_eqBoolS_x1_ret]
          rw [e] at hk
          exact hk
        · have e := e.trans (cond_f c_12)
          have c_12n := nt_of_f c_12
          rw [show IntKind.wrap .i64 (i + 1) = (i + 1) from wrap64 (by omega) (by omega)]
          refine laws_eqBoolS_n1 (μ - 1) (by omega) ⟨rfl, (by first | omega | (simp only [List.length_append, List.length_cons, List.length_nil, List.length_set]; done) | (simp only [List.length_append, List.length_cons, List.length_nil, List.length_set]; omega)), (by first | omega | (simp only [List.length_append, List.length_cons, List.length_nil, List.length_set]; done) | (simp only [List.length_append, List.length_cons, List.length_nil, List.length_set]; omega)), (by omega), (by rw [show μ - 1 + 1 = μ from by omega]; exact e)⟩
      · have e := e.trans (cond_f c_5)
        have c_5' := of_decide_eq_false c_5
        rw [laws_eqBoolS_x1_0]
        rw [e] at hk
        exact hk
theorem laws_eqBoolS_ok : FnOk Try.prog 22 S_laws_eqBoolS := by
  refine FnOk.body mix_ok E_laws_eqBoolS_ok Try.func22 rfl (by kernel_rfl) (by kernel_rfl) ?_ ?_ ?_ ?_ ?_
  · intro args H K K' h hk
    simp only [S_laws_eqBoolS] at *
    unfold F_laws_eqBoolS at *
    split at hk
    · obtain ⟨l_a, l_b, i_a, i_b, bd_13, bd_14, k⟩ := hk
      exact ⟨l_a, l_b, i_a, i_b, bd_13, bd_14, h _ _ k⟩
    · exact hk.elim
  · intro _ args H K hk
    simp only [S_laws_eqBoolS] at *
    unfold F_laws_eqBoolS at *
    split at hk
    · obtain ⟨l_a, l_b, i_a, i_b, bd_13, bd_14, k⟩ := hk
      exact ⟨_, k, fun K' k' => ⟨l_a, l_b, i_a, i_b, bd_13, bd_14, k'⟩⟩
    · exact hk.elim
  · intro args H K hk
    simp only [S_laws_eqBoolS] at *
    unfold F_laws_eqBoolS at *
    split at hk
    · obtain ⟨l_a, l_b, i_a, i_b, bd_13, bd_14, k⟩ := hk
      exact ⟨_, _, k⟩
    · exact hk.elim
  · intro hq; cases hq
  · have mm := @laws_eqBoolS_main
    revert mm
    generalize bodyK Try.prog E_laws_eqBoolS Try.f22 = Q
    intro mm args H K hk
    simp only [S_laws_eqBoolS] at *
    unfold F_laws_eqBoolS at *
    split at hk
    · exact mm _ _ _ _ _ _ H K hk
    · exact hk.elim
def p_laws_eqCoded (a_Count : Int) (a_Top : Int) (l_a_Bits : List Bool) (b_Count : Int) (b_Top : Int) (l_b_Bits : List Bool) : Bool := (bif (a_Count : Int) != b_Count then false else (bif (a_Top : Int) != b_Top then false else (bif !(p_laws_eqBoolS l_a_Bits l_b_Bits) then false else true)))
theorem p_laws_eqCoded_eq (a_Count : Int) (a_Top : Int) (l_a_Bits : List Bool) (b_Count : Int) (b_Top : Int) (l_b_Bits : List Bool) : p_laws_eqCoded a_Count a_Top l_a_Bits b_Count b_Top l_b_Bits = (bif (a_Count : Int) != b_Count then false else (bif (a_Top : Int) != b_Top then false else (bif !(p_laws_eqBoolS l_a_Bits l_b_Bits) then false else true))) := rfl
def T_laws_eqCoded (a_Count : Int) (a_Top : Int) (a_Bits_a : Option Addr) (a_Bits_n : Nat) (a_Bits_e : Nat) (b_Count : Int) (b_Top : Int) (b_Bits_a : Option Addr) (b_Bits_n : Nat) (b_Bits_e : Nat) (H : AHeap) (K : Bool → AHeap → Prop) : Prop := ∃ (l_a_Bits : List Bool), ∃ (l_b_Bits : List Bool), IsL fB H a_Bits_a a_Bits_n l_a_Bits ∧ IsL fB H b_Bits_a b_Bits_n l_b_Bits ∧ l_a_Bits.length < 1073741824 ∧ l_b_Bits.length < 1073741824 ∧ ((∀ H' : AHeap, Grow H H' → K (p_laws_eqCoded a_Count a_Top l_a_Bits b_Count b_Top l_b_Bits) H'))
theorem T_laws_eqCoded_i {a_Count : Int} {a_Top : Int} {a_Bits_a : Option Addr} {a_Bits_n : Nat} {a_Bits_e : Nat} {b_Count : Int} {b_Top : Int} {b_Bits_a : Option Addr} {b_Bits_n : Nat} {b_Bits_e : Nat} {H : AHeap} {K : Bool → AHeap → Prop} (h : ∃ (l_a_Bits : List Bool), ∃ (l_b_Bits : List Bool), IsL fB H a_Bits_a a_Bits_n l_a_Bits ∧ IsL fB H b_Bits_a b_Bits_n l_b_Bits ∧ l_a_Bits.length < 1073741824 ∧ l_b_Bits.length < 1073741824 ∧ ((∀ H' : AHeap, Grow H H' → K (p_laws_eqCoded a_Count a_Top l_a_Bits b_Count b_Top l_b_Bits) H'))) : T_laws_eqCoded a_Count a_Top a_Bits_a a_Bits_n a_Bits_e b_Count b_Top b_Bits_a b_Bits_n b_Bits_e H K := h
theorem laws_eqCoded_self (a b : Int) (l : List Bool) : p_laws_eqCoded a b l a b l = true := by
  rw [p_laws_eqCoded_eq, laws_eqBoolS_self]
  simp
/-! laws_eqCoded: function 27 -/
def E_laws_eqCoded : Env := envOf [(22, S_laws_eqBoolS)]
def F_laws_eqCoded : List Value → AHeap → (Value → AHeap → Prop) → Prop
  | [.agg ⟨[.int .i64 a_Count, .int .i64 a_Top, .slice a_Bits_a a_Bits_n a_Bits_e]⟩, .agg ⟨[.int .i64 b_Count, .int .i64 b_Top, .slice b_Bits_a b_Bits_n b_Bits_e]⟩], H, K => T_laws_eqCoded a_Count a_Top a_Bits_a a_Bits_n a_Bits_e b_Count b_Top b_Bits_a b_Bits_n b_Bits_e H fun (r1 : Bool) (H' : AHeap) => K (.bool r1) H'
  | _, _, _ => False
def S_laws_eqCoded : FSpec := { F := F_laws_eqCoded, quiet := false, tame := true }
theorem laws_eqCoded_vc (a_Count : Int) (a_Top : Int) (a_Bits_a : Option Addr) (a_Bits_n : Nat) (a_Bits_e : Nat) (b_Count : Int) (b_Top : Int) (b_Bits_a : Option Addr) (b_Bits_n : Nat) (b_Bits_e : Nat) (H : AHeap) (K : Value → AHeap → Prop) : bodyK Try.prog E_laws_eqCoded Try.f27 [.agg #[.int .i64 a_Count, .int .i64 a_Top, .slice a_Bits_a a_Bits_n a_Bits_e], .agg #[.int .i64 b_Count, .int .i64 b_Top, .slice b_Bits_a b_Bits_n b_Bits_e]] H K =
  (Al [.int .i64 a_Count, .int .i64 a_Top, .slice a_Bits_a a_Bits_n a_Bits_e] H fun b1 H1 => Al [.int .i64 b_Count, .int .i64 b_Top, .slice b_Bits_a b_Bits_n b_Bits_e] H1 fun b2 H2 => ∃ x1 : Int,  rdC H2 b1 0 = some (.int .i64 x1) ∧ ∃ x2 : Int,  rdC H2 b2 0 = some (.int .i64 x2) ∧ Br ((x1 : Int) != x2) (K (.bool false) H2) (∃ x3 : Int,  rdC H2 b1 1 = some (.int .i64 x3) ∧ ∃ x4 : Int,  rdC H2 b2 1 = some (.int .i64 x4) ∧ Br ((x3 : Int) != x4) (K (.bool false) H2) (∃ x5_a : Option Addr, ∃ x5_n : Nat, ∃ x5_e : Nat,  rdC H2 b1 2 = some (.slice x5_a x5_n x5_e) ∧ ∃ x6_a : Option Addr, ∃ x6_n : Nat, ∃ x6_e : Nat,  rdC H2 b2 2 = some (.slice x6_a x6_n x6_e) ∧ T_laws_eqBoolS x5_a x5_n x5_e x6_a x6_n x6_e H2 fun (r1 : Bool) (H3 : AHeap) => Br (!r1) (K (.bool false) H3) (K (.bool true) H3)))) := by kernel_rfl
theorem E_laws_eqCoded_ok : ∀ g, FnOk Try.prog g (E_laws_eqCoded g) := FnOk.envOf (by
  intro x hx
  simp only [List.mem_cons, List.not_mem_nil, or_false] at hx
  subst hx; exact laws_eqBoolS_ok)
set_option maxHeartbeats 1000000 in
theorem laws_eqCoded_main (a_Count : Int) (a_Top : Int) (a_Bits_a : Option Addr) (a_Bits_n : Nat) (a_Bits_e : Nat) (b_Count : Int) (b_Top : Int) (b_Bits_a : Option Addr) (b_Bits_n : Nat) (b_Bits_e : Nat) (H : AHeap) (K : Value → AHeap → Prop) (h : T_laws_eqCoded a_Count a_Top a_Bits_a a_Bits_n a_Bits_e b_Count b_Top b_Bits_a b_Bits_n b_Bits_e H fun (r1 : Bool) (H' : AHeap) => K (.bool r1) H') : bodyK Try.prog E_laws_eqCoded Try.f27 [.agg #[.int .i64 a_Count, .int .i64 a_Top, .slice a_Bits_a a_Bits_n a_Bits_e], .agg #[.int .i64 b_Count, .int .i64 b_Top, .slice b_Bits_a b_Bits_n b_Bits_e]] H K := by
  rw [laws_eqCoded_vc]
  obtain ⟨l_a_Bits, l_b_Bits, i_a_Bits, i_b_Bits, bd_26, bd_27, hk⟩ := h
  obtain rfl := i_a_Bits.eqn
  obtain rfl := i_b_Bits.eqn
  have e : (p_laws_eqCoded a_Count a_Top l_a_Bits b_Count b_Top l_b_Bits) = _ := rfl
  have e := e.trans (p_laws_eqCoded_eq a_Count a_Top l_a_Bits b_Count b_Top l_b_Bits)
  have g0 := Grow.refl H
  refine Al.intro (fun b_1 H_1 hb_2 hl_3 g_4 o_5 => ?_)
  have l_7 := g_4.1
  have g_8 := g0.trans g_4
  have l_9 := g_8.1
  have w_25 := o_5.lt
  refine Al.intro (fun b_10 H_2 hb_11 hl_12 g_13 o_14 => ?_)
  have l_16 := g_13.1
  have g_17 := g_8.trans g_13
  have l_18 := g_17.1
  have o_19 := o_5.grow g_13
  have w_20 := o_19.lt
  have w_24 := o_14.lt
  refine ⟨a_Count, (o_19.rdC _).trans rfl, ?_⟩
  refine ⟨b_Count, (o_14.rdC _).trans rfl, ?_⟩
  refine Br.intro (fun c_21 => ?_) (fun c_21 => ?_)
  · have e := e.trans (cond_t c_21)
    have c_21' := ine_t c_21
    rw [e] at hk
    exact hk  H_2 g_17 
  · have e := e.trans (cond_f c_21)
    have c_21' := ine_f c_21
    refine ⟨a_Top, (o_19.rdC _).trans rfl, ?_⟩
    refine ⟨b_Top, (o_14.rdC _).trans rfl, ?_⟩
    refine Br.intro (fun c_22 => ?_) (fun c_22 => ?_)
    · have e := e.trans (cond_t c_22)
      have c_22' := ine_t c_22
      rw [e] at hk
      exact hk  H_2 g_17 
    · have e := e.trans (cond_f c_22)
      have c_22' := ine_f c_22
      refine ⟨a_Bits_a, l_a_Bits.length, a_Bits_e, (o_19.rdC _).trans rfl, ?_⟩
      refine ⟨b_Bits_a, l_b_Bits.length, b_Bits_e, (o_14.rdC _).trans rfl, ?_⟩
      refine T_laws_eqBoolS_i ⟨_, _, (i_a_Bits.grow g_17), (i_b_Bits.grow g_17), (by first | omega | (simp only [List.length_set, List.length_replicate, List.length_append, List.length_cons, List.length_nil]; done) | (simp only [List.length_set, List.length_replicate, List.length_append, List.length_cons, List.length_nil]; omega)), (by first | omega | (simp only [List.length_set, List.length_replicate, List.length_append, List.length_cons, List.length_nil]; done) | (simp only [List.length_set, List.length_replicate, List.length_append, List.length_cons, List.length_nil]; omega)), ?_⟩
      refine Br.intro (fun c_23 => ?_) (fun c_23 => ?_)
      · have e := e.trans (cond_t c_23)
        have c_23n := nf_of_t c_23
        rw [e] at hk
        exact hk  H_2 g_17 
      · have e := e.trans (cond_f c_23)
        have c_23n := nt_of_f c_23
        rw [e] at hk
        exact hk  H_2 g_17 
theorem laws_eqCoded_ok : FnOk Try.prog 27 S_laws_eqCoded := by
  refine FnOk.body mix_ok E_laws_eqCoded_ok Try.func27 rfl (by kernel_rfl) (by kernel_rfl) ?_ ?_ ?_ ?_ ?_
  · intro args H K K' h hk
    simp only [S_laws_eqCoded] at *
    unfold F_laws_eqCoded at *
    split at hk
    · obtain ⟨l_a_Bits, l_b_Bits, i_a_Bits, i_b_Bits, bd_26, bd_27, k⟩ := hk
      exact ⟨l_a_Bits, l_b_Bits, i_a_Bits, i_b_Bits, bd_26, bd_27, (fun  H' gg  => h _ _ (k  H' gg ))⟩
    · exact hk.elim
  · intro hq; cases hq
  · intro args H K hk
    simp only [S_laws_eqCoded] at *
    unfold F_laws_eqCoded at *
    split at hk
    · obtain ⟨l_a_Bits, l_b_Bits, i_a_Bits, i_b_Bits, bd_26, bd_27, k⟩ := hk
      exact ⟨_, _, k H (Grow.refl H)⟩
    · exact hk.elim
  · intro _ args H K hk
    simp only [S_laws_eqCoded] at *
    unfold F_laws_eqCoded at *
    split at hk
    · obtain ⟨l_a_Bits, l_b_Bits, i_a_Bits, i_b_Bits, bd_26, bd_27, k⟩ := hk
      exact ⟨l_a_Bits, l_b_Bits, i_a_Bits, i_b_Bits, bd_26, bd_27, (fun  H' gg  => ⟨gg, k  H' gg ⟩)⟩
    · exact hk.elim
  · have mm := @laws_eqCoded_main
    revert mm
    generalize bodyK Try.prog E_laws_eqCoded Try.f27 = Q
    intro mm args H K hk
    simp only [S_laws_eqCoded] at *
    unfold F_laws_eqCoded at *
    split at hk
    · exact mm _ _ _ _ _ _ _ _ _ _ H K hk
    · exact hk.elim
def p_laws_FnExactValidCoded (aC_Count : Int) (aC_Top : Int) (l_aC_Bits : List Bool) : Bool := (bif decide (((p_laws_szCoded aC_Count aC_Top l_aC_Bits (1048576 : Int)) : Int) < 0) then true else (bif !((p_impl_ValidCoded aC_Count aC_Top l_aC_Bits) == (p_spec_ValidCoded aC_Count aC_Top l_aC_Bits)) then false else (bif !(p_laws_eqCoded aC_Count aC_Top l_aC_Bits aC_Count aC_Top l_aC_Bits) then false else true)))
theorem p_laws_FnExactValidCoded_eq (aC_Count : Int) (aC_Top : Int) (l_aC_Bits : List Bool) : p_laws_FnExactValidCoded aC_Count aC_Top l_aC_Bits = (bif decide (((p_laws_szCoded aC_Count aC_Top l_aC_Bits (1048576 : Int)) : Int) < 0) then true else (bif !((p_impl_ValidCoded aC_Count aC_Top l_aC_Bits) == (p_spec_ValidCoded aC_Count aC_Top l_aC_Bits)) then false else (bif !(p_laws_eqCoded aC_Count aC_Top l_aC_Bits aC_Count aC_Top l_aC_Bits) then false else true))) := rfl
def T_laws_FnExactValidCoded (aC_Count : Int) (aC_Top : Int) (aC_Bits_a : Option Addr) (aC_Bits_n : Nat) (aC_Bits_e : Nat) (H : AHeap) (K : Bool → AHeap → Prop) : Prop := ∃ l_aC_Bits : List Bool, I64 aC_Count ∧ I64 aC_Top ∧ IsL fB H aC_Bits_a aC_Bits_n l_aC_Bits ∧ l_aC_Bits.length ≤ 9223372036854775807 ∧ ∀ H' : AHeap, K true H'
theorem laws_FnExactValidCoded_true (n t : Int) (l : List Bool) (hn : I64 n) (ht : I64 t) : p_laws_FnExactValidCoded n t l = true := by
  rw [p_laws_FnExactValidCoded_eq, laws_eqCoded_self, show p_impl_ValidCoded n t l = p_spec_ValidCoded n t l from rfl]
  cases decide ((p_laws_szCoded n t l (1048576 : Int) : Int) < 0) <;> simp
/-! laws_FnExactValidCoded: function 6 -/
def E_laws_FnExactValidCoded : Env := envOf [(23, S_laws_szCoded), (25, S_laws_toCoded), (24, S_spec_ValidCoded), (26, S_impl_ValidCoded), (27, S_laws_eqCoded)]
def F_laws_FnExactValidCoded : List Value → AHeap → (Value → AHeap → Prop) → Prop
  | [.agg ⟨[.int .i64 aC_Count, .int .i64 aC_Top, .slice aC_Bits_a aC_Bits_n aC_Bits_e]⟩], H, K => T_laws_FnExactValidCoded aC_Count aC_Top aC_Bits_a aC_Bits_n aC_Bits_e H fun (r1 : Bool) (H' : AHeap) => K (.bool r1) H'
  | _, _, _ => False
def S_laws_FnExactValidCoded : FSpec := { F := F_laws_FnExactValidCoded, quiet := false, tame := false }
theorem laws_FnExactValidCoded_vc (aC_Count : Int) (aC_Top : Int) (aC_Bits_a : Option Addr) (aC_Bits_n : Nat) (aC_Bits_e : Nat) (H : AHeap) (K : Value → AHeap → Prop) : bodyK Try.prog E_laws_FnExactValidCoded Try.f6 [.agg #[.int .i64 aC_Count, .int .i64 aC_Top, .slice aC_Bits_a aC_Bits_n aC_Bits_e]] H K =
  (Al [.int .i64 aC_Count, .int .i64 aC_Top, .slice aC_Bits_a aC_Bits_n aC_Bits_e] H fun b1 H1 => ∃ c1 : Int, ∃ c2 : Int, ∃ c3_a : Option Addr, ∃ c3_n : Nat, ∃ c3_e : Nat,  rdN H1 b1 0 3 = some [.int .i64 c1, .int .i64 c2, .slice c3_a c3_n c3_e] ∧ T_laws_szCoded c1 c2 c3_a c3_n c3_e 1048576 H1 fun (r1 : Int) (H2 : AHeap) => Br (decide ((r1 : Int) < 0)) (K (.bool true) H2) (∃ c4 : Int, ∃ c5 : Int, ∃ c6_a : Option Addr, ∃ c6_n : Nat, ∃ c6_e : Nat,  rdN H2 b1 0 3 = some [.int .i64 c4, .int .i64 c5, .slice c6_a c6_n c6_e] ∧ T_laws_toCoded c4 c5 c6_a c6_n c6_e H2 fun (r2 : Int) (r3 : Int) (a1 : Option Addr) (r4 : Nat) (r5 : Nat) (H3 : AHeap) => T_spec_ValidCoded r2 r3 a1 r4 r5 H3 fun (r6 : Bool) (H4 : AHeap) => ∃ c7 : Int, ∃ c8 : Int, ∃ c9_a : Option Addr, ∃ c9_n : Nat, ∃ c9_e : Nat,  rdN H4 b1 0 3 = some [.int .i64 c7, .int .i64 c8, .slice c9_a c9_n c9_e] ∧ T_laws_toCoded c7 c8 c9_a c9_n c9_e H4 fun (r7 : Int) (r8 : Int) (a2 : Option Addr) (r9 : Nat) (r10 : Nat) (H5 : AHeap) => Al [.int .i64 0, .int .i64 0, .slice none 0 0] H5 fun b2 H6 => isOwn H6 b2 ∧ (∃ l, rdN H6 b2 0 3 = some l) ∧ Lt (setN H6 b2 0 [.int .i64 r7, .int .i64 r8, .slice a2 r9 r10]) fun H7 => ∃ c10 : Int, ∃ c11 : Int, ∃ c12_a : Option Addr, ∃ c12_n : Nat, ∃ c12_e : Nat,  rdN H7 b2 0 3 = some [.int .i64 c10, .int .i64 c11, .slice c12_a c12_n c12_e] ∧ T_impl_ValidCoded c10 c11 c12_a c12_n c12_e H7 fun (r11 : Bool) (H8 : AHeap) => Br (!(r11 == r6)) (K (.bool false) H8) (∃ c13 : Int, ∃ c14 : Int, ∃ c15_a : Option Addr, ∃ c15_n : Nat, ∃ c15_e : Nat,  rdN H8 b1 0 3 = some [.int .i64 c13, .int .i64 c14, .slice c15_a c15_n c15_e] ∧ ∃ c16 : Int, ∃ c17 : Int, ∃ c18_a : Option Addr, ∃ c18_n : Nat, ∃ c18_e : Nat,  rdN H8 b2 0 3 = some [.int .i64 c16, .int .i64 c17, .slice c18_a c18_n c18_e] ∧ T_laws_toCoded c13 c14 c15_a c15_n c15_e H8 fun (r12 : Int) (r13 : Int) (a3 : Option Addr) (r14 : Nat) (r15 : Nat) (H9 : AHeap) => T_laws_eqCoded c16 c17 c18_a c18_n c18_e r12 r13 a3 r14 r15 H9 fun (r16 : Bool) (H10 : AHeap) => Br (!r16) (K (.bool false) H10) (K (.bool true) H10)))) := by kernel_rfl
theorem E_laws_FnExactValidCoded_ok : ∀ g, FnOk Try.prog g (E_laws_FnExactValidCoded g) := FnOk.envOf (by
  intro x hx
  simp only [List.mem_cons, List.not_mem_nil, or_false] at hx
  rcases hx with rfl | rfl | rfl | rfl | rfl
  · exact laws_szCoded_ok
  · exact laws_toCoded_ok
  · exact spec_ValidCoded_ok
  · exact impl_ValidCoded_ok
  · exact laws_eqCoded_ok)
set_option maxHeartbeats 1000000 in
theorem laws_FnExactValidCoded_main (aC_Count : Int) (aC_Top : Int) (aC_Bits_a : Option Addr) (aC_Bits_n : Nat) (aC_Bits_e : Nat) (H : AHeap) (K : Value → AHeap → Prop) (h : T_laws_FnExactValidCoded aC_Count aC_Top aC_Bits_a aC_Bits_n aC_Bits_e H fun (r1 : Bool) (H' : AHeap) => K (.bool r1) H') : bodyK Try.prog E_laws_FnExactValidCoded Try.f6 [.agg #[.int .i64 aC_Count, .int .i64 aC_Top, .slice aC_Bits_a aC_Bits_n aC_Bits_e]] H K := by
  rw [laws_FnExactValidCoded_vc]
  obtain ⟨l_aC_Bits, h_0, h_1, h_2, h_3, hk⟩ := h
  have i_aC_Bits := h_2
  obtain rfl := i_aC_Bits.eqn
  have hl := laws_FnExactValidCoded_true aC_Count aC_Top l_aC_Bits h_0 h_1
  have e : p_laws_FnExactValidCoded aC_Count aC_Top l_aC_Bits = _ := rfl
  have e := e.trans (p_laws_FnExactValidCoded_eq aC_Count aC_Top l_aC_Bits)
  have e := hl.symm.trans e
  have g0 := Grow.refl H
  refine Al.intro (fun b_1 H_1 hb_2 hl_3 g_4 o_5 => ?_)
  have l_7 := g_4.1
  have g_8 := g0.trans g_4
  have l_9 := g_8.1
  have w_117 := o_5.lt
  refine ⟨aC_Count, aC_Top, aC_Bits_a, l_aC_Bits.length, aC_Bits_e, (o_5.rdN (Nat.le_of_ble_eq_true rfl)).trans rfl, ?_⟩
  refine T_laws_szCoded_i ⟨_, (i_aC_Bits.grow g_8), fun  H_2 g_11  => ?_⟩
  have z_10 := laws_szCoded_f aC_Count aC_Top l_aC_Bits (1048576 : Int)
  have l_12 := g_11.1
  have g_13 := g_8.trans g_11
  have l_14 := g_13.1
  have o_15 := o_5.grow g_11
  have w_16 := o_15.lt
  refine Br.intro (fun c_17 => ?_) (fun c_17 => ?_)
  · have e := e.trans (cond_t c_17)
    have c_17' := of_decide_eq_true c_17
    first | exact hk _ | (exfalso; cases e; done) | (rw [← e]; exact hk _)
  · have e := e.trans (cond_f c_17)
    have c_17' := of_decide_eq_false c_17
    refine ⟨aC_Count, aC_Top, aC_Bits_a, l_aC_Bits.length, aC_Bits_e, (o_15.rdN (Nat.le_of_ble_eq_true rfl)).trans rfl, ?_⟩
    refine T_laws_toCoded_i ⟨_, (i_aC_Bits.grow g_13), (by first | omega | (simp only [List.length_set, List.length_replicate, List.length_append, List.length_cons, List.length_nil]; done) | (simp only [List.length_set, List.length_replicate, List.length_append, List.length_cons, List.length_nil]; omega)), fun a_18 n_19 e_20 H_3 g_22 r_21 => ?_⟩
    have l_23 := g_22.1
    have g_24 := g_13.trans g_22
    have l_25 := g_24.1
    have o_26 := o_15.grow g_22
    have w_27 := o_26.lt
    obtain rfl := r_21.isL.eqn
    have u_28 := r_21.up
    have u_29 := r_21.lo
    refine T_spec_ValidCoded_i ⟨_, r_21.isL, (by first | omega | (simp only [List.length_set, List.length_replicate, List.length_append, List.length_cons, List.length_nil]; done) | (simp only [List.length_set, List.length_replicate, List.length_append, List.length_cons, List.length_nil]; omega)), fun  H_4 g_31  => ?_⟩
    have l_32 := g_31.1
    have g_33 := g_24.trans g_31
    have l_34 := g_33.1
    have o_35 := o_26.grow g_31
    have w_36 := o_35.lt
    have r_37 := r_21.grow g_31
    refine ⟨aC_Count, aC_Top, aC_Bits_a, l_aC_Bits.length, aC_Bits_e, (o_35.rdN (Nat.le_of_ble_eq_true rfl)).trans rfl, ?_⟩
    refine T_laws_toCoded_i ⟨_, (i_aC_Bits.grow g_33), (by first | omega | (simp only [List.length_set, List.length_replicate, List.length_append, List.length_cons, List.length_nil]; done) | (simp only [List.length_set, List.length_replicate, List.length_append, List.length_cons, List.length_nil]; omega)), fun a_38 n_39 e_40 H_5 g_42 r_41 => ?_⟩
    have l_43 := g_42.1
    have g_44 := g_33.trans g_42
    have l_45 := g_44.1
    have o_46 := o_35.grow g_42
    have w_47 := o_46.lt
    have r_48 := r_37.grow g_42
    obtain rfl := r_41.isL.eqn
    have u_49 := r_41.up
    have u_50 := r_41.lo
    refine Al.intro (fun b_52 H_6 hb_53 hl_54 g_55 o_56 => ?_)
    have l_58 := g_55.1
    have g_59 := g_44.trans g_55
    have l_60 := g_59.1
    have o_61 := o_46.grow g_55
    have w_62 := o_61.lt
    have r_63 := r_48.grow g_55
    have r_64 := r_41.grow g_55
    have w_116 := o_56.lt
    refine Lt.setN (n := 3) o_56 (Nat.le_of_ble_eq_true rfl) rfl (fun H_7 hl_65 o_67 k_66 => ?_)
    have o_67 : Own H_7 b_52 [.int .i64 aC_Count, .int .i64 aC_Top, .slice a_38 ((l_aC_Bits).length) e_40] := o_67
    have l_68 := k_66.1
    have g_69 := g_59.keep (b := b_52) (by omega) k_66
    have l_70 := g_69.1
    have o_71 := o_61.keep (by omega) k_66
    have w_72 := o_71.lt
    have r_73 := r_63.keep u_28 (by omega) k_66
    have r_74 := r_64.keep u_49 (by omega) k_66
    have w_115 := o_67.lt
    refine ⟨aC_Count, aC_Top, a_38, (l_aC_Bits).length, e_40, (o_67.rdN (Nat.le_of_ble_eq_true rfl)).trans rfl, ?_⟩
    refine T_impl_ValidCoded_i ⟨_, r_74.isL, (by first | omega | (simp only [List.length_set, List.length_replicate, List.length_append, List.length_cons, List.length_nil]; done) | (simp only [List.length_set, List.length_replicate, List.length_append, List.length_cons, List.length_nil]; omega)), fun  H_8 g_75  => ?_⟩
    have l_76 := g_75.1
    have g_77 := g_69.trans g_75
    have l_78 := g_77.1
    have o_79 := o_71.grow g_75
    have w_80 := o_79.lt
    have o_81 := o_67.grow g_75
    have w_82 := o_81.lt
    have r_83 := r_73.grow g_75
    have r_84 := r_74.grow g_75
    refine Br.intro (fun c_85 => ?_) (fun c_85 => ?_)
    · have e := e.trans (cond_t c_85)
      have c_85n := nf_of_t c_85
      first | exact hk _ | (exfalso; cases e; done) | (rw [← e]; exact hk _)
    · have e := e.trans (cond_f c_85)
      have c_85n := nt_of_f c_85
      refine ⟨aC_Count, aC_Top, aC_Bits_a, l_aC_Bits.length, aC_Bits_e, (o_79.rdN (Nat.le_of_ble_eq_true rfl)).trans rfl, ?_⟩
      refine ⟨aC_Count, aC_Top, a_38, (l_aC_Bits).length, e_40, (o_81.rdN (Nat.le_of_ble_eq_true rfl)).trans rfl, ?_⟩
      refine T_laws_toCoded_i ⟨_, (i_aC_Bits.grow g_77), (by first | omega | (simp only [List.length_set, List.length_replicate, List.length_append, List.length_cons, List.length_nil]; done) | (simp only [List.length_set, List.length_replicate, List.length_append, List.length_cons, List.length_nil]; omega)), fun a_86 n_87 e_88 H_9 g_90 r_89 => ?_⟩
      have l_91 := g_90.1
      have g_92 := g_77.trans g_90
      have l_93 := g_92.1
      have o_94 := o_79.grow g_90
      have w_95 := o_94.lt
      have o_96 := o_81.grow g_90
      have w_97 := o_96.lt
      have r_98 := r_83.grow g_90
      have r_99 := r_84.grow g_90
      obtain rfl := r_89.isL.eqn
      have u_100 := r_89.up
      have u_101 := r_89.lo
      refine T_laws_eqCoded_i ⟨_, _, r_99.isL, r_89.isL, (by first | omega | (simp only [List.length_set, List.length_replicate, List.length_append, List.length_cons, List.length_nil]; done) | (simp only [List.length_set, List.length_replicate, List.length_append, List.length_cons, List.length_nil]; omega)), (by first | omega | (simp only [List.length_set, List.length_replicate, List.length_append, List.length_cons, List.length_nil]; done) | (simp only [List.length_set, List.length_replicate, List.length_append, List.length_cons, List.length_nil]; omega)), fun  H_10 g_103  => ?_⟩
      have l_104 := g_103.1
      have g_105 := g_92.trans g_103
      have l_106 := g_105.1
      have o_107 := o_94.grow g_103
      have w_108 := o_107.lt
      have o_109 := o_96.grow g_103
      have w_110 := o_109.lt
      have r_111 := r_98.grow g_103
      have r_112 := r_99.grow g_103
      have r_113 := r_89.grow g_103
      refine Br.intro (fun c_114 => ?_) (fun c_114 => ?_)
      · have e := e.trans (cond_t c_114)
        have c_114n := nf_of_t c_114
        first | exact hk _ | (exfalso; cases e; done) | (rw [← e]; exact hk _)
      · have e := e.trans (cond_f c_114)
        have c_114n := nt_of_f c_114
        first | exact hk _ | (exfalso; cases e; done) | (rw [← e]; exact hk _)
theorem laws_FnExactValidCoded_ok : FnOk Try.prog 6 S_laws_FnExactValidCoded := by
  refine FnOk.body mix_ok E_laws_FnExactValidCoded_ok Try.func6 rfl (by kernel_rfl) (by kernel_rfl) ?_ ?_ ?_ ?_ ?_
  · intro args H K K' h hk
    simp only [S_laws_FnExactValidCoded] at *
    unfold F_laws_FnExactValidCoded at *
    split at hk
    · obtain ⟨l_aC_Bits, h_0, h_1, h_2, h_3, k⟩ := hk
      exact ⟨l_aC_Bits, h_0, h_1, h_2, h_3, (fun H' => h _ _ (k H'))⟩
    · exact hk.elim
  · intro hq; cases hq
  · intro args H K hk
    simp only [S_laws_FnExactValidCoded] at *
    unfold F_laws_FnExactValidCoded at *
    split at hk
    · obtain ⟨l_aC_Bits, h_0, h_1, h_2, h_3, k⟩ := hk
      exact ⟨_, _, k []⟩
    · exact hk.elim
  · intro hq; cases hq
  · have mm := @laws_FnExactValidCoded_main
    revert mm
    generalize bodyK Try.prog E_laws_FnExactValidCoded Try.f6 = Q
    intro mm args H K hk
    simp only [S_laws_FnExactValidCoded] at *
    unfold F_laws_FnExactValidCoded at *
    split at hk
    · exact mm _ _ _ _ _ H K hk
    · exact hk.elim
end Go.Proofs.Ytfofkmlohmodeaa.Ai
