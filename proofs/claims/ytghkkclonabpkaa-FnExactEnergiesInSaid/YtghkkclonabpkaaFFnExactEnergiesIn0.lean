/- What functions of the program come to on the abstract machine, and that they do so; printed by a program of mine around proofs of mine. -/
import Derived.Test.YtghkkclonabpkaaProg
import Derived.Test.YtghkkclonabpkaaLibA
import Derived.Test.YtghkkclonabpkaaOpen
import Derived.Test.YtghkkclonabpkaaLibB
import Derived.Test.YtghkkclonabpkaaFl
import Derived.Test.YtghkkclonabpkaaExt
import Derived.Test.YtghkkclonabpkaaFm
import Derived.Test.YtghkkclonabpkaaFb
import Derived.Test.YtghkkclonabpkaaFs
import Derived.Test.YtghkkclonabpkaaSo
import Derived.Test.YtghkkclonabpkaaKe
import Derived.Test.YtghkkclonabpkaaPi
set_option linter.unusedVariables false
set_option linter.unusedSimpArgs false
set_option maxRecDepth 100000
namespace Go.Proofs.Ytghkkclonabpkaa.Ai
open Go
attribute [local irreducible] bodyK
theorem mix_ok : Try.prog.follows .mixedOrders = true := by kernel_rfl

def p_laws_szFloat32S (l_a : List Nat) (left : Int) : Int := (bif decide ((IntKind.wrap .i64 (left - (l_a.length : Int)) : Int) < 0) then ((-1) : Int) else IntKind.wrap .i64 (left - (l_a.length : Int)))
theorem p_laws_szFloat32S_eq (l_a : List Nat) (left : Int) : p_laws_szFloat32S l_a left = (bif decide ((IntKind.wrap .i64 (left - (l_a.length : Int)) : Int) < 0) then ((-1) : Int) else IntKind.wrap .i64 (left - (l_a.length : Int))) := rfl
def T_laws_szFloat32S (a_a : Option Addr) (a_n : Nat) (a_e : Nat) (left : Int) (H : AHeap) (K : Int → AHeap → Prop) : Prop := ∃ (l_a : List Nat), IsL fF H a_a a_n l_a ∧ K (p_laws_szFloat32S l_a left) H
theorem T_laws_szFloat32S_i {a_a : Option Addr} {a_n : Nat} {a_e : Nat} {left : Int} {H : AHeap} {K : Int → AHeap → Prop} (h : ∃ (l_a : List Nat), IsL fF H a_a a_n l_a ∧ K (p_laws_szFloat32S l_a left) H) : T_laws_szFloat32S a_a a_n a_e left H K := h
theorem laws_szFloat32S_f (l : List Nat) (left : Int) : 0 ≤ left → left ≤ 1048576 → l.length ≤ 9223372036854775807 → p_laws_szFloat32S l left < 0 ∨ (l.length : Int) ≤ left ∧ p_laws_szFloat32S l left = left - l.length := by
  intro h0 h1 h2
  rw [p_laws_szFloat32S_eq, wrap64 (by omega) (by omega)]
  by_cases h : left - (l.length : Int) < 0
  · rw [decide_eq_true h, cond_true]; left; decide
  · rw [decide_eq_false h, cond_false]; right; omega
/-! laws_szFloat32S: function 88 -/
def E_laws_szFloat32S : Env := envOf []
def F_laws_szFloat32S : List Value → AHeap → (Value → AHeap → Prop) → Prop
  | [.slice a_a a_n a_e, .int .i64 left], H, K => T_laws_szFloat32S a_a a_n a_e left H fun (r1 : Int) (H' : AHeap) => K (.int .i64 r1) H'
  | _, _, _ => False
def S_laws_szFloat32S : FSpec := { F := F_laws_szFloat32S, quiet := true, tame := false }
theorem laws_szFloat32S_vc (a_a : Option Addr) (a_n : Nat) (a_e : Nat) (left : Int) (H : AHeap) (K : Value → AHeap → Prop) : bodyK Try.prog E_laws_szFloat32S Try.f88 [.slice a_a a_n a_e, .int .i64 left] H K =
  (Br (decide ((IntKind.wrap .i64 (left - (a_n : Int)) : Int) < 0)) (K (.int .i64 (-1)) H) (K (.int .i64 (IntKind.wrap .i64 (left - (a_n : Int)))) H)) := by kernel_rfl
theorem E_laws_szFloat32S_ok : ∀ g, FnOk Try.prog g (E_laws_szFloat32S g) := FnOk.envOf (by
  intro x hx; cases hx)
set_option maxHeartbeats 1000000 in
theorem laws_szFloat32S_main (a_a : Option Addr) (a_n : Nat) (a_e : Nat) (left : Int) (H : AHeap) (K : Value → AHeap → Prop) (h : T_laws_szFloat32S a_a a_n a_e left H fun (r1 : Int) (H' : AHeap) => K (.int .i64 r1) H') : bodyK Try.prog E_laws_szFloat32S Try.f88 [.slice a_a a_n a_e, .int .i64 left] H K := by
  rw [laws_szFloat32S_vc]
  obtain ⟨l_a, i_a, hk⟩ := h
  obtain rfl := i_a.eqn
  have e : (p_laws_szFloat32S l_a left) = _ := rfl
  have e := e.trans (p_laws_szFloat32S_eq l_a left)
  have g0 := Grow.refl H
  refine Br.intro (fun c_1 => ?_) (fun c_1 => ?_)
  · have e := e.trans (cond_t c_1)
    have c_1' := of_decide_eq_true c_1
    rw [e] at hk
    exact hk
  · have e := e.trans (cond_f c_1)
    have c_1' := of_decide_eq_false c_1
    rw [e] at hk
    exact hk
theorem laws_szFloat32S_ok : FnOk Try.prog 88 S_laws_szFloat32S := by
  refine FnOk.body mix_ok E_laws_szFloat32S_ok Try.func88 rfl (by kernel_rfl) (by kernel_rfl) ?_ ?_ ?_ ?_ ?_
  · intro args H K K' h hk
    simp only [S_laws_szFloat32S] at *
    unfold F_laws_szFloat32S at *
    split at hk
    · obtain ⟨l_a, i_a, k⟩ := hk
      exact ⟨l_a, i_a, h _ _ k⟩
    · exact hk.elim
  · intro _ args H K hk
    simp only [S_laws_szFloat32S] at *
    unfold F_laws_szFloat32S at *
    split at hk
    · obtain ⟨l_a, i_a, k⟩ := hk
      exact ⟨_, k, fun K' k' => ⟨l_a, i_a, k'⟩⟩
    · exact hk.elim
  · intro args H K hk
    simp only [S_laws_szFloat32S] at *
    unfold F_laws_szFloat32S at *
    split at hk
    · obtain ⟨l_a, i_a, k⟩ := hk
      exact ⟨_, _, k⟩
    · exact hk.elim
  · intro hq; cases hq
  · have mm := @laws_szFloat32S_main
    revert mm
    generalize bodyK Try.prog E_laws_szFloat32S Try.f88 = Q
    intro mm args H K hk
    simp only [S_laws_szFloat32S] at *
    unfold F_laws_szFloat32S at *
    split at hk
    · exact mm _ _ _ _ H K hk
    · exact hk.elim

def p_laws_szPicture (a_Wide : Int) (a_High : Int) (l_a_Lights : List Nat) (left : Int) : Int := (bif decide (((p_laws_szFloat32S l_a_Lights left) : Int) < 0) then ((-1) : Int) else (p_laws_szFloat32S l_a_Lights left))
theorem p_laws_szPicture_eq (a_Wide : Int) (a_High : Int) (l_a_Lights : List Nat) (left : Int) : p_laws_szPicture a_Wide a_High l_a_Lights left = (bif decide (((p_laws_szFloat32S l_a_Lights left) : Int) < 0) then ((-1) : Int) else (p_laws_szFloat32S l_a_Lights left)) := rfl
def T_laws_szPicture (a_Wide : Int) (a_High : Int) (a_Lights_a : Option Addr) (a_Lights_n : Nat) (a_Lights_e : Nat) (left : Int) (H : AHeap) (K : Int → AHeap → Prop) : Prop := ∃ (l_a_Lights : List Nat), IsL fF H a_Lights_a a_Lights_n l_a_Lights ∧ ((∀ H' : AHeap, Grow H H' → K (p_laws_szPicture a_Wide a_High l_a_Lights left) H'))
theorem T_laws_szPicture_i {a_Wide : Int} {a_High : Int} {a_Lights_a : Option Addr} {a_Lights_n : Nat} {a_Lights_e : Nat} {left : Int} {H : AHeap} {K : Int → AHeap → Prop} (h : ∃ (l_a_Lights : List Nat), IsL fF H a_Lights_a a_Lights_n l_a_Lights ∧ ((∀ H' : AHeap, Grow H H' → K (p_laws_szPicture a_Wide a_High l_a_Lights left) H'))) : T_laws_szPicture a_Wide a_High a_Lights_a a_Lights_n a_Lights_e left H K := h
theorem laws_szPicture_f (a b : Int) (l : List Nat) (left : Int) : 0 ≤ left → left ≤ 1048576 → l.length ≤ 9223372036854775807 → p_laws_szPicture a b l left < 0 ∨ (l.length : Int) ≤ left ∧ p_laws_szPicture a b l left = left - l.length := by
  intro h0 h1 h2
  have := laws_szFloat32S_f l left h0 h1 h2
  rw [p_laws_szPicture_eq]
  by_cases h : p_laws_szFloat32S l left < 0
  · rw [decide_eq_true h, cond_true]; left; decide
  · rw [decide_eq_false h, cond_false]; right; omega
/-! laws_szPicture: function 37 -/
def E_laws_szPicture : Env := envOf [(88, S_laws_szFloat32S)]
def F_laws_szPicture : List Value → AHeap → (Value → AHeap → Prop) → Prop
  | [.agg ⟨[.int .i64 a_Wide, .int .i64 a_High, .slice a_Lights_a a_Lights_n a_Lights_e]⟩, .int .i64 left], H, K => T_laws_szPicture a_Wide a_High a_Lights_a a_Lights_n a_Lights_e left H fun (r1 : Int) (H' : AHeap) => K (.int .i64 r1) H'
  | _, _, _ => False
def S_laws_szPicture : FSpec := { F := F_laws_szPicture, quiet := false, tame := true }
theorem laws_szPicture_vc (a_Wide : Int) (a_High : Int) (a_Lights_a : Option Addr) (a_Lights_n : Nat) (a_Lights_e : Nat) (left : Int) (H : AHeap) (K : Value → AHeap → Prop) : bodyK Try.prog E_laws_szPicture Try.f37 [.agg #[.int .i64 a_Wide, .int .i64 a_High, .slice a_Lights_a a_Lights_n a_Lights_e], .int .i64 left] H K =
  (Al [.int .i64 a_Wide, .int .i64 a_High, .slice a_Lights_a a_Lights_n a_Lights_e] H fun b1 H1 => ∃ x1_a : Option Addr, ∃ x1_n : Nat, ∃ x1_e : Nat,  rdC H1 b1 2 = some (.slice x1_a x1_n x1_e) ∧ T_laws_szFloat32S x1_a x1_n x1_e left H1 fun (r1 : Int) (H2 : AHeap) => Br (decide ((r1 : Int) < 0)) (K (.int .i64 (-1)) H2) (K (.int .i64 r1) H2)) := by kernel_rfl
theorem E_laws_szPicture_ok : ∀ g, FnOk Try.prog g (E_laws_szPicture g) := FnOk.envOf (by
  intro x hx
  simp only [List.mem_cons, List.not_mem_nil, or_false] at hx
  subst hx; exact laws_szFloat32S_ok)
set_option maxHeartbeats 1000000 in
theorem laws_szPicture_main (a_Wide : Int) (a_High : Int) (a_Lights_a : Option Addr) (a_Lights_n : Nat) (a_Lights_e : Nat) (left : Int) (H : AHeap) (K : Value → AHeap → Prop) (h : T_laws_szPicture a_Wide a_High a_Lights_a a_Lights_n a_Lights_e left H fun (r1 : Int) (H' : AHeap) => K (.int .i64 r1) H') : bodyK Try.prog E_laws_szPicture Try.f37 [.agg #[.int .i64 a_Wide, .int .i64 a_High, .slice a_Lights_a a_Lights_n a_Lights_e], .int .i64 left] H K := by
  rw [laws_szPicture_vc]
  obtain ⟨l_a_Lights, i_a_Lights, hk⟩ := h
  obtain rfl := i_a_Lights.eqn
  have e : (p_laws_szPicture a_Wide a_High l_a_Lights left) = _ := rfl
  have e := e.trans (p_laws_szPicture_eq a_Wide a_High l_a_Lights left)
  have g0 := Grow.refl H
  refine Al.intro (fun b_1 H_1 hb_2 hl_3 g_4 o_5 => ?_)
  have l_7 := g_4.1
  have g_8 := g0.trans g_4
  have l_9 := g_8.1
  have w_12 := o_5.lt
  refine ⟨a_Lights_a, l_a_Lights.length, a_Lights_e, (o_5.rdC _).trans rfl, ?_⟩
  refine T_laws_szFloat32S_i ⟨_, (i_a_Lights.grow g_8), ?_⟩
  have z_10 := laws_szFloat32S_f l_a_Lights left
  refine Br.intro (fun c_11 => ?_) (fun c_11 => ?_)
  · have e := e.trans (cond_t c_11)
    have c_11' := of_decide_eq_true c_11
    rw [e] at hk
    exact hk  H_1 g_8 
  · have e := e.trans (cond_f c_11)
    have c_11' := of_decide_eq_false c_11
    rw [e] at hk
    exact hk  H_1 g_8 
theorem laws_szPicture_ok : FnOk Try.prog 37 S_laws_szPicture := by
  refine FnOk.body mix_ok E_laws_szPicture_ok Try.func37 rfl (by kernel_rfl) (by kernel_rfl) ?_ ?_ ?_ ?_ ?_
  · intro args H K K' h hk
    simp only [S_laws_szPicture] at *
    unfold F_laws_szPicture at *
    split at hk
    · obtain ⟨l_a_Lights, i_a_Lights, k⟩ := hk
      exact ⟨l_a_Lights, i_a_Lights, (fun  H' gg  => h _ _ (k  H' gg ))⟩
    · exact hk.elim
  · intro hq; cases hq
  · intro args H K hk
    simp only [S_laws_szPicture] at *
    unfold F_laws_szPicture at *
    split at hk
    · obtain ⟨l_a_Lights, i_a_Lights, k⟩ := hk
      exact ⟨_, _, k H (Grow.refl H)⟩
    · exact hk.elim
  · intro _ args H K hk
    simp only [S_laws_szPicture] at *
    unfold F_laws_szPicture at *
    split at hk
    · obtain ⟨l_a_Lights, i_a_Lights, k⟩ := hk
      exact ⟨l_a_Lights, i_a_Lights, (fun  H' gg  => ⟨gg, k  H' gg ⟩)⟩
    · exact hk.elim
  · have mm := @laws_szPicture_main
    revert mm
    generalize bodyK Try.prog E_laws_szPicture Try.f37 = Q
    intro mm args H K hk
    simp only [S_laws_szPicture] at *
    unfold F_laws_szPicture at *
    split at hk
    · exact mm _ _ _ _ _ _ H K hk
    · exact hk.elim

def p_laws_toFloat32S_l1 (l_a : List Nat) : Nat → Int → (List Nat) → (List Nat)
  | 0, _, _ => []
  | μ + 1, i, y1_1 => (bif decide ((i : Int) < (l_a.length : Int)) then (p_laws_toFloat32S_l1 l_a μ (i + 1) (((y1_1).set (i : Int).toNat ((((l_a).getD (i : Int).toNat 0)))))) else y1_1)
theorem p_laws_toFloat32S_l1_s (l_a : List Nat) (μ : Nat) (i : Int) (y1_1 : List Nat) : p_laws_toFloat32S_l1 l_a (μ + 1) i y1_1 = (bif decide ((i : Int) < (l_a.length : Int)) then (p_laws_toFloat32S_l1 l_a μ (i + 1) (((y1_1).set (i : Int).toNat ((((l_a).getD (i : Int).toNat 0)))))) else y1_1) := rfl
def p_laws_toFloat32S (l_a : List Nat) : (List Nat) := (p_laws_toFloat32S_l1 l_a (Int.toNat ((l_a.length : Int) - (0 : Int)) + 1) (0 : Int) (List.replicate (((l_a.length : Int)).toNat) 0))
theorem p_laws_toFloat32S_eq (l_a : List Nat) : p_laws_toFloat32S l_a = (p_laws_toFloat32S_l1 l_a (Int.toNat ((l_a.length : Int) - (0 : Int)) + 1) (0 : Int) (List.replicate (((l_a.length : Int)).toNat) 0)) := rfl
def T_laws_toFloat32S (a_a : Option Addr) (a_n : Nat) (a_e : Nat) (H : AHeap) (K : (Option Addr) → Nat → Nat → AHeap → Prop) : Prop := ∃ (l_a : List Nat), IsL fF H a_a a_n l_a ∧ l_a.length < 1073741824 ∧ ((∀ (r1_a : Option Addr) (r1_n r1_e : Nat), ∀ H' : AHeap, Grow H H' → OwnS fF H' H.length r1_a r1_n r1_e l_a → K r1_a r1_n r1_e H'))
theorem T_laws_toFloat32S_i {a_a : Option Addr} {a_n : Nat} {a_e : Nat} {H : AHeap} {K : (Option Addr) → Nat → Nat → AHeap → Prop} (h : ∃ (l_a : List Nat), IsL fF H a_a a_n l_a ∧ l_a.length < 1073741824 ∧ ((∀ (r1_a : Option Addr) (r1_n r1_e : Nat), ∀ H' : AHeap, Grow H H' → OwnS fF H' H.length r1_a r1_n r1_e l_a → K r1_a r1_n r1_e H'))) : T_laws_toFloat32S a_a a_n a_e H K := h
theorem laws_toFloat32S_go (l : List Nat) : ∀ (μ : Nat) (i : Nat) (ys : List Nat), ys.length = l.length → i ≤ l.length → l.length - i < μ →
    p_laws_toFloat32S_l1 l μ (i : Int) (l.take i ++ ys.drop i) = l := by
  intro μ
  induction μ with
  | zero => intro i ys _ _ h; omega
  | succ μ ih =>
    intro i ys hy hi hm
    rw [p_laws_toFloat32S_l1_s]
    by_cases h : i < l.length
    · rw [decide_eq_true (show (i : Int) < (l.length : Int) by omega), cond_true]
      have hx : l[i]? = some (l.getD i 0) := by rw [List.getD_eq_getElem?_getD, List.getElem?_eq_getElem h]; rfl
      rw [Int.toNat_natCast, set_front l ys i (by omega) hy.symm _ hx]
      exact ih (i + 1) ys hy (by omega) (by omega)
    · rw [decide_eq_false (show ¬ (i : Int) < (l.length : Int) by omega), cond_false]
      rw [List.take_of_length_le (by omega), List.drop_eq_nil_of_le (by omega), List.append_nil]
theorem laws_toFloat32S_id (l : List Nat) : p_laws_toFloat32S l = l := by
  rw [p_laws_toFloat32S_eq]
  have := laws_toFloat32S_go l (Int.toNat ((l.length : Int) - 0) + 1) 0 (List.replicate ((l.length : Int)).toNat 0) (by simp) (by omega) (by omega)
  simpa using this
/-! laws_toFloat32S: function 16 -/
def E_laws_toFloat32S : Env := envOf []
def F_laws_toFloat32S : List Value → AHeap → (Value → AHeap → Prop) → Prop
  | [.slice a_a a_n a_e], H, K => T_laws_toFloat32S a_a a_n a_e H fun (r1_a : Option Addr) (r1_n : Nat) (r1_e : Nat) (H' : AHeap) => K (.slice r1_a r1_n r1_e) H'
  | _, _, _ => False
def S_laws_toFloat32S : FSpec := { F := F_laws_toFloat32S, quiet := false, tame := true }
theorem laws_toFloat32S_vc (a_a : Option Addr) (a_n : Nat) (a_e : Nat) (H : AHeap) (K : Value → AHeap → Prop) : bodyK Try.prog E_laws_toFloat32S Try.f16 [.slice a_a a_n a_e] H K =
  ((0 : Int) ≤ (a_n : Int) ∧ (a_n : Int) = (a_n : Int) ∧ (a_n : Int) < (most : Int) ∧ Al (zerosOf (.float .f32 0) ((a_n : Int)).toNat) H fun b1 H1 => loopK (exK Try.prog E_laws_toFloat32S (cl (cl (cr (cl (cr (cr (bodyC Try.f16)))))))) [.slice a_a a_n a_e, undef, .slice none 0 0, .slice (some ⟨b1, 0, none⟩) (((a_n : Int)).toNat) 1, .int .i64 0, .slice a_a a_n a_e, .int .i64 (a_n : Int), .slice (some ⟨b1, 0, none⟩) (((a_n : Int)).toNat) 1, undef, undef, undef, undef, undef, undef, undef, undef, undef, undef, undef, undef, undef, undef] H1 (blockQ 0 (seqQ (exK Try.prog E_laws_toFloat32S (cr (cr (cr (bodyC Try.f16))))) (retK Try.prog Try.f16 K)))) := by kernel_rfl
theorem laws_toFloat32S_r1 (a_a : Option Addr) (a_e : Nat) (a_n : Nat) (b1 : Nat) (i : Int) (g8 g9 g10 g11 g12 g13 g14 g15 g16 g17 g18 g19 g20 : Value) (H : AHeap) (R : Post) : exK Try.prog E_laws_toFloat32S (cl (cl (cr (cl (cr (cr (bodyC Try.f16))))))) [.slice a_a a_n a_e, undef, .slice none 0 0, .slice (some ⟨b1, 0, none⟩) (((a_n : Int)).toNat) 1, .int .i64 i, .slice a_a a_n a_e, .int .i64 (a_n : Int), .slice (some ⟨b1, 0, none⟩) (((a_n : Int)).toNat) 1, g8, g9, g10, g11, g12, g13, g14, g15, g16, g17, g18, g19, g20, undef] H R =
  (Br (decide ((i : Int) < (a_n : Int))) ((0 : Int) ≤ i ∧ i < (a_n : Int) ∧ ∃ b2 f1, (a_a : Option Addr) = some ⟨b2, f1, none⟩ ∧ ∃ x1 : Nat,  rdC H b2 (f1 + (i : Int).toNat * 1) = some (.float .f32 x1) ∧ (0 : Int) ≤ i ∧ i < (((a_n : Int)).toNat : Int) ∧ ∃ b3 f2, (some ⟨b1, 0, none⟩ : Option Addr) = some ⟨b3, f2, none⟩ ∧ isOwn H b3 ∧ (∃ l, rdN H b3 (f2 + (i : Int).toNat * 1) 1 = some l) ∧ Lt (setC H b3 (f2 + (i : Int).toNat * 1) (.float .f32 x1)) fun H2 => R .normal [.slice a_a a_n a_e, undef, .slice none 0 0, .slice (some ⟨b1, 0, none⟩) (((a_n : Int)).toNat) 1, .int .i64 (IntKind.wrap .i64 (i + 1)), .slice a_a a_n a_e, .int .i64 (a_n : Int), .slice (some ⟨b1, 0, none⟩) (((a_n : Int)).toNat) 1, .int .i64 i, .slice a_a a_n a_e, .int .i64 (a_n : Int), .bool (decide ((i : Int) < (a_n : Int))), .int .i64 i, .int .i64 (IntKind.wrap .i64 (i + 1)), .slice (some ⟨b1, 0, none⟩) (((a_n : Int)).toNat) 1, .int .i64 i, .slice a_a a_n a_e, .int .i64 i, .pointer (some ⟨b2, f1 + (i : Int).toNat * 1, none⟩), .float .f32 x1, .pointer (some ⟨b3, f2 + (i : Int).toNat * 1, none⟩), undef] H2) (R (.exit 0) [.slice a_a a_n a_e, undef, .slice none 0 0, .slice (some ⟨b1, 0, none⟩) (((a_n : Int)).toNat) 1, .int .i64 i, .slice a_a a_n a_e, .int .i64 (a_n : Int), .slice (some ⟨b1, 0, none⟩) (((a_n : Int)).toNat) 1, .int .i64 i, .slice a_a a_n a_e, .int .i64 (a_n : Int), .bool (decide ((i : Int) < (a_n : Int))), g12, g13, g14, g15, g16, g17, g18, g19, g20, undef] H)) := by kernel_rfl
def laws_toFloat32S_I1 (a_a : Option Addr) (a_e : Nat) (a_n : Nat) (b1 : Nat) (Inv : Nat → Int → AHeap → Prop) : Nat → List Value → AHeap → Prop := fun μ tm H => ∃ (i : Int), ∃ g8 g9 g10 g11 g12 g13 g14 g15 g16 g17 g18 g19 g20, tm = [.slice a_a a_n a_e, undef, .slice none 0 0, .slice (some ⟨b1, 0, none⟩) (((a_n : Int)).toNat) 1, .int .i64 i, .slice a_a a_n a_e, .int .i64 (a_n : Int), .slice (some ⟨b1, 0, none⟩) (((a_n : Int)).toNat) 1, g8, g9, g10, g11, g12, g13, g14, g15, g16, g17, g18, g19, g20, undef] ∧ Inv μ i H
theorem laws_toFloat32S_L1 (a_a : Option Addr) (a_e : Nat) (a_n : Nat) (b1 : Nat) {Q : Post} (Inv : Nat → Int → AHeap → Prop) (ν : Nat) (i : Int) (g8 g9 g10 g11 g12 g13 g14 g15 g16 g17 g18 g19 g20 : Value) (H : AHeap) (h0 : Inv ν i H)
    (hs : ∀ (μ : Nat) (i : Int) (g8 g9 g10 g11 g12 g13 g14 g15 g16 g17 g18 g19 g20 : Value) (H : AHeap), Inv μ i H → exK Try.prog E_laws_toFloat32S (cl (cl (cr (cl (cr (cr (bodyC Try.f16))))))) [.slice a_a a_n a_e, undef, .slice none 0 0, .slice (some ⟨b1, 0, none⟩) (((a_n : Int)).toNat) 1, .int .i64 i, .slice a_a a_n a_e, .int .i64 (a_n : Int), .slice (some ⟨b1, 0, none⟩) (((a_n : Int)).toNat) 1, g8, g9, g10, g11, g12, g13, g14, g15, g16, g17, g18, g19, g20, undef] H (loopQ (laws_toFloat32S_I1 a_a a_e a_n b1 Inv) μ Q)) : loopK (exK Try.prog E_laws_toFloat32S (cl (cl (cr (cl (cr (cr (bodyC Try.f16)))))))) [.slice a_a a_n a_e, undef, .slice none 0 0, .slice (some ⟨b1, 0, none⟩) (((a_n : Int)).toNat) 1, .int .i64 i, .slice a_a a_n a_e, .int .i64 (a_n : Int), .slice (some ⟨b1, 0, none⟩) (((a_n : Int)).toNat) 1, g8, g9, g10, g11, g12, g13, g14, g15, g16, g17, g18, g19, g20, undef] H Q :=
  ⟨laws_toFloat32S_I1 a_a a_e a_n b1 Inv, ν, ⟨i, g8, g9, g10, g11, g12, g13, g14, g15, g16, g17, g18, g19, g20, rfl, h0⟩, fun μ tm H h => by obtain ⟨i, g8, g9, g10, g11, g12, g13, g14, g15, g16, g17, g18, g19, g20, rfl, hI⟩ := h; exact hs μ i g8 g9 g10 g11 g12 g13 g14 g15 g16 g17 g18 g19 g20 H hI⟩
theorem laws_toFloat32S_n1 {a_a : Option Addr} {a_e : Nat} {a_n : Nat} {b1 : Nat} {Q : Post} {Inv : Nat → Int → AHeap → Prop} {μ : Nat} (μ' : Nat) {i : Int} {g8 g9 g10 g11 g12 g13 g14 g15 g16 g17 g18 g19 g20 : Value} {H : AHeap} (hm : μ' < μ) (hI : Inv μ' i H) : loopQ (laws_toFloat32S_I1 a_a a_e a_n b1 Inv) μ Q .normal [.slice a_a a_n a_e, undef, .slice none 0 0, .slice (some ⟨b1, 0, none⟩) (((a_n : Int)).toNat) 1, .int .i64 i, .slice a_a a_n a_e, .int .i64 (a_n : Int), .slice (some ⟨b1, 0, none⟩) (((a_n : Int)).toNat) 1, g8, g9, g10, g11, g12, g13, g14, g15, g16, g17, g18, g19, g20, undef] H := ⟨μ', hm, i, g8, g9, g10, g11, g12, g13, g14, g15, g16, g17, g18, g19, g20, rfl, hI⟩
theorem laws_toFloat32S_x1_0 (a_a : Option Addr) (a_e : Nat) (a_n : Nat) (b1 : Nat) (i : Int) (g8 g9 g10 g11 g12 g13 g14 g15 g16 g17 g18 g19 g20 : Value) (H : AHeap) (K : Value → AHeap → Prop)  {I : Nat → List Value → AHeap → Prop} {μ : Nat} : loopQ I μ (blockQ 0 (seqQ (exK Try.prog E_laws_toFloat32S (cr (cr (cr (bodyC Try.f16))))) (retK Try.prog Try.f16 K))) (.exit 0) [.slice a_a a_n a_e, undef, .slice none 0 0, .slice (some ⟨b1, 0, none⟩) (((a_n : Int)).toNat) 1, .int .i64 i, .slice a_a a_n a_e, .int .i64 (a_n : Int), .slice (some ⟨b1, 0, none⟩) (((a_n : Int)).toNat) 1, g8, g9, g10, g11, g12, g13, g14, g15, g16, g17, g18, g19, g20, undef] H =
  (K (.slice (some ⟨b1, 0, none⟩) (((a_n : Int)).toNat) 1) H) := by kernel_rfl
theorem E_laws_toFloat32S_ok : ∀ g, FnOk Try.prog g (E_laws_toFloat32S g) := FnOk.envOf (by
  intro x hx; cases hx)
set_option maxHeartbeats 1000000 in
theorem laws_toFloat32S_main (a_a : Option Addr) (a_n : Nat) (a_e : Nat) (H : AHeap) (K : Value → AHeap → Prop) (h : T_laws_toFloat32S a_a a_n a_e H fun (r1_a : Option Addr) (r1_n : Nat) (r1_e : Nat) (H' : AHeap) => K (.slice r1_a r1_n r1_e) H') : bodyK Try.prog E_laws_toFloat32S Try.f16 [.slice a_a a_n a_e] H K := by
  rw [laws_toFloat32S_vc]
  obtain ⟨l_a, i_a, bd_29, hk⟩ := h
  have hk : (∀ (r1_a : Option Addr) (r1_n r1_e : Nat), ∀ H' : AHeap, Grow H H' → OwnS fF H' H.length r1_a r1_n r1_e (p_laws_toFloat32S l_a) → (fun (r1_a : Option Addr) (r1_n : Nat) (r1_e : Nat) (H' : AHeap) => K (.slice r1_a r1_n r1_e) H') r1_a r1_n r1_e H') := by rw [laws_toFloat32S_id l_a]; exact hk
  obtain rfl := i_a.eqn
  have e : (p_laws_toFloat32S l_a) = _ := rfl
  have e := e.trans (p_laws_toFloat32S_eq l_a)
  have g0 := Grow.refl H
  refine ⟨by omega, rfl, (by have := most_eq; omega), ?_⟩
  refine Al.intro (fun b_1 H_1 hb_2 hl_3 g_4 o_5 => ?_)
  rw [zeros_map fF 0 _ rfl] at o_5
  have l_7 := g_4.1
  have g_8 := g0.trans g_4
  have l_9 := g_8.1
  have w_28 := o_5.lt
  refine laws_toFloat32S_L1 _ _ _ _ (fun (μ : Nat) (i : Int) (H_2 : AHeap) => ∃ (y1_1 : List Nat), Own H_2 b_1 (y1_1.map fF) ∧ y1_1.length = ((l_a.length : Int)).toNat ∧ Grow H H_2 ∧ (0 : Int) ≤ i ∧ i ≤ (l_a.length : Int) ∧ (l_a.length : Int) - i ≤ (μ : Int) ∧ p_laws_toFloat32S l_a = p_laws_toFloat32S_l1 l_a (μ + 1) i y1_1) (Int.toNat ((l_a.length : Int) - (0 : Int))) _ _ _ _ _ _ _ _ _ _ _ _ _ _ H_1 ?_ ?_
  · exact ⟨_, o_5, (by first | rfl | assumption | omega | (simp; done)), g_8, (by first | omega | (simp; done) | (simp; omega)), (by first | omega | (simp; done) | (simp; omega)), (by omega), e⟩
  · intro μ i g8 g9 g10 g11 g12 g13 g14 g15 g16 g17 g18 g19 g20 H_2 hI
    obtain ⟨y1_1, o_10, y_11, g_12, v_13, v_14, hμ, e⟩ := hI
    rw [laws_toFloat32S_r1]
    have e := e.trans (p_laws_toFloat32S_l1_s l_a μ i y1_1)
    have w_15 := o_10.lt
    have l_16 := g_12.1
    refine Br.intro (fun c_17 => ?_) (fun c_17 => ?_)
    · have e := e.trans (cond_t c_17)
      have c_17' := of_decide_eq_true c_17
      obtain ⟨b_18, f_19, q_20⟩ := ((i_a.grow g_12)).pos (by first | omega | (simp only [List.length_set, List.length_replicate, List.length_append, List.length_cons, List.length_nil, List.length_take, List.length_drop, marks_length]; done) | (simp only [List.length_set, List.length_replicate, List.length_append, List.length_cons, List.length_nil, List.length_take, List.length_drop, marks_length]; omega))
      refine ⟨by omega, by omega, b_18, f_19, q_20, ?_⟩
      refine ⟨((l_a).getD (i : Int).toNat 0), (i_a).rd g_12 q_20 (by omega) _, ?_⟩
      refine ⟨by omega, (by omega), _, _, rfl, ?_⟩
      refine Lt.set o_10 (by simp only [List.length_map]; (first | omega | (simp only [List.length_set, List.length_replicate, List.length_append, List.length_cons, List.length_nil, List.length_take, List.length_drop, marks_length]; done) | (simp only [List.length_set, List.length_replicate, List.length_append, List.length_cons, List.length_nil, List.length_take, List.length_drop, marks_length]; omega))) (fun H_3 hl_21 o_23 k_22 => ?_)
      have o_23 := map_set o_23
      have l_24 := k_22.1
      have g_25 := g_12.keep (b := b_1) (by omega) k_22
      have l_26 := g_25.1
      have w_27 := o_23.lt
      rw [show IntKind.wrap .i64 (i + 1) = (i + 1) from wrap64 (by omega) (by omega)]
      refine laws_toFloat32S_n1 (μ - 1) (by first | omega) ⟨_, o_23, (by first | assumption | omega | (simp only [List.length_set]; first | rfl | assumption | omega)), g_25, (by first | omega | (simp only [List.length_append, List.length_cons, List.length_nil, List.length_set]; done) | (simp only [List.length_append, List.length_cons, List.length_nil, List.length_set]; omega)), (by first | omega | (simp only [List.length_append, List.length_cons, List.length_nil, List.length_set]; done) | (simp only [List.length_append, List.length_cons, List.length_nil, List.length_set]; omega)), (by first | omega), (by rw [show μ - 1 + 1 = μ from by first | omega]; exact e)⟩
    · have e := e.trans (cond_f c_17)
      have c_17' := of_decide_eq_false c_17
      rw [laws_toFloat32S_x1_0]
      rw [e] at hk
      exact hk _ _ _ H_2 g_12 (o_10.ownS (by first | (simp only [List.length_replicate]; done) | omega | (simp; omega)) (by omega))
theorem laws_toFloat32S_ok : FnOk Try.prog 16 S_laws_toFloat32S := by
  refine FnOk.body mix_ok E_laws_toFloat32S_ok Try.func16 rfl (by kernel_rfl) (by kernel_rfl) ?_ ?_ ?_ ?_ ?_
  · intro args H K K' h hk
    simp only [S_laws_toFloat32S] at *
    unfold F_laws_toFloat32S at *
    split at hk
    · obtain ⟨l_a, i_a, bd_29, k⟩ := hk
      exact ⟨l_a, i_a, bd_29, (fun r1_a r1_n r1_e H' gg ow0 => h _ _ (k r1_a r1_n r1_e H' gg ow0))⟩
    · exact hk.elim
  · intro hq; cases hq
  · intro args H K hk
    simp only [S_laws_toFloat32S] at *
    unfold F_laws_toFloat32S at *
    split at hk
    · obtain ⟨l_a, i_a, bd_29, k⟩ := hk
      exact liveS fun a n e H1 g o => ⟨_, _, k a n e H1 g o⟩
    · exact hk.elim
  · intro _ args H K hk
    simp only [S_laws_toFloat32S] at *
    unfold F_laws_toFloat32S at *
    split at hk
    · obtain ⟨l_a, i_a, bd_29, k⟩ := hk
      exact ⟨l_a, i_a, bd_29, (fun r1_a r1_n r1_e H' gg ow0 => ⟨gg, k r1_a r1_n r1_e H' gg ow0⟩)⟩
    · exact hk.elim
  · have mm := @laws_toFloat32S_main
    revert mm
    generalize bodyK Try.prog E_laws_toFloat32S Try.f16 = Q
    intro mm args H K hk
    simp only [S_laws_toFloat32S] at *
    unfold F_laws_toFloat32S at *
    split at hk
    · exact mm _ _ _ H K hk
    · exact hk.elim

def p_laws_toPicture (a_Wide : Int) (a_High : Int) (l_a_Lights : List Nat) : Int × Int × (List Nat) := (a_Wide, a_High, l_a_Lights)
theorem p_laws_toPicture_eq (a_Wide : Int) (a_High : Int) (l_a_Lights : List Nat) : p_laws_toPicture a_Wide a_High l_a_Lights = (a_Wide, a_High, l_a_Lights) := rfl
def T_laws_toPicture (a_Wide : Int) (a_High : Int) (a_Lights_a : Option Addr) (a_Lights_n : Nat) (a_Lights_e : Nat) (H : AHeap) (K : Int → Int → (Option Addr) → Nat → Nat → AHeap → Prop) : Prop := ∃ (l_a_Lights : List Nat), IsL fF H a_Lights_a a_Lights_n l_a_Lights ∧ l_a_Lights.length < 1073741824 ∧ ((∀ (r1_Lights_a : Option Addr) (r1_Lights_n r1_Lights_e : Nat), ∀ H' : AHeap, Grow H H' → OwnS fF H' H.length r1_Lights_a r1_Lights_n r1_Lights_e l_a_Lights → K a_Wide a_High r1_Lights_a r1_Lights_n r1_Lights_e H'))
theorem T_laws_toPicture_i {a_Wide : Int} {a_High : Int} {a_Lights_a : Option Addr} {a_Lights_n : Nat} {a_Lights_e : Nat} {H : AHeap} {K : Int → Int → (Option Addr) → Nat → Nat → AHeap → Prop} (h : ∃ (l_a_Lights : List Nat), IsL fF H a_Lights_a a_Lights_n l_a_Lights ∧ l_a_Lights.length < 1073741824 ∧ ((∀ (r1_Lights_a : Option Addr) (r1_Lights_n r1_Lights_e : Nat), ∀ H' : AHeap, Grow H H' → OwnS fF H' H.length r1_Lights_a r1_Lights_n r1_Lights_e l_a_Lights → K a_Wide a_High r1_Lights_a r1_Lights_n r1_Lights_e H'))) : T_laws_toPicture a_Wide a_High a_Lights_a a_Lights_n a_Lights_e H K := h
theorem laws_toPicture_id (a b : Int) (l : List Nat) : p_laws_toPicture a b l = (a, b, l) := rfl
/-! laws_toPicture: function 39 -/
def E_laws_toPicture : Env := envOf [(16, S_laws_toFloat32S)]
def F_laws_toPicture : List Value → AHeap → (Value → AHeap → Prop) → Prop
  | [.agg ⟨[.int .i64 a_Wide, .int .i64 a_High, .slice a_Lights_a a_Lights_n a_Lights_e]⟩], H, K => T_laws_toPicture a_Wide a_High a_Lights_a a_Lights_n a_Lights_e H fun (r1_Wide : Int) (r1_High : Int) (r1_Lights_a : Option Addr) (r1_Lights_n : Nat) (r1_Lights_e : Nat) (H' : AHeap) => K (.agg #[.int .i64 r1_Wide, .int .i64 r1_High, .slice r1_Lights_a r1_Lights_n r1_Lights_e]) H'
  | _, _, _ => False
def S_laws_toPicture : FSpec := { F := F_laws_toPicture, quiet := false, tame := true }
theorem laws_toPicture_vc (a_Wide : Int) (a_High : Int) (a_Lights_a : Option Addr) (a_Lights_n : Nat) (a_Lights_e : Nat) (H : AHeap) (K : Value → AHeap → Prop) : bodyK Try.prog E_laws_toPicture Try.f39 [.agg #[.int .i64 a_Wide, .int .i64 a_High, .slice a_Lights_a a_Lights_n a_Lights_e]] H K =
  (Al [.int .i64 a_Wide, .int .i64 a_High, .slice a_Lights_a a_Lights_n a_Lights_e] H fun b1 H1 => Al [.int .i64 0, .int .i64 0, .slice none 0 0] H1 fun b2 H2 => Al [.int .i64 0, .int .i64 0, .slice none 0 0] H2 fun b3 H3 => ∃ x1 : Int,  rdC H3 b1 0 = some (.int .i64 x1) ∧ isOwn H3 b3 ∧ (∃ l, rdN H3 b3 0 1 = some l) ∧ Lt (setC H3 b3 0 (.int .i64 x1)) fun H4 => ∃ x2 : Int,  rdC H4 b1 1 = some (.int .i64 x2) ∧ isOwn H4 b3 ∧ (∃ l, rdN H4 b3 1 1 = some l) ∧ Lt (setC H4 b3 1 (.int .i64 x2)) fun H5 => ∃ x3_a : Option Addr, ∃ x3_n : Nat, ∃ x3_e : Nat,  rdC H5 b1 2 = some (.slice x3_a x3_n x3_e) ∧ T_laws_toFloat32S x3_a x3_n x3_e H5 fun (a1 : Option Addr) (r1 : Nat) (r2 : Nat) (H6 : AHeap) => isOwn H6 b3 ∧ (∃ l, rdN H6 b3 2 1 = some l) ∧ Lt (setC H6 b3 2 (.slice a1 r1 r2)) fun H7 => ∃ c1 : Int, ∃ c2 : Int, ∃ c3_a : Option Addr, ∃ c3_n : Nat, ∃ c3_e : Nat,  rdN H7 b3 0 3 = some [.int .i64 c1, .int .i64 c2, .slice c3_a c3_n c3_e] ∧ isOwn H7 b2 ∧ (∃ l, rdN H7 b2 0 3 = some l) ∧ Lt (setN H7 b2 0 [.int .i64 c1, .int .i64 c2, .slice c3_a c3_n c3_e]) fun H8 => ∃ c4 : Int, ∃ c5 : Int, ∃ c6_a : Option Addr, ∃ c6_n : Nat, ∃ c6_e : Nat,  rdN H8 b2 0 3 = some [.int .i64 c4, .int .i64 c5, .slice c6_a c6_n c6_e] ∧ K (.agg #[.int .i64 c4, .int .i64 c5, .slice c6_a c6_n c6_e]) H8) := by kernel_rfl
theorem E_laws_toPicture_ok : ∀ g, FnOk Try.prog g (E_laws_toPicture g) := FnOk.envOf (by
  intro x hx
  simp only [List.mem_cons, List.not_mem_nil, or_false] at hx
  subst hx; exact laws_toFloat32S_ok)
set_option maxHeartbeats 1000000 in
theorem laws_toPicture_main (a_Wide : Int) (a_High : Int) (a_Lights_a : Option Addr) (a_Lights_n : Nat) (a_Lights_e : Nat) (H : AHeap) (K : Value → AHeap → Prop) (h : T_laws_toPicture a_Wide a_High a_Lights_a a_Lights_n a_Lights_e H fun (r1_Wide : Int) (r1_High : Int) (r1_Lights_a : Option Addr) (r1_Lights_n : Nat) (r1_Lights_e : Nat) (H' : AHeap) => K (.agg #[.int .i64 r1_Wide, .int .i64 r1_High, .slice r1_Lights_a r1_Lights_n r1_Lights_e]) H') : bodyK Try.prog E_laws_toPicture Try.f39 [.agg #[.int .i64 a_Wide, .int .i64 a_High, .slice a_Lights_a a_Lights_n a_Lights_e]] H K := by
  rw [laws_toPicture_vc]
  obtain ⟨l_a_Lights, i_a_Lights, bd_100, hk⟩ := h
  have hk : (∀ (r1_Lights_a : Option Addr) (r1_Lights_n r1_Lights_e : Nat), ∀ H' : AHeap, Grow H H' → OwnS fF H' H.length r1_Lights_a r1_Lights_n r1_Lights_e ((p_laws_toPicture a_Wide a_High l_a_Lights).2.2) → (fun (r1_Wide : Int) (r1_High : Int) (r1_Lights_a : Option Addr) (r1_Lights_n : Nat) (r1_Lights_e : Nat) (H' : AHeap) => K (.agg #[.int .i64 r1_Wide, .int .i64 r1_High, .slice r1_Lights_a r1_Lights_n r1_Lights_e]) H') ((p_laws_toPicture a_Wide a_High l_a_Lights).1) ((p_laws_toPicture a_Wide a_High l_a_Lights).2.1) r1_Lights_a r1_Lights_n r1_Lights_e H') := by rw [laws_toPicture_id a_Wide a_High l_a_Lights]; exact hk
  obtain rfl := i_a_Lights.eqn
  have e : (p_laws_toPicture a_Wide a_High l_a_Lights) = _ := rfl
  have e := e.trans (p_laws_toPicture_eq a_Wide a_High l_a_Lights)
  have g0 := Grow.refl H
  refine Al.intro (fun b_1 H_1 hb_2 hl_3 g_4 o_5 => ?_)
  have l_7 := g_4.1
  have g_8 := g0.trans g_4
  have l_9 := g_8.1
  have w_99 := o_5.lt
  refine Al.intro (fun b_10 H_2 hb_11 hl_12 g_13 o_14 => ?_)
  have l_16 := g_13.1
  have g_17 := g_8.trans g_13
  have l_18 := g_17.1
  have o_19 := o_5.grow g_13
  have w_20 := o_19.lt
  have w_98 := o_14.lt
  refine Al.intro (fun b_21 H_3 hb_22 hl_23 g_24 o_25 => ?_)
  have l_27 := g_24.1
  have g_28 := g_17.trans g_24
  have l_29 := g_28.1
  have o_30 := o_19.grow g_24
  have w_31 := o_30.lt
  have o_32 := o_14.grow g_24
  have w_33 := o_32.lt
  have w_97 := o_25.lt
  refine ⟨a_Wide, (o_30.rdC _).trans rfl, ?_⟩
  refine Lt.set o_25 (Nat.le_of_ble_eq_true rfl) (fun H_4 hl_34 o_36 k_35 => ?_)
  have o_36 : Own H_4 b_21 [.int .i64 a_Wide, .int .i64 0, .slice none 0 0] := o_36
  have l_37 := k_35.1
  have g_38 := g_28.keep (b := b_21) (by omega) k_35
  have l_39 := g_38.1
  have o_40 := o_30.keep (by omega) k_35
  have w_41 := o_40.lt
  have o_42 := o_32.keep (by omega) k_35
  have w_43 := o_42.lt
  have w_96 := o_36.lt
  refine ⟨a_High, (o_40.rdC _).trans rfl, ?_⟩
  refine Lt.set o_36 (Nat.le_of_ble_eq_true rfl) (fun H_5 hl_44 o_46 k_45 => ?_)
  have o_46 : Own H_5 b_21 [.int .i64 a_Wide, .int .i64 a_High, .slice none 0 0] := o_46
  have l_47 := k_45.1
  have g_48 := g_38.keep (b := b_21) (by omega) k_45
  have l_49 := g_48.1
  have o_50 := o_40.keep (by omega) k_45
  have w_51 := o_50.lt
  have o_52 := o_42.keep (by omega) k_45
  have w_53 := o_52.lt
  have w_95 := o_46.lt
  refine ⟨a_Lights_a, l_a_Lights.length, a_Lights_e, (o_50.rdC _).trans rfl, ?_⟩
  refine T_laws_toFloat32S_i ⟨_, (i_a_Lights.grow g_48), (by first | omega | (simp only [List.length_set, List.length_replicate, List.length_append, List.length_cons, List.length_nil, List.length_take, List.length_drop, marks_length]; done) | (simp only [List.length_set, List.length_replicate, List.length_append, List.length_cons, List.length_nil, List.length_take, List.length_drop, marks_length]; omega)), fun a_54 n_55 e_56 H_6 g_58 r_57 => ?_⟩
  have l_59 := g_58.1
  have g_60 := g_48.trans g_58
  have l_61 := g_60.1
  have o_62 := o_50.grow g_58
  have w_63 := o_62.lt
  have o_64 := o_52.grow g_58
  have w_65 := o_64.lt
  have o_66 := o_46.grow g_58
  have w_67 := o_66.lt
  obtain rfl := r_57.isL.eqn
  have u_68 := r_57.up
  have u_69 := r_57.lo
  refine Lt.set o_66 (Nat.le_of_ble_eq_true rfl) (fun H_7 hl_71 o_73 k_72 => ?_)
  have o_73 : Own H_7 b_21 [.int .i64 a_Wide, .int .i64 a_High, .slice a_54 ((l_a_Lights).length) e_56] := o_73
  have l_74 := k_72.1
  have g_75 := g_60.keep (b := b_21) (by omega) k_72
  have l_76 := g_75.1
  have o_77 := o_62.keep (by omega) k_72
  have w_78 := o_77.lt
  have o_79 := o_64.keep (by omega) k_72
  have w_80 := o_79.lt
  have r_81 := r_57.keep u_68 (by omega) k_72
  have w_94 := o_73.lt
  refine ⟨a_Wide, a_High, a_54, (l_a_Lights).length, e_56, (o_73.rdN (Nat.le_of_ble_eq_true rfl)).trans rfl, ?_⟩
  refine Lt.setN (n := 3) o_79 (Nat.le_of_ble_eq_true rfl) rfl (fun H_8 hl_82 o_84 k_83 => ?_)
  have o_84 : Own H_8 b_10 [.int .i64 a_Wide, .int .i64 a_High, .slice a_54 ((l_a_Lights).length) e_56] := o_84
  have l_85 := k_83.1
  have g_86 := g_75.keep (b := b_10) (by omega) k_83
  have l_87 := g_86.1
  have o_88 := o_77.keep (by omega) k_83
  have w_89 := o_88.lt
  have o_90 := o_73.keep (by omega) k_83
  have w_91 := o_90.lt
  have r_92 := r_81.keep u_68 (by omega) k_83
  have w_93 := o_84.lt
  refine ⟨a_Wide, a_High, a_54, (l_a_Lights).length, e_56, (o_84.rdN (Nat.le_of_ble_eq_true rfl)).trans rfl, ?_⟩
  rw [e] at hk
  exact hk _ _ _ H_8 g_86 (r_92.weak (by omega))
theorem laws_toPicture_ok : FnOk Try.prog 39 S_laws_toPicture := by
  refine FnOk.body mix_ok E_laws_toPicture_ok Try.func39 rfl (by kernel_rfl) (by kernel_rfl) ?_ ?_ ?_ ?_ ?_
  · intro args H K K' h hk
    simp only [S_laws_toPicture] at *
    unfold F_laws_toPicture at *
    split at hk
    · obtain ⟨l_a_Lights, i_a_Lights, bd_100, k⟩ := hk
      exact ⟨l_a_Lights, i_a_Lights, bd_100, (fun r1_Lights_a r1_Lights_n r1_Lights_e H' gg ow0 => h _ _ (k r1_Lights_a r1_Lights_n r1_Lights_e H' gg ow0))⟩
    · exact hk.elim
  · intro hq; cases hq
  · intro args H K hk
    simp only [S_laws_toPicture] at *
    unfold F_laws_toPicture at *
    split at hk
    · obtain ⟨l_a_Lights, i_a_Lights, bd_100, k⟩ := hk
      exact liveS fun a n e H1 g o => ⟨_, _, k a n e H1 g o⟩
    · exact hk.elim
  · intro _ args H K hk
    simp only [S_laws_toPicture] at *
    unfold F_laws_toPicture at *
    split at hk
    · obtain ⟨l_a_Lights, i_a_Lights, bd_100, k⟩ := hk
      exact ⟨l_a_Lights, i_a_Lights, bd_100, (fun r1_Lights_a r1_Lights_n r1_Lights_e H' gg ow0 => ⟨gg, k r1_Lights_a r1_Lights_n r1_Lights_e H' gg ow0⟩)⟩
    · exact hk.elim
  · have mm := @laws_toPicture_main
    revert mm
    generalize bodyK Try.prog E_laws_toPicture Try.f39 = Q
    intro mm args H K hk
    simp only [S_laws_toPicture] at *
    unfold F_laws_toPicture at *
    split at hk
    · exact mm _ _ _ _ _ H K hk
    · exact hk.elim
def p_spec_l00In (n : Int) (low : Int) (high : Int) : Bool := (bif decide ((low : Int) ≤ n) then decide ((n : Int) ≤ high) else false)
theorem p_spec_l00In_eq (n : Int) (low : Int) (high : Int) : p_spec_l00In n low high = (bif decide ((low : Int) ≤ n) then decide ((n : Int) ≤ high) else false) := rfl
def T_spec_l00In (n : Int) (low : Int) (high : Int) (H : AHeap) (K : Bool → AHeap → Prop) : Prop := K (p_spec_l00In n low high) H
theorem spec_l00In_t {n a b : Int} (h : p_spec_l00In n a b = true) : a ≤ n ∧ n ≤ b := by
  unfold p_spec_l00In at h
  by_cases h1 : a ≤ n
  · rw [decide_eq_true h1, cond_true] at h; exact ⟨h1, of_decide_eq_true h⟩
  · rw [decide_eq_false h1] at h; cases h
theorem T_spec_l00In_i {n : Int} {low : Int} {high : Int} {H : AHeap} {K : Bool → AHeap → Prop} (h : K (p_spec_l00In n low high) H) : T_spec_l00In n low high H K := h
/-! spec_l00In: function 70 -/
def E_spec_l00In : Env := envOf []
def F_spec_l00In : List Value → AHeap → (Value → AHeap → Prop) → Prop
  | [.int .i64 n, .int .i64 low, .int .i64 high], H, K => T_spec_l00In n low high H fun (r1 : Bool) (H' : AHeap) => K (.bool r1) H'
  | _, _, _ => False
def S_spec_l00In : FSpec := { F := F_spec_l00In, quiet := true, tame := false }
theorem spec_l00In_vc (n : Int) (low : Int) (high : Int) (H : AHeap) (K : Value → AHeap → Prop) : bodyK Try.prog E_spec_l00In Try.f70 [.int .i64 n, .int .i64 low, .int .i64 high] H K =
  (Br (decide ((low : Int) ≤ n)) (K (.bool (decide ((n : Int) ≤ high))) H) (K (.bool false) H)) := by kernel_rfl
theorem E_spec_l00In_ok : ∀ g, FnOk Try.prog g (E_spec_l00In g) := FnOk.envOf (by
  intro x hx; cases hx)
set_option maxHeartbeats 1000000 in
theorem spec_l00In_main (n : Int) (low : Int) (high : Int) (H : AHeap) (K : Value → AHeap → Prop) (h : T_spec_l00In n low high H fun (r1 : Bool) (H' : AHeap) => K (.bool r1) H') : bodyK Try.prog E_spec_l00In Try.f70 [.int .i64 n, .int .i64 low, .int .i64 high] H K := by
  rw [spec_l00In_vc]
  unfold T_spec_l00In p_spec_l00In at h
  repeat' (first | exact h | (exfalso; simp_all; done) | (refine ⟨by decide, ?_⟩) | (refine Br.intro (fun hb => ?_) (fun hb => ?_) <;> (try simp only [hb, cond_true, cond_false, Bool.not_true, Bool.not_false] at h)))
theorem spec_l00In_ok : FnOk Try.prog 70 S_spec_l00In := by
  refine FnOk.body mix_ok E_spec_l00In_ok Try.func70 rfl (by kernel_rfl) (by kernel_rfl) ?_ ?_ ?_ ?_ ?_
  · intro args H K K' h hk
    simp only [S_spec_l00In] at *
    unfold F_spec_l00In at *
    split at hk
    · have k := hk
      exact h _ _ k
    · exact hk.elim
  · intro _ args H K hk
    simp only [S_spec_l00In] at *
    unfold F_spec_l00In at *
    split at hk
    · have k := hk
      exact ⟨_, k, fun K' k' => k'⟩
    · exact hk.elim
  · intro args H K hk
    simp only [S_spec_l00In] at *
    unfold F_spec_l00In at *
    split at hk
    · have k := hk
      exact ⟨_, _, k⟩
    · exact hk.elim
  · intro hq; cases hq
  · have mm := @spec_l00In_main
    revert mm
    generalize bodyK Try.prog E_spec_l00In Try.f70 = Q
    intro mm args H K hk
    simp only [S_spec_l00In] at *
    unfold F_spec_l00In at *
    split at hk
    · exact mm _ _ _ H K hk
    · exact hk.elim
def p_spec_l04Sides (wide : Int) (high : Int) : Bool := (bif (p_spec_l00In wide 1 16) then (p_spec_l00In high 1 16) else false)
theorem p_spec_l04Sides_eq (wide : Int) (high : Int) : p_spec_l04Sides wide high = (bif (p_spec_l00In wide 1 16) then (p_spec_l00In high 1 16) else false) := rfl
def T_spec_l04Sides (wide : Int) (high : Int) (H : AHeap) (K : Bool → AHeap → Prop) : Prop := K (p_spec_l04Sides wide high) H

theorem T_spec_l04Sides_i {wide : Int} {high : Int} {H : AHeap} {K : Bool → AHeap → Prop} (h : K (p_spec_l04Sides wide high) H) : T_spec_l04Sides wide high H K := h
/-! spec_l04Sides: function 129 -/
def E_spec_l04Sides : Env := envOf [(70, S_spec_l00In)]
def F_spec_l04Sides : List Value → AHeap → (Value → AHeap → Prop) → Prop
  | [.int .i64 wide, .int .i64 high], H, K => T_spec_l04Sides wide high H fun (r1 : Bool) (H' : AHeap) => K (.bool r1) H'
  | _, _, _ => False
def S_spec_l04Sides : FSpec := { F := F_spec_l04Sides, quiet := true, tame := false }
theorem spec_l04Sides_vc (wide : Int) (high : Int) (H : AHeap) (K : Value → AHeap → Prop) : bodyK Try.prog E_spec_l04Sides Try.f129 [.int .i64 wide, .int .i64 high] H K =
  (T_spec_l00In wide 1 16 H fun (r1 : Bool) (H1 : AHeap) => Br r1 (T_spec_l00In high 1 16 H1 fun (r2 : Bool) (H2 : AHeap) => K (.bool r2) H2) (K (.bool false) H1)) := by kernel_rfl
theorem E_spec_l04Sides_ok : ∀ g, FnOk Try.prog g (E_spec_l04Sides g) := FnOk.envOf (by
  intro x hx
  simp only [List.mem_cons, List.not_mem_nil, or_false] at hx
  subst hx; exact spec_l00In_ok)
set_option maxHeartbeats 1000000 in
theorem spec_l04Sides_main (wide : Int) (high : Int) (H : AHeap) (K : Value → AHeap → Prop) (h : T_spec_l04Sides wide high H fun (r1 : Bool) (H' : AHeap) => K (.bool r1) H') : bodyK Try.prog E_spec_l04Sides Try.f129 [.int .i64 wide, .int .i64 high] H K := by
  rw [spec_l04Sides_vc]
  simp only [T_spec_l00In]
  unfold T_spec_l04Sides p_spec_l04Sides at h
  repeat' (first | exact h | (exfalso; simp_all; done) | (refine ⟨by decide, ?_⟩) | (refine Br.intro (fun hb => ?_) (fun hb => ?_) <;> (try simp only [hb, cond_true, cond_false, Bool.not_true, Bool.not_false] at h)))
theorem spec_l04Sides_ok : FnOk Try.prog 129 S_spec_l04Sides := by
  refine FnOk.body mix_ok E_spec_l04Sides_ok Try.func129 rfl (by kernel_rfl) (by kernel_rfl) ?_ ?_ ?_ ?_ ?_
  · intro args H K K' h hk
    simp only [S_spec_l04Sides] at *
    unfold F_spec_l04Sides at *
    split at hk
    · have k := hk
      exact h _ _ k
    · exact hk.elim
  · intro _ args H K hk
    simp only [S_spec_l04Sides] at *
    unfold F_spec_l04Sides at *
    split at hk
    · have k := hk
      exact ⟨_, k, fun K' k' => k'⟩
    · exact hk.elim
  · intro args H K hk
    simp only [S_spec_l04Sides] at *
    unfold F_spec_l04Sides at *
    split at hk
    · have k := hk
      exact ⟨_, _, k⟩
    · exact hk.elim
  · intro hq; cases hq
  · have mm := @spec_l04Sides_main
    revert mm
    generalize bodyK Try.prog E_spec_l04Sides Try.f129 = Q
    intro mm args H K hk
    simp only [S_spec_l04Sides] at *
    unfold F_spec_l04Sides at *
    split at hk
    · exact mm _ _ H K hk
    · exact hk.elim
def p_spec_l01Finite (x : Nat) : Bool := feq .f32 (fsub .f32 x x) 0
theorem p_spec_l01Finite_eq (x : Nat) : p_spec_l01Finite x = feq .f32 (fsub .f32 x x) 0 := rfl
def T_spec_l01Finite (x : Nat) (H : AHeap) (K : Bool → AHeap → Prop) : Prop := K (p_spec_l01Finite x) H

theorem T_spec_l01Finite_i {x : Nat} {H : AHeap} {K : Bool → AHeap → Prop} (h : K (p_spec_l01Finite x) H) : T_spec_l01Finite x H K := h
/-! spec_l01Finite: function 57 -/
def E_spec_l01Finite : Env := envOf []
def F_spec_l01Finite : List Value → AHeap → (Value → AHeap → Prop) → Prop
  | [.float .f32 x], H, K => T_spec_l01Finite x H fun (r1 : Bool) (H' : AHeap) => K (.bool r1) H'
  | _, _, _ => False
def S_spec_l01Finite : FSpec := { F := F_spec_l01Finite, quiet := true, tame := false }
theorem spec_l01Finite_vc (x : Nat) (H : AHeap) (K : Value → AHeap → Prop) : bodyK Try.prog E_spec_l01Finite Try.f57 [.float .f32 x] H K =
  (K (.bool (feq .f32 (fsub .f32 x x) 0)) H) := by kernel_rfl
theorem E_spec_l01Finite_ok : ∀ g, FnOk Try.prog g (E_spec_l01Finite g) := FnOk.envOf (by
  intro x hx; cases hx)
set_option maxHeartbeats 1000000 in
theorem spec_l01Finite_main (x : Nat) (H : AHeap) (K : Value → AHeap → Prop) (h : T_spec_l01Finite x H fun (r1 : Bool) (H' : AHeap) => K (.bool r1) H') : bodyK Try.prog E_spec_l01Finite Try.f57 [.float .f32 x] H K := by
  rw [spec_l01Finite_vc]
  unfold T_spec_l01Finite p_spec_l01Finite at h
  repeat' (first | exact h | (exfalso; simp_all; done) | (refine ⟨by decide, ?_⟩) | (refine Br.intro (fun hb => ?_) (fun hb => ?_) <;> (try simp only [hb, cond_true, cond_false, Bool.not_true, Bool.not_false] at h)))
theorem spec_l01Finite_ok : FnOk Try.prog 57 S_spec_l01Finite := by
  refine FnOk.body mix_ok E_spec_l01Finite_ok Try.func57 rfl (by kernel_rfl) (by kernel_rfl) ?_ ?_ ?_ ?_ ?_
  · intro args H K K' h hk
    simp only [S_spec_l01Finite] at *
    unfold F_spec_l01Finite at *
    split at hk
    · have k := hk
      exact h _ _ k
    · exact hk.elim
  · intro _ args H K hk
    simp only [S_spec_l01Finite] at *
    unfold F_spec_l01Finite at *
    split at hk
    · have k := hk
      exact ⟨_, k, fun K' k' => k'⟩
    · exact hk.elim
  · intro args H K hk
    simp only [S_spec_l01Finite] at *
    unfold F_spec_l01Finite at *
    split at hk
    · have k := hk
      exact ⟨_, _, k⟩
    · exact hk.elim
  · intro hq; cases hq
  · have mm := @spec_l01Finite_main
    revert mm
    generalize bodyK Try.prog E_spec_l01Finite Try.f57 = Q
    intro mm args H K hk
    simp only [S_spec_l01Finite] at *
    unfold F_spec_l01Finite at *
    split at hk
    · exact mm _ H K hk
    · exact hk.elim

def p_spec_l02Finite_l1 (l_list : List Nat) : Nat → Bool → Int → Bool
  | 0, _, _ => false
  | μ + 1, t2, i => (bif decide ((i : Int) < (l_list.length : Int)) then (bif !((p_spec_l01Finite (((l_list).getD (i : Int).toNat 0)))) then false else (p_spec_l02Finite_l1 l_list μ t2 (i + 1))) else true)
theorem p_spec_l02Finite_l1_s (l_list : List Nat) (μ : Nat) (t2 : Bool) (i : Int) : p_spec_l02Finite_l1 l_list (μ + 1) t2 i = (bif decide ((i : Int) < (l_list.length : Int)) then (bif !((p_spec_l01Finite (((l_list).getD (i : Int).toNat 0)))) then false else (p_spec_l02Finite_l1 l_list μ t2 (i + 1))) else true) := rfl
def p_spec_l02Finite (l_list : List Nat) : Bool := (p_spec_l02Finite_l1 l_list (Int.toNat ((l_list.length : Int) - (0 : Int)) + 1) false (0 : Int))
theorem p_spec_l02Finite_eq (l_list : List Nat) : p_spec_l02Finite l_list = (p_spec_l02Finite_l1 l_list (Int.toNat ((l_list.length : Int) - (0 : Int)) + 1) false (0 : Int)) := rfl
def T_spec_l02Finite (list_a : Option Addr) (list_n : Nat) (list_e : Nat) (H : AHeap) (K : Bool → AHeap → Prop) : Prop := ∃ (l_list : List Nat), IsL fF H list_a list_n l_list ∧ l_list.length < 1073741824 ∧ K (p_spec_l02Finite l_list) H
theorem T_spec_l02Finite_i {list_a : Option Addr} {list_n : Nat} {list_e : Nat} {H : AHeap} {K : Bool → AHeap → Prop} (h : ∃ (l_list : List Nat), IsL fF H list_a list_n l_list ∧ l_list.length < 1073741824 ∧ K (p_spec_l02Finite l_list) H) : T_spec_l02Finite list_a list_n list_e H K := h

/-! spec_l02Finite: function 67 -/
def E_spec_l02Finite : Env := envOf [(57, S_spec_l01Finite)]
def F_spec_l02Finite : List Value → AHeap → (Value → AHeap → Prop) → Prop
  | [.slice list_a list_n list_e], H, K => T_spec_l02Finite list_a list_n list_e H fun (r1 : Bool) (H' : AHeap) => K (.bool r1) H'
  | _, _, _ => False
def S_spec_l02Finite : FSpec := { F := F_spec_l02Finite, quiet := true, tame := false }
theorem spec_l02Finite_vc (list_a : Option Addr) (list_n : Nat) (list_e : Nat) (H : AHeap) (K : Value → AHeap → Prop) : bodyK Try.prog E_spec_l02Finite Try.f67 [.slice list_a list_n list_e] H K =
  (loopK (exK Try.prog E_spec_l02Finite (cl (cl (cr (cl (cr (bodyC Try.f67))))))) [.slice list_a list_n list_e, undef, .bool false, .int .i64 0, undef, undef, undef, undef, undef, undef, undef, undef, undef, undef, undef, undef] H (blockQ 0 (seqQ (exK Try.prog E_spec_l02Finite (cr (cr (bodyC Try.f67)))) (retK Try.prog Try.f67 K)))) := by kernel_rfl
theorem spec_l02Finite_r1 (list_a : Option Addr) (list_e : Nat) (list_n : Nat) (t2 : Bool) (i : Int) (g4 g5 g6 g7 g8 g9 g10 g11 g12 g13 g14 g15 : Value) (H : AHeap) (R : Post) : exK Try.prog E_spec_l02Finite (cl (cl (cr (cl (cr (bodyC Try.f67)))))) [.slice list_a list_n list_e, undef, .bool t2, .int .i64 i, g4, g5, g6, g7, g8, g9, g10, g11, g12, g13, g14, g15] H R =
  (Br (decide ((i : Int) < (list_n : Int))) ((0 : Int) ≤ i ∧ i < (list_n : Int) ∧ ∃ b1 f1, (list_a : Option Addr) = some ⟨b1, f1, none⟩ ∧ ∃ x1 : Nat,  rdC H b1 (f1 + (i : Int).toNat * 1) = some (.float .f32 x1) ∧ T_spec_l01Finite x1 H fun (r1 : Bool) (H1 : AHeap) => Br (!r1) (R .ret [.slice list_a list_n list_e, undef, .bool false, .int .i64 i, .int .i64 i, .slice list_a list_n list_e, .int .i64 (list_n : Int), .bool (decide ((i : Int) < (list_n : Int))), g8, g9, .slice list_a list_n list_e, .int .i64 i, .pointer (some ⟨b1, f1 + (i : Int).toNat * 1, none⟩), .float .f32 x1, .bool r1, .bool (!r1)] H1) (R .normal [.slice list_a list_n list_e, undef, .bool t2, .int .i64 (IntKind.wrap .i64 (i + 1)), .int .i64 i, .slice list_a list_n list_e, .int .i64 (list_n : Int), .bool (decide ((i : Int) < (list_n : Int))), .int .i64 i, .int .i64 (IntKind.wrap .i64 (i + 1)), .slice list_a list_n list_e, .int .i64 i, .pointer (some ⟨b1, f1 + (i : Int).toNat * 1, none⟩), .float .f32 x1, .bool r1, .bool (!r1)] H1)) (R (.exit 0) [.slice list_a list_n list_e, undef, .bool t2, .int .i64 i, .int .i64 i, .slice list_a list_n list_e, .int .i64 (list_n : Int), .bool (decide ((i : Int) < (list_n : Int))), g8, g9, g10, g11, g12, g13, g14, g15] H)) := by kernel_rfl
def spec_l02Finite_I1 (list_a : Option Addr) (list_e : Nat) (list_n : Nat) (Inv : Nat → Bool → Int → AHeap → Prop) : Nat → List Value → AHeap → Prop := fun μ tm H => ∃ (t2 : Bool), ∃ (i : Int), ∃ g4 g5 g6 g7 g8 g9 g10 g11 g12 g13 g14 g15, tm = [.slice list_a list_n list_e, undef, .bool t2, .int .i64 i, g4, g5, g6, g7, g8, g9, g10, g11, g12, g13, g14, g15] ∧ Inv μ t2 i H
theorem spec_l02Finite_L1 (list_a : Option Addr) (list_e : Nat) (list_n : Nat) {Q : Post} (Inv : Nat → Bool → Int → AHeap → Prop) (ν : Nat) (t2 : Bool) (i : Int) (g4 g5 g6 g7 g8 g9 g10 g11 g12 g13 g14 g15 : Value) (H : AHeap) (h0 : Inv ν t2 i H)
    (hs : ∀ (μ : Nat) (t2 : Bool) (i : Int) (g4 g5 g6 g7 g8 g9 g10 g11 g12 g13 g14 g15 : Value) (H : AHeap), Inv μ t2 i H → exK Try.prog E_spec_l02Finite (cl (cl (cr (cl (cr (bodyC Try.f67)))))) [.slice list_a list_n list_e, undef, .bool t2, .int .i64 i, g4, g5, g6, g7, g8, g9, g10, g11, g12, g13, g14, g15] H (loopQ (spec_l02Finite_I1 list_a list_e list_n Inv) μ Q)) : loopK (exK Try.prog E_spec_l02Finite (cl (cl (cr (cl (cr (bodyC Try.f67))))))) [.slice list_a list_n list_e, undef, .bool t2, .int .i64 i, g4, g5, g6, g7, g8, g9, g10, g11, g12, g13, g14, g15] H Q :=
  ⟨spec_l02Finite_I1 list_a list_e list_n Inv, ν, ⟨t2, i, g4, g5, g6, g7, g8, g9, g10, g11, g12, g13, g14, g15, rfl, h0⟩, fun μ tm H h => by obtain ⟨t2, i, g4, g5, g6, g7, g8, g9, g10, g11, g12, g13, g14, g15, rfl, hI⟩ := h; exact hs μ t2 i g4 g5 g6 g7 g8 g9 g10 g11 g12 g13 g14 g15 H hI⟩
theorem spec_l02Finite_n1 {list_a : Option Addr} {list_e : Nat} {list_n : Nat} {Q : Post} {Inv : Nat → Bool → Int → AHeap → Prop} {μ : Nat} (μ' : Nat) {t2 : Bool} {i : Int} {g4 g5 g6 g7 g8 g9 g10 g11 g12 g13 g14 g15 : Value} {H : AHeap} (hm : μ' < μ) (hI : Inv μ' t2 i H) : loopQ (spec_l02Finite_I1 list_a list_e list_n Inv) μ Q .normal [.slice list_a list_n list_e, undef, .bool t2, .int .i64 i, g4, g5, g6, g7, g8, g9, g10, g11, g12, g13, g14, g15] H := ⟨μ', hm, t2, i, g4, g5, g6, g7, g8, g9, g10, g11, g12, g13, g14, g15, rfl, hI⟩
theorem spec_l02Finite_x1_0 (list_a : Option Addr) (list_e : Nat) (list_n : Nat) (t2 : Bool) (i : Int) (g4 g5 g6 g7 g8 g9 g10 g11 g12 g13 g14 g15 : Value) (H : AHeap) (K : Value → AHeap → Prop)  {I : Nat → List Value → AHeap → Prop} {μ : Nat} : loopQ I μ (blockQ 0 (seqQ (exK Try.prog E_spec_l02Finite (cr (cr (bodyC Try.f67)))) (retK Try.prog Try.f67 K))) (.exit 0) [.slice list_a list_n list_e, undef, .bool t2, .int .i64 i, g4, g5, g6, g7, g8, g9, g10, g11, g12, g13, g14, g15] H =
  (K (.bool true) H) := by kernel_rfl
theorem spec_l02Finite_x1_ret (list_a : Option Addr) (list_e : Nat) (list_n : Nat) (t2 : Bool) (i : Int) (g4 g5 g6 g7 g8 g9 g10 g11 g12 g13 g14 g15 : Value) (H : AHeap) (K : Value → AHeap → Prop)  {I : Nat → List Value → AHeap → Prop} {μ : Nat} : loopQ I μ (blockQ 0 (seqQ (exK Try.prog E_spec_l02Finite (cr (cr (bodyC Try.f67)))) (retK Try.prog Try.f67 K))) .ret [.slice list_a list_n list_e, undef, .bool t2, .int .i64 i, g4, g5, g6, g7, g8, g9, g10, g11, g12, g13, g14, g15] H =
  (K (.bool t2) H) := by kernel_rfl
theorem E_spec_l02Finite_ok : ∀ g, FnOk Try.prog g (E_spec_l02Finite g) := FnOk.envOf (by
  intro x hx
  simp only [List.mem_cons, List.not_mem_nil, or_false] at hx
  subst hx; exact spec_l01Finite_ok)
set_option maxHeartbeats 1000000 in
theorem spec_l02Finite_main (list_a : Option Addr) (list_n : Nat) (list_e : Nat) (H : AHeap) (K : Value → AHeap → Prop) (h : T_spec_l02Finite list_a list_n list_e H fun (r1 : Bool) (H' : AHeap) => K (.bool r1) H') : bodyK Try.prog E_spec_l02Finite Try.f67 [.slice list_a list_n list_e] H K := by
  rw [spec_l02Finite_vc]
  obtain ⟨l_list, i_list, bd_9, hk⟩ := h
  obtain rfl := i_list.eqn
  have e : (p_spec_l02Finite l_list) = _ := rfl
  have e := e.trans (p_spec_l02Finite_eq l_list)
  have g0 := Grow.refl H
  refine spec_l02Finite_L1 _ _ _ (fun (μ : Nat) (t2 : Bool) (i : Int) (H_1 : AHeap) => H = H_1 ∧ (0 : Int) ≤ i ∧ i ≤ (l_list.length : Int) ∧ (l_list.length : Int) - i ≤ (μ : Int) ∧ p_spec_l02Finite l_list = p_spec_l02Finite_l1 l_list (μ + 1) t2 i) (Int.toNat ((l_list.length : Int) - (0 : Int))) _ _ _ _ _ _ _ _ _ _ _ _ _ _ H ?_ ?_
  · exact ⟨rfl, (by first | omega | (simp; done) | (simp; omega)), (by first | omega | (simp; done) | (simp; omega)), (by omega), e⟩
  · intro μ t2 i g4 g5 g6 g7 g8 g9 g10 g11 g12 g13 g14 g15 H_1 hI
    obtain ⟨rfl, v_1, v_2, hμ, e⟩ := hI
    rw [spec_l02Finite_r1]
    have e := e.trans (p_spec_l02Finite_l1_s l_list μ t2 i)
    have l_3 := g0.1
    refine Br.intro (fun c_4 => ?_) (fun c_4 => ?_)
    · have e := e.trans (cond_t c_4)
      have c_4' := of_decide_eq_true c_4
      obtain ⟨b_5, f_6, q_7⟩ := ((i_list.grow g0)).pos (by first | omega | (simp only [List.length_set, List.length_replicate, List.length_append, List.length_cons, List.length_nil, List.length_take, List.length_drop, marks_length]; done) | (simp only [List.length_set, List.length_replicate, List.length_append, List.length_cons, List.length_nil, List.length_take, List.length_drop, marks_length]; omega))
      refine ⟨by omega, by omega, b_5, f_6, q_7, ?_⟩
      refine ⟨((l_list).getD (i : Int).toNat 0), (i_list).rd g0 q_7 (by omega) _, ?_⟩
      refine T_spec_l01Finite_i ?_
      refine Br.intro (fun c_8 => ?_) (fun c_8 => ?_)
      · have e := e.trans (cond_t c_8)
        have c_8n := nf_of_t c_8
        rw [spec_l02Finite_x1_ret]
        rw [e] at hk
        exact hk
      · have e := e.trans (cond_f c_8)
        have c_8n := nt_of_f c_8
        rw [show IntKind.wrap .i64 (i + 1) = (i + 1) from wrap64 (by omega) (by omega)]
        refine spec_l02Finite_n1 (μ - 1) (by first | omega) ⟨rfl, (by first | omega | (simp only [List.length_append, List.length_cons, List.length_nil, List.length_set]; done) | (simp only [List.length_append, List.length_cons, List.length_nil, List.length_set]; omega)), (by first | omega | (simp only [List.length_append, List.length_cons, List.length_nil, List.length_set]; done) | (simp only [List.length_append, List.length_cons, List.length_nil, List.length_set]; omega)), (by first | omega), (by rw [show μ - 1 + 1 = μ from by first | omega]; exact e)⟩
    · have e := e.trans (cond_f c_4)
      have c_4' := of_decide_eq_false c_4
      rw [spec_l02Finite_x1_0]
      rw [e] at hk
      exact hk
theorem spec_l02Finite_ok : FnOk Try.prog 67 S_spec_l02Finite := by
  refine FnOk.body mix_ok E_spec_l02Finite_ok Try.func67 rfl (by kernel_rfl) (by kernel_rfl) ?_ ?_ ?_ ?_ ?_
  · intro args H K K' h hk
    simp only [S_spec_l02Finite] at *
    unfold F_spec_l02Finite at *
    split at hk
    · obtain ⟨l_list, i_list, bd_9, k⟩ := hk
      exact ⟨l_list, i_list, bd_9, h _ _ k⟩
    · exact hk.elim
  · intro _ args H K hk
    simp only [S_spec_l02Finite] at *
    unfold F_spec_l02Finite at *
    split at hk
    · obtain ⟨l_list, i_list, bd_9, k⟩ := hk
      exact ⟨_, k, fun K' k' => ⟨l_list, i_list, bd_9, k'⟩⟩
    · exact hk.elim
  · intro args H K hk
    simp only [S_spec_l02Finite] at *
    unfold F_spec_l02Finite at *
    split at hk
    · obtain ⟨l_list, i_list, bd_9, k⟩ := hk
      exact ⟨_, _, k⟩
    · exact hk.elim
  · intro hq; cases hq
  · have mm := @spec_l02Finite_main
    revert mm
    generalize bodyK Try.prog E_spec_l02Finite Try.f67 = Q
    intro mm args H K hk
    simp only [S_spec_l02Finite] at *
    unfold F_spec_l02Finite at *
    split at hk
    · exact mm _ _ _ H K hk
    · exact hk.elim

def p_spec_l04Is (pp_Wide : Int) (pp_High : Int) (l_pp_Lights : List Nat) : Bool := ((bif (p_spec_l04Sides pp_Wide pp_High) then (bif ((l_pp_Lights.length : Int) : Int) == IntKind.wrap .i64 (pp_Wide * pp_High) then (p_spec_l02Finite l_pp_Lights) else false) else false))
theorem p_spec_l04Is_eq (pp_Wide : Int) (pp_High : Int) (l_pp_Lights : List Nat) : p_spec_l04Is pp_Wide pp_High l_pp_Lights = ((bif (p_spec_l04Sides pp_Wide pp_High) then (bif ((l_pp_Lights.length : Int) : Int) == IntKind.wrap .i64 (pp_Wide * pp_High) then (p_spec_l02Finite l_pp_Lights) else false) else false)) := rfl
def T_spec_l04Is (p : Nat) (H : AHeap) (K : Bool → AHeap → Prop) : Prop := ∃ (pp_Wide : Int), ∃ (pp_High : Int), ∃ (pp_Lights_a : Option Addr), ∃ (pp_Lights_n : Nat), ∃ (pp_Lights_e : Nat), ∃ (l_pp_Lights : List Nat), rdN H p 0 3 = some [.int .i64 pp_Wide, .int .i64 pp_High, .slice pp_Lights_a pp_Lights_n pp_Lights_e] ∧ IsL fF H pp_Lights_a pp_Lights_n l_pp_Lights ∧ l_pp_Lights.length < 1073741824 ∧ K (p_spec_l04Is pp_Wide pp_High l_pp_Lights) H
theorem T_spec_l04Is_i {p : Nat} {H : AHeap} {K : Bool → AHeap → Prop} (h : ∃ (pp_Wide : Int), ∃ (pp_High : Int), ∃ (pp_Lights_a : Option Addr), ∃ (pp_Lights_n : Nat), ∃ (pp_Lights_e : Nat), ∃ (l_pp_Lights : List Nat), rdN H p 0 3 = some [.int .i64 pp_Wide, .int .i64 pp_High, .slice pp_Lights_a pp_Lights_n pp_Lights_e] ∧ IsL fF H pp_Lights_a pp_Lights_n l_pp_Lights ∧ l_pp_Lights.length < 1073741824 ∧ K (p_spec_l04Is pp_Wide pp_High l_pp_Lights) H) : T_spec_l04Is p H K := h
theorem spec_l04Is_t {w h : Int} {l : List Nat} (hh : p_spec_l04Is w h l = true) : 1 ≤ w ∧ w ≤ 16 ∧ 1 ≤ h ∧ h ≤ 16 ∧ (l.length : Int) = w * h ∧ (l.length : Int) ≤ 256 ∧ 1 ≤ (l.length : Int) := by
  rw [p_spec_l04Is_eq, p_spec_l04Sides_eq] at hh
  simp only [Bool.cond_false_right, Bool.and_eq_true] at hh
  obtain ⟨⟨a, b⟩, c, -⟩ := hh
  have a := spec_l00In_t a
  have b := spec_l00In_t b
  have h1 : w * h ≤ 16 * 16 := Int.mul_le_mul (by omega) (by omega) (by omega) (by decide)
  have h2 : 1 * 1 ≤ w * h := Int.mul_le_mul (by omega) (by omega) (by omega) (by omega)
  have c := eq_of_beq c
  rw [wrap64 (by omega) (by omega)] at c
  exact ⟨a.1, a.2, b.1, b.2, c, by omega, by omega⟩
/-! spec_l04Is: function 89 -/
def E_spec_l04Is : Env := envOf [(129, S_spec_l04Sides), (67, S_spec_l02Finite)]
def F_spec_l04Is : List Value → AHeap → (Value → AHeap → Prop) → Prop
  | [.pointer (some ⟨p, 0, none⟩)], H, K => T_spec_l04Is p H fun (r1 : Bool) (H' : AHeap) => K (.bool r1) H'
  | _, _, _ => False
def S_spec_l04Is : FSpec := { F := F_spec_l04Is, quiet := true, tame := false }
theorem spec_l04Is_vc (p : Nat) (H : AHeap) (K : Value → AHeap → Prop) : bodyK Try.prog E_spec_l04Is Try.f89 [.pointer (some ⟨p, 0, none⟩)] H K =
  (∃ x1 : Int,  rdC H p 0 = some (.int .i64 x1) ∧ ∃ x2 : Int,  rdC H p 1 = some (.int .i64 x2) ∧ T_spec_l04Sides x1 x2 H fun (r1 : Bool) (H1 : AHeap) => Br r1 (∃ x3_a : Option Addr, ∃ x3_n : Nat, ∃ x3_e : Nat,  rdC H1 p 2 = some (.slice x3_a x3_n x3_e) ∧ ∃ x4 : Int,  rdC H1 p 0 = some (.int .i64 x4) ∧ ∃ x5 : Int,  rdC H1 p 1 = some (.int .i64 x5) ∧ Br (((x3_n : Int) : Int) == IntKind.wrap .i64 (x4 * x5)) (∃ x6_a : Option Addr, ∃ x6_n : Nat, ∃ x6_e : Nat,  rdC H1 p 2 = some (.slice x6_a x6_n x6_e) ∧ T_spec_l02Finite x6_a x6_n x6_e H1 fun (r2 : Bool) (H2 : AHeap) => K (.bool r2) H2) (K (.bool false) H1)) (K (.bool false) H1)) := by kernel_rfl
theorem E_spec_l04Is_ok : ∀ g, FnOk Try.prog g (E_spec_l04Is g) := FnOk.envOf (by
  intro x hx
  simp only [List.mem_cons, List.not_mem_nil, or_false] at hx
  rcases hx with rfl | rfl
  · exact spec_l04Sides_ok
  · exact spec_l02Finite_ok)
set_option maxHeartbeats 1000000 in
theorem spec_l04Is_main (p : Nat) (H : AHeap) (K : Value → AHeap → Prop) (h : T_spec_l04Is p H fun (r1 : Bool) (H' : AHeap) => K (.bool r1) H') : bodyK Try.prog E_spec_l04Is Try.f89 [.pointer (some ⟨p, 0, none⟩)] H K := by
  rw [spec_l04Is_vc]
  obtain ⟨pp_Wide, pp_High, pp_Lights_a, pp_Lights_n, pp_Lights_e, l_pp_Lights, i_p, i_pp_Lights, bd_3, hk⟩ := h
  obtain rfl := i_pp_Lights.eqn
  have e : (p_spec_l04Is pp_Wide pp_High l_pp_Lights) = _ := rfl
  have e := e.trans (p_spec_l04Is_eq pp_Wide pp_High l_pp_Lights)
  have g0 := Grow.refl H
  refine ⟨pp_Wide, (rdN_at (rdN_grow g0 i_p) 0 (Nat.le_of_ble_eq_true rfl)).trans rfl, ?_⟩
  refine ⟨pp_High, (rdN_at (rdN_grow g0 i_p) 1 (Nat.le_of_ble_eq_true rfl)).trans rfl, ?_⟩
  refine T_spec_l04Sides_i ?_
  refine Br.intro (fun c_1 => ?_) (fun c_1 => ?_)
  · have e := e.trans (cond_t c_1)
    refine ⟨pp_Lights_a, l_pp_Lights.length, pp_Lights_e, (rdN_at (rdN_grow g0 i_p) 2 (Nat.le_of_ble_eq_true rfl)).trans rfl, ?_⟩
    refine ⟨pp_Wide, (rdN_at (rdN_grow g0 i_p) 0 (Nat.le_of_ble_eq_true rfl)).trans rfl, ?_⟩
    refine ⟨pp_High, (rdN_at (rdN_grow g0 i_p) 1 (Nat.le_of_ble_eq_true rfl)).trans rfl, ?_⟩
    refine Br.intro (fun c_2 => ?_) (fun c_2 => ?_)
    · have e := e.trans (cond_t c_2)
      have c_2' := ieq_t c_2
      refine ⟨pp_Lights_a, l_pp_Lights.length, pp_Lights_e, (rdN_at (rdN_grow g0 i_p) 2 (Nat.le_of_ble_eq_true rfl)).trans rfl, ?_⟩
      refine T_spec_l02Finite_i ⟨_, (i_pp_Lights.grow g0), (by first | omega | (simp only [List.length_set, List.length_replicate, List.length_append, List.length_cons, List.length_nil, List.length_take, List.length_drop, marks_length]; done) | (simp only [List.length_set, List.length_replicate, List.length_append, List.length_cons, List.length_nil, List.length_take, List.length_drop, marks_length]; omega)), ?_⟩
      rw [e] at hk
      exact hk
    · have e := e.trans (cond_f c_2)
      have c_2' := ieq_f c_2
      rw [e] at hk
      exact hk
  · have e := e.trans (cond_f c_1)
    rw [e] at hk
    exact hk
theorem spec_l04Is_ok : FnOk Try.prog 89 S_spec_l04Is := by
  refine FnOk.body mix_ok E_spec_l04Is_ok Try.func89 rfl (by kernel_rfl) (by kernel_rfl) ?_ ?_ ?_ ?_ ?_
  · intro args H K K' h hk
    simp only [S_spec_l04Is] at *
    unfold F_spec_l04Is at *
    split at hk
    · obtain ⟨pp_Wide, pp_High, pp_Lights_a, pp_Lights_n, pp_Lights_e, l_pp_Lights, i_p, i_pp_Lights, bd_3, k⟩ := hk
      exact ⟨pp_Wide, pp_High, pp_Lights_a, pp_Lights_n, pp_Lights_e, l_pp_Lights, i_p, i_pp_Lights, bd_3, h _ _ k⟩
    · exact hk.elim
  · intro _ args H K hk
    simp only [S_spec_l04Is] at *
    unfold F_spec_l04Is at *
    split at hk
    · obtain ⟨pp_Wide, pp_High, pp_Lights_a, pp_Lights_n, pp_Lights_e, l_pp_Lights, i_p, i_pp_Lights, bd_3, k⟩ := hk
      exact ⟨_, k, fun K' k' => ⟨pp_Wide, pp_High, pp_Lights_a, pp_Lights_n, pp_Lights_e, l_pp_Lights, i_p, i_pp_Lights, bd_3, k'⟩⟩
    · exact hk.elim
  · intro args H K hk
    simp only [S_spec_l04Is] at *
    unfold F_spec_l04Is at *
    split at hk
    · obtain ⟨pp_Wide, pp_High, pp_Lights_a, pp_Lights_n, pp_Lights_e, l_pp_Lights, i_p, i_pp_Lights, bd_3, k⟩ := hk
      exact ⟨_, _, k⟩
    · exact hk.elim
  · intro hq; cases hq
  · have mm := @spec_l04Is_main
    revert mm
    generalize bodyK Try.prog E_spec_l04Is Try.f89 = Q
    intro mm args H K hk
    simp only [S_spec_l04Is] at *
    unfold F_spec_l04Is at *
    split at hk
    · exact mm _ H K hk
    · exact hk.elim
def p_spec_l04Levels (levels : Int) : Bool := (p_spec_l00In levels 1 4)
theorem p_spec_l04Levels_eq (levels : Int) : p_spec_l04Levels levels = (p_spec_l00In levels 1 4) := rfl
def T_spec_l04Levels (levels : Int) (H : AHeap) (K : Bool → AHeap → Prop) : Prop := K (p_spec_l04Levels levels) H
theorem spec_l04Levels_t {n : Int} (h : p_spec_l04Levels n = true) : 1 ≤ n ∧ n ≤ 4 := by
  unfold p_spec_l04Levels p_spec_l00In at h
  by_cases h1 : 1 ≤ n
  · by_cases h2 : n ≤ 4
    · exact ⟨h1, h2⟩
    · rw [decide_eq_true h1, decide_eq_false h2] at h; cases h
  · rw [decide_eq_false h1] at h; cases h
theorem T_spec_l04Levels_i {levels : Int} {H : AHeap} {K : Bool → AHeap → Prop} (h : K (p_spec_l04Levels levels) H) : T_spec_l04Levels levels H K := h
/-! spec_l04Levels: function 90 -/
def E_spec_l04Levels : Env := envOf [(70, S_spec_l00In)]
def F_spec_l04Levels : List Value → AHeap → (Value → AHeap → Prop) → Prop
  | [.int .i64 levels], H, K => T_spec_l04Levels levels H fun (r1 : Bool) (H' : AHeap) => K (.bool r1) H'
  | _, _, _ => False
def S_spec_l04Levels : FSpec := { F := F_spec_l04Levels, quiet := true, tame := false }
theorem spec_l04Levels_vc (levels : Int) (H : AHeap) (K : Value → AHeap → Prop) : bodyK Try.prog E_spec_l04Levels Try.f90 [.int .i64 levels] H K =
  (T_spec_l00In levels 1 4 H fun (r1 : Bool) (H1 : AHeap) => K (.bool r1) H1) := by kernel_rfl
theorem E_spec_l04Levels_ok : ∀ g, FnOk Try.prog g (E_spec_l04Levels g) := FnOk.envOf (by
  intro x hx
  simp only [List.mem_cons, List.not_mem_nil, or_false] at hx
  subst hx; exact spec_l00In_ok)
set_option maxHeartbeats 1000000 in
theorem spec_l04Levels_main (levels : Int) (H : AHeap) (K : Value → AHeap → Prop) (h : T_spec_l04Levels levels H fun (r1 : Bool) (H' : AHeap) => K (.bool r1) H') : bodyK Try.prog E_spec_l04Levels Try.f90 [.int .i64 levels] H K := by
  rw [spec_l04Levels_vc]
  simp only [T_spec_l00In]
  unfold T_spec_l04Levels p_spec_l04Levels at h
  repeat' (first | exact h | (exfalso; simp_all; done) | (refine ⟨by decide, ?_⟩) | (refine Br.intro (fun hb => ?_) (fun hb => ?_) <;> (try simp only [hb, cond_true, cond_false, Bool.not_true, Bool.not_false] at h)))
theorem spec_l04Levels_ok : FnOk Try.prog 90 S_spec_l04Levels := by
  refine FnOk.body mix_ok E_spec_l04Levels_ok Try.func90 rfl (by kernel_rfl) (by kernel_rfl) ?_ ?_ ?_ ?_ ?_
  · intro args H K K' h hk
    simp only [S_spec_l04Levels] at *
    unfold F_spec_l04Levels at *
    split at hk
    · have k := hk
      exact h _ _ k
    · exact hk.elim
  · intro _ args H K hk
    simp only [S_spec_l04Levels] at *
    unfold F_spec_l04Levels at *
    split at hk
    · have k := hk
      exact ⟨_, k, fun K' k' => k'⟩
    · exact hk.elim
  · intro args H K hk
    simp only [S_spec_l04Levels] at *
    unfold F_spec_l04Levels at *
    split at hk
    · have k := hk
      exact ⟨_, _, k⟩
    · exact hk.elim
  · intro hq; cases hq
  · have mm := @spec_l04Levels_main
    revert mm
    generalize bodyK Try.prog E_spec_l04Levels Try.f90 = Q
    intro mm args H K hk
    simp only [S_spec_l04Levels] at *
    unfold F_spec_l04Levels at *
    split at hk
    · exact mm _ H K hk
    · exact hk.elim

def p_spec_l04Halves_l1 (wide : Int) (high : Int) (n : Int) : Nat → Int → Int → Int → Int × Int
  | 0, _, _, _ => (0, 0)
  | μ + 1, wide_0, high_1, k => (bif decide ((k : Int) < n) then (p_spec_l04Halves_l1 wide high n μ ((Int.tdiv (wide_0 + 1) 2)) ((Int.tdiv (high_1 + 1) 2)) (k + 1)) else (wide_0, high_1))
theorem p_spec_l04Halves_l1_s (wide : Int) (high : Int) (n : Int) (μ : Nat) (wide_0 : Int) (high_1 : Int) (k : Int) : p_spec_l04Halves_l1 wide high n (μ + 1) wide_0 high_1 k = (bif decide ((k : Int) < n) then (p_spec_l04Halves_l1 wide high n μ ((Int.tdiv (wide_0 + 1) 2)) ((Int.tdiv (high_1 + 1) 2)) (k + 1)) else (wide_0, high_1)) := rfl
def p_spec_l04Halves (wide : Int) (high : Int) (n : Int) : Int × Int := (p_spec_l04Halves_l1 wide high n (Int.toNat (n - (0 : Int)) + 1) wide high (0 : Int))
theorem p_spec_l04Halves_eq (wide : Int) (high : Int) (n : Int) : p_spec_l04Halves wide high n = (p_spec_l04Halves_l1 wide high n (Int.toNat (n - (0 : Int)) + 1) wide high (0 : Int)) := rfl
def T_spec_l04Halves (wide : Int) (high : Int) (n : Int) (H : AHeap) (K : Int → Int → AHeap → Prop) : Prop := 1 ≤ wide ∧ wide ≤ 16 ∧ 1 ≤ high ∧ high ≤ 16 ∧ n ≤ 1000 ∧ K ((p_spec_l04Halves wide high n).1) ((p_spec_l04Halves wide high n).2) H
theorem T_spec_l04Halves_i {wide : Int} {high : Int} {n : Int} {H : AHeap} {K : Int → Int → AHeap → Prop} (h : 1 ≤ wide ∧ wide ≤ 16 ∧ 1 ≤ high ∧ high ≤ 16 ∧ n ≤ 1000 ∧ K ((p_spec_l04Halves wide high n).1) ((p_spec_l04Halves wide high n).2) H) : T_spec_l04Halves wide high n H K := h
theorem l04Halves_go (w h n : Int) : ∀ (μ : Nat) (a b k : Int), 1 ≤ a → a ≤ 16 → 1 ≤ b → b ≤ 16 → n - k ≤ μ → p_spec_l04Halves_l1 w h n (μ + 1) a b k = (halves (n - k).toNat a, halves (n - k).toNat b) := by
  intro μ
  induction μ with
  | zero =>
    intro a b k h1 h2 h3 h4 hm
    rw [p_spec_l04Halves_l1_s, decide_eq_false (by omega), cond_false, show (n - k).toNat = 0 by omega]; rfl
  | succ μ ih =>
    intro a b k h1 h2 h3 h4 hm
    rw [p_spec_l04Halves_l1_s]
    by_cases h : k < n
    · rw [decide_eq_true h, cond_true, halfI_div h1, halfI_div h3]
      have ra := halfI_rng h1 h2
      have rb := halfI_rng h3 h4
      obtain ⟨j, hj⟩ : ∃ j, (n - k).toNat = j + 1 := ⟨(n - k).toNat - 1, by omega⟩
      rw [ih (halfI a) (halfI b) (k + 1) (by omega) (by omega) (by omega) (by omega) (by omega), hj, show (n - (k + 1)).toNat = j by omega]; rfl
    · rw [decide_eq_false h, cond_false, show (n - k).toNat = 0 by omega]; rfl
theorem l04Halves_is (w h n : Int) (h1 : 1 ≤ w) (h2 : w ≤ 16) (h3 : 1 ≤ h) (h4 : h ≤ 16) : p_spec_l04Halves w h n = (halves n.toNat w, halves n.toNat h) := by
  rw [p_spec_l04Halves_eq, l04Halves_go w h n _ w h 0 h1 h2 h3 h4 (by omega), show n - 0 = n by omega]
theorem l04Halves_rng (w h n : Int) : 1 ≤ w ∧ w ≤ 16 ∧ 1 ≤ h ∧ h ≤ 16 → 1 ≤ (p_spec_l04Halves w h n).1 ∧ (p_spec_l04Halves w h n).1 ≤ w ∧ 1 ≤ (p_spec_l04Halves w h n).2 ∧ (p_spec_l04Halves w h n).2 ≤ h := fun ⟨h1, h2, h3, h4⟩ => by
  rw [l04Halves_is w h n h1 h2 h3 h4]
  have a := halves_rng n.toNat w h1 h2
  have b := halves_rng n.toNat h h3 h4
  exact ⟨a.1, a.2, b.1, b.2⟩
/-! spec_l04Halves: function 145 -/
def E_spec_l04Halves : Env := envOf []
def F_spec_l04Halves : List Value → AHeap → (Value → AHeap → Prop) → Prop
  | [.int .i64 wide, .int .i64 high, .int .i64 n], H, K => T_spec_l04Halves wide high n H fun (r1 : Int) (r2 : Int) (H' : AHeap) => K (.tuple #[.int .i64 r1, .int .i64 r2]) H'
  | _, _, _ => False
def S_spec_l04Halves : FSpec := { F := F_spec_l04Halves, quiet := true, tame := false }
theorem spec_l04Halves_vc (wide : Int) (high : Int) (n : Int) (H : AHeap) (K : Value → AHeap → Prop) : bodyK Try.prog E_spec_l04Halves Try.f145 [.int .i64 wide, .int .i64 high, .int .i64 n] H K =
  (loopK (exK Try.prog E_spec_l04Halves (cl (cl (cr (cl (cr (bodyC Try.f145))))))) [.int .i64 wide, .int .i64 high, .int .i64 n, undef, undef, undef, .int .i64 0, .int .i64 0, .int .i64 0, undef, undef, undef, undef, undef, undef, undef, undef, undef, undef, undef, undef, undef] H (blockQ 0 (seqQ (exK Try.prog E_spec_l04Halves (cr (cr (bodyC Try.f145)))) (retK Try.prog Try.f145 K)))) := by kernel_rfl
theorem spec_l04Halves_r1 (n : Int) (wide_0 : Int) (high_1 : Int) (k : Int) (g9 g10 g11 g12 g13 g14 g15 g16 g17 g18 g19 : Value) (H : AHeap) (R : Post) : exK Try.prog E_spec_l04Halves (cl (cl (cr (cl (cr (bodyC Try.f145)))))) [.int .i64 wide_0, .int .i64 high_1, .int .i64 n, undef, undef, undef, .int .i64 0, .int .i64 0, .int .i64 k, g9, g10, g11, g12, g13, g14, g15, g16, g17, g18, g19, undef, undef] H R =
  (Br (decide ((k : Int) < n)) (2 ≠ (0 : Int) ∧ 2 ≠ (0 : Int) ∧ R .normal [.int .i64 (IntKind.wrap .i64 (Int.tdiv (IntKind.wrap .i64 (wide_0 + 1)) 2)), .int .i64 (IntKind.wrap .i64 (Int.tdiv (IntKind.wrap .i64 (high_1 + 1)) 2)), .int .i64 n, undef, undef, undef, .int .i64 0, .int .i64 0, .int .i64 (IntKind.wrap .i64 (k + 1)), .int .i64 k, .int .i64 n, .bool (decide ((k : Int) < n)), .int .i64 k, .int .i64 (IntKind.wrap .i64 (k + 1)), .int .i64 wide_0, .int .i64 (IntKind.wrap .i64 (wide_0 + 1)), .int .i64 (IntKind.wrap .i64 (Int.tdiv (IntKind.wrap .i64 (wide_0 + 1)) 2)), .int .i64 high_1, .int .i64 (IntKind.wrap .i64 (high_1 + 1)), .int .i64 (IntKind.wrap .i64 (Int.tdiv (IntKind.wrap .i64 (high_1 + 1)) 2)), undef, undef] H) (R (.exit 0) [.int .i64 wide_0, .int .i64 high_1, .int .i64 n, undef, undef, undef, .int .i64 0, .int .i64 0, .int .i64 k, .int .i64 k, .int .i64 n, .bool (decide ((k : Int) < n)), g12, g13, g14, g15, g16, g17, g18, g19, undef, undef] H)) := by kernel_rfl
def spec_l04Halves_I1 (n : Int) (Inv : Nat → Int → Int → Int → AHeap → Prop) : Nat → List Value → AHeap → Prop := fun μ tm H => ∃ (wide_0 : Int), ∃ (high_1 : Int), ∃ (k : Int), ∃ g9 g10 g11 g12 g13 g14 g15 g16 g17 g18 g19, tm = [.int .i64 wide_0, .int .i64 high_1, .int .i64 n, undef, undef, undef, .int .i64 0, .int .i64 0, .int .i64 k, g9, g10, g11, g12, g13, g14, g15, g16, g17, g18, g19, undef, undef] ∧ Inv μ wide_0 high_1 k H
theorem spec_l04Halves_L1 (n : Int) {Q : Post} (Inv : Nat → Int → Int → Int → AHeap → Prop) (ν : Nat) (wide_0 : Int) (high_1 : Int) (k : Int) (g9 g10 g11 g12 g13 g14 g15 g16 g17 g18 g19 : Value) (H : AHeap) (h0 : Inv ν wide_0 high_1 k H)
    (hs : ∀ (μ : Nat) (wide_0 : Int) (high_1 : Int) (k : Int) (g9 g10 g11 g12 g13 g14 g15 g16 g17 g18 g19 : Value) (H : AHeap), Inv μ wide_0 high_1 k H → exK Try.prog E_spec_l04Halves (cl (cl (cr (cl (cr (bodyC Try.f145)))))) [.int .i64 wide_0, .int .i64 high_1, .int .i64 n, undef, undef, undef, .int .i64 0, .int .i64 0, .int .i64 k, g9, g10, g11, g12, g13, g14, g15, g16, g17, g18, g19, undef, undef] H (loopQ (spec_l04Halves_I1 n Inv) μ Q)) : loopK (exK Try.prog E_spec_l04Halves (cl (cl (cr (cl (cr (bodyC Try.f145))))))) [.int .i64 wide_0, .int .i64 high_1, .int .i64 n, undef, undef, undef, .int .i64 0, .int .i64 0, .int .i64 k, g9, g10, g11, g12, g13, g14, g15, g16, g17, g18, g19, undef, undef] H Q :=
  ⟨spec_l04Halves_I1 n Inv, ν, ⟨wide_0, high_1, k, g9, g10, g11, g12, g13, g14, g15, g16, g17, g18, g19, rfl, h0⟩, fun μ tm H h => by obtain ⟨wide_0, high_1, k, g9, g10, g11, g12, g13, g14, g15, g16, g17, g18, g19, rfl, hI⟩ := h; exact hs μ wide_0 high_1 k g9 g10 g11 g12 g13 g14 g15 g16 g17 g18 g19 H hI⟩
theorem spec_l04Halves_n1 {n : Int} {Q : Post} {Inv : Nat → Int → Int → Int → AHeap → Prop} {μ : Nat} (μ' : Nat) {wide_0 : Int} {high_1 : Int} {k : Int} {g9 g10 g11 g12 g13 g14 g15 g16 g17 g18 g19 : Value} {H : AHeap} (hm : μ' < μ) (hI : Inv μ' wide_0 high_1 k H) : loopQ (spec_l04Halves_I1 n Inv) μ Q .normal [.int .i64 wide_0, .int .i64 high_1, .int .i64 n, undef, undef, undef, .int .i64 0, .int .i64 0, .int .i64 k, g9, g10, g11, g12, g13, g14, g15, g16, g17, g18, g19, undef, undef] H := ⟨μ', hm, wide_0, high_1, k, g9, g10, g11, g12, g13, g14, g15, g16, g17, g18, g19, rfl, hI⟩
theorem spec_l04Halves_x1_0 (n : Int) (wide_0 : Int) (high_1 : Int) (k : Int) (g9 g10 g11 g12 g13 g14 g15 g16 g17 g18 g19 : Value) (H : AHeap) (K : Value → AHeap → Prop)  {I : Nat → List Value → AHeap → Prop} {μ : Nat} : loopQ I μ (blockQ 0 (seqQ (exK Try.prog E_spec_l04Halves (cr (cr (bodyC Try.f145)))) (retK Try.prog Try.f145 K))) (.exit 0) [.int .i64 wide_0, .int .i64 high_1, .int .i64 n, undef, undef, undef, .int .i64 0, .int .i64 0, .int .i64 k, g9, g10, g11, g12, g13, g14, g15, g16, g17, g18, g19, undef, undef] H =
  (K (.tuple #[.int .i64 wide_0, .int .i64 high_1]) H) := by kernel_rfl
theorem E_spec_l04Halves_ok : ∀ g, FnOk Try.prog g (E_spec_l04Halves g) := FnOk.envOf (by
  intro x hx; cases hx)
set_option maxHeartbeats 1000000 in
theorem spec_l04Halves_main (wide : Int) (high : Int) (n : Int) (H : AHeap) (K : Value → AHeap → Prop) (h : T_spec_l04Halves wide high n H fun (r1 : Int) (r2 : Int) (H' : AHeap) => K (.tuple #[.int .i64 r1, .int .i64 r2]) H') : bodyK Try.prog E_spec_l04Halves Try.f145 [.int .i64 wide, .int .i64 high, .int .i64 n] H K := by
  rw [spec_l04Halves_vc]
  obtain ⟨pr0, pr1, pr2, pr3, pr4, hk⟩ := h
  have e : (p_spec_l04Halves wide high n) = _ := rfl
  have e := e.trans (p_spec_l04Halves_eq wide high n)
  have g0 := Grow.refl H
  refine spec_l04Halves_L1 _ (fun (μ : Nat) (wide_0 : Int) (high_1 : Int) (k : Int) (H_1 : AHeap) => H = H_1 ∧ (0 : Int) ≤ k ∧ ((k ≤ n ∨ k ≤ (0 : Int))) ∧ 1 ≤ wide_0 ∧ wide_0 ≤ 16 ∧ 1 ≤ high_1 ∧ high_1 ≤ 16 ∧ n - k ≤ (μ : Int) ∧ p_spec_l04Halves wide high n = p_spec_l04Halves_l1 wide high n (μ + 1) wide_0 high_1 k) (Int.toNat (n - (0 : Int))) _ _ _ _ _ _ _ _ _ _ _ _ _ _ H ?_ ?_
  · exact ⟨rfl, (by first | omega | (simp; done) | (simp; omega)), (by first | omega | (simp; done) | (simp; omega)), (by first | omega | (simp; done) | (simp; omega)), (by first | omega | (simp; done) | (simp; omega)), (by first | omega | (simp; done) | (simp; omega)), (by first | omega | (simp; done) | (simp; omega)), (by omega), e⟩
  · intro μ wide_0 high_1 k g9 g10 g11 g12 g13 g14 g15 g16 g17 g18 g19 H_1 hI
    obtain ⟨rfl, v_1, v_2, v_3, v_4, v_5, v_6, hμ, e⟩ := hI
    rw [spec_l04Halves_r1]
    have e := e.trans (p_spec_l04Halves_l1_s wide high n μ wide_0 high_1 k)
    have l_7 := g0.1
    refine Br.intro (fun c_8 => ?_) (fun c_8 => ?_)
    · have e := e.trans (cond_t c_8)
      have c_8' := of_decide_eq_true c_8
      rw [show IntKind.wrap .i64 (wide_0 + 1) = (wide_0 + 1) from wrap64 (by omega) (by omega)]
      have z_9 := tdiv_nn (wide_0 + 1) 2
      refine ⟨(by first | omega | decide | (simp; done) | (simp; omega)), ?_⟩
      rw [show IntKind.wrap .i64 (Int.tdiv (wide_0 + 1) 2) = (Int.tdiv (wide_0 + 1) 2) from wrap64 (by omega) (by omega)]
      rw [show IntKind.wrap .i64 (high_1 + 1) = (high_1 + 1) from wrap64 (by omega) (by omega)]
      have z_10 := tdiv_nn (high_1 + 1) 2
      refine ⟨(by first | omega | decide | (simp; done) | (simp; omega)), ?_⟩
      rw [show IntKind.wrap .i64 (Int.tdiv (high_1 + 1) 2) = (Int.tdiv (high_1 + 1) 2) from wrap64 (by omega) (by omega)]
      rw [show IntKind.wrap .i64 (k + 1) = (k + 1) from wrap64 (by omega) (by omega)]
      refine spec_l04Halves_n1 (μ - 1) (by first | omega) ⟨rfl, (by first | omega | (simp only [List.length_append, List.length_cons, List.length_nil, List.length_set]; done) | (simp only [List.length_append, List.length_cons, List.length_nil, List.length_set]; omega)), (by first | omega | (simp only [List.length_append, List.length_cons, List.length_nil, List.length_set]; done) | (simp only [List.length_append, List.length_cons, List.length_nil, List.length_set]; omega)), (by first | omega | (simp only [List.length_append, List.length_cons, List.length_nil, List.length_set]; done) | (simp only [List.length_append, List.length_cons, List.length_nil, List.length_set]; omega)), (by first | omega | (simp only [List.length_append, List.length_cons, List.length_nil, List.length_set]; done) | (simp only [List.length_append, List.length_cons, List.length_nil, List.length_set]; omega)), (by first | omega | (simp only [List.length_append, List.length_cons, List.length_nil, List.length_set]; done) | (simp only [List.length_append, List.length_cons, List.length_nil, List.length_set]; omega)), (by first | omega | (simp only [List.length_append, List.length_cons, List.length_nil, List.length_set]; done) | (simp only [List.length_append, List.length_cons, List.length_nil, List.length_set]; omega)), (by first | omega), (by rw [show μ - 1 + 1 = μ from by first | omega]; exact e)⟩
    · have e := e.trans (cond_f c_8)
      have c_8' := of_decide_eq_false c_8
      rw [spec_l04Halves_x1_0]
      rw [e] at hk
      exact hk
theorem spec_l04Halves_ok : FnOk Try.prog 145 S_spec_l04Halves := by
  refine FnOk.body mix_ok E_spec_l04Halves_ok Try.func145 rfl (by kernel_rfl) (by kernel_rfl) ?_ ?_ ?_ ?_ ?_
  · intro args H K K' h hk
    simp only [S_spec_l04Halves] at *
    unfold F_spec_l04Halves at *
    split at hk
    · obtain ⟨pr0, pr1, pr2, pr3, pr4, k⟩ := hk
      exact ⟨pr0, pr1, pr2, pr3, pr4, h _ _ k⟩
    · exact hk.elim
  · intro _ args H K hk
    simp only [S_spec_l04Halves] at *
    unfold F_spec_l04Halves at *
    split at hk
    · obtain ⟨pr0, pr1, pr2, pr3, pr4, k⟩ := hk
      exact ⟨_, k, fun K' k' => ⟨pr0, pr1, pr2, pr3, pr4, k'⟩⟩
    · exact hk.elim
  · intro args H K hk
    simp only [S_spec_l04Halves] at *
    unfold F_spec_l04Halves at *
    split at hk
    · obtain ⟨pr0, pr1, pr2, pr3, pr4, k⟩ := hk
      exact ⟨_, _, k⟩
    · exact hk.elim
  · intro hq; cases hq
  · have mm := @spec_l04Halves_main
    revert mm
    generalize bodyK Try.prog E_spec_l04Halves Try.f145 = Q
    intro mm args H K hk
    simp only [S_spec_l04Halves] at *
    unfold F_spec_l04Halves at *
    split at hk
    · exact mm _ _ _ H K hk
    · exact hk.elim

def p_spec_l04Region (wide : Int) (high : Int) (level : Int) (band : Int) : Int × Int × Int × Int := ((bif (band : Int) == 0 then ((0 : Int), (0 : Int), (p_spec_l04Halves ((p_spec_l04Halves wide high (level - 1)).1) ((p_spec_l04Halves wide high (level - 1)).2) (1 : Int)).1, (p_spec_l04Halves ((p_spec_l04Halves wide high (level - 1)).1) ((p_spec_l04Halves wide high (level - 1)).2) (1 : Int)).2) else (bif (band : Int) == 1 then ((p_spec_l04Halves ((p_spec_l04Halves wide high (level - 1)).1) ((p_spec_l04Halves wide high (level - 1)).2) (1 : Int)).1, (0 : Int), (((p_spec_l04Halves wide high (level - 1)).1) - ((p_spec_l04Halves ((p_spec_l04Halves wide high (level - 1)).1) ((p_spec_l04Halves wide high (level - 1)).2) (1 : Int)).1)), (p_spec_l04Halves ((p_spec_l04Halves wide high (level - 1)).1) ((p_spec_l04Halves wide high (level - 1)).2) (1 : Int)).2) else (bif (band : Int) == 2 then ((0 : Int), (p_spec_l04Halves ((p_spec_l04Halves wide high (level - 1)).1) ((p_spec_l04Halves wide high (level - 1)).2) (1 : Int)).2, (p_spec_l04Halves ((p_spec_l04Halves wide high (level - 1)).1) ((p_spec_l04Halves wide high (level - 1)).2) (1 : Int)).1, (((p_spec_l04Halves wide high (level - 1)).2) - ((p_spec_l04Halves ((p_spec_l04Halves wide high (level - 1)).1) ((p_spec_l04Halves wide high (level - 1)).2) (1 : Int)).2))) else ((p_spec_l04Halves ((p_spec_l04Halves wide high (level - 1)).1) ((p_spec_l04Halves wide high (level - 1)).2) (1 : Int)).1, (p_spec_l04Halves ((p_spec_l04Halves wide high (level - 1)).1) ((p_spec_l04Halves wide high (level - 1)).2) (1 : Int)).2, (((p_spec_l04Halves wide high (level - 1)).1) - ((p_spec_l04Halves ((p_spec_l04Halves wide high (level - 1)).1) ((p_spec_l04Halves wide high (level - 1)).2) (1 : Int)).1)), (((p_spec_l04Halves wide high (level - 1)).2) - ((p_spec_l04Halves ((p_spec_l04Halves wide high (level - 1)).1) ((p_spec_l04Halves wide high (level - 1)).2) (1 : Int)).2)))))))
theorem p_spec_l04Region_eq (wide : Int) (high : Int) (level : Int) (band : Int) : p_spec_l04Region wide high level band = ((bif (band : Int) == 0 then ((0 : Int), (0 : Int), (p_spec_l04Halves ((p_spec_l04Halves wide high (level - 1)).1) ((p_spec_l04Halves wide high (level - 1)).2) (1 : Int)).1, (p_spec_l04Halves ((p_spec_l04Halves wide high (level - 1)).1) ((p_spec_l04Halves wide high (level - 1)).2) (1 : Int)).2) else (bif (band : Int) == 1 then ((p_spec_l04Halves ((p_spec_l04Halves wide high (level - 1)).1) ((p_spec_l04Halves wide high (level - 1)).2) (1 : Int)).1, (0 : Int), (((p_spec_l04Halves wide high (level - 1)).1) - ((p_spec_l04Halves ((p_spec_l04Halves wide high (level - 1)).1) ((p_spec_l04Halves wide high (level - 1)).2) (1 : Int)).1)), (p_spec_l04Halves ((p_spec_l04Halves wide high (level - 1)).1) ((p_spec_l04Halves wide high (level - 1)).2) (1 : Int)).2) else (bif (band : Int) == 2 then ((0 : Int), (p_spec_l04Halves ((p_spec_l04Halves wide high (level - 1)).1) ((p_spec_l04Halves wide high (level - 1)).2) (1 : Int)).2, (p_spec_l04Halves ((p_spec_l04Halves wide high (level - 1)).1) ((p_spec_l04Halves wide high (level - 1)).2) (1 : Int)).1, (((p_spec_l04Halves wide high (level - 1)).2) - ((p_spec_l04Halves ((p_spec_l04Halves wide high (level - 1)).1) ((p_spec_l04Halves wide high (level - 1)).2) (1 : Int)).2))) else ((p_spec_l04Halves ((p_spec_l04Halves wide high (level - 1)).1) ((p_spec_l04Halves wide high (level - 1)).2) (1 : Int)).1, (p_spec_l04Halves ((p_spec_l04Halves wide high (level - 1)).1) ((p_spec_l04Halves wide high (level - 1)).2) (1 : Int)).2, (((p_spec_l04Halves wide high (level - 1)).1) - ((p_spec_l04Halves ((p_spec_l04Halves wide high (level - 1)).1) ((p_spec_l04Halves wide high (level - 1)).2) (1 : Int)).1)), (((p_spec_l04Halves wide high (level - 1)).2) - ((p_spec_l04Halves ((p_spec_l04Halves wide high (level - 1)).1) ((p_spec_l04Halves wide high (level - 1)).2) (1 : Int)).2))))))) := rfl
def T_spec_l04Region (wide : Int) (high : Int) (level : Int) (band : Int) (H : AHeap) (K : Int → Int → Int → Int → AHeap → Prop) : Prop := 1 ≤ wide ∧ wide ≤ 16 ∧ 1 ≤ high ∧ high ≤ 16 ∧ 1 ≤ level ∧ level ≤ 1000 ∧ K ((p_spec_l04Region wide high level band).1) ((p_spec_l04Region wide high level band).2.1) ((p_spec_l04Region wide high level band).2.2.1) ((p_spec_l04Region wide high level band).2.2.2) H
theorem T_spec_l04Region_i {wide : Int} {high : Int} {level : Int} {band : Int} {H : AHeap} {K : Int → Int → Int → Int → AHeap → Prop} (h : 1 ≤ wide ∧ wide ≤ 16 ∧ 1 ≤ high ∧ high ≤ 16 ∧ 1 ≤ level ∧ level ≤ 1000 ∧ K ((p_spec_l04Region wide high level band).1) ((p_spec_l04Region wide high level band).2.1) ((p_spec_l04Region wide high level band).2.2.1) ((p_spec_l04Region wide high level band).2.2.2) H) : T_spec_l04Region wide high level band H K := h
theorem l04Region_rng (w h level band : Int) : 1 ≤ w ∧ w ≤ 16 ∧ 1 ≤ h ∧ h ≤ 16 → 0 ≤ (p_spec_l04Region w h level band).1 ∧ 0 ≤ (p_spec_l04Region w h level band).2.1 ∧ 0 ≤ (p_spec_l04Region w h level band).2.2.1 ∧ 0 ≤ (p_spec_l04Region w h level band).2.2.2 ∧
    (p_spec_l04Region w h level band).1 + (p_spec_l04Region w h level band).2.2.1 ≤ w ∧ (p_spec_l04Region w h level band).2.1 + (p_spec_l04Region w h level band).2.2.2 ≤ h := fun hh => by
  have z1 := l04Halves_rng w h (level - 1) hh
  have z2 := l04Halves_rng (p_spec_l04Halves w h (level - 1)).1 (p_spec_l04Halves w h (level - 1)).2 1 (by omega)
  rw [p_spec_l04Region_eq]
  generalize (p_spec_l04Halves w h (level - 1)) = p at *
  generalize (p_spec_l04Halves p.1 p.2 1) = q at *
  cases ((band : Int) == 0) <;> cases ((band : Int) == 1) <;> cases ((band : Int) == 2) <;> simp only [cond_true, cond_false] <;> omega
/-! spec_l04Region: function 130 -/
def E_spec_l04Region : Env := envOf [(145, S_spec_l04Halves)]
def F_spec_l04Region : List Value → AHeap → (Value → AHeap → Prop) → Prop
  | [.int .i64 wide, .int .i64 high, .int .i64 level, .int .i64 band], H, K => T_spec_l04Region wide high level band H fun (r1 : Int) (r2 : Int) (r3 : Int) (r4 : Int) (H' : AHeap) => K (.tuple #[.int .i64 r1, .int .i64 r2, .int .i64 r3, .int .i64 r4]) H'
  | _, _, _ => False
def S_spec_l04Region : FSpec := { F := F_spec_l04Region, quiet := true, tame := false }
theorem spec_l04Region_vc (wide : Int) (high : Int) (level : Int) (band : Int) (H : AHeap) (K : Value → AHeap → Prop) : bodyK Try.prog E_spec_l04Region Try.f130 [.int .i64 wide, .int .i64 high, .int .i64 level, .int .i64 band] H K =
  (T_spec_l04Halves wide high (IntKind.wrap .i64 (level - 1)) H fun (r1 : Int) (r2 : Int) (H1 : AHeap) => T_spec_l04Halves r1 r2 1 H1 fun (r3 : Int) (r4 : Int) (H2 : AHeap) => Br ((band : Int) == 0) (K (.tuple #[.int .i64 0, .int .i64 0, .int .i64 r3, .int .i64 r4]) H2) (Br ((band : Int) == 1) (K (.tuple #[.int .i64 r3, .int .i64 0, .int .i64 (IntKind.wrap .i64 (r1 - r3)), .int .i64 r4]) H2) (Br ((band : Int) == 2) (K (.tuple #[.int .i64 0, .int .i64 r4, .int .i64 r3, .int .i64 (IntKind.wrap .i64 (r2 - r4))]) H2) (K (.tuple #[.int .i64 r3, .int .i64 r4, .int .i64 (IntKind.wrap .i64 (r1 - r3)), .int .i64 (IntKind.wrap .i64 (r2 - r4))]) H2)))) := by kernel_rfl
theorem E_spec_l04Region_ok : ∀ g, FnOk Try.prog g (E_spec_l04Region g) := FnOk.envOf (by
  intro x hx
  simp only [List.mem_cons, List.not_mem_nil, or_false] at hx
  subst hx; exact spec_l04Halves_ok)
set_option maxHeartbeats 1000000 in
theorem spec_l04Region_main (wide : Int) (high : Int) (level : Int) (band : Int) (H : AHeap) (K : Value → AHeap → Prop) (h : T_spec_l04Region wide high level band H fun (r1 : Int) (r2 : Int) (r3 : Int) (r4 : Int) (H' : AHeap) => K (.tuple #[.int .i64 r1, .int .i64 r2, .int .i64 r3, .int .i64 r4]) H') : bodyK Try.prog E_spec_l04Region Try.f130 [.int .i64 wide, .int .i64 high, .int .i64 level, .int .i64 band] H K := by
  rw [spec_l04Region_vc]
  obtain ⟨pr0, pr1, pr2, pr3, pr4, pr5, hk⟩ := h
  have e : (p_spec_l04Region wide high level band) = _ := rfl
  have e := e.trans (p_spec_l04Region_eq wide high level band)
  have g0 := Grow.refl H
  rw [show IntKind.wrap .i64 (level - 1) = (level - 1) from wrap64 (by omega) (by omega)]
  refine T_spec_l04Halves_i ⟨(by first | assumption | omega | (simp; omega)), (by first | assumption | omega | (simp; omega)), (by first | assumption | omega | (simp; omega)), (by first | assumption | omega | (simp; omega)), (by first | assumption | omega | (simp; omega)), ?_⟩
  have z_1 := l04Halves_rng wide high (level - 1)
  refine T_spec_l04Halves_i ⟨(by first | assumption | omega | (simp; omega)), (by first | assumption | omega | (simp; omega)), (by first | assumption | omega | (simp; omega)), (by first | assumption | omega | (simp; omega)), (by first | assumption | omega | (simp; omega)), ?_⟩
  have z_2 := l04Halves_rng ((p_spec_l04Halves wide high (level - 1)).1) ((p_spec_l04Halves wide high (level - 1)).2) (1 : Int)
  refine Br.intro (fun c_3 => ?_) (fun c_3 => ?_)
  · have e := e.trans (cond_t c_3)
    have c_3' := ieq_t c_3
    rw [e] at hk
    exact hk
  · have e := e.trans (cond_f c_3)
    have c_3' := ieq_f c_3
    refine Br.intro (fun c_4 => ?_) (fun c_4 => ?_)
    · have e := e.trans (cond_t c_4)
      have c_4' := ieq_t c_4
      rw [show IntKind.wrap .i64 (((p_spec_l04Halves wide high (level - 1)).1) - ((p_spec_l04Halves ((p_spec_l04Halves wide high (level - 1)).1) ((p_spec_l04Halves wide high (level - 1)).2) (1 : Int)).1)) = (((p_spec_l04Halves wide high (level - 1)).1) - ((p_spec_l04Halves ((p_spec_l04Halves wide high (level - 1)).1) ((p_spec_l04Halves wide high (level - 1)).2) (1 : Int)).1)) from wrap64 (by omega) (by omega)]
      rw [e] at hk
      exact hk
    · have e := e.trans (cond_f c_4)
      have c_4' := ieq_f c_4
      refine Br.intro (fun c_5 => ?_) (fun c_5 => ?_)
      · have e := e.trans (cond_t c_5)
        have c_5' := ieq_t c_5
        rw [show IntKind.wrap .i64 (((p_spec_l04Halves wide high (level - 1)).2) - ((p_spec_l04Halves ((p_spec_l04Halves wide high (level - 1)).1) ((p_spec_l04Halves wide high (level - 1)).2) (1 : Int)).2)) = (((p_spec_l04Halves wide high (level - 1)).2) - ((p_spec_l04Halves ((p_spec_l04Halves wide high (level - 1)).1) ((p_spec_l04Halves wide high (level - 1)).2) (1 : Int)).2)) from wrap64 (by omega) (by omega)]
        rw [e] at hk
        exact hk
      · have e := e.trans (cond_f c_5)
        have c_5' := ieq_f c_5
        rw [show IntKind.wrap .i64 (((p_spec_l04Halves wide high (level - 1)).1) - ((p_spec_l04Halves ((p_spec_l04Halves wide high (level - 1)).1) ((p_spec_l04Halves wide high (level - 1)).2) (1 : Int)).1)) = (((p_spec_l04Halves wide high (level - 1)).1) - ((p_spec_l04Halves ((p_spec_l04Halves wide high (level - 1)).1) ((p_spec_l04Halves wide high (level - 1)).2) (1 : Int)).1)) from wrap64 (by omega) (by omega)]
        rw [show IntKind.wrap .i64 (((p_spec_l04Halves wide high (level - 1)).2) - ((p_spec_l04Halves ((p_spec_l04Halves wide high (level - 1)).1) ((p_spec_l04Halves wide high (level - 1)).2) (1 : Int)).2)) = (((p_spec_l04Halves wide high (level - 1)).2) - ((p_spec_l04Halves ((p_spec_l04Halves wide high (level - 1)).1) ((p_spec_l04Halves wide high (level - 1)).2) (1 : Int)).2)) from wrap64 (by omega) (by omega)]
        rw [e] at hk
        exact hk
theorem spec_l04Region_ok : FnOk Try.prog 130 S_spec_l04Region := by
  refine FnOk.body mix_ok E_spec_l04Region_ok Try.func130 rfl (by kernel_rfl) (by kernel_rfl) ?_ ?_ ?_ ?_ ?_
  · intro args H K K' h hk
    simp only [S_spec_l04Region] at *
    unfold F_spec_l04Region at *
    split at hk
    · obtain ⟨pr0, pr1, pr2, pr3, pr4, pr5, k⟩ := hk
      exact ⟨pr0, pr1, pr2, pr3, pr4, pr5, h _ _ k⟩
    · exact hk.elim
  · intro _ args H K hk
    simp only [S_spec_l04Region] at *
    unfold F_spec_l04Region at *
    split at hk
    · obtain ⟨pr0, pr1, pr2, pr3, pr4, pr5, k⟩ := hk
      exact ⟨_, k, fun K' k' => ⟨pr0, pr1, pr2, pr3, pr4, pr5, k'⟩⟩
    · exact hk.elim
  · intro args H K hk
    simp only [S_spec_l04Region] at *
    unfold F_spec_l04Region at *
    split at hk
    · obtain ⟨pr0, pr1, pr2, pr3, pr4, pr5, k⟩ := hk
      exact ⟨_, _, k⟩
    · exact hk.elim
  · intro hq; cases hq
  · have mm := @spec_l04Region_main
    revert mm
    generalize bodyK Try.prog E_spec_l04Region Try.f130 = Q
    intro mm args H K hk
    simp only [S_spec_l04Region] at *
    unfold F_spec_l04Region at *
    split at hk
    · exact mm _ _ _ _ H K hk
    · exact hk.elim

def p_spec_l04Crop_l1 (pp_Wide : Int) (pp_High : Int) (l_pp_Lights : List Nat) (x : Int) (y : Int) (wide : Int) (high : Int) : Nat → Int → Int → Int → Int → Int → (List Nat) → Int × Int × (List Nat)
  | 0, _, _, _, _, _, _ => (0, 0, [])
  | μ + 1, i, q1_1, q1_2, q1_4, q1_5, q1_6 => (bif decide ((i : Int) < (wide * high)) then (p_spec_l04Crop_l1 pp_Wide pp_High l_pp_Lights x y wide high μ (i + 1) q1_1 q1_2 q1_4 q1_5 ((q1_6 ++ [(((l_pp_Lights).getD ((((((((y + (Int.tdiv i wide))) * pp_Wide)) + x)) + (Int.tmod i wide)) : Int).toNat 0))]))) else (q1_4, q1_5, q1_6))
theorem p_spec_l04Crop_l1_s (pp_Wide : Int) (pp_High : Int) (l_pp_Lights : List Nat) (x : Int) (y : Int) (wide : Int) (high : Int) (μ : Nat) (i : Int) (q1_1 : Int) (q1_2 : Int) (q1_4 : Int) (q1_5 : Int) (q1_6 : List Nat) : p_spec_l04Crop_l1 pp_Wide pp_High l_pp_Lights x y wide high (μ + 1) i q1_1 q1_2 q1_4 q1_5 q1_6 = (bif decide ((i : Int) < (wide * high)) then (p_spec_l04Crop_l1 pp_Wide pp_High l_pp_Lights x y wide high μ (i + 1) q1_1 q1_2 q1_4 q1_5 ((q1_6 ++ [(((l_pp_Lights).getD ((((((((y + (Int.tdiv i wide))) * pp_Wide)) + x)) + (Int.tmod i wide)) : Int).toNat 0))]))) else (q1_4, q1_5, q1_6)) := rfl
def p_spec_l04Crop (pp_Wide : Int) (pp_High : Int) (l_pp_Lights : List Nat) (x : Int) (y : Int) (wide : Int) (high : Int) : Int × Int × (List Nat) := (p_spec_l04Crop_l1 pp_Wide pp_High l_pp_Lights x y wide high (Int.toNat ((wide * high) - (0 : Int)) + 1) (0 : Int) 0 0 wide high ([] : List Nat))
theorem p_spec_l04Crop_eq (pp_Wide : Int) (pp_High : Int) (l_pp_Lights : List Nat) (x : Int) (y : Int) (wide : Int) (high : Int) : p_spec_l04Crop pp_Wide pp_High l_pp_Lights x y wide high = (p_spec_l04Crop_l1 pp_Wide pp_High l_pp_Lights x y wide high (Int.toNat ((wide * high) - (0 : Int)) + 1) (0 : Int) 0 0 wide high ([] : List Nat)) := rfl
def T_spec_l04Crop (p : Nat) (x : Int) (y : Int) (wide : Int) (high : Int) (H : AHeap) (K : Int → Int → (Option Addr) → Nat → Nat → AHeap → Prop) : Prop := ∃ (pp_Wide : Int), ∃ (pp_High : Int), ∃ (pp_Lights_a : Option Addr), ∃ (pp_Lights_n : Nat), ∃ (pp_Lights_e : Nat), ∃ (l_pp_Lights : List Nat), rdN H p 0 3 = some [.int .i64 pp_Wide, .int .i64 pp_High, .slice pp_Lights_a pp_Lights_n pp_Lights_e] ∧ IsL fF H pp_Lights_a pp_Lights_n l_pp_Lights ∧ l_pp_Lights.length < 1073741824 ∧ 0 ≤ x ∧ 0 ≤ y ∧ 1 ≤ wide ∧ 1 ≤ high ∧ x + wide ≤ pp_Wide ∧ y + high ≤ pp_High ∧ pp_Wide ≤ 16 ∧ pp_High ≤ 16 ∧ (l_pp_Lights.length : Int) = pp_Wide * pp_High ∧ ((∀ (r1_Lights_a : Option Addr) (r1_Lights_n r1_Lights_e : Nat), ∀ H' : AHeap, Grow H H' → OwnS fF H' H.length r1_Lights_a r1_Lights_n r1_Lights_e ((p_spec_l04Crop pp_Wide pp_High l_pp_Lights x y wide high).2.2) → K ((p_spec_l04Crop pp_Wide pp_High l_pp_Lights x y wide high).1) ((p_spec_l04Crop pp_Wide pp_High l_pp_Lights x y wide high).2.1) r1_Lights_a r1_Lights_n r1_Lights_e H'))
theorem T_spec_l04Crop_i {p : Nat} {x : Int} {y : Int} {wide : Int} {high : Int} {H : AHeap} {K : Int → Int → (Option Addr) → Nat → Nat → AHeap → Prop} (h : ∃ (pp_Wide : Int), ∃ (pp_High : Int), ∃ (pp_Lights_a : Option Addr), ∃ (pp_Lights_n : Nat), ∃ (pp_Lights_e : Nat), ∃ (l_pp_Lights : List Nat), rdN H p 0 3 = some [.int .i64 pp_Wide, .int .i64 pp_High, .slice pp_Lights_a pp_Lights_n pp_Lights_e] ∧ IsL fF H pp_Lights_a pp_Lights_n l_pp_Lights ∧ l_pp_Lights.length < 1073741824 ∧ 0 ≤ x ∧ 0 ≤ y ∧ 1 ≤ wide ∧ 1 ≤ high ∧ x + wide ≤ pp_Wide ∧ y + high ≤ pp_High ∧ pp_Wide ≤ 16 ∧ pp_High ≤ 16 ∧ (l_pp_Lights.length : Int) = pp_Wide * pp_High ∧ ((∀ (r1_Lights_a : Option Addr) (r1_Lights_n r1_Lights_e : Nat), ∀ H' : AHeap, Grow H H' → OwnS fF H' H.length r1_Lights_a r1_Lights_n r1_Lights_e ((p_spec_l04Crop pp_Wide pp_High l_pp_Lights x y wide high).2.2) → K ((p_spec_l04Crop pp_Wide pp_High l_pp_Lights x y wide high).1) ((p_spec_l04Crop pp_Wide pp_High l_pp_Lights x y wide high).2.1) r1_Lights_a r1_Lights_n r1_Lights_e H'))) : T_spec_l04Crop p x y wide high H K := h
theorem l04Crop_go (W H : Int) (L : List Nat) (x y wide high : Int) (w h : Nat) (hw : wide = w) (hh : high = h) (hw0 : 0 < w) : ∀ (μ i : Nat) (a b : Int), i ≤ h * w → h * w - i ≤ μ →
    ∀ o, o = (List.range i).map (fun i : Nat => cropF L x y W ((i % w : Nat) : Int) ((i / w : Nat) : Int)) →
    p_spec_l04Crop_l1 W H L x y wide high (μ + 1) (i : Int) a b wide high o = (wide, high, picL w h (cropF L x y W)) := by
  have hm : wide * high = ((h * w : Nat) : Int) := by rw [hw, hh, Int.natCast_mul, Int.mul_comm]
  intro μ
  induction μ with
  | zero =>
    intro i a b h1 h2 o ho
    rw [p_spec_l04Crop_l1_s, hm, decide_eq_false (by omega), cond_false, ho, show i = h * w by omega, picL_flat hw0]
  | succ μ ih =>
    intro i a b h1 h2 o ho
    rw [p_spec_l04Crop_l1_s, hm]
    by_cases hlt : i < h * w
    · rw [decide_eq_true (by omega), cond_true, show (i : Int) + 1 = ((i + 1 : Nat) : Int) by omega]
      refine ih (i + 1) a b (by omega) (by omega) _ ?_
      rw [ho, List.range_succ, List.map_append]
      congr 1
      have e1 : Int.tdiv (i : Int) wide = ((i / w : Nat) : Int) := by rw [hw]; rfl
      have e2 : Int.tmod (i : Int) wide = ((i % w : Nat) : Int) := by rw [hw]; rfl
      rw [e1, e2]; rfl
    · rw [decide_eq_false (by omega), cond_false, ho, show i = h * w by omega, picL_flat hw0]
theorem l04Crop_is (W H : Int) (L : List Nat) (x y wide high : Int) (hw : 1 ≤ wide) (hh : 1 ≤ high) : p_spec_l04Crop W H L x y wide high = (wide, high, picL wide.toNat high.toNat (cropF L x y W)) := by
  rw [p_spec_l04Crop_eq]
  have hm : wide * high = ((high.toNat * wide.toNat : Nat) : Int) := by rw [Int.natCast_mul, Int.toNat_of_nonneg (by omega), Int.toNat_of_nonneg (by omega), Int.mul_comm]
  exact l04Crop_go W H L x y wide high wide.toNat high.toNat (by omega) (by omega) (by omega) _ 0 0 0 (Nat.zero_le _) (by omega) [] rfl
theorem l04Crop_len (W H : Int) (L : List Nat) (x y wide high : Int) (hw : 1 ≤ wide) (hh : 1 ≤ high) (hw2 : wide ≤ 16) (hh2 : high ≤ 16) : ((p_spec_l04Crop W H L x y wide high).2.2.length : Int) ≤ 256 := by
  rw [l04Crop_is W H L x y wide high hw hh]
  show ((picL wide.toNat high.toNat (cropF L x y W)).length : Int) ≤ 256
  rw [picL_length]
  have : high.toNat * wide.toNat ≤ 16 * 16 := Nat.mul_le_mul (by omega) (by omega)
  omega
/-! spec_l04Crop: function 131 -/
def E_spec_l04Crop : Env := envOf []
def F_spec_l04Crop : List Value → AHeap → (Value → AHeap → Prop) → Prop
  | [.pointer (some ⟨p, 0, none⟩), .int .i64 x, .int .i64 y, .int .i64 wide, .int .i64 high], H, K => T_spec_l04Crop p x y wide high H fun (r1_Wide : Int) (r1_High : Int) (r1_Lights_a : Option Addr) (r1_Lights_n : Nat) (r1_Lights_e : Nat) (H' : AHeap) => K (.agg #[.int .i64 r1_Wide, .int .i64 r1_High, .slice r1_Lights_a r1_Lights_n r1_Lights_e]) H'
  | _, _, _ => False
def S_spec_l04Crop : FSpec := { F := F_spec_l04Crop, quiet := false, tame := true }
theorem spec_l04Crop_vc (p : Nat) (x : Int) (y : Int) (wide : Int) (high : Int) (H : AHeap) (K : Value → AHeap → Prop) : bodyK Try.prog E_spec_l04Crop Try.f131 [.pointer (some ⟨p, 0, none⟩), .int .i64 x, .int .i64 y, .int .i64 wide, .int .i64 high] H K =
  (Al [.int .i64 0, .int .i64 0, .slice none 0 0] H fun b1 H1 => Al [] H1 fun b2 H2 => Al [.int .i64 0, .int .i64 0, .slice none 0 0] H2 fun b3 H3 => isOwn H3 b3 ∧ (∃ l, rdN H3 b3 0 3 = some l) ∧ Lt (setN H3 b3 0 [.int .i64 wide, .int .i64 high, .slice (some ⟨b2, 0, none⟩) 0 1]) fun H4 => loopK (exK Try.prog E_spec_l04Crop (cl (cl (cr (cl (cr (cr (bodyC Try.f131)))))))) [.pointer (some ⟨p, 0, none⟩), .int .i64 x, .int .i64 y, .int .i64 wide, .int .i64 high, undef, undef, undef, undef, undef, .pointer (some ⟨b1, 0, none⟩), .pointer (some ⟨b3, 0, none⟩), .int .i64 0, .int .i64 wide, .int .i64 high, .slice (some ⟨b2, 0, none⟩) 0 1, .agg #[.int .i64 wide, .int .i64 high, .slice (some ⟨b2, 0, none⟩) 0 1], undef, undef, undef, undef, undef, undef, undef, undef, undef, undef, undef, undef, undef, undef, undef, undef, undef, undef, undef, undef, undef, undef, undef, undef, undef, undef, undef, undef, undef, undef, undef, undef, undef, undef, undef] H4 (blockQ 0 (seqQ (exK Try.prog E_spec_l04Crop (cr (cr (cr (bodyC Try.f131))))) (retK Try.prog Try.f131 K)))) := by kernel_rfl
theorem spec_l04Crop_r1 (b1 : Nat) (b2 : Nat) (b3 : Nat) (high : Int) (p : Nat) (wide : Int) (x : Int) (y : Int) (i : Int) (g17 g18 g19 g20 g21 g22 g23 g24 g25 g26 g27 g28 g29 g30 g31 g32 g33 g34 g35 g36 g37 g38 g39 g40 g41 g42 g43 g44 g45 g46 g47 g48 g49 g50 : Value) (H : AHeap) (R : Post) : exK Try.prog E_spec_l04Crop (cl (cl (cr (cl (cr (cr (bodyC Try.f131))))))) [.pointer (some ⟨p, 0, none⟩), .int .i64 x, .int .i64 y, .int .i64 wide, .int .i64 high, undef, undef, undef, undef, undef, .pointer (some ⟨b1, 0, none⟩), .pointer (some ⟨b3, 0, none⟩), .int .i64 i, .int .i64 wide, .int .i64 high, .slice (some ⟨b2, 0, none⟩) 0 1, .agg #[.int .i64 wide, .int .i64 high, .slice (some ⟨b2, 0, none⟩) 0 1], g17, g18, g19, g20, g21, g22, g23, g24, g25, g26, g27, g28, g29, g30, g31, g32, g33, g34, g35, g36, g37, g38, g39, g40, g41, g42, g43, g44, g45, g46, g47, g48, g49, g50, undef] H R =
  (Br (decide ((i : Int) < IntKind.wrap .i64 (wide * high))) (∃ x1_a : Option Addr, ∃ x1_n : Nat, ∃ x1_e : Nat,  rdC H b3 2 = some (.slice x1_a x1_n x1_e) ∧ ∃ x2_a : Option Addr, ∃ x2_n : Nat, ∃ x2_e : Nat,  rdC H p 2 = some (.slice x2_a x2_n x2_e) ∧ wide ≠ (0 : Int) ∧ ∃ x3 : Int,  rdC H p 0 = some (.int .i64 x3) ∧ wide ≠ (0 : Int) ∧ (0 : Int) ≤ IntKind.wrap .i64 ((IntKind.wrap .i64 ((IntKind.wrap .i64 ((IntKind.wrap .i64 (y + (IntKind.wrap .i64 (Int.tdiv i wide)))) * x3)) + x)) + (Int.tmod i wide)) ∧ IntKind.wrap .i64 ((IntKind.wrap .i64 ((IntKind.wrap .i64 ((IntKind.wrap .i64 (y + (IntKind.wrap .i64 (Int.tdiv i wide)))) * x3)) + x)) + (Int.tmod i wide)) < (x2_n : Int) ∧ ∃ b4 f1, (x2_a : Option Addr) = some ⟨b4, f1, none⟩ ∧ ∃ x4 : Nat,  rdC H b4 (f1 + (IntKind.wrap .i64 ((IntKind.wrap .i64 ((IntKind.wrap .i64 ((IntKind.wrap .i64 (y + (IntKind.wrap .i64 (Int.tdiv i wide)))) * x3)) + x)) + (Int.tmod i wide)) : Int).toNat * 1) = some (.float .f32 x4) ∧ Al [.float .f32 x4] H fun b5 H5 => ∃ o1 w1 : List Value, ownB H5 x1_a x1_n x1_e 1 = some o1 ∧ rdS H5 (some ⟨b5, 0, none⟩) (1 * 1) = some w1 ∧ ((x1_a : Option Addr) = none → 0 < (1 : Nat)) ∧ (x1_n : Nat) + 1 < most ∧ Ap H5 (killB H5 x1_a ++ [some ⟨o1 ++ w1, true⟩]) fun b6 H6 => isOwn H6 b3 ∧ (∃ l, rdN H6 b3 2 1 = some l) ∧ Lt (setC H6 b3 2 (.slice (some ⟨b6, 0, none⟩) (x1_n + 1) 1)) fun H7 => R .normal [.pointer (some ⟨p, 0, none⟩), .int .i64 x, .int .i64 y, .int .i64 wide, .int .i64 high, undef, undef, undef, undef, undef, .pointer (some ⟨b1, 0, none⟩), .pointer (some ⟨b3, 0, none⟩), .int .i64 (IntKind.wrap .i64 (i + 1)), .int .i64 wide, .int .i64 high, .slice (some ⟨b2, 0, none⟩) 0 1, .agg #[.int .i64 wide, .int .i64 high, .slice (some ⟨b2, 0, none⟩) 0 1], .int .i64 i, .int .i64 wide, .int .i64 high, .int .i64 (IntKind.wrap .i64 (wide * high)), .bool (decide ((i : Int) < IntKind.wrap .i64 (wide * high))), .int .i64 i, .int .i64 (IntKind.wrap .i64 (i + 1)), .pointer (some ⟨b3, 2, none⟩), .slice x1_a x1_n x1_e, .pointer (some ⟨p, 0, none⟩), .pointer (some ⟨p, 0, none⟩), .pointer (some ⟨p, 2, none⟩), .slice x2_a x2_n x2_e, .int .i64 y, .int .i64 i, .int .i64 wide, .int .i64 (IntKind.wrap .i64 (Int.tdiv i wide)), .int .i64 (IntKind.wrap .i64 (y + (IntKind.wrap .i64 (Int.tdiv i wide)))), .pointer (some ⟨p, 0, none⟩), .pointer (some ⟨p, 0, none⟩), .pointer (some ⟨p, 0, none⟩), .int .i64 x3, .int .i64 (IntKind.wrap .i64 ((IntKind.wrap .i64 (y + (IntKind.wrap .i64 (Int.tdiv i wide)))) * x3)), .int .i64 x, .int .i64 (IntKind.wrap .i64 ((IntKind.wrap .i64 ((IntKind.wrap .i64 (y + (IntKind.wrap .i64 (Int.tdiv i wide)))) * x3)) + x)), .int .i64 i, .int .i64 wide, .int .i64 (Int.tmod i wide), .int .i64 (IntKind.wrap .i64 ((IntKind.wrap .i64 ((IntKind.wrap .i64 ((IntKind.wrap .i64 (y + (IntKind.wrap .i64 (Int.tdiv i wide)))) * x3)) + x)) + (Int.tmod i wide))), .pointer (some ⟨b4, f1 + (IntKind.wrap .i64 ((IntKind.wrap .i64 ((IntKind.wrap .i64 ((IntKind.wrap .i64 (y + (IntKind.wrap .i64 (Int.tdiv i wide)))) * x3)) + x)) + (Int.tmod i wide)) : Int).toNat * 1, none⟩), .float .f32 x4, .slice (some ⟨b5, 0, none⟩) 1 1, .slice (some ⟨b6, 0, none⟩) (x1_n + 1) 1, .pointer (some ⟨b3, 2, none⟩), undef] H7) (R (.exit 0) [.pointer (some ⟨p, 0, none⟩), .int .i64 x, .int .i64 y, .int .i64 wide, .int .i64 high, undef, undef, undef, undef, undef, .pointer (some ⟨b1, 0, none⟩), .pointer (some ⟨b3, 0, none⟩), .int .i64 i, .int .i64 wide, .int .i64 high, .slice (some ⟨b2, 0, none⟩) 0 1, .agg #[.int .i64 wide, .int .i64 high, .slice (some ⟨b2, 0, none⟩) 0 1], .int .i64 i, .int .i64 wide, .int .i64 high, .int .i64 (IntKind.wrap .i64 (wide * high)), .bool (decide ((i : Int) < IntKind.wrap .i64 (wide * high))), g22, g23, g24, g25, g26, g27, g28, g29, g30, g31, g32, g33, g34, g35, g36, g37, g38, g39, g40, g41, g42, g43, g44, g45, g46, g47, g48, g49, g50, undef] H)) := by kernel_rfl
def spec_l04Crop_I1 (b1 : Nat) (b2 : Nat) (b3 : Nat) (high : Int) (p : Nat) (wide : Int) (x : Int) (y : Int) (Inv : Nat → Int → AHeap → Prop) : Nat → List Value → AHeap → Prop := fun μ tm H => ∃ (i : Int), ∃ g17 g18 g19 g20 g21 g22 g23 g24 g25 g26 g27 g28 g29 g30 g31 g32 g33 g34 g35 g36 g37 g38 g39 g40 g41 g42 g43 g44 g45 g46 g47 g48 g49 g50, tm = [.pointer (some ⟨p, 0, none⟩), .int .i64 x, .int .i64 y, .int .i64 wide, .int .i64 high, undef, undef, undef, undef, undef, .pointer (some ⟨b1, 0, none⟩), .pointer (some ⟨b3, 0, none⟩), .int .i64 i, .int .i64 wide, .int .i64 high, .slice (some ⟨b2, 0, none⟩) 0 1, .agg #[.int .i64 wide, .int .i64 high, .slice (some ⟨b2, 0, none⟩) 0 1], g17, g18, g19, g20, g21, g22, g23, g24, g25, g26, g27, g28, g29, g30, g31, g32, g33, g34, g35, g36, g37, g38, g39, g40, g41, g42, g43, g44, g45, g46, g47, g48, g49, g50, undef] ∧ Inv μ i H
theorem spec_l04Crop_L1 (b1 : Nat) (b2 : Nat) (b3 : Nat) (high : Int) (p : Nat) (wide : Int) (x : Int) (y : Int) {Q : Post} (Inv : Nat → Int → AHeap → Prop) (ν : Nat) (i : Int) (g17 g18 g19 g20 g21 g22 g23 g24 g25 g26 g27 g28 g29 g30 g31 g32 g33 g34 g35 g36 g37 g38 g39 g40 g41 g42 g43 g44 g45 g46 g47 g48 g49 g50 : Value) (H : AHeap) (h0 : Inv ν i H)
    (hs : ∀ (μ : Nat) (i : Int) (g17 g18 g19 g20 g21 g22 g23 g24 g25 g26 g27 g28 g29 g30 g31 g32 g33 g34 g35 g36 g37 g38 g39 g40 g41 g42 g43 g44 g45 g46 g47 g48 g49 g50 : Value) (H : AHeap), Inv μ i H → exK Try.prog E_spec_l04Crop (cl (cl (cr (cl (cr (cr (bodyC Try.f131))))))) [.pointer (some ⟨p, 0, none⟩), .int .i64 x, .int .i64 y, .int .i64 wide, .int .i64 high, undef, undef, undef, undef, undef, .pointer (some ⟨b1, 0, none⟩), .pointer (some ⟨b3, 0, none⟩), .int .i64 i, .int .i64 wide, .int .i64 high, .slice (some ⟨b2, 0, none⟩) 0 1, .agg #[.int .i64 wide, .int .i64 high, .slice (some ⟨b2, 0, none⟩) 0 1], g17, g18, g19, g20, g21, g22, g23, g24, g25, g26, g27, g28, g29, g30, g31, g32, g33, g34, g35, g36, g37, g38, g39, g40, g41, g42, g43, g44, g45, g46, g47, g48, g49, g50, undef] H (loopQ (spec_l04Crop_I1 b1 b2 b3 high p wide x y Inv) μ Q)) : loopK (exK Try.prog E_spec_l04Crop (cl (cl (cr (cl (cr (cr (bodyC Try.f131)))))))) [.pointer (some ⟨p, 0, none⟩), .int .i64 x, .int .i64 y, .int .i64 wide, .int .i64 high, undef, undef, undef, undef, undef, .pointer (some ⟨b1, 0, none⟩), .pointer (some ⟨b3, 0, none⟩), .int .i64 i, .int .i64 wide, .int .i64 high, .slice (some ⟨b2, 0, none⟩) 0 1, .agg #[.int .i64 wide, .int .i64 high, .slice (some ⟨b2, 0, none⟩) 0 1], g17, g18, g19, g20, g21, g22, g23, g24, g25, g26, g27, g28, g29, g30, g31, g32, g33, g34, g35, g36, g37, g38, g39, g40, g41, g42, g43, g44, g45, g46, g47, g48, g49, g50, undef] H Q :=
  ⟨spec_l04Crop_I1 b1 b2 b3 high p wide x y Inv, ν, ⟨i, g17, g18, g19, g20, g21, g22, g23, g24, g25, g26, g27, g28, g29, g30, g31, g32, g33, g34, g35, g36, g37, g38, g39, g40, g41, g42, g43, g44, g45, g46, g47, g48, g49, g50, rfl, h0⟩, fun μ tm H h => by obtain ⟨i, g17, g18, g19, g20, g21, g22, g23, g24, g25, g26, g27, g28, g29, g30, g31, g32, g33, g34, g35, g36, g37, g38, g39, g40, g41, g42, g43, g44, g45, g46, g47, g48, g49, g50, rfl, hI⟩ := h; exact hs μ i g17 g18 g19 g20 g21 g22 g23 g24 g25 g26 g27 g28 g29 g30 g31 g32 g33 g34 g35 g36 g37 g38 g39 g40 g41 g42 g43 g44 g45 g46 g47 g48 g49 g50 H hI⟩
theorem spec_l04Crop_n1 {b1 : Nat} {b2 : Nat} {b3 : Nat} {high : Int} {p : Nat} {wide : Int} {x : Int} {y : Int} {Q : Post} {Inv : Nat → Int → AHeap → Prop} {μ : Nat} (μ' : Nat) {i : Int} {g17 g18 g19 g20 g21 g22 g23 g24 g25 g26 g27 g28 g29 g30 g31 g32 g33 g34 g35 g36 g37 g38 g39 g40 g41 g42 g43 g44 g45 g46 g47 g48 g49 g50 : Value} {H : AHeap} (hm : μ' < μ) (hI : Inv μ' i H) : loopQ (spec_l04Crop_I1 b1 b2 b3 high p wide x y Inv) μ Q .normal [.pointer (some ⟨p, 0, none⟩), .int .i64 x, .int .i64 y, .int .i64 wide, .int .i64 high, undef, undef, undef, undef, undef, .pointer (some ⟨b1, 0, none⟩), .pointer (some ⟨b3, 0, none⟩), .int .i64 i, .int .i64 wide, .int .i64 high, .slice (some ⟨b2, 0, none⟩) 0 1, .agg #[.int .i64 wide, .int .i64 high, .slice (some ⟨b2, 0, none⟩) 0 1], g17, g18, g19, g20, g21, g22, g23, g24, g25, g26, g27, g28, g29, g30, g31, g32, g33, g34, g35, g36, g37, g38, g39, g40, g41, g42, g43, g44, g45, g46, g47, g48, g49, g50, undef] H := ⟨μ', hm, i, g17, g18, g19, g20, g21, g22, g23, g24, g25, g26, g27, g28, g29, g30, g31, g32, g33, g34, g35, g36, g37, g38, g39, g40, g41, g42, g43, g44, g45, g46, g47, g48, g49, g50, rfl, hI⟩
theorem spec_l04Crop_x1_0 (b1 : Nat) (b2 : Nat) (b3 : Nat) (high : Int) (p : Nat) (wide : Int) (x : Int) (y : Int) (i : Int) (g17 g18 g19 g20 g21 g22 g23 g24 g25 g26 g27 g28 g29 g30 g31 g32 g33 g34 g35 g36 g37 g38 g39 g40 g41 g42 g43 g44 g45 g46 g47 g48 g49 g50 : Value) (H : AHeap) (K : Value → AHeap → Prop)  {I : Nat → List Value → AHeap → Prop} {μ : Nat} : loopQ I μ (blockQ 0 (seqQ (exK Try.prog E_spec_l04Crop (cr (cr (cr (bodyC Try.f131))))) (retK Try.prog Try.f131 K))) (.exit 0) [.pointer (some ⟨p, 0, none⟩), .int .i64 x, .int .i64 y, .int .i64 wide, .int .i64 high, undef, undef, undef, undef, undef, .pointer (some ⟨b1, 0, none⟩), .pointer (some ⟨b3, 0, none⟩), .int .i64 i, .int .i64 wide, .int .i64 high, .slice (some ⟨b2, 0, none⟩) 0 1, .agg #[.int .i64 wide, .int .i64 high, .slice (some ⟨b2, 0, none⟩) 0 1], g17, g18, g19, g20, g21, g22, g23, g24, g25, g26, g27, g28, g29, g30, g31, g32, g33, g34, g35, g36, g37, g38, g39, g40, g41, g42, g43, g44, g45, g46, g47, g48, g49, g50, undef] H =
  (∃ c1 : Int, ∃ c2 : Int, ∃ c3_a : Option Addr, ∃ c3_n : Nat, ∃ c3_e : Nat,  rdN H b3 0 3 = some [.int .i64 c1, .int .i64 c2, .slice c3_a c3_n c3_e] ∧ isOwn H b1 ∧ (∃ l, rdN H b1 0 3 = some l) ∧ Lt (setN H b1 0 [.int .i64 c1, .int .i64 c2, .slice c3_a c3_n c3_e]) fun H8 => ∃ c4 : Int, ∃ c5 : Int, ∃ c6_a : Option Addr, ∃ c6_n : Nat, ∃ c6_e : Nat,  rdN H8 b1 0 3 = some [.int .i64 c4, .int .i64 c5, .slice c6_a c6_n c6_e] ∧ K (.agg #[.int .i64 c4, .int .i64 c5, .slice c6_a c6_n c6_e]) H8) := by kernel_rfl
theorem E_spec_l04Crop_ok : ∀ g, FnOk Try.prog g (E_spec_l04Crop g) := FnOk.envOf (by
  intro x hx; cases hx)
set_option maxHeartbeats 1000000 in
theorem spec_l04Crop_main (p : Nat) (x : Int) (y : Int) (wide : Int) (high : Int) (H : AHeap) (K : Value → AHeap → Prop) (h : T_spec_l04Crop p x y wide high H fun (r1_Wide : Int) (r1_High : Int) (r1_Lights_a : Option Addr) (r1_Lights_n : Nat) (r1_Lights_e : Nat) (H' : AHeap) => K (.agg #[.int .i64 r1_Wide, .int .i64 r1_High, .slice r1_Lights_a r1_Lights_n r1_Lights_e]) H') : bodyK Try.prog E_spec_l04Crop Try.f131 [.pointer (some ⟨p, 0, none⟩), .int .i64 x, .int .i64 y, .int .i64 wide, .int .i64 high] H K := by
  rw [spec_l04Crop_vc]
  obtain ⟨pp_Wide, pp_High, pp_Lights_a, pp_Lights_n, pp_Lights_e, l_pp_Lights, i_p, i_pp_Lights, bd_128, pr0, pr1, pr2, pr3, pr4, pr5, pr6, pr7, pr8, hk⟩ := h
  obtain rfl := i_pp_Lights.eqn
  have zz := side_mul (W := wide) (H := high) (by omega) (by omega) (by omega) (by omega)
  have e : (p_spec_l04Crop pp_Wide pp_High l_pp_Lights x y wide high) = _ := rfl
  have e := e.trans (p_spec_l04Crop_eq pp_Wide pp_High l_pp_Lights x y wide high)
  have g0 := Grow.refl H
  refine Al.intro (fun b_1 H_1 hb_2 hl_3 g_4 o_5 => ?_)
  have l_7 := g_4.1
  have g_8 := g0.trans g_4
  have l_9 := g_8.1
  have w_127 := o_5.lt
  refine Al.intro (fun b_10 H_2 hb_11 hl_12 g_13 o_14 => ?_)
  have o_14 : Own H_2 b_10 ((([] : List Nat)).map fF) := o_14
  have l_16 := g_13.1
  have g_17 := g_8.trans g_13
  have l_18 := g_17.1
  have o_19 := o_5.grow g_13
  have w_20 := o_19.lt
  have w_126 := o_14.lt
  refine Al.intro (fun b_21 H_3 hb_22 hl_23 g_24 o_25 => ?_)
  have l_27 := g_24.1
  have g_28 := g_17.trans g_24
  have l_29 := g_28.1
  have o_30 := o_19.grow g_24
  have w_31 := o_30.lt
  have o_32 := o_14.grow g_24
  have w_33 := o_32.lt
  have w_125 := o_25.lt
  refine Lt.setN (n := 3) o_25 (Nat.le_of_ble_eq_true rfl) rfl (fun H_4 hl_34 o_36 k_35 => ?_)
  have o_36 : Own H_4 b_21 [.int .i64 wide, .int .i64 high, .slice (some ⟨b_10, 0, none⟩) 0 1] := o_36
  have l_37 := k_35.1
  have g_38 := g_28.keep (b := b_21) (by omega) k_35
  have l_39 := g_38.1
  have o_40 := o_30.keep (by omega) k_35
  have w_41 := o_40.lt
  have o_42 := o_32.keep (by omega) k_35
  have w_43 := o_42.lt
  have w_124 := o_36.lt
  refine spec_l04Crop_L1 _ _ _ _ _ _ _ _ (fun (μ : Nat) (i : Int) (H_5 : AHeap) => ∃ (q1_1 : Int), ∃ (q1_2 : Int), ∃ (q1_4 : Int), ∃ (q1_5 : Int), ∃ (q1_6 : List Nat), ∃ (b_46 : Nat), Own H_5 b_1 [.int .i64 q1_1, .int .i64 q1_2, .slice none 0 0] ∧ Own H_5 b_46 (q1_6.map fF) ∧ Own H_5 b_21 [.int .i64 q1_4, .int .i64 q1_5, .slice (some ⟨b_46, 0, none⟩) q1_6.length 1] ∧ (b_21 ≠ b_1) ∧ (b_46 ≠ b_1) ∧ (b_46 ≠ b_21) ∧ Grow H H_5 ∧ H.length ≤ b_46 ∧ (0 : Int) ≤ i ∧ ((i ≤ (wide * high) ∨ i ≤ (0 : Int))) ∧ (q1_6.length : Int) ≤ i - (0 : Int) + 0 ∧ (q1_6.length : Int) ≤ i ∧ (wide * high) - i ≤ (μ : Int) ∧ p_spec_l04Crop pp_Wide pp_High l_pp_Lights x y wide high = p_spec_l04Crop_l1 pp_Wide pp_High l_pp_Lights x y wide high (μ + 1) i q1_1 q1_2 q1_4 q1_5 q1_6) (Int.toNat ((wide * high) - (0 : Int))) _ _ _ _ _ _ _ _ _ _ _ _ _ _ _ _ _ _ _ _ _ _ _ _ _ _ _ _ _ _ _ _ _ _ _ H_4 ?_ ?_
  · exact ⟨_, _, _, _, _, _, (by first | exact o_40 | (simp only [List.length_append, List.length_cons, List.length_nil, Nat.zero_add]; exact o_40)), o_42, (by first | exact o_36 | (simp only [List.length_append, List.length_cons, List.length_nil, Nat.zero_add]; exact o_36)), (by omega), (by omega), (by omega), g_38, (by omega), (by first | omega | (simp; done) | (simp; omega)), (by first | omega | (simp; done) | (simp; omega)), (by first | omega | (simp; done) | (simp; omega)), (by first | omega | (simp; done) | (simp; omega)), (by omega), e⟩
  · intro μ i g17 g18 g19 g20 g21 g22 g23 g24 g25 g26 g27 g28 g29 g30 g31 g32 g33 g34 g35 g36 g37 g38 g39 g40 g41 g42 g43 g44 g45 g46 g47 g48 g49 g50 H_5 hI
    obtain ⟨q1_1, q1_2, q1_4, q1_5, q1_6, b_46, o_44, o_47, o_45, n_48, n_49, n_50, g_51, l_52, v_53, v_54, v_55, v_56, hμ, e⟩ := hI
    rw [spec_l04Crop_r1]
    have e := e.trans (p_spec_l04Crop_l1_s pp_Wide pp_High l_pp_Lights x y wide high μ i q1_1 q1_2 q1_4 q1_5 q1_6)
    have zy := crop_at (x := x) (y := y) (W := pp_Wide) (H := pp_High) (w := wide) (h := high) (i := i) (by omega) (by omega) (by omega) (by omega) (by omega) (by omega) (by omega) (by omega) (by omega)
    have w_57 := o_44.lt
    have w_58 := o_45.lt
    have w_59 := o_47.lt
    have l_60 := g_51.1
    rw [show IntKind.wrap .i64 (wide * high) = (wide * high) from wrap64 (by omega) (by omega)]
    refine Br.intro (fun c_61 => ?_) (fun c_61 => ?_)
    · have e := e.trans (cond_t c_61)
      have c_61' := of_decide_eq_true c_61
      refine ⟨some ⟨b_46, 0, none⟩, q1_6.length, 1, (o_45.rdC _).trans rfl, ?_⟩
      refine ⟨pp_Lights_a, l_pp_Lights.length, pp_Lights_e, (rdN_at (rdN_grow g_51 i_p) 2 (Nat.le_of_ble_eq_true rfl)).trans rfl, ?_⟩
      have z_62 := tdiv_nn i wide
      refine ⟨(by first | omega | decide | (simp; done) | (simp; omega)), ?_⟩
      rw [show IntKind.wrap .i64 (Int.tdiv i wide) = (Int.tdiv i wide) from wrap64 (by omega) (by omega)]
      rw [show IntKind.wrap .i64 (y + (Int.tdiv i wide)) = (y + (Int.tdiv i wide)) from wrap64 (by omega) (by omega)]
      refine ⟨pp_Wide, (rdN_at (rdN_grow g_51 i_p) 0 (Nat.le_of_ble_eq_true rfl)).trans rfl, ?_⟩
      rw [show IntKind.wrap .i64 (((y + (Int.tdiv i wide))) * pp_Wide) = (((y + (Int.tdiv i wide))) * pp_Wide) from wrap64 (by omega) (by omega)]
      rw [show IntKind.wrap .i64 (((((y + (Int.tdiv i wide))) * pp_Wide)) + x) = (((((y + (Int.tdiv i wide))) * pp_Wide)) + x) from wrap64 (by omega) (by omega)]
      refine ⟨(by first | omega | decide | (simp; done) | (simp; omega)), ?_⟩
      have z_63 := tmod_rng i wide
      have z_64 := tmod_nn i wide
      rw [show IntKind.wrap .i64 (((((((y + (Int.tdiv i wide))) * pp_Wide)) + x)) + (Int.tmod i wide)) = (((((((y + (Int.tdiv i wide))) * pp_Wide)) + x)) + (Int.tmod i wide)) from wrap64 (by omega) (by omega)]
      obtain ⟨b_65, f_66, q_67⟩ := ((i_pp_Lights.grow g_51)).pos (by first | omega | (simp only [List.length_set, List.length_replicate, List.length_append, List.length_cons, List.length_nil, List.length_take, List.length_drop, marks_length]; done) | (simp only [List.length_set, List.length_replicate, List.length_append, List.length_cons, List.length_nil, List.length_take, List.length_drop, marks_length]; omega))
      refine ⟨by omega, by omega, b_65, f_66, q_67, ?_⟩
      refine ⟨((l_pp_Lights).getD ((((((((y + (Int.tdiv i wide))) * pp_Wide)) + x)) + (Int.tmod i wide)) : Int).toNat 0), (i_pp_Lights).rd g_51 q_67 (by omega) _, ?_⟩
      refine Al.intro (fun b_68 H_6 hb_69 hl_70 g_71 o_72 => ?_)
      have o_72 : Own H_6 b_68 (([(((l_pp_Lights).getD ((((((((y + (Int.tdiv i wide))) * pp_Wide)) + x)) + (Int.tmod i wide)) : Int).toNat 0))]).map fF) := o_72
      have l_74 := g_71.1
      have g_75 := g_51.trans g_71
      have l_76 := g_75.1
      have o_77 := o_44.grow g_71
      have w_78 := o_77.lt
      have o_79 := o_45.grow g_71
      have w_80 := o_79.lt
      have o_81 := o_47.grow g_71
      have w_82 := o_81.lt
      have w_112 := o_72.lt
      refine ⟨_, _, o_81.ownB (by first | (simp only [List.length_map, List.length_cons, List.length_nil, List.length_append]; done) | (simp only [List.length_map, List.length_cons, List.length_nil, List.length_append]; omega)) rfl, (isl_rdS (o_72.isL (by first | rfl | omega | (simp only [List.length_set]; done) | (simp only [List.length_set, List.length_replicate]; omega)))), (fun h => by cases h), (by have := most_eq; omega), ?_⟩
      refine Ap.app o_81 rfl rfl (fun b_87 H_7 q_110 hl_83 o_84 k_85 => ?_)
      have o_84 := map_snoc o_84
      have l_88 := k_85.1
      have g_89 := g_75.keep (b := b_46) (by omega) k_85
      have l_90 := g_89.1
      have o_91 := o_77.keep (by omega) k_85
      have w_92 := o_91.lt
      have o_93 := o_79.keep (by omega) k_85
      have w_94 := o_93.lt
      have o_95 := o_72.keep (by omega) k_85
      have w_96 := o_95.lt
      have w_111 := o_84.lt
      refine Lt.set o_93 (Nat.le_of_ble_eq_true rfl) (fun H_8 hl_97 o_99 k_98 => ?_)
      have o_99 : Own H_8 b_21 [.int .i64 q1_4, .int .i64 q1_5, .slice (some ⟨b_87, 0, none⟩) (q1_6.length + 1) 1] := o_99
      have l_100 := k_98.1
      have g_101 := g_89.keep (b := b_21) (by omega) k_98
      have l_102 := g_101.1
      have o_103 := o_91.keep (by omega) k_98
      have w_104 := o_103.lt
      have o_105 := o_95.keep (by omega) k_98
      have w_106 := o_105.lt
      have o_107 := o_84.keep (by omega) k_98
      have w_108 := o_107.lt
      have w_109 := o_99.lt
      rw [show IntKind.wrap .i64 (i + 1) = (i + 1) from wrap64 (by omega) (by omega)]
      refine spec_l04Crop_n1 (μ - 1) (by first | omega) ⟨_, _, _, _, _, _, (by first | exact o_103 | (simp only [List.length_append, List.length_cons, List.length_nil, Nat.zero_add]; exact o_103)), o_107, (by first | exact o_99 | (simp only [List.length_append, List.length_cons, List.length_nil, Nat.zero_add]; exact o_99)), (by omega), (by omega), (by omega), g_101, (by omega), (by first | omega | (simp only [List.length_append, List.length_cons, List.length_nil, List.length_set]; done) | (simp only [List.length_append, List.length_cons, List.length_nil, List.length_set]; omega)), (by first | omega | (simp only [List.length_append, List.length_cons, List.length_nil, List.length_set]; done) | (simp only [List.length_append, List.length_cons, List.length_nil, List.length_set]; omega)), (by first | omega | (simp only [List.length_append, List.length_cons, List.length_nil, List.length_set]; done) | (simp only [List.length_append, List.length_cons, List.length_nil, List.length_set]; omega)), (by first | omega | (simp only [List.length_append, List.length_cons, List.length_nil, List.length_set]; done) | (simp only [List.length_append, List.length_cons, List.length_nil, List.length_set]; omega)), (by first | omega), (by rw [show μ - 1 + 1 = μ from by first | omega]; exact e)⟩
    · have e := e.trans (cond_f c_61)
      have c_61' := of_decide_eq_false c_61
      rw [spec_l04Crop_x1_0]
      refine ⟨q1_4, q1_5, some ⟨b_46, 0, none⟩, q1_6.length, 1, (o_45.rdN (Nat.le_of_ble_eq_true rfl)).trans rfl, ?_⟩
      refine Lt.setN (n := 3) o_44 (Nat.le_of_ble_eq_true rfl) rfl (fun H_9 hl_113 o_115 k_114 => ?_)
      have o_115 : Own H_9 b_1 [.int .i64 q1_4, .int .i64 q1_5, .slice (some ⟨b_46, 0, none⟩) q1_6.length 1] := o_115
      have l_116 := k_114.1
      have g_117 := g_51.keep (b := b_1) (by omega) k_114
      have l_118 := g_117.1
      have o_119 := o_45.keep (by omega) k_114
      have w_120 := o_119.lt
      have o_121 := o_47.keep (by omega) k_114
      have w_122 := o_121.lt
      have w_123 := o_115.lt
      refine ⟨q1_4, q1_5, some ⟨b_46, 0, none⟩, q1_6.length, 1, (o_115.rdN (Nat.le_of_ble_eq_true rfl)).trans rfl, ?_⟩
      rw [e] at hk
      exact hk _ _ _ H_9 g_117 (o_121.ownS (by first | rfl | omega | (simp only [List.length_set]; done) | (simp only [List.length_set, List.length_replicate]; omega)) (by omega))
theorem spec_l04Crop_ok : FnOk Try.prog 131 S_spec_l04Crop := by
  refine FnOk.body mix_ok E_spec_l04Crop_ok Try.func131 rfl (by kernel_rfl) (by kernel_rfl) ?_ ?_ ?_ ?_ ?_
  · intro args H K K' h hk
    simp only [S_spec_l04Crop] at *
    unfold F_spec_l04Crop at *
    split at hk
    · obtain ⟨pp_Wide, pp_High, pp_Lights_a, pp_Lights_n, pp_Lights_e, l_pp_Lights, i_p, i_pp_Lights, bd_128, pr0, pr1, pr2, pr3, pr4, pr5, pr6, pr7, pr8, k⟩ := hk
      exact ⟨pp_Wide, pp_High, pp_Lights_a, pp_Lights_n, pp_Lights_e, l_pp_Lights, i_p, i_pp_Lights, bd_128, pr0, pr1, pr2, pr3, pr4, pr5, pr6, pr7, pr8, (fun r1_Lights_a r1_Lights_n r1_Lights_e H' gg ow0 => h _ _ (k r1_Lights_a r1_Lights_n r1_Lights_e H' gg ow0))⟩
    · exact hk.elim
  · intro hq; cases hq
  · intro args H K hk
    simp only [S_spec_l04Crop] at *
    unfold F_spec_l04Crop at *
    split at hk
    · obtain ⟨pp_Wide, pp_High, pp_Lights_a, pp_Lights_n, pp_Lights_e, l_pp_Lights, i_p, i_pp_Lights, bd_128, pr0, pr1, pr2, pr3, pr4, pr5, pr6, pr7, pr8, k⟩ := hk
      exact liveS fun a n e H1 g o => ⟨_, _, k a n e H1 g o⟩
    · exact hk.elim
  · intro _ args H K hk
    simp only [S_spec_l04Crop] at *
    unfold F_spec_l04Crop at *
    split at hk
    · obtain ⟨pp_Wide, pp_High, pp_Lights_a, pp_Lights_n, pp_Lights_e, l_pp_Lights, i_p, i_pp_Lights, bd_128, pr0, pr1, pr2, pr3, pr4, pr5, pr6, pr7, pr8, k⟩ := hk
      exact ⟨pp_Wide, pp_High, pp_Lights_a, pp_Lights_n, pp_Lights_e, l_pp_Lights, i_p, i_pp_Lights, bd_128, pr0, pr1, pr2, pr3, pr4, pr5, pr6, pr7, pr8, (fun r1_Lights_a r1_Lights_n r1_Lights_e H' gg ow0 => ⟨gg, k r1_Lights_a r1_Lights_n r1_Lights_e H' gg ow0⟩)⟩
    · exact hk.elim
  · have mm := @spec_l04Crop_main
    revert mm
    generalize bodyK Try.prog E_spec_l04Crop Try.f131 = Q
    intro mm args H K hk
    simp only [S_spec_l04Crop] at *
    unfold F_spec_l04Crop at *
    split at hk
    · exact mm _ _ _ _ _ H K hk
    · exact hk.elim

def p_spec_l04Band (pp_Wide : Int) (pp_High : Int) (l_pp_Lights : List Nat) (level : Int) (band : Int) : Int × Int × (List Nat) := ((bif ((p_spec_l04Region pp_Wide pp_High level band).2.2.1 : Int) == 0 then ((0 : Int), (0 : Int), []) else (bif ((p_spec_l04Region pp_Wide pp_High level band).2.2.2 : Int) == 0 then ((0 : Int), (0 : Int), []) else ((p_spec_l04Crop pp_Wide pp_High l_pp_Lights ((p_spec_l04Region pp_Wide pp_High level band).1) ((p_spec_l04Region pp_Wide pp_High level band).2.1) ((p_spec_l04Region pp_Wide pp_High level band).2.2.1) ((p_spec_l04Region pp_Wide pp_High level band).2.2.2)).1, (p_spec_l04Crop pp_Wide pp_High l_pp_Lights ((p_spec_l04Region pp_Wide pp_High level band).1) ((p_spec_l04Region pp_Wide pp_High level band).2.1) ((p_spec_l04Region pp_Wide pp_High level band).2.2.1) ((p_spec_l04Region pp_Wide pp_High level band).2.2.2)).2.1, (p_spec_l04Crop pp_Wide pp_High l_pp_Lights ((p_spec_l04Region pp_Wide pp_High level band).1) ((p_spec_l04Region pp_Wide pp_High level band).2.1) ((p_spec_l04Region pp_Wide pp_High level band).2.2.1) ((p_spec_l04Region pp_Wide pp_High level band).2.2.2)).2.2))))
theorem p_spec_l04Band_eq (pp_Wide : Int) (pp_High : Int) (l_pp_Lights : List Nat) (level : Int) (band : Int) : p_spec_l04Band pp_Wide pp_High l_pp_Lights level band = ((bif ((p_spec_l04Region pp_Wide pp_High level band).2.2.1 : Int) == 0 then ((0 : Int), (0 : Int), []) else (bif ((p_spec_l04Region pp_Wide pp_High level band).2.2.2 : Int) == 0 then ((0 : Int), (0 : Int), []) else ((p_spec_l04Crop pp_Wide pp_High l_pp_Lights ((p_spec_l04Region pp_Wide pp_High level band).1) ((p_spec_l04Region pp_Wide pp_High level band).2.1) ((p_spec_l04Region pp_Wide pp_High level band).2.2.1) ((p_spec_l04Region pp_Wide pp_High level band).2.2.2)).1, (p_spec_l04Crop pp_Wide pp_High l_pp_Lights ((p_spec_l04Region pp_Wide pp_High level band).1) ((p_spec_l04Region pp_Wide pp_High level band).2.1) ((p_spec_l04Region pp_Wide pp_High level band).2.2.1) ((p_spec_l04Region pp_Wide pp_High level band).2.2.2)).2.1, (p_spec_l04Crop pp_Wide pp_High l_pp_Lights ((p_spec_l04Region pp_Wide pp_High level band).1) ((p_spec_l04Region pp_Wide pp_High level band).2.1) ((p_spec_l04Region pp_Wide pp_High level band).2.2.1) ((p_spec_l04Region pp_Wide pp_High level band).2.2.2)).2.2)))) := rfl
def T_spec_l04Band (p : Nat) (level : Int) (band : Int) (H : AHeap) (K : Int → Int → (Option Addr) → Nat → Nat → AHeap → Prop) : Prop := ∃ (pp_Wide : Int), ∃ (pp_High : Int), ∃ (pp_Lights_a : Option Addr), ∃ (pp_Lights_n : Nat), ∃ (pp_Lights_e : Nat), ∃ (l_pp_Lights : List Nat), rdN H p 0 3 = some [.int .i64 pp_Wide, .int .i64 pp_High, .slice pp_Lights_a pp_Lights_n pp_Lights_e] ∧ IsL fF H pp_Lights_a pp_Lights_n l_pp_Lights ∧ l_pp_Lights.length < 1073741824 ∧ 1 ≤ pp_Wide ∧ pp_Wide ≤ 16 ∧ 1 ≤ pp_High ∧ pp_High ≤ 16 ∧ (l_pp_Lights.length : Int) = pp_Wide * pp_High ∧ 1 ≤ level ∧ level ≤ 1000 ∧ ((∀ (r1_Lights_a : Option Addr) (r1_Lights_n r1_Lights_e : Nat), ∀ H' : AHeap, Grow H H' → OwnS fF H' H.length r1_Lights_a r1_Lights_n r1_Lights_e ((p_spec_l04Band pp_Wide pp_High l_pp_Lights level band).2.2) → K ((p_spec_l04Band pp_Wide pp_High l_pp_Lights level band).1) ((p_spec_l04Band pp_Wide pp_High l_pp_Lights level band).2.1) r1_Lights_a r1_Lights_n r1_Lights_e H'))
theorem T_spec_l04Band_i {p : Nat} {level : Int} {band : Int} {H : AHeap} {K : Int → Int → (Option Addr) → Nat → Nat → AHeap → Prop} (h : ∃ (pp_Wide : Int), ∃ (pp_High : Int), ∃ (pp_Lights_a : Option Addr), ∃ (pp_Lights_n : Nat), ∃ (pp_Lights_e : Nat), ∃ (l_pp_Lights : List Nat), rdN H p 0 3 = some [.int .i64 pp_Wide, .int .i64 pp_High, .slice pp_Lights_a pp_Lights_n pp_Lights_e] ∧ IsL fF H pp_Lights_a pp_Lights_n l_pp_Lights ∧ l_pp_Lights.length < 1073741824 ∧ 1 ≤ pp_Wide ∧ pp_Wide ≤ 16 ∧ 1 ≤ pp_High ∧ pp_High ≤ 16 ∧ (l_pp_Lights.length : Int) = pp_Wide * pp_High ∧ 1 ≤ level ∧ level ≤ 1000 ∧ ((∀ (r1_Lights_a : Option Addr) (r1_Lights_n r1_Lights_e : Nat), ∀ H' : AHeap, Grow H H' → OwnS fF H' H.length r1_Lights_a r1_Lights_n r1_Lights_e ((p_spec_l04Band pp_Wide pp_High l_pp_Lights level band).2.2) → K ((p_spec_l04Band pp_Wide pp_High l_pp_Lights level band).1) ((p_spec_l04Band pp_Wide pp_High l_pp_Lights level band).2.1) r1_Lights_a r1_Lights_n r1_Lights_e H'))) : T_spec_l04Band p level band H K := h
theorem l04Band_is (W H : Int) (L : List Nat) (level band : Int) (h1 : 1 ≤ W) (h2 : W ≤ 16) (h3 : 1 ≤ H) (h4 : H ≤ 16) : p_spec_l04Band W H L level band =
    (bif (p_spec_l04Region W H level band).2.2.1 == 0 || (p_spec_l04Region W H level band).2.2.2 == 0 then (0, 0, []) else
      ((p_spec_l04Region W H level band).2.2.1, (p_spec_l04Region W H level band).2.2.2, picL (p_spec_l04Region W H level band).2.2.1.toNat (p_spec_l04Region W H level band).2.2.2.toNat (cropF L (p_spec_l04Region W H level band).1 (p_spec_l04Region W H level band).2.1 W))) := by
  have z := l04Region_rng W H level band ⟨h1, h2, h3, h4⟩
  rw [p_spec_l04Band_eq]
  generalize (p_spec_l04Region W H level band) = r at *
  cases e1 : (r.2.2.1 == (0 : Int)) with
  | true => rfl
  | false =>
    cases e2 : (r.2.2.2 == (0 : Int)) with
    | true => rfl
    | false =>
      have e1 := ieq_f e1
      have e2 := ieq_f e2
      rw [l04Crop_is W H L _ _ _ _ (by omega) (by omega)]; rfl
theorem l04Band_len (W H : Int) (L : List Nat) (level band : Int) (h1 : 1 ≤ W) (h2 : W ≤ 16) (h3 : 1 ≤ H) (h4 : H ≤ 16) : ((p_spec_l04Band W H L level band).2.2.length : Int) ≤ 256 := by
  have z := l04Region_rng W H level band ⟨h1, h2, h3, h4⟩
  rw [l04Band_is W H L level band h1 h2 h3 h4]
  generalize (p_spec_l04Region W H level band) = r at *
  cases (r.2.2.1 == (0 : Int) || r.2.2.2 == (0 : Int)) with
  | true => show ((0 : Nat) : Int) ≤ 256; omega
  | false =>
    show ((picL r.2.2.1.toNat r.2.2.2.toNat (cropF L r.1 r.2.1 W)).length : Int) ≤ 256
    rw [picL_length]
    have : r.2.2.2.toNat * r.2.2.1.toNat ≤ 16 * 16 := Nat.mul_le_mul (by omega) (by omega)
    omega
/-! spec_l04Band: function 91 -/
def E_spec_l04Band : Env := envOf [(130, S_spec_l04Region), (131, S_spec_l04Crop)]
def F_spec_l04Band : List Value → AHeap → (Value → AHeap → Prop) → Prop
  | [.pointer (some ⟨p, 0, none⟩), .int .i64 level, .int .i64 band], H, K => T_spec_l04Band p level band H fun (r1_Wide : Int) (r1_High : Int) (r1_Lights_a : Option Addr) (r1_Lights_n : Nat) (r1_Lights_e : Nat) (H' : AHeap) => K (.agg #[.int .i64 r1_Wide, .int .i64 r1_High, .slice r1_Lights_a r1_Lights_n r1_Lights_e]) H'
  | _, _, _ => False
def S_spec_l04Band : FSpec := { F := F_spec_l04Band, quiet := false, tame := true }
theorem spec_l04Band_vc (p : Nat) (level : Int) (band : Int) (H : AHeap) (K : Value → AHeap → Prop) : bodyK Try.prog E_spec_l04Band Try.f91 [.pointer (some ⟨p, 0, none⟩), .int .i64 level, .int .i64 band] H K =
  (Al [.int .i64 0, .int .i64 0, .slice none 0 0] H fun b1 H1 => ∃ x1 : Int,  rdC H1 p 0 = some (.int .i64 x1) ∧ ∃ x2 : Int,  rdC H1 p 1 = some (.int .i64 x2) ∧ T_spec_l04Region x1 x2 level band H1 fun (r1 : Int) (r2 : Int) (r3 : Int) (r4 : Int) (H2 : AHeap) => Br ((r3 : Int) == 0) (isOwn H2 b1 ∧ (∃ l, rdN H2 b1 0 3 = some l) ∧ Lt (setN H2 b1 0 [.int .i64 0, .int .i64 0, .slice none 0 0]) fun H3 => ∃ c1 : Int, ∃ c2 : Int, ∃ c3_a : Option Addr, ∃ c3_n : Nat, ∃ c3_e : Nat,  rdN H3 b1 0 3 = some [.int .i64 c1, .int .i64 c2, .slice c3_a c3_n c3_e] ∧ K (.agg #[.int .i64 c1, .int .i64 c2, .slice c3_a c3_n c3_e]) H3) (Br ((r4 : Int) == 0) (isOwn H2 b1 ∧ (∃ l, rdN H2 b1 0 3 = some l) ∧ Lt (setN H2 b1 0 [.int .i64 0, .int .i64 0, .slice none 0 0]) fun H4 => ∃ c4 : Int, ∃ c5 : Int, ∃ c6_a : Option Addr, ∃ c6_n : Nat, ∃ c6_e : Nat,  rdN H4 b1 0 3 = some [.int .i64 c4, .int .i64 c5, .slice c6_a c6_n c6_e] ∧ K (.agg #[.int .i64 c4, .int .i64 c5, .slice c6_a c6_n c6_e]) H4) (T_spec_l04Crop p r1 r2 r3 r4 H2 fun (r5 : Int) (r6 : Int) (a1 : Option Addr) (r7 : Nat) (r8 : Nat) (H5 : AHeap) => isOwn H5 b1 ∧ (∃ l, rdN H5 b1 0 3 = some l) ∧ Lt (setN H5 b1 0 [.int .i64 r5, .int .i64 r6, .slice a1 r7 r8]) fun H6 => ∃ c7 : Int, ∃ c8 : Int, ∃ c9_a : Option Addr, ∃ c9_n : Nat, ∃ c9_e : Nat,  rdN H6 b1 0 3 = some [.int .i64 c7, .int .i64 c8, .slice c9_a c9_n c9_e] ∧ K (.agg #[.int .i64 c7, .int .i64 c8, .slice c9_a c9_n c9_e]) H6))) := by kernel_rfl
theorem E_spec_l04Band_ok : ∀ g, FnOk Try.prog g (E_spec_l04Band g) := FnOk.envOf (by
  intro x hx
  simp only [List.mem_cons, List.not_mem_nil, or_false] at hx
  rcases hx with rfl | rfl
  · exact spec_l04Region_ok
  · exact spec_l04Crop_ok)
set_option maxHeartbeats 1000000 in
theorem spec_l04Band_main (p : Nat) (level : Int) (band : Int) (H : AHeap) (K : Value → AHeap → Prop) (h : T_spec_l04Band p level band H fun (r1_Wide : Int) (r1_High : Int) (r1_Lights_a : Option Addr) (r1_Lights_n : Nat) (r1_Lights_e : Nat) (H' : AHeap) => K (.agg #[.int .i64 r1_Wide, .int .i64 r1_High, .slice r1_Lights_a r1_Lights_n r1_Lights_e]) H') : bodyK Try.prog E_spec_l04Band Try.f91 [.pointer (some ⟨p, 0, none⟩), .int .i64 level, .int .i64 band] H K := by
  rw [spec_l04Band_vc]
  obtain ⟨pp_Wide, pp_High, pp_Lights_a, pp_Lights_n, pp_Lights_e, l_pp_Lights, i_p, i_pp_Lights, bd_50, pr0, pr1, pr2, pr3, pr4, pr5, pr6, hk⟩ := h
  obtain rfl := i_pp_Lights.eqn
  have e : (p_spec_l04Band pp_Wide pp_High l_pp_Lights level band) = _ := rfl
  have e := e.trans (p_spec_l04Band_eq pp_Wide pp_High l_pp_Lights level band)
  have g0 := Grow.refl H
  refine Al.intro (fun b_1 H_1 hb_2 hl_3 g_4 o_5 => ?_)
  have l_7 := g_4.1
  have g_8 := g0.trans g_4
  have l_9 := g_8.1
  have w_49 := o_5.lt
  refine ⟨pp_Wide, (rdN_at (rdN_grow g_8 i_p) 0 (Nat.le_of_ble_eq_true rfl)).trans rfl, ?_⟩
  refine ⟨pp_High, (rdN_at (rdN_grow g_8 i_p) 1 (Nat.le_of_ble_eq_true rfl)).trans rfl, ?_⟩
  refine T_spec_l04Region_i ⟨(by first | assumption | omega | (simp; omega)), (by first | assumption | omega | (simp; omega)), (by first | assumption | omega | (simp; omega)), (by first | assumption | omega | (simp; omega)), (by first | assumption | omega | (simp; omega)), (by first | assumption | omega | (simp; omega)), ?_⟩
  have z_10 := l04Region_rng pp_Wide pp_High level band
  refine Br.intro (fun c_11 => ?_) (fun c_11 => ?_)
  · have e := e.trans (cond_t c_11)
    have c_11' := ieq_t c_11
    refine Lt.setN (n := 3) o_5 (Nat.le_of_ble_eq_true rfl) rfl (fun H_2 hl_12 o_14 k_13 => ?_)
    have o_14 : Own H_2 b_1 [.int .i64 0, .int .i64 0, .slice none 0 0] := o_14
    have l_15 := k_13.1
    have g_16 := g_8.keep (b := b_1) (by omega) k_13
    have l_17 := g_16.1
    have w_18 := o_14.lt
    refine ⟨0, 0, none, 0, 0, (o_14.rdN (Nat.le_of_ble_eq_true rfl)).trans rfl, ?_⟩
    rw [e] at hk
    exact hk _ _ _ H_2 g_16 (OwnS.nil _ _ _ _)
  · have e := e.trans (cond_f c_11)
    have c_11' := ieq_f c_11
    refine Br.intro (fun c_19 => ?_) (fun c_19 => ?_)
    · have e := e.trans (cond_t c_19)
      have c_19' := ieq_t c_19
      refine Lt.setN (n := 3) o_5 (Nat.le_of_ble_eq_true rfl) rfl (fun H_3 hl_20 o_22 k_21 => ?_)
      have o_22 : Own H_3 b_1 [.int .i64 0, .int .i64 0, .slice none 0 0] := o_22
      have l_23 := k_21.1
      have g_24 := g_8.keep (b := b_1) (by omega) k_21
      have l_25 := g_24.1
      have w_26 := o_22.lt
      refine ⟨0, 0, none, 0, 0, (o_22.rdN (Nat.le_of_ble_eq_true rfl)).trans rfl, ?_⟩
      rw [e] at hk
      exact hk _ _ _ H_3 g_24 (OwnS.nil _ _ _ _)
    · have e := e.trans (cond_f c_19)
      have c_19' := ieq_f c_19
      refine T_spec_l04Crop_i ⟨pp_Wide, pp_High, pp_Lights_a, l_pp_Lights.length, pp_Lights_e, _, (rdN_grow g_8 i_p), (i_pp_Lights.grow g_8), (by first | omega | (simp only [List.length_set, List.length_replicate, List.length_append, List.length_cons, List.length_nil, List.length_take, List.length_drop, marks_length]; done) | (simp only [List.length_set, List.length_replicate, List.length_append, List.length_cons, List.length_nil, List.length_take, List.length_drop, marks_length]; omega)), (by first | assumption | omega | (simp; omega)), (by first | assumption | omega | (simp; omega)), (by first | assumption | omega | (simp; omega)), (by first | assumption | omega | (simp; omega)), (by first | assumption | omega | (simp; omega)), (by first | assumption | omega | (simp; omega)), (by first | assumption | omega | (simp; omega)), (by first | assumption | omega | (simp; omega)), (by first | assumption | omega | (simp; omega)), fun a_27 n_28 e_29 H_4 g_32 r_30 => ?_⟩
      have z_31 := l04Crop_len pp_Wide pp_High l_pp_Lights ((p_spec_l04Region pp_Wide pp_High level band).1) ((p_spec_l04Region pp_Wide pp_High level band).2.1) ((p_spec_l04Region pp_Wide pp_High level band).2.2.1) ((p_spec_l04Region pp_Wide pp_High level band).2.2.2) (by omega) (by omega) (by omega) (by omega)
      have l_33 := g_32.1
      have g_34 := g_8.trans g_32
      have l_35 := g_34.1
      have o_36 := o_5.grow g_32
      have w_37 := o_36.lt
      obtain rfl := r_30.isL.eqn
      have u_38 := r_30.up
      have u_39 := r_30.lo
      refine Lt.setN (n := 3) o_36 (Nat.le_of_ble_eq_true rfl) rfl (fun H_5 hl_41 o_43 k_42 => ?_)
      have o_43 : Own H_5 b_1 [.int .i64 ((p_spec_l04Crop pp_Wide pp_High l_pp_Lights ((p_spec_l04Region pp_Wide pp_High level band).1) ((p_spec_l04Region pp_Wide pp_High level band).2.1) ((p_spec_l04Region pp_Wide pp_High level band).2.2.1) ((p_spec_l04Region pp_Wide pp_High level band).2.2.2)).1), .int .i64 ((p_spec_l04Crop pp_Wide pp_High l_pp_Lights ((p_spec_l04Region pp_Wide pp_High level band).1) ((p_spec_l04Region pp_Wide pp_High level band).2.1) ((p_spec_l04Region pp_Wide pp_High level band).2.2.1) ((p_spec_l04Region pp_Wide pp_High level band).2.2.2)).2.1), .slice a_27 (((p_spec_l04Crop pp_Wide pp_High l_pp_Lights ((p_spec_l04Region pp_Wide pp_High level band).1) ((p_spec_l04Region pp_Wide pp_High level band).2.1) ((p_spec_l04Region pp_Wide pp_High level band).2.2.1) ((p_spec_l04Region pp_Wide pp_High level band).2.2.2)).2.2).length) e_29] := o_43
      have l_44 := k_42.1
      have g_45 := g_34.keep (b := b_1) (by omega) k_42
      have l_46 := g_45.1
      have r_47 := r_30.keep u_38 (by omega) k_42
      have w_48 := o_43.lt
      refine ⟨(p_spec_l04Crop pp_Wide pp_High l_pp_Lights ((p_spec_l04Region pp_Wide pp_High level band).1) ((p_spec_l04Region pp_Wide pp_High level band).2.1) ((p_spec_l04Region pp_Wide pp_High level band).2.2.1) ((p_spec_l04Region pp_Wide pp_High level band).2.2.2)).1, (p_spec_l04Crop pp_Wide pp_High l_pp_Lights ((p_spec_l04Region pp_Wide pp_High level band).1) ((p_spec_l04Region pp_Wide pp_High level band).2.1) ((p_spec_l04Region pp_Wide pp_High level band).2.2.1) ((p_spec_l04Region pp_Wide pp_High level band).2.2.2)).2.1, a_27, ((p_spec_l04Crop pp_Wide pp_High l_pp_Lights ((p_spec_l04Region pp_Wide pp_High level band).1) ((p_spec_l04Region pp_Wide pp_High level band).2.1) ((p_spec_l04Region pp_Wide pp_High level band).2.2.1) ((p_spec_l04Region pp_Wide pp_High level band).2.2.2)).2.2).length, e_29, (o_43.rdN (Nat.le_of_ble_eq_true rfl)).trans rfl, ?_⟩
      rw [e] at hk
      exact hk _ _ _ H_5 g_45 (r_47.weak (by omega))
theorem spec_l04Band_ok : FnOk Try.prog 91 S_spec_l04Band := by
  refine FnOk.body mix_ok E_spec_l04Band_ok Try.func91 rfl (by kernel_rfl) (by kernel_rfl) ?_ ?_ ?_ ?_ ?_
  · intro args H K K' h hk
    simp only [S_spec_l04Band] at *
    unfold F_spec_l04Band at *
    split at hk
    · obtain ⟨pp_Wide, pp_High, pp_Lights_a, pp_Lights_n, pp_Lights_e, l_pp_Lights, i_p, i_pp_Lights, bd_50, pr0, pr1, pr2, pr3, pr4, pr5, pr6, k⟩ := hk
      exact ⟨pp_Wide, pp_High, pp_Lights_a, pp_Lights_n, pp_Lights_e, l_pp_Lights, i_p, i_pp_Lights, bd_50, pr0, pr1, pr2, pr3, pr4, pr5, pr6, (fun r1_Lights_a r1_Lights_n r1_Lights_e H' gg ow0 => h _ _ (k r1_Lights_a r1_Lights_n r1_Lights_e H' gg ow0))⟩
    · exact hk.elim
  · intro hq; cases hq
  · intro args H K hk
    simp only [S_spec_l04Band] at *
    unfold F_spec_l04Band at *
    split at hk
    · obtain ⟨pp_Wide, pp_High, pp_Lights_a, pp_Lights_n, pp_Lights_e, l_pp_Lights, i_p, i_pp_Lights, bd_50, pr0, pr1, pr2, pr3, pr4, pr5, pr6, k⟩ := hk
      exact liveS fun a n e H1 g o => ⟨_, _, k a n e H1 g o⟩
    · exact hk.elim
  · intro _ args H K hk
    simp only [S_spec_l04Band] at *
    unfold F_spec_l04Band at *
    split at hk
    · obtain ⟨pp_Wide, pp_High, pp_Lights_a, pp_Lights_n, pp_Lights_e, l_pp_Lights, i_p, i_pp_Lights, bd_50, pr0, pr1, pr2, pr3, pr4, pr5, pr6, k⟩ := hk
      exact ⟨pp_Wide, pp_High, pp_Lights_a, pp_Lights_n, pp_Lights_e, l_pp_Lights, i_p, i_pp_Lights, bd_50, pr0, pr1, pr2, pr3, pr4, pr5, pr6, (fun r1_Lights_a r1_Lights_n r1_Lights_e H' gg ow0 => ⟨gg, k r1_Lights_a r1_Lights_n r1_Lights_e H' gg ow0⟩)⟩
    · exact hk.elim
  · have mm := @spec_l04Band_main
    revert mm
    generalize bodyK Try.prog E_spec_l04Band Try.f91 = Q
    intro mm args H K hk
    simp only [S_spec_l04Band] at *
    unfold F_spec_l04Band at *
    split at hk
    · exact mm _ _ _ H K hk
    · exact hk.elim

def p_spec_l02Energy_l1 (l_list : List Nat) : Nat → Nat → Int → Nat
  | 0, _, _ => 0
  | μ + 1, sum, i => (bif decide ((i : Int) < (l_list.length : Int)) then (p_spec_l02Energy_l1 l_list μ (fadd .f32 sum (fmul .f32 (((l_list).getD (i : Int).toNat 0)) (((l_list).getD (i : Int).toNat 0)))) (i + 1)) else sum)
theorem p_spec_l02Energy_l1_s (l_list : List Nat) (μ : Nat) (sum : Nat) (i : Int) : p_spec_l02Energy_l1 l_list (μ + 1) sum i = (bif decide ((i : Int) < (l_list.length : Int)) then (p_spec_l02Energy_l1 l_list μ (fadd .f32 sum (fmul .f32 (((l_list).getD (i : Int).toNat 0)) (((l_list).getD (i : Int).toNat 0)))) (i + 1)) else sum) := rfl
def p_spec_l02Energy (l_list : List Nat) : Nat := (p_spec_l02Energy_l1 l_list (Int.toNat ((l_list.length : Int) - (0 : Int)) + 1) 0 (0 : Int))
theorem p_spec_l02Energy_eq (l_list : List Nat) : p_spec_l02Energy l_list = (p_spec_l02Energy_l1 l_list (Int.toNat ((l_list.length : Int) - (0 : Int)) + 1) 0 (0 : Int)) := rfl
def T_spec_l02Energy (list_a : Option Addr) (list_n : Nat) (list_e : Nat) (H : AHeap) (K : Nat → AHeap → Prop) : Prop := ∃ (l_list : List Nat), IsL fF H list_a list_n l_list ∧ l_list.length < 1073741824 ∧ K (p_spec_l02Energy l_list) H
theorem T_spec_l02Energy_i {list_a : Option Addr} {list_n : Nat} {list_e : Nat} {H : AHeap} {K : Nat → AHeap → Prop} (h : ∃ (l_list : List Nat), IsL fF H list_a list_n l_list ∧ l_list.length < 1073741824 ∧ K (p_spec_l02Energy l_list) H) : T_spec_l02Energy list_a list_n list_e H K := h

/-! spec_l02Energy: function 92 -/
def E_spec_l02Energy : Env := envOf []
def F_spec_l02Energy : List Value → AHeap → (Value → AHeap → Prop) → Prop
  | [.slice list_a list_n list_e], H, K => T_spec_l02Energy list_a list_n list_e H fun (r1 : Nat) (H' : AHeap) => K (.float .f32 r1) H'
  | _, _, _ => False
def S_spec_l02Energy : FSpec := { F := F_spec_l02Energy, quiet := true, tame := false }
theorem spec_l02Energy_vc (list_a : Option Addr) (list_n : Nat) (list_e : Nat) (H : AHeap) (K : Value → AHeap → Prop) : bodyK Try.prog E_spec_l02Energy Try.f92 [.slice list_a list_n list_e] H K =
  (loopK (exK Try.prog E_spec_l02Energy (cl (cl (cr (cl (cr (cr (bodyC Try.f92)))))))) [.slice list_a list_n list_e, undef, .float .f32 0, .float .f32 0, .int .i64 0, undef, undef, undef, undef, undef, undef, undef, undef, undef, undef, undef, undef, undef, undef, undef, undef, undef, undef] H (blockQ 0 (seqQ (exK Try.prog E_spec_l02Energy (cr (cr (cr (bodyC Try.f92))))) (retK Try.prog Try.f92 K)))) := by kernel_rfl
theorem spec_l02Energy_r1 (list_a : Option Addr) (list_e : Nat) (list_n : Nat) (sum : Nat) (i : Int) (g5 g6 g7 g8 g9 g10 g11 g12 g13 g14 g15 g16 g17 g18 g19 g20 g21 : Value) (H : AHeap) (R : Post) : exK Try.prog E_spec_l02Energy (cl (cl (cr (cl (cr (cr (bodyC Try.f92))))))) [.slice list_a list_n list_e, undef, .float .f32 0, .float .f32 sum, .int .i64 i, g5, g6, g7, g8, g9, g10, g11, g12, g13, g14, g15, g16, g17, g18, g19, g20, g21, undef] H R =
  (Br (decide ((i : Int) < (list_n : Int))) ((0 : Int) ≤ i ∧ i < (list_n : Int) ∧ ∃ b1 f1, (list_a : Option Addr) = some ⟨b1, f1, none⟩ ∧ ∃ x1 : Nat,  rdC H b1 (f1 + (i : Int).toNat * 1) = some (.float .f32 x1) ∧ (0 : Int) ≤ i ∧ i < (list_n : Int) ∧ ∃ b2 f2, (list_a : Option Addr) = some ⟨b2, f2, none⟩ ∧ ∃ x2 : Nat,  rdC H b2 (f2 + (i : Int).toNat * 1) = some (.float .f32 x2) ∧ R .normal [.slice list_a list_n list_e, undef, .float .f32 0, .float .f32 (fadd .f32 sum (fmul .f32 x1 x2)), .int .i64 (IntKind.wrap .i64 (i + 1)), .int .i64 i, .slice list_a list_n list_e, .int .i64 (list_n : Int), .bool (decide ((i : Int) < (list_n : Int))), .int .i64 i, .int .i64 (IntKind.wrap .i64 (i + 1)), .float .f32 sum, .slice list_a list_n list_e, .int .i64 i, .pointer (some ⟨b1, f1 + (i : Int).toNat * 1, none⟩), .float .f32 x1, .slice list_a list_n list_e, .int .i64 i, .pointer (some ⟨b2, f2 + (i : Int).toNat * 1, none⟩), .float .f32 x2, .float .f32 (fmul .f32 x1 x2), .float .f32 (fadd .f32 sum (fmul .f32 x1 x2)), undef] H) (R (.exit 0) [.slice list_a list_n list_e, undef, .float .f32 0, .float .f32 sum, .int .i64 i, .int .i64 i, .slice list_a list_n list_e, .int .i64 (list_n : Int), .bool (decide ((i : Int) < (list_n : Int))), g9, g10, g11, g12, g13, g14, g15, g16, g17, g18, g19, g20, g21, undef] H)) := by kernel_rfl
def spec_l02Energy_I1 (list_a : Option Addr) (list_e : Nat) (list_n : Nat) (Inv : Nat → Nat → Int → AHeap → Prop) : Nat → List Value → AHeap → Prop := fun μ tm H => ∃ (sum : Nat), ∃ (i : Int), ∃ g5 g6 g7 g8 g9 g10 g11 g12 g13 g14 g15 g16 g17 g18 g19 g20 g21, tm = [.slice list_a list_n list_e, undef, .float .f32 0, .float .f32 sum, .int .i64 i, g5, g6, g7, g8, g9, g10, g11, g12, g13, g14, g15, g16, g17, g18, g19, g20, g21, undef] ∧ Inv μ sum i H
theorem spec_l02Energy_L1 (list_a : Option Addr) (list_e : Nat) (list_n : Nat) {Q : Post} (Inv : Nat → Nat → Int → AHeap → Prop) (ν : Nat) (sum : Nat) (i : Int) (g5 g6 g7 g8 g9 g10 g11 g12 g13 g14 g15 g16 g17 g18 g19 g20 g21 : Value) (H : AHeap) (h0 : Inv ν sum i H)
    (hs : ∀ (μ : Nat) (sum : Nat) (i : Int) (g5 g6 g7 g8 g9 g10 g11 g12 g13 g14 g15 g16 g17 g18 g19 g20 g21 : Value) (H : AHeap), Inv μ sum i H → exK Try.prog E_spec_l02Energy (cl (cl (cr (cl (cr (cr (bodyC Try.f92))))))) [.slice list_a list_n list_e, undef, .float .f32 0, .float .f32 sum, .int .i64 i, g5, g6, g7, g8, g9, g10, g11, g12, g13, g14, g15, g16, g17, g18, g19, g20, g21, undef] H (loopQ (spec_l02Energy_I1 list_a list_e list_n Inv) μ Q)) : loopK (exK Try.prog E_spec_l02Energy (cl (cl (cr (cl (cr (cr (bodyC Try.f92)))))))) [.slice list_a list_n list_e, undef, .float .f32 0, .float .f32 sum, .int .i64 i, g5, g6, g7, g8, g9, g10, g11, g12, g13, g14, g15, g16, g17, g18, g19, g20, g21, undef] H Q :=
  ⟨spec_l02Energy_I1 list_a list_e list_n Inv, ν, ⟨sum, i, g5, g6, g7, g8, g9, g10, g11, g12, g13, g14, g15, g16, g17, g18, g19, g20, g21, rfl, h0⟩, fun μ tm H h => by obtain ⟨sum, i, g5, g6, g7, g8, g9, g10, g11, g12, g13, g14, g15, g16, g17, g18, g19, g20, g21, rfl, hI⟩ := h; exact hs μ sum i g5 g6 g7 g8 g9 g10 g11 g12 g13 g14 g15 g16 g17 g18 g19 g20 g21 H hI⟩
theorem spec_l02Energy_n1 {list_a : Option Addr} {list_e : Nat} {list_n : Nat} {Q : Post} {Inv : Nat → Nat → Int → AHeap → Prop} {μ : Nat} (μ' : Nat) {sum : Nat} {i : Int} {g5 g6 g7 g8 g9 g10 g11 g12 g13 g14 g15 g16 g17 g18 g19 g20 g21 : Value} {H : AHeap} (hm : μ' < μ) (hI : Inv μ' sum i H) : loopQ (spec_l02Energy_I1 list_a list_e list_n Inv) μ Q .normal [.slice list_a list_n list_e, undef, .float .f32 0, .float .f32 sum, .int .i64 i, g5, g6, g7, g8, g9, g10, g11, g12, g13, g14, g15, g16, g17, g18, g19, g20, g21, undef] H := ⟨μ', hm, sum, i, g5, g6, g7, g8, g9, g10, g11, g12, g13, g14, g15, g16, g17, g18, g19, g20, g21, rfl, hI⟩
theorem spec_l02Energy_x1_0 (list_a : Option Addr) (list_e : Nat) (list_n : Nat) (sum : Nat) (i : Int) (g5 g6 g7 g8 g9 g10 g11 g12 g13 g14 g15 g16 g17 g18 g19 g20 g21 : Value) (H : AHeap) (K : Value → AHeap → Prop)  {I : Nat → List Value → AHeap → Prop} {μ : Nat} : loopQ I μ (blockQ 0 (seqQ (exK Try.prog E_spec_l02Energy (cr (cr (cr (bodyC Try.f92))))) (retK Try.prog Try.f92 K))) (.exit 0) [.slice list_a list_n list_e, undef, .float .f32 0, .float .f32 sum, .int .i64 i, g5, g6, g7, g8, g9, g10, g11, g12, g13, g14, g15, g16, g17, g18, g19, g20, g21, undef] H =
  (K (.float .f32 sum) H) := by kernel_rfl
theorem E_spec_l02Energy_ok : ∀ g, FnOk Try.prog g (E_spec_l02Energy g) := FnOk.envOf (by
  intro x hx; cases hx)
set_option maxHeartbeats 1000000 in
theorem spec_l02Energy_main (list_a : Option Addr) (list_n : Nat) (list_e : Nat) (H : AHeap) (K : Value → AHeap → Prop) (h : T_spec_l02Energy list_a list_n list_e H fun (r1 : Nat) (H' : AHeap) => K (.float .f32 r1) H') : bodyK Try.prog E_spec_l02Energy Try.f92 [.slice list_a list_n list_e] H K := by
  rw [spec_l02Energy_vc]
  obtain ⟨l_list, i_list, bd_11, hk⟩ := h
  obtain rfl := i_list.eqn
  have e : (p_spec_l02Energy l_list) = _ := rfl
  have e := e.trans (p_spec_l02Energy_eq l_list)
  have g0 := Grow.refl H
  refine spec_l02Energy_L1 _ _ _ (fun (μ : Nat) (sum : Nat) (i : Int) (H_1 : AHeap) => H = H_1 ∧ (0 : Int) ≤ i ∧ i ≤ (l_list.length : Int) ∧ (l_list.length : Int) - i ≤ (μ : Int) ∧ p_spec_l02Energy l_list = p_spec_l02Energy_l1 l_list (μ + 1) sum i) (Int.toNat ((l_list.length : Int) - (0 : Int))) _ _ _ _ _ _ _ _ _ _ _ _ _ _ _ _ _ _ _ H ?_ ?_
  · exact ⟨rfl, (by first | omega | (simp; done) | (simp; omega)), (by first | omega | (simp; done) | (simp; omega)), (by omega), e⟩
  · intro μ sum i g5 g6 g7 g8 g9 g10 g11 g12 g13 g14 g15 g16 g17 g18 g19 g20 g21 H_1 hI
    obtain ⟨rfl, v_1, v_2, hμ, e⟩ := hI
    rw [spec_l02Energy_r1]
    have e := e.trans (p_spec_l02Energy_l1_s l_list μ sum i)
    have l_3 := g0.1
    refine Br.intro (fun c_4 => ?_) (fun c_4 => ?_)
    · have e := e.trans (cond_t c_4)
      have c_4' := of_decide_eq_true c_4
      obtain ⟨b_5, f_6, q_7⟩ := ((i_list.grow g0)).pos (by first | omega | (simp only [List.length_set, List.length_replicate, List.length_append, List.length_cons, List.length_nil, List.length_take, List.length_drop, marks_length]; done) | (simp only [List.length_set, List.length_replicate, List.length_append, List.length_cons, List.length_nil, List.length_take, List.length_drop, marks_length]; omega))
      refine ⟨by omega, by omega, b_5, f_6, q_7, ?_⟩
      refine ⟨((l_list).getD (i : Int).toNat 0), (i_list).rd g0 q_7 (by omega) _, ?_⟩
      obtain ⟨b_8, f_9, q_10⟩ := ((i_list.grow g0)).pos (by first | omega | (simp only [List.length_set, List.length_replicate, List.length_append, List.length_cons, List.length_nil, List.length_take, List.length_drop, marks_length]; done) | (simp only [List.length_set, List.length_replicate, List.length_append, List.length_cons, List.length_nil, List.length_take, List.length_drop, marks_length]; omega))
      refine ⟨by omega, by omega, b_8, f_9, q_10, ?_⟩
      refine ⟨((l_list).getD (i : Int).toNat 0), (i_list).rd g0 q_10 (by omega) _, ?_⟩
      rw [show IntKind.wrap .i64 (i + 1) = (i + 1) from wrap64 (by omega) (by omega)]
      refine spec_l02Energy_n1 (μ - 1) (by first | omega) ⟨rfl, (by first | omega | (simp only [List.length_append, List.length_cons, List.length_nil, List.length_set]; done) | (simp only [List.length_append, List.length_cons, List.length_nil, List.length_set]; omega)), (by first | omega | (simp only [List.length_append, List.length_cons, List.length_nil, List.length_set]; done) | (simp only [List.length_append, List.length_cons, List.length_nil, List.length_set]; omega)), (by first | omega), (by rw [show μ - 1 + 1 = μ from by first | omega]; exact e)⟩
    · have e := e.trans (cond_f c_4)
      have c_4' := of_decide_eq_false c_4
      rw [spec_l02Energy_x1_0]
      rw [e] at hk
      exact hk
theorem spec_l02Energy_ok : FnOk Try.prog 92 S_spec_l02Energy := by
  refine FnOk.body mix_ok E_spec_l02Energy_ok Try.func92 rfl (by kernel_rfl) (by kernel_rfl) ?_ ?_ ?_ ?_ ?_
  · intro args H K K' h hk
    simp only [S_spec_l02Energy] at *
    unfold F_spec_l02Energy at *
    split at hk
    · obtain ⟨l_list, i_list, bd_11, k⟩ := hk
      exact ⟨l_list, i_list, bd_11, h _ _ k⟩
    · exact hk.elim
  · intro _ args H K hk
    simp only [S_spec_l02Energy] at *
    unfold F_spec_l02Energy at *
    split at hk
    · obtain ⟨l_list, i_list, bd_11, k⟩ := hk
      exact ⟨_, k, fun K' k' => ⟨l_list, i_list, bd_11, k'⟩⟩
    · exact hk.elim
  · intro args H K hk
    simp only [S_spec_l02Energy] at *
    unfold F_spec_l02Energy at *
    split at hk
    · obtain ⟨l_list, i_list, bd_11, k⟩ := hk
      exact ⟨_, _, k⟩
    · exact hk.elim
  · intro hq; cases hq
  · have mm := @spec_l02Energy_main
    revert mm
    generalize bodyK Try.prog E_spec_l02Energy Try.f92 = Q
    intro mm args H K hk
    simp only [S_spec_l02Energy] at *
    unfold F_spec_l02Energy at *
    split at hk
    · exact mm _ _ _ H K hk
    · exact hk.elim

def p_spec_l02List (l_list : List Nat) : (List Nat) × Bool := (bif !(p_spec_l02Finite l_list) then ([], false) else (l_list, true))
theorem p_spec_l02List_eq (l_list : List Nat) : p_spec_l02List l_list = (bif !(p_spec_l02Finite l_list) then ([], false) else (l_list, true)) := rfl
def T_spec_l02List (list_a : Option Addr) (list_n : Nat) (list_e : Nat) (H : AHeap) (K : (Option Addr) → Nat → Nat → Bool → AHeap → Prop) : Prop := ∃ (l_list : List Nat), IsL fF H list_a list_n l_list ∧ l_list.length < 1073741824 ∧ ((∀ (r1_a : Option Addr) (r1_n r1_e : Nat), ∀ H' : AHeap, Grow H H' → IsL fF H' r1_a r1_n ((p_spec_l02List l_list).1) → K r1_a r1_n r1_e ((p_spec_l02List l_list).2) H'))
theorem T_spec_l02List_i {list_a : Option Addr} {list_n : Nat} {list_e : Nat} {H : AHeap} {K : (Option Addr) → Nat → Nat → Bool → AHeap → Prop} (h : ∃ (l_list : List Nat), IsL fF H list_a list_n l_list ∧ l_list.length < 1073741824 ∧ ((∀ (r1_a : Option Addr) (r1_n r1_e : Nat), ∀ H' : AHeap, Grow H H' → IsL fF H' r1_a r1_n ((p_spec_l02List l_list).1) → K r1_a r1_n r1_e ((p_spec_l02List l_list).2) H'))) : T_spec_l02List list_a list_n list_e H K := h

/-! spec_l02List: function 93 -/
def E_spec_l02List : Env := envOf [(67, S_spec_l02Finite)]
def F_spec_l02List : List Value → AHeap → (Value → AHeap → Prop) → Prop
  | [.slice list_a list_n list_e], H, K => T_spec_l02List list_a list_n list_e H fun (r1_a : Option Addr) (r1_n : Nat) (r1_e : Nat) (r2 : Bool) (H' : AHeap) => K (.tuple #[.slice r1_a r1_n r1_e, .bool r2]) H'
  | _, _, _ => False
def S_spec_l02List : FSpec := { F := F_spec_l02List, quiet := false, tame := true }
theorem spec_l02List_vc (list_a : Option Addr) (list_n : Nat) (list_e : Nat) (H : AHeap) (K : Value → AHeap → Prop) : bodyK Try.prog E_spec_l02List Try.f93 [.slice list_a list_n list_e] H K =
  (T_spec_l02Finite list_a list_n list_e H fun (r1 : Bool) (H1 : AHeap) => Br (!r1) (K (.tuple #[.slice none 0 0, .bool false]) H1) (K (.tuple #[.slice list_a list_n list_e, .bool true]) H1)) := by kernel_rfl
theorem E_spec_l02List_ok : ∀ g, FnOk Try.prog g (E_spec_l02List g) := FnOk.envOf (by
  intro x hx
  simp only [List.mem_cons, List.not_mem_nil, or_false] at hx
  subst hx; exact spec_l02Finite_ok)
set_option maxHeartbeats 1000000 in
theorem spec_l02List_main (list_a : Option Addr) (list_n : Nat) (list_e : Nat) (H : AHeap) (K : Value → AHeap → Prop) (h : T_spec_l02List list_a list_n list_e H fun (r1_a : Option Addr) (r1_n : Nat) (r1_e : Nat) (r2 : Bool) (H' : AHeap) => K (.tuple #[.slice r1_a r1_n r1_e, .bool r2]) H') : bodyK Try.prog E_spec_l02List Try.f93 [.slice list_a list_n list_e] H K := by
  rw [spec_l02List_vc]
  obtain ⟨l_list, i_list, bd_2, hk⟩ := h
  obtain rfl := i_list.eqn
  have e : (p_spec_l02List l_list) = _ := rfl
  have e := e.trans (p_spec_l02List_eq l_list)
  have g0 := Grow.refl H
  refine T_spec_l02Finite_i ⟨_, (i_list.grow g0), (by first | omega | (simp only [List.length_set, List.length_replicate, List.length_append, List.length_cons, List.length_nil, List.length_take, List.length_drop, marks_length]; done) | (simp only [List.length_set, List.length_replicate, List.length_append, List.length_cons, List.length_nil, List.length_take, List.length_drop, marks_length]; omega)), ?_⟩
  refine Br.intro (fun c_1 => ?_) (fun c_1 => ?_)
  · have e := e.trans (cond_t c_1)
    have c_1n := nf_of_t c_1
    rw [e] at hk
    exact hk _ _ _ H g0 (IsL.nil _ _ _)
  · have e := e.trans (cond_f c_1)
    have c_1n := nt_of_f c_1
    rw [e] at hk
    exact hk _ _ _ H g0 (i_list.grow g0)
theorem spec_l02List_ok : FnOk Try.prog 93 S_spec_l02List := by
  refine FnOk.body mix_ok E_spec_l02List_ok Try.func93 rfl (by kernel_rfl) (by kernel_rfl) ?_ ?_ ?_ ?_ ?_
  · intro args H K K' h hk
    simp only [S_spec_l02List] at *
    unfold F_spec_l02List at *
    split at hk
    · obtain ⟨l_list, i_list, bd_2, k⟩ := hk
      exact ⟨l_list, i_list, bd_2, (fun r1_a r1_n r1_e H' gg ow0 => h _ _ (k r1_a r1_n r1_e H' gg ow0))⟩
    · exact hk.elim
  · intro hq; cases hq
  · intro args H K hk
    simp only [S_spec_l02List] at *
    unfold F_spec_l02List at *
    split at hk
    · obtain ⟨l_list, i_list, bd_2, k⟩ := hk
      exact liveV fun a n e H1 g o => ⟨_, _, k a n e H1 g o⟩
    · exact hk.elim
  · intro _ args H K hk
    simp only [S_spec_l02List] at *
    unfold F_spec_l02List at *
    split at hk
    · obtain ⟨l_list, i_list, bd_2, k⟩ := hk
      exact ⟨l_list, i_list, bd_2, (fun r1_a r1_n r1_e H' gg ow0 => ⟨gg, k r1_a r1_n r1_e H' gg ow0⟩)⟩
    · exact hk.elim
  · have mm := @spec_l02List_main
    revert mm
    generalize bodyK Try.prog E_spec_l02List Try.f93 = Q
    intro mm args H K hk
    simp only [S_spec_l02List] at *
    unfold F_spec_l02List at *
    split at hk
    · exact mm _ _ _ H K hk
    · exact hk.elim

def p_spec_EnergiesIn_l2 (p_Wide : Int) (p_High : Int) (l_p_Lights : List Nat) (levels : Int) (l_vout : List Nat) (level : Int) (k2_2 : (List Nat) → Int → ((List Nat) × Bool)) : Nat → (List Nat) → Int → (List Nat) × Bool
  | 0, _, _ => ([], false)
  | μ2 + 1, l_vout_2, band => (bif decide ((band : Int) ≤ 3) then (p_spec_EnergiesIn_l2 p_Wide p_High l_p_Lights levels l_vout level k2_2 μ2 ((l_vout_2 ++ [((p_spec_l02Energy ((p_spec_l04Band p_Wide p_High l_p_Lights level band).2.2)))])) (band + 1)) else (k2_2 l_vout_2 band))
theorem p_spec_EnergiesIn_l2_s (p_Wide : Int) (p_High : Int) (l_p_Lights : List Nat) (levels : Int) (l_vout : List Nat) (level : Int) (k2_2 : (List Nat) → Int → ((List Nat) × Bool)) (μ2 : Nat) (l_vout_2 : List Nat) (band : Int) : p_spec_EnergiesIn_l2 p_Wide p_High l_p_Lights levels l_vout level k2_2 (μ2 + 1) l_vout_2 band = (bif decide ((band : Int) ≤ 3) then (p_spec_EnergiesIn_l2 p_Wide p_High l_p_Lights levels l_vout level k2_2 μ2 ((l_vout_2 ++ [((p_spec_l02Energy ((p_spec_l04Band p_Wide p_High l_p_Lights level band).2.2)))])) (band + 1)) else (k2_2 l_vout_2 band)) := rfl
def p_spec_EnergiesIn_l1 (p_Wide : Int) (p_High : Int) (l_p_Lights : List Nat) (levels : Int) : Nat → (List Nat) → Int → (List Nat) × Bool
  | 0, _, _ => ([], false)
  | μ + 1, l_vout, level => (bif decide ((level : Int) ≤ levels) then (p_spec_EnergiesIn_l2 p_Wide p_High l_p_Lights levels l_vout level (fun (l_vout_2 : List Nat) (band : Int) => (p_spec_EnergiesIn_l1 p_Wide p_High l_p_Lights levels μ l_vout_2 (level + 1))) (Int.toNat (3 - (1 : Int) + 1) + 1) l_vout (1 : Int)) else ((p_spec_l02List ((l_vout ++ [((p_spec_l02Energy ((p_spec_l04Band p_Wide p_High l_p_Lights levels (0 : Int)).2.2)))]))).1, (p_spec_l02List ((l_vout ++ [((p_spec_l02Energy ((p_spec_l04Band p_Wide p_High l_p_Lights levels (0 : Int)).2.2)))]))).2))
theorem p_spec_EnergiesIn_l1_s (p_Wide : Int) (p_High : Int) (l_p_Lights : List Nat) (levels : Int) (μ : Nat) (l_vout : List Nat) (level : Int) : p_spec_EnergiesIn_l1 p_Wide p_High l_p_Lights levels (μ + 1) l_vout level = (bif decide ((level : Int) ≤ levels) then (p_spec_EnergiesIn_l2 p_Wide p_High l_p_Lights levels l_vout level (fun (l_vout_2 : List Nat) (band : Int) => (p_spec_EnergiesIn_l1 p_Wide p_High l_p_Lights levels μ l_vout_2 (level + 1))) (Int.toNat (3 - (1 : Int) + 1) + 1) l_vout (1 : Int)) else ((p_spec_l02List ((l_vout ++ [((p_spec_l02Energy ((p_spec_l04Band p_Wide p_High l_p_Lights levels (0 : Int)).2.2)))]))).1, (p_spec_l02List ((l_vout ++ [((p_spec_l02Energy ((p_spec_l04Band p_Wide p_High l_p_Lights levels (0 : Int)).2.2)))]))).2)) := rfl
def p_spec_EnergiesIn (p_Wide : Int) (p_High : Int) (l_p_Lights : List Nat) (levels : Int) : (List Nat) × Bool := (bif !(p_spec_l04Is p_Wide p_High l_p_Lights) then ([], false) else (bif !(p_spec_l04Levels levels) then ([], false) else (p_spec_EnergiesIn_l1 p_Wide p_High l_p_Lights levels (Int.toNat (levels - (1 : Int) + 1) + 1) ([] : List Nat) (1 : Int))))
theorem p_spec_EnergiesIn_eq (p_Wide : Int) (p_High : Int) (l_p_Lights : List Nat) (levels : Int) : p_spec_EnergiesIn p_Wide p_High l_p_Lights levels = (bif !(p_spec_l04Is p_Wide p_High l_p_Lights) then ([], false) else (bif !(p_spec_l04Levels levels) then ([], false) else (p_spec_EnergiesIn_l1 p_Wide p_High l_p_Lights levels (Int.toNat (levels - (1 : Int) + 1) + 1) ([] : List Nat) (1 : Int)))) := rfl
def T_spec_EnergiesIn (p_Wide : Int) (p_High : Int) (p_Lights_a : Option Addr) (p_Lights_n : Nat) (p_Lights_e : Nat) (levels : Int) (H : AHeap) (K : (Option Addr) → Nat → Nat → Bool → AHeap → Prop) : Prop := ∃ (l_p_Lights : List Nat), IsL fF H p_Lights_a p_Lights_n l_p_Lights ∧ l_p_Lights.length < 1073741824 ∧ ((∀ (r1_a : Option Addr) (r1_n r1_e : Nat), ∀ H' : AHeap, Grow H H' → IsL fF H' r1_a r1_n ((p_spec_EnergiesIn p_Wide p_High l_p_Lights levels).1) → K r1_a r1_n r1_e ((p_spec_EnergiesIn p_Wide p_High l_p_Lights levels).2) H'))
theorem T_spec_EnergiesIn_i {p_Wide : Int} {p_High : Int} {p_Lights_a : Option Addr} {p_Lights_n : Nat} {p_Lights_e : Nat} {levels : Int} {H : AHeap} {K : (Option Addr) → Nat → Nat → Bool → AHeap → Prop} (h : ∃ (l_p_Lights : List Nat), IsL fF H p_Lights_a p_Lights_n l_p_Lights ∧ l_p_Lights.length < 1073741824 ∧ ((∀ (r1_a : Option Addr) (r1_n r1_e : Nat), ∀ H' : AHeap, Grow H H' → IsL fF H' r1_a r1_n ((p_spec_EnergiesIn p_Wide p_High l_p_Lights levels).1) → K r1_a r1_n r1_e ((p_spec_EnergiesIn p_Wide p_High l_p_Lights levels).2) H'))) : T_spec_EnergiesIn p_Wide p_High p_Lights_a p_Lights_n p_Lights_e levels H K := h
theorem spec_EnergiesIn_len2 {N : Nat} (W H : Int) (L : List Nat) (levels level : Int) (vo : List Nat) (k : List Nat → Int → List Nat × Bool) : ∀ (μ : Nat) (o : List Nat) (b : Int), (∀ o' b', o'.length ≤ o.length + (4 - b).toNat → (k o' b').1.length ≤ N) → (p_spec_EnergiesIn_l2 W H L levels vo level k μ o b).1.length ≤ N := by
  intro μ
  induction μ with
  | zero => intro o b _; exact Nat.zero_le _
  | succ μ ih =>
    intro o b hk
    rw [p_spec_EnergiesIn_l2_s]
    by_cases h : b ≤ 3
    · rw [decide_eq_true h, cond_true]
      refine ih _ _ fun o' b' ho => hk o' b' ?_
      rw [List.length_append, List.length_singleton] at ho
      omega
    · rw [decide_eq_false h, cond_false]
      exact hk o b (by omega)
theorem spec_EnergiesIn_len1 (W H : Int) (L : List Nat) (levels : Int) (hl : levels ≤ 4) : ∀ (μ : Nat) (o : List Nat) (l : Int), o.length + 3 * (5 - l).toNat ≤ 12 → (p_spec_EnergiesIn_l1 W H L levels μ o l).1.length ≤ 13 := by
  intro μ
  induction μ with
  | zero => intro o l _; exact Nat.zero_le _
  | succ μ ih =>
    intro o l ho
    rw [p_spec_EnergiesIn_l1_s]
    by_cases h : l ≤ levels
    · rw [decide_eq_true h, cond_true]
      refine spec_EnergiesIn_len2 W H L levels l o _ _ o 1 fun o' b' ho' => ih o' (l + 1) ?_
      rw [show (4 - (1 : Int)).toNat = 3 by decide] at ho'
      omega
    · rw [decide_eq_false h, cond_false]
      rw [p_spec_l02List_eq]
      cases p_spec_l02Finite (o ++ [p_spec_l02Energy (p_spec_l04Band W H L levels 0).2.2]) with
      | false => exact Nat.zero_le _
      | true =>
        show (o ++ [p_spec_l02Energy (p_spec_l04Band W H L levels 0).2.2]).length ≤ 13
        rw [List.length_append, List.length_singleton]; omega
theorem spec_EnergiesIn_len (W H : Int) (L : List Nat) (levels : Int) : ((p_spec_EnergiesIn W H L levels).1.length : Int) ≤ 13 := by
  rw [p_spec_EnergiesIn_eq]
  cases p_spec_l04Is W H L with
  | false => show ((0 : Nat) : Int) ≤ 13; omega
  | true =>
    cases hL : p_spec_l04Levels levels with
    | false => show ((0 : Nat) : Int) ≤ 13; omega
    | true =>
      have := spec_EnergiesIn_len1 W H L levels (spec_l04Levels_t hL).2 (Int.toNat (levels - (1 : Int) + 1) + 1) [] 1 (by decide)
      simp only [Bool.not_true, cond_false]
      omega
/-! spec_EnergiesIn: function 38 -/
def E_spec_EnergiesIn : Env := envOf [(89, S_spec_l04Is), (90, S_spec_l04Levels), (91, S_spec_l04Band), (92, S_spec_l02Energy), (93, S_spec_l02List)]
def F_spec_EnergiesIn : List Value → AHeap → (Value → AHeap → Prop) → Prop
  | [.agg ⟨[.int .i64 p_Wide, .int .i64 p_High, .slice p_Lights_a p_Lights_n p_Lights_e]⟩, .int .i64 levels], H, K => T_spec_EnergiesIn p_Wide p_High p_Lights_a p_Lights_n p_Lights_e levels H fun (r1_a : Option Addr) (r1_n : Nat) (r1_e : Nat) (r2 : Bool) (H' : AHeap) => K (.tuple #[.slice r1_a r1_n r1_e, .bool r2]) H'
  | _, _, _ => False
def S_spec_EnergiesIn : FSpec := { F := F_spec_EnergiesIn, quiet := false, tame := true }
theorem spec_EnergiesIn_vc (p_Wide : Int) (p_High : Int) (p_Lights_a : Option Addr) (p_Lights_n : Nat) (p_Lights_e : Nat) (levels : Int) (H : AHeap) (K : Value → AHeap → Prop) : bodyK Try.prog E_spec_EnergiesIn Try.f38 [.agg #[.int .i64 p_Wide, .int .i64 p_High, .slice p_Lights_a p_Lights_n p_Lights_e], .int .i64 levels] H K =
  (Al [.int .i64 p_Wide, .int .i64 p_High, .slice p_Lights_a p_Lights_n p_Lights_e] H fun b1 H1 => T_spec_l04Is b1 H1 fun (r1 : Bool) (H2 : AHeap) => Br (!r1) (K (.tuple #[.slice none 0 0, .bool false]) H2) (T_spec_l04Levels levels H2 fun (r2 : Bool) (H3 : AHeap) => Br (!r2) (K (.tuple #[.slice none 0 0, .bool false]) H3) (Al [] H3 fun b2 H4 => loopK (exK Try.prog E_spec_EnergiesIn (cl (cl (cr (cl (cr (cr (cr (bodyC Try.f38))))))))) [.agg #[.int .i64 p_Wide, .int .i64 p_High, .slice p_Lights_a p_Lights_n p_Lights_e], .int .i64 levels, .pointer (some ⟨b1, 0, none⟩), undef, .slice none 0 0, .bool false, .slice (some ⟨b2, 0, none⟩) 0 1, .int .i64 1, undef, undef, undef, .bool r1, .bool (!r1), .bool false, .int .i64 levels, .bool r2, .bool (!r2), .bool (!r2), .slice (some ⟨b2, 0, none⟩) 0 1, undef, undef, undef, undef, undef, undef, undef, undef, undef, undef, undef, undef, undef, undef, undef, undef, undef, undef, undef, undef, undef, undef, undef, undef, undef, undef, undef, undef, undef] H4 (blockQ 0 (seqQ (exK Try.prog E_spec_EnergiesIn (cr (cr (cr (cr (bodyC Try.f38)))))) (retK Try.prog Try.f38 K)))))) := by kernel_rfl
theorem spec_EnergiesIn_r1 (b1 : Nat) (b2 : Nat) (levels : Int) (p_High : Int) (p_Lights_a : Option Addr) (p_Lights_e : Nat) (p_Lights_n : Nat) (p_Wide : Int) (r1 : Bool) (r2 : Bool) (vout_a : Option Addr) (vout_n : Nat) (vout_e : Nat) (level : Int) (g8 g9 g19 g20 g21 g22 g23 g24 g25 g26 g27 g28 g29 g30 g31 g32 g33 g34 g35 g36 : Value) (H : AHeap) (R : Post) : exK Try.prog E_spec_EnergiesIn (cl (cl (cr (cl (cr (cr (cr (bodyC Try.f38)))))))) [.agg #[.int .i64 p_Wide, .int .i64 p_High, .slice p_Lights_a p_Lights_n p_Lights_e], .int .i64 levels, .pointer (some ⟨b1, 0, none⟩), undef, .slice none 0 0, .bool false, .slice vout_a vout_n vout_e, .int .i64 level, g8, g9, undef, .bool r1, .bool (!r1), .bool false, .int .i64 levels, .bool r2, .bool (!r2), .bool (!r2), .slice (some ⟨b2, 0, none⟩) 0 1, g19, g20, g21, g22, g23, g24, g25, g26, g27, g28, g29, g30, g31, g32, g33, g34, g35, g36, undef, undef, undef, undef, undef, undef, undef, undef, undef, undef, undef] H R =
  (Br (decide ((level : Int) ≤ levels)) (loopK (exK Try.prog E_spec_EnergiesIn (cl (cl (cr (cl (cl (cr (cl (cl (cr (cl (cr (cr (cr (bodyC Try.f38))))))))))))))) [.agg #[.int .i64 p_Wide, .int .i64 p_High, .slice p_Lights_a p_Lights_n p_Lights_e], .int .i64 levels, .pointer (some ⟨b1, 0, none⟩), undef, .slice none 0 0, .bool false, .slice vout_a vout_n vout_e, .int .i64 level, .int .i64 1, g9, undef, .bool r1, .bool (!r1), .bool false, .int .i64 levels, .bool r2, .bool (!r2), .bool (!r2), .slice (some ⟨b2, 0, none⟩) 0 1, .int .i64 level, .int .i64 levels, .bool (decide ((level : Int) ≤ levels)), g22, g23, g24, g25, g26, g27, g28, g29, g30, g31, g32, g33, g34, g35, g36, undef, undef, undef, undef, undef, undef, undef, undef, undef, undef, undef] H (blockQ 2 (blockQ 1 (seqQ (exK Try.prog E_spec_EnergiesIn (cr (cr (cl (cl (cr (cl (cr (cr (cr (bodyC Try.f38))))))))))) (R))))) (R (.exit 0) [.agg #[.int .i64 p_Wide, .int .i64 p_High, .slice p_Lights_a p_Lights_n p_Lights_e], .int .i64 levels, .pointer (some ⟨b1, 0, none⟩), undef, .slice none 0 0, .bool false, .slice vout_a vout_n vout_e, .int .i64 level, g8, g9, undef, .bool r1, .bool (!r1), .bool false, .int .i64 levels, .bool r2, .bool (!r2), .bool (!r2), .slice (some ⟨b2, 0, none⟩) 0 1, .int .i64 level, .int .i64 levels, .bool (decide ((level : Int) ≤ levels)), g22, g23, g24, g25, g26, g27, g28, g29, g30, g31, g32, g33, g34, g35, g36, undef, undef, undef, undef, undef, undef, undef, undef, undef, undef, undef] H)) := by kernel_rfl
def spec_EnergiesIn_I1 (b1 : Nat) (b2 : Nat) (levels : Int) (p_High : Int) (p_Lights_a : Option Addr) (p_Lights_e : Nat) (p_Lights_n : Nat) (p_Wide : Int) (r1 : Bool) (r2 : Bool) (Inv : Nat → (Option Addr) → Nat → Nat → Int → AHeap → Prop) : Nat → List Value → AHeap → Prop := fun μ tm H => ∃ (vout_a : Option Addr), ∃ (vout_n : Nat), ∃ (vout_e : Nat), ∃ (level : Int), ∃ g8 g9 g19 g20 g21 g22 g23 g24 g25 g26 g27 g28 g29 g30 g31 g32 g33 g34 g35 g36, tm = [.agg #[.int .i64 p_Wide, .int .i64 p_High, .slice p_Lights_a p_Lights_n p_Lights_e], .int .i64 levels, .pointer (some ⟨b1, 0, none⟩), undef, .slice none 0 0, .bool false, .slice vout_a vout_n vout_e, .int .i64 level, g8, g9, undef, .bool r1, .bool (!r1), .bool false, .int .i64 levels, .bool r2, .bool (!r2), .bool (!r2), .slice (some ⟨b2, 0, none⟩) 0 1, g19, g20, g21, g22, g23, g24, g25, g26, g27, g28, g29, g30, g31, g32, g33, g34, g35, g36, undef, undef, undef, undef, undef, undef, undef, undef, undef, undef, undef] ∧ Inv μ vout_a vout_n vout_e level H
theorem spec_EnergiesIn_L1 (b1 : Nat) (b2 : Nat) (levels : Int) (p_High : Int) (p_Lights_a : Option Addr) (p_Lights_e : Nat) (p_Lights_n : Nat) (p_Wide : Int) (r1 : Bool) (r2 : Bool) {Q : Post} (Inv : Nat → (Option Addr) → Nat → Nat → Int → AHeap → Prop) (ν : Nat) (vout_a : Option Addr) (vout_n : Nat) (vout_e : Nat) (level : Int) (g8 g9 g19 g20 g21 g22 g23 g24 g25 g26 g27 g28 g29 g30 g31 g32 g33 g34 g35 g36 : Value) (H : AHeap) (h0 : Inv ν vout_a vout_n vout_e level H)
    (hs : ∀ (μ : Nat) (vout_a : Option Addr) (vout_n : Nat) (vout_e : Nat) (level : Int) (g8 g9 g19 g20 g21 g22 g23 g24 g25 g26 g27 g28 g29 g30 g31 g32 g33 g34 g35 g36 : Value) (H : AHeap), Inv μ vout_a vout_n vout_e level H → exK Try.prog E_spec_EnergiesIn (cl (cl (cr (cl (cr (cr (cr (bodyC Try.f38)))))))) [.agg #[.int .i64 p_Wide, .int .i64 p_High, .slice p_Lights_a p_Lights_n p_Lights_e], .int .i64 levels, .pointer (some ⟨b1, 0, none⟩), undef, .slice none 0 0, .bool false, .slice vout_a vout_n vout_e, .int .i64 level, g8, g9, undef, .bool r1, .bool (!r1), .bool false, .int .i64 levels, .bool r2, .bool (!r2), .bool (!r2), .slice (some ⟨b2, 0, none⟩) 0 1, g19, g20, g21, g22, g23, g24, g25, g26, g27, g28, g29, g30, g31, g32, g33, g34, g35, g36, undef, undef, undef, undef, undef, undef, undef, undef, undef, undef, undef] H (loopQ (spec_EnergiesIn_I1 b1 b2 levels p_High p_Lights_a p_Lights_e p_Lights_n p_Wide r1 r2 Inv) μ Q)) : loopK (exK Try.prog E_spec_EnergiesIn (cl (cl (cr (cl (cr (cr (cr (bodyC Try.f38))))))))) [.agg #[.int .i64 p_Wide, .int .i64 p_High, .slice p_Lights_a p_Lights_n p_Lights_e], .int .i64 levels, .pointer (some ⟨b1, 0, none⟩), undef, .slice none 0 0, .bool false, .slice vout_a vout_n vout_e, .int .i64 level, g8, g9, undef, .bool r1, .bool (!r1), .bool false, .int .i64 levels, .bool r2, .bool (!r2), .bool (!r2), .slice (some ⟨b2, 0, none⟩) 0 1, g19, g20, g21, g22, g23, g24, g25, g26, g27, g28, g29, g30, g31, g32, g33, g34, g35, g36, undef, undef, undef, undef, undef, undef, undef, undef, undef, undef, undef] H Q :=
  ⟨spec_EnergiesIn_I1 b1 b2 levels p_High p_Lights_a p_Lights_e p_Lights_n p_Wide r1 r2 Inv, ν, ⟨vout_a, vout_n, vout_e, level, g8, g9, g19, g20, g21, g22, g23, g24, g25, g26, g27, g28, g29, g30, g31, g32, g33, g34, g35, g36, rfl, h0⟩, fun μ tm H h => by obtain ⟨vout_a, vout_n, vout_e, level, g8, g9, g19, g20, g21, g22, g23, g24, g25, g26, g27, g28, g29, g30, g31, g32, g33, g34, g35, g36, rfl, hI⟩ := h; exact hs μ vout_a vout_n vout_e level g8 g9 g19 g20 g21 g22 g23 g24 g25 g26 g27 g28 g29 g30 g31 g32 g33 g34 g35 g36 H hI⟩
theorem spec_EnergiesIn_n1 {b1 : Nat} {b2 : Nat} {levels : Int} {p_High : Int} {p_Lights_a : Option Addr} {p_Lights_e : Nat} {p_Lights_n : Nat} {p_Wide : Int} {r1 : Bool} {r2 : Bool} {Q : Post} {Inv : Nat → (Option Addr) → Nat → Nat → Int → AHeap → Prop} {μ : Nat} (μ' : Nat) {vout_a : Option Addr} {vout_n : Nat} {vout_e : Nat} {level : Int} {g8 g9 g19 g20 g21 g22 g23 g24 g25 g26 g27 g28 g29 g30 g31 g32 g33 g34 g35 g36 : Value} {H : AHeap} (hm : μ' < μ) (hI : Inv μ' vout_a vout_n vout_e level H) : loopQ (spec_EnergiesIn_I1 b1 b2 levels p_High p_Lights_a p_Lights_e p_Lights_n p_Wide r1 r2 Inv) μ Q .normal [.agg #[.int .i64 p_Wide, .int .i64 p_High, .slice p_Lights_a p_Lights_n p_Lights_e], .int .i64 levels, .pointer (some ⟨b1, 0, none⟩), undef, .slice none 0 0, .bool false, .slice vout_a vout_n vout_e, .int .i64 level, g8, g9, undef, .bool r1, .bool (!r1), .bool false, .int .i64 levels, .bool r2, .bool (!r2), .bool (!r2), .slice (some ⟨b2, 0, none⟩) 0 1, g19, g20, g21, g22, g23, g24, g25, g26, g27, g28, g29, g30, g31, g32, g33, g34, g35, g36, undef, undef, undef, undef, undef, undef, undef, undef, undef, undef, undef] H := ⟨μ', hm, vout_a, vout_n, vout_e, level, g8, g9, g19, g20, g21, g22, g23, g24, g25, g26, g27, g28, g29, g30, g31, g32, g33, g34, g35, g36, rfl, hI⟩
theorem spec_EnergiesIn_x1_0 (b1 : Nat) (b2 : Nat) (levels : Int) (p_High : Int) (p_Lights_a : Option Addr) (p_Lights_e : Nat) (p_Lights_n : Nat) (p_Wide : Int) (r1 : Bool) (r2 : Bool) (vout_a : Option Addr) (vout_n : Nat) (vout_e : Nat) (level : Int) (g8 g9 g19 g20 g21 g22 g23 g24 g25 g26 g27 g28 g29 g30 g31 g32 g33 g34 g35 g36 : Value) (H : AHeap) (K : Value → AHeap → Prop)  {I : Nat → List Value → AHeap → Prop} {μ : Nat} : loopQ I μ (blockQ 0 (seqQ (exK Try.prog E_spec_EnergiesIn (cr (cr (cr (cr (bodyC Try.f38)))))) (retK Try.prog Try.f38 K))) (.exit 0) [.agg #[.int .i64 p_Wide, .int .i64 p_High, .slice p_Lights_a p_Lights_n p_Lights_e], .int .i64 levels, .pointer (some ⟨b1, 0, none⟩), undef, .slice none 0 0, .bool false, .slice vout_a vout_n vout_e, .int .i64 level, g8, g9, undef, .bool r1, .bool (!r1), .bool false, .int .i64 levels, .bool r2, .bool (!r2), .bool (!r2), .slice (some ⟨b2, 0, none⟩) 0 1, g19, g20, g21, g22, g23, g24, g25, g26, g27, g28, g29, g30, g31, g32, g33, g34, g35, g36, undef, undef, undef, undef, undef, undef, undef, undef, undef, undef, undef] H =
  (T_spec_l04Band b1 levels 0 H fun (r8 : Int) (r9 : Int) (a2 : Option Addr) (r10 : Nat) (r11 : Nat) (H11 : AHeap) => Al [.int .i64 0, .int .i64 0, .slice none 0 0] H11 fun b6 H12 => isOwn H12 b6 ∧ (∃ l, rdN H12 b6 0 3 = some l) ∧ Lt (setN H12 b6 0 [.int .i64 r8, .int .i64 r9, .slice a2 r10 r11]) fun H13 => ∃ x2_a : Option Addr, ∃ x2_n : Nat, ∃ x2_e : Nat,  rdC H13 b6 2 = some (.slice x2_a x2_n x2_e) ∧ T_spec_l02Energy x2_a x2_n x2_e H13 fun (r12 : Nat) (H14 : AHeap) => Al [.float .f32 r12] H14 fun b7 H15 => ∃ o2 w2 : List Value, ownB H15 vout_a vout_n vout_e 1 = some o2 ∧ rdS H15 (some ⟨b7, 0, none⟩) (1 * 1) = some w2 ∧ ((vout_a : Option Addr) = none → 0 < (1 : Nat)) ∧ (vout_n : Nat) + 1 < most ∧ Ap H15 (killB H15 vout_a ++ [some ⟨o2 ++ w2, true⟩]) fun b8 H16 => T_spec_l02List (some ⟨b8, 0, none⟩) (vout_n + 1) 1 H16 fun (a3 : Option Addr) (r13 : Nat) (r14 : Nat) (r15 : Bool) (H17 : AHeap) => K (.tuple #[.slice a3 r13 r14, .bool r15]) H17) := by kernel_rfl
theorem spec_EnergiesIn_r2 (b1 : Nat) (b2 : Nat) (g22 : Value) (g23 : Value) (level : Int) (levels : Int) (p_High : Int) (p_Lights_a : Option Addr) (p_Lights_e : Nat) (p_Lights_n : Nat) (p_Wide : Int) (r1 : Bool) (r2 : Bool) (vout_a : Option Addr) (vout_n : Nat) (vout_e : Nat) (band : Int) (g9 g24 g25 g26 g27 g28 g29 g30 g31 g32 g33 g34 g35 g36 : Value) (H : AHeap) (R : Post) : exK Try.prog E_spec_EnergiesIn (cl (cl (cr (cl (cl (cr (cl (cl (cr (cl (cr (cr (cr (bodyC Try.f38)))))))))))))) [.agg #[.int .i64 p_Wide, .int .i64 p_High, .slice p_Lights_a p_Lights_n p_Lights_e], .int .i64 levels, .pointer (some ⟨b1, 0, none⟩), undef, .slice none 0 0, .bool false, .slice vout_a vout_n vout_e, .int .i64 level, .int .i64 band, g9, undef, .bool r1, .bool (!r1), .bool false, .int .i64 levels, .bool r2, .bool (!r2), .bool (!r2), .slice (some ⟨b2, 0, none⟩) 0 1, .int .i64 level, .int .i64 levels, .bool (decide ((level : Int) ≤ levels)), g22, g23, g24, g25, g26, g27, g28, g29, g30, g31, g32, g33, g34, g35, g36, undef, undef, undef, undef, undef, undef, undef, undef, undef, undef, undef] H R =
  (Br (decide ((band : Int) ≤ 3)) (T_spec_l04Band b1 level band H fun (r3 : Int) (r4 : Int) (a1 : Option Addr) (r5 : Nat) (r6 : Nat) (H5 : AHeap) => Al [.int .i64 0, .int .i64 0, .slice none 0 0] H5 fun b3 H6 => isOwn H6 b3 ∧ (∃ l, rdN H6 b3 0 3 = some l) ∧ Lt (setN H6 b3 0 [.int .i64 r3, .int .i64 r4, .slice a1 r5 r6]) fun H7 => ∃ x1_a : Option Addr, ∃ x1_n : Nat, ∃ x1_e : Nat,  rdC H7 b3 2 = some (.slice x1_a x1_n x1_e) ∧ T_spec_l02Energy x1_a x1_n x1_e H7 fun (r7 : Nat) (H8 : AHeap) => Al [.float .f32 r7] H8 fun b4 H9 => ∃ o1 w1 : List Value, ownB H9 vout_a vout_n vout_e 1 = some o1 ∧ rdS H9 (some ⟨b4, 0, none⟩) (1 * 1) = some w1 ∧ ((vout_a : Option Addr) = none → 0 < (1 : Nat)) ∧ (vout_n : Nat) + 1 < most ∧ Ap H9 (killB H9 vout_a ++ [some ⟨o1 ++ w1, true⟩]) fun b5 H10 => R .normal [.agg #[.int .i64 p_Wide, .int .i64 p_High, .slice p_Lights_a p_Lights_n p_Lights_e], .int .i64 levels, .pointer (some ⟨b1, 0, none⟩), undef, .slice none 0 0, .bool false, .slice (some ⟨b5, 0, none⟩) (vout_n + 1) 1, .int .i64 level, .int .i64 (IntKind.wrap .i64 (band + 1)), .pointer (some ⟨b3, 0, none⟩), undef, .bool r1, .bool (!r1), .bool false, .int .i64 levels, .bool r2, .bool (!r2), .bool (!r2), .slice (some ⟨b2, 0, none⟩) 0 1, .int .i64 level, .int .i64 levels, .bool (decide ((level : Int) ≤ levels)), g22, g23, .int .i64 band, .bool (decide ((band : Int) ≤ 3)), .int .i64 band, .int .i64 (IntKind.wrap .i64 (band + 1)), .int .i64 level, .int .i64 band, .agg #[.int .i64 r3, .int .i64 r4, .slice a1 r5 r6], .slice vout_a vout_n vout_e, .pointer (some ⟨b3, 2, none⟩), .slice x1_a x1_n x1_e, .float .f32 r7, .slice (some ⟨b4, 0, none⟩) 1 1, .slice (some ⟨b5, 0, none⟩) (vout_n + 1) 1, undef, undef, undef, undef, undef, undef, undef, undef, undef, undef, undef] H10) (R (.exit 2) [.agg #[.int .i64 p_Wide, .int .i64 p_High, .slice p_Lights_a p_Lights_n p_Lights_e], .int .i64 levels, .pointer (some ⟨b1, 0, none⟩), undef, .slice none 0 0, .bool false, .slice vout_a vout_n vout_e, .int .i64 level, .int .i64 band, g9, undef, .bool r1, .bool (!r1), .bool false, .int .i64 levels, .bool r2, .bool (!r2), .bool (!r2), .slice (some ⟨b2, 0, none⟩) 0 1, .int .i64 level, .int .i64 levels, .bool (decide ((level : Int) ≤ levels)), g22, g23, .int .i64 band, .bool (decide ((band : Int) ≤ 3)), g26, g27, g28, g29, g30, g31, g32, g33, g34, g35, g36, undef, undef, undef, undef, undef, undef, undef, undef, undef, undef, undef] H)) := by kernel_rfl
def spec_EnergiesIn_I2 (b1 : Nat) (b2 : Nat) (g22 : Value) (g23 : Value) (level : Int) (levels : Int) (p_High : Int) (p_Lights_a : Option Addr) (p_Lights_e : Nat) (p_Lights_n : Nat) (p_Wide : Int) (r1 : Bool) (r2 : Bool) (Inv : Nat → (Option Addr) → Nat → Nat → Int → AHeap → Prop) : Nat → List Value → AHeap → Prop := fun μ tm H => ∃ (vout_a : Option Addr), ∃ (vout_n : Nat), ∃ (vout_e : Nat), ∃ (band : Int), ∃ g9 g24 g25 g26 g27 g28 g29 g30 g31 g32 g33 g34 g35 g36, tm = [.agg #[.int .i64 p_Wide, .int .i64 p_High, .slice p_Lights_a p_Lights_n p_Lights_e], .int .i64 levels, .pointer (some ⟨b1, 0, none⟩), undef, .slice none 0 0, .bool false, .slice vout_a vout_n vout_e, .int .i64 level, .int .i64 band, g9, undef, .bool r1, .bool (!r1), .bool false, .int .i64 levels, .bool r2, .bool (!r2), .bool (!r2), .slice (some ⟨b2, 0, none⟩) 0 1, .int .i64 level, .int .i64 levels, .bool (decide ((level : Int) ≤ levels)), g22, g23, g24, g25, g26, g27, g28, g29, g30, g31, g32, g33, g34, g35, g36, undef, undef, undef, undef, undef, undef, undef, undef, undef, undef, undef] ∧ Inv μ vout_a vout_n vout_e band H
theorem spec_EnergiesIn_L2 (b1 : Nat) (b2 : Nat) (g22 : Value) (g23 : Value) (level : Int) (levels : Int) (p_High : Int) (p_Lights_a : Option Addr) (p_Lights_e : Nat) (p_Lights_n : Nat) (p_Wide : Int) (r1 : Bool) (r2 : Bool) {Q : Post} (Inv : Nat → (Option Addr) → Nat → Nat → Int → AHeap → Prop) (ν : Nat) (vout_a : Option Addr) (vout_n : Nat) (vout_e : Nat) (band : Int) (g9 g24 g25 g26 g27 g28 g29 g30 g31 g32 g33 g34 g35 g36 : Value) (H : AHeap) (h0 : Inv ν vout_a vout_n vout_e band H)
    (hs : ∀ (μ : Nat) (vout_a : Option Addr) (vout_n : Nat) (vout_e : Nat) (band : Int) (g9 g24 g25 g26 g27 g28 g29 g30 g31 g32 g33 g34 g35 g36 : Value) (H : AHeap), Inv μ vout_a vout_n vout_e band H → exK Try.prog E_spec_EnergiesIn (cl (cl (cr (cl (cl (cr (cl (cl (cr (cl (cr (cr (cr (bodyC Try.f38)))))))))))))) [.agg #[.int .i64 p_Wide, .int .i64 p_High, .slice p_Lights_a p_Lights_n p_Lights_e], .int .i64 levels, .pointer (some ⟨b1, 0, none⟩), undef, .slice none 0 0, .bool false, .slice vout_a vout_n vout_e, .int .i64 level, .int .i64 band, g9, undef, .bool r1, .bool (!r1), .bool false, .int .i64 levels, .bool r2, .bool (!r2), .bool (!r2), .slice (some ⟨b2, 0, none⟩) 0 1, .int .i64 level, .int .i64 levels, .bool (decide ((level : Int) ≤ levels)), g22, g23, g24, g25, g26, g27, g28, g29, g30, g31, g32, g33, g34, g35, g36, undef, undef, undef, undef, undef, undef, undef, undef, undef, undef, undef] H (loopQ (spec_EnergiesIn_I2 b1 b2 g22 g23 level levels p_High p_Lights_a p_Lights_e p_Lights_n p_Wide r1 r2 Inv) μ Q)) : loopK (exK Try.prog E_spec_EnergiesIn (cl (cl (cr (cl (cl (cr (cl (cl (cr (cl (cr (cr (cr (bodyC Try.f38))))))))))))))) [.agg #[.int .i64 p_Wide, .int .i64 p_High, .slice p_Lights_a p_Lights_n p_Lights_e], .int .i64 levels, .pointer (some ⟨b1, 0, none⟩), undef, .slice none 0 0, .bool false, .slice vout_a vout_n vout_e, .int .i64 level, .int .i64 band, g9, undef, .bool r1, .bool (!r1), .bool false, .int .i64 levels, .bool r2, .bool (!r2), .bool (!r2), .slice (some ⟨b2, 0, none⟩) 0 1, .int .i64 level, .int .i64 levels, .bool (decide ((level : Int) ≤ levels)), g22, g23, g24, g25, g26, g27, g28, g29, g30, g31, g32, g33, g34, g35, g36, undef, undef, undef, undef, undef, undef, undef, undef, undef, undef, undef] H Q :=
  ⟨spec_EnergiesIn_I2 b1 b2 g22 g23 level levels p_High p_Lights_a p_Lights_e p_Lights_n p_Wide r1 r2 Inv, ν, ⟨vout_a, vout_n, vout_e, band, g9, g24, g25, g26, g27, g28, g29, g30, g31, g32, g33, g34, g35, g36, rfl, h0⟩, fun μ tm H h => by obtain ⟨vout_a, vout_n, vout_e, band, g9, g24, g25, g26, g27, g28, g29, g30, g31, g32, g33, g34, g35, g36, rfl, hI⟩ := h; exact hs μ vout_a vout_n vout_e band g9 g24 g25 g26 g27 g28 g29 g30 g31 g32 g33 g34 g35 g36 H hI⟩
theorem spec_EnergiesIn_n2 {b1 : Nat} {b2 : Nat} {g22 : Value} {g23 : Value} {level : Int} {levels : Int} {p_High : Int} {p_Lights_a : Option Addr} {p_Lights_e : Nat} {p_Lights_n : Nat} {p_Wide : Int} {r1 : Bool} {r2 : Bool} {Q : Post} {Inv : Nat → (Option Addr) → Nat → Nat → Int → AHeap → Prop} {μ : Nat} (μ' : Nat) {vout_a : Option Addr} {vout_n : Nat} {vout_e : Nat} {band : Int} {g9 g24 g25 g26 g27 g28 g29 g30 g31 g32 g33 g34 g35 g36 : Value} {H : AHeap} (hm : μ' < μ) (hI : Inv μ' vout_a vout_n vout_e band H) : loopQ (spec_EnergiesIn_I2 b1 b2 g22 g23 level levels p_High p_Lights_a p_Lights_e p_Lights_n p_Wide r1 r2 Inv) μ Q .normal [.agg #[.int .i64 p_Wide, .int .i64 p_High, .slice p_Lights_a p_Lights_n p_Lights_e], .int .i64 levels, .pointer (some ⟨b1, 0, none⟩), undef, .slice none 0 0, .bool false, .slice vout_a vout_n vout_e, .int .i64 level, .int .i64 band, g9, undef, .bool r1, .bool (!r1), .bool false, .int .i64 levels, .bool r2, .bool (!r2), .bool (!r2), .slice (some ⟨b2, 0, none⟩) 0 1, .int .i64 level, .int .i64 levels, .bool (decide ((level : Int) ≤ levels)), g22, g23, g24, g25, g26, g27, g28, g29, g30, g31, g32, g33, g34, g35, g36, undef, undef, undef, undef, undef, undef, undef, undef, undef, undef, undef] H := ⟨μ', hm, vout_a, vout_n, vout_e, band, g9, g24, g25, g26, g27, g28, g29, g30, g31, g32, g33, g34, g35, g36, rfl, hI⟩
theorem spec_EnergiesIn_x2_2 (b1 : Nat) (b2 : Nat) (g22 : Value) (g23 : Value) (level : Int) (levels : Int) (p_High : Int) (p_Lights_a : Option Addr) (p_Lights_e : Nat) (p_Lights_n : Nat) (p_Wide : Int) (r1 : Bool) (r2 : Bool) (vout_a : Option Addr) (vout_n : Nat) (vout_e : Nat) (band : Int) (g9 g24 g25 g26 g27 g28 g29 g30 g31 g32 g33 g34 g35 g36 : Value) (H : AHeap)  (R : Post) {I : Nat → List Value → AHeap → Prop} {μ : Nat} : loopQ I μ (blockQ 2 (blockQ 1 (seqQ (exK Try.prog E_spec_EnergiesIn (cr (cr (cl (cl (cr (cl (cr (cr (cr (bodyC Try.f38))))))))))) (R)))) (.exit 2) [.agg #[.int .i64 p_Wide, .int .i64 p_High, .slice p_Lights_a p_Lights_n p_Lights_e], .int .i64 levels, .pointer (some ⟨b1, 0, none⟩), undef, .slice none 0 0, .bool false, .slice vout_a vout_n vout_e, .int .i64 level, .int .i64 band, g9, undef, .bool r1, .bool (!r1), .bool false, .int .i64 levels, .bool r2, .bool (!r2), .bool (!r2), .slice (some ⟨b2, 0, none⟩) 0 1, .int .i64 level, .int .i64 levels, .bool (decide ((level : Int) ≤ levels)), g22, g23, g24, g25, g26, g27, g28, g29, g30, g31, g32, g33, g34, g35, g36, undef, undef, undef, undef, undef, undef, undef, undef, undef, undef, undef] H =
  (R .normal [.agg #[.int .i64 p_Wide, .int .i64 p_High, .slice p_Lights_a p_Lights_n p_Lights_e], .int .i64 levels, .pointer (some ⟨b1, 0, none⟩), undef, .slice none 0 0, .bool false, .slice vout_a vout_n vout_e, .int .i64 (IntKind.wrap .i64 (level + 1)), .int .i64 band, g9, undef, .bool r1, .bool (!r1), .bool false, .int .i64 levels, .bool r2, .bool (!r2), .bool (!r2), .slice (some ⟨b2, 0, none⟩) 0 1, .int .i64 level, .int .i64 levels, .bool (decide ((level : Int) ≤ levels)), .int .i64 level, .int .i64 (IntKind.wrap .i64 (level + 1)), g24, g25, g26, g27, g28, g29, g30, g31, g32, g33, g34, g35, g36, undef, undef, undef, undef, undef, undef, undef, undef, undef, undef, undef] H) := by kernel_rfl
theorem E_spec_EnergiesIn_ok : ∀ g, FnOk Try.prog g (E_spec_EnergiesIn g) := FnOk.envOf (by
  intro x hx
  simp only [List.mem_cons, List.not_mem_nil, or_false] at hx
  rcases hx with rfl | rfl | rfl | rfl | rfl
  · exact spec_l04Is_ok
  · exact spec_l04Levels_ok
  · exact spec_l04Band_ok
  · exact spec_l02Energy_ok
  · exact spec_l02List_ok)
set_option maxHeartbeats 1000000 in
theorem spec_EnergiesIn_main (p_Wide : Int) (p_High : Int) (p_Lights_a : Option Addr) (p_Lights_n : Nat) (p_Lights_e : Nat) (levels : Int) (H : AHeap) (K : Value → AHeap → Prop) (h : T_spec_EnergiesIn p_Wide p_High p_Lights_a p_Lights_n p_Lights_e levels H fun (r1_a : Option Addr) (r1_n : Nat) (r1_e : Nat) (r2 : Bool) (H' : AHeap) => K (.tuple #[.slice r1_a r1_n r1_e, .bool r2]) H') : bodyK Try.prog E_spec_EnergiesIn Try.f38 [.agg #[.int .i64 p_Wide, .int .i64 p_High, .slice p_Lights_a p_Lights_n p_Lights_e], .int .i64 levels] H K := by
  rw [spec_EnergiesIn_vc]
  obtain ⟨l_p_Lights, i_p_Lights, bd_223, hk⟩ := h
  obtain rfl := i_p_Lights.eqn
  have e : (p_spec_EnergiesIn p_Wide p_High l_p_Lights levels) = _ := rfl
  have e := e.trans (p_spec_EnergiesIn_eq p_Wide p_High l_p_Lights levels)
  have g0 := Grow.refl H
  refine Al.intro (fun b_1 H_1 hb_2 hl_3 g_4 o_5 => ?_)
  have l_7 := g_4.1
  have g_8 := g0.trans g_4
  have l_9 := g_8.1
  have w_222 := o_5.lt
  refine T_spec_l04Is_i ⟨p_Wide, p_High, p_Lights_a, l_p_Lights.length, p_Lights_e, _, ((o_5.rdN (Nat.le_of_ble_eq_true rfl)).trans rfl), (i_p_Lights.grow g_8), (by first | omega | (simp only [List.length_set, List.length_replicate, List.length_append, List.length_cons, List.length_nil, List.length_take, List.length_drop, marks_length]; done) | (simp only [List.length_set, List.length_replicate, List.length_append, List.length_cons, List.length_nil, List.length_take, List.length_drop, marks_length]; omega)), ?_⟩
  refine Br.intro (fun c_10 => ?_) (fun c_10 => ?_)
  · have e := e.trans (cond_t c_10)
    have c_10n := nf_of_t c_10
    rw [e] at hk
    exact hk _ _ _ H_1 g_8 (IsL.nil _ _ _)
  · have e := e.trans (cond_f c_10)
    have c_10n := nt_of_f c_10
    have c_10n' := spec_l04Is_t c_10n
    refine T_spec_l04Levels_i ?_
    refine Br.intro (fun c_11 => ?_) (fun c_11 => ?_)
    · have e := e.trans (cond_t c_11)
      have c_11n := nf_of_t c_11
      rw [e] at hk
      exact hk _ _ _ H_1 g_8 (IsL.nil _ _ _)
    · have e := e.trans (cond_f c_11)
      have c_11n := nt_of_f c_11
      have c_11n' := spec_l04Levels_t c_11n
      refine Al.intro (fun b_12 H_2 hb_13 hl_14 g_15 o_16 => ?_)
      have o_16 : Own H_2 b_12 ((([] : List Nat)).map fF) := o_16
      have l_18 := g_15.1
      have g_19 := g_8.trans g_15
      have l_20 := g_19.1
      have o_21 := o_5.grow g_15
      have w_22 := o_21.lt
      have w_221 := o_16.lt
      refine spec_EnergiesIn_L1 _ _ _ _ _ _ _ _ _ _ (fun (μ : Nat) (vout_a : Option Addr) (vout_n : Nat) (vout_e : Nat) (level : Int) (H_3 : AHeap) => ∃ (l_vout : List Nat), ∃ (b_23 : Nat), vout_a = some ⟨b_23, 0, none⟩ ∧ vout_n = l_vout.length ∧ vout_e = 1 ∧ Own H_3 b_23 (l_vout.map fF) ∧ Own H_3 b_1 ([.int .i64 p_Wide, .int .i64 p_High, .slice p_Lights_a l_p_Lights.length p_Lights_e]) ∧ (b_23 ≠ b_1) ∧ Grow H H_3 ∧ H.length ≤ b_23 ∧ (1 : Int) ≤ level ∧ ((level ≤ levels + 1 ∨ level ≤ (1 : Int))) ∧ (l_vout.length : Int) ≤ 3 * (level - 1) ∧ levels - level + 1 ≤ (μ : Int) ∧ p_spec_EnergiesIn p_Wide p_High l_p_Lights levels = p_spec_EnergiesIn_l1 p_Wide p_High l_p_Lights levels (μ + 1) l_vout level) (Int.toNat (levels - (1 : Int) + 1)) _ _ _ _ _ _ _ _ _ _ _ _ _ _ _ _ _ _ _ _ _ _ _ _ H_2 ?_ ?_
      · exact ⟨_, _, rfl, (by first | rfl | omega | (simp only [List.length_set]; done) | (simp only [List.length_set, List.length_replicate]; omega)), rfl, o_16, o_21, (by omega), g_19, (by omega), (by first | omega | (simp; done) | (simp; omega)), (by first | omega | (simp; done) | (simp; omega)), (by first | omega | (simp; done) | (simp; omega)), (by omega), e⟩
      · intro μ vout_a vout_n vout_e level g8 g9 g19 g20 g21 g22 g23 g24 g25 g26 g27 g28 g29 g30 g31 g32 g33 g34 g35 g36 H_3 hI
        obtain ⟨l_vout, b_23, rfl, rfl, rfl, o_24, o_25, n_26, g_27, l_28, v_29, v_30, v_31, hμ, e⟩ := hI
        rw [spec_EnergiesIn_r1]
        have e := e.trans (p_spec_EnergiesIn_l1_s p_Wide p_High l_p_Lights levels μ l_vout level)
        have w_32 := o_25.lt
        have w_33 := o_24.lt
        have l_34 := g_27.1
        refine Br.intro (fun c_35 => ?_) (fun c_35 => ?_)
        · have e := e.trans (cond_t c_35)
          have c_35' := of_decide_eq_true c_35
          refine spec_EnergiesIn_L2 _ _ _ _ _ _ _ _ _ _ _ _ _ (fun (μ2 : Nat) (vout_a : Option Addr) (vout_n : Nat) (vout_e : Nat) (band : Int) (H_4 : AHeap) => ∃ (l_vout_2 : List Nat), ∃ (b_36 : Nat), vout_a = some ⟨b_36, 0, none⟩ ∧ vout_n = l_vout_2.length ∧ vout_e = 1 ∧ Own H_4 b_36 (l_vout_2.map fF) ∧ Own H_4 b_1 ([.int .i64 p_Wide, .int .i64 p_High, .slice p_Lights_a l_p_Lights.length p_Lights_e]) ∧ (b_36 ≠ b_1) ∧ Grow H H_4 ∧ H.length ≤ b_36 ∧ (1 : Int) ≤ band ∧ ((band ≤ 3 + 1 ∨ band ≤ (1 : Int))) ∧ (l_vout_2.length : Int) ≤ 3 * (level - 1) + band - 1 ∧ 3 - band + 1 ≤ (μ2 : Int) ∧ p_spec_EnergiesIn p_Wide p_High l_p_Lights levels = p_spec_EnergiesIn_l2 p_Wide p_High l_p_Lights levels l_vout level (fun (l_vout_2 : List Nat) (band : Int) => (p_spec_EnergiesIn_l1 p_Wide p_High l_p_Lights levels μ l_vout_2 (level + 1))) (μ2 + 1) l_vout_2 band) (Int.toNat (3 - (1 : Int) + 1)) _ _ _ _ _ _ _ _ _ _ _ _ _ _ _ _ _ _ H_3 ?_ ?_
          · exact ⟨_, _, rfl, (by first | rfl | omega | (simp only [List.length_set]; done) | (simp only [List.length_set, List.length_replicate]; omega)), rfl, o_24, o_25, (by omega), g_27, (by omega), (by first | omega | (simp; done) | (simp; omega)), (by first | omega | (simp; done) | (simp; omega)), (by first | omega | (simp; done) | (simp; omega)), (by omega), e⟩
          · intro μ2 vout_a vout_n vout_e band g9 g24 g25 g26 g27 g28 g29 g30 g31 g32 g33 g34 g35 g36 H_4 hI
            obtain ⟨l_vout_2, b_36, rfl, rfl, rfl, o_37, o_38, n_39, g_40, l_41, v_42, v_43, v_44, hμ, e⟩ := hI
            rw [spec_EnergiesIn_r2]
            have e := e.trans (p_spec_EnergiesIn_l2_s p_Wide p_High l_p_Lights levels l_vout level (fun (l_vout_2 : List Nat) (band : Int) => (p_spec_EnergiesIn_l1 p_Wide p_High l_p_Lights levels μ l_vout_2 (level + 1))) μ2 l_vout_2 band)
            have w_45 := o_38.lt
            have w_46 := o_37.lt
            have l_47 := g_40.1
            refine Br.intro (fun c_48 => ?_) (fun c_48 => ?_)
            · have e := e.trans (cond_t c_48)
              have c_48' := of_decide_eq_true c_48
              refine T_spec_l04Band_i ⟨p_Wide, p_High, p_Lights_a, l_p_Lights.length, p_Lights_e, _, ((o_38.rdN (Nat.le_of_ble_eq_true rfl)).trans rfl), (i_p_Lights.grow g_40), (by first | omega | (simp only [List.length_set, List.length_replicate, List.length_append, List.length_cons, List.length_nil, List.length_take, List.length_drop, marks_length]; done) | (simp only [List.length_set, List.length_replicate, List.length_append, List.length_cons, List.length_nil, List.length_take, List.length_drop, marks_length]; omega)), (by first | assumption | omega | (simp; omega)), (by first | assumption | omega | (simp; omega)), (by first | assumption | omega | (simp; omega)), (by first | assumption | omega | (simp; omega)), (by first | assumption | omega | (simp; omega)), (by first | assumption | omega | (simp; omega)), (by first | assumption | omega | (simp; omega)), fun a_49 n_50 e_51 H_5 g_54 r_52 => ?_⟩
              have z_53 := l04Band_len p_Wide p_High l_p_Lights level band (by omega) (by omega) (by omega) (by omega)
              have l_55 := g_54.1
              have g_56 := g_40.trans g_54
              have l_57 := g_56.1
              have o_58 := o_38.grow g_54
              have w_59 := o_58.lt
              have o_60 := o_37.grow g_54
              have w_61 := o_60.lt
              obtain rfl := r_52.isL.eqn
              have u_62 := r_52.up
              have u_63 := r_52.lo
              refine Al.intro (fun b_65 H_6 hb_66 hl_67 g_68 o_69 => ?_)
              have l_71 := g_68.1
              have g_72 := g_56.trans g_68
              have l_73 := g_72.1
              have o_74 := o_58.grow g_68
              have w_75 := o_74.lt
              have o_76 := o_60.grow g_68
              have w_77 := o_76.lt
              have r_78 := r_52.grow g_68
              have w_125 := o_69.lt
              refine Lt.setN (n := 3) o_69 (Nat.le_of_ble_eq_true rfl) rfl (fun H_7 hl_79 o_81 k_80 => ?_)
              have o_81 : Own H_7 b_65 [.int .i64 ((p_spec_l04Band p_Wide p_High l_p_Lights level band).1), .int .i64 ((p_spec_l04Band p_Wide p_High l_p_Lights level band).2.1), .slice a_49 (((p_spec_l04Band p_Wide p_High l_p_Lights level band).2.2).length) e_51] := o_81
              have l_82 := k_80.1
              have g_83 := g_72.keep (b := b_65) (by omega) k_80
              have l_84 := g_83.1
              have o_85 := o_74.keep (by omega) k_80
              have w_86 := o_85.lt
              have o_87 := o_76.keep (by omega) k_80
              have w_88 := o_87.lt
              have r_89 := r_78.keep u_62 (by omega) k_80
              have w_124 := o_81.lt
              refine ⟨a_49, ((p_spec_l04Band p_Wide p_High l_p_Lights level band).2.2).length, e_51, (o_81.rdC _).trans rfl, ?_⟩
              refine T_spec_l02Energy_i ⟨_, r_89.isL, (by first | omega | (simp only [List.length_set, List.length_replicate, List.length_append, List.length_cons, List.length_nil, List.length_take, List.length_drop, marks_length]; done) | (simp only [List.length_set, List.length_replicate, List.length_append, List.length_cons, List.length_nil, List.length_take, List.length_drop, marks_length]; omega)), ?_⟩
              refine Al.intro (fun b_90 H_8 hb_91 hl_92 g_93 o_94 => ?_)
              have o_94 : Own H_8 b_90 (([((p_spec_l02Energy ((p_spec_l04Band p_Wide p_High l_p_Lights level band).2.2)))]).map fF) := o_94
              have l_96 := g_93.1
              have g_97 := g_83.trans g_93
              have l_98 := g_97.1
              have o_99 := o_85.grow g_93
              have w_100 := o_99.lt
              have o_101 := o_87.grow g_93
              have w_102 := o_101.lt
              have o_103 := o_81.grow g_93
              have w_104 := o_103.lt
              have r_105 := r_89.grow g_93
              have w_123 := o_94.lt
              refine ⟨_, _, o_101.ownB (by first | (simp only [List.length_map, List.length_cons, List.length_nil, List.length_append]; done) | (simp only [List.length_map, List.length_cons, List.length_nil, List.length_append]; omega)) rfl, (isl_rdS (o_94.isL (by first | rfl | omega | (simp only [List.length_set]; done) | (simp only [List.length_set, List.length_replicate]; omega)))), (fun h => by cases h), (by have := most_eq; omega), ?_⟩
              refine Ap.app o_101 rfl rfl (fun b_110 H_9 q_121 hl_106 o_107 k_108 => ?_)
              have o_107 := map_snoc o_107
              have l_111 := k_108.1
              have g_112 := g_97.keep (b := b_36) (by omega) k_108
              have l_113 := g_112.1
              have o_114 := o_99.keep (by omega) k_108
              have w_115 := o_114.lt
              have o_116 := o_103.keep (by omega) k_108
              have w_117 := o_116.lt
              have o_118 := o_94.keep (by omega) k_108
              have w_119 := o_118.lt
              have r_120 := r_105.keep u_62 (by omega) k_108
              have w_122 := o_107.lt
              rw [show IntKind.wrap .i64 (band + 1) = (band + 1) from wrap64 (by omega) (by omega)]
              refine spec_EnergiesIn_n2 (μ2 - 1) (by first | omega) ⟨_, _, rfl, (by first | (simp only [List.length_append, List.length_cons, List.length_nil]; done) | (simp only [List.length_append, List.length_cons, List.length_nil]; omega) | (simp only [List.length_append, List.length_cons, List.length_nil, List.length_take, List.length_drop]; omega)), rfl, o_107, o_114, (by omega), g_112, (by omega), (by first | omega | (simp only [List.length_append, List.length_cons, List.length_nil, List.length_set]; done) | (simp only [List.length_append, List.length_cons, List.length_nil, List.length_set]; omega)), (by first | omega | (simp only [List.length_append, List.length_cons, List.length_nil, List.length_set]; done) | (simp only [List.length_append, List.length_cons, List.length_nil, List.length_set]; omega)), (by first | omega | (simp only [List.length_append, List.length_cons, List.length_nil, List.length_set]; done) | (simp only [List.length_append, List.length_cons, List.length_nil, List.length_set]; omega)), (by first | omega), (by rw [show μ2 - 1 + 1 = μ2 from by first | omega]; exact e)⟩
            · have e := e.trans (cond_f c_48)
              have c_48' := of_decide_eq_false c_48
              rw [spec_EnergiesIn_x2_2]
              rw [show IntKind.wrap .i64 (level + 1) = (level + 1) from wrap64 (by omega) (by omega)]
              refine spec_EnergiesIn_n1 (μ - 1) (by first | omega) ⟨_, _, rfl, (by first | rfl | omega | (simp only [List.length_set]; done) | (simp only [List.length_set, List.length_replicate]; omega)), rfl, o_37, o_38, (by omega), g_40, (by omega), (by first | omega | (simp only [List.length_append, List.length_cons, List.length_nil, List.length_set]; done) | (simp only [List.length_append, List.length_cons, List.length_nil, List.length_set]; omega)), (by first | omega | (simp only [List.length_append, List.length_cons, List.length_nil, List.length_set]; done) | (simp only [List.length_append, List.length_cons, List.length_nil, List.length_set]; omega)), (by first | omega | (simp only [List.length_append, List.length_cons, List.length_nil, List.length_set]; done) | (simp only [List.length_append, List.length_cons, List.length_nil, List.length_set]; omega)), (by first | omega), (by rw [show μ - 1 + 1 = μ from by first | omega]; exact e)⟩
        · have e := e.trans (cond_f c_35)
          have c_35' := of_decide_eq_false c_35
          rw [spec_EnergiesIn_x1_0]
          refine T_spec_l04Band_i ⟨p_Wide, p_High, p_Lights_a, l_p_Lights.length, p_Lights_e, _, ((o_25.rdN (Nat.le_of_ble_eq_true rfl)).trans rfl), (i_p_Lights.grow g_27), (by first | omega | (simp only [List.length_set, List.length_replicate, List.length_append, List.length_cons, List.length_nil, List.length_take, List.length_drop, marks_length]; done) | (simp only [List.length_set, List.length_replicate, List.length_append, List.length_cons, List.length_nil, List.length_take, List.length_drop, marks_length]; omega)), (by first | assumption | omega | (simp; omega)), (by first | assumption | omega | (simp; omega)), (by first | assumption | omega | (simp; omega)), (by first | assumption | omega | (simp; omega)), (by first | assumption | omega | (simp; omega)), (by first | assumption | omega | (simp; omega)), (by first | assumption | omega | (simp; omega)), fun a_126 n_127 e_128 H_10 g_131 r_129 => ?_⟩
          have z_130 := l04Band_len p_Wide p_High l_p_Lights levels (0 : Int) (by omega) (by omega) (by omega) (by omega)
          have l_132 := g_131.1
          have g_133 := g_27.trans g_131
          have l_134 := g_133.1
          have o_135 := o_25.grow g_131
          have w_136 := o_135.lt
          have o_137 := o_24.grow g_131
          have w_138 := o_137.lt
          obtain rfl := r_129.isL.eqn
          have u_139 := r_129.up
          have u_140 := r_129.lo
          refine Al.intro (fun b_142 H_11 hb_143 hl_144 g_145 o_146 => ?_)
          have l_148 := g_145.1
          have g_149 := g_133.trans g_145
          have l_150 := g_149.1
          have o_151 := o_135.grow g_145
          have w_152 := o_151.lt
          have o_153 := o_137.grow g_145
          have w_154 := o_153.lt
          have r_155 := r_129.grow g_145
          have w_220 := o_146.lt
          refine Lt.setN (n := 3) o_146 (Nat.le_of_ble_eq_true rfl) rfl (fun H_12 hl_156 o_158 k_157 => ?_)
          have o_158 : Own H_12 b_142 [.int .i64 ((p_spec_l04Band p_Wide p_High l_p_Lights levels (0 : Int)).1), .int .i64 ((p_spec_l04Band p_Wide p_High l_p_Lights levels (0 : Int)).2.1), .slice a_126 (((p_spec_l04Band p_Wide p_High l_p_Lights levels (0 : Int)).2.2).length) e_128] := o_158
          have l_159 := k_157.1
          have g_160 := g_149.keep (b := b_142) (by omega) k_157
          have l_161 := g_160.1
          have o_162 := o_151.keep (by omega) k_157
          have w_163 := o_162.lt
          have o_164 := o_153.keep (by omega) k_157
          have w_165 := o_164.lt
          have r_166 := r_155.keep u_139 (by omega) k_157
          have w_219 := o_158.lt
          refine ⟨a_126, ((p_spec_l04Band p_Wide p_High l_p_Lights levels (0 : Int)).2.2).length, e_128, (o_158.rdC _).trans rfl, ?_⟩
          refine T_spec_l02Energy_i ⟨_, r_166.isL, (by first | omega | (simp only [List.length_set, List.length_replicate, List.length_append, List.length_cons, List.length_nil, List.length_take, List.length_drop, marks_length]; done) | (simp only [List.length_set, List.length_replicate, List.length_append, List.length_cons, List.length_nil, List.length_take, List.length_drop, marks_length]; omega)), ?_⟩
          refine Al.intro (fun b_167 H_13 hb_168 hl_169 g_170 o_171 => ?_)
          have o_171 : Own H_13 b_167 (([((p_spec_l02Energy ((p_spec_l04Band p_Wide p_High l_p_Lights levels (0 : Int)).2.2)))]).map fF) := o_171
          have l_173 := g_170.1
          have g_174 := g_160.trans g_170
          have l_175 := g_174.1
          have o_176 := o_162.grow g_170
          have w_177 := o_176.lt
          have o_178 := o_164.grow g_170
          have w_179 := o_178.lt
          have o_180 := o_158.grow g_170
          have w_181 := o_180.lt
          have r_182 := r_166.grow g_170
          have w_218 := o_171.lt
          refine ⟨_, _, o_178.ownB (by first | (simp only [List.length_map, List.length_cons, List.length_nil, List.length_append]; done) | (simp only [List.length_map, List.length_cons, List.length_nil, List.length_append]; omega)) rfl, (isl_rdS (o_171.isL (by first | rfl | omega | (simp only [List.length_set]; done) | (simp only [List.length_set, List.length_replicate]; omega)))), (fun h => by cases h), (by have := most_eq; omega), ?_⟩
          refine Ap.app o_178 rfl rfl (fun b_187 H_14 q_216 hl_183 o_184 k_185 => ?_)
          have o_184 := map_snoc o_184
          have l_188 := k_185.1
          have g_189 := g_174.keep (b := b_23) (by omega) k_185
          have l_190 := g_189.1
          have o_191 := o_176.keep (by omega) k_185
          have w_192 := o_191.lt
          have o_193 := o_180.keep (by omega) k_185
          have w_194 := o_193.lt
          have o_195 := o_171.keep (by omega) k_185
          have w_196 := o_195.lt
          have r_197 := r_182.keep u_139 (by omega) k_185
          have w_217 := o_184.lt
          refine T_spec_l02List_i ⟨_, (o_184.isL (by first | (simp only [List.length_append, List.length_cons, List.length_nil]; done) | (simp only [List.length_append, List.length_cons, List.length_nil]; omega) | (simp only [List.length_append, List.length_cons, List.length_nil, List.length_take, List.length_drop]; omega))), (by first | omega | (simp only [List.length_set, List.length_replicate, List.length_append, List.length_cons, List.length_nil, List.length_take, List.length_drop, marks_length]; done) | (simp only [List.length_set, List.length_replicate, List.length_append, List.length_cons, List.length_nil, List.length_take, List.length_drop, marks_length]; omega)), fun a_198 n_199 e_200 H_15 g_202 r_201 => ?_⟩
          have l_203 := g_202.1
          have g_204 := g_189.trans g_202
          have l_205 := g_204.1
          have o_206 := o_191.grow g_202
          have w_207 := o_206.lt
          have o_208 := o_193.grow g_202
          have w_209 := o_208.lt
          have o_210 := o_195.grow g_202
          have w_211 := o_210.lt
          have o_212 := o_184.grow g_202
          have w_213 := o_212.lt
          have r_214 := r_197.grow g_202
          have g_215 := Grow.refl H_15
          obtain rfl := r_201.eqn
          rw [e] at hk
          exact hk _ _ _ H_15 g_204 (r_201.grow g_215)
theorem spec_EnergiesIn_ok : FnOk Try.prog 38 S_spec_EnergiesIn := by
  refine FnOk.body mix_ok E_spec_EnergiesIn_ok Try.func38 rfl (by kernel_rfl) (by kernel_rfl) ?_ ?_ ?_ ?_ ?_
  · intro args H K K' h hk
    simp only [S_spec_EnergiesIn] at *
    unfold F_spec_EnergiesIn at *
    split at hk
    · obtain ⟨l_p_Lights, i_p_Lights, bd_223, k⟩ := hk
      exact ⟨l_p_Lights, i_p_Lights, bd_223, (fun r1_a r1_n r1_e H' gg ow0 => h _ _ (k r1_a r1_n r1_e H' gg ow0))⟩
    · exact hk.elim
  · intro hq; cases hq
  · intro args H K hk
    simp only [S_spec_EnergiesIn] at *
    unfold F_spec_EnergiesIn at *
    split at hk
    · obtain ⟨l_p_Lights, i_p_Lights, bd_223, k⟩ := hk
      exact liveV fun a n e H1 g o => ⟨_, _, k a n e H1 g o⟩
    · exact hk.elim
  · intro _ args H K hk
    simp only [S_spec_EnergiesIn] at *
    unfold F_spec_EnergiesIn at *
    split at hk
    · obtain ⟨l_p_Lights, i_p_Lights, bd_223, k⟩ := hk
      exact ⟨l_p_Lights, i_p_Lights, bd_223, (fun r1_a r1_n r1_e H' gg ow0 => ⟨gg, k r1_a r1_n r1_e H' gg ow0⟩)⟩
    · exact hk.elim
  · have mm := @spec_EnergiesIn_main
    revert mm
    generalize bodyK Try.prog E_spec_EnergiesIn Try.f38 = Q
    intro mm args H K hk
    simp only [S_spec_EnergiesIn] at *
    unfold F_spec_EnergiesIn at *
    split at hk
    · exact mm _ _ _ _ _ _ H K hk
    · exact hk.elim
def p_impl_within (n : Int) (low : Int) (high : Int) : Bool := (bif decide ((low : Int) ≤ n) then decide ((n : Int) ≤ high) else false)
theorem p_impl_within_eq (n : Int) (low : Int) (high : Int) : p_impl_within n low high = (bif decide ((low : Int) ≤ n) then decide ((n : Int) ≤ high) else false) := rfl
def T_impl_within (n : Int) (low : Int) (high : Int) (H : AHeap) (K : Bool → AHeap → Prop) : Prop := K (p_impl_within n low high) H
theorem impl_within_t {n a b : Int} (h : p_impl_within n a b = true) : a ≤ n ∧ n ≤ b := by
  unfold p_impl_within at h
  by_cases h1 : a ≤ n
  · rw [decide_eq_true h1, cond_true] at h; exact ⟨h1, of_decide_eq_true h⟩
  · rw [decide_eq_false h1] at h; cases h
theorem T_impl_within_i {n : Int} {low : Int} {high : Int} {H : AHeap} {K : Bool → AHeap → Prop} (h : K (p_impl_within n low high) H) : T_impl_within n low high H K := h
/-! impl_within: function 72 -/
def E_impl_within : Env := envOf []
def F_impl_within : List Value → AHeap → (Value → AHeap → Prop) → Prop
  | [.int .i64 n, .int .i64 low, .int .i64 high], H, K => T_impl_within n low high H fun (r1 : Bool) (H' : AHeap) => K (.bool r1) H'
  | _, _, _ => False
def S_impl_within : FSpec := { F := F_impl_within, quiet := true, tame := false }
theorem impl_within_vc (n : Int) (low : Int) (high : Int) (H : AHeap) (K : Value → AHeap → Prop) : bodyK Try.prog E_impl_within Try.f72 [.int .i64 n, .int .i64 low, .int .i64 high] H K =
  (Br (decide ((low : Int) ≤ n)) (K (.bool (decide ((n : Int) ≤ high))) H) (K (.bool false) H)) := by kernel_rfl
theorem E_impl_within_ok : ∀ g, FnOk Try.prog g (E_impl_within g) := FnOk.envOf (by
  intro x hx; cases hx)
set_option maxHeartbeats 1000000 in
theorem impl_within_main (n : Int) (low : Int) (high : Int) (H : AHeap) (K : Value → AHeap → Prop) (h : T_impl_within n low high H fun (r1 : Bool) (H' : AHeap) => K (.bool r1) H') : bodyK Try.prog E_impl_within Try.f72 [.int .i64 n, .int .i64 low, .int .i64 high] H K := by
  rw [impl_within_vc]
  unfold T_impl_within p_impl_within at h
  repeat' (first | exact h | (exfalso; simp_all; done) | (refine ⟨by decide, ?_⟩) | (refine Br.intro (fun hb => ?_) (fun hb => ?_) <;> (try simp only [hb, cond_true, cond_false, Bool.not_true, Bool.not_false] at h)))
theorem impl_within_ok : FnOk Try.prog 72 S_impl_within := by
  refine FnOk.body mix_ok E_impl_within_ok Try.func72 rfl (by kernel_rfl) (by kernel_rfl) ?_ ?_ ?_ ?_ ?_
  · intro args H K K' h hk
    simp only [S_impl_within] at *
    unfold F_impl_within at *
    split at hk
    · have k := hk
      exact h _ _ k
    · exact hk.elim
  · intro _ args H K hk
    simp only [S_impl_within] at *
    unfold F_impl_within at *
    split at hk
    · have k := hk
      exact ⟨_, k, fun K' k' => k'⟩
    · exact hk.elim
  · intro args H K hk
    simp only [S_impl_within] at *
    unfold F_impl_within at *
    split at hk
    · have k := hk
      exact ⟨_, _, k⟩
    · exact hk.elim
  · intro hq; cases hq
  · have mm := @impl_within_main
    revert mm
    generalize bodyK Try.prog E_impl_within Try.f72 = Q
    intro mm args H K hk
    simp only [S_impl_within] at *
    unfold F_impl_within at *
    split at hk
    · exact mm _ _ _ H K hk
    · exact hk.elim
def p_impl_IsFinite (x : Nat) : Bool := feq .f32 (fsub .f32 x x) 0
theorem p_impl_IsFinite_eq (x : Nat) : p_impl_IsFinite x = feq .f32 (fsub .f32 x x) 0 := rfl
def T_impl_IsFinite (x : Nat) (H : AHeap) (K : Bool → AHeap → Prop) : Prop := K (p_impl_IsFinite x) H

theorem T_impl_IsFinite_i {x : Nat} {H : AHeap} {K : Bool → AHeap → Prop} (h : K (p_impl_IsFinite x) H) : T_impl_IsFinite x H K := h
/-! impl_IsFinite: function 62 -/
def E_impl_IsFinite : Env := envOf []
def F_impl_IsFinite : List Value → AHeap → (Value → AHeap → Prop) → Prop
  | [.float .f32 x], H, K => T_impl_IsFinite x H fun (r1 : Bool) (H' : AHeap) => K (.bool r1) H'
  | _, _, _ => False
def S_impl_IsFinite : FSpec := { F := F_impl_IsFinite, quiet := true, tame := false }
theorem impl_IsFinite_vc (x : Nat) (H : AHeap) (K : Value → AHeap → Prop) : bodyK Try.prog E_impl_IsFinite Try.f62 [.float .f32 x] H K =
  (K (.bool (feq .f32 (fsub .f32 x x) 0)) H) := by kernel_rfl
theorem E_impl_IsFinite_ok : ∀ g, FnOk Try.prog g (E_impl_IsFinite g) := FnOk.envOf (by
  intro x hx; cases hx)
set_option maxHeartbeats 1000000 in
theorem impl_IsFinite_main (x : Nat) (H : AHeap) (K : Value → AHeap → Prop) (h : T_impl_IsFinite x H fun (r1 : Bool) (H' : AHeap) => K (.bool r1) H') : bodyK Try.prog E_impl_IsFinite Try.f62 [.float .f32 x] H K := by
  rw [impl_IsFinite_vc]
  unfold T_impl_IsFinite p_impl_IsFinite at h
  repeat' (first | exact h | (exfalso; simp_all; done) | (refine ⟨by decide, ?_⟩) | (refine Br.intro (fun hb => ?_) (fun hb => ?_) <;> (try simp only [hb, cond_true, cond_false, Bool.not_true, Bool.not_false] at h)))
theorem impl_IsFinite_ok : FnOk Try.prog 62 S_impl_IsFinite := by
  refine FnOk.body mix_ok E_impl_IsFinite_ok Try.func62 rfl (by kernel_rfl) (by kernel_rfl) ?_ ?_ ?_ ?_ ?_
  · intro args H K K' h hk
    simp only [S_impl_IsFinite] at *
    unfold F_impl_IsFinite at *
    split at hk
    · have k := hk
      exact h _ _ k
    · exact hk.elim
  · intro _ args H K hk
    simp only [S_impl_IsFinite] at *
    unfold F_impl_IsFinite at *
    split at hk
    · have k := hk
      exact ⟨_, k, fun K' k' => k'⟩
    · exact hk.elim
  · intro args H K hk
    simp only [S_impl_IsFinite] at *
    unfold F_impl_IsFinite at *
    split at hk
    · have k := hk
      exact ⟨_, _, k⟩
    · exact hk.elim
  · intro hq; cases hq
  · have mm := @impl_IsFinite_main
    revert mm
    generalize bodyK Try.prog E_impl_IsFinite Try.f62 = Q
    intro mm args H K hk
    simp only [S_impl_IsFinite] at *
    unfold F_impl_IsFinite at *
    split at hk
    · exact mm _ H K hk
    · exact hk.elim
end Go.Proofs.Ytghkkclonabpkaa.Ai
