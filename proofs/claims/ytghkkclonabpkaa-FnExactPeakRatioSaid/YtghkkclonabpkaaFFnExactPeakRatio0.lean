/- What functions of the program come to on the abstract machine, and that they do so; printed by a program of mine around proofs of mine. -/
import Derived.Test.YtghkkclonabpkaaProg
import Derived.Test.YtghkkclonabpkaaLibA
import Derived.Test.YtghkkclonabpkaaOpen
import Derived.Test.YtghkkclonabpkaaLibB
import Derived.Test.YtghkkclonabpkaaFl
import Derived.Test.YtghkkclonabpkaaExt
import Derived.Test.YtghkkclonabpkaaFm
import Derived.Test.YtghkkclonabpkaaFb
set_option linter.unusedVariables false
set_option linter.unusedSimpArgs false
set_option maxRecDepth 100000
namespace Go.Proofs.Ytghkkclonabpkaa.Ai
open Go
attribute [local irreducible] bodyK
theorem mix_ok : Try.prog.follows .mixedOrders = true := by kernel_rfl
def p_laws_szFloat32S (l_a : List Nat) (left : Int) : Int := (bif decide ((IntKind.wrap .i64 (left - (l_a.length : Int)) : Int) < 0) then ((-1) : Int) else IntKind.wrap .i64 (left - (l_a.length : Int)))
theorem p_laws_szFloat32S_eq (l_a : List Nat) (left : Int) : p_laws_szFloat32S l_a left = (bif decide ((IntKind.wrap .i64 (left - (l_a.length : Int)) : Int) < 0) then ((-1) : Int) else IntKind.wrap .i64 (left - (l_a.length : Int))) := rfl
def T_laws_szFloat32S (a_a : Option Addr) (a_n : Nat) (a_e : Nat) (left : Int) (H : AHeap) (K : Int → AHeap → Prop) : Prop := ∃ (l_a : List Nat), IsL fF H a_a a_n l_a ∧ K (p_laws_szFloat32S l_a left) H
theorem T_laws_szFloat32S_i {a_a : Option Addr} {a_n : Nat} {a_e : Nat} {left : Int} {H : AHeap} {K : Int → AHeap → Prop} (h : ∃ (l_a : List Nat), IsL fF H a_a a_n l_a ∧ K (p_laws_szFloat32S l_a left) H) : T_laws_szFloat32S a_a a_n a_e left H K := h
theorem laws_szFloat32S_f (l : List Nat) (left : Int) : 0 ≤ left → left ≤ 1048576 → l.length ≤ 9223372036854775807 → p_laws_szFloat32S l left < 0 ∨ (l.length : Int) ≤ left ∧ p_laws_szFloat32S l left = left - l.length := by
  intro h0 h1 h2
  rw [p_laws_szFloat32S_eq, wrap64 (by omega) (by omega)]
  by_cases h : left - (l.length : Int) < 0
  · rw [decide_eq_true h, cond_true]; left; decide
  · rw [decide_eq_false h, cond_false]; right; omega
/-! laws_szFloat32S: function 88 -/
def E_laws_szFloat32S : Env := envOf []
def F_laws_szFloat32S : List Value → AHeap → (Value → AHeap → Prop) → Prop
  | [.slice a_a a_n a_e, .int .i64 left], H, K => T_laws_szFloat32S a_a a_n a_e left H fun (r1 : Int) (H' : AHeap) => K (.int .i64 r1) H'
  | _, _, _ => False
def S_laws_szFloat32S : FSpec := { F := F_laws_szFloat32S, quiet := true, tame := false }
theorem laws_szFloat32S_vc (a_a : Option Addr) (a_n : Nat) (a_e : Nat) (left : Int) (H : AHeap) (K : Value → AHeap → Prop) : bodyK Try.prog E_laws_szFloat32S Try.f88 [.slice a_a a_n a_e, .int .i64 left] H K =
  (Br (decide ((IntKind.wrap .i64 (left - (a_n : Int)) : Int) < 0)) (K (.int .i64 (-1)) H) (K (.int .i64 (IntKind.wrap .i64 (left - (a_n : Int)))) H)) := by kernel_rfl
theorem E_laws_szFloat32S_ok : ∀ g, FnOk Try.prog g (E_laws_szFloat32S g) := FnOk.envOf (by
  intro x hx; cases hx)
set_option maxHeartbeats 1000000 in
theorem laws_szFloat32S_main (a_a : Option Addr) (a_n : Nat) (a_e : Nat) (left : Int) (H : AHeap) (K : Value → AHeap → Prop) (h : T_laws_szFloat32S a_a a_n a_e left H fun (r1 : Int) (H' : AHeap) => K (.int .i64 r1) H') : bodyK Try.prog E_laws_szFloat32S Try.f88 [.slice a_a a_n a_e, .int .i64 left] H K := by
  rw [laws_szFloat32S_vc]
  obtain ⟨l_a, i_a, hk⟩ := h
  obtain rfl := i_a.eqn
  have e : (p_laws_szFloat32S l_a left) = _ := rfl
  have e := e.trans (p_laws_szFloat32S_eq l_a left)
  have g0 := Grow.refl H
  refine Br.intro (fun c_1 => ?_) (fun c_1 => ?_)
  · have e := e.trans (cond_t c_1)
    have c_1' := of_decide_eq_true c_1
    rw [e] at hk
    exact hk
  · have e := e.trans (cond_f c_1)
    have c_1' := of_decide_eq_false c_1
    rw [e] at hk
    exact hk
theorem laws_szFloat32S_ok : FnOk Try.prog 88 S_laws_szFloat32S := by
  refine FnOk.body mix_ok E_laws_szFloat32S_ok Try.func88 rfl (by kernel_rfl) (by kernel_rfl) ?_ ?_ ?_ ?_ ?_
  · intro args H K K' h hk
    simp only [S_laws_szFloat32S] at *
    unfold F_laws_szFloat32S at *
    split at hk
    · obtain ⟨l_a, i_a, k⟩ := hk
      exact ⟨l_a, i_a, h _ _ k⟩
    · exact hk.elim
  · intro _ args H K hk
    simp only [S_laws_szFloat32S] at *
    unfold F_laws_szFloat32S at *
    split at hk
    · obtain ⟨l_a, i_a, k⟩ := hk
      exact ⟨_, k, fun K' k' => ⟨l_a, i_a, k'⟩⟩
    · exact hk.elim
  · intro args H K hk
    simp only [S_laws_szFloat32S] at *
    unfold F_laws_szFloat32S at *
    split at hk
    · obtain ⟨l_a, i_a, k⟩ := hk
      exact ⟨_, _, k⟩
    · exact hk.elim
  · intro hq; cases hq
  · have mm := @laws_szFloat32S_main
    revert mm
    generalize bodyK Try.prog E_laws_szFloat32S Try.f88 = Q
    intro mm args H K hk
    simp only [S_laws_szFloat32S] at *
    unfold F_laws_szFloat32S at *
    split at hk
    · exact mm _ _ _ _ H K hk
    · exact hk.elim
def p_laws_szPicture (a_Wide : Int) (a_High : Int) (l_a_Lights : List Nat) (left : Int) : Int := (bif decide (((p_laws_szFloat32S l_a_Lights left) : Int) < 0) then ((-1) : Int) else (p_laws_szFloat32S l_a_Lights left))
theorem p_laws_szPicture_eq (a_Wide : Int) (a_High : Int) (l_a_Lights : List Nat) (left : Int) : p_laws_szPicture a_Wide a_High l_a_Lights left = (bif decide (((p_laws_szFloat32S l_a_Lights left) : Int) < 0) then ((-1) : Int) else (p_laws_szFloat32S l_a_Lights left)) := rfl
def T_laws_szPicture (a_Wide : Int) (a_High : Int) (a_Lights_a : Option Addr) (a_Lights_n : Nat) (a_Lights_e : Nat) (left : Int) (H : AHeap) (K : Int → AHeap → Prop) : Prop := ∃ (l_a_Lights : List Nat), IsL fF H a_Lights_a a_Lights_n l_a_Lights ∧ ((∀ H' : AHeap, Grow H H' → K (p_laws_szPicture a_Wide a_High l_a_Lights left) H'))
theorem T_laws_szPicture_i {a_Wide : Int} {a_High : Int} {a_Lights_a : Option Addr} {a_Lights_n : Nat} {a_Lights_e : Nat} {left : Int} {H : AHeap} {K : Int → AHeap → Prop} (h : ∃ (l_a_Lights : List Nat), IsL fF H a_Lights_a a_Lights_n l_a_Lights ∧ ((∀ H' : AHeap, Grow H H' → K (p_laws_szPicture a_Wide a_High l_a_Lights left) H'))) : T_laws_szPicture a_Wide a_High a_Lights_a a_Lights_n a_Lights_e left H K := h
theorem laws_szPicture_f (a b : Int) (l : List Nat) (left : Int) : 0 ≤ left → left ≤ 1048576 → l.length ≤ 9223372036854775807 → p_laws_szPicture a b l left < 0 ∨ (l.length : Int) ≤ left ∧ p_laws_szPicture a b l left = left - l.length := by
  intro h0 h1 h2
  have := laws_szFloat32S_f l left h0 h1 h2
  rw [p_laws_szPicture_eq]
  by_cases h : p_laws_szFloat32S l left < 0
  · rw [decide_eq_true h, cond_true]; left; decide
  · rw [decide_eq_false h, cond_false]; right; omega
/-! laws_szPicture: function 37 -/
def E_laws_szPicture : Env := envOf [(88, S_laws_szFloat32S)]
def F_laws_szPicture : List Value → AHeap → (Value → AHeap → Prop) → Prop
  | [.agg ⟨[.int .i64 a_Wide, .int .i64 a_High, .slice a_Lights_a a_Lights_n a_Lights_e]⟩, .int .i64 left], H, K => T_laws_szPicture a_Wide a_High a_Lights_a a_Lights_n a_Lights_e left H fun (r1 : Int) (H' : AHeap) => K (.int .i64 r1) H'
  | _, _, _ => False
def S_laws_szPicture : FSpec := { F := F_laws_szPicture, quiet := false, tame := true }
theorem laws_szPicture_vc (a_Wide : Int) (a_High : Int) (a_Lights_a : Option Addr) (a_Lights_n : Nat) (a_Lights_e : Nat) (left : Int) (H : AHeap) (K : Value → AHeap → Prop) : bodyK Try.prog E_laws_szPicture Try.f37 [.agg #[.int .i64 a_Wide, .int .i64 a_High, .slice a_Lights_a a_Lights_n a_Lights_e], .int .i64 left] H K =
  (Al [.int .i64 a_Wide, .int .i64 a_High, .slice a_Lights_a a_Lights_n a_Lights_e] H fun b1 H1 => ∃ x1_a : Option Addr, ∃ x1_n : Nat, ∃ x1_e : Nat,  rdC H1 b1 2 = some (.slice x1_a x1_n x1_e) ∧ T_laws_szFloat32S x1_a x1_n x1_e left H1 fun (r1 : Int) (H2 : AHeap) => Br (decide ((r1 : Int) < 0)) (K (.int .i64 (-1)) H2) (K (.int .i64 r1) H2)) := by kernel_rfl
theorem E_laws_szPicture_ok : ∀ g, FnOk Try.prog g (E_laws_szPicture g) := FnOk.envOf (by
  intro x hx
  simp only [List.mem_cons, List.not_mem_nil, or_false] at hx
  subst hx; exact laws_szFloat32S_ok)
set_option maxHeartbeats 1000000 in
theorem laws_szPicture_main (a_Wide : Int) (a_High : Int) (a_Lights_a : Option Addr) (a_Lights_n : Nat) (a_Lights_e : Nat) (left : Int) (H : AHeap) (K : Value → AHeap → Prop) (h : T_laws_szPicture a_Wide a_High a_Lights_a a_Lights_n a_Lights_e left H fun (r1 : Int) (H' : AHeap) => K (.int .i64 r1) H') : bodyK Try.prog E_laws_szPicture Try.f37 [.agg #[.int .i64 a_Wide, .int .i64 a_High, .slice a_Lights_a a_Lights_n a_Lights_e], .int .i64 left] H K := by
  rw [laws_szPicture_vc]
  obtain ⟨l_a_Lights, i_a_Lights, hk⟩ := h
  obtain rfl := i_a_Lights.eqn
  have e : (p_laws_szPicture a_Wide a_High l_a_Lights left) = _ := rfl
  have e := e.trans (p_laws_szPicture_eq a_Wide a_High l_a_Lights left)
  have g0 := Grow.refl H
  refine Al.intro (fun b_1 H_1 hb_2 hl_3 g_4 o_5 => ?_)
  have l_7 := g_4.1
  have g_8 := g0.trans g_4
  have l_9 := g_8.1
  have w_12 := o_5.lt
  refine ⟨a_Lights_a, l_a_Lights.length, a_Lights_e, (o_5.rdC _).trans rfl, ?_⟩
  refine T_laws_szFloat32S_i ⟨_, (i_a_Lights.grow g_8), ?_⟩
  have z_10 := laws_szFloat32S_f l_a_Lights left
  refine Br.intro (fun c_11 => ?_) (fun c_11 => ?_)
  · have e := e.trans (cond_t c_11)
    have c_11' := of_decide_eq_true c_11
    rw [e] at hk
    exact hk  H_1 g_8 
  · have e := e.trans (cond_f c_11)
    have c_11' := of_decide_eq_false c_11
    rw [e] at hk
    exact hk  H_1 g_8 
theorem laws_szPicture_ok : FnOk Try.prog 37 S_laws_szPicture := by
  refine FnOk.body mix_ok E_laws_szPicture_ok Try.func37 rfl (by kernel_rfl) (by kernel_rfl) ?_ ?_ ?_ ?_ ?_
  · intro args H K K' h hk
    simp only [S_laws_szPicture] at *
    unfold F_laws_szPicture at *
    split at hk
    · obtain ⟨l_a_Lights, i_a_Lights, k⟩ := hk
      exact ⟨l_a_Lights, i_a_Lights, (fun  H' gg  => h _ _ (k  H' gg ))⟩
    · exact hk.elim
  · intro hq; cases hq
  · intro args H K hk
    simp only [S_laws_szPicture] at *
    unfold F_laws_szPicture at *
    split at hk
    · obtain ⟨l_a_Lights, i_a_Lights, k⟩ := hk
      exact ⟨_, _, k H (Grow.refl H)⟩
    · exact hk.elim
  · intro _ args H K hk
    simp only [S_laws_szPicture] at *
    unfold F_laws_szPicture at *
    split at hk
    · obtain ⟨l_a_Lights, i_a_Lights, k⟩ := hk
      exact ⟨l_a_Lights, i_a_Lights, (fun  H' gg  => ⟨gg, k  H' gg ⟩)⟩
    · exact hk.elim
  · have mm := @laws_szPicture_main
    revert mm
    generalize bodyK Try.prog E_laws_szPicture Try.f37 = Q
    intro mm args H K hk
    simp only [S_laws_szPicture] at *
    unfold F_laws_szPicture at *
    split at hk
    · exact mm _ _ _ _ _ _ H K hk
    · exact hk.elim
def p_laws_toFloat32S_l1 (l_a : List Nat) : Nat → Int → (List Nat) → (List Nat)
  | 0, _, _ => []
  | μ + 1, i, y1_1 => (bif decide ((i : Int) < (l_a.length : Int)) then (p_laws_toFloat32S_l1 l_a μ (i + 1) (((y1_1).set (i : Int).toNat ((((l_a).getD (i : Int).toNat 0)))))) else y1_1)
theorem p_laws_toFloat32S_l1_s (l_a : List Nat) (μ : Nat) (i : Int) (y1_1 : List Nat) : p_laws_toFloat32S_l1 l_a (μ + 1) i y1_1 = (bif decide ((i : Int) < (l_a.length : Int)) then (p_laws_toFloat32S_l1 l_a μ (i + 1) (((y1_1).set (i : Int).toNat ((((l_a).getD (i : Int).toNat 0)))))) else y1_1) := rfl
def p_laws_toFloat32S (l_a : List Nat) : (List Nat) := (p_laws_toFloat32S_l1 l_a (Int.toNat ((l_a.length : Int) - (0 : Int)) + 1) (0 : Int) (List.replicate (((l_a.length : Int)).toNat) 0))
theorem p_laws_toFloat32S_eq (l_a : List Nat) : p_laws_toFloat32S l_a = (p_laws_toFloat32S_l1 l_a (Int.toNat ((l_a.length : Int) - (0 : Int)) + 1) (0 : Int) (List.replicate (((l_a.length : Int)).toNat) 0)) := rfl
def T_laws_toFloat32S (a_a : Option Addr) (a_n : Nat) (a_e : Nat) (H : AHeap) (K : (Option Addr) → Nat → Nat → AHeap → Prop) : Prop := ∃ (l_a : List Nat), IsL fF H a_a a_n l_a ∧ l_a.length < 1073741824 ∧ ((∀ (r1_a : Option Addr) (r1_n r1_e : Nat), ∀ H' : AHeap, Grow H H' → OwnS fF H' H.length r1_a r1_n r1_e l_a → K r1_a r1_n r1_e H'))
theorem T_laws_toFloat32S_i {a_a : Option Addr} {a_n : Nat} {a_e : Nat} {H : AHeap} {K : (Option Addr) → Nat → Nat → AHeap → Prop} (h : ∃ (l_a : List Nat), IsL fF H a_a a_n l_a ∧ l_a.length < 1073741824 ∧ ((∀ (r1_a : Option Addr) (r1_n r1_e : Nat), ∀ H' : AHeap, Grow H H' → OwnS fF H' H.length r1_a r1_n r1_e l_a → K r1_a r1_n r1_e H'))) : T_laws_toFloat32S a_a a_n a_e H K := h
theorem laws_toFloat32S_go (l : List Nat) : ∀ (μ : Nat) (i : Nat) (ys : List Nat), ys.length = l.length → i ≤ l.length → l.length - i < μ →
    p_laws_toFloat32S_l1 l μ (i : Int) (l.take i ++ ys.drop i) = l := by
  intro μ
  induction μ with
  | zero => intro i ys _ _ h; omega
  | succ μ ih =>
    intro i ys hy hi hm
    rw [p_laws_toFloat32S_l1_s]
    by_cases h : i < l.length
    · rw [decide_eq_true (show (i : Int) < (l.length : Int) by omega), cond_true]
      have hx : l[i]? = some (l.getD i 0) := by rw [List.getD_eq_getElem?_getD, List.getElem?_eq_getElem h]; rfl
      rw [Int.toNat_natCast, set_front l ys i (by omega) hy.symm _ hx]
      exact ih (i + 1) ys hy (by omega) (by omega)
    · rw [decide_eq_false (show ¬ (i : Int) < (l.length : Int) by omega), cond_false]
      rw [List.take_of_length_le (by omega), List.drop_eq_nil_of_le (by omega), List.append_nil]
theorem laws_toFloat32S_id (l : List Nat) : p_laws_toFloat32S l = l := by
  rw [p_laws_toFloat32S_eq]
  have := laws_toFloat32S_go l (Int.toNat ((l.length : Int) - 0) + 1) 0 (List.replicate ((l.length : Int)).toNat 0) (by simp) (by omega) (by omega)
  simpa using this
/-! laws_toFloat32S: function 16 -/
def E_laws_toFloat32S : Env := envOf []
def F_laws_toFloat32S : List Value → AHeap → (Value → AHeap → Prop) → Prop
  | [.slice a_a a_n a_e], H, K => T_laws_toFloat32S a_a a_n a_e H fun (r1_a : Option Addr) (r1_n : Nat) (r1_e : Nat) (H' : AHeap) => K (.slice r1_a r1_n r1_e) H'
  | _, _, _ => False
def S_laws_toFloat32S : FSpec := { F := F_laws_toFloat32S, quiet := false, tame := true }
theorem laws_toFloat32S_vc (a_a : Option Addr) (a_n : Nat) (a_e : Nat) (H : AHeap) (K : Value → AHeap → Prop) : bodyK Try.prog E_laws_toFloat32S Try.f16 [.slice a_a a_n a_e] H K =
  ((0 : Int) ≤ (a_n : Int) ∧ (a_n : Int) = (a_n : Int) ∧ (a_n : Int) < (most : Int) ∧ Al (zerosOf (.float .f32 0) ((a_n : Int)).toNat) H fun b1 H1 => loopK (exK Try.prog E_laws_toFloat32S (cl (cl (cr (cl (cr (cr (bodyC Try.f16)))))))) [.slice a_a a_n a_e, undef, .slice none 0 0, .slice (some ⟨b1, 0, none⟩) (((a_n : Int)).toNat) 1, .int .i64 0, .slice a_a a_n a_e, .int .i64 (a_n : Int), .slice (some ⟨b1, 0, none⟩) (((a_n : Int)).toNat) 1, undef, undef, undef, undef, undef, undef, undef, undef, undef, undef, undef, undef, undef, undef] H1 (blockQ 0 (seqQ (exK Try.prog E_laws_toFloat32S (cr (cr (cr (bodyC Try.f16))))) (retK Try.prog Try.f16 K)))) := by kernel_rfl
theorem laws_toFloat32S_r1 (a_a : Option Addr) (a_e : Nat) (a_n : Nat) (b1 : Nat) (i : Int) (g8 g9 g10 g11 g12 g13 g14 g15 g16 g17 g18 g19 g20 : Value) (H : AHeap) (R : Post) : exK Try.prog E_laws_toFloat32S (cl (cl (cr (cl (cr (cr (bodyC Try.f16))))))) [.slice a_a a_n a_e, undef, .slice none 0 0, .slice (some ⟨b1, 0, none⟩) (((a_n : Int)).toNat) 1, .int .i64 i, .slice a_a a_n a_e, .int .i64 (a_n : Int), .slice (some ⟨b1, 0, none⟩) (((a_n : Int)).toNat) 1, g8, g9, g10, g11, g12, g13, g14, g15, g16, g17, g18, g19, g20, undef] H R =
  (Br (decide ((i : Int) < (a_n : Int))) ((0 : Int) ≤ i ∧ i < (a_n : Int) ∧ ∃ b2 f1, (a_a : Option Addr) = some ⟨b2, f1, none⟩ ∧ ∃ x1 : Nat,  rdC H b2 (f1 + (i : Int).toNat * 1) = some (.float .f32 x1) ∧ (0 : Int) ≤ i ∧ i < (((a_n : Int)).toNat : Int) ∧ ∃ b3 f2, (some ⟨b1, 0, none⟩ : Option Addr) = some ⟨b3, f2, none⟩ ∧ isOwn H b3 ∧ (∃ l, rdN H b3 (f2 + (i : Int).toNat * 1) 1 = some l) ∧ Lt (setC H b3 (f2 + (i : Int).toNat * 1) (.float .f32 x1)) fun H2 => R .normal [.slice a_a a_n a_e, undef, .slice none 0 0, .slice (some ⟨b1, 0, none⟩) (((a_n : Int)).toNat) 1, .int .i64 (IntKind.wrap .i64 (i + 1)), .slice a_a a_n a_e, .int .i64 (a_n : Int), .slice (some ⟨b1, 0, none⟩) (((a_n : Int)).toNat) 1, .int .i64 i, .slice a_a a_n a_e, .int .i64 (a_n : Int), .bool (decide ((i : Int) < (a_n : Int))), .int .i64 i, .int .i64 (IntKind.wrap .i64 (i + 1)), .slice (some ⟨b1, 0, none⟩) (((a_n : Int)).toNat) 1, .int .i64 i, .slice a_a a_n a_e, .int .i64 i, .pointer (some ⟨b2, f1 + (i : Int).toNat * 1, none⟩), .float .f32 x1, .pointer (some ⟨b3, f2 + (i : Int).toNat * 1, none⟩), undef] H2) (R (.exit 0) [.slice a_a a_n a_e, undef, .slice none 0 0, .slice (some ⟨b1, 0, none⟩) (((a_n : Int)).toNat) 1, .int .i64 i, .slice a_a a_n a_e, .int .i64 (a_n : Int), .slice (some ⟨b1, 0, none⟩) (((a_n : Int)).toNat) 1, .int .i64 i, .slice a_a a_n a_e, .int .i64 (a_n : Int), .bool (decide ((i : Int) < (a_n : Int))), g12, g13, g14, g15, g16, g17, g18, g19, g20, undef] H)) := by kernel_rfl
def laws_toFloat32S_I1 (a_a : Option Addr) (a_e : Nat) (a_n : Nat) (b1 : Nat) (Inv : Nat → Int → AHeap → Prop) : Nat → List Value → AHeap → Prop := fun μ tm H => ∃ (i : Int), ∃ g8 g9 g10 g11 g12 g13 g14 g15 g16 g17 g18 g19 g20, tm = [.slice a_a a_n a_e, undef, .slice none 0 0, .slice (some ⟨b1, 0, none⟩) (((a_n : Int)).toNat) 1, .int .i64 i, .slice a_a a_n a_e, .int .i64 (a_n : Int), .slice (some ⟨b1, 0, none⟩) (((a_n : Int)).toNat) 1, g8, g9, g10, g11, g12, g13, g14, g15, g16, g17, g18, g19, g20, undef] ∧ Inv μ i H
theorem laws_toFloat32S_L1 (a_a : Option Addr) (a_e : Nat) (a_n : Nat) (b1 : Nat) {Q : Post} (Inv : Nat → Int → AHeap → Prop) (ν : Nat) (i : Int) (g8 g9 g10 g11 g12 g13 g14 g15 g16 g17 g18 g19 g20 : Value) (H : AHeap) (h0 : Inv ν i H)
    (hs : ∀ (μ : Nat) (i : Int) (g8 g9 g10 g11 g12 g13 g14 g15 g16 g17 g18 g19 g20 : Value) (H : AHeap), Inv μ i H → exK Try.prog E_laws_toFloat32S (cl (cl (cr (cl (cr (cr (bodyC Try.f16))))))) [.slice a_a a_n a_e, undef, .slice none 0 0, .slice (some ⟨b1, 0, none⟩) (((a_n : Int)).toNat) 1, .int .i64 i, .slice a_a a_n a_e, .int .i64 (a_n : Int), .slice (some ⟨b1, 0, none⟩) (((a_n : Int)).toNat) 1, g8, g9, g10, g11, g12, g13, g14, g15, g16, g17, g18, g19, g20, undef] H (loopQ (laws_toFloat32S_I1 a_a a_e a_n b1 Inv) μ Q)) : loopK (exK Try.prog E_laws_toFloat32S (cl (cl (cr (cl (cr (cr (bodyC Try.f16)))))))) [.slice a_a a_n a_e, undef, .slice none 0 0, .slice (some ⟨b1, 0, none⟩) (((a_n : Int)).toNat) 1, .int .i64 i, .slice a_a a_n a_e, .int .i64 (a_n : Int), .slice (some ⟨b1, 0, none⟩) (((a_n : Int)).toNat) 1, g8, g9, g10, g11, g12, g13, g14, g15, g16, g17, g18, g19, g20, undef] H Q :=
  ⟨laws_toFloat32S_I1 a_a a_e a_n b1 Inv, ν, ⟨i, g8, g9, g10, g11, g12, g13, g14, g15, g16, g17, g18, g19, g20, rfl, h0⟩, fun μ tm H h => by obtain ⟨i, g8, g9, g10, g11, g12, g13, g14, g15, g16, g17, g18, g19, g20, rfl, hI⟩ := h; exact hs μ i g8 g9 g10 g11 g12 g13 g14 g15 g16 g17 g18 g19 g20 H hI⟩
theorem laws_toFloat32S_n1 {a_a : Option Addr} {a_e : Nat} {a_n : Nat} {b1 : Nat} {Q : Post} {Inv : Nat → Int → AHeap → Prop} {μ : Nat} (μ' : Nat) {i : Int} {g8 g9 g10 g11 g12 g13 g14 g15 g16 g17 g18 g19 g20 : Value} {H : AHeap} (hm : μ' < μ) (hI : Inv μ' i H) : loopQ (laws_toFloat32S_I1 a_a a_e a_n b1 Inv) μ Q .normal [.slice a_a a_n a_e, undef, .slice none 0 0, .slice (some ⟨b1, 0, none⟩) (((a_n : Int)).toNat) 1, .int .i64 i, .slice a_a a_n a_e, .int .i64 (a_n : Int), .slice (some ⟨b1, 0, none⟩) (((a_n : Int)).toNat) 1, g8, g9, g10, g11, g12, g13, g14, g15, g16, g17, g18, g19, g20, undef] H := ⟨μ', hm, i, g8, g9, g10, g11, g12, g13, g14, g15, g16, g17, g18, g19, g20, rfl, hI⟩
theorem laws_toFloat32S_x1_0 (a_a : Option Addr) (a_e : Nat) (a_n : Nat) (b1 : Nat) (i : Int) (g8 g9 g10 g11 g12 g13 g14 g15 g16 g17 g18 g19 g20 : Value) (H : AHeap) (K : Value → AHeap → Prop)  {I : Nat → List Value → AHeap → Prop} {μ : Nat} : loopQ I μ (blockQ 0 (seqQ (exK Try.prog E_laws_toFloat32S (cr (cr (cr (bodyC Try.f16))))) (retK Try.prog Try.f16 K))) (.exit 0) [.slice a_a a_n a_e, undef, .slice none 0 0, .slice (some ⟨b1, 0, none⟩) (((a_n : Int)).toNat) 1, .int .i64 i, .slice a_a a_n a_e, .int .i64 (a_n : Int), .slice (some ⟨b1, 0, none⟩) (((a_n : Int)).toNat) 1, g8, g9, g10, g11, g12, g13, g14, g15, g16, g17, g18, g19, g20, undef] H =
  (K (.slice (some ⟨b1, 0, none⟩) (((a_n : Int)).toNat) 1) H) := by kernel_rfl
theorem E_laws_toFloat32S_ok : ∀ g, FnOk Try.prog g (E_laws_toFloat32S g) := FnOk.envOf (by
  intro x hx; cases hx)
set_option maxHeartbeats 1000000 in
theorem laws_toFloat32S_main (a_a : Option Addr) (a_n : Nat) (a_e : Nat) (H : AHeap) (K : Value → AHeap → Prop) (h : T_laws_toFloat32S a_a a_n a_e H fun (r1_a : Option Addr) (r1_n : Nat) (r1_e : Nat) (H' : AHeap) => K (.slice r1_a r1_n r1_e) H') : bodyK Try.prog E_laws_toFloat32S Try.f16 [.slice a_a a_n a_e] H K := by
  rw [laws_toFloat32S_vc]
  obtain ⟨l_a, i_a, bd_29, hk⟩ := h
  have hk : (∀ (r1_a : Option Addr) (r1_n r1_e : Nat), ∀ H' : AHeap, Grow H H' → OwnS fF H' H.length r1_a r1_n r1_e (p_laws_toFloat32S l_a) → (fun (r1_a : Option Addr) (r1_n : Nat) (r1_e : Nat) (H' : AHeap) => K (.slice r1_a r1_n r1_e) H') r1_a r1_n r1_e H') := by rw [laws_toFloat32S_id l_a]; exact hk
  obtain rfl := i_a.eqn
  have e : (p_laws_toFloat32S l_a) = _ := rfl
  have e := e.trans (p_laws_toFloat32S_eq l_a)
  have g0 := Grow.refl H
  refine ⟨by omega, rfl, (by have := most_eq; omega), ?_⟩
  refine Al.intro (fun b_1 H_1 hb_2 hl_3 g_4 o_5 => ?_)
  rw [zeros_map fF 0 _ rfl] at o_5
  have l_7 := g_4.1
  have g_8 := g0.trans g_4
  have l_9 := g_8.1
  have w_28 := o_5.lt
  refine laws_toFloat32S_L1 _ _ _ _ (fun (μ : Nat) (i : Int) (H_2 : AHeap) => ∃ (y1_1 : List Nat), Own H_2 b_1 (y1_1.map fF) ∧ y1_1.length = ((l_a.length : Int)).toNat ∧ Grow H H_2 ∧ (0 : Int) ≤ i ∧ i ≤ (l_a.length : Int) ∧ (l_a.length : Int) - i ≤ (μ : Int) ∧ p_laws_toFloat32S l_a = p_laws_toFloat32S_l1 l_a (μ + 1) i y1_1) (Int.toNat ((l_a.length : Int) - (0 : Int))) _ _ _ _ _ _ _ _ _ _ _ _ _ _ H_1 ?_ ?_
  · exact ⟨_, o_5, (by first | rfl | (simp; done)), g_8, (by first | omega | (simp; done) | (simp; omega)), (by first | omega | (simp; done) | (simp; omega)), (by omega), e⟩
  · intro μ i g8 g9 g10 g11 g12 g13 g14 g15 g16 g17 g18 g19 g20 H_2 hI
    obtain ⟨y1_1, o_10, y_11, g_12, v_13, v_14, hμ, e⟩ := hI
    rw [laws_toFloat32S_r1]
    have e := e.trans (p_laws_toFloat32S_l1_s l_a μ i y1_1)
    have w_15 := o_10.lt
    have l_16 := g_12.1
    refine Br.intro (fun c_17 => ?_) (fun c_17 => ?_)
    · have e := e.trans (cond_t c_17)
      have c_17' := of_decide_eq_true c_17
      obtain ⟨b_18, f_19, q_20⟩ := ((i_a.grow g_12)).pos (by first | omega | (simp only [List.length_set, List.length_replicate, List.length_append, List.length_cons, List.length_nil, List.length_take, List.length_drop, marks_length]; done) | (simp only [List.length_set, List.length_replicate, List.length_append, List.length_cons, List.length_nil, List.length_take, List.length_drop, marks_length]; omega))
      refine ⟨by omega, by omega, b_18, f_19, q_20, ?_⟩
      refine ⟨((l_a).getD (i : Int).toNat 0), (i_a).rd g_12 q_20 (by omega) _, ?_⟩
      refine ⟨by omega, (by omega), _, _, rfl, ?_⟩
      refine Lt.set o_10 (by simp only [List.length_map]; (first | omega | (simp only [List.length_set, List.length_replicate, List.length_append, List.length_cons, List.length_nil, List.length_take, List.length_drop, marks_length]; done) | (simp only [List.length_set, List.length_replicate, List.length_append, List.length_cons, List.length_nil, List.length_take, List.length_drop, marks_length]; omega))) (fun H_3 hl_21 o_23 k_22 => ?_)
      have o_23 := map_set o_23
      have l_24 := k_22.1
      have g_25 := g_12.keep (b := b_1) (by omega) k_22
      have l_26 := g_25.1
      have w_27 := o_23.lt
      rw [show IntKind.wrap .i64 (i + 1) = (i + 1) from wrap64 (by omega) (by omega)]
      refine laws_toFloat32S_n1 (μ - 1) (by first | omega) ⟨_, o_23, (by first | assumption | omega | (simp only [List.length_set]; first | rfl | assumption | omega)), g_25, (by first | omega | (simp only [List.length_append, List.length_cons, List.length_nil, List.length_set]; done) | (simp only [List.length_append, List.length_cons, List.length_nil, List.length_set]; omega)), (by first | omega | (simp only [List.length_append, List.length_cons, List.length_nil, List.length_set]; done) | (simp only [List.length_append, List.length_cons, List.length_nil, List.length_set]; omega)), (by first | omega), (by rw [show μ - 1 + 1 = μ from by first | omega]; exact e)⟩
    · have e := e.trans (cond_f c_17)
      have c_17' := of_decide_eq_false c_17
      rw [laws_toFloat32S_x1_0]
      rw [e] at hk
      exact hk _ _ _ H_2 g_12 (o_10.ownS (by first | (simp only [List.length_replicate]; done) | omega | (simp; omega)) (by omega))
theorem laws_toFloat32S_ok : FnOk Try.prog 16 S_laws_toFloat32S := by
  refine FnOk.body mix_ok E_laws_toFloat32S_ok Try.func16 rfl (by kernel_rfl) (by kernel_rfl) ?_ ?_ ?_ ?_ ?_
  · intro args H K K' h hk
    simp only [S_laws_toFloat32S] at *
    unfold F_laws_toFloat32S at *
    split at hk
    · obtain ⟨l_a, i_a, bd_29, k⟩ := hk
      exact ⟨l_a, i_a, bd_29, (fun r1_a r1_n r1_e H' gg ow0 => h _ _ (k r1_a r1_n r1_e H' gg ow0))⟩
    · exact hk.elim
  · intro hq; cases hq
  · intro args H K hk
    simp only [S_laws_toFloat32S] at *
    unfold F_laws_toFloat32S at *
    split at hk
    · obtain ⟨l_a, i_a, bd_29, k⟩ := hk
      exact liveS fun a n e H1 g o => ⟨_, _, k a n e H1 g o⟩
    · exact hk.elim
  · intro _ args H K hk
    simp only [S_laws_toFloat32S] at *
    unfold F_laws_toFloat32S at *
    split at hk
    · obtain ⟨l_a, i_a, bd_29, k⟩ := hk
      exact ⟨l_a, i_a, bd_29, (fun r1_a r1_n r1_e H' gg ow0 => ⟨gg, k r1_a r1_n r1_e H' gg ow0⟩)⟩
    · exact hk.elim
  · have mm := @laws_toFloat32S_main
    revert mm
    generalize bodyK Try.prog E_laws_toFloat32S Try.f16 = Q
    intro mm args H K hk
    simp only [S_laws_toFloat32S] at *
    unfold F_laws_toFloat32S at *
    split at hk
    · exact mm _ _ _ H K hk
    · exact hk.elim
def p_laws_toPicture (a_Wide : Int) (a_High : Int) (l_a_Lights : List Nat) : Int × Int × (List Nat) := (a_Wide, a_High, l_a_Lights)
theorem p_laws_toPicture_eq (a_Wide : Int) (a_High : Int) (l_a_Lights : List Nat) : p_laws_toPicture a_Wide a_High l_a_Lights = (a_Wide, a_High, l_a_Lights) := rfl
def T_laws_toPicture (a_Wide : Int) (a_High : Int) (a_Lights_a : Option Addr) (a_Lights_n : Nat) (a_Lights_e : Nat) (H : AHeap) (K : Int → Int → (Option Addr) → Nat → Nat → AHeap → Prop) : Prop := ∃ (l_a_Lights : List Nat), IsL fF H a_Lights_a a_Lights_n l_a_Lights ∧ l_a_Lights.length < 1073741824 ∧ ((∀ (r1_Lights_a : Option Addr) (r1_Lights_n r1_Lights_e : Nat), ∀ H' : AHeap, Grow H H' → OwnS fF H' H.length r1_Lights_a r1_Lights_n r1_Lights_e l_a_Lights → K a_Wide a_High r1_Lights_a r1_Lights_n r1_Lights_e H'))
theorem T_laws_toPicture_i {a_Wide : Int} {a_High : Int} {a_Lights_a : Option Addr} {a_Lights_n : Nat} {a_Lights_e : Nat} {H : AHeap} {K : Int → Int → (Option Addr) → Nat → Nat → AHeap → Prop} (h : ∃ (l_a_Lights : List Nat), IsL fF H a_Lights_a a_Lights_n l_a_Lights ∧ l_a_Lights.length < 1073741824 ∧ ((∀ (r1_Lights_a : Option Addr) (r1_Lights_n r1_Lights_e : Nat), ∀ H' : AHeap, Grow H H' → OwnS fF H' H.length r1_Lights_a r1_Lights_n r1_Lights_e l_a_Lights → K a_Wide a_High r1_Lights_a r1_Lights_n r1_Lights_e H'))) : T_laws_toPicture a_Wide a_High a_Lights_a a_Lights_n a_Lights_e H K := h
theorem laws_toPicture_id (a b : Int) (l : List Nat) : p_laws_toPicture a b l = (a, b, l) := rfl
/-! laws_toPicture: function 39 -/
def E_laws_toPicture : Env := envOf [(16, S_laws_toFloat32S)]
def F_laws_toPicture : List Value → AHeap → (Value → AHeap → Prop) → Prop
  | [.agg ⟨[.int .i64 a_Wide, .int .i64 a_High, .slice a_Lights_a a_Lights_n a_Lights_e]⟩], H, K => T_laws_toPicture a_Wide a_High a_Lights_a a_Lights_n a_Lights_e H fun (r1_Wide : Int) (r1_High : Int) (r1_Lights_a : Option Addr) (r1_Lights_n : Nat) (r1_Lights_e : Nat) (H' : AHeap) => K (.agg #[.int .i64 r1_Wide, .int .i64 r1_High, .slice r1_Lights_a r1_Lights_n r1_Lights_e]) H'
  | _, _, _ => False
def S_laws_toPicture : FSpec := { F := F_laws_toPicture, quiet := false, tame := true }
theorem laws_toPicture_vc (a_Wide : Int) (a_High : Int) (a_Lights_a : Option Addr) (a_Lights_n : Nat) (a_Lights_e : Nat) (H : AHeap) (K : Value → AHeap → Prop) : bodyK Try.prog E_laws_toPicture Try.f39 [.agg #[.int .i64 a_Wide, .int .i64 a_High, .slice a_Lights_a a_Lights_n a_Lights_e]] H K =
  (Al [.int .i64 a_Wide, .int .i64 a_High, .slice a_Lights_a a_Lights_n a_Lights_e] H fun b1 H1 => Al [.int .i64 0, .int .i64 0, .slice none 0 0] H1 fun b2 H2 => Al [.int .i64 0, .int .i64 0, .slice none 0 0] H2 fun b3 H3 => ∃ x1 : Int,  rdC H3 b1 0 = some (.int .i64 x1) ∧ isOwn H3 b3 ∧ (∃ l, rdN H3 b3 0 1 = some l) ∧ Lt (setC H3 b3 0 (.int .i64 x1)) fun H4 => ∃ x2 : Int,  rdC H4 b1 1 = some (.int .i64 x2) ∧ isOwn H4 b3 ∧ (∃ l, rdN H4 b3 1 1 = some l) ∧ Lt (setC H4 b3 1 (.int .i64 x2)) fun H5 => ∃ x3_a : Option Addr, ∃ x3_n : Nat, ∃ x3_e : Nat,  rdC H5 b1 2 = some (.slice x3_a x3_n x3_e) ∧ T_laws_toFloat32S x3_a x3_n x3_e H5 fun (a1 : Option Addr) (r1 : Nat) (r2 : Nat) (H6 : AHeap) => isOwn H6 b3 ∧ (∃ l, rdN H6 b3 2 1 = some l) ∧ Lt (setC H6 b3 2 (.slice a1 r1 r2)) fun H7 => ∃ c1 : Int, ∃ c2 : Int, ∃ c3_a : Option Addr, ∃ c3_n : Nat, ∃ c3_e : Nat,  rdN H7 b3 0 3 = some [.int .i64 c1, .int .i64 c2, .slice c3_a c3_n c3_e] ∧ isOwn H7 b2 ∧ (∃ l, rdN H7 b2 0 3 = some l) ∧ Lt (setN H7 b2 0 [.int .i64 c1, .int .i64 c2, .slice c3_a c3_n c3_e]) fun H8 => ∃ c4 : Int, ∃ c5 : Int, ∃ c6_a : Option Addr, ∃ c6_n : Nat, ∃ c6_e : Nat,  rdN H8 b2 0 3 = some [.int .i64 c4, .int .i64 c5, .slice c6_a c6_n c6_e] ∧ K (.agg #[.int .i64 c4, .int .i64 c5, .slice c6_a c6_n c6_e]) H8) := by kernel_rfl
theorem E_laws_toPicture_ok : ∀ g, FnOk Try.prog g (E_laws_toPicture g) := FnOk.envOf (by
  intro x hx
  simp only [List.mem_cons, List.not_mem_nil, or_false] at hx
  subst hx; exact laws_toFloat32S_ok)
set_option maxHeartbeats 1000000 in
theorem laws_toPicture_main (a_Wide : Int) (a_High : Int) (a_Lights_a : Option Addr) (a_Lights_n : Nat) (a_Lights_e : Nat) (H : AHeap) (K : Value → AHeap → Prop) (h : T_laws_toPicture a_Wide a_High a_Lights_a a_Lights_n a_Lights_e H fun (r1_Wide : Int) (r1_High : Int) (r1_Lights_a : Option Addr) (r1_Lights_n : Nat) (r1_Lights_e : Nat) (H' : AHeap) => K (.agg #[.int .i64 r1_Wide, .int .i64 r1_High, .slice r1_Lights_a r1_Lights_n r1_Lights_e]) H') : bodyK Try.prog E_laws_toPicture Try.f39 [.agg #[.int .i64 a_Wide, .int .i64 a_High, .slice a_Lights_a a_Lights_n a_Lights_e]] H K := by
  rw [laws_toPicture_vc]
  obtain ⟨l_a_Lights, i_a_Lights, bd_100, hk⟩ := h
  have hk : (∀ (r1_Lights_a : Option Addr) (r1_Lights_n r1_Lights_e : Nat), ∀ H' : AHeap, Grow H H' → OwnS fF H' H.length r1_Lights_a r1_Lights_n r1_Lights_e ((p_laws_toPicture a_Wide a_High l_a_Lights).2.2) → (fun (r1_Wide : Int) (r1_High : Int) (r1_Lights_a : Option Addr) (r1_Lights_n : Nat) (r1_Lights_e : Nat) (H' : AHeap) => K (.agg #[.int .i64 r1_Wide, .int .i64 r1_High, .slice r1_Lights_a r1_Lights_n r1_Lights_e]) H') ((p_laws_toPicture a_Wide a_High l_a_Lights).1) ((p_laws_toPicture a_Wide a_High l_a_Lights).2.1) r1_Lights_a r1_Lights_n r1_Lights_e H') := by rw [laws_toPicture_id a_Wide a_High l_a_Lights]; exact hk
  obtain rfl := i_a_Lights.eqn
  have e : (p_laws_toPicture a_Wide a_High l_a_Lights) = _ := rfl
  have e := e.trans (p_laws_toPicture_eq a_Wide a_High l_a_Lights)
  have g0 := Grow.refl H
  refine Al.intro (fun b_1 H_1 hb_2 hl_3 g_4 o_5 => ?_)
  have l_7 := g_4.1
  have g_8 := g0.trans g_4
  have l_9 := g_8.1
  have w_99 := o_5.lt
  refine Al.intro (fun b_10 H_2 hb_11 hl_12 g_13 o_14 => ?_)
  have l_16 := g_13.1
  have g_17 := g_8.trans g_13
  have l_18 := g_17.1
  have o_19 := o_5.grow g_13
  have w_20 := o_19.lt
  have w_98 := o_14.lt
  refine Al.intro (fun b_21 H_3 hb_22 hl_23 g_24 o_25 => ?_)
  have l_27 := g_24.1
  have g_28 := g_17.trans g_24
  have l_29 := g_28.1
  have o_30 := o_19.grow g_24
  have w_31 := o_30.lt
  have o_32 := o_14.grow g_24
  have w_33 := o_32.lt
  have w_97 := o_25.lt
  refine ⟨a_Wide, (o_30.rdC _).trans rfl, ?_⟩
  refine Lt.set o_25 (Nat.le_of_ble_eq_true rfl) (fun H_4 hl_34 o_36 k_35 => ?_)
  have o_36 : Own H_4 b_21 [.int .i64 a_Wide, .int .i64 0, .slice none 0 0] := o_36
  have l_37 := k_35.1
  have g_38 := g_28.keep (b := b_21) (by omega) k_35
  have l_39 := g_38.1
  have o_40 := o_30.keep (by omega) k_35
  have w_41 := o_40.lt
  have o_42 := o_32.keep (by omega) k_35
  have w_43 := o_42.lt
  have w_96 := o_36.lt
  refine ⟨a_High, (o_40.rdC _).trans rfl, ?_⟩
  refine Lt.set o_36 (Nat.le_of_ble_eq_true rfl) (fun H_5 hl_44 o_46 k_45 => ?_)
  have o_46 : Own H_5 b_21 [.int .i64 a_Wide, .int .i64 a_High, .slice none 0 0] := o_46
  have l_47 := k_45.1
  have g_48 := g_38.keep (b := b_21) (by omega) k_45
  have l_49 := g_48.1
  have o_50 := o_40.keep (by omega) k_45
  have w_51 := o_50.lt
  have o_52 := o_42.keep (by omega) k_45
  have w_53 := o_52.lt
  have w_95 := o_46.lt
  refine ⟨a_Lights_a, l_a_Lights.length, a_Lights_e, (o_50.rdC _).trans rfl, ?_⟩
  refine T_laws_toFloat32S_i ⟨_, (i_a_Lights.grow g_48), (by first | omega | (simp only [List.length_set, List.length_replicate, List.length_append, List.length_cons, List.length_nil, List.length_take, List.length_drop, marks_length]; done) | (simp only [List.length_set, List.length_replicate, List.length_append, List.length_cons, List.length_nil, List.length_take, List.length_drop, marks_length]; omega)), fun a_54 n_55 e_56 H_6 g_58 r_57 => ?_⟩
  have l_59 := g_58.1
  have g_60 := g_48.trans g_58
  have l_61 := g_60.1
  have o_62 := o_50.grow g_58
  have w_63 := o_62.lt
  have o_64 := o_52.grow g_58
  have w_65 := o_64.lt
  have o_66 := o_46.grow g_58
  have w_67 := o_66.lt
  obtain rfl := r_57.isL.eqn
  have u_68 := r_57.up
  have u_69 := r_57.lo
  refine Lt.set o_66 (Nat.le_of_ble_eq_true rfl) (fun H_7 hl_71 o_73 k_72 => ?_)
  have o_73 : Own H_7 b_21 [.int .i64 a_Wide, .int .i64 a_High, .slice a_54 ((l_a_Lights).length) e_56] := o_73
  have l_74 := k_72.1
  have g_75 := g_60.keep (b := b_21) (by omega) k_72
  have l_76 := g_75.1
  have o_77 := o_62.keep (by omega) k_72
  have w_78 := o_77.lt
  have o_79 := o_64.keep (by omega) k_72
  have w_80 := o_79.lt
  have r_81 := r_57.keep u_68 (by omega) k_72
  have w_94 := o_73.lt
  refine ⟨a_Wide, a_High, a_54, (l_a_Lights).length, e_56, (o_73.rdN (Nat.le_of_ble_eq_true rfl)).trans rfl, ?_⟩
  refine Lt.setN (n := 3) o_79 (Nat.le_of_ble_eq_true rfl) rfl (fun H_8 hl_82 o_84 k_83 => ?_)
  have o_84 : Own H_8 b_10 [.int .i64 a_Wide, .int .i64 a_High, .slice a_54 ((l_a_Lights).length) e_56] := o_84
  have l_85 := k_83.1
  have g_86 := g_75.keep (b := b_10) (by omega) k_83
  have l_87 := g_86.1
  have o_88 := o_77.keep (by omega) k_83
  have w_89 := o_88.lt
  have o_90 := o_73.keep (by omega) k_83
  have w_91 := o_90.lt
  have r_92 := r_81.keep u_68 (by omega) k_83
  have w_93 := o_84.lt
  refine ⟨a_Wide, a_High, a_54, (l_a_Lights).length, e_56, (o_84.rdN (Nat.le_of_ble_eq_true rfl)).trans rfl, ?_⟩
  rw [e] at hk
  exact hk _ _ _ H_8 g_86 (r_92.weak (by omega))
theorem laws_toPicture_ok : FnOk Try.prog 39 S_laws_toPicture := by
  refine FnOk.body mix_ok E_laws_toPicture_ok Try.func39 rfl (by kernel_rfl) (by kernel_rfl) ?_ ?_ ?_ ?_ ?_
  · intro args H K K' h hk
    simp only [S_laws_toPicture] at *
    unfold F_laws_toPicture at *
    split at hk
    · obtain ⟨l_a_Lights, i_a_Lights, bd_100, k⟩ := hk
      exact ⟨l_a_Lights, i_a_Lights, bd_100, (fun r1_Lights_a r1_Lights_n r1_Lights_e H' gg ow0 => h _ _ (k r1_Lights_a r1_Lights_n r1_Lights_e H' gg ow0))⟩
    · exact hk.elim
  · intro hq; cases hq
  · intro args H K hk
    simp only [S_laws_toPicture] at *
    unfold F_laws_toPicture at *
    split at hk
    · obtain ⟨l_a_Lights, i_a_Lights, bd_100, k⟩ := hk
      exact liveS fun a n e H1 g o => ⟨_, _, k a n e H1 g o⟩
    · exact hk.elim
  · intro _ args H K hk
    simp only [S_laws_toPicture] at *
    unfold F_laws_toPicture at *
    split at hk
    · obtain ⟨l_a_Lights, i_a_Lights, bd_100, k⟩ := hk
      exact ⟨l_a_Lights, i_a_Lights, bd_100, (fun r1_Lights_a r1_Lights_n r1_Lights_e H' gg ow0 => ⟨gg, k r1_Lights_a r1_Lights_n r1_Lights_e H' gg ow0⟩)⟩
    · exact hk.elim
  · have mm := @laws_toPicture_main
    revert mm
    generalize bodyK Try.prog E_laws_toPicture Try.f39 = Q
    intro mm args H K hk
    simp only [S_laws_toPicture] at *
    unfold F_laws_toPicture at *
    split at hk
    · exact mm _ _ _ _ _ H K hk
    · exact hk.elim
def p_spec_l00In (n : Int) (low : Int) (high : Int) : Bool := (bif decide ((low : Int) ≤ n) then decide ((n : Int) ≤ high) else false)
theorem p_spec_l00In_eq (n : Int) (low : Int) (high : Int) : p_spec_l00In n low high = (bif decide ((low : Int) ≤ n) then decide ((n : Int) ≤ high) else false) := rfl
def T_spec_l00In (n : Int) (low : Int) (high : Int) (H : AHeap) (K : Bool → AHeap → Prop) : Prop := K (p_spec_l00In n low high) H
theorem spec_l00In_t {n a b : Int} (h : p_spec_l00In n a b = true) : a ≤ n ∧ n ≤ b := by
  unfold p_spec_l00In at h
  by_cases h1 : a ≤ n
  · rw [decide_eq_true h1, cond_true] at h; exact ⟨h1, of_decide_eq_true h⟩
  · rw [decide_eq_false h1] at h; cases h
theorem T_spec_l00In_i {n : Int} {low : Int} {high : Int} {H : AHeap} {K : Bool → AHeap → Prop} (h : K (p_spec_l00In n low high) H) : T_spec_l00In n low high H K := h
/-! spec_l00In: function 70 -/
def E_spec_l00In : Env := envOf []
def F_spec_l00In : List Value → AHeap → (Value → AHeap → Prop) → Prop
  | [.int .i64 n, .int .i64 low, .int .i64 high], H, K => T_spec_l00In n low high H fun (r1 : Bool) (H' : AHeap) => K (.bool r1) H'
  | _, _, _ => False
def S_spec_l00In : FSpec := { F := F_spec_l00In, quiet := true, tame := false }
theorem spec_l00In_vc (n : Int) (low : Int) (high : Int) (H : AHeap) (K : Value → AHeap → Prop) : bodyK Try.prog E_spec_l00In Try.f70 [.int .i64 n, .int .i64 low, .int .i64 high] H K =
  (Br (decide ((low : Int) ≤ n)) (K (.bool (decide ((n : Int) ≤ high))) H) (K (.bool false) H)) := by kernel_rfl
theorem E_spec_l00In_ok : ∀ g, FnOk Try.prog g (E_spec_l00In g) := FnOk.envOf (by
  intro x hx; cases hx)
set_option maxHeartbeats 1000000 in
theorem spec_l00In_main (n : Int) (low : Int) (high : Int) (H : AHeap) (K : Value → AHeap → Prop) (h : T_spec_l00In n low high H fun (r1 : Bool) (H' : AHeap) => K (.bool r1) H') : bodyK Try.prog E_spec_l00In Try.f70 [.int .i64 n, .int .i64 low, .int .i64 high] H K := by
  rw [spec_l00In_vc]
  unfold T_spec_l00In p_spec_l00In at h
  repeat' (first | exact h | (exfalso; simp_all; done) | (refine ⟨by decide, ?_⟩) | (refine Br.intro (fun hb => ?_) (fun hb => ?_) <;> (try simp only [hb, cond_true, cond_false, Bool.not_true, Bool.not_false] at h)))
theorem spec_l00In_ok : FnOk Try.prog 70 S_spec_l00In := by
  refine FnOk.body mix_ok E_spec_l00In_ok Try.func70 rfl (by kernel_rfl) (by kernel_rfl) ?_ ?_ ?_ ?_ ?_
  · intro args H K K' h hk
    simp only [S_spec_l00In] at *
    unfold F_spec_l00In at *
    split at hk
    · have k := hk
      exact h _ _ k
    · exact hk.elim
  · intro _ args H K hk
    simp only [S_spec_l00In] at *
    unfold F_spec_l00In at *
    split at hk
    · have k := hk
      exact ⟨_, k, fun K' k' => k'⟩
    · exact hk.elim
  · intro args H K hk
    simp only [S_spec_l00In] at *
    unfold F_spec_l00In at *
    split at hk
    · have k := hk
      exact ⟨_, _, k⟩
    · exact hk.elim
  · intro hq; cases hq
  · have mm := @spec_l00In_main
    revert mm
    generalize bodyK Try.prog E_spec_l00In Try.f70 = Q
    intro mm args H K hk
    simp only [S_spec_l00In] at *
    unfold F_spec_l00In at *
    split at hk
    · exact mm _ _ _ H K hk
    · exact hk.elim
def p_spec_l04Sides (wide : Int) (high : Int) : Bool := (bif (p_spec_l00In wide 1 16) then (p_spec_l00In high 1 16) else false)
theorem p_spec_l04Sides_eq (wide : Int) (high : Int) : p_spec_l04Sides wide high = (bif (p_spec_l00In wide 1 16) then (p_spec_l00In high 1 16) else false) := rfl
def T_spec_l04Sides (wide : Int) (high : Int) (H : AHeap) (K : Bool → AHeap → Prop) : Prop := K (p_spec_l04Sides wide high) H

theorem T_spec_l04Sides_i {wide : Int} {high : Int} {H : AHeap} {K : Bool → AHeap → Prop} (h : K (p_spec_l04Sides wide high) H) : T_spec_l04Sides wide high H K := h
/-! spec_l04Sides: function 129 -/
def E_spec_l04Sides : Env := envOf [(70, S_spec_l00In)]
def F_spec_l04Sides : List Value → AHeap → (Value → AHeap → Prop) → Prop
  | [.int .i64 wide, .int .i64 high], H, K => T_spec_l04Sides wide high H fun (r1 : Bool) (H' : AHeap) => K (.bool r1) H'
  | _, _, _ => False
def S_spec_l04Sides : FSpec := { F := F_spec_l04Sides, quiet := true, tame := false }
theorem spec_l04Sides_vc (wide : Int) (high : Int) (H : AHeap) (K : Value → AHeap → Prop) : bodyK Try.prog E_spec_l04Sides Try.f129 [.int .i64 wide, .int .i64 high] H K =
  (T_spec_l00In wide 1 16 H fun (r1 : Bool) (H1 : AHeap) => Br r1 (T_spec_l00In high 1 16 H1 fun (r2 : Bool) (H2 : AHeap) => K (.bool r2) H2) (K (.bool false) H1)) := by kernel_rfl
theorem E_spec_l04Sides_ok : ∀ g, FnOk Try.prog g (E_spec_l04Sides g) := FnOk.envOf (by
  intro x hx
  simp only [List.mem_cons, List.not_mem_nil, or_false] at hx
  subst hx; exact spec_l00In_ok)
set_option maxHeartbeats 1000000 in
theorem spec_l04Sides_main (wide : Int) (high : Int) (H : AHeap) (K : Value → AHeap → Prop) (h : T_spec_l04Sides wide high H fun (r1 : Bool) (H' : AHeap) => K (.bool r1) H') : bodyK Try.prog E_spec_l04Sides Try.f129 [.int .i64 wide, .int .i64 high] H K := by
  rw [spec_l04Sides_vc]
  simp only [T_spec_l00In]
  unfold T_spec_l04Sides p_spec_l04Sides at h
  repeat' (first | exact h | (exfalso; simp_all; done) | (refine ⟨by decide, ?_⟩) | (refine Br.intro (fun hb => ?_) (fun hb => ?_) <;> (try simp only [hb, cond_true, cond_false, Bool.not_true, Bool.not_false] at h)))
theorem spec_l04Sides_ok : FnOk Try.prog 129 S_spec_l04Sides := by
  refine FnOk.body mix_ok E_spec_l04Sides_ok Try.func129 rfl (by kernel_rfl) (by kernel_rfl) ?_ ?_ ?_ ?_ ?_
  · intro args H K K' h hk
    simp only [S_spec_l04Sides] at *
    unfold F_spec_l04Sides at *
    split at hk
    · have k := hk
      exact h _ _ k
    · exact hk.elim
  · intro _ args H K hk
    simp only [S_spec_l04Sides] at *
    unfold F_spec_l04Sides at *
    split at hk
    · have k := hk
      exact ⟨_, k, fun K' k' => k'⟩
    · exact hk.elim
  · intro args H K hk
    simp only [S_spec_l04Sides] at *
    unfold F_spec_l04Sides at *
    split at hk
    · have k := hk
      exact ⟨_, _, k⟩
    · exact hk.elim
  · intro hq; cases hq
  · have mm := @spec_l04Sides_main
    revert mm
    generalize bodyK Try.prog E_spec_l04Sides Try.f129 = Q
    intro mm args H K hk
    simp only [S_spec_l04Sides] at *
    unfold F_spec_l04Sides at *
    split at hk
    · exact mm _ _ H K hk
    · exact hk.elim
def p_spec_l01Finite (x : Nat) : Bool := feq .f32 (fsub .f32 x x) 0
theorem p_spec_l01Finite_eq (x : Nat) : p_spec_l01Finite x = feq .f32 (fsub .f32 x x) 0 := rfl
def T_spec_l01Finite (x : Nat) (H : AHeap) (K : Bool → AHeap → Prop) : Prop := K (p_spec_l01Finite x) H

theorem T_spec_l01Finite_i {x : Nat} {H : AHeap} {K : Bool → AHeap → Prop} (h : K (p_spec_l01Finite x) H) : T_spec_l01Finite x H K := h
/-! spec_l01Finite: function 57 -/
def E_spec_l01Finite : Env := envOf []
def F_spec_l01Finite : List Value → AHeap → (Value → AHeap → Prop) → Prop
  | [.float .f32 x], H, K => T_spec_l01Finite x H fun (r1 : Bool) (H' : AHeap) => K (.bool r1) H'
  | _, _, _ => False
def S_spec_l01Finite : FSpec := { F := F_spec_l01Finite, quiet := true, tame := false }
theorem spec_l01Finite_vc (x : Nat) (H : AHeap) (K : Value → AHeap → Prop) : bodyK Try.prog E_spec_l01Finite Try.f57 [.float .f32 x] H K =
  (K (.bool (feq .f32 (fsub .f32 x x) 0)) H) := by kernel_rfl
theorem E_spec_l01Finite_ok : ∀ g, FnOk Try.prog g (E_spec_l01Finite g) := FnOk.envOf (by
  intro x hx; cases hx)
set_option maxHeartbeats 1000000 in
theorem spec_l01Finite_main (x : Nat) (H : AHeap) (K : Value → AHeap → Prop) (h : T_spec_l01Finite x H fun (r1 : Bool) (H' : AHeap) => K (.bool r1) H') : bodyK Try.prog E_spec_l01Finite Try.f57 [.float .f32 x] H K := by
  rw [spec_l01Finite_vc]
  unfold T_spec_l01Finite p_spec_l01Finite at h
  repeat' (first | exact h | (exfalso; simp_all; done) | (refine ⟨by decide, ?_⟩) | (refine Br.intro (fun hb => ?_) (fun hb => ?_) <;> (try simp only [hb, cond_true, cond_false, Bool.not_true, Bool.not_false] at h)))
theorem spec_l01Finite_ok : FnOk Try.prog 57 S_spec_l01Finite := by
  refine FnOk.body mix_ok E_spec_l01Finite_ok Try.func57 rfl (by kernel_rfl) (by kernel_rfl) ?_ ?_ ?_ ?_ ?_
  · intro args H K K' h hk
    simp only [S_spec_l01Finite] at *
    unfold F_spec_l01Finite at *
    split at hk
    · have k := hk
      exact h _ _ k
    · exact hk.elim
  · intro _ args H K hk
    simp only [S_spec_l01Finite] at *
    unfold F_spec_l01Finite at *
    split at hk
    · have k := hk
      exact ⟨_, k, fun K' k' => k'⟩
    · exact hk.elim
  · intro args H K hk
    simp only [S_spec_l01Finite] at *
    unfold F_spec_l01Finite at *
    split at hk
    · have k := hk
      exact ⟨_, _, k⟩
    · exact hk.elim
  · intro hq; cases hq
  · have mm := @spec_l01Finite_main
    revert mm
    generalize bodyK Try.prog E_spec_l01Finite Try.f57 = Q
    intro mm args H K hk
    simp only [S_spec_l01Finite] at *
    unfold F_spec_l01Finite at *
    split at hk
    · exact mm _ H K hk
    · exact hk.elim
def p_spec_l02Finite_l1 (l_list : List Nat) : Nat → Bool → Int → Bool
  | 0, _, _ => false
  | μ + 1, t2, i => (bif decide ((i : Int) < (l_list.length : Int)) then (bif !((p_spec_l01Finite (((l_list).getD (i : Int).toNat 0)))) then false else (p_spec_l02Finite_l1 l_list μ t2 (i + 1))) else true)
theorem p_spec_l02Finite_l1_s (l_list : List Nat) (μ : Nat) (t2 : Bool) (i : Int) : p_spec_l02Finite_l1 l_list (μ + 1) t2 i = (bif decide ((i : Int) < (l_list.length : Int)) then (bif !((p_spec_l01Finite (((l_list).getD (i : Int).toNat 0)))) then false else (p_spec_l02Finite_l1 l_list μ t2 (i + 1))) else true) := rfl
def p_spec_l02Finite (l_list : List Nat) : Bool := (p_spec_l02Finite_l1 l_list (Int.toNat ((l_list.length : Int) - (0 : Int)) + 1) false (0 : Int))
theorem p_spec_l02Finite_eq (l_list : List Nat) : p_spec_l02Finite l_list = (p_spec_l02Finite_l1 l_list (Int.toNat ((l_list.length : Int) - (0 : Int)) + 1) false (0 : Int)) := rfl
def T_spec_l02Finite (list_a : Option Addr) (list_n : Nat) (list_e : Nat) (H : AHeap) (K : Bool → AHeap → Prop) : Prop := ∃ (l_list : List Nat), IsL fF H list_a list_n l_list ∧ l_list.length < 1073741824 ∧ K (p_spec_l02Finite l_list) H
theorem T_spec_l02Finite_i {list_a : Option Addr} {list_n : Nat} {list_e : Nat} {H : AHeap} {K : Bool → AHeap → Prop} (h : ∃ (l_list : List Nat), IsL fF H list_a list_n l_list ∧ l_list.length < 1073741824 ∧ K (p_spec_l02Finite l_list) H) : T_spec_l02Finite list_a list_n list_e H K := h

/-! spec_l02Finite: function 67 -/
def E_spec_l02Finite : Env := envOf [(57, S_spec_l01Finite)]
def F_spec_l02Finite : List Value → AHeap → (Value → AHeap → Prop) → Prop
  | [.slice list_a list_n list_e], H, K => T_spec_l02Finite list_a list_n list_e H fun (r1 : Bool) (H' : AHeap) => K (.bool r1) H'
  | _, _, _ => False
def S_spec_l02Finite : FSpec := { F := F_spec_l02Finite, quiet := true, tame := false }
theorem spec_l02Finite_vc (list_a : Option Addr) (list_n : Nat) (list_e : Nat) (H : AHeap) (K : Value → AHeap → Prop) : bodyK Try.prog E_spec_l02Finite Try.f67 [.slice list_a list_n list_e] H K =
  (loopK (exK Try.prog E_spec_l02Finite (cl (cl (cr (cl (cr (bodyC Try.f67))))))) [.slice list_a list_n list_e, undef, .bool false, .int .i64 0, undef, undef, undef, undef, undef, undef, undef, undef, undef, undef, undef, undef] H (blockQ 0 (seqQ (exK Try.prog E_spec_l02Finite (cr (cr (bodyC Try.f67)))) (retK Try.prog Try.f67 K)))) := by kernel_rfl
theorem spec_l02Finite_r1 (list_a : Option Addr) (list_e : Nat) (list_n : Nat) (t2 : Bool) (i : Int) (g4 g5 g6 g7 g8 g9 g10 g11 g12 g13 g14 g15 : Value) (H : AHeap) (R : Post) : exK Try.prog E_spec_l02Finite (cl (cl (cr (cl (cr (bodyC Try.f67)))))) [.slice list_a list_n list_e, undef, .bool t2, .int .i64 i, g4, g5, g6, g7, g8, g9, g10, g11, g12, g13, g14, g15] H R =
  (Br (decide ((i : Int) < (list_n : Int))) ((0 : Int) ≤ i ∧ i < (list_n : Int) ∧ ∃ b1 f1, (list_a : Option Addr) = some ⟨b1, f1, none⟩ ∧ ∃ x1 : Nat,  rdC H b1 (f1 + (i : Int).toNat * 1) = some (.float .f32 x1) ∧ T_spec_l01Finite x1 H fun (r1 : Bool) (H1 : AHeap) => Br (!r1) (R .ret [.slice list_a list_n list_e, undef, .bool false, .int .i64 i, .int .i64 i, .slice list_a list_n list_e, .int .i64 (list_n : Int), .bool (decide ((i : Int) < (list_n : Int))), g8, g9, .slice list_a list_n list_e, .int .i64 i, .pointer (some ⟨b1, f1 + (i : Int).toNat * 1, none⟩), .float .f32 x1, .bool r1, .bool (!r1)] H1) (R .normal [.slice list_a list_n list_e, undef, .bool t2, .int .i64 (IntKind.wrap .i64 (i + 1)), .int .i64 i, .slice list_a list_n list_e, .int .i64 (list_n : Int), .bool (decide ((i : Int) < (list_n : Int))), .int .i64 i, .int .i64 (IntKind.wrap .i64 (i + 1)), .slice list_a list_n list_e, .int .i64 i, .pointer (some ⟨b1, f1 + (i : Int).toNat * 1, none⟩), .float .f32 x1, .bool r1, .bool (!r1)] H1)) (R (.exit 0) [.slice list_a list_n list_e, undef, .bool t2, .int .i64 i, .int .i64 i, .slice list_a list_n list_e, .int .i64 (list_n : Int), .bool (decide ((i : Int) < (list_n : Int))), g8, g9, g10, g11, g12, g13, g14, g15] H)) := by kernel_rfl
def spec_l02Finite_I1 (list_a : Option Addr) (list_e : Nat) (list_n : Nat) (Inv : Nat → Bool → Int → AHeap → Prop) : Nat → List Value → AHeap → Prop := fun μ tm H => ∃ (t2 : Bool), ∃ (i : Int), ∃ g4 g5 g6 g7 g8 g9 g10 g11 g12 g13 g14 g15, tm = [.slice list_a list_n list_e, undef, .bool t2, .int .i64 i, g4, g5, g6, g7, g8, g9, g10, g11, g12, g13, g14, g15] ∧ Inv μ t2 i H
theorem spec_l02Finite_L1 (list_a : Option Addr) (list_e : Nat) (list_n : Nat) {Q : Post} (Inv : Nat → Bool → Int → AHeap → Prop) (ν : Nat) (t2 : Bool) (i : Int) (g4 g5 g6 g7 g8 g9 g10 g11 g12 g13 g14 g15 : Value) (H : AHeap) (h0 : Inv ν t2 i H)
    (hs : ∀ (μ : Nat) (t2 : Bool) (i : Int) (g4 g5 g6 g7 g8 g9 g10 g11 g12 g13 g14 g15 : Value) (H : AHeap), Inv μ t2 i H → exK Try.prog E_spec_l02Finite (cl (cl (cr (cl (cr (bodyC Try.f67)))))) [.slice list_a list_n list_e, undef, .bool t2, .int .i64 i, g4, g5, g6, g7, g8, g9, g10, g11, g12, g13, g14, g15] H (loopQ (spec_l02Finite_I1 list_a list_e list_n Inv) μ Q)) : loopK (exK Try.prog E_spec_l02Finite (cl (cl (cr (cl (cr (bodyC Try.f67))))))) [.slice list_a list_n list_e, undef, .bool t2, .int .i64 i, g4, g5, g6, g7, g8, g9, g10, g11, g12, g13, g14, g15] H Q :=
  ⟨spec_l02Finite_I1 list_a list_e list_n Inv, ν, ⟨t2, i, g4, g5, g6, g7, g8, g9, g10, g11, g12, g13, g14, g15, rfl, h0⟩, fun μ tm H h => by obtain ⟨t2, i, g4, g5, g6, g7, g8, g9, g10, g11, g12, g13, g14, g15, rfl, hI⟩ := h; exact hs μ t2 i g4 g5 g6 g7 g8 g9 g10 g11 g12 g13 g14 g15 H hI⟩
theorem spec_l02Finite_n1 {list_a : Option Addr} {list_e : Nat} {list_n : Nat} {Q : Post} {Inv : Nat → Bool → Int → AHeap → Prop} {μ : Nat} (μ' : Nat) {t2 : Bool} {i : Int} {g4 g5 g6 g7 g8 g9 g10 g11 g12 g13 g14 g15 : Value} {H : AHeap} (hm : μ' < μ) (hI : Inv μ' t2 i H) : loopQ (spec_l02Finite_I1 list_a list_e list_n Inv) μ Q .normal [.slice list_a list_n list_e, undef, .bool t2, .int .i64 i, g4, g5, g6, g7, g8, g9, g10, g11, g12, g13, g14, g15] H := ⟨μ', hm, t2, i, g4, g5, g6, g7, g8, g9, g10, g11, g12, g13, g14, g15, rfl, hI⟩
theorem spec_l02Finite_x1_0 (list_a : Option Addr) (list_e : Nat) (list_n : Nat) (t2 : Bool) (i : Int) (g4 g5 g6 g7 g8 g9 g10 g11 g12 g13 g14 g15 : Value) (H : AHeap) (K : Value → AHeap → Prop)  {I : Nat → List Value → AHeap → Prop} {μ : Nat} : loopQ I μ (blockQ 0 (seqQ (exK Try.prog E_spec_l02Finite (cr (cr (bodyC Try.f67)))) (retK Try.prog Try.f67 K))) (.exit 0) [.slice list_a list_n list_e, undef, .bool t2, .int .i64 i, g4, g5, g6, g7, g8, g9, g10, g11, g12, g13, g14, g15] H =
  (K (.bool true) H) := by kernel_rfl
theorem spec_l02Finite_x1_ret (list_a : Option Addr) (list_e : Nat) (list_n : Nat) (t2 : Bool) (i : Int) (g4 g5 g6 g7 g8 g9 g10 g11 g12 g13 g14 g15 : Value) (H : AHeap) (K : Value → AHeap → Prop)  {I : Nat → List Value → AHeap → Prop} {μ : Nat} : loopQ I μ (blockQ 0 (seqQ (exK Try.prog E_spec_l02Finite (cr (cr (bodyC Try.f67)))) (retK Try.prog Try.f67 K))) .ret [.slice list_a list_n list_e, undef, .bool t2, .int .i64 i, g4, g5, g6, g7, g8, g9, g10, g11, g12, g13, g14, g15] H =
  (K (.bool t2) H) := by kernel_rfl
theorem E_spec_l02Finite_ok : ∀ g, FnOk Try.prog g (E_spec_l02Finite g) := FnOk.envOf (by
  intro x hx
  simp only [List.mem_cons, List.not_mem_nil, or_false] at hx
  subst hx; exact spec_l01Finite_ok)
set_option maxHeartbeats 1000000 in
theorem spec_l02Finite_main (list_a : Option Addr) (list_n : Nat) (list_e : Nat) (H : AHeap) (K : Value → AHeap → Prop) (h : T_spec_l02Finite list_a list_n list_e H fun (r1 : Bool) (H' : AHeap) => K (.bool r1) H') : bodyK Try.prog E_spec_l02Finite Try.f67 [.slice list_a list_n list_e] H K := by
  rw [spec_l02Finite_vc]
  obtain ⟨l_list, i_list, bd_9, hk⟩ := h
  obtain rfl := i_list.eqn
  have e : (p_spec_l02Finite l_list) = _ := rfl
  have e := e.trans (p_spec_l02Finite_eq l_list)
  have g0 := Grow.refl H
  refine spec_l02Finite_L1 _ _ _ (fun (μ : Nat) (t2 : Bool) (i : Int) (H_1 : AHeap) => H = H_1 ∧ (0 : Int) ≤ i ∧ i ≤ (l_list.length : Int) ∧ (l_list.length : Int) - i ≤ (μ : Int) ∧ p_spec_l02Finite l_list = p_spec_l02Finite_l1 l_list (μ + 1) t2 i) (Int.toNat ((l_list.length : Int) - (0 : Int))) _ _ _ _ _ _ _ _ _ _ _ _ _ _ H ?_ ?_
  · exact ⟨rfl, (by first | omega | (simp; done) | (simp; omega)), (by first | omega | (simp; done) | (simp; omega)), (by omega), e⟩
  · intro μ t2 i g4 g5 g6 g7 g8 g9 g10 g11 g12 g13 g14 g15 H_1 hI
    obtain ⟨rfl, v_1, v_2, hμ, e⟩ := hI
    rw [spec_l02Finite_r1]
    have e := e.trans (p_spec_l02Finite_l1_s l_list μ t2 i)
    have l_3 := g0.1
    refine Br.intro (fun c_4 => ?_) (fun c_4 => ?_)
    · have e := e.trans (cond_t c_4)
      have c_4' := of_decide_eq_true c_4
      obtain ⟨b_5, f_6, q_7⟩ := ((i_list.grow g0)).pos (by first | omega | (simp only [List.length_set, List.length_replicate, List.length_append, List.length_cons, List.length_nil, List.length_take, List.length_drop, marks_length]; done) | (simp only [List.length_set, List.length_replicate, List.length_append, List.length_cons, List.length_nil, List.length_take, List.length_drop, marks_length]; omega))
      refine ⟨by omega, by omega, b_5, f_6, q_7, ?_⟩
      refine ⟨((l_list).getD (i : Int).toNat 0), (i_list).rd g0 q_7 (by omega) _, ?_⟩
      refine T_spec_l01Finite_i ?_
      refine Br.intro (fun c_8 => ?_) (fun c_8 => ?_)
      · have e := e.trans (cond_t c_8)
        have c_8n := nf_of_t c_8
        rw [spec_l02Finite_x1_ret]
        rw [e] at hk
        exact hk
      · have e := e.trans (cond_f c_8)
        have c_8n := nt_of_f c_8
        rw [show IntKind.wrap .i64 (i + 1) = (i + 1) from wrap64 (by omega) (by omega)]
        refine spec_l02Finite_n1 (μ - 1) (by first | omega) ⟨rfl, (by first | omega | (simp only [List.length_append, List.length_cons, List.length_nil, List.length_set]; done) | (simp only [List.length_append, List.length_cons, List.length_nil, List.length_set]; omega)), (by first | omega | (simp only [List.length_append, List.length_cons, List.length_nil, List.length_set]; done) | (simp only [List.length_append, List.length_cons, List.length_nil, List.length_set]; omega)), (by first | omega), (by rw [show μ - 1 + 1 = μ from by first | omega]; exact e)⟩
    · have e := e.trans (cond_f c_4)
      have c_4' := of_decide_eq_false c_4
      rw [spec_l02Finite_x1_0]
      rw [e] at hk
      exact hk
theorem spec_l02Finite_ok : FnOk Try.prog 67 S_spec_l02Finite := by
  refine FnOk.body mix_ok E_spec_l02Finite_ok Try.func67 rfl (by kernel_rfl) (by kernel_rfl) ?_ ?_ ?_ ?_ ?_
  · intro args H K K' h hk
    simp only [S_spec_l02Finite] at *
    unfold F_spec_l02Finite at *
    split at hk
    · obtain ⟨l_list, i_list, bd_9, k⟩ := hk
      exact ⟨l_list, i_list, bd_9, h _ _ k⟩
    · exact hk.elim
  · intro _ args H K hk
    simp only [S_spec_l02Finite] at *
    unfold F_spec_l02Finite at *
    split at hk
    · obtain ⟨l_list, i_list, bd_9, k⟩ := hk
      exact ⟨_, k, fun K' k' => ⟨l_list, i_list, bd_9, k'⟩⟩
    · exact hk.elim
  · intro args H K hk
    simp only [S_spec_l02Finite] at *
    unfold F_spec_l02Finite at *
    split at hk
    · obtain ⟨l_list, i_list, bd_9, k⟩ := hk
      exact ⟨_, _, k⟩
    · exact hk.elim
  · intro hq; cases hq
  · have mm := @spec_l02Finite_main
    revert mm
    generalize bodyK Try.prog E_spec_l02Finite Try.f67 = Q
    intro mm args H K hk
    simp only [S_spec_l02Finite] at *
    unfold F_spec_l02Finite at *
    split at hk
    · exact mm _ _ _ H K hk
    · exact hk.elim
def p_spec_l04Is (pp_Wide : Int) (pp_High : Int) (l_pp_Lights : List Nat) : Bool := ((bif (p_spec_l04Sides pp_Wide pp_High) then (bif ((l_pp_Lights.length : Int) : Int) == IntKind.wrap .i64 (pp_Wide * pp_High) then (p_spec_l02Finite l_pp_Lights) else false) else false))
theorem p_spec_l04Is_eq (pp_Wide : Int) (pp_High : Int) (l_pp_Lights : List Nat) : p_spec_l04Is pp_Wide pp_High l_pp_Lights = ((bif (p_spec_l04Sides pp_Wide pp_High) then (bif ((l_pp_Lights.length : Int) : Int) == IntKind.wrap .i64 (pp_Wide * pp_High) then (p_spec_l02Finite l_pp_Lights) else false) else false)) := rfl
def T_spec_l04Is (p : Nat) (H : AHeap) (K : Bool → AHeap → Prop) : Prop := ∃ (pp_Wide : Int), ∃ (pp_High : Int), ∃ (pp_Lights_a : Option Addr), ∃ (pp_Lights_n : Nat), ∃ (pp_Lights_e : Nat), ∃ (l_pp_Lights : List Nat), rdN H p 0 3 = some [.int .i64 pp_Wide, .int .i64 pp_High, .slice pp_Lights_a pp_Lights_n pp_Lights_e] ∧ IsL fF H pp_Lights_a pp_Lights_n l_pp_Lights ∧ l_pp_Lights.length < 1073741824 ∧ K (p_spec_l04Is pp_Wide pp_High l_pp_Lights) H
theorem T_spec_l04Is_i {p : Nat} {H : AHeap} {K : Bool → AHeap → Prop} (h : ∃ (pp_Wide : Int), ∃ (pp_High : Int), ∃ (pp_Lights_a : Option Addr), ∃ (pp_Lights_n : Nat), ∃ (pp_Lights_e : Nat), ∃ (l_pp_Lights : List Nat), rdN H p 0 3 = some [.int .i64 pp_Wide, .int .i64 pp_High, .slice pp_Lights_a pp_Lights_n pp_Lights_e] ∧ IsL fF H pp_Lights_a pp_Lights_n l_pp_Lights ∧ l_pp_Lights.length < 1073741824 ∧ K (p_spec_l04Is pp_Wide pp_High l_pp_Lights) H) : T_spec_l04Is p H K := h
theorem spec_l04Is_t {w h : Int} {l : List Nat} (hh : p_spec_l04Is w h l = true) : 1 ≤ w ∧ w ≤ 16 ∧ 1 ≤ h ∧ h ≤ 16 ∧ (l.length : Int) = w * h ∧ (l.length : Int) ≤ 256 ∧ 1 ≤ (l.length : Int) := by
  rw [p_spec_l04Is_eq, p_spec_l04Sides_eq] at hh
  simp only [Bool.cond_false_right, Bool.and_eq_true] at hh
  obtain ⟨⟨a, b⟩, c, -⟩ := hh
  have a := spec_l00In_t a
  have b := spec_l00In_t b
  have h1 : w * h ≤ 16 * 16 := Int.mul_le_mul (by omega) (by omega) (by omega) (by decide)
  have h2 : 1 * 1 ≤ w * h := Int.mul_le_mul (by omega) (by omega) (by omega) (by omega)
  have c := eq_of_beq c
  rw [wrap64 (by omega) (by omega)] at c
  exact ⟨a.1, a.2, b.1, b.2, c, by omega, by omega⟩
/-! spec_l04Is: function 89 -/
def E_spec_l04Is : Env := envOf [(129, S_spec_l04Sides), (67, S_spec_l02Finite)]
def F_spec_l04Is : List Value → AHeap → (Value → AHeap → Prop) → Prop
  | [.pointer (some ⟨p, 0, none⟩)], H, K => T_spec_l04Is p H fun (r1 : Bool) (H' : AHeap) => K (.bool r1) H'
  | _, _, _ => False
def S_spec_l04Is : FSpec := { F := F_spec_l04Is, quiet := true, tame := false }
theorem spec_l04Is_vc (p : Nat) (H : AHeap) (K : Value → AHeap → Prop) : bodyK Try.prog E_spec_l04Is Try.f89 [.pointer (some ⟨p, 0, none⟩)] H K =
  (∃ x1 : Int,  rdC H p 0 = some (.int .i64 x1) ∧ ∃ x2 : Int,  rdC H p 1 = some (.int .i64 x2) ∧ T_spec_l04Sides x1 x2 H fun (r1 : Bool) (H1 : AHeap) => Br r1 (∃ x3_a : Option Addr, ∃ x3_n : Nat, ∃ x3_e : Nat,  rdC H1 p 2 = some (.slice x3_a x3_n x3_e) ∧ ∃ x4 : Int,  rdC H1 p 0 = some (.int .i64 x4) ∧ ∃ x5 : Int,  rdC H1 p 1 = some (.int .i64 x5) ∧ Br (((x3_n : Int) : Int) == IntKind.wrap .i64 (x4 * x5)) (∃ x6_a : Option Addr, ∃ x6_n : Nat, ∃ x6_e : Nat,  rdC H1 p 2 = some (.slice x6_a x6_n x6_e) ∧ T_spec_l02Finite x6_a x6_n x6_e H1 fun (r2 : Bool) (H2 : AHeap) => K (.bool r2) H2) (K (.bool false) H1)) (K (.bool false) H1)) := by kernel_rfl
theorem E_spec_l04Is_ok : ∀ g, FnOk Try.prog g (E_spec_l04Is g) := FnOk.envOf (by
  intro x hx
  simp only [List.mem_cons, List.not_mem_nil, or_false] at hx
  rcases hx with rfl | rfl
  · exact spec_l04Sides_ok
  · exact spec_l02Finite_ok)
set_option maxHeartbeats 1000000 in
theorem spec_l04Is_main (p : Nat) (H : AHeap) (K : Value → AHeap → Prop) (h : T_spec_l04Is p H fun (r1 : Bool) (H' : AHeap) => K (.bool r1) H') : bodyK Try.prog E_spec_l04Is Try.f89 [.pointer (some ⟨p, 0, none⟩)] H K := by
  rw [spec_l04Is_vc]
  obtain ⟨pp_Wide, pp_High, pp_Lights_a, pp_Lights_n, pp_Lights_e, l_pp_Lights, i_p, i_pp_Lights, bd_3, hk⟩ := h
  obtain rfl := i_pp_Lights.eqn
  have e : (p_spec_l04Is pp_Wide pp_High l_pp_Lights) = _ := rfl
  have e := e.trans (p_spec_l04Is_eq pp_Wide pp_High l_pp_Lights)
  have g0 := Grow.refl H
  refine ⟨pp_Wide, (rdN_at (rdN_grow g0 i_p) 0 (Nat.le_of_ble_eq_true rfl)).trans rfl, ?_⟩
  refine ⟨pp_High, (rdN_at (rdN_grow g0 i_p) 1 (Nat.le_of_ble_eq_true rfl)).trans rfl, ?_⟩
  refine T_spec_l04Sides_i ?_
  refine Br.intro (fun c_1 => ?_) (fun c_1 => ?_)
  · have e := e.trans (cond_t c_1)
    refine ⟨pp_Lights_a, l_pp_Lights.length, pp_Lights_e, (rdN_at (rdN_grow g0 i_p) 2 (Nat.le_of_ble_eq_true rfl)).trans rfl, ?_⟩
    refine ⟨pp_Wide, (rdN_at (rdN_grow g0 i_p) 0 (Nat.le_of_ble_eq_true rfl)).trans rfl, ?_⟩
    refine ⟨pp_High, (rdN_at (rdN_grow g0 i_p) 1 (Nat.le_of_ble_eq_true rfl)).trans rfl, ?_⟩
    refine Br.intro (fun c_2 => ?_) (fun c_2 => ?_)
    · have e := e.trans (cond_t c_2)
      have c_2' := ieq_t c_2
      refine ⟨pp_Lights_a, l_pp_Lights.length, pp_Lights_e, (rdN_at (rdN_grow g0 i_p) 2 (Nat.le_of_ble_eq_true rfl)).trans rfl, ?_⟩
      refine T_spec_l02Finite_i ⟨_, (i_pp_Lights.grow g0), (by first | omega | (simp only [List.length_set, List.length_replicate, List.length_append, List.length_cons, List.length_nil, List.length_take, List.length_drop, marks_length]; done) | (simp only [List.length_set, List.length_replicate, List.length_append, List.length_cons, List.length_nil, List.length_take, List.length_drop, marks_length]; omega)), ?_⟩
      rw [e] at hk
      exact hk
    · have e := e.trans (cond_f c_2)
      have c_2' := ieq_f c_2
      rw [e] at hk
      exact hk
  · have e := e.trans (cond_f c_1)
    rw [e] at hk
    exact hk
theorem spec_l04Is_ok : FnOk Try.prog 89 S_spec_l04Is := by
  refine FnOk.body mix_ok E_spec_l04Is_ok Try.func89 rfl (by kernel_rfl) (by kernel_rfl) ?_ ?_ ?_ ?_ ?_
  · intro args H K K' h hk
    simp only [S_spec_l04Is] at *
    unfold F_spec_l04Is at *
    split at hk
    · obtain ⟨pp_Wide, pp_High, pp_Lights_a, pp_Lights_n, pp_Lights_e, l_pp_Lights, i_p, i_pp_Lights, bd_3, k⟩ := hk
      exact ⟨pp_Wide, pp_High, pp_Lights_a, pp_Lights_n, pp_Lights_e, l_pp_Lights, i_p, i_pp_Lights, bd_3, h _ _ k⟩
    · exact hk.elim
  · intro _ args H K hk
    simp only [S_spec_l04Is] at *
    unfold F_spec_l04Is at *
    split at hk
    · obtain ⟨pp_Wide, pp_High, pp_Lights_a, pp_Lights_n, pp_Lights_e, l_pp_Lights, i_p, i_pp_Lights, bd_3, k⟩ := hk
      exact ⟨_, k, fun K' k' => ⟨pp_Wide, pp_High, pp_Lights_a, pp_Lights_n, pp_Lights_e, l_pp_Lights, i_p, i_pp_Lights, bd_3, k'⟩⟩
    · exact hk.elim
  · intro args H K hk
    simp only [S_spec_l04Is] at *
    unfold F_spec_l04Is at *
    split at hk
    · obtain ⟨pp_Wide, pp_High, pp_Lights_a, pp_Lights_n, pp_Lights_e, l_pp_Lights, i_p, i_pp_Lights, bd_3, k⟩ := hk
      exact ⟨_, _, k⟩
    · exact hk.elim
  · intro hq; cases hq
  · have mm := @spec_l04Is_main
    revert mm
    generalize bodyK Try.prog E_spec_l04Is Try.f89 = Q
    intro mm args H K hk
    simp only [S_spec_l04Is] at *
    unfold F_spec_l04Is at *
    split at hk
    · exact mm _ H K hk
    · exact hk.elim
def p_spec_l04Both (ap_Wide : Int) (ap_High : Int) (l_ap_Lights : List Nat) (bp_Wide : Int) (bp_High : Int) (l_bp_Lights : List Nat) : Bool := ((bif (p_spec_l04Is ap_Wide ap_High l_ap_Lights) then (bif (p_spec_l04Is bp_Wide bp_High l_bp_Lights) then (bif (ap_Wide : Int) == bp_Wide then (ap_High : Int) == bp_High else false) else false) else false))
theorem p_spec_l04Both_eq (ap_Wide : Int) (ap_High : Int) (l_ap_Lights : List Nat) (bp_Wide : Int) (bp_High : Int) (l_bp_Lights : List Nat) : p_spec_l04Both ap_Wide ap_High l_ap_Lights bp_Wide bp_High l_bp_Lights = ((bif (p_spec_l04Is ap_Wide ap_High l_ap_Lights) then (bif (p_spec_l04Is bp_Wide bp_High l_bp_Lights) then (bif (ap_Wide : Int) == bp_Wide then (ap_High : Int) == bp_High else false) else false) else false)) := rfl
def T_spec_l04Both (a : Nat) (b : Nat) (H : AHeap) (K : Bool → AHeap → Prop) : Prop := ∃ (ap_Wide : Int), ∃ (ap_High : Int), ∃ (ap_Lights_a : Option Addr), ∃ (ap_Lights_n : Nat), ∃ (ap_Lights_e : Nat), ∃ (bp_Wide : Int), ∃ (bp_High : Int), ∃ (bp_Lights_a : Option Addr), ∃ (bp_Lights_n : Nat), ∃ (bp_Lights_e : Nat), ∃ (l_ap_Lights : List Nat), ∃ (l_bp_Lights : List Nat), rdN H a 0 3 = some [.int .i64 ap_Wide, .int .i64 ap_High, .slice ap_Lights_a ap_Lights_n ap_Lights_e] ∧ rdN H b 0 3 = some [.int .i64 bp_Wide, .int .i64 bp_High, .slice bp_Lights_a bp_Lights_n bp_Lights_e] ∧ IsL fF H ap_Lights_a ap_Lights_n l_ap_Lights ∧ IsL fF H bp_Lights_a bp_Lights_n l_bp_Lights ∧ l_ap_Lights.length < 1073741824 ∧ l_bp_Lights.length < 1073741824 ∧ K (p_spec_l04Both ap_Wide ap_High l_ap_Lights bp_Wide bp_High l_bp_Lights) H
theorem T_spec_l04Both_i {a : Nat} {b : Nat} {H : AHeap} {K : Bool → AHeap → Prop} (h : ∃ (ap_Wide : Int), ∃ (ap_High : Int), ∃ (ap_Lights_a : Option Addr), ∃ (ap_Lights_n : Nat), ∃ (ap_Lights_e : Nat), ∃ (bp_Wide : Int), ∃ (bp_High : Int), ∃ (bp_Lights_a : Option Addr), ∃ (bp_Lights_n : Nat), ∃ (bp_Lights_e : Nat), ∃ (l_ap_Lights : List Nat), ∃ (l_bp_Lights : List Nat), rdN H a 0 3 = some [.int .i64 ap_Wide, .int .i64 ap_High, .slice ap_Lights_a ap_Lights_n ap_Lights_e] ∧ rdN H b 0 3 = some [.int .i64 bp_Wide, .int .i64 bp_High, .slice bp_Lights_a bp_Lights_n bp_Lights_e] ∧ IsL fF H ap_Lights_a ap_Lights_n l_ap_Lights ∧ IsL fF H bp_Lights_a bp_Lights_n l_bp_Lights ∧ l_ap_Lights.length < 1073741824 ∧ l_bp_Lights.length < 1073741824 ∧ K (p_spec_l04Both ap_Wide ap_High l_ap_Lights bp_Wide bp_High l_bp_Lights) H) : T_spec_l04Both a b H K := h
theorem spec_l04Both_t {aw ah : Int} {la : List Nat} {bw bh : Int} {lb : List Nat} (hh : p_spec_l04Both aw ah la bw bh lb = true) : (la.length : Int) = (lb.length : Int) ∧ (la.length : Int) ≤ 256 ∧ 1 ≤ (la.length : Int) := by
  rw [p_spec_l04Both_eq] at hh
  simp only [Bool.cond_false_right, Bool.and_eq_true] at hh
  obtain ⟨a, b, c, d⟩ := hh
  have a := spec_l04Is_t a
  have b := spec_l04Is_t b
  have c := eq_of_beq c
  have d := eq_of_beq d
  subst c; subst d
  omega
/-! spec_l04Both: function 136 -/
def E_spec_l04Both : Env := envOf [(89, S_spec_l04Is)]
def F_spec_l04Both : List Value → AHeap → (Value → AHeap → Prop) → Prop
  | [.pointer (some ⟨a, 0, none⟩), .pointer (some ⟨b, 0, none⟩)], H, K => T_spec_l04Both a b H fun (r1 : Bool) (H' : AHeap) => K (.bool r1) H'
  | _, _, _ => False
def S_spec_l04Both : FSpec := { F := F_spec_l04Both, quiet := true, tame := false }
theorem spec_l04Both_vc (a : Nat) (b : Nat) (H : AHeap) (K : Value → AHeap → Prop) : bodyK Try.prog E_spec_l04Both Try.f136 [.pointer (some ⟨a, 0, none⟩), .pointer (some ⟨b, 0, none⟩)] H K =
  (T_spec_l04Is a H fun (r1 : Bool) (H1 : AHeap) => Br r1 (T_spec_l04Is b H1 fun (r2 : Bool) (H2 : AHeap) => Br r2 (∃ x1 : Int,  rdC H2 a 0 = some (.int .i64 x1) ∧ ∃ x2 : Int,  rdC H2 b 0 = some (.int .i64 x2) ∧ Br ((x1 : Int) == x2) (∃ x3 : Int,  rdC H2 a 1 = some (.int .i64 x3) ∧ ∃ x4 : Int,  rdC H2 b 1 = some (.int .i64 x4) ∧ K (.bool ((x3 : Int) == x4)) H2) (K (.bool false) H2)) (K (.bool false) H2)) (K (.bool false) H1)) := by kernel_rfl
theorem E_spec_l04Both_ok : ∀ g, FnOk Try.prog g (E_spec_l04Both g) := FnOk.envOf (by
  intro x hx
  simp only [List.mem_cons, List.not_mem_nil, or_false] at hx
  subst hx; exact spec_l04Is_ok)
set_option maxHeartbeats 1000000 in
theorem spec_l04Both_main (a : Nat) (b : Nat) (H : AHeap) (K : Value → AHeap → Prop) (h : T_spec_l04Both a b H fun (r1 : Bool) (H' : AHeap) => K (.bool r1) H') : bodyK Try.prog E_spec_l04Both Try.f136 [.pointer (some ⟨a, 0, none⟩), .pointer (some ⟨b, 0, none⟩)] H K := by
  rw [spec_l04Both_vc]
  obtain ⟨ap_Wide, ap_High, ap_Lights_a, ap_Lights_n, ap_Lights_e, bp_Wide, bp_High, bp_Lights_a, bp_Lights_n, bp_Lights_e, l_ap_Lights, l_bp_Lights, i_a, i_b, i_ap_Lights, i_bp_Lights, bd_4, bd_5, hk⟩ := h
  obtain rfl := i_ap_Lights.eqn
  obtain rfl := i_bp_Lights.eqn
  have e : (p_spec_l04Both ap_Wide ap_High l_ap_Lights bp_Wide bp_High l_bp_Lights) = _ := rfl
  have e := e.trans (p_spec_l04Both_eq ap_Wide ap_High l_ap_Lights bp_Wide bp_High l_bp_Lights)
  have g0 := Grow.refl H
  refine T_spec_l04Is_i ⟨ap_Wide, ap_High, ap_Lights_a, l_ap_Lights.length, ap_Lights_e, _, (rdN_grow g0 i_a), (i_ap_Lights.grow g0), (by first | omega | (simp only [List.length_set, List.length_replicate, List.length_append, List.length_cons, List.length_nil, List.length_take, List.length_drop, marks_length]; done) | (simp only [List.length_set, List.length_replicate, List.length_append, List.length_cons, List.length_nil, List.length_take, List.length_drop, marks_length]; omega)), ?_⟩
  refine Br.intro (fun c_1 => ?_) (fun c_1 => ?_)
  · have e := e.trans (cond_t c_1)
    have c_1' := spec_l04Is_t c_1
    refine T_spec_l04Is_i ⟨bp_Wide, bp_High, bp_Lights_a, l_bp_Lights.length, bp_Lights_e, _, (rdN_grow g0 i_b), (i_bp_Lights.grow g0), (by first | omega | (simp only [List.length_set, List.length_replicate, List.length_append, List.length_cons, List.length_nil, List.length_take, List.length_drop, marks_length]; done) | (simp only [List.length_set, List.length_replicate, List.length_append, List.length_cons, List.length_nil, List.length_take, List.length_drop, marks_length]; omega)), ?_⟩
    refine Br.intro (fun c_2 => ?_) (fun c_2 => ?_)
    · have e := e.trans (cond_t c_2)
      have c_2' := spec_l04Is_t c_2
      refine ⟨ap_Wide, (rdN_at (rdN_grow g0 i_a) 0 (Nat.le_of_ble_eq_true rfl)).trans rfl, ?_⟩
      refine ⟨bp_Wide, (rdN_at (rdN_grow g0 i_b) 0 (Nat.le_of_ble_eq_true rfl)).trans rfl, ?_⟩
      refine Br.intro (fun c_3 => ?_) (fun c_3 => ?_)
      · have e := e.trans (cond_t c_3)
        have c_3' := ieq_t c_3
        refine ⟨ap_High, (rdN_at (rdN_grow g0 i_a) 1 (Nat.le_of_ble_eq_true rfl)).trans rfl, ?_⟩
        refine ⟨bp_High, (rdN_at (rdN_grow g0 i_b) 1 (Nat.le_of_ble_eq_true rfl)).trans rfl, ?_⟩
        rw [e] at hk
        exact hk
      · have e := e.trans (cond_f c_3)
        have c_3' := ieq_f c_3
        rw [e] at hk
        exact hk
    · have e := e.trans (cond_f c_2)
      rw [e] at hk
      exact hk
  · have e := e.trans (cond_f c_1)
    rw [e] at hk
    exact hk
theorem spec_l04Both_ok : FnOk Try.prog 136 S_spec_l04Both := by
  refine FnOk.body mix_ok E_spec_l04Both_ok Try.func136 rfl (by kernel_rfl) (by kernel_rfl) ?_ ?_ ?_ ?_ ?_
  · intro args H K K' h hk
    simp only [S_spec_l04Both] at *
    unfold F_spec_l04Both at *
    split at hk
    · obtain ⟨ap_Wide, ap_High, ap_Lights_a, ap_Lights_n, ap_Lights_e, bp_Wide, bp_High, bp_Lights_a, bp_Lights_n, bp_Lights_e, l_ap_Lights, l_bp_Lights, i_a, i_b, i_ap_Lights, i_bp_Lights, bd_4, bd_5, k⟩ := hk
      exact ⟨ap_Wide, ap_High, ap_Lights_a, ap_Lights_n, ap_Lights_e, bp_Wide, bp_High, bp_Lights_a, bp_Lights_n, bp_Lights_e, l_ap_Lights, l_bp_Lights, i_a, i_b, i_ap_Lights, i_bp_Lights, bd_4, bd_5, h _ _ k⟩
    · exact hk.elim
  · intro _ args H K hk
    simp only [S_spec_l04Both] at *
    unfold F_spec_l04Both at *
    split at hk
    · obtain ⟨ap_Wide, ap_High, ap_Lights_a, ap_Lights_n, ap_Lights_e, bp_Wide, bp_High, bp_Lights_a, bp_Lights_n, bp_Lights_e, l_ap_Lights, l_bp_Lights, i_a, i_b, i_ap_Lights, i_bp_Lights, bd_4, bd_5, k⟩ := hk
      exact ⟨_, k, fun K' k' => ⟨ap_Wide, ap_High, ap_Lights_a, ap_Lights_n, ap_Lights_e, bp_Wide, bp_High, bp_Lights_a, bp_Lights_n, bp_Lights_e, l_ap_Lights, l_bp_Lights, i_a, i_b, i_ap_Lights, i_bp_Lights, bd_4, bd_5, k'⟩⟩
    · exact hk.elim
  · intro args H K hk
    simp only [S_spec_l04Both] at *
    unfold F_spec_l04Both at *
    split at hk
    · obtain ⟨ap_Wide, ap_High, ap_Lights_a, ap_Lights_n, ap_Lights_e, bp_Wide, bp_High, bp_Lights_a, bp_Lights_n, bp_Lights_e, l_ap_Lights, l_bp_Lights, i_a, i_b, i_ap_Lights, i_bp_Lights, bd_4, bd_5, k⟩ := hk
      exact ⟨_, _, k⟩
    · exact hk.elim
  · intro hq; cases hq
  · have mm := @spec_l04Both_main
    revert mm
    generalize bodyK Try.prog E_spec_l04Both Try.f136 = Q
    intro mm args H K hk
    simp only [S_spec_l04Both] at *
    unfold F_spec_l04Both at *
    split at hk
    · exact mm _ _ H K hk
    · exact hk.elim
def p_spec_l02Energy_l1 (l_list : List Nat) : Nat → Nat → Int → Nat
  | 0, _, _ => 0
  | μ + 1, sum, i => (bif decide ((i : Int) < (l_list.length : Int)) then (p_spec_l02Energy_l1 l_list μ (fadd .f32 sum (fmul .f32 (((l_list).getD (i : Int).toNat 0)) (((l_list).getD (i : Int).toNat 0)))) (i + 1)) else sum)
theorem p_spec_l02Energy_l1_s (l_list : List Nat) (μ : Nat) (sum : Nat) (i : Int) : p_spec_l02Energy_l1 l_list (μ + 1) sum i = (bif decide ((i : Int) < (l_list.length : Int)) then (p_spec_l02Energy_l1 l_list μ (fadd .f32 sum (fmul .f32 (((l_list).getD (i : Int).toNat 0)) (((l_list).getD (i : Int).toNat 0)))) (i + 1)) else sum) := rfl
def p_spec_l02Energy (l_list : List Nat) : Nat := (p_spec_l02Energy_l1 l_list (Int.toNat ((l_list.length : Int) - (0 : Int)) + 1) 0 (0 : Int))
theorem p_spec_l02Energy_eq (l_list : List Nat) : p_spec_l02Energy l_list = (p_spec_l02Energy_l1 l_list (Int.toNat ((l_list.length : Int) - (0 : Int)) + 1) 0 (0 : Int)) := rfl
def T_spec_l02Energy (list_a : Option Addr) (list_n : Nat) (list_e : Nat) (H : AHeap) (K : Nat → AHeap → Prop) : Prop := ∃ (l_list : List Nat), IsL fF H list_a list_n l_list ∧ l_list.length < 1073741824 ∧ K (p_spec_l02Energy l_list) H
theorem T_spec_l02Energy_i {list_a : Option Addr} {list_n : Nat} {list_e : Nat} {H : AHeap} {K : Nat → AHeap → Prop} (h : ∃ (l_list : List Nat), IsL fF H list_a list_n l_list ∧ l_list.length < 1073741824 ∧ K (p_spec_l02Energy l_list) H) : T_spec_l02Energy list_a list_n list_e H K := h

/-! spec_l02Energy: function 92 -/
def E_spec_l02Energy : Env := envOf []
def F_spec_l02Energy : List Value → AHeap → (Value → AHeap → Prop) → Prop
  | [.slice list_a list_n list_e], H, K => T_spec_l02Energy list_a list_n list_e H fun (r1 : Nat) (H' : AHeap) => K (.float .f32 r1) H'
  | _, _, _ => False
def S_spec_l02Energy : FSpec := { F := F_spec_l02Energy, quiet := true, tame := false }
theorem spec_l02Energy_vc (list_a : Option Addr) (list_n : Nat) (list_e : Nat) (H : AHeap) (K : Value → AHeap → Prop) : bodyK Try.prog E_spec_l02Energy Try.f92 [.slice list_a list_n list_e] H K =
  (loopK (exK Try.prog E_spec_l02Energy (cl (cl (cr (cl (cr (cr (bodyC Try.f92)))))))) [.slice list_a list_n list_e, undef, .float .f32 0, .float .f32 0, .int .i64 0, undef, undef, undef, undef, undef, undef, undef, undef, undef, undef, undef, undef, undef, undef, undef, undef, undef, undef] H (blockQ 0 (seqQ (exK Try.prog E_spec_l02Energy (cr (cr (cr (bodyC Try.f92))))) (retK Try.prog Try.f92 K)))) := by kernel_rfl
theorem spec_l02Energy_r1 (list_a : Option Addr) (list_e : Nat) (list_n : Nat) (sum : Nat) (i : Int) (g5 g6 g7 g8 g9 g10 g11 g12 g13 g14 g15 g16 g17 g18 g19 g20 g21 : Value) (H : AHeap) (R : Post) : exK Try.prog E_spec_l02Energy (cl (cl (cr (cl (cr (cr (bodyC Try.f92))))))) [.slice list_a list_n list_e, undef, .float .f32 0, .float .f32 sum, .int .i64 i, g5, g6, g7, g8, g9, g10, g11, g12, g13, g14, g15, g16, g17, g18, g19, g20, g21, undef] H R =
  (Br (decide ((i : Int) < (list_n : Int))) ((0 : Int) ≤ i ∧ i < (list_n : Int) ∧ ∃ b1 f1, (list_a : Option Addr) = some ⟨b1, f1, none⟩ ∧ ∃ x1 : Nat,  rdC H b1 (f1 + (i : Int).toNat * 1) = some (.float .f32 x1) ∧ (0 : Int) ≤ i ∧ i < (list_n : Int) ∧ ∃ b2 f2, (list_a : Option Addr) = some ⟨b2, f2, none⟩ ∧ ∃ x2 : Nat,  rdC H b2 (f2 + (i : Int).toNat * 1) = some (.float .f32 x2) ∧ R .normal [.slice list_a list_n list_e, undef, .float .f32 0, .float .f32 (fadd .f32 sum (fmul .f32 x1 x2)), .int .i64 (IntKind.wrap .i64 (i + 1)), .int .i64 i, .slice list_a list_n list_e, .int .i64 (list_n : Int), .bool (decide ((i : Int) < (list_n : Int))), .int .i64 i, .int .i64 (IntKind.wrap .i64 (i + 1)), .float .f32 sum, .slice list_a list_n list_e, .int .i64 i, .pointer (some ⟨b1, f1 + (i : Int).toNat * 1, none⟩), .float .f32 x1, .slice list_a list_n list_e, .int .i64 i, .pointer (some ⟨b2, f2 + (i : Int).toNat * 1, none⟩), .float .f32 x2, .float .f32 (fmul .f32 x1 x2), .float .f32 (fadd .f32 sum (fmul .f32 x1 x2)), undef] H) (R (.exit 0) [.slice list_a list_n list_e, undef, .float .f32 0, .float .f32 sum, .int .i64 i, .int .i64 i, .slice list_a list_n list_e, .int .i64 (list_n : Int), .bool (decide ((i : Int) < (list_n : Int))), g9, g10, g11, g12, g13, g14, g15, g16, g17, g18, g19, g20, g21, undef] H)) := by kernel_rfl
def spec_l02Energy_I1 (list_a : Option Addr) (list_e : Nat) (list_n : Nat) (Inv : Nat → Nat → Int → AHeap → Prop) : Nat → List Value → AHeap → Prop := fun μ tm H => ∃ (sum : Nat), ∃ (i : Int), ∃ g5 g6 g7 g8 g9 g10 g11 g12 g13 g14 g15 g16 g17 g18 g19 g20 g21, tm = [.slice list_a list_n list_e, undef, .float .f32 0, .float .f32 sum, .int .i64 i, g5, g6, g7, g8, g9, g10, g11, g12, g13, g14, g15, g16, g17, g18, g19, g20, g21, undef] ∧ Inv μ sum i H
theorem spec_l02Energy_L1 (list_a : Option Addr) (list_e : Nat) (list_n : Nat) {Q : Post} (Inv : Nat → Nat → Int → AHeap → Prop) (ν : Nat) (sum : Nat) (i : Int) (g5 g6 g7 g8 g9 g10 g11 g12 g13 g14 g15 g16 g17 g18 g19 g20 g21 : Value) (H : AHeap) (h0 : Inv ν sum i H)
    (hs : ∀ (μ : Nat) (sum : Nat) (i : Int) (g5 g6 g7 g8 g9 g10 g11 g12 g13 g14 g15 g16 g17 g18 g19 g20 g21 : Value) (H : AHeap), Inv μ sum i H → exK Try.prog E_spec_l02Energy (cl (cl (cr (cl (cr (cr (bodyC Try.f92))))))) [.slice list_a list_n list_e, undef, .float .f32 0, .float .f32 sum, .int .i64 i, g5, g6, g7, g8, g9, g10, g11, g12, g13, g14, g15, g16, g17, g18, g19, g20, g21, undef] H (loopQ (spec_l02Energy_I1 list_a list_e list_n Inv) μ Q)) : loopK (exK Try.prog E_spec_l02Energy (cl (cl (cr (cl (cr (cr (bodyC Try.f92)))))))) [.slice list_a list_n list_e, undef, .float .f32 0, .float .f32 sum, .int .i64 i, g5, g6, g7, g8, g9, g10, g11, g12, g13, g14, g15, g16, g17, g18, g19, g20, g21, undef] H Q :=
  ⟨spec_l02Energy_I1 list_a list_e list_n Inv, ν, ⟨sum, i, g5, g6, g7, g8, g9, g10, g11, g12, g13, g14, g15, g16, g17, g18, g19, g20, g21, rfl, h0⟩, fun μ tm H h => by obtain ⟨sum, i, g5, g6, g7, g8, g9, g10, g11, g12, g13, g14, g15, g16, g17, g18, g19, g20, g21, rfl, hI⟩ := h; exact hs μ sum i g5 g6 g7 g8 g9 g10 g11 g12 g13 g14 g15 g16 g17 g18 g19 g20 g21 H hI⟩
theorem spec_l02Energy_n1 {list_a : Option Addr} {list_e : Nat} {list_n : Nat} {Q : Post} {Inv : Nat → Nat → Int → AHeap → Prop} {μ : Nat} (μ' : Nat) {sum : Nat} {i : Int} {g5 g6 g7 g8 g9 g10 g11 g12 g13 g14 g15 g16 g17 g18 g19 g20 g21 : Value} {H : AHeap} (hm : μ' < μ) (hI : Inv μ' sum i H) : loopQ (spec_l02Energy_I1 list_a list_e list_n Inv) μ Q .normal [.slice list_a list_n list_e, undef, .float .f32 0, .float .f32 sum, .int .i64 i, g5, g6, g7, g8, g9, g10, g11, g12, g13, g14, g15, g16, g17, g18, g19, g20, g21, undef] H := ⟨μ', hm, sum, i, g5, g6, g7, g8, g9, g10, g11, g12, g13, g14, g15, g16, g17, g18, g19, g20, g21, rfl, hI⟩
theorem spec_l02Energy_x1_0 (list_a : Option Addr) (list_e : Nat) (list_n : Nat) (sum : Nat) (i : Int) (g5 g6 g7 g8 g9 g10 g11 g12 g13 g14 g15 g16 g17 g18 g19 g20 g21 : Value) (H : AHeap) (K : Value → AHeap → Prop)  {I : Nat → List Value → AHeap → Prop} {μ : Nat} : loopQ I μ (blockQ 0 (seqQ (exK Try.prog E_spec_l02Energy (cr (cr (cr (bodyC Try.f92))))) (retK Try.prog Try.f92 K))) (.exit 0) [.slice list_a list_n list_e, undef, .float .f32 0, .float .f32 sum, .int .i64 i, g5, g6, g7, g8, g9, g10, g11, g12, g13, g14, g15, g16, g17, g18, g19, g20, g21, undef] H =
  (K (.float .f32 sum) H) := by kernel_rfl
theorem E_spec_l02Energy_ok : ∀ g, FnOk Try.prog g (E_spec_l02Energy g) := FnOk.envOf (by
  intro x hx; cases hx)
set_option maxHeartbeats 1000000 in
theorem spec_l02Energy_main (list_a : Option Addr) (list_n : Nat) (list_e : Nat) (H : AHeap) (K : Value → AHeap → Prop) (h : T_spec_l02Energy list_a list_n list_e H fun (r1 : Nat) (H' : AHeap) => K (.float .f32 r1) H') : bodyK Try.prog E_spec_l02Energy Try.f92 [.slice list_a list_n list_e] H K := by
  rw [spec_l02Energy_vc]
  obtain ⟨l_list, i_list, bd_11, hk⟩ := h
  obtain rfl := i_list.eqn
  have e : (p_spec_l02Energy l_list) = _ := rfl
  have e := e.trans (p_spec_l02Energy_eq l_list)
  have g0 := Grow.refl H
  refine spec_l02Energy_L1 _ _ _ (fun (μ : Nat) (sum : Nat) (i : Int) (H_1 : AHeap) => H = H_1 ∧ (0 : Int) ≤ i ∧ i ≤ (l_list.length : Int) ∧ (l_list.length : Int) - i ≤ (μ : Int) ∧ p_spec_l02Energy l_list = p_spec_l02Energy_l1 l_list (μ + 1) sum i) (Int.toNat ((l_list.length : Int) - (0 : Int))) _ _ _ _ _ _ _ _ _ _ _ _ _ _ _ _ _ _ _ H ?_ ?_
  · exact ⟨rfl, (by first | omega | (simp; done) | (simp; omega)), (by first | omega | (simp; done) | (simp; omega)), (by omega), e⟩
  · intro μ sum i g5 g6 g7 g8 g9 g10 g11 g12 g13 g14 g15 g16 g17 g18 g19 g20 g21 H_1 hI
    obtain ⟨rfl, v_1, v_2, hμ, e⟩ := hI
    rw [spec_l02Energy_r1]
    have e := e.trans (p_spec_l02Energy_l1_s l_list μ sum i)
    have l_3 := g0.1
    refine Br.intro (fun c_4 => ?_) (fun c_4 => ?_)
    · have e := e.trans (cond_t c_4)
      have c_4' := of_decide_eq_true c_4
      obtain ⟨b_5, f_6, q_7⟩ := ((i_list.grow g0)).pos (by first | omega | (simp only [List.length_set, List.length_replicate, List.length_append, List.length_cons, List.length_nil, List.length_take, List.length_drop, marks_length]; done) | (simp only [List.length_set, List.length_replicate, List.length_append, List.length_cons, List.length_nil, List.length_take, List.length_drop, marks_length]; omega))
      refine ⟨by omega, by omega, b_5, f_6, q_7, ?_⟩
      refine ⟨((l_list).getD (i : Int).toNat 0), (i_list).rd g0 q_7 (by omega) _, ?_⟩
      obtain ⟨b_8, f_9, q_10⟩ := ((i_list.grow g0)).pos (by first | omega | (simp only [List.length_set, List.length_replicate, List.length_append, List.length_cons, List.length_nil, List.length_take, List.length_drop, marks_length]; done) | (simp only [List.length_set, List.length_replicate, List.length_append, List.length_cons, List.length_nil, List.length_take, List.length_drop, marks_length]; omega))
      refine ⟨by omega, by omega, b_8, f_9, q_10, ?_⟩
      refine ⟨((l_list).getD (i : Int).toNat 0), (i_list).rd g0 q_10 (by omega) _, ?_⟩
      rw [show IntKind.wrap .i64 (i + 1) = (i + 1) from wrap64 (by omega) (by omega)]
      refine spec_l02Energy_n1 (μ - 1) (by first | omega) ⟨rfl, (by first | omega | (simp only [List.length_append, List.length_cons, List.length_nil, List.length_set]; done) | (simp only [List.length_append, List.length_cons, List.length_nil, List.length_set]; omega)), (by first | omega | (simp only [List.length_append, List.length_cons, List.length_nil, List.length_set]; done) | (simp only [List.length_append, List.length_cons, List.length_nil, List.length_set]; omega)), (by first | omega), (by rw [show μ - 1 + 1 = μ from by first | omega]; exact e)⟩
    · have e := e.trans (cond_f c_4)
      have c_4' := of_decide_eq_false c_4
      rw [spec_l02Energy_x1_0]
      rw [e] at hk
      exact hk
theorem spec_l02Energy_ok : FnOk Try.prog 92 S_spec_l02Energy := by
  refine FnOk.body mix_ok E_spec_l02Energy_ok Try.func92 rfl (by kernel_rfl) (by kernel_rfl) ?_ ?_ ?_ ?_ ?_
  · intro args H K K' h hk
    simp only [S_spec_l02Energy] at *
    unfold F_spec_l02Energy at *
    split at hk
    · obtain ⟨l_list, i_list, bd_11, k⟩ := hk
      exact ⟨l_list, i_list, bd_11, h _ _ k⟩
    · exact hk.elim
  · intro _ args H K hk
    simp only [S_spec_l02Energy] at *
    unfold F_spec_l02Energy at *
    split at hk
    · obtain ⟨l_list, i_list, bd_11, k⟩ := hk
      exact ⟨_, k, fun K' k' => ⟨l_list, i_list, bd_11, k'⟩⟩
    · exact hk.elim
  · intro args H K hk
    simp only [S_spec_l02Energy] at *
    unfold F_spec_l02Energy at *
    split at hk
    · obtain ⟨l_list, i_list, bd_11, k⟩ := hk
      exact ⟨_, _, k⟩
    · exact hk.elim
  · intro hq; cases hq
  · have mm := @spec_l02Energy_main
    revert mm
    generalize bodyK Try.prog E_spec_l02Energy Try.f92 = Q
    intro mm args H K hk
    simp only [S_spec_l02Energy] at *
    unfold F_spec_l02Energy at *
    split at hk
    · exact mm _ _ _ H K hk
    · exact hk.elim
def p_math_sqrt (x : Nat) : Nat := fsqrt .f64 x
def T_math_sqrt (x : Nat) (H : AHeap) (K : Nat → AHeap → Prop) : Prop := K (p_math_sqrt x) H
theorem T_math_sqrt_i {x : Nat} {H : AHeap} {K : Nat → AHeap → Prop} (h : K (p_math_sqrt x) H) : T_math_sqrt x H K := h
def F_math_sqrt : List Value → AHeap → (Value → AHeap → Prop) → Prop
  | [.float .f64 x], H, K => T_math_sqrt x H fun r1 H' => K (.float .f64 r1) H'
  | _, _, _ => False
def S_math_sqrt : FSpec := { F := F_math_sqrt, quiet := true }
theorem math_sqrt_ok : FnOk Try.prog 140 S_math_sqrt := by
  refine FnOk.ext1 (f := p_math_sqrt) (e := Extern.MathSqrt.sqrt) rfl ?_ (fun x H K h => h) Try.func140 (by kernel_rfl) (by kernel_rfl) (by kernel_rfl) (by kernel_rfl) (fun b w => ext_sqrt b w)
  intro args H K h
  simp only [S_math_sqrt] at h
  unfold F_math_sqrt at h
  split at h
  · exact ⟨_, rfl, h⟩
  · exact h.elim

def p_math_Sqrt (x : Nat) : Nat := (p_math_sqrt x)
theorem p_math_Sqrt_eq (x : Nat) : p_math_Sqrt x = (p_math_sqrt x) := rfl
def T_math_Sqrt (x : Nat) (H : AHeap) (K : Nat → AHeap → Prop) : Prop := K (p_math_Sqrt x) H

theorem T_math_Sqrt_i {x : Nat} {H : AHeap} {K : Nat → AHeap → Prop} (h : K (p_math_Sqrt x) H) : T_math_Sqrt x H K := h
/-! math_Sqrt: function 120 -/
def E_math_Sqrt : Env := envOf [(140, S_math_sqrt)]
def F_math_Sqrt : List Value → AHeap → (Value → AHeap → Prop) → Prop
  | [.float .f64 x], H, K => T_math_Sqrt x H fun (r1 : Nat) (H' : AHeap) => K (.float .f64 r1) H'
  | _, _, _ => False
def S_math_Sqrt : FSpec := { F := F_math_Sqrt, quiet := true, tame := false }
theorem math_Sqrt_vc (x : Nat) (H : AHeap) (K : Value → AHeap → Prop) : bodyK Try.prog E_math_Sqrt Try.f120 [.float .f64 x] H K =
  (T_math_sqrt x H fun (r1 : Nat) (H1 : AHeap) => K (.float .f64 r1) H1) := by kernel_rfl
theorem E_math_Sqrt_ok : ∀ g, FnOk Try.prog g (E_math_Sqrt g) := FnOk.envOf (by
  intro x hx
  simp only [List.mem_cons, List.not_mem_nil, or_false] at hx
  subst hx; exact math_sqrt_ok)
set_option maxHeartbeats 1000000 in
theorem math_Sqrt_main (x : Nat) (H : AHeap) (K : Value → AHeap → Prop) (h : T_math_Sqrt x H fun (r1 : Nat) (H' : AHeap) => K (.float .f64 r1) H') : bodyK Try.prog E_math_Sqrt Try.f120 [.float .f64 x] H K := by
  rw [math_Sqrt_vc]
  simp only [T_math_sqrt]
  unfold T_math_Sqrt p_math_Sqrt at h
  repeat' (first | exact h | (exfalso; simp_all; done) | (refine ⟨by decide, ?_⟩) | (refine Br.intro (fun hb => ?_) (fun hb => ?_) <;> (try simp only [hb, cond_true, cond_false, Bool.not_true, Bool.not_false] at h)))
theorem math_Sqrt_ok : FnOk Try.prog 120 S_math_Sqrt := by
  refine FnOk.body mix_ok E_math_Sqrt_ok Try.func120 rfl (by kernel_rfl) (by kernel_rfl) ?_ ?_ ?_ ?_ ?_
  · intro args H K K' h hk
    simp only [S_math_Sqrt] at *
    unfold F_math_Sqrt at *
    split at hk
    · have k := hk
      exact h _ _ k
    · exact hk.elim
  · intro _ args H K hk
    simp only [S_math_Sqrt] at *
    unfold F_math_Sqrt at *
    split at hk
    · have k := hk
      exact ⟨_, k, fun K' k' => k'⟩
    · exact hk.elim
  · intro args H K hk
    simp only [S_math_Sqrt] at *
    unfold F_math_Sqrt at *
    split at hk
    · have k := hk
      exact ⟨_, _, k⟩
    · exact hk.elim
  · intro hq; cases hq
  · have mm := @math_Sqrt_main
    revert mm
    generalize bodyK Try.prog E_math_Sqrt Try.f120 = Q
    intro mm args H K hk
    simp only [S_math_Sqrt] at *
    unfold F_math_Sqrt at *
    split at hk
    · exact mm _ H K hk
    · exact hk.elim
def p_spec_l01Narrow (x : Nat) : Nat := ((fnarrow x).getD 0)
theorem p_spec_l01Narrow_eq (x : Nat) : p_spec_l01Narrow x = ((fnarrow x).getD 0) := rfl
def T_spec_l01Narrow (x : Nat) (H : AHeap) (K : Nat → AHeap → Prop) : Prop := fnarrow x ≠ none ∧ K (p_spec_l01Narrow x) H
theorem T_spec_l01Narrow_i {x : Nat} {H : AHeap} {K : Nat → AHeap → Prop} (h : fnarrow x ≠ none ∧ K (p_spec_l01Narrow x) H) : T_spec_l01Narrow x H K := h

/-! spec_l01Narrow: function 113 -/
def E_spec_l01Narrow : Env := envOf []
def F_spec_l01Narrow : List Value → AHeap → (Value → AHeap → Prop) → Prop
  | [.float .f64 x], H, K => T_spec_l01Narrow x H fun (r1 : Nat) (H' : AHeap) => K (.float .f32 r1) H'
  | _, _, _ => False
def S_spec_l01Narrow : FSpec := { F := F_spec_l01Narrow, quiet := true, tame := false }
theorem spec_l01Narrow_vc (x : Nat) (H : AHeap) (K : Value → AHeap → Prop) : bodyK Try.prog E_spec_l01Narrow Try.f113 [.float .f64 x] H K =
  (∃ x1 : Nat, fnarrow x = some x1 ∧ K (.float .f32 x1) H) := by kernel_rfl
theorem E_spec_l01Narrow_ok : ∀ g, FnOk Try.prog g (E_spec_l01Narrow g) := FnOk.envOf (by
  intro x hx; cases hx)
set_option maxHeartbeats 1000000 in
theorem spec_l01Narrow_main (x : Nat) (H : AHeap) (K : Value → AHeap → Prop) (h : T_spec_l01Narrow x H fun (r1 : Nat) (H' : AHeap) => K (.float .f32 r1) H') : bodyK Try.prog E_spec_l01Narrow Try.f113 [.float .f64 x] H K := by
  rw [spec_l01Narrow_vc]
  obtain ⟨pr0, hk⟩ := h
  have e : (p_spec_l01Narrow x) = _ := rfl
  have e := e.trans (p_spec_l01Narrow_eq x)
  have g0 := Grow.refl H
  refine ⟨_, opt_get (d := 0) (by assumption), ?_⟩
  rw [e] at hk
  exact hk
theorem spec_l01Narrow_ok : FnOk Try.prog 113 S_spec_l01Narrow := by
  refine FnOk.body mix_ok E_spec_l01Narrow_ok Try.func113 rfl (by kernel_rfl) (by kernel_rfl) ?_ ?_ ?_ ?_ ?_
  · intro args H K K' h hk
    simp only [S_spec_l01Narrow] at *
    unfold F_spec_l01Narrow at *
    split at hk
    · obtain ⟨pr0, k⟩ := hk
      exact ⟨pr0, h _ _ k⟩
    · exact hk.elim
  · intro _ args H K hk
    simp only [S_spec_l01Narrow] at *
    unfold F_spec_l01Narrow at *
    split at hk
    · obtain ⟨pr0, k⟩ := hk
      exact ⟨_, k, fun K' k' => ⟨pr0, k'⟩⟩
    · exact hk.elim
  · intro args H K hk
    simp only [S_spec_l01Narrow] at *
    unfold F_spec_l01Narrow at *
    split at hk
    · obtain ⟨pr0, k⟩ := hk
      exact ⟨_, _, k⟩
    · exact hk.elim
  · intro hq; cases hq
  · have mm := @spec_l01Narrow_main
    revert mm
    generalize bodyK Try.prog E_spec_l01Narrow Try.f113 = Q
    intro mm args H K hk
    simp only [S_spec_l01Narrow] at *
    unfold F_spec_l01Narrow at *
    split at hk
    · exact mm _ H K hk
    · exact hk.elim
def p_spec_l01Sqrt (x : Nat) : Nat := (p_spec_l01Narrow ((p_math_Sqrt (fwide x))))
theorem p_spec_l01Sqrt_eq (x : Nat) : p_spec_l01Sqrt x = (p_spec_l01Narrow ((p_math_Sqrt (fwide x)))) := rfl
def T_spec_l01Sqrt (x : Nat) (H : AHeap) (K : Nat → AHeap → Prop) : Prop := K (p_spec_l01Sqrt x) H
theorem T_spec_l01Sqrt_i {x : Nat} {H : AHeap} {K : Nat → AHeap → Prop} (h : K (p_spec_l01Sqrt x) H) : T_spec_l01Sqrt x H K := h

/-! spec_l01Sqrt: function 80 -/
def E_spec_l01Sqrt : Env := envOf [(120, S_math_Sqrt), (113, S_spec_l01Narrow)]
def F_spec_l01Sqrt : List Value → AHeap → (Value → AHeap → Prop) → Prop
  | [.float .f32 x], H, K => T_spec_l01Sqrt x H fun (r1 : Nat) (H' : AHeap) => K (.float .f32 r1) H'
  | _, _, _ => False
def S_spec_l01Sqrt : FSpec := { F := F_spec_l01Sqrt, quiet := true, tame := false }
theorem spec_l01Sqrt_vc (x : Nat) (H : AHeap) (K : Value → AHeap → Prop) : bodyK Try.prog E_spec_l01Sqrt Try.f80 [.float .f32 x] H K =
  (T_math_Sqrt (fwide x) H fun (r1 : Nat) (H1 : AHeap) => T_spec_l01Narrow r1 H1 fun (r2 : Nat) (H2 : AHeap) => K (.float .f32 r2) H2) := by kernel_rfl
theorem E_spec_l01Sqrt_ok : ∀ g, FnOk Try.prog g (E_spec_l01Sqrt g) := FnOk.envOf (by
  intro x hx
  simp only [List.mem_cons, List.not_mem_nil, or_false] at hx
  rcases hx with rfl | rfl
  · exact math_Sqrt_ok
  · exact spec_l01Narrow_ok)
set_option maxHeartbeats 1000000 in
theorem spec_l01Sqrt_main (x : Nat) (H : AHeap) (K : Value → AHeap → Prop) (h : T_spec_l01Sqrt x H fun (r1 : Nat) (H' : AHeap) => K (.float .f32 r1) H') : bodyK Try.prog E_spec_l01Sqrt Try.f80 [.float .f32 x] H K := by
  rw [spec_l01Sqrt_vc]
  have hk := h
  unfold T_spec_l01Sqrt at hk
  have e : (p_spec_l01Sqrt x) = _ := rfl
  have e := e.trans (p_spec_l01Sqrt_eq x)
  have g0 := Grow.refl H
  refine T_math_Sqrt_i ?_
  refine T_spec_l01Narrow_i ⟨(by first | assumption | omega | (simp; omega) | (exact sqrt_nar _)), ?_⟩
  rw [e] at hk
  exact hk
theorem spec_l01Sqrt_ok : FnOk Try.prog 80 S_spec_l01Sqrt := by
  refine FnOk.body mix_ok E_spec_l01Sqrt_ok Try.func80 rfl (by kernel_rfl) (by kernel_rfl) ?_ ?_ ?_ ?_ ?_
  · intro args H K K' h hk
    simp only [S_spec_l01Sqrt] at *
    unfold F_spec_l01Sqrt at *
    split at hk
    · have k := hk
      exact h _ _ k
    · exact hk.elim
  · intro _ args H K hk
    simp only [S_spec_l01Sqrt] at *
    unfold F_spec_l01Sqrt at *
    split at hk
    · have k := hk
      exact ⟨_, k, fun K' k' => k'⟩
    · exact hk.elim
  · intro args H K hk
    simp only [S_spec_l01Sqrt] at *
    unfold F_spec_l01Sqrt at *
    split at hk
    · have k := hk
      exact ⟨_, _, k⟩
    · exact hk.elim
  · intro hq; cases hq
  · have mm := @spec_l01Sqrt_main
    revert mm
    generalize bodyK Try.prog E_spec_l01Sqrt Try.f80 = Q
    intro mm args H K hk
    simp only [S_spec_l01Sqrt] at *
    unfold F_spec_l01Sqrt at *
    split at hk
    · exact mm _ H K hk
    · exact hk.elim
def p_spec_l04Far_l1 (ap_Wide : Int) (ap_High : Int) (l_ap_Lights : List Nat) (bp_Wide : Int) (bp_High : Int) (l_bp_Lights : List Nat) : Nat → (List Nat) → Int → Nat
  | 0, _, _ => 0
  | μ + 1, l_list, i => (bif decide ((i : Int) < (l_ap_Lights.length : Int)) then (p_spec_l04Far_l1 ap_Wide ap_High l_ap_Lights bp_Wide bp_High l_bp_Lights μ ((l_list ++ [(fsub .f32 (((l_ap_Lights).getD (i : Int).toNat 0)) (((l_bp_Lights).getD (i : Int).toNat 0)))])) (i + 1)) else (p_spec_l01Sqrt (fdiv .f32 (p_spec_l02Energy l_list) (FloatKind.nearest .f32 (l_list.length : Int)))))
theorem p_spec_l04Far_l1_s (ap_Wide : Int) (ap_High : Int) (l_ap_Lights : List Nat) (bp_Wide : Int) (bp_High : Int) (l_bp_Lights : List Nat) (μ : Nat) (l_list : List Nat) (i : Int) : p_spec_l04Far_l1 ap_Wide ap_High l_ap_Lights bp_Wide bp_High l_bp_Lights (μ + 1) l_list i = (bif decide ((i : Int) < (l_ap_Lights.length : Int)) then (p_spec_l04Far_l1 ap_Wide ap_High l_ap_Lights bp_Wide bp_High l_bp_Lights μ ((l_list ++ [(fsub .f32 (((l_ap_Lights).getD (i : Int).toNat 0)) (((l_bp_Lights).getD (i : Int).toNat 0)))])) (i + 1)) else (p_spec_l01Sqrt (fdiv .f32 (p_spec_l02Energy l_list) (FloatKind.nearest .f32 (l_list.length : Int))))) := rfl
def p_spec_l04Far (ap_Wide : Int) (ap_High : Int) (l_ap_Lights : List Nat) (bp_Wide : Int) (bp_High : Int) (l_bp_Lights : List Nat) : Nat := (p_spec_l04Far_l1 ap_Wide ap_High l_ap_Lights bp_Wide bp_High l_bp_Lights (Int.toNat ((l_ap_Lights.length : Int) - (0 : Int)) + 1) ([] : List Nat) (0 : Int))
theorem p_spec_l04Far_eq (ap_Wide : Int) (ap_High : Int) (l_ap_Lights : List Nat) (bp_Wide : Int) (bp_High : Int) (l_bp_Lights : List Nat) : p_spec_l04Far ap_Wide ap_High l_ap_Lights bp_Wide bp_High l_bp_Lights = (p_spec_l04Far_l1 ap_Wide ap_High l_ap_Lights bp_Wide bp_High l_bp_Lights (Int.toNat ((l_ap_Lights.length : Int) - (0 : Int)) + 1) ([] : List Nat) (0 : Int)) := rfl
def T_spec_l04Far (a : Nat) (b : Nat) (H : AHeap) (K : Nat → AHeap → Prop) : Prop := ∃ (ap_Wide : Int), ∃ (ap_High : Int), ∃ (ap_Lights_a : Option Addr), ∃ (ap_Lights_n : Nat), ∃ (ap_Lights_e : Nat), ∃ (bp_Wide : Int), ∃ (bp_High : Int), ∃ (bp_Lights_a : Option Addr), ∃ (bp_Lights_n : Nat), ∃ (bp_Lights_e : Nat), ∃ (l_ap_Lights : List Nat), ∃ (l_bp_Lights : List Nat), rdN H a 0 3 = some [.int .i64 ap_Wide, .int .i64 ap_High, .slice ap_Lights_a ap_Lights_n ap_Lights_e] ∧ rdN H b 0 3 = some [.int .i64 bp_Wide, .int .i64 bp_High, .slice bp_Lights_a bp_Lights_n bp_Lights_e] ∧ IsL fF H ap_Lights_a ap_Lights_n l_ap_Lights ∧ IsL fF H bp_Lights_a bp_Lights_n l_bp_Lights ∧ l_ap_Lights.length < 1073741824 ∧ l_bp_Lights.length < 1073741824 ∧ (l_ap_Lights.length : Int) = (l_bp_Lights.length : Int) ∧ (l_ap_Lights.length : Int) ≤ 256 ∧ ((∀ H' : AHeap, Grow H H' → K (p_spec_l04Far ap_Wide ap_High l_ap_Lights bp_Wide bp_High l_bp_Lights) H'))
theorem T_spec_l04Far_i {a : Nat} {b : Nat} {H : AHeap} {K : Nat → AHeap → Prop} (h : ∃ (ap_Wide : Int), ∃ (ap_High : Int), ∃ (ap_Lights_a : Option Addr), ∃ (ap_Lights_n : Nat), ∃ (ap_Lights_e : Nat), ∃ (bp_Wide : Int), ∃ (bp_High : Int), ∃ (bp_Lights_a : Option Addr), ∃ (bp_Lights_n : Nat), ∃ (bp_Lights_e : Nat), ∃ (l_ap_Lights : List Nat), ∃ (l_bp_Lights : List Nat), rdN H a 0 3 = some [.int .i64 ap_Wide, .int .i64 ap_High, .slice ap_Lights_a ap_Lights_n ap_Lights_e] ∧ rdN H b 0 3 = some [.int .i64 bp_Wide, .int .i64 bp_High, .slice bp_Lights_a bp_Lights_n bp_Lights_e] ∧ IsL fF H ap_Lights_a ap_Lights_n l_ap_Lights ∧ IsL fF H bp_Lights_a bp_Lights_n l_bp_Lights ∧ l_ap_Lights.length < 1073741824 ∧ l_bp_Lights.length < 1073741824 ∧ (l_ap_Lights.length : Int) = (l_bp_Lights.length : Int) ∧ (l_ap_Lights.length : Int) ≤ 256 ∧ ((∀ H' : AHeap, Grow H H' → K (p_spec_l04Far ap_Wide ap_High l_ap_Lights bp_Wide bp_High l_bp_Lights) H'))) : T_spec_l04Far a b H K := h

/-! spec_l04Far: function 137 -/
def E_spec_l04Far : Env := envOf [(92, S_spec_l02Energy), (80, S_spec_l01Sqrt)]
def F_spec_l04Far : List Value → AHeap → (Value → AHeap → Prop) → Prop
  | [.pointer (some ⟨a, 0, none⟩), .pointer (some ⟨b, 0, none⟩)], H, K => T_spec_l04Far a b H fun (r1 : Nat) (H' : AHeap) => K (.float .f32 r1) H'
  | _, _, _ => False
def S_spec_l04Far : FSpec := { F := F_spec_l04Far, quiet := false, tame := true }
theorem spec_l04Far_vc (a : Nat) (b : Nat) (H : AHeap) (K : Value → AHeap → Prop) : bodyK Try.prog E_spec_l04Far Try.f137 [.pointer (some ⟨a, 0, none⟩), .pointer (some ⟨b, 0, none⟩)] H K =
  (Al [] H fun b1 H1 => loopK (exK Try.prog E_spec_l04Far (cl (cl (cr (cl (cr (cr (bodyC Try.f137)))))))) [.pointer (some ⟨a, 0, none⟩), .pointer (some ⟨b, 0, none⟩), undef, undef, .float .f32 0, .slice (some ⟨b1, 0, none⟩) 0 1, .int .i64 0, .slice (some ⟨b1, 0, none⟩) 0 1, undef, undef, undef, undef, undef, undef, undef, undef, undef, undef, undef, undef, undef, undef, undef, undef, undef, undef, undef, undef, undef, undef, undef, undef, undef, undef, undef, undef, undef, undef, undef, undef, undef, undef] H1 (blockQ 0 (seqQ (exK Try.prog E_spec_l04Far (cr (cr (cr (bodyC Try.f137))))) (retK Try.prog Try.f137 K)))) := by kernel_rfl
theorem spec_l04Far_r1 (a : Nat) (b : Nat) (b1 : Nat) (list_a : Option Addr) (list_n : Nat) (list_e : Nat) (i : Int) (g8 g9 g10 g11 g12 g13 g14 g15 g16 g17 g18 g19 g20 g21 g22 g23 g24 g25 g26 g27 g28 g29 g30 g31 g32 g33 g34 : Value) (H : AHeap) (R : Post) : exK Try.prog E_spec_l04Far (cl (cl (cr (cl (cr (cr (bodyC Try.f137))))))) [.pointer (some ⟨a, 0, none⟩), .pointer (some ⟨b, 0, none⟩), undef, undef, .float .f32 0, .slice list_a list_n list_e, .int .i64 i, .slice (some ⟨b1, 0, none⟩) 0 1, g8, g9, g10, g11, g12, g13, g14, g15, g16, g17, g18, g19, g20, g21, g22, g23, g24, g25, g26, g27, g28, g29, g30, g31, g32, g33, g34, undef, undef, undef, undef, undef, undef, undef] H R =
  (∃ x1_a : Option Addr, ∃ x1_n : Nat, ∃ x1_e : Nat,  rdC H a 2 = some (.slice x1_a x1_n x1_e) ∧ Br (decide ((i : Int) < (x1_n : Int))) (∃ x2_a : Option Addr, ∃ x2_n : Nat, ∃ x2_e : Nat,  rdC H a 2 = some (.slice x2_a x2_n x2_e) ∧ (0 : Int) ≤ i ∧ i < (x2_n : Int) ∧ ∃ b2 f1, (x2_a : Option Addr) = some ⟨b2, f1, none⟩ ∧ ∃ x3 : Nat,  rdC H b2 (f1 + (i : Int).toNat * 1) = some (.float .f32 x3) ∧ ∃ x4_a : Option Addr, ∃ x4_n : Nat, ∃ x4_e : Nat,  rdC H b 2 = some (.slice x4_a x4_n x4_e) ∧ (0 : Int) ≤ i ∧ i < (x4_n : Int) ∧ ∃ b3 f2, (x4_a : Option Addr) = some ⟨b3, f2, none⟩ ∧ ∃ x5 : Nat,  rdC H b3 (f2 + (i : Int).toNat * 1) = some (.float .f32 x5) ∧ Al [.float .f32 (fsub .f32 x3 x5)] H fun b4 H2 => ∃ o1 w1 : List Value, ownB H2 list_a list_n list_e 1 = some o1 ∧ rdS H2 (some ⟨b4, 0, none⟩) (1 * 1) = some w1 ∧ ((list_a : Option Addr) = none → 0 < (1 : Nat)) ∧ (list_n : Nat) + 1 < most ∧ Ap H2 (killB H2 list_a ++ [some ⟨o1 ++ w1, true⟩]) fun b5 H3 => R .normal [.pointer (some ⟨a, 0, none⟩), .pointer (some ⟨b, 0, none⟩), undef, undef, .float .f32 0, .slice (some ⟨b5, 0, none⟩) (list_n + 1) 1, .int .i64 (IntKind.wrap .i64 (i + 1)), .slice (some ⟨b1, 0, none⟩) 0 1, .int .i64 i, .pointer (some ⟨a, 0, none⟩), .pointer (some ⟨a, 0, none⟩), .pointer (some ⟨a, 2, none⟩), .slice x1_a x1_n x1_e, .int .i64 (x1_n : Int), .bool (decide ((i : Int) < (x1_n : Int))), .int .i64 i, .int .i64 (IntKind.wrap .i64 (i + 1)), .slice list_a list_n list_e, .pointer (some ⟨a, 0, none⟩), .pointer (some ⟨a, 0, none⟩), .pointer (some ⟨a, 2, none⟩), .slice x2_a x2_n x2_e, .int .i64 i, .pointer (some ⟨b2, f1 + (i : Int).toNat * 1, none⟩), .float .f32 x3, .pointer (some ⟨b, 0, none⟩), .pointer (some ⟨b, 0, none⟩), .pointer (some ⟨b, 2, none⟩), .slice x4_a x4_n x4_e, .int .i64 i, .pointer (some ⟨b3, f2 + (i : Int).toNat * 1, none⟩), .float .f32 x5, .float .f32 (fsub .f32 x3 x5), .slice (some ⟨b4, 0, none⟩) 1 1, .slice (some ⟨b5, 0, none⟩) (list_n + 1) 1, undef, undef, undef, undef, undef, undef, undef] H3) (R (.exit 0) [.pointer (some ⟨a, 0, none⟩), .pointer (some ⟨b, 0, none⟩), undef, undef, .float .f32 0, .slice list_a list_n list_e, .int .i64 i, .slice (some ⟨b1, 0, none⟩) 0 1, .int .i64 i, .pointer (some ⟨a, 0, none⟩), .pointer (some ⟨a, 0, none⟩), .pointer (some ⟨a, 2, none⟩), .slice x1_a x1_n x1_e, .int .i64 (x1_n : Int), .bool (decide ((i : Int) < (x1_n : Int))), g15, g16, g17, g18, g19, g20, g21, g22, g23, g24, g25, g26, g27, g28, g29, g30, g31, g32, g33, g34, undef, undef, undef, undef, undef, undef, undef] H)) := by kernel_rfl
def spec_l04Far_I1 (a : Nat) (b : Nat) (b1 : Nat) (Inv : Nat → (Option Addr) → Nat → Nat → Int → AHeap → Prop) : Nat → List Value → AHeap → Prop := fun μ tm H => ∃ (list_a : Option Addr), ∃ (list_n : Nat), ∃ (list_e : Nat), ∃ (i : Int), ∃ g8 g9 g10 g11 g12 g13 g14 g15 g16 g17 g18 g19 g20 g21 g22 g23 g24 g25 g26 g27 g28 g29 g30 g31 g32 g33 g34, tm = [.pointer (some ⟨a, 0, none⟩), .pointer (some ⟨b, 0, none⟩), undef, undef, .float .f32 0, .slice list_a list_n list_e, .int .i64 i, .slice (some ⟨b1, 0, none⟩) 0 1, g8, g9, g10, g11, g12, g13, g14, g15, g16, g17, g18, g19, g20, g21, g22, g23, g24, g25, g26, g27, g28, g29, g30, g31, g32, g33, g34, undef, undef, undef, undef, undef, undef, undef] ∧ Inv μ list_a list_n list_e i H
theorem spec_l04Far_L1 (a : Nat) (b : Nat) (b1 : Nat) {Q : Post} (Inv : Nat → (Option Addr) → Nat → Nat → Int → AHeap → Prop) (ν : Nat) (list_a : Option Addr) (list_n : Nat) (list_e : Nat) (i : Int) (g8 g9 g10 g11 g12 g13 g14 g15 g16 g17 g18 g19 g20 g21 g22 g23 g24 g25 g26 g27 g28 g29 g30 g31 g32 g33 g34 : Value) (H : AHeap) (h0 : Inv ν list_a list_n list_e i H)
    (hs : ∀ (μ : Nat) (list_a : Option Addr) (list_n : Nat) (list_e : Nat) (i : Int) (g8 g9 g10 g11 g12 g13 g14 g15 g16 g17 g18 g19 g20 g21 g22 g23 g24 g25 g26 g27 g28 g29 g30 g31 g32 g33 g34 : Value) (H : AHeap), Inv μ list_a list_n list_e i H → exK Try.prog E_spec_l04Far (cl (cl (cr (cl (cr (cr (bodyC Try.f137))))))) [.pointer (some ⟨a, 0, none⟩), .pointer (some ⟨b, 0, none⟩), undef, undef, .float .f32 0, .slice list_a list_n list_e, .int .i64 i, .slice (some ⟨b1, 0, none⟩) 0 1, g8, g9, g10, g11, g12, g13, g14, g15, g16, g17, g18, g19, g20, g21, g22, g23, g24, g25, g26, g27, g28, g29, g30, g31, g32, g33, g34, undef, undef, undef, undef, undef, undef, undef] H (loopQ (spec_l04Far_I1 a b b1 Inv) μ Q)) : loopK (exK Try.prog E_spec_l04Far (cl (cl (cr (cl (cr (cr (bodyC Try.f137)))))))) [.pointer (some ⟨a, 0, none⟩), .pointer (some ⟨b, 0, none⟩), undef, undef, .float .f32 0, .slice list_a list_n list_e, .int .i64 i, .slice (some ⟨b1, 0, none⟩) 0 1, g8, g9, g10, g11, g12, g13, g14, g15, g16, g17, g18, g19, g20, g21, g22, g23, g24, g25, g26, g27, g28, g29, g30, g31, g32, g33, g34, undef, undef, undef, undef, undef, undef, undef] H Q :=
  ⟨spec_l04Far_I1 a b b1 Inv, ν, ⟨list_a, list_n, list_e, i, g8, g9, g10, g11, g12, g13, g14, g15, g16, g17, g18, g19, g20, g21, g22, g23, g24, g25, g26, g27, g28, g29, g30, g31, g32, g33, g34, rfl, h0⟩, fun μ tm H h => by obtain ⟨list_a, list_n, list_e, i, g8, g9, g10, g11, g12, g13, g14, g15, g16, g17, g18, g19, g20, g21, g22, g23, g24, g25, g26, g27, g28, g29, g30, g31, g32, g33, g34, rfl, hI⟩ := h; exact hs μ list_a list_n list_e i g8 g9 g10 g11 g12 g13 g14 g15 g16 g17 g18 g19 g20 g21 g22 g23 g24 g25 g26 g27 g28 g29 g30 g31 g32 g33 g34 H hI⟩
theorem spec_l04Far_n1 {a : Nat} {b : Nat} {b1 : Nat} {Q : Post} {Inv : Nat → (Option Addr) → Nat → Nat → Int → AHeap → Prop} {μ : Nat} (μ' : Nat) {list_a : Option Addr} {list_n : Nat} {list_e : Nat} {i : Int} {g8 g9 g10 g11 g12 g13 g14 g15 g16 g17 g18 g19 g20 g21 g22 g23 g24 g25 g26 g27 g28 g29 g30 g31 g32 g33 g34 : Value} {H : AHeap} (hm : μ' < μ) (hI : Inv μ' list_a list_n list_e i H) : loopQ (spec_l04Far_I1 a b b1 Inv) μ Q .normal [.pointer (some ⟨a, 0, none⟩), .pointer (some ⟨b, 0, none⟩), undef, undef, .float .f32 0, .slice list_a list_n list_e, .int .i64 i, .slice (some ⟨b1, 0, none⟩) 0 1, g8, g9, g10, g11, g12, g13, g14, g15, g16, g17, g18, g19, g20, g21, g22, g23, g24, g25, g26, g27, g28, g29, g30, g31, g32, g33, g34, undef, undef, undef, undef, undef, undef, undef] H := ⟨μ', hm, list_a, list_n, list_e, i, g8, g9, g10, g11, g12, g13, g14, g15, g16, g17, g18, g19, g20, g21, g22, g23, g24, g25, g26, g27, g28, g29, g30, g31, g32, g33, g34, rfl, hI⟩
theorem spec_l04Far_x1_0 (a : Nat) (b : Nat) (b1 : Nat) (list_a : Option Addr) (list_n : Nat) (list_e : Nat) (i : Int) (g8 g9 g10 g11 g12 g13 g14 g15 g16 g17 g18 g19 g20 g21 g22 g23 g24 g25 g26 g27 g28 g29 g30 g31 g32 g33 g34 : Value) (H : AHeap) (K : Value → AHeap → Prop)  {I : Nat → List Value → AHeap → Prop} {μ : Nat} : loopQ I μ (blockQ 0 (seqQ (exK Try.prog E_spec_l04Far (cr (cr (cr (bodyC Try.f137))))) (retK Try.prog Try.f137 K))) (.exit 0) [.pointer (some ⟨a, 0, none⟩), .pointer (some ⟨b, 0, none⟩), undef, undef, .float .f32 0, .slice list_a list_n list_e, .int .i64 i, .slice (some ⟨b1, 0, none⟩) 0 1, g8, g9, g10, g11, g12, g13, g14, g15, g16, g17, g18, g19, g20, g21, g22, g23, g24, g25, g26, g27, g28, g29, g30, g31, g32, g33, g34, undef, undef, undef, undef, undef, undef, undef] H =
  (T_spec_l02Energy list_a list_n list_e H fun (r1 : Nat) (H4 : AHeap) => T_spec_l01Sqrt (fdiv .f32 r1 (FloatKind.nearest .f32 (list_n : Int))) H4 fun (r2 : Nat) (H5 : AHeap) => K (.float .f32 r2) H5) := by kernel_rfl
theorem E_spec_l04Far_ok : ∀ g, FnOk Try.prog g (E_spec_l04Far g) := FnOk.envOf (by
  intro x hx
  simp only [List.mem_cons, List.not_mem_nil, or_false] at hx
  rcases hx with rfl | rfl
  · exact spec_l02Energy_ok
  · exact spec_l01Sqrt_ok)
set_option maxHeartbeats 1000000 in
theorem spec_l04Far_main (a : Nat) (b : Nat) (H : AHeap) (K : Value → AHeap → Prop) (h : T_spec_l04Far a b H fun (r1 : Nat) (H' : AHeap) => K (.float .f32 r1) H') : bodyK Try.prog E_spec_l04Far Try.f137 [.pointer (some ⟨a, 0, none⟩), .pointer (some ⟨b, 0, none⟩)] H K := by
  rw [spec_l04Far_vc]
  obtain ⟨ap_Wide, ap_High, ap_Lights_a, ap_Lights_n, ap_Lights_e, bp_Wide, bp_High, bp_Lights_a, bp_Lights_n, bp_Lights_e, l_ap_Lights, l_bp_Lights, i_a, i_b, i_ap_Lights, i_bp_Lights, bd_52, bd_53, pr0, pr1, hk⟩ := h
  obtain rfl := i_ap_Lights.eqn
  obtain rfl := i_bp_Lights.eqn
  have e : (p_spec_l04Far ap_Wide ap_High l_ap_Lights bp_Wide bp_High l_bp_Lights) = _ := rfl
  have e := e.trans (p_spec_l04Far_eq ap_Wide ap_High l_ap_Lights bp_Wide bp_High l_bp_Lights)
  have g0 := Grow.refl H
  refine Al.intro (fun b_1 H_1 hb_2 hl_3 g_4 o_5 => ?_)
  have o_5 : Own H_1 b_1 ((([] : List Nat)).map fF) := o_5
  have l_7 := g_4.1
  have g_8 := g0.trans g_4
  have l_9 := g_8.1
  have w_51 := o_5.lt
  refine spec_l04Far_L1 _ _ _ (fun (μ : Nat) (list_a : Option Addr) (list_n : Nat) (list_e : Nat) (i : Int) (H_2 : AHeap) => ∃ (l_list : List Nat), ∃ (b_10 : Nat), list_a = some ⟨b_10, 0, none⟩ ∧ list_n = l_list.length ∧ list_e = 1 ∧ Own H_2 b_10 (l_list.map fF) ∧ Grow H H_2 ∧ H.length ≤ b_10 ∧ (0 : Int) ≤ i ∧ i ≤ (l_ap_Lights.length : Int) ∧ (l_list.length : Int) ≤ i - (0 : Int) + 0 ∧ (l_list.length : Int) ≤ i ∧ (l_ap_Lights.length : Int) - i ≤ (μ : Int) ∧ p_spec_l04Far ap_Wide ap_High l_ap_Lights bp_Wide bp_High l_bp_Lights = p_spec_l04Far_l1 ap_Wide ap_High l_ap_Lights bp_Wide bp_High l_bp_Lights (μ + 1) l_list i) (Int.toNat ((l_ap_Lights.length : Int) - (0 : Int))) _ _ _ _ _ _ _ _ _ _ _ _ _ _ _ _ _ _ _ _ _ _ _ _ _ _ _ _ _ _ _ H_1 ?_ ?_
  · exact ⟨_, _, rfl, (by first | rfl | omega | (simp only [List.length_set]; done) | (simp only [List.length_set, List.length_replicate]; omega)), rfl, o_5, g_8, (by omega), (by first | omega | (simp; done) | (simp; omega)), (by first | omega | (simp; done) | (simp; omega)), (by first | omega | (simp; done) | (simp; omega)), (by first | omega | (simp; done) | (simp; omega)), (by omega), e⟩
  · intro μ list_a list_n list_e i g8 g9 g10 g11 g12 g13 g14 g15 g16 g17 g18 g19 g20 g21 g22 g23 g24 g25 g26 g27 g28 g29 g30 g31 g32 g33 g34 H_2 hI
    obtain ⟨l_list, b_10, rfl, rfl, rfl, o_11, g_12, l_13, v_14, v_15, v_16, v_17, hμ, e⟩ := hI
    rw [spec_l04Far_r1]
    have e := e.trans (p_spec_l04Far_l1_s ap_Wide ap_High l_ap_Lights bp_Wide bp_High l_bp_Lights μ l_list i)
    have w_18 := o_11.lt
    have l_19 := g_12.1
    refine ⟨ap_Lights_a, l_ap_Lights.length, ap_Lights_e, (rdN_at (rdN_grow g_12 i_a) 2 (Nat.le_of_ble_eq_true rfl)).trans rfl, ?_⟩
    refine Br.intro (fun c_20 => ?_) (fun c_20 => ?_)
    · have e := e.trans (cond_t c_20)
      have c_20' := of_decide_eq_true c_20
      refine ⟨ap_Lights_a, l_ap_Lights.length, ap_Lights_e, (rdN_at (rdN_grow g_12 i_a) 2 (Nat.le_of_ble_eq_true rfl)).trans rfl, ?_⟩
      obtain ⟨b_21, f_22, q_23⟩ := ((i_ap_Lights.grow g_12)).pos (by first | omega | (simp only [List.length_set, List.length_replicate, List.length_append, List.length_cons, List.length_nil, List.length_take, List.length_drop, marks_length]; done) | (simp only [List.length_set, List.length_replicate, List.length_append, List.length_cons, List.length_nil, List.length_take, List.length_drop, marks_length]; omega))
      refine ⟨by omega, by omega, b_21, f_22, q_23, ?_⟩
      refine ⟨((l_ap_Lights).getD (i : Int).toNat 0), (i_ap_Lights).rd g_12 q_23 (by omega) _, ?_⟩
      refine ⟨bp_Lights_a, l_bp_Lights.length, bp_Lights_e, (rdN_at (rdN_grow g_12 i_b) 2 (Nat.le_of_ble_eq_true rfl)).trans rfl, ?_⟩
      obtain ⟨b_24, f_25, q_26⟩ := ((i_bp_Lights.grow g_12)).pos (by first | omega | (simp only [List.length_set, List.length_replicate, List.length_append, List.length_cons, List.length_nil, List.length_take, List.length_drop, marks_length]; done) | (simp only [List.length_set, List.length_replicate, List.length_append, List.length_cons, List.length_nil, List.length_take, List.length_drop, marks_length]; omega))
      refine ⟨by omega, by omega, b_24, f_25, q_26, ?_⟩
      refine ⟨((l_bp_Lights).getD (i : Int).toNat 0), (i_bp_Lights).rd g_12 q_26 (by omega) _, ?_⟩
      refine Al.intro (fun b_27 H_3 hb_28 hl_29 g_30 o_31 => ?_)
      have o_31 : Own H_3 b_27 (([(fsub .f32 (((l_ap_Lights).getD (i : Int).toNat 0)) (((l_bp_Lights).getD (i : Int).toNat 0)))]).map fF) := o_31
      have l_33 := g_30.1
      have g_34 := g_12.trans g_30
      have l_35 := g_34.1
      have o_36 := o_11.grow g_30
      have w_37 := o_36.lt
      have w_50 := o_31.lt
      refine ⟨_, _, o_36.ownB (by first | (simp only [List.length_map, List.length_cons, List.length_nil, List.length_append]; done) | (simp only [List.length_map, List.length_cons, List.length_nil, List.length_append]; omega)) rfl, (isl_rdS (o_31.isL (by first | rfl | omega | (simp only [List.length_set]; done) | (simp only [List.length_set, List.length_replicate]; omega)))), (fun h => by cases h), (by have := most_eq; omega), ?_⟩
      refine Ap.app o_36 rfl rfl (fun b_42 H_4 q_48 hl_38 o_39 k_40 => ?_)
      have o_39 := map_snoc o_39
      have l_43 := k_40.1
      have g_44 := g_34.keep (b := b_10) (by omega) k_40
      have l_45 := g_44.1
      have o_46 := o_31.keep (by omega) k_40
      have w_47 := o_46.lt
      have w_49 := o_39.lt
      rw [show IntKind.wrap .i64 (i + 1) = (i + 1) from wrap64 (by omega) (by omega)]
      refine spec_l04Far_n1 (μ - 1) (by first | omega) ⟨_, _, rfl, (by first | (simp only [List.length_append, List.length_cons, List.length_nil]; done) | (simp only [List.length_append, List.length_cons, List.length_nil]; omega) | (simp only [List.length_append, List.length_cons, List.length_nil, List.length_take, List.length_drop]; omega)), rfl, o_39, g_44, (by omega), (by first | omega | (simp only [List.length_append, List.length_cons, List.length_nil, List.length_set]; done) | (simp only [List.length_append, List.length_cons, List.length_nil, List.length_set]; omega)), (by first | omega | (simp only [List.length_append, List.length_cons, List.length_nil, List.length_set]; done) | (simp only [List.length_append, List.length_cons, List.length_nil, List.length_set]; omega)), (by first | omega | (simp only [List.length_append, List.length_cons, List.length_nil, List.length_set]; done) | (simp only [List.length_append, List.length_cons, List.length_nil, List.length_set]; omega)), (by first | omega | (simp only [List.length_append, List.length_cons, List.length_nil, List.length_set]; done) | (simp only [List.length_append, List.length_cons, List.length_nil, List.length_set]; omega)), (by first | omega), (by rw [show μ - 1 + 1 = μ from by first | omega]; exact e)⟩
    · have e := e.trans (cond_f c_20)
      have c_20' := of_decide_eq_false c_20
      rw [spec_l04Far_x1_0]
      refine T_spec_l02Energy_i ⟨_, (o_11.isL (by first | rfl | omega | (simp only [List.length_set]; done) | (simp only [List.length_set, List.length_replicate]; omega))), (by first | omega | (simp only [List.length_set, List.length_replicate, List.length_append, List.length_cons, List.length_nil, List.length_take, List.length_drop, marks_length]; done) | (simp only [List.length_set, List.length_replicate, List.length_append, List.length_cons, List.length_nil, List.length_take, List.length_drop, marks_length]; omega)), ?_⟩
      refine T_spec_l01Sqrt_i ?_
      rw [e] at hk
      exact hk  H_2 g_12 
theorem spec_l04Far_ok : FnOk Try.prog 137 S_spec_l04Far := by
  refine FnOk.body mix_ok E_spec_l04Far_ok Try.func137 rfl (by kernel_rfl) (by kernel_rfl) ?_ ?_ ?_ ?_ ?_
  · intro args H K K' h hk
    simp only [S_spec_l04Far] at *
    unfold F_spec_l04Far at *
    split at hk
    · obtain ⟨ap_Wide, ap_High, ap_Lights_a, ap_Lights_n, ap_Lights_e, bp_Wide, bp_High, bp_Lights_a, bp_Lights_n, bp_Lights_e, l_ap_Lights, l_bp_Lights, i_a, i_b, i_ap_Lights, i_bp_Lights, bd_52, bd_53, pr0, pr1, k⟩ := hk
      exact ⟨ap_Wide, ap_High, ap_Lights_a, ap_Lights_n, ap_Lights_e, bp_Wide, bp_High, bp_Lights_a, bp_Lights_n, bp_Lights_e, l_ap_Lights, l_bp_Lights, i_a, i_b, i_ap_Lights, i_bp_Lights, bd_52, bd_53, pr0, pr1, (fun  H' gg  => h _ _ (k  H' gg ))⟩
    · exact hk.elim
  · intro hq; cases hq
  · intro args H K hk
    simp only [S_spec_l04Far] at *
    unfold F_spec_l04Far at *
    split at hk
    · obtain ⟨ap_Wide, ap_High, ap_Lights_a, ap_Lights_n, ap_Lights_e, bp_Wide, bp_High, bp_Lights_a, bp_Lights_n, bp_Lights_e, l_ap_Lights, l_bp_Lights, i_a, i_b, i_ap_Lights, i_bp_Lights, bd_52, bd_53, pr0, pr1, k⟩ := hk
      exact ⟨_, _, k H (Grow.refl H)⟩
    · exact hk.elim
  · intro _ args H K hk
    simp only [S_spec_l04Far] at *
    unfold F_spec_l04Far at *
    split at hk
    · obtain ⟨ap_Wide, ap_High, ap_Lights_a, ap_Lights_n, ap_Lights_e, bp_Wide, bp_High, bp_Lights_a, bp_Lights_n, bp_Lights_e, l_ap_Lights, l_bp_Lights, i_a, i_b, i_ap_Lights, i_bp_Lights, bd_52, bd_53, pr0, pr1, k⟩ := hk
      exact ⟨ap_Wide, ap_High, ap_Lights_a, ap_Lights_n, ap_Lights_e, bp_Wide, bp_High, bp_Lights_a, bp_Lights_n, bp_Lights_e, l_ap_Lights, l_bp_Lights, i_a, i_b, i_ap_Lights, i_bp_Lights, bd_52, bd_53, pr0, pr1, (fun  H' gg  => ⟨gg, k  H' gg ⟩)⟩
    · exact hk.elim
  · have mm := @spec_l04Far_main
    revert mm
    generalize bodyK Try.prog E_spec_l04Far Try.f137 = Q
    intro mm args H K hk
    simp only [S_spec_l04Far] at *
    unfold F_spec_l04Far at *
    split at hk
    · exact mm _ _ H K hk
    · exact hk.elim
def p_spec_l02Number (x : Nat) : Nat × Bool := (bif !(p_spec_l01Finite x) then (0, false) else (x, true))
theorem p_spec_l02Number_eq (x : Nat) : p_spec_l02Number x = (bif !(p_spec_l01Finite x) then (0, false) else (x, true)) := rfl
def T_spec_l02Number (x : Nat) (H : AHeap) (K : Nat → Bool → AHeap → Prop) : Prop := K (p_spec_l02Number x).1 (p_spec_l02Number x).2 H

theorem T_spec_l02Number_i {x : Nat} {H : AHeap} {K : Nat → Bool → AHeap → Prop} (h : K (p_spec_l02Number x).1 (p_spec_l02Number x).2 H) : T_spec_l02Number x H K := h
/-! spec_l02Number: function 60 -/
def E_spec_l02Number : Env := envOf [(57, S_spec_l01Finite)]
def F_spec_l02Number : List Value → AHeap → (Value → AHeap → Prop) → Prop
  | [.float .f32 x], H, K => T_spec_l02Number x H fun (r1 : Nat) (r2 : Bool) (H' : AHeap) => K (.tuple #[.float .f32 r1, .bool r2]) H'
  | _, _, _ => False
def S_spec_l02Number : FSpec := { F := F_spec_l02Number, quiet := true, tame := false }
theorem spec_l02Number_vc (x : Nat) (H : AHeap) (K : Value → AHeap → Prop) : bodyK Try.prog E_spec_l02Number Try.f60 [.float .f32 x] H K =
  (T_spec_l01Finite x H fun (r1 : Bool) (H1 : AHeap) => Br (!r1) (K (.tuple #[.float .f32 0, .bool false]) H1) (K (.tuple #[.float .f32 x, .bool true]) H1)) := by kernel_rfl
theorem E_spec_l02Number_ok : ∀ g, FnOk Try.prog g (E_spec_l02Number g) := FnOk.envOf (by
  intro x hx
  simp only [List.mem_cons, List.not_mem_nil, or_false] at hx
  subst hx; exact spec_l01Finite_ok)
set_option maxHeartbeats 1000000 in
theorem spec_l02Number_main (x : Nat) (H : AHeap) (K : Value → AHeap → Prop) (h : T_spec_l02Number x H fun (r1 : Nat) (r2 : Bool) (H' : AHeap) => K (.tuple #[.float .f32 r1, .bool r2]) H') : bodyK Try.prog E_spec_l02Number Try.f60 [.float .f32 x] H K := by
  rw [spec_l02Number_vc]
  simp only [T_spec_l01Finite]
  unfold T_spec_l02Number p_spec_l02Number at h
  repeat' (first | exact h | (exfalso; simp_all; done) | (refine ⟨by decide, ?_⟩) | (refine Br.intro (fun hb => ?_) (fun hb => ?_) <;> (try simp only [hb, cond_true, cond_false, Bool.not_true, Bool.not_false] at h)))
theorem spec_l02Number_ok : FnOk Try.prog 60 S_spec_l02Number := by
  refine FnOk.body mix_ok E_spec_l02Number_ok Try.func60 rfl (by kernel_rfl) (by kernel_rfl) ?_ ?_ ?_ ?_ ?_
  · intro args H K K' h hk
    simp only [S_spec_l02Number] at *
    unfold F_spec_l02Number at *
    split at hk
    · have k := hk
      exact h _ _ k
    · exact hk.elim
  · intro _ args H K hk
    simp only [S_spec_l02Number] at *
    unfold F_spec_l02Number at *
    split at hk
    · have k := hk
      exact ⟨_, k, fun K' k' => k'⟩
    · exact hk.elim
  · intro args H K hk
    simp only [S_spec_l02Number] at *
    unfold F_spec_l02Number at *
    split at hk
    · have k := hk
      exact ⟨_, _, k⟩
    · exact hk.elim
  · intro hq; cases hq
  · have mm := @spec_l02Number_main
    revert mm
    generalize bodyK Try.prog E_spec_l02Number Try.f60 = Q
    intro mm args H K hk
    simp only [S_spec_l02Number] at *
    unfold F_spec_l02Number at *
    split at hk
    · exact mm _ H K hk
    · exact hk.elim
def p_spec_DistanceOf (a_Wide : Int) (a_High : Int) (l_a_Lights : List Nat) (b_Wide : Int) (b_High : Int) (l_b_Lights : List Nat) : Nat × Bool := (bif !(p_spec_l04Both a_Wide a_High l_a_Lights b_Wide b_High l_b_Lights) then (0, false) else ((p_spec_l02Number (p_spec_l04Far a_Wide a_High l_a_Lights b_Wide b_High l_b_Lights)).1, (p_spec_l02Number (p_spec_l04Far a_Wide a_High l_a_Lights b_Wide b_High l_b_Lights)).2))
theorem p_spec_DistanceOf_eq (a_Wide : Int) (a_High : Int) (l_a_Lights : List Nat) (b_Wide : Int) (b_High : Int) (l_b_Lights : List Nat) : p_spec_DistanceOf a_Wide a_High l_a_Lights b_Wide b_High l_b_Lights = (bif !(p_spec_l04Both a_Wide a_High l_a_Lights b_Wide b_High l_b_Lights) then (0, false) else ((p_spec_l02Number (p_spec_l04Far a_Wide a_High l_a_Lights b_Wide b_High l_b_Lights)).1, (p_spec_l02Number (p_spec_l04Far a_Wide a_High l_a_Lights b_Wide b_High l_b_Lights)).2)) := rfl
def T_spec_DistanceOf (a_Wide : Int) (a_High : Int) (a_Lights_a : Option Addr) (a_Lights_n : Nat) (a_Lights_e : Nat) (b_Wide : Int) (b_High : Int) (b_Lights_a : Option Addr) (b_Lights_n : Nat) (b_Lights_e : Nat) (H : AHeap) (K : Nat → Bool → AHeap → Prop) : Prop := ∃ (l_a_Lights : List Nat), ∃ (l_b_Lights : List Nat), IsL fF H a_Lights_a a_Lights_n l_a_Lights ∧ IsL fF H b_Lights_a b_Lights_n l_b_Lights ∧ l_a_Lights.length < 1073741824 ∧ l_b_Lights.length < 1073741824 ∧ ((∀ H' : AHeap, Grow H H' → K ((p_spec_DistanceOf a_Wide a_High l_a_Lights b_Wide b_High l_b_Lights).1) ((p_spec_DistanceOf a_Wide a_High l_a_Lights b_Wide b_High l_b_Lights).2) H'))
theorem T_spec_DistanceOf_i {a_Wide : Int} {a_High : Int} {a_Lights_a : Option Addr} {a_Lights_n : Nat} {a_Lights_e : Nat} {b_Wide : Int} {b_High : Int} {b_Lights_a : Option Addr} {b_Lights_n : Nat} {b_Lights_e : Nat} {H : AHeap} {K : Nat → Bool → AHeap → Prop} (h : ∃ (l_a_Lights : List Nat), ∃ (l_b_Lights : List Nat), IsL fF H a_Lights_a a_Lights_n l_a_Lights ∧ IsL fF H b_Lights_a b_Lights_n l_b_Lights ∧ l_a_Lights.length < 1073741824 ∧ l_b_Lights.length < 1073741824 ∧ ((∀ H' : AHeap, Grow H H' → K ((p_spec_DistanceOf a_Wide a_High l_a_Lights b_Wide b_High l_b_Lights).1) ((p_spec_DistanceOf a_Wide a_High l_a_Lights b_Wide b_High l_b_Lights).2) H'))) : T_spec_DistanceOf a_Wide a_High a_Lights_a a_Lights_n a_Lights_e b_Wide b_High b_Lights_a b_Lights_n b_Lights_e H K := h

/-! spec_DistanceOf: function 109 -/
def E_spec_DistanceOf : Env := envOf [(136, S_spec_l04Both), (137, S_spec_l04Far), (60, S_spec_l02Number)]
def F_spec_DistanceOf : List Value → AHeap → (Value → AHeap → Prop) → Prop
  | [.agg ⟨[.int .i64 a_Wide, .int .i64 a_High, .slice a_Lights_a a_Lights_n a_Lights_e]⟩, .agg ⟨[.int .i64 b_Wide, .int .i64 b_High, .slice b_Lights_a b_Lights_n b_Lights_e]⟩], H, K => T_spec_DistanceOf a_Wide a_High a_Lights_a a_Lights_n a_Lights_e b_Wide b_High b_Lights_a b_Lights_n b_Lights_e H fun (r1 : Nat) (r2 : Bool) (H' : AHeap) => K (.tuple #[.float .f32 r1, .bool r2]) H'
  | _, _, _ => False
def S_spec_DistanceOf : FSpec := { F := F_spec_DistanceOf, quiet := false, tame := true }
theorem spec_DistanceOf_vc (a_Wide : Int) (a_High : Int) (a_Lights_a : Option Addr) (a_Lights_n : Nat) (a_Lights_e : Nat) (b_Wide : Int) (b_High : Int) (b_Lights_a : Option Addr) (b_Lights_n : Nat) (b_Lights_e : Nat) (H : AHeap) (K : Value → AHeap → Prop) : bodyK Try.prog E_spec_DistanceOf Try.f109 [.agg #[.int .i64 a_Wide, .int .i64 a_High, .slice a_Lights_a a_Lights_n a_Lights_e], .agg #[.int .i64 b_Wide, .int .i64 b_High, .slice b_Lights_a b_Lights_n b_Lights_e]] H K =
  (Al [.int .i64 a_Wide, .int .i64 a_High, .slice a_Lights_a a_Lights_n a_Lights_e] H fun b1 H1 => Al [.int .i64 b_Wide, .int .i64 b_High, .slice b_Lights_a b_Lights_n b_Lights_e] H1 fun b2 H2 => T_spec_l04Both b1 b2 H2 fun (r1 : Bool) (H3 : AHeap) => Br (!r1) (K (.tuple #[.float .f32 0, .bool false]) H3) (T_spec_l04Far b1 b2 H3 fun (r2 : Nat) (H4 : AHeap) => T_spec_l02Number r2 H4 fun (r3 : Nat) (r4 : Bool) (H5 : AHeap) => K (.tuple #[.float .f32 r3, .bool r4]) H5)) := by kernel_rfl
theorem E_spec_DistanceOf_ok : ∀ g, FnOk Try.prog g (E_spec_DistanceOf g) := FnOk.envOf (by
  intro x hx
  simp only [List.mem_cons, List.not_mem_nil, or_false] at hx
  rcases hx with rfl | rfl | rfl
  · exact spec_l04Both_ok
  · exact spec_l04Far_ok
  · exact spec_l02Number_ok)
set_option maxHeartbeats 1000000 in
theorem spec_DistanceOf_main (a_Wide : Int) (a_High : Int) (a_Lights_a : Option Addr) (a_Lights_n : Nat) (a_Lights_e : Nat) (b_Wide : Int) (b_High : Int) (b_Lights_a : Option Addr) (b_Lights_n : Nat) (b_Lights_e : Nat) (H : AHeap) (K : Value → AHeap → Prop) (h : T_spec_DistanceOf a_Wide a_High a_Lights_a a_Lights_n a_Lights_e b_Wide b_High b_Lights_a b_Lights_n b_Lights_e H fun (r1 : Nat) (r2 : Bool) (H' : AHeap) => K (.tuple #[.float .f32 r1, .bool r2]) H') : bodyK Try.prog E_spec_DistanceOf Try.f109 [.agg #[.int .i64 a_Wide, .int .i64 a_High, .slice a_Lights_a a_Lights_n a_Lights_e], .agg #[.int .i64 b_Wide, .int .i64 b_High, .slice b_Lights_a b_Lights_n b_Lights_e]] H K := by
  rw [spec_DistanceOf_vc]
  obtain ⟨l_a_Lights, l_b_Lights, i_a_Lights, i_b_Lights, bd_32, bd_33, hk⟩ := h
  obtain rfl := i_a_Lights.eqn
  obtain rfl := i_b_Lights.eqn
  have e : (p_spec_DistanceOf a_Wide a_High l_a_Lights b_Wide b_High l_b_Lights) = _ := rfl
  have e := e.trans (p_spec_DistanceOf_eq a_Wide a_High l_a_Lights b_Wide b_High l_b_Lights)
  have g0 := Grow.refl H
  refine Al.intro (fun b_1 H_1 hb_2 hl_3 g_4 o_5 => ?_)
  have l_7 := g_4.1
  have g_8 := g0.trans g_4
  have l_9 := g_8.1
  have w_31 := o_5.lt
  refine Al.intro (fun b_10 H_2 hb_11 hl_12 g_13 o_14 => ?_)
  have l_16 := g_13.1
  have g_17 := g_8.trans g_13
  have l_18 := g_17.1
  have o_19 := o_5.grow g_13
  have w_20 := o_19.lt
  have w_30 := o_14.lt
  refine T_spec_l04Both_i ⟨a_Wide, a_High, a_Lights_a, l_a_Lights.length, a_Lights_e, b_Wide, b_High, b_Lights_a, l_b_Lights.length, b_Lights_e, _, _, ((o_19.rdN (Nat.le_of_ble_eq_true rfl)).trans rfl), ((o_14.rdN (Nat.le_of_ble_eq_true rfl)).trans rfl), (i_a_Lights.grow g_17), (i_b_Lights.grow g_17), (by first | omega | (simp only [List.length_set, List.length_replicate, List.length_append, List.length_cons, List.length_nil, List.length_take, List.length_drop, marks_length]; done) | (simp only [List.length_set, List.length_replicate, List.length_append, List.length_cons, List.length_nil, List.length_take, List.length_drop, marks_length]; omega)), (by first | omega | (simp only [List.length_set, List.length_replicate, List.length_append, List.length_cons, List.length_nil, List.length_take, List.length_drop, marks_length]; done) | (simp only [List.length_set, List.length_replicate, List.length_append, List.length_cons, List.length_nil, List.length_take, List.length_drop, marks_length]; omega)), ?_⟩
  refine Br.intro (fun c_21 => ?_) (fun c_21 => ?_)
  · have e := e.trans (cond_t c_21)
    have c_21n := nf_of_t c_21
    rw [e] at hk
    exact hk  H_2 g_17 
  · have e := e.trans (cond_f c_21)
    have c_21n := nt_of_f c_21
    have c_21n' := spec_l04Both_t c_21n
    refine T_spec_l04Far_i ⟨a_Wide, a_High, a_Lights_a, l_a_Lights.length, a_Lights_e, b_Wide, b_High, b_Lights_a, l_b_Lights.length, b_Lights_e, _, _, ((o_19.rdN (Nat.le_of_ble_eq_true rfl)).trans rfl), ((o_14.rdN (Nat.le_of_ble_eq_true rfl)).trans rfl), (i_a_Lights.grow g_17), (i_b_Lights.grow g_17), (by first | omega | (simp only [List.length_set, List.length_replicate, List.length_append, List.length_cons, List.length_nil, List.length_take, List.length_drop, marks_length]; done) | (simp only [List.length_set, List.length_replicate, List.length_append, List.length_cons, List.length_nil, List.length_take, List.length_drop, marks_length]; omega)), (by first | omega | (simp only [List.length_set, List.length_replicate, List.length_append, List.length_cons, List.length_nil, List.length_take, List.length_drop, marks_length]; done) | (simp only [List.length_set, List.length_replicate, List.length_append, List.length_cons, List.length_nil, List.length_take, List.length_drop, marks_length]; omega)), (by first | assumption | omega | (simp; omega)), (by first | assumption | omega | (simp; omega)), fun  H_3 g_22  => ?_⟩
    have l_23 := g_22.1
    have g_24 := g_17.trans g_22
    have l_25 := g_24.1
    have o_26 := o_19.grow g_22
    have w_27 := o_26.lt
    have o_28 := o_14.grow g_22
    have w_29 := o_28.lt
    refine T_spec_l02Number_i ?_
    rw [e] at hk
    exact hk  H_3 g_24 
theorem spec_DistanceOf_ok : FnOk Try.prog 109 S_spec_DistanceOf := by
  refine FnOk.body mix_ok E_spec_DistanceOf_ok Try.func109 rfl (by kernel_rfl) (by kernel_rfl) ?_ ?_ ?_ ?_ ?_
  · intro args H K K' h hk
    simp only [S_spec_DistanceOf] at *
    unfold F_spec_DistanceOf at *
    split at hk
    · obtain ⟨l_a_Lights, l_b_Lights, i_a_Lights, i_b_Lights, bd_32, bd_33, k⟩ := hk
      exact ⟨l_a_Lights, l_b_Lights, i_a_Lights, i_b_Lights, bd_32, bd_33, (fun  H' gg  => h _ _ (k  H' gg ))⟩
    · exact hk.elim
  · intro hq; cases hq
  · intro args H K hk
    simp only [S_spec_DistanceOf] at *
    unfold F_spec_DistanceOf at *
    split at hk
    · obtain ⟨l_a_Lights, l_b_Lights, i_a_Lights, i_b_Lights, bd_32, bd_33, k⟩ := hk
      exact ⟨_, _, k H (Grow.refl H)⟩
    · exact hk.elim
  · intro _ args H K hk
    simp only [S_spec_DistanceOf] at *
    unfold F_spec_DistanceOf at *
    split at hk
    · obtain ⟨l_a_Lights, l_b_Lights, i_a_Lights, i_b_Lights, bd_32, bd_33, k⟩ := hk
      exact ⟨l_a_Lights, l_b_Lights, i_a_Lights, i_b_Lights, bd_32, bd_33, (fun  H' gg  => ⟨gg, k  H' gg ⟩)⟩
    · exact hk.elim
  · have mm := @spec_DistanceOf_main
    revert mm
    generalize bodyK Try.prog E_spec_DistanceOf Try.f109 = Q
    intro mm args H K hk
    simp only [S_spec_DistanceOf] at *
    unfold F_spec_DistanceOf at *
    split at hk
    · exact mm _ _ _ _ _ _ _ _ _ _ H K hk
    · exact hk.elim
def p_spec_l02Above (x : Nat) : Bool := (bif (p_spec_l01Finite x) then flt .f32 0 x else false)
theorem p_spec_l02Above_eq (x : Nat) : p_spec_l02Above x = (bif (p_spec_l01Finite x) then flt .f32 0 x else false) := rfl
def T_spec_l02Above (x : Nat) (H : AHeap) (K : Bool → AHeap → Prop) : Prop := K (p_spec_l02Above x) H

theorem T_spec_l02Above_i {x : Nat} {H : AHeap} {K : Bool → AHeap → Prop} (h : K (p_spec_l02Above x) H) : T_spec_l02Above x H K := h
/-! spec_l02Above: function 58 -/
def E_spec_l02Above : Env := envOf [(57, S_spec_l01Finite)]
def F_spec_l02Above : List Value → AHeap → (Value → AHeap → Prop) → Prop
  | [.float .f32 x], H, K => T_spec_l02Above x H fun (r1 : Bool) (H' : AHeap) => K (.bool r1) H'
  | _, _, _ => False
def S_spec_l02Above : FSpec := { F := F_spec_l02Above, quiet := true, tame := false }
theorem spec_l02Above_vc (x : Nat) (H : AHeap) (K : Value → AHeap → Prop) : bodyK Try.prog E_spec_l02Above Try.f58 [.float .f32 x] H K =
  (T_spec_l01Finite x H fun (r1 : Bool) (H1 : AHeap) => Br r1 (K (.bool (flt .f32 0 x)) H1) (K (.bool false) H1)) := by kernel_rfl
theorem E_spec_l02Above_ok : ∀ g, FnOk Try.prog g (E_spec_l02Above g) := FnOk.envOf (by
  intro x hx
  simp only [List.mem_cons, List.not_mem_nil, or_false] at hx
  subst hx; exact spec_l01Finite_ok)
set_option maxHeartbeats 1000000 in
theorem spec_l02Above_main (x : Nat) (H : AHeap) (K : Value → AHeap → Prop) (h : T_spec_l02Above x H fun (r1 : Bool) (H' : AHeap) => K (.bool r1) H') : bodyK Try.prog E_spec_l02Above Try.f58 [.float .f32 x] H K := by
  rw [spec_l02Above_vc]
  simp only [T_spec_l01Finite]
  unfold T_spec_l02Above p_spec_l02Above at h
  repeat' (first | exact h | (exfalso; simp_all; done) | (refine ⟨by decide, ?_⟩) | (refine Br.intro (fun hb => ?_) (fun hb => ?_) <;> (try simp only [hb, cond_true, cond_false, Bool.not_true, Bool.not_false] at h)))
theorem spec_l02Above_ok : FnOk Try.prog 58 S_spec_l02Above := by
  refine FnOk.body mix_ok E_spec_l02Above_ok Try.func58 rfl (by kernel_rfl) (by kernel_rfl) ?_ ?_ ?_ ?_ ?_
  · intro args H K K' h hk
    simp only [S_spec_l02Above] at *
    unfold F_spec_l02Above at *
    split at hk
    · have k := hk
      exact h _ _ k
    · exact hk.elim
  · intro _ args H K hk
    simp only [S_spec_l02Above] at *
    unfold F_spec_l02Above at *
    split at hk
    · have k := hk
      exact ⟨_, k, fun K' k' => k'⟩
    · exact hk.elim
  · intro args H K hk
    simp only [S_spec_l02Above] at *
    unfold F_spec_l02Above at *
    split at hk
    · have k := hk
      exact ⟨_, _, k⟩
    · exact hk.elim
  · intro hq; cases hq
  · have mm := @spec_l02Above_main
    revert mm
    generalize bodyK Try.prog E_spec_l02Above Try.f58 = Q
    intro mm args H K hk
    simp only [S_spec_l02Above] at *
    unfold F_spec_l02Above at *
    split at hk
    · exact mm _ H K hk
    · exact hk.elim
def p_math_Float64frombits (x : Int) : Nat := cn .f64 x.toNat
def T_math_Float64frombits (x : Int) (H : AHeap) (K : Nat → AHeap → Prop) : Prop := K (p_math_Float64frombits x) H
theorem T_math_Float64frombits_i {x : Int} {H : AHeap} {K : Nat → AHeap → Prop} (h : K (p_math_Float64frombits x) H) : T_math_Float64frombits x H K := h
def F_math_Float64frombits : List Value → AHeap → (Value → AHeap → Prop) → Prop
  | [.int .u64 b], H, K => T_math_Float64frombits b H fun r1 H' => K (.float .f64 r1) H'
  | _, _, _ => False
def S_math_Float64frombits : FSpec := { F := F_math_Float64frombits, quiet := true }
theorem F_math_Float64frombits_o {args : List Value} {H : AHeap} {K : Value → AHeap → Prop} (h : S_math_Float64frombits.F args H K) : ∃ x, args = [.int .u64 x] ∧ K (.float .f64 (p_math_Float64frombits x)) H := by
  simp only [S_math_Float64frombits] at h
  unfold F_math_Float64frombits at h
  split at h
  · exact ⟨_, rfl, h⟩
  · exact h.elim
theorem math_Float64frombits_ok : FnOk Try.prog 142 S_math_Float64frombits := by
  refine FnOk.ext rfl ?_ ?_ ?_ ?_
  · intro args H K K' h hk
    obtain ⟨x, rfl, k⟩ := F_math_Float64frombits_o hk
    exact h _ _ k
  · intro _ args H K hk
    obtain ⟨x, rfl, k⟩ := F_math_Float64frombits_o hk
    exact ⟨_, k, fun K' k' => k'⟩
  · intro args H K hk
    obtain ⟨x, rfl, k⟩ := F_math_Float64frombits_o hk
    exact ⟨_, _, k⟩
  · intro ρ w args args' H K ha hk
    obtain ⟨x, rfl, k⟩ := F_math_Float64frombits_o hk
    obtain ⟨y, ys, rfl, h3, h4⟩ := ha.uncons
    obtain rfl := h4.unnil
    cases h3
    refine ⟨_, .float .f64 x.toNat, w, ?_, .refl w, .float .f64 _ _ rfl, k⟩
    have := run_callFunc_extern (e := Extern.MathFloatBits.float64frombits) Try.func142 (by kernel_rfl) (by kernel_rfl) (by kernel_rfl) (by kernel_rfl) #[.int .u64 x] w
    rw [this]; rfl

def p_math_NaN  : Nat := (p_math_Float64frombits 9221120237041090561)
def T_math_NaN  (H : AHeap) (K : Nat → AHeap → Prop) : Prop := K (p_math_NaN) H

theorem T_math_NaN_i  {H : AHeap} {K : Nat → AHeap → Prop} (h : K (p_math_NaN) H) : T_math_NaN  H K := h
/-! math_NaN: function 123 -/
def E_math_NaN : Env := envOf [(142, S_math_Float64frombits)]
def F_math_NaN : List Value → AHeap → (Value → AHeap → Prop) → Prop
  | [], H, K => T_math_NaN  H fun (r1 : Nat) (H' : AHeap) => K (.float .f64 r1) H'
  | _, _, _ => False
def S_math_NaN : FSpec := { F := F_math_NaN, quiet := true, tame := false }
theorem math_NaN_vc  (H : AHeap) (K : Value → AHeap → Prop) : bodyK Try.prog E_math_NaN Try.f123 [] H K =
  (T_math_Float64frombits 9221120237041090561 H fun (r1 : Nat) (H1 : AHeap) => K (.float .f64 r1) H1) := by kernel_rfl
theorem E_math_NaN_ok : ∀ g, FnOk Try.prog g (E_math_NaN g) := FnOk.envOf (by
  intro x hx
  simp only [List.mem_cons, List.not_mem_nil, or_false] at hx
  subst hx; exact math_Float64frombits_ok)
set_option maxHeartbeats 1000000 in
theorem math_NaN_main  (H : AHeap) (K : Value → AHeap → Prop) (h : T_math_NaN  H fun (r1 : Nat) (H' : AHeap) => K (.float .f64 r1) H') : bodyK Try.prog E_math_NaN Try.f123 [] H K := by
  rw [math_NaN_vc]
  simp only [T_math_Float64frombits]
  unfold T_math_NaN p_math_NaN at h
  repeat' (first | exact h | (exfalso; simp_all; done) | (refine ⟨by decide, ?_⟩) | (refine Br.intro (fun hb => ?_) (fun hb => ?_) <;> (try simp only [hb, cond_true, cond_false, Bool.not_true, Bool.not_false] at h)))
theorem math_NaN_ok : FnOk Try.prog 123 S_math_NaN := by
  refine FnOk.body mix_ok E_math_NaN_ok Try.func123 rfl (by kernel_rfl) (by kernel_rfl) ?_ ?_ ?_ ?_ ?_
  · intro args H K K' h hk
    simp only [S_math_NaN] at *
    unfold F_math_NaN at *
    split at hk
    · have k := hk
      exact h _ _ k
    · exact hk.elim
  · intro _ args H K hk
    simp only [S_math_NaN] at *
    unfold F_math_NaN at *
    split at hk
    · have k := hk
      exact ⟨_, k, fun K' k' => k'⟩
    · exact hk.elim
  · intro args H K hk
    simp only [S_math_NaN] at *
    unfold F_math_NaN at *
    split at hk
    · have k := hk
      exact ⟨_, _, k⟩
    · exact hk.elim
  · intro hq; cases hq
  · have mm := @math_NaN_main
    revert mm
    generalize bodyK Try.prog E_math_NaN Try.f123 = Q
    intro mm args H K hk
    simp only [S_math_NaN] at *
    unfold F_math_NaN at *
    split at hk
    · exact mm  H K hk
    · exact hk.elim
def p_math_Inf (sign : Int) : Nat := (bif decide ((0 : Int) ≤ sign) then (p_math_Float64frombits 9218868437227405312) else (p_math_Float64frombits 18442240474082181120))
theorem p_math_Inf_eq (sign : Int) : p_math_Inf sign = (bif decide ((0 : Int) ≤ sign) then (p_math_Float64frombits 9218868437227405312) else (p_math_Float64frombits 18442240474082181120)) := rfl
def T_math_Inf (sign : Int) (H : AHeap) (K : Nat → AHeap → Prop) : Prop := K (p_math_Inf sign) H

theorem T_math_Inf_i {sign : Int} {H : AHeap} {K : Nat → AHeap → Prop} (h : K (p_math_Inf sign) H) : T_math_Inf sign H K := h
/-! math_Inf: function 122 -/
def E_math_Inf : Env := envOf [(142, S_math_Float64frombits)]
def F_math_Inf : List Value → AHeap → (Value → AHeap → Prop) → Prop
  | [.int .i64 sign], H, K => T_math_Inf sign H fun (r1 : Nat) (H' : AHeap) => K (.float .f64 r1) H'
  | _, _, _ => False
def S_math_Inf : FSpec := { F := F_math_Inf, quiet := true, tame := false }
theorem math_Inf_vc (sign : Int) (H : AHeap) (K : Value → AHeap → Prop) : bodyK Try.prog E_math_Inf Try.f122 [.int .i64 sign] H K =
  (Br (decide ((0 : Int) ≤ sign)) (T_math_Float64frombits 9218868437227405312 H fun (r1 : Nat) (H1 : AHeap) => K (.float .f64 r1) H1) (T_math_Float64frombits 18442240474082181120 H fun (r2 : Nat) (H2 : AHeap) => K (.float .f64 r2) H2)) := by kernel_rfl
theorem E_math_Inf_ok : ∀ g, FnOk Try.prog g (E_math_Inf g) := FnOk.envOf (by
  intro x hx
  simp only [List.mem_cons, List.not_mem_nil, or_false] at hx
  subst hx; exact math_Float64frombits_ok)
set_option maxHeartbeats 1000000 in
theorem math_Inf_main (sign : Int) (H : AHeap) (K : Value → AHeap → Prop) (h : T_math_Inf sign H fun (r1 : Nat) (H' : AHeap) => K (.float .f64 r1) H') : bodyK Try.prog E_math_Inf Try.f122 [.int .i64 sign] H K := by
  rw [math_Inf_vc]
  simp only [T_math_Float64frombits]
  unfold T_math_Inf p_math_Inf at h
  repeat' (first | exact h | (exfalso; simp_all; done) | (refine ⟨by decide, ?_⟩) | (refine Br.intro (fun hb => ?_) (fun hb => ?_) <;> (try simp only [hb, cond_true, cond_false, Bool.not_true, Bool.not_false] at h)))
theorem math_Inf_ok : FnOk Try.prog 122 S_math_Inf := by
  refine FnOk.body mix_ok E_math_Inf_ok Try.func122 rfl (by kernel_rfl) (by kernel_rfl) ?_ ?_ ?_ ?_ ?_
  · intro args H K K' h hk
    simp only [S_math_Inf] at *
    unfold F_math_Inf at *
    split at hk
    · have k := hk
      exact h _ _ k
    · exact hk.elim
  · intro _ args H K hk
    simp only [S_math_Inf] at *
    unfold F_math_Inf at *
    split at hk
    · have k := hk
      exact ⟨_, k, fun K' k' => k'⟩
    · exact hk.elim
  · intro args H K hk
    simp only [S_math_Inf] at *
    unfold F_math_Inf at *
    split at hk
    · have k := hk
      exact ⟨_, _, k⟩
    · exact hk.elim
  · intro hq; cases hq
  · have mm := @math_Inf_main
    revert mm
    generalize bodyK Try.prog E_math_Inf Try.f122 = Q
    intro mm args H K hk
    simp only [S_math_Inf] at *
    unfold F_math_Inf at *
    split at hk
    · exact mm _ H K hk
    · exact hk.elim
def T_math_Float64bits (x : Nat) (H : AHeap) (K : Int → AHeap → Prop) : Prop := ∀ b : Nat, cn .f64 b = cn .f64 x → K (b : Int) H
def F_math_Float64bits : List Value → AHeap → (Value → AHeap → Prop) → Prop
  | [.float .f64 x], H, K => T_math_Float64bits x H fun r1 H' => K (.int .u64 r1) H'
  | _, _, _ => False
def S_math_Float64bits : FSpec := { F := F_math_Float64bits, quiet := false }
theorem F_math_Float64bits_o {args : List Value} {H : AHeap} {K : Value → AHeap → Prop} (h : S_math_Float64bits.F args H K) : ∃ x, args = [.float .f64 x] ∧ ∀ b : Nat, cn .f64 b = cn .f64 x → K (.int .u64 (b : Int)) H := by
  simp only [S_math_Float64bits] at h
  unfold F_math_Float64bits at h
  split at h
  · exact ⟨_, rfl, h⟩
  · exact h.elim
theorem math_Float64bits_ok : FnOk Try.prog 156 S_math_Float64bits := by
  refine FnOk.ext rfl ?_ ?_ ?_ ?_
  · intro args H K K' h hk
    obtain ⟨x, rfl, k⟩ := F_math_Float64bits_o hk
    exact fun b hb => h _ _ (k b hb)
  · intro h; cases h
  · intro args H K hk
    obtain ⟨x, rfl, k⟩ := F_math_Float64bits_o hk
    exact ⟨_, _, k x rfl⟩
  · intro ρ w args args' H K ha hk
    obtain ⟨x, rfl, k⟩ := F_math_Float64bits_o hk
    obtain ⟨y, ys, rfl, h3, h4⟩ := ha.uncons
    obtain rfl := h4.unnil
    cases h3 with
    | float k0 a b hab =>
      refine ⟨_, .int .u64 b, w, ?_, .refl w, .int .u64 _, k b (by rw [hab, cn_cn])⟩
      have := run_callFunc_extern (e := Extern.MathFloatBits.float64bits) Try.func156 (by kernel_rfl) (by kernel_rfl) (by kernel_rfl) (by kernel_rfl) #[.float .f64 b] w
      rw [this]; rfl

def p_math_Abs (x : Nat) : Nat := cn .f64 (cn .f64 x % 9223372036854775808)
def T_math_Abs (x : Nat) (H : AHeap) (K : Nat → AHeap → Prop) : Prop := K (p_math_Abs x) H
theorem T_math_Abs_i {x : Nat} {H : AHeap} {K : Nat → AHeap → Prop} (h : K (p_math_Abs x) H) : T_math_Abs x H K := h
/-! math_Abs: function 149 -/
def E_math_Abs : Env := envOf [(156, S_math_Float64bits), (142, S_math_Float64frombits)]
def F_math_Abs : List Value → AHeap → (Value → AHeap → Prop) → Prop
  | [.float .f64 x], H, K => T_math_Abs x H fun (r1 : Nat) (H' : AHeap) => K (.float .f64 r1) H'
  | _, _, _ => False
def S_math_Abs : FSpec := { F := F_math_Abs, quiet := true, tame := false }
theorem math_Abs_vc (x : Nat) (H : AHeap) (K : Value → AHeap → Prop) : bodyK Try.prog E_math_Abs Try.f149 [.float .f64 x] H K =
  (T_math_Float64bits x H fun (r1 : Int) (H1 : AHeap) => T_math_Float64frombits (IntKind.wrap .u64 (((BitVec.ofInt (IntKind.bits .u64) r1 &&& ~~~(BitVec.ofInt (IntKind.bits .u64) 9223372036854775808)).toNat : Int))) H1 fun (r2 : Nat) (H2 : AHeap) => K (.float .f64 r2) H2) := by kernel_rfl
theorem E_math_Abs_ok : ∀ g, FnOk Try.prog g (E_math_Abs g) := FnOk.envOf (by
  intro x hx
  simp only [List.mem_cons, List.not_mem_nil, or_false] at hx
  rcases hx with rfl | rfl
  · exact math_Float64bits_ok
  · exact math_Float64frombits_ok)
theorem abs_bits (b : Nat) : (IntKind.wrap .u64 (((BitVec.ofInt (IntKind.bits .u64) (b : Int) &&& ~~~(BitVec.ofInt (IntKind.bits .u64) 9223372036854775808)).toNat : Int))).toNat = b % 9223372036854775808 := by
  have e : (BitVec.ofInt (IntKind.bits .u64) (b : Int) &&& ~~~(BitVec.ofInt (IntKind.bits .u64) 9223372036854775808)).toNat = b % 9223372036854775808 := by
    show (BitVec.ofInt 64 (b : Int) &&& ~~~(BitVec.ofInt 64 9223372036854775808)).toNat = _
    have h1 : (~~~(BitVec.ofInt 64 9223372036854775808)).toNat = 2 ^ 63 - 1 := by decide
    have h2 : (BitVec.ofInt 64 (b : Int)).toNat = b % 2 ^ 64 := by simp
    rw [BitVec.toNat_and, h1, h2, Nat.and_two_pow_sub_one_eq_mod]
    omega
  rw [e, wrapu_id (by omega) (by omega)]
  omega
theorem abs_cn {b x : Nat} (h : cn .f64 b = cn .f64 x) : cn .f64 (b % 9223372036854775808) = cn .f64 (cn .f64 x % 9223372036854775808) := by
  rw [← h]
  cases hn : (FloatKind.f64.decode b).isNaN
  · rw [cn_of_not_nan hn]
  · rw [cn_of_nan hn]
    have : (FloatKind.f64.decode (b % 9223372036854775808)).isNaN = true := by
      rw [nan_iff] at hn ⊢
      have e1 : FloatKind.f64.format.signWeight = 9223372036854775808 := by decide
      rw [e1] at hn ⊢
      rw [Nat.mod_mod]; exact hn
    rw [cn_of_nan this]
    decide +kernel
set_option maxHeartbeats 1000000 in
theorem math_Abs_main (x : Nat) (H : AHeap) (K : Value → AHeap → Prop) (h : T_math_Abs x H fun (r1 : Nat) (H' : AHeap) => K (.float .f64 r1) H') : bodyK Try.prog E_math_Abs Try.f149 [.float .f64 x] H K := by
  rw [math_Abs_vc]
  intro b hb
  show K (.float .f64 (cn .f64 (IntKind.wrap .u64 (((BitVec.ofInt (IntKind.bits .u64) (b : Int) &&& ~~~(BitVec.ofInt (IntKind.bits .u64) 9223372036854775808)).toNat : Int))).toNat)) H
  rw [abs_bits, abs_cn hb]
  exact h
theorem math_Abs_ok : FnOk Try.prog 149 S_math_Abs := by
  refine FnOk.body mix_ok E_math_Abs_ok Try.func149 rfl (by kernel_rfl) (by kernel_rfl) ?_ ?_ ?_ ?_ ?_
  · intro args H K K' h hk
    simp only [S_math_Abs] at *
    unfold F_math_Abs at *
    split at hk
    · have k := hk
      exact h _ _ k
    · exact hk.elim
  · intro _ args H K hk
    simp only [S_math_Abs] at *
    unfold F_math_Abs at *
    split at hk
    · have k := hk
      exact ⟨_, k, fun K' k' => k'⟩
    · exact hk.elim
  · intro args H K hk
    simp only [S_math_Abs] at *
    unfold F_math_Abs at *
    split at hk
    · have k := hk
      exact ⟨_, _, k⟩
    · exact hk.elim
  · intro hq; cases hq
  · have mm := @math_Abs_main
    revert mm
    generalize bodyK Try.prog E_math_Abs Try.f149 = Q
    intro mm args H K hk
    simp only [S_math_Abs] at *
    unfold F_math_Abs at *
    split at hk
    · exact mm _ H K hk
    · exact hk.elim
def p_math_IsInf (f : Nat) (sign : Int) : Bool := ((bif (sign : Int) == 0 then flt .f64 9218868437227405311 (p_math_Abs f) else (bif decide ((sign : Int) < 0) then flt .f64 9218868437227405311 (fneg .f64 f) else flt .f64 9218868437227405311 f)))
theorem p_math_IsInf_eq (f : Nat) (sign : Int) : p_math_IsInf f sign = ((bif (sign : Int) == 0 then flt .f64 9218868437227405311 (p_math_Abs f) else (bif decide ((sign : Int) < 0) then flt .f64 9218868437227405311 (fneg .f64 f) else flt .f64 9218868437227405311 f))) := rfl
def T_math_IsInf (f : Nat) (sign : Int) (H : AHeap) (K : Bool → AHeap → Prop) : Prop := K (p_math_IsInf f sign) H
theorem math_IsInf_f {f : Nat} {sign : Int} (h : p_math_IsInf f sign = false) : sign = 1 → flt .f64 9218868437227405311 f = false := by
  intro e; subst e; exact h
theorem T_math_IsInf_i {f : Nat} {sign : Int} {H : AHeap} {K : Bool → AHeap → Prop} (h : K (p_math_IsInf f sign) H) : T_math_IsInf f sign H K := h
/-! math_IsInf: function 141 -/
def E_math_IsInf : Env := envOf [(149, S_math_Abs)]
def F_math_IsInf : List Value → AHeap → (Value → AHeap → Prop) → Prop
  | [.float .f64 f, .int .i64 sign], H, K => T_math_IsInf f sign H fun (r1 : Bool) (H' : AHeap) => K (.bool r1) H'
  | _, _, _ => False
def S_math_IsInf : FSpec := { F := F_math_IsInf, quiet := true, tame := false }
theorem math_IsInf_vc (f : Nat) (sign : Int) (H : AHeap) (K : Value → AHeap → Prop) : bodyK Try.prog E_math_IsInf Try.f141 [.float .f64 f, .int .i64 sign] H K =
  (Br ((sign : Int) == 0) (T_math_Abs f H fun (r1 : Nat) (H1 : AHeap) => K (.bool (flt .f64 9218868437227405311 r1)) H1) (Br (decide ((sign : Int) < 0)) (K (.bool (flt .f64 9218868437227405311 (fneg .f64 f))) H) (K (.bool (flt .f64 9218868437227405311 f)) H))) := by kernel_rfl
theorem E_math_IsInf_ok : ∀ g, FnOk Try.prog g (E_math_IsInf g) := FnOk.envOf (by
  intro x hx
  simp only [List.mem_cons, List.not_mem_nil, or_false] at hx
  subst hx; exact math_Abs_ok)
set_option maxHeartbeats 1000000 in
theorem math_IsInf_main (f : Nat) (sign : Int) (H : AHeap) (K : Value → AHeap → Prop) (h : T_math_IsInf f sign H fun (r1 : Bool) (H' : AHeap) => K (.bool r1) H') : bodyK Try.prog E_math_IsInf Try.f141 [.float .f64 f, .int .i64 sign] H K := by
  rw [math_IsInf_vc]
  simp only [T_math_Abs]
  unfold T_math_IsInf p_math_IsInf at h
  repeat' (first | exact h | (exfalso; simp_all; done) | (refine ⟨by decide, ?_⟩) | (refine Br.intro (fun hb => ?_) (fun hb => ?_) <;> (try simp only [hb, cond_true, cond_false, Bool.not_true, Bool.not_false] at h)))
theorem math_IsInf_ok : FnOk Try.prog 141 S_math_IsInf := by
  refine FnOk.body mix_ok E_math_IsInf_ok Try.func141 rfl (by kernel_rfl) (by kernel_rfl) ?_ ?_ ?_ ?_ ?_
  · intro args H K K' h hk
    simp only [S_math_IsInf] at *
    unfold F_math_IsInf at *
    split at hk
    · have k := hk
      exact h _ _ k
    · exact hk.elim
  · intro _ args H K hk
    simp only [S_math_IsInf] at *
    unfold F_math_IsInf at *
    split at hk
    · have k := hk
      exact ⟨_, k, fun K' k' => k'⟩
    · exact hk.elim
  · intro args H K hk
    simp only [S_math_IsInf] at *
    unfold F_math_IsInf at *
    split at hk
    · have k := hk
      exact ⟨_, _, k⟩
    · exact hk.elim
  · intro hq; cases hq
  · have mm := @math_IsInf_main
    revert mm
    generalize bodyK Try.prog E_math_IsInf Try.f141 = Q
    intro mm args H K hk
    simp only [S_math_IsInf] at *
    unfold F_math_IsInf at *
    split at hk
    · exact mm _ _ H K hk
    · exact hk.elim
def p_spec_l01LogWide_l3 (y : Nat) (y_0 : Nat) (ve : Int) (y_0' : Nat) (ve_3 : Int) (k3_5 : Nat → Int → Nat) : Nat → Nat → Int → Nat
  | 0, _, _ => 0
  | μ3 + 1, q, k => (bif decide ((1 : Int) ≤ k) then (p_spec_l01LogWide_l3 y y_0 ve y_0' ve_3 k3_5 μ3 (fadd .f64 (fdiv .f64 4607182418800017408 (FloatKind.nearest .f64 k)) (fmul .f64 (fmul .f64 (fdiv .f64 (fsub .f64 y_0' 4607182418800017408) (fadd .f64 y_0' 4607182418800017408)) (fdiv .f64 (fsub .f64 y_0' 4607182418800017408) (fadd .f64 y_0' 4607182418800017408))) q)) (k - 2)) else (k3_5 q k))
theorem p_spec_l01LogWide_l3_s (y : Nat) (y_0 : Nat) (ve : Int) (y_0' : Nat) (ve_3 : Int) (k3_5 : Nat → Int → Nat) (μ3 : Nat) (q : Nat) (k : Int) : p_spec_l01LogWide_l3 y y_0 ve y_0' ve_3 k3_5 (μ3 + 1) q k = (bif decide ((1 : Int) ≤ k) then (p_spec_l01LogWide_l3 y y_0 ve y_0' ve_3 k3_5 μ3 (fadd .f64 (fdiv .f64 4607182418800017408 (FloatKind.nearest .f64 k)) (fmul .f64 (fmul .f64 (fdiv .f64 (fsub .f64 y_0' 4607182418800017408) (fadd .f64 y_0' 4607182418800017408)) (fdiv .f64 (fsub .f64 y_0' 4607182418800017408) (fadd .f64 y_0' 4607182418800017408))) q)) (k - 2)) else (k3_5 q k)) := rfl
def p_spec_l01LogWide_l2 (y : Nat) (y_0 : Nat) (ve : Int) (k2_3 : Nat → Int → Nat) : Nat → Nat → Int → Nat
  | 0, _, _ => 0
  | μ2 + 1, y_0', ve_3 => (bif flt .f64 y_0' 4604930618986332160 then (p_spec_l01LogWide_l2 y y_0 ve k2_3 μ2 (fmul .f64 y_0' 4611686018427387904) (IntKind.wrap .i64 (ve_3 - 1))) else (k2_3 y_0' ve_3))
theorem p_spec_l01LogWide_l2_s (y : Nat) (y_0 : Nat) (ve : Int) (k2_3 : Nat → Int → Nat) (μ2 : Nat) (y_0' : Nat) (ve_3 : Int) : p_spec_l01LogWide_l2 y y_0 ve k2_3 (μ2 + 1) y_0' ve_3 = (bif flt .f64 y_0' 4604930618986332160 then (p_spec_l01LogWide_l2 y y_0 ve k2_3 μ2 (fmul .f64 y_0' 4611686018427387904) (IntKind.wrap .i64 (ve_3 - 1))) else (k2_3 y_0' ve_3)) := rfl
def p_spec_l01LogWide_l1 (y : Nat) : Nat → Nat → Int → Nat
  | 0, _, _ => 0
  | μ + 1, y_0, ve => (bif fle .f64 4609434218613702656 y_0 then (p_spec_l01LogWide_l1 y μ (fdiv .f64 y_0 4611686018427387904) (IntKind.wrap .i64 (ve + 1))) else (p_spec_l01LogWide_l2 y y_0 ve (fun (y_0' : Nat) (ve_3 : Int) => (p_spec_l01LogWide_l3 y y_0 ve y_0' ve_3 (fun (q : Nat) (k : Int) => fadd .f64 (fmul .f64 4611686018427387904 (fmul .f64 (fdiv .f64 (fsub .f64 y_0' 4607182418800017408) (fadd .f64 y_0' 4607182418800017408)) q)) (fmul .f64 (FloatKind.nearest .f64 ve_3) 4604418534313441775)) (Int.toNat ((25 : Int) + 1) + 1) 0 (25 : Int))) (Int.toNat ((4604930618986332160 : Int) - y_0) + 1) y_0 ve))
theorem p_spec_l01LogWide_l1_s (y : Nat) (μ : Nat) (y_0 : Nat) (ve : Int) : p_spec_l01LogWide_l1 y (μ + 1) y_0 ve = (bif fle .f64 4609434218613702656 y_0 then (p_spec_l01LogWide_l1 y μ (fdiv .f64 y_0 4611686018427387904) (IntKind.wrap .i64 (ve + 1))) else (p_spec_l01LogWide_l2 y y_0 ve (fun (y_0' : Nat) (ve_3 : Int) => (p_spec_l01LogWide_l3 y y_0 ve y_0' ve_3 (fun (q : Nat) (k : Int) => fadd .f64 (fmul .f64 4611686018427387904 (fmul .f64 (fdiv .f64 (fsub .f64 y_0' 4607182418800017408) (fadd .f64 y_0' 4607182418800017408)) q)) (fmul .f64 (FloatKind.nearest .f64 ve_3) 4604418534313441775)) (Int.toNat ((25 : Int) + 1) + 1) 0 (25 : Int))) (Int.toNat ((4604930618986332160 : Int) - y_0) + 1) y_0 ve)) := rfl
def p_spec_l01LogWide (y : Nat) : Nat := (bif !(feq .f64 y y) then p_math_NaN else (bif flt .f64 y 0 then p_math_NaN else (bif feq .f64 y 0 then (p_math_Inf ((-1) : Int)) else (bif (p_math_IsInf y (1 : Int)) then y else (p_spec_l01LogWide_l1 y (Int.toNat ((y : Int)) + 1) y (0 : Int))))))
theorem p_spec_l01LogWide_eq (y : Nat) : p_spec_l01LogWide y = (bif !(feq .f64 y y) then p_math_NaN else (bif flt .f64 y 0 then p_math_NaN else (bif feq .f64 y 0 then (p_math_Inf ((-1) : Int)) else (bif (p_math_IsInf y (1 : Int)) then y else (p_spec_l01LogWide_l1 y (Int.toNat ((y : Int)) + 1) y (0 : Int)))))) := rfl
def T_spec_l01LogWide (y : Nat) (H : AHeap) (K : Nat → AHeap → Prop) : Prop := Nrm y ∧ K (p_spec_l01LogWide y) H
theorem T_spec_l01LogWide_i {y : Nat} {H : AHeap} {K : Nat → AHeap → Prop} (h : Nrm y ∧ K (p_spec_l01LogWide y) H) : T_spec_l01LogWide y H K := h
theorem spec_l3_nar {x x_0 x' : Nat} {ve ve_3 : Int} {K : Nat → Int → Nat} (h0 : 4604930618986332160 ≤ x') (h1 : x' < 4609434218613702656) (hK : ∀ q k, Bd .f64 1160 q → fnarrow (K q k) ≠ none) :
    ∀ (μ : Nat) (n : Int) (A q : Nat), Bd .f64 A q → 1074 ≤ A → (A : Int) ≤ 1155 - 3 * n → n ≤ 25 → -1 ≤ n → fnarrow (p_spec_l01LogWide_l3 x x_0 ve x' ve_3 K μ q n) ≠ none := by
  intro μ
  induction μ with
  | zero => intro n A q _ _ _ _ _; exact (by decide +kernel : fnarrow 0 ≠ none)
  | succ μ ih =>
    intro n A q hq hA hA2 hn hn1
    rw [p_spec_l01LogWide_l3_s]
    by_cases h : (1 : Int) ≤ n
    · rw [decide_eq_true h, cond_true]
      exact ih (n - 2) (A + 6) _ (log_step' (log_square h0 h1) h (by omega) hq hA (by omega)) (by omega) (by omega) (by omega) (by omega)
    · rw [decide_eq_false h, cond_false]
      exact hK _ _ (hq.mono (by omega))
theorem spec_l2_nar {x x_0 : Nat} {ve : Int} {K : Nat → Int → Nat} (hK : ∀ x' (e : Int), 4604930618986332160 ≤ x' → x' < 4609434218613702656 → e.natAbs ≤ 4000 → fnarrow (K x' e) ≠ none) :
    ∀ (μ : Nat) (x' : Nat) (e : Int), 4503599627370496 ≤ x' → x' < 4609434218613702656 → (4609434218613702656 : Int) - x' ≤ (e + 3000) * 4503599627370496 → e ≤ 2100 →
      fnarrow (p_spec_l01LogWide_l2 x x_0 ve K μ x' e) ≠ none := by
  intro μ
  induction μ with
  | zero => intro x' e _ _ _ _; exact (by decide +kernel : fnarrow 0 ≠ none)
  | succ μ ih =>
    intro x' e h0 h1 h2 h3
    rw [p_spec_l01LogWide_l2_s]
    cases hc : flt .f64 x' 4604930618986332160 with
    | true =>
      have := twice_step h0 (by omega) hc
      rw [cond_true, wrap64 (n := e - 1) (by omega) (by omega), this.1]
      exact ih _ _ (by omega) (by omega) (by omega) (by omega)
    | false =>
      rw [cond_false]
      rw [pos_lt h0 (by omega) (by decide) (by decide)] at hc
      have := of_decide_eq_false hc
      exact hK _ _ (by omega) h1 (by omega)
theorem spec_l1_nar {x : Nat} :
    ∀ (μ : Nat) (x_0 : Nat) (e : Int), 4503599627370496 ≤ x_0 → x_0 < 9218868437227405312 → e * 4503599627370496 + x_0 ≤ 9218868437227405312 → 0 ≤ e →
      fnarrow (p_spec_l01LogWide_l1 x μ x_0 e) ≠ none := by
  intro μ
  induction μ with
  | zero => intro x_0 e _ _ _ _; exact (by decide +kernel : fnarrow 0 ≠ none)
  | succ μ ih =>
    intro x_0 e h0 h1 h2 h3
    rw [p_spec_l01LogWide_l1_s]
    cases hc : fle .f64 4609434218613702656 x_0 with
    | true =>
      have := half_step h0 h1 hc
      rw [cond_true, wrap64 (n := e + 1) (by omega) (by omega), this.1]
      exact ih _ _ (by omega) (by omega) (by omega) (by omega)
    | false =>
      rw [cond_false]
      rw [pos_le (by decide) (by decide) h0 h1] at hc
      have := of_decide_eq_false hc
      refine spec_l2_nar ?_ _ _ _ h0 (by omega) (by omega) (by omega)
      intro x' e' a0 a1 a2
      refine spec_l3_nar a0 a1 ?_ _ 25 1074 0 (bd_zero _) (by decide) (by decide) (by decide) (by decide)
      intro q k hq
      exact log_sum' (log_quot a0 a1) hq (by decide) (by decide) a2
theorem spec_log_nar (x : Nat) : fnarrow (p_spec_l01LogWide (fwide x)) ≠ none := by
  rw [p_spec_l01LogWide_eq]
  cases h1 : feq .f64 (fwide x) (fwide x) with
  | false => exact (by decide +kernel : fnarrow p_math_NaN ≠ none)
  | true =>
    cases h2 : flt .f64 (fwide x) 0 with
    | true => exact (by decide +kernel : fnarrow p_math_NaN ≠ none)
    | false =>
      cases h3 : feq .f64 (fwide x) 0 with
      | true => exact (by decide +kernel : fnarrow (p_math_Inf (-1)) ≠ none)
      | false =>
        cases h4 : p_math_IsInf (fwide x) 1 with
        | true => exact inf_narrow x h4
        | false =>
          have h := nrm_use (wide_nrm x) h1 h2 h3 h4
          rw [Bool.not_true, cond_false, cond_false, cond_false, cond_false]
          exact spec_l1_nar _ _ 0 h.1 h.2 (by omega) (by decide)
/-! spec_l01LogWide: function 121 -/
def E_spec_l01LogWide : Env := envOf [(123, S_math_NaN), (122, S_math_Inf), (141, S_math_IsInf)]
def F_spec_l01LogWide : List Value → AHeap → (Value → AHeap → Prop) → Prop
  | [.float .f64 y], H, K => T_spec_l01LogWide y H fun (r1 : Nat) (H' : AHeap) => K (.float .f64 r1) H'
  | _, _, _ => False
def S_spec_l01LogWide : FSpec := { F := F_spec_l01LogWide, quiet := true, tame := false }
theorem spec_l01LogWide_vc (y : Nat) (H : AHeap) (K : Value → AHeap → Prop) : bodyK Try.prog E_spec_l01LogWide Try.f121 [.float .f64 y] H K =
  (Br (!(feq .f64 y y)) (T_math_NaN  H fun (r1 : Nat) (H1 : AHeap) => K (.float .f64 r1) H1) (Br (flt .f64 y 0) (T_math_NaN  H fun (r2 : Nat) (H2 : AHeap) => K (.float .f64 r2) H2) (Br (feq .f64 y 0) (T_math_Inf (-1) H fun (r3 : Nat) (H3 : AHeap) => K (.float .f64 r3) H3) (T_math_IsInf y 1 H fun (r4 : Bool) (H4 : AHeap) => Br r4 (K (.float .f64 y) H4) (loopK (exK Try.prog E_spec_l01LogWide (cl (cl (cl (cr (cr (cr (bodyC Try.f121)))))))) [.float .f64 y, undef, .float .f64 0, .int .i64 0, undef, undef, undef, undef, .bool (flt .f64 y 0), .float .f64 y, .float .f64 y, .bool (!(feq .f64 y y)), .bool false, .float .f64 y, .bool (flt .f64 y 0), .bool (flt .f64 y 0), undef, .bool (feq .f64 y 0), .float .f64 y, .bool (feq .f64 y 0), undef, .bool r4, .float .f64 y, .bool r4, undef, undef, undef, undef, undef, undef, undef, undef, undef, undef, undef, undef, undef, undef, undef, undef, undef, undef, undef, undef, undef, undef, undef, undef, undef, undef, undef, undef, undef, undef, undef, undef, undef, undef, undef, undef, undef, undef, undef, undef] H4 (blockQ 1 (seqQ (exK Try.prog E_spec_l01LogWide (cr (cr (cr (cr (bodyC Try.f121)))))) (retK Try.prog Try.f121 K)))))))) := by kernel_rfl
theorem spec_l01LogWide_r1 (r4 : Bool) (y : Nat) (y_0 : Nat) (ve : Int) (g25 g26 g27 g28 g29 g30 : Value) (H : AHeap) (R : Post) : exK Try.prog E_spec_l01LogWide (cl (cl (cl (cr (cr (cr (bodyC Try.f121))))))) [.float .f64 y_0, undef, .float .f64 0, .int .i64 ve, undef, undef, undef, undef, .bool (flt .f64 y 0), .float .f64 y, .float .f64 y, .bool (!(feq .f64 y y)), .bool false, .float .f64 y, .bool (flt .f64 y 0), .bool (flt .f64 y 0), undef, .bool (feq .f64 y 0), .float .f64 y, .bool (feq .f64 y 0), undef, .bool r4, .float .f64 y, .bool r4, undef, g25, g26, g27, g28, g29, g30, undef, undef, undef, undef, undef, undef, undef, undef, undef, undef, undef, undef, undef, undef, undef, undef, undef, undef, undef, undef, undef, undef, undef, undef, undef, undef, undef, undef, undef, undef, undef, undef, undef] H R =
  (Br (fle .f64 4609434218613702656 y_0) (R .normal [.float .f64 (fdiv .f64 y_0 4611686018427387904), undef, .float .f64 0, .int .i64 (IntKind.wrap .i64 (ve + 1)), undef, undef, undef, undef, .bool (flt .f64 y 0), .float .f64 y, .float .f64 y, .bool (!(feq .f64 y y)), .bool false, .float .f64 y, .bool (flt .f64 y 0), .bool (flt .f64 y 0), undef, .bool (feq .f64 y 0), .float .f64 y, .bool (feq .f64 y 0), undef, .bool r4, .float .f64 y, .bool r4, undef, .float .f64 y_0, .bool (fle .f64 4609434218613702656 y_0), .float .f64 y_0, .float .f64 (fdiv .f64 y_0 4611686018427387904), .int .i64 ve, .int .i64 (IntKind.wrap .i64 (ve + 1)), undef, undef, undef, undef, undef, undef, undef, undef, undef, undef, undef, undef, undef, undef, undef, undef, undef, undef, undef, undef, undef, undef, undef, undef, undef, undef, undef, undef, undef, undef, undef, undef, undef] H) (R (.exit 1) [.float .f64 y_0, undef, .float .f64 0, .int .i64 ve, undef, undef, undef, undef, .bool (flt .f64 y 0), .float .f64 y, .float .f64 y, .bool (!(feq .f64 y y)), .bool false, .float .f64 y, .bool (flt .f64 y 0), .bool (flt .f64 y 0), undef, .bool (feq .f64 y 0), .float .f64 y, .bool (feq .f64 y 0), undef, .bool r4, .float .f64 y, .bool r4, undef, .float .f64 y_0, .bool (fle .f64 4609434218613702656 y_0), g27, g28, g29, g30, undef, undef, undef, undef, undef, undef, undef, undef, undef, undef, undef, undef, undef, undef, undef, undef, undef, undef, undef, undef, undef, undef, undef, undef, undef, undef, undef, undef, undef, undef, undef, undef, undef] H)) := by kernel_rfl
def spec_l01LogWide_I1 (r4 : Bool) (y : Nat) (Inv : Nat → Nat → Int → AHeap → Prop) : Nat → List Value → AHeap → Prop := fun μ tm H => ∃ (y_0 : Nat), ∃ (ve : Int), ∃ g25 g26 g27 g28 g29 g30, tm = [.float .f64 y_0, undef, .float .f64 0, .int .i64 ve, undef, undef, undef, undef, .bool (flt .f64 y 0), .float .f64 y, .float .f64 y, .bool (!(feq .f64 y y)), .bool false, .float .f64 y, .bool (flt .f64 y 0), .bool (flt .f64 y 0), undef, .bool (feq .f64 y 0), .float .f64 y, .bool (feq .f64 y 0), undef, .bool r4, .float .f64 y, .bool r4, undef, g25, g26, g27, g28, g29, g30, undef, undef, undef, undef, undef, undef, undef, undef, undef, undef, undef, undef, undef, undef, undef, undef, undef, undef, undef, undef, undef, undef, undef, undef, undef, undef, undef, undef, undef, undef, undef, undef, undef] ∧ Inv μ y_0 ve H
theorem spec_l01LogWide_L1 (r4 : Bool) (y : Nat) {Q : Post} (Inv : Nat → Nat → Int → AHeap → Prop) (ν : Nat) (y_0 : Nat) (ve : Int) (g25 g26 g27 g28 g29 g30 : Value) (H : AHeap) (h0 : Inv ν y_0 ve H)
    (hs : ∀ (μ : Nat) (y_0 : Nat) (ve : Int) (g25 g26 g27 g28 g29 g30 : Value) (H : AHeap), Inv μ y_0 ve H → exK Try.prog E_spec_l01LogWide (cl (cl (cl (cr (cr (cr (bodyC Try.f121))))))) [.float .f64 y_0, undef, .float .f64 0, .int .i64 ve, undef, undef, undef, undef, .bool (flt .f64 y 0), .float .f64 y, .float .f64 y, .bool (!(feq .f64 y y)), .bool false, .float .f64 y, .bool (flt .f64 y 0), .bool (flt .f64 y 0), undef, .bool (feq .f64 y 0), .float .f64 y, .bool (feq .f64 y 0), undef, .bool r4, .float .f64 y, .bool r4, undef, g25, g26, g27, g28, g29, g30, undef, undef, undef, undef, undef, undef, undef, undef, undef, undef, undef, undef, undef, undef, undef, undef, undef, undef, undef, undef, undef, undef, undef, undef, undef, undef, undef, undef, undef, undef, undef, undef, undef] H (loopQ (spec_l01LogWide_I1 r4 y Inv) μ Q)) : loopK (exK Try.prog E_spec_l01LogWide (cl (cl (cl (cr (cr (cr (bodyC Try.f121)))))))) [.float .f64 y_0, undef, .float .f64 0, .int .i64 ve, undef, undef, undef, undef, .bool (flt .f64 y 0), .float .f64 y, .float .f64 y, .bool (!(feq .f64 y y)), .bool false, .float .f64 y, .bool (flt .f64 y 0), .bool (flt .f64 y 0), undef, .bool (feq .f64 y 0), .float .f64 y, .bool (feq .f64 y 0), undef, .bool r4, .float .f64 y, .bool r4, undef, g25, g26, g27, g28, g29, g30, undef, undef, undef, undef, undef, undef, undef, undef, undef, undef, undef, undef, undef, undef, undef, undef, undef, undef, undef, undef, undef, undef, undef, undef, undef, undef, undef, undef, undef, undef, undef, undef, undef] H Q :=
  ⟨spec_l01LogWide_I1 r4 y Inv, ν, ⟨y_0, ve, g25, g26, g27, g28, g29, g30, rfl, h0⟩, fun μ tm H h => by obtain ⟨y_0, ve, g25, g26, g27, g28, g29, g30, rfl, hI⟩ := h; exact hs μ y_0 ve g25 g26 g27 g28 g29 g30 H hI⟩
theorem spec_l01LogWide_n1 {r4 : Bool} {y : Nat} {Q : Post} {Inv : Nat → Nat → Int → AHeap → Prop} {μ : Nat} (μ' : Nat) {y_0 : Nat} {ve : Int} {g25 g26 g27 g28 g29 g30 : Value} {H : AHeap} (hm : μ' < μ) (hI : Inv μ' y_0 ve H) : loopQ (spec_l01LogWide_I1 r4 y Inv) μ Q .normal [.float .f64 y_0, undef, .float .f64 0, .int .i64 ve, undef, undef, undef, undef, .bool (flt .f64 y 0), .float .f64 y, .float .f64 y, .bool (!(feq .f64 y y)), .bool false, .float .f64 y, .bool (flt .f64 y 0), .bool (flt .f64 y 0), undef, .bool (feq .f64 y 0), .float .f64 y, .bool (feq .f64 y 0), undef, .bool r4, .float .f64 y, .bool r4, undef, g25, g26, g27, g28, g29, g30, undef, undef, undef, undef, undef, undef, undef, undef, undef, undef, undef, undef, undef, undef, undef, undef, undef, undef, undef, undef, undef, undef, undef, undef, undef, undef, undef, undef, undef, undef, undef, undef, undef] H := ⟨μ', hm, y_0, ve, g25, g26, g27, g28, g29, g30, rfl, hI⟩
theorem spec_l01LogWide_x1_1 (r4 : Bool) (y : Nat) (y_0 : Nat) (ve : Int) (g25 g26 g27 g28 g29 g30 : Value) (H : AHeap) (K : Value → AHeap → Prop)  {I : Nat → List Value → AHeap → Prop} {μ : Nat} : loopQ I μ (blockQ 1 (seqQ (exK Try.prog E_spec_l01LogWide (cr (cr (cr (cr (bodyC Try.f121)))))) (retK Try.prog Try.f121 K))) (.exit 1) [.float .f64 y_0, undef, .float .f64 0, .int .i64 ve, undef, undef, undef, undef, .bool (flt .f64 y 0), .float .f64 y, .float .f64 y, .bool (!(feq .f64 y y)), .bool false, .float .f64 y, .bool (flt .f64 y 0), .bool (flt .f64 y 0), undef, .bool (feq .f64 y 0), .float .f64 y, .bool (feq .f64 y 0), undef, .bool r4, .float .f64 y, .bool r4, undef, g25, g26, g27, g28, g29, g30, undef, undef, undef, undef, undef, undef, undef, undef, undef, undef, undef, undef, undef, undef, undef, undef, undef, undef, undef, undef, undef, undef, undef, undef, undef, undef, undef, undef, undef, undef, undef, undef, undef] H =
  (loopK (exK Try.prog E_spec_l01LogWide (cl (cl (cl (cr (cr (cr (cr (bodyC Try.f121))))))))) [.float .f64 y_0, undef, .float .f64 0, .int .i64 ve, undef, undef, undef, undef, .bool (flt .f64 y 0), .float .f64 y, .float .f64 y, .bool (!(feq .f64 y y)), .bool false, .float .f64 y, .bool (flt .f64 y 0), .bool (flt .f64 y 0), undef, .bool (feq .f64 y 0), .float .f64 y, .bool (feq .f64 y 0), undef, .bool r4, .float .f64 y, .bool r4, undef, g25, g26, g27, g28, g29, g30, undef, undef, undef, undef, undef, undef, undef, undef, undef, undef, undef, undef, undef, undef, undef, undef, undef, undef, undef, undef, undef, undef, undef, undef, undef, undef, undef, undef, undef, undef, undef, undef, undef] H (blockQ 3 (seqQ (exK Try.prog E_spec_l01LogWide (cr (cr (cr (cr (cr (bodyC Try.f121))))))) (retK Try.prog Try.f121 K)))) := by kernel_rfl
theorem spec_l01LogWide_r2 (g25 : Value) (g26 : Value) (g27 : Value) (g28 : Value) (g29 : Value) (g30 : Value) (r4 : Bool) (y : Nat) (y_0' : Nat) (ve_3 : Int) (g31 g32 g33 g34 g35 g36 : Value) (H : AHeap) (R : Post) : exK Try.prog E_spec_l01LogWide (cl (cl (cl (cr (cr (cr (cr (bodyC Try.f121)))))))) [.float .f64 y_0', undef, .float .f64 0, .int .i64 ve_3, undef, undef, undef, undef, .bool (flt .f64 y 0), .float .f64 y, .float .f64 y, .bool (!(feq .f64 y y)), .bool false, .float .f64 y, .bool (flt .f64 y 0), .bool (flt .f64 y 0), undef, .bool (feq .f64 y 0), .float .f64 y, .bool (feq .f64 y 0), undef, .bool r4, .float .f64 y, .bool r4, undef, g25, g26, g27, g28, g29, g30, g31, g32, g33, g34, g35, g36, undef, undef, undef, undef, undef, undef, undef, undef, undef, undef, undef, undef, undef, undef, undef, undef, undef, undef, undef, undef, undef, undef, undef, undef, undef, undef, undef] H R =
  (Br (flt .f64 y_0' 4604930618986332160) (R .normal [.float .f64 (fmul .f64 y_0' 4611686018427387904), undef, .float .f64 0, .int .i64 (IntKind.wrap .i64 (ve_3 - 1)), undef, undef, undef, undef, .bool (flt .f64 y 0), .float .f64 y, .float .f64 y, .bool (!(feq .f64 y y)), .bool false, .float .f64 y, .bool (flt .f64 y 0), .bool (flt .f64 y 0), undef, .bool (feq .f64 y 0), .float .f64 y, .bool (feq .f64 y 0), undef, .bool r4, .float .f64 y, .bool r4, undef, g25, g26, g27, g28, g29, g30, .float .f64 y_0', .bool (flt .f64 y_0' 4604930618986332160), .float .f64 y_0', .float .f64 (fmul .f64 y_0' 4611686018427387904), .int .i64 ve_3, .int .i64 (IntKind.wrap .i64 (ve_3 - 1)), undef, undef, undef, undef, undef, undef, undef, undef, undef, undef, undef, undef, undef, undef, undef, undef, undef, undef, undef, undef, undef, undef, undef, undef, undef, undef, undef] H) (R (.exit 3) [.float .f64 y_0', undef, .float .f64 0, .int .i64 ve_3, undef, undef, undef, undef, .bool (flt .f64 y 0), .float .f64 y, .float .f64 y, .bool (!(feq .f64 y y)), .bool false, .float .f64 y, .bool (flt .f64 y 0), .bool (flt .f64 y 0), undef, .bool (feq .f64 y 0), .float .f64 y, .bool (feq .f64 y 0), undef, .bool r4, .float .f64 y, .bool r4, undef, g25, g26, g27, g28, g29, g30, .float .f64 y_0', .bool (flt .f64 y_0' 4604930618986332160), g33, g34, g35, g36, undef, undef, undef, undef, undef, undef, undef, undef, undef, undef, undef, undef, undef, undef, undef, undef, undef, undef, undef, undef, undef, undef, undef, undef, undef, undef, undef] H)) := by kernel_rfl
def spec_l01LogWide_I2 (g25 : Value) (g26 : Value) (g27 : Value) (g28 : Value) (g29 : Value) (g30 : Value) (r4 : Bool) (y : Nat) (Inv : Nat → Nat → Int → AHeap → Prop) : Nat → List Value → AHeap → Prop := fun μ tm H => ∃ (y_0' : Nat), ∃ (ve_3 : Int), ∃ g31 g32 g33 g34 g35 g36, tm = [.float .f64 y_0', undef, .float .f64 0, .int .i64 ve_3, undef, undef, undef, undef, .bool (flt .f64 y 0), .float .f64 y, .float .f64 y, .bool (!(feq .f64 y y)), .bool false, .float .f64 y, .bool (flt .f64 y 0), .bool (flt .f64 y 0), undef, .bool (feq .f64 y 0), .float .f64 y, .bool (feq .f64 y 0), undef, .bool r4, .float .f64 y, .bool r4, undef, g25, g26, g27, g28, g29, g30, g31, g32, g33, g34, g35, g36, undef, undef, undef, undef, undef, undef, undef, undef, undef, undef, undef, undef, undef, undef, undef, undef, undef, undef, undef, undef, undef, undef, undef, undef, undef, undef, undef] ∧ Inv μ y_0' ve_3 H
theorem spec_l01LogWide_L2 (g25 : Value) (g26 : Value) (g27 : Value) (g28 : Value) (g29 : Value) (g30 : Value) (r4 : Bool) (y : Nat) {Q : Post} (Inv : Nat → Nat → Int → AHeap → Prop) (ν : Nat) (y_0' : Nat) (ve_3 : Int) (g31 g32 g33 g34 g35 g36 : Value) (H : AHeap) (h0 : Inv ν y_0' ve_3 H)
    (hs : ∀ (μ : Nat) (y_0' : Nat) (ve_3 : Int) (g31 g32 g33 g34 g35 g36 : Value) (H : AHeap), Inv μ y_0' ve_3 H → exK Try.prog E_spec_l01LogWide (cl (cl (cl (cr (cr (cr (cr (bodyC Try.f121)))))))) [.float .f64 y_0', undef, .float .f64 0, .int .i64 ve_3, undef, undef, undef, undef, .bool (flt .f64 y 0), .float .f64 y, .float .f64 y, .bool (!(feq .f64 y y)), .bool false, .float .f64 y, .bool (flt .f64 y 0), .bool (flt .f64 y 0), undef, .bool (feq .f64 y 0), .float .f64 y, .bool (feq .f64 y 0), undef, .bool r4, .float .f64 y, .bool r4, undef, g25, g26, g27, g28, g29, g30, g31, g32, g33, g34, g35, g36, undef, undef, undef, undef, undef, undef, undef, undef, undef, undef, undef, undef, undef, undef, undef, undef, undef, undef, undef, undef, undef, undef, undef, undef, undef, undef, undef] H (loopQ (spec_l01LogWide_I2 g25 g26 g27 g28 g29 g30 r4 y Inv) μ Q)) : loopK (exK Try.prog E_spec_l01LogWide (cl (cl (cl (cr (cr (cr (cr (bodyC Try.f121))))))))) [.float .f64 y_0', undef, .float .f64 0, .int .i64 ve_3, undef, undef, undef, undef, .bool (flt .f64 y 0), .float .f64 y, .float .f64 y, .bool (!(feq .f64 y y)), .bool false, .float .f64 y, .bool (flt .f64 y 0), .bool (flt .f64 y 0), undef, .bool (feq .f64 y 0), .float .f64 y, .bool (feq .f64 y 0), undef, .bool r4, .float .f64 y, .bool r4, undef, g25, g26, g27, g28, g29, g30, g31, g32, g33, g34, g35, g36, undef, undef, undef, undef, undef, undef, undef, undef, undef, undef, undef, undef, undef, undef, undef, undef, undef, undef, undef, undef, undef, undef, undef, undef, undef, undef, undef] H Q :=
  ⟨spec_l01LogWide_I2 g25 g26 g27 g28 g29 g30 r4 y Inv, ν, ⟨y_0', ve_3, g31, g32, g33, g34, g35, g36, rfl, h0⟩, fun μ tm H h => by obtain ⟨y_0', ve_3, g31, g32, g33, g34, g35, g36, rfl, hI⟩ := h; exact hs μ y_0' ve_3 g31 g32 g33 g34 g35 g36 H hI⟩
theorem spec_l01LogWide_n2 {g25 : Value} {g26 : Value} {g27 : Value} {g28 : Value} {g29 : Value} {g30 : Value} {r4 : Bool} {y : Nat} {Q : Post} {Inv : Nat → Nat → Int → AHeap → Prop} {μ : Nat} (μ' : Nat) {y_0' : Nat} {ve_3 : Int} {g31 g32 g33 g34 g35 g36 : Value} {H : AHeap} (hm : μ' < μ) (hI : Inv μ' y_0' ve_3 H) : loopQ (spec_l01LogWide_I2 g25 g26 g27 g28 g29 g30 r4 y Inv) μ Q .normal [.float .f64 y_0', undef, .float .f64 0, .int .i64 ve_3, undef, undef, undef, undef, .bool (flt .f64 y 0), .float .f64 y, .float .f64 y, .bool (!(feq .f64 y y)), .bool false, .float .f64 y, .bool (flt .f64 y 0), .bool (flt .f64 y 0), undef, .bool (feq .f64 y 0), .float .f64 y, .bool (feq .f64 y 0), undef, .bool r4, .float .f64 y, .bool r4, undef, g25, g26, g27, g28, g29, g30, g31, g32, g33, g34, g35, g36, undef, undef, undef, undef, undef, undef, undef, undef, undef, undef, undef, undef, undef, undef, undef, undef, undef, undef, undef, undef, undef, undef, undef, undef, undef, undef, undef] H := ⟨μ', hm, y_0', ve_3, g31, g32, g33, g34, g35, g36, rfl, hI⟩
theorem spec_l01LogWide_x2_3 (g25 : Value) (g26 : Value) (g27 : Value) (g28 : Value) (g29 : Value) (g30 : Value) (r4 : Bool) (y : Nat) (y_0' : Nat) (ve_3 : Int) (g31 g32 g33 g34 g35 g36 : Value) (H : AHeap) (K : Value → AHeap → Prop)  {I : Nat → List Value → AHeap → Prop} {μ : Nat} : loopQ I μ (blockQ 3 (seqQ (exK Try.prog E_spec_l01LogWide (cr (cr (cr (cr (cr (bodyC Try.f121))))))) (retK Try.prog Try.f121 K))) (.exit 3) [.float .f64 y_0', undef, .float .f64 0, .int .i64 ve_3, undef, undef, undef, undef, .bool (flt .f64 y 0), .float .f64 y, .float .f64 y, .bool (!(feq .f64 y y)), .bool false, .float .f64 y, .bool (flt .f64 y 0), .bool (flt .f64 y 0), undef, .bool (feq .f64 y 0), .float .f64 y, .bool (feq .f64 y 0), undef, .bool r4, .float .f64 y, .bool r4, undef, g25, g26, g27, g28, g29, g30, g31, g32, g33, g34, g35, g36, undef, undef, undef, undef, undef, undef, undef, undef, undef, undef, undef, undef, undef, undef, undef, undef, undef, undef, undef, undef, undef, undef, undef, undef, undef, undef, undef] H =
  (loopK (exK Try.prog E_spec_l01LogWide (cl (cl (cr (cl (cr (cr (cr (cr (cr (cr (cr (cr (bodyC Try.f121)))))))))))))) [.float .f64 y_0', undef, .float .f64 0, .int .i64 ve_3, .float .f64 (fdiv .f64 (fsub .f64 y_0' 4607182418800017408) (fadd .f64 y_0' 4607182418800017408)), .float .f64 (fmul .f64 (fdiv .f64 (fsub .f64 y_0' 4607182418800017408) (fadd .f64 y_0' 4607182418800017408)) (fdiv .f64 (fsub .f64 y_0' 4607182418800017408) (fadd .f64 y_0' 4607182418800017408))), .float .f64 0, .int .i64 25, .bool (flt .f64 y 0), .float .f64 y, .float .f64 y, .bool (!(feq .f64 y y)), .bool false, .float .f64 y, .bool (flt .f64 y 0), .bool (flt .f64 y 0), undef, .bool (feq .f64 y 0), .float .f64 y, .bool (feq .f64 y 0), undef, .bool r4, .float .f64 y, .bool r4, undef, g25, g26, g27, g28, g29, g30, g31, g32, g33, g34, g35, g36, .float .f64 y_0', .float .f64 (fsub .f64 y_0' 4607182418800017408), .float .f64 y_0', .float .f64 (fadd .f64 y_0' 4607182418800017408), .float .f64 (fdiv .f64 (fsub .f64 y_0' 4607182418800017408) (fadd .f64 y_0' 4607182418800017408)), .float .f64 (fdiv .f64 (fsub .f64 y_0' 4607182418800017408) (fadd .f64 y_0' 4607182418800017408)), .float .f64 (fdiv .f64 (fsub .f64 y_0' 4607182418800017408) (fadd .f64 y_0' 4607182418800017408)), .float .f64 (fmul .f64 (fdiv .f64 (fsub .f64 y_0' 4607182418800017408) (fadd .f64 y_0' 4607182418800017408)) (fdiv .f64 (fsub .f64 y_0' 4607182418800017408) (fadd .f64 y_0' 4607182418800017408))), undef, undef, undef, undef, undef, undef, undef, undef, undef, undef, undef, undef, undef, undef, undef, undef, undef, undef, undef] H (blockQ 5 (seqQ (exK Try.prog E_spec_l01LogWide (cr (cr (cr (cr (cr (cr (cr (cr (cr (bodyC Try.f121))))))))))) (retK Try.prog Try.f121 K)))) := by kernel_rfl
theorem spec_l01LogWide_r3 (g25 : Value) (g26 : Value) (g27 : Value) (g28 : Value) (g29 : Value) (g30 : Value) (g31 : Value) (g32 : Value) (g33 : Value) (g34 : Value) (g35 : Value) (g36 : Value) (r4 : Bool) (ve_3 : Int) (y : Nat) (y_0' : Nat) (q : Nat) (k : Int) (g45 g46 g47 g48 g49 g50 g51 g52 g53 g54 g55 : Value) (H : AHeap) (R : Post) : exK Try.prog E_spec_l01LogWide (cl (cl (cr (cl (cr (cr (cr (cr (cr (cr (cr (cr (bodyC Try.f121))))))))))))) [.float .f64 y_0', undef, .float .f64 0, .int .i64 ve_3, .float .f64 (fdiv .f64 (fsub .f64 y_0' 4607182418800017408) (fadd .f64 y_0' 4607182418800017408)), .float .f64 (fmul .f64 (fdiv .f64 (fsub .f64 y_0' 4607182418800017408) (fadd .f64 y_0' 4607182418800017408)) (fdiv .f64 (fsub .f64 y_0' 4607182418800017408) (fadd .f64 y_0' 4607182418800017408))), .float .f64 q, .int .i64 k, .bool (flt .f64 y 0), .float .f64 y, .float .f64 y, .bool (!(feq .f64 y y)), .bool false, .float .f64 y, .bool (flt .f64 y 0), .bool (flt .f64 y 0), undef, .bool (feq .f64 y 0), .float .f64 y, .bool (feq .f64 y 0), undef, .bool r4, .float .f64 y, .bool r4, undef, g25, g26, g27, g28, g29, g30, g31, g32, g33, g34, g35, g36, .float .f64 y_0', .float .f64 (fsub .f64 y_0' 4607182418800017408), .float .f64 y_0', .float .f64 (fadd .f64 y_0' 4607182418800017408), .float .f64 (fdiv .f64 (fsub .f64 y_0' 4607182418800017408) (fadd .f64 y_0' 4607182418800017408)), .float .f64 (fdiv .f64 (fsub .f64 y_0' 4607182418800017408) (fadd .f64 y_0' 4607182418800017408)), .float .f64 (fdiv .f64 (fsub .f64 y_0' 4607182418800017408) (fadd .f64 y_0' 4607182418800017408)), .float .f64 (fmul .f64 (fdiv .f64 (fsub .f64 y_0' 4607182418800017408) (fadd .f64 y_0' 4607182418800017408)) (fdiv .f64 (fsub .f64 y_0' 4607182418800017408) (fadd .f64 y_0' 4607182418800017408))), g45, g46, g47, g48, g49, g50, g51, g52, g53, g54, g55, undef, undef, undef, undef, undef, undef, undef, undef] H R =
  (Br (decide ((1 : Int) ≤ k)) (R .normal [.float .f64 y_0', undef, .float .f64 0, .int .i64 ve_3, .float .f64 (fdiv .f64 (fsub .f64 y_0' 4607182418800017408) (fadd .f64 y_0' 4607182418800017408)), .float .f64 (fmul .f64 (fdiv .f64 (fsub .f64 y_0' 4607182418800017408) (fadd .f64 y_0' 4607182418800017408)) (fdiv .f64 (fsub .f64 y_0' 4607182418800017408) (fadd .f64 y_0' 4607182418800017408))), .float .f64 (fadd .f64 (fdiv .f64 4607182418800017408 (FloatKind.nearest .f64 k)) (fmul .f64 (fmul .f64 (fdiv .f64 (fsub .f64 y_0' 4607182418800017408) (fadd .f64 y_0' 4607182418800017408)) (fdiv .f64 (fsub .f64 y_0' 4607182418800017408) (fadd .f64 y_0' 4607182418800017408))) q)), .int .i64 (IntKind.wrap .i64 (k - 2)), .bool (flt .f64 y 0), .float .f64 y, .float .f64 y, .bool (!(feq .f64 y y)), .bool false, .float .f64 y, .bool (flt .f64 y 0), .bool (flt .f64 y 0), undef, .bool (feq .f64 y 0), .float .f64 y, .bool (feq .f64 y 0), undef, .bool r4, .float .f64 y, .bool r4, undef, g25, g26, g27, g28, g29, g30, g31, g32, g33, g34, g35, g36, .float .f64 y_0', .float .f64 (fsub .f64 y_0' 4607182418800017408), .float .f64 y_0', .float .f64 (fadd .f64 y_0' 4607182418800017408), .float .f64 (fdiv .f64 (fsub .f64 y_0' 4607182418800017408) (fadd .f64 y_0' 4607182418800017408)), .float .f64 (fdiv .f64 (fsub .f64 y_0' 4607182418800017408) (fadd .f64 y_0' 4607182418800017408)), .float .f64 (fdiv .f64 (fsub .f64 y_0' 4607182418800017408) (fadd .f64 y_0' 4607182418800017408)), .float .f64 (fmul .f64 (fdiv .f64 (fsub .f64 y_0' 4607182418800017408) (fadd .f64 y_0' 4607182418800017408)) (fdiv .f64 (fsub .f64 y_0' 4607182418800017408) (fadd .f64 y_0' 4607182418800017408))), .int .i64 k, .bool (decide ((1 : Int) ≤ k)), .int .i64 k, .int .i64 (IntKind.wrap .i64 (k - 2)), .int .i64 k, .float .f64 (FloatKind.nearest .f64 k), .float .f64 (fdiv .f64 4607182418800017408 (FloatKind.nearest .f64 k)), .float .f64 (fmul .f64 (fdiv .f64 (fsub .f64 y_0' 4607182418800017408) (fadd .f64 y_0' 4607182418800017408)) (fdiv .f64 (fsub .f64 y_0' 4607182418800017408) (fadd .f64 y_0' 4607182418800017408))), .float .f64 q, .float .f64 (fmul .f64 (fmul .f64 (fdiv .f64 (fsub .f64 y_0' 4607182418800017408) (fadd .f64 y_0' 4607182418800017408)) (fdiv .f64 (fsub .f64 y_0' 4607182418800017408) (fadd .f64 y_0' 4607182418800017408))) q), .float .f64 (fadd .f64 (fdiv .f64 4607182418800017408 (FloatKind.nearest .f64 k)) (fmul .f64 (fmul .f64 (fdiv .f64 (fsub .f64 y_0' 4607182418800017408) (fadd .f64 y_0' 4607182418800017408)) (fdiv .f64 (fsub .f64 y_0' 4607182418800017408) (fadd .f64 y_0' 4607182418800017408))) q)), undef, undef, undef, undef, undef, undef, undef, undef] H) (R (.exit 5) [.float .f64 y_0', undef, .float .f64 0, .int .i64 ve_3, .float .f64 (fdiv .f64 (fsub .f64 y_0' 4607182418800017408) (fadd .f64 y_0' 4607182418800017408)), .float .f64 (fmul .f64 (fdiv .f64 (fsub .f64 y_0' 4607182418800017408) (fadd .f64 y_0' 4607182418800017408)) (fdiv .f64 (fsub .f64 y_0' 4607182418800017408) (fadd .f64 y_0' 4607182418800017408))), .float .f64 q, .int .i64 k, .bool (flt .f64 y 0), .float .f64 y, .float .f64 y, .bool (!(feq .f64 y y)), .bool false, .float .f64 y, .bool (flt .f64 y 0), .bool (flt .f64 y 0), undef, .bool (feq .f64 y 0), .float .f64 y, .bool (feq .f64 y 0), undef, .bool r4, .float .f64 y, .bool r4, undef, g25, g26, g27, g28, g29, g30, g31, g32, g33, g34, g35, g36, .float .f64 y_0', .float .f64 (fsub .f64 y_0' 4607182418800017408), .float .f64 y_0', .float .f64 (fadd .f64 y_0' 4607182418800017408), .float .f64 (fdiv .f64 (fsub .f64 y_0' 4607182418800017408) (fadd .f64 y_0' 4607182418800017408)), .float .f64 (fdiv .f64 (fsub .f64 y_0' 4607182418800017408) (fadd .f64 y_0' 4607182418800017408)), .float .f64 (fdiv .f64 (fsub .f64 y_0' 4607182418800017408) (fadd .f64 y_0' 4607182418800017408)), .float .f64 (fmul .f64 (fdiv .f64 (fsub .f64 y_0' 4607182418800017408) (fadd .f64 y_0' 4607182418800017408)) (fdiv .f64 (fsub .f64 y_0' 4607182418800017408) (fadd .f64 y_0' 4607182418800017408))), .int .i64 k, .bool (decide ((1 : Int) ≤ k)), g47, g48, g49, g50, g51, g52, g53, g54, g55, undef, undef, undef, undef, undef, undef, undef, undef] H)) := by kernel_rfl
def spec_l01LogWide_I3 (g25 : Value) (g26 : Value) (g27 : Value) (g28 : Value) (g29 : Value) (g30 : Value) (g31 : Value) (g32 : Value) (g33 : Value) (g34 : Value) (g35 : Value) (g36 : Value) (r4 : Bool) (ve_3 : Int) (y : Nat) (y_0' : Nat) (Inv : Nat → Nat → Int → AHeap → Prop) : Nat → List Value → AHeap → Prop := fun μ tm H => ∃ (q : Nat), ∃ (k : Int), ∃ g45 g46 g47 g48 g49 g50 g51 g52 g53 g54 g55, tm = [.float .f64 y_0', undef, .float .f64 0, .int .i64 ve_3, .float .f64 (fdiv .f64 (fsub .f64 y_0' 4607182418800017408) (fadd .f64 y_0' 4607182418800017408)), .float .f64 (fmul .f64 (fdiv .f64 (fsub .f64 y_0' 4607182418800017408) (fadd .f64 y_0' 4607182418800017408)) (fdiv .f64 (fsub .f64 y_0' 4607182418800017408) (fadd .f64 y_0' 4607182418800017408))), .float .f64 q, .int .i64 k, .bool (flt .f64 y 0), .float .f64 y, .float .f64 y, .bool (!(feq .f64 y y)), .bool false, .float .f64 y, .bool (flt .f64 y 0), .bool (flt .f64 y 0), undef, .bool (feq .f64 y 0), .float .f64 y, .bool (feq .f64 y 0), undef, .bool r4, .float .f64 y, .bool r4, undef, g25, g26, g27, g28, g29, g30, g31, g32, g33, g34, g35, g36, .float .f64 y_0', .float .f64 (fsub .f64 y_0' 4607182418800017408), .float .f64 y_0', .float .f64 (fadd .f64 y_0' 4607182418800017408), .float .f64 (fdiv .f64 (fsub .f64 y_0' 4607182418800017408) (fadd .f64 y_0' 4607182418800017408)), .float .f64 (fdiv .f64 (fsub .f64 y_0' 4607182418800017408) (fadd .f64 y_0' 4607182418800017408)), .float .f64 (fdiv .f64 (fsub .f64 y_0' 4607182418800017408) (fadd .f64 y_0' 4607182418800017408)), .float .f64 (fmul .f64 (fdiv .f64 (fsub .f64 y_0' 4607182418800017408) (fadd .f64 y_0' 4607182418800017408)) (fdiv .f64 (fsub .f64 y_0' 4607182418800017408) (fadd .f64 y_0' 4607182418800017408))), g45, g46, g47, g48, g49, g50, g51, g52, g53, g54, g55, undef, undef, undef, undef, undef, undef, undef, undef] ∧ Inv μ q k H
theorem spec_l01LogWide_L3 (g25 : Value) (g26 : Value) (g27 : Value) (g28 : Value) (g29 : Value) (g30 : Value) (g31 : Value) (g32 : Value) (g33 : Value) (g34 : Value) (g35 : Value) (g36 : Value) (r4 : Bool) (ve_3 : Int) (y : Nat) (y_0' : Nat) {Q : Post} (Inv : Nat → Nat → Int → AHeap → Prop) (ν : Nat) (q : Nat) (k : Int) (g45 g46 g47 g48 g49 g50 g51 g52 g53 g54 g55 : Value) (H : AHeap) (h0 : Inv ν q k H)
    (hs : ∀ (μ : Nat) (q : Nat) (k : Int) (g45 g46 g47 g48 g49 g50 g51 g52 g53 g54 g55 : Value) (H : AHeap), Inv μ q k H → exK Try.prog E_spec_l01LogWide (cl (cl (cr (cl (cr (cr (cr (cr (cr (cr (cr (cr (bodyC Try.f121))))))))))))) [.float .f64 y_0', undef, .float .f64 0, .int .i64 ve_3, .float .f64 (fdiv .f64 (fsub .f64 y_0' 4607182418800017408) (fadd .f64 y_0' 4607182418800017408)), .float .f64 (fmul .f64 (fdiv .f64 (fsub .f64 y_0' 4607182418800017408) (fadd .f64 y_0' 4607182418800017408)) (fdiv .f64 (fsub .f64 y_0' 4607182418800017408) (fadd .f64 y_0' 4607182418800017408))), .float .f64 q, .int .i64 k, .bool (flt .f64 y 0), .float .f64 y, .float .f64 y, .bool (!(feq .f64 y y)), .bool false, .float .f64 y, .bool (flt .f64 y 0), .bool (flt .f64 y 0), undef, .bool (feq .f64 y 0), .float .f64 y, .bool (feq .f64 y 0), undef, .bool r4, .float .f64 y, .bool r4, undef, g25, g26, g27, g28, g29, g30, g31, g32, g33, g34, g35, g36, .float .f64 y_0', .float .f64 (fsub .f64 y_0' 4607182418800017408), .float .f64 y_0', .float .f64 (fadd .f64 y_0' 4607182418800017408), .float .f64 (fdiv .f64 (fsub .f64 y_0' 4607182418800017408) (fadd .f64 y_0' 4607182418800017408)), .float .f64 (fdiv .f64 (fsub .f64 y_0' 4607182418800017408) (fadd .f64 y_0' 4607182418800017408)), .float .f64 (fdiv .f64 (fsub .f64 y_0' 4607182418800017408) (fadd .f64 y_0' 4607182418800017408)), .float .f64 (fmul .f64 (fdiv .f64 (fsub .f64 y_0' 4607182418800017408) (fadd .f64 y_0' 4607182418800017408)) (fdiv .f64 (fsub .f64 y_0' 4607182418800017408) (fadd .f64 y_0' 4607182418800017408))), g45, g46, g47, g48, g49, g50, g51, g52, g53, g54, g55, undef, undef, undef, undef, undef, undef, undef, undef] H (loopQ (spec_l01LogWide_I3 g25 g26 g27 g28 g29 g30 g31 g32 g33 g34 g35 g36 r4 ve_3 y y_0' Inv) μ Q)) : loopK (exK Try.prog E_spec_l01LogWide (cl (cl (cr (cl (cr (cr (cr (cr (cr (cr (cr (cr (bodyC Try.f121)))))))))))))) [.float .f64 y_0', undef, .float .f64 0, .int .i64 ve_3, .float .f64 (fdiv .f64 (fsub .f64 y_0' 4607182418800017408) (fadd .f64 y_0' 4607182418800017408)), .float .f64 (fmul .f64 (fdiv .f64 (fsub .f64 y_0' 4607182418800017408) (fadd .f64 y_0' 4607182418800017408)) (fdiv .f64 (fsub .f64 y_0' 4607182418800017408) (fadd .f64 y_0' 4607182418800017408))), .float .f64 q, .int .i64 k, .bool (flt .f64 y 0), .float .f64 y, .float .f64 y, .bool (!(feq .f64 y y)), .bool false, .float .f64 y, .bool (flt .f64 y 0), .bool (flt .f64 y 0), undef, .bool (feq .f64 y 0), .float .f64 y, .bool (feq .f64 y 0), undef, .bool r4, .float .f64 y, .bool r4, undef, g25, g26, g27, g28, g29, g30, g31, g32, g33, g34, g35, g36, .float .f64 y_0', .float .f64 (fsub .f64 y_0' 4607182418800017408), .float .f64 y_0', .float .f64 (fadd .f64 y_0' 4607182418800017408), .float .f64 (fdiv .f64 (fsub .f64 y_0' 4607182418800017408) (fadd .f64 y_0' 4607182418800017408)), .float .f64 (fdiv .f64 (fsub .f64 y_0' 4607182418800017408) (fadd .f64 y_0' 4607182418800017408)), .float .f64 (fdiv .f64 (fsub .f64 y_0' 4607182418800017408) (fadd .f64 y_0' 4607182418800017408)), .float .f64 (fmul .f64 (fdiv .f64 (fsub .f64 y_0' 4607182418800017408) (fadd .f64 y_0' 4607182418800017408)) (fdiv .f64 (fsub .f64 y_0' 4607182418800017408) (fadd .f64 y_0' 4607182418800017408))), g45, g46, g47, g48, g49, g50, g51, g52, g53, g54, g55, undef, undef, undef, undef, undef, undef, undef, undef] H Q :=
  ⟨spec_l01LogWide_I3 g25 g26 g27 g28 g29 g30 g31 g32 g33 g34 g35 g36 r4 ve_3 y y_0' Inv, ν, ⟨q, k, g45, g46, g47, g48, g49, g50, g51, g52, g53, g54, g55, rfl, h0⟩, fun μ tm H h => by obtain ⟨q, k, g45, g46, g47, g48, g49, g50, g51, g52, g53, g54, g55, rfl, hI⟩ := h; exact hs μ q k g45 g46 g47 g48 g49 g50 g51 g52 g53 g54 g55 H hI⟩
theorem spec_l01LogWide_n3 {g25 : Value} {g26 : Value} {g27 : Value} {g28 : Value} {g29 : Value} {g30 : Value} {g31 : Value} {g32 : Value} {g33 : Value} {g34 : Value} {g35 : Value} {g36 : Value} {r4 : Bool} {ve_3 : Int} {y : Nat} {y_0' : Nat} {Q : Post} {Inv : Nat → Nat → Int → AHeap → Prop} {μ : Nat} (μ' : Nat) {q : Nat} {k : Int} {g45 g46 g47 g48 g49 g50 g51 g52 g53 g54 g55 : Value} {H : AHeap} (hm : μ' < μ) (hI : Inv μ' q k H) : loopQ (spec_l01LogWide_I3 g25 g26 g27 g28 g29 g30 g31 g32 g33 g34 g35 g36 r4 ve_3 y y_0' Inv) μ Q .normal [.float .f64 y_0', undef, .float .f64 0, .int .i64 ve_3, .float .f64 (fdiv .f64 (fsub .f64 y_0' 4607182418800017408) (fadd .f64 y_0' 4607182418800017408)), .float .f64 (fmul .f64 (fdiv .f64 (fsub .f64 y_0' 4607182418800017408) (fadd .f64 y_0' 4607182418800017408)) (fdiv .f64 (fsub .f64 y_0' 4607182418800017408) (fadd .f64 y_0' 4607182418800017408))), .float .f64 q, .int .i64 k, .bool (flt .f64 y 0), .float .f64 y, .float .f64 y, .bool (!(feq .f64 y y)), .bool false, .float .f64 y, .bool (flt .f64 y 0), .bool (flt .f64 y 0), undef, .bool (feq .f64 y 0), .float .f64 y, .bool (feq .f64 y 0), undef, .bool r4, .float .f64 y, .bool r4, undef, g25, g26, g27, g28, g29, g30, g31, g32, g33, g34, g35, g36, .float .f64 y_0', .float .f64 (fsub .f64 y_0' 4607182418800017408), .float .f64 y_0', .float .f64 (fadd .f64 y_0' 4607182418800017408), .float .f64 (fdiv .f64 (fsub .f64 y_0' 4607182418800017408) (fadd .f64 y_0' 4607182418800017408)), .float .f64 (fdiv .f64 (fsub .f64 y_0' 4607182418800017408) (fadd .f64 y_0' 4607182418800017408)), .float .f64 (fdiv .f64 (fsub .f64 y_0' 4607182418800017408) (fadd .f64 y_0' 4607182418800017408)), .float .f64 (fmul .f64 (fdiv .f64 (fsub .f64 y_0' 4607182418800017408) (fadd .f64 y_0' 4607182418800017408)) (fdiv .f64 (fsub .f64 y_0' 4607182418800017408) (fadd .f64 y_0' 4607182418800017408))), g45, g46, g47, g48, g49, g50, g51, g52, g53, g54, g55, undef, undef, undef, undef, undef, undef, undef, undef] H := ⟨μ', hm, q, k, g45, g46, g47, g48, g49, g50, g51, g52, g53, g54, g55, rfl, hI⟩
theorem spec_l01LogWide_x3_5 (g25 : Value) (g26 : Value) (g27 : Value) (g28 : Value) (g29 : Value) (g30 : Value) (g31 : Value) (g32 : Value) (g33 : Value) (g34 : Value) (g35 : Value) (g36 : Value) (r4 : Bool) (ve_3 : Int) (y : Nat) (y_0' : Nat) (q : Nat) (k : Int) (g45 g46 g47 g48 g49 g50 g51 g52 g53 g54 g55 : Value) (H : AHeap) (K : Value → AHeap → Prop)  {I : Nat → List Value → AHeap → Prop} {μ : Nat} : loopQ I μ (blockQ 5 (seqQ (exK Try.prog E_spec_l01LogWide (cr (cr (cr (cr (cr (cr (cr (cr (cr (bodyC Try.f121))))))))))) (retK Try.prog Try.f121 K))) (.exit 5) [.float .f64 y_0', undef, .float .f64 0, .int .i64 ve_3, .float .f64 (fdiv .f64 (fsub .f64 y_0' 4607182418800017408) (fadd .f64 y_0' 4607182418800017408)), .float .f64 (fmul .f64 (fdiv .f64 (fsub .f64 y_0' 4607182418800017408) (fadd .f64 y_0' 4607182418800017408)) (fdiv .f64 (fsub .f64 y_0' 4607182418800017408) (fadd .f64 y_0' 4607182418800017408))), .float .f64 q, .int .i64 k, .bool (flt .f64 y 0), .float .f64 y, .float .f64 y, .bool (!(feq .f64 y y)), .bool false, .float .f64 y, .bool (flt .f64 y 0), .bool (flt .f64 y 0), undef, .bool (feq .f64 y 0), .float .f64 y, .bool (feq .f64 y 0), undef, .bool r4, .float .f64 y, .bool r4, undef, g25, g26, g27, g28, g29, g30, g31, g32, g33, g34, g35, g36, .float .f64 y_0', .float .f64 (fsub .f64 y_0' 4607182418800017408), .float .f64 y_0', .float .f64 (fadd .f64 y_0' 4607182418800017408), .float .f64 (fdiv .f64 (fsub .f64 y_0' 4607182418800017408) (fadd .f64 y_0' 4607182418800017408)), .float .f64 (fdiv .f64 (fsub .f64 y_0' 4607182418800017408) (fadd .f64 y_0' 4607182418800017408)), .float .f64 (fdiv .f64 (fsub .f64 y_0' 4607182418800017408) (fadd .f64 y_0' 4607182418800017408)), .float .f64 (fmul .f64 (fdiv .f64 (fsub .f64 y_0' 4607182418800017408) (fadd .f64 y_0' 4607182418800017408)) (fdiv .f64 (fsub .f64 y_0' 4607182418800017408) (fadd .f64 y_0' 4607182418800017408))), g45, g46, g47, g48, g49, g50, g51, g52, g53, g54, g55, undef, undef, undef, undef, undef, undef, undef, undef] H =
  (K (.float .f64 (fadd .f64 (fmul .f64 4611686018427387904 (fmul .f64 (fdiv .f64 (fsub .f64 y_0' 4607182418800017408) (fadd .f64 y_0' 4607182418800017408)) q)) (fmul .f64 (FloatKind.nearest .f64 ve_3) 4604418534313441775))) H) := by kernel_rfl
theorem E_spec_l01LogWide_ok : ∀ g, FnOk Try.prog g (E_spec_l01LogWide g) := FnOk.envOf (by
  intro x hx
  simp only [List.mem_cons, List.not_mem_nil, or_false] at hx
  rcases hx with rfl | rfl | rfl
  · exact math_NaN_ok
  · exact math_Inf_ok
  · exact math_IsInf_ok)
set_option maxHeartbeats 1000000 in
theorem spec_l01LogWide_main (y : Nat) (H : AHeap) (K : Value → AHeap → Prop) (h : T_spec_l01LogWide y H fun (r1 : Nat) (H' : AHeap) => K (.float .f64 r1) H') : bodyK Try.prog E_spec_l01LogWide Try.f121 [.float .f64 y] H K := by
  rw [spec_l01LogWide_vc]
  obtain ⟨pr0, hk⟩ := h
  have e : (p_spec_l01LogWide y) = _ := rfl
  have e := e.trans (p_spec_l01LogWide_eq y)
  have g0 := Grow.refl H
  refine Br.intro (fun c_1 => ?_) (fun c_1 => ?_)
  · have e := e.trans (cond_t c_1)
    have c_1n := nf_of_t c_1
    refine T_math_NaN_i ?_
    rw [e] at hk
    exact hk
  · have e := e.trans (cond_f c_1)
    have c_1n := nt_of_f c_1
    refine Br.intro (fun c_2 => ?_) (fun c_2 => ?_)
    · have e := e.trans (cond_t c_2)
      refine T_math_NaN_i ?_
      rw [e] at hk
      exact hk
    · have e := e.trans (cond_f c_2)
      refine Br.intro (fun c_3 => ?_) (fun c_3 => ?_)
      · have e := e.trans (cond_t c_3)
        refine T_math_Inf_i ?_
        rw [e] at hk
        exact hk
      · have e := e.trans (cond_f c_3)
        refine T_math_IsInf_i ?_
        refine Br.intro (fun c_4 => ?_) (fun c_4 => ?_)
        · have e := e.trans (cond_t c_4)
          rw [e] at hk
          exact hk
        · have e := e.trans (cond_f c_4)
          have c_4' := math_IsInf_f c_4
          refine spec_l01LogWide_L1 _ _ (fun (μ : Nat) (y_0 : Nat) (ve : Int) (H_1 : AHeap) => H = H_1 ∧ 4503599627370496 ≤ y_0 ∧ y_0 < 9218868437227405312 ∧ (y_0 : Int) ≤ (μ : Int) ∧ p_spec_l01LogWide y = p_spec_l01LogWide_l1 y (μ + 1) y_0 ve) (Int.toNat ((y : Int))) _ _ _ _ _ _ _ _ H ?_ ?_
          · exact ⟨rfl, (by first | omega | (simp; done) | (simp; omega) | (first | (have := nrm_use (by assumption) (by assumption) (by assumption) (by assumption) ((by assumption : (1 : Int) = 1 → _) rfl); omega) | (have := half_step (by assumption) (by assumption) (by assumption); omega))), (by first | omega | (simp; done) | (simp; omega) | (first | (have := nrm_use (by assumption) (by assumption) (by assumption) (by assumption) ((by assumption : (1 : Int) = 1 → _) rfl); omega) | (have := half_step (by assumption) (by assumption) (by assumption); omega))), (by omega), e⟩
          · intro μ y_0 ve g25 g26 g27 g28 g29 g30 H_1 hI
            obtain ⟨rfl, v_5, v_6, hμ, e⟩ := hI
            rw [spec_l01LogWide_r1]
            have e := e.trans (p_spec_l01LogWide_l1_s y μ y_0 ve)
            have l_7 := g0.1
            refine Br.intro (fun c_8 => ?_) (fun c_8 => ?_)
            · have e := e.trans (cond_t c_8)
              refine spec_l01LogWide_n1 (μ - 1) (by first | omega | (have := half_step (by assumption) (by assumption) (by assumption); omega)) ⟨rfl, (by first | omega | (first | (have := nrm_use (by assumption) (by assumption) (by assumption) (by assumption) ((by assumption : (1 : Int) = 1 → _) rfl); omega) | (have := half_step (by assumption) (by assumption) (by assumption); omega)) | (simp only [List.length_append, List.length_cons, List.length_nil, List.length_set]; done) | (simp only [List.length_append, List.length_cons, List.length_nil, List.length_set]; omega)), (by first | omega | (first | (have := nrm_use (by assumption) (by assumption) (by assumption) (by assumption) ((by assumption : (1 : Int) = 1 → _) rfl); omega) | (have := half_step (by assumption) (by assumption) (by assumption); omega)) | (simp only [List.length_append, List.length_cons, List.length_nil, List.length_set]; done) | (simp only [List.length_append, List.length_cons, List.length_nil, List.length_set]; omega)), (by first | omega | (have := half_step (by assumption) (by assumption) (by assumption); omega)), (by rw [show μ - 1 + 1 = μ from by first | omega | (have := half_step (by assumption) (by assumption) (by assumption); omega)]; exact e)⟩
            · have e := e.trans (cond_f c_8)
              rw [spec_l01LogWide_x1_1]
              refine spec_l01LogWide_L2 _ _ _ _ _ _ _ _ (fun (μ2 : Nat) (y_0' : Nat) (ve_3 : Int) (H_2 : AHeap) => H = H_2 ∧ 4503599627370496 ≤ y_0' ∧ y_0' < 9218868437227405312 ∧ (4604930618986332160 : Int) - y_0' ≤ (μ2 : Int) ∧ p_spec_l01LogWide y = p_spec_l01LogWide_l2 y y_0 ve (fun (y_0' : Nat) (ve_3 : Int) => (p_spec_l01LogWide_l3 y y_0 ve y_0' ve_3 (fun (q : Nat) (k : Int) => fadd .f64 (fmul .f64 4611686018427387904 (fmul .f64 (fdiv .f64 (fsub .f64 y_0' 4607182418800017408) (fadd .f64 y_0' 4607182418800017408)) q)) (fmul .f64 (FloatKind.nearest .f64 ve_3) 4604418534313441775)) (Int.toNat ((25 : Int) + 1) + 1) 0 (25 : Int))) (μ2 + 1) y_0' ve_3) (Int.toNat ((4604930618986332160 : Int) - y_0)) _ _ _ _ _ _ _ _ H ?_ ?_
              · exact ⟨rfl, (by first | omega | (simp; done) | (simp; omega) | (have := twice_step (by assumption) (by assumption) (by assumption); omega)), (by first | omega | (simp; done) | (simp; omega) | (have := twice_step (by assumption) (by assumption) (by assumption); omega)), (by omega), e⟩
              · intro μ2 y_0' ve_3 g31 g32 g33 g34 g35 g36 H_2 hI
                obtain ⟨rfl, v_9, v_10, hμ, e⟩ := hI
                rw [spec_l01LogWide_r2]
                have e := e.trans (p_spec_l01LogWide_l2_s y y_0 ve (fun (y_0' : Nat) (ve_3 : Int) => (p_spec_l01LogWide_l3 y y_0 ve y_0' ve_3 (fun (q : Nat) (k : Int) => fadd .f64 (fmul .f64 4611686018427387904 (fmul .f64 (fdiv .f64 (fsub .f64 y_0' 4607182418800017408) (fadd .f64 y_0' 4607182418800017408)) q)) (fmul .f64 (FloatKind.nearest .f64 ve_3) 4604418534313441775)) (Int.toNat ((25 : Int) + 1) + 1) 0 (25 : Int))) μ2 y_0' ve_3)
                have l_11 := g0.1
                refine Br.intro (fun c_12 => ?_) (fun c_12 => ?_)
                · have e := e.trans (cond_t c_12)
                  refine spec_l01LogWide_n2 (μ2 - 1) (by first | omega | (have := twice_step (by assumption) (by assumption) (by assumption); omega)) ⟨rfl, (by first | omega | (have := twice_step (by assumption) (by assumption) (by assumption); omega) | (simp only [List.length_append, List.length_cons, List.length_nil, List.length_set]; done) | (simp only [List.length_append, List.length_cons, List.length_nil, List.length_set]; omega)), (by first | omega | (have := twice_step (by assumption) (by assumption) (by assumption); omega) | (simp only [List.length_append, List.length_cons, List.length_nil, List.length_set]; done) | (simp only [List.length_append, List.length_cons, List.length_nil, List.length_set]; omega)), (by first | omega | (have := twice_step (by assumption) (by assumption) (by assumption); omega)), (by rw [show μ2 - 1 + 1 = μ2 from by first | omega | (have := twice_step (by assumption) (by assumption) (by assumption); omega)]; exact e)⟩
                · have e := e.trans (cond_f c_12)
                  rw [spec_l01LogWide_x2_3]
                  refine spec_l01LogWide_L3 _ _ _ _ _ _ _ _ _ _ _ _ _ _ _ _ (fun (μ3 : Nat) (q : Nat) (k : Int) (H_3 : AHeap) => H = H_3 ∧ k ≤ 25 ∧ -1 ≤ k ∧ k + 1 ≤ (μ3 : Int) ∧ p_spec_l01LogWide y = p_spec_l01LogWide_l3 y y_0 ve y_0' ve_3 (fun (q : Nat) (k : Int) => fadd .f64 (fmul .f64 4611686018427387904 (fmul .f64 (fdiv .f64 (fsub .f64 y_0' 4607182418800017408) (fadd .f64 y_0' 4607182418800017408)) q)) (fmul .f64 (FloatKind.nearest .f64 ve_3) 4604418534313441775)) (μ3 + 1) q k) (Int.toNat ((25 : Int) + 1)) _ _ _ _ _ _ _ _ _ _ _ _ _ H ?_ ?_
                  · exact ⟨rfl, (by first | omega | (simp; done) | (simp; omega)), (by first | omega | (simp; done) | (simp; omega)), (by omega), e⟩
                  · intro μ3 q k g45 g46 g47 g48 g49 g50 g51 g52 g53 g54 g55 H_3 hI
                    obtain ⟨rfl, v_13, v_14, hμ, e⟩ := hI
                    rw [spec_l01LogWide_r3]
                    have e := e.trans (p_spec_l01LogWide_l3_s y y_0 ve y_0' ve_3 (fun (q : Nat) (k : Int) => fadd .f64 (fmul .f64 4611686018427387904 (fmul .f64 (fdiv .f64 (fsub .f64 y_0' 4607182418800017408) (fadd .f64 y_0' 4607182418800017408)) q)) (fmul .f64 (FloatKind.nearest .f64 ve_3) 4604418534313441775)) μ3 q k)
                    have l_15 := g0.1
                    refine Br.intro (fun c_16 => ?_) (fun c_16 => ?_)
                    · have e := e.trans (cond_t c_16)
                      have c_16' := of_decide_eq_true c_16
                      rw [show IntKind.wrap .i64 (k - 2) = (k - 2) from wrap64 (by omega) (by omega)]
                      refine spec_l01LogWide_n3 (μ3 - 1) (by first | omega) ⟨rfl, (by first | omega | (simp only [List.length_append, List.length_cons, List.length_nil, List.length_set]; done) | (simp only [List.length_append, List.length_cons, List.length_nil, List.length_set]; omega)), (by first | omega | (simp only [List.length_append, List.length_cons, List.length_nil, List.length_set]; done) | (simp only [List.length_append, List.length_cons, List.length_nil, List.length_set]; omega)), (by first | omega), (by rw [show μ3 - 1 + 1 = μ3 from by first | omega]; exact e)⟩
                    · have e := e.trans (cond_f c_16)
                      have c_16' := of_decide_eq_false c_16
                      rw [spec_l01LogWide_x3_5]
                      rw [e] at hk
                      exact hk
theorem spec_l01LogWide_ok : FnOk Try.prog 121 S_spec_l01LogWide := by
  refine FnOk.body mix_ok E_spec_l01LogWide_ok Try.func121 rfl (by kernel_rfl) (by kernel_rfl) ?_ ?_ ?_ ?_ ?_
  · intro args H K K' h hk
    simp only [S_spec_l01LogWide] at *
    unfold F_spec_l01LogWide at *
    split at hk
    · obtain ⟨pr0, k⟩ := hk
      exact ⟨pr0, h _ _ k⟩
    · exact hk.elim
  · intro _ args H K hk
    simp only [S_spec_l01LogWide] at *
    unfold F_spec_l01LogWide at *
    split at hk
    · obtain ⟨pr0, k⟩ := hk
      exact ⟨_, k, fun K' k' => ⟨pr0, k'⟩⟩
    · exact hk.elim
  · intro args H K hk
    simp only [S_spec_l01LogWide] at *
    unfold F_spec_l01LogWide at *
    split at hk
    · obtain ⟨pr0, k⟩ := hk
      exact ⟨_, _, k⟩
    · exact hk.elim
  · intro hq; cases hq
  · have mm := @spec_l01LogWide_main
    revert mm
    generalize bodyK Try.prog E_spec_l01LogWide Try.f121 = Q
    intro mm args H K hk
    simp only [S_spec_l01LogWide] at *
    unfold F_spec_l01LogWide at *
    split at hk
    · exact mm _ H K hk
    · exact hk.elim
def p_spec_l01Log (x : Nat) : Nat := (p_spec_l01Narrow ((p_spec_l01LogWide (fwide x))))
theorem p_spec_l01Log_eq (x : Nat) : p_spec_l01Log x = (p_spec_l01Narrow ((p_spec_l01LogWide (fwide x)))) := rfl
def T_spec_l01Log (x : Nat) (H : AHeap) (K : Nat → AHeap → Prop) : Prop := K (p_spec_l01Log x) H
theorem T_spec_l01Log_i {x : Nat} {H : AHeap} {K : Nat → AHeap → Prop} (h : K (p_spec_l01Log x) H) : T_spec_l01Log x H K := h

/-! spec_l01Log: function 81 -/
def E_spec_l01Log : Env := envOf [(121, S_spec_l01LogWide), (113, S_spec_l01Narrow)]
def F_spec_l01Log : List Value → AHeap → (Value → AHeap → Prop) → Prop
  | [.float .f32 x], H, K => T_spec_l01Log x H fun (r1 : Nat) (H' : AHeap) => K (.float .f32 r1) H'
  | _, _, _ => False
def S_spec_l01Log : FSpec := { F := F_spec_l01Log, quiet := true, tame := false }
theorem spec_l01Log_vc (x : Nat) (H : AHeap) (K : Value → AHeap → Prop) : bodyK Try.prog E_spec_l01Log Try.f81 [.float .f32 x] H K =
  (T_spec_l01LogWide (fwide x) H fun (r1 : Nat) (H1 : AHeap) => T_spec_l01Narrow r1 H1 fun (r2 : Nat) (H2 : AHeap) => K (.float .f32 r2) H2) := by kernel_rfl
theorem E_spec_l01Log_ok : ∀ g, FnOk Try.prog g (E_spec_l01Log g) := FnOk.envOf (by
  intro x hx
  simp only [List.mem_cons, List.not_mem_nil, or_false] at hx
  rcases hx with rfl | rfl
  · exact spec_l01LogWide_ok
  · exact spec_l01Narrow_ok)
set_option maxHeartbeats 1000000 in
theorem spec_l01Log_main (x : Nat) (H : AHeap) (K : Value → AHeap → Prop) (h : T_spec_l01Log x H fun (r1 : Nat) (H' : AHeap) => K (.float .f32 r1) H') : bodyK Try.prog E_spec_l01Log Try.f81 [.float .f32 x] H K := by
  rw [spec_l01Log_vc]
  have hk := h
  unfold T_spec_l01Log at hk
  have e : (p_spec_l01Log x) = _ := rfl
  have e := e.trans (p_spec_l01Log_eq x)
  have g0 := Grow.refl H
  refine T_spec_l01LogWide_i ⟨(by first | assumption | omega | (simp; omega) | (exact wide_nrm _)), ?_⟩
  refine T_spec_l01Narrow_i ⟨(by first | assumption | omega | (simp; omega) | (exact spec_log_nar _)), ?_⟩
  rw [e] at hk
  exact hk
theorem spec_l01Log_ok : FnOk Try.prog 81 S_spec_l01Log := by
  refine FnOk.body mix_ok E_spec_l01Log_ok Try.func81 rfl (by kernel_rfl) (by kernel_rfl) ?_ ?_ ?_ ?_ ?_
  · intro args H K K' h hk
    simp only [S_spec_l01Log] at *
    unfold F_spec_l01Log at *
    split at hk
    · have k := hk
      exact h _ _ k
    · exact hk.elim
  · intro _ args H K hk
    simp only [S_spec_l01Log] at *
    unfold F_spec_l01Log at *
    split at hk
    · have k := hk
      exact ⟨_, k, fun K' k' => k'⟩
    · exact hk.elim
  · intro args H K hk
    simp only [S_spec_l01Log] at *
    unfold F_spec_l01Log at *
    split at hk
    · have k := hk
      exact ⟨_, _, k⟩
    · exact hk.elim
  · intro hq; cases hq
  · have mm := @spec_l01Log_main
    revert mm
    generalize bodyK Try.prog E_spec_l01Log Try.f81 = Q
    intro mm args H K hk
    simp only [S_spec_l01Log] at *
    unfold F_spec_l01Log at *
    split at hk
    · exact mm _ H K hk
    · exact hk.elim
def p_spec_PeakRatio (a_Wide : Int) (a_High : Int) (l_a_Lights : List Nat) (b_Wide : Int) (b_High : Int) (l_b_Lights : List Nat) (peak : Nat) : Nat × Bool := (bif !((p_spec_DistanceOf a_Wide a_High l_a_Lights b_Wide b_High l_b_Lights).2) then (0, false) else (bif !(p_spec_l02Above peak) then (0, false) else (bif feq .f32 ((p_spec_DistanceOf a_Wide a_High l_a_Lights b_Wide b_High l_b_Lights).1) 0 then (0, false) else ((p_spec_l02Number (fdiv .f32 (fmul .f32 1101004800 ((p_spec_l01Log (fdiv .f32 peak ((p_spec_DistanceOf a_Wide a_High l_a_Lights b_Wide b_High l_b_Lights).1))))) 1075010958)).1, (p_spec_l02Number (fdiv .f32 (fmul .f32 1101004800 ((p_spec_l01Log (fdiv .f32 peak ((p_spec_DistanceOf a_Wide a_High l_a_Lights b_Wide b_High l_b_Lights).1))))) 1075010958)).2))))
theorem p_spec_PeakRatio_eq (a_Wide : Int) (a_High : Int) (l_a_Lights : List Nat) (b_Wide : Int) (b_High : Int) (l_b_Lights : List Nat) (peak : Nat) : p_spec_PeakRatio a_Wide a_High l_a_Lights b_Wide b_High l_b_Lights peak = (bif !((p_spec_DistanceOf a_Wide a_High l_a_Lights b_Wide b_High l_b_Lights).2) then (0, false) else (bif !(p_spec_l02Above peak) then (0, false) else (bif feq .f32 ((p_spec_DistanceOf a_Wide a_High l_a_Lights b_Wide b_High l_b_Lights).1) 0 then (0, false) else ((p_spec_l02Number (fdiv .f32 (fmul .f32 1101004800 ((p_spec_l01Log (fdiv .f32 peak ((p_spec_DistanceOf a_Wide a_High l_a_Lights b_Wide b_High l_b_Lights).1))))) 1075010958)).1, (p_spec_l02Number (fdiv .f32 (fmul .f32 1101004800 ((p_spec_l01Log (fdiv .f32 peak ((p_spec_DistanceOf a_Wide a_High l_a_Lights b_Wide b_High l_b_Lights).1))))) 1075010958)).2)))) := rfl
def T_spec_PeakRatio (a_Wide : Int) (a_High : Int) (a_Lights_a : Option Addr) (a_Lights_n : Nat) (a_Lights_e : Nat) (b_Wide : Int) (b_High : Int) (b_Lights_a : Option Addr) (b_Lights_n : Nat) (b_Lights_e : Nat) (peak : Nat) (H : AHeap) (K : Nat → Bool → AHeap → Prop) : Prop := ∃ (l_a_Lights : List Nat), ∃ (l_b_Lights : List Nat), IsL fF H a_Lights_a a_Lights_n l_a_Lights ∧ IsL fF H b_Lights_a b_Lights_n l_b_Lights ∧ l_a_Lights.length < 1073741824 ∧ l_b_Lights.length < 1073741824 ∧ ((∀ H' : AHeap, Grow H H' → K ((p_spec_PeakRatio a_Wide a_High l_a_Lights b_Wide b_High l_b_Lights peak).1) ((p_spec_PeakRatio a_Wide a_High l_a_Lights b_Wide b_High l_b_Lights peak).2) H'))
theorem T_spec_PeakRatio_i {a_Wide : Int} {a_High : Int} {a_Lights_a : Option Addr} {a_Lights_n : Nat} {a_Lights_e : Nat} {b_Wide : Int} {b_High : Int} {b_Lights_a : Option Addr} {b_Lights_n : Nat} {b_Lights_e : Nat} {peak : Nat} {H : AHeap} {K : Nat → Bool → AHeap → Prop} (h : ∃ (l_a_Lights : List Nat), ∃ (l_b_Lights : List Nat), IsL fF H a_Lights_a a_Lights_n l_a_Lights ∧ IsL fF H b_Lights_a b_Lights_n l_b_Lights ∧ l_a_Lights.length < 1073741824 ∧ l_b_Lights.length < 1073741824 ∧ ((∀ H' : AHeap, Grow H H' → K ((p_spec_PeakRatio a_Wide a_High l_a_Lights b_Wide b_High l_b_Lights peak).1) ((p_spec_PeakRatio a_Wide a_High l_a_Lights b_Wide b_High l_b_Lights peak).2) H'))) : T_spec_PeakRatio a_Wide a_High a_Lights_a a_Lights_n a_Lights_e b_Wide b_High b_Lights_a b_Lights_n b_Lights_e peak H K := h

/-! spec_PeakRatio: function 52 -/
def E_spec_PeakRatio : Env := envOf [(109, S_spec_DistanceOf), (58, S_spec_l02Above), (81, S_spec_l01Log), (60, S_spec_l02Number)]
def F_spec_PeakRatio : List Value → AHeap → (Value → AHeap → Prop) → Prop
  | [.agg ⟨[.int .i64 a_Wide, .int .i64 a_High, .slice a_Lights_a a_Lights_n a_Lights_e]⟩, .agg ⟨[.int .i64 b_Wide, .int .i64 b_High, .slice b_Lights_a b_Lights_n b_Lights_e]⟩, .float .f32 peak], H, K => T_spec_PeakRatio a_Wide a_High a_Lights_a a_Lights_n a_Lights_e b_Wide b_High b_Lights_a b_Lights_n b_Lights_e peak H fun (r1 : Nat) (r2 : Bool) (H' : AHeap) => K (.tuple #[.float .f32 r1, .bool r2]) H'
  | _, _, _ => False
def S_spec_PeakRatio : FSpec := { F := F_spec_PeakRatio, quiet := false, tame := true }
theorem spec_PeakRatio_vc (a_Wide : Int) (a_High : Int) (a_Lights_a : Option Addr) (a_Lights_n : Nat) (a_Lights_e : Nat) (b_Wide : Int) (b_High : Int) (b_Lights_a : Option Addr) (b_Lights_n : Nat) (b_Lights_e : Nat) (peak : Nat) (H : AHeap) (K : Value → AHeap → Prop) : bodyK Try.prog E_spec_PeakRatio Try.f52 [.agg #[.int .i64 a_Wide, .int .i64 a_High, .slice a_Lights_a a_Lights_n a_Lights_e], .agg #[.int .i64 b_Wide, .int .i64 b_High, .slice b_Lights_a b_Lights_n b_Lights_e], .float .f32 peak] H K =
  (Al [.int .i64 a_Wide, .int .i64 a_High, .slice a_Lights_a a_Lights_n a_Lights_e] H fun b1 H1 => Al [.int .i64 b_Wide, .int .i64 b_High, .slice b_Lights_a b_Lights_n b_Lights_e] H1 fun b2 H2 => ∃ c1 : Int, ∃ c2 : Int, ∃ c3_a : Option Addr, ∃ c3_n : Nat, ∃ c3_e : Nat,  rdN H2 b1 0 3 = some [.int .i64 c1, .int .i64 c2, .slice c3_a c3_n c3_e] ∧ ∃ c4 : Int, ∃ c5 : Int, ∃ c6_a : Option Addr, ∃ c6_n : Nat, ∃ c6_e : Nat,  rdN H2 b2 0 3 = some [.int .i64 c4, .int .i64 c5, .slice c6_a c6_n c6_e] ∧ T_spec_DistanceOf c1 c2 c3_a c3_n c3_e c4 c5 c6_a c6_n c6_e H2 fun (r1 : Nat) (r2 : Bool) (H3 : AHeap) => Br (!r2) (K (.tuple #[.float .f32 0, .bool false]) H3) (T_spec_l02Above peak H3 fun (r3 : Bool) (H4 : AHeap) => Br (!r3) (K (.tuple #[.float .f32 0, .bool false]) H4) (Br (feq .f32 r1 0) (K (.tuple #[.float .f32 0, .bool false]) H4) (T_spec_l01Log (fdiv .f32 peak r1) H4 fun (r4 : Nat) (H5 : AHeap) => T_spec_l02Number (fdiv .f32 (fmul .f32 1101004800 r4) 1075010958) H5 fun (r5 : Nat) (r6 : Bool) (H6 : AHeap) => K (.tuple #[.float .f32 r5, .bool r6]) H6)))) := by kernel_rfl
theorem E_spec_PeakRatio_ok : ∀ g, FnOk Try.prog g (E_spec_PeakRatio g) := FnOk.envOf (by
  intro x hx
  simp only [List.mem_cons, List.not_mem_nil, or_false] at hx
  rcases hx with rfl | rfl | rfl | rfl
  · exact spec_DistanceOf_ok
  · exact spec_l02Above_ok
  · exact spec_l01Log_ok
  · exact spec_l02Number_ok)
set_option maxHeartbeats 1000000 in
theorem spec_PeakRatio_main (a_Wide : Int) (a_High : Int) (a_Lights_a : Option Addr) (a_Lights_n : Nat) (a_Lights_e : Nat) (b_Wide : Int) (b_High : Int) (b_Lights_a : Option Addr) (b_Lights_n : Nat) (b_Lights_e : Nat) (peak : Nat) (H : AHeap) (K : Value → AHeap → Prop) (h : T_spec_PeakRatio a_Wide a_High a_Lights_a a_Lights_n a_Lights_e b_Wide b_High b_Lights_a b_Lights_n b_Lights_e peak H fun (r1 : Nat) (r2 : Bool) (H' : AHeap) => K (.tuple #[.float .f32 r1, .bool r2]) H') : bodyK Try.prog E_spec_PeakRatio Try.f52 [.agg #[.int .i64 a_Wide, .int .i64 a_High, .slice a_Lights_a a_Lights_n a_Lights_e], .agg #[.int .i64 b_Wide, .int .i64 b_High, .slice b_Lights_a b_Lights_n b_Lights_e], .float .f32 peak] H K := by
  rw [spec_PeakRatio_vc]
  obtain ⟨l_a_Lights, l_b_Lights, i_a_Lights, i_b_Lights, bd_34, bd_35, hk⟩ := h
  obtain rfl := i_a_Lights.eqn
  obtain rfl := i_b_Lights.eqn
  have e : (p_spec_PeakRatio a_Wide a_High l_a_Lights b_Wide b_High l_b_Lights peak) = _ := rfl
  have e := e.trans (p_spec_PeakRatio_eq a_Wide a_High l_a_Lights b_Wide b_High l_b_Lights peak)
  have g0 := Grow.refl H
  refine Al.intro (fun b_1 H_1 hb_2 hl_3 g_4 o_5 => ?_)
  have l_7 := g_4.1
  have g_8 := g0.trans g_4
  have l_9 := g_8.1
  have w_33 := o_5.lt
  refine Al.intro (fun b_10 H_2 hb_11 hl_12 g_13 o_14 => ?_)
  have l_16 := g_13.1
  have g_17 := g_8.trans g_13
  have l_18 := g_17.1
  have o_19 := o_5.grow g_13
  have w_20 := o_19.lt
  have w_32 := o_14.lt
  refine ⟨a_Wide, a_High, a_Lights_a, l_a_Lights.length, a_Lights_e, (o_19.rdN (Nat.le_of_ble_eq_true rfl)).trans rfl, ?_⟩
  refine ⟨b_Wide, b_High, b_Lights_a, l_b_Lights.length, b_Lights_e, (o_14.rdN (Nat.le_of_ble_eq_true rfl)).trans rfl, ?_⟩
  refine T_spec_DistanceOf_i ⟨_, _, (i_a_Lights.grow g_17), (i_b_Lights.grow g_17), (by first | omega | (simp only [List.length_set, List.length_replicate, List.length_append, List.length_cons, List.length_nil, List.length_take, List.length_drop, marks_length]; done) | (simp only [List.length_set, List.length_replicate, List.length_append, List.length_cons, List.length_nil, List.length_take, List.length_drop, marks_length]; omega)), (by first | omega | (simp only [List.length_set, List.length_replicate, List.length_append, List.length_cons, List.length_nil, List.length_take, List.length_drop, marks_length]; done) | (simp only [List.length_set, List.length_replicate, List.length_append, List.length_cons, List.length_nil, List.length_take, List.length_drop, marks_length]; omega)), fun  H_3 g_21  => ?_⟩
  have l_22 := g_21.1
  have g_23 := g_17.trans g_21
  have l_24 := g_23.1
  have o_25 := o_19.grow g_21
  have w_26 := o_25.lt
  have o_27 := o_14.grow g_21
  have w_28 := o_27.lt
  refine Br.intro (fun c_29 => ?_) (fun c_29 => ?_)
  · have e := e.trans (cond_t c_29)
    have c_29n := nf_of_t c_29
    rw [e] at hk
    exact hk  H_3 g_23 
  · have e := e.trans (cond_f c_29)
    have c_29n := nt_of_f c_29
    refine T_spec_l02Above_i ?_
    refine Br.intro (fun c_30 => ?_) (fun c_30 => ?_)
    · have e := e.trans (cond_t c_30)
      have c_30n := nf_of_t c_30
      rw [e] at hk
      exact hk  H_3 g_23 
    · have e := e.trans (cond_f c_30)
      have c_30n := nt_of_f c_30
      refine Br.intro (fun c_31 => ?_) (fun c_31 => ?_)
      · have e := e.trans (cond_t c_31)
        rw [e] at hk
        exact hk  H_3 g_23 
      · have e := e.trans (cond_f c_31)
        refine T_spec_l01Log_i ?_
        refine T_spec_l02Number_i ?_
        rw [e] at hk
        exact hk  H_3 g_23 
theorem spec_PeakRatio_ok : FnOk Try.prog 52 S_spec_PeakRatio := by
  refine FnOk.body mix_ok E_spec_PeakRatio_ok Try.func52 rfl (by kernel_rfl) (by kernel_rfl) ?_ ?_ ?_ ?_ ?_
  · intro args H K K' h hk
    simp only [S_spec_PeakRatio] at *
    unfold F_spec_PeakRatio at *
    split at hk
    · obtain ⟨l_a_Lights, l_b_Lights, i_a_Lights, i_b_Lights, bd_34, bd_35, k⟩ := hk
      exact ⟨l_a_Lights, l_b_Lights, i_a_Lights, i_b_Lights, bd_34, bd_35, (fun  H' gg  => h _ _ (k  H' gg ))⟩
    · exact hk.elim
  · intro hq; cases hq
  · intro args H K hk
    simp only [S_spec_PeakRatio] at *
    unfold F_spec_PeakRatio at *
    split at hk
    · obtain ⟨l_a_Lights, l_b_Lights, i_a_Lights, i_b_Lights, bd_34, bd_35, k⟩ := hk
      exact ⟨_, _, k H (Grow.refl H)⟩
    · exact hk.elim
  · intro _ args H K hk
    simp only [S_spec_PeakRatio] at *
    unfold F_spec_PeakRatio at *
    split at hk
    · obtain ⟨l_a_Lights, l_b_Lights, i_a_Lights, i_b_Lights, bd_34, bd_35, k⟩ := hk
      exact ⟨l_a_Lights, l_b_Lights, i_a_Lights, i_b_Lights, bd_34, bd_35, (fun  H' gg  => ⟨gg, k  H' gg ⟩)⟩
    · exact hk.elim
  · have mm := @spec_PeakRatio_main
    revert mm
    generalize bodyK Try.prog E_spec_PeakRatio Try.f52 = Q
    intro mm args H K hk
    simp only [S_spec_PeakRatio] at *
    unfold F_spec_PeakRatio at *
    split at hk
    · exact mm _ _ _ _ _ _ _ _ _ _ _ H K hk
    · exact hk.elim
def p_impl_within (n : Int) (low : Int) (high : Int) : Bool := (bif decide ((low : Int) ≤ n) then decide ((n : Int) ≤ high) else false)
theorem p_impl_within_eq (n : Int) (low : Int) (high : Int) : p_impl_within n low high = (bif decide ((low : Int) ≤ n) then decide ((n : Int) ≤ high) else false) := rfl
def T_impl_within (n : Int) (low : Int) (high : Int) (H : AHeap) (K : Bool → AHeap → Prop) : Prop := K (p_impl_within n low high) H
theorem impl_within_t {n a b : Int} (h : p_impl_within n a b = true) : a ≤ n ∧ n ≤ b := by
  unfold p_impl_within at h
  by_cases h1 : a ≤ n
  · rw [decide_eq_true h1, cond_true] at h; exact ⟨h1, of_decide_eq_true h⟩
  · rw [decide_eq_false h1] at h; cases h
theorem T_impl_within_i {n : Int} {low : Int} {high : Int} {H : AHeap} {K : Bool → AHeap → Prop} (h : K (p_impl_within n low high) H) : T_impl_within n low high H K := h
/-! impl_within: function 72 -/
def E_impl_within : Env := envOf []
def F_impl_within : List Value → AHeap → (Value → AHeap → Prop) → Prop
  | [.int .i64 n, .int .i64 low, .int .i64 high], H, K => T_impl_within n low high H fun (r1 : Bool) (H' : AHeap) => K (.bool r1) H'
  | _, _, _ => False
def S_impl_within : FSpec := { F := F_impl_within, quiet := true, tame := false }
theorem impl_within_vc (n : Int) (low : Int) (high : Int) (H : AHeap) (K : Value → AHeap → Prop) : bodyK Try.prog E_impl_within Try.f72 [.int .i64 n, .int .i64 low, .int .i64 high] H K =
  (Br (decide ((low : Int) ≤ n)) (K (.bool (decide ((n : Int) ≤ high))) H) (K (.bool false) H)) := by kernel_rfl
theorem E_impl_within_ok : ∀ g, FnOk Try.prog g (E_impl_within g) := FnOk.envOf (by
  intro x hx; cases hx)
set_option maxHeartbeats 1000000 in
theorem impl_within_main (n : Int) (low : Int) (high : Int) (H : AHeap) (K : Value → AHeap → Prop) (h : T_impl_within n low high H fun (r1 : Bool) (H' : AHeap) => K (.bool r1) H') : bodyK Try.prog E_impl_within Try.f72 [.int .i64 n, .int .i64 low, .int .i64 high] H K := by
  rw [impl_within_vc]
  unfold T_impl_within p_impl_within at h
  repeat' (first | exact h | (exfalso; simp_all; done) | (refine ⟨by decide, ?_⟩) | (refine Br.intro (fun hb => ?_) (fun hb => ?_) <;> (try simp only [hb, cond_true, cond_false, Bool.not_true, Bool.not_false] at h)))
theorem impl_within_ok : FnOk Try.prog 72 S_impl_within := by
  refine FnOk.body mix_ok E_impl_within_ok Try.func72 rfl (by kernel_rfl) (by kernel_rfl) ?_ ?_ ?_ ?_ ?_
  · intro args H K K' h hk
    simp only [S_impl_within] at *
    unfold F_impl_within at *
    split at hk
    · have k := hk
      exact h _ _ k
    · exact hk.elim
  · intro _ args H K hk
    simp only [S_impl_within] at *
    unfold F_impl_within at *
    split at hk
    · have k := hk
      exact ⟨_, k, fun K' k' => k'⟩
    · exact hk.elim
  · intro args H K hk
    simp only [S_impl_within] at *
    unfold F_impl_within at *
    split at hk
    · have k := hk
      exact ⟨_, _, k⟩
    · exact hk.elim
  · intro hq; cases hq
  · have mm := @impl_within_main
    revert mm
    generalize bodyK Try.prog E_impl_within Try.f72 = Q
    intro mm args H K hk
    simp only [S_impl_within] at *
    unfold F_impl_within at *
    split at hk
    · exact mm _ _ _ H K hk
    · exact hk.elim
def p_impl_IsFinite (x : Nat) : Bool := feq .f32 (fsub .f32 x x) 0
theorem p_impl_IsFinite_eq (x : Nat) : p_impl_IsFinite x = feq .f32 (fsub .f32 x x) 0 := rfl
def T_impl_IsFinite (x : Nat) (H : AHeap) (K : Bool → AHeap → Prop) : Prop := K (p_impl_IsFinite x) H

theorem T_impl_IsFinite_i {x : Nat} {H : AHeap} {K : Bool → AHeap → Prop} (h : K (p_impl_IsFinite x) H) : T_impl_IsFinite x H K := h
/-! impl_IsFinite: function 62 -/
def E_impl_IsFinite : Env := envOf []
def F_impl_IsFinite : List Value → AHeap → (Value → AHeap → Prop) → Prop
  | [.float .f32 x], H, K => T_impl_IsFinite x H fun (r1 : Bool) (H' : AHeap) => K (.bool r1) H'
  | _, _, _ => False
def S_impl_IsFinite : FSpec := { F := F_impl_IsFinite, quiet := true, tame := false }
theorem impl_IsFinite_vc (x : Nat) (H : AHeap) (K : Value → AHeap → Prop) : bodyK Try.prog E_impl_IsFinite Try.f62 [.float .f32 x] H K =
  (K (.bool (feq .f32 (fsub .f32 x x) 0)) H) := by kernel_rfl
theorem E_impl_IsFinite_ok : ∀ g, FnOk Try.prog g (E_impl_IsFinite g) := FnOk.envOf (by
  intro x hx; cases hx)
set_option maxHeartbeats 1000000 in
theorem impl_IsFinite_main (x : Nat) (H : AHeap) (K : Value → AHeap → Prop) (h : T_impl_IsFinite x H fun (r1 : Bool) (H' : AHeap) => K (.bool r1) H') : bodyK Try.prog E_impl_IsFinite Try.f62 [.float .f32 x] H K := by
  rw [impl_IsFinite_vc]
  unfold T_impl_IsFinite p_impl_IsFinite at h
  repeat' (first | exact h | (exfalso; simp_all; done) | (refine ⟨by decide, ?_⟩) | (refine Br.intro (fun hb => ?_) (fun hb => ?_) <;> (try simp only [hb, cond_true, cond_false, Bool.not_true, Bool.not_false] at h)))
theorem impl_IsFinite_ok : FnOk Try.prog 62 S_impl_IsFinite := by
  refine FnOk.body mix_ok E_impl_IsFinite_ok Try.func62 rfl (by kernel_rfl) (by kernel_rfl) ?_ ?_ ?_ ?_ ?_
  · intro args H K K' h hk
    simp only [S_impl_IsFinite] at *
    unfold F_impl_IsFinite at *
    split at hk
    · have k := hk
      exact h _ _ k
    · exact hk.elim
  · intro _ args H K hk
    simp only [S_impl_IsFinite] at *
    unfold F_impl_IsFinite at *
    split at hk
    · have k := hk
      exact ⟨_, k, fun K' k' => k'⟩
    · exact hk.elim
  · intro args H K hk
    simp only [S_impl_IsFinite] at *
    unfold F_impl_IsFinite at *
    split at hk
    · have k := hk
      exact ⟨_, _, k⟩
    · exact hk.elim
  · intro hq; cases hq
  · have mm := @impl_IsFinite_main
    revert mm
    generalize bodyK Try.prog E_impl_IsFinite Try.f62 = Q
    intro mm args H K hk
    simp only [S_impl_IsFinite] at *
    unfold F_impl_IsFinite at *
    split at hk
    · exact mm _ H K hk
    · exact hk.elim
end Go.Proofs.Ytghkkclonabpkaa.Ai
